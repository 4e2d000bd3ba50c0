/- Go functions of this seat in their own words of Lean, each tied to its code by a contract. -/
import Derived.Test.YtpapikaeaodfgaaGBase
namespace Go.Bx.sets_keys
open Go Go.Proofs Go.Bx
set_option maxRecDepth 100000
set_option linter.unusedVariables false
def Js : List Nat := [13, 14]
def C : Ctx := ⟨[(23, (.int .i64)), (26, (.sl (.arr 20 (.int .u8)))), (168, (.arr 20 (.int .u8)))], [], [], fnL [], noSh, [], noInv, [(2, [2]), (1, []), (4, [0, 15, 16, 17]), (7, [0, 15, 16, 17]), (10, [0, 4, 15, 16, 17, 24, 25, 26]), (12, [0, 15, 16, 17]), (21, [0, 4, 15, 16, 17, 24, 25, 26]), (36, [0, 15, 16, 17]), (39, [])], [], [], 0, 0⟩
def St0 (x0 : List (List Int)) : St := stL 35 [(0, .data (.sl (.arr 20 (.int .u8))) x0)] []
def St1 (x2 : Int) : St := stL 35 [(2, .data (.int .i64) x2)] []
def St2 (x0 : List (List Int)) (x15 : List (List Int)) (x16 : Int) (x17 : Int) : St := stL 35 [(0, .data (.sl (.arr 20 (.int .u8))) x0), (15, .data (.sl (.arr 20 (.int .u8))) x15), (16, .data (.int .i64) x16), (17, .data (.int .i64) x17)] []
noncomputable def cd0 : Code := cL (cL (cR (cL (cR (cR (cB Try.f56))))))
def St3 (x0 : List (List Int)) (x15 : List (List Int)) (x16 : Int) (x17 : Int) (x24 : List (List Int)) (x25 : Int) (x26 : Int) (c4 : List Int) : St := stL 35 [(0, .data (.sl (.arr 20 (.int .u8))) x0), (4, .ref 4 0 []), (15, .data (.sl (.arr 20 (.int .u8))) x15), (16, .data (.int .i64) x16), (17, .data (.int .i64) x17), (24, .data (.sl (.arr 20 (.int .u8))) x24), (25, .data (.int .i64) x25), (26, .data (.int .i64) x26)] [(4, .cell (.arr 20 (.int .u8)) (.data (.arr 20 (.int .u8)) c4) false)]
noncomputable def cd1 : Code := cL (cL (cR (cR (cL (cL (cR (cR (cL (cL (cR (cL (cR (cR (cB Try.f56))))))))))))))
def St4 (x0 : List (List Int)) (x15 : List (List Int)) (x16 : Int) (x17 : Int) : St := stL 35 [(0, .data (.sl (.arr 20 (.int .u8))) x0), (15, .data (.sl (.arr 20 (.int .u8))) x15), (16, .data (.int .i64) x16), (17, .data (.int .i64) x17)] []
def l1s {α : Type} (Nx : (List (List Int)) → (List (List Int)) → Int → Int → (List (List Int)) → Int → Int → (List Int) → Option α) (Rt : Int → Option α) (Xt2 : (List (List Int)) → (List (List Int)) → Int → Int → Option α) (x0 : List (List Int)) (x15 : List (List Int)) (x16 : Int) (x17 : Int) (x24 : List (List Int)) (x25 : Int) (x26 : Int) (c4 : List Int) : Option α :=
  if (decide (x26 < x25)) = true then
    if 0 ≤ x26 ∧ x26 < (x24.length : Int) then
      if (beqD (.arr 20 (.int .u8)) c4 (List.getD x24 (Int.toNat x26) (List.replicate 20 0))) = true then
        Rt 8
      else
        Nx x0 x15 x16 x17 x24 x25 (IntKind.i64.wrap (x26 + 1)) c4
    else none
  else
    Xt2 x0 x15 x16 x17
theorem l1s_eq {α : Type} (k : Nat) (next : St → Option α) (Q : Ex → St → Option α) (x0 : List (List Int)) (x15 : List (List Int)) (x16 : Int) (x17 : Int) (x24 : List (List Int)) (x25 : Int) (x26 : Int) (c4 : List Int) :
    rnd C k cd1 21 Q next (St3 x0 x15 x16 x17 x24 x25 x26 c4) = l1s (fun (x0 : List (List Int)) (x15 : List (List Int)) (x16 : Int) (x17 : Int) (x24 : List (List Int)) (x25 : Int) (x26 : Int) (c4 : List Int) => next (St3 x0 x15 x16 x17 x24 x25 x26 c4)) (fun (x2 : Int) => Q .ret (St1 x2)) (fun (x0 : List (List Int)) (x15 : List (List Int)) (x16 : Int) (x17 : Int) => Q (.exit 2) (St4 x0 x15 x16 x17)) x0 x15 x16 x17 x24 x25 x26 c4 := by
  have h : ∀ (D L : DT α), denJ D L Js C cd1 (lq C 21 next Q) (St3 x0 x15 x16 x17 x24 x25 x26 c4) =
        if (decide (x26 < x25)) = true then
          if 0 ≤ x26 ∧ x26 < (x24.length : Int) then
            if (beqD (.arr 20 (.int .u8)) c4 (List.getD x24 (Int.toNat x26) (List.replicate 20 0))) = true then
              Q .ret (St1 8)
            else
              next (St3 x0 x15 x16 x17 x24 x25 (IntKind.i64.wrap (x26 + 1)) c4)
          else none
        else
          Q (.exit 2) (St4 x0 x15 x16 x17) := by
    intro D L; kernel_rfl
  refine (show rnd C k cd1 21 Q next (St3 x0 x15 x16 x17 x24 x25 x26 c4) = denJ (den C k) (lp C k) Js C cd1 (lq C 21 next Q) (St3 x0 x15 x16 x17 x24 x25 x26 c4) from (denJ_den _ _ _ _ _ _).symm).trans ((h (den C k) (lp C k)).trans ?_)
  first | rfl | kernel_rfl
def l1 {α : Type} (k : Nat) (Rt : Int → Option α) (Xt2 : (List (List Int)) → (List (List Int)) → Int → Int → Option α) : Nat → (List (List Int)) → (List (List Int)) → Int → Int → (List (List Int)) → Int → Int → (List Int) → Option α
  | 0, _, _, _, _, _, _, _, _ => none
  | n + 1, x0, x15, x16, x17, x24, x25, x26, c4 => l1s (l1 k Rt Xt2 n) Rt Xt2 x0 x15 x16 x17 x24 x25 x26 c4
theorem l1_eq {α : Type} (k : Nat) (Q : Ex → St → Option α) : ∀ (n : Nat) (x0 : List (List Int)) (x15 : List (List Int)) (x16 : Int) (x17 : Int) (x24 : List (List Int)) (x25 : Int) (x26 : Int) (c4 : List Int), iter (rnd C k cd1 21 Q) n (St3 x0 x15 x16 x17 x24 x25 x26 c4) = l1 k (fun (x2 : Int) => Q .ret (St1 x2)) (fun (x0 : List (List Int)) (x15 : List (List Int)) (x16 : Int) (x17 : Int) => Q (.exit 2) (St4 x0 x15 x16 x17)) n x0 x15 x16 x17 x24 x25 x26 c4
  | 0, _, _, _, _, _, _, _, _ => rfl
  | n + 1, x0, x15, x16, x17, x24, x25, x26, c4 => (iter_succ _ _ _).trans ((l1s_eq k (iter (rnd C k cd1 21 Q) n) Q x0 x15 x16 x17 x24 x25 x26 c4).trans (congrArg (fun N => l1s N (fun (x2 : Int) => Q .ret (St1 x2)) (fun (x0 : List (List Int)) (x15 : List (List Int)) (x16 : Int) (x17 : Int) => Q (.exit 2) (St4 x0 x15 x16 x17)) x0 x15 x16 x17 x24 x25 x26 c4) (funext fun x0 => funext fun x15 => funext fun x16 => funext fun x17 => funext fun x24 => funext fun x25 => funext fun x26 => funext fun c4 => l1_eq k Q n x0 x15 x16 x17 x24 x25 x26 c4)))
theorem l1_congr {α : Type} (k : Nat) (Rt : Int → Option α) (Xt2 : (List (List Int)) → (List (List Int)) → Int → Int → Option α) (Rtq : Int → Option α) (Xt2q : (List (List Int)) → (List (List Int)) → Int → Int → Option α) (hRt : ∀ (x2 : Int), Rt x2 = Rtq x2) (hXt2 : ∀ (x0 : List (List Int)) (x15 : List (List Int)) (x16 : Int) (x17 : Int), Xt2 x0 x15 x16 x17 = Xt2q x0 x15 x16 x17) (n : Nat) (x0 : List (List Int)) (x15 : List (List Int)) (x16 : Int) (x17 : Int) (x24 : List (List Int)) (x25 : Int) (x26 : Int) (c4 : List Int) : l1 k Rt Xt2 n x0 x15 x16 x17 x24 x25 x26 c4 = l1 k Rtq Xt2q n x0 x15 x16 x17 x24 x25 x26 c4 := by
  obtain rfl : Rt = Rtq := by funext x2; exact hRt x2
  obtain rfl : Xt2 = Xt2q := by funext x0; funext x15; funext x16; funext x17; exact hXt2 x0 x15 x16 x17
  rfl
noncomputable def cd2 : Code := cR (cR (cR (cL (cL (cR (cL (cR (cR (cB Try.f56)))))))))
def St5 (x0 : List (List Int)) (x15 : List (List Int)) (x16 : Int) (x17 : Int) : St := stL 35 [(0, .data (.sl (.arr 20 (.int .u8))) x0), (15, .data (.sl (.arr 20 (.int .u8))) x15), (16, .data (.int .i64) x16), (17, .data (.int .i64) x17)] []
def j0 {α : Type} (Nx : (List (List Int)) → (List (List Int)) → Int → Int → Option α) (x0 : List (List Int)) (x15 : List (List Int)) (x16 : Int) (x17 : Int) : Option α :=
  Nx x0 x15 x16 (IntKind.i64.wrap (x17 + 1))
theorem j0_eq {α : Type} (k : Nat) (next : St → Option α) (Q : Ex → St → Option α) (x0 : List (List Int)) (x15 : List (List Int)) (x16 : Int) (x17 : Int) :
    (den C k) cd2 (lq C 12 next Q) (St5 x0 x15 x16 x17) = j0 (fun (x0 : List (List Int)) (x15 : List (List Int)) (x16 : Int) (x17 : Int) => next (St2 x0 x15 x16 x17)) x0 x15 x16 x17 := by
  have h : ∀ (D L : DT α), denJ D L Js C cd2 (lq C 12 next Q) (St5 x0 x15 x16 x17) =
        next (St2 x0 x15 x16 (IntKind.i64.wrap (x17 + 1))) := by
    intro D L; kernel_rfl
  refine (show (den C k) cd2 (lq C 12 next Q) (St5 x0 x15 x16 x17) = denJ (den C k) (lp C k) Js C cd2 (lq C 12 next Q) (St5 x0 x15 x16 x17) from (denJ_den _ _ _ _ _ _).symm).trans ((h (den C k) (lp C k)).trans ?_)
  first | rfl | kernel_rfl
theorem a0 {α : Type} (k : Nat) (next : St → Option α) (Q : Ex → St → Option α) (x0 : List (List Int)) (x15 : List (List Int)) (x16 : Int) (x17 : Int) (x24 : List (List Int)) (x25 : Int) (x26 : Int) (c4 : List Int) :
    (lp C k) cd1 (blkQ C 2 (blkQ C 1 (sq (den C k) (lp C k) Js C cd2 (lq C 12 next Q)))) (St3 x0 x15 x16 x17 x24 x25 x26 c4) = l1 k (fun (x2 : Int) => (fun (x2 : Int) => Q .ret (St1 x2)) x2) (fun (x0 : List (List Int)) (x15 : List (List Int)) (x16 : Int) (x17 : Int) => j0 (fun (x0 : List (List Int)) (x15 : List (List Int)) (x16 : Int) (x17 : Int) => next (St2 x0 x15 x16 x17)) x0 x15 x16 x17) k x0 x15 x16 x17 x24 x25 x26 c4 :=
  (show (lp C k) cd1 (blkQ C 2 (blkQ C 1 (sq (den C k) (lp C k) Js C cd2 (lq C 12 next Q)))) (St3 x0 x15 x16 x17 x24 x25 x26 c4) = iter (rnd C k cd1 21 (blkQ C 2 (blkQ C 1 (sq (den C k) (lp C k) Js C cd2 (lq C 12 next Q))))) k (St3 x0 x15 x16 x17 x24 x25 x26 c4) by kernel_rfl).trans ((l1_eq k (blkQ C 2 (blkQ C 1 (sq (den C k) (lp C k) Js C cd2 (lq C 12 next Q)))) k x0 x15 x16 x17 x24 x25 x26 c4).trans (l1_congr k _ _ _ _ (fun x2 => (show (blkQ C 2 (blkQ C 1 (sq (den C k) (lp C k) Js C cd2 (lq C 12 next Q)))) .ret (St1 x2) = Q .ret (St1 x2) by kernel_rfl)) (fun x0 x15 x16 x17 => ((show (blkQ C 2 (blkQ C 1 (sq (den C k) (lp C k) Js C cd2 (lq C 12 next Q)))) (.exit 2) (St4 x0 x15 x16 x17) = (den C k) cd2 (lq C 12 next Q) (St5 x0 x15 x16 x17) by kernel_rfl).trans (by simp only [j0_eq]))) k x0 x15 x16 x17 x24 x25 x26 c4))
def St6 : St := stL 35 [] []
def l0s {α : Type} (k : Nat) (Nx : (List (List Int)) → (List (List Int)) → Int → Int → Option α) (Rt : Int → Option α) (Xt0 : Option α) (x0 : List (List Int)) (x15 : List (List Int)) (x16 : Int) (x17 : Int) : Option α :=
  if (decide (x17 < x16)) = true then
    if 0 ≤ x17 ∧ x17 < (x15.length : Int) then
      if 0 ≤ (0 : Int) ∧ (0 : Int) ≤ x17 ∧ x17 ≤ (x0.length : Int) then
        l1 k (fun (x2 : Int) => Rt x2) (fun (x0 : List (List Int)) (x15 : List (List Int)) (x16 : Int) (x17 : Int) => j0 Nx x0 x15 x16 x17) k x0 x15 x16 x17 (cutL x0 0 x17) ((cutL x0 0 x17).length : Int) 0 (List.getD x15 (Int.toNat x17) (List.replicate 20 0))
      else none
    else none
  else
    Xt0
theorem l0s_eq {α : Type} (k : Nat) (next : St → Option α) (Q : Ex → St → Option α) (x0 : List (List Int)) (x15 : List (List Int)) (x16 : Int) (x17 : Int) :
    rnd C k cd0 12 Q next (St2 x0 x15 x16 x17) = l0s k (fun (x0 : List (List Int)) (x15 : List (List Int)) (x16 : Int) (x17 : Int) => next (St2 x0 x15 x16 x17)) (fun (x2 : Int) => Q .ret (St1 x2)) (Q (.exit 0) St6) x0 x15 x16 x17 := by
  have h : ∀ (D L : DT α), denJ D L Js C cd0 (lq C 12 next Q) (St2 x0 x15 x16 x17) =
        if (decide (x17 < x16)) = true then
          if 0 ≤ x17 ∧ x17 < (x15.length : Int) then
            if 0 ≤ (0 : Int) ∧ (0 : Int) ≤ x17 ∧ x17 ≤ (x0.length : Int) then
              L cd1 (blkQ C 2 (blkQ C 1 (sq D L Js C cd2 (lq C 12 next Q)))) (St3 x0 x15 x16 x17 (cutL x0 0 x17) ((cutL x0 0 x17).length : Int) 0 (List.getD x15 (Int.toNat x17) (List.replicate 20 0)))
            else none
          else none
        else
          Q (.exit 0) St6 := by
    intro D L; kernel_rfl
  refine (show rnd C k cd0 12 Q next (St2 x0 x15 x16 x17) = denJ (den C k) (lp C k) Js C cd0 (lq C 12 next Q) (St2 x0 x15 x16 x17) from (denJ_den _ _ _ _ _ _).symm).trans ((h (den C k) (lp C k)).trans ?_)
  simp only [a0]
  first | rfl | kernel_rfl
def l0 {α : Type} (k : Nat) (Rt : Int → Option α) (Xt0 : Option α) : Nat → (List (List Int)) → (List (List Int)) → Int → Int → Option α
  | 0, _, _, _, _ => none
  | n + 1, x0, x15, x16, x17 => l0s k (l0 k Rt Xt0 n) Rt Xt0 x0 x15 x16 x17
theorem l0_eq {α : Type} (k : Nat) (Q : Ex → St → Option α) : ∀ (n : Nat) (x0 : List (List Int)) (x15 : List (List Int)) (x16 : Int) (x17 : Int), iter (rnd C k cd0 12 Q) n (St2 x0 x15 x16 x17) = l0 k (fun (x2 : Int) => Q .ret (St1 x2)) (Q (.exit 0) St6) n x0 x15 x16 x17
  | 0, _, _, _, _ => rfl
  | n + 1, x0, x15, x16, x17 => (iter_succ _ _ _).trans ((l0s_eq k (iter (rnd C k cd0 12 Q) n) Q x0 x15 x16 x17).trans (congrArg (fun N => l0s k N (fun (x2 : Int) => Q .ret (St1 x2)) (Q (.exit 0) St6) x0 x15 x16 x17) (funext fun x0 => funext fun x15 => funext fun x16 => funext fun x17 => l0_eq k Q n x0 x15 x16 x17)))
theorem l0_congr {α : Type} (k : Nat) (Rt : Int → Option α) (Xt0 : Option α) (Rtq : Int → Option α) (Xt0q : Option α) (hRt : ∀ (x2 : Int), Rt x2 = Rtq x2) (hXt0 : Xt0 = Xt0q) (n : Nat) (x0 : List (List Int)) (x15 : List (List Int)) (x16 : Int) (x17 : Int) : l0 k Rt Xt0 n x0 x15 x16 x17 = l0 k Rtq Xt0q n x0 x15 x16 x17 := by
  obtain rfl : Rt = Rtq := by funext x2; exact hRt x2
  obtain rfl : Xt0 = Xt0q := hXt0
  rfl
noncomputable def cd3 : Code := cR (cR (cR (cB Try.f56)))
def St7 : St := stL 35 [] []
def j1 {α : Type} (Rt : Int → Option α) : Option α :=
  Rt 0
theorem j1_eq {α : Type} (k : Nat) (Q : Ex → St → Option α) :
    (den C k) cd3 Q St7 = j1 (fun (x2 : Int) => Q .ret (St1 x2)) := by
  have h : ∀ (D L : DT α), denJ D L Js C cd3 Q St7 =
        Q .ret (St1 0) := by
    intro D L; kernel_rfl
  refine (show (den C k) cd3 Q St7 = denJ (den C k) (lp C k) Js C cd3 Q St7 from (denJ_den _ _ _ _ _ _).symm).trans ((h (den C k) (lp C k)).trans ?_)
  first | rfl | kernel_rfl
theorem a1 {α : Type} (k : Nat) (Q : Ex → St → Option α) (x0 : List (List Int)) (x15 : List (List Int)) (x16 : Int) (x17 : Int) :
    (lp C k) cd0 (blkQ C 0 (sq (den C k) (lp C k) Js C cd3 Q)) (St2 x0 x15 x16 x17) = l0 k (fun (x2 : Int) => (fun (x2 : Int) => Q .ret (St1 x2)) x2) (j1 (fun (x2 : Int) => Q .ret (St1 x2))) k x0 x15 x16 x17 :=
  (show (lp C k) cd0 (blkQ C 0 (sq (den C k) (lp C k) Js C cd3 Q)) (St2 x0 x15 x16 x17) = iter (rnd C k cd0 12 (blkQ C 0 (sq (den C k) (lp C k) Js C cd3 Q))) k (St2 x0 x15 x16 x17) by kernel_rfl).trans ((l0_eq k (blkQ C 0 (sq (den C k) (lp C k) Js C cd3 Q)) k x0 x15 x16 x17).trans (l0_congr k _ _ _ _ (fun x2 => (show (blkQ C 0 (sq (den C k) (lp C k) Js C cd3 Q)) .ret (St1 x2) = Q .ret (St1 x2) by kernel_rfl)) ((show (blkQ C 0 (sq (den C k) (lp C k) Js C cd3 Q)) (.exit 0) St6 = (den C k) cd3 Q St7 by kernel_rfl).trans (by simp only [j1_eq])) k x0 x15 x16 x17))
def top {α : Type} (k : Nat) (Rt : Int → Option α) (x0 : List (List Int)) : Option α :=
  if (cond (decide ((x0.length : Int) < 1)) true (decide ((x0.length : Int) > 19))) = true then
    Rt 1
  else
    l0 k (fun (x2 : Int) => Rt x2) (j1 Rt) k x0 x0 (x0.length : Int) 0
theorem top_eq {α : Type} (k : Nat) (Q : Ex → St → Option α) (x0 : List (List Int)) :
    (den C k) (cB Try.f56) Q (St0 x0) = top k (fun (x2 : Int) => Q .ret (St1 x2)) x0 := by
  have h : ∀ (D L : DT α), denJ D L Js C (cB Try.f56) Q (St0 x0) =
        if (cond (decide ((x0.length : Int) < 1)) true (decide ((x0.length : Int) > 19))) = true then
          Q .ret (St1 1)
        else
          L cd0 (blkQ C 0 (sq D L Js C cd3 Q)) (St2 x0 x0 (x0.length : Int) 0) := by
    intro D L; kernel_rfl
  refine (show (den C k) (cB Try.f56) Q (St0 x0) = denJ (den C k) (lp C k) Js C (cB Try.f56) Q (St0 x0) from (denJ_den _ _ _ _ _ _).symm).trans ((h (den C k) (lp C k)).trans ?_)
  simp only [a1]
  first | rfl | kernel_rfl
def run (x0 : List (List Int)) : Option (Int) := top (α := Int) fuel (fun (x2 : Int) => some x2) x0
def F : Fn := ⟨(.pair (.sl (.arr 20 (.int .u8))) .unit), (.int .i64), false, fun x => run x.1⟩
set_option maxRecDepth 100000 in
theorem con : Con Try.prog 56 F := by
  refine con_of_den (C := C) (ctx_ok (by kernel_rfl) (by kernel_rfl) (by kernel_rfl) trivial) (by kernel_rfl) Try.func56 (c := cB Try.f56) (by kernel_rfl) (by kernel_rfl) F fuel (fun x => by simp [F, spread, Try.ntmps56]) ?_
  intro x r h
  rw [← h]
  have h1 : start F Try.f56.ntmps x = (St0 x.1) := by kernel_rfl
  rw [h1]
  refine (top_eq fuel (fin C Try.f56.results.toList F.rs F.multi) x.1).trans ?_
  kernel_rfl
theorem named : Named Try.prog 56 := named_of Try.func56 (by kernel_rfl) (by kernel_rfl)
end Go.Bx.sets_keys
namespace Go.Bx.basculeref_keysFault
open Go Go.Proofs Go.Bx
set_option maxRecDepth 100000
set_option linter.unusedVariables false
def Js : List Nat := [10]
def C : Ctx := ⟨[(3, (.int .i64)), (23, (.int .i64)), (26, (.sl (.arr 20 (.int .u8)))), (168, (.arr 20 (.int .u8)))], [], [(169, (168, 3))], fnL [], noSh, [], noInv, [(2, [2]), (1, [0, 3]), (4, [0, 3, 15, 16, 17]), (15, [0, 3, 15, 16, 17]), (27, [0, 3])], [], [], 0, 0⟩
def St0 (x0 : List (List Int)) : St := stL 33 [(0, .data (.sl (.arr 20 (.int .u8))) x0)] []
def St1 (x2 : Int) : St := stL 33 [(2, .data (.int .i64) x2)] []
def St2 (x0 : List (List Int)) (x15 : List (List Int)) (x16 : Int) (x17 : Int) (c14 : List (List Int × Int)) : St := stL 33 [(0, .data (.sl (.arr 20 (.int .u8))) x0), (3, .map 14), (15, .data (.sl (.arr 20 (.int .u8))) x15), (16, .data (.int .i64) x16), (17, .data (.int .i64) x17)] [(14, .map (.arr 20 (.int .u8)) (.int .i64) c14)]
noncomputable def cd0 : Code := cL (cL (cR (cL (cR (cR (cR (cB Try.f57)))))))
def St3 (x0 : List (List Int)) (c14 : List (List Int × Int)) : St := stL 33 [(0, .data (.sl (.arr 20 (.int .u8))) x0), (3, .map 14)] [(14, .map (.arr 20 (.int .u8)) (.int .i64) c14)]
def l0s {α : Type} (Nx : (List (List Int)) → (List (List Int)) → Int → Int → (List (List Int × Int)) → Option α) (Xt0 : (List (List Int)) → (List (List Int × Int)) → Option α) (x0 : List (List Int)) (x15 : List (List Int)) (x16 : Int) (x17 : Int) (c14 : List (List Int × Int)) : Option α :=
  if (decide (x17 < x16)) = true then
    if 0 ≤ x17 ∧ x17 < (x15.length : Int) then
      if Nat.blt c14.length 9223372036854775807 = true then
        if 0 ≤ (((idxM (beqD (.arr 20 (.int .u8))) (List.getD x15 (Int.toNat x17) (List.replicate 20 0)) c14) : Nat) : Int) ∧ (((idxM (beqD (.arr 20 (.int .u8))) (List.getD x15 (Int.toNat x17) (List.replicate 20 0)) c14) : Nat) : Int) < ((entM (beqD (.arr 20 (.int .u8))) (List.getD x15 (Int.toNat x17) (List.replicate 20 0)) 0 c14).length : Int) then
          Nx x0 x15 x16 (IntKind.i64.wrap (x17 + 1)) (putM (entM (beqD (.arr 20 (.int .u8))) (List.getD x15 (Int.toNat x17) (List.replicate 20 0)) 0 c14) (Int.toNat (((idxM (beqD (.arr 20 (.int .u8))) (List.getD x15 (Int.toNat x17) (List.replicate 20 0)) c14) : Nat) : Int)) (IntKind.i64.wrap ((getM (beqD (.arr 20 (.int .u8))) (List.getD x15 (Int.toNat x17) (List.replicate 20 0)) 0 c14) + 1)))
        else none
      else none
    else none
  else
    Xt0 x0 c14
theorem l0s_eq {α : Type} (k : Nat) (next : St → Option α) (Q : Ex → St → Option α) (x0 : List (List Int)) (x15 : List (List Int)) (x16 : Int) (x17 : Int) (c14 : List (List Int × Int)) :
    rnd C k cd0 15 Q next (St2 x0 x15 x16 x17 c14) = l0s (fun (x0 : List (List Int)) (x15 : List (List Int)) (x16 : Int) (x17 : Int) (c14 : List (List Int × Int)) => next (St2 x0 x15 x16 x17 c14)) (fun (x0 : List (List Int)) (c14 : List (List Int × Int)) => Q (.exit 0) (St3 x0 c14)) x0 x15 x16 x17 c14 := by
  have h : ∀ (D L : DT α), denJ D L Js C cd0 (lq C 15 next Q) (St2 x0 x15 x16 x17 c14) =
        if (decide (x17 < x16)) = true then
          if 0 ≤ x17 ∧ x17 < (x15.length : Int) then
            if Nat.blt c14.length 9223372036854775807 = true then
              if 0 ≤ (((idxM (beqD (.arr 20 (.int .u8))) (List.getD x15 (Int.toNat x17) (List.replicate 20 0)) c14) : Nat) : Int) ∧ (((idxM (beqD (.arr 20 (.int .u8))) (List.getD x15 (Int.toNat x17) (List.replicate 20 0)) c14) : Nat) : Int) < ((entM (beqD (.arr 20 (.int .u8))) (List.getD x15 (Int.toNat x17) (List.replicate 20 0)) 0 c14).length : Int) then
                next (St2 x0 x15 x16 (IntKind.i64.wrap (x17 + 1)) (putM (entM (beqD (.arr 20 (.int .u8))) (List.getD x15 (Int.toNat x17) (List.replicate 20 0)) 0 c14) (Int.toNat (((idxM (beqD (.arr 20 (.int .u8))) (List.getD x15 (Int.toNat x17) (List.replicate 20 0)) c14) : Nat) : Int)) (IntKind.i64.wrap ((getM (beqD (.arr 20 (.int .u8))) (List.getD x15 (Int.toNat x17) (List.replicate 20 0)) 0 c14) + 1))))
              else none
            else none
          else none
        else
          Q (.exit 0) (St3 x0 c14) := by
    intro D L; kernel_rfl
  refine (show rnd C k cd0 15 Q next (St2 x0 x15 x16 x17 c14) = denJ (den C k) (lp C k) Js C cd0 (lq C 15 next Q) (St2 x0 x15 x16 x17 c14) from (denJ_den _ _ _ _ _ _).symm).trans ((h (den C k) (lp C k)).trans ?_)
  first | rfl | kernel_rfl
def l0 {α : Type} (k : Nat) (Xt0 : (List (List Int)) → (List (List Int × Int)) → Option α) : Nat → (List (List Int)) → (List (List Int)) → Int → Int → (List (List Int × Int)) → Option α
  | 0, _, _, _, _, _ => none
  | n + 1, x0, x15, x16, x17, c14 => l0s (l0 k Xt0 n) Xt0 x0 x15 x16 x17 c14
theorem l0_eq {α : Type} (k : Nat) (Q : Ex → St → Option α) : ∀ (n : Nat) (x0 : List (List Int)) (x15 : List (List Int)) (x16 : Int) (x17 : Int) (c14 : List (List Int × Int)), iter (rnd C k cd0 15 Q) n (St2 x0 x15 x16 x17 c14) = l0 k (fun (x0 : List (List Int)) (c14 : List (List Int × Int)) => Q (.exit 0) (St3 x0 c14)) n x0 x15 x16 x17 c14
  | 0, _, _, _, _, _ => rfl
  | n + 1, x0, x15, x16, x17, c14 => (iter_succ _ _ _).trans ((l0s_eq k (iter (rnd C k cd0 15 Q) n) Q x0 x15 x16 x17 c14).trans (congrArg (fun N => l0s N (fun (x0 : List (List Int)) (c14 : List (List Int × Int)) => Q (.exit 0) (St3 x0 c14)) x0 x15 x16 x17 c14) (funext fun x0 => funext fun x15 => funext fun x16 => funext fun x17 => funext fun c14 => l0_eq k Q n x0 x15 x16 x17 c14)))
theorem l0_congr {α : Type} (k : Nat) (Xt0 : (List (List Int)) → (List (List Int × Int)) → Option α) (Xt0q : (List (List Int)) → (List (List Int × Int)) → Option α) (hXt0 : ∀ (x0 : List (List Int)) (c14 : List (List Int × Int)), Xt0 x0 c14 = Xt0q x0 c14) (n : Nat) (x0 : List (List Int)) (x15 : List (List Int)) (x16 : Int) (x17 : Int) (c14 : List (List Int × Int)) : l0 k Xt0 n x0 x15 x16 x17 c14 = l0 k Xt0q n x0 x15 x16 x17 c14 := by
  obtain rfl : Xt0 = Xt0q := by funext x0; funext c14; exact hXt0 x0 c14
  rfl
noncomputable def cd1 : Code := cR (cR (cR (cR (cB Try.f57))))
def St4 (x0 : List (List Int)) (c14 : List (List Int × Int)) : St := stL 33 [(0, .data (.sl (.arr 20 (.int .u8))) x0), (3, .map 14)] [(14, .map (.arr 20 (.int .u8)) (.int .i64) c14)]
def j0 {α : Type} (Rt : Int → Option α) (x0 : List (List Int)) (c14 : List (List Int × Int)) : Option α :=
  if Nat.ble c14.length 9223372036854775807 = true then
    if (decide ((c14.length : Int) < (x0.length : Int))) = true then
      Rt 8
    else
      Rt 0
  else none
theorem j0_eq {α : Type} (k : Nat) (Q : Ex → St → Option α) (x0 : List (List Int)) (c14 : List (List Int × Int)) :
    (den C k) cd1 Q (St4 x0 c14) = j0 (fun (x2 : Int) => Q .ret (St1 x2)) x0 c14 := by
  have h : ∀ (D L : DT α), denJ D L Js C cd1 Q (St4 x0 c14) =
        if Nat.ble c14.length 9223372036854775807 = true then
          if (decide ((c14.length : Int) < (x0.length : Int))) = true then
            Q .ret (St1 8)
          else
            Q .ret (St1 0)
        else none := by
    intro D L; kernel_rfl
  refine (show (den C k) cd1 Q (St4 x0 c14) = denJ (den C k) (lp C k) Js C cd1 Q (St4 x0 c14) from (denJ_den _ _ _ _ _ _).symm).trans ((h (den C k) (lp C k)).trans ?_)
  first | rfl | kernel_rfl
theorem a0 {α : Type} (k : Nat) (Q : Ex → St → Option α) (x0 : List (List Int)) (x15 : List (List Int)) (x16 : Int) (x17 : Int) (c14 : List (List Int × Int)) :
    (lp C k) cd0 (blkQ C 0 (sq (den C k) (lp C k) Js C cd1 Q)) (St2 x0 x15 x16 x17 c14) = l0 k (fun (x0 : List (List Int)) (c14 : List (List Int × Int)) => j0 (fun (x2 : Int) => Q .ret (St1 x2)) x0 c14) k x0 x15 x16 x17 c14 :=
  (show (lp C k) cd0 (blkQ C 0 (sq (den C k) (lp C k) Js C cd1 Q)) (St2 x0 x15 x16 x17 c14) = iter (rnd C k cd0 15 (blkQ C 0 (sq (den C k) (lp C k) Js C cd1 Q))) k (St2 x0 x15 x16 x17 c14) by kernel_rfl).trans ((l0_eq k (blkQ C 0 (sq (den C k) (lp C k) Js C cd1 Q)) k x0 x15 x16 x17 c14).trans (l0_congr k _ _ (fun x0 c14 => ((show (blkQ C 0 (sq (den C k) (lp C k) Js C cd1 Q)) (.exit 0) (St3 x0 c14) = (den C k) cd1 Q (St4 x0 c14) by kernel_rfl).trans (by simp only [j0_eq]))) k x0 x15 x16 x17 c14))
def top {α : Type} (k : Nat) (Rt : Int → Option α) (x0 : List (List Int)) : Option α :=
  if (cond ((x0.length : Int) == 0) true (decide ((x0.length : Int) > 19))) = true then
    Rt 1
  else
    l0 k (fun (x0 : List (List Int)) (c14 : List (List Int × Int)) => j0 Rt x0 c14) k x0 x0 (x0.length : Int) 0 []
theorem top_eq {α : Type} (k : Nat) (Q : Ex → St → Option α) (x0 : List (List Int)) :
    (den C k) (cB Try.f57) Q (St0 x0) = top k (fun (x2 : Int) => Q .ret (St1 x2)) x0 := by
  have h : ∀ (D L : DT α), denJ D L Js C (cB Try.f57) Q (St0 x0) =
        if (cond ((x0.length : Int) == 0) true (decide ((x0.length : Int) > 19))) = true then
          Q .ret (St1 1)
        else
          L cd0 (blkQ C 0 (sq D L Js C cd1 Q)) (St2 x0 x0 (x0.length : Int) 0 []) := by
    intro D L; kernel_rfl
  refine (show (den C k) (cB Try.f57) Q (St0 x0) = denJ (den C k) (lp C k) Js C (cB Try.f57) Q (St0 x0) from (denJ_den _ _ _ _ _ _).symm).trans ((h (den C k) (lp C k)).trans ?_)
  simp only [a0]
  first | rfl | kernel_rfl
def run (x0 : List (List Int)) : Option (Int) := top (α := Int) fuel (fun (x2 : Int) => some x2) x0
def F : Fn := ⟨(.pair (.sl (.arr 20 (.int .u8))) .unit), (.int .i64), false, fun x => run x.1⟩
set_option maxRecDepth 100000 in
theorem con : Con Try.prog 57 F := by
  refine con_of_den (C := C) (ctx_ok (by kernel_rfl) (by kernel_rfl) (by kernel_rfl) trivial) (by kernel_rfl) Try.func57 (c := cB Try.f57) (by kernel_rfl) (by kernel_rfl) F fuel (fun x => by simp [F, spread, Try.ntmps57]) ?_
  intro x r h
  rw [← h]
  have h1 : start F Try.f57.ntmps x = (St0 x.1) := by kernel_rfl
  rw [h1]
  refine (top_eq fuel (fin C Try.f57.results.toList F.rs F.multi) x.1).trans ?_
  kernel_rfl
theorem named : Named Try.prog 57 := named_of Try.func57 (by kernel_rfl) (by kernel_rfl)
end Go.Bx.basculeref_keysFault
namespace Go.Bx.sets_Check
open Go Go.Proofs Go.Bx
set_option maxRecDepth 100000
set_option linter.unusedVariables false
def Js : List Nat := [15]
def C : Ctx := ⟨[(3, (.int .i64)), (4, .bool), (22, (.sl (.pair (.int .i64) (.pair (.sl (.arr 20 (.int .u8))) (.pair (.int .i64) .unit))))), (23, (.int .i64)), (26, (.sl (.arr 20 (.int .u8)))), (32, (.pair (.int .i64) (.pair (.sl (.arr 20 (.int .u8))) (.pair (.int .i64) .unit))))], [], [], fnL [(56, Go.Bx.sets_keys.F)], noSh, [], noInv, [(2, [2]), (1, []), (4, [0, 3, 15, 16, 17]), (15, [0, 3, 15, 16, 17]), (42, [])], [], [], 0, 0⟩
def St0 (x0 : List (Int × List (List Int) × Int × Unit)) : St := stL 62 [(0, .data (.sl (.pair (.int .i64) (.pair (.sl (.arr 20 (.int .u8))) (.pair (.int .i64) .unit)))) x0)] []
def St1 (x2 : Int) : St := stL 62 [(2, .data (.int .i64) x2)] []
def St2 (x0 : List (Int × List (List Int) × Int × Unit)) (x3 : Int) (x15 : List (Int × List (List Int) × Int × Unit)) (x16 : Int) (x17 : Int) : St := stL 62 [(0, .data (.sl (.pair (.int .i64) (.pair (.sl (.arr 20 (.int .u8))) (.pair (.int .i64) .unit)))) x0), (3, .data (.int .i64) x3), (15, .data (.sl (.pair (.int .i64) (.pair (.sl (.arr 20 (.int .u8))) (.pair (.int .i64) .unit)))) x15), (16, .data (.int .i64) x16), (17, .data (.int .i64) x17)] []
noncomputable def cd0 : Code := cL (cL (cR (cL (cR (cR (cR (cB Try.f18)))))))
def St3 : St := stL 62 [] []
def l0s {α : Type} (Nx : (List (Int × List (List Int) × Int × Unit)) → Int → (List (Int × List (List Int) × Int × Unit)) → Int → Int → Option α) (Rt : Int → Option α) (Xt0 : Option α) (x0 : List (Int × List (List Int) × Int × Unit)) (x3 : Int) (x15 : List (Int × List (List Int) × Int × Unit)) (x16 : Int) (x17 : Int) : Option α :=
  if (decide (x17 < x16)) = true then
    if 0 ≤ x17 ∧ x17 < (x15.length : Int) then
      (Go.Bx.sets_keys.run (List.getD x15 (Int.toNat x17) (0, [], 0, ())).2.1).bind fun y1 =>
      if (y1 != 0) = true then
        Rt y1
      else
        if (cond (cond (cond ((List.getD x15 (Int.toNat x17) (0, [], 0, ())).1 != x17) true (not (beqD .bool (x17 == (IntKind.i64.wrap ((x0.length : Int) - 1))) ((List.getD x15 (Int.toNat x17) (0, [], 0, ())).2.2.1 == 0)))) true (cond ((List.getD x15 (Int.toNat x17) (0, [], 0, ())).2.2.1 != 0) (decide ((List.getD x15 (Int.toNat x17) (0, [], 0, ())).2.2.1 < x3)) false)) true (decide ((List.getD x15 (Int.toNat x17) (0, [], 0, ())).2.2.1 > 1099511627800))) = true then
          Rt 12
        else
          Nx x0 (List.getD x15 (Int.toNat x17) (0, [], 0, ())).2.2.1 x15 x16 (IntKind.i64.wrap (x17 + 1))
    else none
  else
    Xt0
theorem l0s_eq {α : Type} (k : Nat) (next : St → Option α) (Q : Ex → St → Option α) (x0 : List (Int × List (List Int) × Int × Unit)) (x3 : Int) (x15 : List (Int × List (List Int) × Int × Unit)) (x16 : Int) (x17 : Int) :
    rnd C k cd0 15 Q next (St2 x0 x3 x15 x16 x17) = l0s (fun (x0 : List (Int × List (List Int) × Int × Unit)) (x3 : Int) (x15 : List (Int × List (List Int) × Int × Unit)) (x16 : Int) (x17 : Int) => next (St2 x0 x3 x15 x16 x17)) (fun (x2 : Int) => Q .ret (St1 x2)) (Q (.exit 0) St3) x0 x3 x15 x16 x17 := by
  have h : ∀ (D L : DT α), denJ D L Js C cd0 (lq C 15 next Q) (St2 x0 x3 x15 x16 x17) =
        if (decide (x17 < x16)) = true then
          if 0 ≤ x17 ∧ x17 < (x15.length : Int) then
            (Go.Bx.sets_keys.run (List.getD x15 (Int.toNat x17) (0, [], 0, ())).2.1).bind fun y1 =>
            if (y1 != 0) = true then
              Q .ret (St1 y1)
            else
              if (cond (cond (cond ((List.getD x15 (Int.toNat x17) (0, [], 0, ())).1 != x17) true (not (beqD .bool (x17 == (IntKind.i64.wrap ((x0.length : Int) - 1))) ((List.getD x15 (Int.toNat x17) (0, [], 0, ())).2.2.1 == 0)))) true (cond ((List.getD x15 (Int.toNat x17) (0, [], 0, ())).2.2.1 != 0) (decide ((List.getD x15 (Int.toNat x17) (0, [], 0, ())).2.2.1 < x3)) false)) true (decide ((List.getD x15 (Int.toNat x17) (0, [], 0, ())).2.2.1 > 1099511627800))) = true then
                Q .ret (St1 12)
              else
                next (St2 x0 (List.getD x15 (Int.toNat x17) (0, [], 0, ())).2.2.1 x15 x16 (IntKind.i64.wrap (x17 + 1)))
          else none
        else
          Q (.exit 0) St3 := by
    intro D L; kernel_rfl
  refine (show rnd C k cd0 15 Q next (St2 x0 x3 x15 x16 x17) = denJ (den C k) (lp C k) Js C cd0 (lq C 15 next Q) (St2 x0 x3 x15 x16 x17) from (denJ_den _ _ _ _ _ _).symm).trans ((h (den C k) (lp C k)).trans ?_)
  first | rfl | kernel_rfl
def l0 {α : Type} (k : Nat) (Rt : Int → Option α) (Xt0 : Option α) : Nat → (List (Int × List (List Int) × Int × Unit)) → Int → (List (Int × List (List Int) × Int × Unit)) → Int → Int → Option α
  | 0, _, _, _, _, _ => none
  | n + 1, x0, x3, x15, x16, x17 => l0s (l0 k Rt Xt0 n) Rt Xt0 x0 x3 x15 x16 x17
theorem l0_eq {α : Type} (k : Nat) (Q : Ex → St → Option α) : ∀ (n : Nat) (x0 : List (Int × List (List Int) × Int × Unit)) (x3 : Int) (x15 : List (Int × List (List Int) × Int × Unit)) (x16 : Int) (x17 : Int), iter (rnd C k cd0 15 Q) n (St2 x0 x3 x15 x16 x17) = l0 k (fun (x2 : Int) => Q .ret (St1 x2)) (Q (.exit 0) St3) n x0 x3 x15 x16 x17
  | 0, _, _, _, _, _ => rfl
  | n + 1, x0, x3, x15, x16, x17 => (iter_succ _ _ _).trans ((l0s_eq k (iter (rnd C k cd0 15 Q) n) Q x0 x3 x15 x16 x17).trans (congrArg (fun N => l0s N (fun (x2 : Int) => Q .ret (St1 x2)) (Q (.exit 0) St3) x0 x3 x15 x16 x17) (funext fun x0 => funext fun x3 => funext fun x15 => funext fun x16 => funext fun x17 => l0_eq k Q n x0 x3 x15 x16 x17)))
theorem l0_congr {α : Type} (k : Nat) (Rt : Int → Option α) (Xt0 : Option α) (Rtq : Int → Option α) (Xt0q : Option α) (hRt : ∀ (x2 : Int), Rt x2 = Rtq x2) (hXt0 : Xt0 = Xt0q) (n : Nat) (x0 : List (Int × List (List Int) × Int × Unit)) (x3 : Int) (x15 : List (Int × List (List Int) × Int × Unit)) (x16 : Int) (x17 : Int) : l0 k Rt Xt0 n x0 x3 x15 x16 x17 = l0 k Rtq Xt0q n x0 x3 x15 x16 x17 := by
  obtain rfl : Rt = Rtq := by funext x2; exact hRt x2
  obtain rfl : Xt0 = Xt0q := hXt0
  rfl
noncomputable def cd1 : Code := cR (cR (cR (cR (cB Try.f18))))
def St4 : St := stL 62 [] []
def j0 {α : Type} (Rt : Int → Option α) : Option α :=
  Rt 0
theorem j0_eq {α : Type} (k : Nat) (Q : Ex → St → Option α) :
    (den C k) cd1 Q St4 = j0 (fun (x2 : Int) => Q .ret (St1 x2)) := by
  have h : ∀ (D L : DT α), denJ D L Js C cd1 Q St4 =
        Q .ret (St1 0) := by
    intro D L; kernel_rfl
  refine (show (den C k) cd1 Q St4 = denJ (den C k) (lp C k) Js C cd1 Q St4 from (denJ_den _ _ _ _ _ _).symm).trans ((h (den C k) (lp C k)).trans ?_)
  first | rfl | kernel_rfl
theorem a0 {α : Type} (k : Nat) (Q : Ex → St → Option α) (x0 : List (Int × List (List Int) × Int × Unit)) (x3 : Int) (x15 : List (Int × List (List Int) × Int × Unit)) (x16 : Int) (x17 : Int) :
    (lp C k) cd0 (blkQ C 0 (sq (den C k) (lp C k) Js C cd1 Q)) (St2 x0 x3 x15 x16 x17) = l0 k (fun (x2 : Int) => (fun (x2 : Int) => Q .ret (St1 x2)) x2) (j0 (fun (x2 : Int) => Q .ret (St1 x2))) k x0 x3 x15 x16 x17 :=
  (show (lp C k) cd0 (blkQ C 0 (sq (den C k) (lp C k) Js C cd1 Q)) (St2 x0 x3 x15 x16 x17) = iter (rnd C k cd0 15 (blkQ C 0 (sq (den C k) (lp C k) Js C cd1 Q))) k (St2 x0 x3 x15 x16 x17) by kernel_rfl).trans ((l0_eq k (blkQ C 0 (sq (den C k) (lp C k) Js C cd1 Q)) k x0 x3 x15 x16 x17).trans (l0_congr k _ _ _ _ (fun x2 => (show (blkQ C 0 (sq (den C k) (lp C k) Js C cd1 Q)) .ret (St1 x2) = Q .ret (St1 x2) by kernel_rfl)) ((show (blkQ C 0 (sq (den C k) (lp C k) Js C cd1 Q)) (.exit 0) St3 = (den C k) cd1 Q St4 by kernel_rfl).trans (by simp only [j0_eq])) k x0 x3 x15 x16 x17))
def top {α : Type} (k : Nat) (Rt : Int → Option α) (x0 : List (Int × List (List Int) × Int × Unit)) : Option α :=
  if (cond (decide ((x0.length : Int) < 1)) true (decide ((x0.length : Int) > 8))) = true then
    Rt 1
  else
    l0 k (fun (x2 : Int) => Rt x2) (j0 Rt) k x0 0 x0 (x0.length : Int) 0
theorem top_eq {α : Type} (k : Nat) (Q : Ex → St → Option α) (x0 : List (Int × List (List Int) × Int × Unit)) :
    (den C k) (cB Try.f18) Q (St0 x0) = top k (fun (x2 : Int) => Q .ret (St1 x2)) x0 := by
  have h : ∀ (D L : DT α), denJ D L Js C (cB Try.f18) Q (St0 x0) =
        if (cond (decide ((x0.length : Int) < 1)) true (decide ((x0.length : Int) > 8))) = true then
          Q .ret (St1 1)
        else
          L cd0 (blkQ C 0 (sq D L Js C cd1 Q)) (St2 x0 0 x0 (x0.length : Int) 0) := by
    intro D L; kernel_rfl
  refine (show (den C k) (cB Try.f18) Q (St0 x0) = denJ (den C k) (lp C k) Js C (cB Try.f18) Q (St0 x0) from (denJ_den _ _ _ _ _ _).symm).trans ((h (den C k) (lp C k)).trans ?_)
  simp only [a0]
  first | rfl | kernel_rfl
def run (x0 : List (Int × List (List Int) × Int × Unit)) : Option (Int) := top (α := Int) fuel (fun (x2 : Int) => some x2) x0
def F : Fn := ⟨(.pair (.sl (.pair (.int .i64) (.pair (.sl (.arr 20 (.int .u8))) (.pair (.int .i64) .unit)))) .unit), (.int .i64), false, fun x => run x.1⟩
set_option maxRecDepth 100000 in
theorem con : Con Try.prog 18 F := by
  refine con_of_den (C := C) (ctx_ok (by kernel_rfl) (by kernel_rfl) (by kernel_rfl) ⟨.inl ⟨Go.Bx.sets_keys.con, Go.Bx.sets_keys.named⟩, trivial⟩) (by kernel_rfl) Try.func18 (c := cB Try.f18) (by kernel_rfl) (by kernel_rfl) F fuel (fun x => by simp [F, spread, Try.ntmps18]) ?_
  intro x r h
  rw [← h]
  have h1 : start F Try.f18.ntmps x = (St0 x.1) := by kernel_rfl
  rw [h1]
  refine (top_eq fuel (fin C Try.f18.results.toList F.rs F.multi) x.1).trans ?_
  kernel_rfl
theorem named : Named Try.prog 18 := named_of Try.func18 (by kernel_rfl) (by kernel_rfl)
end Go.Bx.sets_Check
namespace Go.Bx.basculeref_SetsFault
open Go Go.Proofs Go.Bx
set_option maxRecDepth 100000
set_option linter.unusedVariables false
def Js : List Nat := [16]
def C : Ctx := ⟨[(3, (.int .i64)), (22, (.sl (.pair (.int .i64) (.pair (.sl (.arr 20 (.int .u8))) (.pair (.int .i64) .unit))))), (23, (.int .i64)), (26, (.sl (.arr 20 (.int .u8)))), (32, (.pair (.int .i64) (.pair (.sl (.arr 20 (.int .u8))) (.pair (.int .i64) .unit))))], [], [], fnL [(57, Go.Bx.basculeref_keysFault.F)], noSh, [], noInv, [(2, [2]), (1, []), (4, [0, 3, 16, 17, 18]), (15, [0, 3, 16, 17, 18]), (45, [])], [], [], 0, 0⟩
def St0 (x0 : List (Int × List (List Int) × Int × Unit)) : St := stL 69 [(0, .data (.sl (.pair (.int .i64) (.pair (.sl (.arr 20 (.int .u8))) (.pair (.int .i64) .unit)))) x0)] []
def St1 (x2 : Int) : St := stL 69 [(2, .data (.int .i64) x2)] []
def St2 (x0 : List (Int × List (List Int) × Int × Unit)) (x3 : Int) (x16 : List (Int × List (List Int) × Int × Unit)) (x17 : Int) (x18 : Int) : St := stL 69 [(0, .data (.sl (.pair (.int .i64) (.pair (.sl (.arr 20 (.int .u8))) (.pair (.int .i64) .unit)))) x0), (3, .data (.int .i64) x3), (16, .data (.sl (.pair (.int .i64) (.pair (.sl (.arr 20 (.int .u8))) (.pair (.int .i64) .unit)))) x16), (17, .data (.int .i64) x17), (18, .data (.int .i64) x18)] []
noncomputable def cd0 : Code := cL (cL (cR (cL (cR (cR (cR (cB Try.f19)))))))
def St3 : St := stL 69 [] []
def l0s {α : Type} (Nx : (List (Int × List (List Int) × Int × Unit)) → Int → (List (Int × List (List Int) × Int × Unit)) → Int → Int → Option α) (Rt : Int → Option α) (Xt0 : Option α) (x0 : List (Int × List (List Int) × Int × Unit)) (x3 : Int) (x16 : List (Int × List (List Int) × Int × Unit)) (x17 : Int) (x18 : Int) : Option α :=
  if (decide (x18 < x17)) = true then
    if 0 ≤ x18 ∧ x18 < (x16.length : Int) then
      (Go.Bx.basculeref_keysFault.run (List.getD x16 (Int.toNat x18) (0, [], 0, ())).2.1).bind fun y1 =>
      if (y1 != 0) = true then
        Rt y1
      else
        if (cond (cond ((List.getD x16 (Int.toNat x18) (0, [], 0, ())).1 != x18) true (cond ((IntKind.i64.wrap (x18 + 1)) == (x0.length : Int)) ((List.getD x16 (Int.toNat x18) (0, [], 0, ())).2.2.1 != 0) false)) true (cond (not ((IntKind.i64.wrap (x18 + 1)) == (x0.length : Int))) (cond (cond (decide ((List.getD x16 (Int.toNat x18) (0, [], 0, ())).2.2.1 < 1)) true (decide ((List.getD x16 (Int.toNat x18) (0, [], 0, ())).2.2.1 < x3))) true (decide ((List.getD x16 (Int.toNat x18) (0, [], 0, ())).2.2.1 > 1099511627800))) false)) = true then
          Rt 12
        else
          Nx x0 (List.getD x16 (Int.toNat x18) (0, [], 0, ())).2.2.1 x16 x17 (IntKind.i64.wrap (x18 + 1))
    else none
  else
    Xt0
theorem l0s_eq {α : Type} (k : Nat) (next : St → Option α) (Q : Ex → St → Option α) (x0 : List (Int × List (List Int) × Int × Unit)) (x3 : Int) (x16 : List (Int × List (List Int) × Int × Unit)) (x17 : Int) (x18 : Int) :
    rnd C k cd0 15 Q next (St2 x0 x3 x16 x17 x18) = l0s (fun (x0 : List (Int × List (List Int) × Int × Unit)) (x3 : Int) (x16 : List (Int × List (List Int) × Int × Unit)) (x17 : Int) (x18 : Int) => next (St2 x0 x3 x16 x17 x18)) (fun (x2 : Int) => Q .ret (St1 x2)) (Q (.exit 0) St3) x0 x3 x16 x17 x18 := by
  have h : ∀ (D L : DT α), denJ D L Js C cd0 (lq C 15 next Q) (St2 x0 x3 x16 x17 x18) =
        if (decide (x18 < x17)) = true then
          if 0 ≤ x18 ∧ x18 < (x16.length : Int) then
            (Go.Bx.basculeref_keysFault.run (List.getD x16 (Int.toNat x18) (0, [], 0, ())).2.1).bind fun y1 =>
            if (y1 != 0) = true then
              Q .ret (St1 y1)
            else
              if (cond (cond ((List.getD x16 (Int.toNat x18) (0, [], 0, ())).1 != x18) true (cond ((IntKind.i64.wrap (x18 + 1)) == (x0.length : Int)) ((List.getD x16 (Int.toNat x18) (0, [], 0, ())).2.2.1 != 0) false)) true (cond (not ((IntKind.i64.wrap (x18 + 1)) == (x0.length : Int))) (cond (cond (decide ((List.getD x16 (Int.toNat x18) (0, [], 0, ())).2.2.1 < 1)) true (decide ((List.getD x16 (Int.toNat x18) (0, [], 0, ())).2.2.1 < x3))) true (decide ((List.getD x16 (Int.toNat x18) (0, [], 0, ())).2.2.1 > 1099511627800))) false)) = true then
                Q .ret (St1 12)
              else
                next (St2 x0 (List.getD x16 (Int.toNat x18) (0, [], 0, ())).2.2.1 x16 x17 (IntKind.i64.wrap (x18 + 1)))
          else none
        else
          Q (.exit 0) St3 := by
    intro D L; kernel_rfl
  refine (show rnd C k cd0 15 Q next (St2 x0 x3 x16 x17 x18) = denJ (den C k) (lp C k) Js C cd0 (lq C 15 next Q) (St2 x0 x3 x16 x17 x18) from (denJ_den _ _ _ _ _ _).symm).trans ((h (den C k) (lp C k)).trans ?_)
  first | rfl | kernel_rfl
def l0 {α : Type} (k : Nat) (Rt : Int → Option α) (Xt0 : Option α) : Nat → (List (Int × List (List Int) × Int × Unit)) → Int → (List (Int × List (List Int) × Int × Unit)) → Int → Int → Option α
  | 0, _, _, _, _, _ => none
  | n + 1, x0, x3, x16, x17, x18 => l0s (l0 k Rt Xt0 n) Rt Xt0 x0 x3 x16 x17 x18
theorem l0_eq {α : Type} (k : Nat) (Q : Ex → St → Option α) : ∀ (n : Nat) (x0 : List (Int × List (List Int) × Int × Unit)) (x3 : Int) (x16 : List (Int × List (List Int) × Int × Unit)) (x17 : Int) (x18 : Int), iter (rnd C k cd0 15 Q) n (St2 x0 x3 x16 x17 x18) = l0 k (fun (x2 : Int) => Q .ret (St1 x2)) (Q (.exit 0) St3) n x0 x3 x16 x17 x18
  | 0, _, _, _, _, _ => rfl
  | n + 1, x0, x3, x16, x17, x18 => (iter_succ _ _ _).trans ((l0s_eq k (iter (rnd C k cd0 15 Q) n) Q x0 x3 x16 x17 x18).trans (congrArg (fun N => l0s N (fun (x2 : Int) => Q .ret (St1 x2)) (Q (.exit 0) St3) x0 x3 x16 x17 x18) (funext fun x0 => funext fun x3 => funext fun x16 => funext fun x17 => funext fun x18 => l0_eq k Q n x0 x3 x16 x17 x18)))
theorem l0_congr {α : Type} (k : Nat) (Rt : Int → Option α) (Xt0 : Option α) (Rtq : Int → Option α) (Xt0q : Option α) (hRt : ∀ (x2 : Int), Rt x2 = Rtq x2) (hXt0 : Xt0 = Xt0q) (n : Nat) (x0 : List (Int × List (List Int) × Int × Unit)) (x3 : Int) (x16 : List (Int × List (List Int) × Int × Unit)) (x17 : Int) (x18 : Int) : l0 k Rt Xt0 n x0 x3 x16 x17 x18 = l0 k Rtq Xt0q n x0 x3 x16 x17 x18 := by
  obtain rfl : Rt = Rtq := by funext x2; exact hRt x2
  obtain rfl : Xt0 = Xt0q := hXt0
  rfl
noncomputable def cd1 : Code := cR (cR (cR (cR (cB Try.f19))))
def St4 : St := stL 69 [] []
def j0 {α : Type} (Rt : Int → Option α) : Option α :=
  Rt 0
theorem j0_eq {α : Type} (k : Nat) (Q : Ex → St → Option α) :
    (den C k) cd1 Q St4 = j0 (fun (x2 : Int) => Q .ret (St1 x2)) := by
  have h : ∀ (D L : DT α), denJ D L Js C cd1 Q St4 =
        Q .ret (St1 0) := by
    intro D L; kernel_rfl
  refine (show (den C k) cd1 Q St4 = denJ (den C k) (lp C k) Js C cd1 Q St4 from (denJ_den _ _ _ _ _ _).symm).trans ((h (den C k) (lp C k)).trans ?_)
  first | rfl | kernel_rfl
theorem a0 {α : Type} (k : Nat) (Q : Ex → St → Option α) (x0 : List (Int × List (List Int) × Int × Unit)) (x3 : Int) (x16 : List (Int × List (List Int) × Int × Unit)) (x17 : Int) (x18 : Int) :
    (lp C k) cd0 (blkQ C 0 (sq (den C k) (lp C k) Js C cd1 Q)) (St2 x0 x3 x16 x17 x18) = l0 k (fun (x2 : Int) => (fun (x2 : Int) => Q .ret (St1 x2)) x2) (j0 (fun (x2 : Int) => Q .ret (St1 x2))) k x0 x3 x16 x17 x18 :=
  (show (lp C k) cd0 (blkQ C 0 (sq (den C k) (lp C k) Js C cd1 Q)) (St2 x0 x3 x16 x17 x18) = iter (rnd C k cd0 15 (blkQ C 0 (sq (den C k) (lp C k) Js C cd1 Q))) k (St2 x0 x3 x16 x17 x18) by kernel_rfl).trans ((l0_eq k (blkQ C 0 (sq (den C k) (lp C k) Js C cd1 Q)) k x0 x3 x16 x17 x18).trans (l0_congr k _ _ _ _ (fun x2 => (show (blkQ C 0 (sq (den C k) (lp C k) Js C cd1 Q)) .ret (St1 x2) = Q .ret (St1 x2) by kernel_rfl)) ((show (blkQ C 0 (sq (den C k) (lp C k) Js C cd1 Q)) (.exit 0) St3 = (den C k) cd1 Q St4 by kernel_rfl).trans (by simp only [j0_eq])) k x0 x3 x16 x17 x18))
def top {α : Type} (k : Nat) (Rt : Int → Option α) (x0 : List (Int × List (List Int) × Int × Unit)) : Option α :=
  if (cond ((x0.length : Int) == 0) true (decide ((x0.length : Int) > 8))) = true then
    Rt 1
  else
    l0 k (fun (x2 : Int) => Rt x2) (j0 Rt) k x0 0 x0 (x0.length : Int) 0
theorem top_eq {α : Type} (k : Nat) (Q : Ex → St → Option α) (x0 : List (Int × List (List Int) × Int × Unit)) :
    (den C k) (cB Try.f19) Q (St0 x0) = top k (fun (x2 : Int) => Q .ret (St1 x2)) x0 := by
  have h : ∀ (D L : DT α), denJ D L Js C (cB Try.f19) Q (St0 x0) =
        if (cond ((x0.length : Int) == 0) true (decide ((x0.length : Int) > 8))) = true then
          Q .ret (St1 1)
        else
          L cd0 (blkQ C 0 (sq D L Js C cd1 Q)) (St2 x0 0 x0 (x0.length : Int) 0) := by
    intro D L; kernel_rfl
  refine (show (den C k) (cB Try.f19) Q (St0 x0) = denJ (den C k) (lp C k) Js C (cB Try.f19) Q (St0 x0) from (denJ_den _ _ _ _ _ _).symm).trans ((h (den C k) (lp C k)).trans ?_)
  simp only [a0]
  first | rfl | kernel_rfl
def run (x0 : List (Int × List (List Int) × Int × Unit)) : Option (Int) := top (α := Int) fuel (fun (x2 : Int) => some x2) x0
def F : Fn := ⟨(.pair (.sl (.pair (.int .i64) (.pair (.sl (.arr 20 (.int .u8))) (.pair (.int .i64) .unit)))) .unit), (.int .i64), false, fun x => run x.1⟩
set_option maxRecDepth 100000 in
theorem con : Con Try.prog 19 F := by
  refine con_of_den (C := C) (ctx_ok (by kernel_rfl) (by kernel_rfl) (by kernel_rfl) ⟨.inl ⟨Go.Bx.basculeref_keysFault.con, Go.Bx.basculeref_keysFault.named⟩, trivial⟩) (by kernel_rfl) Try.func19 (c := cB Try.f19) (by kernel_rfl) (by kernel_rfl) F fuel (fun x => by simp [F, spread, Try.ntmps19]) ?_
  intro x r h
  rw [← h]
  have h1 : start F Try.f19.ntmps x = (St0 x.1) := by kernel_rfl
  rw [h1]
  refine (top_eq fuel (fin C Try.f19.results.toList F.rs F.multi) x.1).trans ?_
  kernel_rfl
theorem named : Named Try.prog 19 := named_of Try.func19 (by kernel_rfl) (by kernel_rfl)
end Go.Bx.basculeref_SetsFault
namespace Go.Bx.sets_fresh
open Go Go.Proofs Go.Bx
set_option maxRecDepth 100000
set_option linter.unusedVariables false
def Js : List Nat := [9]
def C : Ctx := ⟨[(22, (.sl (.pair (.int .i64) (.pair (.sl (.arr 20 (.int .u8))) (.pair (.int .i64) .unit))))), (26, (.sl (.arr 20 (.int .u8)))), (32, (.pair (.int .i64) (.pair (.sl (.arr 20 (.int .u8))) (.pair (.int .i64) .unit))))], [], [], fnL [], noSh, [], noInv, [(2, [2]), (1, [3]), (4, [3, 6, 7, 8]), (9, [3, 6, 7, 8]), (24, [3])], [(9, [.melt true 3 [] 20 true])], [15], 0, 0⟩
def St0 (x0 : List (Int × List (List Int) × Int × Unit)) : St := stL 23 [(0, .data (.sl (.pair (.int .i64) (.pair (.sl (.arr 20 (.int .u8))) (.pair (.int .i64) .unit)))) x0)] []
def St1 (x6 : List (Int × List (List Int) × Int × Unit)) (x7 : Int) (x8 : Int) (c20 : List (Int × List (List Int) × Int × Unit)) : St := stL 23 [(3, .app 20 0), (6, .data (.sl (.pair (.int .i64) (.pair (.sl (.arr 20 (.int .u8))) (.pair (.int .i64) .unit)))) x6), (7, .data (.int .i64) x7), (8, .data (.int .i64) x8)] [(20, .buf (.pair (.int .i64) (.pair (.sl (.arr 20 (.int .u8))) (.pair (.int .i64) .unit))) c20 0 true)]
noncomputable def cd0 : Code := cL (cL (cR (cL (cR (cR (cB Try.f58))))))
def St2 (c20 : List (Int × List (List Int) × Int × Unit)) : St := stL 23 [(3, .app 20 0)] [(20, .buf (.pair (.int .i64) (.pair (.sl (.arr 20 (.int .u8))) (.pair (.int .i64) .unit))) c20 0 true)]
def l0s {α : Type} (Nx : (List (Int × List (List Int) × Int × Unit)) → Int → Int → (List (Int × List (List Int) × Int × Unit)) → Option α) (Xt0 : (List (Int × List (List Int) × Int × Unit)) → Option α) (x6 : List (Int × List (List Int) × Int × Unit)) (x7 : Int) (x8 : Int) (c20 : List (Int × List (List Int) × Int × Unit)) : Option α :=
  if (decide (x8 < x7)) = true then
    if 0 ≤ x8 ∧ x8 < (x6.length : Int) then
      if fitB (0 + (List.getD x6 (Int.toNat x8) (0, [], 0, ())).2.1.length) 20 = true then
        if fitB (c20.length + 1) 40 = true then
          Nx x6 x7 (IntKind.i64.wrap (x8 + 1)) (c20 ++ [((List.getD x6 (Int.toNat x8) (0, [], 0, ())).1, (List.getD x6 (Int.toNat x8) (0, [], 0, ())).2.1, (List.getD x6 (Int.toNat x8) (0, [], 0, ())).2.2.1, ())])
        else none
      else none
    else none
  else
    Xt0 c20
theorem l0s_eq {α : Type} (k : Nat) (next : St → Option α) (Q : Ex → St → Option α) (x6 : List (Int × List (List Int) × Int × Unit)) (x7 : Int) (x8 : Int) (c20 : List (Int × List (List Int) × Int × Unit)) :
    rnd C k cd0 9 Q next (St1 x6 x7 x8 c20) = l0s (fun (x6 : List (Int × List (List Int) × Int × Unit)) (x7 : Int) (x8 : Int) (c20 : List (Int × List (List Int) × Int × Unit)) => next (St1 x6 x7 x8 c20)) (fun (c20 : List (Int × List (List Int) × Int × Unit)) => Q (.exit 0) (St2 c20)) x6 x7 x8 c20 := by
  have h : ∀ (D L : DT α), denJ D L Js C cd0 (lq C 9 next Q) (St1 x6 x7 x8 c20) =
        if (decide (x8 < x7)) = true then
          if 0 ≤ x8 ∧ x8 < (x6.length : Int) then
            if fitB (0 + (List.getD x6 (Int.toNat x8) (0, [], 0, ())).2.1.length) 20 = true then
              if fitB (c20.length + 1) 40 = true then
                next (St1 x6 x7 (IntKind.i64.wrap (x8 + 1)) (c20 ++ [((List.getD x6 (Int.toNat x8) (0, [], 0, ())).1, (List.getD x6 (Int.toNat x8) (0, [], 0, ())).2.1, (List.getD x6 (Int.toNat x8) (0, [], 0, ())).2.2.1, ())]))
              else none
            else none
          else none
        else
          Q (.exit 0) (St2 c20) := by
    intro D L; kernel_rfl
  refine (show rnd C k cd0 9 Q next (St1 x6 x7 x8 c20) = denJ (den C k) (lp C k) Js C cd0 (lq C 9 next Q) (St1 x6 x7 x8 c20) from (denJ_den _ _ _ _ _ _).symm).trans ((h (den C k) (lp C k)).trans ?_)
  first | rfl | kernel_rfl
def l0 {α : Type} (k : Nat) (Xt0 : (List (Int × List (List Int) × Int × Unit)) → Option α) : Nat → (List (Int × List (List Int) × Int × Unit)) → Int → Int → (List (Int × List (List Int) × Int × Unit)) → Option α
  | 0, _, _, _, _ => none
  | n + 1, x6, x7, x8, c20 => l0s (l0 k Xt0 n) Xt0 x6 x7 x8 c20
theorem l0_eq {α : Type} (k : Nat) (Q : Ex → St → Option α) : ∀ (n : Nat) (x6 : List (Int × List (List Int) × Int × Unit)) (x7 : Int) (x8 : Int) (c20 : List (Int × List (List Int) × Int × Unit)), iter (rnd C k cd0 9 Q) n (St1 x6 x7 x8 c20) = l0 k (fun (c20 : List (Int × List (List Int) × Int × Unit)) => Q (.exit 0) (St2 c20)) n x6 x7 x8 c20
  | 0, _, _, _, _ => rfl
  | n + 1, x6, x7, x8, c20 => (iter_succ _ _ _).trans ((l0s_eq k (iter (rnd C k cd0 9 Q) n) Q x6 x7 x8 c20).trans (congrArg (fun N => l0s N (fun (c20 : List (Int × List (List Int) × Int × Unit)) => Q (.exit 0) (St2 c20)) x6 x7 x8 c20) (funext fun x6 => funext fun x7 => funext fun x8 => funext fun c20 => l0_eq k Q n x6 x7 x8 c20)))
theorem l0_congr {α : Type} (k : Nat) (Xt0 : (List (Int × List (List Int) × Int × Unit)) → Option α) (Xt0q : (List (Int × List (List Int) × Int × Unit)) → Option α) (hXt0 : ∀ (c20 : List (Int × List (List Int) × Int × Unit)), Xt0 c20 = Xt0q c20) (n : Nat) (x6 : List (Int × List (List Int) × Int × Unit)) (x7 : Int) (x8 : Int) (c20 : List (Int × List (List Int) × Int × Unit)) : l0 k Xt0 n x6 x7 x8 c20 = l0 k Xt0q n x6 x7 x8 c20 := by
  obtain rfl : Xt0 = Xt0q := by funext c20; exact hXt0 c20
  rfl
noncomputable def cd1 : Code := cR (cR (cR (cB Try.f58)))
def St3 (c20 : List (Int × List (List Int) × Int × Unit)) : St := stL 23 [(3, .app 20 0)] [(20, .buf (.pair (.int .i64) (.pair (.sl (.arr 20 (.int .u8))) (.pair (.int .i64) .unit))) c20 0 true)]
def St4 (c20 : List (Int × List (List Int) × Int × Unit)) : St := stL 23 [(2, .app 20 0)] [(20, .buf (.pair (.int .i64) (.pair (.sl (.arr 20 (.int .u8))) (.pair (.int .i64) .unit))) c20 0 true)]
def j0 {α : Type} (Rt : (List (Int × List (List Int) × Int × Unit)) → Option α) (c20 : List (Int × List (List Int) × Int × Unit)) : Option α :=
  Rt c20
theorem j0_eq {α : Type} (k : Nat) (Q : Ex → St → Option α) (c20 : List (Int × List (List Int) × Int × Unit)) :
    (den C k) cd1 Q (St3 c20) = j0 (fun (c20 : List (Int × List (List Int) × Int × Unit)) => Q .ret (St4 c20)) c20 := by
  have h : ∀ (D L : DT α), denJ D L Js C cd1 Q (St3 c20) =
        Q .ret (St4 c20) := by
    intro D L; kernel_rfl
  refine (show (den C k) cd1 Q (St3 c20) = denJ (den C k) (lp C k) Js C cd1 Q (St3 c20) from (denJ_den _ _ _ _ _ _).symm).trans ((h (den C k) (lp C k)).trans ?_)
  first | rfl | kernel_rfl
theorem a0 {α : Type} (k : Nat) (Q : Ex → St → Option α) (x6 : List (Int × List (List Int) × Int × Unit)) (x7 : Int) (x8 : Int) (c20 : List (Int × List (List Int) × Int × Unit)) :
    (lp C k) cd0 (blkQ C 0 (sq (den C k) (lp C k) Js C cd1 Q)) (St1 x6 x7 x8 c20) = l0 k (fun (c20 : List (Int × List (List Int) × Int × Unit)) => j0 (fun (c20 : List (Int × List (List Int) × Int × Unit)) => Q .ret (St4 c20)) c20) k x6 x7 x8 c20 :=
  (show (lp C k) cd0 (blkQ C 0 (sq (den C k) (lp C k) Js C cd1 Q)) (St1 x6 x7 x8 c20) = iter (rnd C k cd0 9 (blkQ C 0 (sq (den C k) (lp C k) Js C cd1 Q))) k (St1 x6 x7 x8 c20) by kernel_rfl).trans ((l0_eq k (blkQ C 0 (sq (den C k) (lp C k) Js C cd1 Q)) k x6 x7 x8 c20).trans (l0_congr k _ _ (fun c20 => ((show (blkQ C 0 (sq (den C k) (lp C k) Js C cd1 Q)) (.exit 0) (St2 c20) = (den C k) cd1 Q (St3 c20) by kernel_rfl).trans (by simp only [j0_eq]))) k x6 x7 x8 c20))
def top {α : Type} (k : Nat) (Rt : (List (Int × List (List Int) × Int × Unit)) → Option α) (x0 : List (Int × List (List Int) × Int × Unit)) : Option α :=
  l0 k (fun (c20 : List (Int × List (List Int) × Int × Unit)) => j0 Rt c20) k x0 (x0.length : Int) 0 []
theorem top_eq {α : Type} (k : Nat) (Q : Ex → St → Option α) (x0 : List (Int × List (List Int) × Int × Unit)) :
    (den C k) (cB Try.f58) Q (St0 x0) = top k (fun (c20 : List (Int × List (List Int) × Int × Unit)) => Q .ret (St4 c20)) x0 := by
  have h : ∀ (D L : DT α), denJ D L Js C (cB Try.f58) Q (St0 x0) =
        L cd0 (blkQ C 0 (sq D L Js C cd1 Q)) (St1 x0 (x0.length : Int) 0 []) := by
    intro D L; kernel_rfl
  refine (show (den C k) (cB Try.f58) Q (St0 x0) = denJ (den C k) (lp C k) Js C (cB Try.f58) Q (St0 x0) from (denJ_den _ _ _ _ _ _).symm).trans ((h (den C k) (lp C k)).trans ?_)
  simp only [a0]
  first | rfl | kernel_rfl
def run (x0 : List (Int × List (List Int) × Int × Unit)) : Option (List (Int × List (List Int) × Int × Unit)) := top (α := List (Int × List (List Int) × Int × Unit)) fuel (fun (c20 : List (Int × List (List Int) × Int × Unit)) => some c20) x0
def F : Fn := ⟨(.pair (.sl (.pair (.int .i64) (.pair (.sl (.arr 20 (.int .u8))) (.pair (.int .i64) .unit)))) .unit), (.sl (.pair (.int .i64) (.pair (.sl (.arr 20 (.int .u8))) (.pair (.int .i64) .unit)))), false, fun x => run x.1⟩
set_option maxRecDepth 100000 in
theorem con : Con Try.prog 58 F := by
  refine con_of_den (C := C) (ctx_ok (by kernel_rfl) (by kernel_rfl) (by kernel_rfl) trivial) (by kernel_rfl) Try.func58 (c := cB Try.f58) (by kernel_rfl) (by kernel_rfl) F fuel (fun x => by simp [F, spread, Try.ntmps58]) ?_
  intro x r h
  rw [← h]
  have h1 : start F Try.f58.ntmps x = (St0 x.1) := by kernel_rfl
  rw [h1]
  refine (top_eq fuel (fin C Try.f58.results.toList F.rs F.multi) x.1).trans ?_
  kernel_rfl
theorem named : Named Try.prog 58 := named_of Try.func58 (by kernel_rfl) (by kernel_rfl)
end Go.Bx.sets_fresh
namespace Go.Bx.sets_fresh_s1
open Go Go.Proofs Go.Bx
set_option maxRecDepth 100000
set_option linter.unusedVariables false
def Js : List Nat := [9]
def C : Ctx := ⟨[(22, (.sl (.pair (.int .i64) (.pair (.sl (.arr 20 (.int .u8))) (.pair (.int .i64) .unit))))), (26, (.sl (.arr 20 (.int .u8)))), (32, (.pair (.int .i64) (.pair (.sl (.arr 20 (.int .u8))) (.pair (.int .i64) .unit))))], [], [], fnL [], noSh, [], noInv, [(2, [2]), (1, [3]), (4, [3, 6, 7, 8]), (9, [3, 6, 7, 8]), (24, [3])], [(9, [.melt true 3 [] 20 false])], [], 1, 0⟩
def St0 (c0 : List (Int × List (List Int) × Int × Unit)) : St := stL 23 [(0, .app 0 0)] [(0, .buf (.pair (.int .i64) (.pair (.sl (.arr 20 (.int .u8))) (.pair (.int .i64) .unit))) c0 0 true)]
def St1 (x7 : Int) (x8 : Int) (c0 : List (Int × List (List Int) × Int × Unit)) (c21 : List (Int × List (List Int) × Int × Unit)) : St := stL 23 [(3, .app 21 0), (6, .app 0 1), (7, .data (.int .i64) x7), (8, .data (.int .i64) x8)] [(0, .buf (.pair (.int .i64) (.pair (.sl (.arr 20 (.int .u8))) (.pair (.int .i64) .unit))) c0 1 true), (21, .buf (.pair (.int .i64) (.pair (.sl (.arr 20 (.int .u8))) (.pair (.int .i64) .unit))) c21 0 false)]
noncomputable def cd0 : Code := cL (cL (cR (cL (cR (cR (cB Try.f58))))))
def St2 (c0 : List (Int × List (List Int) × Int × Unit)) (c21 : List (Int × List (List Int) × Int × Unit)) : St := stL 23 [(3, .app 21 0)] [(0, .buf (.pair (.int .i64) (.pair (.sl (.arr 20 (.int .u8))) (.pair (.int .i64) .unit))) c0 1 true), (21, .buf (.pair (.int .i64) (.pair (.sl (.arr 20 (.int .u8))) (.pair (.int .i64) .unit))) c21 0 false)]
def l0s {α : Type} (Nx : Int → Int → (List (Int × List (List Int) × Int × Unit)) → (List (Int × List (List Int) × Int × Unit)) → Option α) (Xt0 : (List (Int × List (List Int) × Int × Unit)) → (List (Int × List (List Int) × Int × Unit)) → Option α) (x7 : Int) (x8 : Int) (c0 : List (Int × List (List Int) × Int × Unit)) (c21 : List (Int × List (List Int) × Int × Unit)) : Option α :=
  if (decide (x8 < x7)) = true then
    if 0 ≤ x8 ∧ x8 < (c0.length : Int) then
      if (fitB (0 + (List.getD c0 (Int.toNat x8) (0, [], 0, ())).2.1.length) 20 && (Nat.beq 0 0 || Nat.blt 0 (List.getD c0 (Int.toNat x8) (0, [], 0, ())).2.1.length)) = true then
        if fitB (c21.length + 1) 40 = true then
          Nx x7 (IntKind.i64.wrap (x8 + 1)) c0 (c21 ++ [((List.getD c0 (Int.toNat x8) (0, [], 0, ())).1, (List.getD c0 (Int.toNat x8) (0, [], 0, ())).2.1, (List.getD c0 (Int.toNat x8) (0, [], 0, ())).2.2.1, ())])
        else none
      else none
    else none
  else
    Xt0 c0 c21
theorem l0s_eq {α : Type} (k : Nat) (next : St → Option α) (Q : Ex → St → Option α) (x7 : Int) (x8 : Int) (c0 : List (Int × List (List Int) × Int × Unit)) (c21 : List (Int × List (List Int) × Int × Unit)) :
    rnd C k cd0 9 Q next (St1 x7 x8 c0 c21) = l0s (fun (x7 : Int) (x8 : Int) (c0 : List (Int × List (List Int) × Int × Unit)) (c21 : List (Int × List (List Int) × Int × Unit)) => next (St1 x7 x8 c0 c21)) (fun (c0 : List (Int × List (List Int) × Int × Unit)) (c21 : List (Int × List (List Int) × Int × Unit)) => Q (.exit 0) (St2 c0 c21)) x7 x8 c0 c21 := by
  have h : ∀ (D L : DT α), denJ D L Js C cd0 (lq C 9 next Q) (St1 x7 x8 c0 c21) =
        if (decide (x8 < x7)) = true then
          if 0 ≤ x8 ∧ x8 < (c0.length : Int) then
            if (fitB (0 + (List.getD c0 (Int.toNat x8) (0, [], 0, ())).2.1.length) 20 && (Nat.beq 0 0 || Nat.blt 0 (List.getD c0 (Int.toNat x8) (0, [], 0, ())).2.1.length)) = true then
              if fitB (c21.length + 1) 40 = true then
                next (St1 x7 (IntKind.i64.wrap (x8 + 1)) c0 (c21 ++ [((List.getD c0 (Int.toNat x8) (0, [], 0, ())).1, (List.getD c0 (Int.toNat x8) (0, [], 0, ())).2.1, (List.getD c0 (Int.toNat x8) (0, [], 0, ())).2.2.1, ())]))
              else none
            else none
          else none
        else
          Q (.exit 0) (St2 c0 c21) := by
    intro D L; kernel_rfl
  refine (show rnd C k cd0 9 Q next (St1 x7 x8 c0 c21) = denJ (den C k) (lp C k) Js C cd0 (lq C 9 next Q) (St1 x7 x8 c0 c21) from (denJ_den _ _ _ _ _ _).symm).trans ((h (den C k) (lp C k)).trans ?_)
  first | rfl | kernel_rfl
def l0 {α : Type} (k : Nat) (Xt0 : (List (Int × List (List Int) × Int × Unit)) → (List (Int × List (List Int) × Int × Unit)) → Option α) : Nat → Int → Int → (List (Int × List (List Int) × Int × Unit)) → (List (Int × List (List Int) × Int × Unit)) → Option α
  | 0, _, _, _, _ => none
  | n + 1, x7, x8, c0, c21 => l0s (l0 k Xt0 n) Xt0 x7 x8 c0 c21
theorem l0_eq {α : Type} (k : Nat) (Q : Ex → St → Option α) : ∀ (n : Nat) (x7 : Int) (x8 : Int) (c0 : List (Int × List (List Int) × Int × Unit)) (c21 : List (Int × List (List Int) × Int × Unit)), iter (rnd C k cd0 9 Q) n (St1 x7 x8 c0 c21) = l0 k (fun (c0 : List (Int × List (List Int) × Int × Unit)) (c21 : List (Int × List (List Int) × Int × Unit)) => Q (.exit 0) (St2 c0 c21)) n x7 x8 c0 c21
  | 0, _, _, _, _ => rfl
  | n + 1, x7, x8, c0, c21 => (iter_succ _ _ _).trans ((l0s_eq k (iter (rnd C k cd0 9 Q) n) Q x7 x8 c0 c21).trans (congrArg (fun N => l0s N (fun (c0 : List (Int × List (List Int) × Int × Unit)) (c21 : List (Int × List (List Int) × Int × Unit)) => Q (.exit 0) (St2 c0 c21)) x7 x8 c0 c21) (funext fun x7 => funext fun x8 => funext fun c0 => funext fun c21 => l0_eq k Q n x7 x8 c0 c21)))
theorem l0_congr {α : Type} (k : Nat) (Xt0 : (List (Int × List (List Int) × Int × Unit)) → (List (Int × List (List Int) × Int × Unit)) → Option α) (Xt0q : (List (Int × List (List Int) × Int × Unit)) → (List (Int × List (List Int) × Int × Unit)) → Option α) (hXt0 : ∀ (c0 : List (Int × List (List Int) × Int × Unit)) (c21 : List (Int × List (List Int) × Int × Unit)), Xt0 c0 c21 = Xt0q c0 c21) (n : Nat) (x7 : Int) (x8 : Int) (c0 : List (Int × List (List Int) × Int × Unit)) (c21 : List (Int × List (List Int) × Int × Unit)) : l0 k Xt0 n x7 x8 c0 c21 = l0 k Xt0q n x7 x8 c0 c21 := by
  obtain rfl : Xt0 = Xt0q := by funext c0; funext c21; exact hXt0 c0 c21
  rfl
noncomputable def cd1 : Code := cR (cR (cR (cB Try.f58)))
def St3 (c0 : List (Int × List (List Int) × Int × Unit)) (c21 : List (Int × List (List Int) × Int × Unit)) : St := stL 23 [(3, .app 21 0)] [(0, .buf (.pair (.int .i64) (.pair (.sl (.arr 20 (.int .u8))) (.pair (.int .i64) .unit))) c0 1 true), (21, .buf (.pair (.int .i64) (.pair (.sl (.arr 20 (.int .u8))) (.pair (.int .i64) .unit))) c21 0 false)]
def St4 (c0 : List (Int × List (List Int) × Int × Unit)) (c21 : List (Int × List (List Int) × Int × Unit)) : St := stL 23 [(2, .app 21 0)] [(0, .buf (.pair (.int .i64) (.pair (.sl (.arr 20 (.int .u8))) (.pair (.int .i64) .unit))) c0 1 true), (21, .buf (.pair (.int .i64) (.pair (.sl (.arr 20 (.int .u8))) (.pair (.int .i64) .unit))) c21 0 false)]
def j0 {α : Type} (Rt : (List (Int × List (List Int) × Int × Unit)) → (List (Int × List (List Int) × Int × Unit)) → Option α) (c0 : List (Int × List (List Int) × Int × Unit)) (c21 : List (Int × List (List Int) × Int × Unit)) : Option α :=
  Rt c0 c21
theorem j0_eq {α : Type} (k : Nat) (Q : Ex → St → Option α) (c0 : List (Int × List (List Int) × Int × Unit)) (c21 : List (Int × List (List Int) × Int × Unit)) :
    (den C k) cd1 (endQ C Q) (St3 c0 c21) = j0 (fun (c0 : List (Int × List (List Int) × Int × Unit)) (c21 : List (Int × List (List Int) × Int × Unit)) => Q .ret (St4 c0 c21)) c0 c21 := by
  have h : ∀ (D L : DT α), denJ D L Js C cd1 (endQ C Q) (St3 c0 c21) =
        Q .ret (St4 c0 c21) := by
    intro D L; kernel_rfl
  refine (show (den C k) cd1 (endQ C Q) (St3 c0 c21) = denJ (den C k) (lp C k) Js C cd1 (endQ C Q) (St3 c0 c21) from (denJ_den _ _ _ _ _ _).symm).trans ((h (den C k) (lp C k)).trans ?_)
  first | rfl | kernel_rfl
theorem a0 {α : Type} (k : Nat) (Q : Ex → St → Option α) (x7 : Int) (x8 : Int) (c0 : List (Int × List (List Int) × Int × Unit)) (c21 : List (Int × List (List Int) × Int × Unit)) :
    (lp C k) cd0 (blkQ C 0 (sq (den C k) (lp C k) Js C cd1 (endQ C Q))) (St1 x7 x8 c0 c21) = l0 k (fun (c0 : List (Int × List (List Int) × Int × Unit)) (c21 : List (Int × List (List Int) × Int × Unit)) => j0 (fun (c0 : List (Int × List (List Int) × Int × Unit)) (c21 : List (Int × List (List Int) × Int × Unit)) => Q .ret (St4 c0 c21)) c0 c21) k x7 x8 c0 c21 :=
  (show (lp C k) cd0 (blkQ C 0 (sq (den C k) (lp C k) Js C cd1 (endQ C Q))) (St1 x7 x8 c0 c21) = iter (rnd C k cd0 9 (blkQ C 0 (sq (den C k) (lp C k) Js C cd1 (endQ C Q)))) k (St1 x7 x8 c0 c21) by kernel_rfl).trans ((l0_eq k (blkQ C 0 (sq (den C k) (lp C k) Js C cd1 (endQ C Q))) k x7 x8 c0 c21).trans (l0_congr k _ _ (fun c0 c21 => ((show (blkQ C 0 (sq (den C k) (lp C k) Js C cd1 (endQ C Q))) (.exit 0) (St2 c0 c21) = (den C k) cd1 (endQ C Q) (St3 c0 c21) by kernel_rfl).trans (by simp only [j0_eq]))) k x7 x8 c0 c21))
def top {α : Type} (k : Nat) (Rt : (List (Int × List (List Int) × Int × Unit)) → (List (Int × List (List Int) × Int × Unit)) → Option α) (c0 : List (Int × List (List Int) × Int × Unit)) : Option α :=
  l0 k (fun (c0 : List (Int × List (List Int) × Int × Unit)) (c21 : List (Int × List (List Int) × Int × Unit)) => j0 Rt c0 c21) k (c0.length : Int) 0 c0 []
theorem top_eq {α : Type} (k : Nat) (Q : Ex → St → Option α) (c0 : List (Int × List (List Int) × Int × Unit)) :
    (den C k) (cB Try.f58) (endQ C Q) (St0 c0) = top k (fun (c0 : List (Int × List (List Int) × Int × Unit)) (c21 : List (Int × List (List Int) × Int × Unit)) => Q .ret (St4 c0 c21)) c0 := by
  have h : ∀ (D L : DT α), denJ D L Js C (cB Try.f58) (endQ C Q) (St0 c0) =
        L cd0 (blkQ C 0 (sq D L Js C cd1 (endQ C Q))) (St1 (c0.length : Int) 0 c0 []) := by
    intro D L; kernel_rfl
  refine (show (den C k) (cB Try.f58) (endQ C Q) (St0 c0) = denJ (den C k) (lp C k) Js C (cB Try.f58) (endQ C Q) (St0 c0) from (denJ_den _ _ _ _ _ _).symm).trans ((h (den C k) (lp C k)).trans ?_)
  simp only [a0]
  first | rfl | kernel_rfl
def run (c0 : List (Int × List (List Int) × Int × Unit)) : Option ((List (Int × List (List Int) × Int × Unit)) × (List (Int × List (List Int) × Int × Unit)) × Unit) := top (α := (List (Int × List (List Int) × Int × Unit)) × (List (Int × List (List Int) × Int × Unit)) × Unit) fuel (fun (c0 : List (Int × List (List Int) × Int × Unit)) (c21 : List (Int × List (List Int) × Int × Unit)) => some (c0, c21, ())) c0
def Sp : Spec := ⟨[.app 0 0], [(0, hB (.pair (.int .i64) (.pair (.sl (.arr 20 (.int .u8))) (.pair (.int .i64) .unit))) 0 true)], (.pair (.sl (.pair (.int .i64) (.pair (.sl (.arr 20 (.int .u8))) (.pair (.int .i64) .unit)))) .unit), .app 21 0, [(0, hB (.pair (.int .i64) (.pair (.sl (.arr 20 (.int .u8))) (.pair (.int .i64) .unit))) 1 true), (21, hB (.pair (.int .i64) (.pair (.sl (.arr 20 (.int .u8))) (.pair (.int .i64) .unit))) 0 false)], (.pair (.sl (.pair (.int .i64) (.pair (.sl (.arr 20 (.int .u8))) (.pair (.int .i64) .unit)))) (.pair (.sl (.pair (.int .i64) (.pair (.sl (.arr 20 (.int .u8))) (.pair (.int .i64) .unit)))) .unit)), fun x => run x.1⟩
set_option maxRecDepth 100000 in
theorem sok : SOk Try.prog 58 Sp.h := by
  refine sok_of_den (C := C) (ctx_ok (by kernel_rfl) (by kernel_rfl) (by kernel_rfl) trivial) (by kernel_rfl) Try.func58 (c := cB Try.f58) (by kernel_rfl) (by kernel_rfl) Sp fuel (by kernel_rfl) (by kernel_rfl) ?_
  intro x r h
  rw [← h]
  have h1 : Sp.start x Try.f58.ntmps = (St0 x.1) := by kernel_rfl
  rw [h1]
  refine (top_eq fuel (finS C Try.f58.results.toList Sp.read) x.1).trans ?_
  kernel_rfl
theorem named : Named Try.prog 58 := named_of Try.func58 (by kernel_rfl) (by kernel_rfl)
end Go.Bx.sets_fresh_s1
namespace Go.Bx.basculelaw_sameKeys
open Go Go.Proofs Go.Bx
set_option maxRecDepth 100000
set_option linter.unusedVariables false
def Js : List Nat := [10]
def C : Ctx := ⟨[(4, .bool), (26, (.sl (.arr 20 (.int .u8)))), (168, (.arr 20 (.int .u8)))], [], [], fnL [], noSh, [], noInv, [(2, [4]), (1, []), (4, [0, 1, 12, 13]), (12, [0, 1, 12, 13]), (27, [])], [], [], 0, 0⟩
def St0 (x0 : List (List Int)) (x1 : List (List Int)) : St := stL 26 [(0, .data (.sl (.arr 20 (.int .u8))) x0), (1, .data (.sl (.arr 20 (.int .u8))) x1)] []
def St1 (x4 : Bool) : St := stL 26 [(4, .data .bool x4)] []
def St2 (x0 : List (List Int)) (x1 : List (List Int)) (x12 : Int) (x13 : Int) : St := stL 26 [(0, .data (.sl (.arr 20 (.int .u8))) x0), (1, .data (.sl (.arr 20 (.int .u8))) x1), (12, .data (.int .i64) x12), (13, .data (.int .i64) x13)] []
noncomputable def cd0 : Code := cL (cL (cR (cL (cR (cR (cB Try.f59))))))
def St3 : St := stL 26 [] []
def l0s {α : Type} (Nx : (List (List Int)) → (List (List Int)) → Int → Int → Option α) (Rt : Bool → Option α) (Xt0 : Option α) (x0 : List (List Int)) (x1 : List (List Int)) (x12 : Int) (x13 : Int) : Option α :=
  if (decide (x13 < x12)) = true then
    if 0 ≤ x13 ∧ x13 < (x0.length : Int) then
      if 0 ≤ x13 ∧ x13 < (x1.length : Int) then
        if (not (beqD (.arr 20 (.int .u8)) (List.getD x0 (Int.toNat x13) (List.replicate 20 0)) (List.getD x1 (Int.toNat x13) (List.replicate 20 0)))) = true then
          Rt false
        else
          Nx x0 x1 x12 (IntKind.i64.wrap (x13 + 1))
      else none
    else none
  else
    Xt0
theorem l0s_eq {α : Type} (k : Nat) (next : St → Option α) (Q : Ex → St → Option α) (x0 : List (List Int)) (x1 : List (List Int)) (x12 : Int) (x13 : Int) :
    rnd C k cd0 12 Q next (St2 x0 x1 x12 x13) = l0s (fun (x0 : List (List Int)) (x1 : List (List Int)) (x12 : Int) (x13 : Int) => next (St2 x0 x1 x12 x13)) (fun (x4 : Bool) => Q .ret (St1 x4)) (Q (.exit 0) St3) x0 x1 x12 x13 := by
  have h : ∀ (D L : DT α), denJ D L Js C cd0 (lq C 12 next Q) (St2 x0 x1 x12 x13) =
        if (decide (x13 < x12)) = true then
          if 0 ≤ x13 ∧ x13 < (x0.length : Int) then
            if 0 ≤ x13 ∧ x13 < (x1.length : Int) then
              if (not (beqD (.arr 20 (.int .u8)) (List.getD x0 (Int.toNat x13) (List.replicate 20 0)) (List.getD x1 (Int.toNat x13) (List.replicate 20 0)))) = true then
                Q .ret (St1 false)
              else
                next (St2 x0 x1 x12 (IntKind.i64.wrap (x13 + 1)))
            else none
          else none
        else
          Q (.exit 0) St3 := by
    intro D L; kernel_rfl
  refine (show rnd C k cd0 12 Q next (St2 x0 x1 x12 x13) = denJ (den C k) (lp C k) Js C cd0 (lq C 12 next Q) (St2 x0 x1 x12 x13) from (denJ_den _ _ _ _ _ _).symm).trans ((h (den C k) (lp C k)).trans ?_)
  first | rfl | kernel_rfl
def l0 {α : Type} (k : Nat) (Rt : Bool → Option α) (Xt0 : Option α) : Nat → (List (List Int)) → (List (List Int)) → Int → Int → Option α
  | 0, _, _, _, _ => none
  | n + 1, x0, x1, x12, x13 => l0s (l0 k Rt Xt0 n) Rt Xt0 x0 x1 x12 x13
theorem l0_eq {α : Type} (k : Nat) (Q : Ex → St → Option α) : ∀ (n : Nat) (x0 : List (List Int)) (x1 : List (List Int)) (x12 : Int) (x13 : Int), iter (rnd C k cd0 12 Q) n (St2 x0 x1 x12 x13) = l0 k (fun (x4 : Bool) => Q .ret (St1 x4)) (Q (.exit 0) St3) n x0 x1 x12 x13
  | 0, _, _, _, _ => rfl
  | n + 1, x0, x1, x12, x13 => (iter_succ _ _ _).trans ((l0s_eq k (iter (rnd C k cd0 12 Q) n) Q x0 x1 x12 x13).trans (congrArg (fun N => l0s N (fun (x4 : Bool) => Q .ret (St1 x4)) (Q (.exit 0) St3) x0 x1 x12 x13) (funext fun x0 => funext fun x1 => funext fun x12 => funext fun x13 => l0_eq k Q n x0 x1 x12 x13)))
theorem l0_congr {α : Type} (k : Nat) (Rt : Bool → Option α) (Xt0 : Option α) (Rtq : Bool → Option α) (Xt0q : Option α) (hRt : ∀ (x4 : Bool), Rt x4 = Rtq x4) (hXt0 : Xt0 = Xt0q) (n : Nat) (x0 : List (List Int)) (x1 : List (List Int)) (x12 : Int) (x13 : Int) : l0 k Rt Xt0 n x0 x1 x12 x13 = l0 k Rtq Xt0q n x0 x1 x12 x13 := by
  obtain rfl : Rt = Rtq := by funext x4; exact hRt x4
  obtain rfl : Xt0 = Xt0q := hXt0
  rfl
noncomputable def cd1 : Code := cR (cR (cR (cB Try.f59)))
def St4 : St := stL 26 [] []
def j0 {α : Type} (Rt : Bool → Option α) : Option α :=
  Rt true
theorem j0_eq {α : Type} (k : Nat) (Q : Ex → St → Option α) :
    (den C k) cd1 Q St4 = j0 (fun (x4 : Bool) => Q .ret (St1 x4)) := by
  have h : ∀ (D L : DT α), denJ D L Js C cd1 Q St4 =
        Q .ret (St1 true) := by
    intro D L; kernel_rfl
  refine (show (den C k) cd1 Q St4 = denJ (den C k) (lp C k) Js C cd1 Q St4 from (denJ_den _ _ _ _ _ _).symm).trans ((h (den C k) (lp C k)).trans ?_)
  first | rfl | kernel_rfl
theorem a0 {α : Type} (k : Nat) (Q : Ex → St → Option α) (x0 : List (List Int)) (x1 : List (List Int)) (x12 : Int) (x13 : Int) :
    (lp C k) cd0 (blkQ C 0 (sq (den C k) (lp C k) Js C cd1 Q)) (St2 x0 x1 x12 x13) = l0 k (fun (x4 : Bool) => (fun (x4 : Bool) => Q .ret (St1 x4)) x4) (j0 (fun (x4 : Bool) => Q .ret (St1 x4))) k x0 x1 x12 x13 :=
  (show (lp C k) cd0 (blkQ C 0 (sq (den C k) (lp C k) Js C cd1 Q)) (St2 x0 x1 x12 x13) = iter (rnd C k cd0 12 (blkQ C 0 (sq (den C k) (lp C k) Js C cd1 Q))) k (St2 x0 x1 x12 x13) by kernel_rfl).trans ((l0_eq k (blkQ C 0 (sq (den C k) (lp C k) Js C cd1 Q)) k x0 x1 x12 x13).trans (l0_congr k _ _ _ _ (fun x4 => (show (blkQ C 0 (sq (den C k) (lp C k) Js C cd1 Q)) .ret (St1 x4) = Q .ret (St1 x4) by kernel_rfl)) ((show (blkQ C 0 (sq (den C k) (lp C k) Js C cd1 Q)) (.exit 0) St3 = (den C k) cd1 Q St4 by kernel_rfl).trans (by simp only [j0_eq])) k x0 x1 x12 x13))
def top {α : Type} (k : Nat) (Rt : Bool → Option α) (x0 : List (List Int)) (x1 : List (List Int)) : Option α :=
  if ((x0.length : Int) != (x1.length : Int)) = true then
    Rt false
  else
    l0 k (fun (x4 : Bool) => Rt x4) (j0 Rt) k x0 x1 (x0.length : Int) 0
theorem top_eq {α : Type} (k : Nat) (Q : Ex → St → Option α) (x0 : List (List Int)) (x1 : List (List Int)) :
    (den C k) (cB Try.f59) Q (St0 x0 x1) = top k (fun (x4 : Bool) => Q .ret (St1 x4)) x0 x1 := by
  have h : ∀ (D L : DT α), denJ D L Js C (cB Try.f59) Q (St0 x0 x1) =
        if ((x0.length : Int) != (x1.length : Int)) = true then
          Q .ret (St1 false)
        else
          L cd0 (blkQ C 0 (sq D L Js C cd1 Q)) (St2 x0 x1 (x0.length : Int) 0) := by
    intro D L; kernel_rfl
  refine (show (den C k) (cB Try.f59) Q (St0 x0 x1) = denJ (den C k) (lp C k) Js C (cB Try.f59) Q (St0 x0 x1) from (denJ_den _ _ _ _ _ _).symm).trans ((h (den C k) (lp C k)).trans ?_)
  simp only [a0]
  first | rfl | kernel_rfl
def run (x0 : List (List Int)) (x1 : List (List Int)) : Option (Bool) := top (α := Bool) fuel (fun (x4 : Bool) => some x4) x0 x1
def F : Fn := ⟨(.pair (.sl (.arr 20 (.int .u8))) (.pair (.sl (.arr 20 (.int .u8))) .unit)), .bool, false, fun x => run x.1 x.2.1⟩
set_option maxRecDepth 100000 in
theorem con : Con Try.prog 59 F := by
  refine con_of_den (C := C) (ctx_ok (by kernel_rfl) (by kernel_rfl) (by kernel_rfl) trivial) (by kernel_rfl) Try.func59 (c := cB Try.f59) (by kernel_rfl) (by kernel_rfl) F fuel (fun x => by simp [F, spread, Try.ntmps59]) ?_
  intro x r h
  rw [← h]
  have h1 : start F Try.f59.ntmps x = (St0 x.1 x.2.1) := by kernel_rfl
  rw [h1]
  refine (top_eq fuel (fin C Try.f59.results.toList F.rs F.multi) x.1 x.2.1).trans ?_
  kernel_rfl
theorem named : Named Try.prog 59 := named_of Try.func59 (by kernel_rfl) (by kernel_rfl)
end Go.Bx.basculelaw_sameKeys
namespace Go.Bx.basculelaw_sameSet
open Go Go.Proofs Go.Bx
set_option maxRecDepth 100000
set_option linter.unusedVariables false
def Js : List Nat := []
def C : Ctx := ⟨[(3, (.int .i64)), (4, .bool), (26, (.sl (.arr 20 (.int .u8)))), (32, (.pair (.int .i64) (.pair (.sl (.arr 20 (.int .u8))) (.pair (.int .i64) .unit))))], [], [], fnL [(59, Go.Bx.basculelaw_sameKeys.F)], noSh, [], noInv, [(2, [4])], [], [], 0, 0⟩
def St0 (x0 : Int × List (List Int) × Int × Unit) (x1 : Int × List (List Int) × Int × Unit) : St := stL 24 [(0, .data (.pair (.int .i64) (.pair (.sl (.arr 20 (.int .u8))) (.pair (.int .i64) .unit))) x0), (1, .data (.pair (.int .i64) (.pair (.sl (.arr 20 (.int .u8))) (.pair (.int .i64) .unit))) x1)] []
def St1 (x4 : Bool) : St := stL 24 [(4, .data .bool x4)] []
def top {α : Type} (Rt : Bool → Option α) (x0 : Int × List (List Int) × Int × Unit) (x1 : Int × List (List Int) × Int × Unit) : Option α :=
  (if ((cond (x0.1 == x1.1) (x0.2.2.1 == x1.2.2.1) false) == true) = true then Go.Bx.basculelaw_sameKeys.run x0.2.1 x1.2.1 else some false).bind fun y1 =>
  Rt (cond (cond (x0.1 == x1.1) (x0.2.2.1 == x1.2.2.1) false) y1 false)
theorem top_eq {α : Type} (k : Nat) (Q : Ex → St → Option α) (x0 : Int × List (List Int) × Int × Unit) (x1 : Int × List (List Int) × Int × Unit) :
    (den C k) (cB Try.f25) Q (St0 x0 x1) = top (fun (x4 : Bool) => Q .ret (St1 x4)) x0 x1 := by
  have h : ∀ (D L : DT α), denJ D L Js C (cB Try.f25) Q (St0 x0 x1) =
        (if ((cond (x0.1 == x1.1) (x0.2.2.1 == x1.2.2.1) false) == true) = true then Go.Bx.basculelaw_sameKeys.run x0.2.1 x1.2.1 else some false).bind fun y1 =>
        Q .ret (St1 (cond (cond (x0.1 == x1.1) (x0.2.2.1 == x1.2.2.1) false) y1 false)) := by
    intro D L; kernel_rfl
  refine (show (den C k) (cB Try.f25) Q (St0 x0 x1) = denJ (den C k) (lp C k) Js C (cB Try.f25) Q (St0 x0 x1) from (denJ_den _ _ _ _ _ _).symm).trans ((h (den C k) (lp C k)).trans ?_)
  first | rfl | kernel_rfl
def run (x0 : Int × List (List Int) × Int × Unit) (x1 : Int × List (List Int) × Int × Unit) : Option (Bool) := top (α := Bool) (fun (x4 : Bool) => some x4) x0 x1
def F : Fn := ⟨(.pair (.pair (.int .i64) (.pair (.sl (.arr 20 (.int .u8))) (.pair (.int .i64) .unit))) (.pair (.pair (.int .i64) (.pair (.sl (.arr 20 (.int .u8))) (.pair (.int .i64) .unit))) .unit)), .bool, false, fun x => run x.1 x.2.1⟩
set_option maxRecDepth 100000 in
theorem con : Con Try.prog 25 F := by
  refine con_of_den (C := C) (ctx_ok (by kernel_rfl) (by kernel_rfl) (by kernel_rfl) ⟨.inl ⟨Go.Bx.basculelaw_sameKeys.con, Go.Bx.basculelaw_sameKeys.named⟩, trivial⟩) (by kernel_rfl) Try.func25 (c := cB Try.f25) (by kernel_rfl) (by kernel_rfl) F fuel (fun x => by simp [F, spread, Try.ntmps25]) ?_
  intro x r h
  rw [← h]
  have h1 : start F Try.f25.ntmps x = (St0 x.1 x.2.1) := by kernel_rfl
  rw [h1]
  refine (top_eq fuel (fin C Try.f25.results.toList F.rs F.multi) x.1 x.2.1).trans ?_
  kernel_rfl
theorem named : Named Try.prog 25 := named_of Try.func25 (by kernel_rfl) (by kernel_rfl)
end Go.Bx.basculelaw_sameSet
namespace Go.Bx.basculelaw_sameSets
open Go Go.Proofs Go.Bx
set_option maxRecDepth 100000
set_option linter.unusedVariables false
def Js : List Nat := [10]
def C : Ctx := ⟨[(4, .bool), (22, (.sl (.pair (.int .i64) (.pair (.sl (.arr 20 (.int .u8))) (.pair (.int .i64) .unit))))), (32, (.pair (.int .i64) (.pair (.sl (.arr 20 (.int .u8))) (.pair (.int .i64) .unit))))], [], [], fnL [(25, Go.Bx.basculelaw_sameSet.F)], noSh, [], noInv, [(2, [4]), (1, []), (4, [0, 1, 12, 13]), (12, [0, 1, 12, 13]), (27, [])], [], [], 0, 0⟩
def St0 (x0 : List (Int × List (List Int) × Int × Unit)) (x1 : List (Int × List (List Int) × Int × Unit)) : St := stL 27 [(0, .data (.sl (.pair (.int .i64) (.pair (.sl (.arr 20 (.int .u8))) (.pair (.int .i64) .unit)))) x0), (1, .data (.sl (.pair (.int .i64) (.pair (.sl (.arr 20 (.int .u8))) (.pair (.int .i64) .unit)))) x1)] []
def St1 (x4 : Bool) : St := stL 27 [(4, .data .bool x4)] []
def St2 (x0 : List (Int × List (List Int) × Int × Unit)) (x1 : List (Int × List (List Int) × Int × Unit)) (x12 : Int) (x13 : Int) : St := stL 27 [(0, .data (.sl (.pair (.int .i64) (.pair (.sl (.arr 20 (.int .u8))) (.pair (.int .i64) .unit)))) x0), (1, .data (.sl (.pair (.int .i64) (.pair (.sl (.arr 20 (.int .u8))) (.pair (.int .i64) .unit)))) x1), (12, .data (.int .i64) x12), (13, .data (.int .i64) x13)] []
noncomputable def cd0 : Code := cL (cL (cR (cL (cR (cR (cB Try.f22))))))
def St3 : St := stL 27 [] []
def l0s {α : Type} (Nx : (List (Int × List (List Int) × Int × Unit)) → (List (Int × List (List Int) × Int × Unit)) → Int → Int → Option α) (Rt : Bool → Option α) (Xt0 : Option α) (x0 : List (Int × List (List Int) × Int × Unit)) (x1 : List (Int × List (List Int) × Int × Unit)) (x12 : Int) (x13 : Int) : Option α :=
  if (decide (x13 < x12)) = true then
    if 0 ≤ x13 ∧ x13 < (x0.length : Int) then
      if 0 ≤ x13 ∧ x13 < (x1.length : Int) then
        (Go.Bx.basculelaw_sameSet.run (List.getD x0 (Int.toNat x13) (0, [], 0, ())) (List.getD x1 (Int.toNat x13) (0, [], 0, ()))).bind fun y1 =>
        if (not y1) = true then
          Rt false
        else
          Nx x0 x1 x12 (IntKind.i64.wrap (x13 + 1))
      else none
    else none
  else
    Xt0
theorem l0s_eq {α : Type} (k : Nat) (next : St → Option α) (Q : Ex → St → Option α) (x0 : List (Int × List (List Int) × Int × Unit)) (x1 : List (Int × List (List Int) × Int × Unit)) (x12 : Int) (x13 : Int) :
    rnd C k cd0 12 Q next (St2 x0 x1 x12 x13) = l0s (fun (x0 : List (Int × List (List Int) × Int × Unit)) (x1 : List (Int × List (List Int) × Int × Unit)) (x12 : Int) (x13 : Int) => next (St2 x0 x1 x12 x13)) (fun (x4 : Bool) => Q .ret (St1 x4)) (Q (.exit 0) St3) x0 x1 x12 x13 := by
  have h : ∀ (D L : DT α), denJ D L Js C cd0 (lq C 12 next Q) (St2 x0 x1 x12 x13) =
        if (decide (x13 < x12)) = true then
          if 0 ≤ x13 ∧ x13 < (x0.length : Int) then
            if 0 ≤ x13 ∧ x13 < (x1.length : Int) then
              (Go.Bx.basculelaw_sameSet.run (List.getD x0 (Int.toNat x13) (0, [], 0, ())) (List.getD x1 (Int.toNat x13) (0, [], 0, ()))).bind fun y1 =>
              if (not y1) = true then
                Q .ret (St1 false)
              else
                next (St2 x0 x1 x12 (IntKind.i64.wrap (x13 + 1)))
            else none
          else none
        else
          Q (.exit 0) St3 := by
    intro D L; kernel_rfl
  refine (show rnd C k cd0 12 Q next (St2 x0 x1 x12 x13) = denJ (den C k) (lp C k) Js C cd0 (lq C 12 next Q) (St2 x0 x1 x12 x13) from (denJ_den _ _ _ _ _ _).symm).trans ((h (den C k) (lp C k)).trans ?_)
  first | rfl | kernel_rfl
def l0 {α : Type} (k : Nat) (Rt : Bool → Option α) (Xt0 : Option α) : Nat → (List (Int × List (List Int) × Int × Unit)) → (List (Int × List (List Int) × Int × Unit)) → Int → Int → Option α
  | 0, _, _, _, _ => none
  | n + 1, x0, x1, x12, x13 => l0s (l0 k Rt Xt0 n) Rt Xt0 x0 x1 x12 x13
theorem l0_eq {α : Type} (k : Nat) (Q : Ex → St → Option α) : ∀ (n : Nat) (x0 : List (Int × List (List Int) × Int × Unit)) (x1 : List (Int × List (List Int) × Int × Unit)) (x12 : Int) (x13 : Int), iter (rnd C k cd0 12 Q) n (St2 x0 x1 x12 x13) = l0 k (fun (x4 : Bool) => Q .ret (St1 x4)) (Q (.exit 0) St3) n x0 x1 x12 x13
  | 0, _, _, _, _ => rfl
  | n + 1, x0, x1, x12, x13 => (iter_succ _ _ _).trans ((l0s_eq k (iter (rnd C k cd0 12 Q) n) Q x0 x1 x12 x13).trans (congrArg (fun N => l0s N (fun (x4 : Bool) => Q .ret (St1 x4)) (Q (.exit 0) St3) x0 x1 x12 x13) (funext fun x0 => funext fun x1 => funext fun x12 => funext fun x13 => l0_eq k Q n x0 x1 x12 x13)))
theorem l0_congr {α : Type} (k : Nat) (Rt : Bool → Option α) (Xt0 : Option α) (Rtq : Bool → Option α) (Xt0q : Option α) (hRt : ∀ (x4 : Bool), Rt x4 = Rtq x4) (hXt0 : Xt0 = Xt0q) (n : Nat) (x0 : List (Int × List (List Int) × Int × Unit)) (x1 : List (Int × List (List Int) × Int × Unit)) (x12 : Int) (x13 : Int) : l0 k Rt Xt0 n x0 x1 x12 x13 = l0 k Rtq Xt0q n x0 x1 x12 x13 := by
  obtain rfl : Rt = Rtq := by funext x4; exact hRt x4
  obtain rfl : Xt0 = Xt0q := hXt0
  rfl
noncomputable def cd1 : Code := cR (cR (cR (cB Try.f22)))
def St4 : St := stL 27 [] []
def j0 {α : Type} (Rt : Bool → Option α) : Option α :=
  Rt true
theorem j0_eq {α : Type} (k : Nat) (Q : Ex → St → Option α) :
    (den C k) cd1 Q St4 = j0 (fun (x4 : Bool) => Q .ret (St1 x4)) := by
  have h : ∀ (D L : DT α), denJ D L Js C cd1 Q St4 =
        Q .ret (St1 true) := by
    intro D L; kernel_rfl
  refine (show (den C k) cd1 Q St4 = denJ (den C k) (lp C k) Js C cd1 Q St4 from (denJ_den _ _ _ _ _ _).symm).trans ((h (den C k) (lp C k)).trans ?_)
  first | rfl | kernel_rfl
theorem a0 {α : Type} (k : Nat) (Q : Ex → St → Option α) (x0 : List (Int × List (List Int) × Int × Unit)) (x1 : List (Int × List (List Int) × Int × Unit)) (x12 : Int) (x13 : Int) :
    (lp C k) cd0 (blkQ C 0 (sq (den C k) (lp C k) Js C cd1 Q)) (St2 x0 x1 x12 x13) = l0 k (fun (x4 : Bool) => (fun (x4 : Bool) => Q .ret (St1 x4)) x4) (j0 (fun (x4 : Bool) => Q .ret (St1 x4))) k x0 x1 x12 x13 :=
  (show (lp C k) cd0 (blkQ C 0 (sq (den C k) (lp C k) Js C cd1 Q)) (St2 x0 x1 x12 x13) = iter (rnd C k cd0 12 (blkQ C 0 (sq (den C k) (lp C k) Js C cd1 Q))) k (St2 x0 x1 x12 x13) by kernel_rfl).trans ((l0_eq k (blkQ C 0 (sq (den C k) (lp C k) Js C cd1 Q)) k x0 x1 x12 x13).trans (l0_congr k _ _ _ _ (fun x4 => (show (blkQ C 0 (sq (den C k) (lp C k) Js C cd1 Q)) .ret (St1 x4) = Q .ret (St1 x4) by kernel_rfl)) ((show (blkQ C 0 (sq (den C k) (lp C k) Js C cd1 Q)) (.exit 0) St3 = (den C k) cd1 Q St4 by kernel_rfl).trans (by simp only [j0_eq])) k x0 x1 x12 x13))
def top {α : Type} (k : Nat) (Rt : Bool → Option α) (x0 : List (Int × List (List Int) × Int × Unit)) (x1 : List (Int × List (List Int) × Int × Unit)) : Option α :=
  if ((x0.length : Int) != (x1.length : Int)) = true then
    Rt false
  else
    l0 k (fun (x4 : Bool) => Rt x4) (j0 Rt) k x0 x1 (x0.length : Int) 0
theorem top_eq {α : Type} (k : Nat) (Q : Ex → St → Option α) (x0 : List (Int × List (List Int) × Int × Unit)) (x1 : List (Int × List (List Int) × Int × Unit)) :
    (den C k) (cB Try.f22) Q (St0 x0 x1) = top k (fun (x4 : Bool) => Q .ret (St1 x4)) x0 x1 := by
  have h : ∀ (D L : DT α), denJ D L Js C (cB Try.f22) Q (St0 x0 x1) =
        if ((x0.length : Int) != (x1.length : Int)) = true then
          Q .ret (St1 false)
        else
          L cd0 (blkQ C 0 (sq D L Js C cd1 Q)) (St2 x0 x1 (x0.length : Int) 0) := by
    intro D L; kernel_rfl
  refine (show (den C k) (cB Try.f22) Q (St0 x0 x1) = denJ (den C k) (lp C k) Js C (cB Try.f22) Q (St0 x0 x1) from (denJ_den _ _ _ _ _ _).symm).trans ((h (den C k) (lp C k)).trans ?_)
  simp only [a0]
  first | rfl | kernel_rfl
def run (x0 : List (Int × List (List Int) × Int × Unit)) (x1 : List (Int × List (List Int) × Int × Unit)) : Option (Bool) := top (α := Bool) fuel (fun (x4 : Bool) => some x4) x0 x1
def F : Fn := ⟨(.pair (.sl (.pair (.int .i64) (.pair (.sl (.arr 20 (.int .u8))) (.pair (.int .i64) .unit)))) (.pair (.sl (.pair (.int .i64) (.pair (.sl (.arr 20 (.int .u8))) (.pair (.int .i64) .unit)))) .unit)), .bool, false, fun x => run x.1 x.2.1⟩
set_option maxRecDepth 100000 in
theorem con : Con Try.prog 22 F := by
  refine con_of_den (C := C) (ctx_ok (by kernel_rfl) (by kernel_rfl) (by kernel_rfl) ⟨.inl ⟨Go.Bx.basculelaw_sameSet.con, Go.Bx.basculelaw_sameSet.named⟩, trivial⟩) (by kernel_rfl) Try.func22 (c := cB Try.f22) (by kernel_rfl) (by kernel_rfl) F fuel (fun x => by simp [F, spread, Try.ntmps22]) ?_
  intro x r h
  rw [← h]
  have h1 : start F Try.f22.ntmps x = (St0 x.1 x.2.1) := by kernel_rfl
  rw [h1]
  refine (top_eq fuel (fin C Try.f22.results.toList F.rs F.multi) x.1 x.2.1).trans ?_
  kernel_rfl
theorem named : Named Try.prog 22 := named_of Try.func22 (by kernel_rfl) (by kernel_rfl)
end Go.Bx.basculelaw_sameSets
namespace Go.Bx.sets_Live
open Go Go.Proofs Go.Bx
set_option maxRecDepth 100000
set_option linter.unusedVariables false
def Js : List Nat := []
def C : Ctx := ⟨[(3, (.int .i64)), (22, (.sl (.pair (.int .i64) (.pair (.sl (.arr 20 (.int .u8))) (.pair (.int .i64) .unit))))), (23, (.int .i64)), (32, (.pair (.int .i64) (.pair (.sl (.arr 20 (.int .u8))) (.pair (.int .i64) .unit))))], [], [], fnL [(18, Go.Bx.sets_Check.F), (58, Go.Bx.sets_fresh.F)], noSh, [], noInv, [(2, [6, 7])], [(2, [.dat false 6 []])], [], 0, 0⟩
def St0 (x0 : List (Int × List (List Int) × Int × Unit)) (x1 : Int) (x2 : Int) : St := stL 44 [(0, .data (.sl (.pair (.int .i64) (.pair (.sl (.arr 20 (.int .u8))) (.pair (.int .i64) .unit)))) x0), (1, .data (.int .i64) x1), (2, .data (.int .i64) x2)] []
def St1 (x7 : Int) (c6 : Int × List (List Int) × Int × Unit) : St := stL 44 [(6, .ref 6 0 []), (7, .data (.int .i64) x7)] [(6, .cell (.pair (.int .i64) (.pair (.sl (.arr 20 (.int .u8))) (.pair (.int .i64) .unit))) (.data (.pair (.int .i64) (.pair (.sl (.arr 20 (.int .u8))) (.pair (.int .i64) .unit))) c6) false)]
def top {α : Type} (Rt : Int → (Int × List (List Int) × Int × Unit) → Option α) (x0 : List (Int × List (List Int) × Int × Unit)) (x1 : Int) (x2 : Int) : Option α :=
  (Go.Bx.sets_Check.run x0).bind fun y1 =>
  if (y1 != 0) = true then
    Rt y1 (0, [], 0, ())
  else
    if (cond (decide (x1 < 0)) true (decide (x1 ≥ (x0.length : Int)))) = true then
      Rt 5 (0, [], 0, ())
    else
      if 0 ≤ x1 ∧ x1 ≤ (IntKind.i64.wrap (x1 + 1)) ∧ (IntKind.i64.wrap (x1 + 1)) ≤ (x0.length : Int) then
        (Go.Bx.sets_fresh.run (cutL x0 x1 (IntKind.i64.wrap (x1 + 1)))).bind fun y2 =>
        if 0 ≤ (0 : Int) ∧ (0 : Int) < (y2.length : Int) then
          if (cond ((List.getD y2 0 (0, [], 0, ())).2.2.1 != 0) (decide (x2 ≥ (List.getD y2 0 (0, [], 0, ())).2.2.1)) false) = true then
            Rt 15 (0, [], 0, ())
          else
            Rt 0 (List.getD y2 0 (0, [], 0, ()))
        else none
      else none
theorem top_eq {α : Type} (k : Nat) (Q : Ex → St → Option α) (x0 : List (Int × List (List Int) × Int × Unit)) (x1 : Int) (x2 : Int) :
    (den C k) (cB Try.f23) Q (St0 x0 x1 x2) = top (fun (x7 : Int) (c6 : Int × List (List Int) × Int × Unit) => Q .ret (St1 x7 c6)) x0 x1 x2 := by
  have h : ∀ (D L : DT α), denJ D L Js C (cB Try.f23) Q (St0 x0 x1 x2) =
        (Go.Bx.sets_Check.run x0).bind fun y1 =>
        if (y1 != 0) = true then
          Q .ret (St1 y1 (0, [], 0, ()))
        else
          if (cond (decide (x1 < 0)) true (decide (x1 ≥ (x0.length : Int)))) = true then
            Q .ret (St1 5 (0, [], 0, ()))
          else
            if 0 ≤ x1 ∧ x1 ≤ (IntKind.i64.wrap (x1 + 1)) ∧ (IntKind.i64.wrap (x1 + 1)) ≤ (x0.length : Int) then
              (Go.Bx.sets_fresh.run (cutL x0 x1 (IntKind.i64.wrap (x1 + 1)))).bind fun y2 =>
              if 0 ≤ (0 : Int) ∧ (0 : Int) < (y2.length : Int) then
                if (cond ((List.getD y2 0 (0, [], 0, ())).2.2.1 != 0) (decide (x2 ≥ (List.getD y2 0 (0, [], 0, ())).2.2.1)) false) = true then
                  Q .ret (St1 15 (0, [], 0, ()))
                else
                  Q .ret (St1 0 (List.getD y2 0 (0, [], 0, ())))
              else none
            else none := by
    intro D L; kernel_rfl
  refine (show (den C k) (cB Try.f23) Q (St0 x0 x1 x2) = denJ (den C k) (lp C k) Js C (cB Try.f23) Q (St0 x0 x1 x2) from (denJ_den _ _ _ _ _ _).symm).trans ((h (den C k) (lp C k)).trans ?_)
  first | rfl | kernel_rfl
def run (x0 : List (Int × List (List Int) × Int × Unit)) (x1 : Int) (x2 : Int) : Option ((Int × List (List Int) × Int × Unit) × Int × Unit) := top (α := (Int × List (List Int) × Int × Unit) × Int × Unit) (fun (x7 : Int) (c6 : Int × List (List Int) × Int × Unit) => some (c6, x7, ())) x0 x1 x2
def F : Fn := ⟨(.pair (.sl (.pair (.int .i64) (.pair (.sl (.arr 20 (.int .u8))) (.pair (.int .i64) .unit)))) (.pair (.int .i64) (.pair (.int .i64) .unit))), (.pair (.pair (.int .i64) (.pair (.sl (.arr 20 (.int .u8))) (.pair (.int .i64) .unit))) (.pair (.int .i64) .unit)), true, fun x => run x.1 x.2.1 x.2.2.1⟩
set_option maxRecDepth 100000 in
theorem con : Con Try.prog 23 F := by
  refine con_of_den (C := C) (ctx_ok (by kernel_rfl) (by kernel_rfl) (by kernel_rfl) ⟨.inl ⟨Go.Bx.sets_Check.con, Go.Bx.sets_Check.named⟩, ⟨.inl ⟨Go.Bx.sets_fresh.con, Go.Bx.sets_fresh.named⟩, trivial⟩⟩) (by kernel_rfl) Try.func23 (c := cB Try.f23) (by kernel_rfl) (by kernel_rfl) F fuel (fun x => by simp [F, spread, Try.ntmps23]) ?_
  intro x r h
  rw [← h]
  have h1 : start F Try.f23.ntmps x = (St0 x.1 x.2.1 x.2.2.1) := by kernel_rfl
  rw [h1]
  refine (top_eq fuel (fin C Try.f23.results.toList F.rs F.multi) x.1 x.2.1 x.2.2.1).trans ?_
  kernel_rfl
theorem named : Named Try.prog 23 := named_of Try.func23 (by kernel_rfl) (by kernel_rfl)
end Go.Bx.sets_Live
namespace Go.Bx.basculeref_SetLive
open Go Go.Proofs Go.Bx
set_option maxRecDepth 100000
set_option linter.unusedVariables false
def Js : List Nat := []
def C : Ctx := ⟨[(3, (.int .i64)), (22, (.sl (.pair (.int .i64) (.pair (.sl (.arr 20 (.int .u8))) (.pair (.int .i64) .unit))))), (23, (.int .i64)), (32, (.pair (.int .i64) (.pair (.sl (.arr 20 (.int .u8))) (.pair (.int .i64) .unit))))], [], [], fnL [(19, Go.Bx.basculeref_SetsFault.F)], noSh, [], noInv, [(2, [6, 7])], [(2, [.dat false 6 []])], [], 0, 0⟩
def St0 (x0 : List (Int × List (List Int) × Int × Unit)) (x1 : Int) (x2 : Int) : St := stL 44 [(0, .data (.sl (.pair (.int .i64) (.pair (.sl (.arr 20 (.int .u8))) (.pair (.int .i64) .unit)))) x0), (1, .data (.int .i64) x1), (2, .data (.int .i64) x2)] []
def St1 (x7 : Int) (c6 : Int × List (List Int) × Int × Unit) : St := stL 44 [(6, .ref 6 0 []), (7, .data (.int .i64) x7)] [(6, .cell (.pair (.int .i64) (.pair (.sl (.arr 20 (.int .u8))) (.pair (.int .i64) .unit))) (.data (.pair (.int .i64) (.pair (.sl (.arr 20 (.int .u8))) (.pair (.int .i64) .unit))) c6) false)]
def top {α : Type} (Rt : Int → (Int × List (List Int) × Int × Unit) → Option α) (x0 : List (Int × List (List Int) × Int × Unit)) (x1 : Int) (x2 : Int) : Option α :=
  (Go.Bx.basculeref_SetsFault.run x0).bind fun y1 =>
  if (y1 != 0) = true then
    Rt y1 (0, [], 0, ())
  else
    if (cond (decide (x1 < 0)) true (decide (x1 ≥ (x0.length : Int)))) = true then
      Rt 5 (0, [], 0, ())
    else
      if 0 ≤ x1 ∧ x1 < (x0.length : Int) then
        cond (decide (0 ≤ x1 ∧ x1 < (x0.length : Int)) || !(((List.getD x0 (Int.toNat x1) (0, [], 0, ())).2.2.1 != 0) == true)) (
          if (cond ((List.getD x0 (Int.toNat x1) (0, [], 0, ())).2.2.1 != 0) (decide ((List.getD x0 (Int.toNat x1) (0, [], 0, ())).2.2.1 ≤ x2)) false) = true then
            Rt 15 (0, [], 0, ())
          else
            if 0 ≤ x1 ∧ x1 < (x0.length : Int) then
              Rt 0 (List.getD x0 (Int.toNat x1) (0, [], 0, ()))
            else none) none
      else none
theorem top_eq {α : Type} (k : Nat) (Q : Ex → St → Option α) (x0 : List (Int × List (List Int) × Int × Unit)) (x1 : Int) (x2 : Int) :
    (den C k) (cB Try.f24) Q (St0 x0 x1 x2) = top (fun (x7 : Int) (c6 : Int × List (List Int) × Int × Unit) => Q .ret (St1 x7 c6)) x0 x1 x2 := by
  have h : ∀ (D L : DT α), denJ D L Js C (cB Try.f24) Q (St0 x0 x1 x2) =
        (Go.Bx.basculeref_SetsFault.run x0).bind fun y1 =>
        if (y1 != 0) = true then
          Q .ret (St1 y1 (0, [], 0, ()))
        else
          if (cond (decide (x1 < 0)) true (decide (x1 ≥ (x0.length : Int)))) = true then
            Q .ret (St1 5 (0, [], 0, ()))
          else
            if 0 ≤ x1 ∧ x1 < (x0.length : Int) then
              cond (decide (0 ≤ x1 ∧ x1 < (x0.length : Int)) || !(((List.getD x0 (Int.toNat x1) (0, [], 0, ())).2.2.1 != 0) == true)) (
                if (cond ((List.getD x0 (Int.toNat x1) (0, [], 0, ())).2.2.1 != 0) (decide ((List.getD x0 (Int.toNat x1) (0, [], 0, ())).2.2.1 ≤ x2)) false) = true then
                  Q .ret (St1 15 (0, [], 0, ()))
                else
                  if 0 ≤ x1 ∧ x1 < (x0.length : Int) then
                    Q .ret (St1 0 (List.getD x0 (Int.toNat x1) (0, [], 0, ())))
                  else none) none
            else none := by
    intro D L; kernel_rfl
  refine (show (den C k) (cB Try.f24) Q (St0 x0 x1 x2) = denJ (den C k) (lp C k) Js C (cB Try.f24) Q (St0 x0 x1 x2) from (denJ_den _ _ _ _ _ _).symm).trans ((h (den C k) (lp C k)).trans ?_)
  first | rfl | kernel_rfl
def run (x0 : List (Int × List (List Int) × Int × Unit)) (x1 : Int) (x2 : Int) : Option ((Int × List (List Int) × Int × Unit) × Int × Unit) := top (α := (Int × List (List Int) × Int × Unit) × Int × Unit) (fun (x7 : Int) (c6 : Int × List (List Int) × Int × Unit) => some (c6, x7, ())) x0 x1 x2
def F : Fn := ⟨(.pair (.sl (.pair (.int .i64) (.pair (.sl (.arr 20 (.int .u8))) (.pair (.int .i64) .unit)))) (.pair (.int .i64) (.pair (.int .i64) .unit))), (.pair (.pair (.int .i64) (.pair (.sl (.arr 20 (.int .u8))) (.pair (.int .i64) .unit))) (.pair (.int .i64) .unit)), true, fun x => run x.1 x.2.1 x.2.2.1⟩
set_option maxRecDepth 100000 in
theorem con : Con Try.prog 24 F := by
  refine con_of_den (C := C) (ctx_ok (by kernel_rfl) (by kernel_rfl) (by kernel_rfl) ⟨.inl ⟨Go.Bx.basculeref_SetsFault.con, Go.Bx.basculeref_SetsFault.named⟩, trivial⟩) (by kernel_rfl) Try.func24 (c := cB Try.f24) (by kernel_rfl) (by kernel_rfl) F fuel (fun x => by simp [F, spread, Try.ntmps24]) ?_
  intro x r h
  rw [← h]
  have h1 : start F Try.f24.ntmps x = (St0 x.1 x.2.1 x.2.2.1) := by kernel_rfl
  rw [h1]
  refine (top_eq fuel (fin C Try.f24.results.toList F.rs F.multi) x.1 x.2.1 x.2.2.1).trans ?_
  kernel_rfl
theorem named : Named Try.prog 24 := named_of Try.func24 (by kernel_rfl) (by kernel_rfl)
end Go.Bx.basculeref_SetLive
namespace Go.Bx.basculelaw_SetsLives
open Go Go.Proofs Go.Bx
set_option maxRecDepth 100000
set_option linter.unusedVariables false
def Js : List Nat := []
def C : Ctx := ⟨[(3, (.int .i64)), (4, .bool), (22, (.sl (.pair (.int .i64) (.pair (.sl (.arr 20 (.int .u8))) (.pair (.int .i64) .unit))))), (32, (.pair (.int .i64) (.pair (.sl (.arr 20 (.int .u8))) (.pair (.int .i64) .unit))))], [], [], fnL [(23, Go.Bx.sets_Live.F), (24, Go.Bx.basculeref_SetLive.F), (25, Go.Bx.basculelaw_sameSet.F)], noSh, [], noInv, [(2, [6])], [], [], 0, 0⟩
def St0 (x0 : List (Int × List (List Int) × Int × Unit)) (x1 : Int) (x2 : Int) : St := stL 33 [(0, .data (.sl (.pair (.int .i64) (.pair (.sl (.arr 20 (.int .u8))) (.pair (.int .i64) .unit)))) x0), (1, .data (.int .i64) x1), (2, .data (.int .i64) x2)] []
def St1 (x6 : Bool) : St := stL 33 [(6, .data .bool x6)] []
def top {α : Type} (Rt : Bool → Option α) (x0 : List (Int × List (List Int) × Int × Unit)) (x1 : Int) (x2 : Int) : Option α :=
  (Go.Bx.sets_Live.run x0 x1 x2).bind fun y1 =>
  (Go.Bx.basculeref_SetLive.run x0 x1 x2).bind fun y2 =>
  (Go.Bx.basculelaw_sameSet.run y1.1 y2.1).bind fun y3 =>
  Rt (cond y3 (y1.2.1 == y2.2.1) false)
theorem top_eq {α : Type} (k : Nat) (Q : Ex → St → Option α) (x0 : List (Int × List (List Int) × Int × Unit)) (x1 : Int) (x2 : Int) :
    (den C k) (cB Try.f5) Q (St0 x0 x1 x2) = top (fun (x6 : Bool) => Q .ret (St1 x6)) x0 x1 x2 := by
  have h : ∀ (D L : DT α), denJ D L Js C (cB Try.f5) Q (St0 x0 x1 x2) =
        (Go.Bx.sets_Live.run x0 x1 x2).bind fun y1 =>
        (Go.Bx.basculeref_SetLive.run x0 x1 x2).bind fun y2 =>
        (Go.Bx.basculelaw_sameSet.run y1.1 y2.1).bind fun y3 =>
        Q .ret (St1 (cond y3 (y1.2.1 == y2.2.1) false)) := by
    intro D L; kernel_rfl
  refine (show (den C k) (cB Try.f5) Q (St0 x0 x1 x2) = denJ (den C k) (lp C k) Js C (cB Try.f5) Q (St0 x0 x1 x2) from (denJ_den _ _ _ _ _ _).symm).trans ((h (den C k) (lp C k)).trans ?_)
  first | rfl | kernel_rfl
def run (x0 : List (Int × List (List Int) × Int × Unit)) (x1 : Int) (x2 : Int) : Option (Bool) := top (α := Bool) (fun (x6 : Bool) => some x6) x0 x1 x2
def F : Fn := ⟨(.pair (.sl (.pair (.int .i64) (.pair (.sl (.arr 20 (.int .u8))) (.pair (.int .i64) .unit)))) (.pair (.int .i64) (.pair (.int .i64) .unit))), .bool, false, fun x => run x.1 x.2.1 x.2.2.1⟩
set_option maxRecDepth 100000 in
theorem con : Con Try.prog 5 F := by
  refine con_of_den (C := C) (ctx_ok (by kernel_rfl) (by kernel_rfl) (by kernel_rfl) ⟨.inl ⟨Go.Bx.sets_Live.con, Go.Bx.sets_Live.named⟩, ⟨.inl ⟨Go.Bx.basculeref_SetLive.con, Go.Bx.basculeref_SetLive.named⟩, ⟨.inl ⟨Go.Bx.basculelaw_sameSet.con, Go.Bx.basculelaw_sameSet.named⟩, trivial⟩⟩⟩) (by kernel_rfl) Try.func5 (c := cB Try.f5) (by kernel_rfl) (by kernel_rfl) F fuel (fun x => by simp [F, spread, Try.ntmps5]) ?_
  intro x r h
  rw [← h]
  have h1 : start F Try.f5.ntmps x = (St0 x.1 x.2.1 x.2.2.1) := by kernel_rfl
  rw [h1]
  refine (top_eq fuel (fin C Try.f5.results.toList F.rs F.multi) x.1 x.2.1 x.2.2.1).trans ?_
  kernel_rfl
theorem named : Named Try.prog 5 := named_of Try.func5 (by kernel_rfl) (by kernel_rfl)
end Go.Bx.basculelaw_SetsLives
