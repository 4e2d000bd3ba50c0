/- Go functions of this seat in their own words of Lean, each tied to its code by a contract. -/
import Derived.Test.YthgnmgdhgmobpaaGBase
namespace Go.Bx.log_tail
open Go Go.Proofs Go.Bx
set_option maxRecDepth 100000
set_option linter.unusedVariables false
def Js : List Nat := [8]
def C : Ctx := ⟨[(5, (.int .u8)), (33, (.sl (.int .u8)))], [], fnL [], noSh, [], noInv, [(2, [2]), (1, [3]), (4, [3, 6, 7, 8]), (9, [3, 6, 7, 8]), (21, [3])], [], [], 0, 0⟩
def St0 (x0 : List Int) : St := stL 17 [(0, .data (.sl (.int .u8)) x0)] []
def St1 (x3 : Int) (x6 : List Int) (x7 : Int) (x8 : Int) : St := stL 17 [(3, .data (.int .u8) x3), (6, .data (.sl (.int .u8)) x6), (7, .data (.int .i64) x7), (8, .data (.int .i64) x8)] []
noncomputable def cd0 : Code := cL (cL (cR (cL (cR (cR (cB Try.f80))))))
def St2 (x3 : Int) : St := stL 17 [(3, .data (.int .u8) x3)] []
def l0s {α : Type} (Nx : Int → (List Int) → Int → Int → Option α) (Xt0 : Int → Option α) (x3 : Int) (x6 : List Int) (x7 : Int) (x8 : Int) : Option α :=
  if (decide (x8 < x7)) = true then
    if 0 ≤ x8 ∧ x8 < (x6.length : Int) then
      Nx (IntKind.u8.wrap (x3 + (List.getD x6 (Int.toNat x8) 0))) x6 x7 (IntKind.i64.wrap (x8 + 1))
    else none
  else
    Xt0 x3
theorem l0s_eq {α : Type} (k : Nat) (next : St → Option α) (Q : Ex → St → Option α) (x3 : Int) (x6 : List Int) (x7 : Int) (x8 : Int) :
    rnd C k cd0 9 Q next (St1 x3 x6 x7 x8) = l0s (fun (x3 : Int) (x6 : List Int) (x7 : Int) (x8 : Int) => next (St1 x3 x6 x7 x8)) (fun (x3 : Int) => Q (.exit 0) (St2 x3)) x3 x6 x7 x8 := by
  have h : ∀ (D L : DT α), denJ D L Js C cd0 (lq C 9 next Q) (St1 x3 x6 x7 x8) =
        if (decide (x8 < x7)) = true then
          if 0 ≤ x8 ∧ x8 < (x6.length : Int) then
            next (St1 (IntKind.u8.wrap (x3 + (List.getD x6 (Int.toNat x8) 0))) x6 x7 (IntKind.i64.wrap (x8 + 1)))
          else none
        else
          Q (.exit 0) (St2 x3) := by
    intro D L; kernel_rfl
  refine (show rnd C k cd0 9 Q next (St1 x3 x6 x7 x8) = denJ (den C k) (lp C k) Js C cd0 (lq C 9 next Q) (St1 x3 x6 x7 x8) from (denJ_den _ _ _ _ _ _).symm).trans ((h (den C k) (lp C k)).trans ?_)
  first | rfl | kernel_rfl
def l0 {α : Type} (k : Nat) (Xt0 : Int → Option α) : Nat → Int → (List Int) → Int → Int → Option α
  | 0, _, _, _, _ => none
  | n + 1, x3, x6, x7, x8 => l0s (l0 k Xt0 n) Xt0 x3 x6 x7 x8
theorem l0_eq {α : Type} (k : Nat) (Q : Ex → St → Option α) : ∀ (n : Nat) (x3 : Int) (x6 : List Int) (x7 : Int) (x8 : Int), iter (rnd C k cd0 9 Q) n (St1 x3 x6 x7 x8) = l0 k (fun (x3 : Int) => Q (.exit 0) (St2 x3)) n x3 x6 x7 x8
  | 0, _, _, _, _ => rfl
  | n + 1, x3, x6, x7, x8 => (iter_succ _ _ _).trans ((l0s_eq k (iter (rnd C k cd0 9 Q) n) Q x3 x6 x7 x8).trans (congrArg (fun N => l0s N (fun (x3 : Int) => Q (.exit 0) (St2 x3)) x3 x6 x7 x8) (funext fun x3 => funext fun x6 => funext fun x7 => funext fun x8 => l0_eq k Q n x3 x6 x7 x8)))
theorem l0_congr {α : Type} (k : Nat) (Xt0 : Int → Option α) (Xt0q : Int → Option α) (hXt0 : ∀ (x3 : Int), Xt0 x3 = Xt0q x3) (n : Nat) (x3 : Int) (x6 : List Int) (x7 : Int) (x8 : Int) : l0 k Xt0 n x3 x6 x7 x8 = l0 k Xt0q n x3 x6 x7 x8 := by
  obtain rfl : Xt0 = Xt0q := by funext x3; exact hXt0 x3
  rfl
noncomputable def cd1 : Code := cR (cR (cR (cB Try.f80)))
def St3 (x3 : Int) : St := stL 17 [(3, .data (.int .u8) x3)] []
def St4 (x2 : Int) : St := stL 17 [(2, .data (.int .u8) x2)] []
def j0 {α : Type} (Rt : Int → Option α) (x3 : Int) : Option α :=
  Rt x3
theorem j0_eq {α : Type} (k : Nat) (Q : Ex → St → Option α) (x3 : Int) :
    (den C k) cd1 Q (St3 x3) = j0 (fun (x2 : Int) => Q .ret (St4 x2)) x3 := by
  have h : ∀ (D L : DT α), denJ D L Js C cd1 Q (St3 x3) =
        Q .ret (St4 x3) := by
    intro D L; kernel_rfl
  refine (show (den C k) cd1 Q (St3 x3) = denJ (den C k) (lp C k) Js C cd1 Q (St3 x3) from (denJ_den _ _ _ _ _ _).symm).trans ((h (den C k) (lp C k)).trans ?_)
  first | rfl | kernel_rfl
theorem a0 {α : Type} (k : Nat) (Q : Ex → St → Option α) (x3 : Int) (x6 : List Int) (x7 : Int) (x8 : Int) :
    (lp C k) cd0 (blkQ C 0 (sq (den C k) (lp C k) Js C cd1 Q)) (St1 x3 x6 x7 x8) = l0 k (fun (x3 : Int) => j0 (fun (x2 : Int) => Q .ret (St4 x2)) x3) k x3 x6 x7 x8 :=
  (show (lp C k) cd0 (blkQ C 0 (sq (den C k) (lp C k) Js C cd1 Q)) (St1 x3 x6 x7 x8) = iter (rnd C k cd0 9 (blkQ C 0 (sq (den C k) (lp C k) Js C cd1 Q))) k (St1 x3 x6 x7 x8) by kernel_rfl).trans ((l0_eq k (blkQ C 0 (sq (den C k) (lp C k) Js C cd1 Q)) k x3 x6 x7 x8).trans (l0_congr k _ _ (fun x3 => ((show (blkQ C 0 (sq (den C k) (lp C k) Js C cd1 Q)) (.exit 0) (St2 x3) = (den C k) cd1 Q (St3 x3) by kernel_rfl).trans (by simp only [j0_eq]))) k x3 x6 x7 x8))
def top {α : Type} (k : Nat) (Rt : Int → Option α) (x0 : List Int) : Option α :=
  l0 k (fun (x3 : Int) => j0 Rt x3) k 0 x0 (x0.length : Int) 0
theorem top_eq {α : Type} (k : Nat) (Q : Ex → St → Option α) (x0 : List Int) :
    (den C k) (cB Try.f80) Q (St0 x0) = top k (fun (x2 : Int) => Q .ret (St4 x2)) x0 := by
  have h : ∀ (D L : DT α), denJ D L Js C (cB Try.f80) Q (St0 x0) =
        L cd0 (blkQ C 0 (sq D L Js C cd1 Q)) (St1 0 x0 (x0.length : Int) 0) := by
    intro D L; kernel_rfl
  refine (show (den C k) (cB Try.f80) Q (St0 x0) = denJ (den C k) (lp C k) Js C (cB Try.f80) Q (St0 x0) from (denJ_den _ _ _ _ _ _).symm).trans ((h (den C k) (lp C k)).trans ?_)
  simp only [a0]
  first | rfl | kernel_rfl
def run (x0 : List Int) : Option (Int) := top (α := Int) fuel (fun (x2 : Int) => some x2) x0
def F : Fn := ⟨(.pair (.sl (.int .u8)) .unit), (.int .u8), false, fun x => run x.1⟩
set_option maxRecDepth 100000 in
theorem con : Con Try.prog 80 F := by
  refine con_of_den (C := C) (ctx_ok (by kernel_rfl) (by kernel_rfl) trivial) (by kernel_rfl) Try.func80 (c := cB Try.f80) (by kernel_rfl) (by kernel_rfl) F fuel (fun x => by simp [F, spread, Try.ntmps80]) ?_
  intro x r h
  rw [← h]
  have h1 : start F Try.f80.ntmps x = (St0 x.1) := by kernel_rfl
  rw [h1]
  refine (top_eq fuel (fin C Try.f80.results.toList F.rs F.multi) x.1).trans ?_
  kernel_rfl
theorem named : Named Try.prog 80 := named_of Try.func80 (by kernel_rfl) (by kernel_rfl)
end Go.Bx.log_tail
namespace Go.Bx.basculeref_big
open Go Go.Proofs Go.Bx
set_option maxRecDepth 100000
set_option linter.unusedVariables false
def Js : List Nat := [8]
def C : Ctx := ⟨[(3, (.int .i64)), (5, (.int .u8)), (9, .str), (27, (.int .u64)), (33, (.sl (.int .u8)))], [], fnL [], noSh, [], noInv, [(2, [4]), (1, [5]), (4, [0, 5, 6, 7]), (9, [0, 5, 6, 7]), (21, [5])], [], [], 0, 0⟩
def St0 (x0 : Int) (x1 : Int) : St := stL 19 [(0, .data (.int .u64) x0), (1, .data (.int .i64) x1)] []
def St1 (x0 : Int) (x5 : List Int) (x6 : Int) (x7 : Int) : St := stL 19 [(0, .data (.int .u64) x0), (5, .data .str x5), (6, .data (.int .i64) x6), (7, .data (.int .i64) x7)] []
noncomputable def cd0 : Code := cL (cL (cR (cL (cR (cR (cB Try.f102))))))
def St2 (x5 : List Int) : St := stL 19 [(5, .data .str x5)] []
def l0s {α : Type} (Nx : Int → (List Int) → Int → Int → Option α) (Xt0 : (List Int) → Option α) (x0 : Int) (x5 : List Int) (x6 : Int) (x7 : Int) : Option α :=
  if (decide (x7 < x6)) = true then
    if Nat.ble (1 + x5.length) 9223372036854775807 = true then
      Nx (shrI .u64 x0 8) ([(IntKind.u8.wrap x0)] ++ x5) x6 (IntKind.i64.wrap (x7 + 1))
    else none
  else
    Xt0 x5
theorem l0s_eq {α : Type} (k : Nat) (next : St → Option α) (Q : Ex → St → Option α) (x0 : Int) (x5 : List Int) (x6 : Int) (x7 : Int) :
    rnd C k cd0 9 Q next (St1 x0 x5 x6 x7) = l0s (fun (x0 : Int) (x5 : List Int) (x6 : Int) (x7 : Int) => next (St1 x0 x5 x6 x7)) (fun (x5 : List Int) => Q (.exit 0) (St2 x5)) x0 x5 x6 x7 := by
  have h : ∀ (D L : DT α), denJ D L Js C cd0 (lq C 9 next Q) (St1 x0 x5 x6 x7) =
        if (decide (x7 < x6)) = true then
          if Nat.ble (1 + x5.length) 9223372036854775807 = true then
            next (St1 (shrI .u64 x0 8) ([(IntKind.u8.wrap x0)] ++ x5) x6 (IntKind.i64.wrap (x7 + 1)))
          else none
        else
          Q (.exit 0) (St2 x5) := by
    intro D L; kernel_rfl
  refine (show rnd C k cd0 9 Q next (St1 x0 x5 x6 x7) = denJ (den C k) (lp C k) Js C cd0 (lq C 9 next Q) (St1 x0 x5 x6 x7) from (denJ_den _ _ _ _ _ _).symm).trans ((h (den C k) (lp C k)).trans ?_)
  first | rfl | kernel_rfl
def l0 {α : Type} (k : Nat) (Xt0 : (List Int) → Option α) : Nat → Int → (List Int) → Int → Int → Option α
  | 0, _, _, _, _ => none
  | n + 1, x0, x5, x6, x7 => l0s (l0 k Xt0 n) Xt0 x0 x5 x6 x7
theorem l0_eq {α : Type} (k : Nat) (Q : Ex → St → Option α) : ∀ (n : Nat) (x0 : Int) (x5 : List Int) (x6 : Int) (x7 : Int), iter (rnd C k cd0 9 Q) n (St1 x0 x5 x6 x7) = l0 k (fun (x5 : List Int) => Q (.exit 0) (St2 x5)) n x0 x5 x6 x7
  | 0, _, _, _, _ => rfl
  | n + 1, x0, x5, x6, x7 => (iter_succ _ _ _).trans ((l0s_eq k (iter (rnd C k cd0 9 Q) n) Q x0 x5 x6 x7).trans (congrArg (fun N => l0s N (fun (x5 : List Int) => Q (.exit 0) (St2 x5)) x0 x5 x6 x7) (funext fun x0 => funext fun x5 => funext fun x6 => funext fun x7 => l0_eq k Q n x0 x5 x6 x7)))
theorem l0_congr {α : Type} (k : Nat) (Xt0 : (List Int) → Option α) (Xt0q : (List Int) → Option α) (hXt0 : ∀ (x5 : List Int), Xt0 x5 = Xt0q x5) (n : Nat) (x0 : Int) (x5 : List Int) (x6 : Int) (x7 : Int) : l0 k Xt0 n x0 x5 x6 x7 = l0 k Xt0q n x0 x5 x6 x7 := by
  obtain rfl : Xt0 = Xt0q := by funext x5; exact hXt0 x5
  rfl
noncomputable def cd1 : Code := cR (cR (cR (cB Try.f102)))
def St3 (x5 : List Int) : St := stL 19 [(5, .data .str x5)] []
def St4 (x4 : List Int) : St := stL 19 [(4, .data .str x4)] []
def j0 {α : Type} (Rt : (List Int) → Option α) (x5 : List Int) : Option α :=
  Rt x5
theorem j0_eq {α : Type} (k : Nat) (Q : Ex → St → Option α) (x5 : List Int) :
    (den C k) cd1 Q (St3 x5) = j0 (fun (x4 : List Int) => Q .ret (St4 x4)) x5 := by
  have h : ∀ (D L : DT α), denJ D L Js C cd1 Q (St3 x5) =
        Q .ret (St4 x5) := by
    intro D L; kernel_rfl
  refine (show (den C k) cd1 Q (St3 x5) = denJ (den C k) (lp C k) Js C cd1 Q (St3 x5) from (denJ_den _ _ _ _ _ _).symm).trans ((h (den C k) (lp C k)).trans ?_)
  first | rfl | kernel_rfl
theorem a0 {α : Type} (k : Nat) (Q : Ex → St → Option α) (x0 : Int) (x5 : List Int) (x6 : Int) (x7 : Int) :
    (lp C k) cd0 (blkQ C 0 (sq (den C k) (lp C k) Js C cd1 Q)) (St1 x0 x5 x6 x7) = l0 k (fun (x5 : List Int) => j0 (fun (x4 : List Int) => Q .ret (St4 x4)) x5) k x0 x5 x6 x7 :=
  (show (lp C k) cd0 (blkQ C 0 (sq (den C k) (lp C k) Js C cd1 Q)) (St1 x0 x5 x6 x7) = iter (rnd C k cd0 9 (blkQ C 0 (sq (den C k) (lp C k) Js C cd1 Q))) k (St1 x0 x5 x6 x7) by kernel_rfl).trans ((l0_eq k (blkQ C 0 (sq (den C k) (lp C k) Js C cd1 Q)) k x0 x5 x6 x7).trans (l0_congr k _ _ (fun x5 => ((show (blkQ C 0 (sq (den C k) (lp C k) Js C cd1 Q)) (.exit 0) (St2 x5) = (den C k) cd1 Q (St3 x5) by kernel_rfl).trans (by simp only [j0_eq]))) k x0 x5 x6 x7))
def top {α : Type} (k : Nat) (Rt : (List Int) → Option α) (x0 : Int) (x1 : Int) : Option α :=
  l0 k (fun (x5 : List Int) => j0 Rt x5) k x0 [] x1 0
theorem top_eq {α : Type} (k : Nat) (Q : Ex → St → Option α) (x0 : Int) (x1 : Int) :
    (den C k) (cB Try.f102) Q (St0 x0 x1) = top k (fun (x4 : List Int) => Q .ret (St4 x4)) x0 x1 := by
  have h : ∀ (D L : DT α), denJ D L Js C (cB Try.f102) Q (St0 x0 x1) =
        L cd0 (blkQ C 0 (sq D L Js C cd1 Q)) (St1 x0 [] x1 0) := by
    intro D L; kernel_rfl
  refine (show (den C k) (cB Try.f102) Q (St0 x0 x1) = denJ (den C k) (lp C k) Js C (cB Try.f102) Q (St0 x0 x1) from (denJ_den _ _ _ _ _ _).symm).trans ((h (den C k) (lp C k)).trans ?_)
  simp only [a0]
  first | rfl | kernel_rfl
def run (x0 : Int) (x1 : Int) : Option (List Int) := top (α := List Int) fuel (fun (x4 : List Int) => some x4) x0 x1
def F : Fn := ⟨(.pair (.int .u64) (.pair (.int .i64) .unit)), .str, false, fun x => run x.1 x.2.1⟩
set_option maxRecDepth 100000 in
theorem con : Con Try.prog 102 F := by
  refine con_of_den (C := C) (ctx_ok (by kernel_rfl) (by kernel_rfl) trivial) (by kernel_rfl) Try.func102 (c := cB Try.f102) (by kernel_rfl) (by kernel_rfl) F fuel (fun x => by simp [F, spread, Try.ntmps102]) ?_
  intro x r h
  rw [← h]
  have h1 : start F Try.f102.ntmps x = (St0 x.1 x.2.1) := by kernel_rfl
  rw [h1]
  refine (top_eq fuel (fin C Try.f102.results.toList F.rs F.multi) x.1 x.2.1).trans ?_
  kernel_rfl
theorem named : Named Try.prog 102 := named_of Try.func102 (by kernel_rfl) (by kernel_rfl)
end Go.Bx.basculeref_big
namespace Go.Bx.basculeref_logText
open Go Go.Proofs Go.Bx
set_option maxRecDepth 100000
set_option linter.unusedVariables false
def Js : List Nat := [8]
def C : Ctx := ⟨[(3, (.int .i64)), (5, (.int .u8)), (9, .str), (27, (.int .u64)), (33, (.sl (.int .u8)))], [], fnL [(102, Go.Bx.basculeref_big.F)], noSh, [], noInv, [(2, [2]), (1, [0, 3]), (4, [0, 3, 6, 7, 8]), (9, [0, 3, 6, 7, 8]), (21, [0, 3])], [], [], 0, 0⟩
def St0 (x0 : List Int) : St := stL 28 [(0, .data (.sl (.int .u8)) x0)] []
def St1 (x0 : List Int) (x3 : Int) (x6 : List Int) (x7 : Int) (x8 : Int) : St := stL 28 [(0, .data (.sl (.int .u8)) x0), (3, .data (.int .i64) x3), (6, .data (.sl (.int .u8)) x6), (7, .data (.int .i64) x7), (8, .data (.int .i64) x8)] []
noncomputable def cd0 : Code := cL (cL (cR (cL (cR (cR (cB Try.f81))))))
def St2 (x0 : List Int) (x3 : Int) : St := stL 28 [(0, .data (.sl (.int .u8)) x0), (3, .data (.int .i64) x3)] []
def l0s {α : Type} (Nx : (List Int) → Int → (List Int) → Int → Int → Option α) (Xt0 : (List Int) → Int → Option α) (x0 : List Int) (x3 : Int) (x6 : List Int) (x7 : Int) (x8 : Int) : Option α :=
  if (decide (x8 < x7)) = true then
    if 0 ≤ x8 ∧ x8 < (x6.length : Int) then
      Nx x0 (IntKind.i64.wrap (x3 + (IntKind.i64.wrap (List.getD x6 (Int.toNat x8) 0)))) x6 x7 (IntKind.i64.wrap (x8 + 1))
    else none
  else
    Xt0 x0 x3
theorem l0s_eq {α : Type} (k : Nat) (next : St → Option α) (Q : Ex → St → Option α) (x0 : List Int) (x3 : Int) (x6 : List Int) (x7 : Int) (x8 : Int) :
    rnd C k cd0 9 Q next (St1 x0 x3 x6 x7 x8) = l0s (fun (x0 : List Int) (x3 : Int) (x6 : List Int) (x7 : Int) (x8 : Int) => next (St1 x0 x3 x6 x7 x8)) (fun (x0 : List Int) (x3 : Int) => Q (.exit 0) (St2 x0 x3)) x0 x3 x6 x7 x8 := by
  have h : ∀ (D L : DT α), denJ D L Js C cd0 (lq C 9 next Q) (St1 x0 x3 x6 x7 x8) =
        if (decide (x8 < x7)) = true then
          if 0 ≤ x8 ∧ x8 < (x6.length : Int) then
            next (St1 x0 (IntKind.i64.wrap (x3 + (IntKind.i64.wrap (List.getD x6 (Int.toNat x8) 0)))) x6 x7 (IntKind.i64.wrap (x8 + 1)))
          else none
        else
          Q (.exit 0) (St2 x0 x3) := by
    intro D L; kernel_rfl
  refine (show rnd C k cd0 9 Q next (St1 x0 x3 x6 x7 x8) = denJ (den C k) (lp C k) Js C cd0 (lq C 9 next Q) (St1 x0 x3 x6 x7 x8) from (denJ_den _ _ _ _ _ _).symm).trans ((h (den C k) (lp C k)).trans ?_)
  first | rfl | kernel_rfl
def l0 {α : Type} (k : Nat) (Xt0 : (List Int) → Int → Option α) : Nat → (List Int) → Int → (List Int) → Int → Int → Option α
  | 0, _, _, _, _, _ => none
  | n + 1, x0, x3, x6, x7, x8 => l0s (l0 k Xt0 n) Xt0 x0 x3 x6 x7 x8
theorem l0_eq {α : Type} (k : Nat) (Q : Ex → St → Option α) : ∀ (n : Nat) (x0 : List Int) (x3 : Int) (x6 : List Int) (x7 : Int) (x8 : Int), iter (rnd C k cd0 9 Q) n (St1 x0 x3 x6 x7 x8) = l0 k (fun (x0 : List Int) (x3 : Int) => Q (.exit 0) (St2 x0 x3)) n x0 x3 x6 x7 x8
  | 0, _, _, _, _, _ => rfl
  | n + 1, x0, x3, x6, x7, x8 => (iter_succ _ _ _).trans ((l0s_eq k (iter (rnd C k cd0 9 Q) n) Q x0 x3 x6 x7 x8).trans (congrArg (fun N => l0s N (fun (x0 : List Int) (x3 : Int) => Q (.exit 0) (St2 x0 x3)) x0 x3 x6 x7 x8) (funext fun x0 => funext fun x3 => funext fun x6 => funext fun x7 => funext fun x8 => l0_eq k Q n x0 x3 x6 x7 x8)))
theorem l0_congr {α : Type} (k : Nat) (Xt0 : (List Int) → Int → Option α) (Xt0q : (List Int) → Int → Option α) (hXt0 : ∀ (x0 : List Int) (x3 : Int), Xt0 x0 x3 = Xt0q x0 x3) (n : Nat) (x0 : List Int) (x3 : Int) (x6 : List Int) (x7 : Int) (x8 : Int) : l0 k Xt0 n x0 x3 x6 x7 x8 = l0 k Xt0q n x0 x3 x6 x7 x8 := by
  obtain rfl : Xt0 = Xt0q := by funext x0; funext x3; exact hXt0 x0 x3
  rfl
noncomputable def cd1 : Code := cR (cR (cR (cB Try.f81)))
def St3 (x0 : List Int) (x3 : Int) : St := stL 28 [(0, .data (.sl (.int .u8)) x0), (3, .data (.int .i64) x3)] []
def St4 (x2 : List Int) : St := stL 28 [(2, .data .str x2)] []
def j0 {α : Type} (Rt : (List Int) → Option α) (x0 : List Int) (x3 : Int) : Option α :=
  (Go.Bx.basculeref_big.run (IntKind.u64.wrap (x0.length : Int)) 2).bind fun y1 =>
  if Nat.ble (y1.length + x0.length) 9223372036854775807 = true then
    (Go.Bx.basculeref_big.run (IntKind.u64.wrap x3) 1).bind fun y2 =>
    if Nat.ble ((y1 ++ x0).length + y2.length) 9223372036854775807 = true then
      Rt ((y1 ++ x0) ++ y2)
    else none
  else none
theorem j0_eq {α : Type} (k : Nat) (Q : Ex → St → Option α) (x0 : List Int) (x3 : Int) :
    (den C k) cd1 Q (St3 x0 x3) = j0 (fun (x2 : List Int) => Q .ret (St4 x2)) x0 x3 := by
  have h : ∀ (D L : DT α), denJ D L Js C cd1 Q (St3 x0 x3) =
        (Go.Bx.basculeref_big.run (IntKind.u64.wrap (x0.length : Int)) 2).bind fun y1 =>
        if Nat.ble (y1.length + x0.length) 9223372036854775807 = true then
          (Go.Bx.basculeref_big.run (IntKind.u64.wrap x3) 1).bind fun y2 =>
          if Nat.ble ((y1 ++ x0).length + y2.length) 9223372036854775807 = true then
            Q .ret (St4 ((y1 ++ x0) ++ y2))
          else none
        else none := by
    intro D L; kernel_rfl
  refine (show (den C k) cd1 Q (St3 x0 x3) = denJ (den C k) (lp C k) Js C cd1 Q (St3 x0 x3) from (denJ_den _ _ _ _ _ _).symm).trans ((h (den C k) (lp C k)).trans ?_)
  first | rfl | kernel_rfl
theorem a0 {α : Type} (k : Nat) (Q : Ex → St → Option α) (x0 : List Int) (x3 : Int) (x6 : List Int) (x7 : Int) (x8 : Int) :
    (lp C k) cd0 (blkQ C 0 (sq (den C k) (lp C k) Js C cd1 Q)) (St1 x0 x3 x6 x7 x8) = l0 k (fun (x0 : List Int) (x3 : Int) => j0 (fun (x2 : List Int) => Q .ret (St4 x2)) x0 x3) k x0 x3 x6 x7 x8 :=
  (show (lp C k) cd0 (blkQ C 0 (sq (den C k) (lp C k) Js C cd1 Q)) (St1 x0 x3 x6 x7 x8) = iter (rnd C k cd0 9 (blkQ C 0 (sq (den C k) (lp C k) Js C cd1 Q))) k (St1 x0 x3 x6 x7 x8) by kernel_rfl).trans ((l0_eq k (blkQ C 0 (sq (den C k) (lp C k) Js C cd1 Q)) k x0 x3 x6 x7 x8).trans (l0_congr k _ _ (fun x0 x3 => ((show (blkQ C 0 (sq (den C k) (lp C k) Js C cd1 Q)) (.exit 0) (St2 x0 x3) = (den C k) cd1 Q (St3 x0 x3) by kernel_rfl).trans (by simp only [j0_eq]))) k x0 x3 x6 x7 x8))
def top {α : Type} (k : Nat) (Rt : (List Int) → Option α) (x0 : List Int) : Option α :=
  l0 k (fun (x0 : List Int) (x3 : Int) => j0 Rt x0 x3) k x0 0 x0 (x0.length : Int) 0
theorem top_eq {α : Type} (k : Nat) (Q : Ex → St → Option α) (x0 : List Int) :
    (den C k) (cB Try.f81) Q (St0 x0) = top k (fun (x2 : List Int) => Q .ret (St4 x2)) x0 := by
  have h : ∀ (D L : DT α), denJ D L Js C (cB Try.f81) Q (St0 x0) =
        L cd0 (blkQ C 0 (sq D L Js C cd1 Q)) (St1 x0 0 x0 (x0.length : Int) 0) := by
    intro D L; kernel_rfl
  refine (show (den C k) (cB Try.f81) Q (St0 x0) = denJ (den C k) (lp C k) Js C (cB Try.f81) Q (St0 x0) from (denJ_den _ _ _ _ _ _).symm).trans ((h (den C k) (lp C k)).trans ?_)
  simp only [a0]
  first | rfl | kernel_rfl
def run (x0 : List Int) : Option (List Int) := top (α := List Int) fuel (fun (x2 : List Int) => some x2) x0
def F : Fn := ⟨(.pair (.sl (.int .u8)) .unit), .str, false, fun x => run x.1⟩
set_option maxRecDepth 100000 in
theorem con : Con Try.prog 81 F := by
  refine con_of_den (C := C) (ctx_ok (by kernel_rfl) (by kernel_rfl) ⟨.inl ⟨Go.Bx.basculeref_big.con, Go.Bx.basculeref_big.named⟩, trivial⟩) (by kernel_rfl) Try.func81 (c := cB Try.f81) (by kernel_rfl) (by kernel_rfl) F fuel (fun x => by simp [F, spread, Try.ntmps81]) ?_
  intro x r h
  rw [← h]
  have h1 : start F Try.f81.ntmps x = (St0 x.1) := by kernel_rfl
  rw [h1]
  refine (top_eq fuel (fin C Try.f81.results.toList F.rs F.multi) x.1).trans ?_
  kernel_rfl
theorem named : Named Try.prog 81 := named_of Try.func81 (by kernel_rfl) (by kernel_rfl)
end Go.Bx.basculeref_logText
namespace Go.Bx.basculelaw_sameBytes
open Go Go.Proofs Go.Bx
set_option maxRecDepth 100000
set_option linter.unusedVariables false
def Js : List Nat := []
def C : Ctx := ⟨[(4, .bool), (9, .str), (33, (.sl (.int .u8)))], [], fnL [], noSh, [], noInv, [(2, [4])], [], [], 0, 0⟩
def St0 (x0 : List Int) (x1 : List Int) : St := stL 10 [(0, .data (.sl (.int .u8)) x0), (1, .data (.sl (.int .u8)) x1)] []
def St1 (x4 : Bool) : St := stL 10 [(4, .data .bool x4)] []
def top {α : Type} (Rt : Bool → Option α) (x0 : List Int) (x1 : List Int) : Option α :=
  Rt (beqD .str x0 x1)
theorem top_eq {α : Type} (k : Nat) (Q : Ex → St → Option α) (x0 : List Int) (x1 : List Int) :
    (den C k) (cB Try.f73) Q (St0 x0 x1) = top (fun (x4 : Bool) => Q .ret (St1 x4)) x0 x1 := by
  have h : ∀ (D L : DT α), denJ D L Js C (cB Try.f73) Q (St0 x0 x1) =
        Q .ret (St1 (beqD .str x0 x1)) := by
    intro D L; kernel_rfl
  refine (show (den C k) (cB Try.f73) Q (St0 x0 x1) = denJ (den C k) (lp C k) Js C (cB Try.f73) Q (St0 x0 x1) from (denJ_den _ _ _ _ _ _).symm).trans ((h (den C k) (lp C k)).trans ?_)
  first | rfl | kernel_rfl
def run (x0 : List Int) (x1 : List Int) : Option (Bool) := top (α := Bool) (fun (x4 : Bool) => some x4) x0 x1
def F : Fn := ⟨(.pair (.sl (.int .u8)) (.pair (.sl (.int .u8)) .unit)), .bool, false, fun x => run x.1 x.2.1⟩
set_option maxRecDepth 100000 in
theorem con : Con Try.prog 73 F := by
  refine con_of_den (C := C) (ctx_ok (by kernel_rfl) (by kernel_rfl) trivial) (by kernel_rfl) Try.func73 (c := cB Try.f73) (by kernel_rfl) (by kernel_rfl) F fuel (fun x => by simp [F, spread, Try.ntmps73]) ?_
  intro x r h
  rw [← h]
  have h1 : start F Try.f73.ntmps x = (St0 x.1 x.2.1) := by kernel_rfl
  rw [h1]
  refine (top_eq fuel (fin C Try.f73.results.toList F.rs F.multi) x.1 x.2.1).trans ?_
  kernel_rfl
theorem named : Named Try.prog 73 := named_of Try.func73 (by kernel_rfl) (by kernel_rfl)
end Go.Bx.basculelaw_sameBytes
namespace Go.Bx.basculelaw_sameLog
open Go Go.Proofs Go.Bx
set_option maxRecDepth 100000
set_option linter.unusedVariables false
def Js : List Nat := []
def C : Ctx := ⟨[(4, .bool), (33, (.sl (.int .u8))), (35, (.pair (.sl (.int .u8)) (.pair (.sl (.int .u8)) .unit)))], [], fnL [(73, Go.Bx.basculelaw_sameBytes.F)], noSh, [], noInv, [(2, [4])], [], [], 0, 0⟩
def St0 (x0 : List Int × List Int × Unit) (x1 : List Int × List Int × Unit) : St := stL 17 [(0, .data (.pair (.sl (.int .u8)) (.pair (.sl (.int .u8)) .unit)) x0), (1, .data (.pair (.sl (.int .u8)) (.pair (.sl (.int .u8)) .unit)) x1)] []
def St1 (x4 : Bool) : St := stL 17 [(4, .data .bool x4)] []
def top {α : Type} (Rt : Bool → Option α) (x0 : List Int × List Int × Unit) (x1 : List Int × List Int × Unit) : Option α :=
  (Go.Bx.basculelaw_sameBytes.run x0.1 x1.1).bind fun y1 =>
  (if (y1 == true) = true then Go.Bx.basculelaw_sameBytes.run x0.2.1 x1.2.1 else some false).bind fun y2 =>
  Rt (cond y1 y2 false)
theorem top_eq {α : Type} (k : Nat) (Q : Ex → St → Option α) (x0 : List Int × List Int × Unit) (x1 : List Int × List Int × Unit) :
    (den C k) (cB Try.f30) Q (St0 x0 x1) = top (fun (x4 : Bool) => Q .ret (St1 x4)) x0 x1 := by
  have h : ∀ (D L : DT α), denJ D L Js C (cB Try.f30) Q (St0 x0 x1) =
        (Go.Bx.basculelaw_sameBytes.run x0.1 x1.1).bind fun y1 =>
        (if (y1 == true) = true then Go.Bx.basculelaw_sameBytes.run x0.2.1 x1.2.1 else some false).bind fun y2 =>
        Q .ret (St1 (cond y1 y2 false)) := by
    intro D L; kernel_rfl
  refine (show (den C k) (cB Try.f30) Q (St0 x0 x1) = denJ (den C k) (lp C k) Js C (cB Try.f30) Q (St0 x0 x1) from (denJ_den _ _ _ _ _ _).symm).trans ((h (den C k) (lp C k)).trans ?_)
  first | rfl | kernel_rfl
def run (x0 : List Int × List Int × Unit) (x1 : List Int × List Int × Unit) : Option (Bool) := top (α := Bool) (fun (x4 : Bool) => some x4) x0 x1
def F : Fn := ⟨(.pair (.pair (.sl (.int .u8)) (.pair (.sl (.int .u8)) .unit)) (.pair (.pair (.sl (.int .u8)) (.pair (.sl (.int .u8)) .unit)) .unit)), .bool, false, fun x => run x.1 x.2.1⟩
set_option maxRecDepth 100000 in
theorem con : Con Try.prog 30 F := by
  refine con_of_den (C := C) (ctx_ok (by kernel_rfl) (by kernel_rfl) ⟨.inl ⟨Go.Bx.basculelaw_sameBytes.con, Go.Bx.basculelaw_sameBytes.named⟩, trivial⟩) (by kernel_rfl) Try.func30 (c := cB Try.f30) (by kernel_rfl) (by kernel_rfl) F fuel (fun x => by simp [F, spread, Try.ntmps30]) ?_
  intro x r h
  rw [← h]
  have h1 : start F Try.f30.ntmps x = (St0 x.1 x.2.1) := by kernel_rfl
  rw [h1]
  refine (top_eq fuel (fin C Try.f30.results.toList F.rs F.multi) x.1 x.2.1).trans ?_
  kernel_rfl
theorem named : Named Try.prog 30 := named_of Try.func30 (by kernel_rfl) (by kernel_rfl)
end Go.Bx.basculelaw_sameLog
namespace Go.Bx.log_Append
open Go Go.Proofs Go.Bx
set_option maxRecDepth 100000
set_option linter.unusedVariables false
def Js : List Nat := []
def C : Ctx := ⟨[(3, (.int .i64)), (5, (.int .u8)), (23, (.int .i64)), (33, (.sl (.int .u8))), (35, (.pair (.sl (.int .u8)) (.pair (.sl (.int .u8)) .unit)))], [], fnL [(80, Go.Bx.log_tail.F)], noSh, [], noInv, [(2, [4, 5])], [(2, [.dat false 4 [0], .dat false 4 [1]])], [44, 52, 56], 0, 0⟩
def St0 (x0 : List Int × List Int × Unit) (x1 : List Int) : St := stL 60 [(0, .data (.pair (.sl (.int .u8)) (.pair (.sl (.int .u8)) .unit)) x0), (1, .data (.sl (.int .u8)) x1)] []
def St1 (x5 : Int) (c4 : List Int × List Int × Unit) : St := stL 60 [(4, .ref 4 0 []), (5, .data (.int .i64) x5)] [(4, .cell (.pair (.sl (.int .u8)) (.pair (.sl (.int .u8)) .unit)) (.data (.pair (.sl (.int .u8)) (.pair (.sl (.int .u8)) .unit)) c4) false)]
def top {α : Type} (Rt : Int → (List Int × List Int × Unit) → Option α) (x0 : List Int × List Int × Unit) (x1 : List Int) : Option α :=
  if (cond (decide ((x0.1.length : Int) > 9000)) true (decide ((x0.2.1.length : Int) > 9000))) = true then
    Rt 12 ([], [], ())
  else
    if (decide ((x1.length : Int) > 200)) = true then
      Rt 1 ([], [], ())
    else
      if (decide ((IntKind.i64.wrap ((IntKind.i64.wrap ((IntKind.i64.wrap ((x0.1.length : Int) + (x0.2.1.length : Int))) + (x1.length : Int))) + 3)) > 9000)) = true then
        Rt 9 ([], [], ())
      else
        if fitB (2 + x1.length) 1 = true then
          (Go.Bx.log_tail.run x1).bind fun y1 =>
          if fitB (([(IntKind.u8.wrap (shrI .i64 (x1.length : Int) 8)), (IntKind.u8.wrap (x1.length : Int))] ++ x1).length + 1) 1 = true then
            if fitB (0 + x0.1.length) 1 = true then
              if fitB (0 + x0.2.1.length) 1 = true then
                if fitB (x0.2.1.length + (([(IntKind.u8.wrap (shrI .i64 (x1.length : Int) 8)), (IntKind.u8.wrap (x1.length : Int))] ++ x1) ++ [y1]).length) 1 = true then
                  Rt 0 (x0.1, (x0.2.1 ++ (([(IntKind.u8.wrap (shrI .i64 (x1.length : Int) 8)), (IntKind.u8.wrap (x1.length : Int))] ++ x1) ++ [y1])), ())
                else none
              else none
            else none
          else none
        else none
theorem top_eq {α : Type} (k : Nat) (Q : Ex → St → Option α) (x0 : List Int × List Int × Unit) (x1 : List Int) :
    (den C k) (cB Try.f47) Q (St0 x0 x1) = top (fun (x5 : Int) (c4 : List Int × List Int × Unit) => Q .ret (St1 x5 c4)) x0 x1 := by
  have h : ∀ (D L : DT α), denJ D L Js C (cB Try.f47) Q (St0 x0 x1) =
        if (cond (decide ((x0.1.length : Int) > 9000)) true (decide ((x0.2.1.length : Int) > 9000))) = true then
          Q .ret (St1 12 ([], [], ()))
        else
          if (decide ((x1.length : Int) > 200)) = true then
            Q .ret (St1 1 ([], [], ()))
          else
            if (decide ((IntKind.i64.wrap ((IntKind.i64.wrap ((IntKind.i64.wrap ((x0.1.length : Int) + (x0.2.1.length : Int))) + (x1.length : Int))) + 3)) > 9000)) = true then
              Q .ret (St1 9 ([], [], ()))
            else
              if fitB (2 + x1.length) 1 = true then
                (Go.Bx.log_tail.run x1).bind fun y1 =>
                if fitB (([(IntKind.u8.wrap (shrI .i64 (x1.length : Int) 8)), (IntKind.u8.wrap (x1.length : Int))] ++ x1).length + 1) 1 = true then
                  if fitB (0 + x0.1.length) 1 = true then
                    if fitB (0 + x0.2.1.length) 1 = true then
                      if fitB (x0.2.1.length + (([(IntKind.u8.wrap (shrI .i64 (x1.length : Int) 8)), (IntKind.u8.wrap (x1.length : Int))] ++ x1) ++ [y1]).length) 1 = true then
                        Q .ret (St1 0 (x0.1, (x0.2.1 ++ (([(IntKind.u8.wrap (shrI .i64 (x1.length : Int) 8)), (IntKind.u8.wrap (x1.length : Int))] ++ x1) ++ [y1])), ()))
                      else none
                    else none
                  else none
                else none
              else none := by
    intro D L; kernel_rfl
  refine (show (den C k) (cB Try.f47) Q (St0 x0 x1) = denJ (den C k) (lp C k) Js C (cB Try.f47) Q (St0 x0 x1) from (denJ_den _ _ _ _ _ _).symm).trans ((h (den C k) (lp C k)).trans ?_)
  first | rfl | kernel_rfl
def run (x0 : List Int × List Int × Unit) (x1 : List Int) : Option ((List Int × List Int × Unit) × Int × Unit) := top (α := (List Int × List Int × Unit) × Int × Unit) (fun (x5 : Int) (c4 : List Int × List Int × Unit) => some (c4, x5, ())) x0 x1
def F : Fn := ⟨(.pair (.pair (.sl (.int .u8)) (.pair (.sl (.int .u8)) .unit)) (.pair (.sl (.int .u8)) .unit)), (.pair (.pair (.sl (.int .u8)) (.pair (.sl (.int .u8)) .unit)) (.pair (.int .i64) .unit)), true, fun x => run x.1 x.2.1⟩
set_option maxRecDepth 100000 in
theorem con : Con Try.prog 47 F := by
  refine con_of_den (C := C) (ctx_ok (by kernel_rfl) (by kernel_rfl) ⟨.inl ⟨Go.Bx.log_tail.con, Go.Bx.log_tail.named⟩, trivial⟩) (by kernel_rfl) Try.func47 (c := cB Try.f47) (by kernel_rfl) (by kernel_rfl) F fuel (fun x => by simp [F, spread, Try.ntmps47]) ?_
  intro x r h
  rw [← h]
  have h1 : start F Try.f47.ntmps x = (St0 x.1 x.2.1) := by kernel_rfl
  rw [h1]
  refine (top_eq fuel (fin C Try.f47.results.toList F.rs F.multi) x.1 x.2.1).trans ?_
  kernel_rfl
theorem named : Named Try.prog 47 := named_of Try.func47 (by kernel_rfl) (by kernel_rfl)
end Go.Bx.log_Append
namespace Go.Bx.basculeref_LogAppended
open Go Go.Proofs Go.Bx
set_option maxRecDepth 100000
set_option linter.unusedVariables false
def Js : List Nat := []
def C : Ctx := ⟨[(9, .str), (23, (.int .i64)), (33, (.sl (.int .u8))), (35, (.pair (.sl (.int .u8)) (.pair (.sl (.int .u8)) .unit)))], [], fnL [(81, Go.Bx.basculeref_logText.F)], noSh, [], noInv, [(2, [4, 5])], [(2, [.dat false 4 []])], [], 0, 0⟩
def St0 (x0 : List Int × List Int × Unit) (x1 : List Int) : St := stL 41 [(0, .data (.pair (.sl (.int .u8)) (.pair (.sl (.int .u8)) .unit)) x0), (1, .data (.sl (.int .u8)) x1)] []
def St1 (x5 : Int) (c4 : List Int × List Int × Unit) : St := stL 41 [(4, .ref 4 0 []), (5, .data (.int .i64) x5)] [(4, .cell (.pair (.sl (.int .u8)) (.pair (.sl (.int .u8)) .unit)) (.data (.pair (.sl (.int .u8)) (.pair (.sl (.int .u8)) .unit)) c4) false)]
def top {α : Type} (Rt : Int → (List Int × List Int × Unit) → Option α) (x0 : List Int × List Int × Unit) (x1 : List Int) : Option α :=
  if (cond (decide ((x0.1.length : Int) > 9000)) true (decide ((x0.2.1.length : Int) > 9000))) = true then
    Rt 12 ([], [], ())
  else
    if (decide ((x1.length : Int) > 200)) = true then
      Rt 1 ([], [], ())
    else
      (Go.Bx.basculeref_logText.run x1).bind fun y1 =>
      if Nat.ble (x0.2.1.length + y1.length) 9223372036854775807 = true then
        if (decide ((IntKind.i64.wrap ((x0.1.length : Int) + ((x0.2.1 ++ y1).length : Int))) > 9000)) = true then
          Rt 9 ([], [], ())
        else
          Rt 0 (x0.1, (x0.2.1 ++ y1), ())
      else none
theorem top_eq {α : Type} (k : Nat) (Q : Ex → St → Option α) (x0 : List Int × List Int × Unit) (x1 : List Int) :
    (den C k) (cB Try.f48) Q (St0 x0 x1) = top (fun (x5 : Int) (c4 : List Int × List Int × Unit) => Q .ret (St1 x5 c4)) x0 x1 := by
  have h : ∀ (D L : DT α), denJ D L Js C (cB Try.f48) Q (St0 x0 x1) =
        if (cond (decide ((x0.1.length : Int) > 9000)) true (decide ((x0.2.1.length : Int) > 9000))) = true then
          Q .ret (St1 12 ([], [], ()))
        else
          if (decide ((x1.length : Int) > 200)) = true then
            Q .ret (St1 1 ([], [], ()))
          else
            (Go.Bx.basculeref_logText.run x1).bind fun y1 =>
            if Nat.ble (x0.2.1.length + y1.length) 9223372036854775807 = true then
              if (decide ((IntKind.i64.wrap ((x0.1.length : Int) + ((x0.2.1 ++ y1).length : Int))) > 9000)) = true then
                Q .ret (St1 9 ([], [], ()))
              else
                Q .ret (St1 0 (x0.1, (x0.2.1 ++ y1), ()))
            else none := by
    intro D L; kernel_rfl
  refine (show (den C k) (cB Try.f48) Q (St0 x0 x1) = denJ (den C k) (lp C k) Js C (cB Try.f48) Q (St0 x0 x1) from (denJ_den _ _ _ _ _ _).symm).trans ((h (den C k) (lp C k)).trans ?_)
  first | rfl | kernel_rfl
def run (x0 : List Int × List Int × Unit) (x1 : List Int) : Option ((List Int × List Int × Unit) × Int × Unit) := top (α := (List Int × List Int × Unit) × Int × Unit) (fun (x5 : Int) (c4 : List Int × List Int × Unit) => some (c4, x5, ())) x0 x1
def F : Fn := ⟨(.pair (.pair (.sl (.int .u8)) (.pair (.sl (.int .u8)) .unit)) (.pair (.sl (.int .u8)) .unit)), (.pair (.pair (.sl (.int .u8)) (.pair (.sl (.int .u8)) .unit)) (.pair (.int .i64) .unit)), true, fun x => run x.1 x.2.1⟩
set_option maxRecDepth 100000 in
theorem con : Con Try.prog 48 F := by
  refine con_of_den (C := C) (ctx_ok (by kernel_rfl) (by kernel_rfl) ⟨.inl ⟨Go.Bx.basculeref_logText.con, Go.Bx.basculeref_logText.named⟩, trivial⟩) (by kernel_rfl) Try.func48 (c := cB Try.f48) (by kernel_rfl) (by kernel_rfl) F fuel (fun x => by simp [F, spread, Try.ntmps48]) ?_
  intro x r h
  rw [← h]
  have h1 : start F Try.f48.ntmps x = (St0 x.1 x.2.1) := by kernel_rfl
  rw [h1]
  refine (top_eq fuel (fin C Try.f48.results.toList F.rs F.multi) x.1 x.2.1).trans ?_
  kernel_rfl
theorem named : Named Try.prog 48 := named_of Try.func48 (by kernel_rfl) (by kernel_rfl)
end Go.Bx.basculeref_LogAppended
namespace Go.Bx.basculelaw_LogAppends
open Go Go.Proofs Go.Bx
set_option maxRecDepth 100000
set_option linter.unusedVariables false
def Js : List Nat := []
def C : Ctx := ⟨[(4, .bool), (33, (.sl (.int .u8))), (35, (.pair (.sl (.int .u8)) (.pair (.sl (.int .u8)) .unit)))], [], fnL [(30, Go.Bx.basculelaw_sameLog.F), (47, Go.Bx.log_Append.F), (48, Go.Bx.basculeref_LogAppended.F)], noSh, [], noInv, [(2, [4])], [], [], 0, 0⟩
def St0 (x0 : List Int × List Int × Unit) (x1 : List Int) : St := stL 29 [(0, .data (.pair (.sl (.int .u8)) (.pair (.sl (.int .u8)) .unit)) x0), (1, .data (.sl (.int .u8)) x1)] []
def St1 (x4 : Bool) : St := stL 29 [(4, .data .bool x4)] []
def top {α : Type} (Rt : Bool → Option α) (x0 : List Int × List Int × Unit) (x1 : List Int) : Option α :=
  (Go.Bx.log_Append.run x0 x1).bind fun y1 =>
  (Go.Bx.basculeref_LogAppended.run x0 x1).bind fun y2 =>
  (Go.Bx.basculelaw_sameLog.run y1.1 y2.1).bind fun y3 =>
  Rt (cond y3 (y1.2.1 == y2.2.1) false)
theorem top_eq {α : Type} (k : Nat) (Q : Ex → St → Option α) (x0 : List Int × List Int × Unit) (x1 : List Int) :
    (den C k) (cB Try.f12) Q (St0 x0 x1) = top (fun (x4 : Bool) => Q .ret (St1 x4)) x0 x1 := by
  have h : ∀ (D L : DT α), denJ D L Js C (cB Try.f12) Q (St0 x0 x1) =
        (Go.Bx.log_Append.run x0 x1).bind fun y1 =>
        (Go.Bx.basculeref_LogAppended.run x0 x1).bind fun y2 =>
        (Go.Bx.basculelaw_sameLog.run y1.1 y2.1).bind fun y3 =>
        Q .ret (St1 (cond y3 (y1.2.1 == y2.2.1) false)) := by
    intro D L; kernel_rfl
  refine (show (den C k) (cB Try.f12) Q (St0 x0 x1) = denJ (den C k) (lp C k) Js C (cB Try.f12) Q (St0 x0 x1) from (denJ_den _ _ _ _ _ _).symm).trans ((h (den C k) (lp C k)).trans ?_)
  first | rfl | kernel_rfl
def run (x0 : List Int × List Int × Unit) (x1 : List Int) : Option (Bool) := top (α := Bool) (fun (x4 : Bool) => some x4) x0 x1
def F : Fn := ⟨(.pair (.pair (.sl (.int .u8)) (.pair (.sl (.int .u8)) .unit)) (.pair (.sl (.int .u8)) .unit)), .bool, false, fun x => run x.1 x.2.1⟩
set_option maxRecDepth 100000 in
theorem con : Con Try.prog 12 F := by
  refine con_of_den (C := C) (ctx_ok (by kernel_rfl) (by kernel_rfl) ⟨.inl ⟨Go.Bx.basculelaw_sameLog.con, Go.Bx.basculelaw_sameLog.named⟩, ⟨.inl ⟨Go.Bx.log_Append.con, Go.Bx.log_Append.named⟩, ⟨.inl ⟨Go.Bx.basculeref_LogAppended.con, Go.Bx.basculeref_LogAppended.named⟩, trivial⟩⟩⟩) (by kernel_rfl) Try.func12 (c := cB Try.f12) (by kernel_rfl) (by kernel_rfl) F fuel (fun x => by simp [F, spread, Try.ntmps12]) ?_
  intro x r h
  rw [← h]
  have h1 : start F Try.f12.ntmps x = (St0 x.1 x.2.1) := by kernel_rfl
  rw [h1]
  refine (top_eq fuel (fin C Try.f12.results.toList F.rs F.multi) x.1 x.2.1).trans ?_
  kernel_rfl
theorem named : Named Try.prog 12 := named_of Try.func12 (by kernel_rfl) (by kernel_rfl)
end Go.Bx.basculelaw_LogAppends
