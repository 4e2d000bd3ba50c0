/- Go functions of this seat in their own words of Lean, each tied to its code by a contract. -/
import Derived.Test.YthgnmgdhgmobpaaGBase
namespace Go.Bx.log_tail
open Go Go.Proofs Go.Bx
set_option maxRecDepth 100000
set_option linter.unusedVariables false
def Js : List Nat := [8]
def C : Ctx := ⟨[(5, (.int .u8)), (33, (.sl (.int .u8)))], [], fnL [], noSh, [], noInv, [(2, [2]), (1, [3]), (4, [3, 6, 7, 8]), (9, [3, 6, 7, 8]), (21, [3])], [], [], 0, 0⟩
def St0 (x0 : List Int) : St := stL 17 [(0, .data (.sl (.int .u8)) x0)] []
def St1 (x3 : Int) (x6 : List Int) (x7 : Int) (x8 : Int) : St := stL 17 [(3, .data (.int .u8) x3), (6, .data (.sl (.int .u8)) x6), (7, .data (.int .i64) x7), (8, .data (.int .i64) x8)] []
noncomputable def cd0 : Code := cL (cL (cR (cL (cR (cR (cB Try.f80))))))
def St2 (x3 : Int) : St := stL 17 [(3, .data (.int .u8) x3)] []
def l0s {α : Type} (Nx : Int → (List Int) → Int → Int → Option α) (Xt0 : Int → Option α) (x3 : Int) (x6 : List Int) (x7 : Int) (x8 : Int) : Option α :=
  if (decide (x8 < x7)) = true then
    if 0 ≤ x8 ∧ x8 < (x6.length : Int) then
      Nx (IntKind.u8.wrap (x3 + (List.getD x6 (Int.toNat x8) 0))) x6 x7 (IntKind.i64.wrap (x8 + 1))
    else none
  else
    Xt0 x3
theorem l0s_eq {α : Type} (k : Nat) (next : St → Option α) (Q : Ex → St → Option α) (x3 : Int) (x6 : List Int) (x7 : Int) (x8 : Int) :
    rnd C k cd0 9 Q next (St1 x3 x6 x7 x8) = l0s (fun (x3 : Int) (x6 : List Int) (x7 : Int) (x8 : Int) => next (St1 x3 x6 x7 x8)) (fun (x3 : Int) => Q (.exit 0) (St2 x3)) x3 x6 x7 x8 := by
  have h : ∀ (D L : DT α), denJ D L Js C cd0 (lq C 9 next Q) (St1 x3 x6 x7 x8) =
        if (decide (x8 < x7)) = true then
          if 0 ≤ x8 ∧ x8 < (x6.length : Int) then
            next (St1 (IntKind.u8.wrap (x3 + (List.getD x6 (Int.toNat x8) 0))) x6 x7 (IntKind.i64.wrap (x8 + 1)))
          else none
        else
          Q (.exit 0) (St2 x3) := by
    intro D L; kernel_rfl
  refine (show rnd C k cd0 9 Q next (St1 x3 x6 x7 x8) = denJ (den C k) (lp C k) Js C cd0 (lq C 9 next Q) (St1 x3 x6 x7 x8) from (denJ_den _ _ _ _ _ _).symm).trans ((h (den C k) (lp C k)).trans ?_)
  first | rfl | kernel_rfl
def l0 {α : Type} (k : Nat) (Xt0 : Int → Option α) : Nat → Int → (List Int) → Int → Int → Option α
  | 0, _, _, _, _ => none
  | n + 1, x3, x6, x7, x8 => l0s (l0 k Xt0 n) Xt0 x3 x6 x7 x8
theorem l0_eq {α : Type} (k : Nat) (Q : Ex → St → Option α) : ∀ (n : Nat) (x3 : Int) (x6 : List Int) (x7 : Int) (x8 : Int), iter (rnd C k cd0 9 Q) n (St1 x3 x6 x7 x8) = l0 k (fun (x3 : Int) => Q (.exit 0) (St2 x3)) n x3 x6 x7 x8
  | 0, _, _, _, _ => rfl
  | n + 1, x3, x6, x7, x8 => (iter_succ _ _ _).trans ((l0s_eq k (iter (rnd C k cd0 9 Q) n) Q x3 x6 x7 x8).trans (congrArg (fun N => l0s N (fun (x3 : Int) => Q (.exit 0) (St2 x3)) x3 x6 x7 x8) (funext fun x3 => funext fun x6 => funext fun x7 => funext fun x8 => l0_eq k Q n x3 x6 x7 x8)))
theorem l0_congr {α : Type} (k : Nat) (Xt0 : Int → Option α) (Xt0q : Int → Option α) (hXt0 : ∀ (x3 : Int), Xt0 x3 = Xt0q x3) (n : Nat) (x3 : Int) (x6 : List Int) (x7 : Int) (x8 : Int) : l0 k Xt0 n x3 x6 x7 x8 = l0 k Xt0q n x3 x6 x7 x8 := by
  obtain rfl : Xt0 = Xt0q := by funext x3; exact hXt0 x3
  rfl
noncomputable def cd1 : Code := cR (cR (cR (cB Try.f80)))
def St3 (x3 : Int) : St := stL 17 [(3, .data (.int .u8) x3)] []
def St4 (x2 : Int) : St := stL 17 [(2, .data (.int .u8) x2)] []
def j0 {α : Type} (Rt : Int → Option α) (x3 : Int) : Option α :=
  Rt x3
theorem j0_eq {α : Type} (k : Nat) (Q : Ex → St → Option α) (x3 : Int) :
    (den C k) cd1 Q (St3 x3) = j0 (fun (x2 : Int) => Q .ret (St4 x2)) x3 := by
  have h : ∀ (D L : DT α), denJ D L Js C cd1 Q (St3 x3) =
        Q .ret (St4 x3) := by
    intro D L; kernel_rfl
  refine (show (den C k) cd1 Q (St3 x3) = denJ (den C k) (lp C k) Js C cd1 Q (St3 x3) from (denJ_den _ _ _ _ _ _).symm).trans ((h (den C k) (lp C k)).trans ?_)
  first | rfl | kernel_rfl
theorem a0 {α : Type} (k : Nat) (Q : Ex → St → Option α) (x3 : Int) (x6 : List Int) (x7 : Int) (x8 : Int) :
    (lp C k) cd0 (blkQ C 0 (sq (den C k) (lp C k) Js C cd1 Q)) (St1 x3 x6 x7 x8) = l0 k (fun (x3 : Int) => j0 (fun (x2 : Int) => Q .ret (St4 x2)) x3) k x3 x6 x7 x8 :=
  (show (lp C k) cd0 (blkQ C 0 (sq (den C k) (lp C k) Js C cd1 Q)) (St1 x3 x6 x7 x8) = iter (rnd C k cd0 9 (blkQ C 0 (sq (den C k) (lp C k) Js C cd1 Q))) k (St1 x3 x6 x7 x8) by kernel_rfl).trans ((l0_eq k (blkQ C 0 (sq (den C k) (lp C k) Js C cd1 Q)) k x3 x6 x7 x8).trans (l0_congr k _ _ (fun x3 => ((show (blkQ C 0 (sq (den C k) (lp C k) Js C cd1 Q)) (.exit 0) (St2 x3) = (den C k) cd1 Q (St3 x3) by kernel_rfl).trans (by simp only [j0_eq]))) k x3 x6 x7 x8))
def top {α : Type} (k : Nat) (Rt : Int → Option α) (x0 : List Int) : Option α :=
  l0 k (fun (x3 : Int) => j0 Rt x3) k 0 x0 (x0.length : Int) 0
theorem top_eq {α : Type} (k : Nat) (Q : Ex → St → Option α) (x0 : List Int) :
    (den C k) (cB Try.f80) Q (St0 x0) = top k (fun (x2 : Int) => Q .ret (St4 x2)) x0 := by
  have h : ∀ (D L : DT α), denJ D L Js C (cB Try.f80) Q (St0 x0) =
        L cd0 (blkQ C 0 (sq D L Js C cd1 Q)) (St1 0 x0 (x0.length : Int) 0) := by
    intro D L; kernel_rfl
  refine (show (den C k) (cB Try.f80) Q (St0 x0) = denJ (den C k) (lp C k) Js C (cB Try.f80) Q (St0 x0) from (denJ_den _ _ _ _ _ _).symm).trans ((h (den C k) (lp C k)).trans ?_)
  simp only [a0]
  first | rfl | kernel_rfl
def run (x0 : List Int) : Option (Int) := top (α := Int) fuel (fun (x2 : Int) => some x2) x0
def F : Fn := ⟨(.pair (.sl (.int .u8)) .unit), (.int .u8), false, fun x => run x.1⟩
set_option maxRecDepth 100000 in
theorem con : Con Try.prog 80 F := by
  refine con_of_den (C := C) (ctx_ok (by kernel_rfl) (by kernel_rfl) trivial) (by kernel_rfl) Try.func80 (c := cB Try.f80) (by kernel_rfl) (by kernel_rfl) F fuel (fun x => by simp [F, spread, Try.ntmps80]) ?_
  intro x r h
  rw [← h]
  have h1 : start F Try.f80.ntmps x = (St0 x.1) := by kernel_rfl
  rw [h1]
  refine (top_eq fuel (fin C Try.f80.results.toList F.rs F.multi) x.1).trans ?_
  kernel_rfl
theorem named : Named Try.prog 80 := named_of Try.func80 (by kernel_rfl) (by kernel_rfl)
end Go.Bx.log_tail
namespace Go.Bx.basculeref_big
open Go Go.Proofs Go.Bx
set_option maxRecDepth 100000
set_option linter.unusedVariables false
def Js : List Nat := [8]
def C : Ctx := ⟨[(3, (.int .i64)), (5, (.int .u8)), (9, .str), (27, (.int .u64)), (33, (.sl (.int .u8)))], [], fnL [], noSh, [], noInv, [(2, [4]), (1, [5]), (4, [0, 5, 6, 7]), (9, [0, 5, 6, 7]), (21, [5])], [], [], 0, 0⟩
def St0 (x0 : Int) (x1 : Int) : St := stL 19 [(0, .data (.int .u64) x0), (1, .data (.int .i64) x1)] []
def St1 (x0 : Int) (x5 : List Int) (x6 : Int) (x7 : Int) : St := stL 19 [(0, .data (.int .u64) x0), (5, .data .str x5), (6, .data (.int .i64) x6), (7, .data (.int .i64) x7)] []
noncomputable def cd0 : Code := cL (cL (cR (cL (cR (cR (cB Try.f102))))))
def St2 (x5 : List Int) : St := stL 19 [(5, .data .str x5)] []
def l0s {α : Type} (Nx : Int → (List Int) → Int → Int → Option α) (Xt0 : (List Int) → Option α) (x0 : Int) (x5 : List Int) (x6 : Int) (x7 : Int) : Option α :=
  if (decide (x7 < x6)) = true then
    if Nat.ble (1 + x5.length) 9223372036854775807 = true then
      Nx (shrI .u64 x0 8) ([(IntKind.u8.wrap x0)] ++ x5) x6 (IntKind.i64.wrap (x7 + 1))
    else none
  else
    Xt0 x5
theorem l0s_eq {α : Type} (k : Nat) (next : St → Option α) (Q : Ex → St → Option α) (x0 : Int) (x5 : List Int) (x6 : Int) (x7 : Int) :
    rnd C k cd0 9 Q next (St1 x0 x5 x6 x7) = l0s (fun (x0 : Int) (x5 : List Int) (x6 : Int) (x7 : Int) => next (St1 x0 x5 x6 x7)) (fun (x5 : List Int) => Q (.exit 0) (St2 x5)) x0 x5 x6 x7 := by
  have h : ∀ (D L : DT α), denJ D L Js C cd0 (lq C 9 next Q) (St1 x0 x5 x6 x7) =
        if (decide (x7 < x6)) = true then
          if Nat.ble (1 + x5.length) 9223372036854775807 = true then
            next (St1 (shrI .u64 x0 8) ([(IntKind.u8.wrap x0)] ++ x5) x6 (IntKind.i64.wrap (x7 + 1)))
          else none
        else
          Q (.exit 0) (St2 x5) := by
    intro D L; kernel_rfl
  refine (show rnd C k cd0 9 Q next (St1 x0 x5 x6 x7) = denJ (den C k) (lp C k) Js C cd0 (lq C 9 next Q) (St1 x0 x5 x6 x7) from (denJ_den _ _ _ _ _ _).symm).trans ((h (den C k) (lp C k)).trans ?_)
  first | rfl | kernel_rfl
def l0 {α : Type} (k : Nat) (Xt0 : (List Int) → Option α) : Nat → Int → (List Int) → Int → Int → Option α
  | 0, _, _, _, _ => none
  | n + 1, x0, x5, x6, x7 => l0s (l0 k Xt0 n) Xt0 x0 x5 x6 x7
theorem l0_eq {α : Type} (k : Nat) (Q : Ex → St → Option α) : ∀ (n : Nat) (x0 : Int) (x5 : List Int) (x6 : Int) (x7 : Int), iter (rnd C k cd0 9 Q) n (St1 x0 x5 x6 x7) = l0 k (fun (x5 : List Int) => Q (.exit 0) (St2 x5)) n x0 x5 x6 x7
  | 0, _, _, _, _ => rfl
  | n + 1, x0, x5, x6, x7 => (iter_succ _ _ _).trans ((l0s_eq k (iter (rnd C k cd0 9 Q) n) Q x0 x5 x6 x7).trans (congrArg (fun N => l0s N (fun (x5 : List Int) => Q (.exit 0) (St2 x5)) x0 x5 x6 x7) (funext fun x0 => funext fun x5 => funext fun x6 => funext fun x7 => l0_eq k Q n x0 x5 x6 x7)))
theorem l0_congr {α : Type} (k : Nat) (Xt0 : (List Int) → Option α) (Xt0q : (List Int) → Option α) (hXt0 : ∀ (x5 : List Int), Xt0 x5 = Xt0q x5) (n : Nat) (x0 : Int) (x5 : List Int) (x6 : Int) (x7 : Int) : l0 k Xt0 n x0 x5 x6 x7 = l0 k Xt0q n x0 x5 x6 x7 := by
  obtain rfl : Xt0 = Xt0q := by funext x5; exact hXt0 x5
  rfl
noncomputable def cd1 : Code := cR (cR (cR (cB Try.f102)))
def St3 (x5 : List Int) : St := stL 19 [(5, .data .str x5)] []
def St4 (x4 : List Int) : St := stL 19 [(4, .data .str x4)] []
def j0 {α : Type} (Rt : (List Int) → Option α) (x5 : List Int) : Option α :=
  Rt x5
theorem j0_eq {α : Type} (k : Nat) (Q : Ex → St → Option α) (x5 : List Int) :
    (den C k) cd1 Q (St3 x5) = j0 (fun (x4 : List Int) => Q .ret (St4 x4)) x5 := by
  have h : ∀ (D L : DT α), denJ D L Js C cd1 Q (St3 x5) =
        Q .ret (St4 x5) := by
    intro D L; kernel_rfl
  refine (show (den C k) cd1 Q (St3 x5) = denJ (den C k) (lp C k) Js C cd1 Q (St3 x5) from (denJ_den _ _ _ _ _ _).symm).trans ((h (den C k) (lp C k)).trans ?_)
  first | rfl | kernel_rfl
theorem a0 {α : Type} (k : Nat) (Q : Ex → St → Option α) (x0 : Int) (x5 : List Int) (x6 : Int) (x7 : Int) :
    (lp C k) cd0 (blkQ C 0 (sq (den C k) (lp C k) Js C cd1 Q)) (St1 x0 x5 x6 x7) = l0 k (fun (x5 : List Int) => j0 (fun (x4 : List Int) => Q .ret (St4 x4)) x5) k x0 x5 x6 x7 :=
  (show (lp C k) cd0 (blkQ C 0 (sq (den C k) (lp C k) Js C cd1 Q)) (St1 x0 x5 x6 x7) = iter (rnd C k cd0 9 (blkQ C 0 (sq (den C k) (lp C k) Js C cd1 Q))) k (St1 x0 x5 x6 x7) by kernel_rfl).trans ((l0_eq k (blkQ C 0 (sq (den C k) (lp C k) Js C cd1 Q)) k x0 x5 x6 x7).trans (l0_congr k _ _ (fun x5 => ((show (blkQ C 0 (sq (den C k) (lp C k) Js C cd1 Q)) (.exit 0) (St2 x5) = (den C k) cd1 Q (St3 x5) by kernel_rfl).trans (by simp only [j0_eq]))) k x0 x5 x6 x7))
def top {α : Type} (k : Nat) (Rt : (List Int) → Option α) (x0 : Int) (x1 : Int) : Option α :=
  l0 k (fun (x5 : List Int) => j0 Rt x5) k x0 [] x1 0
theorem top_eq {α : Type} (k : Nat) (Q : Ex → St → Option α) (x0 : Int) (x1 : Int) :
    (den C k) (cB Try.f102) Q (St0 x0 x1) = top k (fun (x4 : List Int) => Q .ret (St4 x4)) x0 x1 := by
  have h : ∀ (D L : DT α), denJ D L Js C (cB Try.f102) Q (St0 x0 x1) =
        L cd0 (blkQ C 0 (sq D L Js C cd1 Q)) (St1 x0 [] x1 0) := by
    intro D L; kernel_rfl
  refine (show (den C k) (cB Try.f102) Q (St0 x0 x1) = denJ (den C k) (lp C k) Js C (cB Try.f102) Q (St0 x0 x1) from (denJ_den _ _ _ _ _ _).symm).trans ((h (den C k) (lp C k)).trans ?_)
  simp only [a0]
  first | rfl | kernel_rfl
def run (x0 : Int) (x1 : Int) : Option (List Int) := top (α := List Int) fuel (fun (x4 : List Int) => some x4) x0 x1
def F : Fn := ⟨(.pair (.int .u64) (.pair (.int .i64) .unit)), .str, false, fun x => run x.1 x.2.1⟩
set_option maxRecDepth 100000 in
theorem con : Con Try.prog 102 F := by
  refine con_of_den (C := C) (ctx_ok (by kernel_rfl) (by kernel_rfl) trivial) (by kernel_rfl) Try.func102 (c := cB Try.f102) (by kernel_rfl) (by kernel_rfl) F fuel (fun x => by simp [F, spread, Try.ntmps102]) ?_
  intro x r h
  rw [← h]
  have h1 : start F Try.f102.ntmps x = (St0 x.1 x.2.1) := by kernel_rfl
  rw [h1]
  refine (top_eq fuel (fin C Try.f102.results.toList F.rs F.multi) x.1 x.2.1).trans ?_
  kernel_rfl
theorem named : Named Try.prog 102 := named_of Try.func102 (by kernel_rfl) (by kernel_rfl)
end Go.Bx.basculeref_big
namespace Go.Bx.basculeref_logText
open Go Go.Proofs Go.Bx
set_option maxRecDepth 100000
set_option linter.unusedVariables false
def Js : List Nat := [8]
def C : Ctx := ⟨[(3, (.int .i64)), (5, (.int .u8)), (9, .str), (27, (.int .u64)), (33, (.sl (.int .u8)))], [], fnL [(102, Go.Bx.basculeref_big.F)], noSh, [], noInv, [(2, [2]), (1, [0, 3]), (4, [0, 3, 6, 7, 8]), (9, [0, 3, 6, 7, 8]), (21, [0, 3])], [], [], 0, 0⟩
def St0 (x0 : List Int) : St := stL 28 [(0, .data (.sl (.int .u8)) x0)] []
def St1 (x0 : List Int) (x3 : Int) (x6 : List Int) (x7 : Int) (x8 : Int) : St := stL 28 [(0, .data (.sl (.int .u8)) x0), (3, .data (.int .i64) x3), (6, .data (.sl (.int .u8)) x6), (7, .data (.int .i64) x7), (8, .data (.int .i64) x8)] []
noncomputable def cd0 : Code := cL (cL (cR (cL (cR (cR (cB Try.f81))))))
def St2 (x0 : List Int) (x3 : Int) : St := stL 28 [(0, .data (.sl (.int .u8)) x0), (3, .data (.int .i64) x3)] []
def l0s {α : Type} (Nx : (List Int) → Int → (List Int) → Int → Int → Option α) (Xt0 : (List Int) → Int → Option α) (x0 : List Int) (x3 : Int) (x6 : List Int) (x7 : Int) (x8 : Int) : Option α :=
  if (decide (x8 < x7)) = true then
    if 0 ≤ x8 ∧ x8 < (x6.length : Int) then
      Nx x0 (IntKind.i64.wrap (x3 + (IntKind.i64.wrap (List.getD x6 (Int.toNat x8) 0)))) x6 x7 (IntKind.i64.wrap (x8 + 1))
    else none
  else
    Xt0 x0 x3
theorem l0s_eq {α : Type} (k : Nat) (next : St → Option α) (Q : Ex → St → Option α) (x0 : List Int) (x3 : Int) (x6 : List Int) (x7 : Int) (x8 : Int) :
    rnd C k cd0 9 Q next (St1 x0 x3 x6 x7 x8) = l0s (fun (x0 : List Int) (x3 : Int) (x6 : List Int) (x7 : Int) (x8 : Int) => next (St1 x0 x3 x6 x7 x8)) (fun (x0 : List Int) (x3 : Int) => Q (.exit 0) (St2 x0 x3)) x0 x3 x6 x7 x8 := by
  have h : ∀ (D L : DT α), denJ D L Js C cd0 (lq C 9 next Q) (St1 x0 x3 x6 x7 x8) =
        if (decide (x8 < x7)) = true then
          if 0 ≤ x8 ∧ x8 < (x6.length : Int) then
            next (St1 x0 (IntKind.i64.wrap (x3 + (IntKind.i64.wrap (List.getD x6 (Int.toNat x8) 0)))) x6 x7 (IntKind.i64.wrap (x8 + 1)))
          else none
        else
          Q (.exit 0) (St2 x0 x3) := by
    intro D L; kernel_rfl
  refine (show rnd C k cd0 9 Q next (St1 x0 x3 x6 x7 x8) = denJ (den C k) (lp C k) Js C cd0 (lq C 9 next Q) (St1 x0 x3 x6 x7 x8) from (denJ_den _ _ _ _ _ _).symm).trans ((h (den C k) (lp C k)).trans ?_)
  first | rfl | kernel_rfl
def l0 {α : Type} (k : Nat) (Xt0 : (List Int) → Int → Option α) : Nat → (List Int) → Int → (List Int) → Int → Int → Option α
  | 0, _, _, _, _, _ => none
  | n + 1, x0, x3, x6, x7, x8 => l0s (l0 k Xt0 n) Xt0 x0 x3 x6 x7 x8
theorem l0_eq {α : Type} (k : Nat) (Q : Ex → St → Option α) : ∀ (n : Nat) (x0 : List Int) (x3 : Int) (x6 : List Int) (x7 : Int) (x8 : Int), iter (rnd C k cd0 9 Q) n (St1 x0 x3 x6 x7 x8) = l0 k (fun (x0 : List Int) (x3 : Int) => Q (.exit 0) (St2 x0 x3)) n x0 x3 x6 x7 x8
  | 0, _, _, _, _, _ => rfl
  | n + 1, x0, x3, x6, x7, x8 => (iter_succ _ _ _).trans ((l0s_eq k (iter (rnd C k cd0 9 Q) n) Q x0 x3 x6 x7 x8).trans (congrArg (fun N => l0s N (fun (x0 : List Int) (x3 : Int) => Q (.exit 0) (St2 x0 x3)) x0 x3 x6 x7 x8) (funext fun x0 => funext fun x3 => funext fun x6 => funext fun x7 => funext fun x8 => l0_eq k Q n x0 x3 x6 x7 x8)))
theorem l0_congr {α : Type} (k : Nat) (Xt0 : (List Int) → Int → Option α) (Xt0q : (List Int) → Int → Option α) (hXt0 : ∀ (x0 : List Int) (x3 : Int), Xt0 x0 x3 = Xt0q x0 x3) (n : Nat) (x0 : List Int) (x3 : Int) (x6 : List Int) (x7 : Int) (x8 : Int) : l0 k Xt0 n x0 x3 x6 x7 x8 = l0 k Xt0q n x0 x3 x6 x7 x8 := by
  obtain rfl : Xt0 = Xt0q := by funext x0; funext x3; exact hXt0 x0 x3
  rfl
noncomputable def cd1 : Code := cR (cR (cR (cB Try.f81)))
def St3 (x0 : List Int) (x3 : Int) : St := stL 28 [(0, .data (.sl (.int .u8)) x0), (3, .data (.int .i64) x3)] []
def St4 (x2 : List Int) : St := stL 28 [(2, .data .str x2)] []
def j0 {α : Type} (Rt : (List Int) → Option α) (x0 : List Int) (x3 : Int) : Option α :=
  (Go.Bx.basculeref_big.run (IntKind.u64.wrap (x0.length : Int)) 2).bind fun y1 =>
  if Nat.ble (y1.length + x0.length) 9223372036854775807 = true then
    (Go.Bx.basculeref_big.run (IntKind.u64.wrap x3) 1).bind fun y2 =>
    if Nat.ble ((y1 ++ x0).length + y2.length) 9223372036854775807 = true then
      Rt ((y1 ++ x0) ++ y2)
    else none
  else none
theorem j0_eq {α : Type} (k : Nat) (Q : Ex → St → Option α) (x0 : List Int) (x3 : Int) :
    (den C k) cd1 Q (St3 x0 x3) = j0 (fun (x2 : List Int) => Q .ret (St4 x2)) x0 x3 := by
  have h : ∀ (D L : DT α), denJ D L Js C cd1 Q (St3 x0 x3) =
        (Go.Bx.basculeref_big.run (IntKind.u64.wrap (x0.length : Int)) 2).bind fun y1 =>
        if Nat.ble (y1.length + x0.length) 9223372036854775807 = true then
          (Go.Bx.basculeref_big.run (IntKind.u64.wrap x3) 1).bind fun y2 =>
          if Nat.ble ((y1 ++ x0).length + y2.length) 9223372036854775807 = true then
            Q .ret (St4 ((y1 ++ x0) ++ y2))
          else none
        else none := by
    intro D L; kernel_rfl
  refine (show (den C k) cd1 Q (St3 x0 x3) = denJ (den C k) (lp C k) Js C cd1 Q (St3 x0 x3) from (denJ_den _ _ _ _ _ _).symm).trans ((h (den C k) (lp C k)).trans ?_)
  first | rfl | kernel_rfl
theorem a0 {α : Type} (k : Nat) (Q : Ex → St → Option α) (x0 : List Int) (x3 : Int) (x6 : List Int) (x7 : Int) (x8 : Int) :
    (lp C k) cd0 (blkQ C 0 (sq (den C k) (lp C k) Js C cd1 Q)) (St1 x0 x3 x6 x7 x8) = l0 k (fun (x0 : List Int) (x3 : Int) => j0 (fun (x2 : List Int) => Q .ret (St4 x2)) x0 x3) k x0 x3 x6 x7 x8 :=
  (show (lp C k) cd0 (blkQ C 0 (sq (den C k) (lp C k) Js C cd1 Q)) (St1 x0 x3 x6 x7 x8) = iter (rnd C k cd0 9 (blkQ C 0 (sq (den C k) (lp C k) Js C cd1 Q))) k (St1 x0 x3 x6 x7 x8) by kernel_rfl).trans ((l0_eq k (blkQ C 0 (sq (den C k) (lp C k) Js C cd1 Q)) k x0 x3 x6 x7 x8).trans (l0_congr k _ _ (fun x0 x3 => ((show (blkQ C 0 (sq (den C k) (lp C k) Js C cd1 Q)) (.exit 0) (St2 x0 x3) = (den C k) cd1 Q (St3 x0 x3) by kernel_rfl).trans (by simp only [j0_eq]))) k x0 x3 x6 x7 x8))
def top {α : Type} (k : Nat) (Rt : (List Int) → Option α) (x0 : List Int) : Option α :=
  l0 k (fun (x0 : List Int) (x3 : Int) => j0 Rt x0 x3) k x0 0 x0 (x0.length : Int) 0
theorem top_eq {α : Type} (k : Nat) (Q : Ex → St → Option α) (x0 : List Int) :
    (den C k) (cB Try.f81) Q (St0 x0) = top k (fun (x2 : List Int) => Q .ret (St4 x2)) x0 := by
  have h : ∀ (D L : DT α), denJ D L Js C (cB Try.f81) Q (St0 x0) =
        L cd0 (blkQ C 0 (sq D L Js C cd1 Q)) (St1 x0 0 x0 (x0.length : Int) 0) := by
    intro D L; kernel_rfl
  refine (show (den C k) (cB Try.f81) Q (St0 x0) = denJ (den C k) (lp C k) Js C (cB Try.f81) Q (St0 x0) from (denJ_den _ _ _ _ _ _).symm).trans ((h (den C k) (lp C k)).trans ?_)
  simp only [a0]
  first | rfl | kernel_rfl
def run (x0 : List Int) : Option (List Int) := top (α := List Int) fuel (fun (x2 : List Int) => some x2) x0
def F : Fn := ⟨(.pair (.sl (.int .u8)) .unit), .str, false, fun x => run x.1⟩
set_option maxRecDepth 100000 in
theorem con : Con Try.prog 81 F := by
  refine con_of_den (C := C) (ctx_ok (by kernel_rfl) (by kernel_rfl) ⟨.inl ⟨Go.Bx.basculeref_big.con, Go.Bx.basculeref_big.named⟩, trivial⟩) (by kernel_rfl) Try.func81 (c := cB Try.f81) (by kernel_rfl) (by kernel_rfl) F fuel (fun x => by simp [F, spread, Try.ntmps81]) ?_
  intro x r h
  rw [← h]
  have h1 : start F Try.f81.ntmps x = (St0 x.1) := by kernel_rfl
  rw [h1]
  refine (top_eq fuel (fin C Try.f81.results.toList F.rs F.multi) x.1).trans ?_
  kernel_rfl
theorem named : Named Try.prog 81 := named_of Try.func81 (by kernel_rfl) (by kernel_rfl)
end Go.Bx.basculeref_logText
namespace Go.Bx.basculelaw_sameBytes
open Go Go.Proofs Go.Bx
set_option maxRecDepth 100000
set_option linter.unusedVariables false
def Js : List Nat := []
def C : Ctx := ⟨[(4, .bool), (9, .str), (33, (.sl (.int .u8)))], [], fnL [], noSh, [], noInv, [(2, [4])], [], [], 0, 0⟩
def St0 (x0 : List Int) (x1 : List Int) : St := stL 10 [(0, .data (.sl (.int .u8)) x0), (1, .data (.sl (.int .u8)) x1)] []
def St1 (x4 : Bool) : St := stL 10 [(4, .data .bool x4)] []
def top {α : Type} (Rt : Bool → Option α) (x0 : List Int) (x1 : List Int) : Option α :=
  Rt (beqD .str x0 x1)
theorem top_eq {α : Type} (k : Nat) (Q : Ex → St → Option α) (x0 : List Int) (x1 : List Int) :
    (den C k) (cB Try.f73) Q (St0 x0 x1) = top (fun (x4 : Bool) => Q .ret (St1 x4)) x0 x1 := by
  have h : ∀ (D L : DT α), denJ D L Js C (cB Try.f73) Q (St0 x0 x1) =
        Q .ret (St1 (beqD .str x0 x1)) := by
    intro D L; kernel_rfl
  refine (show (den C k) (cB Try.f73) Q (St0 x0 x1) = denJ (den C k) (lp C k) Js C (cB Try.f73) Q (St0 x0 x1) from (denJ_den _ _ _ _ _ _).symm).trans ((h (den C k) (lp C k)).trans ?_)
  first | rfl | kernel_rfl
def run (x0 : List Int) (x1 : List Int) : Option (Bool) := top (α := Bool) (fun (x4 : Bool) => some x4) x0 x1
def F : Fn := ⟨(.pair (.sl (.int .u8)) (.pair (.sl (.int .u8)) .unit)), .bool, false, fun x => run x.1 x.2.1⟩
set_option maxRecDepth 100000 in
theorem con : Con Try.prog 73 F := by
  refine con_of_den (C := C) (ctx_ok (by kernel_rfl) (by kernel_rfl) trivial) (by kernel_rfl) Try.func73 (c := cB Try.f73) (by kernel_rfl) (by kernel_rfl) F fuel (fun x => by simp [F, spread, Try.ntmps73]) ?_
  intro x r h
  rw [← h]
  have h1 : start F Try.f73.ntmps x = (St0 x.1 x.2.1) := by kernel_rfl
  rw [h1]
  refine (top_eq fuel (fin C Try.f73.results.toList F.rs F.multi) x.1 x.2.1).trans ?_
  kernel_rfl
theorem named : Named Try.prog 73 := named_of Try.func73 (by kernel_rfl) (by kernel_rfl)
end Go.Bx.basculelaw_sameBytes
namespace Go.Bx.basculelaw_sameLog
open Go Go.Proofs Go.Bx
set_option maxRecDepth 100000
set_option linter.unusedVariables false
def Js : List Nat := []
def C : Ctx := ⟨[(4, .bool), (33, (.sl (.int .u8))), (35, (.pair (.sl (.int .u8)) (.pair (.sl (.int .u8)) .unit)))], [], fnL [(73, Go.Bx.basculelaw_sameBytes.F)], noSh, [], noInv, [(2, [4])], [], [], 0, 0⟩
def St0 (x0 : List Int × List Int × Unit) (x1 : List Int × List Int × Unit) : St := stL 17 [(0, .data (.pair (.sl (.int .u8)) (.pair (.sl (.int .u8)) .unit)) x0), (1, .data (.pair (.sl (.int .u8)) (.pair (.sl (.int .u8)) .unit)) x1)] []
def St1 (x4 : Bool) : St := stL 17 [(4, .data .bool x4)] []
def top {α : Type} (Rt : Bool → Option α) (x0 : List Int × List Int × Unit) (x1 : List Int × List Int × Unit) : Option α :=
  (Go.Bx.basculelaw_sameBytes.run x0.1 x1.1).bind fun y1 =>
  (if (y1 == true) = true then Go.Bx.basculelaw_sameBytes.run x0.2.1 x1.2.1 else some false).bind fun y2 =>
  Rt (cond y1 y2 false)
theorem top_eq {α : Type} (k : Nat) (Q : Ex → St → Option α) (x0 : List Int × List Int × Unit) (x1 : List Int × List Int × Unit) :
    (den C k) (cB Try.f30) Q (St0 x0 x1) = top (fun (x4 : Bool) => Q .ret (St1 x4)) x0 x1 := by
  have h : ∀ (D L : DT α), denJ D L Js C (cB Try.f30) Q (St0 x0 x1) =
        (Go.Bx.basculelaw_sameBytes.run x0.1 x1.1).bind fun y1 =>
        (if (y1 == true) = true then Go.Bx.basculelaw_sameBytes.run x0.2.1 x1.2.1 else some false).bind fun y2 =>
        Q .ret (St1 (cond y1 y2 false)) := by
    intro D L; kernel_rfl
  refine (show (den C k) (cB Try.f30) Q (St0 x0 x1) = denJ (den C k) (lp C k) Js C (cB Try.f30) Q (St0 x0 x1) from (denJ_den _ _ _ _ _ _).symm).trans ((h (den C k) (lp C k)).trans ?_)
  first | rfl | kernel_rfl
def run (x0 : List Int × List Int × Unit) (x1 : List Int × List Int × Unit) : Option (Bool) := top (α := Bool) (fun (x4 : Bool) => some x4) x0 x1
def F : Fn := ⟨(.pair (.pair (.sl (.int .u8)) (.pair (.sl (.int .u8)) .unit)) (.pair (.pair (.sl (.int .u8)) (.pair (.sl (.int .u8)) .unit)) .unit)), .bool, false, fun x => run x.1 x.2.1⟩
set_option maxRecDepth 100000 in
theorem con : Con Try.prog 30 F := by
  refine con_of_den (C := C) (ctx_ok (by kernel_rfl) (by kernel_rfl) ⟨.inl ⟨Go.Bx.basculelaw_sameBytes.con, Go.Bx.basculelaw_sameBytes.named⟩, trivial⟩) (by kernel_rfl) Try.func30 (c := cB Try.f30) (by kernel_rfl) (by kernel_rfl) F fuel (fun x => by simp [F, spread, Try.ntmps30]) ?_
  intro x r h
  rw [← h]
  have h1 : start F Try.f30.ntmps x = (St0 x.1 x.2.1) := by kernel_rfl
  rw [h1]
  refine (top_eq fuel (fin C Try.f30.results.toList F.rs F.multi) x.1 x.2.1).trans ?_
  kernel_rfl
theorem named : Named Try.prog 30 := named_of Try.func30 (by kernel_rfl) (by kernel_rfl)
end Go.Bx.basculelaw_sameLog
namespace Go.Bx.log_Open
open Go Go.Proofs Go.Bx
set_option maxRecDepth 100000
set_option linter.unusedVariables false
def Js : List Nat := [12]
def C : Ctx := ⟨[(3, (.int .i64)), (5, (.int .u8)), (33, (.sl (.int .u8))), (35, (.pair (.sl (.int .u8)) (.pair (.sl (.int .u8)) .unit))), (64, (.sl (.sl (.int .u8))))], [], fnL [(80, Go.Bx.log_tail.F)], noSh, [], noInv, [(2, [2, 3]), (1, [5, 6]), (4, [4, 5, 6]), (7, [4, 5, 6, 7]), (12, [4, 5, 6]), (33, [5, 6])], [(12, [.melt true 6 [] 72 true])], [11, 70], 0, 0⟩
def St0 (x0 : List Int × List Int × Unit) : St := stL 79 [(0, .data (.pair (.sl (.int .u8)) (.pair (.sl (.int .u8)) .unit)) x0)] []
def St1 (x5 : Int) (c11 : List Int) (c72 : List (List Int)) : St := stL 79 [(4, .app 11 0), (5, .data (.int .i64) x5), (6, .app 72 0)] [(11, .buf (.int .u8) c11 0 true), (72, .buf (.sl (.int .u8)) c72 0 true)]
noncomputable def cd0 : Code := cL (cL (cL (cR (cR (cR (cR (cL (cR (cB Try.f51)))))))))
def St2 (x5 : Int) (c72 : List (List Int)) : St := stL 79 [(5, .data (.int .i64) x5), (6, .app 72 0)] [(72, .buf (.sl (.int .u8)) c72 0 true)]
def l0s {α : Type} (Nx : Int → (List Int) → (List (List Int)) → Option α) (Xt0 : Int → (List (List Int)) → Option α) (x5 : Int) (c11 : List Int) (c72 : List (List Int)) : Option α :=
  if (decide ((IntKind.i64.wrap ((c11.length : Int) - x5)) ≥ 3)) = true then
    if 0 ≤ x5 ∧ x5 < (c11.length : Int) then
      if 0 ≤ (IntKind.i64.wrap (x5 + 1)) ∧ (IntKind.i64.wrap (x5 + 1)) < (c11.length : Int) then
        if (decide ((bor .i64 (shlI .i64 (IntKind.i64.wrap (List.getD c11 (Int.toNat x5) 0)) 8) (IntKind.i64.wrap (List.getD c11 (Int.toNat (IntKind.i64.wrap (x5 + 1))) 0))) > 200)) = true then
          if (decide ((bor .i64 (shlI .i64 (IntKind.i64.wrap (List.getD c11 (Int.toNat x5) 0)) 8) (IntKind.i64.wrap (List.getD c11 (Int.toNat (IntKind.i64.wrap (x5 + 1))) 0))) > 200)) = true then
            Xt0 x5 c72
          else
            if 0 ≤ (IntKind.i64.wrap (x5 + 2)) ∧ (IntKind.i64.wrap (x5 + 2)) ≤ (IntKind.i64.wrap ((IntKind.i64.wrap (x5 + 2)) + (bor .i64 (shlI .i64 (IntKind.i64.wrap (List.getD c11 (Int.toNat x5) 0)) 8) (IntKind.i64.wrap (List.getD c11 (Int.toNat (IntKind.i64.wrap (x5 + 1))) 0))))) ∧ (IntKind.i64.wrap ((IntKind.i64.wrap (x5 + 2)) + (bor .i64 (shlI .i64 (IntKind.i64.wrap (List.getD c11 (Int.toNat x5) 0)) 8) (IntKind.i64.wrap (List.getD c11 (Int.toNat (IntKind.i64.wrap (x5 + 1))) 0))))) ≤ (c11.length : Int) then
              if fitB (0 + (cutL c11 (IntKind.i64.wrap (x5 + 2)) (IntKind.i64.wrap ((IntKind.i64.wrap (x5 + 2)) + (bor .i64 (shlI .i64 (IntKind.i64.wrap (List.getD c11 (Int.toNat x5) 0)) 8) (IntKind.i64.wrap (List.getD c11 (Int.toNat (IntKind.i64.wrap (x5 + 1))) 0)))))).length) 1 = true then
                if fitB (c72.length + 1) 24 = true then
                  Nx (IntKind.i64.wrap (x5 + (IntKind.i64.wrap ((bor .i64 (shlI .i64 (IntKind.i64.wrap (List.getD c11 (Int.toNat x5) 0)) 8) (IntKind.i64.wrap (List.getD c11 (Int.toNat (IntKind.i64.wrap (x5 + 1))) 0))) + 3)))) c11 (c72 ++ [(cutL c11 (IntKind.i64.wrap (x5 + 2)) (IntKind.i64.wrap ((IntKind.i64.wrap (x5 + 2)) + (bor .i64 (shlI .i64 (IntKind.i64.wrap (List.getD c11 (Int.toNat x5) 0)) 8) (IntKind.i64.wrap (List.getD c11 (Int.toNat (IntKind.i64.wrap (x5 + 1))) 0))))))])
                else none
              else none
            else none
        else
          if (decide ((IntKind.i64.wrap ((c11.length : Int) - x5)) < (IntKind.i64.wrap ((bor .i64 (shlI .i64 (IntKind.i64.wrap (List.getD c11 (Int.toNat x5) 0)) 8) (IntKind.i64.wrap (List.getD c11 (Int.toNat (IntKind.i64.wrap (x5 + 1))) 0))) + 3)))) = true then
            if (decide ((IntKind.i64.wrap ((c11.length : Int) - x5)) < (IntKind.i64.wrap ((bor .i64 (shlI .i64 (IntKind.i64.wrap (List.getD c11 (Int.toNat x5) 0)) 8) (IntKind.i64.wrap (List.getD c11 (Int.toNat (IntKind.i64.wrap (x5 + 1))) 0))) + 3)))) = true then
              Xt0 x5 c72
            else
              if 0 ≤ (IntKind.i64.wrap (x5 + 2)) ∧ (IntKind.i64.wrap (x5 + 2)) ≤ (IntKind.i64.wrap ((IntKind.i64.wrap (x5 + 2)) + (bor .i64 (shlI .i64 (IntKind.i64.wrap (List.getD c11 (Int.toNat x5) 0)) 8) (IntKind.i64.wrap (List.getD c11 (Int.toNat (IntKind.i64.wrap (x5 + 1))) 0))))) ∧ (IntKind.i64.wrap ((IntKind.i64.wrap (x5 + 2)) + (bor .i64 (shlI .i64 (IntKind.i64.wrap (List.getD c11 (Int.toNat x5) 0)) 8) (IntKind.i64.wrap (List.getD c11 (Int.toNat (IntKind.i64.wrap (x5 + 1))) 0))))) ≤ (c11.length : Int) then
                if fitB (0 + (cutL c11 (IntKind.i64.wrap (x5 + 2)) (IntKind.i64.wrap ((IntKind.i64.wrap (x5 + 2)) + (bor .i64 (shlI .i64 (IntKind.i64.wrap (List.getD c11 (Int.toNat x5) 0)) 8) (IntKind.i64.wrap (List.getD c11 (Int.toNat (IntKind.i64.wrap (x5 + 1))) 0)))))).length) 1 = true then
                  if fitB (c72.length + 1) 24 = true then
                    Nx (IntKind.i64.wrap (x5 + (IntKind.i64.wrap ((bor .i64 (shlI .i64 (IntKind.i64.wrap (List.getD c11 (Int.toNat x5) 0)) 8) (IntKind.i64.wrap (List.getD c11 (Int.toNat (IntKind.i64.wrap (x5 + 1))) 0))) + 3)))) c11 (c72 ++ [(cutL c11 (IntKind.i64.wrap (x5 + 2)) (IntKind.i64.wrap ((IntKind.i64.wrap (x5 + 2)) + (bor .i64 (shlI .i64 (IntKind.i64.wrap (List.getD c11 (Int.toNat x5) 0)) 8) (IntKind.i64.wrap (List.getD c11 (Int.toNat (IntKind.i64.wrap (x5 + 1))) 0))))))])
                  else none
                else none
              else none
          else
            if 0 ≤ (IntKind.i64.wrap (x5 + 2)) ∧ (IntKind.i64.wrap (x5 + 2)) ≤ (IntKind.i64.wrap ((IntKind.i64.wrap (x5 + 2)) + (bor .i64 (shlI .i64 (IntKind.i64.wrap (List.getD c11 (Int.toNat x5) 0)) 8) (IntKind.i64.wrap (List.getD c11 (Int.toNat (IntKind.i64.wrap (x5 + 1))) 0))))) ∧ (IntKind.i64.wrap ((IntKind.i64.wrap (x5 + 2)) + (bor .i64 (shlI .i64 (IntKind.i64.wrap (List.getD c11 (Int.toNat x5) 0)) 8) (IntKind.i64.wrap (List.getD c11 (Int.toNat (IntKind.i64.wrap (x5 + 1))) 0))))) ≤ (c11.length : Int) then
              (Go.Bx.log_tail.run (cutL c11 (IntKind.i64.wrap (x5 + 2)) (IntKind.i64.wrap ((IntKind.i64.wrap (x5 + 2)) + (bor .i64 (shlI .i64 (IntKind.i64.wrap (List.getD c11 (Int.toNat x5) 0)) 8) (IntKind.i64.wrap (List.getD c11 (Int.toNat (IntKind.i64.wrap (x5 + 1))) 0))))))).bind fun y1 =>
              if 0 ≤ (IntKind.i64.wrap ((IntKind.i64.wrap (x5 + 2)) + (bor .i64 (shlI .i64 (IntKind.i64.wrap (List.getD c11 (Int.toNat x5) 0)) 8) (IntKind.i64.wrap (List.getD c11 (Int.toNat (IntKind.i64.wrap (x5 + 1))) 0))))) ∧ (IntKind.i64.wrap ((IntKind.i64.wrap (x5 + 2)) + (bor .i64 (shlI .i64 (IntKind.i64.wrap (List.getD c11 (Int.toNat x5) 0)) 8) (IntKind.i64.wrap (List.getD c11 (Int.toNat (IntKind.i64.wrap (x5 + 1))) 0))))) < (c11.length : Int) then
                if (y1 != (List.getD c11 (Int.toNat (IntKind.i64.wrap ((IntKind.i64.wrap (x5 + 2)) + (bor .i64 (shlI .i64 (IntKind.i64.wrap (List.getD c11 (Int.toNat x5) 0)) 8) (IntKind.i64.wrap (List.getD c11 (Int.toNat (IntKind.i64.wrap (x5 + 1))) 0)))))) 0)) = true then
                  Xt0 x5 c72
                else
                  if 0 ≤ (IntKind.i64.wrap (x5 + 2)) ∧ (IntKind.i64.wrap (x5 + 2)) ≤ (IntKind.i64.wrap ((IntKind.i64.wrap (x5 + 2)) + (bor .i64 (shlI .i64 (IntKind.i64.wrap (List.getD c11 (Int.toNat x5) 0)) 8) (IntKind.i64.wrap (List.getD c11 (Int.toNat (IntKind.i64.wrap (x5 + 1))) 0))))) ∧ (IntKind.i64.wrap ((IntKind.i64.wrap (x5 + 2)) + (bor .i64 (shlI .i64 (IntKind.i64.wrap (List.getD c11 (Int.toNat x5) 0)) 8) (IntKind.i64.wrap (List.getD c11 (Int.toNat (IntKind.i64.wrap (x5 + 1))) 0))))) ≤ (c11.length : Int) then
                    if fitB (0 + (cutL c11 (IntKind.i64.wrap (x5 + 2)) (IntKind.i64.wrap ((IntKind.i64.wrap (x5 + 2)) + (bor .i64 (shlI .i64 (IntKind.i64.wrap (List.getD c11 (Int.toNat x5) 0)) 8) (IntKind.i64.wrap (List.getD c11 (Int.toNat (IntKind.i64.wrap (x5 + 1))) 0)))))).length) 1 = true then
                      if fitB (c72.length + 1) 24 = true then
                        Nx (IntKind.i64.wrap (x5 + (IntKind.i64.wrap ((bor .i64 (shlI .i64 (IntKind.i64.wrap (List.getD c11 (Int.toNat x5) 0)) 8) (IntKind.i64.wrap (List.getD c11 (Int.toNat (IntKind.i64.wrap (x5 + 1))) 0))) + 3)))) c11 (c72 ++ [(cutL c11 (IntKind.i64.wrap (x5 + 2)) (IntKind.i64.wrap ((IntKind.i64.wrap (x5 + 2)) + (bor .i64 (shlI .i64 (IntKind.i64.wrap (List.getD c11 (Int.toNat x5) 0)) 8) (IntKind.i64.wrap (List.getD c11 (Int.toNat (IntKind.i64.wrap (x5 + 1))) 0))))))])
                      else none
                    else none
                  else none
              else none
            else none
      else none
    else none
  else
    Xt0 x5 c72
theorem l0s_eq {α : Type} (k : Nat) (next : St → Option α) (Q : Ex → St → Option α) (x5 : Int) (c11 : List Int) (c72 : List (List Int)) :
    rnd C k cd0 12 Q next (St1 x5 c11 c72) = l0s (fun (x5 : Int) (c11 : List Int) (c72 : List (List Int)) => next (St1 x5 c11 c72)) (fun (x5 : Int) (c72 : List (List Int)) => Q (.exit 0) (St2 x5 c72)) x5 c11 c72 := by
  have h : ∀ (D L : DT α), denJ D L Js C cd0 (lq C 12 next Q) (St1 x5 c11 c72) =
        if (decide ((IntKind.i64.wrap ((c11.length : Int) - x5)) ≥ 3)) = true then
          if 0 ≤ x5 ∧ x5 < (c11.length : Int) then
            if 0 ≤ (IntKind.i64.wrap (x5 + 1)) ∧ (IntKind.i64.wrap (x5 + 1)) < (c11.length : Int) then
              if (decide ((bor .i64 (shlI .i64 (IntKind.i64.wrap (List.getD c11 (Int.toNat x5) 0)) 8) (IntKind.i64.wrap (List.getD c11 (Int.toNat (IntKind.i64.wrap (x5 + 1))) 0))) > 200)) = true then
                if (decide ((bor .i64 (shlI .i64 (IntKind.i64.wrap (List.getD c11 (Int.toNat x5) 0)) 8) (IntKind.i64.wrap (List.getD c11 (Int.toNat (IntKind.i64.wrap (x5 + 1))) 0))) > 200)) = true then
                  Q (.exit 0) (St2 x5 c72)
                else
                  if 0 ≤ (IntKind.i64.wrap (x5 + 2)) ∧ (IntKind.i64.wrap (x5 + 2)) ≤ (IntKind.i64.wrap ((IntKind.i64.wrap (x5 + 2)) + (bor .i64 (shlI .i64 (IntKind.i64.wrap (List.getD c11 (Int.toNat x5) 0)) 8) (IntKind.i64.wrap (List.getD c11 (Int.toNat (IntKind.i64.wrap (x5 + 1))) 0))))) ∧ (IntKind.i64.wrap ((IntKind.i64.wrap (x5 + 2)) + (bor .i64 (shlI .i64 (IntKind.i64.wrap (List.getD c11 (Int.toNat x5) 0)) 8) (IntKind.i64.wrap (List.getD c11 (Int.toNat (IntKind.i64.wrap (x5 + 1))) 0))))) ≤ (c11.length : Int) then
                    if fitB (0 + (cutL c11 (IntKind.i64.wrap (x5 + 2)) (IntKind.i64.wrap ((IntKind.i64.wrap (x5 + 2)) + (bor .i64 (shlI .i64 (IntKind.i64.wrap (List.getD c11 (Int.toNat x5) 0)) 8) (IntKind.i64.wrap (List.getD c11 (Int.toNat (IntKind.i64.wrap (x5 + 1))) 0)))))).length) 1 = true then
                      if fitB (c72.length + 1) 24 = true then
                        next (St1 (IntKind.i64.wrap (x5 + (IntKind.i64.wrap ((bor .i64 (shlI .i64 (IntKind.i64.wrap (List.getD c11 (Int.toNat x5) 0)) 8) (IntKind.i64.wrap (List.getD c11 (Int.toNat (IntKind.i64.wrap (x5 + 1))) 0))) + 3)))) c11 (c72 ++ [(cutL c11 (IntKind.i64.wrap (x5 + 2)) (IntKind.i64.wrap ((IntKind.i64.wrap (x5 + 2)) + (bor .i64 (shlI .i64 (IntKind.i64.wrap (List.getD c11 (Int.toNat x5) 0)) 8) (IntKind.i64.wrap (List.getD c11 (Int.toNat (IntKind.i64.wrap (x5 + 1))) 0))))))]))
                      else none
                    else none
                  else none
              else
                if (decide ((IntKind.i64.wrap ((c11.length : Int) - x5)) < (IntKind.i64.wrap ((bor .i64 (shlI .i64 (IntKind.i64.wrap (List.getD c11 (Int.toNat x5) 0)) 8) (IntKind.i64.wrap (List.getD c11 (Int.toNat (IntKind.i64.wrap (x5 + 1))) 0))) + 3)))) = true then
                  if (decide ((IntKind.i64.wrap ((c11.length : Int) - x5)) < (IntKind.i64.wrap ((bor .i64 (shlI .i64 (IntKind.i64.wrap (List.getD c11 (Int.toNat x5) 0)) 8) (IntKind.i64.wrap (List.getD c11 (Int.toNat (IntKind.i64.wrap (x5 + 1))) 0))) + 3)))) = true then
                    Q (.exit 0) (St2 x5 c72)
                  else
                    if 0 ≤ (IntKind.i64.wrap (x5 + 2)) ∧ (IntKind.i64.wrap (x5 + 2)) ≤ (IntKind.i64.wrap ((IntKind.i64.wrap (x5 + 2)) + (bor .i64 (shlI .i64 (IntKind.i64.wrap (List.getD c11 (Int.toNat x5) 0)) 8) (IntKind.i64.wrap (List.getD c11 (Int.toNat (IntKind.i64.wrap (x5 + 1))) 0))))) ∧ (IntKind.i64.wrap ((IntKind.i64.wrap (x5 + 2)) + (bor .i64 (shlI .i64 (IntKind.i64.wrap (List.getD c11 (Int.toNat x5) 0)) 8) (IntKind.i64.wrap (List.getD c11 (Int.toNat (IntKind.i64.wrap (x5 + 1))) 0))))) ≤ (c11.length : Int) then
                      if fitB (0 + (cutL c11 (IntKind.i64.wrap (x5 + 2)) (IntKind.i64.wrap ((IntKind.i64.wrap (x5 + 2)) + (bor .i64 (shlI .i64 (IntKind.i64.wrap (List.getD c11 (Int.toNat x5) 0)) 8) (IntKind.i64.wrap (List.getD c11 (Int.toNat (IntKind.i64.wrap (x5 + 1))) 0)))))).length) 1 = true then
                        if fitB (c72.length + 1) 24 = true then
                          next (St1 (IntKind.i64.wrap (x5 + (IntKind.i64.wrap ((bor .i64 (shlI .i64 (IntKind.i64.wrap (List.getD c11 (Int.toNat x5) 0)) 8) (IntKind.i64.wrap (List.getD c11 (Int.toNat (IntKind.i64.wrap (x5 + 1))) 0))) + 3)))) c11 (c72 ++ [(cutL c11 (IntKind.i64.wrap (x5 + 2)) (IntKind.i64.wrap ((IntKind.i64.wrap (x5 + 2)) + (bor .i64 (shlI .i64 (IntKind.i64.wrap (List.getD c11 (Int.toNat x5) 0)) 8) (IntKind.i64.wrap (List.getD c11 (Int.toNat (IntKind.i64.wrap (x5 + 1))) 0))))))]))
                        else none
                      else none
                    else none
                else
                  if 0 ≤ (IntKind.i64.wrap (x5 + 2)) ∧ (IntKind.i64.wrap (x5 + 2)) ≤ (IntKind.i64.wrap ((IntKind.i64.wrap (x5 + 2)) + (bor .i64 (shlI .i64 (IntKind.i64.wrap (List.getD c11 (Int.toNat x5) 0)) 8) (IntKind.i64.wrap (List.getD c11 (Int.toNat (IntKind.i64.wrap (x5 + 1))) 0))))) ∧ (IntKind.i64.wrap ((IntKind.i64.wrap (x5 + 2)) + (bor .i64 (shlI .i64 (IntKind.i64.wrap (List.getD c11 (Int.toNat x5) 0)) 8) (IntKind.i64.wrap (List.getD c11 (Int.toNat (IntKind.i64.wrap (x5 + 1))) 0))))) ≤ (c11.length : Int) then
                    (Go.Bx.log_tail.run (cutL c11 (IntKind.i64.wrap (x5 + 2)) (IntKind.i64.wrap ((IntKind.i64.wrap (x5 + 2)) + (bor .i64 (shlI .i64 (IntKind.i64.wrap (List.getD c11 (Int.toNat x5) 0)) 8) (IntKind.i64.wrap (List.getD c11 (Int.toNat (IntKind.i64.wrap (x5 + 1))) 0))))))).bind fun y1 =>
                    if 0 ≤ (IntKind.i64.wrap ((IntKind.i64.wrap (x5 + 2)) + (bor .i64 (shlI .i64 (IntKind.i64.wrap (List.getD c11 (Int.toNat x5) 0)) 8) (IntKind.i64.wrap (List.getD c11 (Int.toNat (IntKind.i64.wrap (x5 + 1))) 0))))) ∧ (IntKind.i64.wrap ((IntKind.i64.wrap (x5 + 2)) + (bor .i64 (shlI .i64 (IntKind.i64.wrap (List.getD c11 (Int.toNat x5) 0)) 8) (IntKind.i64.wrap (List.getD c11 (Int.toNat (IntKind.i64.wrap (x5 + 1))) 0))))) < (c11.length : Int) then
                      if (y1 != (List.getD c11 (Int.toNat (IntKind.i64.wrap ((IntKind.i64.wrap (x5 + 2)) + (bor .i64 (shlI .i64 (IntKind.i64.wrap (List.getD c11 (Int.toNat x5) 0)) 8) (IntKind.i64.wrap (List.getD c11 (Int.toNat (IntKind.i64.wrap (x5 + 1))) 0)))))) 0)) = true then
                        Q (.exit 0) (St2 x5 c72)
                      else
                        if 0 ≤ (IntKind.i64.wrap (x5 + 2)) ∧ (IntKind.i64.wrap (x5 + 2)) ≤ (IntKind.i64.wrap ((IntKind.i64.wrap (x5 + 2)) + (bor .i64 (shlI .i64 (IntKind.i64.wrap (List.getD c11 (Int.toNat x5) 0)) 8) (IntKind.i64.wrap (List.getD c11 (Int.toNat (IntKind.i64.wrap (x5 + 1))) 0))))) ∧ (IntKind.i64.wrap ((IntKind.i64.wrap (x5 + 2)) + (bor .i64 (shlI .i64 (IntKind.i64.wrap (List.getD c11 (Int.toNat x5) 0)) 8) (IntKind.i64.wrap (List.getD c11 (Int.toNat (IntKind.i64.wrap (x5 + 1))) 0))))) ≤ (c11.length : Int) then
                          if fitB (0 + (cutL c11 (IntKind.i64.wrap (x5 + 2)) (IntKind.i64.wrap ((IntKind.i64.wrap (x5 + 2)) + (bor .i64 (shlI .i64 (IntKind.i64.wrap (List.getD c11 (Int.toNat x5) 0)) 8) (IntKind.i64.wrap (List.getD c11 (Int.toNat (IntKind.i64.wrap (x5 + 1))) 0)))))).length) 1 = true then
                            if fitB (c72.length + 1) 24 = true then
                              next (St1 (IntKind.i64.wrap (x5 + (IntKind.i64.wrap ((bor .i64 (shlI .i64 (IntKind.i64.wrap (List.getD c11 (Int.toNat x5) 0)) 8) (IntKind.i64.wrap (List.getD c11 (Int.toNat (IntKind.i64.wrap (x5 + 1))) 0))) + 3)))) c11 (c72 ++ [(cutL c11 (IntKind.i64.wrap (x5 + 2)) (IntKind.i64.wrap ((IntKind.i64.wrap (x5 + 2)) + (bor .i64 (shlI .i64 (IntKind.i64.wrap (List.getD c11 (Int.toNat x5) 0)) 8) (IntKind.i64.wrap (List.getD c11 (Int.toNat (IntKind.i64.wrap (x5 + 1))) 0))))))]))
                            else none
                          else none
                        else none
                    else none
                  else none
            else none
          else none
        else
          Q (.exit 0) (St2 x5 c72) := by
    intro D L; kernel_rfl
  refine (show rnd C k cd0 12 Q next (St1 x5 c11 c72) = denJ (den C k) (lp C k) Js C cd0 (lq C 12 next Q) (St1 x5 c11 c72) from (denJ_den _ _ _ _ _ _).symm).trans ((h (den C k) (lp C k)).trans ?_)
  first | rfl | kernel_rfl
def l0 {α : Type} (k : Nat) (Xt0 : Int → (List (List Int)) → Option α) : Nat → Int → (List Int) → (List (List Int)) → Option α
  | 0, _, _, _ => none
  | n + 1, x5, c11, c72 => l0s (l0 k Xt0 n) Xt0 x5 c11 c72
theorem l0_eq {α : Type} (k : Nat) (Q : Ex → St → Option α) : ∀ (n : Nat) (x5 : Int) (c11 : List Int) (c72 : List (List Int)), iter (rnd C k cd0 12 Q) n (St1 x5 c11 c72) = l0 k (fun (x5 : Int) (c72 : List (List Int)) => Q (.exit 0) (St2 x5 c72)) n x5 c11 c72
  | 0, _, _, _ => rfl
  | n + 1, x5, c11, c72 => (iter_succ _ _ _).trans ((l0s_eq k (iter (rnd C k cd0 12 Q) n) Q x5 c11 c72).trans (congrArg (fun N => l0s N (fun (x5 : Int) (c72 : List (List Int)) => Q (.exit 0) (St2 x5 c72)) x5 c11 c72) (funext fun x5 => funext fun c11 => funext fun c72 => l0_eq k Q n x5 c11 c72)))
theorem l0_congr {α : Type} (k : Nat) (Xt0 : Int → (List (List Int)) → Option α) (Xt0q : Int → (List (List Int)) → Option α) (hXt0 : ∀ (x5 : Int) (c72 : List (List Int)), Xt0 x5 c72 = Xt0q x5 c72) (n : Nat) (x5 : Int) (c11 : List Int) (c72 : List (List Int)) : l0 k Xt0 n x5 c11 c72 = l0 k Xt0q n x5 c11 c72 := by
  obtain rfl : Xt0 = Xt0q := by funext x5; funext c72; exact hXt0 x5 c72
  rfl
noncomputable def cd1 : Code := cR (cR (cR (cR (cR (cL (cR (cB Try.f51)))))))
def St3 (x5 : Int) (c72 : List (List Int)) : St := stL 79 [(5, .data (.int .i64) x5), (6, .app 72 0)] [(72, .buf (.sl (.int .u8)) c72 0 true)]
def St4 (x3 : Int) (c72 : List (List Int)) : St := stL 79 [(2, .app 72 0), (3, .data (.int .i64) x3)] [(72, .buf (.sl (.int .u8)) c72 0 true)]
def j0 {α : Type} (Rt : Int → (List (List Int)) → Option α) (x5 : Int) (c72 : List (List Int)) : Option α :=
  Rt x5 c72
theorem j0_eq {α : Type} (k : Nat) (Q : Ex → St → Option α) (x5 : Int) (c72 : List (List Int)) :
    (den C k) cd1 Q (St3 x5 c72) = j0 (fun (x3 : Int) (c72 : List (List Int)) => Q .ret (St4 x3 c72)) x5 c72 := by
  have h : ∀ (D L : DT α), denJ D L Js C cd1 Q (St3 x5 c72) =
        Q .ret (St4 x5 c72) := by
    intro D L; kernel_rfl
  refine (show (den C k) cd1 Q (St3 x5 c72) = denJ (den C k) (lp C k) Js C cd1 Q (St3 x5 c72) from (denJ_den _ _ _ _ _ _).symm).trans ((h (den C k) (lp C k)).trans ?_)
  first | rfl | kernel_rfl
theorem a0 {α : Type} (k : Nat) (Q : Ex → St → Option α) (x5 : Int) (c11 : List Int) (c72 : List (List Int)) :
    (lp C k) cd0 (blkQ C 0 (sq (den C k) (lp C k) Js C cd1 Q)) (St1 x5 c11 c72) = l0 k (fun (x5 : Int) (c72 : List (List Int)) => j0 (fun (x3 : Int) (c72 : List (List Int)) => Q .ret (St4 x3 c72)) x5 c72) k x5 c11 c72 :=
  (show (lp C k) cd0 (blkQ C 0 (sq (den C k) (lp C k) Js C cd1 Q)) (St1 x5 c11 c72) = iter (rnd C k cd0 12 (blkQ C 0 (sq (den C k) (lp C k) Js C cd1 Q))) k (St1 x5 c11 c72) by kernel_rfl).trans ((l0_eq k (blkQ C 0 (sq (den C k) (lp C k) Js C cd1 Q)) k x5 c11 c72).trans (l0_congr k _ _ (fun x5 c72 => ((show (blkQ C 0 (sq (den C k) (lp C k) Js C cd1 Q)) (.exit 0) (St2 x5 c72) = (den C k) cd1 Q (St3 x5 c72) by kernel_rfl).trans (by simp only [j0_eq]))) k x5 c11 c72))
def top {α : Type} (k : Nat) (Rt : Int → (List (List Int)) → Option α) (x0 : List Int × List Int × Unit) : Option α :=
  if fitB (0 + x0.1.length) 1 = true then
    if fitB (x0.1.length + x0.2.1.length) 1 = true then
      l0 k (fun (x5 : Int) (c72 : List (List Int)) => j0 Rt x5 c72) k 0 (x0.1 ++ x0.2.1) []
    else none
  else none
theorem top_eq {α : Type} (k : Nat) (Q : Ex → St → Option α) (x0 : List Int × List Int × Unit) :
    (den C k) (cB Try.f51) Q (St0 x0) = top k (fun (x3 : Int) (c72 : List (List Int)) => Q .ret (St4 x3 c72)) x0 := by
  have h : ∀ (D L : DT α), denJ D L Js C (cB Try.f51) Q (St0 x0) =
        if fitB (0 + x0.1.length) 1 = true then
          if fitB (x0.1.length + x0.2.1.length) 1 = true then
            L cd0 (blkQ C 0 (sq D L Js C cd1 Q)) (St1 0 (x0.1 ++ x0.2.1) [])
          else none
        else none := by
    intro D L; kernel_rfl
  refine (show (den C k) (cB Try.f51) Q (St0 x0) = denJ (den C k) (lp C k) Js C (cB Try.f51) Q (St0 x0) from (denJ_den _ _ _ _ _ _).symm).trans ((h (den C k) (lp C k)).trans ?_)
  simp only [a0]
  first | rfl | kernel_rfl
def run (x0 : List Int × List Int × Unit) : Option (List (List Int) × Int × Unit) := top (α := List (List Int) × Int × Unit) fuel (fun (x3 : Int) (c72 : List (List Int)) => some (c72, x3, ())) x0
def F : Fn := ⟨(.pair (.pair (.sl (.int .u8)) (.pair (.sl (.int .u8)) .unit)) .unit), (.pair (.sl (.sl (.int .u8))) (.pair (.int .i64) .unit)), true, fun x => run x.1⟩
set_option maxRecDepth 100000 in
theorem con : Con Try.prog 51 F := by
  refine con_of_den (C := C) (ctx_ok (by kernel_rfl) (by kernel_rfl) ⟨.inl ⟨Go.Bx.log_tail.con, Go.Bx.log_tail.named⟩, trivial⟩) (by kernel_rfl) Try.func51 (c := cB Try.f51) (by kernel_rfl) (by kernel_rfl) F fuel (fun x => by simp [F, spread, Try.ntmps51]) ?_
  intro x r h
  rw [← h]
  have h1 : start F Try.f51.ntmps x = (St0 x.1) := by kernel_rfl
  rw [h1]
  refine (top_eq fuel (fin C Try.f51.results.toList F.rs F.multi) x.1).trans ?_
  kernel_rfl
theorem named : Named Try.prog 51 := named_of Try.func51 (by kernel_rfl) (by kernel_rfl)
end Go.Bx.log_Open
namespace Go.Bx.basculeref_number
open Go Go.Proofs Go.Bx
set_option maxRecDepth 100000
set_option linter.unusedVariables false
def Js : List Nat := [7]
def C : Ctx := ⟨[(3, (.int .i64)), (5, (.int .u8)), (9, .str), (27, (.int .u64))], [], fnL [], noSh, [], noInv, [(2, [2]), (1, [3]), (4, [0, 3, 4]), (9, [0, 3, 4]), (18, [3])], [], [], 0, 0⟩
def St0 (x0 : List Int) : St := stL 20 [(0, .data .str x0)] []
def St1 (x0 : List Int) (x3 : Int) (x4 : Int) : St := stL 20 [(0, .data .str x0), (3, .data (.int .u64) x3), (4, .data (.int .i64) x4)] []
noncomputable def cd0 : Code := cL (cL (cR (cL (cR (cR (cB Try.f83))))))
def St2 (x3 : Int) : St := stL 20 [(3, .data (.int .u64) x3)] []
def l0s {α : Type} (Nx : (List Int) → Int → Int → Option α) (Xt0 : Int → Option α) (x0 : List Int) (x3 : Int) (x4 : Int) : Option α :=
  if (decide (x4 < (x0.length : Int))) = true then
    if 0 ≤ x4 ∧ x4 < (x0.length : Int) then
      Nx x0 (IntKind.u64.wrap ((IntKind.u64.wrap (x3 * 256)) + (IntKind.u64.wrap (List.getD x0 (Int.toNat x4) 0)))) (IntKind.i64.wrap (x4 + 1))
    else none
  else
    Xt0 x3
theorem l0s_eq {α : Type} (k : Nat) (next : St → Option α) (Q : Ex → St → Option α) (x0 : List Int) (x3 : Int) (x4 : Int) :
    rnd C k cd0 9 Q next (St1 x0 x3 x4) = l0s (fun (x0 : List Int) (x3 : Int) (x4 : Int) => next (St1 x0 x3 x4)) (fun (x3 : Int) => Q (.exit 0) (St2 x3)) x0 x3 x4 := by
  have h : ∀ (D L : DT α), denJ D L Js C cd0 (lq C 9 next Q) (St1 x0 x3 x4) =
        if (decide (x4 < (x0.length : Int))) = true then
          if 0 ≤ x4 ∧ x4 < (x0.length : Int) then
            next (St1 x0 (IntKind.u64.wrap ((IntKind.u64.wrap (x3 * 256)) + (IntKind.u64.wrap (List.getD x0 (Int.toNat x4) 0)))) (IntKind.i64.wrap (x4 + 1)))
          else none
        else
          Q (.exit 0) (St2 x3) := by
    intro D L; kernel_rfl
  refine (show rnd C k cd0 9 Q next (St1 x0 x3 x4) = denJ (den C k) (lp C k) Js C cd0 (lq C 9 next Q) (St1 x0 x3 x4) from (denJ_den _ _ _ _ _ _).symm).trans ((h (den C k) (lp C k)).trans ?_)
  first | rfl | kernel_rfl
def l0 {α : Type} (k : Nat) (Xt0 : Int → Option α) : Nat → (List Int) → Int → Int → Option α
  | 0, _, _, _ => none
  | n + 1, x0, x3, x4 => l0s (l0 k Xt0 n) Xt0 x0 x3 x4
theorem l0_eq {α : Type} (k : Nat) (Q : Ex → St → Option α) : ∀ (n : Nat) (x0 : List Int) (x3 : Int) (x4 : Int), iter (rnd C k cd0 9 Q) n (St1 x0 x3 x4) = l0 k (fun (x3 : Int) => Q (.exit 0) (St2 x3)) n x0 x3 x4
  | 0, _, _, _ => rfl
  | n + 1, x0, x3, x4 => (iter_succ _ _ _).trans ((l0s_eq k (iter (rnd C k cd0 9 Q) n) Q x0 x3 x4).trans (congrArg (fun N => l0s N (fun (x3 : Int) => Q (.exit 0) (St2 x3)) x0 x3 x4) (funext fun x0 => funext fun x3 => funext fun x4 => l0_eq k Q n x0 x3 x4)))
theorem l0_congr {α : Type} (k : Nat) (Xt0 : Int → Option α) (Xt0q : Int → Option α) (hXt0 : ∀ (x3 : Int), Xt0 x3 = Xt0q x3) (n : Nat) (x0 : List Int) (x3 : Int) (x4 : Int) : l0 k Xt0 n x0 x3 x4 = l0 k Xt0q n x0 x3 x4 := by
  obtain rfl : Xt0 = Xt0q := by funext x3; exact hXt0 x3
  rfl
noncomputable def cd1 : Code := cR (cR (cR (cB Try.f83)))
def St3 (x3 : Int) : St := stL 20 [(3, .data (.int .u64) x3)] []
def St4 (x2 : Int) : St := stL 20 [(2, .data (.int .i64) x2)] []
def j0 {α : Type} (Rt : Int → Option α) (x3 : Int) : Option α :=
  Rt (IntKind.i64.wrap x3)
theorem j0_eq {α : Type} (k : Nat) (Q : Ex → St → Option α) (x3 : Int) :
    (den C k) cd1 Q (St3 x3) = j0 (fun (x2 : Int) => Q .ret (St4 x2)) x3 := by
  have h : ∀ (D L : DT α), denJ D L Js C cd1 Q (St3 x3) =
        Q .ret (St4 (IntKind.i64.wrap x3)) := by
    intro D L; kernel_rfl
  refine (show (den C k) cd1 Q (St3 x3) = denJ (den C k) (lp C k) Js C cd1 Q (St3 x3) from (denJ_den _ _ _ _ _ _).symm).trans ((h (den C k) (lp C k)).trans ?_)
  first | rfl | kernel_rfl
theorem a0 {α : Type} (k : Nat) (Q : Ex → St → Option α) (x0 : List Int) (x3 : Int) (x4 : Int) :
    (lp C k) cd0 (blkQ C 0 (sq (den C k) (lp C k) Js C cd1 Q)) (St1 x0 x3 x4) = l0 k (fun (x3 : Int) => j0 (fun (x2 : Int) => Q .ret (St4 x2)) x3) k x0 x3 x4 :=
  (show (lp C k) cd0 (blkQ C 0 (sq (den C k) (lp C k) Js C cd1 Q)) (St1 x0 x3 x4) = iter (rnd C k cd0 9 (blkQ C 0 (sq (den C k) (lp C k) Js C cd1 Q))) k (St1 x0 x3 x4) by kernel_rfl).trans ((l0_eq k (blkQ C 0 (sq (den C k) (lp C k) Js C cd1 Q)) k x0 x3 x4).trans (l0_congr k _ _ (fun x3 => ((show (blkQ C 0 (sq (den C k) (lp C k) Js C cd1 Q)) (.exit 0) (St2 x3) = (den C k) cd1 Q (St3 x3) by kernel_rfl).trans (by simp only [j0_eq]))) k x0 x3 x4))
def top {α : Type} (k : Nat) (Rt : Int → Option α) (x0 : List Int) : Option α :=
  l0 k (fun (x3 : Int) => j0 Rt x3) k x0 0 0
theorem top_eq {α : Type} (k : Nat) (Q : Ex → St → Option α) (x0 : List Int) :
    (den C k) (cB Try.f83) Q (St0 x0) = top k (fun (x2 : Int) => Q .ret (St4 x2)) x0 := by
  have h : ∀ (D L : DT α), denJ D L Js C (cB Try.f83) Q (St0 x0) =
        L cd0 (blkQ C 0 (sq D L Js C cd1 Q)) (St1 x0 0 0) := by
    intro D L; kernel_rfl
  refine (show (den C k) (cB Try.f83) Q (St0 x0) = denJ (den C k) (lp C k) Js C (cB Try.f83) Q (St0 x0) from (denJ_den _ _ _ _ _ _).symm).trans ((h (den C k) (lp C k)).trans ?_)
  simp only [a0]
  first | rfl | kernel_rfl
def run (x0 : List Int) : Option (Int) := top (α := Int) fuel (fun (x2 : Int) => some x2) x0
def F : Fn := ⟨(.pair .str .unit), (.int .i64), false, fun x => run x.1⟩
set_option maxRecDepth 100000 in
theorem con : Con Try.prog 83 F := by
  refine con_of_den (C := C) (ctx_ok (by kernel_rfl) (by kernel_rfl) trivial) (by kernel_rfl) Try.func83 (c := cB Try.f83) (by kernel_rfl) (by kernel_rfl) F fuel (fun x => by simp [F, spread, Try.ntmps83]) ?_
  intro x r h
  rw [← h]
  have h1 : start F Try.f83.ntmps x = (St0 x.1) := by kernel_rfl
  rw [h1]
  refine (top_eq fuel (fin C Try.f83.results.toList F.rs F.multi) x.1).trans ?_
  kernel_rfl
theorem named : Named Try.prog 83 := named_of Try.func83 (by kernel_rfl) (by kernel_rfl)
end Go.Bx.basculeref_number
namespace Go.Bx.basculeref_LogRecords
open Go Go.Proofs Go.Bx
set_option maxRecDepth 100000
set_option linter.unusedVariables false
def Js : List Nat := [11]
def C : Ctx := ⟨[(3, (.int .i64)), (9, .str), (33, (.sl (.int .u8))), (35, (.pair (.sl (.int .u8)) (.pair (.sl (.int .u8)) .unit))), (64, (.sl (.sl (.int .u8))))], [], fnL [(81, Go.Bx.basculeref_logText.F), (83, Go.Bx.basculeref_number.F)], noSh, [], noInv, [(2, [2, 3]), (1, [4, 5, 6]), (4, [4, 5, 6]), (12, [4, 5, 6]), (30, [4, 5, 6])], [(12, [.melt true 6 [] 48 true])], [], 0, 0⟩
def St0 (x0 : List Int × List Int × Unit) : St := stL 58 [(0, .data (.pair (.sl (.int .u8)) (.pair (.sl (.int .u8)) .unit)) x0)] []
def St1 (x4 : List Int) (x5 : Int) (c48 : List (List Int)) : St := stL 58 [(4, .data .str x4), (5, .data (.int .i64) x5), (6, .app 48 0)] [(48, .buf (.sl (.int .u8)) c48 0 true)]
noncomputable def cd0 : Code := cL (cL (cL (cR (cR (cR (cR (cB Try.f52)))))))
def St2 (x4 : List Int) (x5 : Int) (c48 : List (List Int)) : St := stL 58 [(4, .data .str x4), (5, .data (.int .i64) x5), (6, .app 48 0)] [(48, .buf (.sl (.int .u8)) c48 0 true)]
def l0s {α : Type} (Nx : (List Int) → Int → (List (List Int)) → Option α) (Xt0 : (List Int) → Int → (List (List Int)) → Option α) (x4 : List Int) (x5 : Int) (c48 : List (List Int)) : Option α :=
  if (decide ((x4.length : Int) ≥ 3)) = true then
    if 0 ≤ (0 : Int) ∧ (0 : Int) ≤ (2 : Int) ∧ (2 : Int) ≤ (x4.length : Int) then
      (Go.Bx.basculeref_number.run (cutL x4 0 2)).bind fun y1 =>
      if (cond (decide (y1 > 200)) true (decide ((IntKind.i64.wrap (y1 + 3)) > (x4.length : Int)))) = true then
        Xt0 x4 x5 c48
      else
        if 0 ≤ (2 : Int) ∧ (2 : Int) ≤ (IntKind.i64.wrap (2 + y1)) ∧ (IntKind.i64.wrap (2 + y1)) ≤ (x4.length : Int) then
          (Go.Bx.basculeref_logText.run (cutL x4 2 (IntKind.i64.wrap (2 + y1)))).bind fun y2 =>
          if 0 ≤ (0 : Int) ∧ (0 : Int) ≤ (IntKind.i64.wrap (y1 + 3)) ∧ (IntKind.i64.wrap (y1 + 3)) ≤ (x4.length : Int) then
            if (not (beqD .str y2 (cutL x4 0 (IntKind.i64.wrap (y1 + 3))))) = true then
              Xt0 x4 x5 c48
            else
              if fitB (c48.length + 1) 24 = true then
                if 0 ≤ (IntKind.i64.wrap (y1 + 3)) ∧ (IntKind.i64.wrap (y1 + 3)) ≤ (x4.length : Int) ∧ (x4.length : Int) ≤ (x4.length : Int) then
                  Nx (cutL x4 (IntKind.i64.wrap (y1 + 3)) (x4.length : Int)) x5 (c48 ++ [(cutL x4 2 (IntKind.i64.wrap (2 + y1)))])
                else none
              else none
          else none
        else none
    else none
  else
    Xt0 x4 x5 c48
theorem l0s_eq {α : Type} (k : Nat) (next : St → Option α) (Q : Ex → St → Option α) (x4 : List Int) (x5 : Int) (c48 : List (List Int)) :
    rnd C k cd0 12 Q next (St1 x4 x5 c48) = l0s (fun (x4 : List Int) (x5 : Int) (c48 : List (List Int)) => next (St1 x4 x5 c48)) (fun (x4 : List Int) (x5 : Int) (c48 : List (List Int)) => Q (.exit 0) (St2 x4 x5 c48)) x4 x5 c48 := by
  have h : ∀ (D L : DT α), denJ D L Js C cd0 (lq C 12 next Q) (St1 x4 x5 c48) =
        if (decide ((x4.length : Int) ≥ 3)) = true then
          if 0 ≤ (0 : Int) ∧ (0 : Int) ≤ (2 : Int) ∧ (2 : Int) ≤ (x4.length : Int) then
            (Go.Bx.basculeref_number.run (cutL x4 0 2)).bind fun y1 =>
            if (cond (decide (y1 > 200)) true (decide ((IntKind.i64.wrap (y1 + 3)) > (x4.length : Int)))) = true then
              Q (.exit 0) (St2 x4 x5 c48)
            else
              if 0 ≤ (2 : Int) ∧ (2 : Int) ≤ (IntKind.i64.wrap (2 + y1)) ∧ (IntKind.i64.wrap (2 + y1)) ≤ (x4.length : Int) then
                (Go.Bx.basculeref_logText.run (cutL x4 2 (IntKind.i64.wrap (2 + y1)))).bind fun y2 =>
                if 0 ≤ (0 : Int) ∧ (0 : Int) ≤ (IntKind.i64.wrap (y1 + 3)) ∧ (IntKind.i64.wrap (y1 + 3)) ≤ (x4.length : Int) then
                  if (not (beqD .str y2 (cutL x4 0 (IntKind.i64.wrap (y1 + 3))))) = true then
                    Q (.exit 0) (St2 x4 x5 c48)
                  else
                    if fitB (c48.length + 1) 24 = true then
                      if 0 ≤ (IntKind.i64.wrap (y1 + 3)) ∧ (IntKind.i64.wrap (y1 + 3)) ≤ (x4.length : Int) ∧ (x4.length : Int) ≤ (x4.length : Int) then
                        next (St1 (cutL x4 (IntKind.i64.wrap (y1 + 3)) (x4.length : Int)) x5 (c48 ++ [(cutL x4 2 (IntKind.i64.wrap (2 + y1)))]))
                      else none
                    else none
                else none
              else none
          else none
        else
          Q (.exit 0) (St2 x4 x5 c48) := by
    intro D L; kernel_rfl
  refine (show rnd C k cd0 12 Q next (St1 x4 x5 c48) = denJ (den C k) (lp C k) Js C cd0 (lq C 12 next Q) (St1 x4 x5 c48) from (denJ_den _ _ _ _ _ _).symm).trans ((h (den C k) (lp C k)).trans ?_)
  first | rfl | kernel_rfl
def l0 {α : Type} (k : Nat) (Xt0 : (List Int) → Int → (List (List Int)) → Option α) : Nat → (List Int) → Int → (List (List Int)) → Option α
  | 0, _, _, _ => none
  | n + 1, x4, x5, c48 => l0s (l0 k Xt0 n) Xt0 x4 x5 c48
theorem l0_eq {α : Type} (k : Nat) (Q : Ex → St → Option α) : ∀ (n : Nat) (x4 : List Int) (x5 : Int) (c48 : List (List Int)), iter (rnd C k cd0 12 Q) n (St1 x4 x5 c48) = l0 k (fun (x4 : List Int) (x5 : Int) (c48 : List (List Int)) => Q (.exit 0) (St2 x4 x5 c48)) n x4 x5 c48
  | 0, _, _, _ => rfl
  | n + 1, x4, x5, c48 => (iter_succ _ _ _).trans ((l0s_eq k (iter (rnd C k cd0 12 Q) n) Q x4 x5 c48).trans (congrArg (fun N => l0s N (fun (x4 : List Int) (x5 : Int) (c48 : List (List Int)) => Q (.exit 0) (St2 x4 x5 c48)) x4 x5 c48) (funext fun x4 => funext fun x5 => funext fun c48 => l0_eq k Q n x4 x5 c48)))
theorem l0_congr {α : Type} (k : Nat) (Xt0 : (List Int) → Int → (List (List Int)) → Option α) (Xt0q : (List Int) → Int → (List (List Int)) → Option α) (hXt0 : ∀ (x4 : List Int) (x5 : Int) (c48 : List (List Int)), Xt0 x4 x5 c48 = Xt0q x4 x5 c48) (n : Nat) (x4 : List Int) (x5 : Int) (c48 : List (List Int)) : l0 k Xt0 n x4 x5 c48 = l0 k Xt0q n x4 x5 c48 := by
  obtain rfl : Xt0 = Xt0q := by funext x4; funext x5; funext c48; exact hXt0 x4 x5 c48
  rfl
noncomputable def cd1 : Code := cR (cR (cR (cR (cR (cB Try.f52)))))
def St3 (x4 : List Int) (x5 : Int) (c48 : List (List Int)) : St := stL 58 [(4, .data .str x4), (5, .data (.int .i64) x5), (6, .app 48 0)] [(48, .buf (.sl (.int .u8)) c48 0 true)]
def St4 (x3 : Int) (c48 : List (List Int)) : St := stL 58 [(2, .app 48 0), (3, .data (.int .i64) x3)] [(48, .buf (.sl (.int .u8)) c48 0 true)]
def j0 {α : Type} (Rt : Int → (List (List Int)) → Option α) (x4 : List Int) (x5 : Int) (c48 : List (List Int)) : Option α :=
  Rt (IntKind.i64.wrap (x5 - (x4.length : Int))) c48
theorem j0_eq {α : Type} (k : Nat) (Q : Ex → St → Option α) (x4 : List Int) (x5 : Int) (c48 : List (List Int)) :
    (den C k) cd1 Q (St3 x4 x5 c48) = j0 (fun (x3 : Int) (c48 : List (List Int)) => Q .ret (St4 x3 c48)) x4 x5 c48 := by
  have h : ∀ (D L : DT α), denJ D L Js C cd1 Q (St3 x4 x5 c48) =
        Q .ret (St4 (IntKind.i64.wrap (x5 - (x4.length : Int))) c48) := by
    intro D L; kernel_rfl
  refine (show (den C k) cd1 Q (St3 x4 x5 c48) = denJ (den C k) (lp C k) Js C cd1 Q (St3 x4 x5 c48) from (denJ_den _ _ _ _ _ _).symm).trans ((h (den C k) (lp C k)).trans ?_)
  first | rfl | kernel_rfl
theorem a0 {α : Type} (k : Nat) (Q : Ex → St → Option α) (x4 : List Int) (x5 : Int) (c48 : List (List Int)) :
    (lp C k) cd0 (blkQ C 0 (sq (den C k) (lp C k) Js C cd1 Q)) (St1 x4 x5 c48) = l0 k (fun (x4 : List Int) (x5 : Int) (c48 : List (List Int)) => j0 (fun (x3 : Int) (c48 : List (List Int)) => Q .ret (St4 x3 c48)) x4 x5 c48) k x4 x5 c48 :=
  (show (lp C k) cd0 (blkQ C 0 (sq (den C k) (lp C k) Js C cd1 Q)) (St1 x4 x5 c48) = iter (rnd C k cd0 12 (blkQ C 0 (sq (den C k) (lp C k) Js C cd1 Q))) k (St1 x4 x5 c48) by kernel_rfl).trans ((l0_eq k (blkQ C 0 (sq (den C k) (lp C k) Js C cd1 Q)) k x4 x5 c48).trans (l0_congr k _ _ (fun x4 x5 c48 => ((show (blkQ C 0 (sq (den C k) (lp C k) Js C cd1 Q)) (.exit 0) (St2 x4 x5 c48) = (den C k) cd1 Q (St3 x4 x5 c48) by kernel_rfl).trans (by simp only [j0_eq]))) k x4 x5 c48))
def top {α : Type} (k : Nat) (Rt : Int → (List (List Int)) → Option α) (x0 : List Int × List Int × Unit) : Option α :=
  if Nat.ble (x0.1.length + x0.2.1.length) 9223372036854775807 = true then
    l0 k (fun (x4 : List Int) (x5 : Int) (c48 : List (List Int)) => j0 Rt x4 x5 c48) k (x0.1 ++ x0.2.1) ((x0.1 ++ x0.2.1).length : Int) []
  else none
theorem top_eq {α : Type} (k : Nat) (Q : Ex → St → Option α) (x0 : List Int × List Int × Unit) :
    (den C k) (cB Try.f52) Q (St0 x0) = top k (fun (x3 : Int) (c48 : List (List Int)) => Q .ret (St4 x3 c48)) x0 := by
  have h : ∀ (D L : DT α), denJ D L Js C (cB Try.f52) Q (St0 x0) =
        if Nat.ble (x0.1.length + x0.2.1.length) 9223372036854775807 = true then
          L cd0 (blkQ C 0 (sq D L Js C cd1 Q)) (St1 (x0.1 ++ x0.2.1) ((x0.1 ++ x0.2.1).length : Int) [])
        else none := by
    intro D L; kernel_rfl
  refine (show (den C k) (cB Try.f52) Q (St0 x0) = denJ (den C k) (lp C k) Js C (cB Try.f52) Q (St0 x0) from (denJ_den _ _ _ _ _ _).symm).trans ((h (den C k) (lp C k)).trans ?_)
  simp only [a0]
  first | rfl | kernel_rfl
def run (x0 : List Int × List Int × Unit) : Option (List (List Int) × Int × Unit) := top (α := List (List Int) × Int × Unit) fuel (fun (x3 : Int) (c48 : List (List Int)) => some (c48, x3, ())) x0
def F : Fn := ⟨(.pair (.pair (.sl (.int .u8)) (.pair (.sl (.int .u8)) .unit)) .unit), (.pair (.sl (.sl (.int .u8))) (.pair (.int .i64) .unit)), true, fun x => run x.1⟩
set_option maxRecDepth 100000 in
theorem con : Con Try.prog 52 F := by
  refine con_of_den (C := C) (ctx_ok (by kernel_rfl) (by kernel_rfl) ⟨.inl ⟨Go.Bx.basculeref_logText.con, Go.Bx.basculeref_logText.named⟩, ⟨.inl ⟨Go.Bx.basculeref_number.con, Go.Bx.basculeref_number.named⟩, trivial⟩⟩) (by kernel_rfl) Try.func52 (c := cB Try.f52) (by kernel_rfl) (by kernel_rfl) F fuel (fun x => by simp [F, spread, Try.ntmps52]) ?_
  intro x r h
  rw [← h]
  have h1 : start F Try.f52.ntmps x = (St0 x.1) := by kernel_rfl
  rw [h1]
  refine (top_eq fuel (fin C Try.f52.results.toList F.rs F.multi) x.1).trans ?_
  kernel_rfl
theorem named : Named Try.prog 52 := named_of Try.func52 (by kernel_rfl) (by kernel_rfl)
end Go.Bx.basculeref_LogRecords
namespace Go.Bx.basculelaw_sameLists
open Go Go.Proofs Go.Bx
set_option maxRecDepth 100000
set_option linter.unusedVariables false
def Js : List Nat := [10]
def C : Ctx := ⟨[(4, .bool), (9, .str), (33, (.sl (.int .u8))), (64, (.sl (.sl (.int .u8))))], [], fnL [], noSh, [], noInv, [(2, [4]), (1, []), (4, [0, 1, 12, 13]), (12, [0, 1, 12, 13]), (27, [])], [], [], 0, 0⟩
def St0 (x0 : List (List Int)) (x1 : List (List Int)) : St := stL 28 [(0, .data (.sl (.sl (.int .u8))) x0), (1, .data (.sl (.sl (.int .u8))) x1)] []
def St1 (x4 : Bool) : St := stL 28 [(4, .data .bool x4)] []
def St2 (x0 : List (List Int)) (x1 : List (List Int)) (x12 : Int) (x13 : Int) : St := stL 28 [(0, .data (.sl (.sl (.int .u8))) x0), (1, .data (.sl (.sl (.int .u8))) x1), (12, .data (.int .i64) x12), (13, .data (.int .i64) x13)] []
noncomputable def cd0 : Code := cL (cL (cR (cL (cR (cR (cB Try.f53))))))
def St3 : St := stL 28 [] []
def l0s {α : Type} (Nx : (List (List Int)) → (List (List Int)) → Int → Int → Option α) (Rt : Bool → Option α) (Xt0 : Option α) (x0 : List (List Int)) (x1 : List (List Int)) (x12 : Int) (x13 : Int) : Option α :=
  if (decide (x13 < x12)) = true then
    if 0 ≤ x13 ∧ x13 < (x0.length : Int) then
      if 0 ≤ x13 ∧ x13 < (x1.length : Int) then
        if (not (beqD .str (List.getD x0 (Int.toNat x13) []) (List.getD x1 (Int.toNat x13) []))) = true then
          Rt false
        else
          Nx x0 x1 x12 (IntKind.i64.wrap (x13 + 1))
      else none
    else none
  else
    Xt0
theorem l0s_eq {α : Type} (k : Nat) (next : St → Option α) (Q : Ex → St → Option α) (x0 : List (List Int)) (x1 : List (List Int)) (x12 : Int) (x13 : Int) :
    rnd C k cd0 12 Q next (St2 x0 x1 x12 x13) = l0s (fun (x0 : List (List Int)) (x1 : List (List Int)) (x12 : Int) (x13 : Int) => next (St2 x0 x1 x12 x13)) (fun (x4 : Bool) => Q .ret (St1 x4)) (Q (.exit 0) St3) x0 x1 x12 x13 := by
  have h : ∀ (D L : DT α), denJ D L Js C cd0 (lq C 12 next Q) (St2 x0 x1 x12 x13) =
        if (decide (x13 < x12)) = true then
          if 0 ≤ x13 ∧ x13 < (x0.length : Int) then
            if 0 ≤ x13 ∧ x13 < (x1.length : Int) then
              if (not (beqD .str (List.getD x0 (Int.toNat x13) []) (List.getD x1 (Int.toNat x13) []))) = true then
                Q .ret (St1 false)
              else
                next (St2 x0 x1 x12 (IntKind.i64.wrap (x13 + 1)))
            else none
          else none
        else
          Q (.exit 0) St3 := by
    intro D L; kernel_rfl
  refine (show rnd C k cd0 12 Q next (St2 x0 x1 x12 x13) = denJ (den C k) (lp C k) Js C cd0 (lq C 12 next Q) (St2 x0 x1 x12 x13) from (denJ_den _ _ _ _ _ _).symm).trans ((h (den C k) (lp C k)).trans ?_)
  first | rfl | kernel_rfl
def l0 {α : Type} (k : Nat) (Rt : Bool → Option α) (Xt0 : Option α) : Nat → (List (List Int)) → (List (List Int)) → Int → Int → Option α
  | 0, _, _, _, _ => none
  | n + 1, x0, x1, x12, x13 => l0s (l0 k Rt Xt0 n) Rt Xt0 x0 x1 x12 x13
theorem l0_eq {α : Type} (k : Nat) (Q : Ex → St → Option α) : ∀ (n : Nat) (x0 : List (List Int)) (x1 : List (List Int)) (x12 : Int) (x13 : Int), iter (rnd C k cd0 12 Q) n (St2 x0 x1 x12 x13) = l0 k (fun (x4 : Bool) => Q .ret (St1 x4)) (Q (.exit 0) St3) n x0 x1 x12 x13
  | 0, _, _, _, _ => rfl
  | n + 1, x0, x1, x12, x13 => (iter_succ _ _ _).trans ((l0s_eq k (iter (rnd C k cd0 12 Q) n) Q x0 x1 x12 x13).trans (congrArg (fun N => l0s N (fun (x4 : Bool) => Q .ret (St1 x4)) (Q (.exit 0) St3) x0 x1 x12 x13) (funext fun x0 => funext fun x1 => funext fun x12 => funext fun x13 => l0_eq k Q n x0 x1 x12 x13)))
theorem l0_congr {α : Type} (k : Nat) (Rt : Bool → Option α) (Xt0 : Option α) (Rtq : Bool → Option α) (Xt0q : Option α) (hRt : ∀ (x4 : Bool), Rt x4 = Rtq x4) (hXt0 : Xt0 = Xt0q) (n : Nat) (x0 : List (List Int)) (x1 : List (List Int)) (x12 : Int) (x13 : Int) : l0 k Rt Xt0 n x0 x1 x12 x13 = l0 k Rtq Xt0q n x0 x1 x12 x13 := by
  obtain rfl : Rt = Rtq := by funext x4; exact hRt x4
  obtain rfl : Xt0 = Xt0q := hXt0
  rfl
noncomputable def cd1 : Code := cR (cR (cR (cB Try.f53)))
def St4 : St := stL 28 [] []
def j0 {α : Type} (Rt : Bool → Option α) : Option α :=
  Rt true
theorem j0_eq {α : Type} (k : Nat) (Q : Ex → St → Option α) :
    (den C k) cd1 Q St4 = j0 (fun (x4 : Bool) => Q .ret (St1 x4)) := by
  have h : ∀ (D L : DT α), denJ D L Js C cd1 Q St4 =
        Q .ret (St1 true) := by
    intro D L; kernel_rfl
  refine (show (den C k) cd1 Q St4 = denJ (den C k) (lp C k) Js C cd1 Q St4 from (denJ_den _ _ _ _ _ _).symm).trans ((h (den C k) (lp C k)).trans ?_)
  first | rfl | kernel_rfl
theorem a0 {α : Type} (k : Nat) (Q : Ex → St → Option α) (x0 : List (List Int)) (x1 : List (List Int)) (x12 : Int) (x13 : Int) :
    (lp C k) cd0 (blkQ C 0 (sq (den C k) (lp C k) Js C cd1 Q)) (St2 x0 x1 x12 x13) = l0 k (fun (x4 : Bool) => (fun (x4 : Bool) => Q .ret (St1 x4)) x4) (j0 (fun (x4 : Bool) => Q .ret (St1 x4))) k x0 x1 x12 x13 :=
  (show (lp C k) cd0 (blkQ C 0 (sq (den C k) (lp C k) Js C cd1 Q)) (St2 x0 x1 x12 x13) = iter (rnd C k cd0 12 (blkQ C 0 (sq (den C k) (lp C k) Js C cd1 Q))) k (St2 x0 x1 x12 x13) by kernel_rfl).trans ((l0_eq k (blkQ C 0 (sq (den C k) (lp C k) Js C cd1 Q)) k x0 x1 x12 x13).trans (l0_congr k _ _ _ _ (fun x4 => (show (blkQ C 0 (sq (den C k) (lp C k) Js C cd1 Q)) .ret (St1 x4) = Q .ret (St1 x4) by kernel_rfl)) ((show (blkQ C 0 (sq (den C k) (lp C k) Js C cd1 Q)) (.exit 0) St3 = (den C k) cd1 Q St4 by kernel_rfl).trans (by simp only [j0_eq])) k x0 x1 x12 x13))
def top {α : Type} (k : Nat) (Rt : Bool → Option α) (x0 : List (List Int)) (x1 : List (List Int)) : Option α :=
  if ((x0.length : Int) != (x1.length : Int)) = true then
    Rt false
  else
    l0 k (fun (x4 : Bool) => Rt x4) (j0 Rt) k x0 x1 (x0.length : Int) 0
theorem top_eq {α : Type} (k : Nat) (Q : Ex → St → Option α) (x0 : List (List Int)) (x1 : List (List Int)) :
    (den C k) (cB Try.f53) Q (St0 x0 x1) = top k (fun (x4 : Bool) => Q .ret (St1 x4)) x0 x1 := by
  have h : ∀ (D L : DT α), denJ D L Js C (cB Try.f53) Q (St0 x0 x1) =
        if ((x0.length : Int) != (x1.length : Int)) = true then
          Q .ret (St1 false)
        else
          L cd0 (blkQ C 0 (sq D L Js C cd1 Q)) (St2 x0 x1 (x0.length : Int) 0) := by
    intro D L; kernel_rfl
  refine (show (den C k) (cB Try.f53) Q (St0 x0 x1) = denJ (den C k) (lp C k) Js C (cB Try.f53) Q (St0 x0 x1) from (denJ_den _ _ _ _ _ _).symm).trans ((h (den C k) (lp C k)).trans ?_)
  simp only [a0]
  first | rfl | kernel_rfl
def run (x0 : List (List Int)) (x1 : List (List Int)) : Option (Bool) := top (α := Bool) fuel (fun (x4 : Bool) => some x4) x0 x1
def F : Fn := ⟨(.pair (.sl (.sl (.int .u8))) (.pair (.sl (.sl (.int .u8))) .unit)), .bool, false, fun x => run x.1 x.2.1⟩
set_option maxRecDepth 100000 in
theorem con : Con Try.prog 53 F := by
  refine con_of_den (C := C) (ctx_ok (by kernel_rfl) (by kernel_rfl) trivial) (by kernel_rfl) Try.func53 (c := cB Try.f53) (by kernel_rfl) (by kernel_rfl) F fuel (fun x => by simp [F, spread, Try.ntmps53]) ?_
  intro x r h
  rw [← h]
  have h1 : start F Try.f53.ntmps x = (St0 x.1 x.2.1) := by kernel_rfl
  rw [h1]
  refine (top_eq fuel (fin C Try.f53.results.toList F.rs F.multi) x.1 x.2.1).trans ?_
  kernel_rfl
theorem named : Named Try.prog 53 := named_of Try.func53 (by kernel_rfl) (by kernel_rfl)
end Go.Bx.basculelaw_sameLists
namespace Go.Bx.basculelaw_LogOpens
open Go Go.Proofs Go.Bx
set_option maxRecDepth 100000
set_option linter.unusedVariables false
def Js : List Nat := []
def C : Ctx := ⟨[(4, .bool), (35, (.pair (.sl (.int .u8)) (.pair (.sl (.int .u8)) .unit)))], [], fnL [(51, Go.Bx.log_Open.F), (52, Go.Bx.basculeref_LogRecords.F), (53, Go.Bx.basculelaw_sameLists.F)], noSh, [], noInv, [(2, [2])], [], [], 0, 0⟩
def St0 (x0 : List Int × List Int × Unit) : St := stL 25 [(0, .data (.pair (.sl (.int .u8)) (.pair (.sl (.int .u8)) .unit)) x0)] []
def St1 (x2 : Bool) : St := stL 25 [(2, .data .bool x2)] []
def top {α : Type} (Rt : Bool → Option α) (x0 : List Int × List Int × Unit) : Option α :=
  (Go.Bx.log_Open.run x0).bind fun y1 =>
  (Go.Bx.basculeref_LogRecords.run x0).bind fun y2 =>
  (Go.Bx.basculelaw_sameLists.run y1.1 y2.1).bind fun y3 =>
  Rt (cond y3 (y1.2.1 == y2.2.1) false)
theorem top_eq {α : Type} (k : Nat) (Q : Ex → St → Option α) (x0 : List Int × List Int × Unit) :
    (den C k) (cB Try.f14) Q (St0 x0) = top (fun (x2 : Bool) => Q .ret (St1 x2)) x0 := by
  have h : ∀ (D L : DT α), denJ D L Js C (cB Try.f14) Q (St0 x0) =
        (Go.Bx.log_Open.run x0).bind fun y1 =>
        (Go.Bx.basculeref_LogRecords.run x0).bind fun y2 =>
        (Go.Bx.basculelaw_sameLists.run y1.1 y2.1).bind fun y3 =>
        Q .ret (St1 (cond y3 (y1.2.1 == y2.2.1) false)) := by
    intro D L; kernel_rfl
  refine (show (den C k) (cB Try.f14) Q (St0 x0) = denJ (den C k) (lp C k) Js C (cB Try.f14) Q (St0 x0) from (denJ_den _ _ _ _ _ _).symm).trans ((h (den C k) (lp C k)).trans ?_)
  first | rfl | kernel_rfl
def run (x0 : List Int × List Int × Unit) : Option (Bool) := top (α := Bool) (fun (x2 : Bool) => some x2) x0
def F : Fn := ⟨(.pair (.pair (.sl (.int .u8)) (.pair (.sl (.int .u8)) .unit)) .unit), .bool, false, fun x => run x.1⟩
set_option maxRecDepth 100000 in
theorem con : Con Try.prog 14 F := by
  refine con_of_den (C := C) (ctx_ok (by kernel_rfl) (by kernel_rfl) ⟨.inl ⟨Go.Bx.log_Open.con, Go.Bx.log_Open.named⟩, ⟨.inl ⟨Go.Bx.basculeref_LogRecords.con, Go.Bx.basculeref_LogRecords.named⟩, ⟨.inl ⟨Go.Bx.basculelaw_sameLists.con, Go.Bx.basculelaw_sameLists.named⟩, trivial⟩⟩⟩) (by kernel_rfl) Try.func14 (c := cB Try.f14) (by kernel_rfl) (by kernel_rfl) F fuel (fun x => by simp [F, spread, Try.ntmps14]) ?_
  intro x r h
  rw [← h]
  have h1 : start F Try.f14.ntmps x = (St0 x.1) := by kernel_rfl
  rw [h1]
  refine (top_eq fuel (fin C Try.f14.results.toList F.rs F.multi) x.1).trans ?_
  kernel_rfl
theorem named : Named Try.prog 14 := named_of Try.func14 (by kernel_rfl) (by kernel_rfl)
end Go.Bx.basculelaw_LogOpens
namespace Go.Bx.log_Mend
open Go Go.Proofs Go.Bx
set_option maxRecDepth 100000
set_option linter.unusedVariables false
def Js : List Nat := []
def C : Ctx := ⟨[(23, (.int .i64)), (33, (.sl (.int .u8))), (35, (.pair (.sl (.int .u8)) (.pair (.sl (.int .u8)) .unit)))], [], fnL [(51, Go.Bx.log_Open.F)], noSh, [], noInv, [(2, [2, 3])], [(2, [.dat false 2 [0]])], [21], 0, 0⟩
def St0 (x0 : List Int × List Int × Unit) : St := stL 23 [(0, .data (.pair (.sl (.int .u8)) (.pair (.sl (.int .u8)) .unit)) x0)] []
def St1 (x3 : Int) (c2p0 : List Int) : St := stL 23 [(2, .ref 2 0 []), (3, .data (.int .i64) x3)] [(2, .cell (.pair (.sl (.int .u8)) (.pair (.sl (.int .u8)) .unit)) (.agg (.pair (.sl (.int .u8)) (.pair (.sl (.int .u8)) .unit)) [.data (.sl (.int .u8)) c2p0, .full (.int .u8) []]) false)]
def top {α : Type} (Rt : Int → (List Int) → Option α) (x0 : List Int × List Int × Unit) : Option α :=
  if (decide ((x0.2.1.length : Int) > 0)) = true then
    Rt 12 []
  else
    (Go.Bx.log_Open.run x0).bind fun y1 =>
    if 0 ≤ (0 : Int) ∧ (0 : Int) ≤ y1.2.1 ∧ y1.2.1 ≤ (x0.1.length : Int) then
      if fitB (0 + (cutL x0.1 0 y1.2.1).length) 1 = true then
        Rt 0 (cutL x0.1 0 y1.2.1)
      else none
    else none
theorem top_eq {α : Type} (k : Nat) (Q : Ex → St → Option α) (x0 : List Int × List Int × Unit) :
    (den C k) (cB Try.f63) Q (St0 x0) = top (fun (x3 : Int) (c2p0 : List Int) => Q .ret (St1 x3 c2p0)) x0 := by
  have h : ∀ (D L : DT α), denJ D L Js C (cB Try.f63) Q (St0 x0) =
        if (decide ((x0.2.1.length : Int) > 0)) = true then
          Q .ret (St1 12 [])
        else
          (Go.Bx.log_Open.run x0).bind fun y1 =>
          if 0 ≤ (0 : Int) ∧ (0 : Int) ≤ y1.2.1 ∧ y1.2.1 ≤ (x0.1.length : Int) then
            if fitB (0 + (cutL x0.1 0 y1.2.1).length) 1 = true then
              Q .ret (St1 0 (cutL x0.1 0 y1.2.1))
            else none
          else none := by
    intro D L; kernel_rfl
  refine (show (den C k) (cB Try.f63) Q (St0 x0) = denJ (den C k) (lp C k) Js C (cB Try.f63) Q (St0 x0) from (denJ_den _ _ _ _ _ _).symm).trans ((h (den C k) (lp C k)).trans ?_)
  first | rfl | kernel_rfl
def run (x0 : List Int × List Int × Unit) : Option ((List Int × List Int × Unit) × Int × Unit) := top (α := (List Int × List Int × Unit) × Int × Unit) (fun (x3 : Int) (c2p0 : List Int) => some ((c2p0, [], ()), x3, ())) x0
def F : Fn := ⟨(.pair (.pair (.sl (.int .u8)) (.pair (.sl (.int .u8)) .unit)) .unit), (.pair (.pair (.sl (.int .u8)) (.pair (.sl (.int .u8)) .unit)) (.pair (.int .i64) .unit)), true, fun x => run x.1⟩
set_option maxRecDepth 100000 in
theorem con : Con Try.prog 63 F := by
  refine con_of_den (C := C) (ctx_ok (by kernel_rfl) (by kernel_rfl) ⟨.inl ⟨Go.Bx.log_Open.con, Go.Bx.log_Open.named⟩, trivial⟩) (by kernel_rfl) Try.func63 (c := cB Try.f63) (by kernel_rfl) (by kernel_rfl) F fuel (fun x => by simp [F, spread, Try.ntmps63]) ?_
  intro x r h
  rw [← h]
  have h1 : start F Try.f63.ntmps x = (St0 x.1) := by kernel_rfl
  rw [h1]
  refine (top_eq fuel (fin C Try.f63.results.toList F.rs F.multi) x.1).trans ?_
  kernel_rfl
theorem named : Named Try.prog 63 := named_of Try.func63 (by kernel_rfl) (by kernel_rfl)
end Go.Bx.log_Mend
namespace Go.Bx.basculeref_LogMended
open Go Go.Proofs Go.Bx
set_option maxRecDepth 100000
set_option linter.unusedVariables false
def Js : List Nat := []
def C : Ctx := ⟨[(9, .str), (23, (.int .i64)), (33, (.sl (.int .u8))), (35, (.pair (.sl (.int .u8)) (.pair (.sl (.int .u8)) .unit)))], [], fnL [(52, Go.Bx.basculeref_LogRecords.F)], noSh, [], noInv, [(2, [2, 3])], [(2, [.dat false 2 [0]])], [], 0, 0⟩
def St0 (x0 : List Int × List Int × Unit) : St := stL 23 [(0, .data (.pair (.sl (.int .u8)) (.pair (.sl (.int .u8)) .unit)) x0)] []
def St1 (x3 : Int) (c2p0 : List Int) : St := stL 23 [(2, .ref 2 0 []), (3, .data (.int .i64) x3)] [(2, .cell (.pair (.sl (.int .u8)) (.pair (.sl (.int .u8)) .unit)) (.agg (.pair (.sl (.int .u8)) (.pair (.sl (.int .u8)) .unit)) [.data (.sl (.int .u8)) c2p0, .full (.int .u8) []]) false)]
def top {α : Type} (Rt : Int → (List Int) → Option α) (x0 : List Int × List Int × Unit) : Option α :=
  if (decide ((x0.2.1.length : Int) > 0)) = true then
    Rt 12 []
  else
    (Go.Bx.basculeref_LogRecords.run x0).bind fun y1 =>
    if 0 ≤ (0 : Int) ∧ (0 : Int) ≤ y1.2.1 ∧ y1.2.1 ≤ (x0.1.length : Int) then
      Rt 0 (cutL x0.1 0 y1.2.1)
    else none
theorem top_eq {α : Type} (k : Nat) (Q : Ex → St → Option α) (x0 : List Int × List Int × Unit) :
    (den C k) (cB Try.f64) Q (St0 x0) = top (fun (x3 : Int) (c2p0 : List Int) => Q .ret (St1 x3 c2p0)) x0 := by
  have h : ∀ (D L : DT α), denJ D L Js C (cB Try.f64) Q (St0 x0) =
        if (decide ((x0.2.1.length : Int) > 0)) = true then
          Q .ret (St1 12 [])
        else
          (Go.Bx.basculeref_LogRecords.run x0).bind fun y1 =>
          if 0 ≤ (0 : Int) ∧ (0 : Int) ≤ y1.2.1 ∧ y1.2.1 ≤ (x0.1.length : Int) then
            Q .ret (St1 0 (cutL x0.1 0 y1.2.1))
          else none := by
    intro D L; kernel_rfl
  refine (show (den C k) (cB Try.f64) Q (St0 x0) = denJ (den C k) (lp C k) Js C (cB Try.f64) Q (St0 x0) from (denJ_den _ _ _ _ _ _).symm).trans ((h (den C k) (lp C k)).trans ?_)
  first | rfl | kernel_rfl
def run (x0 : List Int × List Int × Unit) : Option ((List Int × List Int × Unit) × Int × Unit) := top (α := (List Int × List Int × Unit) × Int × Unit) (fun (x3 : Int) (c2p0 : List Int) => some ((c2p0, [], ()), x3, ())) x0
def F : Fn := ⟨(.pair (.pair (.sl (.int .u8)) (.pair (.sl (.int .u8)) .unit)) .unit), (.pair (.pair (.sl (.int .u8)) (.pair (.sl (.int .u8)) .unit)) (.pair (.int .i64) .unit)), true, fun x => run x.1⟩
set_option maxRecDepth 100000 in
theorem con : Con Try.prog 64 F := by
  refine con_of_den (C := C) (ctx_ok (by kernel_rfl) (by kernel_rfl) ⟨.inl ⟨Go.Bx.basculeref_LogRecords.con, Go.Bx.basculeref_LogRecords.named⟩, trivial⟩) (by kernel_rfl) Try.func64 (c := cB Try.f64) (by kernel_rfl) (by kernel_rfl) F fuel (fun x => by simp [F, spread, Try.ntmps64]) ?_
  intro x r h
  rw [← h]
  have h1 : start F Try.f64.ntmps x = (St0 x.1) := by kernel_rfl
  rw [h1]
  refine (top_eq fuel (fin C Try.f64.results.toList F.rs F.multi) x.1).trans ?_
  kernel_rfl
theorem named : Named Try.prog 64 := named_of Try.func64 (by kernel_rfl) (by kernel_rfl)
end Go.Bx.basculeref_LogMended
namespace Go.Bx.basculelaw_LogMends
open Go Go.Proofs Go.Bx
set_option maxRecDepth 100000
set_option linter.unusedVariables false
def Js : List Nat := []
def C : Ctx := ⟨[(4, .bool), (35, (.pair (.sl (.int .u8)) (.pair (.sl (.int .u8)) .unit)))], [], fnL [(30, Go.Bx.basculelaw_sameLog.F), (63, Go.Bx.log_Mend.F), (64, Go.Bx.basculeref_LogMended.F)], noSh, [], noInv, [(2, [2])], [], [], 0, 0⟩
def St0 (x0 : List Int × List Int × Unit) : St := stL 25 [(0, .data (.pair (.sl (.int .u8)) (.pair (.sl (.int .u8)) .unit)) x0)] []
def St1 (x2 : Bool) : St := stL 25 [(2, .data .bool x2)] []
def top {α : Type} (Rt : Bool → Option α) (x0 : List Int × List Int × Unit) : Option α :=
  (Go.Bx.log_Mend.run x0).bind fun y1 =>
  (Go.Bx.basculeref_LogMended.run x0).bind fun y2 =>
  (Go.Bx.basculelaw_sameLog.run y1.1 y2.1).bind fun y3 =>
  Rt (cond y3 (y1.2.1 == y2.2.1) false)
theorem top_eq {α : Type} (k : Nat) (Q : Ex → St → Option α) (x0 : List Int × List Int × Unit) :
    (den C k) (cB Try.f18) Q (St0 x0) = top (fun (x2 : Bool) => Q .ret (St1 x2)) x0 := by
  have h : ∀ (D L : DT α), denJ D L Js C (cB Try.f18) Q (St0 x0) =
        (Go.Bx.log_Mend.run x0).bind fun y1 =>
        (Go.Bx.basculeref_LogMended.run x0).bind fun y2 =>
        (Go.Bx.basculelaw_sameLog.run y1.1 y2.1).bind fun y3 =>
        Q .ret (St1 (cond y3 (y1.2.1 == y2.2.1) false)) := by
    intro D L; kernel_rfl
  refine (show (den C k) (cB Try.f18) Q (St0 x0) = denJ (den C k) (lp C k) Js C (cB Try.f18) Q (St0 x0) from (denJ_den _ _ _ _ _ _).symm).trans ((h (den C k) (lp C k)).trans ?_)
  first | rfl | kernel_rfl
def run (x0 : List Int × List Int × Unit) : Option (Bool) := top (α := Bool) (fun (x2 : Bool) => some x2) x0
def F : Fn := ⟨(.pair (.pair (.sl (.int .u8)) (.pair (.sl (.int .u8)) .unit)) .unit), .bool, false, fun x => run x.1⟩
set_option maxRecDepth 100000 in
theorem con : Con Try.prog 18 F := by
  refine con_of_den (C := C) (ctx_ok (by kernel_rfl) (by kernel_rfl) ⟨.inl ⟨Go.Bx.basculelaw_sameLog.con, Go.Bx.basculelaw_sameLog.named⟩, ⟨.inl ⟨Go.Bx.log_Mend.con, Go.Bx.log_Mend.named⟩, ⟨.inl ⟨Go.Bx.basculeref_LogMended.con, Go.Bx.basculeref_LogMended.named⟩, trivial⟩⟩⟩) (by kernel_rfl) Try.func18 (c := cB Try.f18) (by kernel_rfl) (by kernel_rfl) F fuel (fun x => by simp [F, spread, Try.ntmps18]) ?_
  intro x r h
  rw [← h]
  have h1 : start F Try.f18.ntmps x = (St0 x.1) := by kernel_rfl
  rw [h1]
  refine (top_eq fuel (fin C Try.f18.results.toList F.rs F.multi) x.1).trans ?_
  kernel_rfl
theorem named : Named Try.prog 18 := named_of Try.func18 (by kernel_rfl) (by kernel_rfl)
end Go.Bx.basculelaw_LogMends
