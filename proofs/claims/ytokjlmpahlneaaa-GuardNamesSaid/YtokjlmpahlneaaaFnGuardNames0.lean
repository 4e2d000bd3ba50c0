/- Go functions of this seat in their own words of Lean, each tied to its code by a contract. -/
import Derived.Test.YtokjlmpahlneaaaGBase
namespace Go.Bx.basculeref_of
open Go Go.Proofs Go.Bx
set_option maxRecDepth 100000
set_option linter.unusedVariables false
def Js : List Nat := [8]
def C : Ctx := ⟨[(45, (.arr 4 (.int .u64))), (134, (.sl (.int .u64)))], [], [], fnL [], noSh, [], invL [], [(2, [2]), (1, [3]), (4, [3, 6, 7]), (9, [3, 6, 7]), (21, [3])], [(9, [.melt true 3 [] 16 true])], [], 0, 0⟩
def St0 (x0 : List Int) : St := stL 19 [(0, .data (.arr 4 (.int .u64)) x0)] []
def St1 (x6 : List Int) (x7 : Int) (c16 : List Int) : St := stL 19 [(3, .app 16 0), (6, .data (.arr 4 (.int .u64)) x6), (7, .data (.int .i64) x7)] [(16, .buf (.int .u64) c16 0 true)]
noncomputable def cd0 : Code := cL (cL (cR (cL (cR (cR (cB Try.f108))))))
def St2 (c16 : List Int) : St := stL 19 [(3, .app 16 0)] [(16, .buf (.int .u64) c16 0 true)]
def l0s {α : Type} (Nx : (List Int) → Int → (List Int) → Option α) (Xt0 : (List Int) → Option α) (x6 : List Int) (x7 : Int) (c16 : List Int) : Option α :=
  if (decide (x7 < 4)) = true then
    if 0 ≤ x7 ∧ x7 < (4 : Int) then
      if fitB (c16.length + 2) 8 = true then
        Nx x6 (IntKind.i64.wrap (x7 + 1)) (c16 ++ [(Int.tmod (List.getD x6 (Int.toNat x7) 0) 4294967296), (IntKind.u64.wrap (Int.tdiv (List.getD x6 (Int.toNat x7) 0) 4294967296))])
      else none
    else none
  else
    Xt0 c16
theorem l0s_eq {α : Type} (k : Nat) (next : St → Option α) (Q : Ex → St → Option α) (x6 : List Int) (x7 : Int) (c16 : List Int) :
    rnd C k cd0 9 Q next (St1 x6 x7 c16) = l0s (fun (x6 : List Int) (x7 : Int) (c16 : List Int) => next (St1 x6 x7 c16)) (fun (c16 : List Int) => Q (.exit 0) (St2 c16)) x6 x7 c16 := by
  have h : ∀ (D L : DT α), denJ D L Js C cd0 (lq C 9 next Q) (St1 x6 x7 c16) =
        if (decide (x7 < 4)) = true then
          if 0 ≤ x7 ∧ x7 < (4 : Int) then
            if fitB (c16.length + 2) 8 = true then
              next (St1 x6 (IntKind.i64.wrap (x7 + 1)) (c16 ++ [(Int.tmod (List.getD x6 (Int.toNat x7) 0) 4294967296), (IntKind.u64.wrap (Int.tdiv (List.getD x6 (Int.toNat x7) 0) 4294967296))]))
            else none
          else none
        else
          Q (.exit 0) (St2 c16) := by
    intro D L; kernel_rfl
  refine (show rnd C k cd0 9 Q next (St1 x6 x7 c16) = denJ (den C k) (lp C k) Js C cd0 (lq C 9 next Q) (St1 x6 x7 c16) from (denJ_den _ _ _ _ _ _).symm).trans ((h (den C k) (lp C k)).trans ?_)
  first | rfl | kernel_rfl
def l0 {α : Type} (k : Nat) (Xt0 : (List Int) → Option α) : Nat → (List Int) → Int → (List Int) → Option α
  | 0, _, _, _ => none
  | n + 1, x6, x7, c16 => l0s (l0 k Xt0 n) Xt0 x6 x7 c16
theorem l0_eq {α : Type} (k : Nat) (Q : Ex → St → Option α) : ∀ (n : Nat) (x6 : List Int) (x7 : Int) (c16 : List Int), iter (rnd C k cd0 9 Q) n (St1 x6 x7 c16) = l0 k (fun (c16 : List Int) => Q (.exit 0) (St2 c16)) n x6 x7 c16
  | 0, _, _, _ => rfl
  | n + 1, x6, x7, c16 => (iter_succ _ _ _).trans ((l0s_eq k (iter (rnd C k cd0 9 Q) n) Q x6 x7 c16).trans (congrArg (fun N => l0s N (fun (c16 : List Int) => Q (.exit 0) (St2 c16)) x6 x7 c16) (funext fun x6 => funext fun x7 => funext fun c16 => l0_eq k Q n x6 x7 c16)))
theorem l0_congr {α : Type} (k : Nat) (Xt0 : (List Int) → Option α) (Xt0q : (List Int) → Option α) (hXt0 : ∀ (c16 : List Int), Xt0 c16 = Xt0q c16) (n : Nat) (x6 : List Int) (x7 : Int) (c16 : List Int) : l0 k Xt0 n x6 x7 c16 = l0 k Xt0q n x6 x7 c16 := by
  obtain rfl : Xt0 = Xt0q := by funext c16; exact hXt0 c16
  rfl
noncomputable def cd1 : Code := cR (cR (cR (cB Try.f108)))
def St3 (c16 : List Int) : St := stL 19 [(3, .app 16 0)] [(16, .buf (.int .u64) c16 0 true)]
def St4 (c16 : List Int) : St := stL 19 [(2, .app 16 0)] [(16, .buf (.int .u64) c16 0 true)]
def j0 {α : Type} (Rt : (List Int) → Option α) (c16 : List Int) : Option α :=
  Rt c16
theorem j0_eq {α : Type} (k : Nat) (Q : Ex → St → Option α) (c16 : List Int) :
    (den C k) cd1 Q (St3 c16) = j0 (fun (c16 : List Int) => Q .ret (St4 c16)) c16 := by
  have h : ∀ (D L : DT α), denJ D L Js C cd1 Q (St3 c16) =
        Q .ret (St4 c16) := by
    intro D L; kernel_rfl
  refine (show (den C k) cd1 Q (St3 c16) = denJ (den C k) (lp C k) Js C cd1 Q (St3 c16) from (denJ_den _ _ _ _ _ _).symm).trans ((h (den C k) (lp C k)).trans ?_)
  first | rfl | kernel_rfl
theorem a0 {α : Type} (k : Nat) (Q : Ex → St → Option α) (x6 : List Int) (x7 : Int) (c16 : List Int) :
    (lp C k) cd0 (blkQ C 0 (sq (den C k) (lp C k) Js C cd1 Q)) (St1 x6 x7 c16) = l0 k (fun (c16 : List Int) => j0 (fun (c16 : List Int) => Q .ret (St4 c16)) c16) k x6 x7 c16 :=
  (show (lp C k) cd0 (blkQ C 0 (sq (den C k) (lp C k) Js C cd1 Q)) (St1 x6 x7 c16) = iter (rnd C k cd0 9 (blkQ C 0 (sq (den C k) (lp C k) Js C cd1 Q))) k (St1 x6 x7 c16) by kernel_rfl).trans ((l0_eq k (blkQ C 0 (sq (den C k) (lp C k) Js C cd1 Q)) k x6 x7 c16).trans (l0_congr k _ _ (fun c16 => ((show (blkQ C 0 (sq (den C k) (lp C k) Js C cd1 Q)) (.exit 0) (St2 c16) = (den C k) cd1 Q (St3 c16) by kernel_rfl).trans (by simp only [j0_eq]))) k x6 x7 c16))
def top {α : Type} (k : Nat) (Rt : (List Int) → Option α) (x0 : List Int) : Option α :=
  l0 k (fun (c16 : List Int) => j0 Rt c16) k x0 0 []
theorem top_eq {α : Type} (k : Nat) (Q : Ex → St → Option α) (x0 : List Int) :
    (den C k) (cB Try.f108) Q (St0 x0) = top k (fun (c16 : List Int) => Q .ret (St4 c16)) x0 := by
  have h : ∀ (D L : DT α), denJ D L Js C (cB Try.f108) Q (St0 x0) =
        L cd0 (blkQ C 0 (sq D L Js C cd1 Q)) (St1 x0 0 []) := by
    intro D L; kernel_rfl
  refine (show (den C k) (cB Try.f108) Q (St0 x0) = denJ (den C k) (lp C k) Js C (cB Try.f108) Q (St0 x0) from (denJ_den _ _ _ _ _ _).symm).trans ((h (den C k) (lp C k)).trans ?_)
  simp only [a0]
  first | rfl | kernel_rfl
def run (x0 : List Int) : Option (List Int) := top (α := List Int) fuel (fun (c16 : List Int) => some c16) x0
def F : Fn := ⟨(.pair (.arr 4 (.int .u64)) .unit), (.sl (.int .u64)), false, fun x => run x.1⟩
set_option maxRecDepth 100000 in
theorem con : Con Try.prog 108 F := by
  refine con_of_den (C := C) (ctx_ok (by kernel_rfl) (by kernel_rfl) (by kernel_rfl) (by kernel_rfl) trivial) (by kernel_rfl) Try.func108 (c := cB Try.f108) (by kernel_rfl) (by kernel_rfl) F fuel (fun x => by simp [F, spread, Try.ntmps108]) ?_
  intro x r h
  rw [← h]
  have h1 : start F Try.f108.ntmps x = (St0 x.1) := by kernel_rfl
  rw [h1]
  refine (top_eq fuel (fin C Try.f108.results.toList F.rs F.multi) x.1).trans ?_
  kernel_rfl
theorem named : Named Try.prog 108 := named_of Try.func108 (by kernel_rfl) (by kernel_rfl)
end Go.Bx.basculeref_of
namespace Go.Bx.basculeref_plus
open Go Go.Proofs Go.Bx
set_option maxRecDepth 100000
set_option linter.unusedVariables false
def Js : List Nat := [10, 12, 13]
def C : Ctx := ⟨[(24, (.int .u64)), (134, (.sl (.int .u64)))], [], [], fnL [], noSh, [], invL [], [(2, [4]), (1, [5, 6]), (4, [0, 1, 5, 6, 7]), (12, [0, 1, 5, 6, 7]), (27, [0, 1, 5, 7, 8]), (33, [0, 1, 5, 7, 8]), (36, [5, 6])], [(12, [.melt true 5 [] 46 true])], [], 0, 0⟩
def St0 (x0 : List Int) (x1 : List Int) : St := stL 53 [(0, .data (.sl (.int .u64)) x0), (1, .data (.sl (.int .u64)) x1)] []
def St1 (x0 : List Int) (x1 : List Int) (x6 : Int) (x7 : Int) (c46 : List Int) : St := stL 53 [(0, .data (.sl (.int .u64)) x0), (1, .data (.sl (.int .u64)) x1), (5, .app 46 0), (6, .data (.int .u64) x6), (7, .data (.int .i64) x7)] [(46, .buf (.int .u64) c46 0 true)]
noncomputable def cd0 : Code := cL (cL (cR (cL (cR (cR (cR (cB Try.f107)))))))
def St2 (x0 : List Int) (x1 : List Int) (x7 : Int) (x8 : Int) (c46 : List Int) : St := stL 53 [(0, .data (.sl (.int .u64)) x0), (1, .data (.sl (.int .u64)) x1), (5, .app 46 0), (7, .data (.int .i64) x7), (8, .data (.int .u64) x8)] [(46, .buf (.int .u64) c46 0 true)]
noncomputable def cd1 : Code := cR (cR (cL (cL (cR (cL (cR (cR (cR (cB Try.f107)))))))))
noncomputable def cd2 : Code := cR (cR (cL (cL (cR (cL (cL (cR (cL (cR (cR (cR (cB Try.f107))))))))))))
def St3 (x0 : List Int) (x1 : List Int) (x7 : Int) (x8 : Int) (c46 : List Int) : St := stL 53 [(0, .data (.sl (.int .u64)) x0), (1, .data (.sl (.int .u64)) x1), (5, .app 46 0), (7, .data (.int .i64) x7), (8, .data (.int .u64) x8)] [(46, .buf (.int .u64) c46 0 true)]
noncomputable def cd3 : Code := cR (cR (cR (cL (cL (cR (cL (cL (cR (cL (cR (cR (cR (cB Try.f107)))))))))))))
def j1 {α : Type} (Nx : (List Int) → (List Int) → Int → Int → (List Int) → Option α) (x0 : List Int) (x1 : List Int) (x7 : Int) (x8 : Int) (c46 : List Int) : Option α :=
  if fitB (c46.length + 1) 8 = true then
    Nx x0 x1 (IntKind.u64.wrap (Int.tdiv x8 4294967296)) (IntKind.i64.wrap (x7 + 1)) (c46 ++ [(Int.tmod x8 4294967296)])
  else none
theorem j1_eq {α : Type} (k : Nat) (next : St → Option α) (Q : Ex → St → Option α) (x0 : List Int) (x1 : List Int) (x7 : Int) (x8 : Int) (c46 : List Int) :
    (den C k) cd3 (blkQ C 1 (sq (den C k) (lp C k) Js C cd1 (lq C 12 next Q))) (St3 x0 x1 x7 x8 c46) = j1 (fun (x0 : List Int) (x1 : List Int) (x6 : Int) (x7 : Int) (c46 : List Int) => next (St1 x0 x1 x6 x7 c46)) x0 x1 x7 x8 c46 := by
  have h : ∀ (D L : DT α), denJ D L Js C cd3 (blkQ C 1 (sq D L Js C cd1 (lq C 12 next Q))) (St3 x0 x1 x7 x8 c46) =
        if fitB (c46.length + 1) 8 = true then
          next (St1 x0 x1 (IntKind.u64.wrap (Int.tdiv x8 4294967296)) (IntKind.i64.wrap (x7 + 1)) (c46 ++ [(Int.tmod x8 4294967296)]))
        else none := by
    intro D L; kernel_rfl
  refine (show (den C k) cd3 (blkQ C 1 (sq (den C k) (lp C k) Js C cd1 (lq C 12 next Q))) (St3 x0 x1 x7 x8 c46) = denJ (den C k) (lp C k) Js C cd3 (blkQ C 1 (sq (den C k) (lp C k) Js C cd1 (lq C 12 next Q))) (St3 x0 x1 x7 x8 c46) from (denJ_den _ _ _ _ _ _).symm).trans ((h (den C k) (lp C k)).trans ?_)
  first | rfl | kernel_rfl
def j0 {α : Type} (Nx : (List Int) → (List Int) → Int → Int → (List Int) → Option α) (x0 : List Int) (x1 : List Int) (x7 : Int) (x8 : Int) (c46 : List Int) : Option α :=
  if (decide (x7 < (x1.length : Int))) = true then
    if 0 ≤ x7 ∧ x7 < (x1.length : Int) then
      j1 Nx x0 x1 x7 (IntKind.u64.wrap (x8 + (List.getD x1 (Int.toNat x7) 0))) c46
    else none
  else
    j1 Nx x0 x1 x7 x8 c46
theorem j0_eq {α : Type} (k : Nat) (next : St → Option α) (Q : Ex → St → Option α) (x0 : List Int) (x1 : List Int) (x7 : Int) (x8 : Int) (c46 : List Int) :
    (den C k) cd2 (blkQ C 1 (sq (den C k) (lp C k) Js C cd1 (lq C 12 next Q))) (St2 x0 x1 x7 x8 c46) = j0 (fun (x0 : List Int) (x1 : List Int) (x6 : Int) (x7 : Int) (c46 : List Int) => next (St1 x0 x1 x6 x7 c46)) x0 x1 x7 x8 c46 := by
  have h : ∀ (D L : DT α), denJ D L Js C cd2 (blkQ C 1 (sq D L Js C cd1 (lq C 12 next Q))) (St2 x0 x1 x7 x8 c46) =
        if (decide (x7 < (x1.length : Int))) = true then
          if 0 ≤ x7 ∧ x7 < (x1.length : Int) then
            D cd3 (blkQ C 1 (sq D L Js C cd1 (lq C 12 next Q))) (St3 x0 x1 x7 (IntKind.u64.wrap (x8 + (List.getD x1 (Int.toNat x7) 0))) c46)
          else none
        else
          D cd3 (blkQ C 1 (sq D L Js C cd1 (lq C 12 next Q))) (St3 x0 x1 x7 x8 c46) := by
    intro D L; kernel_rfl
  refine (show (den C k) cd2 (blkQ C 1 (sq (den C k) (lp C k) Js C cd1 (lq C 12 next Q))) (St2 x0 x1 x7 x8 c46) = denJ (den C k) (lp C k) Js C cd2 (blkQ C 1 (sq (den C k) (lp C k) Js C cd1 (lq C 12 next Q))) (St2 x0 x1 x7 x8 c46) from (denJ_den _ _ _ _ _ _).symm).trans ((h (den C k) (lp C k)).trans ?_)
  simp only [j1_eq]
  first | rfl | kernel_rfl
def St4 (x6 : Int) (c46 : List Int) : St := stL 53 [(5, .app 46 0), (6, .data (.int .u64) x6)] [(46, .buf (.int .u64) c46 0 true)]
def l0s {α : Type} (Nx : (List Int) → (List Int) → Int → Int → (List Int) → Option α) (Xt0 : Int → (List Int) → Option α) (x0 : List Int) (x1 : List Int) (x6 : Int) (x7 : Int) (c46 : List Int) : Option α :=
  if (cond (decide (x7 < (x0.length : Int))) true (decide (x7 < (x1.length : Int)))) = true then
    if (decide (x7 < (x0.length : Int))) = true then
      if 0 ≤ x7 ∧ x7 < (x0.length : Int) then
        j0 Nx x0 x1 x7 (IntKind.u64.wrap (x6 + (List.getD x0 (Int.toNat x7) 0))) c46
      else none
    else
      j0 Nx x0 x1 x7 x6 c46
  else
    Xt0 x6 c46
theorem l0s_eq {α : Type} (k : Nat) (next : St → Option α) (Q : Ex → St → Option α) (x0 : List Int) (x1 : List Int) (x6 : Int) (x7 : Int) (c46 : List Int) :
    rnd C k cd0 12 Q next (St1 x0 x1 x6 x7 c46) = l0s (fun (x0 : List Int) (x1 : List Int) (x6 : Int) (x7 : Int) (c46 : List Int) => next (St1 x0 x1 x6 x7 c46)) (fun (x6 : Int) (c46 : List Int) => Q (.exit 0) (St4 x6 c46)) x0 x1 x6 x7 c46 := by
  have h : ∀ (D L : DT α), denJ D L Js C cd0 (lq C 12 next Q) (St1 x0 x1 x6 x7 c46) =
        if (cond (decide (x7 < (x0.length : Int))) true (decide (x7 < (x1.length : Int)))) = true then
          if (decide (x7 < (x0.length : Int))) = true then
            if 0 ≤ x7 ∧ x7 < (x0.length : Int) then
              D cd2 (blkQ C 1 (sq D L Js C cd1 (lq C 12 next Q))) (St2 x0 x1 x7 (IntKind.u64.wrap (x6 + (List.getD x0 (Int.toNat x7) 0))) c46)
            else none
          else
            D cd2 (blkQ C 1 (sq D L Js C cd1 (lq C 12 next Q))) (St2 x0 x1 x7 x6 c46)
        else
          Q (.exit 0) (St4 x6 c46) := by
    intro D L; kernel_rfl
  refine (show rnd C k cd0 12 Q next (St1 x0 x1 x6 x7 c46) = denJ (den C k) (lp C k) Js C cd0 (lq C 12 next Q) (St1 x0 x1 x6 x7 c46) from (denJ_den _ _ _ _ _ _).symm).trans ((h (den C k) (lp C k)).trans ?_)
  simp only [j0_eq]
  first | rfl | kernel_rfl
def l0 {α : Type} (k : Nat) (Xt0 : Int → (List Int) → Option α) : Nat → (List Int) → (List Int) → Int → Int → (List Int) → Option α
  | 0, _, _, _, _, _ => none
  | n + 1, x0, x1, x6, x7, c46 => l0s (l0 k Xt0 n) Xt0 x0 x1 x6 x7 c46
theorem l0_eq {α : Type} (k : Nat) (Q : Ex → St → Option α) : ∀ (n : Nat) (x0 : List Int) (x1 : List Int) (x6 : Int) (x7 : Int) (c46 : List Int), iter (rnd C k cd0 12 Q) n (St1 x0 x1 x6 x7 c46) = l0 k (fun (x6 : Int) (c46 : List Int) => Q (.exit 0) (St4 x6 c46)) n x0 x1 x6 x7 c46
  | 0, _, _, _, _, _ => rfl
  | n + 1, x0, x1, x6, x7, c46 => (iter_succ _ _ _).trans ((l0s_eq k (iter (rnd C k cd0 12 Q) n) Q x0 x1 x6 x7 c46).trans (congrArg (fun N => l0s N (fun (x6 : Int) (c46 : List Int) => Q (.exit 0) (St4 x6 c46)) x0 x1 x6 x7 c46) (funext fun x0 => funext fun x1 => funext fun x6 => funext fun x7 => funext fun c46 => l0_eq k Q n x0 x1 x6 x7 c46)))
theorem l0_congr {α : Type} (k : Nat) (Xt0 : Int → (List Int) → Option α) (Xt0q : Int → (List Int) → Option α) (hXt0 : ∀ (x6 : Int) (c46 : List Int), Xt0 x6 c46 = Xt0q x6 c46) (n : Nat) (x0 : List Int) (x1 : List Int) (x6 : Int) (x7 : Int) (c46 : List Int) : l0 k Xt0 n x0 x1 x6 x7 c46 = l0 k Xt0q n x0 x1 x6 x7 c46 := by
  obtain rfl : Xt0 = Xt0q := by funext x6; funext c46; exact hXt0 x6 c46
  rfl
noncomputable def cd4 : Code := cR (cR (cR (cR (cB Try.f107))))
def St5 (x6 : Int) (c46 : List Int) : St := stL 53 [(5, .app 46 0), (6, .data (.int .u64) x6)] [(46, .buf (.int .u64) c46 0 true)]
def St6 (c46 : List Int) : St := stL 53 [(4, .app 46 0)] [(46, .buf (.int .u64) c46 0 true)]
def j2 {α : Type} (Rt : (List Int) → Option α) (x6 : Int) (c46 : List Int) : Option α :=
  if fitB (c46.length + 1) 8 = true then
    Rt (c46 ++ [x6])
  else none
theorem j2_eq {α : Type} (k : Nat) (Q : Ex → St → Option α) (x6 : Int) (c46 : List Int) :
    (den C k) cd4 Q (St5 x6 c46) = j2 (fun (c46 : List Int) => Q .ret (St6 c46)) x6 c46 := by
  have h : ∀ (D L : DT α), denJ D L Js C cd4 Q (St5 x6 c46) =
        if fitB (c46.length + 1) 8 = true then
          Q .ret (St6 (c46 ++ [x6]))
        else none := by
    intro D L; kernel_rfl
  refine (show (den C k) cd4 Q (St5 x6 c46) = denJ (den C k) (lp C k) Js C cd4 Q (St5 x6 c46) from (denJ_den _ _ _ _ _ _).symm).trans ((h (den C k) (lp C k)).trans ?_)
  first | rfl | kernel_rfl
theorem a0 {α : Type} (k : Nat) (Q : Ex → St → Option α) (x0 : List Int) (x1 : List Int) (x6 : Int) (x7 : Int) (c46 : List Int) :
    (lp C k) cd0 (blkQ C 0 (sq (den C k) (lp C k) Js C cd4 Q)) (St1 x0 x1 x6 x7 c46) = l0 k (fun (x6 : Int) (c46 : List Int) => j2 (fun (c46 : List Int) => Q .ret (St6 c46)) x6 c46) k x0 x1 x6 x7 c46 :=
  (show (lp C k) cd0 (blkQ C 0 (sq (den C k) (lp C k) Js C cd4 Q)) (St1 x0 x1 x6 x7 c46) = iter (rnd C k cd0 12 (blkQ C 0 (sq (den C k) (lp C k) Js C cd4 Q))) k (St1 x0 x1 x6 x7 c46) by kernel_rfl).trans ((l0_eq k (blkQ C 0 (sq (den C k) (lp C k) Js C cd4 Q)) k x0 x1 x6 x7 c46).trans (l0_congr k _ _ (fun x6 c46 => ((show (blkQ C 0 (sq (den C k) (lp C k) Js C cd4 Q)) (.exit 0) (St4 x6 c46) = (den C k) cd4 Q (St5 x6 c46) by kernel_rfl).trans (by simp only [j2_eq]))) k x0 x1 x6 x7 c46))
def top {α : Type} (k : Nat) (Rt : (List Int) → Option α) (x0 : List Int) (x1 : List Int) : Option α :=
  l0 k (fun (x6 : Int) (c46 : List Int) => j2 Rt x6 c46) k x0 x1 0 0 []
theorem top_eq {α : Type} (k : Nat) (Q : Ex → St → Option α) (x0 : List Int) (x1 : List Int) :
    (den C k) (cB Try.f107) Q (St0 x0 x1) = top k (fun (c46 : List Int) => Q .ret (St6 c46)) x0 x1 := by
  have h : ∀ (D L : DT α), denJ D L Js C (cB Try.f107) Q (St0 x0 x1) =
        L cd0 (blkQ C 0 (sq D L Js C cd4 Q)) (St1 x0 x1 0 0 []) := by
    intro D L; kernel_rfl
  refine (show (den C k) (cB Try.f107) Q (St0 x0 x1) = denJ (den C k) (lp C k) Js C (cB Try.f107) Q (St0 x0 x1) from (denJ_den _ _ _ _ _ _).symm).trans ((h (den C k) (lp C k)).trans ?_)
  simp only [a0]
  first | rfl | kernel_rfl
def run (x0 : List Int) (x1 : List Int) : Option (List Int) := top (α := List Int) fuel (fun (c46 : List Int) => some c46) x0 x1
def F : Fn := ⟨(.pair (.sl (.int .u64)) (.pair (.sl (.int .u64)) .unit)), (.sl (.int .u64)), false, fun x => run x.1 x.2.1⟩
set_option maxRecDepth 100000 in
theorem con : Con Try.prog 107 F := by
  refine con_of_den (C := C) (ctx_ok (by kernel_rfl) (by kernel_rfl) (by kernel_rfl) (by kernel_rfl) trivial) (by kernel_rfl) Try.func107 (c := cB Try.f107) (by kernel_rfl) (by kernel_rfl) F fuel (fun x => by simp [F, spread, Try.ntmps107]) ?_
  intro x r h
  rw [← h]
  have h1 : start F Try.f107.ntmps x = (St0 x.1 x.2.1) := by kernel_rfl
  rw [h1]
  refine (top_eq fuel (fin C Try.f107.results.toList F.rs F.multi) x.1 x.2.1).trans ?_
  kernel_rfl
theorem named : Named Try.prog 107 := named_of Try.func107 (by kernel_rfl) (by kernel_rfl)
end Go.Bx.basculeref_plus
namespace Go.Bx.basculeref_less
open Go Go.Proofs Go.Bx
set_option maxRecDepth 100000
set_option linter.unusedVariables false
def Js : List Nat := [10, 14, 16]
def C : Ctx := ⟨[(24, (.int .u64)), (134, (.sl (.int .u64)))], [], [], fnL [], noSh, [], invL [], [(2, [4]), (1, [5]), (4, [1, 5, 6, 13, 14]), (12, [1, 5, 6, 13, 14]), (27, [1, 5, 7, 8, 13, 14]), (39, [1, 5, 6, 7, 8, 13, 14]), (45, [5])], [], [], 0, 0⟩
def St0 (x0 : List Int) (x1 : List Int) : St := stL 49 [(0, .data (.sl (.int .u64)) x0), (1, .data (.sl (.int .u64)) x1)] []
def St1 (x1 : List Int) (x6 : Int) (x13 : Int) (x14 : Int) (c11 : List Int) : St := stL 49 [(1, .data (.sl (.int .u64)) x1), (5, .app 11 0), (6, .data (.int .u64) x6), (13, .data (.int .i64) x13), (14, .data (.int .i64) x14)] [(11, .buf (.int .u64) c11 0 false)]
noncomputable def cd0 : Code := cL (cL (cR (cL (cR (cR (cR (cB Try.f115)))))))
def St2 (x1 : List Int) (x7 : Int) (x8 : Int) (x13 : Int) (x14 : Int) (c11 : List Int) : St := stL 49 [(1, .data (.sl (.int .u64)) x1), (5, .app 11 0), (7, .data (.int .i64) x7), (8, .data (.int .u64) x8), (13, .data (.int .i64) x13), (14, .data (.int .i64) x14)] [(11, .buf (.int .u64) c11 0 false)]
noncomputable def cd1 : Code := cR (cR (cR (cL (cL (cR (cL (cR (cR (cR (cB Try.f115))))))))))
noncomputable def cd2 : Code := cR (cR (cR (cL (cL (cR (cR (cL (cL (cR (cL (cR (cR (cR (cB Try.f115))))))))))))))
def St3 (x1 : List Int) (x6 : Int) (x7 : Int) (x8 : Int) (x13 : Int) (x14 : Int) (c11 : List Int) : St := stL 49 [(1, .data (.sl (.int .u64)) x1), (5, .app 11 0), (6, .data (.int .u64) x6), (7, .data (.int .i64) x7), (8, .data (.int .u64) x8), (13, .data (.int .i64) x13), (14, .data (.int .i64) x14)] [(11, .buf (.int .u64) c11 0 false)]
noncomputable def cd3 : Code := cR (cR (cR (cR (cR (cL (cL (cR (cR (cL (cL (cR (cL (cR (cR (cR (cB Try.f115))))))))))))))))
def j1 {α : Type} (Nx : (List Int) → Int → Int → Int → (List Int) → Option α) (x1 : List Int) (x6 : Int) (x7 : Int) (x8 : Int) (x13 : Int) (x14 : Int) (c11 : List Int) : Option α :=
  if 0 ≤ x7 ∧ x7 < (c11.length : Int) then
    if 0 ≤ x7 ∧ x7 < (c11.length : Int) then
      Nx x1 x6 x13 (IntKind.i64.wrap (x14 + 1)) (List.set c11 (Int.toNat x7) (IntKind.u64.wrap ((List.getD c11 (Int.toNat x7) 0) - x8)))
    else none
  else none
theorem j1_eq {α : Type} (k : Nat) (next : St → Option α) (Q : Ex → St → Option α) (x1 : List Int) (x6 : Int) (x7 : Int) (x8 : Int) (x13 : Int) (x14 : Int) (c11 : List Int) :
    (den C k) cd3 (blkQ C 1 (sq (den C k) (lp C k) Js C cd1 (lq C 12 next Q))) (St3 x1 x6 x7 x8 x13 x14 c11) = j1 (fun (x1 : List Int) (x6 : Int) (x13 : Int) (x14 : Int) (c11 : List Int) => next (St1 x1 x6 x13 x14 c11)) x1 x6 x7 x8 x13 x14 c11 := by
  have h : ∀ (D L : DT α), denJ D L Js C cd3 (blkQ C 1 (sq D L Js C cd1 (lq C 12 next Q))) (St3 x1 x6 x7 x8 x13 x14 c11) =
        if 0 ≤ x7 ∧ x7 < (c11.length : Int) then
          if 0 ≤ x7 ∧ x7 < (c11.length : Int) then
            next (St1 x1 x6 x13 (IntKind.i64.wrap (x14 + 1)) (List.set c11 (Int.toNat x7) (IntKind.u64.wrap ((List.getD c11 (Int.toNat x7) 0) - x8))))
          else none
        else none := by
    intro D L; kernel_rfl
  refine (show (den C k) cd3 (blkQ C 1 (sq (den C k) (lp C k) Js C cd1 (lq C 12 next Q))) (St3 x1 x6 x7 x8 x13 x14 c11) = denJ (den C k) (lp C k) Js C cd3 (blkQ C 1 (sq (den C k) (lp C k) Js C cd1 (lq C 12 next Q))) (St3 x1 x6 x7 x8 x13 x14 c11) from (denJ_den _ _ _ _ _ _).symm).trans ((h (den C k) (lp C k)).trans ?_)
  first | rfl | kernel_rfl
def j0 {α : Type} (Nx : (List Int) → Int → Int → Int → (List Int) → Option α) (x1 : List Int) (x7 : Int) (x8 : Int) (x13 : Int) (x14 : Int) (c11 : List Int) : Option α :=
  if 0 ≤ x7 ∧ x7 < (c11.length : Int) then
    if (decide ((List.getD c11 (Int.toNat x7) 0) < x8)) = true then
      if 0 ≤ x7 ∧ x7 < (c11.length : Int) then
        if 0 ≤ x7 ∧ x7 < (c11.length : Int) then
          j1 Nx x1 1 x7 x8 x13 x14 (List.set c11 (Int.toNat x7) (IntKind.u64.wrap ((List.getD c11 (Int.toNat x7) 0) + 4294967296)))
        else none
      else none
    else
      j1 Nx x1 0 x7 x8 x13 x14 c11
  else none
theorem j0_eq {α : Type} (k : Nat) (next : St → Option α) (Q : Ex → St → Option α) (x1 : List Int) (x7 : Int) (x8 : Int) (x13 : Int) (x14 : Int) (c11 : List Int) :
    (den C k) cd2 (blkQ C 1 (sq (den C k) (lp C k) Js C cd1 (lq C 12 next Q))) (St2 x1 x7 x8 x13 x14 c11) = j0 (fun (x1 : List Int) (x6 : Int) (x13 : Int) (x14 : Int) (c11 : List Int) => next (St1 x1 x6 x13 x14 c11)) x1 x7 x8 x13 x14 c11 := by
  have h : ∀ (D L : DT α), denJ D L Js C cd2 (blkQ C 1 (sq D L Js C cd1 (lq C 12 next Q))) (St2 x1 x7 x8 x13 x14 c11) =
        if 0 ≤ x7 ∧ x7 < (c11.length : Int) then
          if (decide ((List.getD c11 (Int.toNat x7) 0) < x8)) = true then
            if 0 ≤ x7 ∧ x7 < (c11.length : Int) then
              if 0 ≤ x7 ∧ x7 < (c11.length : Int) then
                D cd3 (blkQ C 1 (sq D L Js C cd1 (lq C 12 next Q))) (St3 x1 1 x7 x8 x13 x14 (List.set c11 (Int.toNat x7) (IntKind.u64.wrap ((List.getD c11 (Int.toNat x7) 0) + 4294967296))))
              else none
            else none
          else
            D cd3 (blkQ C 1 (sq D L Js C cd1 (lq C 12 next Q))) (St3 x1 0 x7 x8 x13 x14 c11)
        else none := by
    intro D L; kernel_rfl
  refine (show (den C k) cd2 (blkQ C 1 (sq (den C k) (lp C k) Js C cd1 (lq C 12 next Q))) (St2 x1 x7 x8 x13 x14 c11) = denJ (den C k) (lp C k) Js C cd2 (blkQ C 1 (sq (den C k) (lp C k) Js C cd1 (lq C 12 next Q))) (St2 x1 x7 x8 x13 x14 c11) from (denJ_den _ _ _ _ _ _).symm).trans ((h (den C k) (lp C k)).trans ?_)
  simp only [j1_eq]
  first | rfl | kernel_rfl
def St4 (c11 : List Int) : St := stL 49 [(5, .app 11 0)] [(11, .buf (.int .u64) c11 0 false)]
def l0s {α : Type} (Nx : (List Int) → Int → Int → Int → (List Int) → Option α) (Xt0 : (List Int) → Option α) (x1 : List Int) (x6 : Int) (x13 : Int) (x14 : Int) (c11 : List Int) : Option α :=
  if (decide (x14 < x13)) = true then
    if (decide (x14 < (x1.length : Int))) = true then
      if 0 ≤ x14 ∧ x14 < (x1.length : Int) then
        j0 Nx x1 x14 (IntKind.u64.wrap (x6 + (List.getD x1 (Int.toNat x14) 0))) x13 x14 c11
      else none
    else
      j0 Nx x1 x14 x6 x13 x14 c11
  else
    Xt0 c11
theorem l0s_eq {α : Type} (k : Nat) (next : St → Option α) (Q : Ex → St → Option α) (x1 : List Int) (x6 : Int) (x13 : Int) (x14 : Int) (c11 : List Int) :
    rnd C k cd0 12 Q next (St1 x1 x6 x13 x14 c11) = l0s (fun (x1 : List Int) (x6 : Int) (x13 : Int) (x14 : Int) (c11 : List Int) => next (St1 x1 x6 x13 x14 c11)) (fun (c11 : List Int) => Q (.exit 0) (St4 c11)) x1 x6 x13 x14 c11 := by
  have h : ∀ (D L : DT α), denJ D L Js C cd0 (lq C 12 next Q) (St1 x1 x6 x13 x14 c11) =
        if (decide (x14 < x13)) = true then
          if (decide (x14 < (x1.length : Int))) = true then
            if 0 ≤ x14 ∧ x14 < (x1.length : Int) then
              D cd2 (blkQ C 1 (sq D L Js C cd1 (lq C 12 next Q))) (St2 x1 x14 (IntKind.u64.wrap (x6 + (List.getD x1 (Int.toNat x14) 0))) x13 x14 c11)
            else none
          else
            D cd2 (blkQ C 1 (sq D L Js C cd1 (lq C 12 next Q))) (St2 x1 x14 x6 x13 x14 c11)
        else
          Q (.exit 0) (St4 c11) := by
    intro D L; kernel_rfl
  refine (show rnd C k cd0 12 Q next (St1 x1 x6 x13 x14 c11) = denJ (den C k) (lp C k) Js C cd0 (lq C 12 next Q) (St1 x1 x6 x13 x14 c11) from (denJ_den _ _ _ _ _ _).symm).trans ((h (den C k) (lp C k)).trans ?_)
  simp only [j0_eq]
  first | rfl | kernel_rfl
def l0 {α : Type} (k : Nat) (Xt0 : (List Int) → Option α) : Nat → (List Int) → Int → Int → Int → (List Int) → Option α
  | 0, _, _, _, _, _ => none
  | n + 1, x1, x6, x13, x14, c11 => l0s (l0 k Xt0 n) Xt0 x1 x6 x13 x14 c11
theorem l0_eq {α : Type} (k : Nat) (Q : Ex → St → Option α) : ∀ (n : Nat) (x1 : List Int) (x6 : Int) (x13 : Int) (x14 : Int) (c11 : List Int), iter (rnd C k cd0 12 Q) n (St1 x1 x6 x13 x14 c11) = l0 k (fun (c11 : List Int) => Q (.exit 0) (St4 c11)) n x1 x6 x13 x14 c11
  | 0, _, _, _, _, _ => rfl
  | n + 1, x1, x6, x13, x14, c11 => (iter_succ _ _ _).trans ((l0s_eq k (iter (rnd C k cd0 12 Q) n) Q x1 x6 x13 x14 c11).trans (congrArg (fun N => l0s N (fun (c11 : List Int) => Q (.exit 0) (St4 c11)) x1 x6 x13 x14 c11) (funext fun x1 => funext fun x6 => funext fun x13 => funext fun x14 => funext fun c11 => l0_eq k Q n x1 x6 x13 x14 c11)))
theorem l0_congr {α : Type} (k : Nat) (Xt0 : (List Int) → Option α) (Xt0q : (List Int) → Option α) (hXt0 : ∀ (c11 : List Int), Xt0 c11 = Xt0q c11) (n : Nat) (x1 : List Int) (x6 : Int) (x13 : Int) (x14 : Int) (c11 : List Int) : l0 k Xt0 n x1 x6 x13 x14 c11 = l0 k Xt0q n x1 x6 x13 x14 c11 := by
  obtain rfl : Xt0 = Xt0q := by funext c11; exact hXt0 c11
  rfl
noncomputable def cd4 : Code := cR (cR (cR (cR (cB Try.f115))))
def St5 (c11 : List Int) : St := stL 49 [(5, .app 11 0)] [(11, .buf (.int .u64) c11 0 false)]
def St6 (c11 : List Int) : St := stL 49 [(4, .app 11 0)] [(11, .buf (.int .u64) c11 0 false)]
def j2 {α : Type} (Rt : (List Int) → Option α) (c11 : List Int) : Option α :=
  Rt c11
theorem j2_eq {α : Type} (k : Nat) (Q : Ex → St → Option α) (c11 : List Int) :
    (den C k) cd4 Q (St5 c11) = j2 (fun (c11 : List Int) => Q .ret (St6 c11)) c11 := by
  have h : ∀ (D L : DT α), denJ D L Js C cd4 Q (St5 c11) =
        Q .ret (St6 c11) := by
    intro D L; kernel_rfl
  refine (show (den C k) cd4 Q (St5 c11) = denJ (den C k) (lp C k) Js C cd4 Q (St5 c11) from (denJ_den _ _ _ _ _ _).symm).trans ((h (den C k) (lp C k)).trans ?_)
  first | rfl | kernel_rfl
theorem a0 {α : Type} (k : Nat) (Q : Ex → St → Option α) (x1 : List Int) (x6 : Int) (x13 : Int) (x14 : Int) (c11 : List Int) :
    (lp C k) cd0 (blkQ C 0 (sq (den C k) (lp C k) Js C cd4 Q)) (St1 x1 x6 x13 x14 c11) = l0 k (fun (c11 : List Int) => j2 (fun (c11 : List Int) => Q .ret (St6 c11)) c11) k x1 x6 x13 x14 c11 :=
  (show (lp C k) cd0 (blkQ C 0 (sq (den C k) (lp C k) Js C cd4 Q)) (St1 x1 x6 x13 x14 c11) = iter (rnd C k cd0 12 (blkQ C 0 (sq (den C k) (lp C k) Js C cd4 Q))) k (St1 x1 x6 x13 x14 c11) by kernel_rfl).trans ((l0_eq k (blkQ C 0 (sq (den C k) (lp C k) Js C cd4 Q)) k x1 x6 x13 x14 c11).trans (l0_congr k _ _ (fun c11 => ((show (blkQ C 0 (sq (den C k) (lp C k) Js C cd4 Q)) (.exit 0) (St4 c11) = (den C k) cd4 Q (St5 c11) by kernel_rfl).trans (by simp only [j2_eq]))) k x1 x6 x13 x14 c11))
def top {α : Type} (k : Nat) (Rt : (List Int) → Option α) (x0 : List Int) (x1 : List Int) : Option α :=
  if (fitB (0 + x0.length) 8 && (Nat.beq 0 0 || Nat.blt 0 x0.length)) = true then
    l0 k (fun (c11 : List Int) => j2 Rt c11) k x1 0 (x0.length : Int) 0 x0
  else none
theorem top_eq {α : Type} (k : Nat) (Q : Ex → St → Option α) (x0 : List Int) (x1 : List Int) :
    (den C k) (cB Try.f115) Q (St0 x0 x1) = top k (fun (c11 : List Int) => Q .ret (St6 c11)) x0 x1 := by
  have h : ∀ (D L : DT α), denJ D L Js C (cB Try.f115) Q (St0 x0 x1) =
        if (fitB (0 + x0.length) 8 && (Nat.beq 0 0 || Nat.blt 0 x0.length)) = true then
          L cd0 (blkQ C 0 (sq D L Js C cd4 Q)) (St1 x1 0 (x0.length : Int) 0 x0)
        else none := by
    intro D L; kernel_rfl
  refine (show (den C k) (cB Try.f115) Q (St0 x0 x1) = denJ (den C k) (lp C k) Js C (cB Try.f115) Q (St0 x0 x1) from (denJ_den _ _ _ _ _ _).symm).trans ((h (den C k) (lp C k)).trans ?_)
  simp only [a0]
  first | rfl | kernel_rfl
def run (x0 : List Int) (x1 : List Int) : Option (List Int) := top (α := List Int) fuel (fun (c11 : List Int) => some c11) x0 x1
def F : Fn := ⟨(.pair (.sl (.int .u64)) (.pair (.sl (.int .u64)) .unit)), (.sl (.int .u64)), false, fun x => run x.1 x.2.1⟩
set_option maxRecDepth 100000 in
theorem con : Con Try.prog 115 F := by
  refine con_of_den (C := C) (ctx_ok (by kernel_rfl) (by kernel_rfl) (by kernel_rfl) (by kernel_rfl) trivial) (by kernel_rfl) Try.func115 (c := cB Try.f115) (by kernel_rfl) (by kernel_rfl) F fuel (fun x => by simp [F, spread, Try.ntmps115]) ?_
  intro x r h
  rw [← h]
  have h1 : start F Try.f115.ntmps x = (St0 x.1 x.2.1) := by kernel_rfl
  rw [h1]
  refine (top_eq fuel (fin C Try.f115.results.toList F.rs F.multi) x.1 x.2.1).trans ?_
  kernel_rfl
theorem named : Named Try.prog 115 := named_of Try.func115 (by kernel_rfl) (by kernel_rfl)
end Go.Bx.basculeref_less
namespace Go.Bx.basculeref_compare
open Go Go.Proofs Go.Bx
set_option maxRecDepth 100000
set_option linter.unusedVariables false
def Js : List Nat := [8, 10, 14]
def C : Ctx := ⟨[(3, (.int .i64)), (24, (.int .u64)), (134, (.sl (.int .u64)))], [], [], fnL [], noSh, [], invL [], [(2, [4]), (1, []), (4, [0, 1, 5]), (6, [0, 1, 5]), (21, [0, 1, 5, 6, 7]), (27, [0, 1, 5, 6, 7]), (39, [])], [], [], 0, 0⟩
def St0 (x0 : List Int) (x1 : List Int) : St := stL 40 [(0, .data (.sl (.int .u64)) x0), (1, .data (.sl (.int .u64)) x1)] []
def St1 (x0 : List Int) (x1 : List Int) (x5 : Int) : St := stL 40 [(0, .data (.sl (.int .u64)) x0), (1, .data (.sl (.int .u64)) x1), (5, .data (.int .i64) x5)] []
noncomputable def cd0 : Code := cL (cL (cR (cL (cR (cB Try.f113)))))
def St2 (x0 : List Int) (x1 : List Int) (x5 : Int) (x6 : Int) (x7 : Int) : St := stL 40 [(0, .data (.sl (.int .u64)) x0), (1, .data (.sl (.int .u64)) x1), (5, .data (.int .i64) x5), (6, .data (.int .u64) x6), (7, .data (.int .u64) x7)] []
noncomputable def cd1 : Code := cR (cR (cL (cL (cR (cL (cR (cB Try.f113)))))))
noncomputable def cd2 : Code := cR (cR (cL (cL (cR (cL (cL (cR (cL (cR (cB Try.f113))))))))))
def St3 (x0 : List Int) (x1 : List Int) (x5 : Int) (x6 : Int) (x7 : Int) : St := stL 40 [(0, .data (.sl (.int .u64)) x0), (1, .data (.sl (.int .u64)) x1), (5, .data (.int .i64) x5), (6, .data (.int .u64) x6), (7, .data (.int .u64) x7)] []
noncomputable def cd3 : Code := cR (cR (cR (cL (cL (cR (cL (cL (cR (cL (cR (cB Try.f113)))))))))))
def St4 (x4 : Int) : St := stL 40 [(4, .data (.int .i64) x4)] []
def j1 {α : Type} (Nx : (List Int) → (List Int) → Int → Option α) (Rt : Int → Option α) (x0 : List Int) (x1 : List Int) (x5 : Int) (x6 : Int) (x7 : Int) : Option α :=
  if (decide (x6 < x7)) = true then
    Rt (-1)
  else
    if (decide (x6 > x7)) = true then
      Rt 1
    else
      Nx x0 x1 (IntKind.i64.wrap (x5 - 1))
theorem j1_eq {α : Type} (k : Nat) (next : St → Option α) (Q : Ex → St → Option α) (x0 : List Int) (x1 : List Int) (x5 : Int) (x6 : Int) (x7 : Int) :
    (den C k) cd3 (blkQ C 1 (sq (den C k) (lp C k) Js C cd1 (lq C 6 next Q))) (St3 x0 x1 x5 x6 x7) = j1 (fun (x0 : List Int) (x1 : List Int) (x5 : Int) => next (St1 x0 x1 x5)) (fun (x4 : Int) => Q .ret (St4 x4)) x0 x1 x5 x6 x7 := by
  have h : ∀ (D L : DT α), denJ D L Js C cd3 (blkQ C 1 (sq D L Js C cd1 (lq C 6 next Q))) (St3 x0 x1 x5 x6 x7) =
        if (decide (x6 < x7)) = true then
          Q .ret (St4 (-1))
        else
          if (decide (x6 > x7)) = true then
            Q .ret (St4 1)
          else
            next (St1 x0 x1 (IntKind.i64.wrap (x5 - 1))) := by
    intro D L; kernel_rfl
  refine (show (den C k) cd3 (blkQ C 1 (sq (den C k) (lp C k) Js C cd1 (lq C 6 next Q))) (St3 x0 x1 x5 x6 x7) = denJ (den C k) (lp C k) Js C cd3 (blkQ C 1 (sq (den C k) (lp C k) Js C cd1 (lq C 6 next Q))) (St3 x0 x1 x5 x6 x7) from (denJ_den _ _ _ _ _ _).symm).trans ((h (den C k) (lp C k)).trans ?_)
  first | rfl | kernel_rfl
def j0 {α : Type} (Nx : (List Int) → (List Int) → Int → Option α) (Rt : Int → Option α) (x0 : List Int) (x1 : List Int) (x5 : Int) (x6 : Int) (x7 : Int) : Option α :=
  if (decide (x5 < (x1.length : Int))) = true then
    if 0 ≤ x5 ∧ x5 < (x1.length : Int) then
      j1 Nx Rt x0 x1 x5 x6 (List.getD x1 (Int.toNat x5) 0)
    else none
  else
    j1 Nx Rt x0 x1 x5 x6 x7
theorem j0_eq {α : Type} (k : Nat) (next : St → Option α) (Q : Ex → St → Option α) (x0 : List Int) (x1 : List Int) (x5 : Int) (x6 : Int) (x7 : Int) :
    (den C k) cd2 (blkQ C 1 (sq (den C k) (lp C k) Js C cd1 (lq C 6 next Q))) (St2 x0 x1 x5 x6 x7) = j0 (fun (x0 : List Int) (x1 : List Int) (x5 : Int) => next (St1 x0 x1 x5)) (fun (x4 : Int) => Q .ret (St4 x4)) x0 x1 x5 x6 x7 := by
  have h : ∀ (D L : DT α), denJ D L Js C cd2 (blkQ C 1 (sq D L Js C cd1 (lq C 6 next Q))) (St2 x0 x1 x5 x6 x7) =
        if (decide (x5 < (x1.length : Int))) = true then
          if 0 ≤ x5 ∧ x5 < (x1.length : Int) then
            D cd3 (blkQ C 1 (sq D L Js C cd1 (lq C 6 next Q))) (St3 x0 x1 x5 x6 (List.getD x1 (Int.toNat x5) 0))
          else none
        else
          D cd3 (blkQ C 1 (sq D L Js C cd1 (lq C 6 next Q))) (St3 x0 x1 x5 x6 x7) := by
    intro D L; kernel_rfl
  refine (show (den C k) cd2 (blkQ C 1 (sq (den C k) (lp C k) Js C cd1 (lq C 6 next Q))) (St2 x0 x1 x5 x6 x7) = denJ (den C k) (lp C k) Js C cd2 (blkQ C 1 (sq (den C k) (lp C k) Js C cd1 (lq C 6 next Q))) (St2 x0 x1 x5 x6 x7) from (denJ_den _ _ _ _ _ _).symm).trans ((h (den C k) (lp C k)).trans ?_)
  simp only [j1_eq]
  first | rfl | kernel_rfl
def St5 : St := stL 40 [] []
def l0s {α : Type} (Nx : (List Int) → (List Int) → Int → Option α) (Rt : Int → Option α) (Xt0 : Option α) (x0 : List Int) (x1 : List Int) (x5 : Int) : Option α :=
  if (decide (x5 ≥ 0)) = true then
    if (decide (x5 < (x0.length : Int))) = true then
      if 0 ≤ x5 ∧ x5 < (x0.length : Int) then
        j0 Nx Rt x0 x1 x5 (List.getD x0 (Int.toNat x5) 0) 0
      else none
    else
      j0 Nx Rt x0 x1 x5 0 0
  else
    Xt0
theorem l0s_eq {α : Type} (k : Nat) (next : St → Option α) (Q : Ex → St → Option α) (x0 : List Int) (x1 : List Int) (x5 : Int) :
    rnd C k cd0 6 Q next (St1 x0 x1 x5) = l0s (fun (x0 : List Int) (x1 : List Int) (x5 : Int) => next (St1 x0 x1 x5)) (fun (x4 : Int) => Q .ret (St4 x4)) (Q (.exit 0) St5) x0 x1 x5 := by
  have h : ∀ (D L : DT α), denJ D L Js C cd0 (lq C 6 next Q) (St1 x0 x1 x5) =
        if (decide (x5 ≥ 0)) = true then
          if (decide (x5 < (x0.length : Int))) = true then
            if 0 ≤ x5 ∧ x5 < (x0.length : Int) then
              D cd2 (blkQ C 1 (sq D L Js C cd1 (lq C 6 next Q))) (St2 x0 x1 x5 (List.getD x0 (Int.toNat x5) 0) 0)
            else none
          else
            D cd2 (blkQ C 1 (sq D L Js C cd1 (lq C 6 next Q))) (St2 x0 x1 x5 0 0)
        else
          Q (.exit 0) St5 := by
    intro D L; kernel_rfl
  refine (show rnd C k cd0 6 Q next (St1 x0 x1 x5) = denJ (den C k) (lp C k) Js C cd0 (lq C 6 next Q) (St1 x0 x1 x5) from (denJ_den _ _ _ _ _ _).symm).trans ((h (den C k) (lp C k)).trans ?_)
  simp only [j0_eq]
  first | rfl | kernel_rfl
def l0 {α : Type} (k : Nat) (Rt : Int → Option α) (Xt0 : Option α) : Nat → (List Int) → (List Int) → Int → Option α
  | 0, _, _, _ => none
  | n + 1, x0, x1, x5 => l0s (l0 k Rt Xt0 n) Rt Xt0 x0 x1 x5
theorem l0_eq {α : Type} (k : Nat) (Q : Ex → St → Option α) : ∀ (n : Nat) (x0 : List Int) (x1 : List Int) (x5 : Int), iter (rnd C k cd0 6 Q) n (St1 x0 x1 x5) = l0 k (fun (x4 : Int) => Q .ret (St4 x4)) (Q (.exit 0) St5) n x0 x1 x5
  | 0, _, _, _ => rfl
  | n + 1, x0, x1, x5 => (iter_succ _ _ _).trans ((l0s_eq k (iter (rnd C k cd0 6 Q) n) Q x0 x1 x5).trans (congrArg (fun N => l0s N (fun (x4 : Int) => Q .ret (St4 x4)) (Q (.exit 0) St5) x0 x1 x5) (funext fun x0 => funext fun x1 => funext fun x5 => l0_eq k Q n x0 x1 x5)))
theorem l0_congr {α : Type} (k : Nat) (Rt : Int → Option α) (Xt0 : Option α) (Rtq : Int → Option α) (Xt0q : Option α) (hRt : ∀ (x4 : Int), Rt x4 = Rtq x4) (hXt0 : Xt0 = Xt0q) (n : Nat) (x0 : List Int) (x1 : List Int) (x5 : Int) : l0 k Rt Xt0 n x0 x1 x5 = l0 k Rtq Xt0q n x0 x1 x5 := by
  obtain rfl : Rt = Rtq := by funext x4; exact hRt x4
  obtain rfl : Xt0 = Xt0q := hXt0
  rfl
noncomputable def cd4 : Code := cR (cR (cB Try.f113))
def St6 : St := stL 40 [] []
def j2 {α : Type} (Rt : Int → Option α) : Option α :=
  Rt 0
theorem j2_eq {α : Type} (k : Nat) (Q : Ex → St → Option α) :
    (den C k) cd4 Q St6 = j2 (fun (x4 : Int) => Q .ret (St4 x4)) := by
  have h : ∀ (D L : DT α), denJ D L Js C cd4 Q St6 =
        Q .ret (St4 0) := by
    intro D L; kernel_rfl
  refine (show (den C k) cd4 Q St6 = denJ (den C k) (lp C k) Js C cd4 Q St6 from (denJ_den _ _ _ _ _ _).symm).trans ((h (den C k) (lp C k)).trans ?_)
  first | rfl | kernel_rfl
theorem a0 {α : Type} (k : Nat) (Q : Ex → St → Option α) (x0 : List Int) (x1 : List Int) (x5 : Int) :
    (lp C k) cd0 (blkQ C 0 (sq (den C k) (lp C k) Js C cd4 Q)) (St1 x0 x1 x5) = l0 k (fun (x4 : Int) => (fun (x4 : Int) => Q .ret (St4 x4)) x4) (j2 (fun (x4 : Int) => Q .ret (St4 x4))) k x0 x1 x5 :=
  (show (lp C k) cd0 (blkQ C 0 (sq (den C k) (lp C k) Js C cd4 Q)) (St1 x0 x1 x5) = iter (rnd C k cd0 6 (blkQ C 0 (sq (den C k) (lp C k) Js C cd4 Q))) k (St1 x0 x1 x5) by kernel_rfl).trans ((l0_eq k (blkQ C 0 (sq (den C k) (lp C k) Js C cd4 Q)) k x0 x1 x5).trans (l0_congr k _ _ _ _ (fun x4 => (show (blkQ C 0 (sq (den C k) (lp C k) Js C cd4 Q)) .ret (St4 x4) = Q .ret (St4 x4) by kernel_rfl)) ((show (blkQ C 0 (sq (den C k) (lp C k) Js C cd4 Q)) (.exit 0) St5 = (den C k) cd4 Q St6 by kernel_rfl).trans (by simp only [j2_eq])) k x0 x1 x5))
def top {α : Type} (k : Nat) (Rt : Int → Option α) (x0 : List Int) (x1 : List Int) : Option α :=
  l0 k (fun (x4 : Int) => Rt x4) (j2 Rt) k x0 x1 (IntKind.i64.wrap ((if (x1.length : Int) > (x0.length : Int) then (x1.length : Int) else (x0.length : Int)) - 1))
theorem top_eq {α : Type} (k : Nat) (Q : Ex → St → Option α) (x0 : List Int) (x1 : List Int) :
    (den C k) (cB Try.f113) Q (St0 x0 x1) = top k (fun (x4 : Int) => Q .ret (St4 x4)) x0 x1 := by
  have h : ∀ (D L : DT α), denJ D L Js C (cB Try.f113) Q (St0 x0 x1) =
        L cd0 (blkQ C 0 (sq D L Js C cd4 Q)) (St1 x0 x1 (IntKind.i64.wrap ((if (x1.length : Int) > (x0.length : Int) then (x1.length : Int) else (x0.length : Int)) - 1))) := by
    intro D L; kernel_rfl
  refine (show (den C k) (cB Try.f113) Q (St0 x0 x1) = denJ (den C k) (lp C k) Js C (cB Try.f113) Q (St0 x0 x1) from (denJ_den _ _ _ _ _ _).symm).trans ((h (den C k) (lp C k)).trans ?_)
  simp only [a0]
  first | rfl | kernel_rfl
def run (x0 : List Int) (x1 : List Int) : Option (Int) := top (α := Int) fuel (fun (x4 : Int) => some x4) x0 x1
def F : Fn := ⟨(.pair (.sl (.int .u64)) (.pair (.sl (.int .u64)) .unit)), (.int .i64), false, fun x => run x.1 x.2.1⟩
set_option maxRecDepth 100000 in
theorem con : Con Try.prog 113 F := by
  refine con_of_den (C := C) (ctx_ok (by kernel_rfl) (by kernel_rfl) (by kernel_rfl) (by kernel_rfl) trivial) (by kernel_rfl) Try.func113 (c := cB Try.f113) (by kernel_rfl) (by kernel_rfl) F fuel (fun x => by simp [F, spread, Try.ntmps113]) ?_
  intro x r h
  rw [← h]
  have h1 : start F Try.f113.ntmps x = (St0 x.1 x.2.1) := by kernel_rfl
  rw [h1]
  refine (top_eq fuel (fin C Try.f113.results.toList F.rs F.multi) x.1 x.2.1).trans ?_
  kernel_rfl
theorem named : Named Try.prog 113 := named_of Try.func113 (by kernel_rfl) (by kernel_rfl)
end Go.Bx.basculeref_compare
namespace Go.Bx.basculeref_big
open Go Go.Proofs Go.Bx
set_option maxRecDepth 100000
set_option linter.unusedVariables false
def Js : List Nat := [8]
def C : Ctx := ⟨[(3, (.int .i64)), (5, (.int .u8)), (9, .str), (24, (.int .u64)), (40, (.sl (.int .u8)))], [], [], fnL [], noSh, [], invL [], [(2, [4]), (1, [5]), (4, [0, 5, 6, 7]), (9, [0, 5, 6, 7]), (21, [5])], [], [], 0, 0⟩
def St0 (x0 : Int) (x1 : Int) : St := stL 19 [(0, .data (.int .u64) x0), (1, .data (.int .i64) x1)] []
def St1 (x0 : Int) (x5 : List Int) (x6 : Int) (x7 : Int) : St := stL 19 [(0, .data (.int .u64) x0), (5, .data .str x5), (6, .data (.int .i64) x6), (7, .data (.int .i64) x7)] []
noncomputable def cd0 : Code := cL (cL (cR (cL (cR (cR (cB Try.f85))))))
def St2 (x5 : List Int) : St := stL 19 [(5, .data .str x5)] []
def l0s {α : Type} (Nx : Int → (List Int) → Int → Int → Option α) (Xt0 : (List Int) → Option α) (x0 : Int) (x5 : List Int) (x6 : Int) (x7 : Int) : Option α :=
  if (decide (x7 < x6)) = true then
    if Nat.ble (1 + x5.length) 9223372036854775807 = true then
      Nx (shrI .u64 x0 8) ([(IntKind.u8.wrap x0)] ++ x5) x6 (IntKind.i64.wrap (x7 + 1))
    else none
  else
    Xt0 x5
theorem l0s_eq {α : Type} (k : Nat) (next : St → Option α) (Q : Ex → St → Option α) (x0 : Int) (x5 : List Int) (x6 : Int) (x7 : Int) :
    rnd C k cd0 9 Q next (St1 x0 x5 x6 x7) = l0s (fun (x0 : Int) (x5 : List Int) (x6 : Int) (x7 : Int) => next (St1 x0 x5 x6 x7)) (fun (x5 : List Int) => Q (.exit 0) (St2 x5)) x0 x5 x6 x7 := by
  have h : ∀ (D L : DT α), denJ D L Js C cd0 (lq C 9 next Q) (St1 x0 x5 x6 x7) =
        if (decide (x7 < x6)) = true then
          if Nat.ble (1 + x5.length) 9223372036854775807 = true then
            next (St1 (shrI .u64 x0 8) ([(IntKind.u8.wrap x0)] ++ x5) x6 (IntKind.i64.wrap (x7 + 1)))
          else none
        else
          Q (.exit 0) (St2 x5) := by
    intro D L; kernel_rfl
  refine (show rnd C k cd0 9 Q next (St1 x0 x5 x6 x7) = denJ (den C k) (lp C k) Js C cd0 (lq C 9 next Q) (St1 x0 x5 x6 x7) from (denJ_den _ _ _ _ _ _).symm).trans ((h (den C k) (lp C k)).trans ?_)
  first | rfl | kernel_rfl
def l0 {α : Type} (k : Nat) (Xt0 : (List Int) → Option α) : Nat → Int → (List Int) → Int → Int → Option α
  | 0, _, _, _, _ => none
  | n + 1, x0, x5, x6, x7 => l0s (l0 k Xt0 n) Xt0 x0 x5 x6 x7
theorem l0_eq {α : Type} (k : Nat) (Q : Ex → St → Option α) : ∀ (n : Nat) (x0 : Int) (x5 : List Int) (x6 : Int) (x7 : Int), iter (rnd C k cd0 9 Q) n (St1 x0 x5 x6 x7) = l0 k (fun (x5 : List Int) => Q (.exit 0) (St2 x5)) n x0 x5 x6 x7
  | 0, _, _, _, _ => rfl
  | n + 1, x0, x5, x6, x7 => (iter_succ _ _ _).trans ((l0s_eq k (iter (rnd C k cd0 9 Q) n) Q x0 x5 x6 x7).trans (congrArg (fun N => l0s N (fun (x5 : List Int) => Q (.exit 0) (St2 x5)) x0 x5 x6 x7) (funext fun x0 => funext fun x5 => funext fun x6 => funext fun x7 => l0_eq k Q n x0 x5 x6 x7)))
theorem l0_congr {α : Type} (k : Nat) (Xt0 : (List Int) → Option α) (Xt0q : (List Int) → Option α) (hXt0 : ∀ (x5 : List Int), Xt0 x5 = Xt0q x5) (n : Nat) (x0 : Int) (x5 : List Int) (x6 : Int) (x7 : Int) : l0 k Xt0 n x0 x5 x6 x7 = l0 k Xt0q n x0 x5 x6 x7 := by
  obtain rfl : Xt0 = Xt0q := by funext x5; exact hXt0 x5
  rfl
noncomputable def cd1 : Code := cR (cR (cR (cB Try.f85)))
def St3 (x5 : List Int) : St := stL 19 [(5, .data .str x5)] []
def St4 (x4 : List Int) : St := stL 19 [(4, .data .str x4)] []
def j0 {α : Type} (Rt : (List Int) → Option α) (x5 : List Int) : Option α :=
  Rt x5
theorem j0_eq {α : Type} (k : Nat) (Q : Ex → St → Option α) (x5 : List Int) :
    (den C k) cd1 Q (St3 x5) = j0 (fun (x4 : List Int) => Q .ret (St4 x4)) x5 := by
  have h : ∀ (D L : DT α), denJ D L Js C cd1 Q (St3 x5) =
        Q .ret (St4 x5) := by
    intro D L; kernel_rfl
  refine (show (den C k) cd1 Q (St3 x5) = denJ (den C k) (lp C k) Js C cd1 Q (St3 x5) from (denJ_den _ _ _ _ _ _).symm).trans ((h (den C k) (lp C k)).trans ?_)
  first | rfl | kernel_rfl
theorem a0 {α : Type} (k : Nat) (Q : Ex → St → Option α) (x0 : Int) (x5 : List Int) (x6 : Int) (x7 : Int) :
    (lp C k) cd0 (blkQ C 0 (sq (den C k) (lp C k) Js C cd1 Q)) (St1 x0 x5 x6 x7) = l0 k (fun (x5 : List Int) => j0 (fun (x4 : List Int) => Q .ret (St4 x4)) x5) k x0 x5 x6 x7 :=
  (show (lp C k) cd0 (blkQ C 0 (sq (den C k) (lp C k) Js C cd1 Q)) (St1 x0 x5 x6 x7) = iter (rnd C k cd0 9 (blkQ C 0 (sq (den C k) (lp C k) Js C cd1 Q))) k (St1 x0 x5 x6 x7) by kernel_rfl).trans ((l0_eq k (blkQ C 0 (sq (den C k) (lp C k) Js C cd1 Q)) k x0 x5 x6 x7).trans (l0_congr k _ _ (fun x5 => ((show (blkQ C 0 (sq (den C k) (lp C k) Js C cd1 Q)) (.exit 0) (St2 x5) = (den C k) cd1 Q (St3 x5) by kernel_rfl).trans (by simp only [j0_eq]))) k x0 x5 x6 x7))
def top {α : Type} (k : Nat) (Rt : (List Int) → Option α) (x0 : Int) (x1 : Int) : Option α :=
  l0 k (fun (x5 : List Int) => j0 Rt x5) k x0 [] x1 0
theorem top_eq {α : Type} (k : Nat) (Q : Ex → St → Option α) (x0 : Int) (x1 : Int) :
    (den C k) (cB Try.f85) Q (St0 x0 x1) = top k (fun (x4 : List Int) => Q .ret (St4 x4)) x0 x1 := by
  have h : ∀ (D L : DT α), denJ D L Js C (cB Try.f85) Q (St0 x0 x1) =
        L cd0 (blkQ C 0 (sq D L Js C cd1 Q)) (St1 x0 [] x1 0) := by
    intro D L; kernel_rfl
  refine (show (den C k) (cB Try.f85) Q (St0 x0 x1) = denJ (den C k) (lp C k) Js C (cB Try.f85) Q (St0 x0 x1) from (denJ_den _ _ _ _ _ _).symm).trans ((h (den C k) (lp C k)).trans ?_)
  simp only [a0]
  first | rfl | kernel_rfl
def run (x0 : Int) (x1 : Int) : Option (List Int) := top (α := List Int) fuel (fun (x4 : List Int) => some x4) x0 x1
def F : Fn := ⟨(.pair (.int .u64) (.pair (.int .i64) .unit)), .str, false, fun x => run x.1 x.2.1⟩
set_option maxRecDepth 100000 in
theorem con : Con Try.prog 85 F := by
  refine con_of_den (C := C) (ctx_ok (by kernel_rfl) (by kernel_rfl) (by kernel_rfl) (by kernel_rfl) trivial) (by kernel_rfl) Try.func85 (c := cB Try.f85) (by kernel_rfl) (by kernel_rfl) F fuel (fun x => by simp [F, spread, Try.ntmps85]) ?_
  intro x r h
  rw [← h]
  have h1 : start F Try.f85.ntmps x = (St0 x.1 x.2.1) := by kernel_rfl
  rw [h1]
  refine (top_eq fuel (fin C Try.f85.results.toList F.rs F.multi) x.1 x.2.1).trans ?_
  kernel_rfl
theorem named : Named Try.prog 85 := named_of Try.func85 (by kernel_rfl) (by kernel_rfl)
end Go.Bx.basculeref_big
namespace Go.Bx.basculeref_word
open Go Go.Proofs Go.Bx
set_option maxRecDepth 100000
set_option linter.unusedVariables false
def Js : List Nat := [7]
def C : Ctx := ⟨[(5, (.int .u8)), (9, .str), (39, (.arr 32 (.int .u8)))], [], [], fnL [], noSh, [], invL [], [(2, [2]), (1, [2, 3]), (4, [0, 2, 3, 4]), (9, [0, 2, 3, 4]), (18, [2, 3])], [], [], 0, 0⟩
def St0 (x0 : List Int) : St := stL 21 [(0, .data .str x0)] []
def St1 (x0 : List Int) (x4 : Int) (c2 : List Int) (c3 : List Int) : St := stL 21 [(0, .data .str x0), (2, .ref 2 0 []), (3, .ref 3 0 []), (4, .data (.int .i64) x4)] [(2, .cell (.arr 32 (.int .u8)) (.data (.arr 32 (.int .u8)) c2) false), (3, .cell (.arr 32 (.int .u8)) (.data (.arr 32 (.int .u8)) c3) false)]
noncomputable def cd0 : Code := cL (cL (cR (cL (cR (cR (cB Try.f141))))))
def St2 (c2 : List Int) (c3 : List Int) : St := stL 21 [(2, .ref 2 0 []), (3, .ref 3 0 [])] [(2, .cell (.arr 32 (.int .u8)) (.data (.arr 32 (.int .u8)) c2) false), (3, .cell (.arr 32 (.int .u8)) (.data (.arr 32 (.int .u8)) c3) false)]
def l0s {α : Type} (Nx : (List Int) → Int → (List Int) → (List Int) → Option α) (Xt0 : (List Int) → (List Int) → Option α) (x0 : List Int) (x4 : Int) (c2 : List Int) (c3 : List Int) : Option α :=
  if (cond (decide (x4 < (x0.length : Int))) (decide (x4 < 32)) false) = true then
    if 0 ≤ x4 ∧ x4 < (x0.length : Int) then
      if 0 ≤ x4 ∧ x4 < (32 : Int) then
        Nx x0 (IntKind.i64.wrap (x4 + 1)) c2 (List.set c3 (Int.toNat x4) (List.getD x0 (Int.toNat x4) 0))
      else none
    else none
  else
    Xt0 c2 c3
theorem l0s_eq {α : Type} (k : Nat) (next : St → Option α) (Q : Ex → St → Option α) (x0 : List Int) (x4 : Int) (c2 : List Int) (c3 : List Int) :
    rnd C k cd0 9 Q next (St1 x0 x4 c2 c3) = l0s (fun (x0 : List Int) (x4 : Int) (c2 : List Int) (c3 : List Int) => next (St1 x0 x4 c2 c3)) (fun (c2 : List Int) (c3 : List Int) => Q (.exit 0) (St2 c2 c3)) x0 x4 c2 c3 := by
  have h : ∀ (D L : DT α), denJ D L Js C cd0 (lq C 9 next Q) (St1 x0 x4 c2 c3) =
        if (cond (decide (x4 < (x0.length : Int))) (decide (x4 < 32)) false) = true then
          if 0 ≤ x4 ∧ x4 < (x0.length : Int) then
            if 0 ≤ x4 ∧ x4 < (32 : Int) then
              next (St1 x0 (IntKind.i64.wrap (x4 + 1)) c2 (List.set c3 (Int.toNat x4) (List.getD x0 (Int.toNat x4) 0)))
            else none
          else none
        else
          Q (.exit 0) (St2 c2 c3) := by
    intro D L; kernel_rfl
  refine (show rnd C k cd0 9 Q next (St1 x0 x4 c2 c3) = denJ (den C k) (lp C k) Js C cd0 (lq C 9 next Q) (St1 x0 x4 c2 c3) from (denJ_den _ _ _ _ _ _).symm).trans ((h (den C k) (lp C k)).trans ?_)
  first | rfl | kernel_rfl
def l0 {α : Type} (k : Nat) (Xt0 : (List Int) → (List Int) → Option α) : Nat → (List Int) → Int → (List Int) → (List Int) → Option α
  | 0, _, _, _, _ => none
  | n + 1, x0, x4, c2, c3 => l0s (l0 k Xt0 n) Xt0 x0 x4 c2 c3
theorem l0_eq {α : Type} (k : Nat) (Q : Ex → St → Option α) : ∀ (n : Nat) (x0 : List Int) (x4 : Int) (c2 : List Int) (c3 : List Int), iter (rnd C k cd0 9 Q) n (St1 x0 x4 c2 c3) = l0 k (fun (c2 : List Int) (c3 : List Int) => Q (.exit 0) (St2 c2 c3)) n x0 x4 c2 c3
  | 0, _, _, _, _ => rfl
  | n + 1, x0, x4, c2, c3 => (iter_succ _ _ _).trans ((l0s_eq k (iter (rnd C k cd0 9 Q) n) Q x0 x4 c2 c3).trans (congrArg (fun N => l0s N (fun (c2 : List Int) (c3 : List Int) => Q (.exit 0) (St2 c2 c3)) x0 x4 c2 c3) (funext fun x0 => funext fun x4 => funext fun c2 => funext fun c3 => l0_eq k Q n x0 x4 c2 c3)))
theorem l0_congr {α : Type} (k : Nat) (Xt0 : (List Int) → (List Int) → Option α) (Xt0q : (List Int) → (List Int) → Option α) (hXt0 : ∀ (c2 : List Int) (c3 : List Int), Xt0 c2 c3 = Xt0q c2 c3) (n : Nat) (x0 : List Int) (x4 : Int) (c2 : List Int) (c3 : List Int) : l0 k Xt0 n x0 x4 c2 c3 = l0 k Xt0q n x0 x4 c2 c3 := by
  obtain rfl : Xt0 = Xt0q := by funext c2; funext c3; exact hXt0 c2 c3
  rfl
noncomputable def cd1 : Code := cR (cR (cR (cB Try.f141)))
def St3 (c2 : List Int) (c3 : List Int) : St := stL 21 [(2, .ref 2 0 []), (3, .ref 3 0 [])] [(2, .cell (.arr 32 (.int .u8)) (.data (.arr 32 (.int .u8)) c2) false), (3, .cell (.arr 32 (.int .u8)) (.data (.arr 32 (.int .u8)) c3) false)]
def St4 (c2 : List Int) : St := stL 21 [(2, .ref 2 0 [])] [(2, .cell (.arr 32 (.int .u8)) (.data (.arr 32 (.int .u8)) c2) false)]
def j0 {α : Type} (Rt : (List Int) → Option α) (c2 : List Int) (c3 : List Int) : Option α :=
  Rt c3
theorem j0_eq {α : Type} (k : Nat) (Q : Ex → St → Option α) (c2 : List Int) (c3 : List Int) :
    (den C k) cd1 Q (St3 c2 c3) = j0 (fun (c2 : List Int) => Q .ret (St4 c2)) c2 c3 := by
  have h : ∀ (D L : DT α), denJ D L Js C cd1 Q (St3 c2 c3) =
        Q .ret (St4 c3) := by
    intro D L; kernel_rfl
  refine (show (den C k) cd1 Q (St3 c2 c3) = denJ (den C k) (lp C k) Js C cd1 Q (St3 c2 c3) from (denJ_den _ _ _ _ _ _).symm).trans ((h (den C k) (lp C k)).trans ?_)
  first | rfl | kernel_rfl
theorem a0 {α : Type} (k : Nat) (Q : Ex → St → Option α) (x0 : List Int) (x4 : Int) (c2 : List Int) (c3 : List Int) :
    (lp C k) cd0 (blkQ C 0 (sq (den C k) (lp C k) Js C cd1 Q)) (St1 x0 x4 c2 c3) = l0 k (fun (c2 : List Int) (c3 : List Int) => j0 (fun (c2 : List Int) => Q .ret (St4 c2)) c2 c3) k x0 x4 c2 c3 :=
  (show (lp C k) cd0 (blkQ C 0 (sq (den C k) (lp C k) Js C cd1 Q)) (St1 x0 x4 c2 c3) = iter (rnd C k cd0 9 (blkQ C 0 (sq (den C k) (lp C k) Js C cd1 Q))) k (St1 x0 x4 c2 c3) by kernel_rfl).trans ((l0_eq k (blkQ C 0 (sq (den C k) (lp C k) Js C cd1 Q)) k x0 x4 c2 c3).trans (l0_congr k _ _ (fun c2 c3 => ((show (blkQ C 0 (sq (den C k) (lp C k) Js C cd1 Q)) (.exit 0) (St2 c2 c3) = (den C k) cd1 Q (St3 c2 c3) by kernel_rfl).trans (by simp only [j0_eq]))) k x0 x4 c2 c3))
def top {α : Type} (k : Nat) (Rt : (List Int) → Option α) (x0 : List Int) : Option α :=
  l0 k (fun (c2 : List Int) (c3 : List Int) => j0 Rt c2 c3) k x0 0 (List.replicate 32 0) (List.replicate 32 0)
theorem top_eq {α : Type} (k : Nat) (Q : Ex → St → Option α) (x0 : List Int) :
    (den C k) (cB Try.f141) Q (St0 x0) = top k (fun (c2 : List Int) => Q .ret (St4 c2)) x0 := by
  have h : ∀ (D L : DT α), denJ D L Js C (cB Try.f141) Q (St0 x0) =
        L cd0 (blkQ C 0 (sq D L Js C cd1 Q)) (St1 x0 0 (List.replicate 32 0) (List.replicate 32 0)) := by
    intro D L; kernel_rfl
  refine (show (den C k) (cB Try.f141) Q (St0 x0) = denJ (den C k) (lp C k) Js C (cB Try.f141) Q (St0 x0) from (denJ_den _ _ _ _ _ _).symm).trans ((h (den C k) (lp C k)).trans ?_)
  simp only [a0]
  first | rfl | kernel_rfl
def run (x0 : List Int) : Option (List Int) := top (α := List Int) fuel (fun (c2 : List Int) => some c2) x0
def F : Fn := ⟨(.pair .str .unit), (.arr 32 (.int .u8)), false, fun x => run x.1⟩
set_option maxRecDepth 100000 in
theorem con : Con Try.prog 141 F := by
  refine con_of_den (C := C) (ctx_ok (by kernel_rfl) (by kernel_rfl) (by kernel_rfl) (by kernel_rfl) trivial) (by kernel_rfl) Try.func141 (c := cB Try.f141) (by kernel_rfl) (by kernel_rfl) F fuel (fun x => by simp [F, spread, Try.ntmps141]) ?_
  intro x r h
  rw [← h]
  have h1 : start F Try.f141.ntmps x = (St0 x.1) := by kernel_rfl
  rw [h1]
  refine (top_eq fuel (fin C Try.f141.results.toList F.rs F.multi) x.1).trans ?_
  kernel_rfl
theorem named : Named Try.prog 141 := named_of Try.func141 (by kernel_rfl) (by kernel_rfl)
end Go.Bx.basculeref_word
namespace Go.Bx.basculeref_number
open Go Go.Proofs Go.Bx
set_option maxRecDepth 100000
set_option linter.unusedVariables false
def Js : List Nat := [7]
def C : Ctx := ⟨[(3, (.int .i64)), (5, (.int .u8)), (9, .str), (24, (.int .u64))], [], [], fnL [], noSh, [], invL [], [(2, [2]), (1, [3]), (4, [0, 3, 4]), (9, [0, 3, 4]), (18, [3])], [], [], 0, 0⟩
def St0 (x0 : List Int) : St := stL 20 [(0, .data .str x0)] []
def St1 (x0 : List Int) (x3 : Int) (x4 : Int) : St := stL 20 [(0, .data .str x0), (3, .data (.int .u64) x3), (4, .data (.int .i64) x4)] []
noncomputable def cd0 : Code := cL (cL (cR (cL (cR (cR (cB Try.f149))))))
def St2 (x3 : Int) : St := stL 20 [(3, .data (.int .u64) x3)] []
def l0s {α : Type} (Nx : (List Int) → Int → Int → Option α) (Xt0 : Int → Option α) (x0 : List Int) (x3 : Int) (x4 : Int) : Option α :=
  if (decide (x4 < (x0.length : Int))) = true then
    if 0 ≤ x4 ∧ x4 < (x0.length : Int) then
      Nx x0 (IntKind.u64.wrap ((IntKind.u64.wrap (x3 * 256)) + (IntKind.u64.wrap (List.getD x0 (Int.toNat x4) 0)))) (IntKind.i64.wrap (x4 + 1))
    else none
  else
    Xt0 x3
theorem l0s_eq {α : Type} (k : Nat) (next : St → Option α) (Q : Ex → St → Option α) (x0 : List Int) (x3 : Int) (x4 : Int) :
    rnd C k cd0 9 Q next (St1 x0 x3 x4) = l0s (fun (x0 : List Int) (x3 : Int) (x4 : Int) => next (St1 x0 x3 x4)) (fun (x3 : Int) => Q (.exit 0) (St2 x3)) x0 x3 x4 := by
  have h : ∀ (D L : DT α), denJ D L Js C cd0 (lq C 9 next Q) (St1 x0 x3 x4) =
        if (decide (x4 < (x0.length : Int))) = true then
          if 0 ≤ x4 ∧ x4 < (x0.length : Int) then
            next (St1 x0 (IntKind.u64.wrap ((IntKind.u64.wrap (x3 * 256)) + (IntKind.u64.wrap (List.getD x0 (Int.toNat x4) 0)))) (IntKind.i64.wrap (x4 + 1)))
          else none
        else
          Q (.exit 0) (St2 x3) := by
    intro D L; kernel_rfl
  refine (show rnd C k cd0 9 Q next (St1 x0 x3 x4) = denJ (den C k) (lp C k) Js C cd0 (lq C 9 next Q) (St1 x0 x3 x4) from (denJ_den _ _ _ _ _ _).symm).trans ((h (den C k) (lp C k)).trans ?_)
  first | rfl | kernel_rfl
def l0 {α : Type} (k : Nat) (Xt0 : Int → Option α) : Nat → (List Int) → Int → Int → Option α
  | 0, _, _, _ => none
  | n + 1, x0, x3, x4 => l0s (l0 k Xt0 n) Xt0 x0 x3 x4
theorem l0_eq {α : Type} (k : Nat) (Q : Ex → St → Option α) : ∀ (n : Nat) (x0 : List Int) (x3 : Int) (x4 : Int), iter (rnd C k cd0 9 Q) n (St1 x0 x3 x4) = l0 k (fun (x3 : Int) => Q (.exit 0) (St2 x3)) n x0 x3 x4
  | 0, _, _, _ => rfl
  | n + 1, x0, x3, x4 => (iter_succ _ _ _).trans ((l0s_eq k (iter (rnd C k cd0 9 Q) n) Q x0 x3 x4).trans (congrArg (fun N => l0s N (fun (x3 : Int) => Q (.exit 0) (St2 x3)) x0 x3 x4) (funext fun x0 => funext fun x3 => funext fun x4 => l0_eq k Q n x0 x3 x4)))
theorem l0_congr {α : Type} (k : Nat) (Xt0 : Int → Option α) (Xt0q : Int → Option α) (hXt0 : ∀ (x3 : Int), Xt0 x3 = Xt0q x3) (n : Nat) (x0 : List Int) (x3 : Int) (x4 : Int) : l0 k Xt0 n x0 x3 x4 = l0 k Xt0q n x0 x3 x4 := by
  obtain rfl : Xt0 = Xt0q := by funext x3; exact hXt0 x3
  rfl
noncomputable def cd1 : Code := cR (cR (cR (cB Try.f149)))
def St3 (x3 : Int) : St := stL 20 [(3, .data (.int .u64) x3)] []
def St4 (x2 : Int) : St := stL 20 [(2, .data (.int .i64) x2)] []
def j0 {α : Type} (Rt : Int → Option α) (x3 : Int) : Option α :=
  Rt (IntKind.i64.wrap x3)
theorem j0_eq {α : Type} (k : Nat) (Q : Ex → St → Option α) (x3 : Int) :
    (den C k) cd1 Q (St3 x3) = j0 (fun (x2 : Int) => Q .ret (St4 x2)) x3 := by
  have h : ∀ (D L : DT α), denJ D L Js C cd1 Q (St3 x3) =
        Q .ret (St4 (IntKind.i64.wrap x3)) := by
    intro D L; kernel_rfl
  refine (show (den C k) cd1 Q (St3 x3) = denJ (den C k) (lp C k) Js C cd1 Q (St3 x3) from (denJ_den _ _ _ _ _ _).symm).trans ((h (den C k) (lp C k)).trans ?_)
  first | rfl | kernel_rfl
theorem a0 {α : Type} (k : Nat) (Q : Ex → St → Option α) (x0 : List Int) (x3 : Int) (x4 : Int) :
    (lp C k) cd0 (blkQ C 0 (sq (den C k) (lp C k) Js C cd1 Q)) (St1 x0 x3 x4) = l0 k (fun (x3 : Int) => j0 (fun (x2 : Int) => Q .ret (St4 x2)) x3) k x0 x3 x4 :=
  (show (lp C k) cd0 (blkQ C 0 (sq (den C k) (lp C k) Js C cd1 Q)) (St1 x0 x3 x4) = iter (rnd C k cd0 9 (blkQ C 0 (sq (den C k) (lp C k) Js C cd1 Q))) k (St1 x0 x3 x4) by kernel_rfl).trans ((l0_eq k (blkQ C 0 (sq (den C k) (lp C k) Js C cd1 Q)) k x0 x3 x4).trans (l0_congr k _ _ (fun x3 => ((show (blkQ C 0 (sq (den C k) (lp C k) Js C cd1 Q)) (.exit 0) (St2 x3) = (den C k) cd1 Q (St3 x3) by kernel_rfl).trans (by simp only [j0_eq]))) k x0 x3 x4))
def top {α : Type} (k : Nat) (Rt : Int → Option α) (x0 : List Int) : Option α :=
  l0 k (fun (x3 : Int) => j0 Rt x3) k x0 0 0
theorem top_eq {α : Type} (k : Nat) (Q : Ex → St → Option α) (x0 : List Int) :
    (den C k) (cB Try.f149) Q (St0 x0) = top k (fun (x2 : Int) => Q .ret (St4 x2)) x0 := by
  have h : ∀ (D L : DT α), denJ D L Js C (cB Try.f149) Q (St0 x0) =
        L cd0 (blkQ C 0 (sq D L Js C cd1 Q)) (St1 x0 0 0) := by
    intro D L; kernel_rfl
  refine (show (den C k) (cB Try.f149) Q (St0 x0) = denJ (den C k) (lp C k) Js C (cB Try.f149) Q (St0 x0) from (denJ_den _ _ _ _ _ _).symm).trans ((h (den C k) (lp C k)).trans ?_)
  simp only [a0]
  first | rfl | kernel_rfl
def run (x0 : List Int) : Option (Int) := top (α := Int) fuel (fun (x2 : Int) => some x2) x0
def F : Fn := ⟨(.pair .str .unit), (.int .i64), false, fun x => run x.1⟩
set_option maxRecDepth 100000 in
theorem con : Con Try.prog 149 F := by
  refine con_of_den (C := C) (ctx_ok (by kernel_rfl) (by kernel_rfl) (by kernel_rfl) (by kernel_rfl) trivial) (by kernel_rfl) Try.func149 (c := cB Try.f149) (by kernel_rfl) (by kernel_rfl) F fuel (fun x => by simp [F, spread, Try.ntmps149]) ?_
  intro x r h
  rw [← h]
  have h1 : start F Try.f149.ntmps x = (St0 x.1) := by kernel_rfl
  rw [h1]
  refine (top_eq fuel (fin C Try.f149.results.toList F.rs F.multi) x.1).trans ?_
  kernel_rfl
theorem named : Named Try.prog 149 := named_of Try.func149 (by kernel_rfl) (by kernel_rfl)
end Go.Bx.basculeref_number
namespace Go.Bx.wide_From
open Go Go.Proofs Go.Bx
set_option maxRecDepth 100000
set_option linter.unusedVariables false
def Js : List Nat := [9]
def C : Ctx := ⟨[(5, (.int .u8)), (24, (.int .u64)), (39, (.arr 32 (.int .u8))), (45, (.arr 4 (.int .u64)))], [], [], fnL [], noSh, [], invL [], [(2, [2]), (1, [2, 3]), (4, [2, 3, 7, 8]), (9, [2, 3, 7, 8]), (24, [2, 3])], [], [], 0, 0⟩
def St0 (x0 : List Int) : St := stL 28 [(0, .data (.arr 32 (.int .u8)) x0)] []
def St1 (x7 : List Int) (x8 : Int) (c2 : List Int) (c3 : List Int) : St := stL 28 [(2, .ref 2 0 []), (3, .ref 3 0 []), (7, .data (.arr 32 (.int .u8)) x7), (8, .data (.int .i64) x8)] [(2, .cell (.arr 4 (.int .u64)) (.data (.arr 4 (.int .u64)) c2) false), (3, .cell (.arr 4 (.int .u64)) (.data (.arr 4 (.int .u64)) c3) false)]
noncomputable def cd0 : Code := cL (cL (cR (cL (cR (cR (cB Try.f205))))))
def St2 (c2 : List Int) (c3 : List Int) : St := stL 28 [(2, .ref 2 0 []), (3, .ref 3 0 [])] [(2, .cell (.arr 4 (.int .u64)) (.data (.arr 4 (.int .u64)) c2) false), (3, .cell (.arr 4 (.int .u64)) (.data (.arr 4 (.int .u64)) c3) false)]
def l0s {α : Type} (Nx : (List Int) → Int → (List Int) → (List Int) → Option α) (Xt0 : (List Int) → (List Int) → Option α) (x7 : List Int) (x8 : Int) (c2 : List Int) (c3 : List Int) : Option α :=
  if (decide (x8 < 32)) = true then
    if 0 ≤ x8 ∧ x8 < (32 : Int) then
      if 0 ≤ (IntKind.i64.wrap (Int.tdiv (IntKind.i64.wrap (31 - x8)) 8)) ∧ (IntKind.i64.wrap (Int.tdiv (IntKind.i64.wrap (31 - x8)) 8)) < (4 : Int) then
        if 0 ≤ (IntKind.i64.wrap (8 * (Int.tmod (IntKind.i64.wrap (31 - x8)) 8))) then
          if 0 ≤ (IntKind.i64.wrap (Int.tdiv (IntKind.i64.wrap (31 - x8)) 8)) ∧ (IntKind.i64.wrap (Int.tdiv (IntKind.i64.wrap (31 - x8)) 8)) < (4 : Int) then
            Nx x7 (IntKind.i64.wrap (x8 + 1)) c2 (List.set c3 (Int.toNat (IntKind.i64.wrap (Int.tdiv (IntKind.i64.wrap (31 - x8)) 8))) (bor .u64 (List.getD c3 (Int.toNat (IntKind.i64.wrap (Int.tdiv (IntKind.i64.wrap (31 - x8)) 8))) 0) (shlI .u64 (IntKind.u64.wrap (List.getD x7 (Int.toNat x8) 0)) (IntKind.i64.wrap (8 * (Int.tmod (IntKind.i64.wrap (31 - x8)) 8))))))
          else none
        else none
      else none
    else none
  else
    Xt0 c2 c3
theorem l0s_eq {α : Type} (k : Nat) (next : St → Option α) (Q : Ex → St → Option α) (x7 : List Int) (x8 : Int) (c2 : List Int) (c3 : List Int) :
    rnd C k cd0 9 Q next (St1 x7 x8 c2 c3) = l0s (fun (x7 : List Int) (x8 : Int) (c2 : List Int) (c3 : List Int) => next (St1 x7 x8 c2 c3)) (fun (c2 : List Int) (c3 : List Int) => Q (.exit 0) (St2 c2 c3)) x7 x8 c2 c3 := by
  have h : ∀ (D L : DT α), denJ D L Js C cd0 (lq C 9 next Q) (St1 x7 x8 c2 c3) =
        if (decide (x8 < 32)) = true then
          if 0 ≤ x8 ∧ x8 < (32 : Int) then
            if 0 ≤ (IntKind.i64.wrap (Int.tdiv (IntKind.i64.wrap (31 - x8)) 8)) ∧ (IntKind.i64.wrap (Int.tdiv (IntKind.i64.wrap (31 - x8)) 8)) < (4 : Int) then
              if 0 ≤ (IntKind.i64.wrap (8 * (Int.tmod (IntKind.i64.wrap (31 - x8)) 8))) then
                if 0 ≤ (IntKind.i64.wrap (Int.tdiv (IntKind.i64.wrap (31 - x8)) 8)) ∧ (IntKind.i64.wrap (Int.tdiv (IntKind.i64.wrap (31 - x8)) 8)) < (4 : Int) then
                  next (St1 x7 (IntKind.i64.wrap (x8 + 1)) c2 (List.set c3 (Int.toNat (IntKind.i64.wrap (Int.tdiv (IntKind.i64.wrap (31 - x8)) 8))) (bor .u64 (List.getD c3 (Int.toNat (IntKind.i64.wrap (Int.tdiv (IntKind.i64.wrap (31 - x8)) 8))) 0) (shlI .u64 (IntKind.u64.wrap (List.getD x7 (Int.toNat x8) 0)) (IntKind.i64.wrap (8 * (Int.tmod (IntKind.i64.wrap (31 - x8)) 8)))))))
                else none
              else none
            else none
          else none
        else
          Q (.exit 0) (St2 c2 c3) := by
    intro D L; kernel_rfl
  refine (show rnd C k cd0 9 Q next (St1 x7 x8 c2 c3) = denJ (den C k) (lp C k) Js C cd0 (lq C 9 next Q) (St1 x7 x8 c2 c3) from (denJ_den _ _ _ _ _ _).symm).trans ((h (den C k) (lp C k)).trans ?_)
  first | rfl | kernel_rfl
def l0 {α : Type} (k : Nat) (Xt0 : (List Int) → (List Int) → Option α) : Nat → (List Int) → Int → (List Int) → (List Int) → Option α
  | 0, _, _, _, _ => none
  | n + 1, x7, x8, c2, c3 => l0s (l0 k Xt0 n) Xt0 x7 x8 c2 c3
theorem l0_eq {α : Type} (k : Nat) (Q : Ex → St → Option α) : ∀ (n : Nat) (x7 : List Int) (x8 : Int) (c2 : List Int) (c3 : List Int), iter (rnd C k cd0 9 Q) n (St1 x7 x8 c2 c3) = l0 k (fun (c2 : List Int) (c3 : List Int) => Q (.exit 0) (St2 c2 c3)) n x7 x8 c2 c3
  | 0, _, _, _, _ => rfl
  | n + 1, x7, x8, c2, c3 => (iter_succ _ _ _).trans ((l0s_eq k (iter (rnd C k cd0 9 Q) n) Q x7 x8 c2 c3).trans (congrArg (fun N => l0s N (fun (c2 : List Int) (c3 : List Int) => Q (.exit 0) (St2 c2 c3)) x7 x8 c2 c3) (funext fun x7 => funext fun x8 => funext fun c2 => funext fun c3 => l0_eq k Q n x7 x8 c2 c3)))
theorem l0_congr {α : Type} (k : Nat) (Xt0 : (List Int) → (List Int) → Option α) (Xt0q : (List Int) → (List Int) → Option α) (hXt0 : ∀ (c2 : List Int) (c3 : List Int), Xt0 c2 c3 = Xt0q c2 c3) (n : Nat) (x7 : List Int) (x8 : Int) (c2 : List Int) (c3 : List Int) : l0 k Xt0 n x7 x8 c2 c3 = l0 k Xt0q n x7 x8 c2 c3 := by
  obtain rfl : Xt0 = Xt0q := by funext c2; funext c3; exact hXt0 c2 c3
  rfl
noncomputable def cd1 : Code := cR (cR (cR (cB Try.f205)))
def St3 (c2 : List Int) (c3 : List Int) : St := stL 28 [(2, .ref 2 0 []), (3, .ref 3 0 [])] [(2, .cell (.arr 4 (.int .u64)) (.data (.arr 4 (.int .u64)) c2) false), (3, .cell (.arr 4 (.int .u64)) (.data (.arr 4 (.int .u64)) c3) false)]
def St4 (c2 : List Int) : St := stL 28 [(2, .ref 2 0 [])] [(2, .cell (.arr 4 (.int .u64)) (.data (.arr 4 (.int .u64)) c2) false)]
def j0 {α : Type} (Rt : (List Int) → Option α) (c2 : List Int) (c3 : List Int) : Option α :=
  Rt c3
theorem j0_eq {α : Type} (k : Nat) (Q : Ex → St → Option α) (c2 : List Int) (c3 : List Int) :
    (den C k) cd1 Q (St3 c2 c3) = j0 (fun (c2 : List Int) => Q .ret (St4 c2)) c2 c3 := by
  have h : ∀ (D L : DT α), denJ D L Js C cd1 Q (St3 c2 c3) =
        Q .ret (St4 c3) := by
    intro D L; kernel_rfl
  refine (show (den C k) cd1 Q (St3 c2 c3) = denJ (den C k) (lp C k) Js C cd1 Q (St3 c2 c3) from (denJ_den _ _ _ _ _ _).symm).trans ((h (den C k) (lp C k)).trans ?_)
  first | rfl | kernel_rfl
theorem a0 {α : Type} (k : Nat) (Q : Ex → St → Option α) (x7 : List Int) (x8 : Int) (c2 : List Int) (c3 : List Int) :
    (lp C k) cd0 (blkQ C 0 (sq (den C k) (lp C k) Js C cd1 Q)) (St1 x7 x8 c2 c3) = l0 k (fun (c2 : List Int) (c3 : List Int) => j0 (fun (c2 : List Int) => Q .ret (St4 c2)) c2 c3) k x7 x8 c2 c3 :=
  (show (lp C k) cd0 (blkQ C 0 (sq (den C k) (lp C k) Js C cd1 Q)) (St1 x7 x8 c2 c3) = iter (rnd C k cd0 9 (blkQ C 0 (sq (den C k) (lp C k) Js C cd1 Q))) k (St1 x7 x8 c2 c3) by kernel_rfl).trans ((l0_eq k (blkQ C 0 (sq (den C k) (lp C k) Js C cd1 Q)) k x7 x8 c2 c3).trans (l0_congr k _ _ (fun c2 c3 => ((show (blkQ C 0 (sq (den C k) (lp C k) Js C cd1 Q)) (.exit 0) (St2 c2 c3) = (den C k) cd1 Q (St3 c2 c3) by kernel_rfl).trans (by simp only [j0_eq]))) k x7 x8 c2 c3))
def top {α : Type} (k : Nat) (Rt : (List Int) → Option α) (x0 : List Int) : Option α :=
  l0 k (fun (c2 : List Int) (c3 : List Int) => j0 Rt c2 c3) k x0 0 [0, 0, 0, 0] [0, 0, 0, 0]
theorem top_eq {α : Type} (k : Nat) (Q : Ex → St → Option α) (x0 : List Int) :
    (den C k) (cB Try.f205) Q (St0 x0) = top k (fun (c2 : List Int) => Q .ret (St4 c2)) x0 := by
  have h : ∀ (D L : DT α), denJ D L Js C (cB Try.f205) Q (St0 x0) =
        L cd0 (blkQ C 0 (sq D L Js C cd1 Q)) (St1 x0 0 [0, 0, 0, 0] [0, 0, 0, 0]) := by
    intro D L; kernel_rfl
  refine (show (den C k) (cB Try.f205) Q (St0 x0) = denJ (den C k) (lp C k) Js C (cB Try.f205) Q (St0 x0) from (denJ_den _ _ _ _ _ _).symm).trans ((h (den C k) (lp C k)).trans ?_)
  simp only [a0]
  first | rfl | kernel_rfl
def run (x0 : List Int) : Option (List Int) := top (α := List Int) fuel (fun (c2 : List Int) => some c2) x0
def F : Fn := ⟨(.pair (.arr 32 (.int .u8)) .unit), (.arr 4 (.int .u64)), false, fun x => run x.1⟩
set_option maxRecDepth 100000 in
theorem con : Con Try.prog 205 F := by
  refine con_of_den (C := C) (ctx_ok (by kernel_rfl) (by kernel_rfl) (by kernel_rfl) (by kernel_rfl) trivial) (by kernel_rfl) Try.func205 (c := cB Try.f205) (by kernel_rfl) (by kernel_rfl) F fuel (fun x => by simp [F, spread, Try.ntmps205]) ?_
  intro x r h
  rw [← h]
  have h1 : start F Try.f205.ntmps x = (St0 x.1) := by kernel_rfl
  rw [h1]
  refine (top_eq fuel (fin C Try.f205.results.toList F.rs F.multi) x.1).trans ?_
  kernel_rfl
theorem named : Named Try.prog 205 := named_of Try.func205 (by kernel_rfl) (by kernel_rfl)
end Go.Bx.wide_From
namespace Go.Bx.basculeref_FromBytes
open Go Go.Proofs Go.Bx
set_option maxRecDepth 100000
set_option linter.unusedVariables false
def Js : List Nat := [8]
def C : Ctx := ⟨[(5, (.int .u8)), (24, (.int .u64)), (39, (.arr 32 (.int .u8))), (45, (.arr 4 (.int .u64)))], [], [], fnL [], noSh, [], invL [], [(2, [2]), (1, [2, 3]), (4, [2, 3, 6, 7]), (9, [2, 3, 6, 7]), (21, [2, 3])], [], [], 0, 0⟩
def St0 (x0 : List Int) : St := stL 26 [(0, .data (.arr 32 (.int .u8)) x0)] []
def St1 (x6 : List Int) (x7 : Int) (c2 : List Int) (c3 : List Int) : St := stL 26 [(2, .ref 2 0 []), (3, .ref 3 0 []), (6, .data (.arr 32 (.int .u8)) x6), (7, .data (.int .i64) x7)] [(2, .cell (.arr 4 (.int .u64)) (.data (.arr 4 (.int .u64)) c2) false), (3, .cell (.arr 4 (.int .u64)) (.data (.arr 4 (.int .u64)) c3) false)]
noncomputable def cd0 : Code := cL (cL (cR (cL (cR (cR (cB Try.f171))))))
def St2 (c2 : List Int) (c3 : List Int) : St := stL 26 [(2, .ref 2 0 []), (3, .ref 3 0 [])] [(2, .cell (.arr 4 (.int .u64)) (.data (.arr 4 (.int .u64)) c2) false), (3, .cell (.arr 4 (.int .u64)) (.data (.arr 4 (.int .u64)) c3) false)]
def l0s {α : Type} (Nx : (List Int) → Int → (List Int) → (List Int) → Option α) (Xt0 : (List Int) → (List Int) → Option α) (x6 : List Int) (x7 : Int) (c2 : List Int) (c3 : List Int) : Option α :=
  if (decide (x7 < 32)) = true then
    if 0 ≤ x7 ∧ x7 < (32 : Int) then
      if 0 ≤ (IntKind.i64.wrap (3 - (IntKind.i64.wrap (Int.tdiv x7 8)))) ∧ (IntKind.i64.wrap (3 - (IntKind.i64.wrap (Int.tdiv x7 8)))) < (4 : Int) then
        if 0 ≤ (IntKind.i64.wrap (3 - (IntKind.i64.wrap (Int.tdiv x7 8)))) ∧ (IntKind.i64.wrap (3 - (IntKind.i64.wrap (Int.tdiv x7 8)))) < (4 : Int) then
          Nx x6 (IntKind.i64.wrap (x7 + 1)) c2 (List.set c3 (Int.toNat (IntKind.i64.wrap (3 - (IntKind.i64.wrap (Int.tdiv x7 8))))) (IntKind.u64.wrap ((IntKind.u64.wrap ((List.getD c3 (Int.toNat (IntKind.i64.wrap (3 - (IntKind.i64.wrap (Int.tdiv x7 8))))) 0) * 256)) + (IntKind.u64.wrap (List.getD x6 (Int.toNat x7) 0)))))
        else none
      else none
    else none
  else
    Xt0 c2 c3
theorem l0s_eq {α : Type} (k : Nat) (next : St → Option α) (Q : Ex → St → Option α) (x6 : List Int) (x7 : Int) (c2 : List Int) (c3 : List Int) :
    rnd C k cd0 9 Q next (St1 x6 x7 c2 c3) = l0s (fun (x6 : List Int) (x7 : Int) (c2 : List Int) (c3 : List Int) => next (St1 x6 x7 c2 c3)) (fun (c2 : List Int) (c3 : List Int) => Q (.exit 0) (St2 c2 c3)) x6 x7 c2 c3 := by
  have h : ∀ (D L : DT α), denJ D L Js C cd0 (lq C 9 next Q) (St1 x6 x7 c2 c3) =
        if (decide (x7 < 32)) = true then
          if 0 ≤ x7 ∧ x7 < (32 : Int) then
            if 0 ≤ (IntKind.i64.wrap (3 - (IntKind.i64.wrap (Int.tdiv x7 8)))) ∧ (IntKind.i64.wrap (3 - (IntKind.i64.wrap (Int.tdiv x7 8)))) < (4 : Int) then
              if 0 ≤ (IntKind.i64.wrap (3 - (IntKind.i64.wrap (Int.tdiv x7 8)))) ∧ (IntKind.i64.wrap (3 - (IntKind.i64.wrap (Int.tdiv x7 8)))) < (4 : Int) then
                next (St1 x6 (IntKind.i64.wrap (x7 + 1)) c2 (List.set c3 (Int.toNat (IntKind.i64.wrap (3 - (IntKind.i64.wrap (Int.tdiv x7 8))))) (IntKind.u64.wrap ((IntKind.u64.wrap ((List.getD c3 (Int.toNat (IntKind.i64.wrap (3 - (IntKind.i64.wrap (Int.tdiv x7 8))))) 0) * 256)) + (IntKind.u64.wrap (List.getD x6 (Int.toNat x7) 0))))))
              else none
            else none
          else none
        else
          Q (.exit 0) (St2 c2 c3) := by
    intro D L; kernel_rfl
  refine (show rnd C k cd0 9 Q next (St1 x6 x7 c2 c3) = denJ (den C k) (lp C k) Js C cd0 (lq C 9 next Q) (St1 x6 x7 c2 c3) from (denJ_den _ _ _ _ _ _).symm).trans ((h (den C k) (lp C k)).trans ?_)
  first | rfl | kernel_rfl
def l0 {α : Type} (k : Nat) (Xt0 : (List Int) → (List Int) → Option α) : Nat → (List Int) → Int → (List Int) → (List Int) → Option α
  | 0, _, _, _, _ => none
  | n + 1, x6, x7, c2, c3 => l0s (l0 k Xt0 n) Xt0 x6 x7 c2 c3
theorem l0_eq {α : Type} (k : Nat) (Q : Ex → St → Option α) : ∀ (n : Nat) (x6 : List Int) (x7 : Int) (c2 : List Int) (c3 : List Int), iter (rnd C k cd0 9 Q) n (St1 x6 x7 c2 c3) = l0 k (fun (c2 : List Int) (c3 : List Int) => Q (.exit 0) (St2 c2 c3)) n x6 x7 c2 c3
  | 0, _, _, _, _ => rfl
  | n + 1, x6, x7, c2, c3 => (iter_succ _ _ _).trans ((l0s_eq k (iter (rnd C k cd0 9 Q) n) Q x6 x7 c2 c3).trans (congrArg (fun N => l0s N (fun (c2 : List Int) (c3 : List Int) => Q (.exit 0) (St2 c2 c3)) x6 x7 c2 c3) (funext fun x6 => funext fun x7 => funext fun c2 => funext fun c3 => l0_eq k Q n x6 x7 c2 c3)))
theorem l0_congr {α : Type} (k : Nat) (Xt0 : (List Int) → (List Int) → Option α) (Xt0q : (List Int) → (List Int) → Option α) (hXt0 : ∀ (c2 : List Int) (c3 : List Int), Xt0 c2 c3 = Xt0q c2 c3) (n : Nat) (x6 : List Int) (x7 : Int) (c2 : List Int) (c3 : List Int) : l0 k Xt0 n x6 x7 c2 c3 = l0 k Xt0q n x6 x7 c2 c3 := by
  obtain rfl : Xt0 = Xt0q := by funext c2; funext c3; exact hXt0 c2 c3
  rfl
noncomputable def cd1 : Code := cR (cR (cR (cB Try.f171)))
def St3 (c2 : List Int) (c3 : List Int) : St := stL 26 [(2, .ref 2 0 []), (3, .ref 3 0 [])] [(2, .cell (.arr 4 (.int .u64)) (.data (.arr 4 (.int .u64)) c2) false), (3, .cell (.arr 4 (.int .u64)) (.data (.arr 4 (.int .u64)) c3) false)]
def St4 (c2 : List Int) : St := stL 26 [(2, .ref 2 0 [])] [(2, .cell (.arr 4 (.int .u64)) (.data (.arr 4 (.int .u64)) c2) false)]
def j0 {α : Type} (Rt : (List Int) → Option α) (c2 : List Int) (c3 : List Int) : Option α :=
  Rt c3
theorem j0_eq {α : Type} (k : Nat) (Q : Ex → St → Option α) (c2 : List Int) (c3 : List Int) :
    (den C k) cd1 Q (St3 c2 c3) = j0 (fun (c2 : List Int) => Q .ret (St4 c2)) c2 c3 := by
  have h : ∀ (D L : DT α), denJ D L Js C cd1 Q (St3 c2 c3) =
        Q .ret (St4 c3) := by
    intro D L; kernel_rfl
  refine (show (den C k) cd1 Q (St3 c2 c3) = denJ (den C k) (lp C k) Js C cd1 Q (St3 c2 c3) from (denJ_den _ _ _ _ _ _).symm).trans ((h (den C k) (lp C k)).trans ?_)
  first | rfl | kernel_rfl
theorem a0 {α : Type} (k : Nat) (Q : Ex → St → Option α) (x6 : List Int) (x7 : Int) (c2 : List Int) (c3 : List Int) :
    (lp C k) cd0 (blkQ C 0 (sq (den C k) (lp C k) Js C cd1 Q)) (St1 x6 x7 c2 c3) = l0 k (fun (c2 : List Int) (c3 : List Int) => j0 (fun (c2 : List Int) => Q .ret (St4 c2)) c2 c3) k x6 x7 c2 c3 :=
  (show (lp C k) cd0 (blkQ C 0 (sq (den C k) (lp C k) Js C cd1 Q)) (St1 x6 x7 c2 c3) = iter (rnd C k cd0 9 (blkQ C 0 (sq (den C k) (lp C k) Js C cd1 Q))) k (St1 x6 x7 c2 c3) by kernel_rfl).trans ((l0_eq k (blkQ C 0 (sq (den C k) (lp C k) Js C cd1 Q)) k x6 x7 c2 c3).trans (l0_congr k _ _ (fun c2 c3 => ((show (blkQ C 0 (sq (den C k) (lp C k) Js C cd1 Q)) (.exit 0) (St2 c2 c3) = (den C k) cd1 Q (St3 c2 c3) by kernel_rfl).trans (by simp only [j0_eq]))) k x6 x7 c2 c3))
def top {α : Type} (k : Nat) (Rt : (List Int) → Option α) (x0 : List Int) : Option α :=
  l0 k (fun (c2 : List Int) (c3 : List Int) => j0 Rt c2 c3) k x0 0 [0, 0, 0, 0] [0, 0, 0, 0]
theorem top_eq {α : Type} (k : Nat) (Q : Ex → St → Option α) (x0 : List Int) :
    (den C k) (cB Try.f171) Q (St0 x0) = top k (fun (c2 : List Int) => Q .ret (St4 c2)) x0 := by
  have h : ∀ (D L : DT α), denJ D L Js C (cB Try.f171) Q (St0 x0) =
        L cd0 (blkQ C 0 (sq D L Js C cd1 Q)) (St1 x0 0 [0, 0, 0, 0] [0, 0, 0, 0]) := by
    intro D L; kernel_rfl
  refine (show (den C k) (cB Try.f171) Q (St0 x0) = denJ (den C k) (lp C k) Js C (cB Try.f171) Q (St0 x0) from (denJ_den _ _ _ _ _ _).symm).trans ((h (den C k) (lp C k)).trans ?_)
  simp only [a0]
  first | rfl | kernel_rfl
def run (x0 : List Int) : Option (List Int) := top (α := List Int) fuel (fun (c2 : List Int) => some c2) x0
def F : Fn := ⟨(.pair (.arr 32 (.int .u8)) .unit), (.arr 4 (.int .u64)), false, fun x => run x.1⟩
set_option maxRecDepth 100000 in
theorem con : Con Try.prog 171 F := by
  refine con_of_den (C := C) (ctx_ok (by kernel_rfl) (by kernel_rfl) (by kernel_rfl) (by kernel_rfl) trivial) (by kernel_rfl) Try.func171 (c := cB Try.f171) (by kernel_rfl) (by kernel_rfl) F fuel (fun x => by simp [F, spread, Try.ntmps171]) ?_
  intro x r h
  rw [← h]
  have h1 : start F Try.f171.ntmps x = (St0 x.1) := by kernel_rfl
  rw [h1]
  refine (top_eq fuel (fin C Try.f171.results.toList F.rs F.multi) x.1).trans ?_
  kernel_rfl
theorem named : Named Try.prog 171 := named_of Try.func171 (by kernel_rfl) (by kernel_rfl)
end Go.Bx.basculeref_FromBytes
namespace Go.Bx.basculeref_wideOf
open Go Go.Proofs Go.Bx
set_option maxRecDepth 100000
set_option linter.unusedVariables false
def Js : List Nat := []
def C : Ctx := ⟨[(9, .str), (45, (.arr 4 (.int .u64)))], [], [], fnL [(141, Go.Bx.basculeref_word.F), (171, Go.Bx.basculeref_FromBytes.F)], noSh, [], invL [], [(2, [2])], [], [], 0, 0⟩
def St0 (x0 : List Int) : St := stL 6 [(0, .data .str x0)] []
def St1 (c2 : List Int) : St := stL 6 [(2, .ref 2 0 [])] [(2, .cell (.arr 4 (.int .u64)) (.data (.arr 4 (.int .u64)) c2) false)]
def top {α : Type} (Rt : (List Int) → Option α) (x0 : List Int) : Option α :=
  (Go.Bx.basculeref_word.run x0).bind fun y1 =>
  (Go.Bx.basculeref_FromBytes.run y1).bind fun y2 =>
  Rt y2
theorem top_eq {α : Type} (k : Nat) (Q : Ex → St → Option α) (x0 : List Int) :
    (den C k) (cB Try.f148) Q (St0 x0) = top (fun (c2 : List Int) => Q .ret (St1 c2)) x0 := by
  have h : ∀ (D L : DT α), denJ D L Js C (cB Try.f148) Q (St0 x0) =
        (Go.Bx.basculeref_word.run x0).bind fun y1 =>
        (Go.Bx.basculeref_FromBytes.run y1).bind fun y2 =>
        Q .ret (St1 y2) := by
    intro D L; kernel_rfl
  refine (show (den C k) (cB Try.f148) Q (St0 x0) = denJ (den C k) (lp C k) Js C (cB Try.f148) Q (St0 x0) from (denJ_den _ _ _ _ _ _).symm).trans ((h (den C k) (lp C k)).trans ?_)
  first | rfl | kernel_rfl
def run (x0 : List Int) : Option (List Int) := top (α := List Int) (fun (c2 : List Int) => some c2) x0
def F : Fn := ⟨(.pair .str .unit), (.arr 4 (.int .u64)), false, fun x => run x.1⟩
set_option maxRecDepth 100000 in
theorem con : Con Try.prog 148 F := by
  refine con_of_den (C := C) (ctx_ok (by kernel_rfl) (by kernel_rfl) (by kernel_rfl) (by kernel_rfl) ⟨.inl ⟨Go.Bx.basculeref_word.con, Go.Bx.basculeref_word.named⟩, ⟨.inl ⟨Go.Bx.basculeref_FromBytes.con, Go.Bx.basculeref_FromBytes.named⟩, trivial⟩⟩) (by kernel_rfl) Try.func148 (c := cB Try.f148) (by kernel_rfl) (by kernel_rfl) F fuel (fun x => by simp [F, spread, Try.ntmps148]) ?_
  intro x r h
  rw [← h]
  have h1 : start F Try.f148.ntmps x = (St0 x.1) := by kernel_rfl
  rw [h1]
  refine (top_eq fuel (fin C Try.f148.results.toList F.rs F.multi) x.1).trans ?_
  kernel_rfl
theorem named : Named Try.prog 148 := named_of Try.func148 (by kernel_rfl) (by kernel_rfl)
end Go.Bx.basculeref_wideOf
namespace Go.Bx.basculeref_upTo
open Go Go.Proofs Go.Bx
set_option maxRecDepth 100000
set_option linter.unusedVariables false
def Js : List Nat := []
def C : Ctx := ⟨[(3, (.int .i64)), (4, .bool)], [], [], fnL [], noSh, [], invL [], [(2, [4])], [], [], 0, 0⟩
def St0 (x0 : Int) (x1 : Int) : St := stL 12 [(0, .data (.int .i64) x0), (1, .data (.int .i64) x1)] []
def St1 (x4 : Bool) : St := stL 12 [(4, .data .bool x4)] []
def top {α : Type} (Rt : Bool → Option α) (x0 : Int) (x1 : Int) : Option α :=
  Rt (cond (decide (0 ≤ x0)) (decide (x0 ≤ x1)) false)
theorem top_eq {α : Type} (k : Nat) (Q : Ex → St → Option α) (x0 : Int) (x1 : Int) :
    (den C k) (cB Try.f66) Q (St0 x0 x1) = top (fun (x4 : Bool) => Q .ret (St1 x4)) x0 x1 := by
  have h : ∀ (D L : DT α), denJ D L Js C (cB Try.f66) Q (St0 x0 x1) =
        Q .ret (St1 (cond (decide (0 ≤ x0)) (decide (x0 ≤ x1)) false)) := by
    intro D L; kernel_rfl
  refine (show (den C k) (cB Try.f66) Q (St0 x0 x1) = denJ (den C k) (lp C k) Js C (cB Try.f66) Q (St0 x0 x1) from (denJ_den _ _ _ _ _ _).symm).trans ((h (den C k) (lp C k)).trans ?_)
  first | rfl | kernel_rfl
def run (x0 : Int) (x1 : Int) : Option (Bool) := top (α := Bool) (fun (x4 : Bool) => some x4) x0 x1
def F : Fn := ⟨(.pair (.int .i64) (.pair (.int .i64) .unit)), .bool, false, fun x => run x.1 x.2.1⟩
set_option maxRecDepth 100000 in
theorem con : Con Try.prog 66 F := by
  refine con_of_den (C := C) (ctx_ok (by kernel_rfl) (by kernel_rfl) (by kernel_rfl) (by kernel_rfl) trivial) (by kernel_rfl) Try.func66 (c := cB Try.f66) (by kernel_rfl) (by kernel_rfl) F fuel (fun x => by simp [F, spread, Try.ntmps66]) ?_
  intro x r h
  rw [← h]
  have h1 : start F Try.f66.ntmps x = (St0 x.1 x.2.1) := by kernel_rfl
  rw [h1]
  refine (top_eq fuel (fin C Try.f66.results.toList F.rs F.multi) x.1 x.2.1).trans ?_
  kernel_rfl
theorem named : Named Try.prog 66 := named_of Try.func66 (by kernel_rfl) (by kernel_rfl)
end Go.Bx.basculeref_upTo
namespace Go.Bx.wide_Cmp
open Go Go.Proofs Go.Bx
set_option maxRecDepth 100000
set_option linter.unusedVariables false
def Js : List Nat := [9]
def C : Ctx := ⟨[(3, (.int .i64)), (24, (.int .u64)), (45, (.arr 4 (.int .u64)))], [], [], fnL [], noSh, [], invL [], [(2, [4]), (1, []), (4, [2, 3, 5]), (7, [2, 3, 5]), (6, [2, 3, 5]), (24, [])], [], [], 0, 0⟩
def St0 (x0 : List Int) (x1 : List Int) : St := stL 26 [(0, .data (.arr 4 (.int .u64)) x0), (1, .data (.arr 4 (.int .u64)) x1)] []
def St1 (x5 : Int) (c2 : List Int) (c3 : List Int) : St := stL 26 [(2, .ref 2 0 []), (3, .ref 3 0 []), (5, .data (.int .i64) x5)] [(2, .cell (.arr 4 (.int .u64)) (.data (.arr 4 (.int .u64)) c2) false), (3, .cell (.arr 4 (.int .u64)) (.data (.arr 4 (.int .u64)) c3) false)]
noncomputable def cd0 : Code := cL (cL (cR (cL (cR (cB Try.f88)))))
def St2 (x4 : Int) : St := stL 26 [(4, .data (.int .i64) x4)] []
def St3 : St := stL 26 [] []
def l0s {α : Type} (Nx : Int → (List Int) → (List Int) → Option α) (Rt : Int → Option α) (Xt0 : Option α) (x5 : Int) (c2 : List Int) (c3 : List Int) : Option α :=
  if (decide (x5 ≥ 0)) = true then
    if 0 ≤ x5 ∧ x5 < (4 : Int) then
      if 0 ≤ x5 ∧ x5 < (4 : Int) then
        if (decide ((List.getD c2 (Int.toNat x5) 0) < (List.getD c3 (Int.toNat x5) 0))) = true then
          Rt (-1)
        else
          if 0 ≤ x5 ∧ x5 < (4 : Int) then
            if 0 ≤ x5 ∧ x5 < (4 : Int) then
              if (decide ((List.getD c2 (Int.toNat x5) 0) > (List.getD c3 (Int.toNat x5) 0))) = true then
                Rt 1
              else
                Nx (IntKind.i64.wrap (x5 - 1)) c2 c3
            else none
          else none
      else none
    else none
  else
    Xt0
theorem l0s_eq {α : Type} (k : Nat) (next : St → Option α) (Q : Ex → St → Option α) (x5 : Int) (c2 : List Int) (c3 : List Int) :
    rnd C k cd0 6 Q next (St1 x5 c2 c3) = l0s (fun (x5 : Int) (c2 : List Int) (c3 : List Int) => next (St1 x5 c2 c3)) (fun (x4 : Int) => Q .ret (St2 x4)) (Q (.exit 0) St3) x5 c2 c3 := by
  have h : ∀ (D L : DT α), denJ D L Js C cd0 (lq C 6 next Q) (St1 x5 c2 c3) =
        if (decide (x5 ≥ 0)) = true then
          if 0 ≤ x5 ∧ x5 < (4 : Int) then
            if 0 ≤ x5 ∧ x5 < (4 : Int) then
              if (decide ((List.getD c2 (Int.toNat x5) 0) < (List.getD c3 (Int.toNat x5) 0))) = true then
                Q .ret (St2 (-1))
              else
                if 0 ≤ x5 ∧ x5 < (4 : Int) then
                  if 0 ≤ x5 ∧ x5 < (4 : Int) then
                    if (decide ((List.getD c2 (Int.toNat x5) 0) > (List.getD c3 (Int.toNat x5) 0))) = true then
                      Q .ret (St2 1)
                    else
                      next (St1 (IntKind.i64.wrap (x5 - 1)) c2 c3)
                  else none
                else none
            else none
          else none
        else
          Q (.exit 0) St3 := by
    intro D L; kernel_rfl
  refine (show rnd C k cd0 6 Q next (St1 x5 c2 c3) = denJ (den C k) (lp C k) Js C cd0 (lq C 6 next Q) (St1 x5 c2 c3) from (denJ_den _ _ _ _ _ _).symm).trans ((h (den C k) (lp C k)).trans ?_)
  first | rfl | kernel_rfl
def l0 {α : Type} (k : Nat) (Rt : Int → Option α) (Xt0 : Option α) : Nat → Int → (List Int) → (List Int) → Option α
  | 0, _, _, _ => none
  | n + 1, x5, c2, c3 => l0s (l0 k Rt Xt0 n) Rt Xt0 x5 c2 c3
theorem l0_eq {α : Type} (k : Nat) (Q : Ex → St → Option α) : ∀ (n : Nat) (x5 : Int) (c2 : List Int) (c3 : List Int), iter (rnd C k cd0 6 Q) n (St1 x5 c2 c3) = l0 k (fun (x4 : Int) => Q .ret (St2 x4)) (Q (.exit 0) St3) n x5 c2 c3
  | 0, _, _, _ => rfl
  | n + 1, x5, c2, c3 => (iter_succ _ _ _).trans ((l0s_eq k (iter (rnd C k cd0 6 Q) n) Q x5 c2 c3).trans (congrArg (fun N => l0s N (fun (x4 : Int) => Q .ret (St2 x4)) (Q (.exit 0) St3) x5 c2 c3) (funext fun x5 => funext fun c2 => funext fun c3 => l0_eq k Q n x5 c2 c3)))
theorem l0_congr {α : Type} (k : Nat) (Rt : Int → Option α) (Xt0 : Option α) (Rtq : Int → Option α) (Xt0q : Option α) (hRt : ∀ (x4 : Int), Rt x4 = Rtq x4) (hXt0 : Xt0 = Xt0q) (n : Nat) (x5 : Int) (c2 : List Int) (c3 : List Int) : l0 k Rt Xt0 n x5 c2 c3 = l0 k Rtq Xt0q n x5 c2 c3 := by
  obtain rfl : Rt = Rtq := by funext x4; exact hRt x4
  obtain rfl : Xt0 = Xt0q := hXt0
  rfl
noncomputable def cd1 : Code := cR (cR (cB Try.f88))
def St4 : St := stL 26 [] []
def j0 {α : Type} (Rt : Int → Option α) : Option α :=
  Rt 0
theorem j0_eq {α : Type} (k : Nat) (Q : Ex → St → Option α) :
    (den C k) cd1 Q St4 = j0 (fun (x4 : Int) => Q .ret (St2 x4)) := by
  have h : ∀ (D L : DT α), denJ D L Js C cd1 Q St4 =
        Q .ret (St2 0) := by
    intro D L; kernel_rfl
  refine (show (den C k) cd1 Q St4 = denJ (den C k) (lp C k) Js C cd1 Q St4 from (denJ_den _ _ _ _ _ _).symm).trans ((h (den C k) (lp C k)).trans ?_)
  first | rfl | kernel_rfl
theorem a0 {α : Type} (k : Nat) (Q : Ex → St → Option α) (x5 : Int) (c2 : List Int) (c3 : List Int) :
    (lp C k) cd0 (blkQ C 0 (sq (den C k) (lp C k) Js C cd1 Q)) (St1 x5 c2 c3) = l0 k (fun (x4 : Int) => (fun (x4 : Int) => Q .ret (St2 x4)) x4) (j0 (fun (x4 : Int) => Q .ret (St2 x4))) k x5 c2 c3 :=
  (show (lp C k) cd0 (blkQ C 0 (sq (den C k) (lp C k) Js C cd1 Q)) (St1 x5 c2 c3) = iter (rnd C k cd0 6 (blkQ C 0 (sq (den C k) (lp C k) Js C cd1 Q))) k (St1 x5 c2 c3) by kernel_rfl).trans ((l0_eq k (blkQ C 0 (sq (den C k) (lp C k) Js C cd1 Q)) k x5 c2 c3).trans (l0_congr k _ _ _ _ (fun x4 => (show (blkQ C 0 (sq (den C k) (lp C k) Js C cd1 Q)) .ret (St2 x4) = Q .ret (St2 x4) by kernel_rfl)) ((show (blkQ C 0 (sq (den C k) (lp C k) Js C cd1 Q)) (.exit 0) St3 = (den C k) cd1 Q St4 by kernel_rfl).trans (by simp only [j0_eq])) k x5 c2 c3))
def top {α : Type} (k : Nat) (Rt : Int → Option α) (x0 : List Int) (x1 : List Int) : Option α :=
  l0 k (fun (x4 : Int) => Rt x4) (j0 Rt) k 3 x0 x1
theorem top_eq {α : Type} (k : Nat) (Q : Ex → St → Option α) (x0 : List Int) (x1 : List Int) :
    (den C k) (cB Try.f88) Q (St0 x0 x1) = top k (fun (x4 : Int) => Q .ret (St2 x4)) x0 x1 := by
  have h : ∀ (D L : DT α), denJ D L Js C (cB Try.f88) Q (St0 x0 x1) =
        L cd0 (blkQ C 0 (sq D L Js C cd1 Q)) (St1 3 x0 x1) := by
    intro D L; kernel_rfl
  refine (show (den C k) (cB Try.f88) Q (St0 x0 x1) = denJ (den C k) (lp C k) Js C (cB Try.f88) Q (St0 x0 x1) from (denJ_den _ _ _ _ _ _).symm).trans ((h (den C k) (lp C k)).trans ?_)
  simp only [a0]
  first | rfl | kernel_rfl
def run (x0 : List Int) (x1 : List Int) : Option (Int) := top (α := Int) fuel (fun (x4 : Int) => some x4) x0 x1
def F : Fn := ⟨(.pair (.arr 4 (.int .u64)) (.pair (.arr 4 (.int .u64)) .unit)), (.int .i64), false, fun x => run x.1 x.2.1⟩
set_option maxRecDepth 100000 in
theorem con : Con Try.prog 88 F := by
  refine con_of_den (C := C) (ctx_ok (by kernel_rfl) (by kernel_rfl) (by kernel_rfl) (by kernel_rfl) trivial) (by kernel_rfl) Try.func88 (c := cB Try.f88) (by kernel_rfl) (by kernel_rfl) F fuel (fun x => by simp [F, spread, Try.ntmps88]) ?_
  intro x r h
  rw [← h]
  have h1 : start F Try.f88.ntmps x = (St0 x.1 x.2.1) := by kernel_rfl
  rw [h1]
  refine (top_eq fuel (fin C Try.f88.results.toList F.rs F.multi) x.1 x.2.1).trans ?_
  kernel_rfl
theorem named : Named Try.prog 88 := named_of Try.func88 (by kernel_rfl) (by kernel_rfl)
end Go.Bx.wide_Cmp
namespace Go.Bx.load_same
open Go Go.Proofs Go.Bx
set_option maxRecDepth 100000
set_option linter.unusedVariables false
def Js : List Nat := []
def C : Ctx := ⟨[(3, (.int .i64)), (4, .bool), (9, .str), (34, (.sl (.arr 20 (.int .u8)))), (39, (.arr 32 (.int .u8))), (40, (.sl (.int .u8))), (45, (.arr 4 (.int .u64))), (105, (.pair (.int .i64) (.pair (.arr 4 (.int .u64)) (.pair (.arr 4 (.int .u64)) (.pair (.arr 32 (.int .u8)) (.pair (.int .i64) (.pair (.arr 32 (.int .u8)) (.pair (.int .i64) (.pair (.int .i64) (.pair .str (.pair (.sl (.int .u8)) (.pair (.int .i64) (.pair (.sl (.arr 20 (.int .u8))) .unit)))))))))))))], [], [], fnL [], noSh, [], invL [], [(2, [4])], [], [], 0, 0⟩
def St0 (x0 : Int × List Int × List Int × List Int × Int × List Int × Int × Int × List Int × List Int × Int × List (List Int) × Unit) (x1 : Int × List Int × List Int × List Int × Int × List Int × Int × Int × List Int × List Int × Int × List (List Int) × Unit) : St := stL 93 [(0, .data (.pair (.int .i64) (.pair (.arr 4 (.int .u64)) (.pair (.arr 4 (.int .u64)) (.pair (.arr 32 (.int .u8)) (.pair (.int .i64) (.pair (.arr 32 (.int .u8)) (.pair (.int .i64) (.pair (.int .i64) (.pair .str (.pair (.sl (.int .u8)) (.pair (.int .i64) (.pair (.sl (.arr 20 (.int .u8))) .unit)))))))))))) x0), (1, .data (.pair (.int .i64) (.pair (.arr 4 (.int .u64)) (.pair (.arr 4 (.int .u64)) (.pair (.arr 32 (.int .u8)) (.pair (.int .i64) (.pair (.arr 32 (.int .u8)) (.pair (.int .i64) (.pair (.int .i64) (.pair .str (.pair (.sl (.int .u8)) (.pair (.int .i64) (.pair (.sl (.arr 20 (.int .u8))) .unit)))))))))))) x1)] []
def St1 (x4 : Bool) : St := stL 93 [(4, .data .bool x4)] []
def top {α : Type} (Rt : Bool → Option α) (x0 : Int × List Int × List Int × List Int × Int × List Int × Int × Int × List Int × List Int × Int × List (List Int) × Unit) (x1 : Int × List Int × List Int × List Int × Int × List Int × Int × Int × List Int × List Int × Int × List (List Int) × Unit) : Option α :=
  Rt (cond (cond (cond (cond (cond (cond (cond (cond (cond (cond (cond (x0.1 == x1.1) (beqD (.arr 4 (.int .u64)) x0.2.1 x1.2.1) false) (beqD (.arr 4 (.int .u64)) x0.2.2.1 x1.2.2.1) false) (beqD (.arr 32 (.int .u8)) x0.2.2.2.1 x1.2.2.2.1) false) (x0.2.2.2.2.1 == x1.2.2.2.2.1) false) (beqD (.arr 32 (.int .u8)) x0.2.2.2.2.2.1 x1.2.2.2.2.2.1) false) (x0.2.2.2.2.2.2.1 == x1.2.2.2.2.2.2.1) false) (x0.2.2.2.2.2.2.2.1 == x1.2.2.2.2.2.2.2.1) false) (beqD .str x0.2.2.2.2.2.2.2.2.1 x1.2.2.2.2.2.2.2.2.1) false) (x0.2.2.2.2.2.2.2.2.2.2.1 == x1.2.2.2.2.2.2.2.2.2.2.1) false) (beqD .str x0.2.2.2.2.2.2.2.2.2.1 x1.2.2.2.2.2.2.2.2.2.1) false) ((x0.2.2.2.2.2.2.2.2.2.2.2.1.length : Int) == (x1.2.2.2.2.2.2.2.2.2.2.2.1.length : Int)) false)
theorem top_eq {α : Type} (k : Nat) (Q : Ex → St → Option α) (x0 : Int × List Int × List Int × List Int × Int × List Int × Int × Int × List Int × List Int × Int × List (List Int) × Unit) (x1 : Int × List Int × List Int × List Int × Int × List Int × Int × Int × List Int × List Int × Int × List (List Int) × Unit) :
    (den C k) (cB Try.f170) Q (St0 x0 x1) = top (fun (x4 : Bool) => Q .ret (St1 x4)) x0 x1 := by
  have h : ∀ (D L : DT α), denJ D L Js C (cB Try.f170) Q (St0 x0 x1) =
        Q .ret (St1 (cond (cond (cond (cond (cond (cond (cond (cond (cond (cond (cond (x0.1 == x1.1) (beqD (.arr 4 (.int .u64)) x0.2.1 x1.2.1) false) (beqD (.arr 4 (.int .u64)) x0.2.2.1 x1.2.2.1) false) (beqD (.arr 32 (.int .u8)) x0.2.2.2.1 x1.2.2.2.1) false) (x0.2.2.2.2.1 == x1.2.2.2.2.1) false) (beqD (.arr 32 (.int .u8)) x0.2.2.2.2.2.1 x1.2.2.2.2.2.1) false) (x0.2.2.2.2.2.2.1 == x1.2.2.2.2.2.2.1) false) (x0.2.2.2.2.2.2.2.1 == x1.2.2.2.2.2.2.2.1) false) (beqD .str x0.2.2.2.2.2.2.2.2.1 x1.2.2.2.2.2.2.2.2.1) false) (x0.2.2.2.2.2.2.2.2.2.2.1 == x1.2.2.2.2.2.2.2.2.2.2.1) false) (beqD .str x0.2.2.2.2.2.2.2.2.2.1 x1.2.2.2.2.2.2.2.2.2.1) false) ((x0.2.2.2.2.2.2.2.2.2.2.2.1.length : Int) == (x1.2.2.2.2.2.2.2.2.2.2.2.1.length : Int)) false)) := by
    intro D L; kernel_rfl
  refine (show (den C k) (cB Try.f170) Q (St0 x0 x1) = denJ (den C k) (lp C k) Js C (cB Try.f170) Q (St0 x0 x1) from (denJ_den _ _ _ _ _ _).symm).trans ((h (den C k) (lp C k)).trans ?_)
  first | rfl | kernel_rfl
def run (x0 : Int × List Int × List Int × List Int × Int × List Int × Int × Int × List Int × List Int × Int × List (List Int) × Unit) (x1 : Int × List Int × List Int × List Int × Int × List Int × Int × Int × List Int × List Int × Int × List (List Int) × Unit) : Option (Bool) := top (α := Bool) (fun (x4 : Bool) => some x4) x0 x1
def F : Fn := ⟨(.pair (.pair (.int .i64) (.pair (.arr 4 (.int .u64)) (.pair (.arr 4 (.int .u64)) (.pair (.arr 32 (.int .u8)) (.pair (.int .i64) (.pair (.arr 32 (.int .u8)) (.pair (.int .i64) (.pair (.int .i64) (.pair .str (.pair (.sl (.int .u8)) (.pair (.int .i64) (.pair (.sl (.arr 20 (.int .u8))) .unit)))))))))))) (.pair (.pair (.int .i64) (.pair (.arr 4 (.int .u64)) (.pair (.arr 4 (.int .u64)) (.pair (.arr 32 (.int .u8)) (.pair (.int .i64) (.pair (.arr 32 (.int .u8)) (.pair (.int .i64) (.pair (.int .i64) (.pair .str (.pair (.sl (.int .u8)) (.pair (.int .i64) (.pair (.sl (.arr 20 (.int .u8))) .unit)))))))))))) .unit)), .bool, false, fun x => run x.1 x.2.1⟩
set_option maxRecDepth 100000 in
theorem con : Con Try.prog 170 F := by
  refine con_of_den (C := C) (ctx_ok (by kernel_rfl) (by kernel_rfl) (by kernel_rfl) (by kernel_rfl) trivial) (by kernel_rfl) Try.func170 (c := cB Try.f170) (by kernel_rfl) (by kernel_rfl) F fuel (fun x => by simp [F, spread, Try.ntmps170]) ?_
  intro x r h
  rw [← h]
  have h1 : start F Try.f170.ntmps x = (St0 x.1 x.2.1) := by kernel_rfl
  rw [h1]
  refine (top_eq fuel (fin C Try.f170.results.toList F.rs F.multi) x.1 x.2.1).trans ?_
  kernel_rfl
theorem named : Named Try.prog 170 := named_of Try.func170 (by kernel_rfl) (by kernel_rfl)
end Go.Bx.load_same
namespace Go.Bx.load_transfer__bare
open Go Go.Proofs Go.Bx
set_option maxRecDepth 100000
set_option linter.unusedVariables false
def Js : List Nat := []
def C : Ctx := ⟨[(3, (.int .i64)), (39, (.arr 32 (.int .u8))), (40, (.sl (.int .u8))), (45, (.arr 4 (.int .u64))), (105, (.pair (.int .i64) (.pair (.arr 4 (.int .u64)) (.pair (.arr 4 (.int .u64)) (.pair (.arr 32 (.int .u8)) (.pair (.int .i64) (.pair (.arr 32 (.int .u8)) (.pair (.int .i64) (.pair (.int .i64) (.pair .str (.pair (.sl (.int .u8)) (.pair (.int .i64) (.pair (.sl (.arr 20 (.int .u8))) .unit))))))))))))), (202, (.pair .bool .unit))], [], [], fnL [], noSh, [], invL [], [(2, [4])], [], [], 0, 0⟩
def St0 (x0 : Bool × Unit) (x1 : Int × List Int × List Int × List Int × Int × List Int × Int × Int × List Int × List Int × Int × List (List Int) × Unit) : St := stL 22 [(0, .data (.pair .bool .unit) x0), (1, .data (.pair (.int .i64) (.pair (.arr 4 (.int .u64)) (.pair (.arr 4 (.int .u64)) (.pair (.arr 32 (.int .u8)) (.pair (.int .i64) (.pair (.arr 32 (.int .u8)) (.pair (.int .i64) (.pair (.int .i64) (.pair .str (.pair (.sl (.int .u8)) (.pair (.int .i64) (.pair (.sl (.arr 20 (.int .u8))) .unit)))))))))))) x1)] []
def St1 (c4p0 : Int) (c4p1 : List Int) (c4p2 : List Int) (c4p3 : List Int) (c4p4 : Int) (c4p5 : List Int) (c4p6 : Int) (c4p7 : Int) (c4p8 : List Int) (c4p9 : List Int) (c4p10 : Int) : St := stL 22 [(4, .ref 4 0 [])] [(4, .cell (.pair (.int .i64) (.pair (.arr 4 (.int .u64)) (.pair (.arr 4 (.int .u64)) (.pair (.arr 32 (.int .u8)) (.pair (.int .i64) (.pair (.arr 32 (.int .u8)) (.pair (.int .i64) (.pair (.int .i64) (.pair .str (.pair (.sl (.int .u8)) (.pair (.int .i64) (.pair (.sl (.arr 20 (.int .u8))) .unit)))))))))))) (.agg (.pair (.int .i64) (.pair (.arr 4 (.int .u64)) (.pair (.arr 4 (.int .u64)) (.pair (.arr 32 (.int .u8)) (.pair (.int .i64) (.pair (.arr 32 (.int .u8)) (.pair (.int .i64) (.pair (.int .i64) (.pair .str (.pair (.sl (.int .u8)) (.pair (.int .i64) (.pair (.sl (.arr 20 (.int .u8))) .unit)))))))))))) [.data (.int .i64) c4p0, .data (.arr 4 (.int .u64)) c4p1, .data (.arr 4 (.int .u64)) c4p2, .data (.arr 32 (.int .u8)) c4p3, .data (.int .i64) c4p4, .data (.arr 32 (.int .u8)) c4p5, .data (.int .i64) c4p6, .data (.int .i64) c4p7, .data .str c4p8, .data (.sl (.int .u8)) c4p9, .data (.int .i64) c4p10, .full (.arr 20 (.int .u8)) []]) false)]
def top {α : Type} (Rt : Int → (List Int) → (List Int) → (List Int) → Int → (List Int) → Int → Int → (List Int) → (List Int) → Int → Option α) (x0 : Bool × Unit) (x1 : Int × List Int × List Int × List Int × Int × List Int × Int × Int × List Int × List Int × Int × List (List Int) × Unit) : Option α :=
  Rt x1.1 x1.2.1 x1.2.2.1 x1.2.2.2.1 x1.2.2.2.2.1 x1.2.2.2.2.2.1 x1.2.2.2.2.2.2.1 0 [] x1.2.2.2.2.2.2.2.2.2.1 0
theorem top_eq {α : Type} (k : Nat) (Q : Ex → St → Option α) (x0 : Bool × Unit) (x1 : Int × List Int × List Int × List Int × Int × List Int × Int × Int × List Int × List Int × Int × List (List Int) × Unit) :
    (den C k) (cB Try.f200) Q (St0 x0 x1) = top (fun (c4p0 : Int) (c4p1 : List Int) (c4p2 : List Int) (c4p3 : List Int) (c4p4 : Int) (c4p5 : List Int) (c4p6 : Int) (c4p7 : Int) (c4p8 : List Int) (c4p9 : List Int) (c4p10 : Int) => Q .ret (St1 c4p0 c4p1 c4p2 c4p3 c4p4 c4p5 c4p6 c4p7 c4p8 c4p9 c4p10)) x0 x1 := by
  have h : ∀ (D L : DT α), denJ D L Js C (cB Try.f200) Q (St0 x0 x1) =
        Q .ret (St1 x1.1 x1.2.1 x1.2.2.1 x1.2.2.2.1 x1.2.2.2.2.1 x1.2.2.2.2.2.1 x1.2.2.2.2.2.2.1 0 [] x1.2.2.2.2.2.2.2.2.2.1 0) := by
    intro D L; kernel_rfl
  refine (show (den C k) (cB Try.f200) Q (St0 x0 x1) = denJ (den C k) (lp C k) Js C (cB Try.f200) Q (St0 x0 x1) from (denJ_den _ _ _ _ _ _).symm).trans ((h (den C k) (lp C k)).trans ?_)
  first | rfl | kernel_rfl
def run (x0 : Bool × Unit) (x1 : Int × List Int × List Int × List Int × Int × List Int × Int × Int × List Int × List Int × Int × List (List Int) × Unit) : Option (Int × List Int × List Int × List Int × Int × List Int × Int × Int × List Int × List Int × Int × List (List Int) × Unit) := top (α := Int × List Int × List Int × List Int × Int × List Int × Int × Int × List Int × List Int × Int × List (List Int) × Unit) (fun (c4p0 : Int) (c4p1 : List Int) (c4p2 : List Int) (c4p3 : List Int) (c4p4 : Int) (c4p5 : List Int) (c4p6 : Int) (c4p7 : Int) (c4p8 : List Int) (c4p9 : List Int) (c4p10 : Int) => some (c4p0, c4p1, c4p2, c4p3, c4p4, c4p5, c4p6, c4p7, c4p8, c4p9, c4p10, [], ())) x0 x1
def F : Fn := ⟨(.pair (.pair .bool .unit) (.pair (.pair (.int .i64) (.pair (.arr 4 (.int .u64)) (.pair (.arr 4 (.int .u64)) (.pair (.arr 32 (.int .u8)) (.pair (.int .i64) (.pair (.arr 32 (.int .u8)) (.pair (.int .i64) (.pair (.int .i64) (.pair .str (.pair (.sl (.int .u8)) (.pair (.int .i64) (.pair (.sl (.arr 20 (.int .u8))) .unit)))))))))))) .unit)), (.pair (.int .i64) (.pair (.arr 4 (.int .u64)) (.pair (.arr 4 (.int .u64)) (.pair (.arr 32 (.int .u8)) (.pair (.int .i64) (.pair (.arr 32 (.int .u8)) (.pair (.int .i64) (.pair (.int .i64) (.pair .str (.pair (.sl (.int .u8)) (.pair (.int .i64) (.pair (.sl (.arr 20 (.int .u8))) .unit)))))))))))), false, fun x => run x.1 x.2.1⟩
set_option maxRecDepth 100000 in
theorem con : Con Try.prog 200 F := by
  refine con_of_den (C := C) (ctx_ok (by kernel_rfl) (by kernel_rfl) (by kernel_rfl) (by kernel_rfl) trivial) (by kernel_rfl) Try.func200 (c := cB Try.f200) (by kernel_rfl) (by kernel_rfl) F fuel (fun x => by simp [F, spread, Try.ntmps200]) ?_
  intro x r h
  rw [← h]
  have h1 : start F Try.f200.ntmps x = (St0 x.1 x.2.1) := by kernel_rfl
  rw [h1]
  refine (top_eq fuel (fin C Try.f200.results.toList F.rs F.multi) x.1 x.2.1).trans ?_
  kernel_rfl
theorem named : Named Try.prog 200 := named_of Try.func200 (by kernel_rfl) (by kernel_rfl)
end Go.Bx.load_transfer__bare
namespace Go.Bx.load_small
open Go Go.Proofs Go.Bx
set_option maxRecDepth 100000
set_option linter.unusedVariables false
def Js : List Nat := []
def C : Ctx := ⟨[(3, (.int .i64)), (4, .bool)], [], [], fnL [], noSh, [], invL [], [(2, [4])], [], [], 0, 0⟩
def St0 (x0 : Int) (x1 : Int) : St := stL 12 [(0, .data (.int .i64) x0), (1, .data (.int .i64) x1)] []
def St1 (x4 : Bool) : St := stL 12 [(4, .data .bool x4)] []
def top {α : Type} (Rt : Bool → Option α) (x0 : Int) (x1 : Int) : Option α :=
  Rt (cond (decide (x0 ≥ 0)) (decide (x0 ≤ x1)) false)
theorem top_eq {α : Type} (k : Nat) (Q : Ex → St → Option α) (x0 : Int) (x1 : Int) :
    (den C k) (cB Try.f204) Q (St0 x0 x1) = top (fun (x4 : Bool) => Q .ret (St1 x4)) x0 x1 := by
  have h : ∀ (D L : DT α), denJ D L Js C (cB Try.f204) Q (St0 x0 x1) =
        Q .ret (St1 (cond (decide (x0 ≥ 0)) (decide (x0 ≤ x1)) false)) := by
    intro D L; kernel_rfl
  refine (show (den C k) (cB Try.f204) Q (St0 x0 x1) = denJ (den C k) (lp C k) Js C (cB Try.f204) Q (St0 x0 x1) from (denJ_den _ _ _ _ _ _).symm).trans ((h (den C k) (lp C k)).trans ?_)
  first | rfl | kernel_rfl
def run (x0 : Int) (x1 : Int) : Option (Bool) := top (α := Bool) (fun (x4 : Bool) => some x4) x0 x1
def F : Fn := ⟨(.pair (.int .i64) (.pair (.int .i64) .unit)), .bool, false, fun x => run x.1 x.2.1⟩
set_option maxRecDepth 100000 in
theorem con : Con Try.prog 204 F := by
  refine con_of_den (C := C) (ctx_ok (by kernel_rfl) (by kernel_rfl) (by kernel_rfl) (by kernel_rfl) trivial) (by kernel_rfl) Try.func204 (c := cB Try.f204) (by kernel_rfl) (by kernel_rfl) F fuel (fun x => by simp [F, spread, Try.ntmps204]) ?_
  intro x r h
  rw [← h]
  have h1 : start F Try.f204.ntmps x = (St0 x.1 x.2.1) := by kernel_rfl
  rw [h1]
  refine (top_eq fuel (fin C Try.f204.results.toList F.rs F.multi) x.1 x.2.1).trans ?_
  kernel_rfl
theorem named : Named Try.prog 204 := named_of Try.func204 (by kernel_rfl) (by kernel_rfl)
end Go.Bx.load_small
namespace Go.Bx.load_transfer__check
open Go Go.Proofs Go.Bx
set_option maxRecDepth 100000
set_option linter.unusedVariables false
def Js : List Nat := []
def C : Ctx := ⟨[(3, (.int .i64)), (4, .bool), (40, (.sl (.int .u8))), (45, (.arr 4 (.int .u64))), (105, (.pair (.int .i64) (.pair (.arr 4 (.int .u64)) (.pair (.arr 4 (.int .u64)) (.pair (.arr 32 (.int .u8)) (.pair (.int .i64) (.pair (.arr 32 (.int .u8)) (.pair (.int .i64) (.pair (.int .i64) (.pair .str (.pair (.sl (.int .u8)) (.pair (.int .i64) (.pair (.sl (.arr 20 (.int .u8))) .unit))))))))))))), (202, (.pair .bool .unit))], [], [], fnL [(88, Go.Bx.wide_Cmp.F), (204, Go.Bx.load_small.F)], noSh, [], invL [], [(2, [4])], [], [], 0, 0⟩
def St0 (x0 : Bool × Unit) (x1 : Int × List Int × List Int × List Int × Int × List Int × Int × Int × List Int × List Int × Int × List (List Int) × Unit) : St := stL 42 [(0, .data (.pair .bool .unit) x0), (1, .data (.pair (.int .i64) (.pair (.arr 4 (.int .u64)) (.pair (.arr 4 (.int .u64)) (.pair (.arr 32 (.int .u8)) (.pair (.int .i64) (.pair (.arr 32 (.int .u8)) (.pair (.int .i64) (.pair (.int .i64) (.pair .str (.pair (.sl (.int .u8)) (.pair (.int .i64) (.pair (.sl (.arr 20 (.int .u8))) .unit)))))))))))) x1)] []
def St1 (x4 : Bool) : St := stL 42 [(4, .data .bool x4)] []
def top {α : Type} (Rt : Bool → Option α) (x0 : Bool × Unit) (x1 : Int × List Int × List Int × List Int × Int × List Int × Int × Int × List Int × List Int × Int × List (List Int) × Unit) : Option α :=
  (Go.Bx.load_small.run x1.2.2.2.2.1 65535).bind fun y1 =>
  (if (y1 == true) = true then Go.Bx.load_small.run x1.2.2.2.2.2.2.1 65535 else some false).bind fun y2 =>
  (if ((cond y1 y2 false) == true) = true then Go.Bx.wide_Cmp.run x1.2.2.1 x1.2.1 else some 0).bind fun y3 =>
  Rt (cond (cond (cond y1 y2 false) (decide (y3 ≤ 0)) false) (cond (cond x0.1 (decide ((x1.2.2.2.2.2.2.2.2.2.1.length : Int) ≤ 100)) false) true (cond (not x0.1) ((x1.2.2.2.2.2.2.2.2.2.1.length : Int) == 0) false)) false)
theorem top_eq {α : Type} (k : Nat) (Q : Ex → St → Option α) (x0 : Bool × Unit) (x1 : Int × List Int × List Int × List Int × Int × List Int × Int × Int × List Int × List Int × Int × List (List Int) × Unit) :
    (den C k) (cB Try.f201) Q (St0 x0 x1) = top (fun (x4 : Bool) => Q .ret (St1 x4)) x0 x1 := by
  have h : ∀ (D L : DT α), denJ D L Js C (cB Try.f201) Q (St0 x0 x1) =
        (Go.Bx.load_small.run x1.2.2.2.2.1 65535).bind fun y1 =>
        (if (y1 == true) = true then Go.Bx.load_small.run x1.2.2.2.2.2.2.1 65535 else some false).bind fun y2 =>
        (if ((cond y1 y2 false) == true) = true then Go.Bx.wide_Cmp.run x1.2.2.1 x1.2.1 else some 0).bind fun y3 =>
        Q .ret (St1 (cond (cond (cond y1 y2 false) (decide (y3 ≤ 0)) false) (cond (cond x0.1 (decide ((x1.2.2.2.2.2.2.2.2.2.1.length : Int) ≤ 100)) false) true (cond (not x0.1) ((x1.2.2.2.2.2.2.2.2.2.1.length : Int) == 0) false)) false)) := by
    intro D L; kernel_rfl
  refine (show (den C k) (cB Try.f201) Q (St0 x0 x1) = denJ (den C k) (lp C k) Js C (cB Try.f201) Q (St0 x0 x1) from (denJ_den _ _ _ _ _ _).symm).trans ((h (den C k) (lp C k)).trans ?_)
  first | rfl | kernel_rfl
def run (x0 : Bool × Unit) (x1 : Int × List Int × List Int × List Int × Int × List Int × Int × Int × List Int × List Int × Int × List (List Int) × Unit) : Option (Bool) := top (α := Bool) (fun (x4 : Bool) => some x4) x0 x1
def F : Fn := ⟨(.pair (.pair .bool .unit) (.pair (.pair (.int .i64) (.pair (.arr 4 (.int .u64)) (.pair (.arr 4 (.int .u64)) (.pair (.arr 32 (.int .u8)) (.pair (.int .i64) (.pair (.arr 32 (.int .u8)) (.pair (.int .i64) (.pair (.int .i64) (.pair .str (.pair (.sl (.int .u8)) (.pair (.int .i64) (.pair (.sl (.arr 20 (.int .u8))) .unit)))))))))))) .unit)), .bool, false, fun x => run x.1 x.2.1⟩
set_option maxRecDepth 100000 in
theorem con : Con Try.prog 201 F := by
  refine con_of_den (C := C) (ctx_ok (by kernel_rfl) (by kernel_rfl) (by kernel_rfl) (by kernel_rfl) ⟨.inl ⟨Go.Bx.wide_Cmp.con, Go.Bx.wide_Cmp.named⟩, ⟨.inl ⟨Go.Bx.load_small.con, Go.Bx.load_small.named⟩, trivial⟩⟩) (by kernel_rfl) Try.func201 (c := cB Try.f201) (by kernel_rfl) (by kernel_rfl) F fuel (fun x => by simp [F, spread, Try.ntmps201]) ?_
  intro x r h
  rw [← h]
  have h1 : start F Try.f201.ntmps x = (St0 x.1 x.2.1) := by kernel_rfl
  rw [h1]
  refine (top_eq fuel (fin C Try.f201.results.toList F.rs F.multi) x.1 x.2.1).trans ?_
  kernel_rfl
theorem named : Named Try.prog 201 := named_of Try.func201 (by kernel_rfl) (by kernel_rfl)
end Go.Bx.load_transfer__check
namespace Go.Bx.load_meta__bare
open Go Go.Proofs Go.Bx
set_option maxRecDepth 100000
set_option linter.unusedVariables false
def Js : List Nat := []
def C : Ctx := ⟨[(3, (.int .i64)), (9, .str), (39, (.arr 32 (.int .u8))), (105, (.pair (.int .i64) (.pair (.arr 4 (.int .u64)) (.pair (.arr 4 (.int .u64)) (.pair (.arr 32 (.int .u8)) (.pair (.int .i64) (.pair (.arr 32 (.int .u8)) (.pair (.int .i64) (.pair (.int .i64) (.pair .str (.pair (.sl (.int .u8)) (.pair (.int .i64) (.pair (.sl (.arr 20 (.int .u8))) .unit))))))))))))), (204, .unit)], [], [], fnL [], noSh, [], invL [], [(2, [4])], [], [], 0, 0⟩
def St0 (x0 : Unit) (x1 : Int × List Int × List Int × List Int × Int × List Int × Int × Int × List Int × List Int × Int × List (List Int) × Unit) : St := stL 16 [(0, .data .unit x0), (1, .data (.pair (.int .i64) (.pair (.arr 4 (.int .u64)) (.pair (.arr 4 (.int .u64)) (.pair (.arr 32 (.int .u8)) (.pair (.int .i64) (.pair (.arr 32 (.int .u8)) (.pair (.int .i64) (.pair (.int .i64) (.pair .str (.pair (.sl (.int .u8)) (.pair (.int .i64) (.pair (.sl (.arr 20 (.int .u8))) .unit)))))))))))) x1)] []
def St1 (c4p0 : Int) (c4p1 : List Int) (c4p2 : List Int) (c4p3 : List Int) (c4p4 : Int) (c4p5 : List Int) (c4p6 : Int) (c4p7 : Int) (c4p8 : List Int) (c4p10 : Int) : St := stL 16 [(4, .ref 4 0 [])] [(4, .cell (.pair (.int .i64) (.pair (.arr 4 (.int .u64)) (.pair (.arr 4 (.int .u64)) (.pair (.arr 32 (.int .u8)) (.pair (.int .i64) (.pair (.arr 32 (.int .u8)) (.pair (.int .i64) (.pair (.int .i64) (.pair .str (.pair (.sl (.int .u8)) (.pair (.int .i64) (.pair (.sl (.arr 20 (.int .u8))) .unit)))))))))))) (.agg (.pair (.int .i64) (.pair (.arr 4 (.int .u64)) (.pair (.arr 4 (.int .u64)) (.pair (.arr 32 (.int .u8)) (.pair (.int .i64) (.pair (.arr 32 (.int .u8)) (.pair (.int .i64) (.pair (.int .i64) (.pair .str (.pair (.sl (.int .u8)) (.pair (.int .i64) (.pair (.sl (.arr 20 (.int .u8))) .unit)))))))))))) [.data (.int .i64) c4p0, .data (.arr 4 (.int .u64)) c4p1, .data (.arr 4 (.int .u64)) c4p2, .data (.arr 32 (.int .u8)) c4p3, .data (.int .i64) c4p4, .data (.arr 32 (.int .u8)) c4p5, .data (.int .i64) c4p6, .data (.int .i64) c4p7, .data .str c4p8, .full (.int .u8) [], .data (.int .i64) c4p10, .full (.arr 20 (.int .u8)) []]) false)]
def top {α : Type} (Rt : Int → (List Int) → (List Int) → (List Int) → Int → (List Int) → Int → Int → (List Int) → Int → Option α) (x0 : Unit) (x1 : Int × List Int × List Int × List Int × Int × List Int × Int × Int × List Int × List Int × Int × List (List Int) × Unit) : Option α :=
  Rt x1.1 [0, 0, 0, 0] [0, 0, 0, 0] x1.2.2.2.1 x1.2.2.2.2.1 (List.replicate 32 0) 0 x1.2.2.2.2.2.2.2.1 x1.2.2.2.2.2.2.2.2.1 0
theorem top_eq {α : Type} (k : Nat) (Q : Ex → St → Option α) (x0 : Unit) (x1 : Int × List Int × List Int × List Int × Int × List Int × Int × Int × List Int × List Int × Int × List (List Int) × Unit) :
    (den C k) (cB Try.f207) Q (St0 x0 x1) = top (fun (c4p0 : Int) (c4p1 : List Int) (c4p2 : List Int) (c4p3 : List Int) (c4p4 : Int) (c4p5 : List Int) (c4p6 : Int) (c4p7 : Int) (c4p8 : List Int) (c4p10 : Int) => Q .ret (St1 c4p0 c4p1 c4p2 c4p3 c4p4 c4p5 c4p6 c4p7 c4p8 c4p10)) x0 x1 := by
  have h : ∀ (D L : DT α), denJ D L Js C (cB Try.f207) Q (St0 x0 x1) =
        Q .ret (St1 x1.1 [0, 0, 0, 0] [0, 0, 0, 0] x1.2.2.2.1 x1.2.2.2.2.1 (List.replicate 32 0) 0 x1.2.2.2.2.2.2.2.1 x1.2.2.2.2.2.2.2.2.1 0) := by
    intro D L; kernel_rfl
  refine (show (den C k) (cB Try.f207) Q (St0 x0 x1) = denJ (den C k) (lp C k) Js C (cB Try.f207) Q (St0 x0 x1) from (denJ_den _ _ _ _ _ _).symm).trans ((h (den C k) (lp C k)).trans ?_)
  first | rfl | kernel_rfl
def run (x0 : Unit) (x1 : Int × List Int × List Int × List Int × Int × List Int × Int × Int × List Int × List Int × Int × List (List Int) × Unit) : Option (Int × List Int × List Int × List Int × Int × List Int × Int × Int × List Int × List Int × Int × List (List Int) × Unit) := top (α := Int × List Int × List Int × List Int × Int × List Int × Int × Int × List Int × List Int × Int × List (List Int) × Unit) (fun (c4p0 : Int) (c4p1 : List Int) (c4p2 : List Int) (c4p3 : List Int) (c4p4 : Int) (c4p5 : List Int) (c4p6 : Int) (c4p7 : Int) (c4p8 : List Int) (c4p10 : Int) => some (c4p0, c4p1, c4p2, c4p3, c4p4, c4p5, c4p6, c4p7, c4p8, [], c4p10, [], ())) x0 x1
def F : Fn := ⟨(.pair .unit (.pair (.pair (.int .i64) (.pair (.arr 4 (.int .u64)) (.pair (.arr 4 (.int .u64)) (.pair (.arr 32 (.int .u8)) (.pair (.int .i64) (.pair (.arr 32 (.int .u8)) (.pair (.int .i64) (.pair (.int .i64) (.pair .str (.pair (.sl (.int .u8)) (.pair (.int .i64) (.pair (.sl (.arr 20 (.int .u8))) .unit)))))))))))) .unit)), (.pair (.int .i64) (.pair (.arr 4 (.int .u64)) (.pair (.arr 4 (.int .u64)) (.pair (.arr 32 (.int .u8)) (.pair (.int .i64) (.pair (.arr 32 (.int .u8)) (.pair (.int .i64) (.pair (.int .i64) (.pair .str (.pair (.sl (.int .u8)) (.pair (.int .i64) (.pair (.sl (.arr 20 (.int .u8))) .unit)))))))))))), false, fun x => run x.1 x.2.1⟩
set_option maxRecDepth 100000 in
theorem con : Con Try.prog 207 F := by
  refine con_of_den (C := C) (ctx_ok (by kernel_rfl) (by kernel_rfl) (by kernel_rfl) (by kernel_rfl) trivial) (by kernel_rfl) Try.func207 (c := cB Try.f207) (by kernel_rfl) (by kernel_rfl) F fuel (fun x => by simp [F, spread, Try.ntmps207]) ?_
  intro x r h
  rw [← h]
  have h1 : start F Try.f207.ntmps x = (St0 x.1 x.2.1) := by kernel_rfl
  rw [h1]
  refine (top_eq fuel (fin C Try.f207.results.toList F.rs F.multi) x.1 x.2.1).trans ?_
  kernel_rfl
theorem named : Named Try.prog 207 := named_of Try.func207 (by kernel_rfl) (by kernel_rfl)
end Go.Bx.load_meta__bare
namespace Go.Bx.load_meta__check
open Go Go.Proofs Go.Bx
set_option maxRecDepth 100000
set_option linter.unusedVariables false
def Js : List Nat := [8]
def C : Ctx := ⟨[(3, (.int .i64)), (4, .bool), (5, (.int .u8)), (9, .str), (40, (.sl (.int .u8))), (105, (.pair (.int .i64) (.pair (.arr 4 (.int .u64)) (.pair (.arr 4 (.int .u64)) (.pair (.arr 32 (.int .u8)) (.pair (.int .i64) (.pair (.arr 32 (.int .u8)) (.pair (.int .i64) (.pair (.int .i64) (.pair .str (.pair (.sl (.int .u8)) (.pair (.int .i64) (.pair (.sl (.arr 20 (.int .u8))) .unit))))))))))))), (204, .unit)], [], [], fnL [(204, Go.Bx.load_small.F)], noSh, [], invL [], [(2, [4]), (1, [5]), (4, [5, 24, 25, 26]), (9, [5, 24, 25, 26]), (21, [5])], [], [], 0, 0⟩
def St0 (x0 : Unit) (x1 : Int × List Int × List Int × List Int × Int × List Int × Int × Int × List Int × List Int × Int × List (List Int) × Unit) : St := stL 37 [(0, .data .unit x0), (1, .data (.pair (.int .i64) (.pair (.arr 4 (.int .u64)) (.pair (.arr 4 (.int .u64)) (.pair (.arr 32 (.int .u8)) (.pair (.int .i64) (.pair (.arr 32 (.int .u8)) (.pair (.int .i64) (.pair (.int .i64) (.pair .str (.pair (.sl (.int .u8)) (.pair (.int .i64) (.pair (.sl (.arr 20 (.int .u8))) .unit)))))))))))) x1)] []
def St1 (x5 : Bool) (x24 : List Int) (x25 : Int) (x26 : Int) : St := stL 37 [(5, .data .bool x5), (24, .data (.sl (.int .u8)) x24), (25, .data (.int .i64) x25), (26, .data (.int .i64) x26)] []
noncomputable def cd0 : Code := cL (cL (cR (cL (cR (cR (cB Try.f208))))))
def St2 (x5 : Bool) : St := stL 37 [(5, .data .bool x5)] []
def l0s {α : Type} (Nx : Bool → (List Int) → Int → Int → Option α) (Xt0 : Bool → Option α) (x5 : Bool) (x24 : List Int) (x25 : Int) (x26 : Int) : Option α :=
  if (decide (x26 < x25)) = true then
    if 0 ≤ x26 ∧ x26 < (x24.length : Int) then
      Nx (cond x5 ((List.getD x24 (Int.toNat x26) 0) != 0) false) x24 x25 (IntKind.i64.wrap (x26 + 1))
    else none
  else
    Xt0 x5
theorem l0s_eq {α : Type} (k : Nat) (next : St → Option α) (Q : Ex → St → Option α) (x5 : Bool) (x24 : List Int) (x25 : Int) (x26 : Int) :
    rnd C k cd0 9 Q next (St1 x5 x24 x25 x26) = l0s (fun (x5 : Bool) (x24 : List Int) (x25 : Int) (x26 : Int) => next (St1 x5 x24 x25 x26)) (fun (x5 : Bool) => Q (.exit 0) (St2 x5)) x5 x24 x25 x26 := by
  have h : ∀ (D L : DT α), denJ D L Js C cd0 (lq C 9 next Q) (St1 x5 x24 x25 x26) =
        if (decide (x26 < x25)) = true then
          if 0 ≤ x26 ∧ x26 < (x24.length : Int) then
            next (St1 (cond x5 ((List.getD x24 (Int.toNat x26) 0) != 0) false) x24 x25 (IntKind.i64.wrap (x26 + 1)))
          else none
        else
          Q (.exit 0) (St2 x5) := by
    intro D L; kernel_rfl
  refine (show rnd C k cd0 9 Q next (St1 x5 x24 x25 x26) = denJ (den C k) (lp C k) Js C cd0 (lq C 9 next Q) (St1 x5 x24 x25 x26) from (denJ_den _ _ _ _ _ _).symm).trans ((h (den C k) (lp C k)).trans ?_)
  first | rfl | kernel_rfl
def l0 {α : Type} (k : Nat) (Xt0 : Bool → Option α) : Nat → Bool → (List Int) → Int → Int → Option α
  | 0, _, _, _, _ => none
  | n + 1, x5, x24, x25, x26 => l0s (l0 k Xt0 n) Xt0 x5 x24 x25 x26
theorem l0_eq {α : Type} (k : Nat) (Q : Ex → St → Option α) : ∀ (n : Nat) (x5 : Bool) (x24 : List Int) (x25 : Int) (x26 : Int), iter (rnd C k cd0 9 Q) n (St1 x5 x24 x25 x26) = l0 k (fun (x5 : Bool) => Q (.exit 0) (St2 x5)) n x5 x24 x25 x26
  | 0, _, _, _, _ => rfl
  | n + 1, x5, x24, x25, x26 => (iter_succ _ _ _).trans ((l0s_eq k (iter (rnd C k cd0 9 Q) n) Q x5 x24 x25 x26).trans (congrArg (fun N => l0s N (fun (x5 : Bool) => Q (.exit 0) (St2 x5)) x5 x24 x25 x26) (funext fun x5 => funext fun x24 => funext fun x25 => funext fun x26 => l0_eq k Q n x5 x24 x25 x26)))
theorem l0_congr {α : Type} (k : Nat) (Xt0 : Bool → Option α) (Xt0q : Bool → Option α) (hXt0 : ∀ (x5 : Bool), Xt0 x5 = Xt0q x5) (n : Nat) (x5 : Bool) (x24 : List Int) (x25 : Int) (x26 : Int) : l0 k Xt0 n x5 x24 x25 x26 = l0 k Xt0q n x5 x24 x25 x26 := by
  obtain rfl : Xt0 = Xt0q := by funext x5; exact hXt0 x5
  rfl
noncomputable def cd1 : Code := cR (cR (cR (cB Try.f208)))
def St3 (x5 : Bool) : St := stL 37 [(5, .data .bool x5)] []
def St4 (x4 : Bool) : St := stL 37 [(4, .data .bool x4)] []
def j0 {α : Type} (Rt : Bool → Option α) (x5 : Bool) : Option α :=
  Rt x5
theorem j0_eq {α : Type} (k : Nat) (Q : Ex → St → Option α) (x5 : Bool) :
    (den C k) cd1 Q (St3 x5) = j0 (fun (x4 : Bool) => Q .ret (St4 x4)) x5 := by
  have h : ∀ (D L : DT α), denJ D L Js C cd1 Q (St3 x5) =
        Q .ret (St4 x5) := by
    intro D L; kernel_rfl
  refine (show (den C k) cd1 Q (St3 x5) = denJ (den C k) (lp C k) Js C cd1 Q (St3 x5) from (denJ_den _ _ _ _ _ _).symm).trans ((h (den C k) (lp C k)).trans ?_)
  first | rfl | kernel_rfl
theorem a0 {α : Type} (k : Nat) (Q : Ex → St → Option α) (x5 : Bool) (x24 : List Int) (x25 : Int) (x26 : Int) :
    (lp C k) cd0 (blkQ C 0 (sq (den C k) (lp C k) Js C cd1 Q)) (St1 x5 x24 x25 x26) = l0 k (fun (x5 : Bool) => j0 (fun (x4 : Bool) => Q .ret (St4 x4)) x5) k x5 x24 x25 x26 :=
  (show (lp C k) cd0 (blkQ C 0 (sq (den C k) (lp C k) Js C cd1 Q)) (St1 x5 x24 x25 x26) = iter (rnd C k cd0 9 (blkQ C 0 (sq (den C k) (lp C k) Js C cd1 Q))) k (St1 x5 x24 x25 x26) by kernel_rfl).trans ((l0_eq k (blkQ C 0 (sq (den C k) (lp C k) Js C cd1 Q)) k x5 x24 x25 x26).trans (l0_congr k _ _ (fun x5 => ((show (blkQ C 0 (sq (den C k) (lp C k) Js C cd1 Q)) (.exit 0) (St2 x5) = (den C k) cd1 Q (St3 x5) by kernel_rfl).trans (by simp only [j0_eq]))) k x5 x24 x25 x26))
def top {α : Type} (k : Nat) (Rt : Bool → Option α) (x0 : Unit) (x1 : Int × List Int × List Int × List Int × Int × List Int × Int × Int × List Int × List Int × Int × List (List Int) × Unit) : Option α :=
  (Go.Bx.load_small.run x1.2.2.2.2.1 65535).bind fun y1 =>
  (if (y1 == true) = true then Go.Bx.load_small.run x1.2.2.2.2.2.2.2.1 77 else some false).bind fun y2 =>
  l0 k (fun (x5 : Bool) => j0 Rt x5) k (cond (cond y1 y2 false) (decide ((x1.2.2.2.2.2.2.2.2.1.length : Int) ≤ 32)) false) x1.2.2.2.2.2.2.2.2.1 (x1.2.2.2.2.2.2.2.2.1.length : Int) 0
theorem top_eq {α : Type} (k : Nat) (Q : Ex → St → Option α) (x0 : Unit) (x1 : Int × List Int × List Int × List Int × Int × List Int × Int × Int × List Int × List Int × Int × List (List Int) × Unit) :
    (den C k) (cB Try.f208) Q (St0 x0 x1) = top k (fun (x4 : Bool) => Q .ret (St4 x4)) x0 x1 := by
  have h : ∀ (D L : DT α), denJ D L Js C (cB Try.f208) Q (St0 x0 x1) =
        (Go.Bx.load_small.run x1.2.2.2.2.1 65535).bind fun y1 =>
        (if (y1 == true) = true then Go.Bx.load_small.run x1.2.2.2.2.2.2.2.1 77 else some false).bind fun y2 =>
        L cd0 (blkQ C 0 (sq D L Js C cd1 Q)) (St1 (cond (cond y1 y2 false) (decide ((x1.2.2.2.2.2.2.2.2.1.length : Int) ≤ 32)) false) x1.2.2.2.2.2.2.2.2.1 (x1.2.2.2.2.2.2.2.2.1.length : Int) 0) := by
    intro D L; kernel_rfl
  refine (show (den C k) (cB Try.f208) Q (St0 x0 x1) = denJ (den C k) (lp C k) Js C (cB Try.f208) Q (St0 x0 x1) from (denJ_den _ _ _ _ _ _).symm).trans ((h (den C k) (lp C k)).trans ?_)
  simp only [a0]
  first | rfl | kernel_rfl
def run (x0 : Unit) (x1 : Int × List Int × List Int × List Int × Int × List Int × Int × Int × List Int × List Int × Int × List (List Int) × Unit) : Option (Bool) := top (α := Bool) fuel (fun (x4 : Bool) => some x4) x0 x1
def F : Fn := ⟨(.pair .unit (.pair (.pair (.int .i64) (.pair (.arr 4 (.int .u64)) (.pair (.arr 4 (.int .u64)) (.pair (.arr 32 (.int .u8)) (.pair (.int .i64) (.pair (.arr 32 (.int .u8)) (.pair (.int .i64) (.pair (.int .i64) (.pair .str (.pair (.sl (.int .u8)) (.pair (.int .i64) (.pair (.sl (.arr 20 (.int .u8))) .unit)))))))))))) .unit)), .bool, false, fun x => run x.1 x.2.1⟩
set_option maxRecDepth 100000 in
theorem con : Con Try.prog 208 F := by
  refine con_of_den (C := C) (ctx_ok (by kernel_rfl) (by kernel_rfl) (by kernel_rfl) (by kernel_rfl) ⟨.inl ⟨Go.Bx.load_small.con, Go.Bx.load_small.named⟩, trivial⟩) (by kernel_rfl) Try.func208 (c := cB Try.f208) (by kernel_rfl) (by kernel_rfl) F fuel (fun x => by simp [F, spread, Try.ntmps208]) ?_
  intro x r h
  rw [← h]
  have h1 : start F Try.f208.ntmps x = (St0 x.1 x.2.1) := by kernel_rfl
  rw [h1]
  refine (top_eq fuel (fin C Try.f208.results.toList F.rs F.multi) x.1 x.2.1).trans ?_
  kernel_rfl
theorem named : Named Try.prog 208 := named_of Try.func208 (by kernel_rfl) (by kernel_rfl)
end Go.Bx.load_meta__check
namespace Go.Bx.load_turn__bare
open Go Go.Proofs Go.Bx
set_option maxRecDepth 100000
set_option linter.unusedVariables false
def Js : List Nat := []
def C : Ctx := ⟨[(3, (.int .i64)), (34, (.sl (.arr 20 (.int .u8)))), (105, (.pair (.int .i64) (.pair (.arr 4 (.int .u64)) (.pair (.arr 4 (.int .u64)) (.pair (.arr 32 (.int .u8)) (.pair (.int .i64) (.pair (.arr 32 (.int .u8)) (.pair (.int .i64) (.pair (.int .i64) (.pair .str (.pair (.sl (.int .u8)) (.pair (.int .i64) (.pair (.sl (.arr 20 (.int .u8))) .unit))))))))))))), (205, .unit)], [], [], fnL [], noSh, [], invL [], [(2, [4])], [], [], 0, 0⟩
def St0 (x0 : Unit) (x1 : Int × List Int × List Int × List Int × Int × List Int × Int × Int × List Int × List Int × Int × List (List Int) × Unit) : St := stL 12 [(0, .data .unit x0), (1, .data (.pair (.int .i64) (.pair (.arr 4 (.int .u64)) (.pair (.arr 4 (.int .u64)) (.pair (.arr 32 (.int .u8)) (.pair (.int .i64) (.pair (.arr 32 (.int .u8)) (.pair (.int .i64) (.pair (.int .i64) (.pair .str (.pair (.sl (.int .u8)) (.pair (.int .i64) (.pair (.sl (.arr 20 (.int .u8))) .unit)))))))))))) x1)] []
def St1 (c4p0 : Int) (c4p1 : List Int) (c4p2 : List Int) (c4p3 : List Int) (c4p4 : Int) (c4p5 : List Int) (c4p6 : Int) (c4p7 : Int) (c4p8 : List Int) (c4p10 : Int) (c4p11 : List (List Int)) : St := stL 12 [(4, .ref 4 0 [])] [(4, .cell (.pair (.int .i64) (.pair (.arr 4 (.int .u64)) (.pair (.arr 4 (.int .u64)) (.pair (.arr 32 (.int .u8)) (.pair (.int .i64) (.pair (.arr 32 (.int .u8)) (.pair (.int .i64) (.pair (.int .i64) (.pair .str (.pair (.sl (.int .u8)) (.pair (.int .i64) (.pair (.sl (.arr 20 (.int .u8))) .unit)))))))))))) (.agg (.pair (.int .i64) (.pair (.arr 4 (.int .u64)) (.pair (.arr 4 (.int .u64)) (.pair (.arr 32 (.int .u8)) (.pair (.int .i64) (.pair (.arr 32 (.int .u8)) (.pair (.int .i64) (.pair (.int .i64) (.pair .str (.pair (.sl (.int .u8)) (.pair (.int .i64) (.pair (.sl (.arr 20 (.int .u8))) .unit)))))))))))) [.data (.int .i64) c4p0, .data (.arr 4 (.int .u64)) c4p1, .data (.arr 4 (.int .u64)) c4p2, .data (.arr 32 (.int .u8)) c4p3, .data (.int .i64) c4p4, .data (.arr 32 (.int .u8)) c4p5, .data (.int .i64) c4p6, .data (.int .i64) c4p7, .data .str c4p8, .full (.int .u8) [], .data (.int .i64) c4p10, .data (.sl (.arr 20 (.int .u8))) c4p11]) false)]
def top {α : Type} (Rt : Int → (List Int) → (List Int) → (List Int) → Int → (List Int) → Int → Int → (List Int) → Int → (List (List Int)) → Option α) (x0 : Unit) (x1 : Int × List Int × List Int × List Int × Int × List Int × Int × Int × List Int × List Int × Int × List (List Int) × Unit) : Option α :=
  Rt x1.1 [0, 0, 0, 0] [0, 0, 0, 0] (List.replicate 32 0) 0 (List.replicate 32 0) 0 0 [] x1.2.2.2.2.2.2.2.2.2.2.1 x1.2.2.2.2.2.2.2.2.2.2.2.1
theorem top_eq {α : Type} (k : Nat) (Q : Ex → St → Option α) (x0 : Unit) (x1 : Int × List Int × List Int × List Int × Int × List Int × Int × Int × List Int × List Int × Int × List (List Int) × Unit) :
    (den C k) (cB Try.f211) Q (St0 x0 x1) = top (fun (c4p0 : Int) (c4p1 : List Int) (c4p2 : List Int) (c4p3 : List Int) (c4p4 : Int) (c4p5 : List Int) (c4p6 : Int) (c4p7 : Int) (c4p8 : List Int) (c4p10 : Int) (c4p11 : List (List Int)) => Q .ret (St1 c4p0 c4p1 c4p2 c4p3 c4p4 c4p5 c4p6 c4p7 c4p8 c4p10 c4p11)) x0 x1 := by
  have h : ∀ (D L : DT α), denJ D L Js C (cB Try.f211) Q (St0 x0 x1) =
        Q .ret (St1 x1.1 [0, 0, 0, 0] [0, 0, 0, 0] (List.replicate 32 0) 0 (List.replicate 32 0) 0 0 [] x1.2.2.2.2.2.2.2.2.2.2.1 x1.2.2.2.2.2.2.2.2.2.2.2.1) := by
    intro D L; kernel_rfl
  refine (show (den C k) (cB Try.f211) Q (St0 x0 x1) = denJ (den C k) (lp C k) Js C (cB Try.f211) Q (St0 x0 x1) from (denJ_den _ _ _ _ _ _).symm).trans ((h (den C k) (lp C k)).trans ?_)
  first | rfl | kernel_rfl
def run (x0 : Unit) (x1 : Int × List Int × List Int × List Int × Int × List Int × Int × Int × List Int × List Int × Int × List (List Int) × Unit) : Option (Int × List Int × List Int × List Int × Int × List Int × Int × Int × List Int × List Int × Int × List (List Int) × Unit) := top (α := Int × List Int × List Int × List Int × Int × List Int × Int × Int × List Int × List Int × Int × List (List Int) × Unit) (fun (c4p0 : Int) (c4p1 : List Int) (c4p2 : List Int) (c4p3 : List Int) (c4p4 : Int) (c4p5 : List Int) (c4p6 : Int) (c4p7 : Int) (c4p8 : List Int) (c4p10 : Int) (c4p11 : List (List Int)) => some (c4p0, c4p1, c4p2, c4p3, c4p4, c4p5, c4p6, c4p7, c4p8, [], c4p10, c4p11, ())) x0 x1
def F : Fn := ⟨(.pair .unit (.pair (.pair (.int .i64) (.pair (.arr 4 (.int .u64)) (.pair (.arr 4 (.int .u64)) (.pair (.arr 32 (.int .u8)) (.pair (.int .i64) (.pair (.arr 32 (.int .u8)) (.pair (.int .i64) (.pair (.int .i64) (.pair .str (.pair (.sl (.int .u8)) (.pair (.int .i64) (.pair (.sl (.arr 20 (.int .u8))) .unit)))))))))))) .unit)), (.pair (.int .i64) (.pair (.arr 4 (.int .u64)) (.pair (.arr 4 (.int .u64)) (.pair (.arr 32 (.int .u8)) (.pair (.int .i64) (.pair (.arr 32 (.int .u8)) (.pair (.int .i64) (.pair (.int .i64) (.pair .str (.pair (.sl (.int .u8)) (.pair (.int .i64) (.pair (.sl (.arr 20 (.int .u8))) .unit)))))))))))), false, fun x => run x.1 x.2.1⟩
set_option maxRecDepth 100000 in
theorem con : Con Try.prog 211 F := by
  refine con_of_den (C := C) (ctx_ok (by kernel_rfl) (by kernel_rfl) (by kernel_rfl) (by kernel_rfl) trivial) (by kernel_rfl) Try.func211 (c := cB Try.f211) (by kernel_rfl) (by kernel_rfl) F fuel (fun x => by simp [F, spread, Try.ntmps211]) ?_
  intro x r h
  rw [← h]
  have h1 : start F Try.f211.ntmps x = (St0 x.1 x.2.1) := by kernel_rfl
  rw [h1]
  refine (top_eq fuel (fin C Try.f211.results.toList F.rs F.multi) x.1 x.2.1).trans ?_
  kernel_rfl
theorem named : Named Try.prog 211 := named_of Try.func211 (by kernel_rfl) (by kernel_rfl)
end Go.Bx.load_turn__bare
namespace Go.Bx.load_turn__check
open Go Go.Proofs Go.Bx
set_option maxRecDepth 100000
set_option linter.unusedVariables false
def Js : List Nat := []
def C : Ctx := ⟨[(3, (.int .i64)), (4, .bool), (34, (.sl (.arr 20 (.int .u8)))), (105, (.pair (.int .i64) (.pair (.arr 4 (.int .u64)) (.pair (.arr 4 (.int .u64)) (.pair (.arr 32 (.int .u8)) (.pair (.int .i64) (.pair (.arr 32 (.int .u8)) (.pair (.int .i64) (.pair (.int .i64) (.pair .str (.pair (.sl (.int .u8)) (.pair (.int .i64) (.pair (.sl (.arr 20 (.int .u8))) .unit))))))))))))), (205, .unit)], [], [], fnL [(204, Go.Bx.load_small.F)], noSh, [], invL [], [(2, [4])], [], [], 0, 0⟩
def St0 (x0 : Unit) (x1 : Int × List Int × List Int × List Int × Int × List Int × Int × Int × List Int × List Int × Int × List (List Int) × Unit) : St := stL 20 [(0, .data .unit x0), (1, .data (.pair (.int .i64) (.pair (.arr 4 (.int .u64)) (.pair (.arr 4 (.int .u64)) (.pair (.arr 32 (.int .u8)) (.pair (.int .i64) (.pair (.arr 32 (.int .u8)) (.pair (.int .i64) (.pair (.int .i64) (.pair .str (.pair (.sl (.int .u8)) (.pair (.int .i64) (.pair (.sl (.arr 20 (.int .u8))) .unit)))))))))))) x1)] []
def St1 (x4 : Bool) : St := stL 20 [(4, .data .bool x4)] []
def top {α : Type} (Rt : Bool → Option α) (x0 : Unit) (x1 : Int × List Int × List Int × List Int × Int × List Int × Int × Int × List Int × List Int × Int × List (List Int) × Unit) : Option α :=
  (Go.Bx.load_small.run x1.2.2.2.2.2.2.2.2.2.2.1 4294967295).bind fun y1 =>
  Rt (cond (cond y1 (decide ((x1.2.2.2.2.2.2.2.2.2.2.2.1.length : Int) ≥ 1)) false) (decide ((x1.2.2.2.2.2.2.2.2.2.2.2.1.length : Int) ≤ 19)) false)
theorem top_eq {α : Type} (k : Nat) (Q : Ex → St → Option α) (x0 : Unit) (x1 : Int × List Int × List Int × List Int × Int × List Int × Int × Int × List Int × List Int × Int × List (List Int) × Unit) :
    (den C k) (cB Try.f212) Q (St0 x0 x1) = top (fun (x4 : Bool) => Q .ret (St1 x4)) x0 x1 := by
  have h : ∀ (D L : DT α), denJ D L Js C (cB Try.f212) Q (St0 x0 x1) =
        (Go.Bx.load_small.run x1.2.2.2.2.2.2.2.2.2.2.1 4294967295).bind fun y1 =>
        Q .ret (St1 (cond (cond y1 (decide ((x1.2.2.2.2.2.2.2.2.2.2.2.1.length : Int) ≥ 1)) false) (decide ((x1.2.2.2.2.2.2.2.2.2.2.2.1.length : Int) ≤ 19)) false)) := by
    intro D L; kernel_rfl
  refine (show (den C k) (cB Try.f212) Q (St0 x0 x1) = denJ (den C k) (lp C k) Js C (cB Try.f212) Q (St0 x0 x1) from (denJ_den _ _ _ _ _ _).symm).trans ((h (den C k) (lp C k)).trans ?_)
  first | rfl | kernel_rfl
def run (x0 : Unit) (x1 : Int × List Int × List Int × List Int × Int × List Int × Int × Int × List Int × List Int × Int × List (List Int) × Unit) : Option (Bool) := top (α := Bool) (fun (x4 : Bool) => some x4) x0 x1
def F : Fn := ⟨(.pair .unit (.pair (.pair (.int .i64) (.pair (.arr 4 (.int .u64)) (.pair (.arr 4 (.int .u64)) (.pair (.arr 32 (.int .u8)) (.pair (.int .i64) (.pair (.arr 32 (.int .u8)) (.pair (.int .i64) (.pair (.int .i64) (.pair .str (.pair (.sl (.int .u8)) (.pair (.int .i64) (.pair (.sl (.arr 20 (.int .u8))) .unit)))))))))))) .unit)), .bool, false, fun x => run x.1 x.2.1⟩
set_option maxRecDepth 100000 in
theorem con : Con Try.prog 212 F := by
  refine con_of_den (C := C) (ctx_ok (by kernel_rfl) (by kernel_rfl) (by kernel_rfl) (by kernel_rfl) ⟨.inl ⟨Go.Bx.load_small.con, Go.Bx.load_small.named⟩, trivial⟩) (by kernel_rfl) Try.func212 (c := cB Try.f212) (by kernel_rfl) (by kernel_rfl) F fuel (fun x => by simp [F, spread, Try.ntmps212]) ?_
  intro x r h
  rw [← h]
  have h1 : start F Try.f212.ntmps x = (St0 x.1 x.2.1) := by kernel_rfl
  rw [h1]
  refine (top_eq fuel (fin C Try.f212.results.toList F.rs F.multi) x.1 x.2.1).trans ?_
  kernel_rfl
theorem named : Named Try.prog 212 := named_of Try.func212 (by kernel_rfl) (by kernel_rfl)
end Go.Bx.load_turn__check
namespace Go.Bx.load_kindOf_s0
open Go Go.Proofs Go.Bx
set_option maxRecDepth 100000
set_option linter.unusedVariables false
def Js : List Nat := [5]
def C : Ctx := ⟨[(202, (.pair .bool .unit)), (204, .unit), (205, .unit)], [], [], fnL [], noSh, [], invL [], [(2, [2, 3]), (1, []), (20, [0, 4, 5])], [], [], 0, 0⟩
def St0 (x0 : Int) : St := stL 20 [(0, .data (.int .i64) x0)] []
def St1 (x0 : Int) (x4 : Int) (x5 : Bool) : St := stL 20 [(0, .data (.int .i64) x0), (4, .data (.int .i64) x4), (5, .data .bool x5)] []
noncomputable def cd0 : Code := cR (cR (cB Try.f146))
noncomputable def cd1 : Code := cR (cL (cR (cL (cR (cB Try.f146)))))
def St2 (x2y : Bool × Unit) (x3 : Bool) : St := stL 20 [(2, .ifc 202 (.data (.pair .bool .unit) x2y)), (3, .data .bool x3)] []
def St3 (x2y : Unit) (x3 : Bool) : St := stL 20 [(2, .ifc 204 (.data .unit x2y)), (3, .data .bool x3)] []
def St4 (x2y : Unit) (x3 : Bool) : St := stL 20 [(2, .ifc 205 (.data .unit x2y)), (3, .data .bool x3)] []
def St5 (x3 : Bool) : St := stL 20 [(3, .data .bool x3)] []
def j0 {α : Type} (Rt0 : (Bool × Unit) → Bool → Option α) (Rt1 : Unit → Bool → Option α) (Rt2 : Unit → Bool → Option α) (Rt3 : Bool → Option α) (x0 : Int) (x4 : Int) (x5 : Bool) : Option α :=
  if x5 = true then
    Rt0 ((x0 == 3), ()) true
  else
    if (x4 == 2) = true then
      Rt1 () true
    else
      if (x4 == 4) = true then
        Rt2 () true
      else
        Rt3 false
theorem j0_eq {α : Type} (k : Nat) (Q : Ex → St → Option α) (x0 : Int) (x4 : Int) (x5 : Bool) :
    (den C k) cd1 (blkQ C 0 (sq (den C k) (lp C k) Js C cd0 (endQ C Q))) (St1 x0 x4 x5) = j0 (fun (x2y : Bool × Unit) (x3 : Bool) => Q .ret (St2 x2y x3)) (fun (x2y : Unit) (x3 : Bool) => Q .ret (St3 x2y x3)) (fun (x2y : Unit) (x3 : Bool) => Q .ret (St4 x2y x3)) (fun (x3 : Bool) => Q .ret (St5 x3)) x0 x4 x5 := by
  have h : ∀ (D L : DT α), denJ D L Js C cd1 (blkQ C 0 (sq D L Js C cd0 (endQ C Q))) (St1 x0 x4 x5) =
        if x5 = true then
          Q .ret (St2 ((x0 == 3), ()) true)
        else
          if (x4 == 2) = true then
            Q .ret (St3 () true)
          else
            if (x4 == 4) = true then
              Q .ret (St4 () true)
            else
              Q .ret (St5 false) := by
    intro D L; kernel_rfl
  refine (show (den C k) cd1 (blkQ C 0 (sq (den C k) (lp C k) Js C cd0 (endQ C Q))) (St1 x0 x4 x5) = denJ (den C k) (lp C k) Js C cd1 (blkQ C 0 (sq (den C k) (lp C k) Js C cd0 (endQ C Q))) (St1 x0 x4 x5) from (denJ_den _ _ _ _ _ _).symm).trans ((h (den C k) (lp C k)).trans ?_)
  first | rfl | kernel_rfl
def top {α : Type} (Rt0 : (Bool × Unit) → Bool → Option α) (Rt1 : Unit → Bool → Option α) (Rt2 : Unit → Bool → Option α) (Rt3 : Bool → Option α) (x0 : Int) : Option α :=
  if (x0 == 1) = true then
    j0 Rt0 Rt1 Rt2 Rt3 x0 x0 (x0 == 1)
  else
    j0 Rt0 Rt1 Rt2 Rt3 x0 x0 (x0 == 3)
theorem top_eq {α : Type} (k : Nat) (Q : Ex → St → Option α) (x0 : Int) :
    (den C k) (cB Try.f146) (endQ C Q) (St0 x0) = top (fun (x2y : Bool × Unit) (x3 : Bool) => Q .ret (St2 x2y x3)) (fun (x2y : Unit) (x3 : Bool) => Q .ret (St3 x2y x3)) (fun (x2y : Unit) (x3 : Bool) => Q .ret (St4 x2y x3)) (fun (x3 : Bool) => Q .ret (St5 x3)) x0 := by
  have h : ∀ (D L : DT α), denJ D L Js C (cB Try.f146) (endQ C Q) (St0 x0) =
        if (x0 == 1) = true then
          D cd1 (blkQ C 0 (sq D L Js C cd0 (endQ C Q))) (St1 x0 x0 (x0 == 1))
        else
          D cd1 (blkQ C 0 (sq D L Js C cd0 (endQ C Q))) (St1 x0 x0 (x0 == 3)) := by
    intro D L; kernel_rfl
  refine (show (den C k) (cB Try.f146) (endQ C Q) (St0 x0) = denJ (den C k) (lp C k) Js C (cB Try.f146) (endQ C Q) (St0 x0) from (denJ_den _ _ _ _ _ _).symm).trans ((h (den C k) (lp C k)).trans ?_)
  simp only [j0_eq]
  first | rfl | kernel_rfl
def run (x0 : Int) : Option (((Bool × Unit) × Bool × Unit) ⊕ ((Unit × Bool × Unit) ⊕ ((Unit × Bool × Unit) ⊕ ((Bool × Unit) ⊕ (Empty))))) := top (α := ((Bool × Unit) × Bool × Unit) ⊕ ((Unit × Bool × Unit) ⊕ ((Unit × Bool × Unit) ⊕ ((Bool × Unit) ⊕ (Empty))))) (fun (x2y : Bool × Unit) (x3 : Bool) => some (.inl (x2y, x3, ()))) (fun (x2y : Unit) (x3 : Bool) => some (.inr (.inl (x2y, x3, ())))) (fun (x2y : Unit) (x3 : Bool) => some (.inr (.inr (.inl (x2y, x3, ()))))) (fun (x3 : Bool) => some (.inr (.inr (.inr (.inl (x3, ())))))) x0
def Sp : SpecA := ⟨[hD (.int .i64)], [], (.pair (.int .i64) .unit), [⟨.tup [.ifc 202 (hD (.pair .bool .unit)), hD .bool], [], (.pair (.pair .bool .unit) (.pair .bool .unit))⟩, ⟨.tup [.ifc 204 (hD .unit), hD .bool], [], (.pair .unit (.pair .bool .unit))⟩, ⟨.tup [.ifc 205 (hD .unit), hD .bool], [], (.pair .unit (.pair .bool .unit))⟩, ⟨.tup [.any, hD .bool], [], (.pair .bool .unit)⟩], fun x => run x.1⟩
set_option maxRecDepth 100000 in
theorem sok : SOk Try.prog 146 Sp.h := by
  refine sok_of_denA (C := C) (ctx_ok (by kernel_rfl) (by kernel_rfl) (by kernel_rfl) (by kernel_rfl) trivial) (by kernel_rfl) Try.func146 (c := cB Try.f146) (by kernel_rfl) (by kernel_rfl) Sp fuel (by kernel_rfl) (by kernel_rfl) ?_
  intro x r h
  rw [← h]
  have h1 : Sp.start x Try.f146.ntmps = (St0 x.1) := by kernel_rfl
  rw [h1]
  refine (top_eq fuel (finS C Try.f146.results.toList Sp.read) x.1).trans ?_
  kernel_rfl
theorem named : Named Try.prog 146 := named_of Try.func146 (by kernel_rfl) (by kernel_rfl)
end Go.Bx.load_kindOf_s0
namespace Go.Bx.load_Check
open Go Go.Proofs Go.Bx
set_option maxRecDepth 100000
set_option linter.unusedVariables false
def Js : List Nat := []
def C : Ctx := ⟨[(3, (.int .i64)), (31, (.int .i64)), (105, (.pair (.int .i64) (.pair (.arr 4 (.int .u64)) (.pair (.arr 4 (.int .u64)) (.pair (.arr 32 (.int .u8)) (.pair (.int .i64) (.pair (.arr 32 (.int .u8)) (.pair (.int .i64) (.pair (.int .i64) (.pair .str (.pair (.sl (.int .u8)) (.pair (.int .i64) (.pair (.sl (.arr 20 (.int .u8))) .unit)))))))))))))], [], [], fnL [(170, Go.Bx.load_same.F), (200, Go.Bx.load_transfer__bare.F), (201, Go.Bx.load_transfer__check.F), (207, Go.Bx.load_meta__bare.F), (208, Go.Bx.load_meta__check.F), (211, Go.Bx.load_turn__bare.F), (212, Go.Bx.load_turn__check.F)], shL [(146, [.alt Go.Bx.load_kindOf_s0.Sp])], [(8, 26)], invL [(202, [("bascule/load.bare", 200), ("bascule/load.check", 201)]), (204, [("bascule/load.bare", 207), ("bascule/load.check", 208)]), (205, [("bascule/load.bare", 211), ("bascule/load.check", 212)])], [(2, [2])], [], [], 0, 0⟩
def St0 (x0 : Int × List Int × List Int × List Int × Int × List Int × Int × Int × List Int × List Int × Int × List (List Int) × Unit) : St := stL 25 [(0, .data (.pair (.int .i64) (.pair (.arr 4 (.int .u64)) (.pair (.arr 4 (.int .u64)) (.pair (.arr 32 (.int .u8)) (.pair (.int .i64) (.pair (.arr 32 (.int .u8)) (.pair (.int .i64) (.pair (.int .i64) (.pair .str (.pair (.sl (.int .u8)) (.pair (.int .i64) (.pair (.sl (.arr 20 (.int .u8))) .unit)))))))))))) x0)] []
def St1 (x2 : Int) : St := stL 25 [(2, .data (.int .i64) x2)] []
def top {α : Type} (Rt : Int → Option α) (x0 : Int × List Int × List Int × List Int × Int × List Int × Int × Int × List Int × List Int × Int × List (List Int) × Unit) : Option α :=
  (Go.Bx.load_kindOf_s0.run x0.1).bind fun y1 => (Sum.elim (fun y2 =>
    if (not y2.2.1) = true then
      Rt 2
    else
      (Go.Bx.load_transfer__check.run y2.1 x0).bind fun y6 =>
      (if ((not y6) == false) = true then Go.Bx.load_transfer__bare.run y2.1 x0 else some (0, [0, 0, 0, 0], [0, 0, 0, 0], (List.replicate 32 0), 0, (List.replicate 32 0), 0, 0, [], [], 0, [], ())).bind fun y7 =>
      (if ((not y6) == false) = true then Go.Bx.load_same.run x0 y7 else some false).bind fun y8 =>
      if (cond (not y6) true (not y8)) = true then
        Rt 3
      else
        Rt 0) (Sum.elim (fun y3 =>
    if (not y3.2.1) = true then
      Rt 2
    else
      (Go.Bx.load_meta__check.run y3.1 x0).bind fun y9 =>
      (if ((not y9) == false) = true then Go.Bx.load_meta__bare.run y3.1 x0 else some (0, [0, 0, 0, 0], [0, 0, 0, 0], (List.replicate 32 0), 0, (List.replicate 32 0), 0, 0, [], [], 0, [], ())).bind fun y10 =>
      (if ((not y9) == false) = true then Go.Bx.load_same.run x0 y10 else some false).bind fun y11 =>
      if (cond (not y9) true (not y11)) = true then
        Rt 3
      else
        Rt 0) (Sum.elim (fun y4 =>
    if (not y4.2.1) = true then
      Rt 2
    else
      (Go.Bx.load_turn__check.run y4.1 x0).bind fun y12 =>
      (if ((not y12) == false) = true then Go.Bx.load_turn__bare.run y4.1 x0 else some (0, [0, 0, 0, 0], [0, 0, 0, 0], (List.replicate 32 0), 0, (List.replicate 32 0), 0, 0, [], [], 0, [], ())).bind fun y13 =>
      (if ((not y12) == false) = true then Go.Bx.load_same.run x0 y13 else some false).bind fun y14 =>
      if (cond (not y12) true (not y14)) = true then
        Rt 3
      else
        Rt 0) (Sum.elim (fun y5 =>
    if (not y5.1) = true then
      Rt 2
    else
      none) (fun (e : Empty) => e.elim))))) y1
theorem top_eq {α : Type} (k : Nat) (Q : Ex → St → Option α) (x0 : Int × List Int × List Int × List Int × Int × List Int × Int × Int × List Int × List Int × Int × List (List Int) × Unit) :
    (den C k) (cB Try.f147) Q (St0 x0) = top (fun (x2 : Int) => Q .ret (St1 x2)) x0 := by
  have h : ∀ (D L : DT α), denJ D L Js C (cB Try.f147) Q (St0 x0) =
        (Go.Bx.load_kindOf_s0.run x0.1).bind fun y1 => (Sum.elim (fun y2 =>
          if (not y2.2.1) = true then
            Q .ret (St1 2)
          else
            (Go.Bx.load_transfer__check.run y2.1 x0).bind fun y6 =>
            (if ((not y6) == false) = true then Go.Bx.load_transfer__bare.run y2.1 x0 else some (0, [0, 0, 0, 0], [0, 0, 0, 0], (List.replicate 32 0), 0, (List.replicate 32 0), 0, 0, [], [], 0, [], ())).bind fun y7 =>
            (if ((not y6) == false) = true then Go.Bx.load_same.run x0 y7 else some false).bind fun y8 =>
            if (cond (not y6) true (not y8)) = true then
              Q .ret (St1 3)
            else
              Q .ret (St1 0)) (Sum.elim (fun y3 =>
          if (not y3.2.1) = true then
            Q .ret (St1 2)
          else
            (Go.Bx.load_meta__check.run y3.1 x0).bind fun y9 =>
            (if ((not y9) == false) = true then Go.Bx.load_meta__bare.run y3.1 x0 else some (0, [0, 0, 0, 0], [0, 0, 0, 0], (List.replicate 32 0), 0, (List.replicate 32 0), 0, 0, [], [], 0, [], ())).bind fun y10 =>
            (if ((not y9) == false) = true then Go.Bx.load_same.run x0 y10 else some false).bind fun y11 =>
            if (cond (not y9) true (not y11)) = true then
              Q .ret (St1 3)
            else
              Q .ret (St1 0)) (Sum.elim (fun y4 =>
          if (not y4.2.1) = true then
            Q .ret (St1 2)
          else
            (Go.Bx.load_turn__check.run y4.1 x0).bind fun y12 =>
            (if ((not y12) == false) = true then Go.Bx.load_turn__bare.run y4.1 x0 else some (0, [0, 0, 0, 0], [0, 0, 0, 0], (List.replicate 32 0), 0, (List.replicate 32 0), 0, 0, [], [], 0, [], ())).bind fun y13 =>
            (if ((not y12) == false) = true then Go.Bx.load_same.run x0 y13 else some false).bind fun y14 =>
            if (cond (not y12) true (not y14)) = true then
              Q .ret (St1 3)
            else
              Q .ret (St1 0)) (Sum.elim (fun y5 =>
          if (not y5.1) = true then
            Q .ret (St1 2)
          else
            none) (fun (e : Empty) => e.elim))))) y1 := by
    intro D L; kernel_rfl
  refine (show (den C k) (cB Try.f147) Q (St0 x0) = denJ (den C k) (lp C k) Js C (cB Try.f147) Q (St0 x0) from (denJ_den _ _ _ _ _ _).symm).trans ((h (den C k) (lp C k)).trans ?_)
  first | rfl | kernel_rfl
def run (x0 : Int × List Int × List Int × List Int × Int × List Int × Int × Int × List Int × List Int × Int × List (List Int) × Unit) : Option (Int) := top (α := Int) (fun (x2 : Int) => some x2) x0
def F : Fn := ⟨(.pair (.pair (.int .i64) (.pair (.arr 4 (.int .u64)) (.pair (.arr 4 (.int .u64)) (.pair (.arr 32 (.int .u8)) (.pair (.int .i64) (.pair (.arr 32 (.int .u8)) (.pair (.int .i64) (.pair (.int .i64) (.pair .str (.pair (.sl (.int .u8)) (.pair (.int .i64) (.pair (.sl (.arr 20 (.int .u8))) .unit)))))))))))) .unit), (.int .i64), false, fun x => run x.1⟩
set_option maxRecDepth 100000 in
theorem con : Con Try.prog 147 F := by
  refine con_of_den (C := C) (ctx_ok_sh (by kernel_rfl) (by kernel_rfl) (by kernel_rfl) (by kernel_rfl) ⟨.inl ⟨Go.Bx.load_same.con, Go.Bx.load_same.named⟩, ⟨.inl ⟨Go.Bx.load_transfer__bare.con, Go.Bx.load_transfer__bare.named⟩, ⟨.inl ⟨Go.Bx.load_transfer__check.con, Go.Bx.load_transfer__check.named⟩, ⟨.inl ⟨Go.Bx.load_meta__bare.con, Go.Bx.load_meta__bare.named⟩, ⟨.inl ⟨Go.Bx.load_meta__check.con, Go.Bx.load_meta__check.named⟩, ⟨.inl ⟨Go.Bx.load_turn__bare.con, Go.Bx.load_turn__bare.named⟩, ⟨.inl ⟨Go.Bx.load_turn__check.con, Go.Bx.load_turn__check.named⟩, trivial⟩⟩⟩⟩⟩⟩⟩ ⟨⟨⟨Go.Bx.load_kindOf_s0.sok, trivial⟩, Go.Bx.load_kindOf_s0.named⟩, trivial⟩) (by kernel_rfl) Try.func147 (c := cB Try.f147) (by kernel_rfl) (by kernel_rfl) F fuel (fun x => by simp [F, spread, Try.ntmps147]) ?_
  intro x r h
  rw [← h]
  have h1 : start F Try.f147.ntmps x = (St0 x.1) := by kernel_rfl
  rw [h1]
  refine (top_eq fuel (fin C Try.f147.results.toList F.rs F.multi) x.1).trans ?_
  kernel_rfl
theorem named : Named Try.prog 147 := named_of Try.func147 (by kernel_rfl) (by kernel_rfl)
end Go.Bx.load_Check
namespace Go.Bx.basculeref_Order
open Go Go.Proofs Go.Bx
set_option maxRecDepth 100000
set_option linter.unusedVariables false
def Js : List Nat := []
def C : Ctx := ⟨[(3, (.int .i64)), (45, (.arr 4 (.int .u64)))], [], [], fnL [(108, Go.Bx.basculeref_of.F), (113, Go.Bx.basculeref_compare.F)], noSh, [], invL [], [(2, [4])], [], [], 0, 0⟩
def St0 (x0 : List Int) (x1 : List Int) : St := stL 10 [(0, .data (.arr 4 (.int .u64)) x0), (1, .data (.arr 4 (.int .u64)) x1)] []
def St1 (x4 : Int) : St := stL 10 [(4, .data (.int .i64) x4)] []
def top {α : Type} (Rt : Int → Option α) (x0 : List Int) (x1 : List Int) : Option α :=
  (Go.Bx.basculeref_of.run x0).bind fun y1 =>
  (Go.Bx.basculeref_of.run x1).bind fun y2 =>
  (Go.Bx.basculeref_compare.run y1 y2).bind fun y3 =>
  Rt y3
theorem top_eq {α : Type} (k : Nat) (Q : Ex → St → Option α) (x0 : List Int) (x1 : List Int) :
    (den C k) (cB Try.f78) Q (St0 x0 x1) = top (fun (x4 : Int) => Q .ret (St1 x4)) x0 x1 := by
  have h : ∀ (D L : DT α), denJ D L Js C (cB Try.f78) Q (St0 x0 x1) =
        (Go.Bx.basculeref_of.run x0).bind fun y1 =>
        (Go.Bx.basculeref_of.run x1).bind fun y2 =>
        (Go.Bx.basculeref_compare.run y1 y2).bind fun y3 =>
        Q .ret (St1 y3) := by
    intro D L; kernel_rfl
  refine (show (den C k) (cB Try.f78) Q (St0 x0 x1) = denJ (den C k) (lp C k) Js C (cB Try.f78) Q (St0 x0 x1) from (denJ_den _ _ _ _ _ _).symm).trans ((h (den C k) (lp C k)).trans ?_)
  first | rfl | kernel_rfl
def run (x0 : List Int) (x1 : List Int) : Option (Int) := top (α := Int) (fun (x4 : Int) => some x4) x0 x1
def F : Fn := ⟨(.pair (.arr 4 (.int .u64)) (.pair (.arr 4 (.int .u64)) .unit)), (.int .i64), false, fun x => run x.1 x.2.1⟩
set_option maxRecDepth 100000 in
theorem con : Con Try.prog 78 F := by
  refine con_of_den (C := C) (ctx_ok (by kernel_rfl) (by kernel_rfl) (by kernel_rfl) (by kernel_rfl) ⟨.inl ⟨Go.Bx.basculeref_of.con, Go.Bx.basculeref_of.named⟩, ⟨.inl ⟨Go.Bx.basculeref_compare.con, Go.Bx.basculeref_compare.named⟩, trivial⟩⟩) (by kernel_rfl) Try.func78 (c := cB Try.f78) (by kernel_rfl) (by kernel_rfl) F fuel (fun x => by simp [F, spread, Try.ntmps78]) ?_
  intro x r h
  rw [← h]
  have h1 : start F Try.f78.ntmps x = (St0 x.1 x.2.1) := by kernel_rfl
  rw [h1]
  refine (top_eq fuel (fin C Try.f78.results.toList F.rs F.multi) x.1 x.2.1).trans ?_
  kernel_rfl
theorem named : Named Try.prog 78 := named_of Try.func78 (by kernel_rfl) (by kernel_rfl)
end Go.Bx.basculeref_Order
namespace Go.Bx.basculeref_only
open Go Go.Proofs Go.Bx
set_option maxRecDepth 100000
set_option linter.unusedVariables false
def Js : List Nat := [5]
def C : Ctx := ⟨[(3, (.int .i64)), (4, .bool), (9, .str), (34, (.sl (.arr 20 (.int .u8)))), (39, (.arr 32 (.int .u8))), (40, (.sl (.int .u8))), (45, (.arr 4 (.int .u64))), (105, (.pair (.int .i64) (.pair (.arr 4 (.int .u64)) (.pair (.arr 4 (.int .u64)) (.pair (.arr 32 (.int .u8)) (.pair (.int .i64) (.pair (.arr 32 (.int .u8)) (.pair (.int .i64) (.pair (.int .i64) (.pair .str (.pair (.sl (.int .u8)) (.pair (.int .i64) (.pair (.sl (.arr 20 (.int .u8))) .unit)))))))))))))], [], [], fnL [], noSh, [], invL [], [(2, [2, 3]), (1, [2]), (20, [1, 2, 5, 6])], [(2, [.dat false 2 [9], .dat false 2 []])], [], 0, 0⟩
def St0 (x0 : Int × List Int × List Int × List Int × Int × List Int × Int × Int × List Int × List Int × Int × List (List Int) × Unit) : St := stL 49 [(0, .data (.pair (.int .i64) (.pair (.arr 4 (.int .u64)) (.pair (.arr 4 (.int .u64)) (.pair (.arr 32 (.int .u8)) (.pair (.int .i64) (.pair (.arr 32 (.int .u8)) (.pair (.int .i64) (.pair (.int .i64) (.pair .str (.pair (.sl (.int .u8)) (.pair (.int .i64) (.pair (.sl (.arr 20 (.int .u8))) .unit)))))))))))) x0)] []
def St1 (x5 : Int) (x6 : Bool) (c1 : Int × List Int × List Int × List Int × Int × List Int × Int × Int × List Int × List Int × Int × List (List Int) × Unit) (c2p0 : Int) (c2p1 : List Int) (c2p2 : List Int) (c2p3 : List Int) (c2p4 : Int) (c2p5 : List Int) (c2p6 : Int) (c2p7 : Int) (c2p8 : List Int) (c2p10 : Int) : St := stL 49 [(1, .ref 1 0 []), (2, .ref 2 0 []), (5, .data (.int .i64) x5), (6, .data .bool x6)] [(1, .cell (.pair (.int .i64) (.pair (.arr 4 (.int .u64)) (.pair (.arr 4 (.int .u64)) (.pair (.arr 32 (.int .u8)) (.pair (.int .i64) (.pair (.arr 32 (.int .u8)) (.pair (.int .i64) (.pair (.int .i64) (.pair .str (.pair (.sl (.int .u8)) (.pair (.int .i64) (.pair (.sl (.arr 20 (.int .u8))) .unit)))))))))))) (.data (.pair (.int .i64) (.pair (.arr 4 (.int .u64)) (.pair (.arr 4 (.int .u64)) (.pair (.arr 32 (.int .u8)) (.pair (.int .i64) (.pair (.arr 32 (.int .u8)) (.pair (.int .i64) (.pair (.int .i64) (.pair .str (.pair (.sl (.int .u8)) (.pair (.int .i64) (.pair (.sl (.arr 20 (.int .u8))) .unit)))))))))))) c1) false), (2, .cell (.pair (.int .i64) (.pair (.arr 4 (.int .u64)) (.pair (.arr 4 (.int .u64)) (.pair (.arr 32 (.int .u8)) (.pair (.int .i64) (.pair (.arr 32 (.int .u8)) (.pair (.int .i64) (.pair (.int .i64) (.pair .str (.pair (.sl (.int .u8)) (.pair (.int .i64) (.pair (.sl (.arr 20 (.int .u8))) .unit)))))))))))) (.agg (.pair (.int .i64) (.pair (.arr 4 (.int .u64)) (.pair (.arr 4 (.int .u64)) (.pair (.arr 32 (.int .u8)) (.pair (.int .i64) (.pair (.arr 32 (.int .u8)) (.pair (.int .i64) (.pair (.int .i64) (.pair .str (.pair (.sl (.int .u8)) (.pair (.int .i64) (.pair (.sl (.arr 20 (.int .u8))) .unit)))))))))))) [.data (.int .i64) c2p0, .data (.arr 4 (.int .u64)) c2p1, .data (.arr 4 (.int .u64)) c2p2, .data (.arr 32 (.int .u8)) c2p3, .data (.int .i64) c2p4, .data (.arr 32 (.int .u8)) c2p5, .data (.int .i64) c2p6, .data (.int .i64) c2p7, .data .str c2p8, .full (.int .u8) [], .data (.int .i64) c2p10, .full (.arr 20 (.int .u8)) []]) false)]
noncomputable def cd0 : Code := cR (cR (cB Try.f172))
noncomputable def cd1 : Code := cR (cL (cR (cL (cR (cB Try.f172)))))
def St2 (x3 : Bool) (c2 : Int × List Int × List Int × List Int × Int × List Int × Int × Int × List Int × List Int × Int × List (List Int) × Unit) : St := stL 49 [(2, .ref 2 0 []), (3, .data .bool x3)] [(2, .cell (.pair (.int .i64) (.pair (.arr 4 (.int .u64)) (.pair (.arr 4 (.int .u64)) (.pair (.arr 32 (.int .u8)) (.pair (.int .i64) (.pair (.arr 32 (.int .u8)) (.pair (.int .i64) (.pair (.int .i64) (.pair .str (.pair (.sl (.int .u8)) (.pair (.int .i64) (.pair (.sl (.arr 20 (.int .u8))) .unit)))))))))))) (.data (.pair (.int .i64) (.pair (.arr 4 (.int .u64)) (.pair (.arr 4 (.int .u64)) (.pair (.arr 32 (.int .u8)) (.pair (.int .i64) (.pair (.arr 32 (.int .u8)) (.pair (.int .i64) (.pair (.int .i64) (.pair .str (.pair (.sl (.int .u8)) (.pair (.int .i64) (.pair (.sl (.arr 20 (.int .u8))) .unit)))))))))))) c2) false)]
def j0 {α : Type} (Rt : Bool → (Int × List Int × List Int × List Int × Int × List Int × Int × Int × List Int × List Int × Int × List (List Int) × Unit) → Option α) (x5 : Int) (x6 : Bool) (c1 : Int × List Int × List Int × List Int × Int × List Int × Int × Int × List Int × List Int × Int × List (List Int) × Unit) (c2p0 : Int) (c2p1 : List Int) (c2p2 : List Int) (c2p3 : List Int) (c2p4 : Int) (c2p5 : List Int) (c2p6 : Int) (c2p7 : Int) (c2p8 : List Int) (c2p10 : Int) : Option α :=
  if x6 = true then
    Rt true (c1.1, c1.2.1, c1.2.2.1, c1.2.2.2.1, c1.2.2.2.2.1, c1.2.2.2.2.2.1, c1.2.2.2.2.2.2.1, 0, [], c1.2.2.2.2.2.2.2.2.2.1, 0, [], ())
  else
    if (x5 == 2) = true then
      Rt true (c1.1, [0, 0, 0, 0], [0, 0, 0, 0], c1.2.2.2.1, c1.2.2.2.2.1, (List.replicate 32 0), 0, c1.2.2.2.2.2.2.2.1, c1.2.2.2.2.2.2.2.2.1, [], 0, [], ())
    else
      if (x5 == 4) = true then
        Rt true (c1.1, [0, 0, 0, 0], [0, 0, 0, 0], (List.replicate 32 0), 0, (List.replicate 32 0), 0, 0, [], [], c1.2.2.2.2.2.2.2.2.2.2.1, c1.2.2.2.2.2.2.2.2.2.2.2.1, ())
      else
        Rt false (0, [0, 0, 0, 0], [0, 0, 0, 0], (List.replicate 32 0), 0, (List.replicate 32 0), 0, 0, [], [], 0, [], ())
theorem j0_eq {α : Type} (k : Nat) (Q : Ex → St → Option α) (x5 : Int) (x6 : Bool) (c1 : Int × List Int × List Int × List Int × Int × List Int × Int × Int × List Int × List Int × Int × List (List Int) × Unit) (c2p0 : Int) (c2p1 : List Int) (c2p2 : List Int) (c2p3 : List Int) (c2p4 : Int) (c2p5 : List Int) (c2p6 : Int) (c2p7 : Int) (c2p8 : List Int) (c2p10 : Int) :
    (den C k) cd1 (blkQ C 0 (sq (den C k) (lp C k) Js C cd0 Q)) (St1 x5 x6 c1 c2p0 c2p1 c2p2 c2p3 c2p4 c2p5 c2p6 c2p7 c2p8 c2p10) = j0 (fun (x3 : Bool) (c2 : Int × List Int × List Int × List Int × Int × List Int × Int × Int × List Int × List Int × Int × List (List Int) × Unit) => Q .ret (St2 x3 c2)) x5 x6 c1 c2p0 c2p1 c2p2 c2p3 c2p4 c2p5 c2p6 c2p7 c2p8 c2p10 := by
  have h : ∀ (D L : DT α), denJ D L Js C cd1 (blkQ C 0 (sq D L Js C cd0 Q)) (St1 x5 x6 c1 c2p0 c2p1 c2p2 c2p3 c2p4 c2p5 c2p6 c2p7 c2p8 c2p10) =
        if x6 = true then
          Q .ret (St2 true (c1.1, c1.2.1, c1.2.2.1, c1.2.2.2.1, c1.2.2.2.2.1, c1.2.2.2.2.2.1, c1.2.2.2.2.2.2.1, 0, [], c1.2.2.2.2.2.2.2.2.2.1, 0, [], ()))
        else
          if (x5 == 2) = true then
            Q .ret (St2 true (c1.1, [0, 0, 0, 0], [0, 0, 0, 0], c1.2.2.2.1, c1.2.2.2.2.1, (List.replicate 32 0), 0, c1.2.2.2.2.2.2.2.1, c1.2.2.2.2.2.2.2.2.1, [], 0, [], ()))
          else
            if (x5 == 4) = true then
              Q .ret (St2 true (c1.1, [0, 0, 0, 0], [0, 0, 0, 0], (List.replicate 32 0), 0, (List.replicate 32 0), 0, 0, [], [], c1.2.2.2.2.2.2.2.2.2.2.1, c1.2.2.2.2.2.2.2.2.2.2.2.1, ()))
            else
              Q .ret (St2 false (0, [0, 0, 0, 0], [0, 0, 0, 0], (List.replicate 32 0), 0, (List.replicate 32 0), 0, 0, [], [], 0, [], ())) := by
    intro D L; kernel_rfl
  refine (show (den C k) cd1 (blkQ C 0 (sq (den C k) (lp C k) Js C cd0 Q)) (St1 x5 x6 c1 c2p0 c2p1 c2p2 c2p3 c2p4 c2p5 c2p6 c2p7 c2p8 c2p10) = denJ (den C k) (lp C k) Js C cd1 (blkQ C 0 (sq (den C k) (lp C k) Js C cd0 Q)) (St1 x5 x6 c1 c2p0 c2p1 c2p2 c2p3 c2p4 c2p5 c2p6 c2p7 c2p8 c2p10) from (denJ_den _ _ _ _ _ _).symm).trans ((h (den C k) (lp C k)).trans ?_)
  first | rfl | kernel_rfl
def top {α : Type} (Rt : Bool → (Int × List Int × List Int × List Int × Int × List Int × Int × Int × List Int × List Int × Int × List (List Int) × Unit) → Option α) (x0 : Int × List Int × List Int × List Int × Int × List Int × Int × Int × List Int × List Int × Int × List (List Int) × Unit) : Option α :=
  if (x0.1 == 1) = true then
    j0 Rt x0.1 (x0.1 == 1) x0 0 [0, 0, 0, 0] [0, 0, 0, 0] (List.replicate 32 0) 0 (List.replicate 32 0) 0 0 [] 0
  else
    j0 Rt x0.1 (x0.1 == 3) x0 0 [0, 0, 0, 0] [0, 0, 0, 0] (List.replicate 32 0) 0 (List.replicate 32 0) 0 0 [] 0
theorem top_eq {α : Type} (k : Nat) (Q : Ex → St → Option α) (x0 : Int × List Int × List Int × List Int × Int × List Int × Int × Int × List Int × List Int × Int × List (List Int) × Unit) :
    (den C k) (cB Try.f172) Q (St0 x0) = top (fun (x3 : Bool) (c2 : Int × List Int × List Int × List Int × Int × List Int × Int × Int × List Int × List Int × Int × List (List Int) × Unit) => Q .ret (St2 x3 c2)) x0 := by
  have h : ∀ (D L : DT α), denJ D L Js C (cB Try.f172) Q (St0 x0) =
        if (x0.1 == 1) = true then
          D cd1 (blkQ C 0 (sq D L Js C cd0 Q)) (St1 x0.1 (x0.1 == 1) x0 0 [0, 0, 0, 0] [0, 0, 0, 0] (List.replicate 32 0) 0 (List.replicate 32 0) 0 0 [] 0)
        else
          D cd1 (blkQ C 0 (sq D L Js C cd0 Q)) (St1 x0.1 (x0.1 == 3) x0 0 [0, 0, 0, 0] [0, 0, 0, 0] (List.replicate 32 0) 0 (List.replicate 32 0) 0 0 [] 0) := by
    intro D L; kernel_rfl
  refine (show (den C k) (cB Try.f172) Q (St0 x0) = denJ (den C k) (lp C k) Js C (cB Try.f172) Q (St0 x0) from (denJ_den _ _ _ _ _ _).symm).trans ((h (den C k) (lp C k)).trans ?_)
  simp only [j0_eq]
  first | rfl | kernel_rfl
def run (x0 : Int × List Int × List Int × List Int × Int × List Int × Int × Int × List Int × List Int × Int × List (List Int) × Unit) : Option ((Int × List Int × List Int × List Int × Int × List Int × Int × Int × List Int × List Int × Int × List (List Int) × Unit) × Bool × Unit) := top (α := (Int × List Int × List Int × List Int × Int × List Int × Int × Int × List Int × List Int × Int × List (List Int) × Unit) × Bool × Unit) (fun (x3 : Bool) (c2 : Int × List Int × List Int × List Int × Int × List Int × Int × Int × List Int × List Int × Int × List (List Int) × Unit) => some (c2, x3, ())) x0
def F : Fn := ⟨(.pair (.pair (.int .i64) (.pair (.arr 4 (.int .u64)) (.pair (.arr 4 (.int .u64)) (.pair (.arr 32 (.int .u8)) (.pair (.int .i64) (.pair (.arr 32 (.int .u8)) (.pair (.int .i64) (.pair (.int .i64) (.pair .str (.pair (.sl (.int .u8)) (.pair (.int .i64) (.pair (.sl (.arr 20 (.int .u8))) .unit)))))))))))) .unit), (.pair (.pair (.int .i64) (.pair (.arr 4 (.int .u64)) (.pair (.arr 4 (.int .u64)) (.pair (.arr 32 (.int .u8)) (.pair (.int .i64) (.pair (.arr 32 (.int .u8)) (.pair (.int .i64) (.pair (.int .i64) (.pair .str (.pair (.sl (.int .u8)) (.pair (.int .i64) (.pair (.sl (.arr 20 (.int .u8))) .unit)))))))))))) (.pair .bool .unit)), true, fun x => run x.1⟩
set_option maxRecDepth 100000 in
theorem con : Con Try.prog 172 F := by
  refine con_of_den (C := C) (ctx_ok (by kernel_rfl) (by kernel_rfl) (by kernel_rfl) (by kernel_rfl) trivial) (by kernel_rfl) Try.func172 (c := cB Try.f172) (by kernel_rfl) (by kernel_rfl) F fuel (fun x => by simp [F, spread, Try.ntmps172]) ?_
  intro x r h
  rw [← h]
  have h1 : start F Try.f172.ntmps x = (St0 x.1) := by kernel_rfl
  rw [h1]
  refine (top_eq fuel (fin C Try.f172.results.toList F.rs F.multi) x.1).trans ?_
  kernel_rfl
theorem named : Named Try.prog 172 := named_of Try.func172 (by kernel_rfl) (by kernel_rfl)
end Go.Bx.basculeref_only
namespace Go.Bx.basculeref_SameLoad
open Go Go.Proofs Go.Bx
set_option maxRecDepth 100000
set_option linter.unusedVariables false
def Js : List Nat := [10]
def C : Ctx := ⟨[(3, (.int .i64)), (4, .bool), (9, .str), (34, (.sl (.arr 20 (.int .u8)))), (39, (.arr 32 (.int .u8))), (40, (.sl (.int .u8))), (45, (.arr 4 (.int .u64))), (105, (.pair (.int .i64) (.pair (.arr 4 (.int .u64)) (.pair (.arr 4 (.int .u64)) (.pair (.arr 32 (.int .u8)) (.pair (.int .i64) (.pair (.arr 32 (.int .u8)) (.pair (.int .i64) (.pair (.int .i64) (.pair .str (.pair (.sl (.int .u8)) (.pair (.int .i64) (.pair (.sl (.arr 20 (.int .u8))) .unit))))))))))))), (178, (.arr 20 (.int .u8)))], [], [], fnL [], noSh, [], invL [], [(2, [4]), (1, [2, 3]), (4, [2, 3, 24, 25]), (12, [2, 3, 24, 25]), (27, [2, 3])], [], [], 0, 0⟩
def St0 (x0 : Int × List Int × List Int × List Int × Int × List Int × Int × Int × List Int × List Int × Int × List (List Int) × Unit) (x1 : Int × List Int × List Int × List Int × Int × List Int × Int × Int × List Int × List Int × Int × List (List Int) × Unit) : St := stL 108 [(0, .data (.pair (.int .i64) (.pair (.arr 4 (.int .u64)) (.pair (.arr 4 (.int .u64)) (.pair (.arr 32 (.int .u8)) (.pair (.int .i64) (.pair (.arr 32 (.int .u8)) (.pair (.int .i64) (.pair (.int .i64) (.pair .str (.pair (.sl (.int .u8)) (.pair (.int .i64) (.pair (.sl (.arr 20 (.int .u8))) .unit)))))))))))) x0), (1, .data (.pair (.int .i64) (.pair (.arr 4 (.int .u64)) (.pair (.arr 4 (.int .u64)) (.pair (.arr 32 (.int .u8)) (.pair (.int .i64) (.pair (.arr 32 (.int .u8)) (.pair (.int .i64) (.pair (.int .i64) (.pair .str (.pair (.sl (.int .u8)) (.pair (.int .i64) (.pair (.sl (.arr 20 (.int .u8))) .unit)))))))))))) x1)] []
def St1 (x4 : Bool) : St := stL 108 [(4, .data .bool x4)] []
def St2 (x24 : Int) (x25 : Int) (c2 : Int × List Int × List Int × List Int × Int × List Int × Int × Int × List Int × List Int × Int × List (List Int) × Unit) (c3 : Int × List Int × List Int × List Int × Int × List Int × Int × Int × List Int × List Int × Int × List (List Int) × Unit) : St := stL 108 [(2, .ref 2 0 []), (3, .ref 3 0 []), (24, .data (.int .i64) x24), (25, .data (.int .i64) x25)] [(2, .cell (.pair (.int .i64) (.pair (.arr 4 (.int .u64)) (.pair (.arr 4 (.int .u64)) (.pair (.arr 32 (.int .u8)) (.pair (.int .i64) (.pair (.arr 32 (.int .u8)) (.pair (.int .i64) (.pair (.int .i64) (.pair .str (.pair (.sl (.int .u8)) (.pair (.int .i64) (.pair (.sl (.arr 20 (.int .u8))) .unit)))))))))))) (.data (.pair (.int .i64) (.pair (.arr 4 (.int .u64)) (.pair (.arr 4 (.int .u64)) (.pair (.arr 32 (.int .u8)) (.pair (.int .i64) (.pair (.arr 32 (.int .u8)) (.pair (.int .i64) (.pair (.int .i64) (.pair .str (.pair (.sl (.int .u8)) (.pair (.int .i64) (.pair (.sl (.arr 20 (.int .u8))) .unit)))))))))))) c2) false), (3, .cell (.pair (.int .i64) (.pair (.arr 4 (.int .u64)) (.pair (.arr 4 (.int .u64)) (.pair (.arr 32 (.int .u8)) (.pair (.int .i64) (.pair (.arr 32 (.int .u8)) (.pair (.int .i64) (.pair (.int .i64) (.pair .str (.pair (.sl (.int .u8)) (.pair (.int .i64) (.pair (.sl (.arr 20 (.int .u8))) .unit)))))))))))) (.data (.pair (.int .i64) (.pair (.arr 4 (.int .u64)) (.pair (.arr 4 (.int .u64)) (.pair (.arr 32 (.int .u8)) (.pair (.int .i64) (.pair (.arr 32 (.int .u8)) (.pair (.int .i64) (.pair (.int .i64) (.pair .str (.pair (.sl (.int .u8)) (.pair (.int .i64) (.pair (.sl (.arr 20 (.int .u8))) .unit)))))))))))) c3) false)]
noncomputable def cd0 : Code := cL (cL (cR (cL (cR (cR (cB Try.f173))))))
def St3 (c2 : Int × List Int × List Int × List Int × Int × List Int × Int × Int × List Int × List Int × Int × List (List Int) × Unit) (c3 : Int × List Int × List Int × List Int × Int × List Int × Int × Int × List Int × List Int × Int × List (List Int) × Unit) : St := stL 108 [(2, .ref 2 0 []), (3, .ref 3 0 [])] [(2, .cell (.pair (.int .i64) (.pair (.arr 4 (.int .u64)) (.pair (.arr 4 (.int .u64)) (.pair (.arr 32 (.int .u8)) (.pair (.int .i64) (.pair (.arr 32 (.int .u8)) (.pair (.int .i64) (.pair (.int .i64) (.pair .str (.pair (.sl (.int .u8)) (.pair (.int .i64) (.pair (.sl (.arr 20 (.int .u8))) .unit)))))))))))) (.data (.pair (.int .i64) (.pair (.arr 4 (.int .u64)) (.pair (.arr 4 (.int .u64)) (.pair (.arr 32 (.int .u8)) (.pair (.int .i64) (.pair (.arr 32 (.int .u8)) (.pair (.int .i64) (.pair (.int .i64) (.pair .str (.pair (.sl (.int .u8)) (.pair (.int .i64) (.pair (.sl (.arr 20 (.int .u8))) .unit)))))))))))) c2) false), (3, .cell (.pair (.int .i64) (.pair (.arr 4 (.int .u64)) (.pair (.arr 4 (.int .u64)) (.pair (.arr 32 (.int .u8)) (.pair (.int .i64) (.pair (.arr 32 (.int .u8)) (.pair (.int .i64) (.pair (.int .i64) (.pair .str (.pair (.sl (.int .u8)) (.pair (.int .i64) (.pair (.sl (.arr 20 (.int .u8))) .unit)))))))))))) (.data (.pair (.int .i64) (.pair (.arr 4 (.int .u64)) (.pair (.arr 4 (.int .u64)) (.pair (.arr 32 (.int .u8)) (.pair (.int .i64) (.pair (.arr 32 (.int .u8)) (.pair (.int .i64) (.pair (.int .i64) (.pair .str (.pair (.sl (.int .u8)) (.pair (.int .i64) (.pair (.sl (.arr 20 (.int .u8))) .unit)))))))))))) c3) false)]
def l0s {α : Type} (Nx : Int → Int → (Int × List Int × List Int × List Int × Int × List Int × Int × Int × List Int × List Int × Int × List (List Int) × Unit) → (Int × List Int × List Int × List Int × Int × List Int × Int × Int × List Int × List Int × Int × List (List Int) × Unit) → Option α) (Rt : Bool → Option α) (Xt0 : (Int × List Int × List Int × List Int × Int × List Int × Int × Int × List Int × List Int × Int × List (List Int) × Unit) → (Int × List Int × List Int × List Int × Int × List Int × Int × Int × List Int × List Int × Int × List (List Int) × Unit) → Option α) (x24 : Int) (x25 : Int) (c2 : Int × List Int × List Int × List Int × Int × List Int × Int × Int × List Int × List Int × Int × List (List Int) × Unit) (c3 : Int × List Int × List Int × List Int × Int × List Int × Int × Int × List Int × List Int × Int × List (List Int) × Unit) : Option α :=
  if (decide (x25 < x24)) = true then
    if 0 ≤ x25 ∧ x25 < (c2.2.2.2.2.2.2.2.2.2.2.2.1.length : Int) then
      if 0 ≤ x25 ∧ x25 < (c3.2.2.2.2.2.2.2.2.2.2.2.1.length : Int) then
        if (not (beqD (.arr 20 (.int .u8)) (List.getD c2.2.2.2.2.2.2.2.2.2.2.2.1 (Int.toNat x25) (List.replicate 20 0)) (List.getD c3.2.2.2.2.2.2.2.2.2.2.2.1 (Int.toNat x25) (List.replicate 20 0)))) = true then
          Rt false
        else
          Nx x24 (IntKind.i64.wrap (x25 + 1)) c2 c3
      else none
    else none
  else
    Xt0 c2 c3
theorem l0s_eq {α : Type} (k : Nat) (next : St → Option α) (Q : Ex → St → Option α) (x24 : Int) (x25 : Int) (c2 : Int × List Int × List Int × List Int × Int × List Int × Int × Int × List Int × List Int × Int × List (List Int) × Unit) (c3 : Int × List Int × List Int × List Int × Int × List Int × Int × Int × List Int × List Int × Int × List (List Int) × Unit) :
    rnd C k cd0 12 Q next (St2 x24 x25 c2 c3) = l0s (fun (x24 : Int) (x25 : Int) (c2 : Int × List Int × List Int × List Int × Int × List Int × Int × Int × List Int × List Int × Int × List (List Int) × Unit) (c3 : Int × List Int × List Int × List Int × Int × List Int × Int × Int × List Int × List Int × Int × List (List Int) × Unit) => next (St2 x24 x25 c2 c3)) (fun (x4 : Bool) => Q .ret (St1 x4)) (fun (c2 : Int × List Int × List Int × List Int × Int × List Int × Int × Int × List Int × List Int × Int × List (List Int) × Unit) (c3 : Int × List Int × List Int × List Int × Int × List Int × Int × Int × List Int × List Int × Int × List (List Int) × Unit) => Q (.exit 0) (St3 c2 c3)) x24 x25 c2 c3 := by
  have h : ∀ (D L : DT α), denJ D L Js C cd0 (lq C 12 next Q) (St2 x24 x25 c2 c3) =
        if (decide (x25 < x24)) = true then
          if 0 ≤ x25 ∧ x25 < (c2.2.2.2.2.2.2.2.2.2.2.2.1.length : Int) then
            if 0 ≤ x25 ∧ x25 < (c3.2.2.2.2.2.2.2.2.2.2.2.1.length : Int) then
              if (not (beqD (.arr 20 (.int .u8)) (List.getD c2.2.2.2.2.2.2.2.2.2.2.2.1 (Int.toNat x25) (List.replicate 20 0)) (List.getD c3.2.2.2.2.2.2.2.2.2.2.2.1 (Int.toNat x25) (List.replicate 20 0)))) = true then
                Q .ret (St1 false)
              else
                next (St2 x24 (IntKind.i64.wrap (x25 + 1)) c2 c3)
            else none
          else none
        else
          Q (.exit 0) (St3 c2 c3) := by
    intro D L; kernel_rfl
  refine (show rnd C k cd0 12 Q next (St2 x24 x25 c2 c3) = denJ (den C k) (lp C k) Js C cd0 (lq C 12 next Q) (St2 x24 x25 c2 c3) from (denJ_den _ _ _ _ _ _).symm).trans ((h (den C k) (lp C k)).trans ?_)
  first | rfl | kernel_rfl
def l0 {α : Type} (k : Nat) (Rt : Bool → Option α) (Xt0 : (Int × List Int × List Int × List Int × Int × List Int × Int × Int × List Int × List Int × Int × List (List Int) × Unit) → (Int × List Int × List Int × List Int × Int × List Int × Int × Int × List Int × List Int × Int × List (List Int) × Unit) → Option α) : Nat → Int → Int → (Int × List Int × List Int × List Int × Int × List Int × Int × Int × List Int × List Int × Int × List (List Int) × Unit) → (Int × List Int × List Int × List Int × Int × List Int × Int × Int × List Int × List Int × Int × List (List Int) × Unit) → Option α
  | 0, _, _, _, _ => none
  | n + 1, x24, x25, c2, c3 => l0s (l0 k Rt Xt0 n) Rt Xt0 x24 x25 c2 c3
theorem l0_eq {α : Type} (k : Nat) (Q : Ex → St → Option α) : ∀ (n : Nat) (x24 : Int) (x25 : Int) (c2 : Int × List Int × List Int × List Int × Int × List Int × Int × Int × List Int × List Int × Int × List (List Int) × Unit) (c3 : Int × List Int × List Int × List Int × Int × List Int × Int × Int × List Int × List Int × Int × List (List Int) × Unit), iter (rnd C k cd0 12 Q) n (St2 x24 x25 c2 c3) = l0 k (fun (x4 : Bool) => Q .ret (St1 x4)) (fun (c2 : Int × List Int × List Int × List Int × Int × List Int × Int × Int × List Int × List Int × Int × List (List Int) × Unit) (c3 : Int × List Int × List Int × List Int × Int × List Int × Int × Int × List Int × List Int × Int × List (List Int) × Unit) => Q (.exit 0) (St3 c2 c3)) n x24 x25 c2 c3
  | 0, _, _, _, _ => rfl
  | n + 1, x24, x25, c2, c3 => (iter_succ _ _ _).trans ((l0s_eq k (iter (rnd C k cd0 12 Q) n) Q x24 x25 c2 c3).trans (congrArg (fun N => l0s N (fun (x4 : Bool) => Q .ret (St1 x4)) (fun (c2 : Int × List Int × List Int × List Int × Int × List Int × Int × Int × List Int × List Int × Int × List (List Int) × Unit) (c3 : Int × List Int × List Int × List Int × Int × List Int × Int × Int × List Int × List Int × Int × List (List Int) × Unit) => Q (.exit 0) (St3 c2 c3)) x24 x25 c2 c3) (funext fun x24 => funext fun x25 => funext fun c2 => funext fun c3 => l0_eq k Q n x24 x25 c2 c3)))
theorem l0_congr {α : Type} (k : Nat) (Rt : Bool → Option α) (Xt0 : (Int × List Int × List Int × List Int × Int × List Int × Int × Int × List Int × List Int × Int × List (List Int) × Unit) → (Int × List Int × List Int × List Int × Int × List Int × Int × Int × List Int × List Int × Int × List (List Int) × Unit) → Option α) (Rtq : Bool → Option α) (Xt0q : (Int × List Int × List Int × List Int × Int × List Int × Int × Int × List Int × List Int × Int × List (List Int) × Unit) → (Int × List Int × List Int × List Int × Int × List Int × Int × Int × List Int × List Int × Int × List (List Int) × Unit) → Option α) (hRt : ∀ (x4 : Bool), Rt x4 = Rtq x4) (hXt0 : ∀ (c2 : Int × List Int × List Int × List Int × Int × List Int × Int × Int × List Int × List Int × Int × List (List Int) × Unit) (c3 : Int × List Int × List Int × List Int × Int × List Int × Int × Int × List Int × List Int × Int × List (List Int) × Unit), Xt0 c2 c3 = Xt0q c2 c3) (n : Nat) (x24 : Int) (x25 : Int) (c2 : Int × List Int × List Int × List Int × Int × List Int × Int × Int × List Int × List Int × Int × List (List Int) × Unit) (c3 : Int × List Int × List Int × List Int × Int × List Int × Int × Int × List Int × List Int × Int × List (List Int) × Unit) : l0 k Rt Xt0 n x24 x25 c2 c3 = l0 k Rtq Xt0q n x24 x25 c2 c3 := by
  obtain rfl : Rt = Rtq := by funext x4; exact hRt x4
  obtain rfl : Xt0 = Xt0q := by funext c2; funext c3; exact hXt0 c2 c3
  rfl
noncomputable def cd1 : Code := cR (cR (cR (cB Try.f173)))
def St4 (c2 : Int × List Int × List Int × List Int × Int × List Int × Int × Int × List Int × List Int × Int × List (List Int) × Unit) (c3 : Int × List Int × List Int × List Int × Int × List Int × Int × Int × List Int × List Int × Int × List (List Int) × Unit) : St := stL 108 [(2, .ref 2 0 []), (3, .ref 3 0 [])] [(2, .cell (.pair (.int .i64) (.pair (.arr 4 (.int .u64)) (.pair (.arr 4 (.int .u64)) (.pair (.arr 32 (.int .u8)) (.pair (.int .i64) (.pair (.arr 32 (.int .u8)) (.pair (.int .i64) (.pair (.int .i64) (.pair .str (.pair (.sl (.int .u8)) (.pair (.int .i64) (.pair (.sl (.arr 20 (.int .u8))) .unit)))))))))))) (.data (.pair (.int .i64) (.pair (.arr 4 (.int .u64)) (.pair (.arr 4 (.int .u64)) (.pair (.arr 32 (.int .u8)) (.pair (.int .i64) (.pair (.arr 32 (.int .u8)) (.pair (.int .i64) (.pair (.int .i64) (.pair .str (.pair (.sl (.int .u8)) (.pair (.int .i64) (.pair (.sl (.arr 20 (.int .u8))) .unit)))))))))))) c2) false), (3, .cell (.pair (.int .i64) (.pair (.arr 4 (.int .u64)) (.pair (.arr 4 (.int .u64)) (.pair (.arr 32 (.int .u8)) (.pair (.int .i64) (.pair (.arr 32 (.int .u8)) (.pair (.int .i64) (.pair (.int .i64) (.pair .str (.pair (.sl (.int .u8)) (.pair (.int .i64) (.pair (.sl (.arr 20 (.int .u8))) .unit)))))))))))) (.data (.pair (.int .i64) (.pair (.arr 4 (.int .u64)) (.pair (.arr 4 (.int .u64)) (.pair (.arr 32 (.int .u8)) (.pair (.int .i64) (.pair (.arr 32 (.int .u8)) (.pair (.int .i64) (.pair (.int .i64) (.pair .str (.pair (.sl (.int .u8)) (.pair (.int .i64) (.pair (.sl (.arr 20 (.int .u8))) .unit)))))))))))) c3) false)]
def j0 {α : Type} (Rt : Bool → Option α) (c2 : Int × List Int × List Int × List Int × Int × List Int × Int × Int × List Int × List Int × Int × List (List Int) × Unit) (c3 : Int × List Int × List Int × List Int × Int × List Int × Int × Int × List Int × List Int × Int × List (List Int) × Unit) : Option α :=
  Rt (cond (cond (cond (cond (cond (cond (cond (cond (cond (c2.1 == c3.1) (beqD (.arr 4 (.int .u64)) c2.2.1 c3.2.1) false) (beqD (.arr 4 (.int .u64)) c2.2.2.1 c3.2.2.1) false) (beqD (.arr 32 (.int .u8)) c2.2.2.2.1 c3.2.2.2.1) false) (c2.2.2.2.2.1 == c3.2.2.2.2.1) false) (beqD (.arr 32 (.int .u8)) c2.2.2.2.2.2.1 c3.2.2.2.2.2.1) false) (c2.2.2.2.2.2.2.1 == c3.2.2.2.2.2.2.1) false) (c2.2.2.2.2.2.2.2.1 == c3.2.2.2.2.2.2.2.1) false) (beqD .str c2.2.2.2.2.2.2.2.2.1 c3.2.2.2.2.2.2.2.2.1) false) (c2.2.2.2.2.2.2.2.2.2.2.1 == c3.2.2.2.2.2.2.2.2.2.2.1) false)
theorem j0_eq {α : Type} (k : Nat) (Q : Ex → St → Option α) (c2 : Int × List Int × List Int × List Int × Int × List Int × Int × Int × List Int × List Int × Int × List (List Int) × Unit) (c3 : Int × List Int × List Int × List Int × Int × List Int × Int × Int × List Int × List Int × Int × List (List Int) × Unit) :
    (den C k) cd1 Q (St4 c2 c3) = j0 (fun (x4 : Bool) => Q .ret (St1 x4)) c2 c3 := by
  have h : ∀ (D L : DT α), denJ D L Js C cd1 Q (St4 c2 c3) =
        Q .ret (St1 (cond (cond (cond (cond (cond (cond (cond (cond (cond (c2.1 == c3.1) (beqD (.arr 4 (.int .u64)) c2.2.1 c3.2.1) false) (beqD (.arr 4 (.int .u64)) c2.2.2.1 c3.2.2.1) false) (beqD (.arr 32 (.int .u8)) c2.2.2.2.1 c3.2.2.2.1) false) (c2.2.2.2.2.1 == c3.2.2.2.2.1) false) (beqD (.arr 32 (.int .u8)) c2.2.2.2.2.2.1 c3.2.2.2.2.2.1) false) (c2.2.2.2.2.2.2.1 == c3.2.2.2.2.2.2.1) false) (c2.2.2.2.2.2.2.2.1 == c3.2.2.2.2.2.2.2.1) false) (beqD .str c2.2.2.2.2.2.2.2.2.1 c3.2.2.2.2.2.2.2.2.1) false) (c2.2.2.2.2.2.2.2.2.2.2.1 == c3.2.2.2.2.2.2.2.2.2.2.1) false)) := by
    intro D L; kernel_rfl
  refine (show (den C k) cd1 Q (St4 c2 c3) = denJ (den C k) (lp C k) Js C cd1 Q (St4 c2 c3) from (denJ_den _ _ _ _ _ _).symm).trans ((h (den C k) (lp C k)).trans ?_)
  first | rfl | kernel_rfl
theorem a0 {α : Type} (k : Nat) (Q : Ex → St → Option α) (x24 : Int) (x25 : Int) (c2 : Int × List Int × List Int × List Int × Int × List Int × Int × Int × List Int × List Int × Int × List (List Int) × Unit) (c3 : Int × List Int × List Int × List Int × Int × List Int × Int × Int × List Int × List Int × Int × List (List Int) × Unit) :
    (lp C k) cd0 (blkQ C 0 (sq (den C k) (lp C k) Js C cd1 Q)) (St2 x24 x25 c2 c3) = l0 k (fun (x4 : Bool) => (fun (x4 : Bool) => Q .ret (St1 x4)) x4) (fun (c2 : Int × List Int × List Int × List Int × Int × List Int × Int × Int × List Int × List Int × Int × List (List Int) × Unit) (c3 : Int × List Int × List Int × List Int × Int × List Int × Int × Int × List Int × List Int × Int × List (List Int) × Unit) => j0 (fun (x4 : Bool) => Q .ret (St1 x4)) c2 c3) k x24 x25 c2 c3 :=
  (show (lp C k) cd0 (blkQ C 0 (sq (den C k) (lp C k) Js C cd1 Q)) (St2 x24 x25 c2 c3) = iter (rnd C k cd0 12 (blkQ C 0 (sq (den C k) (lp C k) Js C cd1 Q))) k (St2 x24 x25 c2 c3) by kernel_rfl).trans ((l0_eq k (blkQ C 0 (sq (den C k) (lp C k) Js C cd1 Q)) k x24 x25 c2 c3).trans (l0_congr k _ _ _ _ (fun x4 => (show (blkQ C 0 (sq (den C k) (lp C k) Js C cd1 Q)) .ret (St1 x4) = Q .ret (St1 x4) by kernel_rfl)) (fun c2 c3 => ((show (blkQ C 0 (sq (den C k) (lp C k) Js C cd1 Q)) (.exit 0) (St3 c2 c3) = (den C k) cd1 Q (St4 c2 c3) by kernel_rfl).trans (by simp only [j0_eq]))) k x24 x25 c2 c3))
def top {α : Type} (k : Nat) (Rt : Bool → Option α) (x0 : Int × List Int × List Int × List Int × Int × List Int × Int × Int × List Int × List Int × Int × List (List Int) × Unit) (x1 : Int × List Int × List Int × List Int × Int × List Int × Int × Int × List Int × List Int × Int × List (List Int) × Unit) : Option α :=
  if (cond ((x0.2.2.2.2.2.2.2.2.2.2.2.1.length : Int) != (x1.2.2.2.2.2.2.2.2.2.2.2.1.length : Int)) true (not (beqD .str x0.2.2.2.2.2.2.2.2.2.1 x1.2.2.2.2.2.2.2.2.2.1))) = true then
    Rt false
  else
    l0 k (fun (x4 : Bool) => Rt x4) (fun (c2 : Int × List Int × List Int × List Int × Int × List Int × Int × Int × List Int × List Int × Int × List (List Int) × Unit) (c3 : Int × List Int × List Int × List Int × Int × List Int × Int × Int × List Int × List Int × Int × List (List Int) × Unit) => j0 Rt c2 c3) k (x0.2.2.2.2.2.2.2.2.2.2.2.1.length : Int) 0 x0 x1
theorem top_eq {α : Type} (k : Nat) (Q : Ex → St → Option α) (x0 : Int × List Int × List Int × List Int × Int × List Int × Int × Int × List Int × List Int × Int × List (List Int) × Unit) (x1 : Int × List Int × List Int × List Int × Int × List Int × Int × Int × List Int × List Int × Int × List (List Int) × Unit) :
    (den C k) (cB Try.f173) Q (St0 x0 x1) = top k (fun (x4 : Bool) => Q .ret (St1 x4)) x0 x1 := by
  have h : ∀ (D L : DT α), denJ D L Js C (cB Try.f173) Q (St0 x0 x1) =
        if (cond ((x0.2.2.2.2.2.2.2.2.2.2.2.1.length : Int) != (x1.2.2.2.2.2.2.2.2.2.2.2.1.length : Int)) true (not (beqD .str x0.2.2.2.2.2.2.2.2.2.1 x1.2.2.2.2.2.2.2.2.2.1))) = true then
          Q .ret (St1 false)
        else
          L cd0 (blkQ C 0 (sq D L Js C cd1 Q)) (St2 (x0.2.2.2.2.2.2.2.2.2.2.2.1.length : Int) 0 x0 x1) := by
    intro D L; kernel_rfl
  refine (show (den C k) (cB Try.f173) Q (St0 x0 x1) = denJ (den C k) (lp C k) Js C (cB Try.f173) Q (St0 x0 x1) from (denJ_den _ _ _ _ _ _).symm).trans ((h (den C k) (lp C k)).trans ?_)
  simp only [a0]
  first | rfl | kernel_rfl
def run (x0 : Int × List Int × List Int × List Int × Int × List Int × Int × Int × List Int × List Int × Int × List (List Int) × Unit) (x1 : Int × List Int × List Int × List Int × Int × List Int × Int × Int × List Int × List Int × Int × List (List Int) × Unit) : Option (Bool) := top (α := Bool) fuel (fun (x4 : Bool) => some x4) x0 x1
def F : Fn := ⟨(.pair (.pair (.int .i64) (.pair (.arr 4 (.int .u64)) (.pair (.arr 4 (.int .u64)) (.pair (.arr 32 (.int .u8)) (.pair (.int .i64) (.pair (.arr 32 (.int .u8)) (.pair (.int .i64) (.pair (.int .i64) (.pair .str (.pair (.sl (.int .u8)) (.pair (.int .i64) (.pair (.sl (.arr 20 (.int .u8))) .unit)))))))))))) (.pair (.pair (.int .i64) (.pair (.arr 4 (.int .u64)) (.pair (.arr 4 (.int .u64)) (.pair (.arr 32 (.int .u8)) (.pair (.int .i64) (.pair (.arr 32 (.int .u8)) (.pair (.int .i64) (.pair (.int .i64) (.pair .str (.pair (.sl (.int .u8)) (.pair (.int .i64) (.pair (.sl (.arr 20 (.int .u8))) .unit)))))))))))) .unit)), .bool, false, fun x => run x.1 x.2.1⟩
set_option maxRecDepth 100000 in
theorem con : Con Try.prog 173 F := by
  refine con_of_den (C := C) (ctx_ok (by kernel_rfl) (by kernel_rfl) (by kernel_rfl) (by kernel_rfl) trivial) (by kernel_rfl) Try.func173 (c := cB Try.f173) (by kernel_rfl) (by kernel_rfl) F fuel (fun x => by simp [F, spread, Try.ntmps173]) ?_
  intro x r h
  rw [← h]
  have h1 : start F Try.f173.ntmps x = (St0 x.1 x.2.1) := by kernel_rfl
  rw [h1]
  refine (top_eq fuel (fin C Try.f173.results.toList F.rs F.multi) x.1 x.2.1).trans ?_
  kernel_rfl
theorem named : Named Try.prog 173 := named_of Try.func173 (by kernel_rfl) (by kernel_rfl)
end Go.Bx.basculeref_SameLoad
namespace Go.Bx.basculeref_hasNought
open Go Go.Proofs Go.Bx
set_option maxRecDepth 100000
set_option linter.unusedVariables false
def Js : List Nat := [7]
def C : Ctx := ⟨[(4, .bool), (9, .str)], [], [], fnL [], noSh, [], invL [], [(2, [2]), (1, []), (4, [0, 3]), (6, [0, 3]), (18, [])], [], [], 0, 0⟩
def St0 (x0 : List Int) : St := stL 14 [(0, .data .str x0)] []
def St1 (x0 : List Int) (x3 : Int) : St := stL 14 [(0, .data .str x0), (3, .data (.int .i64) x3)] []
noncomputable def cd0 : Code := cL (cL (cR (cL (cR (cB Try.f174)))))
def St2 (x2 : Bool) : St := stL 14 [(2, .data .bool x2)] []
def St3 : St := stL 14 [] []
def l0s {α : Type} (Nx : (List Int) → Int → Option α) (Rt : Bool → Option α) (Xt0 : Option α) (x0 : List Int) (x3 : Int) : Option α :=
  if (decide (x3 < (x0.length : Int))) = true then
    if 0 ≤ x3 ∧ x3 < (x0.length : Int) then
      if ((List.getD x0 (Int.toNat x3) 0) == 0) = true then
        Rt true
      else
        Nx x0 (IntKind.i64.wrap (x3 + 1))
    else none
  else
    Xt0
theorem l0s_eq {α : Type} (k : Nat) (next : St → Option α) (Q : Ex → St → Option α) (x0 : List Int) (x3 : Int) :
    rnd C k cd0 6 Q next (St1 x0 x3) = l0s (fun (x0 : List Int) (x3 : Int) => next (St1 x0 x3)) (fun (x2 : Bool) => Q .ret (St2 x2)) (Q (.exit 0) St3) x0 x3 := by
  have h : ∀ (D L : DT α), denJ D L Js C cd0 (lq C 6 next Q) (St1 x0 x3) =
        if (decide (x3 < (x0.length : Int))) = true then
          if 0 ≤ x3 ∧ x3 < (x0.length : Int) then
            if ((List.getD x0 (Int.toNat x3) 0) == 0) = true then
              Q .ret (St2 true)
            else
              next (St1 x0 (IntKind.i64.wrap (x3 + 1)))
          else none
        else
          Q (.exit 0) St3 := by
    intro D L; kernel_rfl
  refine (show rnd C k cd0 6 Q next (St1 x0 x3) = denJ (den C k) (lp C k) Js C cd0 (lq C 6 next Q) (St1 x0 x3) from (denJ_den _ _ _ _ _ _).symm).trans ((h (den C k) (lp C k)).trans ?_)
  first | rfl | kernel_rfl
def l0 {α : Type} (k : Nat) (Rt : Bool → Option α) (Xt0 : Option α) : Nat → (List Int) → Int → Option α
  | 0, _, _ => none
  | n + 1, x0, x3 => l0s (l0 k Rt Xt0 n) Rt Xt0 x0 x3
theorem l0_eq {α : Type} (k : Nat) (Q : Ex → St → Option α) : ∀ (n : Nat) (x0 : List Int) (x3 : Int), iter (rnd C k cd0 6 Q) n (St1 x0 x3) = l0 k (fun (x2 : Bool) => Q .ret (St2 x2)) (Q (.exit 0) St3) n x0 x3
  | 0, _, _ => rfl
  | n + 1, x0, x3 => (iter_succ _ _ _).trans ((l0s_eq k (iter (rnd C k cd0 6 Q) n) Q x0 x3).trans (congrArg (fun N => l0s N (fun (x2 : Bool) => Q .ret (St2 x2)) (Q (.exit 0) St3) x0 x3) (funext fun x0 => funext fun x3 => l0_eq k Q n x0 x3)))
theorem l0_congr {α : Type} (k : Nat) (Rt : Bool → Option α) (Xt0 : Option α) (Rtq : Bool → Option α) (Xt0q : Option α) (hRt : ∀ (x2 : Bool), Rt x2 = Rtq x2) (hXt0 : Xt0 = Xt0q) (n : Nat) (x0 : List Int) (x3 : Int) : l0 k Rt Xt0 n x0 x3 = l0 k Rtq Xt0q n x0 x3 := by
  obtain rfl : Rt = Rtq := by funext x2; exact hRt x2
  obtain rfl : Xt0 = Xt0q := hXt0
  rfl
noncomputable def cd1 : Code := cR (cR (cB Try.f174))
def St4 : St := stL 14 [] []
def j0 {α : Type} (Rt : Bool → Option α) : Option α :=
  Rt false
theorem j0_eq {α : Type} (k : Nat) (Q : Ex → St → Option α) :
    (den C k) cd1 Q St4 = j0 (fun (x2 : Bool) => Q .ret (St2 x2)) := by
  have h : ∀ (D L : DT α), denJ D L Js C cd1 Q St4 =
        Q .ret (St2 false) := by
    intro D L; kernel_rfl
  refine (show (den C k) cd1 Q St4 = denJ (den C k) (lp C k) Js C cd1 Q St4 from (denJ_den _ _ _ _ _ _).symm).trans ((h (den C k) (lp C k)).trans ?_)
  first | rfl | kernel_rfl
theorem a0 {α : Type} (k : Nat) (Q : Ex → St → Option α) (x0 : List Int) (x3 : Int) :
    (lp C k) cd0 (blkQ C 0 (sq (den C k) (lp C k) Js C cd1 Q)) (St1 x0 x3) = l0 k (fun (x2 : Bool) => (fun (x2 : Bool) => Q .ret (St2 x2)) x2) (j0 (fun (x2 : Bool) => Q .ret (St2 x2))) k x0 x3 :=
  (show (lp C k) cd0 (blkQ C 0 (sq (den C k) (lp C k) Js C cd1 Q)) (St1 x0 x3) = iter (rnd C k cd0 6 (blkQ C 0 (sq (den C k) (lp C k) Js C cd1 Q))) k (St1 x0 x3) by kernel_rfl).trans ((l0_eq k (blkQ C 0 (sq (den C k) (lp C k) Js C cd1 Q)) k x0 x3).trans (l0_congr k _ _ _ _ (fun x2 => (show (blkQ C 0 (sq (den C k) (lp C k) Js C cd1 Q)) .ret (St2 x2) = Q .ret (St2 x2) by kernel_rfl)) ((show (blkQ C 0 (sq (den C k) (lp C k) Js C cd1 Q)) (.exit 0) St3 = (den C k) cd1 Q St4 by kernel_rfl).trans (by simp only [j0_eq])) k x0 x3))
def top {α : Type} (k : Nat) (Rt : Bool → Option α) (x0 : List Int) : Option α :=
  l0 k (fun (x2 : Bool) => Rt x2) (j0 Rt) k x0 0
theorem top_eq {α : Type} (k : Nat) (Q : Ex → St → Option α) (x0 : List Int) :
    (den C k) (cB Try.f174) Q (St0 x0) = top k (fun (x2 : Bool) => Q .ret (St2 x2)) x0 := by
  have h : ∀ (D L : DT α), denJ D L Js C (cB Try.f174) Q (St0 x0) =
        L cd0 (blkQ C 0 (sq D L Js C cd1 Q)) (St1 x0 0) := by
    intro D L; kernel_rfl
  refine (show (den C k) (cB Try.f174) Q (St0 x0) = denJ (den C k) (lp C k) Js C (cB Try.f174) Q (St0 x0) from (denJ_den _ _ _ _ _ _).symm).trans ((h (den C k) (lp C k)).trans ?_)
  simp only [a0]
  first | rfl | kernel_rfl
def run (x0 : List Int) : Option (Bool) := top (α := Bool) fuel (fun (x2 : Bool) => some x2) x0
def F : Fn := ⟨(.pair .str .unit), .bool, false, fun x => run x.1⟩
set_option maxRecDepth 100000 in
theorem con : Con Try.prog 174 F := by
  refine con_of_den (C := C) (ctx_ok (by kernel_rfl) (by kernel_rfl) (by kernel_rfl) (by kernel_rfl) trivial) (by kernel_rfl) Try.func174 (c := cB Try.f174) (by kernel_rfl) (by kernel_rfl) F fuel (fun x => by simp [F, spread, Try.ntmps174]) ?_
  intro x r h
  rw [← h]
  have h1 : start F Try.f174.ntmps x = (St0 x.1) := by kernel_rfl
  rw [h1]
  refine (top_eq fuel (fin C Try.f174.results.toList F.rs F.multi) x.1).trans ?_
  kernel_rfl
theorem named : Named Try.prog 174 := named_of Try.func174 (by kernel_rfl) (by kernel_rfl)
end Go.Bx.basculeref_hasNought
namespace Go.Bx.basculeref_LoadFault
open Go Go.Proofs Go.Bx
set_option maxRecDepth 100000
set_option linter.unusedVariables false
def Js : List Nat := [9, 14]
def C : Ctx := ⟨[(3, (.int .i64)), (9, .str), (31, (.int .i64)), (34, (.sl (.arr 20 (.int .u8)))), (40, (.sl (.int .u8))), (45, (.arr 4 (.int .u64))), (105, (.pair (.int .i64) (.pair (.arr 4 (.int .u64)) (.pair (.arr 4 (.int .u64)) (.pair (.arr 32 (.int .u8)) (.pair (.int .i64) (.pair (.arr 32 (.int .u8)) (.pair (.int .i64) (.pair (.int .i64) (.pair .str (.pair (.sl (.int .u8)) (.pair (.int .i64) (.pair (.sl (.arr 20 (.int .u8))) .unit)))))))))))))], [], [], fnL [(66, Go.Bx.basculeref_upTo.F), (78, Go.Bx.basculeref_Order.F), (172, Go.Bx.basculeref_only.F), (173, Go.Bx.basculeref_SameLoad.F), (174, Go.Bx.basculeref_hasNought.F)], noSh, [], invL [], [(2, [2]), (1, [4]), (32, [1, 4, 16, 17]), (39, [4])], [], [], 0, 0⟩
def St0 (x0 : Int × List Int × List Int × List Int × Int × List Int × Int × Int × List Int × List Int × Int × List (List Int) × Unit) : St := stL 103 [(0, .data (.pair (.int .i64) (.pair (.arr 4 (.int .u64)) (.pair (.arr 4 (.int .u64)) (.pair (.arr 32 (.int .u8)) (.pair (.int .i64) (.pair (.arr 32 (.int .u8)) (.pair (.int .i64) (.pair (.int .i64) (.pair .str (.pair (.sl (.int .u8)) (.pair (.int .i64) (.pair (.sl (.arr 20 (.int .u8))) .unit)))))))))))) x0)] []
def St1 (x2 : Int) : St := stL 103 [(2, .data (.int .i64) x2)] []
def St2 (x4 : Bool) (x16 : Int) (x17 : Bool) (c1 : Int × List Int × List Int × List Int × Int × List Int × Int × Int × List Int × List Int × Int × List (List Int) × Unit) : St := stL 103 [(1, .ref 1 0 []), (4, .data .bool x4), (16, .data (.int .i64) x16), (17, .data .bool x17)] [(1, .cell (.pair (.int .i64) (.pair (.arr 4 (.int .u64)) (.pair (.arr 4 (.int .u64)) (.pair (.arr 32 (.int .u8)) (.pair (.int .i64) (.pair (.arr 32 (.int .u8)) (.pair (.int .i64) (.pair (.int .i64) (.pair .str (.pair (.sl (.int .u8)) (.pair (.int .i64) (.pair (.sl (.arr 20 (.int .u8))) .unit)))))))))))) (.data (.pair (.int .i64) (.pair (.arr 4 (.int .u64)) (.pair (.arr 4 (.int .u64)) (.pair (.arr 32 (.int .u8)) (.pair (.int .i64) (.pair (.arr 32 (.int .u8)) (.pair (.int .i64) (.pair (.int .i64) (.pair .str (.pair (.sl (.int .u8)) (.pair (.int .i64) (.pair (.sl (.arr 20 (.int .u8))) .unit)))))))))))) c1) false)]
noncomputable def cd0 : Code := cR (cR (cR (cR (cR (cB Try.f150)))))
noncomputable def cd1 : Code := cR (cL (cR (cL (cR (cR (cR (cR (cB Try.f150))))))))
def St3 (x4 : Bool) : St := stL 103 [(4, .data .bool x4)] []
def j1 {α : Type} (Rt : Int → Option α) (x4 : Bool) : Option α :=
  if (not x4) = true then
    Rt 3
  else
    Rt 0
theorem j1_eq {α : Type} (k : Nat) (Q : Ex → St → Option α) (x4 : Bool) :
    (den C k) cd0 Q (St3 x4) = j1 (fun (x2 : Int) => Q .ret (St1 x2)) x4 := by
  have h : ∀ (D L : DT α), denJ D L Js C cd0 Q (St3 x4) =
        if (not x4) = true then
          Q .ret (St1 3)
        else
          Q .ret (St1 0) := by
    intro D L; kernel_rfl
  refine (show (den C k) cd0 Q (St3 x4) = denJ (den C k) (lp C k) Js C cd0 Q (St3 x4) from (denJ_den _ _ _ _ _ _).symm).trans ((h (den C k) (lp C k)).trans ?_)
  first | rfl | kernel_rfl
def j0 {α : Type} (Rt : Int → Option α) (x4 : Bool) (x16 : Int) (x17 : Bool) (c1 : Int × List Int × List Int × List Int × Int × List Int × Int × Int × List Int × List Int × Int × List (List Int) × Unit) : Option α :=
  if x17 = true then
    (if (x4 == true) = true then Go.Bx.basculeref_upTo.run c1.2.2.2.2.1 65535 else some false).bind fun y3 =>
    (if ((cond x4 y3 false) == true) = true then Go.Bx.basculeref_upTo.run c1.2.2.2.2.2.2.1 65535 else some false).bind fun y4 =>
    (if ((cond (cond x4 y3 false) y4 false) == true) = true then Go.Bx.basculeref_Order.run c1.2.2.1 c1.2.1 else some 0).bind fun y5 =>
    j1 Rt (cond (cond (cond (cond (cond x4 y3 false) y4 false) (decide (y5 ≤ 0)) false) (decide ((c1.2.2.2.2.2.2.2.2.2.1.length : Int) ≤ 100)) false) (cond (c1.1 == 3) true ((c1.2.2.2.2.2.2.2.2.2.1.length : Int) == 0)) false)
  else
    if (x16 == 2) = true then
      (if (x4 == true) = true then Go.Bx.basculeref_upTo.run c1.2.2.2.2.1 65535 else some false).bind fun y6 =>
      (if ((cond x4 y6 false) == true) = true then Go.Bx.basculeref_upTo.run c1.2.2.2.2.2.2.2.1 77 else some false).bind fun y7 =>
      (if ((cond (cond (cond x4 y6 false) y7 false) (decide ((c1.2.2.2.2.2.2.2.2.1.length : Int) ≤ 32)) false) == true) = true then Go.Bx.basculeref_hasNought.run c1.2.2.2.2.2.2.2.2.1 else some false).bind fun y8 =>
      j1 Rt (cond (cond (cond (cond x4 y6 false) y7 false) (decide ((c1.2.2.2.2.2.2.2.2.1.length : Int) ≤ 32)) false) (not y8) false)
    else
      if (x16 == 4) = true then
        (if (x4 == true) = true then Go.Bx.basculeref_upTo.run c1.2.2.2.2.2.2.2.2.2.2.1 4294967295 else some false).bind fun y9 =>
        j1 Rt (cond (cond (cond x4 y9 false) (decide ((c1.2.2.2.2.2.2.2.2.2.2.2.1.length : Int) > 0)) false) (decide ((c1.2.2.2.2.2.2.2.2.2.2.2.1.length : Int) ≤ 19)) false)
      else
        j1 Rt x4
theorem j0_eq {α : Type} (k : Nat) (Q : Ex → St → Option α) (x4 : Bool) (x16 : Int) (x17 : Bool) (c1 : Int × List Int × List Int × List Int × Int × List Int × Int × Int × List Int × List Int × Int × List (List Int) × Unit) :
    (den C k) cd1 (blkQ C 0 (sq (den C k) (lp C k) Js C cd0 Q)) (St2 x4 x16 x17 c1) = j0 (fun (x2 : Int) => Q .ret (St1 x2)) x4 x16 x17 c1 := by
  have h : ∀ (D L : DT α), denJ D L Js C cd1 (blkQ C 0 (sq D L Js C cd0 Q)) (St2 x4 x16 x17 c1) =
        if x17 = true then
          (if (x4 == true) = true then Go.Bx.basculeref_upTo.run c1.2.2.2.2.1 65535 else some false).bind fun y3 =>
          (if ((cond x4 y3 false) == true) = true then Go.Bx.basculeref_upTo.run c1.2.2.2.2.2.2.1 65535 else some false).bind fun y4 =>
          (if ((cond (cond x4 y3 false) y4 false) == true) = true then Go.Bx.basculeref_Order.run c1.2.2.1 c1.2.1 else some 0).bind fun y5 =>
          D cd0 Q (St3 (cond (cond (cond (cond (cond x4 y3 false) y4 false) (decide (y5 ≤ 0)) false) (decide ((c1.2.2.2.2.2.2.2.2.2.1.length : Int) ≤ 100)) false) (cond (c1.1 == 3) true ((c1.2.2.2.2.2.2.2.2.2.1.length : Int) == 0)) false))
        else
          if (x16 == 2) = true then
            (if (x4 == true) = true then Go.Bx.basculeref_upTo.run c1.2.2.2.2.1 65535 else some false).bind fun y6 =>
            (if ((cond x4 y6 false) == true) = true then Go.Bx.basculeref_upTo.run c1.2.2.2.2.2.2.2.1 77 else some false).bind fun y7 =>
            (if ((cond (cond (cond x4 y6 false) y7 false) (decide ((c1.2.2.2.2.2.2.2.2.1.length : Int) ≤ 32)) false) == true) = true then Go.Bx.basculeref_hasNought.run c1.2.2.2.2.2.2.2.2.1 else some false).bind fun y8 =>
            D cd0 Q (St3 (cond (cond (cond (cond x4 y6 false) y7 false) (decide ((c1.2.2.2.2.2.2.2.2.1.length : Int) ≤ 32)) false) (not y8) false))
          else
            if (x16 == 4) = true then
              (if (x4 == true) = true then Go.Bx.basculeref_upTo.run c1.2.2.2.2.2.2.2.2.2.2.1 4294967295 else some false).bind fun y9 =>
              D cd0 Q (St3 (cond (cond (cond x4 y9 false) (decide ((c1.2.2.2.2.2.2.2.2.2.2.2.1.length : Int) > 0)) false) (decide ((c1.2.2.2.2.2.2.2.2.2.2.2.1.length : Int) ≤ 19)) false))
            else
              D cd0 Q (St3 x4) := by
    intro D L; kernel_rfl
  refine (show (den C k) cd1 (blkQ C 0 (sq (den C k) (lp C k) Js C cd0 Q)) (St2 x4 x16 x17 c1) = denJ (den C k) (lp C k) Js C cd1 (blkQ C 0 (sq (den C k) (lp C k) Js C cd0 Q)) (St2 x4 x16 x17 c1) from (denJ_den _ _ _ _ _ _).symm).trans ((h (den C k) (lp C k)).trans ?_)
  simp only [j1_eq]
  first | rfl | kernel_rfl
def top {α : Type} (Rt : Int → Option α) (x0 : Int × List Int × List Int × List Int × Int × List Int × Int × Int × List Int × List Int × Int × List (List Int) × Unit) : Option α :=
  (Go.Bx.basculeref_only.run x0).bind fun y1 =>
  if (not y1.2.1) = true then
    Rt 2
  else
    (Go.Bx.basculeref_SameLoad.run x0 y1.1).bind fun y2 =>
    if (x0.1 == 1) = true then
      j0 Rt y2 x0.1 (x0.1 == 1) x0
    else
      j0 Rt y2 x0.1 (x0.1 == 3) x0
theorem top_eq {α : Type} (k : Nat) (Q : Ex → St → Option α) (x0 : Int × List Int × List Int × List Int × Int × List Int × Int × Int × List Int × List Int × Int × List (List Int) × Unit) :
    (den C k) (cB Try.f150) Q (St0 x0) = top (fun (x2 : Int) => Q .ret (St1 x2)) x0 := by
  have h : ∀ (D L : DT α), denJ D L Js C (cB Try.f150) Q (St0 x0) =
        (Go.Bx.basculeref_only.run x0).bind fun y1 =>
        if (not y1.2.1) = true then
          Q .ret (St1 2)
        else
          (Go.Bx.basculeref_SameLoad.run x0 y1.1).bind fun y2 =>
          if (x0.1 == 1) = true then
            D cd1 (blkQ C 0 (sq D L Js C cd0 Q)) (St2 y2 x0.1 (x0.1 == 1) x0)
          else
            D cd1 (blkQ C 0 (sq D L Js C cd0 Q)) (St2 y2 x0.1 (x0.1 == 3) x0) := by
    intro D L; kernel_rfl
  refine (show (den C k) (cB Try.f150) Q (St0 x0) = denJ (den C k) (lp C k) Js C (cB Try.f150) Q (St0 x0) from (denJ_den _ _ _ _ _ _).symm).trans ((h (den C k) (lp C k)).trans ?_)
  simp only [j0_eq]
  first | rfl | kernel_rfl
def run (x0 : Int × List Int × List Int × List Int × Int × List Int × Int × Int × List Int × List Int × Int × List (List Int) × Unit) : Option (Int) := top (α := Int) (fun (x2 : Int) => some x2) x0
def F : Fn := ⟨(.pair (.pair (.int .i64) (.pair (.arr 4 (.int .u64)) (.pair (.arr 4 (.int .u64)) (.pair (.arr 32 (.int .u8)) (.pair (.int .i64) (.pair (.arr 32 (.int .u8)) (.pair (.int .i64) (.pair (.int .i64) (.pair .str (.pair (.sl (.int .u8)) (.pair (.int .i64) (.pair (.sl (.arr 20 (.int .u8))) .unit)))))))))))) .unit), (.int .i64), false, fun x => run x.1⟩
set_option maxRecDepth 100000 in
theorem con : Con Try.prog 150 F := by
  refine con_of_den (C := C) (ctx_ok (by kernel_rfl) (by kernel_rfl) (by kernel_rfl) (by kernel_rfl) ⟨.inl ⟨Go.Bx.basculeref_upTo.con, Go.Bx.basculeref_upTo.named⟩, ⟨.inl ⟨Go.Bx.basculeref_Order.con, Go.Bx.basculeref_Order.named⟩, ⟨.inl ⟨Go.Bx.basculeref_only.con, Go.Bx.basculeref_only.named⟩, ⟨.inl ⟨Go.Bx.basculeref_SameLoad.con, Go.Bx.basculeref_SameLoad.named⟩, ⟨.inl ⟨Go.Bx.basculeref_hasNought.con, Go.Bx.basculeref_hasNought.named⟩, trivial⟩⟩⟩⟩⟩) (by kernel_rfl) Try.func150 (c := cB Try.f150) (by kernel_rfl) (by kernel_rfl) F fuel (fun x => by simp [F, spread, Try.ntmps150]) ?_
  intro x r h
  rw [← h]
  have h1 : start F Try.f150.ntmps x = (St0 x.1) := by kernel_rfl
  rw [h1]
  refine (top_eq fuel (fin C Try.f150.results.toList F.rs F.multi) x.1).trans ?_
  kernel_rfl
theorem named : Named Try.prog 150 := named_of Try.func150 (by kernel_rfl) (by kernel_rfl)
end Go.Bx.basculeref_LoadFault
namespace Go.Bx.load_word
open Go Go.Proofs Go.Bx
set_option maxRecDepth 100000
set_option linter.unusedVariables false
def Js : List Nat := []
def C : Ctx := ⟨[(39, (.arr 32 (.int .u8))), (40, (.sl (.int .u8)))], [], [], fnL [], noSh, [], invL [], [(2, [2])], [], [], 0, 0⟩
def St0 (x0 : List Int) : St := stL 8 [(0, .data (.sl (.int .u8)) x0)] []
def St1 (c2 : List Int) : St := stL 8 [(2, .ref 2 0 [])] [(2, .cell (.arr 32 (.int .u8)) (.data (.arr 32 (.int .u8)) c2) false)]
def top {α : Type} (Rt : (List Int) → Option α) (x0 : List Int) : Option α :=
  Rt (cpyL (List.replicate 32 0) 0 32 x0)
theorem top_eq {α : Type} (k : Nat) (Q : Ex → St → Option α) (x0 : List Int) :
    (den C k) (cB Try.f206) Q (St0 x0) = top (fun (c2 : List Int) => Q .ret (St1 c2)) x0 := by
  have h : ∀ (D L : DT α), denJ D L Js C (cB Try.f206) Q (St0 x0) =
        Q .ret (St1 (cpyL (List.replicate 32 0) 0 32 x0)) := by
    intro D L; kernel_rfl
  refine (show (den C k) (cB Try.f206) Q (St0 x0) = denJ (den C k) (lp C k) Js C (cB Try.f206) Q (St0 x0) from (denJ_den _ _ _ _ _ _).symm).trans ((h (den C k) (lp C k)).trans ?_)
  first | rfl | kernel_rfl
def run (x0 : List Int) : Option (List Int) := top (α := List Int) (fun (c2 : List Int) => some c2) x0
def F : Fn := ⟨(.pair (.sl (.int .u8)) .unit), (.arr 32 (.int .u8)), false, fun x => run x.1⟩
set_option maxRecDepth 100000 in
theorem con : Con Try.prog 206 F := by
  refine con_of_den (C := C) (ctx_ok (by kernel_rfl) (by kernel_rfl) (by kernel_rfl) (by kernel_rfl) trivial) (by kernel_rfl) Try.func206 (c := cB Try.f206) (by kernel_rfl) (by kernel_rfl) F fuel (fun x => by simp [F, spread, Try.ntmps206]) ?_
  intro x r h
  rw [← h]
  have h1 : start F Try.f206.ntmps x = (St0 x.1) := by kernel_rfl
  rw [h1]
  refine (top_eq fuel (fin C Try.f206.results.toList F.rs F.multi) x.1).trans ?_
  kernel_rfl
theorem named : Named Try.prog 206 := named_of Try.func206 (by kernel_rfl) (by kernel_rfl)
end Go.Bx.load_word
namespace Go.Bx.load_transfer__get
open Go Go.Proofs Go.Bx
set_option maxRecDepth 100000
set_option linter.unusedVariables false
def Js : List Nat := []
def C : Ctx := ⟨[(3, (.int .i64)), (5, (.int .u8)), (31, (.int .i64)), (40, (.sl (.int .u8))), (105, (.pair (.int .i64) (.pair (.arr 4 (.int .u64)) (.pair (.arr 4 (.int .u64)) (.pair (.arr 32 (.int .u8)) (.pair (.int .i64) (.pair (.arr 32 (.int .u8)) (.pair (.int .i64) (.pair (.int .i64) (.pair .str (.pair (.sl (.int .u8)) (.pair (.int .i64) (.pair (.sl (.arr 20 (.int .u8))) .unit))))))))))))), (202, (.pair .bool .unit))], [], [], fnL [(205, Go.Bx.wide_From.F), (206, Go.Bx.load_word.F)], noSh, [], invL [], [(2, [4, 5])], [(2, [.dat false 4 [9]])], [47], 0, 0⟩
def St0 (x0 : Bool × Unit) (x1 : List Int) : St := stL 49 [(0, .data (.pair .bool .unit) x0), (1, .data (.sl (.int .u8)) x1)] []
def St1 (x5 : Int) (c4p0 : Int) (c4p1 : List Int) (c4p2 : List Int) (c4p3 : List Int) (c4p4 : Int) (c4p5 : List Int) (c4p6 : Int) (c4p7 : Int) (c4p8 : List Int) (c4p9 : List Int) (c4p10 : Int) : St := stL 49 [(4, .ref 4 0 []), (5, .data (.int .i64) x5)] [(4, .cell (.pair (.int .i64) (.pair (.arr 4 (.int .u64)) (.pair (.arr 4 (.int .u64)) (.pair (.arr 32 (.int .u8)) (.pair (.int .i64) (.pair (.arr 32 (.int .u8)) (.pair (.int .i64) (.pair (.int .i64) (.pair .str (.pair (.sl (.int .u8)) (.pair (.int .i64) (.pair (.sl (.arr 20 (.int .u8))) .unit)))))))))))) (.agg (.pair (.int .i64) (.pair (.arr 4 (.int .u64)) (.pair (.arr 4 (.int .u64)) (.pair (.arr 32 (.int .u8)) (.pair (.int .i64) (.pair (.arr 32 (.int .u8)) (.pair (.int .i64) (.pair (.int .i64) (.pair .str (.pair (.sl (.int .u8)) (.pair (.int .i64) (.pair (.sl (.arr 20 (.int .u8))) .unit)))))))))))) [.data (.int .i64) c4p0, .data (.arr 4 (.int .u64)) c4p1, .data (.arr 4 (.int .u64)) c4p2, .data (.arr 32 (.int .u8)) c4p3, .data (.int .i64) c4p4, .data (.arr 32 (.int .u8)) c4p5, .data (.int .i64) c4p6, .data (.int .i64) c4p7, .data .str c4p8, .data (.sl (.int .u8)) c4p9, .data (.int .i64) c4p10, .full (.arr 20 (.int .u8)) []]) false)]
def top {α : Type} (Rt : Int → Int → (List Int) → (List Int) → (List Int) → Int → (List Int) → Int → Int → (List Int) → (List Int) → Int → Option α) (x0 : Bool × Unit) (x1 : List Int) : Option α :=
  if (decide ((x1.length : Int) < 132)) = true then
    Rt 4 0 [0, 0, 0, 0] [0, 0, 0, 0] (List.replicate 32 0) 0 (List.replicate 32 0) 0 0 [] [] 0
  else
    if 0 ≤ (0 : Int) ∧ (0 : Int) ≤ (32 : Int) ∧ (32 : Int) ≤ (x1.length : Int) then
      (Go.Bx.load_word.run (cutL x1 0 32)).bind fun y1 =>
      (Go.Bx.wide_From.run y1).bind fun y2 =>
      if 0 ≤ (32 : Int) ∧ (32 : Int) ≤ (64 : Int) ∧ (64 : Int) ≤ (x1.length : Int) then
        (Go.Bx.load_word.run (cutL x1 32 64)).bind fun y3 =>
        if 0 ≤ (64 : Int) ∧ (64 : Int) < (x1.length : Int) then
          if 0 ≤ (65 : Int) ∧ (65 : Int) < (x1.length : Int) then
            if 0 ≤ (66 : Int) ∧ (66 : Int) ≤ (98 : Int) ∧ (98 : Int) ≤ (x1.length : Int) then
              (Go.Bx.load_word.run (cutL x1 66 98)).bind fun y4 =>
              if 0 ≤ (98 : Int) ∧ (98 : Int) < (x1.length : Int) then
                if 0 ≤ (99 : Int) ∧ (99 : Int) < (x1.length : Int) then
                  if 0 ≤ (100 : Int) ∧ (100 : Int) ≤ (132 : Int) ∧ (132 : Int) ≤ (x1.length : Int) then
                    (Go.Bx.load_word.run (cutL x1 100 132)).bind fun y5 =>
                    (Go.Bx.wide_From.run y5).bind fun y6 =>
                    if 0 ≤ (132 : Int) ∧ (132 : Int) ≤ (x1.length : Int) ∧ (x1.length : Int) ≤ (x1.length : Int) then
                      if fitB (0 + (cutL x1 132 (x1.length : Int)).length) 1 = true then
                        Rt 0 0 y2 y6 y3 (bor .i64 (shlI .i64 (IntKind.i64.wrap (List.getD x1 64 0)) 8) (IntKind.i64.wrap (List.getD x1 65 0))) y4 (bor .i64 (shlI .i64 (IntKind.i64.wrap (List.getD x1 98 0)) 8) (IntKind.i64.wrap (List.getD x1 99 0))) 0 [] (cutL x1 132 (x1.length : Int)) 0
                      else none
                    else none
                  else none
                else none
              else none
            else none
          else none
        else none
      else none
    else none
theorem top_eq {α : Type} (k : Nat) (Q : Ex → St → Option α) (x0 : Bool × Unit) (x1 : List Int) :
    (den C k) (cB Try.f202) Q (St0 x0 x1) = top (fun (x5 : Int) (c4p0 : Int) (c4p1 : List Int) (c4p2 : List Int) (c4p3 : List Int) (c4p4 : Int) (c4p5 : List Int) (c4p6 : Int) (c4p7 : Int) (c4p8 : List Int) (c4p9 : List Int) (c4p10 : Int) => Q .ret (St1 x5 c4p0 c4p1 c4p2 c4p3 c4p4 c4p5 c4p6 c4p7 c4p8 c4p9 c4p10)) x0 x1 := by
  have h : ∀ (D L : DT α), denJ D L Js C (cB Try.f202) Q (St0 x0 x1) =
        if (decide ((x1.length : Int) < 132)) = true then
          Q .ret (St1 4 0 [0, 0, 0, 0] [0, 0, 0, 0] (List.replicate 32 0) 0 (List.replicate 32 0) 0 0 [] [] 0)
        else
          if 0 ≤ (0 : Int) ∧ (0 : Int) ≤ (32 : Int) ∧ (32 : Int) ≤ (x1.length : Int) then
            (Go.Bx.load_word.run (cutL x1 0 32)).bind fun y1 =>
            (Go.Bx.wide_From.run y1).bind fun y2 =>
            if 0 ≤ (32 : Int) ∧ (32 : Int) ≤ (64 : Int) ∧ (64 : Int) ≤ (x1.length : Int) then
              (Go.Bx.load_word.run (cutL x1 32 64)).bind fun y3 =>
              if 0 ≤ (64 : Int) ∧ (64 : Int) < (x1.length : Int) then
                if 0 ≤ (65 : Int) ∧ (65 : Int) < (x1.length : Int) then
                  if 0 ≤ (66 : Int) ∧ (66 : Int) ≤ (98 : Int) ∧ (98 : Int) ≤ (x1.length : Int) then
                    (Go.Bx.load_word.run (cutL x1 66 98)).bind fun y4 =>
                    if 0 ≤ (98 : Int) ∧ (98 : Int) < (x1.length : Int) then
                      if 0 ≤ (99 : Int) ∧ (99 : Int) < (x1.length : Int) then
                        if 0 ≤ (100 : Int) ∧ (100 : Int) ≤ (132 : Int) ∧ (132 : Int) ≤ (x1.length : Int) then
                          (Go.Bx.load_word.run (cutL x1 100 132)).bind fun y5 =>
                          (Go.Bx.wide_From.run y5).bind fun y6 =>
                          if 0 ≤ (132 : Int) ∧ (132 : Int) ≤ (x1.length : Int) ∧ (x1.length : Int) ≤ (x1.length : Int) then
                            if fitB (0 + (cutL x1 132 (x1.length : Int)).length) 1 = true then
                              Q .ret (St1 0 0 y2 y6 y3 (bor .i64 (shlI .i64 (IntKind.i64.wrap (List.getD x1 64 0)) 8) (IntKind.i64.wrap (List.getD x1 65 0))) y4 (bor .i64 (shlI .i64 (IntKind.i64.wrap (List.getD x1 98 0)) 8) (IntKind.i64.wrap (List.getD x1 99 0))) 0 [] (cutL x1 132 (x1.length : Int)) 0)
                            else none
                          else none
                        else none
                      else none
                    else none
                  else none
                else none
              else none
            else none
          else none := by
    intro D L; kernel_rfl
  refine (show (den C k) (cB Try.f202) Q (St0 x0 x1) = denJ (den C k) (lp C k) Js C (cB Try.f202) Q (St0 x0 x1) from (denJ_den _ _ _ _ _ _).symm).trans ((h (den C k) (lp C k)).trans ?_)
  first | rfl | kernel_rfl
def run (x0 : Bool × Unit) (x1 : List Int) : Option ((Int × List Int × List Int × List Int × Int × List Int × Int × Int × List Int × List Int × Int × List (List Int) × Unit) × Int × Unit) := top (α := (Int × List Int × List Int × List Int × Int × List Int × Int × Int × List Int × List Int × Int × List (List Int) × Unit) × Int × Unit) (fun (x5 : Int) (c4p0 : Int) (c4p1 : List Int) (c4p2 : List Int) (c4p3 : List Int) (c4p4 : Int) (c4p5 : List Int) (c4p6 : Int) (c4p7 : Int) (c4p8 : List Int) (c4p9 : List Int) (c4p10 : Int) => some ((c4p0, c4p1, c4p2, c4p3, c4p4, c4p5, c4p6, c4p7, c4p8, c4p9, c4p10, [], ()), x5, ())) x0 x1
def F : Fn := ⟨(.pair (.pair .bool .unit) (.pair (.sl (.int .u8)) .unit)), (.pair (.pair (.int .i64) (.pair (.arr 4 (.int .u64)) (.pair (.arr 4 (.int .u64)) (.pair (.arr 32 (.int .u8)) (.pair (.int .i64) (.pair (.arr 32 (.int .u8)) (.pair (.int .i64) (.pair (.int .i64) (.pair .str (.pair (.sl (.int .u8)) (.pair (.int .i64) (.pair (.sl (.arr 20 (.int .u8))) .unit)))))))))))) (.pair (.int .i64) .unit)), true, fun x => run x.1 x.2.1⟩
set_option maxRecDepth 100000 in
theorem con : Con Try.prog 202 F := by
  refine con_of_den (C := C) (ctx_ok (by kernel_rfl) (by kernel_rfl) (by kernel_rfl) (by kernel_rfl) ⟨.inl ⟨Go.Bx.wide_From.con, Go.Bx.wide_From.named⟩, ⟨.inl ⟨Go.Bx.load_word.con, Go.Bx.load_word.named⟩, trivial⟩⟩) (by kernel_rfl) Try.func202 (c := cB Try.f202) (by kernel_rfl) (by kernel_rfl) F fuel (fun x => by simp [F, spread, Try.ntmps202]) ?_
  intro x r h
  rw [← h]
  have h1 : start F Try.f202.ntmps x = (St0 x.1 x.2.1) := by kernel_rfl
  rw [h1]
  refine (top_eq fuel (fin C Try.f202.results.toList F.rs F.multi) x.1 x.2.1).trans ?_
  kernel_rfl
theorem named : Named Try.prog 202 := named_of Try.func202 (by kernel_rfl) (by kernel_rfl)
end Go.Bx.load_transfer__get
namespace Go.Bx.load_meta__get
open Go Go.Proofs Go.Bx
set_option maxRecDepth 100000
set_option linter.unusedVariables false
def Js : List Nat := [9]
def C : Ctx := ⟨[(3, (.int .i64)), (5, (.int .u8)), (9, .str), (31, (.int .i64)), (40, (.sl (.int .u8))), (105, (.pair (.int .i64) (.pair (.arr 4 (.int .u64)) (.pair (.arr 4 (.int .u64)) (.pair (.arr 32 (.int .u8)) (.pair (.int .i64) (.pair (.arr 32 (.int .u8)) (.pair (.int .i64) (.pair (.int .i64) (.pair .str (.pair (.sl (.int .u8)) (.pair (.int .i64) (.pair (.sl (.arr 20 (.int .u8))) .unit))))))))))))), (204, .unit)], [], [], fnL [(206, Go.Bx.load_word.F)], noSh, [], invL [], [(2, [4, 5]), (1, [1, 4, 6]), (4, [1, 4, 6]), (18, [1, 4, 6]), (24, [1, 4, 6])], [], [], 0, 0⟩
def St0 (x0 : Unit) (x1 : List Int) : St := stL 49 [(0, .data .unit x0), (1, .data (.sl (.int .u8)) x1)] []
def St1 (x5 : Int) (c4p0 : Int) (c4p1 : List Int) (c4p2 : List Int) (c4p3 : List Int) (c4p4 : Int) (c4p5 : List Int) (c4p6 : Int) (c4p7 : Int) (c4p8 : List Int) (c4p10 : Int) : St := stL 49 [(4, .ref 4 0 []), (5, .data (.int .i64) x5)] [(4, .cell (.pair (.int .i64) (.pair (.arr 4 (.int .u64)) (.pair (.arr 4 (.int .u64)) (.pair (.arr 32 (.int .u8)) (.pair (.int .i64) (.pair (.arr 32 (.int .u8)) (.pair (.int .i64) (.pair (.int .i64) (.pair .str (.pair (.sl (.int .u8)) (.pair (.int .i64) (.pair (.sl (.arr 20 (.int .u8))) .unit)))))))))))) (.agg (.pair (.int .i64) (.pair (.arr 4 (.int .u64)) (.pair (.arr 4 (.int .u64)) (.pair (.arr 32 (.int .u8)) (.pair (.int .i64) (.pair (.arr 32 (.int .u8)) (.pair (.int .i64) (.pair (.int .i64) (.pair .str (.pair (.sl (.int .u8)) (.pair (.int .i64) (.pair (.sl (.arr 20 (.int .u8))) .unit)))))))))))) [.data (.int .i64) c4p0, .data (.arr 4 (.int .u64)) c4p1, .data (.arr 4 (.int .u64)) c4p2, .data (.arr 32 (.int .u8)) c4p3, .data (.int .i64) c4p4, .data (.arr 32 (.int .u8)) c4p5, .data (.int .i64) c4p6, .data (.int .i64) c4p7, .data .str c4p8, .full (.int .u8) [], .data (.int .i64) c4p10, .full (.arr 20 (.int .u8)) []]) false)]
def St2 (x1 : List Int) (x6 : Int) (c4p0 : Int) (c4p1 : List Int) (c4p2 : List Int) (c4p3 : List Int) (c4p4 : Int) (c4p5 : List Int) (c4p6 : Int) (c4p7 : Int) (c4p8 : List Int) (c4p10 : Int) : St := stL 49 [(1, .data (.sl (.int .u8)) x1), (4, .ref 4 0 []), (6, .data (.int .i64) x6)] [(4, .cell (.pair (.int .i64) (.pair (.arr 4 (.int .u64)) (.pair (.arr 4 (.int .u64)) (.pair (.arr 32 (.int .u8)) (.pair (.int .i64) (.pair (.arr 32 (.int .u8)) (.pair (.int .i64) (.pair (.int .i64) (.pair .str (.pair (.sl (.int .u8)) (.pair (.int .i64) (.pair (.sl (.arr 20 (.int .u8))) .unit)))))))))))) (.agg (.pair (.int .i64) (.pair (.arr 4 (.int .u64)) (.pair (.arr 4 (.int .u64)) (.pair (.arr 32 (.int .u8)) (.pair (.int .i64) (.pair (.arr 32 (.int .u8)) (.pair (.int .i64) (.pair (.int .i64) (.pair .str (.pair (.sl (.int .u8)) (.pair (.int .i64) (.pair (.sl (.arr 20 (.int .u8))) .unit)))))))))))) [.data (.int .i64) c4p0, .data (.arr 4 (.int .u64)) c4p1, .data (.arr 4 (.int .u64)) c4p2, .data (.arr 32 (.int .u8)) c4p3, .data (.int .i64) c4p4, .data (.arr 32 (.int .u8)) c4p5, .data (.int .i64) c4p6, .data (.int .i64) c4p7, .data .str c4p8, .full (.int .u8) [], .data (.int .i64) c4p10, .full (.arr 20 (.int .u8)) []]) false)]
noncomputable def cd0 : Code := cL (cL (cL (cR (cR (cR (cR (cB Try.f209)))))))
def St3 (x1 : List Int) (x6 : Int) (c4p0 : Int) (c4p1 : List Int) (c4p2 : List Int) (c4p3 : List Int) (c4p4 : Int) (c4p5 : List Int) (c4p6 : Int) (c4p7 : Int) (c4p8 : List Int) (c4p10 : Int) : St := stL 49 [(1, .data (.sl (.int .u8)) x1), (4, .ref 4 0 []), (6, .data (.int .i64) x6)] [(4, .cell (.pair (.int .i64) (.pair (.arr 4 (.int .u64)) (.pair (.arr 4 (.int .u64)) (.pair (.arr 32 (.int .u8)) (.pair (.int .i64) (.pair (.arr 32 (.int .u8)) (.pair (.int .i64) (.pair (.int .i64) (.pair .str (.pair (.sl (.int .u8)) (.pair (.int .i64) (.pair (.sl (.arr 20 (.int .u8))) .unit)))))))))))) (.agg (.pair (.int .i64) (.pair (.arr 4 (.int .u64)) (.pair (.arr 4 (.int .u64)) (.pair (.arr 32 (.int .u8)) (.pair (.int .i64) (.pair (.arr 32 (.int .u8)) (.pair (.int .i64) (.pair (.int .i64) (.pair .str (.pair (.sl (.int .u8)) (.pair (.int .i64) (.pair (.sl (.arr 20 (.int .u8))) .unit)))))))))))) [.data (.int .i64) c4p0, .data (.arr 4 (.int .u64)) c4p1, .data (.arr 4 (.int .u64)) c4p2, .data (.arr 32 (.int .u8)) c4p3, .data (.int .i64) c4p4, .data (.arr 32 (.int .u8)) c4p5, .data (.int .i64) c4p6, .data (.int .i64) c4p7, .data .str c4p8, .full (.int .u8) [], .data (.int .i64) c4p10, .full (.arr 20 (.int .u8)) []]) false)]
def l0s {α : Type} (Nx : (List Int) → Int → Int → (List Int) → (List Int) → (List Int) → Int → (List Int) → Int → Int → (List Int) → Int → Option α) (Xt0 : (List Int) → Int → Int → (List Int) → (List Int) → (List Int) → Int → (List Int) → Int → Int → (List Int) → Int → Option α) (x1 : List Int) (x6 : Int) (c4p0 : Int) (c4p1 : List Int) (c4p2 : List Int) (c4p3 : List Int) (c4p4 : Int) (c4p5 : List Int) (c4p6 : Int) (c4p7 : Int) (c4p8 : List Int) (c4p10 : Int) : Option α :=
  cond (decide (0 ≤ (IntKind.i64.wrap (x6 - 1)) ∧ (IntKind.i64.wrap (x6 - 1)) < (x1.length : Int)) || !((decide (x6 > 35)) == true)) (
    if (cond (decide (x6 > 35)) ((List.getD x1 (Int.toNat (IntKind.i64.wrap (x6 - 1))) 0) == 0) false) = true then
      Nx x1 (IntKind.i64.wrap (x6 - 1)) c4p0 c4p1 c4p2 c4p3 c4p4 c4p5 c4p6 c4p7 c4p8 c4p10
    else
      Xt0 x1 x6 c4p0 c4p1 c4p2 c4p3 c4p4 c4p5 c4p6 c4p7 c4p8 c4p10) none
theorem l0s_eq {α : Type} (k : Nat) (next : St → Option α) (Q : Ex → St → Option α) (x1 : List Int) (x6 : Int) (c4p0 : Int) (c4p1 : List Int) (c4p2 : List Int) (c4p3 : List Int) (c4p4 : Int) (c4p5 : List Int) (c4p6 : Int) (c4p7 : Int) (c4p8 : List Int) (c4p10 : Int) :
    rnd C k cd0 18 Q next (St2 x1 x6 c4p0 c4p1 c4p2 c4p3 c4p4 c4p5 c4p6 c4p7 c4p8 c4p10) = l0s (fun (x1 : List Int) (x6 : Int) (c4p0 : Int) (c4p1 : List Int) (c4p2 : List Int) (c4p3 : List Int) (c4p4 : Int) (c4p5 : List Int) (c4p6 : Int) (c4p7 : Int) (c4p8 : List Int) (c4p10 : Int) => next (St2 x1 x6 c4p0 c4p1 c4p2 c4p3 c4p4 c4p5 c4p6 c4p7 c4p8 c4p10)) (fun (x1 : List Int) (x6 : Int) (c4p0 : Int) (c4p1 : List Int) (c4p2 : List Int) (c4p3 : List Int) (c4p4 : Int) (c4p5 : List Int) (c4p6 : Int) (c4p7 : Int) (c4p8 : List Int) (c4p10 : Int) => Q (.exit 0) (St3 x1 x6 c4p0 c4p1 c4p2 c4p3 c4p4 c4p5 c4p6 c4p7 c4p8 c4p10)) x1 x6 c4p0 c4p1 c4p2 c4p3 c4p4 c4p5 c4p6 c4p7 c4p8 c4p10 := by
  have h : ∀ (D L : DT α), denJ D L Js C cd0 (lq C 18 next Q) (St2 x1 x6 c4p0 c4p1 c4p2 c4p3 c4p4 c4p5 c4p6 c4p7 c4p8 c4p10) =
        cond (decide (0 ≤ (IntKind.i64.wrap (x6 - 1)) ∧ (IntKind.i64.wrap (x6 - 1)) < (x1.length : Int)) || !((decide (x6 > 35)) == true)) (
          if (cond (decide (x6 > 35)) ((List.getD x1 (Int.toNat (IntKind.i64.wrap (x6 - 1))) 0) == 0) false) = true then
            next (St2 x1 (IntKind.i64.wrap (x6 - 1)) c4p0 c4p1 c4p2 c4p3 c4p4 c4p5 c4p6 c4p7 c4p8 c4p10)
          else
            Q (.exit 0) (St3 x1 x6 c4p0 c4p1 c4p2 c4p3 c4p4 c4p5 c4p6 c4p7 c4p8 c4p10)) none := by
    intro D L; kernel_rfl
  refine (show rnd C k cd0 18 Q next (St2 x1 x6 c4p0 c4p1 c4p2 c4p3 c4p4 c4p5 c4p6 c4p7 c4p8 c4p10) = denJ (den C k) (lp C k) Js C cd0 (lq C 18 next Q) (St2 x1 x6 c4p0 c4p1 c4p2 c4p3 c4p4 c4p5 c4p6 c4p7 c4p8 c4p10) from (denJ_den _ _ _ _ _ _).symm).trans ((h (den C k) (lp C k)).trans ?_)
  first | rfl | kernel_rfl
def l0 {α : Type} (k : Nat) (Xt0 : (List Int) → Int → Int → (List Int) → (List Int) → (List Int) → Int → (List Int) → Int → Int → (List Int) → Int → Option α) : Nat → (List Int) → Int → Int → (List Int) → (List Int) → (List Int) → Int → (List Int) → Int → Int → (List Int) → Int → Option α
  | 0, _, _, _, _, _, _, _, _, _, _, _, _ => none
  | n + 1, x1, x6, c4p0, c4p1, c4p2, c4p3, c4p4, c4p5, c4p6, c4p7, c4p8, c4p10 => l0s (l0 k Xt0 n) Xt0 x1 x6 c4p0 c4p1 c4p2 c4p3 c4p4 c4p5 c4p6 c4p7 c4p8 c4p10
theorem l0_eq {α : Type} (k : Nat) (Q : Ex → St → Option α) : ∀ (n : Nat) (x1 : List Int) (x6 : Int) (c4p0 : Int) (c4p1 : List Int) (c4p2 : List Int) (c4p3 : List Int) (c4p4 : Int) (c4p5 : List Int) (c4p6 : Int) (c4p7 : Int) (c4p8 : List Int) (c4p10 : Int), iter (rnd C k cd0 18 Q) n (St2 x1 x6 c4p0 c4p1 c4p2 c4p3 c4p4 c4p5 c4p6 c4p7 c4p8 c4p10) = l0 k (fun (x1 : List Int) (x6 : Int) (c4p0 : Int) (c4p1 : List Int) (c4p2 : List Int) (c4p3 : List Int) (c4p4 : Int) (c4p5 : List Int) (c4p6 : Int) (c4p7 : Int) (c4p8 : List Int) (c4p10 : Int) => Q (.exit 0) (St3 x1 x6 c4p0 c4p1 c4p2 c4p3 c4p4 c4p5 c4p6 c4p7 c4p8 c4p10)) n x1 x6 c4p0 c4p1 c4p2 c4p3 c4p4 c4p5 c4p6 c4p7 c4p8 c4p10
  | 0, _, _, _, _, _, _, _, _, _, _, _, _ => rfl
  | n + 1, x1, x6, c4p0, c4p1, c4p2, c4p3, c4p4, c4p5, c4p6, c4p7, c4p8, c4p10 => (iter_succ _ _ _).trans ((l0s_eq k (iter (rnd C k cd0 18 Q) n) Q x1 x6 c4p0 c4p1 c4p2 c4p3 c4p4 c4p5 c4p6 c4p7 c4p8 c4p10).trans (congrArg (fun N => l0s N (fun (x1 : List Int) (x6 : Int) (c4p0 : Int) (c4p1 : List Int) (c4p2 : List Int) (c4p3 : List Int) (c4p4 : Int) (c4p5 : List Int) (c4p6 : Int) (c4p7 : Int) (c4p8 : List Int) (c4p10 : Int) => Q (.exit 0) (St3 x1 x6 c4p0 c4p1 c4p2 c4p3 c4p4 c4p5 c4p6 c4p7 c4p8 c4p10)) x1 x6 c4p0 c4p1 c4p2 c4p3 c4p4 c4p5 c4p6 c4p7 c4p8 c4p10) (funext fun x1 => funext fun x6 => funext fun c4p0 => funext fun c4p1 => funext fun c4p2 => funext fun c4p3 => funext fun c4p4 => funext fun c4p5 => funext fun c4p6 => funext fun c4p7 => funext fun c4p8 => funext fun c4p10 => l0_eq k Q n x1 x6 c4p0 c4p1 c4p2 c4p3 c4p4 c4p5 c4p6 c4p7 c4p8 c4p10)))
theorem l0_congr {α : Type} (k : Nat) (Xt0 : (List Int) → Int → Int → (List Int) → (List Int) → (List Int) → Int → (List Int) → Int → Int → (List Int) → Int → Option α) (Xt0q : (List Int) → Int → Int → (List Int) → (List Int) → (List Int) → Int → (List Int) → Int → Int → (List Int) → Int → Option α) (hXt0 : ∀ (x1 : List Int) (x6 : Int) (c4p0 : Int) (c4p1 : List Int) (c4p2 : List Int) (c4p3 : List Int) (c4p4 : Int) (c4p5 : List Int) (c4p6 : Int) (c4p7 : Int) (c4p8 : List Int) (c4p10 : Int), Xt0 x1 x6 c4p0 c4p1 c4p2 c4p3 c4p4 c4p5 c4p6 c4p7 c4p8 c4p10 = Xt0q x1 x6 c4p0 c4p1 c4p2 c4p3 c4p4 c4p5 c4p6 c4p7 c4p8 c4p10) (n : Nat) (x1 : List Int) (x6 : Int) (c4p0 : Int) (c4p1 : List Int) (c4p2 : List Int) (c4p3 : List Int) (c4p4 : Int) (c4p5 : List Int) (c4p6 : Int) (c4p7 : Int) (c4p8 : List Int) (c4p10 : Int) : l0 k Xt0 n x1 x6 c4p0 c4p1 c4p2 c4p3 c4p4 c4p5 c4p6 c4p7 c4p8 c4p10 = l0 k Xt0q n x1 x6 c4p0 c4p1 c4p2 c4p3 c4p4 c4p5 c4p6 c4p7 c4p8 c4p10 := by
  obtain rfl : Xt0 = Xt0q := by funext x1; funext x6; funext c4p0; funext c4p1; funext c4p2; funext c4p3; funext c4p4; funext c4p5; funext c4p6; funext c4p7; funext c4p8; funext c4p10; exact hXt0 x1 x6 c4p0 c4p1 c4p2 c4p3 c4p4 c4p5 c4p6 c4p7 c4p8 c4p10
  rfl
noncomputable def cd1 : Code := cR (cR (cR (cR (cR (cB Try.f209)))))
def St4 (x1 : List Int) (x6 : Int) (c4p0 : Int) (c4p1 : List Int) (c4p2 : List Int) (c4p3 : List Int) (c4p4 : Int) (c4p5 : List Int) (c4p6 : Int) (c4p7 : Int) (c4p8 : List Int) (c4p10 : Int) : St := stL 49 [(1, .data (.sl (.int .u8)) x1), (4, .ref 4 0 []), (6, .data (.int .i64) x6)] [(4, .cell (.pair (.int .i64) (.pair (.arr 4 (.int .u64)) (.pair (.arr 4 (.int .u64)) (.pair (.arr 32 (.int .u8)) (.pair (.int .i64) (.pair (.arr 32 (.int .u8)) (.pair (.int .i64) (.pair (.int .i64) (.pair .str (.pair (.sl (.int .u8)) (.pair (.int .i64) (.pair (.sl (.arr 20 (.int .u8))) .unit)))))))))))) (.agg (.pair (.int .i64) (.pair (.arr 4 (.int .u64)) (.pair (.arr 4 (.int .u64)) (.pair (.arr 32 (.int .u8)) (.pair (.int .i64) (.pair (.arr 32 (.int .u8)) (.pair (.int .i64) (.pair (.int .i64) (.pair .str (.pair (.sl (.int .u8)) (.pair (.int .i64) (.pair (.sl (.arr 20 (.int .u8))) .unit)))))))))))) [.data (.int .i64) c4p0, .data (.arr 4 (.int .u64)) c4p1, .data (.arr 4 (.int .u64)) c4p2, .data (.arr 32 (.int .u8)) c4p3, .data (.int .i64) c4p4, .data (.arr 32 (.int .u8)) c4p5, .data (.int .i64) c4p6, .data (.int .i64) c4p7, .data .str c4p8, .full (.int .u8) [], .data (.int .i64) c4p10, .full (.arr 20 (.int .u8)) []]) false)]
def j0 {α : Type} (Rt : Int → Int → (List Int) → (List Int) → (List Int) → Int → (List Int) → Int → Int → (List Int) → Int → Option α) (x1 : List Int) (x6 : Int) (c4p0 : Int) (c4p1 : List Int) (c4p2 : List Int) (c4p3 : List Int) (c4p4 : Int) (c4p5 : List Int) (c4p6 : Int) (c4p7 : Int) (c4p8 : List Int) (c4p10 : Int) : Option α :=
  if 0 ≤ (0 : Int) ∧ (0 : Int) ≤ (32 : Int) ∧ (32 : Int) ≤ (x1.length : Int) then
    (Go.Bx.load_word.run (cutL x1 0 32)).bind fun y1 =>
    if 0 ≤ (32 : Int) ∧ (32 : Int) < (x1.length : Int) then
      if 0 ≤ (33 : Int) ∧ (33 : Int) < (x1.length : Int) then
        if 0 ≤ (34 : Int) ∧ (34 : Int) < (x1.length : Int) then
          if 0 ≤ (35 : Int) ∧ (35 : Int) ≤ x6 ∧ x6 ≤ (x1.length : Int) then
            Rt 0 0 [0, 0, 0, 0] [0, 0, 0, 0] y1 (bor .i64 (shlI .i64 (IntKind.i64.wrap (List.getD x1 32 0)) 8) (IntKind.i64.wrap (List.getD x1 33 0))) (List.replicate 32 0) 0 (IntKind.i64.wrap (List.getD x1 34 0)) (cutL x1 35 x6) 0
          else none
        else none
      else none
    else none
  else none
theorem j0_eq {α : Type} (k : Nat) (Q : Ex → St → Option α) (x1 : List Int) (x6 : Int) (c4p0 : Int) (c4p1 : List Int) (c4p2 : List Int) (c4p3 : List Int) (c4p4 : Int) (c4p5 : List Int) (c4p6 : Int) (c4p7 : Int) (c4p8 : List Int) (c4p10 : Int) :
    (den C k) cd1 Q (St4 x1 x6 c4p0 c4p1 c4p2 c4p3 c4p4 c4p5 c4p6 c4p7 c4p8 c4p10) = j0 (fun (x5 : Int) (c4p0 : Int) (c4p1 : List Int) (c4p2 : List Int) (c4p3 : List Int) (c4p4 : Int) (c4p5 : List Int) (c4p6 : Int) (c4p7 : Int) (c4p8 : List Int) (c4p10 : Int) => Q .ret (St1 x5 c4p0 c4p1 c4p2 c4p3 c4p4 c4p5 c4p6 c4p7 c4p8 c4p10)) x1 x6 c4p0 c4p1 c4p2 c4p3 c4p4 c4p5 c4p6 c4p7 c4p8 c4p10 := by
  have h : ∀ (D L : DT α), denJ D L Js C cd1 Q (St4 x1 x6 c4p0 c4p1 c4p2 c4p3 c4p4 c4p5 c4p6 c4p7 c4p8 c4p10) =
        if 0 ≤ (0 : Int) ∧ (0 : Int) ≤ (32 : Int) ∧ (32 : Int) ≤ (x1.length : Int) then
          (Go.Bx.load_word.run (cutL x1 0 32)).bind fun y1 =>
          if 0 ≤ (32 : Int) ∧ (32 : Int) < (x1.length : Int) then
            if 0 ≤ (33 : Int) ∧ (33 : Int) < (x1.length : Int) then
              if 0 ≤ (34 : Int) ∧ (34 : Int) < (x1.length : Int) then
                if 0 ≤ (35 : Int) ∧ (35 : Int) ≤ x6 ∧ x6 ≤ (x1.length : Int) then
                  Q .ret (St1 0 0 [0, 0, 0, 0] [0, 0, 0, 0] y1 (bor .i64 (shlI .i64 (IntKind.i64.wrap (List.getD x1 32 0)) 8) (IntKind.i64.wrap (List.getD x1 33 0))) (List.replicate 32 0) 0 (IntKind.i64.wrap (List.getD x1 34 0)) (cutL x1 35 x6) 0)
                else none
              else none
            else none
          else none
        else none := by
    intro D L; kernel_rfl
  refine (show (den C k) cd1 Q (St4 x1 x6 c4p0 c4p1 c4p2 c4p3 c4p4 c4p5 c4p6 c4p7 c4p8 c4p10) = denJ (den C k) (lp C k) Js C cd1 Q (St4 x1 x6 c4p0 c4p1 c4p2 c4p3 c4p4 c4p5 c4p6 c4p7 c4p8 c4p10) from (denJ_den _ _ _ _ _ _).symm).trans ((h (den C k) (lp C k)).trans ?_)
  first | rfl | kernel_rfl
theorem a0 {α : Type} (k : Nat) (Q : Ex → St → Option α) (x1 : List Int) (x6 : Int) (c4p0 : Int) (c4p1 : List Int) (c4p2 : List Int) (c4p3 : List Int) (c4p4 : Int) (c4p5 : List Int) (c4p6 : Int) (c4p7 : Int) (c4p8 : List Int) (c4p10 : Int) :
    (lp C k) cd0 (blkQ C 0 (sq (den C k) (lp C k) Js C cd1 Q)) (St2 x1 x6 c4p0 c4p1 c4p2 c4p3 c4p4 c4p5 c4p6 c4p7 c4p8 c4p10) = l0 k (fun (x1 : List Int) (x6 : Int) (c4p0 : Int) (c4p1 : List Int) (c4p2 : List Int) (c4p3 : List Int) (c4p4 : Int) (c4p5 : List Int) (c4p6 : Int) (c4p7 : Int) (c4p8 : List Int) (c4p10 : Int) => j0 (fun (x5 : Int) (c4p0 : Int) (c4p1 : List Int) (c4p2 : List Int) (c4p3 : List Int) (c4p4 : Int) (c4p5 : List Int) (c4p6 : Int) (c4p7 : Int) (c4p8 : List Int) (c4p10 : Int) => Q .ret (St1 x5 c4p0 c4p1 c4p2 c4p3 c4p4 c4p5 c4p6 c4p7 c4p8 c4p10)) x1 x6 c4p0 c4p1 c4p2 c4p3 c4p4 c4p5 c4p6 c4p7 c4p8 c4p10) k x1 x6 c4p0 c4p1 c4p2 c4p3 c4p4 c4p5 c4p6 c4p7 c4p8 c4p10 :=
  (show (lp C k) cd0 (blkQ C 0 (sq (den C k) (lp C k) Js C cd1 Q)) (St2 x1 x6 c4p0 c4p1 c4p2 c4p3 c4p4 c4p5 c4p6 c4p7 c4p8 c4p10) = iter (rnd C k cd0 18 (blkQ C 0 (sq (den C k) (lp C k) Js C cd1 Q))) k (St2 x1 x6 c4p0 c4p1 c4p2 c4p3 c4p4 c4p5 c4p6 c4p7 c4p8 c4p10) by kernel_rfl).trans ((l0_eq k (blkQ C 0 (sq (den C k) (lp C k) Js C cd1 Q)) k x1 x6 c4p0 c4p1 c4p2 c4p3 c4p4 c4p5 c4p6 c4p7 c4p8 c4p10).trans (l0_congr k _ _ (fun x1 x6 c4p0 c4p1 c4p2 c4p3 c4p4 c4p5 c4p6 c4p7 c4p8 c4p10 => ((show (blkQ C 0 (sq (den C k) (lp C k) Js C cd1 Q)) (.exit 0) (St3 x1 x6 c4p0 c4p1 c4p2 c4p3 c4p4 c4p5 c4p6 c4p7 c4p8 c4p10) = (den C k) cd1 Q (St4 x1 x6 c4p0 c4p1 c4p2 c4p3 c4p4 c4p5 c4p6 c4p7 c4p8 c4p10) by kernel_rfl).trans (by simp only [j0_eq]))) k x1 x6 c4p0 c4p1 c4p2 c4p3 c4p4 c4p5 c4p6 c4p7 c4p8 c4p10))
def top {α : Type} (k : Nat) (Rt : Int → Int → (List Int) → (List Int) → (List Int) → Int → (List Int) → Int → Int → (List Int) → Int → Option α) (x0 : Unit) (x1 : List Int) : Option α :=
  if (decide ((x1.length : Int) < 67)) = true then
    Rt 4 0 [0, 0, 0, 0] [0, 0, 0, 0] (List.replicate 32 0) 0 (List.replicate 32 0) 0 0 [] 0
  else
    if (decide ((x1.length : Int) > 67)) = true then
      Rt 3 0 [0, 0, 0, 0] [0, 0, 0, 0] (List.replicate 32 0) 0 (List.replicate 32 0) 0 0 [] 0
    else
      l0 k (fun (x1 : List Int) (x6 : Int) (c4p0 : Int) (c4p1 : List Int) (c4p2 : List Int) (c4p3 : List Int) (c4p4 : Int) (c4p5 : List Int) (c4p6 : Int) (c4p7 : Int) (c4p8 : List Int) (c4p10 : Int) => j0 Rt x1 x6 c4p0 c4p1 c4p2 c4p3 c4p4 c4p5 c4p6 c4p7 c4p8 c4p10) k x1 67 0 [0, 0, 0, 0] [0, 0, 0, 0] (List.replicate 32 0) 0 (List.replicate 32 0) 0 0 [] 0
theorem top_eq {α : Type} (k : Nat) (Q : Ex → St → Option α) (x0 : Unit) (x1 : List Int) :
    (den C k) (cB Try.f209) Q (St0 x0 x1) = top k (fun (x5 : Int) (c4p0 : Int) (c4p1 : List Int) (c4p2 : List Int) (c4p3 : List Int) (c4p4 : Int) (c4p5 : List Int) (c4p6 : Int) (c4p7 : Int) (c4p8 : List Int) (c4p10 : Int) => Q .ret (St1 x5 c4p0 c4p1 c4p2 c4p3 c4p4 c4p5 c4p6 c4p7 c4p8 c4p10)) x0 x1 := by
  have h : ∀ (D L : DT α), denJ D L Js C (cB Try.f209) Q (St0 x0 x1) =
        if (decide ((x1.length : Int) < 67)) = true then
          Q .ret (St1 4 0 [0, 0, 0, 0] [0, 0, 0, 0] (List.replicate 32 0) 0 (List.replicate 32 0) 0 0 [] 0)
        else
          if (decide ((x1.length : Int) > 67)) = true then
            Q .ret (St1 3 0 [0, 0, 0, 0] [0, 0, 0, 0] (List.replicate 32 0) 0 (List.replicate 32 0) 0 0 [] 0)
          else
            L cd0 (blkQ C 0 (sq D L Js C cd1 Q)) (St2 x1 67 0 [0, 0, 0, 0] [0, 0, 0, 0] (List.replicate 32 0) 0 (List.replicate 32 0) 0 0 [] 0) := by
    intro D L; kernel_rfl
  refine (show (den C k) (cB Try.f209) Q (St0 x0 x1) = denJ (den C k) (lp C k) Js C (cB Try.f209) Q (St0 x0 x1) from (denJ_den _ _ _ _ _ _).symm).trans ((h (den C k) (lp C k)).trans ?_)
  simp only [a0]
  first | rfl | kernel_rfl
def run (x0 : Unit) (x1 : List Int) : Option ((Int × List Int × List Int × List Int × Int × List Int × Int × Int × List Int × List Int × Int × List (List Int) × Unit) × Int × Unit) := top (α := (Int × List Int × List Int × List Int × Int × List Int × Int × Int × List Int × List Int × Int × List (List Int) × Unit) × Int × Unit) fuel (fun (x5 : Int) (c4p0 : Int) (c4p1 : List Int) (c4p2 : List Int) (c4p3 : List Int) (c4p4 : Int) (c4p5 : List Int) (c4p6 : Int) (c4p7 : Int) (c4p8 : List Int) (c4p10 : Int) => some ((c4p0, c4p1, c4p2, c4p3, c4p4, c4p5, c4p6, c4p7, c4p8, [], c4p10, [], ()), x5, ())) x0 x1
def F : Fn := ⟨(.pair .unit (.pair (.sl (.int .u8)) .unit)), (.pair (.pair (.int .i64) (.pair (.arr 4 (.int .u64)) (.pair (.arr 4 (.int .u64)) (.pair (.arr 32 (.int .u8)) (.pair (.int .i64) (.pair (.arr 32 (.int .u8)) (.pair (.int .i64) (.pair (.int .i64) (.pair .str (.pair (.sl (.int .u8)) (.pair (.int .i64) (.pair (.sl (.arr 20 (.int .u8))) .unit)))))))))))) (.pair (.int .i64) .unit)), true, fun x => run x.1 x.2.1⟩
set_option maxRecDepth 100000 in
theorem con : Con Try.prog 209 F := by
  refine con_of_den (C := C) (ctx_ok (by kernel_rfl) (by kernel_rfl) (by kernel_rfl) (by kernel_rfl) ⟨.inl ⟨Go.Bx.load_word.con, Go.Bx.load_word.named⟩, trivial⟩) (by kernel_rfl) Try.func209 (c := cB Try.f209) (by kernel_rfl) (by kernel_rfl) F fuel (fun x => by simp [F, spread, Try.ntmps209]) ?_
  intro x r h
  rw [← h]
  have h1 : start F Try.f209.ntmps x = (St0 x.1 x.2.1) := by kernel_rfl
  rw [h1]
  refine (top_eq fuel (fin C Try.f209.results.toList F.rs F.multi) x.1 x.2.1).trans ?_
  kernel_rfl
theorem named : Named Try.prog 209 := named_of Try.func209 (by kernel_rfl) (by kernel_rfl)
end Go.Bx.load_meta__get
