/- Go functions of this seat in their own words of Lean, each tied to its code by a contract. -/
import Derived.Test.YtpapikaeaodfgaaGBase
namespace Go.Bx.basculeref_of
open Go Go.Proofs Go.Bx
set_option maxRecDepth 100000
set_option linter.unusedVariables false
def Js : List Nat := [8]
def C : Ctx := ⟨[(56, (.arr 4 (.int .u64))), (114, (.sl (.int .u64)))], [], [], fnL [], noSh, [], invL [], [(2, [2]), (1, [3]), (4, [3, 6, 7]), (9, [3, 6, 7]), (21, [3])], [(9, [.melt true 3 [] 16 true])], [], 0, 0⟩
def St0 (x0 : List Int) : St := stL 19 [(0, .data (.arr 4 (.int .u64)) x0)] []
def St1 (x6 : List Int) (x7 : Int) (c16 : List Int) : St := stL 19 [(3, .app 16 0), (6, .data (.arr 4 (.int .u64)) x6), (7, .data (.int .i64) x7)] [(16, .buf (.int .u64) c16 0 true)]
noncomputable def cd0 : Code := cL (cL (cR (cL (cR (cR (cB Try.f68))))))
def St2 (c16 : List Int) : St := stL 19 [(3, .app 16 0)] [(16, .buf (.int .u64) c16 0 true)]
def l0s {α : Type} (Nx : (List Int) → Int → (List Int) → Option α) (Xt0 : (List Int) → Option α) (x6 : List Int) (x7 : Int) (c16 : List Int) : Option α :=
  if (decide (x7 < 4)) = true then
    if 0 ≤ x7 ∧ x7 < (4 : Int) then
      if fitB (c16.length + 2) 8 = true then
        Nx x6 (IntKind.i64.wrap (x7 + 1)) (c16 ++ [(Int.tmod (List.getD x6 (Int.toNat x7) 0) 4294967296), (IntKind.u64.wrap (Int.tdiv (List.getD x6 (Int.toNat x7) 0) 4294967296))])
      else none
    else none
  else
    Xt0 c16
theorem l0s_eq {α : Type} (k : Nat) (next : St → Option α) (Q : Ex → St → Option α) (x6 : List Int) (x7 : Int) (c16 : List Int) :
    rnd C k cd0 9 Q next (St1 x6 x7 c16) = l0s (fun (x6 : List Int) (x7 : Int) (c16 : List Int) => next (St1 x6 x7 c16)) (fun (c16 : List Int) => Q (.exit 0) (St2 c16)) x6 x7 c16 := by
  have h : ∀ (D L : DT α), denJ D L Js C cd0 (lq C 9 next Q) (St1 x6 x7 c16) =
        if (decide (x7 < 4)) = true then
          if 0 ≤ x7 ∧ x7 < (4 : Int) then
            if fitB (c16.length + 2) 8 = true then
              next (St1 x6 (IntKind.i64.wrap (x7 + 1)) (c16 ++ [(Int.tmod (List.getD x6 (Int.toNat x7) 0) 4294967296), (IntKind.u64.wrap (Int.tdiv (List.getD x6 (Int.toNat x7) 0) 4294967296))]))
            else none
          else none
        else
          Q (.exit 0) (St2 c16) := by
    intro D L; kernel_rfl
  refine (show rnd C k cd0 9 Q next (St1 x6 x7 c16) = denJ (den C k) (lp C k) Js C cd0 (lq C 9 next Q) (St1 x6 x7 c16) from (denJ_den _ _ _ _ _ _).symm).trans ((h (den C k) (lp C k)).trans ?_)
  first | rfl | kernel_rfl
def l0 {α : Type} (k : Nat) (Xt0 : (List Int) → Option α) : Nat → (List Int) → Int → (List Int) → Option α
  | 0, _, _, _ => none
  | n + 1, x6, x7, c16 => l0s (l0 k Xt0 n) Xt0 x6 x7 c16
theorem l0_eq {α : Type} (k : Nat) (Q : Ex → St → Option α) : ∀ (n : Nat) (x6 : List Int) (x7 : Int) (c16 : List Int), iter (rnd C k cd0 9 Q) n (St1 x6 x7 c16) = l0 k (fun (c16 : List Int) => Q (.exit 0) (St2 c16)) n x6 x7 c16
  | 0, _, _, _ => rfl
  | n + 1, x6, x7, c16 => (iter_succ _ _ _).trans ((l0s_eq k (iter (rnd C k cd0 9 Q) n) Q x6 x7 c16).trans (congrArg (fun N => l0s N (fun (c16 : List Int) => Q (.exit 0) (St2 c16)) x6 x7 c16) (funext fun x6 => funext fun x7 => funext fun c16 => l0_eq k Q n x6 x7 c16)))
theorem l0_congr {α : Type} (k : Nat) (Xt0 : (List Int) → Option α) (Xt0q : (List Int) → Option α) (hXt0 : ∀ (c16 : List Int), Xt0 c16 = Xt0q c16) (n : Nat) (x6 : List Int) (x7 : Int) (c16 : List Int) : l0 k Xt0 n x6 x7 c16 = l0 k Xt0q n x6 x7 c16 := by
  obtain rfl : Xt0 = Xt0q := by funext c16; exact hXt0 c16
  rfl
noncomputable def cd1 : Code := cR (cR (cR (cB Try.f68)))
def St3 (c16 : List Int) : St := stL 19 [(3, .app 16 0)] [(16, .buf (.int .u64) c16 0 true)]
def St4 (c16 : List Int) : St := stL 19 [(2, .app 16 0)] [(16, .buf (.int .u64) c16 0 true)]
def j0 {α : Type} (Rt : (List Int) → Option α) (c16 : List Int) : Option α :=
  Rt c16
theorem j0_eq {α : Type} (k : Nat) (Q : Ex → St → Option α) (c16 : List Int) :
    (den C k) cd1 Q (St3 c16) = j0 (fun (c16 : List Int) => Q .ret (St4 c16)) c16 := by
  have h : ∀ (D L : DT α), denJ D L Js C cd1 Q (St3 c16) =
        Q .ret (St4 c16) := by
    intro D L; kernel_rfl
  refine (show (den C k) cd1 Q (St3 c16) = denJ (den C k) (lp C k) Js C cd1 Q (St3 c16) from (denJ_den _ _ _ _ _ _).symm).trans ((h (den C k) (lp C k)).trans ?_)
  first | rfl | kernel_rfl
theorem a0 {α : Type} (k : Nat) (Q : Ex → St → Option α) (x6 : List Int) (x7 : Int) (c16 : List Int) :
    (lp C k) cd0 (blkQ C 0 (sq (den C k) (lp C k) Js C cd1 Q)) (St1 x6 x7 c16) = l0 k (fun (c16 : List Int) => j0 (fun (c16 : List Int) => Q .ret (St4 c16)) c16) k x6 x7 c16 :=
  (show (lp C k) cd0 (blkQ C 0 (sq (den C k) (lp C k) Js C cd1 Q)) (St1 x6 x7 c16) = iter (rnd C k cd0 9 (blkQ C 0 (sq (den C k) (lp C k) Js C cd1 Q))) k (St1 x6 x7 c16) by kernel_rfl).trans ((l0_eq k (blkQ C 0 (sq (den C k) (lp C k) Js C cd1 Q)) k x6 x7 c16).trans (l0_congr k _ _ (fun c16 => ((show (blkQ C 0 (sq (den C k) (lp C k) Js C cd1 Q)) (.exit 0) (St2 c16) = (den C k) cd1 Q (St3 c16) by kernel_rfl).trans (by simp only [j0_eq]))) k x6 x7 c16))
def top {α : Type} (k : Nat) (Rt : (List Int) → Option α) (x0 : List Int) : Option α :=
  l0 k (fun (c16 : List Int) => j0 Rt c16) k x0 0 []
theorem top_eq {α : Type} (k : Nat) (Q : Ex → St → Option α) (x0 : List Int) :
    (den C k) (cB Try.f68) Q (St0 x0) = top k (fun (c16 : List Int) => Q .ret (St4 c16)) x0 := by
  have h : ∀ (D L : DT α), denJ D L Js C (cB Try.f68) Q (St0 x0) =
        L cd0 (blkQ C 0 (sq D L Js C cd1 Q)) (St1 x0 0 []) := by
    intro D L; kernel_rfl
  refine (show (den C k) (cB Try.f68) Q (St0 x0) = denJ (den C k) (lp C k) Js C (cB Try.f68) Q (St0 x0) from (denJ_den _ _ _ _ _ _).symm).trans ((h (den C k) (lp C k)).trans ?_)
  simp only [a0]
  first | rfl | kernel_rfl
def run (x0 : List Int) : Option (List Int) := top (α := List Int) fuel (fun (c16 : List Int) => some c16) x0
def F : Fn := ⟨(.pair (.arr 4 (.int .u64)) .unit), (.sl (.int .u64)), false, fun x => run x.1⟩
set_option maxRecDepth 100000 in
theorem con : Con Try.prog 68 F := by
  refine con_of_den (C := C) (ctx_ok (by kernel_rfl) (by kernel_rfl) (by kernel_rfl) (by kernel_rfl) trivial) (by kernel_rfl) Try.func68 (c := cB Try.f68) (by kernel_rfl) (by kernel_rfl) F fuel (fun x => by simp [F, spread, Try.ntmps68]) ?_
  intro x r h
  rw [← h]
  have h1 : start F Try.f68.ntmps x = (St0 x.1) := by kernel_rfl
  rw [h1]
  refine (top_eq fuel (fin C Try.f68.results.toList F.rs F.multi) x.1).trans ?_
  kernel_rfl
theorem named : Named Try.prog 68 := named_of Try.func68 (by kernel_rfl) (by kernel_rfl)
end Go.Bx.basculeref_of
namespace Go.Bx.basculeref_plus
open Go Go.Proofs Go.Bx
set_option maxRecDepth 100000
set_option linter.unusedVariables false
def Js : List Nat := [10, 12, 13]
def C : Ctx := ⟨[(54, (.int .u64)), (114, (.sl (.int .u64)))], [], [], fnL [], noSh, [], invL [], [(2, [4]), (1, [5, 6]), (4, [0, 1, 5, 6, 7]), (12, [0, 1, 5, 6, 7]), (27, [0, 1, 5, 7, 8]), (33, [0, 1, 5, 7, 8]), (36, [5, 6])], [(12, [.melt true 5 [] 46 true])], [], 0, 0⟩
def St0 (x0 : List Int) (x1 : List Int) : St := stL 53 [(0, .data (.sl (.int .u64)) x0), (1, .data (.sl (.int .u64)) x1)] []
def St1 (x0 : List Int) (x1 : List Int) (x6 : Int) (x7 : Int) (c46 : List Int) : St := stL 53 [(0, .data (.sl (.int .u64)) x0), (1, .data (.sl (.int .u64)) x1), (5, .app 46 0), (6, .data (.int .u64) x6), (7, .data (.int .i64) x7)] [(46, .buf (.int .u64) c46 0 true)]
noncomputable def cd0 : Code := cL (cL (cR (cL (cR (cR (cR (cB Try.f118)))))))
def St2 (x0 : List Int) (x1 : List Int) (x7 : Int) (x8 : Int) (c46 : List Int) : St := stL 53 [(0, .data (.sl (.int .u64)) x0), (1, .data (.sl (.int .u64)) x1), (5, .app 46 0), (7, .data (.int .i64) x7), (8, .data (.int .u64) x8)] [(46, .buf (.int .u64) c46 0 true)]
noncomputable def cd1 : Code := cR (cR (cL (cL (cR (cL (cR (cR (cR (cB Try.f118)))))))))
noncomputable def cd2 : Code := cR (cR (cL (cL (cR (cL (cL (cR (cL (cR (cR (cR (cB Try.f118))))))))))))
def St3 (x0 : List Int) (x1 : List Int) (x7 : Int) (x8 : Int) (c46 : List Int) : St := stL 53 [(0, .data (.sl (.int .u64)) x0), (1, .data (.sl (.int .u64)) x1), (5, .app 46 0), (7, .data (.int .i64) x7), (8, .data (.int .u64) x8)] [(46, .buf (.int .u64) c46 0 true)]
noncomputable def cd3 : Code := cR (cR (cR (cL (cL (cR (cL (cL (cR (cL (cR (cR (cR (cB Try.f118)))))))))))))
def j1 {α : Type} (Nx : (List Int) → (List Int) → Int → Int → (List Int) → Option α) (x0 : List Int) (x1 : List Int) (x7 : Int) (x8 : Int) (c46 : List Int) : Option α :=
  if fitB (c46.length + 1) 8 = true then
    Nx x0 x1 (IntKind.u64.wrap (Int.tdiv x8 4294967296)) (IntKind.i64.wrap (x7 + 1)) (c46 ++ [(Int.tmod x8 4294967296)])
  else none
theorem j1_eq {α : Type} (k : Nat) (next : St → Option α) (Q : Ex → St → Option α) (x0 : List Int) (x1 : List Int) (x7 : Int) (x8 : Int) (c46 : List Int) :
    (den C k) cd3 (blkQ C 1 (sq (den C k) (lp C k) Js C cd1 (lq C 12 next Q))) (St3 x0 x1 x7 x8 c46) = j1 (fun (x0 : List Int) (x1 : List Int) (x6 : Int) (x7 : Int) (c46 : List Int) => next (St1 x0 x1 x6 x7 c46)) x0 x1 x7 x8 c46 := by
  have h : ∀ (D L : DT α), denJ D L Js C cd3 (blkQ C 1 (sq D L Js C cd1 (lq C 12 next Q))) (St3 x0 x1 x7 x8 c46) =
        if fitB (c46.length + 1) 8 = true then
          next (St1 x0 x1 (IntKind.u64.wrap (Int.tdiv x8 4294967296)) (IntKind.i64.wrap (x7 + 1)) (c46 ++ [(Int.tmod x8 4294967296)]))
        else none := by
    intro D L; kernel_rfl
  refine (show (den C k) cd3 (blkQ C 1 (sq (den C k) (lp C k) Js C cd1 (lq C 12 next Q))) (St3 x0 x1 x7 x8 c46) = denJ (den C k) (lp C k) Js C cd3 (blkQ C 1 (sq (den C k) (lp C k) Js C cd1 (lq C 12 next Q))) (St3 x0 x1 x7 x8 c46) from (denJ_den _ _ _ _ _ _).symm).trans ((h (den C k) (lp C k)).trans ?_)
  first | rfl | kernel_rfl
def j0 {α : Type} (Nx : (List Int) → (List Int) → Int → Int → (List Int) → Option α) (x0 : List Int) (x1 : List Int) (x7 : Int) (x8 : Int) (c46 : List Int) : Option α :=
  if (decide (x7 < (x1.length : Int))) = true then
    if 0 ≤ x7 ∧ x7 < (x1.length : Int) then
      j1 Nx x0 x1 x7 (IntKind.u64.wrap (x8 + (List.getD x1 (Int.toNat x7) 0))) c46
    else none
  else
    j1 Nx x0 x1 x7 x8 c46
theorem j0_eq {α : Type} (k : Nat) (next : St → Option α) (Q : Ex → St → Option α) (x0 : List Int) (x1 : List Int) (x7 : Int) (x8 : Int) (c46 : List Int) :
    (den C k) cd2 (blkQ C 1 (sq (den C k) (lp C k) Js C cd1 (lq C 12 next Q))) (St2 x0 x1 x7 x8 c46) = j0 (fun (x0 : List Int) (x1 : List Int) (x6 : Int) (x7 : Int) (c46 : List Int) => next (St1 x0 x1 x6 x7 c46)) x0 x1 x7 x8 c46 := by
  have h : ∀ (D L : DT α), denJ D L Js C cd2 (blkQ C 1 (sq D L Js C cd1 (lq C 12 next Q))) (St2 x0 x1 x7 x8 c46) =
        if (decide (x7 < (x1.length : Int))) = true then
          if 0 ≤ x7 ∧ x7 < (x1.length : Int) then
            D cd3 (blkQ C 1 (sq D L Js C cd1 (lq C 12 next Q))) (St3 x0 x1 x7 (IntKind.u64.wrap (x8 + (List.getD x1 (Int.toNat x7) 0))) c46)
          else none
        else
          D cd3 (blkQ C 1 (sq D L Js C cd1 (lq C 12 next Q))) (St3 x0 x1 x7 x8 c46) := by
    intro D L; kernel_rfl
  refine (show (den C k) cd2 (blkQ C 1 (sq (den C k) (lp C k) Js C cd1 (lq C 12 next Q))) (St2 x0 x1 x7 x8 c46) = denJ (den C k) (lp C k) Js C cd2 (blkQ C 1 (sq (den C k) (lp C k) Js C cd1 (lq C 12 next Q))) (St2 x0 x1 x7 x8 c46) from (denJ_den _ _ _ _ _ _).symm).trans ((h (den C k) (lp C k)).trans ?_)
  simp only [j1_eq]
  first | rfl | kernel_rfl
def St4 (x6 : Int) (c46 : List Int) : St := stL 53 [(5, .app 46 0), (6, .data (.int .u64) x6)] [(46, .buf (.int .u64) c46 0 true)]
def l0s {α : Type} (Nx : (List Int) → (List Int) → Int → Int → (List Int) → Option α) (Xt0 : Int → (List Int) → Option α) (x0 : List Int) (x1 : List Int) (x6 : Int) (x7 : Int) (c46 : List Int) : Option α :=
  if (cond (decide (x7 < (x0.length : Int))) true (decide (x7 < (x1.length : Int)))) = true then
    if (decide (x7 < (x0.length : Int))) = true then
      if 0 ≤ x7 ∧ x7 < (x0.length : Int) then
        j0 Nx x0 x1 x7 (IntKind.u64.wrap (x6 + (List.getD x0 (Int.toNat x7) 0))) c46
      else none
    else
      j0 Nx x0 x1 x7 x6 c46
  else
    Xt0 x6 c46
theorem l0s_eq {α : Type} (k : Nat) (next : St → Option α) (Q : Ex → St → Option α) (x0 : List Int) (x1 : List Int) (x6 : Int) (x7 : Int) (c46 : List Int) :
    rnd C k cd0 12 Q next (St1 x0 x1 x6 x7 c46) = l0s (fun (x0 : List Int) (x1 : List Int) (x6 : Int) (x7 : Int) (c46 : List Int) => next (St1 x0 x1 x6 x7 c46)) (fun (x6 : Int) (c46 : List Int) => Q (.exit 0) (St4 x6 c46)) x0 x1 x6 x7 c46 := by
  have h : ∀ (D L : DT α), denJ D L Js C cd0 (lq C 12 next Q) (St1 x0 x1 x6 x7 c46) =
        if (cond (decide (x7 < (x0.length : Int))) true (decide (x7 < (x1.length : Int)))) = true then
          if (decide (x7 < (x0.length : Int))) = true then
            if 0 ≤ x7 ∧ x7 < (x0.length : Int) then
              D cd2 (blkQ C 1 (sq D L Js C cd1 (lq C 12 next Q))) (St2 x0 x1 x7 (IntKind.u64.wrap (x6 + (List.getD x0 (Int.toNat x7) 0))) c46)
            else none
          else
            D cd2 (blkQ C 1 (sq D L Js C cd1 (lq C 12 next Q))) (St2 x0 x1 x7 x6 c46)
        else
          Q (.exit 0) (St4 x6 c46) := by
    intro D L; kernel_rfl
  refine (show rnd C k cd0 12 Q next (St1 x0 x1 x6 x7 c46) = denJ (den C k) (lp C k) Js C cd0 (lq C 12 next Q) (St1 x0 x1 x6 x7 c46) from (denJ_den _ _ _ _ _ _).symm).trans ((h (den C k) (lp C k)).trans ?_)
  simp only [j0_eq]
  first | rfl | kernel_rfl
def l0 {α : Type} (k : Nat) (Xt0 : Int → (List Int) → Option α) : Nat → (List Int) → (List Int) → Int → Int → (List Int) → Option α
  | 0, _, _, _, _, _ => none
  | n + 1, x0, x1, x6, x7, c46 => l0s (l0 k Xt0 n) Xt0 x0 x1 x6 x7 c46
theorem l0_eq {α : Type} (k : Nat) (Q : Ex → St → Option α) : ∀ (n : Nat) (x0 : List Int) (x1 : List Int) (x6 : Int) (x7 : Int) (c46 : List Int), iter (rnd C k cd0 12 Q) n (St1 x0 x1 x6 x7 c46) = l0 k (fun (x6 : Int) (c46 : List Int) => Q (.exit 0) (St4 x6 c46)) n x0 x1 x6 x7 c46
  | 0, _, _, _, _, _ => rfl
  | n + 1, x0, x1, x6, x7, c46 => (iter_succ _ _ _).trans ((l0s_eq k (iter (rnd C k cd0 12 Q) n) Q x0 x1 x6 x7 c46).trans (congrArg (fun N => l0s N (fun (x6 : Int) (c46 : List Int) => Q (.exit 0) (St4 x6 c46)) x0 x1 x6 x7 c46) (funext fun x0 => funext fun x1 => funext fun x6 => funext fun x7 => funext fun c46 => l0_eq k Q n x0 x1 x6 x7 c46)))
theorem l0_congr {α : Type} (k : Nat) (Xt0 : Int → (List Int) → Option α) (Xt0q : Int → (List Int) → Option α) (hXt0 : ∀ (x6 : Int) (c46 : List Int), Xt0 x6 c46 = Xt0q x6 c46) (n : Nat) (x0 : List Int) (x1 : List Int) (x6 : Int) (x7 : Int) (c46 : List Int) : l0 k Xt0 n x0 x1 x6 x7 c46 = l0 k Xt0q n x0 x1 x6 x7 c46 := by
  obtain rfl : Xt0 = Xt0q := by funext x6; funext c46; exact hXt0 x6 c46
  rfl
noncomputable def cd4 : Code := cR (cR (cR (cR (cB Try.f118))))
def St5 (x6 : Int) (c46 : List Int) : St := stL 53 [(5, .app 46 0), (6, .data (.int .u64) x6)] [(46, .buf (.int .u64) c46 0 true)]
def St6 (c46 : List Int) : St := stL 53 [(4, .app 46 0)] [(46, .buf (.int .u64) c46 0 true)]
def j2 {α : Type} (Rt : (List Int) → Option α) (x6 : Int) (c46 : List Int) : Option α :=
  if fitB (c46.length + 1) 8 = true then
    Rt (c46 ++ [x6])
  else none
theorem j2_eq {α : Type} (k : Nat) (Q : Ex → St → Option α) (x6 : Int) (c46 : List Int) :
    (den C k) cd4 Q (St5 x6 c46) = j2 (fun (c46 : List Int) => Q .ret (St6 c46)) x6 c46 := by
  have h : ∀ (D L : DT α), denJ D L Js C cd4 Q (St5 x6 c46) =
        if fitB (c46.length + 1) 8 = true then
          Q .ret (St6 (c46 ++ [x6]))
        else none := by
    intro D L; kernel_rfl
  refine (show (den C k) cd4 Q (St5 x6 c46) = denJ (den C k) (lp C k) Js C cd4 Q (St5 x6 c46) from (denJ_den _ _ _ _ _ _).symm).trans ((h (den C k) (lp C k)).trans ?_)
  first | rfl | kernel_rfl
theorem a0 {α : Type} (k : Nat) (Q : Ex → St → Option α) (x0 : List Int) (x1 : List Int) (x6 : Int) (x7 : Int) (c46 : List Int) :
    (lp C k) cd0 (blkQ C 0 (sq (den C k) (lp C k) Js C cd4 Q)) (St1 x0 x1 x6 x7 c46) = l0 k (fun (x6 : Int) (c46 : List Int) => j2 (fun (c46 : List Int) => Q .ret (St6 c46)) x6 c46) k x0 x1 x6 x7 c46 :=
  (show (lp C k) cd0 (blkQ C 0 (sq (den C k) (lp C k) Js C cd4 Q)) (St1 x0 x1 x6 x7 c46) = iter (rnd C k cd0 12 (blkQ C 0 (sq (den C k) (lp C k) Js C cd4 Q))) k (St1 x0 x1 x6 x7 c46) by kernel_rfl).trans ((l0_eq k (blkQ C 0 (sq (den C k) (lp C k) Js C cd4 Q)) k x0 x1 x6 x7 c46).trans (l0_congr k _ _ (fun x6 c46 => ((show (blkQ C 0 (sq (den C k) (lp C k) Js C cd4 Q)) (.exit 0) (St4 x6 c46) = (den C k) cd4 Q (St5 x6 c46) by kernel_rfl).trans (by simp only [j2_eq]))) k x0 x1 x6 x7 c46))
def top {α : Type} (k : Nat) (Rt : (List Int) → Option α) (x0 : List Int) (x1 : List Int) : Option α :=
  l0 k (fun (x6 : Int) (c46 : List Int) => j2 Rt x6 c46) k x0 x1 0 0 []
theorem top_eq {α : Type} (k : Nat) (Q : Ex → St → Option α) (x0 : List Int) (x1 : List Int) :
    (den C k) (cB Try.f118) Q (St0 x0 x1) = top k (fun (c46 : List Int) => Q .ret (St6 c46)) x0 x1 := by
  have h : ∀ (D L : DT α), denJ D L Js C (cB Try.f118) Q (St0 x0 x1) =
        L cd0 (blkQ C 0 (sq D L Js C cd4 Q)) (St1 x0 x1 0 0 []) := by
    intro D L; kernel_rfl
  refine (show (den C k) (cB Try.f118) Q (St0 x0 x1) = denJ (den C k) (lp C k) Js C (cB Try.f118) Q (St0 x0 x1) from (denJ_den _ _ _ _ _ _).symm).trans ((h (den C k) (lp C k)).trans ?_)
  simp only [a0]
  first | rfl | kernel_rfl
def run (x0 : List Int) (x1 : List Int) : Option (List Int) := top (α := List Int) fuel (fun (c46 : List Int) => some c46) x0 x1
def F : Fn := ⟨(.pair (.sl (.int .u64)) (.pair (.sl (.int .u64)) .unit)), (.sl (.int .u64)), false, fun x => run x.1 x.2.1⟩
set_option maxRecDepth 100000 in
theorem con : Con Try.prog 118 F := by
  refine con_of_den (C := C) (ctx_ok (by kernel_rfl) (by kernel_rfl) (by kernel_rfl) (by kernel_rfl) trivial) (by kernel_rfl) Try.func118 (c := cB Try.f118) (by kernel_rfl) (by kernel_rfl) F fuel (fun x => by simp [F, spread, Try.ntmps118]) ?_
  intro x r h
  rw [← h]
  have h1 : start F Try.f118.ntmps x = (St0 x.1 x.2.1) := by kernel_rfl
  rw [h1]
  refine (top_eq fuel (fin C Try.f118.results.toList F.rs F.multi) x.1 x.2.1).trans ?_
  kernel_rfl
theorem named : Named Try.prog 118 := named_of Try.func118 (by kernel_rfl) (by kernel_rfl)
end Go.Bx.basculeref_plus
namespace Go.Bx.basculeref_less
open Go Go.Proofs Go.Bx
set_option maxRecDepth 100000
set_option linter.unusedVariables false
def Js : List Nat := [10, 14, 16]
def C : Ctx := ⟨[(54, (.int .u64)), (114, (.sl (.int .u64)))], [], [], fnL [], noSh, [], invL [], [(2, [4]), (1, [5]), (4, [1, 5, 6, 13, 14]), (12, [1, 5, 6, 13, 14]), (27, [1, 5, 7, 8, 13, 14]), (39, [1, 5, 6, 7, 8, 13, 14]), (45, [5])], [], [], 0, 0⟩
def St0 (x0 : List Int) (x1 : List Int) : St := stL 49 [(0, .data (.sl (.int .u64)) x0), (1, .data (.sl (.int .u64)) x1)] []
def St1 (x1 : List Int) (x6 : Int) (x13 : Int) (x14 : Int) (c11 : List Int) : St := stL 49 [(1, .data (.sl (.int .u64)) x1), (5, .app 11 0), (6, .data (.int .u64) x6), (13, .data (.int .i64) x13), (14, .data (.int .i64) x14)] [(11, .buf (.int .u64) c11 0 false)]
noncomputable def cd0 : Code := cL (cL (cR (cL (cR (cR (cR (cB Try.f108)))))))
def St2 (x1 : List Int) (x7 : Int) (x8 : Int) (x13 : Int) (x14 : Int) (c11 : List Int) : St := stL 49 [(1, .data (.sl (.int .u64)) x1), (5, .app 11 0), (7, .data (.int .i64) x7), (8, .data (.int .u64) x8), (13, .data (.int .i64) x13), (14, .data (.int .i64) x14)] [(11, .buf (.int .u64) c11 0 false)]
noncomputable def cd1 : Code := cR (cR (cR (cL (cL (cR (cL (cR (cR (cR (cB Try.f108))))))))))
noncomputable def cd2 : Code := cR (cR (cR (cL (cL (cR (cR (cL (cL (cR (cL (cR (cR (cR (cB Try.f108))))))))))))))
def St3 (x1 : List Int) (x6 : Int) (x7 : Int) (x8 : Int) (x13 : Int) (x14 : Int) (c11 : List Int) : St := stL 49 [(1, .data (.sl (.int .u64)) x1), (5, .app 11 0), (6, .data (.int .u64) x6), (7, .data (.int .i64) x7), (8, .data (.int .u64) x8), (13, .data (.int .i64) x13), (14, .data (.int .i64) x14)] [(11, .buf (.int .u64) c11 0 false)]
noncomputable def cd3 : Code := cR (cR (cR (cR (cR (cL (cL (cR (cR (cL (cL (cR (cL (cR (cR (cR (cB Try.f108))))))))))))))))
def j1 {α : Type} (Nx : (List Int) → Int → Int → Int → (List Int) → Option α) (x1 : List Int) (x6 : Int) (x7 : Int) (x8 : Int) (x13 : Int) (x14 : Int) (c11 : List Int) : Option α :=
  if 0 ≤ x7 ∧ x7 < (c11.length : Int) then
    if 0 ≤ x7 ∧ x7 < (c11.length : Int) then
      Nx x1 x6 x13 (IntKind.i64.wrap (x14 + 1)) (List.set c11 (Int.toNat x7) (IntKind.u64.wrap ((List.getD c11 (Int.toNat x7) 0) - x8)))
    else none
  else none
theorem j1_eq {α : Type} (k : Nat) (next : St → Option α) (Q : Ex → St → Option α) (x1 : List Int) (x6 : Int) (x7 : Int) (x8 : Int) (x13 : Int) (x14 : Int) (c11 : List Int) :
    (den C k) cd3 (blkQ C 1 (sq (den C k) (lp C k) Js C cd1 (lq C 12 next Q))) (St3 x1 x6 x7 x8 x13 x14 c11) = j1 (fun (x1 : List Int) (x6 : Int) (x13 : Int) (x14 : Int) (c11 : List Int) => next (St1 x1 x6 x13 x14 c11)) x1 x6 x7 x8 x13 x14 c11 := by
  have h : ∀ (D L : DT α), denJ D L Js C cd3 (blkQ C 1 (sq D L Js C cd1 (lq C 12 next Q))) (St3 x1 x6 x7 x8 x13 x14 c11) =
        if 0 ≤ x7 ∧ x7 < (c11.length : Int) then
          if 0 ≤ x7 ∧ x7 < (c11.length : Int) then
            next (St1 x1 x6 x13 (IntKind.i64.wrap (x14 + 1)) (List.set c11 (Int.toNat x7) (IntKind.u64.wrap ((List.getD c11 (Int.toNat x7) 0) - x8))))
          else none
        else none := by
    intro D L; kernel_rfl
  refine (show (den C k) cd3 (blkQ C 1 (sq (den C k) (lp C k) Js C cd1 (lq C 12 next Q))) (St3 x1 x6 x7 x8 x13 x14 c11) = denJ (den C k) (lp C k) Js C cd3 (blkQ C 1 (sq (den C k) (lp C k) Js C cd1 (lq C 12 next Q))) (St3 x1 x6 x7 x8 x13 x14 c11) from (denJ_den _ _ _ _ _ _).symm).trans ((h (den C k) (lp C k)).trans ?_)
  first | rfl | kernel_rfl
def j0 {α : Type} (Nx : (List Int) → Int → Int → Int → (List Int) → Option α) (x1 : List Int) (x7 : Int) (x8 : Int) (x13 : Int) (x14 : Int) (c11 : List Int) : Option α :=
  if 0 ≤ x7 ∧ x7 < (c11.length : Int) then
    if (decide ((List.getD c11 (Int.toNat x7) 0) < x8)) = true then
      if 0 ≤ x7 ∧ x7 < (c11.length : Int) then
        if 0 ≤ x7 ∧ x7 < (c11.length : Int) then
          j1 Nx x1 1 x7 x8 x13 x14 (List.set c11 (Int.toNat x7) (IntKind.u64.wrap ((List.getD c11 (Int.toNat x7) 0) + 4294967296)))
        else none
      else none
    else
      j1 Nx x1 0 x7 x8 x13 x14 c11
  else none
theorem j0_eq {α : Type} (k : Nat) (next : St → Option α) (Q : Ex → St → Option α) (x1 : List Int) (x7 : Int) (x8 : Int) (x13 : Int) (x14 : Int) (c11 : List Int) :
    (den C k) cd2 (blkQ C 1 (sq (den C k) (lp C k) Js C cd1 (lq C 12 next Q))) (St2 x1 x7 x8 x13 x14 c11) = j0 (fun (x1 : List Int) (x6 : Int) (x13 : Int) (x14 : Int) (c11 : List Int) => next (St1 x1 x6 x13 x14 c11)) x1 x7 x8 x13 x14 c11 := by
  have h : ∀ (D L : DT α), denJ D L Js C cd2 (blkQ C 1 (sq D L Js C cd1 (lq C 12 next Q))) (St2 x1 x7 x8 x13 x14 c11) =
        if 0 ≤ x7 ∧ x7 < (c11.length : Int) then
          if (decide ((List.getD c11 (Int.toNat x7) 0) < x8)) = true then
            if 0 ≤ x7 ∧ x7 < (c11.length : Int) then
              if 0 ≤ x7 ∧ x7 < (c11.length : Int) then
                D cd3 (blkQ C 1 (sq D L Js C cd1 (lq C 12 next Q))) (St3 x1 1 x7 x8 x13 x14 (List.set c11 (Int.toNat x7) (IntKind.u64.wrap ((List.getD c11 (Int.toNat x7) 0) + 4294967296))))
              else none
            else none
          else
            D cd3 (blkQ C 1 (sq D L Js C cd1 (lq C 12 next Q))) (St3 x1 0 x7 x8 x13 x14 c11)
        else none := by
    intro D L; kernel_rfl
  refine (show (den C k) cd2 (blkQ C 1 (sq (den C k) (lp C k) Js C cd1 (lq C 12 next Q))) (St2 x1 x7 x8 x13 x14 c11) = denJ (den C k) (lp C k) Js C cd2 (blkQ C 1 (sq (den C k) (lp C k) Js C cd1 (lq C 12 next Q))) (St2 x1 x7 x8 x13 x14 c11) from (denJ_den _ _ _ _ _ _).symm).trans ((h (den C k) (lp C k)).trans ?_)
  simp only [j1_eq]
  first | rfl | kernel_rfl
def St4 (c11 : List Int) : St := stL 49 [(5, .app 11 0)] [(11, .buf (.int .u64) c11 0 false)]
def l0s {α : Type} (Nx : (List Int) → Int → Int → Int → (List Int) → Option α) (Xt0 : (List Int) → Option α) (x1 : List Int) (x6 : Int) (x13 : Int) (x14 : Int) (c11 : List Int) : Option α :=
  if (decide (x14 < x13)) = true then
    if (decide (x14 < (x1.length : Int))) = true then
      if 0 ≤ x14 ∧ x14 < (x1.length : Int) then
        j0 Nx x1 x14 (IntKind.u64.wrap (x6 + (List.getD x1 (Int.toNat x14) 0))) x13 x14 c11
      else none
    else
      j0 Nx x1 x14 x6 x13 x14 c11
  else
    Xt0 c11
theorem l0s_eq {α : Type} (k : Nat) (next : St → Option α) (Q : Ex → St → Option α) (x1 : List Int) (x6 : Int) (x13 : Int) (x14 : Int) (c11 : List Int) :
    rnd C k cd0 12 Q next (St1 x1 x6 x13 x14 c11) = l0s (fun (x1 : List Int) (x6 : Int) (x13 : Int) (x14 : Int) (c11 : List Int) => next (St1 x1 x6 x13 x14 c11)) (fun (c11 : List Int) => Q (.exit 0) (St4 c11)) x1 x6 x13 x14 c11 := by
  have h : ∀ (D L : DT α), denJ D L Js C cd0 (lq C 12 next Q) (St1 x1 x6 x13 x14 c11) =
        if (decide (x14 < x13)) = true then
          if (decide (x14 < (x1.length : Int))) = true then
            if 0 ≤ x14 ∧ x14 < (x1.length : Int) then
              D cd2 (blkQ C 1 (sq D L Js C cd1 (lq C 12 next Q))) (St2 x1 x14 (IntKind.u64.wrap (x6 + (List.getD x1 (Int.toNat x14) 0))) x13 x14 c11)
            else none
          else
            D cd2 (blkQ C 1 (sq D L Js C cd1 (lq C 12 next Q))) (St2 x1 x14 x6 x13 x14 c11)
        else
          Q (.exit 0) (St4 c11) := by
    intro D L; kernel_rfl
  refine (show rnd C k cd0 12 Q next (St1 x1 x6 x13 x14 c11) = denJ (den C k) (lp C k) Js C cd0 (lq C 12 next Q) (St1 x1 x6 x13 x14 c11) from (denJ_den _ _ _ _ _ _).symm).trans ((h (den C k) (lp C k)).trans ?_)
  simp only [j0_eq]
  first | rfl | kernel_rfl
def l0 {α : Type} (k : Nat) (Xt0 : (List Int) → Option α) : Nat → (List Int) → Int → Int → Int → (List Int) → Option α
  | 0, _, _, _, _, _ => none
  | n + 1, x1, x6, x13, x14, c11 => l0s (l0 k Xt0 n) Xt0 x1 x6 x13 x14 c11
theorem l0_eq {α : Type} (k : Nat) (Q : Ex → St → Option α) : ∀ (n : Nat) (x1 : List Int) (x6 : Int) (x13 : Int) (x14 : Int) (c11 : List Int), iter (rnd C k cd0 12 Q) n (St1 x1 x6 x13 x14 c11) = l0 k (fun (c11 : List Int) => Q (.exit 0) (St4 c11)) n x1 x6 x13 x14 c11
  | 0, _, _, _, _, _ => rfl
  | n + 1, x1, x6, x13, x14, c11 => (iter_succ _ _ _).trans ((l0s_eq k (iter (rnd C k cd0 12 Q) n) Q x1 x6 x13 x14 c11).trans (congrArg (fun N => l0s N (fun (c11 : List Int) => Q (.exit 0) (St4 c11)) x1 x6 x13 x14 c11) (funext fun x1 => funext fun x6 => funext fun x13 => funext fun x14 => funext fun c11 => l0_eq k Q n x1 x6 x13 x14 c11)))
theorem l0_congr {α : Type} (k : Nat) (Xt0 : (List Int) → Option α) (Xt0q : (List Int) → Option α) (hXt0 : ∀ (c11 : List Int), Xt0 c11 = Xt0q c11) (n : Nat) (x1 : List Int) (x6 : Int) (x13 : Int) (x14 : Int) (c11 : List Int) : l0 k Xt0 n x1 x6 x13 x14 c11 = l0 k Xt0q n x1 x6 x13 x14 c11 := by
  obtain rfl : Xt0 = Xt0q := by funext c11; exact hXt0 c11
  rfl
noncomputable def cd4 : Code := cR (cR (cR (cR (cB Try.f108))))
def St5 (c11 : List Int) : St := stL 49 [(5, .app 11 0)] [(11, .buf (.int .u64) c11 0 false)]
def St6 (c11 : List Int) : St := stL 49 [(4, .app 11 0)] [(11, .buf (.int .u64) c11 0 false)]
def j2 {α : Type} (Rt : (List Int) → Option α) (c11 : List Int) : Option α :=
  Rt c11
theorem j2_eq {α : Type} (k : Nat) (Q : Ex → St → Option α) (c11 : List Int) :
    (den C k) cd4 Q (St5 c11) = j2 (fun (c11 : List Int) => Q .ret (St6 c11)) c11 := by
  have h : ∀ (D L : DT α), denJ D L Js C cd4 Q (St5 c11) =
        Q .ret (St6 c11) := by
    intro D L; kernel_rfl
  refine (show (den C k) cd4 Q (St5 c11) = denJ (den C k) (lp C k) Js C cd4 Q (St5 c11) from (denJ_den _ _ _ _ _ _).symm).trans ((h (den C k) (lp C k)).trans ?_)
  first | rfl | kernel_rfl
theorem a0 {α : Type} (k : Nat) (Q : Ex → St → Option α) (x1 : List Int) (x6 : Int) (x13 : Int) (x14 : Int) (c11 : List Int) :
    (lp C k) cd0 (blkQ C 0 (sq (den C k) (lp C k) Js C cd4 Q)) (St1 x1 x6 x13 x14 c11) = l0 k (fun (c11 : List Int) => j2 (fun (c11 : List Int) => Q .ret (St6 c11)) c11) k x1 x6 x13 x14 c11 :=
  (show (lp C k) cd0 (blkQ C 0 (sq (den C k) (lp C k) Js C cd4 Q)) (St1 x1 x6 x13 x14 c11) = iter (rnd C k cd0 12 (blkQ C 0 (sq (den C k) (lp C k) Js C cd4 Q))) k (St1 x1 x6 x13 x14 c11) by kernel_rfl).trans ((l0_eq k (blkQ C 0 (sq (den C k) (lp C k) Js C cd4 Q)) k x1 x6 x13 x14 c11).trans (l0_congr k _ _ (fun c11 => ((show (blkQ C 0 (sq (den C k) (lp C k) Js C cd4 Q)) (.exit 0) (St4 c11) = (den C k) cd4 Q (St5 c11) by kernel_rfl).trans (by simp only [j2_eq]))) k x1 x6 x13 x14 c11))
def top {α : Type} (k : Nat) (Rt : (List Int) → Option α) (x0 : List Int) (x1 : List Int) : Option α :=
  if (fitB (0 + x0.length) 8 && (Nat.beq 0 0 || Nat.blt 0 x0.length)) = true then
    l0 k (fun (c11 : List Int) => j2 Rt c11) k x1 0 (x0.length : Int) 0 x0
  else none
theorem top_eq {α : Type} (k : Nat) (Q : Ex → St → Option α) (x0 : List Int) (x1 : List Int) :
    (den C k) (cB Try.f108) Q (St0 x0 x1) = top k (fun (c11 : List Int) => Q .ret (St6 c11)) x0 x1 := by
  have h : ∀ (D L : DT α), denJ D L Js C (cB Try.f108) Q (St0 x0 x1) =
        if (fitB (0 + x0.length) 8 && (Nat.beq 0 0 || Nat.blt 0 x0.length)) = true then
          L cd0 (blkQ C 0 (sq D L Js C cd4 Q)) (St1 x1 0 (x0.length : Int) 0 x0)
        else none := by
    intro D L; kernel_rfl
  refine (show (den C k) (cB Try.f108) Q (St0 x0 x1) = denJ (den C k) (lp C k) Js C (cB Try.f108) Q (St0 x0 x1) from (denJ_den _ _ _ _ _ _).symm).trans ((h (den C k) (lp C k)).trans ?_)
  simp only [a0]
  first | rfl | kernel_rfl
def run (x0 : List Int) (x1 : List Int) : Option (List Int) := top (α := List Int) fuel (fun (c11 : List Int) => some c11) x0 x1
def F : Fn := ⟨(.pair (.sl (.int .u64)) (.pair (.sl (.int .u64)) .unit)), (.sl (.int .u64)), false, fun x => run x.1 x.2.1⟩
set_option maxRecDepth 100000 in
theorem con : Con Try.prog 108 F := by
  refine con_of_den (C := C) (ctx_ok (by kernel_rfl) (by kernel_rfl) (by kernel_rfl) (by kernel_rfl) trivial) (by kernel_rfl) Try.func108 (c := cB Try.f108) (by kernel_rfl) (by kernel_rfl) F fuel (fun x => by simp [F, spread, Try.ntmps108]) ?_
  intro x r h
  rw [← h]
  have h1 : start F Try.f108.ntmps x = (St0 x.1 x.2.1) := by kernel_rfl
  rw [h1]
  refine (top_eq fuel (fin C Try.f108.results.toList F.rs F.multi) x.1 x.2.1).trans ?_
  kernel_rfl
theorem named : Named Try.prog 108 := named_of Try.func108 (by kernel_rfl) (by kernel_rfl)
end Go.Bx.basculeref_less
namespace Go.Bx.basculeref_compare
open Go Go.Proofs Go.Bx
set_option maxRecDepth 100000
set_option linter.unusedVariables false
def Js : List Nat := [8, 10, 14]
def C : Ctx := ⟨[(3, (.int .i64)), (54, (.int .u64)), (114, (.sl (.int .u64)))], [], [], fnL [], noSh, [], invL [], [(2, [4]), (1, []), (4, [0, 1, 5]), (6, [0, 1, 5]), (21, [0, 1, 5, 6, 7]), (27, [0, 1, 5, 6, 7]), (39, [])], [], [], 0, 0⟩
def St0 (x0 : List Int) (x1 : List Int) : St := stL 40 [(0, .data (.sl (.int .u64)) x0), (1, .data (.sl (.int .u64)) x1)] []
def St1 (x0 : List Int) (x1 : List Int) (x5 : Int) : St := stL 40 [(0, .data (.sl (.int .u64)) x0), (1, .data (.sl (.int .u64)) x1), (5, .data (.int .i64) x5)] []
noncomputable def cd0 : Code := cL (cL (cR (cL (cR (cB Try.f106)))))
def St2 (x0 : List Int) (x1 : List Int) (x5 : Int) (x6 : Int) (x7 : Int) : St := stL 40 [(0, .data (.sl (.int .u64)) x0), (1, .data (.sl (.int .u64)) x1), (5, .data (.int .i64) x5), (6, .data (.int .u64) x6), (7, .data (.int .u64) x7)] []
noncomputable def cd1 : Code := cR (cR (cL (cL (cR (cL (cR (cB Try.f106)))))))
noncomputable def cd2 : Code := cR (cR (cL (cL (cR (cL (cL (cR (cL (cR (cB Try.f106))))))))))
def St3 (x0 : List Int) (x1 : List Int) (x5 : Int) (x6 : Int) (x7 : Int) : St := stL 40 [(0, .data (.sl (.int .u64)) x0), (1, .data (.sl (.int .u64)) x1), (5, .data (.int .i64) x5), (6, .data (.int .u64) x6), (7, .data (.int .u64) x7)] []
noncomputable def cd3 : Code := cR (cR (cR (cL (cL (cR (cL (cL (cR (cL (cR (cB Try.f106)))))))))))
def St4 (x4 : Int) : St := stL 40 [(4, .data (.int .i64) x4)] []
def j1 {α : Type} (Nx : (List Int) → (List Int) → Int → Option α) (Rt : Int → Option α) (x0 : List Int) (x1 : List Int) (x5 : Int) (x6 : Int) (x7 : Int) : Option α :=
  if (decide (x6 < x7)) = true then
    Rt (-1)
  else
    if (decide (x6 > x7)) = true then
      Rt 1
    else
      Nx x0 x1 (IntKind.i64.wrap (x5 - 1))
theorem j1_eq {α : Type} (k : Nat) (next : St → Option α) (Q : Ex → St → Option α) (x0 : List Int) (x1 : List Int) (x5 : Int) (x6 : Int) (x7 : Int) :
    (den C k) cd3 (blkQ C 1 (sq (den C k) (lp C k) Js C cd1 (lq C 6 next Q))) (St3 x0 x1 x5 x6 x7) = j1 (fun (x0 : List Int) (x1 : List Int) (x5 : Int) => next (St1 x0 x1 x5)) (fun (x4 : Int) => Q .ret (St4 x4)) x0 x1 x5 x6 x7 := by
  have h : ∀ (D L : DT α), denJ D L Js C cd3 (blkQ C 1 (sq D L Js C cd1 (lq C 6 next Q))) (St3 x0 x1 x5 x6 x7) =
        if (decide (x6 < x7)) = true then
          Q .ret (St4 (-1))
        else
          if (decide (x6 > x7)) = true then
            Q .ret (St4 1)
          else
            next (St1 x0 x1 (IntKind.i64.wrap (x5 - 1))) := by
    intro D L; kernel_rfl
  refine (show (den C k) cd3 (blkQ C 1 (sq (den C k) (lp C k) Js C cd1 (lq C 6 next Q))) (St3 x0 x1 x5 x6 x7) = denJ (den C k) (lp C k) Js C cd3 (blkQ C 1 (sq (den C k) (lp C k) Js C cd1 (lq C 6 next Q))) (St3 x0 x1 x5 x6 x7) from (denJ_den _ _ _ _ _ _).symm).trans ((h (den C k) (lp C k)).trans ?_)
  first | rfl | kernel_rfl
def j0 {α : Type} (Nx : (List Int) → (List Int) → Int → Option α) (Rt : Int → Option α) (x0 : List Int) (x1 : List Int) (x5 : Int) (x6 : Int) (x7 : Int) : Option α :=
  if (decide (x5 < (x1.length : Int))) = true then
    if 0 ≤ x5 ∧ x5 < (x1.length : Int) then
      j1 Nx Rt x0 x1 x5 x6 (List.getD x1 (Int.toNat x5) 0)
    else none
  else
    j1 Nx Rt x0 x1 x5 x6 x7
theorem j0_eq {α : Type} (k : Nat) (next : St → Option α) (Q : Ex → St → Option α) (x0 : List Int) (x1 : List Int) (x5 : Int) (x6 : Int) (x7 : Int) :
    (den C k) cd2 (blkQ C 1 (sq (den C k) (lp C k) Js C cd1 (lq C 6 next Q))) (St2 x0 x1 x5 x6 x7) = j0 (fun (x0 : List Int) (x1 : List Int) (x5 : Int) => next (St1 x0 x1 x5)) (fun (x4 : Int) => Q .ret (St4 x4)) x0 x1 x5 x6 x7 := by
  have h : ∀ (D L : DT α), denJ D L Js C cd2 (blkQ C 1 (sq D L Js C cd1 (lq C 6 next Q))) (St2 x0 x1 x5 x6 x7) =
        if (decide (x5 < (x1.length : Int))) = true then
          if 0 ≤ x5 ∧ x5 < (x1.length : Int) then
            D cd3 (blkQ C 1 (sq D L Js C cd1 (lq C 6 next Q))) (St3 x0 x1 x5 x6 (List.getD x1 (Int.toNat x5) 0))
          else none
        else
          D cd3 (blkQ C 1 (sq D L Js C cd1 (lq C 6 next Q))) (St3 x0 x1 x5 x6 x7) := by
    intro D L; kernel_rfl
  refine (show (den C k) cd2 (blkQ C 1 (sq (den C k) (lp C k) Js C cd1 (lq C 6 next Q))) (St2 x0 x1 x5 x6 x7) = denJ (den C k) (lp C k) Js C cd2 (blkQ C 1 (sq (den C k) (lp C k) Js C cd1 (lq C 6 next Q))) (St2 x0 x1 x5 x6 x7) from (denJ_den _ _ _ _ _ _).symm).trans ((h (den C k) (lp C k)).trans ?_)
  simp only [j1_eq]
  first | rfl | kernel_rfl
def St5 : St := stL 40 [] []
def l0s {α : Type} (Nx : (List Int) → (List Int) → Int → Option α) (Rt : Int → Option α) (Xt0 : Option α) (x0 : List Int) (x1 : List Int) (x5 : Int) : Option α :=
  if (decide (x5 ≥ 0)) = true then
    if (decide (x5 < (x0.length : Int))) = true then
      if 0 ≤ x5 ∧ x5 < (x0.length : Int) then
        j0 Nx Rt x0 x1 x5 (List.getD x0 (Int.toNat x5) 0) 0
      else none
    else
      j0 Nx Rt x0 x1 x5 0 0
  else
    Xt0
theorem l0s_eq {α : Type} (k : Nat) (next : St → Option α) (Q : Ex → St → Option α) (x0 : List Int) (x1 : List Int) (x5 : Int) :
    rnd C k cd0 6 Q next (St1 x0 x1 x5) = l0s (fun (x0 : List Int) (x1 : List Int) (x5 : Int) => next (St1 x0 x1 x5)) (fun (x4 : Int) => Q .ret (St4 x4)) (Q (.exit 0) St5) x0 x1 x5 := by
  have h : ∀ (D L : DT α), denJ D L Js C cd0 (lq C 6 next Q) (St1 x0 x1 x5) =
        if (decide (x5 ≥ 0)) = true then
          if (decide (x5 < (x0.length : Int))) = true then
            if 0 ≤ x5 ∧ x5 < (x0.length : Int) then
              D cd2 (blkQ C 1 (sq D L Js C cd1 (lq C 6 next Q))) (St2 x0 x1 x5 (List.getD x0 (Int.toNat x5) 0) 0)
            else none
          else
            D cd2 (blkQ C 1 (sq D L Js C cd1 (lq C 6 next Q))) (St2 x0 x1 x5 0 0)
        else
          Q (.exit 0) St5 := by
    intro D L; kernel_rfl
  refine (show rnd C k cd0 6 Q next (St1 x0 x1 x5) = denJ (den C k) (lp C k) Js C cd0 (lq C 6 next Q) (St1 x0 x1 x5) from (denJ_den _ _ _ _ _ _).symm).trans ((h (den C k) (lp C k)).trans ?_)
  simp only [j0_eq]
  first | rfl | kernel_rfl
def l0 {α : Type} (k : Nat) (Rt : Int → Option α) (Xt0 : Option α) : Nat → (List Int) → (List Int) → Int → Option α
  | 0, _, _, _ => none
  | n + 1, x0, x1, x5 => l0s (l0 k Rt Xt0 n) Rt Xt0 x0 x1 x5
theorem l0_eq {α : Type} (k : Nat) (Q : Ex → St → Option α) : ∀ (n : Nat) (x0 : List Int) (x1 : List Int) (x5 : Int), iter (rnd C k cd0 6 Q) n (St1 x0 x1 x5) = l0 k (fun (x4 : Int) => Q .ret (St4 x4)) (Q (.exit 0) St5) n x0 x1 x5
  | 0, _, _, _ => rfl
  | n + 1, x0, x1, x5 => (iter_succ _ _ _).trans ((l0s_eq k (iter (rnd C k cd0 6 Q) n) Q x0 x1 x5).trans (congrArg (fun N => l0s N (fun (x4 : Int) => Q .ret (St4 x4)) (Q (.exit 0) St5) x0 x1 x5) (funext fun x0 => funext fun x1 => funext fun x5 => l0_eq k Q n x0 x1 x5)))
theorem l0_congr {α : Type} (k : Nat) (Rt : Int → Option α) (Xt0 : Option α) (Rtq : Int → Option α) (Xt0q : Option α) (hRt : ∀ (x4 : Int), Rt x4 = Rtq x4) (hXt0 : Xt0 = Xt0q) (n : Nat) (x0 : List Int) (x1 : List Int) (x5 : Int) : l0 k Rt Xt0 n x0 x1 x5 = l0 k Rtq Xt0q n x0 x1 x5 := by
  obtain rfl : Rt = Rtq := by funext x4; exact hRt x4
  obtain rfl : Xt0 = Xt0q := hXt0
  rfl
noncomputable def cd4 : Code := cR (cR (cB Try.f106))
def St6 : St := stL 40 [] []
def j2 {α : Type} (Rt : Int → Option α) : Option α :=
  Rt 0
theorem j2_eq {α : Type} (k : Nat) (Q : Ex → St → Option α) :
    (den C k) cd4 Q St6 = j2 (fun (x4 : Int) => Q .ret (St4 x4)) := by
  have h : ∀ (D L : DT α), denJ D L Js C cd4 Q St6 =
        Q .ret (St4 0) := by
    intro D L; kernel_rfl
  refine (show (den C k) cd4 Q St6 = denJ (den C k) (lp C k) Js C cd4 Q St6 from (denJ_den _ _ _ _ _ _).symm).trans ((h (den C k) (lp C k)).trans ?_)
  first | rfl | kernel_rfl
theorem a0 {α : Type} (k : Nat) (Q : Ex → St → Option α) (x0 : List Int) (x1 : List Int) (x5 : Int) :
    (lp C k) cd0 (blkQ C 0 (sq (den C k) (lp C k) Js C cd4 Q)) (St1 x0 x1 x5) = l0 k (fun (x4 : Int) => (fun (x4 : Int) => Q .ret (St4 x4)) x4) (j2 (fun (x4 : Int) => Q .ret (St4 x4))) k x0 x1 x5 :=
  (show (lp C k) cd0 (blkQ C 0 (sq (den C k) (lp C k) Js C cd4 Q)) (St1 x0 x1 x5) = iter (rnd C k cd0 6 (blkQ C 0 (sq (den C k) (lp C k) Js C cd4 Q))) k (St1 x0 x1 x5) by kernel_rfl).trans ((l0_eq k (blkQ C 0 (sq (den C k) (lp C k) Js C cd4 Q)) k x0 x1 x5).trans (l0_congr k _ _ _ _ (fun x4 => (show (blkQ C 0 (sq (den C k) (lp C k) Js C cd4 Q)) .ret (St4 x4) = Q .ret (St4 x4) by kernel_rfl)) ((show (blkQ C 0 (sq (den C k) (lp C k) Js C cd4 Q)) (.exit 0) St5 = (den C k) cd4 Q St6 by kernel_rfl).trans (by simp only [j2_eq])) k x0 x1 x5))
def top {α : Type} (k : Nat) (Rt : Int → Option α) (x0 : List Int) (x1 : List Int) : Option α :=
  l0 k (fun (x4 : Int) => Rt x4) (j2 Rt) k x0 x1 (IntKind.i64.wrap ((if (x1.length : Int) > (x0.length : Int) then (x1.length : Int) else (x0.length : Int)) - 1))
theorem top_eq {α : Type} (k : Nat) (Q : Ex → St → Option α) (x0 : List Int) (x1 : List Int) :
    (den C k) (cB Try.f106) Q (St0 x0 x1) = top k (fun (x4 : Int) => Q .ret (St4 x4)) x0 x1 := by
  have h : ∀ (D L : DT α), denJ D L Js C (cB Try.f106) Q (St0 x0 x1) =
        L cd0 (blkQ C 0 (sq D L Js C cd4 Q)) (St1 x0 x1 (IntKind.i64.wrap ((if (x1.length : Int) > (x0.length : Int) then (x1.length : Int) else (x0.length : Int)) - 1))) := by
    intro D L; kernel_rfl
  refine (show (den C k) (cB Try.f106) Q (St0 x0 x1) = denJ (den C k) (lp C k) Js C (cB Try.f106) Q (St0 x0 x1) from (denJ_den _ _ _ _ _ _).symm).trans ((h (den C k) (lp C k)).trans ?_)
  simp only [a0]
  first | rfl | kernel_rfl
def run (x0 : List Int) (x1 : List Int) : Option (Int) := top (α := Int) fuel (fun (x4 : Int) => some x4) x0 x1
def F : Fn := ⟨(.pair (.sl (.int .u64)) (.pair (.sl (.int .u64)) .unit)), (.int .i64), false, fun x => run x.1 x.2.1⟩
set_option maxRecDepth 100000 in
theorem con : Con Try.prog 106 F := by
  refine con_of_den (C := C) (ctx_ok (by kernel_rfl) (by kernel_rfl) (by kernel_rfl) (by kernel_rfl) trivial) (by kernel_rfl) Try.func106 (c := cB Try.f106) (by kernel_rfl) (by kernel_rfl) F fuel (fun x => by simp [F, spread, Try.ntmps106]) ?_
  intro x r h
  rw [← h]
  have h1 : start F Try.f106.ntmps x = (St0 x.1 x.2.1) := by kernel_rfl
  rw [h1]
  refine (top_eq fuel (fin C Try.f106.results.toList F.rs F.multi) x.1 x.2.1).trans ?_
  kernel_rfl
theorem named : Named Try.prog 106 := named_of Try.func106 (by kernel_rfl) (by kernel_rfl)
end Go.Bx.basculeref_compare
namespace Go.Bx.math_bits_Len64
open Go Go.Proofs Go.Bx
set_option maxRecDepth 100000
set_option linter.unusedVariables false
def Js : List Nat := [5, 8, 11]
def C : Ctx := ⟨[(3, (.int .i64)), (5, (.int .u8)), (9, .str), (54, (.int .u64))], [], [], fnL [], noSh, [], invL [], [(2, [2]), (12, [0, 2]), (21, [0, 2]), (30, [0, 2])], [], [], 0, 0⟩
def St0 (x0 : Int) : St := stL 25 [(0, .data (.int .u64) x0)] []
def St1 (x0 : Int) (x2 : Int) : St := stL 25 [(0, .data (.int .u64) x0), (2, .data (.int .i64) x2)] []
noncomputable def cd0 : Code := cR (cR (cB Try.f119))
def St2 (x0 : Int) (x2 : Int) : St := stL 25 [(0, .data (.int .u64) x0), (2, .data (.int .i64) x2)] []
noncomputable def cd1 : Code := cR (cR (cR (cB Try.f119)))
def St3 (x0 : Int) (x2 : Int) : St := stL 25 [(0, .data (.int .u64) x0), (2, .data (.int .i64) x2)] []
noncomputable def cd2 : Code := cR (cR (cR (cR (cB Try.f119))))
def St4 (x2 : Int) : St := stL 25 [(2, .data (.int .i64) x2)] []
def j2 {α : Type} (Rt : Int → Option α) (x0 : Int) (x2 : Int) : Option α :=
  if 0 ≤ (IntKind.u8.wrap x0) ∧ (IntKind.u8.wrap x0) < (256 : Int) then
    Rt (IntKind.i64.wrap (x2 + (IntKind.i64.wrap (List.getD [0, 1, 2, 2, 3, 3, 3, 3, 4, 4, 4, 4, 4, 4, 4, 4, 5, 5, 5, 5, 5, 5, 5, 5, 5, 5, 5, 5, 5, 5, 5, 5, 6, 6, 6, 6, 6, 6, 6, 6, 6, 6, 6, 6, 6, 6, 6, 6, 6, 6, 6, 6, 6, 6, 6, 6, 6, 6, 6, 6, 6, 6, 6, 6, 7, 7, 7, 7, 7, 7, 7, 7, 7, 7, 7, 7, 7, 7, 7, 7, 7, 7, 7, 7, 7, 7, 7, 7, 7, 7, 7, 7, 7, 7, 7, 7, 7, 7, 7, 7, 7, 7, 7, 7, 7, 7, 7, 7, 7, 7, 7, 7, 7, 7, 7, 7, 7, 7, 7, 7, 7, 7, 7, 7, 7, 7, 7, 7, 8, 8, 8, 8, 8, 8, 8, 8, 8, 8, 8, 8, 8, 8, 8, 8, 8, 8, 8, 8, 8, 8, 8, 8, 8, 8, 8, 8, 8, 8, 8, 8, 8, 8, 8, 8, 8, 8, 8, 8, 8, 8, 8, 8, 8, 8, 8, 8, 8, 8, 8, 8, 8, 8, 8, 8, 8, 8, 8, 8, 8, 8, 8, 8, 8, 8, 8, 8, 8, 8, 8, 8, 8, 8, 8, 8, 8, 8, 8, 8, 8, 8, 8, 8, 8, 8, 8, 8, 8, 8, 8, 8, 8, 8, 8, 8, 8, 8, 8, 8, 8, 8, 8, 8, 8, 8, 8, 8, 8, 8, 8, 8, 8, 8, 8, 8, 8, 8, 8, 8, 8, 8, 8, 8, 8, 8, 8, 8] (Int.toNat (IntKind.u8.wrap x0)) 0))))
  else none
theorem j2_eq {α : Type} (k : Nat) (Q : Ex → St → Option α) (x0 : Int) (x2 : Int) :
    (den C k) cd2 Q (St3 x0 x2) = j2 (fun (x2 : Int) => Q .ret (St4 x2)) x0 x2 := by
  have h : ∀ (D L : DT α), denJ D L Js C cd2 Q (St3 x0 x2) =
        if 0 ≤ (IntKind.u8.wrap x0) ∧ (IntKind.u8.wrap x0) < (256 : Int) then
          Q .ret (St4 (IntKind.i64.wrap (x2 + (IntKind.i64.wrap (List.getD [0, 1, 2, 2, 3, 3, 3, 3, 4, 4, 4, 4, 4, 4, 4, 4, 5, 5, 5, 5, 5, 5, 5, 5, 5, 5, 5, 5, 5, 5, 5, 5, 6, 6, 6, 6, 6, 6, 6, 6, 6, 6, 6, 6, 6, 6, 6, 6, 6, 6, 6, 6, 6, 6, 6, 6, 6, 6, 6, 6, 6, 6, 6, 6, 7, 7, 7, 7, 7, 7, 7, 7, 7, 7, 7, 7, 7, 7, 7, 7, 7, 7, 7, 7, 7, 7, 7, 7, 7, 7, 7, 7, 7, 7, 7, 7, 7, 7, 7, 7, 7, 7, 7, 7, 7, 7, 7, 7, 7, 7, 7, 7, 7, 7, 7, 7, 7, 7, 7, 7, 7, 7, 7, 7, 7, 7, 7, 7, 8, 8, 8, 8, 8, 8, 8, 8, 8, 8, 8, 8, 8, 8, 8, 8, 8, 8, 8, 8, 8, 8, 8, 8, 8, 8, 8, 8, 8, 8, 8, 8, 8, 8, 8, 8, 8, 8, 8, 8, 8, 8, 8, 8, 8, 8, 8, 8, 8, 8, 8, 8, 8, 8, 8, 8, 8, 8, 8, 8, 8, 8, 8, 8, 8, 8, 8, 8, 8, 8, 8, 8, 8, 8, 8, 8, 8, 8, 8, 8, 8, 8, 8, 8, 8, 8, 8, 8, 8, 8, 8, 8, 8, 8, 8, 8, 8, 8, 8, 8, 8, 8, 8, 8, 8, 8, 8, 8, 8, 8, 8, 8, 8, 8, 8, 8, 8, 8, 8, 8, 8, 8, 8, 8, 8, 8, 8, 8] (Int.toNat (IntKind.u8.wrap x0)) 0)))))
        else none := by
    intro D L; kernel_rfl
  refine (show (den C k) cd2 Q (St3 x0 x2) = denJ (den C k) (lp C k) Js C cd2 Q (St3 x0 x2) from (denJ_den _ _ _ _ _ _).symm).trans ((h (den C k) (lp C k)).trans ?_)
  first | rfl | kernel_rfl
def j1 {α : Type} (Rt : Int → Option α) (x0 : Int) (x2 : Int) : Option α :=
  if (decide (x0 ≥ 256)) = true then
    j2 Rt (shrI .u64 x0 8) (IntKind.i64.wrap (x2 + 8))
  else
    j2 Rt x0 x2
theorem j1_eq {α : Type} (k : Nat) (Q : Ex → St → Option α) (x0 : Int) (x2 : Int) :
    (den C k) cd1 Q (St2 x0 x2) = j1 (fun (x2 : Int) => Q .ret (St4 x2)) x0 x2 := by
  have h : ∀ (D L : DT α), denJ D L Js C cd1 Q (St2 x0 x2) =
        if (decide (x0 ≥ 256)) = true then
          D cd2 Q (St3 (shrI .u64 x0 8) (IntKind.i64.wrap (x2 + 8)))
        else
          D cd2 Q (St3 x0 x2) := by
    intro D L; kernel_rfl
  refine (show (den C k) cd1 Q (St2 x0 x2) = denJ (den C k) (lp C k) Js C cd1 Q (St2 x0 x2) from (denJ_den _ _ _ _ _ _).symm).trans ((h (den C k) (lp C k)).trans ?_)
  simp only [j2_eq]
  first | rfl | kernel_rfl
def j0 {α : Type} (Rt : Int → Option α) (x0 : Int) (x2 : Int) : Option α :=
  if (decide (x0 ≥ 65536)) = true then
    j1 Rt (shrI .u64 x0 16) (IntKind.i64.wrap (x2 + 16))
  else
    j1 Rt x0 x2
theorem j0_eq {α : Type} (k : Nat) (Q : Ex → St → Option α) (x0 : Int) (x2 : Int) :
    (den C k) cd0 Q (St1 x0 x2) = j0 (fun (x2 : Int) => Q .ret (St4 x2)) x0 x2 := by
  have h : ∀ (D L : DT α), denJ D L Js C cd0 Q (St1 x0 x2) =
        if (decide (x0 ≥ 65536)) = true then
          D cd1 Q (St2 (shrI .u64 x0 16) (IntKind.i64.wrap (x2 + 16)))
        else
          D cd1 Q (St2 x0 x2) := by
    intro D L; kernel_rfl
  refine (show (den C k) cd0 Q (St1 x0 x2) = denJ (den C k) (lp C k) Js C cd0 Q (St1 x0 x2) from (denJ_den _ _ _ _ _ _).symm).trans ((h (den C k) (lp C k)).trans ?_)
  simp only [j1_eq]
  first | rfl | kernel_rfl
def top {α : Type} (Rt : Int → Option α) (x0 : Int) : Option α :=
  if (decide (x0 ≥ 4294967296)) = true then
    j0 Rt (shrI .u64 x0 32) 32
  else
    j0 Rt x0 0
theorem top_eq {α : Type} (k : Nat) (Q : Ex → St → Option α) (x0 : Int) :
    (den C k) (cB Try.f119) Q (St0 x0) = top (fun (x2 : Int) => Q .ret (St4 x2)) x0 := by
  have h : ∀ (D L : DT α), denJ D L Js C (cB Try.f119) Q (St0 x0) =
        if (decide (x0 ≥ 4294967296)) = true then
          D cd0 Q (St1 (shrI .u64 x0 32) 32)
        else
          D cd0 Q (St1 x0 0) := by
    intro D L; kernel_rfl
  refine (show (den C k) (cB Try.f119) Q (St0 x0) = denJ (den C k) (lp C k) Js C (cB Try.f119) Q (St0 x0) from (denJ_den _ _ _ _ _ _).symm).trans ((h (den C k) (lp C k)).trans ?_)
  simp only [j0_eq]
  first | rfl | kernel_rfl
def run (x0 : Int) : Option (Int) := top (α := Int) (fun (x2 : Int) => some x2) x0
def F : Fn := ⟨(.pair (.int .u64) .unit), (.int .i64), false, fun x => run x.1⟩
set_option maxRecDepth 100000 in
theorem con : Con Try.prog 119 F := by
  refine con_of_den (C := C) (ctx_ok (by kernel_rfl) (by kernel_rfl) (by kernel_rfl) (by kernel_rfl) trivial) (by kernel_rfl) Try.func119 (c := cB Try.f119) (by kernel_rfl) (by kernel_rfl) F fuel (fun x => by simp [F, spread, Try.ntmps119]) ?_
  intro x r h
  rw [← h]
  have h1 : start F Try.f119.ntmps x = (St0 x.1) := by kernel_rfl
  rw [h1]
  refine (top_eq fuel (fin C Try.f119.results.toList F.rs F.multi) x.1).trans ?_
  kernel_rfl
theorem named : Named Try.prog 119 := named_of Try.func119 (by kernel_rfl) (by kernel_rfl)
end Go.Bx.math_bits_Len64
namespace Go.Bx.math_bits_LeadingZeros64
open Go Go.Proofs Go.Bx
set_option maxRecDepth 100000
set_option linter.unusedVariables false
def Js : List Nat := []
def C : Ctx := ⟨[(3, (.int .i64)), (54, (.int .u64))], [], [], fnL [(119, Go.Bx.math_bits_Len64.F)], noSh, [], invL [], [(2, [2])], [], [], 0, 0⟩
def St0 (x0 : Int) : St := stL 6 [(0, .data (.int .u64) x0)] []
def St1 (x2 : Int) : St := stL 6 [(2, .data (.int .i64) x2)] []
def top {α : Type} (Rt : Int → Option α) (x0 : Int) : Option α :=
  (Go.Bx.math_bits_Len64.run x0).bind fun y1 =>
  Rt (IntKind.i64.wrap (64 - y1))
theorem top_eq {α : Type} (k : Nat) (Q : Ex → St → Option α) (x0 : Int) :
    (den C k) (cB Try.f105) Q (St0 x0) = top (fun (x2 : Int) => Q .ret (St1 x2)) x0 := by
  have h : ∀ (D L : DT α), denJ D L Js C (cB Try.f105) Q (St0 x0) =
        (Go.Bx.math_bits_Len64.run x0).bind fun y1 =>
        Q .ret (St1 (IntKind.i64.wrap (64 - y1))) := by
    intro D L; kernel_rfl
  refine (show (den C k) (cB Try.f105) Q (St0 x0) = denJ (den C k) (lp C k) Js C (cB Try.f105) Q (St0 x0) from (denJ_den _ _ _ _ _ _).symm).trans ((h (den C k) (lp C k)).trans ?_)
  first | rfl | kernel_rfl
def run (x0 : Int) : Option (Int) := top (α := Int) (fun (x2 : Int) => some x2) x0
def F : Fn := ⟨(.pair (.int .u64) .unit), (.int .i64), false, fun x => run x.1⟩
set_option maxRecDepth 100000 in
theorem con : Con Try.prog 105 F := by
  refine con_of_den (C := C) (ctx_ok (by kernel_rfl) (by kernel_rfl) (by kernel_rfl) (by kernel_rfl) ⟨.inl ⟨Go.Bx.math_bits_Len64.con, Go.Bx.math_bits_Len64.named⟩, trivial⟩) (by kernel_rfl) Try.func105 (c := cB Try.f105) (by kernel_rfl) (by kernel_rfl) F fuel (fun x => by simp [F, spread, Try.ntmps105]) ?_
  intro x r h
  rw [← h]
  have h1 : start F Try.f105.ntmps x = (St0 x.1) := by kernel_rfl
  rw [h1]
  refine (top_eq fuel (fin C Try.f105.results.toList F.rs F.multi) x.1).trans ?_
  kernel_rfl
theorem named : Named Try.prog 105 := named_of Try.func105 (by kernel_rfl) (by kernel_rfl)
end Go.Bx.math_bits_LeadingZeros64
namespace Go.Bx.math_bits_Div64
open Go Go.Proofs Go.Bx
set_option maxRecDepth 100000
set_option linter.unusedVariables false
def Js : List Nat := [4, 6, 22, 29]
def C : Ctx := ⟨[(3, (.int .i64)), (54, (.int .u64)), (173, (.int .u64))], [], [], fnL [(105, Go.Bx.math_bits_LeadingZeros64.F)], noSh, [], invL [], [(2, [6, 7]), (7, [2, 8, 14, 15, 17, 18]), (10, [2, 8, 9, 10, 14, 15, 16, 17, 18]), (1, [2, 8, 9, 10, 11, 13, 14, 15]), (4, [2, 8, 9, 10, 11, 13, 14, 15, 16]), (9, [0, 1, 2]), (15, [0, 1, 2]), (51, [2, 8, 9, 10, 11, 13, 14, 15, 16]), (63, [2, 8, 9, 10, 11, 13, 14, 15]), (72, [2, 8, 9, 10, 14, 15, 16, 17, 18]), (84, [2, 8, 14, 15, 17, 18])], [], [], 0, 0⟩
def St0 (x0 : Int) (x1 : Int) (x2 : Int) : St := stL 135 [(0, .data (.int .u64) x0), (1, .data (.int .u64) x1), (2, .data (.int .u64) x2)] []
def St1 (x0 : Int) (x1 : Int) (x2 : Int) : St := stL 135 [(0, .data (.int .u64) x0), (1, .data (.int .u64) x1), (2, .data (.int .u64) x2)] []
noncomputable def cd0 : Code := cR (cR (cB Try.f66))
def St2 (x0 : Int) (x1 : Int) (x2 : Int) : St := stL 135 [(0, .data (.int .u64) x0), (1, .data (.int .u64) x1), (2, .data (.int .u64) x2)] []
noncomputable def cd1 : Code := cR (cR (cR (cB Try.f66)))
def St3 (x6 : Int) (x7 : Int) : St := stL 135 [(6, .data (.int .u64) x6), (7, .data (.int .u64) x7)] []
def St4 (x2 : Int) (x8 : Int) (x9 : Int) (x10 : Int) (x11 : Int) (x13 : Int) (x14 : Int) (x15 : Int) (x16 : Int) : St := stL 135 [(2, .data (.int .u64) x2), (8, .data (.int .u64) x8), (9, .data (.int .u64) x9), (10, .data (.int .u64) x10), (11, .data (.int .u64) x11), (13, .data (.int .u64) x13), (14, .data (.int .u64) x14), (15, .data (.int .u64) x15), (16, .data (.int .u64) x16)] []
noncomputable def cd2 : Code := cL (cL (cL (cR (cR (cR (cR (cR (cR (cR (cR (cR (cR (cR (cR (cR (cR (cB Try.f66)))))))))))))))))
def St5 (x2 : Int) (x8 : Int) (x9 : Int) (x10 : Int) (x11 : Int) (x13 : Int) (x14 : Int) (x15 : Int) : St := stL 135 [(2, .data (.int .u64) x2), (8, .data (.int .u64) x8), (9, .data (.int .u64) x9), (10, .data (.int .u64) x10), (11, .data (.int .u64) x11), (13, .data (.int .u64) x13), (14, .data (.int .u64) x14), (15, .data (.int .u64) x15)] []
def l0s {α : Type} (Nx : Int → Int → Int → Int → Int → Int → Int → Int → Int → Option α) (Xt0 : Int → Int → Int → Int → Int → Int → Int → Int → Option α) (x2 : Int) (x8 : Int) (x9 : Int) (x10 : Int) (x11 : Int) (x13 : Int) (x14 : Int) (x15 : Int) (x16 : Int) : Option α :=
  if (cond (decide (x15 ≥ 4294967296)) true (decide ((IntKind.u64.wrap (x15 * x10)) > (IntKind.u64.wrap ((IntKind.u64.wrap (4294967296 * x16)) + x13))))) = true then
    if (decide ((IntKind.u64.wrap (x16 + x9)) ≥ 4294967296)) = true then
      Xt0 x2 x8 x9 x10 x11 x13 x14 (IntKind.u64.wrap (x15 - 1))
    else
      Nx x2 x8 x9 x10 x11 x13 x14 (IntKind.u64.wrap (x15 - 1)) (IntKind.u64.wrap (x16 + x9))
  else
    Xt0 x2 x8 x9 x10 x11 x13 x14 x15
theorem l0s_eq {α : Type} (k : Nat) (next : St → Option α) (Q : Ex → St → Option α) (x2 : Int) (x8 : Int) (x9 : Int) (x10 : Int) (x11 : Int) (x13 : Int) (x14 : Int) (x15 : Int) (x16 : Int) :
    rnd C k cd2 51 Q next (St4 x2 x8 x9 x10 x11 x13 x14 x15 x16) = l0s (fun (x2 : Int) (x8 : Int) (x9 : Int) (x10 : Int) (x11 : Int) (x13 : Int) (x14 : Int) (x15 : Int) (x16 : Int) => next (St4 x2 x8 x9 x10 x11 x13 x14 x15 x16)) (fun (x2 : Int) (x8 : Int) (x9 : Int) (x10 : Int) (x11 : Int) (x13 : Int) (x14 : Int) (x15 : Int) => Q (.exit 0) (St5 x2 x8 x9 x10 x11 x13 x14 x15)) x2 x8 x9 x10 x11 x13 x14 x15 x16 := by
  have h : ∀ (D L : DT α), denJ D L Js C cd2 (lq C 51 next Q) (St4 x2 x8 x9 x10 x11 x13 x14 x15 x16) =
        if (cond (decide (x15 ≥ 4294967296)) true (decide ((IntKind.u64.wrap (x15 * x10)) > (IntKind.u64.wrap ((IntKind.u64.wrap (4294967296 * x16)) + x13))))) = true then
          if (decide ((IntKind.u64.wrap (x16 + x9)) ≥ 4294967296)) = true then
            Q (.exit 0) (St5 x2 x8 x9 x10 x11 x13 x14 (IntKind.u64.wrap (x15 - 1)))
          else
            next (St4 x2 x8 x9 x10 x11 x13 x14 (IntKind.u64.wrap (x15 - 1)) (IntKind.u64.wrap (x16 + x9)))
        else
          Q (.exit 0) (St5 x2 x8 x9 x10 x11 x13 x14 x15) := by
    intro D L; kernel_rfl
  refine (show rnd C k cd2 51 Q next (St4 x2 x8 x9 x10 x11 x13 x14 x15 x16) = denJ (den C k) (lp C k) Js C cd2 (lq C 51 next Q) (St4 x2 x8 x9 x10 x11 x13 x14 x15 x16) from (denJ_den _ _ _ _ _ _).symm).trans ((h (den C k) (lp C k)).trans ?_)
  first | rfl | kernel_rfl
def l0 {α : Type} (k : Nat) (Xt0 : Int → Int → Int → Int → Int → Int → Int → Int → Option α) : Nat → Int → Int → Int → Int → Int → Int → Int → Int → Int → Option α
  | 0, _, _, _, _, _, _, _, _, _ => none
  | n + 1, x2, x8, x9, x10, x11, x13, x14, x15, x16 => l0s (l0 k Xt0 n) Xt0 x2 x8 x9 x10 x11 x13 x14 x15 x16
theorem l0_eq {α : Type} (k : Nat) (Q : Ex → St → Option α) : ∀ (n : Nat) (x2 : Int) (x8 : Int) (x9 : Int) (x10 : Int) (x11 : Int) (x13 : Int) (x14 : Int) (x15 : Int) (x16 : Int), iter (rnd C k cd2 51 Q) n (St4 x2 x8 x9 x10 x11 x13 x14 x15 x16) = l0 k (fun (x2 : Int) (x8 : Int) (x9 : Int) (x10 : Int) (x11 : Int) (x13 : Int) (x14 : Int) (x15 : Int) => Q (.exit 0) (St5 x2 x8 x9 x10 x11 x13 x14 x15)) n x2 x8 x9 x10 x11 x13 x14 x15 x16
  | 0, _, _, _, _, _, _, _, _, _ => rfl
  | n + 1, x2, x8, x9, x10, x11, x13, x14, x15, x16 => (iter_succ _ _ _).trans ((l0s_eq k (iter (rnd C k cd2 51 Q) n) Q x2 x8 x9 x10 x11 x13 x14 x15 x16).trans (congrArg (fun N => l0s N (fun (x2 : Int) (x8 : Int) (x9 : Int) (x10 : Int) (x11 : Int) (x13 : Int) (x14 : Int) (x15 : Int) => Q (.exit 0) (St5 x2 x8 x9 x10 x11 x13 x14 x15)) x2 x8 x9 x10 x11 x13 x14 x15 x16) (funext fun x2 => funext fun x8 => funext fun x9 => funext fun x10 => funext fun x11 => funext fun x13 => funext fun x14 => funext fun x15 => funext fun x16 => l0_eq k Q n x2 x8 x9 x10 x11 x13 x14 x15 x16)))
theorem l0_congr {α : Type} (k : Nat) (Xt0 : Int → Int → Int → Int → Int → Int → Int → Int → Option α) (Xt0q : Int → Int → Int → Int → Int → Int → Int → Int → Option α) (hXt0 : ∀ (x2 : Int) (x8 : Int) (x9 : Int) (x10 : Int) (x11 : Int) (x13 : Int) (x14 : Int) (x15 : Int), Xt0 x2 x8 x9 x10 x11 x13 x14 x15 = Xt0q x2 x8 x9 x10 x11 x13 x14 x15) (n : Nat) (x2 : Int) (x8 : Int) (x9 : Int) (x10 : Int) (x11 : Int) (x13 : Int) (x14 : Int) (x15 : Int) (x16 : Int) : l0 k Xt0 n x2 x8 x9 x10 x11 x13 x14 x15 x16 = l0 k Xt0q n x2 x8 x9 x10 x11 x13 x14 x15 x16 := by
  obtain rfl : Xt0 = Xt0q := by funext x2; funext x8; funext x9; funext x10; funext x11; funext x13; funext x14; funext x15; exact hXt0 x2 x8 x9 x10 x11 x13 x14 x15
  rfl
noncomputable def cd3 : Code := cR (cR (cR (cR (cR (cR (cR (cR (cR (cR (cR (cR (cR (cR (cR (cB Try.f66)))))))))))))))
def St6 (x2 : Int) (x8 : Int) (x9 : Int) (x10 : Int) (x11 : Int) (x13 : Int) (x14 : Int) (x15 : Int) : St := stL 135 [(2, .data (.int .u64) x2), (8, .data (.int .u64) x8), (9, .data (.int .u64) x9), (10, .data (.int .u64) x10), (11, .data (.int .u64) x11), (13, .data (.int .u64) x13), (14, .data (.int .u64) x14), (15, .data (.int .u64) x15)] []
def St7 (x2 : Int) (x8 : Int) (x9 : Int) (x10 : Int) (x14 : Int) (x15 : Int) (x16 : Int) (x17 : Int) (x18 : Int) : St := stL 135 [(2, .data (.int .u64) x2), (8, .data (.int .u64) x8), (9, .data (.int .u64) x9), (10, .data (.int .u64) x10), (14, .data (.int .u64) x14), (15, .data (.int .u64) x15), (16, .data (.int .u64) x16), (17, .data (.int .u64) x17), (18, .data (.int .u64) x18)] []
noncomputable def cd4 : Code := cL (cL (cL (cR (cR (cR (cR (cR (cR (cR (cR (cR (cR (cR (cR (cR (cR (cR (cR (cR (cR (cB Try.f66)))))))))))))))))))))
def St8 (x2 : Int) (x8 : Int) (x14 : Int) (x15 : Int) (x17 : Int) (x18 : Int) : St := stL 135 [(2, .data (.int .u64) x2), (8, .data (.int .u64) x8), (14, .data (.int .u64) x14), (15, .data (.int .u64) x15), (17, .data (.int .u64) x17), (18, .data (.int .u64) x18)] []
def l1s {α : Type} (Nx : Int → Int → Int → Int → Int → Int → Int → Int → Int → Option α) (Xt2 : Int → Int → Int → Int → Int → Int → Option α) (x2 : Int) (x8 : Int) (x9 : Int) (x10 : Int) (x14 : Int) (x15 : Int) (x16 : Int) (x17 : Int) (x18 : Int) : Option α :=
  if (cond (decide (x18 ≥ 4294967296)) true (decide ((IntKind.u64.wrap (x18 * x10)) > (IntKind.u64.wrap ((IntKind.u64.wrap (4294967296 * x16)) + x14))))) = true then
    if (decide ((IntKind.u64.wrap (x16 + x9)) ≥ 4294967296)) = true then
      Xt2 x2 x8 x14 x15 x17 (IntKind.u64.wrap (x18 - 1))
    else
      Nx x2 x8 x9 x10 x14 x15 (IntKind.u64.wrap (x16 + x9)) x17 (IntKind.u64.wrap (x18 - 1))
  else
    Xt2 x2 x8 x14 x15 x17 x18
theorem l1s_eq {α : Type} (k : Nat) (next : St → Option α) (Q : Ex → St → Option α) (x2 : Int) (x8 : Int) (x9 : Int) (x10 : Int) (x14 : Int) (x15 : Int) (x16 : Int) (x17 : Int) (x18 : Int) :
    rnd C k cd4 72 Q next (St7 x2 x8 x9 x10 x14 x15 x16 x17 x18) = l1s (fun (x2 : Int) (x8 : Int) (x9 : Int) (x10 : Int) (x14 : Int) (x15 : Int) (x16 : Int) (x17 : Int) (x18 : Int) => next (St7 x2 x8 x9 x10 x14 x15 x16 x17 x18)) (fun (x2 : Int) (x8 : Int) (x14 : Int) (x15 : Int) (x17 : Int) (x18 : Int) => Q (.exit 2) (St8 x2 x8 x14 x15 x17 x18)) x2 x8 x9 x10 x14 x15 x16 x17 x18 := by
  have h : ∀ (D L : DT α), denJ D L Js C cd4 (lq C 72 next Q) (St7 x2 x8 x9 x10 x14 x15 x16 x17 x18) =
        if (cond (decide (x18 ≥ 4294967296)) true (decide ((IntKind.u64.wrap (x18 * x10)) > (IntKind.u64.wrap ((IntKind.u64.wrap (4294967296 * x16)) + x14))))) = true then
          if (decide ((IntKind.u64.wrap (x16 + x9)) ≥ 4294967296)) = true then
            Q (.exit 2) (St8 x2 x8 x14 x15 x17 (IntKind.u64.wrap (x18 - 1)))
          else
            next (St7 x2 x8 x9 x10 x14 x15 (IntKind.u64.wrap (x16 + x9)) x17 (IntKind.u64.wrap (x18 - 1)))
        else
          Q (.exit 2) (St8 x2 x8 x14 x15 x17 x18) := by
    intro D L; kernel_rfl
  refine (show rnd C k cd4 72 Q next (St7 x2 x8 x9 x10 x14 x15 x16 x17 x18) = denJ (den C k) (lp C k) Js C cd4 (lq C 72 next Q) (St7 x2 x8 x9 x10 x14 x15 x16 x17 x18) from (denJ_den _ _ _ _ _ _).symm).trans ((h (den C k) (lp C k)).trans ?_)
  first | rfl | kernel_rfl
def l1 {α : Type} (k : Nat) (Xt2 : Int → Int → Int → Int → Int → Int → Option α) : Nat → Int → Int → Int → Int → Int → Int → Int → Int → Int → Option α
  | 0, _, _, _, _, _, _, _, _, _ => none
  | n + 1, x2, x8, x9, x10, x14, x15, x16, x17, x18 => l1s (l1 k Xt2 n) Xt2 x2 x8 x9 x10 x14 x15 x16 x17 x18
theorem l1_eq {α : Type} (k : Nat) (Q : Ex → St → Option α) : ∀ (n : Nat) (x2 : Int) (x8 : Int) (x9 : Int) (x10 : Int) (x14 : Int) (x15 : Int) (x16 : Int) (x17 : Int) (x18 : Int), iter (rnd C k cd4 72 Q) n (St7 x2 x8 x9 x10 x14 x15 x16 x17 x18) = l1 k (fun (x2 : Int) (x8 : Int) (x14 : Int) (x15 : Int) (x17 : Int) (x18 : Int) => Q (.exit 2) (St8 x2 x8 x14 x15 x17 x18)) n x2 x8 x9 x10 x14 x15 x16 x17 x18
  | 0, _, _, _, _, _, _, _, _, _ => rfl
  | n + 1, x2, x8, x9, x10, x14, x15, x16, x17, x18 => (iter_succ _ _ _).trans ((l1s_eq k (iter (rnd C k cd4 72 Q) n) Q x2 x8 x9 x10 x14 x15 x16 x17 x18).trans (congrArg (fun N => l1s N (fun (x2 : Int) (x8 : Int) (x14 : Int) (x15 : Int) (x17 : Int) (x18 : Int) => Q (.exit 2) (St8 x2 x8 x14 x15 x17 x18)) x2 x8 x9 x10 x14 x15 x16 x17 x18) (funext fun x2 => funext fun x8 => funext fun x9 => funext fun x10 => funext fun x14 => funext fun x15 => funext fun x16 => funext fun x17 => funext fun x18 => l1_eq k Q n x2 x8 x9 x10 x14 x15 x16 x17 x18)))
theorem l1_congr {α : Type} (k : Nat) (Xt2 : Int → Int → Int → Int → Int → Int → Option α) (Xt2q : Int → Int → Int → Int → Int → Int → Option α) (hXt2 : ∀ (x2 : Int) (x8 : Int) (x14 : Int) (x15 : Int) (x17 : Int) (x18 : Int), Xt2 x2 x8 x14 x15 x17 x18 = Xt2q x2 x8 x14 x15 x17 x18) (n : Nat) (x2 : Int) (x8 : Int) (x9 : Int) (x10 : Int) (x14 : Int) (x15 : Int) (x16 : Int) (x17 : Int) (x18 : Int) : l1 k Xt2 n x2 x8 x9 x10 x14 x15 x16 x17 x18 = l1 k Xt2q n x2 x8 x9 x10 x14 x15 x16 x17 x18 := by
  obtain rfl : Xt2 = Xt2q := by funext x2; funext x8; funext x14; funext x15; funext x17; funext x18; exact hXt2 x2 x8 x14 x15 x17 x18
  rfl
noncomputable def cd5 : Code := cR (cR (cR (cR (cR (cR (cR (cR (cR (cR (cR (cR (cR (cR (cR (cR (cR (cR (cR (cB Try.f66)))))))))))))))))))
def St9 (x2 : Int) (x8 : Int) (x14 : Int) (x15 : Int) (x17 : Int) (x18 : Int) : St := stL 135 [(2, .data (.int .u64) x2), (8, .data (.int .u64) x8), (14, .data (.int .u64) x14), (15, .data (.int .u64) x15), (17, .data (.int .u64) x17), (18, .data (.int .u64) x18)] []
def j3 {α : Type} (Rt : Int → Int → Option α) (x2 : Int) (x8 : Int) (x14 : Int) (x15 : Int) (x17 : Int) (x18 : Int) : Option α :=
  if 0 ≤ x8 then
    Rt (IntKind.u64.wrap ((IntKind.u64.wrap (x15 * 4294967296)) + x18)) (shrI .u64 (IntKind.u64.wrap ((IntKind.u64.wrap ((IntKind.u64.wrap (x17 * 4294967296)) + x14)) - (IntKind.u64.wrap (x18 * x2)))) x8)
  else none
theorem j3_eq {α : Type} (k : Nat) (Q : Ex → St → Option α) (x2 : Int) (x8 : Int) (x14 : Int) (x15 : Int) (x17 : Int) (x18 : Int) :
    (den C k) cd5 Q (St9 x2 x8 x14 x15 x17 x18) = j3 (fun (x6 : Int) (x7 : Int) => Q .ret (St3 x6 x7)) x2 x8 x14 x15 x17 x18 := by
  have h : ∀ (D L : DT α), denJ D L Js C cd5 Q (St9 x2 x8 x14 x15 x17 x18) =
        if 0 ≤ x8 then
          Q .ret (St3 (IntKind.u64.wrap ((IntKind.u64.wrap (x15 * 4294967296)) + x18)) (shrI .u64 (IntKind.u64.wrap ((IntKind.u64.wrap ((IntKind.u64.wrap (x17 * 4294967296)) + x14)) - (IntKind.u64.wrap (x18 * x2)))) x8))
        else none := by
    intro D L; kernel_rfl
  refine (show (den C k) cd5 Q (St9 x2 x8 x14 x15 x17 x18) = denJ (den C k) (lp C k) Js C cd5 Q (St9 x2 x8 x14 x15 x17 x18) from (denJ_den _ _ _ _ _ _).symm).trans ((h (den C k) (lp C k)).trans ?_)
  first | rfl | kernel_rfl
theorem a0 {α : Type} (k : Nat) (Q : Ex → St → Option α) (x2 : Int) (x8 : Int) (x9 : Int) (x10 : Int) (x14 : Int) (x15 : Int) (x16 : Int) (x17 : Int) (x18 : Int) :
    (lp C k) cd4 (blkQ C 2 (sq (den C k) (lp C k) Js C cd5 Q)) (St7 x2 x8 x9 x10 x14 x15 x16 x17 x18) = l1 k (fun (x2 : Int) (x8 : Int) (x14 : Int) (x15 : Int) (x17 : Int) (x18 : Int) => j3 (fun (x6 : Int) (x7 : Int) => Q .ret (St3 x6 x7)) x2 x8 x14 x15 x17 x18) k x2 x8 x9 x10 x14 x15 x16 x17 x18 :=
  (show (lp C k) cd4 (blkQ C 2 (sq (den C k) (lp C k) Js C cd5 Q)) (St7 x2 x8 x9 x10 x14 x15 x16 x17 x18) = iter (rnd C k cd4 72 (blkQ C 2 (sq (den C k) (lp C k) Js C cd5 Q))) k (St7 x2 x8 x9 x10 x14 x15 x16 x17 x18) by kernel_rfl).trans ((l1_eq k (blkQ C 2 (sq (den C k) (lp C k) Js C cd5 Q)) k x2 x8 x9 x10 x14 x15 x16 x17 x18).trans (l1_congr k _ _ (fun x2 x8 x14 x15 x17 x18 => ((show (blkQ C 2 (sq (den C k) (lp C k) Js C cd5 Q)) (.exit 2) (St8 x2 x8 x14 x15 x17 x18) = (den C k) cd5 Q (St9 x2 x8 x14 x15 x17 x18) by kernel_rfl).trans (by simp only [j3_eq]))) k x2 x8 x9 x10 x14 x15 x16 x17 x18))
def j2 {α : Type} (k : Nat) (Rt : Int → Int → Option α) (x2 : Int) (x8 : Int) (x9 : Int) (x10 : Int) (x11 : Int) (x13 : Int) (x14 : Int) (x15 : Int) : Option α :=
  if x9 ≠ 0 then
    l1 k (fun (x2 : Int) (x8 : Int) (x14 : Int) (x15 : Int) (x17 : Int) (x18 : Int) => j3 Rt x2 x8 x14 x15 x17 x18) k x2 x8 x9 x10 x14 x15 (IntKind.u64.wrap ((IntKind.u64.wrap ((IntKind.u64.wrap ((IntKind.u64.wrap (x11 * 4294967296)) + x13)) - (IntKind.u64.wrap (x15 * x2)))) - (IntKind.u64.wrap ((IntKind.u64.wrap (Int.tdiv (IntKind.u64.wrap ((IntKind.u64.wrap ((IntKind.u64.wrap (x11 * 4294967296)) + x13)) - (IntKind.u64.wrap (x15 * x2)))) x9)) * x9)))) (IntKind.u64.wrap ((IntKind.u64.wrap ((IntKind.u64.wrap (x11 * 4294967296)) + x13)) - (IntKind.u64.wrap (x15 * x2)))) (IntKind.u64.wrap (Int.tdiv (IntKind.u64.wrap ((IntKind.u64.wrap ((IntKind.u64.wrap (x11 * 4294967296)) + x13)) - (IntKind.u64.wrap (x15 * x2)))) x9))
  else none
theorem j2_eq {α : Type} (k : Nat) (Q : Ex → St → Option α) (x2 : Int) (x8 : Int) (x9 : Int) (x10 : Int) (x11 : Int) (x13 : Int) (x14 : Int) (x15 : Int) :
    (den C k) cd3 Q (St6 x2 x8 x9 x10 x11 x13 x14 x15) = j2 k (fun (x6 : Int) (x7 : Int) => Q .ret (St3 x6 x7)) x2 x8 x9 x10 x11 x13 x14 x15 := by
  have h : ∀ (D L : DT α), denJ D L Js C cd3 Q (St6 x2 x8 x9 x10 x11 x13 x14 x15) =
        if x9 ≠ 0 then
          L cd4 (blkQ C 2 (sq D L Js C cd5 Q)) (St7 x2 x8 x9 x10 x14 x15 (IntKind.u64.wrap ((IntKind.u64.wrap ((IntKind.u64.wrap ((IntKind.u64.wrap (x11 * 4294967296)) + x13)) - (IntKind.u64.wrap (x15 * x2)))) - (IntKind.u64.wrap ((IntKind.u64.wrap (Int.tdiv (IntKind.u64.wrap ((IntKind.u64.wrap ((IntKind.u64.wrap (x11 * 4294967296)) + x13)) - (IntKind.u64.wrap (x15 * x2)))) x9)) * x9)))) (IntKind.u64.wrap ((IntKind.u64.wrap ((IntKind.u64.wrap (x11 * 4294967296)) + x13)) - (IntKind.u64.wrap (x15 * x2)))) (IntKind.u64.wrap (Int.tdiv (IntKind.u64.wrap ((IntKind.u64.wrap ((IntKind.u64.wrap (x11 * 4294967296)) + x13)) - (IntKind.u64.wrap (x15 * x2)))) x9)))
        else none := by
    intro D L; kernel_rfl
  refine (show (den C k) cd3 Q (St6 x2 x8 x9 x10 x11 x13 x14 x15) = denJ (den C k) (lp C k) Js C cd3 Q (St6 x2 x8 x9 x10 x11 x13 x14 x15) from (denJ_den _ _ _ _ _ _).symm).trans ((h (den C k) (lp C k)).trans ?_)
  simp only [a0]
  first | rfl | kernel_rfl
theorem a1 {α : Type} (k : Nat) (Q : Ex → St → Option α) (x2 : Int) (x8 : Int) (x9 : Int) (x10 : Int) (x11 : Int) (x13 : Int) (x14 : Int) (x15 : Int) (x16 : Int) :
    (lp C k) cd2 (blkQ C 0 (sq (den C k) (lp C k) Js C cd3 Q)) (St4 x2 x8 x9 x10 x11 x13 x14 x15 x16) = l0 k (fun (x2 : Int) (x8 : Int) (x9 : Int) (x10 : Int) (x11 : Int) (x13 : Int) (x14 : Int) (x15 : Int) => j2 k (fun (x6 : Int) (x7 : Int) => Q .ret (St3 x6 x7)) x2 x8 x9 x10 x11 x13 x14 x15) k x2 x8 x9 x10 x11 x13 x14 x15 x16 :=
  (show (lp C k) cd2 (blkQ C 0 (sq (den C k) (lp C k) Js C cd3 Q)) (St4 x2 x8 x9 x10 x11 x13 x14 x15 x16) = iter (rnd C k cd2 51 (blkQ C 0 (sq (den C k) (lp C k) Js C cd3 Q))) k (St4 x2 x8 x9 x10 x11 x13 x14 x15 x16) by kernel_rfl).trans ((l0_eq k (blkQ C 0 (sq (den C k) (lp C k) Js C cd3 Q)) k x2 x8 x9 x10 x11 x13 x14 x15 x16).trans (l0_congr k _ _ (fun x2 x8 x9 x10 x11 x13 x14 x15 => ((show (blkQ C 0 (sq (den C k) (lp C k) Js C cd3 Q)) (.exit 0) (St5 x2 x8 x9 x10 x11 x13 x14 x15) = (den C k) cd3 Q (St6 x2 x8 x9 x10 x11 x13 x14 x15) by kernel_rfl).trans (by simp only [j2_eq]))) k x2 x8 x9 x10 x11 x13 x14 x15 x16))
def j1 {α : Type} (k : Nat) (Rt : Int → Int → Option α) (x0 : Int) (x1 : Int) (x2 : Int) : Option α :=
  if (x0 == 0) = true then
    if x2 ≠ 0 then
      if x2 ≠ 0 then
        Rt (IntKind.u64.wrap (Int.tdiv x1 x2)) (Int.tmod x1 x2)
      else none
    else none
  else
    (Go.Bx.math_bits_LeadingZeros64.run x2).bind fun y1 =>
    if 0 ≤ (IntKind.u64.wrap y1) then
      if 0 ≤ (IntKind.u64.wrap y1) then
        if 0 ≤ (IntKind.u64.wrap (64 - (IntKind.u64.wrap y1))) then
          if 0 ≤ (IntKind.u64.wrap y1) then
            if (shrI .u64 (shlI .u64 x2 (IntKind.u64.wrap y1)) 32) ≠ 0 then
              l0 k (fun (x2 : Int) (x8 : Int) (x9 : Int) (x10 : Int) (x11 : Int) (x13 : Int) (x14 : Int) (x15 : Int) => j2 k Rt x2 x8 x9 x10 x11 x13 x14 x15) k (shlI .u64 x2 (IntKind.u64.wrap y1)) (IntKind.u64.wrap y1) (shrI .u64 (shlI .u64 x2 (IntKind.u64.wrap y1)) 32) (band .u64 (shlI .u64 x2 (IntKind.u64.wrap y1)) 4294967295) (bor .u64 (shlI .u64 x0 (IntKind.u64.wrap y1)) (shrI .u64 x1 (IntKind.u64.wrap (64 - (IntKind.u64.wrap y1))))) (shrI .u64 (shlI .u64 x1 (IntKind.u64.wrap y1)) 32) (band .u64 (shlI .u64 x1 (IntKind.u64.wrap y1)) 4294967295) (IntKind.u64.wrap (Int.tdiv (bor .u64 (shlI .u64 x0 (IntKind.u64.wrap y1)) (shrI .u64 x1 (IntKind.u64.wrap (64 - (IntKind.u64.wrap y1))))) (shrI .u64 (shlI .u64 x2 (IntKind.u64.wrap y1)) 32))) (IntKind.u64.wrap ((bor .u64 (shlI .u64 x0 (IntKind.u64.wrap y1)) (shrI .u64 x1 (IntKind.u64.wrap (64 - (IntKind.u64.wrap y1))))) - (IntKind.u64.wrap ((IntKind.u64.wrap (Int.tdiv (bor .u64 (shlI .u64 x0 (IntKind.u64.wrap y1)) (shrI .u64 x1 (IntKind.u64.wrap (64 - (IntKind.u64.wrap y1))))) (shrI .u64 (shlI .u64 x2 (IntKind.u64.wrap y1)) 32))) * (shrI .u64 (shlI .u64 x2 (IntKind.u64.wrap y1)) 32)))))
            else none
          else none
        else none
      else none
    else none
theorem j1_eq {α : Type} (k : Nat) (Q : Ex → St → Option α) (x0 : Int) (x1 : Int) (x2 : Int) :
    (den C k) cd1 Q (St2 x0 x1 x2) = j1 k (fun (x6 : Int) (x7 : Int) => Q .ret (St3 x6 x7)) x0 x1 x2 := by
  have h : ∀ (D L : DT α), denJ D L Js C cd1 Q (St2 x0 x1 x2) =
        if (x0 == 0) = true then
          if x2 ≠ 0 then
            if x2 ≠ 0 then
              Q .ret (St3 (IntKind.u64.wrap (Int.tdiv x1 x2)) (Int.tmod x1 x2))
            else none
          else none
        else
          (Go.Bx.math_bits_LeadingZeros64.run x2).bind fun y1 =>
          if 0 ≤ (IntKind.u64.wrap y1) then
            if 0 ≤ (IntKind.u64.wrap y1) then
              if 0 ≤ (IntKind.u64.wrap (64 - (IntKind.u64.wrap y1))) then
                if 0 ≤ (IntKind.u64.wrap y1) then
                  if (shrI .u64 (shlI .u64 x2 (IntKind.u64.wrap y1)) 32) ≠ 0 then
                    L cd2 (blkQ C 0 (sq D L Js C cd3 Q)) (St4 (shlI .u64 x2 (IntKind.u64.wrap y1)) (IntKind.u64.wrap y1) (shrI .u64 (shlI .u64 x2 (IntKind.u64.wrap y1)) 32) (band .u64 (shlI .u64 x2 (IntKind.u64.wrap y1)) 4294967295) (bor .u64 (shlI .u64 x0 (IntKind.u64.wrap y1)) (shrI .u64 x1 (IntKind.u64.wrap (64 - (IntKind.u64.wrap y1))))) (shrI .u64 (shlI .u64 x1 (IntKind.u64.wrap y1)) 32) (band .u64 (shlI .u64 x1 (IntKind.u64.wrap y1)) 4294967295) (IntKind.u64.wrap (Int.tdiv (bor .u64 (shlI .u64 x0 (IntKind.u64.wrap y1)) (shrI .u64 x1 (IntKind.u64.wrap (64 - (IntKind.u64.wrap y1))))) (shrI .u64 (shlI .u64 x2 (IntKind.u64.wrap y1)) 32))) (IntKind.u64.wrap ((bor .u64 (shlI .u64 x0 (IntKind.u64.wrap y1)) (shrI .u64 x1 (IntKind.u64.wrap (64 - (IntKind.u64.wrap y1))))) - (IntKind.u64.wrap ((IntKind.u64.wrap (Int.tdiv (bor .u64 (shlI .u64 x0 (IntKind.u64.wrap y1)) (shrI .u64 x1 (IntKind.u64.wrap (64 - (IntKind.u64.wrap y1))))) (shrI .u64 (shlI .u64 x2 (IntKind.u64.wrap y1)) 32))) * (shrI .u64 (shlI .u64 x2 (IntKind.u64.wrap y1)) 32))))))
                  else none
                else none
              else none
            else none
          else none := by
    intro D L; kernel_rfl
  refine (show (den C k) cd1 Q (St2 x0 x1 x2) = denJ (den C k) (lp C k) Js C cd1 Q (St2 x0 x1 x2) from (denJ_den _ _ _ _ _ _).symm).trans ((h (den C k) (lp C k)).trans ?_)
  simp only [a1]
  first | rfl | kernel_rfl
def j0 {α : Type} (k : Nat) (Rt : Int → Int → Option α) (x0 : Int) (x1 : Int) (x2 : Int) : Option α :=
  if (decide (x2 ≤ x0)) = true then
    none
  else
    j1 k Rt x0 x1 x2
theorem j0_eq {α : Type} (k : Nat) (Q : Ex → St → Option α) (x0 : Int) (x1 : Int) (x2 : Int) :
    (den C k) cd0 Q (St1 x0 x1 x2) = j0 k (fun (x6 : Int) (x7 : Int) => Q .ret (St3 x6 x7)) x0 x1 x2 := by
  have h : ∀ (D L : DT α), denJ D L Js C cd0 Q (St1 x0 x1 x2) =
        if (decide (x2 ≤ x0)) = true then
          none
        else
          D cd1 Q (St2 x0 x1 x2) := by
    intro D L; kernel_rfl
  refine (show (den C k) cd0 Q (St1 x0 x1 x2) = denJ (den C k) (lp C k) Js C cd0 Q (St1 x0 x1 x2) from (denJ_den _ _ _ _ _ _).symm).trans ((h (den C k) (lp C k)).trans ?_)
  simp only [j1_eq]
  first | rfl | kernel_rfl
def top {α : Type} (k : Nat) (Rt : Int → Int → Option α) (x0 : Int) (x1 : Int) (x2 : Int) : Option α :=
  if (x2 == 0) = true then
    none
  else
    j0 k Rt x0 x1 x2
theorem top_eq {α : Type} (k : Nat) (Q : Ex → St → Option α) (x0 : Int) (x1 : Int) (x2 : Int) :
    (den C k) (cB Try.f66) Q (St0 x0 x1 x2) = top k (fun (x6 : Int) (x7 : Int) => Q .ret (St3 x6 x7)) x0 x1 x2 := by
  have h : ∀ (D L : DT α), denJ D L Js C (cB Try.f66) Q (St0 x0 x1 x2) =
        if (x2 == 0) = true then
          none
        else
          D cd0 Q (St1 x0 x1 x2) := by
    intro D L; kernel_rfl
  refine (show (den C k) (cB Try.f66) Q (St0 x0 x1 x2) = denJ (den C k) (lp C k) Js C (cB Try.f66) Q (St0 x0 x1 x2) from (denJ_den _ _ _ _ _ _).symm).trans ((h (den C k) (lp C k)).trans ?_)
  simp only [j0_eq]
  first | rfl | kernel_rfl
def run (x0 : Int) (x1 : Int) (x2 : Int) : Option (Int × Int × Unit) := top (α := Int × Int × Unit) fuel (fun (x6 : Int) (x7 : Int) => some (x6, x7, ())) x0 x1 x2
def F : Fn := ⟨(.pair (.int .u64) (.pair (.int .u64) (.pair (.int .u64) .unit))), (.pair (.int .u64) (.pair (.int .u64) .unit)), true, fun x => run x.1 x.2.1 x.2.2.1⟩
set_option maxRecDepth 100000 in
theorem con : Con Try.prog 66 F := by
  refine con_of_den (C := C) (ctx_ok (by kernel_rfl) (by kernel_rfl) (by kernel_rfl) (by kernel_rfl) ⟨.inl ⟨Go.Bx.math_bits_LeadingZeros64.con, Go.Bx.math_bits_LeadingZeros64.named⟩, trivial⟩) (by kernel_rfl) Try.func66 (c := cB Try.f66) (by kernel_rfl) (by kernel_rfl) F fuel (fun x => by simp [F, spread, Try.ntmps66]) ?_
  intro x r h
  rw [← h]
  have h1 : start F Try.f66.ntmps x = (St0 x.1 x.2.1 x.2.2.1) := by kernel_rfl
  rw [h1]
  refine (top_eq fuel (fin C Try.f66.results.toList F.rs F.multi) x.1 x.2.1 x.2.2.1).trans ?_
  kernel_rfl
theorem named : Named Try.prog 66 := named_of Try.func66 (by kernel_rfl) (by kernel_rfl)
end Go.Bx.math_bits_Div64
namespace Go.Bx.basculeref_times
open Go Go.Proofs Go.Bx
set_option maxRecDepth 100000
set_option linter.unusedVariables false
def Js : List Nat := [13, 14, 15]
def C : Ctx := ⟨[(54, (.int .u64)), (114, (.sl (.int .u64)))], [], [], fnL [], noSh, [], invL [], [(2, [4]), (1, [5]), (4, [1, 5, 18, 19, 20]), (7, [1, 5, 6, 8, 18, 19, 20]), (10, [1, 5, 6, 7, 8, 18, 19, 20, 25, 26, 27]), (9, [1, 5, 18, 19, 20]), (21, [1, 5, 6, 7, 8, 18, 19, 20, 25, 26, 27]), (36, [1, 5, 6, 8, 18, 19, 20]), (39, [1, 5, 18, 19, 20]), (42, [5])], [], [], 0, 0⟩
def St0 (x0 : List Int) (x1 : List Int) : St := stL 63 [(0, .data (.sl (.int .u64)) x0), (1, .data (.sl (.int .u64)) x1)] []
def St1 (x1 : List Int) (x18 : List Int) (x19 : Int) (x20 : Int) (c17 : List Int) : St := stL 63 [(1, .data (.sl (.int .u64)) x1), (5, .app 17 0), (18, .data (.sl (.int .u64)) x18), (19, .data (.int .i64) x19), (20, .data (.int .i64) x20)] [(17, .buf (.int .u64) c17 0 false)]
noncomputable def cd0 : Code := cL (cL (cR (cL (cR (cR (cB Try.f107))))))
def St2 (x1 : List Int) (x6 : Int) (x7 : Int) (x8 : Int) (x18 : List Int) (x19 : Int) (x20 : Int) (x25 : List Int) (x26 : Int) (x27 : Int) (c17 : List Int) : St := stL 63 [(1, .data (.sl (.int .u64)) x1), (5, .app 17 0), (6, .data (.int .i64) x6), (7, .data (.int .u64) x7), (8, .data (.int .u64) x8), (18, .data (.sl (.int .u64)) x18), (19, .data (.int .i64) x19), (20, .data (.int .i64) x20), (25, .data (.sl (.int .u64)) x25), (26, .data (.int .i64) x26), (27, .data (.int .i64) x27)] [(17, .buf (.int .u64) c17 0 false)]
noncomputable def cd1 : Code := cL (cL (cR (cL (cR (cR (cL (cL (cR (cR (cL (cL (cR (cL (cR (cR (cB Try.f107))))))))))))))))
def St3 (x1 : List Int) (x6 : Int) (x8 : Int) (x18 : List Int) (x19 : Int) (x20 : Int) (c17 : List Int) : St := stL 63 [(1, .data (.sl (.int .u64)) x1), (5, .app 17 0), (6, .data (.int .i64) x6), (8, .data (.int .u64) x8), (18, .data (.sl (.int .u64)) x18), (19, .data (.int .i64) x19), (20, .data (.int .i64) x20)] [(17, .buf (.int .u64) c17 0 false)]
def l1s {α : Type} (Nx : (List Int) → Int → Int → Int → (List Int) → Int → Int → (List Int) → Int → Int → (List Int) → Option α) (Xt2 : (List Int) → Int → Int → (List Int) → Int → Int → (List Int) → Option α) (x1 : List Int) (x6 : Int) (x7 : Int) (x8 : Int) (x18 : List Int) (x19 : Int) (x20 : Int) (x25 : List Int) (x26 : Int) (x27 : Int) (c17 : List Int) : Option α :=
  if (decide (x27 < x26)) = true then
    if 0 ≤ x27 ∧ x27 < (x25.length : Int) then
      if 0 ≤ (IntKind.i64.wrap (x6 + x27)) ∧ (IntKind.i64.wrap (x6 + x27)) < (c17.length : Int) then
        if 0 ≤ (IntKind.i64.wrap (x6 + x27)) ∧ (IntKind.i64.wrap (x6 + x27)) < (c17.length : Int) then
          Nx x1 x6 x7 (IntKind.u64.wrap (Int.tdiv (IntKind.u64.wrap ((IntKind.u64.wrap ((IntKind.u64.wrap (x7 * (List.getD x25 (Int.toNat x27) 0))) + (List.getD c17 (Int.toNat (IntKind.i64.wrap (x6 + x27))) 0))) + x8)) 4294967296)) x18 x19 x20 x25 x26 (IntKind.i64.wrap (x27 + 1)) (List.set c17 (Int.toNat (IntKind.i64.wrap (x6 + x27))) (Int.tmod (IntKind.u64.wrap ((IntKind.u64.wrap ((IntKind.u64.wrap (x7 * (List.getD x25 (Int.toNat x27) 0))) + (List.getD c17 (Int.toNat (IntKind.i64.wrap (x6 + x27))) 0))) + x8)) 4294967296))
        else none
      else none
    else none
  else
    Xt2 x1 x6 x8 x18 x19 x20 c17
theorem l1s_eq {α : Type} (k : Nat) (next : St → Option α) (Q : Ex → St → Option α) (x1 : List Int) (x6 : Int) (x7 : Int) (x8 : Int) (x18 : List Int) (x19 : Int) (x20 : Int) (x25 : List Int) (x26 : Int) (x27 : Int) (c17 : List Int) :
    rnd C k cd1 21 Q next (St2 x1 x6 x7 x8 x18 x19 x20 x25 x26 x27 c17) = l1s (fun (x1 : List Int) (x6 : Int) (x7 : Int) (x8 : Int) (x18 : List Int) (x19 : Int) (x20 : Int) (x25 : List Int) (x26 : Int) (x27 : Int) (c17 : List Int) => next (St2 x1 x6 x7 x8 x18 x19 x20 x25 x26 x27 c17)) (fun (x1 : List Int) (x6 : Int) (x8 : Int) (x18 : List Int) (x19 : Int) (x20 : Int) (c17 : List Int) => Q (.exit 2) (St3 x1 x6 x8 x18 x19 x20 c17)) x1 x6 x7 x8 x18 x19 x20 x25 x26 x27 c17 := by
  have h : ∀ (D L : DT α), denJ D L Js C cd1 (lq C 21 next Q) (St2 x1 x6 x7 x8 x18 x19 x20 x25 x26 x27 c17) =
        if (decide (x27 < x26)) = true then
          if 0 ≤ x27 ∧ x27 < (x25.length : Int) then
            if 0 ≤ (IntKind.i64.wrap (x6 + x27)) ∧ (IntKind.i64.wrap (x6 + x27)) < (c17.length : Int) then
              if 0 ≤ (IntKind.i64.wrap (x6 + x27)) ∧ (IntKind.i64.wrap (x6 + x27)) < (c17.length : Int) then
                next (St2 x1 x6 x7 (IntKind.u64.wrap (Int.tdiv (IntKind.u64.wrap ((IntKind.u64.wrap ((IntKind.u64.wrap (x7 * (List.getD x25 (Int.toNat x27) 0))) + (List.getD c17 (Int.toNat (IntKind.i64.wrap (x6 + x27))) 0))) + x8)) 4294967296)) x18 x19 x20 x25 x26 (IntKind.i64.wrap (x27 + 1)) (List.set c17 (Int.toNat (IntKind.i64.wrap (x6 + x27))) (Int.tmod (IntKind.u64.wrap ((IntKind.u64.wrap ((IntKind.u64.wrap (x7 * (List.getD x25 (Int.toNat x27) 0))) + (List.getD c17 (Int.toNat (IntKind.i64.wrap (x6 + x27))) 0))) + x8)) 4294967296)))
              else none
            else none
          else none
        else
          Q (.exit 2) (St3 x1 x6 x8 x18 x19 x20 c17) := by
    intro D L; kernel_rfl
  refine (show rnd C k cd1 21 Q next (St2 x1 x6 x7 x8 x18 x19 x20 x25 x26 x27 c17) = denJ (den C k) (lp C k) Js C cd1 (lq C 21 next Q) (St2 x1 x6 x7 x8 x18 x19 x20 x25 x26 x27 c17) from (denJ_den _ _ _ _ _ _).symm).trans ((h (den C k) (lp C k)).trans ?_)
  first | rfl | kernel_rfl
def l1 {α : Type} (k : Nat) (Xt2 : (List Int) → Int → Int → (List Int) → Int → Int → (List Int) → Option α) : Nat → (List Int) → Int → Int → Int → (List Int) → Int → Int → (List Int) → Int → Int → (List Int) → Option α
  | 0, _, _, _, _, _, _, _, _, _, _, _ => none
  | n + 1, x1, x6, x7, x8, x18, x19, x20, x25, x26, x27, c17 => l1s (l1 k Xt2 n) Xt2 x1 x6 x7 x8 x18 x19 x20 x25 x26 x27 c17
theorem l1_eq {α : Type} (k : Nat) (Q : Ex → St → Option α) : ∀ (n : Nat) (x1 : List Int) (x6 : Int) (x7 : Int) (x8 : Int) (x18 : List Int) (x19 : Int) (x20 : Int) (x25 : List Int) (x26 : Int) (x27 : Int) (c17 : List Int), iter (rnd C k cd1 21 Q) n (St2 x1 x6 x7 x8 x18 x19 x20 x25 x26 x27 c17) = l1 k (fun (x1 : List Int) (x6 : Int) (x8 : Int) (x18 : List Int) (x19 : Int) (x20 : Int) (c17 : List Int) => Q (.exit 2) (St3 x1 x6 x8 x18 x19 x20 c17)) n x1 x6 x7 x8 x18 x19 x20 x25 x26 x27 c17
  | 0, _, _, _, _, _, _, _, _, _, _, _ => rfl
  | n + 1, x1, x6, x7, x8, x18, x19, x20, x25, x26, x27, c17 => (iter_succ _ _ _).trans ((l1s_eq k (iter (rnd C k cd1 21 Q) n) Q x1 x6 x7 x8 x18 x19 x20 x25 x26 x27 c17).trans (congrArg (fun N => l1s N (fun (x1 : List Int) (x6 : Int) (x8 : Int) (x18 : List Int) (x19 : Int) (x20 : Int) (c17 : List Int) => Q (.exit 2) (St3 x1 x6 x8 x18 x19 x20 c17)) x1 x6 x7 x8 x18 x19 x20 x25 x26 x27 c17) (funext fun x1 => funext fun x6 => funext fun x7 => funext fun x8 => funext fun x18 => funext fun x19 => funext fun x20 => funext fun x25 => funext fun x26 => funext fun x27 => funext fun c17 => l1_eq k Q n x1 x6 x7 x8 x18 x19 x20 x25 x26 x27 c17)))
theorem l1_congr {α : Type} (k : Nat) (Xt2 : (List Int) → Int → Int → (List Int) → Int → Int → (List Int) → Option α) (Xt2q : (List Int) → Int → Int → (List Int) → Int → Int → (List Int) → Option α) (hXt2 : ∀ (x1 : List Int) (x6 : Int) (x8 : Int) (x18 : List Int) (x19 : Int) (x20 : Int) (c17 : List Int), Xt2 x1 x6 x8 x18 x19 x20 c17 = Xt2q x1 x6 x8 x18 x19 x20 c17) (n : Nat) (x1 : List Int) (x6 : Int) (x7 : Int) (x8 : Int) (x18 : List Int) (x19 : Int) (x20 : Int) (x25 : List Int) (x26 : Int) (x27 : Int) (c17 : List Int) : l1 k Xt2 n x1 x6 x7 x8 x18 x19 x20 x25 x26 x27 c17 = l1 k Xt2q n x1 x6 x7 x8 x18 x19 x20 x25 x26 x27 c17 := by
  obtain rfl : Xt2 = Xt2q := by funext x1; funext x6; funext x8; funext x18; funext x19; funext x20; funext c17; exact hXt2 x1 x6 x8 x18 x19 x20 c17
  rfl
noncomputable def cd2 : Code := cR (cR (cR (cL (cL (cR (cR (cL (cL (cR (cL (cR (cR (cB Try.f107)))))))))))))
noncomputable def cd3 : Code := cR (cR (cR (cL (cL (cR (cL (cR (cR (cB Try.f107)))))))))
def St4 (x1 : List Int) (x6 : Int) (x8 : Int) (x18 : List Int) (x19 : Int) (x20 : Int) (c17 : List Int) : St := stL 63 [(1, .data (.sl (.int .u64)) x1), (5, .app 17 0), (6, .data (.int .i64) x6), (8, .data (.int .u64) x8), (18, .data (.sl (.int .u64)) x18), (19, .data (.int .i64) x19), (20, .data (.int .i64) x20)] [(17, .buf (.int .u64) c17 0 false)]
def St5 (x1 : List Int) (x18 : List Int) (x19 : Int) (x20 : Int) (c17 : List Int) : St := stL 63 [(1, .data (.sl (.int .u64)) x1), (5, .app 17 0), (18, .data (.sl (.int .u64)) x18), (19, .data (.int .i64) x19), (20, .data (.int .i64) x20)] [(17, .buf (.int .u64) c17 0 false)]
def j1 {α : Type} (Nx : (List Int) → (List Int) → Int → Int → (List Int) → Option α) (x1 : List Int) (x18 : List Int) (x19 : Int) (x20 : Int) (c17 : List Int) : Option α :=
  Nx x1 x18 x19 (IntKind.i64.wrap (x20 + 1)) c17
theorem j1_eq {α : Type} (k : Nat) (next : St → Option α) (Q : Ex → St → Option α) (x1 : List Int) (x18 : List Int) (x19 : Int) (x20 : Int) (c17 : List Int) :
    (den C k) cd3 (lq C 9 next Q) (St5 x1 x18 x19 x20 c17) = j1 (fun (x1 : List Int) (x18 : List Int) (x19 : Int) (x20 : Int) (c17 : List Int) => next (St1 x1 x18 x19 x20 c17)) x1 x18 x19 x20 c17 := by
  have h : ∀ (D L : DT α), denJ D L Js C cd3 (lq C 9 next Q) (St5 x1 x18 x19 x20 c17) =
        next (St1 x1 x18 x19 (IntKind.i64.wrap (x20 + 1)) c17) := by
    intro D L; kernel_rfl
  refine (show (den C k) cd3 (lq C 9 next Q) (St5 x1 x18 x19 x20 c17) = denJ (den C k) (lp C k) Js C cd3 (lq C 9 next Q) (St5 x1 x18 x19 x20 c17) from (denJ_den _ _ _ _ _ _).symm).trans ((h (den C k) (lp C k)).trans ?_)
  first | rfl | kernel_rfl
def j0 {α : Type} (Nx : (List Int) → (List Int) → Int → Int → (List Int) → Option α) (x1 : List Int) (x6 : Int) (x8 : Int) (x18 : List Int) (x19 : Int) (x20 : Int) (c17 : List Int) : Option α :=
  if 0 ≤ (IntKind.i64.wrap (x6 + (x1.length : Int))) ∧ (IntKind.i64.wrap (x6 + (x1.length : Int))) < (c17.length : Int) then
    j1 Nx x1 x18 x19 x20 (List.set c17 (Int.toNat (IntKind.i64.wrap (x6 + (x1.length : Int)))) x8)
  else none
theorem j0_eq {α : Type} (k : Nat) (next : St → Option α) (Q : Ex → St → Option α) (x1 : List Int) (x6 : Int) (x8 : Int) (x18 : List Int) (x19 : Int) (x20 : Int) (c17 : List Int) :
    (den C k) cd2 (blkQ C 1 (sq (den C k) (lp C k) Js C cd3 (lq C 9 next Q))) (St4 x1 x6 x8 x18 x19 x20 c17) = j0 (fun (x1 : List Int) (x18 : List Int) (x19 : Int) (x20 : Int) (c17 : List Int) => next (St1 x1 x18 x19 x20 c17)) x1 x6 x8 x18 x19 x20 c17 := by
  have h : ∀ (D L : DT α), denJ D L Js C cd2 (blkQ C 1 (sq D L Js C cd3 (lq C 9 next Q))) (St4 x1 x6 x8 x18 x19 x20 c17) =
        if 0 ≤ (IntKind.i64.wrap (x6 + (x1.length : Int))) ∧ (IntKind.i64.wrap (x6 + (x1.length : Int))) < (c17.length : Int) then
          D cd3 (lq C 9 next Q) (St5 x1 x18 x19 x20 (List.set c17 (Int.toNat (IntKind.i64.wrap (x6 + (x1.length : Int)))) x8))
        else none := by
    intro D L; kernel_rfl
  refine (show (den C k) cd2 (blkQ C 1 (sq (den C k) (lp C k) Js C cd3 (lq C 9 next Q))) (St4 x1 x6 x8 x18 x19 x20 c17) = denJ (den C k) (lp C k) Js C cd2 (blkQ C 1 (sq (den C k) (lp C k) Js C cd3 (lq C 9 next Q))) (St4 x1 x6 x8 x18 x19 x20 c17) from (denJ_den _ _ _ _ _ _).symm).trans ((h (den C k) (lp C k)).trans ?_)
  simp only [j1_eq]
  first | rfl | kernel_rfl
theorem a0 {α : Type} (k : Nat) (next : St → Option α) (Q : Ex → St → Option α) (x1 : List Int) (x6 : Int) (x7 : Int) (x8 : Int) (x18 : List Int) (x19 : Int) (x20 : Int) (x25 : List Int) (x26 : Int) (x27 : Int) (c17 : List Int) :
    (lp C k) cd1 (blkQ C 2 (sq (den C k) (lp C k) Js C cd2 (blkQ C 1 (sq (den C k) (lp C k) Js C cd3 (lq C 9 next Q))))) (St2 x1 x6 x7 x8 x18 x19 x20 x25 x26 x27 c17) = l1 k (fun (x1 : List Int) (x6 : Int) (x8 : Int) (x18 : List Int) (x19 : Int) (x20 : Int) (c17 : List Int) => j0 (fun (x1 : List Int) (x18 : List Int) (x19 : Int) (x20 : Int) (c17 : List Int) => next (St1 x1 x18 x19 x20 c17)) x1 x6 x8 x18 x19 x20 c17) k x1 x6 x7 x8 x18 x19 x20 x25 x26 x27 c17 :=
  (show (lp C k) cd1 (blkQ C 2 (sq (den C k) (lp C k) Js C cd2 (blkQ C 1 (sq (den C k) (lp C k) Js C cd3 (lq C 9 next Q))))) (St2 x1 x6 x7 x8 x18 x19 x20 x25 x26 x27 c17) = iter (rnd C k cd1 21 (blkQ C 2 (sq (den C k) (lp C k) Js C cd2 (blkQ C 1 (sq (den C k) (lp C k) Js C cd3 (lq C 9 next Q)))))) k (St2 x1 x6 x7 x8 x18 x19 x20 x25 x26 x27 c17) by kernel_rfl).trans ((l1_eq k (blkQ C 2 (sq (den C k) (lp C k) Js C cd2 (blkQ C 1 (sq (den C k) (lp C k) Js C cd3 (lq C 9 next Q))))) k x1 x6 x7 x8 x18 x19 x20 x25 x26 x27 c17).trans (l1_congr k _ _ (fun x1 x6 x8 x18 x19 x20 c17 => ((show (blkQ C 2 (sq (den C k) (lp C k) Js C cd2 (blkQ C 1 (sq (den C k) (lp C k) Js C cd3 (lq C 9 next Q))))) (.exit 2) (St3 x1 x6 x8 x18 x19 x20 c17) = (den C k) cd2 (blkQ C 1 (sq (den C k) (lp C k) Js C cd3 (lq C 9 next Q))) (St4 x1 x6 x8 x18 x19 x20 c17) by kernel_rfl).trans (by simp only [j0_eq]))) k x1 x6 x7 x8 x18 x19 x20 x25 x26 x27 c17))
def St6 (c17 : List Int) : St := stL 63 [(5, .app 17 0)] [(17, .buf (.int .u64) c17 0 false)]
def l0s {α : Type} (k : Nat) (Nx : (List Int) → (List Int) → Int → Int → (List Int) → Option α) (Xt0 : (List Int) → Option α) (x1 : List Int) (x18 : List Int) (x19 : Int) (x20 : Int) (c17 : List Int) : Option α :=
  if (decide (x20 < x19)) = true then
    if 0 ≤ x20 ∧ x20 < (x18.length : Int) then
      l1 k (fun (x1 : List Int) (x6 : Int) (x8 : Int) (x18 : List Int) (x19 : Int) (x20 : Int) (c17 : List Int) => j0 Nx x1 x6 x8 x18 x19 x20 c17) k x1 x20 (List.getD x18 (Int.toNat x20) 0) 0 x18 x19 x20 x1 (x1.length : Int) 0 c17
    else none
  else
    Xt0 c17
theorem l0s_eq {α : Type} (k : Nat) (next : St → Option α) (Q : Ex → St → Option α) (x1 : List Int) (x18 : List Int) (x19 : Int) (x20 : Int) (c17 : List Int) :
    rnd C k cd0 9 Q next (St1 x1 x18 x19 x20 c17) = l0s k (fun (x1 : List Int) (x18 : List Int) (x19 : Int) (x20 : Int) (c17 : List Int) => next (St1 x1 x18 x19 x20 c17)) (fun (c17 : List Int) => Q (.exit 0) (St6 c17)) x1 x18 x19 x20 c17 := by
  have h : ∀ (D L : DT α), denJ D L Js C cd0 (lq C 9 next Q) (St1 x1 x18 x19 x20 c17) =
        if (decide (x20 < x19)) = true then
          if 0 ≤ x20 ∧ x20 < (x18.length : Int) then
            L cd1 (blkQ C 2 (sq D L Js C cd2 (blkQ C 1 (sq D L Js C cd3 (lq C 9 next Q))))) (St2 x1 x20 (List.getD x18 (Int.toNat x20) 0) 0 x18 x19 x20 x1 (x1.length : Int) 0 c17)
          else none
        else
          Q (.exit 0) (St6 c17) := by
    intro D L; kernel_rfl
  refine (show rnd C k cd0 9 Q next (St1 x1 x18 x19 x20 c17) = denJ (den C k) (lp C k) Js C cd0 (lq C 9 next Q) (St1 x1 x18 x19 x20 c17) from (denJ_den _ _ _ _ _ _).symm).trans ((h (den C k) (lp C k)).trans ?_)
  simp only [a0]
  first | rfl | kernel_rfl
def l0 {α : Type} (k : Nat) (Xt0 : (List Int) → Option α) : Nat → (List Int) → (List Int) → Int → Int → (List Int) → Option α
  | 0, _, _, _, _, _ => none
  | n + 1, x1, x18, x19, x20, c17 => l0s k (l0 k Xt0 n) Xt0 x1 x18 x19 x20 c17
theorem l0_eq {α : Type} (k : Nat) (Q : Ex → St → Option α) : ∀ (n : Nat) (x1 : List Int) (x18 : List Int) (x19 : Int) (x20 : Int) (c17 : List Int), iter (rnd C k cd0 9 Q) n (St1 x1 x18 x19 x20 c17) = l0 k (fun (c17 : List Int) => Q (.exit 0) (St6 c17)) n x1 x18 x19 x20 c17
  | 0, _, _, _, _, _ => rfl
  | n + 1, x1, x18, x19, x20, c17 => (iter_succ _ _ _).trans ((l0s_eq k (iter (rnd C k cd0 9 Q) n) Q x1 x18 x19 x20 c17).trans (congrArg (fun N => l0s k N (fun (c17 : List Int) => Q (.exit 0) (St6 c17)) x1 x18 x19 x20 c17) (funext fun x1 => funext fun x18 => funext fun x19 => funext fun x20 => funext fun c17 => l0_eq k Q n x1 x18 x19 x20 c17)))
theorem l0_congr {α : Type} (k : Nat) (Xt0 : (List Int) → Option α) (Xt0q : (List Int) → Option α) (hXt0 : ∀ (c17 : List Int), Xt0 c17 = Xt0q c17) (n : Nat) (x1 : List Int) (x18 : List Int) (x19 : Int) (x20 : Int) (c17 : List Int) : l0 k Xt0 n x1 x18 x19 x20 c17 = l0 k Xt0q n x1 x18 x19 x20 c17 := by
  obtain rfl : Xt0 = Xt0q := by funext c17; exact hXt0 c17
  rfl
noncomputable def cd4 : Code := cR (cR (cR (cB Try.f107)))
def St7 (c17 : List Int) : St := stL 63 [(5, .app 17 0)] [(17, .buf (.int .u64) c17 0 false)]
def St8 (c17 : List Int) : St := stL 63 [(4, .app 17 0)] [(17, .buf (.int .u64) c17 0 false)]
def j2 {α : Type} (Rt : (List Int) → Option α) (c17 : List Int) : Option α :=
  Rt c17
theorem j2_eq {α : Type} (k : Nat) (Q : Ex → St → Option α) (c17 : List Int) :
    (den C k) cd4 Q (St7 c17) = j2 (fun (c17 : List Int) => Q .ret (St8 c17)) c17 := by
  have h : ∀ (D L : DT α), denJ D L Js C cd4 Q (St7 c17) =
        Q .ret (St8 c17) := by
    intro D L; kernel_rfl
  refine (show (den C k) cd4 Q (St7 c17) = denJ (den C k) (lp C k) Js C cd4 Q (St7 c17) from (denJ_den _ _ _ _ _ _).symm).trans ((h (den C k) (lp C k)).trans ?_)
  first | rfl | kernel_rfl
theorem a1 {α : Type} (k : Nat) (Q : Ex → St → Option α) (x1 : List Int) (x18 : List Int) (x19 : Int) (x20 : Int) (c17 : List Int) :
    (lp C k) cd0 (blkQ C 0 (sq (den C k) (lp C k) Js C cd4 Q)) (St1 x1 x18 x19 x20 c17) = l0 k (fun (c17 : List Int) => j2 (fun (c17 : List Int) => Q .ret (St8 c17)) c17) k x1 x18 x19 x20 c17 :=
  (show (lp C k) cd0 (blkQ C 0 (sq (den C k) (lp C k) Js C cd4 Q)) (St1 x1 x18 x19 x20 c17) = iter (rnd C k cd0 9 (blkQ C 0 (sq (den C k) (lp C k) Js C cd4 Q))) k (St1 x1 x18 x19 x20 c17) by kernel_rfl).trans ((l0_eq k (blkQ C 0 (sq (den C k) (lp C k) Js C cd4 Q)) k x1 x18 x19 x20 c17).trans (l0_congr k _ _ (fun c17 => ((show (blkQ C 0 (sq (den C k) (lp C k) Js C cd4 Q)) (.exit 0) (St6 c17) = (den C k) cd4 Q (St7 c17) by kernel_rfl).trans (by simp only [j2_eq]))) k x1 x18 x19 x20 c17))
def top {α : Type} (k : Nat) (Rt : (List Int) → Option α) (x0 : List Int) (x1 : List Int) : Option α :=
  if 0 ≤ (IntKind.i64.wrap ((x0.length : Int) + (x1.length : Int))) ∧ id (IntKind.i64.wrap ((x0.length : Int) + (x1.length : Int))) = (IntKind.i64.wrap ((x0.length : Int) + (x1.length : Int))) ∧ fitB (IntKind.i64.wrap ((x0.length : Int) + (x1.length : Int))).toNat 8 = true then
    l0 k (fun (c17 : List Int) => j2 Rt c17) k x1 x0 (x0.length : Int) 0 (List.replicate (Int.toNat (IntKind.i64.wrap ((x0.length : Int) + (x1.length : Int)))) 0)
  else none
theorem top_eq {α : Type} (k : Nat) (Q : Ex → St → Option α) (x0 : List Int) (x1 : List Int) :
    (den C k) (cB Try.f107) Q (St0 x0 x1) = top k (fun (c17 : List Int) => Q .ret (St8 c17)) x0 x1 := by
  have h : ∀ (D L : DT α), denJ D L Js C (cB Try.f107) Q (St0 x0 x1) =
        if 0 ≤ (IntKind.i64.wrap ((x0.length : Int) + (x1.length : Int))) ∧ id (IntKind.i64.wrap ((x0.length : Int) + (x1.length : Int))) = (IntKind.i64.wrap ((x0.length : Int) + (x1.length : Int))) ∧ fitB (IntKind.i64.wrap ((x0.length : Int) + (x1.length : Int))).toNat 8 = true then
          L cd0 (blkQ C 0 (sq D L Js C cd4 Q)) (St1 x1 x0 (x0.length : Int) 0 (List.replicate (Int.toNat (IntKind.i64.wrap ((x0.length : Int) + (x1.length : Int)))) 0))
        else none := by
    intro D L; kernel_rfl
  refine (show (den C k) (cB Try.f107) Q (St0 x0 x1) = denJ (den C k) (lp C k) Js C (cB Try.f107) Q (St0 x0 x1) from (denJ_den _ _ _ _ _ _).symm).trans ((h (den C k) (lp C k)).trans ?_)
  simp only [a1]
  first | rfl | kernel_rfl
def run (x0 : List Int) (x1 : List Int) : Option (List Int) := top (α := List Int) fuel (fun (c17 : List Int) => some c17) x0 x1
def F : Fn := ⟨(.pair (.sl (.int .u64)) (.pair (.sl (.int .u64)) .unit)), (.sl (.int .u64)), false, fun x => run x.1 x.2.1⟩
set_option maxRecDepth 100000 in
theorem con : Con Try.prog 107 F := by
  refine con_of_den (C := C) (ctx_ok (by kernel_rfl) (by kernel_rfl) (by kernel_rfl) (by kernel_rfl) trivial) (by kernel_rfl) Try.func107 (c := cB Try.f107) (by kernel_rfl) (by kernel_rfl) F fuel (fun x => by simp [F, spread, Try.ntmps107]) ?_
  intro x r h
  rw [← h]
  have h1 : start F Try.f107.ntmps x = (St0 x.1 x.2.1) := by kernel_rfl
  rw [h1]
  refine (top_eq fuel (fin C Try.f107.results.toList F.rs F.multi) x.1 x.2.1).trans ?_
  kernel_rfl
theorem named : Named Try.prog 107 := named_of Try.func107 (by kernel_rfl) (by kernel_rfl)
end Go.Bx.basculeref_times
namespace Go.Bx.basculeref_shorn
open Go Go.Proofs Go.Bx
set_option maxRecDepth 100000
set_option linter.unusedVariables false
def Js : List Nat := [4]
def C : Ctx := ⟨[(54, (.int .u64)), (114, (.sl (.int .u64)))], [], [], fnL [], noSh, [], invL [], [(2, [2]), (1, [0]), (4, [0]), (3, [0]), (9, [0])], [], [], 0, 0⟩
def St0 (x0 : List Int) : St := stL 21 [(0, .data (.sl (.int .u64)) x0)] []
def St1 (x0 : List Int) : St := stL 21 [(0, .data (.sl (.int .u64)) x0)] []
noncomputable def cd0 : Code := cL (cL (cL (cR (cB Try.f67))))
def St2 (x0 : List Int) : St := stL 21 [(0, .data (.sl (.int .u64)) x0)] []
def l0s {α : Type} (Nx : (List Int) → Option α) (Xt0 : (List Int) → Option α) (x0 : List Int) : Option α :=
  cond (decide (0 ≤ (IntKind.i64.wrap ((x0.length : Int) - 1)) ∧ (IntKind.i64.wrap ((x0.length : Int) - 1)) < (x0.length : Int)) || !((decide ((x0.length : Int) > 0)) == true)) (
    if (cond (decide ((x0.length : Int) > 0)) ((List.getD x0 (Int.toNat (IntKind.i64.wrap ((x0.length : Int) - 1))) 0) == 0) false) = true then
      if 0 ≤ (0 : Int) ∧ (0 : Int) ≤ (IntKind.i64.wrap ((x0.length : Int) - 1)) ∧ (IntKind.i64.wrap ((x0.length : Int) - 1)) ≤ (x0.length : Int) then
        Nx (cutL x0 0 (IntKind.i64.wrap ((x0.length : Int) - 1)))
      else none
    else
      Xt0 x0) none
theorem l0s_eq {α : Type} (k : Nat) (next : St → Option α) (Q : Ex → St → Option α) (x0 : List Int) :
    rnd C k cd0 3 Q next (St1 x0) = l0s (fun (x0 : List Int) => next (St1 x0)) (fun (x0 : List Int) => Q (.exit 0) (St2 x0)) x0 := by
  have h : ∀ (D L : DT α), denJ D L Js C cd0 (lq C 3 next Q) (St1 x0) =
        cond (decide (0 ≤ (IntKind.i64.wrap ((x0.length : Int) - 1)) ∧ (IntKind.i64.wrap ((x0.length : Int) - 1)) < (x0.length : Int)) || !((decide ((x0.length : Int) > 0)) == true)) (
          if (cond (decide ((x0.length : Int) > 0)) ((List.getD x0 (Int.toNat (IntKind.i64.wrap ((x0.length : Int) - 1))) 0) == 0) false) = true then
            if 0 ≤ (0 : Int) ∧ (0 : Int) ≤ (IntKind.i64.wrap ((x0.length : Int) - 1)) ∧ (IntKind.i64.wrap ((x0.length : Int) - 1)) ≤ (x0.length : Int) then
              next (St1 (cutL x0 0 (IntKind.i64.wrap ((x0.length : Int) - 1))))
            else none
          else
            Q (.exit 0) (St2 x0)) none := by
    intro D L; kernel_rfl
  refine (show rnd C k cd0 3 Q next (St1 x0) = denJ (den C k) (lp C k) Js C cd0 (lq C 3 next Q) (St1 x0) from (denJ_den _ _ _ _ _ _).symm).trans ((h (den C k) (lp C k)).trans ?_)
  first | rfl | kernel_rfl
def l0 {α : Type} (k : Nat) (Xt0 : (List Int) → Option α) : Nat → (List Int) → Option α
  | 0, _ => none
  | n + 1, x0 => l0s (l0 k Xt0 n) Xt0 x0
theorem l0_eq {α : Type} (k : Nat) (Q : Ex → St → Option α) : ∀ (n : Nat) (x0 : List Int), iter (rnd C k cd0 3 Q) n (St1 x0) = l0 k (fun (x0 : List Int) => Q (.exit 0) (St2 x0)) n x0
  | 0, _ => rfl
  | n + 1, x0 => (iter_succ _ _ _).trans ((l0s_eq k (iter (rnd C k cd0 3 Q) n) Q x0).trans (congrArg (fun N => l0s N (fun (x0 : List Int) => Q (.exit 0) (St2 x0)) x0) (funext fun x0 => l0_eq k Q n x0)))
theorem l0_congr {α : Type} (k : Nat) (Xt0 : (List Int) → Option α) (Xt0q : (List Int) → Option α) (hXt0 : ∀ (x0 : List Int), Xt0 x0 = Xt0q x0) (n : Nat) (x0 : List Int) : l0 k Xt0 n x0 = l0 k Xt0q n x0 := by
  obtain rfl : Xt0 = Xt0q := by funext x0; exact hXt0 x0
  rfl
noncomputable def cd1 : Code := cR (cR (cB Try.f67))
def St3 (x0 : List Int) : St := stL 21 [(0, .data (.sl (.int .u64)) x0)] []
def St4 (x2 : List Int) : St := stL 21 [(2, .data (.sl (.int .u64)) x2)] []
def j0 {α : Type} (Rt : (List Int) → Option α) (x0 : List Int) : Option α :=
  Rt x0
theorem j0_eq {α : Type} (k : Nat) (Q : Ex → St → Option α) (x0 : List Int) :
    (den C k) cd1 Q (St3 x0) = j0 (fun (x2 : List Int) => Q .ret (St4 x2)) x0 := by
  have h : ∀ (D L : DT α), denJ D L Js C cd1 Q (St3 x0) =
        Q .ret (St4 x0) := by
    intro D L; kernel_rfl
  refine (show (den C k) cd1 Q (St3 x0) = denJ (den C k) (lp C k) Js C cd1 Q (St3 x0) from (denJ_den _ _ _ _ _ _).symm).trans ((h (den C k) (lp C k)).trans ?_)
  first | rfl | kernel_rfl
theorem a0 {α : Type} (k : Nat) (Q : Ex → St → Option α) (x0 : List Int) :
    (lp C k) cd0 (blkQ C 0 (sq (den C k) (lp C k) Js C cd1 Q)) (St1 x0) = l0 k (fun (x0 : List Int) => j0 (fun (x2 : List Int) => Q .ret (St4 x2)) x0) k x0 :=
  (show (lp C k) cd0 (blkQ C 0 (sq (den C k) (lp C k) Js C cd1 Q)) (St1 x0) = iter (rnd C k cd0 3 (blkQ C 0 (sq (den C k) (lp C k) Js C cd1 Q))) k (St1 x0) by kernel_rfl).trans ((l0_eq k (blkQ C 0 (sq (den C k) (lp C k) Js C cd1 Q)) k x0).trans (l0_congr k _ _ (fun x0 => ((show (blkQ C 0 (sq (den C k) (lp C k) Js C cd1 Q)) (.exit 0) (St2 x0) = (den C k) cd1 Q (St3 x0) by kernel_rfl).trans (by simp only [j0_eq]))) k x0))
def top {α : Type} (k : Nat) (Rt : (List Int) → Option α) (x0 : List Int) : Option α :=
  l0 k (fun (x0 : List Int) => j0 Rt x0) k x0
theorem top_eq {α : Type} (k : Nat) (Q : Ex → St → Option α) (x0 : List Int) :
    (den C k) (cB Try.f67) Q (St0 x0) = top k (fun (x2 : List Int) => Q .ret (St4 x2)) x0 := by
  have h : ∀ (D L : DT α), denJ D L Js C (cB Try.f67) Q (St0 x0) =
        L cd0 (blkQ C 0 (sq D L Js C cd1 Q)) (St1 x0) := by
    intro D L; kernel_rfl
  refine (show (den C k) (cB Try.f67) Q (St0 x0) = denJ (den C k) (lp C k) Js C (cB Try.f67) Q (St0 x0) from (denJ_den _ _ _ _ _ _).symm).trans ((h (den C k) (lp C k)).trans ?_)
  simp only [a0]
  first | rfl | kernel_rfl
def run (x0 : List Int) : Option (List Int) := top (α := List Int) fuel (fun (x2 : List Int) => some x2) x0
def F : Fn := ⟨(.pair (.sl (.int .u64)) .unit), (.sl (.int .u64)), false, fun x => run x.1⟩
set_option maxRecDepth 100000 in
theorem con : Con Try.prog 67 F := by
  refine con_of_den (C := C) (ctx_ok (by kernel_rfl) (by kernel_rfl) (by kernel_rfl) (by kernel_rfl) trivial) (by kernel_rfl) Try.func67 (c := cB Try.f67) (by kernel_rfl) (by kernel_rfl) F fuel (fun x => by simp [F, spread, Try.ntmps67]) ?_
  intro x r h
  rw [← h]
  have h1 : start F Try.f67.ntmps x = (St0 x.1) := by kernel_rfl
  rw [h1]
  refine (top_eq fuel (fin C Try.f67.results.toList F.rs F.multi) x.1).trans ?_
  kernel_rfl
theorem named : Named Try.prog 67 := named_of Try.func67 (by kernel_rfl) (by kernel_rfl)
end Go.Bx.basculeref_shorn
namespace Go.Bx.basculeref_small
open Go Go.Proofs Go.Bx
set_option maxRecDepth 100000
set_option linter.unusedVariables false
def Js : List Nat := []
def C : Ctx := ⟨[(4, .bool), (54, (.int .u64)), (114, (.sl (.int .u64)))], [], [], fnL [(67, Go.Bx.basculeref_shorn.F)], noSh, [], invL [], [(2, [2, 3])], [], [], 0, 0⟩
def St0 (x0 : List Int) : St := stL 15 [(0, .data (.sl (.int .u64)) x0)] []
def St1 (x2 : Int) (x3 : Bool) : St := stL 15 [(2, .data (.int .u64) x2), (3, .data .bool x3)] []
def top {α : Type} (Rt : Int → Bool → Option α) (x0 : List Int) : Option α :=
  (Go.Bx.basculeref_shorn.run x0).bind fun y1 =>
  if ((y1.length : Int) == 0) = true then
    Rt 0 true
  else
    if 0 ≤ (0 : Int) ∧ (0 : Int) < (y1.length : Int) then
      Rt (List.getD y1 0 0) ((y1.length : Int) == 1)
    else none
theorem top_eq {α : Type} (k : Nat) (Q : Ex → St → Option α) (x0 : List Int) :
    (den C k) (cB Try.f70) Q (St0 x0) = top (fun (x2 : Int) (x3 : Bool) => Q .ret (St1 x2 x3)) x0 := by
  have h : ∀ (D L : DT α), denJ D L Js C (cB Try.f70) Q (St0 x0) =
        (Go.Bx.basculeref_shorn.run x0).bind fun y1 =>
        if ((y1.length : Int) == 0) = true then
          Q .ret (St1 0 true)
        else
          if 0 ≤ (0 : Int) ∧ (0 : Int) < (y1.length : Int) then
            Q .ret (St1 (List.getD y1 0 0) ((y1.length : Int) == 1))
          else none := by
    intro D L; kernel_rfl
  refine (show (den C k) (cB Try.f70) Q (St0 x0) = denJ (den C k) (lp C k) Js C (cB Try.f70) Q (St0 x0) from (denJ_den _ _ _ _ _ _).symm).trans ((h (den C k) (lp C k)).trans ?_)
  first | rfl | kernel_rfl
def run (x0 : List Int) : Option (Int × Bool × Unit) := top (α := Int × Bool × Unit) (fun (x2 : Int) (x3 : Bool) => some (x2, x3, ())) x0
def F : Fn := ⟨(.pair (.sl (.int .u64)) .unit), (.pair (.int .u64) (.pair .bool .unit)), true, fun x => run x.1⟩
set_option maxRecDepth 100000 in
theorem con : Con Try.prog 70 F := by
  refine con_of_den (C := C) (ctx_ok (by kernel_rfl) (by kernel_rfl) (by kernel_rfl) (by kernel_rfl) ⟨.inl ⟨Go.Bx.basculeref_shorn.con, Go.Bx.basculeref_shorn.named⟩, trivial⟩) (by kernel_rfl) Try.func70 (c := cB Try.f70) (by kernel_rfl) (by kernel_rfl) F fuel (fun x => by simp [F, spread, Try.ntmps70]) ?_
  intro x r h
  rw [← h]
  have h1 : start F Try.f70.ntmps x = (St0 x.1) := by kernel_rfl
  rw [h1]
  refine (top_eq fuel (fin C Try.f70.results.toList F.rs F.multi) x.1).trans ?_
  kernel_rfl
theorem named : Named Try.prog 70 := named_of Try.func70 (by kernel_rfl) (by kernel_rfl)
end Go.Bx.basculeref_small
namespace Go.Bx.basculeref_divided
open Go Go.Proofs Go.Bx
set_option maxRecDepth 100000
set_option linter.unusedVariables false
def Js : List Nat := [11, 12, 15, 23, 25]
def C : Ctx := ⟨[(54, (.int .u64)), (114, (.sl (.int .u64)))], [], [], fnL [(67, Go.Bx.basculeref_shorn.F), (70, Go.Bx.basculeref_small.F), (106, Go.Bx.basculeref_compare.F), (107, Go.Bx.basculeref_times.F), (108, Go.Bx.basculeref_less.F)], noSh, [], invL [], [(2, [4, 5]), (7, [4, 5]), (10, [0, 1, 4, 5, 10]), (13, [0, 1, 4, 5, 10, 11]), (16, [0, 1, 4, 5, 10, 11, 12]), (1, [4, 8]), (4, [0, 4, 6, 8, 9]), (18, [0, 4, 6, 8, 9]), (30, [4, 8]), (33, [0, 1, 5]), (39, [0, 1, 4, 5, 10]), (42, [0, 1, 4, 5, 10]), (51, [0, 1, 4, 5, 10, 11, 12]), (66, [0, 1, 4, 5, 10, 11]), (72, [4, 5])], [(2, [.dat true 4 [], .dat true 5 []]), (39, [.dat true 5 []])], [66], 0, 0⟩
def St0 (x0 : List Int) (x1 : List Int) : St := stL 96 [(0, .data (.sl (.int .u64)) x0), (1, .data (.sl (.int .u64)) x1)] []
def St1 (x0 : List Int) (x6 : Int) (x8 : Int) (x9 : Int) (c22 : List Int) : St := stL 96 [(0, .data (.sl (.int .u64)) x0), (4, .app 22 0), (6, .data (.int .u64) x6), (8, .data (.int .u64) x8), (9, .data (.int .i64) x9)] [(22, .buf (.int .u64) c22 0 false)]
noncomputable def cd0 : Code := cL (cL (cR (cL (cR (cR (cL (cR (cR (cL (cR (cB Try.f69)))))))))))
def St2 (x8 : Int) (c22 : List Int) : St := stL 96 [(4, .app 22 0), (8, .data (.int .u64) x8)] [(22, .buf (.int .u64) c22 0 false)]
def l0s {α : Type} (Nx : (List Int) → Int → Int → Int → (List Int) → Option α) (Xt0 : Int → (List Int) → Option α) (x0 : List Int) (x6 : Int) (x8 : Int) (x9 : Int) (c22 : List Int) : Option α :=
  if (decide (x9 ≥ 0)) = true then
    if 0 ≤ x9 ∧ x9 < (x0.length : Int) then
      if x6 ≠ 0 then
        if x6 ≠ 0 then
          if 0 ≤ x9 ∧ x9 < (c22.length : Int) then
            Nx x0 x6 (Int.tmod (IntKind.u64.wrap ((IntKind.u64.wrap (x8 * 4294967296)) + (List.getD x0 (Int.toNat x9) 0))) x6) (IntKind.i64.wrap (x9 - 1)) (List.set c22 (Int.toNat x9) (IntKind.u64.wrap (Int.tdiv (IntKind.u64.wrap ((IntKind.u64.wrap (x8 * 4294967296)) + (List.getD x0 (Int.toNat x9) 0))) x6)))
          else none
        else none
      else none
    else none
  else
    Xt0 x8 c22
theorem l0s_eq {α : Type} (k : Nat) (next : St → Option α) (Q : Ex → St → Option α) (x0 : List Int) (x6 : Int) (x8 : Int) (x9 : Int) (c22 : List Int) :
    rnd C k cd0 18 Q next (St1 x0 x6 x8 x9 c22) = l0s (fun (x0 : List Int) (x6 : Int) (x8 : Int) (x9 : Int) (c22 : List Int) => next (St1 x0 x6 x8 x9 c22)) (fun (x8 : Int) (c22 : List Int) => Q (.exit 0) (St2 x8 c22)) x0 x6 x8 x9 c22 := by
  have h : ∀ (D L : DT α), denJ D L Js C cd0 (lq C 18 next Q) (St1 x0 x6 x8 x9 c22) =
        if (decide (x9 ≥ 0)) = true then
          if 0 ≤ x9 ∧ x9 < (x0.length : Int) then
            if x6 ≠ 0 then
              if x6 ≠ 0 then
                if 0 ≤ x9 ∧ x9 < (c22.length : Int) then
                  next (St1 x0 x6 (Int.tmod (IntKind.u64.wrap ((IntKind.u64.wrap (x8 * 4294967296)) + (List.getD x0 (Int.toNat x9) 0))) x6) (IntKind.i64.wrap (x9 - 1)) (List.set c22 (Int.toNat x9) (IntKind.u64.wrap (Int.tdiv (IntKind.u64.wrap ((IntKind.u64.wrap (x8 * 4294967296)) + (List.getD x0 (Int.toNat x9) 0))) x6))))
                else none
              else none
            else none
          else none
        else
          Q (.exit 0) (St2 x8 c22) := by
    intro D L; kernel_rfl
  refine (show rnd C k cd0 18 Q next (St1 x0 x6 x8 x9 c22) = denJ (den C k) (lp C k) Js C cd0 (lq C 18 next Q) (St1 x0 x6 x8 x9 c22) from (denJ_den _ _ _ _ _ _).symm).trans ((h (den C k) (lp C k)).trans ?_)
  first | rfl | kernel_rfl
def l0 {α : Type} (k : Nat) (Xt0 : Int → (List Int) → Option α) : Nat → (List Int) → Int → Int → Int → (List Int) → Option α
  | 0, _, _, _, _, _ => none
  | n + 1, x0, x6, x8, x9, c22 => l0s (l0 k Xt0 n) Xt0 x0 x6 x8 x9 c22
theorem l0_eq {α : Type} (k : Nat) (Q : Ex → St → Option α) : ∀ (n : Nat) (x0 : List Int) (x6 : Int) (x8 : Int) (x9 : Int) (c22 : List Int), iter (rnd C k cd0 18 Q) n (St1 x0 x6 x8 x9 c22) = l0 k (fun (x8 : Int) (c22 : List Int) => Q (.exit 0) (St2 x8 c22)) n x0 x6 x8 x9 c22
  | 0, _, _, _, _, _ => rfl
  | n + 1, x0, x6, x8, x9, c22 => (iter_succ _ _ _).trans ((l0s_eq k (iter (rnd C k cd0 18 Q) n) Q x0 x6 x8 x9 c22).trans (congrArg (fun N => l0s N (fun (x8 : Int) (c22 : List Int) => Q (.exit 0) (St2 x8 c22)) x0 x6 x8 x9 c22) (funext fun x0 => funext fun x6 => funext fun x8 => funext fun x9 => funext fun c22 => l0_eq k Q n x0 x6 x8 x9 c22)))
theorem l0_congr {α : Type} (k : Nat) (Xt0 : Int → (List Int) → Option α) (Xt0q : Int → (List Int) → Option α) (hXt0 : ∀ (x8 : Int) (c22 : List Int), Xt0 x8 c22 = Xt0q x8 c22) (n : Nat) (x0 : List Int) (x6 : Int) (x8 : Int) (x9 : Int) (c22 : List Int) : l0 k Xt0 n x0 x6 x8 x9 c22 = l0 k Xt0q n x0 x6 x8 x9 c22 := by
  obtain rfl : Xt0 = Xt0q := by funext x8; funext c22; exact hXt0 x8 c22
  rfl
noncomputable def cd1 : Code := cR (cR (cR (cL (cR (cR (cL (cR (cB Try.f69))))))))
noncomputable def cd2 : Code := cR (cR (cB Try.f69))
def St3 (x8 : Int) (c22 : List Int) : St := stL 96 [(4, .app 22 0), (8, .data (.int .u64) x8)] [(22, .buf (.int .u64) c22 0 false)]
def St4 (x4 : List Int) (x5 : List Int) : St := stL 96 [(4, .data (.sl (.int .u64)) x4), (5, .data (.sl (.int .u64)) x5)] []
def j0 {α : Type} (Rt : (List Int) → (List Int) → Option α) (x8 : Int) (c22 : List Int) : Option α :=
  Rt c22 [x8]
theorem j0_eq {α : Type} (k : Nat) (Q : Ex → St → Option α) (x8 : Int) (c22 : List Int) :
    (den C k) cd1 (sq (den C k) (lp C k) Js C cd2 Q) (St3 x8 c22) = j0 (fun (x4 : List Int) (x5 : List Int) => Q .ret (St4 x4 x5)) x8 c22 := by
  have h : ∀ (D L : DT α), denJ D L Js C cd1 (sq D L Js C cd2 Q) (St3 x8 c22) =
        Q .ret (St4 c22 [x8]) := by
    intro D L; kernel_rfl
  refine (show (den C k) cd1 (sq (den C k) (lp C k) Js C cd2 Q) (St3 x8 c22) = denJ (den C k) (lp C k) Js C cd1 (sq (den C k) (lp C k) Js C cd2 Q) (St3 x8 c22) from (denJ_den _ _ _ _ _ _).symm).trans ((h (den C k) (lp C k)).trans ?_)
  first | rfl | kernel_rfl
theorem a0 {α : Type} (k : Nat) (Q : Ex → St → Option α) (x0 : List Int) (x6 : Int) (x8 : Int) (x9 : Int) (c22 : List Int) :
    (lp C k) cd0 (blkQ C 0 (sq (den C k) (lp C k) Js C cd1 (sq (den C k) (lp C k) Js C cd2 Q))) (St1 x0 x6 x8 x9 c22) = l0 k (fun (x8 : Int) (c22 : List Int) => j0 (fun (x4 : List Int) (x5 : List Int) => Q .ret (St4 x4 x5)) x8 c22) k x0 x6 x8 x9 c22 :=
  (show (lp C k) cd0 (blkQ C 0 (sq (den C k) (lp C k) Js C cd1 (sq (den C k) (lp C k) Js C cd2 Q))) (St1 x0 x6 x8 x9 c22) = iter (rnd C k cd0 18 (blkQ C 0 (sq (den C k) (lp C k) Js C cd1 (sq (den C k) (lp C k) Js C cd2 Q)))) k (St1 x0 x6 x8 x9 c22) by kernel_rfl).trans ((l0_eq k (blkQ C 0 (sq (den C k) (lp C k) Js C cd1 (sq (den C k) (lp C k) Js C cd2 Q))) k x0 x6 x8 x9 c22).trans (l0_congr k _ _ (fun x8 c22 => ((show (blkQ C 0 (sq (den C k) (lp C k) Js C cd1 (sq (den C k) (lp C k) Js C cd2 Q))) (.exit 0) (St2 x8 c22) = (den C k) cd1 (sq (den C k) (lp C k) Js C cd2 Q) (St3 x8 c22) by kernel_rfl).trans (by simp only [j0_eq]))) k x0 x6 x8 x9 c22))
def St5 (x0 : List Int) (x1 : List Int) : St := stL 96 [(0, .data (.sl (.int .u64)) x0), (1, .data (.sl (.int .u64)) x1), (5, .full (.int .u64) [])] []
def St6 (x0 : List Int) (x1 : List Int) (x5 : List Int) (x10 : Int) (c51 : List Int) : St := stL 96 [(0, .data (.sl (.int .u64)) x0), (1, .data (.sl (.int .u64)) x1), (4, .app 51 0), (5, .data (.sl (.int .u64)) x5), (10, .data (.int .i64) x10)] [(51, .buf (.int .u64) c51 0 false)]
noncomputable def cd3 : Code := cL (cL (cR (cL (cR (cR (cR (cB Try.f69)))))))
def St7 (x0 : List Int) (x1 : List Int) (x10 : Int) (x11 : Int) (x12 : Int) (c51 : List Int) (c66 : List Int) : St := stL 96 [(0, .data (.sl (.int .u64)) x0), (1, .data (.sl (.int .u64)) x1), (4, .app 51 0), (5, .app 66 0), (10, .data (.int .i64) x10), (11, .data (.int .u64) x11), (12, .data (.int .u64) x12)] [(51, .buf (.int .u64) c51 0 false), (66, .buf (.int .u64) c66 0 true)]
noncomputable def cd4 : Code := cL (cL (cL (cR (cR (cL (cL (cR (cL (cL (cR (cL (cR (cR (cR (cB Try.f69)))))))))))))))
def St8 (x0 : List Int) (x1 : List Int) (x10 : Int) (x11 : Int) (c51 : List Int) (c66 : List Int) : St := stL 96 [(0, .data (.sl (.int .u64)) x0), (1, .data (.sl (.int .u64)) x1), (4, .app 51 0), (5, .app 66 0), (10, .data (.int .i64) x10), (11, .data (.int .u64) x11)] [(51, .buf (.int .u64) c51 0 false), (66, .buf (.int .u64) c66 0 true)]
def l2s {α : Type} (Nx : (List Int) → (List Int) → Int → Int → Int → (List Int) → (List Int) → Option α) (Xt4 : (List Int) → (List Int) → Int → Int → (List Int) → (List Int) → Option α) (x0 : List Int) (x1 : List Int) (x10 : Int) (x11 : Int) (x12 : Int) (c51 : List Int) (c66 : List Int) : Option α :=
  if (decide ((IntKind.u64.wrap (x12 - x11)) > 1)) = true then
    (Go.Bx.basculeref_times.run x1 [(IntKind.u64.wrap (Int.tdiv (IntKind.u64.wrap (x11 + x12)) 2))]).bind fun y3 =>
    (Go.Bx.basculeref_compare.run y3 c66).bind fun y4 =>
    if (decide (y4 ≤ 0)) = true then
      Nx x0 x1 x10 (IntKind.u64.wrap (Int.tdiv (IntKind.u64.wrap (x11 + x12)) 2)) x12 c51 c66
    else
      Nx x0 x1 x10 x11 (IntKind.u64.wrap (Int.tdiv (IntKind.u64.wrap (x11 + x12)) 2)) c51 c66
  else
    Xt4 x0 x1 x10 x11 c51 c66
theorem l2s_eq {α : Type} (k : Nat) (next : St → Option α) (Q : Ex → St → Option α) (x0 : List Int) (x1 : List Int) (x10 : Int) (x11 : Int) (x12 : Int) (c51 : List Int) (c66 : List Int) :
    rnd C k cd4 51 Q next (St7 x0 x1 x10 x11 x12 c51 c66) = l2s (fun (x0 : List Int) (x1 : List Int) (x10 : Int) (x11 : Int) (x12 : Int) (c51 : List Int) (c66 : List Int) => next (St7 x0 x1 x10 x11 x12 c51 c66)) (fun (x0 : List Int) (x1 : List Int) (x10 : Int) (x11 : Int) (c51 : List Int) (c66 : List Int) => Q (.exit 4) (St8 x0 x1 x10 x11 c51 c66)) x0 x1 x10 x11 x12 c51 c66 := by
  have h : ∀ (D L : DT α), denJ D L Js C cd4 (lq C 51 next Q) (St7 x0 x1 x10 x11 x12 c51 c66) =
        if (decide ((IntKind.u64.wrap (x12 - x11)) > 1)) = true then
          (Go.Bx.basculeref_times.run x1 [(IntKind.u64.wrap (Int.tdiv (IntKind.u64.wrap (x11 + x12)) 2))]).bind fun y3 =>
          (Go.Bx.basculeref_compare.run y3 c66).bind fun y4 =>
          if (decide (y4 ≤ 0)) = true then
            next (St7 x0 x1 x10 (IntKind.u64.wrap (Int.tdiv (IntKind.u64.wrap (x11 + x12)) 2)) x12 c51 c66)
          else
            next (St7 x0 x1 x10 x11 (IntKind.u64.wrap (Int.tdiv (IntKind.u64.wrap (x11 + x12)) 2)) c51 c66)
        else
          Q (.exit 4) (St8 x0 x1 x10 x11 c51 c66) := by
    intro D L; kernel_rfl
  refine (show rnd C k cd4 51 Q next (St7 x0 x1 x10 x11 x12 c51 c66) = denJ (den C k) (lp C k) Js C cd4 (lq C 51 next Q) (St7 x0 x1 x10 x11 x12 c51 c66) from (denJ_den _ _ _ _ _ _).symm).trans ((h (den C k) (lp C k)).trans ?_)
  first | rfl | kernel_rfl
def l2 {α : Type} (k : Nat) (Xt4 : (List Int) → (List Int) → Int → Int → (List Int) → (List Int) → Option α) : Nat → (List Int) → (List Int) → Int → Int → Int → (List Int) → (List Int) → Option α
  | 0, _, _, _, _, _, _, _ => none
  | n + 1, x0, x1, x10, x11, x12, c51, c66 => l2s (l2 k Xt4 n) Xt4 x0 x1 x10 x11 x12 c51 c66
theorem l2_eq {α : Type} (k : Nat) (Q : Ex → St → Option α) : ∀ (n : Nat) (x0 : List Int) (x1 : List Int) (x10 : Int) (x11 : Int) (x12 : Int) (c51 : List Int) (c66 : List Int), iter (rnd C k cd4 51 Q) n (St7 x0 x1 x10 x11 x12 c51 c66) = l2 k (fun (x0 : List Int) (x1 : List Int) (x10 : Int) (x11 : Int) (c51 : List Int) (c66 : List Int) => Q (.exit 4) (St8 x0 x1 x10 x11 c51 c66)) n x0 x1 x10 x11 x12 c51 c66
  | 0, _, _, _, _, _, _, _ => rfl
  | n + 1, x0, x1, x10, x11, x12, c51, c66 => (iter_succ _ _ _).trans ((l2s_eq k (iter (rnd C k cd4 51 Q) n) Q x0 x1 x10 x11 x12 c51 c66).trans (congrArg (fun N => l2s N (fun (x0 : List Int) (x1 : List Int) (x10 : Int) (x11 : Int) (c51 : List Int) (c66 : List Int) => Q (.exit 4) (St8 x0 x1 x10 x11 c51 c66)) x0 x1 x10 x11 x12 c51 c66) (funext fun x0 => funext fun x1 => funext fun x10 => funext fun x11 => funext fun x12 => funext fun c51 => funext fun c66 => l2_eq k Q n x0 x1 x10 x11 x12 c51 c66)))
theorem l2_congr {α : Type} (k : Nat) (Xt4 : (List Int) → (List Int) → Int → Int → (List Int) → (List Int) → Option α) (Xt4q : (List Int) → (List Int) → Int → Int → (List Int) → (List Int) → Option α) (hXt4 : ∀ (x0 : List Int) (x1 : List Int) (x10 : Int) (x11 : Int) (c51 : List Int) (c66 : List Int), Xt4 x0 x1 x10 x11 c51 c66 = Xt4q x0 x1 x10 x11 c51 c66) (n : Nat) (x0 : List Int) (x1 : List Int) (x10 : Int) (x11 : Int) (x12 : Int) (c51 : List Int) (c66 : List Int) : l2 k Xt4 n x0 x1 x10 x11 x12 c51 c66 = l2 k Xt4q n x0 x1 x10 x11 x12 c51 c66 := by
  obtain rfl : Xt4 = Xt4q := by funext x0; funext x1; funext x10; funext x11; funext c51; funext c66; exact hXt4 x0 x1 x10 x11 c51 c66
  rfl
noncomputable def cd5 : Code := cR (cR (cR (cL (cL (cR (cL (cL (cR (cL (cR (cR (cR (cB Try.f69)))))))))))))
noncomputable def cd6 : Code := cR (cR (cL (cL (cR (cL (cR (cR (cR (cB Try.f69)))))))))
def St9 (x0 : List Int) (x1 : List Int) (x10 : Int) (x11 : Int) (c51 : List Int) (c66 : List Int) : St := stL 96 [(0, .data (.sl (.int .u64)) x0), (1, .data (.sl (.int .u64)) x1), (4, .app 51 0), (5, .app 66 0), (10, .data (.int .i64) x10), (11, .data (.int .u64) x11)] [(51, .buf (.int .u64) c51 0 false), (66, .buf (.int .u64) c66 0 true)]
def St10 (x0 : List Int) (x1 : List Int) (x5 : List Int) (x10 : Int) (c51 : List Int) : St := stL 96 [(0, .data (.sl (.int .u64)) x0), (1, .data (.sl (.int .u64)) x1), (4, .app 51 0), (5, .data (.sl (.int .u64)) x5), (10, .data (.int .i64) x10)] [(51, .buf (.int .u64) c51 0 false)]
def j3 {α : Type} (Nx : (List Int) → (List Int) → (List Int) → Int → (List Int) → Option α) (x0 : List Int) (x1 : List Int) (x5 : List Int) (x10 : Int) (c51 : List Int) : Option α :=
  Nx x0 x1 x5 (IntKind.i64.wrap (x10 - 1)) c51
theorem j3_eq {α : Type} (k : Nat) (next : St → Option α) (Q : Ex → St → Option α) (x0 : List Int) (x1 : List Int) (x5 : List Int) (x10 : Int) (c51 : List Int) :
    (den C k) cd6 (lq C 39 next Q) (St10 x0 x1 x5 x10 c51) = j3 (fun (x0 : List Int) (x1 : List Int) (x5 : List Int) (x10 : Int) (c51 : List Int) => next (St6 x0 x1 x5 x10 c51)) x0 x1 x5 x10 c51 := by
  have h : ∀ (D L : DT α), denJ D L Js C cd6 (lq C 39 next Q) (St10 x0 x1 x5 x10 c51) =
        next (St6 x0 x1 x5 (IntKind.i64.wrap (x10 - 1)) c51) := by
    intro D L; kernel_rfl
  refine (show (den C k) cd6 (lq C 39 next Q) (St10 x0 x1 x5 x10 c51) = denJ (den C k) (lp C k) Js C cd6 (lq C 39 next Q) (St10 x0 x1 x5 x10 c51) from (denJ_den _ _ _ _ _ _).symm).trans ((h (den C k) (lp C k)).trans ?_)
  first | rfl | kernel_rfl
def j2 {α : Type} (Nx : (List Int) → (List Int) → (List Int) → Int → (List Int) → Option α) (x0 : List Int) (x1 : List Int) (x10 : Int) (x11 : Int) (c51 : List Int) (c66 : List Int) : Option α :=
  if 0 ≤ x10 ∧ x10 < (c51.length : Int) then
    (Go.Bx.basculeref_times.run x1 [x11]).bind fun y5 =>
    (Go.Bx.basculeref_less.run c66 y5).bind fun y6 =>
    j3 Nx x0 x1 y6 x10 (List.set c51 (Int.toNat x10) x11)
  else none
theorem j2_eq {α : Type} (k : Nat) (next : St → Option α) (Q : Ex → St → Option α) (x0 : List Int) (x1 : List Int) (x10 : Int) (x11 : Int) (c51 : List Int) (c66 : List Int) :
    (den C k) cd5 (blkQ C 3 (sq (den C k) (lp C k) Js C cd6 (lq C 39 next Q))) (St9 x0 x1 x10 x11 c51 c66) = j2 (fun (x0 : List Int) (x1 : List Int) (x5 : List Int) (x10 : Int) (c51 : List Int) => next (St6 x0 x1 x5 x10 c51)) x0 x1 x10 x11 c51 c66 := by
  have h : ∀ (D L : DT α), denJ D L Js C cd5 (blkQ C 3 (sq D L Js C cd6 (lq C 39 next Q))) (St9 x0 x1 x10 x11 c51 c66) =
        if 0 ≤ x10 ∧ x10 < (c51.length : Int) then
          (Go.Bx.basculeref_times.run x1 [x11]).bind fun y5 =>
          (Go.Bx.basculeref_less.run c66 y5).bind fun y6 =>
          D cd6 (lq C 39 next Q) (St10 x0 x1 y6 x10 (List.set c51 (Int.toNat x10) x11))
        else none := by
    intro D L; kernel_rfl
  refine (show (den C k) cd5 (blkQ C 3 (sq (den C k) (lp C k) Js C cd6 (lq C 39 next Q))) (St9 x0 x1 x10 x11 c51 c66) = denJ (den C k) (lp C k) Js C cd5 (blkQ C 3 (sq (den C k) (lp C k) Js C cd6 (lq C 39 next Q))) (St9 x0 x1 x10 x11 c51 c66) from (denJ_den _ _ _ _ _ _).symm).trans ((h (den C k) (lp C k)).trans ?_)
  simp only [j3_eq]
  first | rfl | kernel_rfl
theorem a1 {α : Type} (k : Nat) (next : St → Option α) (Q : Ex → St → Option α) (x0 : List Int) (x1 : List Int) (x10 : Int) (x11 : Int) (x12 : Int) (c51 : List Int) (c66 : List Int) :
    (lp C k) cd4 (blkQ C 4 (sq (den C k) (lp C k) Js C cd5 (blkQ C 3 (sq (den C k) (lp C k) Js C cd6 (lq C 39 next Q))))) (St7 x0 x1 x10 x11 x12 c51 c66) = l2 k (fun (x0 : List Int) (x1 : List Int) (x10 : Int) (x11 : Int) (c51 : List Int) (c66 : List Int) => j2 (fun (x0 : List Int) (x1 : List Int) (x5 : List Int) (x10 : Int) (c51 : List Int) => next (St6 x0 x1 x5 x10 c51)) x0 x1 x10 x11 c51 c66) k x0 x1 x10 x11 x12 c51 c66 :=
  (show (lp C k) cd4 (blkQ C 4 (sq (den C k) (lp C k) Js C cd5 (blkQ C 3 (sq (den C k) (lp C k) Js C cd6 (lq C 39 next Q))))) (St7 x0 x1 x10 x11 x12 c51 c66) = iter (rnd C k cd4 51 (blkQ C 4 (sq (den C k) (lp C k) Js C cd5 (blkQ C 3 (sq (den C k) (lp C k) Js C cd6 (lq C 39 next Q)))))) k (St7 x0 x1 x10 x11 x12 c51 c66) by kernel_rfl).trans ((l2_eq k (blkQ C 4 (sq (den C k) (lp C k) Js C cd5 (blkQ C 3 (sq (den C k) (lp C k) Js C cd6 (lq C 39 next Q))))) k x0 x1 x10 x11 x12 c51 c66).trans (l2_congr k _ _ (fun x0 x1 x10 x11 c51 c66 => ((show (blkQ C 4 (sq (den C k) (lp C k) Js C cd5 (blkQ C 3 (sq (den C k) (lp C k) Js C cd6 (lq C 39 next Q))))) (.exit 4) (St8 x0 x1 x10 x11 c51 c66) = (den C k) cd5 (blkQ C 3 (sq (den C k) (lp C k) Js C cd6 (lq C 39 next Q))) (St9 x0 x1 x10 x11 c51 c66) by kernel_rfl).trans (by simp only [j2_eq]))) k x0 x1 x10 x11 x12 c51 c66))
def St11 (x5 : List Int) (c51 : List Int) : St := stL 96 [(4, .app 51 0), (5, .data (.sl (.int .u64)) x5)] [(51, .buf (.int .u64) c51 0 false)]
def l1s {α : Type} (k : Nat) (Nx : (List Int) → (List Int) → (List Int) → Int → (List Int) → Option α) (Xt2 : (List Int) → (List Int) → Option α) (x0 : List Int) (x1 : List Int) (x5 : List Int) (x10 : Int) (c51 : List Int) : Option α :=
  if (decide (x10 ≥ 0)) = true then
    if 0 ≤ x10 ∧ x10 < (x0.length : Int) then
      (Go.Bx.basculeref_shorn.run x5).bind fun y2 =>
      if fitB (1 + y2.length) 8 = true then
        l2 k (fun (x0 : List Int) (x1 : List Int) (x10 : Int) (x11 : Int) (c51 : List Int) (c66 : List Int) => j2 Nx x0 x1 x10 x11 c51 c66) k x0 x1 x10 0 4294967296 c51 ([(List.getD x0 (Int.toNat x10) 0)] ++ y2)
      else none
    else none
  else
    Xt2 x5 c51
theorem l1s_eq {α : Type} (k : Nat) (next : St → Option α) (Q : Ex → St → Option α) (x0 : List Int) (x1 : List Int) (x5 : List Int) (x10 : Int) (c51 : List Int) :
    rnd C k cd3 39 Q next (St6 x0 x1 x5 x10 c51) = l1s k (fun (x0 : List Int) (x1 : List Int) (x5 : List Int) (x10 : Int) (c51 : List Int) => next (St6 x0 x1 x5 x10 c51)) (fun (x5 : List Int) (c51 : List Int) => Q (.exit 2) (St11 x5 c51)) x0 x1 x5 x10 c51 := by
  have h : ∀ (D L : DT α), denJ D L Js C cd3 (lq C 39 next Q) (St6 x0 x1 x5 x10 c51) =
        if (decide (x10 ≥ 0)) = true then
          if 0 ≤ x10 ∧ x10 < (x0.length : Int) then
            (Go.Bx.basculeref_shorn.run x5).bind fun y2 =>
            if fitB (1 + y2.length) 8 = true then
              L cd4 (blkQ C 4 (sq D L Js C cd5 (blkQ C 3 (sq D L Js C cd6 (lq C 39 next Q))))) (St7 x0 x1 x10 0 4294967296 c51 ([(List.getD x0 (Int.toNat x10) 0)] ++ y2))
            else none
          else none
        else
          Q (.exit 2) (St11 x5 c51) := by
    intro D L; kernel_rfl
  refine (show rnd C k cd3 39 Q next (St6 x0 x1 x5 x10 c51) = denJ (den C k) (lp C k) Js C cd3 (lq C 39 next Q) (St6 x0 x1 x5 x10 c51) from (denJ_den _ _ _ _ _ _).symm).trans ((h (den C k) (lp C k)).trans ?_)
  simp only [a1]
  first | rfl | kernel_rfl
def l1 {α : Type} (k : Nat) (Xt2 : (List Int) → (List Int) → Option α) : Nat → (List Int) → (List Int) → (List Int) → Int → (List Int) → Option α
  | 0, _, _, _, _, _ => none
  | n + 1, x0, x1, x5, x10, c51 => l1s k (l1 k Xt2 n) Xt2 x0 x1 x5 x10 c51
theorem l1_eq {α : Type} (k : Nat) (Q : Ex → St → Option α) : ∀ (n : Nat) (x0 : List Int) (x1 : List Int) (x5 : List Int) (x10 : Int) (c51 : List Int), iter (rnd C k cd3 39 Q) n (St6 x0 x1 x5 x10 c51) = l1 k (fun (x5 : List Int) (c51 : List Int) => Q (.exit 2) (St11 x5 c51)) n x0 x1 x5 x10 c51
  | 0, _, _, _, _, _ => rfl
  | n + 1, x0, x1, x5, x10, c51 => (iter_succ _ _ _).trans ((l1s_eq k (iter (rnd C k cd3 39 Q) n) Q x0 x1 x5 x10 c51).trans (congrArg (fun N => l1s k N (fun (x5 : List Int) (c51 : List Int) => Q (.exit 2) (St11 x5 c51)) x0 x1 x5 x10 c51) (funext fun x0 => funext fun x1 => funext fun x5 => funext fun x10 => funext fun c51 => l1_eq k Q n x0 x1 x5 x10 c51)))
theorem l1_congr {α : Type} (k : Nat) (Xt2 : (List Int) → (List Int) → Option α) (Xt2q : (List Int) → (List Int) → Option α) (hXt2 : ∀ (x5 : List Int) (c51 : List Int), Xt2 x5 c51 = Xt2q x5 c51) (n : Nat) (x0 : List Int) (x1 : List Int) (x5 : List Int) (x10 : Int) (c51 : List Int) : l1 k Xt2 n x0 x1 x5 x10 c51 = l1 k Xt2q n x0 x1 x5 x10 c51 := by
  obtain rfl : Xt2 = Xt2q := by funext x5; funext c51; exact hXt2 x5 c51
  rfl
noncomputable def cd7 : Code := cR (cR (cR (cR (cB Try.f69))))
def St12 (x5 : List Int) (c51 : List Int) : St := stL 96 [(4, .app 51 0), (5, .data (.sl (.int .u64)) x5)] [(51, .buf (.int .u64) c51 0 false)]
def j4 {α : Type} (Rt : (List Int) → (List Int) → Option α) (x5 : List Int) (c51 : List Int) : Option α :=
  Rt c51 x5
theorem j4_eq {α : Type} (k : Nat) (Q : Ex → St → Option α) (x5 : List Int) (c51 : List Int) :
    (den C k) cd7 Q (St12 x5 c51) = j4 (fun (x4 : List Int) (x5 : List Int) => Q .ret (St4 x4 x5)) x5 c51 := by
  have h : ∀ (D L : DT α), denJ D L Js C cd7 Q (St12 x5 c51) =
        Q .ret (St4 c51 x5) := by
    intro D L; kernel_rfl
  refine (show (den C k) cd7 Q (St12 x5 c51) = denJ (den C k) (lp C k) Js C cd7 Q (St12 x5 c51) from (denJ_den _ _ _ _ _ _).symm).trans ((h (den C k) (lp C k)).trans ?_)
  first | rfl | kernel_rfl
theorem a2 {α : Type} (k : Nat) (Q : Ex → St → Option α) (x0 : List Int) (x1 : List Int) (x5 : List Int) (x10 : Int) (c51 : List Int) :
    (lp C k) cd3 (blkQ C 2 (sq (den C k) (lp C k) Js C cd7 Q)) (St6 x0 x1 x5 x10 c51) = l1 k (fun (x5 : List Int) (c51 : List Int) => j4 (fun (x4 : List Int) (x5 : List Int) => Q .ret (St4 x4 x5)) x5 c51) k x0 x1 x5 x10 c51 :=
  (show (lp C k) cd3 (blkQ C 2 (sq (den C k) (lp C k) Js C cd7 Q)) (St6 x0 x1 x5 x10 c51) = iter (rnd C k cd3 39 (blkQ C 2 (sq (den C k) (lp C k) Js C cd7 Q))) k (St6 x0 x1 x5 x10 c51) by kernel_rfl).trans ((l1_eq k (blkQ C 2 (sq (den C k) (lp C k) Js C cd7 Q)) k x0 x1 x5 x10 c51).trans (l1_congr k _ _ (fun x5 c51 => ((show (blkQ C 2 (sq (den C k) (lp C k) Js C cd7 Q)) (.exit 2) (St11 x5 c51) = (den C k) cd7 Q (St12 x5 c51) by kernel_rfl).trans (by simp only [j4_eq]))) k x0 x1 x5 x10 c51))
def j1 {α : Type} (k : Nat) (Rt : (List Int) → (List Int) → Option α) (x0 : List Int) (x1 : List Int) : Option α :=
  if 0 ≤ (x0.length : Int) ∧ id (x0.length : Int) = (x0.length : Int) ∧ fitB (x0.length : Int).toNat 8 = true then
    l1 k (fun (x5 : List Int) (c51 : List Int) => j4 Rt x5 c51) k x0 x1 [] (IntKind.i64.wrap ((x0.length : Int) - 1)) (List.replicate (Int.toNat (x0.length : Int)) 0)
  else none
theorem j1_eq {α : Type} (k : Nat) (Q : Ex → St → Option α) (x0 : List Int) (x1 : List Int) :
    (den C k) cd2 Q (St5 x0 x1) = j1 k (fun (x4 : List Int) (x5 : List Int) => Q .ret (St4 x4 x5)) x0 x1 := by
  have h : ∀ (D L : DT α), denJ D L Js C cd2 Q (St5 x0 x1) =
        if 0 ≤ (x0.length : Int) ∧ id (x0.length : Int) = (x0.length : Int) ∧ fitB (x0.length : Int).toNat 8 = true then
          L cd3 (blkQ C 2 (sq D L Js C cd7 Q)) (St6 x0 x1 [] (IntKind.i64.wrap ((x0.length : Int) - 1)) (List.replicate (Int.toNat (x0.length : Int)) 0))
        else none := by
    intro D L; kernel_rfl
  refine (show (den C k) cd2 Q (St5 x0 x1) = denJ (den C k) (lp C k) Js C cd2 Q (St5 x0 x1) from (denJ_den _ _ _ _ _ _).symm).trans ((h (den C k) (lp C k)).trans ?_)
  simp only [a2]
  first | rfl | kernel_rfl
def top {α : Type} (k : Nat) (Rt : (List Int) → (List Int) → Option α) (x0 : List Int) (x1 : List Int) : Option α :=
  (Go.Bx.basculeref_small.run x1).bind fun y1 =>
  if y1.2.1 = true then
    if 0 ≤ (x0.length : Int) ∧ id (x0.length : Int) = (x0.length : Int) ∧ fitB (x0.length : Int).toNat 8 = true then
      l0 k (fun (x8 : Int) (c22 : List Int) => j0 Rt x8 c22) k x0 y1.1 0 (IntKind.i64.wrap ((x0.length : Int) - 1)) (List.replicate (Int.toNat (x0.length : Int)) 0)
    else none
  else
    j1 k Rt x0 x1
theorem top_eq {α : Type} (k : Nat) (Q : Ex → St → Option α) (x0 : List Int) (x1 : List Int) :
    (den C k) (cB Try.f69) Q (St0 x0 x1) = top k (fun (x4 : List Int) (x5 : List Int) => Q .ret (St4 x4 x5)) x0 x1 := by
  have h : ∀ (D L : DT α), denJ D L Js C (cB Try.f69) Q (St0 x0 x1) =
        (Go.Bx.basculeref_small.run x1).bind fun y1 =>
        if y1.2.1 = true then
          if 0 ≤ (x0.length : Int) ∧ id (x0.length : Int) = (x0.length : Int) ∧ fitB (x0.length : Int).toNat 8 = true then
            L cd0 (blkQ C 0 (sq D L Js C cd1 (sq D L Js C cd2 Q))) (St1 x0 y1.1 0 (IntKind.i64.wrap ((x0.length : Int) - 1)) (List.replicate (Int.toNat (x0.length : Int)) 0))
          else none
        else
          D cd2 Q (St5 x0 x1) := by
    intro D L; kernel_rfl
  refine (show (den C k) (cB Try.f69) Q (St0 x0 x1) = denJ (den C k) (lp C k) Js C (cB Try.f69) Q (St0 x0 x1) from (denJ_den _ _ _ _ _ _).symm).trans ((h (den C k) (lp C k)).trans ?_)
  simp only [a0, j1_eq]
  first | rfl | kernel_rfl
def run (x0 : List Int) (x1 : List Int) : Option (List Int × List Int × Unit) := top (α := List Int × List Int × Unit) fuel (fun (x4 : List Int) (x5 : List Int) => some (x4, x5, ())) x0 x1
def F : Fn := ⟨(.pair (.sl (.int .u64)) (.pair (.sl (.int .u64)) .unit)), (.pair (.sl (.int .u64)) (.pair (.sl (.int .u64)) .unit)), true, fun x => run x.1 x.2.1⟩
set_option maxRecDepth 100000 in
theorem con : Con Try.prog 69 F := by
  refine con_of_den (C := C) (ctx_ok (by kernel_rfl) (by kernel_rfl) (by kernel_rfl) (by kernel_rfl) ⟨.inl ⟨Go.Bx.basculeref_shorn.con, Go.Bx.basculeref_shorn.named⟩, ⟨.inl ⟨Go.Bx.basculeref_small.con, Go.Bx.basculeref_small.named⟩, ⟨.inl ⟨Go.Bx.basculeref_compare.con, Go.Bx.basculeref_compare.named⟩, ⟨.inl ⟨Go.Bx.basculeref_times.con, Go.Bx.basculeref_times.named⟩, ⟨.inl ⟨Go.Bx.basculeref_less.con, Go.Bx.basculeref_less.named⟩, trivial⟩⟩⟩⟩⟩) (by kernel_rfl) Try.func69 (c := cB Try.f69) (by kernel_rfl) (by kernel_rfl) F fuel (fun x => by simp [F, spread, Try.ntmps69]) ?_
  intro x r h
  rw [← h]
  have h1 : start F Try.f69.ntmps x = (St0 x.1 x.2.1) := by kernel_rfl
  rw [h1]
  refine (top_eq fuel (fin C Try.f69.results.toList F.rs F.multi) x.1 x.2.1).trans ?_
  kernel_rfl
theorem named : Named Try.prog 69 := named_of Try.func69 (by kernel_rfl) (by kernel_rfl)
end Go.Bx.basculeref_divided
namespace Go.Bx.wide_Show
open Go Go.Proofs Go.Bx
set_option maxRecDepth 100000
set_option linter.unusedVariables false
def Js : List Nat := [9, 14, 20]
def C : Ctx := ⟨[(5, (.int .u8)), (9, .str), (54, (.int .u64)), (56, (.arr 4 (.int .u64))), (59, (.sl (.int .u8)))], [], [], fnL [(66, Go.Bx.math_bits_Div64.F)], noSh, [], invL [], [(2, [2]), (19, [3]), (22, [3, 7, 8]), (1, [3]), (4, [1, 3]), (13, [1, 3]), (16, [1, 3, 4, 6]), (7, [1, 3, 4]), (10, [1, 3, 4, 5]), (6, [1, 3]), (15, [1, 3, 4, 5]), (24, [1, 3, 4]), (27, [1, 3, 4, 6]), (39, [3]), (48, [3, 7, 8]), (57, [3])], [(6, [.melt true 3 [] 45 false]), (27, [.melt true 3 [] 45 false])], [], 0, 0⟩
def St0 (x0 : List Int) : St := stL 77 [(0, .data (.arr 4 (.int .u64)) x0)] []
def St1 (c1 : List Int) (c45 : List Int) : St := stL 77 [(1, .ref 1 0 []), (3, .app 45 0)] [(1, .cell (.arr 4 (.int .u64)) (.data (.arr 4 (.int .u64)) c1) false), (45, .buf (.int .u8) c45 0 false)]
noncomputable def cd0 : Code := cL (cL (cL (cR (cR (cB Try.f36)))))
def St2 (x4 : Int) (x5 : Int) (c1 : List Int) (c45 : List Int) : St := stL 77 [(1, .ref 1 0 []), (3, .app 45 0), (4, .data (.int .u64) x4), (5, .data (.int .i64) x5)] [(1, .cell (.arr 4 (.int .u64)) (.data (.arr 4 (.int .u64)) c1) false), (45, .buf (.int .u8) c45 0 false)]
noncomputable def cd1 : Code := cL (cL (cR (cL (cR (cL (cR (cL (cL (cL (cR (cR (cB Try.f36))))))))))))
def St3 (x4 : Int) (c1 : List Int) (c45 : List Int) : St := stL 77 [(1, .ref 1 0 []), (3, .app 45 0), (4, .data (.int .u64) x4)] [(1, .cell (.arr 4 (.int .u64)) (.data (.arr 4 (.int .u64)) c1) false), (45, .buf (.int .u8) c45 0 false)]
def l1s {α : Type} (Nx : Int → Int → (List Int) → (List Int) → Option α) (Xt2 : Int → (List Int) → (List Int) → Option α) (x4 : Int) (x5 : Int) (c1 : List Int) (c45 : List Int) : Option α :=
  if (decide (x5 ≥ 0)) = true then
    if 0 ≤ x5 ∧ x5 < (4 : Int) then
      (Go.Bx.math_bits_Div64.run x4 (List.getD c1 (Int.toNat x5) 0) 10000000000000000000).bind fun y1 =>
      if 0 ≤ x5 ∧ x5 < (4 : Int) then
        Nx y1.2.1 (IntKind.i64.wrap (x5 - 1)) (List.set c1 (Int.toNat x5) y1.1) c45
      else none
    else none
  else
    Xt2 x4 c1 c45
theorem l1s_eq {α : Type} (k : Nat) (next : St → Option α) (Q : Ex → St → Option α) (x4 : Int) (x5 : Int) (c1 : List Int) (c45 : List Int) :
    rnd C k cd1 15 Q next (St2 x4 x5 c1 c45) = l1s (fun (x4 : Int) (x5 : Int) (c1 : List Int) (c45 : List Int) => next (St2 x4 x5 c1 c45)) (fun (x4 : Int) (c1 : List Int) (c45 : List Int) => Q (.exit 2) (St3 x4 c1 c45)) x4 x5 c1 c45 := by
  have h : ∀ (D L : DT α), denJ D L Js C cd1 (lq C 15 next Q) (St2 x4 x5 c1 c45) =
        if (decide (x5 ≥ 0)) = true then
          if 0 ≤ x5 ∧ x5 < (4 : Int) then
            (Go.Bx.math_bits_Div64.run x4 (List.getD c1 (Int.toNat x5) 0) 10000000000000000000).bind fun y1 =>
            if 0 ≤ x5 ∧ x5 < (4 : Int) then
              next (St2 y1.2.1 (IntKind.i64.wrap (x5 - 1)) (List.set c1 (Int.toNat x5) y1.1) c45)
            else none
          else none
        else
          Q (.exit 2) (St3 x4 c1 c45) := by
    intro D L; kernel_rfl
  refine (show rnd C k cd1 15 Q next (St2 x4 x5 c1 c45) = denJ (den C k) (lp C k) Js C cd1 (lq C 15 next Q) (St2 x4 x5 c1 c45) from (denJ_den _ _ _ _ _ _).symm).trans ((h (den C k) (lp C k)).trans ?_)
  first | rfl | kernel_rfl
def l1 {α : Type} (k : Nat) (Xt2 : Int → (List Int) → (List Int) → Option α) : Nat → Int → Int → (List Int) → (List Int) → Option α
  | 0, _, _, _, _ => none
  | n + 1, x4, x5, c1, c45 => l1s (l1 k Xt2 n) Xt2 x4 x5 c1 c45
theorem l1_eq {α : Type} (k : Nat) (Q : Ex → St → Option α) : ∀ (n : Nat) (x4 : Int) (x5 : Int) (c1 : List Int) (c45 : List Int), iter (rnd C k cd1 15 Q) n (St2 x4 x5 c1 c45) = l1 k (fun (x4 : Int) (c1 : List Int) (c45 : List Int) => Q (.exit 2) (St3 x4 c1 c45)) n x4 x5 c1 c45
  | 0, _, _, _, _ => rfl
  | n + 1, x4, x5, c1, c45 => (iter_succ _ _ _).trans ((l1s_eq k (iter (rnd C k cd1 15 Q) n) Q x4 x5 c1 c45).trans (congrArg (fun N => l1s N (fun (x4 : Int) (c1 : List Int) (c45 : List Int) => Q (.exit 2) (St3 x4 c1 c45)) x4 x5 c1 c45) (funext fun x4 => funext fun x5 => funext fun c1 => funext fun c45 => l1_eq k Q n x4 x5 c1 c45)))
theorem l1_congr {α : Type} (k : Nat) (Xt2 : Int → (List Int) → (List Int) → Option α) (Xt2q : Int → (List Int) → (List Int) → Option α) (hXt2 : ∀ (x4 : Int) (c1 : List Int) (c45 : List Int), Xt2 x4 c1 c45 = Xt2q x4 c1 c45) (n : Nat) (x4 : Int) (x5 : Int) (c1 : List Int) (c45 : List Int) : l1 k Xt2 n x4 x5 c1 c45 = l1 k Xt2q n x4 x5 c1 c45 := by
  obtain rfl : Xt2 = Xt2q := by funext x4; funext c1; funext c45; exact hXt2 x4 c1 c45
  rfl
noncomputable def cd2 : Code := cR (cR (cL (cR (cL (cL (cL (cR (cR (cB Try.f36)))))))))
def St4 (x4 : Int) (c1 : List Int) (c45 : List Int) : St := stL 77 [(1, .ref 1 0 []), (3, .app 45 0), (4, .data (.int .u64) x4)] [(1, .cell (.arr 4 (.int .u64)) (.data (.arr 4 (.int .u64)) c1) false), (45, .buf (.int .u8) c45 0 false)]
def St5 (x4 : Int) (x6 : Int) (c1 : List Int) (c45 : List Int) : St := stL 77 [(1, .ref 1 0 []), (3, .app 45 0), (4, .data (.int .u64) x4), (6, .data (.int .i64) x6)] [(1, .cell (.arr 4 (.int .u64)) (.data (.arr 4 (.int .u64)) c1) false), (45, .buf (.int .u8) c45 0 false)]
noncomputable def cd3 : Code := cL (cL (cR (cR (cR (cL (cR (cL (cL (cL (cR (cR (cB Try.f36))))))))))))
def St6 (c1 : List Int) (c45 : List Int) : St := stL 77 [(1, .ref 1 0 []), (3, .app 45 0)] [(1, .cell (.arr 4 (.int .u64)) (.data (.arr 4 (.int .u64)) c1) false), (45, .buf (.int .u8) c45 0 false)]
def l2s {α : Type} (Nx : Int → Int → (List Int) → (List Int) → Option α) (Xt4 : (List Int) → (List Int) → Option α) (x4 : Int) (x6 : Int) (c1 : List Int) (c45 : List Int) : Option α :=
  if (cond (decide (x6 < 19)) (cond (decide (x4 > 0)) true (not (beqD (.arr 4 (.int .u64)) c1 [0, 0, 0, 0]))) false) = true then
    if fitB (c45.length + 1) 1 = true then
      Nx (IntKind.u64.wrap (Int.tdiv x4 10)) (IntKind.i64.wrap (x6 + 1)) c1 (c45 ++ [(IntKind.u8.wrap (IntKind.u64.wrap (48 + (Int.tmod x4 10))))])
    else none
  else
    Xt4 c1 c45
theorem l2s_eq {α : Type} (k : Nat) (next : St → Option α) (Q : Ex → St → Option α) (x4 : Int) (x6 : Int) (c1 : List Int) (c45 : List Int) :
    rnd C k cd3 27 Q next (St5 x4 x6 c1 c45) = l2s (fun (x4 : Int) (x6 : Int) (c1 : List Int) (c45 : List Int) => next (St5 x4 x6 c1 c45)) (fun (c1 : List Int) (c45 : List Int) => Q (.exit 4) (St6 c1 c45)) x4 x6 c1 c45 := by
  have h : ∀ (D L : DT α), denJ D L Js C cd3 (lq C 27 next Q) (St5 x4 x6 c1 c45) =
        if (cond (decide (x6 < 19)) (cond (decide (x4 > 0)) true (not (beqD (.arr 4 (.int .u64)) c1 [0, 0, 0, 0]))) false) = true then
          if fitB (c45.length + 1) 1 = true then
            next (St5 (IntKind.u64.wrap (Int.tdiv x4 10)) (IntKind.i64.wrap (x6 + 1)) c1 (c45 ++ [(IntKind.u8.wrap (IntKind.u64.wrap (48 + (Int.tmod x4 10))))]))
          else none
        else
          Q (.exit 4) (St6 c1 c45) := by
    intro D L; kernel_rfl
  refine (show rnd C k cd3 27 Q next (St5 x4 x6 c1 c45) = denJ (den C k) (lp C k) Js C cd3 (lq C 27 next Q) (St5 x4 x6 c1 c45) from (denJ_den _ _ _ _ _ _).symm).trans ((h (den C k) (lp C k)).trans ?_)
  first | rfl | kernel_rfl
def l2 {α : Type} (k : Nat) (Xt4 : (List Int) → (List Int) → Option α) : Nat → Int → Int → (List Int) → (List Int) → Option α
  | 0, _, _, _, _ => none
  | n + 1, x4, x6, c1, c45 => l2s (l2 k Xt4 n) Xt4 x4 x6 c1 c45
theorem l2_eq {α : Type} (k : Nat) (Q : Ex → St → Option α) : ∀ (n : Nat) (x4 : Int) (x6 : Int) (c1 : List Int) (c45 : List Int), iter (rnd C k cd3 27 Q) n (St5 x4 x6 c1 c45) = l2 k (fun (c1 : List Int) (c45 : List Int) => Q (.exit 4) (St6 c1 c45)) n x4 x6 c1 c45
  | 0, _, _, _, _ => rfl
  | n + 1, x4, x6, c1, c45 => (iter_succ _ _ _).trans ((l2s_eq k (iter (rnd C k cd3 27 Q) n) Q x4 x6 c1 c45).trans (congrArg (fun N => l2s N (fun (c1 : List Int) (c45 : List Int) => Q (.exit 4) (St6 c1 c45)) x4 x6 c1 c45) (funext fun x4 => funext fun x6 => funext fun c1 => funext fun c45 => l2_eq k Q n x4 x6 c1 c45)))
theorem l2_congr {α : Type} (k : Nat) (Xt4 : (List Int) → (List Int) → Option α) (Xt4q : (List Int) → (List Int) → Option α) (hXt4 : ∀ (c1 : List Int) (c45 : List Int), Xt4 c1 c45 = Xt4q c1 c45) (n : Nat) (x4 : Int) (x6 : Int) (c1 : List Int) (c45 : List Int) : l2 k Xt4 n x4 x6 c1 c45 = l2 k Xt4q n x4 x6 c1 c45 := by
  obtain rfl : Xt4 = Xt4q := by funext c1; funext c45; exact hXt4 c1 c45
  rfl
theorem a0 {α : Type} (k : Nat) (next : St → Option α) (Q : Ex → St → Option α) (x4 : Int) (x6 : Int) (c1 : List Int) (c45 : List Int) :
    (lp C k) cd3 (blkQ C 4 (blkQ C 1 (lq C 6 next Q))) (St5 x4 x6 c1 c45) = l2 k (fun (c1 : List Int) (c45 : List Int) => (fun (c1 : List Int) (c45 : List Int) => next (St1 c1 c45)) c1 c45) k x4 x6 c1 c45 :=
  (show (lp C k) cd3 (blkQ C 4 (blkQ C 1 (lq C 6 next Q))) (St5 x4 x6 c1 c45) = iter (rnd C k cd3 27 (blkQ C 4 (blkQ C 1 (lq C 6 next Q)))) k (St5 x4 x6 c1 c45) by kernel_rfl).trans ((l2_eq k (blkQ C 4 (blkQ C 1 (lq C 6 next Q))) k x4 x6 c1 c45).trans (l2_congr k _ _ (fun c1 c45 => (show (blkQ C 4 (blkQ C 1 (lq C 6 next Q))) (.exit 4) (St6 c1 c45) = next (St1 c1 c45) by kernel_rfl)) k x4 x6 c1 c45))
def j0 {α : Type} (k : Nat) (Nx : (List Int) → (List Int) → Option α) (x4 : Int) (c1 : List Int) (c45 : List Int) : Option α :=
  l2 k (fun (c1 : List Int) (c45 : List Int) => Nx c1 c45) k x4 0 c1 c45
theorem j0_eq {α : Type} (k : Nat) (next : St → Option α) (Q : Ex → St → Option α) (x4 : Int) (c1 : List Int) (c45 : List Int) :
    (den C k) cd2 (blkQ C 1 (lq C 6 next Q)) (St4 x4 c1 c45) = j0 k (fun (c1 : List Int) (c45 : List Int) => next (St1 c1 c45)) x4 c1 c45 := by
  have h : ∀ (D L : DT α), denJ D L Js C cd2 (blkQ C 1 (lq C 6 next Q)) (St4 x4 c1 c45) =
        L cd3 (blkQ C 4 (blkQ C 1 (lq C 6 next Q))) (St5 x4 0 c1 c45) := by
    intro D L; kernel_rfl
  refine (show (den C k) cd2 (blkQ C 1 (lq C 6 next Q)) (St4 x4 c1 c45) = denJ (den C k) (lp C k) Js C cd2 (blkQ C 1 (lq C 6 next Q)) (St4 x4 c1 c45) from (denJ_den _ _ _ _ _ _).symm).trans ((h (den C k) (lp C k)).trans ?_)
  simp only [a0]
  first | rfl | kernel_rfl
theorem a1 {α : Type} (k : Nat) (next : St → Option α) (Q : Ex → St → Option α) (x4 : Int) (x5 : Int) (c1 : List Int) (c45 : List Int) :
    (lp C k) cd1 (blkQ C 2 (sq (den C k) (lp C k) Js C cd2 (blkQ C 1 (lq C 6 next Q)))) (St2 x4 x5 c1 c45) = l1 k (fun (x4 : Int) (c1 : List Int) (c45 : List Int) => j0 k (fun (c1 : List Int) (c45 : List Int) => next (St1 c1 c45)) x4 c1 c45) k x4 x5 c1 c45 :=
  (show (lp C k) cd1 (blkQ C 2 (sq (den C k) (lp C k) Js C cd2 (blkQ C 1 (lq C 6 next Q)))) (St2 x4 x5 c1 c45) = iter (rnd C k cd1 15 (blkQ C 2 (sq (den C k) (lp C k) Js C cd2 (blkQ C 1 (lq C 6 next Q))))) k (St2 x4 x5 c1 c45) by kernel_rfl).trans ((l1_eq k (blkQ C 2 (sq (den C k) (lp C k) Js C cd2 (blkQ C 1 (lq C 6 next Q)))) k x4 x5 c1 c45).trans (l1_congr k _ _ (fun x4 c1 c45 => ((show (blkQ C 2 (sq (den C k) (lp C k) Js C cd2 (blkQ C 1 (lq C 6 next Q)))) (.exit 2) (St3 x4 c1 c45) = (den C k) cd2 (blkQ C 1 (lq C 6 next Q)) (St4 x4 c1 c45) by kernel_rfl).trans (by simp only [j0_eq]))) k x4 x5 c1 c45))
def St7 (c45 : List Int) : St := stL 77 [(3, .app 45 0)] [(45, .buf (.int .u8) c45 0 false)]
def l0s {α : Type} (k : Nat) (Nx : (List Int) → (List Int) → Option α) (Xt0 : (List Int) → Option α) (c1 : List Int) (c45 : List Int) : Option α :=
  if (not (beqD (.arr 4 (.int .u64)) c1 [0, 0, 0, 0])) = true then
    l1 k (fun (x4 : Int) (c1 : List Int) (c45 : List Int) => j0 k Nx x4 c1 c45) k 0 3 c1 c45
  else
    Xt0 c45
theorem l0s_eq {α : Type} (k : Nat) (next : St → Option α) (Q : Ex → St → Option α) (c1 : List Int) (c45 : List Int) :
    rnd C k cd0 6 Q next (St1 c1 c45) = l0s k (fun (c1 : List Int) (c45 : List Int) => next (St1 c1 c45)) (fun (c45 : List Int) => Q (.exit 0) (St7 c45)) c1 c45 := by
  have h : ∀ (D L : DT α), denJ D L Js C cd0 (lq C 6 next Q) (St1 c1 c45) =
        if (not (beqD (.arr 4 (.int .u64)) c1 [0, 0, 0, 0])) = true then
          L cd1 (blkQ C 2 (sq D L Js C cd2 (blkQ C 1 (lq C 6 next Q)))) (St2 0 3 c1 c45)
        else
          Q (.exit 0) (St7 c45) := by
    intro D L; kernel_rfl
  refine (show rnd C k cd0 6 Q next (St1 c1 c45) = denJ (den C k) (lp C k) Js C cd0 (lq C 6 next Q) (St1 c1 c45) from (denJ_den _ _ _ _ _ _).symm).trans ((h (den C k) (lp C k)).trans ?_)
  simp only [a1]
  first | rfl | kernel_rfl
def l0 {α : Type} (k : Nat) (Xt0 : (List Int) → Option α) : Nat → (List Int) → (List Int) → Option α
  | 0, _, _ => none
  | n + 1, c1, c45 => l0s k (l0 k Xt0 n) Xt0 c1 c45
theorem l0_eq {α : Type} (k : Nat) (Q : Ex → St → Option α) : ∀ (n : Nat) (c1 : List Int) (c45 : List Int), iter (rnd C k cd0 6 Q) n (St1 c1 c45) = l0 k (fun (c45 : List Int) => Q (.exit 0) (St7 c45)) n c1 c45
  | 0, _, _ => rfl
  | n + 1, c1, c45 => (iter_succ _ _ _).trans ((l0s_eq k (iter (rnd C k cd0 6 Q) n) Q c1 c45).trans (congrArg (fun N => l0s k N (fun (c45 : List Int) => Q (.exit 0) (St7 c45)) c1 c45) (funext fun c1 => funext fun c45 => l0_eq k Q n c1 c45)))
theorem l0_congr {α : Type} (k : Nat) (Xt0 : (List Int) → Option α) (Xt0q : (List Int) → Option α) (hXt0 : ∀ (c45 : List Int), Xt0 c45 = Xt0q c45) (n : Nat) (c1 : List Int) (c45 : List Int) : l0 k Xt0 n c1 c45 = l0 k Xt0q n c1 c45 := by
  obtain rfl : Xt0 = Xt0q := by funext c45; exact hXt0 c45
  rfl
noncomputable def cd4 : Code := cR (cR (cR (cB Try.f36)))
def St8 (c45 : List Int) : St := stL 77 [(3, .app 45 0)] [(45, .buf (.int .u8) c45 0 false)]
def St9 (x2 : List Int) : St := stL 77 [(2, .data .str x2)] []
def St10 (x7 : Int) (x8 : Int) (c45 : List Int) : St := stL 77 [(3, .app 45 0), (7, .data (.int .i64) x7), (8, .data (.int .i64) x8)] [(45, .buf (.int .u8) c45 0 false)]
noncomputable def cd5 : Code := cL (cL (cR (cL (cR (cR (cR (cR (cB Try.f36))))))))
def St11 (c45 : List Int) : St := stL 77 [(3, .app 45 0)] [(45, .buf (.int .u8) c45 0 false)]
def l3s {α : Type} (Nx : Int → Int → (List Int) → Option α) (Xt6 : (List Int) → Option α) (x7 : Int) (x8 : Int) (c45 : List Int) : Option α :=
  if (decide (x7 < x8)) = true then
    if 0 ≤ x8 ∧ x8 < (c45.length : Int) then
      if 0 ≤ x7 ∧ x7 < (c45.length : Int) then
        if 0 ≤ x7 ∧ x7 < (c45.length : Int) then
          if 0 ≤ x8 ∧ x8 < ((List.set c45 (Int.toNat x7) (List.getD c45 (Int.toNat x8) 0)).length : Int) then
            Nx (IntKind.i64.wrap (x7 + 1)) (IntKind.i64.wrap (x8 - 1)) (List.set (List.set c45 (Int.toNat x7) (List.getD c45 (Int.toNat x8) 0)) (Int.toNat x8) (List.getD c45 (Int.toNat x7) 0))
          else none
        else none
      else none
    else none
  else
    Xt6 c45
theorem l3s_eq {α : Type} (k : Nat) (next : St → Option α) (Q : Ex → St → Option α) (x7 : Int) (x8 : Int) (c45 : List Int) :
    rnd C k cd5 48 Q next (St10 x7 x8 c45) = l3s (fun (x7 : Int) (x8 : Int) (c45 : List Int) => next (St10 x7 x8 c45)) (fun (c45 : List Int) => Q (.exit 6) (St11 c45)) x7 x8 c45 := by
  have h : ∀ (D L : DT α), denJ D L Js C cd5 (lq C 48 next Q) (St10 x7 x8 c45) =
        if (decide (x7 < x8)) = true then
          if 0 ≤ x8 ∧ x8 < (c45.length : Int) then
            if 0 ≤ x7 ∧ x7 < (c45.length : Int) then
              if 0 ≤ x7 ∧ x7 < (c45.length : Int) then
                if 0 ≤ x8 ∧ x8 < ((List.set c45 (Int.toNat x7) (List.getD c45 (Int.toNat x8) 0)).length : Int) then
                  next (St10 (IntKind.i64.wrap (x7 + 1)) (IntKind.i64.wrap (x8 - 1)) (List.set (List.set c45 (Int.toNat x7) (List.getD c45 (Int.toNat x8) 0)) (Int.toNat x8) (List.getD c45 (Int.toNat x7) 0)))
                else none
              else none
            else none
          else none
        else
          Q (.exit 6) (St11 c45) := by
    intro D L; kernel_rfl
  refine (show rnd C k cd5 48 Q next (St10 x7 x8 c45) = denJ (den C k) (lp C k) Js C cd5 (lq C 48 next Q) (St10 x7 x8 c45) from (denJ_den _ _ _ _ _ _).symm).trans ((h (den C k) (lp C k)).trans ?_)
  first | rfl | kernel_rfl
def l3 {α : Type} (k : Nat) (Xt6 : (List Int) → Option α) : Nat → Int → Int → (List Int) → Option α
  | 0, _, _, _ => none
  | n + 1, x7, x8, c45 => l3s (l3 k Xt6 n) Xt6 x7 x8 c45
theorem l3_eq {α : Type} (k : Nat) (Q : Ex → St → Option α) : ∀ (n : Nat) (x7 : Int) (x8 : Int) (c45 : List Int), iter (rnd C k cd5 48 Q) n (St10 x7 x8 c45) = l3 k (fun (c45 : List Int) => Q (.exit 6) (St11 c45)) n x7 x8 c45
  | 0, _, _, _ => rfl
  | n + 1, x7, x8, c45 => (iter_succ _ _ _).trans ((l3s_eq k (iter (rnd C k cd5 48 Q) n) Q x7 x8 c45).trans (congrArg (fun N => l3s N (fun (c45 : List Int) => Q (.exit 6) (St11 c45)) x7 x8 c45) (funext fun x7 => funext fun x8 => funext fun c45 => l3_eq k Q n x7 x8 c45)))
theorem l3_congr {α : Type} (k : Nat) (Xt6 : (List Int) → Option α) (Xt6q : (List Int) → Option α) (hXt6 : ∀ (c45 : List Int), Xt6 c45 = Xt6q c45) (n : Nat) (x7 : Int) (x8 : Int) (c45 : List Int) : l3 k Xt6 n x7 x8 c45 = l3 k Xt6q n x7 x8 c45 := by
  obtain rfl : Xt6 = Xt6q := by funext c45; exact hXt6 c45
  rfl
noncomputable def cd6 : Code := cR (cR (cR (cR (cR (cB Try.f36)))))
def St12 (c45 : List Int) : St := stL 77 [(3, .app 45 0)] [(45, .buf (.int .u8) c45 0 false)]
def j2 {α : Type} (Rt : (List Int) → Option α) (c45 : List Int) : Option α :=
  Rt c45
theorem j2_eq {α : Type} (k : Nat) (Q : Ex → St → Option α) (c45 : List Int) :
    (den C k) cd6 Q (St12 c45) = j2 (fun (x2 : List Int) => Q .ret (St9 x2)) c45 := by
  have h : ∀ (D L : DT α), denJ D L Js C cd6 Q (St12 c45) =
        Q .ret (St9 c45) := by
    intro D L; kernel_rfl
  refine (show (den C k) cd6 Q (St12 c45) = denJ (den C k) (lp C k) Js C cd6 Q (St12 c45) from (denJ_den _ _ _ _ _ _).symm).trans ((h (den C k) (lp C k)).trans ?_)
  first | rfl | kernel_rfl
theorem a2 {α : Type} (k : Nat) (Q : Ex → St → Option α) (x7 : Int) (x8 : Int) (c45 : List Int) :
    (lp C k) cd5 (blkQ C 6 (sq (den C k) (lp C k) Js C cd6 Q)) (St10 x7 x8 c45) = l3 k (fun (c45 : List Int) => j2 (fun (x2 : List Int) => Q .ret (St9 x2)) c45) k x7 x8 c45 :=
  (show (lp C k) cd5 (blkQ C 6 (sq (den C k) (lp C k) Js C cd6 Q)) (St10 x7 x8 c45) = iter (rnd C k cd5 48 (blkQ C 6 (sq (den C k) (lp C k) Js C cd6 Q))) k (St10 x7 x8 c45) by kernel_rfl).trans ((l3_eq k (blkQ C 6 (sq (den C k) (lp C k) Js C cd6 Q)) k x7 x8 c45).trans (l3_congr k _ _ (fun c45 => ((show (blkQ C 6 (sq (den C k) (lp C k) Js C cd6 Q)) (.exit 6) (St11 c45) = (den C k) cd6 Q (St12 c45) by kernel_rfl).trans (by simp only [j2_eq]))) k x7 x8 c45))
def j1 {α : Type} (k : Nat) (Rt : (List Int) → Option α) (c45 : List Int) : Option α :=
  if ((c45.length : Int) == 0) = true then
    Rt [48]
  else
    l3 k (fun (c45 : List Int) => j2 Rt c45) k 0 (IntKind.i64.wrap ((c45.length : Int) - 1)) c45
theorem j1_eq {α : Type} (k : Nat) (Q : Ex → St → Option α) (c45 : List Int) :
    (den C k) cd4 Q (St8 c45) = j1 k (fun (x2 : List Int) => Q .ret (St9 x2)) c45 := by
  have h : ∀ (D L : DT α), denJ D L Js C cd4 Q (St8 c45) =
        if ((c45.length : Int) == 0) = true then
          Q .ret (St9 [48])
        else
          L cd5 (blkQ C 6 (sq D L Js C cd6 Q)) (St10 0 (IntKind.i64.wrap ((c45.length : Int) - 1)) c45) := by
    intro D L; kernel_rfl
  refine (show (den C k) cd4 Q (St8 c45) = denJ (den C k) (lp C k) Js C cd4 Q (St8 c45) from (denJ_den _ _ _ _ _ _).symm).trans ((h (den C k) (lp C k)).trans ?_)
  simp only [a2]
  first | rfl | kernel_rfl
theorem a3 {α : Type} (k : Nat) (Q : Ex → St → Option α) (c1 : List Int) (c45 : List Int) :
    (lp C k) cd0 (blkQ C 0 (sq (den C k) (lp C k) Js C cd4 Q)) (St1 c1 c45) = l0 k (fun (c45 : List Int) => j1 k (fun (x2 : List Int) => Q .ret (St9 x2)) c45) k c1 c45 :=
  (show (lp C k) cd0 (blkQ C 0 (sq (den C k) (lp C k) Js C cd4 Q)) (St1 c1 c45) = iter (rnd C k cd0 6 (blkQ C 0 (sq (den C k) (lp C k) Js C cd4 Q))) k (St1 c1 c45) by kernel_rfl).trans ((l0_eq k (blkQ C 0 (sq (den C k) (lp C k) Js C cd4 Q)) k c1 c45).trans (l0_congr k _ _ (fun c45 => ((show (blkQ C 0 (sq (den C k) (lp C k) Js C cd4 Q)) (.exit 0) (St7 c45) = (den C k) cd4 Q (St8 c45) by kernel_rfl).trans (by simp only [j1_eq]))) k c1 c45))
def top {α : Type} (k : Nat) (Rt : (List Int) → Option α) (x0 : List Int) : Option α :=
  l0 k (fun (c45 : List Int) => j1 k Rt c45) k x0 []
theorem top_eq {α : Type} (k : Nat) (Q : Ex → St → Option α) (x0 : List Int) :
    (den C k) (cB Try.f36) Q (St0 x0) = top k (fun (x2 : List Int) => Q .ret (St9 x2)) x0 := by
  have h : ∀ (D L : DT α), denJ D L Js C (cB Try.f36) Q (St0 x0) =
        L cd0 (blkQ C 0 (sq D L Js C cd4 Q)) (St1 x0 []) := by
    intro D L; kernel_rfl
  refine (show (den C k) (cB Try.f36) Q (St0 x0) = denJ (den C k) (lp C k) Js C (cB Try.f36) Q (St0 x0) from (denJ_den _ _ _ _ _ _).symm).trans ((h (den C k) (lp C k)).trans ?_)
  simp only [a3]
  first | rfl | kernel_rfl
def run (x0 : List Int) : Option (List Int) := top (α := List Int) fuel (fun (x2 : List Int) => some x2) x0
def F : Fn := ⟨(.pair (.arr 4 (.int .u64)) .unit), .str, false, fun x => run x.1⟩
set_option maxRecDepth 100000 in
theorem con : Con Try.prog 36 F := by
  refine con_of_den (C := C) (ctx_ok (by kernel_rfl) (by kernel_rfl) (by kernel_rfl) (by kernel_rfl) ⟨.inl ⟨Go.Bx.math_bits_Div64.con, Go.Bx.math_bits_Div64.named⟩, trivial⟩) (by kernel_rfl) Try.func36 (c := cB Try.f36) (by kernel_rfl) (by kernel_rfl) F fuel (fun x => by simp [F, spread, Try.ntmps36]) ?_
  intro x r h
  rw [← h]
  have h1 : start F Try.f36.ntmps x = (St0 x.1) := by kernel_rfl
  rw [h1]
  refine (top_eq fuel (fin C Try.f36.results.toList F.rs F.multi) x.1).trans ?_
  kernel_rfl
theorem named : Named Try.prog 36 := named_of Try.func36 (by kernel_rfl) (by kernel_rfl)
end Go.Bx.wide_Show
namespace Go.Bx.basculeref_Decimal
open Go Go.Proofs Go.Bx
set_option maxRecDepth 100000
set_option linter.unusedVariables false
def Js : List Nat := [11]
def C : Ctx := ⟨[(5, (.int .u8)), (9, .str), (54, (.int .u64)), (56, (.arr 4 (.int .u64))), (59, (.sl (.int .u8))), (114, (.sl (.int .u64)))], [], [], fnL [(67, Go.Bx.basculeref_shorn.F), (68, Go.Bx.basculeref_of.F), (69, Go.Bx.basculeref_divided.F), (70, Go.Bx.basculeref_small.F)], noSh, [], invL [], [(2, [2]), (1, [4]), (4, [3, 4]), (15, [3, 4]), (30, [4])], [], [], 0, 0⟩
def St0 (x0 : List Int) : St := stL 39 [(0, .data (.arr 4 (.int .u64)) x0)] []
def St1 (x2 : List Int) : St := stL 39 [(2, .data .str x2)] []
def St2 (x3 : List Int) (x4 : List Int) : St := stL 39 [(3, .data (.sl (.int .u64)) x3), (4, .data .str x4)] []
noncomputable def cd0 : Code := cL (cL (cL (cR (cR (cR (cR (cB Try.f37)))))))
def St3 (x4 : List Int) : St := stL 39 [(4, .data .str x4)] []
def l0s {α : Type} (Nx : (List Int) → (List Int) → Option α) (Xt0 : (List Int) → Option α) (x3 : List Int) (x4 : List Int) : Option α :=
  if (decide ((x3.length : Int) > 0)) = true then
    (Go.Bx.basculeref_divided.run x3 [10]).bind fun y3 =>
    (Go.Bx.basculeref_small.run y3.2.1).bind fun y4 =>
    if Nat.ble (1 + x4.length) 9223372036854775807 = true then
      (Go.Bx.basculeref_shorn.run y3.1).bind fun y5 =>
      Nx y5 ([(IntKind.u8.wrap (IntKind.u64.wrap (48 + y4.1)))] ++ x4)
    else none
  else
    Xt0 x4
theorem l0s_eq {α : Type} (k : Nat) (next : St → Option α) (Q : Ex → St → Option α) (x3 : List Int) (x4 : List Int) :
    rnd C k cd0 15 Q next (St2 x3 x4) = l0s (fun (x3 : List Int) (x4 : List Int) => next (St2 x3 x4)) (fun (x4 : List Int) => Q (.exit 0) (St3 x4)) x3 x4 := by
  have h : ∀ (D L : DT α), denJ D L Js C cd0 (lq C 15 next Q) (St2 x3 x4) =
        if (decide ((x3.length : Int) > 0)) = true then
          (Go.Bx.basculeref_divided.run x3 [10]).bind fun y3 =>
          (Go.Bx.basculeref_small.run y3.2.1).bind fun y4 =>
          if Nat.ble (1 + x4.length) 9223372036854775807 = true then
            (Go.Bx.basculeref_shorn.run y3.1).bind fun y5 =>
            next (St2 y5 ([(IntKind.u8.wrap (IntKind.u64.wrap (48 + y4.1)))] ++ x4))
          else none
        else
          Q (.exit 0) (St3 x4) := by
    intro D L; kernel_rfl
  refine (show rnd C k cd0 15 Q next (St2 x3 x4) = denJ (den C k) (lp C k) Js C cd0 (lq C 15 next Q) (St2 x3 x4) from (denJ_den _ _ _ _ _ _).symm).trans ((h (den C k) (lp C k)).trans ?_)
  first | rfl | kernel_rfl
def l0 {α : Type} (k : Nat) (Xt0 : (List Int) → Option α) : Nat → (List Int) → (List Int) → Option α
  | 0, _, _ => none
  | n + 1, x3, x4 => l0s (l0 k Xt0 n) Xt0 x3 x4
theorem l0_eq {α : Type} (k : Nat) (Q : Ex → St → Option α) : ∀ (n : Nat) (x3 : List Int) (x4 : List Int), iter (rnd C k cd0 15 Q) n (St2 x3 x4) = l0 k (fun (x4 : List Int) => Q (.exit 0) (St3 x4)) n x3 x4
  | 0, _, _ => rfl
  | n + 1, x3, x4 => (iter_succ _ _ _).trans ((l0s_eq k (iter (rnd C k cd0 15 Q) n) Q x3 x4).trans (congrArg (fun N => l0s N (fun (x4 : List Int) => Q (.exit 0) (St3 x4)) x3 x4) (funext fun x3 => funext fun x4 => l0_eq k Q n x3 x4)))
theorem l0_congr {α : Type} (k : Nat) (Xt0 : (List Int) → Option α) (Xt0q : (List Int) → Option α) (hXt0 : ∀ (x4 : List Int), Xt0 x4 = Xt0q x4) (n : Nat) (x3 : List Int) (x4 : List Int) : l0 k Xt0 n x3 x4 = l0 k Xt0q n x3 x4 := by
  obtain rfl : Xt0 = Xt0q := by funext x4; exact hXt0 x4
  rfl
noncomputable def cd1 : Code := cR (cR (cR (cR (cR (cB Try.f37)))))
def St4 (x4 : List Int) : St := stL 39 [(4, .data .str x4)] []
def j0 {α : Type} (Rt : (List Int) → Option α) (x4 : List Int) : Option α :=
  Rt x4
theorem j0_eq {α : Type} (k : Nat) (Q : Ex → St → Option α) (x4 : List Int) :
    (den C k) cd1 Q (St4 x4) = j0 (fun (x2 : List Int) => Q .ret (St1 x2)) x4 := by
  have h : ∀ (D L : DT α), denJ D L Js C cd1 Q (St4 x4) =
        Q .ret (St1 x4) := by
    intro D L; kernel_rfl
  refine (show (den C k) cd1 Q (St4 x4) = denJ (den C k) (lp C k) Js C cd1 Q (St4 x4) from (denJ_den _ _ _ _ _ _).symm).trans ((h (den C k) (lp C k)).trans ?_)
  first | rfl | kernel_rfl
theorem a0 {α : Type} (k : Nat) (Q : Ex → St → Option α) (x3 : List Int) (x4 : List Int) :
    (lp C k) cd0 (blkQ C 0 (sq (den C k) (lp C k) Js C cd1 Q)) (St2 x3 x4) = l0 k (fun (x4 : List Int) => j0 (fun (x2 : List Int) => Q .ret (St1 x2)) x4) k x3 x4 :=
  (show (lp C k) cd0 (blkQ C 0 (sq (den C k) (lp C k) Js C cd1 Q)) (St2 x3 x4) = iter (rnd C k cd0 15 (blkQ C 0 (sq (den C k) (lp C k) Js C cd1 Q))) k (St2 x3 x4) by kernel_rfl).trans ((l0_eq k (blkQ C 0 (sq (den C k) (lp C k) Js C cd1 Q)) k x3 x4).trans (l0_congr k _ _ (fun x4 => ((show (blkQ C 0 (sq (den C k) (lp C k) Js C cd1 Q)) (.exit 0) (St3 x4) = (den C k) cd1 Q (St4 x4) by kernel_rfl).trans (by simp only [j0_eq]))) k x3 x4))
def top {α : Type} (k : Nat) (Rt : (List Int) → Option α) (x0 : List Int) : Option α :=
  (Go.Bx.basculeref_of.run x0).bind fun y1 =>
  (Go.Bx.basculeref_shorn.run y1).bind fun y2 =>
  if ((y2.length : Int) == 0) = true then
    Rt [48]
  else
    l0 k (fun (x4 : List Int) => j0 Rt x4) k y2 []
theorem top_eq {α : Type} (k : Nat) (Q : Ex → St → Option α) (x0 : List Int) :
    (den C k) (cB Try.f37) Q (St0 x0) = top k (fun (x2 : List Int) => Q .ret (St1 x2)) x0 := by
  have h : ∀ (D L : DT α), denJ D L Js C (cB Try.f37) Q (St0 x0) =
        (Go.Bx.basculeref_of.run x0).bind fun y1 =>
        (Go.Bx.basculeref_shorn.run y1).bind fun y2 =>
        if ((y2.length : Int) == 0) = true then
          Q .ret (St1 [48])
        else
          L cd0 (blkQ C 0 (sq D L Js C cd1 Q)) (St2 y2 []) := by
    intro D L; kernel_rfl
  refine (show (den C k) (cB Try.f37) Q (St0 x0) = denJ (den C k) (lp C k) Js C (cB Try.f37) Q (St0 x0) from (denJ_den _ _ _ _ _ _).symm).trans ((h (den C k) (lp C k)).trans ?_)
  simp only [a0]
  first | rfl | kernel_rfl
def run (x0 : List Int) : Option (List Int) := top (α := List Int) fuel (fun (x2 : List Int) => some x2) x0
def F : Fn := ⟨(.pair (.arr 4 (.int .u64)) .unit), .str, false, fun x => run x.1⟩
set_option maxRecDepth 100000 in
theorem con : Con Try.prog 37 F := by
  refine con_of_den (C := C) (ctx_ok (by kernel_rfl) (by kernel_rfl) (by kernel_rfl) (by kernel_rfl) ⟨.inl ⟨Go.Bx.basculeref_shorn.con, Go.Bx.basculeref_shorn.named⟩, ⟨.inl ⟨Go.Bx.basculeref_of.con, Go.Bx.basculeref_of.named⟩, ⟨.inl ⟨Go.Bx.basculeref_divided.con, Go.Bx.basculeref_divided.named⟩, ⟨.inl ⟨Go.Bx.basculeref_small.con, Go.Bx.basculeref_small.named⟩, trivial⟩⟩⟩⟩) (by kernel_rfl) Try.func37 (c := cB Try.f37) (by kernel_rfl) (by kernel_rfl) F fuel (fun x => by simp [F, spread, Try.ntmps37]) ?_
  intro x r h
  rw [← h]
  have h1 : start F Try.f37.ntmps x = (St0 x.1) := by kernel_rfl
  rw [h1]
  refine (top_eq fuel (fin C Try.f37.results.toList F.rs F.multi) x.1).trans ?_
  kernel_rfl
theorem named : Named Try.prog 37 := named_of Try.func37 (by kernel_rfl) (by kernel_rfl)
end Go.Bx.basculeref_Decimal
namespace Go.Bx.basculelaw_WideShows
open Go Go.Proofs Go.Bx
set_option maxRecDepth 100000
set_option linter.unusedVariables false
def Js : List Nat := []
def C : Ctx := ⟨[(4, .bool), (56, (.arr 4 (.int .u64)))], [], [], fnL [(36, Go.Bx.wide_Show.F), (37, Go.Bx.basculeref_Decimal.F)], noSh, [], invL [], [(2, [2])], [], [], 0, 0⟩
def St0 (x0 : List Int) : St := stL 12 [(0, .data (.arr 4 (.int .u64)) x0)] []
def St1 (x2 : Bool) : St := stL 12 [(2, .data .bool x2)] []
def top {α : Type} (Rt : Bool → Option α) (x0 : List Int) : Option α :=
  (Go.Bx.wide_Show.run x0).bind fun y1 =>
  (Go.Bx.basculeref_Decimal.run x0).bind fun y2 =>
  Rt (beqD .str y1 y2)
theorem top_eq {α : Type} (k : Nat) (Q : Ex → St → Option α) (x0 : List Int) :
    (den C k) (cB Try.f10) Q (St0 x0) = top (fun (x2 : Bool) => Q .ret (St1 x2)) x0 := by
  have h : ∀ (D L : DT α), denJ D L Js C (cB Try.f10) Q (St0 x0) =
        (Go.Bx.wide_Show.run x0).bind fun y1 =>
        (Go.Bx.basculeref_Decimal.run x0).bind fun y2 =>
        Q .ret (St1 (beqD .str y1 y2)) := by
    intro D L; kernel_rfl
  refine (show (den C k) (cB Try.f10) Q (St0 x0) = denJ (den C k) (lp C k) Js C (cB Try.f10) Q (St0 x0) from (denJ_den _ _ _ _ _ _).symm).trans ((h (den C k) (lp C k)).trans ?_)
  first | rfl | kernel_rfl
def run (x0 : List Int) : Option (Bool) := top (α := Bool) (fun (x2 : Bool) => some x2) x0
def F : Fn := ⟨(.pair (.arr 4 (.int .u64)) .unit), .bool, false, fun x => run x.1⟩
set_option maxRecDepth 100000 in
theorem con : Con Try.prog 10 F := by
  refine con_of_den (C := C) (ctx_ok (by kernel_rfl) (by kernel_rfl) (by kernel_rfl) (by kernel_rfl) ⟨.inl ⟨Go.Bx.wide_Show.con, Go.Bx.wide_Show.named⟩, ⟨.inl ⟨Go.Bx.basculeref_Decimal.con, Go.Bx.basculeref_Decimal.named⟩, trivial⟩⟩) (by kernel_rfl) Try.func10 (c := cB Try.f10) (by kernel_rfl) (by kernel_rfl) F fuel (fun x => by simp [F, spread, Try.ntmps10]) ?_
  intro x r h
  rw [← h]
  have h1 : start F Try.f10.ntmps x = (St0 x.1) := by kernel_rfl
  rw [h1]
  refine (top_eq fuel (fin C Try.f10.results.toList F.rs F.multi) x.1).trans ?_
  kernel_rfl
theorem named : Named Try.prog 10 := named_of Try.func10 (by kernel_rfl) (by kernel_rfl)
end Go.Bx.basculelaw_WideShows
