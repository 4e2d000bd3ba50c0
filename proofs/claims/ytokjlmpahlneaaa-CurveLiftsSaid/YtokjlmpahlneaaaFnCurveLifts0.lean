/- Go functions of this seat in their own words of Lean, each tied to its code by a contract. -/
import Derived.Test.YtokjlmpahlneaaaGBase
import Derived.Test.YtokjlmpahlneaaaCxZi
namespace Go.Bx.basculeref_of
open Go Go.Proofs Go.Bx
set_option maxRecDepth 100000
set_option linter.unusedVariables false
def Js : List Nat := [8]
def C : Ctx := ⟨[(45, (.arr 4 (.int .u64))), (134, (.sl (.int .u64)))], [], [], fnL [], noSh, [], invL [], [(2, [2]), (1, [3]), (4, [3, 6, 7]), (9, [3, 6, 7]), (21, [3])], [(9, [.melt true 3 [] 16 true])], [], 0, 0⟩
def St0 (x0 : List Int) : St := stL 19 [(0, .data (.arr 4 (.int .u64)) x0)] []
def St1 (x6 : List Int) (x7 : Int) (c16 : List Int) : St := stL 19 [(3, .app 16 0), (6, .data (.arr 4 (.int .u64)) x6), (7, .data (.int .i64) x7)] [(16, .buf (.int .u64) c16 0 true)]
noncomputable def cd0 : Code := cL (cL (cR (cL (cR (cR (cB Try.f108))))))
def St2 (c16 : List Int) : St := stL 19 [(3, .app 16 0)] [(16, .buf (.int .u64) c16 0 true)]
def l0s {α : Type} (Nx : (List Int) → Int → (List Int) → Option α) (Xt0 : (List Int) → Option α) (x6 : List Int) (x7 : Int) (c16 : List Int) : Option α :=
  if (decide (x7 < 4)) = true then
    if 0 ≤ x7 ∧ x7 < (4 : Int) then
      if fitB (c16.length + 2) 8 = true then
        Nx x6 (IntKind.i64.wrap (x7 + 1)) (c16 ++ [(Int.tmod (List.getD x6 (Int.toNat x7) 0) 4294967296), (IntKind.u64.wrap (Int.tdiv (List.getD x6 (Int.toNat x7) 0) 4294967296))])
      else none
    else none
  else
    Xt0 c16
theorem l0s_eq {α : Type} (k : Nat) (next : St → Option α) (Q : Ex → St → Option α) (x6 : List Int) (x7 : Int) (c16 : List Int) :
    rnd C k cd0 9 Q next (St1 x6 x7 c16) = l0s (fun (x6 : List Int) (x7 : Int) (c16 : List Int) => next (St1 x6 x7 c16)) (fun (c16 : List Int) => Q (.exit 0) (St2 c16)) x6 x7 c16 := by
  have h : ∀ (D L : DT α), denJ D L Js C cd0 (lq C 9 next Q) (St1 x6 x7 c16) =
        if (decide (x7 < 4)) = true then
          if 0 ≤ x7 ∧ x7 < (4 : Int) then
            if fitB (c16.length + 2) 8 = true then
              next (St1 x6 (IntKind.i64.wrap (x7 + 1)) (c16 ++ [(Int.tmod (List.getD x6 (Int.toNat x7) 0) 4294967296), (IntKind.u64.wrap (Int.tdiv (List.getD x6 (Int.toNat x7) 0) 4294967296))]))
            else none
          else none
        else
          Q (.exit 0) (St2 c16) := by
    intro D L; kernel_rfl
  refine (show rnd C k cd0 9 Q next (St1 x6 x7 c16) = denJ (den C k) (lp C k) Js C cd0 (lq C 9 next Q) (St1 x6 x7 c16) from (denJ_den _ _ _ _ _ _).symm).trans ((h (den C k) (lp C k)).trans ?_)
  first | rfl | kernel_rfl
def l0 {α : Type} (k : Nat) (Xt0 : (List Int) → Option α) : Nat → (List Int) → Int → (List Int) → Option α
  | 0, _, _, _ => none
  | n + 1, x6, x7, c16 => l0s (l0 k Xt0 n) Xt0 x6 x7 c16
theorem l0_eq {α : Type} (k : Nat) (Q : Ex → St → Option α) : ∀ (n : Nat) (x6 : List Int) (x7 : Int) (c16 : List Int), iter (rnd C k cd0 9 Q) n (St1 x6 x7 c16) = l0 k (fun (c16 : List Int) => Q (.exit 0) (St2 c16)) n x6 x7 c16
  | 0, _, _, _ => rfl
  | n + 1, x6, x7, c16 => (iter_succ _ _ _).trans ((l0s_eq k (iter (rnd C k cd0 9 Q) n) Q x6 x7 c16).trans (congrArg (fun N => l0s N (fun (c16 : List Int) => Q (.exit 0) (St2 c16)) x6 x7 c16) (funext fun x6 => funext fun x7 => funext fun c16 => l0_eq k Q n x6 x7 c16)))
theorem l0_congr {α : Type} (k : Nat) (Xt0 : (List Int) → Option α) (Xt0q : (List Int) → Option α) (hXt0 : ∀ (c16 : List Int), Xt0 c16 = Xt0q c16) (n : Nat) (x6 : List Int) (x7 : Int) (c16 : List Int) : l0 k Xt0 n x6 x7 c16 = l0 k Xt0q n x6 x7 c16 := by
  obtain rfl : Xt0 = Xt0q := by funext c16; exact hXt0 c16
  rfl
noncomputable def cd1 : Code := cR (cR (cR (cB Try.f108)))
def St3 (c16 : List Int) : St := stL 19 [(3, .app 16 0)] [(16, .buf (.int .u64) c16 0 true)]
def St4 (c16 : List Int) : St := stL 19 [(2, .app 16 0)] [(16, .buf (.int .u64) c16 0 true)]
def j0 {α : Type} (Rt : (List Int) → Option α) (c16 : List Int) : Option α :=
  Rt c16
theorem j0_eq {α : Type} (k : Nat) (Q : Ex → St → Option α) (c16 : List Int) :
    (den C k) cd1 Q (St3 c16) = j0 (fun (c16 : List Int) => Q .ret (St4 c16)) c16 := by
  have h : ∀ (D L : DT α), denJ D L Js C cd1 Q (St3 c16) =
        Q .ret (St4 c16) := by
    intro D L; kernel_rfl
  refine (show (den C k) cd1 Q (St3 c16) = denJ (den C k) (lp C k) Js C cd1 Q (St3 c16) from (denJ_den _ _ _ _ _ _).symm).trans ((h (den C k) (lp C k)).trans ?_)
  first | rfl | kernel_rfl
theorem a0 {α : Type} (k : Nat) (Q : Ex → St → Option α) (x6 : List Int) (x7 : Int) (c16 : List Int) :
    (lp C k) cd0 (blkQ C 0 (sq (den C k) (lp C k) Js C cd1 Q)) (St1 x6 x7 c16) = l0 k (fun (c16 : List Int) => j0 (fun (c16 : List Int) => Q .ret (St4 c16)) c16) k x6 x7 c16 :=
  (show (lp C k) cd0 (blkQ C 0 (sq (den C k) (lp C k) Js C cd1 Q)) (St1 x6 x7 c16) = iter (rnd C k cd0 9 (blkQ C 0 (sq (den C k) (lp C k) Js C cd1 Q))) k (St1 x6 x7 c16) by kernel_rfl).trans ((l0_eq k (blkQ C 0 (sq (den C k) (lp C k) Js C cd1 Q)) k x6 x7 c16).trans (l0_congr k _ _ (fun c16 => ((show (blkQ C 0 (sq (den C k) (lp C k) Js C cd1 Q)) (.exit 0) (St2 c16) = (den C k) cd1 Q (St3 c16) by kernel_rfl).trans (by simp only [j0_eq]))) k x6 x7 c16))
def top {α : Type} (k : Nat) (Rt : (List Int) → Option α) (x0 : List Int) : Option α :=
  l0 k (fun (c16 : List Int) => j0 Rt c16) k x0 0 []
theorem top_eq {α : Type} (k : Nat) (Q : Ex → St → Option α) (x0 : List Int) :
    (den C k) (cB Try.f108) Q (St0 x0) = top k (fun (c16 : List Int) => Q .ret (St4 c16)) x0 := by
  have h : ∀ (D L : DT α), denJ D L Js C (cB Try.f108) Q (St0 x0) =
        L cd0 (blkQ C 0 (sq D L Js C cd1 Q)) (St1 x0 0 []) := by
    intro D L; kernel_rfl
  refine (show (den C k) (cB Try.f108) Q (St0 x0) = denJ (den C k) (lp C k) Js C (cB Try.f108) Q (St0 x0) from (denJ_den _ _ _ _ _ _).symm).trans ((h (den C k) (lp C k)).trans ?_)
  simp only [a0]
  first | rfl | kernel_rfl
def run (x0 : List Int) : Option (List Int) := top (α := List Int) fuel (fun (c16 : List Int) => some c16) x0
def F : Fn := ⟨(.pair (.arr 4 (.int .u64)) .unit), (.sl (.int .u64)), false, fun x => run x.1⟩
set_option maxRecDepth 100000 in
theorem con : Con Try.prog 108 F := by
  refine con_of_den (C := C) (ctx_ok (by kernel_rfl) (by kernel_rfl) (by kernel_rfl) (by kernel_rfl) trivial) (by kernel_rfl) Try.func108 (c := cB Try.f108) (by kernel_rfl) (by kernel_rfl) F fuel (fun x => by simp [F, spread, Try.ntmps108]) ?_
  intro x r h
  rw [← h]
  have h1 : start F Try.f108.ntmps x = (St0 x.1) := by kernel_rfl
  rw [h1]
  refine (top_eq fuel (fin C Try.f108.results.toList F.rs F.multi) x.1).trans ?_
  kernel_rfl
theorem named : Named Try.prog 108 := named_of Try.func108 (by kernel_rfl) (by kernel_rfl)
end Go.Bx.basculeref_of
namespace Go.Bx.basculeref_plus
open Go Go.Proofs Go.Bx
set_option maxRecDepth 100000
set_option linter.unusedVariables false
def Js : List Nat := [10, 12, 13]
def C : Ctx := ⟨[(24, (.int .u64)), (134, (.sl (.int .u64)))], [], [], fnL [], noSh, [], invL [], [(2, [4]), (1, [5, 6]), (4, [0, 1, 5, 6, 7]), (12, [0, 1, 5, 6, 7]), (27, [0, 1, 5, 7, 8]), (33, [0, 1, 5, 7, 8]), (36, [5, 6])], [(12, [.melt true 5 [] 46 true])], [], 0, 0⟩
def St0 (x0 : List Int) (x1 : List Int) : St := stL 53 [(0, .data (.sl (.int .u64)) x0), (1, .data (.sl (.int .u64)) x1)] []
def St1 (x0 : List Int) (x1 : List Int) (x6 : Int) (x7 : Int) (c46 : List Int) : St := stL 53 [(0, .data (.sl (.int .u64)) x0), (1, .data (.sl (.int .u64)) x1), (5, .app 46 0), (6, .data (.int .u64) x6), (7, .data (.int .i64) x7)] [(46, .buf (.int .u64) c46 0 true)]
noncomputable def cd0 : Code := cL (cL (cR (cL (cR (cR (cR (cB Try.f107)))))))
def St2 (x0 : List Int) (x1 : List Int) (x7 : Int) (x8 : Int) (c46 : List Int) : St := stL 53 [(0, .data (.sl (.int .u64)) x0), (1, .data (.sl (.int .u64)) x1), (5, .app 46 0), (7, .data (.int .i64) x7), (8, .data (.int .u64) x8)] [(46, .buf (.int .u64) c46 0 true)]
noncomputable def cd1 : Code := cR (cR (cL (cL (cR (cL (cR (cR (cR (cB Try.f107)))))))))
noncomputable def cd2 : Code := cR (cR (cL (cL (cR (cL (cL (cR (cL (cR (cR (cR (cB Try.f107))))))))))))
def St3 (x0 : List Int) (x1 : List Int) (x7 : Int) (x8 : Int) (c46 : List Int) : St := stL 53 [(0, .data (.sl (.int .u64)) x0), (1, .data (.sl (.int .u64)) x1), (5, .app 46 0), (7, .data (.int .i64) x7), (8, .data (.int .u64) x8)] [(46, .buf (.int .u64) c46 0 true)]
noncomputable def cd3 : Code := cR (cR (cR (cL (cL (cR (cL (cL (cR (cL (cR (cR (cR (cB Try.f107)))))))))))))
def j1 {α : Type} (Nx : (List Int) → (List Int) → Int → Int → (List Int) → Option α) (x0 : List Int) (x1 : List Int) (x7 : Int) (x8 : Int) (c46 : List Int) : Option α :=
  if fitB (c46.length + 1) 8 = true then
    Nx x0 x1 (IntKind.u64.wrap (Int.tdiv x8 4294967296)) (IntKind.i64.wrap (x7 + 1)) (c46 ++ [(Int.tmod x8 4294967296)])
  else none
theorem j1_eq {α : Type} (k : Nat) (next : St → Option α) (Q : Ex → St → Option α) (x0 : List Int) (x1 : List Int) (x7 : Int) (x8 : Int) (c46 : List Int) :
    (den C k) cd3 (blkQ C 1 (sq (den C k) (lp C k) Js C cd1 (lq C 12 next Q))) (St3 x0 x1 x7 x8 c46) = j1 (fun (x0 : List Int) (x1 : List Int) (x6 : Int) (x7 : Int) (c46 : List Int) => next (St1 x0 x1 x6 x7 c46)) x0 x1 x7 x8 c46 := by
  have h : ∀ (D L : DT α), denJ D L Js C cd3 (blkQ C 1 (sq D L Js C cd1 (lq C 12 next Q))) (St3 x0 x1 x7 x8 c46) =
        if fitB (c46.length + 1) 8 = true then
          next (St1 x0 x1 (IntKind.u64.wrap (Int.tdiv x8 4294967296)) (IntKind.i64.wrap (x7 + 1)) (c46 ++ [(Int.tmod x8 4294967296)]))
        else none := by
    intro D L; kernel_rfl
  refine (show (den C k) cd3 (blkQ C 1 (sq (den C k) (lp C k) Js C cd1 (lq C 12 next Q))) (St3 x0 x1 x7 x8 c46) = denJ (den C k) (lp C k) Js C cd3 (blkQ C 1 (sq (den C k) (lp C k) Js C cd1 (lq C 12 next Q))) (St3 x0 x1 x7 x8 c46) from (denJ_den _ _ _ _ _ _).symm).trans ((h (den C k) (lp C k)).trans ?_)
  first | rfl | kernel_rfl
def j0 {α : Type} (Nx : (List Int) → (List Int) → Int → Int → (List Int) → Option α) (x0 : List Int) (x1 : List Int) (x7 : Int) (x8 : Int) (c46 : List Int) : Option α :=
  if (decide (x7 < (x1.length : Int))) = true then
    if 0 ≤ x7 ∧ x7 < (x1.length : Int) then
      j1 Nx x0 x1 x7 (IntKind.u64.wrap (x8 + (List.getD x1 (Int.toNat x7) 0))) c46
    else none
  else
    j1 Nx x0 x1 x7 x8 c46
theorem j0_eq {α : Type} (k : Nat) (next : St → Option α) (Q : Ex → St → Option α) (x0 : List Int) (x1 : List Int) (x7 : Int) (x8 : Int) (c46 : List Int) :
    (den C k) cd2 (blkQ C 1 (sq (den C k) (lp C k) Js C cd1 (lq C 12 next Q))) (St2 x0 x1 x7 x8 c46) = j0 (fun (x0 : List Int) (x1 : List Int) (x6 : Int) (x7 : Int) (c46 : List Int) => next (St1 x0 x1 x6 x7 c46)) x0 x1 x7 x8 c46 := by
  have h : ∀ (D L : DT α), denJ D L Js C cd2 (blkQ C 1 (sq D L Js C cd1 (lq C 12 next Q))) (St2 x0 x1 x7 x8 c46) =
        if (decide (x7 < (x1.length : Int))) = true then
          if 0 ≤ x7 ∧ x7 < (x1.length : Int) then
            D cd3 (blkQ C 1 (sq D L Js C cd1 (lq C 12 next Q))) (St3 x0 x1 x7 (IntKind.u64.wrap (x8 + (List.getD x1 (Int.toNat x7) 0))) c46)
          else none
        else
          D cd3 (blkQ C 1 (sq D L Js C cd1 (lq C 12 next Q))) (St3 x0 x1 x7 x8 c46) := by
    intro D L; kernel_rfl
  refine (show (den C k) cd2 (blkQ C 1 (sq (den C k) (lp C k) Js C cd1 (lq C 12 next Q))) (St2 x0 x1 x7 x8 c46) = denJ (den C k) (lp C k) Js C cd2 (blkQ C 1 (sq (den C k) (lp C k) Js C cd1 (lq C 12 next Q))) (St2 x0 x1 x7 x8 c46) from (denJ_den _ _ _ _ _ _).symm).trans ((h (den C k) (lp C k)).trans ?_)
  simp only [j1_eq]
  first | rfl | kernel_rfl
def St4 (x6 : Int) (c46 : List Int) : St := stL 53 [(5, .app 46 0), (6, .data (.int .u64) x6)] [(46, .buf (.int .u64) c46 0 true)]
def l0s {α : Type} (Nx : (List Int) → (List Int) → Int → Int → (List Int) → Option α) (Xt0 : Int → (List Int) → Option α) (x0 : List Int) (x1 : List Int) (x6 : Int) (x7 : Int) (c46 : List Int) : Option α :=
  if (cond (decide (x7 < (x0.length : Int))) true (decide (x7 < (x1.length : Int)))) = true then
    if (decide (x7 < (x0.length : Int))) = true then
      if 0 ≤ x7 ∧ x7 < (x0.length : Int) then
        j0 Nx x0 x1 x7 (IntKind.u64.wrap (x6 + (List.getD x0 (Int.toNat x7) 0))) c46
      else none
    else
      j0 Nx x0 x1 x7 x6 c46
  else
    Xt0 x6 c46
theorem l0s_eq {α : Type} (k : Nat) (next : St → Option α) (Q : Ex → St → Option α) (x0 : List Int) (x1 : List Int) (x6 : Int) (x7 : Int) (c46 : List Int) :
    rnd C k cd0 12 Q next (St1 x0 x1 x6 x7 c46) = l0s (fun (x0 : List Int) (x1 : List Int) (x6 : Int) (x7 : Int) (c46 : List Int) => next (St1 x0 x1 x6 x7 c46)) (fun (x6 : Int) (c46 : List Int) => Q (.exit 0) (St4 x6 c46)) x0 x1 x6 x7 c46 := by
  have h : ∀ (D L : DT α), denJ D L Js C cd0 (lq C 12 next Q) (St1 x0 x1 x6 x7 c46) =
        if (cond (decide (x7 < (x0.length : Int))) true (decide (x7 < (x1.length : Int)))) = true then
          if (decide (x7 < (x0.length : Int))) = true then
            if 0 ≤ x7 ∧ x7 < (x0.length : Int) then
              D cd2 (blkQ C 1 (sq D L Js C cd1 (lq C 12 next Q))) (St2 x0 x1 x7 (IntKind.u64.wrap (x6 + (List.getD x0 (Int.toNat x7) 0))) c46)
            else none
          else
            D cd2 (blkQ C 1 (sq D L Js C cd1 (lq C 12 next Q))) (St2 x0 x1 x7 x6 c46)
        else
          Q (.exit 0) (St4 x6 c46) := by
    intro D L; kernel_rfl
  refine (show rnd C k cd0 12 Q next (St1 x0 x1 x6 x7 c46) = denJ (den C k) (lp C k) Js C cd0 (lq C 12 next Q) (St1 x0 x1 x6 x7 c46) from (denJ_den _ _ _ _ _ _).symm).trans ((h (den C k) (lp C k)).trans ?_)
  simp only [j0_eq]
  first | rfl | kernel_rfl
def l0 {α : Type} (k : Nat) (Xt0 : Int → (List Int) → Option α) : Nat → (List Int) → (List Int) → Int → Int → (List Int) → Option α
  | 0, _, _, _, _, _ => none
  | n + 1, x0, x1, x6, x7, c46 => l0s (l0 k Xt0 n) Xt0 x0 x1 x6 x7 c46
theorem l0_eq {α : Type} (k : Nat) (Q : Ex → St → Option α) : ∀ (n : Nat) (x0 : List Int) (x1 : List Int) (x6 : Int) (x7 : Int) (c46 : List Int), iter (rnd C k cd0 12 Q) n (St1 x0 x1 x6 x7 c46) = l0 k (fun (x6 : Int) (c46 : List Int) => Q (.exit 0) (St4 x6 c46)) n x0 x1 x6 x7 c46
  | 0, _, _, _, _, _ => rfl
  | n + 1, x0, x1, x6, x7, c46 => (iter_succ _ _ _).trans ((l0s_eq k (iter (rnd C k cd0 12 Q) n) Q x0 x1 x6 x7 c46).trans (congrArg (fun N => l0s N (fun (x6 : Int) (c46 : List Int) => Q (.exit 0) (St4 x6 c46)) x0 x1 x6 x7 c46) (funext fun x0 => funext fun x1 => funext fun x6 => funext fun x7 => funext fun c46 => l0_eq k Q n x0 x1 x6 x7 c46)))
theorem l0_congr {α : Type} (k : Nat) (Xt0 : Int → (List Int) → Option α) (Xt0q : Int → (List Int) → Option α) (hXt0 : ∀ (x6 : Int) (c46 : List Int), Xt0 x6 c46 = Xt0q x6 c46) (n : Nat) (x0 : List Int) (x1 : List Int) (x6 : Int) (x7 : Int) (c46 : List Int) : l0 k Xt0 n x0 x1 x6 x7 c46 = l0 k Xt0q n x0 x1 x6 x7 c46 := by
  obtain rfl : Xt0 = Xt0q := by funext x6; funext c46; exact hXt0 x6 c46
  rfl
noncomputable def cd4 : Code := cR (cR (cR (cR (cB Try.f107))))
def St5 (x6 : Int) (c46 : List Int) : St := stL 53 [(5, .app 46 0), (6, .data (.int .u64) x6)] [(46, .buf (.int .u64) c46 0 true)]
def St6 (c46 : List Int) : St := stL 53 [(4, .app 46 0)] [(46, .buf (.int .u64) c46 0 true)]
def j2 {α : Type} (Rt : (List Int) → Option α) (x6 : Int) (c46 : List Int) : Option α :=
  if fitB (c46.length + 1) 8 = true then
    Rt (c46 ++ [x6])
  else none
theorem j2_eq {α : Type} (k : Nat) (Q : Ex → St → Option α) (x6 : Int) (c46 : List Int) :
    (den C k) cd4 Q (St5 x6 c46) = j2 (fun (c46 : List Int) => Q .ret (St6 c46)) x6 c46 := by
  have h : ∀ (D L : DT α), denJ D L Js C cd4 Q (St5 x6 c46) =
        if fitB (c46.length + 1) 8 = true then
          Q .ret (St6 (c46 ++ [x6]))
        else none := by
    intro D L; kernel_rfl
  refine (show (den C k) cd4 Q (St5 x6 c46) = denJ (den C k) (lp C k) Js C cd4 Q (St5 x6 c46) from (denJ_den _ _ _ _ _ _).symm).trans ((h (den C k) (lp C k)).trans ?_)
  first | rfl | kernel_rfl
theorem a0 {α : Type} (k : Nat) (Q : Ex → St → Option α) (x0 : List Int) (x1 : List Int) (x6 : Int) (x7 : Int) (c46 : List Int) :
    (lp C k) cd0 (blkQ C 0 (sq (den C k) (lp C k) Js C cd4 Q)) (St1 x0 x1 x6 x7 c46) = l0 k (fun (x6 : Int) (c46 : List Int) => j2 (fun (c46 : List Int) => Q .ret (St6 c46)) x6 c46) k x0 x1 x6 x7 c46 :=
  (show (lp C k) cd0 (blkQ C 0 (sq (den C k) (lp C k) Js C cd4 Q)) (St1 x0 x1 x6 x7 c46) = iter (rnd C k cd0 12 (blkQ C 0 (sq (den C k) (lp C k) Js C cd4 Q))) k (St1 x0 x1 x6 x7 c46) by kernel_rfl).trans ((l0_eq k (blkQ C 0 (sq (den C k) (lp C k) Js C cd4 Q)) k x0 x1 x6 x7 c46).trans (l0_congr k _ _ (fun x6 c46 => ((show (blkQ C 0 (sq (den C k) (lp C k) Js C cd4 Q)) (.exit 0) (St4 x6 c46) = (den C k) cd4 Q (St5 x6 c46) by kernel_rfl).trans (by simp only [j2_eq]))) k x0 x1 x6 x7 c46))
def top {α : Type} (k : Nat) (Rt : (List Int) → Option α) (x0 : List Int) (x1 : List Int) : Option α :=
  l0 k (fun (x6 : Int) (c46 : List Int) => j2 Rt x6 c46) k x0 x1 0 0 []
theorem top_eq {α : Type} (k : Nat) (Q : Ex → St → Option α) (x0 : List Int) (x1 : List Int) :
    (den C k) (cB Try.f107) Q (St0 x0 x1) = top k (fun (c46 : List Int) => Q .ret (St6 c46)) x0 x1 := by
  have h : ∀ (D L : DT α), denJ D L Js C (cB Try.f107) Q (St0 x0 x1) =
        L cd0 (blkQ C 0 (sq D L Js C cd4 Q)) (St1 x0 x1 0 0 []) := by
    intro D L; kernel_rfl
  refine (show (den C k) (cB Try.f107) Q (St0 x0 x1) = denJ (den C k) (lp C k) Js C (cB Try.f107) Q (St0 x0 x1) from (denJ_den _ _ _ _ _ _).symm).trans ((h (den C k) (lp C k)).trans ?_)
  simp only [a0]
  first | rfl | kernel_rfl
def run (x0 : List Int) (x1 : List Int) : Option (List Int) := top (α := List Int) fuel (fun (c46 : List Int) => some c46) x0 x1
def F : Fn := ⟨(.pair (.sl (.int .u64)) (.pair (.sl (.int .u64)) .unit)), (.sl (.int .u64)), false, fun x => run x.1 x.2.1⟩
set_option maxRecDepth 100000 in
theorem con : Con Try.prog 107 F := by
  refine con_of_den (C := C) (ctx_ok (by kernel_rfl) (by kernel_rfl) (by kernel_rfl) (by kernel_rfl) trivial) (by kernel_rfl) Try.func107 (c := cB Try.f107) (by kernel_rfl) (by kernel_rfl) F fuel (fun x => by simp [F, spread, Try.ntmps107]) ?_
  intro x r h
  rw [← h]
  have h1 : start F Try.f107.ntmps x = (St0 x.1 x.2.1) := by kernel_rfl
  rw [h1]
  refine (top_eq fuel (fin C Try.f107.results.toList F.rs F.multi) x.1 x.2.1).trans ?_
  kernel_rfl
theorem named : Named Try.prog 107 := named_of Try.func107 (by kernel_rfl) (by kernel_rfl)
end Go.Bx.basculeref_plus
namespace Go.Bx.basculeref_less
open Go Go.Proofs Go.Bx
set_option maxRecDepth 100000
set_option linter.unusedVariables false
def Js : List Nat := [10, 14, 16]
def C : Ctx := ⟨[(24, (.int .u64)), (134, (.sl (.int .u64)))], [], [], fnL [], noSh, [], invL [], [(2, [4]), (1, [5]), (4, [1, 5, 6, 13, 14]), (12, [1, 5, 6, 13, 14]), (27, [1, 5, 7, 8, 13, 14]), (39, [1, 5, 6, 7, 8, 13, 14]), (45, [5])], [], [], 0, 0⟩
def St0 (x0 : List Int) (x1 : List Int) : St := stL 49 [(0, .data (.sl (.int .u64)) x0), (1, .data (.sl (.int .u64)) x1)] []
def St1 (x1 : List Int) (x6 : Int) (x13 : Int) (x14 : Int) (c11 : List Int) : St := stL 49 [(1, .data (.sl (.int .u64)) x1), (5, .app 11 0), (6, .data (.int .u64) x6), (13, .data (.int .i64) x13), (14, .data (.int .i64) x14)] [(11, .buf (.int .u64) c11 0 false)]
noncomputable def cd0 : Code := cL (cL (cR (cL (cR (cR (cR (cB Try.f115)))))))
def St2 (x1 : List Int) (x7 : Int) (x8 : Int) (x13 : Int) (x14 : Int) (c11 : List Int) : St := stL 49 [(1, .data (.sl (.int .u64)) x1), (5, .app 11 0), (7, .data (.int .i64) x7), (8, .data (.int .u64) x8), (13, .data (.int .i64) x13), (14, .data (.int .i64) x14)] [(11, .buf (.int .u64) c11 0 false)]
noncomputable def cd1 : Code := cR (cR (cR (cL (cL (cR (cL (cR (cR (cR (cB Try.f115))))))))))
noncomputable def cd2 : Code := cR (cR (cR (cL (cL (cR (cR (cL (cL (cR (cL (cR (cR (cR (cB Try.f115))))))))))))))
def St3 (x1 : List Int) (x6 : Int) (x7 : Int) (x8 : Int) (x13 : Int) (x14 : Int) (c11 : List Int) : St := stL 49 [(1, .data (.sl (.int .u64)) x1), (5, .app 11 0), (6, .data (.int .u64) x6), (7, .data (.int .i64) x7), (8, .data (.int .u64) x8), (13, .data (.int .i64) x13), (14, .data (.int .i64) x14)] [(11, .buf (.int .u64) c11 0 false)]
noncomputable def cd3 : Code := cR (cR (cR (cR (cR (cL (cL (cR (cR (cL (cL (cR (cL (cR (cR (cR (cB Try.f115))))))))))))))))
def j1 {α : Type} (Nx : (List Int) → Int → Int → Int → (List Int) → Option α) (x1 : List Int) (x6 : Int) (x7 : Int) (x8 : Int) (x13 : Int) (x14 : Int) (c11 : List Int) : Option α :=
  if 0 ≤ x7 ∧ x7 < (c11.length : Int) then
    if 0 ≤ x7 ∧ x7 < (c11.length : Int) then
      Nx x1 x6 x13 (IntKind.i64.wrap (x14 + 1)) (List.set c11 (Int.toNat x7) (IntKind.u64.wrap ((List.getD c11 (Int.toNat x7) 0) - x8)))
    else none
  else none
theorem j1_eq {α : Type} (k : Nat) (next : St → Option α) (Q : Ex → St → Option α) (x1 : List Int) (x6 : Int) (x7 : Int) (x8 : Int) (x13 : Int) (x14 : Int) (c11 : List Int) :
    (den C k) cd3 (blkQ C 1 (sq (den C k) (lp C k) Js C cd1 (lq C 12 next Q))) (St3 x1 x6 x7 x8 x13 x14 c11) = j1 (fun (x1 : List Int) (x6 : Int) (x13 : Int) (x14 : Int) (c11 : List Int) => next (St1 x1 x6 x13 x14 c11)) x1 x6 x7 x8 x13 x14 c11 := by
  have h : ∀ (D L : DT α), denJ D L Js C cd3 (blkQ C 1 (sq D L Js C cd1 (lq C 12 next Q))) (St3 x1 x6 x7 x8 x13 x14 c11) =
        if 0 ≤ x7 ∧ x7 < (c11.length : Int) then
          if 0 ≤ x7 ∧ x7 < (c11.length : Int) then
            next (St1 x1 x6 x13 (IntKind.i64.wrap (x14 + 1)) (List.set c11 (Int.toNat x7) (IntKind.u64.wrap ((List.getD c11 (Int.toNat x7) 0) - x8))))
          else none
        else none := by
    intro D L; kernel_rfl
  refine (show (den C k) cd3 (blkQ C 1 (sq (den C k) (lp C k) Js C cd1 (lq C 12 next Q))) (St3 x1 x6 x7 x8 x13 x14 c11) = denJ (den C k) (lp C k) Js C cd3 (blkQ C 1 (sq (den C k) (lp C k) Js C cd1 (lq C 12 next Q))) (St3 x1 x6 x7 x8 x13 x14 c11) from (denJ_den _ _ _ _ _ _).symm).trans ((h (den C k) (lp C k)).trans ?_)
  first | rfl | kernel_rfl
def j0 {α : Type} (Nx : (List Int) → Int → Int → Int → (List Int) → Option α) (x1 : List Int) (x7 : Int) (x8 : Int) (x13 : Int) (x14 : Int) (c11 : List Int) : Option α :=
  if 0 ≤ x7 ∧ x7 < (c11.length : Int) then
    if (decide ((List.getD c11 (Int.toNat x7) 0) < x8)) = true then
      if 0 ≤ x7 ∧ x7 < (c11.length : Int) then
        if 0 ≤ x7 ∧ x7 < (c11.length : Int) then
          j1 Nx x1 1 x7 x8 x13 x14 (List.set c11 (Int.toNat x7) (IntKind.u64.wrap ((List.getD c11 (Int.toNat x7) 0) + 4294967296)))
        else none
      else none
    else
      j1 Nx x1 0 x7 x8 x13 x14 c11
  else none
theorem j0_eq {α : Type} (k : Nat) (next : St → Option α) (Q : Ex → St → Option α) (x1 : List Int) (x7 : Int) (x8 : Int) (x13 : Int) (x14 : Int) (c11 : List Int) :
    (den C k) cd2 (blkQ C 1 (sq (den C k) (lp C k) Js C cd1 (lq C 12 next Q))) (St2 x1 x7 x8 x13 x14 c11) = j0 (fun (x1 : List Int) (x6 : Int) (x13 : Int) (x14 : Int) (c11 : List Int) => next (St1 x1 x6 x13 x14 c11)) x1 x7 x8 x13 x14 c11 := by
  have h : ∀ (D L : DT α), denJ D L Js C cd2 (blkQ C 1 (sq D L Js C cd1 (lq C 12 next Q))) (St2 x1 x7 x8 x13 x14 c11) =
        if 0 ≤ x7 ∧ x7 < (c11.length : Int) then
          if (decide ((List.getD c11 (Int.toNat x7) 0) < x8)) = true then
            if 0 ≤ x7 ∧ x7 < (c11.length : Int) then
              if 0 ≤ x7 ∧ x7 < (c11.length : Int) then
                D cd3 (blkQ C 1 (sq D L Js C cd1 (lq C 12 next Q))) (St3 x1 1 x7 x8 x13 x14 (List.set c11 (Int.toNat x7) (IntKind.u64.wrap ((List.getD c11 (Int.toNat x7) 0) + 4294967296))))
              else none
            else none
          else
            D cd3 (blkQ C 1 (sq D L Js C cd1 (lq C 12 next Q))) (St3 x1 0 x7 x8 x13 x14 c11)
        else none := by
    intro D L; kernel_rfl
  refine (show (den C k) cd2 (blkQ C 1 (sq (den C k) (lp C k) Js C cd1 (lq C 12 next Q))) (St2 x1 x7 x8 x13 x14 c11) = denJ (den C k) (lp C k) Js C cd2 (blkQ C 1 (sq (den C k) (lp C k) Js C cd1 (lq C 12 next Q))) (St2 x1 x7 x8 x13 x14 c11) from (denJ_den _ _ _ _ _ _).symm).trans ((h (den C k) (lp C k)).trans ?_)
  simp only [j1_eq]
  first | rfl | kernel_rfl
def St4 (c11 : List Int) : St := stL 49 [(5, .app 11 0)] [(11, .buf (.int .u64) c11 0 false)]
def l0s {α : Type} (Nx : (List Int) → Int → Int → Int → (List Int) → Option α) (Xt0 : (List Int) → Option α) (x1 : List Int) (x6 : Int) (x13 : Int) (x14 : Int) (c11 : List Int) : Option α :=
  if (decide (x14 < x13)) = true then
    if (decide (x14 < (x1.length : Int))) = true then
      if 0 ≤ x14 ∧ x14 < (x1.length : Int) then
        j0 Nx x1 x14 (IntKind.u64.wrap (x6 + (List.getD x1 (Int.toNat x14) 0))) x13 x14 c11
      else none
    else
      j0 Nx x1 x14 x6 x13 x14 c11
  else
    Xt0 c11
theorem l0s_eq {α : Type} (k : Nat) (next : St → Option α) (Q : Ex → St → Option α) (x1 : List Int) (x6 : Int) (x13 : Int) (x14 : Int) (c11 : List Int) :
    rnd C k cd0 12 Q next (St1 x1 x6 x13 x14 c11) = l0s (fun (x1 : List Int) (x6 : Int) (x13 : Int) (x14 : Int) (c11 : List Int) => next (St1 x1 x6 x13 x14 c11)) (fun (c11 : List Int) => Q (.exit 0) (St4 c11)) x1 x6 x13 x14 c11 := by
  have h : ∀ (D L : DT α), denJ D L Js C cd0 (lq C 12 next Q) (St1 x1 x6 x13 x14 c11) =
        if (decide (x14 < x13)) = true then
          if (decide (x14 < (x1.length : Int))) = true then
            if 0 ≤ x14 ∧ x14 < (x1.length : Int) then
              D cd2 (blkQ C 1 (sq D L Js C cd1 (lq C 12 next Q))) (St2 x1 x14 (IntKind.u64.wrap (x6 + (List.getD x1 (Int.toNat x14) 0))) x13 x14 c11)
            else none
          else
            D cd2 (blkQ C 1 (sq D L Js C cd1 (lq C 12 next Q))) (St2 x1 x14 x6 x13 x14 c11)
        else
          Q (.exit 0) (St4 c11) := by
    intro D L; kernel_rfl
  refine (show rnd C k cd0 12 Q next (St1 x1 x6 x13 x14 c11) = denJ (den C k) (lp C k) Js C cd0 (lq C 12 next Q) (St1 x1 x6 x13 x14 c11) from (denJ_den _ _ _ _ _ _).symm).trans ((h (den C k) (lp C k)).trans ?_)
  simp only [j0_eq]
  first | rfl | kernel_rfl
def l0 {α : Type} (k : Nat) (Xt0 : (List Int) → Option α) : Nat → (List Int) → Int → Int → Int → (List Int) → Option α
  | 0, _, _, _, _, _ => none
  | n + 1, x1, x6, x13, x14, c11 => l0s (l0 k Xt0 n) Xt0 x1 x6 x13 x14 c11
theorem l0_eq {α : Type} (k : Nat) (Q : Ex → St → Option α) : ∀ (n : Nat) (x1 : List Int) (x6 : Int) (x13 : Int) (x14 : Int) (c11 : List Int), iter (rnd C k cd0 12 Q) n (St1 x1 x6 x13 x14 c11) = l0 k (fun (c11 : List Int) => Q (.exit 0) (St4 c11)) n x1 x6 x13 x14 c11
  | 0, _, _, _, _, _ => rfl
  | n + 1, x1, x6, x13, x14, c11 => (iter_succ _ _ _).trans ((l0s_eq k (iter (rnd C k cd0 12 Q) n) Q x1 x6 x13 x14 c11).trans (congrArg (fun N => l0s N (fun (c11 : List Int) => Q (.exit 0) (St4 c11)) x1 x6 x13 x14 c11) (funext fun x1 => funext fun x6 => funext fun x13 => funext fun x14 => funext fun c11 => l0_eq k Q n x1 x6 x13 x14 c11)))
theorem l0_congr {α : Type} (k : Nat) (Xt0 : (List Int) → Option α) (Xt0q : (List Int) → Option α) (hXt0 : ∀ (c11 : List Int), Xt0 c11 = Xt0q c11) (n : Nat) (x1 : List Int) (x6 : Int) (x13 : Int) (x14 : Int) (c11 : List Int) : l0 k Xt0 n x1 x6 x13 x14 c11 = l0 k Xt0q n x1 x6 x13 x14 c11 := by
  obtain rfl : Xt0 = Xt0q := by funext c11; exact hXt0 c11
  rfl
noncomputable def cd4 : Code := cR (cR (cR (cR (cB Try.f115))))
def St5 (c11 : List Int) : St := stL 49 [(5, .app 11 0)] [(11, .buf (.int .u64) c11 0 false)]
def St6 (c11 : List Int) : St := stL 49 [(4, .app 11 0)] [(11, .buf (.int .u64) c11 0 false)]
def j2 {α : Type} (Rt : (List Int) → Option α) (c11 : List Int) : Option α :=
  Rt c11
theorem j2_eq {α : Type} (k : Nat) (Q : Ex → St → Option α) (c11 : List Int) :
    (den C k) cd4 Q (St5 c11) = j2 (fun (c11 : List Int) => Q .ret (St6 c11)) c11 := by
  have h : ∀ (D L : DT α), denJ D L Js C cd4 Q (St5 c11) =
        Q .ret (St6 c11) := by
    intro D L; kernel_rfl
  refine (show (den C k) cd4 Q (St5 c11) = denJ (den C k) (lp C k) Js C cd4 Q (St5 c11) from (denJ_den _ _ _ _ _ _).symm).trans ((h (den C k) (lp C k)).trans ?_)
  first | rfl | kernel_rfl
theorem a0 {α : Type} (k : Nat) (Q : Ex → St → Option α) (x1 : List Int) (x6 : Int) (x13 : Int) (x14 : Int) (c11 : List Int) :
    (lp C k) cd0 (blkQ C 0 (sq (den C k) (lp C k) Js C cd4 Q)) (St1 x1 x6 x13 x14 c11) = l0 k (fun (c11 : List Int) => j2 (fun (c11 : List Int) => Q .ret (St6 c11)) c11) k x1 x6 x13 x14 c11 :=
  (show (lp C k) cd0 (blkQ C 0 (sq (den C k) (lp C k) Js C cd4 Q)) (St1 x1 x6 x13 x14 c11) = iter (rnd C k cd0 12 (blkQ C 0 (sq (den C k) (lp C k) Js C cd4 Q))) k (St1 x1 x6 x13 x14 c11) by kernel_rfl).trans ((l0_eq k (blkQ C 0 (sq (den C k) (lp C k) Js C cd4 Q)) k x1 x6 x13 x14 c11).trans (l0_congr k _ _ (fun c11 => ((show (blkQ C 0 (sq (den C k) (lp C k) Js C cd4 Q)) (.exit 0) (St4 c11) = (den C k) cd4 Q (St5 c11) by kernel_rfl).trans (by simp only [j2_eq]))) k x1 x6 x13 x14 c11))
def top {α : Type} (k : Nat) (Rt : (List Int) → Option α) (x0 : List Int) (x1 : List Int) : Option α :=
  if (fitB (0 + x0.length) 8 && (Nat.beq 0 0 || Nat.blt 0 x0.length)) = true then
    l0 k (fun (c11 : List Int) => j2 Rt c11) k x1 0 (x0.length : Int) 0 x0
  else none
theorem top_eq {α : Type} (k : Nat) (Q : Ex → St → Option α) (x0 : List Int) (x1 : List Int) :
    (den C k) (cB Try.f115) Q (St0 x0 x1) = top k (fun (c11 : List Int) => Q .ret (St6 c11)) x0 x1 := by
  have h : ∀ (D L : DT α), denJ D L Js C (cB Try.f115) Q (St0 x0 x1) =
        if (fitB (0 + x0.length) 8 && (Nat.beq 0 0 || Nat.blt 0 x0.length)) = true then
          L cd0 (blkQ C 0 (sq D L Js C cd4 Q)) (St1 x1 0 (x0.length : Int) 0 x0)
        else none := by
    intro D L; kernel_rfl
  refine (show (den C k) (cB Try.f115) Q (St0 x0 x1) = denJ (den C k) (lp C k) Js C (cB Try.f115) Q (St0 x0 x1) from (denJ_den _ _ _ _ _ _).symm).trans ((h (den C k) (lp C k)).trans ?_)
  simp only [a0]
  first | rfl | kernel_rfl
def run (x0 : List Int) (x1 : List Int) : Option (List Int) := top (α := List Int) fuel (fun (c11 : List Int) => some c11) x0 x1
def F : Fn := ⟨(.pair (.sl (.int .u64)) (.pair (.sl (.int .u64)) .unit)), (.sl (.int .u64)), false, fun x => run x.1 x.2.1⟩
set_option maxRecDepth 100000 in
theorem con : Con Try.prog 115 F := by
  refine con_of_den (C := C) (ctx_ok (by kernel_rfl) (by kernel_rfl) (by kernel_rfl) (by kernel_rfl) trivial) (by kernel_rfl) Try.func115 (c := cB Try.f115) (by kernel_rfl) (by kernel_rfl) F fuel (fun x => by simp [F, spread, Try.ntmps115]) ?_
  intro x r h
  rw [← h]
  have h1 : start F Try.f115.ntmps x = (St0 x.1 x.2.1) := by kernel_rfl
  rw [h1]
  refine (top_eq fuel (fin C Try.f115.results.toList F.rs F.multi) x.1 x.2.1).trans ?_
  kernel_rfl
theorem named : Named Try.prog 115 := named_of Try.func115 (by kernel_rfl) (by kernel_rfl)
end Go.Bx.basculeref_less
namespace Go.Bx.basculeref_compare
open Go Go.Proofs Go.Bx
set_option maxRecDepth 100000
set_option linter.unusedVariables false
def Js : List Nat := [8, 10, 14]
def C : Ctx := ⟨[(3, (.int .i64)), (24, (.int .u64)), (134, (.sl (.int .u64)))], [], [], fnL [], noSh, [], invL [], [(2, [4]), (1, []), (4, [0, 1, 5]), (6, [0, 1, 5]), (21, [0, 1, 5, 6, 7]), (27, [0, 1, 5, 6, 7]), (39, [])], [], [], 0, 0⟩
def St0 (x0 : List Int) (x1 : List Int) : St := stL 40 [(0, .data (.sl (.int .u64)) x0), (1, .data (.sl (.int .u64)) x1)] []
def St1 (x0 : List Int) (x1 : List Int) (x5 : Int) : St := stL 40 [(0, .data (.sl (.int .u64)) x0), (1, .data (.sl (.int .u64)) x1), (5, .data (.int .i64) x5)] []
noncomputable def cd0 : Code := cL (cL (cR (cL (cR (cB Try.f113)))))
def St2 (x0 : List Int) (x1 : List Int) (x5 : Int) (x6 : Int) (x7 : Int) : St := stL 40 [(0, .data (.sl (.int .u64)) x0), (1, .data (.sl (.int .u64)) x1), (5, .data (.int .i64) x5), (6, .data (.int .u64) x6), (7, .data (.int .u64) x7)] []
noncomputable def cd1 : Code := cR (cR (cL (cL (cR (cL (cR (cB Try.f113)))))))
noncomputable def cd2 : Code := cR (cR (cL (cL (cR (cL (cL (cR (cL (cR (cB Try.f113))))))))))
def St3 (x0 : List Int) (x1 : List Int) (x5 : Int) (x6 : Int) (x7 : Int) : St := stL 40 [(0, .data (.sl (.int .u64)) x0), (1, .data (.sl (.int .u64)) x1), (5, .data (.int .i64) x5), (6, .data (.int .u64) x6), (7, .data (.int .u64) x7)] []
noncomputable def cd3 : Code := cR (cR (cR (cL (cL (cR (cL (cL (cR (cL (cR (cB Try.f113)))))))))))
def St4 (x4 : Int) : St := stL 40 [(4, .data (.int .i64) x4)] []
def j1 {α : Type} (Nx : (List Int) → (List Int) → Int → Option α) (Rt : Int → Option α) (x0 : List Int) (x1 : List Int) (x5 : Int) (x6 : Int) (x7 : Int) : Option α :=
  if (decide (x6 < x7)) = true then
    Rt (-1)
  else
    if (decide (x6 > x7)) = true then
      Rt 1
    else
      Nx x0 x1 (IntKind.i64.wrap (x5 - 1))
theorem j1_eq {α : Type} (k : Nat) (next : St → Option α) (Q : Ex → St → Option α) (x0 : List Int) (x1 : List Int) (x5 : Int) (x6 : Int) (x7 : Int) :
    (den C k) cd3 (blkQ C 1 (sq (den C k) (lp C k) Js C cd1 (lq C 6 next Q))) (St3 x0 x1 x5 x6 x7) = j1 (fun (x0 : List Int) (x1 : List Int) (x5 : Int) => next (St1 x0 x1 x5)) (fun (x4 : Int) => Q .ret (St4 x4)) x0 x1 x5 x6 x7 := by
  have h : ∀ (D L : DT α), denJ D L Js C cd3 (blkQ C 1 (sq D L Js C cd1 (lq C 6 next Q))) (St3 x0 x1 x5 x6 x7) =
        if (decide (x6 < x7)) = true then
          Q .ret (St4 (-1))
        else
          if (decide (x6 > x7)) = true then
            Q .ret (St4 1)
          else
            next (St1 x0 x1 (IntKind.i64.wrap (x5 - 1))) := by
    intro D L; kernel_rfl
  refine (show (den C k) cd3 (blkQ C 1 (sq (den C k) (lp C k) Js C cd1 (lq C 6 next Q))) (St3 x0 x1 x5 x6 x7) = denJ (den C k) (lp C k) Js C cd3 (blkQ C 1 (sq (den C k) (lp C k) Js C cd1 (lq C 6 next Q))) (St3 x0 x1 x5 x6 x7) from (denJ_den _ _ _ _ _ _).symm).trans ((h (den C k) (lp C k)).trans ?_)
  first | rfl | kernel_rfl
def j0 {α : Type} (Nx : (List Int) → (List Int) → Int → Option α) (Rt : Int → Option α) (x0 : List Int) (x1 : List Int) (x5 : Int) (x6 : Int) (x7 : Int) : Option α :=
  if (decide (x5 < (x1.length : Int))) = true then
    if 0 ≤ x5 ∧ x5 < (x1.length : Int) then
      j1 Nx Rt x0 x1 x5 x6 (List.getD x1 (Int.toNat x5) 0)
    else none
  else
    j1 Nx Rt x0 x1 x5 x6 x7
theorem j0_eq {α : Type} (k : Nat) (next : St → Option α) (Q : Ex → St → Option α) (x0 : List Int) (x1 : List Int) (x5 : Int) (x6 : Int) (x7 : Int) :
    (den C k) cd2 (blkQ C 1 (sq (den C k) (lp C k) Js C cd1 (lq C 6 next Q))) (St2 x0 x1 x5 x6 x7) = j0 (fun (x0 : List Int) (x1 : List Int) (x5 : Int) => next (St1 x0 x1 x5)) (fun (x4 : Int) => Q .ret (St4 x4)) x0 x1 x5 x6 x7 := by
  have h : ∀ (D L : DT α), denJ D L Js C cd2 (blkQ C 1 (sq D L Js C cd1 (lq C 6 next Q))) (St2 x0 x1 x5 x6 x7) =
        if (decide (x5 < (x1.length : Int))) = true then
          if 0 ≤ x5 ∧ x5 < (x1.length : Int) then
            D cd3 (blkQ C 1 (sq D L Js C cd1 (lq C 6 next Q))) (St3 x0 x1 x5 x6 (List.getD x1 (Int.toNat x5) 0))
          else none
        else
          D cd3 (blkQ C 1 (sq D L Js C cd1 (lq C 6 next Q))) (St3 x0 x1 x5 x6 x7) := by
    intro D L; kernel_rfl
  refine (show (den C k) cd2 (blkQ C 1 (sq (den C k) (lp C k) Js C cd1 (lq C 6 next Q))) (St2 x0 x1 x5 x6 x7) = denJ (den C k) (lp C k) Js C cd2 (blkQ C 1 (sq (den C k) (lp C k) Js C cd1 (lq C 6 next Q))) (St2 x0 x1 x5 x6 x7) from (denJ_den _ _ _ _ _ _).symm).trans ((h (den C k) (lp C k)).trans ?_)
  simp only [j1_eq]
  first | rfl | kernel_rfl
def St5 : St := stL 40 [] []
def l0s {α : Type} (Nx : (List Int) → (List Int) → Int → Option α) (Rt : Int → Option α) (Xt0 : Option α) (x0 : List Int) (x1 : List Int) (x5 : Int) : Option α :=
  if (decide (x5 ≥ 0)) = true then
    if (decide (x5 < (x0.length : Int))) = true then
      if 0 ≤ x5 ∧ x5 < (x0.length : Int) then
        j0 Nx Rt x0 x1 x5 (List.getD x0 (Int.toNat x5) 0) 0
      else none
    else
      j0 Nx Rt x0 x1 x5 0 0
  else
    Xt0
theorem l0s_eq {α : Type} (k : Nat) (next : St → Option α) (Q : Ex → St → Option α) (x0 : List Int) (x1 : List Int) (x5 : Int) :
    rnd C k cd0 6 Q next (St1 x0 x1 x5) = l0s (fun (x0 : List Int) (x1 : List Int) (x5 : Int) => next (St1 x0 x1 x5)) (fun (x4 : Int) => Q .ret (St4 x4)) (Q (.exit 0) St5) x0 x1 x5 := by
  have h : ∀ (D L : DT α), denJ D L Js C cd0 (lq C 6 next Q) (St1 x0 x1 x5) =
        if (decide (x5 ≥ 0)) = true then
          if (decide (x5 < (x0.length : Int))) = true then
            if 0 ≤ x5 ∧ x5 < (x0.length : Int) then
              D cd2 (blkQ C 1 (sq D L Js C cd1 (lq C 6 next Q))) (St2 x0 x1 x5 (List.getD x0 (Int.toNat x5) 0) 0)
            else none
          else
            D cd2 (blkQ C 1 (sq D L Js C cd1 (lq C 6 next Q))) (St2 x0 x1 x5 0 0)
        else
          Q (.exit 0) St5 := by
    intro D L; kernel_rfl
  refine (show rnd C k cd0 6 Q next (St1 x0 x1 x5) = denJ (den C k) (lp C k) Js C cd0 (lq C 6 next Q) (St1 x0 x1 x5) from (denJ_den _ _ _ _ _ _).symm).trans ((h (den C k) (lp C k)).trans ?_)
  simp only [j0_eq]
  first | rfl | kernel_rfl
def l0 {α : Type} (k : Nat) (Rt : Int → Option α) (Xt0 : Option α) : Nat → (List Int) → (List Int) → Int → Option α
  | 0, _, _, _ => none
  | n + 1, x0, x1, x5 => l0s (l0 k Rt Xt0 n) Rt Xt0 x0 x1 x5
theorem l0_eq {α : Type} (k : Nat) (Q : Ex → St → Option α) : ∀ (n : Nat) (x0 : List Int) (x1 : List Int) (x5 : Int), iter (rnd C k cd0 6 Q) n (St1 x0 x1 x5) = l0 k (fun (x4 : Int) => Q .ret (St4 x4)) (Q (.exit 0) St5) n x0 x1 x5
  | 0, _, _, _ => rfl
  | n + 1, x0, x1, x5 => (iter_succ _ _ _).trans ((l0s_eq k (iter (rnd C k cd0 6 Q) n) Q x0 x1 x5).trans (congrArg (fun N => l0s N (fun (x4 : Int) => Q .ret (St4 x4)) (Q (.exit 0) St5) x0 x1 x5) (funext fun x0 => funext fun x1 => funext fun x5 => l0_eq k Q n x0 x1 x5)))
theorem l0_congr {α : Type} (k : Nat) (Rt : Int → Option α) (Xt0 : Option α) (Rtq : Int → Option α) (Xt0q : Option α) (hRt : ∀ (x4 : Int), Rt x4 = Rtq x4) (hXt0 : Xt0 = Xt0q) (n : Nat) (x0 : List Int) (x1 : List Int) (x5 : Int) : l0 k Rt Xt0 n x0 x1 x5 = l0 k Rtq Xt0q n x0 x1 x5 := by
  obtain rfl : Rt = Rtq := by funext x4; exact hRt x4
  obtain rfl : Xt0 = Xt0q := hXt0
  rfl
noncomputable def cd4 : Code := cR (cR (cB Try.f113))
def St6 : St := stL 40 [] []
def j2 {α : Type} (Rt : Int → Option α) : Option α :=
  Rt 0
theorem j2_eq {α : Type} (k : Nat) (Q : Ex → St → Option α) :
    (den C k) cd4 Q St6 = j2 (fun (x4 : Int) => Q .ret (St4 x4)) := by
  have h : ∀ (D L : DT α), denJ D L Js C cd4 Q St6 =
        Q .ret (St4 0) := by
    intro D L; kernel_rfl
  refine (show (den C k) cd4 Q St6 = denJ (den C k) (lp C k) Js C cd4 Q St6 from (denJ_den _ _ _ _ _ _).symm).trans ((h (den C k) (lp C k)).trans ?_)
  first | rfl | kernel_rfl
theorem a0 {α : Type} (k : Nat) (Q : Ex → St → Option α) (x0 : List Int) (x1 : List Int) (x5 : Int) :
    (lp C k) cd0 (blkQ C 0 (sq (den C k) (lp C k) Js C cd4 Q)) (St1 x0 x1 x5) = l0 k (fun (x4 : Int) => (fun (x4 : Int) => Q .ret (St4 x4)) x4) (j2 (fun (x4 : Int) => Q .ret (St4 x4))) k x0 x1 x5 :=
  (show (lp C k) cd0 (blkQ C 0 (sq (den C k) (lp C k) Js C cd4 Q)) (St1 x0 x1 x5) = iter (rnd C k cd0 6 (blkQ C 0 (sq (den C k) (lp C k) Js C cd4 Q))) k (St1 x0 x1 x5) by kernel_rfl).trans ((l0_eq k (blkQ C 0 (sq (den C k) (lp C k) Js C cd4 Q)) k x0 x1 x5).trans (l0_congr k _ _ _ _ (fun x4 => (show (blkQ C 0 (sq (den C k) (lp C k) Js C cd4 Q)) .ret (St4 x4) = Q .ret (St4 x4) by kernel_rfl)) ((show (blkQ C 0 (sq (den C k) (lp C k) Js C cd4 Q)) (.exit 0) St5 = (den C k) cd4 Q St6 by kernel_rfl).trans (by simp only [j2_eq])) k x0 x1 x5))
def top {α : Type} (k : Nat) (Rt : Int → Option α) (x0 : List Int) (x1 : List Int) : Option α :=
  l0 k (fun (x4 : Int) => Rt x4) (j2 Rt) k x0 x1 (IntKind.i64.wrap ((if (x1.length : Int) > (x0.length : Int) then (x1.length : Int) else (x0.length : Int)) - 1))
theorem top_eq {α : Type} (k : Nat) (Q : Ex → St → Option α) (x0 : List Int) (x1 : List Int) :
    (den C k) (cB Try.f113) Q (St0 x0 x1) = top k (fun (x4 : Int) => Q .ret (St4 x4)) x0 x1 := by
  have h : ∀ (D L : DT α), denJ D L Js C (cB Try.f113) Q (St0 x0 x1) =
        L cd0 (blkQ C 0 (sq D L Js C cd4 Q)) (St1 x0 x1 (IntKind.i64.wrap ((if (x1.length : Int) > (x0.length : Int) then (x1.length : Int) else (x0.length : Int)) - 1))) := by
    intro D L; kernel_rfl
  refine (show (den C k) (cB Try.f113) Q (St0 x0 x1) = denJ (den C k) (lp C k) Js C (cB Try.f113) Q (St0 x0 x1) from (denJ_den _ _ _ _ _ _).symm).trans ((h (den C k) (lp C k)).trans ?_)
  simp only [a0]
  first | rfl | kernel_rfl
def run (x0 : List Int) (x1 : List Int) : Option (Int) := top (α := Int) fuel (fun (x4 : Int) => some x4) x0 x1
def F : Fn := ⟨(.pair (.sl (.int .u64)) (.pair (.sl (.int .u64)) .unit)), (.int .i64), false, fun x => run x.1 x.2.1⟩
set_option maxRecDepth 100000 in
theorem con : Con Try.prog 113 F := by
  refine con_of_den (C := C) (ctx_ok (by kernel_rfl) (by kernel_rfl) (by kernel_rfl) (by kernel_rfl) trivial) (by kernel_rfl) Try.func113 (c := cB Try.f113) (by kernel_rfl) (by kernel_rfl) F fuel (fun x => by simp [F, spread, Try.ntmps113]) ?_
  intro x r h
  rw [← h]
  have h1 : start F Try.f113.ntmps x = (St0 x.1 x.2.1) := by kernel_rfl
  rw [h1]
  refine (top_eq fuel (fin C Try.f113.results.toList F.rs F.multi) x.1 x.2.1).trans ?_
  kernel_rfl
theorem named : Named Try.prog 113 := named_of Try.func113 (by kernel_rfl) (by kernel_rfl)
end Go.Bx.basculeref_compare
namespace Go.Bx.basculeref_wide
open Go Go.Proofs Go.Bx
set_option maxRecDepth 100000
set_option linter.unusedVariables false
def Js : List Nat := [10, 11]
def C : Ctx := ⟨[(4, .bool), (24, (.int .u64)), (45, (.arr 4 (.int .u64))), (134, (.sl (.int .u64)))], [], [], fnL [], noSh, [], invL [], [(2, [2, 3]), (1, [2, 4, 5]), (4, [2, 4, 5, 8, 9, 10]), (12, [2, 4, 5, 8, 9, 10]), (27, [2, 4, 5, 8, 9, 10]), (30, [2, 4, 5])], [], [], 0, 0⟩
def St0 (x0 : List Int) : St := stL 36 [(0, .data (.sl (.int .u64)) x0)] []
def St1 (x5 : Bool) (x8 : List Int) (x9 : Int) (x10 : Int) (c2 : List Int) (c4 : List Int) : St := stL 36 [(2, .ref 2 0 []), (4, .ref 4 0 []), (5, .data .bool x5), (8, .data (.sl (.int .u64)) x8), (9, .data (.int .i64) x9), (10, .data (.int .i64) x10)] [(2, .cell (.arr 4 (.int .u64)) (.data (.arr 4 (.int .u64)) c2) false), (4, .cell (.arr 4 (.int .u64)) (.data (.arr 4 (.int .u64)) c4) false)]
noncomputable def cd0 : Code := cL (cL (cR (cL (cR (cR (cR (cB Try.f106)))))))
def St2 (x5 : Bool) (x8 : List Int) (x9 : Int) (x10 : Int) (c2 : List Int) (c4 : List Int) : St := stL 36 [(2, .ref 2 0 []), (4, .ref 4 0 []), (5, .data .bool x5), (8, .data (.sl (.int .u64)) x8), (9, .data (.int .i64) x9), (10, .data (.int .i64) x10)] [(2, .cell (.arr 4 (.int .u64)) (.data (.arr 4 (.int .u64)) c2) false), (4, .cell (.arr 4 (.int .u64)) (.data (.arr 4 (.int .u64)) c4) false)]
noncomputable def cd1 : Code := cR (cR (cR (cL (cL (cR (cL (cR (cR (cR (cB Try.f106))))))))))
def j0 {α : Type} (Nx : Bool → (List Int) → Int → Int → (List Int) → (List Int) → Option α) (x5 : Bool) (x8 : List Int) (x9 : Int) (x10 : Int) (c2 : List Int) (c4 : List Int) : Option α :=
  Nx x5 x8 x9 (IntKind.i64.wrap (x10 + 1)) c2 c4
theorem j0_eq {α : Type} (k : Nat) (next : St → Option α) (Q : Ex → St → Option α) (x5 : Bool) (x8 : List Int) (x9 : Int) (x10 : Int) (c2 : List Int) (c4 : List Int) :
    (den C k) cd1 (lq C 12 next Q) (St2 x5 x8 x9 x10 c2 c4) = j0 (fun (x5 : Bool) (x8 : List Int) (x9 : Int) (x10 : Int) (c2 : List Int) (c4 : List Int) => next (St1 x5 x8 x9 x10 c2 c4)) x5 x8 x9 x10 c2 c4 := by
  have h : ∀ (D L : DT α), denJ D L Js C cd1 (lq C 12 next Q) (St2 x5 x8 x9 x10 c2 c4) =
        next (St1 x5 x8 x9 (IntKind.i64.wrap (x10 + 1)) c2 c4) := by
    intro D L; kernel_rfl
  refine (show (den C k) cd1 (lq C 12 next Q) (St2 x5 x8 x9 x10 c2 c4) = denJ (den C k) (lp C k) Js C cd1 (lq C 12 next Q) (St2 x5 x8 x9 x10 c2 c4) from (denJ_den _ _ _ _ _ _).symm).trans ((h (den C k) (lp C k)).trans ?_)
  first | rfl | kernel_rfl
def St3 (x5 : Bool) (c2 : List Int) (c4 : List Int) : St := stL 36 [(2, .ref 2 0 []), (4, .ref 4 0 []), (5, .data .bool x5)] [(2, .cell (.arr 4 (.int .u64)) (.data (.arr 4 (.int .u64)) c2) false), (4, .cell (.arr 4 (.int .u64)) (.data (.arr 4 (.int .u64)) c4) false)]
def l0s {α : Type} (Nx : Bool → (List Int) → Int → Int → (List Int) → (List Int) → Option α) (Xt0 : Bool → (List Int) → (List Int) → Option α) (x5 : Bool) (x8 : List Int) (x9 : Int) (x10 : Int) (c2 : List Int) (c4 : List Int) : Option α :=
  if (decide (x10 < x9)) = true then
    if 0 ≤ x10 ∧ x10 < (x8.length : Int) then
      if (decide (x10 ≥ 8)) = true then
        j0 Nx (cond x5 true ((List.getD x8 (Int.toNat x10) 0) != 0)) x8 x9 x10 c2 c4
      else
        if 0 ≤ (IntKind.i64.wrap (Int.tdiv x10 2)) ∧ (IntKind.i64.wrap (Int.tdiv x10 2)) < (4 : Int) then
          if 0 ≤ (IntKind.i64.wrap (32 * (Int.tmod x10 2))) then
            if 0 ≤ (IntKind.i64.wrap (Int.tdiv x10 2)) ∧ (IntKind.i64.wrap (Int.tdiv x10 2)) < (4 : Int) then
              j0 Nx x5 x8 x9 x10 c2 (List.set c4 (Int.toNat (IntKind.i64.wrap (Int.tdiv x10 2))) (bor .u64 (List.getD c4 (Int.toNat (IntKind.i64.wrap (Int.tdiv x10 2))) 0) (shlI .u64 (List.getD x8 (Int.toNat x10) 0) (IntKind.i64.wrap (32 * (Int.tmod x10 2))))))
            else none
          else none
        else none
    else none
  else
    Xt0 x5 c2 c4
theorem l0s_eq {α : Type} (k : Nat) (next : St → Option α) (Q : Ex → St → Option α) (x5 : Bool) (x8 : List Int) (x9 : Int) (x10 : Int) (c2 : List Int) (c4 : List Int) :
    rnd C k cd0 12 Q next (St1 x5 x8 x9 x10 c2 c4) = l0s (fun (x5 : Bool) (x8 : List Int) (x9 : Int) (x10 : Int) (c2 : List Int) (c4 : List Int) => next (St1 x5 x8 x9 x10 c2 c4)) (fun (x5 : Bool) (c2 : List Int) (c4 : List Int) => Q (.exit 0) (St3 x5 c2 c4)) x5 x8 x9 x10 c2 c4 := by
  have h : ∀ (D L : DT α), denJ D L Js C cd0 (lq C 12 next Q) (St1 x5 x8 x9 x10 c2 c4) =
        if (decide (x10 < x9)) = true then
          if 0 ≤ x10 ∧ x10 < (x8.length : Int) then
            if (decide (x10 ≥ 8)) = true then
              D cd1 (lq C 12 next Q) (St2 (cond x5 true ((List.getD x8 (Int.toNat x10) 0) != 0)) x8 x9 x10 c2 c4)
            else
              if 0 ≤ (IntKind.i64.wrap (Int.tdiv x10 2)) ∧ (IntKind.i64.wrap (Int.tdiv x10 2)) < (4 : Int) then
                if 0 ≤ (IntKind.i64.wrap (32 * (Int.tmod x10 2))) then
                  if 0 ≤ (IntKind.i64.wrap (Int.tdiv x10 2)) ∧ (IntKind.i64.wrap (Int.tdiv x10 2)) < (4 : Int) then
                    D cd1 (lq C 12 next Q) (St2 x5 x8 x9 x10 c2 (List.set c4 (Int.toNat (IntKind.i64.wrap (Int.tdiv x10 2))) (bor .u64 (List.getD c4 (Int.toNat (IntKind.i64.wrap (Int.tdiv x10 2))) 0) (shlI .u64 (List.getD x8 (Int.toNat x10) 0) (IntKind.i64.wrap (32 * (Int.tmod x10 2)))))))
                  else none
                else none
              else none
          else none
        else
          Q (.exit 0) (St3 x5 c2 c4) := by
    intro D L; kernel_rfl
  refine (show rnd C k cd0 12 Q next (St1 x5 x8 x9 x10 c2 c4) = denJ (den C k) (lp C k) Js C cd0 (lq C 12 next Q) (St1 x5 x8 x9 x10 c2 c4) from (denJ_den _ _ _ _ _ _).symm).trans ((h (den C k) (lp C k)).trans ?_)
  simp only [j0_eq]
  first | rfl | kernel_rfl
def l0 {α : Type} (k : Nat) (Xt0 : Bool → (List Int) → (List Int) → Option α) : Nat → Bool → (List Int) → Int → Int → (List Int) → (List Int) → Option α
  | 0, _, _, _, _, _, _ => none
  | n + 1, x5, x8, x9, x10, c2, c4 => l0s (l0 k Xt0 n) Xt0 x5 x8 x9 x10 c2 c4
theorem l0_eq {α : Type} (k : Nat) (Q : Ex → St → Option α) : ∀ (n : Nat) (x5 : Bool) (x8 : List Int) (x9 : Int) (x10 : Int) (c2 : List Int) (c4 : List Int), iter (rnd C k cd0 12 Q) n (St1 x5 x8 x9 x10 c2 c4) = l0 k (fun (x5 : Bool) (c2 : List Int) (c4 : List Int) => Q (.exit 0) (St3 x5 c2 c4)) n x5 x8 x9 x10 c2 c4
  | 0, _, _, _, _, _, _ => rfl
  | n + 1, x5, x8, x9, x10, c2, c4 => (iter_succ _ _ _).trans ((l0s_eq k (iter (rnd C k cd0 12 Q) n) Q x5 x8 x9 x10 c2 c4).trans (congrArg (fun N => l0s N (fun (x5 : Bool) (c2 : List Int) (c4 : List Int) => Q (.exit 0) (St3 x5 c2 c4)) x5 x8 x9 x10 c2 c4) (funext fun x5 => funext fun x8 => funext fun x9 => funext fun x10 => funext fun c2 => funext fun c4 => l0_eq k Q n x5 x8 x9 x10 c2 c4)))
theorem l0_congr {α : Type} (k : Nat) (Xt0 : Bool → (List Int) → (List Int) → Option α) (Xt0q : Bool → (List Int) → (List Int) → Option α) (hXt0 : ∀ (x5 : Bool) (c2 : List Int) (c4 : List Int), Xt0 x5 c2 c4 = Xt0q x5 c2 c4) (n : Nat) (x5 : Bool) (x8 : List Int) (x9 : Int) (x10 : Int) (c2 : List Int) (c4 : List Int) : l0 k Xt0 n x5 x8 x9 x10 c2 c4 = l0 k Xt0q n x5 x8 x9 x10 c2 c4 := by
  obtain rfl : Xt0 = Xt0q := by funext x5; funext c2; funext c4; exact hXt0 x5 c2 c4
  rfl
noncomputable def cd2 : Code := cR (cR (cR (cR (cB Try.f106))))
def St4 (x5 : Bool) (c2 : List Int) (c4 : List Int) : St := stL 36 [(2, .ref 2 0 []), (4, .ref 4 0 []), (5, .data .bool x5)] [(2, .cell (.arr 4 (.int .u64)) (.data (.arr 4 (.int .u64)) c2) false), (4, .cell (.arr 4 (.int .u64)) (.data (.arr 4 (.int .u64)) c4) false)]
def St5 (x3 : Bool) (c2 : List Int) : St := stL 36 [(2, .ref 2 0 []), (3, .data .bool x3)] [(2, .cell (.arr 4 (.int .u64)) (.data (.arr 4 (.int .u64)) c2) false)]
def j1 {α : Type} (Rt : Bool → (List Int) → Option α) (x5 : Bool) (c2 : List Int) (c4 : List Int) : Option α :=
  Rt x5 c4
theorem j1_eq {α : Type} (k : Nat) (Q : Ex → St → Option α) (x5 : Bool) (c2 : List Int) (c4 : List Int) :
    (den C k) cd2 Q (St4 x5 c2 c4) = j1 (fun (x3 : Bool) (c2 : List Int) => Q .ret (St5 x3 c2)) x5 c2 c4 := by
  have h : ∀ (D L : DT α), denJ D L Js C cd2 Q (St4 x5 c2 c4) =
        Q .ret (St5 x5 c4) := by
    intro D L; kernel_rfl
  refine (show (den C k) cd2 Q (St4 x5 c2 c4) = denJ (den C k) (lp C k) Js C cd2 Q (St4 x5 c2 c4) from (denJ_den _ _ _ _ _ _).symm).trans ((h (den C k) (lp C k)).trans ?_)
  first | rfl | kernel_rfl
theorem a0 {α : Type} (k : Nat) (Q : Ex → St → Option α) (x5 : Bool) (x8 : List Int) (x9 : Int) (x10 : Int) (c2 : List Int) (c4 : List Int) :
    (lp C k) cd0 (blkQ C 0 (sq (den C k) (lp C k) Js C cd2 Q)) (St1 x5 x8 x9 x10 c2 c4) = l0 k (fun (x5 : Bool) (c2 : List Int) (c4 : List Int) => j1 (fun (x3 : Bool) (c2 : List Int) => Q .ret (St5 x3 c2)) x5 c2 c4) k x5 x8 x9 x10 c2 c4 :=
  (show (lp C k) cd0 (blkQ C 0 (sq (den C k) (lp C k) Js C cd2 Q)) (St1 x5 x8 x9 x10 c2 c4) = iter (rnd C k cd0 12 (blkQ C 0 (sq (den C k) (lp C k) Js C cd2 Q))) k (St1 x5 x8 x9 x10 c2 c4) by kernel_rfl).trans ((l0_eq k (blkQ C 0 (sq (den C k) (lp C k) Js C cd2 Q)) k x5 x8 x9 x10 c2 c4).trans (l0_congr k _ _ (fun x5 c2 c4 => ((show (blkQ C 0 (sq (den C k) (lp C k) Js C cd2 Q)) (.exit 0) (St3 x5 c2 c4) = (den C k) cd2 Q (St4 x5 c2 c4) by kernel_rfl).trans (by simp only [j1_eq]))) k x5 x8 x9 x10 c2 c4))
def top {α : Type} (k : Nat) (Rt : Bool → (List Int) → Option α) (x0 : List Int) : Option α :=
  l0 k (fun (x5 : Bool) (c2 : List Int) (c4 : List Int) => j1 Rt x5 c2 c4) k false x0 (x0.length : Int) 0 [0, 0, 0, 0] [0, 0, 0, 0]
theorem top_eq {α : Type} (k : Nat) (Q : Ex → St → Option α) (x0 : List Int) :
    (den C k) (cB Try.f106) Q (St0 x0) = top k (fun (x3 : Bool) (c2 : List Int) => Q .ret (St5 x3 c2)) x0 := by
  have h : ∀ (D L : DT α), denJ D L Js C (cB Try.f106) Q (St0 x0) =
        L cd0 (blkQ C 0 (sq D L Js C cd2 Q)) (St1 false x0 (x0.length : Int) 0 [0, 0, 0, 0] [0, 0, 0, 0]) := by
    intro D L; kernel_rfl
  refine (show (den C k) (cB Try.f106) Q (St0 x0) = denJ (den C k) (lp C k) Js C (cB Try.f106) Q (St0 x0) from (denJ_den _ _ _ _ _ _).symm).trans ((h (den C k) (lp C k)).trans ?_)
  simp only [a0]
  first | rfl | kernel_rfl
def run (x0 : List Int) : Option (List Int × Bool × Unit) := top (α := List Int × Bool × Unit) fuel (fun (x3 : Bool) (c2 : List Int) => some (c2, x3, ())) x0
def F : Fn := ⟨(.pair (.sl (.int .u64)) .unit), (.pair (.arr 4 (.int .u64)) (.pair .bool .unit)), true, fun x => run x.1⟩
set_option maxRecDepth 100000 in
theorem con : Con Try.prog 106 F := by
  refine con_of_den (C := C) (ctx_ok (by kernel_rfl) (by kernel_rfl) (by kernel_rfl) (by kernel_rfl) trivial) (by kernel_rfl) Try.func106 (c := cB Try.f106) (by kernel_rfl) (by kernel_rfl) F fuel (fun x => by simp [F, spread, Try.ntmps106]) ?_
  intro x r h
  rw [← h]
  have h1 : start F Try.f106.ntmps x = (St0 x.1) := by kernel_rfl
  rw [h1]
  refine (top_eq fuel (fin C Try.f106.results.toList F.rs F.multi) x.1).trans ?_
  kernel_rfl
theorem named : Named Try.prog 106 := named_of Try.func106 (by kernel_rfl) (by kernel_rfl)
end Go.Bx.basculeref_wide
namespace Go.Bx.basculeref_cut
open Go Go.Proofs Go.Bx
set_option maxRecDepth 100000
set_option linter.unusedVariables false
def Js : List Nat := []
def C : Ctx := ⟨[(45, (.arr 4 (.int .u64))), (134, (.sl (.int .u64)))], [], [], fnL [(106, Go.Bx.basculeref_wide.F)], noSh, [], invL [], [(2, [2])], [], [], 0, 0⟩
def St0 (x0 : List Int) : St := stL 11 [(0, .data (.sl (.int .u64)) x0)] []
def St1 (c2 : List Int) : St := stL 11 [(2, .ref 2 0 [])] [(2, .cell (.arr 4 (.int .u64)) (.data (.arr 4 (.int .u64)) c2) false)]
def top {α : Type} (Rt : (List Int) → Option α) (x0 : List Int) : Option α :=
  (Go.Bx.basculeref_wide.run x0).bind fun y1 =>
  Rt y1.1
theorem top_eq {α : Type} (k : Nat) (Q : Ex → St → Option α) (x0 : List Int) :
    (den C k) (cB Try.f114) Q (St0 x0) = top (fun (c2 : List Int) => Q .ret (St1 c2)) x0 := by
  have h : ∀ (D L : DT α), denJ D L Js C (cB Try.f114) Q (St0 x0) =
        (Go.Bx.basculeref_wide.run x0).bind fun y1 =>
        Q .ret (St1 y1.1) := by
    intro D L; kernel_rfl
  refine (show (den C k) (cB Try.f114) Q (St0 x0) = denJ (den C k) (lp C k) Js C (cB Try.f114) Q (St0 x0) from (denJ_den _ _ _ _ _ _).symm).trans ((h (den C k) (lp C k)).trans ?_)
  first | rfl | kernel_rfl
def run (x0 : List Int) : Option (List Int) := top (α := List Int) (fun (c2 : List Int) => some c2) x0
def F : Fn := ⟨(.pair (.sl (.int .u64)) .unit), (.arr 4 (.int .u64)), false, fun x => run x.1⟩
set_option maxRecDepth 100000 in
theorem con : Con Try.prog 114 F := by
  refine con_of_den (C := C) (ctx_ok (by kernel_rfl) (by kernel_rfl) (by kernel_rfl) (by kernel_rfl) ⟨.inl ⟨Go.Bx.basculeref_wide.con, Go.Bx.basculeref_wide.named⟩, trivial⟩) (by kernel_rfl) Try.func114 (c := cB Try.f114) (by kernel_rfl) (by kernel_rfl) F fuel (fun x => by simp [F, spread, Try.ntmps114]) ?_
  intro x r h
  rw [← h]
  have h1 : start F Try.f114.ntmps x = (St0 x.1) := by kernel_rfl
  rw [h1]
  refine (top_eq fuel (fin C Try.f114.results.toList F.rs F.multi) x.1).trans ?_
  kernel_rfl
theorem named : Named Try.prog 114 := named_of Try.func114 (by kernel_rfl) (by kernel_rfl)
end Go.Bx.basculeref_cut
namespace Go.Bx.x_add64
open Go Go.Proofs Go.Bx
def run (x y c : Int) : Option (Int × Int × Unit) := add64 x y c
def F : Fn := ⟨U3, U2, true, fun x => run x.1 x.2.1 x.2.2.1⟩
theorem ext : ExtOk Try.prog 111 F := ext_add64 Try.func111 (by kernel_rfl) (by kernel_rfl) (by kernel_rfl) (by kernel_rfl)
end Go.Bx.x_add64
namespace Go.Bx.wide_Add
open Go Go.Proofs Go.Bx
set_option maxRecDepth 100000
set_option linter.unusedVariables false
def Js : List Nat := [8]
def C : Ctx := ⟨[(4, .bool), (24, (.int .u64)), (45, (.arr 4 (.int .u64)))], [], [], fnL [(111, Go.Bx.x_add64.F)], noSh, [], invL [], [(2, [4, 5]), (1, [2, 4, 6]), (4, [2, 3, 4, 6, 8]), (9, [2, 3, 4, 6, 8]), (21, [2, 4, 6])], [], [], 0, 0⟩
def St0 (x0 : List Int) (x1 : List Int) : St := stL 28 [(0, .data (.arr 4 (.int .u64)) x0), (1, .data (.arr 4 (.int .u64)) x1)] []
def St1 (x6 : Int) (x8 : Int) (c2 : List Int) (c3 : List Int) (c4 : List Int) : St := stL 28 [(2, .ref 2 0 []), (3, .ref 3 0 []), (4, .ref 4 0 []), (6, .data (.int .u64) x6), (8, .data (.int .i64) x8)] [(2, .cell (.arr 4 (.int .u64)) (.data (.arr 4 (.int .u64)) c2) false), (3, .cell (.arr 4 (.int .u64)) (.data (.arr 4 (.int .u64)) c3) false), (4, .cell (.arr 4 (.int .u64)) (.data (.arr 4 (.int .u64)) c4) false)]
noncomputable def cd0 : Code := cL (cL (cR (cL (cR (cR (cB Try.f41))))))
def St2 (x6 : Int) (c2 : List Int) (c4 : List Int) : St := stL 28 [(2, .ref 2 0 []), (4, .ref 4 0 []), (6, .data (.int .u64) x6)] [(2, .cell (.arr 4 (.int .u64)) (.data (.arr 4 (.int .u64)) c2) false), (4, .cell (.arr 4 (.int .u64)) (.data (.arr 4 (.int .u64)) c4) false)]
def l0s {α : Type} (Nx : Int → Int → (List Int) → (List Int) → (List Int) → Option α) (Xt0 : Int → (List Int) → (List Int) → Option α) (x6 : Int) (x8 : Int) (c2 : List Int) (c3 : List Int) (c4 : List Int) : Option α :=
  if (decide (x8 < 4)) = true then
    if 0 ≤ x8 ∧ x8 < (4 : Int) then
      if 0 ≤ x8 ∧ x8 < (4 : Int) then
        (Go.Bx.x_add64.run (List.getD c2 (Int.toNat x8) 0) (List.getD c3 (Int.toNat x8) 0) x6).bind fun y1 =>
        if 0 ≤ x8 ∧ x8 < (4 : Int) then
          Nx y1.2.1 (IntKind.i64.wrap (x8 + 1)) (List.set c2 (Int.toNat x8) y1.1) c3 c4
        else none
      else none
    else none
  else
    Xt0 x6 c2 c4
theorem l0s_eq {α : Type} (k : Nat) (next : St → Option α) (Q : Ex → St → Option α) (x6 : Int) (x8 : Int) (c2 : List Int) (c3 : List Int) (c4 : List Int) :
    rnd C k cd0 9 Q next (St1 x6 x8 c2 c3 c4) = l0s (fun (x6 : Int) (x8 : Int) (c2 : List Int) (c3 : List Int) (c4 : List Int) => next (St1 x6 x8 c2 c3 c4)) (fun (x6 : Int) (c2 : List Int) (c4 : List Int) => Q (.exit 0) (St2 x6 c2 c4)) x6 x8 c2 c3 c4 := by
  have h : ∀ (D L : DT α), denJ D L Js C cd0 (lq C 9 next Q) (St1 x6 x8 c2 c3 c4) =
        if (decide (x8 < 4)) = true then
          if 0 ≤ x8 ∧ x8 < (4 : Int) then
            if 0 ≤ x8 ∧ x8 < (4 : Int) then
              (Go.Bx.x_add64.run (List.getD c2 (Int.toNat x8) 0) (List.getD c3 (Int.toNat x8) 0) x6).bind fun y1 =>
              if 0 ≤ x8 ∧ x8 < (4 : Int) then
                next (St1 y1.2.1 (IntKind.i64.wrap (x8 + 1)) (List.set c2 (Int.toNat x8) y1.1) c3 c4)
              else none
            else none
          else none
        else
          Q (.exit 0) (St2 x6 c2 c4) := by
    intro D L; kernel_rfl
  refine (show rnd C k cd0 9 Q next (St1 x6 x8 c2 c3 c4) = denJ (den C k) (lp C k) Js C cd0 (lq C 9 next Q) (St1 x6 x8 c2 c3 c4) from (denJ_den _ _ _ _ _ _).symm).trans ((h (den C k) (lp C k)).trans ?_)
  first | rfl | kernel_rfl
def l0 {α : Type} (k : Nat) (Xt0 : Int → (List Int) → (List Int) → Option α) : Nat → Int → Int → (List Int) → (List Int) → (List Int) → Option α
  | 0, _, _, _, _, _ => none
  | n + 1, x6, x8, c2, c3, c4 => l0s (l0 k Xt0 n) Xt0 x6 x8 c2 c3 c4
theorem l0_eq {α : Type} (k : Nat) (Q : Ex → St → Option α) : ∀ (n : Nat) (x6 : Int) (x8 : Int) (c2 : List Int) (c3 : List Int) (c4 : List Int), iter (rnd C k cd0 9 Q) n (St1 x6 x8 c2 c3 c4) = l0 k (fun (x6 : Int) (c2 : List Int) (c4 : List Int) => Q (.exit 0) (St2 x6 c2 c4)) n x6 x8 c2 c3 c4
  | 0, _, _, _, _, _ => rfl
  | n + 1, x6, x8, c2, c3, c4 => (iter_succ _ _ _).trans ((l0s_eq k (iter (rnd C k cd0 9 Q) n) Q x6 x8 c2 c3 c4).trans (congrArg (fun N => l0s N (fun (x6 : Int) (c2 : List Int) (c4 : List Int) => Q (.exit 0) (St2 x6 c2 c4)) x6 x8 c2 c3 c4) (funext fun x6 => funext fun x8 => funext fun c2 => funext fun c3 => funext fun c4 => l0_eq k Q n x6 x8 c2 c3 c4)))
theorem l0_congr {α : Type} (k : Nat) (Xt0 : Int → (List Int) → (List Int) → Option α) (Xt0q : Int → (List Int) → (List Int) → Option α) (hXt0 : ∀ (x6 : Int) (c2 : List Int) (c4 : List Int), Xt0 x6 c2 c4 = Xt0q x6 c2 c4) (n : Nat) (x6 : Int) (x8 : Int) (c2 : List Int) (c3 : List Int) (c4 : List Int) : l0 k Xt0 n x6 x8 c2 c3 c4 = l0 k Xt0q n x6 x8 c2 c3 c4 := by
  obtain rfl : Xt0 = Xt0q := by funext x6; funext c2; funext c4; exact hXt0 x6 c2 c4
  rfl
noncomputable def cd1 : Code := cR (cR (cR (cB Try.f41)))
def St3 (x6 : Int) (c2 : List Int) (c4 : List Int) : St := stL 28 [(2, .ref 2 0 []), (4, .ref 4 0 []), (6, .data (.int .u64) x6)] [(2, .cell (.arr 4 (.int .u64)) (.data (.arr 4 (.int .u64)) c2) false), (4, .cell (.arr 4 (.int .u64)) (.data (.arr 4 (.int .u64)) c4) false)]
def St4 (x5 : Bool) (c4 : List Int) : St := stL 28 [(4, .ref 4 0 []), (5, .data .bool x5)] [(4, .cell (.arr 4 (.int .u64)) (.data (.arr 4 (.int .u64)) c4) false)]
def j0 {α : Type} (Rt : Bool → (List Int) → Option α) (x6 : Int) (c2 : List Int) (c4 : List Int) : Option α :=
  Rt (x6 == 1) c2
theorem j0_eq {α : Type} (k : Nat) (Q : Ex → St → Option α) (x6 : Int) (c2 : List Int) (c4 : List Int) :
    (den C k) cd1 Q (St3 x6 c2 c4) = j0 (fun (x5 : Bool) (c4 : List Int) => Q .ret (St4 x5 c4)) x6 c2 c4 := by
  have h : ∀ (D L : DT α), denJ D L Js C cd1 Q (St3 x6 c2 c4) =
        Q .ret (St4 (x6 == 1) c2) := by
    intro D L; kernel_rfl
  refine (show (den C k) cd1 Q (St3 x6 c2 c4) = denJ (den C k) (lp C k) Js C cd1 Q (St3 x6 c2 c4) from (denJ_den _ _ _ _ _ _).symm).trans ((h (den C k) (lp C k)).trans ?_)
  first | rfl | kernel_rfl
theorem a0 {α : Type} (k : Nat) (Q : Ex → St → Option α) (x6 : Int) (x8 : Int) (c2 : List Int) (c3 : List Int) (c4 : List Int) :
    (lp C k) cd0 (blkQ C 0 (sq (den C k) (lp C k) Js C cd1 Q)) (St1 x6 x8 c2 c3 c4) = l0 k (fun (x6 : Int) (c2 : List Int) (c4 : List Int) => j0 (fun (x5 : Bool) (c4 : List Int) => Q .ret (St4 x5 c4)) x6 c2 c4) k x6 x8 c2 c3 c4 :=
  (show (lp C k) cd0 (blkQ C 0 (sq (den C k) (lp C k) Js C cd1 Q)) (St1 x6 x8 c2 c3 c4) = iter (rnd C k cd0 9 (blkQ C 0 (sq (den C k) (lp C k) Js C cd1 Q))) k (St1 x6 x8 c2 c3 c4) by kernel_rfl).trans ((l0_eq k (blkQ C 0 (sq (den C k) (lp C k) Js C cd1 Q)) k x6 x8 c2 c3 c4).trans (l0_congr k _ _ (fun x6 c2 c4 => ((show (blkQ C 0 (sq (den C k) (lp C k) Js C cd1 Q)) (.exit 0) (St2 x6 c2 c4) = (den C k) cd1 Q (St3 x6 c2 c4) by kernel_rfl).trans (by simp only [j0_eq]))) k x6 x8 c2 c3 c4))
def top {α : Type} (k : Nat) (Rt : Bool → (List Int) → Option α) (x0 : List Int) (x1 : List Int) : Option α :=
  l0 k (fun (x6 : Int) (c2 : List Int) (c4 : List Int) => j0 Rt x6 c2 c4) k 0 0 x0 x1 [0, 0, 0, 0]
theorem top_eq {α : Type} (k : Nat) (Q : Ex → St → Option α) (x0 : List Int) (x1 : List Int) :
    (den C k) (cB Try.f41) Q (St0 x0 x1) = top k (fun (x5 : Bool) (c4 : List Int) => Q .ret (St4 x5 c4)) x0 x1 := by
  have h : ∀ (D L : DT α), denJ D L Js C (cB Try.f41) Q (St0 x0 x1) =
        L cd0 (blkQ C 0 (sq D L Js C cd1 Q)) (St1 0 0 x0 x1 [0, 0, 0, 0]) := by
    intro D L; kernel_rfl
  refine (show (den C k) (cB Try.f41) Q (St0 x0 x1) = denJ (den C k) (lp C k) Js C (cB Try.f41) Q (St0 x0 x1) from (denJ_den _ _ _ _ _ _).symm).trans ((h (den C k) (lp C k)).trans ?_)
  simp only [a0]
  first | rfl | kernel_rfl
def run (x0 : List Int) (x1 : List Int) : Option (List Int × Bool × Unit) := top (α := List Int × Bool × Unit) fuel (fun (x5 : Bool) (c4 : List Int) => some (c4, x5, ())) x0 x1
def F : Fn := ⟨(.pair (.arr 4 (.int .u64)) (.pair (.arr 4 (.int .u64)) .unit)), (.pair (.arr 4 (.int .u64)) (.pair .bool .unit)), true, fun x => run x.1 x.2.1⟩
set_option maxRecDepth 100000 in
theorem con : Con Try.prog 41 F := by
  refine con_of_den (C := C) (ctx_ok (by kernel_rfl) (by kernel_rfl) (by kernel_rfl) (by kernel_rfl) ⟨.inr Go.Bx.x_add64.ext, trivial⟩) (by kernel_rfl) Try.func41 (c := cB Try.f41) (by kernel_rfl) (by kernel_rfl) F fuel (fun x => by simp [F, spread, Try.ntmps41]) ?_
  intro x r h
  rw [← h]
  have h1 : start F Try.f41.ntmps x = (St0 x.1 x.2.1) := by kernel_rfl
  rw [h1]
  refine (top_eq fuel (fin C Try.f41.results.toList F.rs F.multi) x.1 x.2.1).trans ?_
  kernel_rfl
theorem named : Named Try.prog 41 := named_of Try.func41 (by kernel_rfl) (by kernel_rfl)
end Go.Bx.wide_Add
namespace Go.Bx.x_sub64
open Go Go.Proofs Go.Bx
def run (x y c : Int) : Option (Int × Int × Unit) := sub64 x y c
def F : Fn := ⟨U3, U2, true, fun x => run x.1 x.2.1 x.2.2.1⟩
theorem ext : ExtOk Try.prog 112 F := ext_sub64 Try.func112 (by kernel_rfl) (by kernel_rfl) (by kernel_rfl) (by kernel_rfl)
end Go.Bx.x_sub64
namespace Go.Bx.wide_Sub
open Go Go.Proofs Go.Bx
set_option maxRecDepth 100000
set_option linter.unusedVariables false
def Js : List Nat := [8]
def C : Ctx := ⟨[(4, .bool), (24, (.int .u64)), (45, (.arr 4 (.int .u64)))], [], [], fnL [(112, Go.Bx.x_sub64.F)], noSh, [], invL [], [(2, [4, 5]), (1, [2, 4, 6]), (4, [2, 3, 4, 6, 8]), (9, [2, 3, 4, 6, 8]), (21, [2, 4, 6])], [], [], 0, 0⟩
def St0 (x0 : List Int) (x1 : List Int) : St := stL 28 [(0, .data (.arr 4 (.int .u64)) x0), (1, .data (.arr 4 (.int .u64)) x1)] []
def St1 (x6 : Int) (x8 : Int) (c2 : List Int) (c3 : List Int) (c4 : List Int) : St := stL 28 [(2, .ref 2 0 []), (3, .ref 3 0 []), (4, .ref 4 0 []), (6, .data (.int .u64) x6), (8, .data (.int .i64) x8)] [(2, .cell (.arr 4 (.int .u64)) (.data (.arr 4 (.int .u64)) c2) false), (3, .cell (.arr 4 (.int .u64)) (.data (.arr 4 (.int .u64)) c3) false), (4, .cell (.arr 4 (.int .u64)) (.data (.arr 4 (.int .u64)) c4) false)]
noncomputable def cd0 : Code := cL (cL (cR (cL (cR (cR (cB Try.f42))))))
def St2 (x6 : Int) (c2 : List Int) (c4 : List Int) : St := stL 28 [(2, .ref 2 0 []), (4, .ref 4 0 []), (6, .data (.int .u64) x6)] [(2, .cell (.arr 4 (.int .u64)) (.data (.arr 4 (.int .u64)) c2) false), (4, .cell (.arr 4 (.int .u64)) (.data (.arr 4 (.int .u64)) c4) false)]
def l0s {α : Type} (Nx : Int → Int → (List Int) → (List Int) → (List Int) → Option α) (Xt0 : Int → (List Int) → (List Int) → Option α) (x6 : Int) (x8 : Int) (c2 : List Int) (c3 : List Int) (c4 : List Int) : Option α :=
  if (decide (x8 < 4)) = true then
    if 0 ≤ x8 ∧ x8 < (4 : Int) then
      if 0 ≤ x8 ∧ x8 < (4 : Int) then
        (Go.Bx.x_sub64.run (List.getD c2 (Int.toNat x8) 0) (List.getD c3 (Int.toNat x8) 0) x6).bind fun y1 =>
        if 0 ≤ x8 ∧ x8 < (4 : Int) then
          Nx y1.2.1 (IntKind.i64.wrap (x8 + 1)) (List.set c2 (Int.toNat x8) y1.1) c3 c4
        else none
      else none
    else none
  else
    Xt0 x6 c2 c4
theorem l0s_eq {α : Type} (k : Nat) (next : St → Option α) (Q : Ex → St → Option α) (x6 : Int) (x8 : Int) (c2 : List Int) (c3 : List Int) (c4 : List Int) :
    rnd C k cd0 9 Q next (St1 x6 x8 c2 c3 c4) = l0s (fun (x6 : Int) (x8 : Int) (c2 : List Int) (c3 : List Int) (c4 : List Int) => next (St1 x6 x8 c2 c3 c4)) (fun (x6 : Int) (c2 : List Int) (c4 : List Int) => Q (.exit 0) (St2 x6 c2 c4)) x6 x8 c2 c3 c4 := by
  have h : ∀ (D L : DT α), denJ D L Js C cd0 (lq C 9 next Q) (St1 x6 x8 c2 c3 c4) =
        if (decide (x8 < 4)) = true then
          if 0 ≤ x8 ∧ x8 < (4 : Int) then
            if 0 ≤ x8 ∧ x8 < (4 : Int) then
              (Go.Bx.x_sub64.run (List.getD c2 (Int.toNat x8) 0) (List.getD c3 (Int.toNat x8) 0) x6).bind fun y1 =>
              if 0 ≤ x8 ∧ x8 < (4 : Int) then
                next (St1 y1.2.1 (IntKind.i64.wrap (x8 + 1)) (List.set c2 (Int.toNat x8) y1.1) c3 c4)
              else none
            else none
          else none
        else
          Q (.exit 0) (St2 x6 c2 c4) := by
    intro D L; kernel_rfl
  refine (show rnd C k cd0 9 Q next (St1 x6 x8 c2 c3 c4) = denJ (den C k) (lp C k) Js C cd0 (lq C 9 next Q) (St1 x6 x8 c2 c3 c4) from (denJ_den _ _ _ _ _ _).symm).trans ((h (den C k) (lp C k)).trans ?_)
  first | rfl | kernel_rfl
def l0 {α : Type} (k : Nat) (Xt0 : Int → (List Int) → (List Int) → Option α) : Nat → Int → Int → (List Int) → (List Int) → (List Int) → Option α
  | 0, _, _, _, _, _ => none
  | n + 1, x6, x8, c2, c3, c4 => l0s (l0 k Xt0 n) Xt0 x6 x8 c2 c3 c4
theorem l0_eq {α : Type} (k : Nat) (Q : Ex → St → Option α) : ∀ (n : Nat) (x6 : Int) (x8 : Int) (c2 : List Int) (c3 : List Int) (c4 : List Int), iter (rnd C k cd0 9 Q) n (St1 x6 x8 c2 c3 c4) = l0 k (fun (x6 : Int) (c2 : List Int) (c4 : List Int) => Q (.exit 0) (St2 x6 c2 c4)) n x6 x8 c2 c3 c4
  | 0, _, _, _, _, _ => rfl
  | n + 1, x6, x8, c2, c3, c4 => (iter_succ _ _ _).trans ((l0s_eq k (iter (rnd C k cd0 9 Q) n) Q x6 x8 c2 c3 c4).trans (congrArg (fun N => l0s N (fun (x6 : Int) (c2 : List Int) (c4 : List Int) => Q (.exit 0) (St2 x6 c2 c4)) x6 x8 c2 c3 c4) (funext fun x6 => funext fun x8 => funext fun c2 => funext fun c3 => funext fun c4 => l0_eq k Q n x6 x8 c2 c3 c4)))
theorem l0_congr {α : Type} (k : Nat) (Xt0 : Int → (List Int) → (List Int) → Option α) (Xt0q : Int → (List Int) → (List Int) → Option α) (hXt0 : ∀ (x6 : Int) (c2 : List Int) (c4 : List Int), Xt0 x6 c2 c4 = Xt0q x6 c2 c4) (n : Nat) (x6 : Int) (x8 : Int) (c2 : List Int) (c3 : List Int) (c4 : List Int) : l0 k Xt0 n x6 x8 c2 c3 c4 = l0 k Xt0q n x6 x8 c2 c3 c4 := by
  obtain rfl : Xt0 = Xt0q := by funext x6; funext c2; funext c4; exact hXt0 x6 c2 c4
  rfl
noncomputable def cd1 : Code := cR (cR (cR (cB Try.f42)))
def St3 (x6 : Int) (c2 : List Int) (c4 : List Int) : St := stL 28 [(2, .ref 2 0 []), (4, .ref 4 0 []), (6, .data (.int .u64) x6)] [(2, .cell (.arr 4 (.int .u64)) (.data (.arr 4 (.int .u64)) c2) false), (4, .cell (.arr 4 (.int .u64)) (.data (.arr 4 (.int .u64)) c4) false)]
def St4 (x5 : Bool) (c4 : List Int) : St := stL 28 [(4, .ref 4 0 []), (5, .data .bool x5)] [(4, .cell (.arr 4 (.int .u64)) (.data (.arr 4 (.int .u64)) c4) false)]
def j0 {α : Type} (Rt : Bool → (List Int) → Option α) (x6 : Int) (c2 : List Int) (c4 : List Int) : Option α :=
  Rt (x6 == 1) c2
theorem j0_eq {α : Type} (k : Nat) (Q : Ex → St → Option α) (x6 : Int) (c2 : List Int) (c4 : List Int) :
    (den C k) cd1 Q (St3 x6 c2 c4) = j0 (fun (x5 : Bool) (c4 : List Int) => Q .ret (St4 x5 c4)) x6 c2 c4 := by
  have h : ∀ (D L : DT α), denJ D L Js C cd1 Q (St3 x6 c2 c4) =
        Q .ret (St4 (x6 == 1) c2) := by
    intro D L; kernel_rfl
  refine (show (den C k) cd1 Q (St3 x6 c2 c4) = denJ (den C k) (lp C k) Js C cd1 Q (St3 x6 c2 c4) from (denJ_den _ _ _ _ _ _).symm).trans ((h (den C k) (lp C k)).trans ?_)
  first | rfl | kernel_rfl
theorem a0 {α : Type} (k : Nat) (Q : Ex → St → Option α) (x6 : Int) (x8 : Int) (c2 : List Int) (c3 : List Int) (c4 : List Int) :
    (lp C k) cd0 (blkQ C 0 (sq (den C k) (lp C k) Js C cd1 Q)) (St1 x6 x8 c2 c3 c4) = l0 k (fun (x6 : Int) (c2 : List Int) (c4 : List Int) => j0 (fun (x5 : Bool) (c4 : List Int) => Q .ret (St4 x5 c4)) x6 c2 c4) k x6 x8 c2 c3 c4 :=
  (show (lp C k) cd0 (blkQ C 0 (sq (den C k) (lp C k) Js C cd1 Q)) (St1 x6 x8 c2 c3 c4) = iter (rnd C k cd0 9 (blkQ C 0 (sq (den C k) (lp C k) Js C cd1 Q))) k (St1 x6 x8 c2 c3 c4) by kernel_rfl).trans ((l0_eq k (blkQ C 0 (sq (den C k) (lp C k) Js C cd1 Q)) k x6 x8 c2 c3 c4).trans (l0_congr k _ _ (fun x6 c2 c4 => ((show (blkQ C 0 (sq (den C k) (lp C k) Js C cd1 Q)) (.exit 0) (St2 x6 c2 c4) = (den C k) cd1 Q (St3 x6 c2 c4) by kernel_rfl).trans (by simp only [j0_eq]))) k x6 x8 c2 c3 c4))
def top {α : Type} (k : Nat) (Rt : Bool → (List Int) → Option α) (x0 : List Int) (x1 : List Int) : Option α :=
  l0 k (fun (x6 : Int) (c2 : List Int) (c4 : List Int) => j0 Rt x6 c2 c4) k 0 0 x0 x1 [0, 0, 0, 0]
theorem top_eq {α : Type} (k : Nat) (Q : Ex → St → Option α) (x0 : List Int) (x1 : List Int) :
    (den C k) (cB Try.f42) Q (St0 x0 x1) = top k (fun (x5 : Bool) (c4 : List Int) => Q .ret (St4 x5 c4)) x0 x1 := by
  have h : ∀ (D L : DT α), denJ D L Js C (cB Try.f42) Q (St0 x0 x1) =
        L cd0 (blkQ C 0 (sq D L Js C cd1 Q)) (St1 0 0 x0 x1 [0, 0, 0, 0]) := by
    intro D L; kernel_rfl
  refine (show (den C k) (cB Try.f42) Q (St0 x0 x1) = denJ (den C k) (lp C k) Js C (cB Try.f42) Q (St0 x0 x1) from (denJ_den _ _ _ _ _ _).symm).trans ((h (den C k) (lp C k)).trans ?_)
  simp only [a0]
  first | rfl | kernel_rfl
def run (x0 : List Int) (x1 : List Int) : Option (List Int × Bool × Unit) := top (α := List Int × Bool × Unit) fuel (fun (x5 : Bool) (c4 : List Int) => some (c4, x5, ())) x0 x1
def F : Fn := ⟨(.pair (.arr 4 (.int .u64)) (.pair (.arr 4 (.int .u64)) .unit)), (.pair (.arr 4 (.int .u64)) (.pair .bool .unit)), true, fun x => run x.1 x.2.1⟩
set_option maxRecDepth 100000 in
theorem con : Con Try.prog 42 F := by
  refine con_of_den (C := C) (ctx_ok (by kernel_rfl) (by kernel_rfl) (by kernel_rfl) (by kernel_rfl) ⟨.inr Go.Bx.x_sub64.ext, trivial⟩) (by kernel_rfl) Try.func42 (c := cB Try.f42) (by kernel_rfl) (by kernel_rfl) F fuel (fun x => by simp [F, spread, Try.ntmps42]) ?_
  intro x r h
  rw [← h]
  have h1 : start F Try.f42.ntmps x = (St0 x.1 x.2.1) := by kernel_rfl
  rw [h1]
  refine (top_eq fuel (fin C Try.f42.results.toList F.rs F.multi) x.1 x.2.1).trans ?_
  kernel_rfl
theorem named : Named Try.prog 42 := named_of Try.func42 (by kernel_rfl) (by kernel_rfl)
end Go.Bx.wide_Sub
namespace Go.Bx.wide_Cmp
open Go Go.Proofs Go.Bx
set_option maxRecDepth 100000
set_option linter.unusedVariables false
def Js : List Nat := [9]
def C : Ctx := ⟨[(3, (.int .i64)), (24, (.int .u64)), (45, (.arr 4 (.int .u64)))], [], [], fnL [], noSh, [], invL [], [(2, [4]), (1, []), (4, [2, 3, 5]), (7, [2, 3, 5]), (6, [2, 3, 5]), (24, [])], [], [], 0, 0⟩
def St0 (x0 : List Int) (x1 : List Int) : St := stL 26 [(0, .data (.arr 4 (.int .u64)) x0), (1, .data (.arr 4 (.int .u64)) x1)] []
def St1 (x5 : Int) (c2 : List Int) (c3 : List Int) : St := stL 26 [(2, .ref 2 0 []), (3, .ref 3 0 []), (5, .data (.int .i64) x5)] [(2, .cell (.arr 4 (.int .u64)) (.data (.arr 4 (.int .u64)) c2) false), (3, .cell (.arr 4 (.int .u64)) (.data (.arr 4 (.int .u64)) c3) false)]
noncomputable def cd0 : Code := cL (cL (cR (cL (cR (cB Try.f88)))))
def St2 (x4 : Int) : St := stL 26 [(4, .data (.int .i64) x4)] []
def St3 : St := stL 26 [] []
def l0s {α : Type} (Nx : Int → (List Int) → (List Int) → Option α) (Rt : Int → Option α) (Xt0 : Option α) (x5 : Int) (c2 : List Int) (c3 : List Int) : Option α :=
  if (decide (x5 ≥ 0)) = true then
    if 0 ≤ x5 ∧ x5 < (4 : Int) then
      if 0 ≤ x5 ∧ x5 < (4 : Int) then
        if (decide ((List.getD c2 (Int.toNat x5) 0) < (List.getD c3 (Int.toNat x5) 0))) = true then
          Rt (-1)
        else
          if 0 ≤ x5 ∧ x5 < (4 : Int) then
            if 0 ≤ x5 ∧ x5 < (4 : Int) then
              if (decide ((List.getD c2 (Int.toNat x5) 0) > (List.getD c3 (Int.toNat x5) 0))) = true then
                Rt 1
              else
                Nx (IntKind.i64.wrap (x5 - 1)) c2 c3
            else none
          else none
      else none
    else none
  else
    Xt0
theorem l0s_eq {α : Type} (k : Nat) (next : St → Option α) (Q : Ex → St → Option α) (x5 : Int) (c2 : List Int) (c3 : List Int) :
    rnd C k cd0 6 Q next (St1 x5 c2 c3) = l0s (fun (x5 : Int) (c2 : List Int) (c3 : List Int) => next (St1 x5 c2 c3)) (fun (x4 : Int) => Q .ret (St2 x4)) (Q (.exit 0) St3) x5 c2 c3 := by
  have h : ∀ (D L : DT α), denJ D L Js C cd0 (lq C 6 next Q) (St1 x5 c2 c3) =
        if (decide (x5 ≥ 0)) = true then
          if 0 ≤ x5 ∧ x5 < (4 : Int) then
            if 0 ≤ x5 ∧ x5 < (4 : Int) then
              if (decide ((List.getD c2 (Int.toNat x5) 0) < (List.getD c3 (Int.toNat x5) 0))) = true then
                Q .ret (St2 (-1))
              else
                if 0 ≤ x5 ∧ x5 < (4 : Int) then
                  if 0 ≤ x5 ∧ x5 < (4 : Int) then
                    if (decide ((List.getD c2 (Int.toNat x5) 0) > (List.getD c3 (Int.toNat x5) 0))) = true then
                      Q .ret (St2 1)
                    else
                      next (St1 (IntKind.i64.wrap (x5 - 1)) c2 c3)
                  else none
                else none
            else none
          else none
        else
          Q (.exit 0) St3 := by
    intro D L; kernel_rfl
  refine (show rnd C k cd0 6 Q next (St1 x5 c2 c3) = denJ (den C k) (lp C k) Js C cd0 (lq C 6 next Q) (St1 x5 c2 c3) from (denJ_den _ _ _ _ _ _).symm).trans ((h (den C k) (lp C k)).trans ?_)
  first | rfl | kernel_rfl
def l0 {α : Type} (k : Nat) (Rt : Int → Option α) (Xt0 : Option α) : Nat → Int → (List Int) → (List Int) → Option α
  | 0, _, _, _ => none
  | n + 1, x5, c2, c3 => l0s (l0 k Rt Xt0 n) Rt Xt0 x5 c2 c3
theorem l0_eq {α : Type} (k : Nat) (Q : Ex → St → Option α) : ∀ (n : Nat) (x5 : Int) (c2 : List Int) (c3 : List Int), iter (rnd C k cd0 6 Q) n (St1 x5 c2 c3) = l0 k (fun (x4 : Int) => Q .ret (St2 x4)) (Q (.exit 0) St3) n x5 c2 c3
  | 0, _, _, _ => rfl
  | n + 1, x5, c2, c3 => (iter_succ _ _ _).trans ((l0s_eq k (iter (rnd C k cd0 6 Q) n) Q x5 c2 c3).trans (congrArg (fun N => l0s N (fun (x4 : Int) => Q .ret (St2 x4)) (Q (.exit 0) St3) x5 c2 c3) (funext fun x5 => funext fun c2 => funext fun c3 => l0_eq k Q n x5 c2 c3)))
theorem l0_congr {α : Type} (k : Nat) (Rt : Int → Option α) (Xt0 : Option α) (Rtq : Int → Option α) (Xt0q : Option α) (hRt : ∀ (x4 : Int), Rt x4 = Rtq x4) (hXt0 : Xt0 = Xt0q) (n : Nat) (x5 : Int) (c2 : List Int) (c3 : List Int) : l0 k Rt Xt0 n x5 c2 c3 = l0 k Rtq Xt0q n x5 c2 c3 := by
  obtain rfl : Rt = Rtq := by funext x4; exact hRt x4
  obtain rfl : Xt0 = Xt0q := hXt0
  rfl
noncomputable def cd1 : Code := cR (cR (cB Try.f88))
def St4 : St := stL 26 [] []
def j0 {α : Type} (Rt : Int → Option α) : Option α :=
  Rt 0
theorem j0_eq {α : Type} (k : Nat) (Q : Ex → St → Option α) :
    (den C k) cd1 Q St4 = j0 (fun (x4 : Int) => Q .ret (St2 x4)) := by
  have h : ∀ (D L : DT α), denJ D L Js C cd1 Q St4 =
        Q .ret (St2 0) := by
    intro D L; kernel_rfl
  refine (show (den C k) cd1 Q St4 = denJ (den C k) (lp C k) Js C cd1 Q St4 from (denJ_den _ _ _ _ _ _).symm).trans ((h (den C k) (lp C k)).trans ?_)
  first | rfl | kernel_rfl
theorem a0 {α : Type} (k : Nat) (Q : Ex → St → Option α) (x5 : Int) (c2 : List Int) (c3 : List Int) :
    (lp C k) cd0 (blkQ C 0 (sq (den C k) (lp C k) Js C cd1 Q)) (St1 x5 c2 c3) = l0 k (fun (x4 : Int) => (fun (x4 : Int) => Q .ret (St2 x4)) x4) (j0 (fun (x4 : Int) => Q .ret (St2 x4))) k x5 c2 c3 :=
  (show (lp C k) cd0 (blkQ C 0 (sq (den C k) (lp C k) Js C cd1 Q)) (St1 x5 c2 c3) = iter (rnd C k cd0 6 (blkQ C 0 (sq (den C k) (lp C k) Js C cd1 Q))) k (St1 x5 c2 c3) by kernel_rfl).trans ((l0_eq k (blkQ C 0 (sq (den C k) (lp C k) Js C cd1 Q)) k x5 c2 c3).trans (l0_congr k _ _ _ _ (fun x4 => (show (blkQ C 0 (sq (den C k) (lp C k) Js C cd1 Q)) .ret (St2 x4) = Q .ret (St2 x4) by kernel_rfl)) ((show (blkQ C 0 (sq (den C k) (lp C k) Js C cd1 Q)) (.exit 0) St3 = (den C k) cd1 Q St4 by kernel_rfl).trans (by simp only [j0_eq])) k x5 c2 c3))
def top {α : Type} (k : Nat) (Rt : Int → Option α) (x0 : List Int) (x1 : List Int) : Option α :=
  l0 k (fun (x4 : Int) => Rt x4) (j0 Rt) k 3 x0 x1
theorem top_eq {α : Type} (k : Nat) (Q : Ex → St → Option α) (x0 : List Int) (x1 : List Int) :
    (den C k) (cB Try.f88) Q (St0 x0 x1) = top k (fun (x4 : Int) => Q .ret (St2 x4)) x0 x1 := by
  have h : ∀ (D L : DT α), denJ D L Js C (cB Try.f88) Q (St0 x0 x1) =
        L cd0 (blkQ C 0 (sq D L Js C cd1 Q)) (St1 3 x0 x1) := by
    intro D L; kernel_rfl
  refine (show (den C k) (cB Try.f88) Q (St0 x0 x1) = denJ (den C k) (lp C k) Js C (cB Try.f88) Q (St0 x0 x1) from (denJ_den _ _ _ _ _ _).symm).trans ((h (den C k) (lp C k)).trans ?_)
  simp only [a0]
  first | rfl | kernel_rfl
def run (x0 : List Int) (x1 : List Int) : Option (Int) := top (α := Int) fuel (fun (x4 : Int) => some x4) x0 x1
def F : Fn := ⟨(.pair (.arr 4 (.int .u64)) (.pair (.arr 4 (.int .u64)) .unit)), (.int .i64), false, fun x => run x.1 x.2.1⟩
set_option maxRecDepth 100000 in
theorem con : Con Try.prog 88 F := by
  refine con_of_den (C := C) (ctx_ok (by kernel_rfl) (by kernel_rfl) (by kernel_rfl) (by kernel_rfl) trivial) (by kernel_rfl) Try.func88 (c := cB Try.f88) (by kernel_rfl) (by kernel_rfl) F fuel (fun x => by simp [F, spread, Try.ntmps88]) ?_
  intro x r h
  rw [← h]
  have h1 : start F Try.f88.ntmps x = (St0 x.1 x.2.1) := by kernel_rfl
  rw [h1]
  refine (top_eq fuel (fin C Try.f88.results.toList F.rs F.multi) x.1 x.2.1).trans ?_
  kernel_rfl
theorem named : Named Try.prog 88 := named_of Try.func88 (by kernel_rfl) (by kernel_rfl)
end Go.Bx.wide_Cmp
namespace Go.Bx.basculeref_times
open Go Go.Proofs Go.Bx
set_option maxRecDepth 100000
set_option linter.unusedVariables false
def Js : List Nat := [13, 14, 15]
def C : Ctx := ⟨[(24, (.int .u64)), (134, (.sl (.int .u64)))], [], [], fnL [], noSh, [], invL [], [(2, [4]), (1, [5]), (4, [1, 5, 18, 19, 20]), (7, [1, 5, 6, 8, 18, 19, 20]), (10, [1, 5, 6, 7, 8, 18, 19, 20, 25, 26, 27]), (9, [1, 5, 18, 19, 20]), (21, [1, 5, 6, 7, 8, 18, 19, 20, 25, 26, 27]), (36, [1, 5, 6, 8, 18, 19, 20]), (39, [1, 5, 18, 19, 20]), (42, [5])], [], [], 0, 0⟩
def St0 (x0 : List Int) (x1 : List Int) : St := stL 63 [(0, .data (.sl (.int .u64)) x0), (1, .data (.sl (.int .u64)) x1)] []
def St1 (x1 : List Int) (x18 : List Int) (x19 : Int) (x20 : Int) (c17 : List Int) : St := stL 63 [(1, .data (.sl (.int .u64)) x1), (5, .app 17 0), (18, .data (.sl (.int .u64)) x18), (19, .data (.int .i64) x19), (20, .data (.int .i64) x20)] [(17, .buf (.int .u64) c17 0 false)]
noncomputable def cd0 : Code := cL (cL (cR (cL (cR (cR (cB Try.f117))))))
def St2 (x1 : List Int) (x6 : Int) (x7 : Int) (x8 : Int) (x18 : List Int) (x19 : Int) (x20 : Int) (x25 : List Int) (x26 : Int) (x27 : Int) (c17 : List Int) : St := stL 63 [(1, .data (.sl (.int .u64)) x1), (5, .app 17 0), (6, .data (.int .i64) x6), (7, .data (.int .u64) x7), (8, .data (.int .u64) x8), (18, .data (.sl (.int .u64)) x18), (19, .data (.int .i64) x19), (20, .data (.int .i64) x20), (25, .data (.sl (.int .u64)) x25), (26, .data (.int .i64) x26), (27, .data (.int .i64) x27)] [(17, .buf (.int .u64) c17 0 false)]
noncomputable def cd1 : Code := cL (cL (cR (cL (cR (cR (cL (cL (cR (cR (cL (cL (cR (cL (cR (cR (cB Try.f117))))))))))))))))
def St3 (x1 : List Int) (x6 : Int) (x8 : Int) (x18 : List Int) (x19 : Int) (x20 : Int) (c17 : List Int) : St := stL 63 [(1, .data (.sl (.int .u64)) x1), (5, .app 17 0), (6, .data (.int .i64) x6), (8, .data (.int .u64) x8), (18, .data (.sl (.int .u64)) x18), (19, .data (.int .i64) x19), (20, .data (.int .i64) x20)] [(17, .buf (.int .u64) c17 0 false)]
def l1s {α : Type} (Nx : (List Int) → Int → Int → Int → (List Int) → Int → Int → (List Int) → Int → Int → (List Int) → Option α) (Xt2 : (List Int) → Int → Int → (List Int) → Int → Int → (List Int) → Option α) (x1 : List Int) (x6 : Int) (x7 : Int) (x8 : Int) (x18 : List Int) (x19 : Int) (x20 : Int) (x25 : List Int) (x26 : Int) (x27 : Int) (c17 : List Int) : Option α :=
  if (decide (x27 < x26)) = true then
    if 0 ≤ x27 ∧ x27 < (x25.length : Int) then
      if 0 ≤ (IntKind.i64.wrap (x6 + x27)) ∧ (IntKind.i64.wrap (x6 + x27)) < (c17.length : Int) then
        if 0 ≤ (IntKind.i64.wrap (x6 + x27)) ∧ (IntKind.i64.wrap (x6 + x27)) < (c17.length : Int) then
          Nx x1 x6 x7 (IntKind.u64.wrap (Int.tdiv (IntKind.u64.wrap ((IntKind.u64.wrap ((IntKind.u64.wrap (x7 * (List.getD x25 (Int.toNat x27) 0))) + (List.getD c17 (Int.toNat (IntKind.i64.wrap (x6 + x27))) 0))) + x8)) 4294967296)) x18 x19 x20 x25 x26 (IntKind.i64.wrap (x27 + 1)) (List.set c17 (Int.toNat (IntKind.i64.wrap (x6 + x27))) (Int.tmod (IntKind.u64.wrap ((IntKind.u64.wrap ((IntKind.u64.wrap (x7 * (List.getD x25 (Int.toNat x27) 0))) + (List.getD c17 (Int.toNat (IntKind.i64.wrap (x6 + x27))) 0))) + x8)) 4294967296))
        else none
      else none
    else none
  else
    Xt2 x1 x6 x8 x18 x19 x20 c17
theorem l1s_eq {α : Type} (k : Nat) (next : St → Option α) (Q : Ex → St → Option α) (x1 : List Int) (x6 : Int) (x7 : Int) (x8 : Int) (x18 : List Int) (x19 : Int) (x20 : Int) (x25 : List Int) (x26 : Int) (x27 : Int) (c17 : List Int) :
    rnd C k cd1 21 Q next (St2 x1 x6 x7 x8 x18 x19 x20 x25 x26 x27 c17) = l1s (fun (x1 : List Int) (x6 : Int) (x7 : Int) (x8 : Int) (x18 : List Int) (x19 : Int) (x20 : Int) (x25 : List Int) (x26 : Int) (x27 : Int) (c17 : List Int) => next (St2 x1 x6 x7 x8 x18 x19 x20 x25 x26 x27 c17)) (fun (x1 : List Int) (x6 : Int) (x8 : Int) (x18 : List Int) (x19 : Int) (x20 : Int) (c17 : List Int) => Q (.exit 2) (St3 x1 x6 x8 x18 x19 x20 c17)) x1 x6 x7 x8 x18 x19 x20 x25 x26 x27 c17 := by
  have h : ∀ (D L : DT α), denJ D L Js C cd1 (lq C 21 next Q) (St2 x1 x6 x7 x8 x18 x19 x20 x25 x26 x27 c17) =
        if (decide (x27 < x26)) = true then
          if 0 ≤ x27 ∧ x27 < (x25.length : Int) then
            if 0 ≤ (IntKind.i64.wrap (x6 + x27)) ∧ (IntKind.i64.wrap (x6 + x27)) < (c17.length : Int) then
              if 0 ≤ (IntKind.i64.wrap (x6 + x27)) ∧ (IntKind.i64.wrap (x6 + x27)) < (c17.length : Int) then
                next (St2 x1 x6 x7 (IntKind.u64.wrap (Int.tdiv (IntKind.u64.wrap ((IntKind.u64.wrap ((IntKind.u64.wrap (x7 * (List.getD x25 (Int.toNat x27) 0))) + (List.getD c17 (Int.toNat (IntKind.i64.wrap (x6 + x27))) 0))) + x8)) 4294967296)) x18 x19 x20 x25 x26 (IntKind.i64.wrap (x27 + 1)) (List.set c17 (Int.toNat (IntKind.i64.wrap (x6 + x27))) (Int.tmod (IntKind.u64.wrap ((IntKind.u64.wrap ((IntKind.u64.wrap (x7 * (List.getD x25 (Int.toNat x27) 0))) + (List.getD c17 (Int.toNat (IntKind.i64.wrap (x6 + x27))) 0))) + x8)) 4294967296)))
              else none
            else none
          else none
        else
          Q (.exit 2) (St3 x1 x6 x8 x18 x19 x20 c17) := by
    intro D L; kernel_rfl
  refine (show rnd C k cd1 21 Q next (St2 x1 x6 x7 x8 x18 x19 x20 x25 x26 x27 c17) = denJ (den C k) (lp C k) Js C cd1 (lq C 21 next Q) (St2 x1 x6 x7 x8 x18 x19 x20 x25 x26 x27 c17) from (denJ_den _ _ _ _ _ _).symm).trans ((h (den C k) (lp C k)).trans ?_)
  first | rfl | kernel_rfl
def l1 {α : Type} (k : Nat) (Xt2 : (List Int) → Int → Int → (List Int) → Int → Int → (List Int) → Option α) : Nat → (List Int) → Int → Int → Int → (List Int) → Int → Int → (List Int) → Int → Int → (List Int) → Option α
  | 0, _, _, _, _, _, _, _, _, _, _, _ => none
  | n + 1, x1, x6, x7, x8, x18, x19, x20, x25, x26, x27, c17 => l1s (l1 k Xt2 n) Xt2 x1 x6 x7 x8 x18 x19 x20 x25 x26 x27 c17
theorem l1_eq {α : Type} (k : Nat) (Q : Ex → St → Option α) : ∀ (n : Nat) (x1 : List Int) (x6 : Int) (x7 : Int) (x8 : Int) (x18 : List Int) (x19 : Int) (x20 : Int) (x25 : List Int) (x26 : Int) (x27 : Int) (c17 : List Int), iter (rnd C k cd1 21 Q) n (St2 x1 x6 x7 x8 x18 x19 x20 x25 x26 x27 c17) = l1 k (fun (x1 : List Int) (x6 : Int) (x8 : Int) (x18 : List Int) (x19 : Int) (x20 : Int) (c17 : List Int) => Q (.exit 2) (St3 x1 x6 x8 x18 x19 x20 c17)) n x1 x6 x7 x8 x18 x19 x20 x25 x26 x27 c17
  | 0, _, _, _, _, _, _, _, _, _, _, _ => rfl
  | n + 1, x1, x6, x7, x8, x18, x19, x20, x25, x26, x27, c17 => (iter_succ _ _ _).trans ((l1s_eq k (iter (rnd C k cd1 21 Q) n) Q x1 x6 x7 x8 x18 x19 x20 x25 x26 x27 c17).trans (congrArg (fun N => l1s N (fun (x1 : List Int) (x6 : Int) (x8 : Int) (x18 : List Int) (x19 : Int) (x20 : Int) (c17 : List Int) => Q (.exit 2) (St3 x1 x6 x8 x18 x19 x20 c17)) x1 x6 x7 x8 x18 x19 x20 x25 x26 x27 c17) (funext fun x1 => funext fun x6 => funext fun x7 => funext fun x8 => funext fun x18 => funext fun x19 => funext fun x20 => funext fun x25 => funext fun x26 => funext fun x27 => funext fun c17 => l1_eq k Q n x1 x6 x7 x8 x18 x19 x20 x25 x26 x27 c17)))
theorem l1_congr {α : Type} (k : Nat) (Xt2 : (List Int) → Int → Int → (List Int) → Int → Int → (List Int) → Option α) (Xt2q : (List Int) → Int → Int → (List Int) → Int → Int → (List Int) → Option α) (hXt2 : ∀ (x1 : List Int) (x6 : Int) (x8 : Int) (x18 : List Int) (x19 : Int) (x20 : Int) (c17 : List Int), Xt2 x1 x6 x8 x18 x19 x20 c17 = Xt2q x1 x6 x8 x18 x19 x20 c17) (n : Nat) (x1 : List Int) (x6 : Int) (x7 : Int) (x8 : Int) (x18 : List Int) (x19 : Int) (x20 : Int) (x25 : List Int) (x26 : Int) (x27 : Int) (c17 : List Int) : l1 k Xt2 n x1 x6 x7 x8 x18 x19 x20 x25 x26 x27 c17 = l1 k Xt2q n x1 x6 x7 x8 x18 x19 x20 x25 x26 x27 c17 := by
  obtain rfl : Xt2 = Xt2q := by funext x1; funext x6; funext x8; funext x18; funext x19; funext x20; funext c17; exact hXt2 x1 x6 x8 x18 x19 x20 c17
  rfl
noncomputable def cd2 : Code := cR (cR (cR (cL (cL (cR (cR (cL (cL (cR (cL (cR (cR (cB Try.f117)))))))))))))
noncomputable def cd3 : Code := cR (cR (cR (cL (cL (cR (cL (cR (cR (cB Try.f117)))))))))
def St4 (x1 : List Int) (x6 : Int) (x8 : Int) (x18 : List Int) (x19 : Int) (x20 : Int) (c17 : List Int) : St := stL 63 [(1, .data (.sl (.int .u64)) x1), (5, .app 17 0), (6, .data (.int .i64) x6), (8, .data (.int .u64) x8), (18, .data (.sl (.int .u64)) x18), (19, .data (.int .i64) x19), (20, .data (.int .i64) x20)] [(17, .buf (.int .u64) c17 0 false)]
def St5 (x1 : List Int) (x18 : List Int) (x19 : Int) (x20 : Int) (c17 : List Int) : St := stL 63 [(1, .data (.sl (.int .u64)) x1), (5, .app 17 0), (18, .data (.sl (.int .u64)) x18), (19, .data (.int .i64) x19), (20, .data (.int .i64) x20)] [(17, .buf (.int .u64) c17 0 false)]
def j1 {α : Type} (Nx : (List Int) → (List Int) → Int → Int → (List Int) → Option α) (x1 : List Int) (x18 : List Int) (x19 : Int) (x20 : Int) (c17 : List Int) : Option α :=
  Nx x1 x18 x19 (IntKind.i64.wrap (x20 + 1)) c17
theorem j1_eq {α : Type} (k : Nat) (next : St → Option α) (Q : Ex → St → Option α) (x1 : List Int) (x18 : List Int) (x19 : Int) (x20 : Int) (c17 : List Int) :
    (den C k) cd3 (lq C 9 next Q) (St5 x1 x18 x19 x20 c17) = j1 (fun (x1 : List Int) (x18 : List Int) (x19 : Int) (x20 : Int) (c17 : List Int) => next (St1 x1 x18 x19 x20 c17)) x1 x18 x19 x20 c17 := by
  have h : ∀ (D L : DT α), denJ D L Js C cd3 (lq C 9 next Q) (St5 x1 x18 x19 x20 c17) =
        next (St1 x1 x18 x19 (IntKind.i64.wrap (x20 + 1)) c17) := by
    intro D L; kernel_rfl
  refine (show (den C k) cd3 (lq C 9 next Q) (St5 x1 x18 x19 x20 c17) = denJ (den C k) (lp C k) Js C cd3 (lq C 9 next Q) (St5 x1 x18 x19 x20 c17) from (denJ_den _ _ _ _ _ _).symm).trans ((h (den C k) (lp C k)).trans ?_)
  first | rfl | kernel_rfl
def j0 {α : Type} (Nx : (List Int) → (List Int) → Int → Int → (List Int) → Option α) (x1 : List Int) (x6 : Int) (x8 : Int) (x18 : List Int) (x19 : Int) (x20 : Int) (c17 : List Int) : Option α :=
  if 0 ≤ (IntKind.i64.wrap (x6 + (x1.length : Int))) ∧ (IntKind.i64.wrap (x6 + (x1.length : Int))) < (c17.length : Int) then
    j1 Nx x1 x18 x19 x20 (List.set c17 (Int.toNat (IntKind.i64.wrap (x6 + (x1.length : Int)))) x8)
  else none
theorem j0_eq {α : Type} (k : Nat) (next : St → Option α) (Q : Ex → St → Option α) (x1 : List Int) (x6 : Int) (x8 : Int) (x18 : List Int) (x19 : Int) (x20 : Int) (c17 : List Int) :
    (den C k) cd2 (blkQ C 1 (sq (den C k) (lp C k) Js C cd3 (lq C 9 next Q))) (St4 x1 x6 x8 x18 x19 x20 c17) = j0 (fun (x1 : List Int) (x18 : List Int) (x19 : Int) (x20 : Int) (c17 : List Int) => next (St1 x1 x18 x19 x20 c17)) x1 x6 x8 x18 x19 x20 c17 := by
  have h : ∀ (D L : DT α), denJ D L Js C cd2 (blkQ C 1 (sq D L Js C cd3 (lq C 9 next Q))) (St4 x1 x6 x8 x18 x19 x20 c17) =
        if 0 ≤ (IntKind.i64.wrap (x6 + (x1.length : Int))) ∧ (IntKind.i64.wrap (x6 + (x1.length : Int))) < (c17.length : Int) then
          D cd3 (lq C 9 next Q) (St5 x1 x18 x19 x20 (List.set c17 (Int.toNat (IntKind.i64.wrap (x6 + (x1.length : Int)))) x8))
        else none := by
    intro D L; kernel_rfl
  refine (show (den C k) cd2 (blkQ C 1 (sq (den C k) (lp C k) Js C cd3 (lq C 9 next Q))) (St4 x1 x6 x8 x18 x19 x20 c17) = denJ (den C k) (lp C k) Js C cd2 (blkQ C 1 (sq (den C k) (lp C k) Js C cd3 (lq C 9 next Q))) (St4 x1 x6 x8 x18 x19 x20 c17) from (denJ_den _ _ _ _ _ _).symm).trans ((h (den C k) (lp C k)).trans ?_)
  simp only [j1_eq]
  first | rfl | kernel_rfl
theorem a0 {α : Type} (k : Nat) (next : St → Option α) (Q : Ex → St → Option α) (x1 : List Int) (x6 : Int) (x7 : Int) (x8 : Int) (x18 : List Int) (x19 : Int) (x20 : Int) (x25 : List Int) (x26 : Int) (x27 : Int) (c17 : List Int) :
    (lp C k) cd1 (blkQ C 2 (sq (den C k) (lp C k) Js C cd2 (blkQ C 1 (sq (den C k) (lp C k) Js C cd3 (lq C 9 next Q))))) (St2 x1 x6 x7 x8 x18 x19 x20 x25 x26 x27 c17) = l1 k (fun (x1 : List Int) (x6 : Int) (x8 : Int) (x18 : List Int) (x19 : Int) (x20 : Int) (c17 : List Int) => j0 (fun (x1 : List Int) (x18 : List Int) (x19 : Int) (x20 : Int) (c17 : List Int) => next (St1 x1 x18 x19 x20 c17)) x1 x6 x8 x18 x19 x20 c17) k x1 x6 x7 x8 x18 x19 x20 x25 x26 x27 c17 :=
  (show (lp C k) cd1 (blkQ C 2 (sq (den C k) (lp C k) Js C cd2 (blkQ C 1 (sq (den C k) (lp C k) Js C cd3 (lq C 9 next Q))))) (St2 x1 x6 x7 x8 x18 x19 x20 x25 x26 x27 c17) = iter (rnd C k cd1 21 (blkQ C 2 (sq (den C k) (lp C k) Js C cd2 (blkQ C 1 (sq (den C k) (lp C k) Js C cd3 (lq C 9 next Q)))))) k (St2 x1 x6 x7 x8 x18 x19 x20 x25 x26 x27 c17) by kernel_rfl).trans ((l1_eq k (blkQ C 2 (sq (den C k) (lp C k) Js C cd2 (blkQ C 1 (sq (den C k) (lp C k) Js C cd3 (lq C 9 next Q))))) k x1 x6 x7 x8 x18 x19 x20 x25 x26 x27 c17).trans (l1_congr k _ _ (fun x1 x6 x8 x18 x19 x20 c17 => ((show (blkQ C 2 (sq (den C k) (lp C k) Js C cd2 (blkQ C 1 (sq (den C k) (lp C k) Js C cd3 (lq C 9 next Q))))) (.exit 2) (St3 x1 x6 x8 x18 x19 x20 c17) = (den C k) cd2 (blkQ C 1 (sq (den C k) (lp C k) Js C cd3 (lq C 9 next Q))) (St4 x1 x6 x8 x18 x19 x20 c17) by kernel_rfl).trans (by simp only [j0_eq]))) k x1 x6 x7 x8 x18 x19 x20 x25 x26 x27 c17))
def St6 (c17 : List Int) : St := stL 63 [(5, .app 17 0)] [(17, .buf (.int .u64) c17 0 false)]
def l0s {α : Type} (k : Nat) (Nx : (List Int) → (List Int) → Int → Int → (List Int) → Option α) (Xt0 : (List Int) → Option α) (x1 : List Int) (x18 : List Int) (x19 : Int) (x20 : Int) (c17 : List Int) : Option α :=
  if (decide (x20 < x19)) = true then
    if 0 ≤ x20 ∧ x20 < (x18.length : Int) then
      l1 k (fun (x1 : List Int) (x6 : Int) (x8 : Int) (x18 : List Int) (x19 : Int) (x20 : Int) (c17 : List Int) => j0 Nx x1 x6 x8 x18 x19 x20 c17) k x1 x20 (List.getD x18 (Int.toNat x20) 0) 0 x18 x19 x20 x1 (x1.length : Int) 0 c17
    else none
  else
    Xt0 c17
theorem l0s_eq {α : Type} (k : Nat) (next : St → Option α) (Q : Ex → St → Option α) (x1 : List Int) (x18 : List Int) (x19 : Int) (x20 : Int) (c17 : List Int) :
    rnd C k cd0 9 Q next (St1 x1 x18 x19 x20 c17) = l0s k (fun (x1 : List Int) (x18 : List Int) (x19 : Int) (x20 : Int) (c17 : List Int) => next (St1 x1 x18 x19 x20 c17)) (fun (c17 : List Int) => Q (.exit 0) (St6 c17)) x1 x18 x19 x20 c17 := by
  have h : ∀ (D L : DT α), denJ D L Js C cd0 (lq C 9 next Q) (St1 x1 x18 x19 x20 c17) =
        if (decide (x20 < x19)) = true then
          if 0 ≤ x20 ∧ x20 < (x18.length : Int) then
            L cd1 (blkQ C 2 (sq D L Js C cd2 (blkQ C 1 (sq D L Js C cd3 (lq C 9 next Q))))) (St2 x1 x20 (List.getD x18 (Int.toNat x20) 0) 0 x18 x19 x20 x1 (x1.length : Int) 0 c17)
          else none
        else
          Q (.exit 0) (St6 c17) := by
    intro D L; kernel_rfl
  refine (show rnd C k cd0 9 Q next (St1 x1 x18 x19 x20 c17) = denJ (den C k) (lp C k) Js C cd0 (lq C 9 next Q) (St1 x1 x18 x19 x20 c17) from (denJ_den _ _ _ _ _ _).symm).trans ((h (den C k) (lp C k)).trans ?_)
  simp only [a0]
  first | rfl | kernel_rfl
def l0 {α : Type} (k : Nat) (Xt0 : (List Int) → Option α) : Nat → (List Int) → (List Int) → Int → Int → (List Int) → Option α
  | 0, _, _, _, _, _ => none
  | n + 1, x1, x18, x19, x20, c17 => l0s k (l0 k Xt0 n) Xt0 x1 x18 x19 x20 c17
theorem l0_eq {α : Type} (k : Nat) (Q : Ex → St → Option α) : ∀ (n : Nat) (x1 : List Int) (x18 : List Int) (x19 : Int) (x20 : Int) (c17 : List Int), iter (rnd C k cd0 9 Q) n (St1 x1 x18 x19 x20 c17) = l0 k (fun (c17 : List Int) => Q (.exit 0) (St6 c17)) n x1 x18 x19 x20 c17
  | 0, _, _, _, _, _ => rfl
  | n + 1, x1, x18, x19, x20, c17 => (iter_succ _ _ _).trans ((l0s_eq k (iter (rnd C k cd0 9 Q) n) Q x1 x18 x19 x20 c17).trans (congrArg (fun N => l0s k N (fun (c17 : List Int) => Q (.exit 0) (St6 c17)) x1 x18 x19 x20 c17) (funext fun x1 => funext fun x18 => funext fun x19 => funext fun x20 => funext fun c17 => l0_eq k Q n x1 x18 x19 x20 c17)))
theorem l0_congr {α : Type} (k : Nat) (Xt0 : (List Int) → Option α) (Xt0q : (List Int) → Option α) (hXt0 : ∀ (c17 : List Int), Xt0 c17 = Xt0q c17) (n : Nat) (x1 : List Int) (x18 : List Int) (x19 : Int) (x20 : Int) (c17 : List Int) : l0 k Xt0 n x1 x18 x19 x20 c17 = l0 k Xt0q n x1 x18 x19 x20 c17 := by
  obtain rfl : Xt0 = Xt0q := by funext c17; exact hXt0 c17
  rfl
noncomputable def cd4 : Code := cR (cR (cR (cB Try.f117)))
def St7 (c17 : List Int) : St := stL 63 [(5, .app 17 0)] [(17, .buf (.int .u64) c17 0 false)]
def St8 (c17 : List Int) : St := stL 63 [(4, .app 17 0)] [(17, .buf (.int .u64) c17 0 false)]
def j2 {α : Type} (Rt : (List Int) → Option α) (c17 : List Int) : Option α :=
  Rt c17
theorem j2_eq {α : Type} (k : Nat) (Q : Ex → St → Option α) (c17 : List Int) :
    (den C k) cd4 Q (St7 c17) = j2 (fun (c17 : List Int) => Q .ret (St8 c17)) c17 := by
  have h : ∀ (D L : DT α), denJ D L Js C cd4 Q (St7 c17) =
        Q .ret (St8 c17) := by
    intro D L; kernel_rfl
  refine (show (den C k) cd4 Q (St7 c17) = denJ (den C k) (lp C k) Js C cd4 Q (St7 c17) from (denJ_den _ _ _ _ _ _).symm).trans ((h (den C k) (lp C k)).trans ?_)
  first | rfl | kernel_rfl
theorem a1 {α : Type} (k : Nat) (Q : Ex → St → Option α) (x1 : List Int) (x18 : List Int) (x19 : Int) (x20 : Int) (c17 : List Int) :
    (lp C k) cd0 (blkQ C 0 (sq (den C k) (lp C k) Js C cd4 Q)) (St1 x1 x18 x19 x20 c17) = l0 k (fun (c17 : List Int) => j2 (fun (c17 : List Int) => Q .ret (St8 c17)) c17) k x1 x18 x19 x20 c17 :=
  (show (lp C k) cd0 (blkQ C 0 (sq (den C k) (lp C k) Js C cd4 Q)) (St1 x1 x18 x19 x20 c17) = iter (rnd C k cd0 9 (blkQ C 0 (sq (den C k) (lp C k) Js C cd4 Q))) k (St1 x1 x18 x19 x20 c17) by kernel_rfl).trans ((l0_eq k (blkQ C 0 (sq (den C k) (lp C k) Js C cd4 Q)) k x1 x18 x19 x20 c17).trans (l0_congr k _ _ (fun c17 => ((show (blkQ C 0 (sq (den C k) (lp C k) Js C cd4 Q)) (.exit 0) (St6 c17) = (den C k) cd4 Q (St7 c17) by kernel_rfl).trans (by simp only [j2_eq]))) k x1 x18 x19 x20 c17))
def top {α : Type} (k : Nat) (Rt : (List Int) → Option α) (x0 : List Int) (x1 : List Int) : Option α :=
  if 0 ≤ (IntKind.i64.wrap ((x0.length : Int) + (x1.length : Int))) ∧ id (IntKind.i64.wrap ((x0.length : Int) + (x1.length : Int))) = (IntKind.i64.wrap ((x0.length : Int) + (x1.length : Int))) ∧ fitB (IntKind.i64.wrap ((x0.length : Int) + (x1.length : Int))).toNat 8 = true then
    l0 k (fun (c17 : List Int) => j2 Rt c17) k x1 x0 (x0.length : Int) 0 (List.replicate (Int.toNat (IntKind.i64.wrap ((x0.length : Int) + (x1.length : Int)))) 0)
  else none
theorem top_eq {α : Type} (k : Nat) (Q : Ex → St → Option α) (x0 : List Int) (x1 : List Int) :
    (den C k) (cB Try.f117) Q (St0 x0 x1) = top k (fun (c17 : List Int) => Q .ret (St8 c17)) x0 x1 := by
  have h : ∀ (D L : DT α), denJ D L Js C (cB Try.f117) Q (St0 x0 x1) =
        if 0 ≤ (IntKind.i64.wrap ((x0.length : Int) + (x1.length : Int))) ∧ id (IntKind.i64.wrap ((x0.length : Int) + (x1.length : Int))) = (IntKind.i64.wrap ((x0.length : Int) + (x1.length : Int))) ∧ fitB (IntKind.i64.wrap ((x0.length : Int) + (x1.length : Int))).toNat 8 = true then
          L cd0 (blkQ C 0 (sq D L Js C cd4 Q)) (St1 x1 x0 (x0.length : Int) 0 (List.replicate (Int.toNat (IntKind.i64.wrap ((x0.length : Int) + (x1.length : Int)))) 0))
        else none := by
    intro D L; kernel_rfl
  refine (show (den C k) (cB Try.f117) Q (St0 x0 x1) = denJ (den C k) (lp C k) Js C (cB Try.f117) Q (St0 x0 x1) from (denJ_den _ _ _ _ _ _).symm).trans ((h (den C k) (lp C k)).trans ?_)
  simp only [a1]
  first | rfl | kernel_rfl
def run (x0 : List Int) (x1 : List Int) : Option (List Int) := top (α := List Int) fuel (fun (c17 : List Int) => some c17) x0 x1
def F : Fn := ⟨(.pair (.sl (.int .u64)) (.pair (.sl (.int .u64)) .unit)), (.sl (.int .u64)), false, fun x => run x.1 x.2.1⟩
set_option maxRecDepth 100000 in
theorem con : Con Try.prog 117 F := by
  refine con_of_den (C := C) (ctx_ok (by kernel_rfl) (by kernel_rfl) (by kernel_rfl) (by kernel_rfl) trivial) (by kernel_rfl) Try.func117 (c := cB Try.f117) (by kernel_rfl) (by kernel_rfl) F fuel (fun x => by simp [F, spread, Try.ntmps117]) ?_
  intro x r h
  rw [← h]
  have h1 : start F Try.f117.ntmps x = (St0 x.1 x.2.1) := by kernel_rfl
  rw [h1]
  refine (top_eq fuel (fin C Try.f117.results.toList F.rs F.multi) x.1 x.2.1).trans ?_
  kernel_rfl
theorem named : Named Try.prog 117 := named_of Try.func117 (by kernel_rfl) (by kernel_rfl)
end Go.Bx.basculeref_times
namespace Go.Bx.basculeref_shorn
open Go Go.Proofs Go.Bx
set_option maxRecDepth 100000
set_option linter.unusedVariables false
def Js : List Nat := [4]
def C : Ctx := ⟨[(24, (.int .u64)), (134, (.sl (.int .u64)))], [], [], fnL [], noSh, [], invL [], [(2, [2]), (1, [0]), (4, [0]), (3, [0]), (9, [0])], [], [], 0, 0⟩
def St0 (x0 : List Int) : St := stL 21 [(0, .data (.sl (.int .u64)) x0)] []
def St1 (x0 : List Int) : St := stL 21 [(0, .data (.sl (.int .u64)) x0)] []
noncomputable def cd0 : Code := cL (cL (cL (cR (cB Try.f140))))
def St2 (x0 : List Int) : St := stL 21 [(0, .data (.sl (.int .u64)) x0)] []
def l0s {α : Type} (Nx : (List Int) → Option α) (Xt0 : (List Int) → Option α) (x0 : List Int) : Option α :=
  cond (decide (0 ≤ (IntKind.i64.wrap ((x0.length : Int) - 1)) ∧ (IntKind.i64.wrap ((x0.length : Int) - 1)) < (x0.length : Int)) || !((decide ((x0.length : Int) > 0)) == true)) (
    if (cond (decide ((x0.length : Int) > 0)) ((List.getD x0 (Int.toNat (IntKind.i64.wrap ((x0.length : Int) - 1))) 0) == 0) false) = true then
      if 0 ≤ (0 : Int) ∧ (0 : Int) ≤ (IntKind.i64.wrap ((x0.length : Int) - 1)) ∧ (IntKind.i64.wrap ((x0.length : Int) - 1)) ≤ (x0.length : Int) then
        Nx (cutL x0 0 (IntKind.i64.wrap ((x0.length : Int) - 1)))
      else none
    else
      Xt0 x0) none
theorem l0s_eq {α : Type} (k : Nat) (next : St → Option α) (Q : Ex → St → Option α) (x0 : List Int) :
    rnd C k cd0 3 Q next (St1 x0) = l0s (fun (x0 : List Int) => next (St1 x0)) (fun (x0 : List Int) => Q (.exit 0) (St2 x0)) x0 := by
  have h : ∀ (D L : DT α), denJ D L Js C cd0 (lq C 3 next Q) (St1 x0) =
        cond (decide (0 ≤ (IntKind.i64.wrap ((x0.length : Int) - 1)) ∧ (IntKind.i64.wrap ((x0.length : Int) - 1)) < (x0.length : Int)) || !((decide ((x0.length : Int) > 0)) == true)) (
          if (cond (decide ((x0.length : Int) > 0)) ((List.getD x0 (Int.toNat (IntKind.i64.wrap ((x0.length : Int) - 1))) 0) == 0) false) = true then
            if 0 ≤ (0 : Int) ∧ (0 : Int) ≤ (IntKind.i64.wrap ((x0.length : Int) - 1)) ∧ (IntKind.i64.wrap ((x0.length : Int) - 1)) ≤ (x0.length : Int) then
              next (St1 (cutL x0 0 (IntKind.i64.wrap ((x0.length : Int) - 1))))
            else none
          else
            Q (.exit 0) (St2 x0)) none := by
    intro D L; kernel_rfl
  refine (show rnd C k cd0 3 Q next (St1 x0) = denJ (den C k) (lp C k) Js C cd0 (lq C 3 next Q) (St1 x0) from (denJ_den _ _ _ _ _ _).symm).trans ((h (den C k) (lp C k)).trans ?_)
  first | rfl | kernel_rfl
def l0 {α : Type} (k : Nat) (Xt0 : (List Int) → Option α) : Nat → (List Int) → Option α
  | 0, _ => none
  | n + 1, x0 => l0s (l0 k Xt0 n) Xt0 x0
theorem l0_eq {α : Type} (k : Nat) (Q : Ex → St → Option α) : ∀ (n : Nat) (x0 : List Int), iter (rnd C k cd0 3 Q) n (St1 x0) = l0 k (fun (x0 : List Int) => Q (.exit 0) (St2 x0)) n x0
  | 0, _ => rfl
  | n + 1, x0 => (iter_succ _ _ _).trans ((l0s_eq k (iter (rnd C k cd0 3 Q) n) Q x0).trans (congrArg (fun N => l0s N (fun (x0 : List Int) => Q (.exit 0) (St2 x0)) x0) (funext fun x0 => l0_eq k Q n x0)))
theorem l0_congr {α : Type} (k : Nat) (Xt0 : (List Int) → Option α) (Xt0q : (List Int) → Option α) (hXt0 : ∀ (x0 : List Int), Xt0 x0 = Xt0q x0) (n : Nat) (x0 : List Int) : l0 k Xt0 n x0 = l0 k Xt0q n x0 := by
  obtain rfl : Xt0 = Xt0q := by funext x0; exact hXt0 x0
  rfl
noncomputable def cd1 : Code := cR (cR (cB Try.f140))
def St3 (x0 : List Int) : St := stL 21 [(0, .data (.sl (.int .u64)) x0)] []
def St4 (x2 : List Int) : St := stL 21 [(2, .data (.sl (.int .u64)) x2)] []
def j0 {α : Type} (Rt : (List Int) → Option α) (x0 : List Int) : Option α :=
  Rt x0
theorem j0_eq {α : Type} (k : Nat) (Q : Ex → St → Option α) (x0 : List Int) :
    (den C k) cd1 Q (St3 x0) = j0 (fun (x2 : List Int) => Q .ret (St4 x2)) x0 := by
  have h : ∀ (D L : DT α), denJ D L Js C cd1 Q (St3 x0) =
        Q .ret (St4 x0) := by
    intro D L; kernel_rfl
  refine (show (den C k) cd1 Q (St3 x0) = denJ (den C k) (lp C k) Js C cd1 Q (St3 x0) from (denJ_den _ _ _ _ _ _).symm).trans ((h (den C k) (lp C k)).trans ?_)
  first | rfl | kernel_rfl
theorem a0 {α : Type} (k : Nat) (Q : Ex → St → Option α) (x0 : List Int) :
    (lp C k) cd0 (blkQ C 0 (sq (den C k) (lp C k) Js C cd1 Q)) (St1 x0) = l0 k (fun (x0 : List Int) => j0 (fun (x2 : List Int) => Q .ret (St4 x2)) x0) k x0 :=
  (show (lp C k) cd0 (blkQ C 0 (sq (den C k) (lp C k) Js C cd1 Q)) (St1 x0) = iter (rnd C k cd0 3 (blkQ C 0 (sq (den C k) (lp C k) Js C cd1 Q))) k (St1 x0) by kernel_rfl).trans ((l0_eq k (blkQ C 0 (sq (den C k) (lp C k) Js C cd1 Q)) k x0).trans (l0_congr k _ _ (fun x0 => ((show (blkQ C 0 (sq (den C k) (lp C k) Js C cd1 Q)) (.exit 0) (St2 x0) = (den C k) cd1 Q (St3 x0) by kernel_rfl).trans (by simp only [j0_eq]))) k x0))
def top {α : Type} (k : Nat) (Rt : (List Int) → Option α) (x0 : List Int) : Option α :=
  l0 k (fun (x0 : List Int) => j0 Rt x0) k x0
theorem top_eq {α : Type} (k : Nat) (Q : Ex → St → Option α) (x0 : List Int) :
    (den C k) (cB Try.f140) Q (St0 x0) = top k (fun (x2 : List Int) => Q .ret (St4 x2)) x0 := by
  have h : ∀ (D L : DT α), denJ D L Js C (cB Try.f140) Q (St0 x0) =
        L cd0 (blkQ C 0 (sq D L Js C cd1 Q)) (St1 x0) := by
    intro D L; kernel_rfl
  refine (show (den C k) (cB Try.f140) Q (St0 x0) = denJ (den C k) (lp C k) Js C (cB Try.f140) Q (St0 x0) from (denJ_den _ _ _ _ _ _).symm).trans ((h (den C k) (lp C k)).trans ?_)
  simp only [a0]
  first | rfl | kernel_rfl
def run (x0 : List Int) : Option (List Int) := top (α := List Int) fuel (fun (x2 : List Int) => some x2) x0
def F : Fn := ⟨(.pair (.sl (.int .u64)) .unit), (.sl (.int .u64)), false, fun x => run x.1⟩
set_option maxRecDepth 100000 in
theorem con : Con Try.prog 140 F := by
  refine con_of_den (C := C) (ctx_ok (by kernel_rfl) (by kernel_rfl) (by kernel_rfl) (by kernel_rfl) trivial) (by kernel_rfl) Try.func140 (c := cB Try.f140) (by kernel_rfl) (by kernel_rfl) F fuel (fun x => by simp [F, spread, Try.ntmps140]) ?_
  intro x r h
  rw [← h]
  have h1 : start F Try.f140.ntmps x = (St0 x.1) := by kernel_rfl
  rw [h1]
  refine (top_eq fuel (fin C Try.f140.results.toList F.rs F.multi) x.1).trans ?_
  kernel_rfl
theorem named : Named Try.prog 140 := named_of Try.func140 (by kernel_rfl) (by kernel_rfl)
end Go.Bx.basculeref_shorn
namespace Go.Bx.basculeref_small
open Go Go.Proofs Go.Bx
set_option maxRecDepth 100000
set_option linter.unusedVariables false
def Js : List Nat := []
def C : Ctx := ⟨[(4, .bool), (24, (.int .u64)), (134, (.sl (.int .u64)))], [], [], fnL [(140, Go.Bx.basculeref_shorn.F)], noSh, [], invL [], [(2, [2, 3])], [], [], 0, 0⟩
def St0 (x0 : List Int) : St := stL 15 [(0, .data (.sl (.int .u64)) x0)] []
def St1 (x2 : Int) (x3 : Bool) : St := stL 15 [(2, .data (.int .u64) x2), (3, .data .bool x3)] []
def top {α : Type} (Rt : Int → Bool → Option α) (x0 : List Int) : Option α :=
  (Go.Bx.basculeref_shorn.run x0).bind fun y1 =>
  if ((y1.length : Int) == 0) = true then
    Rt 0 true
  else
    if 0 ≤ (0 : Int) ∧ (0 : Int) < (y1.length : Int) then
      Rt (List.getD y1 0 0) ((y1.length : Int) == 1)
    else none
theorem top_eq {α : Type} (k : Nat) (Q : Ex → St → Option α) (x0 : List Int) :
    (den C k) (cB Try.f165) Q (St0 x0) = top (fun (x2 : Int) (x3 : Bool) => Q .ret (St1 x2 x3)) x0 := by
  have h : ∀ (D L : DT α), denJ D L Js C (cB Try.f165) Q (St0 x0) =
        (Go.Bx.basculeref_shorn.run x0).bind fun y1 =>
        if ((y1.length : Int) == 0) = true then
          Q .ret (St1 0 true)
        else
          if 0 ≤ (0 : Int) ∧ (0 : Int) < (y1.length : Int) then
            Q .ret (St1 (List.getD y1 0 0) ((y1.length : Int) == 1))
          else none := by
    intro D L; kernel_rfl
  refine (show (den C k) (cB Try.f165) Q (St0 x0) = denJ (den C k) (lp C k) Js C (cB Try.f165) Q (St0 x0) from (denJ_den _ _ _ _ _ _).symm).trans ((h (den C k) (lp C k)).trans ?_)
  first | rfl | kernel_rfl
def run (x0 : List Int) : Option (Int × Bool × Unit) := top (α := Int × Bool × Unit) (fun (x2 : Int) (x3 : Bool) => some (x2, x3, ())) x0
def F : Fn := ⟨(.pair (.sl (.int .u64)) .unit), (.pair (.int .u64) (.pair .bool .unit)), true, fun x => run x.1⟩
set_option maxRecDepth 100000 in
theorem con : Con Try.prog 165 F := by
  refine con_of_den (C := C) (ctx_ok (by kernel_rfl) (by kernel_rfl) (by kernel_rfl) (by kernel_rfl) ⟨.inl ⟨Go.Bx.basculeref_shorn.con, Go.Bx.basculeref_shorn.named⟩, trivial⟩) (by kernel_rfl) Try.func165 (c := cB Try.f165) (by kernel_rfl) (by kernel_rfl) F fuel (fun x => by simp [F, spread, Try.ntmps165]) ?_
  intro x r h
  rw [← h]
  have h1 : start F Try.f165.ntmps x = (St0 x.1) := by kernel_rfl
  rw [h1]
  refine (top_eq fuel (fin C Try.f165.results.toList F.rs F.multi) x.1).trans ?_
  kernel_rfl
theorem named : Named Try.prog 165 := named_of Try.func165 (by kernel_rfl) (by kernel_rfl)
end Go.Bx.basculeref_small
namespace Go.Bx.basculeref_divided
open Go Go.Proofs Go.Bx
set_option maxRecDepth 100000
set_option linter.unusedVariables false
def Js : List Nat := [11, 12, 15, 23, 25]
def C : Ctx := ⟨[(24, (.int .u64)), (134, (.sl (.int .u64)))], [], [], fnL [(113, Go.Bx.basculeref_compare.F), (115, Go.Bx.basculeref_less.F), (117, Go.Bx.basculeref_times.F), (140, Go.Bx.basculeref_shorn.F), (165, Go.Bx.basculeref_small.F)], noSh, [], invL [], [(2, [4, 5]), (7, [4, 5]), (10, [0, 1, 4, 5, 10]), (13, [0, 1, 4, 5, 10, 11]), (16, [0, 1, 4, 5, 10, 11, 12]), (1, [4, 8]), (4, [0, 4, 6, 8, 9]), (18, [0, 4, 6, 8, 9]), (30, [4, 8]), (33, [0, 1, 5]), (39, [0, 1, 4, 5, 10]), (42, [0, 1, 4, 5, 10]), (51, [0, 1, 4, 5, 10, 11, 12]), (66, [0, 1, 4, 5, 10, 11]), (72, [4, 5])], [(2, [.dat true 4 [], .dat true 5 []]), (39, [.dat true 5 []])], [66], 0, 0⟩
def St0 (x0 : List Int) (x1 : List Int) : St := stL 96 [(0, .data (.sl (.int .u64)) x0), (1, .data (.sl (.int .u64)) x1)] []
def St1 (x0 : List Int) (x6 : Int) (x8 : Int) (x9 : Int) (c22 : List Int) : St := stL 96 [(0, .data (.sl (.int .u64)) x0), (4, .app 22 0), (6, .data (.int .u64) x6), (8, .data (.int .u64) x8), (9, .data (.int .i64) x9)] [(22, .buf (.int .u64) c22 0 false)]
noncomputable def cd0 : Code := cL (cL (cR (cL (cR (cR (cL (cR (cR (cL (cR (cB Try.f120)))))))))))
def St2 (x8 : Int) (c22 : List Int) : St := stL 96 [(4, .app 22 0), (8, .data (.int .u64) x8)] [(22, .buf (.int .u64) c22 0 false)]
def l0s {α : Type} (Nx : (List Int) → Int → Int → Int → (List Int) → Option α) (Xt0 : Int → (List Int) → Option α) (x0 : List Int) (x6 : Int) (x8 : Int) (x9 : Int) (c22 : List Int) : Option α :=
  if (decide (x9 ≥ 0)) = true then
    if 0 ≤ x9 ∧ x9 < (x0.length : Int) then
      if x6 ≠ 0 then
        if x6 ≠ 0 then
          if 0 ≤ x9 ∧ x9 < (c22.length : Int) then
            Nx x0 x6 (Int.tmod (IntKind.u64.wrap ((IntKind.u64.wrap (x8 * 4294967296)) + (List.getD x0 (Int.toNat x9) 0))) x6) (IntKind.i64.wrap (x9 - 1)) (List.set c22 (Int.toNat x9) (IntKind.u64.wrap (Int.tdiv (IntKind.u64.wrap ((IntKind.u64.wrap (x8 * 4294967296)) + (List.getD x0 (Int.toNat x9) 0))) x6)))
          else none
        else none
      else none
    else none
  else
    Xt0 x8 c22
theorem l0s_eq {α : Type} (k : Nat) (next : St → Option α) (Q : Ex → St → Option α) (x0 : List Int) (x6 : Int) (x8 : Int) (x9 : Int) (c22 : List Int) :
    rnd C k cd0 18 Q next (St1 x0 x6 x8 x9 c22) = l0s (fun (x0 : List Int) (x6 : Int) (x8 : Int) (x9 : Int) (c22 : List Int) => next (St1 x0 x6 x8 x9 c22)) (fun (x8 : Int) (c22 : List Int) => Q (.exit 0) (St2 x8 c22)) x0 x6 x8 x9 c22 := by
  have h : ∀ (D L : DT α), denJ D L Js C cd0 (lq C 18 next Q) (St1 x0 x6 x8 x9 c22) =
        if (decide (x9 ≥ 0)) = true then
          if 0 ≤ x9 ∧ x9 < (x0.length : Int) then
            if x6 ≠ 0 then
              if x6 ≠ 0 then
                if 0 ≤ x9 ∧ x9 < (c22.length : Int) then
                  next (St1 x0 x6 (Int.tmod (IntKind.u64.wrap ((IntKind.u64.wrap (x8 * 4294967296)) + (List.getD x0 (Int.toNat x9) 0))) x6) (IntKind.i64.wrap (x9 - 1)) (List.set c22 (Int.toNat x9) (IntKind.u64.wrap (Int.tdiv (IntKind.u64.wrap ((IntKind.u64.wrap (x8 * 4294967296)) + (List.getD x0 (Int.toNat x9) 0))) x6))))
                else none
              else none
            else none
          else none
        else
          Q (.exit 0) (St2 x8 c22) := by
    intro D L; kernel_rfl
  refine (show rnd C k cd0 18 Q next (St1 x0 x6 x8 x9 c22) = denJ (den C k) (lp C k) Js C cd0 (lq C 18 next Q) (St1 x0 x6 x8 x9 c22) from (denJ_den _ _ _ _ _ _).symm).trans ((h (den C k) (lp C k)).trans ?_)
  first | rfl | kernel_rfl
def l0 {α : Type} (k : Nat) (Xt0 : Int → (List Int) → Option α) : Nat → (List Int) → Int → Int → Int → (List Int) → Option α
  | 0, _, _, _, _, _ => none
  | n + 1, x0, x6, x8, x9, c22 => l0s (l0 k Xt0 n) Xt0 x0 x6 x8 x9 c22
theorem l0_eq {α : Type} (k : Nat) (Q : Ex → St → Option α) : ∀ (n : Nat) (x0 : List Int) (x6 : Int) (x8 : Int) (x9 : Int) (c22 : List Int), iter (rnd C k cd0 18 Q) n (St1 x0 x6 x8 x9 c22) = l0 k (fun (x8 : Int) (c22 : List Int) => Q (.exit 0) (St2 x8 c22)) n x0 x6 x8 x9 c22
  | 0, _, _, _, _, _ => rfl
  | n + 1, x0, x6, x8, x9, c22 => (iter_succ _ _ _).trans ((l0s_eq k (iter (rnd C k cd0 18 Q) n) Q x0 x6 x8 x9 c22).trans (congrArg (fun N => l0s N (fun (x8 : Int) (c22 : List Int) => Q (.exit 0) (St2 x8 c22)) x0 x6 x8 x9 c22) (funext fun x0 => funext fun x6 => funext fun x8 => funext fun x9 => funext fun c22 => l0_eq k Q n x0 x6 x8 x9 c22)))
theorem l0_congr {α : Type} (k : Nat) (Xt0 : Int → (List Int) → Option α) (Xt0q : Int → (List Int) → Option α) (hXt0 : ∀ (x8 : Int) (c22 : List Int), Xt0 x8 c22 = Xt0q x8 c22) (n : Nat) (x0 : List Int) (x6 : Int) (x8 : Int) (x9 : Int) (c22 : List Int) : l0 k Xt0 n x0 x6 x8 x9 c22 = l0 k Xt0q n x0 x6 x8 x9 c22 := by
  obtain rfl : Xt0 = Xt0q := by funext x8; funext c22; exact hXt0 x8 c22
  rfl
noncomputable def cd1 : Code := cR (cR (cR (cL (cR (cR (cL (cR (cB Try.f120))))))))
noncomputable def cd2 : Code := cR (cR (cB Try.f120))
def St3 (x8 : Int) (c22 : List Int) : St := stL 96 [(4, .app 22 0), (8, .data (.int .u64) x8)] [(22, .buf (.int .u64) c22 0 false)]
def St4 (x4 : List Int) (x5 : List Int) : St := stL 96 [(4, .data (.sl (.int .u64)) x4), (5, .data (.sl (.int .u64)) x5)] []
def j0 {α : Type} (Rt : (List Int) → (List Int) → Option α) (x8 : Int) (c22 : List Int) : Option α :=
  Rt c22 [x8]
theorem j0_eq {α : Type} (k : Nat) (Q : Ex → St → Option α) (x8 : Int) (c22 : List Int) :
    (den C k) cd1 (sq (den C k) (lp C k) Js C cd2 Q) (St3 x8 c22) = j0 (fun (x4 : List Int) (x5 : List Int) => Q .ret (St4 x4 x5)) x8 c22 := by
  have h : ∀ (D L : DT α), denJ D L Js C cd1 (sq D L Js C cd2 Q) (St3 x8 c22) =
        Q .ret (St4 c22 [x8]) := by
    intro D L; kernel_rfl
  refine (show (den C k) cd1 (sq (den C k) (lp C k) Js C cd2 Q) (St3 x8 c22) = denJ (den C k) (lp C k) Js C cd1 (sq (den C k) (lp C k) Js C cd2 Q) (St3 x8 c22) from (denJ_den _ _ _ _ _ _).symm).trans ((h (den C k) (lp C k)).trans ?_)
  first | rfl | kernel_rfl
theorem a0 {α : Type} (k : Nat) (Q : Ex → St → Option α) (x0 : List Int) (x6 : Int) (x8 : Int) (x9 : Int) (c22 : List Int) :
    (lp C k) cd0 (blkQ C 0 (sq (den C k) (lp C k) Js C cd1 (sq (den C k) (lp C k) Js C cd2 Q))) (St1 x0 x6 x8 x9 c22) = l0 k (fun (x8 : Int) (c22 : List Int) => j0 (fun (x4 : List Int) (x5 : List Int) => Q .ret (St4 x4 x5)) x8 c22) k x0 x6 x8 x9 c22 :=
  (show (lp C k) cd0 (blkQ C 0 (sq (den C k) (lp C k) Js C cd1 (sq (den C k) (lp C k) Js C cd2 Q))) (St1 x0 x6 x8 x9 c22) = iter (rnd C k cd0 18 (blkQ C 0 (sq (den C k) (lp C k) Js C cd1 (sq (den C k) (lp C k) Js C cd2 Q)))) k (St1 x0 x6 x8 x9 c22) by kernel_rfl).trans ((l0_eq k (blkQ C 0 (sq (den C k) (lp C k) Js C cd1 (sq (den C k) (lp C k) Js C cd2 Q))) k x0 x6 x8 x9 c22).trans (l0_congr k _ _ (fun x8 c22 => ((show (blkQ C 0 (sq (den C k) (lp C k) Js C cd1 (sq (den C k) (lp C k) Js C cd2 Q))) (.exit 0) (St2 x8 c22) = (den C k) cd1 (sq (den C k) (lp C k) Js C cd2 Q) (St3 x8 c22) by kernel_rfl).trans (by simp only [j0_eq]))) k x0 x6 x8 x9 c22))
def St5 (x0 : List Int) (x1 : List Int) : St := stL 96 [(0, .data (.sl (.int .u64)) x0), (1, .data (.sl (.int .u64)) x1), (5, .full (.int .u64) [])] []
def St6 (x0 : List Int) (x1 : List Int) (x5 : List Int) (x10 : Int) (c51 : List Int) : St := stL 96 [(0, .data (.sl (.int .u64)) x0), (1, .data (.sl (.int .u64)) x1), (4, .app 51 0), (5, .data (.sl (.int .u64)) x5), (10, .data (.int .i64) x10)] [(51, .buf (.int .u64) c51 0 false)]
noncomputable def cd3 : Code := cL (cL (cR (cL (cR (cR (cR (cB Try.f120)))))))
def St7 (x0 : List Int) (x1 : List Int) (x10 : Int) (x11 : Int) (x12 : Int) (c51 : List Int) (c66 : List Int) : St := stL 96 [(0, .data (.sl (.int .u64)) x0), (1, .data (.sl (.int .u64)) x1), (4, .app 51 0), (5, .app 66 0), (10, .data (.int .i64) x10), (11, .data (.int .u64) x11), (12, .data (.int .u64) x12)] [(51, .buf (.int .u64) c51 0 false), (66, .buf (.int .u64) c66 0 true)]
noncomputable def cd4 : Code := cL (cL (cL (cR (cR (cL (cL (cR (cL (cL (cR (cL (cR (cR (cR (cB Try.f120)))))))))))))))
def St8 (x0 : List Int) (x1 : List Int) (x10 : Int) (x11 : Int) (c51 : List Int) (c66 : List Int) : St := stL 96 [(0, .data (.sl (.int .u64)) x0), (1, .data (.sl (.int .u64)) x1), (4, .app 51 0), (5, .app 66 0), (10, .data (.int .i64) x10), (11, .data (.int .u64) x11)] [(51, .buf (.int .u64) c51 0 false), (66, .buf (.int .u64) c66 0 true)]
def l2s {α : Type} (Nx : (List Int) → (List Int) → Int → Int → Int → (List Int) → (List Int) → Option α) (Xt4 : (List Int) → (List Int) → Int → Int → (List Int) → (List Int) → Option α) (x0 : List Int) (x1 : List Int) (x10 : Int) (x11 : Int) (x12 : Int) (c51 : List Int) (c66 : List Int) : Option α :=
  if (decide ((IntKind.u64.wrap (x12 - x11)) > 1)) = true then
    (Go.Bx.basculeref_times.run x1 [(IntKind.u64.wrap (Int.tdiv (IntKind.u64.wrap (x11 + x12)) 2))]).bind fun y3 =>
    (Go.Bx.basculeref_compare.run y3 c66).bind fun y4 =>
    if (decide (y4 ≤ 0)) = true then
      Nx x0 x1 x10 (IntKind.u64.wrap (Int.tdiv (IntKind.u64.wrap (x11 + x12)) 2)) x12 c51 c66
    else
      Nx x0 x1 x10 x11 (IntKind.u64.wrap (Int.tdiv (IntKind.u64.wrap (x11 + x12)) 2)) c51 c66
  else
    Xt4 x0 x1 x10 x11 c51 c66
theorem l2s_eq {α : Type} (k : Nat) (next : St → Option α) (Q : Ex → St → Option α) (x0 : List Int) (x1 : List Int) (x10 : Int) (x11 : Int) (x12 : Int) (c51 : List Int) (c66 : List Int) :
    rnd C k cd4 51 Q next (St7 x0 x1 x10 x11 x12 c51 c66) = l2s (fun (x0 : List Int) (x1 : List Int) (x10 : Int) (x11 : Int) (x12 : Int) (c51 : List Int) (c66 : List Int) => next (St7 x0 x1 x10 x11 x12 c51 c66)) (fun (x0 : List Int) (x1 : List Int) (x10 : Int) (x11 : Int) (c51 : List Int) (c66 : List Int) => Q (.exit 4) (St8 x0 x1 x10 x11 c51 c66)) x0 x1 x10 x11 x12 c51 c66 := by
  have h : ∀ (D L : DT α), denJ D L Js C cd4 (lq C 51 next Q) (St7 x0 x1 x10 x11 x12 c51 c66) =
        if (decide ((IntKind.u64.wrap (x12 - x11)) > 1)) = true then
          (Go.Bx.basculeref_times.run x1 [(IntKind.u64.wrap (Int.tdiv (IntKind.u64.wrap (x11 + x12)) 2))]).bind fun y3 =>
          (Go.Bx.basculeref_compare.run y3 c66).bind fun y4 =>
          if (decide (y4 ≤ 0)) = true then
            next (St7 x0 x1 x10 (IntKind.u64.wrap (Int.tdiv (IntKind.u64.wrap (x11 + x12)) 2)) x12 c51 c66)
          else
            next (St7 x0 x1 x10 x11 (IntKind.u64.wrap (Int.tdiv (IntKind.u64.wrap (x11 + x12)) 2)) c51 c66)
        else
          Q (.exit 4) (St8 x0 x1 x10 x11 c51 c66) := by
    intro D L; kernel_rfl
  refine (show rnd C k cd4 51 Q next (St7 x0 x1 x10 x11 x12 c51 c66) = denJ (den C k) (lp C k) Js C cd4 (lq C 51 next Q) (St7 x0 x1 x10 x11 x12 c51 c66) from (denJ_den _ _ _ _ _ _).symm).trans ((h (den C k) (lp C k)).trans ?_)
  first | rfl | kernel_rfl
def l2 {α : Type} (k : Nat) (Xt4 : (List Int) → (List Int) → Int → Int → (List Int) → (List Int) → Option α) : Nat → (List Int) → (List Int) → Int → Int → Int → (List Int) → (List Int) → Option α
  | 0, _, _, _, _, _, _, _ => none
  | n + 1, x0, x1, x10, x11, x12, c51, c66 => l2s (l2 k Xt4 n) Xt4 x0 x1 x10 x11 x12 c51 c66
theorem l2_eq {α : Type} (k : Nat) (Q : Ex → St → Option α) : ∀ (n : Nat) (x0 : List Int) (x1 : List Int) (x10 : Int) (x11 : Int) (x12 : Int) (c51 : List Int) (c66 : List Int), iter (rnd C k cd4 51 Q) n (St7 x0 x1 x10 x11 x12 c51 c66) = l2 k (fun (x0 : List Int) (x1 : List Int) (x10 : Int) (x11 : Int) (c51 : List Int) (c66 : List Int) => Q (.exit 4) (St8 x0 x1 x10 x11 c51 c66)) n x0 x1 x10 x11 x12 c51 c66
  | 0, _, _, _, _, _, _, _ => rfl
  | n + 1, x0, x1, x10, x11, x12, c51, c66 => (iter_succ _ _ _).trans ((l2s_eq k (iter (rnd C k cd4 51 Q) n) Q x0 x1 x10 x11 x12 c51 c66).trans (congrArg (fun N => l2s N (fun (x0 : List Int) (x1 : List Int) (x10 : Int) (x11 : Int) (c51 : List Int) (c66 : List Int) => Q (.exit 4) (St8 x0 x1 x10 x11 c51 c66)) x0 x1 x10 x11 x12 c51 c66) (funext fun x0 => funext fun x1 => funext fun x10 => funext fun x11 => funext fun x12 => funext fun c51 => funext fun c66 => l2_eq k Q n x0 x1 x10 x11 x12 c51 c66)))
theorem l2_congr {α : Type} (k : Nat) (Xt4 : (List Int) → (List Int) → Int → Int → (List Int) → (List Int) → Option α) (Xt4q : (List Int) → (List Int) → Int → Int → (List Int) → (List Int) → Option α) (hXt4 : ∀ (x0 : List Int) (x1 : List Int) (x10 : Int) (x11 : Int) (c51 : List Int) (c66 : List Int), Xt4 x0 x1 x10 x11 c51 c66 = Xt4q x0 x1 x10 x11 c51 c66) (n : Nat) (x0 : List Int) (x1 : List Int) (x10 : Int) (x11 : Int) (x12 : Int) (c51 : List Int) (c66 : List Int) : l2 k Xt4 n x0 x1 x10 x11 x12 c51 c66 = l2 k Xt4q n x0 x1 x10 x11 x12 c51 c66 := by
  obtain rfl : Xt4 = Xt4q := by funext x0; funext x1; funext x10; funext x11; funext c51; funext c66; exact hXt4 x0 x1 x10 x11 c51 c66
  rfl
noncomputable def cd5 : Code := cR (cR (cR (cL (cL (cR (cL (cL (cR (cL (cR (cR (cR (cB Try.f120)))))))))))))
noncomputable def cd6 : Code := cR (cR (cL (cL (cR (cL (cR (cR (cR (cB Try.f120)))))))))
def St9 (x0 : List Int) (x1 : List Int) (x10 : Int) (x11 : Int) (c51 : List Int) (c66 : List Int) : St := stL 96 [(0, .data (.sl (.int .u64)) x0), (1, .data (.sl (.int .u64)) x1), (4, .app 51 0), (5, .app 66 0), (10, .data (.int .i64) x10), (11, .data (.int .u64) x11)] [(51, .buf (.int .u64) c51 0 false), (66, .buf (.int .u64) c66 0 true)]
def St10 (x0 : List Int) (x1 : List Int) (x5 : List Int) (x10 : Int) (c51 : List Int) : St := stL 96 [(0, .data (.sl (.int .u64)) x0), (1, .data (.sl (.int .u64)) x1), (4, .app 51 0), (5, .data (.sl (.int .u64)) x5), (10, .data (.int .i64) x10)] [(51, .buf (.int .u64) c51 0 false)]
def j3 {α : Type} (Nx : (List Int) → (List Int) → (List Int) → Int → (List Int) → Option α) (x0 : List Int) (x1 : List Int) (x5 : List Int) (x10 : Int) (c51 : List Int) : Option α :=
  Nx x0 x1 x5 (IntKind.i64.wrap (x10 - 1)) c51
theorem j3_eq {α : Type} (k : Nat) (next : St → Option α) (Q : Ex → St → Option α) (x0 : List Int) (x1 : List Int) (x5 : List Int) (x10 : Int) (c51 : List Int) :
    (den C k) cd6 (lq C 39 next Q) (St10 x0 x1 x5 x10 c51) = j3 (fun (x0 : List Int) (x1 : List Int) (x5 : List Int) (x10 : Int) (c51 : List Int) => next (St6 x0 x1 x5 x10 c51)) x0 x1 x5 x10 c51 := by
  have h : ∀ (D L : DT α), denJ D L Js C cd6 (lq C 39 next Q) (St10 x0 x1 x5 x10 c51) =
        next (St6 x0 x1 x5 (IntKind.i64.wrap (x10 - 1)) c51) := by
    intro D L; kernel_rfl
  refine (show (den C k) cd6 (lq C 39 next Q) (St10 x0 x1 x5 x10 c51) = denJ (den C k) (lp C k) Js C cd6 (lq C 39 next Q) (St10 x0 x1 x5 x10 c51) from (denJ_den _ _ _ _ _ _).symm).trans ((h (den C k) (lp C k)).trans ?_)
  first | rfl | kernel_rfl
def j2 {α : Type} (Nx : (List Int) → (List Int) → (List Int) → Int → (List Int) → Option α) (x0 : List Int) (x1 : List Int) (x10 : Int) (x11 : Int) (c51 : List Int) (c66 : List Int) : Option α :=
  if 0 ≤ x10 ∧ x10 < (c51.length : Int) then
    (Go.Bx.basculeref_times.run x1 [x11]).bind fun y5 =>
    (Go.Bx.basculeref_less.run c66 y5).bind fun y6 =>
    j3 Nx x0 x1 y6 x10 (List.set c51 (Int.toNat x10) x11)
  else none
theorem j2_eq {α : Type} (k : Nat) (next : St → Option α) (Q : Ex → St → Option α) (x0 : List Int) (x1 : List Int) (x10 : Int) (x11 : Int) (c51 : List Int) (c66 : List Int) :
    (den C k) cd5 (blkQ C 3 (sq (den C k) (lp C k) Js C cd6 (lq C 39 next Q))) (St9 x0 x1 x10 x11 c51 c66) = j2 (fun (x0 : List Int) (x1 : List Int) (x5 : List Int) (x10 : Int) (c51 : List Int) => next (St6 x0 x1 x5 x10 c51)) x0 x1 x10 x11 c51 c66 := by
  have h : ∀ (D L : DT α), denJ D L Js C cd5 (blkQ C 3 (sq D L Js C cd6 (lq C 39 next Q))) (St9 x0 x1 x10 x11 c51 c66) =
        if 0 ≤ x10 ∧ x10 < (c51.length : Int) then
          (Go.Bx.basculeref_times.run x1 [x11]).bind fun y5 =>
          (Go.Bx.basculeref_less.run c66 y5).bind fun y6 =>
          D cd6 (lq C 39 next Q) (St10 x0 x1 y6 x10 (List.set c51 (Int.toNat x10) x11))
        else none := by
    intro D L; kernel_rfl
  refine (show (den C k) cd5 (blkQ C 3 (sq (den C k) (lp C k) Js C cd6 (lq C 39 next Q))) (St9 x0 x1 x10 x11 c51 c66) = denJ (den C k) (lp C k) Js C cd5 (blkQ C 3 (sq (den C k) (lp C k) Js C cd6 (lq C 39 next Q))) (St9 x0 x1 x10 x11 c51 c66) from (denJ_den _ _ _ _ _ _).symm).trans ((h (den C k) (lp C k)).trans ?_)
  simp only [j3_eq]
  first | rfl | kernel_rfl
theorem a1 {α : Type} (k : Nat) (next : St → Option α) (Q : Ex → St → Option α) (x0 : List Int) (x1 : List Int) (x10 : Int) (x11 : Int) (x12 : Int) (c51 : List Int) (c66 : List Int) :
    (lp C k) cd4 (blkQ C 4 (sq (den C k) (lp C k) Js C cd5 (blkQ C 3 (sq (den C k) (lp C k) Js C cd6 (lq C 39 next Q))))) (St7 x0 x1 x10 x11 x12 c51 c66) = l2 k (fun (x0 : List Int) (x1 : List Int) (x10 : Int) (x11 : Int) (c51 : List Int) (c66 : List Int) => j2 (fun (x0 : List Int) (x1 : List Int) (x5 : List Int) (x10 : Int) (c51 : List Int) => next (St6 x0 x1 x5 x10 c51)) x0 x1 x10 x11 c51 c66) k x0 x1 x10 x11 x12 c51 c66 :=
  (show (lp C k) cd4 (blkQ C 4 (sq (den C k) (lp C k) Js C cd5 (blkQ C 3 (sq (den C k) (lp C k) Js C cd6 (lq C 39 next Q))))) (St7 x0 x1 x10 x11 x12 c51 c66) = iter (rnd C k cd4 51 (blkQ C 4 (sq (den C k) (lp C k) Js C cd5 (blkQ C 3 (sq (den C k) (lp C k) Js C cd6 (lq C 39 next Q)))))) k (St7 x0 x1 x10 x11 x12 c51 c66) by kernel_rfl).trans ((l2_eq k (blkQ C 4 (sq (den C k) (lp C k) Js C cd5 (blkQ C 3 (sq (den C k) (lp C k) Js C cd6 (lq C 39 next Q))))) k x0 x1 x10 x11 x12 c51 c66).trans (l2_congr k _ _ (fun x0 x1 x10 x11 c51 c66 => ((show (blkQ C 4 (sq (den C k) (lp C k) Js C cd5 (blkQ C 3 (sq (den C k) (lp C k) Js C cd6 (lq C 39 next Q))))) (.exit 4) (St8 x0 x1 x10 x11 c51 c66) = (den C k) cd5 (blkQ C 3 (sq (den C k) (lp C k) Js C cd6 (lq C 39 next Q))) (St9 x0 x1 x10 x11 c51 c66) by kernel_rfl).trans (by simp only [j2_eq]))) k x0 x1 x10 x11 x12 c51 c66))
def St11 (x5 : List Int) (c51 : List Int) : St := stL 96 [(4, .app 51 0), (5, .data (.sl (.int .u64)) x5)] [(51, .buf (.int .u64) c51 0 false)]
def l1s {α : Type} (k : Nat) (Nx : (List Int) → (List Int) → (List Int) → Int → (List Int) → Option α) (Xt2 : (List Int) → (List Int) → Option α) (x0 : List Int) (x1 : List Int) (x5 : List Int) (x10 : Int) (c51 : List Int) : Option α :=
  if (decide (x10 ≥ 0)) = true then
    if 0 ≤ x10 ∧ x10 < (x0.length : Int) then
      (Go.Bx.basculeref_shorn.run x5).bind fun y2 =>
      if fitB (1 + y2.length) 8 = true then
        l2 k (fun (x0 : List Int) (x1 : List Int) (x10 : Int) (x11 : Int) (c51 : List Int) (c66 : List Int) => j2 Nx x0 x1 x10 x11 c51 c66) k x0 x1 x10 0 4294967296 c51 ([(List.getD x0 (Int.toNat x10) 0)] ++ y2)
      else none
    else none
  else
    Xt2 x5 c51
theorem l1s_eq {α : Type} (k : Nat) (next : St → Option α) (Q : Ex → St → Option α) (x0 : List Int) (x1 : List Int) (x5 : List Int) (x10 : Int) (c51 : List Int) :
    rnd C k cd3 39 Q next (St6 x0 x1 x5 x10 c51) = l1s k (fun (x0 : List Int) (x1 : List Int) (x5 : List Int) (x10 : Int) (c51 : List Int) => next (St6 x0 x1 x5 x10 c51)) (fun (x5 : List Int) (c51 : List Int) => Q (.exit 2) (St11 x5 c51)) x0 x1 x5 x10 c51 := by
  have h : ∀ (D L : DT α), denJ D L Js C cd3 (lq C 39 next Q) (St6 x0 x1 x5 x10 c51) =
        if (decide (x10 ≥ 0)) = true then
          if 0 ≤ x10 ∧ x10 < (x0.length : Int) then
            (Go.Bx.basculeref_shorn.run x5).bind fun y2 =>
            if fitB (1 + y2.length) 8 = true then
              L cd4 (blkQ C 4 (sq D L Js C cd5 (blkQ C 3 (sq D L Js C cd6 (lq C 39 next Q))))) (St7 x0 x1 x10 0 4294967296 c51 ([(List.getD x0 (Int.toNat x10) 0)] ++ y2))
            else none
          else none
        else
          Q (.exit 2) (St11 x5 c51) := by
    intro D L; kernel_rfl
  refine (show rnd C k cd3 39 Q next (St6 x0 x1 x5 x10 c51) = denJ (den C k) (lp C k) Js C cd3 (lq C 39 next Q) (St6 x0 x1 x5 x10 c51) from (denJ_den _ _ _ _ _ _).symm).trans ((h (den C k) (lp C k)).trans ?_)
  simp only [a1]
  first | rfl | kernel_rfl
def l1 {α : Type} (k : Nat) (Xt2 : (List Int) → (List Int) → Option α) : Nat → (List Int) → (List Int) → (List Int) → Int → (List Int) → Option α
  | 0, _, _, _, _, _ => none
  | n + 1, x0, x1, x5, x10, c51 => l1s k (l1 k Xt2 n) Xt2 x0 x1 x5 x10 c51
theorem l1_eq {α : Type} (k : Nat) (Q : Ex → St → Option α) : ∀ (n : Nat) (x0 : List Int) (x1 : List Int) (x5 : List Int) (x10 : Int) (c51 : List Int), iter (rnd C k cd3 39 Q) n (St6 x0 x1 x5 x10 c51) = l1 k (fun (x5 : List Int) (c51 : List Int) => Q (.exit 2) (St11 x5 c51)) n x0 x1 x5 x10 c51
  | 0, _, _, _, _, _ => rfl
  | n + 1, x0, x1, x5, x10, c51 => (iter_succ _ _ _).trans ((l1s_eq k (iter (rnd C k cd3 39 Q) n) Q x0 x1 x5 x10 c51).trans (congrArg (fun N => l1s k N (fun (x5 : List Int) (c51 : List Int) => Q (.exit 2) (St11 x5 c51)) x0 x1 x5 x10 c51) (funext fun x0 => funext fun x1 => funext fun x5 => funext fun x10 => funext fun c51 => l1_eq k Q n x0 x1 x5 x10 c51)))
theorem l1_congr {α : Type} (k : Nat) (Xt2 : (List Int) → (List Int) → Option α) (Xt2q : (List Int) → (List Int) → Option α) (hXt2 : ∀ (x5 : List Int) (c51 : List Int), Xt2 x5 c51 = Xt2q x5 c51) (n : Nat) (x0 : List Int) (x1 : List Int) (x5 : List Int) (x10 : Int) (c51 : List Int) : l1 k Xt2 n x0 x1 x5 x10 c51 = l1 k Xt2q n x0 x1 x5 x10 c51 := by
  obtain rfl : Xt2 = Xt2q := by funext x5; funext c51; exact hXt2 x5 c51
  rfl
noncomputable def cd7 : Code := cR (cR (cR (cR (cB Try.f120))))
def St12 (x5 : List Int) (c51 : List Int) : St := stL 96 [(4, .app 51 0), (5, .data (.sl (.int .u64)) x5)] [(51, .buf (.int .u64) c51 0 false)]
def j4 {α : Type} (Rt : (List Int) → (List Int) → Option α) (x5 : List Int) (c51 : List Int) : Option α :=
  Rt c51 x5
theorem j4_eq {α : Type} (k : Nat) (Q : Ex → St → Option α) (x5 : List Int) (c51 : List Int) :
    (den C k) cd7 Q (St12 x5 c51) = j4 (fun (x4 : List Int) (x5 : List Int) => Q .ret (St4 x4 x5)) x5 c51 := by
  have h : ∀ (D L : DT α), denJ D L Js C cd7 Q (St12 x5 c51) =
        Q .ret (St4 c51 x5) := by
    intro D L; kernel_rfl
  refine (show (den C k) cd7 Q (St12 x5 c51) = denJ (den C k) (lp C k) Js C cd7 Q (St12 x5 c51) from (denJ_den _ _ _ _ _ _).symm).trans ((h (den C k) (lp C k)).trans ?_)
  first | rfl | kernel_rfl
theorem a2 {α : Type} (k : Nat) (Q : Ex → St → Option α) (x0 : List Int) (x1 : List Int) (x5 : List Int) (x10 : Int) (c51 : List Int) :
    (lp C k) cd3 (blkQ C 2 (sq (den C k) (lp C k) Js C cd7 Q)) (St6 x0 x1 x5 x10 c51) = l1 k (fun (x5 : List Int) (c51 : List Int) => j4 (fun (x4 : List Int) (x5 : List Int) => Q .ret (St4 x4 x5)) x5 c51) k x0 x1 x5 x10 c51 :=
  (show (lp C k) cd3 (blkQ C 2 (sq (den C k) (lp C k) Js C cd7 Q)) (St6 x0 x1 x5 x10 c51) = iter (rnd C k cd3 39 (blkQ C 2 (sq (den C k) (lp C k) Js C cd7 Q))) k (St6 x0 x1 x5 x10 c51) by kernel_rfl).trans ((l1_eq k (blkQ C 2 (sq (den C k) (lp C k) Js C cd7 Q)) k x0 x1 x5 x10 c51).trans (l1_congr k _ _ (fun x5 c51 => ((show (blkQ C 2 (sq (den C k) (lp C k) Js C cd7 Q)) (.exit 2) (St11 x5 c51) = (den C k) cd7 Q (St12 x5 c51) by kernel_rfl).trans (by simp only [j4_eq]))) k x0 x1 x5 x10 c51))
def j1 {α : Type} (k : Nat) (Rt : (List Int) → (List Int) → Option α) (x0 : List Int) (x1 : List Int) : Option α :=
  if 0 ≤ (x0.length : Int) ∧ id (x0.length : Int) = (x0.length : Int) ∧ fitB (x0.length : Int).toNat 8 = true then
    l1 k (fun (x5 : List Int) (c51 : List Int) => j4 Rt x5 c51) k x0 x1 [] (IntKind.i64.wrap ((x0.length : Int) - 1)) (List.replicate (Int.toNat (x0.length : Int)) 0)
  else none
theorem j1_eq {α : Type} (k : Nat) (Q : Ex → St → Option α) (x0 : List Int) (x1 : List Int) :
    (den C k) cd2 Q (St5 x0 x1) = j1 k (fun (x4 : List Int) (x5 : List Int) => Q .ret (St4 x4 x5)) x0 x1 := by
  have h : ∀ (D L : DT α), denJ D L Js C cd2 Q (St5 x0 x1) =
        if 0 ≤ (x0.length : Int) ∧ id (x0.length : Int) = (x0.length : Int) ∧ fitB (x0.length : Int).toNat 8 = true then
          L cd3 (blkQ C 2 (sq D L Js C cd7 Q)) (St6 x0 x1 [] (IntKind.i64.wrap ((x0.length : Int) - 1)) (List.replicate (Int.toNat (x0.length : Int)) 0))
        else none := by
    intro D L; kernel_rfl
  refine (show (den C k) cd2 Q (St5 x0 x1) = denJ (den C k) (lp C k) Js C cd2 Q (St5 x0 x1) from (denJ_den _ _ _ _ _ _).symm).trans ((h (den C k) (lp C k)).trans ?_)
  simp only [a2]
  first | rfl | kernel_rfl
def top {α : Type} (k : Nat) (Rt : (List Int) → (List Int) → Option α) (x0 : List Int) (x1 : List Int) : Option α :=
  (Go.Bx.basculeref_small.run x1).bind fun y1 =>
  if y1.2.1 = true then
    if 0 ≤ (x0.length : Int) ∧ id (x0.length : Int) = (x0.length : Int) ∧ fitB (x0.length : Int).toNat 8 = true then
      l0 k (fun (x8 : Int) (c22 : List Int) => j0 Rt x8 c22) k x0 y1.1 0 (IntKind.i64.wrap ((x0.length : Int) - 1)) (List.replicate (Int.toNat (x0.length : Int)) 0)
    else none
  else
    j1 k Rt x0 x1
theorem top_eq {α : Type} (k : Nat) (Q : Ex → St → Option α) (x0 : List Int) (x1 : List Int) :
    (den C k) (cB Try.f120) Q (St0 x0 x1) = top k (fun (x4 : List Int) (x5 : List Int) => Q .ret (St4 x4 x5)) x0 x1 := by
  have h : ∀ (D L : DT α), denJ D L Js C (cB Try.f120) Q (St0 x0 x1) =
        (Go.Bx.basculeref_small.run x1).bind fun y1 =>
        if y1.2.1 = true then
          if 0 ≤ (x0.length : Int) ∧ id (x0.length : Int) = (x0.length : Int) ∧ fitB (x0.length : Int).toNat 8 = true then
            L cd0 (blkQ C 0 (sq D L Js C cd1 (sq D L Js C cd2 Q))) (St1 x0 y1.1 0 (IntKind.i64.wrap ((x0.length : Int) - 1)) (List.replicate (Int.toNat (x0.length : Int)) 0))
          else none
        else
          D cd2 Q (St5 x0 x1) := by
    intro D L; kernel_rfl
  refine (show (den C k) (cB Try.f120) Q (St0 x0 x1) = denJ (den C k) (lp C k) Js C (cB Try.f120) Q (St0 x0 x1) from (denJ_den _ _ _ _ _ _).symm).trans ((h (den C k) (lp C k)).trans ?_)
  simp only [a0, j1_eq]
  first | rfl | kernel_rfl
def run (x0 : List Int) (x1 : List Int) : Option (List Int × List Int × Unit) := top (α := List Int × List Int × Unit) fuel (fun (x4 : List Int) (x5 : List Int) => some (x4, x5, ())) x0 x1
def F : Fn := ⟨(.pair (.sl (.int .u64)) (.pair (.sl (.int .u64)) .unit)), (.pair (.sl (.int .u64)) (.pair (.sl (.int .u64)) .unit)), true, fun x => run x.1 x.2.1⟩
set_option maxRecDepth 100000 in
theorem con : Con Try.prog 120 F := by
  refine con_of_den (C := C) (ctx_ok (by kernel_rfl) (by kernel_rfl) (by kernel_rfl) (by kernel_rfl) ⟨.inl ⟨Go.Bx.basculeref_compare.con, Go.Bx.basculeref_compare.named⟩, ⟨.inl ⟨Go.Bx.basculeref_less.con, Go.Bx.basculeref_less.named⟩, ⟨.inl ⟨Go.Bx.basculeref_times.con, Go.Bx.basculeref_times.named⟩, ⟨.inl ⟨Go.Bx.basculeref_shorn.con, Go.Bx.basculeref_shorn.named⟩, ⟨.inl ⟨Go.Bx.basculeref_small.con, Go.Bx.basculeref_small.named⟩, trivial⟩⟩⟩⟩⟩) (by kernel_rfl) Try.func120 (c := cB Try.f120) (by kernel_rfl) (by kernel_rfl) F fuel (fun x => by simp [F, spread, Try.ntmps120]) ?_
  intro x r h
  rw [← h]
  have h1 : start F Try.f120.ntmps x = (St0 x.1 x.2.1) := by kernel_rfl
  rw [h1]
  refine (top_eq fuel (fin C Try.f120.results.toList F.rs F.multi) x.1 x.2.1).trans ?_
  kernel_rfl
theorem named : Named Try.prog 120 := named_of Try.func120 (by kernel_rfl) (by kernel_rfl)
end Go.Bx.basculeref_divided
namespace Go.Bx.math_bits_Len64
open Go Go.Proofs Go.Bx
set_option maxRecDepth 100000
set_option linter.unusedVariables false
def Js : List Nat := [5, 8, 11]
def C : Ctx := ⟨[(3, (.int .i64)), (5, (.int .u8)), (9, .str), (24, (.int .u64))], [], [], fnL [], noSh, [], invL [], [(2, [2]), (12, [0, 2]), (21, [0, 2]), (30, [0, 2])], [], [], 0, 0⟩
def St0 (x0 : Int) : St := stL 25 [(0, .data (.int .u64) x0)] []
def St1 (x0 : Int) (x2 : Int) : St := stL 25 [(0, .data (.int .u64) x0), (2, .data (.int .i64) x2)] []
noncomputable def cd0 : Code := cR (cR (cB Try.f164))
def St2 (x0 : Int) (x2 : Int) : St := stL 25 [(0, .data (.int .u64) x0), (2, .data (.int .i64) x2)] []
noncomputable def cd1 : Code := cR (cR (cR (cB Try.f164)))
def St3 (x0 : Int) (x2 : Int) : St := stL 25 [(0, .data (.int .u64) x0), (2, .data (.int .i64) x2)] []
noncomputable def cd2 : Code := cR (cR (cR (cR (cB Try.f164))))
def St4 (x2 : Int) : St := stL 25 [(2, .data (.int .i64) x2)] []
def j2 {α : Type} (Rt : Int → Option α) (x0 : Int) (x2 : Int) : Option α :=
  if 0 ≤ (IntKind.u8.wrap x0) ∧ (IntKind.u8.wrap x0) < (256 : Int) then
    Rt (IntKind.i64.wrap (x2 + (IntKind.i64.wrap (List.getD [0, 1, 2, 2, 3, 3, 3, 3, 4, 4, 4, 4, 4, 4, 4, 4, 5, 5, 5, 5, 5, 5, 5, 5, 5, 5, 5, 5, 5, 5, 5, 5, 6, 6, 6, 6, 6, 6, 6, 6, 6, 6, 6, 6, 6, 6, 6, 6, 6, 6, 6, 6, 6, 6, 6, 6, 6, 6, 6, 6, 6, 6, 6, 6, 7, 7, 7, 7, 7, 7, 7, 7, 7, 7, 7, 7, 7, 7, 7, 7, 7, 7, 7, 7, 7, 7, 7, 7, 7, 7, 7, 7, 7, 7, 7, 7, 7, 7, 7, 7, 7, 7, 7, 7, 7, 7, 7, 7, 7, 7, 7, 7, 7, 7, 7, 7, 7, 7, 7, 7, 7, 7, 7, 7, 7, 7, 7, 7, 8, 8, 8, 8, 8, 8, 8, 8, 8, 8, 8, 8, 8, 8, 8, 8, 8, 8, 8, 8, 8, 8, 8, 8, 8, 8, 8, 8, 8, 8, 8, 8, 8, 8, 8, 8, 8, 8, 8, 8, 8, 8, 8, 8, 8, 8, 8, 8, 8, 8, 8, 8, 8, 8, 8, 8, 8, 8, 8, 8, 8, 8, 8, 8, 8, 8, 8, 8, 8, 8, 8, 8, 8, 8, 8, 8, 8, 8, 8, 8, 8, 8, 8, 8, 8, 8, 8, 8, 8, 8, 8, 8, 8, 8, 8, 8, 8, 8, 8, 8, 8, 8, 8, 8, 8, 8, 8, 8, 8, 8, 8, 8, 8, 8, 8, 8, 8, 8, 8, 8, 8, 8, 8, 8, 8, 8, 8, 8] (Int.toNat (IntKind.u8.wrap x0)) 0))))
  else none
theorem j2_eq {α : Type} (k : Nat) (Q : Ex → St → Option α) (x0 : Int) (x2 : Int) :
    (den C k) cd2 Q (St3 x0 x2) = j2 (fun (x2 : Int) => Q .ret (St4 x2)) x0 x2 := by
  have h : ∀ (D L : DT α), denJ D L Js C cd2 Q (St3 x0 x2) =
        if 0 ≤ (IntKind.u8.wrap x0) ∧ (IntKind.u8.wrap x0) < (256 : Int) then
          Q .ret (St4 (IntKind.i64.wrap (x2 + (IntKind.i64.wrap (List.getD [0, 1, 2, 2, 3, 3, 3, 3, 4, 4, 4, 4, 4, 4, 4, 4, 5, 5, 5, 5, 5, 5, 5, 5, 5, 5, 5, 5, 5, 5, 5, 5, 6, 6, 6, 6, 6, 6, 6, 6, 6, 6, 6, 6, 6, 6, 6, 6, 6, 6, 6, 6, 6, 6, 6, 6, 6, 6, 6, 6, 6, 6, 6, 6, 7, 7, 7, 7, 7, 7, 7, 7, 7, 7, 7, 7, 7, 7, 7, 7, 7, 7, 7, 7, 7, 7, 7, 7, 7, 7, 7, 7, 7, 7, 7, 7, 7, 7, 7, 7, 7, 7, 7, 7, 7, 7, 7, 7, 7, 7, 7, 7, 7, 7, 7, 7, 7, 7, 7, 7, 7, 7, 7, 7, 7, 7, 7, 7, 8, 8, 8, 8, 8, 8, 8, 8, 8, 8, 8, 8, 8, 8, 8, 8, 8, 8, 8, 8, 8, 8, 8, 8, 8, 8, 8, 8, 8, 8, 8, 8, 8, 8, 8, 8, 8, 8, 8, 8, 8, 8, 8, 8, 8, 8, 8, 8, 8, 8, 8, 8, 8, 8, 8, 8, 8, 8, 8, 8, 8, 8, 8, 8, 8, 8, 8, 8, 8, 8, 8, 8, 8, 8, 8, 8, 8, 8, 8, 8, 8, 8, 8, 8, 8, 8, 8, 8, 8, 8, 8, 8, 8, 8, 8, 8, 8, 8, 8, 8, 8, 8, 8, 8, 8, 8, 8, 8, 8, 8, 8, 8, 8, 8, 8, 8, 8, 8, 8, 8, 8, 8, 8, 8, 8, 8, 8, 8] (Int.toNat (IntKind.u8.wrap x0)) 0)))))
        else none := by
    intro D L; kernel_rfl
  refine (show (den C k) cd2 Q (St3 x0 x2) = denJ (den C k) (lp C k) Js C cd2 Q (St3 x0 x2) from (denJ_den _ _ _ _ _ _).symm).trans ((h (den C k) (lp C k)).trans ?_)
  first | rfl | kernel_rfl
def j1 {α : Type} (Rt : Int → Option α) (x0 : Int) (x2 : Int) : Option α :=
  if (decide (x0 ≥ 256)) = true then
    j2 Rt (shrI .u64 x0 8) (IntKind.i64.wrap (x2 + 8))
  else
    j2 Rt x0 x2
theorem j1_eq {α : Type} (k : Nat) (Q : Ex → St → Option α) (x0 : Int) (x2 : Int) :
    (den C k) cd1 Q (St2 x0 x2) = j1 (fun (x2 : Int) => Q .ret (St4 x2)) x0 x2 := by
  have h : ∀ (D L : DT α), denJ D L Js C cd1 Q (St2 x0 x2) =
        if (decide (x0 ≥ 256)) = true then
          D cd2 Q (St3 (shrI .u64 x0 8) (IntKind.i64.wrap (x2 + 8)))
        else
          D cd2 Q (St3 x0 x2) := by
    intro D L; kernel_rfl
  refine (show (den C k) cd1 Q (St2 x0 x2) = denJ (den C k) (lp C k) Js C cd1 Q (St2 x0 x2) from (denJ_den _ _ _ _ _ _).symm).trans ((h (den C k) (lp C k)).trans ?_)
  simp only [j2_eq]
  first | rfl | kernel_rfl
def j0 {α : Type} (Rt : Int → Option α) (x0 : Int) (x2 : Int) : Option α :=
  if (decide (x0 ≥ 65536)) = true then
    j1 Rt (shrI .u64 x0 16) (IntKind.i64.wrap (x2 + 16))
  else
    j1 Rt x0 x2
theorem j0_eq {α : Type} (k : Nat) (Q : Ex → St → Option α) (x0 : Int) (x2 : Int) :
    (den C k) cd0 Q (St1 x0 x2) = j0 (fun (x2 : Int) => Q .ret (St4 x2)) x0 x2 := by
  have h : ∀ (D L : DT α), denJ D L Js C cd0 Q (St1 x0 x2) =
        if (decide (x0 ≥ 65536)) = true then
          D cd1 Q (St2 (shrI .u64 x0 16) (IntKind.i64.wrap (x2 + 16)))
        else
          D cd1 Q (St2 x0 x2) := by
    intro D L; kernel_rfl
  refine (show (den C k) cd0 Q (St1 x0 x2) = denJ (den C k) (lp C k) Js C cd0 Q (St1 x0 x2) from (denJ_den _ _ _ _ _ _).symm).trans ((h (den C k) (lp C k)).trans ?_)
  simp only [j1_eq]
  first | rfl | kernel_rfl
def top {α : Type} (Rt : Int → Option α) (x0 : Int) : Option α :=
  if (decide (x0 ≥ 4294967296)) = true then
    j0 Rt (shrI .u64 x0 32) 32
  else
    j0 Rt x0 0
theorem top_eq {α : Type} (k : Nat) (Q : Ex → St → Option α) (x0 : Int) :
    (den C k) (cB Try.f164) Q (St0 x0) = top (fun (x2 : Int) => Q .ret (St4 x2)) x0 := by
  have h : ∀ (D L : DT α), denJ D L Js C (cB Try.f164) Q (St0 x0) =
        if (decide (x0 ≥ 4294967296)) = true then
          D cd0 Q (St1 (shrI .u64 x0 32) 32)
        else
          D cd0 Q (St1 x0 0) := by
    intro D L; kernel_rfl
  refine (show (den C k) (cB Try.f164) Q (St0 x0) = denJ (den C k) (lp C k) Js C (cB Try.f164) Q (St0 x0) from (denJ_den _ _ _ _ _ _).symm).trans ((h (den C k) (lp C k)).trans ?_)
  simp only [j0_eq]
  first | rfl | kernel_rfl
def run (x0 : Int) : Option (Int) := top (α := Int) (fun (x2 : Int) => some x2) x0
def F : Fn := ⟨(.pair (.int .u64) .unit), (.int .i64), false, fun x => run x.1⟩
set_option maxRecDepth 100000 in
theorem con : Con Try.prog 164 F := by
  refine con_of_den (C := C) (ctx_ok (by kernel_rfl) (by kernel_rfl) (by kernel_rfl) (by kernel_rfl) trivial) (by kernel_rfl) Try.func164 (c := cB Try.f164) (by kernel_rfl) (by kernel_rfl) F fuel (fun x => by simp [F, spread, Try.ntmps164]) ?_
  intro x r h
  rw [← h]
  have h1 : start F Try.f164.ntmps x = (St0 x.1) := by kernel_rfl
  rw [h1]
  refine (top_eq fuel (fin C Try.f164.results.toList F.rs F.multi) x.1).trans ?_
  kernel_rfl
theorem named : Named Try.prog 164 := named_of Try.func164 (by kernel_rfl) (by kernel_rfl)
end Go.Bx.math_bits_Len64
namespace Go.Bx.wide_length
open Go Go.Proofs Go.Bx
set_option maxRecDepth 100000
set_option linter.unusedVariables false
def Js : List Nat := [8, 9]
def C : Ctx := ⟨[(3, (.int .i64)), (45, (.arr 4 (.int .u64)))], [], [], fnL [(164, Go.Bx.math_bits_Len64.F)], noSh, [], invL [], [(2, [2]), (1, [3]), (4, [3, 6, 7]), (9, [3, 6, 7]), (21, [3, 6, 7]), (24, [3])], [], [], 0, 0⟩
def St0 (x0 : List Int) : St := stL 20 [(0, .data (.arr 4 (.int .u64)) x0)] []
def St1 (x3 : Int) (x6 : List Int) (x7 : Int) : St := stL 20 [(3, .data (.int .i64) x3), (6, .data (.arr 4 (.int .u64)) x6), (7, .data (.int .i64) x7)] []
noncomputable def cd0 : Code := cL (cL (cR (cL (cR (cR (cB Try.f118))))))
def St2 (x3 : Int) (x6 : List Int) (x7 : Int) : St := stL 20 [(3, .data (.int .i64) x3), (6, .data (.arr 4 (.int .u64)) x6), (7, .data (.int .i64) x7)] []
noncomputable def cd1 : Code := cR (cR (cR (cL (cL (cR (cL (cR (cR (cB Try.f118)))))))))
def j0 {α : Type} (Nx : Int → (List Int) → Int → Option α) (x3 : Int) (x6 : List Int) (x7 : Int) : Option α :=
  Nx x3 x6 (IntKind.i64.wrap (x7 + 1))
theorem j0_eq {α : Type} (k : Nat) (next : St → Option α) (Q : Ex → St → Option α) (x3 : Int) (x6 : List Int) (x7 : Int) :
    (den C k) cd1 (lq C 9 next Q) (St2 x3 x6 x7) = j0 (fun (x3 : Int) (x6 : List Int) (x7 : Int) => next (St1 x3 x6 x7)) x3 x6 x7 := by
  have h : ∀ (D L : DT α), denJ D L Js C cd1 (lq C 9 next Q) (St2 x3 x6 x7) =
        next (St1 x3 x6 (IntKind.i64.wrap (x7 + 1))) := by
    intro D L; kernel_rfl
  refine (show (den C k) cd1 (lq C 9 next Q) (St2 x3 x6 x7) = denJ (den C k) (lp C k) Js C cd1 (lq C 9 next Q) (St2 x3 x6 x7) from (denJ_den _ _ _ _ _ _).symm).trans ((h (den C k) (lp C k)).trans ?_)
  first | rfl | kernel_rfl
def St3 (x3 : Int) : St := stL 20 [(3, .data (.int .i64) x3)] []
def l0s {α : Type} (Nx : Int → (List Int) → Int → Option α) (Xt0 : Int → Option α) (x3 : Int) (x6 : List Int) (x7 : Int) : Option α :=
  if (decide (x7 < 4)) = true then
    if 0 ≤ x7 ∧ x7 < (4 : Int) then
      if ((List.getD x6 (Int.toNat x7) 0) != 0) = true then
        (Go.Bx.math_bits_Len64.run (List.getD x6 (Int.toNat x7) 0)).bind fun y1 =>
        j0 Nx (IntKind.i64.wrap ((IntKind.i64.wrap (64 * x7)) + y1)) x6 x7
      else
        j0 Nx x3 x6 x7
    else none
  else
    Xt0 x3
theorem l0s_eq {α : Type} (k : Nat) (next : St → Option α) (Q : Ex → St → Option α) (x3 : Int) (x6 : List Int) (x7 : Int) :
    rnd C k cd0 9 Q next (St1 x3 x6 x7) = l0s (fun (x3 : Int) (x6 : List Int) (x7 : Int) => next (St1 x3 x6 x7)) (fun (x3 : Int) => Q (.exit 0) (St3 x3)) x3 x6 x7 := by
  have h : ∀ (D L : DT α), denJ D L Js C cd0 (lq C 9 next Q) (St1 x3 x6 x7) =
        if (decide (x7 < 4)) = true then
          if 0 ≤ x7 ∧ x7 < (4 : Int) then
            if ((List.getD x6 (Int.toNat x7) 0) != 0) = true then
              (Go.Bx.math_bits_Len64.run (List.getD x6 (Int.toNat x7) 0)).bind fun y1 =>
              D cd1 (lq C 9 next Q) (St2 (IntKind.i64.wrap ((IntKind.i64.wrap (64 * x7)) + y1)) x6 x7)
            else
              D cd1 (lq C 9 next Q) (St2 x3 x6 x7)
          else none
        else
          Q (.exit 0) (St3 x3) := by
    intro D L; kernel_rfl
  refine (show rnd C k cd0 9 Q next (St1 x3 x6 x7) = denJ (den C k) (lp C k) Js C cd0 (lq C 9 next Q) (St1 x3 x6 x7) from (denJ_den _ _ _ _ _ _).symm).trans ((h (den C k) (lp C k)).trans ?_)
  simp only [j0_eq]
  first | rfl | kernel_rfl
def l0 {α : Type} (k : Nat) (Xt0 : Int → Option α) : Nat → Int → (List Int) → Int → Option α
  | 0, _, _, _ => none
  | n + 1, x3, x6, x7 => l0s (l0 k Xt0 n) Xt0 x3 x6 x7
theorem l0_eq {α : Type} (k : Nat) (Q : Ex → St → Option α) : ∀ (n : Nat) (x3 : Int) (x6 : List Int) (x7 : Int), iter (rnd C k cd0 9 Q) n (St1 x3 x6 x7) = l0 k (fun (x3 : Int) => Q (.exit 0) (St3 x3)) n x3 x6 x7
  | 0, _, _, _ => rfl
  | n + 1, x3, x6, x7 => (iter_succ _ _ _).trans ((l0s_eq k (iter (rnd C k cd0 9 Q) n) Q x3 x6 x7).trans (congrArg (fun N => l0s N (fun (x3 : Int) => Q (.exit 0) (St3 x3)) x3 x6 x7) (funext fun x3 => funext fun x6 => funext fun x7 => l0_eq k Q n x3 x6 x7)))
theorem l0_congr {α : Type} (k : Nat) (Xt0 : Int → Option α) (Xt0q : Int → Option α) (hXt0 : ∀ (x3 : Int), Xt0 x3 = Xt0q x3) (n : Nat) (x3 : Int) (x6 : List Int) (x7 : Int) : l0 k Xt0 n x3 x6 x7 = l0 k Xt0q n x3 x6 x7 := by
  obtain rfl : Xt0 = Xt0q := by funext x3; exact hXt0 x3
  rfl
noncomputable def cd2 : Code := cR (cR (cR (cB Try.f118)))
def St4 (x3 : Int) : St := stL 20 [(3, .data (.int .i64) x3)] []
def St5 (x2 : Int) : St := stL 20 [(2, .data (.int .i64) x2)] []
def j1 {α : Type} (Rt : Int → Option α) (x3 : Int) : Option α :=
  Rt x3
theorem j1_eq {α : Type} (k : Nat) (Q : Ex → St → Option α) (x3 : Int) :
    (den C k) cd2 Q (St4 x3) = j1 (fun (x2 : Int) => Q .ret (St5 x2)) x3 := by
  have h : ∀ (D L : DT α), denJ D L Js C cd2 Q (St4 x3) =
        Q .ret (St5 x3) := by
    intro D L; kernel_rfl
  refine (show (den C k) cd2 Q (St4 x3) = denJ (den C k) (lp C k) Js C cd2 Q (St4 x3) from (denJ_den _ _ _ _ _ _).symm).trans ((h (den C k) (lp C k)).trans ?_)
  first | rfl | kernel_rfl
theorem a0 {α : Type} (k : Nat) (Q : Ex → St → Option α) (x3 : Int) (x6 : List Int) (x7 : Int) :
    (lp C k) cd0 (blkQ C 0 (sq (den C k) (lp C k) Js C cd2 Q)) (St1 x3 x6 x7) = l0 k (fun (x3 : Int) => j1 (fun (x2 : Int) => Q .ret (St5 x2)) x3) k x3 x6 x7 :=
  (show (lp C k) cd0 (blkQ C 0 (sq (den C k) (lp C k) Js C cd2 Q)) (St1 x3 x6 x7) = iter (rnd C k cd0 9 (blkQ C 0 (sq (den C k) (lp C k) Js C cd2 Q))) k (St1 x3 x6 x7) by kernel_rfl).trans ((l0_eq k (blkQ C 0 (sq (den C k) (lp C k) Js C cd2 Q)) k x3 x6 x7).trans (l0_congr k _ _ (fun x3 => ((show (blkQ C 0 (sq (den C k) (lp C k) Js C cd2 Q)) (.exit 0) (St3 x3) = (den C k) cd2 Q (St4 x3) by kernel_rfl).trans (by simp only [j1_eq]))) k x3 x6 x7))
def top {α : Type} (k : Nat) (Rt : Int → Option α) (x0 : List Int) : Option α :=
  l0 k (fun (x3 : Int) => j1 Rt x3) k 0 x0 0
theorem top_eq {α : Type} (k : Nat) (Q : Ex → St → Option α) (x0 : List Int) :
    (den C k) (cB Try.f118) Q (St0 x0) = top k (fun (x2 : Int) => Q .ret (St5 x2)) x0 := by
  have h : ∀ (D L : DT α), denJ D L Js C (cB Try.f118) Q (St0 x0) =
        L cd0 (blkQ C 0 (sq D L Js C cd2 Q)) (St1 0 x0 0) := by
    intro D L; kernel_rfl
  refine (show (den C k) (cB Try.f118) Q (St0 x0) = denJ (den C k) (lp C k) Js C (cB Try.f118) Q (St0 x0) from (denJ_den _ _ _ _ _ _).symm).trans ((h (den C k) (lp C k)).trans ?_)
  simp only [a0]
  first | rfl | kernel_rfl
def run (x0 : List Int) : Option (Int) := top (α := Int) fuel (fun (x2 : Int) => some x2) x0
def F : Fn := ⟨(.pair (.arr 4 (.int .u64)) .unit), (.int .i64), false, fun x => run x.1⟩
set_option maxRecDepth 100000 in
theorem con : Con Try.prog 118 F := by
  refine con_of_den (C := C) (ctx_ok (by kernel_rfl) (by kernel_rfl) (by kernel_rfl) (by kernel_rfl) ⟨.inl ⟨Go.Bx.math_bits_Len64.con, Go.Bx.math_bits_Len64.named⟩, trivial⟩) (by kernel_rfl) Try.func118 (c := cB Try.f118) (by kernel_rfl) (by kernel_rfl) F fuel (fun x => by simp [F, spread, Try.ntmps118]) ?_
  intro x r h
  rw [← h]
  have h1 : start F Try.f118.ntmps x = (St0 x.1) := by kernel_rfl
  rw [h1]
  refine (top_eq fuel (fin C Try.f118.results.toList F.rs F.multi) x.1).trans ?_
  kernel_rfl
theorem named : Named Try.prog 118 := named_of Try.func118 (by kernel_rfl) (by kernel_rfl)
end Go.Bx.wide_length
namespace Go.Bx.wide_bit
open Go Go.Proofs Go.Bx
set_option maxRecDepth 100000
set_option linter.unusedVariables false
def Js : List Nat := []
def C : Ctx := ⟨[(3, (.int .i64)), (24, (.int .u64)), (45, (.arr 4 (.int .u64)))], [], [], fnL [], noSh, [], invL [], [(2, [4])], [], [], 0, 0⟩
def St0 (x0 : List Int) (x1 : Int) : St := stL 13 [(0, .data (.arr 4 (.int .u64)) x0), (1, .data (.int .i64) x1)] []
def St1 (x4 : Int) : St := stL 13 [(4, .data (.int .u64) x4)] []
def top {α : Type} (Rt : Int → Option α) (x0 : List Int) (x1 : Int) : Option α :=
  if 0 ≤ (IntKind.i64.wrap (Int.tdiv x1 64)) ∧ (IntKind.i64.wrap (Int.tdiv x1 64)) < (4 : Int) then
    if 0 ≤ (Int.tmod x1 64) then
      Rt (band .u64 (shrI .u64 (List.getD x0 (Int.toNat (IntKind.i64.wrap (Int.tdiv x1 64))) 0) (Int.tmod x1 64)) 1)
    else none
  else none
theorem top_eq {α : Type} (k : Nat) (Q : Ex → St → Option α) (x0 : List Int) (x1 : Int) :
    (den C k) (cB Try.f119) Q (St0 x0 x1) = top (fun (x4 : Int) => Q .ret (St1 x4)) x0 x1 := by
  have h : ∀ (D L : DT α), denJ D L Js C (cB Try.f119) Q (St0 x0 x1) =
        if 0 ≤ (IntKind.i64.wrap (Int.tdiv x1 64)) ∧ (IntKind.i64.wrap (Int.tdiv x1 64)) < (4 : Int) then
          if 0 ≤ (Int.tmod x1 64) then
            Q .ret (St1 (band .u64 (shrI .u64 (List.getD x0 (Int.toNat (IntKind.i64.wrap (Int.tdiv x1 64))) 0) (Int.tmod x1 64)) 1))
          else none
        else none := by
    intro D L; kernel_rfl
  refine (show (den C k) (cB Try.f119) Q (St0 x0 x1) = denJ (den C k) (lp C k) Js C (cB Try.f119) Q (St0 x0 x1) from (denJ_den _ _ _ _ _ _).symm).trans ((h (den C k) (lp C k)).trans ?_)
  first | rfl | kernel_rfl
def run (x0 : List Int) (x1 : Int) : Option (Int) := top (α := Int) (fun (x4 : Int) => some x4) x0 x1
def F : Fn := ⟨(.pair (.arr 4 (.int .u64)) (.pair (.int .i64) .unit)), (.int .u64), false, fun x => run x.1 x.2.1⟩
set_option maxRecDepth 100000 in
theorem con : Con Try.prog 119 F := by
  refine con_of_den (C := C) (ctx_ok (by kernel_rfl) (by kernel_rfl) (by kernel_rfl) (by kernel_rfl) trivial) (by kernel_rfl) Try.func119 (c := cB Try.f119) (by kernel_rfl) (by kernel_rfl) F fuel (fun x => by simp [F, spread, Try.ntmps119]) ?_
  intro x r h
  rw [← h]
  have h1 : start F Try.f119.ntmps x = (St0 x.1 x.2.1) := by kernel_rfl
  rw [h1]
  refine (top_eq fuel (fin C Try.f119.results.toList F.rs F.multi) x.1 x.2.1).trans ?_
  kernel_rfl
theorem named : Named Try.prog 119 := named_of Try.func119 (by kernel_rfl) (by kernel_rfl)
end Go.Bx.wide_bit
namespace Go.Bx.wide_DivMod
open Go Go.Proofs Go.Bx
set_option maxRecDepth 100000
set_option linter.unusedVariables false
def Js : List Nat := [6, 13]
def C : Ctx := ⟨[(24, (.int .u64)), (31, (.int .i64)), (45, (.arr 4 (.int .u64)))], [], [], fnL [(41, Go.Bx.wide_Add.F), (42, Go.Bx.wide_Sub.F), (88, Go.Bx.wide_Cmp.F), (118, Go.Bx.wide_length.F), (119, Go.Bx.wide_bit.F)], noSh, [], invL [], [(2, [4, 5, 6]), (1, [4, 5]), (4, [2, 3, 4, 5, 7]), (12, [2, 3, 4, 5, 7]), (15, [2, 3, 4, 5, 7]), (36, [4, 5])], [], [], 0, 0⟩
def St0 (x0 : List Int) (x1 : List Int) : St := stL 58 [(0, .data (.arr 4 (.int .u64)) x0), (1, .data (.arr 4 (.int .u64)) x1)] []
def St1 (x6 : Int) (c4 : List Int) (c5 : List Int) : St := stL 58 [(4, .ref 4 0 []), (5, .ref 5 0 []), (6, .data (.int .i64) x6)] [(4, .cell (.arr 4 (.int .u64)) (.data (.arr 4 (.int .u64)) c4) false), (5, .cell (.arr 4 (.int .u64)) (.data (.arr 4 (.int .u64)) c5) false)]
def St2 (x7 : Int) (c2 : List Int) (c3 : List Int) (c4 : List Int) (c5 : List Int) : St := stL 58 [(2, .ref 2 0 []), (3, .ref 3 0 []), (4, .ref 4 0 []), (5, .ref 5 0 []), (7, .data (.int .i64) x7)] [(2, .cell (.arr 4 (.int .u64)) (.data (.arr 4 (.int .u64)) c2) false), (3, .cell (.arr 4 (.int .u64)) (.data (.arr 4 (.int .u64)) c3) false), (4, .cell (.arr 4 (.int .u64)) (.data (.arr 4 (.int .u64)) c4) false), (5, .cell (.arr 4 (.int .u64)) (.data (.arr 4 (.int .u64)) c5) false)]
noncomputable def cd0 : Code := cL (cL (cR (cL (cR (cR (cB Try.f47))))))
def St3 (x7 : Int) (c2 : List Int) (c3 : List Int) (c4 : List Int) (c5 : List Int) : St := stL 58 [(2, .ref 2 0 []), (3, .ref 3 0 []), (4, .ref 4 0 []), (5, .ref 5 0 []), (7, .data (.int .i64) x7)] [(2, .cell (.arr 4 (.int .u64)) (.data (.arr 4 (.int .u64)) c2) false), (3, .cell (.arr 4 (.int .u64)) (.data (.arr 4 (.int .u64)) c3) false), (4, .cell (.arr 4 (.int .u64)) (.data (.arr 4 (.int .u64)) c4) false), (5, .cell (.arr 4 (.int .u64)) (.data (.arr 4 (.int .u64)) c5) false)]
noncomputable def cd1 : Code := cR (cR (cL (cL (cR (cL (cR (cR (cB Try.f47))))))))
def j0 {α : Type} (Nx : Int → (List Int) → (List Int) → (List Int) → (List Int) → Option α) (x7 : Int) (c2 : List Int) (c3 : List Int) (c4 : List Int) (c5 : List Int) : Option α :=
  Nx (IntKind.i64.wrap (x7 - 1)) c2 c3 c4 c5
theorem j0_eq {α : Type} (k : Nat) (next : St → Option α) (Q : Ex → St → Option α) (x7 : Int) (c2 : List Int) (c3 : List Int) (c4 : List Int) (c5 : List Int) :
    (den C k) cd1 (lq C 12 next Q) (St3 x7 c2 c3 c4 c5) = j0 (fun (x7 : Int) (c2 : List Int) (c3 : List Int) (c4 : List Int) (c5 : List Int) => next (St2 x7 c2 c3 c4 c5)) x7 c2 c3 c4 c5 := by
  have h : ∀ (D L : DT α), denJ D L Js C cd1 (lq C 12 next Q) (St3 x7 c2 c3 c4 c5) =
        next (St2 (IntKind.i64.wrap (x7 - 1)) c2 c3 c4 c5) := by
    intro D L; kernel_rfl
  refine (show (den C k) cd1 (lq C 12 next Q) (St3 x7 c2 c3 c4 c5) = denJ (den C k) (lp C k) Js C cd1 (lq C 12 next Q) (St3 x7 c2 c3 c4 c5) from (denJ_den _ _ _ _ _ _).symm).trans ((h (den C k) (lp C k)).trans ?_)
  first | rfl | kernel_rfl
def St4 (c4 : List Int) (c5 : List Int) : St := stL 58 [(4, .ref 4 0 []), (5, .ref 5 0 [])] [(4, .cell (.arr 4 (.int .u64)) (.data (.arr 4 (.int .u64)) c4) false), (5, .cell (.arr 4 (.int .u64)) (.data (.arr 4 (.int .u64)) c5) false)]
def l0s {α : Type} (Nx : Int → (List Int) → (List Int) → (List Int) → (List Int) → Option α) (Xt0 : (List Int) → (List Int) → Option α) (x7 : Int) (c2 : List Int) (c3 : List Int) (c4 : List Int) (c5 : List Int) : Option α :=
  if (decide (x7 ≥ 0)) = true then
    (Go.Bx.wide_Add.run c5 c5).bind fun y2 =>
    (Go.Bx.wide_bit.run c2 x7).bind fun y3 =>
    (if (y2.2.1 == false) = true then Go.Bx.wide_Cmp.run (List.set y2.1 0 (bor .u64 (List.getD y2.1 0 0) y3)) c3 else some 0).bind fun y4 =>
    if (cond y2.2.1 true (decide (y4 ≥ 0))) = true then
      (Go.Bx.wide_Sub.run (List.set y2.1 0 (bor .u64 (List.getD y2.1 0 0) y3)) c3).bind fun y5 =>
      if 0 ≤ (IntKind.i64.wrap (Int.tdiv x7 64)) ∧ (IntKind.i64.wrap (Int.tdiv x7 64)) < (4 : Int) then
        if 0 ≤ (Int.tmod x7 64) then
          if 0 ≤ (IntKind.i64.wrap (Int.tdiv x7 64)) ∧ (IntKind.i64.wrap (Int.tdiv x7 64)) < (4 : Int) then
            j0 Nx x7 c2 c3 (List.set c4 (Int.toNat (IntKind.i64.wrap (Int.tdiv x7 64))) (bor .u64 (List.getD c4 (Int.toNat (IntKind.i64.wrap (Int.tdiv x7 64))) 0) (shlI .u64 1 (Int.tmod x7 64)))) y5.1
          else none
        else none
      else none
    else
      j0 Nx x7 c2 c3 c4 (List.set y2.1 0 (bor .u64 (List.getD y2.1 0 0) y3))
  else
    Xt0 c4 c5
theorem l0s_eq {α : Type} (k : Nat) (next : St → Option α) (Q : Ex → St → Option α) (x7 : Int) (c2 : List Int) (c3 : List Int) (c4 : List Int) (c5 : List Int) :
    rnd C k cd0 12 Q next (St2 x7 c2 c3 c4 c5) = l0s (fun (x7 : Int) (c2 : List Int) (c3 : List Int) (c4 : List Int) (c5 : List Int) => next (St2 x7 c2 c3 c4 c5)) (fun (c4 : List Int) (c5 : List Int) => Q (.exit 0) (St4 c4 c5)) x7 c2 c3 c4 c5 := by
  have h : ∀ (D L : DT α), denJ D L Js C cd0 (lq C 12 next Q) (St2 x7 c2 c3 c4 c5) =
        if (decide (x7 ≥ 0)) = true then
          (Go.Bx.wide_Add.run c5 c5).bind fun y2 =>
          (Go.Bx.wide_bit.run c2 x7).bind fun y3 =>
          (if (y2.2.1 == false) = true then Go.Bx.wide_Cmp.run (List.set y2.1 0 (bor .u64 (List.getD y2.1 0 0) y3)) c3 else some 0).bind fun y4 =>
          if (cond y2.2.1 true (decide (y4 ≥ 0))) = true then
            (Go.Bx.wide_Sub.run (List.set y2.1 0 (bor .u64 (List.getD y2.1 0 0) y3)) c3).bind fun y5 =>
            if 0 ≤ (IntKind.i64.wrap (Int.tdiv x7 64)) ∧ (IntKind.i64.wrap (Int.tdiv x7 64)) < (4 : Int) then
              if 0 ≤ (Int.tmod x7 64) then
                if 0 ≤ (IntKind.i64.wrap (Int.tdiv x7 64)) ∧ (IntKind.i64.wrap (Int.tdiv x7 64)) < (4 : Int) then
                  D cd1 (lq C 12 next Q) (St3 x7 c2 c3 (List.set c4 (Int.toNat (IntKind.i64.wrap (Int.tdiv x7 64))) (bor .u64 (List.getD c4 (Int.toNat (IntKind.i64.wrap (Int.tdiv x7 64))) 0) (shlI .u64 1 (Int.tmod x7 64)))) y5.1)
                else none
              else none
            else none
          else
            D cd1 (lq C 12 next Q) (St3 x7 c2 c3 c4 (List.set y2.1 0 (bor .u64 (List.getD y2.1 0 0) y3)))
        else
          Q (.exit 0) (St4 c4 c5) := by
    intro D L; kernel_rfl
  refine (show rnd C k cd0 12 Q next (St2 x7 c2 c3 c4 c5) = denJ (den C k) (lp C k) Js C cd0 (lq C 12 next Q) (St2 x7 c2 c3 c4 c5) from (denJ_den _ _ _ _ _ _).symm).trans ((h (den C k) (lp C k)).trans ?_)
  simp only [j0_eq]
  first | rfl | kernel_rfl
def l0 {α : Type} (k : Nat) (Xt0 : (List Int) → (List Int) → Option α) : Nat → Int → (List Int) → (List Int) → (List Int) → (List Int) → Option α
  | 0, _, _, _, _, _ => none
  | n + 1, x7, c2, c3, c4, c5 => l0s (l0 k Xt0 n) Xt0 x7 c2 c3 c4 c5
theorem l0_eq {α : Type} (k : Nat) (Q : Ex → St → Option α) : ∀ (n : Nat) (x7 : Int) (c2 : List Int) (c3 : List Int) (c4 : List Int) (c5 : List Int), iter (rnd C k cd0 12 Q) n (St2 x7 c2 c3 c4 c5) = l0 k (fun (c4 : List Int) (c5 : List Int) => Q (.exit 0) (St4 c4 c5)) n x7 c2 c3 c4 c5
  | 0, _, _, _, _, _ => rfl
  | n + 1, x7, c2, c3, c4, c5 => (iter_succ _ _ _).trans ((l0s_eq k (iter (rnd C k cd0 12 Q) n) Q x7 c2 c3 c4 c5).trans (congrArg (fun N => l0s N (fun (c4 : List Int) (c5 : List Int) => Q (.exit 0) (St4 c4 c5)) x7 c2 c3 c4 c5) (funext fun x7 => funext fun c2 => funext fun c3 => funext fun c4 => funext fun c5 => l0_eq k Q n x7 c2 c3 c4 c5)))
theorem l0_congr {α : Type} (k : Nat) (Xt0 : (List Int) → (List Int) → Option α) (Xt0q : (List Int) → (List Int) → Option α) (hXt0 : ∀ (c4 : List Int) (c5 : List Int), Xt0 c4 c5 = Xt0q c4 c5) (n : Nat) (x7 : Int) (c2 : List Int) (c3 : List Int) (c4 : List Int) (c5 : List Int) : l0 k Xt0 n x7 c2 c3 c4 c5 = l0 k Xt0q n x7 c2 c3 c4 c5 := by
  obtain rfl : Xt0 = Xt0q := by funext c4; funext c5; exact hXt0 c4 c5
  rfl
noncomputable def cd2 : Code := cR (cR (cR (cB Try.f47)))
def St5 (c4 : List Int) (c5 : List Int) : St := stL 58 [(4, .ref 4 0 []), (5, .ref 5 0 [])] [(4, .cell (.arr 4 (.int .u64)) (.data (.arr 4 (.int .u64)) c4) false), (5, .cell (.arr 4 (.int .u64)) (.data (.arr 4 (.int .u64)) c5) false)]
def j1 {α : Type} (Rt : Int → (List Int) → (List Int) → Option α) (c4 : List Int) (c5 : List Int) : Option α :=
  Rt 0 c4 c5
theorem j1_eq {α : Type} (k : Nat) (Q : Ex → St → Option α) (c4 : List Int) (c5 : List Int) :
    (den C k) cd2 Q (St5 c4 c5) = j1 (fun (x6 : Int) (c4 : List Int) (c5 : List Int) => Q .ret (St1 x6 c4 c5)) c4 c5 := by
  have h : ∀ (D L : DT α), denJ D L Js C cd2 Q (St5 c4 c5) =
        Q .ret (St1 0 c4 c5) := by
    intro D L; kernel_rfl
  refine (show (den C k) cd2 Q (St5 c4 c5) = denJ (den C k) (lp C k) Js C cd2 Q (St5 c4 c5) from (denJ_den _ _ _ _ _ _).symm).trans ((h (den C k) (lp C k)).trans ?_)
  first | rfl | kernel_rfl
theorem a0 {α : Type} (k : Nat) (Q : Ex → St → Option α) (x7 : Int) (c2 : List Int) (c3 : List Int) (c4 : List Int) (c5 : List Int) :
    (lp C k) cd0 (blkQ C 0 (sq (den C k) (lp C k) Js C cd2 Q)) (St2 x7 c2 c3 c4 c5) = l0 k (fun (c4 : List Int) (c5 : List Int) => j1 (fun (x6 : Int) (c4 : List Int) (c5 : List Int) => Q .ret (St1 x6 c4 c5)) c4 c5) k x7 c2 c3 c4 c5 :=
  (show (lp C k) cd0 (blkQ C 0 (sq (den C k) (lp C k) Js C cd2 Q)) (St2 x7 c2 c3 c4 c5) = iter (rnd C k cd0 12 (blkQ C 0 (sq (den C k) (lp C k) Js C cd2 Q))) k (St2 x7 c2 c3 c4 c5) by kernel_rfl).trans ((l0_eq k (blkQ C 0 (sq (den C k) (lp C k) Js C cd2 Q)) k x7 c2 c3 c4 c5).trans (l0_congr k _ _ (fun c4 c5 => ((show (blkQ C 0 (sq (den C k) (lp C k) Js C cd2 Q)) (.exit 0) (St4 c4 c5) = (den C k) cd2 Q (St5 c4 c5) by kernel_rfl).trans (by simp only [j1_eq]))) k x7 c2 c3 c4 c5))
def top {α : Type} (k : Nat) (Rt : Int → (List Int) → (List Int) → Option α) (x0 : List Int) (x1 : List Int) : Option α :=
  if (beqD (.arr 4 (.int .u64)) x1 [0, 0, 0, 0]) = true then
    Rt 7 [0, 0, 0, 0] [0, 0, 0, 0]
  else
    (Go.Bx.wide_length.run x0).bind fun y1 =>
    l0 k (fun (c4 : List Int) (c5 : List Int) => j1 Rt c4 c5) k (IntKind.i64.wrap (y1 - 1)) x0 x1 [0, 0, 0, 0] [0, 0, 0, 0]
theorem top_eq {α : Type} (k : Nat) (Q : Ex → St → Option α) (x0 : List Int) (x1 : List Int) :
    (den C k) (cB Try.f47) Q (St0 x0 x1) = top k (fun (x6 : Int) (c4 : List Int) (c5 : List Int) => Q .ret (St1 x6 c4 c5)) x0 x1 := by
  have h : ∀ (D L : DT α), denJ D L Js C (cB Try.f47) Q (St0 x0 x1) =
        if (beqD (.arr 4 (.int .u64)) x1 [0, 0, 0, 0]) = true then
          Q .ret (St1 7 [0, 0, 0, 0] [0, 0, 0, 0])
        else
          (Go.Bx.wide_length.run x0).bind fun y1 =>
          L cd0 (blkQ C 0 (sq D L Js C cd2 Q)) (St2 (IntKind.i64.wrap (y1 - 1)) x0 x1 [0, 0, 0, 0] [0, 0, 0, 0]) := by
    intro D L; kernel_rfl
  refine (show (den C k) (cB Try.f47) Q (St0 x0 x1) = denJ (den C k) (lp C k) Js C (cB Try.f47) Q (St0 x0 x1) from (denJ_den _ _ _ _ _ _).symm).trans ((h (den C k) (lp C k)).trans ?_)
  simp only [a0]
  first | rfl | kernel_rfl
def run (x0 : List Int) (x1 : List Int) : Option (List Int × List Int × Int × Unit) := top (α := List Int × List Int × Int × Unit) fuel (fun (x6 : Int) (c4 : List Int) (c5 : List Int) => some (c4, c5, x6, ())) x0 x1
def F : Fn := ⟨(.pair (.arr 4 (.int .u64)) (.pair (.arr 4 (.int .u64)) .unit)), (.pair (.arr 4 (.int .u64)) (.pair (.arr 4 (.int .u64)) (.pair (.int .i64) .unit))), true, fun x => run x.1 x.2.1⟩
set_option maxRecDepth 100000 in
theorem con : Con Try.prog 47 F := by
  refine con_of_den (C := C) (ctx_ok (by kernel_rfl) (by kernel_rfl) (by kernel_rfl) (by kernel_rfl) ⟨.inl ⟨Go.Bx.wide_Add.con, Go.Bx.wide_Add.named⟩, ⟨.inl ⟨Go.Bx.wide_Sub.con, Go.Bx.wide_Sub.named⟩, ⟨.inl ⟨Go.Bx.wide_Cmp.con, Go.Bx.wide_Cmp.named⟩, ⟨.inl ⟨Go.Bx.wide_length.con, Go.Bx.wide_length.named⟩, ⟨.inl ⟨Go.Bx.wide_bit.con, Go.Bx.wide_bit.named⟩, trivial⟩⟩⟩⟩⟩) (by kernel_rfl) Try.func47 (c := cB Try.f47) (by kernel_rfl) (by kernel_rfl) F fuel (fun x => by simp [F, spread, Try.ntmps47]) ?_
  intro x r h
  rw [← h]
  have h1 : start F Try.f47.ntmps x = (St0 x.1 x.2.1) := by kernel_rfl
  rw [h1]
  refine (top_eq fuel (fin C Try.f47.results.toList F.rs F.multi) x.1 x.2.1).trans ?_
  kernel_rfl
theorem named : Named Try.prog 47 := named_of Try.func47 (by kernel_rfl) (by kernel_rfl)
end Go.Bx.wide_DivMod
namespace Go.Bx.basculeref_Quotient
open Go Go.Proofs Go.Bx
set_option maxRecDepth 100000
set_option linter.unusedVariables false
def Js : List Nat := []
def C : Ctx := ⟨[(31, (.int .i64)), (45, (.arr 4 (.int .u64)))], [], [], fnL [(108, Go.Bx.basculeref_of.F), (114, Go.Bx.basculeref_cut.F), (120, Go.Bx.basculeref_divided.F)], noSh, [], invL [], [(2, [4, 5, 6])], [], [], 0, 0⟩
def St0 (x0 : List Int) (x1 : List Int) : St := stL 26 [(0, .data (.arr 4 (.int .u64)) x0), (1, .data (.arr 4 (.int .u64)) x1)] []
def St1 (x6 : Int) (c4 : List Int) (c5 : List Int) : St := stL 26 [(4, .ref 4 0 []), (5, .ref 5 0 []), (6, .data (.int .i64) x6)] [(4, .cell (.arr 4 (.int .u64)) (.data (.arr 4 (.int .u64)) c4) false), (5, .cell (.arr 4 (.int .u64)) (.data (.arr 4 (.int .u64)) c5) false)]
def top {α : Type} (Rt : Int → (List Int) → (List Int) → Option α) (x0 : List Int) (x1 : List Int) : Option α :=
  if (beqD (.arr 4 (.int .u64)) x1 [0, 0, 0, 0]) = true then
    Rt 7 [0, 0, 0, 0] [0, 0, 0, 0]
  else
    (Go.Bx.basculeref_of.run x0).bind fun y1 =>
    (Go.Bx.basculeref_of.run x1).bind fun y2 =>
    (Go.Bx.basculeref_divided.run y1 y2).bind fun y3 =>
    (Go.Bx.basculeref_cut.run y3.1).bind fun y4 =>
    (Go.Bx.basculeref_cut.run y3.2.1).bind fun y5 =>
    Rt 0 y4 y5
theorem top_eq {α : Type} (k : Nat) (Q : Ex → St → Option α) (x0 : List Int) (x1 : List Int) :
    (den C k) (cB Try.f48) Q (St0 x0 x1) = top (fun (x6 : Int) (c4 : List Int) (c5 : List Int) => Q .ret (St1 x6 c4 c5)) x0 x1 := by
  have h : ∀ (D L : DT α), denJ D L Js C (cB Try.f48) Q (St0 x0 x1) =
        if (beqD (.arr 4 (.int .u64)) x1 [0, 0, 0, 0]) = true then
          Q .ret (St1 7 [0, 0, 0, 0] [0, 0, 0, 0])
        else
          (Go.Bx.basculeref_of.run x0).bind fun y1 =>
          (Go.Bx.basculeref_of.run x1).bind fun y2 =>
          (Go.Bx.basculeref_divided.run y1 y2).bind fun y3 =>
          (Go.Bx.basculeref_cut.run y3.1).bind fun y4 =>
          (Go.Bx.basculeref_cut.run y3.2.1).bind fun y5 =>
          Q .ret (St1 0 y4 y5) := by
    intro D L; kernel_rfl
  refine (show (den C k) (cB Try.f48) Q (St0 x0 x1) = denJ (den C k) (lp C k) Js C (cB Try.f48) Q (St0 x0 x1) from (denJ_den _ _ _ _ _ _).symm).trans ((h (den C k) (lp C k)).trans ?_)
  first | rfl | kernel_rfl
def run (x0 : List Int) (x1 : List Int) : Option (List Int × List Int × Int × Unit) := top (α := List Int × List Int × Int × Unit) (fun (x6 : Int) (c4 : List Int) (c5 : List Int) => some (c4, c5, x6, ())) x0 x1
def F : Fn := ⟨(.pair (.arr 4 (.int .u64)) (.pair (.arr 4 (.int .u64)) .unit)), (.pair (.arr 4 (.int .u64)) (.pair (.arr 4 (.int .u64)) (.pair (.int .i64) .unit))), true, fun x => run x.1 x.2.1⟩
set_option maxRecDepth 100000 in
theorem con : Con Try.prog 48 F := by
  refine con_of_den (C := C) (ctx_ok (by kernel_rfl) (by kernel_rfl) (by kernel_rfl) (by kernel_rfl) ⟨.inl ⟨Go.Bx.basculeref_of.con, Go.Bx.basculeref_of.named⟩, ⟨.inl ⟨Go.Bx.basculeref_cut.con, Go.Bx.basculeref_cut.named⟩, ⟨.inl ⟨Go.Bx.basculeref_divided.con, Go.Bx.basculeref_divided.named⟩, trivial⟩⟩⟩) (by kernel_rfl) Try.func48 (c := cB Try.f48) (by kernel_rfl) (by kernel_rfl) F fuel (fun x => by simp [F, spread, Try.ntmps48]) ?_
  intro x r h
  rw [← h]
  have h1 : start F Try.f48.ntmps x = (St0 x.1 x.2.1) := by kernel_rfl
  rw [h1]
  refine (top_eq fuel (fin C Try.f48.results.toList F.rs F.multi) x.1 x.2.1).trans ?_
  kernel_rfl
theorem named : Named Try.prog 48 := named_of Try.func48 (by kernel_rfl) (by kernel_rfl)
end Go.Bx.basculeref_Quotient
namespace Go.Bx.field_add
open Go Go.Proofs Go.Bx
set_option maxRecDepth 100000
set_option linter.unusedVariables false
def Js : List Nat := [5]
def C : Ctx := ⟨[(45, (.arr 4 (.int .u64)))], [], [], fnL [(41, Go.Bx.wide_Add.F), (42, Go.Bx.wide_Sub.F), (88, Go.Bx.wide_Cmp.F)], noSh, [], invL [], [(2, [6]), (12, [6, 7])], [], [], 0, 0⟩
def St0 (x0 : List Int) (x1 : List Int) (x2 : List Int) : St := stL 29 [(0, .data (.arr 4 (.int .u64)) x0), (1, .data (.arr 4 (.int .u64)) x1), (2, .data (.arr 4 (.int .u64)) x2)] []
def St1 (c6 : List Int) (c7 : List Int) : St := stL 29 [(6, .ref 6 0 []), (7, .ref 7 0 [])] [(6, .cell (.arr 4 (.int .u64)) (.data (.arr 4 (.int .u64)) c6) false), (7, .cell (.arr 4 (.int .u64)) (.data (.arr 4 (.int .u64)) c7) false)]
noncomputable def cd0 : Code := cR (cR (cR (cB Try.f127)))
def St2 (c6 : List Int) : St := stL 29 [(6, .ref 6 0 [])] [(6, .cell (.arr 4 (.int .u64)) (.data (.arr 4 (.int .u64)) c6) false)]
def j0 {α : Type} (Rt : (List Int) → Option α) (c6 : List Int) (c7 : List Int) : Option α :=
  Rt c7
theorem j0_eq {α : Type} (k : Nat) (Q : Ex → St → Option α) (c6 : List Int) (c7 : List Int) :
    (den C k) cd0 Q (St1 c6 c7) = j0 (fun (c6 : List Int) => Q .ret (St2 c6)) c6 c7 := by
  have h : ∀ (D L : DT α), denJ D L Js C cd0 Q (St1 c6 c7) =
        Q .ret (St2 c7) := by
    intro D L; kernel_rfl
  refine (show (den C k) cd0 Q (St1 c6 c7) = denJ (den C k) (lp C k) Js C cd0 Q (St1 c6 c7) from (denJ_den _ _ _ _ _ _).symm).trans ((h (den C k) (lp C k)).trans ?_)
  first | rfl | kernel_rfl
def top {α : Type} (Rt : (List Int) → Option α) (x0 : List Int) (x1 : List Int) (x2 : List Int) : Option α :=
  (Go.Bx.wide_Add.run x0 x1).bind fun y1 =>
  (if (y1.2.1 == false) = true then Go.Bx.wide_Cmp.run y1.1 x2 else some 0).bind fun y2 =>
  if (cond y1.2.1 true (decide (y2 ≥ 0))) = true then
    (Go.Bx.wide_Sub.run y1.1 x2).bind fun y3 =>
    j0 Rt [0, 0, 0, 0] y3.1
  else
    j0 Rt [0, 0, 0, 0] y1.1
theorem top_eq {α : Type} (k : Nat) (Q : Ex → St → Option α) (x0 : List Int) (x1 : List Int) (x2 : List Int) :
    (den C k) (cB Try.f127) Q (St0 x0 x1 x2) = top (fun (c6 : List Int) => Q .ret (St2 c6)) x0 x1 x2 := by
  have h : ∀ (D L : DT α), denJ D L Js C (cB Try.f127) Q (St0 x0 x1 x2) =
        (Go.Bx.wide_Add.run x0 x1).bind fun y1 =>
        (if (y1.2.1 == false) = true then Go.Bx.wide_Cmp.run y1.1 x2 else some 0).bind fun y2 =>
        if (cond y1.2.1 true (decide (y2 ≥ 0))) = true then
          (Go.Bx.wide_Sub.run y1.1 x2).bind fun y3 =>
          D cd0 Q (St1 [0, 0, 0, 0] y3.1)
        else
          D cd0 Q (St1 [0, 0, 0, 0] y1.1) := by
    intro D L; kernel_rfl
  refine (show (den C k) (cB Try.f127) Q (St0 x0 x1 x2) = denJ (den C k) (lp C k) Js C (cB Try.f127) Q (St0 x0 x1 x2) from (denJ_den _ _ _ _ _ _).symm).trans ((h (den C k) (lp C k)).trans ?_)
  simp only [j0_eq]
  first | rfl | kernel_rfl
def run (x0 : List Int) (x1 : List Int) (x2 : List Int) : Option (List Int) := top (α := List Int) (fun (c6 : List Int) => some c6) x0 x1 x2
def F : Fn := ⟨(.pair (.arr 4 (.int .u64)) (.pair (.arr 4 (.int .u64)) (.pair (.arr 4 (.int .u64)) .unit))), (.arr 4 (.int .u64)), false, fun x => run x.1 x.2.1 x.2.2.1⟩
set_option maxRecDepth 100000 in
theorem con : Con Try.prog 127 F := by
  refine con_of_den (C := C) (ctx_ok (by kernel_rfl) (by kernel_rfl) (by kernel_rfl) (by kernel_rfl) ⟨.inl ⟨Go.Bx.wide_Add.con, Go.Bx.wide_Add.named⟩, ⟨.inl ⟨Go.Bx.wide_Sub.con, Go.Bx.wide_Sub.named⟩, ⟨.inl ⟨Go.Bx.wide_Cmp.con, Go.Bx.wide_Cmp.named⟩, trivial⟩⟩⟩) (by kernel_rfl) Try.func127 (c := cB Try.f127) (by kernel_rfl) (by kernel_rfl) F fuel (fun x => by simp [F, spread, Try.ntmps127]) ?_
  intro x r h
  rw [← h]
  have h1 : start F Try.f127.ntmps x = (St0 x.1 x.2.1 x.2.2.1) := by kernel_rfl
  rw [h1]
  refine (top_eq fuel (fin C Try.f127.results.toList F.rs F.multi) x.1 x.2.1 x.2.2.1).trans ?_
  kernel_rfl
theorem named : Named Try.prog 127 := named_of Try.func127 (by kernel_rfl) (by kernel_rfl)
end Go.Bx.field_add
namespace Go.Bx.field_sub
open Go Go.Proofs Go.Bx
set_option maxRecDepth 100000
set_option linter.unusedVariables false
def Js : List Nat := [5]
def C : Ctx := ⟨[(45, (.arr 4 (.int .u64)))], [], [], fnL [(41, Go.Bx.wide_Add.F), (42, Go.Bx.wide_Sub.F)], noSh, [], invL [], [(2, [6]), (12, [6, 7])], [], [], 0, 0⟩
def St0 (x0 : List Int) (x1 : List Int) (x2 : List Int) : St := stL 23 [(0, .data (.arr 4 (.int .u64)) x0), (1, .data (.arr 4 (.int .u64)) x1), (2, .data (.arr 4 (.int .u64)) x2)] []
def St1 (c6 : List Int) (c7 : List Int) : St := stL 23 [(6, .ref 6 0 []), (7, .ref 7 0 [])] [(6, .cell (.arr 4 (.int .u64)) (.data (.arr 4 (.int .u64)) c6) false), (7, .cell (.arr 4 (.int .u64)) (.data (.arr 4 (.int .u64)) c7) false)]
noncomputable def cd0 : Code := cR (cR (cR (cB Try.f128)))
def St2 (c6 : List Int) : St := stL 23 [(6, .ref 6 0 [])] [(6, .cell (.arr 4 (.int .u64)) (.data (.arr 4 (.int .u64)) c6) false)]
def j0 {α : Type} (Rt : (List Int) → Option α) (c6 : List Int) (c7 : List Int) : Option α :=
  Rt c7
theorem j0_eq {α : Type} (k : Nat) (Q : Ex → St → Option α) (c6 : List Int) (c7 : List Int) :
    (den C k) cd0 Q (St1 c6 c7) = j0 (fun (c6 : List Int) => Q .ret (St2 c6)) c6 c7 := by
  have h : ∀ (D L : DT α), denJ D L Js C cd0 Q (St1 c6 c7) =
        Q .ret (St2 c7) := by
    intro D L; kernel_rfl
  refine (show (den C k) cd0 Q (St1 c6 c7) = denJ (den C k) (lp C k) Js C cd0 Q (St1 c6 c7) from (denJ_den _ _ _ _ _ _).symm).trans ((h (den C k) (lp C k)).trans ?_)
  first | rfl | kernel_rfl
def top {α : Type} (Rt : (List Int) → Option α) (x0 : List Int) (x1 : List Int) (x2 : List Int) : Option α :=
  (Go.Bx.wide_Sub.run x0 x1).bind fun y1 =>
  if y1.2.1 = true then
    (Go.Bx.wide_Add.run y1.1 x2).bind fun y2 =>
    j0 Rt [0, 0, 0, 0] y2.1
  else
    j0 Rt [0, 0, 0, 0] y1.1
theorem top_eq {α : Type} (k : Nat) (Q : Ex → St → Option α) (x0 : List Int) (x1 : List Int) (x2 : List Int) :
    (den C k) (cB Try.f128) Q (St0 x0 x1 x2) = top (fun (c6 : List Int) => Q .ret (St2 c6)) x0 x1 x2 := by
  have h : ∀ (D L : DT α), denJ D L Js C (cB Try.f128) Q (St0 x0 x1 x2) =
        (Go.Bx.wide_Sub.run x0 x1).bind fun y1 =>
        if y1.2.1 = true then
          (Go.Bx.wide_Add.run y1.1 x2).bind fun y2 =>
          D cd0 Q (St1 [0, 0, 0, 0] y2.1)
        else
          D cd0 Q (St1 [0, 0, 0, 0] y1.1) := by
    intro D L; kernel_rfl
  refine (show (den C k) (cB Try.f128) Q (St0 x0 x1 x2) = denJ (den C k) (lp C k) Js C (cB Try.f128) Q (St0 x0 x1 x2) from (denJ_den _ _ _ _ _ _).symm).trans ((h (den C k) (lp C k)).trans ?_)
  simp only [j0_eq]
  first | rfl | kernel_rfl
def run (x0 : List Int) (x1 : List Int) (x2 : List Int) : Option (List Int) := top (α := List Int) (fun (c6 : List Int) => some c6) x0 x1 x2
def F : Fn := ⟨(.pair (.arr 4 (.int .u64)) (.pair (.arr 4 (.int .u64)) (.pair (.arr 4 (.int .u64)) .unit))), (.arr 4 (.int .u64)), false, fun x => run x.1 x.2.1 x.2.2.1⟩
set_option maxRecDepth 100000 in
theorem con : Con Try.prog 128 F := by
  refine con_of_den (C := C) (ctx_ok (by kernel_rfl) (by kernel_rfl) (by kernel_rfl) (by kernel_rfl) ⟨.inl ⟨Go.Bx.wide_Add.con, Go.Bx.wide_Add.named⟩, ⟨.inl ⟨Go.Bx.wide_Sub.con, Go.Bx.wide_Sub.named⟩, trivial⟩⟩) (by kernel_rfl) Try.func128 (c := cB Try.f128) (by kernel_rfl) (by kernel_rfl) F fuel (fun x => by simp [F, spread, Try.ntmps128]) ?_
  intro x r h
  rw [← h]
  have h1 : start F Try.f128.ntmps x = (St0 x.1 x.2.1 x.2.2.1) := by kernel_rfl
  rw [h1]
  refine (top_eq fuel (fin C Try.f128.results.toList F.rs F.multi) x.1 x.2.1 x.2.2.1).trans ?_
  kernel_rfl
theorem named : Named Try.prog 128 := named_of Try.func128 (by kernel_rfl) (by kernel_rfl)
end Go.Bx.field_sub
namespace Go.Bx.field_fault
open Go Go.Proofs Go.Bx
set_option maxRecDepth 100000
set_option linter.unusedVariables false
def Js : List Nat := [10]
def C : Ctx := ⟨[(31, (.int .i64)), (45, (.arr 4 (.int .u64))), (198, (.sl (.arr 4 (.int .u64))))], [], [], fnL [(88, Go.Bx.wide_Cmp.F)], noSh, [], invL [], [(2, [4]), (1, []), (4, [2, 10, 11, 12]), (12, [2, 10, 11, 12]), (27, [])], [], [], 0, 0⟩
def St0 (x0 : List Int) (x1 : List (List Int)) : St := stL 21 [(0, .data (.arr 4 (.int .u64)) x0), (1, .data (.sl (.arr 4 (.int .u64))) x1)] []
def St1 (x4 : Int) : St := stL 21 [(4, .data (.int .i64) x4)] []
def St2 (x10 : List (List Int)) (x11 : Int) (x12 : Int) (c2 : List Int) : St := stL 21 [(2, .ref 2 0 []), (10, .data (.sl (.arr 4 (.int .u64))) x10), (11, .data (.int .i64) x11), (12, .data (.int .i64) x12)] [(2, .cell (.arr 4 (.int .u64)) (.data (.arr 4 (.int .u64)) c2) false)]
noncomputable def cd0 : Code := cL (cL (cR (cL (cR (cR (cB Try.f131))))))
def St3 : St := stL 21 [] []
def l0s {α : Type} (Nx : (List (List Int)) → Int → Int → (List Int) → Option α) (Rt : Int → Option α) (Xt0 : Option α) (x10 : List (List Int)) (x11 : Int) (x12 : Int) (c2 : List Int) : Option α :=
  if (decide (x12 < x11)) = true then
    if 0 ≤ x12 ∧ x12 < (x10.length : Int) then
      (Go.Bx.wide_Cmp.run (List.getD x10 (Int.toNat x12) [0, 0, 0, 0]) c2).bind fun y1 =>
      if (decide (y1 ≥ 0)) = true then
        Rt 6
      else
        Nx x10 x11 (IntKind.i64.wrap (x12 + 1)) c2
    else none
  else
    Xt0
theorem l0s_eq {α : Type} (k : Nat) (next : St → Option α) (Q : Ex → St → Option α) (x10 : List (List Int)) (x11 : Int) (x12 : Int) (c2 : List Int) :
    rnd C k cd0 12 Q next (St2 x10 x11 x12 c2) = l0s (fun (x10 : List (List Int)) (x11 : Int) (x12 : Int) (c2 : List Int) => next (St2 x10 x11 x12 c2)) (fun (x4 : Int) => Q .ret (St1 x4)) (Q (.exit 0) St3) x10 x11 x12 c2 := by
  have h : ∀ (D L : DT α), denJ D L Js C cd0 (lq C 12 next Q) (St2 x10 x11 x12 c2) =
        if (decide (x12 < x11)) = true then
          if 0 ≤ x12 ∧ x12 < (x10.length : Int) then
            (Go.Bx.wide_Cmp.run (List.getD x10 (Int.toNat x12) [0, 0, 0, 0]) c2).bind fun y1 =>
            if (decide (y1 ≥ 0)) = true then
              Q .ret (St1 6)
            else
              next (St2 x10 x11 (IntKind.i64.wrap (x12 + 1)) c2)
          else none
        else
          Q (.exit 0) St3 := by
    intro D L; kernel_rfl
  refine (show rnd C k cd0 12 Q next (St2 x10 x11 x12 c2) = denJ (den C k) (lp C k) Js C cd0 (lq C 12 next Q) (St2 x10 x11 x12 c2) from (denJ_den _ _ _ _ _ _).symm).trans ((h (den C k) (lp C k)).trans ?_)
  first | rfl | kernel_rfl
def l0 {α : Type} (k : Nat) (Rt : Int → Option α) (Xt0 : Option α) : Nat → (List (List Int)) → Int → Int → (List Int) → Option α
  | 0, _, _, _, _ => none
  | n + 1, x10, x11, x12, c2 => l0s (l0 k Rt Xt0 n) Rt Xt0 x10 x11 x12 c2
theorem l0_eq {α : Type} (k : Nat) (Q : Ex → St → Option α) : ∀ (n : Nat) (x10 : List (List Int)) (x11 : Int) (x12 : Int) (c2 : List Int), iter (rnd C k cd0 12 Q) n (St2 x10 x11 x12 c2) = l0 k (fun (x4 : Int) => Q .ret (St1 x4)) (Q (.exit 0) St3) n x10 x11 x12 c2
  | 0, _, _, _, _ => rfl
  | n + 1, x10, x11, x12, c2 => (iter_succ _ _ _).trans ((l0s_eq k (iter (rnd C k cd0 12 Q) n) Q x10 x11 x12 c2).trans (congrArg (fun N => l0s N (fun (x4 : Int) => Q .ret (St1 x4)) (Q (.exit 0) St3) x10 x11 x12 c2) (funext fun x10 => funext fun x11 => funext fun x12 => funext fun c2 => l0_eq k Q n x10 x11 x12 c2)))
theorem l0_congr {α : Type} (k : Nat) (Rt : Int → Option α) (Xt0 : Option α) (Rtq : Int → Option α) (Xt0q : Option α) (hRt : ∀ (x4 : Int), Rt x4 = Rtq x4) (hXt0 : Xt0 = Xt0q) (n : Nat) (x10 : List (List Int)) (x11 : Int) (x12 : Int) (c2 : List Int) : l0 k Rt Xt0 n x10 x11 x12 c2 = l0 k Rtq Xt0q n x10 x11 x12 c2 := by
  obtain rfl : Rt = Rtq := by funext x4; exact hRt x4
  obtain rfl : Xt0 = Xt0q := hXt0
  rfl
noncomputable def cd1 : Code := cR (cR (cR (cB Try.f131)))
def St4 : St := stL 21 [] []
def j0 {α : Type} (Rt : Int → Option α) : Option α :=
  Rt 0
theorem j0_eq {α : Type} (k : Nat) (Q : Ex → St → Option α) :
    (den C k) cd1 Q St4 = j0 (fun (x4 : Int) => Q .ret (St1 x4)) := by
  have h : ∀ (D L : DT α), denJ D L Js C cd1 Q St4 =
        Q .ret (St1 0) := by
    intro D L; kernel_rfl
  refine (show (den C k) cd1 Q St4 = denJ (den C k) (lp C k) Js C cd1 Q St4 from (denJ_den _ _ _ _ _ _).symm).trans ((h (den C k) (lp C k)).trans ?_)
  first | rfl | kernel_rfl
theorem a0 {α : Type} (k : Nat) (Q : Ex → St → Option α) (x10 : List (List Int)) (x11 : Int) (x12 : Int) (c2 : List Int) :
    (lp C k) cd0 (blkQ C 0 (sq (den C k) (lp C k) Js C cd1 Q)) (St2 x10 x11 x12 c2) = l0 k (fun (x4 : Int) => (fun (x4 : Int) => Q .ret (St1 x4)) x4) (j0 (fun (x4 : Int) => Q .ret (St1 x4))) k x10 x11 x12 c2 :=
  (show (lp C k) cd0 (blkQ C 0 (sq (den C k) (lp C k) Js C cd1 Q)) (St2 x10 x11 x12 c2) = iter (rnd C k cd0 12 (blkQ C 0 (sq (den C k) (lp C k) Js C cd1 Q))) k (St2 x10 x11 x12 c2) by kernel_rfl).trans ((l0_eq k (blkQ C 0 (sq (den C k) (lp C k) Js C cd1 Q)) k x10 x11 x12 c2).trans (l0_congr k _ _ _ _ (fun x4 => (show (blkQ C 0 (sq (den C k) (lp C k) Js C cd1 Q)) .ret (St1 x4) = Q .ret (St1 x4) by kernel_rfl)) ((show (blkQ C 0 (sq (den C k) (lp C k) Js C cd1 Q)) (.exit 0) St3 = (den C k) cd1 Q St4 by kernel_rfl).trans (by simp only [j0_eq])) k x10 x11 x12 c2))
def top {α : Type} (k : Nat) (Rt : Int → Option α) (x0 : List Int) (x1 : List (List Int)) : Option α :=
  if (beqD (.arr 4 (.int .u64)) x0 [0, 0, 0, 0]) = true then
    Rt 7
  else
    l0 k (fun (x4 : Int) => Rt x4) (j0 Rt) k x1 (x1.length : Int) 0 x0
theorem top_eq {α : Type} (k : Nat) (Q : Ex → St → Option α) (x0 : List Int) (x1 : List (List Int)) :
    (den C k) (cB Try.f131) Q (St0 x0 x1) = top k (fun (x4 : Int) => Q .ret (St1 x4)) x0 x1 := by
  have h : ∀ (D L : DT α), denJ D L Js C (cB Try.f131) Q (St0 x0 x1) =
        if (beqD (.arr 4 (.int .u64)) x0 [0, 0, 0, 0]) = true then
          Q .ret (St1 7)
        else
          L cd0 (blkQ C 0 (sq D L Js C cd1 Q)) (St2 x1 (x1.length : Int) 0 x0) := by
    intro D L; kernel_rfl
  refine (show (den C k) (cB Try.f131) Q (St0 x0 x1) = denJ (den C k) (lp C k) Js C (cB Try.f131) Q (St0 x0 x1) from (denJ_den _ _ _ _ _ _).symm).trans ((h (den C k) (lp C k)).trans ?_)
  simp only [a0]
  first | rfl | kernel_rfl
def run (x0 : List Int) (x1 : List (List Int)) : Option (Int) := top (α := Int) fuel (fun (x4 : Int) => some x4) x0 x1
def F : Fn := ⟨(.pair (.arr 4 (.int .u64)) (.pair (.sl (.arr 4 (.int .u64))) .unit)), (.int .i64), false, fun x => run x.1 x.2.1⟩
set_option maxRecDepth 100000 in
theorem con : Con Try.prog 131 F := by
  refine con_of_den (C := C) (ctx_ok (by kernel_rfl) (by kernel_rfl) (by kernel_rfl) (by kernel_rfl) ⟨.inl ⟨Go.Bx.wide_Cmp.con, Go.Bx.wide_Cmp.named⟩, trivial⟩) (by kernel_rfl) Try.func131 (c := cB Try.f131) (by kernel_rfl) (by kernel_rfl) F fuel (fun x => by simp [F, spread, Try.ntmps131]) ?_
  intro x r h
  rw [← h]
  have h1 : start F Try.f131.ntmps x = (St0 x.1 x.2.1) := by kernel_rfl
  rw [h1]
  refine (top_eq fuel (fin C Try.f131.results.toList F.rs F.multi) x.1 x.2.1).trans ?_
  kernel_rfl
theorem named : Named Try.prog 131 := named_of Try.func131 (by kernel_rfl) (by kernel_rfl)
end Go.Bx.field_fault
namespace Go.Bx.basculeref_rest
open Go Go.Proofs Go.Bx
set_option maxRecDepth 100000
set_option linter.unusedVariables false
def Js : List Nat := []
def C : Ctx := ⟨[(45, (.arr 4 (.int .u64))), (134, (.sl (.int .u64)))], [], [], fnL [(108, Go.Bx.basculeref_of.F), (114, Go.Bx.basculeref_cut.F), (120, Go.Bx.basculeref_divided.F)], noSh, [], invL [], [(2, [4])], [], [], 0, 0⟩
def St0 (x0 : List Int) (x1 : List Int) : St := stL 16 [(0, .data (.sl (.int .u64)) x0), (1, .data (.arr 4 (.int .u64)) x1)] []
def St1 (c4 : List Int) : St := stL 16 [(4, .ref 4 0 [])] [(4, .cell (.arr 4 (.int .u64)) (.data (.arr 4 (.int .u64)) c4) false)]
def top {α : Type} (Rt : (List Int) → Option α) (x0 : List Int) (x1 : List Int) : Option α :=
  (Go.Bx.basculeref_of.run x1).bind fun y1 =>
  (Go.Bx.basculeref_divided.run x0 y1).bind fun y2 =>
  (Go.Bx.basculeref_cut.run y2.2.1).bind fun y3 =>
  Rt y3
theorem top_eq {α : Type} (k : Nat) (Q : Ex → St → Option α) (x0 : List Int) (x1 : List Int) :
    (den C k) (cB Try.f161) Q (St0 x0 x1) = top (fun (c4 : List Int) => Q .ret (St1 c4)) x0 x1 := by
  have h : ∀ (D L : DT α), denJ D L Js C (cB Try.f161) Q (St0 x0 x1) =
        (Go.Bx.basculeref_of.run x1).bind fun y1 =>
        (Go.Bx.basculeref_divided.run x0 y1).bind fun y2 =>
        (Go.Bx.basculeref_cut.run y2.2.1).bind fun y3 =>
        Q .ret (St1 y3) := by
    intro D L; kernel_rfl
  refine (show (den C k) (cB Try.f161) Q (St0 x0 x1) = denJ (den C k) (lp C k) Js C (cB Try.f161) Q (St0 x0 x1) from (denJ_den _ _ _ _ _ _).symm).trans ((h (den C k) (lp C k)).trans ?_)
  first | rfl | kernel_rfl
def run (x0 : List Int) (x1 : List Int) : Option (List Int) := top (α := List Int) (fun (c4 : List Int) => some c4) x0 x1
def F : Fn := ⟨(.pair (.sl (.int .u64)) (.pair (.arr 4 (.int .u64)) .unit)), (.arr 4 (.int .u64)), false, fun x => run x.1 x.2.1⟩
set_option maxRecDepth 100000 in
theorem con : Con Try.prog 161 F := by
  refine con_of_den (C := C) (ctx_ok (by kernel_rfl) (by kernel_rfl) (by kernel_rfl) (by kernel_rfl) ⟨.inl ⟨Go.Bx.basculeref_of.con, Go.Bx.basculeref_of.named⟩, ⟨.inl ⟨Go.Bx.basculeref_cut.con, Go.Bx.basculeref_cut.named⟩, ⟨.inl ⟨Go.Bx.basculeref_divided.con, Go.Bx.basculeref_divided.named⟩, trivial⟩⟩⟩) (by kernel_rfl) Try.func161 (c := cB Try.f161) (by kernel_rfl) (by kernel_rfl) F fuel (fun x => by simp [F, spread, Try.ntmps161]) ?_
  intro x r h
  rw [← h]
  have h1 : start F Try.f161.ntmps x = (St0 x.1 x.2.1) := by kernel_rfl
  rw [h1]
  refine (top_eq fuel (fin C Try.f161.results.toList F.rs F.multi) x.1 x.2.1).trans ?_
  kernel_rfl
theorem named : Named Try.prog 161 := named_of Try.func161 (by kernel_rfl) (by kernel_rfl)
end Go.Bx.basculeref_rest
namespace Go.Bx.basculeref_total
open Go Go.Proofs Go.Bx
set_option maxRecDepth 100000
set_option linter.unusedVariables false
def Js : List Nat := []
def C : Ctx := ⟨[(45, (.arr 4 (.int .u64)))], [], [], fnL [(107, Go.Bx.basculeref_plus.F), (108, Go.Bx.basculeref_of.F), (161, Go.Bx.basculeref_rest.F)], noSh, [], invL [], [(2, [6])], [], [], 0, 0⟩
def St0 (x0 : List Int) (x1 : List Int) (x2 : List Int) : St := stL 14 [(0, .data (.arr 4 (.int .u64)) x0), (1, .data (.arr 4 (.int .u64)) x1), (2, .data (.arr 4 (.int .u64)) x2)] []
def St1 (c6 : List Int) : St := stL 14 [(6, .ref 6 0 [])] [(6, .cell (.arr 4 (.int .u64)) (.data (.arr 4 (.int .u64)) c6) false)]
def top {α : Type} (Rt : (List Int) → Option α) (x0 : List Int) (x1 : List Int) (x2 : List Int) : Option α :=
  (Go.Bx.basculeref_of.run x0).bind fun y1 =>
  (Go.Bx.basculeref_of.run x1).bind fun y2 =>
  (Go.Bx.basculeref_plus.run y1 y2).bind fun y3 =>
  (Go.Bx.basculeref_rest.run y3 x2).bind fun y4 =>
  Rt y4
theorem top_eq {α : Type} (k : Nat) (Q : Ex → St → Option α) (x0 : List Int) (x1 : List Int) (x2 : List Int) :
    (den C k) (cB Try.f94) Q (St0 x0 x1 x2) = top (fun (c6 : List Int) => Q .ret (St1 c6)) x0 x1 x2 := by
  have h : ∀ (D L : DT α), denJ D L Js C (cB Try.f94) Q (St0 x0 x1 x2) =
        (Go.Bx.basculeref_of.run x0).bind fun y1 =>
        (Go.Bx.basculeref_of.run x1).bind fun y2 =>
        (Go.Bx.basculeref_plus.run y1 y2).bind fun y3 =>
        (Go.Bx.basculeref_rest.run y3 x2).bind fun y4 =>
        Q .ret (St1 y4) := by
    intro D L; kernel_rfl
  refine (show (den C k) (cB Try.f94) Q (St0 x0 x1 x2) = denJ (den C k) (lp C k) Js C (cB Try.f94) Q (St0 x0 x1 x2) from (denJ_den _ _ _ _ _ _).symm).trans ((h (den C k) (lp C k)).trans ?_)
  first | rfl | kernel_rfl
def run (x0 : List Int) (x1 : List Int) (x2 : List Int) : Option (List Int) := top (α := List Int) (fun (c6 : List Int) => some c6) x0 x1 x2
def F : Fn := ⟨(.pair (.arr 4 (.int .u64)) (.pair (.arr 4 (.int .u64)) (.pair (.arr 4 (.int .u64)) .unit))), (.arr 4 (.int .u64)), false, fun x => run x.1 x.2.1 x.2.2.1⟩
set_option maxRecDepth 100000 in
theorem con : Con Try.prog 94 F := by
  refine con_of_den (C := C) (ctx_ok (by kernel_rfl) (by kernel_rfl) (by kernel_rfl) (by kernel_rfl) ⟨.inl ⟨Go.Bx.basculeref_plus.con, Go.Bx.basculeref_plus.named⟩, ⟨.inl ⟨Go.Bx.basculeref_of.con, Go.Bx.basculeref_of.named⟩, ⟨.inl ⟨Go.Bx.basculeref_rest.con, Go.Bx.basculeref_rest.named⟩, trivial⟩⟩⟩) (by kernel_rfl) Try.func94 (c := cB Try.f94) (by kernel_rfl) (by kernel_rfl) F fuel (fun x => by simp [F, spread, Try.ntmps94]) ?_
  intro x r h
  rw [← h]
  have h1 : start F Try.f94.ntmps x = (St0 x.1 x.2.1 x.2.2.1) := by kernel_rfl
  rw [h1]
  refine (top_eq fuel (fin C Try.f94.results.toList F.rs F.multi) x.1 x.2.1 x.2.2.1).trans ?_
  kernel_rfl
theorem named : Named Try.prog 94 := named_of Try.func94 (by kernel_rfl) (by kernel_rfl)
end Go.Bx.basculeref_total
namespace Go.Bx.basculeref_product
open Go Go.Proofs Go.Bx
set_option maxRecDepth 100000
set_option linter.unusedVariables false
def Js : List Nat := []
def C : Ctx := ⟨[(24, (.int .u64)), (45, (.arr 4 (.int .u64)))], [], [], fnL [(108, Go.Bx.basculeref_of.F), (117, Go.Bx.basculeref_times.F), (161, Go.Bx.basculeref_rest.F)], noSh, [], invL [], [(2, [6])], [], [], 0, 0⟩
def St0 (x0 : List Int) (x1 : List Int) (x2 : List Int) : St := stL 37 [(0, .data (.arr 4 (.int .u64)) x0), (1, .data (.arr 4 (.int .u64)) x1), (2, .data (.arr 4 (.int .u64)) x2)] []
def St1 (c6 : List Int) : St := stL 37 [(6, .ref 6 0 [])] [(6, .cell (.arr 4 (.int .u64)) (.data (.arr 4 (.int .u64)) c6) false)]
def top {α : Type} (Rt : (List Int) → Option α) (x0 : List Int) (x1 : List Int) (x2 : List Int) : Option α :=
  if (cond ((bor .u64 (bor .u64 (List.getD x2 1 0) (List.getD x2 2 0)) (List.getD x2 3 0)) == 0) (decide ((List.getD x2 0 0) < 4294967296)) false) = true then
    if (List.getD x2 0 0) ≠ 0 then
      Rt [(Int.tmod (IntKind.u64.wrap ((List.getD x0 0 0) * (List.getD x1 0 0))) (List.getD x2 0 0)), 0, 0, 0]
    else none
  else
    (Go.Bx.basculeref_of.run x0).bind fun y1 =>
    (Go.Bx.basculeref_of.run x1).bind fun y2 =>
    (Go.Bx.basculeref_times.run y1 y2).bind fun y3 =>
    (Go.Bx.basculeref_rest.run y3 x2).bind fun y4 =>
    Rt y4
theorem top_eq {α : Type} (k : Nat) (Q : Ex → St → Option α) (x0 : List Int) (x1 : List Int) (x2 : List Int) :
    (den C k) (cB Try.f95) Q (St0 x0 x1 x2) = top (fun (c6 : List Int) => Q .ret (St1 c6)) x0 x1 x2 := by
  have h : ∀ (D L : DT α), denJ D L Js C (cB Try.f95) Q (St0 x0 x1 x2) =
        if (cond ((bor .u64 (bor .u64 (List.getD x2 1 0) (List.getD x2 2 0)) (List.getD x2 3 0)) == 0) (decide ((List.getD x2 0 0) < 4294967296)) false) = true then
          if (List.getD x2 0 0) ≠ 0 then
            Q .ret (St1 [(Int.tmod (IntKind.u64.wrap ((List.getD x0 0 0) * (List.getD x1 0 0))) (List.getD x2 0 0)), 0, 0, 0])
          else none
        else
          (Go.Bx.basculeref_of.run x0).bind fun y1 =>
          (Go.Bx.basculeref_of.run x1).bind fun y2 =>
          (Go.Bx.basculeref_times.run y1 y2).bind fun y3 =>
          (Go.Bx.basculeref_rest.run y3 x2).bind fun y4 =>
          Q .ret (St1 y4) := by
    intro D L; kernel_rfl
  refine (show (den C k) (cB Try.f95) Q (St0 x0 x1 x2) = denJ (den C k) (lp C k) Js C (cB Try.f95) Q (St0 x0 x1 x2) from (denJ_den _ _ _ _ _ _).symm).trans ((h (den C k) (lp C k)).trans ?_)
  first | rfl | kernel_rfl
def run (x0 : List Int) (x1 : List Int) (x2 : List Int) : Option (List Int) := top (α := List Int) (fun (c6 : List Int) => some c6) x0 x1 x2
def F : Fn := ⟨(.pair (.arr 4 (.int .u64)) (.pair (.arr 4 (.int .u64)) (.pair (.arr 4 (.int .u64)) .unit))), (.arr 4 (.int .u64)), false, fun x => run x.1 x.2.1 x.2.2.1⟩
set_option maxRecDepth 100000 in
theorem con : Con Try.prog 95 F := by
  refine con_of_den (C := C) (ctx_ok (by kernel_rfl) (by kernel_rfl) (by kernel_rfl) (by kernel_rfl) ⟨.inl ⟨Go.Bx.basculeref_of.con, Go.Bx.basculeref_of.named⟩, ⟨.inl ⟨Go.Bx.basculeref_times.con, Go.Bx.basculeref_times.named⟩, ⟨.inl ⟨Go.Bx.basculeref_rest.con, Go.Bx.basculeref_rest.named⟩, trivial⟩⟩⟩) (by kernel_rfl) Try.func95 (c := cB Try.f95) (by kernel_rfl) (by kernel_rfl) F fuel (fun x => by simp [F, spread, Try.ntmps95]) ?_
  intro x r h
  rw [← h]
  have h1 : start F Try.f95.ntmps x = (St0 x.1 x.2.1 x.2.2.1) := by kernel_rfl
  rw [h1]
  refine (top_eq fuel (fin C Try.f95.results.toList F.rs F.multi) x.1 x.2.1 x.2.2.1).trans ?_
  kernel_rfl
theorem named : Named Try.prog 95 := named_of Try.func95 (by kernel_rfl) (by kernel_rfl)
end Go.Bx.basculeref_product
namespace Go.Bx.basculeref_opposite
open Go Go.Proofs Go.Bx
set_option maxRecDepth 100000
set_option linter.unusedVariables false
def Js : List Nat := []
def C : Ctx := ⟨[(45, (.arr 4 (.int .u64)))], [], [], fnL [(108, Go.Bx.basculeref_of.F), (114, Go.Bx.basculeref_cut.F), (115, Go.Bx.basculeref_less.F)], noSh, [], invL [], [(2, [4])], [], [], 0, 0⟩
def St0 (x0 : List Int) (x1 : List Int) : St := stL 15 [(0, .data (.arr 4 (.int .u64)) x0), (1, .data (.arr 4 (.int .u64)) x1)] []
def St1 (c4 : List Int) : St := stL 15 [(4, .ref 4 0 [])] [(4, .cell (.arr 4 (.int .u64)) (.data (.arr 4 (.int .u64)) c4) false)]
def top {α : Type} (Rt : (List Int) → Option α) (x0 : List Int) (x1 : List Int) : Option α :=
  if (beqD (.arr 4 (.int .u64)) x0 [0, 0, 0, 0]) = true then
    Rt x0
  else
    (Go.Bx.basculeref_of.run x1).bind fun y1 =>
    (Go.Bx.basculeref_of.run x0).bind fun y2 =>
    (Go.Bx.basculeref_less.run y1 y2).bind fun y3 =>
    (Go.Bx.basculeref_cut.run y3).bind fun y4 =>
    Rt y4
theorem top_eq {α : Type} (k : Nat) (Q : Ex → St → Option α) (x0 : List Int) (x1 : List Int) :
    (den C k) (cB Try.f110) Q (St0 x0 x1) = top (fun (c4 : List Int) => Q .ret (St1 c4)) x0 x1 := by
  have h : ∀ (D L : DT α), denJ D L Js C (cB Try.f110) Q (St0 x0 x1) =
        if (beqD (.arr 4 (.int .u64)) x0 [0, 0, 0, 0]) = true then
          Q .ret (St1 x0)
        else
          (Go.Bx.basculeref_of.run x1).bind fun y1 =>
          (Go.Bx.basculeref_of.run x0).bind fun y2 =>
          (Go.Bx.basculeref_less.run y1 y2).bind fun y3 =>
          (Go.Bx.basculeref_cut.run y3).bind fun y4 =>
          Q .ret (St1 y4) := by
    intro D L; kernel_rfl
  refine (show (den C k) (cB Try.f110) Q (St0 x0 x1) = denJ (den C k) (lp C k) Js C (cB Try.f110) Q (St0 x0 x1) from (denJ_den _ _ _ _ _ _).symm).trans ((h (den C k) (lp C k)).trans ?_)
  first | rfl | kernel_rfl
def run (x0 : List Int) (x1 : List Int) : Option (List Int) := top (α := List Int) (fun (c4 : List Int) => some c4) x0 x1
def F : Fn := ⟨(.pair (.arr 4 (.int .u64)) (.pair (.arr 4 (.int .u64)) .unit)), (.arr 4 (.int .u64)), false, fun x => run x.1 x.2.1⟩
set_option maxRecDepth 100000 in
theorem con : Con Try.prog 110 F := by
  refine con_of_den (C := C) (ctx_ok (by kernel_rfl) (by kernel_rfl) (by kernel_rfl) (by kernel_rfl) ⟨.inl ⟨Go.Bx.basculeref_of.con, Go.Bx.basculeref_of.named⟩, ⟨.inl ⟨Go.Bx.basculeref_cut.con, Go.Bx.basculeref_cut.named⟩, ⟨.inl ⟨Go.Bx.basculeref_less.con, Go.Bx.basculeref_less.named⟩, trivial⟩⟩⟩) (by kernel_rfl) Try.func110 (c := cB Try.f110) (by kernel_rfl) (by kernel_rfl) F fuel (fun x => by simp [F, spread, Try.ntmps110]) ?_
  intro x r h
  rw [← h]
  have h1 : start F Try.f110.ntmps x = (St0 x.1 x.2.1) := by kernel_rfl
  rw [h1]
  refine (top_eq fuel (fin C Try.f110.results.toList F.rs F.multi) x.1 x.2.1).trans ?_
  kernel_rfl
theorem named : Named Try.prog 110 := named_of Try.func110 (by kernel_rfl) (by kernel_rfl)
end Go.Bx.basculeref_opposite
namespace Go.Bx.basculeref_Order
open Go Go.Proofs Go.Bx
set_option maxRecDepth 100000
set_option linter.unusedVariables false
def Js : List Nat := []
def C : Ctx := ⟨[(3, (.int .i64)), (45, (.arr 4 (.int .u64)))], [], [], fnL [(108, Go.Bx.basculeref_of.F), (113, Go.Bx.basculeref_compare.F)], noSh, [], invL [], [(2, [4])], [], [], 0, 0⟩
def St0 (x0 : List Int) (x1 : List Int) : St := stL 10 [(0, .data (.arr 4 (.int .u64)) x0), (1, .data (.arr 4 (.int .u64)) x1)] []
def St1 (x4 : Int) : St := stL 10 [(4, .data (.int .i64) x4)] []
def top {α : Type} (Rt : Int → Option α) (x0 : List Int) (x1 : List Int) : Option α :=
  (Go.Bx.basculeref_of.run x0).bind fun y1 =>
  (Go.Bx.basculeref_of.run x1).bind fun y2 =>
  (Go.Bx.basculeref_compare.run y1 y2).bind fun y3 =>
  Rt y3
theorem top_eq {α : Type} (k : Nat) (Q : Ex → St → Option α) (x0 : List Int) (x1 : List Int) :
    (den C k) (cB Try.f78) Q (St0 x0 x1) = top (fun (x4 : Int) => Q .ret (St1 x4)) x0 x1 := by
  have h : ∀ (D L : DT α), denJ D L Js C (cB Try.f78) Q (St0 x0 x1) =
        (Go.Bx.basculeref_of.run x0).bind fun y1 =>
        (Go.Bx.basculeref_of.run x1).bind fun y2 =>
        (Go.Bx.basculeref_compare.run y1 y2).bind fun y3 =>
        Q .ret (St1 y3) := by
    intro D L; kernel_rfl
  refine (show (den C k) (cB Try.f78) Q (St0 x0 x1) = denJ (den C k) (lp C k) Js C (cB Try.f78) Q (St0 x0 x1) from (denJ_den _ _ _ _ _ _).symm).trans ((h (den C k) (lp C k)).trans ?_)
  first | rfl | kernel_rfl
def run (x0 : List Int) (x1 : List Int) : Option (Int) := top (α := Int) (fun (x4 : Int) => some x4) x0 x1
def F : Fn := ⟨(.pair (.arr 4 (.int .u64)) (.pair (.arr 4 (.int .u64)) .unit)), (.int .i64), false, fun x => run x.1 x.2.1⟩
set_option maxRecDepth 100000 in
theorem con : Con Try.prog 78 F := by
  refine con_of_den (C := C) (ctx_ok (by kernel_rfl) (by kernel_rfl) (by kernel_rfl) (by kernel_rfl) ⟨.inl ⟨Go.Bx.basculeref_of.con, Go.Bx.basculeref_of.named⟩, ⟨.inl ⟨Go.Bx.basculeref_compare.con, Go.Bx.basculeref_compare.named⟩, trivial⟩⟩) (by kernel_rfl) Try.func78 (c := cB Try.f78) (by kernel_rfl) (by kernel_rfl) F fuel (fun x => by simp [F, spread, Try.ntmps78]) ?_
  intro x r h
  rw [← h]
  have h1 : start F Try.f78.ntmps x = (St0 x.1 x.2.1) := by kernel_rfl
  rw [h1]
  refine (top_eq fuel (fin C Try.f78.results.toList F.rs F.multi) x.1 x.2.1).trans ?_
  kernel_rfl
theorem named : Named Try.prog 78 := named_of Try.func78 (by kernel_rfl) (by kernel_rfl)
end Go.Bx.basculeref_Order
namespace Go.Bx.basculeref_modulus
open Go Go.Proofs Go.Bx
set_option maxRecDepth 100000
set_option linter.unusedVariables false
def Js : List Nat := [10]
def C : Ctx := ⟨[(31, (.int .i64)), (45, (.arr 4 (.int .u64))), (198, (.sl (.arr 4 (.int .u64))))], [], [], fnL [(78, Go.Bx.basculeref_Order.F)], noSh, [], invL [], [(2, [4]), (1, []), (4, [2, 10, 11, 12]), (12, [2, 10, 11, 12]), (27, [])], [], [], 0, 0⟩
def St0 (x0 : List Int) (x1 : List (List Int)) : St := stL 21 [(0, .data (.arr 4 (.int .u64)) x0), (1, .data (.sl (.arr 4 (.int .u64))) x1)] []
def St1 (x4 : Int) : St := stL 21 [(4, .data (.int .i64) x4)] []
def St2 (x10 : List (List Int)) (x11 : Int) (x12 : Int) (c2 : List Int) : St := stL 21 [(2, .ref 2 0 []), (10, .data (.sl (.arr 4 (.int .u64))) x10), (11, .data (.int .i64) x11), (12, .data (.int .i64) x12)] [(2, .cell (.arr 4 (.int .u64)) (.data (.arr 4 (.int .u64)) c2) false)]
noncomputable def cd0 : Code := cL (cL (cR (cL (cR (cR (cB Try.f129))))))
def St3 : St := stL 21 [] []
def l0s {α : Type} (Nx : (List (List Int)) → Int → Int → (List Int) → Option α) (Rt : Int → Option α) (Xt0 : Option α) (x10 : List (List Int)) (x11 : Int) (x12 : Int) (c2 : List Int) : Option α :=
  if (decide (x12 < x11)) = true then
    if 0 ≤ x12 ∧ x12 < (x10.length : Int) then
      (Go.Bx.basculeref_Order.run (List.getD x10 (Int.toNat x12) [0, 0, 0, 0]) c2).bind fun y1 =>
      if (decide (y1 ≥ 0)) = true then
        Rt 6
      else
        Nx x10 x11 (IntKind.i64.wrap (x12 + 1)) c2
    else none
  else
    Xt0
theorem l0s_eq {α : Type} (k : Nat) (next : St → Option α) (Q : Ex → St → Option α) (x10 : List (List Int)) (x11 : Int) (x12 : Int) (c2 : List Int) :
    rnd C k cd0 12 Q next (St2 x10 x11 x12 c2) = l0s (fun (x10 : List (List Int)) (x11 : Int) (x12 : Int) (c2 : List Int) => next (St2 x10 x11 x12 c2)) (fun (x4 : Int) => Q .ret (St1 x4)) (Q (.exit 0) St3) x10 x11 x12 c2 := by
  have h : ∀ (D L : DT α), denJ D L Js C cd0 (lq C 12 next Q) (St2 x10 x11 x12 c2) =
        if (decide (x12 < x11)) = true then
          if 0 ≤ x12 ∧ x12 < (x10.length : Int) then
            (Go.Bx.basculeref_Order.run (List.getD x10 (Int.toNat x12) [0, 0, 0, 0]) c2).bind fun y1 =>
            if (decide (y1 ≥ 0)) = true then
              Q .ret (St1 6)
            else
              next (St2 x10 x11 (IntKind.i64.wrap (x12 + 1)) c2)
          else none
        else
          Q (.exit 0) St3 := by
    intro D L; kernel_rfl
  refine (show rnd C k cd0 12 Q next (St2 x10 x11 x12 c2) = denJ (den C k) (lp C k) Js C cd0 (lq C 12 next Q) (St2 x10 x11 x12 c2) from (denJ_den _ _ _ _ _ _).symm).trans ((h (den C k) (lp C k)).trans ?_)
  first | rfl | kernel_rfl
def l0 {α : Type} (k : Nat) (Rt : Int → Option α) (Xt0 : Option α) : Nat → (List (List Int)) → Int → Int → (List Int) → Option α
  | 0, _, _, _, _ => none
  | n + 1, x10, x11, x12, c2 => l0s (l0 k Rt Xt0 n) Rt Xt0 x10 x11 x12 c2
theorem l0_eq {α : Type} (k : Nat) (Q : Ex → St → Option α) : ∀ (n : Nat) (x10 : List (List Int)) (x11 : Int) (x12 : Int) (c2 : List Int), iter (rnd C k cd0 12 Q) n (St2 x10 x11 x12 c2) = l0 k (fun (x4 : Int) => Q .ret (St1 x4)) (Q (.exit 0) St3) n x10 x11 x12 c2
  | 0, _, _, _, _ => rfl
  | n + 1, x10, x11, x12, c2 => (iter_succ _ _ _).trans ((l0s_eq k (iter (rnd C k cd0 12 Q) n) Q x10 x11 x12 c2).trans (congrArg (fun N => l0s N (fun (x4 : Int) => Q .ret (St1 x4)) (Q (.exit 0) St3) x10 x11 x12 c2) (funext fun x10 => funext fun x11 => funext fun x12 => funext fun c2 => l0_eq k Q n x10 x11 x12 c2)))
theorem l0_congr {α : Type} (k : Nat) (Rt : Int → Option α) (Xt0 : Option α) (Rtq : Int → Option α) (Xt0q : Option α) (hRt : ∀ (x4 : Int), Rt x4 = Rtq x4) (hXt0 : Xt0 = Xt0q) (n : Nat) (x10 : List (List Int)) (x11 : Int) (x12 : Int) (c2 : List Int) : l0 k Rt Xt0 n x10 x11 x12 c2 = l0 k Rtq Xt0q n x10 x11 x12 c2 := by
  obtain rfl : Rt = Rtq := by funext x4; exact hRt x4
  obtain rfl : Xt0 = Xt0q := hXt0
  rfl
noncomputable def cd1 : Code := cR (cR (cR (cB Try.f129)))
def St4 : St := stL 21 [] []
def j0 {α : Type} (Rt : Int → Option α) : Option α :=
  Rt 0
theorem j0_eq {α : Type} (k : Nat) (Q : Ex → St → Option α) :
    (den C k) cd1 Q St4 = j0 (fun (x4 : Int) => Q .ret (St1 x4)) := by
  have h : ∀ (D L : DT α), denJ D L Js C cd1 Q St4 =
        Q .ret (St1 0) := by
    intro D L; kernel_rfl
  refine (show (den C k) cd1 Q St4 = denJ (den C k) (lp C k) Js C cd1 Q St4 from (denJ_den _ _ _ _ _ _).symm).trans ((h (den C k) (lp C k)).trans ?_)
  first | rfl | kernel_rfl
theorem a0 {α : Type} (k : Nat) (Q : Ex → St → Option α) (x10 : List (List Int)) (x11 : Int) (x12 : Int) (c2 : List Int) :
    (lp C k) cd0 (blkQ C 0 (sq (den C k) (lp C k) Js C cd1 Q)) (St2 x10 x11 x12 c2) = l0 k (fun (x4 : Int) => (fun (x4 : Int) => Q .ret (St1 x4)) x4) (j0 (fun (x4 : Int) => Q .ret (St1 x4))) k x10 x11 x12 c2 :=
  (show (lp C k) cd0 (blkQ C 0 (sq (den C k) (lp C k) Js C cd1 Q)) (St2 x10 x11 x12 c2) = iter (rnd C k cd0 12 (blkQ C 0 (sq (den C k) (lp C k) Js C cd1 Q))) k (St2 x10 x11 x12 c2) by kernel_rfl).trans ((l0_eq k (blkQ C 0 (sq (den C k) (lp C k) Js C cd1 Q)) k x10 x11 x12 c2).trans (l0_congr k _ _ _ _ (fun x4 => (show (blkQ C 0 (sq (den C k) (lp C k) Js C cd1 Q)) .ret (St1 x4) = Q .ret (St1 x4) by kernel_rfl)) ((show (blkQ C 0 (sq (den C k) (lp C k) Js C cd1 Q)) (.exit 0) St3 = (den C k) cd1 Q St4 by kernel_rfl).trans (by simp only [j0_eq])) k x10 x11 x12 c2))
def top {α : Type} (k : Nat) (Rt : Int → Option α) (x0 : List Int) (x1 : List (List Int)) : Option α :=
  if (beqD (.arr 4 (.int .u64)) x0 [0, 0, 0, 0]) = true then
    Rt 7
  else
    l0 k (fun (x4 : Int) => Rt x4) (j0 Rt) k x1 (x1.length : Int) 0 x0
theorem top_eq {α : Type} (k : Nat) (Q : Ex → St → Option α) (x0 : List Int) (x1 : List (List Int)) :
    (den C k) (cB Try.f129) Q (St0 x0 x1) = top k (fun (x4 : Int) => Q .ret (St1 x4)) x0 x1 := by
  have h : ∀ (D L : DT α), denJ D L Js C (cB Try.f129) Q (St0 x0 x1) =
        if (beqD (.arr 4 (.int .u64)) x0 [0, 0, 0, 0]) = true then
          Q .ret (St1 7)
        else
          L cd0 (blkQ C 0 (sq D L Js C cd1 Q)) (St2 x1 (x1.length : Int) 0 x0) := by
    intro D L; kernel_rfl
  refine (show (den C k) (cB Try.f129) Q (St0 x0 x1) = denJ (den C k) (lp C k) Js C (cB Try.f129) Q (St0 x0 x1) from (denJ_den _ _ _ _ _ _).symm).trans ((h (den C k) (lp C k)).trans ?_)
  simp only [a0]
  first | rfl | kernel_rfl
def run (x0 : List Int) (x1 : List (List Int)) : Option (Int) := top (α := Int) fuel (fun (x4 : Int) => some x4) x0 x1
def F : Fn := ⟨(.pair (.arr 4 (.int .u64)) (.pair (.sl (.arr 4 (.int .u64))) .unit)), (.int .i64), false, fun x => run x.1 x.2.1⟩
set_option maxRecDepth 100000 in
theorem con : Con Try.prog 129 F := by
  refine con_of_den (C := C) (ctx_ok (by kernel_rfl) (by kernel_rfl) (by kernel_rfl) (by kernel_rfl) ⟨.inl ⟨Go.Bx.basculeref_Order.con, Go.Bx.basculeref_Order.named⟩, trivial⟩) (by kernel_rfl) Try.func129 (c := cB Try.f129) (by kernel_rfl) (by kernel_rfl) F fuel (fun x => by simp [F, spread, Try.ntmps129]) ?_
  intro x r h
  rw [← h]
  have h1 : start F Try.f129.ntmps x = (St0 x.1 x.2.1) := by kernel_rfl
  rw [h1]
  refine (top_eq fuel (fin C Try.f129.results.toList F.rs F.multi) x.1 x.2.1).trans ?_
  kernel_rfl
theorem named : Named Try.prog 129 := named_of Try.func129 (by kernel_rfl) (by kernel_rfl)
end Go.Bx.basculeref_modulus
namespace Go.Bx.basculeref_Modular
open Go Go.Proofs Go.Bx
set_option maxRecDepth 100000
set_option linter.unusedVariables false
def Js : List Nat := []
def C : Ctx := ⟨[(3, (.int .i64)), (31, (.int .i64)), (45, (.arr 4 (.int .u64))), (198, (.sl (.arr 4 (.int .u64))))], [], [], fnL [(94, Go.Bx.basculeref_total.F), (95, Go.Bx.basculeref_product.F), (110, Go.Bx.basculeref_opposite.F), (129, Go.Bx.basculeref_modulus.F)], noSh, [], invL [], [(2, [8, 9]), (1, [5, 6, 7, 8])], [], [], 0, 0⟩
def St0 (x0 : Int) (x1 : List Int) (x2 : List Int) (x3 : List Int) : St := stL 39 [(0, .data (.int .i64) x0), (1, .data (.arr 4 (.int .u64)) x1), (2, .data (.arr 4 (.int .u64)) x2), (3, .data (.arr 4 (.int .u64)) x3)] []
def St1 (x9 : Int) (c8 : List Int) : St := stL 39 [(8, .ref 8 0 []), (9, .data (.int .i64) x9)] [(8, .cell (.arr 4 (.int .u64)) (.data (.arr 4 (.int .u64)) c8) false)]
def top {α : Type} (Rt : Int → (List Int) → Option α) (x0 : Int) (x1 : List Int) (x2 : List Int) (x3 : List Int) : Option α :=
  (Go.Bx.basculeref_modulus.run x3 [x1, x2]).bind fun y1 =>
  if (y1 != 0) = true then
    Rt y1 [0, 0, 0, 0]
  else
    if (x0 == 1) = true then
      (Go.Bx.basculeref_total.run x1 x2 x3).bind fun y2 =>
      Rt 0 y2
    else
      if (x0 == 2) = true then
        (Go.Bx.basculeref_opposite.run x2 x3).bind fun y3 =>
        (Go.Bx.basculeref_total.run x1 y3 x3).bind fun y4 =>
        Rt 0 y4
      else
        (Go.Bx.basculeref_product.run x1 x2 x3).bind fun y5 =>
        Rt 0 y5
theorem top_eq {α : Type} (k : Nat) (Q : Ex → St → Option α) (x0 : Int) (x1 : List Int) (x2 : List Int) (x3 : List Int) :
    (den C k) (cB Try.f54) Q (St0 x0 x1 x2 x3) = top (fun (x9 : Int) (c8 : List Int) => Q .ret (St1 x9 c8)) x0 x1 x2 x3 := by
  have h : ∀ (D L : DT α), denJ D L Js C (cB Try.f54) Q (St0 x0 x1 x2 x3) =
        (Go.Bx.basculeref_modulus.run x3 [x1, x2]).bind fun y1 =>
        if (y1 != 0) = true then
          Q .ret (St1 y1 [0, 0, 0, 0])
        else
          if (x0 == 1) = true then
            (Go.Bx.basculeref_total.run x1 x2 x3).bind fun y2 =>
            Q .ret (St1 0 y2)
          else
            if (x0 == 2) = true then
              (Go.Bx.basculeref_opposite.run x2 x3).bind fun y3 =>
              (Go.Bx.basculeref_total.run x1 y3 x3).bind fun y4 =>
              Q .ret (St1 0 y4)
            else
              (Go.Bx.basculeref_product.run x1 x2 x3).bind fun y5 =>
              Q .ret (St1 0 y5) := by
    intro D L; kernel_rfl
  refine (show (den C k) (cB Try.f54) Q (St0 x0 x1 x2 x3) = denJ (den C k) (lp C k) Js C (cB Try.f54) Q (St0 x0 x1 x2 x3) from (denJ_den _ _ _ _ _ _).symm).trans ((h (den C k) (lp C k)).trans ?_)
  first | rfl | kernel_rfl
def run (x0 : Int) (x1 : List Int) (x2 : List Int) (x3 : List Int) : Option (List Int × Int × Unit) := top (α := List Int × Int × Unit) (fun (x9 : Int) (c8 : List Int) => some (c8, x9, ())) x0 x1 x2 x3
def F : Fn := ⟨(.pair (.int .i64) (.pair (.arr 4 (.int .u64)) (.pair (.arr 4 (.int .u64)) (.pair (.arr 4 (.int .u64)) .unit)))), (.pair (.arr 4 (.int .u64)) (.pair (.int .i64) .unit)), true, fun x => run x.1 x.2.1 x.2.2.1 x.2.2.2.1⟩
set_option maxRecDepth 100000 in
theorem con : Con Try.prog 54 F := by
  refine con_of_den (C := C) (ctx_ok (by kernel_rfl) (by kernel_rfl) (by kernel_rfl) (by kernel_rfl) ⟨.inl ⟨Go.Bx.basculeref_total.con, Go.Bx.basculeref_total.named⟩, ⟨.inl ⟨Go.Bx.basculeref_product.con, Go.Bx.basculeref_product.named⟩, ⟨.inl ⟨Go.Bx.basculeref_opposite.con, Go.Bx.basculeref_opposite.named⟩, ⟨.inl ⟨Go.Bx.basculeref_modulus.con, Go.Bx.basculeref_modulus.named⟩, trivial⟩⟩⟩⟩) (by kernel_rfl) Try.func54 (c := cB Try.f54) (by kernel_rfl) (by kernel_rfl) F fuel (fun x => by simp [F, spread, Try.ntmps54]) ?_
  intro x r h
  rw [← h]
  have h1 : start F Try.f54.ntmps x = (St0 x.1 x.2.1 x.2.2.1 x.2.2.2.1) := by kernel_rfl
  rw [h1]
  refine (top_eq fuel (fin C Try.f54.results.toList F.rs F.multi) x.1 x.2.1 x.2.2.1 x.2.2.2.1).trans ?_
  kernel_rfl
theorem named : Named Try.prog 54 := named_of Try.func54 (by kernel_rfl) (by kernel_rfl)
end Go.Bx.basculeref_Modular
namespace Go.Bx.field_mul_1_s0
open Go Go.Proofs Go.Bx
set_option maxRecDepth 100000
set_option linter.unusedVariables false
def Js : List Nat := []
def C : Ctx := ⟨[(45, (.arr 4 (.int .u64)))], [], [], fnL [(127, Go.Bx.field_add.F)], noSh, [], invL [], [(2, [])], [], [], 3, 0⟩
def St0 (x0 : Bool) (c0 : List Int) (c1 : List Int) (c2 : List Int) : St := stL 14 [(0, .data .bool x0), (1, .ref 0 0 []), (2, .ref 1 0 []), (3, .ref 2 0 [])] [(0, .cell (.arr 4 (.int .u64)) (.data (.arr 4 (.int .u64)) c0) false), (1, .cell (.arr 4 (.int .u64)) (.data (.arr 4 (.int .u64)) c1) false), (2, .cell (.arr 4 (.int .u64)) (.data (.arr 4 (.int .u64)) c2) false)]
def St1 (c0 : List Int) (c1 : List Int) (c2 : List Int) : St := stL 14 [] [(0, .cell (.arr 4 (.int .u64)) (.data (.arr 4 (.int .u64)) c0) false), (1, .cell (.arr 4 (.int .u64)) (.data (.arr 4 (.int .u64)) c1) false), (2, .cell (.arr 4 (.int .u64)) (.data (.arr 4 (.int .u64)) c2) false)]
def top {α : Type} (Rt : (List Int) → (List Int) → (List Int) → Option α) (x0 : Bool) (c0 : List Int) (c1 : List Int) (c2 : List Int) : Option α :=
  (Go.Bx.field_add.run c0 c0 c1).bind fun y1 =>
  if x0 = true then
    (Go.Bx.field_add.run y1 c2 c1).bind fun y2 =>
    Rt y2 c1 c2
  else
    Rt y1 c1 c2
theorem top_eq {α : Type} (k : Nat) (Q : Ex → St → Option α) (x0 : Bool) (c0 : List Int) (c1 : List Int) (c2 : List Int) :
    (den C k) (cB Try.f167) (endQ C Q) (St0 x0 c0 c1 c2) = top (fun (c0 : List Int) (c1 : List Int) (c2 : List Int) => Q .ret (St1 c0 c1 c2)) x0 c0 c1 c2 := by
  have h : ∀ (D L : DT α), denJ D L Js C (cB Try.f167) (endQ C Q) (St0 x0 c0 c1 c2) =
        (Go.Bx.field_add.run c0 c0 c1).bind fun y1 =>
        if x0 = true then
          (Go.Bx.field_add.run y1 c2 c1).bind fun y2 =>
          Q .ret (St1 y2 c1 c2)
        else
          Q .ret (St1 y1 c1 c2) := by
    intro D L; kernel_rfl
  refine (show (den C k) (cB Try.f167) (endQ C Q) (St0 x0 c0 c1 c2) = denJ (den C k) (lp C k) Js C (cB Try.f167) (endQ C Q) (St0 x0 c0 c1 c2) from (denJ_den _ _ _ _ _ _).symm).trans ((h (den C k) (lp C k)).trans ?_)
  first | rfl | kernel_rfl
def run (x0 : Bool) (c0 : List Int) (c1 : List Int) (c2 : List Int) : Option (List Int × List Int × List Int × Unit) := top (α := List Int × List Int × List Int × Unit) (fun (c0 : List Int) (c1 : List Int) (c2 : List Int) => some (c0, c1, c2, ())) x0 c0 c1 c2
def Sp : Spec := ⟨[hD .bool, .ref 0 0 [], .ref 1 0 [], .ref 2 0 []], [(0, hC (.arr 4 (.int .u64)) (hD (.arr 4 (.int .u64))) false), (1, hC (.arr 4 (.int .u64)) (hD (.arr 4 (.int .u64))) false), (2, hC (.arr 4 (.int .u64)) (hD (.arr 4 (.int .u64))) false)], (.pair .bool (.pair (.arr 4 (.int .u64)) (.pair (.arr 4 (.int .u64)) (.pair (.arr 4 (.int .u64)) .unit)))), .tup [], [(0, hC (.arr 4 (.int .u64)) (hD (.arr 4 (.int .u64))) false), (1, hC (.arr 4 (.int .u64)) (hD (.arr 4 (.int .u64))) false), (2, hC (.arr 4 (.int .u64)) (hD (.arr 4 (.int .u64))) false)], (.pair (.arr 4 (.int .u64)) (.pair (.arr 4 (.int .u64)) (.pair (.arr 4 (.int .u64)) .unit))), fun x => run x.1 x.2.1 x.2.2.1 x.2.2.2.1⟩
set_option maxRecDepth 100000 in
theorem sok : SOk Try.prog 167 Sp.h := by
  refine sok_of_den (C := C) (ctx_ok (by kernel_rfl) (by kernel_rfl) (by kernel_rfl) (by kernel_rfl) ⟨.inl ⟨Go.Bx.field_add.con, Go.Bx.field_add.named⟩, trivial⟩) (by kernel_rfl) Try.func167 (c := cB Try.f167) (by kernel_rfl) (by kernel_rfl) Sp fuel (by kernel_rfl) (by kernel_rfl) ?_
  intro x r h
  rw [← h]
  have h1 : Sp.start x Try.f167.ntmps = (St0 x.1 x.2.1 x.2.2.1 x.2.2.2.1) := by kernel_rfl
  rw [h1]
  refine (top_eq fuel (finS C Try.f167.results.toList Sp.read) x.1 x.2.1 x.2.2.1 x.2.2.2.1).trans ?_
  kernel_rfl
theorem named : Named Try.prog 167 := named_of Try.func167 (by kernel_rfl) (by kernel_rfl)
end Go.Bx.field_mul_1_s0
namespace Go.Bx.field_bits_s0
open Go Go.Proofs Go.Bx
set_option maxRecDepth 100000
set_option linter.unusedVariables false
def Js : List Nat := [5, 9]
def C : Ctx := ⟨[(24, (.int .u64)), (45, (.arr 4 (.int .u64)))], [], [], fnL [], shL [(167, [.one Go.Bx.field_mul_1_s0.Sp])], [(38, 40)], invL [], [(2, []), (1, []), (4, [1, 2, 4, 5]), (7, [1, 2, 4, 5]), (10, [1, 2, 4, 5, 6]), (9, [1, 2, 4, 5]), (12, [1, 2, 4, 5]), (21, [1, 2, 4, 5, 6]), (24, [1, 2, 4, 5, 6])], [], [], 3, 0⟩
def St0 (x0 : List Int) (c0 : List Int) (c1 : List Int) (c2 : List Int) : St := stL 39 [(0, .data (.arr 4 (.int .u64)) x0), (1, .fn 167 [] [.ref 0 0 [], .ref 1 0 [], .ref 2 0 []])] [(0, .cell (.arr 4 (.int .u64)) (.data (.arr 4 (.int .u64)) c0) false), (1, .cell (.arr 4 (.int .u64)) (.data (.arr 4 (.int .u64)) c1) false), (2, .cell (.arr 4 (.int .u64)) (.data (.arr 4 (.int .u64)) c2) false)]
def St1 (x4 : Bool) (x5 : Int) (c0 : List Int) (c1 : List Int) (c2 : List Int) (c5 : List Int) : St := stL 39 [(1, .fn 167 [] [.ref 0 0 [], .ref 1 0 [], .ref 2 0 []]), (2, .ref 5 0 []), (4, .data .bool x4), (5, .data (.int .i64) x5)] [(0, .cell (.arr 4 (.int .u64)) (.data (.arr 4 (.int .u64)) c0) false), (1, .cell (.arr 4 (.int .u64)) (.data (.arr 4 (.int .u64)) c1) false), (2, .cell (.arr 4 (.int .u64)) (.data (.arr 4 (.int .u64)) c2) false), (5, .cell (.arr 4 (.int .u64)) (.data (.arr 4 (.int .u64)) c5) false)]
noncomputable def cd0 : Code := cL (cL (cR (cR (cR (cB Try.f132)))))
def St2 (x4 : Bool) (x5 : Int) (c0 : List Int) (c1 : List Int) (c2 : List Int) (c5 : List Int) : St := stL 39 [(1, .fn 167 [] [.ref 0 0 [], .ref 1 0 [], .ref 2 0 []]), (2, .ref 5 0 []), (4, .data .bool x4), (5, .data (.int .i64) x5)] [(0, .cell (.arr 4 (.int .u64)) (.data (.arr 4 (.int .u64)) c0) false), (1, .cell (.arr 4 (.int .u64)) (.data (.arr 4 (.int .u64)) c1) false), (2, .cell (.arr 4 (.int .u64)) (.data (.arr 4 (.int .u64)) c2) false), (5, .cell (.arr 4 (.int .u64)) (.data (.arr 4 (.int .u64)) c5) false)]
noncomputable def cd1 : Code := cR (cR (cL (cL (cR (cR (cR (cB Try.f132)))))))
def j0 {α : Type} (Nx : Bool → Int → (List Int) → (List Int) → (List Int) → (List Int) → Option α) (x4 : Bool) (x5 : Int) (c0 : List Int) (c1 : List Int) (c2 : List Int) (c5 : List Int) : Option α :=
  Nx x4 (IntKind.i64.wrap (x5 - 1)) c0 c1 c2 c5
theorem j0_eq {α : Type} (k : Nat) (next : St → Option α) (Q : Ex → St → Option α) (x4 : Bool) (x5 : Int) (c0 : List Int) (c1 : List Int) (c2 : List Int) (c5 : List Int) :
    (den C k) cd1 (lq C 9 next Q) (St2 x4 x5 c0 c1 c2 c5) = j0 (fun (x4 : Bool) (x5 : Int) (c0 : List Int) (c1 : List Int) (c2 : List Int) (c5 : List Int) => next (St1 x4 x5 c0 c1 c2 c5)) x4 x5 c0 c1 c2 c5 := by
  have h : ∀ (D L : DT α), denJ D L Js C cd1 (lq C 9 next Q) (St2 x4 x5 c0 c1 c2 c5) =
        next (St1 x4 (IntKind.i64.wrap (x5 - 1)) c0 c1 c2 c5) := by
    intro D L; kernel_rfl
  refine (show (den C k) cd1 (lq C 9 next Q) (St2 x4 x5 c0 c1 c2 c5) = denJ (den C k) (lp C k) Js C cd1 (lq C 9 next Q) (St2 x4 x5 c0 c1 c2 c5) from (denJ_den _ _ _ _ _ _).symm).trans ((h (den C k) (lp C k)).trans ?_)
  first | rfl | kernel_rfl
def St3 (x4 : Bool) (x5 : Int) (x6 : Int) (c0 : List Int) (c1 : List Int) (c2 : List Int) (c5 : List Int) : St := stL 39 [(1, .fn 167 [] [.ref 0 0 [], .ref 1 0 [], .ref 2 0 []]), (2, .ref 5 0 []), (4, .data .bool x4), (5, .data (.int .i64) x5), (6, .data (.int .i64) x6)] [(0, .cell (.arr 4 (.int .u64)) (.data (.arr 4 (.int .u64)) c0) false), (1, .cell (.arr 4 (.int .u64)) (.data (.arr 4 (.int .u64)) c1) false), (2, .cell (.arr 4 (.int .u64)) (.data (.arr 4 (.int .u64)) c2) false), (5, .cell (.arr 4 (.int .u64)) (.data (.arr 4 (.int .u64)) c5) false)]
noncomputable def cd2 : Code := cL (cL (cR (cR (cL (cL (cR (cL (cL (cR (cR (cR (cB Try.f132))))))))))))
def St4 (x4 : Bool) (x5 : Int) (x6 : Int) (c0 : List Int) (c1 : List Int) (c2 : List Int) (c5 : List Int) : St := stL 39 [(1, .fn 167 [] [.ref 0 0 [], .ref 1 0 [], .ref 2 0 []]), (2, .ref 5 0 []), (4, .data .bool x4), (5, .data (.int .i64) x5), (6, .data (.int .i64) x6)] [(0, .cell (.arr 4 (.int .u64)) (.data (.arr 4 (.int .u64)) c0) false), (1, .cell (.arr 4 (.int .u64)) (.data (.arr 4 (.int .u64)) c1) false), (2, .cell (.arr 4 (.int .u64)) (.data (.arr 4 (.int .u64)) c2) false), (5, .cell (.arr 4 (.int .u64)) (.data (.arr 4 (.int .u64)) c5) false)]
noncomputable def cd3 : Code := cR (cR (cL (cL (cR (cR (cL (cL (cR (cL (cL (cR (cR (cR (cB Try.f132))))))))))))))
def j1 {α : Type} (Nx : Bool → Int → Int → (List Int) → (List Int) → (List Int) → (List Int) → Option α) (x4 : Bool) (x5 : Int) (x6 : Int) (c0 : List Int) (c1 : List Int) (c2 : List Int) (c5 : List Int) : Option α :=
  Nx x4 x5 (IntKind.i64.wrap (x6 - 1)) c0 c1 c2 c5
theorem j1_eq {α : Type} (k : Nat) (next : St → Option α) (Q : Ex → St → Option α) (x4 : Bool) (x5 : Int) (x6 : Int) (c0 : List Int) (c1 : List Int) (c2 : List Int) (c5 : List Int) :
    (den C k) cd3 (lq C 21 next Q) (St4 x4 x5 x6 c0 c1 c2 c5) = j1 (fun (x4 : Bool) (x5 : Int) (x6 : Int) (c0 : List Int) (c1 : List Int) (c2 : List Int) (c5 : List Int) => next (St3 x4 x5 x6 c0 c1 c2 c5)) x4 x5 x6 c0 c1 c2 c5 := by
  have h : ∀ (D L : DT α), denJ D L Js C cd3 (lq C 21 next Q) (St4 x4 x5 x6 c0 c1 c2 c5) =
        next (St3 x4 x5 (IntKind.i64.wrap (x6 - 1)) c0 c1 c2 c5) := by
    intro D L; kernel_rfl
  refine (show (den C k) cd3 (lq C 21 next Q) (St4 x4 x5 x6 c0 c1 c2 c5) = denJ (den C k) (lp C k) Js C cd3 (lq C 21 next Q) (St4 x4 x5 x6 c0 c1 c2 c5) from (denJ_den _ _ _ _ _ _).symm).trans ((h (den C k) (lp C k)).trans ?_)
  first | rfl | kernel_rfl
def St5 (x4 : Bool) (x5 : Int) (c0 : List Int) (c1 : List Int) (c2 : List Int) (c5 : List Int) : St := stL 39 [(1, .fn 167 [] [.ref 0 0 [], .ref 1 0 [], .ref 2 0 []]), (2, .ref 5 0 []), (4, .data .bool x4), (5, .data (.int .i64) x5)] [(0, .cell (.arr 4 (.int .u64)) (.data (.arr 4 (.int .u64)) c0) false), (1, .cell (.arr 4 (.int .u64)) (.data (.arr 4 (.int .u64)) c1) false), (2, .cell (.arr 4 (.int .u64)) (.data (.arr 4 (.int .u64)) c2) false), (5, .cell (.arr 4 (.int .u64)) (.data (.arr 4 (.int .u64)) c5) false)]
def l1s {α : Type} (Nx : Bool → Int → Int → (List Int) → (List Int) → (List Int) → (List Int) → Option α) (Xt2 : Bool → Int → (List Int) → (List Int) → (List Int) → (List Int) → Option α) (x4 : Bool) (x5 : Int) (x6 : Int) (c0 : List Int) (c1 : List Int) (c2 : List Int) (c5 : List Int) : Option α :=
  if (decide (x6 ≥ 0)) = true then
    if 0 ≤ x5 ∧ x5 < (4 : Int) then
      if 0 ≤ x6 then
        if (cond x4 true ((band .u64 (shrI .u64 (List.getD c5 (Int.toNat x5) 0) x6) 1) == 1)) = true then
          (Go.Bx.field_mul_1_s0.run ((band .u64 (shrI .u64 (List.getD c5 (Int.toNat x5) 0) x6) 1) == 1) c0 c1 c2).bind fun y1 =>
          j1 Nx (cond x4 true ((band .u64 (shrI .u64 (List.getD c5 (Int.toNat x5) 0) x6) 1) == 1)) x5 x6 y1.1 y1.2.1 y1.2.2.1 c5
        else
          j1 Nx (cond x4 true ((band .u64 (shrI .u64 (List.getD c5 (Int.toNat x5) 0) x6) 1) == 1)) x5 x6 c0 c1 c2 c5
      else none
    else none
  else
    Xt2 x4 x5 c0 c1 c2 c5
theorem l1s_eq {α : Type} (k : Nat) (next : St → Option α) (Q : Ex → St → Option α) (x4 : Bool) (x5 : Int) (x6 : Int) (c0 : List Int) (c1 : List Int) (c2 : List Int) (c5 : List Int) :
    rnd C k cd2 21 Q next (St3 x4 x5 x6 c0 c1 c2 c5) = l1s (fun (x4 : Bool) (x5 : Int) (x6 : Int) (c0 : List Int) (c1 : List Int) (c2 : List Int) (c5 : List Int) => next (St3 x4 x5 x6 c0 c1 c2 c5)) (fun (x4 : Bool) (x5 : Int) (c0 : List Int) (c1 : List Int) (c2 : List Int) (c5 : List Int) => Q (.exit 2) (St5 x4 x5 c0 c1 c2 c5)) x4 x5 x6 c0 c1 c2 c5 := by
  have h : ∀ (D L : DT α), denJ D L Js C cd2 (lq C 21 next Q) (St3 x4 x5 x6 c0 c1 c2 c5) =
        if (decide (x6 ≥ 0)) = true then
          if 0 ≤ x5 ∧ x5 < (4 : Int) then
            if 0 ≤ x6 then
              if (cond x4 true ((band .u64 (shrI .u64 (List.getD c5 (Int.toNat x5) 0) x6) 1) == 1)) = true then
                (Go.Bx.field_mul_1_s0.run ((band .u64 (shrI .u64 (List.getD c5 (Int.toNat x5) 0) x6) 1) == 1) c0 c1 c2).bind fun y1 =>
                D cd3 (lq C 21 next Q) (St4 (cond x4 true ((band .u64 (shrI .u64 (List.getD c5 (Int.toNat x5) 0) x6) 1) == 1)) x5 x6 y1.1 y1.2.1 y1.2.2.1 c5)
              else
                D cd3 (lq C 21 next Q) (St4 (cond x4 true ((band .u64 (shrI .u64 (List.getD c5 (Int.toNat x5) 0) x6) 1) == 1)) x5 x6 c0 c1 c2 c5)
            else none
          else none
        else
          Q (.exit 2) (St5 x4 x5 c0 c1 c2 c5) := by
    intro D L; kernel_rfl
  refine (show rnd C k cd2 21 Q next (St3 x4 x5 x6 c0 c1 c2 c5) = denJ (den C k) (lp C k) Js C cd2 (lq C 21 next Q) (St3 x4 x5 x6 c0 c1 c2 c5) from (denJ_den _ _ _ _ _ _).symm).trans ((h (den C k) (lp C k)).trans ?_)
  simp only [j1_eq]
  first | rfl | kernel_rfl
def l1 {α : Type} (k : Nat) (Xt2 : Bool → Int → (List Int) → (List Int) → (List Int) → (List Int) → Option α) : Nat → Bool → Int → Int → (List Int) → (List Int) → (List Int) → (List Int) → Option α
  | 0, _, _, _, _, _, _, _ => none
  | n + 1, x4, x5, x6, c0, c1, c2, c5 => l1s (l1 k Xt2 n) Xt2 x4 x5 x6 c0 c1 c2 c5
theorem l1_eq {α : Type} (k : Nat) (Q : Ex → St → Option α) : ∀ (n : Nat) (x4 : Bool) (x5 : Int) (x6 : Int) (c0 : List Int) (c1 : List Int) (c2 : List Int) (c5 : List Int), iter (rnd C k cd2 21 Q) n (St3 x4 x5 x6 c0 c1 c2 c5) = l1 k (fun (x4 : Bool) (x5 : Int) (c0 : List Int) (c1 : List Int) (c2 : List Int) (c5 : List Int) => Q (.exit 2) (St5 x4 x5 c0 c1 c2 c5)) n x4 x5 x6 c0 c1 c2 c5
  | 0, _, _, _, _, _, _, _ => rfl
  | n + 1, x4, x5, x6, c0, c1, c2, c5 => (iter_succ _ _ _).trans ((l1s_eq k (iter (rnd C k cd2 21 Q) n) Q x4 x5 x6 c0 c1 c2 c5).trans (congrArg (fun N => l1s N (fun (x4 : Bool) (x5 : Int) (c0 : List Int) (c1 : List Int) (c2 : List Int) (c5 : List Int) => Q (.exit 2) (St5 x4 x5 c0 c1 c2 c5)) x4 x5 x6 c0 c1 c2 c5) (funext fun x4 => funext fun x5 => funext fun x6 => funext fun c0 => funext fun c1 => funext fun c2 => funext fun c5 => l1_eq k Q n x4 x5 x6 c0 c1 c2 c5)))
theorem l1_congr {α : Type} (k : Nat) (Xt2 : Bool → Int → (List Int) → (List Int) → (List Int) → (List Int) → Option α) (Xt2q : Bool → Int → (List Int) → (List Int) → (List Int) → (List Int) → Option α) (hXt2 : ∀ (x4 : Bool) (x5 : Int) (c0 : List Int) (c1 : List Int) (c2 : List Int) (c5 : List Int), Xt2 x4 x5 c0 c1 c2 c5 = Xt2q x4 x5 c0 c1 c2 c5) (n : Nat) (x4 : Bool) (x5 : Int) (x6 : Int) (c0 : List Int) (c1 : List Int) (c2 : List Int) (c5 : List Int) : l1 k Xt2 n x4 x5 x6 c0 c1 c2 c5 = l1 k Xt2q n x4 x5 x6 c0 c1 c2 c5 := by
  obtain rfl : Xt2 = Xt2q := by funext x4; funext x5; funext c0; funext c1; funext c2; funext c5; exact hXt2 x4 x5 c0 c1 c2 c5
  rfl
theorem a0 {α : Type} (k : Nat) (next : St → Option α) (Q : Ex → St → Option α) (x4 : Bool) (x5 : Int) (x6 : Int) (c0 : List Int) (c1 : List Int) (c2 : List Int) (c5 : List Int) :
    (lp C k) cd2 (blkQ C 2 (blkQ C 1 (sq (den C k) (lp C k) Js C cd1 (lq C 9 next Q)))) (St3 x4 x5 x6 c0 c1 c2 c5) = l1 k (fun (x4 : Bool) (x5 : Int) (c0 : List Int) (c1 : List Int) (c2 : List Int) (c5 : List Int) => j0 (fun (x4 : Bool) (x5 : Int) (c0 : List Int) (c1 : List Int) (c2 : List Int) (c5 : List Int) => next (St1 x4 x5 c0 c1 c2 c5)) x4 x5 c0 c1 c2 c5) k x4 x5 x6 c0 c1 c2 c5 :=
  (show (lp C k) cd2 (blkQ C 2 (blkQ C 1 (sq (den C k) (lp C k) Js C cd1 (lq C 9 next Q)))) (St3 x4 x5 x6 c0 c1 c2 c5) = iter (rnd C k cd2 21 (blkQ C 2 (blkQ C 1 (sq (den C k) (lp C k) Js C cd1 (lq C 9 next Q))))) k (St3 x4 x5 x6 c0 c1 c2 c5) by kernel_rfl).trans ((l1_eq k (blkQ C 2 (blkQ C 1 (sq (den C k) (lp C k) Js C cd1 (lq C 9 next Q)))) k x4 x5 x6 c0 c1 c2 c5).trans (l1_congr k _ _ (fun x4 x5 c0 c1 c2 c5 => ((show (blkQ C 2 (blkQ C 1 (sq (den C k) (lp C k) Js C cd1 (lq C 9 next Q)))) (.exit 2) (St5 x4 x5 c0 c1 c2 c5) = (den C k) cd1 (lq C 9 next Q) (St2 x4 x5 c0 c1 c2 c5) by kernel_rfl).trans (by simp only [j0_eq]))) k x4 x5 x6 c0 c1 c2 c5))
def St6 (c0 : List Int) (c1 : List Int) (c2 : List Int) : St := stL 39 [] [(0, .cell (.arr 4 (.int .u64)) (.data (.arr 4 (.int .u64)) c0) false), (1, .cell (.arr 4 (.int .u64)) (.data (.arr 4 (.int .u64)) c1) false), (2, .cell (.arr 4 (.int .u64)) (.data (.arr 4 (.int .u64)) c2) false)]
def l0s {α : Type} (k : Nat) (Nx : Bool → Int → (List Int) → (List Int) → (List Int) → (List Int) → Option α) (Xt0 : (List Int) → (List Int) → (List Int) → Option α) (x4 : Bool) (x5 : Int) (c0 : List Int) (c1 : List Int) (c2 : List Int) (c5 : List Int) : Option α :=
  if (decide (x5 ≥ 0)) = true then
    if 0 ≤ x5 ∧ x5 < (4 : Int) then
      if (cond ((List.getD c5 (Int.toNat x5) 0) == 0) (not x4) false) = true then
        j0 Nx x4 x5 c0 c1 c2 c5
      else
        l1 k (fun (x4 : Bool) (x5 : Int) (c0 : List Int) (c1 : List Int) (c2 : List Int) (c5 : List Int) => j0 Nx x4 x5 c0 c1 c2 c5) k x4 x5 63 c0 c1 c2 c5
    else none
  else
    Xt0 c0 c1 c2
theorem l0s_eq {α : Type} (k : Nat) (next : St → Option α) (Q : Ex → St → Option α) (x4 : Bool) (x5 : Int) (c0 : List Int) (c1 : List Int) (c2 : List Int) (c5 : List Int) :
    rnd C k cd0 9 Q next (St1 x4 x5 c0 c1 c2 c5) = l0s k (fun (x4 : Bool) (x5 : Int) (c0 : List Int) (c1 : List Int) (c2 : List Int) (c5 : List Int) => next (St1 x4 x5 c0 c1 c2 c5)) (fun (c0 : List Int) (c1 : List Int) (c2 : List Int) => Q (.exit 0) (St6 c0 c1 c2)) x4 x5 c0 c1 c2 c5 := by
  have h : ∀ (D L : DT α), denJ D L Js C cd0 (lq C 9 next Q) (St1 x4 x5 c0 c1 c2 c5) =
        if (decide (x5 ≥ 0)) = true then
          if 0 ≤ x5 ∧ x5 < (4 : Int) then
            if (cond ((List.getD c5 (Int.toNat x5) 0) == 0) (not x4) false) = true then
              D cd1 (lq C 9 next Q) (St2 x4 x5 c0 c1 c2 c5)
            else
              L cd2 (blkQ C 2 (blkQ C 1 (sq D L Js C cd1 (lq C 9 next Q)))) (St3 x4 x5 63 c0 c1 c2 c5)
          else none
        else
          Q (.exit 0) (St6 c0 c1 c2) := by
    intro D L; kernel_rfl
  refine (show rnd C k cd0 9 Q next (St1 x4 x5 c0 c1 c2 c5) = denJ (den C k) (lp C k) Js C cd0 (lq C 9 next Q) (St1 x4 x5 c0 c1 c2 c5) from (denJ_den _ _ _ _ _ _).symm).trans ((h (den C k) (lp C k)).trans ?_)
  simp only [j0_eq, a0]
  first | rfl | kernel_rfl
def l0 {α : Type} (k : Nat) (Xt0 : (List Int) → (List Int) → (List Int) → Option α) : Nat → Bool → Int → (List Int) → (List Int) → (List Int) → (List Int) → Option α
  | 0, _, _, _, _, _, _ => none
  | n + 1, x4, x5, c0, c1, c2, c5 => l0s k (l0 k Xt0 n) Xt0 x4 x5 c0 c1 c2 c5
theorem l0_eq {α : Type} (k : Nat) (Q : Ex → St → Option α) : ∀ (n : Nat) (x4 : Bool) (x5 : Int) (c0 : List Int) (c1 : List Int) (c2 : List Int) (c5 : List Int), iter (rnd C k cd0 9 Q) n (St1 x4 x5 c0 c1 c2 c5) = l0 k (fun (c0 : List Int) (c1 : List Int) (c2 : List Int) => Q (.exit 0) (St6 c0 c1 c2)) n x4 x5 c0 c1 c2 c5
  | 0, _, _, _, _, _, _ => rfl
  | n + 1, x4, x5, c0, c1, c2, c5 => (iter_succ _ _ _).trans ((l0s_eq k (iter (rnd C k cd0 9 Q) n) Q x4 x5 c0 c1 c2 c5).trans (congrArg (fun N => l0s k N (fun (c0 : List Int) (c1 : List Int) (c2 : List Int) => Q (.exit 0) (St6 c0 c1 c2)) x4 x5 c0 c1 c2 c5) (funext fun x4 => funext fun x5 => funext fun c0 => funext fun c1 => funext fun c2 => funext fun c5 => l0_eq k Q n x4 x5 c0 c1 c2 c5)))
theorem l0_congr {α : Type} (k : Nat) (Xt0 : (List Int) → (List Int) → (List Int) → Option α) (Xt0q : (List Int) → (List Int) → (List Int) → Option α) (hXt0 : ∀ (c0 : List Int) (c1 : List Int) (c2 : List Int), Xt0 c0 c1 c2 = Xt0q c0 c1 c2) (n : Nat) (x4 : Bool) (x5 : Int) (c0 : List Int) (c1 : List Int) (c2 : List Int) (c5 : List Int) : l0 k Xt0 n x4 x5 c0 c1 c2 c5 = l0 k Xt0q n x4 x5 c0 c1 c2 c5 := by
  obtain rfl : Xt0 = Xt0q := by funext c0; funext c1; funext c2; exact hXt0 c0 c1 c2
  rfl
def St7 (c0 : List Int) (c1 : List Int) (c2 : List Int) : St := stL 39 [] [(0, .cell (.arr 4 (.int .u64)) (.data (.arr 4 (.int .u64)) c0) false), (1, .cell (.arr 4 (.int .u64)) (.data (.arr 4 (.int .u64)) c1) false), (2, .cell (.arr 4 (.int .u64)) (.data (.arr 4 (.int .u64)) c2) false)]
theorem a1 {α : Type} (k : Nat) (Q : Ex → St → Option α) (x4 : Bool) (x5 : Int) (c0 : List Int) (c1 : List Int) (c2 : List Int) (c5 : List Int) :
    (lp C k) cd0 (blkQ C 0 (endQ C Q)) (St1 x4 x5 c0 c1 c2 c5) = l0 k (fun (c0 : List Int) (c1 : List Int) (c2 : List Int) => (fun (c0 : List Int) (c1 : List Int) (c2 : List Int) => Q .ret (St7 c0 c1 c2)) c0 c1 c2) k x4 x5 c0 c1 c2 c5 :=
  (show (lp C k) cd0 (blkQ C 0 (endQ C Q)) (St1 x4 x5 c0 c1 c2 c5) = iter (rnd C k cd0 9 (blkQ C 0 (endQ C Q))) k (St1 x4 x5 c0 c1 c2 c5) by kernel_rfl).trans ((l0_eq k (blkQ C 0 (endQ C Q)) k x4 x5 c0 c1 c2 c5).trans (l0_congr k _ _ (fun c0 c1 c2 => (show (blkQ C 0 (endQ C Q)) (.exit 0) (St6 c0 c1 c2) = Q .ret (St7 c0 c1 c2) by kernel_rfl)) k x4 x5 c0 c1 c2 c5))
def top {α : Type} (k : Nat) (Rt : (List Int) → (List Int) → (List Int) → Option α) (x0 : List Int) (c0 : List Int) (c1 : List Int) (c2 : List Int) : Option α :=
  l0 k (fun (c0 : List Int) (c1 : List Int) (c2 : List Int) => Rt c0 c1 c2) k false 3 c0 c1 c2 x0
theorem top_eq {α : Type} (k : Nat) (Q : Ex → St → Option α) (x0 : List Int) (c0 : List Int) (c1 : List Int) (c2 : List Int) :
    (den C k) (cB Try.f132) (endQ C Q) (St0 x0 c0 c1 c2) = top k (fun (c0 : List Int) (c1 : List Int) (c2 : List Int) => Q .ret (St7 c0 c1 c2)) x0 c0 c1 c2 := by
  have h : ∀ (D L : DT α), denJ D L Js C (cB Try.f132) (endQ C Q) (St0 x0 c0 c1 c2) =
        L cd0 (blkQ C 0 (endQ C Q)) (St1 false 3 c0 c1 c2 x0) := by
    intro D L; kernel_rfl
  refine (show (den C k) (cB Try.f132) (endQ C Q) (St0 x0 c0 c1 c2) = denJ (den C k) (lp C k) Js C (cB Try.f132) (endQ C Q) (St0 x0 c0 c1 c2) from (denJ_den _ _ _ _ _ _).symm).trans ((h (den C k) (lp C k)).trans ?_)
  simp only [a1]
  first | rfl | kernel_rfl
def run (x0 : List Int) (c0 : List Int) (c1 : List Int) (c2 : List Int) : Option (List Int × List Int × List Int × Unit) := top (α := List Int × List Int × List Int × Unit) fuel (fun (c0 : List Int) (c1 : List Int) (c2 : List Int) => some (c0, c1, c2, ())) x0 c0 c1 c2
def Sp : Spec := ⟨[hD (.arr 4 (.int .u64)), .fn 167 [] [.ref 0 0 [], .ref 1 0 [], .ref 2 0 []]], [(0, hC (.arr 4 (.int .u64)) (hD (.arr 4 (.int .u64))) false), (1, hC (.arr 4 (.int .u64)) (hD (.arr 4 (.int .u64))) false), (2, hC (.arr 4 (.int .u64)) (hD (.arr 4 (.int .u64))) false)], (.pair (.arr 4 (.int .u64)) (.pair (.arr 4 (.int .u64)) (.pair (.arr 4 (.int .u64)) (.pair (.arr 4 (.int .u64)) .unit)))), .tup [], [(0, hC (.arr 4 (.int .u64)) (hD (.arr 4 (.int .u64))) false), (1, hC (.arr 4 (.int .u64)) (hD (.arr 4 (.int .u64))) false), (2, hC (.arr 4 (.int .u64)) (hD (.arr 4 (.int .u64))) false)], (.pair (.arr 4 (.int .u64)) (.pair (.arr 4 (.int .u64)) (.pair (.arr 4 (.int .u64)) .unit))), fun x => run x.1 x.2.1 x.2.2.1 x.2.2.2.1⟩
set_option maxRecDepth 100000 in
theorem sok : SOk Try.prog 132 Sp.h := by
  refine sok_of_den (C := C) (ctx_ok_sh (by kernel_rfl) (by kernel_rfl) (by kernel_rfl) (by kernel_rfl) trivial ⟨⟨⟨Go.Bx.field_mul_1_s0.sok, trivial⟩, Go.Bx.field_mul_1_s0.named⟩, trivial⟩) (by kernel_rfl) Try.func132 (c := cB Try.f132) (by kernel_rfl) (by kernel_rfl) Sp fuel (by kernel_rfl) (by kernel_rfl) ?_
  intro x r h
  rw [← h]
  have h1 : Sp.start x Try.f132.ntmps = (St0 x.1 x.2.1 x.2.2.1 x.2.2.2.1) := by kernel_rfl
  rw [h1]
  refine (top_eq fuel (finS C Try.f132.results.toList Sp.read) x.1 x.2.1 x.2.2.1 x.2.2.2.1).trans ?_
  kernel_rfl
theorem named : Named Try.prog 132 := named_of Try.func132 (by kernel_rfl) (by kernel_rfl)
end Go.Bx.field_bits_s0
namespace Go.Bx.field_mul
open Go Go.Proofs Go.Bx
set_option maxRecDepth 100000
set_option linter.unusedVariables false
def Js : List Nat := []
def C : Ctx := ⟨[(45, (.arr 4 (.int .u64)))], [], [], fnL [], shL [(132, [.one Go.Bx.field_bits_s0.Sp])], [(10, 13)], invL [], [(2, [6])], [], [], 0, 0⟩
def St0 (x0 : List Int) (x1 : List Int) (x2 : List Int) : St := stL 12 [(0, .data (.arr 4 (.int .u64)) x0), (1, .data (.arr 4 (.int .u64)) x1), (2, .data (.arr 4 (.int .u64)) x2)] []
def St1 (c6 : List Int) : St := stL 12 [(6, .ref 6 0 [])] [(6, .cell (.arr 4 (.int .u64)) (.data (.arr 4 (.int .u64)) c6) false)]
def top {α : Type} (Rt : (List Int) → Option α) (x0 : List Int) (x1 : List Int) (x2 : List Int) : Option α :=
  (Go.Bx.field_bits_s0.run x1 [0, 0, 0, 0] x2 x0).bind fun y1 =>
  Rt y1.1
theorem top_eq {α : Type} (k : Nat) (Q : Ex → St → Option α) (x0 : List Int) (x1 : List Int) (x2 : List Int) :
    (den C k) (cB Try.f130) Q (St0 x0 x1 x2) = top (fun (c6 : List Int) => Q .ret (St1 c6)) x0 x1 x2 := by
  have h : ∀ (D L : DT α), denJ D L Js C (cB Try.f130) Q (St0 x0 x1 x2) =
        (Go.Bx.field_bits_s0.run x1 [0, 0, 0, 0] x2 x0).bind fun y1 =>
        Q .ret (St1 y1.1) := by
    intro D L; kernel_rfl
  refine (show (den C k) (cB Try.f130) Q (St0 x0 x1 x2) = denJ (den C k) (lp C k) Js C (cB Try.f130) Q (St0 x0 x1 x2) from (denJ_den _ _ _ _ _ _).symm).trans ((h (den C k) (lp C k)).trans ?_)
  first | rfl | kernel_rfl
def run (x0 : List Int) (x1 : List Int) (x2 : List Int) : Option (List Int) := top (α := List Int) (fun (c6 : List Int) => some c6) x0 x1 x2
def F : Fn := ⟨(.pair (.arr 4 (.int .u64)) (.pair (.arr 4 (.int .u64)) (.pair (.arr 4 (.int .u64)) .unit))), (.arr 4 (.int .u64)), false, fun x => run x.1 x.2.1 x.2.2.1⟩
set_option maxRecDepth 100000 in
theorem con : Con Try.prog 130 F := by
  refine con_of_den (C := C) (ctx_ok_sh (by kernel_rfl) (by kernel_rfl) (by kernel_rfl) (by kernel_rfl) trivial ⟨⟨⟨Go.Bx.field_bits_s0.sok, trivial⟩, Go.Bx.field_bits_s0.named⟩, trivial⟩) (by kernel_rfl) Try.func130 (c := cB Try.f130) (by kernel_rfl) (by kernel_rfl) F fuel (fun x => by simp [F, spread, Try.ntmps130]) ?_
  intro x r h
  rw [← h]
  have h1 : start F Try.f130.ntmps x = (St0 x.1 x.2.1 x.2.2.1) := by kernel_rfl
  rw [h1]
  refine (top_eq fuel (fin C Try.f130.results.toList F.rs F.multi) x.1 x.2.1 x.2.2.1).trans ?_
  kernel_rfl
theorem named : Named Try.prog 130 := named_of Try.func130 (by kernel_rfl) (by kernel_rfl)
end Go.Bx.field_mul
namespace Go.Bx.field_Inv
open Go Go.Proofs Go.Bx
set_option maxRecDepth 100000
set_option linter.unusedVariables false
def Js : List Nat := [12]
def C : Ctx := ⟨[(31, (.int .i64)), (45, (.arr 4 (.int .u64))), (198, (.sl (.arr 4 (.int .u64))))], [], [], fnL [(47, Go.Bx.wide_DivMod.F), (128, Go.Bx.field_sub.F), (130, Go.Bx.field_mul.F), (131, Go.Bx.field_fault.F)], noSh, [], invL [], [(2, [4, 5]), (1, [4, 10, 12]), (4, [3, 4, 8, 10, 11, 12]), (18, [3, 4, 8, 10, 11, 12]), (33, [4, 10, 12])], [], [], 0, 0⟩
def St0 (x0 : List Int) (x1 : List Int) : St := stL 66 [(0, .data (.arr 4 (.int .u64)) x0), (1, .data (.arr 4 (.int .u64)) x1)] []
def St1 (x5 : Int) (c4 : List Int) : St := stL 66 [(4, .ref 4 0 []), (5, .data (.int .i64) x5)] [(4, .cell (.arr 4 (.int .u64)) (.data (.arr 4 (.int .u64)) c4) false)]
def St2 (c3 : List Int) (c4 : List Int) (c8 : List Int) (c10 : List Int) (c11 : List Int) (c12 : List Int) : St := stL 66 [(3, .ref 3 0 []), (4, .ref 4 0 []), (8, .ref 8 0 []), (10, .ref 10 0 []), (11, .ref 11 0 []), (12, .ref 12 0 [])] [(3, .cell (.arr 4 (.int .u64)) (.data (.arr 4 (.int .u64)) c3) false), (4, .cell (.arr 4 (.int .u64)) (.data (.arr 4 (.int .u64)) c4) false), (8, .cell (.arr 4 (.int .u64)) (.data (.arr 4 (.int .u64)) c8) false), (10, .cell (.arr 4 (.int .u64)) (.data (.arr 4 (.int .u64)) c10) false), (11, .cell (.arr 4 (.int .u64)) (.data (.arr 4 (.int .u64)) c11) false), (12, .cell (.arr 4 (.int .u64)) (.data (.arr 4 (.int .u64)) c12) false)]
noncomputable def cd0 : Code := cL (cL (cL (cR (cR (cR (cR (cB Try.f58)))))))
def St3 (c4 : List Int) (c10 : List Int) (c12 : List Int) : St := stL 66 [(4, .ref 4 0 []), (10, .ref 10 0 []), (12, .ref 12 0 [])] [(4, .cell (.arr 4 (.int .u64)) (.data (.arr 4 (.int .u64)) c4) false), (10, .cell (.arr 4 (.int .u64)) (.data (.arr 4 (.int .u64)) c10) false), (12, .cell (.arr 4 (.int .u64)) (.data (.arr 4 (.int .u64)) c12) false)]
def l0s {α : Type} (Nx : (List Int) → (List Int) → (List Int) → (List Int) → (List Int) → (List Int) → Option α) (Xt0 : (List Int) → (List Int) → (List Int) → Option α) (c3 : List Int) (c4 : List Int) (c8 : List Int) (c10 : List Int) (c11 : List Int) (c12 : List Int) : Option α :=
  if (not (beqD (.arr 4 (.int .u64)) c11 [0, 0, 0, 0])) = true then
    (Go.Bx.wide_DivMod.run c10 c11).bind fun y3 =>
    (Go.Bx.wide_DivMod.run y3.1 c3).bind fun y4 =>
    (Go.Bx.field_mul.run y4.2.1 c8 c3).bind fun y5 =>
    (Go.Bx.field_sub.run c12 y5 c3).bind fun y6 =>
    Nx c3 c4 y6 c11 y3.2.1 c8
  else
    Xt0 c4 c10 c12
theorem l0s_eq {α : Type} (k : Nat) (next : St → Option α) (Q : Ex → St → Option α) (c3 : List Int) (c4 : List Int) (c8 : List Int) (c10 : List Int) (c11 : List Int) (c12 : List Int) :
    rnd C k cd0 18 Q next (St2 c3 c4 c8 c10 c11 c12) = l0s (fun (c3 : List Int) (c4 : List Int) (c8 : List Int) (c10 : List Int) (c11 : List Int) (c12 : List Int) => next (St2 c3 c4 c8 c10 c11 c12)) (fun (c4 : List Int) (c10 : List Int) (c12 : List Int) => Q (.exit 0) (St3 c4 c10 c12)) c3 c4 c8 c10 c11 c12 := by
  have h : ∀ (D L : DT α), denJ D L Js C cd0 (lq C 18 next Q) (St2 c3 c4 c8 c10 c11 c12) =
        if (not (beqD (.arr 4 (.int .u64)) c11 [0, 0, 0, 0])) = true then
          (Go.Bx.wide_DivMod.run c10 c11).bind fun y3 =>
          (Go.Bx.wide_DivMod.run y3.1 c3).bind fun y4 =>
          (Go.Bx.field_mul.run y4.2.1 c8 c3).bind fun y5 =>
          (Go.Bx.field_sub.run c12 y5 c3).bind fun y6 =>
          next (St2 c3 c4 y6 c11 y3.2.1 c8)
        else
          Q (.exit 0) (St3 c4 c10 c12) := by
    intro D L; kernel_rfl
  refine (show rnd C k cd0 18 Q next (St2 c3 c4 c8 c10 c11 c12) = denJ (den C k) (lp C k) Js C cd0 (lq C 18 next Q) (St2 c3 c4 c8 c10 c11 c12) from (denJ_den _ _ _ _ _ _).symm).trans ((h (den C k) (lp C k)).trans ?_)
  first | rfl | kernel_rfl
def l0 {α : Type} (k : Nat) (Xt0 : (List Int) → (List Int) → (List Int) → Option α) : Nat → (List Int) → (List Int) → (List Int) → (List Int) → (List Int) → (List Int) → Option α
  | 0, _, _, _, _, _, _ => none
  | n + 1, c3, c4, c8, c10, c11, c12 => l0s (l0 k Xt0 n) Xt0 c3 c4 c8 c10 c11 c12
theorem l0_eq {α : Type} (k : Nat) (Q : Ex → St → Option α) : ∀ (n : Nat) (c3 : List Int) (c4 : List Int) (c8 : List Int) (c10 : List Int) (c11 : List Int) (c12 : List Int), iter (rnd C k cd0 18 Q) n (St2 c3 c4 c8 c10 c11 c12) = l0 k (fun (c4 : List Int) (c10 : List Int) (c12 : List Int) => Q (.exit 0) (St3 c4 c10 c12)) n c3 c4 c8 c10 c11 c12
  | 0, _, _, _, _, _, _ => rfl
  | n + 1, c3, c4, c8, c10, c11, c12 => (iter_succ _ _ _).trans ((l0s_eq k (iter (rnd C k cd0 18 Q) n) Q c3 c4 c8 c10 c11 c12).trans (congrArg (fun N => l0s N (fun (c4 : List Int) (c10 : List Int) (c12 : List Int) => Q (.exit 0) (St3 c4 c10 c12)) c3 c4 c8 c10 c11 c12) (funext fun c3 => funext fun c4 => funext fun c8 => funext fun c10 => funext fun c11 => funext fun c12 => l0_eq k Q n c3 c4 c8 c10 c11 c12)))
theorem l0_congr {α : Type} (k : Nat) (Xt0 : (List Int) → (List Int) → (List Int) → Option α) (Xt0q : (List Int) → (List Int) → (List Int) → Option α) (hXt0 : ∀ (c4 : List Int) (c10 : List Int) (c12 : List Int), Xt0 c4 c10 c12 = Xt0q c4 c10 c12) (n : Nat) (c3 : List Int) (c4 : List Int) (c8 : List Int) (c10 : List Int) (c11 : List Int) (c12 : List Int) : l0 k Xt0 n c3 c4 c8 c10 c11 c12 = l0 k Xt0q n c3 c4 c8 c10 c11 c12 := by
  obtain rfl : Xt0 = Xt0q := by funext c4; funext c10; funext c12; exact hXt0 c4 c10 c12
  rfl
noncomputable def cd1 : Code := cR (cR (cR (cR (cR (cB Try.f58)))))
def St4 (c4 : List Int) (c10 : List Int) (c12 : List Int) : St := stL 66 [(4, .ref 4 0 []), (10, .ref 10 0 []), (12, .ref 12 0 [])] [(4, .cell (.arr 4 (.int .u64)) (.data (.arr 4 (.int .u64)) c4) false), (10, .cell (.arr 4 (.int .u64)) (.data (.arr 4 (.int .u64)) c10) false), (12, .cell (.arr 4 (.int .u64)) (.data (.arr 4 (.int .u64)) c12) false)]
def j0 {α : Type} (Rt : Int → (List Int) → Option α) (c4 : List Int) (c10 : List Int) (c12 : List Int) : Option α :=
  if (not (beqD (.arr 4 (.int .u64)) c10 [1, 0, 0, 0])) = true then
    Rt 5 [0, 0, 0, 0]
  else
    Rt 0 c12
theorem j0_eq {α : Type} (k : Nat) (Q : Ex → St → Option α) (c4 : List Int) (c10 : List Int) (c12 : List Int) :
    (den C k) cd1 Q (St4 c4 c10 c12) = j0 (fun (x5 : Int) (c4 : List Int) => Q .ret (St1 x5 c4)) c4 c10 c12 := by
  have h : ∀ (D L : DT α), denJ D L Js C cd1 Q (St4 c4 c10 c12) =
        if (not (beqD (.arr 4 (.int .u64)) c10 [1, 0, 0, 0])) = true then
          Q .ret (St1 5 [0, 0, 0, 0])
        else
          Q .ret (St1 0 c12) := by
    intro D L; kernel_rfl
  refine (show (den C k) cd1 Q (St4 c4 c10 c12) = denJ (den C k) (lp C k) Js C cd1 Q (St4 c4 c10 c12) from (denJ_den _ _ _ _ _ _).symm).trans ((h (den C k) (lp C k)).trans ?_)
  first | rfl | kernel_rfl
theorem a0 {α : Type} (k : Nat) (Q : Ex → St → Option α) (c3 : List Int) (c4 : List Int) (c8 : List Int) (c10 : List Int) (c11 : List Int) (c12 : List Int) :
    (lp C k) cd0 (blkQ C 0 (sq (den C k) (lp C k) Js C cd1 Q)) (St2 c3 c4 c8 c10 c11 c12) = l0 k (fun (c4 : List Int) (c10 : List Int) (c12 : List Int) => j0 (fun (x5 : Int) (c4 : List Int) => Q .ret (St1 x5 c4)) c4 c10 c12) k c3 c4 c8 c10 c11 c12 :=
  (show (lp C k) cd0 (blkQ C 0 (sq (den C k) (lp C k) Js C cd1 Q)) (St2 c3 c4 c8 c10 c11 c12) = iter (rnd C k cd0 18 (blkQ C 0 (sq (den C k) (lp C k) Js C cd1 Q))) k (St2 c3 c4 c8 c10 c11 c12) by kernel_rfl).trans ((l0_eq k (blkQ C 0 (sq (den C k) (lp C k) Js C cd1 Q)) k c3 c4 c8 c10 c11 c12).trans (l0_congr k _ _ (fun c4 c10 c12 => ((show (blkQ C 0 (sq (den C k) (lp C k) Js C cd1 Q)) (.exit 0) (St3 c4 c10 c12) = (den C k) cd1 Q (St4 c4 c10 c12) by kernel_rfl).trans (by simp only [j0_eq]))) k c3 c4 c8 c10 c11 c12))
def top {α : Type} (k : Nat) (Rt : Int → (List Int) → Option α) (x0 : List Int) (x1 : List Int) : Option α :=
  (Go.Bx.field_fault.run x1 [x0]).bind fun y1 =>
  if (y1 != 0) = true then
    Rt y1 [0, 0, 0, 0]
  else
    (Go.Bx.wide_DivMod.run [1, 0, 0, 0] x1).bind fun y2 =>
    l0 k (fun (c4 : List Int) (c10 : List Int) (c12 : List Int) => j0 Rt c4 c10 c12) k x1 [0, 0, 0, 0] y2.2.1 x1 x0 [0, 0, 0, 0]
theorem top_eq {α : Type} (k : Nat) (Q : Ex → St → Option α) (x0 : List Int) (x1 : List Int) :
    (den C k) (cB Try.f58) Q (St0 x0 x1) = top k (fun (x5 : Int) (c4 : List Int) => Q .ret (St1 x5 c4)) x0 x1 := by
  have h : ∀ (D L : DT α), denJ D L Js C (cB Try.f58) Q (St0 x0 x1) =
        (Go.Bx.field_fault.run x1 [x0]).bind fun y1 =>
        if (y1 != 0) = true then
          Q .ret (St1 y1 [0, 0, 0, 0])
        else
          (Go.Bx.wide_DivMod.run [1, 0, 0, 0] x1).bind fun y2 =>
          L cd0 (blkQ C 0 (sq D L Js C cd1 Q)) (St2 x1 [0, 0, 0, 0] y2.2.1 x1 x0 [0, 0, 0, 0]) := by
    intro D L; kernel_rfl
  refine (show (den C k) (cB Try.f58) Q (St0 x0 x1) = denJ (den C k) (lp C k) Js C (cB Try.f58) Q (St0 x0 x1) from (denJ_den _ _ _ _ _ _).symm).trans ((h (den C k) (lp C k)).trans ?_)
  simp only [a0]
  first | rfl | kernel_rfl
def run (x0 : List Int) (x1 : List Int) : Option (List Int × Int × Unit) := top (α := List Int × Int × Unit) fuel (fun (x5 : Int) (c4 : List Int) => some (c4, x5, ())) x0 x1
def F : Fn := ⟨(.pair (.arr 4 (.int .u64)) (.pair (.arr 4 (.int .u64)) .unit)), (.pair (.arr 4 (.int .u64)) (.pair (.int .i64) .unit)), true, fun x => run x.1 x.2.1⟩
set_option maxRecDepth 100000 in
theorem con : Con Try.prog 58 F := by
  refine con_of_den (C := C) (ctx_ok (by kernel_rfl) (by kernel_rfl) (by kernel_rfl) (by kernel_rfl) ⟨.inl ⟨Go.Bx.wide_DivMod.con, Go.Bx.wide_DivMod.named⟩, ⟨.inl ⟨Go.Bx.field_sub.con, Go.Bx.field_sub.named⟩, ⟨.inl ⟨Go.Bx.field_mul.con, Go.Bx.field_mul.named⟩, ⟨.inl ⟨Go.Bx.field_fault.con, Go.Bx.field_fault.named⟩, trivial⟩⟩⟩⟩) (by kernel_rfl) Try.func58 (c := cB Try.f58) (by kernel_rfl) (by kernel_rfl) F fuel (fun x => by simp [F, spread, Try.ntmps58]) ?_
  intro x r h
  rw [← h]
  have h1 : start F Try.f58.ntmps x = (St0 x.1 x.2.1) := by kernel_rfl
  rw [h1]
  refine (top_eq fuel (fin C Try.f58.results.toList F.rs F.multi) x.1 x.2.1).trans ?_
  kernel_rfl
theorem named : Named Try.prog 58 := named_of Try.func58 (by kernel_rfl) (by kernel_rfl)
end Go.Bx.field_Inv
