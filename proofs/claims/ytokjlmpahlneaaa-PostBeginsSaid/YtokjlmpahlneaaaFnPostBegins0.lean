/- Go functions of this seat in their own words of Lean, each tied to its code by a contract. -/
import Derived.Test.YtokjlmpahlneaaaGBase
import Derived.Test.YtokjlmpahlneaaaCxZi
import Derived.Test.YtokjlmpahlneaaaCxZj
namespace Go.Bx.basculeref_of
open Go Go.Proofs Go.Bx
set_option maxRecDepth 100000
set_option linter.unusedVariables false
def Js : List Nat := [8]
def C : Ctx := ⟨[(45, (.arr 4 (.int .u64))), (134, (.sl (.int .u64)))], [], [], fnL [], noSh, [], invL [], [(2, [2]), (1, [3]), (4, [3, 6, 7]), (9, [3, 6, 7]), (21, [3])], [(9, [.melt true 3 [] 16 true])], [], 0, 0⟩
def St0 (x0 : List Int) : St := stL 19 [(0, .data (.arr 4 (.int .u64)) x0)] []
def St1 (x6 : List Int) (x7 : Int) (c16 : List Int) : St := stL 19 [(3, .app 16 0), (6, .data (.arr 4 (.int .u64)) x6), (7, .data (.int .i64) x7)] [(16, .buf (.int .u64) c16 0 true)]
noncomputable def cd0 : Code := cL (cL (cR (cL (cR (cR (cB Try.f108))))))
def St2 (c16 : List Int) : St := stL 19 [(3, .app 16 0)] [(16, .buf (.int .u64) c16 0 true)]
def l0s {α : Type} (Nx : (List Int) → Int → (List Int) → Option α) (Xt0 : (List Int) → Option α) (x6 : List Int) (x7 : Int) (c16 : List Int) : Option α :=
  if (decide (x7 < 4)) = true then
    if 0 ≤ x7 ∧ x7 < (4 : Int) then
      if fitB (c16.length + 2) 8 = true then
        Nx x6 (IntKind.i64.wrap (x7 + 1)) (c16 ++ [(Int.tmod (List.getD x6 (Int.toNat x7) 0) 4294967296), (IntKind.u64.wrap (Int.tdiv (List.getD x6 (Int.toNat x7) 0) 4294967296))])
      else none
    else none
  else
    Xt0 c16
theorem l0s_eq {α : Type} (k : Nat) (next : St → Option α) (Q : Ex → St → Option α) (x6 : List Int) (x7 : Int) (c16 : List Int) :
    rnd C k cd0 9 Q next (St1 x6 x7 c16) = l0s (fun (x6 : List Int) (x7 : Int) (c16 : List Int) => next (St1 x6 x7 c16)) (fun (c16 : List Int) => Q (.exit 0) (St2 c16)) x6 x7 c16 := by
  have h : ∀ (D L : DT α), denJ D L Js C cd0 (lq C 9 next Q) (St1 x6 x7 c16) =
        if (decide (x7 < 4)) = true then
          if 0 ≤ x7 ∧ x7 < (4 : Int) then
            if fitB (c16.length + 2) 8 = true then
              next (St1 x6 (IntKind.i64.wrap (x7 + 1)) (c16 ++ [(Int.tmod (List.getD x6 (Int.toNat x7) 0) 4294967296), (IntKind.u64.wrap (Int.tdiv (List.getD x6 (Int.toNat x7) 0) 4294967296))]))
            else none
          else none
        else
          Q (.exit 0) (St2 c16) := by
    intro D L; kernel_rfl
  refine (show rnd C k cd0 9 Q next (St1 x6 x7 c16) = denJ (den C k) (lp C k) Js C cd0 (lq C 9 next Q) (St1 x6 x7 c16) from (denJ_den _ _ _ _ _ _).symm).trans ((h (den C k) (lp C k)).trans ?_)
  first | rfl | kernel_rfl
def l0 {α : Type} (k : Nat) (Xt0 : (List Int) → Option α) : Nat → (List Int) → Int → (List Int) → Option α
  | 0, _, _, _ => none
  | n + 1, x6, x7, c16 => l0s (l0 k Xt0 n) Xt0 x6 x7 c16
theorem l0_eq {α : Type} (k : Nat) (Q : Ex → St → Option α) : ∀ (n : Nat) (x6 : List Int) (x7 : Int) (c16 : List Int), iter (rnd C k cd0 9 Q) n (St1 x6 x7 c16) = l0 k (fun (c16 : List Int) => Q (.exit 0) (St2 c16)) n x6 x7 c16
  | 0, _, _, _ => rfl
  | n + 1, x6, x7, c16 => (iter_succ _ _ _).trans ((l0s_eq k (iter (rnd C k cd0 9 Q) n) Q x6 x7 c16).trans (congrArg (fun N => l0s N (fun (c16 : List Int) => Q (.exit 0) (St2 c16)) x6 x7 c16) (funext fun x6 => funext fun x7 => funext fun c16 => l0_eq k Q n x6 x7 c16)))
theorem l0_congr {α : Type} (k : Nat) (Xt0 : (List Int) → Option α) (Xt0q : (List Int) → Option α) (hXt0 : ∀ (c16 : List Int), Xt0 c16 = Xt0q c16) (n : Nat) (x6 : List Int) (x7 : Int) (c16 : List Int) : l0 k Xt0 n x6 x7 c16 = l0 k Xt0q n x6 x7 c16 := by
  obtain rfl : Xt0 = Xt0q := by funext c16; exact hXt0 c16
  rfl
noncomputable def cd1 : Code := cR (cR (cR (cB Try.f108)))
def St3 (c16 : List Int) : St := stL 19 [(3, .app 16 0)] [(16, .buf (.int .u64) c16 0 true)]
def St4 (c16 : List Int) : St := stL 19 [(2, .app 16 0)] [(16, .buf (.int .u64) c16 0 true)]
def j0 {α : Type} (Rt : (List Int) → Option α) (c16 : List Int) : Option α :=
  Rt c16
theorem j0_eq {α : Type} (k : Nat) (Q : Ex → St → Option α) (c16 : List Int) :
    (den C k) cd1 Q (St3 c16) = j0 (fun (c16 : List Int) => Q .ret (St4 c16)) c16 := by
  have h : ∀ (D L : DT α), denJ D L Js C cd1 Q (St3 c16) =
        Q .ret (St4 c16) := by
    intro D L; kernel_rfl
  refine (show (den C k) cd1 Q (St3 c16) = denJ (den C k) (lp C k) Js C cd1 Q (St3 c16) from (denJ_den _ _ _ _ _ _).symm).trans ((h (den C k) (lp C k)).trans ?_)
  first | rfl | kernel_rfl
theorem a0 {α : Type} (k : Nat) (Q : Ex → St → Option α) (x6 : List Int) (x7 : Int) (c16 : List Int) :
    (lp C k) cd0 (blkQ C 0 (sq (den C k) (lp C k) Js C cd1 Q)) (St1 x6 x7 c16) = l0 k (fun (c16 : List Int) => j0 (fun (c16 : List Int) => Q .ret (St4 c16)) c16) k x6 x7 c16 :=
  (show (lp C k) cd0 (blkQ C 0 (sq (den C k) (lp C k) Js C cd1 Q)) (St1 x6 x7 c16) = iter (rnd C k cd0 9 (blkQ C 0 (sq (den C k) (lp C k) Js C cd1 Q))) k (St1 x6 x7 c16) by kernel_rfl).trans ((l0_eq k (blkQ C 0 (sq (den C k) (lp C k) Js C cd1 Q)) k x6 x7 c16).trans (l0_congr k _ _ (fun c16 => ((show (blkQ C 0 (sq (den C k) (lp C k) Js C cd1 Q)) (.exit 0) (St2 c16) = (den C k) cd1 Q (St3 c16) by kernel_rfl).trans (by simp only [j0_eq]))) k x6 x7 c16))
def top {α : Type} (k : Nat) (Rt : (List Int) → Option α) (x0 : List Int) : Option α :=
  l0 k (fun (c16 : List Int) => j0 Rt c16) k x0 0 []
theorem top_eq {α : Type} (k : Nat) (Q : Ex → St → Option α) (x0 : List Int) :
    (den C k) (cB Try.f108) Q (St0 x0) = top k (fun (c16 : List Int) => Q .ret (St4 c16)) x0 := by
  have h : ∀ (D L : DT α), denJ D L Js C (cB Try.f108) Q (St0 x0) =
        L cd0 (blkQ C 0 (sq D L Js C cd1 Q)) (St1 x0 0 []) := by
    intro D L; kernel_rfl
  refine (show (den C k) (cB Try.f108) Q (St0 x0) = denJ (den C k) (lp C k) Js C (cB Try.f108) Q (St0 x0) from (denJ_den _ _ _ _ _ _).symm).trans ((h (den C k) (lp C k)).trans ?_)
  simp only [a0]
  first | rfl | kernel_rfl
def run (x0 : List Int) : Option (List Int) := top (α := List Int) fuel (fun (c16 : List Int) => some c16) x0
def F : Fn := ⟨(.pair (.arr 4 (.int .u64)) .unit), (.sl (.int .u64)), false, fun x => run x.1⟩
set_option maxRecDepth 100000 in
theorem con : Con Try.prog 108 F := by
  refine con_of_den (C := C) (ctx_ok (by kernel_rfl) (by kernel_rfl) (by kernel_rfl) (by kernel_rfl) trivial) (by kernel_rfl) Try.func108 (c := cB Try.f108) (by kernel_rfl) (by kernel_rfl) F fuel (fun x => by simp [F, spread, Try.ntmps108]) ?_
  intro x r h
  rw [← h]
  have h1 : start F Try.f108.ntmps x = (St0 x.1) := by kernel_rfl
  rw [h1]
  refine (top_eq fuel (fin C Try.f108.results.toList F.rs F.multi) x.1).trans ?_
  kernel_rfl
theorem named : Named Try.prog 108 := named_of Try.func108 (by kernel_rfl) (by kernel_rfl)
end Go.Bx.basculeref_of
namespace Go.Bx.basculeref_plus
open Go Go.Proofs Go.Bx
set_option maxRecDepth 100000
set_option linter.unusedVariables false
def Js : List Nat := [10, 12, 13]
def C : Ctx := ⟨[(24, (.int .u64)), (134, (.sl (.int .u64)))], [], [], fnL [], noSh, [], invL [], [(2, [4]), (1, [5, 6]), (4, [0, 1, 5, 6, 7]), (12, [0, 1, 5, 6, 7]), (27, [0, 1, 5, 7, 8]), (33, [0, 1, 5, 7, 8]), (36, [5, 6])], [(12, [.melt true 5 [] 46 true])], [], 0, 0⟩
def St0 (x0 : List Int) (x1 : List Int) : St := stL 53 [(0, .data (.sl (.int .u64)) x0), (1, .data (.sl (.int .u64)) x1)] []
def St1 (x0 : List Int) (x1 : List Int) (x6 : Int) (x7 : Int) (c46 : List Int) : St := stL 53 [(0, .data (.sl (.int .u64)) x0), (1, .data (.sl (.int .u64)) x1), (5, .app 46 0), (6, .data (.int .u64) x6), (7, .data (.int .i64) x7)] [(46, .buf (.int .u64) c46 0 true)]
noncomputable def cd0 : Code := cL (cL (cR (cL (cR (cR (cR (cB Try.f107)))))))
def St2 (x0 : List Int) (x1 : List Int) (x7 : Int) (x8 : Int) (c46 : List Int) : St := stL 53 [(0, .data (.sl (.int .u64)) x0), (1, .data (.sl (.int .u64)) x1), (5, .app 46 0), (7, .data (.int .i64) x7), (8, .data (.int .u64) x8)] [(46, .buf (.int .u64) c46 0 true)]
noncomputable def cd1 : Code := cR (cR (cL (cL (cR (cL (cR (cR (cR (cB Try.f107)))))))))
noncomputable def cd2 : Code := cR (cR (cL (cL (cR (cL (cL (cR (cL (cR (cR (cR (cB Try.f107))))))))))))
def St3 (x0 : List Int) (x1 : List Int) (x7 : Int) (x8 : Int) (c46 : List Int) : St := stL 53 [(0, .data (.sl (.int .u64)) x0), (1, .data (.sl (.int .u64)) x1), (5, .app 46 0), (7, .data (.int .i64) x7), (8, .data (.int .u64) x8)] [(46, .buf (.int .u64) c46 0 true)]
noncomputable def cd3 : Code := cR (cR (cR (cL (cL (cR (cL (cL (cR (cL (cR (cR (cR (cB Try.f107)))))))))))))
def j1 {α : Type} (Nx : (List Int) → (List Int) → Int → Int → (List Int) → Option α) (x0 : List Int) (x1 : List Int) (x7 : Int) (x8 : Int) (c46 : List Int) : Option α :=
  if fitB (c46.length + 1) 8 = true then
    Nx x0 x1 (IntKind.u64.wrap (Int.tdiv x8 4294967296)) (IntKind.i64.wrap (x7 + 1)) (c46 ++ [(Int.tmod x8 4294967296)])
  else none
theorem j1_eq {α : Type} (k : Nat) (next : St → Option α) (Q : Ex → St → Option α) (x0 : List Int) (x1 : List Int) (x7 : Int) (x8 : Int) (c46 : List Int) :
    (den C k) cd3 (blkQ C 1 (sq (den C k) (lp C k) Js C cd1 (lq C 12 next Q))) (St3 x0 x1 x7 x8 c46) = j1 (fun (x0 : List Int) (x1 : List Int) (x6 : Int) (x7 : Int) (c46 : List Int) => next (St1 x0 x1 x6 x7 c46)) x0 x1 x7 x8 c46 := by
  have h : ∀ (D L : DT α), denJ D L Js C cd3 (blkQ C 1 (sq D L Js C cd1 (lq C 12 next Q))) (St3 x0 x1 x7 x8 c46) =
        if fitB (c46.length + 1) 8 = true then
          next (St1 x0 x1 (IntKind.u64.wrap (Int.tdiv x8 4294967296)) (IntKind.i64.wrap (x7 + 1)) (c46 ++ [(Int.tmod x8 4294967296)]))
        else none := by
    intro D L; kernel_rfl
  refine (show (den C k) cd3 (blkQ C 1 (sq (den C k) (lp C k) Js C cd1 (lq C 12 next Q))) (St3 x0 x1 x7 x8 c46) = denJ (den C k) (lp C k) Js C cd3 (blkQ C 1 (sq (den C k) (lp C k) Js C cd1 (lq C 12 next Q))) (St3 x0 x1 x7 x8 c46) from (denJ_den _ _ _ _ _ _).symm).trans ((h (den C k) (lp C k)).trans ?_)
  first | rfl | kernel_rfl
def j0 {α : Type} (Nx : (List Int) → (List Int) → Int → Int → (List Int) → Option α) (x0 : List Int) (x1 : List Int) (x7 : Int) (x8 : Int) (c46 : List Int) : Option α :=
  if (decide (x7 < (x1.length : Int))) = true then
    if 0 ≤ x7 ∧ x7 < (x1.length : Int) then
      j1 Nx x0 x1 x7 (IntKind.u64.wrap (x8 + (List.getD x1 (Int.toNat x7) 0))) c46
    else none
  else
    j1 Nx x0 x1 x7 x8 c46
theorem j0_eq {α : Type} (k : Nat) (next : St → Option α) (Q : Ex → St → Option α) (x0 : List Int) (x1 : List Int) (x7 : Int) (x8 : Int) (c46 : List Int) :
    (den C k) cd2 (blkQ C 1 (sq (den C k) (lp C k) Js C cd1 (lq C 12 next Q))) (St2 x0 x1 x7 x8 c46) = j0 (fun (x0 : List Int) (x1 : List Int) (x6 : Int) (x7 : Int) (c46 : List Int) => next (St1 x0 x1 x6 x7 c46)) x0 x1 x7 x8 c46 := by
  have h : ∀ (D L : DT α), denJ D L Js C cd2 (blkQ C 1 (sq D L Js C cd1 (lq C 12 next Q))) (St2 x0 x1 x7 x8 c46) =
        if (decide (x7 < (x1.length : Int))) = true then
          if 0 ≤ x7 ∧ x7 < (x1.length : Int) then
            D cd3 (blkQ C 1 (sq D L Js C cd1 (lq C 12 next Q))) (St3 x0 x1 x7 (IntKind.u64.wrap (x8 + (List.getD x1 (Int.toNat x7) 0))) c46)
          else none
        else
          D cd3 (blkQ C 1 (sq D L Js C cd1 (lq C 12 next Q))) (St3 x0 x1 x7 x8 c46) := by
    intro D L; kernel_rfl
  refine (show (den C k) cd2 (blkQ C 1 (sq (den C k) (lp C k) Js C cd1 (lq C 12 next Q))) (St2 x0 x1 x7 x8 c46) = denJ (den C k) (lp C k) Js C cd2 (blkQ C 1 (sq (den C k) (lp C k) Js C cd1 (lq C 12 next Q))) (St2 x0 x1 x7 x8 c46) from (denJ_den _ _ _ _ _ _).symm).trans ((h (den C k) (lp C k)).trans ?_)
  simp only [j1_eq]
  first | rfl | kernel_rfl
def St4 (x6 : Int) (c46 : List Int) : St := stL 53 [(5, .app 46 0), (6, .data (.int .u64) x6)] [(46, .buf (.int .u64) c46 0 true)]
def l0s {α : Type} (Nx : (List Int) → (List Int) → Int → Int → (List Int) → Option α) (Xt0 : Int → (List Int) → Option α) (x0 : List Int) (x1 : List Int) (x6 : Int) (x7 : Int) (c46 : List Int) : Option α :=
  if (cond (decide (x7 < (x0.length : Int))) true (decide (x7 < (x1.length : Int)))) = true then
    if (decide (x7 < (x0.length : Int))) = true then
      if 0 ≤ x7 ∧ x7 < (x0.length : Int) then
        j0 Nx x0 x1 x7 (IntKind.u64.wrap (x6 + (List.getD x0 (Int.toNat x7) 0))) c46
      else none
    else
      j0 Nx x0 x1 x7 x6 c46
  else
    Xt0 x6 c46
theorem l0s_eq {α : Type} (k : Nat) (next : St → Option α) (Q : Ex → St → Option α) (x0 : List Int) (x1 : List Int) (x6 : Int) (x7 : Int) (c46 : List Int) :
    rnd C k cd0 12 Q next (St1 x0 x1 x6 x7 c46) = l0s (fun (x0 : List Int) (x1 : List Int) (x6 : Int) (x7 : Int) (c46 : List Int) => next (St1 x0 x1 x6 x7 c46)) (fun (x6 : Int) (c46 : List Int) => Q (.exit 0) (St4 x6 c46)) x0 x1 x6 x7 c46 := by
  have h : ∀ (D L : DT α), denJ D L Js C cd0 (lq C 12 next Q) (St1 x0 x1 x6 x7 c46) =
        if (cond (decide (x7 < (x0.length : Int))) true (decide (x7 < (x1.length : Int)))) = true then
          if (decide (x7 < (x0.length : Int))) = true then
            if 0 ≤ x7 ∧ x7 < (x0.length : Int) then
              D cd2 (blkQ C 1 (sq D L Js C cd1 (lq C 12 next Q))) (St2 x0 x1 x7 (IntKind.u64.wrap (x6 + (List.getD x0 (Int.toNat x7) 0))) c46)
            else none
          else
            D cd2 (blkQ C 1 (sq D L Js C cd1 (lq C 12 next Q))) (St2 x0 x1 x7 x6 c46)
        else
          Q (.exit 0) (St4 x6 c46) := by
    intro D L; kernel_rfl
  refine (show rnd C k cd0 12 Q next (St1 x0 x1 x6 x7 c46) = denJ (den C k) (lp C k) Js C cd0 (lq C 12 next Q) (St1 x0 x1 x6 x7 c46) from (denJ_den _ _ _ _ _ _).symm).trans ((h (den C k) (lp C k)).trans ?_)
  simp only [j0_eq]
  first | rfl | kernel_rfl
def l0 {α : Type} (k : Nat) (Xt0 : Int → (List Int) → Option α) : Nat → (List Int) → (List Int) → Int → Int → (List Int) → Option α
  | 0, _, _, _, _, _ => none
  | n + 1, x0, x1, x6, x7, c46 => l0s (l0 k Xt0 n) Xt0 x0 x1 x6 x7 c46
theorem l0_eq {α : Type} (k : Nat) (Q : Ex → St → Option α) : ∀ (n : Nat) (x0 : List Int) (x1 : List Int) (x6 : Int) (x7 : Int) (c46 : List Int), iter (rnd C k cd0 12 Q) n (St1 x0 x1 x6 x7 c46) = l0 k (fun (x6 : Int) (c46 : List Int) => Q (.exit 0) (St4 x6 c46)) n x0 x1 x6 x7 c46
  | 0, _, _, _, _, _ => rfl
  | n + 1, x0, x1, x6, x7, c46 => (iter_succ _ _ _).trans ((l0s_eq k (iter (rnd C k cd0 12 Q) n) Q x0 x1 x6 x7 c46).trans (congrArg (fun N => l0s N (fun (x6 : Int) (c46 : List Int) => Q (.exit 0) (St4 x6 c46)) x0 x1 x6 x7 c46) (funext fun x0 => funext fun x1 => funext fun x6 => funext fun x7 => funext fun c46 => l0_eq k Q n x0 x1 x6 x7 c46)))
theorem l0_congr {α : Type} (k : Nat) (Xt0 : Int → (List Int) → Option α) (Xt0q : Int → (List Int) → Option α) (hXt0 : ∀ (x6 : Int) (c46 : List Int), Xt0 x6 c46 = Xt0q x6 c46) (n : Nat) (x0 : List Int) (x1 : List Int) (x6 : Int) (x7 : Int) (c46 : List Int) : l0 k Xt0 n x0 x1 x6 x7 c46 = l0 k Xt0q n x0 x1 x6 x7 c46 := by
  obtain rfl : Xt0 = Xt0q := by funext x6; funext c46; exact hXt0 x6 c46
  rfl
noncomputable def cd4 : Code := cR (cR (cR (cR (cB Try.f107))))
def St5 (x6 : Int) (c46 : List Int) : St := stL 53 [(5, .app 46 0), (6, .data (.int .u64) x6)] [(46, .buf (.int .u64) c46 0 true)]
def St6 (c46 : List Int) : St := stL 53 [(4, .app 46 0)] [(46, .buf (.int .u64) c46 0 true)]
def j2 {α : Type} (Rt : (List Int) → Option α) (x6 : Int) (c46 : List Int) : Option α :=
  if fitB (c46.length + 1) 8 = true then
    Rt (c46 ++ [x6])
  else none
theorem j2_eq {α : Type} (k : Nat) (Q : Ex → St → Option α) (x6 : Int) (c46 : List Int) :
    (den C k) cd4 Q (St5 x6 c46) = j2 (fun (c46 : List Int) => Q .ret (St6 c46)) x6 c46 := by
  have h : ∀ (D L : DT α), denJ D L Js C cd4 Q (St5 x6 c46) =
        if fitB (c46.length + 1) 8 = true then
          Q .ret (St6 (c46 ++ [x6]))
        else none := by
    intro D L; kernel_rfl
  refine (show (den C k) cd4 Q (St5 x6 c46) = denJ (den C k) (lp C k) Js C cd4 Q (St5 x6 c46) from (denJ_den _ _ _ _ _ _).symm).trans ((h (den C k) (lp C k)).trans ?_)
  first | rfl | kernel_rfl
theorem a0 {α : Type} (k : Nat) (Q : Ex → St → Option α) (x0 : List Int) (x1 : List Int) (x6 : Int) (x7 : Int) (c46 : List Int) :
    (lp C k) cd0 (blkQ C 0 (sq (den C k) (lp C k) Js C cd4 Q)) (St1 x0 x1 x6 x7 c46) = l0 k (fun (x6 : Int) (c46 : List Int) => j2 (fun (c46 : List Int) => Q .ret (St6 c46)) x6 c46) k x0 x1 x6 x7 c46 :=
  (show (lp C k) cd0 (blkQ C 0 (sq (den C k) (lp C k) Js C cd4 Q)) (St1 x0 x1 x6 x7 c46) = iter (rnd C k cd0 12 (blkQ C 0 (sq (den C k) (lp C k) Js C cd4 Q))) k (St1 x0 x1 x6 x7 c46) by kernel_rfl).trans ((l0_eq k (blkQ C 0 (sq (den C k) (lp C k) Js C cd4 Q)) k x0 x1 x6 x7 c46).trans (l0_congr k _ _ (fun x6 c46 => ((show (blkQ C 0 (sq (den C k) (lp C k) Js C cd4 Q)) (.exit 0) (St4 x6 c46) = (den C k) cd4 Q (St5 x6 c46) by kernel_rfl).trans (by simp only [j2_eq]))) k x0 x1 x6 x7 c46))
def top {α : Type} (k : Nat) (Rt : (List Int) → Option α) (x0 : List Int) (x1 : List Int) : Option α :=
  l0 k (fun (x6 : Int) (c46 : List Int) => j2 Rt x6 c46) k x0 x1 0 0 []
theorem top_eq {α : Type} (k : Nat) (Q : Ex → St → Option α) (x0 : List Int) (x1 : List Int) :
    (den C k) (cB Try.f107) Q (St0 x0 x1) = top k (fun (c46 : List Int) => Q .ret (St6 c46)) x0 x1 := by
  have h : ∀ (D L : DT α), denJ D L Js C (cB Try.f107) Q (St0 x0 x1) =
        L cd0 (blkQ C 0 (sq D L Js C cd4 Q)) (St1 x0 x1 0 0 []) := by
    intro D L; kernel_rfl
  refine (show (den C k) (cB Try.f107) Q (St0 x0 x1) = denJ (den C k) (lp C k) Js C (cB Try.f107) Q (St0 x0 x1) from (denJ_den _ _ _ _ _ _).symm).trans ((h (den C k) (lp C k)).trans ?_)
  simp only [a0]
  first | rfl | kernel_rfl
def run (x0 : List Int) (x1 : List Int) : Option (List Int) := top (α := List Int) fuel (fun (c46 : List Int) => some c46) x0 x1
def F : Fn := ⟨(.pair (.sl (.int .u64)) (.pair (.sl (.int .u64)) .unit)), (.sl (.int .u64)), false, fun x => run x.1 x.2.1⟩
set_option maxRecDepth 100000 in
theorem con : Con Try.prog 107 F := by
  refine con_of_den (C := C) (ctx_ok (by kernel_rfl) (by kernel_rfl) (by kernel_rfl) (by kernel_rfl) trivial) (by kernel_rfl) Try.func107 (c := cB Try.f107) (by kernel_rfl) (by kernel_rfl) F fuel (fun x => by simp [F, spread, Try.ntmps107]) ?_
  intro x r h
  rw [← h]
  have h1 : start F Try.f107.ntmps x = (St0 x.1 x.2.1) := by kernel_rfl
  rw [h1]
  refine (top_eq fuel (fin C Try.f107.results.toList F.rs F.multi) x.1 x.2.1).trans ?_
  kernel_rfl
theorem named : Named Try.prog 107 := named_of Try.func107 (by kernel_rfl) (by kernel_rfl)
end Go.Bx.basculeref_plus
namespace Go.Bx.basculeref_less
open Go Go.Proofs Go.Bx
set_option maxRecDepth 100000
set_option linter.unusedVariables false
def Js : List Nat := [10, 14, 16]
def C : Ctx := ⟨[(24, (.int .u64)), (134, (.sl (.int .u64)))], [], [], fnL [], noSh, [], invL [], [(2, [4]), (1, [5]), (4, [1, 5, 6, 13, 14]), (12, [1, 5, 6, 13, 14]), (27, [1, 5, 7, 8, 13, 14]), (39, [1, 5, 6, 7, 8, 13, 14]), (45, [5])], [], [], 0, 0⟩
def St0 (x0 : List Int) (x1 : List Int) : St := stL 49 [(0, .data (.sl (.int .u64)) x0), (1, .data (.sl (.int .u64)) x1)] []
def St1 (x1 : List Int) (x6 : Int) (x13 : Int) (x14 : Int) (c11 : List Int) : St := stL 49 [(1, .data (.sl (.int .u64)) x1), (5, .app 11 0), (6, .data (.int .u64) x6), (13, .data (.int .i64) x13), (14, .data (.int .i64) x14)] [(11, .buf (.int .u64) c11 0 false)]
noncomputable def cd0 : Code := cL (cL (cR (cL (cR (cR (cR (cB Try.f115)))))))
def St2 (x1 : List Int) (x7 : Int) (x8 : Int) (x13 : Int) (x14 : Int) (c11 : List Int) : St := stL 49 [(1, .data (.sl (.int .u64)) x1), (5, .app 11 0), (7, .data (.int .i64) x7), (8, .data (.int .u64) x8), (13, .data (.int .i64) x13), (14, .data (.int .i64) x14)] [(11, .buf (.int .u64) c11 0 false)]
noncomputable def cd1 : Code := cR (cR (cR (cL (cL (cR (cL (cR (cR (cR (cB Try.f115))))))))))
noncomputable def cd2 : Code := cR (cR (cR (cL (cL (cR (cR (cL (cL (cR (cL (cR (cR (cR (cB Try.f115))))))))))))))
def St3 (x1 : List Int) (x6 : Int) (x7 : Int) (x8 : Int) (x13 : Int) (x14 : Int) (c11 : List Int) : St := stL 49 [(1, .data (.sl (.int .u64)) x1), (5, .app 11 0), (6, .data (.int .u64) x6), (7, .data (.int .i64) x7), (8, .data (.int .u64) x8), (13, .data (.int .i64) x13), (14, .data (.int .i64) x14)] [(11, .buf (.int .u64) c11 0 false)]
noncomputable def cd3 : Code := cR (cR (cR (cR (cR (cL (cL (cR (cR (cL (cL (cR (cL (cR (cR (cR (cB Try.f115))))))))))))))))
def j1 {α : Type} (Nx : (List Int) → Int → Int → Int → (List Int) → Option α) (x1 : List Int) (x6 : Int) (x7 : Int) (x8 : Int) (x13 : Int) (x14 : Int) (c11 : List Int) : Option α :=
  if 0 ≤ x7 ∧ x7 < (c11.length : Int) then
    if 0 ≤ x7 ∧ x7 < (c11.length : Int) then
      Nx x1 x6 x13 (IntKind.i64.wrap (x14 + 1)) (List.set c11 (Int.toNat x7) (IntKind.u64.wrap ((List.getD c11 (Int.toNat x7) 0) - x8)))
    else none
  else none
theorem j1_eq {α : Type} (k : Nat) (next : St → Option α) (Q : Ex → St → Option α) (x1 : List Int) (x6 : Int) (x7 : Int) (x8 : Int) (x13 : Int) (x14 : Int) (c11 : List Int) :
    (den C k) cd3 (blkQ C 1 (sq (den C k) (lp C k) Js C cd1 (lq C 12 next Q))) (St3 x1 x6 x7 x8 x13 x14 c11) = j1 (fun (x1 : List Int) (x6 : Int) (x13 : Int) (x14 : Int) (c11 : List Int) => next (St1 x1 x6 x13 x14 c11)) x1 x6 x7 x8 x13 x14 c11 := by
  have h : ∀ (D L : DT α), denJ D L Js C cd3 (blkQ C 1 (sq D L Js C cd1 (lq C 12 next Q))) (St3 x1 x6 x7 x8 x13 x14 c11) =
        if 0 ≤ x7 ∧ x7 < (c11.length : Int) then
          if 0 ≤ x7 ∧ x7 < (c11.length : Int) then
            next (St1 x1 x6 x13 (IntKind.i64.wrap (x14 + 1)) (List.set c11 (Int.toNat x7) (IntKind.u64.wrap ((List.getD c11 (Int.toNat x7) 0) - x8))))
          else none
        else none := by
    intro D L; kernel_rfl
  refine (show (den C k) cd3 (blkQ C 1 (sq (den C k) (lp C k) Js C cd1 (lq C 12 next Q))) (St3 x1 x6 x7 x8 x13 x14 c11) = denJ (den C k) (lp C k) Js C cd3 (blkQ C 1 (sq (den C k) (lp C k) Js C cd1 (lq C 12 next Q))) (St3 x1 x6 x7 x8 x13 x14 c11) from (denJ_den _ _ _ _ _ _).symm).trans ((h (den C k) (lp C k)).trans ?_)
  first | rfl | kernel_rfl
def j0 {α : Type} (Nx : (List Int) → Int → Int → Int → (List Int) → Option α) (x1 : List Int) (x7 : Int) (x8 : Int) (x13 : Int) (x14 : Int) (c11 : List Int) : Option α :=
  if 0 ≤ x7 ∧ x7 < (c11.length : Int) then
    if (decide ((List.getD c11 (Int.toNat x7) 0) < x8)) = true then
      if 0 ≤ x7 ∧ x7 < (c11.length : Int) then
        if 0 ≤ x7 ∧ x7 < (c11.length : Int) then
          j1 Nx x1 1 x7 x8 x13 x14 (List.set c11 (Int.toNat x7) (IntKind.u64.wrap ((List.getD c11 (Int.toNat x7) 0) + 4294967296)))
        else none
      else none
    else
      j1 Nx x1 0 x7 x8 x13 x14 c11
  else none
theorem j0_eq {α : Type} (k : Nat) (next : St → Option α) (Q : Ex → St → Option α) (x1 : List Int) (x7 : Int) (x8 : Int) (x13 : Int) (x14 : Int) (c11 : List Int) :
    (den C k) cd2 (blkQ C 1 (sq (den C k) (lp C k) Js C cd1 (lq C 12 next Q))) (St2 x1 x7 x8 x13 x14 c11) = j0 (fun (x1 : List Int) (x6 : Int) (x13 : Int) (x14 : Int) (c11 : List Int) => next (St1 x1 x6 x13 x14 c11)) x1 x7 x8 x13 x14 c11 := by
  have h : ∀ (D L : DT α), denJ D L Js C cd2 (blkQ C 1 (sq D L Js C cd1 (lq C 12 next Q))) (St2 x1 x7 x8 x13 x14 c11) =
        if 0 ≤ x7 ∧ x7 < (c11.length : Int) then
          if (decide ((List.getD c11 (Int.toNat x7) 0) < x8)) = true then
            if 0 ≤ x7 ∧ x7 < (c11.length : Int) then
              if 0 ≤ x7 ∧ x7 < (c11.length : Int) then
                D cd3 (blkQ C 1 (sq D L Js C cd1 (lq C 12 next Q))) (St3 x1 1 x7 x8 x13 x14 (List.set c11 (Int.toNat x7) (IntKind.u64.wrap ((List.getD c11 (Int.toNat x7) 0) + 4294967296))))
              else none
            else none
          else
            D cd3 (blkQ C 1 (sq D L Js C cd1 (lq C 12 next Q))) (St3 x1 0 x7 x8 x13 x14 c11)
        else none := by
    intro D L; kernel_rfl
  refine (show (den C k) cd2 (blkQ C 1 (sq (den C k) (lp C k) Js C cd1 (lq C 12 next Q))) (St2 x1 x7 x8 x13 x14 c11) = denJ (den C k) (lp C k) Js C cd2 (blkQ C 1 (sq (den C k) (lp C k) Js C cd1 (lq C 12 next Q))) (St2 x1 x7 x8 x13 x14 c11) from (denJ_den _ _ _ _ _ _).symm).trans ((h (den C k) (lp C k)).trans ?_)
  simp only [j1_eq]
  first | rfl | kernel_rfl
def St4 (c11 : List Int) : St := stL 49 [(5, .app 11 0)] [(11, .buf (.int .u64) c11 0 false)]
def l0s {α : Type} (Nx : (List Int) → Int → Int → Int → (List Int) → Option α) (Xt0 : (List Int) → Option α) (x1 : List Int) (x6 : Int) (x13 : Int) (x14 : Int) (c11 : List Int) : Option α :=
  if (decide (x14 < x13)) = true then
    if (decide (x14 < (x1.length : Int))) = true then
      if 0 ≤ x14 ∧ x14 < (x1.length : Int) then
        j0 Nx x1 x14 (IntKind.u64.wrap (x6 + (List.getD x1 (Int.toNat x14) 0))) x13 x14 c11
      else none
    else
      j0 Nx x1 x14 x6 x13 x14 c11
  else
    Xt0 c11
theorem l0s_eq {α : Type} (k : Nat) (next : St → Option α) (Q : Ex → St → Option α) (x1 : List Int) (x6 : Int) (x13 : Int) (x14 : Int) (c11 : List Int) :
    rnd C k cd0 12 Q next (St1 x1 x6 x13 x14 c11) = l0s (fun (x1 : List Int) (x6 : Int) (x13 : Int) (x14 : Int) (c11 : List Int) => next (St1 x1 x6 x13 x14 c11)) (fun (c11 : List Int) => Q (.exit 0) (St4 c11)) x1 x6 x13 x14 c11 := by
  have h : ∀ (D L : DT α), denJ D L Js C cd0 (lq C 12 next Q) (St1 x1 x6 x13 x14 c11) =
        if (decide (x14 < x13)) = true then
          if (decide (x14 < (x1.length : Int))) = true then
            if 0 ≤ x14 ∧ x14 < (x1.length : Int) then
              D cd2 (blkQ C 1 (sq D L Js C cd1 (lq C 12 next Q))) (St2 x1 x14 (IntKind.u64.wrap (x6 + (List.getD x1 (Int.toNat x14) 0))) x13 x14 c11)
            else none
          else
            D cd2 (blkQ C 1 (sq D L Js C cd1 (lq C 12 next Q))) (St2 x1 x14 x6 x13 x14 c11)
        else
          Q (.exit 0) (St4 c11) := by
    intro D L; kernel_rfl
  refine (show rnd C k cd0 12 Q next (St1 x1 x6 x13 x14 c11) = denJ (den C k) (lp C k) Js C cd0 (lq C 12 next Q) (St1 x1 x6 x13 x14 c11) from (denJ_den _ _ _ _ _ _).symm).trans ((h (den C k) (lp C k)).trans ?_)
  simp only [j0_eq]
  first | rfl | kernel_rfl
def l0 {α : Type} (k : Nat) (Xt0 : (List Int) → Option α) : Nat → (List Int) → Int → Int → Int → (List Int) → Option α
  | 0, _, _, _, _, _ => none
  | n + 1, x1, x6, x13, x14, c11 => l0s (l0 k Xt0 n) Xt0 x1 x6 x13 x14 c11
theorem l0_eq {α : Type} (k : Nat) (Q : Ex → St → Option α) : ∀ (n : Nat) (x1 : List Int) (x6 : Int) (x13 : Int) (x14 : Int) (c11 : List Int), iter (rnd C k cd0 12 Q) n (St1 x1 x6 x13 x14 c11) = l0 k (fun (c11 : List Int) => Q (.exit 0) (St4 c11)) n x1 x6 x13 x14 c11
  | 0, _, _, _, _, _ => rfl
  | n + 1, x1, x6, x13, x14, c11 => (iter_succ _ _ _).trans ((l0s_eq k (iter (rnd C k cd0 12 Q) n) Q x1 x6 x13 x14 c11).trans (congrArg (fun N => l0s N (fun (c11 : List Int) => Q (.exit 0) (St4 c11)) x1 x6 x13 x14 c11) (funext fun x1 => funext fun x6 => funext fun x13 => funext fun x14 => funext fun c11 => l0_eq k Q n x1 x6 x13 x14 c11)))
theorem l0_congr {α : Type} (k : Nat) (Xt0 : (List Int) → Option α) (Xt0q : (List Int) → Option α) (hXt0 : ∀ (c11 : List Int), Xt0 c11 = Xt0q c11) (n : Nat) (x1 : List Int) (x6 : Int) (x13 : Int) (x14 : Int) (c11 : List Int) : l0 k Xt0 n x1 x6 x13 x14 c11 = l0 k Xt0q n x1 x6 x13 x14 c11 := by
  obtain rfl : Xt0 = Xt0q := by funext c11; exact hXt0 c11
  rfl
noncomputable def cd4 : Code := cR (cR (cR (cR (cB Try.f115))))
def St5 (c11 : List Int) : St := stL 49 [(5, .app 11 0)] [(11, .buf (.int .u64) c11 0 false)]
def St6 (c11 : List Int) : St := stL 49 [(4, .app 11 0)] [(11, .buf (.int .u64) c11 0 false)]
def j2 {α : Type} (Rt : (List Int) → Option α) (c11 : List Int) : Option α :=
  Rt c11
theorem j2_eq {α : Type} (k : Nat) (Q : Ex → St → Option α) (c11 : List Int) :
    (den C k) cd4 Q (St5 c11) = j2 (fun (c11 : List Int) => Q .ret (St6 c11)) c11 := by
  have h : ∀ (D L : DT α), denJ D L Js C cd4 Q (St5 c11) =
        Q .ret (St6 c11) := by
    intro D L; kernel_rfl
  refine (show (den C k) cd4 Q (St5 c11) = denJ (den C k) (lp C k) Js C cd4 Q (St5 c11) from (denJ_den _ _ _ _ _ _).symm).trans ((h (den C k) (lp C k)).trans ?_)
  first | rfl | kernel_rfl
theorem a0 {α : Type} (k : Nat) (Q : Ex → St → Option α) (x1 : List Int) (x6 : Int) (x13 : Int) (x14 : Int) (c11 : List Int) :
    (lp C k) cd0 (blkQ C 0 (sq (den C k) (lp C k) Js C cd4 Q)) (St1 x1 x6 x13 x14 c11) = l0 k (fun (c11 : List Int) => j2 (fun (c11 : List Int) => Q .ret (St6 c11)) c11) k x1 x6 x13 x14 c11 :=
  (show (lp C k) cd0 (blkQ C 0 (sq (den C k) (lp C k) Js C cd4 Q)) (St1 x1 x6 x13 x14 c11) = iter (rnd C k cd0 12 (blkQ C 0 (sq (den C k) (lp C k) Js C cd4 Q))) k (St1 x1 x6 x13 x14 c11) by kernel_rfl).trans ((l0_eq k (blkQ C 0 (sq (den C k) (lp C k) Js C cd4 Q)) k x1 x6 x13 x14 c11).trans (l0_congr k _ _ (fun c11 => ((show (blkQ C 0 (sq (den C k) (lp C k) Js C cd4 Q)) (.exit 0) (St4 c11) = (den C k) cd4 Q (St5 c11) by kernel_rfl).trans (by simp only [j2_eq]))) k x1 x6 x13 x14 c11))
def top {α : Type} (k : Nat) (Rt : (List Int) → Option α) (x0 : List Int) (x1 : List Int) : Option α :=
  if (fitB (0 + x0.length) 8 && (Nat.beq 0 0 || Nat.blt 0 x0.length)) = true then
    l0 k (fun (c11 : List Int) => j2 Rt c11) k x1 0 (x0.length : Int) 0 x0
  else none
theorem top_eq {α : Type} (k : Nat) (Q : Ex → St → Option α) (x0 : List Int) (x1 : List Int) :
    (den C k) (cB Try.f115) Q (St0 x0 x1) = top k (fun (c11 : List Int) => Q .ret (St6 c11)) x0 x1 := by
  have h : ∀ (D L : DT α), denJ D L Js C (cB Try.f115) Q (St0 x0 x1) =
        if (fitB (0 + x0.length) 8 && (Nat.beq 0 0 || Nat.blt 0 x0.length)) = true then
          L cd0 (blkQ C 0 (sq D L Js C cd4 Q)) (St1 x1 0 (x0.length : Int) 0 x0)
        else none := by
    intro D L; kernel_rfl
  refine (show (den C k) (cB Try.f115) Q (St0 x0 x1) = denJ (den C k) (lp C k) Js C (cB Try.f115) Q (St0 x0 x1) from (denJ_den _ _ _ _ _ _).symm).trans ((h (den C k) (lp C k)).trans ?_)
  simp only [a0]
  first | rfl | kernel_rfl
def run (x0 : List Int) (x1 : List Int) : Option (List Int) := top (α := List Int) fuel (fun (c11 : List Int) => some c11) x0 x1
def F : Fn := ⟨(.pair (.sl (.int .u64)) (.pair (.sl (.int .u64)) .unit)), (.sl (.int .u64)), false, fun x => run x.1 x.2.1⟩
set_option maxRecDepth 100000 in
theorem con : Con Try.prog 115 F := by
  refine con_of_den (C := C) (ctx_ok (by kernel_rfl) (by kernel_rfl) (by kernel_rfl) (by kernel_rfl) trivial) (by kernel_rfl) Try.func115 (c := cB Try.f115) (by kernel_rfl) (by kernel_rfl) F fuel (fun x => by simp [F, spread, Try.ntmps115]) ?_
  intro x r h
  rw [← h]
  have h1 : start F Try.f115.ntmps x = (St0 x.1 x.2.1) := by kernel_rfl
  rw [h1]
  refine (top_eq fuel (fin C Try.f115.results.toList F.rs F.multi) x.1 x.2.1).trans ?_
  kernel_rfl
theorem named : Named Try.prog 115 := named_of Try.func115 (by kernel_rfl) (by kernel_rfl)
end Go.Bx.basculeref_less
namespace Go.Bx.basculeref_compare
open Go Go.Proofs Go.Bx
set_option maxRecDepth 100000
set_option linter.unusedVariables false
def Js : List Nat := [8, 10, 14]
def C : Ctx := ⟨[(3, (.int .i64)), (24, (.int .u64)), (134, (.sl (.int .u64)))], [], [], fnL [], noSh, [], invL [], [(2, [4]), (1, []), (4, [0, 1, 5]), (6, [0, 1, 5]), (21, [0, 1, 5, 6, 7]), (27, [0, 1, 5, 6, 7]), (39, [])], [], [], 0, 0⟩
def St0 (x0 : List Int) (x1 : List Int) : St := stL 40 [(0, .data (.sl (.int .u64)) x0), (1, .data (.sl (.int .u64)) x1)] []
def St1 (x0 : List Int) (x1 : List Int) (x5 : Int) : St := stL 40 [(0, .data (.sl (.int .u64)) x0), (1, .data (.sl (.int .u64)) x1), (5, .data (.int .i64) x5)] []
noncomputable def cd0 : Code := cL (cL (cR (cL (cR (cB Try.f113)))))
def St2 (x0 : List Int) (x1 : List Int) (x5 : Int) (x6 : Int) (x7 : Int) : St := stL 40 [(0, .data (.sl (.int .u64)) x0), (1, .data (.sl (.int .u64)) x1), (5, .data (.int .i64) x5), (6, .data (.int .u64) x6), (7, .data (.int .u64) x7)] []
noncomputable def cd1 : Code := cR (cR (cL (cL (cR (cL (cR (cB Try.f113)))))))
noncomputable def cd2 : Code := cR (cR (cL (cL (cR (cL (cL (cR (cL (cR (cB Try.f113))))))))))
def St3 (x0 : List Int) (x1 : List Int) (x5 : Int) (x6 : Int) (x7 : Int) : St := stL 40 [(0, .data (.sl (.int .u64)) x0), (1, .data (.sl (.int .u64)) x1), (5, .data (.int .i64) x5), (6, .data (.int .u64) x6), (7, .data (.int .u64) x7)] []
noncomputable def cd3 : Code := cR (cR (cR (cL (cL (cR (cL (cL (cR (cL (cR (cB Try.f113)))))))))))
def St4 (x4 : Int) : St := stL 40 [(4, .data (.int .i64) x4)] []
def j1 {α : Type} (Nx : (List Int) → (List Int) → Int → Option α) (Rt : Int → Option α) (x0 : List Int) (x1 : List Int) (x5 : Int) (x6 : Int) (x7 : Int) : Option α :=
  if (decide (x6 < x7)) = true then
    Rt (-1)
  else
    if (decide (x6 > x7)) = true then
      Rt 1
    else
      Nx x0 x1 (IntKind.i64.wrap (x5 - 1))
theorem j1_eq {α : Type} (k : Nat) (next : St → Option α) (Q : Ex → St → Option α) (x0 : List Int) (x1 : List Int) (x5 : Int) (x6 : Int) (x7 : Int) :
    (den C k) cd3 (blkQ C 1 (sq (den C k) (lp C k) Js C cd1 (lq C 6 next Q))) (St3 x0 x1 x5 x6 x7) = j1 (fun (x0 : List Int) (x1 : List Int) (x5 : Int) => next (St1 x0 x1 x5)) (fun (x4 : Int) => Q .ret (St4 x4)) x0 x1 x5 x6 x7 := by
  have h : ∀ (D L : DT α), denJ D L Js C cd3 (blkQ C 1 (sq D L Js C cd1 (lq C 6 next Q))) (St3 x0 x1 x5 x6 x7) =
        if (decide (x6 < x7)) = true then
          Q .ret (St4 (-1))
        else
          if (decide (x6 > x7)) = true then
            Q .ret (St4 1)
          else
            next (St1 x0 x1 (IntKind.i64.wrap (x5 - 1))) := by
    intro D L; kernel_rfl
  refine (show (den C k) cd3 (blkQ C 1 (sq (den C k) (lp C k) Js C cd1 (lq C 6 next Q))) (St3 x0 x1 x5 x6 x7) = denJ (den C k) (lp C k) Js C cd3 (blkQ C 1 (sq (den C k) (lp C k) Js C cd1 (lq C 6 next Q))) (St3 x0 x1 x5 x6 x7) from (denJ_den _ _ _ _ _ _).symm).trans ((h (den C k) (lp C k)).trans ?_)
  first | rfl | kernel_rfl
def j0 {α : Type} (Nx : (List Int) → (List Int) → Int → Option α) (Rt : Int → Option α) (x0 : List Int) (x1 : List Int) (x5 : Int) (x6 : Int) (x7 : Int) : Option α :=
  if (decide (x5 < (x1.length : Int))) = true then
    if 0 ≤ x5 ∧ x5 < (x1.length : Int) then
      j1 Nx Rt x0 x1 x5 x6 (List.getD x1 (Int.toNat x5) 0)
    else none
  else
    j1 Nx Rt x0 x1 x5 x6 x7
theorem j0_eq {α : Type} (k : Nat) (next : St → Option α) (Q : Ex → St → Option α) (x0 : List Int) (x1 : List Int) (x5 : Int) (x6 : Int) (x7 : Int) :
    (den C k) cd2 (blkQ C 1 (sq (den C k) (lp C k) Js C cd1 (lq C 6 next Q))) (St2 x0 x1 x5 x6 x7) = j0 (fun (x0 : List Int) (x1 : List Int) (x5 : Int) => next (St1 x0 x1 x5)) (fun (x4 : Int) => Q .ret (St4 x4)) x0 x1 x5 x6 x7 := by
  have h : ∀ (D L : DT α), denJ D L Js C cd2 (blkQ C 1 (sq D L Js C cd1 (lq C 6 next Q))) (St2 x0 x1 x5 x6 x7) =
        if (decide (x5 < (x1.length : Int))) = true then
          if 0 ≤ x5 ∧ x5 < (x1.length : Int) then
            D cd3 (blkQ C 1 (sq D L Js C cd1 (lq C 6 next Q))) (St3 x0 x1 x5 x6 (List.getD x1 (Int.toNat x5) 0))
          else none
        else
          D cd3 (blkQ C 1 (sq D L Js C cd1 (lq C 6 next Q))) (St3 x0 x1 x5 x6 x7) := by
    intro D L; kernel_rfl
  refine (show (den C k) cd2 (blkQ C 1 (sq (den C k) (lp C k) Js C cd1 (lq C 6 next Q))) (St2 x0 x1 x5 x6 x7) = denJ (den C k) (lp C k) Js C cd2 (blkQ C 1 (sq (den C k) (lp C k) Js C cd1 (lq C 6 next Q))) (St2 x0 x1 x5 x6 x7) from (denJ_den _ _ _ _ _ _).symm).trans ((h (den C k) (lp C k)).trans ?_)
  simp only [j1_eq]
  first | rfl | kernel_rfl
def St5 : St := stL 40 [] []
def l0s {α : Type} (Nx : (List Int) → (List Int) → Int → Option α) (Rt : Int → Option α) (Xt0 : Option α) (x0 : List Int) (x1 : List Int) (x5 : Int) : Option α :=
  if (decide (x5 ≥ 0)) = true then
    if (decide (x5 < (x0.length : Int))) = true then
      if 0 ≤ x5 ∧ x5 < (x0.length : Int) then
        j0 Nx Rt x0 x1 x5 (List.getD x0 (Int.toNat x5) 0) 0
      else none
    else
      j0 Nx Rt x0 x1 x5 0 0
  else
    Xt0
theorem l0s_eq {α : Type} (k : Nat) (next : St → Option α) (Q : Ex → St → Option α) (x0 : List Int) (x1 : List Int) (x5 : Int) :
    rnd C k cd0 6 Q next (St1 x0 x1 x5) = l0s (fun (x0 : List Int) (x1 : List Int) (x5 : Int) => next (St1 x0 x1 x5)) (fun (x4 : Int) => Q .ret (St4 x4)) (Q (.exit 0) St5) x0 x1 x5 := by
  have h : ∀ (D L : DT α), denJ D L Js C cd0 (lq C 6 next Q) (St1 x0 x1 x5) =
        if (decide (x5 ≥ 0)) = true then
          if (decide (x5 < (x0.length : Int))) = true then
            if 0 ≤ x5 ∧ x5 < (x0.length : Int) then
              D cd2 (blkQ C 1 (sq D L Js C cd1 (lq C 6 next Q))) (St2 x0 x1 x5 (List.getD x0 (Int.toNat x5) 0) 0)
            else none
          else
            D cd2 (blkQ C 1 (sq D L Js C cd1 (lq C 6 next Q))) (St2 x0 x1 x5 0 0)
        else
          Q (.exit 0) St5 := by
    intro D L; kernel_rfl
  refine (show rnd C k cd0 6 Q next (St1 x0 x1 x5) = denJ (den C k) (lp C k) Js C cd0 (lq C 6 next Q) (St1 x0 x1 x5) from (denJ_den _ _ _ _ _ _).symm).trans ((h (den C k) (lp C k)).trans ?_)
  simp only [j0_eq]
  first | rfl | kernel_rfl
def l0 {α : Type} (k : Nat) (Rt : Int → Option α) (Xt0 : Option α) : Nat → (List Int) → (List Int) → Int → Option α
  | 0, _, _, _ => none
  | n + 1, x0, x1, x5 => l0s (l0 k Rt Xt0 n) Rt Xt0 x0 x1 x5
theorem l0_eq {α : Type} (k : Nat) (Q : Ex → St → Option α) : ∀ (n : Nat) (x0 : List Int) (x1 : List Int) (x5 : Int), iter (rnd C k cd0 6 Q) n (St1 x0 x1 x5) = l0 k (fun (x4 : Int) => Q .ret (St4 x4)) (Q (.exit 0) St5) n x0 x1 x5
  | 0, _, _, _ => rfl
  | n + 1, x0, x1, x5 => (iter_succ _ _ _).trans ((l0s_eq k (iter (rnd C k cd0 6 Q) n) Q x0 x1 x5).trans (congrArg (fun N => l0s N (fun (x4 : Int) => Q .ret (St4 x4)) (Q (.exit 0) St5) x0 x1 x5) (funext fun x0 => funext fun x1 => funext fun x5 => l0_eq k Q n x0 x1 x5)))
theorem l0_congr {α : Type} (k : Nat) (Rt : Int → Option α) (Xt0 : Option α) (Rtq : Int → Option α) (Xt0q : Option α) (hRt : ∀ (x4 : Int), Rt x4 = Rtq x4) (hXt0 : Xt0 = Xt0q) (n : Nat) (x0 : List Int) (x1 : List Int) (x5 : Int) : l0 k Rt Xt0 n x0 x1 x5 = l0 k Rtq Xt0q n x0 x1 x5 := by
  obtain rfl : Rt = Rtq := by funext x4; exact hRt x4
  obtain rfl : Xt0 = Xt0q := hXt0
  rfl
noncomputable def cd4 : Code := cR (cR (cB Try.f113))
def St6 : St := stL 40 [] []
def j2 {α : Type} (Rt : Int → Option α) : Option α :=
  Rt 0
theorem j2_eq {α : Type} (k : Nat) (Q : Ex → St → Option α) :
    (den C k) cd4 Q St6 = j2 (fun (x4 : Int) => Q .ret (St4 x4)) := by
  have h : ∀ (D L : DT α), denJ D L Js C cd4 Q St6 =
        Q .ret (St4 0) := by
    intro D L; kernel_rfl
  refine (show (den C k) cd4 Q St6 = denJ (den C k) (lp C k) Js C cd4 Q St6 from (denJ_den _ _ _ _ _ _).symm).trans ((h (den C k) (lp C k)).trans ?_)
  first | rfl | kernel_rfl
theorem a0 {α : Type} (k : Nat) (Q : Ex → St → Option α) (x0 : List Int) (x1 : List Int) (x5 : Int) :
    (lp C k) cd0 (blkQ C 0 (sq (den C k) (lp C k) Js C cd4 Q)) (St1 x0 x1 x5) = l0 k (fun (x4 : Int) => (fun (x4 : Int) => Q .ret (St4 x4)) x4) (j2 (fun (x4 : Int) => Q .ret (St4 x4))) k x0 x1 x5 :=
  (show (lp C k) cd0 (blkQ C 0 (sq (den C k) (lp C k) Js C cd4 Q)) (St1 x0 x1 x5) = iter (rnd C k cd0 6 (blkQ C 0 (sq (den C k) (lp C k) Js C cd4 Q))) k (St1 x0 x1 x5) by kernel_rfl).trans ((l0_eq k (blkQ C 0 (sq (den C k) (lp C k) Js C cd4 Q)) k x0 x1 x5).trans (l0_congr k _ _ _ _ (fun x4 => (show (blkQ C 0 (sq (den C k) (lp C k) Js C cd4 Q)) .ret (St4 x4) = Q .ret (St4 x4) by kernel_rfl)) ((show (blkQ C 0 (sq (den C k) (lp C k) Js C cd4 Q)) (.exit 0) St5 = (den C k) cd4 Q St6 by kernel_rfl).trans (by simp only [j2_eq])) k x0 x1 x5))
def top {α : Type} (k : Nat) (Rt : Int → Option α) (x0 : List Int) (x1 : List Int) : Option α :=
  l0 k (fun (x4 : Int) => Rt x4) (j2 Rt) k x0 x1 (IntKind.i64.wrap ((if (x1.length : Int) > (x0.length : Int) then (x1.length : Int) else (x0.length : Int)) - 1))
theorem top_eq {α : Type} (k : Nat) (Q : Ex → St → Option α) (x0 : List Int) (x1 : List Int) :
    (den C k) (cB Try.f113) Q (St0 x0 x1) = top k (fun (x4 : Int) => Q .ret (St4 x4)) x0 x1 := by
  have h : ∀ (D L : DT α), denJ D L Js C (cB Try.f113) Q (St0 x0 x1) =
        L cd0 (blkQ C 0 (sq D L Js C cd4 Q)) (St1 x0 x1 (IntKind.i64.wrap ((if (x1.length : Int) > (x0.length : Int) then (x1.length : Int) else (x0.length : Int)) - 1))) := by
    intro D L; kernel_rfl
  refine (show (den C k) (cB Try.f113) Q (St0 x0 x1) = denJ (den C k) (lp C k) Js C (cB Try.f113) Q (St0 x0 x1) from (denJ_den _ _ _ _ _ _).symm).trans ((h (den C k) (lp C k)).trans ?_)
  simp only [a0]
  first | rfl | kernel_rfl
def run (x0 : List Int) (x1 : List Int) : Option (Int) := top (α := Int) fuel (fun (x4 : Int) => some x4) x0 x1
def F : Fn := ⟨(.pair (.sl (.int .u64)) (.pair (.sl (.int .u64)) .unit)), (.int .i64), false, fun x => run x.1 x.2.1⟩
set_option maxRecDepth 100000 in
theorem con : Con Try.prog 113 F := by
  refine con_of_den (C := C) (ctx_ok (by kernel_rfl) (by kernel_rfl) (by kernel_rfl) (by kernel_rfl) trivial) (by kernel_rfl) Try.func113 (c := cB Try.f113) (by kernel_rfl) (by kernel_rfl) F fuel (fun x => by simp [F, spread, Try.ntmps113]) ?_
  intro x r h
  rw [← h]
  have h1 : start F Try.f113.ntmps x = (St0 x.1 x.2.1) := by kernel_rfl
  rw [h1]
  refine (top_eq fuel (fin C Try.f113.results.toList F.rs F.multi) x.1 x.2.1).trans ?_
  kernel_rfl
theorem named : Named Try.prog 113 := named_of Try.func113 (by kernel_rfl) (by kernel_rfl)
end Go.Bx.basculeref_compare
namespace Go.Bx.basculeref_wide
open Go Go.Proofs Go.Bx
set_option maxRecDepth 100000
set_option linter.unusedVariables false
def Js : List Nat := [10, 11]
def C : Ctx := ⟨[(4, .bool), (24, (.int .u64)), (45, (.arr 4 (.int .u64))), (134, (.sl (.int .u64)))], [], [], fnL [], noSh, [], invL [], [(2, [2, 3]), (1, [2, 4, 5]), (4, [2, 4, 5, 8, 9, 10]), (12, [2, 4, 5, 8, 9, 10]), (27, [2, 4, 5, 8, 9, 10]), (30, [2, 4, 5])], [], [], 0, 0⟩
def St0 (x0 : List Int) : St := stL 36 [(0, .data (.sl (.int .u64)) x0)] []
def St1 (x5 : Bool) (x8 : List Int) (x9 : Int) (x10 : Int) (c2 : List Int) (c4 : List Int) : St := stL 36 [(2, .ref 2 0 []), (4, .ref 4 0 []), (5, .data .bool x5), (8, .data (.sl (.int .u64)) x8), (9, .data (.int .i64) x9), (10, .data (.int .i64) x10)] [(2, .cell (.arr 4 (.int .u64)) (.data (.arr 4 (.int .u64)) c2) false), (4, .cell (.arr 4 (.int .u64)) (.data (.arr 4 (.int .u64)) c4) false)]
noncomputable def cd0 : Code := cL (cL (cR (cL (cR (cR (cR (cB Try.f106)))))))
def St2 (x5 : Bool) (x8 : List Int) (x9 : Int) (x10 : Int) (c2 : List Int) (c4 : List Int) : St := stL 36 [(2, .ref 2 0 []), (4, .ref 4 0 []), (5, .data .bool x5), (8, .data (.sl (.int .u64)) x8), (9, .data (.int .i64) x9), (10, .data (.int .i64) x10)] [(2, .cell (.arr 4 (.int .u64)) (.data (.arr 4 (.int .u64)) c2) false), (4, .cell (.arr 4 (.int .u64)) (.data (.arr 4 (.int .u64)) c4) false)]
noncomputable def cd1 : Code := cR (cR (cR (cL (cL (cR (cL (cR (cR (cR (cB Try.f106))))))))))
def j0 {α : Type} (Nx : Bool → (List Int) → Int → Int → (List Int) → (List Int) → Option α) (x5 : Bool) (x8 : List Int) (x9 : Int) (x10 : Int) (c2 : List Int) (c4 : List Int) : Option α :=
  Nx x5 x8 x9 (IntKind.i64.wrap (x10 + 1)) c2 c4
theorem j0_eq {α : Type} (k : Nat) (next : St → Option α) (Q : Ex → St → Option α) (x5 : Bool) (x8 : List Int) (x9 : Int) (x10 : Int) (c2 : List Int) (c4 : List Int) :
    (den C k) cd1 (lq C 12 next Q) (St2 x5 x8 x9 x10 c2 c4) = j0 (fun (x5 : Bool) (x8 : List Int) (x9 : Int) (x10 : Int) (c2 : List Int) (c4 : List Int) => next (St1 x5 x8 x9 x10 c2 c4)) x5 x8 x9 x10 c2 c4 := by
  have h : ∀ (D L : DT α), denJ D L Js C cd1 (lq C 12 next Q) (St2 x5 x8 x9 x10 c2 c4) =
        next (St1 x5 x8 x9 (IntKind.i64.wrap (x10 + 1)) c2 c4) := by
    intro D L; kernel_rfl
  refine (show (den C k) cd1 (lq C 12 next Q) (St2 x5 x8 x9 x10 c2 c4) = denJ (den C k) (lp C k) Js C cd1 (lq C 12 next Q) (St2 x5 x8 x9 x10 c2 c4) from (denJ_den _ _ _ _ _ _).symm).trans ((h (den C k) (lp C k)).trans ?_)
  first | rfl | kernel_rfl
def St3 (x5 : Bool) (c2 : List Int) (c4 : List Int) : St := stL 36 [(2, .ref 2 0 []), (4, .ref 4 0 []), (5, .data .bool x5)] [(2, .cell (.arr 4 (.int .u64)) (.data (.arr 4 (.int .u64)) c2) false), (4, .cell (.arr 4 (.int .u64)) (.data (.arr 4 (.int .u64)) c4) false)]
def l0s {α : Type} (Nx : Bool → (List Int) → Int → Int → (List Int) → (List Int) → Option α) (Xt0 : Bool → (List Int) → (List Int) → Option α) (x5 : Bool) (x8 : List Int) (x9 : Int) (x10 : Int) (c2 : List Int) (c4 : List Int) : Option α :=
  if (decide (x10 < x9)) = true then
    if 0 ≤ x10 ∧ x10 < (x8.length : Int) then
      if (decide (x10 ≥ 8)) = true then
        j0 Nx (cond x5 true ((List.getD x8 (Int.toNat x10) 0) != 0)) x8 x9 x10 c2 c4
      else
        if 0 ≤ (IntKind.i64.wrap (Int.tdiv x10 2)) ∧ (IntKind.i64.wrap (Int.tdiv x10 2)) < (4 : Int) then
          if 0 ≤ (IntKind.i64.wrap (32 * (Int.tmod x10 2))) then
            if 0 ≤ (IntKind.i64.wrap (Int.tdiv x10 2)) ∧ (IntKind.i64.wrap (Int.tdiv x10 2)) < (4 : Int) then
              j0 Nx x5 x8 x9 x10 c2 (List.set c4 (Int.toNat (IntKind.i64.wrap (Int.tdiv x10 2))) (bor .u64 (List.getD c4 (Int.toNat (IntKind.i64.wrap (Int.tdiv x10 2))) 0) (shlI .u64 (List.getD x8 (Int.toNat x10) 0) (IntKind.i64.wrap (32 * (Int.tmod x10 2))))))
            else none
          else none
        else none
    else none
  else
    Xt0 x5 c2 c4
theorem l0s_eq {α : Type} (k : Nat) (next : St → Option α) (Q : Ex → St → Option α) (x5 : Bool) (x8 : List Int) (x9 : Int) (x10 : Int) (c2 : List Int) (c4 : List Int) :
    rnd C k cd0 12 Q next (St1 x5 x8 x9 x10 c2 c4) = l0s (fun (x5 : Bool) (x8 : List Int) (x9 : Int) (x10 : Int) (c2 : List Int) (c4 : List Int) => next (St1 x5 x8 x9 x10 c2 c4)) (fun (x5 : Bool) (c2 : List Int) (c4 : List Int) => Q (.exit 0) (St3 x5 c2 c4)) x5 x8 x9 x10 c2 c4 := by
  have h : ∀ (D L : DT α), denJ D L Js C cd0 (lq C 12 next Q) (St1 x5 x8 x9 x10 c2 c4) =
        if (decide (x10 < x9)) = true then
          if 0 ≤ x10 ∧ x10 < (x8.length : Int) then
            if (decide (x10 ≥ 8)) = true then
              D cd1 (lq C 12 next Q) (St2 (cond x5 true ((List.getD x8 (Int.toNat x10) 0) != 0)) x8 x9 x10 c2 c4)
            else
              if 0 ≤ (IntKind.i64.wrap (Int.tdiv x10 2)) ∧ (IntKind.i64.wrap (Int.tdiv x10 2)) < (4 : Int) then
                if 0 ≤ (IntKind.i64.wrap (32 * (Int.tmod x10 2))) then
                  if 0 ≤ (IntKind.i64.wrap (Int.tdiv x10 2)) ∧ (IntKind.i64.wrap (Int.tdiv x10 2)) < (4 : Int) then
                    D cd1 (lq C 12 next Q) (St2 x5 x8 x9 x10 c2 (List.set c4 (Int.toNat (IntKind.i64.wrap (Int.tdiv x10 2))) (bor .u64 (List.getD c4 (Int.toNat (IntKind.i64.wrap (Int.tdiv x10 2))) 0) (shlI .u64 (List.getD x8 (Int.toNat x10) 0) (IntKind.i64.wrap (32 * (Int.tmod x10 2)))))))
                  else none
                else none
              else none
          else none
        else
          Q (.exit 0) (St3 x5 c2 c4) := by
    intro D L; kernel_rfl
  refine (show rnd C k cd0 12 Q next (St1 x5 x8 x9 x10 c2 c4) = denJ (den C k) (lp C k) Js C cd0 (lq C 12 next Q) (St1 x5 x8 x9 x10 c2 c4) from (denJ_den _ _ _ _ _ _).symm).trans ((h (den C k) (lp C k)).trans ?_)
  simp only [j0_eq]
  first | rfl | kernel_rfl
def l0 {α : Type} (k : Nat) (Xt0 : Bool → (List Int) → (List Int) → Option α) : Nat → Bool → (List Int) → Int → Int → (List Int) → (List Int) → Option α
  | 0, _, _, _, _, _, _ => none
  | n + 1, x5, x8, x9, x10, c2, c4 => l0s (l0 k Xt0 n) Xt0 x5 x8 x9 x10 c2 c4
theorem l0_eq {α : Type} (k : Nat) (Q : Ex → St → Option α) : ∀ (n : Nat) (x5 : Bool) (x8 : List Int) (x9 : Int) (x10 : Int) (c2 : List Int) (c4 : List Int), iter (rnd C k cd0 12 Q) n (St1 x5 x8 x9 x10 c2 c4) = l0 k (fun (x5 : Bool) (c2 : List Int) (c4 : List Int) => Q (.exit 0) (St3 x5 c2 c4)) n x5 x8 x9 x10 c2 c4
  | 0, _, _, _, _, _, _ => rfl
  | n + 1, x5, x8, x9, x10, c2, c4 => (iter_succ _ _ _).trans ((l0s_eq k (iter (rnd C k cd0 12 Q) n) Q x5 x8 x9 x10 c2 c4).trans (congrArg (fun N => l0s N (fun (x5 : Bool) (c2 : List Int) (c4 : List Int) => Q (.exit 0) (St3 x5 c2 c4)) x5 x8 x9 x10 c2 c4) (funext fun x5 => funext fun x8 => funext fun x9 => funext fun x10 => funext fun c2 => funext fun c4 => l0_eq k Q n x5 x8 x9 x10 c2 c4)))
theorem l0_congr {α : Type} (k : Nat) (Xt0 : Bool → (List Int) → (List Int) → Option α) (Xt0q : Bool → (List Int) → (List Int) → Option α) (hXt0 : ∀ (x5 : Bool) (c2 : List Int) (c4 : List Int), Xt0 x5 c2 c4 = Xt0q x5 c2 c4) (n : Nat) (x5 : Bool) (x8 : List Int) (x9 : Int) (x10 : Int) (c2 : List Int) (c4 : List Int) : l0 k Xt0 n x5 x8 x9 x10 c2 c4 = l0 k Xt0q n x5 x8 x9 x10 c2 c4 := by
  obtain rfl : Xt0 = Xt0q := by funext x5; funext c2; funext c4; exact hXt0 x5 c2 c4
  rfl
noncomputable def cd2 : Code := cR (cR (cR (cR (cB Try.f106))))
def St4 (x5 : Bool) (c2 : List Int) (c4 : List Int) : St := stL 36 [(2, .ref 2 0 []), (4, .ref 4 0 []), (5, .data .bool x5)] [(2, .cell (.arr 4 (.int .u64)) (.data (.arr 4 (.int .u64)) c2) false), (4, .cell (.arr 4 (.int .u64)) (.data (.arr 4 (.int .u64)) c4) false)]
def St5 (x3 : Bool) (c2 : List Int) : St := stL 36 [(2, .ref 2 0 []), (3, .data .bool x3)] [(2, .cell (.arr 4 (.int .u64)) (.data (.arr 4 (.int .u64)) c2) false)]
def j1 {α : Type} (Rt : Bool → (List Int) → Option α) (x5 : Bool) (c2 : List Int) (c4 : List Int) : Option α :=
  Rt x5 c4
theorem j1_eq {α : Type} (k : Nat) (Q : Ex → St → Option α) (x5 : Bool) (c2 : List Int) (c4 : List Int) :
    (den C k) cd2 Q (St4 x5 c2 c4) = j1 (fun (x3 : Bool) (c2 : List Int) => Q .ret (St5 x3 c2)) x5 c2 c4 := by
  have h : ∀ (D L : DT α), denJ D L Js C cd2 Q (St4 x5 c2 c4) =
        Q .ret (St5 x5 c4) := by
    intro D L; kernel_rfl
  refine (show (den C k) cd2 Q (St4 x5 c2 c4) = denJ (den C k) (lp C k) Js C cd2 Q (St4 x5 c2 c4) from (denJ_den _ _ _ _ _ _).symm).trans ((h (den C k) (lp C k)).trans ?_)
  first | rfl | kernel_rfl
theorem a0 {α : Type} (k : Nat) (Q : Ex → St → Option α) (x5 : Bool) (x8 : List Int) (x9 : Int) (x10 : Int) (c2 : List Int) (c4 : List Int) :
    (lp C k) cd0 (blkQ C 0 (sq (den C k) (lp C k) Js C cd2 Q)) (St1 x5 x8 x9 x10 c2 c4) = l0 k (fun (x5 : Bool) (c2 : List Int) (c4 : List Int) => j1 (fun (x3 : Bool) (c2 : List Int) => Q .ret (St5 x3 c2)) x5 c2 c4) k x5 x8 x9 x10 c2 c4 :=
  (show (lp C k) cd0 (blkQ C 0 (sq (den C k) (lp C k) Js C cd2 Q)) (St1 x5 x8 x9 x10 c2 c4) = iter (rnd C k cd0 12 (blkQ C 0 (sq (den C k) (lp C k) Js C cd2 Q))) k (St1 x5 x8 x9 x10 c2 c4) by kernel_rfl).trans ((l0_eq k (blkQ C 0 (sq (den C k) (lp C k) Js C cd2 Q)) k x5 x8 x9 x10 c2 c4).trans (l0_congr k _ _ (fun x5 c2 c4 => ((show (blkQ C 0 (sq (den C k) (lp C k) Js C cd2 Q)) (.exit 0) (St3 x5 c2 c4) = (den C k) cd2 Q (St4 x5 c2 c4) by kernel_rfl).trans (by simp only [j1_eq]))) k x5 x8 x9 x10 c2 c4))
def top {α : Type} (k : Nat) (Rt : Bool → (List Int) → Option α) (x0 : List Int) : Option α :=
  l0 k (fun (x5 : Bool) (c2 : List Int) (c4 : List Int) => j1 Rt x5 c2 c4) k false x0 (x0.length : Int) 0 [0, 0, 0, 0] [0, 0, 0, 0]
theorem top_eq {α : Type} (k : Nat) (Q : Ex → St → Option α) (x0 : List Int) :
    (den C k) (cB Try.f106) Q (St0 x0) = top k (fun (x3 : Bool) (c2 : List Int) => Q .ret (St5 x3 c2)) x0 := by
  have h : ∀ (D L : DT α), denJ D L Js C (cB Try.f106) Q (St0 x0) =
        L cd0 (blkQ C 0 (sq D L Js C cd2 Q)) (St1 false x0 (x0.length : Int) 0 [0, 0, 0, 0] [0, 0, 0, 0]) := by
    intro D L; kernel_rfl
  refine (show (den C k) (cB Try.f106) Q (St0 x0) = denJ (den C k) (lp C k) Js C (cB Try.f106) Q (St0 x0) from (denJ_den _ _ _ _ _ _).symm).trans ((h (den C k) (lp C k)).trans ?_)
  simp only [a0]
  first | rfl | kernel_rfl
def run (x0 : List Int) : Option (List Int × Bool × Unit) := top (α := List Int × Bool × Unit) fuel (fun (x3 : Bool) (c2 : List Int) => some (c2, x3, ())) x0
def F : Fn := ⟨(.pair (.sl (.int .u64)) .unit), (.pair (.arr 4 (.int .u64)) (.pair .bool .unit)), true, fun x => run x.1⟩
set_option maxRecDepth 100000 in
theorem con : Con Try.prog 106 F := by
  refine con_of_den (C := C) (ctx_ok (by kernel_rfl) (by kernel_rfl) (by kernel_rfl) (by kernel_rfl) trivial) (by kernel_rfl) Try.func106 (c := cB Try.f106) (by kernel_rfl) (by kernel_rfl) F fuel (fun x => by simp [F, spread, Try.ntmps106]) ?_
  intro x r h
  rw [← h]
  have h1 : start F Try.f106.ntmps x = (St0 x.1) := by kernel_rfl
  rw [h1]
  refine (top_eq fuel (fin C Try.f106.results.toList F.rs F.multi) x.1).trans ?_
  kernel_rfl
theorem named : Named Try.prog 106 := named_of Try.func106 (by kernel_rfl) (by kernel_rfl)
end Go.Bx.basculeref_wide
namespace Go.Bx.basculeref_cut
open Go Go.Proofs Go.Bx
set_option maxRecDepth 100000
set_option linter.unusedVariables false
def Js : List Nat := []
def C : Ctx := ⟨[(45, (.arr 4 (.int .u64))), (134, (.sl (.int .u64)))], [], [], fnL [(106, Go.Bx.basculeref_wide.F)], noSh, [], invL [], [(2, [2])], [], [], 0, 0⟩
def St0 (x0 : List Int) : St := stL 11 [(0, .data (.sl (.int .u64)) x0)] []
def St1 (c2 : List Int) : St := stL 11 [(2, .ref 2 0 [])] [(2, .cell (.arr 4 (.int .u64)) (.data (.arr 4 (.int .u64)) c2) false)]
def top {α : Type} (Rt : (List Int) → Option α) (x0 : List Int) : Option α :=
  (Go.Bx.basculeref_wide.run x0).bind fun y1 =>
  Rt y1.1
theorem top_eq {α : Type} (k : Nat) (Q : Ex → St → Option α) (x0 : List Int) :
    (den C k) (cB Try.f114) Q (St0 x0) = top (fun (c2 : List Int) => Q .ret (St1 c2)) x0 := by
  have h : ∀ (D L : DT α), denJ D L Js C (cB Try.f114) Q (St0 x0) =
        (Go.Bx.basculeref_wide.run x0).bind fun y1 =>
        Q .ret (St1 y1.1) := by
    intro D L; kernel_rfl
  refine (show (den C k) (cB Try.f114) Q (St0 x0) = denJ (den C k) (lp C k) Js C (cB Try.f114) Q (St0 x0) from (denJ_den _ _ _ _ _ _).symm).trans ((h (den C k) (lp C k)).trans ?_)
  first | rfl | kernel_rfl
def run (x0 : List Int) : Option (List Int) := top (α := List Int) (fun (c2 : List Int) => some c2) x0
def F : Fn := ⟨(.pair (.sl (.int .u64)) .unit), (.arr 4 (.int .u64)), false, fun x => run x.1⟩
set_option maxRecDepth 100000 in
theorem con : Con Try.prog 114 F := by
  refine con_of_den (C := C) (ctx_ok (by kernel_rfl) (by kernel_rfl) (by kernel_rfl) (by kernel_rfl) ⟨.inl ⟨Go.Bx.basculeref_wide.con, Go.Bx.basculeref_wide.named⟩, trivial⟩) (by kernel_rfl) Try.func114 (c := cB Try.f114) (by kernel_rfl) (by kernel_rfl) F fuel (fun x => by simp [F, spread, Try.ntmps114]) ?_
  intro x r h
  rw [← h]
  have h1 : start F Try.f114.ntmps x = (St0 x.1) := by kernel_rfl
  rw [h1]
  refine (top_eq fuel (fin C Try.f114.results.toList F.rs F.multi) x.1).trans ?_
  kernel_rfl
theorem named : Named Try.prog 114 := named_of Try.func114 (by kernel_rfl) (by kernel_rfl)
end Go.Bx.basculeref_cut
namespace Go.Bx.x_add64
open Go Go.Proofs Go.Bx
def run (x y c : Int) : Option (Int × Int × Unit) := add64 x y c
def F : Fn := ⟨U3, U2, true, fun x => run x.1 x.2.1 x.2.2.1⟩
theorem ext : ExtOk Try.prog 111 F := ext_add64 Try.func111 (by kernel_rfl) (by kernel_rfl) (by kernel_rfl) (by kernel_rfl)
end Go.Bx.x_add64
namespace Go.Bx.wide_Add
open Go Go.Proofs Go.Bx
set_option maxRecDepth 100000
set_option linter.unusedVariables false
def Js : List Nat := [8]
def C : Ctx := ⟨[(4, .bool), (24, (.int .u64)), (45, (.arr 4 (.int .u64)))], [], [], fnL [(111, Go.Bx.x_add64.F)], noSh, [], invL [], [(2, [4, 5]), (1, [2, 4, 6]), (4, [2, 3, 4, 6, 8]), (9, [2, 3, 4, 6, 8]), (21, [2, 4, 6])], [], [], 0, 0⟩
def St0 (x0 : List Int) (x1 : List Int) : St := stL 28 [(0, .data (.arr 4 (.int .u64)) x0), (1, .data (.arr 4 (.int .u64)) x1)] []
def St1 (x6 : Int) (x8 : Int) (c2 : List Int) (c3 : List Int) (c4 : List Int) : St := stL 28 [(2, .ref 2 0 []), (3, .ref 3 0 []), (4, .ref 4 0 []), (6, .data (.int .u64) x6), (8, .data (.int .i64) x8)] [(2, .cell (.arr 4 (.int .u64)) (.data (.arr 4 (.int .u64)) c2) false), (3, .cell (.arr 4 (.int .u64)) (.data (.arr 4 (.int .u64)) c3) false), (4, .cell (.arr 4 (.int .u64)) (.data (.arr 4 (.int .u64)) c4) false)]
noncomputable def cd0 : Code := cL (cL (cR (cL (cR (cR (cB Try.f41))))))
def St2 (x6 : Int) (c2 : List Int) (c4 : List Int) : St := stL 28 [(2, .ref 2 0 []), (4, .ref 4 0 []), (6, .data (.int .u64) x6)] [(2, .cell (.arr 4 (.int .u64)) (.data (.arr 4 (.int .u64)) c2) false), (4, .cell (.arr 4 (.int .u64)) (.data (.arr 4 (.int .u64)) c4) false)]
def l0s {α : Type} (Nx : Int → Int → (List Int) → (List Int) → (List Int) → Option α) (Xt0 : Int → (List Int) → (List Int) → Option α) (x6 : Int) (x8 : Int) (c2 : List Int) (c3 : List Int) (c4 : List Int) : Option α :=
  if (decide (x8 < 4)) = true then
    if 0 ≤ x8 ∧ x8 < (4 : Int) then
      if 0 ≤ x8 ∧ x8 < (4 : Int) then
        (Go.Bx.x_add64.run (List.getD c2 (Int.toNat x8) 0) (List.getD c3 (Int.toNat x8) 0) x6).bind fun y1 =>
        if 0 ≤ x8 ∧ x8 < (4 : Int) then
          Nx y1.2.1 (IntKind.i64.wrap (x8 + 1)) (List.set c2 (Int.toNat x8) y1.1) c3 c4
        else none
      else none
    else none
  else
    Xt0 x6 c2 c4
theorem l0s_eq {α : Type} (k : Nat) (next : St → Option α) (Q : Ex → St → Option α) (x6 : Int) (x8 : Int) (c2 : List Int) (c3 : List Int) (c4 : List Int) :
    rnd C k cd0 9 Q next (St1 x6 x8 c2 c3 c4) = l0s (fun (x6 : Int) (x8 : Int) (c2 : List Int) (c3 : List Int) (c4 : List Int) => next (St1 x6 x8 c2 c3 c4)) (fun (x6 : Int) (c2 : List Int) (c4 : List Int) => Q (.exit 0) (St2 x6 c2 c4)) x6 x8 c2 c3 c4 := by
  have h : ∀ (D L : DT α), denJ D L Js C cd0 (lq C 9 next Q) (St1 x6 x8 c2 c3 c4) =
        if (decide (x8 < 4)) = true then
          if 0 ≤ x8 ∧ x8 < (4 : Int) then
            if 0 ≤ x8 ∧ x8 < (4 : Int) then
              (Go.Bx.x_add64.run (List.getD c2 (Int.toNat x8) 0) (List.getD c3 (Int.toNat x8) 0) x6).bind fun y1 =>
              if 0 ≤ x8 ∧ x8 < (4 : Int) then
                next (St1 y1.2.1 (IntKind.i64.wrap (x8 + 1)) (List.set c2 (Int.toNat x8) y1.1) c3 c4)
              else none
            else none
          else none
        else
          Q (.exit 0) (St2 x6 c2 c4) := by
    intro D L; kernel_rfl
  refine (show rnd C k cd0 9 Q next (St1 x6 x8 c2 c3 c4) = denJ (den C k) (lp C k) Js C cd0 (lq C 9 next Q) (St1 x6 x8 c2 c3 c4) from (denJ_den _ _ _ _ _ _).symm).trans ((h (den C k) (lp C k)).trans ?_)
  first | rfl | kernel_rfl
def l0 {α : Type} (k : Nat) (Xt0 : Int → (List Int) → (List Int) → Option α) : Nat → Int → Int → (List Int) → (List Int) → (List Int) → Option α
  | 0, _, _, _, _, _ => none
  | n + 1, x6, x8, c2, c3, c4 => l0s (l0 k Xt0 n) Xt0 x6 x8 c2 c3 c4
theorem l0_eq {α : Type} (k : Nat) (Q : Ex → St → Option α) : ∀ (n : Nat) (x6 : Int) (x8 : Int) (c2 : List Int) (c3 : List Int) (c4 : List Int), iter (rnd C k cd0 9 Q) n (St1 x6 x8 c2 c3 c4) = l0 k (fun (x6 : Int) (c2 : List Int) (c4 : List Int) => Q (.exit 0) (St2 x6 c2 c4)) n x6 x8 c2 c3 c4
  | 0, _, _, _, _, _ => rfl
  | n + 1, x6, x8, c2, c3, c4 => (iter_succ _ _ _).trans ((l0s_eq k (iter (rnd C k cd0 9 Q) n) Q x6 x8 c2 c3 c4).trans (congrArg (fun N => l0s N (fun (x6 : Int) (c2 : List Int) (c4 : List Int) => Q (.exit 0) (St2 x6 c2 c4)) x6 x8 c2 c3 c4) (funext fun x6 => funext fun x8 => funext fun c2 => funext fun c3 => funext fun c4 => l0_eq k Q n x6 x8 c2 c3 c4)))
theorem l0_congr {α : Type} (k : Nat) (Xt0 : Int → (List Int) → (List Int) → Option α) (Xt0q : Int → (List Int) → (List Int) → Option α) (hXt0 : ∀ (x6 : Int) (c2 : List Int) (c4 : List Int), Xt0 x6 c2 c4 = Xt0q x6 c2 c4) (n : Nat) (x6 : Int) (x8 : Int) (c2 : List Int) (c3 : List Int) (c4 : List Int) : l0 k Xt0 n x6 x8 c2 c3 c4 = l0 k Xt0q n x6 x8 c2 c3 c4 := by
  obtain rfl : Xt0 = Xt0q := by funext x6; funext c2; funext c4; exact hXt0 x6 c2 c4
  rfl
noncomputable def cd1 : Code := cR (cR (cR (cB Try.f41)))
def St3 (x6 : Int) (c2 : List Int) (c4 : List Int) : St := stL 28 [(2, .ref 2 0 []), (4, .ref 4 0 []), (6, .data (.int .u64) x6)] [(2, .cell (.arr 4 (.int .u64)) (.data (.arr 4 (.int .u64)) c2) false), (4, .cell (.arr 4 (.int .u64)) (.data (.arr 4 (.int .u64)) c4) false)]
def St4 (x5 : Bool) (c4 : List Int) : St := stL 28 [(4, .ref 4 0 []), (5, .data .bool x5)] [(4, .cell (.arr 4 (.int .u64)) (.data (.arr 4 (.int .u64)) c4) false)]
def j0 {α : Type} (Rt : Bool → (List Int) → Option α) (x6 : Int) (c2 : List Int) (c4 : List Int) : Option α :=
  Rt (x6 == 1) c2
theorem j0_eq {α : Type} (k : Nat) (Q : Ex → St → Option α) (x6 : Int) (c2 : List Int) (c4 : List Int) :
    (den C k) cd1 Q (St3 x6 c2 c4) = j0 (fun (x5 : Bool) (c4 : List Int) => Q .ret (St4 x5 c4)) x6 c2 c4 := by
  have h : ∀ (D L : DT α), denJ D L Js C cd1 Q (St3 x6 c2 c4) =
        Q .ret (St4 (x6 == 1) c2) := by
    intro D L; kernel_rfl
  refine (show (den C k) cd1 Q (St3 x6 c2 c4) = denJ (den C k) (lp C k) Js C cd1 Q (St3 x6 c2 c4) from (denJ_den _ _ _ _ _ _).symm).trans ((h (den C k) (lp C k)).trans ?_)
  first | rfl | kernel_rfl
theorem a0 {α : Type} (k : Nat) (Q : Ex → St → Option α) (x6 : Int) (x8 : Int) (c2 : List Int) (c3 : List Int) (c4 : List Int) :
    (lp C k) cd0 (blkQ C 0 (sq (den C k) (lp C k) Js C cd1 Q)) (St1 x6 x8 c2 c3 c4) = l0 k (fun (x6 : Int) (c2 : List Int) (c4 : List Int) => j0 (fun (x5 : Bool) (c4 : List Int) => Q .ret (St4 x5 c4)) x6 c2 c4) k x6 x8 c2 c3 c4 :=
  (show (lp C k) cd0 (blkQ C 0 (sq (den C k) (lp C k) Js C cd1 Q)) (St1 x6 x8 c2 c3 c4) = iter (rnd C k cd0 9 (blkQ C 0 (sq (den C k) (lp C k) Js C cd1 Q))) k (St1 x6 x8 c2 c3 c4) by kernel_rfl).trans ((l0_eq k (blkQ C 0 (sq (den C k) (lp C k) Js C cd1 Q)) k x6 x8 c2 c3 c4).trans (l0_congr k _ _ (fun x6 c2 c4 => ((show (blkQ C 0 (sq (den C k) (lp C k) Js C cd1 Q)) (.exit 0) (St2 x6 c2 c4) = (den C k) cd1 Q (St3 x6 c2 c4) by kernel_rfl).trans (by simp only [j0_eq]))) k x6 x8 c2 c3 c4))
def top {α : Type} (k : Nat) (Rt : Bool → (List Int) → Option α) (x0 : List Int) (x1 : List Int) : Option α :=
  l0 k (fun (x6 : Int) (c2 : List Int) (c4 : List Int) => j0 Rt x6 c2 c4) k 0 0 x0 x1 [0, 0, 0, 0]
theorem top_eq {α : Type} (k : Nat) (Q : Ex → St → Option α) (x0 : List Int) (x1 : List Int) :
    (den C k) (cB Try.f41) Q (St0 x0 x1) = top k (fun (x5 : Bool) (c4 : List Int) => Q .ret (St4 x5 c4)) x0 x1 := by
  have h : ∀ (D L : DT α), denJ D L Js C (cB Try.f41) Q (St0 x0 x1) =
        L cd0 (blkQ C 0 (sq D L Js C cd1 Q)) (St1 0 0 x0 x1 [0, 0, 0, 0]) := by
    intro D L; kernel_rfl
  refine (show (den C k) (cB Try.f41) Q (St0 x0 x1) = denJ (den C k) (lp C k) Js C (cB Try.f41) Q (St0 x0 x1) from (denJ_den _ _ _ _ _ _).symm).trans ((h (den C k) (lp C k)).trans ?_)
  simp only [a0]
  first | rfl | kernel_rfl
def run (x0 : List Int) (x1 : List Int) : Option (List Int × Bool × Unit) := top (α := List Int × Bool × Unit) fuel (fun (x5 : Bool) (c4 : List Int) => some (c4, x5, ())) x0 x1
def F : Fn := ⟨(.pair (.arr 4 (.int .u64)) (.pair (.arr 4 (.int .u64)) .unit)), (.pair (.arr 4 (.int .u64)) (.pair .bool .unit)), true, fun x => run x.1 x.2.1⟩
set_option maxRecDepth 100000 in
theorem con : Con Try.prog 41 F := by
  refine con_of_den (C := C) (ctx_ok (by kernel_rfl) (by kernel_rfl) (by kernel_rfl) (by kernel_rfl) ⟨.inr Go.Bx.x_add64.ext, trivial⟩) (by kernel_rfl) Try.func41 (c := cB Try.f41) (by kernel_rfl) (by kernel_rfl) F fuel (fun x => by simp [F, spread, Try.ntmps41]) ?_
  intro x r h
  rw [← h]
  have h1 : start F Try.f41.ntmps x = (St0 x.1 x.2.1) := by kernel_rfl
  rw [h1]
  refine (top_eq fuel (fin C Try.f41.results.toList F.rs F.multi) x.1 x.2.1).trans ?_
  kernel_rfl
theorem named : Named Try.prog 41 := named_of Try.func41 (by kernel_rfl) (by kernel_rfl)
end Go.Bx.wide_Add
namespace Go.Bx.x_sub64
open Go Go.Proofs Go.Bx
def run (x y c : Int) : Option (Int × Int × Unit) := sub64 x y c
def F : Fn := ⟨U3, U2, true, fun x => run x.1 x.2.1 x.2.2.1⟩
theorem ext : ExtOk Try.prog 112 F := ext_sub64 Try.func112 (by kernel_rfl) (by kernel_rfl) (by kernel_rfl) (by kernel_rfl)
end Go.Bx.x_sub64
namespace Go.Bx.wide_Sub
open Go Go.Proofs Go.Bx
set_option maxRecDepth 100000
set_option linter.unusedVariables false
def Js : List Nat := [8]
def C : Ctx := ⟨[(4, .bool), (24, (.int .u64)), (45, (.arr 4 (.int .u64)))], [], [], fnL [(112, Go.Bx.x_sub64.F)], noSh, [], invL [], [(2, [4, 5]), (1, [2, 4, 6]), (4, [2, 3, 4, 6, 8]), (9, [2, 3, 4, 6, 8]), (21, [2, 4, 6])], [], [], 0, 0⟩
def St0 (x0 : List Int) (x1 : List Int) : St := stL 28 [(0, .data (.arr 4 (.int .u64)) x0), (1, .data (.arr 4 (.int .u64)) x1)] []
def St1 (x6 : Int) (x8 : Int) (c2 : List Int) (c3 : List Int) (c4 : List Int) : St := stL 28 [(2, .ref 2 0 []), (3, .ref 3 0 []), (4, .ref 4 0 []), (6, .data (.int .u64) x6), (8, .data (.int .i64) x8)] [(2, .cell (.arr 4 (.int .u64)) (.data (.arr 4 (.int .u64)) c2) false), (3, .cell (.arr 4 (.int .u64)) (.data (.arr 4 (.int .u64)) c3) false), (4, .cell (.arr 4 (.int .u64)) (.data (.arr 4 (.int .u64)) c4) false)]
noncomputable def cd0 : Code := cL (cL (cR (cL (cR (cR (cB Try.f42))))))
def St2 (x6 : Int) (c2 : List Int) (c4 : List Int) : St := stL 28 [(2, .ref 2 0 []), (4, .ref 4 0 []), (6, .data (.int .u64) x6)] [(2, .cell (.arr 4 (.int .u64)) (.data (.arr 4 (.int .u64)) c2) false), (4, .cell (.arr 4 (.int .u64)) (.data (.arr 4 (.int .u64)) c4) false)]
def l0s {α : Type} (Nx : Int → Int → (List Int) → (List Int) → (List Int) → Option α) (Xt0 : Int → (List Int) → (List Int) → Option α) (x6 : Int) (x8 : Int) (c2 : List Int) (c3 : List Int) (c4 : List Int) : Option α :=
  if (decide (x8 < 4)) = true then
    if 0 ≤ x8 ∧ x8 < (4 : Int) then
      if 0 ≤ x8 ∧ x8 < (4 : Int) then
        (Go.Bx.x_sub64.run (List.getD c2 (Int.toNat x8) 0) (List.getD c3 (Int.toNat x8) 0) x6).bind fun y1 =>
        if 0 ≤ x8 ∧ x8 < (4 : Int) then
          Nx y1.2.1 (IntKind.i64.wrap (x8 + 1)) (List.set c2 (Int.toNat x8) y1.1) c3 c4
        else none
      else none
    else none
  else
    Xt0 x6 c2 c4
theorem l0s_eq {α : Type} (k : Nat) (next : St → Option α) (Q : Ex → St → Option α) (x6 : Int) (x8 : Int) (c2 : List Int) (c3 : List Int) (c4 : List Int) :
    rnd C k cd0 9 Q next (St1 x6 x8 c2 c3 c4) = l0s (fun (x6 : Int) (x8 : Int) (c2 : List Int) (c3 : List Int) (c4 : List Int) => next (St1 x6 x8 c2 c3 c4)) (fun (x6 : Int) (c2 : List Int) (c4 : List Int) => Q (.exit 0) (St2 x6 c2 c4)) x6 x8 c2 c3 c4 := by
  have h : ∀ (D L : DT α), denJ D L Js C cd0 (lq C 9 next Q) (St1 x6 x8 c2 c3 c4) =
        if (decide (x8 < 4)) = true then
          if 0 ≤ x8 ∧ x8 < (4 : Int) then
            if 0 ≤ x8 ∧ x8 < (4 : Int) then
              (Go.Bx.x_sub64.run (List.getD c2 (Int.toNat x8) 0) (List.getD c3 (Int.toNat x8) 0) x6).bind fun y1 =>
              if 0 ≤ x8 ∧ x8 < (4 : Int) then
                next (St1 y1.2.1 (IntKind.i64.wrap (x8 + 1)) (List.set c2 (Int.toNat x8) y1.1) c3 c4)
              else none
            else none
          else none
        else
          Q (.exit 0) (St2 x6 c2 c4) := by
    intro D L; kernel_rfl
  refine (show rnd C k cd0 9 Q next (St1 x6 x8 c2 c3 c4) = denJ (den C k) (lp C k) Js C cd0 (lq C 9 next Q) (St1 x6 x8 c2 c3 c4) from (denJ_den _ _ _ _ _ _).symm).trans ((h (den C k) (lp C k)).trans ?_)
  first | rfl | kernel_rfl
def l0 {α : Type} (k : Nat) (Xt0 : Int → (List Int) → (List Int) → Option α) : Nat → Int → Int → (List Int) → (List Int) → (List Int) → Option α
  | 0, _, _, _, _, _ => none
  | n + 1, x6, x8, c2, c3, c4 => l0s (l0 k Xt0 n) Xt0 x6 x8 c2 c3 c4
theorem l0_eq {α : Type} (k : Nat) (Q : Ex → St → Option α) : ∀ (n : Nat) (x6 : Int) (x8 : Int) (c2 : List Int) (c3 : List Int) (c4 : List Int), iter (rnd C k cd0 9 Q) n (St1 x6 x8 c2 c3 c4) = l0 k (fun (x6 : Int) (c2 : List Int) (c4 : List Int) => Q (.exit 0) (St2 x6 c2 c4)) n x6 x8 c2 c3 c4
  | 0, _, _, _, _, _ => rfl
  | n + 1, x6, x8, c2, c3, c4 => (iter_succ _ _ _).trans ((l0s_eq k (iter (rnd C k cd0 9 Q) n) Q x6 x8 c2 c3 c4).trans (congrArg (fun N => l0s N (fun (x6 : Int) (c2 : List Int) (c4 : List Int) => Q (.exit 0) (St2 x6 c2 c4)) x6 x8 c2 c3 c4) (funext fun x6 => funext fun x8 => funext fun c2 => funext fun c3 => funext fun c4 => l0_eq k Q n x6 x8 c2 c3 c4)))
theorem l0_congr {α : Type} (k : Nat) (Xt0 : Int → (List Int) → (List Int) → Option α) (Xt0q : Int → (List Int) → (List Int) → Option α) (hXt0 : ∀ (x6 : Int) (c2 : List Int) (c4 : List Int), Xt0 x6 c2 c4 = Xt0q x6 c2 c4) (n : Nat) (x6 : Int) (x8 : Int) (c2 : List Int) (c3 : List Int) (c4 : List Int) : l0 k Xt0 n x6 x8 c2 c3 c4 = l0 k Xt0q n x6 x8 c2 c3 c4 := by
  obtain rfl : Xt0 = Xt0q := by funext x6; funext c2; funext c4; exact hXt0 x6 c2 c4
  rfl
noncomputable def cd1 : Code := cR (cR (cR (cB Try.f42)))
def St3 (x6 : Int) (c2 : List Int) (c4 : List Int) : St := stL 28 [(2, .ref 2 0 []), (4, .ref 4 0 []), (6, .data (.int .u64) x6)] [(2, .cell (.arr 4 (.int .u64)) (.data (.arr 4 (.int .u64)) c2) false), (4, .cell (.arr 4 (.int .u64)) (.data (.arr 4 (.int .u64)) c4) false)]
def St4 (x5 : Bool) (c4 : List Int) : St := stL 28 [(4, .ref 4 0 []), (5, .data .bool x5)] [(4, .cell (.arr 4 (.int .u64)) (.data (.arr 4 (.int .u64)) c4) false)]
def j0 {α : Type} (Rt : Bool → (List Int) → Option α) (x6 : Int) (c2 : List Int) (c4 : List Int) : Option α :=
  Rt (x6 == 1) c2
theorem j0_eq {α : Type} (k : Nat) (Q : Ex → St → Option α) (x6 : Int) (c2 : List Int) (c4 : List Int) :
    (den C k) cd1 Q (St3 x6 c2 c4) = j0 (fun (x5 : Bool) (c4 : List Int) => Q .ret (St4 x5 c4)) x6 c2 c4 := by
  have h : ∀ (D L : DT α), denJ D L Js C cd1 Q (St3 x6 c2 c4) =
        Q .ret (St4 (x6 == 1) c2) := by
    intro D L; kernel_rfl
  refine (show (den C k) cd1 Q (St3 x6 c2 c4) = denJ (den C k) (lp C k) Js C cd1 Q (St3 x6 c2 c4) from (denJ_den _ _ _ _ _ _).symm).trans ((h (den C k) (lp C k)).trans ?_)
  first | rfl | kernel_rfl
theorem a0 {α : Type} (k : Nat) (Q : Ex → St → Option α) (x6 : Int) (x8 : Int) (c2 : List Int) (c3 : List Int) (c4 : List Int) :
    (lp C k) cd0 (blkQ C 0 (sq (den C k) (lp C k) Js C cd1 Q)) (St1 x6 x8 c2 c3 c4) = l0 k (fun (x6 : Int) (c2 : List Int) (c4 : List Int) => j0 (fun (x5 : Bool) (c4 : List Int) => Q .ret (St4 x5 c4)) x6 c2 c4) k x6 x8 c2 c3 c4 :=
  (show (lp C k) cd0 (blkQ C 0 (sq (den C k) (lp C k) Js C cd1 Q)) (St1 x6 x8 c2 c3 c4) = iter (rnd C k cd0 9 (blkQ C 0 (sq (den C k) (lp C k) Js C cd1 Q))) k (St1 x6 x8 c2 c3 c4) by kernel_rfl).trans ((l0_eq k (blkQ C 0 (sq (den C k) (lp C k) Js C cd1 Q)) k x6 x8 c2 c3 c4).trans (l0_congr k _ _ (fun x6 c2 c4 => ((show (blkQ C 0 (sq (den C k) (lp C k) Js C cd1 Q)) (.exit 0) (St2 x6 c2 c4) = (den C k) cd1 Q (St3 x6 c2 c4) by kernel_rfl).trans (by simp only [j0_eq]))) k x6 x8 c2 c3 c4))
def top {α : Type} (k : Nat) (Rt : Bool → (List Int) → Option α) (x0 : List Int) (x1 : List Int) : Option α :=
  l0 k (fun (x6 : Int) (c2 : List Int) (c4 : List Int) => j0 Rt x6 c2 c4) k 0 0 x0 x1 [0, 0, 0, 0]
theorem top_eq {α : Type} (k : Nat) (Q : Ex → St → Option α) (x0 : List Int) (x1 : List Int) :
    (den C k) (cB Try.f42) Q (St0 x0 x1) = top k (fun (x5 : Bool) (c4 : List Int) => Q .ret (St4 x5 c4)) x0 x1 := by
  have h : ∀ (D L : DT α), denJ D L Js C (cB Try.f42) Q (St0 x0 x1) =
        L cd0 (blkQ C 0 (sq D L Js C cd1 Q)) (St1 0 0 x0 x1 [0, 0, 0, 0]) := by
    intro D L; kernel_rfl
  refine (show (den C k) (cB Try.f42) Q (St0 x0 x1) = denJ (den C k) (lp C k) Js C (cB Try.f42) Q (St0 x0 x1) from (denJ_den _ _ _ _ _ _).symm).trans ((h (den C k) (lp C k)).trans ?_)
  simp only [a0]
  first | rfl | kernel_rfl
def run (x0 : List Int) (x1 : List Int) : Option (List Int × Bool × Unit) := top (α := List Int × Bool × Unit) fuel (fun (x5 : Bool) (c4 : List Int) => some (c4, x5, ())) x0 x1
def F : Fn := ⟨(.pair (.arr 4 (.int .u64)) (.pair (.arr 4 (.int .u64)) .unit)), (.pair (.arr 4 (.int .u64)) (.pair .bool .unit)), true, fun x => run x.1 x.2.1⟩
set_option maxRecDepth 100000 in
theorem con : Con Try.prog 42 F := by
  refine con_of_den (C := C) (ctx_ok (by kernel_rfl) (by kernel_rfl) (by kernel_rfl) (by kernel_rfl) ⟨.inr Go.Bx.x_sub64.ext, trivial⟩) (by kernel_rfl) Try.func42 (c := cB Try.f42) (by kernel_rfl) (by kernel_rfl) F fuel (fun x => by simp [F, spread, Try.ntmps42]) ?_
  intro x r h
  rw [← h]
  have h1 : start F Try.f42.ntmps x = (St0 x.1 x.2.1) := by kernel_rfl
  rw [h1]
  refine (top_eq fuel (fin C Try.f42.results.toList F.rs F.multi) x.1 x.2.1).trans ?_
  kernel_rfl
theorem named : Named Try.prog 42 := named_of Try.func42 (by kernel_rfl) (by kernel_rfl)
end Go.Bx.wide_Sub
namespace Go.Bx.basculeref_shorn
open Go Go.Proofs Go.Bx
set_option maxRecDepth 100000
set_option linter.unusedVariables false
def Js : List Nat := [4]
def C : Ctx := ⟨[(24, (.int .u64)), (134, (.sl (.int .u64)))], [], [], fnL [], noSh, [], invL [], [(2, [2]), (1, [0]), (4, [0]), (3, [0]), (9, [0])], [], [], 0, 0⟩
def St0 (x0 : List Int) : St := stL 21 [(0, .data (.sl (.int .u64)) x0)] []
def St1 (x0 : List Int) : St := stL 21 [(0, .data (.sl (.int .u64)) x0)] []
noncomputable def cd0 : Code := cL (cL (cL (cR (cB Try.f140))))
def St2 (x0 : List Int) : St := stL 21 [(0, .data (.sl (.int .u64)) x0)] []
def l0s {α : Type} (Nx : (List Int) → Option α) (Xt0 : (List Int) → Option α) (x0 : List Int) : Option α :=
  cond (decide (0 ≤ (IntKind.i64.wrap ((x0.length : Int) - 1)) ∧ (IntKind.i64.wrap ((x0.length : Int) - 1)) < (x0.length : Int)) || !((decide ((x0.length : Int) > 0)) == true)) (
    if (cond (decide ((x0.length : Int) > 0)) ((List.getD x0 (Int.toNat (IntKind.i64.wrap ((x0.length : Int) - 1))) 0) == 0) false) = true then
      if 0 ≤ (0 : Int) ∧ (0 : Int) ≤ (IntKind.i64.wrap ((x0.length : Int) - 1)) ∧ (IntKind.i64.wrap ((x0.length : Int) - 1)) ≤ (x0.length : Int) then
        Nx (cutL x0 0 (IntKind.i64.wrap ((x0.length : Int) - 1)))
      else none
    else
      Xt0 x0) none
theorem l0s_eq {α : Type} (k : Nat) (next : St → Option α) (Q : Ex → St → Option α) (x0 : List Int) :
    rnd C k cd0 3 Q next (St1 x0) = l0s (fun (x0 : List Int) => next (St1 x0)) (fun (x0 : List Int) => Q (.exit 0) (St2 x0)) x0 := by
  have h : ∀ (D L : DT α), denJ D L Js C cd0 (lq C 3 next Q) (St1 x0) =
        cond (decide (0 ≤ (IntKind.i64.wrap ((x0.length : Int) - 1)) ∧ (IntKind.i64.wrap ((x0.length : Int) - 1)) < (x0.length : Int)) || !((decide ((x0.length : Int) > 0)) == true)) (
          if (cond (decide ((x0.length : Int) > 0)) ((List.getD x0 (Int.toNat (IntKind.i64.wrap ((x0.length : Int) - 1))) 0) == 0) false) = true then
            if 0 ≤ (0 : Int) ∧ (0 : Int) ≤ (IntKind.i64.wrap ((x0.length : Int) - 1)) ∧ (IntKind.i64.wrap ((x0.length : Int) - 1)) ≤ (x0.length : Int) then
              next (St1 (cutL x0 0 (IntKind.i64.wrap ((x0.length : Int) - 1))))
            else none
          else
            Q (.exit 0) (St2 x0)) none := by
    intro D L; kernel_rfl
  refine (show rnd C k cd0 3 Q next (St1 x0) = denJ (den C k) (lp C k) Js C cd0 (lq C 3 next Q) (St1 x0) from (denJ_den _ _ _ _ _ _).symm).trans ((h (den C k) (lp C k)).trans ?_)
  first | rfl | kernel_rfl
def l0 {α : Type} (k : Nat) (Xt0 : (List Int) → Option α) : Nat → (List Int) → Option α
  | 0, _ => none
  | n + 1, x0 => l0s (l0 k Xt0 n) Xt0 x0
theorem l0_eq {α : Type} (k : Nat) (Q : Ex → St → Option α) : ∀ (n : Nat) (x0 : List Int), iter (rnd C k cd0 3 Q) n (St1 x0) = l0 k (fun (x0 : List Int) => Q (.exit 0) (St2 x0)) n x0
  | 0, _ => rfl
  | n + 1, x0 => (iter_succ _ _ _).trans ((l0s_eq k (iter (rnd C k cd0 3 Q) n) Q x0).trans (congrArg (fun N => l0s N (fun (x0 : List Int) => Q (.exit 0) (St2 x0)) x0) (funext fun x0 => l0_eq k Q n x0)))
theorem l0_congr {α : Type} (k : Nat) (Xt0 : (List Int) → Option α) (Xt0q : (List Int) → Option α) (hXt0 : ∀ (x0 : List Int), Xt0 x0 = Xt0q x0) (n : Nat) (x0 : List Int) : l0 k Xt0 n x0 = l0 k Xt0q n x0 := by
  obtain rfl : Xt0 = Xt0q := by funext x0; exact hXt0 x0
  rfl
noncomputable def cd1 : Code := cR (cR (cB Try.f140))
def St3 (x0 : List Int) : St := stL 21 [(0, .data (.sl (.int .u64)) x0)] []
def St4 (x2 : List Int) : St := stL 21 [(2, .data (.sl (.int .u64)) x2)] []
def j0 {α : Type} (Rt : (List Int) → Option α) (x0 : List Int) : Option α :=
  Rt x0
theorem j0_eq {α : Type} (k : Nat) (Q : Ex → St → Option α) (x0 : List Int) :
    (den C k) cd1 Q (St3 x0) = j0 (fun (x2 : List Int) => Q .ret (St4 x2)) x0 := by
  have h : ∀ (D L : DT α), denJ D L Js C cd1 Q (St3 x0) =
        Q .ret (St4 x0) := by
    intro D L; kernel_rfl
  refine (show (den C k) cd1 Q (St3 x0) = denJ (den C k) (lp C k) Js C cd1 Q (St3 x0) from (denJ_den _ _ _ _ _ _).symm).trans ((h (den C k) (lp C k)).trans ?_)
  first | rfl | kernel_rfl
theorem a0 {α : Type} (k : Nat) (Q : Ex → St → Option α) (x0 : List Int) :
    (lp C k) cd0 (blkQ C 0 (sq (den C k) (lp C k) Js C cd1 Q)) (St1 x0) = l0 k (fun (x0 : List Int) => j0 (fun (x2 : List Int) => Q .ret (St4 x2)) x0) k x0 :=
  (show (lp C k) cd0 (blkQ C 0 (sq (den C k) (lp C k) Js C cd1 Q)) (St1 x0) = iter (rnd C k cd0 3 (blkQ C 0 (sq (den C k) (lp C k) Js C cd1 Q))) k (St1 x0) by kernel_rfl).trans ((l0_eq k (blkQ C 0 (sq (den C k) (lp C k) Js C cd1 Q)) k x0).trans (l0_congr k _ _ (fun x0 => ((show (blkQ C 0 (sq (den C k) (lp C k) Js C cd1 Q)) (.exit 0) (St2 x0) = (den C k) cd1 Q (St3 x0) by kernel_rfl).trans (by simp only [j0_eq]))) k x0))
def top {α : Type} (k : Nat) (Rt : (List Int) → Option α) (x0 : List Int) : Option α :=
  l0 k (fun (x0 : List Int) => j0 Rt x0) k x0
theorem top_eq {α : Type} (k : Nat) (Q : Ex → St → Option α) (x0 : List Int) :
    (den C k) (cB Try.f140) Q (St0 x0) = top k (fun (x2 : List Int) => Q .ret (St4 x2)) x0 := by
  have h : ∀ (D L : DT α), denJ D L Js C (cB Try.f140) Q (St0 x0) =
        L cd0 (blkQ C 0 (sq D L Js C cd1 Q)) (St1 x0) := by
    intro D L; kernel_rfl
  refine (show (den C k) (cB Try.f140) Q (St0 x0) = denJ (den C k) (lp C k) Js C (cB Try.f140) Q (St0 x0) from (denJ_den _ _ _ _ _ _).symm).trans ((h (den C k) (lp C k)).trans ?_)
  simp only [a0]
  first | rfl | kernel_rfl
def run (x0 : List Int) : Option (List Int) := top (α := List Int) fuel (fun (x2 : List Int) => some x2) x0
def F : Fn := ⟨(.pair (.sl (.int .u64)) .unit), (.sl (.int .u64)), false, fun x => run x.1⟩
set_option maxRecDepth 100000 in
theorem con : Con Try.prog 140 F := by
  refine con_of_den (C := C) (ctx_ok (by kernel_rfl) (by kernel_rfl) (by kernel_rfl) (by kernel_rfl) trivial) (by kernel_rfl) Try.func140 (c := cB Try.f140) (by kernel_rfl) (by kernel_rfl) F fuel (fun x => by simp [F, spread, Try.ntmps140]) ?_
  intro x r h
  rw [← h]
  have h1 : start F Try.f140.ntmps x = (St0 x.1) := by kernel_rfl
  rw [h1]
  refine (top_eq fuel (fin C Try.f140.results.toList F.rs F.multi) x.1).trans ?_
  kernel_rfl
theorem named : Named Try.prog 140 := named_of Try.func140 (by kernel_rfl) (by kernel_rfl)
end Go.Bx.basculeref_shorn
namespace Go.Bx.x_compare
open Go Go.Proofs Go.Bx
def run (x y : List Int) : Option Int := some (cmpL x y)
def F : Fn := ⟨BB, .int .i64, false, fun x => run x.1 x.2.1⟩
theorem ext : ExtOk Try.prog 168 F := ext_compare Try.func168 (by kernel_rfl) (by kernel_rfl) (by kernel_rfl) (by kernel_rfl)
end Go.Bx.x_compare
namespace Go.Bx.bytes_Compare
open Go Go.Proofs Go.Bx
set_option maxRecDepth 100000
set_option linter.unusedVariables false
def Js : List Nat := []
def C : Ctx := ⟨[(3, (.int .i64)), (40, (.sl (.int .u8)))], [], [], fnL [(168, Go.Bx.x_compare.F)], noSh, [], invL [], [(2, [4])], [], [], 0, 0⟩
def St0 (x0 : List Int) (x1 : List Int) : St := stL 8 [(0, .data (.sl (.int .u8)) x0), (1, .data (.sl (.int .u8)) x1)] []
def St1 (x4 : Int) : St := stL 8 [(4, .data (.int .i64) x4)] []
def top {α : Type} (Rt : Int → Option α) (x0 : List Int) (x1 : List Int) : Option α :=
  (Go.Bx.x_compare.run x0 x1).bind fun y1 =>
  Rt y1
theorem top_eq {α : Type} (k : Nat) (Q : Ex → St → Option α) (x0 : List Int) (x1 : List Int) :
    (den C k) (cB Try.f136) Q (St0 x0 x1) = top (fun (x4 : Int) => Q .ret (St1 x4)) x0 x1 := by
  have h : ∀ (D L : DT α), denJ D L Js C (cB Try.f136) Q (St0 x0 x1) =
        (Go.Bx.x_compare.run x0 x1).bind fun y1 =>
        Q .ret (St1 y1) := by
    intro D L; kernel_rfl
  refine (show (den C k) (cB Try.f136) Q (St0 x0 x1) = denJ (den C k) (lp C k) Js C (cB Try.f136) Q (St0 x0 x1) from (denJ_den _ _ _ _ _ _).symm).trans ((h (den C k) (lp C k)).trans ?_)
  first | rfl | kernel_rfl
def run (x0 : List Int) (x1 : List Int) : Option (Int) := top (α := Int) (fun (x4 : Int) => some x4) x0 x1
def F : Fn := ⟨(.pair (.sl (.int .u8)) (.pair (.sl (.int .u8)) .unit)), (.int .i64), false, fun x => run x.1 x.2.1⟩
set_option maxRecDepth 100000 in
theorem con : Con Try.prog 136 F := by
  refine con_of_den (C := C) (ctx_ok (by kernel_rfl) (by kernel_rfl) (by kernel_rfl) (by kernel_rfl) ⟨.inr Go.Bx.x_compare.ext, trivial⟩) (by kernel_rfl) Try.func136 (c := cB Try.f136) (by kernel_rfl) (by kernel_rfl) F fuel (fun x => by simp [F, spread, Try.ntmps136]) ?_
  intro x r h
  rw [← h]
  have h1 : start F Try.f136.ntmps x = (St0 x.1 x.2.1) := by kernel_rfl
  rw [h1]
  refine (top_eq fuel (fin C Try.f136.results.toList F.rs F.multi) x.1 x.2.1).trans ?_
  kernel_rfl
theorem named : Named Try.prog 136 := named_of Try.func136 (by kernel_rfl) (by kernel_rfl)
end Go.Bx.bytes_Compare
namespace Go.Bx.coin_Check
open Go Go.Proofs Go.Bx
set_option maxRecDepth 100000
set_option linter.unusedVariables false
def Js : List Nat := [15]
def C : Ctx := ⟨[(31, (.int .i64)), (39, (.arr 32 (.int .u8))), (45, (.arr 4 (.int .u64))), (79, (.sl (.pair (.arr 32 (.int .u8)) (.pair (.arr 4 (.int .u64)) .unit)))), (81, (.pair (.arr 4 (.int .u64)) (.pair (.sl (.pair (.arr 32 (.int .u8)) (.pair (.arr 4 (.int .u64)) .unit))) .unit))), (152, (.pair (.arr 32 (.int .u8)) (.pair (.arr 4 (.int .u64)) .unit)))], [], [], fnL [(41, Go.Bx.wide_Add.F), (136, Go.Bx.bytes_Compare.F)], noSh, [], invL [], [(2, [2]), (1, [1, 3]), (4, [1, 3, 13, 14, 15]), (15, [1, 3, 13, 14, 15]), (42, [1, 3])], [], [], 0, 0⟩
def St0 (x0 : List Int × List (List Int × List Int × Unit) × Unit) : St := stL 55 [(0, .data (.pair (.arr 4 (.int .u64)) (.pair (.sl (.pair (.arr 32 (.int .u8)) (.pair (.arr 4 (.int .u64)) .unit))) .unit)) x0)] []
def St1 (x2 : Int) : St := stL 55 [(2, .data (.int .i64) x2)] []
def St2 (x13 : List (List Int × List Int × Unit)) (x14 : Int) (x15 : Int) (c1 : List Int × List (List Int × List Int × Unit) × Unit) (c3 : List Int) : St := stL 55 [(1, .ref 1 0 []), (3, .ref 3 0 []), (13, .data (.sl (.pair (.arr 32 (.int .u8)) (.pair (.arr 4 (.int .u64)) .unit))) x13), (14, .data (.int .i64) x14), (15, .data (.int .i64) x15)] [(1, .cell (.pair (.arr 4 (.int .u64)) (.pair (.sl (.pair (.arr 32 (.int .u8)) (.pair (.arr 4 (.int .u64)) .unit))) .unit)) (.data (.pair (.arr 4 (.int .u64)) (.pair (.sl (.pair (.arr 32 (.int .u8)) (.pair (.arr 4 (.int .u64)) .unit))) .unit)) c1) false), (3, .cell (.arr 4 (.int .u64)) (.data (.arr 4 (.int .u64)) c3) false)]
noncomputable def cd0 : Code := cL (cL (cR (cL (cR (cR (cR (cB Try.f62)))))))
def St3 (c1 : List Int × List (List Int × List Int × Unit) × Unit) (c3 : List Int) : St := stL 55 [(1, .ref 1 0 []), (3, .ref 3 0 [])] [(1, .cell (.pair (.arr 4 (.int .u64)) (.pair (.sl (.pair (.arr 32 (.int .u8)) (.pair (.arr 4 (.int .u64)) .unit))) .unit)) (.data (.pair (.arr 4 (.int .u64)) (.pair (.sl (.pair (.arr 32 (.int .u8)) (.pair (.arr 4 (.int .u64)) .unit))) .unit)) c1) false), (3, .cell (.arr 4 (.int .u64)) (.data (.arr 4 (.int .u64)) c3) false)]
def l0s {α : Type} (Nx : (List (List Int × List Int × Unit)) → Int → Int → (List Int × List (List Int × List Int × Unit) × Unit) → (List Int) → Option α) (Rt : Int → Option α) (Xt0 : (List Int × List (List Int × List Int × Unit) × Unit) → (List Int) → Option α) (x13 : List (List Int × List Int × Unit)) (x14 : Int) (x15 : Int) (c1 : List Int × List (List Int × List Int × Unit) × Unit) (c3 : List Int) : Option α :=
  if (decide (x15 < x14)) = true then
    if 0 ≤ x15 ∧ x15 < (x13.length : Int) then
      cond (decide (0 ≤ (IntKind.i64.wrap (x15 - 1)) ∧ (IntKind.i64.wrap (x15 - 1)) < (c1.2.1.length : Int)) || !((decide (x15 > 0)) == true)) (
        (if ((decide (x15 > 0)) == true) = true then Go.Bx.bytes_Compare.run (cutL (List.getD c1.2.1 (Int.toNat (IntKind.i64.wrap (x15 - 1))) ((List.replicate 32 0), [0, 0, 0, 0], ())).1 0 32) (cutL (List.getD x13 (Int.toNat x15) ((List.replicate 32 0), [0, 0, 0, 0], ())).1 0 32) else some 0).bind fun y1 =>
        if (cond (beqD (.arr 4 (.int .u64)) (List.getD x13 (Int.toNat x15) ((List.replicate 32 0), [0, 0, 0, 0], ())).2.1 [0, 0, 0, 0]) true (cond (decide (x15 > 0)) (decide (y1 ≥ 0)) false)) = true then
          Rt 12
        else
          (Go.Bx.wide_Add.run c3 (List.getD x13 (Int.toNat x15) ((List.replicate 32 0), [0, 0, 0, 0], ())).2.1).bind fun y2 =>
          if y2.2.1 = true then
            Rt 12
          else
            Nx x13 x14 (IntKind.i64.wrap (x15 + 1)) c1 y2.1) none
    else none
  else
    Xt0 c1 c3
theorem l0s_eq {α : Type} (k : Nat) (next : St → Option α) (Q : Ex → St → Option α) (x13 : List (List Int × List Int × Unit)) (x14 : Int) (x15 : Int) (c1 : List Int × List (List Int × List Int × Unit) × Unit) (c3 : List Int) :
    rnd C k cd0 15 Q next (St2 x13 x14 x15 c1 c3) = l0s (fun (x13 : List (List Int × List Int × Unit)) (x14 : Int) (x15 : Int) (c1 : List Int × List (List Int × List Int × Unit) × Unit) (c3 : List Int) => next (St2 x13 x14 x15 c1 c3)) (fun (x2 : Int) => Q .ret (St1 x2)) (fun (c1 : List Int × List (List Int × List Int × Unit) × Unit) (c3 : List Int) => Q (.exit 0) (St3 c1 c3)) x13 x14 x15 c1 c3 := by
  have h : ∀ (D L : DT α), denJ D L Js C cd0 (lq C 15 next Q) (St2 x13 x14 x15 c1 c3) =
        if (decide (x15 < x14)) = true then
          if 0 ≤ x15 ∧ x15 < (x13.length : Int) then
            cond (decide (0 ≤ (IntKind.i64.wrap (x15 - 1)) ∧ (IntKind.i64.wrap (x15 - 1)) < (c1.2.1.length : Int)) || !((decide (x15 > 0)) == true)) (
              (if ((decide (x15 > 0)) == true) = true then Go.Bx.bytes_Compare.run (cutL (List.getD c1.2.1 (Int.toNat (IntKind.i64.wrap (x15 - 1))) ((List.replicate 32 0), [0, 0, 0, 0], ())).1 0 32) (cutL (List.getD x13 (Int.toNat x15) ((List.replicate 32 0), [0, 0, 0, 0], ())).1 0 32) else some 0).bind fun y1 =>
              if (cond (beqD (.arr 4 (.int .u64)) (List.getD x13 (Int.toNat x15) ((List.replicate 32 0), [0, 0, 0, 0], ())).2.1 [0, 0, 0, 0]) true (cond (decide (x15 > 0)) (decide (y1 ≥ 0)) false)) = true then
                Q .ret (St1 12)
              else
                (Go.Bx.wide_Add.run c3 (List.getD x13 (Int.toNat x15) ((List.replicate 32 0), [0, 0, 0, 0], ())).2.1).bind fun y2 =>
                if y2.2.1 = true then
                  Q .ret (St1 12)
                else
                  next (St2 x13 x14 (IntKind.i64.wrap (x15 + 1)) c1 y2.1)) none
          else none
        else
          Q (.exit 0) (St3 c1 c3) := by
    intro D L; kernel_rfl
  refine (show rnd C k cd0 15 Q next (St2 x13 x14 x15 c1 c3) = denJ (den C k) (lp C k) Js C cd0 (lq C 15 next Q) (St2 x13 x14 x15 c1 c3) from (denJ_den _ _ _ _ _ _).symm).trans ((h (den C k) (lp C k)).trans ?_)
  first | rfl | kernel_rfl
def l0 {α : Type} (k : Nat) (Rt : Int → Option α) (Xt0 : (List Int × List (List Int × List Int × Unit) × Unit) → (List Int) → Option α) : Nat → (List (List Int × List Int × Unit)) → Int → Int → (List Int × List (List Int × List Int × Unit) × Unit) → (List Int) → Option α
  | 0, _, _, _, _, _ => none
  | n + 1, x13, x14, x15, c1, c3 => l0s (l0 k Rt Xt0 n) Rt Xt0 x13 x14 x15 c1 c3
theorem l0_eq {α : Type} (k : Nat) (Q : Ex → St → Option α) : ∀ (n : Nat) (x13 : List (List Int × List Int × Unit)) (x14 : Int) (x15 : Int) (c1 : List Int × List (List Int × List Int × Unit) × Unit) (c3 : List Int), iter (rnd C k cd0 15 Q) n (St2 x13 x14 x15 c1 c3) = l0 k (fun (x2 : Int) => Q .ret (St1 x2)) (fun (c1 : List Int × List (List Int × List Int × Unit) × Unit) (c3 : List Int) => Q (.exit 0) (St3 c1 c3)) n x13 x14 x15 c1 c3
  | 0, _, _, _, _, _ => rfl
  | n + 1, x13, x14, x15, c1, c3 => (iter_succ _ _ _).trans ((l0s_eq k (iter (rnd C k cd0 15 Q) n) Q x13 x14 x15 c1 c3).trans (congrArg (fun N => l0s N (fun (x2 : Int) => Q .ret (St1 x2)) (fun (c1 : List Int × List (List Int × List Int × Unit) × Unit) (c3 : List Int) => Q (.exit 0) (St3 c1 c3)) x13 x14 x15 c1 c3) (funext fun x13 => funext fun x14 => funext fun x15 => funext fun c1 => funext fun c3 => l0_eq k Q n x13 x14 x15 c1 c3)))
theorem l0_congr {α : Type} (k : Nat) (Rt : Int → Option α) (Xt0 : (List Int × List (List Int × List Int × Unit) × Unit) → (List Int) → Option α) (Rtq : Int → Option α) (Xt0q : (List Int × List (List Int × List Int × Unit) × Unit) → (List Int) → Option α) (hRt : ∀ (x2 : Int), Rt x2 = Rtq x2) (hXt0 : ∀ (c1 : List Int × List (List Int × List Int × Unit) × Unit) (c3 : List Int), Xt0 c1 c3 = Xt0q c1 c3) (n : Nat) (x13 : List (List Int × List Int × Unit)) (x14 : Int) (x15 : Int) (c1 : List Int × List (List Int × List Int × Unit) × Unit) (c3 : List Int) : l0 k Rt Xt0 n x13 x14 x15 c1 c3 = l0 k Rtq Xt0q n x13 x14 x15 c1 c3 := by
  obtain rfl : Rt = Rtq := by funext x2; exact hRt x2
  obtain rfl : Xt0 = Xt0q := by funext c1; funext c3; exact hXt0 c1 c3
  rfl
noncomputable def cd1 : Code := cR (cR (cR (cR (cB Try.f62))))
def St4 (c1 : List Int × List (List Int × List Int × Unit) × Unit) (c3 : List Int) : St := stL 55 [(1, .ref 1 0 []), (3, .ref 3 0 [])] [(1, .cell (.pair (.arr 4 (.int .u64)) (.pair (.sl (.pair (.arr 32 (.int .u8)) (.pair (.arr 4 (.int .u64)) .unit))) .unit)) (.data (.pair (.arr 4 (.int .u64)) (.pair (.sl (.pair (.arr 32 (.int .u8)) (.pair (.arr 4 (.int .u64)) .unit))) .unit)) c1) false), (3, .cell (.arr 4 (.int .u64)) (.data (.arr 4 (.int .u64)) c3) false)]
def j0 {α : Type} (Rt : Int → Option α) (c1 : List Int × List (List Int × List Int × Unit) × Unit) (c3 : List Int) : Option α :=
  if (not (beqD (.arr 4 (.int .u64)) c3 c1.1)) = true then
    Rt 12
  else
    Rt 0
theorem j0_eq {α : Type} (k : Nat) (Q : Ex → St → Option α) (c1 : List Int × List (List Int × List Int × Unit) × Unit) (c3 : List Int) :
    (den C k) cd1 Q (St4 c1 c3) = j0 (fun (x2 : Int) => Q .ret (St1 x2)) c1 c3 := by
  have h : ∀ (D L : DT α), denJ D L Js C cd1 Q (St4 c1 c3) =
        if (not (beqD (.arr 4 (.int .u64)) c3 c1.1)) = true then
          Q .ret (St1 12)
        else
          Q .ret (St1 0) := by
    intro D L; kernel_rfl
  refine (show (den C k) cd1 Q (St4 c1 c3) = denJ (den C k) (lp C k) Js C cd1 Q (St4 c1 c3) from (denJ_den _ _ _ _ _ _).symm).trans ((h (den C k) (lp C k)).trans ?_)
  first | rfl | kernel_rfl
theorem a0 {α : Type} (k : Nat) (Q : Ex → St → Option α) (x13 : List (List Int × List Int × Unit)) (x14 : Int) (x15 : Int) (c1 : List Int × List (List Int × List Int × Unit) × Unit) (c3 : List Int) :
    (lp C k) cd0 (blkQ C 0 (sq (den C k) (lp C k) Js C cd1 Q)) (St2 x13 x14 x15 c1 c3) = l0 k (fun (x2 : Int) => (fun (x2 : Int) => Q .ret (St1 x2)) x2) (fun (c1 : List Int × List (List Int × List Int × Unit) × Unit) (c3 : List Int) => j0 (fun (x2 : Int) => Q .ret (St1 x2)) c1 c3) k x13 x14 x15 c1 c3 :=
  (show (lp C k) cd0 (blkQ C 0 (sq (den C k) (lp C k) Js C cd1 Q)) (St2 x13 x14 x15 c1 c3) = iter (rnd C k cd0 15 (blkQ C 0 (sq (den C k) (lp C k) Js C cd1 Q))) k (St2 x13 x14 x15 c1 c3) by kernel_rfl).trans ((l0_eq k (blkQ C 0 (sq (den C k) (lp C k) Js C cd1 Q)) k x13 x14 x15 c1 c3).trans (l0_congr k _ _ _ _ (fun x2 => (show (blkQ C 0 (sq (den C k) (lp C k) Js C cd1 Q)) .ret (St1 x2) = Q .ret (St1 x2) by kernel_rfl)) (fun c1 c3 => ((show (blkQ C 0 (sq (den C k) (lp C k) Js C cd1 Q)) (.exit 0) (St3 c1 c3) = (den C k) cd1 Q (St4 c1 c3) by kernel_rfl).trans (by simp only [j0_eq]))) k x13 x14 x15 c1 c3))
def top {α : Type} (k : Nat) (Rt : Int → Option α) (x0 : List Int × List (List Int × List Int × Unit) × Unit) : Option α :=
  if (decide ((x0.2.1.length : Int) > 40)) = true then
    Rt 1
  else
    l0 k (fun (x2 : Int) => Rt x2) (fun (c1 : List Int × List (List Int × List Int × Unit) × Unit) (c3 : List Int) => j0 Rt c1 c3) k x0.2.1 (x0.2.1.length : Int) 0 x0 [0, 0, 0, 0]
theorem top_eq {α : Type} (k : Nat) (Q : Ex → St → Option α) (x0 : List Int × List (List Int × List Int × Unit) × Unit) :
    (den C k) (cB Try.f62) Q (St0 x0) = top k (fun (x2 : Int) => Q .ret (St1 x2)) x0 := by
  have h : ∀ (D L : DT α), denJ D L Js C (cB Try.f62) Q (St0 x0) =
        if (decide ((x0.2.1.length : Int) > 40)) = true then
          Q .ret (St1 1)
        else
          L cd0 (blkQ C 0 (sq D L Js C cd1 Q)) (St2 x0.2.1 (x0.2.1.length : Int) 0 x0 [0, 0, 0, 0]) := by
    intro D L; kernel_rfl
  refine (show (den C k) (cB Try.f62) Q (St0 x0) = denJ (den C k) (lp C k) Js C (cB Try.f62) Q (St0 x0) from (denJ_den _ _ _ _ _ _).symm).trans ((h (den C k) (lp C k)).trans ?_)
  simp only [a0]
  first | rfl | kernel_rfl
def run (x0 : List Int × List (List Int × List Int × Unit) × Unit) : Option (Int) := top (α := Int) fuel (fun (x2 : Int) => some x2) x0
def F : Fn := ⟨(.pair (.pair (.arr 4 (.int .u64)) (.pair (.sl (.pair (.arr 32 (.int .u8)) (.pair (.arr 4 (.int .u64)) .unit))) .unit)) .unit), (.int .i64), false, fun x => run x.1⟩
set_option maxRecDepth 100000 in
theorem con : Con Try.prog 62 F := by
  refine con_of_den (C := C) (ctx_ok (by kernel_rfl) (by kernel_rfl) (by kernel_rfl) (by kernel_rfl) ⟨.inl ⟨Go.Bx.wide_Add.con, Go.Bx.wide_Add.named⟩, ⟨.inl ⟨Go.Bx.bytes_Compare.con, Go.Bx.bytes_Compare.named⟩, trivial⟩⟩) (by kernel_rfl) Try.func62 (c := cB Try.f62) (by kernel_rfl) (by kernel_rfl) F fuel (fun x => by simp [F, spread, Try.ntmps62]) ?_
  intro x r h
  rw [← h]
  have h1 : start F Try.f62.ntmps x = (St0 x.1) := by kernel_rfl
  rw [h1]
  refine (top_eq fuel (fin C Try.f62.results.toList F.rs F.multi) x.1).trans ?_
  kernel_rfl
theorem named : Named Try.prog 62 := named_of Try.func62 (by kernel_rfl) (by kernel_rfl)
end Go.Bx.coin_Check
namespace Go.Bx.basculeref_isZero
open Go Go.Proofs Go.Bx
set_option maxRecDepth 100000
set_option linter.unusedVariables false
def Js : List Nat := []
def C : Ctx := ⟨[(4, .bool), (45, (.arr 4 (.int .u64)))], [], [], fnL [], noSh, [], invL [], [(2, [2])], [], [], 0, 0⟩
def St0 (x0 : List Int) : St := stL 6 [(0, .data (.arr 4 (.int .u64)) x0)] []
def St1 (x2 : Bool) : St := stL 6 [(2, .data .bool x2)] []
def top {α : Type} (Rt : Bool → Option α) (x0 : List Int) : Option α :=
  Rt (beqD (.arr 4 (.int .u64)) x0 [0, 0, 0, 0])
theorem top_eq {α : Type} (k : Nat) (Q : Ex → St → Option α) (x0 : List Int) :
    (den C k) (cB Try.f98) Q (St0 x0) = top (fun (x2 : Bool) => Q .ret (St1 x2)) x0 := by
  have h : ∀ (D L : DT α), denJ D L Js C (cB Try.f98) Q (St0 x0) =
        Q .ret (St1 (beqD (.arr 4 (.int .u64)) x0 [0, 0, 0, 0])) := by
    intro D L; kernel_rfl
  refine (show (den C k) (cB Try.f98) Q (St0 x0) = denJ (den C k) (lp C k) Js C (cB Try.f98) Q (St0 x0) from (denJ_den _ _ _ _ _ _).symm).trans ((h (den C k) (lp C k)).trans ?_)
  first | rfl | kernel_rfl
def run (x0 : List Int) : Option (Bool) := top (α := Bool) (fun (x2 : Bool) => some x2) x0
def F : Fn := ⟨(.pair (.arr 4 (.int .u64)) .unit), .bool, false, fun x => run x.1⟩
set_option maxRecDepth 100000 in
theorem con : Con Try.prog 98 F := by
  refine con_of_den (C := C) (ctx_ok (by kernel_rfl) (by kernel_rfl) (by kernel_rfl) (by kernel_rfl) trivial) (by kernel_rfl) Try.func98 (c := cB Try.f98) (by kernel_rfl) (by kernel_rfl) F fuel (fun x => by simp [F, spread, Try.ntmps98]) ?_
  intro x r h
  rw [← h]
  have h1 : start F Try.f98.ntmps x = (St0 x.1) := by kernel_rfl
  rw [h1]
  refine (top_eq fuel (fin C Try.f98.results.toList F.rs F.multi) x.1).trans ?_
  kernel_rfl
theorem named : Named Try.prog 98 := named_of Try.func98 (by kernel_rfl) (by kernel_rfl)
end Go.Bx.basculeref_isZero
namespace Go.Bx.basculeref_before
open Go Go.Proofs Go.Bx
set_option maxRecDepth 100000
set_option linter.unusedVariables false
def Js : List Nat := []
def C : Ctx := ⟨[(4, .bool), (9, .str), (39, (.arr 32 (.int .u8))), (40, (.sl (.int .u8)))], [], [], fnL [], noSh, [], invL [], [(2, [4])], [], [], 0, 0⟩
def St0 (x0 : List Int) (x1 : List Int) : St := stL 10 [(0, .data (.arr 32 (.int .u8)) x0), (1, .data (.arr 32 (.int .u8)) x1)] []
def St1 (x4 : Bool) : St := stL 10 [(4, .data .bool x4)] []
def top {α : Type} (Rt : Bool → Option α) (x0 : List Int) (x1 : List Int) : Option α :=
  Rt (ltB (cutL x0 0 32) (cutL x1 0 32))
theorem top_eq {α : Type} (k : Nat) (Q : Ex → St → Option α) (x0 : List Int) (x1 : List Int) :
    (den C k) (cB Try.f139) Q (St0 x0 x1) = top (fun (x4 : Bool) => Q .ret (St1 x4)) x0 x1 := by
  have h : ∀ (D L : DT α), denJ D L Js C (cB Try.f139) Q (St0 x0 x1) =
        Q .ret (St1 (ltB (cutL x0 0 32) (cutL x1 0 32))) := by
    intro D L; kernel_rfl
  refine (show (den C k) (cB Try.f139) Q (St0 x0 x1) = denJ (den C k) (lp C k) Js C (cB Try.f139) Q (St0 x0 x1) from (denJ_den _ _ _ _ _ _).symm).trans ((h (den C k) (lp C k)).trans ?_)
  first | rfl | kernel_rfl
def run (x0 : List Int) (x1 : List Int) : Option (Bool) := top (α := Bool) (fun (x4 : Bool) => some x4) x0 x1
def F : Fn := ⟨(.pair (.arr 32 (.int .u8)) (.pair (.arr 32 (.int .u8)) .unit)), .bool, false, fun x => run x.1 x.2.1⟩
set_option maxRecDepth 100000 in
theorem con : Con Try.prog 139 F := by
  refine con_of_den (C := C) (ctx_ok (by kernel_rfl) (by kernel_rfl) (by kernel_rfl) (by kernel_rfl) trivial) (by kernel_rfl) Try.func139 (c := cB Try.f139) (by kernel_rfl) (by kernel_rfl) F fuel (fun x => by simp [F, spread, Try.ntmps139]) ?_
  intro x r h
  rw [← h]
  have h1 : start F Try.f139.ntmps x = (St0 x.1 x.2.1) := by kernel_rfl
  rw [h1]
  refine (top_eq fuel (fin C Try.f139.results.toList F.rs F.multi) x.1 x.2.1).trans ?_
  kernel_rfl
theorem named : Named Try.prog 139 := named_of Try.func139 (by kernel_rfl) (by kernel_rfl)
end Go.Bx.basculeref_before
namespace Go.Bx.basculeref_CoinFault
open Go Go.Proofs Go.Bx
set_option maxRecDepth 100000
set_option linter.unusedVariables false
def Js : List Nat := [12]
def C : Ctx := ⟨[(31, (.int .i64)), (39, (.arr 32 (.int .u8))), (45, (.arr 4 (.int .u64))), (79, (.sl (.pair (.arr 32 (.int .u8)) (.pair (.arr 4 (.int .u64)) .unit)))), (81, (.pair (.arr 4 (.int .u64)) (.pair (.sl (.pair (.arr 32 (.int .u8)) (.pair (.arr 4 (.int .u64)) .unit))) .unit))), (134, (.sl (.int .u64))), (152, (.pair (.arr 32 (.int .u8)) (.pair (.arr 4 (.int .u64)) .unit)))], [], [], fnL [(98, Go.Bx.basculeref_isZero.F), (107, Go.Bx.basculeref_plus.F), (108, Go.Bx.basculeref_of.F), (113, Go.Bx.basculeref_compare.F), (139, Go.Bx.basculeref_before.F), (140, Go.Bx.basculeref_shorn.F)], noSh, [], invL [], [(2, [2]), (1, [1, 3, 4]), (4, [1, 3, 4, 12, 13, 14]), (18, [1, 3, 4, 12, 13, 14]), (33, [1, 3, 4])], [(18, [.dat true 3 []])], [], 0, 0⟩
def St0 (x0 : List Int × List (List Int × List Int × Unit) × Unit) : St := stL 59 [(0, .data (.pair (.arr 4 (.int .u64)) (.pair (.sl (.pair (.arr 32 (.int .u8)) (.pair (.arr 4 (.int .u64)) .unit))) .unit)) x0)] []
def St1 (x2 : Int) : St := stL 59 [(2, .data (.int .i64) x2)] []
def St2 (x3 : List Int) (x4 : Bool) (x12 : List (List Int × List Int × Unit)) (x13 : Int) (x14 : Int) (c1 : List Int × List (List Int × List Int × Unit) × Unit) : St := stL 59 [(1, .ref 1 0 []), (3, .data (.sl (.int .u64)) x3), (4, .data .bool x4), (12, .data (.sl (.pair (.arr 32 (.int .u8)) (.pair (.arr 4 (.int .u64)) .unit))) x12), (13, .data (.int .i64) x13), (14, .data (.int .i64) x14)] [(1, .cell (.pair (.arr 4 (.int .u64)) (.pair (.sl (.pair (.arr 32 (.int .u8)) (.pair (.arr 4 (.int .u64)) .unit))) .unit)) (.data (.pair (.arr 4 (.int .u64)) (.pair (.sl (.pair (.arr 32 (.int .u8)) (.pair (.arr 4 (.int .u64)) .unit))) .unit)) c1) false)]
noncomputable def cd0 : Code := cL (cL (cR (cL (cR (cR (cR (cR (cB Try.f68))))))))
def St3 (x3 : List Int) (x4 : Bool) (c1 : List Int × List (List Int × List Int × Unit) × Unit) : St := stL 59 [(1, .ref 1 0 []), (3, .data (.sl (.int .u64)) x3), (4, .data .bool x4)] [(1, .cell (.pair (.arr 4 (.int .u64)) (.pair (.sl (.pair (.arr 32 (.int .u8)) (.pair (.arr 4 (.int .u64)) .unit))) .unit)) (.data (.pair (.arr 4 (.int .u64)) (.pair (.sl (.pair (.arr 32 (.int .u8)) (.pair (.arr 4 (.int .u64)) .unit))) .unit)) c1) false)]
def l0s {α : Type} (Nx : (List Int) → Bool → (List (List Int × List Int × Unit)) → Int → Int → (List Int × List (List Int × List Int × Unit) × Unit) → Option α) (Xt0 : (List Int) → Bool → (List Int × List (List Int × List Int × Unit) × Unit) → Option α) (x3 : List Int) (x4 : Bool) (x12 : List (List Int × List Int × Unit)) (x13 : Int) (x14 : Int) (c1 : List Int × List (List Int × List Int × Unit) × Unit) : Option α :=
  if (decide (x14 < x13)) = true then
    if 0 ≤ x14 ∧ x14 < (x12.length : Int) then
      (if (x4 == true) = true then Go.Bx.basculeref_isZero.run (List.getD x12 (Int.toNat x14) ((List.replicate 32 0), [0, 0, 0, 0], ())).2.1 else some false).bind fun y1 =>
      cond (decide (0 ≤ (IntKind.i64.wrap (x14 - 1)) ∧ (IntKind.i64.wrap (x14 - 1)) < (c1.2.1.length : Int)) || !((x14 == 0) == false)) (
        (if ((x14 == 0) == false) = true then Go.Bx.basculeref_before.run (List.getD c1.2.1 (Int.toNat (IntKind.i64.wrap (x14 - 1))) ((List.replicate 32 0), [0, 0, 0, 0], ())).1 (List.getD x12 (Int.toNat x14) ((List.replicate 32 0), [0, 0, 0, 0], ())).1 else some false).bind fun y2 =>
        (Go.Bx.basculeref_of.run (List.getD x12 (Int.toNat x14) ((List.replicate 32 0), [0, 0, 0, 0], ())).2.1).bind fun y3 =>
        (Go.Bx.basculeref_plus.run x3 y3).bind fun y4 =>
        (Go.Bx.basculeref_shorn.run y4).bind fun y5 =>
        Nx y5 (cond (cond x4 (not y1) false) (cond (x14 == 0) true y2) false) x12 x13 (IntKind.i64.wrap (x14 + 1)) c1) none
    else none
  else
    Xt0 x3 x4 c1
theorem l0s_eq {α : Type} (k : Nat) (next : St → Option α) (Q : Ex → St → Option α) (x3 : List Int) (x4 : Bool) (x12 : List (List Int × List Int × Unit)) (x13 : Int) (x14 : Int) (c1 : List Int × List (List Int × List Int × Unit) × Unit) :
    rnd C k cd0 18 Q next (St2 x3 x4 x12 x13 x14 c1) = l0s (fun (x3 : List Int) (x4 : Bool) (x12 : List (List Int × List Int × Unit)) (x13 : Int) (x14 : Int) (c1 : List Int × List (List Int × List Int × Unit) × Unit) => next (St2 x3 x4 x12 x13 x14 c1)) (fun (x3 : List Int) (x4 : Bool) (c1 : List Int × List (List Int × List Int × Unit) × Unit) => Q (.exit 0) (St3 x3 x4 c1)) x3 x4 x12 x13 x14 c1 := by
  have h : ∀ (D L : DT α), denJ D L Js C cd0 (lq C 18 next Q) (St2 x3 x4 x12 x13 x14 c1) =
        if (decide (x14 < x13)) = true then
          if 0 ≤ x14 ∧ x14 < (x12.length : Int) then
            (if (x4 == true) = true then Go.Bx.basculeref_isZero.run (List.getD x12 (Int.toNat x14) ((List.replicate 32 0), [0, 0, 0, 0], ())).2.1 else some false).bind fun y1 =>
            cond (decide (0 ≤ (IntKind.i64.wrap (x14 - 1)) ∧ (IntKind.i64.wrap (x14 - 1)) < (c1.2.1.length : Int)) || !((x14 == 0) == false)) (
              (if ((x14 == 0) == false) = true then Go.Bx.basculeref_before.run (List.getD c1.2.1 (Int.toNat (IntKind.i64.wrap (x14 - 1))) ((List.replicate 32 0), [0, 0, 0, 0], ())).1 (List.getD x12 (Int.toNat x14) ((List.replicate 32 0), [0, 0, 0, 0], ())).1 else some false).bind fun y2 =>
              (Go.Bx.basculeref_of.run (List.getD x12 (Int.toNat x14) ((List.replicate 32 0), [0, 0, 0, 0], ())).2.1).bind fun y3 =>
              (Go.Bx.basculeref_plus.run x3 y3).bind fun y4 =>
              (Go.Bx.basculeref_shorn.run y4).bind fun y5 =>
              next (St2 y5 (cond (cond x4 (not y1) false) (cond (x14 == 0) true y2) false) x12 x13 (IntKind.i64.wrap (x14 + 1)) c1)) none
          else none
        else
          Q (.exit 0) (St3 x3 x4 c1) := by
    intro D L; kernel_rfl
  refine (show rnd C k cd0 18 Q next (St2 x3 x4 x12 x13 x14 c1) = denJ (den C k) (lp C k) Js C cd0 (lq C 18 next Q) (St2 x3 x4 x12 x13 x14 c1) from (denJ_den _ _ _ _ _ _).symm).trans ((h (den C k) (lp C k)).trans ?_)
  first | rfl | kernel_rfl
def l0 {α : Type} (k : Nat) (Xt0 : (List Int) → Bool → (List Int × List (List Int × List Int × Unit) × Unit) → Option α) : Nat → (List Int) → Bool → (List (List Int × List Int × Unit)) → Int → Int → (List Int × List (List Int × List Int × Unit) × Unit) → Option α
  | 0, _, _, _, _, _, _ => none
  | n + 1, x3, x4, x12, x13, x14, c1 => l0s (l0 k Xt0 n) Xt0 x3 x4 x12 x13 x14 c1
theorem l0_eq {α : Type} (k : Nat) (Q : Ex → St → Option α) : ∀ (n : Nat) (x3 : List Int) (x4 : Bool) (x12 : List (List Int × List Int × Unit)) (x13 : Int) (x14 : Int) (c1 : List Int × List (List Int × List Int × Unit) × Unit), iter (rnd C k cd0 18 Q) n (St2 x3 x4 x12 x13 x14 c1) = l0 k (fun (x3 : List Int) (x4 : Bool) (c1 : List Int × List (List Int × List Int × Unit) × Unit) => Q (.exit 0) (St3 x3 x4 c1)) n x3 x4 x12 x13 x14 c1
  | 0, _, _, _, _, _, _ => rfl
  | n + 1, x3, x4, x12, x13, x14, c1 => (iter_succ _ _ _).trans ((l0s_eq k (iter (rnd C k cd0 18 Q) n) Q x3 x4 x12 x13 x14 c1).trans (congrArg (fun N => l0s N (fun (x3 : List Int) (x4 : Bool) (c1 : List Int × List (List Int × List Int × Unit) × Unit) => Q (.exit 0) (St3 x3 x4 c1)) x3 x4 x12 x13 x14 c1) (funext fun x3 => funext fun x4 => funext fun x12 => funext fun x13 => funext fun x14 => funext fun c1 => l0_eq k Q n x3 x4 x12 x13 x14 c1)))
theorem l0_congr {α : Type} (k : Nat) (Xt0 : (List Int) → Bool → (List Int × List (List Int × List Int × Unit) × Unit) → Option α) (Xt0q : (List Int) → Bool → (List Int × List (List Int × List Int × Unit) × Unit) → Option α) (hXt0 : ∀ (x3 : List Int) (x4 : Bool) (c1 : List Int × List (List Int × List Int × Unit) × Unit), Xt0 x3 x4 c1 = Xt0q x3 x4 c1) (n : Nat) (x3 : List Int) (x4 : Bool) (x12 : List (List Int × List Int × Unit)) (x13 : Int) (x14 : Int) (c1 : List Int × List (List Int × List Int × Unit) × Unit) : l0 k Xt0 n x3 x4 x12 x13 x14 c1 = l0 k Xt0q n x3 x4 x12 x13 x14 c1 := by
  obtain rfl : Xt0 = Xt0q := by funext x3; funext x4; funext c1; exact hXt0 x3 x4 c1
  rfl
noncomputable def cd1 : Code := cR (cR (cR (cR (cR (cB Try.f68)))))
def St4 (x3 : List Int) (x4 : Bool) (c1 : List Int × List (List Int × List Int × Unit) × Unit) : St := stL 59 [(1, .ref 1 0 []), (3, .data (.sl (.int .u64)) x3), (4, .data .bool x4)] [(1, .cell (.pair (.arr 4 (.int .u64)) (.pair (.sl (.pair (.arr 32 (.int .u8)) (.pair (.arr 4 (.int .u64)) .unit))) .unit)) (.data (.pair (.arr 4 (.int .u64)) (.pair (.sl (.pair (.arr 32 (.int .u8)) (.pair (.arr 4 (.int .u64)) .unit))) .unit)) c1) false)]
def j0 {α : Type} (Rt : Int → Option α) (x3 : List Int) (x4 : Bool) (c1 : List Int × List (List Int × List Int × Unit) × Unit) : Option α :=
  (if ((not x4) == false) = true then Go.Bx.basculeref_of.run c1.1 else some []).bind fun y6 =>
  (if ((not x4) == false) = true then Go.Bx.basculeref_compare.run x3 y6 else some 0).bind fun y7 =>
  if (cond (not x4) true (y7 != 0)) = true then
    Rt 12
  else
    Rt 0
theorem j0_eq {α : Type} (k : Nat) (Q : Ex → St → Option α) (x3 : List Int) (x4 : Bool) (c1 : List Int × List (List Int × List Int × Unit) × Unit) :
    (den C k) cd1 Q (St4 x3 x4 c1) = j0 (fun (x2 : Int) => Q .ret (St1 x2)) x3 x4 c1 := by
  have h : ∀ (D L : DT α), denJ D L Js C cd1 Q (St4 x3 x4 c1) =
        (if ((not x4) == false) = true then Go.Bx.basculeref_of.run c1.1 else some []).bind fun y6 =>
        (if ((not x4) == false) = true then Go.Bx.basculeref_compare.run x3 y6 else some 0).bind fun y7 =>
        if (cond (not x4) true (y7 != 0)) = true then
          Q .ret (St1 12)
        else
          Q .ret (St1 0) := by
    intro D L; kernel_rfl
  refine (show (den C k) cd1 Q (St4 x3 x4 c1) = denJ (den C k) (lp C k) Js C cd1 Q (St4 x3 x4 c1) from (denJ_den _ _ _ _ _ _).symm).trans ((h (den C k) (lp C k)).trans ?_)
  first | rfl | kernel_rfl
theorem a0 {α : Type} (k : Nat) (Q : Ex → St → Option α) (x3 : List Int) (x4 : Bool) (x12 : List (List Int × List Int × Unit)) (x13 : Int) (x14 : Int) (c1 : List Int × List (List Int × List Int × Unit) × Unit) :
    (lp C k) cd0 (blkQ C 0 (sq (den C k) (lp C k) Js C cd1 Q)) (St2 x3 x4 x12 x13 x14 c1) = l0 k (fun (x3 : List Int) (x4 : Bool) (c1 : List Int × List (List Int × List Int × Unit) × Unit) => j0 (fun (x2 : Int) => Q .ret (St1 x2)) x3 x4 c1) k x3 x4 x12 x13 x14 c1 :=
  (show (lp C k) cd0 (blkQ C 0 (sq (den C k) (lp C k) Js C cd1 Q)) (St2 x3 x4 x12 x13 x14 c1) = iter (rnd C k cd0 18 (blkQ C 0 (sq (den C k) (lp C k) Js C cd1 Q))) k (St2 x3 x4 x12 x13 x14 c1) by kernel_rfl).trans ((l0_eq k (blkQ C 0 (sq (den C k) (lp C k) Js C cd1 Q)) k x3 x4 x12 x13 x14 c1).trans (l0_congr k _ _ (fun x3 x4 c1 => ((show (blkQ C 0 (sq (den C k) (lp C k) Js C cd1 Q)) (.exit 0) (St3 x3 x4 c1) = (den C k) cd1 Q (St4 x3 x4 c1) by kernel_rfl).trans (by simp only [j0_eq]))) k x3 x4 x12 x13 x14 c1))
def top {α : Type} (k : Nat) (Rt : Int → Option α) (x0 : List Int × List (List Int × List Int × Unit) × Unit) : Option α :=
  if (decide ((x0.2.1.length : Int) > 40)) = true then
    Rt 1
  else
    l0 k (fun (x3 : List Int) (x4 : Bool) (c1 : List Int × List (List Int × List Int × Unit) × Unit) => j0 Rt x3 x4 c1) k [] true x0.2.1 (x0.2.1.length : Int) 0 x0
theorem top_eq {α : Type} (k : Nat) (Q : Ex → St → Option α) (x0 : List Int × List (List Int × List Int × Unit) × Unit) :
    (den C k) (cB Try.f68) Q (St0 x0) = top k (fun (x2 : Int) => Q .ret (St1 x2)) x0 := by
  have h : ∀ (D L : DT α), denJ D L Js C (cB Try.f68) Q (St0 x0) =
        if (decide ((x0.2.1.length : Int) > 40)) = true then
          Q .ret (St1 1)
        else
          L cd0 (blkQ C 0 (sq D L Js C cd1 Q)) (St2 [] true x0.2.1 (x0.2.1.length : Int) 0 x0) := by
    intro D L; kernel_rfl
  refine (show (den C k) (cB Try.f68) Q (St0 x0) = denJ (den C k) (lp C k) Js C (cB Try.f68) Q (St0 x0) from (denJ_den _ _ _ _ _ _).symm).trans ((h (den C k) (lp C k)).trans ?_)
  simp only [a0]
  first | rfl | kernel_rfl
def run (x0 : List Int × List (List Int × List Int × Unit) × Unit) : Option (Int) := top (α := Int) fuel (fun (x2 : Int) => some x2) x0
def F : Fn := ⟨(.pair (.pair (.arr 4 (.int .u64)) (.pair (.sl (.pair (.arr 32 (.int .u8)) (.pair (.arr 4 (.int .u64)) .unit))) .unit)) .unit), (.int .i64), false, fun x => run x.1⟩
set_option maxRecDepth 100000 in
theorem con : Con Try.prog 68 F := by
  refine con_of_den (C := C) (ctx_ok (by kernel_rfl) (by kernel_rfl) (by kernel_rfl) (by kernel_rfl) ⟨.inl ⟨Go.Bx.basculeref_isZero.con, Go.Bx.basculeref_isZero.named⟩, ⟨.inl ⟨Go.Bx.basculeref_plus.con, Go.Bx.basculeref_plus.named⟩, ⟨.inl ⟨Go.Bx.basculeref_of.con, Go.Bx.basculeref_of.named⟩, ⟨.inl ⟨Go.Bx.basculeref_compare.con, Go.Bx.basculeref_compare.named⟩, ⟨.inl ⟨Go.Bx.basculeref_before.con, Go.Bx.basculeref_before.named⟩, ⟨.inl ⟨Go.Bx.basculeref_shorn.con, Go.Bx.basculeref_shorn.named⟩, trivial⟩⟩⟩⟩⟩⟩) (by kernel_rfl) Try.func68 (c := cB Try.f68) (by kernel_rfl) (by kernel_rfl) F fuel (fun x => by simp [F, spread, Try.ntmps68]) ?_
  intro x r h
  rw [← h]
  have h1 : start F Try.f68.ntmps x = (St0 x.1) := by kernel_rfl
  rw [h1]
  refine (top_eq fuel (fin C Try.f68.results.toList F.rs F.multi) x.1).trans ?_
  kernel_rfl
theorem named : Named Try.prog 68 := named_of Try.func68 (by kernel_rfl) (by kernel_rfl)
end Go.Bx.basculeref_CoinFault
namespace Go.Bx.sets_keys
open Go Go.Proofs Go.Bx
set_option maxRecDepth 100000
set_option linter.unusedVariables false
def Js : List Nat := [13, 14]
def C : Ctx := ⟨[(31, (.int .i64)), (34, (.sl (.arr 20 (.int .u8)))), (178, (.arr 20 (.int .u8)))], [], [], fnL [], noSh, [], invL [], [(2, [2]), (1, []), (4, [0, 15, 16, 17]), (7, [0, 15, 16, 17]), (10, [0, 4, 15, 16, 17, 24, 25, 26]), (12, [0, 15, 16, 17]), (21, [0, 4, 15, 16, 17, 24, 25, 26]), (36, [0, 15, 16, 17]), (39, [])], [], [], 0, 0⟩
def St0 (x0 : List (List Int)) : St := stL 35 [(0, .data (.sl (.arr 20 (.int .u8))) x0)] []
def St1 (x2 : Int) : St := stL 35 [(2, .data (.int .i64) x2)] []
def St2 (x0 : List (List Int)) (x15 : List (List Int)) (x16 : Int) (x17 : Int) : St := stL 35 [(0, .data (.sl (.arr 20 (.int .u8))) x0), (15, .data (.sl (.arr 20 (.int .u8))) x15), (16, .data (.int .i64) x16), (17, .data (.int .i64) x17)] []
noncomputable def cd0 : Code := cL (cL (cR (cL (cR (cR (cB Try.f135))))))
def St3 (x0 : List (List Int)) (x15 : List (List Int)) (x16 : Int) (x17 : Int) (x24 : List (List Int)) (x25 : Int) (x26 : Int) (c4 : List Int) : St := stL 35 [(0, .data (.sl (.arr 20 (.int .u8))) x0), (4, .ref 4 0 []), (15, .data (.sl (.arr 20 (.int .u8))) x15), (16, .data (.int .i64) x16), (17, .data (.int .i64) x17), (24, .data (.sl (.arr 20 (.int .u8))) x24), (25, .data (.int .i64) x25), (26, .data (.int .i64) x26)] [(4, .cell (.arr 20 (.int .u8)) (.data (.arr 20 (.int .u8)) c4) false)]
noncomputable def cd1 : Code := cL (cL (cR (cR (cL (cL (cR (cR (cL (cL (cR (cL (cR (cR (cB Try.f135))))))))))))))
def St4 (x0 : List (List Int)) (x15 : List (List Int)) (x16 : Int) (x17 : Int) : St := stL 35 [(0, .data (.sl (.arr 20 (.int .u8))) x0), (15, .data (.sl (.arr 20 (.int .u8))) x15), (16, .data (.int .i64) x16), (17, .data (.int .i64) x17)] []
def l1s {α : Type} (Nx : (List (List Int)) → (List (List Int)) → Int → Int → (List (List Int)) → Int → Int → (List Int) → Option α) (Rt : Int → Option α) (Xt2 : (List (List Int)) → (List (List Int)) → Int → Int → Option α) (x0 : List (List Int)) (x15 : List (List Int)) (x16 : Int) (x17 : Int) (x24 : List (List Int)) (x25 : Int) (x26 : Int) (c4 : List Int) : Option α :=
  if (decide (x26 < x25)) = true then
    if 0 ≤ x26 ∧ x26 < (x24.length : Int) then
      if (beqD (.arr 20 (.int .u8)) c4 (List.getD x24 (Int.toNat x26) (List.replicate 20 0))) = true then
        Rt 8
      else
        Nx x0 x15 x16 x17 x24 x25 (IntKind.i64.wrap (x26 + 1)) c4
    else none
  else
    Xt2 x0 x15 x16 x17
theorem l1s_eq {α : Type} (k : Nat) (next : St → Option α) (Q : Ex → St → Option α) (x0 : List (List Int)) (x15 : List (List Int)) (x16 : Int) (x17 : Int) (x24 : List (List Int)) (x25 : Int) (x26 : Int) (c4 : List Int) :
    rnd C k cd1 21 Q next (St3 x0 x15 x16 x17 x24 x25 x26 c4) = l1s (fun (x0 : List (List Int)) (x15 : List (List Int)) (x16 : Int) (x17 : Int) (x24 : List (List Int)) (x25 : Int) (x26 : Int) (c4 : List Int) => next (St3 x0 x15 x16 x17 x24 x25 x26 c4)) (fun (x2 : Int) => Q .ret (St1 x2)) (fun (x0 : List (List Int)) (x15 : List (List Int)) (x16 : Int) (x17 : Int) => Q (.exit 2) (St4 x0 x15 x16 x17)) x0 x15 x16 x17 x24 x25 x26 c4 := by
  have h : ∀ (D L : DT α), denJ D L Js C cd1 (lq C 21 next Q) (St3 x0 x15 x16 x17 x24 x25 x26 c4) =
        if (decide (x26 < x25)) = true then
          if 0 ≤ x26 ∧ x26 < (x24.length : Int) then
            if (beqD (.arr 20 (.int .u8)) c4 (List.getD x24 (Int.toNat x26) (List.replicate 20 0))) = true then
              Q .ret (St1 8)
            else
              next (St3 x0 x15 x16 x17 x24 x25 (IntKind.i64.wrap (x26 + 1)) c4)
          else none
        else
          Q (.exit 2) (St4 x0 x15 x16 x17) := by
    intro D L; kernel_rfl
  refine (show rnd C k cd1 21 Q next (St3 x0 x15 x16 x17 x24 x25 x26 c4) = denJ (den C k) (lp C k) Js C cd1 (lq C 21 next Q) (St3 x0 x15 x16 x17 x24 x25 x26 c4) from (denJ_den _ _ _ _ _ _).symm).trans ((h (den C k) (lp C k)).trans ?_)
  first | rfl | kernel_rfl
def l1 {α : Type} (k : Nat) (Rt : Int → Option α) (Xt2 : (List (List Int)) → (List (List Int)) → Int → Int → Option α) : Nat → (List (List Int)) → (List (List Int)) → Int → Int → (List (List Int)) → Int → Int → (List Int) → Option α
  | 0, _, _, _, _, _, _, _, _ => none
  | n + 1, x0, x15, x16, x17, x24, x25, x26, c4 => l1s (l1 k Rt Xt2 n) Rt Xt2 x0 x15 x16 x17 x24 x25 x26 c4
theorem l1_eq {α : Type} (k : Nat) (Q : Ex → St → Option α) : ∀ (n : Nat) (x0 : List (List Int)) (x15 : List (List Int)) (x16 : Int) (x17 : Int) (x24 : List (List Int)) (x25 : Int) (x26 : Int) (c4 : List Int), iter (rnd C k cd1 21 Q) n (St3 x0 x15 x16 x17 x24 x25 x26 c4) = l1 k (fun (x2 : Int) => Q .ret (St1 x2)) (fun (x0 : List (List Int)) (x15 : List (List Int)) (x16 : Int) (x17 : Int) => Q (.exit 2) (St4 x0 x15 x16 x17)) n x0 x15 x16 x17 x24 x25 x26 c4
  | 0, _, _, _, _, _, _, _, _ => rfl
  | n + 1, x0, x15, x16, x17, x24, x25, x26, c4 => (iter_succ _ _ _).trans ((l1s_eq k (iter (rnd C k cd1 21 Q) n) Q x0 x15 x16 x17 x24 x25 x26 c4).trans (congrArg (fun N => l1s N (fun (x2 : Int) => Q .ret (St1 x2)) (fun (x0 : List (List Int)) (x15 : List (List Int)) (x16 : Int) (x17 : Int) => Q (.exit 2) (St4 x0 x15 x16 x17)) x0 x15 x16 x17 x24 x25 x26 c4) (funext fun x0 => funext fun x15 => funext fun x16 => funext fun x17 => funext fun x24 => funext fun x25 => funext fun x26 => funext fun c4 => l1_eq k Q n x0 x15 x16 x17 x24 x25 x26 c4)))
theorem l1_congr {α : Type} (k : Nat) (Rt : Int → Option α) (Xt2 : (List (List Int)) → (List (List Int)) → Int → Int → Option α) (Rtq : Int → Option α) (Xt2q : (List (List Int)) → (List (List Int)) → Int → Int → Option α) (hRt : ∀ (x2 : Int), Rt x2 = Rtq x2) (hXt2 : ∀ (x0 : List (List Int)) (x15 : List (List Int)) (x16 : Int) (x17 : Int), Xt2 x0 x15 x16 x17 = Xt2q x0 x15 x16 x17) (n : Nat) (x0 : List (List Int)) (x15 : List (List Int)) (x16 : Int) (x17 : Int) (x24 : List (List Int)) (x25 : Int) (x26 : Int) (c4 : List Int) : l1 k Rt Xt2 n x0 x15 x16 x17 x24 x25 x26 c4 = l1 k Rtq Xt2q n x0 x15 x16 x17 x24 x25 x26 c4 := by
  obtain rfl : Rt = Rtq := by funext x2; exact hRt x2
  obtain rfl : Xt2 = Xt2q := by funext x0; funext x15; funext x16; funext x17; exact hXt2 x0 x15 x16 x17
  rfl
noncomputable def cd2 : Code := cR (cR (cR (cL (cL (cR (cL (cR (cR (cB Try.f135)))))))))
def St5 (x0 : List (List Int)) (x15 : List (List Int)) (x16 : Int) (x17 : Int) : St := stL 35 [(0, .data (.sl (.arr 20 (.int .u8))) x0), (15, .data (.sl (.arr 20 (.int .u8))) x15), (16, .data (.int .i64) x16), (17, .data (.int .i64) x17)] []
def j0 {α : Type} (Nx : (List (List Int)) → (List (List Int)) → Int → Int → Option α) (x0 : List (List Int)) (x15 : List (List Int)) (x16 : Int) (x17 : Int) : Option α :=
  Nx x0 x15 x16 (IntKind.i64.wrap (x17 + 1))
theorem j0_eq {α : Type} (k : Nat) (next : St → Option α) (Q : Ex → St → Option α) (x0 : List (List Int)) (x15 : List (List Int)) (x16 : Int) (x17 : Int) :
    (den C k) cd2 (lq C 12 next Q) (St5 x0 x15 x16 x17) = j0 (fun (x0 : List (List Int)) (x15 : List (List Int)) (x16 : Int) (x17 : Int) => next (St2 x0 x15 x16 x17)) x0 x15 x16 x17 := by
  have h : ∀ (D L : DT α), denJ D L Js C cd2 (lq C 12 next Q) (St5 x0 x15 x16 x17) =
        next (St2 x0 x15 x16 (IntKind.i64.wrap (x17 + 1))) := by
    intro D L; kernel_rfl
  refine (show (den C k) cd2 (lq C 12 next Q) (St5 x0 x15 x16 x17) = denJ (den C k) (lp C k) Js C cd2 (lq C 12 next Q) (St5 x0 x15 x16 x17) from (denJ_den _ _ _ _ _ _).symm).trans ((h (den C k) (lp C k)).trans ?_)
  first | rfl | kernel_rfl
theorem a0 {α : Type} (k : Nat) (next : St → Option α) (Q : Ex → St → Option α) (x0 : List (List Int)) (x15 : List (List Int)) (x16 : Int) (x17 : Int) (x24 : List (List Int)) (x25 : Int) (x26 : Int) (c4 : List Int) :
    (lp C k) cd1 (blkQ C 2 (blkQ C 1 (sq (den C k) (lp C k) Js C cd2 (lq C 12 next Q)))) (St3 x0 x15 x16 x17 x24 x25 x26 c4) = l1 k (fun (x2 : Int) => (fun (x2 : Int) => Q .ret (St1 x2)) x2) (fun (x0 : List (List Int)) (x15 : List (List Int)) (x16 : Int) (x17 : Int) => j0 (fun (x0 : List (List Int)) (x15 : List (List Int)) (x16 : Int) (x17 : Int) => next (St2 x0 x15 x16 x17)) x0 x15 x16 x17) k x0 x15 x16 x17 x24 x25 x26 c4 :=
  (show (lp C k) cd1 (blkQ C 2 (blkQ C 1 (sq (den C k) (lp C k) Js C cd2 (lq C 12 next Q)))) (St3 x0 x15 x16 x17 x24 x25 x26 c4) = iter (rnd C k cd1 21 (blkQ C 2 (blkQ C 1 (sq (den C k) (lp C k) Js C cd2 (lq C 12 next Q))))) k (St3 x0 x15 x16 x17 x24 x25 x26 c4) by kernel_rfl).trans ((l1_eq k (blkQ C 2 (blkQ C 1 (sq (den C k) (lp C k) Js C cd2 (lq C 12 next Q)))) k x0 x15 x16 x17 x24 x25 x26 c4).trans (l1_congr k _ _ _ _ (fun x2 => (show (blkQ C 2 (blkQ C 1 (sq (den C k) (lp C k) Js C cd2 (lq C 12 next Q)))) .ret (St1 x2) = Q .ret (St1 x2) by kernel_rfl)) (fun x0 x15 x16 x17 => ((show (blkQ C 2 (blkQ C 1 (sq (den C k) (lp C k) Js C cd2 (lq C 12 next Q)))) (.exit 2) (St4 x0 x15 x16 x17) = (den C k) cd2 (lq C 12 next Q) (St5 x0 x15 x16 x17) by kernel_rfl).trans (by simp only [j0_eq]))) k x0 x15 x16 x17 x24 x25 x26 c4))
def St6 : St := stL 35 [] []
def l0s {α : Type} (k : Nat) (Nx : (List (List Int)) → (List (List Int)) → Int → Int → Option α) (Rt : Int → Option α) (Xt0 : Option α) (x0 : List (List Int)) (x15 : List (List Int)) (x16 : Int) (x17 : Int) : Option α :=
  if (decide (x17 < x16)) = true then
    if 0 ≤ x17 ∧ x17 < (x15.length : Int) then
      if 0 ≤ (0 : Int) ∧ (0 : Int) ≤ x17 ∧ x17 ≤ (x0.length : Int) then
        l1 k (fun (x2 : Int) => Rt x2) (fun (x0 : List (List Int)) (x15 : List (List Int)) (x16 : Int) (x17 : Int) => j0 Nx x0 x15 x16 x17) k x0 x15 x16 x17 (cutL x0 0 x17) ((cutL x0 0 x17).length : Int) 0 (List.getD x15 (Int.toNat x17) (List.replicate 20 0))
      else none
    else none
  else
    Xt0
theorem l0s_eq {α : Type} (k : Nat) (next : St → Option α) (Q : Ex → St → Option α) (x0 : List (List Int)) (x15 : List (List Int)) (x16 : Int) (x17 : Int) :
    rnd C k cd0 12 Q next (St2 x0 x15 x16 x17) = l0s k (fun (x0 : List (List Int)) (x15 : List (List Int)) (x16 : Int) (x17 : Int) => next (St2 x0 x15 x16 x17)) (fun (x2 : Int) => Q .ret (St1 x2)) (Q (.exit 0) St6) x0 x15 x16 x17 := by
  have h : ∀ (D L : DT α), denJ D L Js C cd0 (lq C 12 next Q) (St2 x0 x15 x16 x17) =
        if (decide (x17 < x16)) = true then
          if 0 ≤ x17 ∧ x17 < (x15.length : Int) then
            if 0 ≤ (0 : Int) ∧ (0 : Int) ≤ x17 ∧ x17 ≤ (x0.length : Int) then
              L cd1 (blkQ C 2 (blkQ C 1 (sq D L Js C cd2 (lq C 12 next Q)))) (St3 x0 x15 x16 x17 (cutL x0 0 x17) ((cutL x0 0 x17).length : Int) 0 (List.getD x15 (Int.toNat x17) (List.replicate 20 0)))
            else none
          else none
        else
          Q (.exit 0) St6 := by
    intro D L; kernel_rfl
  refine (show rnd C k cd0 12 Q next (St2 x0 x15 x16 x17) = denJ (den C k) (lp C k) Js C cd0 (lq C 12 next Q) (St2 x0 x15 x16 x17) from (denJ_den _ _ _ _ _ _).symm).trans ((h (den C k) (lp C k)).trans ?_)
  simp only [a0]
  first | rfl | kernel_rfl
def l0 {α : Type} (k : Nat) (Rt : Int → Option α) (Xt0 : Option α) : Nat → (List (List Int)) → (List (List Int)) → Int → Int → Option α
  | 0, _, _, _, _ => none
  | n + 1, x0, x15, x16, x17 => l0s k (l0 k Rt Xt0 n) Rt Xt0 x0 x15 x16 x17
theorem l0_eq {α : Type} (k : Nat) (Q : Ex → St → Option α) : ∀ (n : Nat) (x0 : List (List Int)) (x15 : List (List Int)) (x16 : Int) (x17 : Int), iter (rnd C k cd0 12 Q) n (St2 x0 x15 x16 x17) = l0 k (fun (x2 : Int) => Q .ret (St1 x2)) (Q (.exit 0) St6) n x0 x15 x16 x17
  | 0, _, _, _, _ => rfl
  | n + 1, x0, x15, x16, x17 => (iter_succ _ _ _).trans ((l0s_eq k (iter (rnd C k cd0 12 Q) n) Q x0 x15 x16 x17).trans (congrArg (fun N => l0s k N (fun (x2 : Int) => Q .ret (St1 x2)) (Q (.exit 0) St6) x0 x15 x16 x17) (funext fun x0 => funext fun x15 => funext fun x16 => funext fun x17 => l0_eq k Q n x0 x15 x16 x17)))
theorem l0_congr {α : Type} (k : Nat) (Rt : Int → Option α) (Xt0 : Option α) (Rtq : Int → Option α) (Xt0q : Option α) (hRt : ∀ (x2 : Int), Rt x2 = Rtq x2) (hXt0 : Xt0 = Xt0q) (n : Nat) (x0 : List (List Int)) (x15 : List (List Int)) (x16 : Int) (x17 : Int) : l0 k Rt Xt0 n x0 x15 x16 x17 = l0 k Rtq Xt0q n x0 x15 x16 x17 := by
  obtain rfl : Rt = Rtq := by funext x2; exact hRt x2
  obtain rfl : Xt0 = Xt0q := hXt0
  rfl
noncomputable def cd3 : Code := cR (cR (cR (cB Try.f135)))
def St7 : St := stL 35 [] []
def j1 {α : Type} (Rt : Int → Option α) : Option α :=
  Rt 0
theorem j1_eq {α : Type} (k : Nat) (Q : Ex → St → Option α) :
    (den C k) cd3 Q St7 = j1 (fun (x2 : Int) => Q .ret (St1 x2)) := by
  have h : ∀ (D L : DT α), denJ D L Js C cd3 Q St7 =
        Q .ret (St1 0) := by
    intro D L; kernel_rfl
  refine (show (den C k) cd3 Q St7 = denJ (den C k) (lp C k) Js C cd3 Q St7 from (denJ_den _ _ _ _ _ _).symm).trans ((h (den C k) (lp C k)).trans ?_)
  first | rfl | kernel_rfl
theorem a1 {α : Type} (k : Nat) (Q : Ex → St → Option α) (x0 : List (List Int)) (x15 : List (List Int)) (x16 : Int) (x17 : Int) :
    (lp C k) cd0 (blkQ C 0 (sq (den C k) (lp C k) Js C cd3 Q)) (St2 x0 x15 x16 x17) = l0 k (fun (x2 : Int) => (fun (x2 : Int) => Q .ret (St1 x2)) x2) (j1 (fun (x2 : Int) => Q .ret (St1 x2))) k x0 x15 x16 x17 :=
  (show (lp C k) cd0 (blkQ C 0 (sq (den C k) (lp C k) Js C cd3 Q)) (St2 x0 x15 x16 x17) = iter (rnd C k cd0 12 (blkQ C 0 (sq (den C k) (lp C k) Js C cd3 Q))) k (St2 x0 x15 x16 x17) by kernel_rfl).trans ((l0_eq k (blkQ C 0 (sq (den C k) (lp C k) Js C cd3 Q)) k x0 x15 x16 x17).trans (l0_congr k _ _ _ _ (fun x2 => (show (blkQ C 0 (sq (den C k) (lp C k) Js C cd3 Q)) .ret (St1 x2) = Q .ret (St1 x2) by kernel_rfl)) ((show (blkQ C 0 (sq (den C k) (lp C k) Js C cd3 Q)) (.exit 0) St6 = (den C k) cd3 Q St7 by kernel_rfl).trans (by simp only [j1_eq])) k x0 x15 x16 x17))
def top {α : Type} (k : Nat) (Rt : Int → Option α) (x0 : List (List Int)) : Option α :=
  if (cond (decide ((x0.length : Int) < 1)) true (decide ((x0.length : Int) > 19))) = true then
    Rt 1
  else
    l0 k (fun (x2 : Int) => Rt x2) (j1 Rt) k x0 x0 (x0.length : Int) 0
theorem top_eq {α : Type} (k : Nat) (Q : Ex → St → Option α) (x0 : List (List Int)) :
    (den C k) (cB Try.f135) Q (St0 x0) = top k (fun (x2 : Int) => Q .ret (St1 x2)) x0 := by
  have h : ∀ (D L : DT α), denJ D L Js C (cB Try.f135) Q (St0 x0) =
        if (cond (decide ((x0.length : Int) < 1)) true (decide ((x0.length : Int) > 19))) = true then
          Q .ret (St1 1)
        else
          L cd0 (blkQ C 0 (sq D L Js C cd3 Q)) (St2 x0 x0 (x0.length : Int) 0) := by
    intro D L; kernel_rfl
  refine (show (den C k) (cB Try.f135) Q (St0 x0) = denJ (den C k) (lp C k) Js C (cB Try.f135) Q (St0 x0) from (denJ_den _ _ _ _ _ _).symm).trans ((h (den C k) (lp C k)).trans ?_)
  simp only [a1]
  first | rfl | kernel_rfl
def run (x0 : List (List Int)) : Option (Int) := top (α := Int) fuel (fun (x2 : Int) => some x2) x0
def F : Fn := ⟨(.pair (.sl (.arr 20 (.int .u8))) .unit), (.int .i64), false, fun x => run x.1⟩
set_option maxRecDepth 100000 in
theorem con : Con Try.prog 135 F := by
  refine con_of_den (C := C) (ctx_ok (by kernel_rfl) (by kernel_rfl) (by kernel_rfl) (by kernel_rfl) trivial) (by kernel_rfl) Try.func135 (c := cB Try.f135) (by kernel_rfl) (by kernel_rfl) F fuel (fun x => by simp [F, spread, Try.ntmps135]) ?_
  intro x r h
  rw [← h]
  have h1 : start F Try.f135.ntmps x = (St0 x.1) := by kernel_rfl
  rw [h1]
  refine (top_eq fuel (fin C Try.f135.results.toList F.rs F.multi) x.1).trans ?_
  kernel_rfl
theorem named : Named Try.prog 135 := named_of Try.func135 (by kernel_rfl) (by kernel_rfl)
end Go.Bx.sets_keys
namespace Go.Bx.basculeref_keysFault
open Go Go.Proofs Go.Bx
set_option maxRecDepth 100000
set_option linter.unusedVariables false
def Js : List Nat := [10]
def C : Ctx := ⟨[(3, (.int .i64)), (31, (.int .i64)), (34, (.sl (.arr 20 (.int .u8)))), (178, (.arr 20 (.int .u8)))], [], [(199, (178, 3))], fnL [], noSh, [], invL [], [(2, [2]), (1, [0, 3]), (4, [0, 3, 15, 16, 17]), (15, [0, 3, 15, 16, 17]), (27, [0, 3])], [], [], 0, 0⟩
def St0 (x0 : List (List Int)) : St := stL 33 [(0, .data (.sl (.arr 20 (.int .u8))) x0)] []
def St1 (x2 : Int) : St := stL 33 [(2, .data (.int .i64) x2)] []
def St2 (x0 : List (List Int)) (x15 : List (List Int)) (x16 : Int) (x17 : Int) (c14 : List (List Int × Int)) : St := stL 33 [(0, .data (.sl (.arr 20 (.int .u8))) x0), (3, .map 14), (15, .data (.sl (.arr 20 (.int .u8))) x15), (16, .data (.int .i64) x16), (17, .data (.int .i64) x17)] [(14, .map (.arr 20 (.int .u8)) (.int .i64) c14)]
noncomputable def cd0 : Code := cL (cL (cR (cL (cR (cR (cR (cB Try.f138)))))))
def St3 (x0 : List (List Int)) (c14 : List (List Int × Int)) : St := stL 33 [(0, .data (.sl (.arr 20 (.int .u8))) x0), (3, .map 14)] [(14, .map (.arr 20 (.int .u8)) (.int .i64) c14)]
def l0s {α : Type} (Nx : (List (List Int)) → (List (List Int)) → Int → Int → (List (List Int × Int)) → Option α) (Xt0 : (List (List Int)) → (List (List Int × Int)) → Option α) (x0 : List (List Int)) (x15 : List (List Int)) (x16 : Int) (x17 : Int) (c14 : List (List Int × Int)) : Option α :=
  if (decide (x17 < x16)) = true then
    if 0 ≤ x17 ∧ x17 < (x15.length : Int) then
      if Nat.blt c14.length 9223372036854775807 = true then
        if 0 ≤ (((idxM (beqD (.arr 20 (.int .u8))) (List.getD x15 (Int.toNat x17) (List.replicate 20 0)) c14) : Nat) : Int) ∧ (((idxM (beqD (.arr 20 (.int .u8))) (List.getD x15 (Int.toNat x17) (List.replicate 20 0)) c14) : Nat) : Int) < ((entM (beqD (.arr 20 (.int .u8))) (List.getD x15 (Int.toNat x17) (List.replicate 20 0)) 0 c14).length : Int) then
          Nx x0 x15 x16 (IntKind.i64.wrap (x17 + 1)) (putM (entM (beqD (.arr 20 (.int .u8))) (List.getD x15 (Int.toNat x17) (List.replicate 20 0)) 0 c14) (Int.toNat (((idxM (beqD (.arr 20 (.int .u8))) (List.getD x15 (Int.toNat x17) (List.replicate 20 0)) c14) : Nat) : Int)) (IntKind.i64.wrap ((getM (beqD (.arr 20 (.int .u8))) (List.getD x15 (Int.toNat x17) (List.replicate 20 0)) 0 c14) + 1)))
        else none
      else none
    else none
  else
    Xt0 x0 c14
theorem l0s_eq {α : Type} (k : Nat) (next : St → Option α) (Q : Ex → St → Option α) (x0 : List (List Int)) (x15 : List (List Int)) (x16 : Int) (x17 : Int) (c14 : List (List Int × Int)) :
    rnd C k cd0 15 Q next (St2 x0 x15 x16 x17 c14) = l0s (fun (x0 : List (List Int)) (x15 : List (List Int)) (x16 : Int) (x17 : Int) (c14 : List (List Int × Int)) => next (St2 x0 x15 x16 x17 c14)) (fun (x0 : List (List Int)) (c14 : List (List Int × Int)) => Q (.exit 0) (St3 x0 c14)) x0 x15 x16 x17 c14 := by
  have h : ∀ (D L : DT α), denJ D L Js C cd0 (lq C 15 next Q) (St2 x0 x15 x16 x17 c14) =
        if (decide (x17 < x16)) = true then
          if 0 ≤ x17 ∧ x17 < (x15.length : Int) then
            if Nat.blt c14.length 9223372036854775807 = true then
              if 0 ≤ (((idxM (beqD (.arr 20 (.int .u8))) (List.getD x15 (Int.toNat x17) (List.replicate 20 0)) c14) : Nat) : Int) ∧ (((idxM (beqD (.arr 20 (.int .u8))) (List.getD x15 (Int.toNat x17) (List.replicate 20 0)) c14) : Nat) : Int) < ((entM (beqD (.arr 20 (.int .u8))) (List.getD x15 (Int.toNat x17) (List.replicate 20 0)) 0 c14).length : Int) then
                next (St2 x0 x15 x16 (IntKind.i64.wrap (x17 + 1)) (putM (entM (beqD (.arr 20 (.int .u8))) (List.getD x15 (Int.toNat x17) (List.replicate 20 0)) 0 c14) (Int.toNat (((idxM (beqD (.arr 20 (.int .u8))) (List.getD x15 (Int.toNat x17) (List.replicate 20 0)) c14) : Nat) : Int)) (IntKind.i64.wrap ((getM (beqD (.arr 20 (.int .u8))) (List.getD x15 (Int.toNat x17) (List.replicate 20 0)) 0 c14) + 1))))
              else none
            else none
          else none
        else
          Q (.exit 0) (St3 x0 c14) := by
    intro D L; kernel_rfl
  refine (show rnd C k cd0 15 Q next (St2 x0 x15 x16 x17 c14) = denJ (den C k) (lp C k) Js C cd0 (lq C 15 next Q) (St2 x0 x15 x16 x17 c14) from (denJ_den _ _ _ _ _ _).symm).trans ((h (den C k) (lp C k)).trans ?_)
  first | rfl | kernel_rfl
def l0 {α : Type} (k : Nat) (Xt0 : (List (List Int)) → (List (List Int × Int)) → Option α) : Nat → (List (List Int)) → (List (List Int)) → Int → Int → (List (List Int × Int)) → Option α
  | 0, _, _, _, _, _ => none
  | n + 1, x0, x15, x16, x17, c14 => l0s (l0 k Xt0 n) Xt0 x0 x15 x16 x17 c14
theorem l0_eq {α : Type} (k : Nat) (Q : Ex → St → Option α) : ∀ (n : Nat) (x0 : List (List Int)) (x15 : List (List Int)) (x16 : Int) (x17 : Int) (c14 : List (List Int × Int)), iter (rnd C k cd0 15 Q) n (St2 x0 x15 x16 x17 c14) = l0 k (fun (x0 : List (List Int)) (c14 : List (List Int × Int)) => Q (.exit 0) (St3 x0 c14)) n x0 x15 x16 x17 c14
  | 0, _, _, _, _, _ => rfl
  | n + 1, x0, x15, x16, x17, c14 => (iter_succ _ _ _).trans ((l0s_eq k (iter (rnd C k cd0 15 Q) n) Q x0 x15 x16 x17 c14).trans (congrArg (fun N => l0s N (fun (x0 : List (List Int)) (c14 : List (List Int × Int)) => Q (.exit 0) (St3 x0 c14)) x0 x15 x16 x17 c14) (funext fun x0 => funext fun x15 => funext fun x16 => funext fun x17 => funext fun c14 => l0_eq k Q n x0 x15 x16 x17 c14)))
theorem l0_congr {α : Type} (k : Nat) (Xt0 : (List (List Int)) → (List (List Int × Int)) → Option α) (Xt0q : (List (List Int)) → (List (List Int × Int)) → Option α) (hXt0 : ∀ (x0 : List (List Int)) (c14 : List (List Int × Int)), Xt0 x0 c14 = Xt0q x0 c14) (n : Nat) (x0 : List (List Int)) (x15 : List (List Int)) (x16 : Int) (x17 : Int) (c14 : List (List Int × Int)) : l0 k Xt0 n x0 x15 x16 x17 c14 = l0 k Xt0q n x0 x15 x16 x17 c14 := by
  obtain rfl : Xt0 = Xt0q := by funext x0; funext c14; exact hXt0 x0 c14
  rfl
noncomputable def cd1 : Code := cR (cR (cR (cR (cB Try.f138))))
def St4 (x0 : List (List Int)) (c14 : List (List Int × Int)) : St := stL 33 [(0, .data (.sl (.arr 20 (.int .u8))) x0), (3, .map 14)] [(14, .map (.arr 20 (.int .u8)) (.int .i64) c14)]
def j0 {α : Type} (Rt : Int → Option α) (x0 : List (List Int)) (c14 : List (List Int × Int)) : Option α :=
  if Nat.ble c14.length 9223372036854775807 = true then
    if (decide ((c14.length : Int) < (x0.length : Int))) = true then
      Rt 8
    else
      Rt 0
  else none
theorem j0_eq {α : Type} (k : Nat) (Q : Ex → St → Option α) (x0 : List (List Int)) (c14 : List (List Int × Int)) :
    (den C k) cd1 Q (St4 x0 c14) = j0 (fun (x2 : Int) => Q .ret (St1 x2)) x0 c14 := by
  have h : ∀ (D L : DT α), denJ D L Js C cd1 Q (St4 x0 c14) =
        if Nat.ble c14.length 9223372036854775807 = true then
          if (decide ((c14.length : Int) < (x0.length : Int))) = true then
            Q .ret (St1 8)
          else
            Q .ret (St1 0)
        else none := by
    intro D L; kernel_rfl
  refine (show (den C k) cd1 Q (St4 x0 c14) = denJ (den C k) (lp C k) Js C cd1 Q (St4 x0 c14) from (denJ_den _ _ _ _ _ _).symm).trans ((h (den C k) (lp C k)).trans ?_)
  first | rfl | kernel_rfl
theorem a0 {α : Type} (k : Nat) (Q : Ex → St → Option α) (x0 : List (List Int)) (x15 : List (List Int)) (x16 : Int) (x17 : Int) (c14 : List (List Int × Int)) :
    (lp C k) cd0 (blkQ C 0 (sq (den C k) (lp C k) Js C cd1 Q)) (St2 x0 x15 x16 x17 c14) = l0 k (fun (x0 : List (List Int)) (c14 : List (List Int × Int)) => j0 (fun (x2 : Int) => Q .ret (St1 x2)) x0 c14) k x0 x15 x16 x17 c14 :=
  (show (lp C k) cd0 (blkQ C 0 (sq (den C k) (lp C k) Js C cd1 Q)) (St2 x0 x15 x16 x17 c14) = iter (rnd C k cd0 15 (blkQ C 0 (sq (den C k) (lp C k) Js C cd1 Q))) k (St2 x0 x15 x16 x17 c14) by kernel_rfl).trans ((l0_eq k (blkQ C 0 (sq (den C k) (lp C k) Js C cd1 Q)) k x0 x15 x16 x17 c14).trans (l0_congr k _ _ (fun x0 c14 => ((show (blkQ C 0 (sq (den C k) (lp C k) Js C cd1 Q)) (.exit 0) (St3 x0 c14) = (den C k) cd1 Q (St4 x0 c14) by kernel_rfl).trans (by simp only [j0_eq]))) k x0 x15 x16 x17 c14))
def top {α : Type} (k : Nat) (Rt : Int → Option α) (x0 : List (List Int)) : Option α :=
  if (cond ((x0.length : Int) == 0) true (decide ((x0.length : Int) > 19))) = true then
    Rt 1
  else
    l0 k (fun (x0 : List (List Int)) (c14 : List (List Int × Int)) => j0 Rt x0 c14) k x0 x0 (x0.length : Int) 0 []
theorem top_eq {α : Type} (k : Nat) (Q : Ex → St → Option α) (x0 : List (List Int)) :
    (den C k) (cB Try.f138) Q (St0 x0) = top k (fun (x2 : Int) => Q .ret (St1 x2)) x0 := by
  have h : ∀ (D L : DT α), denJ D L Js C (cB Try.f138) Q (St0 x0) =
        if (cond ((x0.length : Int) == 0) true (decide ((x0.length : Int) > 19))) = true then
          Q .ret (St1 1)
        else
          L cd0 (blkQ C 0 (sq D L Js C cd1 Q)) (St2 x0 x0 (x0.length : Int) 0 []) := by
    intro D L; kernel_rfl
  refine (show (den C k) (cB Try.f138) Q (St0 x0) = denJ (den C k) (lp C k) Js C (cB Try.f138) Q (St0 x0) from (denJ_den _ _ _ _ _ _).symm).trans ((h (den C k) (lp C k)).trans ?_)
  simp only [a0]
  first | rfl | kernel_rfl
def run (x0 : List (List Int)) : Option (Int) := top (α := Int) fuel (fun (x2 : Int) => some x2) x0
def F : Fn := ⟨(.pair (.sl (.arr 20 (.int .u8))) .unit), (.int .i64), false, fun x => run x.1⟩
set_option maxRecDepth 100000 in
theorem con : Con Try.prog 138 F := by
  refine con_of_den (C := C) (ctx_ok (by kernel_rfl) (by kernel_rfl) (by kernel_rfl) (by kernel_rfl) trivial) (by kernel_rfl) Try.func138 (c := cB Try.f138) (by kernel_rfl) (by kernel_rfl) F fuel (fun x => by simp [F, spread, Try.ntmps138]) ?_
  intro x r h
  rw [← h]
  have h1 : start F Try.f138.ntmps x = (St0 x.1) := by kernel_rfl
  rw [h1]
  refine (top_eq fuel (fin C Try.f138.results.toList F.rs F.multi) x.1).trans ?_
  kernel_rfl
theorem named : Named Try.prog 138 := named_of Try.func138 (by kernel_rfl) (by kernel_rfl)
end Go.Bx.basculeref_keysFault
namespace Go.Bx.sets_Check
open Go Go.Proofs Go.Bx
set_option maxRecDepth 100000
set_option linter.unusedVariables false
def Js : List Nat := [15]
def C : Ctx := ⟨[(3, (.int .i64)), (4, .bool), (22, (.sl (.pair (.int .i64) (.pair (.sl (.arr 20 (.int .u8))) (.pair (.int .i64) .unit))))), (31, (.int .i64)), (34, (.sl (.arr 20 (.int .u8)))), (158, (.pair (.int .i64) (.pair (.sl (.arr 20 (.int .u8))) (.pair (.int .i64) .unit))))], [], [], fnL [(135, Go.Bx.sets_keys.F)], noSh, [], invL [], [(2, [2]), (1, []), (4, [0, 3, 15, 16, 17]), (15, [0, 3, 15, 16, 17]), (42, [])], [], [], 0, 0⟩
def St0 (x0 : List (Int × List (List Int) × Int × Unit)) : St := stL 62 [(0, .data (.sl (.pair (.int .i64) (.pair (.sl (.arr 20 (.int .u8))) (.pair (.int .i64) .unit)))) x0)] []
def St1 (x2 : Int) : St := stL 62 [(2, .data (.int .i64) x2)] []
def St2 (x0 : List (Int × List (List Int) × Int × Unit)) (x3 : Int) (x15 : List (Int × List (List Int) × Int × Unit)) (x16 : Int) (x17 : Int) : St := stL 62 [(0, .data (.sl (.pair (.int .i64) (.pair (.sl (.arr 20 (.int .u8))) (.pair (.int .i64) .unit)))) x0), (3, .data (.int .i64) x3), (15, .data (.sl (.pair (.int .i64) (.pair (.sl (.arr 20 (.int .u8))) (.pair (.int .i64) .unit)))) x15), (16, .data (.int .i64) x16), (17, .data (.int .i64) x17)] []
noncomputable def cd0 : Code := cL (cL (cR (cL (cR (cR (cR (cB Try.f61)))))))
def St3 : St := stL 62 [] []
def l0s {α : Type} (Nx : (List (Int × List (List Int) × Int × Unit)) → Int → (List (Int × List (List Int) × Int × Unit)) → Int → Int → Option α) (Rt : Int → Option α) (Xt0 : Option α) (x0 : List (Int × List (List Int) × Int × Unit)) (x3 : Int) (x15 : List (Int × List (List Int) × Int × Unit)) (x16 : Int) (x17 : Int) : Option α :=
  if (decide (x17 < x16)) = true then
    if 0 ≤ x17 ∧ x17 < (x15.length : Int) then
      (Go.Bx.sets_keys.run (List.getD x15 (Int.toNat x17) (0, [], 0, ())).2.1).bind fun y1 =>
      if (y1 != 0) = true then
        Rt y1
      else
        if (cond (cond (cond ((List.getD x15 (Int.toNat x17) (0, [], 0, ())).1 != x17) true (not (beqD .bool (x17 == (IntKind.i64.wrap ((x0.length : Int) - 1))) ((List.getD x15 (Int.toNat x17) (0, [], 0, ())).2.2.1 == 0)))) true (cond ((List.getD x15 (Int.toNat x17) (0, [], 0, ())).2.2.1 != 0) (decide ((List.getD x15 (Int.toNat x17) (0, [], 0, ())).2.2.1 < x3)) false)) true (decide ((List.getD x15 (Int.toNat x17) (0, [], 0, ())).2.2.1 > 1099511627800))) = true then
          Rt 12
        else
          Nx x0 (List.getD x15 (Int.toNat x17) (0, [], 0, ())).2.2.1 x15 x16 (IntKind.i64.wrap (x17 + 1))
    else none
  else
    Xt0
theorem l0s_eq {α : Type} (k : Nat) (next : St → Option α) (Q : Ex → St → Option α) (x0 : List (Int × List (List Int) × Int × Unit)) (x3 : Int) (x15 : List (Int × List (List Int) × Int × Unit)) (x16 : Int) (x17 : Int) :
    rnd C k cd0 15 Q next (St2 x0 x3 x15 x16 x17) = l0s (fun (x0 : List (Int × List (List Int) × Int × Unit)) (x3 : Int) (x15 : List (Int × List (List Int) × Int × Unit)) (x16 : Int) (x17 : Int) => next (St2 x0 x3 x15 x16 x17)) (fun (x2 : Int) => Q .ret (St1 x2)) (Q (.exit 0) St3) x0 x3 x15 x16 x17 := by
  have h : ∀ (D L : DT α), denJ D L Js C cd0 (lq C 15 next Q) (St2 x0 x3 x15 x16 x17) =
        if (decide (x17 < x16)) = true then
          if 0 ≤ x17 ∧ x17 < (x15.length : Int) then
            (Go.Bx.sets_keys.run (List.getD x15 (Int.toNat x17) (0, [], 0, ())).2.1).bind fun y1 =>
            if (y1 != 0) = true then
              Q .ret (St1 y1)
            else
              if (cond (cond (cond ((List.getD x15 (Int.toNat x17) (0, [], 0, ())).1 != x17) true (not (beqD .bool (x17 == (IntKind.i64.wrap ((x0.length : Int) - 1))) ((List.getD x15 (Int.toNat x17) (0, [], 0, ())).2.2.1 == 0)))) true (cond ((List.getD x15 (Int.toNat x17) (0, [], 0, ())).2.2.1 != 0) (decide ((List.getD x15 (Int.toNat x17) (0, [], 0, ())).2.2.1 < x3)) false)) true (decide ((List.getD x15 (Int.toNat x17) (0, [], 0, ())).2.2.1 > 1099511627800))) = true then
                Q .ret (St1 12)
              else
                next (St2 x0 (List.getD x15 (Int.toNat x17) (0, [], 0, ())).2.2.1 x15 x16 (IntKind.i64.wrap (x17 + 1)))
          else none
        else
          Q (.exit 0) St3 := by
    intro D L; kernel_rfl
  refine (show rnd C k cd0 15 Q next (St2 x0 x3 x15 x16 x17) = denJ (den C k) (lp C k) Js C cd0 (lq C 15 next Q) (St2 x0 x3 x15 x16 x17) from (denJ_den _ _ _ _ _ _).symm).trans ((h (den C k) (lp C k)).trans ?_)
  first | rfl | kernel_rfl
def l0 {α : Type} (k : Nat) (Rt : Int → Option α) (Xt0 : Option α) : Nat → (List (Int × List (List Int) × Int × Unit)) → Int → (List (Int × List (List Int) × Int × Unit)) → Int → Int → Option α
  | 0, _, _, _, _, _ => none
  | n + 1, x0, x3, x15, x16, x17 => l0s (l0 k Rt Xt0 n) Rt Xt0 x0 x3 x15 x16 x17
theorem l0_eq {α : Type} (k : Nat) (Q : Ex → St → Option α) : ∀ (n : Nat) (x0 : List (Int × List (List Int) × Int × Unit)) (x3 : Int) (x15 : List (Int × List (List Int) × Int × Unit)) (x16 : Int) (x17 : Int), iter (rnd C k cd0 15 Q) n (St2 x0 x3 x15 x16 x17) = l0 k (fun (x2 : Int) => Q .ret (St1 x2)) (Q (.exit 0) St3) n x0 x3 x15 x16 x17
  | 0, _, _, _, _, _ => rfl
  | n + 1, x0, x3, x15, x16, x17 => (iter_succ _ _ _).trans ((l0s_eq k (iter (rnd C k cd0 15 Q) n) Q x0 x3 x15 x16 x17).trans (congrArg (fun N => l0s N (fun (x2 : Int) => Q .ret (St1 x2)) (Q (.exit 0) St3) x0 x3 x15 x16 x17) (funext fun x0 => funext fun x3 => funext fun x15 => funext fun x16 => funext fun x17 => l0_eq k Q n x0 x3 x15 x16 x17)))
theorem l0_congr {α : Type} (k : Nat) (Rt : Int → Option α) (Xt0 : Option α) (Rtq : Int → Option α) (Xt0q : Option α) (hRt : ∀ (x2 : Int), Rt x2 = Rtq x2) (hXt0 : Xt0 = Xt0q) (n : Nat) (x0 : List (Int × List (List Int) × Int × Unit)) (x3 : Int) (x15 : List (Int × List (List Int) × Int × Unit)) (x16 : Int) (x17 : Int) : l0 k Rt Xt0 n x0 x3 x15 x16 x17 = l0 k Rtq Xt0q n x0 x3 x15 x16 x17 := by
  obtain rfl : Rt = Rtq := by funext x2; exact hRt x2
  obtain rfl : Xt0 = Xt0q := hXt0
  rfl
noncomputable def cd1 : Code := cR (cR (cR (cR (cB Try.f61))))
def St4 : St := stL 62 [] []
def j0 {α : Type} (Rt : Int → Option α) : Option α :=
  Rt 0
theorem j0_eq {α : Type} (k : Nat) (Q : Ex → St → Option α) :
    (den C k) cd1 Q St4 = j0 (fun (x2 : Int) => Q .ret (St1 x2)) := by
  have h : ∀ (D L : DT α), denJ D L Js C cd1 Q St4 =
        Q .ret (St1 0) := by
    intro D L; kernel_rfl
  refine (show (den C k) cd1 Q St4 = denJ (den C k) (lp C k) Js C cd1 Q St4 from (denJ_den _ _ _ _ _ _).symm).trans ((h (den C k) (lp C k)).trans ?_)
  first | rfl | kernel_rfl
theorem a0 {α : Type} (k : Nat) (Q : Ex → St → Option α) (x0 : List (Int × List (List Int) × Int × Unit)) (x3 : Int) (x15 : List (Int × List (List Int) × Int × Unit)) (x16 : Int) (x17 : Int) :
    (lp C k) cd0 (blkQ C 0 (sq (den C k) (lp C k) Js C cd1 Q)) (St2 x0 x3 x15 x16 x17) = l0 k (fun (x2 : Int) => (fun (x2 : Int) => Q .ret (St1 x2)) x2) (j0 (fun (x2 : Int) => Q .ret (St1 x2))) k x0 x3 x15 x16 x17 :=
  (show (lp C k) cd0 (blkQ C 0 (sq (den C k) (lp C k) Js C cd1 Q)) (St2 x0 x3 x15 x16 x17) = iter (rnd C k cd0 15 (blkQ C 0 (sq (den C k) (lp C k) Js C cd1 Q))) k (St2 x0 x3 x15 x16 x17) by kernel_rfl).trans ((l0_eq k (blkQ C 0 (sq (den C k) (lp C k) Js C cd1 Q)) k x0 x3 x15 x16 x17).trans (l0_congr k _ _ _ _ (fun x2 => (show (blkQ C 0 (sq (den C k) (lp C k) Js C cd1 Q)) .ret (St1 x2) = Q .ret (St1 x2) by kernel_rfl)) ((show (blkQ C 0 (sq (den C k) (lp C k) Js C cd1 Q)) (.exit 0) St3 = (den C k) cd1 Q St4 by kernel_rfl).trans (by simp only [j0_eq])) k x0 x3 x15 x16 x17))
def top {α : Type} (k : Nat) (Rt : Int → Option α) (x0 : List (Int × List (List Int) × Int × Unit)) : Option α :=
  if (cond (decide ((x0.length : Int) < 1)) true (decide ((x0.length : Int) > 8))) = true then
    Rt 1
  else
    l0 k (fun (x2 : Int) => Rt x2) (j0 Rt) k x0 0 x0 (x0.length : Int) 0
theorem top_eq {α : Type} (k : Nat) (Q : Ex → St → Option α) (x0 : List (Int × List (List Int) × Int × Unit)) :
    (den C k) (cB Try.f61) Q (St0 x0) = top k (fun (x2 : Int) => Q .ret (St1 x2)) x0 := by
  have h : ∀ (D L : DT α), denJ D L Js C (cB Try.f61) Q (St0 x0) =
        if (cond (decide ((x0.length : Int) < 1)) true (decide ((x0.length : Int) > 8))) = true then
          Q .ret (St1 1)
        else
          L cd0 (blkQ C 0 (sq D L Js C cd1 Q)) (St2 x0 0 x0 (x0.length : Int) 0) := by
    intro D L; kernel_rfl
  refine (show (den C k) (cB Try.f61) Q (St0 x0) = denJ (den C k) (lp C k) Js C (cB Try.f61) Q (St0 x0) from (denJ_den _ _ _ _ _ _).symm).trans ((h (den C k) (lp C k)).trans ?_)
  simp only [a0]
  first | rfl | kernel_rfl
def run (x0 : List (Int × List (List Int) × Int × Unit)) : Option (Int) := top (α := Int) fuel (fun (x2 : Int) => some x2) x0
def F : Fn := ⟨(.pair (.sl (.pair (.int .i64) (.pair (.sl (.arr 20 (.int .u8))) (.pair (.int .i64) .unit)))) .unit), (.int .i64), false, fun x => run x.1⟩
set_option maxRecDepth 100000 in
theorem con : Con Try.prog 61 F := by
  refine con_of_den (C := C) (ctx_ok (by kernel_rfl) (by kernel_rfl) (by kernel_rfl) (by kernel_rfl) ⟨.inl ⟨Go.Bx.sets_keys.con, Go.Bx.sets_keys.named⟩, trivial⟩) (by kernel_rfl) Try.func61 (c := cB Try.f61) (by kernel_rfl) (by kernel_rfl) F fuel (fun x => by simp [F, spread, Try.ntmps61]) ?_
  intro x r h
  rw [← h]
  have h1 : start F Try.f61.ntmps x = (St0 x.1) := by kernel_rfl
  rw [h1]
  refine (top_eq fuel (fin C Try.f61.results.toList F.rs F.multi) x.1).trans ?_
  kernel_rfl
theorem named : Named Try.prog 61 := named_of Try.func61 (by kernel_rfl) (by kernel_rfl)
end Go.Bx.sets_Check
namespace Go.Bx.basculeref_SetsFault
open Go Go.Proofs Go.Bx
set_option maxRecDepth 100000
set_option linter.unusedVariables false
def Js : List Nat := [16]
def C : Ctx := ⟨[(3, (.int .i64)), (22, (.sl (.pair (.int .i64) (.pair (.sl (.arr 20 (.int .u8))) (.pair (.int .i64) .unit))))), (31, (.int .i64)), (34, (.sl (.arr 20 (.int .u8)))), (158, (.pair (.int .i64) (.pair (.sl (.arr 20 (.int .u8))) (.pair (.int .i64) .unit))))], [], [], fnL [(138, Go.Bx.basculeref_keysFault.F)], noSh, [], invL [], [(2, [2]), (1, []), (4, [0, 3, 16, 17, 18]), (15, [0, 3, 16, 17, 18]), (45, [])], [], [], 0, 0⟩
def St0 (x0 : List (Int × List (List Int) × Int × Unit)) : St := stL 69 [(0, .data (.sl (.pair (.int .i64) (.pair (.sl (.arr 20 (.int .u8))) (.pair (.int .i64) .unit)))) x0)] []
def St1 (x2 : Int) : St := stL 69 [(2, .data (.int .i64) x2)] []
def St2 (x0 : List (Int × List (List Int) × Int × Unit)) (x3 : Int) (x16 : List (Int × List (List Int) × Int × Unit)) (x17 : Int) (x18 : Int) : St := stL 69 [(0, .data (.sl (.pair (.int .i64) (.pair (.sl (.arr 20 (.int .u8))) (.pair (.int .i64) .unit)))) x0), (3, .data (.int .i64) x3), (16, .data (.sl (.pair (.int .i64) (.pair (.sl (.arr 20 (.int .u8))) (.pair (.int .i64) .unit)))) x16), (17, .data (.int .i64) x17), (18, .data (.int .i64) x18)] []
noncomputable def cd0 : Code := cL (cL (cR (cL (cR (cR (cR (cB Try.f67)))))))
def St3 : St := stL 69 [] []
def l0s {α : Type} (Nx : (List (Int × List (List Int) × Int × Unit)) → Int → (List (Int × List (List Int) × Int × Unit)) → Int → Int → Option α) (Rt : Int → Option α) (Xt0 : Option α) (x0 : List (Int × List (List Int) × Int × Unit)) (x3 : Int) (x16 : List (Int × List (List Int) × Int × Unit)) (x17 : Int) (x18 : Int) : Option α :=
  if (decide (x18 < x17)) = true then
    if 0 ≤ x18 ∧ x18 < (x16.length : Int) then
      (Go.Bx.basculeref_keysFault.run (List.getD x16 (Int.toNat x18) (0, [], 0, ())).2.1).bind fun y1 =>
      if (y1 != 0) = true then
        Rt y1
      else
        if (cond (cond ((List.getD x16 (Int.toNat x18) (0, [], 0, ())).1 != x18) true (cond ((IntKind.i64.wrap (x18 + 1)) == (x0.length : Int)) ((List.getD x16 (Int.toNat x18) (0, [], 0, ())).2.2.1 != 0) false)) true (cond (not ((IntKind.i64.wrap (x18 + 1)) == (x0.length : Int))) (cond (cond (decide ((List.getD x16 (Int.toNat x18) (0, [], 0, ())).2.2.1 < 1)) true (decide ((List.getD x16 (Int.toNat x18) (0, [], 0, ())).2.2.1 < x3))) true (decide ((List.getD x16 (Int.toNat x18) (0, [], 0, ())).2.2.1 > 1099511627800))) false)) = true then
          Rt 12
        else
          Nx x0 (List.getD x16 (Int.toNat x18) (0, [], 0, ())).2.2.1 x16 x17 (IntKind.i64.wrap (x18 + 1))
    else none
  else
    Xt0
theorem l0s_eq {α : Type} (k : Nat) (next : St → Option α) (Q : Ex → St → Option α) (x0 : List (Int × List (List Int) × Int × Unit)) (x3 : Int) (x16 : List (Int × List (List Int) × Int × Unit)) (x17 : Int) (x18 : Int) :
    rnd C k cd0 15 Q next (St2 x0 x3 x16 x17 x18) = l0s (fun (x0 : List (Int × List (List Int) × Int × Unit)) (x3 : Int) (x16 : List (Int × List (List Int) × Int × Unit)) (x17 : Int) (x18 : Int) => next (St2 x0 x3 x16 x17 x18)) (fun (x2 : Int) => Q .ret (St1 x2)) (Q (.exit 0) St3) x0 x3 x16 x17 x18 := by
  have h : ∀ (D L : DT α), denJ D L Js C cd0 (lq C 15 next Q) (St2 x0 x3 x16 x17 x18) =
        if (decide (x18 < x17)) = true then
          if 0 ≤ x18 ∧ x18 < (x16.length : Int) then
            (Go.Bx.basculeref_keysFault.run (List.getD x16 (Int.toNat x18) (0, [], 0, ())).2.1).bind fun y1 =>
            if (y1 != 0) = true then
              Q .ret (St1 y1)
            else
              if (cond (cond ((List.getD x16 (Int.toNat x18) (0, [], 0, ())).1 != x18) true (cond ((IntKind.i64.wrap (x18 + 1)) == (x0.length : Int)) ((List.getD x16 (Int.toNat x18) (0, [], 0, ())).2.2.1 != 0) false)) true (cond (not ((IntKind.i64.wrap (x18 + 1)) == (x0.length : Int))) (cond (cond (decide ((List.getD x16 (Int.toNat x18) (0, [], 0, ())).2.2.1 < 1)) true (decide ((List.getD x16 (Int.toNat x18) (0, [], 0, ())).2.2.1 < x3))) true (decide ((List.getD x16 (Int.toNat x18) (0, [], 0, ())).2.2.1 > 1099511627800))) false)) = true then
                Q .ret (St1 12)
              else
                next (St2 x0 (List.getD x16 (Int.toNat x18) (0, [], 0, ())).2.2.1 x16 x17 (IntKind.i64.wrap (x18 + 1)))
          else none
        else
          Q (.exit 0) St3 := by
    intro D L; kernel_rfl
  refine (show rnd C k cd0 15 Q next (St2 x0 x3 x16 x17 x18) = denJ (den C k) (lp C k) Js C cd0 (lq C 15 next Q) (St2 x0 x3 x16 x17 x18) from (denJ_den _ _ _ _ _ _).symm).trans ((h (den C k) (lp C k)).trans ?_)
  first | rfl | kernel_rfl
def l0 {α : Type} (k : Nat) (Rt : Int → Option α) (Xt0 : Option α) : Nat → (List (Int × List (List Int) × Int × Unit)) → Int → (List (Int × List (List Int) × Int × Unit)) → Int → Int → Option α
  | 0, _, _, _, _, _ => none
  | n + 1, x0, x3, x16, x17, x18 => l0s (l0 k Rt Xt0 n) Rt Xt0 x0 x3 x16 x17 x18
theorem l0_eq {α : Type} (k : Nat) (Q : Ex → St → Option α) : ∀ (n : Nat) (x0 : List (Int × List (List Int) × Int × Unit)) (x3 : Int) (x16 : List (Int × List (List Int) × Int × Unit)) (x17 : Int) (x18 : Int), iter (rnd C k cd0 15 Q) n (St2 x0 x3 x16 x17 x18) = l0 k (fun (x2 : Int) => Q .ret (St1 x2)) (Q (.exit 0) St3) n x0 x3 x16 x17 x18
  | 0, _, _, _, _, _ => rfl
  | n + 1, x0, x3, x16, x17, x18 => (iter_succ _ _ _).trans ((l0s_eq k (iter (rnd C k cd0 15 Q) n) Q x0 x3 x16 x17 x18).trans (congrArg (fun N => l0s N (fun (x2 : Int) => Q .ret (St1 x2)) (Q (.exit 0) St3) x0 x3 x16 x17 x18) (funext fun x0 => funext fun x3 => funext fun x16 => funext fun x17 => funext fun x18 => l0_eq k Q n x0 x3 x16 x17 x18)))
theorem l0_congr {α : Type} (k : Nat) (Rt : Int → Option α) (Xt0 : Option α) (Rtq : Int → Option α) (Xt0q : Option α) (hRt : ∀ (x2 : Int), Rt x2 = Rtq x2) (hXt0 : Xt0 = Xt0q) (n : Nat) (x0 : List (Int × List (List Int) × Int × Unit)) (x3 : Int) (x16 : List (Int × List (List Int) × Int × Unit)) (x17 : Int) (x18 : Int) : l0 k Rt Xt0 n x0 x3 x16 x17 x18 = l0 k Rtq Xt0q n x0 x3 x16 x17 x18 := by
  obtain rfl : Rt = Rtq := by funext x2; exact hRt x2
  obtain rfl : Xt0 = Xt0q := hXt0
  rfl
noncomputable def cd1 : Code := cR (cR (cR (cR (cB Try.f67))))
def St4 : St := stL 69 [] []
def j0 {α : Type} (Rt : Int → Option α) : Option α :=
  Rt 0
theorem j0_eq {α : Type} (k : Nat) (Q : Ex → St → Option α) :
    (den C k) cd1 Q St4 = j0 (fun (x2 : Int) => Q .ret (St1 x2)) := by
  have h : ∀ (D L : DT α), denJ D L Js C cd1 Q St4 =
        Q .ret (St1 0) := by
    intro D L; kernel_rfl
  refine (show (den C k) cd1 Q St4 = denJ (den C k) (lp C k) Js C cd1 Q St4 from (denJ_den _ _ _ _ _ _).symm).trans ((h (den C k) (lp C k)).trans ?_)
  first | rfl | kernel_rfl
theorem a0 {α : Type} (k : Nat) (Q : Ex → St → Option α) (x0 : List (Int × List (List Int) × Int × Unit)) (x3 : Int) (x16 : List (Int × List (List Int) × Int × Unit)) (x17 : Int) (x18 : Int) :
    (lp C k) cd0 (blkQ C 0 (sq (den C k) (lp C k) Js C cd1 Q)) (St2 x0 x3 x16 x17 x18) = l0 k (fun (x2 : Int) => (fun (x2 : Int) => Q .ret (St1 x2)) x2) (j0 (fun (x2 : Int) => Q .ret (St1 x2))) k x0 x3 x16 x17 x18 :=
  (show (lp C k) cd0 (blkQ C 0 (sq (den C k) (lp C k) Js C cd1 Q)) (St2 x0 x3 x16 x17 x18) = iter (rnd C k cd0 15 (blkQ C 0 (sq (den C k) (lp C k) Js C cd1 Q))) k (St2 x0 x3 x16 x17 x18) by kernel_rfl).trans ((l0_eq k (blkQ C 0 (sq (den C k) (lp C k) Js C cd1 Q)) k x0 x3 x16 x17 x18).trans (l0_congr k _ _ _ _ (fun x2 => (show (blkQ C 0 (sq (den C k) (lp C k) Js C cd1 Q)) .ret (St1 x2) = Q .ret (St1 x2) by kernel_rfl)) ((show (blkQ C 0 (sq (den C k) (lp C k) Js C cd1 Q)) (.exit 0) St3 = (den C k) cd1 Q St4 by kernel_rfl).trans (by simp only [j0_eq])) k x0 x3 x16 x17 x18))
def top {α : Type} (k : Nat) (Rt : Int → Option α) (x0 : List (Int × List (List Int) × Int × Unit)) : Option α :=
  if (cond ((x0.length : Int) == 0) true (decide ((x0.length : Int) > 8))) = true then
    Rt 1
  else
    l0 k (fun (x2 : Int) => Rt x2) (j0 Rt) k x0 0 x0 (x0.length : Int) 0
theorem top_eq {α : Type} (k : Nat) (Q : Ex → St → Option α) (x0 : List (Int × List (List Int) × Int × Unit)) :
    (den C k) (cB Try.f67) Q (St0 x0) = top k (fun (x2 : Int) => Q .ret (St1 x2)) x0 := by
  have h : ∀ (D L : DT α), denJ D L Js C (cB Try.f67) Q (St0 x0) =
        if (cond ((x0.length : Int) == 0) true (decide ((x0.length : Int) > 8))) = true then
          Q .ret (St1 1)
        else
          L cd0 (blkQ C 0 (sq D L Js C cd1 Q)) (St2 x0 0 x0 (x0.length : Int) 0) := by
    intro D L; kernel_rfl
  refine (show (den C k) (cB Try.f67) Q (St0 x0) = denJ (den C k) (lp C k) Js C (cB Try.f67) Q (St0 x0) from (denJ_den _ _ _ _ _ _).symm).trans ((h (den C k) (lp C k)).trans ?_)
  simp only [a0]
  first | rfl | kernel_rfl
def run (x0 : List (Int × List (List Int) × Int × Unit)) : Option (Int) := top (α := Int) fuel (fun (x2 : Int) => some x2) x0
def F : Fn := ⟨(.pair (.sl (.pair (.int .i64) (.pair (.sl (.arr 20 (.int .u8))) (.pair (.int .i64) .unit)))) .unit), (.int .i64), false, fun x => run x.1⟩
set_option maxRecDepth 100000 in
theorem con : Con Try.prog 67 F := by
  refine con_of_den (C := C) (ctx_ok (by kernel_rfl) (by kernel_rfl) (by kernel_rfl) (by kernel_rfl) ⟨.inl ⟨Go.Bx.basculeref_keysFault.con, Go.Bx.basculeref_keysFault.named⟩, trivial⟩) (by kernel_rfl) Try.func67 (c := cB Try.f67) (by kernel_rfl) (by kernel_rfl) F fuel (fun x => by simp [F, spread, Try.ntmps67]) ?_
  intro x r h
  rw [← h]
  have h1 : start F Try.f67.ntmps x = (St0 x.1) := by kernel_rfl
  rw [h1]
  refine (top_eq fuel (fin C Try.f67.results.toList F.rs F.multi) x.1).trans ?_
  kernel_rfl
theorem named : Named Try.prog 67 := named_of Try.func67 (by kernel_rfl) (by kernel_rfl)
end Go.Bx.basculeref_SetsFault
namespace Go.Bx.sets_fresh
open Go Go.Proofs Go.Bx
set_option maxRecDepth 100000
set_option linter.unusedVariables false
def Js : List Nat := [9]
def C : Ctx := ⟨[(22, (.sl (.pair (.int .i64) (.pair (.sl (.arr 20 (.int .u8))) (.pair (.int .i64) .unit))))), (34, (.sl (.arr 20 (.int .u8)))), (158, (.pair (.int .i64) (.pair (.sl (.arr 20 (.int .u8))) (.pair (.int .i64) .unit))))], [], [], fnL [], noSh, [], invL [], [(2, [2]), (1, [3]), (4, [3, 6, 7, 8]), (9, [3, 6, 7, 8]), (24, [3])], [(9, [.melt true 3 [] 20 true])], [15], 0, 0⟩
def St0 (x0 : List (Int × List (List Int) × Int × Unit)) : St := stL 23 [(0, .data (.sl (.pair (.int .i64) (.pair (.sl (.arr 20 (.int .u8))) (.pair (.int .i64) .unit)))) x0)] []
def St1 (x6 : List (Int × List (List Int) × Int × Unit)) (x7 : Int) (x8 : Int) (c20 : List (Int × List (List Int) × Int × Unit)) : St := stL 23 [(3, .app 20 0), (6, .data (.sl (.pair (.int .i64) (.pair (.sl (.arr 20 (.int .u8))) (.pair (.int .i64) .unit)))) x6), (7, .data (.int .i64) x7), (8, .data (.int .i64) x8)] [(20, .buf (.pair (.int .i64) (.pair (.sl (.arr 20 (.int .u8))) (.pair (.int .i64) .unit))) c20 0 true)]
noncomputable def cd0 : Code := cL (cL (cR (cL (cR (cR (cB Try.f142))))))
def St2 (c20 : List (Int × List (List Int) × Int × Unit)) : St := stL 23 [(3, .app 20 0)] [(20, .buf (.pair (.int .i64) (.pair (.sl (.arr 20 (.int .u8))) (.pair (.int .i64) .unit))) c20 0 true)]
def l0s {α : Type} (Nx : (List (Int × List (List Int) × Int × Unit)) → Int → Int → (List (Int × List (List Int) × Int × Unit)) → Option α) (Xt0 : (List (Int × List (List Int) × Int × Unit)) → Option α) (x6 : List (Int × List (List Int) × Int × Unit)) (x7 : Int) (x8 : Int) (c20 : List (Int × List (List Int) × Int × Unit)) : Option α :=
  if (decide (x8 < x7)) = true then
    if 0 ≤ x8 ∧ x8 < (x6.length : Int) then
      if fitB (0 + (List.getD x6 (Int.toNat x8) (0, [], 0, ())).2.1.length) 20 = true then
        if fitB (c20.length + 1) 40 = true then
          Nx x6 x7 (IntKind.i64.wrap (x8 + 1)) (c20 ++ [((List.getD x6 (Int.toNat x8) (0, [], 0, ())).1, (List.getD x6 (Int.toNat x8) (0, [], 0, ())).2.1, (List.getD x6 (Int.toNat x8) (0, [], 0, ())).2.2.1, ())])
        else none
      else none
    else none
  else
    Xt0 c20
theorem l0s_eq {α : Type} (k : Nat) (next : St → Option α) (Q : Ex → St → Option α) (x6 : List (Int × List (List Int) × Int × Unit)) (x7 : Int) (x8 : Int) (c20 : List (Int × List (List Int) × Int × Unit)) :
    rnd C k cd0 9 Q next (St1 x6 x7 x8 c20) = l0s (fun (x6 : List (Int × List (List Int) × Int × Unit)) (x7 : Int) (x8 : Int) (c20 : List (Int × List (List Int) × Int × Unit)) => next (St1 x6 x7 x8 c20)) (fun (c20 : List (Int × List (List Int) × Int × Unit)) => Q (.exit 0) (St2 c20)) x6 x7 x8 c20 := by
  have h : ∀ (D L : DT α), denJ D L Js C cd0 (lq C 9 next Q) (St1 x6 x7 x8 c20) =
        if (decide (x8 < x7)) = true then
          if 0 ≤ x8 ∧ x8 < (x6.length : Int) then
            if fitB (0 + (List.getD x6 (Int.toNat x8) (0, [], 0, ())).2.1.length) 20 = true then
              if fitB (c20.length + 1) 40 = true then
                next (St1 x6 x7 (IntKind.i64.wrap (x8 + 1)) (c20 ++ [((List.getD x6 (Int.toNat x8) (0, [], 0, ())).1, (List.getD x6 (Int.toNat x8) (0, [], 0, ())).2.1, (List.getD x6 (Int.toNat x8) (0, [], 0, ())).2.2.1, ())]))
              else none
            else none
          else none
        else
          Q (.exit 0) (St2 c20) := by
    intro D L; kernel_rfl
  refine (show rnd C k cd0 9 Q next (St1 x6 x7 x8 c20) = denJ (den C k) (lp C k) Js C cd0 (lq C 9 next Q) (St1 x6 x7 x8 c20) from (denJ_den _ _ _ _ _ _).symm).trans ((h (den C k) (lp C k)).trans ?_)
  first | rfl | kernel_rfl
def l0 {α : Type} (k : Nat) (Xt0 : (List (Int × List (List Int) × Int × Unit)) → Option α) : Nat → (List (Int × List (List Int) × Int × Unit)) → Int → Int → (List (Int × List (List Int) × Int × Unit)) → Option α
  | 0, _, _, _, _ => none
  | n + 1, x6, x7, x8, c20 => l0s (l0 k Xt0 n) Xt0 x6 x7 x8 c20
theorem l0_eq {α : Type} (k : Nat) (Q : Ex → St → Option α) : ∀ (n : Nat) (x6 : List (Int × List (List Int) × Int × Unit)) (x7 : Int) (x8 : Int) (c20 : List (Int × List (List Int) × Int × Unit)), iter (rnd C k cd0 9 Q) n (St1 x6 x7 x8 c20) = l0 k (fun (c20 : List (Int × List (List Int) × Int × Unit)) => Q (.exit 0) (St2 c20)) n x6 x7 x8 c20
  | 0, _, _, _, _ => rfl
  | n + 1, x6, x7, x8, c20 => (iter_succ _ _ _).trans ((l0s_eq k (iter (rnd C k cd0 9 Q) n) Q x6 x7 x8 c20).trans (congrArg (fun N => l0s N (fun (c20 : List (Int × List (List Int) × Int × Unit)) => Q (.exit 0) (St2 c20)) x6 x7 x8 c20) (funext fun x6 => funext fun x7 => funext fun x8 => funext fun c20 => l0_eq k Q n x6 x7 x8 c20)))
theorem l0_congr {α : Type} (k : Nat) (Xt0 : (List (Int × List (List Int) × Int × Unit)) → Option α) (Xt0q : (List (Int × List (List Int) × Int × Unit)) → Option α) (hXt0 : ∀ (c20 : List (Int × List (List Int) × Int × Unit)), Xt0 c20 = Xt0q c20) (n : Nat) (x6 : List (Int × List (List Int) × Int × Unit)) (x7 : Int) (x8 : Int) (c20 : List (Int × List (List Int) × Int × Unit)) : l0 k Xt0 n x6 x7 x8 c20 = l0 k Xt0q n x6 x7 x8 c20 := by
  obtain rfl : Xt0 = Xt0q := by funext c20; exact hXt0 c20
  rfl
noncomputable def cd1 : Code := cR (cR (cR (cB Try.f142)))
def St3 (c20 : List (Int × List (List Int) × Int × Unit)) : St := stL 23 [(3, .app 20 0)] [(20, .buf (.pair (.int .i64) (.pair (.sl (.arr 20 (.int .u8))) (.pair (.int .i64) .unit))) c20 0 true)]
def St4 (c20 : List (Int × List (List Int) × Int × Unit)) : St := stL 23 [(2, .app 20 0)] [(20, .buf (.pair (.int .i64) (.pair (.sl (.arr 20 (.int .u8))) (.pair (.int .i64) .unit))) c20 0 true)]
def j0 {α : Type} (Rt : (List (Int × List (List Int) × Int × Unit)) → Option α) (c20 : List (Int × List (List Int) × Int × Unit)) : Option α :=
  Rt c20
theorem j0_eq {α : Type} (k : Nat) (Q : Ex → St → Option α) (c20 : List (Int × List (List Int) × Int × Unit)) :
    (den C k) cd1 Q (St3 c20) = j0 (fun (c20 : List (Int × List (List Int) × Int × Unit)) => Q .ret (St4 c20)) c20 := by
  have h : ∀ (D L : DT α), denJ D L Js C cd1 Q (St3 c20) =
        Q .ret (St4 c20) := by
    intro D L; kernel_rfl
  refine (show (den C k) cd1 Q (St3 c20) = denJ (den C k) (lp C k) Js C cd1 Q (St3 c20) from (denJ_den _ _ _ _ _ _).symm).trans ((h (den C k) (lp C k)).trans ?_)
  first | rfl | kernel_rfl
theorem a0 {α : Type} (k : Nat) (Q : Ex → St → Option α) (x6 : List (Int × List (List Int) × Int × Unit)) (x7 : Int) (x8 : Int) (c20 : List (Int × List (List Int) × Int × Unit)) :
    (lp C k) cd0 (blkQ C 0 (sq (den C k) (lp C k) Js C cd1 Q)) (St1 x6 x7 x8 c20) = l0 k (fun (c20 : List (Int × List (List Int) × Int × Unit)) => j0 (fun (c20 : List (Int × List (List Int) × Int × Unit)) => Q .ret (St4 c20)) c20) k x6 x7 x8 c20 :=
  (show (lp C k) cd0 (blkQ C 0 (sq (den C k) (lp C k) Js C cd1 Q)) (St1 x6 x7 x8 c20) = iter (rnd C k cd0 9 (blkQ C 0 (sq (den C k) (lp C k) Js C cd1 Q))) k (St1 x6 x7 x8 c20) by kernel_rfl).trans ((l0_eq k (blkQ C 0 (sq (den C k) (lp C k) Js C cd1 Q)) k x6 x7 x8 c20).trans (l0_congr k _ _ (fun c20 => ((show (blkQ C 0 (sq (den C k) (lp C k) Js C cd1 Q)) (.exit 0) (St2 c20) = (den C k) cd1 Q (St3 c20) by kernel_rfl).trans (by simp only [j0_eq]))) k x6 x7 x8 c20))
def top {α : Type} (k : Nat) (Rt : (List (Int × List (List Int) × Int × Unit)) → Option α) (x0 : List (Int × List (List Int) × Int × Unit)) : Option α :=
  l0 k (fun (c20 : List (Int × List (List Int) × Int × Unit)) => j0 Rt c20) k x0 (x0.length : Int) 0 []
theorem top_eq {α : Type} (k : Nat) (Q : Ex → St → Option α) (x0 : List (Int × List (List Int) × Int × Unit)) :
    (den C k) (cB Try.f142) Q (St0 x0) = top k (fun (c20 : List (Int × List (List Int) × Int × Unit)) => Q .ret (St4 c20)) x0 := by
  have h : ∀ (D L : DT α), denJ D L Js C (cB Try.f142) Q (St0 x0) =
        L cd0 (blkQ C 0 (sq D L Js C cd1 Q)) (St1 x0 (x0.length : Int) 0 []) := by
    intro D L; kernel_rfl
  refine (show (den C k) (cB Try.f142) Q (St0 x0) = denJ (den C k) (lp C k) Js C (cB Try.f142) Q (St0 x0) from (denJ_den _ _ _ _ _ _).symm).trans ((h (den C k) (lp C k)).trans ?_)
  simp only [a0]
  first | rfl | kernel_rfl
def run (x0 : List (Int × List (List Int) × Int × Unit)) : Option (List (Int × List (List Int) × Int × Unit)) := top (α := List (Int × List (List Int) × Int × Unit)) fuel (fun (c20 : List (Int × List (List Int) × Int × Unit)) => some c20) x0
def F : Fn := ⟨(.pair (.sl (.pair (.int .i64) (.pair (.sl (.arr 20 (.int .u8))) (.pair (.int .i64) .unit)))) .unit), (.sl (.pair (.int .i64) (.pair (.sl (.arr 20 (.int .u8))) (.pair (.int .i64) .unit)))), false, fun x => run x.1⟩
set_option maxRecDepth 100000 in
theorem con : Con Try.prog 142 F := by
  refine con_of_den (C := C) (ctx_ok (by kernel_rfl) (by kernel_rfl) (by kernel_rfl) (by kernel_rfl) trivial) (by kernel_rfl) Try.func142 (c := cB Try.f142) (by kernel_rfl) (by kernel_rfl) F fuel (fun x => by simp [F, spread, Try.ntmps142]) ?_
  intro x r h
  rw [← h]
  have h1 : start F Try.f142.ntmps x = (St0 x.1) := by kernel_rfl
  rw [h1]
  refine (top_eq fuel (fin C Try.f142.results.toList F.rs F.multi) x.1).trans ?_
  kernel_rfl
theorem named : Named Try.prog 142 := named_of Try.func142 (by kernel_rfl) (by kernel_rfl)
end Go.Bx.sets_fresh
namespace Go.Bx.basculelaw_sameKeys
open Go Go.Proofs Go.Bx
set_option maxRecDepth 100000
set_option linter.unusedVariables false
def Js : List Nat := [10]
def C : Ctx := ⟨[(4, .bool), (34, (.sl (.arr 20 (.int .u8)))), (178, (.arr 20 (.int .u8)))], [], [], fnL [], noSh, [], invL [], [(2, [4]), (1, []), (4, [0, 1, 12, 13]), (12, [0, 1, 12, 13]), (27, [])], [], [], 0, 0⟩
def St0 (x0 : List (List Int)) (x1 : List (List Int)) : St := stL 26 [(0, .data (.sl (.arr 20 (.int .u8))) x0), (1, .data (.sl (.arr 20 (.int .u8))) x1)] []
def St1 (x4 : Bool) : St := stL 26 [(4, .data .bool x4)] []
def St2 (x0 : List (List Int)) (x1 : List (List Int)) (x12 : Int) (x13 : Int) : St := stL 26 [(0, .data (.sl (.arr 20 (.int .u8))) x0), (1, .data (.sl (.arr 20 (.int .u8))) x1), (12, .data (.int .i64) x12), (13, .data (.int .i64) x13)] []
noncomputable def cd0 : Code := cL (cL (cR (cL (cR (cR (cB Try.f169))))))
def St3 : St := stL 26 [] []
def l0s {α : Type} (Nx : (List (List Int)) → (List (List Int)) → Int → Int → Option α) (Rt : Bool → Option α) (Xt0 : Option α) (x0 : List (List Int)) (x1 : List (List Int)) (x12 : Int) (x13 : Int) : Option α :=
  if (decide (x13 < x12)) = true then
    if 0 ≤ x13 ∧ x13 < (x0.length : Int) then
      if 0 ≤ x13 ∧ x13 < (x1.length : Int) then
        if (not (beqD (.arr 20 (.int .u8)) (List.getD x0 (Int.toNat x13) (List.replicate 20 0)) (List.getD x1 (Int.toNat x13) (List.replicate 20 0)))) = true then
          Rt false
        else
          Nx x0 x1 x12 (IntKind.i64.wrap (x13 + 1))
      else none
    else none
  else
    Xt0
theorem l0s_eq {α : Type} (k : Nat) (next : St → Option α) (Q : Ex → St → Option α) (x0 : List (List Int)) (x1 : List (List Int)) (x12 : Int) (x13 : Int) :
    rnd C k cd0 12 Q next (St2 x0 x1 x12 x13) = l0s (fun (x0 : List (List Int)) (x1 : List (List Int)) (x12 : Int) (x13 : Int) => next (St2 x0 x1 x12 x13)) (fun (x4 : Bool) => Q .ret (St1 x4)) (Q (.exit 0) St3) x0 x1 x12 x13 := by
  have h : ∀ (D L : DT α), denJ D L Js C cd0 (lq C 12 next Q) (St2 x0 x1 x12 x13) =
        if (decide (x13 < x12)) = true then
          if 0 ≤ x13 ∧ x13 < (x0.length : Int) then
            if 0 ≤ x13 ∧ x13 < (x1.length : Int) then
              if (not (beqD (.arr 20 (.int .u8)) (List.getD x0 (Int.toNat x13) (List.replicate 20 0)) (List.getD x1 (Int.toNat x13) (List.replicate 20 0)))) = true then
                Q .ret (St1 false)
              else
                next (St2 x0 x1 x12 (IntKind.i64.wrap (x13 + 1)))
            else none
          else none
        else
          Q (.exit 0) St3 := by
    intro D L; kernel_rfl
  refine (show rnd C k cd0 12 Q next (St2 x0 x1 x12 x13) = denJ (den C k) (lp C k) Js C cd0 (lq C 12 next Q) (St2 x0 x1 x12 x13) from (denJ_den _ _ _ _ _ _).symm).trans ((h (den C k) (lp C k)).trans ?_)
  first | rfl | kernel_rfl
def l0 {α : Type} (k : Nat) (Rt : Bool → Option α) (Xt0 : Option α) : Nat → (List (List Int)) → (List (List Int)) → Int → Int → Option α
  | 0, _, _, _, _ => none
  | n + 1, x0, x1, x12, x13 => l0s (l0 k Rt Xt0 n) Rt Xt0 x0 x1 x12 x13
theorem l0_eq {α : Type} (k : Nat) (Q : Ex → St → Option α) : ∀ (n : Nat) (x0 : List (List Int)) (x1 : List (List Int)) (x12 : Int) (x13 : Int), iter (rnd C k cd0 12 Q) n (St2 x0 x1 x12 x13) = l0 k (fun (x4 : Bool) => Q .ret (St1 x4)) (Q (.exit 0) St3) n x0 x1 x12 x13
  | 0, _, _, _, _ => rfl
  | n + 1, x0, x1, x12, x13 => (iter_succ _ _ _).trans ((l0s_eq k (iter (rnd C k cd0 12 Q) n) Q x0 x1 x12 x13).trans (congrArg (fun N => l0s N (fun (x4 : Bool) => Q .ret (St1 x4)) (Q (.exit 0) St3) x0 x1 x12 x13) (funext fun x0 => funext fun x1 => funext fun x12 => funext fun x13 => l0_eq k Q n x0 x1 x12 x13)))
theorem l0_congr {α : Type} (k : Nat) (Rt : Bool → Option α) (Xt0 : Option α) (Rtq : Bool → Option α) (Xt0q : Option α) (hRt : ∀ (x4 : Bool), Rt x4 = Rtq x4) (hXt0 : Xt0 = Xt0q) (n : Nat) (x0 : List (List Int)) (x1 : List (List Int)) (x12 : Int) (x13 : Int) : l0 k Rt Xt0 n x0 x1 x12 x13 = l0 k Rtq Xt0q n x0 x1 x12 x13 := by
  obtain rfl : Rt = Rtq := by funext x4; exact hRt x4
  obtain rfl : Xt0 = Xt0q := hXt0
  rfl
noncomputable def cd1 : Code := cR (cR (cR (cB Try.f169)))
def St4 : St := stL 26 [] []
def j0 {α : Type} (Rt : Bool → Option α) : Option α :=
  Rt true
theorem j0_eq {α : Type} (k : Nat) (Q : Ex → St → Option α) :
    (den C k) cd1 Q St4 = j0 (fun (x4 : Bool) => Q .ret (St1 x4)) := by
  have h : ∀ (D L : DT α), denJ D L Js C cd1 Q St4 =
        Q .ret (St1 true) := by
    intro D L; kernel_rfl
  refine (show (den C k) cd1 Q St4 = denJ (den C k) (lp C k) Js C cd1 Q St4 from (denJ_den _ _ _ _ _ _).symm).trans ((h (den C k) (lp C k)).trans ?_)
  first | rfl | kernel_rfl
theorem a0 {α : Type} (k : Nat) (Q : Ex → St → Option α) (x0 : List (List Int)) (x1 : List (List Int)) (x12 : Int) (x13 : Int) :
    (lp C k) cd0 (blkQ C 0 (sq (den C k) (lp C k) Js C cd1 Q)) (St2 x0 x1 x12 x13) = l0 k (fun (x4 : Bool) => (fun (x4 : Bool) => Q .ret (St1 x4)) x4) (j0 (fun (x4 : Bool) => Q .ret (St1 x4))) k x0 x1 x12 x13 :=
  (show (lp C k) cd0 (blkQ C 0 (sq (den C k) (lp C k) Js C cd1 Q)) (St2 x0 x1 x12 x13) = iter (rnd C k cd0 12 (blkQ C 0 (sq (den C k) (lp C k) Js C cd1 Q))) k (St2 x0 x1 x12 x13) by kernel_rfl).trans ((l0_eq k (blkQ C 0 (sq (den C k) (lp C k) Js C cd1 Q)) k x0 x1 x12 x13).trans (l0_congr k _ _ _ _ (fun x4 => (show (blkQ C 0 (sq (den C k) (lp C k) Js C cd1 Q)) .ret (St1 x4) = Q .ret (St1 x4) by kernel_rfl)) ((show (blkQ C 0 (sq (den C k) (lp C k) Js C cd1 Q)) (.exit 0) St3 = (den C k) cd1 Q St4 by kernel_rfl).trans (by simp only [j0_eq])) k x0 x1 x12 x13))
def top {α : Type} (k : Nat) (Rt : Bool → Option α) (x0 : List (List Int)) (x1 : List (List Int)) : Option α :=
  if ((x0.length : Int) != (x1.length : Int)) = true then
    Rt false
  else
    l0 k (fun (x4 : Bool) => Rt x4) (j0 Rt) k x0 x1 (x0.length : Int) 0
theorem top_eq {α : Type} (k : Nat) (Q : Ex → St → Option α) (x0 : List (List Int)) (x1 : List (List Int)) :
    (den C k) (cB Try.f169) Q (St0 x0 x1) = top k (fun (x4 : Bool) => Q .ret (St1 x4)) x0 x1 := by
  have h : ∀ (D L : DT α), denJ D L Js C (cB Try.f169) Q (St0 x0 x1) =
        if ((x0.length : Int) != (x1.length : Int)) = true then
          Q .ret (St1 false)
        else
          L cd0 (blkQ C 0 (sq D L Js C cd1 Q)) (St2 x0 x1 (x0.length : Int) 0) := by
    intro D L; kernel_rfl
  refine (show (den C k) (cB Try.f169) Q (St0 x0 x1) = denJ (den C k) (lp C k) Js C (cB Try.f169) Q (St0 x0 x1) from (denJ_den _ _ _ _ _ _).symm).trans ((h (den C k) (lp C k)).trans ?_)
  simp only [a0]
  first | rfl | kernel_rfl
def run (x0 : List (List Int)) (x1 : List (List Int)) : Option (Bool) := top (α := Bool) fuel (fun (x4 : Bool) => some x4) x0 x1
def F : Fn := ⟨(.pair (.sl (.arr 20 (.int .u8))) (.pair (.sl (.arr 20 (.int .u8))) .unit)), .bool, false, fun x => run x.1 x.2.1⟩
set_option maxRecDepth 100000 in
theorem con : Con Try.prog 169 F := by
  refine con_of_den (C := C) (ctx_ok (by kernel_rfl) (by kernel_rfl) (by kernel_rfl) (by kernel_rfl) trivial) (by kernel_rfl) Try.func169 (c := cB Try.f169) (by kernel_rfl) (by kernel_rfl) F fuel (fun x => by simp [F, spread, Try.ntmps169]) ?_
  intro x r h
  rw [← h]
  have h1 : start F Try.f169.ntmps x = (St0 x.1 x.2.1) := by kernel_rfl
  rw [h1]
  refine (top_eq fuel (fin C Try.f169.results.toList F.rs F.multi) x.1 x.2.1).trans ?_
  kernel_rfl
theorem named : Named Try.prog 169 := named_of Try.func169 (by kernel_rfl) (by kernel_rfl)
end Go.Bx.basculelaw_sameKeys
namespace Go.Bx.basculelaw_sameSet
open Go Go.Proofs Go.Bx
set_option maxRecDepth 100000
set_option linter.unusedVariables false
def Js : List Nat := []
def C : Ctx := ⟨[(3, (.int .i64)), (4, .bool), (34, (.sl (.arr 20 (.int .u8)))), (158, (.pair (.int .i64) (.pair (.sl (.arr 20 (.int .u8))) (.pair (.int .i64) .unit))))], [], [], fnL [(169, Go.Bx.basculelaw_sameKeys.F)], noSh, [], invL [], [(2, [4])], [], [], 0, 0⟩
def St0 (x0 : Int × List (List Int) × Int × Unit) (x1 : Int × List (List Int) × Int × Unit) : St := stL 24 [(0, .data (.pair (.int .i64) (.pair (.sl (.arr 20 (.int .u8))) (.pair (.int .i64) .unit))) x0), (1, .data (.pair (.int .i64) (.pair (.sl (.arr 20 (.int .u8))) (.pair (.int .i64) .unit))) x1)] []
def St1 (x4 : Bool) : St := stL 24 [(4, .data .bool x4)] []
def top {α : Type} (Rt : Bool → Option α) (x0 : Int × List (List Int) × Int × Unit) (x1 : Int × List (List Int) × Int × Unit) : Option α :=
  (if ((cond (x0.1 == x1.1) (x0.2.2.1 == x1.2.2.1) false) == true) = true then Go.Bx.basculelaw_sameKeys.run x0.2.1 x1.2.1 else some false).bind fun y1 =>
  Rt (cond (cond (x0.1 == x1.1) (x0.2.2.1 == x1.2.2.1) false) y1 false)
theorem top_eq {α : Type} (k : Nat) (Q : Ex → St → Option α) (x0 : Int × List (List Int) × Int × Unit) (x1 : Int × List (List Int) × Int × Unit) :
    (den C k) (cB Try.f144) Q (St0 x0 x1) = top (fun (x4 : Bool) => Q .ret (St1 x4)) x0 x1 := by
  have h : ∀ (D L : DT α), denJ D L Js C (cB Try.f144) Q (St0 x0 x1) =
        (if ((cond (x0.1 == x1.1) (x0.2.2.1 == x1.2.2.1) false) == true) = true then Go.Bx.basculelaw_sameKeys.run x0.2.1 x1.2.1 else some false).bind fun y1 =>
        Q .ret (St1 (cond (cond (x0.1 == x1.1) (x0.2.2.1 == x1.2.2.1) false) y1 false)) := by
    intro D L; kernel_rfl
  refine (show (den C k) (cB Try.f144) Q (St0 x0 x1) = denJ (den C k) (lp C k) Js C (cB Try.f144) Q (St0 x0 x1) from (denJ_den _ _ _ _ _ _).symm).trans ((h (den C k) (lp C k)).trans ?_)
  first | rfl | kernel_rfl
def run (x0 : Int × List (List Int) × Int × Unit) (x1 : Int × List (List Int) × Int × Unit) : Option (Bool) := top (α := Bool) (fun (x4 : Bool) => some x4) x0 x1
def F : Fn := ⟨(.pair (.pair (.int .i64) (.pair (.sl (.arr 20 (.int .u8))) (.pair (.int .i64) .unit))) (.pair (.pair (.int .i64) (.pair (.sl (.arr 20 (.int .u8))) (.pair (.int .i64) .unit))) .unit)), .bool, false, fun x => run x.1 x.2.1⟩
set_option maxRecDepth 100000 in
theorem con : Con Try.prog 144 F := by
  refine con_of_den (C := C) (ctx_ok (by kernel_rfl) (by kernel_rfl) (by kernel_rfl) (by kernel_rfl) ⟨.inl ⟨Go.Bx.basculelaw_sameKeys.con, Go.Bx.basculelaw_sameKeys.named⟩, trivial⟩) (by kernel_rfl) Try.func144 (c := cB Try.f144) (by kernel_rfl) (by kernel_rfl) F fuel (fun x => by simp [F, spread, Try.ntmps144]) ?_
  intro x r h
  rw [← h]
  have h1 : start F Try.f144.ntmps x = (St0 x.1 x.2.1) := by kernel_rfl
  rw [h1]
  refine (top_eq fuel (fin C Try.f144.results.toList F.rs F.multi) x.1 x.2.1).trans ?_
  kernel_rfl
theorem named : Named Try.prog 144 := named_of Try.func144 (by kernel_rfl) (by kernel_rfl)
end Go.Bx.basculelaw_sameSet
namespace Go.Bx.basculelaw_sameSets
open Go Go.Proofs Go.Bx
set_option maxRecDepth 100000
set_option linter.unusedVariables false
def Js : List Nat := [10]
def C : Ctx := ⟨[(4, .bool), (22, (.sl (.pair (.int .i64) (.pair (.sl (.arr 20 (.int .u8))) (.pair (.int .i64) .unit))))), (158, (.pair (.int .i64) (.pair (.sl (.arr 20 (.int .u8))) (.pair (.int .i64) .unit))))], [], [], fnL [(144, Go.Bx.basculelaw_sameSet.F)], noSh, [], invL [], [(2, [4]), (1, []), (4, [0, 1, 12, 13]), (12, [0, 1, 12, 13]), (27, [])], [], [], 0, 0⟩
def St0 (x0 : List (Int × List (List Int) × Int × Unit)) (x1 : List (Int × List (List Int) × Int × Unit)) : St := stL 27 [(0, .data (.sl (.pair (.int .i64) (.pair (.sl (.arr 20 (.int .u8))) (.pair (.int .i64) .unit)))) x0), (1, .data (.sl (.pair (.int .i64) (.pair (.sl (.arr 20 (.int .u8))) (.pair (.int .i64) .unit)))) x1)] []
def St1 (x4 : Bool) : St := stL 27 [(4, .data .bool x4)] []
def St2 (x0 : List (Int × List (List Int) × Int × Unit)) (x1 : List (Int × List (List Int) × Int × Unit)) (x12 : Int) (x13 : Int) : St := stL 27 [(0, .data (.sl (.pair (.int .i64) (.pair (.sl (.arr 20 (.int .u8))) (.pair (.int .i64) .unit)))) x0), (1, .data (.sl (.pair (.int .i64) (.pair (.sl (.arr 20 (.int .u8))) (.pair (.int .i64) .unit)))) x1), (12, .data (.int .i64) x12), (13, .data (.int .i64) x13)] []
noncomputable def cd0 : Code := cL (cL (cR (cL (cR (cR (cB Try.f74))))))
def St3 : St := stL 27 [] []
def l0s {α : Type} (Nx : (List (Int × List (List Int) × Int × Unit)) → (List (Int × List (List Int) × Int × Unit)) → Int → Int → Option α) (Rt : Bool → Option α) (Xt0 : Option α) (x0 : List (Int × List (List Int) × Int × Unit)) (x1 : List (Int × List (List Int) × Int × Unit)) (x12 : Int) (x13 : Int) : Option α :=
  if (decide (x13 < x12)) = true then
    if 0 ≤ x13 ∧ x13 < (x0.length : Int) then
      if 0 ≤ x13 ∧ x13 < (x1.length : Int) then
        (Go.Bx.basculelaw_sameSet.run (List.getD x0 (Int.toNat x13) (0, [], 0, ())) (List.getD x1 (Int.toNat x13) (0, [], 0, ()))).bind fun y1 =>
        if (not y1) = true then
          Rt false
        else
          Nx x0 x1 x12 (IntKind.i64.wrap (x13 + 1))
      else none
    else none
  else
    Xt0
theorem l0s_eq {α : Type} (k : Nat) (next : St → Option α) (Q : Ex → St → Option α) (x0 : List (Int × List (List Int) × Int × Unit)) (x1 : List (Int × List (List Int) × Int × Unit)) (x12 : Int) (x13 : Int) :
    rnd C k cd0 12 Q next (St2 x0 x1 x12 x13) = l0s (fun (x0 : List (Int × List (List Int) × Int × Unit)) (x1 : List (Int × List (List Int) × Int × Unit)) (x12 : Int) (x13 : Int) => next (St2 x0 x1 x12 x13)) (fun (x4 : Bool) => Q .ret (St1 x4)) (Q (.exit 0) St3) x0 x1 x12 x13 := by
  have h : ∀ (D L : DT α), denJ D L Js C cd0 (lq C 12 next Q) (St2 x0 x1 x12 x13) =
        if (decide (x13 < x12)) = true then
          if 0 ≤ x13 ∧ x13 < (x0.length : Int) then
            if 0 ≤ x13 ∧ x13 < (x1.length : Int) then
              (Go.Bx.basculelaw_sameSet.run (List.getD x0 (Int.toNat x13) (0, [], 0, ())) (List.getD x1 (Int.toNat x13) (0, [], 0, ()))).bind fun y1 =>
              if (not y1) = true then
                Q .ret (St1 false)
              else
                next (St2 x0 x1 x12 (IntKind.i64.wrap (x13 + 1)))
            else none
          else none
        else
          Q (.exit 0) St3 := by
    intro D L; kernel_rfl
  refine (show rnd C k cd0 12 Q next (St2 x0 x1 x12 x13) = denJ (den C k) (lp C k) Js C cd0 (lq C 12 next Q) (St2 x0 x1 x12 x13) from (denJ_den _ _ _ _ _ _).symm).trans ((h (den C k) (lp C k)).trans ?_)
  first | rfl | kernel_rfl
def l0 {α : Type} (k : Nat) (Rt : Bool → Option α) (Xt0 : Option α) : Nat → (List (Int × List (List Int) × Int × Unit)) → (List (Int × List (List Int) × Int × Unit)) → Int → Int → Option α
  | 0, _, _, _, _ => none
  | n + 1, x0, x1, x12, x13 => l0s (l0 k Rt Xt0 n) Rt Xt0 x0 x1 x12 x13
theorem l0_eq {α : Type} (k : Nat) (Q : Ex → St → Option α) : ∀ (n : Nat) (x0 : List (Int × List (List Int) × Int × Unit)) (x1 : List (Int × List (List Int) × Int × Unit)) (x12 : Int) (x13 : Int), iter (rnd C k cd0 12 Q) n (St2 x0 x1 x12 x13) = l0 k (fun (x4 : Bool) => Q .ret (St1 x4)) (Q (.exit 0) St3) n x0 x1 x12 x13
  | 0, _, _, _, _ => rfl
  | n + 1, x0, x1, x12, x13 => (iter_succ _ _ _).trans ((l0s_eq k (iter (rnd C k cd0 12 Q) n) Q x0 x1 x12 x13).trans (congrArg (fun N => l0s N (fun (x4 : Bool) => Q .ret (St1 x4)) (Q (.exit 0) St3) x0 x1 x12 x13) (funext fun x0 => funext fun x1 => funext fun x12 => funext fun x13 => l0_eq k Q n x0 x1 x12 x13)))
theorem l0_congr {α : Type} (k : Nat) (Rt : Bool → Option α) (Xt0 : Option α) (Rtq : Bool → Option α) (Xt0q : Option α) (hRt : ∀ (x4 : Bool), Rt x4 = Rtq x4) (hXt0 : Xt0 = Xt0q) (n : Nat) (x0 : List (Int × List (List Int) × Int × Unit)) (x1 : List (Int × List (List Int) × Int × Unit)) (x12 : Int) (x13 : Int) : l0 k Rt Xt0 n x0 x1 x12 x13 = l0 k Rtq Xt0q n x0 x1 x12 x13 := by
  obtain rfl : Rt = Rtq := by funext x4; exact hRt x4
  obtain rfl : Xt0 = Xt0q := hXt0
  rfl
noncomputable def cd1 : Code := cR (cR (cR (cB Try.f74)))
def St4 : St := stL 27 [] []
def j0 {α : Type} (Rt : Bool → Option α) : Option α :=
  Rt true
theorem j0_eq {α : Type} (k : Nat) (Q : Ex → St → Option α) :
    (den C k) cd1 Q St4 = j0 (fun (x4 : Bool) => Q .ret (St1 x4)) := by
  have h : ∀ (D L : DT α), denJ D L Js C cd1 Q St4 =
        Q .ret (St1 true) := by
    intro D L; kernel_rfl
  refine (show (den C k) cd1 Q St4 = denJ (den C k) (lp C k) Js C cd1 Q St4 from (denJ_den _ _ _ _ _ _).symm).trans ((h (den C k) (lp C k)).trans ?_)
  first | rfl | kernel_rfl
theorem a0 {α : Type} (k : Nat) (Q : Ex → St → Option α) (x0 : List (Int × List (List Int) × Int × Unit)) (x1 : List (Int × List (List Int) × Int × Unit)) (x12 : Int) (x13 : Int) :
    (lp C k) cd0 (blkQ C 0 (sq (den C k) (lp C k) Js C cd1 Q)) (St2 x0 x1 x12 x13) = l0 k (fun (x4 : Bool) => (fun (x4 : Bool) => Q .ret (St1 x4)) x4) (j0 (fun (x4 : Bool) => Q .ret (St1 x4))) k x0 x1 x12 x13 :=
  (show (lp C k) cd0 (blkQ C 0 (sq (den C k) (lp C k) Js C cd1 Q)) (St2 x0 x1 x12 x13) = iter (rnd C k cd0 12 (blkQ C 0 (sq (den C k) (lp C k) Js C cd1 Q))) k (St2 x0 x1 x12 x13) by kernel_rfl).trans ((l0_eq k (blkQ C 0 (sq (den C k) (lp C k) Js C cd1 Q)) k x0 x1 x12 x13).trans (l0_congr k _ _ _ _ (fun x4 => (show (blkQ C 0 (sq (den C k) (lp C k) Js C cd1 Q)) .ret (St1 x4) = Q .ret (St1 x4) by kernel_rfl)) ((show (blkQ C 0 (sq (den C k) (lp C k) Js C cd1 Q)) (.exit 0) St3 = (den C k) cd1 Q St4 by kernel_rfl).trans (by simp only [j0_eq])) k x0 x1 x12 x13))
def top {α : Type} (k : Nat) (Rt : Bool → Option α) (x0 : List (Int × List (List Int) × Int × Unit)) (x1 : List (Int × List (List Int) × Int × Unit)) : Option α :=
  if ((x0.length : Int) != (x1.length : Int)) = true then
    Rt false
  else
    l0 k (fun (x4 : Bool) => Rt x4) (j0 Rt) k x0 x1 (x0.length : Int) 0
theorem top_eq {α : Type} (k : Nat) (Q : Ex → St → Option α) (x0 : List (Int × List (List Int) × Int × Unit)) (x1 : List (Int × List (List Int) × Int × Unit)) :
    (den C k) (cB Try.f74) Q (St0 x0 x1) = top k (fun (x4 : Bool) => Q .ret (St1 x4)) x0 x1 := by
  have h : ∀ (D L : DT α), denJ D L Js C (cB Try.f74) Q (St0 x0 x1) =
        if ((x0.length : Int) != (x1.length : Int)) = true then
          Q .ret (St1 false)
        else
          L cd0 (blkQ C 0 (sq D L Js C cd1 Q)) (St2 x0 x1 (x0.length : Int) 0) := by
    intro D L; kernel_rfl
  refine (show (den C k) (cB Try.f74) Q (St0 x0 x1) = denJ (den C k) (lp C k) Js C (cB Try.f74) Q (St0 x0 x1) from (denJ_den _ _ _ _ _ _).symm).trans ((h (den C k) (lp C k)).trans ?_)
  simp only [a0]
  first | rfl | kernel_rfl
def run (x0 : List (Int × List (List Int) × Int × Unit)) (x1 : List (Int × List (List Int) × Int × Unit)) : Option (Bool) := top (α := Bool) fuel (fun (x4 : Bool) => some x4) x0 x1
def F : Fn := ⟨(.pair (.sl (.pair (.int .i64) (.pair (.sl (.arr 20 (.int .u8))) (.pair (.int .i64) .unit)))) (.pair (.sl (.pair (.int .i64) (.pair (.sl (.arr 20 (.int .u8))) (.pair (.int .i64) .unit)))) .unit)), .bool, false, fun x => run x.1 x.2.1⟩
set_option maxRecDepth 100000 in
theorem con : Con Try.prog 74 F := by
  refine con_of_den (C := C) (ctx_ok (by kernel_rfl) (by kernel_rfl) (by kernel_rfl) (by kernel_rfl) ⟨.inl ⟨Go.Bx.basculelaw_sameSet.con, Go.Bx.basculelaw_sameSet.named⟩, trivial⟩) (by kernel_rfl) Try.func74 (c := cB Try.f74) (by kernel_rfl) (by kernel_rfl) F fuel (fun x => by simp [F, spread, Try.ntmps74]) ?_
  intro x r h
  rw [← h]
  have h1 : start F Try.f74.ntmps x = (St0 x.1 x.2.1) := by kernel_rfl
  rw [h1]
  refine (top_eq fuel (fin C Try.f74.results.toList F.rs F.multi) x.1 x.2.1).trans ?_
  kernel_rfl
theorem named : Named Try.prog 74 := named_of Try.func74 (by kernel_rfl) (by kernel_rfl)
end Go.Bx.basculelaw_sameSets
namespace Go.Bx.basculeref_upTo
open Go Go.Proofs Go.Bx
set_option maxRecDepth 100000
set_option linter.unusedVariables false
def Js : List Nat := []
def C : Ctx := ⟨[(3, (.int .i64)), (4, .bool)], [], [], fnL [], noSh, [], invL [], [(2, [4])], [], [], 0, 0⟩
def St0 (x0 : Int) (x1 : Int) : St := stL 12 [(0, .data (.int .i64) x0), (1, .data (.int .i64) x1)] []
def St1 (x4 : Bool) : St := stL 12 [(4, .data .bool x4)] []
def top {α : Type} (Rt : Bool → Option α) (x0 : Int) (x1 : Int) : Option α :=
  Rt (cond (decide (0 ≤ x0)) (decide (x0 ≤ x1)) false)
theorem top_eq {α : Type} (k : Nat) (Q : Ex → St → Option α) (x0 : Int) (x1 : Int) :
    (den C k) (cB Try.f66) Q (St0 x0 x1) = top (fun (x4 : Bool) => Q .ret (St1 x4)) x0 x1 := by
  have h : ∀ (D L : DT α), denJ D L Js C (cB Try.f66) Q (St0 x0 x1) =
        Q .ret (St1 (cond (decide (0 ≤ x0)) (decide (x0 ≤ x1)) false)) := by
    intro D L; kernel_rfl
  refine (show (den C k) (cB Try.f66) Q (St0 x0 x1) = denJ (den C k) (lp C k) Js C (cB Try.f66) Q (St0 x0 x1) from (denJ_den _ _ _ _ _ _).symm).trans ((h (den C k) (lp C k)).trans ?_)
  first | rfl | kernel_rfl
def run (x0 : Int) (x1 : Int) : Option (Bool) := top (α := Bool) (fun (x4 : Bool) => some x4) x0 x1
def F : Fn := ⟨(.pair (.int .i64) (.pair (.int .i64) .unit)), .bool, false, fun x => run x.1 x.2.1⟩
set_option maxRecDepth 100000 in
theorem con : Con Try.prog 66 F := by
  refine con_of_den (C := C) (ctx_ok (by kernel_rfl) (by kernel_rfl) (by kernel_rfl) (by kernel_rfl) trivial) (by kernel_rfl) Try.func66 (c := cB Try.f66) (by kernel_rfl) (by kernel_rfl) F fuel (fun x => by simp [F, spread, Try.ntmps66]) ?_
  intro x r h
  rw [← h]
  have h1 : start F Try.f66.ntmps x = (St0 x.1 x.2.1) := by kernel_rfl
  rw [h1]
  refine (top_eq fuel (fin C Try.f66.results.toList F.rs F.multi) x.1 x.2.1).trans ?_
  kernel_rfl
theorem named : Named Try.prog 66 := named_of Try.func66 (by kernel_rfl) (by kernel_rfl)
end Go.Bx.basculeref_upTo
namespace Go.Bx.basculeref_SameBody
open Go Go.Proofs Go.Bx
set_option maxRecDepth 100000
set_option linter.unusedVariables false
def Js : List Nat := []
def C : Ctx := ⟨[(3, (.int .i64)), (4, .bool), (9, .str), (39, (.arr 32 (.int .u8))), (40, (.sl (.int .u8))), (42, (.pair (.int .i64) (.pair (.int .i64) (.pair (.int .i64) (.pair (.arr 32 (.int .u8)) (.pair (.int .i64) (.pair (.int .i64) (.pair (.sl (.int .u8)) .unit))))))))], [], [], fnL [], noSh, [], invL [], [(2, [4])], [], [], 0, 0⟩
def St0 (x0 : Int × Int × Int × List Int × Int × Int × List Int × Unit) (x1 : Int × Int × Int × List Int × Int × Int × List Int × Unit) : St := stL 54 [(0, .data (.pair (.int .i64) (.pair (.int .i64) (.pair (.int .i64) (.pair (.arr 32 (.int .u8)) (.pair (.int .i64) (.pair (.int .i64) (.pair (.sl (.int .u8)) .unit))))))) x0), (1, .data (.pair (.int .i64) (.pair (.int .i64) (.pair (.int .i64) (.pair (.arr 32 (.int .u8)) (.pair (.int .i64) (.pair (.int .i64) (.pair (.sl (.int .u8)) .unit))))))) x1)] []
def St1 (x4 : Bool) : St := stL 54 [(4, .data .bool x4)] []
def top {α : Type} (Rt : Bool → Option α) (x0 : Int × Int × Int × List Int × Int × Int × List Int × Unit) (x1 : Int × Int × Int × List Int × Int × Int × List Int × Unit) : Option α :=
  Rt (cond (cond (cond (cond (cond (cond (x0.1 == x1.1) (x0.2.1 == x1.2.1) false) (x0.2.2.1 == x1.2.2.1) false) (beqD (.arr 32 (.int .u8)) x0.2.2.2.1 x1.2.2.2.1) false) (x0.2.2.2.2.1 == x1.2.2.2.2.1) false) (x0.2.2.2.2.2.1 == x1.2.2.2.2.2.1) false) (beqD .str x0.2.2.2.2.2.2.1 x1.2.2.2.2.2.2.1) false)
theorem top_eq {α : Type} (k : Nat) (Q : Ex → St → Option α) (x0 : Int × Int × Int × List Int × Int × Int × List Int × Unit) (x1 : Int × Int × Int × List Int × Int × Int × List Int × Unit) :
    (den C k) (cB Try.f145) Q (St0 x0 x1) = top (fun (x4 : Bool) => Q .ret (St1 x4)) x0 x1 := by
  have h : ∀ (D L : DT α), denJ D L Js C (cB Try.f145) Q (St0 x0 x1) =
        Q .ret (St1 (cond (cond (cond (cond (cond (cond (x0.1 == x1.1) (x0.2.1 == x1.2.1) false) (x0.2.2.1 == x1.2.2.1) false) (beqD (.arr 32 (.int .u8)) x0.2.2.2.1 x1.2.2.2.1) false) (x0.2.2.2.2.1 == x1.2.2.2.2.1) false) (x0.2.2.2.2.2.1 == x1.2.2.2.2.2.1) false) (beqD .str x0.2.2.2.2.2.2.1 x1.2.2.2.2.2.2.1) false)) := by
    intro D L; kernel_rfl
  refine (show (den C k) (cB Try.f145) Q (St0 x0 x1) = denJ (den C k) (lp C k) Js C (cB Try.f145) Q (St0 x0 x1) from (denJ_den _ _ _ _ _ _).symm).trans ((h (den C k) (lp C k)).trans ?_)
  first | rfl | kernel_rfl
def run (x0 : Int × Int × Int × List Int × Int × Int × List Int × Unit) (x1 : Int × Int × Int × List Int × Int × Int × List Int × Unit) : Option (Bool) := top (α := Bool) (fun (x4 : Bool) => some x4) x0 x1
def F : Fn := ⟨(.pair (.pair (.int .i64) (.pair (.int .i64) (.pair (.int .i64) (.pair (.arr 32 (.int .u8)) (.pair (.int .i64) (.pair (.int .i64) (.pair (.sl (.int .u8)) .unit))))))) (.pair (.pair (.int .i64) (.pair (.int .i64) (.pair (.int .i64) (.pair (.arr 32 (.int .u8)) (.pair (.int .i64) (.pair (.int .i64) (.pair (.sl (.int .u8)) .unit))))))) .unit)), .bool, false, fun x => run x.1 x.2.1⟩
set_option maxRecDepth 100000 in
theorem con : Con Try.prog 145 F := by
  refine con_of_den (C := C) (ctx_ok (by kernel_rfl) (by kernel_rfl) (by kernel_rfl) (by kernel_rfl) trivial) (by kernel_rfl) Try.func145 (c := cB Try.f145) (by kernel_rfl) (by kernel_rfl) F fuel (fun x => by simp [F, spread, Try.ntmps145]) ?_
  intro x r h
  rw [← h]
  have h1 : start F Try.f145.ntmps x = (St0 x.1 x.2.1) := by kernel_rfl
  rw [h1]
  refine (top_eq fuel (fin C Try.f145.results.toList F.rs F.multi) x.1 x.2.1).trans ?_
  kernel_rfl
theorem named : Named Try.prog 145 := named_of Try.func145 (by kernel_rfl) (by kernel_rfl)
end Go.Bx.basculeref_SameBody
namespace Go.Bx.basculelaw_sameBytes
open Go Go.Proofs Go.Bx
set_option maxRecDepth 100000
set_option linter.unusedVariables false
def Js : List Nat := []
def C : Ctx := ⟨[(4, .bool), (9, .str), (40, (.sl (.int .u8)))], [], [], fnL [], noSh, [], invL [], [(2, [4])], [], [], 0, 0⟩
def St0 (x0 : List Int) (x1 : List Int) : St := stL 10 [(0, .data (.sl (.int .u8)) x0), (1, .data (.sl (.int .u8)) x1)] []
def St1 (x4 : Bool) : St := stL 10 [(4, .data .bool x4)] []
def top {α : Type} (Rt : Bool → Option α) (x0 : List Int) (x1 : List Int) : Option α :=
  Rt (beqD .str x0 x1)
theorem top_eq {α : Type} (k : Nat) (Q : Ex → St → Option α) (x0 : List Int) (x1 : List Int) :
    (den C k) (cB Try.f160) Q (St0 x0 x1) = top (fun (x4 : Bool) => Q .ret (St1 x4)) x0 x1 := by
  have h : ∀ (D L : DT α), denJ D L Js C (cB Try.f160) Q (St0 x0 x1) =
        Q .ret (St1 (beqD .str x0 x1)) := by
    intro D L; kernel_rfl
  refine (show (den C k) (cB Try.f160) Q (St0 x0 x1) = denJ (den C k) (lp C k) Js C (cB Try.f160) Q (St0 x0 x1) from (denJ_den _ _ _ _ _ _).symm).trans ((h (den C k) (lp C k)).trans ?_)
  first | rfl | kernel_rfl
def run (x0 : List Int) (x1 : List Int) : Option (Bool) := top (α := Bool) (fun (x4 : Bool) => some x4) x0 x1
def F : Fn := ⟨(.pair (.sl (.int .u8)) (.pair (.sl (.int .u8)) .unit)), .bool, false, fun x => run x.1 x.2.1⟩
set_option maxRecDepth 100000 in
theorem con : Con Try.prog 160 F := by
  refine con_of_den (C := C) (ctx_ok (by kernel_rfl) (by kernel_rfl) (by kernel_rfl) (by kernel_rfl) trivial) (by kernel_rfl) Try.func160 (c := cB Try.f160) (by kernel_rfl) (by kernel_rfl) F fuel (fun x => by simp [F, spread, Try.ntmps160]) ?_
  intro x r h
  rw [← h]
  have h1 : start F Try.f160.ntmps x = (St0 x.1 x.2.1) := by kernel_rfl
  rw [h1]
  refine (top_eq fuel (fin C Try.f160.results.toList F.rs F.multi) x.1 x.2.1).trans ?_
  kernel_rfl
theorem named : Named Try.prog 160 := named_of Try.func160 (by kernel_rfl) (by kernel_rfl)
end Go.Bx.basculelaw_sameBytes
namespace Go.Bx.paper_Check_1
open Go Go.Proofs Go.Bx
set_option maxRecDepth 100000
set_option linter.unusedVariables false
def Js : List Nat := []
def C : Ctx := ⟨[(3, (.int .i64)), (4, .bool)], [], [], fnL [], noSh, [], invL [], [(2, [4])], [], [], 0, 0⟩
def St0 (x0 : Int) (x1 : Int) : St := stL 12 [(0, .data (.int .i64) x0), (1, .data (.int .i64) x1)] []
def St1 (x4 : Bool) : St := stL 12 [(4, .data .bool x4)] []
def top {α : Type} (Rt : Bool → Option α) (x0 : Int) (x1 : Int) : Option α :=
  Rt (cond (decide (x0 ≥ 0)) (decide (x0 ≤ x1)) false)
theorem top_eq {α : Type} (k : Nat) (Q : Ex → St → Option α) (x0 : Int) (x1 : Int) :
    (den C k) (cB Try.f137) Q (St0 x0 x1) = top (fun (x4 : Bool) => Q .ret (St1 x4)) x0 x1 := by
  have h : ∀ (D L : DT α), denJ D L Js C (cB Try.f137) Q (St0 x0 x1) =
        Q .ret (St1 (cond (decide (x0 ≥ 0)) (decide (x0 ≤ x1)) false)) := by
    intro D L; kernel_rfl
  refine (show (den C k) (cB Try.f137) Q (St0 x0 x1) = denJ (den C k) (lp C k) Js C (cB Try.f137) Q (St0 x0 x1) from (denJ_den _ _ _ _ _ _).symm).trans ((h (den C k) (lp C k)).trans ?_)
  first | rfl | kernel_rfl
def run (x0 : Int) (x1 : Int) : Option (Bool) := top (α := Bool) (fun (x4 : Bool) => some x4) x0 x1
def F : Fn := ⟨(.pair (.int .i64) (.pair (.int .i64) .unit)), .bool, false, fun x => run x.1 x.2.1⟩
set_option maxRecDepth 100000 in
theorem con : Con Try.prog 137 F := by
  refine con_of_den (C := C) (ctx_ok (by kernel_rfl) (by kernel_rfl) (by kernel_rfl) (by kernel_rfl) trivial) (by kernel_rfl) Try.func137 (c := cB Try.f137) (by kernel_rfl) (by kernel_rfl) F fuel (fun x => by simp [F, spread, Try.ntmps137]) ?_
  intro x r h
  rw [← h]
  have h1 : start F Try.f137.ntmps x = (St0 x.1 x.2.1) := by kernel_rfl
  rw [h1]
  refine (top_eq fuel (fin C Try.f137.results.toList F.rs F.multi) x.1 x.2.1).trans ?_
  kernel_rfl
theorem named : Named Try.prog 137 := named_of Try.func137 (by kernel_rfl) (by kernel_rfl)
end Go.Bx.paper_Check_1
namespace Go.Bx.paper_Check
open Go Go.Proofs Go.Bx
set_option maxRecDepth 100000
set_option linter.unusedVariables false
def Js : List Nat := []
def C : Ctx := ⟨[(3, (.int .i64)), (31, (.int .i64)), (40, (.sl (.int .u8))), (42, (.pair (.int .i64) (.pair (.int .i64) (.pair (.int .i64) (.pair (.arr 32 (.int .u8)) (.pair (.int .i64) (.pair (.int .i64) (.pair (.sl (.int .u8)) .unit))))))))], [], [], fnL [(137, Go.Bx.paper_Check_1.F)], noSh, [], invL [], [(2, [2])], [], [], 0, 0⟩
def St0 (x0 : Int × Int × Int × List Int × Int × Int × List Int × Unit) : St := stL 41 [(0, .data (.pair (.int .i64) (.pair (.int .i64) (.pair (.int .i64) (.pair (.arr 32 (.int .u8)) (.pair (.int .i64) (.pair (.int .i64) (.pair (.sl (.int .u8)) .unit))))))) x0)] []
def St1 (x2 : Int) : St := stL 41 [(2, .data (.int .i64) x2)] []
def top {α : Type} (Rt : Int → Option α) (x0 : Int × Int × Int × List Int × Int × Int × List Int × Unit) : Option α :=
  (Go.Bx.paper_Check_1.run x0.1 1099511627776).bind fun y1 =>
  (if ((not y1) == false) = true then Go.Bx.paper_Check_1.run x0.2.1 4294967295 else some false).bind fun y2 =>
  (if ((cond (not y1) true (not y2)) == false) = true then Go.Bx.paper_Check_1.run x0.2.2.1 65535 else some false).bind fun y3 =>
  (if ((cond (cond (not y1) true (not y2)) true (not y3)) == false) = true then Go.Bx.paper_Check_1.run x0.2.2.2.2.1 1099511627776 else some false).bind fun y4 =>
  (if ((cond (cond (cond (not y1) true (not y2)) true (not y3)) true (not y4)) == false) = true then Go.Bx.paper_Check_1.run x0.2.2.2.2.2.1 255 else some false).bind fun y5 =>
  if (cond (cond (cond (cond (not y1) true (not y2)) true (not y3)) true (not y4)) true (not y5)) = true then
    Rt 6
  else
    if (decide ((x0.2.2.2.2.2.2.1.length : Int) > 300)) = true then
      Rt 1
    else
      Rt 0
theorem top_eq {α : Type} (k : Nat) (Q : Ex → St → Option α) (x0 : Int × Int × Int × List Int × Int × Int × List Int × Unit) :
    (den C k) (cB Try.f63) Q (St0 x0) = top (fun (x2 : Int) => Q .ret (St1 x2)) x0 := by
  have h : ∀ (D L : DT α), denJ D L Js C (cB Try.f63) Q (St0 x0) =
        (Go.Bx.paper_Check_1.run x0.1 1099511627776).bind fun y1 =>
        (if ((not y1) == false) = true then Go.Bx.paper_Check_1.run x0.2.1 4294967295 else some false).bind fun y2 =>
        (if ((cond (not y1) true (not y2)) == false) = true then Go.Bx.paper_Check_1.run x0.2.2.1 65535 else some false).bind fun y3 =>
        (if ((cond (cond (not y1) true (not y2)) true (not y3)) == false) = true then Go.Bx.paper_Check_1.run x0.2.2.2.2.1 1099511627776 else some false).bind fun y4 =>
        (if ((cond (cond (cond (not y1) true (not y2)) true (not y3)) true (not y4)) == false) = true then Go.Bx.paper_Check_1.run x0.2.2.2.2.2.1 255 else some false).bind fun y5 =>
        if (cond (cond (cond (cond (not y1) true (not y2)) true (not y3)) true (not y4)) true (not y5)) = true then
          Q .ret (St1 6)
        else
          if (decide ((x0.2.2.2.2.2.2.1.length : Int) > 300)) = true then
            Q .ret (St1 1)
          else
            Q .ret (St1 0) := by
    intro D L; kernel_rfl
  refine (show (den C k) (cB Try.f63) Q (St0 x0) = denJ (den C k) (lp C k) Js C (cB Try.f63) Q (St0 x0) from (denJ_den _ _ _ _ _ _).symm).trans ((h (den C k) (lp C k)).trans ?_)
  first | rfl | kernel_rfl
def run (x0 : Int × Int × Int × List Int × Int × Int × List Int × Unit) : Option (Int) := top (α := Int) (fun (x2 : Int) => some x2) x0
def F : Fn := ⟨(.pair (.pair (.int .i64) (.pair (.int .i64) (.pair (.int .i64) (.pair (.arr 32 (.int .u8)) (.pair (.int .i64) (.pair (.int .i64) (.pair (.sl (.int .u8)) .unit))))))) .unit), (.int .i64), false, fun x => run x.1⟩
set_option maxRecDepth 100000 in
theorem con : Con Try.prog 63 F := by
  refine con_of_den (C := C) (ctx_ok (by kernel_rfl) (by kernel_rfl) (by kernel_rfl) (by kernel_rfl) ⟨.inl ⟨Go.Bx.paper_Check_1.con, Go.Bx.paper_Check_1.named⟩, trivial⟩) (by kernel_rfl) Try.func63 (c := cB Try.f63) (by kernel_rfl) (by kernel_rfl) F fuel (fun x => by simp [F, spread, Try.ntmps63]) ?_
  intro x r h
  rw [← h]
  have h1 : start F Try.f63.ntmps x = (St0 x.1) := by kernel_rfl
  rw [h1]
  refine (top_eq fuel (fin C Try.f63.results.toList F.rs F.multi) x.1).trans ?_
  kernel_rfl
theorem named : Named Try.prog 63 := named_of Try.func63 (by kernel_rfl) (by kernel_rfl)
end Go.Bx.paper_Check
namespace Go.Bx.basculeref_BodyFault
open Go Go.Proofs Go.Bx
set_option maxRecDepth 100000
set_option linter.unusedVariables false
def Js : List Nat := [8]
def C : Ctx := ⟨[(3, (.int .i64)), (31, (.int .i64)), (40, (.sl (.int .u8))), (42, (.pair (.int .i64) (.pair (.int .i64) (.pair (.int .i64) (.pair (.arr 32 (.int .u8)) (.pair (.int .i64) (.pair (.int .i64) (.pair (.sl (.int .u8)) .unit)))))))), (163, (.arr 2 (.int .i64))), (164, (.sl (.arr 2 (.int .i64))))], [], [], fnL [(66, Go.Bx.basculeref_upTo.F)], noSh, [], invL [], [(2, [2]), (1, [1]), (4, [1, 20, 21, 22]), (6, [1, 20, 21, 22]), (21, [1])], [], [], 0, 0⟩
def St0 (x0 : Int × Int × Int × List Int × Int × Int × List Int × Unit) : St := stL 37 [(0, .data (.pair (.int .i64) (.pair (.int .i64) (.pair (.int .i64) (.pair (.arr 32 (.int .u8)) (.pair (.int .i64) (.pair (.int .i64) (.pair (.sl (.int .u8)) .unit))))))) x0)] []
def St1 (x20 : List (List Int)) (x21 : Int) (x22 : Int) (c1 : Int × Int × Int × List Int × Int × Int × List Int × Unit) : St := stL 37 [(1, .ref 1 0 []), (20, .full (.arr 2 (.int .i64)) x20), (21, .data (.int .i64) x21), (22, .data (.int .i64) x22)] [(1, .cell (.pair (.int .i64) (.pair (.int .i64) (.pair (.int .i64) (.pair (.arr 32 (.int .u8)) (.pair (.int .i64) (.pair (.int .i64) (.pair (.sl (.int .u8)) .unit))))))) (.data (.pair (.int .i64) (.pair (.int .i64) (.pair (.int .i64) (.pair (.arr 32 (.int .u8)) (.pair (.int .i64) (.pair (.int .i64) (.pair (.sl (.int .u8)) .unit))))))) c1) false)]
noncomputable def cd0 : Code := cL (cL (cR (cL (cR (cB Try.f69)))))
def St2 (x2 : Int) : St := stL 37 [(2, .data (.int .i64) x2)] []
def St3 (c1 : Int × Int × Int × List Int × Int × Int × List Int × Unit) : St := stL 37 [(1, .ref 1 0 [])] [(1, .cell (.pair (.int .i64) (.pair (.int .i64) (.pair (.int .i64) (.pair (.arr 32 (.int .u8)) (.pair (.int .i64) (.pair (.int .i64) (.pair (.sl (.int .u8)) .unit))))))) (.data (.pair (.int .i64) (.pair (.int .i64) (.pair (.int .i64) (.pair (.arr 32 (.int .u8)) (.pair (.int .i64) (.pair (.int .i64) (.pair (.sl (.int .u8)) .unit))))))) c1) false)]
def l0s {α : Type} (Nx : (List (List Int)) → Int → Int → (Int × Int × Int × List Int × Int × Int × List Int × Unit) → Option α) (Rt : Int → Option α) (Xt0 : (Int × Int × Int × List Int × Int × Int × List Int × Unit) → Option α) (x20 : List (List Int)) (x21 : Int) (x22 : Int) (c1 : Int × Int × Int × List Int × Int × Int × List Int × Unit) : Option α :=
  if (decide (x22 < x21)) = true then
    if 0 ≤ x22 ∧ x22 < (x20.length : Int) then
      (Go.Bx.basculeref_upTo.run (List.getD (List.getD x20 (Int.toNat x22) [0, 0]) 0 0) (List.getD (List.getD x20 (Int.toNat x22) [0, 0]) 1 0)).bind fun y1 =>
      if (not y1) = true then
        Rt 6
      else
        Nx x20 x21 (IntKind.i64.wrap (x22 + 1)) c1
    else none
  else
    Xt0 c1
theorem l0s_eq {α : Type} (k : Nat) (next : St → Option α) (Q : Ex → St → Option α) (x20 : List (List Int)) (x21 : Int) (x22 : Int) (c1 : Int × Int × Int × List Int × Int × Int × List Int × Unit) :
    rnd C k cd0 6 Q next (St1 x20 x21 x22 c1) = l0s (fun (x20 : List (List Int)) (x21 : Int) (x22 : Int) (c1 : Int × Int × Int × List Int × Int × Int × List Int × Unit) => next (St1 x20 x21 x22 c1)) (fun (x2 : Int) => Q .ret (St2 x2)) (fun (c1 : Int × Int × Int × List Int × Int × Int × List Int × Unit) => Q (.exit 0) (St3 c1)) x20 x21 x22 c1 := by
  have h : ∀ (D L : DT α), denJ D L Js C cd0 (lq C 6 next Q) (St1 x20 x21 x22 c1) =
        if (decide (x22 < x21)) = true then
          if 0 ≤ x22 ∧ x22 < (x20.length : Int) then
            (Go.Bx.basculeref_upTo.run (List.getD (List.getD x20 (Int.toNat x22) [0, 0]) 0 0) (List.getD (List.getD x20 (Int.toNat x22) [0, 0]) 1 0)).bind fun y1 =>
            if (not y1) = true then
              Q .ret (St2 6)
            else
              next (St1 x20 x21 (IntKind.i64.wrap (x22 + 1)) c1)
          else none
        else
          Q (.exit 0) (St3 c1) := by
    intro D L; kernel_rfl
  refine (show rnd C k cd0 6 Q next (St1 x20 x21 x22 c1) = denJ (den C k) (lp C k) Js C cd0 (lq C 6 next Q) (St1 x20 x21 x22 c1) from (denJ_den _ _ _ _ _ _).symm).trans ((h (den C k) (lp C k)).trans ?_)
  first | rfl | kernel_rfl
def l0 {α : Type} (k : Nat) (Rt : Int → Option α) (Xt0 : (Int × Int × Int × List Int × Int × Int × List Int × Unit) → Option α) : Nat → (List (List Int)) → Int → Int → (Int × Int × Int × List Int × Int × Int × List Int × Unit) → Option α
  | 0, _, _, _, _ => none
  | n + 1, x20, x21, x22, c1 => l0s (l0 k Rt Xt0 n) Rt Xt0 x20 x21 x22 c1
theorem l0_eq {α : Type} (k : Nat) (Q : Ex → St → Option α) : ∀ (n : Nat) (x20 : List (List Int)) (x21 : Int) (x22 : Int) (c1 : Int × Int × Int × List Int × Int × Int × List Int × Unit), iter (rnd C k cd0 6 Q) n (St1 x20 x21 x22 c1) = l0 k (fun (x2 : Int) => Q .ret (St2 x2)) (fun (c1 : Int × Int × Int × List Int × Int × Int × List Int × Unit) => Q (.exit 0) (St3 c1)) n x20 x21 x22 c1
  | 0, _, _, _, _ => rfl
  | n + 1, x20, x21, x22, c1 => (iter_succ _ _ _).trans ((l0s_eq k (iter (rnd C k cd0 6 Q) n) Q x20 x21 x22 c1).trans (congrArg (fun N => l0s N (fun (x2 : Int) => Q .ret (St2 x2)) (fun (c1 : Int × Int × Int × List Int × Int × Int × List Int × Unit) => Q (.exit 0) (St3 c1)) x20 x21 x22 c1) (funext fun x20 => funext fun x21 => funext fun x22 => funext fun c1 => l0_eq k Q n x20 x21 x22 c1)))
theorem l0_congr {α : Type} (k : Nat) (Rt : Int → Option α) (Xt0 : (Int × Int × Int × List Int × Int × Int × List Int × Unit) → Option α) (Rtq : Int → Option α) (Xt0q : (Int × Int × Int × List Int × Int × Int × List Int × Unit) → Option α) (hRt : ∀ (x2 : Int), Rt x2 = Rtq x2) (hXt0 : ∀ (c1 : Int × Int × Int × List Int × Int × Int × List Int × Unit), Xt0 c1 = Xt0q c1) (n : Nat) (x20 : List (List Int)) (x21 : Int) (x22 : Int) (c1 : Int × Int × Int × List Int × Int × Int × List Int × Unit) : l0 k Rt Xt0 n x20 x21 x22 c1 = l0 k Rtq Xt0q n x20 x21 x22 c1 := by
  obtain rfl : Rt = Rtq := by funext x2; exact hRt x2
  obtain rfl : Xt0 = Xt0q := by funext c1; exact hXt0 c1
  rfl
noncomputable def cd1 : Code := cR (cR (cB Try.f69))
def St4 (c1 : Int × Int × Int × List Int × Int × Int × List Int × Unit) : St := stL 37 [(1, .ref 1 0 [])] [(1, .cell (.pair (.int .i64) (.pair (.int .i64) (.pair (.int .i64) (.pair (.arr 32 (.int .u8)) (.pair (.int .i64) (.pair (.int .i64) (.pair (.sl (.int .u8)) .unit))))))) (.data (.pair (.int .i64) (.pair (.int .i64) (.pair (.int .i64) (.pair (.arr 32 (.int .u8)) (.pair (.int .i64) (.pair (.int .i64) (.pair (.sl (.int .u8)) .unit))))))) c1) false)]
def j0 {α : Type} (Rt : Int → Option α) (c1 : Int × Int × Int × List Int × Int × Int × List Int × Unit) : Option α :=
  if (decide ((c1.2.2.2.2.2.2.1.length : Int) > 300)) = true then
    Rt 1
  else
    Rt 0
theorem j0_eq {α : Type} (k : Nat) (Q : Ex → St → Option α) (c1 : Int × Int × Int × List Int × Int × Int × List Int × Unit) :
    (den C k) cd1 Q (St4 c1) = j0 (fun (x2 : Int) => Q .ret (St2 x2)) c1 := by
  have h : ∀ (D L : DT α), denJ D L Js C cd1 Q (St4 c1) =
        if (decide ((c1.2.2.2.2.2.2.1.length : Int) > 300)) = true then
          Q .ret (St2 1)
        else
          Q .ret (St2 0) := by
    intro D L; kernel_rfl
  refine (show (den C k) cd1 Q (St4 c1) = denJ (den C k) (lp C k) Js C cd1 Q (St4 c1) from (denJ_den _ _ _ _ _ _).symm).trans ((h (den C k) (lp C k)).trans ?_)
  first | rfl | kernel_rfl
theorem a0 {α : Type} (k : Nat) (Q : Ex → St → Option α) (x20 : List (List Int)) (x21 : Int) (x22 : Int) (c1 : Int × Int × Int × List Int × Int × Int × List Int × Unit) :
    (lp C k) cd0 (blkQ C 0 (sq (den C k) (lp C k) Js C cd1 Q)) (St1 x20 x21 x22 c1) = l0 k (fun (x2 : Int) => (fun (x2 : Int) => Q .ret (St2 x2)) x2) (fun (c1 : Int × Int × Int × List Int × Int × Int × List Int × Unit) => j0 (fun (x2 : Int) => Q .ret (St2 x2)) c1) k x20 x21 x22 c1 :=
  (show (lp C k) cd0 (blkQ C 0 (sq (den C k) (lp C k) Js C cd1 Q)) (St1 x20 x21 x22 c1) = iter (rnd C k cd0 6 (blkQ C 0 (sq (den C k) (lp C k) Js C cd1 Q))) k (St1 x20 x21 x22 c1) by kernel_rfl).trans ((l0_eq k (blkQ C 0 (sq (den C k) (lp C k) Js C cd1 Q)) k x20 x21 x22 c1).trans (l0_congr k _ _ _ _ (fun x2 => (show (blkQ C 0 (sq (den C k) (lp C k) Js C cd1 Q)) .ret (St2 x2) = Q .ret (St2 x2) by kernel_rfl)) (fun c1 => ((show (blkQ C 0 (sq (den C k) (lp C k) Js C cd1 Q)) (.exit 0) (St3 c1) = (den C k) cd1 Q (St4 c1) by kernel_rfl).trans (by simp only [j0_eq]))) k x20 x21 x22 c1))
def top {α : Type} (k : Nat) (Rt : Int → Option α) (x0 : Int × Int × Int × List Int × Int × Int × List Int × Unit) : Option α :=
  l0 k (fun (x2 : Int) => Rt x2) (fun (c1 : Int × Int × Int × List Int × Int × Int × List Int × Unit) => j0 Rt c1) k [[x0.1, 1099511627776], [x0.2.1, 4294967295], [x0.2.2.1, 65535], [x0.2.2.2.2.1, 1099511627776], [x0.2.2.2.2.2.1, 255]] 5 0 x0
theorem top_eq {α : Type} (k : Nat) (Q : Ex → St → Option α) (x0 : Int × Int × Int × List Int × Int × Int × List Int × Unit) :
    (den C k) (cB Try.f69) Q (St0 x0) = top k (fun (x2 : Int) => Q .ret (St2 x2)) x0 := by
  have h : ∀ (D L : DT α), denJ D L Js C (cB Try.f69) Q (St0 x0) =
        L cd0 (blkQ C 0 (sq D L Js C cd1 Q)) (St1 [[x0.1, 1099511627776], [x0.2.1, 4294967295], [x0.2.2.1, 65535], [x0.2.2.2.2.1, 1099511627776], [x0.2.2.2.2.2.1, 255]] 5 0 x0) := by
    intro D L; kernel_rfl
  refine (show (den C k) (cB Try.f69) Q (St0 x0) = denJ (den C k) (lp C k) Js C (cB Try.f69) Q (St0 x0) from (denJ_den _ _ _ _ _ _).symm).trans ((h (den C k) (lp C k)).trans ?_)
  simp only [a0]
  first | rfl | kernel_rfl
def run (x0 : Int × Int × Int × List Int × Int × Int × List Int × Unit) : Option (Int) := top (α := Int) fuel (fun (x2 : Int) => some x2) x0
def F : Fn := ⟨(.pair (.pair (.int .i64) (.pair (.int .i64) (.pair (.int .i64) (.pair (.arr 32 (.int .u8)) (.pair (.int .i64) (.pair (.int .i64) (.pair (.sl (.int .u8)) .unit))))))) .unit), (.int .i64), false, fun x => run x.1⟩
set_option maxRecDepth 100000 in
theorem con : Con Try.prog 69 F := by
  refine con_of_den (C := C) (ctx_ok (by kernel_rfl) (by kernel_rfl) (by kernel_rfl) (by kernel_rfl) ⟨.inl ⟨Go.Bx.basculeref_upTo.con, Go.Bx.basculeref_upTo.named⟩, trivial⟩) (by kernel_rfl) Try.func69 (c := cB Try.f69) (by kernel_rfl) (by kernel_rfl) F fuel (fun x => by simp [F, spread, Try.ntmps69]) ?_
  intro x r h
  rw [← h]
  have h1 : start F Try.f69.ntmps x = (St0 x.1) := by kernel_rfl
  rw [h1]
  refine (top_eq fuel (fin C Try.f69.results.toList F.rs F.multi) x.1).trans ?_
  kernel_rfl
theorem named : Named Try.prog 69 := named_of Try.func69 (by kernel_rfl) (by kernel_rfl)
end Go.Bx.basculeref_BodyFault
namespace Go.Bx.post_chain
open Go Go.Proofs Go.Bx
set_option maxRecDepth 100000
set_option linter.unusedVariables false
def Js : List Nat := []
def C : Ctx := ⟨[(3, (.int .i64)), (4, .bool)], [], [], fnL [], noSh, [], invL [], [(2, [2])], [], [], 0, 0⟩
def St0 (x0 : Int) : St := stL 9 [(0, .data (.int .i64) x0)] []
def St1 (x2 : Bool) : St := stL 9 [(2, .data .bool x2)] []
def top {α : Type} (Rt : Bool → Option α) (x0 : Int) : Option α :=
  Rt (cond (decide (x0 ≥ 0)) (decide (x0 < 3)) false)
theorem top_eq {α : Type} (k : Nat) (Q : Ex → St → Option α) (x0 : Int) :
    (den C k) (cB Try.f60) Q (St0 x0) = top (fun (x2 : Bool) => Q .ret (St1 x2)) x0 := by
  have h : ∀ (D L : DT α), denJ D L Js C (cB Try.f60) Q (St0 x0) =
        Q .ret (St1 (cond (decide (x0 ≥ 0)) (decide (x0 < 3)) false)) := by
    intro D L; kernel_rfl
  refine (show (den C k) (cB Try.f60) Q (St0 x0) = denJ (den C k) (lp C k) Js C (cB Try.f60) Q (St0 x0) from (denJ_den _ _ _ _ _ _).symm).trans ((h (den C k) (lp C k)).trans ?_)
  first | rfl | kernel_rfl
def run (x0 : Int) : Option (Bool) := top (α := Bool) (fun (x2 : Bool) => some x2) x0
def F : Fn := ⟨(.pair (.int .i64) .unit), .bool, false, fun x => run x.1⟩
set_option maxRecDepth 100000 in
theorem con : Con Try.prog 60 F := by
  refine con_of_den (C := C) (ctx_ok (by kernel_rfl) (by kernel_rfl) (by kernel_rfl) (by kernel_rfl) trivial) (by kernel_rfl) Try.func60 (c := cB Try.f60) (by kernel_rfl) (by kernel_rfl) F fuel (fun x => by simp [F, spread, Try.ntmps60]) ?_
  intro x r h
  rw [← h]
  have h1 : start F Try.f60.ntmps x = (St0 x.1) := by kernel_rfl
  rw [h1]
  refine (top_eq fuel (fin C Try.f60.results.toList F.rs F.multi) x.1).trans ?_
  kernel_rfl
theorem named : Named Try.prog 60 := named_of Try.func60 (by kernel_rfl) (by kernel_rfl)
end Go.Bx.post_chain
namespace Go.Bx.post_Emitter
open Go Go.Proofs Go.Bx
set_option maxRecDepth 100000
set_option linter.unusedVariables false
def Js : List Nat := []
def C : Ctx := ⟨[(3, (.int .i64)), (5, (.int .u8)), (39, (.arr 32 (.int .u8)))], [], [], fnL [], noSh, [], invL [], [(2, [2])], [], [], 0, 0⟩
def St0 (x0 : Int) : St := stL 9 [(0, .data (.int .i64) x0)] []
def St1 (c2 : List Int) : St := stL 9 [(2, .ref 2 0 [])] [(2, .cell (.arr 32 (.int .u8)) (.data (.arr 32 (.int .u8)) c2) false)]
def top {α : Type} (Rt : (List Int) → Option α) (x0 : Int) : Option α :=
  Rt (List.set (List.set (List.replicate 32 0) 0 176) 31 (IntKind.u8.wrap x0))
theorem top_eq {α : Type} (k : Nat) (Q : Ex → St → Option α) (x0 : Int) :
    (den C k) (cB Try.f64) Q (St0 x0) = top (fun (c2 : List Int) => Q .ret (St1 c2)) x0 := by
  have h : ∀ (D L : DT α), denJ D L Js C (cB Try.f64) Q (St0 x0) =
        Q .ret (St1 (List.set (List.set (List.replicate 32 0) 0 176) 31 (IntKind.u8.wrap x0))) := by
    intro D L; kernel_rfl
  refine (show (den C k) (cB Try.f64) Q (St0 x0) = denJ (den C k) (lp C k) Js C (cB Try.f64) Q (St0 x0) from (denJ_den _ _ _ _ _ _).symm).trans ((h (den C k) (lp C k)).trans ?_)
  first | rfl | kernel_rfl
def run (x0 : Int) : Option (List Int) := top (α := List Int) (fun (c2 : List Int) => some c2) x0
def F : Fn := ⟨(.pair (.int .i64) .unit), (.arr 32 (.int .u8)), false, fun x => run x.1⟩
set_option maxRecDepth 100000 in
theorem con : Con Try.prog 64 F := by
  refine con_of_den (C := C) (ctx_ok (by kernel_rfl) (by kernel_rfl) (by kernel_rfl) (by kernel_rfl) trivial) (by kernel_rfl) Try.func64 (c := cB Try.f64) (by kernel_rfl) (by kernel_rfl) F fuel (fun x => by simp [F, spread, Try.ntmps64]) ?_
  intro x r h
  rw [← h]
  have h1 : start F Try.f64.ntmps x = (St0 x.1) := by kernel_rfl
  rw [h1]
  refine (top_eq fuel (fin C Try.f64.results.toList F.rs F.multi) x.1).trans ?_
  kernel_rfl
theorem named : Named Try.prog 64 := named_of Try.func64 (by kernel_rfl) (by kernel_rfl)
end Go.Bx.post_Emitter
