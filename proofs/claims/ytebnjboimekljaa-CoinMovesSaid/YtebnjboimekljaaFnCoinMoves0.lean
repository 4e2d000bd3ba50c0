/- Go functions of this seat in their own words of Lean, each tied to its code by a contract. -/
import Derived.Test.YtebnjboimekljaaGBase
import Derived.Test.YtebnjboimekljaaCxZi
import Derived.Test.YtebnjboimekljaaCxZj
namespace Go.Bx.basculeref_of
open Go Go.Proofs Go.Bx
set_option maxRecDepth 100000
set_option linter.unusedVariables false
def Js : List Nat := [8]
def C : Ctx := ⟨[(24, (.arr 4 (.int .u64))), (97, (.sl (.int .u64)))], [], fnL [], noSh, [], noInv, [(2, [2]), (1, [3]), (4, [3, 6, 7]), (9, [3, 6, 7]), (21, [3])], [(9, [.melt true 3 [] 16 true])], [], 0, 0⟩
def St0 (x0 : List Int) : St := stL 19 [(0, .data (.arr 4 (.int .u64)) x0)] []
def St1 (x6 : List Int) (x7 : Int) (c16 : List Int) : St := stL 19 [(3, .app 16 0), (6, .data (.arr 4 (.int .u64)) x6), (7, .data (.int .i64) x7)] [(16, .buf (.int .u64) c16 0 true)]
noncomputable def cd0 : Code := cL (cL (cR (cL (cR (cR (cB Try.f77))))))
def St2 (c16 : List Int) : St := stL 19 [(3, .app 16 0)] [(16, .buf (.int .u64) c16 0 true)]
def l0s {α : Type} (Nx : (List Int) → Int → (List Int) → Option α) (Xt0 : (List Int) → Option α) (x6 : List Int) (x7 : Int) (c16 : List Int) : Option α :=
  if (decide (x7 < 4)) = true then
    if 0 ≤ x7 ∧ x7 < (4 : Int) then
      if fitB (c16.length + 2) 8 = true then
        Nx x6 (IntKind.i64.wrap (x7 + 1)) (c16 ++ [(Int.tmod (List.getD x6 (Int.toNat x7) 0) 4294967296), (IntKind.u64.wrap (Int.tdiv (List.getD x6 (Int.toNat x7) 0) 4294967296))])
      else none
    else none
  else
    Xt0 c16
theorem l0s_eq {α : Type} (k : Nat) (next : St → Option α) (Q : Ex → St → Option α) (x6 : List Int) (x7 : Int) (c16 : List Int) :
    rnd C k cd0 9 Q next (St1 x6 x7 c16) = l0s (fun (x6 : List Int) (x7 : Int) (c16 : List Int) => next (St1 x6 x7 c16)) (fun (c16 : List Int) => Q (.exit 0) (St2 c16)) x6 x7 c16 := by
  have h : ∀ (D L : DT α), denJ D L Js C cd0 (lq C 9 next Q) (St1 x6 x7 c16) =
        if (decide (x7 < 4)) = true then
          if 0 ≤ x7 ∧ x7 < (4 : Int) then
            if fitB (c16.length + 2) 8 = true then
              next (St1 x6 (IntKind.i64.wrap (x7 + 1)) (c16 ++ [(Int.tmod (List.getD x6 (Int.toNat x7) 0) 4294967296), (IntKind.u64.wrap (Int.tdiv (List.getD x6 (Int.toNat x7) 0) 4294967296))]))
            else none
          else none
        else
          Q (.exit 0) (St2 c16) := by
    intro D L; kernel_rfl
  refine (show rnd C k cd0 9 Q next (St1 x6 x7 c16) = denJ (den C k) (lp C k) Js C cd0 (lq C 9 next Q) (St1 x6 x7 c16) from (denJ_den _ _ _ _ _ _).symm).trans ((h (den C k) (lp C k)).trans ?_)
  first | rfl | kernel_rfl
def l0 {α : Type} (k : Nat) (Xt0 : (List Int) → Option α) : Nat → (List Int) → Int → (List Int) → Option α
  | 0, _, _, _ => none
  | n + 1, x6, x7, c16 => l0s (l0 k Xt0 n) Xt0 x6 x7 c16
theorem l0_eq {α : Type} (k : Nat) (Q : Ex → St → Option α) : ∀ (n : Nat) (x6 : List Int) (x7 : Int) (c16 : List Int), iter (rnd C k cd0 9 Q) n (St1 x6 x7 c16) = l0 k (fun (c16 : List Int) => Q (.exit 0) (St2 c16)) n x6 x7 c16
  | 0, _, _, _ => rfl
  | n + 1, x6, x7, c16 => (iter_succ _ _ _).trans ((l0s_eq k (iter (rnd C k cd0 9 Q) n) Q x6 x7 c16).trans (congrArg (fun N => l0s N (fun (c16 : List Int) => Q (.exit 0) (St2 c16)) x6 x7 c16) (funext fun x6 => funext fun x7 => funext fun c16 => l0_eq k Q n x6 x7 c16)))
theorem l0_congr {α : Type} (k : Nat) (Xt0 : (List Int) → Option α) (Xt0q : (List Int) → Option α) (hXt0 : ∀ (c16 : List Int), Xt0 c16 = Xt0q c16) (n : Nat) (x6 : List Int) (x7 : Int) (c16 : List Int) : l0 k Xt0 n x6 x7 c16 = l0 k Xt0q n x6 x7 c16 := by
  obtain rfl : Xt0 = Xt0q := by funext c16; exact hXt0 c16
  rfl
noncomputable def cd1 : Code := cR (cR (cR (cB Try.f77)))
def St3 (c16 : List Int) : St := stL 19 [(3, .app 16 0)] [(16, .buf (.int .u64) c16 0 true)]
def St4 (c16 : List Int) : St := stL 19 [(2, .app 16 0)] [(16, .buf (.int .u64) c16 0 true)]
def j0 {α : Type} (Rt : (List Int) → Option α) (c16 : List Int) : Option α :=
  Rt c16
theorem j0_eq {α : Type} (k : Nat) (Q : Ex → St → Option α) (c16 : List Int) :
    (den C k) cd1 Q (St3 c16) = j0 (fun (c16 : List Int) => Q .ret (St4 c16)) c16 := by
  have h : ∀ (D L : DT α), denJ D L Js C cd1 Q (St3 c16) =
        Q .ret (St4 c16) := by
    intro D L; kernel_rfl
  refine (show (den C k) cd1 Q (St3 c16) = denJ (den C k) (lp C k) Js C cd1 Q (St3 c16) from (denJ_den _ _ _ _ _ _).symm).trans ((h (den C k) (lp C k)).trans ?_)
  first | rfl | kernel_rfl
theorem a0 {α : Type} (k : Nat) (Q : Ex → St → Option α) (x6 : List Int) (x7 : Int) (c16 : List Int) :
    (lp C k) cd0 (blkQ C 0 (sq (den C k) (lp C k) Js C cd1 Q)) (St1 x6 x7 c16) = l0 k (fun (c16 : List Int) => j0 (fun (c16 : List Int) => Q .ret (St4 c16)) c16) k x6 x7 c16 :=
  (show (lp C k) cd0 (blkQ C 0 (sq (den C k) (lp C k) Js C cd1 Q)) (St1 x6 x7 c16) = iter (rnd C k cd0 9 (blkQ C 0 (sq (den C k) (lp C k) Js C cd1 Q))) k (St1 x6 x7 c16) by kernel_rfl).trans ((l0_eq k (blkQ C 0 (sq (den C k) (lp C k) Js C cd1 Q)) k x6 x7 c16).trans (l0_congr k _ _ (fun c16 => ((show (blkQ C 0 (sq (den C k) (lp C k) Js C cd1 Q)) (.exit 0) (St2 c16) = (den C k) cd1 Q (St3 c16) by kernel_rfl).trans (by simp only [j0_eq]))) k x6 x7 c16))
def top {α : Type} (k : Nat) (Rt : (List Int) → Option α) (x0 : List Int) : Option α :=
  l0 k (fun (c16 : List Int) => j0 Rt c16) k x0 0 []
theorem top_eq {α : Type} (k : Nat) (Q : Ex → St → Option α) (x0 : List Int) :
    (den C k) (cB Try.f77) Q (St0 x0) = top k (fun (c16 : List Int) => Q .ret (St4 c16)) x0 := by
  have h : ∀ (D L : DT α), denJ D L Js C (cB Try.f77) Q (St0 x0) =
        L cd0 (blkQ C 0 (sq D L Js C cd1 Q)) (St1 x0 0 []) := by
    intro D L; kernel_rfl
  refine (show (den C k) (cB Try.f77) Q (St0 x0) = denJ (den C k) (lp C k) Js C (cB Try.f77) Q (St0 x0) from (denJ_den _ _ _ _ _ _).symm).trans ((h (den C k) (lp C k)).trans ?_)
  simp only [a0]
  first | rfl | kernel_rfl
def run (x0 : List Int) : Option (List Int) := top (α := List Int) fuel (fun (c16 : List Int) => some c16) x0
def F : Fn := ⟨(.pair (.arr 4 (.int .u64)) .unit), (.sl (.int .u64)), false, fun x => run x.1⟩
set_option maxRecDepth 100000 in
theorem con : Con Try.prog 77 F := by
  refine con_of_den (C := C) (ctx_ok (by kernel_rfl) (by kernel_rfl) trivial) (by kernel_rfl) Try.func77 (c := cB Try.f77) (by kernel_rfl) (by kernel_rfl) F fuel (fun x => by simp [F, spread, Try.ntmps77]) ?_
  intro x r h
  rw [← h]
  have h1 : start F Try.f77.ntmps x = (St0 x.1) := by kernel_rfl
  rw [h1]
  refine (top_eq fuel (fin C Try.f77.results.toList F.rs F.multi) x.1).trans ?_
  kernel_rfl
theorem named : Named Try.prog 77 := named_of Try.func77 (by kernel_rfl) (by kernel_rfl)
end Go.Bx.basculeref_of
namespace Go.Bx.basculeref_plus
open Go Go.Proofs Go.Bx
set_option maxRecDepth 100000
set_option linter.unusedVariables false
def Js : List Nat := [10, 12, 13]
def C : Ctx := ⟨[(22, (.int .u64)), (97, (.sl (.int .u64)))], [], fnL [], noSh, [], noInv, [(2, [4]), (1, [5, 6]), (4, [0, 1, 5, 6, 7]), (12, [0, 1, 5, 6, 7]), (27, [0, 1, 5, 7, 8]), (33, [0, 1, 5, 7, 8]), (36, [5, 6])], [(12, [.melt true 5 [] 46 true])], [], 0, 0⟩
def St0 (x0 : List Int) (x1 : List Int) : St := stL 53 [(0, .data (.sl (.int .u64)) x0), (1, .data (.sl (.int .u64)) x1)] []
def St1 (x0 : List Int) (x1 : List Int) (x6 : Int) (x7 : Int) (c46 : List Int) : St := stL 53 [(0, .data (.sl (.int .u64)) x0), (1, .data (.sl (.int .u64)) x1), (5, .app 46 0), (6, .data (.int .u64) x6), (7, .data (.int .i64) x7)] [(46, .buf (.int .u64) c46 0 true)]
noncomputable def cd0 : Code := cL (cL (cR (cL (cR (cR (cR (cB Try.f73)))))))
def St2 (x0 : List Int) (x1 : List Int) (x7 : Int) (x8 : Int) (c46 : List Int) : St := stL 53 [(0, .data (.sl (.int .u64)) x0), (1, .data (.sl (.int .u64)) x1), (5, .app 46 0), (7, .data (.int .i64) x7), (8, .data (.int .u64) x8)] [(46, .buf (.int .u64) c46 0 true)]
noncomputable def cd1 : Code := cR (cR (cL (cL (cR (cL (cR (cR (cR (cB Try.f73)))))))))
noncomputable def cd2 : Code := cR (cR (cL (cL (cR (cL (cL (cR (cL (cR (cR (cR (cB Try.f73))))))))))))
def St3 (x0 : List Int) (x1 : List Int) (x7 : Int) (x8 : Int) (c46 : List Int) : St := stL 53 [(0, .data (.sl (.int .u64)) x0), (1, .data (.sl (.int .u64)) x1), (5, .app 46 0), (7, .data (.int .i64) x7), (8, .data (.int .u64) x8)] [(46, .buf (.int .u64) c46 0 true)]
noncomputable def cd3 : Code := cR (cR (cR (cL (cL (cR (cL (cL (cR (cL (cR (cR (cR (cB Try.f73)))))))))))))
def j1 {α : Type} (Nx : (List Int) → (List Int) → Int → Int → (List Int) → Option α) (x0 : List Int) (x1 : List Int) (x7 : Int) (x8 : Int) (c46 : List Int) : Option α :=
  if fitB (c46.length + 1) 8 = true then
    Nx x0 x1 (IntKind.u64.wrap (Int.tdiv x8 4294967296)) (IntKind.i64.wrap (x7 + 1)) (c46 ++ [(Int.tmod x8 4294967296)])
  else none
theorem j1_eq {α : Type} (k : Nat) (next : St → Option α) (Q : Ex → St → Option α) (x0 : List Int) (x1 : List Int) (x7 : Int) (x8 : Int) (c46 : List Int) :
    (den C k) cd3 (blkQ C 1 (sq (den C k) (lp C k) Js C cd1 (lq C 12 next Q))) (St3 x0 x1 x7 x8 c46) = j1 (fun (x0 : List Int) (x1 : List Int) (x6 : Int) (x7 : Int) (c46 : List Int) => next (St1 x0 x1 x6 x7 c46)) x0 x1 x7 x8 c46 := by
  have h : ∀ (D L : DT α), denJ D L Js C cd3 (blkQ C 1 (sq D L Js C cd1 (lq C 12 next Q))) (St3 x0 x1 x7 x8 c46) =
        if fitB (c46.length + 1) 8 = true then
          next (St1 x0 x1 (IntKind.u64.wrap (Int.tdiv x8 4294967296)) (IntKind.i64.wrap (x7 + 1)) (c46 ++ [(Int.tmod x8 4294967296)]))
        else none := by
    intro D L; kernel_rfl
  refine (show (den C k) cd3 (blkQ C 1 (sq (den C k) (lp C k) Js C cd1 (lq C 12 next Q))) (St3 x0 x1 x7 x8 c46) = denJ (den C k) (lp C k) Js C cd3 (blkQ C 1 (sq (den C k) (lp C k) Js C cd1 (lq C 12 next Q))) (St3 x0 x1 x7 x8 c46) from (denJ_den _ _ _ _ _ _).symm).trans ((h (den C k) (lp C k)).trans ?_)
  first | rfl | kernel_rfl
def j0 {α : Type} (Nx : (List Int) → (List Int) → Int → Int → (List Int) → Option α) (x0 : List Int) (x1 : List Int) (x7 : Int) (x8 : Int) (c46 : List Int) : Option α :=
  if (decide (x7 < (x1.length : Int))) = true then
    if 0 ≤ x7 ∧ x7 < (x1.length : Int) then
      j1 Nx x0 x1 x7 (IntKind.u64.wrap (x8 + (List.getD x1 (Int.toNat x7) 0))) c46
    else none
  else
    j1 Nx x0 x1 x7 x8 c46
theorem j0_eq {α : Type} (k : Nat) (next : St → Option α) (Q : Ex → St → Option α) (x0 : List Int) (x1 : List Int) (x7 : Int) (x8 : Int) (c46 : List Int) :
    (den C k) cd2 (blkQ C 1 (sq (den C k) (lp C k) Js C cd1 (lq C 12 next Q))) (St2 x0 x1 x7 x8 c46) = j0 (fun (x0 : List Int) (x1 : List Int) (x6 : Int) (x7 : Int) (c46 : List Int) => next (St1 x0 x1 x6 x7 c46)) x0 x1 x7 x8 c46 := by
  have h : ∀ (D L : DT α), denJ D L Js C cd2 (blkQ C 1 (sq D L Js C cd1 (lq C 12 next Q))) (St2 x0 x1 x7 x8 c46) =
        if (decide (x7 < (x1.length : Int))) = true then
          if 0 ≤ x7 ∧ x7 < (x1.length : Int) then
            D cd3 (blkQ C 1 (sq D L Js C cd1 (lq C 12 next Q))) (St3 x0 x1 x7 (IntKind.u64.wrap (x8 + (List.getD x1 (Int.toNat x7) 0))) c46)
          else none
        else
          D cd3 (blkQ C 1 (sq D L Js C cd1 (lq C 12 next Q))) (St3 x0 x1 x7 x8 c46) := by
    intro D L; kernel_rfl
  refine (show (den C k) cd2 (blkQ C 1 (sq (den C k) (lp C k) Js C cd1 (lq C 12 next Q))) (St2 x0 x1 x7 x8 c46) = denJ (den C k) (lp C k) Js C cd2 (blkQ C 1 (sq (den C k) (lp C k) Js C cd1 (lq C 12 next Q))) (St2 x0 x1 x7 x8 c46) from (denJ_den _ _ _ _ _ _).symm).trans ((h (den C k) (lp C k)).trans ?_)
  simp only [j1_eq]
  first | rfl | kernel_rfl
def St4 (x6 : Int) (c46 : List Int) : St := stL 53 [(5, .app 46 0), (6, .data (.int .u64) x6)] [(46, .buf (.int .u64) c46 0 true)]
def l0s {α : Type} (Nx : (List Int) → (List Int) → Int → Int → (List Int) → Option α) (Xt0 : Int → (List Int) → Option α) (x0 : List Int) (x1 : List Int) (x6 : Int) (x7 : Int) (c46 : List Int) : Option α :=
  if (cond (decide (x7 < (x0.length : Int))) true (decide (x7 < (x1.length : Int)))) = true then
    if (decide (x7 < (x0.length : Int))) = true then
      if 0 ≤ x7 ∧ x7 < (x0.length : Int) then
        j0 Nx x0 x1 x7 (IntKind.u64.wrap (x6 + (List.getD x0 (Int.toNat x7) 0))) c46
      else none
    else
      j0 Nx x0 x1 x7 x6 c46
  else
    Xt0 x6 c46
theorem l0s_eq {α : Type} (k : Nat) (next : St → Option α) (Q : Ex → St → Option α) (x0 : List Int) (x1 : List Int) (x6 : Int) (x7 : Int) (c46 : List Int) :
    rnd C k cd0 12 Q next (St1 x0 x1 x6 x7 c46) = l0s (fun (x0 : List Int) (x1 : List Int) (x6 : Int) (x7 : Int) (c46 : List Int) => next (St1 x0 x1 x6 x7 c46)) (fun (x6 : Int) (c46 : List Int) => Q (.exit 0) (St4 x6 c46)) x0 x1 x6 x7 c46 := by
  have h : ∀ (D L : DT α), denJ D L Js C cd0 (lq C 12 next Q) (St1 x0 x1 x6 x7 c46) =
        if (cond (decide (x7 < (x0.length : Int))) true (decide (x7 < (x1.length : Int)))) = true then
          if (decide (x7 < (x0.length : Int))) = true then
            if 0 ≤ x7 ∧ x7 < (x0.length : Int) then
              D cd2 (blkQ C 1 (sq D L Js C cd1 (lq C 12 next Q))) (St2 x0 x1 x7 (IntKind.u64.wrap (x6 + (List.getD x0 (Int.toNat x7) 0))) c46)
            else none
          else
            D cd2 (blkQ C 1 (sq D L Js C cd1 (lq C 12 next Q))) (St2 x0 x1 x7 x6 c46)
        else
          Q (.exit 0) (St4 x6 c46) := by
    intro D L; kernel_rfl
  refine (show rnd C k cd0 12 Q next (St1 x0 x1 x6 x7 c46) = denJ (den C k) (lp C k) Js C cd0 (lq C 12 next Q) (St1 x0 x1 x6 x7 c46) from (denJ_den _ _ _ _ _ _).symm).trans ((h (den C k) (lp C k)).trans ?_)
  simp only [j0_eq]
  first | rfl | kernel_rfl
def l0 {α : Type} (k : Nat) (Xt0 : Int → (List Int) → Option α) : Nat → (List Int) → (List Int) → Int → Int → (List Int) → Option α
  | 0, _, _, _, _, _ => none
  | n + 1, x0, x1, x6, x7, c46 => l0s (l0 k Xt0 n) Xt0 x0 x1 x6 x7 c46
theorem l0_eq {α : Type} (k : Nat) (Q : Ex → St → Option α) : ∀ (n : Nat) (x0 : List Int) (x1 : List Int) (x6 : Int) (x7 : Int) (c46 : List Int), iter (rnd C k cd0 12 Q) n (St1 x0 x1 x6 x7 c46) = l0 k (fun (x6 : Int) (c46 : List Int) => Q (.exit 0) (St4 x6 c46)) n x0 x1 x6 x7 c46
  | 0, _, _, _, _, _ => rfl
  | n + 1, x0, x1, x6, x7, c46 => (iter_succ _ _ _).trans ((l0s_eq k (iter (rnd C k cd0 12 Q) n) Q x0 x1 x6 x7 c46).trans (congrArg (fun N => l0s N (fun (x6 : Int) (c46 : List Int) => Q (.exit 0) (St4 x6 c46)) x0 x1 x6 x7 c46) (funext fun x0 => funext fun x1 => funext fun x6 => funext fun x7 => funext fun c46 => l0_eq k Q n x0 x1 x6 x7 c46)))
theorem l0_congr {α : Type} (k : Nat) (Xt0 : Int → (List Int) → Option α) (Xt0q : Int → (List Int) → Option α) (hXt0 : ∀ (x6 : Int) (c46 : List Int), Xt0 x6 c46 = Xt0q x6 c46) (n : Nat) (x0 : List Int) (x1 : List Int) (x6 : Int) (x7 : Int) (c46 : List Int) : l0 k Xt0 n x0 x1 x6 x7 c46 = l0 k Xt0q n x0 x1 x6 x7 c46 := by
  obtain rfl : Xt0 = Xt0q := by funext x6; funext c46; exact hXt0 x6 c46
  rfl
noncomputable def cd4 : Code := cR (cR (cR (cR (cB Try.f73))))
def St5 (x6 : Int) (c46 : List Int) : St := stL 53 [(5, .app 46 0), (6, .data (.int .u64) x6)] [(46, .buf (.int .u64) c46 0 true)]
def St6 (c46 : List Int) : St := stL 53 [(4, .app 46 0)] [(46, .buf (.int .u64) c46 0 true)]
def j2 {α : Type} (Rt : (List Int) → Option α) (x6 : Int) (c46 : List Int) : Option α :=
  if fitB (c46.length + 1) 8 = true then
    Rt (c46 ++ [x6])
  else none
theorem j2_eq {α : Type} (k : Nat) (Q : Ex → St → Option α) (x6 : Int) (c46 : List Int) :
    (den C k) cd4 Q (St5 x6 c46) = j2 (fun (c46 : List Int) => Q .ret (St6 c46)) x6 c46 := by
  have h : ∀ (D L : DT α), denJ D L Js C cd4 Q (St5 x6 c46) =
        if fitB (c46.length + 1) 8 = true then
          Q .ret (St6 (c46 ++ [x6]))
        else none := by
    intro D L; kernel_rfl
  refine (show (den C k) cd4 Q (St5 x6 c46) = denJ (den C k) (lp C k) Js C cd4 Q (St5 x6 c46) from (denJ_den _ _ _ _ _ _).symm).trans ((h (den C k) (lp C k)).trans ?_)
  first | rfl | kernel_rfl
theorem a0 {α : Type} (k : Nat) (Q : Ex → St → Option α) (x0 : List Int) (x1 : List Int) (x6 : Int) (x7 : Int) (c46 : List Int) :
    (lp C k) cd0 (blkQ C 0 (sq (den C k) (lp C k) Js C cd4 Q)) (St1 x0 x1 x6 x7 c46) = l0 k (fun (x6 : Int) (c46 : List Int) => j2 (fun (c46 : List Int) => Q .ret (St6 c46)) x6 c46) k x0 x1 x6 x7 c46 :=
  (show (lp C k) cd0 (blkQ C 0 (sq (den C k) (lp C k) Js C cd4 Q)) (St1 x0 x1 x6 x7 c46) = iter (rnd C k cd0 12 (blkQ C 0 (sq (den C k) (lp C k) Js C cd4 Q))) k (St1 x0 x1 x6 x7 c46) by kernel_rfl).trans ((l0_eq k (blkQ C 0 (sq (den C k) (lp C k) Js C cd4 Q)) k x0 x1 x6 x7 c46).trans (l0_congr k _ _ (fun x6 c46 => ((show (blkQ C 0 (sq (den C k) (lp C k) Js C cd4 Q)) (.exit 0) (St4 x6 c46) = (den C k) cd4 Q (St5 x6 c46) by kernel_rfl).trans (by simp only [j2_eq]))) k x0 x1 x6 x7 c46))
def top {α : Type} (k : Nat) (Rt : (List Int) → Option α) (x0 : List Int) (x1 : List Int) : Option α :=
  l0 k (fun (x6 : Int) (c46 : List Int) => j2 Rt x6 c46) k x0 x1 0 0 []
theorem top_eq {α : Type} (k : Nat) (Q : Ex → St → Option α) (x0 : List Int) (x1 : List Int) :
    (den C k) (cB Try.f73) Q (St0 x0 x1) = top k (fun (c46 : List Int) => Q .ret (St6 c46)) x0 x1 := by
  have h : ∀ (D L : DT α), denJ D L Js C (cB Try.f73) Q (St0 x0 x1) =
        L cd0 (blkQ C 0 (sq D L Js C cd4 Q)) (St1 x0 x1 0 0 []) := by
    intro D L; kernel_rfl
  refine (show (den C k) (cB Try.f73) Q (St0 x0 x1) = denJ (den C k) (lp C k) Js C (cB Try.f73) Q (St0 x0 x1) from (denJ_den _ _ _ _ _ _).symm).trans ((h (den C k) (lp C k)).trans ?_)
  simp only [a0]
  first | rfl | kernel_rfl
def run (x0 : List Int) (x1 : List Int) : Option (List Int) := top (α := List Int) fuel (fun (c46 : List Int) => some c46) x0 x1
def F : Fn := ⟨(.pair (.sl (.int .u64)) (.pair (.sl (.int .u64)) .unit)), (.sl (.int .u64)), false, fun x => run x.1 x.2.1⟩
set_option maxRecDepth 100000 in
theorem con : Con Try.prog 73 F := by
  refine con_of_den (C := C) (ctx_ok (by kernel_rfl) (by kernel_rfl) trivial) (by kernel_rfl) Try.func73 (c := cB Try.f73) (by kernel_rfl) (by kernel_rfl) F fuel (fun x => by simp [F, spread, Try.ntmps73]) ?_
  intro x r h
  rw [← h]
  have h1 : start F Try.f73.ntmps x = (St0 x.1 x.2.1) := by kernel_rfl
  rw [h1]
  refine (top_eq fuel (fin C Try.f73.results.toList F.rs F.multi) x.1 x.2.1).trans ?_
  kernel_rfl
theorem named : Named Try.prog 73 := named_of Try.func73 (by kernel_rfl) (by kernel_rfl)
end Go.Bx.basculeref_plus
namespace Go.Bx.basculeref_less
open Go Go.Proofs Go.Bx
set_option maxRecDepth 100000
set_option linter.unusedVariables false
def Js : List Nat := [10, 14, 16]
def C : Ctx := ⟨[(22, (.int .u64)), (97, (.sl (.int .u64)))], [], fnL [], noSh, [], noInv, [(2, [4]), (1, [5]), (4, [1, 5, 6, 13, 14]), (12, [1, 5, 6, 13, 14]), (27, [1, 5, 7, 8, 13, 14]), (39, [1, 5, 6, 7, 8, 13, 14]), (45, [5])], [], [], 0, 0⟩
def St0 (x0 : List Int) (x1 : List Int) : St := stL 49 [(0, .data (.sl (.int .u64)) x0), (1, .data (.sl (.int .u64)) x1)] []
def St1 (x1 : List Int) (x6 : Int) (x13 : Int) (x14 : Int) (c11 : List Int) : St := stL 49 [(1, .data (.sl (.int .u64)) x1), (5, .app 11 0), (6, .data (.int .u64) x6), (13, .data (.int .i64) x13), (14, .data (.int .i64) x14)] [(11, .buf (.int .u64) c11 0 false)]
noncomputable def cd0 : Code := cL (cL (cR (cL (cR (cR (cR (cB Try.f133)))))))
def St2 (x1 : List Int) (x7 : Int) (x8 : Int) (x13 : Int) (x14 : Int) (c11 : List Int) : St := stL 49 [(1, .data (.sl (.int .u64)) x1), (5, .app 11 0), (7, .data (.int .i64) x7), (8, .data (.int .u64) x8), (13, .data (.int .i64) x13), (14, .data (.int .i64) x14)] [(11, .buf (.int .u64) c11 0 false)]
noncomputable def cd1 : Code := cR (cR (cR (cL (cL (cR (cL (cR (cR (cR (cB Try.f133))))))))))
noncomputable def cd2 : Code := cR (cR (cR (cL (cL (cR (cR (cL (cL (cR (cL (cR (cR (cR (cB Try.f133))))))))))))))
def St3 (x1 : List Int) (x6 : Int) (x7 : Int) (x8 : Int) (x13 : Int) (x14 : Int) (c11 : List Int) : St := stL 49 [(1, .data (.sl (.int .u64)) x1), (5, .app 11 0), (6, .data (.int .u64) x6), (7, .data (.int .i64) x7), (8, .data (.int .u64) x8), (13, .data (.int .i64) x13), (14, .data (.int .i64) x14)] [(11, .buf (.int .u64) c11 0 false)]
noncomputable def cd3 : Code := cR (cR (cR (cR (cR (cL (cL (cR (cR (cL (cL (cR (cL (cR (cR (cR (cB Try.f133))))))))))))))))
def j1 {α : Type} (Nx : (List Int) → Int → Int → Int → (List Int) → Option α) (x1 : List Int) (x6 : Int) (x7 : Int) (x8 : Int) (x13 : Int) (x14 : Int) (c11 : List Int) : Option α :=
  if 0 ≤ x7 ∧ x7 < (c11.length : Int) then
    if 0 ≤ x7 ∧ x7 < (c11.length : Int) then
      Nx x1 x6 x13 (IntKind.i64.wrap (x14 + 1)) (List.set c11 (Int.toNat x7) (IntKind.u64.wrap ((List.getD c11 (Int.toNat x7) 0) - x8)))
    else none
  else none
theorem j1_eq {α : Type} (k : Nat) (next : St → Option α) (Q : Ex → St → Option α) (x1 : List Int) (x6 : Int) (x7 : Int) (x8 : Int) (x13 : Int) (x14 : Int) (c11 : List Int) :
    (den C k) cd3 (blkQ C 1 (sq (den C k) (lp C k) Js C cd1 (lq C 12 next Q))) (St3 x1 x6 x7 x8 x13 x14 c11) = j1 (fun (x1 : List Int) (x6 : Int) (x13 : Int) (x14 : Int) (c11 : List Int) => next (St1 x1 x6 x13 x14 c11)) x1 x6 x7 x8 x13 x14 c11 := by
  have h : ∀ (D L : DT α), denJ D L Js C cd3 (blkQ C 1 (sq D L Js C cd1 (lq C 12 next Q))) (St3 x1 x6 x7 x8 x13 x14 c11) =
        if 0 ≤ x7 ∧ x7 < (c11.length : Int) then
          if 0 ≤ x7 ∧ x7 < (c11.length : Int) then
            next (St1 x1 x6 x13 (IntKind.i64.wrap (x14 + 1)) (List.set c11 (Int.toNat x7) (IntKind.u64.wrap ((List.getD c11 (Int.toNat x7) 0) - x8))))
          else none
        else none := by
    intro D L; kernel_rfl
  refine (show (den C k) cd3 (blkQ C 1 (sq (den C k) (lp C k) Js C cd1 (lq C 12 next Q))) (St3 x1 x6 x7 x8 x13 x14 c11) = denJ (den C k) (lp C k) Js C cd3 (blkQ C 1 (sq (den C k) (lp C k) Js C cd1 (lq C 12 next Q))) (St3 x1 x6 x7 x8 x13 x14 c11) from (denJ_den _ _ _ _ _ _).symm).trans ((h (den C k) (lp C k)).trans ?_)
  first | rfl | kernel_rfl
def j0 {α : Type} (Nx : (List Int) → Int → Int → Int → (List Int) → Option α) (x1 : List Int) (x7 : Int) (x8 : Int) (x13 : Int) (x14 : Int) (c11 : List Int) : Option α :=
  if 0 ≤ x7 ∧ x7 < (c11.length : Int) then
    if (decide ((List.getD c11 (Int.toNat x7) 0) < x8)) = true then
      if 0 ≤ x7 ∧ x7 < (c11.length : Int) then
        if 0 ≤ x7 ∧ x7 < (c11.length : Int) then
          j1 Nx x1 1 x7 x8 x13 x14 (List.set c11 (Int.toNat x7) (IntKind.u64.wrap ((List.getD c11 (Int.toNat x7) 0) + 4294967296)))
        else none
      else none
    else
      j1 Nx x1 0 x7 x8 x13 x14 c11
  else none
theorem j0_eq {α : Type} (k : Nat) (next : St → Option α) (Q : Ex → St → Option α) (x1 : List Int) (x7 : Int) (x8 : Int) (x13 : Int) (x14 : Int) (c11 : List Int) :
    (den C k) cd2 (blkQ C 1 (sq (den C k) (lp C k) Js C cd1 (lq C 12 next Q))) (St2 x1 x7 x8 x13 x14 c11) = j0 (fun (x1 : List Int) (x6 : Int) (x13 : Int) (x14 : Int) (c11 : List Int) => next (St1 x1 x6 x13 x14 c11)) x1 x7 x8 x13 x14 c11 := by
  have h : ∀ (D L : DT α), denJ D L Js C cd2 (blkQ C 1 (sq D L Js C cd1 (lq C 12 next Q))) (St2 x1 x7 x8 x13 x14 c11) =
        if 0 ≤ x7 ∧ x7 < (c11.length : Int) then
          if (decide ((List.getD c11 (Int.toNat x7) 0) < x8)) = true then
            if 0 ≤ x7 ∧ x7 < (c11.length : Int) then
              if 0 ≤ x7 ∧ x7 < (c11.length : Int) then
                D cd3 (blkQ C 1 (sq D L Js C cd1 (lq C 12 next Q))) (St3 x1 1 x7 x8 x13 x14 (List.set c11 (Int.toNat x7) (IntKind.u64.wrap ((List.getD c11 (Int.toNat x7) 0) + 4294967296))))
              else none
            else none
          else
            D cd3 (blkQ C 1 (sq D L Js C cd1 (lq C 12 next Q))) (St3 x1 0 x7 x8 x13 x14 c11)
        else none := by
    intro D L; kernel_rfl
  refine (show (den C k) cd2 (blkQ C 1 (sq (den C k) (lp C k) Js C cd1 (lq C 12 next Q))) (St2 x1 x7 x8 x13 x14 c11) = denJ (den C k) (lp C k) Js C cd2 (blkQ C 1 (sq (den C k) (lp C k) Js C cd1 (lq C 12 next Q))) (St2 x1 x7 x8 x13 x14 c11) from (denJ_den _ _ _ _ _ _).symm).trans ((h (den C k) (lp C k)).trans ?_)
  simp only [j1_eq]
  first | rfl | kernel_rfl
def St4 (c11 : List Int) : St := stL 49 [(5, .app 11 0)] [(11, .buf (.int .u64) c11 0 false)]
def l0s {α : Type} (Nx : (List Int) → Int → Int → Int → (List Int) → Option α) (Xt0 : (List Int) → Option α) (x1 : List Int) (x6 : Int) (x13 : Int) (x14 : Int) (c11 : List Int) : Option α :=
  if (decide (x14 < x13)) = true then
    if (decide (x14 < (x1.length : Int))) = true then
      if 0 ≤ x14 ∧ x14 < (x1.length : Int) then
        j0 Nx x1 x14 (IntKind.u64.wrap (x6 + (List.getD x1 (Int.toNat x14) 0))) x13 x14 c11
      else none
    else
      j0 Nx x1 x14 x6 x13 x14 c11
  else
    Xt0 c11
theorem l0s_eq {α : Type} (k : Nat) (next : St → Option α) (Q : Ex → St → Option α) (x1 : List Int) (x6 : Int) (x13 : Int) (x14 : Int) (c11 : List Int) :
    rnd C k cd0 12 Q next (St1 x1 x6 x13 x14 c11) = l0s (fun (x1 : List Int) (x6 : Int) (x13 : Int) (x14 : Int) (c11 : List Int) => next (St1 x1 x6 x13 x14 c11)) (fun (c11 : List Int) => Q (.exit 0) (St4 c11)) x1 x6 x13 x14 c11 := by
  have h : ∀ (D L : DT α), denJ D L Js C cd0 (lq C 12 next Q) (St1 x1 x6 x13 x14 c11) =
        if (decide (x14 < x13)) = true then
          if (decide (x14 < (x1.length : Int))) = true then
            if 0 ≤ x14 ∧ x14 < (x1.length : Int) then
              D cd2 (blkQ C 1 (sq D L Js C cd1 (lq C 12 next Q))) (St2 x1 x14 (IntKind.u64.wrap (x6 + (List.getD x1 (Int.toNat x14) 0))) x13 x14 c11)
            else none
          else
            D cd2 (blkQ C 1 (sq D L Js C cd1 (lq C 12 next Q))) (St2 x1 x14 x6 x13 x14 c11)
        else
          Q (.exit 0) (St4 c11) := by
    intro D L; kernel_rfl
  refine (show rnd C k cd0 12 Q next (St1 x1 x6 x13 x14 c11) = denJ (den C k) (lp C k) Js C cd0 (lq C 12 next Q) (St1 x1 x6 x13 x14 c11) from (denJ_den _ _ _ _ _ _).symm).trans ((h (den C k) (lp C k)).trans ?_)
  simp only [j0_eq]
  first | rfl | kernel_rfl
def l0 {α : Type} (k : Nat) (Xt0 : (List Int) → Option α) : Nat → (List Int) → Int → Int → Int → (List Int) → Option α
  | 0, _, _, _, _, _ => none
  | n + 1, x1, x6, x13, x14, c11 => l0s (l0 k Xt0 n) Xt0 x1 x6 x13 x14 c11
theorem l0_eq {α : Type} (k : Nat) (Q : Ex → St → Option α) : ∀ (n : Nat) (x1 : List Int) (x6 : Int) (x13 : Int) (x14 : Int) (c11 : List Int), iter (rnd C k cd0 12 Q) n (St1 x1 x6 x13 x14 c11) = l0 k (fun (c11 : List Int) => Q (.exit 0) (St4 c11)) n x1 x6 x13 x14 c11
  | 0, _, _, _, _, _ => rfl
  | n + 1, x1, x6, x13, x14, c11 => (iter_succ _ _ _).trans ((l0s_eq k (iter (rnd C k cd0 12 Q) n) Q x1 x6 x13 x14 c11).trans (congrArg (fun N => l0s N (fun (c11 : List Int) => Q (.exit 0) (St4 c11)) x1 x6 x13 x14 c11) (funext fun x1 => funext fun x6 => funext fun x13 => funext fun x14 => funext fun c11 => l0_eq k Q n x1 x6 x13 x14 c11)))
theorem l0_congr {α : Type} (k : Nat) (Xt0 : (List Int) → Option α) (Xt0q : (List Int) → Option α) (hXt0 : ∀ (c11 : List Int), Xt0 c11 = Xt0q c11) (n : Nat) (x1 : List Int) (x6 : Int) (x13 : Int) (x14 : Int) (c11 : List Int) : l0 k Xt0 n x1 x6 x13 x14 c11 = l0 k Xt0q n x1 x6 x13 x14 c11 := by
  obtain rfl : Xt0 = Xt0q := by funext c11; exact hXt0 c11
  rfl
noncomputable def cd4 : Code := cR (cR (cR (cR (cB Try.f133))))
def St5 (c11 : List Int) : St := stL 49 [(5, .app 11 0)] [(11, .buf (.int .u64) c11 0 false)]
def St6 (c11 : List Int) : St := stL 49 [(4, .app 11 0)] [(11, .buf (.int .u64) c11 0 false)]
def j2 {α : Type} (Rt : (List Int) → Option α) (c11 : List Int) : Option α :=
  Rt c11
theorem j2_eq {α : Type} (k : Nat) (Q : Ex → St → Option α) (c11 : List Int) :
    (den C k) cd4 Q (St5 c11) = j2 (fun (c11 : List Int) => Q .ret (St6 c11)) c11 := by
  have h : ∀ (D L : DT α), denJ D L Js C cd4 Q (St5 c11) =
        Q .ret (St6 c11) := by
    intro D L; kernel_rfl
  refine (show (den C k) cd4 Q (St5 c11) = denJ (den C k) (lp C k) Js C cd4 Q (St5 c11) from (denJ_den _ _ _ _ _ _).symm).trans ((h (den C k) (lp C k)).trans ?_)
  first | rfl | kernel_rfl
theorem a0 {α : Type} (k : Nat) (Q : Ex → St → Option α) (x1 : List Int) (x6 : Int) (x13 : Int) (x14 : Int) (c11 : List Int) :
    (lp C k) cd0 (blkQ C 0 (sq (den C k) (lp C k) Js C cd4 Q)) (St1 x1 x6 x13 x14 c11) = l0 k (fun (c11 : List Int) => j2 (fun (c11 : List Int) => Q .ret (St6 c11)) c11) k x1 x6 x13 x14 c11 :=
  (show (lp C k) cd0 (blkQ C 0 (sq (den C k) (lp C k) Js C cd4 Q)) (St1 x1 x6 x13 x14 c11) = iter (rnd C k cd0 12 (blkQ C 0 (sq (den C k) (lp C k) Js C cd4 Q))) k (St1 x1 x6 x13 x14 c11) by kernel_rfl).trans ((l0_eq k (blkQ C 0 (sq (den C k) (lp C k) Js C cd4 Q)) k x1 x6 x13 x14 c11).trans (l0_congr k _ _ (fun c11 => ((show (blkQ C 0 (sq (den C k) (lp C k) Js C cd4 Q)) (.exit 0) (St4 c11) = (den C k) cd4 Q (St5 c11) by kernel_rfl).trans (by simp only [j2_eq]))) k x1 x6 x13 x14 c11))
def top {α : Type} (k : Nat) (Rt : (List Int) → Option α) (x0 : List Int) (x1 : List Int) : Option α :=
  if (fitB (0 + x0.length) 8 && (Nat.beq 0 0 || Nat.blt 0 x0.length)) = true then
    l0 k (fun (c11 : List Int) => j2 Rt c11) k x1 0 (x0.length : Int) 0 x0
  else none
theorem top_eq {α : Type} (k : Nat) (Q : Ex → St → Option α) (x0 : List Int) (x1 : List Int) :
    (den C k) (cB Try.f133) Q (St0 x0 x1) = top k (fun (c11 : List Int) => Q .ret (St6 c11)) x0 x1 := by
  have h : ∀ (D L : DT α), denJ D L Js C (cB Try.f133) Q (St0 x0 x1) =
        if (fitB (0 + x0.length) 8 && (Nat.beq 0 0 || Nat.blt 0 x0.length)) = true then
          L cd0 (blkQ C 0 (sq D L Js C cd4 Q)) (St1 x1 0 (x0.length : Int) 0 x0)
        else none := by
    intro D L; kernel_rfl
  refine (show (den C k) (cB Try.f133) Q (St0 x0 x1) = denJ (den C k) (lp C k) Js C (cB Try.f133) Q (St0 x0 x1) from (denJ_den _ _ _ _ _ _).symm).trans ((h (den C k) (lp C k)).trans ?_)
  simp only [a0]
  first | rfl | kernel_rfl
def run (x0 : List Int) (x1 : List Int) : Option (List Int) := top (α := List Int) fuel (fun (c11 : List Int) => some c11) x0 x1
def F : Fn := ⟨(.pair (.sl (.int .u64)) (.pair (.sl (.int .u64)) .unit)), (.sl (.int .u64)), false, fun x => run x.1 x.2.1⟩
set_option maxRecDepth 100000 in
theorem con : Con Try.prog 133 F := by
  refine con_of_den (C := C) (ctx_ok (by kernel_rfl) (by kernel_rfl) trivial) (by kernel_rfl) Try.func133 (c := cB Try.f133) (by kernel_rfl) (by kernel_rfl) F fuel (fun x => by simp [F, spread, Try.ntmps133]) ?_
  intro x r h
  rw [← h]
  have h1 : start F Try.f133.ntmps x = (St0 x.1 x.2.1) := by kernel_rfl
  rw [h1]
  refine (top_eq fuel (fin C Try.f133.results.toList F.rs F.multi) x.1 x.2.1).trans ?_
  kernel_rfl
theorem named : Named Try.prog 133 := named_of Try.func133 (by kernel_rfl) (by kernel_rfl)
end Go.Bx.basculeref_less
namespace Go.Bx.basculeref_compare
open Go Go.Proofs Go.Bx
set_option maxRecDepth 100000
set_option linter.unusedVariables false
def Js : List Nat := [8, 10, 14]
def C : Ctx := ⟨[(3, (.int .i64)), (22, (.int .u64)), (97, (.sl (.int .u64)))], [], fnL [], noSh, [], noInv, [(2, [4]), (1, []), (4, [0, 1, 5]), (6, [0, 1, 5]), (21, [0, 1, 5, 6, 7]), (27, [0, 1, 5, 6, 7]), (39, [])], [], [], 0, 0⟩
def St0 (x0 : List Int) (x1 : List Int) : St := stL 40 [(0, .data (.sl (.int .u64)) x0), (1, .data (.sl (.int .u64)) x1)] []
def St1 (x0 : List Int) (x1 : List Int) (x5 : Int) : St := stL 40 [(0, .data (.sl (.int .u64)) x0), (1, .data (.sl (.int .u64)) x1), (5, .data (.int .i64) x5)] []
noncomputable def cd0 : Code := cL (cL (cR (cL (cR (cB Try.f132)))))
def St2 (x0 : List Int) (x1 : List Int) (x5 : Int) (x6 : Int) (x7 : Int) : St := stL 40 [(0, .data (.sl (.int .u64)) x0), (1, .data (.sl (.int .u64)) x1), (5, .data (.int .i64) x5), (6, .data (.int .u64) x6), (7, .data (.int .u64) x7)] []
noncomputable def cd1 : Code := cR (cR (cL (cL (cR (cL (cR (cB Try.f132)))))))
noncomputable def cd2 : Code := cR (cR (cL (cL (cR (cL (cL (cR (cL (cR (cB Try.f132))))))))))
def St3 (x0 : List Int) (x1 : List Int) (x5 : Int) (x6 : Int) (x7 : Int) : St := stL 40 [(0, .data (.sl (.int .u64)) x0), (1, .data (.sl (.int .u64)) x1), (5, .data (.int .i64) x5), (6, .data (.int .u64) x6), (7, .data (.int .u64) x7)] []
noncomputable def cd3 : Code := cR (cR (cR (cL (cL (cR (cL (cL (cR (cL (cR (cB Try.f132)))))))))))
def St4 (x4 : Int) : St := stL 40 [(4, .data (.int .i64) x4)] []
def j1 {α : Type} (Nx : (List Int) → (List Int) → Int → Option α) (Rt : Int → Option α) (x0 : List Int) (x1 : List Int) (x5 : Int) (x6 : Int) (x7 : Int) : Option α :=
  if (decide (x6 < x7)) = true then
    Rt (-1)
  else
    if (decide (x6 > x7)) = true then
      Rt 1
    else
      Nx x0 x1 (IntKind.i64.wrap (x5 - 1))
theorem j1_eq {α : Type} (k : Nat) (next : St → Option α) (Q : Ex → St → Option α) (x0 : List Int) (x1 : List Int) (x5 : Int) (x6 : Int) (x7 : Int) :
    (den C k) cd3 (blkQ C 1 (sq (den C k) (lp C k) Js C cd1 (lq C 6 next Q))) (St3 x0 x1 x5 x6 x7) = j1 (fun (x0 : List Int) (x1 : List Int) (x5 : Int) => next (St1 x0 x1 x5)) (fun (x4 : Int) => Q .ret (St4 x4)) x0 x1 x5 x6 x7 := by
  have h : ∀ (D L : DT α), denJ D L Js C cd3 (blkQ C 1 (sq D L Js C cd1 (lq C 6 next Q))) (St3 x0 x1 x5 x6 x7) =
        if (decide (x6 < x7)) = true then
          Q .ret (St4 (-1))
        else
          if (decide (x6 > x7)) = true then
            Q .ret (St4 1)
          else
            next (St1 x0 x1 (IntKind.i64.wrap (x5 - 1))) := by
    intro D L; kernel_rfl
  refine (show (den C k) cd3 (blkQ C 1 (sq (den C k) (lp C k) Js C cd1 (lq C 6 next Q))) (St3 x0 x1 x5 x6 x7) = denJ (den C k) (lp C k) Js C cd3 (blkQ C 1 (sq (den C k) (lp C k) Js C cd1 (lq C 6 next Q))) (St3 x0 x1 x5 x6 x7) from (denJ_den _ _ _ _ _ _).symm).trans ((h (den C k) (lp C k)).trans ?_)
  first | rfl | kernel_rfl
def j0 {α : Type} (Nx : (List Int) → (List Int) → Int → Option α) (Rt : Int → Option α) (x0 : List Int) (x1 : List Int) (x5 : Int) (x6 : Int) (x7 : Int) : Option α :=
  if (decide (x5 < (x1.length : Int))) = true then
    if 0 ≤ x5 ∧ x5 < (x1.length : Int) then
      j1 Nx Rt x0 x1 x5 x6 (List.getD x1 (Int.toNat x5) 0)
    else none
  else
    j1 Nx Rt x0 x1 x5 x6 x7
theorem j0_eq {α : Type} (k : Nat) (next : St → Option α) (Q : Ex → St → Option α) (x0 : List Int) (x1 : List Int) (x5 : Int) (x6 : Int) (x7 : Int) :
    (den C k) cd2 (blkQ C 1 (sq (den C k) (lp C k) Js C cd1 (lq C 6 next Q))) (St2 x0 x1 x5 x6 x7) = j0 (fun (x0 : List Int) (x1 : List Int) (x5 : Int) => next (St1 x0 x1 x5)) (fun (x4 : Int) => Q .ret (St4 x4)) x0 x1 x5 x6 x7 := by
  have h : ∀ (D L : DT α), denJ D L Js C cd2 (blkQ C 1 (sq D L Js C cd1 (lq C 6 next Q))) (St2 x0 x1 x5 x6 x7) =
        if (decide (x5 < (x1.length : Int))) = true then
          if 0 ≤ x5 ∧ x5 < (x1.length : Int) then
            D cd3 (blkQ C 1 (sq D L Js C cd1 (lq C 6 next Q))) (St3 x0 x1 x5 x6 (List.getD x1 (Int.toNat x5) 0))
          else none
        else
          D cd3 (blkQ C 1 (sq D L Js C cd1 (lq C 6 next Q))) (St3 x0 x1 x5 x6 x7) := by
    intro D L; kernel_rfl
  refine (show (den C k) cd2 (blkQ C 1 (sq (den C k) (lp C k) Js C cd1 (lq C 6 next Q))) (St2 x0 x1 x5 x6 x7) = denJ (den C k) (lp C k) Js C cd2 (blkQ C 1 (sq (den C k) (lp C k) Js C cd1 (lq C 6 next Q))) (St2 x0 x1 x5 x6 x7) from (denJ_den _ _ _ _ _ _).symm).trans ((h (den C k) (lp C k)).trans ?_)
  simp only [j1_eq]
  first | rfl | kernel_rfl
def St5 : St := stL 40 [] []
def l0s {α : Type} (Nx : (List Int) → (List Int) → Int → Option α) (Rt : Int → Option α) (Xt0 : Option α) (x0 : List Int) (x1 : List Int) (x5 : Int) : Option α :=
  if (decide (x5 ≥ 0)) = true then
    if (decide (x5 < (x0.length : Int))) = true then
      if 0 ≤ x5 ∧ x5 < (x0.length : Int) then
        j0 Nx Rt x0 x1 x5 (List.getD x0 (Int.toNat x5) 0) 0
      else none
    else
      j0 Nx Rt x0 x1 x5 0 0
  else
    Xt0
theorem l0s_eq {α : Type} (k : Nat) (next : St → Option α) (Q : Ex → St → Option α) (x0 : List Int) (x1 : List Int) (x5 : Int) :
    rnd C k cd0 6 Q next (St1 x0 x1 x5) = l0s (fun (x0 : List Int) (x1 : List Int) (x5 : Int) => next (St1 x0 x1 x5)) (fun (x4 : Int) => Q .ret (St4 x4)) (Q (.exit 0) St5) x0 x1 x5 := by
  have h : ∀ (D L : DT α), denJ D L Js C cd0 (lq C 6 next Q) (St1 x0 x1 x5) =
        if (decide (x5 ≥ 0)) = true then
          if (decide (x5 < (x0.length : Int))) = true then
            if 0 ≤ x5 ∧ x5 < (x0.length : Int) then
              D cd2 (blkQ C 1 (sq D L Js C cd1 (lq C 6 next Q))) (St2 x0 x1 x5 (List.getD x0 (Int.toNat x5) 0) 0)
            else none
          else
            D cd2 (blkQ C 1 (sq D L Js C cd1 (lq C 6 next Q))) (St2 x0 x1 x5 0 0)
        else
          Q (.exit 0) St5 := by
    intro D L; kernel_rfl
  refine (show rnd C k cd0 6 Q next (St1 x0 x1 x5) = denJ (den C k) (lp C k) Js C cd0 (lq C 6 next Q) (St1 x0 x1 x5) from (denJ_den _ _ _ _ _ _).symm).trans ((h (den C k) (lp C k)).trans ?_)
  simp only [j0_eq]
  first | rfl | kernel_rfl
def l0 {α : Type} (k : Nat) (Rt : Int → Option α) (Xt0 : Option α) : Nat → (List Int) → (List Int) → Int → Option α
  | 0, _, _, _ => none
  | n + 1, x0, x1, x5 => l0s (l0 k Rt Xt0 n) Rt Xt0 x0 x1 x5
theorem l0_eq {α : Type} (k : Nat) (Q : Ex → St → Option α) : ∀ (n : Nat) (x0 : List Int) (x1 : List Int) (x5 : Int), iter (rnd C k cd0 6 Q) n (St1 x0 x1 x5) = l0 k (fun (x4 : Int) => Q .ret (St4 x4)) (Q (.exit 0) St5) n x0 x1 x5
  | 0, _, _, _ => rfl
  | n + 1, x0, x1, x5 => (iter_succ _ _ _).trans ((l0s_eq k (iter (rnd C k cd0 6 Q) n) Q x0 x1 x5).trans (congrArg (fun N => l0s N (fun (x4 : Int) => Q .ret (St4 x4)) (Q (.exit 0) St5) x0 x1 x5) (funext fun x0 => funext fun x1 => funext fun x5 => l0_eq k Q n x0 x1 x5)))
theorem l0_congr {α : Type} (k : Nat) (Rt : Int → Option α) (Xt0 : Option α) (Rtq : Int → Option α) (Xt0q : Option α) (hRt : ∀ (x4 : Int), Rt x4 = Rtq x4) (hXt0 : Xt0 = Xt0q) (n : Nat) (x0 : List Int) (x1 : List Int) (x5 : Int) : l0 k Rt Xt0 n x0 x1 x5 = l0 k Rtq Xt0q n x0 x1 x5 := by
  obtain rfl : Rt = Rtq := by funext x4; exact hRt x4
  obtain rfl : Xt0 = Xt0q := hXt0
  rfl
noncomputable def cd4 : Code := cR (cR (cB Try.f132))
def St6 : St := stL 40 [] []
def j2 {α : Type} (Rt : Int → Option α) : Option α :=
  Rt 0
theorem j2_eq {α : Type} (k : Nat) (Q : Ex → St → Option α) :
    (den C k) cd4 Q St6 = j2 (fun (x4 : Int) => Q .ret (St4 x4)) := by
  have h : ∀ (D L : DT α), denJ D L Js C cd4 Q St6 =
        Q .ret (St4 0) := by
    intro D L; kernel_rfl
  refine (show (den C k) cd4 Q St6 = denJ (den C k) (lp C k) Js C cd4 Q St6 from (denJ_den _ _ _ _ _ _).symm).trans ((h (den C k) (lp C k)).trans ?_)
  first | rfl | kernel_rfl
theorem a0 {α : Type} (k : Nat) (Q : Ex → St → Option α) (x0 : List Int) (x1 : List Int) (x5 : Int) :
    (lp C k) cd0 (blkQ C 0 (sq (den C k) (lp C k) Js C cd4 Q)) (St1 x0 x1 x5) = l0 k (fun (x4 : Int) => (fun (x4 : Int) => Q .ret (St4 x4)) x4) (j2 (fun (x4 : Int) => Q .ret (St4 x4))) k x0 x1 x5 :=
  (show (lp C k) cd0 (blkQ C 0 (sq (den C k) (lp C k) Js C cd4 Q)) (St1 x0 x1 x5) = iter (rnd C k cd0 6 (blkQ C 0 (sq (den C k) (lp C k) Js C cd4 Q))) k (St1 x0 x1 x5) by kernel_rfl).trans ((l0_eq k (blkQ C 0 (sq (den C k) (lp C k) Js C cd4 Q)) k x0 x1 x5).trans (l0_congr k _ _ _ _ (fun x4 => (show (blkQ C 0 (sq (den C k) (lp C k) Js C cd4 Q)) .ret (St4 x4) = Q .ret (St4 x4) by kernel_rfl)) ((show (blkQ C 0 (sq (den C k) (lp C k) Js C cd4 Q)) (.exit 0) St5 = (den C k) cd4 Q St6 by kernel_rfl).trans (by simp only [j2_eq])) k x0 x1 x5))
def top {α : Type} (k : Nat) (Rt : Int → Option α) (x0 : List Int) (x1 : List Int) : Option α :=
  l0 k (fun (x4 : Int) => Rt x4) (j2 Rt) k x0 x1 (IntKind.i64.wrap ((if (x1.length : Int) > (x0.length : Int) then (x1.length : Int) else (x0.length : Int)) - 1))
theorem top_eq {α : Type} (k : Nat) (Q : Ex → St → Option α) (x0 : List Int) (x1 : List Int) :
    (den C k) (cB Try.f132) Q (St0 x0 x1) = top k (fun (x4 : Int) => Q .ret (St4 x4)) x0 x1 := by
  have h : ∀ (D L : DT α), denJ D L Js C (cB Try.f132) Q (St0 x0 x1) =
        L cd0 (blkQ C 0 (sq D L Js C cd4 Q)) (St1 x0 x1 (IntKind.i64.wrap ((if (x1.length : Int) > (x0.length : Int) then (x1.length : Int) else (x0.length : Int)) - 1))) := by
    intro D L; kernel_rfl
  refine (show (den C k) (cB Try.f132) Q (St0 x0 x1) = denJ (den C k) (lp C k) Js C (cB Try.f132) Q (St0 x0 x1) from (denJ_den _ _ _ _ _ _).symm).trans ((h (den C k) (lp C k)).trans ?_)
  simp only [a0]
  first | rfl | kernel_rfl
def run (x0 : List Int) (x1 : List Int) : Option (Int) := top (α := Int) fuel (fun (x4 : Int) => some x4) x0 x1
def F : Fn := ⟨(.pair (.sl (.int .u64)) (.pair (.sl (.int .u64)) .unit)), (.int .i64), false, fun x => run x.1 x.2.1⟩
set_option maxRecDepth 100000 in
theorem con : Con Try.prog 132 F := by
  refine con_of_den (C := C) (ctx_ok (by kernel_rfl) (by kernel_rfl) trivial) (by kernel_rfl) Try.func132 (c := cB Try.f132) (by kernel_rfl) (by kernel_rfl) F fuel (fun x => by simp [F, spread, Try.ntmps132]) ?_
  intro x r h
  rw [← h]
  have h1 : start F Try.f132.ntmps x = (St0 x.1 x.2.1) := by kernel_rfl
  rw [h1]
  refine (top_eq fuel (fin C Try.f132.results.toList F.rs F.multi) x.1 x.2.1).trans ?_
  kernel_rfl
theorem named : Named Try.prog 132 := named_of Try.func132 (by kernel_rfl) (by kernel_rfl)
end Go.Bx.basculeref_compare
namespace Go.Bx.basculeref_wide
open Go Go.Proofs Go.Bx
set_option maxRecDepth 100000
set_option linter.unusedVariables false
def Js : List Nat := [10, 11]
def C : Ctx := ⟨[(4, .bool), (22, (.int .u64)), (24, (.arr 4 (.int .u64))), (97, (.sl (.int .u64)))], [], fnL [], noSh, [], noInv, [(2, [2, 3]), (1, [2, 4, 5]), (4, [2, 4, 5, 8, 9, 10]), (12, [2, 4, 5, 8, 9, 10]), (27, [2, 4, 5, 8, 9, 10]), (30, [2, 4, 5])], [], [], 0, 0⟩
def St0 (x0 : List Int) : St := stL 36 [(0, .data (.sl (.int .u64)) x0)] []
def St1 (x5 : Bool) (x8 : List Int) (x9 : Int) (x10 : Int) (c2 : List Int) (c4 : List Int) : St := stL 36 [(2, .ref 2 0 []), (4, .ref 4 0 []), (5, .data .bool x5), (8, .data (.sl (.int .u64)) x8), (9, .data (.int .i64) x9), (10, .data (.int .i64) x10)] [(2, .cell (.arr 4 (.int .u64)) (.data (.arr 4 (.int .u64)) c2) false), (4, .cell (.arr 4 (.int .u64)) (.data (.arr 4 (.int .u64)) c4) false)]
noncomputable def cd0 : Code := cL (cL (cR (cL (cR (cR (cR (cB Try.f75)))))))
def St2 (x5 : Bool) (x8 : List Int) (x9 : Int) (x10 : Int) (c2 : List Int) (c4 : List Int) : St := stL 36 [(2, .ref 2 0 []), (4, .ref 4 0 []), (5, .data .bool x5), (8, .data (.sl (.int .u64)) x8), (9, .data (.int .i64) x9), (10, .data (.int .i64) x10)] [(2, .cell (.arr 4 (.int .u64)) (.data (.arr 4 (.int .u64)) c2) false), (4, .cell (.arr 4 (.int .u64)) (.data (.arr 4 (.int .u64)) c4) false)]
noncomputable def cd1 : Code := cR (cR (cR (cL (cL (cR (cL (cR (cR (cR (cB Try.f75))))))))))
def j0 {α : Type} (Nx : Bool → (List Int) → Int → Int → (List Int) → (List Int) → Option α) (x5 : Bool) (x8 : List Int) (x9 : Int) (x10 : Int) (c2 : List Int) (c4 : List Int) : Option α :=
  Nx x5 x8 x9 (IntKind.i64.wrap (x10 + 1)) c2 c4
theorem j0_eq {α : Type} (k : Nat) (next : St → Option α) (Q : Ex → St → Option α) (x5 : Bool) (x8 : List Int) (x9 : Int) (x10 : Int) (c2 : List Int) (c4 : List Int) :
    (den C k) cd1 (lq C 12 next Q) (St2 x5 x8 x9 x10 c2 c4) = j0 (fun (x5 : Bool) (x8 : List Int) (x9 : Int) (x10 : Int) (c2 : List Int) (c4 : List Int) => next (St1 x5 x8 x9 x10 c2 c4)) x5 x8 x9 x10 c2 c4 := by
  have h : ∀ (D L : DT α), denJ D L Js C cd1 (lq C 12 next Q) (St2 x5 x8 x9 x10 c2 c4) =
        next (St1 x5 x8 x9 (IntKind.i64.wrap (x10 + 1)) c2 c4) := by
    intro D L; kernel_rfl
  refine (show (den C k) cd1 (lq C 12 next Q) (St2 x5 x8 x9 x10 c2 c4) = denJ (den C k) (lp C k) Js C cd1 (lq C 12 next Q) (St2 x5 x8 x9 x10 c2 c4) from (denJ_den _ _ _ _ _ _).symm).trans ((h (den C k) (lp C k)).trans ?_)
  first | rfl | kernel_rfl
def St3 (x5 : Bool) (c2 : List Int) (c4 : List Int) : St := stL 36 [(2, .ref 2 0 []), (4, .ref 4 0 []), (5, .data .bool x5)] [(2, .cell (.arr 4 (.int .u64)) (.data (.arr 4 (.int .u64)) c2) false), (4, .cell (.arr 4 (.int .u64)) (.data (.arr 4 (.int .u64)) c4) false)]
def l0s {α : Type} (Nx : Bool → (List Int) → Int → Int → (List Int) → (List Int) → Option α) (Xt0 : Bool → (List Int) → (List Int) → Option α) (x5 : Bool) (x8 : List Int) (x9 : Int) (x10 : Int) (c2 : List Int) (c4 : List Int) : Option α :=
  if (decide (x10 < x9)) = true then
    if 0 ≤ x10 ∧ x10 < (x8.length : Int) then
      if (decide (x10 ≥ 8)) = true then
        j0 Nx (cond x5 true ((List.getD x8 (Int.toNat x10) 0) != 0)) x8 x9 x10 c2 c4
      else
        if 0 ≤ (IntKind.i64.wrap (Int.tdiv x10 2)) ∧ (IntKind.i64.wrap (Int.tdiv x10 2)) < (4 : Int) then
          if 0 ≤ (IntKind.i64.wrap (32 * (Int.tmod x10 2))) then
            if 0 ≤ (IntKind.i64.wrap (Int.tdiv x10 2)) ∧ (IntKind.i64.wrap (Int.tdiv x10 2)) < (4 : Int) then
              j0 Nx x5 x8 x9 x10 c2 (List.set c4 (Int.toNat (IntKind.i64.wrap (Int.tdiv x10 2))) (bor .u64 (List.getD c4 (Int.toNat (IntKind.i64.wrap (Int.tdiv x10 2))) 0) (shlI .u64 (List.getD x8 (Int.toNat x10) 0) (IntKind.i64.wrap (32 * (Int.tmod x10 2))))))
            else none
          else none
        else none
    else none
  else
    Xt0 x5 c2 c4
theorem l0s_eq {α : Type} (k : Nat) (next : St → Option α) (Q : Ex → St → Option α) (x5 : Bool) (x8 : List Int) (x9 : Int) (x10 : Int) (c2 : List Int) (c4 : List Int) :
    rnd C k cd0 12 Q next (St1 x5 x8 x9 x10 c2 c4) = l0s (fun (x5 : Bool) (x8 : List Int) (x9 : Int) (x10 : Int) (c2 : List Int) (c4 : List Int) => next (St1 x5 x8 x9 x10 c2 c4)) (fun (x5 : Bool) (c2 : List Int) (c4 : List Int) => Q (.exit 0) (St3 x5 c2 c4)) x5 x8 x9 x10 c2 c4 := by
  have h : ∀ (D L : DT α), denJ D L Js C cd0 (lq C 12 next Q) (St1 x5 x8 x9 x10 c2 c4) =
        if (decide (x10 < x9)) = true then
          if 0 ≤ x10 ∧ x10 < (x8.length : Int) then
            if (decide (x10 ≥ 8)) = true then
              D cd1 (lq C 12 next Q) (St2 (cond x5 true ((List.getD x8 (Int.toNat x10) 0) != 0)) x8 x9 x10 c2 c4)
            else
              if 0 ≤ (IntKind.i64.wrap (Int.tdiv x10 2)) ∧ (IntKind.i64.wrap (Int.tdiv x10 2)) < (4 : Int) then
                if 0 ≤ (IntKind.i64.wrap (32 * (Int.tmod x10 2))) then
                  if 0 ≤ (IntKind.i64.wrap (Int.tdiv x10 2)) ∧ (IntKind.i64.wrap (Int.tdiv x10 2)) < (4 : Int) then
                    D cd1 (lq C 12 next Q) (St2 x5 x8 x9 x10 c2 (List.set c4 (Int.toNat (IntKind.i64.wrap (Int.tdiv x10 2))) (bor .u64 (List.getD c4 (Int.toNat (IntKind.i64.wrap (Int.tdiv x10 2))) 0) (shlI .u64 (List.getD x8 (Int.toNat x10) 0) (IntKind.i64.wrap (32 * (Int.tmod x10 2)))))))
                  else none
                else none
              else none
          else none
        else
          Q (.exit 0) (St3 x5 c2 c4) := by
    intro D L; kernel_rfl
  refine (show rnd C k cd0 12 Q next (St1 x5 x8 x9 x10 c2 c4) = denJ (den C k) (lp C k) Js C cd0 (lq C 12 next Q) (St1 x5 x8 x9 x10 c2 c4) from (denJ_den _ _ _ _ _ _).symm).trans ((h (den C k) (lp C k)).trans ?_)
  simp only [j0_eq]
  first | rfl | kernel_rfl
def l0 {α : Type} (k : Nat) (Xt0 : Bool → (List Int) → (List Int) → Option α) : Nat → Bool → (List Int) → Int → Int → (List Int) → (List Int) → Option α
  | 0, _, _, _, _, _, _ => none
  | n + 1, x5, x8, x9, x10, c2, c4 => l0s (l0 k Xt0 n) Xt0 x5 x8 x9 x10 c2 c4
theorem l0_eq {α : Type} (k : Nat) (Q : Ex → St → Option α) : ∀ (n : Nat) (x5 : Bool) (x8 : List Int) (x9 : Int) (x10 : Int) (c2 : List Int) (c4 : List Int), iter (rnd C k cd0 12 Q) n (St1 x5 x8 x9 x10 c2 c4) = l0 k (fun (x5 : Bool) (c2 : List Int) (c4 : List Int) => Q (.exit 0) (St3 x5 c2 c4)) n x5 x8 x9 x10 c2 c4
  | 0, _, _, _, _, _, _ => rfl
  | n + 1, x5, x8, x9, x10, c2, c4 => (iter_succ _ _ _).trans ((l0s_eq k (iter (rnd C k cd0 12 Q) n) Q x5 x8 x9 x10 c2 c4).trans (congrArg (fun N => l0s N (fun (x5 : Bool) (c2 : List Int) (c4 : List Int) => Q (.exit 0) (St3 x5 c2 c4)) x5 x8 x9 x10 c2 c4) (funext fun x5 => funext fun x8 => funext fun x9 => funext fun x10 => funext fun c2 => funext fun c4 => l0_eq k Q n x5 x8 x9 x10 c2 c4)))
theorem l0_congr {α : Type} (k : Nat) (Xt0 : Bool → (List Int) → (List Int) → Option α) (Xt0q : Bool → (List Int) → (List Int) → Option α) (hXt0 : ∀ (x5 : Bool) (c2 : List Int) (c4 : List Int), Xt0 x5 c2 c4 = Xt0q x5 c2 c4) (n : Nat) (x5 : Bool) (x8 : List Int) (x9 : Int) (x10 : Int) (c2 : List Int) (c4 : List Int) : l0 k Xt0 n x5 x8 x9 x10 c2 c4 = l0 k Xt0q n x5 x8 x9 x10 c2 c4 := by
  obtain rfl : Xt0 = Xt0q := by funext x5; funext c2; funext c4; exact hXt0 x5 c2 c4
  rfl
noncomputable def cd2 : Code := cR (cR (cR (cR (cB Try.f75))))
def St4 (x5 : Bool) (c2 : List Int) (c4 : List Int) : St := stL 36 [(2, .ref 2 0 []), (4, .ref 4 0 []), (5, .data .bool x5)] [(2, .cell (.arr 4 (.int .u64)) (.data (.arr 4 (.int .u64)) c2) false), (4, .cell (.arr 4 (.int .u64)) (.data (.arr 4 (.int .u64)) c4) false)]
def St5 (x3 : Bool) (c2 : List Int) : St := stL 36 [(2, .ref 2 0 []), (3, .data .bool x3)] [(2, .cell (.arr 4 (.int .u64)) (.data (.arr 4 (.int .u64)) c2) false)]
def j1 {α : Type} (Rt : Bool → (List Int) → Option α) (x5 : Bool) (c2 : List Int) (c4 : List Int) : Option α :=
  Rt x5 c4
theorem j1_eq {α : Type} (k : Nat) (Q : Ex → St → Option α) (x5 : Bool) (c2 : List Int) (c4 : List Int) :
    (den C k) cd2 Q (St4 x5 c2 c4) = j1 (fun (x3 : Bool) (c2 : List Int) => Q .ret (St5 x3 c2)) x5 c2 c4 := by
  have h : ∀ (D L : DT α), denJ D L Js C cd2 Q (St4 x5 c2 c4) =
        Q .ret (St5 x5 c4) := by
    intro D L; kernel_rfl
  refine (show (den C k) cd2 Q (St4 x5 c2 c4) = denJ (den C k) (lp C k) Js C cd2 Q (St4 x5 c2 c4) from (denJ_den _ _ _ _ _ _).symm).trans ((h (den C k) (lp C k)).trans ?_)
  first | rfl | kernel_rfl
theorem a0 {α : Type} (k : Nat) (Q : Ex → St → Option α) (x5 : Bool) (x8 : List Int) (x9 : Int) (x10 : Int) (c2 : List Int) (c4 : List Int) :
    (lp C k) cd0 (blkQ C 0 (sq (den C k) (lp C k) Js C cd2 Q)) (St1 x5 x8 x9 x10 c2 c4) = l0 k (fun (x5 : Bool) (c2 : List Int) (c4 : List Int) => j1 (fun (x3 : Bool) (c2 : List Int) => Q .ret (St5 x3 c2)) x5 c2 c4) k x5 x8 x9 x10 c2 c4 :=
  (show (lp C k) cd0 (blkQ C 0 (sq (den C k) (lp C k) Js C cd2 Q)) (St1 x5 x8 x9 x10 c2 c4) = iter (rnd C k cd0 12 (blkQ C 0 (sq (den C k) (lp C k) Js C cd2 Q))) k (St1 x5 x8 x9 x10 c2 c4) by kernel_rfl).trans ((l0_eq k (blkQ C 0 (sq (den C k) (lp C k) Js C cd2 Q)) k x5 x8 x9 x10 c2 c4).trans (l0_congr k _ _ (fun x5 c2 c4 => ((show (blkQ C 0 (sq (den C k) (lp C k) Js C cd2 Q)) (.exit 0) (St3 x5 c2 c4) = (den C k) cd2 Q (St4 x5 c2 c4) by kernel_rfl).trans (by simp only [j1_eq]))) k x5 x8 x9 x10 c2 c4))
def top {α : Type} (k : Nat) (Rt : Bool → (List Int) → Option α) (x0 : List Int) : Option α :=
  l0 k (fun (x5 : Bool) (c2 : List Int) (c4 : List Int) => j1 Rt x5 c2 c4) k false x0 (x0.length : Int) 0 [0, 0, 0, 0] [0, 0, 0, 0]
theorem top_eq {α : Type} (k : Nat) (Q : Ex → St → Option α) (x0 : List Int) :
    (den C k) (cB Try.f75) Q (St0 x0) = top k (fun (x3 : Bool) (c2 : List Int) => Q .ret (St5 x3 c2)) x0 := by
  have h : ∀ (D L : DT α), denJ D L Js C (cB Try.f75) Q (St0 x0) =
        L cd0 (blkQ C 0 (sq D L Js C cd2 Q)) (St1 false x0 (x0.length : Int) 0 [0, 0, 0, 0] [0, 0, 0, 0]) := by
    intro D L; kernel_rfl
  refine (show (den C k) (cB Try.f75) Q (St0 x0) = denJ (den C k) (lp C k) Js C (cB Try.f75) Q (St0 x0) from (denJ_den _ _ _ _ _ _).symm).trans ((h (den C k) (lp C k)).trans ?_)
  simp only [a0]
  first | rfl | kernel_rfl
def run (x0 : List Int) : Option (List Int × Bool × Unit) := top (α := List Int × Bool × Unit) fuel (fun (x3 : Bool) (c2 : List Int) => some (c2, x3, ())) x0
def F : Fn := ⟨(.pair (.sl (.int .u64)) .unit), (.pair (.arr 4 (.int .u64)) (.pair .bool .unit)), true, fun x => run x.1⟩
set_option maxRecDepth 100000 in
theorem con : Con Try.prog 75 F := by
  refine con_of_den (C := C) (ctx_ok (by kernel_rfl) (by kernel_rfl) trivial) (by kernel_rfl) Try.func75 (c := cB Try.f75) (by kernel_rfl) (by kernel_rfl) F fuel (fun x => by simp [F, spread, Try.ntmps75]) ?_
  intro x r h
  rw [← h]
  have h1 : start F Try.f75.ntmps x = (St0 x.1) := by kernel_rfl
  rw [h1]
  refine (top_eq fuel (fin C Try.f75.results.toList F.rs F.multi) x.1).trans ?_
  kernel_rfl
theorem named : Named Try.prog 75 := named_of Try.func75 (by kernel_rfl) (by kernel_rfl)
end Go.Bx.basculeref_wide
namespace Go.Bx.basculeref_cut
open Go Go.Proofs Go.Bx
set_option maxRecDepth 100000
set_option linter.unusedVariables false
def Js : List Nat := []
def C : Ctx := ⟨[(24, (.arr 4 (.int .u64))), (97, (.sl (.int .u64)))], [], fnL [(75, Go.Bx.basculeref_wide.F)], noSh, [], noInv, [(2, [2])], [], [], 0, 0⟩
def St0 (x0 : List Int) : St := stL 11 [(0, .data (.sl (.int .u64)) x0)] []
def St1 (c2 : List Int) : St := stL 11 [(2, .ref 2 0 [])] [(2, .cell (.arr 4 (.int .u64)) (.data (.arr 4 (.int .u64)) c2) false)]
def top {α : Type} (Rt : (List Int) → Option α) (x0 : List Int) : Option α :=
  (Go.Bx.basculeref_wide.run x0).bind fun y1 =>
  Rt y1.1
theorem top_eq {α : Type} (k : Nat) (Q : Ex → St → Option α) (x0 : List Int) :
    (den C k) (cB Try.f84) Q (St0 x0) = top (fun (c2 : List Int) => Q .ret (St1 c2)) x0 := by
  have h : ∀ (D L : DT α), denJ D L Js C (cB Try.f84) Q (St0 x0) =
        (Go.Bx.basculeref_wide.run x0).bind fun y1 =>
        Q .ret (St1 y1.1) := by
    intro D L; kernel_rfl
  refine (show (den C k) (cB Try.f84) Q (St0 x0) = denJ (den C k) (lp C k) Js C (cB Try.f84) Q (St0 x0) from (denJ_den _ _ _ _ _ _).symm).trans ((h (den C k) (lp C k)).trans ?_)
  first | rfl | kernel_rfl
def run (x0 : List Int) : Option (List Int) := top (α := List Int) (fun (c2 : List Int) => some c2) x0
def F : Fn := ⟨(.pair (.sl (.int .u64)) .unit), (.arr 4 (.int .u64)), false, fun x => run x.1⟩
set_option maxRecDepth 100000 in
theorem con : Con Try.prog 84 F := by
  refine con_of_den (C := C) (ctx_ok (by kernel_rfl) (by kernel_rfl) ⟨.inl ⟨Go.Bx.basculeref_wide.con, Go.Bx.basculeref_wide.named⟩, trivial⟩) (by kernel_rfl) Try.func84 (c := cB Try.f84) (by kernel_rfl) (by kernel_rfl) F fuel (fun x => by simp [F, spread, Try.ntmps84]) ?_
  intro x r h
  rw [← h]
  have h1 : start F Try.f84.ntmps x = (St0 x.1) := by kernel_rfl
  rw [h1]
  refine (top_eq fuel (fin C Try.f84.results.toList F.rs F.multi) x.1).trans ?_
  kernel_rfl
theorem named : Named Try.prog 84 := named_of Try.func84 (by kernel_rfl) (by kernel_rfl)
end Go.Bx.basculeref_cut
namespace Go.Bx.x_add64
open Go Go.Proofs Go.Bx
def run (x y c : Int) : Option (Int × Int × Unit) := add64 x y c
def F : Fn := ⟨U3, U2, true, fun x => run x.1 x.2.1 x.2.2.1⟩
theorem ext : ExtOk Try.prog 130 F := ext_add64 Try.func130 (by kernel_rfl) (by kernel_rfl) (by kernel_rfl) (by kernel_rfl)
end Go.Bx.x_add64
namespace Go.Bx.wide_Add
open Go Go.Proofs Go.Bx
set_option maxRecDepth 100000
set_option linter.unusedVariables false
def Js : List Nat := [8]
def C : Ctx := ⟨[(4, .bool), (22, (.int .u64)), (24, (.arr 4 (.int .u64)))], [], fnL [(130, Go.Bx.x_add64.F)], noSh, [], noInv, [(2, [4, 5]), (1, [2, 4, 6]), (4, [2, 3, 4, 6, 8]), (9, [2, 3, 4, 6, 8]), (21, [2, 4, 6])], [], [], 0, 0⟩
def St0 (x0 : List Int) (x1 : List Int) : St := stL 28 [(0, .data (.arr 4 (.int .u64)) x0), (1, .data (.arr 4 (.int .u64)) x1)] []
def St1 (x6 : Int) (x8 : Int) (c2 : List Int) (c3 : List Int) (c4 : List Int) : St := stL 28 [(2, .ref 2 0 []), (3, .ref 3 0 []), (4, .ref 4 0 []), (6, .data (.int .u64) x6), (8, .data (.int .i64) x8)] [(2, .cell (.arr 4 (.int .u64)) (.data (.arr 4 (.int .u64)) c2) false), (3, .cell (.arr 4 (.int .u64)) (.data (.arr 4 (.int .u64)) c3) false), (4, .cell (.arr 4 (.int .u64)) (.data (.arr 4 (.int .u64)) c4) false)]
noncomputable def cd0 : Code := cL (cL (cR (cL (cR (cR (cB Try.f71))))))
def St2 (x6 : Int) (c2 : List Int) (c4 : List Int) : St := stL 28 [(2, .ref 2 0 []), (4, .ref 4 0 []), (6, .data (.int .u64) x6)] [(2, .cell (.arr 4 (.int .u64)) (.data (.arr 4 (.int .u64)) c2) false), (4, .cell (.arr 4 (.int .u64)) (.data (.arr 4 (.int .u64)) c4) false)]
def l0s {α : Type} (Nx : Int → Int → (List Int) → (List Int) → (List Int) → Option α) (Xt0 : Int → (List Int) → (List Int) → Option α) (x6 : Int) (x8 : Int) (c2 : List Int) (c3 : List Int) (c4 : List Int) : Option α :=
  if (decide (x8 < 4)) = true then
    if 0 ≤ x8 ∧ x8 < (4 : Int) then
      if 0 ≤ x8 ∧ x8 < (4 : Int) then
        (Go.Bx.x_add64.run (List.getD c2 (Int.toNat x8) 0) (List.getD c3 (Int.toNat x8) 0) x6).bind fun y1 =>
        if 0 ≤ x8 ∧ x8 < (4 : Int) then
          Nx y1.2.1 (IntKind.i64.wrap (x8 + 1)) (List.set c2 (Int.toNat x8) y1.1) c3 c4
        else none
      else none
    else none
  else
    Xt0 x6 c2 c4
theorem l0s_eq {α : Type} (k : Nat) (next : St → Option α) (Q : Ex → St → Option α) (x6 : Int) (x8 : Int) (c2 : List Int) (c3 : List Int) (c4 : List Int) :
    rnd C k cd0 9 Q next (St1 x6 x8 c2 c3 c4) = l0s (fun (x6 : Int) (x8 : Int) (c2 : List Int) (c3 : List Int) (c4 : List Int) => next (St1 x6 x8 c2 c3 c4)) (fun (x6 : Int) (c2 : List Int) (c4 : List Int) => Q (.exit 0) (St2 x6 c2 c4)) x6 x8 c2 c3 c4 := by
  have h : ∀ (D L : DT α), denJ D L Js C cd0 (lq C 9 next Q) (St1 x6 x8 c2 c3 c4) =
        if (decide (x8 < 4)) = true then
          if 0 ≤ x8 ∧ x8 < (4 : Int) then
            if 0 ≤ x8 ∧ x8 < (4 : Int) then
              (Go.Bx.x_add64.run (List.getD c2 (Int.toNat x8) 0) (List.getD c3 (Int.toNat x8) 0) x6).bind fun y1 =>
              if 0 ≤ x8 ∧ x8 < (4 : Int) then
                next (St1 y1.2.1 (IntKind.i64.wrap (x8 + 1)) (List.set c2 (Int.toNat x8) y1.1) c3 c4)
              else none
            else none
          else none
        else
          Q (.exit 0) (St2 x6 c2 c4) := by
    intro D L; kernel_rfl
  refine (show rnd C k cd0 9 Q next (St1 x6 x8 c2 c3 c4) = denJ (den C k) (lp C k) Js C cd0 (lq C 9 next Q) (St1 x6 x8 c2 c3 c4) from (denJ_den _ _ _ _ _ _).symm).trans ((h (den C k) (lp C k)).trans ?_)
  first | rfl | kernel_rfl
def l0 {α : Type} (k : Nat) (Xt0 : Int → (List Int) → (List Int) → Option α) : Nat → Int → Int → (List Int) → (List Int) → (List Int) → Option α
  | 0, _, _, _, _, _ => none
  | n + 1, x6, x8, c2, c3, c4 => l0s (l0 k Xt0 n) Xt0 x6 x8 c2 c3 c4
theorem l0_eq {α : Type} (k : Nat) (Q : Ex → St → Option α) : ∀ (n : Nat) (x6 : Int) (x8 : Int) (c2 : List Int) (c3 : List Int) (c4 : List Int), iter (rnd C k cd0 9 Q) n (St1 x6 x8 c2 c3 c4) = l0 k (fun (x6 : Int) (c2 : List Int) (c4 : List Int) => Q (.exit 0) (St2 x6 c2 c4)) n x6 x8 c2 c3 c4
  | 0, _, _, _, _, _ => rfl
  | n + 1, x6, x8, c2, c3, c4 => (iter_succ _ _ _).trans ((l0s_eq k (iter (rnd C k cd0 9 Q) n) Q x6 x8 c2 c3 c4).trans (congrArg (fun N => l0s N (fun (x6 : Int) (c2 : List Int) (c4 : List Int) => Q (.exit 0) (St2 x6 c2 c4)) x6 x8 c2 c3 c4) (funext fun x6 => funext fun x8 => funext fun c2 => funext fun c3 => funext fun c4 => l0_eq k Q n x6 x8 c2 c3 c4)))
theorem l0_congr {α : Type} (k : Nat) (Xt0 : Int → (List Int) → (List Int) → Option α) (Xt0q : Int → (List Int) → (List Int) → Option α) (hXt0 : ∀ (x6 : Int) (c2 : List Int) (c4 : List Int), Xt0 x6 c2 c4 = Xt0q x6 c2 c4) (n : Nat) (x6 : Int) (x8 : Int) (c2 : List Int) (c3 : List Int) (c4 : List Int) : l0 k Xt0 n x6 x8 c2 c3 c4 = l0 k Xt0q n x6 x8 c2 c3 c4 := by
  obtain rfl : Xt0 = Xt0q := by funext x6; funext c2; funext c4; exact hXt0 x6 c2 c4
  rfl
noncomputable def cd1 : Code := cR (cR (cR (cB Try.f71)))
def St3 (x6 : Int) (c2 : List Int) (c4 : List Int) : St := stL 28 [(2, .ref 2 0 []), (4, .ref 4 0 []), (6, .data (.int .u64) x6)] [(2, .cell (.arr 4 (.int .u64)) (.data (.arr 4 (.int .u64)) c2) false), (4, .cell (.arr 4 (.int .u64)) (.data (.arr 4 (.int .u64)) c4) false)]
def St4 (x5 : Bool) (c4 : List Int) : St := stL 28 [(4, .ref 4 0 []), (5, .data .bool x5)] [(4, .cell (.arr 4 (.int .u64)) (.data (.arr 4 (.int .u64)) c4) false)]
def j0 {α : Type} (Rt : Bool → (List Int) → Option α) (x6 : Int) (c2 : List Int) (c4 : List Int) : Option α :=
  Rt (x6 == 1) c2
theorem j0_eq {α : Type} (k : Nat) (Q : Ex → St → Option α) (x6 : Int) (c2 : List Int) (c4 : List Int) :
    (den C k) cd1 Q (St3 x6 c2 c4) = j0 (fun (x5 : Bool) (c4 : List Int) => Q .ret (St4 x5 c4)) x6 c2 c4 := by
  have h : ∀ (D L : DT α), denJ D L Js C cd1 Q (St3 x6 c2 c4) =
        Q .ret (St4 (x6 == 1) c2) := by
    intro D L; kernel_rfl
  refine (show (den C k) cd1 Q (St3 x6 c2 c4) = denJ (den C k) (lp C k) Js C cd1 Q (St3 x6 c2 c4) from (denJ_den _ _ _ _ _ _).symm).trans ((h (den C k) (lp C k)).trans ?_)
  first | rfl | kernel_rfl
theorem a0 {α : Type} (k : Nat) (Q : Ex → St → Option α) (x6 : Int) (x8 : Int) (c2 : List Int) (c3 : List Int) (c4 : List Int) :
    (lp C k) cd0 (blkQ C 0 (sq (den C k) (lp C k) Js C cd1 Q)) (St1 x6 x8 c2 c3 c4) = l0 k (fun (x6 : Int) (c2 : List Int) (c4 : List Int) => j0 (fun (x5 : Bool) (c4 : List Int) => Q .ret (St4 x5 c4)) x6 c2 c4) k x6 x8 c2 c3 c4 :=
  (show (lp C k) cd0 (blkQ C 0 (sq (den C k) (lp C k) Js C cd1 Q)) (St1 x6 x8 c2 c3 c4) = iter (rnd C k cd0 9 (blkQ C 0 (sq (den C k) (lp C k) Js C cd1 Q))) k (St1 x6 x8 c2 c3 c4) by kernel_rfl).trans ((l0_eq k (blkQ C 0 (sq (den C k) (lp C k) Js C cd1 Q)) k x6 x8 c2 c3 c4).trans (l0_congr k _ _ (fun x6 c2 c4 => ((show (blkQ C 0 (sq (den C k) (lp C k) Js C cd1 Q)) (.exit 0) (St2 x6 c2 c4) = (den C k) cd1 Q (St3 x6 c2 c4) by kernel_rfl).trans (by simp only [j0_eq]))) k x6 x8 c2 c3 c4))
def top {α : Type} (k : Nat) (Rt : Bool → (List Int) → Option α) (x0 : List Int) (x1 : List Int) : Option α :=
  l0 k (fun (x6 : Int) (c2 : List Int) (c4 : List Int) => j0 Rt x6 c2 c4) k 0 0 x0 x1 [0, 0, 0, 0]
theorem top_eq {α : Type} (k : Nat) (Q : Ex → St → Option α) (x0 : List Int) (x1 : List Int) :
    (den C k) (cB Try.f71) Q (St0 x0 x1) = top k (fun (x5 : Bool) (c4 : List Int) => Q .ret (St4 x5 c4)) x0 x1 := by
  have h : ∀ (D L : DT α), denJ D L Js C (cB Try.f71) Q (St0 x0 x1) =
        L cd0 (blkQ C 0 (sq D L Js C cd1 Q)) (St1 0 0 x0 x1 [0, 0, 0, 0]) := by
    intro D L; kernel_rfl
  refine (show (den C k) (cB Try.f71) Q (St0 x0 x1) = denJ (den C k) (lp C k) Js C (cB Try.f71) Q (St0 x0 x1) from (denJ_den _ _ _ _ _ _).symm).trans ((h (den C k) (lp C k)).trans ?_)
  simp only [a0]
  first | rfl | kernel_rfl
def run (x0 : List Int) (x1 : List Int) : Option (List Int × Bool × Unit) := top (α := List Int × Bool × Unit) fuel (fun (x5 : Bool) (c4 : List Int) => some (c4, x5, ())) x0 x1
def F : Fn := ⟨(.pair (.arr 4 (.int .u64)) (.pair (.arr 4 (.int .u64)) .unit)), (.pair (.arr 4 (.int .u64)) (.pair .bool .unit)), true, fun x => run x.1 x.2.1⟩
set_option maxRecDepth 100000 in
theorem con : Con Try.prog 71 F := by
  refine con_of_den (C := C) (ctx_ok (by kernel_rfl) (by kernel_rfl) ⟨.inr Go.Bx.x_add64.ext, trivial⟩) (by kernel_rfl) Try.func71 (c := cB Try.f71) (by kernel_rfl) (by kernel_rfl) F fuel (fun x => by simp [F, spread, Try.ntmps71]) ?_
  intro x r h
  rw [← h]
  have h1 : start F Try.f71.ntmps x = (St0 x.1 x.2.1) := by kernel_rfl
  rw [h1]
  refine (top_eq fuel (fin C Try.f71.results.toList F.rs F.multi) x.1 x.2.1).trans ?_
  kernel_rfl
theorem named : Named Try.prog 71 := named_of Try.func71 (by kernel_rfl) (by kernel_rfl)
end Go.Bx.wide_Add
namespace Go.Bx.x_sub64
open Go Go.Proofs Go.Bx
def run (x y c : Int) : Option (Int × Int × Unit) := sub64 x y c
def F : Fn := ⟨U3, U2, true, fun x => run x.1 x.2.1 x.2.2.1⟩
theorem ext : ExtOk Try.prog 135 F := ext_sub64 Try.func135 (by kernel_rfl) (by kernel_rfl) (by kernel_rfl) (by kernel_rfl)
end Go.Bx.x_sub64
namespace Go.Bx.wide_Sub
open Go Go.Proofs Go.Bx
set_option maxRecDepth 100000
set_option linter.unusedVariables false
def Js : List Nat := [8]
def C : Ctx := ⟨[(4, .bool), (22, (.int .u64)), (24, (.arr 4 (.int .u64)))], [], fnL [(135, Go.Bx.x_sub64.F)], noSh, [], noInv, [(2, [4, 5]), (1, [2, 4, 6]), (4, [2, 3, 4, 6, 8]), (9, [2, 3, 4, 6, 8]), (21, [2, 4, 6])], [], [], 0, 0⟩
def St0 (x0 : List Int) (x1 : List Int) : St := stL 28 [(0, .data (.arr 4 (.int .u64)) x0), (1, .data (.arr 4 (.int .u64)) x1)] []
def St1 (x6 : Int) (x8 : Int) (c2 : List Int) (c3 : List Int) (c4 : List Int) : St := stL 28 [(2, .ref 2 0 []), (3, .ref 3 0 []), (4, .ref 4 0 []), (6, .data (.int .u64) x6), (8, .data (.int .i64) x8)] [(2, .cell (.arr 4 (.int .u64)) (.data (.arr 4 (.int .u64)) c2) false), (3, .cell (.arr 4 (.int .u64)) (.data (.arr 4 (.int .u64)) c3) false), (4, .cell (.arr 4 (.int .u64)) (.data (.arr 4 (.int .u64)) c4) false)]
noncomputable def cd0 : Code := cL (cL (cR (cL (cR (cR (cB Try.f83))))))
def St2 (x6 : Int) (c2 : List Int) (c4 : List Int) : St := stL 28 [(2, .ref 2 0 []), (4, .ref 4 0 []), (6, .data (.int .u64) x6)] [(2, .cell (.arr 4 (.int .u64)) (.data (.arr 4 (.int .u64)) c2) false), (4, .cell (.arr 4 (.int .u64)) (.data (.arr 4 (.int .u64)) c4) false)]
def l0s {α : Type} (Nx : Int → Int → (List Int) → (List Int) → (List Int) → Option α) (Xt0 : Int → (List Int) → (List Int) → Option α) (x6 : Int) (x8 : Int) (c2 : List Int) (c3 : List Int) (c4 : List Int) : Option α :=
  if (decide (x8 < 4)) = true then
    if 0 ≤ x8 ∧ x8 < (4 : Int) then
      if 0 ≤ x8 ∧ x8 < (4 : Int) then
        (Go.Bx.x_sub64.run (List.getD c2 (Int.toNat x8) 0) (List.getD c3 (Int.toNat x8) 0) x6).bind fun y1 =>
        if 0 ≤ x8 ∧ x8 < (4 : Int) then
          Nx y1.2.1 (IntKind.i64.wrap (x8 + 1)) (List.set c2 (Int.toNat x8) y1.1) c3 c4
        else none
      else none
    else none
  else
    Xt0 x6 c2 c4
theorem l0s_eq {α : Type} (k : Nat) (next : St → Option α) (Q : Ex → St → Option α) (x6 : Int) (x8 : Int) (c2 : List Int) (c3 : List Int) (c4 : List Int) :
    rnd C k cd0 9 Q next (St1 x6 x8 c2 c3 c4) = l0s (fun (x6 : Int) (x8 : Int) (c2 : List Int) (c3 : List Int) (c4 : List Int) => next (St1 x6 x8 c2 c3 c4)) (fun (x6 : Int) (c2 : List Int) (c4 : List Int) => Q (.exit 0) (St2 x6 c2 c4)) x6 x8 c2 c3 c4 := by
  have h : ∀ (D L : DT α), denJ D L Js C cd0 (lq C 9 next Q) (St1 x6 x8 c2 c3 c4) =
        if (decide (x8 < 4)) = true then
          if 0 ≤ x8 ∧ x8 < (4 : Int) then
            if 0 ≤ x8 ∧ x8 < (4 : Int) then
              (Go.Bx.x_sub64.run (List.getD c2 (Int.toNat x8) 0) (List.getD c3 (Int.toNat x8) 0) x6).bind fun y1 =>
              if 0 ≤ x8 ∧ x8 < (4 : Int) then
                next (St1 y1.2.1 (IntKind.i64.wrap (x8 + 1)) (List.set c2 (Int.toNat x8) y1.1) c3 c4)
              else none
            else none
          else none
        else
          Q (.exit 0) (St2 x6 c2 c4) := by
    intro D L; kernel_rfl
  refine (show rnd C k cd0 9 Q next (St1 x6 x8 c2 c3 c4) = denJ (den C k) (lp C k) Js C cd0 (lq C 9 next Q) (St1 x6 x8 c2 c3 c4) from (denJ_den _ _ _ _ _ _).symm).trans ((h (den C k) (lp C k)).trans ?_)
  first | rfl | kernel_rfl
def l0 {α : Type} (k : Nat) (Xt0 : Int → (List Int) → (List Int) → Option α) : Nat → Int → Int → (List Int) → (List Int) → (List Int) → Option α
  | 0, _, _, _, _, _ => none
  | n + 1, x6, x8, c2, c3, c4 => l0s (l0 k Xt0 n) Xt0 x6 x8 c2 c3 c4
theorem l0_eq {α : Type} (k : Nat) (Q : Ex → St → Option α) : ∀ (n : Nat) (x6 : Int) (x8 : Int) (c2 : List Int) (c3 : List Int) (c4 : List Int), iter (rnd C k cd0 9 Q) n (St1 x6 x8 c2 c3 c4) = l0 k (fun (x6 : Int) (c2 : List Int) (c4 : List Int) => Q (.exit 0) (St2 x6 c2 c4)) n x6 x8 c2 c3 c4
  | 0, _, _, _, _, _ => rfl
  | n + 1, x6, x8, c2, c3, c4 => (iter_succ _ _ _).trans ((l0s_eq k (iter (rnd C k cd0 9 Q) n) Q x6 x8 c2 c3 c4).trans (congrArg (fun N => l0s N (fun (x6 : Int) (c2 : List Int) (c4 : List Int) => Q (.exit 0) (St2 x6 c2 c4)) x6 x8 c2 c3 c4) (funext fun x6 => funext fun x8 => funext fun c2 => funext fun c3 => funext fun c4 => l0_eq k Q n x6 x8 c2 c3 c4)))
theorem l0_congr {α : Type} (k : Nat) (Xt0 : Int → (List Int) → (List Int) → Option α) (Xt0q : Int → (List Int) → (List Int) → Option α) (hXt0 : ∀ (x6 : Int) (c2 : List Int) (c4 : List Int), Xt0 x6 c2 c4 = Xt0q x6 c2 c4) (n : Nat) (x6 : Int) (x8 : Int) (c2 : List Int) (c3 : List Int) (c4 : List Int) : l0 k Xt0 n x6 x8 c2 c3 c4 = l0 k Xt0q n x6 x8 c2 c3 c4 := by
  obtain rfl : Xt0 = Xt0q := by funext x6; funext c2; funext c4; exact hXt0 x6 c2 c4
  rfl
noncomputable def cd1 : Code := cR (cR (cR (cB Try.f83)))
def St3 (x6 : Int) (c2 : List Int) (c4 : List Int) : St := stL 28 [(2, .ref 2 0 []), (4, .ref 4 0 []), (6, .data (.int .u64) x6)] [(2, .cell (.arr 4 (.int .u64)) (.data (.arr 4 (.int .u64)) c2) false), (4, .cell (.arr 4 (.int .u64)) (.data (.arr 4 (.int .u64)) c4) false)]
def St4 (x5 : Bool) (c4 : List Int) : St := stL 28 [(4, .ref 4 0 []), (5, .data .bool x5)] [(4, .cell (.arr 4 (.int .u64)) (.data (.arr 4 (.int .u64)) c4) false)]
def j0 {α : Type} (Rt : Bool → (List Int) → Option α) (x6 : Int) (c2 : List Int) (c4 : List Int) : Option α :=
  Rt (x6 == 1) c2
theorem j0_eq {α : Type} (k : Nat) (Q : Ex → St → Option α) (x6 : Int) (c2 : List Int) (c4 : List Int) :
    (den C k) cd1 Q (St3 x6 c2 c4) = j0 (fun (x5 : Bool) (c4 : List Int) => Q .ret (St4 x5 c4)) x6 c2 c4 := by
  have h : ∀ (D L : DT α), denJ D L Js C cd1 Q (St3 x6 c2 c4) =
        Q .ret (St4 (x6 == 1) c2) := by
    intro D L; kernel_rfl
  refine (show (den C k) cd1 Q (St3 x6 c2 c4) = denJ (den C k) (lp C k) Js C cd1 Q (St3 x6 c2 c4) from (denJ_den _ _ _ _ _ _).symm).trans ((h (den C k) (lp C k)).trans ?_)
  first | rfl | kernel_rfl
theorem a0 {α : Type} (k : Nat) (Q : Ex → St → Option α) (x6 : Int) (x8 : Int) (c2 : List Int) (c3 : List Int) (c4 : List Int) :
    (lp C k) cd0 (blkQ C 0 (sq (den C k) (lp C k) Js C cd1 Q)) (St1 x6 x8 c2 c3 c4) = l0 k (fun (x6 : Int) (c2 : List Int) (c4 : List Int) => j0 (fun (x5 : Bool) (c4 : List Int) => Q .ret (St4 x5 c4)) x6 c2 c4) k x6 x8 c2 c3 c4 :=
  (show (lp C k) cd0 (blkQ C 0 (sq (den C k) (lp C k) Js C cd1 Q)) (St1 x6 x8 c2 c3 c4) = iter (rnd C k cd0 9 (blkQ C 0 (sq (den C k) (lp C k) Js C cd1 Q))) k (St1 x6 x8 c2 c3 c4) by kernel_rfl).trans ((l0_eq k (blkQ C 0 (sq (den C k) (lp C k) Js C cd1 Q)) k x6 x8 c2 c3 c4).trans (l0_congr k _ _ (fun x6 c2 c4 => ((show (blkQ C 0 (sq (den C k) (lp C k) Js C cd1 Q)) (.exit 0) (St2 x6 c2 c4) = (den C k) cd1 Q (St3 x6 c2 c4) by kernel_rfl).trans (by simp only [j0_eq]))) k x6 x8 c2 c3 c4))
def top {α : Type} (k : Nat) (Rt : Bool → (List Int) → Option α) (x0 : List Int) (x1 : List Int) : Option α :=
  l0 k (fun (x6 : Int) (c2 : List Int) (c4 : List Int) => j0 Rt x6 c2 c4) k 0 0 x0 x1 [0, 0, 0, 0]
theorem top_eq {α : Type} (k : Nat) (Q : Ex → St → Option α) (x0 : List Int) (x1 : List Int) :
    (den C k) (cB Try.f83) Q (St0 x0 x1) = top k (fun (x5 : Bool) (c4 : List Int) => Q .ret (St4 x5 c4)) x0 x1 := by
  have h : ∀ (D L : DT α), denJ D L Js C (cB Try.f83) Q (St0 x0 x1) =
        L cd0 (blkQ C 0 (sq D L Js C cd1 Q)) (St1 0 0 x0 x1 [0, 0, 0, 0]) := by
    intro D L; kernel_rfl
  refine (show (den C k) (cB Try.f83) Q (St0 x0 x1) = denJ (den C k) (lp C k) Js C (cB Try.f83) Q (St0 x0 x1) from (denJ_den _ _ _ _ _ _).symm).trans ((h (den C k) (lp C k)).trans ?_)
  simp only [a0]
  first | rfl | kernel_rfl
def run (x0 : List Int) (x1 : List Int) : Option (List Int × Bool × Unit) := top (α := List Int × Bool × Unit) fuel (fun (x5 : Bool) (c4 : List Int) => some (c4, x5, ())) x0 x1
def F : Fn := ⟨(.pair (.arr 4 (.int .u64)) (.pair (.arr 4 (.int .u64)) .unit)), (.pair (.arr 4 (.int .u64)) (.pair .bool .unit)), true, fun x => run x.1 x.2.1⟩
set_option maxRecDepth 100000 in
theorem con : Con Try.prog 83 F := by
  refine con_of_den (C := C) (ctx_ok (by kernel_rfl) (by kernel_rfl) ⟨.inr Go.Bx.x_sub64.ext, trivial⟩) (by kernel_rfl) Try.func83 (c := cB Try.f83) (by kernel_rfl) (by kernel_rfl) F fuel (fun x => by simp [F, spread, Try.ntmps83]) ?_
  intro x r h
  rw [← h]
  have h1 : start F Try.f83.ntmps x = (St0 x.1 x.2.1) := by kernel_rfl
  rw [h1]
  refine (top_eq fuel (fin C Try.f83.results.toList F.rs F.multi) x.1 x.2.1).trans ?_
  kernel_rfl
theorem named : Named Try.prog 83 := named_of Try.func83 (by kernel_rfl) (by kernel_rfl)
end Go.Bx.wide_Sub
namespace Go.Bx.basculeref_shorn
open Go Go.Proofs Go.Bx
set_option maxRecDepth 100000
set_option linter.unusedVariables false
def Js : List Nat := [4]
def C : Ctx := ⟨[(22, (.int .u64)), (97, (.sl (.int .u64)))], [], fnL [], noSh, [], noInv, [(2, [2]), (1, [0]), (4, [0]), (3, [0]), (9, [0])], [], [], 0, 0⟩
def St0 (x0 : List Int) : St := stL 21 [(0, .data (.sl (.int .u64)) x0)] []
def St1 (x0 : List Int) : St := stL 21 [(0, .data (.sl (.int .u64)) x0)] []
noncomputable def cd0 : Code := cL (cL (cL (cR (cB Try.f72))))
def St2 (x0 : List Int) : St := stL 21 [(0, .data (.sl (.int .u64)) x0)] []
def l0s {α : Type} (Nx : (List Int) → Option α) (Xt0 : (List Int) → Option α) (x0 : List Int) : Option α :=
  cond (decide (0 ≤ (IntKind.i64.wrap ((x0.length : Int) - 1)) ∧ (IntKind.i64.wrap ((x0.length : Int) - 1)) < (x0.length : Int)) || !((decide ((x0.length : Int) > 0)) == true)) (
    if (cond (decide ((x0.length : Int) > 0)) ((List.getD x0 (Int.toNat (IntKind.i64.wrap ((x0.length : Int) - 1))) 0) == 0) false) = true then
      if 0 ≤ (0 : Int) ∧ (0 : Int) ≤ (IntKind.i64.wrap ((x0.length : Int) - 1)) ∧ (IntKind.i64.wrap ((x0.length : Int) - 1)) ≤ (x0.length : Int) then
        Nx (cutL x0 0 (IntKind.i64.wrap ((x0.length : Int) - 1)))
      else none
    else
      Xt0 x0) none
theorem l0s_eq {α : Type} (k : Nat) (next : St → Option α) (Q : Ex → St → Option α) (x0 : List Int) :
    rnd C k cd0 3 Q next (St1 x0) = l0s (fun (x0 : List Int) => next (St1 x0)) (fun (x0 : List Int) => Q (.exit 0) (St2 x0)) x0 := by
  have h : ∀ (D L : DT α), denJ D L Js C cd0 (lq C 3 next Q) (St1 x0) =
        cond (decide (0 ≤ (IntKind.i64.wrap ((x0.length : Int) - 1)) ∧ (IntKind.i64.wrap ((x0.length : Int) - 1)) < (x0.length : Int)) || !((decide ((x0.length : Int) > 0)) == true)) (
          if (cond (decide ((x0.length : Int) > 0)) ((List.getD x0 (Int.toNat (IntKind.i64.wrap ((x0.length : Int) - 1))) 0) == 0) false) = true then
            if 0 ≤ (0 : Int) ∧ (0 : Int) ≤ (IntKind.i64.wrap ((x0.length : Int) - 1)) ∧ (IntKind.i64.wrap ((x0.length : Int) - 1)) ≤ (x0.length : Int) then
              next (St1 (cutL x0 0 (IntKind.i64.wrap ((x0.length : Int) - 1))))
            else none
          else
            Q (.exit 0) (St2 x0)) none := by
    intro D L; kernel_rfl
  refine (show rnd C k cd0 3 Q next (St1 x0) = denJ (den C k) (lp C k) Js C cd0 (lq C 3 next Q) (St1 x0) from (denJ_den _ _ _ _ _ _).symm).trans ((h (den C k) (lp C k)).trans ?_)
  first | rfl | kernel_rfl
def l0 {α : Type} (k : Nat) (Xt0 : (List Int) → Option α) : Nat → (List Int) → Option α
  | 0, _ => none
  | n + 1, x0 => l0s (l0 k Xt0 n) Xt0 x0
theorem l0_eq {α : Type} (k : Nat) (Q : Ex → St → Option α) : ∀ (n : Nat) (x0 : List Int), iter (rnd C k cd0 3 Q) n (St1 x0) = l0 k (fun (x0 : List Int) => Q (.exit 0) (St2 x0)) n x0
  | 0, _ => rfl
  | n + 1, x0 => (iter_succ _ _ _).trans ((l0s_eq k (iter (rnd C k cd0 3 Q) n) Q x0).trans (congrArg (fun N => l0s N (fun (x0 : List Int) => Q (.exit 0) (St2 x0)) x0) (funext fun x0 => l0_eq k Q n x0)))
theorem l0_congr {α : Type} (k : Nat) (Xt0 : (List Int) → Option α) (Xt0q : (List Int) → Option α) (hXt0 : ∀ (x0 : List Int), Xt0 x0 = Xt0q x0) (n : Nat) (x0 : List Int) : l0 k Xt0 n x0 = l0 k Xt0q n x0 := by
  obtain rfl : Xt0 = Xt0q := by funext x0; exact hXt0 x0
  rfl
noncomputable def cd1 : Code := cR (cR (cB Try.f72))
def St3 (x0 : List Int) : St := stL 21 [(0, .data (.sl (.int .u64)) x0)] []
def St4 (x2 : List Int) : St := stL 21 [(2, .data (.sl (.int .u64)) x2)] []
def j0 {α : Type} (Rt : (List Int) → Option α) (x0 : List Int) : Option α :=
  Rt x0
theorem j0_eq {α : Type} (k : Nat) (Q : Ex → St → Option α) (x0 : List Int) :
    (den C k) cd1 Q (St3 x0) = j0 (fun (x2 : List Int) => Q .ret (St4 x2)) x0 := by
  have h : ∀ (D L : DT α), denJ D L Js C cd1 Q (St3 x0) =
        Q .ret (St4 x0) := by
    intro D L; kernel_rfl
  refine (show (den C k) cd1 Q (St3 x0) = denJ (den C k) (lp C k) Js C cd1 Q (St3 x0) from (denJ_den _ _ _ _ _ _).symm).trans ((h (den C k) (lp C k)).trans ?_)
  first | rfl | kernel_rfl
theorem a0 {α : Type} (k : Nat) (Q : Ex → St → Option α) (x0 : List Int) :
    (lp C k) cd0 (blkQ C 0 (sq (den C k) (lp C k) Js C cd1 Q)) (St1 x0) = l0 k (fun (x0 : List Int) => j0 (fun (x2 : List Int) => Q .ret (St4 x2)) x0) k x0 :=
  (show (lp C k) cd0 (blkQ C 0 (sq (den C k) (lp C k) Js C cd1 Q)) (St1 x0) = iter (rnd C k cd0 3 (blkQ C 0 (sq (den C k) (lp C k) Js C cd1 Q))) k (St1 x0) by kernel_rfl).trans ((l0_eq k (blkQ C 0 (sq (den C k) (lp C k) Js C cd1 Q)) k x0).trans (l0_congr k _ _ (fun x0 => ((show (blkQ C 0 (sq (den C k) (lp C k) Js C cd1 Q)) (.exit 0) (St2 x0) = (den C k) cd1 Q (St3 x0) by kernel_rfl).trans (by simp only [j0_eq]))) k x0))
def top {α : Type} (k : Nat) (Rt : (List Int) → Option α) (x0 : List Int) : Option α :=
  l0 k (fun (x0 : List Int) => j0 Rt x0) k x0
theorem top_eq {α : Type} (k : Nat) (Q : Ex → St → Option α) (x0 : List Int) :
    (den C k) (cB Try.f72) Q (St0 x0) = top k (fun (x2 : List Int) => Q .ret (St4 x2)) x0 := by
  have h : ∀ (D L : DT α), denJ D L Js C (cB Try.f72) Q (St0 x0) =
        L cd0 (blkQ C 0 (sq D L Js C cd1 Q)) (St1 x0) := by
    intro D L; kernel_rfl
  refine (show (den C k) (cB Try.f72) Q (St0 x0) = denJ (den C k) (lp C k) Js C (cB Try.f72) Q (St0 x0) from (denJ_den _ _ _ _ _ _).symm).trans ((h (den C k) (lp C k)).trans ?_)
  simp only [a0]
  first | rfl | kernel_rfl
def run (x0 : List Int) : Option (List Int) := top (α := List Int) fuel (fun (x2 : List Int) => some x2) x0
def F : Fn := ⟨(.pair (.sl (.int .u64)) .unit), (.sl (.int .u64)), false, fun x => run x.1⟩
set_option maxRecDepth 100000 in
theorem con : Con Try.prog 72 F := by
  refine con_of_den (C := C) (ctx_ok (by kernel_rfl) (by kernel_rfl) trivial) (by kernel_rfl) Try.func72 (c := cB Try.f72) (by kernel_rfl) (by kernel_rfl) F fuel (fun x => by simp [F, spread, Try.ntmps72]) ?_
  intro x r h
  rw [← h]
  have h1 : start F Try.f72.ntmps x = (St0 x.1) := by kernel_rfl
  rw [h1]
  refine (top_eq fuel (fin C Try.f72.results.toList F.rs F.multi) x.1).trans ?_
  kernel_rfl
theorem named : Named Try.prog 72 := named_of Try.func72 (by kernel_rfl) (by kernel_rfl)
end Go.Bx.basculeref_shorn
namespace Go.Bx.x_compare
open Go Go.Proofs Go.Bx
def run (x y : List Int) : Option Int := some (cmpL x y)
def F : Fn := ⟨BB, .int .i64, false, fun x => run x.1 x.2.1⟩
theorem ext : ExtOk Try.prog 148 F := ext_compare Try.func148 (by kernel_rfl) (by kernel_rfl) (by kernel_rfl) (by kernel_rfl)
end Go.Bx.x_compare
namespace Go.Bx.bytes_Compare
open Go Go.Proofs Go.Bx
set_option maxRecDepth 100000
set_option linter.unusedVariables false
def Js : List Nat := []
def C : Ctx := ⟨[(3, (.int .i64)), (93, (.sl (.int .u8)))], [], fnL [(148, Go.Bx.x_compare.F)], noSh, [], noInv, [(2, [4])], [], [], 0, 0⟩
def St0 (x0 : List Int) (x1 : List Int) : St := stL 8 [(0, .data (.sl (.int .u8)) x0), (1, .data (.sl (.int .u8)) x1)] []
def St1 (x4 : Int) : St := stL 8 [(4, .data (.int .i64) x4)] []
def top {α : Type} (Rt : Int → Option α) (x0 : List Int) (x1 : List Int) : Option α :=
  (Go.Bx.x_compare.run x0 x1).bind fun y1 =>
  Rt y1
theorem top_eq {α : Type} (k : Nat) (Q : Ex → St → Option α) (x0 : List Int) (x1 : List Int) :
    (den C k) (cB Try.f136) Q (St0 x0 x1) = top (fun (x4 : Int) => Q .ret (St1 x4)) x0 x1 := by
  have h : ∀ (D L : DT α), denJ D L Js C (cB Try.f136) Q (St0 x0 x1) =
        (Go.Bx.x_compare.run x0 x1).bind fun y1 =>
        Q .ret (St1 y1) := by
    intro D L; kernel_rfl
  refine (show (den C k) (cB Try.f136) Q (St0 x0 x1) = denJ (den C k) (lp C k) Js C (cB Try.f136) Q (St0 x0 x1) from (denJ_den _ _ _ _ _ _).symm).trans ((h (den C k) (lp C k)).trans ?_)
  first | rfl | kernel_rfl
def run (x0 : List Int) (x1 : List Int) : Option (Int) := top (α := Int) (fun (x4 : Int) => some x4) x0 x1
def F : Fn := ⟨(.pair (.sl (.int .u8)) (.pair (.sl (.int .u8)) .unit)), (.int .i64), false, fun x => run x.1 x.2.1⟩
set_option maxRecDepth 100000 in
theorem con : Con Try.prog 136 F := by
  refine con_of_den (C := C) (ctx_ok (by kernel_rfl) (by kernel_rfl) ⟨.inr Go.Bx.x_compare.ext, trivial⟩) (by kernel_rfl) Try.func136 (c := cB Try.f136) (by kernel_rfl) (by kernel_rfl) F fuel (fun x => by simp [F, spread, Try.ntmps136]) ?_
  intro x r h
  rw [← h]
  have h1 : start F Try.f136.ntmps x = (St0 x.1 x.2.1) := by kernel_rfl
  rw [h1]
  refine (top_eq fuel (fin C Try.f136.results.toList F.rs F.multi) x.1 x.2.1).trans ?_
  kernel_rfl
theorem named : Named Try.prog 136 := named_of Try.func136 (by kernel_rfl) (by kernel_rfl)
end Go.Bx.bytes_Compare
namespace Go.Bx.coin_Check
open Go Go.Proofs Go.Bx
set_option maxRecDepth 100000
set_option linter.unusedVariables false
def Js : List Nat := [15]
def C : Ctx := ⟨[(24, (.arr 4 (.int .u64))), (25, (.int .i64)), (39, (.sl (.pair (.arr 32 (.int .u8)) (.pair (.arr 4 (.int .u64)) .unit)))), (41, (.pair (.arr 4 (.int .u64)) (.pair (.sl (.pair (.arr 32 (.int .u8)) (.pair (.arr 4 (.int .u64)) .unit))) .unit))), (42, (.arr 32 (.int .u8))), (117, (.pair (.arr 32 (.int .u8)) (.pair (.arr 4 (.int .u64)) .unit)))], [], fnL [(71, Go.Bx.wide_Add.F), (136, Go.Bx.bytes_Compare.F)], noSh, [], noInv, [(2, [2]), (1, [1, 3]), (4, [1, 3, 13, 14, 15]), (15, [1, 3, 13, 14, 15]), (42, [1, 3])], [], [], 0, 0⟩
def St0 (x0 : List Int × List (List Int × List Int × Unit) × Unit) : St := stL 55 [(0, .data (.pair (.arr 4 (.int .u64)) (.pair (.sl (.pair (.arr 32 (.int .u8)) (.pair (.arr 4 (.int .u64)) .unit))) .unit)) x0)] []
def St1 (x2 : Int) : St := stL 55 [(2, .data (.int .i64) x2)] []
def St2 (x13 : List (List Int × List Int × Unit)) (x14 : Int) (x15 : Int) (c1 : List Int × List (List Int × List Int × Unit) × Unit) (c3 : List Int) : St := stL 55 [(1, .ref 1 0 []), (3, .ref 3 0 []), (13, .data (.sl (.pair (.arr 32 (.int .u8)) (.pair (.arr 4 (.int .u64)) .unit))) x13), (14, .data (.int .i64) x14), (15, .data (.int .i64) x15)] [(1, .cell (.pair (.arr 4 (.int .u64)) (.pair (.sl (.pair (.arr 32 (.int .u8)) (.pair (.arr 4 (.int .u64)) .unit))) .unit)) (.data (.pair (.arr 4 (.int .u64)) (.pair (.sl (.pair (.arr 32 (.int .u8)) (.pair (.arr 4 (.int .u64)) .unit))) .unit)) c1) false), (3, .cell (.arr 4 (.int .u64)) (.data (.arr 4 (.int .u64)) c3) false)]
noncomputable def cd0 : Code := cL (cL (cR (cL (cR (cR (cR (cB Try.f86)))))))
def St3 (c1 : List Int × List (List Int × List Int × Unit) × Unit) (c3 : List Int) : St := stL 55 [(1, .ref 1 0 []), (3, .ref 3 0 [])] [(1, .cell (.pair (.arr 4 (.int .u64)) (.pair (.sl (.pair (.arr 32 (.int .u8)) (.pair (.arr 4 (.int .u64)) .unit))) .unit)) (.data (.pair (.arr 4 (.int .u64)) (.pair (.sl (.pair (.arr 32 (.int .u8)) (.pair (.arr 4 (.int .u64)) .unit))) .unit)) c1) false), (3, .cell (.arr 4 (.int .u64)) (.data (.arr 4 (.int .u64)) c3) false)]
def l0s {α : Type} (Nx : (List (List Int × List Int × Unit)) → Int → Int → (List Int × List (List Int × List Int × Unit) × Unit) → (List Int) → Option α) (Rt : Int → Option α) (Xt0 : (List Int × List (List Int × List Int × Unit) × Unit) → (List Int) → Option α) (x13 : List (List Int × List Int × Unit)) (x14 : Int) (x15 : Int) (c1 : List Int × List (List Int × List Int × Unit) × Unit) (c3 : List Int) : Option α :=
  if (decide (x15 < x14)) = true then
    if 0 ≤ x15 ∧ x15 < (x13.length : Int) then
      cond (decide (0 ≤ (IntKind.i64.wrap (x15 - 1)) ∧ (IntKind.i64.wrap (x15 - 1)) < (c1.2.1.length : Int)) || !((decide (x15 > 0)) == true)) (
        (if ((decide (x15 > 0)) == true) = true then Go.Bx.bytes_Compare.run (cutL (List.getD c1.2.1 (Int.toNat (IntKind.i64.wrap (x15 - 1))) ((List.replicate 32 0), [0, 0, 0, 0], ())).1 0 32) (cutL (List.getD x13 (Int.toNat x15) ((List.replicate 32 0), [0, 0, 0, 0], ())).1 0 32) else some 0).bind fun y1 =>
        if (cond (beqD (.arr 4 (.int .u64)) (List.getD x13 (Int.toNat x15) ((List.replicate 32 0), [0, 0, 0, 0], ())).2.1 [0, 0, 0, 0]) true (cond (decide (x15 > 0)) (decide (y1 ≥ 0)) false)) = true then
          Rt 12
        else
          (Go.Bx.wide_Add.run c3 (List.getD x13 (Int.toNat x15) ((List.replicate 32 0), [0, 0, 0, 0], ())).2.1).bind fun y2 =>
          if y2.2.1 = true then
            Rt 12
          else
            Nx x13 x14 (IntKind.i64.wrap (x15 + 1)) c1 y2.1) none
    else none
  else
    Xt0 c1 c3
theorem l0s_eq {α : Type} (k : Nat) (next : St → Option α) (Q : Ex → St → Option α) (x13 : List (List Int × List Int × Unit)) (x14 : Int) (x15 : Int) (c1 : List Int × List (List Int × List Int × Unit) × Unit) (c3 : List Int) :
    rnd C k cd0 15 Q next (St2 x13 x14 x15 c1 c3) = l0s (fun (x13 : List (List Int × List Int × Unit)) (x14 : Int) (x15 : Int) (c1 : List Int × List (List Int × List Int × Unit) × Unit) (c3 : List Int) => next (St2 x13 x14 x15 c1 c3)) (fun (x2 : Int) => Q .ret (St1 x2)) (fun (c1 : List Int × List (List Int × List Int × Unit) × Unit) (c3 : List Int) => Q (.exit 0) (St3 c1 c3)) x13 x14 x15 c1 c3 := by
  have h : ∀ (D L : DT α), denJ D L Js C cd0 (lq C 15 next Q) (St2 x13 x14 x15 c1 c3) =
        if (decide (x15 < x14)) = true then
          if 0 ≤ x15 ∧ x15 < (x13.length : Int) then
            cond (decide (0 ≤ (IntKind.i64.wrap (x15 - 1)) ∧ (IntKind.i64.wrap (x15 - 1)) < (c1.2.1.length : Int)) || !((decide (x15 > 0)) == true)) (
              (if ((decide (x15 > 0)) == true) = true then Go.Bx.bytes_Compare.run (cutL (List.getD c1.2.1 (Int.toNat (IntKind.i64.wrap (x15 - 1))) ((List.replicate 32 0), [0, 0, 0, 0], ())).1 0 32) (cutL (List.getD x13 (Int.toNat x15) ((List.replicate 32 0), [0, 0, 0, 0], ())).1 0 32) else some 0).bind fun y1 =>
              if (cond (beqD (.arr 4 (.int .u64)) (List.getD x13 (Int.toNat x15) ((List.replicate 32 0), [0, 0, 0, 0], ())).2.1 [0, 0, 0, 0]) true (cond (decide (x15 > 0)) (decide (y1 ≥ 0)) false)) = true then
                Q .ret (St1 12)
              else
                (Go.Bx.wide_Add.run c3 (List.getD x13 (Int.toNat x15) ((List.replicate 32 0), [0, 0, 0, 0], ())).2.1).bind fun y2 =>
                if y2.2.1 = true then
                  Q .ret (St1 12)
                else
                  next (St2 x13 x14 (IntKind.i64.wrap (x15 + 1)) c1 y2.1)) none
          else none
        else
          Q (.exit 0) (St3 c1 c3) := by
    intro D L; kernel_rfl
  refine (show rnd C k cd0 15 Q next (St2 x13 x14 x15 c1 c3) = denJ (den C k) (lp C k) Js C cd0 (lq C 15 next Q) (St2 x13 x14 x15 c1 c3) from (denJ_den _ _ _ _ _ _).symm).trans ((h (den C k) (lp C k)).trans ?_)
  first | rfl | kernel_rfl
def l0 {α : Type} (k : Nat) (Rt : Int → Option α) (Xt0 : (List Int × List (List Int × List Int × Unit) × Unit) → (List Int) → Option α) : Nat → (List (List Int × List Int × Unit)) → Int → Int → (List Int × List (List Int × List Int × Unit) × Unit) → (List Int) → Option α
  | 0, _, _, _, _, _ => none
  | n + 1, x13, x14, x15, c1, c3 => l0s (l0 k Rt Xt0 n) Rt Xt0 x13 x14 x15 c1 c3
theorem l0_eq {α : Type} (k : Nat) (Q : Ex → St → Option α) : ∀ (n : Nat) (x13 : List (List Int × List Int × Unit)) (x14 : Int) (x15 : Int) (c1 : List Int × List (List Int × List Int × Unit) × Unit) (c3 : List Int), iter (rnd C k cd0 15 Q) n (St2 x13 x14 x15 c1 c3) = l0 k (fun (x2 : Int) => Q .ret (St1 x2)) (fun (c1 : List Int × List (List Int × List Int × Unit) × Unit) (c3 : List Int) => Q (.exit 0) (St3 c1 c3)) n x13 x14 x15 c1 c3
  | 0, _, _, _, _, _ => rfl
  | n + 1, x13, x14, x15, c1, c3 => (iter_succ _ _ _).trans ((l0s_eq k (iter (rnd C k cd0 15 Q) n) Q x13 x14 x15 c1 c3).trans (congrArg (fun N => l0s N (fun (x2 : Int) => Q .ret (St1 x2)) (fun (c1 : List Int × List (List Int × List Int × Unit) × Unit) (c3 : List Int) => Q (.exit 0) (St3 c1 c3)) x13 x14 x15 c1 c3) (funext fun x13 => funext fun x14 => funext fun x15 => funext fun c1 => funext fun c3 => l0_eq k Q n x13 x14 x15 c1 c3)))
theorem l0_congr {α : Type} (k : Nat) (Rt : Int → Option α) (Xt0 : (List Int × List (List Int × List Int × Unit) × Unit) → (List Int) → Option α) (Rtq : Int → Option α) (Xt0q : (List Int × List (List Int × List Int × Unit) × Unit) → (List Int) → Option α) (hRt : ∀ (x2 : Int), Rt x2 = Rtq x2) (hXt0 : ∀ (c1 : List Int × List (List Int × List Int × Unit) × Unit) (c3 : List Int), Xt0 c1 c3 = Xt0q c1 c3) (n : Nat) (x13 : List (List Int × List Int × Unit)) (x14 : Int) (x15 : Int) (c1 : List Int × List (List Int × List Int × Unit) × Unit) (c3 : List Int) : l0 k Rt Xt0 n x13 x14 x15 c1 c3 = l0 k Rtq Xt0q n x13 x14 x15 c1 c3 := by
  obtain rfl : Rt = Rtq := by funext x2; exact hRt x2
  obtain rfl : Xt0 = Xt0q := by funext c1; funext c3; exact hXt0 c1 c3
  rfl
noncomputable def cd1 : Code := cR (cR (cR (cR (cB Try.f86))))
def St4 (c1 : List Int × List (List Int × List Int × Unit) × Unit) (c3 : List Int) : St := stL 55 [(1, .ref 1 0 []), (3, .ref 3 0 [])] [(1, .cell (.pair (.arr 4 (.int .u64)) (.pair (.sl (.pair (.arr 32 (.int .u8)) (.pair (.arr 4 (.int .u64)) .unit))) .unit)) (.data (.pair (.arr 4 (.int .u64)) (.pair (.sl (.pair (.arr 32 (.int .u8)) (.pair (.arr 4 (.int .u64)) .unit))) .unit)) c1) false), (3, .cell (.arr 4 (.int .u64)) (.data (.arr 4 (.int .u64)) c3) false)]
def j0 {α : Type} (Rt : Int → Option α) (c1 : List Int × List (List Int × List Int × Unit) × Unit) (c3 : List Int) : Option α :=
  if (not (beqD (.arr 4 (.int .u64)) c3 c1.1)) = true then
    Rt 12
  else
    Rt 0
theorem j0_eq {α : Type} (k : Nat) (Q : Ex → St → Option α) (c1 : List Int × List (List Int × List Int × Unit) × Unit) (c3 : List Int) :
    (den C k) cd1 Q (St4 c1 c3) = j0 (fun (x2 : Int) => Q .ret (St1 x2)) c1 c3 := by
  have h : ∀ (D L : DT α), denJ D L Js C cd1 Q (St4 c1 c3) =
        if (not (beqD (.arr 4 (.int .u64)) c3 c1.1)) = true then
          Q .ret (St1 12)
        else
          Q .ret (St1 0) := by
    intro D L; kernel_rfl
  refine (show (den C k) cd1 Q (St4 c1 c3) = denJ (den C k) (lp C k) Js C cd1 Q (St4 c1 c3) from (denJ_den _ _ _ _ _ _).symm).trans ((h (den C k) (lp C k)).trans ?_)
  first | rfl | kernel_rfl
theorem a0 {α : Type} (k : Nat) (Q : Ex → St → Option α) (x13 : List (List Int × List Int × Unit)) (x14 : Int) (x15 : Int) (c1 : List Int × List (List Int × List Int × Unit) × Unit) (c3 : List Int) :
    (lp C k) cd0 (blkQ C 0 (sq (den C k) (lp C k) Js C cd1 Q)) (St2 x13 x14 x15 c1 c3) = l0 k (fun (x2 : Int) => (fun (x2 : Int) => Q .ret (St1 x2)) x2) (fun (c1 : List Int × List (List Int × List Int × Unit) × Unit) (c3 : List Int) => j0 (fun (x2 : Int) => Q .ret (St1 x2)) c1 c3) k x13 x14 x15 c1 c3 :=
  (show (lp C k) cd0 (blkQ C 0 (sq (den C k) (lp C k) Js C cd1 Q)) (St2 x13 x14 x15 c1 c3) = iter (rnd C k cd0 15 (blkQ C 0 (sq (den C k) (lp C k) Js C cd1 Q))) k (St2 x13 x14 x15 c1 c3) by kernel_rfl).trans ((l0_eq k (blkQ C 0 (sq (den C k) (lp C k) Js C cd1 Q)) k x13 x14 x15 c1 c3).trans (l0_congr k _ _ _ _ (fun x2 => (show (blkQ C 0 (sq (den C k) (lp C k) Js C cd1 Q)) .ret (St1 x2) = Q .ret (St1 x2) by kernel_rfl)) (fun c1 c3 => ((show (blkQ C 0 (sq (den C k) (lp C k) Js C cd1 Q)) (.exit 0) (St3 c1 c3) = (den C k) cd1 Q (St4 c1 c3) by kernel_rfl).trans (by simp only [j0_eq]))) k x13 x14 x15 c1 c3))
def top {α : Type} (k : Nat) (Rt : Int → Option α) (x0 : List Int × List (List Int × List Int × Unit) × Unit) : Option α :=
  if (decide ((x0.2.1.length : Int) > 40)) = true then
    Rt 1
  else
    l0 k (fun (x2 : Int) => Rt x2) (fun (c1 : List Int × List (List Int × List Int × Unit) × Unit) (c3 : List Int) => j0 Rt c1 c3) k x0.2.1 (x0.2.1.length : Int) 0 x0 [0, 0, 0, 0]
theorem top_eq {α : Type} (k : Nat) (Q : Ex → St → Option α) (x0 : List Int × List (List Int × List Int × Unit) × Unit) :
    (den C k) (cB Try.f86) Q (St0 x0) = top k (fun (x2 : Int) => Q .ret (St1 x2)) x0 := by
  have h : ∀ (D L : DT α), denJ D L Js C (cB Try.f86) Q (St0 x0) =
        if (decide ((x0.2.1.length : Int) > 40)) = true then
          Q .ret (St1 1)
        else
          L cd0 (blkQ C 0 (sq D L Js C cd1 Q)) (St2 x0.2.1 (x0.2.1.length : Int) 0 x0 [0, 0, 0, 0]) := by
    intro D L; kernel_rfl
  refine (show (den C k) (cB Try.f86) Q (St0 x0) = denJ (den C k) (lp C k) Js C (cB Try.f86) Q (St0 x0) from (denJ_den _ _ _ _ _ _).symm).trans ((h (den C k) (lp C k)).trans ?_)
  simp only [a0]
  first | rfl | kernel_rfl
def run (x0 : List Int × List (List Int × List Int × Unit) × Unit) : Option (Int) := top (α := Int) fuel (fun (x2 : Int) => some x2) x0
def F : Fn := ⟨(.pair (.pair (.arr 4 (.int .u64)) (.pair (.sl (.pair (.arr 32 (.int .u8)) (.pair (.arr 4 (.int .u64)) .unit))) .unit)) .unit), (.int .i64), false, fun x => run x.1⟩
set_option maxRecDepth 100000 in
theorem con : Con Try.prog 86 F := by
  refine con_of_den (C := C) (ctx_ok (by kernel_rfl) (by kernel_rfl) ⟨.inl ⟨Go.Bx.wide_Add.con, Go.Bx.wide_Add.named⟩, ⟨.inl ⟨Go.Bx.bytes_Compare.con, Go.Bx.bytes_Compare.named⟩, trivial⟩⟩) (by kernel_rfl) Try.func86 (c := cB Try.f86) (by kernel_rfl) (by kernel_rfl) F fuel (fun x => by simp [F, spread, Try.ntmps86]) ?_
  intro x r h
  rw [← h]
  have h1 : start F Try.f86.ntmps x = (St0 x.1) := by kernel_rfl
  rw [h1]
  refine (top_eq fuel (fin C Try.f86.results.toList F.rs F.multi) x.1).trans ?_
  kernel_rfl
theorem named : Named Try.prog 86 := named_of Try.func86 (by kernel_rfl) (by kernel_rfl)
end Go.Bx.coin_Check
namespace Go.Bx.basculeref_isZero
open Go Go.Proofs Go.Bx
set_option maxRecDepth 100000
set_option linter.unusedVariables false
def Js : List Nat := []
def C : Ctx := ⟨[(4, .bool), (24, (.arr 4 (.int .u64)))], [], fnL [], noSh, [], noInv, [(2, [2])], [], [], 0, 0⟩
def St0 (x0 : List Int) : St := stL 6 [(0, .data (.arr 4 (.int .u64)) x0)] []
def St1 (x2 : Bool) : St := stL 6 [(2, .data .bool x2)] []
def top {α : Type} (Rt : Bool → Option α) (x0 : List Int) : Option α :=
  Rt (beqD (.arr 4 (.int .u64)) x0 [0, 0, 0, 0])
theorem top_eq {α : Type} (k : Nat) (Q : Ex → St → Option α) (x0 : List Int) :
    (den C k) (cB Try.f138) Q (St0 x0) = top (fun (x2 : Bool) => Q .ret (St1 x2)) x0 := by
  have h : ∀ (D L : DT α), denJ D L Js C (cB Try.f138) Q (St0 x0) =
        Q .ret (St1 (beqD (.arr 4 (.int .u64)) x0 [0, 0, 0, 0])) := by
    intro D L; kernel_rfl
  refine (show (den C k) (cB Try.f138) Q (St0 x0) = denJ (den C k) (lp C k) Js C (cB Try.f138) Q (St0 x0) from (denJ_den _ _ _ _ _ _).symm).trans ((h (den C k) (lp C k)).trans ?_)
  first | rfl | kernel_rfl
def run (x0 : List Int) : Option (Bool) := top (α := Bool) (fun (x2 : Bool) => some x2) x0
def F : Fn := ⟨(.pair (.arr 4 (.int .u64)) .unit), .bool, false, fun x => run x.1⟩
set_option maxRecDepth 100000 in
theorem con : Con Try.prog 138 F := by
  refine con_of_den (C := C) (ctx_ok (by kernel_rfl) (by kernel_rfl) trivial) (by kernel_rfl) Try.func138 (c := cB Try.f138) (by kernel_rfl) (by kernel_rfl) F fuel (fun x => by simp [F, spread, Try.ntmps138]) ?_
  intro x r h
  rw [← h]
  have h1 : start F Try.f138.ntmps x = (St0 x.1) := by kernel_rfl
  rw [h1]
  refine (top_eq fuel (fin C Try.f138.results.toList F.rs F.multi) x.1).trans ?_
  kernel_rfl
theorem named : Named Try.prog 138 := named_of Try.func138 (by kernel_rfl) (by kernel_rfl)
end Go.Bx.basculeref_isZero
namespace Go.Bx.basculeref_before
open Go Go.Proofs Go.Bx
set_option maxRecDepth 100000
set_option linter.unusedVariables false
def Js : List Nat := []
def C : Ctx := ⟨[(4, .bool), (9, .str), (42, (.arr 32 (.int .u8))), (93, (.sl (.int .u8)))], [], fnL [], noSh, [], noInv, [(2, [4])], [], [], 0, 0⟩
def St0 (x0 : List Int) (x1 : List Int) : St := stL 10 [(0, .data (.arr 32 (.int .u8)) x0), (1, .data (.arr 32 (.int .u8)) x1)] []
def St1 (x4 : Bool) : St := stL 10 [(4, .data .bool x4)] []
def top {α : Type} (Rt : Bool → Option α) (x0 : List Int) (x1 : List Int) : Option α :=
  Rt (ltB (cutL x0 0 32) (cutL x1 0 32))
theorem top_eq {α : Type} (k : Nat) (Q : Ex → St → Option α) (x0 : List Int) (x1 : List Int) :
    (den C k) (cB Try.f139) Q (St0 x0 x1) = top (fun (x4 : Bool) => Q .ret (St1 x4)) x0 x1 := by
  have h : ∀ (D L : DT α), denJ D L Js C (cB Try.f139) Q (St0 x0 x1) =
        Q .ret (St1 (ltB (cutL x0 0 32) (cutL x1 0 32))) := by
    intro D L; kernel_rfl
  refine (show (den C k) (cB Try.f139) Q (St0 x0 x1) = denJ (den C k) (lp C k) Js C (cB Try.f139) Q (St0 x0 x1) from (denJ_den _ _ _ _ _ _).symm).trans ((h (den C k) (lp C k)).trans ?_)
  first | rfl | kernel_rfl
def run (x0 : List Int) (x1 : List Int) : Option (Bool) := top (α := Bool) (fun (x4 : Bool) => some x4) x0 x1
def F : Fn := ⟨(.pair (.arr 32 (.int .u8)) (.pair (.arr 32 (.int .u8)) .unit)), .bool, false, fun x => run x.1 x.2.1⟩
set_option maxRecDepth 100000 in
theorem con : Con Try.prog 139 F := by
  refine con_of_den (C := C) (ctx_ok (by kernel_rfl) (by kernel_rfl) trivial) (by kernel_rfl) Try.func139 (c := cB Try.f139) (by kernel_rfl) (by kernel_rfl) F fuel (fun x => by simp [F, spread, Try.ntmps139]) ?_
  intro x r h
  rw [← h]
  have h1 : start F Try.f139.ntmps x = (St0 x.1 x.2.1) := by kernel_rfl
  rw [h1]
  refine (top_eq fuel (fin C Try.f139.results.toList F.rs F.multi) x.1 x.2.1).trans ?_
  kernel_rfl
theorem named : Named Try.prog 139 := named_of Try.func139 (by kernel_rfl) (by kernel_rfl)
end Go.Bx.basculeref_before
namespace Go.Bx.basculeref_CoinFault
open Go Go.Proofs Go.Bx
set_option maxRecDepth 100000
set_option linter.unusedVariables false
def Js : List Nat := [12]
def C : Ctx := ⟨[(24, (.arr 4 (.int .u64))), (25, (.int .i64)), (39, (.sl (.pair (.arr 32 (.int .u8)) (.pair (.arr 4 (.int .u64)) .unit)))), (41, (.pair (.arr 4 (.int .u64)) (.pair (.sl (.pair (.arr 32 (.int .u8)) (.pair (.arr 4 (.int .u64)) .unit))) .unit))), (42, (.arr 32 (.int .u8))), (97, (.sl (.int .u64))), (117, (.pair (.arr 32 (.int .u8)) (.pair (.arr 4 (.int .u64)) .unit)))], [], fnL [(72, Go.Bx.basculeref_shorn.F), (73, Go.Bx.basculeref_plus.F), (77, Go.Bx.basculeref_of.F), (132, Go.Bx.basculeref_compare.F), (138, Go.Bx.basculeref_isZero.F), (139, Go.Bx.basculeref_before.F)], noSh, [], noInv, [(2, [2]), (1, [1, 3, 4]), (4, [1, 3, 4, 12, 13, 14]), (18, [1, 3, 4, 12, 13, 14]), (33, [1, 3, 4])], [(18, [.dat true 3 []])], [], 0, 0⟩
def St0 (x0 : List Int × List (List Int × List Int × Unit) × Unit) : St := stL 59 [(0, .data (.pair (.arr 4 (.int .u64)) (.pair (.sl (.pair (.arr 32 (.int .u8)) (.pair (.arr 4 (.int .u64)) .unit))) .unit)) x0)] []
def St1 (x2 : Int) : St := stL 59 [(2, .data (.int .i64) x2)] []
def St2 (x3 : List Int) (x4 : Bool) (x12 : List (List Int × List Int × Unit)) (x13 : Int) (x14 : Int) (c1 : List Int × List (List Int × List Int × Unit) × Unit) : St := stL 59 [(1, .ref 1 0 []), (3, .data (.sl (.int .u64)) x3), (4, .data .bool x4), (12, .data (.sl (.pair (.arr 32 (.int .u8)) (.pair (.arr 4 (.int .u64)) .unit))) x12), (13, .data (.int .i64) x13), (14, .data (.int .i64) x14)] [(1, .cell (.pair (.arr 4 (.int .u64)) (.pair (.sl (.pair (.arr 32 (.int .u8)) (.pair (.arr 4 (.int .u64)) .unit))) .unit)) (.data (.pair (.arr 4 (.int .u64)) (.pair (.sl (.pair (.arr 32 (.int .u8)) (.pair (.arr 4 (.int .u64)) .unit))) .unit)) c1) false)]
noncomputable def cd0 : Code := cL (cL (cR (cL (cR (cR (cR (cR (cB Try.f88))))))))
def St3 (x3 : List Int) (x4 : Bool) (c1 : List Int × List (List Int × List Int × Unit) × Unit) : St := stL 59 [(1, .ref 1 0 []), (3, .data (.sl (.int .u64)) x3), (4, .data .bool x4)] [(1, .cell (.pair (.arr 4 (.int .u64)) (.pair (.sl (.pair (.arr 32 (.int .u8)) (.pair (.arr 4 (.int .u64)) .unit))) .unit)) (.data (.pair (.arr 4 (.int .u64)) (.pair (.sl (.pair (.arr 32 (.int .u8)) (.pair (.arr 4 (.int .u64)) .unit))) .unit)) c1) false)]
def l0s {α : Type} (Nx : (List Int) → Bool → (List (List Int × List Int × Unit)) → Int → Int → (List Int × List (List Int × List Int × Unit) × Unit) → Option α) (Xt0 : (List Int) → Bool → (List Int × List (List Int × List Int × Unit) × Unit) → Option α) (x3 : List Int) (x4 : Bool) (x12 : List (List Int × List Int × Unit)) (x13 : Int) (x14 : Int) (c1 : List Int × List (List Int × List Int × Unit) × Unit) : Option α :=
  if (decide (x14 < x13)) = true then
    if 0 ≤ x14 ∧ x14 < (x12.length : Int) then
      (if (x4 == true) = true then Go.Bx.basculeref_isZero.run (List.getD x12 (Int.toNat x14) ((List.replicate 32 0), [0, 0, 0, 0], ())).2.1 else some false).bind fun y1 =>
      cond (decide (0 ≤ (IntKind.i64.wrap (x14 - 1)) ∧ (IntKind.i64.wrap (x14 - 1)) < (c1.2.1.length : Int)) || !((x14 == 0) == false)) (
        (if ((x14 == 0) == false) = true then Go.Bx.basculeref_before.run (List.getD c1.2.1 (Int.toNat (IntKind.i64.wrap (x14 - 1))) ((List.replicate 32 0), [0, 0, 0, 0], ())).1 (List.getD x12 (Int.toNat x14) ((List.replicate 32 0), [0, 0, 0, 0], ())).1 else some false).bind fun y2 =>
        (Go.Bx.basculeref_of.run (List.getD x12 (Int.toNat x14) ((List.replicate 32 0), [0, 0, 0, 0], ())).2.1).bind fun y3 =>
        (Go.Bx.basculeref_plus.run x3 y3).bind fun y4 =>
        (Go.Bx.basculeref_shorn.run y4).bind fun y5 =>
        Nx y5 (cond (cond x4 (not y1) false) (cond (x14 == 0) true y2) false) x12 x13 (IntKind.i64.wrap (x14 + 1)) c1) none
    else none
  else
    Xt0 x3 x4 c1
theorem l0s_eq {α : Type} (k : Nat) (next : St → Option α) (Q : Ex → St → Option α) (x3 : List Int) (x4 : Bool) (x12 : List (List Int × List Int × Unit)) (x13 : Int) (x14 : Int) (c1 : List Int × List (List Int × List Int × Unit) × Unit) :
    rnd C k cd0 18 Q next (St2 x3 x4 x12 x13 x14 c1) = l0s (fun (x3 : List Int) (x4 : Bool) (x12 : List (List Int × List Int × Unit)) (x13 : Int) (x14 : Int) (c1 : List Int × List (List Int × List Int × Unit) × Unit) => next (St2 x3 x4 x12 x13 x14 c1)) (fun (x3 : List Int) (x4 : Bool) (c1 : List Int × List (List Int × List Int × Unit) × Unit) => Q (.exit 0) (St3 x3 x4 c1)) x3 x4 x12 x13 x14 c1 := by
  have h : ∀ (D L : DT α), denJ D L Js C cd0 (lq C 18 next Q) (St2 x3 x4 x12 x13 x14 c1) =
        if (decide (x14 < x13)) = true then
          if 0 ≤ x14 ∧ x14 < (x12.length : Int) then
            (if (x4 == true) = true then Go.Bx.basculeref_isZero.run (List.getD x12 (Int.toNat x14) ((List.replicate 32 0), [0, 0, 0, 0], ())).2.1 else some false).bind fun y1 =>
            cond (decide (0 ≤ (IntKind.i64.wrap (x14 - 1)) ∧ (IntKind.i64.wrap (x14 - 1)) < (c1.2.1.length : Int)) || !((x14 == 0) == false)) (
              (if ((x14 == 0) == false) = true then Go.Bx.basculeref_before.run (List.getD c1.2.1 (Int.toNat (IntKind.i64.wrap (x14 - 1))) ((List.replicate 32 0), [0, 0, 0, 0], ())).1 (List.getD x12 (Int.toNat x14) ((List.replicate 32 0), [0, 0, 0, 0], ())).1 else some false).bind fun y2 =>
              (Go.Bx.basculeref_of.run (List.getD x12 (Int.toNat x14) ((List.replicate 32 0), [0, 0, 0, 0], ())).2.1).bind fun y3 =>
              (Go.Bx.basculeref_plus.run x3 y3).bind fun y4 =>
              (Go.Bx.basculeref_shorn.run y4).bind fun y5 =>
              next (St2 y5 (cond (cond x4 (not y1) false) (cond (x14 == 0) true y2) false) x12 x13 (IntKind.i64.wrap (x14 + 1)) c1)) none
          else none
        else
          Q (.exit 0) (St3 x3 x4 c1) := by
    intro D L; kernel_rfl
  refine (show rnd C k cd0 18 Q next (St2 x3 x4 x12 x13 x14 c1) = denJ (den C k) (lp C k) Js C cd0 (lq C 18 next Q) (St2 x3 x4 x12 x13 x14 c1) from (denJ_den _ _ _ _ _ _).symm).trans ((h (den C k) (lp C k)).trans ?_)
  first | rfl | kernel_rfl
def l0 {α : Type} (k : Nat) (Xt0 : (List Int) → Bool → (List Int × List (List Int × List Int × Unit) × Unit) → Option α) : Nat → (List Int) → Bool → (List (List Int × List Int × Unit)) → Int → Int → (List Int × List (List Int × List Int × Unit) × Unit) → Option α
  | 0, _, _, _, _, _, _ => none
  | n + 1, x3, x4, x12, x13, x14, c1 => l0s (l0 k Xt0 n) Xt0 x3 x4 x12 x13 x14 c1
theorem l0_eq {α : Type} (k : Nat) (Q : Ex → St → Option α) : ∀ (n : Nat) (x3 : List Int) (x4 : Bool) (x12 : List (List Int × List Int × Unit)) (x13 : Int) (x14 : Int) (c1 : List Int × List (List Int × List Int × Unit) × Unit), iter (rnd C k cd0 18 Q) n (St2 x3 x4 x12 x13 x14 c1) = l0 k (fun (x3 : List Int) (x4 : Bool) (c1 : List Int × List (List Int × List Int × Unit) × Unit) => Q (.exit 0) (St3 x3 x4 c1)) n x3 x4 x12 x13 x14 c1
  | 0, _, _, _, _, _, _ => rfl
  | n + 1, x3, x4, x12, x13, x14, c1 => (iter_succ _ _ _).trans ((l0s_eq k (iter (rnd C k cd0 18 Q) n) Q x3 x4 x12 x13 x14 c1).trans (congrArg (fun N => l0s N (fun (x3 : List Int) (x4 : Bool) (c1 : List Int × List (List Int × List Int × Unit) × Unit) => Q (.exit 0) (St3 x3 x4 c1)) x3 x4 x12 x13 x14 c1) (funext fun x3 => funext fun x4 => funext fun x12 => funext fun x13 => funext fun x14 => funext fun c1 => l0_eq k Q n x3 x4 x12 x13 x14 c1)))
theorem l0_congr {α : Type} (k : Nat) (Xt0 : (List Int) → Bool → (List Int × List (List Int × List Int × Unit) × Unit) → Option α) (Xt0q : (List Int) → Bool → (List Int × List (List Int × List Int × Unit) × Unit) → Option α) (hXt0 : ∀ (x3 : List Int) (x4 : Bool) (c1 : List Int × List (List Int × List Int × Unit) × Unit), Xt0 x3 x4 c1 = Xt0q x3 x4 c1) (n : Nat) (x3 : List Int) (x4 : Bool) (x12 : List (List Int × List Int × Unit)) (x13 : Int) (x14 : Int) (c1 : List Int × List (List Int × List Int × Unit) × Unit) : l0 k Xt0 n x3 x4 x12 x13 x14 c1 = l0 k Xt0q n x3 x4 x12 x13 x14 c1 := by
  obtain rfl : Xt0 = Xt0q := by funext x3; funext x4; funext c1; exact hXt0 x3 x4 c1
  rfl
noncomputable def cd1 : Code := cR (cR (cR (cR (cR (cB Try.f88)))))
def St4 (x3 : List Int) (x4 : Bool) (c1 : List Int × List (List Int × List Int × Unit) × Unit) : St := stL 59 [(1, .ref 1 0 []), (3, .data (.sl (.int .u64)) x3), (4, .data .bool x4)] [(1, .cell (.pair (.arr 4 (.int .u64)) (.pair (.sl (.pair (.arr 32 (.int .u8)) (.pair (.arr 4 (.int .u64)) .unit))) .unit)) (.data (.pair (.arr 4 (.int .u64)) (.pair (.sl (.pair (.arr 32 (.int .u8)) (.pair (.arr 4 (.int .u64)) .unit))) .unit)) c1) false)]
def j0 {α : Type} (Rt : Int → Option α) (x3 : List Int) (x4 : Bool) (c1 : List Int × List (List Int × List Int × Unit) × Unit) : Option α :=
  (if ((not x4) == false) = true then Go.Bx.basculeref_of.run c1.1 else some []).bind fun y6 =>
  (if ((not x4) == false) = true then Go.Bx.basculeref_compare.run x3 y6 else some 0).bind fun y7 =>
  if (cond (not x4) true (y7 != 0)) = true then
    Rt 12
  else
    Rt 0
theorem j0_eq {α : Type} (k : Nat) (Q : Ex → St → Option α) (x3 : List Int) (x4 : Bool) (c1 : List Int × List (List Int × List Int × Unit) × Unit) :
    (den C k) cd1 Q (St4 x3 x4 c1) = j0 (fun (x2 : Int) => Q .ret (St1 x2)) x3 x4 c1 := by
  have h : ∀ (D L : DT α), denJ D L Js C cd1 Q (St4 x3 x4 c1) =
        (if ((not x4) == false) = true then Go.Bx.basculeref_of.run c1.1 else some []).bind fun y6 =>
        (if ((not x4) == false) = true then Go.Bx.basculeref_compare.run x3 y6 else some 0).bind fun y7 =>
        if (cond (not x4) true (y7 != 0)) = true then
          Q .ret (St1 12)
        else
          Q .ret (St1 0) := by
    intro D L; kernel_rfl
  refine (show (den C k) cd1 Q (St4 x3 x4 c1) = denJ (den C k) (lp C k) Js C cd1 Q (St4 x3 x4 c1) from (denJ_den _ _ _ _ _ _).symm).trans ((h (den C k) (lp C k)).trans ?_)
  first | rfl | kernel_rfl
theorem a0 {α : Type} (k : Nat) (Q : Ex → St → Option α) (x3 : List Int) (x4 : Bool) (x12 : List (List Int × List Int × Unit)) (x13 : Int) (x14 : Int) (c1 : List Int × List (List Int × List Int × Unit) × Unit) :
    (lp C k) cd0 (blkQ C 0 (sq (den C k) (lp C k) Js C cd1 Q)) (St2 x3 x4 x12 x13 x14 c1) = l0 k (fun (x3 : List Int) (x4 : Bool) (c1 : List Int × List (List Int × List Int × Unit) × Unit) => j0 (fun (x2 : Int) => Q .ret (St1 x2)) x3 x4 c1) k x3 x4 x12 x13 x14 c1 :=
  (show (lp C k) cd0 (blkQ C 0 (sq (den C k) (lp C k) Js C cd1 Q)) (St2 x3 x4 x12 x13 x14 c1) = iter (rnd C k cd0 18 (blkQ C 0 (sq (den C k) (lp C k) Js C cd1 Q))) k (St2 x3 x4 x12 x13 x14 c1) by kernel_rfl).trans ((l0_eq k (blkQ C 0 (sq (den C k) (lp C k) Js C cd1 Q)) k x3 x4 x12 x13 x14 c1).trans (l0_congr k _ _ (fun x3 x4 c1 => ((show (blkQ C 0 (sq (den C k) (lp C k) Js C cd1 Q)) (.exit 0) (St3 x3 x4 c1) = (den C k) cd1 Q (St4 x3 x4 c1) by kernel_rfl).trans (by simp only [j0_eq]))) k x3 x4 x12 x13 x14 c1))
def top {α : Type} (k : Nat) (Rt : Int → Option α) (x0 : List Int × List (List Int × List Int × Unit) × Unit) : Option α :=
  if (decide ((x0.2.1.length : Int) > 40)) = true then
    Rt 1
  else
    l0 k (fun (x3 : List Int) (x4 : Bool) (c1 : List Int × List (List Int × List Int × Unit) × Unit) => j0 Rt x3 x4 c1) k [] true x0.2.1 (x0.2.1.length : Int) 0 x0
theorem top_eq {α : Type} (k : Nat) (Q : Ex → St → Option α) (x0 : List Int × List (List Int × List Int × Unit) × Unit) :
    (den C k) (cB Try.f88) Q (St0 x0) = top k (fun (x2 : Int) => Q .ret (St1 x2)) x0 := by
  have h : ∀ (D L : DT α), denJ D L Js C (cB Try.f88) Q (St0 x0) =
        if (decide ((x0.2.1.length : Int) > 40)) = true then
          Q .ret (St1 1)
        else
          L cd0 (blkQ C 0 (sq D L Js C cd1 Q)) (St2 [] true x0.2.1 (x0.2.1.length : Int) 0 x0) := by
    intro D L; kernel_rfl
  refine (show (den C k) (cB Try.f88) Q (St0 x0) = denJ (den C k) (lp C k) Js C (cB Try.f88) Q (St0 x0) from (denJ_den _ _ _ _ _ _).symm).trans ((h (den C k) (lp C k)).trans ?_)
  simp only [a0]
  first | rfl | kernel_rfl
def run (x0 : List Int × List (List Int × List Int × Unit) × Unit) : Option (Int) := top (α := Int) fuel (fun (x2 : Int) => some x2) x0
def F : Fn := ⟨(.pair (.pair (.arr 4 (.int .u64)) (.pair (.sl (.pair (.arr 32 (.int .u8)) (.pair (.arr 4 (.int .u64)) .unit))) .unit)) .unit), (.int .i64), false, fun x => run x.1⟩
set_option maxRecDepth 100000 in
theorem con : Con Try.prog 88 F := by
  refine con_of_den (C := C) (ctx_ok (by kernel_rfl) (by kernel_rfl) ⟨.inl ⟨Go.Bx.basculeref_shorn.con, Go.Bx.basculeref_shorn.named⟩, ⟨.inl ⟨Go.Bx.basculeref_plus.con, Go.Bx.basculeref_plus.named⟩, ⟨.inl ⟨Go.Bx.basculeref_of.con, Go.Bx.basculeref_of.named⟩, ⟨.inl ⟨Go.Bx.basculeref_compare.con, Go.Bx.basculeref_compare.named⟩, ⟨.inl ⟨Go.Bx.basculeref_isZero.con, Go.Bx.basculeref_isZero.named⟩, ⟨.inl ⟨Go.Bx.basculeref_before.con, Go.Bx.basculeref_before.named⟩, trivial⟩⟩⟩⟩⟩⟩) (by kernel_rfl) Try.func88 (c := cB Try.f88) (by kernel_rfl) (by kernel_rfl) F fuel (fun x => by simp [F, spread, Try.ntmps88]) ?_
  intro x r h
  rw [← h]
  have h1 : start F Try.f88.ntmps x = (St0 x.1) := by kernel_rfl
  rw [h1]
  refine (top_eq fuel (fin C Try.f88.results.toList F.rs F.multi) x.1).trans ?_
  kernel_rfl
theorem named : Named Try.prog 88 := named_of Try.func88 (by kernel_rfl) (by kernel_rfl)
end Go.Bx.basculeref_CoinFault
namespace Go.Bx.coin_find
open Go Go.Proofs Go.Bx
set_option maxRecDepth 100000
set_option linter.unusedVariables false
def Js : List Nat := [9]
def C : Ctx := ⟨[(3, (.int .i64)), (4, .bool), (39, (.sl (.pair (.arr 32 (.int .u8)) (.pair (.arr 4 (.int .u64)) .unit)))), (41, (.pair (.arr 4 (.int .u64)) (.pair (.sl (.pair (.arr 32 (.int .u8)) (.pair (.arr 4 (.int .u64)) .unit))) .unit))), (42, (.arr 32 (.int .u8))), (117, (.pair (.arr 32 (.int .u8)) (.pair (.arr 4 (.int .u64)) .unit)))], [], fnL [(136, Go.Bx.bytes_Compare.F)], noSh, [], noInv, [(2, [4, 5]), (1, [2]), (4, [2, 3, 10, 11, 12]), (6, [2, 3, 10, 11, 12]), (24, [2])], [], [], 0, 0⟩
def St0 (x0 : List Int × List (List Int × List Int × Unit) × Unit) (x1 : List Int) : St := stL 30 [(0, .data (.pair (.arr 4 (.int .u64)) (.pair (.sl (.pair (.arr 32 (.int .u8)) (.pair (.arr 4 (.int .u64)) .unit))) .unit)) x0), (1, .data (.arr 32 (.int .u8)) x1)] []
def St1 (x10 : List (List Int × List Int × Unit)) (x11 : Int) (x12 : Int) (c2 : List Int × List (List Int × List Int × Unit) × Unit) (c3 : List Int) : St := stL 30 [(2, .ref 2 0 []), (3, .ref 3 0 []), (10, .data (.sl (.pair (.arr 32 (.int .u8)) (.pair (.arr 4 (.int .u64)) .unit))) x10), (11, .data (.int .i64) x11), (12, .data (.int .i64) x12)] [(2, .cell (.pair (.arr 4 (.int .u64)) (.pair (.sl (.pair (.arr 32 (.int .u8)) (.pair (.arr 4 (.int .u64)) .unit))) .unit)) (.data (.pair (.arr 4 (.int .u64)) (.pair (.sl (.pair (.arr 32 (.int .u8)) (.pair (.arr 4 (.int .u64)) .unit))) .unit)) c2) false), (3, .cell (.arr 32 (.int .u8)) (.data (.arr 32 (.int .u8)) c3) false)]
noncomputable def cd0 : Code := cL (cL (cR (cL (cR (cB Try.f137)))))
def St2 (x4 : Int) (x5 : Bool) : St := stL 30 [(4, .data (.int .i64) x4), (5, .data .bool x5)] []
def St3 (c2 : List Int × List (List Int × List Int × Unit) × Unit) : St := stL 30 [(2, .ref 2 0 [])] [(2, .cell (.pair (.arr 4 (.int .u64)) (.pair (.sl (.pair (.arr 32 (.int .u8)) (.pair (.arr 4 (.int .u64)) .unit))) .unit)) (.data (.pair (.arr 4 (.int .u64)) (.pair (.sl (.pair (.arr 32 (.int .u8)) (.pair (.arr 4 (.int .u64)) .unit))) .unit)) c2) false)]
def l0s {α : Type} (Nx : (List (List Int × List Int × Unit)) → Int → Int → (List Int × List (List Int × List Int × Unit) × Unit) → (List Int) → Option α) (Rt : Int → Bool → Option α) (Xt0 : (List Int × List (List Int × List Int × Unit) × Unit) → Option α) (x10 : List (List Int × List Int × Unit)) (x11 : Int) (x12 : Int) (c2 : List Int × List (List Int × List Int × Unit) × Unit) (c3 : List Int) : Option α :=
  if (decide (x12 < x11)) = true then
    if 0 ≤ x12 ∧ x12 < (x10.length : Int) then
      (Go.Bx.bytes_Compare.run (cutL (List.getD x10 (Int.toNat x12) ((List.replicate 32 0), [0, 0, 0, 0], ())).1 0 32) (cutL c3 0 32)).bind fun y1 =>
      if (decide (y1 ≥ 0)) = true then
        Rt x12 (y1 == 0)
      else
        Nx x10 x11 (IntKind.i64.wrap (x12 + 1)) c2 c3
    else none
  else
    Xt0 c2
theorem l0s_eq {α : Type} (k : Nat) (next : St → Option α) (Q : Ex → St → Option α) (x10 : List (List Int × List Int × Unit)) (x11 : Int) (x12 : Int) (c2 : List Int × List (List Int × List Int × Unit) × Unit) (c3 : List Int) :
    rnd C k cd0 6 Q next (St1 x10 x11 x12 c2 c3) = l0s (fun (x10 : List (List Int × List Int × Unit)) (x11 : Int) (x12 : Int) (c2 : List Int × List (List Int × List Int × Unit) × Unit) (c3 : List Int) => next (St1 x10 x11 x12 c2 c3)) (fun (x4 : Int) (x5 : Bool) => Q .ret (St2 x4 x5)) (fun (c2 : List Int × List (List Int × List Int × Unit) × Unit) => Q (.exit 0) (St3 c2)) x10 x11 x12 c2 c3 := by
  have h : ∀ (D L : DT α), denJ D L Js C cd0 (lq C 6 next Q) (St1 x10 x11 x12 c2 c3) =
        if (decide (x12 < x11)) = true then
          if 0 ≤ x12 ∧ x12 < (x10.length : Int) then
            (Go.Bx.bytes_Compare.run (cutL (List.getD x10 (Int.toNat x12) ((List.replicate 32 0), [0, 0, 0, 0], ())).1 0 32) (cutL c3 0 32)).bind fun y1 =>
            if (decide (y1 ≥ 0)) = true then
              Q .ret (St2 x12 (y1 == 0))
            else
              next (St1 x10 x11 (IntKind.i64.wrap (x12 + 1)) c2 c3)
          else none
        else
          Q (.exit 0) (St3 c2) := by
    intro D L; kernel_rfl
  refine (show rnd C k cd0 6 Q next (St1 x10 x11 x12 c2 c3) = denJ (den C k) (lp C k) Js C cd0 (lq C 6 next Q) (St1 x10 x11 x12 c2 c3) from (denJ_den _ _ _ _ _ _).symm).trans ((h (den C k) (lp C k)).trans ?_)
  first | rfl | kernel_rfl
def l0 {α : Type} (k : Nat) (Rt : Int → Bool → Option α) (Xt0 : (List Int × List (List Int × List Int × Unit) × Unit) → Option α) : Nat → (List (List Int × List Int × Unit)) → Int → Int → (List Int × List (List Int × List Int × Unit) × Unit) → (List Int) → Option α
  | 0, _, _, _, _, _ => none
  | n + 1, x10, x11, x12, c2, c3 => l0s (l0 k Rt Xt0 n) Rt Xt0 x10 x11 x12 c2 c3
theorem l0_eq {α : Type} (k : Nat) (Q : Ex → St → Option α) : ∀ (n : Nat) (x10 : List (List Int × List Int × Unit)) (x11 : Int) (x12 : Int) (c2 : List Int × List (List Int × List Int × Unit) × Unit) (c3 : List Int), iter (rnd C k cd0 6 Q) n (St1 x10 x11 x12 c2 c3) = l0 k (fun (x4 : Int) (x5 : Bool) => Q .ret (St2 x4 x5)) (fun (c2 : List Int × List (List Int × List Int × Unit) × Unit) => Q (.exit 0) (St3 c2)) n x10 x11 x12 c2 c3
  | 0, _, _, _, _, _ => rfl
  | n + 1, x10, x11, x12, c2, c3 => (iter_succ _ _ _).trans ((l0s_eq k (iter (rnd C k cd0 6 Q) n) Q x10 x11 x12 c2 c3).trans (congrArg (fun N => l0s N (fun (x4 : Int) (x5 : Bool) => Q .ret (St2 x4 x5)) (fun (c2 : List Int × List (List Int × List Int × Unit) × Unit) => Q (.exit 0) (St3 c2)) x10 x11 x12 c2 c3) (funext fun x10 => funext fun x11 => funext fun x12 => funext fun c2 => funext fun c3 => l0_eq k Q n x10 x11 x12 c2 c3)))
theorem l0_congr {α : Type} (k : Nat) (Rt : Int → Bool → Option α) (Xt0 : (List Int × List (List Int × List Int × Unit) × Unit) → Option α) (Rtq : Int → Bool → Option α) (Xt0q : (List Int × List (List Int × List Int × Unit) × Unit) → Option α) (hRt : ∀ (x4 : Int) (x5 : Bool), Rt x4 x5 = Rtq x4 x5) (hXt0 : ∀ (c2 : List Int × List (List Int × List Int × Unit) × Unit), Xt0 c2 = Xt0q c2) (n : Nat) (x10 : List (List Int × List Int × Unit)) (x11 : Int) (x12 : Int) (c2 : List Int × List (List Int × List Int × Unit) × Unit) (c3 : List Int) : l0 k Rt Xt0 n x10 x11 x12 c2 c3 = l0 k Rtq Xt0q n x10 x11 x12 c2 c3 := by
  obtain rfl : Rt = Rtq := by funext x4; funext x5; exact hRt x4 x5
  obtain rfl : Xt0 = Xt0q := by funext c2; exact hXt0 c2
  rfl
noncomputable def cd1 : Code := cR (cR (cB Try.f137))
def St4 (c2 : List Int × List (List Int × List Int × Unit) × Unit) : St := stL 30 [(2, .ref 2 0 [])] [(2, .cell (.pair (.arr 4 (.int .u64)) (.pair (.sl (.pair (.arr 32 (.int .u8)) (.pair (.arr 4 (.int .u64)) .unit))) .unit)) (.data (.pair (.arr 4 (.int .u64)) (.pair (.sl (.pair (.arr 32 (.int .u8)) (.pair (.arr 4 (.int .u64)) .unit))) .unit)) c2) false)]
def j0 {α : Type} (Rt : Int → Bool → Option α) (c2 : List Int × List (List Int × List Int × Unit) × Unit) : Option α :=
  Rt (c2.2.1.length : Int) false
theorem j0_eq {α : Type} (k : Nat) (Q : Ex → St → Option α) (c2 : List Int × List (List Int × List Int × Unit) × Unit) :
    (den C k) cd1 Q (St4 c2) = j0 (fun (x4 : Int) (x5 : Bool) => Q .ret (St2 x4 x5)) c2 := by
  have h : ∀ (D L : DT α), denJ D L Js C cd1 Q (St4 c2) =
        Q .ret (St2 (c2.2.1.length : Int) false) := by
    intro D L; kernel_rfl
  refine (show (den C k) cd1 Q (St4 c2) = denJ (den C k) (lp C k) Js C cd1 Q (St4 c2) from (denJ_den _ _ _ _ _ _).symm).trans ((h (den C k) (lp C k)).trans ?_)
  first | rfl | kernel_rfl
theorem a0 {α : Type} (k : Nat) (Q : Ex → St → Option α) (x10 : List (List Int × List Int × Unit)) (x11 : Int) (x12 : Int) (c2 : List Int × List (List Int × List Int × Unit) × Unit) (c3 : List Int) :
    (lp C k) cd0 (blkQ C 0 (sq (den C k) (lp C k) Js C cd1 Q)) (St1 x10 x11 x12 c2 c3) = l0 k (fun (x4 : Int) (x5 : Bool) => (fun (x4 : Int) (x5 : Bool) => Q .ret (St2 x4 x5)) x4 x5) (fun (c2 : List Int × List (List Int × List Int × Unit) × Unit) => j0 (fun (x4 : Int) (x5 : Bool) => Q .ret (St2 x4 x5)) c2) k x10 x11 x12 c2 c3 :=
  (show (lp C k) cd0 (blkQ C 0 (sq (den C k) (lp C k) Js C cd1 Q)) (St1 x10 x11 x12 c2 c3) = iter (rnd C k cd0 6 (blkQ C 0 (sq (den C k) (lp C k) Js C cd1 Q))) k (St1 x10 x11 x12 c2 c3) by kernel_rfl).trans ((l0_eq k (blkQ C 0 (sq (den C k) (lp C k) Js C cd1 Q)) k x10 x11 x12 c2 c3).trans (l0_congr k _ _ _ _ (fun x4 x5 => (show (blkQ C 0 (sq (den C k) (lp C k) Js C cd1 Q)) .ret (St2 x4 x5) = Q .ret (St2 x4 x5) by kernel_rfl)) (fun c2 => ((show (blkQ C 0 (sq (den C k) (lp C k) Js C cd1 Q)) (.exit 0) (St3 c2) = (den C k) cd1 Q (St4 c2) by kernel_rfl).trans (by simp only [j0_eq]))) k x10 x11 x12 c2 c3))
def top {α : Type} (k : Nat) (Rt : Int → Bool → Option α) (x0 : List Int × List (List Int × List Int × Unit) × Unit) (x1 : List Int) : Option α :=
  l0 k (fun (x4 : Int) (x5 : Bool) => Rt x4 x5) (fun (c2 : List Int × List (List Int × List Int × Unit) × Unit) => j0 Rt c2) k x0.2.1 (x0.2.1.length : Int) 0 x0 x1
theorem top_eq {α : Type} (k : Nat) (Q : Ex → St → Option α) (x0 : List Int × List (List Int × List Int × Unit) × Unit) (x1 : List Int) :
    (den C k) (cB Try.f137) Q (St0 x0 x1) = top k (fun (x4 : Int) (x5 : Bool) => Q .ret (St2 x4 x5)) x0 x1 := by
  have h : ∀ (D L : DT α), denJ D L Js C (cB Try.f137) Q (St0 x0 x1) =
        L cd0 (blkQ C 0 (sq D L Js C cd1 Q)) (St1 x0.2.1 (x0.2.1.length : Int) 0 x0 x1) := by
    intro D L; kernel_rfl
  refine (show (den C k) (cB Try.f137) Q (St0 x0 x1) = denJ (den C k) (lp C k) Js C (cB Try.f137) Q (St0 x0 x1) from (denJ_den _ _ _ _ _ _).symm).trans ((h (den C k) (lp C k)).trans ?_)
  simp only [a0]
  first | rfl | kernel_rfl
def run (x0 : List Int × List (List Int × List Int × Unit) × Unit) (x1 : List Int) : Option (Int × Bool × Unit) := top (α := Int × Bool × Unit) fuel (fun (x4 : Int) (x5 : Bool) => some (x4, x5, ())) x0 x1
def F : Fn := ⟨(.pair (.pair (.arr 4 (.int .u64)) (.pair (.sl (.pair (.arr 32 (.int .u8)) (.pair (.arr 4 (.int .u64)) .unit))) .unit)) (.pair (.arr 32 (.int .u8)) .unit)), (.pair (.int .i64) (.pair .bool .unit)), true, fun x => run x.1 x.2.1⟩
set_option maxRecDepth 100000 in
theorem con : Con Try.prog 137 F := by
  refine con_of_den (C := C) (ctx_ok (by kernel_rfl) (by kernel_rfl) ⟨.inl ⟨Go.Bx.bytes_Compare.con, Go.Bx.bytes_Compare.named⟩, trivial⟩) (by kernel_rfl) Try.func137 (c := cB Try.f137) (by kernel_rfl) (by kernel_rfl) F fuel (fun x => by simp [F, spread, Try.ntmps137]) ?_
  intro x r h
  rw [← h]
  have h1 : start F Try.f137.ntmps x = (St0 x.1 x.2.1) := by kernel_rfl
  rw [h1]
  refine (top_eq fuel (fin C Try.f137.results.toList F.rs F.multi) x.1 x.2.1).trans ?_
  kernel_rfl
theorem named : Named Try.prog 137 := named_of Try.func137 (by kernel_rfl) (by kernel_rfl)
end Go.Bx.coin_find
namespace Go.Bx.coin_of
open Go Go.Proofs Go.Bx
set_option maxRecDepth 100000
set_option linter.unusedVariables false
def Js : List Nat := []
def C : Ctx := ⟨[(24, (.arr 4 (.int .u64))), (39, (.sl (.pair (.arr 32 (.int .u8)) (.pair (.arr 4 (.int .u64)) .unit)))), (41, (.pair (.arr 4 (.int .u64)) (.pair (.sl (.pair (.arr 32 (.int .u8)) (.pair (.arr 4 (.int .u64)) .unit))) .unit))), (42, (.arr 32 (.int .u8))), (117, (.pair (.arr 32 (.int .u8)) (.pair (.arr 4 (.int .u64)) .unit)))], [], fnL [(137, Go.Bx.coin_find.F)], noSh, [], noInv, [(2, [4])], [], [], 0, 0⟩
def St0 (x0 : List Int × List (List Int × List Int × Unit) × Unit) (x1 : List Int) : St := stL 21 [(0, .data (.pair (.arr 4 (.int .u64)) (.pair (.sl (.pair (.arr 32 (.int .u8)) (.pair (.arr 4 (.int .u64)) .unit))) .unit)) x0), (1, .data (.arr 32 (.int .u8)) x1)] []
def St1 (c4 : List Int) : St := stL 21 [(4, .ref 4 0 [])] [(4, .cell (.arr 4 (.int .u64)) (.data (.arr 4 (.int .u64)) c4) false)]
def top {α : Type} (Rt : (List Int) → Option α) (x0 : List Int × List (List Int × List Int × Unit) × Unit) (x1 : List Int) : Option α :=
  (Go.Bx.coin_find.run x0 x1).bind fun y1 =>
  if y1.2.1 = true then
    if 0 ≤ y1.1 ∧ y1.1 < (x0.2.1.length : Int) then
      Rt (List.getD x0.2.1 (Int.toNat y1.1) ((List.replicate 32 0), [0, 0, 0, 0], ())).2.1
    else none
  else
    Rt [0, 0, 0, 0]
theorem top_eq {α : Type} (k : Nat) (Q : Ex → St → Option α) (x0 : List Int × List (List Int × List Int × Unit) × Unit) (x1 : List Int) :
    (den C k) (cB Try.f87) Q (St0 x0 x1) = top (fun (c4 : List Int) => Q .ret (St1 c4)) x0 x1 := by
  have h : ∀ (D L : DT α), denJ D L Js C (cB Try.f87) Q (St0 x0 x1) =
        (Go.Bx.coin_find.run x0 x1).bind fun y1 =>
        if y1.2.1 = true then
          if 0 ≤ y1.1 ∧ y1.1 < (x0.2.1.length : Int) then
            Q .ret (St1 (List.getD x0.2.1 (Int.toNat y1.1) ((List.replicate 32 0), [0, 0, 0, 0], ())).2.1)
          else none
        else
          Q .ret (St1 [0, 0, 0, 0]) := by
    intro D L; kernel_rfl
  refine (show (den C k) (cB Try.f87) Q (St0 x0 x1) = denJ (den C k) (lp C k) Js C (cB Try.f87) Q (St0 x0 x1) from (denJ_den _ _ _ _ _ _).symm).trans ((h (den C k) (lp C k)).trans ?_)
  first | rfl | kernel_rfl
def run (x0 : List Int × List (List Int × List Int × Unit) × Unit) (x1 : List Int) : Option (List Int) := top (α := List Int) (fun (c4 : List Int) => some c4) x0 x1
def F : Fn := ⟨(.pair (.pair (.arr 4 (.int .u64)) (.pair (.sl (.pair (.arr 32 (.int .u8)) (.pair (.arr 4 (.int .u64)) .unit))) .unit)) (.pair (.arr 32 (.int .u8)) .unit)), (.arr 4 (.int .u64)), false, fun x => run x.1 x.2.1⟩
set_option maxRecDepth 100000 in
theorem con : Con Try.prog 87 F := by
  refine con_of_den (C := C) (ctx_ok (by kernel_rfl) (by kernel_rfl) ⟨.inl ⟨Go.Bx.coin_find.con, Go.Bx.coin_find.named⟩, trivial⟩) (by kernel_rfl) Try.func87 (c := cB Try.f87) (by kernel_rfl) (by kernel_rfl) F fuel (fun x => by simp [F, spread, Try.ntmps87]) ?_
  intro x r h
  rw [← h]
  have h1 : start F Try.f87.ntmps x = (St0 x.1 x.2.1) := by kernel_rfl
  rw [h1]
  refine (top_eq fuel (fin C Try.f87.results.toList F.rs F.multi) x.1 x.2.1).trans ?_
  kernel_rfl
theorem named : Named Try.prog 87 := named_of Try.func87 (by kernel_rfl) (by kernel_rfl)
end Go.Bx.coin_of
namespace Go.Bx.coin_with
open Go Go.Proofs Go.Bx
set_option maxRecDepth 100000
set_option linter.unusedVariables false
def Js : List Nat := [6, 8]
def C : Ctx := ⟨[(24, (.arr 4 (.int .u64))), (39, (.sl (.pair (.arr 32 (.int .u8)) (.pair (.arr 4 (.int .u64)) .unit)))), (41, (.pair (.arr 4 (.int .u64)) (.pair (.sl (.pair (.arr 32 (.int .u8)) (.pair (.arr 4 (.int .u64)) .unit))) .unit))), (42, (.arr 32 (.int .u8))), (117, (.pair (.arr 32 (.int .u8)) (.pair (.arr 4 (.int .u64)) .unit)))], [], fnL [(137, Go.Bx.coin_find.F)], noSh, [], noInv, [(2, [6]), (15, [3, 6, 7, 8, 9]), (21, [3, 6, 7, 9])], [], [21], 0, 0⟩
def St0 (x0 : List Int × List (List Int × List Int × Unit) × Unit) (x1 : List Int) (x2 : List Int) : St := stL 42 [(0, .data (.pair (.arr 4 (.int .u64)) (.pair (.sl (.pair (.arr 32 (.int .u8)) (.pair (.arr 4 (.int .u64)) .unit))) .unit)) x0), (1, .data (.arr 32 (.int .u8)) x1), (2, .data (.arr 4 (.int .u64)) x2)] []
def St1 (x7 : Int) (x8 : Bool) (c3 : List Int × List (List Int × List Int × Unit) × Unit) (c6p0 : List Int) (c21 : List (List Int × List Int × Unit)) : St := stL 42 [(3, .ref 3 0 []), (6, .ref 6 0 []), (7, .data (.int .i64) x7), (8, .data .bool x8), (9, .app 21 0)] [(3, .cell (.pair (.arr 4 (.int .u64)) (.pair (.sl (.pair (.arr 32 (.int .u8)) (.pair (.arr 4 (.int .u64)) .unit))) .unit)) (.data (.pair (.arr 4 (.int .u64)) (.pair (.sl (.pair (.arr 32 (.int .u8)) (.pair (.arr 4 (.int .u64)) .unit))) .unit)) c3) false), (6, .cell (.pair (.arr 4 (.int .u64)) (.pair (.sl (.pair (.arr 32 (.int .u8)) (.pair (.arr 4 (.int .u64)) .unit))) .unit)) (.agg (.pair (.arr 4 (.int .u64)) (.pair (.sl (.pair (.arr 32 (.int .u8)) (.pair (.arr 4 (.int .u64)) .unit))) .unit)) [.data (.arr 4 (.int .u64)) c6p0, .full (.pair (.arr 32 (.int .u8)) (.pair (.arr 4 (.int .u64)) .unit)) []]) false), (21, .buf (.pair (.arr 32 (.int .u8)) (.pair (.arr 4 (.int .u64)) .unit)) c21 0 true)]
noncomputable def cd0 : Code := cR (cR (cR (cR (cB Try.f90))))
def St2 (x7 : Int) (c3 : List Int × List (List Int × List Int × Unit) × Unit) (c6p0 : List Int) (c21 : List (List Int × List Int × Unit)) : St := stL 42 [(3, .ref 3 0 []), (6, .ref 6 0 []), (7, .data (.int .i64) x7), (9, .app 21 0)] [(3, .cell (.pair (.arr 4 (.int .u64)) (.pair (.sl (.pair (.arr 32 (.int .u8)) (.pair (.arr 4 (.int .u64)) .unit))) .unit)) (.data (.pair (.arr 4 (.int .u64)) (.pair (.sl (.pair (.arr 32 (.int .u8)) (.pair (.arr 4 (.int .u64)) .unit))) .unit)) c3) false), (6, .cell (.pair (.arr 4 (.int .u64)) (.pair (.sl (.pair (.arr 32 (.int .u8)) (.pair (.arr 4 (.int .u64)) .unit))) .unit)) (.agg (.pair (.arr 4 (.int .u64)) (.pair (.sl (.pair (.arr 32 (.int .u8)) (.pair (.arr 4 (.int .u64)) .unit))) .unit)) [.data (.arr 4 (.int .u64)) c6p0, .full (.pair (.arr 32 (.int .u8)) (.pair (.arr 4 (.int .u64)) .unit)) []]) false), (21, .buf (.pair (.arr 32 (.int .u8)) (.pair (.arr 4 (.int .u64)) .unit)) c21 0 true)]
noncomputable def cd1 : Code := cR (cR (cR (cR (cR (cB Try.f90)))))
def St3 (c6p0 : List Int) (c21 : List (List Int × List Int × Unit)) : St := stL 42 [(6, .ref 6 0 [])] [(6, .cell (.pair (.arr 4 (.int .u64)) (.pair (.sl (.pair (.arr 32 (.int .u8)) (.pair (.arr 4 (.int .u64)) .unit))) .unit)) (.agg (.pair (.arr 4 (.int .u64)) (.pair (.sl (.pair (.arr 32 (.int .u8)) (.pair (.arr 4 (.int .u64)) .unit))) .unit)) [.data (.arr 4 (.int .u64)) c6p0, .app 21 0]) false), (21, .buf (.pair (.arr 32 (.int .u8)) (.pair (.arr 4 (.int .u64)) .unit)) c21 0 true)]
def j1 {α : Type} (Rt : (List Int) → (List (List Int × List Int × Unit)) → Option α) (x7 : Int) (c3 : List Int × List (List Int × List Int × Unit) × Unit) (c6p0 : List Int) (c21 : List (List Int × List Int × Unit)) : Option α :=
  if 0 ≤ x7 ∧ x7 ≤ (c3.2.1.length : Int) ∧ (c3.2.1.length : Int) ≤ (c3.2.1.length : Int) then
    if fitB (c21.length + (cutL c3.2.1 x7 (c3.2.1.length : Int)).length) 64 = true then
      Rt c3.1 (c21 ++ (cutL c3.2.1 x7 (c3.2.1.length : Int)))
    else none
  else none
theorem j1_eq {α : Type} (k : Nat) (Q : Ex → St → Option α) (x7 : Int) (c3 : List Int × List (List Int × List Int × Unit) × Unit) (c6p0 : List Int) (c21 : List (List Int × List Int × Unit)) :
    (den C k) cd1 Q (St2 x7 c3 c6p0 c21) = j1 (fun (c6p0 : List Int) (c21 : List (List Int × List Int × Unit)) => Q .ret (St3 c6p0 c21)) x7 c3 c6p0 c21 := by
  have h : ∀ (D L : DT α), denJ D L Js C cd1 Q (St2 x7 c3 c6p0 c21) =
        if 0 ≤ x7 ∧ x7 ≤ (c3.2.1.length : Int) ∧ (c3.2.1.length : Int) ≤ (c3.2.1.length : Int) then
          if fitB (c21.length + (cutL c3.2.1 x7 (c3.2.1.length : Int)).length) 64 = true then
            Q .ret (St3 c3.1 (c21 ++ (cutL c3.2.1 x7 (c3.2.1.length : Int))))
          else none
        else none := by
    intro D L; kernel_rfl
  refine (show (den C k) cd1 Q (St2 x7 c3 c6p0 c21) = denJ (den C k) (lp C k) Js C cd1 Q (St2 x7 c3 c6p0 c21) from (denJ_den _ _ _ _ _ _).symm).trans ((h (den C k) (lp C k)).trans ?_)
  first | rfl | kernel_rfl
def j0 {α : Type} (Rt : (List Int) → (List (List Int × List Int × Unit)) → Option α) (x7 : Int) (x8 : Bool) (c3 : List Int × List (List Int × List Int × Unit) × Unit) (c6p0 : List Int) (c21 : List (List Int × List Int × Unit)) : Option α :=
  if x8 = true then
    j1 Rt (IntKind.i64.wrap (x7 + 1)) c3 c6p0 c21
  else
    j1 Rt x7 c3 c6p0 c21
theorem j0_eq {α : Type} (k : Nat) (Q : Ex → St → Option α) (x7 : Int) (x8 : Bool) (c3 : List Int × List (List Int × List Int × Unit) × Unit) (c6p0 : List Int) (c21 : List (List Int × List Int × Unit)) :
    (den C k) cd0 Q (St1 x7 x8 c3 c6p0 c21) = j0 (fun (c6p0 : List Int) (c21 : List (List Int × List Int × Unit)) => Q .ret (St3 c6p0 c21)) x7 x8 c3 c6p0 c21 := by
  have h : ∀ (D L : DT α), denJ D L Js C cd0 Q (St1 x7 x8 c3 c6p0 c21) =
        if x8 = true then
          D cd1 Q (St2 (IntKind.i64.wrap (x7 + 1)) c3 c6p0 c21)
        else
          D cd1 Q (St2 x7 c3 c6p0 c21) := by
    intro D L; kernel_rfl
  refine (show (den C k) cd0 Q (St1 x7 x8 c3 c6p0 c21) = denJ (den C k) (lp C k) Js C cd0 Q (St1 x7 x8 c3 c6p0 c21) from (denJ_den _ _ _ _ _ _).symm).trans ((h (den C k) (lp C k)).trans ?_)
  simp only [j1_eq]
  first | rfl | kernel_rfl
def top {α : Type} (Rt : (List Int) → (List (List Int × List Int × Unit)) → Option α) (x0 : List Int × List (List Int × List Int × Unit) × Unit) (x1 : List Int) (x2 : List Int) : Option α :=
  (Go.Bx.coin_find.run x0 x1).bind fun y1 =>
  if 0 ≤ (0 : Int) ∧ (0 : Int) ≤ y1.1 ∧ y1.1 ≤ (x0.2.1.length : Int) then
    if fitB (0 + (cutL x0.2.1 0 y1.1).length) 64 = true then
      if (not (beqD (.arr 4 (.int .u64)) x2 [0, 0, 0, 0])) = true then
        if fitB ((cutL x0.2.1 0 y1.1).length + 1) 64 = true then
          j0 Rt y1.1 y1.2.1 x0 [0, 0, 0, 0] ((cutL x0.2.1 0 y1.1) ++ [(x1, x2, ())])
        else none
      else
        j0 Rt y1.1 y1.2.1 x0 [0, 0, 0, 0] (cutL x0.2.1 0 y1.1)
    else none
  else none
theorem top_eq {α : Type} (k : Nat) (Q : Ex → St → Option α) (x0 : List Int × List (List Int × List Int × Unit) × Unit) (x1 : List Int) (x2 : List Int) :
    (den C k) (cB Try.f90) Q (St0 x0 x1 x2) = top (fun (c6p0 : List Int) (c21 : List (List Int × List Int × Unit)) => Q .ret (St3 c6p0 c21)) x0 x1 x2 := by
  have h : ∀ (D L : DT α), denJ D L Js C (cB Try.f90) Q (St0 x0 x1 x2) =
        (Go.Bx.coin_find.run x0 x1).bind fun y1 =>
        if 0 ≤ (0 : Int) ∧ (0 : Int) ≤ y1.1 ∧ y1.1 ≤ (x0.2.1.length : Int) then
          if fitB (0 + (cutL x0.2.1 0 y1.1).length) 64 = true then
            if (not (beqD (.arr 4 (.int .u64)) x2 [0, 0, 0, 0])) = true then
              if fitB ((cutL x0.2.1 0 y1.1).length + 1) 64 = true then
                D cd0 Q (St1 y1.1 y1.2.1 x0 [0, 0, 0, 0] ((cutL x0.2.1 0 y1.1) ++ [(x1, x2, ())]))
              else none
            else
              D cd0 Q (St1 y1.1 y1.2.1 x0 [0, 0, 0, 0] (cutL x0.2.1 0 y1.1))
          else none
        else none := by
    intro D L; kernel_rfl
  refine (show (den C k) (cB Try.f90) Q (St0 x0 x1 x2) = denJ (den C k) (lp C k) Js C (cB Try.f90) Q (St0 x0 x1 x2) from (denJ_den _ _ _ _ _ _).symm).trans ((h (den C k) (lp C k)).trans ?_)
  simp only [j0_eq]
  first | rfl | kernel_rfl
def run (x0 : List Int × List (List Int × List Int × Unit) × Unit) (x1 : List Int) (x2 : List Int) : Option (List Int × List (List Int × List Int × Unit) × Unit) := top (α := List Int × List (List Int × List Int × Unit) × Unit) (fun (c6p0 : List Int) (c21 : List (List Int × List Int × Unit)) => some (c6p0, c21, ())) x0 x1 x2
def F : Fn := ⟨(.pair (.pair (.arr 4 (.int .u64)) (.pair (.sl (.pair (.arr 32 (.int .u8)) (.pair (.arr 4 (.int .u64)) .unit))) .unit)) (.pair (.arr 32 (.int .u8)) (.pair (.arr 4 (.int .u64)) .unit))), (.pair (.arr 4 (.int .u64)) (.pair (.sl (.pair (.arr 32 (.int .u8)) (.pair (.arr 4 (.int .u64)) .unit))) .unit)), false, fun x => run x.1 x.2.1 x.2.2.1⟩
set_option maxRecDepth 100000 in
theorem con : Con Try.prog 90 F := by
  refine con_of_den (C := C) (ctx_ok (by kernel_rfl) (by kernel_rfl) ⟨.inl ⟨Go.Bx.coin_find.con, Go.Bx.coin_find.named⟩, trivial⟩) (by kernel_rfl) Try.func90 (c := cB Try.f90) (by kernel_rfl) (by kernel_rfl) F fuel (fun x => by simp [F, spread, Try.ntmps90]) ?_
  intro x r h
  rw [← h]
  have h1 : start F Try.f90.ntmps x = (St0 x.1 x.2.1 x.2.2.1) := by kernel_rfl
  rw [h1]
  refine (top_eq fuel (fin C Try.f90.results.toList F.rs F.multi) x.1 x.2.1 x.2.2.1).trans ?_
  kernel_rfl
theorem named : Named Try.prog 90 := named_of Try.func90 (by kernel_rfl) (by kernel_rfl)
end Go.Bx.coin_with
namespace Go.Bx.basculeref_set
open Go Go.Proofs Go.Bx
set_option maxRecDepth 100000
set_option linter.unusedVariables false
def Js : List Nat := [9, 11, 12, 14]
def C : Ctx := ⟨[(24, (.arr 4 (.int .u64))), (39, (.sl (.pair (.arr 32 (.int .u8)) (.pair (.arr 4 (.int .u64)) .unit)))), (41, (.pair (.arr 4 (.int .u64)) (.pair (.sl (.pair (.arr 32 (.int .u8)) (.pair (.arr 4 (.int .u64)) .unit))) .unit))), (42, (.arr 32 (.int .u8))), (117, (.pair (.arr 32 (.int .u8)) (.pair (.arr 4 (.int .u64)) .unit)))], [], fnL [(138, Go.Bx.basculeref_isZero.F), (139, Go.Bx.basculeref_before.F)], noSh, [], noInv, [(2, [6]), (1, [3, 4, 5, 6, 7, 8]), (4, [3, 4, 5, 6, 7, 8, 14, 15, 16]), (12, [3, 4, 5, 6, 7, 8, 14, 15, 16]), (24, [3, 4, 5, 6, 7, 8, 10, 14, 15, 16]), (30, [3, 4, 5, 6, 7, 8, 14, 15, 16]), (33, [3, 4, 5, 6, 7, 8]), (39, [3, 6, 7])], [(12, [.melt true 7 [] 34 true])], [], 0, 0⟩
def St0 (x0 : List Int × List (List Int × List Int × Unit) × Unit) (x1 : List Int) (x2 : List Int) : St := stL 56 [(0, .data (.pair (.arr 4 (.int .u64)) (.pair (.sl (.pair (.arr 32 (.int .u8)) (.pair (.arr 4 (.int .u64)) .unit))) .unit)) x0), (1, .data (.arr 32 (.int .u8)) x1), (2, .data (.arr 4 (.int .u64)) x2)] []
def St1 (x8 : Bool) (x14 : List (List Int × List Int × Unit)) (x15 : Int) (x16 : Int) (c3 : List Int × List (List Int × List Int × Unit) × Unit) (c4 : List Int) (c5 : List Int) (c6p0 : List Int) (c34 : List (List Int × List Int × Unit)) : St := stL 56 [(3, .ref 3 0 []), (4, .ref 4 0 []), (5, .ref 5 0 []), (6, .ref 6 0 []), (7, .app 34 0), (8, .data .bool x8), (14, .data (.sl (.pair (.arr 32 (.int .u8)) (.pair (.arr 4 (.int .u64)) .unit))) x14), (15, .data (.int .i64) x15), (16, .data (.int .i64) x16)] [(3, .cell (.pair (.arr 4 (.int .u64)) (.pair (.sl (.pair (.arr 32 (.int .u8)) (.pair (.arr 4 (.int .u64)) .unit))) .unit)) (.data (.pair (.arr 4 (.int .u64)) (.pair (.sl (.pair (.arr 32 (.int .u8)) (.pair (.arr 4 (.int .u64)) .unit))) .unit)) c3) false), (4, .cell (.arr 32 (.int .u8)) (.data (.arr 32 (.int .u8)) c4) false), (5, .cell (.arr 4 (.int .u64)) (.data (.arr 4 (.int .u64)) c5) false), (6, .cell (.pair (.arr 4 (.int .u64)) (.pair (.sl (.pair (.arr 32 (.int .u8)) (.pair (.arr 4 (.int .u64)) .unit))) .unit)) (.agg (.pair (.arr 4 (.int .u64)) (.pair (.sl (.pair (.arr 32 (.int .u8)) (.pair (.arr 4 (.int .u64)) .unit))) .unit)) [.data (.arr 4 (.int .u64)) c6p0, .full (.pair (.arr 32 (.int .u8)) (.pair (.arr 4 (.int .u64)) .unit)) []]) false), (34, .buf (.pair (.arr 32 (.int .u8)) (.pair (.arr 4 (.int .u64)) .unit)) c34 0 true)]
noncomputable def cd0 : Code := cL (cL (cR (cL (cR (cR (cR (cB Try.f93)))))))
def St2 (x8 : Bool) (x14 : List (List Int × List Int × Unit)) (x15 : Int) (x16 : Int) (c3 : List Int × List (List Int × List Int × Unit) × Unit) (c4 : List Int) (c5 : List Int) (c6p0 : List Int) (c10 : List Int × List Int × Unit) (c34 : List (List Int × List Int × Unit)) : St := stL 56 [(3, .ref 3 0 []), (4, .ref 4 0 []), (5, .ref 5 0 []), (6, .ref 6 0 []), (7, .app 34 0), (8, .data .bool x8), (10, .ref 10 0 []), (14, .data (.sl (.pair (.arr 32 (.int .u8)) (.pair (.arr 4 (.int .u64)) .unit))) x14), (15, .data (.int .i64) x15), (16, .data (.int .i64) x16)] [(3, .cell (.pair (.arr 4 (.int .u64)) (.pair (.sl (.pair (.arr 32 (.int .u8)) (.pair (.arr 4 (.int .u64)) .unit))) .unit)) (.data (.pair (.arr 4 (.int .u64)) (.pair (.sl (.pair (.arr 32 (.int .u8)) (.pair (.arr 4 (.int .u64)) .unit))) .unit)) c3) false), (4, .cell (.arr 32 (.int .u8)) (.data (.arr 32 (.int .u8)) c4) false), (5, .cell (.arr 4 (.int .u64)) (.data (.arr 4 (.int .u64)) c5) false), (6, .cell (.pair (.arr 4 (.int .u64)) (.pair (.sl (.pair (.arr 32 (.int .u8)) (.pair (.arr 4 (.int .u64)) .unit))) .unit)) (.agg (.pair (.arr 4 (.int .u64)) (.pair (.sl (.pair (.arr 32 (.int .u8)) (.pair (.arr 4 (.int .u64)) .unit))) .unit)) [.data (.arr 4 (.int .u64)) c6p0, .full (.pair (.arr 32 (.int .u8)) (.pair (.arr 4 (.int .u64)) .unit)) []]) false), (10, .cell (.pair (.arr 32 (.int .u8)) (.pair (.arr 4 (.int .u64)) .unit)) (.data (.pair (.arr 32 (.int .u8)) (.pair (.arr 4 (.int .u64)) .unit)) c10) false), (34, .buf (.pair (.arr 32 (.int .u8)) (.pair (.arr 4 (.int .u64)) .unit)) c34 0 true)]
noncomputable def cd1 : Code := cR (cR (cR (cL (cL (cR (cL (cR (cR (cR (cB Try.f93))))))))))
noncomputable def cd2 : Code := cR (cR (cL (cL (cR (cR (cL (cL (cR (cL (cR (cR (cR (cB Try.f93)))))))))))))
def St3 (x8 : Bool) (x14 : List (List Int × List Int × Unit)) (x15 : Int) (x16 : Int) (c3 : List Int × List (List Int × List Int × Unit) × Unit) (c4 : List Int) (c5 : List Int) (c6p0 : List Int) (c34 : List (List Int × List Int × Unit)) : St := stL 56 [(3, .ref 3 0 []), (4, .ref 4 0 []), (5, .ref 5 0 []), (6, .ref 6 0 []), (7, .app 34 0), (8, .data .bool x8), (14, .data (.sl (.pair (.arr 32 (.int .u8)) (.pair (.arr 4 (.int .u64)) .unit))) x14), (15, .data (.int .i64) x15), (16, .data (.int .i64) x16)] [(3, .cell (.pair (.arr 4 (.int .u64)) (.pair (.sl (.pair (.arr 32 (.int .u8)) (.pair (.arr 4 (.int .u64)) .unit))) .unit)) (.data (.pair (.arr 4 (.int .u64)) (.pair (.sl (.pair (.arr 32 (.int .u8)) (.pair (.arr 4 (.int .u64)) .unit))) .unit)) c3) false), (4, .cell (.arr 32 (.int .u8)) (.data (.arr 32 (.int .u8)) c4) false), (5, .cell (.arr 4 (.int .u64)) (.data (.arr 4 (.int .u64)) c5) false), (6, .cell (.pair (.arr 4 (.int .u64)) (.pair (.sl (.pair (.arr 32 (.int .u8)) (.pair (.arr 4 (.int .u64)) .unit))) .unit)) (.agg (.pair (.arr 4 (.int .u64)) (.pair (.sl (.pair (.arr 32 (.int .u8)) (.pair (.arr 4 (.int .u64)) .unit))) .unit)) [.data (.arr 4 (.int .u64)) c6p0, .full (.pair (.arr 32 (.int .u8)) (.pair (.arr 4 (.int .u64)) .unit)) []]) false), (34, .buf (.pair (.arr 32 (.int .u8)) (.pair (.arr 4 (.int .u64)) .unit)) c34 0 true)]
def j1 {α : Type} (Nx : Bool → (List (List Int × List Int × Unit)) → Int → Int → (List Int × List (List Int × List Int × Unit) × Unit) → (List Int) → (List Int) → (List Int) → (List (List Int × List Int × Unit)) → Option α) (x8 : Bool) (x14 : List (List Int × List Int × Unit)) (x15 : Int) (x16 : Int) (c3 : List Int × List (List Int × List Int × Unit) × Unit) (c4 : List Int) (c5 : List Int) (c6p0 : List Int) (c34 : List (List Int × List Int × Unit)) : Option α :=
  Nx x8 x14 x15 (IntKind.i64.wrap (x16 + 1)) c3 c4 c5 c6p0 c34
theorem j1_eq {α : Type} (k : Nat) (next : St → Option α) (Q : Ex → St → Option α) (x8 : Bool) (x14 : List (List Int × List Int × Unit)) (x15 : Int) (x16 : Int) (c3 : List Int × List (List Int × List Int × Unit) × Unit) (c4 : List Int) (c5 : List Int) (c6p0 : List Int) (c34 : List (List Int × List Int × Unit)) :
    (den C k) cd1 (lq C 12 next Q) (St3 x8 x14 x15 x16 c3 c4 c5 c6p0 c34) = j1 (fun (x8 : Bool) (x14 : List (List Int × List Int × Unit)) (x15 : Int) (x16 : Int) (c3 : List Int × List (List Int × List Int × Unit) × Unit) (c4 : List Int) (c5 : List Int) (c6p0 : List Int) (c34 : List (List Int × List Int × Unit)) => next (St1 x8 x14 x15 x16 c3 c4 c5 c6p0 c34)) x8 x14 x15 x16 c3 c4 c5 c6p0 c34 := by
  have h : ∀ (D L : DT α), denJ D L Js C cd1 (lq C 12 next Q) (St3 x8 x14 x15 x16 c3 c4 c5 c6p0 c34) =
        next (St1 x8 x14 x15 (IntKind.i64.wrap (x16 + 1)) c3 c4 c5 c6p0 c34) := by
    intro D L; kernel_rfl
  refine (show (den C k) cd1 (lq C 12 next Q) (St3 x8 x14 x15 x16 c3 c4 c5 c6p0 c34) = denJ (den C k) (lp C k) Js C cd1 (lq C 12 next Q) (St3 x8 x14 x15 x16 c3 c4 c5 c6p0 c34) from (denJ_den _ _ _ _ _ _).symm).trans ((h (den C k) (lp C k)).trans ?_)
  first | rfl | kernel_rfl
def j0 {α : Type} (Nx : Bool → (List (List Int × List Int × Unit)) → Int → Int → (List Int × List (List Int × List Int × Unit) × Unit) → (List Int) → (List Int) → (List Int) → (List (List Int × List Int × Unit)) → Option α) (x8 : Bool) (x14 : List (List Int × List Int × Unit)) (x15 : Int) (x16 : Int) (c3 : List Int × List (List Int × List Int × Unit) × Unit) (c4 : List Int) (c5 : List Int) (c6p0 : List Int) (c10 : List Int × List Int × Unit) (c34 : List (List Int × List Int × Unit)) : Option α :=
  if (not (beqD (.arr 32 (.int .u8)) c10.1 c4)) = true then
    if fitB (c34.length + 1) 64 = true then
      j1 Nx x8 x14 x15 x16 c3 c4 c5 c6p0 (c34 ++ [c10])
    else none
  else
    j1 Nx x8 x14 x15 x16 c3 c4 c5 c6p0 c34
theorem j0_eq {α : Type} (k : Nat) (next : St → Option α) (Q : Ex → St → Option α) (x8 : Bool) (x14 : List (List Int × List Int × Unit)) (x15 : Int) (x16 : Int) (c3 : List Int × List (List Int × List Int × Unit) × Unit) (c4 : List Int) (c5 : List Int) (c6p0 : List Int) (c10 : List Int × List Int × Unit) (c34 : List (List Int × List Int × Unit)) :
    (den C k) cd2 (blkQ C 1 (sq (den C k) (lp C k) Js C cd1 (lq C 12 next Q))) (St2 x8 x14 x15 x16 c3 c4 c5 c6p0 c10 c34) = j0 (fun (x8 : Bool) (x14 : List (List Int × List Int × Unit)) (x15 : Int) (x16 : Int) (c3 : List Int × List (List Int × List Int × Unit) × Unit) (c4 : List Int) (c5 : List Int) (c6p0 : List Int) (c34 : List (List Int × List Int × Unit)) => next (St1 x8 x14 x15 x16 c3 c4 c5 c6p0 c34)) x8 x14 x15 x16 c3 c4 c5 c6p0 c10 c34 := by
  have h : ∀ (D L : DT α), denJ D L Js C cd2 (blkQ C 1 (sq D L Js C cd1 (lq C 12 next Q))) (St2 x8 x14 x15 x16 c3 c4 c5 c6p0 c10 c34) =
        if (not (beqD (.arr 32 (.int .u8)) c10.1 c4)) = true then
          if fitB (c34.length + 1) 64 = true then
            D cd1 (lq C 12 next Q) (St3 x8 x14 x15 x16 c3 c4 c5 c6p0 (c34 ++ [c10]))
          else none
        else
          D cd1 (lq C 12 next Q) (St3 x8 x14 x15 x16 c3 c4 c5 c6p0 c34) := by
    intro D L; kernel_rfl
  refine (show (den C k) cd2 (blkQ C 1 (sq (den C k) (lp C k) Js C cd1 (lq C 12 next Q))) (St2 x8 x14 x15 x16 c3 c4 c5 c6p0 c10 c34) = denJ (den C k) (lp C k) Js C cd2 (blkQ C 1 (sq (den C k) (lp C k) Js C cd1 (lq C 12 next Q))) (St2 x8 x14 x15 x16 c3 c4 c5 c6p0 c10 c34) from (denJ_den _ _ _ _ _ _).symm).trans ((h (den C k) (lp C k)).trans ?_)
  simp only [j1_eq]
  first | rfl | kernel_rfl
def St4 (x8 : Bool) (c3 : List Int × List (List Int × List Int × Unit) × Unit) (c4 : List Int) (c5 : List Int) (c6p0 : List Int) (c34 : List (List Int × List Int × Unit)) : St := stL 56 [(3, .ref 3 0 []), (4, .ref 4 0 []), (5, .ref 5 0 []), (6, .ref 6 0 []), (7, .app 34 0), (8, .data .bool x8)] [(3, .cell (.pair (.arr 4 (.int .u64)) (.pair (.sl (.pair (.arr 32 (.int .u8)) (.pair (.arr 4 (.int .u64)) .unit))) .unit)) (.data (.pair (.arr 4 (.int .u64)) (.pair (.sl (.pair (.arr 32 (.int .u8)) (.pair (.arr 4 (.int .u64)) .unit))) .unit)) c3) false), (4, .cell (.arr 32 (.int .u8)) (.data (.arr 32 (.int .u8)) c4) false), (5, .cell (.arr 4 (.int .u64)) (.data (.arr 4 (.int .u64)) c5) false), (6, .cell (.pair (.arr 4 (.int .u64)) (.pair (.sl (.pair (.arr 32 (.int .u8)) (.pair (.arr 4 (.int .u64)) .unit))) .unit)) (.agg (.pair (.arr 4 (.int .u64)) (.pair (.sl (.pair (.arr 32 (.int .u8)) (.pair (.arr 4 (.int .u64)) .unit))) .unit)) [.data (.arr 4 (.int .u64)) c6p0, .full (.pair (.arr 32 (.int .u8)) (.pair (.arr 4 (.int .u64)) .unit)) []]) false), (34, .buf (.pair (.arr 32 (.int .u8)) (.pair (.arr 4 (.int .u64)) .unit)) c34 0 true)]
def l0s {α : Type} (Nx : Bool → (List (List Int × List Int × Unit)) → Int → Int → (List Int × List (List Int × List Int × Unit) × Unit) → (List Int) → (List Int) → (List Int) → (List (List Int × List Int × Unit)) → Option α) (Xt0 : Bool → (List Int × List (List Int × List Int × Unit) × Unit) → (List Int) → (List Int) → (List Int) → (List (List Int × List Int × Unit)) → Option α) (x8 : Bool) (x14 : List (List Int × List Int × Unit)) (x15 : Int) (x16 : Int) (c3 : List Int × List (List Int × List Int × Unit) × Unit) (c4 : List Int) (c5 : List Int) (c6p0 : List Int) (c34 : List (List Int × List Int × Unit)) : Option α :=
  if (decide (x16 < x15)) = true then
    if 0 ≤ x16 ∧ x16 < (x14.length : Int) then
      (if ((not x8) == true) = true then Go.Bx.basculeref_before.run (List.getD x14 (Int.toNat x16) ((List.replicate 32 0), [0, 0, 0, 0], ())).1 c4 else some false).bind fun y2 =>
      if (cond (not x8) (not y2) false) = true then
        if fitB (c34.length + 1) 64 = true then
          j0 Nx true x14 x15 x16 c3 c4 c5 c6p0 (List.getD x14 (Int.toNat x16) ((List.replicate 32 0), [0, 0, 0, 0], ())) (c34 ++ [(c4, c5, ())])
        else none
      else
        j0 Nx x8 x14 x15 x16 c3 c4 c5 c6p0 (List.getD x14 (Int.toNat x16) ((List.replicate 32 0), [0, 0, 0, 0], ())) c34
    else none
  else
    Xt0 x8 c3 c4 c5 c6p0 c34
theorem l0s_eq {α : Type} (k : Nat) (next : St → Option α) (Q : Ex → St → Option α) (x8 : Bool) (x14 : List (List Int × List Int × Unit)) (x15 : Int) (x16 : Int) (c3 : List Int × List (List Int × List Int × Unit) × Unit) (c4 : List Int) (c5 : List Int) (c6p0 : List Int) (c34 : List (List Int × List Int × Unit)) :
    rnd C k cd0 12 Q next (St1 x8 x14 x15 x16 c3 c4 c5 c6p0 c34) = l0s (fun (x8 : Bool) (x14 : List (List Int × List Int × Unit)) (x15 : Int) (x16 : Int) (c3 : List Int × List (List Int × List Int × Unit) × Unit) (c4 : List Int) (c5 : List Int) (c6p0 : List Int) (c34 : List (List Int × List Int × Unit)) => next (St1 x8 x14 x15 x16 c3 c4 c5 c6p0 c34)) (fun (x8 : Bool) (c3 : List Int × List (List Int × List Int × Unit) × Unit) (c4 : List Int) (c5 : List Int) (c6p0 : List Int) (c34 : List (List Int × List Int × Unit)) => Q (.exit 0) (St4 x8 c3 c4 c5 c6p0 c34)) x8 x14 x15 x16 c3 c4 c5 c6p0 c34 := by
  have h : ∀ (D L : DT α), denJ D L Js C cd0 (lq C 12 next Q) (St1 x8 x14 x15 x16 c3 c4 c5 c6p0 c34) =
        if (decide (x16 < x15)) = true then
          if 0 ≤ x16 ∧ x16 < (x14.length : Int) then
            (if ((not x8) == true) = true then Go.Bx.basculeref_before.run (List.getD x14 (Int.toNat x16) ((List.replicate 32 0), [0, 0, 0, 0], ())).1 c4 else some false).bind fun y2 =>
            if (cond (not x8) (not y2) false) = true then
              if fitB (c34.length + 1) 64 = true then
                D cd2 (blkQ C 1 (sq D L Js C cd1 (lq C 12 next Q))) (St2 true x14 x15 x16 c3 c4 c5 c6p0 (List.getD x14 (Int.toNat x16) ((List.replicate 32 0), [0, 0, 0, 0], ())) (c34 ++ [(c4, c5, ())]))
              else none
            else
              D cd2 (blkQ C 1 (sq D L Js C cd1 (lq C 12 next Q))) (St2 x8 x14 x15 x16 c3 c4 c5 c6p0 (List.getD x14 (Int.toNat x16) ((List.replicate 32 0), [0, 0, 0, 0], ())) c34)
          else none
        else
          Q (.exit 0) (St4 x8 c3 c4 c5 c6p0 c34) := by
    intro D L; kernel_rfl
  refine (show rnd C k cd0 12 Q next (St1 x8 x14 x15 x16 c3 c4 c5 c6p0 c34) = denJ (den C k) (lp C k) Js C cd0 (lq C 12 next Q) (St1 x8 x14 x15 x16 c3 c4 c5 c6p0 c34) from (denJ_den _ _ _ _ _ _).symm).trans ((h (den C k) (lp C k)).trans ?_)
  simp only [j0_eq]
  first | rfl | kernel_rfl
def l0 {α : Type} (k : Nat) (Xt0 : Bool → (List Int × List (List Int × List Int × Unit) × Unit) → (List Int) → (List Int) → (List Int) → (List (List Int × List Int × Unit)) → Option α) : Nat → Bool → (List (List Int × List Int × Unit)) → Int → Int → (List Int × List (List Int × List Int × Unit) × Unit) → (List Int) → (List Int) → (List Int) → (List (List Int × List Int × Unit)) → Option α
  | 0, _, _, _, _, _, _, _, _, _ => none
  | n + 1, x8, x14, x15, x16, c3, c4, c5, c6p0, c34 => l0s (l0 k Xt0 n) Xt0 x8 x14 x15 x16 c3 c4 c5 c6p0 c34
theorem l0_eq {α : Type} (k : Nat) (Q : Ex → St → Option α) : ∀ (n : Nat) (x8 : Bool) (x14 : List (List Int × List Int × Unit)) (x15 : Int) (x16 : Int) (c3 : List Int × List (List Int × List Int × Unit) × Unit) (c4 : List Int) (c5 : List Int) (c6p0 : List Int) (c34 : List (List Int × List Int × Unit)), iter (rnd C k cd0 12 Q) n (St1 x8 x14 x15 x16 c3 c4 c5 c6p0 c34) = l0 k (fun (x8 : Bool) (c3 : List Int × List (List Int × List Int × Unit) × Unit) (c4 : List Int) (c5 : List Int) (c6p0 : List Int) (c34 : List (List Int × List Int × Unit)) => Q (.exit 0) (St4 x8 c3 c4 c5 c6p0 c34)) n x8 x14 x15 x16 c3 c4 c5 c6p0 c34
  | 0, _, _, _, _, _, _, _, _, _ => rfl
  | n + 1, x8, x14, x15, x16, c3, c4, c5, c6p0, c34 => (iter_succ _ _ _).trans ((l0s_eq k (iter (rnd C k cd0 12 Q) n) Q x8 x14 x15 x16 c3 c4 c5 c6p0 c34).trans (congrArg (fun N => l0s N (fun (x8 : Bool) (c3 : List Int × List (List Int × List Int × Unit) × Unit) (c4 : List Int) (c5 : List Int) (c6p0 : List Int) (c34 : List (List Int × List Int × Unit)) => Q (.exit 0) (St4 x8 c3 c4 c5 c6p0 c34)) x8 x14 x15 x16 c3 c4 c5 c6p0 c34) (funext fun x8 => funext fun x14 => funext fun x15 => funext fun x16 => funext fun c3 => funext fun c4 => funext fun c5 => funext fun c6p0 => funext fun c34 => l0_eq k Q n x8 x14 x15 x16 c3 c4 c5 c6p0 c34)))
theorem l0_congr {α : Type} (k : Nat) (Xt0 : Bool → (List Int × List (List Int × List Int × Unit) × Unit) → (List Int) → (List Int) → (List Int) → (List (List Int × List Int × Unit)) → Option α) (Xt0q : Bool → (List Int × List (List Int × List Int × Unit) × Unit) → (List Int) → (List Int) → (List Int) → (List (List Int × List Int × Unit)) → Option α) (hXt0 : ∀ (x8 : Bool) (c3 : List Int × List (List Int × List Int × Unit) × Unit) (c4 : List Int) (c5 : List Int) (c6p0 : List Int) (c34 : List (List Int × List Int × Unit)), Xt0 x8 c3 c4 c5 c6p0 c34 = Xt0q x8 c3 c4 c5 c6p0 c34) (n : Nat) (x8 : Bool) (x14 : List (List Int × List Int × Unit)) (x15 : Int) (x16 : Int) (c3 : List Int × List (List Int × List Int × Unit) × Unit) (c4 : List Int) (c5 : List Int) (c6p0 : List Int) (c34 : List (List Int × List Int × Unit)) : l0 k Xt0 n x8 x14 x15 x16 c3 c4 c5 c6p0 c34 = l0 k Xt0q n x8 x14 x15 x16 c3 c4 c5 c6p0 c34 := by
  obtain rfl : Xt0 = Xt0q := by funext x8; funext c3; funext c4; funext c5; funext c6p0; funext c34; exact hXt0 x8 c3 c4 c5 c6p0 c34
  rfl
noncomputable def cd3 : Code := cR (cR (cR (cR (cB Try.f93))))
def St5 (x8 : Bool) (c3 : List Int × List (List Int × List Int × Unit) × Unit) (c4 : List Int) (c5 : List Int) (c6p0 : List Int) (c34 : List (List Int × List Int × Unit)) : St := stL 56 [(3, .ref 3 0 []), (4, .ref 4 0 []), (5, .ref 5 0 []), (6, .ref 6 0 []), (7, .app 34 0), (8, .data .bool x8)] [(3, .cell (.pair (.arr 4 (.int .u64)) (.pair (.sl (.pair (.arr 32 (.int .u8)) (.pair (.arr 4 (.int .u64)) .unit))) .unit)) (.data (.pair (.arr 4 (.int .u64)) (.pair (.sl (.pair (.arr 32 (.int .u8)) (.pair (.arr 4 (.int .u64)) .unit))) .unit)) c3) false), (4, .cell (.arr 32 (.int .u8)) (.data (.arr 32 (.int .u8)) c4) false), (5, .cell (.arr 4 (.int .u64)) (.data (.arr 4 (.int .u64)) c5) false), (6, .cell (.pair (.arr 4 (.int .u64)) (.pair (.sl (.pair (.arr 32 (.int .u8)) (.pair (.arr 4 (.int .u64)) .unit))) .unit)) (.agg (.pair (.arr 4 (.int .u64)) (.pair (.sl (.pair (.arr 32 (.int .u8)) (.pair (.arr 4 (.int .u64)) .unit))) .unit)) [.data (.arr 4 (.int .u64)) c6p0, .full (.pair (.arr 32 (.int .u8)) (.pair (.arr 4 (.int .u64)) .unit)) []]) false), (34, .buf (.pair (.arr 32 (.int .u8)) (.pair (.arr 4 (.int .u64)) .unit)) c34 0 true)]
def St6 (c3 : List Int × List (List Int × List Int × Unit) × Unit) (c6p0 : List Int) (c34 : List (List Int × List Int × Unit)) : St := stL 56 [(3, .ref 3 0 []), (6, .ref 6 0 []), (7, .app 34 0)] [(3, .cell (.pair (.arr 4 (.int .u64)) (.pair (.sl (.pair (.arr 32 (.int .u8)) (.pair (.arr 4 (.int .u64)) .unit))) .unit)) (.data (.pair (.arr 4 (.int .u64)) (.pair (.sl (.pair (.arr 32 (.int .u8)) (.pair (.arr 4 (.int .u64)) .unit))) .unit)) c3) false), (6, .cell (.pair (.arr 4 (.int .u64)) (.pair (.sl (.pair (.arr 32 (.int .u8)) (.pair (.arr 4 (.int .u64)) .unit))) .unit)) (.agg (.pair (.arr 4 (.int .u64)) (.pair (.sl (.pair (.arr 32 (.int .u8)) (.pair (.arr 4 (.int .u64)) .unit))) .unit)) [.data (.arr 4 (.int .u64)) c6p0, .full (.pair (.arr 32 (.int .u8)) (.pair (.arr 4 (.int .u64)) .unit)) []]) false), (34, .buf (.pair (.arr 32 (.int .u8)) (.pair (.arr 4 (.int .u64)) .unit)) c34 0 true)]
noncomputable def cd4 : Code := cR (cR (cR (cR (cR (cB Try.f93)))))
def St7 (c6p0 : List Int) (c34 : List (List Int × List Int × Unit)) : St := stL 56 [(6, .ref 6 0 [])] [(6, .cell (.pair (.arr 4 (.int .u64)) (.pair (.sl (.pair (.arr 32 (.int .u8)) (.pair (.arr 4 (.int .u64)) .unit))) .unit)) (.agg (.pair (.arr 4 (.int .u64)) (.pair (.sl (.pair (.arr 32 (.int .u8)) (.pair (.arr 4 (.int .u64)) .unit))) .unit)) [.data (.arr 4 (.int .u64)) c6p0, .app 34 0]) false), (34, .buf (.pair (.arr 32 (.int .u8)) (.pair (.arr 4 (.int .u64)) .unit)) c34 0 true)]
def j3 {α : Type} (Rt : (List Int) → (List (List Int × List Int × Unit)) → Option α) (c3 : List Int × List (List Int × List Int × Unit) × Unit) (c6p0 : List Int) (c34 : List (List Int × List Int × Unit)) : Option α :=
  Rt c3.1 c34
theorem j3_eq {α : Type} (k : Nat) (Q : Ex → St → Option α) (c3 : List Int × List (List Int × List Int × Unit) × Unit) (c6p0 : List Int) (c34 : List (List Int × List Int × Unit)) :
    (den C k) cd4 Q (St6 c3 c6p0 c34) = j3 (fun (c6p0 : List Int) (c34 : List (List Int × List Int × Unit)) => Q .ret (St7 c6p0 c34)) c3 c6p0 c34 := by
  have h : ∀ (D L : DT α), denJ D L Js C cd4 Q (St6 c3 c6p0 c34) =
        Q .ret (St7 c3.1 c34) := by
    intro D L; kernel_rfl
  refine (show (den C k) cd4 Q (St6 c3 c6p0 c34) = denJ (den C k) (lp C k) Js C cd4 Q (St6 c3 c6p0 c34) from (denJ_den _ _ _ _ _ _).symm).trans ((h (den C k) (lp C k)).trans ?_)
  first | rfl | kernel_rfl
def j2 {α : Type} (Rt : (List Int) → (List (List Int × List Int × Unit)) → Option α) (x8 : Bool) (c3 : List Int × List (List Int × List Int × Unit) × Unit) (c4 : List Int) (c5 : List Int) (c6p0 : List Int) (c34 : List (List Int × List Int × Unit)) : Option α :=
  if (not x8) = true then
    if fitB (c34.length + 1) 64 = true then
      j3 Rt c3 c6p0 (c34 ++ [(c4, c5, ())])
    else none
  else
    j3 Rt c3 c6p0 c34
theorem j2_eq {α : Type} (k : Nat) (Q : Ex → St → Option α) (x8 : Bool) (c3 : List Int × List (List Int × List Int × Unit) × Unit) (c4 : List Int) (c5 : List Int) (c6p0 : List Int) (c34 : List (List Int × List Int × Unit)) :
    (den C k) cd3 Q (St5 x8 c3 c4 c5 c6p0 c34) = j2 (fun (c6p0 : List Int) (c34 : List (List Int × List Int × Unit)) => Q .ret (St7 c6p0 c34)) x8 c3 c4 c5 c6p0 c34 := by
  have h : ∀ (D L : DT α), denJ D L Js C cd3 Q (St5 x8 c3 c4 c5 c6p0 c34) =
        if (not x8) = true then
          if fitB (c34.length + 1) 64 = true then
            D cd4 Q (St6 c3 c6p0 (c34 ++ [(c4, c5, ())]))
          else none
        else
          D cd4 Q (St6 c3 c6p0 c34) := by
    intro D L; kernel_rfl
  refine (show (den C k) cd3 Q (St5 x8 c3 c4 c5 c6p0 c34) = denJ (den C k) (lp C k) Js C cd3 Q (St5 x8 c3 c4 c5 c6p0 c34) from (denJ_den _ _ _ _ _ _).symm).trans ((h (den C k) (lp C k)).trans ?_)
  simp only [j3_eq]
  first | rfl | kernel_rfl
theorem a0 {α : Type} (k : Nat) (Q : Ex → St → Option α) (x8 : Bool) (x14 : List (List Int × List Int × Unit)) (x15 : Int) (x16 : Int) (c3 : List Int × List (List Int × List Int × Unit) × Unit) (c4 : List Int) (c5 : List Int) (c6p0 : List Int) (c34 : List (List Int × List Int × Unit)) :
    (lp C k) cd0 (blkQ C 0 (sq (den C k) (lp C k) Js C cd3 Q)) (St1 x8 x14 x15 x16 c3 c4 c5 c6p0 c34) = l0 k (fun (x8 : Bool) (c3 : List Int × List (List Int × List Int × Unit) × Unit) (c4 : List Int) (c5 : List Int) (c6p0 : List Int) (c34 : List (List Int × List Int × Unit)) => j2 (fun (c6p0 : List Int) (c34 : List (List Int × List Int × Unit)) => Q .ret (St7 c6p0 c34)) x8 c3 c4 c5 c6p0 c34) k x8 x14 x15 x16 c3 c4 c5 c6p0 c34 :=
  (show (lp C k) cd0 (blkQ C 0 (sq (den C k) (lp C k) Js C cd3 Q)) (St1 x8 x14 x15 x16 c3 c4 c5 c6p0 c34) = iter (rnd C k cd0 12 (blkQ C 0 (sq (den C k) (lp C k) Js C cd3 Q))) k (St1 x8 x14 x15 x16 c3 c4 c5 c6p0 c34) by kernel_rfl).trans ((l0_eq k (blkQ C 0 (sq (den C k) (lp C k) Js C cd3 Q)) k x8 x14 x15 x16 c3 c4 c5 c6p0 c34).trans (l0_congr k _ _ (fun x8 c3 c4 c5 c6p0 c34 => ((show (blkQ C 0 (sq (den C k) (lp C k) Js C cd3 Q)) (.exit 0) (St4 x8 c3 c4 c5 c6p0 c34) = (den C k) cd3 Q (St5 x8 c3 c4 c5 c6p0 c34) by kernel_rfl).trans (by simp only [j2_eq]))) k x8 x14 x15 x16 c3 c4 c5 c6p0 c34))
def top {α : Type} (k : Nat) (Rt : (List Int) → (List (List Int × List Int × Unit)) → Option α) (x0 : List Int × List (List Int × List Int × Unit) × Unit) (x1 : List Int) (x2 : List Int) : Option α :=
  (Go.Bx.basculeref_isZero.run x2).bind fun y1 =>
  l0 k (fun (x8 : Bool) (c3 : List Int × List (List Int × List Int × Unit) × Unit) (c4 : List Int) (c5 : List Int) (c6p0 : List Int) (c34 : List (List Int × List Int × Unit)) => j2 Rt x8 c3 c4 c5 c6p0 c34) k y1 x0.2.1 (x0.2.1.length : Int) 0 x0 x1 x2 [0, 0, 0, 0] []
theorem top_eq {α : Type} (k : Nat) (Q : Ex → St → Option α) (x0 : List Int × List (List Int × List Int × Unit) × Unit) (x1 : List Int) (x2 : List Int) :
    (den C k) (cB Try.f93) Q (St0 x0 x1 x2) = top k (fun (c6p0 : List Int) (c34 : List (List Int × List Int × Unit)) => Q .ret (St7 c6p0 c34)) x0 x1 x2 := by
  have h : ∀ (D L : DT α), denJ D L Js C (cB Try.f93) Q (St0 x0 x1 x2) =
        (Go.Bx.basculeref_isZero.run x2).bind fun y1 =>
        L cd0 (blkQ C 0 (sq D L Js C cd3 Q)) (St1 y1 x0.2.1 (x0.2.1.length : Int) 0 x0 x1 x2 [0, 0, 0, 0] []) := by
    intro D L; kernel_rfl
  refine (show (den C k) (cB Try.f93) Q (St0 x0 x1 x2) = denJ (den C k) (lp C k) Js C (cB Try.f93) Q (St0 x0 x1 x2) from (denJ_den _ _ _ _ _ _).symm).trans ((h (den C k) (lp C k)).trans ?_)
  simp only [a0]
  first | rfl | kernel_rfl
def run (x0 : List Int × List (List Int × List Int × Unit) × Unit) (x1 : List Int) (x2 : List Int) : Option (List Int × List (List Int × List Int × Unit) × Unit) := top (α := List Int × List (List Int × List Int × Unit) × Unit) fuel (fun (c6p0 : List Int) (c34 : List (List Int × List Int × Unit)) => some (c6p0, c34, ())) x0 x1 x2
def F : Fn := ⟨(.pair (.pair (.arr 4 (.int .u64)) (.pair (.sl (.pair (.arr 32 (.int .u8)) (.pair (.arr 4 (.int .u64)) .unit))) .unit)) (.pair (.arr 32 (.int .u8)) (.pair (.arr 4 (.int .u64)) .unit))), (.pair (.arr 4 (.int .u64)) (.pair (.sl (.pair (.arr 32 (.int .u8)) (.pair (.arr 4 (.int .u64)) .unit))) .unit)), false, fun x => run x.1 x.2.1 x.2.2.1⟩
set_option maxRecDepth 100000 in
theorem con : Con Try.prog 93 F := by
  refine con_of_den (C := C) (ctx_ok (by kernel_rfl) (by kernel_rfl) ⟨.inl ⟨Go.Bx.basculeref_isZero.con, Go.Bx.basculeref_isZero.named⟩, ⟨.inl ⟨Go.Bx.basculeref_before.con, Go.Bx.basculeref_before.named⟩, trivial⟩⟩) (by kernel_rfl) Try.func93 (c := cB Try.f93) (by kernel_rfl) (by kernel_rfl) F fuel (fun x => by simp [F, spread, Try.ntmps93]) ?_
  intro x r h
  rw [← h]
  have h1 : start F Try.f93.ntmps x = (St0 x.1 x.2.1 x.2.2.1) := by kernel_rfl
  rw [h1]
  refine (top_eq fuel (fin C Try.f93.results.toList F.rs F.multi) x.1 x.2.1 x.2.2.1).trans ?_
  kernel_rfl
theorem named : Named Try.prog 93 := named_of Try.func93 (by kernel_rfl) (by kernel_rfl)
end Go.Bx.basculeref_set
namespace Go.Bx.basculeref_held
open Go Go.Proofs Go.Bx
set_option maxRecDepth 100000
set_option linter.unusedVariables false
def Js : List Nat := [8]
def C : Ctx := ⟨[(24, (.arr 4 (.int .u64))), (39, (.sl (.pair (.arr 32 (.int .u8)) (.pair (.arr 4 (.int .u64)) .unit)))), (41, (.pair (.arr 4 (.int .u64)) (.pair (.sl (.pair (.arr 32 (.int .u8)) (.pair (.arr 4 (.int .u64)) .unit))) .unit))), (42, (.arr 32 (.int .u8))), (117, (.pair (.arr 32 (.int .u8)) (.pair (.arr 4 (.int .u64)) .unit)))], [], fnL [], noSh, [], noInv, [(2, [4]), (1, [4]), (4, [3, 4, 8, 9, 10]), (6, [3, 4, 8, 9, 10]), (21, [4])], [], [], 0, 0⟩
def St0 (x0 : List Int × List (List Int × List Int × Unit) × Unit) (x1 : List Int) : St := stL 22 [(0, .data (.pair (.arr 4 (.int .u64)) (.pair (.sl (.pair (.arr 32 (.int .u8)) (.pair (.arr 4 (.int .u64)) .unit))) .unit)) x0), (1, .data (.arr 32 (.int .u8)) x1)] []
def St1 (x8 : List (List Int × List Int × Unit)) (x9 : Int) (x10 : Int) (c3 : List Int) (c4 : List Int) : St := stL 22 [(3, .ref 3 0 []), (4, .ref 4 0 []), (8, .data (.sl (.pair (.arr 32 (.int .u8)) (.pair (.arr 4 (.int .u64)) .unit))) x8), (9, .data (.int .i64) x9), (10, .data (.int .i64) x10)] [(3, .cell (.arr 32 (.int .u8)) (.data (.arr 32 (.int .u8)) c3) false), (4, .cell (.arr 4 (.int .u64)) (.data (.arr 4 (.int .u64)) c4) false)]
noncomputable def cd0 : Code := cL (cL (cR (cL (cR (cB Try.f89)))))
def St2 (c4 : List Int) : St := stL 22 [(4, .ref 4 0 [])] [(4, .cell (.arr 4 (.int .u64)) (.data (.arr 4 (.int .u64)) c4) false)]
def St3 (c4 : List Int) : St := stL 22 [(4, .ref 4 0 [])] [(4, .cell (.arr 4 (.int .u64)) (.data (.arr 4 (.int .u64)) c4) false)]
def l0s {α : Type} (Nx : (List (List Int × List Int × Unit)) → Int → Int → (List Int) → (List Int) → Option α) (Rt : (List Int) → Option α) (Xt0 : (List Int) → Option α) (x8 : List (List Int × List Int × Unit)) (x9 : Int) (x10 : Int) (c3 : List Int) (c4 : List Int) : Option α :=
  if (decide (x10 < x9)) = true then
    if 0 ≤ x10 ∧ x10 < (x8.length : Int) then
      if (beqD (.arr 32 (.int .u8)) (List.getD x8 (Int.toNat x10) ((List.replicate 32 0), [0, 0, 0, 0], ())).1 c3) = true then
        Rt (List.getD x8 (Int.toNat x10) ((List.replicate 32 0), [0, 0, 0, 0], ())).2.1
      else
        Nx x8 x9 (IntKind.i64.wrap (x10 + 1)) c3 c4
    else none
  else
    Xt0 c4
theorem l0s_eq {α : Type} (k : Nat) (next : St → Option α) (Q : Ex → St → Option α) (x8 : List (List Int × List Int × Unit)) (x9 : Int) (x10 : Int) (c3 : List Int) (c4 : List Int) :
    rnd C k cd0 6 Q next (St1 x8 x9 x10 c3 c4) = l0s (fun (x8 : List (List Int × List Int × Unit)) (x9 : Int) (x10 : Int) (c3 : List Int) (c4 : List Int) => next (St1 x8 x9 x10 c3 c4)) (fun (c4 : List Int) => Q .ret (St2 c4)) (fun (c4 : List Int) => Q (.exit 0) (St3 c4)) x8 x9 x10 c3 c4 := by
  have h : ∀ (D L : DT α), denJ D L Js C cd0 (lq C 6 next Q) (St1 x8 x9 x10 c3 c4) =
        if (decide (x10 < x9)) = true then
          if 0 ≤ x10 ∧ x10 < (x8.length : Int) then
            if (beqD (.arr 32 (.int .u8)) (List.getD x8 (Int.toNat x10) ((List.replicate 32 0), [0, 0, 0, 0], ())).1 c3) = true then
              Q .ret (St2 (List.getD x8 (Int.toNat x10) ((List.replicate 32 0), [0, 0, 0, 0], ())).2.1)
            else
              next (St1 x8 x9 (IntKind.i64.wrap (x10 + 1)) c3 c4)
          else none
        else
          Q (.exit 0) (St3 c4) := by
    intro D L; kernel_rfl
  refine (show rnd C k cd0 6 Q next (St1 x8 x9 x10 c3 c4) = denJ (den C k) (lp C k) Js C cd0 (lq C 6 next Q) (St1 x8 x9 x10 c3 c4) from (denJ_den _ _ _ _ _ _).symm).trans ((h (den C k) (lp C k)).trans ?_)
  first | rfl | kernel_rfl
def l0 {α : Type} (k : Nat) (Rt : (List Int) → Option α) (Xt0 : (List Int) → Option α) : Nat → (List (List Int × List Int × Unit)) → Int → Int → (List Int) → (List Int) → Option α
  | 0, _, _, _, _, _ => none
  | n + 1, x8, x9, x10, c3, c4 => l0s (l0 k Rt Xt0 n) Rt Xt0 x8 x9 x10 c3 c4
theorem l0_eq {α : Type} (k : Nat) (Q : Ex → St → Option α) : ∀ (n : Nat) (x8 : List (List Int × List Int × Unit)) (x9 : Int) (x10 : Int) (c3 : List Int) (c4 : List Int), iter (rnd C k cd0 6 Q) n (St1 x8 x9 x10 c3 c4) = l0 k (fun (c4 : List Int) => Q .ret (St2 c4)) (fun (c4 : List Int) => Q (.exit 0) (St3 c4)) n x8 x9 x10 c3 c4
  | 0, _, _, _, _, _ => rfl
  | n + 1, x8, x9, x10, c3, c4 => (iter_succ _ _ _).trans ((l0s_eq k (iter (rnd C k cd0 6 Q) n) Q x8 x9 x10 c3 c4).trans (congrArg (fun N => l0s N (fun (c4 : List Int) => Q .ret (St2 c4)) (fun (c4 : List Int) => Q (.exit 0) (St3 c4)) x8 x9 x10 c3 c4) (funext fun x8 => funext fun x9 => funext fun x10 => funext fun c3 => funext fun c4 => l0_eq k Q n x8 x9 x10 c3 c4)))
theorem l0_congr {α : Type} (k : Nat) (Rt : (List Int) → Option α) (Xt0 : (List Int) → Option α) (Rtq : (List Int) → Option α) (Xt0q : (List Int) → Option α) (hRt : ∀ (c4 : List Int), Rt c4 = Rtq c4) (hXt0 : ∀ (c4 : List Int), Xt0 c4 = Xt0q c4) (n : Nat) (x8 : List (List Int × List Int × Unit)) (x9 : Int) (x10 : Int) (c3 : List Int) (c4 : List Int) : l0 k Rt Xt0 n x8 x9 x10 c3 c4 = l0 k Rtq Xt0q n x8 x9 x10 c3 c4 := by
  obtain rfl : Rt = Rtq := by funext c4; exact hRt c4
  obtain rfl : Xt0 = Xt0q := by funext c4; exact hXt0 c4
  rfl
noncomputable def cd1 : Code := cR (cR (cB Try.f89))
def St4 (c4 : List Int) : St := stL 22 [(4, .ref 4 0 [])] [(4, .cell (.arr 4 (.int .u64)) (.data (.arr 4 (.int .u64)) c4) false)]
def j0 {α : Type} (Rt : (List Int) → Option α) (c4 : List Int) : Option α :=
  Rt [0, 0, 0, 0]
theorem j0_eq {α : Type} (k : Nat) (Q : Ex → St → Option α) (c4 : List Int) :
    (den C k) cd1 Q (St4 c4) = j0 (fun (c4 : List Int) => Q .ret (St2 c4)) c4 := by
  have h : ∀ (D L : DT α), denJ D L Js C cd1 Q (St4 c4) =
        Q .ret (St2 [0, 0, 0, 0]) := by
    intro D L; kernel_rfl
  refine (show (den C k) cd1 Q (St4 c4) = denJ (den C k) (lp C k) Js C cd1 Q (St4 c4) from (denJ_den _ _ _ _ _ _).symm).trans ((h (den C k) (lp C k)).trans ?_)
  first | rfl | kernel_rfl
theorem a0 {α : Type} (k : Nat) (Q : Ex → St → Option α) (x8 : List (List Int × List Int × Unit)) (x9 : Int) (x10 : Int) (c3 : List Int) (c4 : List Int) :
    (lp C k) cd0 (blkQ C 0 (sq (den C k) (lp C k) Js C cd1 Q)) (St1 x8 x9 x10 c3 c4) = l0 k (fun (c4 : List Int) => (fun (c4 : List Int) => Q .ret (St2 c4)) c4) (fun (c4 : List Int) => j0 (fun (c4 : List Int) => Q .ret (St2 c4)) c4) k x8 x9 x10 c3 c4 :=
  (show (lp C k) cd0 (blkQ C 0 (sq (den C k) (lp C k) Js C cd1 Q)) (St1 x8 x9 x10 c3 c4) = iter (rnd C k cd0 6 (blkQ C 0 (sq (den C k) (lp C k) Js C cd1 Q))) k (St1 x8 x9 x10 c3 c4) by kernel_rfl).trans ((l0_eq k (blkQ C 0 (sq (den C k) (lp C k) Js C cd1 Q)) k x8 x9 x10 c3 c4).trans (l0_congr k _ _ _ _ (fun c4 => (show (blkQ C 0 (sq (den C k) (lp C k) Js C cd1 Q)) .ret (St2 c4) = Q .ret (St2 c4) by kernel_rfl)) (fun c4 => ((show (blkQ C 0 (sq (den C k) (lp C k) Js C cd1 Q)) (.exit 0) (St3 c4) = (den C k) cd1 Q (St4 c4) by kernel_rfl).trans (by simp only [j0_eq]))) k x8 x9 x10 c3 c4))
def top {α : Type} (k : Nat) (Rt : (List Int) → Option α) (x0 : List Int × List (List Int × List Int × Unit) × Unit) (x1 : List Int) : Option α :=
  l0 k (fun (c4 : List Int) => Rt c4) (fun (c4 : List Int) => j0 Rt c4) k x0.2.1 (x0.2.1.length : Int) 0 x1 [0, 0, 0, 0]
theorem top_eq {α : Type} (k : Nat) (Q : Ex → St → Option α) (x0 : List Int × List (List Int × List Int × Unit) × Unit) (x1 : List Int) :
    (den C k) (cB Try.f89) Q (St0 x0 x1) = top k (fun (c4 : List Int) => Q .ret (St2 c4)) x0 x1 := by
  have h : ∀ (D L : DT α), denJ D L Js C (cB Try.f89) Q (St0 x0 x1) =
        L cd0 (blkQ C 0 (sq D L Js C cd1 Q)) (St1 x0.2.1 (x0.2.1.length : Int) 0 x1 [0, 0, 0, 0]) := by
    intro D L; kernel_rfl
  refine (show (den C k) (cB Try.f89) Q (St0 x0 x1) = denJ (den C k) (lp C k) Js C (cB Try.f89) Q (St0 x0 x1) from (denJ_den _ _ _ _ _ _).symm).trans ((h (den C k) (lp C k)).trans ?_)
  simp only [a0]
  first | rfl | kernel_rfl
def run (x0 : List Int × List (List Int × List Int × Unit) × Unit) (x1 : List Int) : Option (List Int) := top (α := List Int) fuel (fun (c4 : List Int) => some c4) x0 x1
def F : Fn := ⟨(.pair (.pair (.arr 4 (.int .u64)) (.pair (.sl (.pair (.arr 32 (.int .u8)) (.pair (.arr 4 (.int .u64)) .unit))) .unit)) (.pair (.arr 32 (.int .u8)) .unit)), (.arr 4 (.int .u64)), false, fun x => run x.1 x.2.1⟩
set_option maxRecDepth 100000 in
theorem con : Con Try.prog 89 F := by
  refine con_of_den (C := C) (ctx_ok (by kernel_rfl) (by kernel_rfl) trivial) (by kernel_rfl) Try.func89 (c := cB Try.f89) (by kernel_rfl) (by kernel_rfl) F fuel (fun x => by simp [F, spread, Try.ntmps89]) ?_
  intro x r h
  rw [← h]
  have h1 : start F Try.f89.ntmps x = (St0 x.1 x.2.1) := by kernel_rfl
  rw [h1]
  refine (top_eq fuel (fin C Try.f89.results.toList F.rs F.multi) x.1 x.2.1).trans ?_
  kernel_rfl
theorem named : Named Try.prog 89 := named_of Try.func89 (by kernel_rfl) (by kernel_rfl)
end Go.Bx.basculeref_held
namespace Go.Bx.basculeref_Sum
open Go Go.Proofs Go.Bx
set_option maxRecDepth 100000
set_option linter.unusedVariables false
def Js : List Nat := []
def C : Ctx := ⟨[(4, .bool), (24, (.arr 4 (.int .u64)))], [], fnL [(73, Go.Bx.basculeref_plus.F), (75, Go.Bx.basculeref_wide.F), (77, Go.Bx.basculeref_of.F)], noSh, [], noInv, [(2, [4, 5])], [], [], 0, 0⟩
def St0 (x0 : List Int) (x1 : List Int) : St := stL 14 [(0, .data (.arr 4 (.int .u64)) x0), (1, .data (.arr 4 (.int .u64)) x1)] []
def St1 (x5 : Bool) (c4 : List Int) : St := stL 14 [(4, .ref 4 0 []), (5, .data .bool x5)] [(4, .cell (.arr 4 (.int .u64)) (.data (.arr 4 (.int .u64)) c4) false)]
def top {α : Type} (Rt : Bool → (List Int) → Option α) (x0 : List Int) (x1 : List Int) : Option α :=
  (Go.Bx.basculeref_of.run x0).bind fun y1 =>
  (Go.Bx.basculeref_of.run x1).bind fun y2 =>
  (Go.Bx.basculeref_plus.run y1 y2).bind fun y3 =>
  (Go.Bx.basculeref_wide.run y3).bind fun y4 =>
  Rt y4.2.1 y4.1
theorem top_eq {α : Type} (k : Nat) (Q : Ex → St → Option α) (x0 : List Int) (x1 : List Int) :
    (den C k) (cB Try.f92) Q (St0 x0 x1) = top (fun (x5 : Bool) (c4 : List Int) => Q .ret (St1 x5 c4)) x0 x1 := by
  have h : ∀ (D L : DT α), denJ D L Js C (cB Try.f92) Q (St0 x0 x1) =
        (Go.Bx.basculeref_of.run x0).bind fun y1 =>
        (Go.Bx.basculeref_of.run x1).bind fun y2 =>
        (Go.Bx.basculeref_plus.run y1 y2).bind fun y3 =>
        (Go.Bx.basculeref_wide.run y3).bind fun y4 =>
        Q .ret (St1 y4.2.1 y4.1) := by
    intro D L; kernel_rfl
  refine (show (den C k) (cB Try.f92) Q (St0 x0 x1) = denJ (den C k) (lp C k) Js C (cB Try.f92) Q (St0 x0 x1) from (denJ_den _ _ _ _ _ _).symm).trans ((h (den C k) (lp C k)).trans ?_)
  first | rfl | kernel_rfl
def run (x0 : List Int) (x1 : List Int) : Option (List Int × Bool × Unit) := top (α := List Int × Bool × Unit) (fun (x5 : Bool) (c4 : List Int) => some (c4, x5, ())) x0 x1
def F : Fn := ⟨(.pair (.arr 4 (.int .u64)) (.pair (.arr 4 (.int .u64)) .unit)), (.pair (.arr 4 (.int .u64)) (.pair .bool .unit)), true, fun x => run x.1 x.2.1⟩
set_option maxRecDepth 100000 in
theorem con : Con Try.prog 92 F := by
  refine con_of_den (C := C) (ctx_ok (by kernel_rfl) (by kernel_rfl) ⟨.inl ⟨Go.Bx.basculeref_plus.con, Go.Bx.basculeref_plus.named⟩, ⟨.inl ⟨Go.Bx.basculeref_wide.con, Go.Bx.basculeref_wide.named⟩, ⟨.inl ⟨Go.Bx.basculeref_of.con, Go.Bx.basculeref_of.named⟩, trivial⟩⟩⟩) (by kernel_rfl) Try.func92 (c := cB Try.f92) (by kernel_rfl) (by kernel_rfl) F fuel (fun x => by simp [F, spread, Try.ntmps92]) ?_
  intro x r h
  rw [← h]
  have h1 : start F Try.f92.ntmps x = (St0 x.1 x.2.1) := by kernel_rfl
  rw [h1]
  refine (top_eq fuel (fin C Try.f92.results.toList F.rs F.multi) x.1 x.2.1).trans ?_
  kernel_rfl
theorem named : Named Try.prog 92 := named_of Try.func92 (by kernel_rfl) (by kernel_rfl)
end Go.Bx.basculeref_Sum
namespace Go.Bx.basculeref_Difference
open Go Go.Proofs Go.Bx
set_option maxRecDepth 100000
set_option linter.unusedVariables false
def Js : List Nat := []
def C : Ctx := ⟨[(4, .bool), (22, (.int .u64)), (24, (.arr 4 (.int .u64))), (97, (.sl (.int .u64)))], [], fnL [(73, Go.Bx.basculeref_plus.F), (77, Go.Bx.basculeref_of.F), (84, Go.Bx.basculeref_cut.F), (132, Go.Bx.basculeref_compare.F), (133, Go.Bx.basculeref_less.F)], noSh, [], noInv, [(2, [4, 5])], [], [], 0, 0⟩
def St0 (x0 : List Int) (x1 : List Int) : St := stL 30 [(0, .data (.arr 4 (.int .u64)) x0), (1, .data (.arr 4 (.int .u64)) x1)] []
def St1 (x5 : Bool) (c4 : List Int) : St := stL 30 [(4, .ref 4 0 []), (5, .data .bool x5)] [(4, .cell (.arr 4 (.int .u64)) (.data (.arr 4 (.int .u64)) c4) false)]
def top {α : Type} (Rt : Bool → (List Int) → Option α) (x0 : List Int) (x1 : List Int) : Option α :=
  (Go.Bx.basculeref_of.run x0).bind fun y1 =>
  (Go.Bx.basculeref_of.run x1).bind fun y2 =>
  (Go.Bx.basculeref_compare.run y1 y2).bind fun y3 =>
  if (decide (y3 ≥ 0)) = true then
    (Go.Bx.basculeref_less.run y1 y2).bind fun y4 =>
    (Go.Bx.basculeref_cut.run y4).bind fun y5 =>
    Rt false y5
  else
    (Go.Bx.basculeref_plus.run y1 [0, 0, 0, 0, 0, 0, 0, 0, 1]).bind fun y6 =>
    (Go.Bx.basculeref_less.run y6 y2).bind fun y7 =>
    (Go.Bx.basculeref_cut.run y7).bind fun y8 =>
    Rt true y8
theorem top_eq {α : Type} (k : Nat) (Q : Ex → St → Option α) (x0 : List Int) (x1 : List Int) :
    (den C k) (cB Try.f94) Q (St0 x0 x1) = top (fun (x5 : Bool) (c4 : List Int) => Q .ret (St1 x5 c4)) x0 x1 := by
  have h : ∀ (D L : DT α), denJ D L Js C (cB Try.f94) Q (St0 x0 x1) =
        (Go.Bx.basculeref_of.run x0).bind fun y1 =>
        (Go.Bx.basculeref_of.run x1).bind fun y2 =>
        (Go.Bx.basculeref_compare.run y1 y2).bind fun y3 =>
        if (decide (y3 ≥ 0)) = true then
          (Go.Bx.basculeref_less.run y1 y2).bind fun y4 =>
          (Go.Bx.basculeref_cut.run y4).bind fun y5 =>
          Q .ret (St1 false y5)
        else
          (Go.Bx.basculeref_plus.run y1 [0, 0, 0, 0, 0, 0, 0, 0, 1]).bind fun y6 =>
          (Go.Bx.basculeref_less.run y6 y2).bind fun y7 =>
          (Go.Bx.basculeref_cut.run y7).bind fun y8 =>
          Q .ret (St1 true y8) := by
    intro D L; kernel_rfl
  refine (show (den C k) (cB Try.f94) Q (St0 x0 x1) = denJ (den C k) (lp C k) Js C (cB Try.f94) Q (St0 x0 x1) from (denJ_den _ _ _ _ _ _).symm).trans ((h (den C k) (lp C k)).trans ?_)
  first | rfl | kernel_rfl
def run (x0 : List Int) (x1 : List Int) : Option (List Int × Bool × Unit) := top (α := List Int × Bool × Unit) (fun (x5 : Bool) (c4 : List Int) => some (c4, x5, ())) x0 x1
def F : Fn := ⟨(.pair (.arr 4 (.int .u64)) (.pair (.arr 4 (.int .u64)) .unit)), (.pair (.arr 4 (.int .u64)) (.pair .bool .unit)), true, fun x => run x.1 x.2.1⟩
set_option maxRecDepth 100000 in
theorem con : Con Try.prog 94 F := by
  refine con_of_den (C := C) (ctx_ok (by kernel_rfl) (by kernel_rfl) ⟨.inl ⟨Go.Bx.basculeref_plus.con, Go.Bx.basculeref_plus.named⟩, ⟨.inl ⟨Go.Bx.basculeref_of.con, Go.Bx.basculeref_of.named⟩, ⟨.inl ⟨Go.Bx.basculeref_cut.con, Go.Bx.basculeref_cut.named⟩, ⟨.inl ⟨Go.Bx.basculeref_compare.con, Go.Bx.basculeref_compare.named⟩, ⟨.inl ⟨Go.Bx.basculeref_less.con, Go.Bx.basculeref_less.named⟩, trivial⟩⟩⟩⟩⟩) (by kernel_rfl) Try.func94 (c := cB Try.f94) (by kernel_rfl) (by kernel_rfl) F fuel (fun x => by simp [F, spread, Try.ntmps94]) ?_
  intro x r h
  rw [← h]
  have h1 : start F Try.f94.ntmps x = (St0 x.1 x.2.1) := by kernel_rfl
  rw [h1]
  refine (top_eq fuel (fin C Try.f94.results.toList F.rs F.multi) x.1 x.2.1).trans ?_
  kernel_rfl
theorem named : Named Try.prog 94 := named_of Try.func94 (by kernel_rfl) (by kernel_rfl)
end Go.Bx.basculeref_Difference
namespace Go.Bx.coin_ended
open Go Go.Proofs Go.Bx
set_option maxRecDepth 100000
set_option linter.unusedVariables false
def Js : List Nat := []
def C : Ctx := ⟨[(25, (.int .i64)), (39, (.sl (.pair (.arr 32 (.int .u8)) (.pair (.arr 4 (.int .u64)) .unit)))), (41, (.pair (.arr 4 (.int .u64)) (.pair (.sl (.pair (.arr 32 (.int .u8)) (.pair (.arr 4 (.int .u64)) .unit))) .unit)))], [], fnL [], noSh, [], noInv, [(2, [2, 3])], [(2, [.dat false 2 []])], [], 0, 0⟩
def St0 (x0 : List Int × List (List Int × List Int × Unit) × Unit) : St := stL 10 [(0, .data (.pair (.arr 4 (.int .u64)) (.pair (.sl (.pair (.arr 32 (.int .u8)) (.pair (.arr 4 (.int .u64)) .unit))) .unit)) x0)] []
def St1 (x3 : Int) (c2 : List Int × List (List Int × List Int × Unit) × Unit) : St := stL 10 [(2, .ref 2 0 []), (3, .data (.int .i64) x3)] [(2, .cell (.pair (.arr 4 (.int .u64)) (.pair (.sl (.pair (.arr 32 (.int .u8)) (.pair (.arr 4 (.int .u64)) .unit))) .unit)) (.data (.pair (.arr 4 (.int .u64)) (.pair (.sl (.pair (.arr 32 (.int .u8)) (.pair (.arr 4 (.int .u64)) .unit))) .unit)) c2) false)]
def top {α : Type} (Rt : Int → (List Int × List (List Int × List Int × Unit) × Unit) → Option α) (x0 : List Int × List (List Int × List Int × Unit) × Unit) : Option α :=
  if (decide ((x0.2.1.length : Int) > 40)) = true then
    Rt 9 ([0, 0, 0, 0], [], ())
  else
    Rt 0 x0
theorem top_eq {α : Type} (k : Nat) (Q : Ex → St → Option α) (x0 : List Int × List (List Int × List Int × Unit) × Unit) :
    (den C k) (cB Try.f91) Q (St0 x0) = top (fun (x3 : Int) (c2 : List Int × List (List Int × List Int × Unit) × Unit) => Q .ret (St1 x3 c2)) x0 := by
  have h : ∀ (D L : DT α), denJ D L Js C (cB Try.f91) Q (St0 x0) =
        if (decide ((x0.2.1.length : Int) > 40)) = true then
          Q .ret (St1 9 ([0, 0, 0, 0], [], ()))
        else
          Q .ret (St1 0 x0) := by
    intro D L; kernel_rfl
  refine (show (den C k) (cB Try.f91) Q (St0 x0) = denJ (den C k) (lp C k) Js C (cB Try.f91) Q (St0 x0) from (denJ_den _ _ _ _ _ _).symm).trans ((h (den C k) (lp C k)).trans ?_)
  first | rfl | kernel_rfl
def run (x0 : List Int × List (List Int × List Int × Unit) × Unit) : Option ((List Int × List (List Int × List Int × Unit) × Unit) × Int × Unit) := top (α := (List Int × List (List Int × List Int × Unit) × Unit) × Int × Unit) (fun (x3 : Int) (c2 : List Int × List (List Int × List Int × Unit) × Unit) => some (c2, x3, ())) x0
def F : Fn := ⟨(.pair (.pair (.arr 4 (.int .u64)) (.pair (.sl (.pair (.arr 32 (.int .u8)) (.pair (.arr 4 (.int .u64)) .unit))) .unit)) .unit), (.pair (.pair (.arr 4 (.int .u64)) (.pair (.sl (.pair (.arr 32 (.int .u8)) (.pair (.arr 4 (.int .u64)) .unit))) .unit)) (.pair (.int .i64) .unit)), true, fun x => run x.1⟩
set_option maxRecDepth 100000 in
theorem con : Con Try.prog 91 F := by
  refine con_of_den (C := C) (ctx_ok (by kernel_rfl) (by kernel_rfl) trivial) (by kernel_rfl) Try.func91 (c := cB Try.f91) (by kernel_rfl) (by kernel_rfl) F fuel (fun x => by simp [F, spread, Try.ntmps91]) ?_
  intro x r h
  rw [← h]
  have h1 : start F Try.f91.ntmps x = (St0 x.1) := by kernel_rfl
  rw [h1]
  refine (top_eq fuel (fin C Try.f91.results.toList F.rs F.multi) x.1).trans ?_
  kernel_rfl
theorem named : Named Try.prog 91 := named_of Try.func91 (by kernel_rfl) (by kernel_rfl)
end Go.Bx.coin_ended
namespace Go.Bx.coin_Mint
open Go Go.Proofs Go.Bx
set_option maxRecDepth 100000
set_option linter.unusedVariables false
def Js : List Nat := []
def C : Ctx := ⟨[(24, (.arr 4 (.int .u64))), (25, (.int .i64)), (41, (.pair (.arr 4 (.int .u64)) (.pair (.sl (.pair (.arr 32 (.int .u8)) (.pair (.arr 4 (.int .u64)) .unit))) .unit))), (42, (.arr 32 (.int .u8)))], [], fnL [(71, Go.Bx.wide_Add.F), (86, Go.Bx.coin_Check.F), (87, Go.Bx.coin_of.F), (90, Go.Bx.coin_with.F), (91, Go.Bx.coin_ended.F)], noSh, [], noInv, [(2, [6, 7])], [(2, [.dat false 6 []])], [], 0, 0⟩
def St0 (x0 : List Int × List (List Int × List Int × Unit) × Unit) (x1 : List Int) (x2 : List Int) : St := stL 46 [(0, .data (.pair (.arr 4 (.int .u64)) (.pair (.sl (.pair (.arr 32 (.int .u8)) (.pair (.arr 4 (.int .u64)) .unit))) .unit)) x0), (1, .data (.arr 32 (.int .u8)) x1), (2, .data (.arr 4 (.int .u64)) x2)] []
def St1 (x7 : Int) (c6 : List Int × List (List Int × List Int × Unit) × Unit) : St := stL 46 [(6, .ref 6 0 []), (7, .data (.int .i64) x7)] [(6, .cell (.pair (.arr 4 (.int .u64)) (.pair (.sl (.pair (.arr 32 (.int .u8)) (.pair (.arr 4 (.int .u64)) .unit))) .unit)) (.data (.pair (.arr 4 (.int .u64)) (.pair (.sl (.pair (.arr 32 (.int .u8)) (.pair (.arr 4 (.int .u64)) .unit))) .unit)) c6) false)]
def top {α : Type} (Rt : Int → (List Int × List (List Int × List Int × Unit) × Unit) → Option α) (x0 : List Int × List (List Int × List Int × Unit) × Unit) (x1 : List Int) (x2 : List Int) : Option α :=
  (Go.Bx.coin_Check.run x0).bind fun y1 =>
  if (y1 != 0) = true then
    Rt y1 ([0, 0, 0, 0], [], ())
  else
    (Go.Bx.wide_Add.run x0.1 x2).bind fun y2 =>
    if y2.2.1 = true then
      Rt 13 ([0, 0, 0, 0], [], ())
    else
      (Go.Bx.coin_of.run x0 x1).bind fun y3 =>
      (Go.Bx.wide_Add.run y3 x2).bind fun y4 =>
      (Go.Bx.coin_with.run x0 x1 y4.1).bind fun y5 =>
      (Go.Bx.coin_ended.run (y2.1, y5.2)).bind fun y6 =>
      Rt y6.2.1 y6.1
theorem top_eq {α : Type} (k : Nat) (Q : Ex → St → Option α) (x0 : List Int × List (List Int × List Int × Unit) × Unit) (x1 : List Int) (x2 : List Int) :
    (den C k) (cB Try.f37) Q (St0 x0 x1 x2) = top (fun (x7 : Int) (c6 : List Int × List (List Int × List Int × Unit) × Unit) => Q .ret (St1 x7 c6)) x0 x1 x2 := by
  have h : ∀ (D L : DT α), denJ D L Js C (cB Try.f37) Q (St0 x0 x1 x2) =
        (Go.Bx.coin_Check.run x0).bind fun y1 =>
        if (y1 != 0) = true then
          Q .ret (St1 y1 ([0, 0, 0, 0], [], ()))
        else
          (Go.Bx.wide_Add.run x0.1 x2).bind fun y2 =>
          if y2.2.1 = true then
            Q .ret (St1 13 ([0, 0, 0, 0], [], ()))
          else
            (Go.Bx.coin_of.run x0 x1).bind fun y3 =>
            (Go.Bx.wide_Add.run y3 x2).bind fun y4 =>
            (Go.Bx.coin_with.run x0 x1 y4.1).bind fun y5 =>
            (Go.Bx.coin_ended.run (y2.1, y5.2)).bind fun y6 =>
            Q .ret (St1 y6.2.1 y6.1) := by
    intro D L; kernel_rfl
  refine (show (den C k) (cB Try.f37) Q (St0 x0 x1 x2) = denJ (den C k) (lp C k) Js C (cB Try.f37) Q (St0 x0 x1 x2) from (denJ_den _ _ _ _ _ _).symm).trans ((h (den C k) (lp C k)).trans ?_)
  first | rfl | kernel_rfl
def run (x0 : List Int × List (List Int × List Int × Unit) × Unit) (x1 : List Int) (x2 : List Int) : Option ((List Int × List (List Int × List Int × Unit) × Unit) × Int × Unit) := top (α := (List Int × List (List Int × List Int × Unit) × Unit) × Int × Unit) (fun (x7 : Int) (c6 : List Int × List (List Int × List Int × Unit) × Unit) => some (c6, x7, ())) x0 x1 x2
def F : Fn := ⟨(.pair (.pair (.arr 4 (.int .u64)) (.pair (.sl (.pair (.arr 32 (.int .u8)) (.pair (.arr 4 (.int .u64)) .unit))) .unit)) (.pair (.arr 32 (.int .u8)) (.pair (.arr 4 (.int .u64)) .unit))), (.pair (.pair (.arr 4 (.int .u64)) (.pair (.sl (.pair (.arr 32 (.int .u8)) (.pair (.arr 4 (.int .u64)) .unit))) .unit)) (.pair (.int .i64) .unit)), true, fun x => run x.1 x.2.1 x.2.2.1⟩
set_option maxRecDepth 100000 in
theorem con : Con Try.prog 37 F := by
  refine con_of_den (C := C) (ctx_ok (by kernel_rfl) (by kernel_rfl) ⟨.inl ⟨Go.Bx.wide_Add.con, Go.Bx.wide_Add.named⟩, ⟨.inl ⟨Go.Bx.coin_Check.con, Go.Bx.coin_Check.named⟩, ⟨.inl ⟨Go.Bx.coin_of.con, Go.Bx.coin_of.named⟩, ⟨.inl ⟨Go.Bx.coin_with.con, Go.Bx.coin_with.named⟩, ⟨.inl ⟨Go.Bx.coin_ended.con, Go.Bx.coin_ended.named⟩, trivial⟩⟩⟩⟩⟩) (by kernel_rfl) Try.func37 (c := cB Try.f37) (by kernel_rfl) (by kernel_rfl) F fuel (fun x => by simp [F, spread, Try.ntmps37]) ?_
  intro x r h
  rw [← h]
  have h1 : start F Try.f37.ntmps x = (St0 x.1 x.2.1 x.2.2.1) := by kernel_rfl
  rw [h1]
  refine (top_eq fuel (fin C Try.f37.results.toList F.rs F.multi) x.1 x.2.1 x.2.2.1).trans ?_
  kernel_rfl
theorem named : Named Try.prog 37 := named_of Try.func37 (by kernel_rfl) (by kernel_rfl)
end Go.Bx.coin_Mint
namespace Go.Bx.coin_Burn
open Go Go.Proofs Go.Bx
set_option maxRecDepth 100000
set_option linter.unusedVariables false
def Js : List Nat := []
def C : Ctx := ⟨[(24, (.arr 4 (.int .u64))), (25, (.int .i64)), (41, (.pair (.arr 4 (.int .u64)) (.pair (.sl (.pair (.arr 32 (.int .u8)) (.pair (.arr 4 (.int .u64)) .unit))) .unit))), (42, (.arr 32 (.int .u8)))], [], fnL [(83, Go.Bx.wide_Sub.F), (86, Go.Bx.coin_Check.F), (87, Go.Bx.coin_of.F), (90, Go.Bx.coin_with.F)], noSh, [], noInv, [(2, [6, 7])], [(2, [.dat false 6 []])], [], 0, 0⟩
def St0 (x0 : List Int × List (List Int × List Int × Unit) × Unit) (x1 : List Int) (x2 : List Int) : St := stL 40 [(0, .data (.pair (.arr 4 (.int .u64)) (.pair (.sl (.pair (.arr 32 (.int .u8)) (.pair (.arr 4 (.int .u64)) .unit))) .unit)) x0), (1, .data (.arr 32 (.int .u8)) x1), (2, .data (.arr 4 (.int .u64)) x2)] []
def St1 (x7 : Int) (c6 : List Int × List (List Int × List Int × Unit) × Unit) : St := stL 40 [(6, .ref 6 0 []), (7, .data (.int .i64) x7)] [(6, .cell (.pair (.arr 4 (.int .u64)) (.pair (.sl (.pair (.arr 32 (.int .u8)) (.pair (.arr 4 (.int .u64)) .unit))) .unit)) (.data (.pair (.arr 4 (.int .u64)) (.pair (.sl (.pair (.arr 32 (.int .u8)) (.pair (.arr 4 (.int .u64)) .unit))) .unit)) c6) false)]
def top {α : Type} (Rt : Int → (List Int × List (List Int × List Int × Unit) × Unit) → Option α) (x0 : List Int × List (List Int × List Int × Unit) × Unit) (x1 : List Int) (x2 : List Int) : Option α :=
  (Go.Bx.coin_Check.run x0).bind fun y1 =>
  if (y1 != 0) = true then
    Rt y1 ([0, 0, 0, 0], [], ())
  else
    (Go.Bx.coin_of.run x0 x1).bind fun y2 =>
    (Go.Bx.wide_Sub.run y2 x2).bind fun y3 =>
    if y3.2.1 = true then
      Rt 13 ([0, 0, 0, 0], [], ())
    else
      (Go.Bx.coin_with.run x0 x1 y3.1).bind fun y4 =>
      (Go.Bx.wide_Sub.run y4.1 x2).bind fun y5 =>
      Rt 0 (y5.1, y4.2)
theorem top_eq {α : Type} (k : Nat) (Q : Ex → St → Option α) (x0 : List Int × List (List Int × List Int × Unit) × Unit) (x1 : List Int) (x2 : List Int) :
    (den C k) (cB Try.f40) Q (St0 x0 x1 x2) = top (fun (x7 : Int) (c6 : List Int × List (List Int × List Int × Unit) × Unit) => Q .ret (St1 x7 c6)) x0 x1 x2 := by
  have h : ∀ (D L : DT α), denJ D L Js C (cB Try.f40) Q (St0 x0 x1 x2) =
        (Go.Bx.coin_Check.run x0).bind fun y1 =>
        if (y1 != 0) = true then
          Q .ret (St1 y1 ([0, 0, 0, 0], [], ()))
        else
          (Go.Bx.coin_of.run x0 x1).bind fun y2 =>
          (Go.Bx.wide_Sub.run y2 x2).bind fun y3 =>
          if y3.2.1 = true then
            Q .ret (St1 13 ([0, 0, 0, 0], [], ()))
          else
            (Go.Bx.coin_with.run x0 x1 y3.1).bind fun y4 =>
            (Go.Bx.wide_Sub.run y4.1 x2).bind fun y5 =>
            Q .ret (St1 0 (y5.1, y4.2)) := by
    intro D L; kernel_rfl
  refine (show (den C k) (cB Try.f40) Q (St0 x0 x1 x2) = denJ (den C k) (lp C k) Js C (cB Try.f40) Q (St0 x0 x1 x2) from (denJ_den _ _ _ _ _ _).symm).trans ((h (den C k) (lp C k)).trans ?_)
  first | rfl | kernel_rfl
def run (x0 : List Int × List (List Int × List Int × Unit) × Unit) (x1 : List Int) (x2 : List Int) : Option ((List Int × List (List Int × List Int × Unit) × Unit) × Int × Unit) := top (α := (List Int × List (List Int × List Int × Unit) × Unit) × Int × Unit) (fun (x7 : Int) (c6 : List Int × List (List Int × List Int × Unit) × Unit) => some (c6, x7, ())) x0 x1 x2
def F : Fn := ⟨(.pair (.pair (.arr 4 (.int .u64)) (.pair (.sl (.pair (.arr 32 (.int .u8)) (.pair (.arr 4 (.int .u64)) .unit))) .unit)) (.pair (.arr 32 (.int .u8)) (.pair (.arr 4 (.int .u64)) .unit))), (.pair (.pair (.arr 4 (.int .u64)) (.pair (.sl (.pair (.arr 32 (.int .u8)) (.pair (.arr 4 (.int .u64)) .unit))) .unit)) (.pair (.int .i64) .unit)), true, fun x => run x.1 x.2.1 x.2.2.1⟩
set_option maxRecDepth 100000 in
theorem con : Con Try.prog 40 F := by
  refine con_of_den (C := C) (ctx_ok (by kernel_rfl) (by kernel_rfl) ⟨.inl ⟨Go.Bx.wide_Sub.con, Go.Bx.wide_Sub.named⟩, ⟨.inl ⟨Go.Bx.coin_Check.con, Go.Bx.coin_Check.named⟩, ⟨.inl ⟨Go.Bx.coin_of.con, Go.Bx.coin_of.named⟩, ⟨.inl ⟨Go.Bx.coin_with.con, Go.Bx.coin_with.named⟩, trivial⟩⟩⟩⟩) (by kernel_rfl) Try.func40 (c := cB Try.f40) (by kernel_rfl) (by kernel_rfl) F fuel (fun x => by simp [F, spread, Try.ntmps40]) ?_
  intro x r h
  rw [← h]
  have h1 : start F Try.f40.ntmps x = (St0 x.1 x.2.1 x.2.2.1) := by kernel_rfl
  rw [h1]
  refine (top_eq fuel (fin C Try.f40.results.toList F.rs F.multi) x.1 x.2.1 x.2.2.1).trans ?_
  kernel_rfl
theorem named : Named Try.prog 40 := named_of Try.func40 (by kernel_rfl) (by kernel_rfl)
end Go.Bx.coin_Burn
namespace Go.Bx.basculeref_Minted
open Go Go.Proofs Go.Bx
set_option maxRecDepth 100000
set_option linter.unusedVariables false
def Js : List Nat := []
def C : Ctx := ⟨[(24, (.arr 4 (.int .u64))), (25, (.int .i64)), (39, (.sl (.pair (.arr 32 (.int .u8)) (.pair (.arr 4 (.int .u64)) .unit)))), (41, (.pair (.arr 4 (.int .u64)) (.pair (.sl (.pair (.arr 32 (.int .u8)) (.pair (.arr 4 (.int .u64)) .unit))) .unit))), (42, (.arr 32 (.int .u8)))], [], fnL [(88, Go.Bx.basculeref_CoinFault.F), (89, Go.Bx.basculeref_held.F), (92, Go.Bx.basculeref_Sum.F), (93, Go.Bx.basculeref_set.F)], noSh, [], noInv, [(2, [6, 7])], [(2, [.dat false 6 []])], [], 0, 0⟩
def St0 (x0 : List Int × List (List Int × List Int × Unit) × Unit) (x1 : List Int) (x2 : List Int) : St := stL 49 [(0, .data (.pair (.arr 4 (.int .u64)) (.pair (.sl (.pair (.arr 32 (.int .u8)) (.pair (.arr 4 (.int .u64)) .unit))) .unit)) x0), (1, .data (.arr 32 (.int .u8)) x1), (2, .data (.arr 4 (.int .u64)) x2)] []
def St1 (x7 : Int) (c6 : List Int × List (List Int × List Int × Unit) × Unit) : St := stL 49 [(6, .ref 6 0 []), (7, .data (.int .i64) x7)] [(6, .cell (.pair (.arr 4 (.int .u64)) (.pair (.sl (.pair (.arr 32 (.int .u8)) (.pair (.arr 4 (.int .u64)) .unit))) .unit)) (.data (.pair (.arr 4 (.int .u64)) (.pair (.sl (.pair (.arr 32 (.int .u8)) (.pair (.arr 4 (.int .u64)) .unit))) .unit)) c6) false)]
def top {α : Type} (Rt : Int → (List Int × List (List Int × List Int × Unit) × Unit) → Option α) (x0 : List Int × List (List Int × List Int × Unit) × Unit) (x1 : List Int) (x2 : List Int) : Option α :=
  (Go.Bx.basculeref_CoinFault.run x0).bind fun y1 =>
  if (y1 != 0) = true then
    Rt y1 ([0, 0, 0, 0], [], ())
  else
    (Go.Bx.basculeref_Sum.run x0.1 x2).bind fun y2 =>
    if y2.2.1 = true then
      Rt 13 ([0, 0, 0, 0], [], ())
    else
      (Go.Bx.basculeref_held.run x0 x1).bind fun y3 =>
      (Go.Bx.basculeref_Sum.run y3 x2).bind fun y4 =>
      (Go.Bx.basculeref_set.run x0 x1 y4.1).bind fun y5 =>
      if (decide ((y5.2.1.length : Int) > 40)) = true then
        Rt 9 ([0, 0, 0, 0], [], ())
      else
        Rt 0 (y2.1, y5.2)
theorem top_eq {α : Type} (k : Nat) (Q : Ex → St → Option α) (x0 : List Int × List (List Int × List Int × Unit) × Unit) (x1 : List Int) (x2 : List Int) :
    (den C k) (cB Try.f38) Q (St0 x0 x1 x2) = top (fun (x7 : Int) (c6 : List Int × List (List Int × List Int × Unit) × Unit) => Q .ret (St1 x7 c6)) x0 x1 x2 := by
  have h : ∀ (D L : DT α), denJ D L Js C (cB Try.f38) Q (St0 x0 x1 x2) =
        (Go.Bx.basculeref_CoinFault.run x0).bind fun y1 =>
        if (y1 != 0) = true then
          Q .ret (St1 y1 ([0, 0, 0, 0], [], ()))
        else
          (Go.Bx.basculeref_Sum.run x0.1 x2).bind fun y2 =>
          if y2.2.1 = true then
            Q .ret (St1 13 ([0, 0, 0, 0], [], ()))
          else
            (Go.Bx.basculeref_held.run x0 x1).bind fun y3 =>
            (Go.Bx.basculeref_Sum.run y3 x2).bind fun y4 =>
            (Go.Bx.basculeref_set.run x0 x1 y4.1).bind fun y5 =>
            if (decide ((y5.2.1.length : Int) > 40)) = true then
              Q .ret (St1 9 ([0, 0, 0, 0], [], ()))
            else
              Q .ret (St1 0 (y2.1, y5.2)) := by
    intro D L; kernel_rfl
  refine (show (den C k) (cB Try.f38) Q (St0 x0 x1 x2) = denJ (den C k) (lp C k) Js C (cB Try.f38) Q (St0 x0 x1 x2) from (denJ_den _ _ _ _ _ _).symm).trans ((h (den C k) (lp C k)).trans ?_)
  first | rfl | kernel_rfl
def run (x0 : List Int × List (List Int × List Int × Unit) × Unit) (x1 : List Int) (x2 : List Int) : Option ((List Int × List (List Int × List Int × Unit) × Unit) × Int × Unit) := top (α := (List Int × List (List Int × List Int × Unit) × Unit) × Int × Unit) (fun (x7 : Int) (c6 : List Int × List (List Int × List Int × Unit) × Unit) => some (c6, x7, ())) x0 x1 x2
def F : Fn := ⟨(.pair (.pair (.arr 4 (.int .u64)) (.pair (.sl (.pair (.arr 32 (.int .u8)) (.pair (.arr 4 (.int .u64)) .unit))) .unit)) (.pair (.arr 32 (.int .u8)) (.pair (.arr 4 (.int .u64)) .unit))), (.pair (.pair (.arr 4 (.int .u64)) (.pair (.sl (.pair (.arr 32 (.int .u8)) (.pair (.arr 4 (.int .u64)) .unit))) .unit)) (.pair (.int .i64) .unit)), true, fun x => run x.1 x.2.1 x.2.2.1⟩
set_option maxRecDepth 100000 in
theorem con : Con Try.prog 38 F := by
  refine con_of_den (C := C) (ctx_ok (by kernel_rfl) (by kernel_rfl) ⟨.inl ⟨Go.Bx.basculeref_CoinFault.con, Go.Bx.basculeref_CoinFault.named⟩, ⟨.inl ⟨Go.Bx.basculeref_held.con, Go.Bx.basculeref_held.named⟩, ⟨.inl ⟨Go.Bx.basculeref_Sum.con, Go.Bx.basculeref_Sum.named⟩, ⟨.inl ⟨Go.Bx.basculeref_set.con, Go.Bx.basculeref_set.named⟩, trivial⟩⟩⟩⟩) (by kernel_rfl) Try.func38 (c := cB Try.f38) (by kernel_rfl) (by kernel_rfl) F fuel (fun x => by simp [F, spread, Try.ntmps38]) ?_
  intro x r h
  rw [← h]
  have h1 : start F Try.f38.ntmps x = (St0 x.1 x.2.1 x.2.2.1) := by kernel_rfl
  rw [h1]
  refine (top_eq fuel (fin C Try.f38.results.toList F.rs F.multi) x.1 x.2.1 x.2.2.1).trans ?_
  kernel_rfl
theorem named : Named Try.prog 38 := named_of Try.func38 (by kernel_rfl) (by kernel_rfl)
end Go.Bx.basculeref_Minted
namespace Go.Bx.basculeref_Burnt
open Go Go.Proofs Go.Bx
set_option maxRecDepth 100000
set_option linter.unusedVariables false
def Js : List Nat := []
def C : Ctx := ⟨[(24, (.arr 4 (.int .u64))), (25, (.int .i64)), (41, (.pair (.arr 4 (.int .u64)) (.pair (.sl (.pair (.arr 32 (.int .u8)) (.pair (.arr 4 (.int .u64)) .unit))) .unit))), (42, (.arr 32 (.int .u8)))], [], fnL [(88, Go.Bx.basculeref_CoinFault.F), (89, Go.Bx.basculeref_held.F), (93, Go.Bx.basculeref_set.F), (94, Go.Bx.basculeref_Difference.F)], noSh, [], noInv, [(2, [6, 7])], [(2, [.dat false 6 []])], [], 0, 0⟩
def St0 (x0 : List Int × List (List Int × List Int × Unit) × Unit) (x1 : List Int) (x2 : List Int) : St := stL 41 [(0, .data (.pair (.arr 4 (.int .u64)) (.pair (.sl (.pair (.arr 32 (.int .u8)) (.pair (.arr 4 (.int .u64)) .unit))) .unit)) x0), (1, .data (.arr 32 (.int .u8)) x1), (2, .data (.arr 4 (.int .u64)) x2)] []
def St1 (x7 : Int) (c6 : List Int × List (List Int × List Int × Unit) × Unit) : St := stL 41 [(6, .ref 6 0 []), (7, .data (.int .i64) x7)] [(6, .cell (.pair (.arr 4 (.int .u64)) (.pair (.sl (.pair (.arr 32 (.int .u8)) (.pair (.arr 4 (.int .u64)) .unit))) .unit)) (.data (.pair (.arr 4 (.int .u64)) (.pair (.sl (.pair (.arr 32 (.int .u8)) (.pair (.arr 4 (.int .u64)) .unit))) .unit)) c6) false)]
def top {α : Type} (Rt : Int → (List Int × List (List Int × List Int × Unit) × Unit) → Option α) (x0 : List Int × List (List Int × List Int × Unit) × Unit) (x1 : List Int) (x2 : List Int) : Option α :=
  (Go.Bx.basculeref_CoinFault.run x0).bind fun y1 =>
  if (y1 != 0) = true then
    Rt y1 ([0, 0, 0, 0], [], ())
  else
    (Go.Bx.basculeref_held.run x0 x1).bind fun y2 =>
    (Go.Bx.basculeref_Difference.run y2 x2).bind fun y3 =>
    if y3.2.1 = true then
      Rt 13 ([0, 0, 0, 0], [], ())
    else
      (Go.Bx.basculeref_set.run x0 x1 y3.1).bind fun y4 =>
      (Go.Bx.basculeref_Difference.run x0.1 x2).bind fun y5 =>
      Rt 0 (y5.1, y4.2)
theorem top_eq {α : Type} (k : Nat) (Q : Ex → St → Option α) (x0 : List Int × List (List Int × List Int × Unit) × Unit) (x1 : List Int) (x2 : List Int) :
    (den C k) (cB Try.f41) Q (St0 x0 x1 x2) = top (fun (x7 : Int) (c6 : List Int × List (List Int × List Int × Unit) × Unit) => Q .ret (St1 x7 c6)) x0 x1 x2 := by
  have h : ∀ (D L : DT α), denJ D L Js C (cB Try.f41) Q (St0 x0 x1 x2) =
        (Go.Bx.basculeref_CoinFault.run x0).bind fun y1 =>
        if (y1 != 0) = true then
          Q .ret (St1 y1 ([0, 0, 0, 0], [], ()))
        else
          (Go.Bx.basculeref_held.run x0 x1).bind fun y2 =>
          (Go.Bx.basculeref_Difference.run y2 x2).bind fun y3 =>
          if y3.2.1 = true then
            Q .ret (St1 13 ([0, 0, 0, 0], [], ()))
          else
            (Go.Bx.basculeref_set.run x0 x1 y3.1).bind fun y4 =>
            (Go.Bx.basculeref_Difference.run x0.1 x2).bind fun y5 =>
            Q .ret (St1 0 (y5.1, y4.2)) := by
    intro D L; kernel_rfl
  refine (show (den C k) (cB Try.f41) Q (St0 x0 x1 x2) = denJ (den C k) (lp C k) Js C (cB Try.f41) Q (St0 x0 x1 x2) from (denJ_den _ _ _ _ _ _).symm).trans ((h (den C k) (lp C k)).trans ?_)
  first | rfl | kernel_rfl
def run (x0 : List Int × List (List Int × List Int × Unit) × Unit) (x1 : List Int) (x2 : List Int) : Option ((List Int × List (List Int × List Int × Unit) × Unit) × Int × Unit) := top (α := (List Int × List (List Int × List Int × Unit) × Unit) × Int × Unit) (fun (x7 : Int) (c6 : List Int × List (List Int × List Int × Unit) × Unit) => some (c6, x7, ())) x0 x1 x2
def F : Fn := ⟨(.pair (.pair (.arr 4 (.int .u64)) (.pair (.sl (.pair (.arr 32 (.int .u8)) (.pair (.arr 4 (.int .u64)) .unit))) .unit)) (.pair (.arr 32 (.int .u8)) (.pair (.arr 4 (.int .u64)) .unit))), (.pair (.pair (.arr 4 (.int .u64)) (.pair (.sl (.pair (.arr 32 (.int .u8)) (.pair (.arr 4 (.int .u64)) .unit))) .unit)) (.pair (.int .i64) .unit)), true, fun x => run x.1 x.2.1 x.2.2.1⟩
set_option maxRecDepth 100000 in
theorem con : Con Try.prog 41 F := by
  refine con_of_den (C := C) (ctx_ok (by kernel_rfl) (by kernel_rfl) ⟨.inl ⟨Go.Bx.basculeref_CoinFault.con, Go.Bx.basculeref_CoinFault.named⟩, ⟨.inl ⟨Go.Bx.basculeref_held.con, Go.Bx.basculeref_held.named⟩, ⟨.inl ⟨Go.Bx.basculeref_set.con, Go.Bx.basculeref_set.named⟩, ⟨.inl ⟨Go.Bx.basculeref_Difference.con, Go.Bx.basculeref_Difference.named⟩, trivial⟩⟩⟩⟩) (by kernel_rfl) Try.func41 (c := cB Try.f41) (by kernel_rfl) (by kernel_rfl) F fuel (fun x => by simp [F, spread, Try.ntmps41]) ?_
  intro x r h
  rw [← h]
  have h1 : start F Try.f41.ntmps x = (St0 x.1 x.2.1 x.2.2.1) := by kernel_rfl
  rw [h1]
  refine (top_eq fuel (fin C Try.f41.results.toList F.rs F.multi) x.1 x.2.1 x.2.2.1).trans ?_
  kernel_rfl
theorem named : Named Try.prog 41 := named_of Try.func41 (by kernel_rfl) (by kernel_rfl)
end Go.Bx.basculeref_Burnt
namespace Go.Bx.basculelaw_sameCoin
open Go Go.Proofs Go.Bx
set_option maxRecDepth 100000
set_option linter.unusedVariables false
def Js : List Nat := [10]
def C : Ctx := ⟨[(4, .bool), (24, (.arr 4 (.int .u64))), (39, (.sl (.pair (.arr 32 (.int .u8)) (.pair (.arr 4 (.int .u64)) .unit)))), (41, (.pair (.arr 4 (.int .u64)) (.pair (.sl (.pair (.arr 32 (.int .u8)) (.pair (.arr 4 (.int .u64)) .unit))) .unit))), (117, (.pair (.arr 32 (.int .u8)) (.pair (.arr 4 (.int .u64)) .unit)))], [], fnL [], noSh, [], noInv, [(2, [4]), (1, []), (4, [2, 3, 22, 23]), (12, [2, 3, 22, 23]), (27, [])], [], [], 0, 0⟩
def St0 (x0 : List Int × List (List Int × List Int × Unit) × Unit) (x1 : List Int × List (List Int × List Int × Unit) × Unit) : St := stL 38 [(0, .data (.pair (.arr 4 (.int .u64)) (.pair (.sl (.pair (.arr 32 (.int .u8)) (.pair (.arr 4 (.int .u64)) .unit))) .unit)) x0), (1, .data (.pair (.arr 4 (.int .u64)) (.pair (.sl (.pair (.arr 32 (.int .u8)) (.pair (.arr 4 (.int .u64)) .unit))) .unit)) x1)] []
def St1 (x4 : Bool) : St := stL 38 [(4, .data .bool x4)] []
def St2 (x22 : Int) (x23 : Int) (c2 : List Int × List (List Int × List Int × Unit) × Unit) (c3 : List Int × List (List Int × List Int × Unit) × Unit) : St := stL 38 [(2, .ref 2 0 []), (3, .ref 3 0 []), (22, .data (.int .i64) x22), (23, .data (.int .i64) x23)] [(2, .cell (.pair (.arr 4 (.int .u64)) (.pair (.sl (.pair (.arr 32 (.int .u8)) (.pair (.arr 4 (.int .u64)) .unit))) .unit)) (.data (.pair (.arr 4 (.int .u64)) (.pair (.sl (.pair (.arr 32 (.int .u8)) (.pair (.arr 4 (.int .u64)) .unit))) .unit)) c2) false), (3, .cell (.pair (.arr 4 (.int .u64)) (.pair (.sl (.pair (.arr 32 (.int .u8)) (.pair (.arr 4 (.int .u64)) .unit))) .unit)) (.data (.pair (.arr 4 (.int .u64)) (.pair (.sl (.pair (.arr 32 (.int .u8)) (.pair (.arr 4 (.int .u64)) .unit))) .unit)) c3) false)]
noncomputable def cd0 : Code := cL (cL (cR (cL (cR (cR (cB Try.f39))))))
def St3 : St := stL 38 [] []
def l0s {α : Type} (Nx : Int → Int → (List Int × List (List Int × List Int × Unit) × Unit) → (List Int × List (List Int × List Int × Unit) × Unit) → Option α) (Rt : Bool → Option α) (Xt0 : Option α) (x22 : Int) (x23 : Int) (c2 : List Int × List (List Int × List Int × Unit) × Unit) (c3 : List Int × List (List Int × List Int × Unit) × Unit) : Option α :=
  if (decide (x23 < x22)) = true then
    if 0 ≤ x23 ∧ x23 < (c2.2.1.length : Int) then
      if 0 ≤ x23 ∧ x23 < (c3.2.1.length : Int) then
        if (not (beqD (.pair (.arr 32 (.int .u8)) (.pair (.arr 4 (.int .u64)) .unit)) (List.getD c2.2.1 (Int.toNat x23) ((List.replicate 32 0), [0, 0, 0, 0], ())) (List.getD c3.2.1 (Int.toNat x23) ((List.replicate 32 0), [0, 0, 0, 0], ())))) = true then
          Rt false
        else
          Nx x22 (IntKind.i64.wrap (x23 + 1)) c2 c3
      else none
    else none
  else
    Xt0
theorem l0s_eq {α : Type} (k : Nat) (next : St → Option α) (Q : Ex → St → Option α) (x22 : Int) (x23 : Int) (c2 : List Int × List (List Int × List Int × Unit) × Unit) (c3 : List Int × List (List Int × List Int × Unit) × Unit) :
    rnd C k cd0 12 Q next (St2 x22 x23 c2 c3) = l0s (fun (x22 : Int) (x23 : Int) (c2 : List Int × List (List Int × List Int × Unit) × Unit) (c3 : List Int × List (List Int × List Int × Unit) × Unit) => next (St2 x22 x23 c2 c3)) (fun (x4 : Bool) => Q .ret (St1 x4)) (Q (.exit 0) St3) x22 x23 c2 c3 := by
  have h : ∀ (D L : DT α), denJ D L Js C cd0 (lq C 12 next Q) (St2 x22 x23 c2 c3) =
        if (decide (x23 < x22)) = true then
          if 0 ≤ x23 ∧ x23 < (c2.2.1.length : Int) then
            if 0 ≤ x23 ∧ x23 < (c3.2.1.length : Int) then
              if (not (beqD (.pair (.arr 32 (.int .u8)) (.pair (.arr 4 (.int .u64)) .unit)) (List.getD c2.2.1 (Int.toNat x23) ((List.replicate 32 0), [0, 0, 0, 0], ())) (List.getD c3.2.1 (Int.toNat x23) ((List.replicate 32 0), [0, 0, 0, 0], ())))) = true then
                Q .ret (St1 false)
              else
                next (St2 x22 (IntKind.i64.wrap (x23 + 1)) c2 c3)
            else none
          else none
        else
          Q (.exit 0) St3 := by
    intro D L; kernel_rfl
  refine (show rnd C k cd0 12 Q next (St2 x22 x23 c2 c3) = denJ (den C k) (lp C k) Js C cd0 (lq C 12 next Q) (St2 x22 x23 c2 c3) from (denJ_den _ _ _ _ _ _).symm).trans ((h (den C k) (lp C k)).trans ?_)
  first | rfl | kernel_rfl
def l0 {α : Type} (k : Nat) (Rt : Bool → Option α) (Xt0 : Option α) : Nat → Int → Int → (List Int × List (List Int × List Int × Unit) × Unit) → (List Int × List (List Int × List Int × Unit) × Unit) → Option α
  | 0, _, _, _, _ => none
  | n + 1, x22, x23, c2, c3 => l0s (l0 k Rt Xt0 n) Rt Xt0 x22 x23 c2 c3
theorem l0_eq {α : Type} (k : Nat) (Q : Ex → St → Option α) : ∀ (n : Nat) (x22 : Int) (x23 : Int) (c2 : List Int × List (List Int × List Int × Unit) × Unit) (c3 : List Int × List (List Int × List Int × Unit) × Unit), iter (rnd C k cd0 12 Q) n (St2 x22 x23 c2 c3) = l0 k (fun (x4 : Bool) => Q .ret (St1 x4)) (Q (.exit 0) St3) n x22 x23 c2 c3
  | 0, _, _, _, _ => rfl
  | n + 1, x22, x23, c2, c3 => (iter_succ _ _ _).trans ((l0s_eq k (iter (rnd C k cd0 12 Q) n) Q x22 x23 c2 c3).trans (congrArg (fun N => l0s N (fun (x4 : Bool) => Q .ret (St1 x4)) (Q (.exit 0) St3) x22 x23 c2 c3) (funext fun x22 => funext fun x23 => funext fun c2 => funext fun c3 => l0_eq k Q n x22 x23 c2 c3)))
theorem l0_congr {α : Type} (k : Nat) (Rt : Bool → Option α) (Xt0 : Option α) (Rtq : Bool → Option α) (Xt0q : Option α) (hRt : ∀ (x4 : Bool), Rt x4 = Rtq x4) (hXt0 : Xt0 = Xt0q) (n : Nat) (x22 : Int) (x23 : Int) (c2 : List Int × List (List Int × List Int × Unit) × Unit) (c3 : List Int × List (List Int × List Int × Unit) × Unit) : l0 k Rt Xt0 n x22 x23 c2 c3 = l0 k Rtq Xt0q n x22 x23 c2 c3 := by
  obtain rfl : Rt = Rtq := by funext x4; exact hRt x4
  obtain rfl : Xt0 = Xt0q := hXt0
  rfl
noncomputable def cd1 : Code := cR (cR (cR (cB Try.f39)))
def St4 : St := stL 38 [] []
def j0 {α : Type} (Rt : Bool → Option α) : Option α :=
  Rt true
theorem j0_eq {α : Type} (k : Nat) (Q : Ex → St → Option α) :
    (den C k) cd1 Q St4 = j0 (fun (x4 : Bool) => Q .ret (St1 x4)) := by
  have h : ∀ (D L : DT α), denJ D L Js C cd1 Q St4 =
        Q .ret (St1 true) := by
    intro D L; kernel_rfl
  refine (show (den C k) cd1 Q St4 = denJ (den C k) (lp C k) Js C cd1 Q St4 from (denJ_den _ _ _ _ _ _).symm).trans ((h (den C k) (lp C k)).trans ?_)
  first | rfl | kernel_rfl
theorem a0 {α : Type} (k : Nat) (Q : Ex → St → Option α) (x22 : Int) (x23 : Int) (c2 : List Int × List (List Int × List Int × Unit) × Unit) (c3 : List Int × List (List Int × List Int × Unit) × Unit) :
    (lp C k) cd0 (blkQ C 0 (sq (den C k) (lp C k) Js C cd1 Q)) (St2 x22 x23 c2 c3) = l0 k (fun (x4 : Bool) => (fun (x4 : Bool) => Q .ret (St1 x4)) x4) (j0 (fun (x4 : Bool) => Q .ret (St1 x4))) k x22 x23 c2 c3 :=
  (show (lp C k) cd0 (blkQ C 0 (sq (den C k) (lp C k) Js C cd1 Q)) (St2 x22 x23 c2 c3) = iter (rnd C k cd0 12 (blkQ C 0 (sq (den C k) (lp C k) Js C cd1 Q))) k (St2 x22 x23 c2 c3) by kernel_rfl).trans ((l0_eq k (blkQ C 0 (sq (den C k) (lp C k) Js C cd1 Q)) k x22 x23 c2 c3).trans (l0_congr k _ _ _ _ (fun x4 => (show (blkQ C 0 (sq (den C k) (lp C k) Js C cd1 Q)) .ret (St1 x4) = Q .ret (St1 x4) by kernel_rfl)) ((show (blkQ C 0 (sq (den C k) (lp C k) Js C cd1 Q)) (.exit 0) St3 = (den C k) cd1 Q St4 by kernel_rfl).trans (by simp only [j0_eq])) k x22 x23 c2 c3))
def top {α : Type} (k : Nat) (Rt : Bool → Option α) (x0 : List Int × List (List Int × List Int × Unit) × Unit) (x1 : List Int × List (List Int × List Int × Unit) × Unit) : Option α :=
  if (cond (not (beqD (.arr 4 (.int .u64)) x0.1 x1.1)) true ((x0.2.1.length : Int) != (x1.2.1.length : Int))) = true then
    Rt false
  else
    l0 k (fun (x4 : Bool) => Rt x4) (j0 Rt) k (x0.2.1.length : Int) 0 x0 x1
theorem top_eq {α : Type} (k : Nat) (Q : Ex → St → Option α) (x0 : List Int × List (List Int × List Int × Unit) × Unit) (x1 : List Int × List (List Int × List Int × Unit) × Unit) :
    (den C k) (cB Try.f39) Q (St0 x0 x1) = top k (fun (x4 : Bool) => Q .ret (St1 x4)) x0 x1 := by
  have h : ∀ (D L : DT α), denJ D L Js C (cB Try.f39) Q (St0 x0 x1) =
        if (cond (not (beqD (.arr 4 (.int .u64)) x0.1 x1.1)) true ((x0.2.1.length : Int) != (x1.2.1.length : Int))) = true then
          Q .ret (St1 false)
        else
          L cd0 (blkQ C 0 (sq D L Js C cd1 Q)) (St2 (x0.2.1.length : Int) 0 x0 x1) := by
    intro D L; kernel_rfl
  refine (show (den C k) (cB Try.f39) Q (St0 x0 x1) = denJ (den C k) (lp C k) Js C (cB Try.f39) Q (St0 x0 x1) from (denJ_den _ _ _ _ _ _).symm).trans ((h (den C k) (lp C k)).trans ?_)
  simp only [a0]
  first | rfl | kernel_rfl
def run (x0 : List Int × List (List Int × List Int × Unit) × Unit) (x1 : List Int × List (List Int × List Int × Unit) × Unit) : Option (Bool) := top (α := Bool) fuel (fun (x4 : Bool) => some x4) x0 x1
def F : Fn := ⟨(.pair (.pair (.arr 4 (.int .u64)) (.pair (.sl (.pair (.arr 32 (.int .u8)) (.pair (.arr 4 (.int .u64)) .unit))) .unit)) (.pair (.pair (.arr 4 (.int .u64)) (.pair (.sl (.pair (.arr 32 (.int .u8)) (.pair (.arr 4 (.int .u64)) .unit))) .unit)) .unit)), .bool, false, fun x => run x.1 x.2.1⟩
set_option maxRecDepth 100000 in
theorem con : Con Try.prog 39 F := by
  refine con_of_den (C := C) (ctx_ok (by kernel_rfl) (by kernel_rfl) trivial) (by kernel_rfl) Try.func39 (c := cB Try.f39) (by kernel_rfl) (by kernel_rfl) F fuel (fun x => by simp [F, spread, Try.ntmps39]) ?_
  intro x r h
  rw [← h]
  have h1 : start F Try.f39.ntmps x = (St0 x.1 x.2.1) := by kernel_rfl
  rw [h1]
  refine (top_eq fuel (fin C Try.f39.results.toList F.rs F.multi) x.1 x.2.1).trans ?_
  kernel_rfl
theorem named : Named Try.prog 39 := named_of Try.func39 (by kernel_rfl) (by kernel_rfl)
end Go.Bx.basculelaw_sameCoin
namespace Go.Bx.coin_Move
open Go Go.Proofs Go.Bx
set_option maxRecDepth 100000
set_option linter.unusedVariables false
def Js : List Nat := []
def C : Ctx := ⟨[(24, (.arr 4 (.int .u64))), (25, (.int .i64)), (41, (.pair (.arr 4 (.int .u64)) (.pair (.sl (.pair (.arr 32 (.int .u8)) (.pair (.arr 4 (.int .u64)) .unit))) .unit))), (42, (.arr 32 (.int .u8)))], [], fnL [(37, Go.Bx.coin_Mint.F), (40, Go.Bx.coin_Burn.F)], noSh, [], noInv, [(2, [8, 9])], [(2, [.dat false 8 []])], [], 0, 0⟩
def St0 (x0 : List Int × List (List Int × List Int × Unit) × Unit) (x1 : List Int) (x2 : List Int) (x3 : List Int) : St := stL 29 [(0, .data (.pair (.arr 4 (.int .u64)) (.pair (.sl (.pair (.arr 32 (.int .u8)) (.pair (.arr 4 (.int .u64)) .unit))) .unit)) x0), (1, .data (.arr 32 (.int .u8)) x1), (2, .data (.arr 32 (.int .u8)) x2), (3, .data (.arr 4 (.int .u64)) x3)] []
def St1 (x9 : Int) (c8 : List Int × List (List Int × List Int × Unit) × Unit) : St := stL 29 [(8, .ref 8 0 []), (9, .data (.int .i64) x9)] [(8, .cell (.pair (.arr 4 (.int .u64)) (.pair (.sl (.pair (.arr 32 (.int .u8)) (.pair (.arr 4 (.int .u64)) .unit))) .unit)) (.data (.pair (.arr 4 (.int .u64)) (.pair (.sl (.pair (.arr 32 (.int .u8)) (.pair (.arr 4 (.int .u64)) .unit))) .unit)) c8) false)]
def top {α : Type} (Rt : Int → (List Int × List (List Int × List Int × Unit) × Unit) → Option α) (x0 : List Int × List (List Int × List Int × Unit) × Unit) (x1 : List Int) (x2 : List Int) (x3 : List Int) : Option α :=
  (Go.Bx.coin_Burn.run x0 x1 x3).bind fun y1 =>
  if (y1.2.1 != 0) = true then
    Rt y1.2.1 ([0, 0, 0, 0], [], ())
  else
    (Go.Bx.coin_Mint.run y1.1 x2 x3).bind fun y2 =>
    Rt y2.2.1 y2.1
theorem top_eq {α : Type} (k : Nat) (Q : Ex → St → Option α) (x0 : List Int × List (List Int × List Int × Unit) × Unit) (x1 : List Int) (x2 : List Int) (x3 : List Int) :
    (den C k) (cB Try.f42) Q (St0 x0 x1 x2 x3) = top (fun (x9 : Int) (c8 : List Int × List (List Int × List Int × Unit) × Unit) => Q .ret (St1 x9 c8)) x0 x1 x2 x3 := by
  have h : ∀ (D L : DT α), denJ D L Js C (cB Try.f42) Q (St0 x0 x1 x2 x3) =
        (Go.Bx.coin_Burn.run x0 x1 x3).bind fun y1 =>
        if (y1.2.1 != 0) = true then
          Q .ret (St1 y1.2.1 ([0, 0, 0, 0], [], ()))
        else
          (Go.Bx.coin_Mint.run y1.1 x2 x3).bind fun y2 =>
          Q .ret (St1 y2.2.1 y2.1) := by
    intro D L; kernel_rfl
  refine (show (den C k) (cB Try.f42) Q (St0 x0 x1 x2 x3) = denJ (den C k) (lp C k) Js C (cB Try.f42) Q (St0 x0 x1 x2 x3) from (denJ_den _ _ _ _ _ _).symm).trans ((h (den C k) (lp C k)).trans ?_)
  first | rfl | kernel_rfl
def run (x0 : List Int × List (List Int × List Int × Unit) × Unit) (x1 : List Int) (x2 : List Int) (x3 : List Int) : Option ((List Int × List (List Int × List Int × Unit) × Unit) × Int × Unit) := top (α := (List Int × List (List Int × List Int × Unit) × Unit) × Int × Unit) (fun (x9 : Int) (c8 : List Int × List (List Int × List Int × Unit) × Unit) => some (c8, x9, ())) x0 x1 x2 x3
def F : Fn := ⟨(.pair (.pair (.arr 4 (.int .u64)) (.pair (.sl (.pair (.arr 32 (.int .u8)) (.pair (.arr 4 (.int .u64)) .unit))) .unit)) (.pair (.arr 32 (.int .u8)) (.pair (.arr 32 (.int .u8)) (.pair (.arr 4 (.int .u64)) .unit)))), (.pair (.pair (.arr 4 (.int .u64)) (.pair (.sl (.pair (.arr 32 (.int .u8)) (.pair (.arr 4 (.int .u64)) .unit))) .unit)) (.pair (.int .i64) .unit)), true, fun x => run x.1 x.2.1 x.2.2.1 x.2.2.2.1⟩
set_option maxRecDepth 100000 in
theorem con : Con Try.prog 42 F := by
  refine con_of_den (C := C) (ctx_ok (by kernel_rfl) (by kernel_rfl) ⟨.inl ⟨Go.Bx.coin_Mint.con, Go.Bx.coin_Mint.named⟩, ⟨.inl ⟨Go.Bx.coin_Burn.con, Go.Bx.coin_Burn.named⟩, trivial⟩⟩) (by kernel_rfl) Try.func42 (c := cB Try.f42) (by kernel_rfl) (by kernel_rfl) F fuel (fun x => by simp [F, spread, Try.ntmps42]) ?_
  intro x r h
  rw [← h]
  have h1 : start F Try.f42.ntmps x = (St0 x.1 x.2.1 x.2.2.1 x.2.2.2.1) := by kernel_rfl
  rw [h1]
  refine (top_eq fuel (fin C Try.f42.results.toList F.rs F.multi) x.1 x.2.1 x.2.2.1 x.2.2.2.1).trans ?_
  kernel_rfl
theorem named : Named Try.prog 42 := named_of Try.func42 (by kernel_rfl) (by kernel_rfl)
end Go.Bx.coin_Move
namespace Go.Bx.basculeref_Moved
open Go Go.Proofs Go.Bx
set_option maxRecDepth 100000
set_option linter.unusedVariables false
def Js : List Nat := []
def C : Ctx := ⟨[(24, (.arr 4 (.int .u64))), (25, (.int .i64)), (41, (.pair (.arr 4 (.int .u64)) (.pair (.sl (.pair (.arr 32 (.int .u8)) (.pair (.arr 4 (.int .u64)) .unit))) .unit))), (42, (.arr 32 (.int .u8)))], [], fnL [(38, Go.Bx.basculeref_Minted.F), (41, Go.Bx.basculeref_Burnt.F)], noSh, [], noInv, [(2, [8, 9])], [(2, [.dat false 8 []])], [], 0, 0⟩
def St0 (x0 : List Int × List (List Int × List Int × Unit) × Unit) (x1 : List Int) (x2 : List Int) (x3 : List Int) : St := stL 29 [(0, .data (.pair (.arr 4 (.int .u64)) (.pair (.sl (.pair (.arr 32 (.int .u8)) (.pair (.arr 4 (.int .u64)) .unit))) .unit)) x0), (1, .data (.arr 32 (.int .u8)) x1), (2, .data (.arr 32 (.int .u8)) x2), (3, .data (.arr 4 (.int .u64)) x3)] []
def St1 (x9 : Int) (c8 : List Int × List (List Int × List Int × Unit) × Unit) : St := stL 29 [(8, .ref 8 0 []), (9, .data (.int .i64) x9)] [(8, .cell (.pair (.arr 4 (.int .u64)) (.pair (.sl (.pair (.arr 32 (.int .u8)) (.pair (.arr 4 (.int .u64)) .unit))) .unit)) (.data (.pair (.arr 4 (.int .u64)) (.pair (.sl (.pair (.arr 32 (.int .u8)) (.pair (.arr 4 (.int .u64)) .unit))) .unit)) c8) false)]
def top {α : Type} (Rt : Int → (List Int × List (List Int × List Int × Unit) × Unit) → Option α) (x0 : List Int × List (List Int × List Int × Unit) × Unit) (x1 : List Int) (x2 : List Int) (x3 : List Int) : Option α :=
  (Go.Bx.basculeref_Burnt.run x0 x1 x3).bind fun y1 =>
  if (y1.2.1 != 0) = true then
    Rt y1.2.1 ([0, 0, 0, 0], [], ())
  else
    (Go.Bx.basculeref_Minted.run y1.1 x2 x3).bind fun y2 =>
    Rt y2.2.1 y2.1
theorem top_eq {α : Type} (k : Nat) (Q : Ex → St → Option α) (x0 : List Int × List (List Int × List Int × Unit) × Unit) (x1 : List Int) (x2 : List Int) (x3 : List Int) :
    (den C k) (cB Try.f43) Q (St0 x0 x1 x2 x3) = top (fun (x9 : Int) (c8 : List Int × List (List Int × List Int × Unit) × Unit) => Q .ret (St1 x9 c8)) x0 x1 x2 x3 := by
  have h : ∀ (D L : DT α), denJ D L Js C (cB Try.f43) Q (St0 x0 x1 x2 x3) =
        (Go.Bx.basculeref_Burnt.run x0 x1 x3).bind fun y1 =>
        if (y1.2.1 != 0) = true then
          Q .ret (St1 y1.2.1 ([0, 0, 0, 0], [], ()))
        else
          (Go.Bx.basculeref_Minted.run y1.1 x2 x3).bind fun y2 =>
          Q .ret (St1 y2.2.1 y2.1) := by
    intro D L; kernel_rfl
  refine (show (den C k) (cB Try.f43) Q (St0 x0 x1 x2 x3) = denJ (den C k) (lp C k) Js C (cB Try.f43) Q (St0 x0 x1 x2 x3) from (denJ_den _ _ _ _ _ _).symm).trans ((h (den C k) (lp C k)).trans ?_)
  first | rfl | kernel_rfl
def run (x0 : List Int × List (List Int × List Int × Unit) × Unit) (x1 : List Int) (x2 : List Int) (x3 : List Int) : Option ((List Int × List (List Int × List Int × Unit) × Unit) × Int × Unit) := top (α := (List Int × List (List Int × List Int × Unit) × Unit) × Int × Unit) (fun (x9 : Int) (c8 : List Int × List (List Int × List Int × Unit) × Unit) => some (c8, x9, ())) x0 x1 x2 x3
def F : Fn := ⟨(.pair (.pair (.arr 4 (.int .u64)) (.pair (.sl (.pair (.arr 32 (.int .u8)) (.pair (.arr 4 (.int .u64)) .unit))) .unit)) (.pair (.arr 32 (.int .u8)) (.pair (.arr 32 (.int .u8)) (.pair (.arr 4 (.int .u64)) .unit)))), (.pair (.pair (.arr 4 (.int .u64)) (.pair (.sl (.pair (.arr 32 (.int .u8)) (.pair (.arr 4 (.int .u64)) .unit))) .unit)) (.pair (.int .i64) .unit)), true, fun x => run x.1 x.2.1 x.2.2.1 x.2.2.2.1⟩
set_option maxRecDepth 100000 in
theorem con : Con Try.prog 43 F := by
  refine con_of_den (C := C) (ctx_ok (by kernel_rfl) (by kernel_rfl) ⟨.inl ⟨Go.Bx.basculeref_Minted.con, Go.Bx.basculeref_Minted.named⟩, ⟨.inl ⟨Go.Bx.basculeref_Burnt.con, Go.Bx.basculeref_Burnt.named⟩, trivial⟩⟩) (by kernel_rfl) Try.func43 (c := cB Try.f43) (by kernel_rfl) (by kernel_rfl) F fuel (fun x => by simp [F, spread, Try.ntmps43]) ?_
  intro x r h
  rw [← h]
  have h1 : start F Try.f43.ntmps x = (St0 x.1 x.2.1 x.2.2.1 x.2.2.2.1) := by kernel_rfl
  rw [h1]
  refine (top_eq fuel (fin C Try.f43.results.toList F.rs F.multi) x.1 x.2.1 x.2.2.1 x.2.2.2.1).trans ?_
  kernel_rfl
theorem named : Named Try.prog 43 := named_of Try.func43 (by kernel_rfl) (by kernel_rfl)
end Go.Bx.basculeref_Moved
namespace Go.Bx.basculelaw_CoinMoves
open Go Go.Proofs Go.Bx
set_option maxRecDepth 100000
set_option linter.unusedVariables false
def Js : List Nat := []
def C : Ctx := ⟨[(4, .bool), (24, (.arr 4 (.int .u64))), (41, (.pair (.arr 4 (.int .u64)) (.pair (.sl (.pair (.arr 32 (.int .u8)) (.pair (.arr 4 (.int .u64)) .unit))) .unit))), (42, (.arr 32 (.int .u8)))], [], fnL [(39, Go.Bx.basculelaw_sameCoin.F), (42, Go.Bx.coin_Move.F), (43, Go.Bx.basculeref_Moved.F)], noSh, [], noInv, [(2, [8])], [], [], 0, 0⟩
def St0 (x0 : List Int × List (List Int × List Int × Unit) × Unit) (x1 : List Int) (x2 : List Int) (x3 : List Int) : St := stL 37 [(0, .data (.pair (.arr 4 (.int .u64)) (.pair (.sl (.pair (.arr 32 (.int .u8)) (.pair (.arr 4 (.int .u64)) .unit))) .unit)) x0), (1, .data (.arr 32 (.int .u8)) x1), (2, .data (.arr 32 (.int .u8)) x2), (3, .data (.arr 4 (.int .u64)) x3)] []
def St1 (x8 : Bool) : St := stL 37 [(8, .data .bool x8)] []
def top {α : Type} (Rt : Bool → Option α) (x0 : List Int × List (List Int × List Int × Unit) × Unit) (x1 : List Int) (x2 : List Int) (x3 : List Int) : Option α :=
  (Go.Bx.coin_Move.run x0 x1 x2 x3).bind fun y1 =>
  (Go.Bx.basculeref_Moved.run x0 x1 x2 x3).bind fun y2 =>
  (Go.Bx.basculelaw_sameCoin.run y1.1 y2.1).bind fun y3 =>
  Rt (cond y3 (y1.2.1 == y2.2.1) false)
theorem top_eq {α : Type} (k : Nat) (Q : Ex → St → Option α) (x0 : List Int × List (List Int × List Int × Unit) × Unit) (x1 : List Int) (x2 : List Int) (x3 : List Int) :
    (den C k) (cB Try.f12) Q (St0 x0 x1 x2 x3) = top (fun (x8 : Bool) => Q .ret (St1 x8)) x0 x1 x2 x3 := by
  have h : ∀ (D L : DT α), denJ D L Js C (cB Try.f12) Q (St0 x0 x1 x2 x3) =
        (Go.Bx.coin_Move.run x0 x1 x2 x3).bind fun y1 =>
        (Go.Bx.basculeref_Moved.run x0 x1 x2 x3).bind fun y2 =>
        (Go.Bx.basculelaw_sameCoin.run y1.1 y2.1).bind fun y3 =>
        Q .ret (St1 (cond y3 (y1.2.1 == y2.2.1) false)) := by
    intro D L; kernel_rfl
  refine (show (den C k) (cB Try.f12) Q (St0 x0 x1 x2 x3) = denJ (den C k) (lp C k) Js C (cB Try.f12) Q (St0 x0 x1 x2 x3) from (denJ_den _ _ _ _ _ _).symm).trans ((h (den C k) (lp C k)).trans ?_)
  first | rfl | kernel_rfl
def run (x0 : List Int × List (List Int × List Int × Unit) × Unit) (x1 : List Int) (x2 : List Int) (x3 : List Int) : Option (Bool) := top (α := Bool) (fun (x8 : Bool) => some x8) x0 x1 x2 x3
def F : Fn := ⟨(.pair (.pair (.arr 4 (.int .u64)) (.pair (.sl (.pair (.arr 32 (.int .u8)) (.pair (.arr 4 (.int .u64)) .unit))) .unit)) (.pair (.arr 32 (.int .u8)) (.pair (.arr 32 (.int .u8)) (.pair (.arr 4 (.int .u64)) .unit)))), .bool, false, fun x => run x.1 x.2.1 x.2.2.1 x.2.2.2.1⟩
set_option maxRecDepth 100000 in
theorem con : Con Try.prog 12 F := by
  refine con_of_den (C := C) (ctx_ok (by kernel_rfl) (by kernel_rfl) ⟨.inl ⟨Go.Bx.basculelaw_sameCoin.con, Go.Bx.basculelaw_sameCoin.named⟩, ⟨.inl ⟨Go.Bx.coin_Move.con, Go.Bx.coin_Move.named⟩, ⟨.inl ⟨Go.Bx.basculeref_Moved.con, Go.Bx.basculeref_Moved.named⟩, trivial⟩⟩⟩) (by kernel_rfl) Try.func12 (c := cB Try.f12) (by kernel_rfl) (by kernel_rfl) F fuel (fun x => by simp [F, spread, Try.ntmps12]) ?_
  intro x r h
  rw [← h]
  have h1 : start F Try.f12.ntmps x = (St0 x.1 x.2.1 x.2.2.1 x.2.2.2.1) := by kernel_rfl
  rw [h1]
  refine (top_eq fuel (fin C Try.f12.results.toList F.rs F.multi) x.1 x.2.1 x.2.2.1 x.2.2.2.1).trans ?_
  kernel_rfl
theorem named : Named Try.prog 12 := named_of Try.func12 (by kernel_rfl) (by kernel_rfl)
end Go.Bx.basculelaw_CoinMoves
