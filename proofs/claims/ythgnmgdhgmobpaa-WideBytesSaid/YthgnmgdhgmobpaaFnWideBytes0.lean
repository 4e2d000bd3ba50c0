/- Go functions of this seat in their own words of Lean, each tied to its code by a contract. -/
import Derived.Test.YthgnmgdhgmobpaaGBase
namespace Go.Bx.wide_Bytes
open Go Go.Proofs Go.Bx
set_option maxRecDepth 100000
set_option linter.unusedVariables false
def C : Ctx := ⟨[(5, (.int .u8)), (27, (.int .u64)), (41, (.arr 32 (.int .u8))), (46, (.arr 4 (.int .u64)))], fnL [], [(2, [2]), (1, [2, 3]), (4, [1, 2, 3, 5]), (9, [1, 2, 3, 5]), (21, [2, 3])]⟩
def St0 (x0 : List Int) : St := stL 22 [(0, .data (.arr 4 (.int .u64)) x0)] []
def St1 (x5 : Int) (c1 : List Int) (c2 : List Int) (c3 : List Int) : St := stL 22 [(1, .ref 1 []), (2, .ref 2 []), (3, .ref 3 []), (5, .data (.int .i64) x5)] [(1, .var (.arr 4 (.int .u64)) (.data (.arr 4 (.int .u64)) c1)), (2, .var (.arr 32 (.int .u8)) (.data (.arr 32 (.int .u8)) c2)), (3, .var (.arr 32 (.int .u8)) (.data (.arr 32 (.int .u8)) c3))]
noncomputable def cd0 : Code := cL (cL (cR (cL (cR (cR (cB Try.f35))))))
def St2 (c2 : List Int) (c3 : List Int) : St := stL 22 [(2, .ref 2 []), (3, .ref 3 [])] [(2, .var (.arr 32 (.int .u8)) (.data (.arr 32 (.int .u8)) c2)), (3, .var (.arr 32 (.int .u8)) (.data (.arr 32 (.int .u8)) c3))]
def l0s {α : Type} (Nx : Int → (List Int) → (List Int) → (List Int) → Option α) (Xt0 : (List Int) → (List Int) → Option α) (x5 : Int) (c1 : List Int) (c2 : List Int) (c3 : List Int) : Option α :=
  if (decide (x5 < 32)) = true then
    if 0 ≤ (IntKind.i64.wrap (Int.tdiv x5 8)) ∧ (IntKind.i64.wrap (Int.tdiv x5 8)) < 4 then
      if 0 ≤ (IntKind.i64.wrap (8 * (Int.tmod x5 8))) then
        if 0 ≤ (IntKind.i64.wrap (31 - x5)) ∧ (IntKind.i64.wrap (31 - x5)) < 32 then
          Nx (IntKind.i64.wrap (x5 + 1)) c1 c2 (List.set c3 (Int.toNat (IntKind.i64.wrap (31 - x5))) (IntKind.u8.wrap (shrI .u64 (List.getD c1 (Int.toNat (IntKind.i64.wrap (Int.tdiv x5 8))) 0) (IntKind.i64.wrap (8 * (Int.tmod x5 8))))))
        else none
      else none
    else none
  else
    Xt0 c2 c3
theorem l0s_eq {α : Type} (k : Nat) (next : St → Option α) (Q : Ex → St → Option α) (x5 : Int) (c1 : List Int) (c2 : List Int) (c3 : List Int) :
    rnd C k cd0 9 Q next (St1 x5 c1 c2 c3) = l0s (fun (x5 : Int) (c1 : List Int) (c2 : List Int) (c3 : List Int) => next (St1 x5 c1 c2 c3)) (fun (c2 : List Int) (c3 : List Int) => Q (.exit 0) (St2 c2 c3)) x5 c1 c2 c3 := by
  kernel_rfl
def l0 {α : Type} (k : Nat) (Xt0 : (List Int) → (List Int) → Option α) : Nat → Int → (List Int) → (List Int) → (List Int) → Option α
  | 0, _, _, _, _ => none
  | n + 1, x5, c1, c2, c3 => l0s (l0 k Xt0 n) Xt0 x5 c1 c2 c3
theorem l0_eq {α : Type} (k : Nat) (Q : Ex → St → Option α) : ∀ (n : Nat) (x5 : Int) (c1 : List Int) (c2 : List Int) (c3 : List Int), iter (rnd C k cd0 9 Q) n (St1 x5 c1 c2 c3) = l0 k (fun (c2 : List Int) (c3 : List Int) => Q (.exit 0) (St2 c2 c3)) n x5 c1 c2 c3
  | 0, _, _, _, _ => rfl
  | n + 1, x5, c1, c2, c3 => (iter_succ _ _ _).trans ((l0s_eq k (iter (rnd C k cd0 9 Q) n) Q x5 c1 c2 c3).trans (congrArg (fun N => l0s N (fun (c2 : List Int) (c3 : List Int) => Q (.exit 0) (St2 c2 c3)) x5 c1 c2 c3) (funext fun x5 => funext fun c1 => funext fun c2 => funext fun c3 => l0_eq k Q n x5 c1 c2 c3)))
theorem l0_congr {α : Type} (k : Nat) (Xt0 : (List Int) → (List Int) → Option α) (Xt0q : (List Int) → (List Int) → Option α) (hXt0 : ∀ (c2 : List Int) (c3 : List Int), Xt0 c2 c3 = Xt0q c2 c3) (n : Nat) (x5 : Int) (c1 : List Int) (c2 : List Int) (c3 : List Int) : l0 k Xt0 n x5 c1 c2 c3 = l0 k Xt0q n x5 c1 c2 c3 := by
  obtain rfl : Xt0 = Xt0q := by funext c2; funext c3; exact hXt0 c2 c3
  rfl
noncomputable def cd1 : Code := cR (cR (cR (cB Try.f35)))
def St3 (c2 : List Int) (c3 : List Int) : St := stL 22 [(2, .ref 2 []), (3, .ref 3 [])] [(2, .var (.arr 32 (.int .u8)) (.data (.arr 32 (.int .u8)) c2)), (3, .var (.arr 32 (.int .u8)) (.data (.arr 32 (.int .u8)) c3))]
def St4 (c2 : List Int) : St := stL 22 [(2, .ref 2 [])] [(2, .var (.arr 32 (.int .u8)) (.data (.arr 32 (.int .u8)) c2))]
def j0 {α : Type} (Rt : (List Int) → Option α) (c2 : List Int) (c3 : List Int) : Option α :=
  Rt c3
theorem j0_eq {α : Type} (k : Nat) (Q : Ex → St → Option α) (c2 : List Int) (c3 : List Int) :
    den C k cd1 Q (St3 c2 c3) = j0 (fun (c2 : List Int) => Q .ret (St4 c2)) c2 c3 := by
  kernel_rfl
theorem a0 {α : Type} (k : Nat) (Q : Ex → St → Option α) (x5 : Int) (c1 : List Int) (c2 : List Int) (c3 : List Int) :
    iter (rnd C k cd0 9 (blkQ C 0 (sq C k cd1 Q))) k (St1 x5 c1 c2 c3) = l0 k (fun (c2 : List Int) (c3 : List Int) => j0 (fun (c2 : List Int) => Q .ret (St4 c2)) c2 c3) k x5 c1 c2 c3 :=
  (l0_eq k (blkQ C 0 (sq C k cd1 Q)) k x5 c1 c2 c3).trans (l0_congr k _ _ (fun c2 c3 => ((show (blkQ C 0 (sq C k cd1 Q)) (.exit 0) (St2 c2 c3) = den C k cd1 Q (St3 c2 c3) by kernel_rfl).trans (by simp only [j0_eq]))) k x5 c1 c2 c3)
def top {α : Type} (k : Nat) (Rt : (List Int) → Option α) (x0 : List Int) : Option α :=
  l0 k (fun (c2 : List Int) (c3 : List Int) => j0 Rt c2 c3) k 0 x0 (List.replicate 32 0) (List.replicate 32 0)
theorem top_eq {α : Type} (k : Nat) (Q : Ex → St → Option α) (x0 : List Int) :
    den C k (cB Try.f35) Q (St0 x0) = top k (fun (c2 : List Int) => Q .ret (St4 c2)) x0 := by
  have h : den C k (cB Try.f35) Q (St0 x0) =
        iter (rnd C k cd0 9 (blkQ C 0 (sq C k cd1 Q))) k (St1 0 x0 (List.replicate 32 0) (List.replicate 32 0)) := by kernel_rfl
  rw [h]
  simp only [a0]
  first | rfl | kernel_rfl
def run (x0 : List Int) : Option (List Int) := top (α := List Int) fuel (fun (c2 : List Int) => some c2) x0
def F : Fn := ⟨(.pair (.arr 4 (.int .u64)) .unit), (.arr 32 (.int .u8)), false, fun x => run x.1⟩
set_option maxRecDepth 100000 in
theorem con : Con Try.prog 35 F := by
  refine con_of_den (C := C) (ctx_ok (by kernel_rfl) trivial) (by kernel_rfl) Try.func35 (c := cB Try.f35) (by kernel_rfl) (by kernel_rfl) F fuel (fun x => by simp [F, spread, Try.ntmps35]) ?_
  intro x r h
  rw [← h]
  have h1 : start F Try.f35.ntmps x = (St0 x.1) := by kernel_rfl
  rw [h1]
  refine (top_eq fuel (fin C Try.f35.results.toList F.rs F.multi) x.1).trans ?_
  kernel_rfl
theorem named : Named Try.prog 35 := named_of Try.func35 (by kernel_rfl) (by kernel_rfl)
end Go.Bx.wide_Bytes
namespace Go.Bx.wide_From
open Go Go.Proofs Go.Bx
set_option maxRecDepth 100000
set_option linter.unusedVariables false
def C : Ctx := ⟨[(5, (.int .u8)), (27, (.int .u64)), (41, (.arr 32 (.int .u8))), (46, (.arr 4 (.int .u64)))], fnL [], [(2, [2]), (1, [2, 3]), (4, [2, 3, 7, 8]), (9, [2, 3, 7, 8]), (24, [2, 3])]⟩
def St0 (x0 : List Int) : St := stL 28 [(0, .data (.arr 32 (.int .u8)) x0)] []
def St1 (x7 : List Int) (x8 : Int) (c2 : List Int) (c3 : List Int) : St := stL 28 [(2, .ref 2 []), (3, .ref 3 []), (7, .data (.arr 32 (.int .u8)) x7), (8, .data (.int .i64) x8)] [(2, .var (.arr 4 (.int .u64)) (.data (.arr 4 (.int .u64)) c2)), (3, .var (.arr 4 (.int .u64)) (.data (.arr 4 (.int .u64)) c3))]
noncomputable def cd0 : Code := cL (cL (cR (cL (cR (cR (cB Try.f36))))))
def St2 (c2 : List Int) (c3 : List Int) : St := stL 28 [(2, .ref 2 []), (3, .ref 3 [])] [(2, .var (.arr 4 (.int .u64)) (.data (.arr 4 (.int .u64)) c2)), (3, .var (.arr 4 (.int .u64)) (.data (.arr 4 (.int .u64)) c3))]
def l0s {α : Type} (Nx : (List Int) → Int → (List Int) → (List Int) → Option α) (Xt0 : (List Int) → (List Int) → Option α) (x7 : List Int) (x8 : Int) (c2 : List Int) (c3 : List Int) : Option α :=
  if (decide (x8 < 32)) = true then
    if 0 ≤ x8 ∧ x8 < 32 then
      if 0 ≤ (IntKind.i64.wrap (Int.tdiv (IntKind.i64.wrap (31 - x8)) 8)) ∧ (IntKind.i64.wrap (Int.tdiv (IntKind.i64.wrap (31 - x8)) 8)) < 4 then
        if 0 ≤ (IntKind.i64.wrap (8 * (Int.tmod (IntKind.i64.wrap (31 - x8)) 8))) then
          if 0 ≤ (IntKind.i64.wrap (Int.tdiv (IntKind.i64.wrap (31 - x8)) 8)) ∧ (IntKind.i64.wrap (Int.tdiv (IntKind.i64.wrap (31 - x8)) 8)) < 4 then
            Nx x7 (IntKind.i64.wrap (x8 + 1)) c2 (List.set c3 (Int.toNat (IntKind.i64.wrap (Int.tdiv (IntKind.i64.wrap (31 - x8)) 8))) (bor .u64 (List.getD c3 (Int.toNat (IntKind.i64.wrap (Int.tdiv (IntKind.i64.wrap (31 - x8)) 8))) 0) (shlI .u64 (IntKind.u64.wrap (List.getD x7 (Int.toNat x8) 0)) (IntKind.i64.wrap (8 * (Int.tmod (IntKind.i64.wrap (31 - x8)) 8))))))
          else none
        else none
      else none
    else none
  else
    Xt0 c2 c3
theorem l0s_eq {α : Type} (k : Nat) (next : St → Option α) (Q : Ex → St → Option α) (x7 : List Int) (x8 : Int) (c2 : List Int) (c3 : List Int) :
    rnd C k cd0 9 Q next (St1 x7 x8 c2 c3) = l0s (fun (x7 : List Int) (x8 : Int) (c2 : List Int) (c3 : List Int) => next (St1 x7 x8 c2 c3)) (fun (c2 : List Int) (c3 : List Int) => Q (.exit 0) (St2 c2 c3)) x7 x8 c2 c3 := by
  kernel_rfl
def l0 {α : Type} (k : Nat) (Xt0 : (List Int) → (List Int) → Option α) : Nat → (List Int) → Int → (List Int) → (List Int) → Option α
  | 0, _, _, _, _ => none
  | n + 1, x7, x8, c2, c3 => l0s (l0 k Xt0 n) Xt0 x7 x8 c2 c3
theorem l0_eq {α : Type} (k : Nat) (Q : Ex → St → Option α) : ∀ (n : Nat) (x7 : List Int) (x8 : Int) (c2 : List Int) (c3 : List Int), iter (rnd C k cd0 9 Q) n (St1 x7 x8 c2 c3) = l0 k (fun (c2 : List Int) (c3 : List Int) => Q (.exit 0) (St2 c2 c3)) n x7 x8 c2 c3
  | 0, _, _, _, _ => rfl
  | n + 1, x7, x8, c2, c3 => (iter_succ _ _ _).trans ((l0s_eq k (iter (rnd C k cd0 9 Q) n) Q x7 x8 c2 c3).trans (congrArg (fun N => l0s N (fun (c2 : List Int) (c3 : List Int) => Q (.exit 0) (St2 c2 c3)) x7 x8 c2 c3) (funext fun x7 => funext fun x8 => funext fun c2 => funext fun c3 => l0_eq k Q n x7 x8 c2 c3)))
theorem l0_congr {α : Type} (k : Nat) (Xt0 : (List Int) → (List Int) → Option α) (Xt0q : (List Int) → (List Int) → Option α) (hXt0 : ∀ (c2 : List Int) (c3 : List Int), Xt0 c2 c3 = Xt0q c2 c3) (n : Nat) (x7 : List Int) (x8 : Int) (c2 : List Int) (c3 : List Int) : l0 k Xt0 n x7 x8 c2 c3 = l0 k Xt0q n x7 x8 c2 c3 := by
  obtain rfl : Xt0 = Xt0q := by funext c2; funext c3; exact hXt0 c2 c3
  rfl
noncomputable def cd1 : Code := cR (cR (cR (cB Try.f36)))
def St3 (c2 : List Int) (c3 : List Int) : St := stL 28 [(2, .ref 2 []), (3, .ref 3 [])] [(2, .var (.arr 4 (.int .u64)) (.data (.arr 4 (.int .u64)) c2)), (3, .var (.arr 4 (.int .u64)) (.data (.arr 4 (.int .u64)) c3))]
def St4 (c2 : List Int) : St := stL 28 [(2, .ref 2 [])] [(2, .var (.arr 4 (.int .u64)) (.data (.arr 4 (.int .u64)) c2))]
def j0 {α : Type} (Rt : (List Int) → Option α) (c2 : List Int) (c3 : List Int) : Option α :=
  Rt c3
theorem j0_eq {α : Type} (k : Nat) (Q : Ex → St → Option α) (c2 : List Int) (c3 : List Int) :
    den C k cd1 Q (St3 c2 c3) = j0 (fun (c2 : List Int) => Q .ret (St4 c2)) c2 c3 := by
  kernel_rfl
theorem a0 {α : Type} (k : Nat) (Q : Ex → St → Option α) (x7 : List Int) (x8 : Int) (c2 : List Int) (c3 : List Int) :
    iter (rnd C k cd0 9 (blkQ C 0 (sq C k cd1 Q))) k (St1 x7 x8 c2 c3) = l0 k (fun (c2 : List Int) (c3 : List Int) => j0 (fun (c2 : List Int) => Q .ret (St4 c2)) c2 c3) k x7 x8 c2 c3 :=
  (l0_eq k (blkQ C 0 (sq C k cd1 Q)) k x7 x8 c2 c3).trans (l0_congr k _ _ (fun c2 c3 => ((show (blkQ C 0 (sq C k cd1 Q)) (.exit 0) (St2 c2 c3) = den C k cd1 Q (St3 c2 c3) by kernel_rfl).trans (by simp only [j0_eq]))) k x7 x8 c2 c3)
def top {α : Type} (k : Nat) (Rt : (List Int) → Option α) (x0 : List Int) : Option α :=
  l0 k (fun (c2 : List Int) (c3 : List Int) => j0 Rt c2 c3) k x0 0 [0, 0, 0, 0] [0, 0, 0, 0]
theorem top_eq {α : Type} (k : Nat) (Q : Ex → St → Option α) (x0 : List Int) :
    den C k (cB Try.f36) Q (St0 x0) = top k (fun (c2 : List Int) => Q .ret (St4 c2)) x0 := by
  have h : den C k (cB Try.f36) Q (St0 x0) =
        iter (rnd C k cd0 9 (blkQ C 0 (sq C k cd1 Q))) k (St1 x0 0 [0, 0, 0, 0] [0, 0, 0, 0]) := by kernel_rfl
  rw [h]
  simp only [a0]
  first | rfl | kernel_rfl
def run (x0 : List Int) : Option (List Int) := top (α := List Int) fuel (fun (c2 : List Int) => some c2) x0
def F : Fn := ⟨(.pair (.arr 32 (.int .u8)) .unit), (.arr 4 (.int .u64)), false, fun x => run x.1⟩
set_option maxRecDepth 100000 in
theorem con : Con Try.prog 36 F := by
  refine con_of_den (C := C) (ctx_ok (by kernel_rfl) trivial) (by kernel_rfl) Try.func36 (c := cB Try.f36) (by kernel_rfl) (by kernel_rfl) F fuel (fun x => by simp [F, spread, Try.ntmps36]) ?_
  intro x r h
  rw [← h]
  have h1 : start F Try.f36.ntmps x = (St0 x.1) := by kernel_rfl
  rw [h1]
  refine (top_eq fuel (fin C Try.f36.results.toList F.rs F.multi) x.1).trans ?_
  kernel_rfl
theorem named : Named Try.prog 36 := named_of Try.func36 (by kernel_rfl) (by kernel_rfl)
end Go.Bx.wide_From
namespace Go.Bx.basculeref_word
open Go Go.Proofs Go.Bx
set_option maxRecDepth 100000
set_option linter.unusedVariables false
def C : Ctx := ⟨[(5, (.int .u8)), (9, .str), (41, (.arr 32 (.int .u8)))], fnL [], [(2, [2]), (1, [2, 3]), (4, [0, 2, 3, 4]), (9, [0, 2, 3, 4]), (18, [2, 3])]⟩
def St0 (x0 : List Int) : St := stL 21 [(0, .data .str x0)] []
def St1 (x0 : List Int) (x4 : Int) (c2 : List Int) (c3 : List Int) : St := stL 21 [(0, .data .str x0), (2, .ref 2 []), (3, .ref 3 []), (4, .data (.int .i64) x4)] [(2, .var (.arr 32 (.int .u8)) (.data (.arr 32 (.int .u8)) c2)), (3, .var (.arr 32 (.int .u8)) (.data (.arr 32 (.int .u8)) c3))]
noncomputable def cd0 : Code := cL (cL (cR (cL (cR (cR (cB Try.f78))))))
def St2 (c2 : List Int) (c3 : List Int) : St := stL 21 [(2, .ref 2 []), (3, .ref 3 [])] [(2, .var (.arr 32 (.int .u8)) (.data (.arr 32 (.int .u8)) c2)), (3, .var (.arr 32 (.int .u8)) (.data (.arr 32 (.int .u8)) c3))]
def l0s {α : Type} (Nx : (List Int) → Int → (List Int) → (List Int) → Option α) (Xt0 : (List Int) → (List Int) → Option α) (x0 : List Int) (x4 : Int) (c2 : List Int) (c3 : List Int) : Option α :=
  if (cond (decide (x4 < (x0.length : Int))) (decide (x4 < 32)) false) = true then
    if 0 ≤ x4 ∧ x4 < (x0.length : Int) then
      if 0 ≤ x4 ∧ x4 < 32 then
        Nx x0 (IntKind.i64.wrap (x4 + 1)) c2 (List.set c3 (Int.toNat x4) (List.getD x0 (Int.toNat x4) 0))
      else none
    else none
  else
    Xt0 c2 c3
theorem l0s_eq {α : Type} (k : Nat) (next : St → Option α) (Q : Ex → St → Option α) (x0 : List Int) (x4 : Int) (c2 : List Int) (c3 : List Int) :
    rnd C k cd0 9 Q next (St1 x0 x4 c2 c3) = l0s (fun (x0 : List Int) (x4 : Int) (c2 : List Int) (c3 : List Int) => next (St1 x0 x4 c2 c3)) (fun (c2 : List Int) (c3 : List Int) => Q (.exit 0) (St2 c2 c3)) x0 x4 c2 c3 := by
  kernel_rfl
def l0 {α : Type} (k : Nat) (Xt0 : (List Int) → (List Int) → Option α) : Nat → (List Int) → Int → (List Int) → (List Int) → Option α
  | 0, _, _, _, _ => none
  | n + 1, x0, x4, c2, c3 => l0s (l0 k Xt0 n) Xt0 x0 x4 c2 c3
theorem l0_eq {α : Type} (k : Nat) (Q : Ex → St → Option α) : ∀ (n : Nat) (x0 : List Int) (x4 : Int) (c2 : List Int) (c3 : List Int), iter (rnd C k cd0 9 Q) n (St1 x0 x4 c2 c3) = l0 k (fun (c2 : List Int) (c3 : List Int) => Q (.exit 0) (St2 c2 c3)) n x0 x4 c2 c3
  | 0, _, _, _, _ => rfl
  | n + 1, x0, x4, c2, c3 => (iter_succ _ _ _).trans ((l0s_eq k (iter (rnd C k cd0 9 Q) n) Q x0 x4 c2 c3).trans (congrArg (fun N => l0s N (fun (c2 : List Int) (c3 : List Int) => Q (.exit 0) (St2 c2 c3)) x0 x4 c2 c3) (funext fun x0 => funext fun x4 => funext fun c2 => funext fun c3 => l0_eq k Q n x0 x4 c2 c3)))
theorem l0_congr {α : Type} (k : Nat) (Xt0 : (List Int) → (List Int) → Option α) (Xt0q : (List Int) → (List Int) → Option α) (hXt0 : ∀ (c2 : List Int) (c3 : List Int), Xt0 c2 c3 = Xt0q c2 c3) (n : Nat) (x0 : List Int) (x4 : Int) (c2 : List Int) (c3 : List Int) : l0 k Xt0 n x0 x4 c2 c3 = l0 k Xt0q n x0 x4 c2 c3 := by
  obtain rfl : Xt0 = Xt0q := by funext c2; funext c3; exact hXt0 c2 c3
  rfl
noncomputable def cd1 : Code := cR (cR (cR (cB Try.f78)))
def St3 (c2 : List Int) (c3 : List Int) : St := stL 21 [(2, .ref 2 []), (3, .ref 3 [])] [(2, .var (.arr 32 (.int .u8)) (.data (.arr 32 (.int .u8)) c2)), (3, .var (.arr 32 (.int .u8)) (.data (.arr 32 (.int .u8)) c3))]
def St4 (c2 : List Int) : St := stL 21 [(2, .ref 2 [])] [(2, .var (.arr 32 (.int .u8)) (.data (.arr 32 (.int .u8)) c2))]
def j0 {α : Type} (Rt : (List Int) → Option α) (c2 : List Int) (c3 : List Int) : Option α :=
  Rt c3
theorem j0_eq {α : Type} (k : Nat) (Q : Ex → St → Option α) (c2 : List Int) (c3 : List Int) :
    den C k cd1 Q (St3 c2 c3) = j0 (fun (c2 : List Int) => Q .ret (St4 c2)) c2 c3 := by
  kernel_rfl
theorem a0 {α : Type} (k : Nat) (Q : Ex → St → Option α) (x0 : List Int) (x4 : Int) (c2 : List Int) (c3 : List Int) :
    iter (rnd C k cd0 9 (blkQ C 0 (sq C k cd1 Q))) k (St1 x0 x4 c2 c3) = l0 k (fun (c2 : List Int) (c3 : List Int) => j0 (fun (c2 : List Int) => Q .ret (St4 c2)) c2 c3) k x0 x4 c2 c3 :=
  (l0_eq k (blkQ C 0 (sq C k cd1 Q)) k x0 x4 c2 c3).trans (l0_congr k _ _ (fun c2 c3 => ((show (blkQ C 0 (sq C k cd1 Q)) (.exit 0) (St2 c2 c3) = den C k cd1 Q (St3 c2 c3) by kernel_rfl).trans (by simp only [j0_eq]))) k x0 x4 c2 c3)
def top {α : Type} (k : Nat) (Rt : (List Int) → Option α) (x0 : List Int) : Option α :=
  l0 k (fun (c2 : List Int) (c3 : List Int) => j0 Rt c2 c3) k x0 0 (List.replicate 32 0) (List.replicate 32 0)
theorem top_eq {α : Type} (k : Nat) (Q : Ex → St → Option α) (x0 : List Int) :
    den C k (cB Try.f78) Q (St0 x0) = top k (fun (c2 : List Int) => Q .ret (St4 c2)) x0 := by
  have h : den C k (cB Try.f78) Q (St0 x0) =
        iter (rnd C k cd0 9 (blkQ C 0 (sq C k cd1 Q))) k (St1 x0 0 (List.replicate 32 0) (List.replicate 32 0)) := by kernel_rfl
  rw [h]
  simp only [a0]
  first | rfl | kernel_rfl
def run (x0 : List Int) : Option (List Int) := top (α := List Int) fuel (fun (c2 : List Int) => some c2) x0
def F : Fn := ⟨(.pair .str .unit), (.arr 32 (.int .u8)), false, fun x => run x.1⟩
set_option maxRecDepth 100000 in
theorem con : Con Try.prog 78 F := by
  refine con_of_den (C := C) (ctx_ok (by kernel_rfl) trivial) (by kernel_rfl) Try.func78 (c := cB Try.f78) (by kernel_rfl) (by kernel_rfl) F fuel (fun x => by simp [F, spread, Try.ntmps78]) ?_
  intro x r h
  rw [← h]
  have h1 : start F Try.f78.ntmps x = (St0 x.1) := by kernel_rfl
  rw [h1]
  refine (top_eq fuel (fin C Try.f78.results.toList F.rs F.multi) x.1).trans ?_
  kernel_rfl
theorem named : Named Try.prog 78 := named_of Try.func78 (by kernel_rfl) (by kernel_rfl)
end Go.Bx.basculeref_word
namespace Go.Bx.basculeref_big
open Go Go.Proofs Go.Bx
set_option maxRecDepth 100000
set_option linter.unusedVariables false
def C : Ctx := ⟨[(3, (.int .i64)), (5, (.int .u8)), (9, .str), (27, (.int .u64)), (33, (.sl (.int .u8)))], fnL [], [(2, [4]), (1, [5]), (4, [0, 5, 6, 7]), (9, [0, 5, 6, 7]), (21, [5])]⟩
def St0 (x0 : Int) (x1 : Int) : St := stL 19 [(0, .data (.int .u64) x0), (1, .data (.int .i64) x1)] []
def St1 (x0 : Int) (x5 : List Int) (x6 : Int) (x7 : Int) : St := stL 19 [(0, .data (.int .u64) x0), (5, .data .str x5), (6, .data (.int .i64) x6), (7, .data (.int .i64) x7)] []
noncomputable def cd0 : Code := cL (cL (cR (cL (cR (cR (cB Try.f102))))))
def St2 (x5 : List Int) : St := stL 19 [(5, .data .str x5)] []
def l0s {α : Type} (Nx : Int → (List Int) → Int → Int → Option α) (Xt0 : (List Int) → Option α) (x0 : Int) (x5 : List Int) (x6 : Int) (x7 : Int) : Option α :=
  if (decide (x7 < x6)) = true then
    if Nat.ble (1 + x5.length) 9223372036854775807 = true then
      Nx (shrI .u64 x0 8) ([(IntKind.u8.wrap x0)] ++ x5) x6 (IntKind.i64.wrap (x7 + 1))
    else none
  else
    Xt0 x5
theorem l0s_eq {α : Type} (k : Nat) (next : St → Option α) (Q : Ex → St → Option α) (x0 : Int) (x5 : List Int) (x6 : Int) (x7 : Int) :
    rnd C k cd0 9 Q next (St1 x0 x5 x6 x7) = l0s (fun (x0 : Int) (x5 : List Int) (x6 : Int) (x7 : Int) => next (St1 x0 x5 x6 x7)) (fun (x5 : List Int) => Q (.exit 0) (St2 x5)) x0 x5 x6 x7 := by
  kernel_rfl
def l0 {α : Type} (k : Nat) (Xt0 : (List Int) → Option α) : Nat → Int → (List Int) → Int → Int → Option α
  | 0, _, _, _, _ => none
  | n + 1, x0, x5, x6, x7 => l0s (l0 k Xt0 n) Xt0 x0 x5 x6 x7
theorem l0_eq {α : Type} (k : Nat) (Q : Ex → St → Option α) : ∀ (n : Nat) (x0 : Int) (x5 : List Int) (x6 : Int) (x7 : Int), iter (rnd C k cd0 9 Q) n (St1 x0 x5 x6 x7) = l0 k (fun (x5 : List Int) => Q (.exit 0) (St2 x5)) n x0 x5 x6 x7
  | 0, _, _, _, _ => rfl
  | n + 1, x0, x5, x6, x7 => (iter_succ _ _ _).trans ((l0s_eq k (iter (rnd C k cd0 9 Q) n) Q x0 x5 x6 x7).trans (congrArg (fun N => l0s N (fun (x5 : List Int) => Q (.exit 0) (St2 x5)) x0 x5 x6 x7) (funext fun x0 => funext fun x5 => funext fun x6 => funext fun x7 => l0_eq k Q n x0 x5 x6 x7)))
theorem l0_congr {α : Type} (k : Nat) (Xt0 : (List Int) → Option α) (Xt0q : (List Int) → Option α) (hXt0 : ∀ (x5 : List Int), Xt0 x5 = Xt0q x5) (n : Nat) (x0 : Int) (x5 : List Int) (x6 : Int) (x7 : Int) : l0 k Xt0 n x0 x5 x6 x7 = l0 k Xt0q n x0 x5 x6 x7 := by
  obtain rfl : Xt0 = Xt0q := by funext x5; exact hXt0 x5
  rfl
noncomputable def cd1 : Code := cR (cR (cR (cB Try.f102)))
def St3 (x5 : List Int) : St := stL 19 [(5, .data .str x5)] []
def St4 (x4 : List Int) : St := stL 19 [(4, .data .str x4)] []
def j0 {α : Type} (Rt : (List Int) → Option α) (x5 : List Int) : Option α :=
  Rt x5
theorem j0_eq {α : Type} (k : Nat) (Q : Ex → St → Option α) (x5 : List Int) :
    den C k cd1 Q (St3 x5) = j0 (fun (x4 : List Int) => Q .ret (St4 x4)) x5 := by
  kernel_rfl
theorem a0 {α : Type} (k : Nat) (Q : Ex → St → Option α) (x0 : Int) (x5 : List Int) (x6 : Int) (x7 : Int) :
    iter (rnd C k cd0 9 (blkQ C 0 (sq C k cd1 Q))) k (St1 x0 x5 x6 x7) = l0 k (fun (x5 : List Int) => j0 (fun (x4 : List Int) => Q .ret (St4 x4)) x5) k x0 x5 x6 x7 :=
  (l0_eq k (blkQ C 0 (sq C k cd1 Q)) k x0 x5 x6 x7).trans (l0_congr k _ _ (fun x5 => ((show (blkQ C 0 (sq C k cd1 Q)) (.exit 0) (St2 x5) = den C k cd1 Q (St3 x5) by kernel_rfl).trans (by simp only [j0_eq]))) k x0 x5 x6 x7)
def top {α : Type} (k : Nat) (Rt : (List Int) → Option α) (x0 : Int) (x1 : Int) : Option α :=
  l0 k (fun (x5 : List Int) => j0 Rt x5) k x0 [] x1 0
theorem top_eq {α : Type} (k : Nat) (Q : Ex → St → Option α) (x0 : Int) (x1 : Int) :
    den C k (cB Try.f102) Q (St0 x0 x1) = top k (fun (x4 : List Int) => Q .ret (St4 x4)) x0 x1 := by
  have h : den C k (cB Try.f102) Q (St0 x0 x1) =
        iter (rnd C k cd0 9 (blkQ C 0 (sq C k cd1 Q))) k (St1 x0 [] x1 0) := by kernel_rfl
  rw [h]
  simp only [a0]
  first | rfl | kernel_rfl
def run (x0 : Int) (x1 : Int) : Option (List Int) := top (α := List Int) fuel (fun (x4 : List Int) => some x4) x0 x1
def F : Fn := ⟨(.pair (.int .u64) (.pair (.int .i64) .unit)), .str, false, fun x => run x.1 x.2.1⟩
set_option maxRecDepth 100000 in
theorem con : Con Try.prog 102 F := by
  refine con_of_den (C := C) (ctx_ok (by kernel_rfl) trivial) (by kernel_rfl) Try.func102 (c := cB Try.f102) (by kernel_rfl) (by kernel_rfl) F fuel (fun x => by simp [F, spread, Try.ntmps102]) ?_
  intro x r h
  rw [← h]
  have h1 : start F Try.f102.ntmps x = (St0 x.1 x.2.1) := by kernel_rfl
  rw [h1]
  refine (top_eq fuel (fin C Try.f102.results.toList F.rs F.multi) x.1 x.2.1).trans ?_
  kernel_rfl
theorem named : Named Try.prog 102 := named_of Try.func102 (by kernel_rfl) (by kernel_rfl)
end Go.Bx.basculeref_big
namespace Go.Bx.basculeref_text
open Go Go.Proofs Go.Bx
set_option maxRecDepth 100000
set_option linter.unusedVariables false
def C : Ctx := ⟨[(9, .str), (27, (.int .u64)), (46, (.arr 4 (.int .u64)))], fnL [(102, Go.Bx.basculeref_big.F)], [(2, [2])]⟩
def St0 (x0 : List Int) : St := stL 18 [(0, .data (.arr 4 (.int .u64)) x0)] []
def St1 (x2 : List Int) : St := stL 18 [(2, .data .str x2)] []
def top {α : Type} (Rt : (List Int) → Option α) (x0 : List Int) : Option α :=
  (Go.Bx.basculeref_big.run (List.getD x0 3 0) 8).bind fun y1 =>
  (Go.Bx.basculeref_big.run (List.getD x0 2 0) 8).bind fun y2 =>
  if Nat.ble (y1.length + y2.length) 9223372036854775807 = true then
    (Go.Bx.basculeref_big.run (List.getD x0 1 0) 8).bind fun y3 =>
    if Nat.ble ((y1 ++ y2).length + y3.length) 9223372036854775807 = true then
      (Go.Bx.basculeref_big.run (List.getD x0 0 0) 8).bind fun y4 =>
      if Nat.ble (((y1 ++ y2) ++ y3).length + y4.length) 9223372036854775807 = true then
        Rt (((y1 ++ y2) ++ y3) ++ y4)
      else none
    else none
  else none
theorem top_eq {α : Type} (k : Nat) (Q : Ex → St → Option α) (x0 : List Int) :
    den C k (cB Try.f79) Q (St0 x0) = top (fun (x2 : List Int) => Q .ret (St1 x2)) x0 := by
  kernel_rfl
def run (x0 : List Int) : Option (List Int) := top (α := List Int) (fun (x2 : List Int) => some x2) x0
def F : Fn := ⟨(.pair (.arr 4 (.int .u64)) .unit), .str, false, fun x => run x.1⟩
set_option maxRecDepth 100000 in
theorem con : Con Try.prog 79 F := by
  refine con_of_den (C := C) (ctx_ok (by kernel_rfl) ⟨⟨Go.Bx.basculeref_big.con, Go.Bx.basculeref_big.named⟩, trivial⟩) (by kernel_rfl) Try.func79 (c := cB Try.f79) (by kernel_rfl) (by kernel_rfl) F fuel (fun x => by simp [F, spread, Try.ntmps79]) ?_
  intro x r h
  rw [← h]
  have h1 : start F Try.f79.ntmps x = (St0 x.1) := by kernel_rfl
  rw [h1]
  refine (top_eq fuel (fin C Try.f79.results.toList F.rs F.multi) x.1).trans ?_
  kernel_rfl
theorem named : Named Try.prog 79 := named_of Try.func79 (by kernel_rfl) (by kernel_rfl)
end Go.Bx.basculeref_text
namespace Go.Bx.basculeref_BytesOf
open Go Go.Proofs Go.Bx
set_option maxRecDepth 100000
set_option linter.unusedVariables false
def C : Ctx := ⟨[(41, (.arr 32 (.int .u8))), (46, (.arr 4 (.int .u64)))], fnL [(78, Go.Bx.basculeref_word.F), (79, Go.Bx.basculeref_text.F)], [(2, [2])]⟩
def St0 (x0 : List Int) : St := stL 6 [(0, .data (.arr 4 (.int .u64)) x0)] []
def St1 (c2 : List Int) : St := stL 6 [(2, .ref 2 [])] [(2, .var (.arr 32 (.int .u8)) (.data (.arr 32 (.int .u8)) c2))]
def top {α : Type} (Rt : (List Int) → Option α) (x0 : List Int) : Option α :=
  (Go.Bx.basculeref_text.run x0).bind fun y1 =>
  (Go.Bx.basculeref_word.run y1).bind fun y2 =>
  Rt y2
theorem top_eq {α : Type} (k : Nat) (Q : Ex → St → Option α) (x0 : List Int) :
    den C k (cB Try.f37) Q (St0 x0) = top (fun (c2 : List Int) => Q .ret (St1 c2)) x0 := by
  kernel_rfl
def run (x0 : List Int) : Option (List Int) := top (α := List Int) (fun (c2 : List Int) => some c2) x0
def F : Fn := ⟨(.pair (.arr 4 (.int .u64)) .unit), (.arr 32 (.int .u8)), false, fun x => run x.1⟩
set_option maxRecDepth 100000 in
theorem con : Con Try.prog 37 F := by
  refine con_of_den (C := C) (ctx_ok (by kernel_rfl) ⟨⟨Go.Bx.basculeref_word.con, Go.Bx.basculeref_word.named⟩, ⟨⟨Go.Bx.basculeref_text.con, Go.Bx.basculeref_text.named⟩, trivial⟩⟩) (by kernel_rfl) Try.func37 (c := cB Try.f37) (by kernel_rfl) (by kernel_rfl) F fuel (fun x => by simp [F, spread, Try.ntmps37]) ?_
  intro x r h
  rw [← h]
  have h1 : start F Try.f37.ntmps x = (St0 x.1) := by kernel_rfl
  rw [h1]
  refine (top_eq fuel (fin C Try.f37.results.toList F.rs F.multi) x.1).trans ?_
  kernel_rfl
theorem named : Named Try.prog 37 := named_of Try.func37 (by kernel_rfl) (by kernel_rfl)
end Go.Bx.basculeref_BytesOf
namespace Go.Bx.basculeref_FromBytes
open Go Go.Proofs Go.Bx
set_option maxRecDepth 100000
set_option linter.unusedVariables false
def C : Ctx := ⟨[(5, (.int .u8)), (27, (.int .u64)), (41, (.arr 32 (.int .u8))), (46, (.arr 4 (.int .u64)))], fnL [], [(2, [2]), (1, [2, 3]), (4, [2, 3, 6, 7]), (9, [2, 3, 6, 7]), (21, [2, 3])]⟩
def St0 (x0 : List Int) : St := stL 26 [(0, .data (.arr 32 (.int .u8)) x0)] []
def St1 (x6 : List Int) (x7 : Int) (c2 : List Int) (c3 : List Int) : St := stL 26 [(2, .ref 2 []), (3, .ref 3 []), (6, .data (.arr 32 (.int .u8)) x6), (7, .data (.int .i64) x7)] [(2, .var (.arr 4 (.int .u64)) (.data (.arr 4 (.int .u64)) c2)), (3, .var (.arr 4 (.int .u64)) (.data (.arr 4 (.int .u64)) c3))]
noncomputable def cd0 : Code := cL (cL (cR (cL (cR (cR (cB Try.f38))))))
def St2 (c2 : List Int) (c3 : List Int) : St := stL 26 [(2, .ref 2 []), (3, .ref 3 [])] [(2, .var (.arr 4 (.int .u64)) (.data (.arr 4 (.int .u64)) c2)), (3, .var (.arr 4 (.int .u64)) (.data (.arr 4 (.int .u64)) c3))]
def l0s {α : Type} (Nx : (List Int) → Int → (List Int) → (List Int) → Option α) (Xt0 : (List Int) → (List Int) → Option α) (x6 : List Int) (x7 : Int) (c2 : List Int) (c3 : List Int) : Option α :=
  if (decide (x7 < 32)) = true then
    if 0 ≤ x7 ∧ x7 < 32 then
      if 0 ≤ (IntKind.i64.wrap (3 - (IntKind.i64.wrap (Int.tdiv x7 8)))) ∧ (IntKind.i64.wrap (3 - (IntKind.i64.wrap (Int.tdiv x7 8)))) < 4 then
        if 0 ≤ (IntKind.i64.wrap (3 - (IntKind.i64.wrap (Int.tdiv x7 8)))) ∧ (IntKind.i64.wrap (3 - (IntKind.i64.wrap (Int.tdiv x7 8)))) < 4 then
          Nx x6 (IntKind.i64.wrap (x7 + 1)) c2 (List.set c3 (Int.toNat (IntKind.i64.wrap (3 - (IntKind.i64.wrap (Int.tdiv x7 8))))) (IntKind.u64.wrap ((IntKind.u64.wrap ((List.getD c3 (Int.toNat (IntKind.i64.wrap (3 - (IntKind.i64.wrap (Int.tdiv x7 8))))) 0) * 256)) + (IntKind.u64.wrap (List.getD x6 (Int.toNat x7) 0)))))
        else none
      else none
    else none
  else
    Xt0 c2 c3
theorem l0s_eq {α : Type} (k : Nat) (next : St → Option α) (Q : Ex → St → Option α) (x6 : List Int) (x7 : Int) (c2 : List Int) (c3 : List Int) :
    rnd C k cd0 9 Q next (St1 x6 x7 c2 c3) = l0s (fun (x6 : List Int) (x7 : Int) (c2 : List Int) (c3 : List Int) => next (St1 x6 x7 c2 c3)) (fun (c2 : List Int) (c3 : List Int) => Q (.exit 0) (St2 c2 c3)) x6 x7 c2 c3 := by
  kernel_rfl
def l0 {α : Type} (k : Nat) (Xt0 : (List Int) → (List Int) → Option α) : Nat → (List Int) → Int → (List Int) → (List Int) → Option α
  | 0, _, _, _, _ => none
  | n + 1, x6, x7, c2, c3 => l0s (l0 k Xt0 n) Xt0 x6 x7 c2 c3
theorem l0_eq {α : Type} (k : Nat) (Q : Ex → St → Option α) : ∀ (n : Nat) (x6 : List Int) (x7 : Int) (c2 : List Int) (c3 : List Int), iter (rnd C k cd0 9 Q) n (St1 x6 x7 c2 c3) = l0 k (fun (c2 : List Int) (c3 : List Int) => Q (.exit 0) (St2 c2 c3)) n x6 x7 c2 c3
  | 0, _, _, _, _ => rfl
  | n + 1, x6, x7, c2, c3 => (iter_succ _ _ _).trans ((l0s_eq k (iter (rnd C k cd0 9 Q) n) Q x6 x7 c2 c3).trans (congrArg (fun N => l0s N (fun (c2 : List Int) (c3 : List Int) => Q (.exit 0) (St2 c2 c3)) x6 x7 c2 c3) (funext fun x6 => funext fun x7 => funext fun c2 => funext fun c3 => l0_eq k Q n x6 x7 c2 c3)))
theorem l0_congr {α : Type} (k : Nat) (Xt0 : (List Int) → (List Int) → Option α) (Xt0q : (List Int) → (List Int) → Option α) (hXt0 : ∀ (c2 : List Int) (c3 : List Int), Xt0 c2 c3 = Xt0q c2 c3) (n : Nat) (x6 : List Int) (x7 : Int) (c2 : List Int) (c3 : List Int) : l0 k Xt0 n x6 x7 c2 c3 = l0 k Xt0q n x6 x7 c2 c3 := by
  obtain rfl : Xt0 = Xt0q := by funext c2; funext c3; exact hXt0 c2 c3
  rfl
noncomputable def cd1 : Code := cR (cR (cR (cB Try.f38)))
def St3 (c2 : List Int) (c3 : List Int) : St := stL 26 [(2, .ref 2 []), (3, .ref 3 [])] [(2, .var (.arr 4 (.int .u64)) (.data (.arr 4 (.int .u64)) c2)), (3, .var (.arr 4 (.int .u64)) (.data (.arr 4 (.int .u64)) c3))]
def St4 (c2 : List Int) : St := stL 26 [(2, .ref 2 [])] [(2, .var (.arr 4 (.int .u64)) (.data (.arr 4 (.int .u64)) c2))]
def j0 {α : Type} (Rt : (List Int) → Option α) (c2 : List Int) (c3 : List Int) : Option α :=
  Rt c3
theorem j0_eq {α : Type} (k : Nat) (Q : Ex → St → Option α) (c2 : List Int) (c3 : List Int) :
    den C k cd1 Q (St3 c2 c3) = j0 (fun (c2 : List Int) => Q .ret (St4 c2)) c2 c3 := by
  kernel_rfl
theorem a0 {α : Type} (k : Nat) (Q : Ex → St → Option α) (x6 : List Int) (x7 : Int) (c2 : List Int) (c3 : List Int) :
    iter (rnd C k cd0 9 (blkQ C 0 (sq C k cd1 Q))) k (St1 x6 x7 c2 c3) = l0 k (fun (c2 : List Int) (c3 : List Int) => j0 (fun (c2 : List Int) => Q .ret (St4 c2)) c2 c3) k x6 x7 c2 c3 :=
  (l0_eq k (blkQ C 0 (sq C k cd1 Q)) k x6 x7 c2 c3).trans (l0_congr k _ _ (fun c2 c3 => ((show (blkQ C 0 (sq C k cd1 Q)) (.exit 0) (St2 c2 c3) = den C k cd1 Q (St3 c2 c3) by kernel_rfl).trans (by simp only [j0_eq]))) k x6 x7 c2 c3)
def top {α : Type} (k : Nat) (Rt : (List Int) → Option α) (x0 : List Int) : Option α :=
  l0 k (fun (c2 : List Int) (c3 : List Int) => j0 Rt c2 c3) k x0 0 [0, 0, 0, 0] [0, 0, 0, 0]
theorem top_eq {α : Type} (k : Nat) (Q : Ex → St → Option α) (x0 : List Int) :
    den C k (cB Try.f38) Q (St0 x0) = top k (fun (c2 : List Int) => Q .ret (St4 c2)) x0 := by
  have h : den C k (cB Try.f38) Q (St0 x0) =
        iter (rnd C k cd0 9 (blkQ C 0 (sq C k cd1 Q))) k (St1 x0 0 [0, 0, 0, 0] [0, 0, 0, 0]) := by kernel_rfl
  rw [h]
  simp only [a0]
  first | rfl | kernel_rfl
def run (x0 : List Int) : Option (List Int) := top (α := List Int) fuel (fun (c2 : List Int) => some c2) x0
def F : Fn := ⟨(.pair (.arr 32 (.int .u8)) .unit), (.arr 4 (.int .u64)), false, fun x => run x.1⟩
set_option maxRecDepth 100000 in
theorem con : Con Try.prog 38 F := by
  refine con_of_den (C := C) (ctx_ok (by kernel_rfl) trivial) (by kernel_rfl) Try.func38 (c := cB Try.f38) (by kernel_rfl) (by kernel_rfl) F fuel (fun x => by simp [F, spread, Try.ntmps38]) ?_
  intro x r h
  rw [← h]
  have h1 : start F Try.f38.ntmps x = (St0 x.1) := by kernel_rfl
  rw [h1]
  refine (top_eq fuel (fin C Try.f38.results.toList F.rs F.multi) x.1).trans ?_
  kernel_rfl
theorem named : Named Try.prog 38 := named_of Try.func38 (by kernel_rfl) (by kernel_rfl)
end Go.Bx.basculeref_FromBytes
namespace Go.Bx.basculelaw_WideBytes
open Go Go.Proofs Go.Bx
set_option maxRecDepth 100000
set_option linter.unusedVariables false
def C : Ctx := ⟨[(4, .bool), (41, (.arr 32 (.int .u8))), (46, (.arr 4 (.int .u64)))], fnL [(35, Go.Bx.wide_Bytes.F), (36, Go.Bx.wide_From.F), (37, Go.Bx.basculeref_BytesOf.F), (38, Go.Bx.basculeref_FromBytes.F)], [(2, [4])]⟩
def St0 (x0 : List Int) (x1 : List Int) : St := stL 25 [(0, .data (.arr 4 (.int .u64)) x0), (1, .data (.arr 32 (.int .u8)) x1)] []
def St1 (x4 : Bool) : St := stL 25 [(4, .data .bool x4)] []
def top {α : Type} (Rt : Bool → Option α) (x0 : List Int) (x1 : List Int) : Option α :=
  (Go.Bx.wide_Bytes.run x0).bind fun y1 =>
  (Go.Bx.wide_From.run x1).bind fun y2 =>
  (Go.Bx.basculeref_BytesOf.run x0).bind fun y3 =>
  (Go.Bx.basculeref_FromBytes.run x1).bind fun y4 =>
  Rt (cond (beqD (.arr 32 (.int .u8)) y1 y3) (beqD (.arr 4 (.int .u64)) y2 y4) false)
theorem top_eq {α : Type} (k : Nat) (Q : Ex → St → Option α) (x0 : List Int) (x1 : List Int) :
    den C k (cB Try.f9) Q (St0 x0 x1) = top (fun (x4 : Bool) => Q .ret (St1 x4)) x0 x1 := by
  kernel_rfl
def run (x0 : List Int) (x1 : List Int) : Option (Bool) := top (α := Bool) (fun (x4 : Bool) => some x4) x0 x1
def F : Fn := ⟨(.pair (.arr 4 (.int .u64)) (.pair (.arr 32 (.int .u8)) .unit)), .bool, false, fun x => run x.1 x.2.1⟩
set_option maxRecDepth 100000 in
theorem con : Con Try.prog 9 F := by
  refine con_of_den (C := C) (ctx_ok (by kernel_rfl) ⟨⟨Go.Bx.wide_Bytes.con, Go.Bx.wide_Bytes.named⟩, ⟨⟨Go.Bx.wide_From.con, Go.Bx.wide_From.named⟩, ⟨⟨Go.Bx.basculeref_BytesOf.con, Go.Bx.basculeref_BytesOf.named⟩, ⟨⟨Go.Bx.basculeref_FromBytes.con, Go.Bx.basculeref_FromBytes.named⟩, trivial⟩⟩⟩⟩) (by kernel_rfl) Try.func9 (c := cB Try.f9) (by kernel_rfl) (by kernel_rfl) F fuel (fun x => by simp [F, spread, Try.ntmps9]) ?_
  intro x r h
  rw [← h]
  have h1 : start F Try.f9.ntmps x = (St0 x.1 x.2.1) := by kernel_rfl
  rw [h1]
  refine (top_eq fuel (fin C Try.f9.results.toList F.rs F.multi) x.1 x.2.1).trans ?_
  kernel_rfl
theorem named : Named Try.prog 9 := named_of Try.func9 (by kernel_rfl) (by kernel_rfl)
end Go.Bx.basculelaw_WideBytes
