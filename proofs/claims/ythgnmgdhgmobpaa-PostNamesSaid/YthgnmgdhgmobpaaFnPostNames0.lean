/- Go functions of this seat in their own words of Lean, each tied to its code by a contract. -/
import Derived.Test.YthgnmgdhgmobpaaGBase
namespace Go.Bx.post_Emitter
open Go Go.Proofs Go.Bx
set_option maxRecDepth 100000
set_option linter.unusedVariables false
def C : Ctx := ⟨[(3, (.int .i64)), (5, (.int .u8)), (41, (.arr 32 (.int .u8)))], fnL [], [(2, [2])]⟩
def St0 (x0 : Int) : St := stL 9 [(0, .data (.int .i64) x0)] []
def St1 (c2 : List Int) : St := stL 9 [(2, .ref 2 [])] [(2, .var (.arr 32 (.int .u8)) (.data (.arr 32 (.int .u8)) c2))]
def top {α : Type} (Rt : (List Int) → Option α) (x0 : Int) : Option α :=
  Rt (List.set (List.set (List.replicate 32 0) 0 176) 31 (IntKind.u8.wrap x0))
theorem top_eq {α : Type} (k : Nat) (Q : Ex → St → Option α) (x0 : Int) :
    den C k (cB Try.f39) Q (St0 x0) = top (fun (c2 : List Int) => Q .ret (St1 c2)) x0 := by
  kernel_rfl
def run (x0 : Int) : Option (List Int) := top (α := List Int) (fun (c2 : List Int) => some c2) x0
def F : Fn := ⟨(.pair (.int .i64) .unit), (.arr 32 (.int .u8)), false, fun x => run x.1⟩
set_option maxRecDepth 100000 in
theorem con : Con Try.prog 39 F := by
  refine con_of_den (C := C) (ctx_ok (by kernel_rfl) trivial) (by kernel_rfl) Try.func39 (c := cB Try.f39) (by kernel_rfl) (by kernel_rfl) F fuel (fun x => by simp [F, spread, Try.ntmps39]) ?_
  intro x r h
  rw [← h]
  have h1 : start F Try.f39.ntmps x = (St0 x.1) := by kernel_rfl
  rw [h1]
  refine (top_eq fuel (fin C Try.f39.results.toList F.rs F.multi) x.1).trans ?_
  kernel_rfl
theorem named : Named Try.prog 39 := named_of Try.func39 (by kernel_rfl) (by kernel_rfl)
end Go.Bx.post_Emitter
namespace Go.Bx.post_Vault
open Go Go.Proofs Go.Bx
set_option maxRecDepth 100000
set_option linter.unusedVariables false
def C : Ctx := ⟨[(5, (.int .u8)), (41, (.arr 32 (.int .u8)))], fnL [], [(2, [0]), (1, [0, 1]), (4, [0, 1, 3]), (9, [0, 1, 3]), (21, [0, 1])]⟩
def St0 : St := stL 10 [] []
def St1 (x3 : Int) (c0 : List Int) (c1 : List Int) : St := stL 10 [(0, .ref 0 []), (1, .ref 1 []), (3, .data (.int .i64) x3)] [(0, .var (.arr 32 (.int .u8)) (.data (.arr 32 (.int .u8)) c0)), (1, .var (.arr 32 (.int .u8)) (.data (.arr 32 (.int .u8)) c1))]
noncomputable def cd0 : Code := cL (cL (cR (cL (cR (cR (cB Try.f40))))))
def St2 (c0 : List Int) (c1 : List Int) : St := stL 10 [(0, .ref 0 []), (1, .ref 1 [])] [(0, .var (.arr 32 (.int .u8)) (.data (.arr 32 (.int .u8)) c0)), (1, .var (.arr 32 (.int .u8)) (.data (.arr 32 (.int .u8)) c1))]
def l0s {α : Type} (Nx : Int → (List Int) → (List Int) → Option α) (Xt0 : (List Int) → (List Int) → Option α) (x3 : Int) (c0 : List Int) (c1 : List Int) : Option α :=
  if (decide (x3 < 32)) = true then
    if 0 ≤ x3 ∧ x3 < 32 then
      Nx (IntKind.i64.wrap (x3 + 1)) c0 (List.set c1 (Int.toNat x3) 255)
    else none
  else
    Xt0 c0 c1
theorem l0s_eq {α : Type} (k : Nat) (next : St → Option α) (Q : Ex → St → Option α) (x3 : Int) (c0 : List Int) (c1 : List Int) :
    rnd C k cd0 9 Q next (St1 x3 c0 c1) = l0s (fun (x3 : Int) (c0 : List Int) (c1 : List Int) => next (St1 x3 c0 c1)) (fun (c0 : List Int) (c1 : List Int) => Q (.exit 0) (St2 c0 c1)) x3 c0 c1 := by
  kernel_rfl
def l0 {α : Type} (k : Nat) (Xt0 : (List Int) → (List Int) → Option α) : Nat → Int → (List Int) → (List Int) → Option α
  | 0, _, _, _ => none
  | n + 1, x3, c0, c1 => l0s (l0 k Xt0 n) Xt0 x3 c0 c1
theorem l0_eq {α : Type} (k : Nat) (Q : Ex → St → Option α) : ∀ (n : Nat) (x3 : Int) (c0 : List Int) (c1 : List Int), iter (rnd C k cd0 9 Q) n (St1 x3 c0 c1) = l0 k (fun (c0 : List Int) (c1 : List Int) => Q (.exit 0) (St2 c0 c1)) n x3 c0 c1
  | 0, _, _, _ => rfl
  | n + 1, x3, c0, c1 => (iter_succ _ _ _).trans ((l0s_eq k (iter (rnd C k cd0 9 Q) n) Q x3 c0 c1).trans (congrArg (fun N => l0s N (fun (c0 : List Int) (c1 : List Int) => Q (.exit 0) (St2 c0 c1)) x3 c0 c1) (funext fun x3 => funext fun c0 => funext fun c1 => l0_eq k Q n x3 c0 c1)))
theorem l0_congr {α : Type} (k : Nat) (Xt0 : (List Int) → (List Int) → Option α) (Xt0q : (List Int) → (List Int) → Option α) (hXt0 : ∀ (c0 : List Int) (c1 : List Int), Xt0 c0 c1 = Xt0q c0 c1) (n : Nat) (x3 : Int) (c0 : List Int) (c1 : List Int) : l0 k Xt0 n x3 c0 c1 = l0 k Xt0q n x3 c0 c1 := by
  obtain rfl : Xt0 = Xt0q := by funext c0; funext c1; exact hXt0 c0 c1
  rfl
noncomputable def cd1 : Code := cR (cR (cR (cB Try.f40)))
def St3 (c0 : List Int) (c1 : List Int) : St := stL 10 [(0, .ref 0 []), (1, .ref 1 [])] [(0, .var (.arr 32 (.int .u8)) (.data (.arr 32 (.int .u8)) c0)), (1, .var (.arr 32 (.int .u8)) (.data (.arr 32 (.int .u8)) c1))]
def St4 (c0 : List Int) : St := stL 10 [(0, .ref 0 [])] [(0, .var (.arr 32 (.int .u8)) (.data (.arr 32 (.int .u8)) c0))]
def j0 {α : Type} (Rt : (List Int) → Option α) (c0 : List Int) (c1 : List Int) : Option α :=
  Rt c1
theorem j0_eq {α : Type} (k : Nat) (Q : Ex → St → Option α) (c0 : List Int) (c1 : List Int) :
    den C k cd1 Q (St3 c0 c1) = j0 (fun (c0 : List Int) => Q .ret (St4 c0)) c0 c1 := by
  kernel_rfl
theorem a0 {α : Type} (k : Nat) (Q : Ex → St → Option α) (x3 : Int) (c0 : List Int) (c1 : List Int) :
    iter (rnd C k cd0 9 (blkQ C 0 (sq C k cd1 Q))) k (St1 x3 c0 c1) = l0 k (fun (c0 : List Int) (c1 : List Int) => j0 (fun (c0 : List Int) => Q .ret (St4 c0)) c0 c1) k x3 c0 c1 :=
  (l0_eq k (blkQ C 0 (sq C k cd1 Q)) k x3 c0 c1).trans (l0_congr k _ _ (fun c0 c1 => ((show (blkQ C 0 (sq C k cd1 Q)) (.exit 0) (St2 c0 c1) = den C k cd1 Q (St3 c0 c1) by kernel_rfl).trans (by simp only [j0_eq]))) k x3 c0 c1)
def top {α : Type} (k : Nat) (Rt : (List Int) → Option α) : Option α :=
  l0 k (fun (c0 : List Int) (c1 : List Int) => j0 Rt c0 c1) k 0 (List.replicate 32 0) (List.replicate 32 0)
theorem top_eq {α : Type} (k : Nat) (Q : Ex → St → Option α) :
    den C k (cB Try.f40) Q St0 = top k (fun (c0 : List Int) => Q .ret (St4 c0)) := by
  have h : den C k (cB Try.f40) Q St0 =
        iter (rnd C k cd0 9 (blkQ C 0 (sq C k cd1 Q))) k (St1 0 (List.replicate 32 0) (List.replicate 32 0)) := by kernel_rfl
  rw [h]
  simp only [a0]
  first | rfl | kernel_rfl
def run : Option (List Int) := top (α := List Int) fuel (fun (c0 : List Int) => some c0)
def F : Fn := ⟨.unit, (.arr 32 (.int .u8)), false, fun x => run⟩
set_option maxRecDepth 100000 in
theorem con : Con Try.prog 40 F := by
  refine con_of_den (C := C) (ctx_ok (by kernel_rfl) trivial) (by kernel_rfl) Try.func40 (c := cB Try.f40) (by kernel_rfl) (by kernel_rfl) F fuel (fun x => by simp [F, spread, Try.ntmps40]) ?_
  intro x r h
  rw [← h]
  have h1 : start F Try.f40.ntmps x = St0 := by kernel_rfl
  rw [h1]
  refine (top_eq fuel (fin C Try.f40.results.toList F.rs F.multi)).trans ?_
  kernel_rfl
theorem named : Named Try.prog 40 := named_of Try.func40 (by kernel_rfl) (by kernel_rfl)
end Go.Bx.post_Vault
namespace Go.Bx.post_Ruler
open Go Go.Proofs Go.Bx
set_option maxRecDepth 100000
set_option linter.unusedVariables false
def C : Ctx := ⟨[(5, (.int .u8)), (41, (.arr 32 (.int .u8)))], fnL [], [(2, [0])]⟩
def St0 : St := stL 4 [] []
def St1 (c0 : List Int) : St := stL 4 [(0, .ref 0 [])] [(0, .var (.arr 32 (.int .u8)) (.data (.arr 32 (.int .u8)) c0))]
def top {α : Type} (Rt : (List Int) → Option α) : Option α :=
  Rt (List.set (List.replicate 32 0) 0 7)
theorem top_eq {α : Type} (k : Nat) (Q : Ex → St → Option α) :
    den C k (cB Try.f41) Q St0 = top (fun (c0 : List Int) => Q .ret (St1 c0)) := by
  kernel_rfl
def run : Option (List Int) := top (α := List Int) (fun (c0 : List Int) => some c0)
def F : Fn := ⟨.unit, (.arr 32 (.int .u8)), false, fun x => run⟩
set_option maxRecDepth 100000 in
theorem con : Con Try.prog 41 F := by
  refine con_of_den (C := C) (ctx_ok (by kernel_rfl) trivial) (by kernel_rfl) Try.func41 (c := cB Try.f41) (by kernel_rfl) (by kernel_rfl) F fuel (fun x => by simp [F, spread, Try.ntmps41]) ?_
  intro x r h
  rw [← h]
  have h1 : start F Try.f41.ntmps x = St0 := by kernel_rfl
  rw [h1]
  refine (top_eq fuel (fin C Try.f41.results.toList F.rs F.multi)).trans ?_
  kernel_rfl
theorem named : Named Try.prog 41 := named_of Try.func41 (by kernel_rfl) (by kernel_rfl)
end Go.Bx.post_Ruler
namespace Go.Bx.basculeref_word
open Go Go.Proofs Go.Bx
set_option maxRecDepth 100000
set_option linter.unusedVariables false
def C : Ctx := ⟨[(5, (.int .u8)), (9, .str), (41, (.arr 32 (.int .u8)))], fnL [], [(2, [2]), (1, [2, 3]), (4, [0, 2, 3, 4]), (9, [0, 2, 3, 4]), (18, [2, 3])]⟩
def St0 (x0 : List Int) : St := stL 21 [(0, .data .str x0)] []
def St1 (x0 : List Int) (x4 : Int) (c2 : List Int) (c3 : List Int) : St := stL 21 [(0, .data .str x0), (2, .ref 2 []), (3, .ref 3 []), (4, .data (.int .i64) x4)] [(2, .var (.arr 32 (.int .u8)) (.data (.arr 32 (.int .u8)) c2)), (3, .var (.arr 32 (.int .u8)) (.data (.arr 32 (.int .u8)) c3))]
noncomputable def cd0 : Code := cL (cL (cR (cL (cR (cR (cB Try.f78))))))
def St2 (c2 : List Int) (c3 : List Int) : St := stL 21 [(2, .ref 2 []), (3, .ref 3 [])] [(2, .var (.arr 32 (.int .u8)) (.data (.arr 32 (.int .u8)) c2)), (3, .var (.arr 32 (.int .u8)) (.data (.arr 32 (.int .u8)) c3))]
def l0s {α : Type} (Nx : (List Int) → Int → (List Int) → (List Int) → Option α) (Xt0 : (List Int) → (List Int) → Option α) (x0 : List Int) (x4 : Int) (c2 : List Int) (c3 : List Int) : Option α :=
  if (cond (decide (x4 < (x0.length : Int))) (decide (x4 < 32)) false) = true then
    if 0 ≤ x4 ∧ x4 < (x0.length : Int) then
      if 0 ≤ x4 ∧ x4 < 32 then
        Nx x0 (IntKind.i64.wrap (x4 + 1)) c2 (List.set c3 (Int.toNat x4) (List.getD x0 (Int.toNat x4) 0))
      else none
    else none
  else
    Xt0 c2 c3
theorem l0s_eq {α : Type} (k : Nat) (next : St → Option α) (Q : Ex → St → Option α) (x0 : List Int) (x4 : Int) (c2 : List Int) (c3 : List Int) :
    rnd C k cd0 9 Q next (St1 x0 x4 c2 c3) = l0s (fun (x0 : List Int) (x4 : Int) (c2 : List Int) (c3 : List Int) => next (St1 x0 x4 c2 c3)) (fun (c2 : List Int) (c3 : List Int) => Q (.exit 0) (St2 c2 c3)) x0 x4 c2 c3 := by
  kernel_rfl
def l0 {α : Type} (k : Nat) (Xt0 : (List Int) → (List Int) → Option α) : Nat → (List Int) → Int → (List Int) → (List Int) → Option α
  | 0, _, _, _, _ => none
  | n + 1, x0, x4, c2, c3 => l0s (l0 k Xt0 n) Xt0 x0 x4 c2 c3
theorem l0_eq {α : Type} (k : Nat) (Q : Ex → St → Option α) : ∀ (n : Nat) (x0 : List Int) (x4 : Int) (c2 : List Int) (c3 : List Int), iter (rnd C k cd0 9 Q) n (St1 x0 x4 c2 c3) = l0 k (fun (c2 : List Int) (c3 : List Int) => Q (.exit 0) (St2 c2 c3)) n x0 x4 c2 c3
  | 0, _, _, _, _ => rfl
  | n + 1, x0, x4, c2, c3 => (iter_succ _ _ _).trans ((l0s_eq k (iter (rnd C k cd0 9 Q) n) Q x0 x4 c2 c3).trans (congrArg (fun N => l0s N (fun (c2 : List Int) (c3 : List Int) => Q (.exit 0) (St2 c2 c3)) x0 x4 c2 c3) (funext fun x0 => funext fun x4 => funext fun c2 => funext fun c3 => l0_eq k Q n x0 x4 c2 c3)))
theorem l0_congr {α : Type} (k : Nat) (Xt0 : (List Int) → (List Int) → Option α) (Xt0q : (List Int) → (List Int) → Option α) (hXt0 : ∀ (c2 : List Int) (c3 : List Int), Xt0 c2 c3 = Xt0q c2 c3) (n : Nat) (x0 : List Int) (x4 : Int) (c2 : List Int) (c3 : List Int) : l0 k Xt0 n x0 x4 c2 c3 = l0 k Xt0q n x0 x4 c2 c3 := by
  obtain rfl : Xt0 = Xt0q := by funext c2; funext c3; exact hXt0 c2 c3
  rfl
noncomputable def cd1 : Code := cR (cR (cR (cB Try.f78)))
def St3 (c2 : List Int) (c3 : List Int) : St := stL 21 [(2, .ref 2 []), (3, .ref 3 [])] [(2, .var (.arr 32 (.int .u8)) (.data (.arr 32 (.int .u8)) c2)), (3, .var (.arr 32 (.int .u8)) (.data (.arr 32 (.int .u8)) c3))]
def St4 (c2 : List Int) : St := stL 21 [(2, .ref 2 [])] [(2, .var (.arr 32 (.int .u8)) (.data (.arr 32 (.int .u8)) c2))]
def j0 {α : Type} (Rt : (List Int) → Option α) (c2 : List Int) (c3 : List Int) : Option α :=
  Rt c3
theorem j0_eq {α : Type} (k : Nat) (Q : Ex → St → Option α) (c2 : List Int) (c3 : List Int) :
    den C k cd1 Q (St3 c2 c3) = j0 (fun (c2 : List Int) => Q .ret (St4 c2)) c2 c3 := by
  kernel_rfl
theorem a0 {α : Type} (k : Nat) (Q : Ex → St → Option α) (x0 : List Int) (x4 : Int) (c2 : List Int) (c3 : List Int) :
    iter (rnd C k cd0 9 (blkQ C 0 (sq C k cd1 Q))) k (St1 x0 x4 c2 c3) = l0 k (fun (c2 : List Int) (c3 : List Int) => j0 (fun (c2 : List Int) => Q .ret (St4 c2)) c2 c3) k x0 x4 c2 c3 :=
  (l0_eq k (blkQ C 0 (sq C k cd1 Q)) k x0 x4 c2 c3).trans (l0_congr k _ _ (fun c2 c3 => ((show (blkQ C 0 (sq C k cd1 Q)) (.exit 0) (St2 c2 c3) = den C k cd1 Q (St3 c2 c3) by kernel_rfl).trans (by simp only [j0_eq]))) k x0 x4 c2 c3)
def top {α : Type} (k : Nat) (Rt : (List Int) → Option α) (x0 : List Int) : Option α :=
  l0 k (fun (c2 : List Int) (c3 : List Int) => j0 Rt c2 c3) k x0 0 (List.replicate 32 0) (List.replicate 32 0)
theorem top_eq {α : Type} (k : Nat) (Q : Ex → St → Option α) (x0 : List Int) :
    den C k (cB Try.f78) Q (St0 x0) = top k (fun (c2 : List Int) => Q .ret (St4 c2)) x0 := by
  have h : den C k (cB Try.f78) Q (St0 x0) =
        iter (rnd C k cd0 9 (blkQ C 0 (sq C k cd1 Q))) k (St1 x0 0 (List.replicate 32 0) (List.replicate 32 0)) := by kernel_rfl
  rw [h]
  simp only [a0]
  first | rfl | kernel_rfl
def run (x0 : List Int) : Option (List Int) := top (α := List Int) fuel (fun (c2 : List Int) => some c2) x0
def F : Fn := ⟨(.pair .str .unit), (.arr 32 (.int .u8)), false, fun x => run x.1⟩
set_option maxRecDepth 100000 in
theorem con : Con Try.prog 78 F := by
  refine con_of_den (C := C) (ctx_ok (by kernel_rfl) trivial) (by kernel_rfl) Try.func78 (c := cB Try.f78) (by kernel_rfl) (by kernel_rfl) F fuel (fun x => by simp [F, spread, Try.ntmps78]) ?_
  intro x r h
  rw [← h]
  have h1 : start F Try.f78.ntmps x = (St0 x.1) := by kernel_rfl
  rw [h1]
  refine (top_eq fuel (fin C Try.f78.results.toList F.rs F.multi) x.1).trans ?_
  kernel_rfl
theorem named : Named Try.prog 78 := named_of Try.func78 (by kernel_rfl) (by kernel_rfl)
end Go.Bx.basculeref_word
namespace Go.Bx.basculeref_EmitterOf
open Go Go.Proofs Go.Bx
set_option maxRecDepth 100000
set_option linter.unusedVariables false
def C : Ctx := ⟨[(3, (.int .i64)), (5, (.int .u8)), (41, (.arr 32 (.int .u8)))], fnL [(78, Go.Bx.basculeref_word.F)], [(2, [2])]⟩
def St0 (x0 : Int) : St := stL 9 [(0, .data (.int .i64) x0)] []
def St1 (c2 : List Int) : St := stL 9 [(2, .ref 2 [])] [(2, .var (.arr 32 (.int .u8)) (.data (.arr 32 (.int .u8)) c2))]
def top {α : Type} (Rt : (List Int) → Option α) (x0 : Int) : Option α :=
  (Go.Bx.basculeref_word.run [176]).bind fun y1 =>
  Rt (List.set y1 31 (IntKind.u8.wrap x0))
theorem top_eq {α : Type} (k : Nat) (Q : Ex → St → Option α) (x0 : Int) :
    den C k (cB Try.f42) Q (St0 x0) = top (fun (c2 : List Int) => Q .ret (St1 c2)) x0 := by
  kernel_rfl
def run (x0 : Int) : Option (List Int) := top (α := List Int) (fun (c2 : List Int) => some c2) x0
def F : Fn := ⟨(.pair (.int .i64) .unit), (.arr 32 (.int .u8)), false, fun x => run x.1⟩
set_option maxRecDepth 100000 in
theorem con : Con Try.prog 42 F := by
  refine con_of_den (C := C) (ctx_ok (by kernel_rfl) ⟨⟨Go.Bx.basculeref_word.con, Go.Bx.basculeref_word.named⟩, trivial⟩) (by kernel_rfl) Try.func42 (c := cB Try.f42) (by kernel_rfl) (by kernel_rfl) F fuel (fun x => by simp [F, spread, Try.ntmps42]) ?_
  intro x r h
  rw [← h]
  have h1 : start F Try.f42.ntmps x = (St0 x.1) := by kernel_rfl
  rw [h1]
  refine (top_eq fuel (fin C Try.f42.results.toList F.rs F.multi) x.1).trans ?_
  kernel_rfl
theorem named : Named Try.prog 42 := named_of Try.func42 (by kernel_rfl) (by kernel_rfl)
end Go.Bx.basculeref_EmitterOf
namespace Go.Bx.basculeref_Vault
open Go Go.Proofs Go.Bx
set_option maxRecDepth 100000
set_option linter.unusedVariables false
def C : Ctx := ⟨[(41, (.arr 32 (.int .u8)))], fnL [(78, Go.Bx.basculeref_word.F)], [(2, [0]), (1, [0, 1]), (4, [0, 1, 2]), (9, [0, 1, 2]), (18, [0, 1])]⟩
def St0 : St := stL 9 [] []
def St1 (x1 : List Int) (x2 : Int) (c0 : List Int) : St := stL 9 [(0, .ref 0 []), (1, .data .str x1), (2, .data (.int .i64) x2)] [(0, .var (.arr 32 (.int .u8)) (.data (.arr 32 (.int .u8)) c0))]
noncomputable def cd0 : Code := cL (cL (cR (cL (cR (cR (cB Try.f43))))))
def St2 (x1 : List Int) (c0 : List Int) : St := stL 9 [(0, .ref 0 []), (1, .data .str x1)] [(0, .var (.arr 32 (.int .u8)) (.data (.arr 32 (.int .u8)) c0))]
def l0s {α : Type} (Nx : (List Int) → Int → (List Int) → Option α) (Xt0 : (List Int) → (List Int) → Option α) (x1 : List Int) (x2 : Int) (c0 : List Int) : Option α :=
  if (decide (x2 < 32)) = true then
    if Nat.ble (x1.length + 1) 9223372036854775807 = true then
      Nx (x1 ++ [255]) (IntKind.i64.wrap (x2 + 1)) c0
    else none
  else
    Xt0 x1 c0
theorem l0s_eq {α : Type} (k : Nat) (next : St → Option α) (Q : Ex → St → Option α) (x1 : List Int) (x2 : Int) (c0 : List Int) :
    rnd C k cd0 9 Q next (St1 x1 x2 c0) = l0s (fun (x1 : List Int) (x2 : Int) (c0 : List Int) => next (St1 x1 x2 c0)) (fun (x1 : List Int) (c0 : List Int) => Q (.exit 0) (St2 x1 c0)) x1 x2 c0 := by
  kernel_rfl
def l0 {α : Type} (k : Nat) (Xt0 : (List Int) → (List Int) → Option α) : Nat → (List Int) → Int → (List Int) → Option α
  | 0, _, _, _ => none
  | n + 1, x1, x2, c0 => l0s (l0 k Xt0 n) Xt0 x1 x2 c0
theorem l0_eq {α : Type} (k : Nat) (Q : Ex → St → Option α) : ∀ (n : Nat) (x1 : List Int) (x2 : Int) (c0 : List Int), iter (rnd C k cd0 9 Q) n (St1 x1 x2 c0) = l0 k (fun (x1 : List Int) (c0 : List Int) => Q (.exit 0) (St2 x1 c0)) n x1 x2 c0
  | 0, _, _, _ => rfl
  | n + 1, x1, x2, c0 => (iter_succ _ _ _).trans ((l0s_eq k (iter (rnd C k cd0 9 Q) n) Q x1 x2 c0).trans (congrArg (fun N => l0s N (fun (x1 : List Int) (c0 : List Int) => Q (.exit 0) (St2 x1 c0)) x1 x2 c0) (funext fun x1 => funext fun x2 => funext fun c0 => l0_eq k Q n x1 x2 c0)))
theorem l0_congr {α : Type} (k : Nat) (Xt0 : (List Int) → (List Int) → Option α) (Xt0q : (List Int) → (List Int) → Option α) (hXt0 : ∀ (x1 : List Int) (c0 : List Int), Xt0 x1 c0 = Xt0q x1 c0) (n : Nat) (x1 : List Int) (x2 : Int) (c0 : List Int) : l0 k Xt0 n x1 x2 c0 = l0 k Xt0q n x1 x2 c0 := by
  obtain rfl : Xt0 = Xt0q := by funext x1; funext c0; exact hXt0 x1 c0
  rfl
noncomputable def cd1 : Code := cR (cR (cR (cB Try.f43)))
def St3 (x1 : List Int) (c0 : List Int) : St := stL 9 [(0, .ref 0 []), (1, .data .str x1)] [(0, .var (.arr 32 (.int .u8)) (.data (.arr 32 (.int .u8)) c0))]
def St4 (c0 : List Int) : St := stL 9 [(0, .ref 0 [])] [(0, .var (.arr 32 (.int .u8)) (.data (.arr 32 (.int .u8)) c0))]
def j0 {α : Type} (Rt : (List Int) → Option α) (x1 : List Int) (c0 : List Int) : Option α :=
  (Go.Bx.basculeref_word.run x1).bind fun y1 =>
  Rt y1
theorem j0_eq {α : Type} (k : Nat) (Q : Ex → St → Option α) (x1 : List Int) (c0 : List Int) :
    den C k cd1 Q (St3 x1 c0) = j0 (fun (c0 : List Int) => Q .ret (St4 c0)) x1 c0 := by
  kernel_rfl
theorem a0 {α : Type} (k : Nat) (Q : Ex → St → Option α) (x1 : List Int) (x2 : Int) (c0 : List Int) :
    iter (rnd C k cd0 9 (blkQ C 0 (sq C k cd1 Q))) k (St1 x1 x2 c0) = l0 k (fun (x1 : List Int) (c0 : List Int) => j0 (fun (c0 : List Int) => Q .ret (St4 c0)) x1 c0) k x1 x2 c0 :=
  (l0_eq k (blkQ C 0 (sq C k cd1 Q)) k x1 x2 c0).trans (l0_congr k _ _ (fun x1 c0 => ((show (blkQ C 0 (sq C k cd1 Q)) (.exit 0) (St2 x1 c0) = den C k cd1 Q (St3 x1 c0) by kernel_rfl).trans (by simp only [j0_eq]))) k x1 x2 c0)
def top {α : Type} (k : Nat) (Rt : (List Int) → Option α) : Option α :=
  l0 k (fun (x1 : List Int) (c0 : List Int) => j0 Rt x1 c0) k [] 0 (List.replicate 32 0)
theorem top_eq {α : Type} (k : Nat) (Q : Ex → St → Option α) :
    den C k (cB Try.f43) Q St0 = top k (fun (c0 : List Int) => Q .ret (St4 c0)) := by
  have h : den C k (cB Try.f43) Q St0 =
        iter (rnd C k cd0 9 (blkQ C 0 (sq C k cd1 Q))) k (St1 [] 0 (List.replicate 32 0)) := by kernel_rfl
  rw [h]
  simp only [a0]
  first | rfl | kernel_rfl
def run : Option (List Int) := top (α := List Int) fuel (fun (c0 : List Int) => some c0)
def F : Fn := ⟨.unit, (.arr 32 (.int .u8)), false, fun x => run⟩
set_option maxRecDepth 100000 in
theorem con : Con Try.prog 43 F := by
  refine con_of_den (C := C) (ctx_ok (by kernel_rfl) ⟨⟨Go.Bx.basculeref_word.con, Go.Bx.basculeref_word.named⟩, trivial⟩) (by kernel_rfl) Try.func43 (c := cB Try.f43) (by kernel_rfl) (by kernel_rfl) F fuel (fun x => by simp [F, spread, Try.ntmps43]) ?_
  intro x r h
  rw [← h]
  have h1 : start F Try.f43.ntmps x = St0 := by kernel_rfl
  rw [h1]
  refine (top_eq fuel (fin C Try.f43.results.toList F.rs F.multi)).trans ?_
  kernel_rfl
theorem named : Named Try.prog 43 := named_of Try.func43 (by kernel_rfl) (by kernel_rfl)
end Go.Bx.basculeref_Vault
namespace Go.Bx.basculeref_Ruler
open Go Go.Proofs Go.Bx
set_option maxRecDepth 100000
set_option linter.unusedVariables false
def C : Ctx := ⟨[(41, (.arr 32 (.int .u8)))], fnL [(78, Go.Bx.basculeref_word.F)], [(2, [0])]⟩
def St0 : St := stL 2 [] []
def St1 (c0 : List Int) : St := stL 2 [(0, .ref 0 [])] [(0, .var (.arr 32 (.int .u8)) (.data (.arr 32 (.int .u8)) c0))]
def top {α : Type} (Rt : (List Int) → Option α) : Option α :=
  (Go.Bx.basculeref_word.run [7]).bind fun y1 =>
  Rt y1
theorem top_eq {α : Type} (k : Nat) (Q : Ex → St → Option α) :
    den C k (cB Try.f44) Q St0 = top (fun (c0 : List Int) => Q .ret (St1 c0)) := by
  kernel_rfl
def run : Option (List Int) := top (α := List Int) (fun (c0 : List Int) => some c0)
def F : Fn := ⟨.unit, (.arr 32 (.int .u8)), false, fun x => run⟩
set_option maxRecDepth 100000 in
theorem con : Con Try.prog 44 F := by
  refine con_of_den (C := C) (ctx_ok (by kernel_rfl) ⟨⟨Go.Bx.basculeref_word.con, Go.Bx.basculeref_word.named⟩, trivial⟩) (by kernel_rfl) Try.func44 (c := cB Try.f44) (by kernel_rfl) (by kernel_rfl) F fuel (fun x => by simp [F, spread, Try.ntmps44]) ?_
  intro x r h
  rw [← h]
  have h1 : start F Try.f44.ntmps x = St0 := by kernel_rfl
  rw [h1]
  refine (top_eq fuel (fin C Try.f44.results.toList F.rs F.multi)).trans ?_
  kernel_rfl
theorem named : Named Try.prog 44 := named_of Try.func44 (by kernel_rfl) (by kernel_rfl)
end Go.Bx.basculeref_Ruler
namespace Go.Bx.basculelaw_PostNames
open Go Go.Proofs Go.Bx
set_option maxRecDepth 100000
set_option linter.unusedVariables false
def C : Ctx := ⟨[(3, (.int .i64)), (4, .bool), (41, (.arr 32 (.int .u8)))], fnL [(39, Go.Bx.post_Emitter.F), (40, Go.Bx.post_Vault.F), (41, Go.Bx.post_Ruler.F), (42, Go.Bx.basculeref_EmitterOf.F), (43, Go.Bx.basculeref_Vault.F), (44, Go.Bx.basculeref_Ruler.F)], [(2, [2])]⟩
def St0 (x0 : Int) : St := stL 30 [(0, .data (.int .i64) x0)] []
def St1 (x2 : Bool) : St := stL 30 [(2, .data .bool x2)] []
def top {α : Type} (Rt : Bool → Option α) (x0 : Int) : Option α :=
  (Go.Bx.post_Emitter.run x0).bind fun y1 =>
  (Go.Bx.post_Vault.run).bind fun y2 =>
  (Go.Bx.post_Ruler.run).bind fun y3 =>
  (Go.Bx.basculeref_EmitterOf.run x0).bind fun y4 =>
  (Go.Bx.basculeref_Vault.run).bind fun y5 =>
  (Go.Bx.basculeref_Ruler.run).bind fun y6 =>
  Rt (cond (cond (beqD (.arr 32 (.int .u8)) y1 y4) (beqD (.arr 32 (.int .u8)) y2 y5) false) (beqD (.arr 32 (.int .u8)) y3 y6) false)
theorem top_eq {α : Type} (k : Nat) (Q : Ex → St → Option α) (x0 : Int) :
    den C k (cB Try.f10) Q (St0 x0) = top (fun (x2 : Bool) => Q .ret (St1 x2)) x0 := by
  kernel_rfl
def run (x0 : Int) : Option (Bool) := top (α := Bool) (fun (x2 : Bool) => some x2) x0
def F : Fn := ⟨(.pair (.int .i64) .unit), .bool, false, fun x => run x.1⟩
set_option maxRecDepth 100000 in
theorem con : Con Try.prog 10 F := by
  refine con_of_den (C := C) (ctx_ok (by kernel_rfl) ⟨⟨Go.Bx.post_Emitter.con, Go.Bx.post_Emitter.named⟩, ⟨⟨Go.Bx.post_Vault.con, Go.Bx.post_Vault.named⟩, ⟨⟨Go.Bx.post_Ruler.con, Go.Bx.post_Ruler.named⟩, ⟨⟨Go.Bx.basculeref_EmitterOf.con, Go.Bx.basculeref_EmitterOf.named⟩, ⟨⟨Go.Bx.basculeref_Vault.con, Go.Bx.basculeref_Vault.named⟩, ⟨⟨Go.Bx.basculeref_Ruler.con, Go.Bx.basculeref_Ruler.named⟩, trivial⟩⟩⟩⟩⟩⟩) (by kernel_rfl) Try.func10 (c := cB Try.f10) (by kernel_rfl) (by kernel_rfl) F fuel (fun x => by simp [F, spread, Try.ntmps10]) ?_
  intro x r h
  rw [← h]
  have h1 : start F Try.f10.ntmps x = (St0 x.1) := by kernel_rfl
  rw [h1]
  refine (top_eq fuel (fin C Try.f10.results.toList F.rs F.multi) x.1).trans ?_
  kernel_rfl
theorem named : Named Try.prog 10 := named_of Try.func10 (by kernel_rfl) (by kernel_rfl)
end Go.Bx.basculelaw_PostNames
