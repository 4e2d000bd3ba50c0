/- Go functions of this seat in their own words of Lean, each tied to its code by a contract. -/
import Derived.Test.YthgnmgdhgmobpaaGBase
namespace Go.Bx.paper_Check_1
open Go Go.Proofs Go.Bx
set_option maxRecDepth 100000
set_option linter.unusedVariables false
def C : Ctx := ⟨[(3, (.int .i64)), (4, .bool)], fnL [], [(2, [4])]⟩
def St0 (x0 : Int) (x1 : Int) : St := stL 12 [(0, .data (.int .i64) x0), (1, .data (.int .i64) x1)] []
def St1 (x4 : Bool) : St := stL 12 [(4, .data .bool x4)] []
def top {α : Type} (Rt : Bool → Option α) (x0 : Int) (x1 : Int) : Option α :=
  Rt (cond (decide (x0 ≥ 0)) (decide (x0 ≤ x1)) false)
theorem top_eq {α : Type} (k : Nat) (Q : Ex → St → Option α) (x0 : Int) (x1 : Int) :
    den C k (cB Try.f74) Q (St0 x0 x1) = top (fun (x4 : Bool) => Q .ret (St1 x4)) x0 x1 := by
  kernel_rfl
def run (x0 : Int) (x1 : Int) : Option (Bool) := top (α := Bool) (fun (x4 : Bool) => some x4) x0 x1
def F : Fn := ⟨(.pair (.int .i64) (.pair (.int .i64) .unit)), .bool, false, fun x => run x.1 x.2.1⟩
set_option maxRecDepth 100000 in
theorem con : Con Try.prog 74 F := by
  refine con_of_den (C := C) (ctx_ok (by kernel_rfl) trivial) (by kernel_rfl) Try.func74 (c := cB Try.f74) (by kernel_rfl) (by kernel_rfl) F fuel (fun x => by simp [F, spread, Try.ntmps74]) ?_
  intro x r h
  rw [← h]
  have h1 : start F Try.f74.ntmps x = (St0 x.1 x.2.1) := by kernel_rfl
  rw [h1]
  refine (top_eq fuel (fin C Try.f74.results.toList F.rs F.multi) x.1 x.2.1).trans ?_
  kernel_rfl
theorem named : Named Try.prog 74 := named_of Try.func74 (by kernel_rfl) (by kernel_rfl)
end Go.Bx.paper_Check_1
namespace Go.Bx.paper_Check
open Go Go.Proofs Go.Bx
set_option maxRecDepth 100000
set_option linter.unusedVariables false
def C : Ctx := ⟨[(3, (.int .i64)), (23, (.int .i64)), (33, (.sl (.int .u8))), (43, (.pair (.int .i64) (.pair (.int .i64) (.pair (.int .i64) (.pair (.arr 32 (.int .u8)) (.pair (.int .i64) (.pair (.int .i64) (.pair (.sl (.int .u8)) .unit))))))))], fnL [(74, Go.Bx.paper_Check_1.F)], [(2, [2])]⟩
def St0 (x0 : Int × Int × Int × List Int × Int × Int × List Int × Unit) : St := stL 41 [(0, .data (.pair (.int .i64) (.pair (.int .i64) (.pair (.int .i64) (.pair (.arr 32 (.int .u8)) (.pair (.int .i64) (.pair (.int .i64) (.pair (.sl (.int .u8)) .unit))))))) x0)] []
def St1 (x2 : Int) : St := stL 41 [(2, .data (.int .i64) x2)] []
def top {α : Type} (Rt : Int → Option α) (x0 : Int × Int × Int × List Int × Int × Int × List Int × Unit) : Option α :=
  (Go.Bx.paper_Check_1.run x0.1 1099511627776).bind fun y1 =>
  (if ((not y1) == false) = true then Go.Bx.paper_Check_1.run x0.2.1 4294967295 else some false).bind fun y2 =>
  (if ((cond (not y1) true (not y2)) == false) = true then Go.Bx.paper_Check_1.run x0.2.2.1 65535 else some false).bind fun y3 =>
  (if ((cond (cond (not y1) true (not y2)) true (not y3)) == false) = true then Go.Bx.paper_Check_1.run x0.2.2.2.2.1 1099511627776 else some false).bind fun y4 =>
  (if ((cond (cond (cond (not y1) true (not y2)) true (not y3)) true (not y4)) == false) = true then Go.Bx.paper_Check_1.run x0.2.2.2.2.2.1 255 else some false).bind fun y5 =>
  if (cond (cond (cond (cond (not y1) true (not y2)) true (not y3)) true (not y4)) true (not y5)) = true then
    Rt 6
  else
    if (decide ((x0.2.2.2.2.2.2.1.length : Int) > 300)) = true then
      Rt 1
    else
      Rt 0
theorem top_eq {α : Type} (k : Nat) (Q : Ex → St → Option α) (x0 : Int × Int × Int × List Int × Int × Int × List Int × Unit) :
    den C k (cB Try.f31) Q (St0 x0) = top (fun (x2 : Int) => Q .ret (St1 x2)) x0 := by
  kernel_rfl
def run (x0 : Int × Int × Int × List Int × Int × Int × List Int × Unit) : Option (Int) := top (α := Int) (fun (x2 : Int) => some x2) x0
def F : Fn := ⟨(.pair (.pair (.int .i64) (.pair (.int .i64) (.pair (.int .i64) (.pair (.arr 32 (.int .u8)) (.pair (.int .i64) (.pair (.int .i64) (.pair (.sl (.int .u8)) .unit))))))) .unit), (.int .i64), false, fun x => run x.1⟩
set_option maxRecDepth 100000 in
theorem con : Con Try.prog 31 F := by
  refine con_of_den (C := C) (ctx_ok (by kernel_rfl) ⟨⟨Go.Bx.paper_Check_1.con, Go.Bx.paper_Check_1.named⟩, trivial⟩) (by kernel_rfl) Try.func31 (c := cB Try.f31) (by kernel_rfl) (by kernel_rfl) F fuel (fun x => by simp [F, spread, Try.ntmps31]) ?_
  intro x r h
  rw [← h]
  have h1 : start F Try.f31.ntmps x = (St0 x.1) := by kernel_rfl
  rw [h1]
  refine (top_eq fuel (fin C Try.f31.results.toList F.rs F.multi) x.1).trans ?_
  kernel_rfl
theorem named : Named Try.prog 31 := named_of Try.func31 (by kernel_rfl) (by kernel_rfl)
end Go.Bx.paper_Check
namespace Go.Bx.basculeref_upTo
open Go Go.Proofs Go.Bx
set_option maxRecDepth 100000
set_option linter.unusedVariables false
def C : Ctx := ⟨[(3, (.int .i64)), (4, .bool)], fnL [], [(2, [4])]⟩
def St0 (x0 : Int) (x1 : Int) : St := stL 12 [(0, .data (.int .i64) x0), (1, .data (.int .i64) x1)] []
def St1 (x4 : Bool) : St := stL 12 [(4, .data .bool x4)] []
def top {α : Type} (Rt : Bool → Option α) (x0 : Int) (x1 : Int) : Option α :=
  Rt (cond (decide (0 ≤ x0)) (decide (x0 ≤ x1)) false)
theorem top_eq {α : Type} (k : Nat) (Q : Ex → St → Option α) (x0 : Int) (x1 : Int) :
    den C k (cB Try.f75) Q (St0 x0 x1) = top (fun (x4 : Bool) => Q .ret (St1 x4)) x0 x1 := by
  kernel_rfl
def run (x0 : Int) (x1 : Int) : Option (Bool) := top (α := Bool) (fun (x4 : Bool) => some x4) x0 x1
def F : Fn := ⟨(.pair (.int .i64) (.pair (.int .i64) .unit)), .bool, false, fun x => run x.1 x.2.1⟩
set_option maxRecDepth 100000 in
theorem con : Con Try.prog 75 F := by
  refine con_of_den (C := C) (ctx_ok (by kernel_rfl) trivial) (by kernel_rfl) Try.func75 (c := cB Try.f75) (by kernel_rfl) (by kernel_rfl) F fuel (fun x => by simp [F, spread, Try.ntmps75]) ?_
  intro x r h
  rw [← h]
  have h1 : start F Try.f75.ntmps x = (St0 x.1 x.2.1) := by kernel_rfl
  rw [h1]
  refine (top_eq fuel (fin C Try.f75.results.toList F.rs F.multi) x.1 x.2.1).trans ?_
  kernel_rfl
theorem named : Named Try.prog 75 := named_of Try.func75 (by kernel_rfl) (by kernel_rfl)
end Go.Bx.basculeref_upTo
namespace Go.Bx.basculeref_BodyFault
open Go Go.Proofs Go.Bx
set_option maxRecDepth 100000
set_option linter.unusedVariables false
def C : Ctx := ⟨[(3, (.int .i64)), (23, (.int .i64)), (33, (.sl (.int .u8))), (43, (.pair (.int .i64) (.pair (.int .i64) (.pair (.int .i64) (.pair (.arr 32 (.int .u8)) (.pair (.int .i64) (.pair (.int .i64) (.pair (.sl (.int .u8)) .unit)))))))), (96, (.arr 2 (.int .i64))), (97, (.sl (.arr 2 (.int .i64))))], fnL [(75, Go.Bx.basculeref_upTo.F)], [(2, [2]), (1, [1]), (4, [1, 20, 21, 22]), (6, [1, 20, 21, 22]), (21, [1])]⟩
def St0 (x0 : Int × Int × Int × List Int × Int × Int × List Int × Unit) : St := stL 37 [(0, .data (.pair (.int .i64) (.pair (.int .i64) (.pair (.int .i64) (.pair (.arr 32 (.int .u8)) (.pair (.int .i64) (.pair (.int .i64) (.pair (.sl (.int .u8)) .unit))))))) x0)] []
def St1 (x20 : List (List Int)) (x21 : Int) (x22 : Int) (c1 : Int × Int × Int × List Int × Int × Int × List Int × Unit) : St := stL 37 [(1, .ref 1 []), (20, .data (.sl (.arr 2 (.int .i64))) x20), (21, .data (.int .i64) x21), (22, .data (.int .i64) x22)] [(1, .var (.pair (.int .i64) (.pair (.int .i64) (.pair (.int .i64) (.pair (.arr 32 (.int .u8)) (.pair (.int .i64) (.pair (.int .i64) (.pair (.sl (.int .u8)) .unit))))))) (.data (.pair (.int .i64) (.pair (.int .i64) (.pair (.int .i64) (.pair (.arr 32 (.int .u8)) (.pair (.int .i64) (.pair (.int .i64) (.pair (.sl (.int .u8)) .unit))))))) c1))]
noncomputable def cd0 : Code := cL (cL (cR (cL (cR (cB Try.f32)))))
def St2 (x2 : Int) : St := stL 37 [(2, .data (.int .i64) x2)] []
def St3 (c1 : Int × Int × Int × List Int × Int × Int × List Int × Unit) : St := stL 37 [(1, .ref 1 [])] [(1, .var (.pair (.int .i64) (.pair (.int .i64) (.pair (.int .i64) (.pair (.arr 32 (.int .u8)) (.pair (.int .i64) (.pair (.int .i64) (.pair (.sl (.int .u8)) .unit))))))) (.data (.pair (.int .i64) (.pair (.int .i64) (.pair (.int .i64) (.pair (.arr 32 (.int .u8)) (.pair (.int .i64) (.pair (.int .i64) (.pair (.sl (.int .u8)) .unit))))))) c1))]
def l0s {α : Type} (Nx : (List (List Int)) → Int → Int → (Int × Int × Int × List Int × Int × Int × List Int × Unit) → Option α) (Rt : Int → Option α) (Xt0 : (Int × Int × Int × List Int × Int × Int × List Int × Unit) → Option α) (x20 : List (List Int)) (x21 : Int) (x22 : Int) (c1 : Int × Int × Int × List Int × Int × Int × List Int × Unit) : Option α :=
  if (decide (x22 < x21)) = true then
    if 0 ≤ x22 ∧ x22 < (x20.length : Int) then
      (Go.Bx.basculeref_upTo.run (List.getD (List.getD x20 (Int.toNat x22) [0, 0]) 0 0) (List.getD (List.getD x20 (Int.toNat x22) [0, 0]) 1 0)).bind fun y1 =>
      if (not y1) = true then
        Rt 6
      else
        Nx x20 x21 (IntKind.i64.wrap (x22 + 1)) c1
    else none
  else
    Xt0 c1
theorem l0s_eq {α : Type} (k : Nat) (next : St → Option α) (Q : Ex → St → Option α) (x20 : List (List Int)) (x21 : Int) (x22 : Int) (c1 : Int × Int × Int × List Int × Int × Int × List Int × Unit) :
    rnd C k cd0 6 Q next (St1 x20 x21 x22 c1) = l0s (fun (x20 : List (List Int)) (x21 : Int) (x22 : Int) (c1 : Int × Int × Int × List Int × Int × Int × List Int × Unit) => next (St1 x20 x21 x22 c1)) (fun (x2 : Int) => Q .ret (St2 x2)) (fun (c1 : Int × Int × Int × List Int × Int × Int × List Int × Unit) => Q (.exit 0) (St3 c1)) x20 x21 x22 c1 := by
  kernel_rfl
def l0 {α : Type} (k : Nat) (Rt : Int → Option α) (Xt0 : (Int × Int × Int × List Int × Int × Int × List Int × Unit) → Option α) : Nat → (List (List Int)) → Int → Int → (Int × Int × Int × List Int × Int × Int × List Int × Unit) → Option α
  | 0, _, _, _, _ => none
  | n + 1, x20, x21, x22, c1 => l0s (l0 k Rt Xt0 n) Rt Xt0 x20 x21 x22 c1
theorem l0_eq {α : Type} (k : Nat) (Q : Ex → St → Option α) : ∀ (n : Nat) (x20 : List (List Int)) (x21 : Int) (x22 : Int) (c1 : Int × Int × Int × List Int × Int × Int × List Int × Unit), iter (rnd C k cd0 6 Q) n (St1 x20 x21 x22 c1) = l0 k (fun (x2 : Int) => Q .ret (St2 x2)) (fun (c1 : Int × Int × Int × List Int × Int × Int × List Int × Unit) => Q (.exit 0) (St3 c1)) n x20 x21 x22 c1
  | 0, _, _, _, _ => rfl
  | n + 1, x20, x21, x22, c1 => (iter_succ _ _ _).trans ((l0s_eq k (iter (rnd C k cd0 6 Q) n) Q x20 x21 x22 c1).trans (congrArg (fun N => l0s N (fun (x2 : Int) => Q .ret (St2 x2)) (fun (c1 : Int × Int × Int × List Int × Int × Int × List Int × Unit) => Q (.exit 0) (St3 c1)) x20 x21 x22 c1) (funext fun x20 => funext fun x21 => funext fun x22 => funext fun c1 => l0_eq k Q n x20 x21 x22 c1)))
theorem l0_congr {α : Type} (k : Nat) (Rt : Int → Option α) (Xt0 : (Int × Int × Int × List Int × Int × Int × List Int × Unit) → Option α) (Rtq : Int → Option α) (Xt0q : (Int × Int × Int × List Int × Int × Int × List Int × Unit) → Option α) (hRt : ∀ (x2 : Int), Rt x2 = Rtq x2) (hXt0 : ∀ (c1 : Int × Int × Int × List Int × Int × Int × List Int × Unit), Xt0 c1 = Xt0q c1) (n : Nat) (x20 : List (List Int)) (x21 : Int) (x22 : Int) (c1 : Int × Int × Int × List Int × Int × Int × List Int × Unit) : l0 k Rt Xt0 n x20 x21 x22 c1 = l0 k Rtq Xt0q n x20 x21 x22 c1 := by
  obtain rfl : Rt = Rtq := by funext x2; exact hRt x2
  obtain rfl : Xt0 = Xt0q := by funext c1; exact hXt0 c1
  rfl
noncomputable def cd1 : Code := cR (cR (cB Try.f32))
def St4 (c1 : Int × Int × Int × List Int × Int × Int × List Int × Unit) : St := stL 37 [(1, .ref 1 [])] [(1, .var (.pair (.int .i64) (.pair (.int .i64) (.pair (.int .i64) (.pair (.arr 32 (.int .u8)) (.pair (.int .i64) (.pair (.int .i64) (.pair (.sl (.int .u8)) .unit))))))) (.data (.pair (.int .i64) (.pair (.int .i64) (.pair (.int .i64) (.pair (.arr 32 (.int .u8)) (.pair (.int .i64) (.pair (.int .i64) (.pair (.sl (.int .u8)) .unit))))))) c1))]
def j0 {α : Type} (Rt : Int → Option α) (c1 : Int × Int × Int × List Int × Int × Int × List Int × Unit) : Option α :=
  if (decide ((c1.2.2.2.2.2.2.1.length : Int) > 300)) = true then
    Rt 1
  else
    Rt 0
theorem j0_eq {α : Type} (k : Nat) (Q : Ex → St → Option α) (c1 : Int × Int × Int × List Int × Int × Int × List Int × Unit) :
    den C k cd1 Q (St4 c1) = j0 (fun (x2 : Int) => Q .ret (St2 x2)) c1 := by
  kernel_rfl
theorem a0 {α : Type} (k : Nat) (Q : Ex → St → Option α) (x20 : List (List Int)) (x21 : Int) (x22 : Int) (c1 : Int × Int × Int × List Int × Int × Int × List Int × Unit) :
    iter (rnd C k cd0 6 (blkQ C 0 (sq C k cd1 Q))) k (St1 x20 x21 x22 c1) = l0 k (fun (x2 : Int) => (fun (x2 : Int) => Q .ret (St2 x2)) x2) (fun (c1 : Int × Int × Int × List Int × Int × Int × List Int × Unit) => j0 (fun (x2 : Int) => Q .ret (St2 x2)) c1) k x20 x21 x22 c1 :=
  (l0_eq k (blkQ C 0 (sq C k cd1 Q)) k x20 x21 x22 c1).trans (l0_congr k _ _ _ _ (fun x2 => (show (blkQ C 0 (sq C k cd1 Q)) .ret (St2 x2) = Q .ret (St2 x2) by kernel_rfl)) (fun c1 => ((show (blkQ C 0 (sq C k cd1 Q)) (.exit 0) (St3 c1) = den C k cd1 Q (St4 c1) by kernel_rfl).trans (by simp only [j0_eq]))) k x20 x21 x22 c1)
def top {α : Type} (k : Nat) (Rt : Int → Option α) (x0 : Int × Int × Int × List Int × Int × Int × List Int × Unit) : Option α :=
  l0 k (fun (x2 : Int) => Rt x2) (fun (c1 : Int × Int × Int × List Int × Int × Int × List Int × Unit) => j0 Rt c1) k [[x0.1, 1099511627776], [x0.2.1, 4294967295], [x0.2.2.1, 65535], [x0.2.2.2.2.1, 1099511627776], [x0.2.2.2.2.2.1, 255]] 5 0 x0
theorem top_eq {α : Type} (k : Nat) (Q : Ex → St → Option α) (x0 : Int × Int × Int × List Int × Int × Int × List Int × Unit) :
    den C k (cB Try.f32) Q (St0 x0) = top k (fun (x2 : Int) => Q .ret (St2 x2)) x0 := by
  have h : den C k (cB Try.f32) Q (St0 x0) =
        iter (rnd C k cd0 6 (blkQ C 0 (sq C k cd1 Q))) k (St1 [[x0.1, 1099511627776], [x0.2.1, 4294967295], [x0.2.2.1, 65535], [x0.2.2.2.2.1, 1099511627776], [x0.2.2.2.2.2.1, 255]] 5 0 x0) := by kernel_rfl
  rw [h]
  simp only [a0]
  first | rfl | kernel_rfl
def run (x0 : Int × Int × Int × List Int × Int × Int × List Int × Unit) : Option (Int) := top (α := Int) fuel (fun (x2 : Int) => some x2) x0
def F : Fn := ⟨(.pair (.pair (.int .i64) (.pair (.int .i64) (.pair (.int .i64) (.pair (.arr 32 (.int .u8)) (.pair (.int .i64) (.pair (.int .i64) (.pair (.sl (.int .u8)) .unit))))))) .unit), (.int .i64), false, fun x => run x.1⟩
set_option maxRecDepth 100000 in
theorem con : Con Try.prog 32 F := by
  refine con_of_den (C := C) (ctx_ok (by kernel_rfl) ⟨⟨Go.Bx.basculeref_upTo.con, Go.Bx.basculeref_upTo.named⟩, trivial⟩) (by kernel_rfl) Try.func32 (c := cB Try.f32) (by kernel_rfl) (by kernel_rfl) F fuel (fun x => by simp [F, spread, Try.ntmps32]) ?_
  intro x r h
  rw [← h]
  have h1 : start F Try.f32.ntmps x = (St0 x.1) := by kernel_rfl
  rw [h1]
  refine (top_eq fuel (fin C Try.f32.results.toList F.rs F.multi) x.1).trans ?_
  kernel_rfl
theorem named : Named Try.prog 32 := named_of Try.func32 (by kernel_rfl) (by kernel_rfl)
end Go.Bx.basculeref_BodyFault
namespace Go.Bx.basculelaw_BodyChecks
open Go Go.Proofs Go.Bx
set_option maxRecDepth 100000
set_option linter.unusedVariables false
def C : Ctx := ⟨[(4, .bool), (43, (.pair (.int .i64) (.pair (.int .i64) (.pair (.int .i64) (.pair (.arr 32 (.int .u8)) (.pair (.int .i64) (.pair (.int .i64) (.pair (.sl (.int .u8)) .unit))))))))], fnL [(31, Go.Bx.paper_Check.F), (32, Go.Bx.basculeref_BodyFault.F)], [(2, [2])]⟩
def St0 (x0 : Int × Int × Int × List Int × Int × Int × List Int × Unit) : St := stL 12 [(0, .data (.pair (.int .i64) (.pair (.int .i64) (.pair (.int .i64) (.pair (.arr 32 (.int .u8)) (.pair (.int .i64) (.pair (.int .i64) (.pair (.sl (.int .u8)) .unit))))))) x0)] []
def St1 (x2 : Bool) : St := stL 12 [(2, .data .bool x2)] []
def top {α : Type} (Rt : Bool → Option α) (x0 : Int × Int × Int × List Int × Int × Int × List Int × Unit) : Option α :=
  (Go.Bx.paper_Check.run x0).bind fun y1 =>
  (Go.Bx.basculeref_BodyFault.run x0).bind fun y2 =>
  Rt (y1 == y2)
theorem top_eq {α : Type} (k : Nat) (Q : Ex → St → Option α) (x0 : Int × Int × Int × List Int × Int × Int × List Int × Unit) :
    den C k (cB Try.f7) Q (St0 x0) = top (fun (x2 : Bool) => Q .ret (St1 x2)) x0 := by
  kernel_rfl
def run (x0 : Int × Int × Int × List Int × Int × Int × List Int × Unit) : Option (Bool) := top (α := Bool) (fun (x2 : Bool) => some x2) x0
def F : Fn := ⟨(.pair (.pair (.int .i64) (.pair (.int .i64) (.pair (.int .i64) (.pair (.arr 32 (.int .u8)) (.pair (.int .i64) (.pair (.int .i64) (.pair (.sl (.int .u8)) .unit))))))) .unit), .bool, false, fun x => run x.1⟩
set_option maxRecDepth 100000 in
theorem con : Con Try.prog 7 F := by
  refine con_of_den (C := C) (ctx_ok (by kernel_rfl) ⟨⟨Go.Bx.paper_Check.con, Go.Bx.paper_Check.named⟩, ⟨⟨Go.Bx.basculeref_BodyFault.con, Go.Bx.basculeref_BodyFault.named⟩, trivial⟩⟩) (by kernel_rfl) Try.func7 (c := cB Try.f7) (by kernel_rfl) (by kernel_rfl) F fuel (fun x => by simp [F, spread, Try.ntmps7]) ?_
  intro x r h
  rw [← h]
  have h1 : start F Try.f7.ntmps x = (St0 x.1) := by kernel_rfl
  rw [h1]
  refine (top_eq fuel (fin C Try.f7.results.toList F.rs F.multi) x.1).trans ?_
  kernel_rfl
theorem named : Named Try.prog 7 := named_of Try.func7 (by kernel_rfl) (by kernel_rfl)
end Go.Bx.basculelaw_BodyChecks
