/- Go functions of this seat in their own words of Lean, each tied to its code by a contract. -/
import Derived.Test.YtebnjboimekljaaGBase
import Derived.Test.YtebnjboimekljaaFnForkLines0
namespace Go.Bx.basculelaw_sameInts
open Go Go.Proofs Go.Bx
set_option maxRecDepth 100000
set_option linter.unusedVariables false
def Js : List Nat := [10]
def C : Ctx := ⟨[(3, (.int .i64)), (4, .bool), (59, (.sl (.int .i64)))], [], fnL [], noSh, [], noInv, [(2, [4]), (1, []), (4, [0, 1, 12, 13]), (12, [0, 1, 12, 13]), (27, [])], [], [], 0, 0⟩
def St0 (x0 : List Int) (x1 : List Int) : St := stL 26 [(0, .data (.sl (.int .i64)) x0), (1, .data (.sl (.int .i64)) x1)] []
def St1 (x4 : Bool) : St := stL 26 [(4, .data .bool x4)] []
def St2 (x0 : List Int) (x1 : List Int) (x12 : Int) (x13 : Int) : St := stL 26 [(0, .data (.sl (.int .i64)) x0), (1, .data (.sl (.int .i64)) x1), (12, .data (.int .i64) x12), (13, .data (.int .i64) x13)] []
noncomputable def cd0 : Code := cL (cL (cR (cL (cR (cR (cB Try.f55))))))
def St3 : St := stL 26 [] []
def l0s {α : Type} (Nx : (List Int) → (List Int) → Int → Int → Option α) (Rt : Bool → Option α) (Xt0 : Option α) (x0 : List Int) (x1 : List Int) (x12 : Int) (x13 : Int) : Option α :=
  if (decide (x13 < x12)) = true then
    if 0 ≤ x13 ∧ x13 < (x0.length : Int) then
      if 0 ≤ x13 ∧ x13 < (x1.length : Int) then
        if ((List.getD x0 (Int.toNat x13) 0) != (List.getD x1 (Int.toNat x13) 0)) = true then
          Rt false
        else
          Nx x0 x1 x12 (IntKind.i64.wrap (x13 + 1))
      else none
    else none
  else
    Xt0
theorem l0s_eq {α : Type} (k : Nat) (next : St → Option α) (Q : Ex → St → Option α) (x0 : List Int) (x1 : List Int) (x12 : Int) (x13 : Int) :
    rnd C k cd0 12 Q next (St2 x0 x1 x12 x13) = l0s (fun (x0 : List Int) (x1 : List Int) (x12 : Int) (x13 : Int) => next (St2 x0 x1 x12 x13)) (fun (x4 : Bool) => Q .ret (St1 x4)) (Q (.exit 0) St3) x0 x1 x12 x13 := by
  have h : ∀ (D L : DT α), denJ D L Js C cd0 (lq C 12 next Q) (St2 x0 x1 x12 x13) =
        if (decide (x13 < x12)) = true then
          if 0 ≤ x13 ∧ x13 < (x0.length : Int) then
            if 0 ≤ x13 ∧ x13 < (x1.length : Int) then
              if ((List.getD x0 (Int.toNat x13) 0) != (List.getD x1 (Int.toNat x13) 0)) = true then
                Q .ret (St1 false)
              else
                next (St2 x0 x1 x12 (IntKind.i64.wrap (x13 + 1)))
            else none
          else none
        else
          Q (.exit 0) St3 := by
    intro D L; kernel_rfl
  refine (show rnd C k cd0 12 Q next (St2 x0 x1 x12 x13) = denJ (den C k) (lp C k) Js C cd0 (lq C 12 next Q) (St2 x0 x1 x12 x13) from (denJ_den _ _ _ _ _ _).symm).trans ((h (den C k) (lp C k)).trans ?_)
  first | rfl | kernel_rfl
def l0 {α : Type} (k : Nat) (Rt : Bool → Option α) (Xt0 : Option α) : Nat → (List Int) → (List Int) → Int → Int → Option α
  | 0, _, _, _, _ => none
  | n + 1, x0, x1, x12, x13 => l0s (l0 k Rt Xt0 n) Rt Xt0 x0 x1 x12 x13
theorem l0_eq {α : Type} (k : Nat) (Q : Ex → St → Option α) : ∀ (n : Nat) (x0 : List Int) (x1 : List Int) (x12 : Int) (x13 : Int), iter (rnd C k cd0 12 Q) n (St2 x0 x1 x12 x13) = l0 k (fun (x4 : Bool) => Q .ret (St1 x4)) (Q (.exit 0) St3) n x0 x1 x12 x13
  | 0, _, _, _, _ => rfl
  | n + 1, x0, x1, x12, x13 => (iter_succ _ _ _).trans ((l0s_eq k (iter (rnd C k cd0 12 Q) n) Q x0 x1 x12 x13).trans (congrArg (fun N => l0s N (fun (x4 : Bool) => Q .ret (St1 x4)) (Q (.exit 0) St3) x0 x1 x12 x13) (funext fun x0 => funext fun x1 => funext fun x12 => funext fun x13 => l0_eq k Q n x0 x1 x12 x13)))
theorem l0_congr {α : Type} (k : Nat) (Rt : Bool → Option α) (Xt0 : Option α) (Rtq : Bool → Option α) (Xt0q : Option α) (hRt : ∀ (x4 : Bool), Rt x4 = Rtq x4) (hXt0 : Xt0 = Xt0q) (n : Nat) (x0 : List Int) (x1 : List Int) (x12 : Int) (x13 : Int) : l0 k Rt Xt0 n x0 x1 x12 x13 = l0 k Rtq Xt0q n x0 x1 x12 x13 := by
  obtain rfl : Rt = Rtq := by funext x4; exact hRt x4
  obtain rfl : Xt0 = Xt0q := hXt0
  rfl
noncomputable def cd1 : Code := cR (cR (cR (cB Try.f55)))
def St4 : St := stL 26 [] []
def j0 {α : Type} (Rt : Bool → Option α) : Option α :=
  Rt true
theorem j0_eq {α : Type} (k : Nat) (Q : Ex → St → Option α) :
    (den C k) cd1 Q St4 = j0 (fun (x4 : Bool) => Q .ret (St1 x4)) := by
  have h : ∀ (D L : DT α), denJ D L Js C cd1 Q St4 =
        Q .ret (St1 true) := by
    intro D L; kernel_rfl
  refine (show (den C k) cd1 Q St4 = denJ (den C k) (lp C k) Js C cd1 Q St4 from (denJ_den _ _ _ _ _ _).symm).trans ((h (den C k) (lp C k)).trans ?_)
  first | rfl | kernel_rfl
theorem a0 {α : Type} (k : Nat) (Q : Ex → St → Option α) (x0 : List Int) (x1 : List Int) (x12 : Int) (x13 : Int) :
    (lp C k) cd0 (blkQ C 0 (sq (den C k) (lp C k) Js C cd1 Q)) (St2 x0 x1 x12 x13) = l0 k (fun (x4 : Bool) => (fun (x4 : Bool) => Q .ret (St1 x4)) x4) (j0 (fun (x4 : Bool) => Q .ret (St1 x4))) k x0 x1 x12 x13 :=
  (show (lp C k) cd0 (blkQ C 0 (sq (den C k) (lp C k) Js C cd1 Q)) (St2 x0 x1 x12 x13) = iter (rnd C k cd0 12 (blkQ C 0 (sq (den C k) (lp C k) Js C cd1 Q))) k (St2 x0 x1 x12 x13) by kernel_rfl).trans ((l0_eq k (blkQ C 0 (sq (den C k) (lp C k) Js C cd1 Q)) k x0 x1 x12 x13).trans (l0_congr k _ _ _ _ (fun x4 => (show (blkQ C 0 (sq (den C k) (lp C k) Js C cd1 Q)) .ret (St1 x4) = Q .ret (St1 x4) by kernel_rfl)) ((show (blkQ C 0 (sq (den C k) (lp C k) Js C cd1 Q)) (.exit 0) St3 = (den C k) cd1 Q St4 by kernel_rfl).trans (by simp only [j0_eq])) k x0 x1 x12 x13))
def top {α : Type} (k : Nat) (Rt : Bool → Option α) (x0 : List Int) (x1 : List Int) : Option α :=
  if ((x0.length : Int) != (x1.length : Int)) = true then
    Rt false
  else
    l0 k (fun (x4 : Bool) => Rt x4) (j0 Rt) k x0 x1 (x0.length : Int) 0
theorem top_eq {α : Type} (k : Nat) (Q : Ex → St → Option α) (x0 : List Int) (x1 : List Int) :
    (den C k) (cB Try.f55) Q (St0 x0 x1) = top k (fun (x4 : Bool) => Q .ret (St1 x4)) x0 x1 := by
  have h : ∀ (D L : DT α), denJ D L Js C (cB Try.f55) Q (St0 x0 x1) =
        if ((x0.length : Int) != (x1.length : Int)) = true then
          Q .ret (St1 false)
        else
          L cd0 (blkQ C 0 (sq D L Js C cd1 Q)) (St2 x0 x1 (x0.length : Int) 0) := by
    intro D L; kernel_rfl
  refine (show (den C k) (cB Try.f55) Q (St0 x0 x1) = denJ (den C k) (lp C k) Js C (cB Try.f55) Q (St0 x0 x1) from (denJ_den _ _ _ _ _ _).symm).trans ((h (den C k) (lp C k)).trans ?_)
  simp only [a0]
  first | rfl | kernel_rfl
def run (x0 : List Int) (x1 : List Int) : Option (Bool) := top (α := Bool) fuel (fun (x4 : Bool) => some x4) x0 x1
def F : Fn := ⟨(.pair (.sl (.int .i64)) (.pair (.sl (.int .i64)) .unit)), .bool, false, fun x => run x.1 x.2.1⟩
set_option maxRecDepth 100000 in
theorem con : Con Try.prog 55 F := by
  refine con_of_den (C := C) (ctx_ok (by kernel_rfl) (by kernel_rfl) trivial) (by kernel_rfl) Try.func55 (c := cB Try.f55) (by kernel_rfl) (by kernel_rfl) F fuel (fun x => by simp [F, spread, Try.ntmps55]) ?_
  intro x r h
  rw [← h]
  have h1 : start F Try.f55.ntmps x = (St0 x.1 x.2.1) := by kernel_rfl
  rw [h1]
  refine (top_eq fuel (fin C Try.f55.results.toList F.rs F.multi) x.1 x.2.1).trans ?_
  kernel_rfl
theorem named : Named Try.prog 55 := named_of Try.func55 (by kernel_rfl) (by kernel_rfl)
end Go.Bx.basculelaw_sameInts
namespace Go.Bx.fork_Line
open Go Go.Proofs Go.Bx
set_option maxRecDepth 100000
set_option linter.unusedVariables false
def Js : List Nat := []
def C : Ctx := ⟨[(3, (.int .i64)), (4, .bool), (25, (.int .i64)), (59, (.sl (.int .i64))), (79, (.pair (.sl (.pair (.int .i64) (.pair (.int .i64) (.pair (.sl (.pair (.int .i64) (.pair (.arr 32 (.int .u8)) (.pair (.arr 32 (.int .u8)) (.pair (.int .i64) (.pair (.arr 4 (.int .u64)) (.pair (.arr 4 (.int .u64)) (.pair (.arr 32 (.int .u8)) (.pair (.int .i64) (.pair (.int .i64) (.pair (.sl (.int .u8)) .unit))))))))))) .unit)))) (.pair (.int .i64) (.pair (.int .i64) .unit))))], [], fnL [(119, Go.Bx.fork_Check.F), (120, Go.Bx.fork_line.F)], noSh, [], noInv, [(2, [4, 5])], [(2, [.dat true 4 []])], [], 0, 0⟩
def St0 (x0 : List (Int × Int × List (Int × List Int × List Int × Int × List Int × List Int × List Int × Int × Int × List Int × Unit) × Unit) × Int × Int × Unit) (x1 : Bool) : St := stL 21 [(0, .data (.pair (.sl (.pair (.int .i64) (.pair (.int .i64) (.pair (.sl (.pair (.int .i64) (.pair (.arr 32 (.int .u8)) (.pair (.arr 32 (.int .u8)) (.pair (.int .i64) (.pair (.arr 4 (.int .u64)) (.pair (.arr 4 (.int .u64)) (.pair (.arr 32 (.int .u8)) (.pair (.int .i64) (.pair (.int .i64) (.pair (.sl (.int .u8)) .unit))))))))))) .unit)))) (.pair (.int .i64) (.pair (.int .i64) .unit))) x0), (1, .data .bool x1)] []
def St1 (x4 : List Int) (x5 : Int) : St := stL 21 [(4, .data (.sl (.int .i64)) x4), (5, .data (.int .i64) x5)] []
def top {α : Type} (Rt : (List Int) → Int → Option α) (x0 : List (Int × Int × List (Int × List Int × List Int × Int × List Int × List Int × List Int × Int × Int × List Int × Unit) × Unit) × Int × Int × Unit) (x1 : Bool) : Option α :=
  (Go.Bx.fork_Check.run x0).bind fun y1 =>
  if (y1 != 0) = true then
    Rt [] y1
  else
    if x1 = true then
      (Go.Bx.fork_line.run x0 x0.2.2.1).bind fun y2 =>
      Rt y2 0
    else
      (Go.Bx.fork_line.run x0 x0.2.1).bind fun y3 =>
      Rt y3 0
theorem top_eq {α : Type} (k : Nat) (Q : Ex → St → Option α) (x0 : List (Int × Int × List (Int × List Int × List Int × Int × List Int × List Int × List Int × Int × Int × List Int × Unit) × Unit) × Int × Int × Unit) (x1 : Bool) :
    (den C k) (cB Try.f62) Q (St0 x0 x1) = top (fun (x4 : List Int) (x5 : Int) => Q .ret (St1 x4 x5)) x0 x1 := by
  have h : ∀ (D L : DT α), denJ D L Js C (cB Try.f62) Q (St0 x0 x1) =
        (Go.Bx.fork_Check.run x0).bind fun y1 =>
        if (y1 != 0) = true then
          Q .ret (St1 [] y1)
        else
          if x1 = true then
            (Go.Bx.fork_line.run x0 x0.2.2.1).bind fun y2 =>
            Q .ret (St1 y2 0)
          else
            (Go.Bx.fork_line.run x0 x0.2.1).bind fun y3 =>
            Q .ret (St1 y3 0) := by
    intro D L; kernel_rfl
  refine (show (den C k) (cB Try.f62) Q (St0 x0 x1) = denJ (den C k) (lp C k) Js C (cB Try.f62) Q (St0 x0 x1) from (denJ_den _ _ _ _ _ _).symm).trans ((h (den C k) (lp C k)).trans ?_)
  first | rfl | kernel_rfl
def run (x0 : List (Int × Int × List (Int × List Int × List Int × Int × List Int × List Int × List Int × Int × Int × List Int × Unit) × Unit) × Int × Int × Unit) (x1 : Bool) : Option (List Int × Int × Unit) := top (α := List Int × Int × Unit) (fun (x4 : List Int) (x5 : Int) => some (x4, x5, ())) x0 x1
def F : Fn := ⟨(.pair (.pair (.sl (.pair (.int .i64) (.pair (.int .i64) (.pair (.sl (.pair (.int .i64) (.pair (.arr 32 (.int .u8)) (.pair (.arr 32 (.int .u8)) (.pair (.int .i64) (.pair (.arr 4 (.int .u64)) (.pair (.arr 4 (.int .u64)) (.pair (.arr 32 (.int .u8)) (.pair (.int .i64) (.pair (.int .i64) (.pair (.sl (.int .u8)) .unit))))))))))) .unit)))) (.pair (.int .i64) (.pair (.int .i64) .unit))) (.pair .bool .unit)), (.pair (.sl (.int .i64)) (.pair (.int .i64) .unit)), true, fun x => run x.1 x.2.1⟩
set_option maxRecDepth 100000 in
theorem con : Con Try.prog 62 F := by
  refine con_of_den (C := C) (ctx_ok (by kernel_rfl) (by kernel_rfl) ⟨.inl ⟨Go.Bx.fork_Check.con, Go.Bx.fork_Check.named⟩, ⟨.inl ⟨Go.Bx.fork_line.con, Go.Bx.fork_line.named⟩, trivial⟩⟩) (by kernel_rfl) Try.func62 (c := cB Try.f62) (by kernel_rfl) (by kernel_rfl) F fuel (fun x => by simp [F, spread, Try.ntmps62]) ?_
  intro x r h
  rw [← h]
  have h1 : start F Try.f62.ntmps x = (St0 x.1 x.2.1) := by kernel_rfl
  rw [h1]
  refine (top_eq fuel (fin C Try.f62.results.toList F.rs F.multi) x.1 x.2.1).trans ?_
  kernel_rfl
theorem named : Named Try.prog 62 := named_of Try.func62 (by kernel_rfl) (by kernel_rfl)
end Go.Bx.fork_Line
namespace Go.Bx.basculeref_LineOf
open Go Go.Proofs Go.Bx
set_option maxRecDepth 100000
set_option linter.unusedVariables false
def Js : List Nat := []
def C : Ctx := ⟨[(3, (.int .i64)), (4, .bool), (25, (.int .i64)), (59, (.sl (.int .i64))), (79, (.pair (.sl (.pair (.int .i64) (.pair (.int .i64) (.pair (.sl (.pair (.int .i64) (.pair (.arr 32 (.int .u8)) (.pair (.arr 32 (.int .u8)) (.pair (.int .i64) (.pair (.arr 4 (.int .u64)) (.pair (.arr 4 (.int .u64)) (.pair (.arr 32 (.int .u8)) (.pair (.int .i64) (.pair (.int .i64) (.pair (.sl (.int .u8)) .unit))))))))))) .unit)))) (.pair (.int .i64) (.pair (.int .i64) .unit))))], [], fnL [(121, Go.Bx.basculeref_TreeFault.F), (122, Go.Bx.basculeref_lineTo.F)], noSh, [], noInv, [(2, [4, 5])], [(2, [.dat true 4 []])], [], 0, 0⟩
def St0 (x0 : List (Int × Int × List (Int × List Int × List Int × Int × List Int × List Int × List Int × Int × Int × List Int × Unit) × Unit) × Int × Int × Unit) (x1 : Bool) : St := stL 21 [(0, .data (.pair (.sl (.pair (.int .i64) (.pair (.int .i64) (.pair (.sl (.pair (.int .i64) (.pair (.arr 32 (.int .u8)) (.pair (.arr 32 (.int .u8)) (.pair (.int .i64) (.pair (.arr 4 (.int .u64)) (.pair (.arr 4 (.int .u64)) (.pair (.arr 32 (.int .u8)) (.pair (.int .i64) (.pair (.int .i64) (.pair (.sl (.int .u8)) .unit))))))))))) .unit)))) (.pair (.int .i64) (.pair (.int .i64) .unit))) x0), (1, .data .bool x1)] []
def St1 (x4 : List Int) (x5 : Int) : St := stL 21 [(4, .data (.sl (.int .i64)) x4), (5, .data (.int .i64) x5)] []
def top {α : Type} (Rt : (List Int) → Int → Option α) (x0 : List (Int × Int × List (Int × List Int × List Int × Int × List Int × List Int × List Int × Int × Int × List Int × Unit) × Unit) × Int × Int × Unit) (x1 : Bool) : Option α :=
  (Go.Bx.basculeref_TreeFault.run x0).bind fun y1 =>
  if (y1 != 0) = true then
    Rt [] y1
  else
    if x1 = true then
      (Go.Bx.basculeref_lineTo.run x0 x0.2.2.1).bind fun y2 =>
      Rt y2 0
    else
      (Go.Bx.basculeref_lineTo.run x0 x0.2.1).bind fun y3 =>
      Rt y3 0
theorem top_eq {α : Type} (k : Nat) (Q : Ex → St → Option α) (x0 : List (Int × Int × List (Int × List Int × List Int × Int × List Int × List Int × List Int × Int × Int × List Int × Unit) × Unit) × Int × Int × Unit) (x1 : Bool) :
    (den C k) (cB Try.f63) Q (St0 x0 x1) = top (fun (x4 : List Int) (x5 : Int) => Q .ret (St1 x4 x5)) x0 x1 := by
  have h : ∀ (D L : DT α), denJ D L Js C (cB Try.f63) Q (St0 x0 x1) =
        (Go.Bx.basculeref_TreeFault.run x0).bind fun y1 =>
        if (y1 != 0) = true then
          Q .ret (St1 [] y1)
        else
          if x1 = true then
            (Go.Bx.basculeref_lineTo.run x0 x0.2.2.1).bind fun y2 =>
            Q .ret (St1 y2 0)
          else
            (Go.Bx.basculeref_lineTo.run x0 x0.2.1).bind fun y3 =>
            Q .ret (St1 y3 0) := by
    intro D L; kernel_rfl
  refine (show (den C k) (cB Try.f63) Q (St0 x0 x1) = denJ (den C k) (lp C k) Js C (cB Try.f63) Q (St0 x0 x1) from (denJ_den _ _ _ _ _ _).symm).trans ((h (den C k) (lp C k)).trans ?_)
  first | rfl | kernel_rfl
def run (x0 : List (Int × Int × List (Int × List Int × List Int × Int × List Int × List Int × List Int × Int × Int × List Int × Unit) × Unit) × Int × Int × Unit) (x1 : Bool) : Option (List Int × Int × Unit) := top (α := List Int × Int × Unit) (fun (x4 : List Int) (x5 : Int) => some (x4, x5, ())) x0 x1
def F : Fn := ⟨(.pair (.pair (.sl (.pair (.int .i64) (.pair (.int .i64) (.pair (.sl (.pair (.int .i64) (.pair (.arr 32 (.int .u8)) (.pair (.arr 32 (.int .u8)) (.pair (.int .i64) (.pair (.arr 4 (.int .u64)) (.pair (.arr 4 (.int .u64)) (.pair (.arr 32 (.int .u8)) (.pair (.int .i64) (.pair (.int .i64) (.pair (.sl (.int .u8)) .unit))))))))))) .unit)))) (.pair (.int .i64) (.pair (.int .i64) .unit))) (.pair .bool .unit)), (.pair (.sl (.int .i64)) (.pair (.int .i64) .unit)), true, fun x => run x.1 x.2.1⟩
set_option maxRecDepth 100000 in
theorem con : Con Try.prog 63 F := by
  refine con_of_den (C := C) (ctx_ok (by kernel_rfl) (by kernel_rfl) ⟨.inl ⟨Go.Bx.basculeref_TreeFault.con, Go.Bx.basculeref_TreeFault.named⟩, ⟨.inl ⟨Go.Bx.basculeref_lineTo.con, Go.Bx.basculeref_lineTo.named⟩, trivial⟩⟩) (by kernel_rfl) Try.func63 (c := cB Try.f63) (by kernel_rfl) (by kernel_rfl) F fuel (fun x => by simp [F, spread, Try.ntmps63]) ?_
  intro x r h
  rw [← h]
  have h1 : start F Try.f63.ntmps x = (St0 x.1 x.2.1) := by kernel_rfl
  rw [h1]
  refine (top_eq fuel (fin C Try.f63.results.toList F.rs F.multi) x.1 x.2.1).trans ?_
  kernel_rfl
theorem named : Named Try.prog 63 := named_of Try.func63 (by kernel_rfl) (by kernel_rfl)
end Go.Bx.basculeref_LineOf
namespace Go.Bx.fork_Begin
open Go Go.Proofs Go.Bx
set_option maxRecDepth 100000
set_option linter.unusedVariables false
def Js : List Nat := []
def C : Ctx := ⟨[(77, (.sl (.pair (.int .i64) (.pair (.int .i64) (.pair (.sl (.pair (.int .i64) (.pair (.arr 32 (.int .u8)) (.pair (.arr 32 (.int .u8)) (.pair (.int .i64) (.pair (.arr 4 (.int .u64)) (.pair (.arr 4 (.int .u64)) (.pair (.arr 32 (.int .u8)) (.pair (.int .i64) (.pair (.int .i64) (.pair (.sl (.int .u8)) .unit))))))))))) .unit))))), (79, (.pair (.sl (.pair (.int .i64) (.pair (.int .i64) (.pair (.sl (.pair (.int .i64) (.pair (.arr 32 (.int .u8)) (.pair (.arr 32 (.int .u8)) (.pair (.int .i64) (.pair (.arr 4 (.int .u64)) (.pair (.arr 4 (.int .u64)) (.pair (.arr 32 (.int .u8)) (.pair (.int .i64) (.pair (.int .i64) (.pair (.sl (.int .u8)) .unit))))))))))) .unit)))) (.pair (.int .i64) (.pair (.int .i64) .unit)))), (136, (.pair (.int .i64) (.pair (.int .i64) (.pair (.sl (.pair (.int .i64) (.pair (.arr 32 (.int .u8)) (.pair (.arr 32 (.int .u8)) (.pair (.int .i64) (.pair (.arr 4 (.int .u64)) (.pair (.arr 4 (.int .u64)) (.pair (.arr 32 (.int .u8)) (.pair (.int .i64) (.pair (.int .i64) (.pair (.sl (.int .u8)) .unit))))))))))) .unit))))], [], fnL [], noSh, [], noInv, [(2, [0])], [], [], 0, 0⟩
def St0 : St := stL 4 [] []
def St1 (c0p0 : List (Int × Int × List (Int × List Int × List Int × Int × List Int × List Int × List Int × Int × Int × List Int × Unit) × Unit)) (c0p1 : Int) (c0p2 : Int) : St := stL 4 [(0, .ref 0 0 [])] [(0, .cell (.pair (.sl (.pair (.int .i64) (.pair (.int .i64) (.pair (.sl (.pair (.int .i64) (.pair (.arr 32 (.int .u8)) (.pair (.arr 32 (.int .u8)) (.pair (.int .i64) (.pair (.arr 4 (.int .u64)) (.pair (.arr 4 (.int .u64)) (.pair (.arr 32 (.int .u8)) (.pair (.int .i64) (.pair (.int .i64) (.pair (.sl (.int .u8)) .unit))))))))))) .unit)))) (.pair (.int .i64) (.pair (.int .i64) .unit))) (.agg (.pair (.sl (.pair (.int .i64) (.pair (.int .i64) (.pair (.sl (.pair (.int .i64) (.pair (.arr 32 (.int .u8)) (.pair (.arr 32 (.int .u8)) (.pair (.int .i64) (.pair (.arr 4 (.int .u64)) (.pair (.arr 4 (.int .u64)) (.pair (.arr 32 (.int .u8)) (.pair (.int .i64) (.pair (.int .i64) (.pair (.sl (.int .u8)) .unit))))))))))) .unit)))) (.pair (.int .i64) (.pair (.int .i64) .unit))) [.full (.pair (.int .i64) (.pair (.int .i64) (.pair (.sl (.pair (.int .i64) (.pair (.arr 32 (.int .u8)) (.pair (.arr 32 (.int .u8)) (.pair (.int .i64) (.pair (.arr 4 (.int .u64)) (.pair (.arr 4 (.int .u64)) (.pair (.arr 32 (.int .u8)) (.pair (.int .i64) (.pair (.int .i64) (.pair (.sl (.int .u8)) .unit))))))))))) .unit))) c0p0, .data (.int .i64) c0p1, .data (.int .i64) c0p2]) false)]
def top {α : Type} (Rt : (List (Int × Int × List (Int × List Int × List Int × Int × List Int × List Int × List Int × Int × Int × List Int × Unit) × Unit)) → Int → Int → Option α) : Option α :=
  Rt [((-1), 0, [], ())] 0 0
theorem top_eq {α : Type} (k : Nat) (Q : Ex → St → Option α) :
    (den C k) (cB Try.f64) Q St0 = top (fun (c0p0 : List (Int × Int × List (Int × List Int × List Int × Int × List Int × List Int × List Int × Int × Int × List Int × Unit) × Unit)) (c0p1 : Int) (c0p2 : Int) => Q .ret (St1 c0p0 c0p1 c0p2)) := by
  have h : ∀ (D L : DT α), denJ D L Js C (cB Try.f64) Q St0 =
        Q .ret (St1 [((-1), 0, [], ())] 0 0) := by
    intro D L; kernel_rfl
  refine (show (den C k) (cB Try.f64) Q St0 = denJ (den C k) (lp C k) Js C (cB Try.f64) Q St0 from (denJ_den _ _ _ _ _ _).symm).trans ((h (den C k) (lp C k)).trans ?_)
  first | rfl | kernel_rfl
def run : Option (List (Int × Int × List (Int × List Int × List Int × Int × List Int × List Int × List Int × Int × Int × List Int × Unit) × Unit) × Int × Int × Unit) := top (α := List (Int × Int × List (Int × List Int × List Int × Int × List Int × List Int × List Int × Int × Int × List Int × Unit) × Unit) × Int × Int × Unit) (fun (c0p0 : List (Int × Int × List (Int × List Int × List Int × Int × List Int × List Int × List Int × Int × Int × List Int × Unit) × Unit)) (c0p1 : Int) (c0p2 : Int) => some (c0p0, c0p1, c0p2, ()))
def F : Fn := ⟨.unit, (.pair (.sl (.pair (.int .i64) (.pair (.int .i64) (.pair (.sl (.pair (.int .i64) (.pair (.arr 32 (.int .u8)) (.pair (.arr 32 (.int .u8)) (.pair (.int .i64) (.pair (.arr 4 (.int .u64)) (.pair (.arr 4 (.int .u64)) (.pair (.arr 32 (.int .u8)) (.pair (.int .i64) (.pair (.int .i64) (.pair (.sl (.int .u8)) .unit))))))))))) .unit)))) (.pair (.int .i64) (.pair (.int .i64) .unit))), false, fun x => run⟩
set_option maxRecDepth 100000 in
theorem con : Con Try.prog 64 F := by
  refine con_of_den (C := C) (ctx_ok (by kernel_rfl) (by kernel_rfl) trivial) (by kernel_rfl) Try.func64 (c := cB Try.f64) (by kernel_rfl) (by kernel_rfl) F fuel (fun x => by simp [F, spread, Try.ntmps64]) ?_
  intro x r h
  rw [← h]
  have h1 : start F Try.f64.ntmps x = St0 := by kernel_rfl
  rw [h1]
  refine (top_eq fuel (fin C Try.f64.results.toList F.rs F.multi)).trans ?_
  kernel_rfl
theorem named : Named Try.prog 64 := named_of Try.func64 (by kernel_rfl) (by kernel_rfl)
end Go.Bx.fork_Begin
namespace Go.Bx.basculelaw_ForkLines
open Go Go.Proofs Go.Bx
set_option maxRecDepth 100000
set_option linter.unusedVariables false
def Js : List Nat := []
def C : Ctx := ⟨[(4, .bool), (77, (.sl (.pair (.int .i64) (.pair (.int .i64) (.pair (.sl (.pair (.int .i64) (.pair (.arr 32 (.int .u8)) (.pair (.arr 32 (.int .u8)) (.pair (.int .i64) (.pair (.arr 4 (.int .u64)) (.pair (.arr 4 (.int .u64)) (.pair (.arr 32 (.int .u8)) (.pair (.int .i64) (.pair (.int .i64) (.pair (.sl (.int .u8)) .unit))))))))))) .unit))))), (79, (.pair (.sl (.pair (.int .i64) (.pair (.int .i64) (.pair (.sl (.pair (.int .i64) (.pair (.arr 32 (.int .u8)) (.pair (.arr 32 (.int .u8)) (.pair (.int .i64) (.pair (.arr 4 (.int .u64)) (.pair (.arr 4 (.int .u64)) (.pair (.arr 32 (.int .u8)) (.pair (.int .i64) (.pair (.int .i64) (.pair (.sl (.int .u8)) .unit))))))))))) .unit)))) (.pair (.int .i64) (.pair (.int .i64) .unit))))], [], fnL [(55, Go.Bx.basculelaw_sameInts.F), (62, Go.Bx.fork_Line.F), (63, Go.Bx.basculeref_LineOf.F), (64, Go.Bx.fork_Begin.F)], noSh, [], noInv, [(2, [4])], [], [], 0, 0⟩
def St0 (x0 : List (Int × Int × List (Int × List Int × List Int × Int × List Int × List Int × List Int × Int × Int × List Int × Unit) × Unit) × Int × Int × Unit) (x1 : Bool) : St := stL 35 [(0, .data (.pair (.sl (.pair (.int .i64) (.pair (.int .i64) (.pair (.sl (.pair (.int .i64) (.pair (.arr 32 (.int .u8)) (.pair (.arr 32 (.int .u8)) (.pair (.int .i64) (.pair (.arr 4 (.int .u64)) (.pair (.arr 4 (.int .u64)) (.pair (.arr 32 (.int .u8)) (.pair (.int .i64) (.pair (.int .i64) (.pair (.sl (.int .u8)) .unit))))))))))) .unit)))) (.pair (.int .i64) (.pair (.int .i64) .unit))) x0), (1, .data .bool x1)] []
def St1 (x4 : Bool) : St := stL 35 [(4, .data .bool x4)] []
def top {α : Type} (Rt : Bool → Option α) (x0 : List (Int × Int × List (Int × List Int × List Int × Int × List Int × List Int × List Int × Int × Int × List Int × Unit) × Unit) × Int × Int × Unit) (x1 : Bool) : Option α :=
  (Go.Bx.fork_Line.run x0 x1).bind fun y1 =>
  (Go.Bx.basculeref_LineOf.run x0 x1).bind fun y2 =>
  (Go.Bx.basculelaw_sameInts.run y1.1 y2.1).bind fun y3 =>
  (if ((cond y3 (y1.2.1 == y2.2.1) false) == true) = true then Go.Bx.fork_Begin.run else some ([], 0, 0, ())).bind fun y4 =>
  Rt (cond (cond y3 (y1.2.1 == y2.2.1) false) ((y4.1.length : Int) == 1) false)
theorem top_eq {α : Type} (k : Nat) (Q : Ex → St → Option α) (x0 : List (Int × Int × List (Int × List Int × List Int × Int × List Int × List Int × List Int × Int × Int × List Int × Unit) × Unit) × Int × Int × Unit) (x1 : Bool) :
    (den C k) (cB Try.f20) Q (St0 x0 x1) = top (fun (x4 : Bool) => Q .ret (St1 x4)) x0 x1 := by
  have h : ∀ (D L : DT α), denJ D L Js C (cB Try.f20) Q (St0 x0 x1) =
        (Go.Bx.fork_Line.run x0 x1).bind fun y1 =>
        (Go.Bx.basculeref_LineOf.run x0 x1).bind fun y2 =>
        (Go.Bx.basculelaw_sameInts.run y1.1 y2.1).bind fun y3 =>
        (if ((cond y3 (y1.2.1 == y2.2.1) false) == true) = true then Go.Bx.fork_Begin.run else some ([], 0, 0, ())).bind fun y4 =>
        Q .ret (St1 (cond (cond y3 (y1.2.1 == y2.2.1) false) ((y4.1.length : Int) == 1) false)) := by
    intro D L; kernel_rfl
  refine (show (den C k) (cB Try.f20) Q (St0 x0 x1) = denJ (den C k) (lp C k) Js C (cB Try.f20) Q (St0 x0 x1) from (denJ_den _ _ _ _ _ _).symm).trans ((h (den C k) (lp C k)).trans ?_)
  first | rfl | kernel_rfl
def run (x0 : List (Int × Int × List (Int × List Int × List Int × Int × List Int × List Int × List Int × Int × Int × List Int × Unit) × Unit) × Int × Int × Unit) (x1 : Bool) : Option (Bool) := top (α := Bool) (fun (x4 : Bool) => some x4) x0 x1
def F : Fn := ⟨(.pair (.pair (.sl (.pair (.int .i64) (.pair (.int .i64) (.pair (.sl (.pair (.int .i64) (.pair (.arr 32 (.int .u8)) (.pair (.arr 32 (.int .u8)) (.pair (.int .i64) (.pair (.arr 4 (.int .u64)) (.pair (.arr 4 (.int .u64)) (.pair (.arr 32 (.int .u8)) (.pair (.int .i64) (.pair (.int .i64) (.pair (.sl (.int .u8)) .unit))))))))))) .unit)))) (.pair (.int .i64) (.pair (.int .i64) .unit))) (.pair .bool .unit)), .bool, false, fun x => run x.1 x.2.1⟩
set_option maxRecDepth 100000 in
theorem con : Con Try.prog 20 F := by
  refine con_of_den (C := C) (ctx_ok (by kernel_rfl) (by kernel_rfl) ⟨.inl ⟨Go.Bx.basculelaw_sameInts.con, Go.Bx.basculelaw_sameInts.named⟩, ⟨.inl ⟨Go.Bx.fork_Line.con, Go.Bx.fork_Line.named⟩, ⟨.inl ⟨Go.Bx.basculeref_LineOf.con, Go.Bx.basculeref_LineOf.named⟩, ⟨.inl ⟨Go.Bx.fork_Begin.con, Go.Bx.fork_Begin.named⟩, trivial⟩⟩⟩⟩) (by kernel_rfl) Try.func20 (c := cB Try.f20) (by kernel_rfl) (by kernel_rfl) F fuel (fun x => by simp [F, spread, Try.ntmps20]) ?_
  intro x r h
  rw [← h]
  have h1 : start F Try.f20.ntmps x = (St0 x.1 x.2.1) := by kernel_rfl
  rw [h1]
  refine (top_eq fuel (fin C Try.f20.results.toList F.rs F.multi) x.1 x.2.1).trans ?_
  kernel_rfl
theorem named : Named Try.prog 20 := named_of Try.func20 (by kernel_rfl) (by kernel_rfl)
end Go.Bx.basculelaw_ForkLines
