/- Go functions of this seat in their own words of Lean, each tied to its code by a contract. -/
import Derived.Test.YtebnjboimekljaaGBase
import Derived.Test.YtebnjboimekljaaFnForkSettles0
namespace Go.Bx.basculelaw_sameInts
open Go Go.Proofs Go.Bx
set_option maxRecDepth 100000
set_option linter.unusedVariables false
def Js : List Nat := [10]
def C : Ctx := ⟨[(3, (.int .i64)), (4, .bool), (59, (.sl (.int .i64)))], [], fnL [], noSh, [], noInv, [(2, [4]), (1, []), (4, [0, 1, 12, 13]), (12, [0, 1, 12, 13]), (27, [])], [], [], 0, 0⟩
def St0 (x0 : List Int) (x1 : List Int) : St := stL 26 [(0, .data (.sl (.int .i64)) x0), (1, .data (.sl (.int .i64)) x1)] []
def St1 (x4 : Bool) : St := stL 26 [(4, .data .bool x4)] []
def St2 (x0 : List Int) (x1 : List Int) (x12 : Int) (x13 : Int) : St := stL 26 [(0, .data (.sl (.int .i64)) x0), (1, .data (.sl (.int .i64)) x1), (12, .data (.int .i64) x12), (13, .data (.int .i64) x13)] []
noncomputable def cd0 : Code := cL (cL (cR (cL (cR (cR (cB Try.f55))))))
def St3 : St := stL 26 [] []
def l0s {α : Type} (Nx : (List Int) → (List Int) → Int → Int → Option α) (Rt : Bool → Option α) (Xt0 : Option α) (x0 : List Int) (x1 : List Int) (x12 : Int) (x13 : Int) : Option α :=
  if (decide (x13 < x12)) = true then
    if 0 ≤ x13 ∧ x13 < (x0.length : Int) then
      if 0 ≤ x13 ∧ x13 < (x1.length : Int) then
        if ((List.getD x0 (Int.toNat x13) 0) != (List.getD x1 (Int.toNat x13) 0)) = true then
          Rt false
        else
          Nx x0 x1 x12 (IntKind.i64.wrap (x13 + 1))
      else none
    else none
  else
    Xt0
theorem l0s_eq {α : Type} (k : Nat) (next : St → Option α) (Q : Ex → St → Option α) (x0 : List Int) (x1 : List Int) (x12 : Int) (x13 : Int) :
    rnd C k cd0 12 Q next (St2 x0 x1 x12 x13) = l0s (fun (x0 : List Int) (x1 : List Int) (x12 : Int) (x13 : Int) => next (St2 x0 x1 x12 x13)) (fun (x4 : Bool) => Q .ret (St1 x4)) (Q (.exit 0) St3) x0 x1 x12 x13 := by
  have h : ∀ (D L : DT α), denJ D L Js C cd0 (lq C 12 next Q) (St2 x0 x1 x12 x13) =
        if (decide (x13 < x12)) = true then
          if 0 ≤ x13 ∧ x13 < (x0.length : Int) then
            if 0 ≤ x13 ∧ x13 < (x1.length : Int) then
              if ((List.getD x0 (Int.toNat x13) 0) != (List.getD x1 (Int.toNat x13) 0)) = true then
                Q .ret (St1 false)
              else
                next (St2 x0 x1 x12 (IntKind.i64.wrap (x13 + 1)))
            else none
          else none
        else
          Q (.exit 0) St3 := by
    intro D L; kernel_rfl
  refine (show rnd C k cd0 12 Q next (St2 x0 x1 x12 x13) = denJ (den C k) (lp C k) Js C cd0 (lq C 12 next Q) (St2 x0 x1 x12 x13) from (denJ_den _ _ _ _ _ _).symm).trans ((h (den C k) (lp C k)).trans ?_)
  first | rfl | kernel_rfl
def l0 {α : Type} (k : Nat) (Rt : Bool → Option α) (Xt0 : Option α) : Nat → (List Int) → (List Int) → Int → Int → Option α
  | 0, _, _, _, _ => none
  | n + 1, x0, x1, x12, x13 => l0s (l0 k Rt Xt0 n) Rt Xt0 x0 x1 x12 x13
theorem l0_eq {α : Type} (k : Nat) (Q : Ex → St → Option α) : ∀ (n : Nat) (x0 : List Int) (x1 : List Int) (x12 : Int) (x13 : Int), iter (rnd C k cd0 12 Q) n (St2 x0 x1 x12 x13) = l0 k (fun (x4 : Bool) => Q .ret (St1 x4)) (Q (.exit 0) St3) n x0 x1 x12 x13
  | 0, _, _, _, _ => rfl
  | n + 1, x0, x1, x12, x13 => (iter_succ _ _ _).trans ((l0s_eq k (iter (rnd C k cd0 12 Q) n) Q x0 x1 x12 x13).trans (congrArg (fun N => l0s N (fun (x4 : Bool) => Q .ret (St1 x4)) (Q (.exit 0) St3) x0 x1 x12 x13) (funext fun x0 => funext fun x1 => funext fun x12 => funext fun x13 => l0_eq k Q n x0 x1 x12 x13)))
theorem l0_congr {α : Type} (k : Nat) (Rt : Bool → Option α) (Xt0 : Option α) (Rtq : Bool → Option α) (Xt0q : Option α) (hRt : ∀ (x4 : Bool), Rt x4 = Rtq x4) (hXt0 : Xt0 = Xt0q) (n : Nat) (x0 : List Int) (x1 : List Int) (x12 : Int) (x13 : Int) : l0 k Rt Xt0 n x0 x1 x12 x13 = l0 k Rtq Xt0q n x0 x1 x12 x13 := by
  obtain rfl : Rt = Rtq := by funext x4; exact hRt x4
  obtain rfl : Xt0 = Xt0q := hXt0
  rfl
noncomputable def cd1 : Code := cR (cR (cR (cB Try.f55)))
def St4 : St := stL 26 [] []
def j0 {α : Type} (Rt : Bool → Option α) : Option α :=
  Rt true
theorem j0_eq {α : Type} (k : Nat) (Q : Ex → St → Option α) :
    (den C k) cd1 Q St4 = j0 (fun (x4 : Bool) => Q .ret (St1 x4)) := by
  have h : ∀ (D L : DT α), denJ D L Js C cd1 Q St4 =
        Q .ret (St1 true) := by
    intro D L; kernel_rfl
  refine (show (den C k) cd1 Q St4 = denJ (den C k) (lp C k) Js C cd1 Q St4 from (denJ_den _ _ _ _ _ _).symm).trans ((h (den C k) (lp C k)).trans ?_)
  first | rfl | kernel_rfl
theorem a0 {α : Type} (k : Nat) (Q : Ex → St → Option α) (x0 : List Int) (x1 : List Int) (x12 : Int) (x13 : Int) :
    (lp C k) cd0 (blkQ C 0 (sq (den C k) (lp C k) Js C cd1 Q)) (St2 x0 x1 x12 x13) = l0 k (fun (x4 : Bool) => (fun (x4 : Bool) => Q .ret (St1 x4)) x4) (j0 (fun (x4 : Bool) => Q .ret (St1 x4))) k x0 x1 x12 x13 :=
  (show (lp C k) cd0 (blkQ C 0 (sq (den C k) (lp C k) Js C cd1 Q)) (St2 x0 x1 x12 x13) = iter (rnd C k cd0 12 (blkQ C 0 (sq (den C k) (lp C k) Js C cd1 Q))) k (St2 x0 x1 x12 x13) by kernel_rfl).trans ((l0_eq k (blkQ C 0 (sq (den C k) (lp C k) Js C cd1 Q)) k x0 x1 x12 x13).trans (l0_congr k _ _ _ _ (fun x4 => (show (blkQ C 0 (sq (den C k) (lp C k) Js C cd1 Q)) .ret (St1 x4) = Q .ret (St1 x4) by kernel_rfl)) ((show (blkQ C 0 (sq (den C k) (lp C k) Js C cd1 Q)) (.exit 0) St3 = (den C k) cd1 Q St4 by kernel_rfl).trans (by simp only [j0_eq])) k x0 x1 x12 x13))
def top {α : Type} (k : Nat) (Rt : Bool → Option α) (x0 : List Int) (x1 : List Int) : Option α :=
  if ((x0.length : Int) != (x1.length : Int)) = true then
    Rt false
  else
    l0 k (fun (x4 : Bool) => Rt x4) (j0 Rt) k x0 x1 (x0.length : Int) 0
theorem top_eq {α : Type} (k : Nat) (Q : Ex → St → Option α) (x0 : List Int) (x1 : List Int) :
    (den C k) (cB Try.f55) Q (St0 x0 x1) = top k (fun (x4 : Bool) => Q .ret (St1 x4)) x0 x1 := by
  have h : ∀ (D L : DT α), denJ D L Js C (cB Try.f55) Q (St0 x0 x1) =
        if ((x0.length : Int) != (x1.length : Int)) = true then
          Q .ret (St1 false)
        else
          L cd0 (blkQ C 0 (sq D L Js C cd1 Q)) (St2 x0 x1 (x0.length : Int) 0) := by
    intro D L; kernel_rfl
  refine (show (den C k) (cB Try.f55) Q (St0 x0 x1) = denJ (den C k) (lp C k) Js C (cB Try.f55) Q (St0 x0 x1) from (denJ_den _ _ _ _ _ _).symm).trans ((h (den C k) (lp C k)).trans ?_)
  simp only [a0]
  first | rfl | kernel_rfl
def run (x0 : List Int) (x1 : List Int) : Option (Bool) := top (α := Bool) fuel (fun (x4 : Bool) => some x4) x0 x1
def F : Fn := ⟨(.pair (.sl (.int .i64)) (.pair (.sl (.int .i64)) .unit)), .bool, false, fun x => run x.1 x.2.1⟩
set_option maxRecDepth 100000 in
theorem con : Con Try.prog 55 F := by
  refine con_of_den (C := C) (ctx_ok (by kernel_rfl) (by kernel_rfl) trivial) (by kernel_rfl) Try.func55 (c := cB Try.f55) (by kernel_rfl) (by kernel_rfl) F fuel (fun x => by simp [F, spread, Try.ntmps55]) ?_
  intro x r h
  rw [← h]
  have h1 : start F Try.f55.ntmps x = (St0 x.1 x.2.1) := by kernel_rfl
  rw [h1]
  refine (top_eq fuel (fin C Try.f55.results.toList F.rs F.multi) x.1 x.2.1).trans ?_
  kernel_rfl
theorem named : Named Try.prog 55 := named_of Try.func55 (by kernel_rfl) (by kernel_rfl)
end Go.Bx.basculelaw_sameInts
namespace Go.Bx.fork_Settle
open Go Go.Proofs Go.Bx
set_option maxRecDepth 100000
set_option linter.unusedVariables false
def Js : List Nat := []
def C : Ctx := ⟨[(3, (.int .i64)), (25, (.int .i64)), (59, (.sl (.int .i64))), (77, (.sl (.pair (.int .i64) (.pair (.int .i64) (.pair (.sl (.pair (.int .i64) (.pair (.arr 32 (.int .u8)) (.pair (.arr 32 (.int .u8)) (.pair (.int .i64) (.pair (.arr 4 (.int .u64)) (.pair (.arr 4 (.int .u64)) (.pair (.arr 32 (.int .u8)) (.pair (.int .i64) (.pair (.int .i64) (.pair (.sl (.int .u8)) .unit))))))))))) .unit))))), (79, (.pair (.sl (.pair (.int .i64) (.pair (.int .i64) (.pair (.sl (.pair (.int .i64) (.pair (.arr 32 (.int .u8)) (.pair (.arr 32 (.int .u8)) (.pair (.int .i64) (.pair (.arr 4 (.int .u64)) (.pair (.arr 4 (.int .u64)) (.pair (.arr 32 (.int .u8)) (.pair (.int .i64) (.pair (.int .i64) (.pair (.sl (.int .u8)) .unit))))))))))) .unit)))) (.pair (.int .i64) (.pair (.int .i64) .unit)))), (136, (.pair (.int .i64) (.pair (.int .i64) (.pair (.sl (.pair (.int .i64) (.pair (.arr 32 (.int .u8)) (.pair (.arr 32 (.int .u8)) (.pair (.int .i64) (.pair (.arr 4 (.int .u64)) (.pair (.arr 4 (.int .u64)) (.pair (.arr 32 (.int .u8)) (.pair (.int .i64) (.pair (.int .i64) (.pair (.sl (.int .u8)) .unit))))))))))) .unit))))], [], fnL [(119, Go.Bx.fork_Check.F), (120, Go.Bx.fork_line.F), (124, Go.Bx.fork_fresh.F)], noSh, [], noInv, [(2, [4, 5])], [(2, [.dat false 4 []])], [], 0, 0⟩
def St0 (x0 : List (Int × Int × List (Int × List Int × List Int × Int × List Int × List Int × List Int × Int × Int × List Int × Unit) × Unit) × Int × Int × Unit) (x1 : Int) : St := stL 45 [(0, .data (.pair (.sl (.pair (.int .i64) (.pair (.int .i64) (.pair (.sl (.pair (.int .i64) (.pair (.arr 32 (.int .u8)) (.pair (.arr 32 (.int .u8)) (.pair (.int .i64) (.pair (.arr 4 (.int .u64)) (.pair (.arr 4 (.int .u64)) (.pair (.arr 32 (.int .u8)) (.pair (.int .i64) (.pair (.int .i64) (.pair (.sl (.int .u8)) .unit))))))))))) .unit)))) (.pair (.int .i64) (.pair (.int .i64) .unit))) x0), (1, .data (.int .i64) x1)] []
def St1 (x5 : Int) (c4 : List (Int × Int × List (Int × List Int × List Int × Int × List Int × List Int × List Int × Int × Int × List Int × Unit) × Unit) × Int × Int × Unit) : St := stL 45 [(4, .ref 4 0 []), (5, .data (.int .i64) x5)] [(4, .cell (.pair (.sl (.pair (.int .i64) (.pair (.int .i64) (.pair (.sl (.pair (.int .i64) (.pair (.arr 32 (.int .u8)) (.pair (.arr 32 (.int .u8)) (.pair (.int .i64) (.pair (.arr 4 (.int .u64)) (.pair (.arr 4 (.int .u64)) (.pair (.arr 32 (.int .u8)) (.pair (.int .i64) (.pair (.int .i64) (.pair (.sl (.int .u8)) .unit))))))))))) .unit)))) (.pair (.int .i64) (.pair (.int .i64) .unit))) (.data (.pair (.sl (.pair (.int .i64) (.pair (.int .i64) (.pair (.sl (.pair (.int .i64) (.pair (.arr 32 (.int .u8)) (.pair (.arr 32 (.int .u8)) (.pair (.int .i64) (.pair (.arr 4 (.int .u64)) (.pair (.arr 4 (.int .u64)) (.pair (.arr 32 (.int .u8)) (.pair (.int .i64) (.pair (.int .i64) (.pair (.sl (.int .u8)) .unit))))))))))) .unit)))) (.pair (.int .i64) (.pair (.int .i64) .unit))) c4) false)]
def top {α : Type} (Rt : Int → (List (Int × Int × List (Int × List Int × List Int × Int × List Int × List Int × List Int × Int × Int × List Int × Unit) × Unit) × Int × Int × Unit) → Option α) (x0 : List (Int × Int × List (Int × List Int × List Int × Int × List Int × List Int × List Int × Int × Int × List Int × Unit) × Unit) × Int × Int × Unit) (x1 : Int) : Option α :=
  (Go.Bx.fork_Check.run x0).bind fun y1 =>
  if (y1 != 0) = true then
    Rt y1 ([], 0, 0, ())
  else
    if 0 ≤ x0.2.2.1 ∧ x0.2.2.1 < (x0.1.length : Int) then
      cond (decide (0 ≤ x0.2.1 ∧ x0.2.1 < (x0.1.length : Int)) || !((decide (x1 < (List.getD x0.1 (Int.toNat x0.2.2.1) (0, 0, [], ())).2.1)) == false)) (
        if (cond (decide (x1 < (List.getD x0.1 (Int.toNat x0.2.2.1) (0, 0, [], ())).2.1)) true (decide (x1 > (List.getD x0.1 (Int.toNat x0.2.1) (0, 0, [], ())).2.1))) = true then
          Rt 6 ([], 0, 0, ())
        else
          (Go.Bx.fork_fresh.run x0).bind fun y2 =>
          (Go.Bx.fork_line.run y2 y2.2.1).bind fun y3 =>
          if 0 ≤ x1 ∧ x1 < (y3.length : Int) then
            Rt 0 (y2.1, y2.2.1, (List.getD y3 (Int.toNat x1) 0), y2.2.2.2)
          else none) none
    else none
theorem top_eq {α : Type} (k : Nat) (Q : Ex → St → Option α) (x0 : List (Int × Int × List (Int × List Int × List Int × Int × List Int × List Int × List Int × Int × Int × List Int × Unit) × Unit) × Int × Int × Unit) (x1 : Int) :
    (den C k) (cB Try.f68) Q (St0 x0 x1) = top (fun (x5 : Int) (c4 : List (Int × Int × List (Int × List Int × List Int × Int × List Int × List Int × List Int × Int × Int × List Int × Unit) × Unit) × Int × Int × Unit) => Q .ret (St1 x5 c4)) x0 x1 := by
  have h : ∀ (D L : DT α), denJ D L Js C (cB Try.f68) Q (St0 x0 x1) =
        (Go.Bx.fork_Check.run x0).bind fun y1 =>
        if (y1 != 0) = true then
          Q .ret (St1 y1 ([], 0, 0, ()))
        else
          if 0 ≤ x0.2.2.1 ∧ x0.2.2.1 < (x0.1.length : Int) then
            cond (decide (0 ≤ x0.2.1 ∧ x0.2.1 < (x0.1.length : Int)) || !((decide (x1 < (List.getD x0.1 (Int.toNat x0.2.2.1) (0, 0, [], ())).2.1)) == false)) (
              if (cond (decide (x1 < (List.getD x0.1 (Int.toNat x0.2.2.1) (0, 0, [], ())).2.1)) true (decide (x1 > (List.getD x0.1 (Int.toNat x0.2.1) (0, 0, [], ())).2.1))) = true then
                Q .ret (St1 6 ([], 0, 0, ()))
              else
                (Go.Bx.fork_fresh.run x0).bind fun y2 =>
                (Go.Bx.fork_line.run y2 y2.2.1).bind fun y3 =>
                if 0 ≤ x1 ∧ x1 < (y3.length : Int) then
                  Q .ret (St1 0 (y2.1, y2.2.1, (List.getD y3 (Int.toNat x1) 0), y2.2.2.2))
                else none) none
          else none := by
    intro D L; kernel_rfl
  refine (show (den C k) (cB Try.f68) Q (St0 x0 x1) = denJ (den C k) (lp C k) Js C (cB Try.f68) Q (St0 x0 x1) from (denJ_den _ _ _ _ _ _).symm).trans ((h (den C k) (lp C k)).trans ?_)
  first | rfl | kernel_rfl
def run (x0 : List (Int × Int × List (Int × List Int × List Int × Int × List Int × List Int × List Int × Int × Int × List Int × Unit) × Unit) × Int × Int × Unit) (x1 : Int) : Option ((List (Int × Int × List (Int × List Int × List Int × Int × List Int × List Int × List Int × Int × Int × List Int × Unit) × Unit) × Int × Int × Unit) × Int × Unit) := top (α := (List (Int × Int × List (Int × List Int × List Int × Int × List Int × List Int × List Int × Int × Int × List Int × Unit) × Unit) × Int × Int × Unit) × Int × Unit) (fun (x5 : Int) (c4 : List (Int × Int × List (Int × List Int × List Int × Int × List Int × List Int × List Int × Int × Int × List Int × Unit) × Unit) × Int × Int × Unit) => some (c4, x5, ())) x0 x1
def F : Fn := ⟨(.pair (.pair (.sl (.pair (.int .i64) (.pair (.int .i64) (.pair (.sl (.pair (.int .i64) (.pair (.arr 32 (.int .u8)) (.pair (.arr 32 (.int .u8)) (.pair (.int .i64) (.pair (.arr 4 (.int .u64)) (.pair (.arr 4 (.int .u64)) (.pair (.arr 32 (.int .u8)) (.pair (.int .i64) (.pair (.int .i64) (.pair (.sl (.int .u8)) .unit))))))))))) .unit)))) (.pair (.int .i64) (.pair (.int .i64) .unit))) (.pair (.int .i64) .unit)), (.pair (.pair (.sl (.pair (.int .i64) (.pair (.int .i64) (.pair (.sl (.pair (.int .i64) (.pair (.arr 32 (.int .u8)) (.pair (.arr 32 (.int .u8)) (.pair (.int .i64) (.pair (.arr 4 (.int .u64)) (.pair (.arr 4 (.int .u64)) (.pair (.arr 32 (.int .u8)) (.pair (.int .i64) (.pair (.int .i64) (.pair (.sl (.int .u8)) .unit))))))))))) .unit)))) (.pair (.int .i64) (.pair (.int .i64) .unit))) (.pair (.int .i64) .unit)), true, fun x => run x.1 x.2.1⟩
set_option maxRecDepth 100000 in
theorem con : Con Try.prog 68 F := by
  refine con_of_den (C := C) (ctx_ok (by kernel_rfl) (by kernel_rfl) ⟨.inl ⟨Go.Bx.fork_Check.con, Go.Bx.fork_Check.named⟩, ⟨.inl ⟨Go.Bx.fork_line.con, Go.Bx.fork_line.named⟩, ⟨.inl ⟨Go.Bx.fork_fresh.con, Go.Bx.fork_fresh.named⟩, trivial⟩⟩⟩) (by kernel_rfl) Try.func68 (c := cB Try.f68) (by kernel_rfl) (by kernel_rfl) F fuel (fun x => by simp [F, spread, Try.ntmps68]) ?_
  intro x r h
  rw [← h]
  have h1 : start F Try.f68.ntmps x = (St0 x.1 x.2.1) := by kernel_rfl
  rw [h1]
  refine (top_eq fuel (fin C Try.f68.results.toList F.rs F.multi) x.1 x.2.1).trans ?_
  kernel_rfl
theorem named : Named Try.prog 68 := named_of Try.func68 (by kernel_rfl) (by kernel_rfl)
end Go.Bx.fork_Settle
namespace Go.Bx.basculeref_Settled
open Go Go.Proofs Go.Bx
set_option maxRecDepth 100000
set_option linter.unusedVariables false
def Js : List Nat := []
def C : Ctx := ⟨[(3, (.int .i64)), (25, (.int .i64)), (59, (.sl (.int .i64))), (77, (.sl (.pair (.int .i64) (.pair (.int .i64) (.pair (.sl (.pair (.int .i64) (.pair (.arr 32 (.int .u8)) (.pair (.arr 32 (.int .u8)) (.pair (.int .i64) (.pair (.arr 4 (.int .u64)) (.pair (.arr 4 (.int .u64)) (.pair (.arr 32 (.int .u8)) (.pair (.int .i64) (.pair (.int .i64) (.pair (.sl (.int .u8)) .unit))))))))))) .unit))))), (79, (.pair (.sl (.pair (.int .i64) (.pair (.int .i64) (.pair (.sl (.pair (.int .i64) (.pair (.arr 32 (.int .u8)) (.pair (.arr 32 (.int .u8)) (.pair (.int .i64) (.pair (.arr 4 (.int .u64)) (.pair (.arr 4 (.int .u64)) (.pair (.arr 32 (.int .u8)) (.pair (.int .i64) (.pair (.int .i64) (.pair (.sl (.int .u8)) .unit))))))))))) .unit)))) (.pair (.int .i64) (.pair (.int .i64) .unit)))), (136, (.pair (.int .i64) (.pair (.int .i64) (.pair (.sl (.pair (.int .i64) (.pair (.arr 32 (.int .u8)) (.pair (.arr 32 (.int .u8)) (.pair (.int .i64) (.pair (.arr 4 (.int .u64)) (.pair (.arr 4 (.int .u64)) (.pair (.arr 32 (.int .u8)) (.pair (.int .i64) (.pair (.int .i64) (.pair (.sl (.int .u8)) .unit))))))))))) .unit))))], [], fnL [(121, Go.Bx.basculeref_TreeFault.F), (122, Go.Bx.basculeref_lineTo.F)], noSh, [], noInv, [(2, [4, 5])], [(2, [.dat false 4 []])], [], 0, 0⟩
def St0 (x0 : List (Int × Int × List (Int × List Int × List Int × Int × List Int × List Int × List Int × Int × Int × List Int × Unit) × Unit) × Int × Int × Unit) (x1 : Int) : St := stL 43 [(0, .data (.pair (.sl (.pair (.int .i64) (.pair (.int .i64) (.pair (.sl (.pair (.int .i64) (.pair (.arr 32 (.int .u8)) (.pair (.arr 32 (.int .u8)) (.pair (.int .i64) (.pair (.arr 4 (.int .u64)) (.pair (.arr 4 (.int .u64)) (.pair (.arr 32 (.int .u8)) (.pair (.int .i64) (.pair (.int .i64) (.pair (.sl (.int .u8)) .unit))))))))))) .unit)))) (.pair (.int .i64) (.pair (.int .i64) .unit))) x0), (1, .data (.int .i64) x1)] []
def St1 (x5 : Int) (c4 : List (Int × Int × List (Int × List Int × List Int × Int × List Int × List Int × List Int × Int × Int × List Int × Unit) × Unit) × Int × Int × Unit) : St := stL 43 [(4, .ref 4 0 []), (5, .data (.int .i64) x5)] [(4, .cell (.pair (.sl (.pair (.int .i64) (.pair (.int .i64) (.pair (.sl (.pair (.int .i64) (.pair (.arr 32 (.int .u8)) (.pair (.arr 32 (.int .u8)) (.pair (.int .i64) (.pair (.arr 4 (.int .u64)) (.pair (.arr 4 (.int .u64)) (.pair (.arr 32 (.int .u8)) (.pair (.int .i64) (.pair (.int .i64) (.pair (.sl (.int .u8)) .unit))))))))))) .unit)))) (.pair (.int .i64) (.pair (.int .i64) .unit))) (.data (.pair (.sl (.pair (.int .i64) (.pair (.int .i64) (.pair (.sl (.pair (.int .i64) (.pair (.arr 32 (.int .u8)) (.pair (.arr 32 (.int .u8)) (.pair (.int .i64) (.pair (.arr 4 (.int .u64)) (.pair (.arr 4 (.int .u64)) (.pair (.arr 32 (.int .u8)) (.pair (.int .i64) (.pair (.int .i64) (.pair (.sl (.int .u8)) .unit))))))))))) .unit)))) (.pair (.int .i64) (.pair (.int .i64) .unit))) c4) false)]
def top {α : Type} (Rt : Int → (List (Int × Int × List (Int × List Int × List Int × Int × List Int × List Int × List Int × Int × Int × List Int × Unit) × Unit) × Int × Int × Unit) → Option α) (x0 : List (Int × Int × List (Int × List Int × List Int × Int × List Int × List Int × List Int × Int × Int × List Int × Unit) × Unit) × Int × Int × Unit) (x1 : Int) : Option α :=
  (Go.Bx.basculeref_TreeFault.run x0).bind fun y1 =>
  if (y1 != 0) = true then
    Rt y1 ([], 0, 0, ())
  else
    if 0 ≤ x0.2.2.1 ∧ x0.2.2.1 < (x0.1.length : Int) then
      cond (decide (0 ≤ x0.2.1 ∧ x0.2.1 < (x0.1.length : Int)) || !((decide (x1 < (List.getD x0.1 (Int.toNat x0.2.2.1) (0, 0, [], ())).2.1)) == false)) (
        if (cond (decide (x1 < (List.getD x0.1 (Int.toNat x0.2.2.1) (0, 0, [], ())).2.1)) true (decide (x1 > (List.getD x0.1 (Int.toNat x0.2.1) (0, 0, [], ())).2.1))) = true then
          Rt 6 ([], 0, 0, ())
        else
          (Go.Bx.basculeref_lineTo.run x0 x0.2.1).bind fun y2 =>
          if 0 ≤ x1 ∧ x1 < (y2.length : Int) then
            Rt 0 (x0.1, x0.2.1, (List.getD y2 (Int.toNat x1) 0), x0.2.2.2)
          else none) none
    else none
theorem top_eq {α : Type} (k : Nat) (Q : Ex → St → Option α) (x0 : List (Int × Int × List (Int × List Int × List Int × Int × List Int × List Int × List Int × Int × Int × List Int × Unit) × Unit) × Int × Int × Unit) (x1 : Int) :
    (den C k) (cB Try.f69) Q (St0 x0 x1) = top (fun (x5 : Int) (c4 : List (Int × Int × List (Int × List Int × List Int × Int × List Int × List Int × List Int × Int × Int × List Int × Unit) × Unit) × Int × Int × Unit) => Q .ret (St1 x5 c4)) x0 x1 := by
  have h : ∀ (D L : DT α), denJ D L Js C (cB Try.f69) Q (St0 x0 x1) =
        (Go.Bx.basculeref_TreeFault.run x0).bind fun y1 =>
        if (y1 != 0) = true then
          Q .ret (St1 y1 ([], 0, 0, ()))
        else
          if 0 ≤ x0.2.2.1 ∧ x0.2.2.1 < (x0.1.length : Int) then
            cond (decide (0 ≤ x0.2.1 ∧ x0.2.1 < (x0.1.length : Int)) || !((decide (x1 < (List.getD x0.1 (Int.toNat x0.2.2.1) (0, 0, [], ())).2.1)) == false)) (
              if (cond (decide (x1 < (List.getD x0.1 (Int.toNat x0.2.2.1) (0, 0, [], ())).2.1)) true (decide (x1 > (List.getD x0.1 (Int.toNat x0.2.1) (0, 0, [], ())).2.1))) = true then
                Q .ret (St1 6 ([], 0, 0, ()))
              else
                (Go.Bx.basculeref_lineTo.run x0 x0.2.1).bind fun y2 =>
                if 0 ≤ x1 ∧ x1 < (y2.length : Int) then
                  Q .ret (St1 0 (x0.1, x0.2.1, (List.getD y2 (Int.toNat x1) 0), x0.2.2.2))
                else none) none
          else none := by
    intro D L; kernel_rfl
  refine (show (den C k) (cB Try.f69) Q (St0 x0 x1) = denJ (den C k) (lp C k) Js C (cB Try.f69) Q (St0 x0 x1) from (denJ_den _ _ _ _ _ _).symm).trans ((h (den C k) (lp C k)).trans ?_)
  first | rfl | kernel_rfl
def run (x0 : List (Int × Int × List (Int × List Int × List Int × Int × List Int × List Int × List Int × Int × Int × List Int × Unit) × Unit) × Int × Int × Unit) (x1 : Int) : Option ((List (Int × Int × List (Int × List Int × List Int × Int × List Int × List Int × List Int × Int × Int × List Int × Unit) × Unit) × Int × Int × Unit) × Int × Unit) := top (α := (List (Int × Int × List (Int × List Int × List Int × Int × List Int × List Int × List Int × Int × Int × List Int × Unit) × Unit) × Int × Int × Unit) × Int × Unit) (fun (x5 : Int) (c4 : List (Int × Int × List (Int × List Int × List Int × Int × List Int × List Int × List Int × Int × Int × List Int × Unit) × Unit) × Int × Int × Unit) => some (c4, x5, ())) x0 x1
def F : Fn := ⟨(.pair (.pair (.sl (.pair (.int .i64) (.pair (.int .i64) (.pair (.sl (.pair (.int .i64) (.pair (.arr 32 (.int .u8)) (.pair (.arr 32 (.int .u8)) (.pair (.int .i64) (.pair (.arr 4 (.int .u64)) (.pair (.arr 4 (.int .u64)) (.pair (.arr 32 (.int .u8)) (.pair (.int .i64) (.pair (.int .i64) (.pair (.sl (.int .u8)) .unit))))))))))) .unit)))) (.pair (.int .i64) (.pair (.int .i64) .unit))) (.pair (.int .i64) .unit)), (.pair (.pair (.sl (.pair (.int .i64) (.pair (.int .i64) (.pair (.sl (.pair (.int .i64) (.pair (.arr 32 (.int .u8)) (.pair (.arr 32 (.int .u8)) (.pair (.int .i64) (.pair (.arr 4 (.int .u64)) (.pair (.arr 4 (.int .u64)) (.pair (.arr 32 (.int .u8)) (.pair (.int .i64) (.pair (.int .i64) (.pair (.sl (.int .u8)) .unit))))))))))) .unit)))) (.pair (.int .i64) (.pair (.int .i64) .unit))) (.pair (.int .i64) .unit)), true, fun x => run x.1 x.2.1⟩
set_option maxRecDepth 100000 in
theorem con : Con Try.prog 69 F := by
  refine con_of_den (C := C) (ctx_ok (by kernel_rfl) (by kernel_rfl) ⟨.inl ⟨Go.Bx.basculeref_TreeFault.con, Go.Bx.basculeref_TreeFault.named⟩, ⟨.inl ⟨Go.Bx.basculeref_lineTo.con, Go.Bx.basculeref_lineTo.named⟩, trivial⟩⟩) (by kernel_rfl) Try.func69 (c := cB Try.f69) (by kernel_rfl) (by kernel_rfl) F fuel (fun x => by simp [F, spread, Try.ntmps69]) ?_
  intro x r h
  rw [← h]
  have h1 : start F Try.f69.ntmps x = (St0 x.1 x.2.1) := by kernel_rfl
  rw [h1]
  refine (top_eq fuel (fin C Try.f69.results.toList F.rs F.multi) x.1 x.2.1).trans ?_
  kernel_rfl
theorem named : Named Try.prog 69 := named_of Try.func69 (by kernel_rfl) (by kernel_rfl)
end Go.Bx.basculeref_Settled
namespace Go.Bx.basculelaw_ForkSettles
open Go Go.Proofs Go.Bx
set_option maxRecDepth 100000
set_option linter.unusedVariables false
def Js : List Nat := []
def C : Ctx := ⟨[(3, (.int .i64)), (4, .bool), (79, (.pair (.sl (.pair (.int .i64) (.pair (.int .i64) (.pair (.sl (.pair (.int .i64) (.pair (.arr 32 (.int .u8)) (.pair (.arr 32 (.int .u8)) (.pair (.int .i64) (.pair (.arr 4 (.int .u64)) (.pair (.arr 4 (.int .u64)) (.pair (.arr 32 (.int .u8)) (.pair (.int .i64) (.pair (.int .i64) (.pair (.sl (.int .u8)) .unit))))))))))) .unit)))) (.pair (.int .i64) (.pair (.int .i64) .unit))))], [], fnL [(67, Go.Bx.basculelaw_sameTree.F), (68, Go.Bx.fork_Settle.F), (69, Go.Bx.basculeref_Settled.F)], noSh, [], noInv, [(2, [4])], [], [], 0, 0⟩
def St0 (x0 : List (Int × Int × List (Int × List Int × List Int × Int × List Int × List Int × List Int × Int × Int × List Int × Unit) × Unit) × Int × Int × Unit) (x1 : Int) : St := stL 29 [(0, .data (.pair (.sl (.pair (.int .i64) (.pair (.int .i64) (.pair (.sl (.pair (.int .i64) (.pair (.arr 32 (.int .u8)) (.pair (.arr 32 (.int .u8)) (.pair (.int .i64) (.pair (.arr 4 (.int .u64)) (.pair (.arr 4 (.int .u64)) (.pair (.arr 32 (.int .u8)) (.pair (.int .i64) (.pair (.int .i64) (.pair (.sl (.int .u8)) .unit))))))))))) .unit)))) (.pair (.int .i64) (.pair (.int .i64) .unit))) x0), (1, .data (.int .i64) x1)] []
def St1 (x4 : Bool) : St := stL 29 [(4, .data .bool x4)] []
def top {α : Type} (Rt : Bool → Option α) (x0 : List (Int × Int × List (Int × List Int × List Int × Int × List Int × List Int × List Int × Int × Int × List Int × Unit) × Unit) × Int × Int × Unit) (x1 : Int) : Option α :=
  (Go.Bx.fork_Settle.run x0 x1).bind fun y1 =>
  (Go.Bx.basculeref_Settled.run x0 x1).bind fun y2 =>
  (Go.Bx.basculelaw_sameTree.run y1.1 y2.1).bind fun y3 =>
  Rt (cond y3 (y1.2.1 == y2.2.1) false)
theorem top_eq {α : Type} (k : Nat) (Q : Ex → St → Option α) (x0 : List (Int × Int × List (Int × List Int × List Int × Int × List Int × List Int × List Int × Int × Int × List Int × Unit) × Unit) × Int × Int × Unit) (x1 : Int) :
    (den C k) (cB Try.f22) Q (St0 x0 x1) = top (fun (x4 : Bool) => Q .ret (St1 x4)) x0 x1 := by
  have h : ∀ (D L : DT α), denJ D L Js C (cB Try.f22) Q (St0 x0 x1) =
        (Go.Bx.fork_Settle.run x0 x1).bind fun y1 =>
        (Go.Bx.basculeref_Settled.run x0 x1).bind fun y2 =>
        (Go.Bx.basculelaw_sameTree.run y1.1 y2.1).bind fun y3 =>
        Q .ret (St1 (cond y3 (y1.2.1 == y2.2.1) false)) := by
    intro D L; kernel_rfl
  refine (show (den C k) (cB Try.f22) Q (St0 x0 x1) = denJ (den C k) (lp C k) Js C (cB Try.f22) Q (St0 x0 x1) from (denJ_den _ _ _ _ _ _).symm).trans ((h (den C k) (lp C k)).trans ?_)
  first | rfl | kernel_rfl
def run (x0 : List (Int × Int × List (Int × List Int × List Int × Int × List Int × List Int × List Int × Int × Int × List Int × Unit) × Unit) × Int × Int × Unit) (x1 : Int) : Option (Bool) := top (α := Bool) (fun (x4 : Bool) => some x4) x0 x1
def F : Fn := ⟨(.pair (.pair (.sl (.pair (.int .i64) (.pair (.int .i64) (.pair (.sl (.pair (.int .i64) (.pair (.arr 32 (.int .u8)) (.pair (.arr 32 (.int .u8)) (.pair (.int .i64) (.pair (.arr 4 (.int .u64)) (.pair (.arr 4 (.int .u64)) (.pair (.arr 32 (.int .u8)) (.pair (.int .i64) (.pair (.int .i64) (.pair (.sl (.int .u8)) .unit))))))))))) .unit)))) (.pair (.int .i64) (.pair (.int .i64) .unit))) (.pair (.int .i64) .unit)), .bool, false, fun x => run x.1 x.2.1⟩
set_option maxRecDepth 100000 in
theorem con : Con Try.prog 22 F := by
  refine con_of_den (C := C) (ctx_ok (by kernel_rfl) (by kernel_rfl) ⟨.inl ⟨Go.Bx.basculelaw_sameTree.con, Go.Bx.basculelaw_sameTree.named⟩, ⟨.inl ⟨Go.Bx.fork_Settle.con, Go.Bx.fork_Settle.named⟩, ⟨.inl ⟨Go.Bx.basculeref_Settled.con, Go.Bx.basculeref_Settled.named⟩, trivial⟩⟩⟩) (by kernel_rfl) Try.func22 (c := cB Try.f22) (by kernel_rfl) (by kernel_rfl) F fuel (fun x => by simp [F, spread, Try.ntmps22]) ?_
  intro x r h
  rw [← h]
  have h1 : start F Try.f22.ntmps x = (St0 x.1 x.2.1) := by kernel_rfl
  rw [h1]
  refine (top_eq fuel (fin C Try.f22.results.toList F.rs F.multi) x.1 x.2.1).trans ?_
  kernel_rfl
theorem named : Named Try.prog 22 := named_of Try.func22 (by kernel_rfl) (by kernel_rfl)
end Go.Bx.basculelaw_ForkSettles
