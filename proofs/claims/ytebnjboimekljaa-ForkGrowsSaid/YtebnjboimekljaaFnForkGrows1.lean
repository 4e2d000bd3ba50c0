/- Go functions of this seat in their own words of Lean, each tied to its code by a contract. -/
import Derived.Test.YtebnjboimekljaaGBase
import Derived.Test.YtebnjboimekljaaFnForkGrows0
namespace Go.Bx.basculelaw_sameInts
open Go Go.Proofs Go.Bx
set_option maxRecDepth 100000
set_option linter.unusedVariables false
def Js : List Nat := [10]
def C : Ctx := ⟨[(3, (.int .i64)), (4, .bool), (59, (.sl (.int .i64)))], [], fnL [], noSh, [], noInv, [(2, [4]), (1, []), (4, [0, 1, 12, 13]), (12, [0, 1, 12, 13]), (27, [])], [], [], 0, 0⟩
def St0 (x0 : List Int) (x1 : List Int) : St := stL 26 [(0, .data (.sl (.int .i64)) x0), (1, .data (.sl (.int .i64)) x1)] []
def St1 (x4 : Bool) : St := stL 26 [(4, .data .bool x4)] []
def St2 (x0 : List Int) (x1 : List Int) (x12 : Int) (x13 : Int) : St := stL 26 [(0, .data (.sl (.int .i64)) x0), (1, .data (.sl (.int .i64)) x1), (12, .data (.int .i64) x12), (13, .data (.int .i64) x13)] []
noncomputable def cd0 : Code := cL (cL (cR (cL (cR (cR (cB Try.f55))))))
def St3 : St := stL 26 [] []
def l0s {α : Type} (Nx : (List Int) → (List Int) → Int → Int → Option α) (Rt : Bool → Option α) (Xt0 : Option α) (x0 : List Int) (x1 : List Int) (x12 : Int) (x13 : Int) : Option α :=
  if (decide (x13 < x12)) = true then
    if 0 ≤ x13 ∧ x13 < (x0.length : Int) then
      if 0 ≤ x13 ∧ x13 < (x1.length : Int) then
        if ((List.getD x0 (Int.toNat x13) 0) != (List.getD x1 (Int.toNat x13) 0)) = true then
          Rt false
        else
          Nx x0 x1 x12 (IntKind.i64.wrap (x13 + 1))
      else none
    else none
  else
    Xt0
theorem l0s_eq {α : Type} (k : Nat) (next : St → Option α) (Q : Ex → St → Option α) (x0 : List Int) (x1 : List Int) (x12 : Int) (x13 : Int) :
    rnd C k cd0 12 Q next (St2 x0 x1 x12 x13) = l0s (fun (x0 : List Int) (x1 : List Int) (x12 : Int) (x13 : Int) => next (St2 x0 x1 x12 x13)) (fun (x4 : Bool) => Q .ret (St1 x4)) (Q (.exit 0) St3) x0 x1 x12 x13 := by
  have h : ∀ (D L : DT α), denJ D L Js C cd0 (lq C 12 next Q) (St2 x0 x1 x12 x13) =
        if (decide (x13 < x12)) = true then
          if 0 ≤ x13 ∧ x13 < (x0.length : Int) then
            if 0 ≤ x13 ∧ x13 < (x1.length : Int) then
              if ((List.getD x0 (Int.toNat x13) 0) != (List.getD x1 (Int.toNat x13) 0)) = true then
                Q .ret (St1 false)
              else
                next (St2 x0 x1 x12 (IntKind.i64.wrap (x13 + 1)))
            else none
          else none
        else
          Q (.exit 0) St3 := by
    intro D L; kernel_rfl
  refine (show rnd C k cd0 12 Q next (St2 x0 x1 x12 x13) = denJ (den C k) (lp C k) Js C cd0 (lq C 12 next Q) (St2 x0 x1 x12 x13) from (denJ_den _ _ _ _ _ _).symm).trans ((h (den C k) (lp C k)).trans ?_)
  first | rfl | kernel_rfl
def l0 {α : Type} (k : Nat) (Rt : Bool → Option α) (Xt0 : Option α) : Nat → (List Int) → (List Int) → Int → Int → Option α
  | 0, _, _, _, _ => none
  | n + 1, x0, x1, x12, x13 => l0s (l0 k Rt Xt0 n) Rt Xt0 x0 x1 x12 x13
theorem l0_eq {α : Type} (k : Nat) (Q : Ex → St → Option α) : ∀ (n : Nat) (x0 : List Int) (x1 : List Int) (x12 : Int) (x13 : Int), iter (rnd C k cd0 12 Q) n (St2 x0 x1 x12 x13) = l0 k (fun (x4 : Bool) => Q .ret (St1 x4)) (Q (.exit 0) St3) n x0 x1 x12 x13
  | 0, _, _, _, _ => rfl
  | n + 1, x0, x1, x12, x13 => (iter_succ _ _ _).trans ((l0s_eq k (iter (rnd C k cd0 12 Q) n) Q x0 x1 x12 x13).trans (congrArg (fun N => l0s N (fun (x4 : Bool) => Q .ret (St1 x4)) (Q (.exit 0) St3) x0 x1 x12 x13) (funext fun x0 => funext fun x1 => funext fun x12 => funext fun x13 => l0_eq k Q n x0 x1 x12 x13)))
theorem l0_congr {α : Type} (k : Nat) (Rt : Bool → Option α) (Xt0 : Option α) (Rtq : Bool → Option α) (Xt0q : Option α) (hRt : ∀ (x4 : Bool), Rt x4 = Rtq x4) (hXt0 : Xt0 = Xt0q) (n : Nat) (x0 : List Int) (x1 : List Int) (x12 : Int) (x13 : Int) : l0 k Rt Xt0 n x0 x1 x12 x13 = l0 k Rtq Xt0q n x0 x1 x12 x13 := by
  obtain rfl : Rt = Rtq := by funext x4; exact hRt x4
  obtain rfl : Xt0 = Xt0q := hXt0
  rfl
noncomputable def cd1 : Code := cR (cR (cR (cB Try.f55)))
def St4 : St := stL 26 [] []
def j0 {α : Type} (Rt : Bool → Option α) : Option α :=
  Rt true
theorem j0_eq {α : Type} (k : Nat) (Q : Ex → St → Option α) :
    (den C k) cd1 Q St4 = j0 (fun (x4 : Bool) => Q .ret (St1 x4)) := by
  have h : ∀ (D L : DT α), denJ D L Js C cd1 Q St4 =
        Q .ret (St1 true) := by
    intro D L; kernel_rfl
  refine (show (den C k) cd1 Q St4 = denJ (den C k) (lp C k) Js C cd1 Q St4 from (denJ_den _ _ _ _ _ _).symm).trans ((h (den C k) (lp C k)).trans ?_)
  first | rfl | kernel_rfl
theorem a0 {α : Type} (k : Nat) (Q : Ex → St → Option α) (x0 : List Int) (x1 : List Int) (x12 : Int) (x13 : Int) :
    (lp C k) cd0 (blkQ C 0 (sq (den C k) (lp C k) Js C cd1 Q)) (St2 x0 x1 x12 x13) = l0 k (fun (x4 : Bool) => (fun (x4 : Bool) => Q .ret (St1 x4)) x4) (j0 (fun (x4 : Bool) => Q .ret (St1 x4))) k x0 x1 x12 x13 :=
  (show (lp C k) cd0 (blkQ C 0 (sq (den C k) (lp C k) Js C cd1 Q)) (St2 x0 x1 x12 x13) = iter (rnd C k cd0 12 (blkQ C 0 (sq (den C k) (lp C k) Js C cd1 Q))) k (St2 x0 x1 x12 x13) by kernel_rfl).trans ((l0_eq k (blkQ C 0 (sq (den C k) (lp C k) Js C cd1 Q)) k x0 x1 x12 x13).trans (l0_congr k _ _ _ _ (fun x4 => (show (blkQ C 0 (sq (den C k) (lp C k) Js C cd1 Q)) .ret (St1 x4) = Q .ret (St1 x4) by kernel_rfl)) ((show (blkQ C 0 (sq (den C k) (lp C k) Js C cd1 Q)) (.exit 0) St3 = (den C k) cd1 Q St4 by kernel_rfl).trans (by simp only [j0_eq])) k x0 x1 x12 x13))
def top {α : Type} (k : Nat) (Rt : Bool → Option α) (x0 : List Int) (x1 : List Int) : Option α :=
  if ((x0.length : Int) != (x1.length : Int)) = true then
    Rt false
  else
    l0 k (fun (x4 : Bool) => Rt x4) (j0 Rt) k x0 x1 (x0.length : Int) 0
theorem top_eq {α : Type} (k : Nat) (Q : Ex → St → Option α) (x0 : List Int) (x1 : List Int) :
    (den C k) (cB Try.f55) Q (St0 x0 x1) = top k (fun (x4 : Bool) => Q .ret (St1 x4)) x0 x1 := by
  have h : ∀ (D L : DT α), denJ D L Js C (cB Try.f55) Q (St0 x0 x1) =
        if ((x0.length : Int) != (x1.length : Int)) = true then
          Q .ret (St1 false)
        else
          L cd0 (blkQ C 0 (sq D L Js C cd1 Q)) (St2 x0 x1 (x0.length : Int) 0) := by
    intro D L; kernel_rfl
  refine (show (den C k) (cB Try.f55) Q (St0 x0 x1) = denJ (den C k) (lp C k) Js C (cB Try.f55) Q (St0 x0 x1) from (denJ_den _ _ _ _ _ _).symm).trans ((h (den C k) (lp C k)).trans ?_)
  simp only [a0]
  first | rfl | kernel_rfl
def run (x0 : List Int) (x1 : List Int) : Option (Bool) := top (α := Bool) fuel (fun (x4 : Bool) => some x4) x0 x1
def F : Fn := ⟨(.pair (.sl (.int .i64)) (.pair (.sl (.int .i64)) .unit)), .bool, false, fun x => run x.1 x.2.1⟩
set_option maxRecDepth 100000 in
theorem con : Con Try.prog 55 F := by
  refine con_of_den (C := C) (ctx_ok (by kernel_rfl) (by kernel_rfl) trivial) (by kernel_rfl) Try.func55 (c := cB Try.f55) (by kernel_rfl) (by kernel_rfl) F fuel (fun x => by simp [F, spread, Try.ntmps55]) ?_
  intro x r h
  rw [← h]
  have h1 : start F Try.f55.ntmps x = (St0 x.1 x.2.1) := by kernel_rfl
  rw [h1]
  refine (top_eq fuel (fin C Try.f55.results.toList F.rs F.multi) x.1 x.2.1).trans ?_
  kernel_rfl
theorem named : Named Try.prog 55 := named_of Try.func55 (by kernel_rfl) (by kernel_rfl)
end Go.Bx.basculelaw_sameInts
namespace Go.Bx.fork_Grow
open Go Go.Proofs Go.Bx
set_option maxRecDepth 100000
set_option linter.unusedVariables false
def Js : List Nat := []
def C : Ctx := ⟨[(3, (.int .i64)), (25, (.int .i64)), (77, (.sl (.pair (.int .i64) (.pair (.int .i64) (.pair (.sl (.pair (.int .i64) (.pair (.arr 32 (.int .u8)) (.pair (.arr 32 (.int .u8)) (.pair (.int .i64) (.pair (.arr 4 (.int .u64)) (.pair (.arr 4 (.int .u64)) (.pair (.arr 32 (.int .u8)) (.pair (.int .i64) (.pair (.int .i64) (.pair (.sl (.int .u8)) .unit))))))))))) .unit))))), (79, (.pair (.sl (.pair (.int .i64) (.pair (.int .i64) (.pair (.sl (.pair (.int .i64) (.pair (.arr 32 (.int .u8)) (.pair (.arr 32 (.int .u8)) (.pair (.int .i64) (.pair (.arr 4 (.int .u64)) (.pair (.arr 4 (.int .u64)) (.pair (.arr 32 (.int .u8)) (.pair (.int .i64) (.pair (.int .i64) (.pair (.sl (.int .u8)) .unit))))))))))) .unit)))) (.pair (.int .i64) (.pair (.int .i64) .unit)))), (84, (.sl (.pair (.int .i64) (.pair (.arr 32 (.int .u8)) (.pair (.arr 32 (.int .u8)) (.pair (.int .i64) (.pair (.arr 4 (.int .u64)) (.pair (.arr 4 (.int .u64)) (.pair (.arr 32 (.int .u8)) (.pair (.int .i64) (.pair (.int .i64) (.pair (.sl (.int .u8)) .unit)))))))))))), (136, (.pair (.int .i64) (.pair (.int .i64) (.pair (.sl (.pair (.int .i64) (.pair (.arr 32 (.int .u8)) (.pair (.arr 32 (.int .u8)) (.pair (.int .i64) (.pair (.arr 4 (.int .u64)) (.pair (.arr 4 (.int .u64)) (.pair (.arr 32 (.int .u8)) (.pair (.int .i64) (.pair (.int .i64) (.pair (.sl (.int .u8)) .unit))))))))))) .unit))))], [], fnL [(119, Go.Bx.fork_Check.F), (123, Go.Bx.fork_above.F), (124, Go.Bx.fork_fresh.F), (125, Go.Bx.fork_best.F)], noSh, [], noInv, [(2, [6, 7]), (1, [1, 2, 3, 6])], [(2, [.dat false 6 []])], [65], 0, 0⟩
def St0 (x0 : List (Int × Int × List (Int × List Int × List Int × Int × List Int × List Int × List Int × Int × Int × List Int × Unit) × Unit) × Int × Int × Unit) (x1 : Int) (x2 : List (Int × List Int × List Int × Int × List Int × List Int × List Int × Int × Int × List Int × Unit)) : St := stL 73 [(0, .data (.pair (.sl (.pair (.int .i64) (.pair (.int .i64) (.pair (.sl (.pair (.int .i64) (.pair (.arr 32 (.int .u8)) (.pair (.arr 32 (.int .u8)) (.pair (.int .i64) (.pair (.arr 4 (.int .u64)) (.pair (.arr 4 (.int .u64)) (.pair (.arr 32 (.int .u8)) (.pair (.int .i64) (.pair (.int .i64) (.pair (.sl (.int .u8)) .unit))))))))))) .unit)))) (.pair (.int .i64) (.pair (.int .i64) .unit))) x0), (1, .data (.int .i64) x1), (2, .data (.sl (.pair (.int .i64) (.pair (.arr 32 (.int .u8)) (.pair (.arr 32 (.int .u8)) (.pair (.int .i64) (.pair (.arr 4 (.int .u64)) (.pair (.arr 4 (.int .u64)) (.pair (.arr 32 (.int .u8)) (.pair (.int .i64) (.pair (.int .i64) (.pair (.sl (.int .u8)) .unit))))))))))) x2)] []
def St1 (x7 : Int) (c6 : List (Int × Int × List (Int × List Int × List Int × Int × List Int × List Int × List Int × Int × Int × List Int × Unit) × Unit) × Int × Int × Unit) : St := stL 73 [(6, .ref 6 0 []), (7, .data (.int .i64) x7)] [(6, .cell (.pair (.sl (.pair (.int .i64) (.pair (.int .i64) (.pair (.sl (.pair (.int .i64) (.pair (.arr 32 (.int .u8)) (.pair (.arr 32 (.int .u8)) (.pair (.int .i64) (.pair (.arr 4 (.int .u64)) (.pair (.arr 4 (.int .u64)) (.pair (.arr 32 (.int .u8)) (.pair (.int .i64) (.pair (.int .i64) (.pair (.sl (.int .u8)) .unit))))))))))) .unit)))) (.pair (.int .i64) (.pair (.int .i64) .unit))) (.data (.pair (.sl (.pair (.int .i64) (.pair (.int .i64) (.pair (.sl (.pair (.int .i64) (.pair (.arr 32 (.int .u8)) (.pair (.arr 32 (.int .u8)) (.pair (.int .i64) (.pair (.arr 4 (.int .u64)) (.pair (.arr 4 (.int .u64)) (.pair (.arr 32 (.int .u8)) (.pair (.int .i64) (.pair (.int .i64) (.pair (.sl (.int .u8)) .unit))))))))))) .unit)))) (.pair (.int .i64) (.pair (.int .i64) .unit))) c6) false)]
def top {α : Type} (Rt : Int → (List (Int × Int × List (Int × List Int × List Int × Int × List Int × List Int × List Int × Int × Int × List Int × Unit) × Unit) × Int × Int × Unit) → Option α) (x0 : List (Int × Int × List (Int × List Int × List Int × Int × List Int × List Int × List Int × Int × Int × List Int × Unit) × Unit) × Int × Int × Unit) (x1 : Int) (x2 : List (Int × List Int × List Int × Int × List Int × List Int × List Int × Int × Int × List Int × Unit)) : Option α :=
  (Go.Bx.fork_Check.run x0).bind fun y1 =>
  if (y1 != 0) = true then
    Rt y1 ([], 0, 0, ())
  else
    if (cond (decide (x1 < 0)) true (decide (x1 ≥ (x0.1.length : Int)))) = true then
      Rt 5 ([], 0, 0, ())
    else
      (Go.Bx.fork_above.run x0 x1 x0.2.2.1).bind fun y2 =>
      if (not y2) = true then
        Rt 15 ([], 0, 0, ())
      else
        if (decide ((x2.length : Int) > 6)) = true then
          Rt 1 ([], 0, 0, ())
        else
          if ((x0.1.length : Int) == 40) = true then
            Rt 9 ([], 0, 0, ())
          else
            if 0 ≤ (0 : Int) ∧ (0 : Int) ≤ (x0.1.length : Int) ∧ (x0.1.length : Int) ≤ (x0.1.length : Int) ∧ (x0.1.length : Int) = (x0.1.length : Int) then
              if 0 ≤ x1 ∧ x1 < (x0.1.length : Int) then
                if fitB ((cutL x0.1 0 (x0.1.length : Int)).length + 1) 40 = true then
                  (Go.Bx.fork_fresh.run (((cutL x0.1 0 (x0.1.length : Int)) ++ [(x1, (IntKind.i64.wrap ((List.getD x0.1 (Int.toNat x1) (0, 0, [], ())).2.1 + 1)), x2, ())]), x0.2.1, x0.2.2.1, ())).bind fun y3 =>
                  (Go.Bx.fork_best.run y3).bind fun y4 =>
                  Rt 0 (y3.1, y4, y3.2.2)
                else none
              else none
            else none
theorem top_eq {α : Type} (k : Nat) (Q : Ex → St → Option α) (x0 : List (Int × Int × List (Int × List Int × List Int × Int × List Int × List Int × List Int × Int × Int × List Int × Unit) × Unit) × Int × Int × Unit) (x1 : Int) (x2 : List (Int × List Int × List Int × Int × List Int × List Int × List Int × Int × Int × List Int × Unit)) :
    (den C k) (cB Try.f65) Q (St0 x0 x1 x2) = top (fun (x7 : Int) (c6 : List (Int × Int × List (Int × List Int × List Int × Int × List Int × List Int × List Int × Int × Int × List Int × Unit) × Unit) × Int × Int × Unit) => Q .ret (St1 x7 c6)) x0 x1 x2 := by
  have h : ∀ (D L : DT α), denJ D L Js C (cB Try.f65) Q (St0 x0 x1 x2) =
        (Go.Bx.fork_Check.run x0).bind fun y1 =>
        if (y1 != 0) = true then
          Q .ret (St1 y1 ([], 0, 0, ()))
        else
          if (cond (decide (x1 < 0)) true (decide (x1 ≥ (x0.1.length : Int)))) = true then
            Q .ret (St1 5 ([], 0, 0, ()))
          else
            (Go.Bx.fork_above.run x0 x1 x0.2.2.1).bind fun y2 =>
            if (not y2) = true then
              Q .ret (St1 15 ([], 0, 0, ()))
            else
              if (decide ((x2.length : Int) > 6)) = true then
                Q .ret (St1 1 ([], 0, 0, ()))
              else
                if ((x0.1.length : Int) == 40) = true then
                  Q .ret (St1 9 ([], 0, 0, ()))
                else
                  if 0 ≤ (0 : Int) ∧ (0 : Int) ≤ (x0.1.length : Int) ∧ (x0.1.length : Int) ≤ (x0.1.length : Int) ∧ (x0.1.length : Int) = (x0.1.length : Int) then
                    if 0 ≤ x1 ∧ x1 < (x0.1.length : Int) then
                      if fitB ((cutL x0.1 0 (x0.1.length : Int)).length + 1) 40 = true then
                        (Go.Bx.fork_fresh.run (((cutL x0.1 0 (x0.1.length : Int)) ++ [(x1, (IntKind.i64.wrap ((List.getD x0.1 (Int.toNat x1) (0, 0, [], ())).2.1 + 1)), x2, ())]), x0.2.1, x0.2.2.1, ())).bind fun y3 =>
                        (Go.Bx.fork_best.run y3).bind fun y4 =>
                        Q .ret (St1 0 (y3.1, y4, y3.2.2))
                      else none
                    else none
                  else none := by
    intro D L; kernel_rfl
  refine (show (den C k) (cB Try.f65) Q (St0 x0 x1 x2) = denJ (den C k) (lp C k) Js C (cB Try.f65) Q (St0 x0 x1 x2) from (denJ_den _ _ _ _ _ _).symm).trans ((h (den C k) (lp C k)).trans ?_)
  first | rfl | kernel_rfl
def run (x0 : List (Int × Int × List (Int × List Int × List Int × Int × List Int × List Int × List Int × Int × Int × List Int × Unit) × Unit) × Int × Int × Unit) (x1 : Int) (x2 : List (Int × List Int × List Int × Int × List Int × List Int × List Int × Int × Int × List Int × Unit)) : Option ((List (Int × Int × List (Int × List Int × List Int × Int × List Int × List Int × List Int × Int × Int × List Int × Unit) × Unit) × Int × Int × Unit) × Int × Unit) := top (α := (List (Int × Int × List (Int × List Int × List Int × Int × List Int × List Int × List Int × Int × Int × List Int × Unit) × Unit) × Int × Int × Unit) × Int × Unit) (fun (x7 : Int) (c6 : List (Int × Int × List (Int × List Int × List Int × Int × List Int × List Int × List Int × Int × Int × List Int × Unit) × Unit) × Int × Int × Unit) => some (c6, x7, ())) x0 x1 x2
def F : Fn := ⟨(.pair (.pair (.sl (.pair (.int .i64) (.pair (.int .i64) (.pair (.sl (.pair (.int .i64) (.pair (.arr 32 (.int .u8)) (.pair (.arr 32 (.int .u8)) (.pair (.int .i64) (.pair (.arr 4 (.int .u64)) (.pair (.arr 4 (.int .u64)) (.pair (.arr 32 (.int .u8)) (.pair (.int .i64) (.pair (.int .i64) (.pair (.sl (.int .u8)) .unit))))))))))) .unit)))) (.pair (.int .i64) (.pair (.int .i64) .unit))) (.pair (.int .i64) (.pair (.sl (.pair (.int .i64) (.pair (.arr 32 (.int .u8)) (.pair (.arr 32 (.int .u8)) (.pair (.int .i64) (.pair (.arr 4 (.int .u64)) (.pair (.arr 4 (.int .u64)) (.pair (.arr 32 (.int .u8)) (.pair (.int .i64) (.pair (.int .i64) (.pair (.sl (.int .u8)) .unit))))))))))) .unit))), (.pair (.pair (.sl (.pair (.int .i64) (.pair (.int .i64) (.pair (.sl (.pair (.int .i64) (.pair (.arr 32 (.int .u8)) (.pair (.arr 32 (.int .u8)) (.pair (.int .i64) (.pair (.arr 4 (.int .u64)) (.pair (.arr 4 (.int .u64)) (.pair (.arr 32 (.int .u8)) (.pair (.int .i64) (.pair (.int .i64) (.pair (.sl (.int .u8)) .unit))))))))))) .unit)))) (.pair (.int .i64) (.pair (.int .i64) .unit))) (.pair (.int .i64) .unit)), true, fun x => run x.1 x.2.1 x.2.2.1⟩
set_option maxRecDepth 100000 in
theorem con : Con Try.prog 65 F := by
  refine con_of_den (C := C) (ctx_ok (by kernel_rfl) (by kernel_rfl) ⟨.inl ⟨Go.Bx.fork_Check.con, Go.Bx.fork_Check.named⟩, ⟨.inl ⟨Go.Bx.fork_above.con, Go.Bx.fork_above.named⟩, ⟨.inl ⟨Go.Bx.fork_fresh.con, Go.Bx.fork_fresh.named⟩, ⟨.inl ⟨Go.Bx.fork_best.con, Go.Bx.fork_best.named⟩, trivial⟩⟩⟩⟩) (by kernel_rfl) Try.func65 (c := cB Try.f65) (by kernel_rfl) (by kernel_rfl) F fuel (fun x => by simp [F, spread, Try.ntmps65]) ?_
  intro x r h
  rw [← h]
  have h1 : start F Try.f65.ntmps x = (St0 x.1 x.2.1 x.2.2.1) := by kernel_rfl
  rw [h1]
  refine (top_eq fuel (fin C Try.f65.results.toList F.rs F.multi) x.1 x.2.1 x.2.2.1).trans ?_
  kernel_rfl
theorem named : Named Try.prog 65 := named_of Try.func65 (by kernel_rfl) (by kernel_rfl)
end Go.Bx.fork_Grow
namespace Go.Bx.basculeref_Grown
open Go Go.Proofs Go.Bx
set_option maxRecDepth 100000
set_option linter.unusedVariables false
def Js : List Nat := []
def C : Ctx := ⟨[(3, (.int .i64)), (25, (.int .i64)), (77, (.sl (.pair (.int .i64) (.pair (.int .i64) (.pair (.sl (.pair (.int .i64) (.pair (.arr 32 (.int .u8)) (.pair (.arr 32 (.int .u8)) (.pair (.int .i64) (.pair (.arr 4 (.int .u64)) (.pair (.arr 4 (.int .u64)) (.pair (.arr 32 (.int .u8)) (.pair (.int .i64) (.pair (.int .i64) (.pair (.sl (.int .u8)) .unit))))))))))) .unit))))), (79, (.pair (.sl (.pair (.int .i64) (.pair (.int .i64) (.pair (.sl (.pair (.int .i64) (.pair (.arr 32 (.int .u8)) (.pair (.arr 32 (.int .u8)) (.pair (.int .i64) (.pair (.arr 4 (.int .u64)) (.pair (.arr 4 (.int .u64)) (.pair (.arr 32 (.int .u8)) (.pair (.int .i64) (.pair (.int .i64) (.pair (.sl (.int .u8)) .unit))))))))))) .unit)))) (.pair (.int .i64) (.pair (.int .i64) .unit)))), (84, (.sl (.pair (.int .i64) (.pair (.arr 32 (.int .u8)) (.pair (.arr 32 (.int .u8)) (.pair (.int .i64) (.pair (.arr 4 (.int .u64)) (.pair (.arr 4 (.int .u64)) (.pair (.arr 32 (.int .u8)) (.pair (.int .i64) (.pair (.int .i64) (.pair (.sl (.int .u8)) .unit)))))))))))), (136, (.pair (.int .i64) (.pair (.int .i64) (.pair (.sl (.pair (.int .i64) (.pair (.arr 32 (.int .u8)) (.pair (.arr 32 (.int .u8)) (.pair (.int .i64) (.pair (.arr 4 (.int .u64)) (.pair (.arr 4 (.int .u64)) (.pair (.arr 32 (.int .u8)) (.pair (.int .i64) (.pair (.int .i64) (.pair (.sl (.int .u8)) .unit))))))))))) .unit))))], [], fnL [(121, Go.Bx.basculeref_TreeFault.F), (126, Go.Bx.basculeref_standsOn.F), (127, Go.Bx.basculeref_bestOf.F)], noSh, [], noInv, [(2, [6, 7])], [(2, [.dat false 6 [0]])], [45], 0, 0⟩
def St0 (x0 : List (Int × Int × List (Int × List Int × List Int × Int × List Int × List Int × List Int × Int × Int × List Int × Unit) × Unit) × Int × Int × Unit) (x1 : Int) (x2 : List (Int × List Int × List Int × Int × List Int × List Int × List Int × Int × Int × List Int × Unit)) : St := stL 65 [(0, .data (.pair (.sl (.pair (.int .i64) (.pair (.int .i64) (.pair (.sl (.pair (.int .i64) (.pair (.arr 32 (.int .u8)) (.pair (.arr 32 (.int .u8)) (.pair (.int .i64) (.pair (.arr 4 (.int .u64)) (.pair (.arr 4 (.int .u64)) (.pair (.arr 32 (.int .u8)) (.pair (.int .i64) (.pair (.int .i64) (.pair (.sl (.int .u8)) .unit))))))))))) .unit)))) (.pair (.int .i64) (.pair (.int .i64) .unit))) x0), (1, .data (.int .i64) x1), (2, .data (.sl (.pair (.int .i64) (.pair (.arr 32 (.int .u8)) (.pair (.arr 32 (.int .u8)) (.pair (.int .i64) (.pair (.arr 4 (.int .u64)) (.pair (.arr 4 (.int .u64)) (.pair (.arr 32 (.int .u8)) (.pair (.int .i64) (.pair (.int .i64) (.pair (.sl (.int .u8)) .unit))))))))))) x2)] []
def St1 (x7 : Int) (c6 : List (Int × Int × List (Int × List Int × List Int × Int × List Int × List Int × List Int × Int × Int × List Int × Unit) × Unit) × Int × Int × Unit) : St := stL 65 [(6, .ref 6 0 []), (7, .data (.int .i64) x7)] [(6, .cell (.pair (.sl (.pair (.int .i64) (.pair (.int .i64) (.pair (.sl (.pair (.int .i64) (.pair (.arr 32 (.int .u8)) (.pair (.arr 32 (.int .u8)) (.pair (.int .i64) (.pair (.arr 4 (.int .u64)) (.pair (.arr 4 (.int .u64)) (.pair (.arr 32 (.int .u8)) (.pair (.int .i64) (.pair (.int .i64) (.pair (.sl (.int .u8)) .unit))))))))))) .unit)))) (.pair (.int .i64) (.pair (.int .i64) .unit))) (.data (.pair (.sl (.pair (.int .i64) (.pair (.int .i64) (.pair (.sl (.pair (.int .i64) (.pair (.arr 32 (.int .u8)) (.pair (.arr 32 (.int .u8)) (.pair (.int .i64) (.pair (.arr 4 (.int .u64)) (.pair (.arr 4 (.int .u64)) (.pair (.arr 32 (.int .u8)) (.pair (.int .i64) (.pair (.int .i64) (.pair (.sl (.int .u8)) .unit))))))))))) .unit)))) (.pair (.int .i64) (.pair (.int .i64) .unit))) c6) false)]
def top {α : Type} (Rt : Int → (List (Int × Int × List (Int × List Int × List Int × Int × List Int × List Int × List Int × Int × Int × List Int × Unit) × Unit) × Int × Int × Unit) → Option α) (x0 : List (Int × Int × List (Int × List Int × List Int × Int × List Int × List Int × List Int × Int × Int × List Int × Unit) × Unit) × Int × Int × Unit) (x1 : Int) (x2 : List (Int × List Int × List Int × Int × List Int × List Int × List Int × Int × Int × List Int × Unit)) : Option α :=
  (Go.Bx.basculeref_TreeFault.run x0).bind fun y1 =>
  if (y1 != 0) = true then
    Rt y1 ([], 0, 0, ())
  else
    if (cond (decide (x1 < 0)) true (decide (x1 ≥ (x0.1.length : Int)))) = true then
      Rt 5 ([], 0, 0, ())
    else
      (Go.Bx.basculeref_standsOn.run x0 x1 x0.2.2.1).bind fun y2 =>
      if (not y2) = true then
        Rt 15 ([], 0, 0, ())
      else
        if (decide ((x2.length : Int) > 6)) = true then
          Rt 1 ([], 0, 0, ())
        else
          if (decide ((x0.1.length : Int) ≥ 40)) = true then
            Rt 9 ([], 0, 0, ())
          else
            if fitB (0 + x0.1.length) 40 = true then
              if 0 ≤ x1 ∧ x1 < (x0.1.length : Int) then
                if fitB (x0.1.length + 1) 40 = true then
                  (Go.Bx.basculeref_bestOf.run ((x0.1 ++ [(x1, (IntKind.i64.wrap ((List.getD x0.1 (Int.toNat x1) (0, 0, [], ())).2.1 + 1)), x2, ())]), 0, x0.2.2.1, ())).bind fun y3 =>
                  Rt 0 ((x0.1 ++ [(x1, (IntKind.i64.wrap ((List.getD x0.1 (Int.toNat x1) (0, 0, [], ())).2.1 + 1)), x2, ())]), y3, x0.2.2.1, ())
                else none
              else none
            else none
theorem top_eq {α : Type} (k : Nat) (Q : Ex → St → Option α) (x0 : List (Int × Int × List (Int × List Int × List Int × Int × List Int × List Int × List Int × Int × Int × List Int × Unit) × Unit) × Int × Int × Unit) (x1 : Int) (x2 : List (Int × List Int × List Int × Int × List Int × List Int × List Int × Int × Int × List Int × Unit)) :
    (den C k) (cB Try.f66) Q (St0 x0 x1 x2) = top (fun (x7 : Int) (c6 : List (Int × Int × List (Int × List Int × List Int × Int × List Int × List Int × List Int × Int × Int × List Int × Unit) × Unit) × Int × Int × Unit) => Q .ret (St1 x7 c6)) x0 x1 x2 := by
  have h : ∀ (D L : DT α), denJ D L Js C (cB Try.f66) Q (St0 x0 x1 x2) =
        (Go.Bx.basculeref_TreeFault.run x0).bind fun y1 =>
        if (y1 != 0) = true then
          Q .ret (St1 y1 ([], 0, 0, ()))
        else
          if (cond (decide (x1 < 0)) true (decide (x1 ≥ (x0.1.length : Int)))) = true then
            Q .ret (St1 5 ([], 0, 0, ()))
          else
            (Go.Bx.basculeref_standsOn.run x0 x1 x0.2.2.1).bind fun y2 =>
            if (not y2) = true then
              Q .ret (St1 15 ([], 0, 0, ()))
            else
              if (decide ((x2.length : Int) > 6)) = true then
                Q .ret (St1 1 ([], 0, 0, ()))
              else
                if (decide ((x0.1.length : Int) ≥ 40)) = true then
                  Q .ret (St1 9 ([], 0, 0, ()))
                else
                  if fitB (0 + x0.1.length) 40 = true then
                    if 0 ≤ x1 ∧ x1 < (x0.1.length : Int) then
                      if fitB (x0.1.length + 1) 40 = true then
                        (Go.Bx.basculeref_bestOf.run ((x0.1 ++ [(x1, (IntKind.i64.wrap ((List.getD x0.1 (Int.toNat x1) (0, 0, [], ())).2.1 + 1)), x2, ())]), 0, x0.2.2.1, ())).bind fun y3 =>
                        Q .ret (St1 0 ((x0.1 ++ [(x1, (IntKind.i64.wrap ((List.getD x0.1 (Int.toNat x1) (0, 0, [], ())).2.1 + 1)), x2, ())]), y3, x0.2.2.1, ()))
                      else none
                    else none
                  else none := by
    intro D L; kernel_rfl
  refine (show (den C k) (cB Try.f66) Q (St0 x0 x1 x2) = denJ (den C k) (lp C k) Js C (cB Try.f66) Q (St0 x0 x1 x2) from (denJ_den _ _ _ _ _ _).symm).trans ((h (den C k) (lp C k)).trans ?_)
  first | rfl | kernel_rfl
def run (x0 : List (Int × Int × List (Int × List Int × List Int × Int × List Int × List Int × List Int × Int × Int × List Int × Unit) × Unit) × Int × Int × Unit) (x1 : Int) (x2 : List (Int × List Int × List Int × Int × List Int × List Int × List Int × Int × Int × List Int × Unit)) : Option ((List (Int × Int × List (Int × List Int × List Int × Int × List Int × List Int × List Int × Int × Int × List Int × Unit) × Unit) × Int × Int × Unit) × Int × Unit) := top (α := (List (Int × Int × List (Int × List Int × List Int × Int × List Int × List Int × List Int × Int × Int × List Int × Unit) × Unit) × Int × Int × Unit) × Int × Unit) (fun (x7 : Int) (c6 : List (Int × Int × List (Int × List Int × List Int × Int × List Int × List Int × List Int × Int × Int × List Int × Unit) × Unit) × Int × Int × Unit) => some (c6, x7, ())) x0 x1 x2
def F : Fn := ⟨(.pair (.pair (.sl (.pair (.int .i64) (.pair (.int .i64) (.pair (.sl (.pair (.int .i64) (.pair (.arr 32 (.int .u8)) (.pair (.arr 32 (.int .u8)) (.pair (.int .i64) (.pair (.arr 4 (.int .u64)) (.pair (.arr 4 (.int .u64)) (.pair (.arr 32 (.int .u8)) (.pair (.int .i64) (.pair (.int .i64) (.pair (.sl (.int .u8)) .unit))))))))))) .unit)))) (.pair (.int .i64) (.pair (.int .i64) .unit))) (.pair (.int .i64) (.pair (.sl (.pair (.int .i64) (.pair (.arr 32 (.int .u8)) (.pair (.arr 32 (.int .u8)) (.pair (.int .i64) (.pair (.arr 4 (.int .u64)) (.pair (.arr 4 (.int .u64)) (.pair (.arr 32 (.int .u8)) (.pair (.int .i64) (.pair (.int .i64) (.pair (.sl (.int .u8)) .unit))))))))))) .unit))), (.pair (.pair (.sl (.pair (.int .i64) (.pair (.int .i64) (.pair (.sl (.pair (.int .i64) (.pair (.arr 32 (.int .u8)) (.pair (.arr 32 (.int .u8)) (.pair (.int .i64) (.pair (.arr 4 (.int .u64)) (.pair (.arr 4 (.int .u64)) (.pair (.arr 32 (.int .u8)) (.pair (.int .i64) (.pair (.int .i64) (.pair (.sl (.int .u8)) .unit))))))))))) .unit)))) (.pair (.int .i64) (.pair (.int .i64) .unit))) (.pair (.int .i64) .unit)), true, fun x => run x.1 x.2.1 x.2.2.1⟩
set_option maxRecDepth 100000 in
theorem con : Con Try.prog 66 F := by
  refine con_of_den (C := C) (ctx_ok (by kernel_rfl) (by kernel_rfl) ⟨.inl ⟨Go.Bx.basculeref_TreeFault.con, Go.Bx.basculeref_TreeFault.named⟩, ⟨.inl ⟨Go.Bx.basculeref_standsOn.con, Go.Bx.basculeref_standsOn.named⟩, ⟨.inl ⟨Go.Bx.basculeref_bestOf.con, Go.Bx.basculeref_bestOf.named⟩, trivial⟩⟩⟩) (by kernel_rfl) Try.func66 (c := cB Try.f66) (by kernel_rfl) (by kernel_rfl) F fuel (fun x => by simp [F, spread, Try.ntmps66]) ?_
  intro x r h
  rw [← h]
  have h1 : start F Try.f66.ntmps x = (St0 x.1 x.2.1 x.2.2.1) := by kernel_rfl
  rw [h1]
  refine (top_eq fuel (fin C Try.f66.results.toList F.rs F.multi) x.1 x.2.1 x.2.2.1).trans ?_
  kernel_rfl
theorem named : Named Try.prog 66 := named_of Try.func66 (by kernel_rfl) (by kernel_rfl)
end Go.Bx.basculeref_Grown
namespace Go.Bx.basculelaw_ForkGrows
open Go Go.Proofs Go.Bx
set_option maxRecDepth 100000
set_option linter.unusedVariables false
def Js : List Nat := []
def C : Ctx := ⟨[(3, (.int .i64)), (4, .bool), (79, (.pair (.sl (.pair (.int .i64) (.pair (.int .i64) (.pair (.sl (.pair (.int .i64) (.pair (.arr 32 (.int .u8)) (.pair (.arr 32 (.int .u8)) (.pair (.int .i64) (.pair (.arr 4 (.int .u64)) (.pair (.arr 4 (.int .u64)) (.pair (.arr 32 (.int .u8)) (.pair (.int .i64) (.pair (.int .i64) (.pair (.sl (.int .u8)) .unit))))))))))) .unit)))) (.pair (.int .i64) (.pair (.int .i64) .unit)))), (84, (.sl (.pair (.int .i64) (.pair (.arr 32 (.int .u8)) (.pair (.arr 32 (.int .u8)) (.pair (.int .i64) (.pair (.arr 4 (.int .u64)) (.pair (.arr 4 (.int .u64)) (.pair (.arr 32 (.int .u8)) (.pair (.int .i64) (.pair (.int .i64) (.pair (.sl (.int .u8)) .unit))))))))))))], [], fnL [(65, Go.Bx.fork_Grow.F), (66, Go.Bx.basculeref_Grown.F), (67, Go.Bx.basculelaw_sameTree.F)], noSh, [], noInv, [(2, [6])], [], [], 0, 0⟩
def St0 (x0 : List (Int × Int × List (Int × List Int × List Int × Int × List Int × List Int × List Int × Int × Int × List Int × Unit) × Unit) × Int × Int × Unit) (x1 : Int) (x2 : List (Int × List Int × List Int × Int × List Int × List Int × List Int × Int × Int × List Int × Unit)) : St := stL 33 [(0, .data (.pair (.sl (.pair (.int .i64) (.pair (.int .i64) (.pair (.sl (.pair (.int .i64) (.pair (.arr 32 (.int .u8)) (.pair (.arr 32 (.int .u8)) (.pair (.int .i64) (.pair (.arr 4 (.int .u64)) (.pair (.arr 4 (.int .u64)) (.pair (.arr 32 (.int .u8)) (.pair (.int .i64) (.pair (.int .i64) (.pair (.sl (.int .u8)) .unit))))))))))) .unit)))) (.pair (.int .i64) (.pair (.int .i64) .unit))) x0), (1, .data (.int .i64) x1), (2, .data (.sl (.pair (.int .i64) (.pair (.arr 32 (.int .u8)) (.pair (.arr 32 (.int .u8)) (.pair (.int .i64) (.pair (.arr 4 (.int .u64)) (.pair (.arr 4 (.int .u64)) (.pair (.arr 32 (.int .u8)) (.pair (.int .i64) (.pair (.int .i64) (.pair (.sl (.int .u8)) .unit))))))))))) x2)] []
def St1 (x6 : Bool) : St := stL 33 [(6, .data .bool x6)] []
def top {α : Type} (Rt : Bool → Option α) (x0 : List (Int × Int × List (Int × List Int × List Int × Int × List Int × List Int × List Int × Int × Int × List Int × Unit) × Unit) × Int × Int × Unit) (x1 : Int) (x2 : List (Int × List Int × List Int × Int × List Int × List Int × List Int × Int × Int × List Int × Unit)) : Option α :=
  (Go.Bx.fork_Grow.run x0 x1 x2).bind fun y1 =>
  (Go.Bx.basculeref_Grown.run x0 x1 x2).bind fun y2 =>
  (Go.Bx.basculelaw_sameTree.run y1.1 y2.1).bind fun y3 =>
  Rt (cond y3 (y1.2.1 == y2.2.1) false)
theorem top_eq {α : Type} (k : Nat) (Q : Ex → St → Option α) (x0 : List (Int × Int × List (Int × List Int × List Int × Int × List Int × List Int × List Int × Int × Int × List Int × Unit) × Unit) × Int × Int × Unit) (x1 : Int) (x2 : List (Int × List Int × List Int × Int × List Int × List Int × List Int × Int × Int × List Int × Unit)) :
    (den C k) (cB Try.f21) Q (St0 x0 x1 x2) = top (fun (x6 : Bool) => Q .ret (St1 x6)) x0 x1 x2 := by
  have h : ∀ (D L : DT α), denJ D L Js C (cB Try.f21) Q (St0 x0 x1 x2) =
        (Go.Bx.fork_Grow.run x0 x1 x2).bind fun y1 =>
        (Go.Bx.basculeref_Grown.run x0 x1 x2).bind fun y2 =>
        (Go.Bx.basculelaw_sameTree.run y1.1 y2.1).bind fun y3 =>
        Q .ret (St1 (cond y3 (y1.2.1 == y2.2.1) false)) := by
    intro D L; kernel_rfl
  refine (show (den C k) (cB Try.f21) Q (St0 x0 x1 x2) = denJ (den C k) (lp C k) Js C (cB Try.f21) Q (St0 x0 x1 x2) from (denJ_den _ _ _ _ _ _).symm).trans ((h (den C k) (lp C k)).trans ?_)
  first | rfl | kernel_rfl
def run (x0 : List (Int × Int × List (Int × List Int × List Int × Int × List Int × List Int × List Int × Int × Int × List Int × Unit) × Unit) × Int × Int × Unit) (x1 : Int) (x2 : List (Int × List Int × List Int × Int × List Int × List Int × List Int × Int × Int × List Int × Unit)) : Option (Bool) := top (α := Bool) (fun (x6 : Bool) => some x6) x0 x1 x2
def F : Fn := ⟨(.pair (.pair (.sl (.pair (.int .i64) (.pair (.int .i64) (.pair (.sl (.pair (.int .i64) (.pair (.arr 32 (.int .u8)) (.pair (.arr 32 (.int .u8)) (.pair (.int .i64) (.pair (.arr 4 (.int .u64)) (.pair (.arr 4 (.int .u64)) (.pair (.arr 32 (.int .u8)) (.pair (.int .i64) (.pair (.int .i64) (.pair (.sl (.int .u8)) .unit))))))))))) .unit)))) (.pair (.int .i64) (.pair (.int .i64) .unit))) (.pair (.int .i64) (.pair (.sl (.pair (.int .i64) (.pair (.arr 32 (.int .u8)) (.pair (.arr 32 (.int .u8)) (.pair (.int .i64) (.pair (.arr 4 (.int .u64)) (.pair (.arr 4 (.int .u64)) (.pair (.arr 32 (.int .u8)) (.pair (.int .i64) (.pair (.int .i64) (.pair (.sl (.int .u8)) .unit))))))))))) .unit))), .bool, false, fun x => run x.1 x.2.1 x.2.2.1⟩
set_option maxRecDepth 100000 in
theorem con : Con Try.prog 21 F := by
  refine con_of_den (C := C) (ctx_ok (by kernel_rfl) (by kernel_rfl) ⟨.inl ⟨Go.Bx.fork_Grow.con, Go.Bx.fork_Grow.named⟩, ⟨.inl ⟨Go.Bx.basculeref_Grown.con, Go.Bx.basculeref_Grown.named⟩, ⟨.inl ⟨Go.Bx.basculelaw_sameTree.con, Go.Bx.basculelaw_sameTree.named⟩, trivial⟩⟩⟩) (by kernel_rfl) Try.func21 (c := cB Try.f21) (by kernel_rfl) (by kernel_rfl) F fuel (fun x => by simp [F, spread, Try.ntmps21]) ?_
  intro x r h
  rw [← h]
  have h1 : start F Try.f21.ntmps x = (St0 x.1 x.2.1 x.2.2.1) := by kernel_rfl
  rw [h1]
  refine (top_eq fuel (fin C Try.f21.results.toList F.rs F.multi) x.1 x.2.1 x.2.2.1).trans ?_
  kernel_rfl
theorem named : Named Try.prog 21 := named_of Try.func21 (by kernel_rfl) (by kernel_rfl)
end Go.Bx.basculelaw_ForkGrows
