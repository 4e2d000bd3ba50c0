/- Go functions of this seat in their own words of Lean, each tied to its code by a contract. -/
import Derived.Test.YtpapikaeaodfgaaGBase
import Derived.Test.YtpapikaeaodfgaaFnPaperDecodes0
namespace Go.Bx.basculelaw_sameBodies
open Go Go.Proofs Go.Bx
set_option maxRecDepth 100000
set_option linter.unusedVariables false
def Js : List Nat := [10]
def C : Ctx := ⟨[(4, .bool), (62, (.sl (.pair (.int .i64) (.pair (.int .i64) (.pair (.int .i64) (.pair (.arr 32 (.int .u8)) (.pair (.int .i64) (.pair (.int .i64) (.pair (.sl (.int .u8)) .unit))))))))), (76, (.pair (.int .i64) (.pair (.int .i64) (.pair (.int .i64) (.pair (.arr 32 (.int .u8)) (.pair (.int .i64) (.pair (.int .i64) (.pair (.sl (.int .u8)) .unit))))))))], [], [], fnL [(95, Go.Bx.basculeref_SameBody.F)], noSh, [], invL [], [(2, [4]), (1, []), (4, [0, 1, 12, 13]), (12, [0, 1, 12, 13]), (27, [])], [], [], 0, 0⟩
def St0 (x0 : List (Int × Int × Int × List Int × Int × Int × List Int × Unit)) (x1 : List (Int × Int × Int × List Int × Int × Int × List Int × Unit)) : St := stL 27 [(0, .data (.sl (.pair (.int .i64) (.pair (.int .i64) (.pair (.int .i64) (.pair (.arr 32 (.int .u8)) (.pair (.int .i64) (.pair (.int .i64) (.pair (.sl (.int .u8)) .unit)))))))) x0), (1, .data (.sl (.pair (.int .i64) (.pair (.int .i64) (.pair (.int .i64) (.pair (.arr 32 (.int .u8)) (.pair (.int .i64) (.pair (.int .i64) (.pair (.sl (.int .u8)) .unit)))))))) x1)] []
def St1 (x4 : Bool) : St := stL 27 [(4, .data .bool x4)] []
def St2 (x0 : List (Int × Int × Int × List Int × Int × Int × List Int × Unit)) (x1 : List (Int × Int × Int × List Int × Int × Int × List Int × Unit)) (x12 : Int) (x13 : Int) : St := stL 27 [(0, .data (.sl (.pair (.int .i64) (.pair (.int .i64) (.pair (.int .i64) (.pair (.arr 32 (.int .u8)) (.pair (.int .i64) (.pair (.int .i64) (.pair (.sl (.int .u8)) .unit)))))))) x0), (1, .data (.sl (.pair (.int .i64) (.pair (.int .i64) (.pair (.int .i64) (.pair (.arr 32 (.int .u8)) (.pair (.int .i64) (.pair (.int .i64) (.pair (.sl (.int .u8)) .unit)))))))) x1), (12, .data (.int .i64) x12), (13, .data (.int .i64) x13)] []
noncomputable def cd0 : Code := cL (cL (cR (cL (cR (cR (cB Try.f73))))))
def St3 : St := stL 27 [] []
def l0s {α : Type} (Nx : (List (Int × Int × Int × List Int × Int × Int × List Int × Unit)) → (List (Int × Int × Int × List Int × Int × Int × List Int × Unit)) → Int → Int → Option α) (Rt : Bool → Option α) (Xt0 : Option α) (x0 : List (Int × Int × Int × List Int × Int × Int × List Int × Unit)) (x1 : List (Int × Int × Int × List Int × Int × Int × List Int × Unit)) (x12 : Int) (x13 : Int) : Option α :=
  if (decide (x13 < x12)) = true then
    if 0 ≤ x13 ∧ x13 < (x0.length : Int) then
      if 0 ≤ x13 ∧ x13 < (x1.length : Int) then
        (Go.Bx.basculeref_SameBody.run (List.getD x0 (Int.toNat x13) (0, 0, 0, (List.replicate 32 0), 0, 0, [], ())) (List.getD x1 (Int.toNat x13) (0, 0, 0, (List.replicate 32 0), 0, 0, [], ()))).bind fun y1 =>
        if (not y1) = true then
          Rt false
        else
          Nx x0 x1 x12 (IntKind.i64.wrap (x13 + 1))
      else none
    else none
  else
    Xt0
theorem l0s_eq {α : Type} (k : Nat) (next : St → Option α) (Q : Ex → St → Option α) (x0 : List (Int × Int × Int × List Int × Int × Int × List Int × Unit)) (x1 : List (Int × Int × Int × List Int × Int × Int × List Int × Unit)) (x12 : Int) (x13 : Int) :
    rnd C k cd0 12 Q next (St2 x0 x1 x12 x13) = l0s (fun (x0 : List (Int × Int × Int × List Int × Int × Int × List Int × Unit)) (x1 : List (Int × Int × Int × List Int × Int × Int × List Int × Unit)) (x12 : Int) (x13 : Int) => next (St2 x0 x1 x12 x13)) (fun (x4 : Bool) => Q .ret (St1 x4)) (Q (.exit 0) St3) x0 x1 x12 x13 := by
  have h : ∀ (D L : DT α), denJ D L Js C cd0 (lq C 12 next Q) (St2 x0 x1 x12 x13) =
        if (decide (x13 < x12)) = true then
          if 0 ≤ x13 ∧ x13 < (x0.length : Int) then
            if 0 ≤ x13 ∧ x13 < (x1.length : Int) then
              (Go.Bx.basculeref_SameBody.run (List.getD x0 (Int.toNat x13) (0, 0, 0, (List.replicate 32 0), 0, 0, [], ())) (List.getD x1 (Int.toNat x13) (0, 0, 0, (List.replicate 32 0), 0, 0, [], ()))).bind fun y1 =>
              if (not y1) = true then
                Q .ret (St1 false)
              else
                next (St2 x0 x1 x12 (IntKind.i64.wrap (x13 + 1)))
            else none
          else none
        else
          Q (.exit 0) St3 := by
    intro D L; kernel_rfl
  refine (show rnd C k cd0 12 Q next (St2 x0 x1 x12 x13) = denJ (den C k) (lp C k) Js C cd0 (lq C 12 next Q) (St2 x0 x1 x12 x13) from (denJ_den _ _ _ _ _ _).symm).trans ((h (den C k) (lp C k)).trans ?_)
  first | rfl | kernel_rfl
def l0 {α : Type} (k : Nat) (Rt : Bool → Option α) (Xt0 : Option α) : Nat → (List (Int × Int × Int × List Int × Int × Int × List Int × Unit)) → (List (Int × Int × Int × List Int × Int × Int × List Int × Unit)) → Int → Int → Option α
  | 0, _, _, _, _ => none
  | n + 1, x0, x1, x12, x13 => l0s (l0 k Rt Xt0 n) Rt Xt0 x0 x1 x12 x13
theorem l0_eq {α : Type} (k : Nat) (Q : Ex → St → Option α) : ∀ (n : Nat) (x0 : List (Int × Int × Int × List Int × Int × Int × List Int × Unit)) (x1 : List (Int × Int × Int × List Int × Int × Int × List Int × Unit)) (x12 : Int) (x13 : Int), iter (rnd C k cd0 12 Q) n (St2 x0 x1 x12 x13) = l0 k (fun (x4 : Bool) => Q .ret (St1 x4)) (Q (.exit 0) St3) n x0 x1 x12 x13
  | 0, _, _, _, _ => rfl
  | n + 1, x0, x1, x12, x13 => (iter_succ _ _ _).trans ((l0s_eq k (iter (rnd C k cd0 12 Q) n) Q x0 x1 x12 x13).trans (congrArg (fun N => l0s N (fun (x4 : Bool) => Q .ret (St1 x4)) (Q (.exit 0) St3) x0 x1 x12 x13) (funext fun x0 => funext fun x1 => funext fun x12 => funext fun x13 => l0_eq k Q n x0 x1 x12 x13)))
theorem l0_congr {α : Type} (k : Nat) (Rt : Bool → Option α) (Xt0 : Option α) (Rtq : Bool → Option α) (Xt0q : Option α) (hRt : ∀ (x4 : Bool), Rt x4 = Rtq x4) (hXt0 : Xt0 = Xt0q) (n : Nat) (x0 : List (Int × Int × Int × List Int × Int × Int × List Int × Unit)) (x1 : List (Int × Int × Int × List Int × Int × Int × List Int × Unit)) (x12 : Int) (x13 : Int) : l0 k Rt Xt0 n x0 x1 x12 x13 = l0 k Rtq Xt0q n x0 x1 x12 x13 := by
  obtain rfl : Rt = Rtq := by funext x4; exact hRt x4
  obtain rfl : Xt0 = Xt0q := hXt0
  rfl
noncomputable def cd1 : Code := cR (cR (cR (cB Try.f73)))
def St4 : St := stL 27 [] []
def j0 {α : Type} (Rt : Bool → Option α) : Option α :=
  Rt true
theorem j0_eq {α : Type} (k : Nat) (Q : Ex → St → Option α) :
    (den C k) cd1 Q St4 = j0 (fun (x4 : Bool) => Q .ret (St1 x4)) := by
  have h : ∀ (D L : DT α), denJ D L Js C cd1 Q St4 =
        Q .ret (St1 true) := by
    intro D L; kernel_rfl
  refine (show (den C k) cd1 Q St4 = denJ (den C k) (lp C k) Js C cd1 Q St4 from (denJ_den _ _ _ _ _ _).symm).trans ((h (den C k) (lp C k)).trans ?_)
  first | rfl | kernel_rfl
theorem a0 {α : Type} (k : Nat) (Q : Ex → St → Option α) (x0 : List (Int × Int × Int × List Int × Int × Int × List Int × Unit)) (x1 : List (Int × Int × Int × List Int × Int × Int × List Int × Unit)) (x12 : Int) (x13 : Int) :
    (lp C k) cd0 (blkQ C 0 (sq (den C k) (lp C k) Js C cd1 Q)) (St2 x0 x1 x12 x13) = l0 k (fun (x4 : Bool) => (fun (x4 : Bool) => Q .ret (St1 x4)) x4) (j0 (fun (x4 : Bool) => Q .ret (St1 x4))) k x0 x1 x12 x13 :=
  (show (lp C k) cd0 (blkQ C 0 (sq (den C k) (lp C k) Js C cd1 Q)) (St2 x0 x1 x12 x13) = iter (rnd C k cd0 12 (blkQ C 0 (sq (den C k) (lp C k) Js C cd1 Q))) k (St2 x0 x1 x12 x13) by kernel_rfl).trans ((l0_eq k (blkQ C 0 (sq (den C k) (lp C k) Js C cd1 Q)) k x0 x1 x12 x13).trans (l0_congr k _ _ _ _ (fun x4 => (show (blkQ C 0 (sq (den C k) (lp C k) Js C cd1 Q)) .ret (St1 x4) = Q .ret (St1 x4) by kernel_rfl)) ((show (blkQ C 0 (sq (den C k) (lp C k) Js C cd1 Q)) (.exit 0) St3 = (den C k) cd1 Q St4 by kernel_rfl).trans (by simp only [j0_eq])) k x0 x1 x12 x13))
def top {α : Type} (k : Nat) (Rt : Bool → Option α) (x0 : List (Int × Int × Int × List Int × Int × Int × List Int × Unit)) (x1 : List (Int × Int × Int × List Int × Int × Int × List Int × Unit)) : Option α :=
  if ((x0.length : Int) != (x1.length : Int)) = true then
    Rt false
  else
    l0 k (fun (x4 : Bool) => Rt x4) (j0 Rt) k x0 x1 (x0.length : Int) 0
theorem top_eq {α : Type} (k : Nat) (Q : Ex → St → Option α) (x0 : List (Int × Int × Int × List Int × Int × Int × List Int × Unit)) (x1 : List (Int × Int × Int × List Int × Int × Int × List Int × Unit)) :
    (den C k) (cB Try.f73) Q (St0 x0 x1) = top k (fun (x4 : Bool) => Q .ret (St1 x4)) x0 x1 := by
  have h : ∀ (D L : DT α), denJ D L Js C (cB Try.f73) Q (St0 x0 x1) =
        if ((x0.length : Int) != (x1.length : Int)) = true then
          Q .ret (St1 false)
        else
          L cd0 (blkQ C 0 (sq D L Js C cd1 Q)) (St2 x0 x1 (x0.length : Int) 0) := by
    intro D L; kernel_rfl
  refine (show (den C k) (cB Try.f73) Q (St0 x0 x1) = denJ (den C k) (lp C k) Js C (cB Try.f73) Q (St0 x0 x1) from (denJ_den _ _ _ _ _ _).symm).trans ((h (den C k) (lp C k)).trans ?_)
  simp only [a0]
  first | rfl | kernel_rfl
def run (x0 : List (Int × Int × Int × List Int × Int × Int × List Int × Unit)) (x1 : List (Int × Int × Int × List Int × Int × Int × List Int × Unit)) : Option (Bool) := top (α := Bool) fuel (fun (x4 : Bool) => some x4) x0 x1
def F : Fn := ⟨(.pair (.sl (.pair (.int .i64) (.pair (.int .i64) (.pair (.int .i64) (.pair (.arr 32 (.int .u8)) (.pair (.int .i64) (.pair (.int .i64) (.pair (.sl (.int .u8)) .unit)))))))) (.pair (.sl (.pair (.int .i64) (.pair (.int .i64) (.pair (.int .i64) (.pair (.arr 32 (.int .u8)) (.pair (.int .i64) (.pair (.int .i64) (.pair (.sl (.int .u8)) .unit)))))))) .unit)), .bool, false, fun x => run x.1 x.2.1⟩
set_option maxRecDepth 100000 in
theorem con : Con Try.prog 73 F := by
  refine con_of_den (C := C) (ctx_ok (by kernel_rfl) (by kernel_rfl) (by kernel_rfl) (by kernel_rfl) ⟨.inl ⟨Go.Bx.basculeref_SameBody.con, Go.Bx.basculeref_SameBody.named⟩, trivial⟩) (by kernel_rfl) Try.func73 (c := cB Try.f73) (by kernel_rfl) (by kernel_rfl) F fuel (fun x => by simp [F, spread, Try.ntmps73]) ?_
  intro x r h
  rw [← h]
  have h1 : start F Try.f73.ntmps x = (St0 x.1 x.2.1) := by kernel_rfl
  rw [h1]
  refine (top_eq fuel (fin C Try.f73.results.toList F.rs F.multi) x.1 x.2.1).trans ?_
  kernel_rfl
theorem named : Named Try.prog 73 := named_of Try.func73 (by kernel_rfl) (by kernel_rfl)
end Go.Bx.basculelaw_sameBodies
namespace Go.Bx.basculelaw_sameGuard
open Go Go.Proofs Go.Bx
set_option maxRecDepth 100000
set_option linter.unusedVariables false
def Js : List Nat := []
def C : Ctx := ⟨[(4, .bool), (42, (.pair (.arr 3 (.int .i64)) (.pair (.arr 3 (.int .i64)) (.pair (.int .i64) (.pair (.sl (.pair (.int .i64) (.pair (.int .i64) (.pair (.int .i64) (.pair (.int .i64) .unit))))) (.pair (.sl (.pair (.int .i64) (.pair (.int .i64) (.pair (.int .i64) (.pair (.int .i64) .unit))))) .unit)))))), (56, (.arr 4 (.int .u64))), (61, (.pair (.sl (.int .u8)) (.pair (.sl (.int .u8)) .unit))), (62, (.sl (.pair (.int .i64) (.pair (.int .i64) (.pair (.int .i64) (.pair (.arr 32 (.int .u8)) (.pair (.int .i64) (.pair (.int .i64) (.pair (.sl (.int .u8)) .unit))))))))), (64, (.pair (.arr 4 (.int .u64)) (.pair (.pair (.arr 3 (.int .i64)) (.pair (.arr 3 (.int .i64)) (.pair (.int .i64) (.pair (.sl (.pair (.int .i64) (.pair (.int .i64) (.pair (.int .i64) (.pair (.int .i64) .unit))))) (.pair (.sl (.pair (.int .i64) (.pair (.int .i64) (.pair (.int .i64) (.pair (.int .i64) .unit))))) .unit))))) (.pair (.pair (.arr 3 (.int .i64)) (.pair (.arr 3 (.int .i64)) (.pair (.int .i64) (.pair (.sl (.pair (.int .i64) (.pair (.int .i64) (.pair (.int .i64) (.pair (.int .i64) .unit))))) (.pair (.sl (.pair (.int .i64) (.pair (.int .i64) (.pair (.int .i64) (.pair (.int .i64) .unit))))) .unit))))) (.pair (.pair (.sl (.int .u8)) (.pair (.sl (.int .u8)) .unit)) (.pair (.sl (.pair (.int .i64) (.pair (.int .i64) (.pair (.int .i64) (.pair (.arr 32 (.int .u8)) (.pair (.int .i64) (.pair (.int .i64) (.pair (.sl (.int .u8)) .unit)))))))) (.pair (.sl (.pair (.int .i64) (.pair (.int .i64) (.pair (.int .i64) (.pair (.arr 32 (.int .u8)) (.pair (.int .i64) (.pair (.int .i64) (.pair (.sl (.int .u8)) .unit)))))))) .unit)))))))], [], [], fnL [(32, Go.Bx.basculelaw_sameGate.F), (72, Go.Bx.basculelaw_sameLog.F), (73, Go.Bx.basculelaw_sameBodies.F)], noSh, [], invL [], [(2, [4])], [], [], 0, 0⟩
def St0 (x0 : List Int × (List Int × List Int × Int × List (Int × Int × Int × Int × Unit) × List (Int × Int × Int × Int × Unit) × Unit) × (List Int × List Int × Int × List (Int × Int × Int × Int × Unit) × List (Int × Int × Int × Int × Unit) × Unit) × (List Int × List Int × Unit) × List (Int × Int × Int × List Int × Int × Int × List Int × Unit) × List (Int × Int × Int × List Int × Int × Int × List Int × Unit) × Unit) (x1 : List Int × (List Int × List Int × Int × List (Int × Int × Int × Int × Unit) × List (Int × Int × Int × Int × Unit) × Unit) × (List Int × List Int × Int × List (Int × Int × Int × Int × Unit) × List (Int × Int × Int × Int × Unit) × Unit) × (List Int × List Int × Unit) × List (Int × Int × Int × List Int × Int × Int × List Int × Unit) × List (Int × Int × Int × List Int × Int × Int × List Int × Unit) × Unit) : St := stL 45 [(0, .data (.pair (.arr 4 (.int .u64)) (.pair (.pair (.arr 3 (.int .i64)) (.pair (.arr 3 (.int .i64)) (.pair (.int .i64) (.pair (.sl (.pair (.int .i64) (.pair (.int .i64) (.pair (.int .i64) (.pair (.int .i64) .unit))))) (.pair (.sl (.pair (.int .i64) (.pair (.int .i64) (.pair (.int .i64) (.pair (.int .i64) .unit))))) .unit))))) (.pair (.pair (.arr 3 (.int .i64)) (.pair (.arr 3 (.int .i64)) (.pair (.int .i64) (.pair (.sl (.pair (.int .i64) (.pair (.int .i64) (.pair (.int .i64) (.pair (.int .i64) .unit))))) (.pair (.sl (.pair (.int .i64) (.pair (.int .i64) (.pair (.int .i64) (.pair (.int .i64) .unit))))) .unit))))) (.pair (.pair (.sl (.int .u8)) (.pair (.sl (.int .u8)) .unit)) (.pair (.sl (.pair (.int .i64) (.pair (.int .i64) (.pair (.int .i64) (.pair (.arr 32 (.int .u8)) (.pair (.int .i64) (.pair (.int .i64) (.pair (.sl (.int .u8)) .unit)))))))) (.pair (.sl (.pair (.int .i64) (.pair (.int .i64) (.pair (.int .i64) (.pair (.arr 32 (.int .u8)) (.pair (.int .i64) (.pair (.int .i64) (.pair (.sl (.int .u8)) .unit)))))))) .unit)))))) x0), (1, .data (.pair (.arr 4 (.int .u64)) (.pair (.pair (.arr 3 (.int .i64)) (.pair (.arr 3 (.int .i64)) (.pair (.int .i64) (.pair (.sl (.pair (.int .i64) (.pair (.int .i64) (.pair (.int .i64) (.pair (.int .i64) .unit))))) (.pair (.sl (.pair (.int .i64) (.pair (.int .i64) (.pair (.int .i64) (.pair (.int .i64) .unit))))) .unit))))) (.pair (.pair (.arr 3 (.int .i64)) (.pair (.arr 3 (.int .i64)) (.pair (.int .i64) (.pair (.sl (.pair (.int .i64) (.pair (.int .i64) (.pair (.int .i64) (.pair (.int .i64) .unit))))) (.pair (.sl (.pair (.int .i64) (.pair (.int .i64) (.pair (.int .i64) (.pair (.int .i64) .unit))))) .unit))))) (.pair (.pair (.sl (.int .u8)) (.pair (.sl (.int .u8)) .unit)) (.pair (.sl (.pair (.int .i64) (.pair (.int .i64) (.pair (.int .i64) (.pair (.arr 32 (.int .u8)) (.pair (.int .i64) (.pair (.int .i64) (.pair (.sl (.int .u8)) .unit)))))))) (.pair (.sl (.pair (.int .i64) (.pair (.int .i64) (.pair (.int .i64) (.pair (.arr 32 (.int .u8)) (.pair (.int .i64) (.pair (.int .i64) (.pair (.sl (.int .u8)) .unit)))))))) .unit)))))) x1)] []
def St1 (x4 : Bool) : St := stL 45 [(4, .data .bool x4)] []
def top {α : Type} (Rt : Bool → Option α) (x0 : List Int × (List Int × List Int × Int × List (Int × Int × Int × Int × Unit) × List (Int × Int × Int × Int × Unit) × Unit) × (List Int × List Int × Int × List (Int × Int × Int × Int × Unit) × List (Int × Int × Int × Int × Unit) × Unit) × (List Int × List Int × Unit) × List (Int × Int × Int × List Int × Int × Int × List Int × Unit) × List (Int × Int × Int × List Int × Int × Int × List Int × Unit) × Unit) (x1 : List Int × (List Int × List Int × Int × List (Int × Int × Int × Int × Unit) × List (Int × Int × Int × Int × Unit) × Unit) × (List Int × List Int × Int × List (Int × Int × Int × Int × Unit) × List (Int × Int × Int × Int × Unit) × Unit) × (List Int × List Int × Unit) × List (Int × Int × Int × List Int × Int × Int × List Int × Unit) × List (Int × Int × Int × List Int × Int × Int × List Int × Unit) × Unit) : Option α :=
  (if ((beqD (.arr 4 (.int .u64)) x0.1 x1.1) == true) = true then Go.Bx.basculelaw_sameGate.run x0.2.1 x1.2.1 else some false).bind fun y1 =>
  (if ((cond (beqD (.arr 4 (.int .u64)) x0.1 x1.1) y1 false) == true) = true then Go.Bx.basculelaw_sameGate.run x0.2.2.1 x1.2.2.1 else some false).bind fun y2 =>
  (if ((cond (cond (beqD (.arr 4 (.int .u64)) x0.1 x1.1) y1 false) y2 false) == true) = true then Go.Bx.basculelaw_sameLog.run x0.2.2.2.1 x1.2.2.2.1 else some false).bind fun y3 =>
  (if ((cond (cond (cond (beqD (.arr 4 (.int .u64)) x0.1 x1.1) y1 false) y2 false) y3 false) == true) = true then Go.Bx.basculelaw_sameBodies.run x0.2.2.2.2.1 x1.2.2.2.2.1 else some false).bind fun y4 =>
  (if ((cond (cond (cond (cond (beqD (.arr 4 (.int .u64)) x0.1 x1.1) y1 false) y2 false) y3 false) y4 false) == true) = true then Go.Bx.basculelaw_sameBodies.run x0.2.2.2.2.2.1 x1.2.2.2.2.2.1 else some false).bind fun y5 =>
  Rt (cond (cond (cond (cond (cond (beqD (.arr 4 (.int .u64)) x0.1 x1.1) y1 false) y2 false) y3 false) y4 false) y5 false)
theorem top_eq {α : Type} (k : Nat) (Q : Ex → St → Option α) (x0 : List Int × (List Int × List Int × Int × List (Int × Int × Int × Int × Unit) × List (Int × Int × Int × Int × Unit) × Unit) × (List Int × List Int × Int × List (Int × Int × Int × Int × Unit) × List (Int × Int × Int × Int × Unit) × Unit) × (List Int × List Int × Unit) × List (Int × Int × Int × List Int × Int × Int × List Int × Unit) × List (Int × Int × Int × List Int × Int × Int × List Int × Unit) × Unit) (x1 : List Int × (List Int × List Int × Int × List (Int × Int × Int × Int × Unit) × List (Int × Int × Int × Int × Unit) × Unit) × (List Int × List Int × Int × List (Int × Int × Int × Int × Unit) × List (Int × Int × Int × Int × Unit) × Unit) × (List Int × List Int × Unit) × List (Int × Int × Int × List Int × Int × Int × List Int × Unit) × List (Int × Int × Int × List Int × Int × Int × List Int × Unit) × Unit) :
    (den C k) (cB Try.f40) Q (St0 x0 x1) = top (fun (x4 : Bool) => Q .ret (St1 x4)) x0 x1 := by
  have h : ∀ (D L : DT α), denJ D L Js C (cB Try.f40) Q (St0 x0 x1) =
        (if ((beqD (.arr 4 (.int .u64)) x0.1 x1.1) == true) = true then Go.Bx.basculelaw_sameGate.run x0.2.1 x1.2.1 else some false).bind fun y1 =>
        (if ((cond (beqD (.arr 4 (.int .u64)) x0.1 x1.1) y1 false) == true) = true then Go.Bx.basculelaw_sameGate.run x0.2.2.1 x1.2.2.1 else some false).bind fun y2 =>
        (if ((cond (cond (beqD (.arr 4 (.int .u64)) x0.1 x1.1) y1 false) y2 false) == true) = true then Go.Bx.basculelaw_sameLog.run x0.2.2.2.1 x1.2.2.2.1 else some false).bind fun y3 =>
        (if ((cond (cond (cond (beqD (.arr 4 (.int .u64)) x0.1 x1.1) y1 false) y2 false) y3 false) == true) = true then Go.Bx.basculelaw_sameBodies.run x0.2.2.2.2.1 x1.2.2.2.2.1 else some false).bind fun y4 =>
        (if ((cond (cond (cond (cond (beqD (.arr 4 (.int .u64)) x0.1 x1.1) y1 false) y2 false) y3 false) y4 false) == true) = true then Go.Bx.basculelaw_sameBodies.run x0.2.2.2.2.2.1 x1.2.2.2.2.2.1 else some false).bind fun y5 =>
        Q .ret (St1 (cond (cond (cond (cond (cond (beqD (.arr 4 (.int .u64)) x0.1 x1.1) y1 false) y2 false) y3 false) y4 false) y5 false)) := by
    intro D L; kernel_rfl
  refine (show (den C k) (cB Try.f40) Q (St0 x0 x1) = denJ (den C k) (lp C k) Js C (cB Try.f40) Q (St0 x0 x1) from (denJ_den _ _ _ _ _ _).symm).trans ((h (den C k) (lp C k)).trans ?_)
  first | rfl | kernel_rfl
def run (x0 : List Int × (List Int × List Int × Int × List (Int × Int × Int × Int × Unit) × List (Int × Int × Int × Int × Unit) × Unit) × (List Int × List Int × Int × List (Int × Int × Int × Int × Unit) × List (Int × Int × Int × Int × Unit) × Unit) × (List Int × List Int × Unit) × List (Int × Int × Int × List Int × Int × Int × List Int × Unit) × List (Int × Int × Int × List Int × Int × Int × List Int × Unit) × Unit) (x1 : List Int × (List Int × List Int × Int × List (Int × Int × Int × Int × Unit) × List (Int × Int × Int × Int × Unit) × Unit) × (List Int × List Int × Int × List (Int × Int × Int × Int × Unit) × List (Int × Int × Int × Int × Unit) × Unit) × (List Int × List Int × Unit) × List (Int × Int × Int × List Int × Int × Int × List Int × Unit) × List (Int × Int × Int × List Int × Int × Int × List Int × Unit) × Unit) : Option (Bool) := top (α := Bool) (fun (x4 : Bool) => some x4) x0 x1
def F : Fn := ⟨(.pair (.pair (.arr 4 (.int .u64)) (.pair (.pair (.arr 3 (.int .i64)) (.pair (.arr 3 (.int .i64)) (.pair (.int .i64) (.pair (.sl (.pair (.int .i64) (.pair (.int .i64) (.pair (.int .i64) (.pair (.int .i64) .unit))))) (.pair (.sl (.pair (.int .i64) (.pair (.int .i64) (.pair (.int .i64) (.pair (.int .i64) .unit))))) .unit))))) (.pair (.pair (.arr 3 (.int .i64)) (.pair (.arr 3 (.int .i64)) (.pair (.int .i64) (.pair (.sl (.pair (.int .i64) (.pair (.int .i64) (.pair (.int .i64) (.pair (.int .i64) .unit))))) (.pair (.sl (.pair (.int .i64) (.pair (.int .i64) (.pair (.int .i64) (.pair (.int .i64) .unit))))) .unit))))) (.pair (.pair (.sl (.int .u8)) (.pair (.sl (.int .u8)) .unit)) (.pair (.sl (.pair (.int .i64) (.pair (.int .i64) (.pair (.int .i64) (.pair (.arr 32 (.int .u8)) (.pair (.int .i64) (.pair (.int .i64) (.pair (.sl (.int .u8)) .unit)))))))) (.pair (.sl (.pair (.int .i64) (.pair (.int .i64) (.pair (.int .i64) (.pair (.arr 32 (.int .u8)) (.pair (.int .i64) (.pair (.int .i64) (.pair (.sl (.int .u8)) .unit)))))))) .unit)))))) (.pair (.pair (.arr 4 (.int .u64)) (.pair (.pair (.arr 3 (.int .i64)) (.pair (.arr 3 (.int .i64)) (.pair (.int .i64) (.pair (.sl (.pair (.int .i64) (.pair (.int .i64) (.pair (.int .i64) (.pair (.int .i64) .unit))))) (.pair (.sl (.pair (.int .i64) (.pair (.int .i64) (.pair (.int .i64) (.pair (.int .i64) .unit))))) .unit))))) (.pair (.pair (.arr 3 (.int .i64)) (.pair (.arr 3 (.int .i64)) (.pair (.int .i64) (.pair (.sl (.pair (.int .i64) (.pair (.int .i64) (.pair (.int .i64) (.pair (.int .i64) .unit))))) (.pair (.sl (.pair (.int .i64) (.pair (.int .i64) (.pair (.int .i64) (.pair (.int .i64) .unit))))) .unit))))) (.pair (.pair (.sl (.int .u8)) (.pair (.sl (.int .u8)) .unit)) (.pair (.sl (.pair (.int .i64) (.pair (.int .i64) (.pair (.int .i64) (.pair (.arr 32 (.int .u8)) (.pair (.int .i64) (.pair (.int .i64) (.pair (.sl (.int .u8)) .unit)))))))) (.pair (.sl (.pair (.int .i64) (.pair (.int .i64) (.pair (.int .i64) (.pair (.arr 32 (.int .u8)) (.pair (.int .i64) (.pair (.int .i64) (.pair (.sl (.int .u8)) .unit)))))))) .unit)))))) .unit)), .bool, false, fun x => run x.1 x.2.1⟩
set_option maxRecDepth 100000 in
theorem con : Con Try.prog 40 F := by
  refine con_of_den (C := C) (ctx_ok (by kernel_rfl) (by kernel_rfl) (by kernel_rfl) (by kernel_rfl) ⟨.inl ⟨Go.Bx.basculelaw_sameGate.con, Go.Bx.basculelaw_sameGate.named⟩, ⟨.inl ⟨Go.Bx.basculelaw_sameLog.con, Go.Bx.basculelaw_sameLog.named⟩, ⟨.inl ⟨Go.Bx.basculelaw_sameBodies.con, Go.Bx.basculelaw_sameBodies.named⟩, trivial⟩⟩⟩) (by kernel_rfl) Try.func40 (c := cB Try.f40) (by kernel_rfl) (by kernel_rfl) F fuel (fun x => by simp [F, spread, Try.ntmps40]) ?_
  intro x r h
  rw [← h]
  have h1 : start F Try.f40.ntmps x = (St0 x.1 x.2.1) := by kernel_rfl
  rw [h1]
  refine (top_eq fuel (fin C Try.f40.results.toList F.rs F.multi) x.1 x.2.1).trans ?_
  kernel_rfl
theorem named : Named Try.prog 40 := named_of Try.func40 (by kernel_rfl) (by kernel_rfl)
end Go.Bx.basculelaw_sameGuard
namespace Go.Bx.paper_Check_1
open Go Go.Proofs Go.Bx
set_option maxRecDepth 100000
set_option linter.unusedVariables false
def Js : List Nat := []
def C : Ctx := ⟨[(3, (.int .i64)), (4, .bool)], [], [], fnL [], noSh, [], invL [], [(2, [4])], [], [], 0, 0⟩
def St0 (x0 : Int) (x1 : Int) : St := stL 12 [(0, .data (.int .i64) x0), (1, .data (.int .i64) x1)] []
def St1 (x4 : Bool) : St := stL 12 [(4, .data .bool x4)] []
def top {α : Type} (Rt : Bool → Option α) (x0 : Int) (x1 : Int) : Option α :=
  Rt (cond (decide (x0 ≥ 0)) (decide (x0 ≤ x1)) false)
theorem top_eq {α : Type} (k : Nat) (Q : Ex → St → Option α) (x0 : Int) (x1 : Int) :
    (den C k) (cB Try.f115) Q (St0 x0 x1) = top (fun (x4 : Bool) => Q .ret (St1 x4)) x0 x1 := by
  have h : ∀ (D L : DT α), denJ D L Js C (cB Try.f115) Q (St0 x0 x1) =
        Q .ret (St1 (cond (decide (x0 ≥ 0)) (decide (x0 ≤ x1)) false)) := by
    intro D L; kernel_rfl
  refine (show (den C k) (cB Try.f115) Q (St0 x0 x1) = denJ (den C k) (lp C k) Js C (cB Try.f115) Q (St0 x0 x1) from (denJ_den _ _ _ _ _ _).symm).trans ((h (den C k) (lp C k)).trans ?_)
  first | rfl | kernel_rfl
def run (x0 : Int) (x1 : Int) : Option (Bool) := top (α := Bool) (fun (x4 : Bool) => some x4) x0 x1
def F : Fn := ⟨(.pair (.int .i64) (.pair (.int .i64) .unit)), .bool, false, fun x => run x.1 x.2.1⟩
set_option maxRecDepth 100000 in
theorem con : Con Try.prog 115 F := by
  refine con_of_den (C := C) (ctx_ok (by kernel_rfl) (by kernel_rfl) (by kernel_rfl) (by kernel_rfl) trivial) (by kernel_rfl) Try.func115 (c := cB Try.f115) (by kernel_rfl) (by kernel_rfl) F fuel (fun x => by simp [F, spread, Try.ntmps115]) ?_
  intro x r h
  rw [← h]
  have h1 : start F Try.f115.ntmps x = (St0 x.1 x.2.1) := by kernel_rfl
  rw [h1]
  refine (top_eq fuel (fin C Try.f115.results.toList F.rs F.multi) x.1 x.2.1).trans ?_
  kernel_rfl
theorem named : Named Try.prog 115 := named_of Try.func115 (by kernel_rfl) (by kernel_rfl)
end Go.Bx.paper_Check_1
namespace Go.Bx.paper_Check
open Go Go.Proofs Go.Bx
set_option maxRecDepth 100000
set_option linter.unusedVariables false
def Js : List Nat := []
def C : Ctx := ⟨[(3, (.int .i64)), (23, (.int .i64)), (59, (.sl (.int .u8))), (76, (.pair (.int .i64) (.pair (.int .i64) (.pair (.int .i64) (.pair (.arr 32 (.int .u8)) (.pair (.int .i64) (.pair (.int .i64) (.pair (.sl (.int .u8)) .unit))))))))], [], [], fnL [(115, Go.Bx.paper_Check_1.F)], noSh, [], invL [], [(2, [2])], [], [], 0, 0⟩
def St0 (x0 : Int × Int × Int × List Int × Int × Int × List Int × Unit) : St := stL 41 [(0, .data (.pair (.int .i64) (.pair (.int .i64) (.pair (.int .i64) (.pair (.arr 32 (.int .u8)) (.pair (.int .i64) (.pair (.int .i64) (.pair (.sl (.int .u8)) .unit))))))) x0)] []
def St1 (x2 : Int) : St := stL 41 [(2, .data (.int .i64) x2)] []
def top {α : Type} (Rt : Int → Option α) (x0 : Int × Int × Int × List Int × Int × Int × List Int × Unit) : Option α :=
  (Go.Bx.paper_Check_1.run x0.1 1099511627776).bind fun y1 =>
  (if ((not y1) == false) = true then Go.Bx.paper_Check_1.run x0.2.1 4294967295 else some false).bind fun y2 =>
  (if ((cond (not y1) true (not y2)) == false) = true then Go.Bx.paper_Check_1.run x0.2.2.1 65535 else some false).bind fun y3 =>
  (if ((cond (cond (not y1) true (not y2)) true (not y3)) == false) = true then Go.Bx.paper_Check_1.run x0.2.2.2.2.1 1099511627776 else some false).bind fun y4 =>
  (if ((cond (cond (cond (not y1) true (not y2)) true (not y3)) true (not y4)) == false) = true then Go.Bx.paper_Check_1.run x0.2.2.2.2.2.1 255 else some false).bind fun y5 =>
  if (cond (cond (cond (cond (not y1) true (not y2)) true (not y3)) true (not y4)) true (not y5)) = true then
    Rt 6
  else
    if (decide ((x0.2.2.2.2.2.2.1.length : Int) > 300)) = true then
      Rt 1
    else
      Rt 0
theorem top_eq {α : Type} (k : Nat) (Q : Ex → St → Option α) (x0 : Int × Int × Int × List Int × Int × Int × List Int × Unit) :
    (den C k) (cB Try.f98) Q (St0 x0) = top (fun (x2 : Int) => Q .ret (St1 x2)) x0 := by
  have h : ∀ (D L : DT α), denJ D L Js C (cB Try.f98) Q (St0 x0) =
        (Go.Bx.paper_Check_1.run x0.1 1099511627776).bind fun y1 =>
        (if ((not y1) == false) = true then Go.Bx.paper_Check_1.run x0.2.1 4294967295 else some false).bind fun y2 =>
        (if ((cond (not y1) true (not y2)) == false) = true then Go.Bx.paper_Check_1.run x0.2.2.1 65535 else some false).bind fun y3 =>
        (if ((cond (cond (not y1) true (not y2)) true (not y3)) == false) = true then Go.Bx.paper_Check_1.run x0.2.2.2.2.1 1099511627776 else some false).bind fun y4 =>
        (if ((cond (cond (cond (not y1) true (not y2)) true (not y3)) true (not y4)) == false) = true then Go.Bx.paper_Check_1.run x0.2.2.2.2.2.1 255 else some false).bind fun y5 =>
        if (cond (cond (cond (cond (not y1) true (not y2)) true (not y3)) true (not y4)) true (not y5)) = true then
          Q .ret (St1 6)
        else
          if (decide ((x0.2.2.2.2.2.2.1.length : Int) > 300)) = true then
            Q .ret (St1 1)
          else
            Q .ret (St1 0) := by
    intro D L; kernel_rfl
  refine (show (den C k) (cB Try.f98) Q (St0 x0) = denJ (den C k) (lp C k) Js C (cB Try.f98) Q (St0 x0) from (denJ_den _ _ _ _ _ _).symm).trans ((h (den C k) (lp C k)).trans ?_)
  first | rfl | kernel_rfl
def run (x0 : Int × Int × Int × List Int × Int × Int × List Int × Unit) : Option (Int) := top (α := Int) (fun (x2 : Int) => some x2) x0
def F : Fn := ⟨(.pair (.pair (.int .i64) (.pair (.int .i64) (.pair (.int .i64) (.pair (.arr 32 (.int .u8)) (.pair (.int .i64) (.pair (.int .i64) (.pair (.sl (.int .u8)) .unit))))))) .unit), (.int .i64), false, fun x => run x.1⟩
set_option maxRecDepth 100000 in
theorem con : Con Try.prog 98 F := by
  refine con_of_den (C := C) (ctx_ok (by kernel_rfl) (by kernel_rfl) (by kernel_rfl) (by kernel_rfl) ⟨.inl ⟨Go.Bx.paper_Check_1.con, Go.Bx.paper_Check_1.named⟩, trivial⟩) (by kernel_rfl) Try.func98 (c := cB Try.f98) (by kernel_rfl) (by kernel_rfl) F fuel (fun x => by simp [F, spread, Try.ntmps98]) ?_
  intro x r h
  rw [← h]
  have h1 : start F Try.f98.ntmps x = (St0 x.1) := by kernel_rfl
  rw [h1]
  refine (top_eq fuel (fin C Try.f98.results.toList F.rs F.multi) x.1).trans ?_
  kernel_rfl
theorem named : Named Try.prog 98 := named_of Try.func98 (by kernel_rfl) (by kernel_rfl)
end Go.Bx.paper_Check
namespace Go.Bx.basculeref_BodyFault
open Go Go.Proofs Go.Bx
set_option maxRecDepth 100000
set_option linter.unusedVariables false
def Js : List Nat := [8]
def C : Ctx := ⟨[(3, (.int .i64)), (23, (.int .i64)), (59, (.sl (.int .u8))), (76, (.pair (.int .i64) (.pair (.int .i64) (.pair (.int .i64) (.pair (.arr 32 (.int .u8)) (.pair (.int .i64) (.pair (.int .i64) (.pair (.sl (.int .u8)) .unit)))))))), (191, (.arr 2 (.int .i64))), (192, (.sl (.arr 2 (.int .i64))))], [], [], fnL [(61, Go.Bx.basculeref_upTo.F)], noSh, [], invL [], [(2, [2]), (1, [1]), (4, [1, 20, 21, 22]), (6, [1, 20, 21, 22]), (21, [1])], [], [], 0, 0⟩
def St0 (x0 : Int × Int × Int × List Int × Int × Int × List Int × Unit) : St := stL 37 [(0, .data (.pair (.int .i64) (.pair (.int .i64) (.pair (.int .i64) (.pair (.arr 32 (.int .u8)) (.pair (.int .i64) (.pair (.int .i64) (.pair (.sl (.int .u8)) .unit))))))) x0)] []
def St1 (x20 : List (List Int)) (x21 : Int) (x22 : Int) (c1 : Int × Int × Int × List Int × Int × Int × List Int × Unit) : St := stL 37 [(1, .ref 1 0 []), (20, .full (.arr 2 (.int .i64)) x20), (21, .data (.int .i64) x21), (22, .data (.int .i64) x22)] [(1, .cell (.pair (.int .i64) (.pair (.int .i64) (.pair (.int .i64) (.pair (.arr 32 (.int .u8)) (.pair (.int .i64) (.pair (.int .i64) (.pair (.sl (.int .u8)) .unit))))))) (.data (.pair (.int .i64) (.pair (.int .i64) (.pair (.int .i64) (.pair (.arr 32 (.int .u8)) (.pair (.int .i64) (.pair (.int .i64) (.pair (.sl (.int .u8)) .unit))))))) c1) false)]
noncomputable def cd0 : Code := cL (cL (cR (cL (cR (cB Try.f102)))))
def St2 (x2 : Int) : St := stL 37 [(2, .data (.int .i64) x2)] []
def St3 (c1 : Int × Int × Int × List Int × Int × Int × List Int × Unit) : St := stL 37 [(1, .ref 1 0 [])] [(1, .cell (.pair (.int .i64) (.pair (.int .i64) (.pair (.int .i64) (.pair (.arr 32 (.int .u8)) (.pair (.int .i64) (.pair (.int .i64) (.pair (.sl (.int .u8)) .unit))))))) (.data (.pair (.int .i64) (.pair (.int .i64) (.pair (.int .i64) (.pair (.arr 32 (.int .u8)) (.pair (.int .i64) (.pair (.int .i64) (.pair (.sl (.int .u8)) .unit))))))) c1) false)]
def l0s {α : Type} (Nx : (List (List Int)) → Int → Int → (Int × Int × Int × List Int × Int × Int × List Int × Unit) → Option α) (Rt : Int → Option α) (Xt0 : (Int × Int × Int × List Int × Int × Int × List Int × Unit) → Option α) (x20 : List (List Int)) (x21 : Int) (x22 : Int) (c1 : Int × Int × Int × List Int × Int × Int × List Int × Unit) : Option α :=
  if (decide (x22 < x21)) = true then
    if 0 ≤ x22 ∧ x22 < (x20.length : Int) then
      (Go.Bx.basculeref_upTo.run (List.getD (List.getD x20 (Int.toNat x22) [0, 0]) 0 0) (List.getD (List.getD x20 (Int.toNat x22) [0, 0]) 1 0)).bind fun y1 =>
      if (not y1) = true then
        Rt 6
      else
        Nx x20 x21 (IntKind.i64.wrap (x22 + 1)) c1
    else none
  else
    Xt0 c1
theorem l0s_eq {α : Type} (k : Nat) (next : St → Option α) (Q : Ex → St → Option α) (x20 : List (List Int)) (x21 : Int) (x22 : Int) (c1 : Int × Int × Int × List Int × Int × Int × List Int × Unit) :
    rnd C k cd0 6 Q next (St1 x20 x21 x22 c1) = l0s (fun (x20 : List (List Int)) (x21 : Int) (x22 : Int) (c1 : Int × Int × Int × List Int × Int × Int × List Int × Unit) => next (St1 x20 x21 x22 c1)) (fun (x2 : Int) => Q .ret (St2 x2)) (fun (c1 : Int × Int × Int × List Int × Int × Int × List Int × Unit) => Q (.exit 0) (St3 c1)) x20 x21 x22 c1 := by
  have h : ∀ (D L : DT α), denJ D L Js C cd0 (lq C 6 next Q) (St1 x20 x21 x22 c1) =
        if (decide (x22 < x21)) = true then
          if 0 ≤ x22 ∧ x22 < (x20.length : Int) then
            (Go.Bx.basculeref_upTo.run (List.getD (List.getD x20 (Int.toNat x22) [0, 0]) 0 0) (List.getD (List.getD x20 (Int.toNat x22) [0, 0]) 1 0)).bind fun y1 =>
            if (not y1) = true then
              Q .ret (St2 6)
            else
              next (St1 x20 x21 (IntKind.i64.wrap (x22 + 1)) c1)
          else none
        else
          Q (.exit 0) (St3 c1) := by
    intro D L; kernel_rfl
  refine (show rnd C k cd0 6 Q next (St1 x20 x21 x22 c1) = denJ (den C k) (lp C k) Js C cd0 (lq C 6 next Q) (St1 x20 x21 x22 c1) from (denJ_den _ _ _ _ _ _).symm).trans ((h (den C k) (lp C k)).trans ?_)
  first | rfl | kernel_rfl
def l0 {α : Type} (k : Nat) (Rt : Int → Option α) (Xt0 : (Int × Int × Int × List Int × Int × Int × List Int × Unit) → Option α) : Nat → (List (List Int)) → Int → Int → (Int × Int × Int × List Int × Int × Int × List Int × Unit) → Option α
  | 0, _, _, _, _ => none
  | n + 1, x20, x21, x22, c1 => l0s (l0 k Rt Xt0 n) Rt Xt0 x20 x21 x22 c1
theorem l0_eq {α : Type} (k : Nat) (Q : Ex → St → Option α) : ∀ (n : Nat) (x20 : List (List Int)) (x21 : Int) (x22 : Int) (c1 : Int × Int × Int × List Int × Int × Int × List Int × Unit), iter (rnd C k cd0 6 Q) n (St1 x20 x21 x22 c1) = l0 k (fun (x2 : Int) => Q .ret (St2 x2)) (fun (c1 : Int × Int × Int × List Int × Int × Int × List Int × Unit) => Q (.exit 0) (St3 c1)) n x20 x21 x22 c1
  | 0, _, _, _, _ => rfl
  | n + 1, x20, x21, x22, c1 => (iter_succ _ _ _).trans ((l0s_eq k (iter (rnd C k cd0 6 Q) n) Q x20 x21 x22 c1).trans (congrArg (fun N => l0s N (fun (x2 : Int) => Q .ret (St2 x2)) (fun (c1 : Int × Int × Int × List Int × Int × Int × List Int × Unit) => Q (.exit 0) (St3 c1)) x20 x21 x22 c1) (funext fun x20 => funext fun x21 => funext fun x22 => funext fun c1 => l0_eq k Q n x20 x21 x22 c1)))
theorem l0_congr {α : Type} (k : Nat) (Rt : Int → Option α) (Xt0 : (Int × Int × Int × List Int × Int × Int × List Int × Unit) → Option α) (Rtq : Int → Option α) (Xt0q : (Int × Int × Int × List Int × Int × Int × List Int × Unit) → Option α) (hRt : ∀ (x2 : Int), Rt x2 = Rtq x2) (hXt0 : ∀ (c1 : Int × Int × Int × List Int × Int × Int × List Int × Unit), Xt0 c1 = Xt0q c1) (n : Nat) (x20 : List (List Int)) (x21 : Int) (x22 : Int) (c1 : Int × Int × Int × List Int × Int × Int × List Int × Unit) : l0 k Rt Xt0 n x20 x21 x22 c1 = l0 k Rtq Xt0q n x20 x21 x22 c1 := by
  obtain rfl : Rt = Rtq := by funext x2; exact hRt x2
  obtain rfl : Xt0 = Xt0q := by funext c1; exact hXt0 c1
  rfl
noncomputable def cd1 : Code := cR (cR (cB Try.f102))
def St4 (c1 : Int × Int × Int × List Int × Int × Int × List Int × Unit) : St := stL 37 [(1, .ref 1 0 [])] [(1, .cell (.pair (.int .i64) (.pair (.int .i64) (.pair (.int .i64) (.pair (.arr 32 (.int .u8)) (.pair (.int .i64) (.pair (.int .i64) (.pair (.sl (.int .u8)) .unit))))))) (.data (.pair (.int .i64) (.pair (.int .i64) (.pair (.int .i64) (.pair (.arr 32 (.int .u8)) (.pair (.int .i64) (.pair (.int .i64) (.pair (.sl (.int .u8)) .unit))))))) c1) false)]
def j0 {α : Type} (Rt : Int → Option α) (c1 : Int × Int × Int × List Int × Int × Int × List Int × Unit) : Option α :=
  if (decide ((c1.2.2.2.2.2.2.1.length : Int) > 300)) = true then
    Rt 1
  else
    Rt 0
theorem j0_eq {α : Type} (k : Nat) (Q : Ex → St → Option α) (c1 : Int × Int × Int × List Int × Int × Int × List Int × Unit) :
    (den C k) cd1 Q (St4 c1) = j0 (fun (x2 : Int) => Q .ret (St2 x2)) c1 := by
  have h : ∀ (D L : DT α), denJ D L Js C cd1 Q (St4 c1) =
        if (decide ((c1.2.2.2.2.2.2.1.length : Int) > 300)) = true then
          Q .ret (St2 1)
        else
          Q .ret (St2 0) := by
    intro D L; kernel_rfl
  refine (show (den C k) cd1 Q (St4 c1) = denJ (den C k) (lp C k) Js C cd1 Q (St4 c1) from (denJ_den _ _ _ _ _ _).symm).trans ((h (den C k) (lp C k)).trans ?_)
  first | rfl | kernel_rfl
theorem a0 {α : Type} (k : Nat) (Q : Ex → St → Option α) (x20 : List (List Int)) (x21 : Int) (x22 : Int) (c1 : Int × Int × Int × List Int × Int × Int × List Int × Unit) :
    (lp C k) cd0 (blkQ C 0 (sq (den C k) (lp C k) Js C cd1 Q)) (St1 x20 x21 x22 c1) = l0 k (fun (x2 : Int) => (fun (x2 : Int) => Q .ret (St2 x2)) x2) (fun (c1 : Int × Int × Int × List Int × Int × Int × List Int × Unit) => j0 (fun (x2 : Int) => Q .ret (St2 x2)) c1) k x20 x21 x22 c1 :=
  (show (lp C k) cd0 (blkQ C 0 (sq (den C k) (lp C k) Js C cd1 Q)) (St1 x20 x21 x22 c1) = iter (rnd C k cd0 6 (blkQ C 0 (sq (den C k) (lp C k) Js C cd1 Q))) k (St1 x20 x21 x22 c1) by kernel_rfl).trans ((l0_eq k (blkQ C 0 (sq (den C k) (lp C k) Js C cd1 Q)) k x20 x21 x22 c1).trans (l0_congr k _ _ _ _ (fun x2 => (show (blkQ C 0 (sq (den C k) (lp C k) Js C cd1 Q)) .ret (St2 x2) = Q .ret (St2 x2) by kernel_rfl)) (fun c1 => ((show (blkQ C 0 (sq (den C k) (lp C k) Js C cd1 Q)) (.exit 0) (St3 c1) = (den C k) cd1 Q (St4 c1) by kernel_rfl).trans (by simp only [j0_eq]))) k x20 x21 x22 c1))
def top {α : Type} (k : Nat) (Rt : Int → Option α) (x0 : Int × Int × Int × List Int × Int × Int × List Int × Unit) : Option α :=
  l0 k (fun (x2 : Int) => Rt x2) (fun (c1 : Int × Int × Int × List Int × Int × Int × List Int × Unit) => j0 Rt c1) k [[x0.1, 1099511627776], [x0.2.1, 4294967295], [x0.2.2.1, 65535], [x0.2.2.2.2.1, 1099511627776], [x0.2.2.2.2.2.1, 255]] 5 0 x0
theorem top_eq {α : Type} (k : Nat) (Q : Ex → St → Option α) (x0 : Int × Int × Int × List Int × Int × Int × List Int × Unit) :
    (den C k) (cB Try.f102) Q (St0 x0) = top k (fun (x2 : Int) => Q .ret (St2 x2)) x0 := by
  have h : ∀ (D L : DT α), denJ D L Js C (cB Try.f102) Q (St0 x0) =
        L cd0 (blkQ C 0 (sq D L Js C cd1 Q)) (St1 [[x0.1, 1099511627776], [x0.2.1, 4294967295], [x0.2.2.1, 65535], [x0.2.2.2.2.1, 1099511627776], [x0.2.2.2.2.2.1, 255]] 5 0 x0) := by
    intro D L; kernel_rfl
  refine (show (den C k) (cB Try.f102) Q (St0 x0) = denJ (den C k) (lp C k) Js C (cB Try.f102) Q (St0 x0) from (denJ_den _ _ _ _ _ _).symm).trans ((h (den C k) (lp C k)).trans ?_)
  simp only [a0]
  first | rfl | kernel_rfl
def run (x0 : Int × Int × Int × List Int × Int × Int × List Int × Unit) : Option (Int) := top (α := Int) fuel (fun (x2 : Int) => some x2) x0
def F : Fn := ⟨(.pair (.pair (.int .i64) (.pair (.int .i64) (.pair (.int .i64) (.pair (.arr 32 (.int .u8)) (.pair (.int .i64) (.pair (.int .i64) (.pair (.sl (.int .u8)) .unit))))))) .unit), (.int .i64), false, fun x => run x.1⟩
set_option maxRecDepth 100000 in
theorem con : Con Try.prog 102 F := by
  refine con_of_den (C := C) (ctx_ok (by kernel_rfl) (by kernel_rfl) (by kernel_rfl) (by kernel_rfl) ⟨.inl ⟨Go.Bx.basculeref_upTo.con, Go.Bx.basculeref_upTo.named⟩, trivial⟩) (by kernel_rfl) Try.func102 (c := cB Try.f102) (by kernel_rfl) (by kernel_rfl) F fuel (fun x => by simp [F, spread, Try.ntmps102]) ?_
  intro x r h
  rw [← h]
  have h1 : start F Try.f102.ntmps x = (St0 x.1) := by kernel_rfl
  rw [h1]
  refine (top_eq fuel (fin C Try.f102.results.toList F.rs F.multi) x.1).trans ?_
  kernel_rfl
theorem named : Named Try.prog 102 := named_of Try.func102 (by kernel_rfl) (by kernel_rfl)
end Go.Bx.basculeref_BodyFault
namespace Go.Bx.paper_fault
open Go Go.Proofs Go.Bx
set_option maxRecDepth 100000
set_option linter.unusedVariables false
def Js : List Nat := [12]
def C : Ctx := ⟨[(3, (.int .i64)), (23, (.int .i64)), (74, (.sl (.pair (.int .i64) (.pair (.pair (.arr 4 (.int .u64)) (.pair (.arr 4 (.int .u64)) (.pair (.int .i64) .unit))) .unit)))), (76, (.pair (.int .i64) (.pair (.int .i64) (.pair (.int .i64) (.pair (.arr 32 (.int .u8)) (.pair (.int .i64) (.pair (.int .i64) (.pair (.sl (.int .u8)) .unit)))))))), (78, (.pair (.int .i64) (.pair (.sl (.pair (.int .i64) (.pair (.pair (.arr 4 (.int .u64)) (.pair (.arr 4 (.int .u64)) (.pair (.int .i64) .unit))) .unit))) (.pair (.pair (.int .i64) (.pair (.int .i64) (.pair (.int .i64) (.pair (.arr 32 (.int .u8)) (.pair (.int .i64) (.pair (.int .i64) (.pair (.sl (.int .u8)) .unit))))))) .unit)))), (139, (.pair (.arr 4 (.int .u64)) (.pair (.arr 4 (.int .u64)) (.pair (.int .i64) .unit)))), (141, (.pair (.int .i64) (.pair (.pair (.arr 4 (.int .u64)) (.pair (.arr 4 (.int .u64)) (.pair (.int .i64) .unit))) .unit)))], [], [], fnL [(98, Go.Bx.paper_Check.F)], noSh, [], invL [], [(2, [2]), (1, [1]), (4, [1, 18, 19, 20]), (18, [1, 18, 19, 20]), (33, [1])], [], [], 0, 0⟩
def St0 (x0 : Int × List (Int × (List Int × List Int × Int × Unit) × Unit) × (Int × Int × Int × List Int × Int × Int × List Int × Unit) × Unit) : St := stL 48 [(0, .data (.pair (.int .i64) (.pair (.sl (.pair (.int .i64) (.pair (.pair (.arr 4 (.int .u64)) (.pair (.arr 4 (.int .u64)) (.pair (.int .i64) .unit))) .unit))) (.pair (.pair (.int .i64) (.pair (.int .i64) (.pair (.int .i64) (.pair (.arr 32 (.int .u8)) (.pair (.int .i64) (.pair (.int .i64) (.pair (.sl (.int .u8)) .unit))))))) .unit))) x0)] []
def St1 (x2 : Int) : St := stL 48 [(2, .data (.int .i64) x2)] []
def St2 (x18 : List (Int × (List Int × List Int × Int × Unit) × Unit)) (x19 : Int) (x20 : Int) (c1 : Int × List (Int × (List Int × List Int × Int × Unit) × Unit) × (Int × Int × Int × List Int × Int × Int × List Int × Unit) × Unit) : St := stL 48 [(1, .ref 1 0 []), (18, .data (.sl (.pair (.int .i64) (.pair (.pair (.arr 4 (.int .u64)) (.pair (.arr 4 (.int .u64)) (.pair (.int .i64) .unit))) .unit))) x18), (19, .data (.int .i64) x19), (20, .data (.int .i64) x20)] [(1, .cell (.pair (.int .i64) (.pair (.sl (.pair (.int .i64) (.pair (.pair (.arr 4 (.int .u64)) (.pair (.arr 4 (.int .u64)) (.pair (.int .i64) .unit))) .unit))) (.pair (.pair (.int .i64) (.pair (.int .i64) (.pair (.int .i64) (.pair (.arr 32 (.int .u8)) (.pair (.int .i64) (.pair (.int .i64) (.pair (.sl (.int .u8)) .unit))))))) .unit))) (.data (.pair (.int .i64) (.pair (.sl (.pair (.int .i64) (.pair (.pair (.arr 4 (.int .u64)) (.pair (.arr 4 (.int .u64)) (.pair (.int .i64) .unit))) .unit))) (.pair (.pair (.int .i64) (.pair (.int .i64) (.pair (.int .i64) (.pair (.arr 32 (.int .u8)) (.pair (.int .i64) (.pair (.int .i64) (.pair (.sl (.int .u8)) .unit))))))) .unit))) c1) false)]
noncomputable def cd0 : Code := cL (cL (cR (cL (cR (cR (cR (cB Try.f79)))))))
def St3 (c1 : Int × List (Int × (List Int × List Int × Int × Unit) × Unit) × (Int × Int × Int × List Int × Int × Int × List Int × Unit) × Unit) : St := stL 48 [(1, .ref 1 0 [])] [(1, .cell (.pair (.int .i64) (.pair (.sl (.pair (.int .i64) (.pair (.pair (.arr 4 (.int .u64)) (.pair (.arr 4 (.int .u64)) (.pair (.int .i64) .unit))) .unit))) (.pair (.pair (.int .i64) (.pair (.int .i64) (.pair (.int .i64) (.pair (.arr 32 (.int .u8)) (.pair (.int .i64) (.pair (.int .i64) (.pair (.sl (.int .u8)) .unit))))))) .unit))) (.data (.pair (.int .i64) (.pair (.sl (.pair (.int .i64) (.pair (.pair (.arr 4 (.int .u64)) (.pair (.arr 4 (.int .u64)) (.pair (.int .i64) .unit))) .unit))) (.pair (.pair (.int .i64) (.pair (.int .i64) (.pair (.int .i64) (.pair (.arr 32 (.int .u8)) (.pair (.int .i64) (.pair (.int .i64) (.pair (.sl (.int .u8)) .unit))))))) .unit))) c1) false)]
def l0s {α : Type} (Nx : (List (Int × (List Int × List Int × Int × Unit) × Unit)) → Int → Int → (Int × List (Int × (List Int × List Int × Int × Unit) × Unit) × (Int × Int × Int × List Int × Int × Int × List Int × Unit) × Unit) → Option α) (Rt : Int → Option α) (Xt0 : (Int × List (Int × (List Int × List Int × Int × Unit) × Unit) × (Int × Int × Int × List Int × Int × Int × List Int × Unit) × Unit) → Option α) (x18 : List (Int × (List Int × List Int × Int × Unit) × Unit)) (x19 : Int) (x20 : Int) (c1 : Int × List (Int × (List Int × List Int × Int × Unit) × Unit) × (Int × Int × Int × List Int × Int × Int × List Int × Unit) × Unit) : Option α :=
  if (decide (x20 < x19)) = true then
    if 0 ≤ x20 ∧ x20 < (x18.length : Int) then
      if (cond (cond (cond (decide ((List.getD x18 (Int.toNat x20) (0, ([0, 0, 0, 0], [0, 0, 0, 0], 0, ()), ())).1 < 0)) true (decide ((List.getD x18 (Int.toNat x20) (0, ([0, 0, 0, 0], [0, 0, 0, 0], 0, ()), ())).1 > 255))) true (decide ((List.getD x18 (Int.toNat x20) (0, ([0, 0, 0, 0], [0, 0, 0, 0], 0, ()), ())).2.1.2.2.1 < 0))) true (decide ((List.getD x18 (Int.toNat x20) (0, ([0, 0, 0, 0], [0, 0, 0, 0], 0, ()), ())).2.1.2.2.1 > 255))) = true then
        Rt 6
      else
        Nx x18 x19 (IntKind.i64.wrap (x20 + 1)) c1
    else none
  else
    Xt0 c1
theorem l0s_eq {α : Type} (k : Nat) (next : St → Option α) (Q : Ex → St → Option α) (x18 : List (Int × (List Int × List Int × Int × Unit) × Unit)) (x19 : Int) (x20 : Int) (c1 : Int × List (Int × (List Int × List Int × Int × Unit) × Unit) × (Int × Int × Int × List Int × Int × Int × List Int × Unit) × Unit) :
    rnd C k cd0 18 Q next (St2 x18 x19 x20 c1) = l0s (fun (x18 : List (Int × (List Int × List Int × Int × Unit) × Unit)) (x19 : Int) (x20 : Int) (c1 : Int × List (Int × (List Int × List Int × Int × Unit) × Unit) × (Int × Int × Int × List Int × Int × Int × List Int × Unit) × Unit) => next (St2 x18 x19 x20 c1)) (fun (x2 : Int) => Q .ret (St1 x2)) (fun (c1 : Int × List (Int × (List Int × List Int × Int × Unit) × Unit) × (Int × Int × Int × List Int × Int × Int × List Int × Unit) × Unit) => Q (.exit 0) (St3 c1)) x18 x19 x20 c1 := by
  have h : ∀ (D L : DT α), denJ D L Js C cd0 (lq C 18 next Q) (St2 x18 x19 x20 c1) =
        if (decide (x20 < x19)) = true then
          if 0 ≤ x20 ∧ x20 < (x18.length : Int) then
            if (cond (cond (cond (decide ((List.getD x18 (Int.toNat x20) (0, ([0, 0, 0, 0], [0, 0, 0, 0], 0, ()), ())).1 < 0)) true (decide ((List.getD x18 (Int.toNat x20) (0, ([0, 0, 0, 0], [0, 0, 0, 0], 0, ()), ())).1 > 255))) true (decide ((List.getD x18 (Int.toNat x20) (0, ([0, 0, 0, 0], [0, 0, 0, 0], 0, ()), ())).2.1.2.2.1 < 0))) true (decide ((List.getD x18 (Int.toNat x20) (0, ([0, 0, 0, 0], [0, 0, 0, 0], 0, ()), ())).2.1.2.2.1 > 255))) = true then
              Q .ret (St1 6)
            else
              next (St2 x18 x19 (IntKind.i64.wrap (x20 + 1)) c1)
          else none
        else
          Q (.exit 0) (St3 c1) := by
    intro D L; kernel_rfl
  refine (show rnd C k cd0 18 Q next (St2 x18 x19 x20 c1) = denJ (den C k) (lp C k) Js C cd0 (lq C 18 next Q) (St2 x18 x19 x20 c1) from (denJ_den _ _ _ _ _ _).symm).trans ((h (den C k) (lp C k)).trans ?_)
  first | rfl | kernel_rfl
def l0 {α : Type} (k : Nat) (Rt : Int → Option α) (Xt0 : (Int × List (Int × (List Int × List Int × Int × Unit) × Unit) × (Int × Int × Int × List Int × Int × Int × List Int × Unit) × Unit) → Option α) : Nat → (List (Int × (List Int × List Int × Int × Unit) × Unit)) → Int → Int → (Int × List (Int × (List Int × List Int × Int × Unit) × Unit) × (Int × Int × Int × List Int × Int × Int × List Int × Unit) × Unit) → Option α
  | 0, _, _, _, _ => none
  | n + 1, x18, x19, x20, c1 => l0s (l0 k Rt Xt0 n) Rt Xt0 x18 x19 x20 c1
theorem l0_eq {α : Type} (k : Nat) (Q : Ex → St → Option α) : ∀ (n : Nat) (x18 : List (Int × (List Int × List Int × Int × Unit) × Unit)) (x19 : Int) (x20 : Int) (c1 : Int × List (Int × (List Int × List Int × Int × Unit) × Unit) × (Int × Int × Int × List Int × Int × Int × List Int × Unit) × Unit), iter (rnd C k cd0 18 Q) n (St2 x18 x19 x20 c1) = l0 k (fun (x2 : Int) => Q .ret (St1 x2)) (fun (c1 : Int × List (Int × (List Int × List Int × Int × Unit) × Unit) × (Int × Int × Int × List Int × Int × Int × List Int × Unit) × Unit) => Q (.exit 0) (St3 c1)) n x18 x19 x20 c1
  | 0, _, _, _, _ => rfl
  | n + 1, x18, x19, x20, c1 => (iter_succ _ _ _).trans ((l0s_eq k (iter (rnd C k cd0 18 Q) n) Q x18 x19 x20 c1).trans (congrArg (fun N => l0s N (fun (x2 : Int) => Q .ret (St1 x2)) (fun (c1 : Int × List (Int × (List Int × List Int × Int × Unit) × Unit) × (Int × Int × Int × List Int × Int × Int × List Int × Unit) × Unit) => Q (.exit 0) (St3 c1)) x18 x19 x20 c1) (funext fun x18 => funext fun x19 => funext fun x20 => funext fun c1 => l0_eq k Q n x18 x19 x20 c1)))
theorem l0_congr {α : Type} (k : Nat) (Rt : Int → Option α) (Xt0 : (Int × List (Int × (List Int × List Int × Int × Unit) × Unit) × (Int × Int × Int × List Int × Int × Int × List Int × Unit) × Unit) → Option α) (Rtq : Int → Option α) (Xt0q : (Int × List (Int × (List Int × List Int × Int × Unit) × Unit) × (Int × Int × Int × List Int × Int × Int × List Int × Unit) × Unit) → Option α) (hRt : ∀ (x2 : Int), Rt x2 = Rtq x2) (hXt0 : ∀ (c1 : Int × List (Int × (List Int × List Int × Int × Unit) × Unit) × (Int × Int × Int × List Int × Int × Int × List Int × Unit) × Unit), Xt0 c1 = Xt0q c1) (n : Nat) (x18 : List (Int × (List Int × List Int × Int × Unit) × Unit)) (x19 : Int) (x20 : Int) (c1 : Int × List (Int × (List Int × List Int × Int × Unit) × Unit) × (Int × Int × Int × List Int × Int × Int × List Int × Unit) × Unit) : l0 k Rt Xt0 n x18 x19 x20 c1 = l0 k Rtq Xt0q n x18 x19 x20 c1 := by
  obtain rfl : Rt = Rtq := by funext x2; exact hRt x2
  obtain rfl : Xt0 = Xt0q := by funext c1; exact hXt0 c1
  rfl
noncomputable def cd1 : Code := cR (cR (cR (cR (cB Try.f79))))
def St4 (c1 : Int × List (Int × (List Int × List Int × Int × Unit) × Unit) × (Int × Int × Int × List Int × Int × Int × List Int × Unit) × Unit) : St := stL 48 [(1, .ref 1 0 [])] [(1, .cell (.pair (.int .i64) (.pair (.sl (.pair (.int .i64) (.pair (.pair (.arr 4 (.int .u64)) (.pair (.arr 4 (.int .u64)) (.pair (.int .i64) .unit))) .unit))) (.pair (.pair (.int .i64) (.pair (.int .i64) (.pair (.int .i64) (.pair (.arr 32 (.int .u8)) (.pair (.int .i64) (.pair (.int .i64) (.pair (.sl (.int .u8)) .unit))))))) .unit))) (.data (.pair (.int .i64) (.pair (.sl (.pair (.int .i64) (.pair (.pair (.arr 4 (.int .u64)) (.pair (.arr 4 (.int .u64)) (.pair (.int .i64) .unit))) .unit))) (.pair (.pair (.int .i64) (.pair (.int .i64) (.pair (.int .i64) (.pair (.arr 32 (.int .u8)) (.pair (.int .i64) (.pair (.int .i64) (.pair (.sl (.int .u8)) .unit))))))) .unit))) c1) false)]
def j0 {α : Type} (Rt : Int → Option α) (c1 : Int × List (Int × (List Int × List Int × Int × Unit) × Unit) × (Int × Int × Int × List Int × Int × Int × List Int × Unit) × Unit) : Option α :=
  (Go.Bx.paper_Check.run c1.2.2.1).bind fun y1 =>
  Rt y1
theorem j0_eq {α : Type} (k : Nat) (Q : Ex → St → Option α) (c1 : Int × List (Int × (List Int × List Int × Int × Unit) × Unit) × (Int × Int × Int × List Int × Int × Int × List Int × Unit) × Unit) :
    (den C k) cd1 Q (St4 c1) = j0 (fun (x2 : Int) => Q .ret (St1 x2)) c1 := by
  have h : ∀ (D L : DT α), denJ D L Js C cd1 Q (St4 c1) =
        (Go.Bx.paper_Check.run c1.2.2.1).bind fun y1 =>
        Q .ret (St1 y1) := by
    intro D L; kernel_rfl
  refine (show (den C k) cd1 Q (St4 c1) = denJ (den C k) (lp C k) Js C cd1 Q (St4 c1) from (denJ_den _ _ _ _ _ _).symm).trans ((h (den C k) (lp C k)).trans ?_)
  first | rfl | kernel_rfl
theorem a0 {α : Type} (k : Nat) (Q : Ex → St → Option α) (x18 : List (Int × (List Int × List Int × Int × Unit) × Unit)) (x19 : Int) (x20 : Int) (c1 : Int × List (Int × (List Int × List Int × Int × Unit) × Unit) × (Int × Int × Int × List Int × Int × Int × List Int × Unit) × Unit) :
    (lp C k) cd0 (blkQ C 0 (sq (den C k) (lp C k) Js C cd1 Q)) (St2 x18 x19 x20 c1) = l0 k (fun (x2 : Int) => (fun (x2 : Int) => Q .ret (St1 x2)) x2) (fun (c1 : Int × List (Int × (List Int × List Int × Int × Unit) × Unit) × (Int × Int × Int × List Int × Int × Int × List Int × Unit) × Unit) => j0 (fun (x2 : Int) => Q .ret (St1 x2)) c1) k x18 x19 x20 c1 :=
  (show (lp C k) cd0 (blkQ C 0 (sq (den C k) (lp C k) Js C cd1 Q)) (St2 x18 x19 x20 c1) = iter (rnd C k cd0 18 (blkQ C 0 (sq (den C k) (lp C k) Js C cd1 Q))) k (St2 x18 x19 x20 c1) by kernel_rfl).trans ((l0_eq k (blkQ C 0 (sq (den C k) (lp C k) Js C cd1 Q)) k x18 x19 x20 c1).trans (l0_congr k _ _ _ _ (fun x2 => (show (blkQ C 0 (sq (den C k) (lp C k) Js C cd1 Q)) .ret (St1 x2) = Q .ret (St1 x2) by kernel_rfl)) (fun c1 => ((show (blkQ C 0 (sq (den C k) (lp C k) Js C cd1 Q)) (.exit 0) (St3 c1) = (den C k) cd1 Q (St4 c1) by kernel_rfl).trans (by simp only [j0_eq]))) k x18 x19 x20 c1))
def top {α : Type} (k : Nat) (Rt : Int → Option α) (x0 : Int × List (Int × (List Int × List Int × Int × Unit) × Unit) × (Int × Int × Int × List Int × Int × Int × List Int × Unit) × Unit) : Option α :=
  if (cond (decide (x0.1 < 0)) true (decide (x0.1 > 4294967295))) = true then
    Rt 6
  else
    if (decide ((x0.2.1.length : Int) > 19)) = true then
      Rt 1
    else
      l0 k (fun (x2 : Int) => Rt x2) (fun (c1 : Int × List (Int × (List Int × List Int × Int × Unit) × Unit) × (Int × Int × Int × List Int × Int × Int × List Int × Unit) × Unit) => j0 Rt c1) k x0.2.1 (x0.2.1.length : Int) 0 x0
theorem top_eq {α : Type} (k : Nat) (Q : Ex → St → Option α) (x0 : Int × List (Int × (List Int × List Int × Int × Unit) × Unit) × (Int × Int × Int × List Int × Int × Int × List Int × Unit) × Unit) :
    (den C k) (cB Try.f79) Q (St0 x0) = top k (fun (x2 : Int) => Q .ret (St1 x2)) x0 := by
  have h : ∀ (D L : DT α), denJ D L Js C (cB Try.f79) Q (St0 x0) =
        if (cond (decide (x0.1 < 0)) true (decide (x0.1 > 4294967295))) = true then
          Q .ret (St1 6)
        else
          if (decide ((x0.2.1.length : Int) > 19)) = true then
            Q .ret (St1 1)
          else
            L cd0 (blkQ C 0 (sq D L Js C cd1 Q)) (St2 x0.2.1 (x0.2.1.length : Int) 0 x0) := by
    intro D L; kernel_rfl
  refine (show (den C k) (cB Try.f79) Q (St0 x0) = denJ (den C k) (lp C k) Js C (cB Try.f79) Q (St0 x0) from (denJ_den _ _ _ _ _ _).symm).trans ((h (den C k) (lp C k)).trans ?_)
  simp only [a0]
  first | rfl | kernel_rfl
def run (x0 : Int × List (Int × (List Int × List Int × Int × Unit) × Unit) × (Int × Int × Int × List Int × Int × Int × List Int × Unit) × Unit) : Option (Int) := top (α := Int) fuel (fun (x2 : Int) => some x2) x0
def F : Fn := ⟨(.pair (.pair (.int .i64) (.pair (.sl (.pair (.int .i64) (.pair (.pair (.arr 4 (.int .u64)) (.pair (.arr 4 (.int .u64)) (.pair (.int .i64) .unit))) .unit))) (.pair (.pair (.int .i64) (.pair (.int .i64) (.pair (.int .i64) (.pair (.arr 32 (.int .u8)) (.pair (.int .i64) (.pair (.int .i64) (.pair (.sl (.int .u8)) .unit))))))) .unit))) .unit), (.int .i64), false, fun x => run x.1⟩
set_option maxRecDepth 100000 in
theorem con : Con Try.prog 79 F := by
  refine con_of_den (C := C) (ctx_ok (by kernel_rfl) (by kernel_rfl) (by kernel_rfl) (by kernel_rfl) ⟨.inl ⟨Go.Bx.paper_Check.con, Go.Bx.paper_Check.named⟩, trivial⟩) (by kernel_rfl) Try.func79 (c := cB Try.f79) (by kernel_rfl) (by kernel_rfl) F fuel (fun x => by simp [F, spread, Try.ntmps79]) ?_
  intro x r h
  rw [← h]
  have h1 : start F Try.f79.ntmps x = (St0 x.1) := by kernel_rfl
  rw [h1]
  refine (top_eq fuel (fin C Try.f79.results.toList F.rs F.multi) x.1).trans ?_
  kernel_rfl
theorem named : Named Try.prog 79 := named_of Try.func79 (by kernel_rfl) (by kernel_rfl)
end Go.Bx.paper_fault
namespace Go.Bx.basculeref_PaperFault
open Go Go.Proofs Go.Bx
set_option maxRecDepth 100000
set_option linter.unusedVariables false
def Js : List Nat := [12]
def C : Ctx := ⟨[(3, (.int .i64)), (23, (.int .i64)), (74, (.sl (.pair (.int .i64) (.pair (.pair (.arr 4 (.int .u64)) (.pair (.arr 4 (.int .u64)) (.pair (.int .i64) .unit))) .unit)))), (76, (.pair (.int .i64) (.pair (.int .i64) (.pair (.int .i64) (.pair (.arr 32 (.int .u8)) (.pair (.int .i64) (.pair (.int .i64) (.pair (.sl (.int .u8)) .unit)))))))), (78, (.pair (.int .i64) (.pair (.sl (.pair (.int .i64) (.pair (.pair (.arr 4 (.int .u64)) (.pair (.arr 4 (.int .u64)) (.pair (.int .i64) .unit))) .unit))) (.pair (.pair (.int .i64) (.pair (.int .i64) (.pair (.int .i64) (.pair (.arr 32 (.int .u8)) (.pair (.int .i64) (.pair (.int .i64) (.pair (.sl (.int .u8)) .unit))))))) .unit)))), (139, (.pair (.arr 4 (.int .u64)) (.pair (.arr 4 (.int .u64)) (.pair (.int .i64) .unit)))), (141, (.pair (.int .i64) (.pair (.pair (.arr 4 (.int .u64)) (.pair (.arr 4 (.int .u64)) (.pair (.int .i64) .unit))) .unit)))], [], [], fnL [(61, Go.Bx.basculeref_upTo.F), (102, Go.Bx.basculeref_BodyFault.F)], noSh, [], invL [], [(2, [2]), (1, [1]), (4, [1, 14, 15, 16]), (18, [1, 14, 15, 16]), (33, [1])], [], [], 0, 0⟩
def St0 (x0 : Int × List (Int × (List Int × List Int × Int × Unit) × Unit) × (Int × Int × Int × List Int × Int × Int × List Int × Unit) × Unit) : St := stL 35 [(0, .data (.pair (.int .i64) (.pair (.sl (.pair (.int .i64) (.pair (.pair (.arr 4 (.int .u64)) (.pair (.arr 4 (.int .u64)) (.pair (.int .i64) .unit))) .unit))) (.pair (.pair (.int .i64) (.pair (.int .i64) (.pair (.int .i64) (.pair (.arr 32 (.int .u8)) (.pair (.int .i64) (.pair (.int .i64) (.pair (.sl (.int .u8)) .unit))))))) .unit))) x0)] []
def St1 (x2 : Int) : St := stL 35 [(2, .data (.int .i64) x2)] []
def St2 (x14 : List (Int × (List Int × List Int × Int × Unit) × Unit)) (x15 : Int) (x16 : Int) (c1 : Int × List (Int × (List Int × List Int × Int × Unit) × Unit) × (Int × Int × Int × List Int × Int × Int × List Int × Unit) × Unit) : St := stL 35 [(1, .ref 1 0 []), (14, .data (.sl (.pair (.int .i64) (.pair (.pair (.arr 4 (.int .u64)) (.pair (.arr 4 (.int .u64)) (.pair (.int .i64) .unit))) .unit))) x14), (15, .data (.int .i64) x15), (16, .data (.int .i64) x16)] [(1, .cell (.pair (.int .i64) (.pair (.sl (.pair (.int .i64) (.pair (.pair (.arr 4 (.int .u64)) (.pair (.arr 4 (.int .u64)) (.pair (.int .i64) .unit))) .unit))) (.pair (.pair (.int .i64) (.pair (.int .i64) (.pair (.int .i64) (.pair (.arr 32 (.int .u8)) (.pair (.int .i64) (.pair (.int .i64) (.pair (.sl (.int .u8)) .unit))))))) .unit))) (.data (.pair (.int .i64) (.pair (.sl (.pair (.int .i64) (.pair (.pair (.arr 4 (.int .u64)) (.pair (.arr 4 (.int .u64)) (.pair (.int .i64) .unit))) .unit))) (.pair (.pair (.int .i64) (.pair (.int .i64) (.pair (.int .i64) (.pair (.arr 32 (.int .u8)) (.pair (.int .i64) (.pair (.int .i64) (.pair (.sl (.int .u8)) .unit))))))) .unit))) c1) false)]
noncomputable def cd0 : Code := cL (cL (cR (cL (cR (cR (cR (cB Try.f84)))))))
def St3 (c1 : Int × List (Int × (List Int × List Int × Int × Unit) × Unit) × (Int × Int × Int × List Int × Int × Int × List Int × Unit) × Unit) : St := stL 35 [(1, .ref 1 0 [])] [(1, .cell (.pair (.int .i64) (.pair (.sl (.pair (.int .i64) (.pair (.pair (.arr 4 (.int .u64)) (.pair (.arr 4 (.int .u64)) (.pair (.int .i64) .unit))) .unit))) (.pair (.pair (.int .i64) (.pair (.int .i64) (.pair (.int .i64) (.pair (.arr 32 (.int .u8)) (.pair (.int .i64) (.pair (.int .i64) (.pair (.sl (.int .u8)) .unit))))))) .unit))) (.data (.pair (.int .i64) (.pair (.sl (.pair (.int .i64) (.pair (.pair (.arr 4 (.int .u64)) (.pair (.arr 4 (.int .u64)) (.pair (.int .i64) .unit))) .unit))) (.pair (.pair (.int .i64) (.pair (.int .i64) (.pair (.int .i64) (.pair (.arr 32 (.int .u8)) (.pair (.int .i64) (.pair (.int .i64) (.pair (.sl (.int .u8)) .unit))))))) .unit))) c1) false)]
def l0s {α : Type} (Nx : (List (Int × (List Int × List Int × Int × Unit) × Unit)) → Int → Int → (Int × List (Int × (List Int × List Int × Int × Unit) × Unit) × (Int × Int × Int × List Int × Int × Int × List Int × Unit) × Unit) → Option α) (Rt : Int → Option α) (Xt0 : (Int × List (Int × (List Int × List Int × Int × Unit) × Unit) × (Int × Int × Int × List Int × Int × Int × List Int × Unit) × Unit) → Option α) (x14 : List (Int × (List Int × List Int × Int × Unit) × Unit)) (x15 : Int) (x16 : Int) (c1 : Int × List (Int × (List Int × List Int × Int × Unit) × Unit) × (Int × Int × Int × List Int × Int × Int × List Int × Unit) × Unit) : Option α :=
  if (decide (x16 < x15)) = true then
    if 0 ≤ x16 ∧ x16 < (x14.length : Int) then
      (Go.Bx.basculeref_upTo.run (List.getD x14 (Int.toNat x16) (0, ([0, 0, 0, 0], [0, 0, 0, 0], 0, ()), ())).1 255).bind fun y2 =>
      (if ((not y2) == false) = true then Go.Bx.basculeref_upTo.run (List.getD x14 (Int.toNat x16) (0, ([0, 0, 0, 0], [0, 0, 0, 0], 0, ()), ())).2.1.2.2.1 255 else some false).bind fun y3 =>
      if (cond (not y2) true (not y3)) = true then
        Rt 6
      else
        Nx x14 x15 (IntKind.i64.wrap (x16 + 1)) c1
    else none
  else
    Xt0 c1
theorem l0s_eq {α : Type} (k : Nat) (next : St → Option α) (Q : Ex → St → Option α) (x14 : List (Int × (List Int × List Int × Int × Unit) × Unit)) (x15 : Int) (x16 : Int) (c1 : Int × List (Int × (List Int × List Int × Int × Unit) × Unit) × (Int × Int × Int × List Int × Int × Int × List Int × Unit) × Unit) :
    rnd C k cd0 18 Q next (St2 x14 x15 x16 c1) = l0s (fun (x14 : List (Int × (List Int × List Int × Int × Unit) × Unit)) (x15 : Int) (x16 : Int) (c1 : Int × List (Int × (List Int × List Int × Int × Unit) × Unit) × (Int × Int × Int × List Int × Int × Int × List Int × Unit) × Unit) => next (St2 x14 x15 x16 c1)) (fun (x2 : Int) => Q .ret (St1 x2)) (fun (c1 : Int × List (Int × (List Int × List Int × Int × Unit) × Unit) × (Int × Int × Int × List Int × Int × Int × List Int × Unit) × Unit) => Q (.exit 0) (St3 c1)) x14 x15 x16 c1 := by
  have h : ∀ (D L : DT α), denJ D L Js C cd0 (lq C 18 next Q) (St2 x14 x15 x16 c1) =
        if (decide (x16 < x15)) = true then
          if 0 ≤ x16 ∧ x16 < (x14.length : Int) then
            (Go.Bx.basculeref_upTo.run (List.getD x14 (Int.toNat x16) (0, ([0, 0, 0, 0], [0, 0, 0, 0], 0, ()), ())).1 255).bind fun y2 =>
            (if ((not y2) == false) = true then Go.Bx.basculeref_upTo.run (List.getD x14 (Int.toNat x16) (0, ([0, 0, 0, 0], [0, 0, 0, 0], 0, ()), ())).2.1.2.2.1 255 else some false).bind fun y3 =>
            if (cond (not y2) true (not y3)) = true then
              Q .ret (St1 6)
            else
              next (St2 x14 x15 (IntKind.i64.wrap (x16 + 1)) c1)
          else none
        else
          Q (.exit 0) (St3 c1) := by
    intro D L; kernel_rfl
  refine (show rnd C k cd0 18 Q next (St2 x14 x15 x16 c1) = denJ (den C k) (lp C k) Js C cd0 (lq C 18 next Q) (St2 x14 x15 x16 c1) from (denJ_den _ _ _ _ _ _).symm).trans ((h (den C k) (lp C k)).trans ?_)
  first | rfl | kernel_rfl
def l0 {α : Type} (k : Nat) (Rt : Int → Option α) (Xt0 : (Int × List (Int × (List Int × List Int × Int × Unit) × Unit) × (Int × Int × Int × List Int × Int × Int × List Int × Unit) × Unit) → Option α) : Nat → (List (Int × (List Int × List Int × Int × Unit) × Unit)) → Int → Int → (Int × List (Int × (List Int × List Int × Int × Unit) × Unit) × (Int × Int × Int × List Int × Int × Int × List Int × Unit) × Unit) → Option α
  | 0, _, _, _, _ => none
  | n + 1, x14, x15, x16, c1 => l0s (l0 k Rt Xt0 n) Rt Xt0 x14 x15 x16 c1
theorem l0_eq {α : Type} (k : Nat) (Q : Ex → St → Option α) : ∀ (n : Nat) (x14 : List (Int × (List Int × List Int × Int × Unit) × Unit)) (x15 : Int) (x16 : Int) (c1 : Int × List (Int × (List Int × List Int × Int × Unit) × Unit) × (Int × Int × Int × List Int × Int × Int × List Int × Unit) × Unit), iter (rnd C k cd0 18 Q) n (St2 x14 x15 x16 c1) = l0 k (fun (x2 : Int) => Q .ret (St1 x2)) (fun (c1 : Int × List (Int × (List Int × List Int × Int × Unit) × Unit) × (Int × Int × Int × List Int × Int × Int × List Int × Unit) × Unit) => Q (.exit 0) (St3 c1)) n x14 x15 x16 c1
  | 0, _, _, _, _ => rfl
  | n + 1, x14, x15, x16, c1 => (iter_succ _ _ _).trans ((l0s_eq k (iter (rnd C k cd0 18 Q) n) Q x14 x15 x16 c1).trans (congrArg (fun N => l0s N (fun (x2 : Int) => Q .ret (St1 x2)) (fun (c1 : Int × List (Int × (List Int × List Int × Int × Unit) × Unit) × (Int × Int × Int × List Int × Int × Int × List Int × Unit) × Unit) => Q (.exit 0) (St3 c1)) x14 x15 x16 c1) (funext fun x14 => funext fun x15 => funext fun x16 => funext fun c1 => l0_eq k Q n x14 x15 x16 c1)))
theorem l0_congr {α : Type} (k : Nat) (Rt : Int → Option α) (Xt0 : (Int × List (Int × (List Int × List Int × Int × Unit) × Unit) × (Int × Int × Int × List Int × Int × Int × List Int × Unit) × Unit) → Option α) (Rtq : Int → Option α) (Xt0q : (Int × List (Int × (List Int × List Int × Int × Unit) × Unit) × (Int × Int × Int × List Int × Int × Int × List Int × Unit) × Unit) → Option α) (hRt : ∀ (x2 : Int), Rt x2 = Rtq x2) (hXt0 : ∀ (c1 : Int × List (Int × (List Int × List Int × Int × Unit) × Unit) × (Int × Int × Int × List Int × Int × Int × List Int × Unit) × Unit), Xt0 c1 = Xt0q c1) (n : Nat) (x14 : List (Int × (List Int × List Int × Int × Unit) × Unit)) (x15 : Int) (x16 : Int) (c1 : Int × List (Int × (List Int × List Int × Int × Unit) × Unit) × (Int × Int × Int × List Int × Int × Int × List Int × Unit) × Unit) : l0 k Rt Xt0 n x14 x15 x16 c1 = l0 k Rtq Xt0q n x14 x15 x16 c1 := by
  obtain rfl : Rt = Rtq := by funext x2; exact hRt x2
  obtain rfl : Xt0 = Xt0q := by funext c1; exact hXt0 c1
  rfl
noncomputable def cd1 : Code := cR (cR (cR (cR (cB Try.f84))))
def St4 (c1 : Int × List (Int × (List Int × List Int × Int × Unit) × Unit) × (Int × Int × Int × List Int × Int × Int × List Int × Unit) × Unit) : St := stL 35 [(1, .ref 1 0 [])] [(1, .cell (.pair (.int .i64) (.pair (.sl (.pair (.int .i64) (.pair (.pair (.arr 4 (.int .u64)) (.pair (.arr 4 (.int .u64)) (.pair (.int .i64) .unit))) .unit))) (.pair (.pair (.int .i64) (.pair (.int .i64) (.pair (.int .i64) (.pair (.arr 32 (.int .u8)) (.pair (.int .i64) (.pair (.int .i64) (.pair (.sl (.int .u8)) .unit))))))) .unit))) (.data (.pair (.int .i64) (.pair (.sl (.pair (.int .i64) (.pair (.pair (.arr 4 (.int .u64)) (.pair (.arr 4 (.int .u64)) (.pair (.int .i64) .unit))) .unit))) (.pair (.pair (.int .i64) (.pair (.int .i64) (.pair (.int .i64) (.pair (.arr 32 (.int .u8)) (.pair (.int .i64) (.pair (.int .i64) (.pair (.sl (.int .u8)) .unit))))))) .unit))) c1) false)]
def j0 {α : Type} (Rt : Int → Option α) (c1 : Int × List (Int × (List Int × List Int × Int × Unit) × Unit) × (Int × Int × Int × List Int × Int × Int × List Int × Unit) × Unit) : Option α :=
  (Go.Bx.basculeref_BodyFault.run c1.2.2.1).bind fun y4 =>
  Rt y4
theorem j0_eq {α : Type} (k : Nat) (Q : Ex → St → Option α) (c1 : Int × List (Int × (List Int × List Int × Int × Unit) × Unit) × (Int × Int × Int × List Int × Int × Int × List Int × Unit) × Unit) :
    (den C k) cd1 Q (St4 c1) = j0 (fun (x2 : Int) => Q .ret (St1 x2)) c1 := by
  have h : ∀ (D L : DT α), denJ D L Js C cd1 Q (St4 c1) =
        (Go.Bx.basculeref_BodyFault.run c1.2.2.1).bind fun y4 =>
        Q .ret (St1 y4) := by
    intro D L; kernel_rfl
  refine (show (den C k) cd1 Q (St4 c1) = denJ (den C k) (lp C k) Js C cd1 Q (St4 c1) from (denJ_den _ _ _ _ _ _).symm).trans ((h (den C k) (lp C k)).trans ?_)
  first | rfl | kernel_rfl
theorem a0 {α : Type} (k : Nat) (Q : Ex → St → Option α) (x14 : List (Int × (List Int × List Int × Int × Unit) × Unit)) (x15 : Int) (x16 : Int) (c1 : Int × List (Int × (List Int × List Int × Int × Unit) × Unit) × (Int × Int × Int × List Int × Int × Int × List Int × Unit) × Unit) :
    (lp C k) cd0 (blkQ C 0 (sq (den C k) (lp C k) Js C cd1 Q)) (St2 x14 x15 x16 c1) = l0 k (fun (x2 : Int) => (fun (x2 : Int) => Q .ret (St1 x2)) x2) (fun (c1 : Int × List (Int × (List Int × List Int × Int × Unit) × Unit) × (Int × Int × Int × List Int × Int × Int × List Int × Unit) × Unit) => j0 (fun (x2 : Int) => Q .ret (St1 x2)) c1) k x14 x15 x16 c1 :=
  (show (lp C k) cd0 (blkQ C 0 (sq (den C k) (lp C k) Js C cd1 Q)) (St2 x14 x15 x16 c1) = iter (rnd C k cd0 18 (blkQ C 0 (sq (den C k) (lp C k) Js C cd1 Q))) k (St2 x14 x15 x16 c1) by kernel_rfl).trans ((l0_eq k (blkQ C 0 (sq (den C k) (lp C k) Js C cd1 Q)) k x14 x15 x16 c1).trans (l0_congr k _ _ _ _ (fun x2 => (show (blkQ C 0 (sq (den C k) (lp C k) Js C cd1 Q)) .ret (St1 x2) = Q .ret (St1 x2) by kernel_rfl)) (fun c1 => ((show (blkQ C 0 (sq (den C k) (lp C k) Js C cd1 Q)) (.exit 0) (St3 c1) = (den C k) cd1 Q (St4 c1) by kernel_rfl).trans (by simp only [j0_eq]))) k x14 x15 x16 c1))
def top {α : Type} (k : Nat) (Rt : Int → Option α) (x0 : Int × List (Int × (List Int × List Int × Int × Unit) × Unit) × (Int × Int × Int × List Int × Int × Int × List Int × Unit) × Unit) : Option α :=
  (Go.Bx.basculeref_upTo.run x0.1 4294967295).bind fun y1 =>
  if (not y1) = true then
    Rt 6
  else
    if (decide ((x0.2.1.length : Int) > 19)) = true then
      Rt 1
    else
      l0 k (fun (x2 : Int) => Rt x2) (fun (c1 : Int × List (Int × (List Int × List Int × Int × Unit) × Unit) × (Int × Int × Int × List Int × Int × Int × List Int × Unit) × Unit) => j0 Rt c1) k x0.2.1 (x0.2.1.length : Int) 0 x0
theorem top_eq {α : Type} (k : Nat) (Q : Ex → St → Option α) (x0 : Int × List (Int × (List Int × List Int × Int × Unit) × Unit) × (Int × Int × Int × List Int × Int × Int × List Int × Unit) × Unit) :
    (den C k) (cB Try.f84) Q (St0 x0) = top k (fun (x2 : Int) => Q .ret (St1 x2)) x0 := by
  have h : ∀ (D L : DT α), denJ D L Js C (cB Try.f84) Q (St0 x0) =
        (Go.Bx.basculeref_upTo.run x0.1 4294967295).bind fun y1 =>
        if (not y1) = true then
          Q .ret (St1 6)
        else
          if (decide ((x0.2.1.length : Int) > 19)) = true then
            Q .ret (St1 1)
          else
            L cd0 (blkQ C 0 (sq D L Js C cd1 Q)) (St2 x0.2.1 (x0.2.1.length : Int) 0 x0) := by
    intro D L; kernel_rfl
  refine (show (den C k) (cB Try.f84) Q (St0 x0) = denJ (den C k) (lp C k) Js C (cB Try.f84) Q (St0 x0) from (denJ_den _ _ _ _ _ _).symm).trans ((h (den C k) (lp C k)).trans ?_)
  simp only [a0]
  first | rfl | kernel_rfl
def run (x0 : Int × List (Int × (List Int × List Int × Int × Unit) × Unit) × (Int × Int × Int × List Int × Int × Int × List Int × Unit) × Unit) : Option (Int) := top (α := Int) fuel (fun (x2 : Int) => some x2) x0
def F : Fn := ⟨(.pair (.pair (.int .i64) (.pair (.sl (.pair (.int .i64) (.pair (.pair (.arr 4 (.int .u64)) (.pair (.arr 4 (.int .u64)) (.pair (.int .i64) .unit))) .unit))) (.pair (.pair (.int .i64) (.pair (.int .i64) (.pair (.int .i64) (.pair (.arr 32 (.int .u8)) (.pair (.int .i64) (.pair (.int .i64) (.pair (.sl (.int .u8)) .unit))))))) .unit))) .unit), (.int .i64), false, fun x => run x.1⟩
set_option maxRecDepth 100000 in
theorem con : Con Try.prog 84 F := by
  refine con_of_den (C := C) (ctx_ok (by kernel_rfl) (by kernel_rfl) (by kernel_rfl) (by kernel_rfl) ⟨.inl ⟨Go.Bx.basculeref_upTo.con, Go.Bx.basculeref_upTo.named⟩, ⟨.inl ⟨Go.Bx.basculeref_BodyFault.con, Go.Bx.basculeref_BodyFault.named⟩, trivial⟩⟩) (by kernel_rfl) Try.func84 (c := cB Try.f84) (by kernel_rfl) (by kernel_rfl) F fuel (fun x => by simp [F, spread, Try.ntmps84]) ?_
  intro x r h
  rw [← h]
  have h1 : start F Try.f84.ntmps x = (St0 x.1) := by kernel_rfl
  rw [h1]
  refine (top_eq fuel (fin C Try.f84.results.toList F.rs F.multi) x.1).trans ?_
  kernel_rfl
theorem named : Named Try.prog 84 := named_of Try.func84 (by kernel_rfl) (by kernel_rfl)
end Go.Bx.basculeref_PaperFault
namespace Go.Bx.paper_pen__number_s1
open Go Go.Proofs Go.Bx
set_option maxRecDepth 100000
set_option linter.unusedVariables false
def Js : List Nat := []
def C : Ctx := ⟨[(3, (.int .i64)), (5, (.int .u8)), (59, (.sl (.int .u8))), (136, (.pair (.sl (.int .u8)) .unit))], [], [], fnL [], noSh, [], invL [], [(2, []), (1, []), (4, [0, 1, 6]), (3, [0, 1, 6])], [(3, [.melt false 0 [0] 24 true])], [], 1, 0⟩
def St0 (x1 : Int) (x2 : Int) (c0p0 : List Int) : St := stL 27 [(0, .ref 0 0 []), (1, .data (.int .i64) x1), (2, .data (.int .i64) x2)] [(0, .cell (.pair (.sl (.int .u8)) .unit) (.agg (.pair (.sl (.int .u8)) .unit) [.full (.int .u8) c0p0]) false)]
def St1 (x1 : Int) (x6 : Int) (c25 : List Int) : St := stL 27 [(0, .ref 0 0 []), (1, .data (.int .i64) x1), (6, .data (.int .i64) x6)] [(0, .cell (.pair (.sl (.int .u8)) .unit) (.agg (.pair (.sl (.int .u8)) .unit) [.app 25 0]) false), (25, .buf (.int .u8) c25 0 true)]
noncomputable def cd0 : Code := cL (cL (cR (cB Try.f80)))
def St2 (c25 : List Int) : St := stL 27 [] [(0, .cell (.pair (.sl (.int .u8)) .unit) (.agg (.pair (.sl (.int .u8)) .unit) [.app 25 0]) false), (25, .buf (.int .u8) c25 0 true)]
def l0s {α : Type} (Nx : Int → Int → (List Int) → Option α) (Xt0 : (List Int) → Option α) (x1 : Int) (x6 : Int) (c25 : List Int) : Option α :=
  if (decide (x6 ≥ 0)) = true then
    if 0 ≤ (IntKind.i64.wrap (8 * x6)) then
      if fitB (c25.length + 1) 1 = true then
        Nx x1 (IntKind.i64.wrap (x6 - 1)) (c25 ++ [(IntKind.u8.wrap (shrI .i64 x1 (IntKind.i64.wrap (8 * x6))))])
      else none
    else none
  else
    Xt0 c25
theorem l0s_eq {α : Type} (k : Nat) (next : St → Option α) (Q : Ex → St → Option α) (x1 : Int) (x6 : Int) (c25 : List Int) :
    rnd C k cd0 3 Q next (St1 x1 x6 c25) = l0s (fun (x1 : Int) (x6 : Int) (c25 : List Int) => next (St1 x1 x6 c25)) (fun (c25 : List Int) => Q (.exit 0) (St2 c25)) x1 x6 c25 := by
  have h : ∀ (D L : DT α), denJ D L Js C cd0 (lq C 3 next Q) (St1 x1 x6 c25) =
        if (decide (x6 ≥ 0)) = true then
          if 0 ≤ (IntKind.i64.wrap (8 * x6)) then
            if fitB (c25.length + 1) 1 = true then
              next (St1 x1 (IntKind.i64.wrap (x6 - 1)) (c25 ++ [(IntKind.u8.wrap (shrI .i64 x1 (IntKind.i64.wrap (8 * x6))))]))
            else none
          else none
        else
          Q (.exit 0) (St2 c25) := by
    intro D L; kernel_rfl
  refine (show rnd C k cd0 3 Q next (St1 x1 x6 c25) = denJ (den C k) (lp C k) Js C cd0 (lq C 3 next Q) (St1 x1 x6 c25) from (denJ_den _ _ _ _ _ _).symm).trans ((h (den C k) (lp C k)).trans ?_)
  first | rfl | kernel_rfl
def l0 {α : Type} (k : Nat) (Xt0 : (List Int) → Option α) : Nat → Int → Int → (List Int) → Option α
  | 0, _, _, _ => none
  | n + 1, x1, x6, c25 => l0s (l0 k Xt0 n) Xt0 x1 x6 c25
theorem l0_eq {α : Type} (k : Nat) (Q : Ex → St → Option α) : ∀ (n : Nat) (x1 : Int) (x6 : Int) (c25 : List Int), iter (rnd C k cd0 3 Q) n (St1 x1 x6 c25) = l0 k (fun (c25 : List Int) => Q (.exit 0) (St2 c25)) n x1 x6 c25
  | 0, _, _, _ => rfl
  | n + 1, x1, x6, c25 => (iter_succ _ _ _).trans ((l0s_eq k (iter (rnd C k cd0 3 Q) n) Q x1 x6 c25).trans (congrArg (fun N => l0s N (fun (c25 : List Int) => Q (.exit 0) (St2 c25)) x1 x6 c25) (funext fun x1 => funext fun x6 => funext fun c25 => l0_eq k Q n x1 x6 c25)))
theorem l0_congr {α : Type} (k : Nat) (Xt0 : (List Int) → Option α) (Xt0q : (List Int) → Option α) (hXt0 : ∀ (c25 : List Int), Xt0 c25 = Xt0q c25) (n : Nat) (x1 : Int) (x6 : Int) (c25 : List Int) : l0 k Xt0 n x1 x6 c25 = l0 k Xt0q n x1 x6 c25 := by
  obtain rfl : Xt0 = Xt0q := by funext c25; exact hXt0 c25
  rfl
def St3 (c25 : List Int) : St := stL 27 [] [(0, .cell (.pair (.sl (.int .u8)) .unit) (.agg (.pair (.sl (.int .u8)) .unit) [.app 25 0]) false), (25, .buf (.int .u8) c25 0 true)]
theorem a0 {α : Type} (k : Nat) (Q : Ex → St → Option α) (x1 : Int) (x6 : Int) (c25 : List Int) :
    (lp C k) cd0 (blkQ C 0 (endQ C Q)) (St1 x1 x6 c25) = l0 k (fun (c25 : List Int) => (fun (c25 : List Int) => Q .ret (St3 c25)) c25) k x1 x6 c25 :=
  (show (lp C k) cd0 (blkQ C 0 (endQ C Q)) (St1 x1 x6 c25) = iter (rnd C k cd0 3 (blkQ C 0 (endQ C Q))) k (St1 x1 x6 c25) by kernel_rfl).trans ((l0_eq k (blkQ C 0 (endQ C Q)) k x1 x6 c25).trans (l0_congr k _ _ (fun c25 => (show (blkQ C 0 (endQ C Q)) (.exit 0) (St2 c25) = Q .ret (St3 c25) by kernel_rfl)) k x1 x6 c25))
def top {α : Type} (k : Nat) (Rt : (List Int) → Option α) (x1 : Int) (x2 : Int) (c0p0 : List Int) : Option α :=
  l0 k (fun (c25 : List Int) => Rt c25) k x1 (IntKind.i64.wrap (x2 - 1)) c0p0
theorem top_eq {α : Type} (k : Nat) (Q : Ex → St → Option α) (x1 : Int) (x2 : Int) (c0p0 : List Int) :
    (den C k) (cB Try.f80) (endQ C Q) (St0 x1 x2 c0p0) = top k (fun (c25 : List Int) => Q .ret (St3 c25)) x1 x2 c0p0 := by
  have h : ∀ (D L : DT α), denJ D L Js C (cB Try.f80) (endQ C Q) (St0 x1 x2 c0p0) =
        L cd0 (blkQ C 0 (endQ C Q)) (St1 x1 (IntKind.i64.wrap (x2 - 1)) c0p0) := by
    intro D L; kernel_rfl
  refine (show (den C k) (cB Try.f80) (endQ C Q) (St0 x1 x2 c0p0) = denJ (den C k) (lp C k) Js C (cB Try.f80) (endQ C Q) (St0 x1 x2 c0p0) from (denJ_den _ _ _ _ _ _).symm).trans ((h (den C k) (lp C k)).trans ?_)
  simp only [a0]
  first | rfl | kernel_rfl
def run (x1 : Int) (x2 : Int) (c0p0 : List Int) : Option (List Int × Unit) := top (α := List Int × Unit) fuel (fun (c25 : List Int) => some (c25, ())) x1 x2 c0p0
def Sp : Spec := ⟨[.ref 0 0 [], hD (.int .i64), hD (.int .i64)], [(0, hC (.pair (.sl (.int .u8)) .unit) (.agg (.pair (.sl (.int .u8)) .unit) [hF (.int .u8)]) false)], (.pair (.int .i64) (.pair (.int .i64) (.pair (.sl (.int .u8)) .unit))), .tup [], [(0, hC (.pair (.sl (.int .u8)) .unit) (.agg (.pair (.sl (.int .u8)) .unit) [.app 25 0]) false), (25, hB (.int .u8) 0 true)], (.pair (.sl (.int .u8)) .unit), fun x => run x.1 x.2.1 x.2.2.1⟩
set_option maxRecDepth 100000 in
theorem sok : SOk Try.prog 80 Sp.h := by
  refine sok_of_den (C := C) (ctx_ok (by kernel_rfl) (by kernel_rfl) (by kernel_rfl) (by kernel_rfl) trivial) (by kernel_rfl) Try.func80 (c := cB Try.f80) (by kernel_rfl) (by kernel_rfl) Sp fuel (by kernel_rfl) (by kernel_rfl) ?_
  intro x r h
  rw [← h]
  have h1 : Sp.start x Try.f80.ntmps = (St0 x.1 x.2.1 x.2.2.1) := by kernel_rfl
  rw [h1]
  refine (top_eq fuel (finS C Try.f80.results.toList Sp.read) x.1 x.2.1 x.2.2.1).trans ?_
  kernel_rfl
theorem named : Named Try.prog 80 := named_of Try.func80 (by kernel_rfl) (by kernel_rfl)
end Go.Bx.paper_pen__number_s1
namespace Go.Bx.paper_pen__number_s2
open Go Go.Proofs Go.Bx
set_option maxRecDepth 100000
set_option linter.unusedVariables false
def Js : List Nat := []
def C : Ctx := ⟨[(3, (.int .i64)), (5, (.int .u8)), (59, (.sl (.int .u8))), (136, (.pair (.sl (.int .u8)) .unit))], [], [], fnL [], noSh, [], invL [], [(2, []), (1, []), (4, [0, 1, 6]), (3, [0, 1, 6])], [], [], 2, 0⟩
def St0 (x1 : Int) (x2 : Int) (c1 : List Int) : St := stL 27 [(0, .ref 0 0 []), (1, .data (.int .i64) x1), (2, .data (.int .i64) x2)] [(0, .cell (.pair (.sl (.int .u8)) .unit) (.agg (.pair (.sl (.int .u8)) .unit) [.app 1 0]) false), (1, .buf (.int .u8) c1 0 true)]
def St1 (x1 : Int) (x6 : Int) (c1 : List Int) : St := stL 27 [(0, .ref 0 0 []), (1, .data (.int .i64) x1), (6, .data (.int .i64) x6)] [(0, .cell (.pair (.sl (.int .u8)) .unit) (.agg (.pair (.sl (.int .u8)) .unit) [.app 1 1]) false), (1, .buf (.int .u8) c1 1 true)]
noncomputable def cd0 : Code := cL (cL (cR (cB Try.f80)))
def St2 (c1 : List Int) : St := stL 27 [] [(0, .cell (.pair (.sl (.int .u8)) .unit) (.agg (.pair (.sl (.int .u8)) .unit) [.app 1 1]) false), (1, .buf (.int .u8) c1 1 true)]
def l0s {α : Type} (Nx : Int → Int → (List Int) → Option α) (Xt0 : (List Int) → Option α) (x1 : Int) (x6 : Int) (c1 : List Int) : Option α :=
  if (decide (x6 ≥ 0)) = true then
    if 0 ≤ (IntKind.i64.wrap (8 * x6)) then
      if fitB (c1.length + 1) 1 = true then
        Nx x1 (IntKind.i64.wrap (x6 - 1)) (c1 ++ [(IntKind.u8.wrap (shrI .i64 x1 (IntKind.i64.wrap (8 * x6))))])
      else none
    else none
  else
    Xt0 c1
theorem l0s_eq {α : Type} (k : Nat) (next : St → Option α) (Q : Ex → St → Option α) (x1 : Int) (x6 : Int) (c1 : List Int) :
    rnd C k cd0 3 Q next (St1 x1 x6 c1) = l0s (fun (x1 : Int) (x6 : Int) (c1 : List Int) => next (St1 x1 x6 c1)) (fun (c1 : List Int) => Q (.exit 0) (St2 c1)) x1 x6 c1 := by
  have h : ∀ (D L : DT α), denJ D L Js C cd0 (lq C 3 next Q) (St1 x1 x6 c1) =
        if (decide (x6 ≥ 0)) = true then
          if 0 ≤ (IntKind.i64.wrap (8 * x6)) then
            if fitB (c1.length + 1) 1 = true then
              next (St1 x1 (IntKind.i64.wrap (x6 - 1)) (c1 ++ [(IntKind.u8.wrap (shrI .i64 x1 (IntKind.i64.wrap (8 * x6))))]))
            else none
          else none
        else
          Q (.exit 0) (St2 c1) := by
    intro D L; kernel_rfl
  refine (show rnd C k cd0 3 Q next (St1 x1 x6 c1) = denJ (den C k) (lp C k) Js C cd0 (lq C 3 next Q) (St1 x1 x6 c1) from (denJ_den _ _ _ _ _ _).symm).trans ((h (den C k) (lp C k)).trans ?_)
  first | rfl | kernel_rfl
def l0 {α : Type} (k : Nat) (Xt0 : (List Int) → Option α) : Nat → Int → Int → (List Int) → Option α
  | 0, _, _, _ => none
  | n + 1, x1, x6, c1 => l0s (l0 k Xt0 n) Xt0 x1 x6 c1
theorem l0_eq {α : Type} (k : Nat) (Q : Ex → St → Option α) : ∀ (n : Nat) (x1 : Int) (x6 : Int) (c1 : List Int), iter (rnd C k cd0 3 Q) n (St1 x1 x6 c1) = l0 k (fun (c1 : List Int) => Q (.exit 0) (St2 c1)) n x1 x6 c1
  | 0, _, _, _ => rfl
  | n + 1, x1, x6, c1 => (iter_succ _ _ _).trans ((l0s_eq k (iter (rnd C k cd0 3 Q) n) Q x1 x6 c1).trans (congrArg (fun N => l0s N (fun (c1 : List Int) => Q (.exit 0) (St2 c1)) x1 x6 c1) (funext fun x1 => funext fun x6 => funext fun c1 => l0_eq k Q n x1 x6 c1)))
theorem l0_congr {α : Type} (k : Nat) (Xt0 : (List Int) → Option α) (Xt0q : (List Int) → Option α) (hXt0 : ∀ (c1 : List Int), Xt0 c1 = Xt0q c1) (n : Nat) (x1 : Int) (x6 : Int) (c1 : List Int) : l0 k Xt0 n x1 x6 c1 = l0 k Xt0q n x1 x6 c1 := by
  obtain rfl : Xt0 = Xt0q := by funext c1; exact hXt0 c1
  rfl
def St3 (c1 : List Int) : St := stL 27 [] [(0, .cell (.pair (.sl (.int .u8)) .unit) (.agg (.pair (.sl (.int .u8)) .unit) [.app 1 1]) false), (1, .buf (.int .u8) c1 1 true)]
theorem a0 {α : Type} (k : Nat) (Q : Ex → St → Option α) (x1 : Int) (x6 : Int) (c1 : List Int) :
    (lp C k) cd0 (blkQ C 0 (endQ C Q)) (St1 x1 x6 c1) = l0 k (fun (c1 : List Int) => (fun (c1 : List Int) => Q .ret (St3 c1)) c1) k x1 x6 c1 :=
  (show (lp C k) cd0 (blkQ C 0 (endQ C Q)) (St1 x1 x6 c1) = iter (rnd C k cd0 3 (blkQ C 0 (endQ C Q))) k (St1 x1 x6 c1) by kernel_rfl).trans ((l0_eq k (blkQ C 0 (endQ C Q)) k x1 x6 c1).trans (l0_congr k _ _ (fun c1 => (show (blkQ C 0 (endQ C Q)) (.exit 0) (St2 c1) = Q .ret (St3 c1) by kernel_rfl)) k x1 x6 c1))
def top {α : Type} (k : Nat) (Rt : (List Int) → Option α) (x1 : Int) (x2 : Int) (c1 : List Int) : Option α :=
  l0 k (fun (c1 : List Int) => Rt c1) k x1 (IntKind.i64.wrap (x2 - 1)) c1
theorem top_eq {α : Type} (k : Nat) (Q : Ex → St → Option α) (x1 : Int) (x2 : Int) (c1 : List Int) :
    (den C k) (cB Try.f80) (endQ C Q) (St0 x1 x2 c1) = top k (fun (c1 : List Int) => Q .ret (St3 c1)) x1 x2 c1 := by
  have h : ∀ (D L : DT α), denJ D L Js C (cB Try.f80) (endQ C Q) (St0 x1 x2 c1) =
        L cd0 (blkQ C 0 (endQ C Q)) (St1 x1 (IntKind.i64.wrap (x2 - 1)) c1) := by
    intro D L; kernel_rfl
  refine (show (den C k) (cB Try.f80) (endQ C Q) (St0 x1 x2 c1) = denJ (den C k) (lp C k) Js C (cB Try.f80) (endQ C Q) (St0 x1 x2 c1) from (denJ_den _ _ _ _ _ _).symm).trans ((h (den C k) (lp C k)).trans ?_)
  simp only [a0]
  first | rfl | kernel_rfl
def run (x1 : Int) (x2 : Int) (c1 : List Int) : Option (List Int × Unit) := top (α := List Int × Unit) fuel (fun (c1 : List Int) => some (c1, ())) x1 x2 c1
def Sp : Spec := ⟨[.ref 0 0 [], hD (.int .i64), hD (.int .i64)], [(0, hC (.pair (.sl (.int .u8)) .unit) (.agg (.pair (.sl (.int .u8)) .unit) [.app 1 0]) false), (1, hB (.int .u8) 0 true)], (.pair (.int .i64) (.pair (.int .i64) (.pair (.sl (.int .u8)) .unit))), .tup [], [(0, hC (.pair (.sl (.int .u8)) .unit) (.agg (.pair (.sl (.int .u8)) .unit) [.app 1 1]) false), (1, hB (.int .u8) 1 true)], (.pair (.sl (.int .u8)) .unit), fun x => run x.1 x.2.1 x.2.2.1⟩
set_option maxRecDepth 100000 in
theorem sok : SOk Try.prog 80 Sp.h := by
  refine sok_of_den (C := C) (ctx_ok (by kernel_rfl) (by kernel_rfl) (by kernel_rfl) (by kernel_rfl) trivial) (by kernel_rfl) Try.func80 (c := cB Try.f80) (by kernel_rfl) (by kernel_rfl) Sp fuel (by kernel_rfl) (by kernel_rfl) ?_
  intro x r h
  rw [← h]
  have h1 : Sp.start x Try.f80.ntmps = (St0 x.1 x.2.1 x.2.2.1) := by kernel_rfl
  rw [h1]
  refine (top_eq fuel (finS C Try.f80.results.toList Sp.read) x.1 x.2.1 x.2.2.1).trans ?_
  kernel_rfl
theorem named : Named Try.prog 80 := named_of Try.func80 (by kernel_rfl) (by kernel_rfl)
end Go.Bx.paper_pen__number_s2
namespace Go.Bx.paper_pen__bytes_s0
open Go Go.Proofs Go.Bx
set_option maxRecDepth 100000
set_option linter.unusedVariables false
def Js : List Nat := []
def C : Ctx := ⟨[(59, (.sl (.int .u8))), (136, (.pair (.sl (.int .u8)) .unit))], [], [], fnL [], noSh, [], invL [], [(2, [])], [], [], 3, 0⟩
def St0 (x1l : Int) (x1h : Int) (c1 : List Int) (c2 : List Int) : St := stL 13 [(0, .ref 0 0 []), (1, .view 1 [] (.int .u8) 32 x1l x1h)] [(0, .cell (.pair (.sl (.int .u8)) .unit) (.agg (.pair (.sl (.int .u8)) .unit) [.app 2 0]) false), (1, .cell (.arr 32 (.int .u8)) (.data (.arr 32 (.int .u8)) c1) false), (2, .buf (.int .u8) c2 0 true)]
def St1 (c1 : List Int) (c2 : List Int) : St := stL 13 [] [(0, .cell (.pair (.sl (.int .u8)) .unit) (.agg (.pair (.sl (.int .u8)) .unit) [.app 2 1]) false), (1, .cell (.arr 32 (.int .u8)) (.data (.arr 32 (.int .u8)) c1) false), (2, .buf (.int .u8) c2 1 true)]
def top {α : Type} (Rt : (List Int) → (List Int) → Option α) (x1l : Int) (x1h : Int) (c1 : List Int) (c2 : List Int) : Option α :=
  if fitB (c2.length + (cutL c1 x1l x1h).length) 1 = true then
    Rt c1 (c2 ++ (cutL c1 x1l x1h))
  else none
theorem top_eq {α : Type} (k : Nat) (Q : Ex → St → Option α) (x1l : Int) (x1h : Int) (c1 : List Int) (c2 : List Int) :
    (den C k) (cB Try.f82) (endQ C Q) (St0 x1l x1h c1 c2) = top (fun (c1 : List Int) (c2 : List Int) => Q .ret (St1 c1 c2)) x1l x1h c1 c2 := by
  have h : ∀ (D L : DT α), denJ D L Js C (cB Try.f82) (endQ C Q) (St0 x1l x1h c1 c2) =
        if fitB (c2.length + (cutL c1 x1l x1h).length) 1 = true then
          Q .ret (St1 c1 (c2 ++ (cutL c1 x1l x1h)))
        else none := by
    intro D L; kernel_rfl
  refine (show (den C k) (cB Try.f82) (endQ C Q) (St0 x1l x1h c1 c2) = denJ (den C k) (lp C k) Js C (cB Try.f82) (endQ C Q) (St0 x1l x1h c1 c2) from (denJ_den _ _ _ _ _ _).symm).trans ((h (den C k) (lp C k)).trans ?_)
  first | rfl | kernel_rfl
def run (x1l : Int) (x1h : Int) (c1 : List Int) (c2 : List Int) : Option (List Int × List Int × Unit) := top (α := List Int × List Int × Unit) (fun (c1 : List Int) (c2 : List Int) => some (c1, c2, ())) x1l x1h c1 c2
def Sp : Spec := ⟨[.ref 0 0 [], hW 1 [] (.int .u8) 32], [(0, hC (.pair (.sl (.int .u8)) .unit) (.agg (.pair (.sl (.int .u8)) .unit) [.app 2 0]) false), (1, hC (.arr 32 (.int .u8)) (hD (.arr 32 (.int .u8))) false), (2, hB (.int .u8) 0 true)], (.pair (.int .i64) (.pair (.int .i64) (.pair (.arr 32 (.int .u8)) (.pair (.sl (.int .u8)) .unit)))), .tup [], [(0, hC (.pair (.sl (.int .u8)) .unit) (.agg (.pair (.sl (.int .u8)) .unit) [.app 2 1]) false), (1, hC (.arr 32 (.int .u8)) (hD (.arr 32 (.int .u8))) false), (2, hB (.int .u8) 1 true)], (.pair (.arr 32 (.int .u8)) (.pair (.sl (.int .u8)) .unit)), fun x => run x.1 x.2.1 x.2.2.1 x.2.2.2.1⟩
set_option maxRecDepth 100000 in
theorem sok : SOk Try.prog 82 Sp.h := by
  refine sok_of_den (C := C) (ctx_ok (by kernel_rfl) (by kernel_rfl) (by kernel_rfl) (by kernel_rfl) trivial) (by kernel_rfl) Try.func82 (c := cB Try.f82) (by kernel_rfl) (by kernel_rfl) Sp fuel (by kernel_rfl) (by kernel_rfl) ?_
  intro x r h
  rw [← h]
  have h1 : Sp.start x Try.f82.ntmps = (St0 x.1 x.2.1 x.2.2.1 x.2.2.2.1) := by kernel_rfl
  rw [h1]
  refine (top_eq fuel (finS C Try.f82.results.toList Sp.read) x.1 x.2.1 x.2.2.1 x.2.2.2.1).trans ?_
  kernel_rfl
theorem named : Named Try.prog 82 := named_of Try.func82 (by kernel_rfl) (by kernel_rfl)
end Go.Bx.paper_pen__bytes_s0
namespace Go.Bx.paper_pen__bytes_s1
open Go Go.Proofs Go.Bx
set_option maxRecDepth 100000
set_option linter.unusedVariables false
def Js : List Nat := []
def C : Ctx := ⟨[(59, (.sl (.int .u8))), (136, (.pair (.sl (.int .u8)) .unit))], [], [], fnL [], noSh, [], invL [], [(2, [])], [], [], 3, 0⟩
def St0 (x1l : Int) (x1h : Int) (c1 : Int × Int × Int × List Int × Int × Int × List Int × Unit) (c2 : List Int) : St := stL 13 [(0, .ref 0 0 []), (1, .view 1 [.fld 3] (.int .u8) 32 x1l x1h)] [(0, .cell (.pair (.sl (.int .u8)) .unit) (.agg (.pair (.sl (.int .u8)) .unit) [.app 2 0]) false), (1, .cell (.pair (.int .i64) (.pair (.int .i64) (.pair (.int .i64) (.pair (.arr 32 (.int .u8)) (.pair (.int .i64) (.pair (.int .i64) (.pair (.sl (.int .u8)) .unit))))))) (.data (.pair (.int .i64) (.pair (.int .i64) (.pair (.int .i64) (.pair (.arr 32 (.int .u8)) (.pair (.int .i64) (.pair (.int .i64) (.pair (.sl (.int .u8)) .unit))))))) c1) false), (2, .buf (.int .u8) c2 0 true)]
def St1 (c1 : Int × Int × Int × List Int × Int × Int × List Int × Unit) (c2 : List Int) : St := stL 13 [] [(0, .cell (.pair (.sl (.int .u8)) .unit) (.agg (.pair (.sl (.int .u8)) .unit) [.app 2 1]) false), (1, .cell (.pair (.int .i64) (.pair (.int .i64) (.pair (.int .i64) (.pair (.arr 32 (.int .u8)) (.pair (.int .i64) (.pair (.int .i64) (.pair (.sl (.int .u8)) .unit))))))) (.data (.pair (.int .i64) (.pair (.int .i64) (.pair (.int .i64) (.pair (.arr 32 (.int .u8)) (.pair (.int .i64) (.pair (.int .i64) (.pair (.sl (.int .u8)) .unit))))))) c1) false), (2, .buf (.int .u8) c2 1 true)]
def top {α : Type} (Rt : (Int × Int × Int × List Int × Int × Int × List Int × Unit) → (List Int) → Option α) (x1l : Int) (x1h : Int) (c1 : Int × Int × Int × List Int × Int × Int × List Int × Unit) (c2 : List Int) : Option α :=
  if fitB (c2.length + (cutL c1.2.2.2.1 x1l x1h).length) 1 = true then
    Rt c1 (c2 ++ (cutL c1.2.2.2.1 x1l x1h))
  else none
theorem top_eq {α : Type} (k : Nat) (Q : Ex → St → Option α) (x1l : Int) (x1h : Int) (c1 : Int × Int × Int × List Int × Int × Int × List Int × Unit) (c2 : List Int) :
    (den C k) (cB Try.f82) (endQ C Q) (St0 x1l x1h c1 c2) = top (fun (c1 : Int × Int × Int × List Int × Int × Int × List Int × Unit) (c2 : List Int) => Q .ret (St1 c1 c2)) x1l x1h c1 c2 := by
  have h : ∀ (D L : DT α), denJ D L Js C (cB Try.f82) (endQ C Q) (St0 x1l x1h c1 c2) =
        if fitB (c2.length + (cutL c1.2.2.2.1 x1l x1h).length) 1 = true then
          Q .ret (St1 c1 (c2 ++ (cutL c1.2.2.2.1 x1l x1h)))
        else none := by
    intro D L; kernel_rfl
  refine (show (den C k) (cB Try.f82) (endQ C Q) (St0 x1l x1h c1 c2) = denJ (den C k) (lp C k) Js C (cB Try.f82) (endQ C Q) (St0 x1l x1h c1 c2) from (denJ_den _ _ _ _ _ _).symm).trans ((h (den C k) (lp C k)).trans ?_)
  first | rfl | kernel_rfl
def run (x1l : Int) (x1h : Int) (c1 : Int × Int × Int × List Int × Int × Int × List Int × Unit) (c2 : List Int) : Option ((Int × Int × Int × List Int × Int × Int × List Int × Unit) × List Int × Unit) := top (α := (Int × Int × Int × List Int × Int × Int × List Int × Unit) × List Int × Unit) (fun (c1 : Int × Int × Int × List Int × Int × Int × List Int × Unit) (c2 : List Int) => some (c1, c2, ())) x1l x1h c1 c2
def Sp : Spec := ⟨[.ref 0 0 [], hW 1 [.fld 3] (.int .u8) 32], [(0, hC (.pair (.sl (.int .u8)) .unit) (.agg (.pair (.sl (.int .u8)) .unit) [.app 2 0]) false), (1, hC (.pair (.int .i64) (.pair (.int .i64) (.pair (.int .i64) (.pair (.arr 32 (.int .u8)) (.pair (.int .i64) (.pair (.int .i64) (.pair (.sl (.int .u8)) .unit))))))) (hD (.pair (.int .i64) (.pair (.int .i64) (.pair (.int .i64) (.pair (.arr 32 (.int .u8)) (.pair (.int .i64) (.pair (.int .i64) (.pair (.sl (.int .u8)) .unit)))))))) false), (2, hB (.int .u8) 0 true)], (.pair (.int .i64) (.pair (.int .i64) (.pair (.pair (.int .i64) (.pair (.int .i64) (.pair (.int .i64) (.pair (.arr 32 (.int .u8)) (.pair (.int .i64) (.pair (.int .i64) (.pair (.sl (.int .u8)) .unit))))))) (.pair (.sl (.int .u8)) .unit)))), .tup [], [(0, hC (.pair (.sl (.int .u8)) .unit) (.agg (.pair (.sl (.int .u8)) .unit) [.app 2 1]) false), (1, hC (.pair (.int .i64) (.pair (.int .i64) (.pair (.int .i64) (.pair (.arr 32 (.int .u8)) (.pair (.int .i64) (.pair (.int .i64) (.pair (.sl (.int .u8)) .unit))))))) (hD (.pair (.int .i64) (.pair (.int .i64) (.pair (.int .i64) (.pair (.arr 32 (.int .u8)) (.pair (.int .i64) (.pair (.int .i64) (.pair (.sl (.int .u8)) .unit)))))))) false), (2, hB (.int .u8) 1 true)], (.pair (.pair (.int .i64) (.pair (.int .i64) (.pair (.int .i64) (.pair (.arr 32 (.int .u8)) (.pair (.int .i64) (.pair (.int .i64) (.pair (.sl (.int .u8)) .unit))))))) (.pair (.sl (.int .u8)) .unit)), fun x => run x.1 x.2.1 x.2.2.1 x.2.2.2.1⟩
set_option maxRecDepth 100000 in
theorem sok : SOk Try.prog 82 Sp.h := by
  refine sok_of_den (C := C) (ctx_ok (by kernel_rfl) (by kernel_rfl) (by kernel_rfl) (by kernel_rfl) trivial) (by kernel_rfl) Try.func82 (c := cB Try.f82) (by kernel_rfl) (by kernel_rfl) Sp fuel (by kernel_rfl) (by kernel_rfl) ?_
  intro x r h
  rw [← h]
  have h1 : Sp.start x Try.f82.ntmps = (St0 x.1 x.2.1 x.2.2.1 x.2.2.2.1) := by kernel_rfl
  rw [h1]
  refine (top_eq fuel (finS C Try.f82.results.toList Sp.read) x.1 x.2.1 x.2.2.1 x.2.2.2.1).trans ?_
  kernel_rfl
theorem named : Named Try.prog 82 := named_of Try.func82 (by kernel_rfl) (by kernel_rfl)
end Go.Bx.paper_pen__bytes_s1
namespace Go.Bx.paper_pen__bytes_s2
open Go Go.Proofs Go.Bx
set_option maxRecDepth 100000
set_option linter.unusedVariables false
def Js : List Nat := []
def C : Ctx := ⟨[(59, (.sl (.int .u8))), (136, (.pair (.sl (.int .u8)) .unit))], [], [], fnL [], noSh, [], invL [], [(2, [])], [], [], 2, 0⟩
def St0 (x1 : List Int) (c1 : List Int) : St := stL 13 [(0, .ref 0 0 []), (1, .data (.sl (.int .u8)) x1)] [(0, .cell (.pair (.sl (.int .u8)) .unit) (.agg (.pair (.sl (.int .u8)) .unit) [.app 1 0]) false), (1, .buf (.int .u8) c1 0 true)]
def St1 (c1 : List Int) : St := stL 13 [] [(0, .cell (.pair (.sl (.int .u8)) .unit) (.agg (.pair (.sl (.int .u8)) .unit) [.app 1 1]) false), (1, .buf (.int .u8) c1 1 true)]
def top {α : Type} (Rt : (List Int) → Option α) (x1 : List Int) (c1 : List Int) : Option α :=
  if fitB (c1.length + x1.length) 1 = true then
    Rt (c1 ++ x1)
  else none
theorem top_eq {α : Type} (k : Nat) (Q : Ex → St → Option α) (x1 : List Int) (c1 : List Int) :
    (den C k) (cB Try.f82) (endQ C Q) (St0 x1 c1) = top (fun (c1 : List Int) => Q .ret (St1 c1)) x1 c1 := by
  have h : ∀ (D L : DT α), denJ D L Js C (cB Try.f82) (endQ C Q) (St0 x1 c1) =
        if fitB (c1.length + x1.length) 1 = true then
          Q .ret (St1 (c1 ++ x1))
        else none := by
    intro D L; kernel_rfl
  refine (show (den C k) (cB Try.f82) (endQ C Q) (St0 x1 c1) = denJ (den C k) (lp C k) Js C (cB Try.f82) (endQ C Q) (St0 x1 c1) from (denJ_den _ _ _ _ _ _).symm).trans ((h (den C k) (lp C k)).trans ?_)
  first | rfl | kernel_rfl
def run (x1 : List Int) (c1 : List Int) : Option (List Int × Unit) := top (α := List Int × Unit) (fun (c1 : List Int) => some (c1, ())) x1 c1
def Sp : Spec := ⟨[.ref 0 0 [], hD (.sl (.int .u8))], [(0, hC (.pair (.sl (.int .u8)) .unit) (.agg (.pair (.sl (.int .u8)) .unit) [.app 1 0]) false), (1, hB (.int .u8) 0 true)], (.pair (.sl (.int .u8)) (.pair (.sl (.int .u8)) .unit)), .tup [], [(0, hC (.pair (.sl (.int .u8)) .unit) (.agg (.pair (.sl (.int .u8)) .unit) [.app 1 1]) false), (1, hB (.int .u8) 1 true)], (.pair (.sl (.int .u8)) .unit), fun x => run x.1 x.2.1⟩
set_option maxRecDepth 100000 in
theorem sok : SOk Try.prog 82 Sp.h := by
  refine sok_of_den (C := C) (ctx_ok (by kernel_rfl) (by kernel_rfl) (by kernel_rfl) (by kernel_rfl) trivial) (by kernel_rfl) Try.func82 (c := cB Try.f82) (by kernel_rfl) (by kernel_rfl) Sp fuel (by kernel_rfl) (by kernel_rfl) ?_
  intro x r h
  rw [← h]
  have h1 : Sp.start x Try.f82.ntmps = (St0 x.1 x.2.1) := by kernel_rfl
  rw [h1]
  refine (top_eq fuel (finS C Try.f82.results.toList Sp.read) x.1 x.2.1).trans ?_
  kernel_rfl
theorem named : Named Try.prog 82 := named_of Try.func82 (by kernel_rfl) (by kernel_rfl)
end Go.Bx.paper_pen__bytes_s2
namespace Go.Bx.paper_pen__body_s0
open Go Go.Proofs Go.Bx
set_option maxRecDepth 100000
set_option linter.unusedVariables false
def Js : List Nat := []
def C : Ctx := ⟨[(3, (.int .i64)), (59, (.sl (.int .u8))), (69, (.arr 32 (.int .u8))), (76, (.pair (.int .i64) (.pair (.int .i64) (.pair (.int .i64) (.pair (.arr 32 (.int .u8)) (.pair (.int .i64) (.pair (.int .i64) (.pair (.sl (.int .u8)) .unit))))))))], [], [], fnL [], shL [(80, [.one Go.Bx.paper_pen__number_s2.Sp]), (82, [.one Go.Bx.paper_pen__bytes_s1.Sp, .one Go.Bx.paper_pen__bytes_s2.Sp])], [(7, 33), (11, 33), (15, 33), (19, 33), (23, 33), (27, 33), (31, 33)], invL [], [(2, [])], [], [], 2, 0⟩
def St0 (x1 : Int × Int × Int × List Int × Int × Int × List Int × Unit) (c1 : List Int) : St := stL 32 [(0, .ref 0 0 []), (1, .data (.pair (.int .i64) (.pair (.int .i64) (.pair (.int .i64) (.pair (.arr 32 (.int .u8)) (.pair (.int .i64) (.pair (.int .i64) (.pair (.sl (.int .u8)) .unit))))))) x1)] [(0, .cell (.pair (.sl (.int .u8)) .unit) (.agg (.pair (.sl (.int .u8)) .unit) [.app 1 0]) false), (1, .buf (.int .u8) c1 0 true)]
def St1 (c1 : List Int) : St := stL 32 [] [(0, .cell (.pair (.sl (.int .u8)) .unit) (.agg (.pair (.sl (.int .u8)) .unit) [.app 1 1]) false), (1, .buf (.int .u8) c1 1 true)]
def top {α : Type} (Rt : (List Int) → Option α) (x1 : Int × Int × Int × List Int × Int × Int × List Int × Unit) (c1 : List Int) : Option α :=
  (Go.Bx.paper_pen__number_s2.run x1.1 8 c1).bind fun y1 =>
  (Go.Bx.paper_pen__number_s2.run x1.2.1 4 y1.1).bind fun y2 =>
  (Go.Bx.paper_pen__number_s2.run x1.2.2.1 2 y2.1).bind fun y3 =>
  (Go.Bx.paper_pen__bytes_s1.run 0 32 x1 y3.1).bind fun y4 =>
  (Go.Bx.paper_pen__number_s2.run y4.1.2.2.2.2.1 8 y4.2.1).bind fun y5 =>
  (Go.Bx.paper_pen__number_s2.run y4.1.2.2.2.2.2.1 1 y5.1).bind fun y6 =>
  (Go.Bx.paper_pen__bytes_s2.run y4.1.2.2.2.2.2.2.1 y6.1).bind fun y7 =>
  Rt y7.1
theorem top_eq {α : Type} (k : Nat) (Q : Ex → St → Option α) (x1 : Int × Int × Int × List Int × Int × Int × List Int × Unit) (c1 : List Int) :
    (den C k) (cB Try.f83) (endQ C Q) (St0 x1 c1) = top (fun (c1 : List Int) => Q .ret (St1 c1)) x1 c1 := by
  have h : ∀ (D L : DT α), denJ D L Js C (cB Try.f83) (endQ C Q) (St0 x1 c1) =
        (Go.Bx.paper_pen__number_s2.run x1.1 8 c1).bind fun y1 =>
        (Go.Bx.paper_pen__number_s2.run x1.2.1 4 y1.1).bind fun y2 =>
        (Go.Bx.paper_pen__number_s2.run x1.2.2.1 2 y2.1).bind fun y3 =>
        (Go.Bx.paper_pen__bytes_s1.run 0 32 x1 y3.1).bind fun y4 =>
        (Go.Bx.paper_pen__number_s2.run y4.1.2.2.2.2.1 8 y4.2.1).bind fun y5 =>
        (Go.Bx.paper_pen__number_s2.run y4.1.2.2.2.2.2.1 1 y5.1).bind fun y6 =>
        (Go.Bx.paper_pen__bytes_s2.run y4.1.2.2.2.2.2.2.1 y6.1).bind fun y7 =>
        Q .ret (St1 y7.1) := by
    intro D L; kernel_rfl
  refine (show (den C k) (cB Try.f83) (endQ C Q) (St0 x1 c1) = denJ (den C k) (lp C k) Js C (cB Try.f83) (endQ C Q) (St0 x1 c1) from (denJ_den _ _ _ _ _ _).symm).trans ((h (den C k) (lp C k)).trans ?_)
  first | rfl | kernel_rfl
def run (x1 : Int × Int × Int × List Int × Int × Int × List Int × Unit) (c1 : List Int) : Option (List Int × Unit) := top (α := List Int × Unit) (fun (c1 : List Int) => some (c1, ())) x1 c1
def Sp : Spec := ⟨[.ref 0 0 [], hD (.pair (.int .i64) (.pair (.int .i64) (.pair (.int .i64) (.pair (.arr 32 (.int .u8)) (.pair (.int .i64) (.pair (.int .i64) (.pair (.sl (.int .u8)) .unit)))))))], [(0, hC (.pair (.sl (.int .u8)) .unit) (.agg (.pair (.sl (.int .u8)) .unit) [.app 1 0]) false), (1, hB (.int .u8) 0 true)], (.pair (.pair (.int .i64) (.pair (.int .i64) (.pair (.int .i64) (.pair (.arr 32 (.int .u8)) (.pair (.int .i64) (.pair (.int .i64) (.pair (.sl (.int .u8)) .unit))))))) (.pair (.sl (.int .u8)) .unit)), .tup [], [(0, hC (.pair (.sl (.int .u8)) .unit) (.agg (.pair (.sl (.int .u8)) .unit) [.app 1 1]) false), (1, hB (.int .u8) 1 true)], (.pair (.sl (.int .u8)) .unit), fun x => run x.1 x.2.1⟩
set_option maxRecDepth 100000 in
theorem sok : SOk Try.prog 83 Sp.h := by
  refine sok_of_den (C := C) (ctx_ok_sh (by kernel_rfl) (by kernel_rfl) (by kernel_rfl) (by kernel_rfl) trivial ⟨⟨⟨Go.Bx.paper_pen__number_s2.sok, trivial⟩, Go.Bx.paper_pen__number_s2.named⟩, ⟨⟨⟨Go.Bx.paper_pen__bytes_s1.sok, ⟨Go.Bx.paper_pen__bytes_s2.sok, trivial⟩⟩, Go.Bx.paper_pen__bytes_s1.named⟩, trivial⟩⟩) (by kernel_rfl) Try.func83 (c := cB Try.f83) (by kernel_rfl) (by kernel_rfl) Sp fuel (by kernel_rfl) (by kernel_rfl) ?_
  intro x r h
  rw [← h]
  have h1 : Sp.start x Try.f83.ntmps = (St0 x.1 x.2.1) := by kernel_rfl
  rw [h1]
  refine (top_eq fuel (finS C Try.f83.results.toList Sp.read) x.1 x.2.1).trans ?_
  kernel_rfl
theorem named : Named Try.prog 83 := named_of Try.func83 (by kernel_rfl) (by kernel_rfl)
end Go.Bx.paper_pen__body_s0
namespace Go.Bx.basculeref_bodyText
open Go Go.Proofs Go.Bx
set_option maxRecDepth 100000
set_option linter.unusedVariables false
def Js : List Nat := []
def C : Ctx := ⟨[(3, (.int .i64)), (9, .str), (54, (.int .u64)), (59, (.sl (.int .u8))), (69, (.arr 32 (.int .u8))), (76, (.pair (.int .i64) (.pair (.int .i64) (.pair (.int .i64) (.pair (.arr 32 (.int .u8)) (.pair (.int .i64) (.pair (.int .i64) (.pair (.sl (.int .u8)) .unit))))))))], [], [], fnL [(85, Go.Bx.basculeref_big.F)], noSh, [], invL [], [(2, [2])], [], [], 0, 0⟩
def St0 (x0 : Int × Int × Int × List Int × Int × Int × List Int × Unit) : St := stL 35 [(0, .data (.pair (.int .i64) (.pair (.int .i64) (.pair (.int .i64) (.pair (.arr 32 (.int .u8)) (.pair (.int .i64) (.pair (.int .i64) (.pair (.sl (.int .u8)) .unit))))))) x0)] []
def St1 (x2 : List Int) : St := stL 35 [(2, .data .str x2)] []
def top {α : Type} (Rt : (List Int) → Option α) (x0 : Int × Int × Int × List Int × Int × Int × List Int × Unit) : Option α :=
  (Go.Bx.basculeref_big.run (IntKind.u64.wrap x0.1) 8).bind fun y1 =>
  (Go.Bx.basculeref_big.run (IntKind.u64.wrap x0.2.1) 4).bind fun y2 =>
  if Nat.ble (y1.length + y2.length) 9223372036854775807 = true then
    (Go.Bx.basculeref_big.run (IntKind.u64.wrap x0.2.2.1) 2).bind fun y3 =>
    if Nat.ble ((y1 ++ y2).length + y3.length) 9223372036854775807 = true then
      if Nat.ble (((y1 ++ y2) ++ y3).length + (cutL x0.2.2.2.1 0 32).length) 9223372036854775807 = true then
        (Go.Bx.basculeref_big.run (IntKind.u64.wrap x0.2.2.2.2.1) 8).bind fun y4 =>
        if Nat.ble ((((y1 ++ y2) ++ y3) ++ (cutL x0.2.2.2.1 0 32)).length + y4.length) 9223372036854775807 = true then
          (Go.Bx.basculeref_big.run (IntKind.u64.wrap x0.2.2.2.2.2.1) 1).bind fun y5 =>
          if Nat.ble (((((y1 ++ y2) ++ y3) ++ (cutL x0.2.2.2.1 0 32)) ++ y4).length + y5.length) 9223372036854775807 = true then
            if Nat.ble ((((((y1 ++ y2) ++ y3) ++ (cutL x0.2.2.2.1 0 32)) ++ y4) ++ y5).length + x0.2.2.2.2.2.2.1.length) 9223372036854775807 = true then
              Rt ((((((y1 ++ y2) ++ y3) ++ (cutL x0.2.2.2.1 0 32)) ++ y4) ++ y5) ++ x0.2.2.2.2.2.2.1)
            else none
          else none
        else none
      else none
    else none
  else none
theorem top_eq {α : Type} (k : Nat) (Q : Ex → St → Option α) (x0 : Int × Int × Int × List Int × Int × Int × List Int × Unit) :
    (den C k) (cB Try.f87) Q (St0 x0) = top (fun (x2 : List Int) => Q .ret (St1 x2)) x0 := by
  have h : ∀ (D L : DT α), denJ D L Js C (cB Try.f87) Q (St0 x0) =
        (Go.Bx.basculeref_big.run (IntKind.u64.wrap x0.1) 8).bind fun y1 =>
        (Go.Bx.basculeref_big.run (IntKind.u64.wrap x0.2.1) 4).bind fun y2 =>
        if Nat.ble (y1.length + y2.length) 9223372036854775807 = true then
          (Go.Bx.basculeref_big.run (IntKind.u64.wrap x0.2.2.1) 2).bind fun y3 =>
          if Nat.ble ((y1 ++ y2).length + y3.length) 9223372036854775807 = true then
            if Nat.ble (((y1 ++ y2) ++ y3).length + (cutL x0.2.2.2.1 0 32).length) 9223372036854775807 = true then
              (Go.Bx.basculeref_big.run (IntKind.u64.wrap x0.2.2.2.2.1) 8).bind fun y4 =>
              if Nat.ble ((((y1 ++ y2) ++ y3) ++ (cutL x0.2.2.2.1 0 32)).length + y4.length) 9223372036854775807 = true then
                (Go.Bx.basculeref_big.run (IntKind.u64.wrap x0.2.2.2.2.2.1) 1).bind fun y5 =>
                if Nat.ble (((((y1 ++ y2) ++ y3) ++ (cutL x0.2.2.2.1 0 32)) ++ y4).length + y5.length) 9223372036854775807 = true then
                  if Nat.ble ((((((y1 ++ y2) ++ y3) ++ (cutL x0.2.2.2.1 0 32)) ++ y4) ++ y5).length + x0.2.2.2.2.2.2.1.length) 9223372036854775807 = true then
                    Q .ret (St1 ((((((y1 ++ y2) ++ y3) ++ (cutL x0.2.2.2.1 0 32)) ++ y4) ++ y5) ++ x0.2.2.2.2.2.2.1))
                  else none
                else none
              else none
            else none
          else none
        else none := by
    intro D L; kernel_rfl
  refine (show (den C k) (cB Try.f87) Q (St0 x0) = denJ (den C k) (lp C k) Js C (cB Try.f87) Q (St0 x0) from (denJ_den _ _ _ _ _ _).symm).trans ((h (den C k) (lp C k)).trans ?_)
  first | rfl | kernel_rfl
def run (x0 : Int × Int × Int × List Int × Int × Int × List Int × Unit) : Option (List Int) := top (α := List Int) (fun (x2 : List Int) => some x2) x0
def F : Fn := ⟨(.pair (.pair (.int .i64) (.pair (.int .i64) (.pair (.int .i64) (.pair (.arr 32 (.int .u8)) (.pair (.int .i64) (.pair (.int .i64) (.pair (.sl (.int .u8)) .unit))))))) .unit), .str, false, fun x => run x.1⟩
set_option maxRecDepth 100000 in
theorem con : Con Try.prog 87 F := by
  refine con_of_den (C := C) (ctx_ok (by kernel_rfl) (by kernel_rfl) (by kernel_rfl) (by kernel_rfl) ⟨.inl ⟨Go.Bx.basculeref_big.con, Go.Bx.basculeref_big.named⟩, trivial⟩) (by kernel_rfl) Try.func87 (c := cB Try.f87) (by kernel_rfl) (by kernel_rfl) F fuel (fun x => by simp [F, spread, Try.ntmps87]) ?_
  intro x r h
  rw [← h]
  have h1 : start F Try.f87.ntmps x = (St0 x.1) := by kernel_rfl
  rw [h1]
  refine (top_eq fuel (fin C Try.f87.results.toList F.rs F.multi) x.1).trans ?_
  kernel_rfl
theorem named : Named Try.prog 87 := named_of Try.func87 (by kernel_rfl) (by kernel_rfl)
end Go.Bx.basculeref_bodyText
namespace Go.Bx.wide_From
open Go Go.Proofs Go.Bx
set_option maxRecDepth 100000
set_option linter.unusedVariables false
def Js : List Nat := [9]
def C : Ctx := ⟨[(5, (.int .u8)), (54, (.int .u64)), (56, (.arr 4 (.int .u64))), (69, (.arr 32 (.int .u8)))], [], [], fnL [], noSh, [], invL [], [(2, [2]), (1, [2, 3]), (4, [2, 3, 7, 8]), (9, [2, 3, 7, 8]), (24, [2, 3])], [], [], 0, 0⟩
def St0 (x0 : List Int) : St := stL 28 [(0, .data (.arr 32 (.int .u8)) x0)] []
def St1 (x7 : List Int) (x8 : Int) (c2 : List Int) (c3 : List Int) : St := stL 28 [(2, .ref 2 0 []), (3, .ref 3 0 []), (7, .data (.arr 32 (.int .u8)) x7), (8, .data (.int .i64) x8)] [(2, .cell (.arr 4 (.int .u64)) (.data (.arr 4 (.int .u64)) c2) false), (3, .cell (.arr 4 (.int .u64)) (.data (.arr 4 (.int .u64)) c3) false)]
noncomputable def cd0 : Code := cL (cL (cR (cL (cR (cR (cB Try.f89))))))
def St2 (c2 : List Int) (c3 : List Int) : St := stL 28 [(2, .ref 2 0 []), (3, .ref 3 0 [])] [(2, .cell (.arr 4 (.int .u64)) (.data (.arr 4 (.int .u64)) c2) false), (3, .cell (.arr 4 (.int .u64)) (.data (.arr 4 (.int .u64)) c3) false)]
def l0s {α : Type} (Nx : (List Int) → Int → (List Int) → (List Int) → Option α) (Xt0 : (List Int) → (List Int) → Option α) (x7 : List Int) (x8 : Int) (c2 : List Int) (c3 : List Int) : Option α :=
  if (decide (x8 < 32)) = true then
    if 0 ≤ x8 ∧ x8 < (32 : Int) then
      if 0 ≤ (IntKind.i64.wrap (Int.tdiv (IntKind.i64.wrap (31 - x8)) 8)) ∧ (IntKind.i64.wrap (Int.tdiv (IntKind.i64.wrap (31 - x8)) 8)) < (4 : Int) then
        if 0 ≤ (IntKind.i64.wrap (8 * (Int.tmod (IntKind.i64.wrap (31 - x8)) 8))) then
          if 0 ≤ (IntKind.i64.wrap (Int.tdiv (IntKind.i64.wrap (31 - x8)) 8)) ∧ (IntKind.i64.wrap (Int.tdiv (IntKind.i64.wrap (31 - x8)) 8)) < (4 : Int) then
            Nx x7 (IntKind.i64.wrap (x8 + 1)) c2 (List.set c3 (Int.toNat (IntKind.i64.wrap (Int.tdiv (IntKind.i64.wrap (31 - x8)) 8))) (bor .u64 (List.getD c3 (Int.toNat (IntKind.i64.wrap (Int.tdiv (IntKind.i64.wrap (31 - x8)) 8))) 0) (shlI .u64 (IntKind.u64.wrap (List.getD x7 (Int.toNat x8) 0)) (IntKind.i64.wrap (8 * (Int.tmod (IntKind.i64.wrap (31 - x8)) 8))))))
          else none
        else none
      else none
    else none
  else
    Xt0 c2 c3
theorem l0s_eq {α : Type} (k : Nat) (next : St → Option α) (Q : Ex → St → Option α) (x7 : List Int) (x8 : Int) (c2 : List Int) (c3 : List Int) :
    rnd C k cd0 9 Q next (St1 x7 x8 c2 c3) = l0s (fun (x7 : List Int) (x8 : Int) (c2 : List Int) (c3 : List Int) => next (St1 x7 x8 c2 c3)) (fun (c2 : List Int) (c3 : List Int) => Q (.exit 0) (St2 c2 c3)) x7 x8 c2 c3 := by
  have h : ∀ (D L : DT α), denJ D L Js C cd0 (lq C 9 next Q) (St1 x7 x8 c2 c3) =
        if (decide (x8 < 32)) = true then
          if 0 ≤ x8 ∧ x8 < (32 : Int) then
            if 0 ≤ (IntKind.i64.wrap (Int.tdiv (IntKind.i64.wrap (31 - x8)) 8)) ∧ (IntKind.i64.wrap (Int.tdiv (IntKind.i64.wrap (31 - x8)) 8)) < (4 : Int) then
              if 0 ≤ (IntKind.i64.wrap (8 * (Int.tmod (IntKind.i64.wrap (31 - x8)) 8))) then
                if 0 ≤ (IntKind.i64.wrap (Int.tdiv (IntKind.i64.wrap (31 - x8)) 8)) ∧ (IntKind.i64.wrap (Int.tdiv (IntKind.i64.wrap (31 - x8)) 8)) < (4 : Int) then
                  next (St1 x7 (IntKind.i64.wrap (x8 + 1)) c2 (List.set c3 (Int.toNat (IntKind.i64.wrap (Int.tdiv (IntKind.i64.wrap (31 - x8)) 8))) (bor .u64 (List.getD c3 (Int.toNat (IntKind.i64.wrap (Int.tdiv (IntKind.i64.wrap (31 - x8)) 8))) 0) (shlI .u64 (IntKind.u64.wrap (List.getD x7 (Int.toNat x8) 0)) (IntKind.i64.wrap (8 * (Int.tmod (IntKind.i64.wrap (31 - x8)) 8)))))))
                else none
              else none
            else none
          else none
        else
          Q (.exit 0) (St2 c2 c3) := by
    intro D L; kernel_rfl
  refine (show rnd C k cd0 9 Q next (St1 x7 x8 c2 c3) = denJ (den C k) (lp C k) Js C cd0 (lq C 9 next Q) (St1 x7 x8 c2 c3) from (denJ_den _ _ _ _ _ _).symm).trans ((h (den C k) (lp C k)).trans ?_)
  first | rfl | kernel_rfl
def l0 {α : Type} (k : Nat) (Xt0 : (List Int) → (List Int) → Option α) : Nat → (List Int) → Int → (List Int) → (List Int) → Option α
  | 0, _, _, _, _ => none
  | n + 1, x7, x8, c2, c3 => l0s (l0 k Xt0 n) Xt0 x7 x8 c2 c3
theorem l0_eq {α : Type} (k : Nat) (Q : Ex → St → Option α) : ∀ (n : Nat) (x7 : List Int) (x8 : Int) (c2 : List Int) (c3 : List Int), iter (rnd C k cd0 9 Q) n (St1 x7 x8 c2 c3) = l0 k (fun (c2 : List Int) (c3 : List Int) => Q (.exit 0) (St2 c2 c3)) n x7 x8 c2 c3
  | 0, _, _, _, _ => rfl
  | n + 1, x7, x8, c2, c3 => (iter_succ _ _ _).trans ((l0s_eq k (iter (rnd C k cd0 9 Q) n) Q x7 x8 c2 c3).trans (congrArg (fun N => l0s N (fun (c2 : List Int) (c3 : List Int) => Q (.exit 0) (St2 c2 c3)) x7 x8 c2 c3) (funext fun x7 => funext fun x8 => funext fun c2 => funext fun c3 => l0_eq k Q n x7 x8 c2 c3)))
theorem l0_congr {α : Type} (k : Nat) (Xt0 : (List Int) → (List Int) → Option α) (Xt0q : (List Int) → (List Int) → Option α) (hXt0 : ∀ (c2 : List Int) (c3 : List Int), Xt0 c2 c3 = Xt0q c2 c3) (n : Nat) (x7 : List Int) (x8 : Int) (c2 : List Int) (c3 : List Int) : l0 k Xt0 n x7 x8 c2 c3 = l0 k Xt0q n x7 x8 c2 c3 := by
  obtain rfl : Xt0 = Xt0q := by funext c2; funext c3; exact hXt0 c2 c3
  rfl
noncomputable def cd1 : Code := cR (cR (cR (cB Try.f89)))
def St3 (c2 : List Int) (c3 : List Int) : St := stL 28 [(2, .ref 2 0 []), (3, .ref 3 0 [])] [(2, .cell (.arr 4 (.int .u64)) (.data (.arr 4 (.int .u64)) c2) false), (3, .cell (.arr 4 (.int .u64)) (.data (.arr 4 (.int .u64)) c3) false)]
def St4 (c2 : List Int) : St := stL 28 [(2, .ref 2 0 [])] [(2, .cell (.arr 4 (.int .u64)) (.data (.arr 4 (.int .u64)) c2) false)]
def j0 {α : Type} (Rt : (List Int) → Option α) (c2 : List Int) (c3 : List Int) : Option α :=
  Rt c3
theorem j0_eq {α : Type} (k : Nat) (Q : Ex → St → Option α) (c2 : List Int) (c3 : List Int) :
    (den C k) cd1 Q (St3 c2 c3) = j0 (fun (c2 : List Int) => Q .ret (St4 c2)) c2 c3 := by
  have h : ∀ (D L : DT α), denJ D L Js C cd1 Q (St3 c2 c3) =
        Q .ret (St4 c3) := by
    intro D L; kernel_rfl
  refine (show (den C k) cd1 Q (St3 c2 c3) = denJ (den C k) (lp C k) Js C cd1 Q (St3 c2 c3) from (denJ_den _ _ _ _ _ _).symm).trans ((h (den C k) (lp C k)).trans ?_)
  first | rfl | kernel_rfl
theorem a0 {α : Type} (k : Nat) (Q : Ex → St → Option α) (x7 : List Int) (x8 : Int) (c2 : List Int) (c3 : List Int) :
    (lp C k) cd0 (blkQ C 0 (sq (den C k) (lp C k) Js C cd1 Q)) (St1 x7 x8 c2 c3) = l0 k (fun (c2 : List Int) (c3 : List Int) => j0 (fun (c2 : List Int) => Q .ret (St4 c2)) c2 c3) k x7 x8 c2 c3 :=
  (show (lp C k) cd0 (blkQ C 0 (sq (den C k) (lp C k) Js C cd1 Q)) (St1 x7 x8 c2 c3) = iter (rnd C k cd0 9 (blkQ C 0 (sq (den C k) (lp C k) Js C cd1 Q))) k (St1 x7 x8 c2 c3) by kernel_rfl).trans ((l0_eq k (blkQ C 0 (sq (den C k) (lp C k) Js C cd1 Q)) k x7 x8 c2 c3).trans (l0_congr k _ _ (fun c2 c3 => ((show (blkQ C 0 (sq (den C k) (lp C k) Js C cd1 Q)) (.exit 0) (St2 c2 c3) = (den C k) cd1 Q (St3 c2 c3) by kernel_rfl).trans (by simp only [j0_eq]))) k x7 x8 c2 c3))
def top {α : Type} (k : Nat) (Rt : (List Int) → Option α) (x0 : List Int) : Option α :=
  l0 k (fun (c2 : List Int) (c3 : List Int) => j0 Rt c2 c3) k x0 0 [0, 0, 0, 0] [0, 0, 0, 0]
theorem top_eq {α : Type} (k : Nat) (Q : Ex → St → Option α) (x0 : List Int) :
    (den C k) (cB Try.f89) Q (St0 x0) = top k (fun (c2 : List Int) => Q .ret (St4 c2)) x0 := by
  have h : ∀ (D L : DT α), denJ D L Js C (cB Try.f89) Q (St0 x0) =
        L cd0 (blkQ C 0 (sq D L Js C cd1 Q)) (St1 x0 0 [0, 0, 0, 0] [0, 0, 0, 0]) := by
    intro D L; kernel_rfl
  refine (show (den C k) (cB Try.f89) Q (St0 x0) = denJ (den C k) (lp C k) Js C (cB Try.f89) Q (St0 x0) from (denJ_den _ _ _ _ _ _).symm).trans ((h (den C k) (lp C k)).trans ?_)
  simp only [a0]
  first | rfl | kernel_rfl
def run (x0 : List Int) : Option (List Int) := top (α := List Int) fuel (fun (c2 : List Int) => some c2) x0
def F : Fn := ⟨(.pair (.arr 32 (.int .u8)) .unit), (.arr 4 (.int .u64)), false, fun x => run x.1⟩
set_option maxRecDepth 100000 in
theorem con : Con Try.prog 89 F := by
  refine con_of_den (C := C) (ctx_ok (by kernel_rfl) (by kernel_rfl) (by kernel_rfl) (by kernel_rfl) trivial) (by kernel_rfl) Try.func89 (c := cB Try.f89) (by kernel_rfl) (by kernel_rfl) F fuel (fun x => by simp [F, spread, Try.ntmps89]) ?_
  intro x r h
  rw [← h]
  have h1 : start F Try.f89.ntmps x = (St0 x.1) := by kernel_rfl
  rw [h1]
  refine (top_eq fuel (fin C Try.f89.results.toList F.rs F.multi) x.1).trans ?_
  kernel_rfl
theorem named : Named Try.prog 89 := named_of Try.func89 (by kernel_rfl) (by kernel_rfl)
end Go.Bx.wide_From
namespace Go.Bx.basculeref_FromBytes
open Go Go.Proofs Go.Bx
set_option maxRecDepth 100000
set_option linter.unusedVariables false
def Js : List Nat := [8]
def C : Ctx := ⟨[(5, (.int .u8)), (54, (.int .u64)), (56, (.arr 4 (.int .u64))), (69, (.arr 32 (.int .u8)))], [], [], fnL [], noSh, [], invL [], [(2, [2]), (1, [2, 3]), (4, [2, 3, 6, 7]), (9, [2, 3, 6, 7]), (21, [2, 3])], [], [], 0, 0⟩
def St0 (x0 : List Int) : St := stL 26 [(0, .data (.arr 32 (.int .u8)) x0)] []
def St1 (x6 : List Int) (x7 : Int) (c2 : List Int) (c3 : List Int) : St := stL 26 [(2, .ref 2 0 []), (3, .ref 3 0 []), (6, .data (.arr 32 (.int .u8)) x6), (7, .data (.int .i64) x7)] [(2, .cell (.arr 4 (.int .u64)) (.data (.arr 4 (.int .u64)) c2) false), (3, .cell (.arr 4 (.int .u64)) (.data (.arr 4 (.int .u64)) c3) false)]
noncomputable def cd0 : Code := cL (cL (cR (cL (cR (cR (cB Try.f112))))))
def St2 (c2 : List Int) (c3 : List Int) : St := stL 26 [(2, .ref 2 0 []), (3, .ref 3 0 [])] [(2, .cell (.arr 4 (.int .u64)) (.data (.arr 4 (.int .u64)) c2) false), (3, .cell (.arr 4 (.int .u64)) (.data (.arr 4 (.int .u64)) c3) false)]
def l0s {α : Type} (Nx : (List Int) → Int → (List Int) → (List Int) → Option α) (Xt0 : (List Int) → (List Int) → Option α) (x6 : List Int) (x7 : Int) (c2 : List Int) (c3 : List Int) : Option α :=
  if (decide (x7 < 32)) = true then
    if 0 ≤ x7 ∧ x7 < (32 : Int) then
      if 0 ≤ (IntKind.i64.wrap (3 - (IntKind.i64.wrap (Int.tdiv x7 8)))) ∧ (IntKind.i64.wrap (3 - (IntKind.i64.wrap (Int.tdiv x7 8)))) < (4 : Int) then
        if 0 ≤ (IntKind.i64.wrap (3 - (IntKind.i64.wrap (Int.tdiv x7 8)))) ∧ (IntKind.i64.wrap (3 - (IntKind.i64.wrap (Int.tdiv x7 8)))) < (4 : Int) then
          Nx x6 (IntKind.i64.wrap (x7 + 1)) c2 (List.set c3 (Int.toNat (IntKind.i64.wrap (3 - (IntKind.i64.wrap (Int.tdiv x7 8))))) (IntKind.u64.wrap ((IntKind.u64.wrap ((List.getD c3 (Int.toNat (IntKind.i64.wrap (3 - (IntKind.i64.wrap (Int.tdiv x7 8))))) 0) * 256)) + (IntKind.u64.wrap (List.getD x6 (Int.toNat x7) 0)))))
        else none
      else none
    else none
  else
    Xt0 c2 c3
theorem l0s_eq {α : Type} (k : Nat) (next : St → Option α) (Q : Ex → St → Option α) (x6 : List Int) (x7 : Int) (c2 : List Int) (c3 : List Int) :
    rnd C k cd0 9 Q next (St1 x6 x7 c2 c3) = l0s (fun (x6 : List Int) (x7 : Int) (c2 : List Int) (c3 : List Int) => next (St1 x6 x7 c2 c3)) (fun (c2 : List Int) (c3 : List Int) => Q (.exit 0) (St2 c2 c3)) x6 x7 c2 c3 := by
  have h : ∀ (D L : DT α), denJ D L Js C cd0 (lq C 9 next Q) (St1 x6 x7 c2 c3) =
        if (decide (x7 < 32)) = true then
          if 0 ≤ x7 ∧ x7 < (32 : Int) then
            if 0 ≤ (IntKind.i64.wrap (3 - (IntKind.i64.wrap (Int.tdiv x7 8)))) ∧ (IntKind.i64.wrap (3 - (IntKind.i64.wrap (Int.tdiv x7 8)))) < (4 : Int) then
              if 0 ≤ (IntKind.i64.wrap (3 - (IntKind.i64.wrap (Int.tdiv x7 8)))) ∧ (IntKind.i64.wrap (3 - (IntKind.i64.wrap (Int.tdiv x7 8)))) < (4 : Int) then
                next (St1 x6 (IntKind.i64.wrap (x7 + 1)) c2 (List.set c3 (Int.toNat (IntKind.i64.wrap (3 - (IntKind.i64.wrap (Int.tdiv x7 8))))) (IntKind.u64.wrap ((IntKind.u64.wrap ((List.getD c3 (Int.toNat (IntKind.i64.wrap (3 - (IntKind.i64.wrap (Int.tdiv x7 8))))) 0) * 256)) + (IntKind.u64.wrap (List.getD x6 (Int.toNat x7) 0))))))
              else none
            else none
          else none
        else
          Q (.exit 0) (St2 c2 c3) := by
    intro D L; kernel_rfl
  refine (show rnd C k cd0 9 Q next (St1 x6 x7 c2 c3) = denJ (den C k) (lp C k) Js C cd0 (lq C 9 next Q) (St1 x6 x7 c2 c3) from (denJ_den _ _ _ _ _ _).symm).trans ((h (den C k) (lp C k)).trans ?_)
  first | rfl | kernel_rfl
def l0 {α : Type} (k : Nat) (Xt0 : (List Int) → (List Int) → Option α) : Nat → (List Int) → Int → (List Int) → (List Int) → Option α
  | 0, _, _, _, _ => none
  | n + 1, x6, x7, c2, c3 => l0s (l0 k Xt0 n) Xt0 x6 x7 c2 c3
theorem l0_eq {α : Type} (k : Nat) (Q : Ex → St → Option α) : ∀ (n : Nat) (x6 : List Int) (x7 : Int) (c2 : List Int) (c3 : List Int), iter (rnd C k cd0 9 Q) n (St1 x6 x7 c2 c3) = l0 k (fun (c2 : List Int) (c3 : List Int) => Q (.exit 0) (St2 c2 c3)) n x6 x7 c2 c3
  | 0, _, _, _, _ => rfl
  | n + 1, x6, x7, c2, c3 => (iter_succ _ _ _).trans ((l0s_eq k (iter (rnd C k cd0 9 Q) n) Q x6 x7 c2 c3).trans (congrArg (fun N => l0s N (fun (c2 : List Int) (c3 : List Int) => Q (.exit 0) (St2 c2 c3)) x6 x7 c2 c3) (funext fun x6 => funext fun x7 => funext fun c2 => funext fun c3 => l0_eq k Q n x6 x7 c2 c3)))
theorem l0_congr {α : Type} (k : Nat) (Xt0 : (List Int) → (List Int) → Option α) (Xt0q : (List Int) → (List Int) → Option α) (hXt0 : ∀ (c2 : List Int) (c3 : List Int), Xt0 c2 c3 = Xt0q c2 c3) (n : Nat) (x6 : List Int) (x7 : Int) (c2 : List Int) (c3 : List Int) : l0 k Xt0 n x6 x7 c2 c3 = l0 k Xt0q n x6 x7 c2 c3 := by
  obtain rfl : Xt0 = Xt0q := by funext c2; funext c3; exact hXt0 c2 c3
  rfl
noncomputable def cd1 : Code := cR (cR (cR (cB Try.f112)))
def St3 (c2 : List Int) (c3 : List Int) : St := stL 26 [(2, .ref 2 0 []), (3, .ref 3 0 [])] [(2, .cell (.arr 4 (.int .u64)) (.data (.arr 4 (.int .u64)) c2) false), (3, .cell (.arr 4 (.int .u64)) (.data (.arr 4 (.int .u64)) c3) false)]
def St4 (c2 : List Int) : St := stL 26 [(2, .ref 2 0 [])] [(2, .cell (.arr 4 (.int .u64)) (.data (.arr 4 (.int .u64)) c2) false)]
def j0 {α : Type} (Rt : (List Int) → Option α) (c2 : List Int) (c3 : List Int) : Option α :=
  Rt c3
theorem j0_eq {α : Type} (k : Nat) (Q : Ex → St → Option α) (c2 : List Int) (c3 : List Int) :
    (den C k) cd1 Q (St3 c2 c3) = j0 (fun (c2 : List Int) => Q .ret (St4 c2)) c2 c3 := by
  have h : ∀ (D L : DT α), denJ D L Js C cd1 Q (St3 c2 c3) =
        Q .ret (St4 c3) := by
    intro D L; kernel_rfl
  refine (show (den C k) cd1 Q (St3 c2 c3) = denJ (den C k) (lp C k) Js C cd1 Q (St3 c2 c3) from (denJ_den _ _ _ _ _ _).symm).trans ((h (den C k) (lp C k)).trans ?_)
  first | rfl | kernel_rfl
theorem a0 {α : Type} (k : Nat) (Q : Ex → St → Option α) (x6 : List Int) (x7 : Int) (c2 : List Int) (c3 : List Int) :
    (lp C k) cd0 (blkQ C 0 (sq (den C k) (lp C k) Js C cd1 Q)) (St1 x6 x7 c2 c3) = l0 k (fun (c2 : List Int) (c3 : List Int) => j0 (fun (c2 : List Int) => Q .ret (St4 c2)) c2 c3) k x6 x7 c2 c3 :=
  (show (lp C k) cd0 (blkQ C 0 (sq (den C k) (lp C k) Js C cd1 Q)) (St1 x6 x7 c2 c3) = iter (rnd C k cd0 9 (blkQ C 0 (sq (den C k) (lp C k) Js C cd1 Q))) k (St1 x6 x7 c2 c3) by kernel_rfl).trans ((l0_eq k (blkQ C 0 (sq (den C k) (lp C k) Js C cd1 Q)) k x6 x7 c2 c3).trans (l0_congr k _ _ (fun c2 c3 => ((show (blkQ C 0 (sq (den C k) (lp C k) Js C cd1 Q)) (.exit 0) (St2 c2 c3) = (den C k) cd1 Q (St3 c2 c3) by kernel_rfl).trans (by simp only [j0_eq]))) k x6 x7 c2 c3))
def top {α : Type} (k : Nat) (Rt : (List Int) → Option α) (x0 : List Int) : Option α :=
  l0 k (fun (c2 : List Int) (c3 : List Int) => j0 Rt c2 c3) k x0 0 [0, 0, 0, 0] [0, 0, 0, 0]
theorem top_eq {α : Type} (k : Nat) (Q : Ex → St → Option α) (x0 : List Int) :
    (den C k) (cB Try.f112) Q (St0 x0) = top k (fun (c2 : List Int) => Q .ret (St4 c2)) x0 := by
  have h : ∀ (D L : DT α), denJ D L Js C (cB Try.f112) Q (St0 x0) =
        L cd0 (blkQ C 0 (sq D L Js C cd1 Q)) (St1 x0 0 [0, 0, 0, 0] [0, 0, 0, 0]) := by
    intro D L; kernel_rfl
  refine (show (den C k) (cB Try.f112) Q (St0 x0) = denJ (den C k) (lp C k) Js C (cB Try.f112) Q (St0 x0) from (denJ_den _ _ _ _ _ _).symm).trans ((h (den C k) (lp C k)).trans ?_)
  simp only [a0]
  first | rfl | kernel_rfl
def run (x0 : List Int) : Option (List Int) := top (α := List Int) fuel (fun (c2 : List Int) => some c2) x0
def F : Fn := ⟨(.pair (.arr 32 (.int .u8)) .unit), (.arr 4 (.int .u64)), false, fun x => run x.1⟩
set_option maxRecDepth 100000 in
theorem con : Con Try.prog 112 F := by
  refine con_of_den (C := C) (ctx_ok (by kernel_rfl) (by kernel_rfl) (by kernel_rfl) (by kernel_rfl) trivial) (by kernel_rfl) Try.func112 (c := cB Try.f112) (by kernel_rfl) (by kernel_rfl) F fuel (fun x => by simp [F, spread, Try.ntmps112]) ?_
  intro x r h
  rw [← h]
  have h1 : start F Try.f112.ntmps x = (St0 x.1) := by kernel_rfl
  rw [h1]
  refine (top_eq fuel (fin C Try.f112.results.toList F.rs F.multi) x.1).trans ?_
  kernel_rfl
theorem named : Named Try.prog 112 := named_of Try.func112 (by kernel_rfl) (by kernel_rfl)
end Go.Bx.basculeref_FromBytes
namespace Go.Bx.basculeref_wideOf
open Go Go.Proofs Go.Bx
set_option maxRecDepth 100000
set_option linter.unusedVariables false
def Js : List Nat := []
def C : Ctx := ⟨[(9, .str), (56, (.arr 4 (.int .u64)))], [], [], fnL [(94, Go.Bx.basculeref_word.F), (112, Go.Bx.basculeref_FromBytes.F)], noSh, [], invL [], [(2, [2])], [], [], 0, 0⟩
def St0 (x0 : List Int) : St := stL 6 [(0, .data .str x0)] []
def St1 (c2 : List Int) : St := stL 6 [(2, .ref 2 0 [])] [(2, .cell (.arr 4 (.int .u64)) (.data (.arr 4 (.int .u64)) c2) false)]
def top {α : Type} (Rt : (List Int) → Option α) (x0 : List Int) : Option α :=
  (Go.Bx.basculeref_word.run x0).bind fun y1 =>
  (Go.Bx.basculeref_FromBytes.run y1).bind fun y2 =>
  Rt y2
theorem top_eq {α : Type} (k : Nat) (Q : Ex → St → Option α) (x0 : List Int) :
    (den C k) (cB Try.f93) Q (St0 x0) = top (fun (c2 : List Int) => Q .ret (St1 c2)) x0 := by
  have h : ∀ (D L : DT α), denJ D L Js C (cB Try.f93) Q (St0 x0) =
        (Go.Bx.basculeref_word.run x0).bind fun y1 =>
        (Go.Bx.basculeref_FromBytes.run y1).bind fun y2 =>
        Q .ret (St1 y2) := by
    intro D L; kernel_rfl
  refine (show (den C k) (cB Try.f93) Q (St0 x0) = denJ (den C k) (lp C k) Js C (cB Try.f93) Q (St0 x0) from (denJ_den _ _ _ _ _ _).symm).trans ((h (den C k) (lp C k)).trans ?_)
  first | rfl | kernel_rfl
def run (x0 : List Int) : Option (List Int) := top (α := List Int) (fun (c2 : List Int) => some c2) x0
def F : Fn := ⟨(.pair .str .unit), (.arr 4 (.int .u64)), false, fun x => run x.1⟩
set_option maxRecDepth 100000 in
theorem con : Con Try.prog 93 F := by
  refine con_of_den (C := C) (ctx_ok (by kernel_rfl) (by kernel_rfl) (by kernel_rfl) (by kernel_rfl) ⟨.inl ⟨Go.Bx.basculeref_word.con, Go.Bx.basculeref_word.named⟩, ⟨.inl ⟨Go.Bx.basculeref_FromBytes.con, Go.Bx.basculeref_FromBytes.named⟩, trivial⟩⟩) (by kernel_rfl) Try.func93 (c := cB Try.f93) (by kernel_rfl) (by kernel_rfl) F fuel (fun x => by simp [F, spread, Try.ntmps93]) ?_
  intro x r h
  rw [← h]
  have h1 : start F Try.f93.ntmps x = (St0 x.1) := by kernel_rfl
  rw [h1]
  refine (top_eq fuel (fin C Try.f93.results.toList F.rs F.multi) x.1).trans ?_
  kernel_rfl
theorem named : Named Try.prog 93 := named_of Try.func93 (by kernel_rfl) (by kernel_rfl)
end Go.Bx.basculeref_wideOf
namespace Go.Bx.paper_eye__take_s1
open Go Go.Proofs Go.Bx
set_option maxRecDepth 100000
set_option linter.unusedVariables false
def Js : List Nat := []
def C : Ctx := ⟨[(4, .bool), (59, (.sl (.int .u8))), (149, (.pair (.sl (.int .u8)) (.pair .bool .unit)))], [], [], fnL [], noSh, [], invL [], [(2, [4])], [(2, [.dat true 4 [], .dat false 0 []])], [], 1, 0⟩
def St0 (x1 : Int) (c0 : List Int × Bool × Unit) : St := stL 38 [(0, .ref 0 0 []), (1, .data (.int .i64) x1)] [(0, .cell (.pair (.sl (.int .u8)) (.pair .bool .unit)) (.data (.pair (.sl (.int .u8)) (.pair .bool .unit)) c0) false)]
def St1 (x4 : List Int) (c0 : List Int × Bool × Unit) : St := stL 38 [(4, .data (.sl (.int .u8)) x4)] [(0, .cell (.pair (.sl (.int .u8)) (.pair .bool .unit)) (.data (.pair (.sl (.int .u8)) (.pair .bool .unit)) c0) false)]
def top {α : Type} (Rt : (List Int) → (List Int × Bool × Unit) → Option α) (x1 : Int) (c0 : List Int × Bool × Unit) : Option α :=
  if (decide ((c0.1.length : Int) < x1)) = true then
    if 0 ≤ x1 ∧ id x1 = x1 ∧ fitB x1.toNat 1 = true then
      Rt (List.replicate (Int.toNat x1) 0) ([], false, ())
    else none
  else
    if 0 ≤ (0 : Int) ∧ (0 : Int) ≤ x1 ∧ x1 ≤ (c0.1.length : Int) ∧ x1 = x1 then
      if 0 ≤ x1 ∧ x1 ≤ (c0.1.length : Int) ∧ (c0.1.length : Int) ≤ (c0.1.length : Int) then
        Rt (cutL c0.1 0 x1) ((cutL c0.1 x1 (c0.1.length : Int)), c0.2)
      else none
    else none
theorem top_eq {α : Type} (k : Nat) (Q : Ex → St → Option α) (x1 : Int) (c0 : List Int × Bool × Unit) :
    (den C k) (cB Try.f111) (endQ C Q) (St0 x1 c0) = top (fun (x4 : List Int) (c0 : List Int × Bool × Unit) => Q .ret (St1 x4 c0)) x1 c0 := by
  have h : ∀ (D L : DT α), denJ D L Js C (cB Try.f111) (endQ C Q) (St0 x1 c0) =
        if (decide ((c0.1.length : Int) < x1)) = true then
          if 0 ≤ x1 ∧ id x1 = x1 ∧ fitB x1.toNat 1 = true then
            Q .ret (St1 (List.replicate (Int.toNat x1) 0) ([], false, ()))
          else none
        else
          if 0 ≤ (0 : Int) ∧ (0 : Int) ≤ x1 ∧ x1 ≤ (c0.1.length : Int) ∧ x1 = x1 then
            if 0 ≤ x1 ∧ x1 ≤ (c0.1.length : Int) ∧ (c0.1.length : Int) ≤ (c0.1.length : Int) then
              Q .ret (St1 (cutL c0.1 0 x1) ((cutL c0.1 x1 (c0.1.length : Int)), c0.2))
            else none
          else none := by
    intro D L; kernel_rfl
  refine (show (den C k) (cB Try.f111) (endQ C Q) (St0 x1 c0) = denJ (den C k) (lp C k) Js C (cB Try.f111) (endQ C Q) (St0 x1 c0) from (denJ_den _ _ _ _ _ _).symm).trans ((h (den C k) (lp C k)).trans ?_)
  first | rfl | kernel_rfl
def run (x1 : Int) (c0 : List Int × Bool × Unit) : Option (List Int × (List Int × Bool × Unit) × Unit) := top (α := List Int × (List Int × Bool × Unit) × Unit) (fun (x4 : List Int) (c0 : List Int × Bool × Unit) => some (x4, c0, ())) x1 c0
def Sp : Spec := ⟨[.ref 0 0 [], hD (.int .i64)], [(0, hC (.pair (.sl (.int .u8)) (.pair .bool .unit)) (hD (.pair (.sl (.int .u8)) (.pair .bool .unit))) false)], (.pair (.int .i64) (.pair (.pair (.sl (.int .u8)) (.pair .bool .unit)) .unit)), hD (.sl (.int .u8)), [(0, hC (.pair (.sl (.int .u8)) (.pair .bool .unit)) (hD (.pair (.sl (.int .u8)) (.pair .bool .unit))) false)], (.pair (.sl (.int .u8)) (.pair (.pair (.sl (.int .u8)) (.pair .bool .unit)) .unit)), fun x => run x.1 x.2.1⟩
set_option maxRecDepth 100000 in
theorem sok : SOk Try.prog 111 Sp.h := by
  refine sok_of_den (C := C) (ctx_ok (by kernel_rfl) (by kernel_rfl) (by kernel_rfl) (by kernel_rfl) trivial) (by kernel_rfl) Try.func111 (c := cB Try.f111) (by kernel_rfl) (by kernel_rfl) Sp fuel (by kernel_rfl) (by kernel_rfl) ?_
  intro x r h
  rw [← h]
  have h1 : Sp.start x Try.f111.ntmps = (St0 x.1 x.2.1) := by kernel_rfl
  rw [h1]
  refine (top_eq fuel (finS C Try.f111.results.toList Sp.read) x.1 x.2.1).trans ?_
  kernel_rfl
theorem named : Named Try.prog 111 := named_of Try.func111 (by kernel_rfl) (by kernel_rfl)
end Go.Bx.paper_eye__take_s1
namespace Go.Bx.paper_eye__number_s1
open Go Go.Proofs Go.Bx
set_option maxRecDepth 100000
set_option linter.unusedVariables false
def Js : List Nat := [8]
def C : Ctx := ⟨[(3, (.int .i64)), (5, (.int .u8)), (59, (.sl (.int .u8)))], [], [], fnL [], shL [(111, [.one Go.Bx.paper_eye__take_s1.Sp])], [(10, 24)], invL [], [(2, [4]), (1, [5]), (4, [5, 10, 11, 12]), (9, [5, 10, 11, 12]), (21, [5])], [], [], 1, 0⟩
def St0 (x1 : Int) (c0 : List Int × Bool × Unit) : St := stL 23 [(0, .ref 0 0 []), (1, .data (.int .i64) x1)] [(0, .cell (.pair (.sl (.int .u8)) (.pair .bool .unit)) (.data (.pair (.sl (.int .u8)) (.pair .bool .unit)) c0) false)]
def St1 (x5 : Int) (x10 : List Int) (x11 : Int) (x12 : Int) (c0 : List Int × Bool × Unit) : St := stL 23 [(5, .data (.int .i64) x5), (10, .data (.sl (.int .u8)) x10), (11, .data (.int .i64) x11), (12, .data (.int .i64) x12)] [(0, .cell (.pair (.sl (.int .u8)) (.pair .bool .unit)) (.data (.pair (.sl (.int .u8)) (.pair .bool .unit)) c0) false)]
noncomputable def cd0 : Code := cL (cL (cR (cL (cR (cR (cB Try.f88))))))
def St2 (x5 : Int) (c0 : List Int × Bool × Unit) : St := stL 23 [(5, .data (.int .i64) x5)] [(0, .cell (.pair (.sl (.int .u8)) (.pair .bool .unit)) (.data (.pair (.sl (.int .u8)) (.pair .bool .unit)) c0) false)]
def l0s {α : Type} (Nx : Int → (List Int) → Int → Int → (List Int × Bool × Unit) → Option α) (Xt0 : Int → (List Int × Bool × Unit) → Option α) (x5 : Int) (x10 : List Int) (x11 : Int) (x12 : Int) (c0 : List Int × Bool × Unit) : Option α :=
  if (decide (x12 < x11)) = true then
    if 0 ≤ x12 ∧ x12 < (x10.length : Int) then
      Nx (bor .i64 (shlI .i64 x5 8) (IntKind.i64.wrap (List.getD x10 (Int.toNat x12) 0))) x10 x11 (IntKind.i64.wrap (x12 + 1)) c0
    else none
  else
    Xt0 x5 c0
theorem l0s_eq {α : Type} (k : Nat) (next : St → Option α) (Q : Ex → St → Option α) (x5 : Int) (x10 : List Int) (x11 : Int) (x12 : Int) (c0 : List Int × Bool × Unit) :
    rnd C k cd0 9 Q next (St1 x5 x10 x11 x12 c0) = l0s (fun (x5 : Int) (x10 : List Int) (x11 : Int) (x12 : Int) (c0 : List Int × Bool × Unit) => next (St1 x5 x10 x11 x12 c0)) (fun (x5 : Int) (c0 : List Int × Bool × Unit) => Q (.exit 0) (St2 x5 c0)) x5 x10 x11 x12 c0 := by
  have h : ∀ (D L : DT α), denJ D L Js C cd0 (lq C 9 next Q) (St1 x5 x10 x11 x12 c0) =
        if (decide (x12 < x11)) = true then
          if 0 ≤ x12 ∧ x12 < (x10.length : Int) then
            next (St1 (bor .i64 (shlI .i64 x5 8) (IntKind.i64.wrap (List.getD x10 (Int.toNat x12) 0))) x10 x11 (IntKind.i64.wrap (x12 + 1)) c0)
          else none
        else
          Q (.exit 0) (St2 x5 c0) := by
    intro D L; kernel_rfl
  refine (show rnd C k cd0 9 Q next (St1 x5 x10 x11 x12 c0) = denJ (den C k) (lp C k) Js C cd0 (lq C 9 next Q) (St1 x5 x10 x11 x12 c0) from (denJ_den _ _ _ _ _ _).symm).trans ((h (den C k) (lp C k)).trans ?_)
  first | rfl | kernel_rfl
def l0 {α : Type} (k : Nat) (Xt0 : Int → (List Int × Bool × Unit) → Option α) : Nat → Int → (List Int) → Int → Int → (List Int × Bool × Unit) → Option α
  | 0, _, _, _, _, _ => none
  | n + 1, x5, x10, x11, x12, c0 => l0s (l0 k Xt0 n) Xt0 x5 x10 x11 x12 c0
theorem l0_eq {α : Type} (k : Nat) (Q : Ex → St → Option α) : ∀ (n : Nat) (x5 : Int) (x10 : List Int) (x11 : Int) (x12 : Int) (c0 : List Int × Bool × Unit), iter (rnd C k cd0 9 Q) n (St1 x5 x10 x11 x12 c0) = l0 k (fun (x5 : Int) (c0 : List Int × Bool × Unit) => Q (.exit 0) (St2 x5 c0)) n x5 x10 x11 x12 c0
  | 0, _, _, _, _, _ => rfl
  | n + 1, x5, x10, x11, x12, c0 => (iter_succ _ _ _).trans ((l0s_eq k (iter (rnd C k cd0 9 Q) n) Q x5 x10 x11 x12 c0).trans (congrArg (fun N => l0s N (fun (x5 : Int) (c0 : List Int × Bool × Unit) => Q (.exit 0) (St2 x5 c0)) x5 x10 x11 x12 c0) (funext fun x5 => funext fun x10 => funext fun x11 => funext fun x12 => funext fun c0 => l0_eq k Q n x5 x10 x11 x12 c0)))
theorem l0_congr {α : Type} (k : Nat) (Xt0 : Int → (List Int × Bool × Unit) → Option α) (Xt0q : Int → (List Int × Bool × Unit) → Option α) (hXt0 : ∀ (x5 : Int) (c0 : List Int × Bool × Unit), Xt0 x5 c0 = Xt0q x5 c0) (n : Nat) (x5 : Int) (x10 : List Int) (x11 : Int) (x12 : Int) (c0 : List Int × Bool × Unit) : l0 k Xt0 n x5 x10 x11 x12 c0 = l0 k Xt0q n x5 x10 x11 x12 c0 := by
  obtain rfl : Xt0 = Xt0q := by funext x5; funext c0; exact hXt0 x5 c0
  rfl
noncomputable def cd1 : Code := cR (cR (cR (cB Try.f88)))
def St3 (x5 : Int) (c0 : List Int × Bool × Unit) : St := stL 23 [(5, .data (.int .i64) x5)] [(0, .cell (.pair (.sl (.int .u8)) (.pair .bool .unit)) (.data (.pair (.sl (.int .u8)) (.pair .bool .unit)) c0) false)]
def St4 (x4 : Int) (c0 : List Int × Bool × Unit) : St := stL 23 [(4, .data (.int .i64) x4)] [(0, .cell (.pair (.sl (.int .u8)) (.pair .bool .unit)) (.data (.pair (.sl (.int .u8)) (.pair .bool .unit)) c0) false)]
def j0 {α : Type} (Rt : Int → (List Int × Bool × Unit) → Option α) (x5 : Int) (c0 : List Int × Bool × Unit) : Option α :=
  Rt x5 c0
theorem j0_eq {α : Type} (k : Nat) (Q : Ex → St → Option α) (x5 : Int) (c0 : List Int × Bool × Unit) :
    (den C k) cd1 (endQ C Q) (St3 x5 c0) = j0 (fun (x4 : Int) (c0 : List Int × Bool × Unit) => Q .ret (St4 x4 c0)) x5 c0 := by
  have h : ∀ (D L : DT α), denJ D L Js C cd1 (endQ C Q) (St3 x5 c0) =
        Q .ret (St4 x5 c0) := by
    intro D L; kernel_rfl
  refine (show (den C k) cd1 (endQ C Q) (St3 x5 c0) = denJ (den C k) (lp C k) Js C cd1 (endQ C Q) (St3 x5 c0) from (denJ_den _ _ _ _ _ _).symm).trans ((h (den C k) (lp C k)).trans ?_)
  first | rfl | kernel_rfl
theorem a0 {α : Type} (k : Nat) (Q : Ex → St → Option α) (x5 : Int) (x10 : List Int) (x11 : Int) (x12 : Int) (c0 : List Int × Bool × Unit) :
    (lp C k) cd0 (blkQ C 0 (sq (den C k) (lp C k) Js C cd1 (endQ C Q))) (St1 x5 x10 x11 x12 c0) = l0 k (fun (x5 : Int) (c0 : List Int × Bool × Unit) => j0 (fun (x4 : Int) (c0 : List Int × Bool × Unit) => Q .ret (St4 x4 c0)) x5 c0) k x5 x10 x11 x12 c0 :=
  (show (lp C k) cd0 (blkQ C 0 (sq (den C k) (lp C k) Js C cd1 (endQ C Q))) (St1 x5 x10 x11 x12 c0) = iter (rnd C k cd0 9 (blkQ C 0 (sq (den C k) (lp C k) Js C cd1 (endQ C Q)))) k (St1 x5 x10 x11 x12 c0) by kernel_rfl).trans ((l0_eq k (blkQ C 0 (sq (den C k) (lp C k) Js C cd1 (endQ C Q))) k x5 x10 x11 x12 c0).trans (l0_congr k _ _ (fun x5 c0 => ((show (blkQ C 0 (sq (den C k) (lp C k) Js C cd1 (endQ C Q))) (.exit 0) (St2 x5 c0) = (den C k) cd1 (endQ C Q) (St3 x5 c0) by kernel_rfl).trans (by simp only [j0_eq]))) k x5 x10 x11 x12 c0))
def top {α : Type} (k : Nat) (Rt : Int → (List Int × Bool × Unit) → Option α) (x1 : Int) (c0 : List Int × Bool × Unit) : Option α :=
  (Go.Bx.paper_eye__take_s1.run x1 c0).bind fun y1 =>
  l0 k (fun (x5 : Int) (c0 : List Int × Bool × Unit) => j0 Rt x5 c0) k 0 y1.1 (y1.1.length : Int) 0 y1.2.1
theorem top_eq {α : Type} (k : Nat) (Q : Ex → St → Option α) (x1 : Int) (c0 : List Int × Bool × Unit) :
    (den C k) (cB Try.f88) (endQ C Q) (St0 x1 c0) = top k (fun (x4 : Int) (c0 : List Int × Bool × Unit) => Q .ret (St4 x4 c0)) x1 c0 := by
  have h : ∀ (D L : DT α), denJ D L Js C (cB Try.f88) (endQ C Q) (St0 x1 c0) =
        (Go.Bx.paper_eye__take_s1.run x1 c0).bind fun y1 =>
        L cd0 (blkQ C 0 (sq D L Js C cd1 (endQ C Q))) (St1 0 y1.1 (y1.1.length : Int) 0 y1.2.1) := by
    intro D L; kernel_rfl
  refine (show (den C k) (cB Try.f88) (endQ C Q) (St0 x1 c0) = denJ (den C k) (lp C k) Js C (cB Try.f88) (endQ C Q) (St0 x1 c0) from (denJ_den _ _ _ _ _ _).symm).trans ((h (den C k) (lp C k)).trans ?_)
  simp only [a0]
  first | rfl | kernel_rfl
def run (x1 : Int) (c0 : List Int × Bool × Unit) : Option (Int × (List Int × Bool × Unit) × Unit) := top (α := Int × (List Int × Bool × Unit) × Unit) fuel (fun (x4 : Int) (c0 : List Int × Bool × Unit) => some (x4, c0, ())) x1 c0
def Sp : Spec := ⟨[.ref 0 0 [], hD (.int .i64)], [(0, hC (.pair (.sl (.int .u8)) (.pair .bool .unit)) (hD (.pair (.sl (.int .u8)) (.pair .bool .unit))) false)], (.pair (.int .i64) (.pair (.pair (.sl (.int .u8)) (.pair .bool .unit)) .unit)), hD (.int .i64), [(0, hC (.pair (.sl (.int .u8)) (.pair .bool .unit)) (hD (.pair (.sl (.int .u8)) (.pair .bool .unit))) false)], (.pair (.int .i64) (.pair (.pair (.sl (.int .u8)) (.pair .bool .unit)) .unit)), fun x => run x.1 x.2.1⟩
set_option maxRecDepth 100000 in
theorem sok : SOk Try.prog 88 Sp.h := by
  refine sok_of_den (C := C) (ctx_ok_sh (by kernel_rfl) (by kernel_rfl) (by kernel_rfl) (by kernel_rfl) trivial ⟨⟨⟨Go.Bx.paper_eye__take_s1.sok, trivial⟩, Go.Bx.paper_eye__take_s1.named⟩, trivial⟩) (by kernel_rfl) Try.func88 (c := cB Try.f88) (by kernel_rfl) (by kernel_rfl) Sp fuel (by kernel_rfl) (by kernel_rfl) ?_
  intro x r h
  rw [← h]
  have h1 : Sp.start x Try.f88.ntmps = (St0 x.1 x.2.1) := by kernel_rfl
  rw [h1]
  refine (top_eq fuel (finS C Try.f88.results.toList Sp.read) x.1 x.2.1).trans ?_
  kernel_rfl
theorem named : Named Try.prog 88 := named_of Try.func88 (by kernel_rfl) (by kernel_rfl)
end Go.Bx.paper_eye__number_s1
namespace Go.Bx.paper_eye__word_s0
open Go Go.Proofs Go.Bx
set_option maxRecDepth 100000
set_option linter.unusedVariables false
def Js : List Nat := []
def C : Ctx := ⟨[(59, (.sl (.int .u8))), (69, (.arr 32 (.int .u8)))], [], [], fnL [], shL [(111, [.one Go.Bx.paper_eye__take_s1.Sp])], [(6, 10)], invL [], [(2, [2])], [], [], 1, 0⟩
def St0 (c0 : List Int × Bool × Unit) : St := stL 9 [(0, .ref 0 0 [])] [(0, .cell (.pair (.sl (.int .u8)) (.pair .bool .unit)) (.data (.pair (.sl (.int .u8)) (.pair .bool .unit)) c0) false)]
def St1 (c0 : List Int × Bool × Unit) (c3 : List Int) : St := stL 9 [(2, .ref 3 0 [])] [(0, .cell (.pair (.sl (.int .u8)) (.pair .bool .unit)) (.data (.pair (.sl (.int .u8)) (.pair .bool .unit)) c0) false), (3, .cell (.arr 32 (.int .u8)) (.data (.arr 32 (.int .u8)) c3) false)]
def top {α : Type} (Rt : (List Int × Bool × Unit) → (List Int) → Option α) (c0 : List Int × Bool × Unit) : Option α :=
  (Go.Bx.paper_eye__take_s1.run 32 c0).bind fun y1 =>
  Rt y1.2.1 (cpyL (List.replicate 32 0) 0 32 y1.1)
theorem top_eq {α : Type} (k : Nat) (Q : Ex → St → Option α) (c0 : List Int × Bool × Unit) :
    (den C k) (cB Try.f90) (endQ C Q) (St0 c0) = top (fun (c0 : List Int × Bool × Unit) (c3 : List Int) => Q .ret (St1 c0 c3)) c0 := by
  have h : ∀ (D L : DT α), denJ D L Js C (cB Try.f90) (endQ C Q) (St0 c0) =
        (Go.Bx.paper_eye__take_s1.run 32 c0).bind fun y1 =>
        Q .ret (St1 y1.2.1 (cpyL (List.replicate 32 0) 0 32 y1.1)) := by
    intro D L; kernel_rfl
  refine (show (den C k) (cB Try.f90) (endQ C Q) (St0 c0) = denJ (den C k) (lp C k) Js C (cB Try.f90) (endQ C Q) (St0 c0) from (denJ_den _ _ _ _ _ _).symm).trans ((h (den C k) (lp C k)).trans ?_)
  first | rfl | kernel_rfl
def run (c0 : List Int × Bool × Unit) : Option (List Int × (List Int × Bool × Unit) × List Int × Unit) := top (α := List Int × (List Int × Bool × Unit) × List Int × Unit) (fun (c0 : List Int × Bool × Unit) (c3 : List Int) => some (c3, c0, c3, ())) c0
def Sp : Spec := ⟨[.ref 0 0 []], [(0, hC (.pair (.sl (.int .u8)) (.pair .bool .unit)) (hD (.pair (.sl (.int .u8)) (.pair .bool .unit))) false)], (.pair (.pair (.sl (.int .u8)) (.pair .bool .unit)) .unit), hD (.arr 32 (.int .u8)), [(0, hC (.pair (.sl (.int .u8)) (.pair .bool .unit)) (hD (.pair (.sl (.int .u8)) (.pair .bool .unit))) false), (3, hC (.arr 32 (.int .u8)) (hD (.arr 32 (.int .u8))) false)], (.pair (.arr 32 (.int .u8)) (.pair (.pair (.sl (.int .u8)) (.pair .bool .unit)) (.pair (.arr 32 (.int .u8)) .unit))), fun x => run x.1⟩
set_option maxRecDepth 100000 in
theorem sok : SOk Try.prog 90 Sp.h := by
  refine sok_of_den (C := C) (ctx_ok_sh (by kernel_rfl) (by kernel_rfl) (by kernel_rfl) (by kernel_rfl) trivial ⟨⟨⟨Go.Bx.paper_eye__take_s1.sok, trivial⟩, Go.Bx.paper_eye__take_s1.named⟩, trivial⟩) (by kernel_rfl) Try.func90 (c := cB Try.f90) (by kernel_rfl) (by kernel_rfl) Sp fuel (by kernel_rfl) (by kernel_rfl) ?_
  intro x r h
  rw [← h]
  have h1 : Sp.start x Try.f90.ntmps = (St0 x.1) := by kernel_rfl
  rw [h1]
  refine (top_eq fuel (finS C Try.f90.results.toList Sp.read) x.1).trans ?_
  kernel_rfl
theorem named : Named Try.prog 90 := named_of Try.func90 (by kernel_rfl) (by kernel_rfl)
end Go.Bx.paper_eye__word_s0
namespace Go.Bx.paper_eye__body_s0
open Go Go.Proofs Go.Bx
set_option maxRecDepth 100000
set_option linter.unusedVariables false
def Js : List Nat := []
def C : Ctx := ⟨[(3, (.int .i64)), (59, (.sl (.int .u8))), (69, (.arr 32 (.int .u8))), (76, (.pair (.int .i64) (.pair (.int .i64) (.pair (.int .i64) (.pair (.arr 32 (.int .u8)) (.pair (.int .i64) (.pair (.int .i64) (.pair (.sl (.int .u8)) .unit)))))))), (149, (.pair (.sl (.int .u8)) (.pair .bool .unit)))], [], [], fnL [], shL [(88, [.one Go.Bx.paper_eye__number_s1.Sp]), (90, [.one Go.Bx.paper_eye__word_s0.Sp])], [(5, 31), (8, 31), (11, 31), (14, 31), (17, 32), (20, 32)], invL [], [(2, [2])], [], [27], 1, 0⟩
def St0 (c0 : List Int × Bool × Unit) : St := stL 30 [(0, .ref 0 0 [])] [(0, .cell (.pair (.sl (.int .u8)) (.pair .bool .unit)) (.data (.pair (.sl (.int .u8)) (.pair .bool .unit)) c0) false)]
def St1 (c0 : List Int × Bool × Unit) (c3p0 : Int) (c3p1 : Int) (c3p2 : Int) (c3p3 : List Int) (c3p4 : Int) (c3p5 : Int) (c28 : List Int) : St := stL 30 [(2, .ref 3 0 [])] [(0, .cell (.pair (.sl (.int .u8)) (.pair .bool .unit)) (.data (.pair (.sl (.int .u8)) (.pair .bool .unit)) c0) false), (3, .cell (.pair (.int .i64) (.pair (.int .i64) (.pair (.int .i64) (.pair (.arr 32 (.int .u8)) (.pair (.int .i64) (.pair (.int .i64) (.pair (.sl (.int .u8)) .unit))))))) (.agg (.pair (.int .i64) (.pair (.int .i64) (.pair (.int .i64) (.pair (.arr 32 (.int .u8)) (.pair (.int .i64) (.pair (.int .i64) (.pair (.sl (.int .u8)) .unit))))))) [.data (.int .i64) c3p0, .data (.int .i64) c3p1, .data (.int .i64) c3p2, .data (.arr 32 (.int .u8)) c3p3, .data (.int .i64) c3p4, .data (.int .i64) c3p5, .app 28 0]) false), (28, .buf (.int .u8) c28 0 true)]
def top {α : Type} (Rt : (List Int × Bool × Unit) → Int → Int → Int → (List Int) → Int → Int → (List Int) → Option α) (c0 : List Int × Bool × Unit) : Option α :=
  (Go.Bx.paper_eye__number_s1.run 8 c0).bind fun y1 =>
  (Go.Bx.paper_eye__number_s1.run 4 y1.2.1).bind fun y2 =>
  (Go.Bx.paper_eye__number_s1.run 2 y2.2.1).bind fun y3 =>
  (Go.Bx.paper_eye__word_s0.run y3.2.1).bind fun y4 =>
  (Go.Bx.paper_eye__number_s1.run 8 y4.2.1).bind fun y5 =>
  (Go.Bx.paper_eye__number_s1.run 1 y5.2.1).bind fun y6 =>
  if fitB (0 + y6.2.1.1.length) 1 = true then
    Rt y6.2.1 y1.1 y2.1 y3.1 y4.1 y5.1 y6.1 y6.2.1.1
  else none
theorem top_eq {α : Type} (k : Nat) (Q : Ex → St → Option α) (c0 : List Int × Bool × Unit) :
    (den C k) (cB Try.f91) (endQ C Q) (St0 c0) = top (fun (c0 : List Int × Bool × Unit) (c3p0 : Int) (c3p1 : Int) (c3p2 : Int) (c3p3 : List Int) (c3p4 : Int) (c3p5 : Int) (c28 : List Int) => Q .ret (St1 c0 c3p0 c3p1 c3p2 c3p3 c3p4 c3p5 c28)) c0 := by
  have h : ∀ (D L : DT α), denJ D L Js C (cB Try.f91) (endQ C Q) (St0 c0) =
        (Go.Bx.paper_eye__number_s1.run 8 c0).bind fun y1 =>
        (Go.Bx.paper_eye__number_s1.run 4 y1.2.1).bind fun y2 =>
        (Go.Bx.paper_eye__number_s1.run 2 y2.2.1).bind fun y3 =>
        (Go.Bx.paper_eye__word_s0.run y3.2.1).bind fun y4 =>
        (Go.Bx.paper_eye__number_s1.run 8 y4.2.1).bind fun y5 =>
        (Go.Bx.paper_eye__number_s1.run 1 y5.2.1).bind fun y6 =>
        if fitB (0 + y6.2.1.1.length) 1 = true then
          Q .ret (St1 y6.2.1 y1.1 y2.1 y3.1 y4.1 y5.1 y6.1 y6.2.1.1)
        else none := by
    intro D L; kernel_rfl
  refine (show (den C k) (cB Try.f91) (endQ C Q) (St0 c0) = denJ (den C k) (lp C k) Js C (cB Try.f91) (endQ C Q) (St0 c0) from (denJ_den _ _ _ _ _ _).symm).trans ((h (den C k) (lp C k)).trans ?_)
  first | rfl | kernel_rfl
def run (c0 : List Int × Bool × Unit) : Option (Int × Int × Int × List Int × Int × Int × (List Int × Bool × Unit) × Int × Int × Int × List Int × Int × Int × List Int × Unit) := top (α := Int × Int × Int × List Int × Int × Int × (List Int × Bool × Unit) × Int × Int × Int × List Int × Int × Int × List Int × Unit) (fun (c0 : List Int × Bool × Unit) (c3p0 : Int) (c3p1 : Int) (c3p2 : Int) (c3p3 : List Int) (c3p4 : Int) (c3p5 : Int) (c28 : List Int) => some (c3p0, c3p1, c3p2, c3p3, c3p4, c3p5, c0, c3p0, c3p1, c3p2, c3p3, c3p4, c3p5, c28, ())) c0
def Sp : Spec := ⟨[.ref 0 0 []], [(0, hC (.pair (.sl (.int .u8)) (.pair .bool .unit)) (hD (.pair (.sl (.int .u8)) (.pair .bool .unit))) false)], (.pair (.pair (.sl (.int .u8)) (.pair .bool .unit)) .unit), .agg (.pair (.int .i64) (.pair (.int .i64) (.pair (.int .i64) (.pair (.arr 32 (.int .u8)) (.pair (.int .i64) (.pair (.int .i64) (.pair (.sl (.int .u8)) .unit))))))) [hD (.int .i64), hD (.int .i64), hD (.int .i64), hD (.arr 32 (.int .u8)), hD (.int .i64), hD (.int .i64), .app 28 0], [(0, hC (.pair (.sl (.int .u8)) (.pair .bool .unit)) (hD (.pair (.sl (.int .u8)) (.pair .bool .unit))) false), (3, hC (.pair (.int .i64) (.pair (.int .i64) (.pair (.int .i64) (.pair (.arr 32 (.int .u8)) (.pair (.int .i64) (.pair (.int .i64) (.pair (.sl (.int .u8)) .unit))))))) (.agg (.pair (.int .i64) (.pair (.int .i64) (.pair (.int .i64) (.pair (.arr 32 (.int .u8)) (.pair (.int .i64) (.pair (.int .i64) (.pair (.sl (.int .u8)) .unit))))))) [hD (.int .i64), hD (.int .i64), hD (.int .i64), hD (.arr 32 (.int .u8)), hD (.int .i64), hD (.int .i64), .app 28 0]) false), (28, hB (.int .u8) 0 true)], (.pair (.int .i64) (.pair (.int .i64) (.pair (.int .i64) (.pair (.arr 32 (.int .u8)) (.pair (.int .i64) (.pair (.int .i64) (.pair (.pair (.sl (.int .u8)) (.pair .bool .unit)) (.pair (.int .i64) (.pair (.int .i64) (.pair (.int .i64) (.pair (.arr 32 (.int .u8)) (.pair (.int .i64) (.pair (.int .i64) (.pair (.sl (.int .u8)) .unit)))))))))))))), fun x => run x.1⟩
set_option maxRecDepth 100000 in
theorem sok : SOk Try.prog 91 Sp.h := by
  refine sok_of_den (C := C) (ctx_ok_sh (by kernel_rfl) (by kernel_rfl) (by kernel_rfl) (by kernel_rfl) trivial ⟨⟨⟨Go.Bx.paper_eye__number_s1.sok, trivial⟩, Go.Bx.paper_eye__number_s1.named⟩, ⟨⟨⟨Go.Bx.paper_eye__word_s0.sok, trivial⟩, Go.Bx.paper_eye__word_s0.named⟩, trivial⟩⟩) (by kernel_rfl) Try.func91 (c := cB Try.f91) (by kernel_rfl) (by kernel_rfl) Sp fuel (by kernel_rfl) (by kernel_rfl) ?_
  intro x r h
  rw [← h]
  have h1 : Sp.start x Try.f91.ntmps = (St0 x.1) := by kernel_rfl
  rw [h1]
  refine (top_eq fuel (finS C Try.f91.results.toList Sp.read) x.1).trans ?_
  kernel_rfl
theorem named : Named Try.prog 91 := named_of Try.func91 (by kernel_rfl) (by kernel_rfl)
end Go.Bx.paper_eye__body_s0
namespace Go.Bx.paper_Decode
open Go Go.Proofs Go.Bx
set_option maxRecDepth 100000
set_option linter.unusedVariables false
def Js : List Nat := [20]
def C : Ctx := ⟨[(3, (.int .i64)), (4, .bool), (23, (.int .i64)), (56, (.arr 4 (.int .u64))), (59, (.sl (.int .u8))), (74, (.sl (.pair (.int .i64) (.pair (.pair (.arr 4 (.int .u64)) (.pair (.arr 4 (.int .u64)) (.pair (.int .i64) .unit))) .unit)))), (76, (.pair (.int .i64) (.pair (.int .i64) (.pair (.int .i64) (.pair (.arr 32 (.int .u8)) (.pair (.int .i64) (.pair (.int .i64) (.pair (.sl (.int .u8)) .unit)))))))), (78, (.pair (.int .i64) (.pair (.sl (.pair (.int .i64) (.pair (.pair (.arr 4 (.int .u64)) (.pair (.arr 4 (.int .u64)) (.pair (.int .i64) .unit))) .unit))) (.pair (.pair (.int .i64) (.pair (.int .i64) (.pair (.int .i64) (.pair (.arr 32 (.int .u8)) (.pair (.int .i64) (.pair (.int .i64) (.pair (.sl (.int .u8)) .unit))))))) .unit)))), (139, (.pair (.arr 4 (.int .u64)) (.pair (.arr 4 (.int .u64)) (.pair (.int .i64) .unit)))), (141, (.pair (.int .i64) (.pair (.pair (.arr 4 (.int .u64)) (.pair (.arr 4 (.int .u64)) (.pair (.int .i64) .unit))) .unit))), (149, (.pair (.sl (.int .u8)) (.pair .bool .unit)))], [], [], fnL [(79, Go.Bx.paper_fault.F), (89, Go.Bx.wide_From.F)], shL [(88, [.one Go.Bx.paper_eye__number_s1.Sp]), (90, [.one Go.Bx.paper_eye__word_s0.Sp]), (91, [.one Go.Bx.paper_eye__body_s0.Sp])], [(14, 82), (25, 82), (28, 82), (42, 82), (45, 82), (50, 83), (55, 84), (66, 84)], invL [], [(2, [2, 3]), (1, [2, 4, 6]), (4, [2, 4, 6, 38, 39]), (33, [2, 4, 6, 38, 39]), (57, [2, 4, 6])], [(2, [.dat false 2 [1], .dat false 2 [2, 6]]), (33, [.melt false 6 [1] 62 true])], [], 0, 0⟩
def St0 (x0 : List Int) : St := stL 81 [(0, .data (.sl (.int .u8)) x0)] []
def St1 (x3 : Int) (c2 : Int × List (Int × (List Int × List Int × Int × Unit) × Unit) × (Int × Int × Int × List Int × Int × Int × List Int × Unit) × Unit) : St := stL 81 [(2, .ref 2 0 []), (3, .data (.int .i64) x3)] [(2, .cell (.pair (.int .i64) (.pair (.sl (.pair (.int .i64) (.pair (.pair (.arr 4 (.int .u64)) (.pair (.arr 4 (.int .u64)) (.pair (.int .i64) .unit))) .unit))) (.pair (.pair (.int .i64) (.pair (.int .i64) (.pair (.int .i64) (.pair (.arr 32 (.int .u8)) (.pair (.int .i64) (.pair (.int .i64) (.pair (.sl (.int .u8)) .unit))))))) .unit))) (.data (.pair (.int .i64) (.pair (.sl (.pair (.int .i64) (.pair (.pair (.arr 4 (.int .u64)) (.pair (.arr 4 (.int .u64)) (.pair (.int .i64) .unit))) .unit))) (.pair (.pair (.int .i64) (.pair (.int .i64) (.pair (.int .i64) (.pair (.arr 32 (.int .u8)) (.pair (.int .i64) (.pair (.int .i64) (.pair (.sl (.int .u8)) .unit))))))) .unit))) c2) false)]
def St2 (x38 : Int) (x39 : Int) (c2p0 : Int) (c2p2p0 : Int) (c2p2p1 : Int) (c2p2p2 : Int) (c2p2p3 : List Int) (c2p2p4 : Int) (c2p2p5 : Int) (c6p0 : Int) (c6p2p0 : Int) (c6p2p1 : Int) (c6p2p2 : Int) (c6p2p3 : List Int) (c6p2p4 : Int) (c6p2p5 : Int) (c12 : List Int × Bool × Unit) (c62 : List (Int × (List Int × List Int × Int × Unit) × Unit)) : St := stL 81 [(2, .ref 2 0 []), (4, .ref 12 0 []), (6, .ref 6 0 []), (38, .data (.int .i64) x38), (39, .data (.int .i64) x39)] [(2, .cell (.pair (.int .i64) (.pair (.sl (.pair (.int .i64) (.pair (.pair (.arr 4 (.int .u64)) (.pair (.arr 4 (.int .u64)) (.pair (.int .i64) .unit))) .unit))) (.pair (.pair (.int .i64) (.pair (.int .i64) (.pair (.int .i64) (.pair (.arr 32 (.int .u8)) (.pair (.int .i64) (.pair (.int .i64) (.pair (.sl (.int .u8)) .unit))))))) .unit))) (.agg (.pair (.int .i64) (.pair (.sl (.pair (.int .i64) (.pair (.pair (.arr 4 (.int .u64)) (.pair (.arr 4 (.int .u64)) (.pair (.int .i64) .unit))) .unit))) (.pair (.pair (.int .i64) (.pair (.int .i64) (.pair (.int .i64) (.pair (.arr 32 (.int .u8)) (.pair (.int .i64) (.pair (.int .i64) (.pair (.sl (.int .u8)) .unit))))))) .unit))) [.data (.int .i64) c2p0, .full (.pair (.int .i64) (.pair (.pair (.arr 4 (.int .u64)) (.pair (.arr 4 (.int .u64)) (.pair (.int .i64) .unit))) .unit)) [], .agg (.pair (.int .i64) (.pair (.int .i64) (.pair (.int .i64) (.pair (.arr 32 (.int .u8)) (.pair (.int .i64) (.pair (.int .i64) (.pair (.sl (.int .u8)) .unit))))))) [.data (.int .i64) c2p2p0, .data (.int .i64) c2p2p1, .data (.int .i64) c2p2p2, .data (.arr 32 (.int .u8)) c2p2p3, .data (.int .i64) c2p2p4, .data (.int .i64) c2p2p5, .full (.int .u8) []]]) false), (6, .cell (.pair (.int .i64) (.pair (.sl (.pair (.int .i64) (.pair (.pair (.arr 4 (.int .u64)) (.pair (.arr 4 (.int .u64)) (.pair (.int .i64) .unit))) .unit))) (.pair (.pair (.int .i64) (.pair (.int .i64) (.pair (.int .i64) (.pair (.arr 32 (.int .u8)) (.pair (.int .i64) (.pair (.int .i64) (.pair (.sl (.int .u8)) .unit))))))) .unit))) (.agg (.pair (.int .i64) (.pair (.sl (.pair (.int .i64) (.pair (.pair (.arr 4 (.int .u64)) (.pair (.arr 4 (.int .u64)) (.pair (.int .i64) .unit))) .unit))) (.pair (.pair (.int .i64) (.pair (.int .i64) (.pair (.int .i64) (.pair (.arr 32 (.int .u8)) (.pair (.int .i64) (.pair (.int .i64) (.pair (.sl (.int .u8)) .unit))))))) .unit))) [.data (.int .i64) c6p0, .app 62 0, .agg (.pair (.int .i64) (.pair (.int .i64) (.pair (.int .i64) (.pair (.arr 32 (.int .u8)) (.pair (.int .i64) (.pair (.int .i64) (.pair (.sl (.int .u8)) .unit))))))) [.data (.int .i64) c6p2p0, .data (.int .i64) c6p2p1, .data (.int .i64) c6p2p2, .data (.arr 32 (.int .u8)) c6p2p3, .data (.int .i64) c6p2p4, .data (.int .i64) c6p2p5, .full (.int .u8) []]]) false), (12, .cell (.pair (.sl (.int .u8)) (.pair .bool .unit)) (.data (.pair (.sl (.int .u8)) (.pair .bool .unit)) c12) false), (62, .buf (.pair (.int .i64) (.pair (.pair (.arr 4 (.int .u64)) (.pair (.arr 4 (.int .u64)) (.pair (.int .i64) .unit))) .unit)) c62 0 true)]
noncomputable def cd0 : Code := cL (cL (cR (cL (cR (cR (cR (cR (cR (cR (cR (cR (cB Try.f46))))))))))))
def St3 (c2p0 : Int) (c2p2p0 : Int) (c2p2p1 : Int) (c2p2p2 : Int) (c2p2p3 : List Int) (c2p2p4 : Int) (c2p2p5 : Int) (c6p0 : Int) (c6p2p0 : Int) (c6p2p1 : Int) (c6p2p2 : Int) (c6p2p3 : List Int) (c6p2p4 : Int) (c6p2p5 : Int) (c12 : List Int × Bool × Unit) (c62 : List (Int × (List Int × List Int × Int × Unit) × Unit)) : St := stL 81 [(2, .ref 2 0 []), (4, .ref 12 0 []), (6, .ref 6 0 [])] [(2, .cell (.pair (.int .i64) (.pair (.sl (.pair (.int .i64) (.pair (.pair (.arr 4 (.int .u64)) (.pair (.arr 4 (.int .u64)) (.pair (.int .i64) .unit))) .unit))) (.pair (.pair (.int .i64) (.pair (.int .i64) (.pair (.int .i64) (.pair (.arr 32 (.int .u8)) (.pair (.int .i64) (.pair (.int .i64) (.pair (.sl (.int .u8)) .unit))))))) .unit))) (.agg (.pair (.int .i64) (.pair (.sl (.pair (.int .i64) (.pair (.pair (.arr 4 (.int .u64)) (.pair (.arr 4 (.int .u64)) (.pair (.int .i64) .unit))) .unit))) (.pair (.pair (.int .i64) (.pair (.int .i64) (.pair (.int .i64) (.pair (.arr 32 (.int .u8)) (.pair (.int .i64) (.pair (.int .i64) (.pair (.sl (.int .u8)) .unit))))))) .unit))) [.data (.int .i64) c2p0, .full (.pair (.int .i64) (.pair (.pair (.arr 4 (.int .u64)) (.pair (.arr 4 (.int .u64)) (.pair (.int .i64) .unit))) .unit)) [], .agg (.pair (.int .i64) (.pair (.int .i64) (.pair (.int .i64) (.pair (.arr 32 (.int .u8)) (.pair (.int .i64) (.pair (.int .i64) (.pair (.sl (.int .u8)) .unit))))))) [.data (.int .i64) c2p2p0, .data (.int .i64) c2p2p1, .data (.int .i64) c2p2p2, .data (.arr 32 (.int .u8)) c2p2p3, .data (.int .i64) c2p2p4, .data (.int .i64) c2p2p5, .full (.int .u8) []]]) false), (6, .cell (.pair (.int .i64) (.pair (.sl (.pair (.int .i64) (.pair (.pair (.arr 4 (.int .u64)) (.pair (.arr 4 (.int .u64)) (.pair (.int .i64) .unit))) .unit))) (.pair (.pair (.int .i64) (.pair (.int .i64) (.pair (.int .i64) (.pair (.arr 32 (.int .u8)) (.pair (.int .i64) (.pair (.int .i64) (.pair (.sl (.int .u8)) .unit))))))) .unit))) (.agg (.pair (.int .i64) (.pair (.sl (.pair (.int .i64) (.pair (.pair (.arr 4 (.int .u64)) (.pair (.arr 4 (.int .u64)) (.pair (.int .i64) .unit))) .unit))) (.pair (.pair (.int .i64) (.pair (.int .i64) (.pair (.int .i64) (.pair (.arr 32 (.int .u8)) (.pair (.int .i64) (.pair (.int .i64) (.pair (.sl (.int .u8)) .unit))))))) .unit))) [.data (.int .i64) c6p0, .app 62 0, .agg (.pair (.int .i64) (.pair (.int .i64) (.pair (.int .i64) (.pair (.arr 32 (.int .u8)) (.pair (.int .i64) (.pair (.int .i64) (.pair (.sl (.int .u8)) .unit))))))) [.data (.int .i64) c6p2p0, .data (.int .i64) c6p2p1, .data (.int .i64) c6p2p2, .data (.arr 32 (.int .u8)) c6p2p3, .data (.int .i64) c6p2p4, .data (.int .i64) c6p2p5, .full (.int .u8) []]]) false), (12, .cell (.pair (.sl (.int .u8)) (.pair .bool .unit)) (.data (.pair (.sl (.int .u8)) (.pair .bool .unit)) c12) false), (62, .buf (.pair (.int .i64) (.pair (.pair (.arr 4 (.int .u64)) (.pair (.arr 4 (.int .u64)) (.pair (.int .i64) .unit))) .unit)) c62 0 true)]
def l0s {α : Type} (Nx : Int → Int → Int → Int → Int → Int → (List Int) → Int → Int → Int → Int → Int → Int → (List Int) → Int → Int → (List Int × Bool × Unit) → (List (Int × (List Int × List Int × Int × Unit) × Unit)) → Option α) (Xt0 : Int → Int → Int → Int → (List Int) → Int → Int → Int → Int → Int → Int → (List Int) → Int → Int → (List Int × Bool × Unit) → (List (Int × (List Int × List Int × Int × Unit) × Unit)) → Option α) (x38 : Int) (x39 : Int) (c2p0 : Int) (c2p2p0 : Int) (c2p2p1 : Int) (c2p2p2 : Int) (c2p2p3 : List Int) (c2p2p4 : Int) (c2p2p5 : Int) (c6p0 : Int) (c6p2p0 : Int) (c6p2p1 : Int) (c6p2p2 : Int) (c6p2p3 : List Int) (c6p2p4 : Int) (c6p2p5 : Int) (c12 : List Int × Bool × Unit) (c62 : List (Int × (List Int × List Int × Int × Unit) × Unit)) : Option α :=
  if (decide (x39 < x38)) = true then
    (Go.Bx.paper_eye__number_s1.run 1 c12).bind fun y4 =>
    (Go.Bx.paper_eye__word_s0.run y4.2.1).bind fun y5 =>
    (Go.Bx.wide_From.run y5.1).bind fun y6 =>
    (Go.Bx.paper_eye__word_s0.run y5.2.1).bind fun y7 =>
    (Go.Bx.wide_From.run y7.1).bind fun y8 =>
    (Go.Bx.paper_eye__number_s1.run 1 y7.2.1).bind fun y9 =>
    if fitB (c62.length + 1) 80 = true then
      Nx x38 (IntKind.i64.wrap (x39 + 1)) c2p0 c2p2p0 c2p2p1 c2p2p2 c2p2p3 c2p2p4 c2p2p5 c6p0 c6p2p0 c6p2p1 c6p2p2 c6p2p3 c6p2p4 c6p2p5 y9.2.1 (c62 ++ [(y4.1, (y6, y8, y9.1, ()), ())])
    else none
  else
    Xt0 c2p0 c2p2p0 c2p2p1 c2p2p2 c2p2p3 c2p2p4 c2p2p5 c6p0 c6p2p0 c6p2p1 c6p2p2 c6p2p3 c6p2p4 c6p2p5 c12 c62
theorem l0s_eq {α : Type} (k : Nat) (next : St → Option α) (Q : Ex → St → Option α) (x38 : Int) (x39 : Int) (c2p0 : Int) (c2p2p0 : Int) (c2p2p1 : Int) (c2p2p2 : Int) (c2p2p3 : List Int) (c2p2p4 : Int) (c2p2p5 : Int) (c6p0 : Int) (c6p2p0 : Int) (c6p2p1 : Int) (c6p2p2 : Int) (c6p2p3 : List Int) (c6p2p4 : Int) (c6p2p5 : Int) (c12 : List Int × Bool × Unit) (c62 : List (Int × (List Int × List Int × Int × Unit) × Unit)) :
    rnd C k cd0 33 Q next (St2 x38 x39 c2p0 c2p2p0 c2p2p1 c2p2p2 c2p2p3 c2p2p4 c2p2p5 c6p0 c6p2p0 c6p2p1 c6p2p2 c6p2p3 c6p2p4 c6p2p5 c12 c62) = l0s (fun (x38 : Int) (x39 : Int) (c2p0 : Int) (c2p2p0 : Int) (c2p2p1 : Int) (c2p2p2 : Int) (c2p2p3 : List Int) (c2p2p4 : Int) (c2p2p5 : Int) (c6p0 : Int) (c6p2p0 : Int) (c6p2p1 : Int) (c6p2p2 : Int) (c6p2p3 : List Int) (c6p2p4 : Int) (c6p2p5 : Int) (c12 : List Int × Bool × Unit) (c62 : List (Int × (List Int × List Int × Int × Unit) × Unit)) => next (St2 x38 x39 c2p0 c2p2p0 c2p2p1 c2p2p2 c2p2p3 c2p2p4 c2p2p5 c6p0 c6p2p0 c6p2p1 c6p2p2 c6p2p3 c6p2p4 c6p2p5 c12 c62)) (fun (c2p0 : Int) (c2p2p0 : Int) (c2p2p1 : Int) (c2p2p2 : Int) (c2p2p3 : List Int) (c2p2p4 : Int) (c2p2p5 : Int) (c6p0 : Int) (c6p2p0 : Int) (c6p2p1 : Int) (c6p2p2 : Int) (c6p2p3 : List Int) (c6p2p4 : Int) (c6p2p5 : Int) (c12 : List Int × Bool × Unit) (c62 : List (Int × (List Int × List Int × Int × Unit) × Unit)) => Q (.exit 0) (St3 c2p0 c2p2p0 c2p2p1 c2p2p2 c2p2p3 c2p2p4 c2p2p5 c6p0 c6p2p0 c6p2p1 c6p2p2 c6p2p3 c6p2p4 c6p2p5 c12 c62)) x38 x39 c2p0 c2p2p0 c2p2p1 c2p2p2 c2p2p3 c2p2p4 c2p2p5 c6p0 c6p2p0 c6p2p1 c6p2p2 c6p2p3 c6p2p4 c6p2p5 c12 c62 := by
  have h : ∀ (D L : DT α), denJ D L Js C cd0 (lq C 33 next Q) (St2 x38 x39 c2p0 c2p2p0 c2p2p1 c2p2p2 c2p2p3 c2p2p4 c2p2p5 c6p0 c6p2p0 c6p2p1 c6p2p2 c6p2p3 c6p2p4 c6p2p5 c12 c62) =
        if (decide (x39 < x38)) = true then
          (Go.Bx.paper_eye__number_s1.run 1 c12).bind fun y4 =>
          (Go.Bx.paper_eye__word_s0.run y4.2.1).bind fun y5 =>
          (Go.Bx.wide_From.run y5.1).bind fun y6 =>
          (Go.Bx.paper_eye__word_s0.run y5.2.1).bind fun y7 =>
          (Go.Bx.wide_From.run y7.1).bind fun y8 =>
          (Go.Bx.paper_eye__number_s1.run 1 y7.2.1).bind fun y9 =>
          if fitB (c62.length + 1) 80 = true then
            next (St2 x38 (IntKind.i64.wrap (x39 + 1)) c2p0 c2p2p0 c2p2p1 c2p2p2 c2p2p3 c2p2p4 c2p2p5 c6p0 c6p2p0 c6p2p1 c6p2p2 c6p2p3 c6p2p4 c6p2p5 y9.2.1 (c62 ++ [(y4.1, (y6, y8, y9.1, ()), ())]))
          else none
        else
          Q (.exit 0) (St3 c2p0 c2p2p0 c2p2p1 c2p2p2 c2p2p3 c2p2p4 c2p2p5 c6p0 c6p2p0 c6p2p1 c6p2p2 c6p2p3 c6p2p4 c6p2p5 c12 c62) := by
    intro D L; kernel_rfl
  refine (show rnd C k cd0 33 Q next (St2 x38 x39 c2p0 c2p2p0 c2p2p1 c2p2p2 c2p2p3 c2p2p4 c2p2p5 c6p0 c6p2p0 c6p2p1 c6p2p2 c6p2p3 c6p2p4 c6p2p5 c12 c62) = denJ (den C k) (lp C k) Js C cd0 (lq C 33 next Q) (St2 x38 x39 c2p0 c2p2p0 c2p2p1 c2p2p2 c2p2p3 c2p2p4 c2p2p5 c6p0 c6p2p0 c6p2p1 c6p2p2 c6p2p3 c6p2p4 c6p2p5 c12 c62) from (denJ_den _ _ _ _ _ _).symm).trans ((h (den C k) (lp C k)).trans ?_)
  first | rfl | kernel_rfl
def l0 {α : Type} (k : Nat) (Xt0 : Int → Int → Int → Int → (List Int) → Int → Int → Int → Int → Int → Int → (List Int) → Int → Int → (List Int × Bool × Unit) → (List (Int × (List Int × List Int × Int × Unit) × Unit)) → Option α) : Nat → Int → Int → Int → Int → Int → Int → (List Int) → Int → Int → Int → Int → Int → Int → (List Int) → Int → Int → (List Int × Bool × Unit) → (List (Int × (List Int × List Int × Int × Unit) × Unit)) → Option α
  | 0, _, _, _, _, _, _, _, _, _, _, _, _, _, _, _, _, _, _ => none
  | n + 1, x38, x39, c2p0, c2p2p0, c2p2p1, c2p2p2, c2p2p3, c2p2p4, c2p2p5, c6p0, c6p2p0, c6p2p1, c6p2p2, c6p2p3, c6p2p4, c6p2p5, c12, c62 => l0s (l0 k Xt0 n) Xt0 x38 x39 c2p0 c2p2p0 c2p2p1 c2p2p2 c2p2p3 c2p2p4 c2p2p5 c6p0 c6p2p0 c6p2p1 c6p2p2 c6p2p3 c6p2p4 c6p2p5 c12 c62
theorem l0_eq {α : Type} (k : Nat) (Q : Ex → St → Option α) : ∀ (n : Nat) (x38 : Int) (x39 : Int) (c2p0 : Int) (c2p2p0 : Int) (c2p2p1 : Int) (c2p2p2 : Int) (c2p2p3 : List Int) (c2p2p4 : Int) (c2p2p5 : Int) (c6p0 : Int) (c6p2p0 : Int) (c6p2p1 : Int) (c6p2p2 : Int) (c6p2p3 : List Int) (c6p2p4 : Int) (c6p2p5 : Int) (c12 : List Int × Bool × Unit) (c62 : List (Int × (List Int × List Int × Int × Unit) × Unit)), iter (rnd C k cd0 33 Q) n (St2 x38 x39 c2p0 c2p2p0 c2p2p1 c2p2p2 c2p2p3 c2p2p4 c2p2p5 c6p0 c6p2p0 c6p2p1 c6p2p2 c6p2p3 c6p2p4 c6p2p5 c12 c62) = l0 k (fun (c2p0 : Int) (c2p2p0 : Int) (c2p2p1 : Int) (c2p2p2 : Int) (c2p2p3 : List Int) (c2p2p4 : Int) (c2p2p5 : Int) (c6p0 : Int) (c6p2p0 : Int) (c6p2p1 : Int) (c6p2p2 : Int) (c6p2p3 : List Int) (c6p2p4 : Int) (c6p2p5 : Int) (c12 : List Int × Bool × Unit) (c62 : List (Int × (List Int × List Int × Int × Unit) × Unit)) => Q (.exit 0) (St3 c2p0 c2p2p0 c2p2p1 c2p2p2 c2p2p3 c2p2p4 c2p2p5 c6p0 c6p2p0 c6p2p1 c6p2p2 c6p2p3 c6p2p4 c6p2p5 c12 c62)) n x38 x39 c2p0 c2p2p0 c2p2p1 c2p2p2 c2p2p3 c2p2p4 c2p2p5 c6p0 c6p2p0 c6p2p1 c6p2p2 c6p2p3 c6p2p4 c6p2p5 c12 c62
  | 0, _, _, _, _, _, _, _, _, _, _, _, _, _, _, _, _, _, _ => rfl
  | n + 1, x38, x39, c2p0, c2p2p0, c2p2p1, c2p2p2, c2p2p3, c2p2p4, c2p2p5, c6p0, c6p2p0, c6p2p1, c6p2p2, c6p2p3, c6p2p4, c6p2p5, c12, c62 => (iter_succ _ _ _).trans ((l0s_eq k (iter (rnd C k cd0 33 Q) n) Q x38 x39 c2p0 c2p2p0 c2p2p1 c2p2p2 c2p2p3 c2p2p4 c2p2p5 c6p0 c6p2p0 c6p2p1 c6p2p2 c6p2p3 c6p2p4 c6p2p5 c12 c62).trans (congrArg (fun N => l0s N (fun (c2p0 : Int) (c2p2p0 : Int) (c2p2p1 : Int) (c2p2p2 : Int) (c2p2p3 : List Int) (c2p2p4 : Int) (c2p2p5 : Int) (c6p0 : Int) (c6p2p0 : Int) (c6p2p1 : Int) (c6p2p2 : Int) (c6p2p3 : List Int) (c6p2p4 : Int) (c6p2p5 : Int) (c12 : List Int × Bool × Unit) (c62 : List (Int × (List Int × List Int × Int × Unit) × Unit)) => Q (.exit 0) (St3 c2p0 c2p2p0 c2p2p1 c2p2p2 c2p2p3 c2p2p4 c2p2p5 c6p0 c6p2p0 c6p2p1 c6p2p2 c6p2p3 c6p2p4 c6p2p5 c12 c62)) x38 x39 c2p0 c2p2p0 c2p2p1 c2p2p2 c2p2p3 c2p2p4 c2p2p5 c6p0 c6p2p0 c6p2p1 c6p2p2 c6p2p3 c6p2p4 c6p2p5 c12 c62) (funext fun x38 => funext fun x39 => funext fun c2p0 => funext fun c2p2p0 => funext fun c2p2p1 => funext fun c2p2p2 => funext fun c2p2p3 => funext fun c2p2p4 => funext fun c2p2p5 => funext fun c6p0 => funext fun c6p2p0 => funext fun c6p2p1 => funext fun c6p2p2 => funext fun c6p2p3 => funext fun c6p2p4 => funext fun c6p2p5 => funext fun c12 => funext fun c62 => l0_eq k Q n x38 x39 c2p0 c2p2p0 c2p2p1 c2p2p2 c2p2p3 c2p2p4 c2p2p5 c6p0 c6p2p0 c6p2p1 c6p2p2 c6p2p3 c6p2p4 c6p2p5 c12 c62)))
theorem l0_congr {α : Type} (k : Nat) (Xt0 : Int → Int → Int → Int → (List Int) → Int → Int → Int → Int → Int → Int → (List Int) → Int → Int → (List Int × Bool × Unit) → (List (Int × (List Int × List Int × Int × Unit) × Unit)) → Option α) (Xt0q : Int → Int → Int → Int → (List Int) → Int → Int → Int → Int → Int → Int → (List Int) → Int → Int → (List Int × Bool × Unit) → (List (Int × (List Int × List Int × Int × Unit) × Unit)) → Option α) (hXt0 : ∀ (c2p0 : Int) (c2p2p0 : Int) (c2p2p1 : Int) (c2p2p2 : Int) (c2p2p3 : List Int) (c2p2p4 : Int) (c2p2p5 : Int) (c6p0 : Int) (c6p2p0 : Int) (c6p2p1 : Int) (c6p2p2 : Int) (c6p2p3 : List Int) (c6p2p4 : Int) (c6p2p5 : Int) (c12 : List Int × Bool × Unit) (c62 : List (Int × (List Int × List Int × Int × Unit) × Unit)), Xt0 c2p0 c2p2p0 c2p2p1 c2p2p2 c2p2p3 c2p2p4 c2p2p5 c6p0 c6p2p0 c6p2p1 c6p2p2 c6p2p3 c6p2p4 c6p2p5 c12 c62 = Xt0q c2p0 c2p2p0 c2p2p1 c2p2p2 c2p2p3 c2p2p4 c2p2p5 c6p0 c6p2p0 c6p2p1 c6p2p2 c6p2p3 c6p2p4 c6p2p5 c12 c62) (n : Nat) (x38 : Int) (x39 : Int) (c2p0 : Int) (c2p2p0 : Int) (c2p2p1 : Int) (c2p2p2 : Int) (c2p2p3 : List Int) (c2p2p4 : Int) (c2p2p5 : Int) (c6p0 : Int) (c6p2p0 : Int) (c6p2p1 : Int) (c6p2p2 : Int) (c6p2p3 : List Int) (c6p2p4 : Int) (c6p2p5 : Int) (c12 : List Int × Bool × Unit) (c62 : List (Int × (List Int × List Int × Int × Unit) × Unit)) : l0 k Xt0 n x38 x39 c2p0 c2p2p0 c2p2p1 c2p2p2 c2p2p3 c2p2p4 c2p2p5 c6p0 c6p2p0 c6p2p1 c6p2p2 c6p2p3 c6p2p4 c6p2p5 c12 c62 = l0 k Xt0q n x38 x39 c2p0 c2p2p0 c2p2p1 c2p2p2 c2p2p3 c2p2p4 c2p2p5 c6p0 c6p2p0 c6p2p1 c6p2p2 c6p2p3 c6p2p4 c6p2p5 c12 c62 := by
  obtain rfl : Xt0 = Xt0q := by funext c2p0; funext c2p2p0; funext c2p2p1; funext c2p2p2; funext c2p2p3; funext c2p2p4; funext c2p2p5; funext c6p0; funext c6p2p0; funext c6p2p1; funext c6p2p2; funext c6p2p3; funext c6p2p4; funext c6p2p5; funext c12; funext c62; exact hXt0 c2p0 c2p2p0 c2p2p1 c2p2p2 c2p2p3 c2p2p4 c2p2p5 c6p0 c6p2p0 c6p2p1 c6p2p2 c6p2p3 c6p2p4 c6p2p5 c12 c62
  rfl
noncomputable def cd1 : Code := cR (cR (cR (cR (cR (cR (cR (cR (cR (cB Try.f46)))))))))
def St4 (c2p0 : Int) (c2p2p0 : Int) (c2p2p1 : Int) (c2p2p2 : Int) (c2p2p3 : List Int) (c2p2p4 : Int) (c2p2p5 : Int) (c6p0 : Int) (c6p2p0 : Int) (c6p2p1 : Int) (c6p2p2 : Int) (c6p2p3 : List Int) (c6p2p4 : Int) (c6p2p5 : Int) (c12 : List Int × Bool × Unit) (c62 : List (Int × (List Int × List Int × Int × Unit) × Unit)) : St := stL 81 [(2, .ref 2 0 []), (4, .ref 12 0 []), (6, .ref 6 0 [])] [(2, .cell (.pair (.int .i64) (.pair (.sl (.pair (.int .i64) (.pair (.pair (.arr 4 (.int .u64)) (.pair (.arr 4 (.int .u64)) (.pair (.int .i64) .unit))) .unit))) (.pair (.pair (.int .i64) (.pair (.int .i64) (.pair (.int .i64) (.pair (.arr 32 (.int .u8)) (.pair (.int .i64) (.pair (.int .i64) (.pair (.sl (.int .u8)) .unit))))))) .unit))) (.agg (.pair (.int .i64) (.pair (.sl (.pair (.int .i64) (.pair (.pair (.arr 4 (.int .u64)) (.pair (.arr 4 (.int .u64)) (.pair (.int .i64) .unit))) .unit))) (.pair (.pair (.int .i64) (.pair (.int .i64) (.pair (.int .i64) (.pair (.arr 32 (.int .u8)) (.pair (.int .i64) (.pair (.int .i64) (.pair (.sl (.int .u8)) .unit))))))) .unit))) [.data (.int .i64) c2p0, .full (.pair (.int .i64) (.pair (.pair (.arr 4 (.int .u64)) (.pair (.arr 4 (.int .u64)) (.pair (.int .i64) .unit))) .unit)) [], .agg (.pair (.int .i64) (.pair (.int .i64) (.pair (.int .i64) (.pair (.arr 32 (.int .u8)) (.pair (.int .i64) (.pair (.int .i64) (.pair (.sl (.int .u8)) .unit))))))) [.data (.int .i64) c2p2p0, .data (.int .i64) c2p2p1, .data (.int .i64) c2p2p2, .data (.arr 32 (.int .u8)) c2p2p3, .data (.int .i64) c2p2p4, .data (.int .i64) c2p2p5, .full (.int .u8) []]]) false), (6, .cell (.pair (.int .i64) (.pair (.sl (.pair (.int .i64) (.pair (.pair (.arr 4 (.int .u64)) (.pair (.arr 4 (.int .u64)) (.pair (.int .i64) .unit))) .unit))) (.pair (.pair (.int .i64) (.pair (.int .i64) (.pair (.int .i64) (.pair (.arr 32 (.int .u8)) (.pair (.int .i64) (.pair (.int .i64) (.pair (.sl (.int .u8)) .unit))))))) .unit))) (.agg (.pair (.int .i64) (.pair (.sl (.pair (.int .i64) (.pair (.pair (.arr 4 (.int .u64)) (.pair (.arr 4 (.int .u64)) (.pair (.int .i64) .unit))) .unit))) (.pair (.pair (.int .i64) (.pair (.int .i64) (.pair (.int .i64) (.pair (.arr 32 (.int .u8)) (.pair (.int .i64) (.pair (.int .i64) (.pair (.sl (.int .u8)) .unit))))))) .unit))) [.data (.int .i64) c6p0, .app 62 0, .agg (.pair (.int .i64) (.pair (.int .i64) (.pair (.int .i64) (.pair (.arr 32 (.int .u8)) (.pair (.int .i64) (.pair (.int .i64) (.pair (.sl (.int .u8)) .unit))))))) [.data (.int .i64) c6p2p0, .data (.int .i64) c6p2p1, .data (.int .i64) c6p2p2, .data (.arr 32 (.int .u8)) c6p2p3, .data (.int .i64) c6p2p4, .data (.int .i64) c6p2p5, .full (.int .u8) []]]) false), (12, .cell (.pair (.sl (.int .u8)) (.pair .bool .unit)) (.data (.pair (.sl (.int .u8)) (.pair .bool .unit)) c12) false), (62, .buf (.pair (.int .i64) (.pair (.pair (.arr 4 (.int .u64)) (.pair (.arr 4 (.int .u64)) (.pair (.int .i64) .unit))) .unit)) c62 0 true)]
def j0 {α : Type} (Rt : Int → (Int × List (Int × (List Int × List Int × Int × Unit) × Unit) × (Int × Int × Int × List Int × Int × Int × List Int × Unit) × Unit) → Option α) (c2p0 : Int) (c2p2p0 : Int) (c2p2p1 : Int) (c2p2p2 : Int) (c2p2p3 : List Int) (c2p2p4 : Int) (c2p2p5 : Int) (c6p0 : Int) (c6p2p0 : Int) (c6p2p1 : Int) (c6p2p2 : Int) (c6p2p3 : List Int) (c6p2p4 : Int) (c6p2p5 : Int) (c12 : List Int × Bool × Unit) (c62 : List (Int × (List Int × List Int × Int × Unit) × Unit)) : Option α :=
  (Go.Bx.paper_eye__body_s0.run c12).bind fun y10 =>
  if (not y10.2.2.2.2.2.2.1.2.1) = true then
    Rt 4 (0, [], (0, 0, 0, (List.replicate 32 0), 0, 0, [], ()), ())
  else
    (Go.Bx.paper_fault.run (c6p0, c62, (y10.1, y10.2.1, y10.2.2.1, y10.2.2.2.1, y10.2.2.2.2.1, y10.2.2.2.2.2.1, y10.2.2.2.2.2.2.2.2.2.2.2.2.2.1, ()), ())).bind fun y11 =>
    if (y11 != 0) = true then
      Rt y11 (0, [], (0, 0, 0, (List.replicate 32 0), 0, 0, [], ()), ())
    else
      Rt 0 (c6p0, c62, (y10.1, y10.2.1, y10.2.2.1, y10.2.2.2.1, y10.2.2.2.2.1, y10.2.2.2.2.2.1, y10.2.2.2.2.2.2.2.2.2.2.2.2.2.1, ()), ())
theorem j0_eq {α : Type} (k : Nat) (Q : Ex → St → Option α) (c2p0 : Int) (c2p2p0 : Int) (c2p2p1 : Int) (c2p2p2 : Int) (c2p2p3 : List Int) (c2p2p4 : Int) (c2p2p5 : Int) (c6p0 : Int) (c6p2p0 : Int) (c6p2p1 : Int) (c6p2p2 : Int) (c6p2p3 : List Int) (c6p2p4 : Int) (c6p2p5 : Int) (c12 : List Int × Bool × Unit) (c62 : List (Int × (List Int × List Int × Int × Unit) × Unit)) :
    (den C k) cd1 Q (St4 c2p0 c2p2p0 c2p2p1 c2p2p2 c2p2p3 c2p2p4 c2p2p5 c6p0 c6p2p0 c6p2p1 c6p2p2 c6p2p3 c6p2p4 c6p2p5 c12 c62) = j0 (fun (x3 : Int) (c2 : Int × List (Int × (List Int × List Int × Int × Unit) × Unit) × (Int × Int × Int × List Int × Int × Int × List Int × Unit) × Unit) => Q .ret (St1 x3 c2)) c2p0 c2p2p0 c2p2p1 c2p2p2 c2p2p3 c2p2p4 c2p2p5 c6p0 c6p2p0 c6p2p1 c6p2p2 c6p2p3 c6p2p4 c6p2p5 c12 c62 := by
  have h : ∀ (D L : DT α), denJ D L Js C cd1 Q (St4 c2p0 c2p2p0 c2p2p1 c2p2p2 c2p2p3 c2p2p4 c2p2p5 c6p0 c6p2p0 c6p2p1 c6p2p2 c6p2p3 c6p2p4 c6p2p5 c12 c62) =
        (Go.Bx.paper_eye__body_s0.run c12).bind fun y10 =>
        if (not y10.2.2.2.2.2.2.1.2.1) = true then
          Q .ret (St1 4 (0, [], (0, 0, 0, (List.replicate 32 0), 0, 0, [], ()), ()))
        else
          (Go.Bx.paper_fault.run (c6p0, c62, (y10.1, y10.2.1, y10.2.2.1, y10.2.2.2.1, y10.2.2.2.2.1, y10.2.2.2.2.2.1, y10.2.2.2.2.2.2.2.2.2.2.2.2.2.1, ()), ())).bind fun y11 =>
          if (y11 != 0) = true then
            Q .ret (St1 y11 (0, [], (0, 0, 0, (List.replicate 32 0), 0, 0, [], ()), ()))
          else
            Q .ret (St1 0 (c6p0, c62, (y10.1, y10.2.1, y10.2.2.1, y10.2.2.2.1, y10.2.2.2.2.1, y10.2.2.2.2.2.1, y10.2.2.2.2.2.2.2.2.2.2.2.2.2.1, ()), ())) := by
    intro D L; kernel_rfl
  refine (show (den C k) cd1 Q (St4 c2p0 c2p2p0 c2p2p1 c2p2p2 c2p2p3 c2p2p4 c2p2p5 c6p0 c6p2p0 c6p2p1 c6p2p2 c6p2p3 c6p2p4 c6p2p5 c12 c62) = denJ (den C k) (lp C k) Js C cd1 Q (St4 c2p0 c2p2p0 c2p2p1 c2p2p2 c2p2p3 c2p2p4 c2p2p5 c6p0 c6p2p0 c6p2p1 c6p2p2 c6p2p3 c6p2p4 c6p2p5 c12 c62) from (denJ_den _ _ _ _ _ _).symm).trans ((h (den C k) (lp C k)).trans ?_)
  first | rfl | kernel_rfl
theorem a0 {α : Type} (k : Nat) (Q : Ex → St → Option α) (x38 : Int) (x39 : Int) (c2p0 : Int) (c2p2p0 : Int) (c2p2p1 : Int) (c2p2p2 : Int) (c2p2p3 : List Int) (c2p2p4 : Int) (c2p2p5 : Int) (c6p0 : Int) (c6p2p0 : Int) (c6p2p1 : Int) (c6p2p2 : Int) (c6p2p3 : List Int) (c6p2p4 : Int) (c6p2p5 : Int) (c12 : List Int × Bool × Unit) (c62 : List (Int × (List Int × List Int × Int × Unit) × Unit)) :
    (lp C k) cd0 (blkQ C 0 (sq (den C k) (lp C k) Js C cd1 Q)) (St2 x38 x39 c2p0 c2p2p0 c2p2p1 c2p2p2 c2p2p3 c2p2p4 c2p2p5 c6p0 c6p2p0 c6p2p1 c6p2p2 c6p2p3 c6p2p4 c6p2p5 c12 c62) = l0 k (fun (c2p0 : Int) (c2p2p0 : Int) (c2p2p1 : Int) (c2p2p2 : Int) (c2p2p3 : List Int) (c2p2p4 : Int) (c2p2p5 : Int) (c6p0 : Int) (c6p2p0 : Int) (c6p2p1 : Int) (c6p2p2 : Int) (c6p2p3 : List Int) (c6p2p4 : Int) (c6p2p5 : Int) (c12 : List Int × Bool × Unit) (c62 : List (Int × (List Int × List Int × Int × Unit) × Unit)) => j0 (fun (x3 : Int) (c2 : Int × List (Int × (List Int × List Int × Int × Unit) × Unit) × (Int × Int × Int × List Int × Int × Int × List Int × Unit) × Unit) => Q .ret (St1 x3 c2)) c2p0 c2p2p0 c2p2p1 c2p2p2 c2p2p3 c2p2p4 c2p2p5 c6p0 c6p2p0 c6p2p1 c6p2p2 c6p2p3 c6p2p4 c6p2p5 c12 c62) k x38 x39 c2p0 c2p2p0 c2p2p1 c2p2p2 c2p2p3 c2p2p4 c2p2p5 c6p0 c6p2p0 c6p2p1 c6p2p2 c6p2p3 c6p2p4 c6p2p5 c12 c62 :=
  (show (lp C k) cd0 (blkQ C 0 (sq (den C k) (lp C k) Js C cd1 Q)) (St2 x38 x39 c2p0 c2p2p0 c2p2p1 c2p2p2 c2p2p3 c2p2p4 c2p2p5 c6p0 c6p2p0 c6p2p1 c6p2p2 c6p2p3 c6p2p4 c6p2p5 c12 c62) = iter (rnd C k cd0 33 (blkQ C 0 (sq (den C k) (lp C k) Js C cd1 Q))) k (St2 x38 x39 c2p0 c2p2p0 c2p2p1 c2p2p2 c2p2p3 c2p2p4 c2p2p5 c6p0 c6p2p0 c6p2p1 c6p2p2 c6p2p3 c6p2p4 c6p2p5 c12 c62) by kernel_rfl).trans ((l0_eq k (blkQ C 0 (sq (den C k) (lp C k) Js C cd1 Q)) k x38 x39 c2p0 c2p2p0 c2p2p1 c2p2p2 c2p2p3 c2p2p4 c2p2p5 c6p0 c6p2p0 c6p2p1 c6p2p2 c6p2p3 c6p2p4 c6p2p5 c12 c62).trans (l0_congr k _ _ (fun c2p0 c2p2p0 c2p2p1 c2p2p2 c2p2p3 c2p2p4 c2p2p5 c6p0 c6p2p0 c6p2p1 c6p2p2 c6p2p3 c6p2p4 c6p2p5 c12 c62 => ((show (blkQ C 0 (sq (den C k) (lp C k) Js C cd1 Q)) (.exit 0) (St3 c2p0 c2p2p0 c2p2p1 c2p2p2 c2p2p3 c2p2p4 c2p2p5 c6p0 c6p2p0 c6p2p1 c6p2p2 c6p2p3 c6p2p4 c6p2p5 c12 c62) = (den C k) cd1 Q (St4 c2p0 c2p2p0 c2p2p1 c2p2p2 c2p2p3 c2p2p4 c2p2p5 c6p0 c6p2p0 c6p2p1 c6p2p2 c6p2p3 c6p2p4 c6p2p5 c12 c62) by kernel_rfl).trans (by simp only [j0_eq]))) k x38 x39 c2p0 c2p2p0 c2p2p1 c2p2p2 c2p2p3 c2p2p4 c2p2p5 c6p0 c6p2p0 c6p2p1 c6p2p2 c6p2p3 c6p2p4 c6p2p5 c12 c62))
def top {α : Type} (k : Nat) (Rt : Int → (Int × List (Int × (List Int × List Int × Int × Unit) × Unit) × (Int × Int × Int × List Int × Int × Int × List Int × Unit) × Unit) → Option α) (x0 : List Int) : Option α :=
  (Go.Bx.paper_eye__number_s1.run 1 (x0, true, ())).bind fun y1 =>
  if (cond y1.2.1.2.1 (y1.1 != 1) false) = true then
    Rt 3 (0, [], (0, 0, 0, (List.replicate 32 0), 0, 0, [], ()), ())
  else
    (Go.Bx.paper_eye__number_s1.run 4 y1.2.1).bind fun y2 =>
    (Go.Bx.paper_eye__number_s1.run 1 y2.2.1).bind fun y3 =>
    if (cond y3.2.1.2.1 (decide (y3.1 > 19)) false) = true then
      Rt 1 (0, [], (0, 0, 0, (List.replicate 32 0), 0, 0, [], ()), ())
    else
      l0 k (fun (c2p0 : Int) (c2p2p0 : Int) (c2p2p1 : Int) (c2p2p2 : Int) (c2p2p3 : List Int) (c2p2p4 : Int) (c2p2p5 : Int) (c6p0 : Int) (c6p2p0 : Int) (c6p2p1 : Int) (c6p2p2 : Int) (c6p2p3 : List Int) (c6p2p4 : Int) (c6p2p5 : Int) (c12 : List Int × Bool × Unit) (c62 : List (Int × (List Int × List Int × Int × Unit) × Unit)) => j0 Rt c2p0 c2p2p0 c2p2p1 c2p2p2 c2p2p3 c2p2p4 c2p2p5 c6p0 c6p2p0 c6p2p1 c6p2p2 c6p2p3 c6p2p4 c6p2p5 c12 c62) k y3.1 0 0 0 0 0 (List.replicate 32 0) 0 0 y2.1 0 0 0 (List.replicate 32 0) 0 0 y3.2.1 []
theorem top_eq {α : Type} (k : Nat) (Q : Ex → St → Option α) (x0 : List Int) :
    (den C k) (cB Try.f46) Q (St0 x0) = top k (fun (x3 : Int) (c2 : Int × List (Int × (List Int × List Int × Int × Unit) × Unit) × (Int × Int × Int × List Int × Int × Int × List Int × Unit) × Unit) => Q .ret (St1 x3 c2)) x0 := by
  have h : ∀ (D L : DT α), denJ D L Js C (cB Try.f46) Q (St0 x0) =
        (Go.Bx.paper_eye__number_s1.run 1 (x0, true, ())).bind fun y1 =>
        if (cond y1.2.1.2.1 (y1.1 != 1) false) = true then
          Q .ret (St1 3 (0, [], (0, 0, 0, (List.replicate 32 0), 0, 0, [], ()), ()))
        else
          (Go.Bx.paper_eye__number_s1.run 4 y1.2.1).bind fun y2 =>
          (Go.Bx.paper_eye__number_s1.run 1 y2.2.1).bind fun y3 =>
          if (cond y3.2.1.2.1 (decide (y3.1 > 19)) false) = true then
            Q .ret (St1 1 (0, [], (0, 0, 0, (List.replicate 32 0), 0, 0, [], ()), ()))
          else
            L cd0 (blkQ C 0 (sq D L Js C cd1 Q)) (St2 y3.1 0 0 0 0 0 (List.replicate 32 0) 0 0 y2.1 0 0 0 (List.replicate 32 0) 0 0 y3.2.1 []) := by
    intro D L; kernel_rfl
  refine (show (den C k) (cB Try.f46) Q (St0 x0) = denJ (den C k) (lp C k) Js C (cB Try.f46) Q (St0 x0) from (denJ_den _ _ _ _ _ _).symm).trans ((h (den C k) (lp C k)).trans ?_)
  simp only [a0]
  first | rfl | kernel_rfl
def run (x0 : List Int) : Option ((Int × List (Int × (List Int × List Int × Int × Unit) × Unit) × (Int × Int × Int × List Int × Int × Int × List Int × Unit) × Unit) × Int × Unit) := top (α := (Int × List (Int × (List Int × List Int × Int × Unit) × Unit) × (Int × Int × Int × List Int × Int × Int × List Int × Unit) × Unit) × Int × Unit) fuel (fun (x3 : Int) (c2 : Int × List (Int × (List Int × List Int × Int × Unit) × Unit) × (Int × Int × Int × List Int × Int × Int × List Int × Unit) × Unit) => some (c2, x3, ())) x0
def F : Fn := ⟨(.pair (.sl (.int .u8)) .unit), (.pair (.pair (.int .i64) (.pair (.sl (.pair (.int .i64) (.pair (.pair (.arr 4 (.int .u64)) (.pair (.arr 4 (.int .u64)) (.pair (.int .i64) .unit))) .unit))) (.pair (.pair (.int .i64) (.pair (.int .i64) (.pair (.int .i64) (.pair (.arr 32 (.int .u8)) (.pair (.int .i64) (.pair (.int .i64) (.pair (.sl (.int .u8)) .unit))))))) .unit))) (.pair (.int .i64) .unit)), true, fun x => run x.1⟩
set_option maxRecDepth 100000 in
theorem con : Con Try.prog 46 F := by
  refine con_of_den (C := C) (ctx_ok_sh (by kernel_rfl) (by kernel_rfl) (by kernel_rfl) (by kernel_rfl) ⟨.inl ⟨Go.Bx.paper_fault.con, Go.Bx.paper_fault.named⟩, ⟨.inl ⟨Go.Bx.wide_From.con, Go.Bx.wide_From.named⟩, trivial⟩⟩ ⟨⟨⟨Go.Bx.paper_eye__number_s1.sok, trivial⟩, Go.Bx.paper_eye__number_s1.named⟩, ⟨⟨⟨Go.Bx.paper_eye__word_s0.sok, trivial⟩, Go.Bx.paper_eye__word_s0.named⟩, ⟨⟨⟨Go.Bx.paper_eye__body_s0.sok, trivial⟩, Go.Bx.paper_eye__body_s0.named⟩, trivial⟩⟩⟩) (by kernel_rfl) Try.func46 (c := cB Try.f46) (by kernel_rfl) (by kernel_rfl) F fuel (fun x => by simp [F, spread, Try.ntmps46]) ?_
  intro x r h
  rw [← h]
  have h1 : start F Try.f46.ntmps x = (St0 x.1) := by kernel_rfl
  rw [h1]
  refine (top_eq fuel (fin C Try.f46.results.toList F.rs F.multi) x.1).trans ?_
  kernel_rfl
theorem named : Named Try.prog 46 := named_of Try.func46 (by kernel_rfl) (by kernel_rfl)
end Go.Bx.paper_Decode
namespace Go.Bx.basculeref_PaperOf
open Go Go.Proofs Go.Bx
set_option maxRecDepth 100000
set_option linter.unusedVariables false
def Js : List Nat := [21]
def C : Ctx := ⟨[(3, (.int .i64)), (5, (.int .u8)), (9, .str), (23, (.int .i64)), (59, (.sl (.int .u8))), (74, (.sl (.pair (.int .i64) (.pair (.pair (.arr 4 (.int .u64)) (.pair (.arr 4 (.int .u64)) (.pair (.int .i64) .unit))) .unit)))), (76, (.pair (.int .i64) (.pair (.int .i64) (.pair (.int .i64) (.pair (.arr 32 (.int .u8)) (.pair (.int .i64) (.pair (.int .i64) (.pair (.sl (.int .u8)) .unit)))))))), (78, (.pair (.int .i64) (.pair (.sl (.pair (.int .i64) (.pair (.pair (.arr 4 (.int .u64)) (.pair (.arr 4 (.int .u64)) (.pair (.int .i64) .unit))) .unit))) (.pair (.pair (.int .i64) (.pair (.int .i64) (.pair (.int .i64) (.pair (.arr 32 (.int .u8)) (.pair (.int .i64) (.pair (.int .i64) (.pair (.sl (.int .u8)) .unit))))))) .unit)))), (139, (.pair (.arr 4 (.int .u64)) (.pair (.arr 4 (.int .u64)) (.pair (.int .i64) .unit)))), (141, (.pair (.int .i64) (.pair (.pair (.arr 4 (.int .u64)) (.pair (.arr 4 (.int .u64)) (.pair (.int .i64) .unit))) .unit)))], [], [], fnL [(84, Go.Bx.basculeref_PaperFault.F), (92, Go.Bx.basculeref_number.F), (93, Go.Bx.basculeref_wideOf.F), (94, Go.Bx.basculeref_word.F)], noSh, [], invL [], [(2, [2, 3]), (1, [2, 4, 6]), (4, [2, 4, 6, 41, 42]), (48, [2, 4, 6, 41, 42]), (60, [2, 4, 6])], [(2, [.dat false 2 []]), (48, [.melt false 6 [1] 61 true])], [], 0, 0⟩
def St0 (x0 : List Int) : St := stL 96 [(0, .data (.sl (.int .u8)) x0)] []
def St1 (x3 : Int) (c2 : Int × List (Int × (List Int × List Int × Int × Unit) × Unit) × (Int × Int × Int × List Int × Int × Int × List Int × Unit) × Unit) : St := stL 96 [(2, .ref 2 0 []), (3, .data (.int .i64) x3)] [(2, .cell (.pair (.int .i64) (.pair (.sl (.pair (.int .i64) (.pair (.pair (.arr 4 (.int .u64)) (.pair (.arr 4 (.int .u64)) (.pair (.int .i64) .unit))) .unit))) (.pair (.pair (.int .i64) (.pair (.int .i64) (.pair (.int .i64) (.pair (.arr 32 (.int .u8)) (.pair (.int .i64) (.pair (.int .i64) (.pair (.sl (.int .u8)) .unit))))))) .unit))) (.data (.pair (.int .i64) (.pair (.sl (.pair (.int .i64) (.pair (.pair (.arr 4 (.int .u64)) (.pair (.arr 4 (.int .u64)) (.pair (.int .i64) .unit))) .unit))) (.pair (.pair (.int .i64) (.pair (.int .i64) (.pair (.int .i64) (.pair (.arr 32 (.int .u8)) (.pair (.int .i64) (.pair (.int .i64) (.pair (.sl (.int .u8)) .unit))))))) .unit))) c2) false)]
def St2 (x4 : List Int) (x41 : Int) (x42 : Int) (c2p0 : Int) (c2p2p0 : Int) (c2p2p1 : Int) (c2p2p2 : Int) (c2p2p3 : List Int) (c2p2p4 : Int) (c2p2p5 : Int) (c6p0 : Int) (c6p2p0 : Int) (c6p2p1 : Int) (c6p2p2 : Int) (c6p2p3 : List Int) (c6p2p4 : Int) (c6p2p5 : Int) (c61 : List (Int × (List Int × List Int × Int × Unit) × Unit)) : St := stL 96 [(2, .ref 2 0 []), (4, .data .str x4), (6, .ref 6 0 []), (41, .data (.int .i64) x41), (42, .data (.int .i64) x42)] [(2, .cell (.pair (.int .i64) (.pair (.sl (.pair (.int .i64) (.pair (.pair (.arr 4 (.int .u64)) (.pair (.arr 4 (.int .u64)) (.pair (.int .i64) .unit))) .unit))) (.pair (.pair (.int .i64) (.pair (.int .i64) (.pair (.int .i64) (.pair (.arr 32 (.int .u8)) (.pair (.int .i64) (.pair (.int .i64) (.pair (.sl (.int .u8)) .unit))))))) .unit))) (.agg (.pair (.int .i64) (.pair (.sl (.pair (.int .i64) (.pair (.pair (.arr 4 (.int .u64)) (.pair (.arr 4 (.int .u64)) (.pair (.int .i64) .unit))) .unit))) (.pair (.pair (.int .i64) (.pair (.int .i64) (.pair (.int .i64) (.pair (.arr 32 (.int .u8)) (.pair (.int .i64) (.pair (.int .i64) (.pair (.sl (.int .u8)) .unit))))))) .unit))) [.data (.int .i64) c2p0, .full (.pair (.int .i64) (.pair (.pair (.arr 4 (.int .u64)) (.pair (.arr 4 (.int .u64)) (.pair (.int .i64) .unit))) .unit)) [], .agg (.pair (.int .i64) (.pair (.int .i64) (.pair (.int .i64) (.pair (.arr 32 (.int .u8)) (.pair (.int .i64) (.pair (.int .i64) (.pair (.sl (.int .u8)) .unit))))))) [.data (.int .i64) c2p2p0, .data (.int .i64) c2p2p1, .data (.int .i64) c2p2p2, .data (.arr 32 (.int .u8)) c2p2p3, .data (.int .i64) c2p2p4, .data (.int .i64) c2p2p5, .full (.int .u8) []]]) false), (6, .cell (.pair (.int .i64) (.pair (.sl (.pair (.int .i64) (.pair (.pair (.arr 4 (.int .u64)) (.pair (.arr 4 (.int .u64)) (.pair (.int .i64) .unit))) .unit))) (.pair (.pair (.int .i64) (.pair (.int .i64) (.pair (.int .i64) (.pair (.arr 32 (.int .u8)) (.pair (.int .i64) (.pair (.int .i64) (.pair (.sl (.int .u8)) .unit))))))) .unit))) (.agg (.pair (.int .i64) (.pair (.sl (.pair (.int .i64) (.pair (.pair (.arr 4 (.int .u64)) (.pair (.arr 4 (.int .u64)) (.pair (.int .i64) .unit))) .unit))) (.pair (.pair (.int .i64) (.pair (.int .i64) (.pair (.int .i64) (.pair (.arr 32 (.int .u8)) (.pair (.int .i64) (.pair (.int .i64) (.pair (.sl (.int .u8)) .unit))))))) .unit))) [.data (.int .i64) c6p0, .app 61 0, .agg (.pair (.int .i64) (.pair (.int .i64) (.pair (.int .i64) (.pair (.arr 32 (.int .u8)) (.pair (.int .i64) (.pair (.int .i64) (.pair (.sl (.int .u8)) .unit))))))) [.data (.int .i64) c6p2p0, .data (.int .i64) c6p2p1, .data (.int .i64) c6p2p2, .data (.arr 32 (.int .u8)) c6p2p3, .data (.int .i64) c6p2p4, .data (.int .i64) c6p2p5, .full (.int .u8) []]]) false), (61, .buf (.pair (.int .i64) (.pair (.pair (.arr 4 (.int .u64)) (.pair (.arr 4 (.int .u64)) (.pair (.int .i64) .unit))) .unit)) c61 0 true)]
noncomputable def cd0 : Code := cL (cL (cR (cL (cR (cR (cR (cR (cR (cR (cR (cR (cR (cR (cB Try.f47))))))))))))))
def St3 (x4 : List Int) (c2p0 : Int) (c2p2p0 : Int) (c2p2p1 : Int) (c2p2p2 : Int) (c2p2p3 : List Int) (c2p2p4 : Int) (c2p2p5 : Int) (c6p0 : Int) (c6p2p0 : Int) (c6p2p1 : Int) (c6p2p2 : Int) (c6p2p3 : List Int) (c6p2p4 : Int) (c6p2p5 : Int) (c61 : List (Int × (List Int × List Int × Int × Unit) × Unit)) : St := stL 96 [(2, .ref 2 0 []), (4, .data .str x4), (6, .ref 6 0 [])] [(2, .cell (.pair (.int .i64) (.pair (.sl (.pair (.int .i64) (.pair (.pair (.arr 4 (.int .u64)) (.pair (.arr 4 (.int .u64)) (.pair (.int .i64) .unit))) .unit))) (.pair (.pair (.int .i64) (.pair (.int .i64) (.pair (.int .i64) (.pair (.arr 32 (.int .u8)) (.pair (.int .i64) (.pair (.int .i64) (.pair (.sl (.int .u8)) .unit))))))) .unit))) (.agg (.pair (.int .i64) (.pair (.sl (.pair (.int .i64) (.pair (.pair (.arr 4 (.int .u64)) (.pair (.arr 4 (.int .u64)) (.pair (.int .i64) .unit))) .unit))) (.pair (.pair (.int .i64) (.pair (.int .i64) (.pair (.int .i64) (.pair (.arr 32 (.int .u8)) (.pair (.int .i64) (.pair (.int .i64) (.pair (.sl (.int .u8)) .unit))))))) .unit))) [.data (.int .i64) c2p0, .full (.pair (.int .i64) (.pair (.pair (.arr 4 (.int .u64)) (.pair (.arr 4 (.int .u64)) (.pair (.int .i64) .unit))) .unit)) [], .agg (.pair (.int .i64) (.pair (.int .i64) (.pair (.int .i64) (.pair (.arr 32 (.int .u8)) (.pair (.int .i64) (.pair (.int .i64) (.pair (.sl (.int .u8)) .unit))))))) [.data (.int .i64) c2p2p0, .data (.int .i64) c2p2p1, .data (.int .i64) c2p2p2, .data (.arr 32 (.int .u8)) c2p2p3, .data (.int .i64) c2p2p4, .data (.int .i64) c2p2p5, .full (.int .u8) []]]) false), (6, .cell (.pair (.int .i64) (.pair (.sl (.pair (.int .i64) (.pair (.pair (.arr 4 (.int .u64)) (.pair (.arr 4 (.int .u64)) (.pair (.int .i64) .unit))) .unit))) (.pair (.pair (.int .i64) (.pair (.int .i64) (.pair (.int .i64) (.pair (.arr 32 (.int .u8)) (.pair (.int .i64) (.pair (.int .i64) (.pair (.sl (.int .u8)) .unit))))))) .unit))) (.agg (.pair (.int .i64) (.pair (.sl (.pair (.int .i64) (.pair (.pair (.arr 4 (.int .u64)) (.pair (.arr 4 (.int .u64)) (.pair (.int .i64) .unit))) .unit))) (.pair (.pair (.int .i64) (.pair (.int .i64) (.pair (.int .i64) (.pair (.arr 32 (.int .u8)) (.pair (.int .i64) (.pair (.int .i64) (.pair (.sl (.int .u8)) .unit))))))) .unit))) [.data (.int .i64) c6p0, .app 61 0, .agg (.pair (.int .i64) (.pair (.int .i64) (.pair (.int .i64) (.pair (.arr 32 (.int .u8)) (.pair (.int .i64) (.pair (.int .i64) (.pair (.sl (.int .u8)) .unit))))))) [.data (.int .i64) c6p2p0, .data (.int .i64) c6p2p1, .data (.int .i64) c6p2p2, .data (.arr 32 (.int .u8)) c6p2p3, .data (.int .i64) c6p2p4, .data (.int .i64) c6p2p5, .full (.int .u8) []]]) false), (61, .buf (.pair (.int .i64) (.pair (.pair (.arr 4 (.int .u64)) (.pair (.arr 4 (.int .u64)) (.pair (.int .i64) .unit))) .unit)) c61 0 true)]
def l0s {α : Type} (Nx : (List Int) → Int → Int → Int → Int → Int → Int → (List Int) → Int → Int → Int → Int → Int → Int → (List Int) → Int → Int → (List (Int × (List Int × List Int × Int × Unit) × Unit)) → Option α) (Xt0 : (List Int) → Int → Int → Int → Int → (List Int) → Int → Int → Int → Int → Int → Int → (List Int) → Int → Int → (List (Int × (List Int × List Int × Int × Unit) × Unit)) → Option α) (x4 : List Int) (x41 : Int) (x42 : Int) (c2p0 : Int) (c2p2p0 : Int) (c2p2p1 : Int) (c2p2p2 : Int) (c2p2p3 : List Int) (c2p2p4 : Int) (c2p2p5 : Int) (c6p0 : Int) (c6p2p0 : Int) (c6p2p1 : Int) (c6p2p2 : Int) (c6p2p3 : List Int) (c6p2p4 : Int) (c6p2p5 : Int) (c61 : List (Int × (List Int × List Int × Int × Unit) × Unit)) : Option α :=
  if (decide (x42 < x41)) = true then
    if 0 ≤ (0 : Int) ∧ (0 : Int) < (x4.length : Int) then
      if 0 ≤ (1 : Int) ∧ (1 : Int) ≤ (33 : Int) ∧ (33 : Int) ≤ (x4.length : Int) then
        (Go.Bx.basculeref_wideOf.run (cutL x4 1 33)).bind fun y2 =>
        if 0 ≤ (33 : Int) ∧ (33 : Int) ≤ (65 : Int) ∧ (65 : Int) ≤ (x4.length : Int) then
          (Go.Bx.basculeref_wideOf.run (cutL x4 33 65)).bind fun y3 =>
          if 0 ≤ (65 : Int) ∧ (65 : Int) < (x4.length : Int) then
            if fitB (c61.length + 1) 80 = true then
              if 0 ≤ (66 : Int) ∧ (66 : Int) ≤ (x4.length : Int) ∧ (x4.length : Int) ≤ (x4.length : Int) then
                Nx (cutL x4 66 (x4.length : Int)) x41 (IntKind.i64.wrap (x42 + 1)) c2p0 c2p2p0 c2p2p1 c2p2p2 c2p2p3 c2p2p4 c2p2p5 c6p0 c6p2p0 c6p2p1 c6p2p2 c6p2p3 c6p2p4 c6p2p5 (c61 ++ [((IntKind.i64.wrap (List.getD x4 0 0)), (y2, y3, (IntKind.i64.wrap (List.getD x4 65 0)), ()), ())])
              else none
            else none
          else none
        else none
      else none
    else none
  else
    Xt0 x4 c2p0 c2p2p0 c2p2p1 c2p2p2 c2p2p3 c2p2p4 c2p2p5 c6p0 c6p2p0 c6p2p1 c6p2p2 c6p2p3 c6p2p4 c6p2p5 c61
theorem l0s_eq {α : Type} (k : Nat) (next : St → Option α) (Q : Ex → St → Option α) (x4 : List Int) (x41 : Int) (x42 : Int) (c2p0 : Int) (c2p2p0 : Int) (c2p2p1 : Int) (c2p2p2 : Int) (c2p2p3 : List Int) (c2p2p4 : Int) (c2p2p5 : Int) (c6p0 : Int) (c6p2p0 : Int) (c6p2p1 : Int) (c6p2p2 : Int) (c6p2p3 : List Int) (c6p2p4 : Int) (c6p2p5 : Int) (c61 : List (Int × (List Int × List Int × Int × Unit) × Unit)) :
    rnd C k cd0 48 Q next (St2 x4 x41 x42 c2p0 c2p2p0 c2p2p1 c2p2p2 c2p2p3 c2p2p4 c2p2p5 c6p0 c6p2p0 c6p2p1 c6p2p2 c6p2p3 c6p2p4 c6p2p5 c61) = l0s (fun (x4 : List Int) (x41 : Int) (x42 : Int) (c2p0 : Int) (c2p2p0 : Int) (c2p2p1 : Int) (c2p2p2 : Int) (c2p2p3 : List Int) (c2p2p4 : Int) (c2p2p5 : Int) (c6p0 : Int) (c6p2p0 : Int) (c6p2p1 : Int) (c6p2p2 : Int) (c6p2p3 : List Int) (c6p2p4 : Int) (c6p2p5 : Int) (c61 : List (Int × (List Int × List Int × Int × Unit) × Unit)) => next (St2 x4 x41 x42 c2p0 c2p2p0 c2p2p1 c2p2p2 c2p2p3 c2p2p4 c2p2p5 c6p0 c6p2p0 c6p2p1 c6p2p2 c6p2p3 c6p2p4 c6p2p5 c61)) (fun (x4 : List Int) (c2p0 : Int) (c2p2p0 : Int) (c2p2p1 : Int) (c2p2p2 : Int) (c2p2p3 : List Int) (c2p2p4 : Int) (c2p2p5 : Int) (c6p0 : Int) (c6p2p0 : Int) (c6p2p1 : Int) (c6p2p2 : Int) (c6p2p3 : List Int) (c6p2p4 : Int) (c6p2p5 : Int) (c61 : List (Int × (List Int × List Int × Int × Unit) × Unit)) => Q (.exit 0) (St3 x4 c2p0 c2p2p0 c2p2p1 c2p2p2 c2p2p3 c2p2p4 c2p2p5 c6p0 c6p2p0 c6p2p1 c6p2p2 c6p2p3 c6p2p4 c6p2p5 c61)) x4 x41 x42 c2p0 c2p2p0 c2p2p1 c2p2p2 c2p2p3 c2p2p4 c2p2p5 c6p0 c6p2p0 c6p2p1 c6p2p2 c6p2p3 c6p2p4 c6p2p5 c61 := by
  have h : ∀ (D L : DT α), denJ D L Js C cd0 (lq C 48 next Q) (St2 x4 x41 x42 c2p0 c2p2p0 c2p2p1 c2p2p2 c2p2p3 c2p2p4 c2p2p5 c6p0 c6p2p0 c6p2p1 c6p2p2 c6p2p3 c6p2p4 c6p2p5 c61) =
        if (decide (x42 < x41)) = true then
          if 0 ≤ (0 : Int) ∧ (0 : Int) < (x4.length : Int) then
            if 0 ≤ (1 : Int) ∧ (1 : Int) ≤ (33 : Int) ∧ (33 : Int) ≤ (x4.length : Int) then
              (Go.Bx.basculeref_wideOf.run (cutL x4 1 33)).bind fun y2 =>
              if 0 ≤ (33 : Int) ∧ (33 : Int) ≤ (65 : Int) ∧ (65 : Int) ≤ (x4.length : Int) then
                (Go.Bx.basculeref_wideOf.run (cutL x4 33 65)).bind fun y3 =>
                if 0 ≤ (65 : Int) ∧ (65 : Int) < (x4.length : Int) then
                  if fitB (c61.length + 1) 80 = true then
                    if 0 ≤ (66 : Int) ∧ (66 : Int) ≤ (x4.length : Int) ∧ (x4.length : Int) ≤ (x4.length : Int) then
                      next (St2 (cutL x4 66 (x4.length : Int)) x41 (IntKind.i64.wrap (x42 + 1)) c2p0 c2p2p0 c2p2p1 c2p2p2 c2p2p3 c2p2p4 c2p2p5 c6p0 c6p2p0 c6p2p1 c6p2p2 c6p2p3 c6p2p4 c6p2p5 (c61 ++ [((IntKind.i64.wrap (List.getD x4 0 0)), (y2, y3, (IntKind.i64.wrap (List.getD x4 65 0)), ()), ())]))
                    else none
                  else none
                else none
              else none
            else none
          else none
        else
          Q (.exit 0) (St3 x4 c2p0 c2p2p0 c2p2p1 c2p2p2 c2p2p3 c2p2p4 c2p2p5 c6p0 c6p2p0 c6p2p1 c6p2p2 c6p2p3 c6p2p4 c6p2p5 c61) := by
    intro D L; kernel_rfl
  refine (show rnd C k cd0 48 Q next (St2 x4 x41 x42 c2p0 c2p2p0 c2p2p1 c2p2p2 c2p2p3 c2p2p4 c2p2p5 c6p0 c6p2p0 c6p2p1 c6p2p2 c6p2p3 c6p2p4 c6p2p5 c61) = denJ (den C k) (lp C k) Js C cd0 (lq C 48 next Q) (St2 x4 x41 x42 c2p0 c2p2p0 c2p2p1 c2p2p2 c2p2p3 c2p2p4 c2p2p5 c6p0 c6p2p0 c6p2p1 c6p2p2 c6p2p3 c6p2p4 c6p2p5 c61) from (denJ_den _ _ _ _ _ _).symm).trans ((h (den C k) (lp C k)).trans ?_)
  first | rfl | kernel_rfl
def l0 {α : Type} (k : Nat) (Xt0 : (List Int) → Int → Int → Int → Int → (List Int) → Int → Int → Int → Int → Int → Int → (List Int) → Int → Int → (List (Int × (List Int × List Int × Int × Unit) × Unit)) → Option α) : Nat → (List Int) → Int → Int → Int → Int → Int → Int → (List Int) → Int → Int → Int → Int → Int → Int → (List Int) → Int → Int → (List (Int × (List Int × List Int × Int × Unit) × Unit)) → Option α
  | 0, _, _, _, _, _, _, _, _, _, _, _, _, _, _, _, _, _, _ => none
  | n + 1, x4, x41, x42, c2p0, c2p2p0, c2p2p1, c2p2p2, c2p2p3, c2p2p4, c2p2p5, c6p0, c6p2p0, c6p2p1, c6p2p2, c6p2p3, c6p2p4, c6p2p5, c61 => l0s (l0 k Xt0 n) Xt0 x4 x41 x42 c2p0 c2p2p0 c2p2p1 c2p2p2 c2p2p3 c2p2p4 c2p2p5 c6p0 c6p2p0 c6p2p1 c6p2p2 c6p2p3 c6p2p4 c6p2p5 c61
theorem l0_eq {α : Type} (k : Nat) (Q : Ex → St → Option α) : ∀ (n : Nat) (x4 : List Int) (x41 : Int) (x42 : Int) (c2p0 : Int) (c2p2p0 : Int) (c2p2p1 : Int) (c2p2p2 : Int) (c2p2p3 : List Int) (c2p2p4 : Int) (c2p2p5 : Int) (c6p0 : Int) (c6p2p0 : Int) (c6p2p1 : Int) (c6p2p2 : Int) (c6p2p3 : List Int) (c6p2p4 : Int) (c6p2p5 : Int) (c61 : List (Int × (List Int × List Int × Int × Unit) × Unit)), iter (rnd C k cd0 48 Q) n (St2 x4 x41 x42 c2p0 c2p2p0 c2p2p1 c2p2p2 c2p2p3 c2p2p4 c2p2p5 c6p0 c6p2p0 c6p2p1 c6p2p2 c6p2p3 c6p2p4 c6p2p5 c61) = l0 k (fun (x4 : List Int) (c2p0 : Int) (c2p2p0 : Int) (c2p2p1 : Int) (c2p2p2 : Int) (c2p2p3 : List Int) (c2p2p4 : Int) (c2p2p5 : Int) (c6p0 : Int) (c6p2p0 : Int) (c6p2p1 : Int) (c6p2p2 : Int) (c6p2p3 : List Int) (c6p2p4 : Int) (c6p2p5 : Int) (c61 : List (Int × (List Int × List Int × Int × Unit) × Unit)) => Q (.exit 0) (St3 x4 c2p0 c2p2p0 c2p2p1 c2p2p2 c2p2p3 c2p2p4 c2p2p5 c6p0 c6p2p0 c6p2p1 c6p2p2 c6p2p3 c6p2p4 c6p2p5 c61)) n x4 x41 x42 c2p0 c2p2p0 c2p2p1 c2p2p2 c2p2p3 c2p2p4 c2p2p5 c6p0 c6p2p0 c6p2p1 c6p2p2 c6p2p3 c6p2p4 c6p2p5 c61
  | 0, _, _, _, _, _, _, _, _, _, _, _, _, _, _, _, _, _, _ => rfl
  | n + 1, x4, x41, x42, c2p0, c2p2p0, c2p2p1, c2p2p2, c2p2p3, c2p2p4, c2p2p5, c6p0, c6p2p0, c6p2p1, c6p2p2, c6p2p3, c6p2p4, c6p2p5, c61 => (iter_succ _ _ _).trans ((l0s_eq k (iter (rnd C k cd0 48 Q) n) Q x4 x41 x42 c2p0 c2p2p0 c2p2p1 c2p2p2 c2p2p3 c2p2p4 c2p2p5 c6p0 c6p2p0 c6p2p1 c6p2p2 c6p2p3 c6p2p4 c6p2p5 c61).trans (congrArg (fun N => l0s N (fun (x4 : List Int) (c2p0 : Int) (c2p2p0 : Int) (c2p2p1 : Int) (c2p2p2 : Int) (c2p2p3 : List Int) (c2p2p4 : Int) (c2p2p5 : Int) (c6p0 : Int) (c6p2p0 : Int) (c6p2p1 : Int) (c6p2p2 : Int) (c6p2p3 : List Int) (c6p2p4 : Int) (c6p2p5 : Int) (c61 : List (Int × (List Int × List Int × Int × Unit) × Unit)) => Q (.exit 0) (St3 x4 c2p0 c2p2p0 c2p2p1 c2p2p2 c2p2p3 c2p2p4 c2p2p5 c6p0 c6p2p0 c6p2p1 c6p2p2 c6p2p3 c6p2p4 c6p2p5 c61)) x4 x41 x42 c2p0 c2p2p0 c2p2p1 c2p2p2 c2p2p3 c2p2p4 c2p2p5 c6p0 c6p2p0 c6p2p1 c6p2p2 c6p2p3 c6p2p4 c6p2p5 c61) (funext fun x4 => funext fun x41 => funext fun x42 => funext fun c2p0 => funext fun c2p2p0 => funext fun c2p2p1 => funext fun c2p2p2 => funext fun c2p2p3 => funext fun c2p2p4 => funext fun c2p2p5 => funext fun c6p0 => funext fun c6p2p0 => funext fun c6p2p1 => funext fun c6p2p2 => funext fun c6p2p3 => funext fun c6p2p4 => funext fun c6p2p5 => funext fun c61 => l0_eq k Q n x4 x41 x42 c2p0 c2p2p0 c2p2p1 c2p2p2 c2p2p3 c2p2p4 c2p2p5 c6p0 c6p2p0 c6p2p1 c6p2p2 c6p2p3 c6p2p4 c6p2p5 c61)))
theorem l0_congr {α : Type} (k : Nat) (Xt0 : (List Int) → Int → Int → Int → Int → (List Int) → Int → Int → Int → Int → Int → Int → (List Int) → Int → Int → (List (Int × (List Int × List Int × Int × Unit) × Unit)) → Option α) (Xt0q : (List Int) → Int → Int → Int → Int → (List Int) → Int → Int → Int → Int → Int → Int → (List Int) → Int → Int → (List (Int × (List Int × List Int × Int × Unit) × Unit)) → Option α) (hXt0 : ∀ (x4 : List Int) (c2p0 : Int) (c2p2p0 : Int) (c2p2p1 : Int) (c2p2p2 : Int) (c2p2p3 : List Int) (c2p2p4 : Int) (c2p2p5 : Int) (c6p0 : Int) (c6p2p0 : Int) (c6p2p1 : Int) (c6p2p2 : Int) (c6p2p3 : List Int) (c6p2p4 : Int) (c6p2p5 : Int) (c61 : List (Int × (List Int × List Int × Int × Unit) × Unit)), Xt0 x4 c2p0 c2p2p0 c2p2p1 c2p2p2 c2p2p3 c2p2p4 c2p2p5 c6p0 c6p2p0 c6p2p1 c6p2p2 c6p2p3 c6p2p4 c6p2p5 c61 = Xt0q x4 c2p0 c2p2p0 c2p2p1 c2p2p2 c2p2p3 c2p2p4 c2p2p5 c6p0 c6p2p0 c6p2p1 c6p2p2 c6p2p3 c6p2p4 c6p2p5 c61) (n : Nat) (x4 : List Int) (x41 : Int) (x42 : Int) (c2p0 : Int) (c2p2p0 : Int) (c2p2p1 : Int) (c2p2p2 : Int) (c2p2p3 : List Int) (c2p2p4 : Int) (c2p2p5 : Int) (c6p0 : Int) (c6p2p0 : Int) (c6p2p1 : Int) (c6p2p2 : Int) (c6p2p3 : List Int) (c6p2p4 : Int) (c6p2p5 : Int) (c61 : List (Int × (List Int × List Int × Int × Unit) × Unit)) : l0 k Xt0 n x4 x41 x42 c2p0 c2p2p0 c2p2p1 c2p2p2 c2p2p3 c2p2p4 c2p2p5 c6p0 c6p2p0 c6p2p1 c6p2p2 c6p2p3 c6p2p4 c6p2p5 c61 = l0 k Xt0q n x4 x41 x42 c2p0 c2p2p0 c2p2p1 c2p2p2 c2p2p3 c2p2p4 c2p2p5 c6p0 c6p2p0 c6p2p1 c6p2p2 c6p2p3 c6p2p4 c6p2p5 c61 := by
  obtain rfl : Xt0 = Xt0q := by funext x4; funext c2p0; funext c2p2p0; funext c2p2p1; funext c2p2p2; funext c2p2p3; funext c2p2p4; funext c2p2p5; funext c6p0; funext c6p2p0; funext c6p2p1; funext c6p2p2; funext c6p2p3; funext c6p2p4; funext c6p2p5; funext c61; exact hXt0 x4 c2p0 c2p2p0 c2p2p1 c2p2p2 c2p2p3 c2p2p4 c2p2p5 c6p0 c6p2p0 c6p2p1 c6p2p2 c6p2p3 c6p2p4 c6p2p5 c61
  rfl
noncomputable def cd1 : Code := cR (cR (cR (cR (cR (cR (cR (cR (cR (cR (cR (cB Try.f47)))))))))))
def St4 (x4 : List Int) (c2p0 : Int) (c2p2p0 : Int) (c2p2p1 : Int) (c2p2p2 : Int) (c2p2p3 : List Int) (c2p2p4 : Int) (c2p2p5 : Int) (c6p0 : Int) (c6p2p0 : Int) (c6p2p1 : Int) (c6p2p2 : Int) (c6p2p3 : List Int) (c6p2p4 : Int) (c6p2p5 : Int) (c61 : List (Int × (List Int × List Int × Int × Unit) × Unit)) : St := stL 96 [(2, .ref 2 0 []), (4, .data .str x4), (6, .ref 6 0 [])] [(2, .cell (.pair (.int .i64) (.pair (.sl (.pair (.int .i64) (.pair (.pair (.arr 4 (.int .u64)) (.pair (.arr 4 (.int .u64)) (.pair (.int .i64) .unit))) .unit))) (.pair (.pair (.int .i64) (.pair (.int .i64) (.pair (.int .i64) (.pair (.arr 32 (.int .u8)) (.pair (.int .i64) (.pair (.int .i64) (.pair (.sl (.int .u8)) .unit))))))) .unit))) (.agg (.pair (.int .i64) (.pair (.sl (.pair (.int .i64) (.pair (.pair (.arr 4 (.int .u64)) (.pair (.arr 4 (.int .u64)) (.pair (.int .i64) .unit))) .unit))) (.pair (.pair (.int .i64) (.pair (.int .i64) (.pair (.int .i64) (.pair (.arr 32 (.int .u8)) (.pair (.int .i64) (.pair (.int .i64) (.pair (.sl (.int .u8)) .unit))))))) .unit))) [.data (.int .i64) c2p0, .full (.pair (.int .i64) (.pair (.pair (.arr 4 (.int .u64)) (.pair (.arr 4 (.int .u64)) (.pair (.int .i64) .unit))) .unit)) [], .agg (.pair (.int .i64) (.pair (.int .i64) (.pair (.int .i64) (.pair (.arr 32 (.int .u8)) (.pair (.int .i64) (.pair (.int .i64) (.pair (.sl (.int .u8)) .unit))))))) [.data (.int .i64) c2p2p0, .data (.int .i64) c2p2p1, .data (.int .i64) c2p2p2, .data (.arr 32 (.int .u8)) c2p2p3, .data (.int .i64) c2p2p4, .data (.int .i64) c2p2p5, .full (.int .u8) []]]) false), (6, .cell (.pair (.int .i64) (.pair (.sl (.pair (.int .i64) (.pair (.pair (.arr 4 (.int .u64)) (.pair (.arr 4 (.int .u64)) (.pair (.int .i64) .unit))) .unit))) (.pair (.pair (.int .i64) (.pair (.int .i64) (.pair (.int .i64) (.pair (.arr 32 (.int .u8)) (.pair (.int .i64) (.pair (.int .i64) (.pair (.sl (.int .u8)) .unit))))))) .unit))) (.agg (.pair (.int .i64) (.pair (.sl (.pair (.int .i64) (.pair (.pair (.arr 4 (.int .u64)) (.pair (.arr 4 (.int .u64)) (.pair (.int .i64) .unit))) .unit))) (.pair (.pair (.int .i64) (.pair (.int .i64) (.pair (.int .i64) (.pair (.arr 32 (.int .u8)) (.pair (.int .i64) (.pair (.int .i64) (.pair (.sl (.int .u8)) .unit))))))) .unit))) [.data (.int .i64) c6p0, .app 61 0, .agg (.pair (.int .i64) (.pair (.int .i64) (.pair (.int .i64) (.pair (.arr 32 (.int .u8)) (.pair (.int .i64) (.pair (.int .i64) (.pair (.sl (.int .u8)) .unit))))))) [.data (.int .i64) c6p2p0, .data (.int .i64) c6p2p1, .data (.int .i64) c6p2p2, .data (.arr 32 (.int .u8)) c6p2p3, .data (.int .i64) c6p2p4, .data (.int .i64) c6p2p5, .full (.int .u8) []]]) false), (61, .buf (.pair (.int .i64) (.pair (.pair (.arr 4 (.int .u64)) (.pair (.arr 4 (.int .u64)) (.pair (.int .i64) .unit))) .unit)) c61 0 true)]
def j0 {α : Type} (Rt : Int → (Int × List (Int × (List Int × List Int × Int × Unit) × Unit) × (Int × Int × Int × List Int × Int × Int × List Int × Unit) × Unit) → Option α) (x4 : List Int) (c2p0 : Int) (c2p2p0 : Int) (c2p2p1 : Int) (c2p2p2 : Int) (c2p2p3 : List Int) (c2p2p4 : Int) (c2p2p5 : Int) (c6p0 : Int) (c6p2p0 : Int) (c6p2p1 : Int) (c6p2p2 : Int) (c6p2p3 : List Int) (c6p2p4 : Int) (c6p2p5 : Int) (c61 : List (Int × (List Int × List Int × Int × Unit) × Unit)) : Option α :=
  if 0 ≤ (0 : Int) ∧ (0 : Int) ≤ (8 : Int) ∧ (8 : Int) ≤ (x4.length : Int) then
    (Go.Bx.basculeref_number.run (cutL x4 0 8)).bind fun y4 =>
    if 0 ≤ (8 : Int) ∧ (8 : Int) ≤ (12 : Int) ∧ (12 : Int) ≤ (x4.length : Int) then
      (Go.Bx.basculeref_number.run (cutL x4 8 12)).bind fun y5 =>
      if 0 ≤ (12 : Int) ∧ (12 : Int) ≤ (14 : Int) ∧ (14 : Int) ≤ (x4.length : Int) then
        (Go.Bx.basculeref_number.run (cutL x4 12 14)).bind fun y6 =>
        if 0 ≤ (14 : Int) ∧ (14 : Int) ≤ (46 : Int) ∧ (46 : Int) ≤ (x4.length : Int) then
          (Go.Bx.basculeref_word.run (cutL x4 14 46)).bind fun y7 =>
          if 0 ≤ (46 : Int) ∧ (46 : Int) ≤ (54 : Int) ∧ (54 : Int) ≤ (x4.length : Int) then
            (Go.Bx.basculeref_number.run (cutL x4 46 54)).bind fun y8 =>
            if 0 ≤ (54 : Int) ∧ (54 : Int) < (x4.length : Int) then
              if 0 ≤ (55 : Int) ∧ (55 : Int) ≤ (x4.length : Int) ∧ (x4.length : Int) ≤ (x4.length : Int) then
                (Go.Bx.basculeref_PaperFault.run (c6p0, c61, (y4, y5, y6, y7, y8, (IntKind.i64.wrap (List.getD x4 54 0)), (cutL x4 55 (x4.length : Int)), ()), ())).bind fun y9 =>
                if (y9 != 0) = true then
                  Rt y9 (0, [], (0, 0, 0, (List.replicate 32 0), 0, 0, [], ()), ())
                else
                  Rt 0 (c6p0, c61, (y4, y5, y6, y7, y8, (IntKind.i64.wrap (List.getD x4 54 0)), (cutL x4 55 (x4.length : Int)), ()), ())
              else none
            else none
          else none
        else none
      else none
    else none
  else none
theorem j0_eq {α : Type} (k : Nat) (Q : Ex → St → Option α) (x4 : List Int) (c2p0 : Int) (c2p2p0 : Int) (c2p2p1 : Int) (c2p2p2 : Int) (c2p2p3 : List Int) (c2p2p4 : Int) (c2p2p5 : Int) (c6p0 : Int) (c6p2p0 : Int) (c6p2p1 : Int) (c6p2p2 : Int) (c6p2p3 : List Int) (c6p2p4 : Int) (c6p2p5 : Int) (c61 : List (Int × (List Int × List Int × Int × Unit) × Unit)) :
    (den C k) cd1 Q (St4 x4 c2p0 c2p2p0 c2p2p1 c2p2p2 c2p2p3 c2p2p4 c2p2p5 c6p0 c6p2p0 c6p2p1 c6p2p2 c6p2p3 c6p2p4 c6p2p5 c61) = j0 (fun (x3 : Int) (c2 : Int × List (Int × (List Int × List Int × Int × Unit) × Unit) × (Int × Int × Int × List Int × Int × Int × List Int × Unit) × Unit) => Q .ret (St1 x3 c2)) x4 c2p0 c2p2p0 c2p2p1 c2p2p2 c2p2p3 c2p2p4 c2p2p5 c6p0 c6p2p0 c6p2p1 c6p2p2 c6p2p3 c6p2p4 c6p2p5 c61 := by
  have h : ∀ (D L : DT α), denJ D L Js C cd1 Q (St4 x4 c2p0 c2p2p0 c2p2p1 c2p2p2 c2p2p3 c2p2p4 c2p2p5 c6p0 c6p2p0 c6p2p1 c6p2p2 c6p2p3 c6p2p4 c6p2p5 c61) =
        if 0 ≤ (0 : Int) ∧ (0 : Int) ≤ (8 : Int) ∧ (8 : Int) ≤ (x4.length : Int) then
          (Go.Bx.basculeref_number.run (cutL x4 0 8)).bind fun y4 =>
          if 0 ≤ (8 : Int) ∧ (8 : Int) ≤ (12 : Int) ∧ (12 : Int) ≤ (x4.length : Int) then
            (Go.Bx.basculeref_number.run (cutL x4 8 12)).bind fun y5 =>
            if 0 ≤ (12 : Int) ∧ (12 : Int) ≤ (14 : Int) ∧ (14 : Int) ≤ (x4.length : Int) then
              (Go.Bx.basculeref_number.run (cutL x4 12 14)).bind fun y6 =>
              if 0 ≤ (14 : Int) ∧ (14 : Int) ≤ (46 : Int) ∧ (46 : Int) ≤ (x4.length : Int) then
                (Go.Bx.basculeref_word.run (cutL x4 14 46)).bind fun y7 =>
                if 0 ≤ (46 : Int) ∧ (46 : Int) ≤ (54 : Int) ∧ (54 : Int) ≤ (x4.length : Int) then
                  (Go.Bx.basculeref_number.run (cutL x4 46 54)).bind fun y8 =>
                  if 0 ≤ (54 : Int) ∧ (54 : Int) < (x4.length : Int) then
                    if 0 ≤ (55 : Int) ∧ (55 : Int) ≤ (x4.length : Int) ∧ (x4.length : Int) ≤ (x4.length : Int) then
                      (Go.Bx.basculeref_PaperFault.run (c6p0, c61, (y4, y5, y6, y7, y8, (IntKind.i64.wrap (List.getD x4 54 0)), (cutL x4 55 (x4.length : Int)), ()), ())).bind fun y9 =>
                      if (y9 != 0) = true then
                        Q .ret (St1 y9 (0, [], (0, 0, 0, (List.replicate 32 0), 0, 0, [], ()), ()))
                      else
                        Q .ret (St1 0 (c6p0, c61, (y4, y5, y6, y7, y8, (IntKind.i64.wrap (List.getD x4 54 0)), (cutL x4 55 (x4.length : Int)), ()), ()))
                    else none
                  else none
                else none
              else none
            else none
          else none
        else none := by
    intro D L; kernel_rfl
  refine (show (den C k) cd1 Q (St4 x4 c2p0 c2p2p0 c2p2p1 c2p2p2 c2p2p3 c2p2p4 c2p2p5 c6p0 c6p2p0 c6p2p1 c6p2p2 c6p2p3 c6p2p4 c6p2p5 c61) = denJ (den C k) (lp C k) Js C cd1 Q (St4 x4 c2p0 c2p2p0 c2p2p1 c2p2p2 c2p2p3 c2p2p4 c2p2p5 c6p0 c6p2p0 c6p2p1 c6p2p2 c6p2p3 c6p2p4 c6p2p5 c61) from (denJ_den _ _ _ _ _ _).symm).trans ((h (den C k) (lp C k)).trans ?_)
  first | rfl | kernel_rfl
theorem a0 {α : Type} (k : Nat) (Q : Ex → St → Option α) (x4 : List Int) (x41 : Int) (x42 : Int) (c2p0 : Int) (c2p2p0 : Int) (c2p2p1 : Int) (c2p2p2 : Int) (c2p2p3 : List Int) (c2p2p4 : Int) (c2p2p5 : Int) (c6p0 : Int) (c6p2p0 : Int) (c6p2p1 : Int) (c6p2p2 : Int) (c6p2p3 : List Int) (c6p2p4 : Int) (c6p2p5 : Int) (c61 : List (Int × (List Int × List Int × Int × Unit) × Unit)) :
    (lp C k) cd0 (blkQ C 0 (sq (den C k) (lp C k) Js C cd1 Q)) (St2 x4 x41 x42 c2p0 c2p2p0 c2p2p1 c2p2p2 c2p2p3 c2p2p4 c2p2p5 c6p0 c6p2p0 c6p2p1 c6p2p2 c6p2p3 c6p2p4 c6p2p5 c61) = l0 k (fun (x4 : List Int) (c2p0 : Int) (c2p2p0 : Int) (c2p2p1 : Int) (c2p2p2 : Int) (c2p2p3 : List Int) (c2p2p4 : Int) (c2p2p5 : Int) (c6p0 : Int) (c6p2p0 : Int) (c6p2p1 : Int) (c6p2p2 : Int) (c6p2p3 : List Int) (c6p2p4 : Int) (c6p2p5 : Int) (c61 : List (Int × (List Int × List Int × Int × Unit) × Unit)) => j0 (fun (x3 : Int) (c2 : Int × List (Int × (List Int × List Int × Int × Unit) × Unit) × (Int × Int × Int × List Int × Int × Int × List Int × Unit) × Unit) => Q .ret (St1 x3 c2)) x4 c2p0 c2p2p0 c2p2p1 c2p2p2 c2p2p3 c2p2p4 c2p2p5 c6p0 c6p2p0 c6p2p1 c6p2p2 c6p2p3 c6p2p4 c6p2p5 c61) k x4 x41 x42 c2p0 c2p2p0 c2p2p1 c2p2p2 c2p2p3 c2p2p4 c2p2p5 c6p0 c6p2p0 c6p2p1 c6p2p2 c6p2p3 c6p2p4 c6p2p5 c61 :=
  (show (lp C k) cd0 (blkQ C 0 (sq (den C k) (lp C k) Js C cd1 Q)) (St2 x4 x41 x42 c2p0 c2p2p0 c2p2p1 c2p2p2 c2p2p3 c2p2p4 c2p2p5 c6p0 c6p2p0 c6p2p1 c6p2p2 c6p2p3 c6p2p4 c6p2p5 c61) = iter (rnd C k cd0 48 (blkQ C 0 (sq (den C k) (lp C k) Js C cd1 Q))) k (St2 x4 x41 x42 c2p0 c2p2p0 c2p2p1 c2p2p2 c2p2p3 c2p2p4 c2p2p5 c6p0 c6p2p0 c6p2p1 c6p2p2 c6p2p3 c6p2p4 c6p2p5 c61) by kernel_rfl).trans ((l0_eq k (blkQ C 0 (sq (den C k) (lp C k) Js C cd1 Q)) k x4 x41 x42 c2p0 c2p2p0 c2p2p1 c2p2p2 c2p2p3 c2p2p4 c2p2p5 c6p0 c6p2p0 c6p2p1 c6p2p2 c6p2p3 c6p2p4 c6p2p5 c61).trans (l0_congr k _ _ (fun x4 c2p0 c2p2p0 c2p2p1 c2p2p2 c2p2p3 c2p2p4 c2p2p5 c6p0 c6p2p0 c6p2p1 c6p2p2 c6p2p3 c6p2p4 c6p2p5 c61 => ((show (blkQ C 0 (sq (den C k) (lp C k) Js C cd1 Q)) (.exit 0) (St3 x4 c2p0 c2p2p0 c2p2p1 c2p2p2 c2p2p3 c2p2p4 c2p2p5 c6p0 c6p2p0 c6p2p1 c6p2p2 c6p2p3 c6p2p4 c6p2p5 c61) = (den C k) cd1 Q (St4 x4 c2p0 c2p2p0 c2p2p1 c2p2p2 c2p2p3 c2p2p4 c2p2p5 c6p0 c6p2p0 c6p2p1 c6p2p2 c6p2p3 c6p2p4 c6p2p5 c61) by kernel_rfl).trans (by simp only [j0_eq]))) k x4 x41 x42 c2p0 c2p2p0 c2p2p1 c2p2p2 c2p2p3 c2p2p4 c2p2p5 c6p0 c6p2p0 c6p2p1 c6p2p2 c6p2p3 c6p2p4 c6p2p5 c61))
def top {α : Type} (k : Nat) (Rt : Int → (Int × List (Int × (List Int × List Int × Int × Unit) × Unit) × (Int × Int × Int × List Int × Int × Int × List Int × Unit) × Unit) → Option α) (x0 : List Int) : Option α :=
  if (beqD .str x0 []) = true then
    Rt 4 (0, [], (0, 0, 0, (List.replicate 32 0), 0, 0, [], ()), ())
  else
    if 0 ≤ (0 : Int) ∧ (0 : Int) < (x0.length : Int) then
      if ((List.getD x0 0 0) != 1) = true then
        Rt 3 (0, [], (0, 0, 0, (List.replicate 32 0), 0, 0, [], ()), ())
      else
        if (decide ((x0.length : Int) < 6)) = true then
          Rt 4 (0, [], (0, 0, 0, (List.replicate 32 0), 0, 0, [], ()), ())
        else
          if 0 ≤ (5 : Int) ∧ (5 : Int) < (x0.length : Int) then
            if (decide ((IntKind.i64.wrap (List.getD x0 5 0)) > 19)) = true then
              Rt 1 (0, [], (0, 0, 0, (List.replicate 32 0), 0, 0, [], ()), ())
            else
              if (decide ((x0.length : Int) < (IntKind.i64.wrap ((IntKind.i64.wrap (6 + (IntKind.i64.wrap (66 * (IntKind.i64.wrap (List.getD x0 5 0)))))) + 55)))) = true then
                Rt 4 (0, [], (0, 0, 0, (List.replicate 32 0), 0, 0, [], ()), ())
              else
                if 0 ≤ (1 : Int) ∧ (1 : Int) ≤ (5 : Int) ∧ (5 : Int) ≤ (x0.length : Int) then
                  (Go.Bx.basculeref_number.run (cutL x0 1 5)).bind fun y1 =>
                  if 0 ≤ (6 : Int) ∧ (6 : Int) ≤ (x0.length : Int) ∧ (x0.length : Int) ≤ (x0.length : Int) then
                    l0 k (fun (x4 : List Int) (c2p0 : Int) (c2p2p0 : Int) (c2p2p1 : Int) (c2p2p2 : Int) (c2p2p3 : List Int) (c2p2p4 : Int) (c2p2p5 : Int) (c6p0 : Int) (c6p2p0 : Int) (c6p2p1 : Int) (c6p2p2 : Int) (c6p2p3 : List Int) (c6p2p4 : Int) (c6p2p5 : Int) (c61 : List (Int × (List Int × List Int × Int × Unit) × Unit)) => j0 Rt x4 c2p0 c2p2p0 c2p2p1 c2p2p2 c2p2p3 c2p2p4 c2p2p5 c6p0 c6p2p0 c6p2p1 c6p2p2 c6p2p3 c6p2p4 c6p2p5 c61) k (cutL x0 6 (x0.length : Int)) (IntKind.i64.wrap (List.getD x0 5 0)) 0 0 0 0 0 (List.replicate 32 0) 0 0 y1 0 0 0 (List.replicate 32 0) 0 0 []
                  else none
                else none
          else none
    else none
theorem top_eq {α : Type} (k : Nat) (Q : Ex → St → Option α) (x0 : List Int) :
    (den C k) (cB Try.f47) Q (St0 x0) = top k (fun (x3 : Int) (c2 : Int × List (Int × (List Int × List Int × Int × Unit) × Unit) × (Int × Int × Int × List Int × Int × Int × List Int × Unit) × Unit) => Q .ret (St1 x3 c2)) x0 := by
  have h : ∀ (D L : DT α), denJ D L Js C (cB Try.f47) Q (St0 x0) =
        if (beqD .str x0 []) = true then
          Q .ret (St1 4 (0, [], (0, 0, 0, (List.replicate 32 0), 0, 0, [], ()), ()))
        else
          if 0 ≤ (0 : Int) ∧ (0 : Int) < (x0.length : Int) then
            if ((List.getD x0 0 0) != 1) = true then
              Q .ret (St1 3 (0, [], (0, 0, 0, (List.replicate 32 0), 0, 0, [], ()), ()))
            else
              if (decide ((x0.length : Int) < 6)) = true then
                Q .ret (St1 4 (0, [], (0, 0, 0, (List.replicate 32 0), 0, 0, [], ()), ()))
              else
                if 0 ≤ (5 : Int) ∧ (5 : Int) < (x0.length : Int) then
                  if (decide ((IntKind.i64.wrap (List.getD x0 5 0)) > 19)) = true then
                    Q .ret (St1 1 (0, [], (0, 0, 0, (List.replicate 32 0), 0, 0, [], ()), ()))
                  else
                    if (decide ((x0.length : Int) < (IntKind.i64.wrap ((IntKind.i64.wrap (6 + (IntKind.i64.wrap (66 * (IntKind.i64.wrap (List.getD x0 5 0)))))) + 55)))) = true then
                      Q .ret (St1 4 (0, [], (0, 0, 0, (List.replicate 32 0), 0, 0, [], ()), ()))
                    else
                      if 0 ≤ (1 : Int) ∧ (1 : Int) ≤ (5 : Int) ∧ (5 : Int) ≤ (x0.length : Int) then
                        (Go.Bx.basculeref_number.run (cutL x0 1 5)).bind fun y1 =>
                        if 0 ≤ (6 : Int) ∧ (6 : Int) ≤ (x0.length : Int) ∧ (x0.length : Int) ≤ (x0.length : Int) then
                          L cd0 (blkQ C 0 (sq D L Js C cd1 Q)) (St2 (cutL x0 6 (x0.length : Int)) (IntKind.i64.wrap (List.getD x0 5 0)) 0 0 0 0 0 (List.replicate 32 0) 0 0 y1 0 0 0 (List.replicate 32 0) 0 0 [])
                        else none
                      else none
                else none
          else none := by
    intro D L; kernel_rfl
  refine (show (den C k) (cB Try.f47) Q (St0 x0) = denJ (den C k) (lp C k) Js C (cB Try.f47) Q (St0 x0) from (denJ_den _ _ _ _ _ _).symm).trans ((h (den C k) (lp C k)).trans ?_)
  simp only [a0]
  first | rfl | kernel_rfl
def run (x0 : List Int) : Option ((Int × List (Int × (List Int × List Int × Int × Unit) × Unit) × (Int × Int × Int × List Int × Int × Int × List Int × Unit) × Unit) × Int × Unit) := top (α := (Int × List (Int × (List Int × List Int × Int × Unit) × Unit) × (Int × Int × Int × List Int × Int × Int × List Int × Unit) × Unit) × Int × Unit) fuel (fun (x3 : Int) (c2 : Int × List (Int × (List Int × List Int × Int × Unit) × Unit) × (Int × Int × Int × List Int × Int × Int × List Int × Unit) × Unit) => some (c2, x3, ())) x0
def F : Fn := ⟨(.pair (.sl (.int .u8)) .unit), (.pair (.pair (.int .i64) (.pair (.sl (.pair (.int .i64) (.pair (.pair (.arr 4 (.int .u64)) (.pair (.arr 4 (.int .u64)) (.pair (.int .i64) .unit))) .unit))) (.pair (.pair (.int .i64) (.pair (.int .i64) (.pair (.int .i64) (.pair (.arr 32 (.int .u8)) (.pair (.int .i64) (.pair (.int .i64) (.pair (.sl (.int .u8)) .unit))))))) .unit))) (.pair (.int .i64) .unit)), true, fun x => run x.1⟩
set_option maxRecDepth 100000 in
theorem con : Con Try.prog 47 F := by
  refine con_of_den (C := C) (ctx_ok (by kernel_rfl) (by kernel_rfl) (by kernel_rfl) (by kernel_rfl) ⟨.inl ⟨Go.Bx.basculeref_PaperFault.con, Go.Bx.basculeref_PaperFault.named⟩, ⟨.inl ⟨Go.Bx.basculeref_number.con, Go.Bx.basculeref_number.named⟩, ⟨.inl ⟨Go.Bx.basculeref_wideOf.con, Go.Bx.basculeref_wideOf.named⟩, ⟨.inl ⟨Go.Bx.basculeref_word.con, Go.Bx.basculeref_word.named⟩, trivial⟩⟩⟩⟩) (by kernel_rfl) Try.func47 (c := cB Try.f47) (by kernel_rfl) (by kernel_rfl) F fuel (fun x => by simp [F, spread, Try.ntmps47]) ?_
  intro x r h
  rw [← h]
  have h1 : start F Try.f47.ntmps x = (St0 x.1) := by kernel_rfl
  rw [h1]
  refine (top_eq fuel (fin C Try.f47.results.toList F.rs F.multi) x.1).trans ?_
  kernel_rfl
theorem named : Named Try.prog 47 := named_of Try.func47 (by kernel_rfl) (by kernel_rfl)
end Go.Bx.basculeref_PaperOf
namespace Go.Bx.basculelaw_samePaper
open Go Go.Proofs Go.Bx
set_option maxRecDepth 100000
set_option linter.unusedVariables false
def Js : List Nat := [10]
def C : Ctx := ⟨[(3, (.int .i64)), (4, .bool), (74, (.sl (.pair (.int .i64) (.pair (.pair (.arr 4 (.int .u64)) (.pair (.arr 4 (.int .u64)) (.pair (.int .i64) .unit))) .unit)))), (76, (.pair (.int .i64) (.pair (.int .i64) (.pair (.int .i64) (.pair (.arr 32 (.int .u8)) (.pair (.int .i64) (.pair (.int .i64) (.pair (.sl (.int .u8)) .unit)))))))), (78, (.pair (.int .i64) (.pair (.sl (.pair (.int .i64) (.pair (.pair (.arr 4 (.int .u64)) (.pair (.arr 4 (.int .u64)) (.pair (.int .i64) .unit))) .unit))) (.pair (.pair (.int .i64) (.pair (.int .i64) (.pair (.int .i64) (.pair (.arr 32 (.int .u8)) (.pair (.int .i64) (.pair (.int .i64) (.pair (.sl (.int .u8)) .unit))))))) .unit)))), (141, (.pair (.int .i64) (.pair (.pair (.arr 4 (.int .u64)) (.pair (.arr 4 (.int .u64)) (.pair (.int .i64) .unit))) .unit)))], [], [], fnL [(95, Go.Bx.basculeref_SameBody.F)], noSh, [], invL [], [(2, [4]), (1, []), (4, [2, 3, 30, 31]), (12, [2, 3, 30, 31]), (27, [])], [], [], 0, 0⟩
def St0 (x0 : Int × List (Int × (List Int × List Int × Int × Unit) × Unit) × (Int × Int × Int × List Int × Int × Int × List Int × Unit) × Unit) (x1 : Int × List (Int × (List Int × List Int × Int × Unit) × Unit) × (Int × Int × Int × List Int × Int × Int × List Int × Unit) × Unit) : St := stL 46 [(0, .data (.pair (.int .i64) (.pair (.sl (.pair (.int .i64) (.pair (.pair (.arr 4 (.int .u64)) (.pair (.arr 4 (.int .u64)) (.pair (.int .i64) .unit))) .unit))) (.pair (.pair (.int .i64) (.pair (.int .i64) (.pair (.int .i64) (.pair (.arr 32 (.int .u8)) (.pair (.int .i64) (.pair (.int .i64) (.pair (.sl (.int .u8)) .unit))))))) .unit))) x0), (1, .data (.pair (.int .i64) (.pair (.sl (.pair (.int .i64) (.pair (.pair (.arr 4 (.int .u64)) (.pair (.arr 4 (.int .u64)) (.pair (.int .i64) .unit))) .unit))) (.pair (.pair (.int .i64) (.pair (.int .i64) (.pair (.int .i64) (.pair (.arr 32 (.int .u8)) (.pair (.int .i64) (.pair (.int .i64) (.pair (.sl (.int .u8)) .unit))))))) .unit))) x1)] []
def St1 (x4 : Bool) : St := stL 46 [(4, .data .bool x4)] []
def St2 (x30 : Int) (x31 : Int) (c2 : Int × List (Int × (List Int × List Int × Int × Unit) × Unit) × (Int × Int × Int × List Int × Int × Int × List Int × Unit) × Unit) (c3 : Int × List (Int × (List Int × List Int × Int × Unit) × Unit) × (Int × Int × Int × List Int × Int × Int × List Int × Unit) × Unit) : St := stL 46 [(2, .ref 2 0 []), (3, .ref 3 0 []), (30, .data (.int .i64) x30), (31, .data (.int .i64) x31)] [(2, .cell (.pair (.int .i64) (.pair (.sl (.pair (.int .i64) (.pair (.pair (.arr 4 (.int .u64)) (.pair (.arr 4 (.int .u64)) (.pair (.int .i64) .unit))) .unit))) (.pair (.pair (.int .i64) (.pair (.int .i64) (.pair (.int .i64) (.pair (.arr 32 (.int .u8)) (.pair (.int .i64) (.pair (.int .i64) (.pair (.sl (.int .u8)) .unit))))))) .unit))) (.data (.pair (.int .i64) (.pair (.sl (.pair (.int .i64) (.pair (.pair (.arr 4 (.int .u64)) (.pair (.arr 4 (.int .u64)) (.pair (.int .i64) .unit))) .unit))) (.pair (.pair (.int .i64) (.pair (.int .i64) (.pair (.int .i64) (.pair (.arr 32 (.int .u8)) (.pair (.int .i64) (.pair (.int .i64) (.pair (.sl (.int .u8)) .unit))))))) .unit))) c2) false), (3, .cell (.pair (.int .i64) (.pair (.sl (.pair (.int .i64) (.pair (.pair (.arr 4 (.int .u64)) (.pair (.arr 4 (.int .u64)) (.pair (.int .i64) .unit))) .unit))) (.pair (.pair (.int .i64) (.pair (.int .i64) (.pair (.int .i64) (.pair (.arr 32 (.int .u8)) (.pair (.int .i64) (.pair (.int .i64) (.pair (.sl (.int .u8)) .unit))))))) .unit))) (.data (.pair (.int .i64) (.pair (.sl (.pair (.int .i64) (.pair (.pair (.arr 4 (.int .u64)) (.pair (.arr 4 (.int .u64)) (.pair (.int .i64) .unit))) .unit))) (.pair (.pair (.int .i64) (.pair (.int .i64) (.pair (.int .i64) (.pair (.arr 32 (.int .u8)) (.pair (.int .i64) (.pair (.int .i64) (.pair (.sl (.int .u8)) .unit))))))) .unit))) c3) false)]
noncomputable def cd0 : Code := cL (cL (cR (cL (cR (cR (cB Try.f48))))))
def St3 : St := stL 46 [] []
def l0s {α : Type} (Nx : Int → Int → (Int × List (Int × (List Int × List Int × Int × Unit) × Unit) × (Int × Int × Int × List Int × Int × Int × List Int × Unit) × Unit) → (Int × List (Int × (List Int × List Int × Int × Unit) × Unit) × (Int × Int × Int × List Int × Int × Int × List Int × Unit) × Unit) → Option α) (Rt : Bool → Option α) (Xt0 : Option α) (x30 : Int) (x31 : Int) (c2 : Int × List (Int × (List Int × List Int × Int × Unit) × Unit) × (Int × Int × Int × List Int × Int × Int × List Int × Unit) × Unit) (c3 : Int × List (Int × (List Int × List Int × Int × Unit) × Unit) × (Int × Int × Int × List Int × Int × Int × List Int × Unit) × Unit) : Option α :=
  if (decide (x31 < x30)) = true then
    if 0 ≤ x31 ∧ x31 < (c2.2.1.length : Int) then
      if 0 ≤ x31 ∧ x31 < (c3.2.1.length : Int) then
        if (not (beqD (.pair (.int .i64) (.pair (.pair (.arr 4 (.int .u64)) (.pair (.arr 4 (.int .u64)) (.pair (.int .i64) .unit))) .unit)) (List.getD c2.2.1 (Int.toNat x31) (0, ([0, 0, 0, 0], [0, 0, 0, 0], 0, ()), ())) (List.getD c3.2.1 (Int.toNat x31) (0, ([0, 0, 0, 0], [0, 0, 0, 0], 0, ()), ())))) = true then
          Rt false
        else
          Nx x30 (IntKind.i64.wrap (x31 + 1)) c2 c3
      else none
    else none
  else
    Xt0
theorem l0s_eq {α : Type} (k : Nat) (next : St → Option α) (Q : Ex → St → Option α) (x30 : Int) (x31 : Int) (c2 : Int × List (Int × (List Int × List Int × Int × Unit) × Unit) × (Int × Int × Int × List Int × Int × Int × List Int × Unit) × Unit) (c3 : Int × List (Int × (List Int × List Int × Int × Unit) × Unit) × (Int × Int × Int × List Int × Int × Int × List Int × Unit) × Unit) :
    rnd C k cd0 12 Q next (St2 x30 x31 c2 c3) = l0s (fun (x30 : Int) (x31 : Int) (c2 : Int × List (Int × (List Int × List Int × Int × Unit) × Unit) × (Int × Int × Int × List Int × Int × Int × List Int × Unit) × Unit) (c3 : Int × List (Int × (List Int × List Int × Int × Unit) × Unit) × (Int × Int × Int × List Int × Int × Int × List Int × Unit) × Unit) => next (St2 x30 x31 c2 c3)) (fun (x4 : Bool) => Q .ret (St1 x4)) (Q (.exit 0) St3) x30 x31 c2 c3 := by
  have h : ∀ (D L : DT α), denJ D L Js C cd0 (lq C 12 next Q) (St2 x30 x31 c2 c3) =
        if (decide (x31 < x30)) = true then
          if 0 ≤ x31 ∧ x31 < (c2.2.1.length : Int) then
            if 0 ≤ x31 ∧ x31 < (c3.2.1.length : Int) then
              if (not (beqD (.pair (.int .i64) (.pair (.pair (.arr 4 (.int .u64)) (.pair (.arr 4 (.int .u64)) (.pair (.int .i64) .unit))) .unit)) (List.getD c2.2.1 (Int.toNat x31) (0, ([0, 0, 0, 0], [0, 0, 0, 0], 0, ()), ())) (List.getD c3.2.1 (Int.toNat x31) (0, ([0, 0, 0, 0], [0, 0, 0, 0], 0, ()), ())))) = true then
                Q .ret (St1 false)
              else
                next (St2 x30 (IntKind.i64.wrap (x31 + 1)) c2 c3)
            else none
          else none
        else
          Q (.exit 0) St3 := by
    intro D L; kernel_rfl
  refine (show rnd C k cd0 12 Q next (St2 x30 x31 c2 c3) = denJ (den C k) (lp C k) Js C cd0 (lq C 12 next Q) (St2 x30 x31 c2 c3) from (denJ_den _ _ _ _ _ _).symm).trans ((h (den C k) (lp C k)).trans ?_)
  first | rfl | kernel_rfl
def l0 {α : Type} (k : Nat) (Rt : Bool → Option α) (Xt0 : Option α) : Nat → Int → Int → (Int × List (Int × (List Int × List Int × Int × Unit) × Unit) × (Int × Int × Int × List Int × Int × Int × List Int × Unit) × Unit) → (Int × List (Int × (List Int × List Int × Int × Unit) × Unit) × (Int × Int × Int × List Int × Int × Int × List Int × Unit) × Unit) → Option α
  | 0, _, _, _, _ => none
  | n + 1, x30, x31, c2, c3 => l0s (l0 k Rt Xt0 n) Rt Xt0 x30 x31 c2 c3
theorem l0_eq {α : Type} (k : Nat) (Q : Ex → St → Option α) : ∀ (n : Nat) (x30 : Int) (x31 : Int) (c2 : Int × List (Int × (List Int × List Int × Int × Unit) × Unit) × (Int × Int × Int × List Int × Int × Int × List Int × Unit) × Unit) (c3 : Int × List (Int × (List Int × List Int × Int × Unit) × Unit) × (Int × Int × Int × List Int × Int × Int × List Int × Unit) × Unit), iter (rnd C k cd0 12 Q) n (St2 x30 x31 c2 c3) = l0 k (fun (x4 : Bool) => Q .ret (St1 x4)) (Q (.exit 0) St3) n x30 x31 c2 c3
  | 0, _, _, _, _ => rfl
  | n + 1, x30, x31, c2, c3 => (iter_succ _ _ _).trans ((l0s_eq k (iter (rnd C k cd0 12 Q) n) Q x30 x31 c2 c3).trans (congrArg (fun N => l0s N (fun (x4 : Bool) => Q .ret (St1 x4)) (Q (.exit 0) St3) x30 x31 c2 c3) (funext fun x30 => funext fun x31 => funext fun c2 => funext fun c3 => l0_eq k Q n x30 x31 c2 c3)))
theorem l0_congr {α : Type} (k : Nat) (Rt : Bool → Option α) (Xt0 : Option α) (Rtq : Bool → Option α) (Xt0q : Option α) (hRt : ∀ (x4 : Bool), Rt x4 = Rtq x4) (hXt0 : Xt0 = Xt0q) (n : Nat) (x30 : Int) (x31 : Int) (c2 : Int × List (Int × (List Int × List Int × Int × Unit) × Unit) × (Int × Int × Int × List Int × Int × Int × List Int × Unit) × Unit) (c3 : Int × List (Int × (List Int × List Int × Int × Unit) × Unit) × (Int × Int × Int × List Int × Int × Int × List Int × Unit) × Unit) : l0 k Rt Xt0 n x30 x31 c2 c3 = l0 k Rtq Xt0q n x30 x31 c2 c3 := by
  obtain rfl : Rt = Rtq := by funext x4; exact hRt x4
  obtain rfl : Xt0 = Xt0q := hXt0
  rfl
noncomputable def cd1 : Code := cR (cR (cR (cB Try.f48)))
def St4 : St := stL 46 [] []
def j0 {α : Type} (Rt : Bool → Option α) : Option α :=
  Rt true
theorem j0_eq {α : Type} (k : Nat) (Q : Ex → St → Option α) :
    (den C k) cd1 Q St4 = j0 (fun (x4 : Bool) => Q .ret (St1 x4)) := by
  have h : ∀ (D L : DT α), denJ D L Js C cd1 Q St4 =
        Q .ret (St1 true) := by
    intro D L; kernel_rfl
  refine (show (den C k) cd1 Q St4 = denJ (den C k) (lp C k) Js C cd1 Q St4 from (denJ_den _ _ _ _ _ _).symm).trans ((h (den C k) (lp C k)).trans ?_)
  first | rfl | kernel_rfl
theorem a0 {α : Type} (k : Nat) (Q : Ex → St → Option α) (x30 : Int) (x31 : Int) (c2 : Int × List (Int × (List Int × List Int × Int × Unit) × Unit) × (Int × Int × Int × List Int × Int × Int × List Int × Unit) × Unit) (c3 : Int × List (Int × (List Int × List Int × Int × Unit) × Unit) × (Int × Int × Int × List Int × Int × Int × List Int × Unit) × Unit) :
    (lp C k) cd0 (blkQ C 0 (sq (den C k) (lp C k) Js C cd1 Q)) (St2 x30 x31 c2 c3) = l0 k (fun (x4 : Bool) => (fun (x4 : Bool) => Q .ret (St1 x4)) x4) (j0 (fun (x4 : Bool) => Q .ret (St1 x4))) k x30 x31 c2 c3 :=
  (show (lp C k) cd0 (blkQ C 0 (sq (den C k) (lp C k) Js C cd1 Q)) (St2 x30 x31 c2 c3) = iter (rnd C k cd0 12 (blkQ C 0 (sq (den C k) (lp C k) Js C cd1 Q))) k (St2 x30 x31 c2 c3) by kernel_rfl).trans ((l0_eq k (blkQ C 0 (sq (den C k) (lp C k) Js C cd1 Q)) k x30 x31 c2 c3).trans (l0_congr k _ _ _ _ (fun x4 => (show (blkQ C 0 (sq (den C k) (lp C k) Js C cd1 Q)) .ret (St1 x4) = Q .ret (St1 x4) by kernel_rfl)) ((show (blkQ C 0 (sq (den C k) (lp C k) Js C cd1 Q)) (.exit 0) St3 = (den C k) cd1 Q St4 by kernel_rfl).trans (by simp only [j0_eq])) k x30 x31 c2 c3))
def top {α : Type} (k : Nat) (Rt : Bool → Option α) (x0 : Int × List (Int × (List Int × List Int × Int × Unit) × Unit) × (Int × Int × Int × List Int × Int × Int × List Int × Unit) × Unit) (x1 : Int × List (Int × (List Int × List Int × Int × Unit) × Unit) × (Int × Int × Int × List Int × Int × Int × List Int × Unit) × Unit) : Option α :=
  (if ((cond (x0.1 != x1.1) true ((x0.2.1.length : Int) != (x1.2.1.length : Int))) == false) = true then Go.Bx.basculeref_SameBody.run x0.2.2.1 x1.2.2.1 else some false).bind fun y1 =>
  if (cond (cond (x0.1 != x1.1) true ((x0.2.1.length : Int) != (x1.2.1.length : Int))) true (not y1)) = true then
    Rt false
  else
    l0 k (fun (x4 : Bool) => Rt x4) (j0 Rt) k (x0.2.1.length : Int) 0 x0 x1
theorem top_eq {α : Type} (k : Nat) (Q : Ex → St → Option α) (x0 : Int × List (Int × (List Int × List Int × Int × Unit) × Unit) × (Int × Int × Int × List Int × Int × Int × List Int × Unit) × Unit) (x1 : Int × List (Int × (List Int × List Int × Int × Unit) × Unit) × (Int × Int × Int × List Int × Int × Int × List Int × Unit) × Unit) :
    (den C k) (cB Try.f48) Q (St0 x0 x1) = top k (fun (x4 : Bool) => Q .ret (St1 x4)) x0 x1 := by
  have h : ∀ (D L : DT α), denJ D L Js C (cB Try.f48) Q (St0 x0 x1) =
        (if ((cond (x0.1 != x1.1) true ((x0.2.1.length : Int) != (x1.2.1.length : Int))) == false) = true then Go.Bx.basculeref_SameBody.run x0.2.2.1 x1.2.2.1 else some false).bind fun y1 =>
        if (cond (cond (x0.1 != x1.1) true ((x0.2.1.length : Int) != (x1.2.1.length : Int))) true (not y1)) = true then
          Q .ret (St1 false)
        else
          L cd0 (blkQ C 0 (sq D L Js C cd1 Q)) (St2 (x0.2.1.length : Int) 0 x0 x1) := by
    intro D L; kernel_rfl
  refine (show (den C k) (cB Try.f48) Q (St0 x0 x1) = denJ (den C k) (lp C k) Js C (cB Try.f48) Q (St0 x0 x1) from (denJ_den _ _ _ _ _ _).symm).trans ((h (den C k) (lp C k)).trans ?_)
  simp only [a0]
  first | rfl | kernel_rfl
def run (x0 : Int × List (Int × (List Int × List Int × Int × Unit) × Unit) × (Int × Int × Int × List Int × Int × Int × List Int × Unit) × Unit) (x1 : Int × List (Int × (List Int × List Int × Int × Unit) × Unit) × (Int × Int × Int × List Int × Int × Int × List Int × Unit) × Unit) : Option (Bool) := top (α := Bool) fuel (fun (x4 : Bool) => some x4) x0 x1
def F : Fn := ⟨(.pair (.pair (.int .i64) (.pair (.sl (.pair (.int .i64) (.pair (.pair (.arr 4 (.int .u64)) (.pair (.arr 4 (.int .u64)) (.pair (.int .i64) .unit))) .unit))) (.pair (.pair (.int .i64) (.pair (.int .i64) (.pair (.int .i64) (.pair (.arr 32 (.int .u8)) (.pair (.int .i64) (.pair (.int .i64) (.pair (.sl (.int .u8)) .unit))))))) .unit))) (.pair (.pair (.int .i64) (.pair (.sl (.pair (.int .i64) (.pair (.pair (.arr 4 (.int .u64)) (.pair (.arr 4 (.int .u64)) (.pair (.int .i64) .unit))) .unit))) (.pair (.pair (.int .i64) (.pair (.int .i64) (.pair (.int .i64) (.pair (.arr 32 (.int .u8)) (.pair (.int .i64) (.pair (.int .i64) (.pair (.sl (.int .u8)) .unit))))))) .unit))) .unit)), .bool, false, fun x => run x.1 x.2.1⟩
set_option maxRecDepth 100000 in
theorem con : Con Try.prog 48 F := by
  refine con_of_den (C := C) (ctx_ok (by kernel_rfl) (by kernel_rfl) (by kernel_rfl) (by kernel_rfl) ⟨.inl ⟨Go.Bx.basculeref_SameBody.con, Go.Bx.basculeref_SameBody.named⟩, trivial⟩) (by kernel_rfl) Try.func48 (c := cB Try.f48) (by kernel_rfl) (by kernel_rfl) F fuel (fun x => by simp [F, spread, Try.ntmps48]) ?_
  intro x r h
  rw [← h]
  have h1 : start F Try.f48.ntmps x = (St0 x.1 x.2.1) := by kernel_rfl
  rw [h1]
  refine (top_eq fuel (fin C Try.f48.results.toList F.rs F.multi) x.1 x.2.1).trans ?_
  kernel_rfl
theorem named : Named Try.prog 48 := named_of Try.func48 (by kernel_rfl) (by kernel_rfl)
end Go.Bx.basculelaw_samePaper
namespace Go.Bx.basculelaw_PaperDecodes
open Go Go.Proofs Go.Bx
set_option maxRecDepth 100000
set_option linter.unusedVariables false
def Js : List Nat := []
def C : Ctx := ⟨[(4, .bool), (59, (.sl (.int .u8))), (78, (.pair (.int .i64) (.pair (.sl (.pair (.int .i64) (.pair (.pair (.arr 4 (.int .u64)) (.pair (.arr 4 (.int .u64)) (.pair (.int .i64) .unit))) .unit))) (.pair (.pair (.int .i64) (.pair (.int .i64) (.pair (.int .i64) (.pair (.arr 32 (.int .u8)) (.pair (.int .i64) (.pair (.int .i64) (.pair (.sl (.int .u8)) .unit))))))) .unit))))], [], [], fnL [(46, Go.Bx.paper_Decode.F), (47, Go.Bx.basculeref_PaperOf.F), (48, Go.Bx.basculelaw_samePaper.F)], noSh, [], invL [], [(2, [2])], [], [], 0, 0⟩
def St0 (x0 : List Int) : St := stL 25 [(0, .data (.sl (.int .u8)) x0)] []
def St1 (x2 : Bool) : St := stL 25 [(2, .data .bool x2)] []
def top {α : Type} (Rt : Bool → Option α) (x0 : List Int) : Option α :=
  (Go.Bx.paper_Decode.run x0).bind fun y1 =>
  (Go.Bx.basculeref_PaperOf.run x0).bind fun y2 =>
  (Go.Bx.basculelaw_samePaper.run y1.1 y2.1).bind fun y3 =>
  Rt (cond y3 (y1.2.1 == y2.2.1) false)
theorem top_eq {α : Type} (k : Nat) (Q : Ex → St → Option α) (x0 : List Int) :
    (den C k) (cB Try.f14) Q (St0 x0) = top (fun (x2 : Bool) => Q .ret (St1 x2)) x0 := by
  have h : ∀ (D L : DT α), denJ D L Js C (cB Try.f14) Q (St0 x0) =
        (Go.Bx.paper_Decode.run x0).bind fun y1 =>
        (Go.Bx.basculeref_PaperOf.run x0).bind fun y2 =>
        (Go.Bx.basculelaw_samePaper.run y1.1 y2.1).bind fun y3 =>
        Q .ret (St1 (cond y3 (y1.2.1 == y2.2.1) false)) := by
    intro D L; kernel_rfl
  refine (show (den C k) (cB Try.f14) Q (St0 x0) = denJ (den C k) (lp C k) Js C (cB Try.f14) Q (St0 x0) from (denJ_den _ _ _ _ _ _).symm).trans ((h (den C k) (lp C k)).trans ?_)
  first | rfl | kernel_rfl
def run (x0 : List Int) : Option (Bool) := top (α := Bool) (fun (x2 : Bool) => some x2) x0
def F : Fn := ⟨(.pair (.sl (.int .u8)) .unit), .bool, false, fun x => run x.1⟩
set_option maxRecDepth 100000 in
theorem con : Con Try.prog 14 F := by
  refine con_of_den (C := C) (ctx_ok (by kernel_rfl) (by kernel_rfl) (by kernel_rfl) (by kernel_rfl) ⟨.inl ⟨Go.Bx.paper_Decode.con, Go.Bx.paper_Decode.named⟩, ⟨.inl ⟨Go.Bx.basculeref_PaperOf.con, Go.Bx.basculeref_PaperOf.named⟩, ⟨.inl ⟨Go.Bx.basculelaw_samePaper.con, Go.Bx.basculelaw_samePaper.named⟩, trivial⟩⟩⟩) (by kernel_rfl) Try.func14 (c := cB Try.f14) (by kernel_rfl) (by kernel_rfl) F fuel (fun x => by simp [F, spread, Try.ntmps14]) ?_
  intro x r h
  rw [← h]
  have h1 : start F Try.f14.ntmps x = (St0 x.1) := by kernel_rfl
  rw [h1]
  refine (top_eq fuel (fin C Try.f14.results.toList F.rs F.multi) x.1).trans ?_
  kernel_rfl
theorem named : Named Try.prog 14 := named_of Try.func14 (by kernel_rfl) (by kernel_rfl)
end Go.Bx.basculelaw_PaperDecodes
