/- Go functions of this seat in their own words of Lean, each tied to its code by a contract. -/
import Derived.Test.YtpapikaeaodfgaaGBase
import Derived.Test.YtpapikaeaodfgaaFnPaperEncodes0
namespace Go.Bx.basculelaw_sameBodies
open Go Go.Proofs Go.Bx
set_option maxRecDepth 100000
set_option linter.unusedVariables false
def Js : List Nat := [10]
def C : Ctx := ⟨[(4, .bool), (62, (.sl (.pair (.int .i64) (.pair (.int .i64) (.pair (.int .i64) (.pair (.arr 32 (.int .u8)) (.pair (.int .i64) (.pair (.int .i64) (.pair (.sl (.int .u8)) .unit))))))))), (76, (.pair (.int .i64) (.pair (.int .i64) (.pair (.int .i64) (.pair (.arr 32 (.int .u8)) (.pair (.int .i64) (.pair (.int .i64) (.pair (.sl (.int .u8)) .unit))))))))], [], [], fnL [(95, Go.Bx.basculeref_SameBody.F)], noSh, [], invL [], [(2, [4]), (1, []), (4, [0, 1, 12, 13]), (12, [0, 1, 12, 13]), (27, [])], [], [], 0, 0⟩
def St0 (x0 : List (Int × Int × Int × List Int × Int × Int × List Int × Unit)) (x1 : List (Int × Int × Int × List Int × Int × Int × List Int × Unit)) : St := stL 27 [(0, .data (.sl (.pair (.int .i64) (.pair (.int .i64) (.pair (.int .i64) (.pair (.arr 32 (.int .u8)) (.pair (.int .i64) (.pair (.int .i64) (.pair (.sl (.int .u8)) .unit)))))))) x0), (1, .data (.sl (.pair (.int .i64) (.pair (.int .i64) (.pair (.int .i64) (.pair (.arr 32 (.int .u8)) (.pair (.int .i64) (.pair (.int .i64) (.pair (.sl (.int .u8)) .unit)))))))) x1)] []
def St1 (x4 : Bool) : St := stL 27 [(4, .data .bool x4)] []
def St2 (x0 : List (Int × Int × Int × List Int × Int × Int × List Int × Unit)) (x1 : List (Int × Int × Int × List Int × Int × Int × List Int × Unit)) (x12 : Int) (x13 : Int) : St := stL 27 [(0, .data (.sl (.pair (.int .i64) (.pair (.int .i64) (.pair (.int .i64) (.pair (.arr 32 (.int .u8)) (.pair (.int .i64) (.pair (.int .i64) (.pair (.sl (.int .u8)) .unit)))))))) x0), (1, .data (.sl (.pair (.int .i64) (.pair (.int .i64) (.pair (.int .i64) (.pair (.arr 32 (.int .u8)) (.pair (.int .i64) (.pair (.int .i64) (.pair (.sl (.int .u8)) .unit)))))))) x1), (12, .data (.int .i64) x12), (13, .data (.int .i64) x13)] []
noncomputable def cd0 : Code := cL (cL (cR (cL (cR (cR (cB Try.f73))))))
def St3 : St := stL 27 [] []
def l0s {α : Type} (Nx : (List (Int × Int × Int × List Int × Int × Int × List Int × Unit)) → (List (Int × Int × Int × List Int × Int × Int × List Int × Unit)) → Int → Int → Option α) (Rt : Bool → Option α) (Xt0 : Option α) (x0 : List (Int × Int × Int × List Int × Int × Int × List Int × Unit)) (x1 : List (Int × Int × Int × List Int × Int × Int × List Int × Unit)) (x12 : Int) (x13 : Int) : Option α :=
  if (decide (x13 < x12)) = true then
    if 0 ≤ x13 ∧ x13 < (x0.length : Int) then
      if 0 ≤ x13 ∧ x13 < (x1.length : Int) then
        (Go.Bx.basculeref_SameBody.run (List.getD x0 (Int.toNat x13) (0, 0, 0, (List.replicate 32 0), 0, 0, [], ())) (List.getD x1 (Int.toNat x13) (0, 0, 0, (List.replicate 32 0), 0, 0, [], ()))).bind fun y1 =>
        if (not y1) = true then
          Rt false
        else
          Nx x0 x1 x12 (IntKind.i64.wrap (x13 + 1))
      else none
    else none
  else
    Xt0
theorem l0s_eq {α : Type} (k : Nat) (next : St → Option α) (Q : Ex → St → Option α) (x0 : List (Int × Int × Int × List Int × Int × Int × List Int × Unit)) (x1 : List (Int × Int × Int × List Int × Int × Int × List Int × Unit)) (x12 : Int) (x13 : Int) :
    rnd C k cd0 12 Q next (St2 x0 x1 x12 x13) = l0s (fun (x0 : List (Int × Int × Int × List Int × Int × Int × List Int × Unit)) (x1 : List (Int × Int × Int × List Int × Int × Int × List Int × Unit)) (x12 : Int) (x13 : Int) => next (St2 x0 x1 x12 x13)) (fun (x4 : Bool) => Q .ret (St1 x4)) (Q (.exit 0) St3) x0 x1 x12 x13 := by
  have h : ∀ (D L : DT α), denJ D L Js C cd0 (lq C 12 next Q) (St2 x0 x1 x12 x13) =
        if (decide (x13 < x12)) = true then
          if 0 ≤ x13 ∧ x13 < (x0.length : Int) then
            if 0 ≤ x13 ∧ x13 < (x1.length : Int) then
              (Go.Bx.basculeref_SameBody.run (List.getD x0 (Int.toNat x13) (0, 0, 0, (List.replicate 32 0), 0, 0, [], ())) (List.getD x1 (Int.toNat x13) (0, 0, 0, (List.replicate 32 0), 0, 0, [], ()))).bind fun y1 =>
              if (not y1) = true then
                Q .ret (St1 false)
              else
                next (St2 x0 x1 x12 (IntKind.i64.wrap (x13 + 1)))
            else none
          else none
        else
          Q (.exit 0) St3 := by
    intro D L; kernel_rfl
  refine (show rnd C k cd0 12 Q next (St2 x0 x1 x12 x13) = denJ (den C k) (lp C k) Js C cd0 (lq C 12 next Q) (St2 x0 x1 x12 x13) from (denJ_den _ _ _ _ _ _).symm).trans ((h (den C k) (lp C k)).trans ?_)
  first | rfl | kernel_rfl
def l0 {α : Type} (k : Nat) (Rt : Bool → Option α) (Xt0 : Option α) : Nat → (List (Int × Int × Int × List Int × Int × Int × List Int × Unit)) → (List (Int × Int × Int × List Int × Int × Int × List Int × Unit)) → Int → Int → Option α
  | 0, _, _, _, _ => none
  | n + 1, x0, x1, x12, x13 => l0s (l0 k Rt Xt0 n) Rt Xt0 x0 x1 x12 x13
theorem l0_eq {α : Type} (k : Nat) (Q : Ex → St → Option α) : ∀ (n : Nat) (x0 : List (Int × Int × Int × List Int × Int × Int × List Int × Unit)) (x1 : List (Int × Int × Int × List Int × Int × Int × List Int × Unit)) (x12 : Int) (x13 : Int), iter (rnd C k cd0 12 Q) n (St2 x0 x1 x12 x13) = l0 k (fun (x4 : Bool) => Q .ret (St1 x4)) (Q (.exit 0) St3) n x0 x1 x12 x13
  | 0, _, _, _, _ => rfl
  | n + 1, x0, x1, x12, x13 => (iter_succ _ _ _).trans ((l0s_eq k (iter (rnd C k cd0 12 Q) n) Q x0 x1 x12 x13).trans (congrArg (fun N => l0s N (fun (x4 : Bool) => Q .ret (St1 x4)) (Q (.exit 0) St3) x0 x1 x12 x13) (funext fun x0 => funext fun x1 => funext fun x12 => funext fun x13 => l0_eq k Q n x0 x1 x12 x13)))
theorem l0_congr {α : Type} (k : Nat) (Rt : Bool → Option α) (Xt0 : Option α) (Rtq : Bool → Option α) (Xt0q : Option α) (hRt : ∀ (x4 : Bool), Rt x4 = Rtq x4) (hXt0 : Xt0 = Xt0q) (n : Nat) (x0 : List (Int × Int × Int × List Int × Int × Int × List Int × Unit)) (x1 : List (Int × Int × Int × List Int × Int × Int × List Int × Unit)) (x12 : Int) (x13 : Int) : l0 k Rt Xt0 n x0 x1 x12 x13 = l0 k Rtq Xt0q n x0 x1 x12 x13 := by
  obtain rfl : Rt = Rtq := by funext x4; exact hRt x4
  obtain rfl : Xt0 = Xt0q := hXt0
  rfl
noncomputable def cd1 : Code := cR (cR (cR (cB Try.f73)))
def St4 : St := stL 27 [] []
def j0 {α : Type} (Rt : Bool → Option α) : Option α :=
  Rt true
theorem j0_eq {α : Type} (k : Nat) (Q : Ex → St → Option α) :
    (den C k) cd1 Q St4 = j0 (fun (x4 : Bool) => Q .ret (St1 x4)) := by
  have h : ∀ (D L : DT α), denJ D L Js C cd1 Q St4 =
        Q .ret (St1 true) := by
    intro D L; kernel_rfl
  refine (show (den C k) cd1 Q St4 = denJ (den C k) (lp C k) Js C cd1 Q St4 from (denJ_den _ _ _ _ _ _).symm).trans ((h (den C k) (lp C k)).trans ?_)
  first | rfl | kernel_rfl
theorem a0 {α : Type} (k : Nat) (Q : Ex → St → Option α) (x0 : List (Int × Int × Int × List Int × Int × Int × List Int × Unit)) (x1 : List (Int × Int × Int × List Int × Int × Int × List Int × Unit)) (x12 : Int) (x13 : Int) :
    (lp C k) cd0 (blkQ C 0 (sq (den C k) (lp C k) Js C cd1 Q)) (St2 x0 x1 x12 x13) = l0 k (fun (x4 : Bool) => (fun (x4 : Bool) => Q .ret (St1 x4)) x4) (j0 (fun (x4 : Bool) => Q .ret (St1 x4))) k x0 x1 x12 x13 :=
  (show (lp C k) cd0 (blkQ C 0 (sq (den C k) (lp C k) Js C cd1 Q)) (St2 x0 x1 x12 x13) = iter (rnd C k cd0 12 (blkQ C 0 (sq (den C k) (lp C k) Js C cd1 Q))) k (St2 x0 x1 x12 x13) by kernel_rfl).trans ((l0_eq k (blkQ C 0 (sq (den C k) (lp C k) Js C cd1 Q)) k x0 x1 x12 x13).trans (l0_congr k _ _ _ _ (fun x4 => (show (blkQ C 0 (sq (den C k) (lp C k) Js C cd1 Q)) .ret (St1 x4) = Q .ret (St1 x4) by kernel_rfl)) ((show (blkQ C 0 (sq (den C k) (lp C k) Js C cd1 Q)) (.exit 0) St3 = (den C k) cd1 Q St4 by kernel_rfl).trans (by simp only [j0_eq])) k x0 x1 x12 x13))
def top {α : Type} (k : Nat) (Rt : Bool → Option α) (x0 : List (Int × Int × Int × List Int × Int × Int × List Int × Unit)) (x1 : List (Int × Int × Int × List Int × Int × Int × List Int × Unit)) : Option α :=
  if ((x0.length : Int) != (x1.length : Int)) = true then
    Rt false
  else
    l0 k (fun (x4 : Bool) => Rt x4) (j0 Rt) k x0 x1 (x0.length : Int) 0
theorem top_eq {α : Type} (k : Nat) (Q : Ex → St → Option α) (x0 : List (Int × Int × Int × List Int × Int × Int × List Int × Unit)) (x1 : List (Int × Int × Int × List Int × Int × Int × List Int × Unit)) :
    (den C k) (cB Try.f73) Q (St0 x0 x1) = top k (fun (x4 : Bool) => Q .ret (St1 x4)) x0 x1 := by
  have h : ∀ (D L : DT α), denJ D L Js C (cB Try.f73) Q (St0 x0 x1) =
        if ((x0.length : Int) != (x1.length : Int)) = true then
          Q .ret (St1 false)
        else
          L cd0 (blkQ C 0 (sq D L Js C cd1 Q)) (St2 x0 x1 (x0.length : Int) 0) := by
    intro D L; kernel_rfl
  refine (show (den C k) (cB Try.f73) Q (St0 x0 x1) = denJ (den C k) (lp C k) Js C (cB Try.f73) Q (St0 x0 x1) from (denJ_den _ _ _ _ _ _).symm).trans ((h (den C k) (lp C k)).trans ?_)
  simp only [a0]
  first | rfl | kernel_rfl
def run (x0 : List (Int × Int × Int × List Int × Int × Int × List Int × Unit)) (x1 : List (Int × Int × Int × List Int × Int × Int × List Int × Unit)) : Option (Bool) := top (α := Bool) fuel (fun (x4 : Bool) => some x4) x0 x1
def F : Fn := ⟨(.pair (.sl (.pair (.int .i64) (.pair (.int .i64) (.pair (.int .i64) (.pair (.arr 32 (.int .u8)) (.pair (.int .i64) (.pair (.int .i64) (.pair (.sl (.int .u8)) .unit)))))))) (.pair (.sl (.pair (.int .i64) (.pair (.int .i64) (.pair (.int .i64) (.pair (.arr 32 (.int .u8)) (.pair (.int .i64) (.pair (.int .i64) (.pair (.sl (.int .u8)) .unit)))))))) .unit)), .bool, false, fun x => run x.1 x.2.1⟩
set_option maxRecDepth 100000 in
theorem con : Con Try.prog 73 F := by
  refine con_of_den (C := C) (ctx_ok (by kernel_rfl) (by kernel_rfl) (by kernel_rfl) (by kernel_rfl) ⟨.inl ⟨Go.Bx.basculeref_SameBody.con, Go.Bx.basculeref_SameBody.named⟩, trivial⟩) (by kernel_rfl) Try.func73 (c := cB Try.f73) (by kernel_rfl) (by kernel_rfl) F fuel (fun x => by simp [F, spread, Try.ntmps73]) ?_
  intro x r h
  rw [← h]
  have h1 : start F Try.f73.ntmps x = (St0 x.1 x.2.1) := by kernel_rfl
  rw [h1]
  refine (top_eq fuel (fin C Try.f73.results.toList F.rs F.multi) x.1 x.2.1).trans ?_
  kernel_rfl
theorem named : Named Try.prog 73 := named_of Try.func73 (by kernel_rfl) (by kernel_rfl)
end Go.Bx.basculelaw_sameBodies
namespace Go.Bx.basculelaw_sameGuard
open Go Go.Proofs Go.Bx
set_option maxRecDepth 100000
set_option linter.unusedVariables false
def Js : List Nat := []
def C : Ctx := ⟨[(4, .bool), (42, (.pair (.arr 3 (.int .i64)) (.pair (.arr 3 (.int .i64)) (.pair (.int .i64) (.pair (.sl (.pair (.int .i64) (.pair (.int .i64) (.pair (.int .i64) (.pair (.int .i64) .unit))))) (.pair (.sl (.pair (.int .i64) (.pair (.int .i64) (.pair (.int .i64) (.pair (.int .i64) .unit))))) .unit)))))), (56, (.arr 4 (.int .u64))), (61, (.pair (.sl (.int .u8)) (.pair (.sl (.int .u8)) .unit))), (62, (.sl (.pair (.int .i64) (.pair (.int .i64) (.pair (.int .i64) (.pair (.arr 32 (.int .u8)) (.pair (.int .i64) (.pair (.int .i64) (.pair (.sl (.int .u8)) .unit))))))))), (64, (.pair (.arr 4 (.int .u64)) (.pair (.pair (.arr 3 (.int .i64)) (.pair (.arr 3 (.int .i64)) (.pair (.int .i64) (.pair (.sl (.pair (.int .i64) (.pair (.int .i64) (.pair (.int .i64) (.pair (.int .i64) .unit))))) (.pair (.sl (.pair (.int .i64) (.pair (.int .i64) (.pair (.int .i64) (.pair (.int .i64) .unit))))) .unit))))) (.pair (.pair (.arr 3 (.int .i64)) (.pair (.arr 3 (.int .i64)) (.pair (.int .i64) (.pair (.sl (.pair (.int .i64) (.pair (.int .i64) (.pair (.int .i64) (.pair (.int .i64) .unit))))) (.pair (.sl (.pair (.int .i64) (.pair (.int .i64) (.pair (.int .i64) (.pair (.int .i64) .unit))))) .unit))))) (.pair (.pair (.sl (.int .u8)) (.pair (.sl (.int .u8)) .unit)) (.pair (.sl (.pair (.int .i64) (.pair (.int .i64) (.pair (.int .i64) (.pair (.arr 32 (.int .u8)) (.pair (.int .i64) (.pair (.int .i64) (.pair (.sl (.int .u8)) .unit)))))))) (.pair (.sl (.pair (.int .i64) (.pair (.int .i64) (.pair (.int .i64) (.pair (.arr 32 (.int .u8)) (.pair (.int .i64) (.pair (.int .i64) (.pair (.sl (.int .u8)) .unit)))))))) .unit)))))))], [], [], fnL [(32, Go.Bx.basculelaw_sameGate.F), (72, Go.Bx.basculelaw_sameLog.F), (73, Go.Bx.basculelaw_sameBodies.F)], noSh, [], invL [], [(2, [4])], [], [], 0, 0⟩
def St0 (x0 : List Int × (List Int × List Int × Int × List (Int × Int × Int × Int × Unit) × List (Int × Int × Int × Int × Unit) × Unit) × (List Int × List Int × Int × List (Int × Int × Int × Int × Unit) × List (Int × Int × Int × Int × Unit) × Unit) × (List Int × List Int × Unit) × List (Int × Int × Int × List Int × Int × Int × List Int × Unit) × List (Int × Int × Int × List Int × Int × Int × List Int × Unit) × Unit) (x1 : List Int × (List Int × List Int × Int × List (Int × Int × Int × Int × Unit) × List (Int × Int × Int × Int × Unit) × Unit) × (List Int × List Int × Int × List (Int × Int × Int × Int × Unit) × List (Int × Int × Int × Int × Unit) × Unit) × (List Int × List Int × Unit) × List (Int × Int × Int × List Int × Int × Int × List Int × Unit) × List (Int × Int × Int × List Int × Int × Int × List Int × Unit) × Unit) : St := stL 45 [(0, .data (.pair (.arr 4 (.int .u64)) (.pair (.pair (.arr 3 (.int .i64)) (.pair (.arr 3 (.int .i64)) (.pair (.int .i64) (.pair (.sl (.pair (.int .i64) (.pair (.int .i64) (.pair (.int .i64) (.pair (.int .i64) .unit))))) (.pair (.sl (.pair (.int .i64) (.pair (.int .i64) (.pair (.int .i64) (.pair (.int .i64) .unit))))) .unit))))) (.pair (.pair (.arr 3 (.int .i64)) (.pair (.arr 3 (.int .i64)) (.pair (.int .i64) (.pair (.sl (.pair (.int .i64) (.pair (.int .i64) (.pair (.int .i64) (.pair (.int .i64) .unit))))) (.pair (.sl (.pair (.int .i64) (.pair (.int .i64) (.pair (.int .i64) (.pair (.int .i64) .unit))))) .unit))))) (.pair (.pair (.sl (.int .u8)) (.pair (.sl (.int .u8)) .unit)) (.pair (.sl (.pair (.int .i64) (.pair (.int .i64) (.pair (.int .i64) (.pair (.arr 32 (.int .u8)) (.pair (.int .i64) (.pair (.int .i64) (.pair (.sl (.int .u8)) .unit)))))))) (.pair (.sl (.pair (.int .i64) (.pair (.int .i64) (.pair (.int .i64) (.pair (.arr 32 (.int .u8)) (.pair (.int .i64) (.pair (.int .i64) (.pair (.sl (.int .u8)) .unit)))))))) .unit)))))) x0), (1, .data (.pair (.arr 4 (.int .u64)) (.pair (.pair (.arr 3 (.int .i64)) (.pair (.arr 3 (.int .i64)) (.pair (.int .i64) (.pair (.sl (.pair (.int .i64) (.pair (.int .i64) (.pair (.int .i64) (.pair (.int .i64) .unit))))) (.pair (.sl (.pair (.int .i64) (.pair (.int .i64) (.pair (.int .i64) (.pair (.int .i64) .unit))))) .unit))))) (.pair (.pair (.arr 3 (.int .i64)) (.pair (.arr 3 (.int .i64)) (.pair (.int .i64) (.pair (.sl (.pair (.int .i64) (.pair (.int .i64) (.pair (.int .i64) (.pair (.int .i64) .unit))))) (.pair (.sl (.pair (.int .i64) (.pair (.int .i64) (.pair (.int .i64) (.pair (.int .i64) .unit))))) .unit))))) (.pair (.pair (.sl (.int .u8)) (.pair (.sl (.int .u8)) .unit)) (.pair (.sl (.pair (.int .i64) (.pair (.int .i64) (.pair (.int .i64) (.pair (.arr 32 (.int .u8)) (.pair (.int .i64) (.pair (.int .i64) (.pair (.sl (.int .u8)) .unit)))))))) (.pair (.sl (.pair (.int .i64) (.pair (.int .i64) (.pair (.int .i64) (.pair (.arr 32 (.int .u8)) (.pair (.int .i64) (.pair (.int .i64) (.pair (.sl (.int .u8)) .unit)))))))) .unit)))))) x1)] []
def St1 (x4 : Bool) : St := stL 45 [(4, .data .bool x4)] []
def top {α : Type} (Rt : Bool → Option α) (x0 : List Int × (List Int × List Int × Int × List (Int × Int × Int × Int × Unit) × List (Int × Int × Int × Int × Unit) × Unit) × (List Int × List Int × Int × List (Int × Int × Int × Int × Unit) × List (Int × Int × Int × Int × Unit) × Unit) × (List Int × List Int × Unit) × List (Int × Int × Int × List Int × Int × Int × List Int × Unit) × List (Int × Int × Int × List Int × Int × Int × List Int × Unit) × Unit) (x1 : List Int × (List Int × List Int × Int × List (Int × Int × Int × Int × Unit) × List (Int × Int × Int × Int × Unit) × Unit) × (List Int × List Int × Int × List (Int × Int × Int × Int × Unit) × List (Int × Int × Int × Int × Unit) × Unit) × (List Int × List Int × Unit) × List (Int × Int × Int × List Int × Int × Int × List Int × Unit) × List (Int × Int × Int × List Int × Int × Int × List Int × Unit) × Unit) : Option α :=
  (if ((beqD (.arr 4 (.int .u64)) x0.1 x1.1) == true) = true then Go.Bx.basculelaw_sameGate.run x0.2.1 x1.2.1 else some false).bind fun y1 =>
  (if ((cond (beqD (.arr 4 (.int .u64)) x0.1 x1.1) y1 false) == true) = true then Go.Bx.basculelaw_sameGate.run x0.2.2.1 x1.2.2.1 else some false).bind fun y2 =>
  (if ((cond (cond (beqD (.arr 4 (.int .u64)) x0.1 x1.1) y1 false) y2 false) == true) = true then Go.Bx.basculelaw_sameLog.run x0.2.2.2.1 x1.2.2.2.1 else some false).bind fun y3 =>
  (if ((cond (cond (cond (beqD (.arr 4 (.int .u64)) x0.1 x1.1) y1 false) y2 false) y3 false) == true) = true then Go.Bx.basculelaw_sameBodies.run x0.2.2.2.2.1 x1.2.2.2.2.1 else some false).bind fun y4 =>
  (if ((cond (cond (cond (cond (beqD (.arr 4 (.int .u64)) x0.1 x1.1) y1 false) y2 false) y3 false) y4 false) == true) = true then Go.Bx.basculelaw_sameBodies.run x0.2.2.2.2.2.1 x1.2.2.2.2.2.1 else some false).bind fun y5 =>
  Rt (cond (cond (cond (cond (cond (beqD (.arr 4 (.int .u64)) x0.1 x1.1) y1 false) y2 false) y3 false) y4 false) y5 false)
theorem top_eq {α : Type} (k : Nat) (Q : Ex → St → Option α) (x0 : List Int × (List Int × List Int × Int × List (Int × Int × Int × Int × Unit) × List (Int × Int × Int × Int × Unit) × Unit) × (List Int × List Int × Int × List (Int × Int × Int × Int × Unit) × List (Int × Int × Int × Int × Unit) × Unit) × (List Int × List Int × Unit) × List (Int × Int × Int × List Int × Int × Int × List Int × Unit) × List (Int × Int × Int × List Int × Int × Int × List Int × Unit) × Unit) (x1 : List Int × (List Int × List Int × Int × List (Int × Int × Int × Int × Unit) × List (Int × Int × Int × Int × Unit) × Unit) × (List Int × List Int × Int × List (Int × Int × Int × Int × Unit) × List (Int × Int × Int × Int × Unit) × Unit) × (List Int × List Int × Unit) × List (Int × Int × Int × List Int × Int × Int × List Int × Unit) × List (Int × Int × Int × List Int × Int × Int × List Int × Unit) × Unit) :
    (den C k) (cB Try.f40) Q (St0 x0 x1) = top (fun (x4 : Bool) => Q .ret (St1 x4)) x0 x1 := by
  have h : ∀ (D L : DT α), denJ D L Js C (cB Try.f40) Q (St0 x0 x1) =
        (if ((beqD (.arr 4 (.int .u64)) x0.1 x1.1) == true) = true then Go.Bx.basculelaw_sameGate.run x0.2.1 x1.2.1 else some false).bind fun y1 =>
        (if ((cond (beqD (.arr 4 (.int .u64)) x0.1 x1.1) y1 false) == true) = true then Go.Bx.basculelaw_sameGate.run x0.2.2.1 x1.2.2.1 else some false).bind fun y2 =>
        (if ((cond (cond (beqD (.arr 4 (.int .u64)) x0.1 x1.1) y1 false) y2 false) == true) = true then Go.Bx.basculelaw_sameLog.run x0.2.2.2.1 x1.2.2.2.1 else some false).bind fun y3 =>
        (if ((cond (cond (cond (beqD (.arr 4 (.int .u64)) x0.1 x1.1) y1 false) y2 false) y3 false) == true) = true then Go.Bx.basculelaw_sameBodies.run x0.2.2.2.2.1 x1.2.2.2.2.1 else some false).bind fun y4 =>
        (if ((cond (cond (cond (cond (beqD (.arr 4 (.int .u64)) x0.1 x1.1) y1 false) y2 false) y3 false) y4 false) == true) = true then Go.Bx.basculelaw_sameBodies.run x0.2.2.2.2.2.1 x1.2.2.2.2.2.1 else some false).bind fun y5 =>
        Q .ret (St1 (cond (cond (cond (cond (cond (beqD (.arr 4 (.int .u64)) x0.1 x1.1) y1 false) y2 false) y3 false) y4 false) y5 false)) := by
    intro D L; kernel_rfl
  refine (show (den C k) (cB Try.f40) Q (St0 x0 x1) = denJ (den C k) (lp C k) Js C (cB Try.f40) Q (St0 x0 x1) from (denJ_den _ _ _ _ _ _).symm).trans ((h (den C k) (lp C k)).trans ?_)
  first | rfl | kernel_rfl
def run (x0 : List Int × (List Int × List Int × Int × List (Int × Int × Int × Int × Unit) × List (Int × Int × Int × Int × Unit) × Unit) × (List Int × List Int × Int × List (Int × Int × Int × Int × Unit) × List (Int × Int × Int × Int × Unit) × Unit) × (List Int × List Int × Unit) × List (Int × Int × Int × List Int × Int × Int × List Int × Unit) × List (Int × Int × Int × List Int × Int × Int × List Int × Unit) × Unit) (x1 : List Int × (List Int × List Int × Int × List (Int × Int × Int × Int × Unit) × List (Int × Int × Int × Int × Unit) × Unit) × (List Int × List Int × Int × List (Int × Int × Int × Int × Unit) × List (Int × Int × Int × Int × Unit) × Unit) × (List Int × List Int × Unit) × List (Int × Int × Int × List Int × Int × Int × List Int × Unit) × List (Int × Int × Int × List Int × Int × Int × List Int × Unit) × Unit) : Option (Bool) := top (α := Bool) (fun (x4 : Bool) => some x4) x0 x1
def F : Fn := ⟨(.pair (.pair (.arr 4 (.int .u64)) (.pair (.pair (.arr 3 (.int .i64)) (.pair (.arr 3 (.int .i64)) (.pair (.int .i64) (.pair (.sl (.pair (.int .i64) (.pair (.int .i64) (.pair (.int .i64) (.pair (.int .i64) .unit))))) (.pair (.sl (.pair (.int .i64) (.pair (.int .i64) (.pair (.int .i64) (.pair (.int .i64) .unit))))) .unit))))) (.pair (.pair (.arr 3 (.int .i64)) (.pair (.arr 3 (.int .i64)) (.pair (.int .i64) (.pair (.sl (.pair (.int .i64) (.pair (.int .i64) (.pair (.int .i64) (.pair (.int .i64) .unit))))) (.pair (.sl (.pair (.int .i64) (.pair (.int .i64) (.pair (.int .i64) (.pair (.int .i64) .unit))))) .unit))))) (.pair (.pair (.sl (.int .u8)) (.pair (.sl (.int .u8)) .unit)) (.pair (.sl (.pair (.int .i64) (.pair (.int .i64) (.pair (.int .i64) (.pair (.arr 32 (.int .u8)) (.pair (.int .i64) (.pair (.int .i64) (.pair (.sl (.int .u8)) .unit)))))))) (.pair (.sl (.pair (.int .i64) (.pair (.int .i64) (.pair (.int .i64) (.pair (.arr 32 (.int .u8)) (.pair (.int .i64) (.pair (.int .i64) (.pair (.sl (.int .u8)) .unit)))))))) .unit)))))) (.pair (.pair (.arr 4 (.int .u64)) (.pair (.pair (.arr 3 (.int .i64)) (.pair (.arr 3 (.int .i64)) (.pair (.int .i64) (.pair (.sl (.pair (.int .i64) (.pair (.int .i64) (.pair (.int .i64) (.pair (.int .i64) .unit))))) (.pair (.sl (.pair (.int .i64) (.pair (.int .i64) (.pair (.int .i64) (.pair (.int .i64) .unit))))) .unit))))) (.pair (.pair (.arr 3 (.int .i64)) (.pair (.arr 3 (.int .i64)) (.pair (.int .i64) (.pair (.sl (.pair (.int .i64) (.pair (.int .i64) (.pair (.int .i64) (.pair (.int .i64) .unit))))) (.pair (.sl (.pair (.int .i64) (.pair (.int .i64) (.pair (.int .i64) (.pair (.int .i64) .unit))))) .unit))))) (.pair (.pair (.sl (.int .u8)) (.pair (.sl (.int .u8)) .unit)) (.pair (.sl (.pair (.int .i64) (.pair (.int .i64) (.pair (.int .i64) (.pair (.arr 32 (.int .u8)) (.pair (.int .i64) (.pair (.int .i64) (.pair (.sl (.int .u8)) .unit)))))))) (.pair (.sl (.pair (.int .i64) (.pair (.int .i64) (.pair (.int .i64) (.pair (.arr 32 (.int .u8)) (.pair (.int .i64) (.pair (.int .i64) (.pair (.sl (.int .u8)) .unit)))))))) .unit)))))) .unit)), .bool, false, fun x => run x.1 x.2.1⟩
set_option maxRecDepth 100000 in
theorem con : Con Try.prog 40 F := by
  refine con_of_den (C := C) (ctx_ok (by kernel_rfl) (by kernel_rfl) (by kernel_rfl) (by kernel_rfl) ⟨.inl ⟨Go.Bx.basculelaw_sameGate.con, Go.Bx.basculelaw_sameGate.named⟩, ⟨.inl ⟨Go.Bx.basculelaw_sameLog.con, Go.Bx.basculelaw_sameLog.named⟩, ⟨.inl ⟨Go.Bx.basculelaw_sameBodies.con, Go.Bx.basculelaw_sameBodies.named⟩, trivial⟩⟩⟩) (by kernel_rfl) Try.func40 (c := cB Try.f40) (by kernel_rfl) (by kernel_rfl) F fuel (fun x => by simp [F, spread, Try.ntmps40]) ?_
  intro x r h
  rw [← h]
  have h1 : start F Try.f40.ntmps x = (St0 x.1 x.2.1) := by kernel_rfl
  rw [h1]
  refine (top_eq fuel (fin C Try.f40.results.toList F.rs F.multi) x.1 x.2.1).trans ?_
  kernel_rfl
theorem named : Named Try.prog 40 := named_of Try.func40 (by kernel_rfl) (by kernel_rfl)
end Go.Bx.basculelaw_sameGuard
namespace Go.Bx.paper_Check_1
open Go Go.Proofs Go.Bx
set_option maxRecDepth 100000
set_option linter.unusedVariables false
def Js : List Nat := []
def C : Ctx := ⟨[(3, (.int .i64)), (4, .bool)], [], [], fnL [], noSh, [], invL [], [(2, [4])], [], [], 0, 0⟩
def St0 (x0 : Int) (x1 : Int) : St := stL 12 [(0, .data (.int .i64) x0), (1, .data (.int .i64) x1)] []
def St1 (x4 : Bool) : St := stL 12 [(4, .data .bool x4)] []
def top {α : Type} (Rt : Bool → Option α) (x0 : Int) (x1 : Int) : Option α :=
  Rt (cond (decide (x0 ≥ 0)) (decide (x0 ≤ x1)) false)
theorem top_eq {α : Type} (k : Nat) (Q : Ex → St → Option α) (x0 : Int) (x1 : Int) :
    (den C k) (cB Try.f115) Q (St0 x0 x1) = top (fun (x4 : Bool) => Q .ret (St1 x4)) x0 x1 := by
  have h : ∀ (D L : DT α), denJ D L Js C (cB Try.f115) Q (St0 x0 x1) =
        Q .ret (St1 (cond (decide (x0 ≥ 0)) (decide (x0 ≤ x1)) false)) := by
    intro D L; kernel_rfl
  refine (show (den C k) (cB Try.f115) Q (St0 x0 x1) = denJ (den C k) (lp C k) Js C (cB Try.f115) Q (St0 x0 x1) from (denJ_den _ _ _ _ _ _).symm).trans ((h (den C k) (lp C k)).trans ?_)
  first | rfl | kernel_rfl
def run (x0 : Int) (x1 : Int) : Option (Bool) := top (α := Bool) (fun (x4 : Bool) => some x4) x0 x1
def F : Fn := ⟨(.pair (.int .i64) (.pair (.int .i64) .unit)), .bool, false, fun x => run x.1 x.2.1⟩
set_option maxRecDepth 100000 in
theorem con : Con Try.prog 115 F := by
  refine con_of_den (C := C) (ctx_ok (by kernel_rfl) (by kernel_rfl) (by kernel_rfl) (by kernel_rfl) trivial) (by kernel_rfl) Try.func115 (c := cB Try.f115) (by kernel_rfl) (by kernel_rfl) F fuel (fun x => by simp [F, spread, Try.ntmps115]) ?_
  intro x r h
  rw [← h]
  have h1 : start F Try.f115.ntmps x = (St0 x.1 x.2.1) := by kernel_rfl
  rw [h1]
  refine (top_eq fuel (fin C Try.f115.results.toList F.rs F.multi) x.1 x.2.1).trans ?_
  kernel_rfl
theorem named : Named Try.prog 115 := named_of Try.func115 (by kernel_rfl) (by kernel_rfl)
end Go.Bx.paper_Check_1
namespace Go.Bx.paper_Check
open Go Go.Proofs Go.Bx
set_option maxRecDepth 100000
set_option linter.unusedVariables false
def Js : List Nat := []
def C : Ctx := ⟨[(3, (.int .i64)), (23, (.int .i64)), (59, (.sl (.int .u8))), (76, (.pair (.int .i64) (.pair (.int .i64) (.pair (.int .i64) (.pair (.arr 32 (.int .u8)) (.pair (.int .i64) (.pair (.int .i64) (.pair (.sl (.int .u8)) .unit))))))))], [], [], fnL [(115, Go.Bx.paper_Check_1.F)], noSh, [], invL [], [(2, [2])], [], [], 0, 0⟩
def St0 (x0 : Int × Int × Int × List Int × Int × Int × List Int × Unit) : St := stL 41 [(0, .data (.pair (.int .i64) (.pair (.int .i64) (.pair (.int .i64) (.pair (.arr 32 (.int .u8)) (.pair (.int .i64) (.pair (.int .i64) (.pair (.sl (.int .u8)) .unit))))))) x0)] []
def St1 (x2 : Int) : St := stL 41 [(2, .data (.int .i64) x2)] []
def top {α : Type} (Rt : Int → Option α) (x0 : Int × Int × Int × List Int × Int × Int × List Int × Unit) : Option α :=
  (Go.Bx.paper_Check_1.run x0.1 1099511627776).bind fun y1 =>
  (if ((not y1) == false) = true then Go.Bx.paper_Check_1.run x0.2.1 4294967295 else some false).bind fun y2 =>
  (if ((cond (not y1) true (not y2)) == false) = true then Go.Bx.paper_Check_1.run x0.2.2.1 65535 else some false).bind fun y3 =>
  (if ((cond (cond (not y1) true (not y2)) true (not y3)) == false) = true then Go.Bx.paper_Check_1.run x0.2.2.2.2.1 1099511627776 else some false).bind fun y4 =>
  (if ((cond (cond (cond (not y1) true (not y2)) true (not y3)) true (not y4)) == false) = true then Go.Bx.paper_Check_1.run x0.2.2.2.2.2.1 255 else some false).bind fun y5 =>
  if (cond (cond (cond (cond (not y1) true (not y2)) true (not y3)) true (not y4)) true (not y5)) = true then
    Rt 6
  else
    if (decide ((x0.2.2.2.2.2.2.1.length : Int) > 300)) = true then
      Rt 1
    else
      Rt 0
theorem top_eq {α : Type} (k : Nat) (Q : Ex → St → Option α) (x0 : Int × Int × Int × List Int × Int × Int × List Int × Unit) :
    (den C k) (cB Try.f98) Q (St0 x0) = top (fun (x2 : Int) => Q .ret (St1 x2)) x0 := by
  have h : ∀ (D L : DT α), denJ D L Js C (cB Try.f98) Q (St0 x0) =
        (Go.Bx.paper_Check_1.run x0.1 1099511627776).bind fun y1 =>
        (if ((not y1) == false) = true then Go.Bx.paper_Check_1.run x0.2.1 4294967295 else some false).bind fun y2 =>
        (if ((cond (not y1) true (not y2)) == false) = true then Go.Bx.paper_Check_1.run x0.2.2.1 65535 else some false).bind fun y3 =>
        (if ((cond (cond (not y1) true (not y2)) true (not y3)) == false) = true then Go.Bx.paper_Check_1.run x0.2.2.2.2.1 1099511627776 else some false).bind fun y4 =>
        (if ((cond (cond (cond (not y1) true (not y2)) true (not y3)) true (not y4)) == false) = true then Go.Bx.paper_Check_1.run x0.2.2.2.2.2.1 255 else some false).bind fun y5 =>
        if (cond (cond (cond (cond (not y1) true (not y2)) true (not y3)) true (not y4)) true (not y5)) = true then
          Q .ret (St1 6)
        else
          if (decide ((x0.2.2.2.2.2.2.1.length : Int) > 300)) = true then
            Q .ret (St1 1)
          else
            Q .ret (St1 0) := by
    intro D L; kernel_rfl
  refine (show (den C k) (cB Try.f98) Q (St0 x0) = denJ (den C k) (lp C k) Js C (cB Try.f98) Q (St0 x0) from (denJ_den _ _ _ _ _ _).symm).trans ((h (den C k) (lp C k)).trans ?_)
  first | rfl | kernel_rfl
def run (x0 : Int × Int × Int × List Int × Int × Int × List Int × Unit) : Option (Int) := top (α := Int) (fun (x2 : Int) => some x2) x0
def F : Fn := ⟨(.pair (.pair (.int .i64) (.pair (.int .i64) (.pair (.int .i64) (.pair (.arr 32 (.int .u8)) (.pair (.int .i64) (.pair (.int .i64) (.pair (.sl (.int .u8)) .unit))))))) .unit), (.int .i64), false, fun x => run x.1⟩
set_option maxRecDepth 100000 in
theorem con : Con Try.prog 98 F := by
  refine con_of_den (C := C) (ctx_ok (by kernel_rfl) (by kernel_rfl) (by kernel_rfl) (by kernel_rfl) ⟨.inl ⟨Go.Bx.paper_Check_1.con, Go.Bx.paper_Check_1.named⟩, trivial⟩) (by kernel_rfl) Try.func98 (c := cB Try.f98) (by kernel_rfl) (by kernel_rfl) F fuel (fun x => by simp [F, spread, Try.ntmps98]) ?_
  intro x r h
  rw [← h]
  have h1 : start F Try.f98.ntmps x = (St0 x.1) := by kernel_rfl
  rw [h1]
  refine (top_eq fuel (fin C Try.f98.results.toList F.rs F.multi) x.1).trans ?_
  kernel_rfl
theorem named : Named Try.prog 98 := named_of Try.func98 (by kernel_rfl) (by kernel_rfl)
end Go.Bx.paper_Check
namespace Go.Bx.basculeref_BodyFault
open Go Go.Proofs Go.Bx
set_option maxRecDepth 100000
set_option linter.unusedVariables false
def Js : List Nat := [8]
def C : Ctx := ⟨[(3, (.int .i64)), (23, (.int .i64)), (59, (.sl (.int .u8))), (76, (.pair (.int .i64) (.pair (.int .i64) (.pair (.int .i64) (.pair (.arr 32 (.int .u8)) (.pair (.int .i64) (.pair (.int .i64) (.pair (.sl (.int .u8)) .unit)))))))), (191, (.arr 2 (.int .i64))), (192, (.sl (.arr 2 (.int .i64))))], [], [], fnL [(61, Go.Bx.basculeref_upTo.F)], noSh, [], invL [], [(2, [2]), (1, [1]), (4, [1, 20, 21, 22]), (6, [1, 20, 21, 22]), (21, [1])], [], [], 0, 0⟩
def St0 (x0 : Int × Int × Int × List Int × Int × Int × List Int × Unit) : St := stL 37 [(0, .data (.pair (.int .i64) (.pair (.int .i64) (.pair (.int .i64) (.pair (.arr 32 (.int .u8)) (.pair (.int .i64) (.pair (.int .i64) (.pair (.sl (.int .u8)) .unit))))))) x0)] []
def St1 (x20 : List (List Int)) (x21 : Int) (x22 : Int) (c1 : Int × Int × Int × List Int × Int × Int × List Int × Unit) : St := stL 37 [(1, .ref 1 0 []), (20, .full (.arr 2 (.int .i64)) x20), (21, .data (.int .i64) x21), (22, .data (.int .i64) x22)] [(1, .cell (.pair (.int .i64) (.pair (.int .i64) (.pair (.int .i64) (.pair (.arr 32 (.int .u8)) (.pair (.int .i64) (.pair (.int .i64) (.pair (.sl (.int .u8)) .unit))))))) (.data (.pair (.int .i64) (.pair (.int .i64) (.pair (.int .i64) (.pair (.arr 32 (.int .u8)) (.pair (.int .i64) (.pair (.int .i64) (.pair (.sl (.int .u8)) .unit))))))) c1) false)]
noncomputable def cd0 : Code := cL (cL (cR (cL (cR (cB Try.f102)))))
def St2 (x2 : Int) : St := stL 37 [(2, .data (.int .i64) x2)] []
def St3 (c1 : Int × Int × Int × List Int × Int × Int × List Int × Unit) : St := stL 37 [(1, .ref 1 0 [])] [(1, .cell (.pair (.int .i64) (.pair (.int .i64) (.pair (.int .i64) (.pair (.arr 32 (.int .u8)) (.pair (.int .i64) (.pair (.int .i64) (.pair (.sl (.int .u8)) .unit))))))) (.data (.pair (.int .i64) (.pair (.int .i64) (.pair (.int .i64) (.pair (.arr 32 (.int .u8)) (.pair (.int .i64) (.pair (.int .i64) (.pair (.sl (.int .u8)) .unit))))))) c1) false)]
def l0s {α : Type} (Nx : (List (List Int)) → Int → Int → (Int × Int × Int × List Int × Int × Int × List Int × Unit) → Option α) (Rt : Int → Option α) (Xt0 : (Int × Int × Int × List Int × Int × Int × List Int × Unit) → Option α) (x20 : List (List Int)) (x21 : Int) (x22 : Int) (c1 : Int × Int × Int × List Int × Int × Int × List Int × Unit) : Option α :=
  if (decide (x22 < x21)) = true then
    if 0 ≤ x22 ∧ x22 < (x20.length : Int) then
      (Go.Bx.basculeref_upTo.run (List.getD (List.getD x20 (Int.toNat x22) [0, 0]) 0 0) (List.getD (List.getD x20 (Int.toNat x22) [0, 0]) 1 0)).bind fun y1 =>
      if (not y1) = true then
        Rt 6
      else
        Nx x20 x21 (IntKind.i64.wrap (x22 + 1)) c1
    else none
  else
    Xt0 c1
theorem l0s_eq {α : Type} (k : Nat) (next : St → Option α) (Q : Ex → St → Option α) (x20 : List (List Int)) (x21 : Int) (x22 : Int) (c1 : Int × Int × Int × List Int × Int × Int × List Int × Unit) :
    rnd C k cd0 6 Q next (St1 x20 x21 x22 c1) = l0s (fun (x20 : List (List Int)) (x21 : Int) (x22 : Int) (c1 : Int × Int × Int × List Int × Int × Int × List Int × Unit) => next (St1 x20 x21 x22 c1)) (fun (x2 : Int) => Q .ret (St2 x2)) (fun (c1 : Int × Int × Int × List Int × Int × Int × List Int × Unit) => Q (.exit 0) (St3 c1)) x20 x21 x22 c1 := by
  have h : ∀ (D L : DT α), denJ D L Js C cd0 (lq C 6 next Q) (St1 x20 x21 x22 c1) =
        if (decide (x22 < x21)) = true then
          if 0 ≤ x22 ∧ x22 < (x20.length : Int) then
            (Go.Bx.basculeref_upTo.run (List.getD (List.getD x20 (Int.toNat x22) [0, 0]) 0 0) (List.getD (List.getD x20 (Int.toNat x22) [0, 0]) 1 0)).bind fun y1 =>
            if (not y1) = true then
              Q .ret (St2 6)
            else
              next (St1 x20 x21 (IntKind.i64.wrap (x22 + 1)) c1)
          else none
        else
          Q (.exit 0) (St3 c1) := by
    intro D L; kernel_rfl
  refine (show rnd C k cd0 6 Q next (St1 x20 x21 x22 c1) = denJ (den C k) (lp C k) Js C cd0 (lq C 6 next Q) (St1 x20 x21 x22 c1) from (denJ_den _ _ _ _ _ _).symm).trans ((h (den C k) (lp C k)).trans ?_)
  first | rfl | kernel_rfl
def l0 {α : Type} (k : Nat) (Rt : Int → Option α) (Xt0 : (Int × Int × Int × List Int × Int × Int × List Int × Unit) → Option α) : Nat → (List (List Int)) → Int → Int → (Int × Int × Int × List Int × Int × Int × List Int × Unit) → Option α
  | 0, _, _, _, _ => none
  | n + 1, x20, x21, x22, c1 => l0s (l0 k Rt Xt0 n) Rt Xt0 x20 x21 x22 c1
theorem l0_eq {α : Type} (k : Nat) (Q : Ex → St → Option α) : ∀ (n : Nat) (x20 : List (List Int)) (x21 : Int) (x22 : Int) (c1 : Int × Int × Int × List Int × Int × Int × List Int × Unit), iter (rnd C k cd0 6 Q) n (St1 x20 x21 x22 c1) = l0 k (fun (x2 : Int) => Q .ret (St2 x2)) (fun (c1 : Int × Int × Int × List Int × Int × Int × List Int × Unit) => Q (.exit 0) (St3 c1)) n x20 x21 x22 c1
  | 0, _, _, _, _ => rfl
  | n + 1, x20, x21, x22, c1 => (iter_succ _ _ _).trans ((l0s_eq k (iter (rnd C k cd0 6 Q) n) Q x20 x21 x22 c1).trans (congrArg (fun N => l0s N (fun (x2 : Int) => Q .ret (St2 x2)) (fun (c1 : Int × Int × Int × List Int × Int × Int × List Int × Unit) => Q (.exit 0) (St3 c1)) x20 x21 x22 c1) (funext fun x20 => funext fun x21 => funext fun x22 => funext fun c1 => l0_eq k Q n x20 x21 x22 c1)))
theorem l0_congr {α : Type} (k : Nat) (Rt : Int → Option α) (Xt0 : (Int × Int × Int × List Int × Int × Int × List Int × Unit) → Option α) (Rtq : Int → Option α) (Xt0q : (Int × Int × Int × List Int × Int × Int × List Int × Unit) → Option α) (hRt : ∀ (x2 : Int), Rt x2 = Rtq x2) (hXt0 : ∀ (c1 : Int × Int × Int × List Int × Int × Int × List Int × Unit), Xt0 c1 = Xt0q c1) (n : Nat) (x20 : List (List Int)) (x21 : Int) (x22 : Int) (c1 : Int × Int × Int × List Int × Int × Int × List Int × Unit) : l0 k Rt Xt0 n x20 x21 x22 c1 = l0 k Rtq Xt0q n x20 x21 x22 c1 := by
  obtain rfl : Rt = Rtq := by funext x2; exact hRt x2
  obtain rfl : Xt0 = Xt0q := by funext c1; exact hXt0 c1
  rfl
noncomputable def cd1 : Code := cR (cR (cB Try.f102))
def St4 (c1 : Int × Int × Int × List Int × Int × Int × List Int × Unit) : St := stL 37 [(1, .ref 1 0 [])] [(1, .cell (.pair (.int .i64) (.pair (.int .i64) (.pair (.int .i64) (.pair (.arr 32 (.int .u8)) (.pair (.int .i64) (.pair (.int .i64) (.pair (.sl (.int .u8)) .unit))))))) (.data (.pair (.int .i64) (.pair (.int .i64) (.pair (.int .i64) (.pair (.arr 32 (.int .u8)) (.pair (.int .i64) (.pair (.int .i64) (.pair (.sl (.int .u8)) .unit))))))) c1) false)]
def j0 {α : Type} (Rt : Int → Option α) (c1 : Int × Int × Int × List Int × Int × Int × List Int × Unit) : Option α :=
  if (decide ((c1.2.2.2.2.2.2.1.length : Int) > 300)) = true then
    Rt 1
  else
    Rt 0
theorem j0_eq {α : Type} (k : Nat) (Q : Ex → St → Option α) (c1 : Int × Int × Int × List Int × Int × Int × List Int × Unit) :
    (den C k) cd1 Q (St4 c1) = j0 (fun (x2 : Int) => Q .ret (St2 x2)) c1 := by
  have h : ∀ (D L : DT α), denJ D L Js C cd1 Q (St4 c1) =
        if (decide ((c1.2.2.2.2.2.2.1.length : Int) > 300)) = true then
          Q .ret (St2 1)
        else
          Q .ret (St2 0) := by
    intro D L; kernel_rfl
  refine (show (den C k) cd1 Q (St4 c1) = denJ (den C k) (lp C k) Js C cd1 Q (St4 c1) from (denJ_den _ _ _ _ _ _).symm).trans ((h (den C k) (lp C k)).trans ?_)
  first | rfl | kernel_rfl
theorem a0 {α : Type} (k : Nat) (Q : Ex → St → Option α) (x20 : List (List Int)) (x21 : Int) (x22 : Int) (c1 : Int × Int × Int × List Int × Int × Int × List Int × Unit) :
    (lp C k) cd0 (blkQ C 0 (sq (den C k) (lp C k) Js C cd1 Q)) (St1 x20 x21 x22 c1) = l0 k (fun (x2 : Int) => (fun (x2 : Int) => Q .ret (St2 x2)) x2) (fun (c1 : Int × Int × Int × List Int × Int × Int × List Int × Unit) => j0 (fun (x2 : Int) => Q .ret (St2 x2)) c1) k x20 x21 x22 c1 :=
  (show (lp C k) cd0 (blkQ C 0 (sq (den C k) (lp C k) Js C cd1 Q)) (St1 x20 x21 x22 c1) = iter (rnd C k cd0 6 (blkQ C 0 (sq (den C k) (lp C k) Js C cd1 Q))) k (St1 x20 x21 x22 c1) by kernel_rfl).trans ((l0_eq k (blkQ C 0 (sq (den C k) (lp C k) Js C cd1 Q)) k x20 x21 x22 c1).trans (l0_congr k _ _ _ _ (fun x2 => (show (blkQ C 0 (sq (den C k) (lp C k) Js C cd1 Q)) .ret (St2 x2) = Q .ret (St2 x2) by kernel_rfl)) (fun c1 => ((show (blkQ C 0 (sq (den C k) (lp C k) Js C cd1 Q)) (.exit 0) (St3 c1) = (den C k) cd1 Q (St4 c1) by kernel_rfl).trans (by simp only [j0_eq]))) k x20 x21 x22 c1))
def top {α : Type} (k : Nat) (Rt : Int → Option α) (x0 : Int × Int × Int × List Int × Int × Int × List Int × Unit) : Option α :=
  l0 k (fun (x2 : Int) => Rt x2) (fun (c1 : Int × Int × Int × List Int × Int × Int × List Int × Unit) => j0 Rt c1) k [[x0.1, 1099511627776], [x0.2.1, 4294967295], [x0.2.2.1, 65535], [x0.2.2.2.2.1, 1099511627776], [x0.2.2.2.2.2.1, 255]] 5 0 x0
theorem top_eq {α : Type} (k : Nat) (Q : Ex → St → Option α) (x0 : Int × Int × Int × List Int × Int × Int × List Int × Unit) :
    (den C k) (cB Try.f102) Q (St0 x0) = top k (fun (x2 : Int) => Q .ret (St2 x2)) x0 := by
  have h : ∀ (D L : DT α), denJ D L Js C (cB Try.f102) Q (St0 x0) =
        L cd0 (blkQ C 0 (sq D L Js C cd1 Q)) (St1 [[x0.1, 1099511627776], [x0.2.1, 4294967295], [x0.2.2.1, 65535], [x0.2.2.2.2.1, 1099511627776], [x0.2.2.2.2.2.1, 255]] 5 0 x0) := by
    intro D L; kernel_rfl
  refine (show (den C k) (cB Try.f102) Q (St0 x0) = denJ (den C k) (lp C k) Js C (cB Try.f102) Q (St0 x0) from (denJ_den _ _ _ _ _ _).symm).trans ((h (den C k) (lp C k)).trans ?_)
  simp only [a0]
  first | rfl | kernel_rfl
def run (x0 : Int × Int × Int × List Int × Int × Int × List Int × Unit) : Option (Int) := top (α := Int) fuel (fun (x2 : Int) => some x2) x0
def F : Fn := ⟨(.pair (.pair (.int .i64) (.pair (.int .i64) (.pair (.int .i64) (.pair (.arr 32 (.int .u8)) (.pair (.int .i64) (.pair (.int .i64) (.pair (.sl (.int .u8)) .unit))))))) .unit), (.int .i64), false, fun x => run x.1⟩
set_option maxRecDepth 100000 in
theorem con : Con Try.prog 102 F := by
  refine con_of_den (C := C) (ctx_ok (by kernel_rfl) (by kernel_rfl) (by kernel_rfl) (by kernel_rfl) ⟨.inl ⟨Go.Bx.basculeref_upTo.con, Go.Bx.basculeref_upTo.named⟩, trivial⟩) (by kernel_rfl) Try.func102 (c := cB Try.f102) (by kernel_rfl) (by kernel_rfl) F fuel (fun x => by simp [F, spread, Try.ntmps102]) ?_
  intro x r h
  rw [← h]
  have h1 : start F Try.f102.ntmps x = (St0 x.1) := by kernel_rfl
  rw [h1]
  refine (top_eq fuel (fin C Try.f102.results.toList F.rs F.multi) x.1).trans ?_
  kernel_rfl
theorem named : Named Try.prog 102 := named_of Try.func102 (by kernel_rfl) (by kernel_rfl)
end Go.Bx.basculeref_BodyFault
namespace Go.Bx.paper_fault
open Go Go.Proofs Go.Bx
set_option maxRecDepth 100000
set_option linter.unusedVariables false
def Js : List Nat := [12]
def C : Ctx := ⟨[(3, (.int .i64)), (23, (.int .i64)), (74, (.sl (.pair (.int .i64) (.pair (.pair (.arr 4 (.int .u64)) (.pair (.arr 4 (.int .u64)) (.pair (.int .i64) .unit))) .unit)))), (76, (.pair (.int .i64) (.pair (.int .i64) (.pair (.int .i64) (.pair (.arr 32 (.int .u8)) (.pair (.int .i64) (.pair (.int .i64) (.pair (.sl (.int .u8)) .unit)))))))), (78, (.pair (.int .i64) (.pair (.sl (.pair (.int .i64) (.pair (.pair (.arr 4 (.int .u64)) (.pair (.arr 4 (.int .u64)) (.pair (.int .i64) .unit))) .unit))) (.pair (.pair (.int .i64) (.pair (.int .i64) (.pair (.int .i64) (.pair (.arr 32 (.int .u8)) (.pair (.int .i64) (.pair (.int .i64) (.pair (.sl (.int .u8)) .unit))))))) .unit)))), (139, (.pair (.arr 4 (.int .u64)) (.pair (.arr 4 (.int .u64)) (.pair (.int .i64) .unit)))), (141, (.pair (.int .i64) (.pair (.pair (.arr 4 (.int .u64)) (.pair (.arr 4 (.int .u64)) (.pair (.int .i64) .unit))) .unit)))], [], [], fnL [(98, Go.Bx.paper_Check.F)], noSh, [], invL [], [(2, [2]), (1, [1]), (4, [1, 18, 19, 20]), (18, [1, 18, 19, 20]), (33, [1])], [], [], 0, 0⟩
def St0 (x0 : Int × List (Int × (List Int × List Int × Int × Unit) × Unit) × (Int × Int × Int × List Int × Int × Int × List Int × Unit) × Unit) : St := stL 48 [(0, .data (.pair (.int .i64) (.pair (.sl (.pair (.int .i64) (.pair (.pair (.arr 4 (.int .u64)) (.pair (.arr 4 (.int .u64)) (.pair (.int .i64) .unit))) .unit))) (.pair (.pair (.int .i64) (.pair (.int .i64) (.pair (.int .i64) (.pair (.arr 32 (.int .u8)) (.pair (.int .i64) (.pair (.int .i64) (.pair (.sl (.int .u8)) .unit))))))) .unit))) x0)] []
def St1 (x2 : Int) : St := stL 48 [(2, .data (.int .i64) x2)] []
def St2 (x18 : List (Int × (List Int × List Int × Int × Unit) × Unit)) (x19 : Int) (x20 : Int) (c1 : Int × List (Int × (List Int × List Int × Int × Unit) × Unit) × (Int × Int × Int × List Int × Int × Int × List Int × Unit) × Unit) : St := stL 48 [(1, .ref 1 0 []), (18, .data (.sl (.pair (.int .i64) (.pair (.pair (.arr 4 (.int .u64)) (.pair (.arr 4 (.int .u64)) (.pair (.int .i64) .unit))) .unit))) x18), (19, .data (.int .i64) x19), (20, .data (.int .i64) x20)] [(1, .cell (.pair (.int .i64) (.pair (.sl (.pair (.int .i64) (.pair (.pair (.arr 4 (.int .u64)) (.pair (.arr 4 (.int .u64)) (.pair (.int .i64) .unit))) .unit))) (.pair (.pair (.int .i64) (.pair (.int .i64) (.pair (.int .i64) (.pair (.arr 32 (.int .u8)) (.pair (.int .i64) (.pair (.int .i64) (.pair (.sl (.int .u8)) .unit))))))) .unit))) (.data (.pair (.int .i64) (.pair (.sl (.pair (.int .i64) (.pair (.pair (.arr 4 (.int .u64)) (.pair (.arr 4 (.int .u64)) (.pair (.int .i64) .unit))) .unit))) (.pair (.pair (.int .i64) (.pair (.int .i64) (.pair (.int .i64) (.pair (.arr 32 (.int .u8)) (.pair (.int .i64) (.pair (.int .i64) (.pair (.sl (.int .u8)) .unit))))))) .unit))) c1) false)]
noncomputable def cd0 : Code := cL (cL (cR (cL (cR (cR (cR (cB Try.f79)))))))
def St3 (c1 : Int × List (Int × (List Int × List Int × Int × Unit) × Unit) × (Int × Int × Int × List Int × Int × Int × List Int × Unit) × Unit) : St := stL 48 [(1, .ref 1 0 [])] [(1, .cell (.pair (.int .i64) (.pair (.sl (.pair (.int .i64) (.pair (.pair (.arr 4 (.int .u64)) (.pair (.arr 4 (.int .u64)) (.pair (.int .i64) .unit))) .unit))) (.pair (.pair (.int .i64) (.pair (.int .i64) (.pair (.int .i64) (.pair (.arr 32 (.int .u8)) (.pair (.int .i64) (.pair (.int .i64) (.pair (.sl (.int .u8)) .unit))))))) .unit))) (.data (.pair (.int .i64) (.pair (.sl (.pair (.int .i64) (.pair (.pair (.arr 4 (.int .u64)) (.pair (.arr 4 (.int .u64)) (.pair (.int .i64) .unit))) .unit))) (.pair (.pair (.int .i64) (.pair (.int .i64) (.pair (.int .i64) (.pair (.arr 32 (.int .u8)) (.pair (.int .i64) (.pair (.int .i64) (.pair (.sl (.int .u8)) .unit))))))) .unit))) c1) false)]
def l0s {α : Type} (Nx : (List (Int × (List Int × List Int × Int × Unit) × Unit)) → Int → Int → (Int × List (Int × (List Int × List Int × Int × Unit) × Unit) × (Int × Int × Int × List Int × Int × Int × List Int × Unit) × Unit) → Option α) (Rt : Int → Option α) (Xt0 : (Int × List (Int × (List Int × List Int × Int × Unit) × Unit) × (Int × Int × Int × List Int × Int × Int × List Int × Unit) × Unit) → Option α) (x18 : List (Int × (List Int × List Int × Int × Unit) × Unit)) (x19 : Int) (x20 : Int) (c1 : Int × List (Int × (List Int × List Int × Int × Unit) × Unit) × (Int × Int × Int × List Int × Int × Int × List Int × Unit) × Unit) : Option α :=
  if (decide (x20 < x19)) = true then
    if 0 ≤ x20 ∧ x20 < (x18.length : Int) then
      if (cond (cond (cond (decide ((List.getD x18 (Int.toNat x20) (0, ([0, 0, 0, 0], [0, 0, 0, 0], 0, ()), ())).1 < 0)) true (decide ((List.getD x18 (Int.toNat x20) (0, ([0, 0, 0, 0], [0, 0, 0, 0], 0, ()), ())).1 > 255))) true (decide ((List.getD x18 (Int.toNat x20) (0, ([0, 0, 0, 0], [0, 0, 0, 0], 0, ()), ())).2.1.2.2.1 < 0))) true (decide ((List.getD x18 (Int.toNat x20) (0, ([0, 0, 0, 0], [0, 0, 0, 0], 0, ()), ())).2.1.2.2.1 > 255))) = true then
        Rt 6
      else
        Nx x18 x19 (IntKind.i64.wrap (x20 + 1)) c1
    else none
  else
    Xt0 c1
theorem l0s_eq {α : Type} (k : Nat) (next : St → Option α) (Q : Ex → St → Option α) (x18 : List (Int × (List Int × List Int × Int × Unit) × Unit)) (x19 : Int) (x20 : Int) (c1 : Int × List (Int × (List Int × List Int × Int × Unit) × Unit) × (Int × Int × Int × List Int × Int × Int × List Int × Unit) × Unit) :
    rnd C k cd0 18 Q next (St2 x18 x19 x20 c1) = l0s (fun (x18 : List (Int × (List Int × List Int × Int × Unit) × Unit)) (x19 : Int) (x20 : Int) (c1 : Int × List (Int × (List Int × List Int × Int × Unit) × Unit) × (Int × Int × Int × List Int × Int × Int × List Int × Unit) × Unit) => next (St2 x18 x19 x20 c1)) (fun (x2 : Int) => Q .ret (St1 x2)) (fun (c1 : Int × List (Int × (List Int × List Int × Int × Unit) × Unit) × (Int × Int × Int × List Int × Int × Int × List Int × Unit) × Unit) => Q (.exit 0) (St3 c1)) x18 x19 x20 c1 := by
  have h : ∀ (D L : DT α), denJ D L Js C cd0 (lq C 18 next Q) (St2 x18 x19 x20 c1) =
        if (decide (x20 < x19)) = true then
          if 0 ≤ x20 ∧ x20 < (x18.length : Int) then
            if (cond (cond (cond (decide ((List.getD x18 (Int.toNat x20) (0, ([0, 0, 0, 0], [0, 0, 0, 0], 0, ()), ())).1 < 0)) true (decide ((List.getD x18 (Int.toNat x20) (0, ([0, 0, 0, 0], [0, 0, 0, 0], 0, ()), ())).1 > 255))) true (decide ((List.getD x18 (Int.toNat x20) (0, ([0, 0, 0, 0], [0, 0, 0, 0], 0, ()), ())).2.1.2.2.1 < 0))) true (decide ((List.getD x18 (Int.toNat x20) (0, ([0, 0, 0, 0], [0, 0, 0, 0], 0, ()), ())).2.1.2.2.1 > 255))) = true then
              Q .ret (St1 6)
            else
              next (St2 x18 x19 (IntKind.i64.wrap (x20 + 1)) c1)
          else none
        else
          Q (.exit 0) (St3 c1) := by
    intro D L; kernel_rfl
  refine (show rnd C k cd0 18 Q next (St2 x18 x19 x20 c1) = denJ (den C k) (lp C k) Js C cd0 (lq C 18 next Q) (St2 x18 x19 x20 c1) from (denJ_den _ _ _ _ _ _).symm).trans ((h (den C k) (lp C k)).trans ?_)
  first | rfl | kernel_rfl
def l0 {α : Type} (k : Nat) (Rt : Int → Option α) (Xt0 : (Int × List (Int × (List Int × List Int × Int × Unit) × Unit) × (Int × Int × Int × List Int × Int × Int × List Int × Unit) × Unit) → Option α) : Nat → (List (Int × (List Int × List Int × Int × Unit) × Unit)) → Int → Int → (Int × List (Int × (List Int × List Int × Int × Unit) × Unit) × (Int × Int × Int × List Int × Int × Int × List Int × Unit) × Unit) → Option α
  | 0, _, _, _, _ => none
  | n + 1, x18, x19, x20, c1 => l0s (l0 k Rt Xt0 n) Rt Xt0 x18 x19 x20 c1
theorem l0_eq {α : Type} (k : Nat) (Q : Ex → St → Option α) : ∀ (n : Nat) (x18 : List (Int × (List Int × List Int × Int × Unit) × Unit)) (x19 : Int) (x20 : Int) (c1 : Int × List (Int × (List Int × List Int × Int × Unit) × Unit) × (Int × Int × Int × List Int × Int × Int × List Int × Unit) × Unit), iter (rnd C k cd0 18 Q) n (St2 x18 x19 x20 c1) = l0 k (fun (x2 : Int) => Q .ret (St1 x2)) (fun (c1 : Int × List (Int × (List Int × List Int × Int × Unit) × Unit) × (Int × Int × Int × List Int × Int × Int × List Int × Unit) × Unit) => Q (.exit 0) (St3 c1)) n x18 x19 x20 c1
  | 0, _, _, _, _ => rfl
  | n + 1, x18, x19, x20, c1 => (iter_succ _ _ _).trans ((l0s_eq k (iter (rnd C k cd0 18 Q) n) Q x18 x19 x20 c1).trans (congrArg (fun N => l0s N (fun (x2 : Int) => Q .ret (St1 x2)) (fun (c1 : Int × List (Int × (List Int × List Int × Int × Unit) × Unit) × (Int × Int × Int × List Int × Int × Int × List Int × Unit) × Unit) => Q (.exit 0) (St3 c1)) x18 x19 x20 c1) (funext fun x18 => funext fun x19 => funext fun x20 => funext fun c1 => l0_eq k Q n x18 x19 x20 c1)))
theorem l0_congr {α : Type} (k : Nat) (Rt : Int → Option α) (Xt0 : (Int × List (Int × (List Int × List Int × Int × Unit) × Unit) × (Int × Int × Int × List Int × Int × Int × List Int × Unit) × Unit) → Option α) (Rtq : Int → Option α) (Xt0q : (Int × List (Int × (List Int × List Int × Int × Unit) × Unit) × (Int × Int × Int × List Int × Int × Int × List Int × Unit) × Unit) → Option α) (hRt : ∀ (x2 : Int), Rt x2 = Rtq x2) (hXt0 : ∀ (c1 : Int × List (Int × (List Int × List Int × Int × Unit) × Unit) × (Int × Int × Int × List Int × Int × Int × List Int × Unit) × Unit), Xt0 c1 = Xt0q c1) (n : Nat) (x18 : List (Int × (List Int × List Int × Int × Unit) × Unit)) (x19 : Int) (x20 : Int) (c1 : Int × List (Int × (List Int × List Int × Int × Unit) × Unit) × (Int × Int × Int × List Int × Int × Int × List Int × Unit) × Unit) : l0 k Rt Xt0 n x18 x19 x20 c1 = l0 k Rtq Xt0q n x18 x19 x20 c1 := by
  obtain rfl : Rt = Rtq := by funext x2; exact hRt x2
  obtain rfl : Xt0 = Xt0q := by funext c1; exact hXt0 c1
  rfl
noncomputable def cd1 : Code := cR (cR (cR (cR (cB Try.f79))))
def St4 (c1 : Int × List (Int × (List Int × List Int × Int × Unit) × Unit) × (Int × Int × Int × List Int × Int × Int × List Int × Unit) × Unit) : St := stL 48 [(1, .ref 1 0 [])] [(1, .cell (.pair (.int .i64) (.pair (.sl (.pair (.int .i64) (.pair (.pair (.arr 4 (.int .u64)) (.pair (.arr 4 (.int .u64)) (.pair (.int .i64) .unit))) .unit))) (.pair (.pair (.int .i64) (.pair (.int .i64) (.pair (.int .i64) (.pair (.arr 32 (.int .u8)) (.pair (.int .i64) (.pair (.int .i64) (.pair (.sl (.int .u8)) .unit))))))) .unit))) (.data (.pair (.int .i64) (.pair (.sl (.pair (.int .i64) (.pair (.pair (.arr 4 (.int .u64)) (.pair (.arr 4 (.int .u64)) (.pair (.int .i64) .unit))) .unit))) (.pair (.pair (.int .i64) (.pair (.int .i64) (.pair (.int .i64) (.pair (.arr 32 (.int .u8)) (.pair (.int .i64) (.pair (.int .i64) (.pair (.sl (.int .u8)) .unit))))))) .unit))) c1) false)]
def j0 {α : Type} (Rt : Int → Option α) (c1 : Int × List (Int × (List Int × List Int × Int × Unit) × Unit) × (Int × Int × Int × List Int × Int × Int × List Int × Unit) × Unit) : Option α :=
  (Go.Bx.paper_Check.run c1.2.2.1).bind fun y1 =>
  Rt y1
theorem j0_eq {α : Type} (k : Nat) (Q : Ex → St → Option α) (c1 : Int × List (Int × (List Int × List Int × Int × Unit) × Unit) × (Int × Int × Int × List Int × Int × Int × List Int × Unit) × Unit) :
    (den C k) cd1 Q (St4 c1) = j0 (fun (x2 : Int) => Q .ret (St1 x2)) c1 := by
  have h : ∀ (D L : DT α), denJ D L Js C cd1 Q (St4 c1) =
        (Go.Bx.paper_Check.run c1.2.2.1).bind fun y1 =>
        Q .ret (St1 y1) := by
    intro D L; kernel_rfl
  refine (show (den C k) cd1 Q (St4 c1) = denJ (den C k) (lp C k) Js C cd1 Q (St4 c1) from (denJ_den _ _ _ _ _ _).symm).trans ((h (den C k) (lp C k)).trans ?_)
  first | rfl | kernel_rfl
theorem a0 {α : Type} (k : Nat) (Q : Ex → St → Option α) (x18 : List (Int × (List Int × List Int × Int × Unit) × Unit)) (x19 : Int) (x20 : Int) (c1 : Int × List (Int × (List Int × List Int × Int × Unit) × Unit) × (Int × Int × Int × List Int × Int × Int × List Int × Unit) × Unit) :
    (lp C k) cd0 (blkQ C 0 (sq (den C k) (lp C k) Js C cd1 Q)) (St2 x18 x19 x20 c1) = l0 k (fun (x2 : Int) => (fun (x2 : Int) => Q .ret (St1 x2)) x2) (fun (c1 : Int × List (Int × (List Int × List Int × Int × Unit) × Unit) × (Int × Int × Int × List Int × Int × Int × List Int × Unit) × Unit) => j0 (fun (x2 : Int) => Q .ret (St1 x2)) c1) k x18 x19 x20 c1 :=
  (show (lp C k) cd0 (blkQ C 0 (sq (den C k) (lp C k) Js C cd1 Q)) (St2 x18 x19 x20 c1) = iter (rnd C k cd0 18 (blkQ C 0 (sq (den C k) (lp C k) Js C cd1 Q))) k (St2 x18 x19 x20 c1) by kernel_rfl).trans ((l0_eq k (blkQ C 0 (sq (den C k) (lp C k) Js C cd1 Q)) k x18 x19 x20 c1).trans (l0_congr k _ _ _ _ (fun x2 => (show (blkQ C 0 (sq (den C k) (lp C k) Js C cd1 Q)) .ret (St1 x2) = Q .ret (St1 x2) by kernel_rfl)) (fun c1 => ((show (blkQ C 0 (sq (den C k) (lp C k) Js C cd1 Q)) (.exit 0) (St3 c1) = (den C k) cd1 Q (St4 c1) by kernel_rfl).trans (by simp only [j0_eq]))) k x18 x19 x20 c1))
def top {α : Type} (k : Nat) (Rt : Int → Option α) (x0 : Int × List (Int × (List Int × List Int × Int × Unit) × Unit) × (Int × Int × Int × List Int × Int × Int × List Int × Unit) × Unit) : Option α :=
  if (cond (decide (x0.1 < 0)) true (decide (x0.1 > 4294967295))) = true then
    Rt 6
  else
    if (decide ((x0.2.1.length : Int) > 19)) = true then
      Rt 1
    else
      l0 k (fun (x2 : Int) => Rt x2) (fun (c1 : Int × List (Int × (List Int × List Int × Int × Unit) × Unit) × (Int × Int × Int × List Int × Int × Int × List Int × Unit) × Unit) => j0 Rt c1) k x0.2.1 (x0.2.1.length : Int) 0 x0
theorem top_eq {α : Type} (k : Nat) (Q : Ex → St → Option α) (x0 : Int × List (Int × (List Int × List Int × Int × Unit) × Unit) × (Int × Int × Int × List Int × Int × Int × List Int × Unit) × Unit) :
    (den C k) (cB Try.f79) Q (St0 x0) = top k (fun (x2 : Int) => Q .ret (St1 x2)) x0 := by
  have h : ∀ (D L : DT α), denJ D L Js C (cB Try.f79) Q (St0 x0) =
        if (cond (decide (x0.1 < 0)) true (decide (x0.1 > 4294967295))) = true then
          Q .ret (St1 6)
        else
          if (decide ((x0.2.1.length : Int) > 19)) = true then
            Q .ret (St1 1)
          else
            L cd0 (blkQ C 0 (sq D L Js C cd1 Q)) (St2 x0.2.1 (x0.2.1.length : Int) 0 x0) := by
    intro D L; kernel_rfl
  refine (show (den C k) (cB Try.f79) Q (St0 x0) = denJ (den C k) (lp C k) Js C (cB Try.f79) Q (St0 x0) from (denJ_den _ _ _ _ _ _).symm).trans ((h (den C k) (lp C k)).trans ?_)
  simp only [a0]
  first | rfl | kernel_rfl
def run (x0 : Int × List (Int × (List Int × List Int × Int × Unit) × Unit) × (Int × Int × Int × List Int × Int × Int × List Int × Unit) × Unit) : Option (Int) := top (α := Int) fuel (fun (x2 : Int) => some x2) x0
def F : Fn := ⟨(.pair (.pair (.int .i64) (.pair (.sl (.pair (.int .i64) (.pair (.pair (.arr 4 (.int .u64)) (.pair (.arr 4 (.int .u64)) (.pair (.int .i64) .unit))) .unit))) (.pair (.pair (.int .i64) (.pair (.int .i64) (.pair (.int .i64) (.pair (.arr 32 (.int .u8)) (.pair (.int .i64) (.pair (.int .i64) (.pair (.sl (.int .u8)) .unit))))))) .unit))) .unit), (.int .i64), false, fun x => run x.1⟩
set_option maxRecDepth 100000 in
theorem con : Con Try.prog 79 F := by
  refine con_of_den (C := C) (ctx_ok (by kernel_rfl) (by kernel_rfl) (by kernel_rfl) (by kernel_rfl) ⟨.inl ⟨Go.Bx.paper_Check.con, Go.Bx.paper_Check.named⟩, trivial⟩) (by kernel_rfl) Try.func79 (c := cB Try.f79) (by kernel_rfl) (by kernel_rfl) F fuel (fun x => by simp [F, spread, Try.ntmps79]) ?_
  intro x r h
  rw [← h]
  have h1 : start F Try.f79.ntmps x = (St0 x.1) := by kernel_rfl
  rw [h1]
  refine (top_eq fuel (fin C Try.f79.results.toList F.rs F.multi) x.1).trans ?_
  kernel_rfl
theorem named : Named Try.prog 79 := named_of Try.func79 (by kernel_rfl) (by kernel_rfl)
end Go.Bx.paper_fault
namespace Go.Bx.basculeref_PaperFault
open Go Go.Proofs Go.Bx
set_option maxRecDepth 100000
set_option linter.unusedVariables false
def Js : List Nat := [12]
def C : Ctx := ⟨[(3, (.int .i64)), (23, (.int .i64)), (74, (.sl (.pair (.int .i64) (.pair (.pair (.arr 4 (.int .u64)) (.pair (.arr 4 (.int .u64)) (.pair (.int .i64) .unit))) .unit)))), (76, (.pair (.int .i64) (.pair (.int .i64) (.pair (.int .i64) (.pair (.arr 32 (.int .u8)) (.pair (.int .i64) (.pair (.int .i64) (.pair (.sl (.int .u8)) .unit)))))))), (78, (.pair (.int .i64) (.pair (.sl (.pair (.int .i64) (.pair (.pair (.arr 4 (.int .u64)) (.pair (.arr 4 (.int .u64)) (.pair (.int .i64) .unit))) .unit))) (.pair (.pair (.int .i64) (.pair (.int .i64) (.pair (.int .i64) (.pair (.arr 32 (.int .u8)) (.pair (.int .i64) (.pair (.int .i64) (.pair (.sl (.int .u8)) .unit))))))) .unit)))), (139, (.pair (.arr 4 (.int .u64)) (.pair (.arr 4 (.int .u64)) (.pair (.int .i64) .unit)))), (141, (.pair (.int .i64) (.pair (.pair (.arr 4 (.int .u64)) (.pair (.arr 4 (.int .u64)) (.pair (.int .i64) .unit))) .unit)))], [], [], fnL [(61, Go.Bx.basculeref_upTo.F), (102, Go.Bx.basculeref_BodyFault.F)], noSh, [], invL [], [(2, [2]), (1, [1]), (4, [1, 14, 15, 16]), (18, [1, 14, 15, 16]), (33, [1])], [], [], 0, 0⟩
def St0 (x0 : Int × List (Int × (List Int × List Int × Int × Unit) × Unit) × (Int × Int × Int × List Int × Int × Int × List Int × Unit) × Unit) : St := stL 35 [(0, .data (.pair (.int .i64) (.pair (.sl (.pair (.int .i64) (.pair (.pair (.arr 4 (.int .u64)) (.pair (.arr 4 (.int .u64)) (.pair (.int .i64) .unit))) .unit))) (.pair (.pair (.int .i64) (.pair (.int .i64) (.pair (.int .i64) (.pair (.arr 32 (.int .u8)) (.pair (.int .i64) (.pair (.int .i64) (.pair (.sl (.int .u8)) .unit))))))) .unit))) x0)] []
def St1 (x2 : Int) : St := stL 35 [(2, .data (.int .i64) x2)] []
def St2 (x14 : List (Int × (List Int × List Int × Int × Unit) × Unit)) (x15 : Int) (x16 : Int) (c1 : Int × List (Int × (List Int × List Int × Int × Unit) × Unit) × (Int × Int × Int × List Int × Int × Int × List Int × Unit) × Unit) : St := stL 35 [(1, .ref 1 0 []), (14, .data (.sl (.pair (.int .i64) (.pair (.pair (.arr 4 (.int .u64)) (.pair (.arr 4 (.int .u64)) (.pair (.int .i64) .unit))) .unit))) x14), (15, .data (.int .i64) x15), (16, .data (.int .i64) x16)] [(1, .cell (.pair (.int .i64) (.pair (.sl (.pair (.int .i64) (.pair (.pair (.arr 4 (.int .u64)) (.pair (.arr 4 (.int .u64)) (.pair (.int .i64) .unit))) .unit))) (.pair (.pair (.int .i64) (.pair (.int .i64) (.pair (.int .i64) (.pair (.arr 32 (.int .u8)) (.pair (.int .i64) (.pair (.int .i64) (.pair (.sl (.int .u8)) .unit))))))) .unit))) (.data (.pair (.int .i64) (.pair (.sl (.pair (.int .i64) (.pair (.pair (.arr 4 (.int .u64)) (.pair (.arr 4 (.int .u64)) (.pair (.int .i64) .unit))) .unit))) (.pair (.pair (.int .i64) (.pair (.int .i64) (.pair (.int .i64) (.pair (.arr 32 (.int .u8)) (.pair (.int .i64) (.pair (.int .i64) (.pair (.sl (.int .u8)) .unit))))))) .unit))) c1) false)]
noncomputable def cd0 : Code := cL (cL (cR (cL (cR (cR (cR (cB Try.f84)))))))
def St3 (c1 : Int × List (Int × (List Int × List Int × Int × Unit) × Unit) × (Int × Int × Int × List Int × Int × Int × List Int × Unit) × Unit) : St := stL 35 [(1, .ref 1 0 [])] [(1, .cell (.pair (.int .i64) (.pair (.sl (.pair (.int .i64) (.pair (.pair (.arr 4 (.int .u64)) (.pair (.arr 4 (.int .u64)) (.pair (.int .i64) .unit))) .unit))) (.pair (.pair (.int .i64) (.pair (.int .i64) (.pair (.int .i64) (.pair (.arr 32 (.int .u8)) (.pair (.int .i64) (.pair (.int .i64) (.pair (.sl (.int .u8)) .unit))))))) .unit))) (.data (.pair (.int .i64) (.pair (.sl (.pair (.int .i64) (.pair (.pair (.arr 4 (.int .u64)) (.pair (.arr 4 (.int .u64)) (.pair (.int .i64) .unit))) .unit))) (.pair (.pair (.int .i64) (.pair (.int .i64) (.pair (.int .i64) (.pair (.arr 32 (.int .u8)) (.pair (.int .i64) (.pair (.int .i64) (.pair (.sl (.int .u8)) .unit))))))) .unit))) c1) false)]
def l0s {α : Type} (Nx : (List (Int × (List Int × List Int × Int × Unit) × Unit)) → Int → Int → (Int × List (Int × (List Int × List Int × Int × Unit) × Unit) × (Int × Int × Int × List Int × Int × Int × List Int × Unit) × Unit) → Option α) (Rt : Int → Option α) (Xt0 : (Int × List (Int × (List Int × List Int × Int × Unit) × Unit) × (Int × Int × Int × List Int × Int × Int × List Int × Unit) × Unit) → Option α) (x14 : List (Int × (List Int × List Int × Int × Unit) × Unit)) (x15 : Int) (x16 : Int) (c1 : Int × List (Int × (List Int × List Int × Int × Unit) × Unit) × (Int × Int × Int × List Int × Int × Int × List Int × Unit) × Unit) : Option α :=
  if (decide (x16 < x15)) = true then
    if 0 ≤ x16 ∧ x16 < (x14.length : Int) then
      (Go.Bx.basculeref_upTo.run (List.getD x14 (Int.toNat x16) (0, ([0, 0, 0, 0], [0, 0, 0, 0], 0, ()), ())).1 255).bind fun y2 =>
      (if ((not y2) == false) = true then Go.Bx.basculeref_upTo.run (List.getD x14 (Int.toNat x16) (0, ([0, 0, 0, 0], [0, 0, 0, 0], 0, ()), ())).2.1.2.2.1 255 else some false).bind fun y3 =>
      if (cond (not y2) true (not y3)) = true then
        Rt 6
      else
        Nx x14 x15 (IntKind.i64.wrap (x16 + 1)) c1
    else none
  else
    Xt0 c1
theorem l0s_eq {α : Type} (k : Nat) (next : St → Option α) (Q : Ex → St → Option α) (x14 : List (Int × (List Int × List Int × Int × Unit) × Unit)) (x15 : Int) (x16 : Int) (c1 : Int × List (Int × (List Int × List Int × Int × Unit) × Unit) × (Int × Int × Int × List Int × Int × Int × List Int × Unit) × Unit) :
    rnd C k cd0 18 Q next (St2 x14 x15 x16 c1) = l0s (fun (x14 : List (Int × (List Int × List Int × Int × Unit) × Unit)) (x15 : Int) (x16 : Int) (c1 : Int × List (Int × (List Int × List Int × Int × Unit) × Unit) × (Int × Int × Int × List Int × Int × Int × List Int × Unit) × Unit) => next (St2 x14 x15 x16 c1)) (fun (x2 : Int) => Q .ret (St1 x2)) (fun (c1 : Int × List (Int × (List Int × List Int × Int × Unit) × Unit) × (Int × Int × Int × List Int × Int × Int × List Int × Unit) × Unit) => Q (.exit 0) (St3 c1)) x14 x15 x16 c1 := by
  have h : ∀ (D L : DT α), denJ D L Js C cd0 (lq C 18 next Q) (St2 x14 x15 x16 c1) =
        if (decide (x16 < x15)) = true then
          if 0 ≤ x16 ∧ x16 < (x14.length : Int) then
            (Go.Bx.basculeref_upTo.run (List.getD x14 (Int.toNat x16) (0, ([0, 0, 0, 0], [0, 0, 0, 0], 0, ()), ())).1 255).bind fun y2 =>
            (if ((not y2) == false) = true then Go.Bx.basculeref_upTo.run (List.getD x14 (Int.toNat x16) (0, ([0, 0, 0, 0], [0, 0, 0, 0], 0, ()), ())).2.1.2.2.1 255 else some false).bind fun y3 =>
            if (cond (not y2) true (not y3)) = true then
              Q .ret (St1 6)
            else
              next (St2 x14 x15 (IntKind.i64.wrap (x16 + 1)) c1)
          else none
        else
          Q (.exit 0) (St3 c1) := by
    intro D L; kernel_rfl
  refine (show rnd C k cd0 18 Q next (St2 x14 x15 x16 c1) = denJ (den C k) (lp C k) Js C cd0 (lq C 18 next Q) (St2 x14 x15 x16 c1) from (denJ_den _ _ _ _ _ _).symm).trans ((h (den C k) (lp C k)).trans ?_)
  first | rfl | kernel_rfl
def l0 {α : Type} (k : Nat) (Rt : Int → Option α) (Xt0 : (Int × List (Int × (List Int × List Int × Int × Unit) × Unit) × (Int × Int × Int × List Int × Int × Int × List Int × Unit) × Unit) → Option α) : Nat → (List (Int × (List Int × List Int × Int × Unit) × Unit)) → Int → Int → (Int × List (Int × (List Int × List Int × Int × Unit) × Unit) × (Int × Int × Int × List Int × Int × Int × List Int × Unit) × Unit) → Option α
  | 0, _, _, _, _ => none
  | n + 1, x14, x15, x16, c1 => l0s (l0 k Rt Xt0 n) Rt Xt0 x14 x15 x16 c1
theorem l0_eq {α : Type} (k : Nat) (Q : Ex → St → Option α) : ∀ (n : Nat) (x14 : List (Int × (List Int × List Int × Int × Unit) × Unit)) (x15 : Int) (x16 : Int) (c1 : Int × List (Int × (List Int × List Int × Int × Unit) × Unit) × (Int × Int × Int × List Int × Int × Int × List Int × Unit) × Unit), iter (rnd C k cd0 18 Q) n (St2 x14 x15 x16 c1) = l0 k (fun (x2 : Int) => Q .ret (St1 x2)) (fun (c1 : Int × List (Int × (List Int × List Int × Int × Unit) × Unit) × (Int × Int × Int × List Int × Int × Int × List Int × Unit) × Unit) => Q (.exit 0) (St3 c1)) n x14 x15 x16 c1
  | 0, _, _, _, _ => rfl
  | n + 1, x14, x15, x16, c1 => (iter_succ _ _ _).trans ((l0s_eq k (iter (rnd C k cd0 18 Q) n) Q x14 x15 x16 c1).trans (congrArg (fun N => l0s N (fun (x2 : Int) => Q .ret (St1 x2)) (fun (c1 : Int × List (Int × (List Int × List Int × Int × Unit) × Unit) × (Int × Int × Int × List Int × Int × Int × List Int × Unit) × Unit) => Q (.exit 0) (St3 c1)) x14 x15 x16 c1) (funext fun x14 => funext fun x15 => funext fun x16 => funext fun c1 => l0_eq k Q n x14 x15 x16 c1)))
theorem l0_congr {α : Type} (k : Nat) (Rt : Int → Option α) (Xt0 : (Int × List (Int × (List Int × List Int × Int × Unit) × Unit) × (Int × Int × Int × List Int × Int × Int × List Int × Unit) × Unit) → Option α) (Rtq : Int → Option α) (Xt0q : (Int × List (Int × (List Int × List Int × Int × Unit) × Unit) × (Int × Int × Int × List Int × Int × Int × List Int × Unit) × Unit) → Option α) (hRt : ∀ (x2 : Int), Rt x2 = Rtq x2) (hXt0 : ∀ (c1 : Int × List (Int × (List Int × List Int × Int × Unit) × Unit) × (Int × Int × Int × List Int × Int × Int × List Int × Unit) × Unit), Xt0 c1 = Xt0q c1) (n : Nat) (x14 : List (Int × (List Int × List Int × Int × Unit) × Unit)) (x15 : Int) (x16 : Int) (c1 : Int × List (Int × (List Int × List Int × Int × Unit) × Unit) × (Int × Int × Int × List Int × Int × Int × List Int × Unit) × Unit) : l0 k Rt Xt0 n x14 x15 x16 c1 = l0 k Rtq Xt0q n x14 x15 x16 c1 := by
  obtain rfl : Rt = Rtq := by funext x2; exact hRt x2
  obtain rfl : Xt0 = Xt0q := by funext c1; exact hXt0 c1
  rfl
noncomputable def cd1 : Code := cR (cR (cR (cR (cB Try.f84))))
def St4 (c1 : Int × List (Int × (List Int × List Int × Int × Unit) × Unit) × (Int × Int × Int × List Int × Int × Int × List Int × Unit) × Unit) : St := stL 35 [(1, .ref 1 0 [])] [(1, .cell (.pair (.int .i64) (.pair (.sl (.pair (.int .i64) (.pair (.pair (.arr 4 (.int .u64)) (.pair (.arr 4 (.int .u64)) (.pair (.int .i64) .unit))) .unit))) (.pair (.pair (.int .i64) (.pair (.int .i64) (.pair (.int .i64) (.pair (.arr 32 (.int .u8)) (.pair (.int .i64) (.pair (.int .i64) (.pair (.sl (.int .u8)) .unit))))))) .unit))) (.data (.pair (.int .i64) (.pair (.sl (.pair (.int .i64) (.pair (.pair (.arr 4 (.int .u64)) (.pair (.arr 4 (.int .u64)) (.pair (.int .i64) .unit))) .unit))) (.pair (.pair (.int .i64) (.pair (.int .i64) (.pair (.int .i64) (.pair (.arr 32 (.int .u8)) (.pair (.int .i64) (.pair (.int .i64) (.pair (.sl (.int .u8)) .unit))))))) .unit))) c1) false)]
def j0 {α : Type} (Rt : Int → Option α) (c1 : Int × List (Int × (List Int × List Int × Int × Unit) × Unit) × (Int × Int × Int × List Int × Int × Int × List Int × Unit) × Unit) : Option α :=
  (Go.Bx.basculeref_BodyFault.run c1.2.2.1).bind fun y4 =>
  Rt y4
theorem j0_eq {α : Type} (k : Nat) (Q : Ex → St → Option α) (c1 : Int × List (Int × (List Int × List Int × Int × Unit) × Unit) × (Int × Int × Int × List Int × Int × Int × List Int × Unit) × Unit) :
    (den C k) cd1 Q (St4 c1) = j0 (fun (x2 : Int) => Q .ret (St1 x2)) c1 := by
  have h : ∀ (D L : DT α), denJ D L Js C cd1 Q (St4 c1) =
        (Go.Bx.basculeref_BodyFault.run c1.2.2.1).bind fun y4 =>
        Q .ret (St1 y4) := by
    intro D L; kernel_rfl
  refine (show (den C k) cd1 Q (St4 c1) = denJ (den C k) (lp C k) Js C cd1 Q (St4 c1) from (denJ_den _ _ _ _ _ _).symm).trans ((h (den C k) (lp C k)).trans ?_)
  first | rfl | kernel_rfl
theorem a0 {α : Type} (k : Nat) (Q : Ex → St → Option α) (x14 : List (Int × (List Int × List Int × Int × Unit) × Unit)) (x15 : Int) (x16 : Int) (c1 : Int × List (Int × (List Int × List Int × Int × Unit) × Unit) × (Int × Int × Int × List Int × Int × Int × List Int × Unit) × Unit) :
    (lp C k) cd0 (blkQ C 0 (sq (den C k) (lp C k) Js C cd1 Q)) (St2 x14 x15 x16 c1) = l0 k (fun (x2 : Int) => (fun (x2 : Int) => Q .ret (St1 x2)) x2) (fun (c1 : Int × List (Int × (List Int × List Int × Int × Unit) × Unit) × (Int × Int × Int × List Int × Int × Int × List Int × Unit) × Unit) => j0 (fun (x2 : Int) => Q .ret (St1 x2)) c1) k x14 x15 x16 c1 :=
  (show (lp C k) cd0 (blkQ C 0 (sq (den C k) (lp C k) Js C cd1 Q)) (St2 x14 x15 x16 c1) = iter (rnd C k cd0 18 (blkQ C 0 (sq (den C k) (lp C k) Js C cd1 Q))) k (St2 x14 x15 x16 c1) by kernel_rfl).trans ((l0_eq k (blkQ C 0 (sq (den C k) (lp C k) Js C cd1 Q)) k x14 x15 x16 c1).trans (l0_congr k _ _ _ _ (fun x2 => (show (blkQ C 0 (sq (den C k) (lp C k) Js C cd1 Q)) .ret (St1 x2) = Q .ret (St1 x2) by kernel_rfl)) (fun c1 => ((show (blkQ C 0 (sq (den C k) (lp C k) Js C cd1 Q)) (.exit 0) (St3 c1) = (den C k) cd1 Q (St4 c1) by kernel_rfl).trans (by simp only [j0_eq]))) k x14 x15 x16 c1))
def top {α : Type} (k : Nat) (Rt : Int → Option α) (x0 : Int × List (Int × (List Int × List Int × Int × Unit) × Unit) × (Int × Int × Int × List Int × Int × Int × List Int × Unit) × Unit) : Option α :=
  (Go.Bx.basculeref_upTo.run x0.1 4294967295).bind fun y1 =>
  if (not y1) = true then
    Rt 6
  else
    if (decide ((x0.2.1.length : Int) > 19)) = true then
      Rt 1
    else
      l0 k (fun (x2 : Int) => Rt x2) (fun (c1 : Int × List (Int × (List Int × List Int × Int × Unit) × Unit) × (Int × Int × Int × List Int × Int × Int × List Int × Unit) × Unit) => j0 Rt c1) k x0.2.1 (x0.2.1.length : Int) 0 x0
theorem top_eq {α : Type} (k : Nat) (Q : Ex → St → Option α) (x0 : Int × List (Int × (List Int × List Int × Int × Unit) × Unit) × (Int × Int × Int × List Int × Int × Int × List Int × Unit) × Unit) :
    (den C k) (cB Try.f84) Q (St0 x0) = top k (fun (x2 : Int) => Q .ret (St1 x2)) x0 := by
  have h : ∀ (D L : DT α), denJ D L Js C (cB Try.f84) Q (St0 x0) =
        (Go.Bx.basculeref_upTo.run x0.1 4294967295).bind fun y1 =>
        if (not y1) = true then
          Q .ret (St1 6)
        else
          if (decide ((x0.2.1.length : Int) > 19)) = true then
            Q .ret (St1 1)
          else
            L cd0 (blkQ C 0 (sq D L Js C cd1 Q)) (St2 x0.2.1 (x0.2.1.length : Int) 0 x0) := by
    intro D L; kernel_rfl
  refine (show (den C k) (cB Try.f84) Q (St0 x0) = denJ (den C k) (lp C k) Js C (cB Try.f84) Q (St0 x0) from (denJ_den _ _ _ _ _ _).symm).trans ((h (den C k) (lp C k)).trans ?_)
  simp only [a0]
  first | rfl | kernel_rfl
def run (x0 : Int × List (Int × (List Int × List Int × Int × Unit) × Unit) × (Int × Int × Int × List Int × Int × Int × List Int × Unit) × Unit) : Option (Int) := top (α := Int) fuel (fun (x2 : Int) => some x2) x0
def F : Fn := ⟨(.pair (.pair (.int .i64) (.pair (.sl (.pair (.int .i64) (.pair (.pair (.arr 4 (.int .u64)) (.pair (.arr 4 (.int .u64)) (.pair (.int .i64) .unit))) .unit))) (.pair (.pair (.int .i64) (.pair (.int .i64) (.pair (.int .i64) (.pair (.arr 32 (.int .u8)) (.pair (.int .i64) (.pair (.int .i64) (.pair (.sl (.int .u8)) .unit))))))) .unit))) .unit), (.int .i64), false, fun x => run x.1⟩
set_option maxRecDepth 100000 in
theorem con : Con Try.prog 84 F := by
  refine con_of_den (C := C) (ctx_ok (by kernel_rfl) (by kernel_rfl) (by kernel_rfl) (by kernel_rfl) ⟨.inl ⟨Go.Bx.basculeref_upTo.con, Go.Bx.basculeref_upTo.named⟩, ⟨.inl ⟨Go.Bx.basculeref_BodyFault.con, Go.Bx.basculeref_BodyFault.named⟩, trivial⟩⟩) (by kernel_rfl) Try.func84 (c := cB Try.f84) (by kernel_rfl) (by kernel_rfl) F fuel (fun x => by simp [F, spread, Try.ntmps84]) ?_
  intro x r h
  rw [← h]
  have h1 : start F Try.f84.ntmps x = (St0 x.1) := by kernel_rfl
  rw [h1]
  refine (top_eq fuel (fin C Try.f84.results.toList F.rs F.multi) x.1).trans ?_
  kernel_rfl
theorem named : Named Try.prog 84 := named_of Try.func84 (by kernel_rfl) (by kernel_rfl)
end Go.Bx.basculeref_PaperFault
namespace Go.Bx.paper_pen__number_s1
open Go Go.Proofs Go.Bx
set_option maxRecDepth 100000
set_option linter.unusedVariables false
def Js : List Nat := []
def C : Ctx := ⟨[(3, (.int .i64)), (5, (.int .u8)), (59, (.sl (.int .u8))), (136, (.pair (.sl (.int .u8)) .unit))], [], [], fnL [], noSh, [], invL [], [(2, []), (1, []), (4, [0, 1, 6]), (3, [0, 1, 6])], [(3, [.melt false 0 [0] 24 true])], [], 1, 0⟩
def St0 (x1 : Int) (x2 : Int) (c0p0 : List Int) : St := stL 27 [(0, .ref 0 0 []), (1, .data (.int .i64) x1), (2, .data (.int .i64) x2)] [(0, .cell (.pair (.sl (.int .u8)) .unit) (.agg (.pair (.sl (.int .u8)) .unit) [.full (.int .u8) c0p0]) false)]
def St1 (x1 : Int) (x6 : Int) (c25 : List Int) : St := stL 27 [(0, .ref 0 0 []), (1, .data (.int .i64) x1), (6, .data (.int .i64) x6)] [(0, .cell (.pair (.sl (.int .u8)) .unit) (.agg (.pair (.sl (.int .u8)) .unit) [.app 25 0]) false), (25, .buf (.int .u8) c25 0 true)]
noncomputable def cd0 : Code := cL (cL (cR (cB Try.f80)))
def St2 (c25 : List Int) : St := stL 27 [] [(0, .cell (.pair (.sl (.int .u8)) .unit) (.agg (.pair (.sl (.int .u8)) .unit) [.app 25 0]) false), (25, .buf (.int .u8) c25 0 true)]
def l0s {α : Type} (Nx : Int → Int → (List Int) → Option α) (Xt0 : (List Int) → Option α) (x1 : Int) (x6 : Int) (c25 : List Int) : Option α :=
  if (decide (x6 ≥ 0)) = true then
    if 0 ≤ (IntKind.i64.wrap (8 * x6)) then
      if fitB (c25.length + 1) 1 = true then
        Nx x1 (IntKind.i64.wrap (x6 - 1)) (c25 ++ [(IntKind.u8.wrap (shrI .i64 x1 (IntKind.i64.wrap (8 * x6))))])
      else none
    else none
  else
    Xt0 c25
theorem l0s_eq {α : Type} (k : Nat) (next : St → Option α) (Q : Ex → St → Option α) (x1 : Int) (x6 : Int) (c25 : List Int) :
    rnd C k cd0 3 Q next (St1 x1 x6 c25) = l0s (fun (x1 : Int) (x6 : Int) (c25 : List Int) => next (St1 x1 x6 c25)) (fun (c25 : List Int) => Q (.exit 0) (St2 c25)) x1 x6 c25 := by
  have h : ∀ (D L : DT α), denJ D L Js C cd0 (lq C 3 next Q) (St1 x1 x6 c25) =
        if (decide (x6 ≥ 0)) = true then
          if 0 ≤ (IntKind.i64.wrap (8 * x6)) then
            if fitB (c25.length + 1) 1 = true then
              next (St1 x1 (IntKind.i64.wrap (x6 - 1)) (c25 ++ [(IntKind.u8.wrap (shrI .i64 x1 (IntKind.i64.wrap (8 * x6))))]))
            else none
          else none
        else
          Q (.exit 0) (St2 c25) := by
    intro D L; kernel_rfl
  refine (show rnd C k cd0 3 Q next (St1 x1 x6 c25) = denJ (den C k) (lp C k) Js C cd0 (lq C 3 next Q) (St1 x1 x6 c25) from (denJ_den _ _ _ _ _ _).symm).trans ((h (den C k) (lp C k)).trans ?_)
  first | rfl | kernel_rfl
def l0 {α : Type} (k : Nat) (Xt0 : (List Int) → Option α) : Nat → Int → Int → (List Int) → Option α
  | 0, _, _, _ => none
  | n + 1, x1, x6, c25 => l0s (l0 k Xt0 n) Xt0 x1 x6 c25
theorem l0_eq {α : Type} (k : Nat) (Q : Ex → St → Option α) : ∀ (n : Nat) (x1 : Int) (x6 : Int) (c25 : List Int), iter (rnd C k cd0 3 Q) n (St1 x1 x6 c25) = l0 k (fun (c25 : List Int) => Q (.exit 0) (St2 c25)) n x1 x6 c25
  | 0, _, _, _ => rfl
  | n + 1, x1, x6, c25 => (iter_succ _ _ _).trans ((l0s_eq k (iter (rnd C k cd0 3 Q) n) Q x1 x6 c25).trans (congrArg (fun N => l0s N (fun (c25 : List Int) => Q (.exit 0) (St2 c25)) x1 x6 c25) (funext fun x1 => funext fun x6 => funext fun c25 => l0_eq k Q n x1 x6 c25)))
theorem l0_congr {α : Type} (k : Nat) (Xt0 : (List Int) → Option α) (Xt0q : (List Int) → Option α) (hXt0 : ∀ (c25 : List Int), Xt0 c25 = Xt0q c25) (n : Nat) (x1 : Int) (x6 : Int) (c25 : List Int) : l0 k Xt0 n x1 x6 c25 = l0 k Xt0q n x1 x6 c25 := by
  obtain rfl : Xt0 = Xt0q := by funext c25; exact hXt0 c25
  rfl
def St3 (c25 : List Int) : St := stL 27 [] [(0, .cell (.pair (.sl (.int .u8)) .unit) (.agg (.pair (.sl (.int .u8)) .unit) [.app 25 0]) false), (25, .buf (.int .u8) c25 0 true)]
theorem a0 {α : Type} (k : Nat) (Q : Ex → St → Option α) (x1 : Int) (x6 : Int) (c25 : List Int) :
    (lp C k) cd0 (blkQ C 0 (endQ C Q)) (St1 x1 x6 c25) = l0 k (fun (c25 : List Int) => (fun (c25 : List Int) => Q .ret (St3 c25)) c25) k x1 x6 c25 :=
  (show (lp C k) cd0 (blkQ C 0 (endQ C Q)) (St1 x1 x6 c25) = iter (rnd C k cd0 3 (blkQ C 0 (endQ C Q))) k (St1 x1 x6 c25) by kernel_rfl).trans ((l0_eq k (blkQ C 0 (endQ C Q)) k x1 x6 c25).trans (l0_congr k _ _ (fun c25 => (show (blkQ C 0 (endQ C Q)) (.exit 0) (St2 c25) = Q .ret (St3 c25) by kernel_rfl)) k x1 x6 c25))
def top {α : Type} (k : Nat) (Rt : (List Int) → Option α) (x1 : Int) (x2 : Int) (c0p0 : List Int) : Option α :=
  l0 k (fun (c25 : List Int) => Rt c25) k x1 (IntKind.i64.wrap (x2 - 1)) c0p0
theorem top_eq {α : Type} (k : Nat) (Q : Ex → St → Option α) (x1 : Int) (x2 : Int) (c0p0 : List Int) :
    (den C k) (cB Try.f80) (endQ C Q) (St0 x1 x2 c0p0) = top k (fun (c25 : List Int) => Q .ret (St3 c25)) x1 x2 c0p0 := by
  have h : ∀ (D L : DT α), denJ D L Js C (cB Try.f80) (endQ C Q) (St0 x1 x2 c0p0) =
        L cd0 (blkQ C 0 (endQ C Q)) (St1 x1 (IntKind.i64.wrap (x2 - 1)) c0p0) := by
    intro D L; kernel_rfl
  refine (show (den C k) (cB Try.f80) (endQ C Q) (St0 x1 x2 c0p0) = denJ (den C k) (lp C k) Js C (cB Try.f80) (endQ C Q) (St0 x1 x2 c0p0) from (denJ_den _ _ _ _ _ _).symm).trans ((h (den C k) (lp C k)).trans ?_)
  simp only [a0]
  first | rfl | kernel_rfl
def run (x1 : Int) (x2 : Int) (c0p0 : List Int) : Option (List Int × Unit) := top (α := List Int × Unit) fuel (fun (c25 : List Int) => some (c25, ())) x1 x2 c0p0
def Sp : Spec := ⟨[.ref 0 0 [], hD (.int .i64), hD (.int .i64)], [(0, hC (.pair (.sl (.int .u8)) .unit) (.agg (.pair (.sl (.int .u8)) .unit) [hF (.int .u8)]) false)], (.pair (.int .i64) (.pair (.int .i64) (.pair (.sl (.int .u8)) .unit))), .tup [], [(0, hC (.pair (.sl (.int .u8)) .unit) (.agg (.pair (.sl (.int .u8)) .unit) [.app 25 0]) false), (25, hB (.int .u8) 0 true)], (.pair (.sl (.int .u8)) .unit), fun x => run x.1 x.2.1 x.2.2.1⟩
set_option maxRecDepth 100000 in
theorem sok : SOk Try.prog 80 Sp.h := by
  refine sok_of_den (C := C) (ctx_ok (by kernel_rfl) (by kernel_rfl) (by kernel_rfl) (by kernel_rfl) trivial) (by kernel_rfl) Try.func80 (c := cB Try.f80) (by kernel_rfl) (by kernel_rfl) Sp fuel (by kernel_rfl) (by kernel_rfl) ?_
  intro x r h
  rw [← h]
  have h1 : Sp.start x Try.f80.ntmps = (St0 x.1 x.2.1 x.2.2.1) := by kernel_rfl
  rw [h1]
  refine (top_eq fuel (finS C Try.f80.results.toList Sp.read) x.1 x.2.1 x.2.2.1).trans ?_
  kernel_rfl
theorem named : Named Try.prog 80 := named_of Try.func80 (by kernel_rfl) (by kernel_rfl)
end Go.Bx.paper_pen__number_s1
namespace Go.Bx.paper_pen__number_s2
open Go Go.Proofs Go.Bx
set_option maxRecDepth 100000
set_option linter.unusedVariables false
def Js : List Nat := []
def C : Ctx := ⟨[(3, (.int .i64)), (5, (.int .u8)), (59, (.sl (.int .u8))), (136, (.pair (.sl (.int .u8)) .unit))], [], [], fnL [], noSh, [], invL [], [(2, []), (1, []), (4, [0, 1, 6]), (3, [0, 1, 6])], [], [], 2, 0⟩
def St0 (x1 : Int) (x2 : Int) (c1 : List Int) : St := stL 27 [(0, .ref 0 0 []), (1, .data (.int .i64) x1), (2, .data (.int .i64) x2)] [(0, .cell (.pair (.sl (.int .u8)) .unit) (.agg (.pair (.sl (.int .u8)) .unit) [.app 1 0]) false), (1, .buf (.int .u8) c1 0 true)]
def St1 (x1 : Int) (x6 : Int) (c1 : List Int) : St := stL 27 [(0, .ref 0 0 []), (1, .data (.int .i64) x1), (6, .data (.int .i64) x6)] [(0, .cell (.pair (.sl (.int .u8)) .unit) (.agg (.pair (.sl (.int .u8)) .unit) [.app 1 1]) false), (1, .buf (.int .u8) c1 1 true)]
noncomputable def cd0 : Code := cL (cL (cR (cB Try.f80)))
def St2 (c1 : List Int) : St := stL 27 [] [(0, .cell (.pair (.sl (.int .u8)) .unit) (.agg (.pair (.sl (.int .u8)) .unit) [.app 1 1]) false), (1, .buf (.int .u8) c1 1 true)]
def l0s {α : Type} (Nx : Int → Int → (List Int) → Option α) (Xt0 : (List Int) → Option α) (x1 : Int) (x6 : Int) (c1 : List Int) : Option α :=
  if (decide (x6 ≥ 0)) = true then
    if 0 ≤ (IntKind.i64.wrap (8 * x6)) then
      if fitB (c1.length + 1) 1 = true then
        Nx x1 (IntKind.i64.wrap (x6 - 1)) (c1 ++ [(IntKind.u8.wrap (shrI .i64 x1 (IntKind.i64.wrap (8 * x6))))])
      else none
    else none
  else
    Xt0 c1
theorem l0s_eq {α : Type} (k : Nat) (next : St → Option α) (Q : Ex → St → Option α) (x1 : Int) (x6 : Int) (c1 : List Int) :
    rnd C k cd0 3 Q next (St1 x1 x6 c1) = l0s (fun (x1 : Int) (x6 : Int) (c1 : List Int) => next (St1 x1 x6 c1)) (fun (c1 : List Int) => Q (.exit 0) (St2 c1)) x1 x6 c1 := by
  have h : ∀ (D L : DT α), denJ D L Js C cd0 (lq C 3 next Q) (St1 x1 x6 c1) =
        if (decide (x6 ≥ 0)) = true then
          if 0 ≤ (IntKind.i64.wrap (8 * x6)) then
            if fitB (c1.length + 1) 1 = true then
              next (St1 x1 (IntKind.i64.wrap (x6 - 1)) (c1 ++ [(IntKind.u8.wrap (shrI .i64 x1 (IntKind.i64.wrap (8 * x6))))]))
            else none
          else none
        else
          Q (.exit 0) (St2 c1) := by
    intro D L; kernel_rfl
  refine (show rnd C k cd0 3 Q next (St1 x1 x6 c1) = denJ (den C k) (lp C k) Js C cd0 (lq C 3 next Q) (St1 x1 x6 c1) from (denJ_den _ _ _ _ _ _).symm).trans ((h (den C k) (lp C k)).trans ?_)
  first | rfl | kernel_rfl
def l0 {α : Type} (k : Nat) (Xt0 : (List Int) → Option α) : Nat → Int → Int → (List Int) → Option α
  | 0, _, _, _ => none
  | n + 1, x1, x6, c1 => l0s (l0 k Xt0 n) Xt0 x1 x6 c1
theorem l0_eq {α : Type} (k : Nat) (Q : Ex → St → Option α) : ∀ (n : Nat) (x1 : Int) (x6 : Int) (c1 : List Int), iter (rnd C k cd0 3 Q) n (St1 x1 x6 c1) = l0 k (fun (c1 : List Int) => Q (.exit 0) (St2 c1)) n x1 x6 c1
  | 0, _, _, _ => rfl
  | n + 1, x1, x6, c1 => (iter_succ _ _ _).trans ((l0s_eq k (iter (rnd C k cd0 3 Q) n) Q x1 x6 c1).trans (congrArg (fun N => l0s N (fun (c1 : List Int) => Q (.exit 0) (St2 c1)) x1 x6 c1) (funext fun x1 => funext fun x6 => funext fun c1 => l0_eq k Q n x1 x6 c1)))
theorem l0_congr {α : Type} (k : Nat) (Xt0 : (List Int) → Option α) (Xt0q : (List Int) → Option α) (hXt0 : ∀ (c1 : List Int), Xt0 c1 = Xt0q c1) (n : Nat) (x1 : Int) (x6 : Int) (c1 : List Int) : l0 k Xt0 n x1 x6 c1 = l0 k Xt0q n x1 x6 c1 := by
  obtain rfl : Xt0 = Xt0q := by funext c1; exact hXt0 c1
  rfl
def St3 (c1 : List Int) : St := stL 27 [] [(0, .cell (.pair (.sl (.int .u8)) .unit) (.agg (.pair (.sl (.int .u8)) .unit) [.app 1 1]) false), (1, .buf (.int .u8) c1 1 true)]
theorem a0 {α : Type} (k : Nat) (Q : Ex → St → Option α) (x1 : Int) (x6 : Int) (c1 : List Int) :
    (lp C k) cd0 (blkQ C 0 (endQ C Q)) (St1 x1 x6 c1) = l0 k (fun (c1 : List Int) => (fun (c1 : List Int) => Q .ret (St3 c1)) c1) k x1 x6 c1 :=
  (show (lp C k) cd0 (blkQ C 0 (endQ C Q)) (St1 x1 x6 c1) = iter (rnd C k cd0 3 (blkQ C 0 (endQ C Q))) k (St1 x1 x6 c1) by kernel_rfl).trans ((l0_eq k (blkQ C 0 (endQ C Q)) k x1 x6 c1).trans (l0_congr k _ _ (fun c1 => (show (blkQ C 0 (endQ C Q)) (.exit 0) (St2 c1) = Q .ret (St3 c1) by kernel_rfl)) k x1 x6 c1))
def top {α : Type} (k : Nat) (Rt : (List Int) → Option α) (x1 : Int) (x2 : Int) (c1 : List Int) : Option α :=
  l0 k (fun (c1 : List Int) => Rt c1) k x1 (IntKind.i64.wrap (x2 - 1)) c1
theorem top_eq {α : Type} (k : Nat) (Q : Ex → St → Option α) (x1 : Int) (x2 : Int) (c1 : List Int) :
    (den C k) (cB Try.f80) (endQ C Q) (St0 x1 x2 c1) = top k (fun (c1 : List Int) => Q .ret (St3 c1)) x1 x2 c1 := by
  have h : ∀ (D L : DT α), denJ D L Js C (cB Try.f80) (endQ C Q) (St0 x1 x2 c1) =
        L cd0 (blkQ C 0 (endQ C Q)) (St1 x1 (IntKind.i64.wrap (x2 - 1)) c1) := by
    intro D L; kernel_rfl
  refine (show (den C k) (cB Try.f80) (endQ C Q) (St0 x1 x2 c1) = denJ (den C k) (lp C k) Js C (cB Try.f80) (endQ C Q) (St0 x1 x2 c1) from (denJ_den _ _ _ _ _ _).symm).trans ((h (den C k) (lp C k)).trans ?_)
  simp only [a0]
  first | rfl | kernel_rfl
def run (x1 : Int) (x2 : Int) (c1 : List Int) : Option (List Int × Unit) := top (α := List Int × Unit) fuel (fun (c1 : List Int) => some (c1, ())) x1 x2 c1
def Sp : Spec := ⟨[.ref 0 0 [], hD (.int .i64), hD (.int .i64)], [(0, hC (.pair (.sl (.int .u8)) .unit) (.agg (.pair (.sl (.int .u8)) .unit) [.app 1 0]) false), (1, hB (.int .u8) 0 true)], (.pair (.int .i64) (.pair (.int .i64) (.pair (.sl (.int .u8)) .unit))), .tup [], [(0, hC (.pair (.sl (.int .u8)) .unit) (.agg (.pair (.sl (.int .u8)) .unit) [.app 1 1]) false), (1, hB (.int .u8) 1 true)], (.pair (.sl (.int .u8)) .unit), fun x => run x.1 x.2.1 x.2.2.1⟩
set_option maxRecDepth 100000 in
theorem sok : SOk Try.prog 80 Sp.h := by
  refine sok_of_den (C := C) (ctx_ok (by kernel_rfl) (by kernel_rfl) (by kernel_rfl) (by kernel_rfl) trivial) (by kernel_rfl) Try.func80 (c := cB Try.f80) (by kernel_rfl) (by kernel_rfl) Sp fuel (by kernel_rfl) (by kernel_rfl) ?_
  intro x r h
  rw [← h]
  have h1 : Sp.start x Try.f80.ntmps = (St0 x.1 x.2.1 x.2.2.1) := by kernel_rfl
  rw [h1]
  refine (top_eq fuel (finS C Try.f80.results.toList Sp.read) x.1 x.2.1 x.2.2.1).trans ?_
  kernel_rfl
theorem named : Named Try.prog 80 := named_of Try.func80 (by kernel_rfl) (by kernel_rfl)
end Go.Bx.paper_pen__number_s2
namespace Go.Bx.paper_pen__bytes_s0
open Go Go.Proofs Go.Bx
set_option maxRecDepth 100000
set_option linter.unusedVariables false
def Js : List Nat := []
def C : Ctx := ⟨[(59, (.sl (.int .u8))), (136, (.pair (.sl (.int .u8)) .unit))], [], [], fnL [], noSh, [], invL [], [(2, [])], [], [], 3, 0⟩
def St0 (x1l : Int) (x1h : Int) (c1 : List Int) (c2 : List Int) : St := stL 13 [(0, .ref 0 0 []), (1, .view 1 [] (.int .u8) 32 x1l x1h)] [(0, .cell (.pair (.sl (.int .u8)) .unit) (.agg (.pair (.sl (.int .u8)) .unit) [.app 2 0]) false), (1, .cell (.arr 32 (.int .u8)) (.data (.arr 32 (.int .u8)) c1) false), (2, .buf (.int .u8) c2 0 true)]
def St1 (c1 : List Int) (c2 : List Int) : St := stL 13 [] [(0, .cell (.pair (.sl (.int .u8)) .unit) (.agg (.pair (.sl (.int .u8)) .unit) [.app 2 1]) false), (1, .cell (.arr 32 (.int .u8)) (.data (.arr 32 (.int .u8)) c1) false), (2, .buf (.int .u8) c2 1 true)]
def top {α : Type} (Rt : (List Int) → (List Int) → Option α) (x1l : Int) (x1h : Int) (c1 : List Int) (c2 : List Int) : Option α :=
  if fitB (c2.length + (cutL c1 x1l x1h).length) 1 = true then
    Rt c1 (c2 ++ (cutL c1 x1l x1h))
  else none
theorem top_eq {α : Type} (k : Nat) (Q : Ex → St → Option α) (x1l : Int) (x1h : Int) (c1 : List Int) (c2 : List Int) :
    (den C k) (cB Try.f82) (endQ C Q) (St0 x1l x1h c1 c2) = top (fun (c1 : List Int) (c2 : List Int) => Q .ret (St1 c1 c2)) x1l x1h c1 c2 := by
  have h : ∀ (D L : DT α), denJ D L Js C (cB Try.f82) (endQ C Q) (St0 x1l x1h c1 c2) =
        if fitB (c2.length + (cutL c1 x1l x1h).length) 1 = true then
          Q .ret (St1 c1 (c2 ++ (cutL c1 x1l x1h)))
        else none := by
    intro D L; kernel_rfl
  refine (show (den C k) (cB Try.f82) (endQ C Q) (St0 x1l x1h c1 c2) = denJ (den C k) (lp C k) Js C (cB Try.f82) (endQ C Q) (St0 x1l x1h c1 c2) from (denJ_den _ _ _ _ _ _).symm).trans ((h (den C k) (lp C k)).trans ?_)
  first | rfl | kernel_rfl
def run (x1l : Int) (x1h : Int) (c1 : List Int) (c2 : List Int) : Option (List Int × List Int × Unit) := top (α := List Int × List Int × Unit) (fun (c1 : List Int) (c2 : List Int) => some (c1, c2, ())) x1l x1h c1 c2
def Sp : Spec := ⟨[.ref 0 0 [], hW 1 [] (.int .u8) 32], [(0, hC (.pair (.sl (.int .u8)) .unit) (.agg (.pair (.sl (.int .u8)) .unit) [.app 2 0]) false), (1, hC (.arr 32 (.int .u8)) (hD (.arr 32 (.int .u8))) false), (2, hB (.int .u8) 0 true)], (.pair (.int .i64) (.pair (.int .i64) (.pair (.arr 32 (.int .u8)) (.pair (.sl (.int .u8)) .unit)))), .tup [], [(0, hC (.pair (.sl (.int .u8)) .unit) (.agg (.pair (.sl (.int .u8)) .unit) [.app 2 1]) false), (1, hC (.arr 32 (.int .u8)) (hD (.arr 32 (.int .u8))) false), (2, hB (.int .u8) 1 true)], (.pair (.arr 32 (.int .u8)) (.pair (.sl (.int .u8)) .unit)), fun x => run x.1 x.2.1 x.2.2.1 x.2.2.2.1⟩
set_option maxRecDepth 100000 in
theorem sok : SOk Try.prog 82 Sp.h := by
  refine sok_of_den (C := C) (ctx_ok (by kernel_rfl) (by kernel_rfl) (by kernel_rfl) (by kernel_rfl) trivial) (by kernel_rfl) Try.func82 (c := cB Try.f82) (by kernel_rfl) (by kernel_rfl) Sp fuel (by kernel_rfl) (by kernel_rfl) ?_
  intro x r h
  rw [← h]
  have h1 : Sp.start x Try.f82.ntmps = (St0 x.1 x.2.1 x.2.2.1 x.2.2.2.1) := by kernel_rfl
  rw [h1]
  refine (top_eq fuel (finS C Try.f82.results.toList Sp.read) x.1 x.2.1 x.2.2.1 x.2.2.2.1).trans ?_
  kernel_rfl
theorem named : Named Try.prog 82 := named_of Try.func82 (by kernel_rfl) (by kernel_rfl)
end Go.Bx.paper_pen__bytes_s0
namespace Go.Bx.paper_pen__bytes_s1
open Go Go.Proofs Go.Bx
set_option maxRecDepth 100000
set_option linter.unusedVariables false
def Js : List Nat := []
def C : Ctx := ⟨[(59, (.sl (.int .u8))), (136, (.pair (.sl (.int .u8)) .unit))], [], [], fnL [], noSh, [], invL [], [(2, [])], [], [], 3, 0⟩
def St0 (x1l : Int) (x1h : Int) (c1 : Int × Int × Int × List Int × Int × Int × List Int × Unit) (c2 : List Int) : St := stL 13 [(0, .ref 0 0 []), (1, .view 1 [.fld 3] (.int .u8) 32 x1l x1h)] [(0, .cell (.pair (.sl (.int .u8)) .unit) (.agg (.pair (.sl (.int .u8)) .unit) [.app 2 0]) false), (1, .cell (.pair (.int .i64) (.pair (.int .i64) (.pair (.int .i64) (.pair (.arr 32 (.int .u8)) (.pair (.int .i64) (.pair (.int .i64) (.pair (.sl (.int .u8)) .unit))))))) (.data (.pair (.int .i64) (.pair (.int .i64) (.pair (.int .i64) (.pair (.arr 32 (.int .u8)) (.pair (.int .i64) (.pair (.int .i64) (.pair (.sl (.int .u8)) .unit))))))) c1) false), (2, .buf (.int .u8) c2 0 true)]
def St1 (c1 : Int × Int × Int × List Int × Int × Int × List Int × Unit) (c2 : List Int) : St := stL 13 [] [(0, .cell (.pair (.sl (.int .u8)) .unit) (.agg (.pair (.sl (.int .u8)) .unit) [.app 2 1]) false), (1, .cell (.pair (.int .i64) (.pair (.int .i64) (.pair (.int .i64) (.pair (.arr 32 (.int .u8)) (.pair (.int .i64) (.pair (.int .i64) (.pair (.sl (.int .u8)) .unit))))))) (.data (.pair (.int .i64) (.pair (.int .i64) (.pair (.int .i64) (.pair (.arr 32 (.int .u8)) (.pair (.int .i64) (.pair (.int .i64) (.pair (.sl (.int .u8)) .unit))))))) c1) false), (2, .buf (.int .u8) c2 1 true)]
def top {α : Type} (Rt : (Int × Int × Int × List Int × Int × Int × List Int × Unit) → (List Int) → Option α) (x1l : Int) (x1h : Int) (c1 : Int × Int × Int × List Int × Int × Int × List Int × Unit) (c2 : List Int) : Option α :=
  if fitB (c2.length + (cutL c1.2.2.2.1 x1l x1h).length) 1 = true then
    Rt c1 (c2 ++ (cutL c1.2.2.2.1 x1l x1h))
  else none
theorem top_eq {α : Type} (k : Nat) (Q : Ex → St → Option α) (x1l : Int) (x1h : Int) (c1 : Int × Int × Int × List Int × Int × Int × List Int × Unit) (c2 : List Int) :
    (den C k) (cB Try.f82) (endQ C Q) (St0 x1l x1h c1 c2) = top (fun (c1 : Int × Int × Int × List Int × Int × Int × List Int × Unit) (c2 : List Int) => Q .ret (St1 c1 c2)) x1l x1h c1 c2 := by
  have h : ∀ (D L : DT α), denJ D L Js C (cB Try.f82) (endQ C Q) (St0 x1l x1h c1 c2) =
        if fitB (c2.length + (cutL c1.2.2.2.1 x1l x1h).length) 1 = true then
          Q .ret (St1 c1 (c2 ++ (cutL c1.2.2.2.1 x1l x1h)))
        else none := by
    intro D L; kernel_rfl
  refine (show (den C k) (cB Try.f82) (endQ C Q) (St0 x1l x1h c1 c2) = denJ (den C k) (lp C k) Js C (cB Try.f82) (endQ C Q) (St0 x1l x1h c1 c2) from (denJ_den _ _ _ _ _ _).symm).trans ((h (den C k) (lp C k)).trans ?_)
  first | rfl | kernel_rfl
def run (x1l : Int) (x1h : Int) (c1 : Int × Int × Int × List Int × Int × Int × List Int × Unit) (c2 : List Int) : Option ((Int × Int × Int × List Int × Int × Int × List Int × Unit) × List Int × Unit) := top (α := (Int × Int × Int × List Int × Int × Int × List Int × Unit) × List Int × Unit) (fun (c1 : Int × Int × Int × List Int × Int × Int × List Int × Unit) (c2 : List Int) => some (c1, c2, ())) x1l x1h c1 c2
def Sp : Spec := ⟨[.ref 0 0 [], hW 1 [.fld 3] (.int .u8) 32], [(0, hC (.pair (.sl (.int .u8)) .unit) (.agg (.pair (.sl (.int .u8)) .unit) [.app 2 0]) false), (1, hC (.pair (.int .i64) (.pair (.int .i64) (.pair (.int .i64) (.pair (.arr 32 (.int .u8)) (.pair (.int .i64) (.pair (.int .i64) (.pair (.sl (.int .u8)) .unit))))))) (hD (.pair (.int .i64) (.pair (.int .i64) (.pair (.int .i64) (.pair (.arr 32 (.int .u8)) (.pair (.int .i64) (.pair (.int .i64) (.pair (.sl (.int .u8)) .unit)))))))) false), (2, hB (.int .u8) 0 true)], (.pair (.int .i64) (.pair (.int .i64) (.pair (.pair (.int .i64) (.pair (.int .i64) (.pair (.int .i64) (.pair (.arr 32 (.int .u8)) (.pair (.int .i64) (.pair (.int .i64) (.pair (.sl (.int .u8)) .unit))))))) (.pair (.sl (.int .u8)) .unit)))), .tup [], [(0, hC (.pair (.sl (.int .u8)) .unit) (.agg (.pair (.sl (.int .u8)) .unit) [.app 2 1]) false), (1, hC (.pair (.int .i64) (.pair (.int .i64) (.pair (.int .i64) (.pair (.arr 32 (.int .u8)) (.pair (.int .i64) (.pair (.int .i64) (.pair (.sl (.int .u8)) .unit))))))) (hD (.pair (.int .i64) (.pair (.int .i64) (.pair (.int .i64) (.pair (.arr 32 (.int .u8)) (.pair (.int .i64) (.pair (.int .i64) (.pair (.sl (.int .u8)) .unit)))))))) false), (2, hB (.int .u8) 1 true)], (.pair (.pair (.int .i64) (.pair (.int .i64) (.pair (.int .i64) (.pair (.arr 32 (.int .u8)) (.pair (.int .i64) (.pair (.int .i64) (.pair (.sl (.int .u8)) .unit))))))) (.pair (.sl (.int .u8)) .unit)), fun x => run x.1 x.2.1 x.2.2.1 x.2.2.2.1⟩
set_option maxRecDepth 100000 in
theorem sok : SOk Try.prog 82 Sp.h := by
  refine sok_of_den (C := C) (ctx_ok (by kernel_rfl) (by kernel_rfl) (by kernel_rfl) (by kernel_rfl) trivial) (by kernel_rfl) Try.func82 (c := cB Try.f82) (by kernel_rfl) (by kernel_rfl) Sp fuel (by kernel_rfl) (by kernel_rfl) ?_
  intro x r h
  rw [← h]
  have h1 : Sp.start x Try.f82.ntmps = (St0 x.1 x.2.1 x.2.2.1 x.2.2.2.1) := by kernel_rfl
  rw [h1]
  refine (top_eq fuel (finS C Try.f82.results.toList Sp.read) x.1 x.2.1 x.2.2.1 x.2.2.2.1).trans ?_
  kernel_rfl
theorem named : Named Try.prog 82 := named_of Try.func82 (by kernel_rfl) (by kernel_rfl)
end Go.Bx.paper_pen__bytes_s1
namespace Go.Bx.paper_pen__bytes_s2
open Go Go.Proofs Go.Bx
set_option maxRecDepth 100000
set_option linter.unusedVariables false
def Js : List Nat := []
def C : Ctx := ⟨[(59, (.sl (.int .u8))), (136, (.pair (.sl (.int .u8)) .unit))], [], [], fnL [], noSh, [], invL [], [(2, [])], [], [], 2, 0⟩
def St0 (x1 : List Int) (c1 : List Int) : St := stL 13 [(0, .ref 0 0 []), (1, .data (.sl (.int .u8)) x1)] [(0, .cell (.pair (.sl (.int .u8)) .unit) (.agg (.pair (.sl (.int .u8)) .unit) [.app 1 0]) false), (1, .buf (.int .u8) c1 0 true)]
def St1 (c1 : List Int) : St := stL 13 [] [(0, .cell (.pair (.sl (.int .u8)) .unit) (.agg (.pair (.sl (.int .u8)) .unit) [.app 1 1]) false), (1, .buf (.int .u8) c1 1 true)]
def top {α : Type} (Rt : (List Int) → Option α) (x1 : List Int) (c1 : List Int) : Option α :=
  if fitB (c1.length + x1.length) 1 = true then
    Rt (c1 ++ x1)
  else none
theorem top_eq {α : Type} (k : Nat) (Q : Ex → St → Option α) (x1 : List Int) (c1 : List Int) :
    (den C k) (cB Try.f82) (endQ C Q) (St0 x1 c1) = top (fun (c1 : List Int) => Q .ret (St1 c1)) x1 c1 := by
  have h : ∀ (D L : DT α), denJ D L Js C (cB Try.f82) (endQ C Q) (St0 x1 c1) =
        if fitB (c1.length + x1.length) 1 = true then
          Q .ret (St1 (c1 ++ x1))
        else none := by
    intro D L; kernel_rfl
  refine (show (den C k) (cB Try.f82) (endQ C Q) (St0 x1 c1) = denJ (den C k) (lp C k) Js C (cB Try.f82) (endQ C Q) (St0 x1 c1) from (denJ_den _ _ _ _ _ _).symm).trans ((h (den C k) (lp C k)).trans ?_)
  first | rfl | kernel_rfl
def run (x1 : List Int) (c1 : List Int) : Option (List Int × Unit) := top (α := List Int × Unit) (fun (c1 : List Int) => some (c1, ())) x1 c1
def Sp : Spec := ⟨[.ref 0 0 [], hD (.sl (.int .u8))], [(0, hC (.pair (.sl (.int .u8)) .unit) (.agg (.pair (.sl (.int .u8)) .unit) [.app 1 0]) false), (1, hB (.int .u8) 0 true)], (.pair (.sl (.int .u8)) (.pair (.sl (.int .u8)) .unit)), .tup [], [(0, hC (.pair (.sl (.int .u8)) .unit) (.agg (.pair (.sl (.int .u8)) .unit) [.app 1 1]) false), (1, hB (.int .u8) 1 true)], (.pair (.sl (.int .u8)) .unit), fun x => run x.1 x.2.1⟩
set_option maxRecDepth 100000 in
theorem sok : SOk Try.prog 82 Sp.h := by
  refine sok_of_den (C := C) (ctx_ok (by kernel_rfl) (by kernel_rfl) (by kernel_rfl) (by kernel_rfl) trivial) (by kernel_rfl) Try.func82 (c := cB Try.f82) (by kernel_rfl) (by kernel_rfl) Sp fuel (by kernel_rfl) (by kernel_rfl) ?_
  intro x r h
  rw [← h]
  have h1 : Sp.start x Try.f82.ntmps = (St0 x.1 x.2.1) := by kernel_rfl
  rw [h1]
  refine (top_eq fuel (finS C Try.f82.results.toList Sp.read) x.1 x.2.1).trans ?_
  kernel_rfl
theorem named : Named Try.prog 82 := named_of Try.func82 (by kernel_rfl) (by kernel_rfl)
end Go.Bx.paper_pen__bytes_s2
namespace Go.Bx.paper_pen__body_s0
open Go Go.Proofs Go.Bx
set_option maxRecDepth 100000
set_option linter.unusedVariables false
def Js : List Nat := []
def C : Ctx := ⟨[(3, (.int .i64)), (59, (.sl (.int .u8))), (69, (.arr 32 (.int .u8))), (76, (.pair (.int .i64) (.pair (.int .i64) (.pair (.int .i64) (.pair (.arr 32 (.int .u8)) (.pair (.int .i64) (.pair (.int .i64) (.pair (.sl (.int .u8)) .unit))))))))], [], [], fnL [], shL [(80, [.one Go.Bx.paper_pen__number_s2.Sp]), (82, [.one Go.Bx.paper_pen__bytes_s1.Sp, .one Go.Bx.paper_pen__bytes_s2.Sp])], [(7, 33), (11, 33), (15, 33), (19, 33), (23, 33), (27, 33), (31, 33)], invL [], [(2, [])], [], [], 2, 0⟩
def St0 (x1 : Int × Int × Int × List Int × Int × Int × List Int × Unit) (c1 : List Int) : St := stL 32 [(0, .ref 0 0 []), (1, .data (.pair (.int .i64) (.pair (.int .i64) (.pair (.int .i64) (.pair (.arr 32 (.int .u8)) (.pair (.int .i64) (.pair (.int .i64) (.pair (.sl (.int .u8)) .unit))))))) x1)] [(0, .cell (.pair (.sl (.int .u8)) .unit) (.agg (.pair (.sl (.int .u8)) .unit) [.app 1 0]) false), (1, .buf (.int .u8) c1 0 true)]
def St1 (c1 : List Int) : St := stL 32 [] [(0, .cell (.pair (.sl (.int .u8)) .unit) (.agg (.pair (.sl (.int .u8)) .unit) [.app 1 1]) false), (1, .buf (.int .u8) c1 1 true)]
def top {α : Type} (Rt : (List Int) → Option α) (x1 : Int × Int × Int × List Int × Int × Int × List Int × Unit) (c1 : List Int) : Option α :=
  (Go.Bx.paper_pen__number_s2.run x1.1 8 c1).bind fun y1 =>
  (Go.Bx.paper_pen__number_s2.run x1.2.1 4 y1.1).bind fun y2 =>
  (Go.Bx.paper_pen__number_s2.run x1.2.2.1 2 y2.1).bind fun y3 =>
  (Go.Bx.paper_pen__bytes_s1.run 0 32 x1 y3.1).bind fun y4 =>
  (Go.Bx.paper_pen__number_s2.run y4.1.2.2.2.2.1 8 y4.2.1).bind fun y5 =>
  (Go.Bx.paper_pen__number_s2.run y4.1.2.2.2.2.2.1 1 y5.1).bind fun y6 =>
  (Go.Bx.paper_pen__bytes_s2.run y4.1.2.2.2.2.2.2.1 y6.1).bind fun y7 =>
  Rt y7.1
theorem top_eq {α : Type} (k : Nat) (Q : Ex → St → Option α) (x1 : Int × Int × Int × List Int × Int × Int × List Int × Unit) (c1 : List Int) :
    (den C k) (cB Try.f83) (endQ C Q) (St0 x1 c1) = top (fun (c1 : List Int) => Q .ret (St1 c1)) x1 c1 := by
  have h : ∀ (D L : DT α), denJ D L Js C (cB Try.f83) (endQ C Q) (St0 x1 c1) =
        (Go.Bx.paper_pen__number_s2.run x1.1 8 c1).bind fun y1 =>
        (Go.Bx.paper_pen__number_s2.run x1.2.1 4 y1.1).bind fun y2 =>
        (Go.Bx.paper_pen__number_s2.run x1.2.2.1 2 y2.1).bind fun y3 =>
        (Go.Bx.paper_pen__bytes_s1.run 0 32 x1 y3.1).bind fun y4 =>
        (Go.Bx.paper_pen__number_s2.run y4.1.2.2.2.2.1 8 y4.2.1).bind fun y5 =>
        (Go.Bx.paper_pen__number_s2.run y4.1.2.2.2.2.2.1 1 y5.1).bind fun y6 =>
        (Go.Bx.paper_pen__bytes_s2.run y4.1.2.2.2.2.2.2.1 y6.1).bind fun y7 =>
        Q .ret (St1 y7.1) := by
    intro D L; kernel_rfl
  refine (show (den C k) (cB Try.f83) (endQ C Q) (St0 x1 c1) = denJ (den C k) (lp C k) Js C (cB Try.f83) (endQ C Q) (St0 x1 c1) from (denJ_den _ _ _ _ _ _).symm).trans ((h (den C k) (lp C k)).trans ?_)
  first | rfl | kernel_rfl
def run (x1 : Int × Int × Int × List Int × Int × Int × List Int × Unit) (c1 : List Int) : Option (List Int × Unit) := top (α := List Int × Unit) (fun (c1 : List Int) => some (c1, ())) x1 c1
def Sp : Spec := ⟨[.ref 0 0 [], hD (.pair (.int .i64) (.pair (.int .i64) (.pair (.int .i64) (.pair (.arr 32 (.int .u8)) (.pair (.int .i64) (.pair (.int .i64) (.pair (.sl (.int .u8)) .unit)))))))], [(0, hC (.pair (.sl (.int .u8)) .unit) (.agg (.pair (.sl (.int .u8)) .unit) [.app 1 0]) false), (1, hB (.int .u8) 0 true)], (.pair (.pair (.int .i64) (.pair (.int .i64) (.pair (.int .i64) (.pair (.arr 32 (.int .u8)) (.pair (.int .i64) (.pair (.int .i64) (.pair (.sl (.int .u8)) .unit))))))) (.pair (.sl (.int .u8)) .unit)), .tup [], [(0, hC (.pair (.sl (.int .u8)) .unit) (.agg (.pair (.sl (.int .u8)) .unit) [.app 1 1]) false), (1, hB (.int .u8) 1 true)], (.pair (.sl (.int .u8)) .unit), fun x => run x.1 x.2.1⟩
set_option maxRecDepth 100000 in
theorem sok : SOk Try.prog 83 Sp.h := by
  refine sok_of_den (C := C) (ctx_ok_sh (by kernel_rfl) (by kernel_rfl) (by kernel_rfl) (by kernel_rfl) trivial ⟨⟨⟨Go.Bx.paper_pen__number_s2.sok, trivial⟩, Go.Bx.paper_pen__number_s2.named⟩, ⟨⟨⟨Go.Bx.paper_pen__bytes_s1.sok, ⟨Go.Bx.paper_pen__bytes_s2.sok, trivial⟩⟩, Go.Bx.paper_pen__bytes_s1.named⟩, trivial⟩⟩) (by kernel_rfl) Try.func83 (c := cB Try.f83) (by kernel_rfl) (by kernel_rfl) Sp fuel (by kernel_rfl) (by kernel_rfl) ?_
  intro x r h
  rw [← h]
  have h1 : Sp.start x Try.f83.ntmps = (St0 x.1 x.2.1) := by kernel_rfl
  rw [h1]
  refine (top_eq fuel (finS C Try.f83.results.toList Sp.read) x.1 x.2.1).trans ?_
  kernel_rfl
theorem named : Named Try.prog 83 := named_of Try.func83 (by kernel_rfl) (by kernel_rfl)
end Go.Bx.paper_pen__body_s0
namespace Go.Bx.basculeref_bodyText
open Go Go.Proofs Go.Bx
set_option maxRecDepth 100000
set_option linter.unusedVariables false
def Js : List Nat := []
def C : Ctx := ⟨[(3, (.int .i64)), (9, .str), (54, (.int .u64)), (59, (.sl (.int .u8))), (69, (.arr 32 (.int .u8))), (76, (.pair (.int .i64) (.pair (.int .i64) (.pair (.int .i64) (.pair (.arr 32 (.int .u8)) (.pair (.int .i64) (.pair (.int .i64) (.pair (.sl (.int .u8)) .unit))))))))], [], [], fnL [(85, Go.Bx.basculeref_big.F)], noSh, [], invL [], [(2, [2])], [], [], 0, 0⟩
def St0 (x0 : Int × Int × Int × List Int × Int × Int × List Int × Unit) : St := stL 35 [(0, .data (.pair (.int .i64) (.pair (.int .i64) (.pair (.int .i64) (.pair (.arr 32 (.int .u8)) (.pair (.int .i64) (.pair (.int .i64) (.pair (.sl (.int .u8)) .unit))))))) x0)] []
def St1 (x2 : List Int) : St := stL 35 [(2, .data .str x2)] []
def top {α : Type} (Rt : (List Int) → Option α) (x0 : Int × Int × Int × List Int × Int × Int × List Int × Unit) : Option α :=
  (Go.Bx.basculeref_big.run (IntKind.u64.wrap x0.1) 8).bind fun y1 =>
  (Go.Bx.basculeref_big.run (IntKind.u64.wrap x0.2.1) 4).bind fun y2 =>
  if Nat.ble (y1.length + y2.length) 9223372036854775807 = true then
    (Go.Bx.basculeref_big.run (IntKind.u64.wrap x0.2.2.1) 2).bind fun y3 =>
    if Nat.ble ((y1 ++ y2).length + y3.length) 9223372036854775807 = true then
      if Nat.ble (((y1 ++ y2) ++ y3).length + (cutL x0.2.2.2.1 0 32).length) 9223372036854775807 = true then
        (Go.Bx.basculeref_big.run (IntKind.u64.wrap x0.2.2.2.2.1) 8).bind fun y4 =>
        if Nat.ble ((((y1 ++ y2) ++ y3) ++ (cutL x0.2.2.2.1 0 32)).length + y4.length) 9223372036854775807 = true then
          (Go.Bx.basculeref_big.run (IntKind.u64.wrap x0.2.2.2.2.2.1) 1).bind fun y5 =>
          if Nat.ble (((((y1 ++ y2) ++ y3) ++ (cutL x0.2.2.2.1 0 32)) ++ y4).length + y5.length) 9223372036854775807 = true then
            if Nat.ble ((((((y1 ++ y2) ++ y3) ++ (cutL x0.2.2.2.1 0 32)) ++ y4) ++ y5).length + x0.2.2.2.2.2.2.1.length) 9223372036854775807 = true then
              Rt ((((((y1 ++ y2) ++ y3) ++ (cutL x0.2.2.2.1 0 32)) ++ y4) ++ y5) ++ x0.2.2.2.2.2.2.1)
            else none
          else none
        else none
      else none
    else none
  else none
theorem top_eq {α : Type} (k : Nat) (Q : Ex → St → Option α) (x0 : Int × Int × Int × List Int × Int × Int × List Int × Unit) :
    (den C k) (cB Try.f87) Q (St0 x0) = top (fun (x2 : List Int) => Q .ret (St1 x2)) x0 := by
  have h : ∀ (D L : DT α), denJ D L Js C (cB Try.f87) Q (St0 x0) =
        (Go.Bx.basculeref_big.run (IntKind.u64.wrap x0.1) 8).bind fun y1 =>
        (Go.Bx.basculeref_big.run (IntKind.u64.wrap x0.2.1) 4).bind fun y2 =>
        if Nat.ble (y1.length + y2.length) 9223372036854775807 = true then
          (Go.Bx.basculeref_big.run (IntKind.u64.wrap x0.2.2.1) 2).bind fun y3 =>
          if Nat.ble ((y1 ++ y2).length + y3.length) 9223372036854775807 = true then
            if Nat.ble (((y1 ++ y2) ++ y3).length + (cutL x0.2.2.2.1 0 32).length) 9223372036854775807 = true then
              (Go.Bx.basculeref_big.run (IntKind.u64.wrap x0.2.2.2.2.1) 8).bind fun y4 =>
              if Nat.ble ((((y1 ++ y2) ++ y3) ++ (cutL x0.2.2.2.1 0 32)).length + y4.length) 9223372036854775807 = true then
                (Go.Bx.basculeref_big.run (IntKind.u64.wrap x0.2.2.2.2.2.1) 1).bind fun y5 =>
                if Nat.ble (((((y1 ++ y2) ++ y3) ++ (cutL x0.2.2.2.1 0 32)) ++ y4).length + y5.length) 9223372036854775807 = true then
                  if Nat.ble ((((((y1 ++ y2) ++ y3) ++ (cutL x0.2.2.2.1 0 32)) ++ y4) ++ y5).length + x0.2.2.2.2.2.2.1.length) 9223372036854775807 = true then
                    Q .ret (St1 ((((((y1 ++ y2) ++ y3) ++ (cutL x0.2.2.2.1 0 32)) ++ y4) ++ y5) ++ x0.2.2.2.2.2.2.1))
                  else none
                else none
              else none
            else none
          else none
        else none := by
    intro D L; kernel_rfl
  refine (show (den C k) (cB Try.f87) Q (St0 x0) = denJ (den C k) (lp C k) Js C (cB Try.f87) Q (St0 x0) from (denJ_den _ _ _ _ _ _).symm).trans ((h (den C k) (lp C k)).trans ?_)
  first | rfl | kernel_rfl
def run (x0 : Int × Int × Int × List Int × Int × Int × List Int × Unit) : Option (List Int) := top (α := List Int) (fun (x2 : List Int) => some x2) x0
def F : Fn := ⟨(.pair (.pair (.int .i64) (.pair (.int .i64) (.pair (.int .i64) (.pair (.arr 32 (.int .u8)) (.pair (.int .i64) (.pair (.int .i64) (.pair (.sl (.int .u8)) .unit))))))) .unit), .str, false, fun x => run x.1⟩
set_option maxRecDepth 100000 in
theorem con : Con Try.prog 87 F := by
  refine con_of_den (C := C) (ctx_ok (by kernel_rfl) (by kernel_rfl) (by kernel_rfl) (by kernel_rfl) ⟨.inl ⟨Go.Bx.basculeref_big.con, Go.Bx.basculeref_big.named⟩, trivial⟩) (by kernel_rfl) Try.func87 (c := cB Try.f87) (by kernel_rfl) (by kernel_rfl) F fuel (fun x => by simp [F, spread, Try.ntmps87]) ?_
  intro x r h
  rw [← h]
  have h1 : start F Try.f87.ntmps x = (St0 x.1) := by kernel_rfl
  rw [h1]
  refine (top_eq fuel (fin C Try.f87.results.toList F.rs F.multi) x.1).trans ?_
  kernel_rfl
theorem named : Named Try.prog 87 := named_of Try.func87 (by kernel_rfl) (by kernel_rfl)
end Go.Bx.basculeref_bodyText
namespace Go.Bx.paper_Encode
open Go Go.Proofs Go.Bx
set_option maxRecDepth 100000
set_option linter.unusedVariables false
def Js : List Nat := [18]
def C : Ctx := ⟨[(3, (.int .i64)), (23, (.int .i64)), (56, (.arr 4 (.int .u64))), (59, (.sl (.int .u8))), (69, (.arr 32 (.int .u8))), (74, (.sl (.pair (.int .i64) (.pair (.pair (.arr 4 (.int .u64)) (.pair (.arr 4 (.int .u64)) (.pair (.int .i64) .unit))) .unit)))), (76, (.pair (.int .i64) (.pair (.int .i64) (.pair (.int .i64) (.pair (.arr 32 (.int .u8)) (.pair (.int .i64) (.pair (.int .i64) (.pair (.sl (.int .u8)) .unit)))))))), (78, (.pair (.int .i64) (.pair (.sl (.pair (.int .i64) (.pair (.pair (.arr 4 (.int .u64)) (.pair (.arr 4 (.int .u64)) (.pair (.int .i64) .unit))) .unit))) (.pair (.pair (.int .i64) (.pair (.int .i64) (.pair (.int .i64) (.pair (.arr 32 (.int .u8)) (.pair (.int .i64) (.pair (.int .i64) (.pair (.sl (.int .u8)) .unit))))))) .unit)))), (136, (.pair (.sl (.int .u8)) .unit)), (139, (.pair (.arr 4 (.int .u64)) (.pair (.arr 4 (.int .u64)) (.pair (.int .i64) .unit)))), (141, (.pair (.int .i64) (.pair (.pair (.arr 4 (.int .u64)) (.pair (.arr 4 (.int .u64)) (.pair (.int .i64) .unit))) .unit)))], [], [], fnL [(79, Go.Bx.paper_fault.F), (81, Go.Bx.wide_Bytes.F)], shL [(80, [.one Go.Bx.paper_pen__number_s1.Sp, .one Go.Bx.paper_pen__number_s2.Sp]), (82, [.one Go.Bx.paper_pen__bytes_s0.Sp]), (83, [.one Go.Bx.paper_pen__body_s0.Sp])], [(18, 68), (22, 69), (27, 69), (46, 69), (49, 69), (52, 69), (57, 69), (62, 69)], invL [], [(2, [2, 3]), (1, [1, 5]), (4, [1, 5, 29, 30, 31]), (27, [1, 5, 29, 30, 31]), (51, [1, 5])], [(2, [.dat true 2 []])], [], 0, 0⟩
def St0 (x0 : Int × List (Int × (List Int × List Int × Int × Unit) × Unit) × (Int × Int × Int × List Int × Int × Int × List Int × Unit) × Unit) : St := stL 67 [(0, .data (.pair (.int .i64) (.pair (.sl (.pair (.int .i64) (.pair (.pair (.arr 4 (.int .u64)) (.pair (.arr 4 (.int .u64)) (.pair (.int .i64) .unit))) .unit))) (.pair (.pair (.int .i64) (.pair (.int .i64) (.pair (.int .i64) (.pair (.arr 32 (.int .u8)) (.pair (.int .i64) (.pair (.int .i64) (.pair (.sl (.int .u8)) .unit))))))) .unit))) x0)] []
def St1 (x2 : List Int) (x3 : Int) : St := stL 67 [(2, .data (.sl (.int .u8)) x2), (3, .data (.int .i64) x3)] []
def St2 (x29 : List (Int × (List Int × List Int × Int × Unit) × Unit)) (x30 : Int) (x31 : Int) (c1 : Int × List (Int × (List Int × List Int × Int × Unit) × Unit) × (Int × Int × Int × List Int × Int × Int × List Int × Unit) × Unit) (c68 : List Int) : St := stL 67 [(1, .ref 1 0 []), (5, .ref 16 0 []), (29, .data (.sl (.pair (.int .i64) (.pair (.pair (.arr 4 (.int .u64)) (.pair (.arr 4 (.int .u64)) (.pair (.int .i64) .unit))) .unit))) x29), (30, .data (.int .i64) x30), (31, .data (.int .i64) x31)] [(1, .cell (.pair (.int .i64) (.pair (.sl (.pair (.int .i64) (.pair (.pair (.arr 4 (.int .u64)) (.pair (.arr 4 (.int .u64)) (.pair (.int .i64) .unit))) .unit))) (.pair (.pair (.int .i64) (.pair (.int .i64) (.pair (.int .i64) (.pair (.arr 32 (.int .u8)) (.pair (.int .i64) (.pair (.int .i64) (.pair (.sl (.int .u8)) .unit))))))) .unit))) (.data (.pair (.int .i64) (.pair (.sl (.pair (.int .i64) (.pair (.pair (.arr 4 (.int .u64)) (.pair (.arr 4 (.int .u64)) (.pair (.int .i64) .unit))) .unit))) (.pair (.pair (.int .i64) (.pair (.int .i64) (.pair (.int .i64) (.pair (.arr 32 (.int .u8)) (.pair (.int .i64) (.pair (.int .i64) (.pair (.sl (.int .u8)) .unit))))))) .unit))) c1) false), (16, .cell (.pair (.sl (.int .u8)) .unit) (.agg (.pair (.sl (.int .u8)) .unit) [.app 68 0]) false), (68, .buf (.int .u8) c68 0 true)]
noncomputable def cd0 : Code := cL (cL (cR (cL (cR (cR (cR (cR (cR (cR (cB Try.f43))))))))))
def St3 (c1 : Int × List (Int × (List Int × List Int × Int × Unit) × Unit) × (Int × Int × Int × List Int × Int × Int × List Int × Unit) × Unit) (c68 : List Int) : St := stL 67 [(1, .ref 1 0 []), (5, .ref 16 0 [])] [(1, .cell (.pair (.int .i64) (.pair (.sl (.pair (.int .i64) (.pair (.pair (.arr 4 (.int .u64)) (.pair (.arr 4 (.int .u64)) (.pair (.int .i64) .unit))) .unit))) (.pair (.pair (.int .i64) (.pair (.int .i64) (.pair (.int .i64) (.pair (.arr 32 (.int .u8)) (.pair (.int .i64) (.pair (.int .i64) (.pair (.sl (.int .u8)) .unit))))))) .unit))) (.data (.pair (.int .i64) (.pair (.sl (.pair (.int .i64) (.pair (.pair (.arr 4 (.int .u64)) (.pair (.arr 4 (.int .u64)) (.pair (.int .i64) .unit))) .unit))) (.pair (.pair (.int .i64) (.pair (.int .i64) (.pair (.int .i64) (.pair (.arr 32 (.int .u8)) (.pair (.int .i64) (.pair (.int .i64) (.pair (.sl (.int .u8)) .unit))))))) .unit))) c1) false), (16, .cell (.pair (.sl (.int .u8)) .unit) (.agg (.pair (.sl (.int .u8)) .unit) [.app 68 0]) false), (68, .buf (.int .u8) c68 0 true)]
def l0s {α : Type} (Nx : (List (Int × (List Int × List Int × Int × Unit) × Unit)) → Int → Int → (Int × List (Int × (List Int × List Int × Int × Unit) × Unit) × (Int × Int × Int × List Int × Int × Int × List Int × Unit) × Unit) → (List Int) → Option α) (Xt0 : (Int × List (Int × (List Int × List Int × Int × Unit) × Unit) × (Int × Int × Int × List Int × Int × Int × List Int × Unit) × Unit) → (List Int) → Option α) (x29 : List (Int × (List Int × List Int × Int × Unit) × Unit)) (x30 : Int) (x31 : Int) (c1 : Int × List (Int × (List Int × List Int × Int × Unit) × Unit) × (Int × Int × Int × List Int × Int × Int × List Int × Unit) × Unit) (c68 : List Int) : Option α :=
  if (decide (x31 < x30)) = true then
    if 0 ≤ x31 ∧ x31 < (x29.length : Int) then
      (Go.Bx.wide_Bytes.run (List.getD x29 (Int.toNat x31) (0, ([0, 0, 0, 0], [0, 0, 0, 0], 0, ()), ())).2.1.1).bind fun y5 =>
      (Go.Bx.wide_Bytes.run (List.getD x29 (Int.toNat x31) (0, ([0, 0, 0, 0], [0, 0, 0, 0], 0, ()), ())).2.1.2.1).bind fun y6 =>
      (Go.Bx.paper_pen__number_s2.run (List.getD x29 (Int.toNat x31) (0, ([0, 0, 0, 0], [0, 0, 0, 0], 0, ()), ())).1 1 c68).bind fun y7 =>
      (Go.Bx.paper_pen__bytes_s0.run 0 32 y5 y7.1).bind fun y8 =>
      (Go.Bx.paper_pen__bytes_s0.run 0 32 y6 y8.2.1).bind fun y9 =>
      (Go.Bx.paper_pen__number_s2.run (List.getD x29 (Int.toNat x31) (0, ([0, 0, 0, 0], [0, 0, 0, 0], 0, ()), ())).2.1.2.2.1 1 y9.2.1).bind fun y10 =>
      Nx x29 x30 (IntKind.i64.wrap (x31 + 1)) c1 y10.1
    else none
  else
    Xt0 c1 c68
theorem l0s_eq {α : Type} (k : Nat) (next : St → Option α) (Q : Ex → St → Option α) (x29 : List (Int × (List Int × List Int × Int × Unit) × Unit)) (x30 : Int) (x31 : Int) (c1 : Int × List (Int × (List Int × List Int × Int × Unit) × Unit) × (Int × Int × Int × List Int × Int × Int × List Int × Unit) × Unit) (c68 : List Int) :
    rnd C k cd0 27 Q next (St2 x29 x30 x31 c1 c68) = l0s (fun (x29 : List (Int × (List Int × List Int × Int × Unit) × Unit)) (x30 : Int) (x31 : Int) (c1 : Int × List (Int × (List Int × List Int × Int × Unit) × Unit) × (Int × Int × Int × List Int × Int × Int × List Int × Unit) × Unit) (c68 : List Int) => next (St2 x29 x30 x31 c1 c68)) (fun (c1 : Int × List (Int × (List Int × List Int × Int × Unit) × Unit) × (Int × Int × Int × List Int × Int × Int × List Int × Unit) × Unit) (c68 : List Int) => Q (.exit 0) (St3 c1 c68)) x29 x30 x31 c1 c68 := by
  have h : ∀ (D L : DT α), denJ D L Js C cd0 (lq C 27 next Q) (St2 x29 x30 x31 c1 c68) =
        if (decide (x31 < x30)) = true then
          if 0 ≤ x31 ∧ x31 < (x29.length : Int) then
            (Go.Bx.wide_Bytes.run (List.getD x29 (Int.toNat x31) (0, ([0, 0, 0, 0], [0, 0, 0, 0], 0, ()), ())).2.1.1).bind fun y5 =>
            (Go.Bx.wide_Bytes.run (List.getD x29 (Int.toNat x31) (0, ([0, 0, 0, 0], [0, 0, 0, 0], 0, ()), ())).2.1.2.1).bind fun y6 =>
            (Go.Bx.paper_pen__number_s2.run (List.getD x29 (Int.toNat x31) (0, ([0, 0, 0, 0], [0, 0, 0, 0], 0, ()), ())).1 1 c68).bind fun y7 =>
            (Go.Bx.paper_pen__bytes_s0.run 0 32 y5 y7.1).bind fun y8 =>
            (Go.Bx.paper_pen__bytes_s0.run 0 32 y6 y8.2.1).bind fun y9 =>
            (Go.Bx.paper_pen__number_s2.run (List.getD x29 (Int.toNat x31) (0, ([0, 0, 0, 0], [0, 0, 0, 0], 0, ()), ())).2.1.2.2.1 1 y9.2.1).bind fun y10 =>
            next (St2 x29 x30 (IntKind.i64.wrap (x31 + 1)) c1 y10.1)
          else none
        else
          Q (.exit 0) (St3 c1 c68) := by
    intro D L; kernel_rfl
  refine (show rnd C k cd0 27 Q next (St2 x29 x30 x31 c1 c68) = denJ (den C k) (lp C k) Js C cd0 (lq C 27 next Q) (St2 x29 x30 x31 c1 c68) from (denJ_den _ _ _ _ _ _).symm).trans ((h (den C k) (lp C k)).trans ?_)
  first | rfl | kernel_rfl
def l0 {α : Type} (k : Nat) (Xt0 : (Int × List (Int × (List Int × List Int × Int × Unit) × Unit) × (Int × Int × Int × List Int × Int × Int × List Int × Unit) × Unit) → (List Int) → Option α) : Nat → (List (Int × (List Int × List Int × Int × Unit) × Unit)) → Int → Int → (Int × List (Int × (List Int × List Int × Int × Unit) × Unit) × (Int × Int × Int × List Int × Int × Int × List Int × Unit) × Unit) → (List Int) → Option α
  | 0, _, _, _, _, _ => none
  | n + 1, x29, x30, x31, c1, c68 => l0s (l0 k Xt0 n) Xt0 x29 x30 x31 c1 c68
theorem l0_eq {α : Type} (k : Nat) (Q : Ex → St → Option α) : ∀ (n : Nat) (x29 : List (Int × (List Int × List Int × Int × Unit) × Unit)) (x30 : Int) (x31 : Int) (c1 : Int × List (Int × (List Int × List Int × Int × Unit) × Unit) × (Int × Int × Int × List Int × Int × Int × List Int × Unit) × Unit) (c68 : List Int), iter (rnd C k cd0 27 Q) n (St2 x29 x30 x31 c1 c68) = l0 k (fun (c1 : Int × List (Int × (List Int × List Int × Int × Unit) × Unit) × (Int × Int × Int × List Int × Int × Int × List Int × Unit) × Unit) (c68 : List Int) => Q (.exit 0) (St3 c1 c68)) n x29 x30 x31 c1 c68
  | 0, _, _, _, _, _ => rfl
  | n + 1, x29, x30, x31, c1, c68 => (iter_succ _ _ _).trans ((l0s_eq k (iter (rnd C k cd0 27 Q) n) Q x29 x30 x31 c1 c68).trans (congrArg (fun N => l0s N (fun (c1 : Int × List (Int × (List Int × List Int × Int × Unit) × Unit) × (Int × Int × Int × List Int × Int × Int × List Int × Unit) × Unit) (c68 : List Int) => Q (.exit 0) (St3 c1 c68)) x29 x30 x31 c1 c68) (funext fun x29 => funext fun x30 => funext fun x31 => funext fun c1 => funext fun c68 => l0_eq k Q n x29 x30 x31 c1 c68)))
theorem l0_congr {α : Type} (k : Nat) (Xt0 : (Int × List (Int × (List Int × List Int × Int × Unit) × Unit) × (Int × Int × Int × List Int × Int × Int × List Int × Unit) × Unit) → (List Int) → Option α) (Xt0q : (Int × List (Int × (List Int × List Int × Int × Unit) × Unit) × (Int × Int × Int × List Int × Int × Int × List Int × Unit) × Unit) → (List Int) → Option α) (hXt0 : ∀ (c1 : Int × List (Int × (List Int × List Int × Int × Unit) × Unit) × (Int × Int × Int × List Int × Int × Int × List Int × Unit) × Unit) (c68 : List Int), Xt0 c1 c68 = Xt0q c1 c68) (n : Nat) (x29 : List (Int × (List Int × List Int × Int × Unit) × Unit)) (x30 : Int) (x31 : Int) (c1 : Int × List (Int × (List Int × List Int × Int × Unit) × Unit) × (Int × Int × Int × List Int × Int × Int × List Int × Unit) × Unit) (c68 : List Int) : l0 k Xt0 n x29 x30 x31 c1 c68 = l0 k Xt0q n x29 x30 x31 c1 c68 := by
  obtain rfl : Xt0 = Xt0q := by funext c1; funext c68; exact hXt0 c1 c68
  rfl
noncomputable def cd1 : Code := cR (cR (cR (cR (cR (cR (cR (cB Try.f43)))))))
def St4 (c1 : Int × List (Int × (List Int × List Int × Int × Unit) × Unit) × (Int × Int × Int × List Int × Int × Int × List Int × Unit) × Unit) (c68 : List Int) : St := stL 67 [(1, .ref 1 0 []), (5, .ref 16 0 [])] [(1, .cell (.pair (.int .i64) (.pair (.sl (.pair (.int .i64) (.pair (.pair (.arr 4 (.int .u64)) (.pair (.arr 4 (.int .u64)) (.pair (.int .i64) .unit))) .unit))) (.pair (.pair (.int .i64) (.pair (.int .i64) (.pair (.int .i64) (.pair (.arr 32 (.int .u8)) (.pair (.int .i64) (.pair (.int .i64) (.pair (.sl (.int .u8)) .unit))))))) .unit))) (.data (.pair (.int .i64) (.pair (.sl (.pair (.int .i64) (.pair (.pair (.arr 4 (.int .u64)) (.pair (.arr 4 (.int .u64)) (.pair (.int .i64) .unit))) .unit))) (.pair (.pair (.int .i64) (.pair (.int .i64) (.pair (.int .i64) (.pair (.arr 32 (.int .u8)) (.pair (.int .i64) (.pair (.int .i64) (.pair (.sl (.int .u8)) .unit))))))) .unit))) c1) false), (16, .cell (.pair (.sl (.int .u8)) .unit) (.agg (.pair (.sl (.int .u8)) .unit) [.app 68 0]) false), (68, .buf (.int .u8) c68 0 true)]
def j0 {α : Type} (Rt : (List Int) → Int → Option α) (c1 : Int × List (Int × (List Int × List Int × Int × Unit) × Unit) × (Int × Int × Int × List Int × Int × Int × List Int × Unit) × Unit) (c68 : List Int) : Option α :=
  (Go.Bx.paper_pen__body_s0.run c1.2.2.1 c68).bind fun y11 =>
  Rt y11.1 0
theorem j0_eq {α : Type} (k : Nat) (Q : Ex → St → Option α) (c1 : Int × List (Int × (List Int × List Int × Int × Unit) × Unit) × (Int × Int × Int × List Int × Int × Int × List Int × Unit) × Unit) (c68 : List Int) :
    (den C k) cd1 Q (St4 c1 c68) = j0 (fun (x2 : List Int) (x3 : Int) => Q .ret (St1 x2 x3)) c1 c68 := by
  have h : ∀ (D L : DT α), denJ D L Js C cd1 Q (St4 c1 c68) =
        (Go.Bx.paper_pen__body_s0.run c1.2.2.1 c68).bind fun y11 =>
        Q .ret (St1 y11.1 0) := by
    intro D L; kernel_rfl
  refine (show (den C k) cd1 Q (St4 c1 c68) = denJ (den C k) (lp C k) Js C cd1 Q (St4 c1 c68) from (denJ_den _ _ _ _ _ _).symm).trans ((h (den C k) (lp C k)).trans ?_)
  first | rfl | kernel_rfl
theorem a0 {α : Type} (k : Nat) (Q : Ex → St → Option α) (x29 : List (Int × (List Int × List Int × Int × Unit) × Unit)) (x30 : Int) (x31 : Int) (c1 : Int × List (Int × (List Int × List Int × Int × Unit) × Unit) × (Int × Int × Int × List Int × Int × Int × List Int × Unit) × Unit) (c68 : List Int) :
    (lp C k) cd0 (blkQ C 0 (sq (den C k) (lp C k) Js C cd1 Q)) (St2 x29 x30 x31 c1 c68) = l0 k (fun (c1 : Int × List (Int × (List Int × List Int × Int × Unit) × Unit) × (Int × Int × Int × List Int × Int × Int × List Int × Unit) × Unit) (c68 : List Int) => j0 (fun (x2 : List Int) (x3 : Int) => Q .ret (St1 x2 x3)) c1 c68) k x29 x30 x31 c1 c68 :=
  (show (lp C k) cd0 (blkQ C 0 (sq (den C k) (lp C k) Js C cd1 Q)) (St2 x29 x30 x31 c1 c68) = iter (rnd C k cd0 27 (blkQ C 0 (sq (den C k) (lp C k) Js C cd1 Q))) k (St2 x29 x30 x31 c1 c68) by kernel_rfl).trans ((l0_eq k (blkQ C 0 (sq (den C k) (lp C k) Js C cd1 Q)) k x29 x30 x31 c1 c68).trans (l0_congr k _ _ (fun c1 c68 => ((show (blkQ C 0 (sq (den C k) (lp C k) Js C cd1 Q)) (.exit 0) (St3 c1 c68) = (den C k) cd1 Q (St4 c1 c68) by kernel_rfl).trans (by simp only [j0_eq]))) k x29 x30 x31 c1 c68))
def top {α : Type} (k : Nat) (Rt : (List Int) → Int → Option α) (x0 : Int × List (Int × (List Int × List Int × Int × Unit) × Unit) × (Int × Int × Int × List Int × Int × Int × List Int × Unit) × Unit) : Option α :=
  (Go.Bx.paper_fault.run x0).bind fun y1 =>
  if (y1 != 0) = true then
    Rt [] y1
  else
    (Go.Bx.paper_pen__number_s1.run 1 1 []).bind fun y2 =>
    (Go.Bx.paper_pen__number_s2.run x0.1 4 y2.1).bind fun y3 =>
    (Go.Bx.paper_pen__number_s2.run (x0.2.1.length : Int) 1 y3.1).bind fun y4 =>
    l0 k (fun (c1 : Int × List (Int × (List Int × List Int × Int × Unit) × Unit) × (Int × Int × Int × List Int × Int × Int × List Int × Unit) × Unit) (c68 : List Int) => j0 Rt c1 c68) k x0.2.1 (x0.2.1.length : Int) 0 x0 y4.1
theorem top_eq {α : Type} (k : Nat) (Q : Ex → St → Option α) (x0 : Int × List (Int × (List Int × List Int × Int × Unit) × Unit) × (Int × Int × Int × List Int × Int × Int × List Int × Unit) × Unit) :
    (den C k) (cB Try.f43) Q (St0 x0) = top k (fun (x2 : List Int) (x3 : Int) => Q .ret (St1 x2 x3)) x0 := by
  have h : ∀ (D L : DT α), denJ D L Js C (cB Try.f43) Q (St0 x0) =
        (Go.Bx.paper_fault.run x0).bind fun y1 =>
        if (y1 != 0) = true then
          Q .ret (St1 [] y1)
        else
          (Go.Bx.paper_pen__number_s1.run 1 1 []).bind fun y2 =>
          (Go.Bx.paper_pen__number_s2.run x0.1 4 y2.1).bind fun y3 =>
          (Go.Bx.paper_pen__number_s2.run (x0.2.1.length : Int) 1 y3.1).bind fun y4 =>
          L cd0 (blkQ C 0 (sq D L Js C cd1 Q)) (St2 x0.2.1 (x0.2.1.length : Int) 0 x0 y4.1) := by
    intro D L; kernel_rfl
  refine (show (den C k) (cB Try.f43) Q (St0 x0) = denJ (den C k) (lp C k) Js C (cB Try.f43) Q (St0 x0) from (denJ_den _ _ _ _ _ _).symm).trans ((h (den C k) (lp C k)).trans ?_)
  simp only [a0]
  first | rfl | kernel_rfl
def run (x0 : Int × List (Int × (List Int × List Int × Int × Unit) × Unit) × (Int × Int × Int × List Int × Int × Int × List Int × Unit) × Unit) : Option (List Int × Int × Unit) := top (α := List Int × Int × Unit) fuel (fun (x2 : List Int) (x3 : Int) => some (x2, x3, ())) x0
def F : Fn := ⟨(.pair (.pair (.int .i64) (.pair (.sl (.pair (.int .i64) (.pair (.pair (.arr 4 (.int .u64)) (.pair (.arr 4 (.int .u64)) (.pair (.int .i64) .unit))) .unit))) (.pair (.pair (.int .i64) (.pair (.int .i64) (.pair (.int .i64) (.pair (.arr 32 (.int .u8)) (.pair (.int .i64) (.pair (.int .i64) (.pair (.sl (.int .u8)) .unit))))))) .unit))) .unit), (.pair (.sl (.int .u8)) (.pair (.int .i64) .unit)), true, fun x => run x.1⟩
set_option maxRecDepth 100000 in
theorem con : Con Try.prog 43 F := by
  refine con_of_den (C := C) (ctx_ok_sh (by kernel_rfl) (by kernel_rfl) (by kernel_rfl) (by kernel_rfl) ⟨.inl ⟨Go.Bx.paper_fault.con, Go.Bx.paper_fault.named⟩, ⟨.inl ⟨Go.Bx.wide_Bytes.con, Go.Bx.wide_Bytes.named⟩, trivial⟩⟩ ⟨⟨⟨Go.Bx.paper_pen__number_s1.sok, ⟨Go.Bx.paper_pen__number_s2.sok, trivial⟩⟩, Go.Bx.paper_pen__number_s1.named⟩, ⟨⟨⟨Go.Bx.paper_pen__bytes_s0.sok, trivial⟩, Go.Bx.paper_pen__bytes_s0.named⟩, ⟨⟨⟨Go.Bx.paper_pen__body_s0.sok, trivial⟩, Go.Bx.paper_pen__body_s0.named⟩, trivial⟩⟩⟩) (by kernel_rfl) Try.func43 (c := cB Try.f43) (by kernel_rfl) (by kernel_rfl) F fuel (fun x => by simp [F, spread, Try.ntmps43]) ?_
  intro x r h
  rw [← h]
  have h1 : start F Try.f43.ntmps x = (St0 x.1) := by kernel_rfl
  rw [h1]
  refine (top_eq fuel (fin C Try.f43.results.toList F.rs F.multi) x.1).trans ?_
  kernel_rfl
theorem named : Named Try.prog 43 := named_of Try.func43 (by kernel_rfl) (by kernel_rfl)
end Go.Bx.paper_Encode
namespace Go.Bx.basculeref_PaperBytes
open Go Go.Proofs Go.Bx
set_option maxRecDepth 100000
set_option linter.unusedVariables false
def Js : List Nat := [11]
def C : Ctx := ⟨[(3, (.int .i64)), (9, .str), (23, (.int .i64)), (54, (.int .u64)), (56, (.arr 4 (.int .u64))), (59, (.sl (.int .u8))), (74, (.sl (.pair (.int .i64) (.pair (.pair (.arr 4 (.int .u64)) (.pair (.arr 4 (.int .u64)) (.pair (.int .i64) .unit))) .unit)))), (76, (.pair (.int .i64) (.pair (.int .i64) (.pair (.int .i64) (.pair (.arr 32 (.int .u8)) (.pair (.int .i64) (.pair (.int .i64) (.pair (.sl (.int .u8)) .unit)))))))), (78, (.pair (.int .i64) (.pair (.sl (.pair (.int .i64) (.pair (.pair (.arr 4 (.int .u64)) (.pair (.arr 4 (.int .u64)) (.pair (.int .i64) .unit))) .unit))) (.pair (.pair (.int .i64) (.pair (.int .i64) (.pair (.int .i64) (.pair (.arr 32 (.int .u8)) (.pair (.int .i64) (.pair (.int .i64) (.pair (.sl (.int .u8)) .unit))))))) .unit)))), (139, (.pair (.arr 4 (.int .u64)) (.pair (.arr 4 (.int .u64)) (.pair (.int .i64) .unit)))), (141, (.pair (.int .i64) (.pair (.pair (.arr 4 (.int .u64)) (.pair (.arr 4 (.int .u64)) (.pair (.int .i64) .unit))) .unit)))], [], [], fnL [(84, Go.Bx.basculeref_PaperFault.F), (85, Go.Bx.basculeref_big.F), (86, Go.Bx.basculeref_text.F), (87, Go.Bx.basculeref_bodyText.F)], noSh, [], invL [], [(2, [2, 3]), (1, [1, 5]), (4, [1, 5, 25, 26, 27]), (18, [1, 5, 25, 26, 27]), (30, [1, 5])], [(2, [.dat true 2 []])], [], 0, 0⟩
def St0 (x0 : Int × List (Int × (List Int × List Int × Int × Unit) × Unit) × (Int × Int × Int × List Int × Int × Int × List Int × Unit) × Unit) : St := stL 60 [(0, .data (.pair (.int .i64) (.pair (.sl (.pair (.int .i64) (.pair (.pair (.arr 4 (.int .u64)) (.pair (.arr 4 (.int .u64)) (.pair (.int .i64) .unit))) .unit))) (.pair (.pair (.int .i64) (.pair (.int .i64) (.pair (.int .i64) (.pair (.arr 32 (.int .u8)) (.pair (.int .i64) (.pair (.int .i64) (.pair (.sl (.int .u8)) .unit))))))) .unit))) x0)] []
def St1 (x2 : List Int) (x3 : Int) : St := stL 60 [(2, .data (.sl (.int .u8)) x2), (3, .data (.int .i64) x3)] []
def St2 (x5 : List Int) (x25 : List (Int × (List Int × List Int × Int × Unit) × Unit)) (x26 : Int) (x27 : Int) (c1 : Int × List (Int × (List Int × List Int × Int × Unit) × Unit) × (Int × Int × Int × List Int × Int × Int × List Int × Unit) × Unit) : St := stL 60 [(1, .ref 1 0 []), (5, .data .str x5), (25, .data (.sl (.pair (.int .i64) (.pair (.pair (.arr 4 (.int .u64)) (.pair (.arr 4 (.int .u64)) (.pair (.int .i64) .unit))) .unit))) x25), (26, .data (.int .i64) x26), (27, .data (.int .i64) x27)] [(1, .cell (.pair (.int .i64) (.pair (.sl (.pair (.int .i64) (.pair (.pair (.arr 4 (.int .u64)) (.pair (.arr 4 (.int .u64)) (.pair (.int .i64) .unit))) .unit))) (.pair (.pair (.int .i64) (.pair (.int .i64) (.pair (.int .i64) (.pair (.arr 32 (.int .u8)) (.pair (.int .i64) (.pair (.int .i64) (.pair (.sl (.int .u8)) .unit))))))) .unit))) (.data (.pair (.int .i64) (.pair (.sl (.pair (.int .i64) (.pair (.pair (.arr 4 (.int .u64)) (.pair (.arr 4 (.int .u64)) (.pair (.int .i64) .unit))) .unit))) (.pair (.pair (.int .i64) (.pair (.int .i64) (.pair (.int .i64) (.pair (.arr 32 (.int .u8)) (.pair (.int .i64) (.pair (.int .i64) (.pair (.sl (.int .u8)) .unit))))))) .unit))) c1) false)]
noncomputable def cd0 : Code := cL (cL (cR (cL (cR (cR (cR (cB Try.f44)))))))
def St3 (x5 : List Int) (c1 : Int × List (Int × (List Int × List Int × Int × Unit) × Unit) × (Int × Int × Int × List Int × Int × Int × List Int × Unit) × Unit) : St := stL 60 [(1, .ref 1 0 []), (5, .data .str x5)] [(1, .cell (.pair (.int .i64) (.pair (.sl (.pair (.int .i64) (.pair (.pair (.arr 4 (.int .u64)) (.pair (.arr 4 (.int .u64)) (.pair (.int .i64) .unit))) .unit))) (.pair (.pair (.int .i64) (.pair (.int .i64) (.pair (.int .i64) (.pair (.arr 32 (.int .u8)) (.pair (.int .i64) (.pair (.int .i64) (.pair (.sl (.int .u8)) .unit))))))) .unit))) (.data (.pair (.int .i64) (.pair (.sl (.pair (.int .i64) (.pair (.pair (.arr 4 (.int .u64)) (.pair (.arr 4 (.int .u64)) (.pair (.int .i64) .unit))) .unit))) (.pair (.pair (.int .i64) (.pair (.int .i64) (.pair (.int .i64) (.pair (.arr 32 (.int .u8)) (.pair (.int .i64) (.pair (.int .i64) (.pair (.sl (.int .u8)) .unit))))))) .unit))) c1) false)]
def l0s {α : Type} (Nx : (List Int) → (List (Int × (List Int × List Int × Int × Unit) × Unit)) → Int → Int → (Int × List (Int × (List Int × List Int × Int × Unit) × Unit) × (Int × Int × Int × List Int × Int × Int × List Int × Unit) × Unit) → Option α) (Xt0 : (List Int) → (Int × List (Int × (List Int × List Int × Int × Unit) × Unit) × (Int × Int × Int × List Int × Int × Int × List Int × Unit) × Unit) → Option α) (x5 : List Int) (x25 : List (Int × (List Int × List Int × Int × Unit) × Unit)) (x26 : Int) (x27 : Int) (c1 : Int × List (Int × (List Int × List Int × Int × Unit) × Unit) × (Int × Int × Int × List Int × Int × Int × List Int × Unit) × Unit) : Option α :=
  if (decide (x27 < x26)) = true then
    if 0 ≤ x27 ∧ x27 < (x25.length : Int) then
      (Go.Bx.basculeref_big.run (IntKind.u64.wrap (List.getD x25 (Int.toNat x27) (0, ([0, 0, 0, 0], [0, 0, 0, 0], 0, ()), ())).1) 1).bind fun y4 =>
      (Go.Bx.basculeref_text.run (List.getD x25 (Int.toNat x27) (0, ([0, 0, 0, 0], [0, 0, 0, 0], 0, ()), ())).2.1.1).bind fun y5 =>
      if Nat.ble (y4.length + y5.length) 9223372036854775807 = true then
        (Go.Bx.basculeref_text.run (List.getD x25 (Int.toNat x27) (0, ([0, 0, 0, 0], [0, 0, 0, 0], 0, ()), ())).2.1.2.1).bind fun y6 =>
        if Nat.ble ((y4 ++ y5).length + y6.length) 9223372036854775807 = true then
          (Go.Bx.basculeref_big.run (IntKind.u64.wrap (List.getD x25 (Int.toNat x27) (0, ([0, 0, 0, 0], [0, 0, 0, 0], 0, ()), ())).2.1.2.2.1) 1).bind fun y7 =>
          if Nat.ble (((y4 ++ y5) ++ y6).length + y7.length) 9223372036854775807 = true then
            if Nat.ble (x5.length + (((y4 ++ y5) ++ y6) ++ y7).length) 9223372036854775807 = true then
              Nx (x5 ++ (((y4 ++ y5) ++ y6) ++ y7)) x25 x26 (IntKind.i64.wrap (x27 + 1)) c1
            else none
          else none
        else none
      else none
    else none
  else
    Xt0 x5 c1
theorem l0s_eq {α : Type} (k : Nat) (next : St → Option α) (Q : Ex → St → Option α) (x5 : List Int) (x25 : List (Int × (List Int × List Int × Int × Unit) × Unit)) (x26 : Int) (x27 : Int) (c1 : Int × List (Int × (List Int × List Int × Int × Unit) × Unit) × (Int × Int × Int × List Int × Int × Int × List Int × Unit) × Unit) :
    rnd C k cd0 18 Q next (St2 x5 x25 x26 x27 c1) = l0s (fun (x5 : List Int) (x25 : List (Int × (List Int × List Int × Int × Unit) × Unit)) (x26 : Int) (x27 : Int) (c1 : Int × List (Int × (List Int × List Int × Int × Unit) × Unit) × (Int × Int × Int × List Int × Int × Int × List Int × Unit) × Unit) => next (St2 x5 x25 x26 x27 c1)) (fun (x5 : List Int) (c1 : Int × List (Int × (List Int × List Int × Int × Unit) × Unit) × (Int × Int × Int × List Int × Int × Int × List Int × Unit) × Unit) => Q (.exit 0) (St3 x5 c1)) x5 x25 x26 x27 c1 := by
  have h : ∀ (D L : DT α), denJ D L Js C cd0 (lq C 18 next Q) (St2 x5 x25 x26 x27 c1) =
        if (decide (x27 < x26)) = true then
          if 0 ≤ x27 ∧ x27 < (x25.length : Int) then
            (Go.Bx.basculeref_big.run (IntKind.u64.wrap (List.getD x25 (Int.toNat x27) (0, ([0, 0, 0, 0], [0, 0, 0, 0], 0, ()), ())).1) 1).bind fun y4 =>
            (Go.Bx.basculeref_text.run (List.getD x25 (Int.toNat x27) (0, ([0, 0, 0, 0], [0, 0, 0, 0], 0, ()), ())).2.1.1).bind fun y5 =>
            if Nat.ble (y4.length + y5.length) 9223372036854775807 = true then
              (Go.Bx.basculeref_text.run (List.getD x25 (Int.toNat x27) (0, ([0, 0, 0, 0], [0, 0, 0, 0], 0, ()), ())).2.1.2.1).bind fun y6 =>
              if Nat.ble ((y4 ++ y5).length + y6.length) 9223372036854775807 = true then
                (Go.Bx.basculeref_big.run (IntKind.u64.wrap (List.getD x25 (Int.toNat x27) (0, ([0, 0, 0, 0], [0, 0, 0, 0], 0, ()), ())).2.1.2.2.1) 1).bind fun y7 =>
                if Nat.ble (((y4 ++ y5) ++ y6).length + y7.length) 9223372036854775807 = true then
                  if Nat.ble (x5.length + (((y4 ++ y5) ++ y6) ++ y7).length) 9223372036854775807 = true then
                    next (St2 (x5 ++ (((y4 ++ y5) ++ y6) ++ y7)) x25 x26 (IntKind.i64.wrap (x27 + 1)) c1)
                  else none
                else none
              else none
            else none
          else none
        else
          Q (.exit 0) (St3 x5 c1) := by
    intro D L; kernel_rfl
  refine (show rnd C k cd0 18 Q next (St2 x5 x25 x26 x27 c1) = denJ (den C k) (lp C k) Js C cd0 (lq C 18 next Q) (St2 x5 x25 x26 x27 c1) from (denJ_den _ _ _ _ _ _).symm).trans ((h (den C k) (lp C k)).trans ?_)
  first | rfl | kernel_rfl
def l0 {α : Type} (k : Nat) (Xt0 : (List Int) → (Int × List (Int × (List Int × List Int × Int × Unit) × Unit) × (Int × Int × Int × List Int × Int × Int × List Int × Unit) × Unit) → Option α) : Nat → (List Int) → (List (Int × (List Int × List Int × Int × Unit) × Unit)) → Int → Int → (Int × List (Int × (List Int × List Int × Int × Unit) × Unit) × (Int × Int × Int × List Int × Int × Int × List Int × Unit) × Unit) → Option α
  | 0, _, _, _, _, _ => none
  | n + 1, x5, x25, x26, x27, c1 => l0s (l0 k Xt0 n) Xt0 x5 x25 x26 x27 c1
theorem l0_eq {α : Type} (k : Nat) (Q : Ex → St → Option α) : ∀ (n : Nat) (x5 : List Int) (x25 : List (Int × (List Int × List Int × Int × Unit) × Unit)) (x26 : Int) (x27 : Int) (c1 : Int × List (Int × (List Int × List Int × Int × Unit) × Unit) × (Int × Int × Int × List Int × Int × Int × List Int × Unit) × Unit), iter (rnd C k cd0 18 Q) n (St2 x5 x25 x26 x27 c1) = l0 k (fun (x5 : List Int) (c1 : Int × List (Int × (List Int × List Int × Int × Unit) × Unit) × (Int × Int × Int × List Int × Int × Int × List Int × Unit) × Unit) => Q (.exit 0) (St3 x5 c1)) n x5 x25 x26 x27 c1
  | 0, _, _, _, _, _ => rfl
  | n + 1, x5, x25, x26, x27, c1 => (iter_succ _ _ _).trans ((l0s_eq k (iter (rnd C k cd0 18 Q) n) Q x5 x25 x26 x27 c1).trans (congrArg (fun N => l0s N (fun (x5 : List Int) (c1 : Int × List (Int × (List Int × List Int × Int × Unit) × Unit) × (Int × Int × Int × List Int × Int × Int × List Int × Unit) × Unit) => Q (.exit 0) (St3 x5 c1)) x5 x25 x26 x27 c1) (funext fun x5 => funext fun x25 => funext fun x26 => funext fun x27 => funext fun c1 => l0_eq k Q n x5 x25 x26 x27 c1)))
theorem l0_congr {α : Type} (k : Nat) (Xt0 : (List Int) → (Int × List (Int × (List Int × List Int × Int × Unit) × Unit) × (Int × Int × Int × List Int × Int × Int × List Int × Unit) × Unit) → Option α) (Xt0q : (List Int) → (Int × List (Int × (List Int × List Int × Int × Unit) × Unit) × (Int × Int × Int × List Int × Int × Int × List Int × Unit) × Unit) → Option α) (hXt0 : ∀ (x5 : List Int) (c1 : Int × List (Int × (List Int × List Int × Int × Unit) × Unit) × (Int × Int × Int × List Int × Int × Int × List Int × Unit) × Unit), Xt0 x5 c1 = Xt0q x5 c1) (n : Nat) (x5 : List Int) (x25 : List (Int × (List Int × List Int × Int × Unit) × Unit)) (x26 : Int) (x27 : Int) (c1 : Int × List (Int × (List Int × List Int × Int × Unit) × Unit) × (Int × Int × Int × List Int × Int × Int × List Int × Unit) × Unit) : l0 k Xt0 n x5 x25 x26 x27 c1 = l0 k Xt0q n x5 x25 x26 x27 c1 := by
  obtain rfl : Xt0 = Xt0q := by funext x5; funext c1; exact hXt0 x5 c1
  rfl
noncomputable def cd1 : Code := cR (cR (cR (cR (cB Try.f44))))
def St4 (x5 : List Int) (c1 : Int × List (Int × (List Int × List Int × Int × Unit) × Unit) × (Int × Int × Int × List Int × Int × Int × List Int × Unit) × Unit) : St := stL 60 [(1, .ref 1 0 []), (5, .data .str x5)] [(1, .cell (.pair (.int .i64) (.pair (.sl (.pair (.int .i64) (.pair (.pair (.arr 4 (.int .u64)) (.pair (.arr 4 (.int .u64)) (.pair (.int .i64) .unit))) .unit))) (.pair (.pair (.int .i64) (.pair (.int .i64) (.pair (.int .i64) (.pair (.arr 32 (.int .u8)) (.pair (.int .i64) (.pair (.int .i64) (.pair (.sl (.int .u8)) .unit))))))) .unit))) (.data (.pair (.int .i64) (.pair (.sl (.pair (.int .i64) (.pair (.pair (.arr 4 (.int .u64)) (.pair (.arr 4 (.int .u64)) (.pair (.int .i64) .unit))) .unit))) (.pair (.pair (.int .i64) (.pair (.int .i64) (.pair (.int .i64) (.pair (.arr 32 (.int .u8)) (.pair (.int .i64) (.pair (.int .i64) (.pair (.sl (.int .u8)) .unit))))))) .unit))) c1) false)]
def j0 {α : Type} (Rt : (List Int) → Int → Option α) (x5 : List Int) (c1 : Int × List (Int × (List Int × List Int × Int × Unit) × Unit) × (Int × Int × Int × List Int × Int × Int × List Int × Unit) × Unit) : Option α :=
  (Go.Bx.basculeref_bodyText.run c1.2.2.1).bind fun y8 =>
  if Nat.ble (x5.length + y8.length) 9223372036854775807 = true then
    Rt (x5 ++ y8) 0
  else none
theorem j0_eq {α : Type} (k : Nat) (Q : Ex → St → Option α) (x5 : List Int) (c1 : Int × List (Int × (List Int × List Int × Int × Unit) × Unit) × (Int × Int × Int × List Int × Int × Int × List Int × Unit) × Unit) :
    (den C k) cd1 Q (St4 x5 c1) = j0 (fun (x2 : List Int) (x3 : Int) => Q .ret (St1 x2 x3)) x5 c1 := by
  have h : ∀ (D L : DT α), denJ D L Js C cd1 Q (St4 x5 c1) =
        (Go.Bx.basculeref_bodyText.run c1.2.2.1).bind fun y8 =>
        if Nat.ble (x5.length + y8.length) 9223372036854775807 = true then
          Q .ret (St1 (x5 ++ y8) 0)
        else none := by
    intro D L; kernel_rfl
  refine (show (den C k) cd1 Q (St4 x5 c1) = denJ (den C k) (lp C k) Js C cd1 Q (St4 x5 c1) from (denJ_den _ _ _ _ _ _).symm).trans ((h (den C k) (lp C k)).trans ?_)
  first | rfl | kernel_rfl
theorem a0 {α : Type} (k : Nat) (Q : Ex → St → Option α) (x5 : List Int) (x25 : List (Int × (List Int × List Int × Int × Unit) × Unit)) (x26 : Int) (x27 : Int) (c1 : Int × List (Int × (List Int × List Int × Int × Unit) × Unit) × (Int × Int × Int × List Int × Int × Int × List Int × Unit) × Unit) :
    (lp C k) cd0 (blkQ C 0 (sq (den C k) (lp C k) Js C cd1 Q)) (St2 x5 x25 x26 x27 c1) = l0 k (fun (x5 : List Int) (c1 : Int × List (Int × (List Int × List Int × Int × Unit) × Unit) × (Int × Int × Int × List Int × Int × Int × List Int × Unit) × Unit) => j0 (fun (x2 : List Int) (x3 : Int) => Q .ret (St1 x2 x3)) x5 c1) k x5 x25 x26 x27 c1 :=
  (show (lp C k) cd0 (blkQ C 0 (sq (den C k) (lp C k) Js C cd1 Q)) (St2 x5 x25 x26 x27 c1) = iter (rnd C k cd0 18 (blkQ C 0 (sq (den C k) (lp C k) Js C cd1 Q))) k (St2 x5 x25 x26 x27 c1) by kernel_rfl).trans ((l0_eq k (blkQ C 0 (sq (den C k) (lp C k) Js C cd1 Q)) k x5 x25 x26 x27 c1).trans (l0_congr k _ _ (fun x5 c1 => ((show (blkQ C 0 (sq (den C k) (lp C k) Js C cd1 Q)) (.exit 0) (St3 x5 c1) = (den C k) cd1 Q (St4 x5 c1) by kernel_rfl).trans (by simp only [j0_eq]))) k x5 x25 x26 x27 c1))
def top {α : Type} (k : Nat) (Rt : (List Int) → Int → Option α) (x0 : Int × List (Int × (List Int × List Int × Int × Unit) × Unit) × (Int × Int × Int × List Int × Int × Int × List Int × Unit) × Unit) : Option α :=
  (Go.Bx.basculeref_PaperFault.run x0).bind fun y1 =>
  if (y1 != 0) = true then
    Rt [] y1
  else
    (Go.Bx.basculeref_big.run (IntKind.u64.wrap x0.1) 4).bind fun y2 =>
    if Nat.ble (1 + y2.length) 9223372036854775807 = true then
      (Go.Bx.basculeref_big.run (IntKind.u64.wrap (x0.2.1.length : Int)) 1).bind fun y3 =>
      if Nat.ble (([1] ++ y2).length + y3.length) 9223372036854775807 = true then
        l0 k (fun (x5 : List Int) (c1 : Int × List (Int × (List Int × List Int × Int × Unit) × Unit) × (Int × Int × Int × List Int × Int × Int × List Int × Unit) × Unit) => j0 Rt x5 c1) k (([1] ++ y2) ++ y3) x0.2.1 (x0.2.1.length : Int) 0 x0
      else none
    else none
theorem top_eq {α : Type} (k : Nat) (Q : Ex → St → Option α) (x0 : Int × List (Int × (List Int × List Int × Int × Unit) × Unit) × (Int × Int × Int × List Int × Int × Int × List Int × Unit) × Unit) :
    (den C k) (cB Try.f44) Q (St0 x0) = top k (fun (x2 : List Int) (x3 : Int) => Q .ret (St1 x2 x3)) x0 := by
  have h : ∀ (D L : DT α), denJ D L Js C (cB Try.f44) Q (St0 x0) =
        (Go.Bx.basculeref_PaperFault.run x0).bind fun y1 =>
        if (y1 != 0) = true then
          Q .ret (St1 [] y1)
        else
          (Go.Bx.basculeref_big.run (IntKind.u64.wrap x0.1) 4).bind fun y2 =>
          if Nat.ble (1 + y2.length) 9223372036854775807 = true then
            (Go.Bx.basculeref_big.run (IntKind.u64.wrap (x0.2.1.length : Int)) 1).bind fun y3 =>
            if Nat.ble (([1] ++ y2).length + y3.length) 9223372036854775807 = true then
              L cd0 (blkQ C 0 (sq D L Js C cd1 Q)) (St2 (([1] ++ y2) ++ y3) x0.2.1 (x0.2.1.length : Int) 0 x0)
            else none
          else none := by
    intro D L; kernel_rfl
  refine (show (den C k) (cB Try.f44) Q (St0 x0) = denJ (den C k) (lp C k) Js C (cB Try.f44) Q (St0 x0) from (denJ_den _ _ _ _ _ _).symm).trans ((h (den C k) (lp C k)).trans ?_)
  simp only [a0]
  first | rfl | kernel_rfl
def run (x0 : Int × List (Int × (List Int × List Int × Int × Unit) × Unit) × (Int × Int × Int × List Int × Int × Int × List Int × Unit) × Unit) : Option (List Int × Int × Unit) := top (α := List Int × Int × Unit) fuel (fun (x2 : List Int) (x3 : Int) => some (x2, x3, ())) x0
def F : Fn := ⟨(.pair (.pair (.int .i64) (.pair (.sl (.pair (.int .i64) (.pair (.pair (.arr 4 (.int .u64)) (.pair (.arr 4 (.int .u64)) (.pair (.int .i64) .unit))) .unit))) (.pair (.pair (.int .i64) (.pair (.int .i64) (.pair (.int .i64) (.pair (.arr 32 (.int .u8)) (.pair (.int .i64) (.pair (.int .i64) (.pair (.sl (.int .u8)) .unit))))))) .unit))) .unit), (.pair (.sl (.int .u8)) (.pair (.int .i64) .unit)), true, fun x => run x.1⟩
set_option maxRecDepth 100000 in
theorem con : Con Try.prog 44 F := by
  refine con_of_den (C := C) (ctx_ok (by kernel_rfl) (by kernel_rfl) (by kernel_rfl) (by kernel_rfl) ⟨.inl ⟨Go.Bx.basculeref_PaperFault.con, Go.Bx.basculeref_PaperFault.named⟩, ⟨.inl ⟨Go.Bx.basculeref_big.con, Go.Bx.basculeref_big.named⟩, ⟨.inl ⟨Go.Bx.basculeref_text.con, Go.Bx.basculeref_text.named⟩, ⟨.inl ⟨Go.Bx.basculeref_bodyText.con, Go.Bx.basculeref_bodyText.named⟩, trivial⟩⟩⟩⟩) (by kernel_rfl) Try.func44 (c := cB Try.f44) (by kernel_rfl) (by kernel_rfl) F fuel (fun x => by simp [F, spread, Try.ntmps44]) ?_
  intro x r h
  rw [← h]
  have h1 : start F Try.f44.ntmps x = (St0 x.1) := by kernel_rfl
  rw [h1]
  refine (top_eq fuel (fin C Try.f44.results.toList F.rs F.multi) x.1).trans ?_
  kernel_rfl
theorem named : Named Try.prog 44 := named_of Try.func44 (by kernel_rfl) (by kernel_rfl)
end Go.Bx.basculeref_PaperBytes
namespace Go.Bx.basculelaw_PaperEncodes
open Go Go.Proofs Go.Bx
set_option maxRecDepth 100000
set_option linter.unusedVariables false
def Js : List Nat := []
def C : Ctx := ⟨[(4, .bool), (78, (.pair (.int .i64) (.pair (.sl (.pair (.int .i64) (.pair (.pair (.arr 4 (.int .u64)) (.pair (.arr 4 (.int .u64)) (.pair (.int .i64) .unit))) .unit))) (.pair (.pair (.int .i64) (.pair (.int .i64) (.pair (.int .i64) (.pair (.arr 32 (.int .u8)) (.pair (.int .i64) (.pair (.int .i64) (.pair (.sl (.int .u8)) .unit))))))) .unit))))], [], [], fnL [(43, Go.Bx.paper_Encode.F), (44, Go.Bx.basculeref_PaperBytes.F), (45, Go.Bx.basculelaw_sameBytes.F)], noSh, [], invL [], [(2, [2])], [], [], 0, 0⟩
def St0 (x0 : Int × List (Int × (List Int × List Int × Int × Unit) × Unit) × (Int × Int × Int × List Int × Int × Int × List Int × Unit) × Unit) : St := stL 25 [(0, .data (.pair (.int .i64) (.pair (.sl (.pair (.int .i64) (.pair (.pair (.arr 4 (.int .u64)) (.pair (.arr 4 (.int .u64)) (.pair (.int .i64) .unit))) .unit))) (.pair (.pair (.int .i64) (.pair (.int .i64) (.pair (.int .i64) (.pair (.arr 32 (.int .u8)) (.pair (.int .i64) (.pair (.int .i64) (.pair (.sl (.int .u8)) .unit))))))) .unit))) x0)] []
def St1 (x2 : Bool) : St := stL 25 [(2, .data .bool x2)] []
def top {α : Type} (Rt : Bool → Option α) (x0 : Int × List (Int × (List Int × List Int × Int × Unit) × Unit) × (Int × Int × Int × List Int × Int × Int × List Int × Unit) × Unit) : Option α :=
  (Go.Bx.paper_Encode.run x0).bind fun y1 =>
  (Go.Bx.basculeref_PaperBytes.run x0).bind fun y2 =>
  (Go.Bx.basculelaw_sameBytes.run y1.1 y2.1).bind fun y3 =>
  Rt (cond y3 (y1.2.1 == y2.2.1) false)
theorem top_eq {α : Type} (k : Nat) (Q : Ex → St → Option α) (x0 : Int × List (Int × (List Int × List Int × Int × Unit) × Unit) × (Int × Int × Int × List Int × Int × Int × List Int × Unit) × Unit) :
    (den C k) (cB Try.f13) Q (St0 x0) = top (fun (x2 : Bool) => Q .ret (St1 x2)) x0 := by
  have h : ∀ (D L : DT α), denJ D L Js C (cB Try.f13) Q (St0 x0) =
        (Go.Bx.paper_Encode.run x0).bind fun y1 =>
        (Go.Bx.basculeref_PaperBytes.run x0).bind fun y2 =>
        (Go.Bx.basculelaw_sameBytes.run y1.1 y2.1).bind fun y3 =>
        Q .ret (St1 (cond y3 (y1.2.1 == y2.2.1) false)) := by
    intro D L; kernel_rfl
  refine (show (den C k) (cB Try.f13) Q (St0 x0) = denJ (den C k) (lp C k) Js C (cB Try.f13) Q (St0 x0) from (denJ_den _ _ _ _ _ _).symm).trans ((h (den C k) (lp C k)).trans ?_)
  first | rfl | kernel_rfl
def run (x0 : Int × List (Int × (List Int × List Int × Int × Unit) × Unit) × (Int × Int × Int × List Int × Int × Int × List Int × Unit) × Unit) : Option (Bool) := top (α := Bool) (fun (x2 : Bool) => some x2) x0
def F : Fn := ⟨(.pair (.pair (.int .i64) (.pair (.sl (.pair (.int .i64) (.pair (.pair (.arr 4 (.int .u64)) (.pair (.arr 4 (.int .u64)) (.pair (.int .i64) .unit))) .unit))) (.pair (.pair (.int .i64) (.pair (.int .i64) (.pair (.int .i64) (.pair (.arr 32 (.int .u8)) (.pair (.int .i64) (.pair (.int .i64) (.pair (.sl (.int .u8)) .unit))))))) .unit))) .unit), .bool, false, fun x => run x.1⟩
set_option maxRecDepth 100000 in
theorem con : Con Try.prog 13 F := by
  refine con_of_den (C := C) (ctx_ok (by kernel_rfl) (by kernel_rfl) (by kernel_rfl) (by kernel_rfl) ⟨.inl ⟨Go.Bx.paper_Encode.con, Go.Bx.paper_Encode.named⟩, ⟨.inl ⟨Go.Bx.basculeref_PaperBytes.con, Go.Bx.basculeref_PaperBytes.named⟩, ⟨.inl ⟨Go.Bx.basculelaw_sameBytes.con, Go.Bx.basculelaw_sameBytes.named⟩, trivial⟩⟩⟩) (by kernel_rfl) Try.func13 (c := cB Try.f13) (by kernel_rfl) (by kernel_rfl) F fuel (fun x => by simp [F, spread, Try.ntmps13]) ?_
  intro x r h
  rw [← h]
  have h1 : start F Try.f13.ntmps x = (St0 x.1) := by kernel_rfl
  rw [h1]
  refine (top_eq fuel (fin C Try.f13.results.toList F.rs F.multi) x.1).trans ?_
  kernel_rfl
theorem named : Named Try.prog 13 := named_of Try.func13 (by kernel_rfl) (by kernel_rfl)
end Go.Bx.basculelaw_PaperEncodes
