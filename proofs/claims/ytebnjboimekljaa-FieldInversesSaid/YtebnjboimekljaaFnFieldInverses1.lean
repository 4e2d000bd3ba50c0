/- Go functions of this seat in their own words of Lean, each tied to its code by a contract. -/
import Derived.Test.YtebnjboimekljaaGBase
import Derived.Test.YtebnjboimekljaaFnFieldInverses0
namespace Go.Bx.basculeref_inverse
open Go Go.Proofs Go.Bx
set_option maxRecDepth 100000
set_option linter.unusedVariables false
def Js : List Nat := []
def FR (R : (List Int) → (List Int) → Option (List Int × Bool × Unit)) : Fn := ⟨(.pair (.arr 4 (.int .u64)) (.pair (.arr 4 (.int .u64)) .unit)), (.pair (.arr 4 (.int .u64)) (.pair .bool .unit)), true, fun x => R x.1 x.2.1⟩
def C (R : (List Int) → (List Int) → Option (List Int × Bool × Unit)) : Ctx := ⟨[(4, .bool), (24, (.arr 4 (.int .u64))), (97, (.sl (.int .u64)))], [], fnL [(30, Go.Bx.basculeref_Quotient.F), (73, Go.Bx.basculeref_plus.F), (74, Go.Bx.basculeref_times.F), (77, Go.Bx.basculeref_of.F), (78, Go.Bx.basculeref_divided.F), (100, Go.Bx.basculeref_opposite.F), (107, FR R), (133, Go.Bx.basculeref_less.F), (141, Go.Bx.basculeref_rest.F)], noSh, [], noInv, [(2, [4, 5])], [], [], 0, 0⟩
def St0 (x0 : List Int) (x1 : List Int) : St := stL 67 [(0, .data (.arr 4 (.int .u64)) x0), (1, .data (.arr 4 (.int .u64)) x1)] []
def St1 (x5 : Bool) (c4 : List Int) : St := stL 67 [(4, .ref 4 0 []), (5, .data .bool x5)] [(4, .cell (.arr 4 (.int .u64)) (.data (.arr 4 (.int .u64)) c4) false)]
def top (R : (List Int) → (List Int) → Option (List Int × Bool × Unit)) {α : Type} (Rt : Bool → (List Int) → Option α) (x0 : List Int) (x1 : List Int) : Option α :=
  if (beqD (.arr 4 (.int .u64)) x1 [1, 0, 0, 0]) = true then
    Rt true [0, 0, 0, 0]
  else
    if (beqD (.arr 4 (.int .u64)) x0 [0, 0, 0, 0]) = true then
      Rt false [0, 0, 0, 0]
    else
      if (beqD (.arr 4 (.int .u64)) x0 [1, 0, 0, 0]) = true then
        Rt true x0
      else
        (Go.Bx.basculeref_Quotient.run x1 x0).bind fun y1 =>
        (R y1.2.1 x0).bind fun y2 =>
        if (not y2.2.1) = true then
          Rt false [0, 0, 0, 0]
        else
          (Go.Bx.basculeref_of.run y1.2.1).bind fun y3 =>
          (Go.Bx.basculeref_of.run y2.1).bind fun y4 =>
          (Go.Bx.basculeref_times.run y3 y4).bind fun y5 =>
          (Go.Bx.basculeref_less.run y5 [1]).bind fun y6 =>
          (Go.Bx.basculeref_of.run x0).bind fun y7 =>
          (Go.Bx.basculeref_divided.run y6 y7).bind fun y8 =>
          (Go.Bx.basculeref_of.run y1.1).bind fun y9 =>
          (Go.Bx.basculeref_of.run y2.1).bind fun y10 =>
          (Go.Bx.basculeref_times.run y9 y10).bind fun y11 =>
          (Go.Bx.basculeref_plus.run y11 y8.1).bind fun y12 =>
          (Go.Bx.basculeref_rest.run y12 x1).bind fun y13 =>
          (Go.Bx.basculeref_opposite.run y13 x1).bind fun y14 =>
          Rt true y14
theorem top_eq (R : (List Int) → (List Int) → Option (List Int × Bool × Unit)) {α : Type} (k : Nat) (Q : Ex → St → Option α) (x0 : List Int) (x1 : List Int) :
    (den (C R) k) (cB Try.f107) Q (St0 x0 x1) = top R (fun (x5 : Bool) (c4 : List Int) => Q .ret (St1 x5 c4)) x0 x1 := by
  have h : ∀ (D L : DT α), denJ D L Js (C R) (cB Try.f107) Q (St0 x0 x1) =
        if (beqD (.arr 4 (.int .u64)) x1 [1, 0, 0, 0]) = true then
          Q .ret (St1 true [0, 0, 0, 0])
        else
          if (beqD (.arr 4 (.int .u64)) x0 [0, 0, 0, 0]) = true then
            Q .ret (St1 false [0, 0, 0, 0])
          else
            if (beqD (.arr 4 (.int .u64)) x0 [1, 0, 0, 0]) = true then
              Q .ret (St1 true x0)
            else
              (Go.Bx.basculeref_Quotient.run x1 x0).bind fun y1 =>
              (R y1.2.1 x0).bind fun y2 =>
              if (not y2.2.1) = true then
                Q .ret (St1 false [0, 0, 0, 0])
              else
                (Go.Bx.basculeref_of.run y1.2.1).bind fun y3 =>
                (Go.Bx.basculeref_of.run y2.1).bind fun y4 =>
                (Go.Bx.basculeref_times.run y3 y4).bind fun y5 =>
                (Go.Bx.basculeref_less.run y5 [1]).bind fun y6 =>
                (Go.Bx.basculeref_of.run x0).bind fun y7 =>
                (Go.Bx.basculeref_divided.run y6 y7).bind fun y8 =>
                (Go.Bx.basculeref_of.run y1.1).bind fun y9 =>
                (Go.Bx.basculeref_of.run y2.1).bind fun y10 =>
                (Go.Bx.basculeref_times.run y9 y10).bind fun y11 =>
                (Go.Bx.basculeref_plus.run y11 y8.1).bind fun y12 =>
                (Go.Bx.basculeref_rest.run y12 x1).bind fun y13 =>
                (Go.Bx.basculeref_opposite.run y13 x1).bind fun y14 =>
                Q .ret (St1 true y14) := by
    intro D L; kernel_rfl
  refine (show (den (C R) k) (cB Try.f107) Q (St0 x0 x1) = denJ (den (C R) k) (lp (C R) k) Js (C R) (cB Try.f107) Q (St0 x0 x1) from (denJ_den _ _ _ _ _ _).symm).trans ((h (den (C R) k) (lp (C R) k)).trans ?_)
  first | rfl | kernel_rfl
def runN : Nat → (List Int) → (List Int) → Option (List Int × Bool × Unit)
  | 0 => fun _ _ => none
  | n + 1 => fun x0 x1 => top (runN n) (α := List Int × Bool × Unit) (fun (x5 : Bool) (c4 : List Int) => some (c4, x5, ())) x0 x1
def run (x0 : List Int) (x1 : List Int) : Option (List Int × Bool × Unit) := runN fuel x0 x1
def F : Fn := FR (runN fuel)
theorem named : Named Try.prog 107 := named_of Try.func107 (by kernel_rfl) (by kernel_rfl)
set_option maxRecDepth 100000 in
theorem conN : ∀ n, Con Try.prog 107 (FR (runN n))
  | 0 => fun w I x r args hI h => by cases h
  | n + 1 => by
    refine con_of_den (C := C (runN n)) (ctx_ok (by kernel_rfl) (by kernel_rfl) ⟨.inl ⟨Go.Bx.basculeref_Quotient.con, Go.Bx.basculeref_Quotient.named⟩, ⟨.inl ⟨Go.Bx.basculeref_plus.con, Go.Bx.basculeref_plus.named⟩, ⟨.inl ⟨Go.Bx.basculeref_times.con, Go.Bx.basculeref_times.named⟩, ⟨.inl ⟨Go.Bx.basculeref_of.con, Go.Bx.basculeref_of.named⟩, ⟨.inl ⟨Go.Bx.basculeref_divided.con, Go.Bx.basculeref_divided.named⟩, ⟨.inl ⟨Go.Bx.basculeref_opposite.con, Go.Bx.basculeref_opposite.named⟩, ⟨.inl ⟨conN n, named⟩, ⟨.inl ⟨Go.Bx.basculeref_less.con, Go.Bx.basculeref_less.named⟩, ⟨.inl ⟨Go.Bx.basculeref_rest.con, Go.Bx.basculeref_rest.named⟩, trivial⟩⟩⟩⟩⟩⟩⟩⟩⟩) (by kernel_rfl) Try.func107 (c := cB Try.f107) (by kernel_rfl) (by kernel_rfl) (FR (runN (n + 1))) fuel (fun x => by simp [FR, spread, Try.ntmps107]) ?_
    intro x r h
    rw [← h]
    have h1 : start (FR (runN (n + 1))) Try.f107.ntmps x = (St0 x.1 x.2.1) := by kernel_rfl
    rw [h1]
    refine (top_eq (runN n) fuel (fin (C (runN n)) Try.f107.results.toList (FR (runN (n + 1))).rs (FR (runN (n + 1))).multi) x.1 x.2.1).trans ?_
    kernel_rfl
theorem con : Con Try.prog 107 F := conN fuel
end Go.Bx.basculeref_inverse
namespace Go.Bx.basculeref_Inverse
open Go Go.Proofs Go.Bx
set_option maxRecDepth 100000
set_option linter.unusedVariables false
def Js : List Nat := []
def C : Ctx := ⟨[(24, (.arr 4 (.int .u64))), (25, (.int .i64)), (154, (.sl (.arr 4 (.int .u64))))], [], fnL [(98, Go.Bx.basculeref_modulus.F), (107, Go.Bx.basculeref_inverse.F)], noSh, [], noInv, [(2, [4, 5])], [], [], 0, 0⟩
def St0 (x0 : List Int) (x1 : List Int) : St := stL 27 [(0, .data (.arr 4 (.int .u64)) x0), (1, .data (.arr 4 (.int .u64)) x1)] []
def St1 (x5 : Int) (c4 : List Int) : St := stL 27 [(4, .ref 4 0 []), (5, .data (.int .i64) x5)] [(4, .cell (.arr 4 (.int .u64)) (.data (.arr 4 (.int .u64)) c4) false)]
def top {α : Type} (Rt : Int → (List Int) → Option α) (x0 : List Int) (x1 : List Int) : Option α :=
  (Go.Bx.basculeref_modulus.run x1 [x0]).bind fun y1 =>
  if (y1 != 0) = true then
    Rt y1 [0, 0, 0, 0]
  else
    (Go.Bx.basculeref_inverse.run x0 x1).bind fun y2 =>
    if (not y2.2.1) = true then
      Rt 5 [0, 0, 0, 0]
    else
      Rt 0 y2.1
theorem top_eq {α : Type} (k : Nat) (Q : Ex → St → Option α) (x0 : List Int) (x1 : List Int) :
    (den C k) (cB Try.f51) Q (St0 x0 x1) = top (fun (x5 : Int) (c4 : List Int) => Q .ret (St1 x5 c4)) x0 x1 := by
  have h : ∀ (D L : DT α), denJ D L Js C (cB Try.f51) Q (St0 x0 x1) =
        (Go.Bx.basculeref_modulus.run x1 [x0]).bind fun y1 =>
        if (y1 != 0) = true then
          Q .ret (St1 y1 [0, 0, 0, 0])
        else
          (Go.Bx.basculeref_inverse.run x0 x1).bind fun y2 =>
          if (not y2.2.1) = true then
            Q .ret (St1 5 [0, 0, 0, 0])
          else
            Q .ret (St1 0 y2.1) := by
    intro D L; kernel_rfl
  refine (show (den C k) (cB Try.f51) Q (St0 x0 x1) = denJ (den C k) (lp C k) Js C (cB Try.f51) Q (St0 x0 x1) from (denJ_den _ _ _ _ _ _).symm).trans ((h (den C k) (lp C k)).trans ?_)
  first | rfl | kernel_rfl
def run (x0 : List Int) (x1 : List Int) : Option (List Int × Int × Unit) := top (α := List Int × Int × Unit) (fun (x5 : Int) (c4 : List Int) => some (c4, x5, ())) x0 x1
def F : Fn := ⟨(.pair (.arr 4 (.int .u64)) (.pair (.arr 4 (.int .u64)) .unit)), (.pair (.arr 4 (.int .u64)) (.pair (.int .i64) .unit)), true, fun x => run x.1 x.2.1⟩
set_option maxRecDepth 100000 in
theorem con : Con Try.prog 51 F := by
  refine con_of_den (C := C) (ctx_ok (by kernel_rfl) (by kernel_rfl) ⟨.inl ⟨Go.Bx.basculeref_modulus.con, Go.Bx.basculeref_modulus.named⟩, ⟨.inl ⟨Go.Bx.basculeref_inverse.con, Go.Bx.basculeref_inverse.named⟩, trivial⟩⟩) (by kernel_rfl) Try.func51 (c := cB Try.f51) (by kernel_rfl) (by kernel_rfl) F fuel (fun x => by simp [F, spread, Try.ntmps51]) ?_
  intro x r h
  rw [← h]
  have h1 : start F Try.f51.ntmps x = (St0 x.1 x.2.1) := by kernel_rfl
  rw [h1]
  refine (top_eq fuel (fin C Try.f51.results.toList F.rs F.multi) x.1 x.2.1).trans ?_
  kernel_rfl
theorem named : Named Try.prog 51 := named_of Try.func51 (by kernel_rfl) (by kernel_rfl)
end Go.Bx.basculeref_Inverse
namespace Go.Bx.basculelaw_FieldInverses
open Go Go.Proofs Go.Bx
set_option maxRecDepth 100000
set_option linter.unusedVariables false
def Js : List Nat := []
def C : Ctx := ⟨[(4, .bool), (24, (.arr 4 (.int .u64)))], [], fnL [(50, Go.Bx.field_Inv.F), (51, Go.Bx.basculeref_Inverse.F)], noSh, [], noInv, [(2, [4])], [], [], 0, 0⟩
def St0 (x0 : List Int) (x1 : List Int) : St := stL 29 [(0, .data (.arr 4 (.int .u64)) x0), (1, .data (.arr 4 (.int .u64)) x1)] []
def St1 (x4 : Bool) : St := stL 29 [(4, .data .bool x4)] []
def top {α : Type} (Rt : Bool → Option α) (x0 : List Int) (x1 : List Int) : Option α :=
  (Go.Bx.field_Inv.run x0 x1).bind fun y1 =>
  (Go.Bx.basculeref_Inverse.run x0 x1).bind fun y2 =>
  Rt (cond (beqD (.arr 4 (.int .u64)) y1.1 y2.1) (y1.2.1 == y2.2.1) false)
theorem top_eq {α : Type} (k : Nat) (Q : Ex → St → Option α) (x0 : List Int) (x1 : List Int) :
    (den C k) (cB Try.f16) Q (St0 x0 x1) = top (fun (x4 : Bool) => Q .ret (St1 x4)) x0 x1 := by
  have h : ∀ (D L : DT α), denJ D L Js C (cB Try.f16) Q (St0 x0 x1) =
        (Go.Bx.field_Inv.run x0 x1).bind fun y1 =>
        (Go.Bx.basculeref_Inverse.run x0 x1).bind fun y2 =>
        Q .ret (St1 (cond (beqD (.arr 4 (.int .u64)) y1.1 y2.1) (y1.2.1 == y2.2.1) false)) := by
    intro D L; kernel_rfl
  refine (show (den C k) (cB Try.f16) Q (St0 x0 x1) = denJ (den C k) (lp C k) Js C (cB Try.f16) Q (St0 x0 x1) from (denJ_den _ _ _ _ _ _).symm).trans ((h (den C k) (lp C k)).trans ?_)
  first | rfl | kernel_rfl
def run (x0 : List Int) (x1 : List Int) : Option (Bool) := top (α := Bool) (fun (x4 : Bool) => some x4) x0 x1
def F : Fn := ⟨(.pair (.arr 4 (.int .u64)) (.pair (.arr 4 (.int .u64)) .unit)), .bool, false, fun x => run x.1 x.2.1⟩
set_option maxRecDepth 100000 in
theorem con : Con Try.prog 16 F := by
  refine con_of_den (C := C) (ctx_ok (by kernel_rfl) (by kernel_rfl) ⟨.inl ⟨Go.Bx.field_Inv.con, Go.Bx.field_Inv.named⟩, ⟨.inl ⟨Go.Bx.basculeref_Inverse.con, Go.Bx.basculeref_Inverse.named⟩, trivial⟩⟩) (by kernel_rfl) Try.func16 (c := cB Try.f16) (by kernel_rfl) (by kernel_rfl) F fuel (fun x => by simp [F, spread, Try.ntmps16]) ?_
  intro x r h
  rw [← h]
  have h1 : start F Try.f16.ntmps x = (St0 x.1 x.2.1) := by kernel_rfl
  rw [h1]
  refine (top_eq fuel (fin C Try.f16.results.toList F.rs F.multi) x.1 x.2.1).trans ?_
  kernel_rfl
theorem named : Named Try.prog 16 := named_of Try.func16 (by kernel_rfl) (by kernel_rfl)
end Go.Bx.basculelaw_FieldInverses
