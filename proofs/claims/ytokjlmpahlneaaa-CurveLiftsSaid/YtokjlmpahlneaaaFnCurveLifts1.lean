/- Go functions of this seat in their own words of Lean, each tied to its code by a contract. -/
import Derived.Test.YtokjlmpahlneaaaGBase
import Derived.Test.YtokjlmpahlneaaaFnCurveLifts0
namespace Go.Bx.basculeref_inverse
open Go Go.Proofs Go.Bx
set_option maxRecDepth 100000
set_option linter.unusedVariables false
def Js : List Nat := []
def FR (R : (List Int) → (List Int) → Option (List Int × Bool × Unit)) : Fn := ⟨(.pair (.arr 4 (.int .u64)) (.pair (.arr 4 (.int .u64)) .unit)), (.pair (.arr 4 (.int .u64)) (.pair .bool .unit)), true, fun x => R x.1 x.2.1⟩
def C (R : (List Int) → (List Int) → Option (List Int × Bool × Unit)) : Ctx := ⟨[(4, .bool), (45, (.arr 4 (.int .u64))), (134, (.sl (.int .u64)))], [], [], fnL [(48, Go.Bx.basculeref_Quotient.F), (107, Go.Bx.basculeref_plus.F), (108, Go.Bx.basculeref_of.F), (110, Go.Bx.basculeref_opposite.F), (115, Go.Bx.basculeref_less.F), (117, Go.Bx.basculeref_times.F), (120, Go.Bx.basculeref_divided.F), (134, FR R), (161, Go.Bx.basculeref_rest.F)], noSh, [], invL [], [(2, [4, 5])], [], [], 0, 0⟩
def St0 (x0 : List Int) (x1 : List Int) : St := stL 67 [(0, .data (.arr 4 (.int .u64)) x0), (1, .data (.arr 4 (.int .u64)) x1)] []
def St1 (x5 : Bool) (c4 : List Int) : St := stL 67 [(4, .ref 4 0 []), (5, .data .bool x5)] [(4, .cell (.arr 4 (.int .u64)) (.data (.arr 4 (.int .u64)) c4) false)]
def top (R : (List Int) → (List Int) → Option (List Int × Bool × Unit)) {α : Type} (Rt : Bool → (List Int) → Option α) (x0 : List Int) (x1 : List Int) : Option α :=
  if (beqD (.arr 4 (.int .u64)) x1 [1, 0, 0, 0]) = true then
    Rt true [0, 0, 0, 0]
  else
    if (beqD (.arr 4 (.int .u64)) x0 [0, 0, 0, 0]) = true then
      Rt false [0, 0, 0, 0]
    else
      if (beqD (.arr 4 (.int .u64)) x0 [1, 0, 0, 0]) = true then
        Rt true x0
      else
        (Go.Bx.basculeref_Quotient.run x1 x0).bind fun y1 =>
        (R y1.2.1 x0).bind fun y2 =>
        if (not y2.2.1) = true then
          Rt false [0, 0, 0, 0]
        else
          (Go.Bx.basculeref_of.run y1.2.1).bind fun y3 =>
          (Go.Bx.basculeref_of.run y2.1).bind fun y4 =>
          (Go.Bx.basculeref_times.run y3 y4).bind fun y5 =>
          (Go.Bx.basculeref_less.run y5 [1]).bind fun y6 =>
          (Go.Bx.basculeref_of.run x0).bind fun y7 =>
          (Go.Bx.basculeref_divided.run y6 y7).bind fun y8 =>
          (Go.Bx.basculeref_of.run y1.1).bind fun y9 =>
          (Go.Bx.basculeref_of.run y2.1).bind fun y10 =>
          (Go.Bx.basculeref_times.run y9 y10).bind fun y11 =>
          (Go.Bx.basculeref_plus.run y11 y8.1).bind fun y12 =>
          (Go.Bx.basculeref_rest.run y12 x1).bind fun y13 =>
          (Go.Bx.basculeref_opposite.run y13 x1).bind fun y14 =>
          Rt true y14
theorem top_eq (R : (List Int) → (List Int) → Option (List Int × Bool × Unit)) {α : Type} (k : Nat) (Q : Ex → St → Option α) (x0 : List Int) (x1 : List Int) :
    (den (C R) k) (cB Try.f134) Q (St0 x0 x1) = top R (fun (x5 : Bool) (c4 : List Int) => Q .ret (St1 x5 c4)) x0 x1 := by
  have h : ∀ (D L : DT α), denJ D L Js (C R) (cB Try.f134) Q (St0 x0 x1) =
        if (beqD (.arr 4 (.int .u64)) x1 [1, 0, 0, 0]) = true then
          Q .ret (St1 true [0, 0, 0, 0])
        else
          if (beqD (.arr 4 (.int .u64)) x0 [0, 0, 0, 0]) = true then
            Q .ret (St1 false [0, 0, 0, 0])
          else
            if (beqD (.arr 4 (.int .u64)) x0 [1, 0, 0, 0]) = true then
              Q .ret (St1 true x0)
            else
              (Go.Bx.basculeref_Quotient.run x1 x0).bind fun y1 =>
              (R y1.2.1 x0).bind fun y2 =>
              if (not y2.2.1) = true then
                Q .ret (St1 false [0, 0, 0, 0])
              else
                (Go.Bx.basculeref_of.run y1.2.1).bind fun y3 =>
                (Go.Bx.basculeref_of.run y2.1).bind fun y4 =>
                (Go.Bx.basculeref_times.run y3 y4).bind fun y5 =>
                (Go.Bx.basculeref_less.run y5 [1]).bind fun y6 =>
                (Go.Bx.basculeref_of.run x0).bind fun y7 =>
                (Go.Bx.basculeref_divided.run y6 y7).bind fun y8 =>
                (Go.Bx.basculeref_of.run y1.1).bind fun y9 =>
                (Go.Bx.basculeref_of.run y2.1).bind fun y10 =>
                (Go.Bx.basculeref_times.run y9 y10).bind fun y11 =>
                (Go.Bx.basculeref_plus.run y11 y8.1).bind fun y12 =>
                (Go.Bx.basculeref_rest.run y12 x1).bind fun y13 =>
                (Go.Bx.basculeref_opposite.run y13 x1).bind fun y14 =>
                Q .ret (St1 true y14) := by
    intro D L; kernel_rfl
  refine (show (den (C R) k) (cB Try.f134) Q (St0 x0 x1) = denJ (den (C R) k) (lp (C R) k) Js (C R) (cB Try.f134) Q (St0 x0 x1) from (denJ_den _ _ _ _ _ _).symm).trans ((h (den (C R) k) (lp (C R) k)).trans ?_)
  first | rfl | kernel_rfl
def runN : Nat → (List Int) → (List Int) → Option (List Int × Bool × Unit)
  | 0 => fun _ _ => none
  | n + 1 => fun x0 x1 => top (runN n) (α := List Int × Bool × Unit) (fun (x5 : Bool) (c4 : List Int) => some (c4, x5, ())) x0 x1
def run (x0 : List Int) (x1 : List Int) : Option (List Int × Bool × Unit) := runN fuel x0 x1
def F : Fn := FR (runN fuel)
theorem named : Named Try.prog 134 := named_of Try.func134 (by kernel_rfl) (by kernel_rfl)
set_option maxRecDepth 100000 in
theorem conN : ∀ n, Con Try.prog 134 (FR (runN n))
  | 0 => fun w I x r args hI h => by cases h
  | n + 1 => by
    refine con_of_den (C := C (runN n)) (ctx_ok (by kernel_rfl) (by kernel_rfl) (by kernel_rfl) (by kernel_rfl) ⟨.inl ⟨Go.Bx.basculeref_Quotient.con, Go.Bx.basculeref_Quotient.named⟩, ⟨.inl ⟨Go.Bx.basculeref_plus.con, Go.Bx.basculeref_plus.named⟩, ⟨.inl ⟨Go.Bx.basculeref_of.con, Go.Bx.basculeref_of.named⟩, ⟨.inl ⟨Go.Bx.basculeref_opposite.con, Go.Bx.basculeref_opposite.named⟩, ⟨.inl ⟨Go.Bx.basculeref_less.con, Go.Bx.basculeref_less.named⟩, ⟨.inl ⟨Go.Bx.basculeref_times.con, Go.Bx.basculeref_times.named⟩, ⟨.inl ⟨Go.Bx.basculeref_divided.con, Go.Bx.basculeref_divided.named⟩, ⟨.inl ⟨conN n, named⟩, ⟨.inl ⟨Go.Bx.basculeref_rest.con, Go.Bx.basculeref_rest.named⟩, trivial⟩⟩⟩⟩⟩⟩⟩⟩⟩) (by kernel_rfl) Try.func134 (c := cB Try.f134) (by kernel_rfl) (by kernel_rfl) (FR (runN (n + 1))) fuel (fun x => by simp [FR, spread, Try.ntmps134]) ?_
    intro x r h
    rw [← h]
    have h1 : start (FR (runN (n + 1))) Try.f134.ntmps x = (St0 x.1 x.2.1) := by kernel_rfl
    rw [h1]
    refine (top_eq (runN n) fuel (fin (C (runN n)) Try.f134.results.toList (FR (runN (n + 1))).rs (FR (runN (n + 1))).multi) x.1 x.2.1).trans ?_
    kernel_rfl
theorem con : Con Try.prog 134 F := conN fuel
end Go.Bx.basculeref_inverse
namespace Go.Bx.basculeref_Inverse
open Go Go.Proofs Go.Bx
set_option maxRecDepth 100000
set_option linter.unusedVariables false
def Js : List Nat := []
def C : Ctx := ⟨[(31, (.int .i64)), (45, (.arr 4 (.int .u64))), (198, (.sl (.arr 4 (.int .u64))))], [], [], fnL [(129, Go.Bx.basculeref_modulus.F), (134, Go.Bx.basculeref_inverse.F)], noSh, [], invL [], [(2, [4, 5])], [], [], 0, 0⟩
def St0 (x0 : List Int) (x1 : List Int) : St := stL 27 [(0, .data (.arr 4 (.int .u64)) x0), (1, .data (.arr 4 (.int .u64)) x1)] []
def St1 (x5 : Int) (c4 : List Int) : St := stL 27 [(4, .ref 4 0 []), (5, .data (.int .i64) x5)] [(4, .cell (.arr 4 (.int .u64)) (.data (.arr 4 (.int .u64)) c4) false)]
def top {α : Type} (Rt : Int → (List Int) → Option α) (x0 : List Int) (x1 : List Int) : Option α :=
  (Go.Bx.basculeref_modulus.run x1 [x0]).bind fun y1 =>
  if (y1 != 0) = true then
    Rt y1 [0, 0, 0, 0]
  else
    (Go.Bx.basculeref_inverse.run x0 x1).bind fun y2 =>
    if (not y2.2.1) = true then
      Rt 5 [0, 0, 0, 0]
    else
      Rt 0 y2.1
theorem top_eq {α : Type} (k : Nat) (Q : Ex → St → Option α) (x0 : List Int) (x1 : List Int) :
    (den C k) (cB Try.f59) Q (St0 x0 x1) = top (fun (x5 : Int) (c4 : List Int) => Q .ret (St1 x5 c4)) x0 x1 := by
  have h : ∀ (D L : DT α), denJ D L Js C (cB Try.f59) Q (St0 x0 x1) =
        (Go.Bx.basculeref_modulus.run x1 [x0]).bind fun y1 =>
        if (y1 != 0) = true then
          Q .ret (St1 y1 [0, 0, 0, 0])
        else
          (Go.Bx.basculeref_inverse.run x0 x1).bind fun y2 =>
          if (not y2.2.1) = true then
            Q .ret (St1 5 [0, 0, 0, 0])
          else
            Q .ret (St1 0 y2.1) := by
    intro D L; kernel_rfl
  refine (show (den C k) (cB Try.f59) Q (St0 x0 x1) = denJ (den C k) (lp C k) Js C (cB Try.f59) Q (St0 x0 x1) from (denJ_den _ _ _ _ _ _).symm).trans ((h (den C k) (lp C k)).trans ?_)
  first | rfl | kernel_rfl
def run (x0 : List Int) (x1 : List Int) : Option (List Int × Int × Unit) := top (α := List Int × Int × Unit) (fun (x5 : Int) (c4 : List Int) => some (c4, x5, ())) x0 x1
def F : Fn := ⟨(.pair (.arr 4 (.int .u64)) (.pair (.arr 4 (.int .u64)) .unit)), (.pair (.arr 4 (.int .u64)) (.pair (.int .i64) .unit)), true, fun x => run x.1 x.2.1⟩
set_option maxRecDepth 100000 in
theorem con : Con Try.prog 59 F := by
  refine con_of_den (C := C) (ctx_ok (by kernel_rfl) (by kernel_rfl) (by kernel_rfl) (by kernel_rfl) ⟨.inl ⟨Go.Bx.basculeref_modulus.con, Go.Bx.basculeref_modulus.named⟩, ⟨.inl ⟨Go.Bx.basculeref_inverse.con, Go.Bx.basculeref_inverse.named⟩, trivial⟩⟩) (by kernel_rfl) Try.func59 (c := cB Try.f59) (by kernel_rfl) (by kernel_rfl) F fuel (fun x => by simp [F, spread, Try.ntmps59]) ?_
  intro x r h
  rw [← h]
  have h1 : start F Try.f59.ntmps x = (St0 x.1 x.2.1) := by kernel_rfl
  rw [h1]
  refine (top_eq fuel (fin C Try.f59.results.toList F.rs F.multi) x.1 x.2.1).trans ?_
  kernel_rfl
theorem named : Named Try.prog 59 := named_of Try.func59 (by kernel_rfl) (by kernel_rfl)
end Go.Bx.basculeref_Inverse
namespace Go.Bx.basculeref_power
open Go Go.Proofs Go.Bx
set_option maxRecDepth 100000
set_option linter.unusedVariables false
def Js : List Nat := [11, 12, 13]
def C : Ctx := ⟨[(45, (.arr 4 (.int .u64))), (134, (.sl (.int .u64)))], [], [], fnL [(95, Go.Bx.basculeref_product.F), (161, Go.Bx.basculeref_rest.F)], noSh, [], invL [], [(2, [6]), (1, [6, 7]), (4, [3, 5, 6, 7, 14, 15]), (7, [3, 5, 6, 7, 14, 15]), (10, [3, 5, 6, 7, 9, 10, 14, 15]), (9, [3, 5, 6, 7, 14, 15]), (18, [3, 5, 6, 7, 9, 10, 14, 15]), (30, [3, 5, 6, 7, 9, 10, 14, 15]), (33, [3, 5, 6, 7, 14, 15]), (36, [6, 7])], [], [], 0, 0⟩
def St0 (x0 : List Int) (x1 : List Int) (x2 : List Int) : St := stL 37 [(0, .data (.arr 4 (.int .u64)) x0), (1, .data (.arr 4 (.int .u64)) x1), (2, .data (.arr 4 (.int .u64)) x2)] []
def St1 (x14 : List Int) (x15 : Int) (c3 : List Int) (c5 : List Int) (c6 : List Int) (c7 : List Int) : St := stL 37 [(3, .ref 3 0 []), (5, .ref 5 0 []), (6, .ref 6 0 []), (7, .ref 7 0 []), (14, .data (.arr 4 (.int .u64)) x14), (15, .data (.int .i64) x15)] [(3, .cell (.arr 4 (.int .u64)) (.data (.arr 4 (.int .u64)) c3) false), (5, .cell (.arr 4 (.int .u64)) (.data (.arr 4 (.int .u64)) c5) false), (6, .cell (.arr 4 (.int .u64)) (.data (.arr 4 (.int .u64)) c6) false), (7, .cell (.arr 4 (.int .u64)) (.data (.arr 4 (.int .u64)) c7) false)]
noncomputable def cd0 : Code := cL (cL (cR (cL (cR (cR (cB Try.f97))))))
def St2 (x9 : Int) (x10 : Int) (x14 : List Int) (x15 : Int) (c3 : List Int) (c5 : List Int) (c6 : List Int) (c7 : List Int) : St := stL 37 [(3, .ref 3 0 []), (5, .ref 5 0 []), (6, .ref 6 0 []), (7, .ref 7 0 []), (9, .data (.int .u64) x9), (10, .data (.int .i64) x10), (14, .data (.arr 4 (.int .u64)) x14), (15, .data (.int .i64) x15)] [(3, .cell (.arr 4 (.int .u64)) (.data (.arr 4 (.int .u64)) c3) false), (5, .cell (.arr 4 (.int .u64)) (.data (.arr 4 (.int .u64)) c5) false), (6, .cell (.arr 4 (.int .u64)) (.data (.arr 4 (.int .u64)) c6) false), (7, .cell (.arr 4 (.int .u64)) (.data (.arr 4 (.int .u64)) c7) false)]
noncomputable def cd1 : Code := cL (cL (cR (cR (cL (cL (cR (cR (cL (cL (cR (cL (cR (cR (cB Try.f97))))))))))))))
def St3 (x9 : Int) (x10 : Int) (x14 : List Int) (x15 : Int) (c3 : List Int) (c5 : List Int) (c6 : List Int) (c7 : List Int) : St := stL 37 [(3, .ref 3 0 []), (5, .ref 5 0 []), (6, .ref 6 0 []), (7, .ref 7 0 []), (9, .data (.int .u64) x9), (10, .data (.int .i64) x10), (14, .data (.arr 4 (.int .u64)) x14), (15, .data (.int .i64) x15)] [(3, .cell (.arr 4 (.int .u64)) (.data (.arr 4 (.int .u64)) c3) false), (5, .cell (.arr 4 (.int .u64)) (.data (.arr 4 (.int .u64)) c5) false), (6, .cell (.arr 4 (.int .u64)) (.data (.arr 4 (.int .u64)) c6) false), (7, .cell (.arr 4 (.int .u64)) (.data (.arr 4 (.int .u64)) c7) false)]
noncomputable def cd2 : Code := cR (cR (cL (cL (cR (cR (cL (cL (cR (cR (cL (cL (cR (cL (cR (cR (cB Try.f97))))))))))))))))
noncomputable def cd3 : Code := cR (cL (cL (cR (cL (cL (cR (cR (cL (cL (cR (cR (cL (cL (cR (cL (cR (cR (cB Try.f97))))))))))))))))))
def j0 {α : Type} (Nx : Int → Int → (List Int) → Int → (List Int) → (List Int) → (List Int) → (List Int) → Option α) (x9 : Int) (x10 : Int) (x14 : List Int) (x15 : Int) (c3 : List Int) (c5 : List Int) (c6 : List Int) (c7 : List Int) : Option α :=
  (Go.Bx.basculeref_product.run c3 c3 c5).bind fun y3 =>
  Nx x9 (IntKind.i64.wrap (x10 + 1)) x14 x15 y3 c5 c6 c7
theorem j0_eq {α : Type} (k : Nat) (next : St → Option α) (Q : Ex → St → Option α) (x9 : Int) (x10 : Int) (x14 : List Int) (x15 : Int) (c3 : List Int) (c5 : List Int) (c6 : List Int) (c7 : List Int) :
    (den C k) cd3 (blkQ C 3 (sq (den C k) (lp C k) Js C cd2 (lq C 18 next Q))) (St3 x9 x10 x14 x15 c3 c5 c6 c7) = j0 (fun (x9 : Int) (x10 : Int) (x14 : List Int) (x15 : Int) (c3 : List Int) (c5 : List Int) (c6 : List Int) (c7 : List Int) => next (St2 x9 x10 x14 x15 c3 c5 c6 c7)) x9 x10 x14 x15 c3 c5 c6 c7 := by
  have h : ∀ (D L : DT α), denJ D L Js C cd3 (blkQ C 3 (sq D L Js C cd2 (lq C 18 next Q))) (St3 x9 x10 x14 x15 c3 c5 c6 c7) =
        (Go.Bx.basculeref_product.run c3 c3 c5).bind fun y3 =>
        next (St2 x9 (IntKind.i64.wrap (x10 + 1)) x14 x15 y3 c5 c6 c7) := by
    intro D L; kernel_rfl
  refine (show (den C k) cd3 (blkQ C 3 (sq (den C k) (lp C k) Js C cd2 (lq C 18 next Q))) (St3 x9 x10 x14 x15 c3 c5 c6 c7) = denJ (den C k) (lp C k) Js C cd3 (blkQ C 3 (sq (den C k) (lp C k) Js C cd2 (lq C 18 next Q))) (St3 x9 x10 x14 x15 c3 c5 c6 c7) from (denJ_den _ _ _ _ _ _).symm).trans ((h (den C k) (lp C k)).trans ?_)
  first | rfl | kernel_rfl
def St4 (x14 : List Int) (x15 : Int) (c3 : List Int) (c5 : List Int) (c6 : List Int) (c7 : List Int) : St := stL 37 [(3, .ref 3 0 []), (5, .ref 5 0 []), (6, .ref 6 0 []), (7, .ref 7 0 []), (14, .data (.arr 4 (.int .u64)) x14), (15, .data (.int .i64) x15)] [(3, .cell (.arr 4 (.int .u64)) (.data (.arr 4 (.int .u64)) c3) false), (5, .cell (.arr 4 (.int .u64)) (.data (.arr 4 (.int .u64)) c5) false), (6, .cell (.arr 4 (.int .u64)) (.data (.arr 4 (.int .u64)) c6) false), (7, .cell (.arr 4 (.int .u64)) (.data (.arr 4 (.int .u64)) c7) false)]
def l1s {α : Type} (Nx : Int → Int → (List Int) → Int → (List Int) → (List Int) → (List Int) → (List Int) → Option α) (Xt2 : (List Int) → Int → (List Int) → (List Int) → (List Int) → (List Int) → Option α) (x9 : Int) (x10 : Int) (x14 : List Int) (x15 : Int) (c3 : List Int) (c5 : List Int) (c6 : List Int) (c7 : List Int) : Option α :=
  if (decide (x10 < 64)) = true then
    if 0 ≤ x10 then
      if ((band .u64 (shrI .u64 x9 x10) 1) == 1) = true then
        (Go.Bx.basculeref_product.run c7 c3 c5).bind fun y2 =>
        j0 Nx x9 x10 x14 x15 c3 c5 c6 y2
      else
        j0 Nx x9 x10 x14 x15 c3 c5 c6 c7
    else none
  else
    Xt2 x14 x15 c3 c5 c6 c7
theorem l1s_eq {α : Type} (k : Nat) (next : St → Option α) (Q : Ex → St → Option α) (x9 : Int) (x10 : Int) (x14 : List Int) (x15 : Int) (c3 : List Int) (c5 : List Int) (c6 : List Int) (c7 : List Int) :
    rnd C k cd1 18 Q next (St2 x9 x10 x14 x15 c3 c5 c6 c7) = l1s (fun (x9 : Int) (x10 : Int) (x14 : List Int) (x15 : Int) (c3 : List Int) (c5 : List Int) (c6 : List Int) (c7 : List Int) => next (St2 x9 x10 x14 x15 c3 c5 c6 c7)) (fun (x14 : List Int) (x15 : Int) (c3 : List Int) (c5 : List Int) (c6 : List Int) (c7 : List Int) => Q (.exit 2) (St4 x14 x15 c3 c5 c6 c7)) x9 x10 x14 x15 c3 c5 c6 c7 := by
  have h : ∀ (D L : DT α), denJ D L Js C cd1 (lq C 18 next Q) (St2 x9 x10 x14 x15 c3 c5 c6 c7) =
        if (decide (x10 < 64)) = true then
          if 0 ≤ x10 then
            if ((band .u64 (shrI .u64 x9 x10) 1) == 1) = true then
              (Go.Bx.basculeref_product.run c7 c3 c5).bind fun y2 =>
              D cd3 (blkQ C 3 (sq D L Js C cd2 (lq C 18 next Q))) (St3 x9 x10 x14 x15 c3 c5 c6 y2)
            else
              D cd3 (blkQ C 3 (sq D L Js C cd2 (lq C 18 next Q))) (St3 x9 x10 x14 x15 c3 c5 c6 c7)
          else none
        else
          Q (.exit 2) (St4 x14 x15 c3 c5 c6 c7) := by
    intro D L; kernel_rfl
  refine (show rnd C k cd1 18 Q next (St2 x9 x10 x14 x15 c3 c5 c6 c7) = denJ (den C k) (lp C k) Js C cd1 (lq C 18 next Q) (St2 x9 x10 x14 x15 c3 c5 c6 c7) from (denJ_den _ _ _ _ _ _).symm).trans ((h (den C k) (lp C k)).trans ?_)
  simp only [j0_eq]
  first | rfl | kernel_rfl
def l1 {α : Type} (k : Nat) (Xt2 : (List Int) → Int → (List Int) → (List Int) → (List Int) → (List Int) → Option α) : Nat → Int → Int → (List Int) → Int → (List Int) → (List Int) → (List Int) → (List Int) → Option α
  | 0, _, _, _, _, _, _, _, _ => none
  | n + 1, x9, x10, x14, x15, c3, c5, c6, c7 => l1s (l1 k Xt2 n) Xt2 x9 x10 x14 x15 c3 c5 c6 c7
theorem l1_eq {α : Type} (k : Nat) (Q : Ex → St → Option α) : ∀ (n : Nat) (x9 : Int) (x10 : Int) (x14 : List Int) (x15 : Int) (c3 : List Int) (c5 : List Int) (c6 : List Int) (c7 : List Int), iter (rnd C k cd1 18 Q) n (St2 x9 x10 x14 x15 c3 c5 c6 c7) = l1 k (fun (x14 : List Int) (x15 : Int) (c3 : List Int) (c5 : List Int) (c6 : List Int) (c7 : List Int) => Q (.exit 2) (St4 x14 x15 c3 c5 c6 c7)) n x9 x10 x14 x15 c3 c5 c6 c7
  | 0, _, _, _, _, _, _, _, _ => rfl
  | n + 1, x9, x10, x14, x15, c3, c5, c6, c7 => (iter_succ _ _ _).trans ((l1s_eq k (iter (rnd C k cd1 18 Q) n) Q x9 x10 x14 x15 c3 c5 c6 c7).trans (congrArg (fun N => l1s N (fun (x14 : List Int) (x15 : Int) (c3 : List Int) (c5 : List Int) (c6 : List Int) (c7 : List Int) => Q (.exit 2) (St4 x14 x15 c3 c5 c6 c7)) x9 x10 x14 x15 c3 c5 c6 c7) (funext fun x9 => funext fun x10 => funext fun x14 => funext fun x15 => funext fun c3 => funext fun c5 => funext fun c6 => funext fun c7 => l1_eq k Q n x9 x10 x14 x15 c3 c5 c6 c7)))
theorem l1_congr {α : Type} (k : Nat) (Xt2 : (List Int) → Int → (List Int) → (List Int) → (List Int) → (List Int) → Option α) (Xt2q : (List Int) → Int → (List Int) → (List Int) → (List Int) → (List Int) → Option α) (hXt2 : ∀ (x14 : List Int) (x15 : Int) (c3 : List Int) (c5 : List Int) (c6 : List Int) (c7 : List Int), Xt2 x14 x15 c3 c5 c6 c7 = Xt2q x14 x15 c3 c5 c6 c7) (n : Nat) (x9 : Int) (x10 : Int) (x14 : List Int) (x15 : Int) (c3 : List Int) (c5 : List Int) (c6 : List Int) (c7 : List Int) : l1 k Xt2 n x9 x10 x14 x15 c3 c5 c6 c7 = l1 k Xt2q n x9 x10 x14 x15 c3 c5 c6 c7 := by
  obtain rfl : Xt2 = Xt2q := by funext x14; funext x15; funext c3; funext c5; funext c6; funext c7; exact hXt2 x14 x15 c3 c5 c6 c7
  rfl
noncomputable def cd4 : Code := cR (cR (cR (cL (cL (cR (cL (cR (cR (cB Try.f97)))))))))
def St5 (x14 : List Int) (x15 : Int) (c3 : List Int) (c5 : List Int) (c6 : List Int) (c7 : List Int) : St := stL 37 [(3, .ref 3 0 []), (5, .ref 5 0 []), (6, .ref 6 0 []), (7, .ref 7 0 []), (14, .data (.arr 4 (.int .u64)) x14), (15, .data (.int .i64) x15)] [(3, .cell (.arr 4 (.int .u64)) (.data (.arr 4 (.int .u64)) c3) false), (5, .cell (.arr 4 (.int .u64)) (.data (.arr 4 (.int .u64)) c5) false), (6, .cell (.arr 4 (.int .u64)) (.data (.arr 4 (.int .u64)) c6) false), (7, .cell (.arr 4 (.int .u64)) (.data (.arr 4 (.int .u64)) c7) false)]
def j1 {α : Type} (Nx : (List Int) → Int → (List Int) → (List Int) → (List Int) → (List Int) → Option α) (x14 : List Int) (x15 : Int) (c3 : List Int) (c5 : List Int) (c6 : List Int) (c7 : List Int) : Option α :=
  Nx x14 (IntKind.i64.wrap (x15 + 1)) c3 c5 c6 c7
theorem j1_eq {α : Type} (k : Nat) (next : St → Option α) (Q : Ex → St → Option α) (x14 : List Int) (x15 : Int) (c3 : List Int) (c5 : List Int) (c6 : List Int) (c7 : List Int) :
    (den C k) cd4 (lq C 9 next Q) (St5 x14 x15 c3 c5 c6 c7) = j1 (fun (x14 : List Int) (x15 : Int) (c3 : List Int) (c5 : List Int) (c6 : List Int) (c7 : List Int) => next (St1 x14 x15 c3 c5 c6 c7)) x14 x15 c3 c5 c6 c7 := by
  have h : ∀ (D L : DT α), denJ D L Js C cd4 (lq C 9 next Q) (St5 x14 x15 c3 c5 c6 c7) =
        next (St1 x14 (IntKind.i64.wrap (x15 + 1)) c3 c5 c6 c7) := by
    intro D L; kernel_rfl
  refine (show (den C k) cd4 (lq C 9 next Q) (St5 x14 x15 c3 c5 c6 c7) = denJ (den C k) (lp C k) Js C cd4 (lq C 9 next Q) (St5 x14 x15 c3 c5 c6 c7) from (denJ_den _ _ _ _ _ _).symm).trans ((h (den C k) (lp C k)).trans ?_)
  first | rfl | kernel_rfl
theorem a0 {α : Type} (k : Nat) (next : St → Option α) (Q : Ex → St → Option α) (x9 : Int) (x10 : Int) (x14 : List Int) (x15 : Int) (c3 : List Int) (c5 : List Int) (c6 : List Int) (c7 : List Int) :
    (lp C k) cd1 (blkQ C 2 (blkQ C 1 (sq (den C k) (lp C k) Js C cd4 (lq C 9 next Q)))) (St2 x9 x10 x14 x15 c3 c5 c6 c7) = l1 k (fun (x14 : List Int) (x15 : Int) (c3 : List Int) (c5 : List Int) (c6 : List Int) (c7 : List Int) => j1 (fun (x14 : List Int) (x15 : Int) (c3 : List Int) (c5 : List Int) (c6 : List Int) (c7 : List Int) => next (St1 x14 x15 c3 c5 c6 c7)) x14 x15 c3 c5 c6 c7) k x9 x10 x14 x15 c3 c5 c6 c7 :=
  (show (lp C k) cd1 (blkQ C 2 (blkQ C 1 (sq (den C k) (lp C k) Js C cd4 (lq C 9 next Q)))) (St2 x9 x10 x14 x15 c3 c5 c6 c7) = iter (rnd C k cd1 18 (blkQ C 2 (blkQ C 1 (sq (den C k) (lp C k) Js C cd4 (lq C 9 next Q))))) k (St2 x9 x10 x14 x15 c3 c5 c6 c7) by kernel_rfl).trans ((l1_eq k (blkQ C 2 (blkQ C 1 (sq (den C k) (lp C k) Js C cd4 (lq C 9 next Q)))) k x9 x10 x14 x15 c3 c5 c6 c7).trans (l1_congr k _ _ (fun x14 x15 c3 c5 c6 c7 => ((show (blkQ C 2 (blkQ C 1 (sq (den C k) (lp C k) Js C cd4 (lq C 9 next Q)))) (.exit 2) (St4 x14 x15 c3 c5 c6 c7) = (den C k) cd4 (lq C 9 next Q) (St5 x14 x15 c3 c5 c6 c7) by kernel_rfl).trans (by simp only [j1_eq]))) k x9 x10 x14 x15 c3 c5 c6 c7))
def St6 (c6 : List Int) (c7 : List Int) : St := stL 37 [(6, .ref 6 0 []), (7, .ref 7 0 [])] [(6, .cell (.arr 4 (.int .u64)) (.data (.arr 4 (.int .u64)) c6) false), (7, .cell (.arr 4 (.int .u64)) (.data (.arr 4 (.int .u64)) c7) false)]
def l0s {α : Type} (k : Nat) (Nx : (List Int) → Int → (List Int) → (List Int) → (List Int) → (List Int) → Option α) (Xt0 : (List Int) → (List Int) → Option α) (x14 : List Int) (x15 : Int) (c3 : List Int) (c5 : List Int) (c6 : List Int) (c7 : List Int) : Option α :=
  if (decide (x15 < 4)) = true then
    if 0 ≤ x15 ∧ x15 < (4 : Int) then
      l1 k (fun (x14 : List Int) (x15 : Int) (c3 : List Int) (c5 : List Int) (c6 : List Int) (c7 : List Int) => j1 Nx x14 x15 c3 c5 c6 c7) k (List.getD x14 (Int.toNat x15) 0) 0 x14 x15 c3 c5 c6 c7
    else none
  else
    Xt0 c6 c7
theorem l0s_eq {α : Type} (k : Nat) (next : St → Option α) (Q : Ex → St → Option α) (x14 : List Int) (x15 : Int) (c3 : List Int) (c5 : List Int) (c6 : List Int) (c7 : List Int) :
    rnd C k cd0 9 Q next (St1 x14 x15 c3 c5 c6 c7) = l0s k (fun (x14 : List Int) (x15 : Int) (c3 : List Int) (c5 : List Int) (c6 : List Int) (c7 : List Int) => next (St1 x14 x15 c3 c5 c6 c7)) (fun (c6 : List Int) (c7 : List Int) => Q (.exit 0) (St6 c6 c7)) x14 x15 c3 c5 c6 c7 := by
  have h : ∀ (D L : DT α), denJ D L Js C cd0 (lq C 9 next Q) (St1 x14 x15 c3 c5 c6 c7) =
        if (decide (x15 < 4)) = true then
          if 0 ≤ x15 ∧ x15 < (4 : Int) then
            L cd1 (blkQ C 2 (blkQ C 1 (sq D L Js C cd4 (lq C 9 next Q)))) (St2 (List.getD x14 (Int.toNat x15) 0) 0 x14 x15 c3 c5 c6 c7)
          else none
        else
          Q (.exit 0) (St6 c6 c7) := by
    intro D L; kernel_rfl
  refine (show rnd C k cd0 9 Q next (St1 x14 x15 c3 c5 c6 c7) = denJ (den C k) (lp C k) Js C cd0 (lq C 9 next Q) (St1 x14 x15 c3 c5 c6 c7) from (denJ_den _ _ _ _ _ _).symm).trans ((h (den C k) (lp C k)).trans ?_)
  simp only [a0]
  first | rfl | kernel_rfl
def l0 {α : Type} (k : Nat) (Xt0 : (List Int) → (List Int) → Option α) : Nat → (List Int) → Int → (List Int) → (List Int) → (List Int) → (List Int) → Option α
  | 0, _, _, _, _, _, _ => none
  | n + 1, x14, x15, c3, c5, c6, c7 => l0s k (l0 k Xt0 n) Xt0 x14 x15 c3 c5 c6 c7
theorem l0_eq {α : Type} (k : Nat) (Q : Ex → St → Option α) : ∀ (n : Nat) (x14 : List Int) (x15 : Int) (c3 : List Int) (c5 : List Int) (c6 : List Int) (c7 : List Int), iter (rnd C k cd0 9 Q) n (St1 x14 x15 c3 c5 c6 c7) = l0 k (fun (c6 : List Int) (c7 : List Int) => Q (.exit 0) (St6 c6 c7)) n x14 x15 c3 c5 c6 c7
  | 0, _, _, _, _, _, _ => rfl
  | n + 1, x14, x15, c3, c5, c6, c7 => (iter_succ _ _ _).trans ((l0s_eq k (iter (rnd C k cd0 9 Q) n) Q x14 x15 c3 c5 c6 c7).trans (congrArg (fun N => l0s k N (fun (c6 : List Int) (c7 : List Int) => Q (.exit 0) (St6 c6 c7)) x14 x15 c3 c5 c6 c7) (funext fun x14 => funext fun x15 => funext fun c3 => funext fun c5 => funext fun c6 => funext fun c7 => l0_eq k Q n x14 x15 c3 c5 c6 c7)))
theorem l0_congr {α : Type} (k : Nat) (Xt0 : (List Int) → (List Int) → Option α) (Xt0q : (List Int) → (List Int) → Option α) (hXt0 : ∀ (c6 : List Int) (c7 : List Int), Xt0 c6 c7 = Xt0q c6 c7) (n : Nat) (x14 : List Int) (x15 : Int) (c3 : List Int) (c5 : List Int) (c6 : List Int) (c7 : List Int) : l0 k Xt0 n x14 x15 c3 c5 c6 c7 = l0 k Xt0q n x14 x15 c3 c5 c6 c7 := by
  obtain rfl : Xt0 = Xt0q := by funext c6; funext c7; exact hXt0 c6 c7
  rfl
noncomputable def cd5 : Code := cR (cR (cR (cB Try.f97)))
def St7 (c6 : List Int) (c7 : List Int) : St := stL 37 [(6, .ref 6 0 []), (7, .ref 7 0 [])] [(6, .cell (.arr 4 (.int .u64)) (.data (.arr 4 (.int .u64)) c6) false), (7, .cell (.arr 4 (.int .u64)) (.data (.arr 4 (.int .u64)) c7) false)]
def St8 (c6 : List Int) : St := stL 37 [(6, .ref 6 0 [])] [(6, .cell (.arr 4 (.int .u64)) (.data (.arr 4 (.int .u64)) c6) false)]
def j2 {α : Type} (Rt : (List Int) → Option α) (c6 : List Int) (c7 : List Int) : Option α :=
  Rt c7
theorem j2_eq {α : Type} (k : Nat) (Q : Ex → St → Option α) (c6 : List Int) (c7 : List Int) :
    (den C k) cd5 Q (St7 c6 c7) = j2 (fun (c6 : List Int) => Q .ret (St8 c6)) c6 c7 := by
  have h : ∀ (D L : DT α), denJ D L Js C cd5 Q (St7 c6 c7) =
        Q .ret (St8 c7) := by
    intro D L; kernel_rfl
  refine (show (den C k) cd5 Q (St7 c6 c7) = denJ (den C k) (lp C k) Js C cd5 Q (St7 c6 c7) from (denJ_den _ _ _ _ _ _).symm).trans ((h (den C k) (lp C k)).trans ?_)
  first | rfl | kernel_rfl
theorem a1 {α : Type} (k : Nat) (Q : Ex → St → Option α) (x14 : List Int) (x15 : Int) (c3 : List Int) (c5 : List Int) (c6 : List Int) (c7 : List Int) :
    (lp C k) cd0 (blkQ C 0 (sq (den C k) (lp C k) Js C cd5 Q)) (St1 x14 x15 c3 c5 c6 c7) = l0 k (fun (c6 : List Int) (c7 : List Int) => j2 (fun (c6 : List Int) => Q .ret (St8 c6)) c6 c7) k x14 x15 c3 c5 c6 c7 :=
  (show (lp C k) cd0 (blkQ C 0 (sq (den C k) (lp C k) Js C cd5 Q)) (St1 x14 x15 c3 c5 c6 c7) = iter (rnd C k cd0 9 (blkQ C 0 (sq (den C k) (lp C k) Js C cd5 Q))) k (St1 x14 x15 c3 c5 c6 c7) by kernel_rfl).trans ((l0_eq k (blkQ C 0 (sq (den C k) (lp C k) Js C cd5 Q)) k x14 x15 c3 c5 c6 c7).trans (l0_congr k _ _ (fun c6 c7 => ((show (blkQ C 0 (sq (den C k) (lp C k) Js C cd5 Q)) (.exit 0) (St6 c6 c7) = (den C k) cd5 Q (St7 c6 c7) by kernel_rfl).trans (by simp only [j2_eq]))) k x14 x15 c3 c5 c6 c7))
def top {α : Type} (k : Nat) (Rt : (List Int) → Option α) (x0 : List Int) (x1 : List Int) (x2 : List Int) : Option α :=
  (Go.Bx.basculeref_rest.run [1] x2).bind fun y1 =>
  l0 k (fun (c6 : List Int) (c7 : List Int) => j2 Rt c6 c7) k x1 0 x0 x2 [0, 0, 0, 0] y1
theorem top_eq {α : Type} (k : Nat) (Q : Ex → St → Option α) (x0 : List Int) (x1 : List Int) (x2 : List Int) :
    (den C k) (cB Try.f97) Q (St0 x0 x1 x2) = top k (fun (c6 : List Int) => Q .ret (St8 c6)) x0 x1 x2 := by
  have h : ∀ (D L : DT α), denJ D L Js C (cB Try.f97) Q (St0 x0 x1 x2) =
        (Go.Bx.basculeref_rest.run [1] x2).bind fun y1 =>
        L cd0 (blkQ C 0 (sq D L Js C cd5 Q)) (St1 x1 0 x0 x2 [0, 0, 0, 0] y1) := by
    intro D L; kernel_rfl
  refine (show (den C k) (cB Try.f97) Q (St0 x0 x1 x2) = denJ (den C k) (lp C k) Js C (cB Try.f97) Q (St0 x0 x1 x2) from (denJ_den _ _ _ _ _ _).symm).trans ((h (den C k) (lp C k)).trans ?_)
  simp only [a1]
  first | rfl | kernel_rfl
def run (x0 : List Int) (x1 : List Int) (x2 : List Int) : Option (List Int) := top (α := List Int) fuel (fun (c6 : List Int) => some c6) x0 x1 x2
def F : Fn := ⟨(.pair (.arr 4 (.int .u64)) (.pair (.arr 4 (.int .u64)) (.pair (.arr 4 (.int .u64)) .unit))), (.arr 4 (.int .u64)), false, fun x => run x.1 x.2.1 x.2.2.1⟩
set_option maxRecDepth 100000 in
theorem con : Con Try.prog 97 F := by
  refine con_of_den (C := C) (ctx_ok (by kernel_rfl) (by kernel_rfl) (by kernel_rfl) (by kernel_rfl) ⟨.inl ⟨Go.Bx.basculeref_product.con, Go.Bx.basculeref_product.named⟩, ⟨.inl ⟨Go.Bx.basculeref_rest.con, Go.Bx.basculeref_rest.named⟩, trivial⟩⟩) (by kernel_rfl) Try.func97 (c := cB Try.f97) (by kernel_rfl) (by kernel_rfl) F fuel (fun x => by simp [F, spread, Try.ntmps97]) ?_
  intro x r h
  rw [← h]
  have h1 : start F Try.f97.ntmps x = (St0 x.1 x.2.1 x.2.2.1) := by kernel_rfl
  rw [h1]
  refine (top_eq fuel (fin C Try.f97.results.toList F.rs F.multi) x.1 x.2.1 x.2.2.1).trans ?_
  kernel_rfl
theorem named : Named Try.prog 97 := named_of Try.func97 (by kernel_rfl) (by kernel_rfl)
end Go.Bx.basculeref_power
namespace Go.Bx.field_Pow_1_s0
open Go Go.Proofs Go.Bx
set_option maxRecDepth 100000
set_option linter.unusedVariables false
def Js : List Nat := []
def C : Ctx := ⟨[(45, (.arr 4 (.int .u64)))], [], [], fnL [(130, Go.Bx.field_mul.F)], noSh, [], invL [], [(2, [])], [], [], 3, 0⟩
def St0 (x0 : Bool) (c0 : List Int) (c1 : List Int) (c2 : List Int) : St := stL 14 [(0, .data .bool x0), (1, .ref 0 0 []), (2, .ref 1 0 []), (3, .ref 2 0 [])] [(0, .cell (.arr 4 (.int .u64)) (.data (.arr 4 (.int .u64)) c0) false), (1, .cell (.arr 4 (.int .u64)) (.data (.arr 4 (.int .u64)) c1) false), (2, .cell (.arr 4 (.int .u64)) (.data (.arr 4 (.int .u64)) c2) false)]
def St1 (c0 : List Int) (c1 : List Int) (c2 : List Int) : St := stL 14 [] [(0, .cell (.arr 4 (.int .u64)) (.data (.arr 4 (.int .u64)) c0) false), (1, .cell (.arr 4 (.int .u64)) (.data (.arr 4 (.int .u64)) c1) false), (2, .cell (.arr 4 (.int .u64)) (.data (.arr 4 (.int .u64)) c2) false)]
def top {α : Type} (Rt : (List Int) → (List Int) → (List Int) → Option α) (x0 : Bool) (c0 : List Int) (c1 : List Int) (c2 : List Int) : Option α :=
  (Go.Bx.field_mul.run c0 c0 c1).bind fun y1 =>
  if x0 = true then
    (Go.Bx.field_mul.run y1 c2 c1).bind fun y2 =>
    Rt y2 c1 c2
  else
    Rt y1 c1 c2
theorem top_eq {α : Type} (k : Nat) (Q : Ex → St → Option α) (x0 : Bool) (c0 : List Int) (c1 : List Int) (c2 : List Int) :
    (den C k) (cB Try.f133) (endQ C Q) (St0 x0 c0 c1 c2) = top (fun (c0 : List Int) (c1 : List Int) (c2 : List Int) => Q .ret (St1 c0 c1 c2)) x0 c0 c1 c2 := by
  have h : ∀ (D L : DT α), denJ D L Js C (cB Try.f133) (endQ C Q) (St0 x0 c0 c1 c2) =
        (Go.Bx.field_mul.run c0 c0 c1).bind fun y1 =>
        if x0 = true then
          (Go.Bx.field_mul.run y1 c2 c1).bind fun y2 =>
          Q .ret (St1 y2 c1 c2)
        else
          Q .ret (St1 y1 c1 c2) := by
    intro D L; kernel_rfl
  refine (show (den C k) (cB Try.f133) (endQ C Q) (St0 x0 c0 c1 c2) = denJ (den C k) (lp C k) Js C (cB Try.f133) (endQ C Q) (St0 x0 c0 c1 c2) from (denJ_den _ _ _ _ _ _).symm).trans ((h (den C k) (lp C k)).trans ?_)
  first | rfl | kernel_rfl
def run (x0 : Bool) (c0 : List Int) (c1 : List Int) (c2 : List Int) : Option (List Int × List Int × List Int × Unit) := top (α := List Int × List Int × List Int × Unit) (fun (c0 : List Int) (c1 : List Int) (c2 : List Int) => some (c0, c1, c2, ())) x0 c0 c1 c2
def Sp : Spec := ⟨[hD .bool, .ref 0 0 [], .ref 1 0 [], .ref 2 0 []], [(0, hC (.arr 4 (.int .u64)) (hD (.arr 4 (.int .u64))) false), (1, hC (.arr 4 (.int .u64)) (hD (.arr 4 (.int .u64))) false), (2, hC (.arr 4 (.int .u64)) (hD (.arr 4 (.int .u64))) false)], (.pair .bool (.pair (.arr 4 (.int .u64)) (.pair (.arr 4 (.int .u64)) (.pair (.arr 4 (.int .u64)) .unit)))), .tup [], [(0, hC (.arr 4 (.int .u64)) (hD (.arr 4 (.int .u64))) false), (1, hC (.arr 4 (.int .u64)) (hD (.arr 4 (.int .u64))) false), (2, hC (.arr 4 (.int .u64)) (hD (.arr 4 (.int .u64))) false)], (.pair (.arr 4 (.int .u64)) (.pair (.arr 4 (.int .u64)) (.pair (.arr 4 (.int .u64)) .unit))), fun x => run x.1 x.2.1 x.2.2.1 x.2.2.2.1⟩
set_option maxRecDepth 100000 in
theorem sok : SOk Try.prog 133 Sp.h := by
  refine sok_of_den (C := C) (ctx_ok (by kernel_rfl) (by kernel_rfl) (by kernel_rfl) (by kernel_rfl) ⟨.inl ⟨Go.Bx.field_mul.con, Go.Bx.field_mul.named⟩, trivial⟩) (by kernel_rfl) Try.func133 (c := cB Try.f133) (by kernel_rfl) (by kernel_rfl) Sp fuel (by kernel_rfl) (by kernel_rfl) ?_
  intro x r h
  rw [← h]
  have h1 : Sp.start x Try.f133.ntmps = (St0 x.1 x.2.1 x.2.2.1 x.2.2.2.1) := by kernel_rfl
  rw [h1]
  refine (top_eq fuel (finS C Try.f133.results.toList Sp.read) x.1 x.2.1 x.2.2.1 x.2.2.2.1).trans ?_
  kernel_rfl
theorem named : Named Try.prog 133 := named_of Try.func133 (by kernel_rfl) (by kernel_rfl)
end Go.Bx.field_Pow_1_s0
namespace Go.Bx.field_bits_s1
open Go Go.Proofs Go.Bx
set_option maxRecDepth 100000
set_option linter.unusedVariables false
def Js : List Nat := [5, 9]
def C : Ctx := ⟨[(24, (.int .u64)), (45, (.arr 4 (.int .u64)))], [], [], fnL [], shL [(133, [.one Go.Bx.field_Pow_1_s0.Sp])], [(38, 40)], invL [], [(2, []), (1, []), (4, [1, 2, 4, 5]), (7, [1, 2, 4, 5]), (10, [1, 2, 4, 5, 6]), (9, [1, 2, 4, 5]), (12, [1, 2, 4, 5]), (21, [1, 2, 4, 5, 6]), (24, [1, 2, 4, 5, 6])], [], [], 3, 0⟩
def St0 (x0 : List Int) (c0 : List Int) (c1 : List Int) (c2 : List Int) : St := stL 39 [(0, .data (.arr 4 (.int .u64)) x0), (1, .fn 133 [] [.ref 0 0 [], .ref 1 0 [], .ref 2 0 []])] [(0, .cell (.arr 4 (.int .u64)) (.data (.arr 4 (.int .u64)) c0) false), (1, .cell (.arr 4 (.int .u64)) (.data (.arr 4 (.int .u64)) c1) false), (2, .cell (.arr 4 (.int .u64)) (.data (.arr 4 (.int .u64)) c2) false)]
def St1 (x4 : Bool) (x5 : Int) (c0 : List Int) (c1 : List Int) (c2 : List Int) (c5 : List Int) : St := stL 39 [(1, .fn 133 [] [.ref 0 0 [], .ref 1 0 [], .ref 2 0 []]), (2, .ref 5 0 []), (4, .data .bool x4), (5, .data (.int .i64) x5)] [(0, .cell (.arr 4 (.int .u64)) (.data (.arr 4 (.int .u64)) c0) false), (1, .cell (.arr 4 (.int .u64)) (.data (.arr 4 (.int .u64)) c1) false), (2, .cell (.arr 4 (.int .u64)) (.data (.arr 4 (.int .u64)) c2) false), (5, .cell (.arr 4 (.int .u64)) (.data (.arr 4 (.int .u64)) c5) false)]
noncomputable def cd0 : Code := cL (cL (cR (cR (cR (cB Try.f132)))))
def St2 (x4 : Bool) (x5 : Int) (c0 : List Int) (c1 : List Int) (c2 : List Int) (c5 : List Int) : St := stL 39 [(1, .fn 133 [] [.ref 0 0 [], .ref 1 0 [], .ref 2 0 []]), (2, .ref 5 0 []), (4, .data .bool x4), (5, .data (.int .i64) x5)] [(0, .cell (.arr 4 (.int .u64)) (.data (.arr 4 (.int .u64)) c0) false), (1, .cell (.arr 4 (.int .u64)) (.data (.arr 4 (.int .u64)) c1) false), (2, .cell (.arr 4 (.int .u64)) (.data (.arr 4 (.int .u64)) c2) false), (5, .cell (.arr 4 (.int .u64)) (.data (.arr 4 (.int .u64)) c5) false)]
noncomputable def cd1 : Code := cR (cR (cL (cL (cR (cR (cR (cB Try.f132)))))))
def j0 {α : Type} (Nx : Bool → Int → (List Int) → (List Int) → (List Int) → (List Int) → Option α) (x4 : Bool) (x5 : Int) (c0 : List Int) (c1 : List Int) (c2 : List Int) (c5 : List Int) : Option α :=
  Nx x4 (IntKind.i64.wrap (x5 - 1)) c0 c1 c2 c5
theorem j0_eq {α : Type} (k : Nat) (next : St → Option α) (Q : Ex → St → Option α) (x4 : Bool) (x5 : Int) (c0 : List Int) (c1 : List Int) (c2 : List Int) (c5 : List Int) :
    (den C k) cd1 (lq C 9 next Q) (St2 x4 x5 c0 c1 c2 c5) = j0 (fun (x4 : Bool) (x5 : Int) (c0 : List Int) (c1 : List Int) (c2 : List Int) (c5 : List Int) => next (St1 x4 x5 c0 c1 c2 c5)) x4 x5 c0 c1 c2 c5 := by
  have h : ∀ (D L : DT α), denJ D L Js C cd1 (lq C 9 next Q) (St2 x4 x5 c0 c1 c2 c5) =
        next (St1 x4 (IntKind.i64.wrap (x5 - 1)) c0 c1 c2 c5) := by
    intro D L; kernel_rfl
  refine (show (den C k) cd1 (lq C 9 next Q) (St2 x4 x5 c0 c1 c2 c5) = denJ (den C k) (lp C k) Js C cd1 (lq C 9 next Q) (St2 x4 x5 c0 c1 c2 c5) from (denJ_den _ _ _ _ _ _).symm).trans ((h (den C k) (lp C k)).trans ?_)
  first | rfl | kernel_rfl
def St3 (x4 : Bool) (x5 : Int) (x6 : Int) (c0 : List Int) (c1 : List Int) (c2 : List Int) (c5 : List Int) : St := stL 39 [(1, .fn 133 [] [.ref 0 0 [], .ref 1 0 [], .ref 2 0 []]), (2, .ref 5 0 []), (4, .data .bool x4), (5, .data (.int .i64) x5), (6, .data (.int .i64) x6)] [(0, .cell (.arr 4 (.int .u64)) (.data (.arr 4 (.int .u64)) c0) false), (1, .cell (.arr 4 (.int .u64)) (.data (.arr 4 (.int .u64)) c1) false), (2, .cell (.arr 4 (.int .u64)) (.data (.arr 4 (.int .u64)) c2) false), (5, .cell (.arr 4 (.int .u64)) (.data (.arr 4 (.int .u64)) c5) false)]
noncomputable def cd2 : Code := cL (cL (cR (cR (cL (cL (cR (cL (cL (cR (cR (cR (cB Try.f132))))))))))))
def St4 (x4 : Bool) (x5 : Int) (x6 : Int) (c0 : List Int) (c1 : List Int) (c2 : List Int) (c5 : List Int) : St := stL 39 [(1, .fn 133 [] [.ref 0 0 [], .ref 1 0 [], .ref 2 0 []]), (2, .ref 5 0 []), (4, .data .bool x4), (5, .data (.int .i64) x5), (6, .data (.int .i64) x6)] [(0, .cell (.arr 4 (.int .u64)) (.data (.arr 4 (.int .u64)) c0) false), (1, .cell (.arr 4 (.int .u64)) (.data (.arr 4 (.int .u64)) c1) false), (2, .cell (.arr 4 (.int .u64)) (.data (.arr 4 (.int .u64)) c2) false), (5, .cell (.arr 4 (.int .u64)) (.data (.arr 4 (.int .u64)) c5) false)]
noncomputable def cd3 : Code := cR (cR (cL (cL (cR (cR (cL (cL (cR (cL (cL (cR (cR (cR (cB Try.f132))))))))))))))
def j1 {α : Type} (Nx : Bool → Int → Int → (List Int) → (List Int) → (List Int) → (List Int) → Option α) (x4 : Bool) (x5 : Int) (x6 : Int) (c0 : List Int) (c1 : List Int) (c2 : List Int) (c5 : List Int) : Option α :=
  Nx x4 x5 (IntKind.i64.wrap (x6 - 1)) c0 c1 c2 c5
theorem j1_eq {α : Type} (k : Nat) (next : St → Option α) (Q : Ex → St → Option α) (x4 : Bool) (x5 : Int) (x6 : Int) (c0 : List Int) (c1 : List Int) (c2 : List Int) (c5 : List Int) :
    (den C k) cd3 (lq C 21 next Q) (St4 x4 x5 x6 c0 c1 c2 c5) = j1 (fun (x4 : Bool) (x5 : Int) (x6 : Int) (c0 : List Int) (c1 : List Int) (c2 : List Int) (c5 : List Int) => next (St3 x4 x5 x6 c0 c1 c2 c5)) x4 x5 x6 c0 c1 c2 c5 := by
  have h : ∀ (D L : DT α), denJ D L Js C cd3 (lq C 21 next Q) (St4 x4 x5 x6 c0 c1 c2 c5) =
        next (St3 x4 x5 (IntKind.i64.wrap (x6 - 1)) c0 c1 c2 c5) := by
    intro D L; kernel_rfl
  refine (show (den C k) cd3 (lq C 21 next Q) (St4 x4 x5 x6 c0 c1 c2 c5) = denJ (den C k) (lp C k) Js C cd3 (lq C 21 next Q) (St4 x4 x5 x6 c0 c1 c2 c5) from (denJ_den _ _ _ _ _ _).symm).trans ((h (den C k) (lp C k)).trans ?_)
  first | rfl | kernel_rfl
def St5 (x4 : Bool) (x5 : Int) (c0 : List Int) (c1 : List Int) (c2 : List Int) (c5 : List Int) : St := stL 39 [(1, .fn 133 [] [.ref 0 0 [], .ref 1 0 [], .ref 2 0 []]), (2, .ref 5 0 []), (4, .data .bool x4), (5, .data (.int .i64) x5)] [(0, .cell (.arr 4 (.int .u64)) (.data (.arr 4 (.int .u64)) c0) false), (1, .cell (.arr 4 (.int .u64)) (.data (.arr 4 (.int .u64)) c1) false), (2, .cell (.arr 4 (.int .u64)) (.data (.arr 4 (.int .u64)) c2) false), (5, .cell (.arr 4 (.int .u64)) (.data (.arr 4 (.int .u64)) c5) false)]
def l1s {α : Type} (Nx : Bool → Int → Int → (List Int) → (List Int) → (List Int) → (List Int) → Option α) (Xt2 : Bool → Int → (List Int) → (List Int) → (List Int) → (List Int) → Option α) (x4 : Bool) (x5 : Int) (x6 : Int) (c0 : List Int) (c1 : List Int) (c2 : List Int) (c5 : List Int) : Option α :=
  if (decide (x6 ≥ 0)) = true then
    if 0 ≤ x5 ∧ x5 < (4 : Int) then
      if 0 ≤ x6 then
        if (cond x4 true ((band .u64 (shrI .u64 (List.getD c5 (Int.toNat x5) 0) x6) 1) == 1)) = true then
          (Go.Bx.field_Pow_1_s0.run ((band .u64 (shrI .u64 (List.getD c5 (Int.toNat x5) 0) x6) 1) == 1) c0 c1 c2).bind fun y1 =>
          j1 Nx (cond x4 true ((band .u64 (shrI .u64 (List.getD c5 (Int.toNat x5) 0) x6) 1) == 1)) x5 x6 y1.1 y1.2.1 y1.2.2.1 c5
        else
          j1 Nx (cond x4 true ((band .u64 (shrI .u64 (List.getD c5 (Int.toNat x5) 0) x6) 1) == 1)) x5 x6 c0 c1 c2 c5
      else none
    else none
  else
    Xt2 x4 x5 c0 c1 c2 c5
theorem l1s_eq {α : Type} (k : Nat) (next : St → Option α) (Q : Ex → St → Option α) (x4 : Bool) (x5 : Int) (x6 : Int) (c0 : List Int) (c1 : List Int) (c2 : List Int) (c5 : List Int) :
    rnd C k cd2 21 Q next (St3 x4 x5 x6 c0 c1 c2 c5) = l1s (fun (x4 : Bool) (x5 : Int) (x6 : Int) (c0 : List Int) (c1 : List Int) (c2 : List Int) (c5 : List Int) => next (St3 x4 x5 x6 c0 c1 c2 c5)) (fun (x4 : Bool) (x5 : Int) (c0 : List Int) (c1 : List Int) (c2 : List Int) (c5 : List Int) => Q (.exit 2) (St5 x4 x5 c0 c1 c2 c5)) x4 x5 x6 c0 c1 c2 c5 := by
  have h : ∀ (D L : DT α), denJ D L Js C cd2 (lq C 21 next Q) (St3 x4 x5 x6 c0 c1 c2 c5) =
        if (decide (x6 ≥ 0)) = true then
          if 0 ≤ x5 ∧ x5 < (4 : Int) then
            if 0 ≤ x6 then
              if (cond x4 true ((band .u64 (shrI .u64 (List.getD c5 (Int.toNat x5) 0) x6) 1) == 1)) = true then
                (Go.Bx.field_Pow_1_s0.run ((band .u64 (shrI .u64 (List.getD c5 (Int.toNat x5) 0) x6) 1) == 1) c0 c1 c2).bind fun y1 =>
                D cd3 (lq C 21 next Q) (St4 (cond x4 true ((band .u64 (shrI .u64 (List.getD c5 (Int.toNat x5) 0) x6) 1) == 1)) x5 x6 y1.1 y1.2.1 y1.2.2.1 c5)
              else
                D cd3 (lq C 21 next Q) (St4 (cond x4 true ((band .u64 (shrI .u64 (List.getD c5 (Int.toNat x5) 0) x6) 1) == 1)) x5 x6 c0 c1 c2 c5)
            else none
          else none
        else
          Q (.exit 2) (St5 x4 x5 c0 c1 c2 c5) := by
    intro D L; kernel_rfl
  refine (show rnd C k cd2 21 Q next (St3 x4 x5 x6 c0 c1 c2 c5) = denJ (den C k) (lp C k) Js C cd2 (lq C 21 next Q) (St3 x4 x5 x6 c0 c1 c2 c5) from (denJ_den _ _ _ _ _ _).symm).trans ((h (den C k) (lp C k)).trans ?_)
  simp only [j1_eq]
  first | rfl | kernel_rfl
def l1 {α : Type} (k : Nat) (Xt2 : Bool → Int → (List Int) → (List Int) → (List Int) → (List Int) → Option α) : Nat → Bool → Int → Int → (List Int) → (List Int) → (List Int) → (List Int) → Option α
  | 0, _, _, _, _, _, _, _ => none
  | n + 1, x4, x5, x6, c0, c1, c2, c5 => l1s (l1 k Xt2 n) Xt2 x4 x5 x6 c0 c1 c2 c5
theorem l1_eq {α : Type} (k : Nat) (Q : Ex → St → Option α) : ∀ (n : Nat) (x4 : Bool) (x5 : Int) (x6 : Int) (c0 : List Int) (c1 : List Int) (c2 : List Int) (c5 : List Int), iter (rnd C k cd2 21 Q) n (St3 x4 x5 x6 c0 c1 c2 c5) = l1 k (fun (x4 : Bool) (x5 : Int) (c0 : List Int) (c1 : List Int) (c2 : List Int) (c5 : List Int) => Q (.exit 2) (St5 x4 x5 c0 c1 c2 c5)) n x4 x5 x6 c0 c1 c2 c5
  | 0, _, _, _, _, _, _, _ => rfl
  | n + 1, x4, x5, x6, c0, c1, c2, c5 => (iter_succ _ _ _).trans ((l1s_eq k (iter (rnd C k cd2 21 Q) n) Q x4 x5 x6 c0 c1 c2 c5).trans (congrArg (fun N => l1s N (fun (x4 : Bool) (x5 : Int) (c0 : List Int) (c1 : List Int) (c2 : List Int) (c5 : List Int) => Q (.exit 2) (St5 x4 x5 c0 c1 c2 c5)) x4 x5 x6 c0 c1 c2 c5) (funext fun x4 => funext fun x5 => funext fun x6 => funext fun c0 => funext fun c1 => funext fun c2 => funext fun c5 => l1_eq k Q n x4 x5 x6 c0 c1 c2 c5)))
theorem l1_congr {α : Type} (k : Nat) (Xt2 : Bool → Int → (List Int) → (List Int) → (List Int) → (List Int) → Option α) (Xt2q : Bool → Int → (List Int) → (List Int) → (List Int) → (List Int) → Option α) (hXt2 : ∀ (x4 : Bool) (x5 : Int) (c0 : List Int) (c1 : List Int) (c2 : List Int) (c5 : List Int), Xt2 x4 x5 c0 c1 c2 c5 = Xt2q x4 x5 c0 c1 c2 c5) (n : Nat) (x4 : Bool) (x5 : Int) (x6 : Int) (c0 : List Int) (c1 : List Int) (c2 : List Int) (c5 : List Int) : l1 k Xt2 n x4 x5 x6 c0 c1 c2 c5 = l1 k Xt2q n x4 x5 x6 c0 c1 c2 c5 := by
  obtain rfl : Xt2 = Xt2q := by funext x4; funext x5; funext c0; funext c1; funext c2; funext c5; exact hXt2 x4 x5 c0 c1 c2 c5
  rfl
theorem a0 {α : Type} (k : Nat) (next : St → Option α) (Q : Ex → St → Option α) (x4 : Bool) (x5 : Int) (x6 : Int) (c0 : List Int) (c1 : List Int) (c2 : List Int) (c5 : List Int) :
    (lp C k) cd2 (blkQ C 2 (blkQ C 1 (sq (den C k) (lp C k) Js C cd1 (lq C 9 next Q)))) (St3 x4 x5 x6 c0 c1 c2 c5) = l1 k (fun (x4 : Bool) (x5 : Int) (c0 : List Int) (c1 : List Int) (c2 : List Int) (c5 : List Int) => j0 (fun (x4 : Bool) (x5 : Int) (c0 : List Int) (c1 : List Int) (c2 : List Int) (c5 : List Int) => next (St1 x4 x5 c0 c1 c2 c5)) x4 x5 c0 c1 c2 c5) k x4 x5 x6 c0 c1 c2 c5 :=
  (show (lp C k) cd2 (blkQ C 2 (blkQ C 1 (sq (den C k) (lp C k) Js C cd1 (lq C 9 next Q)))) (St3 x4 x5 x6 c0 c1 c2 c5) = iter (rnd C k cd2 21 (blkQ C 2 (blkQ C 1 (sq (den C k) (lp C k) Js C cd1 (lq C 9 next Q))))) k (St3 x4 x5 x6 c0 c1 c2 c5) by kernel_rfl).trans ((l1_eq k (blkQ C 2 (blkQ C 1 (sq (den C k) (lp C k) Js C cd1 (lq C 9 next Q)))) k x4 x5 x6 c0 c1 c2 c5).trans (l1_congr k _ _ (fun x4 x5 c0 c1 c2 c5 => ((show (blkQ C 2 (blkQ C 1 (sq (den C k) (lp C k) Js C cd1 (lq C 9 next Q)))) (.exit 2) (St5 x4 x5 c0 c1 c2 c5) = (den C k) cd1 (lq C 9 next Q) (St2 x4 x5 c0 c1 c2 c5) by kernel_rfl).trans (by simp only [j0_eq]))) k x4 x5 x6 c0 c1 c2 c5))
def St6 (c0 : List Int) (c1 : List Int) (c2 : List Int) : St := stL 39 [] [(0, .cell (.arr 4 (.int .u64)) (.data (.arr 4 (.int .u64)) c0) false), (1, .cell (.arr 4 (.int .u64)) (.data (.arr 4 (.int .u64)) c1) false), (2, .cell (.arr 4 (.int .u64)) (.data (.arr 4 (.int .u64)) c2) false)]
def l0s {α : Type} (k : Nat) (Nx : Bool → Int → (List Int) → (List Int) → (List Int) → (List Int) → Option α) (Xt0 : (List Int) → (List Int) → (List Int) → Option α) (x4 : Bool) (x5 : Int) (c0 : List Int) (c1 : List Int) (c2 : List Int) (c5 : List Int) : Option α :=
  if (decide (x5 ≥ 0)) = true then
    if 0 ≤ x5 ∧ x5 < (4 : Int) then
      if (cond ((List.getD c5 (Int.toNat x5) 0) == 0) (not x4) false) = true then
        j0 Nx x4 x5 c0 c1 c2 c5
      else
        l1 k (fun (x4 : Bool) (x5 : Int) (c0 : List Int) (c1 : List Int) (c2 : List Int) (c5 : List Int) => j0 Nx x4 x5 c0 c1 c2 c5) k x4 x5 63 c0 c1 c2 c5
    else none
  else
    Xt0 c0 c1 c2
theorem l0s_eq {α : Type} (k : Nat) (next : St → Option α) (Q : Ex → St → Option α) (x4 : Bool) (x5 : Int) (c0 : List Int) (c1 : List Int) (c2 : List Int) (c5 : List Int) :
    rnd C k cd0 9 Q next (St1 x4 x5 c0 c1 c2 c5) = l0s k (fun (x4 : Bool) (x5 : Int) (c0 : List Int) (c1 : List Int) (c2 : List Int) (c5 : List Int) => next (St1 x4 x5 c0 c1 c2 c5)) (fun (c0 : List Int) (c1 : List Int) (c2 : List Int) => Q (.exit 0) (St6 c0 c1 c2)) x4 x5 c0 c1 c2 c5 := by
  have h : ∀ (D L : DT α), denJ D L Js C cd0 (lq C 9 next Q) (St1 x4 x5 c0 c1 c2 c5) =
        if (decide (x5 ≥ 0)) = true then
          if 0 ≤ x5 ∧ x5 < (4 : Int) then
            if (cond ((List.getD c5 (Int.toNat x5) 0) == 0) (not x4) false) = true then
              D cd1 (lq C 9 next Q) (St2 x4 x5 c0 c1 c2 c5)
            else
              L cd2 (blkQ C 2 (blkQ C 1 (sq D L Js C cd1 (lq C 9 next Q)))) (St3 x4 x5 63 c0 c1 c2 c5)
          else none
        else
          Q (.exit 0) (St6 c0 c1 c2) := by
    intro D L; kernel_rfl
  refine (show rnd C k cd0 9 Q next (St1 x4 x5 c0 c1 c2 c5) = denJ (den C k) (lp C k) Js C cd0 (lq C 9 next Q) (St1 x4 x5 c0 c1 c2 c5) from (denJ_den _ _ _ _ _ _).symm).trans ((h (den C k) (lp C k)).trans ?_)
  simp only [j0_eq, a0]
  first | rfl | kernel_rfl
def l0 {α : Type} (k : Nat) (Xt0 : (List Int) → (List Int) → (List Int) → Option α) : Nat → Bool → Int → (List Int) → (List Int) → (List Int) → (List Int) → Option α
  | 0, _, _, _, _, _, _ => none
  | n + 1, x4, x5, c0, c1, c2, c5 => l0s k (l0 k Xt0 n) Xt0 x4 x5 c0 c1 c2 c5
theorem l0_eq {α : Type} (k : Nat) (Q : Ex → St → Option α) : ∀ (n : Nat) (x4 : Bool) (x5 : Int) (c0 : List Int) (c1 : List Int) (c2 : List Int) (c5 : List Int), iter (rnd C k cd0 9 Q) n (St1 x4 x5 c0 c1 c2 c5) = l0 k (fun (c0 : List Int) (c1 : List Int) (c2 : List Int) => Q (.exit 0) (St6 c0 c1 c2)) n x4 x5 c0 c1 c2 c5
  | 0, _, _, _, _, _, _ => rfl
  | n + 1, x4, x5, c0, c1, c2, c5 => (iter_succ _ _ _).trans ((l0s_eq k (iter (rnd C k cd0 9 Q) n) Q x4 x5 c0 c1 c2 c5).trans (congrArg (fun N => l0s k N (fun (c0 : List Int) (c1 : List Int) (c2 : List Int) => Q (.exit 0) (St6 c0 c1 c2)) x4 x5 c0 c1 c2 c5) (funext fun x4 => funext fun x5 => funext fun c0 => funext fun c1 => funext fun c2 => funext fun c5 => l0_eq k Q n x4 x5 c0 c1 c2 c5)))
theorem l0_congr {α : Type} (k : Nat) (Xt0 : (List Int) → (List Int) → (List Int) → Option α) (Xt0q : (List Int) → (List Int) → (List Int) → Option α) (hXt0 : ∀ (c0 : List Int) (c1 : List Int) (c2 : List Int), Xt0 c0 c1 c2 = Xt0q c0 c1 c2) (n : Nat) (x4 : Bool) (x5 : Int) (c0 : List Int) (c1 : List Int) (c2 : List Int) (c5 : List Int) : l0 k Xt0 n x4 x5 c0 c1 c2 c5 = l0 k Xt0q n x4 x5 c0 c1 c2 c5 := by
  obtain rfl : Xt0 = Xt0q := by funext c0; funext c1; funext c2; exact hXt0 c0 c1 c2
  rfl
def St7 (c0 : List Int) (c1 : List Int) (c2 : List Int) : St := stL 39 [] [(0, .cell (.arr 4 (.int .u64)) (.data (.arr 4 (.int .u64)) c0) false), (1, .cell (.arr 4 (.int .u64)) (.data (.arr 4 (.int .u64)) c1) false), (2, .cell (.arr 4 (.int .u64)) (.data (.arr 4 (.int .u64)) c2) false)]
theorem a1 {α : Type} (k : Nat) (Q : Ex → St → Option α) (x4 : Bool) (x5 : Int) (c0 : List Int) (c1 : List Int) (c2 : List Int) (c5 : List Int) :
    (lp C k) cd0 (blkQ C 0 (endQ C Q)) (St1 x4 x5 c0 c1 c2 c5) = l0 k (fun (c0 : List Int) (c1 : List Int) (c2 : List Int) => (fun (c0 : List Int) (c1 : List Int) (c2 : List Int) => Q .ret (St7 c0 c1 c2)) c0 c1 c2) k x4 x5 c0 c1 c2 c5 :=
  (show (lp C k) cd0 (blkQ C 0 (endQ C Q)) (St1 x4 x5 c0 c1 c2 c5) = iter (rnd C k cd0 9 (blkQ C 0 (endQ C Q))) k (St1 x4 x5 c0 c1 c2 c5) by kernel_rfl).trans ((l0_eq k (blkQ C 0 (endQ C Q)) k x4 x5 c0 c1 c2 c5).trans (l0_congr k _ _ (fun c0 c1 c2 => (show (blkQ C 0 (endQ C Q)) (.exit 0) (St6 c0 c1 c2) = Q .ret (St7 c0 c1 c2) by kernel_rfl)) k x4 x5 c0 c1 c2 c5))
def top {α : Type} (k : Nat) (Rt : (List Int) → (List Int) → (List Int) → Option α) (x0 : List Int) (c0 : List Int) (c1 : List Int) (c2 : List Int) : Option α :=
  l0 k (fun (c0 : List Int) (c1 : List Int) (c2 : List Int) => Rt c0 c1 c2) k false 3 c0 c1 c2 x0
theorem top_eq {α : Type} (k : Nat) (Q : Ex → St → Option α) (x0 : List Int) (c0 : List Int) (c1 : List Int) (c2 : List Int) :
    (den C k) (cB Try.f132) (endQ C Q) (St0 x0 c0 c1 c2) = top k (fun (c0 : List Int) (c1 : List Int) (c2 : List Int) => Q .ret (St7 c0 c1 c2)) x0 c0 c1 c2 := by
  have h : ∀ (D L : DT α), denJ D L Js C (cB Try.f132) (endQ C Q) (St0 x0 c0 c1 c2) =
        L cd0 (blkQ C 0 (endQ C Q)) (St1 false 3 c0 c1 c2 x0) := by
    intro D L; kernel_rfl
  refine (show (den C k) (cB Try.f132) (endQ C Q) (St0 x0 c0 c1 c2) = denJ (den C k) (lp C k) Js C (cB Try.f132) (endQ C Q) (St0 x0 c0 c1 c2) from (denJ_den _ _ _ _ _ _).symm).trans ((h (den C k) (lp C k)).trans ?_)
  simp only [a1]
  first | rfl | kernel_rfl
def run (x0 : List Int) (c0 : List Int) (c1 : List Int) (c2 : List Int) : Option (List Int × List Int × List Int × Unit) := top (α := List Int × List Int × List Int × Unit) fuel (fun (c0 : List Int) (c1 : List Int) (c2 : List Int) => some (c0, c1, c2, ())) x0 c0 c1 c2
def Sp : Spec := ⟨[hD (.arr 4 (.int .u64)), .fn 133 [] [.ref 0 0 [], .ref 1 0 [], .ref 2 0 []]], [(0, hC (.arr 4 (.int .u64)) (hD (.arr 4 (.int .u64))) false), (1, hC (.arr 4 (.int .u64)) (hD (.arr 4 (.int .u64))) false), (2, hC (.arr 4 (.int .u64)) (hD (.arr 4 (.int .u64))) false)], (.pair (.arr 4 (.int .u64)) (.pair (.arr 4 (.int .u64)) (.pair (.arr 4 (.int .u64)) (.pair (.arr 4 (.int .u64)) .unit)))), .tup [], [(0, hC (.arr 4 (.int .u64)) (hD (.arr 4 (.int .u64))) false), (1, hC (.arr 4 (.int .u64)) (hD (.arr 4 (.int .u64))) false), (2, hC (.arr 4 (.int .u64)) (hD (.arr 4 (.int .u64))) false)], (.pair (.arr 4 (.int .u64)) (.pair (.arr 4 (.int .u64)) (.pair (.arr 4 (.int .u64)) .unit))), fun x => run x.1 x.2.1 x.2.2.1 x.2.2.2.1⟩
set_option maxRecDepth 100000 in
theorem sok : SOk Try.prog 132 Sp.h := by
  refine sok_of_den (C := C) (ctx_ok_sh (by kernel_rfl) (by kernel_rfl) (by kernel_rfl) (by kernel_rfl) trivial ⟨⟨⟨Go.Bx.field_Pow_1_s0.sok, trivial⟩, Go.Bx.field_Pow_1_s0.named⟩, trivial⟩) (by kernel_rfl) Try.func132 (c := cB Try.f132) (by kernel_rfl) (by kernel_rfl) Sp fuel (by kernel_rfl) (by kernel_rfl) ?_
  intro x r h
  rw [← h]
  have h1 : Sp.start x Try.f132.ntmps = (St0 x.1 x.2.1 x.2.2.1 x.2.2.2.1) := by kernel_rfl
  rw [h1]
  refine (top_eq fuel (finS C Try.f132.results.toList Sp.read) x.1 x.2.1 x.2.2.1 x.2.2.2.1).trans ?_
  kernel_rfl
theorem named : Named Try.prog 132 := named_of Try.func132 (by kernel_rfl) (by kernel_rfl)
end Go.Bx.field_bits_s1
namespace Go.Bx.field_by_s0
open Go Go.Proofs Go.Bx
set_option maxRecDepth 100000
set_option linter.unusedVariables false
def Js : List Nat := []
def C : Ctx := ⟨[(45, (.arr 4 (.int .u64))), (198, (.sl (.arr 4 (.int .u64))))], [], [], fnL [(130, Go.Bx.field_mul.F), (131, Go.Bx.field_fault.F)], noSh, [], invL [], [(2, [8, 9])], [], [], 0, 0⟩
def St0 (x1 : List Int) (x2 : List Int) (x3 : List Int) : St := stL 25 [(0, .fn 130 [] []), (1, .data (.arr 4 (.int .u64)) x1), (2, .data (.arr 4 (.int .u64)) x2), (3, .data (.arr 4 (.int .u64)) x3)] []
def St1 (x9 : Int) (c8 : List Int) : St := stL 25 [(8, .ref 8 0 []), (9, .data (.int .i64) x9)] [(8, .cell (.arr 4 (.int .u64)) (.data (.arr 4 (.int .u64)) c8) false)]
def top {α : Type} (Rt : Int → (List Int) → Option α) (x1 : List Int) (x2 : List Int) (x3 : List Int) : Option α :=
  (Go.Bx.field_fault.run x3 [x1, x2]).bind fun y1 =>
  if (y1 != 0) = true then
    Rt y1 [0, 0, 0, 0]
  else
    (Go.Bx.field_mul.run x1 x2 x3).bind fun y2 =>
    Rt 0 y2
theorem top_eq {α : Type} (k : Nat) (Q : Ex → St → Option α) (x1 : List Int) (x2 : List Int) (x3 : List Int) :
    (den C k) (cB Try.f126) (endQ C Q) (St0 x1 x2 x3) = top (fun (x9 : Int) (c8 : List Int) => Q .ret (St1 x9 c8)) x1 x2 x3 := by
  have h : ∀ (D L : DT α), denJ D L Js C (cB Try.f126) (endQ C Q) (St0 x1 x2 x3) =
        (Go.Bx.field_fault.run x3 [x1, x2]).bind fun y1 =>
        if (y1 != 0) = true then
          Q .ret (St1 y1 [0, 0, 0, 0])
        else
          (Go.Bx.field_mul.run x1 x2 x3).bind fun y2 =>
          Q .ret (St1 0 y2) := by
    intro D L; kernel_rfl
  refine (show (den C k) (cB Try.f126) (endQ C Q) (St0 x1 x2 x3) = denJ (den C k) (lp C k) Js C (cB Try.f126) (endQ C Q) (St0 x1 x2 x3) from (denJ_den _ _ _ _ _ _).symm).trans ((h (den C k) (lp C k)).trans ?_)
  first | rfl | kernel_rfl
def run (x1 : List Int) (x2 : List Int) (x3 : List Int) : Option (List Int × Int × List Int × Unit) := top (α := List Int × Int × List Int × Unit) (fun (x9 : Int) (c8 : List Int) => some (c8, x9, c8, ())) x1 x2 x3
def Sp : Spec := ⟨[.fn 130 [] [], hD (.arr 4 (.int .u64)), hD (.arr 4 (.int .u64)), hD (.arr 4 (.int .u64))], [], (.pair (.arr 4 (.int .u64)) (.pair (.arr 4 (.int .u64)) (.pair (.arr 4 (.int .u64)) .unit))), .tup [hD (.arr 4 (.int .u64)), hD (.int .i64)], [(8, hC (.arr 4 (.int .u64)) (hD (.arr 4 (.int .u64))) false)], (.pair (.arr 4 (.int .u64)) (.pair (.int .i64) (.pair (.arr 4 (.int .u64)) .unit))), fun x => run x.1 x.2.1 x.2.2.1⟩
set_option maxRecDepth 100000 in
theorem sok : SOk Try.prog 126 Sp.h := by
  refine sok_of_den (C := C) (ctx_ok (by kernel_rfl) (by kernel_rfl) (by kernel_rfl) (by kernel_rfl) ⟨.inl ⟨Go.Bx.field_mul.con, Go.Bx.field_mul.named⟩, ⟨.inl ⟨Go.Bx.field_fault.con, Go.Bx.field_fault.named⟩, trivial⟩⟩) (by kernel_rfl) Try.func126 (c := cB Try.f126) (by kernel_rfl) (by kernel_rfl) Sp fuel (by kernel_rfl) (by kernel_rfl) ?_
  intro x r h
  rw [← h]
  have h1 : Sp.start x Try.f126.ntmps = (St0 x.1 x.2.1 x.2.2.1) := by kernel_rfl
  rw [h1]
  refine (top_eq fuel (finS C Try.f126.results.toList Sp.read) x.1 x.2.1 x.2.2.1).trans ?_
  kernel_rfl
theorem named : Named Try.prog 126 := named_of Try.func126 (by kernel_rfl) (by kernel_rfl)
end Go.Bx.field_by_s0
namespace Go.Bx.field_Mul
open Go Go.Proofs Go.Bx
set_option maxRecDepth 100000
set_option linter.unusedVariables false
def Js : List Nat := []
def C : Ctx := ⟨[(31, (.int .i64)), (45, (.arr 4 (.int .u64)))], [], [], fnL [], shL [(126, [.one Go.Bx.field_by_s0.Sp])], [(11, 15)], invL [], [(2, [6, 7])], [], [], 0, 0⟩
def St0 (x0 : List Int) (x1 : List Int) (x2 : List Int) : St := stL 14 [(0, .data (.arr 4 (.int .u64)) x0), (1, .data (.arr 4 (.int .u64)) x1), (2, .data (.arr 4 (.int .u64)) x2)] []
def St1 (x7 : Int) (c6 : List Int) : St := stL 14 [(6, .ref 6 0 []), (7, .data (.int .i64) x7)] [(6, .cell (.arr 4 (.int .u64)) (.data (.arr 4 (.int .u64)) c6) false)]
def top {α : Type} (Rt : Int → (List Int) → Option α) (x0 : List Int) (x1 : List Int) (x2 : List Int) : Option α :=
  (Go.Bx.field_by_s0.run x0 x1 x2).bind fun y1 =>
  Rt y1.2.1 y1.1
theorem top_eq {α : Type} (k : Nat) (Q : Ex → St → Option α) (x0 : List Int) (x1 : List Int) (x2 : List Int) :
    (den C k) (cB Try.f55) Q (St0 x0 x1 x2) = top (fun (x7 : Int) (c6 : List Int) => Q .ret (St1 x7 c6)) x0 x1 x2 := by
  have h : ∀ (D L : DT α), denJ D L Js C (cB Try.f55) Q (St0 x0 x1 x2) =
        (Go.Bx.field_by_s0.run x0 x1 x2).bind fun y1 =>
        Q .ret (St1 y1.2.1 y1.1) := by
    intro D L; kernel_rfl
  refine (show (den C k) (cB Try.f55) Q (St0 x0 x1 x2) = denJ (den C k) (lp C k) Js C (cB Try.f55) Q (St0 x0 x1 x2) from (denJ_den _ _ _ _ _ _).symm).trans ((h (den C k) (lp C k)).trans ?_)
  first | rfl | kernel_rfl
def run (x0 : List Int) (x1 : List Int) (x2 : List Int) : Option (List Int × Int × Unit) := top (α := List Int × Int × Unit) (fun (x7 : Int) (c6 : List Int) => some (c6, x7, ())) x0 x1 x2
def F : Fn := ⟨(.pair (.arr 4 (.int .u64)) (.pair (.arr 4 (.int .u64)) (.pair (.arr 4 (.int .u64)) .unit))), (.pair (.arr 4 (.int .u64)) (.pair (.int .i64) .unit)), true, fun x => run x.1 x.2.1 x.2.2.1⟩
set_option maxRecDepth 100000 in
theorem con : Con Try.prog 55 F := by
  refine con_of_den (C := C) (ctx_ok_sh (by kernel_rfl) (by kernel_rfl) (by kernel_rfl) (by kernel_rfl) trivial ⟨⟨⟨Go.Bx.field_by_s0.sok, trivial⟩, Go.Bx.field_by_s0.named⟩, trivial⟩) (by kernel_rfl) Try.func55 (c := cB Try.f55) (by kernel_rfl) (by kernel_rfl) F fuel (fun x => by simp [F, spread, Try.ntmps55]) ?_
  intro x r h
  rw [← h]
  have h1 : start F Try.f55.ntmps x = (St0 x.1 x.2.1 x.2.2.1) := by kernel_rfl
  rw [h1]
  refine (top_eq fuel (fin C Try.f55.results.toList F.rs F.multi) x.1 x.2.1 x.2.2.1).trans ?_
  kernel_rfl
theorem named : Named Try.prog 55 := named_of Try.func55 (by kernel_rfl) (by kernel_rfl)
end Go.Bx.field_Mul
namespace Go.Bx.curve_ring__take_s1
open Go Go.Proofs Go.Bx
set_option maxRecDepth 100000
set_option linter.unusedVariables false
def Js : List Nat := [4]
def C : Ctx := ⟨[(4, .bool), (45, (.arr 4 (.int .u64))), (117, .opq), (119, (.pair (.arr 4 (.int .u64)) (.pair .opq .unit)))], [], [], fnL [], noSh, [], invL [], [(2, [6]), (9, [4, 6])], [], [], 1, 0⟩
def St0 (x0p0 : List Int) (x1 : List Int) (x2 : Int) (c0 : Bool) : St := stL 13 [(0, .agg (.pair (.arr 4 (.int .u64)) (.pair .opq .unit)) [.data (.arr 4 (.int .u64)) x0p0, .ref 0 0 []]), (1, .data (.arr 4 (.int .u64)) x1), (2, .data (.int .i64) x2)] [(0, .cell .bool (.data .bool c0) false)]
def St1 (c0 : Bool) (c5 : List Int) (c7 : List Int) : St := stL 13 [(4, .ref 5 0 []), (6, .ref 7 0 [])] [(0, .cell .bool (.data .bool c0) false), (5, .cell (.arr 4 (.int .u64)) (.data (.arr 4 (.int .u64)) c5) false), (7, .cell (.arr 4 (.int .u64)) (.data (.arr 4 (.int .u64)) c7) false)]
noncomputable def cd0 : Code := cR (cR (cB Try.f104))
def St2 (c0 : Bool) (c7 : List Int) : St := stL 13 [(6, .ref 7 0 [])] [(0, .cell .bool (.data .bool c0) false), (7, .cell (.arr 4 (.int .u64)) (.data (.arr 4 (.int .u64)) c7) false)]
def j0 {α : Type} (Rt : Bool → (List Int) → Option α) (c0 : Bool) (c5 : List Int) (c7 : List Int) : Option α :=
  Rt c0 c5
theorem j0_eq {α : Type} (k : Nat) (Q : Ex → St → Option α) (c0 : Bool) (c5 : List Int) (c7 : List Int) :
    (den C k) cd0 (endQ C Q) (St1 c0 c5 c7) = j0 (fun (c0 : Bool) (c7 : List Int) => Q .ret (St2 c0 c7)) c0 c5 c7 := by
  have h : ∀ (D L : DT α), denJ D L Js C cd0 (endQ C Q) (St1 c0 c5 c7) =
        Q .ret (St2 c0 c5) := by
    intro D L; kernel_rfl
  refine (show (den C k) cd0 (endQ C Q) (St1 c0 c5 c7) = denJ (den C k) (lp C k) Js C cd0 (endQ C Q) (St1 c0 c5 c7) from (denJ_den _ _ _ _ _ _).symm).trans ((h (den C k) (lp C k)).trans ?_)
  first | rfl | kernel_rfl
def top {α : Type} (Rt : Bool → (List Int) → Option α) (x0p0 : List Int) (x1 : List Int) (x2 : Int) (c0 : Bool) : Option α :=
  if (x2 != 0) = true then
    j0 Rt true x1 [0, 0, 0, 0]
  else
    j0 Rt c0 x1 [0, 0, 0, 0]
theorem top_eq {α : Type} (k : Nat) (Q : Ex → St → Option α) (x0p0 : List Int) (x1 : List Int) (x2 : Int) (c0 : Bool) :
    (den C k) (cB Try.f104) (endQ C Q) (St0 x0p0 x1 x2 c0) = top (fun (c0 : Bool) (c7 : List Int) => Q .ret (St2 c0 c7)) x0p0 x1 x2 c0 := by
  have h : ∀ (D L : DT α), denJ D L Js C (cB Try.f104) (endQ C Q) (St0 x0p0 x1 x2 c0) =
        if (x2 != 0) = true then
          D cd0 (endQ C Q) (St1 true x1 [0, 0, 0, 0])
        else
          D cd0 (endQ C Q) (St1 c0 x1 [0, 0, 0, 0]) := by
    intro D L; kernel_rfl
  refine (show (den C k) (cB Try.f104) (endQ C Q) (St0 x0p0 x1 x2 c0) = denJ (den C k) (lp C k) Js C (cB Try.f104) (endQ C Q) (St0 x0p0 x1 x2 c0) from (denJ_den _ _ _ _ _ _).symm).trans ((h (den C k) (lp C k)).trans ?_)
  simp only [j0_eq]
  first | rfl | kernel_rfl
def run (x0p0 : List Int) (x1 : List Int) (x2 : Int) (c0 : Bool) : Option (List Int × Bool × List Int × Unit) := top (α := List Int × Bool × List Int × Unit) (fun (c0 : Bool) (c7 : List Int) => some (c7, c0, c7, ())) x0p0 x1 x2 c0
def Sp : Spec := ⟨[.agg (.pair (.arr 4 (.int .u64)) (.pair .opq .unit)) [hD (.arr 4 (.int .u64)), .ref 0 0 []], hD (.arr 4 (.int .u64)), hD (.int .i64)], [(0, hC .bool (hD .bool) false)], (.pair (.arr 4 (.int .u64)) (.pair (.arr 4 (.int .u64)) (.pair (.int .i64) (.pair .bool .unit)))), hD (.arr 4 (.int .u64)), [(0, hC .bool (hD .bool) false), (7, hC (.arr 4 (.int .u64)) (hD (.arr 4 (.int .u64))) false)], (.pair (.arr 4 (.int .u64)) (.pair .bool (.pair (.arr 4 (.int .u64)) .unit))), fun x => run x.1 x.2.1 x.2.2.1 x.2.2.2.1⟩
set_option maxRecDepth 100000 in
theorem sok : SOk Try.prog 104 Sp.h := by
  refine sok_of_den (C := C) (ctx_ok (by kernel_rfl) (by kernel_rfl) (by kernel_rfl) (by kernel_rfl) trivial) (by kernel_rfl) Try.func104 (c := cB Try.f104) (by kernel_rfl) (by kernel_rfl) Sp fuel (by kernel_rfl) (by kernel_rfl) ?_
  intro x r h
  rw [← h]
  have h1 : Sp.start x Try.f104.ntmps = (St0 x.1 x.2.1 x.2.2.1 x.2.2.2.1) := by kernel_rfl
  rw [h1]
  refine (top_eq fuel (finS C Try.f104.results.toList Sp.read) x.1 x.2.1 x.2.2.1 x.2.2.2.1).trans ?_
  kernel_rfl
theorem named : Named Try.prog 104 := named_of Try.func104 (by kernel_rfl) (by kernel_rfl)
end Go.Bx.curve_ring__take_s1
namespace Go.Bx.curve_ring__mul_s1
open Go Go.Proofs Go.Bx
set_option maxRecDepth 100000
set_option linter.unusedVariables false
def Js : List Nat := []
def C : Ctx := ⟨[(45, (.arr 4 (.int .u64))), (119, (.pair (.arr 4 (.int .u64)) (.pair .opq .unit)))], [], [], fnL [(55, Go.Bx.field_Mul.F)], shL [(104, [.one Go.Bx.curve_ring__take_s1.Sp])], [(15, 17)], invL [], [(2, [6])], [], [], 1, 0⟩
def St0 (x0p0 : List Int) (x1 : List Int) (x2 : List Int) (c0 : Bool) : St := stL 16 [(0, .agg (.pair (.arr 4 (.int .u64)) (.pair .opq .unit)) [.data (.arr 4 (.int .u64)) x0p0, .ref 0 0 []]), (1, .data (.arr 4 (.int .u64)) x1), (2, .data (.arr 4 (.int .u64)) x2)] [(0, .cell .bool (.data .bool c0) false)]
def St1 (c0 : Bool) (c7 : List Int) : St := stL 16 [(6, .ref 7 0 [])] [(0, .cell .bool (.data .bool c0) false), (7, .cell (.arr 4 (.int .u64)) (.data (.arr 4 (.int .u64)) c7) false)]
def top {α : Type} (Rt : Bool → (List Int) → Option α) (x0p0 : List Int) (x1 : List Int) (x2 : List Int) (c0 : Bool) : Option α :=
  (Go.Bx.field_Mul.run x1 x2 x0p0).bind fun y1 =>
  (Go.Bx.curve_ring__take_s1.run x0p0 y1.1 y1.2.1 c0).bind fun y2 =>
  Rt y2.2.1 y2.1
theorem top_eq {α : Type} (k : Nat) (Q : Ex → St → Option α) (x0p0 : List Int) (x1 : List Int) (x2 : List Int) (c0 : Bool) :
    (den C k) (cB Try.f90) (endQ C Q) (St0 x0p0 x1 x2 c0) = top (fun (c0 : Bool) (c7 : List Int) => Q .ret (St1 c0 c7)) x0p0 x1 x2 c0 := by
  have h : ∀ (D L : DT α), denJ D L Js C (cB Try.f90) (endQ C Q) (St0 x0p0 x1 x2 c0) =
        (Go.Bx.field_Mul.run x1 x2 x0p0).bind fun y1 =>
        (Go.Bx.curve_ring__take_s1.run x0p0 y1.1 y1.2.1 c0).bind fun y2 =>
        Q .ret (St1 y2.2.1 y2.1) := by
    intro D L; kernel_rfl
  refine (show (den C k) (cB Try.f90) (endQ C Q) (St0 x0p0 x1 x2 c0) = denJ (den C k) (lp C k) Js C (cB Try.f90) (endQ C Q) (St0 x0p0 x1 x2 c0) from (denJ_den _ _ _ _ _ _).symm).trans ((h (den C k) (lp C k)).trans ?_)
  first | rfl | kernel_rfl
def run (x0p0 : List Int) (x1 : List Int) (x2 : List Int) (c0 : Bool) : Option (List Int × Bool × List Int × Unit) := top (α := List Int × Bool × List Int × Unit) (fun (c0 : Bool) (c7 : List Int) => some (c7, c0, c7, ())) x0p0 x1 x2 c0
def Sp : Spec := ⟨[.agg (.pair (.arr 4 (.int .u64)) (.pair .opq .unit)) [hD (.arr 4 (.int .u64)), .ref 0 0 []], hD (.arr 4 (.int .u64)), hD (.arr 4 (.int .u64))], [(0, hC .bool (hD .bool) false)], (.pair (.arr 4 (.int .u64)) (.pair (.arr 4 (.int .u64)) (.pair (.arr 4 (.int .u64)) (.pair .bool .unit)))), hD (.arr 4 (.int .u64)), [(0, hC .bool (hD .bool) false), (7, hC (.arr 4 (.int .u64)) (hD (.arr 4 (.int .u64))) false)], (.pair (.arr 4 (.int .u64)) (.pair .bool (.pair (.arr 4 (.int .u64)) .unit))), fun x => run x.1 x.2.1 x.2.2.1 x.2.2.2.1⟩
set_option maxRecDepth 100000 in
theorem sok : SOk Try.prog 90 Sp.h := by
  refine sok_of_den (C := C) (ctx_ok_sh (by kernel_rfl) (by kernel_rfl) (by kernel_rfl) (by kernel_rfl) ⟨.inl ⟨Go.Bx.field_Mul.con, Go.Bx.field_Mul.named⟩, trivial⟩ ⟨⟨⟨Go.Bx.curve_ring__take_s1.sok, trivial⟩, Go.Bx.curve_ring__take_s1.named⟩, trivial⟩) (by kernel_rfl) Try.func90 (c := cB Try.f90) (by kernel_rfl) (by kernel_rfl) Sp fuel (by kernel_rfl) (by kernel_rfl) ?_
  intro x r h
  rw [← h]
  have h1 : Sp.start x Try.f90.ntmps = (St0 x.1 x.2.1 x.2.2.1 x.2.2.2.1) := by kernel_rfl
  rw [h1]
  refine (top_eq fuel (finS C Try.f90.results.toList Sp.read) x.1 x.2.1 x.2.2.1 x.2.2.2.1).trans ?_
  kernel_rfl
theorem named : Named Try.prog 90 := named_of Try.func90 (by kernel_rfl) (by kernel_rfl)
end Go.Bx.curve_ring__mul_s1
namespace Go.Bx.field_by_s1
open Go Go.Proofs Go.Bx
set_option maxRecDepth 100000
set_option linter.unusedVariables false
def Js : List Nat := []
def C : Ctx := ⟨[(45, (.arr 4 (.int .u64))), (198, (.sl (.arr 4 (.int .u64))))], [], [], fnL [(127, Go.Bx.field_add.F), (131, Go.Bx.field_fault.F)], noSh, [], invL [], [(2, [8, 9])], [], [], 0, 0⟩
def St0 (x1 : List Int) (x2 : List Int) (x3 : List Int) : St := stL 25 [(0, .fn 127 [] []), (1, .data (.arr 4 (.int .u64)) x1), (2, .data (.arr 4 (.int .u64)) x2), (3, .data (.arr 4 (.int .u64)) x3)] []
def St1 (x9 : Int) (c8 : List Int) : St := stL 25 [(8, .ref 8 0 []), (9, .data (.int .i64) x9)] [(8, .cell (.arr 4 (.int .u64)) (.data (.arr 4 (.int .u64)) c8) false)]
def top {α : Type} (Rt : Int → (List Int) → Option α) (x1 : List Int) (x2 : List Int) (x3 : List Int) : Option α :=
  (Go.Bx.field_fault.run x3 [x1, x2]).bind fun y1 =>
  if (y1 != 0) = true then
    Rt y1 [0, 0, 0, 0]
  else
    (Go.Bx.field_add.run x1 x2 x3).bind fun y2 =>
    Rt 0 y2
theorem top_eq {α : Type} (k : Nat) (Q : Ex → St → Option α) (x1 : List Int) (x2 : List Int) (x3 : List Int) :
    (den C k) (cB Try.f126) (endQ C Q) (St0 x1 x2 x3) = top (fun (x9 : Int) (c8 : List Int) => Q .ret (St1 x9 c8)) x1 x2 x3 := by
  have h : ∀ (D L : DT α), denJ D L Js C (cB Try.f126) (endQ C Q) (St0 x1 x2 x3) =
        (Go.Bx.field_fault.run x3 [x1, x2]).bind fun y1 =>
        if (y1 != 0) = true then
          Q .ret (St1 y1 [0, 0, 0, 0])
        else
          (Go.Bx.field_add.run x1 x2 x3).bind fun y2 =>
          Q .ret (St1 0 y2) := by
    intro D L; kernel_rfl
  refine (show (den C k) (cB Try.f126) (endQ C Q) (St0 x1 x2 x3) = denJ (den C k) (lp C k) Js C (cB Try.f126) (endQ C Q) (St0 x1 x2 x3) from (denJ_den _ _ _ _ _ _).symm).trans ((h (den C k) (lp C k)).trans ?_)
  first | rfl | kernel_rfl
def run (x1 : List Int) (x2 : List Int) (x3 : List Int) : Option (List Int × Int × List Int × Unit) := top (α := List Int × Int × List Int × Unit) (fun (x9 : Int) (c8 : List Int) => some (c8, x9, c8, ())) x1 x2 x3
def Sp : Spec := ⟨[.fn 127 [] [], hD (.arr 4 (.int .u64)), hD (.arr 4 (.int .u64)), hD (.arr 4 (.int .u64))], [], (.pair (.arr 4 (.int .u64)) (.pair (.arr 4 (.int .u64)) (.pair (.arr 4 (.int .u64)) .unit))), .tup [hD (.arr 4 (.int .u64)), hD (.int .i64)], [(8, hC (.arr 4 (.int .u64)) (hD (.arr 4 (.int .u64))) false)], (.pair (.arr 4 (.int .u64)) (.pair (.int .i64) (.pair (.arr 4 (.int .u64)) .unit))), fun x => run x.1 x.2.1 x.2.2.1⟩
set_option maxRecDepth 100000 in
theorem sok : SOk Try.prog 126 Sp.h := by
  refine sok_of_den (C := C) (ctx_ok (by kernel_rfl) (by kernel_rfl) (by kernel_rfl) (by kernel_rfl) ⟨.inl ⟨Go.Bx.field_add.con, Go.Bx.field_add.named⟩, ⟨.inl ⟨Go.Bx.field_fault.con, Go.Bx.field_fault.named⟩, trivial⟩⟩) (by kernel_rfl) Try.func126 (c := cB Try.f126) (by kernel_rfl) (by kernel_rfl) Sp fuel (by kernel_rfl) (by kernel_rfl) ?_
  intro x r h
  rw [← h]
  have h1 : Sp.start x Try.f126.ntmps = (St0 x.1 x.2.1 x.2.2.1) := by kernel_rfl
  rw [h1]
  refine (top_eq fuel (finS C Try.f126.results.toList Sp.read) x.1 x.2.1 x.2.2.1).trans ?_
  kernel_rfl
theorem named : Named Try.prog 126 := named_of Try.func126 (by kernel_rfl) (by kernel_rfl)
end Go.Bx.field_by_s1
namespace Go.Bx.field_Add
open Go Go.Proofs Go.Bx
set_option maxRecDepth 100000
set_option linter.unusedVariables false
def Js : List Nat := []
def C : Ctx := ⟨[(31, (.int .i64)), (45, (.arr 4 (.int .u64)))], [], [], fnL [], shL [(126, [.one Go.Bx.field_by_s1.Sp])], [(11, 15)], invL [], [(2, [6, 7])], [], [], 0, 0⟩
def St0 (x0 : List Int) (x1 : List Int) (x2 : List Int) : St := stL 14 [(0, .data (.arr 4 (.int .u64)) x0), (1, .data (.arr 4 (.int .u64)) x1), (2, .data (.arr 4 (.int .u64)) x2)] []
def St1 (x7 : Int) (c6 : List Int) : St := stL 14 [(6, .ref 6 0 []), (7, .data (.int .i64) x7)] [(6, .cell (.arr 4 (.int .u64)) (.data (.arr 4 (.int .u64)) c6) false)]
def top {α : Type} (Rt : Int → (List Int) → Option α) (x0 : List Int) (x1 : List Int) (x2 : List Int) : Option α :=
  (Go.Bx.field_by_s1.run x0 x1 x2).bind fun y1 =>
  Rt y1.2.1 y1.1
theorem top_eq {α : Type} (k : Nat) (Q : Ex → St → Option α) (x0 : List Int) (x1 : List Int) (x2 : List Int) :
    (den C k) (cB Try.f52) Q (St0 x0 x1 x2) = top (fun (x7 : Int) (c6 : List Int) => Q .ret (St1 x7 c6)) x0 x1 x2 := by
  have h : ∀ (D L : DT α), denJ D L Js C (cB Try.f52) Q (St0 x0 x1 x2) =
        (Go.Bx.field_by_s1.run x0 x1 x2).bind fun y1 =>
        Q .ret (St1 y1.2.1 y1.1) := by
    intro D L; kernel_rfl
  refine (show (den C k) (cB Try.f52) Q (St0 x0 x1 x2) = denJ (den C k) (lp C k) Js C (cB Try.f52) Q (St0 x0 x1 x2) from (denJ_den _ _ _ _ _ _).symm).trans ((h (den C k) (lp C k)).trans ?_)
  first | rfl | kernel_rfl
def run (x0 : List Int) (x1 : List Int) (x2 : List Int) : Option (List Int × Int × Unit) := top (α := List Int × Int × Unit) (fun (x7 : Int) (c6 : List Int) => some (c6, x7, ())) x0 x1 x2
def F : Fn := ⟨(.pair (.arr 4 (.int .u64)) (.pair (.arr 4 (.int .u64)) (.pair (.arr 4 (.int .u64)) .unit))), (.pair (.arr 4 (.int .u64)) (.pair (.int .i64) .unit)), true, fun x => run x.1 x.2.1 x.2.2.1⟩
set_option maxRecDepth 100000 in
theorem con : Con Try.prog 52 F := by
  refine con_of_den (C := C) (ctx_ok_sh (by kernel_rfl) (by kernel_rfl) (by kernel_rfl) (by kernel_rfl) trivial ⟨⟨⟨Go.Bx.field_by_s1.sok, trivial⟩, Go.Bx.field_by_s1.named⟩, trivial⟩) (by kernel_rfl) Try.func52 (c := cB Try.f52) (by kernel_rfl) (by kernel_rfl) F fuel (fun x => by simp [F, spread, Try.ntmps52]) ?_
  intro x r h
  rw [← h]
  have h1 : start F Try.f52.ntmps x = (St0 x.1 x.2.1 x.2.2.1) := by kernel_rfl
  rw [h1]
  refine (top_eq fuel (fin C Try.f52.results.toList F.rs F.multi) x.1 x.2.1 x.2.2.1).trans ?_
  kernel_rfl
theorem named : Named Try.prog 52 := named_of Try.func52 (by kernel_rfl) (by kernel_rfl)
end Go.Bx.field_Add
namespace Go.Bx.curve_ring__add_s0
open Go Go.Proofs Go.Bx
set_option maxRecDepth 100000
set_option linter.unusedVariables false
def Js : List Nat := []
def C : Ctx := ⟨[(45, (.arr 4 (.int .u64))), (119, (.pair (.arr 4 (.int .u64)) (.pair .opq .unit)))], [], [], fnL [(52, Go.Bx.field_Add.F)], shL [(104, [.one Go.Bx.curve_ring__take_s1.Sp])], [(15, 17)], invL [], [(2, [6])], [], [], 1, 0⟩
def St0 (x0p0 : List Int) (x1 : List Int) (x2 : List Int) (c0 : Bool) : St := stL 16 [(0, .agg (.pair (.arr 4 (.int .u64)) (.pair .opq .unit)) [.data (.arr 4 (.int .u64)) x0p0, .ref 0 0 []]), (1, .data (.arr 4 (.int .u64)) x1), (2, .data (.arr 4 (.int .u64)) x2)] [(0, .cell .bool (.data .bool c0) false)]
def St1 (c0 : Bool) (c7 : List Int) : St := stL 16 [(6, .ref 7 0 [])] [(0, .cell .bool (.data .bool c0) false), (7, .cell (.arr 4 (.int .u64)) (.data (.arr 4 (.int .u64)) c7) false)]
def top {α : Type} (Rt : Bool → (List Int) → Option α) (x0p0 : List Int) (x1 : List Int) (x2 : List Int) (c0 : Bool) : Option α :=
  (Go.Bx.field_Add.run x1 x2 x0p0).bind fun y1 =>
  (Go.Bx.curve_ring__take_s1.run x0p0 y1.1 y1.2.1 c0).bind fun y2 =>
  Rt y2.2.1 y2.1
theorem top_eq {α : Type} (k : Nat) (Q : Ex → St → Option α) (x0p0 : List Int) (x1 : List Int) (x2 : List Int) (c0 : Bool) :
    (den C k) (cB Try.f92) (endQ C Q) (St0 x0p0 x1 x2 c0) = top (fun (c0 : Bool) (c7 : List Int) => Q .ret (St1 c0 c7)) x0p0 x1 x2 c0 := by
  have h : ∀ (D L : DT α), denJ D L Js C (cB Try.f92) (endQ C Q) (St0 x0p0 x1 x2 c0) =
        (Go.Bx.field_Add.run x1 x2 x0p0).bind fun y1 =>
        (Go.Bx.curve_ring__take_s1.run x0p0 y1.1 y1.2.1 c0).bind fun y2 =>
        Q .ret (St1 y2.2.1 y2.1) := by
    intro D L; kernel_rfl
  refine (show (den C k) (cB Try.f92) (endQ C Q) (St0 x0p0 x1 x2 c0) = denJ (den C k) (lp C k) Js C (cB Try.f92) (endQ C Q) (St0 x0p0 x1 x2 c0) from (denJ_den _ _ _ _ _ _).symm).trans ((h (den C k) (lp C k)).trans ?_)
  first | rfl | kernel_rfl
def run (x0p0 : List Int) (x1 : List Int) (x2 : List Int) (c0 : Bool) : Option (List Int × Bool × List Int × Unit) := top (α := List Int × Bool × List Int × Unit) (fun (c0 : Bool) (c7 : List Int) => some (c7, c0, c7, ())) x0p0 x1 x2 c0
def Sp : Spec := ⟨[.agg (.pair (.arr 4 (.int .u64)) (.pair .opq .unit)) [hD (.arr 4 (.int .u64)), .ref 0 0 []], hD (.arr 4 (.int .u64)), hD (.arr 4 (.int .u64))], [(0, hC .bool (hD .bool) false)], (.pair (.arr 4 (.int .u64)) (.pair (.arr 4 (.int .u64)) (.pair (.arr 4 (.int .u64)) (.pair .bool .unit)))), hD (.arr 4 (.int .u64)), [(0, hC .bool (hD .bool) false), (7, hC (.arr 4 (.int .u64)) (hD (.arr 4 (.int .u64))) false)], (.pair (.arr 4 (.int .u64)) (.pair .bool (.pair (.arr 4 (.int .u64)) .unit))), fun x => run x.1 x.2.1 x.2.2.1 x.2.2.2.1⟩
set_option maxRecDepth 100000 in
theorem sok : SOk Try.prog 92 Sp.h := by
  refine sok_of_den (C := C) (ctx_ok_sh (by kernel_rfl) (by kernel_rfl) (by kernel_rfl) (by kernel_rfl) ⟨.inl ⟨Go.Bx.field_Add.con, Go.Bx.field_Add.named⟩, trivial⟩ ⟨⟨⟨Go.Bx.curve_ring__take_s1.sok, trivial⟩, Go.Bx.curve_ring__take_s1.named⟩, trivial⟩) (by kernel_rfl) Try.func92 (c := cB Try.f92) (by kernel_rfl) (by kernel_rfl) Sp fuel (by kernel_rfl) (by kernel_rfl) ?_
  intro x r h
  rw [← h]
  have h1 : Sp.start x Try.f92.ntmps = (St0 x.1 x.2.1 x.2.2.1 x.2.2.2.1) := by kernel_rfl
  rw [h1]
  refine (top_eq fuel (finS C Try.f92.results.toList Sp.read) x.1 x.2.1 x.2.2.1 x.2.2.2.1).trans ?_
  kernel_rfl
theorem named : Named Try.prog 92 := named_of Try.func92 (by kernel_rfl) (by kernel_rfl)
end Go.Bx.curve_ring__add_s0
namespace Go.Bx.field_by_s2
open Go Go.Proofs Go.Bx
set_option maxRecDepth 100000
set_option linter.unusedVariables false
def Js : List Nat := []
def C : Ctx := ⟨[(45, (.arr 4 (.int .u64))), (198, (.sl (.arr 4 (.int .u64))))], [], [], fnL [(128, Go.Bx.field_sub.F), (131, Go.Bx.field_fault.F)], noSh, [], invL [], [(2, [8, 9])], [], [], 0, 0⟩
def St0 (x1 : List Int) (x2 : List Int) (x3 : List Int) : St := stL 25 [(0, .fn 128 [] []), (1, .data (.arr 4 (.int .u64)) x1), (2, .data (.arr 4 (.int .u64)) x2), (3, .data (.arr 4 (.int .u64)) x3)] []
def St1 (x9 : Int) (c8 : List Int) : St := stL 25 [(8, .ref 8 0 []), (9, .data (.int .i64) x9)] [(8, .cell (.arr 4 (.int .u64)) (.data (.arr 4 (.int .u64)) c8) false)]
def top {α : Type} (Rt : Int → (List Int) → Option α) (x1 : List Int) (x2 : List Int) (x3 : List Int) : Option α :=
  (Go.Bx.field_fault.run x3 [x1, x2]).bind fun y1 =>
  if (y1 != 0) = true then
    Rt y1 [0, 0, 0, 0]
  else
    (Go.Bx.field_sub.run x1 x2 x3).bind fun y2 =>
    Rt 0 y2
theorem top_eq {α : Type} (k : Nat) (Q : Ex → St → Option α) (x1 : List Int) (x2 : List Int) (x3 : List Int) :
    (den C k) (cB Try.f126) (endQ C Q) (St0 x1 x2 x3) = top (fun (x9 : Int) (c8 : List Int) => Q .ret (St1 x9 c8)) x1 x2 x3 := by
  have h : ∀ (D L : DT α), denJ D L Js C (cB Try.f126) (endQ C Q) (St0 x1 x2 x3) =
        (Go.Bx.field_fault.run x3 [x1, x2]).bind fun y1 =>
        if (y1 != 0) = true then
          Q .ret (St1 y1 [0, 0, 0, 0])
        else
          (Go.Bx.field_sub.run x1 x2 x3).bind fun y2 =>
          Q .ret (St1 0 y2) := by
    intro D L; kernel_rfl
  refine (show (den C k) (cB Try.f126) (endQ C Q) (St0 x1 x2 x3) = denJ (den C k) (lp C k) Js C (cB Try.f126) (endQ C Q) (St0 x1 x2 x3) from (denJ_den _ _ _ _ _ _).symm).trans ((h (den C k) (lp C k)).trans ?_)
  first | rfl | kernel_rfl
def run (x1 : List Int) (x2 : List Int) (x3 : List Int) : Option (List Int × Int × List Int × Unit) := top (α := List Int × Int × List Int × Unit) (fun (x9 : Int) (c8 : List Int) => some (c8, x9, c8, ())) x1 x2 x3
def Sp : Spec := ⟨[.fn 128 [] [], hD (.arr 4 (.int .u64)), hD (.arr 4 (.int .u64)), hD (.arr 4 (.int .u64))], [], (.pair (.arr 4 (.int .u64)) (.pair (.arr 4 (.int .u64)) (.pair (.arr 4 (.int .u64)) .unit))), .tup [hD (.arr 4 (.int .u64)), hD (.int .i64)], [(8, hC (.arr 4 (.int .u64)) (hD (.arr 4 (.int .u64))) false)], (.pair (.arr 4 (.int .u64)) (.pair (.int .i64) (.pair (.arr 4 (.int .u64)) .unit))), fun x => run x.1 x.2.1 x.2.2.1⟩
set_option maxRecDepth 100000 in
theorem sok : SOk Try.prog 126 Sp.h := by
  refine sok_of_den (C := C) (ctx_ok (by kernel_rfl) (by kernel_rfl) (by kernel_rfl) (by kernel_rfl) ⟨.inl ⟨Go.Bx.field_sub.con, Go.Bx.field_sub.named⟩, ⟨.inl ⟨Go.Bx.field_fault.con, Go.Bx.field_fault.named⟩, trivial⟩⟩) (by kernel_rfl) Try.func126 (c := cB Try.f126) (by kernel_rfl) (by kernel_rfl) Sp fuel (by kernel_rfl) (by kernel_rfl) ?_
  intro x r h
  rw [← h]
  have h1 : Sp.start x Try.f126.ntmps = (St0 x.1 x.2.1 x.2.2.1) := by kernel_rfl
  rw [h1]
  refine (top_eq fuel (finS C Try.f126.results.toList Sp.read) x.1 x.2.1 x.2.2.1).trans ?_
  kernel_rfl
theorem named : Named Try.prog 126 := named_of Try.func126 (by kernel_rfl) (by kernel_rfl)
end Go.Bx.field_by_s2
namespace Go.Bx.field_Sub
open Go Go.Proofs Go.Bx
set_option maxRecDepth 100000
set_option linter.unusedVariables false
def Js : List Nat := []
def C : Ctx := ⟨[(31, (.int .i64)), (45, (.arr 4 (.int .u64)))], [], [], fnL [], shL [(126, [.one Go.Bx.field_by_s2.Sp])], [(11, 15)], invL [], [(2, [6, 7])], [], [], 0, 0⟩
def St0 (x0 : List Int) (x1 : List Int) (x2 : List Int) : St := stL 14 [(0, .data (.arr 4 (.int .u64)) x0), (1, .data (.arr 4 (.int .u64)) x1), (2, .data (.arr 4 (.int .u64)) x2)] []
def St1 (x7 : Int) (c6 : List Int) : St := stL 14 [(6, .ref 6 0 []), (7, .data (.int .i64) x7)] [(6, .cell (.arr 4 (.int .u64)) (.data (.arr 4 (.int .u64)) c6) false)]
def top {α : Type} (Rt : Int → (List Int) → Option α) (x0 : List Int) (x1 : List Int) (x2 : List Int) : Option α :=
  (Go.Bx.field_by_s2.run x0 x1 x2).bind fun y1 =>
  Rt y1.2.1 y1.1
theorem top_eq {α : Type} (k : Nat) (Q : Ex → St → Option α) (x0 : List Int) (x1 : List Int) (x2 : List Int) :
    (den C k) (cB Try.f53) Q (St0 x0 x1 x2) = top (fun (x7 : Int) (c6 : List Int) => Q .ret (St1 x7 c6)) x0 x1 x2 := by
  have h : ∀ (D L : DT α), denJ D L Js C (cB Try.f53) Q (St0 x0 x1 x2) =
        (Go.Bx.field_by_s2.run x0 x1 x2).bind fun y1 =>
        Q .ret (St1 y1.2.1 y1.1) := by
    intro D L; kernel_rfl
  refine (show (den C k) (cB Try.f53) Q (St0 x0 x1 x2) = denJ (den C k) (lp C k) Js C (cB Try.f53) Q (St0 x0 x1 x2) from (denJ_den _ _ _ _ _ _).symm).trans ((h (den C k) (lp C k)).trans ?_)
  first | rfl | kernel_rfl
def run (x0 : List Int) (x1 : List Int) (x2 : List Int) : Option (List Int × Int × Unit) := top (α := List Int × Int × Unit) (fun (x7 : Int) (c6 : List Int) => some (c6, x7, ())) x0 x1 x2
def F : Fn := ⟨(.pair (.arr 4 (.int .u64)) (.pair (.arr 4 (.int .u64)) (.pair (.arr 4 (.int .u64)) .unit))), (.pair (.arr 4 (.int .u64)) (.pair (.int .i64) .unit)), true, fun x => run x.1 x.2.1 x.2.2.1⟩
set_option maxRecDepth 100000 in
theorem con : Con Try.prog 53 F := by
  refine con_of_den (C := C) (ctx_ok_sh (by kernel_rfl) (by kernel_rfl) (by kernel_rfl) (by kernel_rfl) trivial ⟨⟨⟨Go.Bx.field_by_s2.sok, trivial⟩, Go.Bx.field_by_s2.named⟩, trivial⟩) (by kernel_rfl) Try.func53 (c := cB Try.f53) (by kernel_rfl) (by kernel_rfl) F fuel (fun x => by simp [F, spread, Try.ntmps53]) ?_
  intro x r h
  rw [← h]
  have h1 : start F Try.f53.ntmps x = (St0 x.1 x.2.1 x.2.2.1) := by kernel_rfl
  rw [h1]
  refine (top_eq fuel (fin C Try.f53.results.toList F.rs F.multi) x.1 x.2.1 x.2.2.1).trans ?_
  kernel_rfl
theorem named : Named Try.prog 53 := named_of Try.func53 (by kernel_rfl) (by kernel_rfl)
end Go.Bx.field_Sub
namespace Go.Bx.curve_ring__sub_s0
open Go Go.Proofs Go.Bx
set_option maxRecDepth 100000
set_option linter.unusedVariables false
def Js : List Nat := []
def C : Ctx := ⟨[(45, (.arr 4 (.int .u64))), (119, (.pair (.arr 4 (.int .u64)) (.pair .opq .unit)))], [], [], fnL [(53, Go.Bx.field_Sub.F)], shL [(104, [.one Go.Bx.curve_ring__take_s1.Sp])], [(15, 17)], invL [], [(2, [6])], [], [], 1, 0⟩
def St0 (x0p0 : List Int) (x1 : List Int) (x2 : List Int) (c0 : Bool) : St := stL 16 [(0, .agg (.pair (.arr 4 (.int .u64)) (.pair .opq .unit)) [.data (.arr 4 (.int .u64)) x0p0, .ref 0 0 []]), (1, .data (.arr 4 (.int .u64)) x1), (2, .data (.arr 4 (.int .u64)) x2)] [(0, .cell .bool (.data .bool c0) false)]
def St1 (c0 : Bool) (c7 : List Int) : St := stL 16 [(6, .ref 7 0 [])] [(0, .cell .bool (.data .bool c0) false), (7, .cell (.arr 4 (.int .u64)) (.data (.arr 4 (.int .u64)) c7) false)]
def top {α : Type} (Rt : Bool → (List Int) → Option α) (x0p0 : List Int) (x1 : List Int) (x2 : List Int) (c0 : Bool) : Option α :=
  (Go.Bx.field_Sub.run x1 x2 x0p0).bind fun y1 =>
  (Go.Bx.curve_ring__take_s1.run x0p0 y1.1 y1.2.1 c0).bind fun y2 =>
  Rt y2.2.1 y2.1
theorem top_eq {α : Type} (k : Nat) (Q : Ex → St → Option α) (x0p0 : List Int) (x1 : List Int) (x2 : List Int) (c0 : Bool) :
    (den C k) (cB Try.f162) (endQ C Q) (St0 x0p0 x1 x2 c0) = top (fun (c0 : Bool) (c7 : List Int) => Q .ret (St1 c0 c7)) x0p0 x1 x2 c0 := by
  have h : ∀ (D L : DT α), denJ D L Js C (cB Try.f162) (endQ C Q) (St0 x0p0 x1 x2 c0) =
        (Go.Bx.field_Sub.run x1 x2 x0p0).bind fun y1 =>
        (Go.Bx.curve_ring__take_s1.run x0p0 y1.1 y1.2.1 c0).bind fun y2 =>
        Q .ret (St1 y2.2.1 y2.1) := by
    intro D L; kernel_rfl
  refine (show (den C k) (cB Try.f162) (endQ C Q) (St0 x0p0 x1 x2 c0) = denJ (den C k) (lp C k) Js C (cB Try.f162) (endQ C Q) (St0 x0p0 x1 x2 c0) from (denJ_den _ _ _ _ _ _).symm).trans ((h (den C k) (lp C k)).trans ?_)
  first | rfl | kernel_rfl
def run (x0p0 : List Int) (x1 : List Int) (x2 : List Int) (c0 : Bool) : Option (List Int × Bool × List Int × Unit) := top (α := List Int × Bool × List Int × Unit) (fun (c0 : Bool) (c7 : List Int) => some (c7, c0, c7, ())) x0p0 x1 x2 c0
def Sp : Spec := ⟨[.agg (.pair (.arr 4 (.int .u64)) (.pair .opq .unit)) [hD (.arr 4 (.int .u64)), .ref 0 0 []], hD (.arr 4 (.int .u64)), hD (.arr 4 (.int .u64))], [(0, hC .bool (hD .bool) false)], (.pair (.arr 4 (.int .u64)) (.pair (.arr 4 (.int .u64)) (.pair (.arr 4 (.int .u64)) (.pair .bool .unit)))), hD (.arr 4 (.int .u64)), [(0, hC .bool (hD .bool) false), (7, hC (.arr 4 (.int .u64)) (hD (.arr 4 (.int .u64))) false)], (.pair (.arr 4 (.int .u64)) (.pair .bool (.pair (.arr 4 (.int .u64)) .unit))), fun x => run x.1 x.2.1 x.2.2.1 x.2.2.2.1⟩
set_option maxRecDepth 100000 in
theorem sok : SOk Try.prog 162 Sp.h := by
  refine sok_of_den (C := C) (ctx_ok_sh (by kernel_rfl) (by kernel_rfl) (by kernel_rfl) (by kernel_rfl) ⟨.inl ⟨Go.Bx.field_Sub.con, Go.Bx.field_Sub.named⟩, trivial⟩ ⟨⟨⟨Go.Bx.curve_ring__take_s1.sok, trivial⟩, Go.Bx.curve_ring__take_s1.named⟩, trivial⟩) (by kernel_rfl) Try.func162 (c := cB Try.f162) (by kernel_rfl) (by kernel_rfl) Sp fuel (by kernel_rfl) (by kernel_rfl) ?_
  intro x r h
  rw [← h]
  have h1 : Sp.start x Try.f162.ntmps = (St0 x.1 x.2.1 x.2.2.1 x.2.2.2.1) := by kernel_rfl
  rw [h1]
  refine (top_eq fuel (finS C Try.f162.results.toList Sp.read) x.1 x.2.1 x.2.2.1 x.2.2.2.1).trans ?_
  kernel_rfl
theorem named : Named Try.prog 162 := named_of Try.func162 (by kernel_rfl) (by kernel_rfl)
end Go.Bx.curve_ring__sub_s0
namespace Go.Bx.curve_ring__inv_s0
open Go Go.Proofs Go.Bx
set_option maxRecDepth 100000
set_option linter.unusedVariables false
def Js : List Nat := []
def C : Ctx := ⟨[(45, (.arr 4 (.int .u64))), (119, (.pair (.arr 4 (.int .u64)) (.pair .opq .unit)))], [], [], fnL [(58, Go.Bx.field_Inv.F)], shL [(104, [.one Go.Bx.curve_ring__take_s1.Sp])], [(12, 14)], invL [], [(2, [4])], [], [], 1, 0⟩
def St0 (x0p0 : List Int) (x1 : List Int) (c0 : Bool) : St := stL 13 [(0, .agg (.pair (.arr 4 (.int .u64)) (.pair .opq .unit)) [.data (.arr 4 (.int .u64)) x0p0, .ref 0 0 []]), (1, .data (.arr 4 (.int .u64)) x1)] [(0, .cell .bool (.data .bool c0) false)]
def St1 (c0 : Bool) (c5 : List Int) : St := stL 13 [(4, .ref 5 0 [])] [(0, .cell .bool (.data .bool c0) false), (5, .cell (.arr 4 (.int .u64)) (.data (.arr 4 (.int .u64)) c5) false)]
def top {α : Type} (Rt : Bool → (List Int) → Option α) (x0p0 : List Int) (x1 : List Int) (c0 : Bool) : Option α :=
  (Go.Bx.field_Inv.run x1 x0p0).bind fun y1 =>
  (Go.Bx.curve_ring__take_s1.run x0p0 y1.1 y1.2.1 c0).bind fun y2 =>
  Rt y2.2.1 y2.1
theorem top_eq {α : Type} (k : Nat) (Q : Ex → St → Option α) (x0p0 : List Int) (x1 : List Int) (c0 : Bool) :
    (den C k) (cB Try.f163) (endQ C Q) (St0 x0p0 x1 c0) = top (fun (c0 : Bool) (c5 : List Int) => Q .ret (St1 c0 c5)) x0p0 x1 c0 := by
  have h : ∀ (D L : DT α), denJ D L Js C (cB Try.f163) (endQ C Q) (St0 x0p0 x1 c0) =
        (Go.Bx.field_Inv.run x1 x0p0).bind fun y1 =>
        (Go.Bx.curve_ring__take_s1.run x0p0 y1.1 y1.2.1 c0).bind fun y2 =>
        Q .ret (St1 y2.2.1 y2.1) := by
    intro D L; kernel_rfl
  refine (show (den C k) (cB Try.f163) (endQ C Q) (St0 x0p0 x1 c0) = denJ (den C k) (lp C k) Js C (cB Try.f163) (endQ C Q) (St0 x0p0 x1 c0) from (denJ_den _ _ _ _ _ _).symm).trans ((h (den C k) (lp C k)).trans ?_)
  first | rfl | kernel_rfl
def run (x0p0 : List Int) (x1 : List Int) (c0 : Bool) : Option (List Int × Bool × List Int × Unit) := top (α := List Int × Bool × List Int × Unit) (fun (c0 : Bool) (c5 : List Int) => some (c5, c0, c5, ())) x0p0 x1 c0
def Sp : Spec := ⟨[.agg (.pair (.arr 4 (.int .u64)) (.pair .opq .unit)) [hD (.arr 4 (.int .u64)), .ref 0 0 []], hD (.arr 4 (.int .u64))], [(0, hC .bool (hD .bool) false)], (.pair (.arr 4 (.int .u64)) (.pair (.arr 4 (.int .u64)) (.pair .bool .unit))), hD (.arr 4 (.int .u64)), [(0, hC .bool (hD .bool) false), (5, hC (.arr 4 (.int .u64)) (hD (.arr 4 (.int .u64))) false)], (.pair (.arr 4 (.int .u64)) (.pair .bool (.pair (.arr 4 (.int .u64)) .unit))), fun x => run x.1 x.2.1 x.2.2.1⟩
set_option maxRecDepth 100000 in
theorem sok : SOk Try.prog 163 Sp.h := by
  refine sok_of_den (C := C) (ctx_ok_sh (by kernel_rfl) (by kernel_rfl) (by kernel_rfl) (by kernel_rfl) ⟨.inl ⟨Go.Bx.field_Inv.con, Go.Bx.field_Inv.named⟩, trivial⟩ ⟨⟨⟨Go.Bx.curve_ring__take_s1.sok, trivial⟩, Go.Bx.curve_ring__take_s1.named⟩, trivial⟩) (by kernel_rfl) Try.func163 (c := cB Try.f163) (by kernel_rfl) (by kernel_rfl) Sp fuel (by kernel_rfl) (by kernel_rfl) ?_
  intro x r h
  rw [← h]
  have h1 : Sp.start x Try.f163.ntmps = (St0 x.1 x.2.1 x.2.2.1) := by kernel_rfl
  rw [h1]
  refine (top_eq fuel (finS C Try.f163.results.toList Sp.read) x.1 x.2.1 x.2.2.1).trans ?_
  kernel_rfl
theorem named : Named Try.prog 163 := named_of Try.func163 (by kernel_rfl) (by kernel_rfl)
end Go.Bx.curve_ring__inv_s0
namespace Go.Bx.curve_ring__small_s0
open Go Go.Proofs Go.Bx
set_option maxRecDepth 100000
set_option linter.unusedVariables false
def Js : List Nat := []
def C : Ctx := ⟨[(45, (.arr 4 (.int .u64))), (119, (.pair (.arr 4 (.int .u64)) (.pair .opq .unit)))], [], [], fnL [(47, Go.Bx.wide_DivMod.F)], noSh, [], invL [], [(2, [4])], [], [], 1, 0⟩
def St0 (x0p0 : List Int) (x1 : Int) (c0 : Bool) : St := stL 18 [(0, .agg (.pair (.arr 4 (.int .u64)) (.pair .opq .unit)) [.data (.arr 4 (.int .u64)) x0p0, .ref 0 0 []]), (1, .data (.int .u64) x1)] [(0, .cell .bool (.data .bool c0) false)]
def St1 (c0 : Bool) (c5 : List Int) : St := stL 18 [(4, .ref 5 0 [])] [(0, .cell .bool (.data .bool c0) false), (5, .cell (.arr 4 (.int .u64)) (.data (.arr 4 (.int .u64)) c5) false)]
def top {α : Type} (Rt : Bool → (List Int) → Option α) (x0p0 : List Int) (x1 : Int) (c0 : Bool) : Option α :=
  (Go.Bx.wide_DivMod.run [x1, 0, 0, 0] x0p0).bind fun y1 =>
  Rt c0 y1.2.1
theorem top_eq {α : Type} (k : Nat) (Q : Ex → St → Option α) (x0p0 : List Int) (x1 : Int) (c0 : Bool) :
    (den C k) (cB Try.f91) (endQ C Q) (St0 x0p0 x1 c0) = top (fun (c0 : Bool) (c5 : List Int) => Q .ret (St1 c0 c5)) x0p0 x1 c0 := by
  have h : ∀ (D L : DT α), denJ D L Js C (cB Try.f91) (endQ C Q) (St0 x0p0 x1 c0) =
        (Go.Bx.wide_DivMod.run [x1, 0, 0, 0] x0p0).bind fun y1 =>
        Q .ret (St1 c0 y1.2.1) := by
    intro D L; kernel_rfl
  refine (show (den C k) (cB Try.f91) (endQ C Q) (St0 x0p0 x1 c0) = denJ (den C k) (lp C k) Js C (cB Try.f91) (endQ C Q) (St0 x0p0 x1 c0) from (denJ_den _ _ _ _ _ _).symm).trans ((h (den C k) (lp C k)).trans ?_)
  first | rfl | kernel_rfl
def run (x0p0 : List Int) (x1 : Int) (c0 : Bool) : Option (List Int × Bool × List Int × Unit) := top (α := List Int × Bool × List Int × Unit) (fun (c0 : Bool) (c5 : List Int) => some (c5, c0, c5, ())) x0p0 x1 c0
def Sp : Spec := ⟨[.agg (.pair (.arr 4 (.int .u64)) (.pair .opq .unit)) [hD (.arr 4 (.int .u64)), .ref 0 0 []], hD (.int .u64)], [(0, hC .bool (hD .bool) false)], (.pair (.arr 4 (.int .u64)) (.pair (.int .u64) (.pair .bool .unit))), hD (.arr 4 (.int .u64)), [(0, hC .bool (hD .bool) false), (5, hC (.arr 4 (.int .u64)) (hD (.arr 4 (.int .u64))) false)], (.pair (.arr 4 (.int .u64)) (.pair .bool (.pair (.arr 4 (.int .u64)) .unit))), fun x => run x.1 x.2.1 x.2.2.1⟩
set_option maxRecDepth 100000 in
theorem sok : SOk Try.prog 91 Sp.h := by
  refine sok_of_den (C := C) (ctx_ok (by kernel_rfl) (by kernel_rfl) (by kernel_rfl) (by kernel_rfl) ⟨.inl ⟨Go.Bx.wide_DivMod.con, Go.Bx.wide_DivMod.named⟩, trivial⟩) (by kernel_rfl) Try.func91 (c := cB Try.f91) (by kernel_rfl) (by kernel_rfl) Sp fuel (by kernel_rfl) (by kernel_rfl) ?_
  intro x r h
  rw [← h]
  have h1 : Sp.start x Try.f91.ntmps = (St0 x.1 x.2.1 x.2.2.1) := by kernel_rfl
  rw [h1]
  refine (top_eq fuel (finS C Try.f91.results.toList Sp.read) x.1 x.2.1 x.2.2.1).trans ?_
  kernel_rfl
theorem named : Named Try.prog 91 := named_of Try.func91 (by kernel_rfl) (by kernel_rfl)
end Go.Bx.curve_ring__small_s0
namespace Go.Bx.basculeref_by
open Go Go.Proofs Go.Bx
set_option maxRecDepth 100000
set_option linter.unusedVariables false
def Js : List Nat := []
def C : Ctx := ⟨[(24, (.int .u64)), (45, (.arr 4 (.int .u64))), (134, (.sl (.int .u64)))], [], [], fnL [(161, Go.Bx.basculeref_rest.F)], noSh, [], invL [], [(2, [4])], [], [], 0, 0⟩
def St0 (x0 : Int) (x1 : List Int) : St := stL 12 [(0, .data (.int .u64) x0), (1, .data (.arr 4 (.int .u64)) x1)] []
def St1 (c4 : List Int) : St := stL 12 [(4, .ref 4 0 [])] [(4, .cell (.arr 4 (.int .u64)) (.data (.arr 4 (.int .u64)) c4) false)]
def top {α : Type} (Rt : (List Int) → Option α) (x0 : Int) (x1 : List Int) : Option α :=
  (Go.Bx.basculeref_rest.run [(Int.tmod x0 4294967296), (IntKind.u64.wrap (Int.tdiv x0 4294967296))] x1).bind fun y1 =>
  Rt y1
theorem top_eq {α : Type} (k : Nat) (Q : Ex → St → Option α) (x0 : Int) (x1 : List Int) :
    (den C k) (cB Try.f96) Q (St0 x0 x1) = top (fun (c4 : List Int) => Q .ret (St1 c4)) x0 x1 := by
  have h : ∀ (D L : DT α), denJ D L Js C (cB Try.f96) Q (St0 x0 x1) =
        (Go.Bx.basculeref_rest.run [(Int.tmod x0 4294967296), (IntKind.u64.wrap (Int.tdiv x0 4294967296))] x1).bind fun y1 =>
        Q .ret (St1 y1) := by
    intro D L; kernel_rfl
  refine (show (den C k) (cB Try.f96) Q (St0 x0 x1) = denJ (den C k) (lp C k) Js C (cB Try.f96) Q (St0 x0 x1) from (denJ_den _ _ _ _ _ _).symm).trans ((h (den C k) (lp C k)).trans ?_)
  first | rfl | kernel_rfl
def run (x0 : Int) (x1 : List Int) : Option (List Int) := top (α := List Int) (fun (c4 : List Int) => some c4) x0 x1
def F : Fn := ⟨(.pair (.int .u64) (.pair (.arr 4 (.int .u64)) .unit)), (.arr 4 (.int .u64)), false, fun x => run x.1 x.2.1⟩
set_option maxRecDepth 100000 in
theorem con : Con Try.prog 96 F := by
  refine con_of_den (C := C) (ctx_ok (by kernel_rfl) (by kernel_rfl) (by kernel_rfl) (by kernel_rfl) ⟨.inl ⟨Go.Bx.basculeref_rest.con, Go.Bx.basculeref_rest.named⟩, trivial⟩) (by kernel_rfl) Try.func96 (c := cB Try.f96) (by kernel_rfl) (by kernel_rfl) F fuel (fun x => by simp [F, spread, Try.ntmps96]) ?_
  intro x r h
  rw [← h]
  have h1 : start F Try.f96.ntmps x = (St0 x.1 x.2.1) := by kernel_rfl
  rw [h1]
  refine (top_eq fuel (fin C Try.f96.results.toList F.rs F.multi) x.1 x.2.1).trans ?_
  kernel_rfl
theorem named : Named Try.prog 96 := named_of Try.func96 (by kernel_rfl) (by kernel_rfl)
end Go.Bx.basculeref_by
namespace Go.Bx.basculeref_isZero
open Go Go.Proofs Go.Bx
set_option maxRecDepth 100000
set_option linter.unusedVariables false
def Js : List Nat := []
def C : Ctx := ⟨[(4, .bool), (45, (.arr 4 (.int .u64)))], [], [], fnL [], noSh, [], invL [], [(2, [2])], [], [], 0, 0⟩
def St0 (x0 : List Int) : St := stL 6 [(0, .data (.arr 4 (.int .u64)) x0)] []
def St1 (x2 : Bool) : St := stL 6 [(2, .data .bool x2)] []
def top {α : Type} (Rt : Bool → Option α) (x0 : List Int) : Option α :=
  Rt (beqD (.arr 4 (.int .u64)) x0 [0, 0, 0, 0])
theorem top_eq {α : Type} (k : Nat) (Q : Ex → St → Option α) (x0 : List Int) :
    (den C k) (cB Try.f98) Q (St0 x0) = top (fun (x2 : Bool) => Q .ret (St1 x2)) x0 := by
  have h : ∀ (D L : DT α), denJ D L Js C (cB Try.f98) Q (St0 x0) =
        Q .ret (St1 (beqD (.arr 4 (.int .u64)) x0 [0, 0, 0, 0])) := by
    intro D L; kernel_rfl
  refine (show (den C k) (cB Try.f98) Q (St0 x0) = denJ (den C k) (lp C k) Js C (cB Try.f98) Q (St0 x0) from (denJ_den _ _ _ _ _ _).symm).trans ((h (den C k) (lp C k)).trans ?_)
  first | rfl | kernel_rfl
def run (x0 : List Int) : Option (Bool) := top (α := Bool) (fun (x2 : Bool) => some x2) x0
def F : Fn := ⟨(.pair (.arr 4 (.int .u64)) .unit), .bool, false, fun x => run x.1⟩
set_option maxRecDepth 100000 in
theorem con : Con Try.prog 98 F := by
  refine con_of_den (C := C) (ctx_ok (by kernel_rfl) (by kernel_rfl) (by kernel_rfl) (by kernel_rfl) trivial) (by kernel_rfl) Try.func98 (c := cB Try.f98) (by kernel_rfl) (by kernel_rfl) F fuel (fun x => by simp [F, spread, Try.ntmps98]) ?_
  intro x r h
  rw [← h]
  have h1 : start F Try.f98.ntmps x = (St0 x.1) := by kernel_rfl
  rw [h1]
  refine (top_eq fuel (fin C Try.f98.results.toList F.rs F.multi) x.1).trans ?_
  kernel_rfl
theorem named : Named Try.prog 98 := named_of Try.func98 (by kernel_rfl) (by kernel_rfl)
end Go.Bx.basculeref_isZero
namespace Go.Bx.curve_ringOf_s0
open Go Go.Proofs Go.Bx
set_option maxRecDepth 100000
set_option linter.unusedVariables false
def Js : List Nat := []
def C : Ctx := ⟨[(4, .bool), (45, (.arr 4 (.int .u64))), (61, (.pair (.arr 4 (.int .u64)) (.pair (.arr 4 (.int .u64)) (.pair (.arr 4 (.int .u64)) (.pair (.arr 4 (.int .u64)) (.pair (.pair (.arr 4 (.int .u64)) (.pair (.arr 4 (.int .u64)) (.pair .bool .unit))) .unit)))))), (119, (.pair (.arr 4 (.int .u64)) (.pair .opq .unit)))], [], [], fnL [], noSh, [], invL [], [(2, [2])], [], [], 0, 0⟩
def St0 (x0 : List Int × List Int × List Int × List Int × (List Int × List Int × Bool × Unit) × Unit) : St := stL 7 [(0, .data (.pair (.arr 4 (.int .u64)) (.pair (.arr 4 (.int .u64)) (.pair (.arr 4 (.int .u64)) (.pair (.arr 4 (.int .u64)) (.pair (.pair (.arr 4 (.int .u64)) (.pair (.arr 4 (.int .u64)) (.pair .bool .unit))) .unit))))) x0)] []
def St1 (c2p0 : List Int) (c5 : Bool) : St := stL 7 [(2, .ref 2 0 [])] [(2, .cell (.pair (.arr 4 (.int .u64)) (.pair .opq .unit)) (.agg (.pair (.arr 4 (.int .u64)) (.pair .opq .unit)) [.data (.arr 4 (.int .u64)) c2p0, .ref 5 0 []]) false), (5, .cell .bool (.data .bool c5) false)]
def top {α : Type} (Rt : (List Int) → Bool → Option α) (x0 : List Int × List Int × List Int × List Int × (List Int × List Int × Bool × Unit) × Unit) : Option α :=
  Rt x0.1 false
theorem top_eq {α : Type} (k : Nat) (Q : Ex → St → Option α) (x0 : List Int × List Int × List Int × List Int × (List Int × List Int × Bool × Unit) × Unit) :
    (den C k) (cB Try.f89) (endQ C Q) (St0 x0) = top (fun (c2p0 : List Int) (c5 : Bool) => Q .ret (St1 c2p0 c5)) x0 := by
  have h : ∀ (D L : DT α), denJ D L Js C (cB Try.f89) (endQ C Q) (St0 x0) =
        Q .ret (St1 x0.1 false) := by
    intro D L; kernel_rfl
  refine (show (den C k) (cB Try.f89) (endQ C Q) (St0 x0) = denJ (den C k) (lp C k) Js C (cB Try.f89) (endQ C Q) (St0 x0) from (denJ_den _ _ _ _ _ _).symm).trans ((h (den C k) (lp C k)).trans ?_)
  first | rfl | kernel_rfl
def run (x0 : List Int × List Int × List Int × List Int × (List Int × List Int × Bool × Unit) × Unit) : Option (List Int × List Int × Bool × Unit) := top (α := List Int × List Int × Bool × Unit) (fun (c2p0 : List Int) (c5 : Bool) => some (c2p0, c2p0, c5, ())) x0
def Sp : Spec := ⟨[hD (.pair (.arr 4 (.int .u64)) (.pair (.arr 4 (.int .u64)) (.pair (.arr 4 (.int .u64)) (.pair (.arr 4 (.int .u64)) (.pair (.pair (.arr 4 (.int .u64)) (.pair (.arr 4 (.int .u64)) (.pair .bool .unit))) .unit)))))], [], (.pair (.pair (.arr 4 (.int .u64)) (.pair (.arr 4 (.int .u64)) (.pair (.arr 4 (.int .u64)) (.pair (.arr 4 (.int .u64)) (.pair (.pair (.arr 4 (.int .u64)) (.pair (.arr 4 (.int .u64)) (.pair .bool .unit))) .unit))))) .unit), .agg (.pair (.arr 4 (.int .u64)) (.pair .opq .unit)) [hD (.arr 4 (.int .u64)), .ref 5 0 []], [(2, hC (.pair (.arr 4 (.int .u64)) (.pair .opq .unit)) (.agg (.pair (.arr 4 (.int .u64)) (.pair .opq .unit)) [hD (.arr 4 (.int .u64)), .ref 5 0 []]) false), (5, hC .bool (hD .bool) false)], (.pair (.arr 4 (.int .u64)) (.pair (.arr 4 (.int .u64)) (.pair .bool .unit))), fun x => run x.1⟩
set_option maxRecDepth 100000 in
theorem sok : SOk Try.prog 89 Sp.h := by
  refine sok_of_den (C := C) (ctx_ok (by kernel_rfl) (by kernel_rfl) (by kernel_rfl) (by kernel_rfl) trivial) (by kernel_rfl) Try.func89 (c := cB Try.f89) (by kernel_rfl) (by kernel_rfl) Sp fuel (by kernel_rfl) (by kernel_rfl) ?_
  intro x r h
  rw [← h]
  have h1 : Sp.start x Try.f89.ntmps = (St0 x.1) := by kernel_rfl
  rw [h1]
  refine (top_eq fuel (finS C Try.f89.results.toList Sp.read) x.1).trans ?_
  kernel_rfl
theorem named : Named Try.prog 89 := named_of Try.func89 (by kernel_rfl) (by kernel_rfl)
end Go.Bx.curve_ringOf_s0
namespace Go.Bx.curve_side_s0
open Go Go.Proofs Go.Bx
set_option maxRecDepth 100000
set_option linter.unusedVariables false
def Js : List Nat := []
def C : Ctx := ⟨[(45, (.arr 4 (.int .u64))), (61, (.pair (.arr 4 (.int .u64)) (.pair (.arr 4 (.int .u64)) (.pair (.arr 4 (.int .u64)) (.pair (.arr 4 (.int .u64)) (.pair (.pair (.arr 4 (.int .u64)) (.pair (.arr 4 (.int .u64)) (.pair .bool .unit))) .unit)))))), (119, (.pair (.arr 4 (.int .u64)) (.pair .opq .unit)))], [], [], fnL [], shL [(90, [.one Go.Bx.curve_ring__mul_s1.Sp]), (92, [.one Go.Bx.curve_ring__add_s0.Sp])], [(14, 26), (15, 27), (20, 28), (21, 29), (24, 30)], invL [], [(2, [6])], [], [], 1, 0⟩
def St0 (x0 : List Int × List Int × List Int × List Int × (List Int × List Int × Bool × Unit) × Unit) (x1p0 : List Int) (x2 : List Int) (c0 : Bool) : St := stL 25 [(0, .data (.pair (.arr 4 (.int .u64)) (.pair (.arr 4 (.int .u64)) (.pair (.arr 4 (.int .u64)) (.pair (.arr 4 (.int .u64)) (.pair (.pair (.arr 4 (.int .u64)) (.pair (.arr 4 (.int .u64)) (.pair .bool .unit))) .unit))))) x0), (1, .agg (.pair (.arr 4 (.int .u64)) (.pair .opq .unit)) [.data (.arr 4 (.int .u64)) x1p0, .ref 0 0 []]), (2, .data (.arr 4 (.int .u64)) x2)] [(0, .cell .bool (.data .bool c0) false)]
def St1 (c0 : Bool) (c7 : List Int) : St := stL 25 [(6, .ref 7 0 [])] [(0, .cell .bool (.data .bool c0) false), (7, .cell (.arr 4 (.int .u64)) (.data (.arr 4 (.int .u64)) c7) false)]
def top {α : Type} (Rt : Bool → (List Int) → Option α) (x0 : List Int × List Int × List Int × List Int × (List Int × List Int × Bool × Unit) × Unit) (x1p0 : List Int) (x2 : List Int) (c0 : Bool) : Option α :=
  (Go.Bx.curve_ring__mul_s1.run x1p0 x2 x2 c0).bind fun y1 =>
  (Go.Bx.curve_ring__mul_s1.run x1p0 x2 y1.1 y1.2.1).bind fun y2 =>
  (Go.Bx.curve_ring__mul_s1.run x1p0 x0.2.1 x2 y2.2.1).bind fun y3 =>
  (Go.Bx.curve_ring__add_s0.run x1p0 y2.1 y3.1 y3.2.1).bind fun y4 =>
  (Go.Bx.curve_ring__add_s0.run x1p0 y4.1 x0.2.2.1 y4.2.1).bind fun y5 =>
  Rt y5.2.1 y5.1
theorem top_eq {α : Type} (k : Nat) (Q : Ex → St → Option α) (x0 : List Int × List Int × List Int × List Int × (List Int × List Int × Bool × Unit) × Unit) (x1p0 : List Int) (x2 : List Int) (c0 : Bool) :
    (den C k) (cB Try.f105) (endQ C Q) (St0 x0 x1p0 x2 c0) = top (fun (c0 : Bool) (c7 : List Int) => Q .ret (St1 c0 c7)) x0 x1p0 x2 c0 := by
  have h : ∀ (D L : DT α), denJ D L Js C (cB Try.f105) (endQ C Q) (St0 x0 x1p0 x2 c0) =
        (Go.Bx.curve_ring__mul_s1.run x1p0 x2 x2 c0).bind fun y1 =>
        (Go.Bx.curve_ring__mul_s1.run x1p0 x2 y1.1 y1.2.1).bind fun y2 =>
        (Go.Bx.curve_ring__mul_s1.run x1p0 x0.2.1 x2 y2.2.1).bind fun y3 =>
        (Go.Bx.curve_ring__add_s0.run x1p0 y2.1 y3.1 y3.2.1).bind fun y4 =>
        (Go.Bx.curve_ring__add_s0.run x1p0 y4.1 x0.2.2.1 y4.2.1).bind fun y5 =>
        Q .ret (St1 y5.2.1 y5.1) := by
    intro D L; kernel_rfl
  refine (show (den C k) (cB Try.f105) (endQ C Q) (St0 x0 x1p0 x2 c0) = denJ (den C k) (lp C k) Js C (cB Try.f105) (endQ C Q) (St0 x0 x1p0 x2 c0) from (denJ_den _ _ _ _ _ _).symm).trans ((h (den C k) (lp C k)).trans ?_)
  first | rfl | kernel_rfl
def run (x0 : List Int × List Int × List Int × List Int × (List Int × List Int × Bool × Unit) × Unit) (x1p0 : List Int) (x2 : List Int) (c0 : Bool) : Option (List Int × Bool × List Int × Unit) := top (α := List Int × Bool × List Int × Unit) (fun (c0 : Bool) (c7 : List Int) => some (c7, c0, c7, ())) x0 x1p0 x2 c0
def Sp : Spec := ⟨[hD (.pair (.arr 4 (.int .u64)) (.pair (.arr 4 (.int .u64)) (.pair (.arr 4 (.int .u64)) (.pair (.arr 4 (.int .u64)) (.pair (.pair (.arr 4 (.int .u64)) (.pair (.arr 4 (.int .u64)) (.pair .bool .unit))) .unit))))), .agg (.pair (.arr 4 (.int .u64)) (.pair .opq .unit)) [hD (.arr 4 (.int .u64)), .ref 0 0 []], hD (.arr 4 (.int .u64))], [(0, hC .bool (hD .bool) false)], (.pair (.pair (.arr 4 (.int .u64)) (.pair (.arr 4 (.int .u64)) (.pair (.arr 4 (.int .u64)) (.pair (.arr 4 (.int .u64)) (.pair (.pair (.arr 4 (.int .u64)) (.pair (.arr 4 (.int .u64)) (.pair .bool .unit))) .unit))))) (.pair (.arr 4 (.int .u64)) (.pair (.arr 4 (.int .u64)) (.pair .bool .unit)))), hD (.arr 4 (.int .u64)), [(0, hC .bool (hD .bool) false), (7, hC (.arr 4 (.int .u64)) (hD (.arr 4 (.int .u64))) false)], (.pair (.arr 4 (.int .u64)) (.pair .bool (.pair (.arr 4 (.int .u64)) .unit))), fun x => run x.1 x.2.1 x.2.2.1 x.2.2.2.1⟩
set_option maxRecDepth 100000 in
theorem sok : SOk Try.prog 105 Sp.h := by
  refine sok_of_den (C := C) (ctx_ok_sh (by kernel_rfl) (by kernel_rfl) (by kernel_rfl) (by kernel_rfl) trivial ⟨⟨⟨Go.Bx.curve_ring__mul_s1.sok, trivial⟩, Go.Bx.curve_ring__mul_s1.named⟩, ⟨⟨⟨Go.Bx.curve_ring__add_s0.sok, trivial⟩, Go.Bx.curve_ring__add_s0.named⟩, trivial⟩⟩) (by kernel_rfl) Try.func105 (c := cB Try.f105) (by kernel_rfl) (by kernel_rfl) Sp fuel (by kernel_rfl) (by kernel_rfl) ?_
  intro x r h
  rw [← h]
  have h1 : Sp.start x Try.f105.ntmps = (St0 x.1 x.2.1 x.2.2.1 x.2.2.2.1) := by kernel_rfl
  rw [h1]
  refine (top_eq fuel (finS C Try.f105.results.toList Sp.read) x.1 x.2.1 x.2.2.1 x.2.2.2.1).trans ?_
  kernel_rfl
theorem named : Named Try.prog 105 := named_of Try.func105 (by kernel_rfl) (by kernel_rfl)
end Go.Bx.curve_side_s0
namespace Go.Bx.curve_on
open Go Go.Proofs Go.Bx
set_option maxRecDepth 100000
set_option linter.unusedVariables false
def Js : List Nat := []
def C : Ctx := ⟨[(4, .bool), (45, (.arr 4 (.int .u64))), (59, (.pair (.arr 4 (.int .u64)) (.pair (.arr 4 (.int .u64)) (.pair .bool .unit)))), (61, (.pair (.arr 4 (.int .u64)) (.pair (.arr 4 (.int .u64)) (.pair (.arr 4 (.int .u64)) (.pair (.arr 4 (.int .u64)) (.pair (.pair (.arr 4 (.int .u64)) (.pair (.arr 4 (.int .u64)) (.pair .bool .unit))) .unit)))))), (119, (.pair (.arr 4 (.int .u64)) (.pair .opq .unit)))], [], [], fnL [(88, Go.Bx.wide_Cmp.F)], shL [(89, [.one Go.Bx.curve_ringOf_s0.Sp]), (90, [.one Go.Bx.curve_ring__mul_s1.Sp]), (105, [.one Go.Bx.curve_side_s0.Sp])], [(33, 47), (39, 49), (44, 50)], invL [], [(2, [4])], [], [], 0, 0⟩
def St0 (x0 : List Int × List Int × List Int × List Int × (List Int × List Int × Bool × Unit) × Unit) (x1 : List Int × List Int × Bool × Unit) : St := stL 46 [(0, .data (.pair (.arr 4 (.int .u64)) (.pair (.arr 4 (.int .u64)) (.pair (.arr 4 (.int .u64)) (.pair (.arr 4 (.int .u64)) (.pair (.pair (.arr 4 (.int .u64)) (.pair (.arr 4 (.int .u64)) (.pair .bool .unit))) .unit))))) x0), (1, .data (.pair (.arr 4 (.int .u64)) (.pair (.arr 4 (.int .u64)) (.pair .bool .unit))) x1)] []
def St1 (x4 : Bool) : St := stL 46 [(4, .data .bool x4)] []
def top {α : Type} (Rt : Bool → Option α) (x0 : List Int × List Int × List Int × List Int × (List Int × List Int × Bool × Unit) × Unit) (x1 : List Int × List Int × Bool × Unit) : Option α :=
  if x1.2.2.1 = true then
    Rt (cond (beqD (.arr 4 (.int .u64)) x1.1 [0, 0, 0, 0]) (beqD (.arr 4 (.int .u64)) x1.2.1 [0, 0, 0, 0]) false)
  else
    (Go.Bx.wide_Cmp.run x1.1 x0.1).bind fun y1 =>
    (if ((decide (y1 ≥ 0)) == false) = true then Go.Bx.wide_Cmp.run x1.2.1 x0.1 else some 0).bind fun y2 =>
    if (cond (decide (y1 ≥ 0)) true (decide (y2 ≥ 0))) = true then
      Rt false
    else
      (Go.Bx.curve_ringOf_s0.run x0).bind fun y3 =>
      (Go.Bx.curve_ring__mul_s1.run y3.1 x1.2.1 x1.2.1 y3.2.2.1).bind fun y4 =>
      (Go.Bx.curve_side_s0.run x0 y3.1 x1.1 y4.2.1).bind fun y5 =>
      Rt (beqD (.arr 4 (.int .u64)) y4.1 y5.1)
theorem top_eq {α : Type} (k : Nat) (Q : Ex → St → Option α) (x0 : List Int × List Int × List Int × List Int × (List Int × List Int × Bool × Unit) × Unit) (x1 : List Int × List Int × Bool × Unit) :
    (den C k) (cB Try.f93) Q (St0 x0 x1) = top (fun (x4 : Bool) => Q .ret (St1 x4)) x0 x1 := by
  have h : ∀ (D L : DT α), denJ D L Js C (cB Try.f93) Q (St0 x0 x1) =
        if x1.2.2.1 = true then
          Q .ret (St1 (cond (beqD (.arr 4 (.int .u64)) x1.1 [0, 0, 0, 0]) (beqD (.arr 4 (.int .u64)) x1.2.1 [0, 0, 0, 0]) false))
        else
          (Go.Bx.wide_Cmp.run x1.1 x0.1).bind fun y1 =>
          (if ((decide (y1 ≥ 0)) == false) = true then Go.Bx.wide_Cmp.run x1.2.1 x0.1 else some 0).bind fun y2 =>
          if (cond (decide (y1 ≥ 0)) true (decide (y2 ≥ 0))) = true then
            Q .ret (St1 false)
          else
            (Go.Bx.curve_ringOf_s0.run x0).bind fun y3 =>
            (Go.Bx.curve_ring__mul_s1.run y3.1 x1.2.1 x1.2.1 y3.2.2.1).bind fun y4 =>
            (Go.Bx.curve_side_s0.run x0 y3.1 x1.1 y4.2.1).bind fun y5 =>
            Q .ret (St1 (beqD (.arr 4 (.int .u64)) y4.1 y5.1)) := by
    intro D L; kernel_rfl
  refine (show (den C k) (cB Try.f93) Q (St0 x0 x1) = denJ (den C k) (lp C k) Js C (cB Try.f93) Q (St0 x0 x1) from (denJ_den _ _ _ _ _ _).symm).trans ((h (den C k) (lp C k)).trans ?_)
  first | rfl | kernel_rfl
def run (x0 : List Int × List Int × List Int × List Int × (List Int × List Int × Bool × Unit) × Unit) (x1 : List Int × List Int × Bool × Unit) : Option (Bool) := top (α := Bool) (fun (x4 : Bool) => some x4) x0 x1
def F : Fn := ⟨(.pair (.pair (.arr 4 (.int .u64)) (.pair (.arr 4 (.int .u64)) (.pair (.arr 4 (.int .u64)) (.pair (.arr 4 (.int .u64)) (.pair (.pair (.arr 4 (.int .u64)) (.pair (.arr 4 (.int .u64)) (.pair .bool .unit))) .unit))))) (.pair (.pair (.arr 4 (.int .u64)) (.pair (.arr 4 (.int .u64)) (.pair .bool .unit))) .unit)), .bool, false, fun x => run x.1 x.2.1⟩
set_option maxRecDepth 100000 in
theorem con : Con Try.prog 93 F := by
  refine con_of_den (C := C) (ctx_ok_sh (by kernel_rfl) (by kernel_rfl) (by kernel_rfl) (by kernel_rfl) ⟨.inl ⟨Go.Bx.wide_Cmp.con, Go.Bx.wide_Cmp.named⟩, trivial⟩ ⟨⟨⟨Go.Bx.curve_ringOf_s0.sok, trivial⟩, Go.Bx.curve_ringOf_s0.named⟩, ⟨⟨⟨Go.Bx.curve_ring__mul_s1.sok, trivial⟩, Go.Bx.curve_ring__mul_s1.named⟩, ⟨⟨⟨Go.Bx.curve_side_s0.sok, trivial⟩, Go.Bx.curve_side_s0.named⟩, trivial⟩⟩⟩) (by kernel_rfl) Try.func93 (c := cB Try.f93) (by kernel_rfl) (by kernel_rfl) F fuel (fun x => by simp [F, spread, Try.ntmps93]) ?_
  intro x r h
  rw [← h]
  have h1 : start F Try.f93.ntmps x = (St0 x.1 x.2.1) := by kernel_rfl
  rw [h1]
  refine (top_eq fuel (fin C Try.f93.results.toList F.rs F.multi) x.1 x.2.1).trans ?_
  kernel_rfl
theorem named : Named Try.prog 93 := named_of Try.func93 (by kernel_rfl) (by kernel_rfl)
end Go.Bx.curve_on
namespace Go.Bx.curve_Check
open Go Go.Proofs Go.Bx
set_option maxRecDepth 100000
set_option linter.unusedVariables false
def Js : List Nat := []
def C : Ctx := ⟨[(4, .bool), (24, (.int .u64)), (31, (.int .i64)), (45, (.arr 4 (.int .u64))), (59, (.pair (.arr 4 (.int .u64)) (.pair (.arr 4 (.int .u64)) (.pair .bool .unit)))), (61, (.pair (.arr 4 (.int .u64)) (.pair (.arr 4 (.int .u64)) (.pair (.arr 4 (.int .u64)) (.pair (.arr 4 (.int .u64)) (.pair (.pair (.arr 4 (.int .u64)) (.pair (.arr 4 (.int .u64)) (.pair .bool .unit))) .unit)))))), (119, (.pair (.arr 4 (.int .u64)) (.pair .opq .unit)))], [], [], fnL [(88, Go.Bx.wide_Cmp.F), (93, Go.Bx.curve_on.F)], shL [(89, [.one Go.Bx.curve_ringOf_s0.Sp]), (90, [.one Go.Bx.curve_ring__mul_s1.Sp]), (91, [.one Go.Bx.curve_ring__small_s0.Sp]), (92, [.one Go.Bx.curve_ring__add_s0.Sp])], [(42, 86), (45, 88), (54, 89), (55, 90), (56, 91), (59, 92), (65, 93), (66, 94), (70, 95)], invL [], [(2, [2])], [], [], 0, 0⟩
def St0 (x0 : List Int × List Int × List Int × List Int × (List Int × List Int × Bool × Unit) × Unit) : St := stL 85 [(0, .data (.pair (.arr 4 (.int .u64)) (.pair (.arr 4 (.int .u64)) (.pair (.arr 4 (.int .u64)) (.pair (.arr 4 (.int .u64)) (.pair (.pair (.arr 4 (.int .u64)) (.pair (.arr 4 (.int .u64)) (.pair .bool .unit))) .unit))))) x0)] []
def St1 (x2 : Int) : St := stL 85 [(2, .data (.int .i64) x2)] []
def top {α : Type} (Rt : Int → Option α) (x0 : List Int × List Int × List Int × List Int × (List Int × List Int × Bool × Unit) × Unit) : Option α :=
  (Go.Bx.wide_Cmp.run x0.1 [3, 0, 0, 0]).bind fun y1 =>
  (if ((cond (decide (y1 ≤ 0)) true ((Int.tmod (List.getD x0.1 0 0) 4) != 3)) == false) = true then Go.Bx.wide_Cmp.run x0.2.1 x0.1 else some 0).bind fun y2 =>
  (if ((cond (cond (decide (y1 ≤ 0)) true ((Int.tmod (List.getD x0.1 0 0) 4) != 3)) true (decide (y2 ≥ 0))) == false) = true then Go.Bx.wide_Cmp.run x0.2.2.1 x0.1 else some 0).bind fun y3 =>
  (if ((cond (cond (cond (decide (y1 ≤ 0)) true ((Int.tmod (List.getD x0.1 0 0) 4) != 3)) true (decide (y2 ≥ 0))) true (decide (y3 ≥ 0))) == false) = true then Go.Bx.wide_Cmp.run x0.2.2.2.1 [1, 0, 0, 0] else some 0).bind fun y4 =>
  if (cond (cond (cond (cond (decide (y1 ≤ 0)) true ((Int.tmod (List.getD x0.1 0 0) 4) != 3)) true (decide (y2 ≥ 0))) true (decide (y3 ≥ 0))) true (decide (y4 ≤ 0))) = true then
    Rt 16
  else
    (Go.Bx.curve_ringOf_s0.run x0).bind fun y5 =>
    (Go.Bx.curve_ring__small_s0.run y5.1 4 y5.2.2.1).bind fun y6 =>
    (Go.Bx.curve_ring__mul_s1.run y5.1 x0.2.1 x0.2.1 y6.2.1).bind fun y7 =>
    (Go.Bx.curve_ring__mul_s1.run y5.1 x0.2.1 y7.1 y7.2.1).bind fun y8 =>
    (Go.Bx.curve_ring__mul_s1.run y5.1 y6.1 y8.1 y8.2.1).bind fun y9 =>
    (Go.Bx.curve_ring__small_s0.run y5.1 27 y9.2.1).bind fun y10 =>
    (Go.Bx.curve_ring__mul_s1.run y5.1 x0.2.2.1 x0.2.2.1 y10.2.1).bind fun y11 =>
    (Go.Bx.curve_ring__mul_s1.run y5.1 y10.1 y11.1 y11.2.1).bind fun y12 =>
    (Go.Bx.curve_ring__add_s0.run y5.1 y9.1 y12.1 y12.2.1).bind fun y13 =>
    (if ((cond (beqD (.arr 4 (.int .u64)) y13.1 [0, 0, 0, 0]) true x0.2.2.2.2.1.2.2.1) == false) = true then Go.Bx.curve_on.run x0 x0.2.2.2.2.1 else some false).bind fun y14 =>
    if (cond (cond (beqD (.arr 4 (.int .u64)) y13.1 [0, 0, 0, 0]) true x0.2.2.2.2.1.2.2.1) true (not y14)) = true then
      Rt 16
    else
      Rt 0
theorem top_eq {α : Type} (k : Nat) (Q : Ex → St → Option α) (x0 : List Int × List Int × List Int × List Int × (List Int × List Int × Bool × Unit) × Unit) :
    (den C k) (cB Try.f31) Q (St0 x0) = top (fun (x2 : Int) => Q .ret (St1 x2)) x0 := by
  have h : ∀ (D L : DT α), denJ D L Js C (cB Try.f31) Q (St0 x0) =
        (Go.Bx.wide_Cmp.run x0.1 [3, 0, 0, 0]).bind fun y1 =>
        (if ((cond (decide (y1 ≤ 0)) true ((Int.tmod (List.getD x0.1 0 0) 4) != 3)) == false) = true then Go.Bx.wide_Cmp.run x0.2.1 x0.1 else some 0).bind fun y2 =>
        (if ((cond (cond (decide (y1 ≤ 0)) true ((Int.tmod (List.getD x0.1 0 0) 4) != 3)) true (decide (y2 ≥ 0))) == false) = true then Go.Bx.wide_Cmp.run x0.2.2.1 x0.1 else some 0).bind fun y3 =>
        (if ((cond (cond (cond (decide (y1 ≤ 0)) true ((Int.tmod (List.getD x0.1 0 0) 4) != 3)) true (decide (y2 ≥ 0))) true (decide (y3 ≥ 0))) == false) = true then Go.Bx.wide_Cmp.run x0.2.2.2.1 [1, 0, 0, 0] else some 0).bind fun y4 =>
        if (cond (cond (cond (cond (decide (y1 ≤ 0)) true ((Int.tmod (List.getD x0.1 0 0) 4) != 3)) true (decide (y2 ≥ 0))) true (decide (y3 ≥ 0))) true (decide (y4 ≤ 0))) = true then
          Q .ret (St1 16)
        else
          (Go.Bx.curve_ringOf_s0.run x0).bind fun y5 =>
          (Go.Bx.curve_ring__small_s0.run y5.1 4 y5.2.2.1).bind fun y6 =>
          (Go.Bx.curve_ring__mul_s1.run y5.1 x0.2.1 x0.2.1 y6.2.1).bind fun y7 =>
          (Go.Bx.curve_ring__mul_s1.run y5.1 x0.2.1 y7.1 y7.2.1).bind fun y8 =>
          (Go.Bx.curve_ring__mul_s1.run y5.1 y6.1 y8.1 y8.2.1).bind fun y9 =>
          (Go.Bx.curve_ring__small_s0.run y5.1 27 y9.2.1).bind fun y10 =>
          (Go.Bx.curve_ring__mul_s1.run y5.1 x0.2.2.1 x0.2.2.1 y10.2.1).bind fun y11 =>
          (Go.Bx.curve_ring__mul_s1.run y5.1 y10.1 y11.1 y11.2.1).bind fun y12 =>
          (Go.Bx.curve_ring__add_s0.run y5.1 y9.1 y12.1 y12.2.1).bind fun y13 =>
          (if ((cond (beqD (.arr 4 (.int .u64)) y13.1 [0, 0, 0, 0]) true x0.2.2.2.2.1.2.2.1) == false) = true then Go.Bx.curve_on.run x0 x0.2.2.2.2.1 else some false).bind fun y14 =>
          if (cond (cond (beqD (.arr 4 (.int .u64)) y13.1 [0, 0, 0, 0]) true x0.2.2.2.2.1.2.2.1) true (not y14)) = true then
            Q .ret (St1 16)
          else
            Q .ret (St1 0) := by
    intro D L; kernel_rfl
  refine (show (den C k) (cB Try.f31) Q (St0 x0) = denJ (den C k) (lp C k) Js C (cB Try.f31) Q (St0 x0) from (denJ_den _ _ _ _ _ _).symm).trans ((h (den C k) (lp C k)).trans ?_)
  first | rfl | kernel_rfl
def run (x0 : List Int × List Int × List Int × List Int × (List Int × List Int × Bool × Unit) × Unit) : Option (Int) := top (α := Int) (fun (x2 : Int) => some x2) x0
def F : Fn := ⟨(.pair (.pair (.arr 4 (.int .u64)) (.pair (.arr 4 (.int .u64)) (.pair (.arr 4 (.int .u64)) (.pair (.arr 4 (.int .u64)) (.pair (.pair (.arr 4 (.int .u64)) (.pair (.arr 4 (.int .u64)) (.pair .bool .unit))) .unit))))) .unit), (.int .i64), false, fun x => run x.1⟩
set_option maxRecDepth 100000 in
theorem con : Con Try.prog 31 F := by
  refine con_of_den (C := C) (ctx_ok_sh (by kernel_rfl) (by kernel_rfl) (by kernel_rfl) (by kernel_rfl) ⟨.inl ⟨Go.Bx.wide_Cmp.con, Go.Bx.wide_Cmp.named⟩, ⟨.inl ⟨Go.Bx.curve_on.con, Go.Bx.curve_on.named⟩, trivial⟩⟩ ⟨⟨⟨Go.Bx.curve_ringOf_s0.sok, trivial⟩, Go.Bx.curve_ringOf_s0.named⟩, ⟨⟨⟨Go.Bx.curve_ring__mul_s1.sok, trivial⟩, Go.Bx.curve_ring__mul_s1.named⟩, ⟨⟨⟨Go.Bx.curve_ring__small_s0.sok, trivial⟩, Go.Bx.curve_ring__small_s0.named⟩, ⟨⟨⟨Go.Bx.curve_ring__add_s0.sok, trivial⟩, Go.Bx.curve_ring__add_s0.named⟩, trivial⟩⟩⟩⟩) (by kernel_rfl) Try.func31 (c := cB Try.f31) (by kernel_rfl) (by kernel_rfl) F fuel (fun x => by simp [F, spread, Try.ntmps31]) ?_
  intro x r h
  rw [← h]
  have h1 : start F Try.f31.ntmps x = (St0 x.1) := by kernel_rfl
  rw [h1]
  refine (top_eq fuel (fin C Try.f31.results.toList F.rs F.multi) x.1).trans ?_
  kernel_rfl
theorem named : Named Try.prog 31 := named_of Try.func31 (by kernel_rfl) (by kernel_rfl)
end Go.Bx.curve_Check
namespace Go.Bx.basculeref_right
open Go Go.Proofs Go.Bx
set_option maxRecDepth 100000
set_option linter.unusedVariables false
def Js : List Nat := []
def C : Ctx := ⟨[(45, (.arr 4 (.int .u64))), (61, (.pair (.arr 4 (.int .u64)) (.pair (.arr 4 (.int .u64)) (.pair (.arr 4 (.int .u64)) (.pair (.arr 4 (.int .u64)) (.pair (.pair (.arr 4 (.int .u64)) (.pair (.arr 4 (.int .u64)) (.pair .bool .unit))) .unit))))))], [], [], fnL [(94, Go.Bx.basculeref_total.F), (95, Go.Bx.basculeref_product.F)], noSh, [], invL [], [(2, [4])], [], [], 0, 0⟩
def St0 (x0 : List Int × List Int × List Int × List Int × (List Int × List Int × Bool × Unit) × Unit) (x1 : List Int) : St := stL 24 [(0, .data (.pair (.arr 4 (.int .u64)) (.pair (.arr 4 (.int .u64)) (.pair (.arr 4 (.int .u64)) (.pair (.arr 4 (.int .u64)) (.pair (.pair (.arr 4 (.int .u64)) (.pair (.arr 4 (.int .u64)) (.pair .bool .unit))) .unit))))) x0), (1, .data (.arr 4 (.int .u64)) x1)] []
def St1 (c4 : List Int) : St := stL 24 [(4, .ref 4 0 [])] [(4, .cell (.arr 4 (.int .u64)) (.data (.arr 4 (.int .u64)) c4) false)]
def top {α : Type} (Rt : (List Int) → Option α) (x0 : List Int × List Int × List Int × List Int × (List Int × List Int × Bool × Unit) × Unit) (x1 : List Int) : Option α :=
  (Go.Bx.basculeref_product.run x1 x1 x0.1).bind fun y1 =>
  (Go.Bx.basculeref_total.run y1 x0.2.1 x0.1).bind fun y2 =>
  (Go.Bx.basculeref_product.run x1 y2 x0.1).bind fun y3 =>
  (Go.Bx.basculeref_total.run y3 x0.2.2.1 x0.1).bind fun y4 =>
  Rt y4
theorem top_eq {α : Type} (k : Nat) (Q : Ex → St → Option α) (x0 : List Int × List Int × List Int × List Int × (List Int × List Int × Bool × Unit) × Unit) (x1 : List Int) :
    (den C k) (cB Try.f109) Q (St0 x0 x1) = top (fun (c4 : List Int) => Q .ret (St1 c4)) x0 x1 := by
  have h : ∀ (D L : DT α), denJ D L Js C (cB Try.f109) Q (St0 x0 x1) =
        (Go.Bx.basculeref_product.run x1 x1 x0.1).bind fun y1 =>
        (Go.Bx.basculeref_total.run y1 x0.2.1 x0.1).bind fun y2 =>
        (Go.Bx.basculeref_product.run x1 y2 x0.1).bind fun y3 =>
        (Go.Bx.basculeref_total.run y3 x0.2.2.1 x0.1).bind fun y4 =>
        Q .ret (St1 y4) := by
    intro D L; kernel_rfl
  refine (show (den C k) (cB Try.f109) Q (St0 x0 x1) = denJ (den C k) (lp C k) Js C (cB Try.f109) Q (St0 x0 x1) from (denJ_den _ _ _ _ _ _).symm).trans ((h (den C k) (lp C k)).trans ?_)
  first | rfl | kernel_rfl
def run (x0 : List Int × List Int × List Int × List Int × (List Int × List Int × Bool × Unit) × Unit) (x1 : List Int) : Option (List Int) := top (α := List Int) (fun (c4 : List Int) => some c4) x0 x1
def F : Fn := ⟨(.pair (.pair (.arr 4 (.int .u64)) (.pair (.arr 4 (.int .u64)) (.pair (.arr 4 (.int .u64)) (.pair (.arr 4 (.int .u64)) (.pair (.pair (.arr 4 (.int .u64)) (.pair (.arr 4 (.int .u64)) (.pair .bool .unit))) .unit))))) (.pair (.arr 4 (.int .u64)) .unit)), (.arr 4 (.int .u64)), false, fun x => run x.1 x.2.1⟩
set_option maxRecDepth 100000 in
theorem con : Con Try.prog 109 F := by
  refine con_of_den (C := C) (ctx_ok (by kernel_rfl) (by kernel_rfl) (by kernel_rfl) (by kernel_rfl) ⟨.inl ⟨Go.Bx.basculeref_total.con, Go.Bx.basculeref_total.named⟩, ⟨.inl ⟨Go.Bx.basculeref_product.con, Go.Bx.basculeref_product.named⟩, trivial⟩⟩) (by kernel_rfl) Try.func109 (c := cB Try.f109) (by kernel_rfl) (by kernel_rfl) F fuel (fun x => by simp [F, spread, Try.ntmps109]) ?_
  intro x r h
  rw [← h]
  have h1 : start F Try.f109.ntmps x = (St0 x.1 x.2.1) := by kernel_rfl
  rw [h1]
  refine (top_eq fuel (fin C Try.f109.results.toList F.rs F.multi) x.1 x.2.1).trans ?_
  kernel_rfl
theorem named : Named Try.prog 109 := named_of Try.func109 (by kernel_rfl) (by kernel_rfl)
end Go.Bx.basculeref_right
namespace Go.Bx.basculeref_isOn
open Go Go.Proofs Go.Bx
set_option maxRecDepth 100000
set_option linter.unusedVariables false
def Js : List Nat := []
def C : Ctx := ⟨[(4, .bool), (45, (.arr 4 (.int .u64))), (59, (.pair (.arr 4 (.int .u64)) (.pair (.arr 4 (.int .u64)) (.pair .bool .unit)))), (61, (.pair (.arr 4 (.int .u64)) (.pair (.arr 4 (.int .u64)) (.pair (.arr 4 (.int .u64)) (.pair (.arr 4 (.int .u64)) (.pair (.pair (.arr 4 (.int .u64)) (.pair (.arr 4 (.int .u64)) (.pair .bool .unit))) .unit))))))], [], [], fnL [(78, Go.Bx.basculeref_Order.F), (95, Go.Bx.basculeref_product.F), (98, Go.Bx.basculeref_isZero.F), (109, Go.Bx.basculeref_right.F)], noSh, [], invL [], [(2, [4])], [], [], 0, 0⟩
def St0 (x0 : List Int × List Int × List Int × List Int × (List Int × List Int × Bool × Unit) × Unit) (x1 : List Int × List Int × Bool × Unit) : St := stL 43 [(0, .data (.pair (.arr 4 (.int .u64)) (.pair (.arr 4 (.int .u64)) (.pair (.arr 4 (.int .u64)) (.pair (.arr 4 (.int .u64)) (.pair (.pair (.arr 4 (.int .u64)) (.pair (.arr 4 (.int .u64)) (.pair .bool .unit))) .unit))))) x0), (1, .data (.pair (.arr 4 (.int .u64)) (.pair (.arr 4 (.int .u64)) (.pair .bool .unit))) x1)] []
def St1 (x4 : Bool) : St := stL 43 [(4, .data .bool x4)] []
def top {α : Type} (Rt : Bool → Option α) (x0 : List Int × List Int × List Int × List Int × (List Int × List Int × Bool × Unit) × Unit) (x1 : List Int × List Int × Bool × Unit) : Option α :=
  if x1.2.2.1 = true then
    (Go.Bx.basculeref_isZero.run x1.1).bind fun y1 =>
    (if (y1 == true) = true then Go.Bx.basculeref_isZero.run x1.2.1 else some false).bind fun y2 =>
    Rt (cond y1 y2 false)
  else
    (Go.Bx.basculeref_Order.run x1.1 x0.1).bind fun y3 =>
    (if ((decide (y3 < 0)) == true) = true then Go.Bx.basculeref_Order.run x1.2.1 x0.1 else some 0).bind fun y4 =>
    (if ((cond (decide (y3 < 0)) (decide (y4 < 0)) false) == true) = true then Go.Bx.basculeref_product.run x1.2.1 x1.2.1 x0.1 else some [0, 0, 0, 0]).bind fun y5 =>
    (if ((cond (decide (y3 < 0)) (decide (y4 < 0)) false) == true) = true then Go.Bx.basculeref_right.run x0 x1.1 else some [0, 0, 0, 0]).bind fun y6 =>
    Rt (cond (cond (decide (y3 < 0)) (decide (y4 < 0)) false) (beqD (.arr 4 (.int .u64)) y5 y6) false)
theorem top_eq {α : Type} (k : Nat) (Q : Ex → St → Option α) (x0 : List Int × List Int × List Int × List Int × (List Int × List Int × Bool × Unit) × Unit) (x1 : List Int × List Int × Bool × Unit) :
    (den C k) (cB Try.f99) Q (St0 x0 x1) = top (fun (x4 : Bool) => Q .ret (St1 x4)) x0 x1 := by
  have h : ∀ (D L : DT α), denJ D L Js C (cB Try.f99) Q (St0 x0 x1) =
        if x1.2.2.1 = true then
          (Go.Bx.basculeref_isZero.run x1.1).bind fun y1 =>
          (if (y1 == true) = true then Go.Bx.basculeref_isZero.run x1.2.1 else some false).bind fun y2 =>
          Q .ret (St1 (cond y1 y2 false))
        else
          (Go.Bx.basculeref_Order.run x1.1 x0.1).bind fun y3 =>
          (if ((decide (y3 < 0)) == true) = true then Go.Bx.basculeref_Order.run x1.2.1 x0.1 else some 0).bind fun y4 =>
          (if ((cond (decide (y3 < 0)) (decide (y4 < 0)) false) == true) = true then Go.Bx.basculeref_product.run x1.2.1 x1.2.1 x0.1 else some [0, 0, 0, 0]).bind fun y5 =>
          (if ((cond (decide (y3 < 0)) (decide (y4 < 0)) false) == true) = true then Go.Bx.basculeref_right.run x0 x1.1 else some [0, 0, 0, 0]).bind fun y6 =>
          Q .ret (St1 (cond (cond (decide (y3 < 0)) (decide (y4 < 0)) false) (beqD (.arr 4 (.int .u64)) y5 y6) false)) := by
    intro D L; kernel_rfl
  refine (show (den C k) (cB Try.f99) Q (St0 x0 x1) = denJ (den C k) (lp C k) Js C (cB Try.f99) Q (St0 x0 x1) from (denJ_den _ _ _ _ _ _).symm).trans ((h (den C k) (lp C k)).trans ?_)
  first | rfl | kernel_rfl
def run (x0 : List Int × List Int × List Int × List Int × (List Int × List Int × Bool × Unit) × Unit) (x1 : List Int × List Int × Bool × Unit) : Option (Bool) := top (α := Bool) (fun (x4 : Bool) => some x4) x0 x1
def F : Fn := ⟨(.pair (.pair (.arr 4 (.int .u64)) (.pair (.arr 4 (.int .u64)) (.pair (.arr 4 (.int .u64)) (.pair (.arr 4 (.int .u64)) (.pair (.pair (.arr 4 (.int .u64)) (.pair (.arr 4 (.int .u64)) (.pair .bool .unit))) .unit))))) (.pair (.pair (.arr 4 (.int .u64)) (.pair (.arr 4 (.int .u64)) (.pair .bool .unit))) .unit)), .bool, false, fun x => run x.1 x.2.1⟩
set_option maxRecDepth 100000 in
theorem con : Con Try.prog 99 F := by
  refine con_of_den (C := C) (ctx_ok (by kernel_rfl) (by kernel_rfl) (by kernel_rfl) (by kernel_rfl) ⟨.inl ⟨Go.Bx.basculeref_Order.con, Go.Bx.basculeref_Order.named⟩, ⟨.inl ⟨Go.Bx.basculeref_product.con, Go.Bx.basculeref_product.named⟩, ⟨.inl ⟨Go.Bx.basculeref_isZero.con, Go.Bx.basculeref_isZero.named⟩, ⟨.inl ⟨Go.Bx.basculeref_right.con, Go.Bx.basculeref_right.named⟩, trivial⟩⟩⟩⟩) (by kernel_rfl) Try.func99 (c := cB Try.f99) (by kernel_rfl) (by kernel_rfl) F fuel (fun x => by simp [F, spread, Try.ntmps99]) ?_
  intro x r h
  rw [← h]
  have h1 : start F Try.f99.ntmps x = (St0 x.1 x.2.1) := by kernel_rfl
  rw [h1]
  refine (top_eq fuel (fin C Try.f99.results.toList F.rs F.multi) x.1 x.2.1).trans ?_
  kernel_rfl
theorem named : Named Try.prog 99 := named_of Try.func99 (by kernel_rfl) (by kernel_rfl)
end Go.Bx.basculeref_isOn
namespace Go.Bx.basculeref_CurveFault
open Go Go.Proofs Go.Bx
set_option maxRecDepth 100000
set_option linter.unusedVariables false
def Js : List Nat := []
def C : Ctx := ⟨[(4, .bool), (24, (.int .u64)), (31, (.int .i64)), (45, (.arr 4 (.int .u64))), (59, (.pair (.arr 4 (.int .u64)) (.pair (.arr 4 (.int .u64)) (.pair .bool .unit)))), (61, (.pair (.arr 4 (.int .u64)) (.pair (.arr 4 (.int .u64)) (.pair (.arr 4 (.int .u64)) (.pair (.arr 4 (.int .u64)) (.pair (.pair (.arr 4 (.int .u64)) (.pair (.arr 4 (.int .u64)) (.pair .bool .unit))) .unit))))))], [], [], fnL [(78, Go.Bx.basculeref_Order.F), (94, Go.Bx.basculeref_total.F), (95, Go.Bx.basculeref_product.F), (96, Go.Bx.basculeref_by.F), (97, Go.Bx.basculeref_power.F), (98, Go.Bx.basculeref_isZero.F), (99, Go.Bx.basculeref_isOn.F)], noSh, [], invL [], [(2, [2])], [], [], 0, 0⟩
def St0 (x0 : List Int × List Int × List Int × List Int × (List Int × List Int × Bool × Unit) × Unit) : St := stL 83 [(0, .data (.pair (.arr 4 (.int .u64)) (.pair (.arr 4 (.int .u64)) (.pair (.arr 4 (.int .u64)) (.pair (.arr 4 (.int .u64)) (.pair (.pair (.arr 4 (.int .u64)) (.pair (.arr 4 (.int .u64)) (.pair .bool .unit))) .unit))))) x0)] []
def St1 (x2 : Int) : St := stL 83 [(2, .data (.int .i64) x2)] []
def top {α : Type} (Rt : Int → Option α) (x0 : List Int × List Int × List Int × List Int × (List Int × List Int × Bool × Unit) × Unit) : Option α :=
  (Go.Bx.basculeref_Order.run x0.1 [3, 0, 0, 0]).bind fun y1 =>
  (if ((cond (decide (y1 > 0)) ((band .u64 (List.getD x0.1 0 0) 3) == 3) false) == true) = true then Go.Bx.basculeref_Order.run x0.2.1 x0.1 else some 0).bind fun y2 =>
  (if ((cond (cond (decide (y1 > 0)) ((band .u64 (List.getD x0.1 0 0) 3) == 3) false) (decide (y2 < 0)) false) == true) = true then Go.Bx.basculeref_Order.run x0.2.2.1 x0.1 else some 0).bind fun y3 =>
  (if ((cond (cond (cond (decide (y1 > 0)) ((band .u64 (List.getD x0.1 0 0) 3) == 3) false) (decide (y2 < 0)) false) (decide (y3 < 0)) false) == true) = true then Go.Bx.basculeref_Order.run x0.2.2.2.1 [1, 0, 0, 0] else some 0).bind fun y4 =>
  if (not (cond (cond (cond (cond (decide (y1 > 0)) ((band .u64 (List.getD x0.1 0 0) 3) == 3) false) (decide (y2 < 0)) false) (decide (y3 < 0)) false) (decide (y4 > 0)) false)) = true then
    Rt 16
  else
    (Go.Bx.basculeref_by.run 4 x0.1).bind fun y5 =>
    (Go.Bx.basculeref_power.run x0.2.1 [3, 0, 0, 0] x0.1).bind fun y6 =>
    (Go.Bx.basculeref_product.run y5 y6 x0.1).bind fun y7 =>
    (Go.Bx.basculeref_by.run 27 x0.1).bind fun y8 =>
    (Go.Bx.basculeref_power.run x0.2.2.1 [2, 0, 0, 0] x0.1).bind fun y9 =>
    (Go.Bx.basculeref_product.run y8 y9 x0.1).bind fun y10 =>
    (Go.Bx.basculeref_total.run y7 y10 x0.1).bind fun y11 =>
    (Go.Bx.basculeref_isZero.run y11).bind fun y12 =>
    (if ((cond y12 true x0.2.2.2.2.1.2.2.1) == false) = true then Go.Bx.basculeref_isOn.run x0 x0.2.2.2.2.1 else some false).bind fun y13 =>
    if (cond (cond y12 true x0.2.2.2.2.1.2.2.1) true (not y13)) = true then
      Rt 16
    else
      Rt 0
theorem top_eq {α : Type} (k : Nat) (Q : Ex → St → Option α) (x0 : List Int × List Int × List Int × List Int × (List Int × List Int × Bool × Unit) × Unit) :
    (den C k) (cB Try.f33) Q (St0 x0) = top (fun (x2 : Int) => Q .ret (St1 x2)) x0 := by
  have h : ∀ (D L : DT α), denJ D L Js C (cB Try.f33) Q (St0 x0) =
        (Go.Bx.basculeref_Order.run x0.1 [3, 0, 0, 0]).bind fun y1 =>
        (if ((cond (decide (y1 > 0)) ((band .u64 (List.getD x0.1 0 0) 3) == 3) false) == true) = true then Go.Bx.basculeref_Order.run x0.2.1 x0.1 else some 0).bind fun y2 =>
        (if ((cond (cond (decide (y1 > 0)) ((band .u64 (List.getD x0.1 0 0) 3) == 3) false) (decide (y2 < 0)) false) == true) = true then Go.Bx.basculeref_Order.run x0.2.2.1 x0.1 else some 0).bind fun y3 =>
        (if ((cond (cond (cond (decide (y1 > 0)) ((band .u64 (List.getD x0.1 0 0) 3) == 3) false) (decide (y2 < 0)) false) (decide (y3 < 0)) false) == true) = true then Go.Bx.basculeref_Order.run x0.2.2.2.1 [1, 0, 0, 0] else some 0).bind fun y4 =>
        if (not (cond (cond (cond (cond (decide (y1 > 0)) ((band .u64 (List.getD x0.1 0 0) 3) == 3) false) (decide (y2 < 0)) false) (decide (y3 < 0)) false) (decide (y4 > 0)) false)) = true then
          Q .ret (St1 16)
        else
          (Go.Bx.basculeref_by.run 4 x0.1).bind fun y5 =>
          (Go.Bx.basculeref_power.run x0.2.1 [3, 0, 0, 0] x0.1).bind fun y6 =>
          (Go.Bx.basculeref_product.run y5 y6 x0.1).bind fun y7 =>
          (Go.Bx.basculeref_by.run 27 x0.1).bind fun y8 =>
          (Go.Bx.basculeref_power.run x0.2.2.1 [2, 0, 0, 0] x0.1).bind fun y9 =>
          (Go.Bx.basculeref_product.run y8 y9 x0.1).bind fun y10 =>
          (Go.Bx.basculeref_total.run y7 y10 x0.1).bind fun y11 =>
          (Go.Bx.basculeref_isZero.run y11).bind fun y12 =>
          (if ((cond y12 true x0.2.2.2.2.1.2.2.1) == false) = true then Go.Bx.basculeref_isOn.run x0 x0.2.2.2.2.1 else some false).bind fun y13 =>
          if (cond (cond y12 true x0.2.2.2.2.1.2.2.1) true (not y13)) = true then
            Q .ret (St1 16)
          else
            Q .ret (St1 0) := by
    intro D L; kernel_rfl
  refine (show (den C k) (cB Try.f33) Q (St0 x0) = denJ (den C k) (lp C k) Js C (cB Try.f33) Q (St0 x0) from (denJ_den _ _ _ _ _ _).symm).trans ((h (den C k) (lp C k)).trans ?_)
  first | rfl | kernel_rfl
def run (x0 : List Int × List Int × List Int × List Int × (List Int × List Int × Bool × Unit) × Unit) : Option (Int) := top (α := Int) (fun (x2 : Int) => some x2) x0
def F : Fn := ⟨(.pair (.pair (.arr 4 (.int .u64)) (.pair (.arr 4 (.int .u64)) (.pair (.arr 4 (.int .u64)) (.pair (.arr 4 (.int .u64)) (.pair (.pair (.arr 4 (.int .u64)) (.pair (.arr 4 (.int .u64)) (.pair .bool .unit))) .unit))))) .unit), (.int .i64), false, fun x => run x.1⟩
set_option maxRecDepth 100000 in
theorem con : Con Try.prog 33 F := by
  refine con_of_den (C := C) (ctx_ok (by kernel_rfl) (by kernel_rfl) (by kernel_rfl) (by kernel_rfl) ⟨.inl ⟨Go.Bx.basculeref_Order.con, Go.Bx.basculeref_Order.named⟩, ⟨.inl ⟨Go.Bx.basculeref_total.con, Go.Bx.basculeref_total.named⟩, ⟨.inl ⟨Go.Bx.basculeref_product.con, Go.Bx.basculeref_product.named⟩, ⟨.inl ⟨Go.Bx.basculeref_by.con, Go.Bx.basculeref_by.named⟩, ⟨.inl ⟨Go.Bx.basculeref_power.con, Go.Bx.basculeref_power.named⟩, ⟨.inl ⟨Go.Bx.basculeref_isZero.con, Go.Bx.basculeref_isZero.named⟩, ⟨.inl ⟨Go.Bx.basculeref_isOn.con, Go.Bx.basculeref_isOn.named⟩, trivial⟩⟩⟩⟩⟩⟩⟩) (by kernel_rfl) Try.func33 (c := cB Try.f33) (by kernel_rfl) (by kernel_rfl) F fuel (fun x => by simp [F, spread, Try.ntmps33]) ?_
  intro x r h
  rw [← h]
  have h1 : start F Try.f33.ntmps x = (St0 x.1) := by kernel_rfl
  rw [h1]
  refine (top_eq fuel (fin C Try.f33.results.toList F.rs F.multi) x.1).trans ?_
  kernel_rfl
theorem named : Named Try.prog 33 := named_of Try.func33 (by kernel_rfl) (by kernel_rfl)
end Go.Bx.basculeref_CurveFault
namespace Go.Bx.field_Pow
open Go Go.Proofs Go.Bx
set_option maxRecDepth 100000
set_option linter.unusedVariables false
def Js : List Nat := []
def C : Ctx := ⟨[(31, (.int .i64)), (45, (.arr 4 (.int .u64))), (198, (.sl (.arr 4 (.int .u64))))], [], [], fnL [(47, Go.Bx.wide_DivMod.F), (131, Go.Bx.field_fault.F)], shL [(132, [.one Go.Bx.field_bits_s1.Sp])], [(29, 32)], invL [], [(2, [6, 7])], [], [], 0, 0⟩
def St0 (x0 : List Int) (x1 : List Int) (x2 : List Int) : St := stL 31 [(0, .data (.arr 4 (.int .u64)) x0), (1, .data (.arr 4 (.int .u64)) x1), (2, .data (.arr 4 (.int .u64)) x2)] []
def St1 (x7 : Int) (c6 : List Int) : St := stL 31 [(6, .ref 6 0 []), (7, .data (.int .i64) x7)] [(6, .cell (.arr 4 (.int .u64)) (.data (.arr 4 (.int .u64)) c6) false)]
def top {α : Type} (Rt : Int → (List Int) → Option α) (x0 : List Int) (x1 : List Int) (x2 : List Int) : Option α :=
  (Go.Bx.field_fault.run x2 [x0]).bind fun y1 =>
  if (y1 != 0) = true then
    Rt y1 [0, 0, 0, 0]
  else
    (Go.Bx.wide_DivMod.run [1, 0, 0, 0] x2).bind fun y2 =>
    (Go.Bx.field_bits_s1.run x1 y2.2.1 x2 x0).bind fun y3 =>
    Rt 0 y3.1
theorem top_eq {α : Type} (k : Nat) (Q : Ex → St → Option α) (x0 : List Int) (x1 : List Int) (x2 : List Int) :
    (den C k) (cB Try.f56) Q (St0 x0 x1 x2) = top (fun (x7 : Int) (c6 : List Int) => Q .ret (St1 x7 c6)) x0 x1 x2 := by
  have h : ∀ (D L : DT α), denJ D L Js C (cB Try.f56) Q (St0 x0 x1 x2) =
        (Go.Bx.field_fault.run x2 [x0]).bind fun y1 =>
        if (y1 != 0) = true then
          Q .ret (St1 y1 [0, 0, 0, 0])
        else
          (Go.Bx.wide_DivMod.run [1, 0, 0, 0] x2).bind fun y2 =>
          (Go.Bx.field_bits_s1.run x1 y2.2.1 x2 x0).bind fun y3 =>
          Q .ret (St1 0 y3.1) := by
    intro D L; kernel_rfl
  refine (show (den C k) (cB Try.f56) Q (St0 x0 x1 x2) = denJ (den C k) (lp C k) Js C (cB Try.f56) Q (St0 x0 x1 x2) from (denJ_den _ _ _ _ _ _).symm).trans ((h (den C k) (lp C k)).trans ?_)
  first | rfl | kernel_rfl
def run (x0 : List Int) (x1 : List Int) (x2 : List Int) : Option (List Int × Int × Unit) := top (α := List Int × Int × Unit) (fun (x7 : Int) (c6 : List Int) => some (c6, x7, ())) x0 x1 x2
def F : Fn := ⟨(.pair (.arr 4 (.int .u64)) (.pair (.arr 4 (.int .u64)) (.pair (.arr 4 (.int .u64)) .unit))), (.pair (.arr 4 (.int .u64)) (.pair (.int .i64) .unit)), true, fun x => run x.1 x.2.1 x.2.2.1⟩
set_option maxRecDepth 100000 in
theorem con : Con Try.prog 56 F := by
  refine con_of_den (C := C) (ctx_ok_sh (by kernel_rfl) (by kernel_rfl) (by kernel_rfl) (by kernel_rfl) ⟨.inl ⟨Go.Bx.wide_DivMod.con, Go.Bx.wide_DivMod.named⟩, ⟨.inl ⟨Go.Bx.field_fault.con, Go.Bx.field_fault.named⟩, trivial⟩⟩ ⟨⟨⟨Go.Bx.field_bits_s1.sok, trivial⟩, Go.Bx.field_bits_s1.named⟩, trivial⟩) (by kernel_rfl) Try.func56 (c := cB Try.f56) (by kernel_rfl) (by kernel_rfl) F fuel (fun x => by simp [F, spread, Try.ntmps56]) ?_
  intro x r h
  rw [← h]
  have h1 : start F Try.f56.ntmps x = (St0 x.1 x.2.1 x.2.2.1) := by kernel_rfl
  rw [h1]
  refine (top_eq fuel (fin C Try.f56.results.toList F.rs F.multi) x.1 x.2.1 x.2.2.1).trans ?_
  kernel_rfl
theorem named : Named Try.prog 56 := named_of Try.func56 (by kernel_rfl) (by kernel_rfl)
end Go.Bx.field_Pow
namespace Go.Bx.curve_Lift
open Go Go.Proofs Go.Bx
set_option maxRecDepth 100000
set_option linter.unusedVariables false
def Js : List Nat := [14]
def C : Ctx := ⟨[(4, .bool), (24, (.int .u64)), (31, (.int .i64)), (45, (.arr 4 (.int .u64))), (59, (.pair (.arr 4 (.int .u64)) (.pair (.arr 4 (.int .u64)) (.pair .bool .unit)))), (61, (.pair (.arr 4 (.int .u64)) (.pair (.arr 4 (.int .u64)) (.pair (.arr 4 (.int .u64)) (.pair (.arr 4 (.int .u64)) (.pair (.pair (.arr 4 (.int .u64)) (.pair (.arr 4 (.int .u64)) (.pair .bool .unit))) .unit)))))), (119, (.pair (.arr 4 (.int .u64)) (.pair .opq .unit)))], [], [], fnL [(31, Go.Bx.curve_Check.F), (41, Go.Bx.wide_Add.F), (42, Go.Bx.wide_Sub.F), (47, Go.Bx.wide_DivMod.F), (56, Go.Bx.field_Pow.F), (88, Go.Bx.wide_Cmp.F), (93, Go.Bx.curve_on.F)], shL [(89, [.one Go.Bx.curve_ringOf_s0.Sp]), (104, [.one Go.Bx.curve_ring__take_s1.Sp]), (105, [.one Go.Bx.curve_side_s0.Sp])], [(28, 89), (47, 91), (54, 92)], invL [], [(2, [6, 7]), (39, [2, 3, 4, 6, 13])], [], [], 0, 0⟩
def St0 (x0 : List Int × List Int × List Int × List Int × (List Int × List Int × Bool × Unit) × Unit) (x1 : List Int) (x2 : Bool) : St := stL 88 [(0, .data (.pair (.arr 4 (.int .u64)) (.pair (.arr 4 (.int .u64)) (.pair (.arr 4 (.int .u64)) (.pair (.arr 4 (.int .u64)) (.pair (.pair (.arr 4 (.int .u64)) (.pair (.arr 4 (.int .u64)) (.pair .bool .unit))) .unit))))) x0), (1, .data (.arr 4 (.int .u64)) x1), (2, .data .bool x2)] []
def St1 (x7 : Int) (c6 : List Int × List Int × Bool × Unit) : St := stL 88 [(6, .ref 6 0 []), (7, .data (.int .i64) x7)] [(6, .cell (.pair (.arr 4 (.int .u64)) (.pair (.arr 4 (.int .u64)) (.pair .bool .unit))) (.data (.pair (.arr 4 (.int .u64)) (.pair (.arr 4 (.int .u64)) (.pair .bool .unit))) c6) false)]
def St2 (x2 : Bool) (c3 : List Int × List Int × List Int × List Int × (List Int × List Int × Bool × Unit) × Unit) (c4 : List Int) (c6 : List Int × List Int × Bool × Unit) (c13 : List Int) : St := stL 88 [(2, .data .bool x2), (3, .ref 3 0 []), (4, .ref 4 0 []), (6, .ref 6 0 []), (13, .ref 13 0 [])] [(3, .cell (.pair (.arr 4 (.int .u64)) (.pair (.arr 4 (.int .u64)) (.pair (.arr 4 (.int .u64)) (.pair (.arr 4 (.int .u64)) (.pair (.pair (.arr 4 (.int .u64)) (.pair (.arr 4 (.int .u64)) (.pair .bool .unit))) .unit))))) (.data (.pair (.arr 4 (.int .u64)) (.pair (.arr 4 (.int .u64)) (.pair (.arr 4 (.int .u64)) (.pair (.arr 4 (.int .u64)) (.pair (.pair (.arr 4 (.int .u64)) (.pair (.arr 4 (.int .u64)) (.pair .bool .unit))) .unit))))) c3) false), (4, .cell (.arr 4 (.int .u64)) (.data (.arr 4 (.int .u64)) c4) false), (6, .cell (.pair (.arr 4 (.int .u64)) (.pair (.arr 4 (.int .u64)) (.pair .bool .unit))) (.data (.pair (.arr 4 (.int .u64)) (.pair (.arr 4 (.int .u64)) (.pair .bool .unit))) c6) false), (13, .cell (.arr 4 (.int .u64)) (.data (.arr 4 (.int .u64)) c13) false)]
noncomputable def cd0 : Code := cR (cR (cR (cR (cR (cR (cR (cR (cB Try.f39))))))))
def j0 {α : Type} (Rt : Int → (List Int × List Int × Bool × Unit) → Option α) (x2 : Bool) (c3 : List Int × List Int × List Int × List Int × (List Int × List Int × Bool × Unit) × Unit) (c4 : List Int) (c6 : List Int × List Int × Bool × Unit) (c13 : List Int) : Option α :=
  (if ((not (beqD .bool ((Int.tmod (List.getD c13 0 0) 2) == 1) x2)) == false) = true then Go.Bx.curve_on.run c3 (c4, c13, false, ()) else some false).bind fun y10 =>
  if (cond (not (beqD .bool ((Int.tmod (List.getD c13 0 0) 2) == 1) x2)) true (not y10)) = true then
    Rt 16 ([0, 0, 0, 0], [0, 0, 0, 0], false, ())
  else
    Rt 0 (c4, c13, false, ())
theorem j0_eq {α : Type} (k : Nat) (Q : Ex → St → Option α) (x2 : Bool) (c3 : List Int × List Int × List Int × List Int × (List Int × List Int × Bool × Unit) × Unit) (c4 : List Int) (c6 : List Int × List Int × Bool × Unit) (c13 : List Int) :
    (den C k) cd0 Q (St2 x2 c3 c4 c6 c13) = j0 (fun (x7 : Int) (c6 : List Int × List Int × Bool × Unit) => Q .ret (St1 x7 c6)) x2 c3 c4 c6 c13 := by
  have h : ∀ (D L : DT α), denJ D L Js C cd0 Q (St2 x2 c3 c4 c6 c13) =
        (if ((not (beqD .bool ((Int.tmod (List.getD c13 0 0) 2) == 1) x2)) == false) = true then Go.Bx.curve_on.run c3 (c4, c13, false, ()) else some false).bind fun y10 =>
        if (cond (not (beqD .bool ((Int.tmod (List.getD c13 0 0) 2) == 1) x2)) true (not y10)) = true then
          Q .ret (St1 16 ([0, 0, 0, 0], [0, 0, 0, 0], false, ()))
        else
          Q .ret (St1 0 (c4, c13, false, ())) := by
    intro D L; kernel_rfl
  refine (show (den C k) cd0 Q (St2 x2 c3 c4 c6 c13) = denJ (den C k) (lp C k) Js C cd0 Q (St2 x2 c3 c4 c6 c13) from (denJ_den _ _ _ _ _ _).symm).trans ((h (den C k) (lp C k)).trans ?_)
  first | rfl | kernel_rfl
def top {α : Type} (Rt : Int → (List Int × List Int × Bool × Unit) → Option α) (x0 : List Int × List Int × List Int × List Int × (List Int × List Int × Bool × Unit) × Unit) (x1 : List Int) (x2 : Bool) : Option α :=
  (Go.Bx.curve_Check.run x0).bind fun y1 =>
  if (y1 != 0) = true then
    Rt y1 ([0, 0, 0, 0], [0, 0, 0, 0], false, ())
  else
    (Go.Bx.wide_Cmp.run x1 x0.1).bind fun y2 =>
    if (decide (y2 ≥ 0)) = true then
      Rt 6 ([0, 0, 0, 0], [0, 0, 0, 0], false, ())
    else
      (Go.Bx.curve_ringOf_s0.run x0).bind fun y3 =>
      (Go.Bx.wide_DivMod.run x0.1 [4, 0, 0, 0]).bind fun y4 =>
      (Go.Bx.wide_Add.run y4.1 [1, 0, 0, 0]).bind fun y5 =>
      (Go.Bx.curve_side_s0.run x0 y3.1 x1 y3.2.2.1).bind fun y6 =>
      (Go.Bx.field_Pow.run y6.1 y5.1 x0.1).bind fun y7 =>
      (Go.Bx.curve_ring__take_s1.run y3.1 y7.1 y7.2.1 y6.2.1).bind fun y8 =>
      if (not (beqD .bool ((Int.tmod (List.getD y8.1 0 0) 2) == 1) x2)) = true then
        if (not (beqD (.arr 4 (.int .u64)) y8.1 [0, 0, 0, 0])) = true then
          (Go.Bx.wide_Sub.run x0.1 y8.1).bind fun y9 =>
          j0 Rt x2 x0 x1 ([0, 0, 0, 0], [0, 0, 0, 0], false, ()) y9.1
        else
          j0 Rt x2 x0 x1 ([0, 0, 0, 0], [0, 0, 0, 0], false, ()) y8.1
      else
        j0 Rt x2 x0 x1 ([0, 0, 0, 0], [0, 0, 0, 0], false, ()) y8.1
theorem top_eq {α : Type} (k : Nat) (Q : Ex → St → Option α) (x0 : List Int × List Int × List Int × List Int × (List Int × List Int × Bool × Unit) × Unit) (x1 : List Int) (x2 : Bool) :
    (den C k) (cB Try.f39) Q (St0 x0 x1 x2) = top (fun (x7 : Int) (c6 : List Int × List Int × Bool × Unit) => Q .ret (St1 x7 c6)) x0 x1 x2 := by
  have h : ∀ (D L : DT α), denJ D L Js C (cB Try.f39) Q (St0 x0 x1 x2) =
        (Go.Bx.curve_Check.run x0).bind fun y1 =>
        if (y1 != 0) = true then
          Q .ret (St1 y1 ([0, 0, 0, 0], [0, 0, 0, 0], false, ()))
        else
          (Go.Bx.wide_Cmp.run x1 x0.1).bind fun y2 =>
          if (decide (y2 ≥ 0)) = true then
            Q .ret (St1 6 ([0, 0, 0, 0], [0, 0, 0, 0], false, ()))
          else
            (Go.Bx.curve_ringOf_s0.run x0).bind fun y3 =>
            (Go.Bx.wide_DivMod.run x0.1 [4, 0, 0, 0]).bind fun y4 =>
            (Go.Bx.wide_Add.run y4.1 [1, 0, 0, 0]).bind fun y5 =>
            (Go.Bx.curve_side_s0.run x0 y3.1 x1 y3.2.2.1).bind fun y6 =>
            (Go.Bx.field_Pow.run y6.1 y5.1 x0.1).bind fun y7 =>
            (Go.Bx.curve_ring__take_s1.run y3.1 y7.1 y7.2.1 y6.2.1).bind fun y8 =>
            if (not (beqD .bool ((Int.tmod (List.getD y8.1 0 0) 2) == 1) x2)) = true then
              if (not (beqD (.arr 4 (.int .u64)) y8.1 [0, 0, 0, 0])) = true then
                (Go.Bx.wide_Sub.run x0.1 y8.1).bind fun y9 =>
                D cd0 Q (St2 x2 x0 x1 ([0, 0, 0, 0], [0, 0, 0, 0], false, ()) y9.1)
              else
                D cd0 Q (St2 x2 x0 x1 ([0, 0, 0, 0], [0, 0, 0, 0], false, ()) y8.1)
            else
              D cd0 Q (St2 x2 x0 x1 ([0, 0, 0, 0], [0, 0, 0, 0], false, ()) y8.1) := by
    intro D L; kernel_rfl
  refine (show (den C k) (cB Try.f39) Q (St0 x0 x1 x2) = denJ (den C k) (lp C k) Js C (cB Try.f39) Q (St0 x0 x1 x2) from (denJ_den _ _ _ _ _ _).symm).trans ((h (den C k) (lp C k)).trans ?_)
  simp only [j0_eq]
  first | rfl | kernel_rfl
def run (x0 : List Int × List Int × List Int × List Int × (List Int × List Int × Bool × Unit) × Unit) (x1 : List Int) (x2 : Bool) : Option ((List Int × List Int × Bool × Unit) × Int × Unit) := top (α := (List Int × List Int × Bool × Unit) × Int × Unit) (fun (x7 : Int) (c6 : List Int × List Int × Bool × Unit) => some (c6, x7, ())) x0 x1 x2
def F : Fn := ⟨(.pair (.pair (.arr 4 (.int .u64)) (.pair (.arr 4 (.int .u64)) (.pair (.arr 4 (.int .u64)) (.pair (.arr 4 (.int .u64)) (.pair (.pair (.arr 4 (.int .u64)) (.pair (.arr 4 (.int .u64)) (.pair .bool .unit))) .unit))))) (.pair (.arr 4 (.int .u64)) (.pair .bool .unit))), (.pair (.pair (.arr 4 (.int .u64)) (.pair (.arr 4 (.int .u64)) (.pair .bool .unit))) (.pair (.int .i64) .unit)), true, fun x => run x.1 x.2.1 x.2.2.1⟩
set_option maxRecDepth 100000 in
theorem con : Con Try.prog 39 F := by
  refine con_of_den (C := C) (ctx_ok_sh (by kernel_rfl) (by kernel_rfl) (by kernel_rfl) (by kernel_rfl) ⟨.inl ⟨Go.Bx.curve_Check.con, Go.Bx.curve_Check.named⟩, ⟨.inl ⟨Go.Bx.wide_Add.con, Go.Bx.wide_Add.named⟩, ⟨.inl ⟨Go.Bx.wide_Sub.con, Go.Bx.wide_Sub.named⟩, ⟨.inl ⟨Go.Bx.wide_DivMod.con, Go.Bx.wide_DivMod.named⟩, ⟨.inl ⟨Go.Bx.field_Pow.con, Go.Bx.field_Pow.named⟩, ⟨.inl ⟨Go.Bx.wide_Cmp.con, Go.Bx.wide_Cmp.named⟩, ⟨.inl ⟨Go.Bx.curve_on.con, Go.Bx.curve_on.named⟩, trivial⟩⟩⟩⟩⟩⟩⟩ ⟨⟨⟨Go.Bx.curve_ringOf_s0.sok, trivial⟩, Go.Bx.curve_ringOf_s0.named⟩, ⟨⟨⟨Go.Bx.curve_ring__take_s1.sok, trivial⟩, Go.Bx.curve_ring__take_s1.named⟩, ⟨⟨⟨Go.Bx.curve_side_s0.sok, trivial⟩, Go.Bx.curve_side_s0.named⟩, trivial⟩⟩⟩) (by kernel_rfl) Try.func39 (c := cB Try.f39) (by kernel_rfl) (by kernel_rfl) F fuel (fun x => by simp [F, spread, Try.ntmps39]) ?_
  intro x r h
  rw [← h]
  have h1 : start F Try.f39.ntmps x = (St0 x.1 x.2.1 x.2.2.1) := by kernel_rfl
  rw [h1]
  refine (top_eq fuel (fin C Try.f39.results.toList F.rs F.multi) x.1 x.2.1 x.2.2.1).trans ?_
  kernel_rfl
theorem named : Named Try.prog 39 := named_of Try.func39 (by kernel_rfl) (by kernel_rfl)
end Go.Bx.curve_Lift
namespace Go.Bx.basculeref_Lifted
open Go Go.Proofs Go.Bx
set_option maxRecDepth 100000
set_option linter.unusedVariables false
def Js : List Nat := [12, 20]
def C : Ctx := ⟨[(4, .bool), (24, (.int .u64)), (31, (.int .i64)), (45, (.arr 4 (.int .u64))), (59, (.pair (.arr 4 (.int .u64)) (.pair (.arr 4 (.int .u64)) (.pair .bool .unit)))), (61, (.pair (.arr 4 (.int .u64)) (.pair (.arr 4 (.int .u64)) (.pair (.arr 4 (.int .u64)) (.pair (.arr 4 (.int .u64)) (.pair (.pair (.arr 4 (.int .u64)) (.pair (.arr 4 (.int .u64)) (.pair .bool .unit))) .unit)))))), (134, (.sl (.int .u64)))], [], [], fnL [(33, Go.Bx.basculeref_CurveFault.F), (48, Go.Bx.basculeref_Quotient.F), (78, Go.Bx.basculeref_Order.F), (97, Go.Bx.basculeref_power.F), (99, Go.Bx.basculeref_isOn.F), (106, Go.Bx.basculeref_wide.F), (107, Go.Bx.basculeref_plus.F), (108, Go.Bx.basculeref_of.F), (109, Go.Bx.basculeref_right.F), (110, Go.Bx.basculeref_opposite.F)], noSh, [], invL [], [(2, [6, 7]), (1, [6]), (4, [2, 3, 4, 6, 15, 59]), (33, [2, 3, 4, 6, 12]), (39, [2, 3, 4, 6, 15, 59]), (57, [6])], [], [], 0, 0⟩
def St0 (x0 : List Int × List Int × List Int × List Int × (List Int × List Int × Bool × Unit) × Unit) (x1 : List Int) (x2 : Bool) : St := stL 82 [(0, .data (.pair (.arr 4 (.int .u64)) (.pair (.arr 4 (.int .u64)) (.pair (.arr 4 (.int .u64)) (.pair (.arr 4 (.int .u64)) (.pair (.pair (.arr 4 (.int .u64)) (.pair (.arr 4 (.int .u64)) (.pair .bool .unit))) .unit))))) x0), (1, .data (.arr 4 (.int .u64)) x1), (2, .data .bool x2)] []
def St1 (x7 : Int) (c6 : List Int × List Int × Bool × Unit) : St := stL 82 [(6, .ref 6 0 []), (7, .data (.int .i64) x7)] [(6, .cell (.pair (.arr 4 (.int .u64)) (.pair (.arr 4 (.int .u64)) (.pair .bool .unit))) (.data (.pair (.arr 4 (.int .u64)) (.pair (.arr 4 (.int .u64)) (.pair .bool .unit))) c6) false)]
def St2 (x2 : Bool) (c3 : List Int × List Int × List Int × List Int × (List Int × List Int × Bool × Unit) × Unit) (c4 : List Int) (c6 : List Int × List Int × Bool × Unit) (c12 : List Int) : St := stL 82 [(2, .data .bool x2), (3, .ref 3 0 []), (4, .ref 4 0 []), (6, .ref 6 0 []), (12, .ref 12 0 [])] [(3, .cell (.pair (.arr 4 (.int .u64)) (.pair (.arr 4 (.int .u64)) (.pair (.arr 4 (.int .u64)) (.pair (.arr 4 (.int .u64)) (.pair (.pair (.arr 4 (.int .u64)) (.pair (.arr 4 (.int .u64)) (.pair .bool .unit))) .unit))))) (.data (.pair (.arr 4 (.int .u64)) (.pair (.arr 4 (.int .u64)) (.pair (.arr 4 (.int .u64)) (.pair (.arr 4 (.int .u64)) (.pair (.pair (.arr 4 (.int .u64)) (.pair (.arr 4 (.int .u64)) (.pair .bool .unit))) .unit))))) c3) false), (4, .cell (.arr 4 (.int .u64)) (.data (.arr 4 (.int .u64)) c4) false), (6, .cell (.pair (.arr 4 (.int .u64)) (.pair (.arr 4 (.int .u64)) (.pair .bool .unit))) (.data (.pair (.arr 4 (.int .u64)) (.pair (.arr 4 (.int .u64)) (.pair .bool .unit))) c6) false), (12, .cell (.arr 4 (.int .u64)) (.data (.arr 4 (.int .u64)) c12) false)]
noncomputable def cd0 : Code := cR (cR (cR (cR (cR (cR (cR (cB Try.f40)))))))
def St3 (x2 : Bool) (x59 : Int) (c3 : List Int × List Int × List Int × List Int × (List Int × List Int × Bool × Unit) × Unit) (c4 : List Int) (c6 : List Int × List Int × Bool × Unit) (c15 : List Int) : St := stL 82 [(2, .data .bool x2), (3, .ref 3 0 []), (4, .ref 4 0 []), (6, .ref 6 0 []), (15, .ref 15 0 []), (59, .data (.int .i64) x59)] [(3, .cell (.pair (.arr 4 (.int .u64)) (.pair (.arr 4 (.int .u64)) (.pair (.arr 4 (.int .u64)) (.pair (.arr 4 (.int .u64)) (.pair (.pair (.arr 4 (.int .u64)) (.pair (.arr 4 (.int .u64)) (.pair .bool .unit))) .unit))))) (.data (.pair (.arr 4 (.int .u64)) (.pair (.arr 4 (.int .u64)) (.pair (.arr 4 (.int .u64)) (.pair (.arr 4 (.int .u64)) (.pair (.pair (.arr 4 (.int .u64)) (.pair (.arr 4 (.int .u64)) (.pair .bool .unit))) .unit))))) c3) false), (4, .cell (.arr 4 (.int .u64)) (.data (.arr 4 (.int .u64)) c4) false), (6, .cell (.pair (.arr 4 (.int .u64)) (.pair (.arr 4 (.int .u64)) (.pair .bool .unit))) (.data (.pair (.arr 4 (.int .u64)) (.pair (.arr 4 (.int .u64)) (.pair .bool .unit))) c6) false), (15, .cell (.arr 4 (.int .u64)) (.data (.arr 4 (.int .u64)) c15) false)]
noncomputable def cd1 : Code := cL (cL (cR (cL (cR (cR (cR (cR (cR (cR (cR (cR (cB Try.f40))))))))))))
def St4 (c6 : List Int × List Int × Bool × Unit) : St := stL 82 [(6, .ref 6 0 [])] [(6, .cell (.pair (.arr 4 (.int .u64)) (.pair (.arr 4 (.int .u64)) (.pair .bool .unit))) (.data (.pair (.arr 4 (.int .u64)) (.pair (.arr 4 (.int .u64)) (.pair .bool .unit))) c6) false)]
def l0s {α : Type} (Nx : Bool → Int → (List Int × List Int × List Int × List Int × (List Int × List Int × Bool × Unit) × Unit) → (List Int) → (List Int × List Int × Bool × Unit) → (List Int) → Option α) (Rt : Int → (List Int × List Int × Bool × Unit) → Option α) (Xt0 : (List Int × List Int × Bool × Unit) → Option α) (x2 : Bool) (x59 : Int) (c3 : List Int × List Int × List Int × List Int × (List Int × List Int × Bool × Unit) × Unit) (c4 : List Int) (c6 : List Int × List Int × Bool × Unit) (c15 : List Int) : Option α :=
  if (decide (x59 < 2)) = true then
    (if ((beqD .bool ((band .u64 (List.getD c15 0 0) 1) == 1) x2) == true) = true then Go.Bx.basculeref_isOn.run c3 (c4, c15, false, ()) else some false).bind fun y10 =>
    if (cond (beqD .bool ((band .u64 (List.getD c15 0 0) 1) == 1) x2) y10 false) = true then
      Rt 0 (c4, c15, false, ())
    else
      (Go.Bx.basculeref_opposite.run c15 c3.1).bind fun y11 =>
      Nx x2 (IntKind.i64.wrap (x59 + 1)) c3 c4 c6 y11
  else
    Xt0 c6
theorem l0s_eq {α : Type} (k : Nat) (next : St → Option α) (Q : Ex → St → Option α) (x2 : Bool) (x59 : Int) (c3 : List Int × List Int × List Int × List Int × (List Int × List Int × Bool × Unit) × Unit) (c4 : List Int) (c6 : List Int × List Int × Bool × Unit) (c15 : List Int) :
    rnd C k cd1 39 Q next (St3 x2 x59 c3 c4 c6 c15) = l0s (fun (x2 : Bool) (x59 : Int) (c3 : List Int × List Int × List Int × List Int × (List Int × List Int × Bool × Unit) × Unit) (c4 : List Int) (c6 : List Int × List Int × Bool × Unit) (c15 : List Int) => next (St3 x2 x59 c3 c4 c6 c15)) (fun (x7 : Int) (c6 : List Int × List Int × Bool × Unit) => Q .ret (St1 x7 c6)) (fun (c6 : List Int × List Int × Bool × Unit) => Q (.exit 0) (St4 c6)) x2 x59 c3 c4 c6 c15 := by
  have h : ∀ (D L : DT α), denJ D L Js C cd1 (lq C 39 next Q) (St3 x2 x59 c3 c4 c6 c15) =
        if (decide (x59 < 2)) = true then
          (if ((beqD .bool ((band .u64 (List.getD c15 0 0) 1) == 1) x2) == true) = true then Go.Bx.basculeref_isOn.run c3 (c4, c15, false, ()) else some false).bind fun y10 =>
          if (cond (beqD .bool ((band .u64 (List.getD c15 0 0) 1) == 1) x2) y10 false) = true then
            Q .ret (St1 0 (c4, c15, false, ()))
          else
            (Go.Bx.basculeref_opposite.run c15 c3.1).bind fun y11 =>
            next (St3 x2 (IntKind.i64.wrap (x59 + 1)) c3 c4 c6 y11)
        else
          Q (.exit 0) (St4 c6) := by
    intro D L; kernel_rfl
  refine (show rnd C k cd1 39 Q next (St3 x2 x59 c3 c4 c6 c15) = denJ (den C k) (lp C k) Js C cd1 (lq C 39 next Q) (St3 x2 x59 c3 c4 c6 c15) from (denJ_den _ _ _ _ _ _).symm).trans ((h (den C k) (lp C k)).trans ?_)
  first | rfl | kernel_rfl
def l0 {α : Type} (k : Nat) (Rt : Int → (List Int × List Int × Bool × Unit) → Option α) (Xt0 : (List Int × List Int × Bool × Unit) → Option α) : Nat → Bool → Int → (List Int × List Int × List Int × List Int × (List Int × List Int × Bool × Unit) × Unit) → (List Int) → (List Int × List Int × Bool × Unit) → (List Int) → Option α
  | 0, _, _, _, _, _, _ => none
  | n + 1, x2, x59, c3, c4, c6, c15 => l0s (l0 k Rt Xt0 n) Rt Xt0 x2 x59 c3 c4 c6 c15
theorem l0_eq {α : Type} (k : Nat) (Q : Ex → St → Option α) : ∀ (n : Nat) (x2 : Bool) (x59 : Int) (c3 : List Int × List Int × List Int × List Int × (List Int × List Int × Bool × Unit) × Unit) (c4 : List Int) (c6 : List Int × List Int × Bool × Unit) (c15 : List Int), iter (rnd C k cd1 39 Q) n (St3 x2 x59 c3 c4 c6 c15) = l0 k (fun (x7 : Int) (c6 : List Int × List Int × Bool × Unit) => Q .ret (St1 x7 c6)) (fun (c6 : List Int × List Int × Bool × Unit) => Q (.exit 0) (St4 c6)) n x2 x59 c3 c4 c6 c15
  | 0, _, _, _, _, _, _ => rfl
  | n + 1, x2, x59, c3, c4, c6, c15 => (iter_succ _ _ _).trans ((l0s_eq k (iter (rnd C k cd1 39 Q) n) Q x2 x59 c3 c4 c6 c15).trans (congrArg (fun N => l0s N (fun (x7 : Int) (c6 : List Int × List Int × Bool × Unit) => Q .ret (St1 x7 c6)) (fun (c6 : List Int × List Int × Bool × Unit) => Q (.exit 0) (St4 c6)) x2 x59 c3 c4 c6 c15) (funext fun x2 => funext fun x59 => funext fun c3 => funext fun c4 => funext fun c6 => funext fun c15 => l0_eq k Q n x2 x59 c3 c4 c6 c15)))
theorem l0_congr {α : Type} (k : Nat) (Rt : Int → (List Int × List Int × Bool × Unit) → Option α) (Xt0 : (List Int × List Int × Bool × Unit) → Option α) (Rtq : Int → (List Int × List Int × Bool × Unit) → Option α) (Xt0q : (List Int × List Int × Bool × Unit) → Option α) (hRt : ∀ (x7 : Int) (c6 : List Int × List Int × Bool × Unit), Rt x7 c6 = Rtq x7 c6) (hXt0 : ∀ (c6 : List Int × List Int × Bool × Unit), Xt0 c6 = Xt0q c6) (n : Nat) (x2 : Bool) (x59 : Int) (c3 : List Int × List Int × List Int × List Int × (List Int × List Int × Bool × Unit) × Unit) (c4 : List Int) (c6 : List Int × List Int × Bool × Unit) (c15 : List Int) : l0 k Rt Xt0 n x2 x59 c3 c4 c6 c15 = l0 k Rtq Xt0q n x2 x59 c3 c4 c6 c15 := by
  obtain rfl : Rt = Rtq := by funext x7; funext c6; exact hRt x7 c6
  obtain rfl : Xt0 = Xt0q := by funext c6; exact hXt0 c6
  rfl
noncomputable def cd2 : Code := cR (cR (cR (cR (cR (cR (cR (cR (cR (cB Try.f40)))))))))
def St5 (c6 : List Int × List Int × Bool × Unit) : St := stL 82 [(6, .ref 6 0 [])] [(6, .cell (.pair (.arr 4 (.int .u64)) (.pair (.arr 4 (.int .u64)) (.pair .bool .unit))) (.data (.pair (.arr 4 (.int .u64)) (.pair (.arr 4 (.int .u64)) (.pair .bool .unit))) c6) false)]
def j1 {α : Type} (Rt : Int → (List Int × List Int × Bool × Unit) → Option α) (c6 : List Int × List Int × Bool × Unit) : Option α :=
  Rt 16 ([0, 0, 0, 0], [0, 0, 0, 0], false, ())
theorem j1_eq {α : Type} (k : Nat) (Q : Ex → St → Option α) (c6 : List Int × List Int × Bool × Unit) :
    (den C k) cd2 Q (St5 c6) = j1 (fun (x7 : Int) (c6 : List Int × List Int × Bool × Unit) => Q .ret (St1 x7 c6)) c6 := by
  have h : ∀ (D L : DT α), denJ D L Js C cd2 Q (St5 c6) =
        Q .ret (St1 16 ([0, 0, 0, 0], [0, 0, 0, 0], false, ())) := by
    intro D L; kernel_rfl
  refine (show (den C k) cd2 Q (St5 c6) = denJ (den C k) (lp C k) Js C cd2 Q (St5 c6) from (denJ_den _ _ _ _ _ _).symm).trans ((h (den C k) (lp C k)).trans ?_)
  first | rfl | kernel_rfl
theorem a0 {α : Type} (k : Nat) (Q : Ex → St → Option α) (x2 : Bool) (x59 : Int) (c3 : List Int × List Int × List Int × List Int × (List Int × List Int × Bool × Unit) × Unit) (c4 : List Int) (c6 : List Int × List Int × Bool × Unit) (c15 : List Int) :
    (lp C k) cd1 (blkQ C 0 (sq (den C k) (lp C k) Js C cd2 Q)) (St3 x2 x59 c3 c4 c6 c15) = l0 k (fun (x7 : Int) (c6 : List Int × List Int × Bool × Unit) => (fun (x7 : Int) (c6 : List Int × List Int × Bool × Unit) => Q .ret (St1 x7 c6)) x7 c6) (fun (c6 : List Int × List Int × Bool × Unit) => j1 (fun (x7 : Int) (c6 : List Int × List Int × Bool × Unit) => Q .ret (St1 x7 c6)) c6) k x2 x59 c3 c4 c6 c15 :=
  (show (lp C k) cd1 (blkQ C 0 (sq (den C k) (lp C k) Js C cd2 Q)) (St3 x2 x59 c3 c4 c6 c15) = iter (rnd C k cd1 39 (blkQ C 0 (sq (den C k) (lp C k) Js C cd2 Q))) k (St3 x2 x59 c3 c4 c6 c15) by kernel_rfl).trans ((l0_eq k (blkQ C 0 (sq (den C k) (lp C k) Js C cd2 Q)) k x2 x59 c3 c4 c6 c15).trans (l0_congr k _ _ _ _ (fun x7 c6 => (show (blkQ C 0 (sq (den C k) (lp C k) Js C cd2 Q)) .ret (St1 x7 c6) = Q .ret (St1 x7 c6) by kernel_rfl)) (fun c6 => ((show (blkQ C 0 (sq (den C k) (lp C k) Js C cd2 Q)) (.exit 0) (St4 c6) = (den C k) cd2 Q (St5 c6) by kernel_rfl).trans (by simp only [j1_eq]))) k x2 x59 c3 c4 c6 c15))
def j0 {α : Type} (k : Nat) (Rt : Int → (List Int × List Int × Bool × Unit) → Option α) (x2 : Bool) (c3 : List Int × List Int × List Int × List Int × (List Int × List Int × Bool × Unit) × Unit) (c4 : List Int) (c6 : List Int × List Int × Bool × Unit) (c12 : List Int) : Option α :=
  (Go.Bx.basculeref_right.run c3 c4).bind fun y8 =>
  (Go.Bx.basculeref_power.run y8 c12 c3.1).bind fun y9 =>
  l0 k (fun (x7 : Int) (c6 : List Int × List Int × Bool × Unit) => Rt x7 c6) (fun (c6 : List Int × List Int × Bool × Unit) => j1 Rt c6) k x2 0 c3 c4 c6 y9
theorem j0_eq {α : Type} (k : Nat) (Q : Ex → St → Option α) (x2 : Bool) (c3 : List Int × List Int × List Int × List Int × (List Int × List Int × Bool × Unit) × Unit) (c4 : List Int) (c6 : List Int × List Int × Bool × Unit) (c12 : List Int) :
    (den C k) cd0 Q (St2 x2 c3 c4 c6 c12) = j0 k (fun (x7 : Int) (c6 : List Int × List Int × Bool × Unit) => Q .ret (St1 x7 c6)) x2 c3 c4 c6 c12 := by
  have h : ∀ (D L : DT α), denJ D L Js C cd0 Q (St2 x2 c3 c4 c6 c12) =
        (Go.Bx.basculeref_right.run c3 c4).bind fun y8 =>
        (Go.Bx.basculeref_power.run y8 c12 c3.1).bind fun y9 =>
        L cd1 (blkQ C 0 (sq D L Js C cd2 Q)) (St3 x2 0 c3 c4 c6 y9) := by
    intro D L; kernel_rfl
  refine (show (den C k) cd0 Q (St2 x2 c3 c4 c6 c12) = denJ (den C k) (lp C k) Js C cd0 Q (St2 x2 c3 c4 c6 c12) from (denJ_den _ _ _ _ _ _).symm).trans ((h (den C k) (lp C k)).trans ?_)
  simp only [a0]
  first | rfl | kernel_rfl
def top {α : Type} (k : Nat) (Rt : Int → (List Int × List Int × Bool × Unit) → Option α) (x0 : List Int × List Int × List Int × List Int × (List Int × List Int × Bool × Unit) × Unit) (x1 : List Int) (x2 : Bool) : Option α :=
  (Go.Bx.basculeref_CurveFault.run x0).bind fun y1 =>
  if (y1 != 0) = true then
    Rt y1 ([0, 0, 0, 0], [0, 0, 0, 0], false, ())
  else
    (Go.Bx.basculeref_Order.run x1 x0.1).bind fun y2 =>
    if (decide (y2 ≥ 0)) = true then
      Rt 6 ([0, 0, 0, 0], [0, 0, 0, 0], false, ())
    else
      (Go.Bx.basculeref_of.run x0.1).bind fun y3 =>
      (Go.Bx.basculeref_plus.run y3 [1]).bind fun y4 =>
      (Go.Bx.basculeref_wide.run y4).bind fun y5 =>
      (Go.Bx.basculeref_Order.run y5.1 x0.1).bind fun y6 =>
      (Go.Bx.basculeref_Quotient.run y5.1 [4, 0, 0, 0]).bind fun y7 =>
      if (decide (y6 < 0)) = true then
        j0 k Rt x2 x0 x1 ([0, 0, 0, 0], [0, 0, 0, 0], false, ()) [0, 0, 0, 4611686018427387904]
      else
        j0 k Rt x2 x0 x1 ([0, 0, 0, 0], [0, 0, 0, 0], false, ()) y7.1
theorem top_eq {α : Type} (k : Nat) (Q : Ex → St → Option α) (x0 : List Int × List Int × List Int × List Int × (List Int × List Int × Bool × Unit) × Unit) (x1 : List Int) (x2 : Bool) :
    (den C k) (cB Try.f40) Q (St0 x0 x1 x2) = top k (fun (x7 : Int) (c6 : List Int × List Int × Bool × Unit) => Q .ret (St1 x7 c6)) x0 x1 x2 := by
  have h : ∀ (D L : DT α), denJ D L Js C (cB Try.f40) Q (St0 x0 x1 x2) =
        (Go.Bx.basculeref_CurveFault.run x0).bind fun y1 =>
        if (y1 != 0) = true then
          Q .ret (St1 y1 ([0, 0, 0, 0], [0, 0, 0, 0], false, ()))
        else
          (Go.Bx.basculeref_Order.run x1 x0.1).bind fun y2 =>
          if (decide (y2 ≥ 0)) = true then
            Q .ret (St1 6 ([0, 0, 0, 0], [0, 0, 0, 0], false, ()))
          else
            (Go.Bx.basculeref_of.run x0.1).bind fun y3 =>
            (Go.Bx.basculeref_plus.run y3 [1]).bind fun y4 =>
            (Go.Bx.basculeref_wide.run y4).bind fun y5 =>
            (Go.Bx.basculeref_Order.run y5.1 x0.1).bind fun y6 =>
            (Go.Bx.basculeref_Quotient.run y5.1 [4, 0, 0, 0]).bind fun y7 =>
            if (decide (y6 < 0)) = true then
              D cd0 Q (St2 x2 x0 x1 ([0, 0, 0, 0], [0, 0, 0, 0], false, ()) [0, 0, 0, 4611686018427387904])
            else
              D cd0 Q (St2 x2 x0 x1 ([0, 0, 0, 0], [0, 0, 0, 0], false, ()) y7.1) := by
    intro D L; kernel_rfl
  refine (show (den C k) (cB Try.f40) Q (St0 x0 x1 x2) = denJ (den C k) (lp C k) Js C (cB Try.f40) Q (St0 x0 x1 x2) from (denJ_den _ _ _ _ _ _).symm).trans ((h (den C k) (lp C k)).trans ?_)
  simp only [j0_eq]
  first | rfl | kernel_rfl
def run (x0 : List Int × List Int × List Int × List Int × (List Int × List Int × Bool × Unit) × Unit) (x1 : List Int) (x2 : Bool) : Option ((List Int × List Int × Bool × Unit) × Int × Unit) := top (α := (List Int × List Int × Bool × Unit) × Int × Unit) fuel (fun (x7 : Int) (c6 : List Int × List Int × Bool × Unit) => some (c6, x7, ())) x0 x1 x2
def F : Fn := ⟨(.pair (.pair (.arr 4 (.int .u64)) (.pair (.arr 4 (.int .u64)) (.pair (.arr 4 (.int .u64)) (.pair (.arr 4 (.int .u64)) (.pair (.pair (.arr 4 (.int .u64)) (.pair (.arr 4 (.int .u64)) (.pair .bool .unit))) .unit))))) (.pair (.arr 4 (.int .u64)) (.pair .bool .unit))), (.pair (.pair (.arr 4 (.int .u64)) (.pair (.arr 4 (.int .u64)) (.pair .bool .unit))) (.pair (.int .i64) .unit)), true, fun x => run x.1 x.2.1 x.2.2.1⟩
set_option maxRecDepth 100000 in
theorem con : Con Try.prog 40 F := by
  refine con_of_den (C := C) (ctx_ok (by kernel_rfl) (by kernel_rfl) (by kernel_rfl) (by kernel_rfl) ⟨.inl ⟨Go.Bx.basculeref_CurveFault.con, Go.Bx.basculeref_CurveFault.named⟩, ⟨.inl ⟨Go.Bx.basculeref_Quotient.con, Go.Bx.basculeref_Quotient.named⟩, ⟨.inl ⟨Go.Bx.basculeref_Order.con, Go.Bx.basculeref_Order.named⟩, ⟨.inl ⟨Go.Bx.basculeref_power.con, Go.Bx.basculeref_power.named⟩, ⟨.inl ⟨Go.Bx.basculeref_isOn.con, Go.Bx.basculeref_isOn.named⟩, ⟨.inl ⟨Go.Bx.basculeref_wide.con, Go.Bx.basculeref_wide.named⟩, ⟨.inl ⟨Go.Bx.basculeref_plus.con, Go.Bx.basculeref_plus.named⟩, ⟨.inl ⟨Go.Bx.basculeref_of.con, Go.Bx.basculeref_of.named⟩, ⟨.inl ⟨Go.Bx.basculeref_right.con, Go.Bx.basculeref_right.named⟩, ⟨.inl ⟨Go.Bx.basculeref_opposite.con, Go.Bx.basculeref_opposite.named⟩, trivial⟩⟩⟩⟩⟩⟩⟩⟩⟩⟩) (by kernel_rfl) Try.func40 (c := cB Try.f40) (by kernel_rfl) (by kernel_rfl) F fuel (fun x => by simp [F, spread, Try.ntmps40]) ?_
  intro x r h
  rw [← h]
  have h1 : start F Try.f40.ntmps x = (St0 x.1 x.2.1 x.2.2.1) := by kernel_rfl
  rw [h1]
  refine (top_eq fuel (fin C Try.f40.results.toList F.rs F.multi) x.1 x.2.1 x.2.2.1).trans ?_
  kernel_rfl
theorem named : Named Try.prog 40 := named_of Try.func40 (by kernel_rfl) (by kernel_rfl)
end Go.Bx.basculeref_Lifted
namespace Go.Bx.basculelaw_CurveLifts
open Go Go.Proofs Go.Bx
set_option maxRecDepth 100000
set_option linter.unusedVariables false
def Js : List Nat := []
def C : Ctx := ⟨[(4, .bool), (45, (.arr 4 (.int .u64))), (59, (.pair (.arr 4 (.int .u64)) (.pair (.arr 4 (.int .u64)) (.pair .bool .unit)))), (61, (.pair (.arr 4 (.int .u64)) (.pair (.arr 4 (.int .u64)) (.pair (.arr 4 (.int .u64)) (.pair (.arr 4 (.int .u64)) (.pair (.pair (.arr 4 (.int .u64)) (.pair (.arr 4 (.int .u64)) (.pair .bool .unit))) .unit))))))], [], [], fnL [(39, Go.Bx.curve_Lift.F), (40, Go.Bx.basculeref_Lifted.F)], noSh, [], invL [], [(2, [6])], [], [], 0, 0⟩
def St0 (x0 : List Int × List Int × List Int × List Int × (List Int × List Int × Bool × Unit) × Unit) (x1 : List Int) (x2 : Bool) : St := stL 33 [(0, .data (.pair (.arr 4 (.int .u64)) (.pair (.arr 4 (.int .u64)) (.pair (.arr 4 (.int .u64)) (.pair (.arr 4 (.int .u64)) (.pair (.pair (.arr 4 (.int .u64)) (.pair (.arr 4 (.int .u64)) (.pair .bool .unit))) .unit))))) x0), (1, .data (.arr 4 (.int .u64)) x1), (2, .data .bool x2)] []
def St1 (x6 : Bool) : St := stL 33 [(6, .data .bool x6)] []
def top {α : Type} (Rt : Bool → Option α) (x0 : List Int × List Int × List Int × List Int × (List Int × List Int × Bool × Unit) × Unit) (x1 : List Int) (x2 : Bool) : Option α :=
  (Go.Bx.curve_Lift.run x0 x1 x2).bind fun y1 =>
  (Go.Bx.basculeref_Lifted.run x0 x1 x2).bind fun y2 =>
  Rt (cond (beqD (.pair (.arr 4 (.int .u64)) (.pair (.arr 4 (.int .u64)) (.pair .bool .unit))) y1.1 y2.1) (y1.2.1 == y2.2.1) false)
theorem top_eq {α : Type} (k : Nat) (Q : Ex → St → Option α) (x0 : List Int × List Int × List Int × List Int × (List Int × List Int × Bool × Unit) × Unit) (x1 : List Int) (x2 : Bool) :
    (den C k) (cB Try.f10) Q (St0 x0 x1 x2) = top (fun (x6 : Bool) => Q .ret (St1 x6)) x0 x1 x2 := by
  have h : ∀ (D L : DT α), denJ D L Js C (cB Try.f10) Q (St0 x0 x1 x2) =
        (Go.Bx.curve_Lift.run x0 x1 x2).bind fun y1 =>
        (Go.Bx.basculeref_Lifted.run x0 x1 x2).bind fun y2 =>
        Q .ret (St1 (cond (beqD (.pair (.arr 4 (.int .u64)) (.pair (.arr 4 (.int .u64)) (.pair .bool .unit))) y1.1 y2.1) (y1.2.1 == y2.2.1) false)) := by
    intro D L; kernel_rfl
  refine (show (den C k) (cB Try.f10) Q (St0 x0 x1 x2) = denJ (den C k) (lp C k) Js C (cB Try.f10) Q (St0 x0 x1 x2) from (denJ_den _ _ _ _ _ _).symm).trans ((h (den C k) (lp C k)).trans ?_)
  first | rfl | kernel_rfl
def run (x0 : List Int × List Int × List Int × List Int × (List Int × List Int × Bool × Unit) × Unit) (x1 : List Int) (x2 : Bool) : Option (Bool) := top (α := Bool) (fun (x6 : Bool) => some x6) x0 x1 x2
def F : Fn := ⟨(.pair (.pair (.arr 4 (.int .u64)) (.pair (.arr 4 (.int .u64)) (.pair (.arr 4 (.int .u64)) (.pair (.arr 4 (.int .u64)) (.pair (.pair (.arr 4 (.int .u64)) (.pair (.arr 4 (.int .u64)) (.pair .bool .unit))) .unit))))) (.pair (.arr 4 (.int .u64)) (.pair .bool .unit))), .bool, false, fun x => run x.1 x.2.1 x.2.2.1⟩
set_option maxRecDepth 100000 in
theorem con : Con Try.prog 10 F := by
  refine con_of_den (C := C) (ctx_ok (by kernel_rfl) (by kernel_rfl) (by kernel_rfl) (by kernel_rfl) ⟨.inl ⟨Go.Bx.curve_Lift.con, Go.Bx.curve_Lift.named⟩, ⟨.inl ⟨Go.Bx.basculeref_Lifted.con, Go.Bx.basculeref_Lifted.named⟩, trivial⟩⟩) (by kernel_rfl) Try.func10 (c := cB Try.f10) (by kernel_rfl) (by kernel_rfl) F fuel (fun x => by simp [F, spread, Try.ntmps10]) ?_
  intro x r h
  rw [← h]
  have h1 : start F Try.f10.ntmps x = (St0 x.1 x.2.1 x.2.2.1) := by kernel_rfl
  rw [h1]
  refine (top_eq fuel (fin C Try.f10.results.toList F.rs F.multi) x.1 x.2.1 x.2.2.1).trans ?_
  kernel_rfl
theorem named : Named Try.prog 10 := named_of Try.func10 (by kernel_rfl) (by kernel_rfl)
end Go.Bx.basculelaw_CurveLifts
