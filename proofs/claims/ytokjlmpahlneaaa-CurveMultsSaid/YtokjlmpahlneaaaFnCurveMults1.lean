/- Go functions of this seat in their own words of Lean, each tied to its code by a contract. -/
import Derived.Test.YtokjlmpahlneaaaGBase
import Derived.Test.YtokjlmpahlneaaaFnCurveMults0
namespace Go.Bx.basculeref_inverse
open Go Go.Proofs Go.Bx
set_option maxRecDepth 100000
set_option linter.unusedVariables false
def Js : List Nat := []
def FR (R : (List Int) → (List Int) → Option (List Int × Bool × Unit)) : Fn := ⟨(.pair (.arr 4 (.int .u64)) (.pair (.arr 4 (.int .u64)) .unit)), (.pair (.arr 4 (.int .u64)) (.pair .bool .unit)), true, fun x => R x.1 x.2.1⟩
def C (R : (List Int) → (List Int) → Option (List Int × Bool × Unit)) : Ctx := ⟨[(4, .bool), (45, (.arr 4 (.int .u64))), (134, (.sl (.int .u64)))], [], [], fnL [(48, Go.Bx.basculeref_Quotient.F), (107, Go.Bx.basculeref_plus.F), (108, Go.Bx.basculeref_of.F), (110, Go.Bx.basculeref_opposite.F), (115, Go.Bx.basculeref_less.F), (117, Go.Bx.basculeref_times.F), (120, Go.Bx.basculeref_divided.F), (134, FR R), (161, Go.Bx.basculeref_rest.F)], noSh, [], invL [], [(2, [4, 5])], [], [], 0, 0⟩
def St0 (x0 : List Int) (x1 : List Int) : St := stL 67 [(0, .data (.arr 4 (.int .u64)) x0), (1, .data (.arr 4 (.int .u64)) x1)] []
def St1 (x5 : Bool) (c4 : List Int) : St := stL 67 [(4, .ref 4 0 []), (5, .data .bool x5)] [(4, .cell (.arr 4 (.int .u64)) (.data (.arr 4 (.int .u64)) c4) false)]
def top (R : (List Int) → (List Int) → Option (List Int × Bool × Unit)) {α : Type} (Rt : Bool → (List Int) → Option α) (x0 : List Int) (x1 : List Int) : Option α :=
  if (beqD (.arr 4 (.int .u64)) x1 [1, 0, 0, 0]) = true then
    Rt true [0, 0, 0, 0]
  else
    if (beqD (.arr 4 (.int .u64)) x0 [0, 0, 0, 0]) = true then
      Rt false [0, 0, 0, 0]
    else
      if (beqD (.arr 4 (.int .u64)) x0 [1, 0, 0, 0]) = true then
        Rt true x0
      else
        (Go.Bx.basculeref_Quotient.run x1 x0).bind fun y1 =>
        (R y1.2.1 x0).bind fun y2 =>
        if (not y2.2.1) = true then
          Rt false [0, 0, 0, 0]
        else
          (Go.Bx.basculeref_of.run y1.2.1).bind fun y3 =>
          (Go.Bx.basculeref_of.run y2.1).bind fun y4 =>
          (Go.Bx.basculeref_times.run y3 y4).bind fun y5 =>
          (Go.Bx.basculeref_less.run y5 [1]).bind fun y6 =>
          (Go.Bx.basculeref_of.run x0).bind fun y7 =>
          (Go.Bx.basculeref_divided.run y6 y7).bind fun y8 =>
          (Go.Bx.basculeref_of.run y1.1).bind fun y9 =>
          (Go.Bx.basculeref_of.run y2.1).bind fun y10 =>
          (Go.Bx.basculeref_times.run y9 y10).bind fun y11 =>
          (Go.Bx.basculeref_plus.run y11 y8.1).bind fun y12 =>
          (Go.Bx.basculeref_rest.run y12 x1).bind fun y13 =>
          (Go.Bx.basculeref_opposite.run y13 x1).bind fun y14 =>
          Rt true y14
theorem top_eq (R : (List Int) → (List Int) → Option (List Int × Bool × Unit)) {α : Type} (k : Nat) (Q : Ex → St → Option α) (x0 : List Int) (x1 : List Int) :
    (den (C R) k) (cB Try.f134) Q (St0 x0 x1) = top R (fun (x5 : Bool) (c4 : List Int) => Q .ret (St1 x5 c4)) x0 x1 := by
  have h : ∀ (D L : DT α), denJ D L Js (C R) (cB Try.f134) Q (St0 x0 x1) =
        if (beqD (.arr 4 (.int .u64)) x1 [1, 0, 0, 0]) = true then
          Q .ret (St1 true [0, 0, 0, 0])
        else
          if (beqD (.arr 4 (.int .u64)) x0 [0, 0, 0, 0]) = true then
            Q .ret (St1 false [0, 0, 0, 0])
          else
            if (beqD (.arr 4 (.int .u64)) x0 [1, 0, 0, 0]) = true then
              Q .ret (St1 true x0)
            else
              (Go.Bx.basculeref_Quotient.run x1 x0).bind fun y1 =>
              (R y1.2.1 x0).bind fun y2 =>
              if (not y2.2.1) = true then
                Q .ret (St1 false [0, 0, 0, 0])
              else
                (Go.Bx.basculeref_of.run y1.2.1).bind fun y3 =>
                (Go.Bx.basculeref_of.run y2.1).bind fun y4 =>
                (Go.Bx.basculeref_times.run y3 y4).bind fun y5 =>
                (Go.Bx.basculeref_less.run y5 [1]).bind fun y6 =>
                (Go.Bx.basculeref_of.run x0).bind fun y7 =>
                (Go.Bx.basculeref_divided.run y6 y7).bind fun y8 =>
                (Go.Bx.basculeref_of.run y1.1).bind fun y9 =>
                (Go.Bx.basculeref_of.run y2.1).bind fun y10 =>
                (Go.Bx.basculeref_times.run y9 y10).bind fun y11 =>
                (Go.Bx.basculeref_plus.run y11 y8.1).bind fun y12 =>
                (Go.Bx.basculeref_rest.run y12 x1).bind fun y13 =>
                (Go.Bx.basculeref_opposite.run y13 x1).bind fun y14 =>
                Q .ret (St1 true y14) := by
    intro D L; kernel_rfl
  refine (show (den (C R) k) (cB Try.f134) Q (St0 x0 x1) = denJ (den (C R) k) (lp (C R) k) Js (C R) (cB Try.f134) Q (St0 x0 x1) from (denJ_den _ _ _ _ _ _).symm).trans ((h (den (C R) k) (lp (C R) k)).trans ?_)
  first | rfl | kernel_rfl
def runN : Nat → (List Int) → (List Int) → Option (List Int × Bool × Unit)
  | 0 => fun _ _ => none
  | n + 1 => fun x0 x1 => top (runN n) (α := List Int × Bool × Unit) (fun (x5 : Bool) (c4 : List Int) => some (c4, x5, ())) x0 x1
def run (x0 : List Int) (x1 : List Int) : Option (List Int × Bool × Unit) := runN fuel x0 x1
def F : Fn := FR (runN fuel)
theorem named : Named Try.prog 134 := named_of Try.func134 (by kernel_rfl) (by kernel_rfl)
set_option maxRecDepth 100000 in
theorem conN : ∀ n, Con Try.prog 134 (FR (runN n))
  | 0 => fun w I x r args hI h => by cases h
  | n + 1 => by
    refine con_of_den (C := C (runN n)) (ctx_ok (by kernel_rfl) (by kernel_rfl) (by kernel_rfl) (by kernel_rfl) ⟨.inl ⟨Go.Bx.basculeref_Quotient.con, Go.Bx.basculeref_Quotient.named⟩, ⟨.inl ⟨Go.Bx.basculeref_plus.con, Go.Bx.basculeref_plus.named⟩, ⟨.inl ⟨Go.Bx.basculeref_of.con, Go.Bx.basculeref_of.named⟩, ⟨.inl ⟨Go.Bx.basculeref_opposite.con, Go.Bx.basculeref_opposite.named⟩, ⟨.inl ⟨Go.Bx.basculeref_less.con, Go.Bx.basculeref_less.named⟩, ⟨.inl ⟨Go.Bx.basculeref_times.con, Go.Bx.basculeref_times.named⟩, ⟨.inl ⟨Go.Bx.basculeref_divided.con, Go.Bx.basculeref_divided.named⟩, ⟨.inl ⟨conN n, named⟩, ⟨.inl ⟨Go.Bx.basculeref_rest.con, Go.Bx.basculeref_rest.named⟩, trivial⟩⟩⟩⟩⟩⟩⟩⟩⟩) (by kernel_rfl) Try.func134 (c := cB Try.f134) (by kernel_rfl) (by kernel_rfl) (FR (runN (n + 1))) fuel (fun x => by simp [FR, spread, Try.ntmps134]) ?_
    intro x r h
    rw [← h]
    have h1 : start (FR (runN (n + 1))) Try.f134.ntmps x = (St0 x.1 x.2.1) := by kernel_rfl
    rw [h1]
    refine (top_eq (runN n) fuel (fin (C (runN n)) Try.f134.results.toList (FR (runN (n + 1))).rs (FR (runN (n + 1))).multi) x.1 x.2.1).trans ?_
    kernel_rfl
theorem con : Con Try.prog 134 F := conN fuel
end Go.Bx.basculeref_inverse
namespace Go.Bx.basculeref_Inverse
open Go Go.Proofs Go.Bx
set_option maxRecDepth 100000
set_option linter.unusedVariables false
def Js : List Nat := []
def C : Ctx := ⟨[(31, (.int .i64)), (45, (.arr 4 (.int .u64))), (198, (.sl (.arr 4 (.int .u64))))], [], [], fnL [(129, Go.Bx.basculeref_modulus.F), (134, Go.Bx.basculeref_inverse.F)], noSh, [], invL [], [(2, [4, 5])], [], [], 0, 0⟩
def St0 (x0 : List Int) (x1 : List Int) : St := stL 27 [(0, .data (.arr 4 (.int .u64)) x0), (1, .data (.arr 4 (.int .u64)) x1)] []
def St1 (x5 : Int) (c4 : List Int) : St := stL 27 [(4, .ref 4 0 []), (5, .data (.int .i64) x5)] [(4, .cell (.arr 4 (.int .u64)) (.data (.arr 4 (.int .u64)) c4) false)]
def top {α : Type} (Rt : Int → (List Int) → Option α) (x0 : List Int) (x1 : List Int) : Option α :=
  (Go.Bx.basculeref_modulus.run x1 [x0]).bind fun y1 =>
  if (y1 != 0) = true then
    Rt y1 [0, 0, 0, 0]
  else
    (Go.Bx.basculeref_inverse.run x0 x1).bind fun y2 =>
    if (not y2.2.1) = true then
      Rt 5 [0, 0, 0, 0]
    else
      Rt 0 y2.1
theorem top_eq {α : Type} (k : Nat) (Q : Ex → St → Option α) (x0 : List Int) (x1 : List Int) :
    (den C k) (cB Try.f59) Q (St0 x0 x1) = top (fun (x5 : Int) (c4 : List Int) => Q .ret (St1 x5 c4)) x0 x1 := by
  have h : ∀ (D L : DT α), denJ D L Js C (cB Try.f59) Q (St0 x0 x1) =
        (Go.Bx.basculeref_modulus.run x1 [x0]).bind fun y1 =>
        if (y1 != 0) = true then
          Q .ret (St1 y1 [0, 0, 0, 0])
        else
          (Go.Bx.basculeref_inverse.run x0 x1).bind fun y2 =>
          if (not y2.2.1) = true then
            Q .ret (St1 5 [0, 0, 0, 0])
          else
            Q .ret (St1 0 y2.1) := by
    intro D L; kernel_rfl
  refine (show (den C k) (cB Try.f59) Q (St0 x0 x1) = denJ (den C k) (lp C k) Js C (cB Try.f59) Q (St0 x0 x1) from (denJ_den _ _ _ _ _ _).symm).trans ((h (den C k) (lp C k)).trans ?_)
  first | rfl | kernel_rfl
def run (x0 : List Int) (x1 : List Int) : Option (List Int × Int × Unit) := top (α := List Int × Int × Unit) (fun (x5 : Int) (c4 : List Int) => some (c4, x5, ())) x0 x1
def F : Fn := ⟨(.pair (.arr 4 (.int .u64)) (.pair (.arr 4 (.int .u64)) .unit)), (.pair (.arr 4 (.int .u64)) (.pair (.int .i64) .unit)), true, fun x => run x.1 x.2.1⟩
set_option maxRecDepth 100000 in
theorem con : Con Try.prog 59 F := by
  refine con_of_den (C := C) (ctx_ok (by kernel_rfl) (by kernel_rfl) (by kernel_rfl) (by kernel_rfl) ⟨.inl ⟨Go.Bx.basculeref_modulus.con, Go.Bx.basculeref_modulus.named⟩, ⟨.inl ⟨Go.Bx.basculeref_inverse.con, Go.Bx.basculeref_inverse.named⟩, trivial⟩⟩) (by kernel_rfl) Try.func59 (c := cB Try.f59) (by kernel_rfl) (by kernel_rfl) F fuel (fun x => by simp [F, spread, Try.ntmps59]) ?_
  intro x r h
  rw [← h]
  have h1 : start F Try.f59.ntmps x = (St0 x.1 x.2.1) := by kernel_rfl
  rw [h1]
  refine (top_eq fuel (fin C Try.f59.results.toList F.rs F.multi) x.1 x.2.1).trans ?_
  kernel_rfl
theorem named : Named Try.prog 59 := named_of Try.func59 (by kernel_rfl) (by kernel_rfl)
end Go.Bx.basculeref_Inverse
namespace Go.Bx.basculeref_power
open Go Go.Proofs Go.Bx
set_option maxRecDepth 100000
set_option linter.unusedVariables false
def Js : List Nat := [11, 12, 13]
def C : Ctx := ⟨[(45, (.arr 4 (.int .u64))), (134, (.sl (.int .u64)))], [], [], fnL [(95, Go.Bx.basculeref_product.F), (161, Go.Bx.basculeref_rest.F)], noSh, [], invL [], [(2, [6]), (1, [6, 7]), (4, [3, 5, 6, 7, 14, 15]), (7, [3, 5, 6, 7, 14, 15]), (10, [3, 5, 6, 7, 9, 10, 14, 15]), (9, [3, 5, 6, 7, 14, 15]), (18, [3, 5, 6, 7, 9, 10, 14, 15]), (30, [3, 5, 6, 7, 9, 10, 14, 15]), (33, [3, 5, 6, 7, 14, 15]), (36, [6, 7])], [], [], 0, 0⟩
def St0 (x0 : List Int) (x1 : List Int) (x2 : List Int) : St := stL 37 [(0, .data (.arr 4 (.int .u64)) x0), (1, .data (.arr 4 (.int .u64)) x1), (2, .data (.arr 4 (.int .u64)) x2)] []
def St1 (x14 : List Int) (x15 : Int) (c3 : List Int) (c5 : List Int) (c6 : List Int) (c7 : List Int) : St := stL 37 [(3, .ref 3 0 []), (5, .ref 5 0 []), (6, .ref 6 0 []), (7, .ref 7 0 []), (14, .data (.arr 4 (.int .u64)) x14), (15, .data (.int .i64) x15)] [(3, .cell (.arr 4 (.int .u64)) (.data (.arr 4 (.int .u64)) c3) false), (5, .cell (.arr 4 (.int .u64)) (.data (.arr 4 (.int .u64)) c5) false), (6, .cell (.arr 4 (.int .u64)) (.data (.arr 4 (.int .u64)) c6) false), (7, .cell (.arr 4 (.int .u64)) (.data (.arr 4 (.int .u64)) c7) false)]
noncomputable def cd0 : Code := cL (cL (cR (cL (cR (cR (cB Try.f97))))))
def St2 (x9 : Int) (x10 : Int) (x14 : List Int) (x15 : Int) (c3 : List Int) (c5 : List Int) (c6 : List Int) (c7 : List Int) : St := stL 37 [(3, .ref 3 0 []), (5, .ref 5 0 []), (6, .ref 6 0 []), (7, .ref 7 0 []), (9, .data (.int .u64) x9), (10, .data (.int .i64) x10), (14, .data (.arr 4 (.int .u64)) x14), (15, .data (.int .i64) x15)] [(3, .cell (.arr 4 (.int .u64)) (.data (.arr 4 (.int .u64)) c3) false), (5, .cell (.arr 4 (.int .u64)) (.data (.arr 4 (.int .u64)) c5) false), (6, .cell (.arr 4 (.int .u64)) (.data (.arr 4 (.int .u64)) c6) false), (7, .cell (.arr 4 (.int .u64)) (.data (.arr 4 (.int .u64)) c7) false)]
noncomputable def cd1 : Code := cL (cL (cR (cR (cL (cL (cR (cR (cL (cL (cR (cL (cR (cR (cB Try.f97))))))))))))))
def St3 (x9 : Int) (x10 : Int) (x14 : List Int) (x15 : Int) (c3 : List Int) (c5 : List Int) (c6 : List Int) (c7 : List Int) : St := stL 37 [(3, .ref 3 0 []), (5, .ref 5 0 []), (6, .ref 6 0 []), (7, .ref 7 0 []), (9, .data (.int .u64) x9), (10, .data (.int .i64) x10), (14, .data (.arr 4 (.int .u64)) x14), (15, .data (.int .i64) x15)] [(3, .cell (.arr 4 (.int .u64)) (.data (.arr 4 (.int .u64)) c3) false), (5, .cell (.arr 4 (.int .u64)) (.data (.arr 4 (.int .u64)) c5) false), (6, .cell (.arr 4 (.int .u64)) (.data (.arr 4 (.int .u64)) c6) false), (7, .cell (.arr 4 (.int .u64)) (.data (.arr 4 (.int .u64)) c7) false)]
noncomputable def cd2 : Code := cR (cR (cL (cL (cR (cR (cL (cL (cR (cR (cL (cL (cR (cL (cR (cR (cB Try.f97))))))))))))))))
noncomputable def cd3 : Code := cR (cL (cL (cR (cL (cL (cR (cR (cL (cL (cR (cR (cL (cL (cR (cL (cR (cR (cB Try.f97))))))))))))))))))
def j0 {α : Type} (Nx : Int → Int → (List Int) → Int → (List Int) → (List Int) → (List Int) → (List Int) → Option α) (x9 : Int) (x10 : Int) (x14 : List Int) (x15 : Int) (c3 : List Int) (c5 : List Int) (c6 : List Int) (c7 : List Int) : Option α :=
  (Go.Bx.basculeref_product.run c3 c3 c5).bind fun y3 =>
  Nx x9 (IntKind.i64.wrap (x10 + 1)) x14 x15 y3 c5 c6 c7
theorem j0_eq {α : Type} (k : Nat) (next : St → Option α) (Q : Ex → St → Option α) (x9 : Int) (x10 : Int) (x14 : List Int) (x15 : Int) (c3 : List Int) (c5 : List Int) (c6 : List Int) (c7 : List Int) :
    (den C k) cd3 (blkQ C 3 (sq (den C k) (lp C k) Js C cd2 (lq C 18 next Q))) (St3 x9 x10 x14 x15 c3 c5 c6 c7) = j0 (fun (x9 : Int) (x10 : Int) (x14 : List Int) (x15 : Int) (c3 : List Int) (c5 : List Int) (c6 : List Int) (c7 : List Int) => next (St2 x9 x10 x14 x15 c3 c5 c6 c7)) x9 x10 x14 x15 c3 c5 c6 c7 := by
  have h : ∀ (D L : DT α), denJ D L Js C cd3 (blkQ C 3 (sq D L Js C cd2 (lq C 18 next Q))) (St3 x9 x10 x14 x15 c3 c5 c6 c7) =
        (Go.Bx.basculeref_product.run c3 c3 c5).bind fun y3 =>
        next (St2 x9 (IntKind.i64.wrap (x10 + 1)) x14 x15 y3 c5 c6 c7) := by
    intro D L; kernel_rfl
  refine (show (den C k) cd3 (blkQ C 3 (sq (den C k) (lp C k) Js C cd2 (lq C 18 next Q))) (St3 x9 x10 x14 x15 c3 c5 c6 c7) = denJ (den C k) (lp C k) Js C cd3 (blkQ C 3 (sq (den C k) (lp C k) Js C cd2 (lq C 18 next Q))) (St3 x9 x10 x14 x15 c3 c5 c6 c7) from (denJ_den _ _ _ _ _ _).symm).trans ((h (den C k) (lp C k)).trans ?_)
  first | rfl | kernel_rfl
def St4 (x14 : List Int) (x15 : Int) (c3 : List Int) (c5 : List Int) (c6 : List Int) (c7 : List Int) : St := stL 37 [(3, .ref 3 0 []), (5, .ref 5 0 []), (6, .ref 6 0 []), (7, .ref 7 0 []), (14, .data (.arr 4 (.int .u64)) x14), (15, .data (.int .i64) x15)] [(3, .cell (.arr 4 (.int .u64)) (.data (.arr 4 (.int .u64)) c3) false), (5, .cell (.arr 4 (.int .u64)) (.data (.arr 4 (.int .u64)) c5) false), (6, .cell (.arr 4 (.int .u64)) (.data (.arr 4 (.int .u64)) c6) false), (7, .cell (.arr 4 (.int .u64)) (.data (.arr 4 (.int .u64)) c7) false)]
def l1s {α : Type} (Nx : Int → Int → (List Int) → Int → (List Int) → (List Int) → (List Int) → (List Int) → Option α) (Xt2 : (List Int) → Int → (List Int) → (List Int) → (List Int) → (List Int) → Option α) (x9 : Int) (x10 : Int) (x14 : List Int) (x15 : Int) (c3 : List Int) (c5 : List Int) (c6 : List Int) (c7 : List Int) : Option α :=
  if (decide (x10 < 64)) = true then
    if 0 ≤ x10 then
      if ((band .u64 (shrI .u64 x9 x10) 1) == 1) = true then
        (Go.Bx.basculeref_product.run c7 c3 c5).bind fun y2 =>
        j0 Nx x9 x10 x14 x15 c3 c5 c6 y2
      else
        j0 Nx x9 x10 x14 x15 c3 c5 c6 c7
    else none
  else
    Xt2 x14 x15 c3 c5 c6 c7
theorem l1s_eq {α : Type} (k : Nat) (next : St → Option α) (Q : Ex → St → Option α) (x9 : Int) (x10 : Int) (x14 : List Int) (x15 : Int) (c3 : List Int) (c5 : List Int) (c6 : List Int) (c7 : List Int) :
    rnd C k cd1 18 Q next (St2 x9 x10 x14 x15 c3 c5 c6 c7) = l1s (fun (x9 : Int) (x10 : Int) (x14 : List Int) (x15 : Int) (c3 : List Int) (c5 : List Int) (c6 : List Int) (c7 : List Int) => next (St2 x9 x10 x14 x15 c3 c5 c6 c7)) (fun (x14 : List Int) (x15 : Int) (c3 : List Int) (c5 : List Int) (c6 : List Int) (c7 : List Int) => Q (.exit 2) (St4 x14 x15 c3 c5 c6 c7)) x9 x10 x14 x15 c3 c5 c6 c7 := by
  have h : ∀ (D L : DT α), denJ D L Js C cd1 (lq C 18 next Q) (St2 x9 x10 x14 x15 c3 c5 c6 c7) =
        if (decide (x10 < 64)) = true then
          if 0 ≤ x10 then
            if ((band .u64 (shrI .u64 x9 x10) 1) == 1) = true then
              (Go.Bx.basculeref_product.run c7 c3 c5).bind fun y2 =>
              D cd3 (blkQ C 3 (sq D L Js C cd2 (lq C 18 next Q))) (St3 x9 x10 x14 x15 c3 c5 c6 y2)
            else
              D cd3 (blkQ C 3 (sq D L Js C cd2 (lq C 18 next Q))) (St3 x9 x10 x14 x15 c3 c5 c6 c7)
          else none
        else
          Q (.exit 2) (St4 x14 x15 c3 c5 c6 c7) := by
    intro D L; kernel_rfl
  refine (show rnd C k cd1 18 Q next (St2 x9 x10 x14 x15 c3 c5 c6 c7) = denJ (den C k) (lp C k) Js C cd1 (lq C 18 next Q) (St2 x9 x10 x14 x15 c3 c5 c6 c7) from (denJ_den _ _ _ _ _ _).symm).trans ((h (den C k) (lp C k)).trans ?_)
  simp only [j0_eq]
  first | rfl | kernel_rfl
def l1 {α : Type} (k : Nat) (Xt2 : (List Int) → Int → (List Int) → (List Int) → (List Int) → (List Int) → Option α) : Nat → Int → Int → (List Int) → Int → (List Int) → (List Int) → (List Int) → (List Int) → Option α
  | 0, _, _, _, _, _, _, _, _ => none
  | n + 1, x9, x10, x14, x15, c3, c5, c6, c7 => l1s (l1 k Xt2 n) Xt2 x9 x10 x14 x15 c3 c5 c6 c7
theorem l1_eq {α : Type} (k : Nat) (Q : Ex → St → Option α) : ∀ (n : Nat) (x9 : Int) (x10 : Int) (x14 : List Int) (x15 : Int) (c3 : List Int) (c5 : List Int) (c6 : List Int) (c7 : List Int), iter (rnd C k cd1 18 Q) n (St2 x9 x10 x14 x15 c3 c5 c6 c7) = l1 k (fun (x14 : List Int) (x15 : Int) (c3 : List Int) (c5 : List Int) (c6 : List Int) (c7 : List Int) => Q (.exit 2) (St4 x14 x15 c3 c5 c6 c7)) n x9 x10 x14 x15 c3 c5 c6 c7
  | 0, _, _, _, _, _, _, _, _ => rfl
  | n + 1, x9, x10, x14, x15, c3, c5, c6, c7 => (iter_succ _ _ _).trans ((l1s_eq k (iter (rnd C k cd1 18 Q) n) Q x9 x10 x14 x15 c3 c5 c6 c7).trans (congrArg (fun N => l1s N (fun (x14 : List Int) (x15 : Int) (c3 : List Int) (c5 : List Int) (c6 : List Int) (c7 : List Int) => Q (.exit 2) (St4 x14 x15 c3 c5 c6 c7)) x9 x10 x14 x15 c3 c5 c6 c7) (funext fun x9 => funext fun x10 => funext fun x14 => funext fun x15 => funext fun c3 => funext fun c5 => funext fun c6 => funext fun c7 => l1_eq k Q n x9 x10 x14 x15 c3 c5 c6 c7)))
theorem l1_congr {α : Type} (k : Nat) (Xt2 : (List Int) → Int → (List Int) → (List Int) → (List Int) → (List Int) → Option α) (Xt2q : (List Int) → Int → (List Int) → (List Int) → (List Int) → (List Int) → Option α) (hXt2 : ∀ (x14 : List Int) (x15 : Int) (c3 : List Int) (c5 : List Int) (c6 : List Int) (c7 : List Int), Xt2 x14 x15 c3 c5 c6 c7 = Xt2q x14 x15 c3 c5 c6 c7) (n : Nat) (x9 : Int) (x10 : Int) (x14 : List Int) (x15 : Int) (c3 : List Int) (c5 : List Int) (c6 : List Int) (c7 : List Int) : l1 k Xt2 n x9 x10 x14 x15 c3 c5 c6 c7 = l1 k Xt2q n x9 x10 x14 x15 c3 c5 c6 c7 := by
  obtain rfl : Xt2 = Xt2q := by funext x14; funext x15; funext c3; funext c5; funext c6; funext c7; exact hXt2 x14 x15 c3 c5 c6 c7
  rfl
noncomputable def cd4 : Code := cR (cR (cR (cL (cL (cR (cL (cR (cR (cB Try.f97)))))))))
def St5 (x14 : List Int) (x15 : Int) (c3 : List Int) (c5 : List Int) (c6 : List Int) (c7 : List Int) : St := stL 37 [(3, .ref 3 0 []), (5, .ref 5 0 []), (6, .ref 6 0 []), (7, .ref 7 0 []), (14, .data (.arr 4 (.int .u64)) x14), (15, .data (.int .i64) x15)] [(3, .cell (.arr 4 (.int .u64)) (.data (.arr 4 (.int .u64)) c3) false), (5, .cell (.arr 4 (.int .u64)) (.data (.arr 4 (.int .u64)) c5) false), (6, .cell (.arr 4 (.int .u64)) (.data (.arr 4 (.int .u64)) c6) false), (7, .cell (.arr 4 (.int .u64)) (.data (.arr 4 (.int .u64)) c7) false)]
def j1 {α : Type} (Nx : (List Int) → Int → (List Int) → (List Int) → (List Int) → (List Int) → Option α) (x14 : List Int) (x15 : Int) (c3 : List Int) (c5 : List Int) (c6 : List Int) (c7 : List Int) : Option α :=
  Nx x14 (IntKind.i64.wrap (x15 + 1)) c3 c5 c6 c7
theorem j1_eq {α : Type} (k : Nat) (next : St → Option α) (Q : Ex → St → Option α) (x14 : List Int) (x15 : Int) (c3 : List Int) (c5 : List Int) (c6 : List Int) (c7 : List Int) :
    (den C k) cd4 (lq C 9 next Q) (St5 x14 x15 c3 c5 c6 c7) = j1 (fun (x14 : List Int) (x15 : Int) (c3 : List Int) (c5 : List Int) (c6 : List Int) (c7 : List Int) => next (St1 x14 x15 c3 c5 c6 c7)) x14 x15 c3 c5 c6 c7 := by
  have h : ∀ (D L : DT α), denJ D L Js C cd4 (lq C 9 next Q) (St5 x14 x15 c3 c5 c6 c7) =
        next (St1 x14 (IntKind.i64.wrap (x15 + 1)) c3 c5 c6 c7) := by
    intro D L; kernel_rfl
  refine (show (den C k) cd4 (lq C 9 next Q) (St5 x14 x15 c3 c5 c6 c7) = denJ (den C k) (lp C k) Js C cd4 (lq C 9 next Q) (St5 x14 x15 c3 c5 c6 c7) from (denJ_den _ _ _ _ _ _).symm).trans ((h (den C k) (lp C k)).trans ?_)
  first | rfl | kernel_rfl
theorem a0 {α : Type} (k : Nat) (next : St → Option α) (Q : Ex → St → Option α) (x9 : Int) (x10 : Int) (x14 : List Int) (x15 : Int) (c3 : List Int) (c5 : List Int) (c6 : List Int) (c7 : List Int) :
    (lp C k) cd1 (blkQ C 2 (blkQ C 1 (sq (den C k) (lp C k) Js C cd4 (lq C 9 next Q)))) (St2 x9 x10 x14 x15 c3 c5 c6 c7) = l1 k (fun (x14 : List Int) (x15 : Int) (c3 : List Int) (c5 : List Int) (c6 : List Int) (c7 : List Int) => j1 (fun (x14 : List Int) (x15 : Int) (c3 : List Int) (c5 : List Int) (c6 : List Int) (c7 : List Int) => next (St1 x14 x15 c3 c5 c6 c7)) x14 x15 c3 c5 c6 c7) k x9 x10 x14 x15 c3 c5 c6 c7 :=
  (show (lp C k) cd1 (blkQ C 2 (blkQ C 1 (sq (den C k) (lp C k) Js C cd4 (lq C 9 next Q)))) (St2 x9 x10 x14 x15 c3 c5 c6 c7) = iter (rnd C k cd1 18 (blkQ C 2 (blkQ C 1 (sq (den C k) (lp C k) Js C cd4 (lq C 9 next Q))))) k (St2 x9 x10 x14 x15 c3 c5 c6 c7) by kernel_rfl).trans ((l1_eq k (blkQ C 2 (blkQ C 1 (sq (den C k) (lp C k) Js C cd4 (lq C 9 next Q)))) k x9 x10 x14 x15 c3 c5 c6 c7).trans (l1_congr k _ _ (fun x14 x15 c3 c5 c6 c7 => ((show (blkQ C 2 (blkQ C 1 (sq (den C k) (lp C k) Js C cd4 (lq C 9 next Q)))) (.exit 2) (St4 x14 x15 c3 c5 c6 c7) = (den C k) cd4 (lq C 9 next Q) (St5 x14 x15 c3 c5 c6 c7) by kernel_rfl).trans (by simp only [j1_eq]))) k x9 x10 x14 x15 c3 c5 c6 c7))
def St6 (c6 : List Int) (c7 : List Int) : St := stL 37 [(6, .ref 6 0 []), (7, .ref 7 0 [])] [(6, .cell (.arr 4 (.int .u64)) (.data (.arr 4 (.int .u64)) c6) false), (7, .cell (.arr 4 (.int .u64)) (.data (.arr 4 (.int .u64)) c7) false)]
def l0s {α : Type} (k : Nat) (Nx : (List Int) → Int → (List Int) → (List Int) → (List Int) → (List Int) → Option α) (Xt0 : (List Int) → (List Int) → Option α) (x14 : List Int) (x15 : Int) (c3 : List Int) (c5 : List Int) (c6 : List Int) (c7 : List Int) : Option α :=
  if (decide (x15 < 4)) = true then
    if 0 ≤ x15 ∧ x15 < (4 : Int) then
      l1 k (fun (x14 : List Int) (x15 : Int) (c3 : List Int) (c5 : List Int) (c6 : List Int) (c7 : List Int) => j1 Nx x14 x15 c3 c5 c6 c7) k (List.getD x14 (Int.toNat x15) 0) 0 x14 x15 c3 c5 c6 c7
    else none
  else
    Xt0 c6 c7
theorem l0s_eq {α : Type} (k : Nat) (next : St → Option α) (Q : Ex → St → Option α) (x14 : List Int) (x15 : Int) (c3 : List Int) (c5 : List Int) (c6 : List Int) (c7 : List Int) :
    rnd C k cd0 9 Q next (St1 x14 x15 c3 c5 c6 c7) = l0s k (fun (x14 : List Int) (x15 : Int) (c3 : List Int) (c5 : List Int) (c6 : List Int) (c7 : List Int) => next (St1 x14 x15 c3 c5 c6 c7)) (fun (c6 : List Int) (c7 : List Int) => Q (.exit 0) (St6 c6 c7)) x14 x15 c3 c5 c6 c7 := by
  have h : ∀ (D L : DT α), denJ D L Js C cd0 (lq C 9 next Q) (St1 x14 x15 c3 c5 c6 c7) =
        if (decide (x15 < 4)) = true then
          if 0 ≤ x15 ∧ x15 < (4 : Int) then
            L cd1 (blkQ C 2 (blkQ C 1 (sq D L Js C cd4 (lq C 9 next Q)))) (St2 (List.getD x14 (Int.toNat x15) 0) 0 x14 x15 c3 c5 c6 c7)
          else none
        else
          Q (.exit 0) (St6 c6 c7) := by
    intro D L; kernel_rfl
  refine (show rnd C k cd0 9 Q next (St1 x14 x15 c3 c5 c6 c7) = denJ (den C k) (lp C k) Js C cd0 (lq C 9 next Q) (St1 x14 x15 c3 c5 c6 c7) from (denJ_den _ _ _ _ _ _).symm).trans ((h (den C k) (lp C k)).trans ?_)
  simp only [a0]
  first | rfl | kernel_rfl
def l0 {α : Type} (k : Nat) (Xt0 : (List Int) → (List Int) → Option α) : Nat → (List Int) → Int → (List Int) → (List Int) → (List Int) → (List Int) → Option α
  | 0, _, _, _, _, _, _ => none
  | n + 1, x14, x15, c3, c5, c6, c7 => l0s k (l0 k Xt0 n) Xt0 x14 x15 c3 c5 c6 c7
theorem l0_eq {α : Type} (k : Nat) (Q : Ex → St → Option α) : ∀ (n : Nat) (x14 : List Int) (x15 : Int) (c3 : List Int) (c5 : List Int) (c6 : List Int) (c7 : List Int), iter (rnd C k cd0 9 Q) n (St1 x14 x15 c3 c5 c6 c7) = l0 k (fun (c6 : List Int) (c7 : List Int) => Q (.exit 0) (St6 c6 c7)) n x14 x15 c3 c5 c6 c7
  | 0, _, _, _, _, _, _ => rfl
  | n + 1, x14, x15, c3, c5, c6, c7 => (iter_succ _ _ _).trans ((l0s_eq k (iter (rnd C k cd0 9 Q) n) Q x14 x15 c3 c5 c6 c7).trans (congrArg (fun N => l0s k N (fun (c6 : List Int) (c7 : List Int) => Q (.exit 0) (St6 c6 c7)) x14 x15 c3 c5 c6 c7) (funext fun x14 => funext fun x15 => funext fun c3 => funext fun c5 => funext fun c6 => funext fun c7 => l0_eq k Q n x14 x15 c3 c5 c6 c7)))
theorem l0_congr {α : Type} (k : Nat) (Xt0 : (List Int) → (List Int) → Option α) (Xt0q : (List Int) → (List Int) → Option α) (hXt0 : ∀ (c6 : List Int) (c7 : List Int), Xt0 c6 c7 = Xt0q c6 c7) (n : Nat) (x14 : List Int) (x15 : Int) (c3 : List Int) (c5 : List Int) (c6 : List Int) (c7 : List Int) : l0 k Xt0 n x14 x15 c3 c5 c6 c7 = l0 k Xt0q n x14 x15 c3 c5 c6 c7 := by
  obtain rfl : Xt0 = Xt0q := by funext c6; funext c7; exact hXt0 c6 c7
  rfl
noncomputable def cd5 : Code := cR (cR (cR (cB Try.f97)))
def St7 (c6 : List Int) (c7 : List Int) : St := stL 37 [(6, .ref 6 0 []), (7, .ref 7 0 [])] [(6, .cell (.arr 4 (.int .u64)) (.data (.arr 4 (.int .u64)) c6) false), (7, .cell (.arr 4 (.int .u64)) (.data (.arr 4 (.int .u64)) c7) false)]
def St8 (c6 : List Int) : St := stL 37 [(6, .ref 6 0 [])] [(6, .cell (.arr 4 (.int .u64)) (.data (.arr 4 (.int .u64)) c6) false)]
def j2 {α : Type} (Rt : (List Int) → Option α) (c6 : List Int) (c7 : List Int) : Option α :=
  Rt c7
theorem j2_eq {α : Type} (k : Nat) (Q : Ex → St → Option α) (c6 : List Int) (c7 : List Int) :
    (den C k) cd5 Q (St7 c6 c7) = j2 (fun (c6 : List Int) => Q .ret (St8 c6)) c6 c7 := by
  have h : ∀ (D L : DT α), denJ D L Js C cd5 Q (St7 c6 c7) =
        Q .ret (St8 c7) := by
    intro D L; kernel_rfl
  refine (show (den C k) cd5 Q (St7 c6 c7) = denJ (den C k) (lp C k) Js C cd5 Q (St7 c6 c7) from (denJ_den _ _ _ _ _ _).symm).trans ((h (den C k) (lp C k)).trans ?_)
  first | rfl | kernel_rfl
theorem a1 {α : Type} (k : Nat) (Q : Ex → St → Option α) (x14 : List Int) (x15 : Int) (c3 : List Int) (c5 : List Int) (c6 : List Int) (c7 : List Int) :
    (lp C k) cd0 (blkQ C 0 (sq (den C k) (lp C k) Js C cd5 Q)) (St1 x14 x15 c3 c5 c6 c7) = l0 k (fun (c6 : List Int) (c7 : List Int) => j2 (fun (c6 : List Int) => Q .ret (St8 c6)) c6 c7) k x14 x15 c3 c5 c6 c7 :=
  (show (lp C k) cd0 (blkQ C 0 (sq (den C k) (lp C k) Js C cd5 Q)) (St1 x14 x15 c3 c5 c6 c7) = iter (rnd C k cd0 9 (blkQ C 0 (sq (den C k) (lp C k) Js C cd5 Q))) k (St1 x14 x15 c3 c5 c6 c7) by kernel_rfl).trans ((l0_eq k (blkQ C 0 (sq (den C k) (lp C k) Js C cd5 Q)) k x14 x15 c3 c5 c6 c7).trans (l0_congr k _ _ (fun c6 c7 => ((show (blkQ C 0 (sq (den C k) (lp C k) Js C cd5 Q)) (.exit 0) (St6 c6 c7) = (den C k) cd5 Q (St7 c6 c7) by kernel_rfl).trans (by simp only [j2_eq]))) k x14 x15 c3 c5 c6 c7))
def top {α : Type} (k : Nat) (Rt : (List Int) → Option α) (x0 : List Int) (x1 : List Int) (x2 : List Int) : Option α :=
  (Go.Bx.basculeref_rest.run [1] x2).bind fun y1 =>
  l0 k (fun (c6 : List Int) (c7 : List Int) => j2 Rt c6 c7) k x1 0 x0 x2 [0, 0, 0, 0] y1
theorem top_eq {α : Type} (k : Nat) (Q : Ex → St → Option α) (x0 : List Int) (x1 : List Int) (x2 : List Int) :
    (den C k) (cB Try.f97) Q (St0 x0 x1 x2) = top k (fun (c6 : List Int) => Q .ret (St8 c6)) x0 x1 x2 := by
  have h : ∀ (D L : DT α), denJ D L Js C (cB Try.f97) Q (St0 x0 x1 x2) =
        (Go.Bx.basculeref_rest.run [1] x2).bind fun y1 =>
        L cd0 (blkQ C 0 (sq D L Js C cd5 Q)) (St1 x1 0 x0 x2 [0, 0, 0, 0] y1) := by
    intro D L; kernel_rfl
  refine (show (den C k) (cB Try.f97) Q (St0 x0 x1 x2) = denJ (den C k) (lp C k) Js C (cB Try.f97) Q (St0 x0 x1 x2) from (denJ_den _ _ _ _ _ _).symm).trans ((h (den C k) (lp C k)).trans ?_)
  simp only [a1]
  first | rfl | kernel_rfl
def run (x0 : List Int) (x1 : List Int) (x2 : List Int) : Option (List Int) := top (α := List Int) fuel (fun (c6 : List Int) => some c6) x0 x1 x2
def F : Fn := ⟨(.pair (.arr 4 (.int .u64)) (.pair (.arr 4 (.int .u64)) (.pair (.arr 4 (.int .u64)) .unit))), (.arr 4 (.int .u64)), false, fun x => run x.1 x.2.1 x.2.2.1⟩
set_option maxRecDepth 100000 in
theorem con : Con Try.prog 97 F := by
  refine con_of_den (C := C) (ctx_ok (by kernel_rfl) (by kernel_rfl) (by kernel_rfl) (by kernel_rfl) ⟨.inl ⟨Go.Bx.basculeref_product.con, Go.Bx.basculeref_product.named⟩, ⟨.inl ⟨Go.Bx.basculeref_rest.con, Go.Bx.basculeref_rest.named⟩, trivial⟩⟩) (by kernel_rfl) Try.func97 (c := cB Try.f97) (by kernel_rfl) (by kernel_rfl) F fuel (fun x => by simp [F, spread, Try.ntmps97]) ?_
  intro x r h
  rw [← h]
  have h1 : start F Try.f97.ntmps x = (St0 x.1 x.2.1 x.2.2.1) := by kernel_rfl
  rw [h1]
  refine (top_eq fuel (fin C Try.f97.results.toList F.rs F.multi) x.1 x.2.1 x.2.2.1).trans ?_
  kernel_rfl
theorem named : Named Try.prog 97 := named_of Try.func97 (by kernel_rfl) (by kernel_rfl)
end Go.Bx.basculeref_power
namespace Go.Bx.field_Pow_1_s0
open Go Go.Proofs Go.Bx
set_option maxRecDepth 100000
set_option linter.unusedVariables false
def Js : List Nat := []
def C : Ctx := ⟨[(45, (.arr 4 (.int .u64)))], [], [], fnL [(130, Go.Bx.field_mul.F)], noSh, [], invL [], [(2, [])], [], [], 3, 0⟩
def St0 (x0 : Bool) (c0 : List Int) (c1 : List Int) (c2 : List Int) : St := stL 14 [(0, .data .bool x0), (1, .ref 0 0 []), (2, .ref 1 0 []), (3, .ref 2 0 [])] [(0, .cell (.arr 4 (.int .u64)) (.data (.arr 4 (.int .u64)) c0) false), (1, .cell (.arr 4 (.int .u64)) (.data (.arr 4 (.int .u64)) c1) false), (2, .cell (.arr 4 (.int .u64)) (.data (.arr 4 (.int .u64)) c2) false)]
def St1 (c0 : List Int) (c1 : List Int) (c2 : List Int) : St := stL 14 [] [(0, .cell (.arr 4 (.int .u64)) (.data (.arr 4 (.int .u64)) c0) false), (1, .cell (.arr 4 (.int .u64)) (.data (.arr 4 (.int .u64)) c1) false), (2, .cell (.arr 4 (.int .u64)) (.data (.arr 4 (.int .u64)) c2) false)]
def top {α : Type} (Rt : (List Int) → (List Int) → (List Int) → Option α) (x0 : Bool) (c0 : List Int) (c1 : List Int) (c2 : List Int) : Option α :=
  (Go.Bx.field_mul.run c0 c0 c1).bind fun y1 =>
  if x0 = true then
    (Go.Bx.field_mul.run y1 c2 c1).bind fun y2 =>
    Rt y2 c1 c2
  else
    Rt y1 c1 c2
theorem top_eq {α : Type} (k : Nat) (Q : Ex → St → Option α) (x0 : Bool) (c0 : List Int) (c1 : List Int) (c2 : List Int) :
    (den C k) (cB Try.f133) (endQ C Q) (St0 x0 c0 c1 c2) = top (fun (c0 : List Int) (c1 : List Int) (c2 : List Int) => Q .ret (St1 c0 c1 c2)) x0 c0 c1 c2 := by
  have h : ∀ (D L : DT α), denJ D L Js C (cB Try.f133) (endQ C Q) (St0 x0 c0 c1 c2) =
        (Go.Bx.field_mul.run c0 c0 c1).bind fun y1 =>
        if x0 = true then
          (Go.Bx.field_mul.run y1 c2 c1).bind fun y2 =>
          Q .ret (St1 y2 c1 c2)
        else
          Q .ret (St1 y1 c1 c2) := by
    intro D L; kernel_rfl
  refine (show (den C k) (cB Try.f133) (endQ C Q) (St0 x0 c0 c1 c2) = denJ (den C k) (lp C k) Js C (cB Try.f133) (endQ C Q) (St0 x0 c0 c1 c2) from (denJ_den _ _ _ _ _ _).symm).trans ((h (den C k) (lp C k)).trans ?_)
  first | rfl | kernel_rfl
def run (x0 : Bool) (c0 : List Int) (c1 : List Int) (c2 : List Int) : Option (List Int × List Int × List Int × Unit) := top (α := List Int × List Int × List Int × Unit) (fun (c0 : List Int) (c1 : List Int) (c2 : List Int) => some (c0, c1, c2, ())) x0 c0 c1 c2
def Sp : Spec := ⟨[hD .bool, .ref 0 0 [], .ref 1 0 [], .ref 2 0 []], [(0, hC (.arr 4 (.int .u64)) (hD (.arr 4 (.int .u64))) false), (1, hC (.arr 4 (.int .u64)) (hD (.arr 4 (.int .u64))) false), (2, hC (.arr 4 (.int .u64)) (hD (.arr 4 (.int .u64))) false)], (.pair .bool (.pair (.arr 4 (.int .u64)) (.pair (.arr 4 (.int .u64)) (.pair (.arr 4 (.int .u64)) .unit)))), .tup [], [(0, hC (.arr 4 (.int .u64)) (hD (.arr 4 (.int .u64))) false), (1, hC (.arr 4 (.int .u64)) (hD (.arr 4 (.int .u64))) false), (2, hC (.arr 4 (.int .u64)) (hD (.arr 4 (.int .u64))) false)], (.pair (.arr 4 (.int .u64)) (.pair (.arr 4 (.int .u64)) (.pair (.arr 4 (.int .u64)) .unit))), fun x => run x.1 x.2.1 x.2.2.1 x.2.2.2.1⟩
set_option maxRecDepth 100000 in
theorem sok : SOk Try.prog 133 Sp.h := by
  refine sok_of_den (C := C) (ctx_ok (by kernel_rfl) (by kernel_rfl) (by kernel_rfl) (by kernel_rfl) ⟨.inl ⟨Go.Bx.field_mul.con, Go.Bx.field_mul.named⟩, trivial⟩) (by kernel_rfl) Try.func133 (c := cB Try.f133) (by kernel_rfl) (by kernel_rfl) Sp fuel (by kernel_rfl) (by kernel_rfl) ?_
  intro x r h
  rw [← h]
  have h1 : Sp.start x Try.f133.ntmps = (St0 x.1 x.2.1 x.2.2.1 x.2.2.2.1) := by kernel_rfl
  rw [h1]
  refine (top_eq fuel (finS C Try.f133.results.toList Sp.read) x.1 x.2.1 x.2.2.1 x.2.2.2.1).trans ?_
  kernel_rfl
theorem named : Named Try.prog 133 := named_of Try.func133 (by kernel_rfl) (by kernel_rfl)
end Go.Bx.field_Pow_1_s0
namespace Go.Bx.field_bits_s1
open Go Go.Proofs Go.Bx
set_option maxRecDepth 100000
set_option linter.unusedVariables false
def Js : List Nat := [5, 9]
def C : Ctx := ⟨[(24, (.int .u64)), (45, (.arr 4 (.int .u64)))], [], [], fnL [], shL [(133, [.one Go.Bx.field_Pow_1_s0.Sp])], [(38, 40)], invL [], [(2, []), (1, []), (4, [1, 2, 4, 5]), (7, [1, 2, 4, 5]), (10, [1, 2, 4, 5, 6]), (9, [1, 2, 4, 5]), (12, [1, 2, 4, 5]), (21, [1, 2, 4, 5, 6]), (24, [1, 2, 4, 5, 6])], [], [], 3, 0⟩
def St0 (x0 : List Int) (c0 : List Int) (c1 : List Int) (c2 : List Int) : St := stL 39 [(0, .data (.arr 4 (.int .u64)) x0), (1, .fn 133 [] [.ref 0 0 [], .ref 1 0 [], .ref 2 0 []])] [(0, .cell (.arr 4 (.int .u64)) (.data (.arr 4 (.int .u64)) c0) false), (1, .cell (.arr 4 (.int .u64)) (.data (.arr 4 (.int .u64)) c1) false), (2, .cell (.arr 4 (.int .u64)) (.data (.arr 4 (.int .u64)) c2) false)]
def St1 (x4 : Bool) (x5 : Int) (c0 : List Int) (c1 : List Int) (c2 : List Int) (c5 : List Int) : St := stL 39 [(1, .fn 133 [] [.ref 0 0 [], .ref 1 0 [], .ref 2 0 []]), (2, .ref 5 0 []), (4, .data .bool x4), (5, .data (.int .i64) x5)] [(0, .cell (.arr 4 (.int .u64)) (.data (.arr 4 (.int .u64)) c0) false), (1, .cell (.arr 4 (.int .u64)) (.data (.arr 4 (.int .u64)) c1) false), (2, .cell (.arr 4 (.int .u64)) (.data (.arr 4 (.int .u64)) c2) false), (5, .cell (.arr 4 (.int .u64)) (.data (.arr 4 (.int .u64)) c5) false)]
noncomputable def cd0 : Code := cL (cL (cR (cR (cR (cB Try.f132)))))
def St2 (x4 : Bool) (x5 : Int) (c0 : List Int) (c1 : List Int) (c2 : List Int) (c5 : List Int) : St := stL 39 [(1, .fn 133 [] [.ref 0 0 [], .ref 1 0 [], .ref 2 0 []]), (2, .ref 5 0 []), (4, .data .bool x4), (5, .data (.int .i64) x5)] [(0, .cell (.arr 4 (.int .u64)) (.data (.arr 4 (.int .u64)) c0) false), (1, .cell (.arr 4 (.int .u64)) (.data (.arr 4 (.int .u64)) c1) false), (2, .cell (.arr 4 (.int .u64)) (.data (.arr 4 (.int .u64)) c2) false), (5, .cell (.arr 4 (.int .u64)) (.data (.arr 4 (.int .u64)) c5) false)]
noncomputable def cd1 : Code := cR (cR (cL (cL (cR (cR (cR (cB Try.f132)))))))
def j0 {α : Type} (Nx : Bool → Int → (List Int) → (List Int) → (List Int) → (List Int) → Option α) (x4 : Bool) (x5 : Int) (c0 : List Int) (c1 : List Int) (c2 : List Int) (c5 : List Int) : Option α :=
  Nx x4 (IntKind.i64.wrap (x5 - 1)) c0 c1 c2 c5
theorem j0_eq {α : Type} (k : Nat) (next : St → Option α) (Q : Ex → St → Option α) (x4 : Bool) (x5 : Int) (c0 : List Int) (c1 : List Int) (c2 : List Int) (c5 : List Int) :
    (den C k) cd1 (lq C 9 next Q) (St2 x4 x5 c0 c1 c2 c5) = j0 (fun (x4 : Bool) (x5 : Int) (c0 : List Int) (c1 : List Int) (c2 : List Int) (c5 : List Int) => next (St1 x4 x5 c0 c1 c2 c5)) x4 x5 c0 c1 c2 c5 := by
  have h : ∀ (D L : DT α), denJ D L Js C cd1 (lq C 9 next Q) (St2 x4 x5 c0 c1 c2 c5) =
        next (St1 x4 (IntKind.i64.wrap (x5 - 1)) c0 c1 c2 c5) := by
    intro D L; kernel_rfl
  refine (show (den C k) cd1 (lq C 9 next Q) (St2 x4 x5 c0 c1 c2 c5) = denJ (den C k) (lp C k) Js C cd1 (lq C 9 next Q) (St2 x4 x5 c0 c1 c2 c5) from (denJ_den _ _ _ _ _ _).symm).trans ((h (den C k) (lp C k)).trans ?_)
  first | rfl | kernel_rfl
def St3 (x4 : Bool) (x5 : Int) (x6 : Int) (c0 : List Int) (c1 : List Int) (c2 : List Int) (c5 : List Int) : St := stL 39 [(1, .fn 133 [] [.ref 0 0 [], .ref 1 0 [], .ref 2 0 []]), (2, .ref 5 0 []), (4, .data .bool x4), (5, .data (.int .i64) x5), (6, .data (.int .i64) x6)] [(0, .cell (.arr 4 (.int .u64)) (.data (.arr 4 (.int .u64)) c0) false), (1, .cell (.arr 4 (.int .u64)) (.data (.arr 4 (.int .u64)) c1) false), (2, .cell (.arr 4 (.int .u64)) (.data (.arr 4 (.int .u64)) c2) false), (5, .cell (.arr 4 (.int .u64)) (.data (.arr 4 (.int .u64)) c5) false)]
noncomputable def cd2 : Code := cL (cL (cR (cR (cL (cL (cR (cL (cL (cR (cR (cR (cB Try.f132))))))))))))
def St4 (x4 : Bool) (x5 : Int) (x6 : Int) (c0 : List Int) (c1 : List Int) (c2 : List Int) (c5 : List Int) : St := stL 39 [(1, .fn 133 [] [.ref 0 0 [], .ref 1 0 [], .ref 2 0 []]), (2, .ref 5 0 []), (4, .data .bool x4), (5, .data (.int .i64) x5), (6, .data (.int .i64) x6)] [(0, .cell (.arr 4 (.int .u64)) (.data (.arr 4 (.int .u64)) c0) false), (1, .cell (.arr 4 (.int .u64)) (.data (.arr 4 (.int .u64)) c1) false), (2, .cell (.arr 4 (.int .u64)) (.data (.arr 4 (.int .u64)) c2) false), (5, .cell (.arr 4 (.int .u64)) (.data (.arr 4 (.int .u64)) c5) false)]
noncomputable def cd3 : Code := cR (cR (cL (cL (cR (cR (cL (cL (cR (cL (cL (cR (cR (cR (cB Try.f132))))))))))))))
def j1 {α : Type} (Nx : Bool → Int → Int → (List Int) → (List Int) → (List Int) → (List Int) → Option α) (x4 : Bool) (x5 : Int) (x6 : Int) (c0 : List Int) (c1 : List Int) (c2 : List Int) (c5 : List Int) : Option α :=
  Nx x4 x5 (IntKind.i64.wrap (x6 - 1)) c0 c1 c2 c5
theorem j1_eq {α : Type} (k : Nat) (next : St → Option α) (Q : Ex → St → Option α) (x4 : Bool) (x5 : Int) (x6 : Int) (c0 : List Int) (c1 : List Int) (c2 : List Int) (c5 : List Int) :
    (den C k) cd3 (lq C 21 next Q) (St4 x4 x5 x6 c0 c1 c2 c5) = j1 (fun (x4 : Bool) (x5 : Int) (x6 : Int) (c0 : List Int) (c1 : List Int) (c2 : List Int) (c5 : List Int) => next (St3 x4 x5 x6 c0 c1 c2 c5)) x4 x5 x6 c0 c1 c2 c5 := by
  have h : ∀ (D L : DT α), denJ D L Js C cd3 (lq C 21 next Q) (St4 x4 x5 x6 c0 c1 c2 c5) =
        next (St3 x4 x5 (IntKind.i64.wrap (x6 - 1)) c0 c1 c2 c5) := by
    intro D L; kernel_rfl
  refine (show (den C k) cd3 (lq C 21 next Q) (St4 x4 x5 x6 c0 c1 c2 c5) = denJ (den C k) (lp C k) Js C cd3 (lq C 21 next Q) (St4 x4 x5 x6 c0 c1 c2 c5) from (denJ_den _ _ _ _ _ _).symm).trans ((h (den C k) (lp C k)).trans ?_)
  first | rfl | kernel_rfl
def St5 (x4 : Bool) (x5 : Int) (c0 : List Int) (c1 : List Int) (c2 : List Int) (c5 : List Int) : St := stL 39 [(1, .fn 133 [] [.ref 0 0 [], .ref 1 0 [], .ref 2 0 []]), (2, .ref 5 0 []), (4, .data .bool x4), (5, .data (.int .i64) x5)] [(0, .cell (.arr 4 (.int .u64)) (.data (.arr 4 (.int .u64)) c0) false), (1, .cell (.arr 4 (.int .u64)) (.data (.arr 4 (.int .u64)) c1) false), (2, .cell (.arr 4 (.int .u64)) (.data (.arr 4 (.int .u64)) c2) false), (5, .cell (.arr 4 (.int .u64)) (.data (.arr 4 (.int .u64)) c5) false)]
def l1s {α : Type} (Nx : Bool → Int → Int → (List Int) → (List Int) → (List Int) → (List Int) → Option α) (Xt2 : Bool → Int → (List Int) → (List Int) → (List Int) → (List Int) → Option α) (x4 : Bool) (x5 : Int) (x6 : Int) (c0 : List Int) (c1 : List Int) (c2 : List Int) (c5 : List Int) : Option α :=
  if (decide (x6 ≥ 0)) = true then
    if 0 ≤ x5 ∧ x5 < (4 : Int) then
      if 0 ≤ x6 then
        if (cond x4 true ((band .u64 (shrI .u64 (List.getD c5 (Int.toNat x5) 0) x6) 1) == 1)) = true then
          (Go.Bx.field_Pow_1_s0.run ((band .u64 (shrI .u64 (List.getD c5 (Int.toNat x5) 0) x6) 1) == 1) c0 c1 c2).bind fun y1 =>
          j1 Nx (cond x4 true ((band .u64 (shrI .u64 (List.getD c5 (Int.toNat x5) 0) x6) 1) == 1)) x5 x6 y1.1 y1.2.1 y1.2.2.1 c5
        else
          j1 Nx (cond x4 true ((band .u64 (shrI .u64 (List.getD c5 (Int.toNat x5) 0) x6) 1) == 1)) x5 x6 c0 c1 c2 c5
      else none
    else none
  else
    Xt2 x4 x5 c0 c1 c2 c5
theorem l1s_eq {α : Type} (k : Nat) (next : St → Option α) (Q : Ex → St → Option α) (x4 : Bool) (x5 : Int) (x6 : Int) (c0 : List Int) (c1 : List Int) (c2 : List Int) (c5 : List Int) :
    rnd C k cd2 21 Q next (St3 x4 x5 x6 c0 c1 c2 c5) = l1s (fun (x4 : Bool) (x5 : Int) (x6 : Int) (c0 : List Int) (c1 : List Int) (c2 : List Int) (c5 : List Int) => next (St3 x4 x5 x6 c0 c1 c2 c5)) (fun (x4 : Bool) (x5 : Int) (c0 : List Int) (c1 : List Int) (c2 : List Int) (c5 : List Int) => Q (.exit 2) (St5 x4 x5 c0 c1 c2 c5)) x4 x5 x6 c0 c1 c2 c5 := by
  have h : ∀ (D L : DT α), denJ D L Js C cd2 (lq C 21 next Q) (St3 x4 x5 x6 c0 c1 c2 c5) =
        if (decide (x6 ≥ 0)) = true then
          if 0 ≤ x5 ∧ x5 < (4 : Int) then
            if 0 ≤ x6 then
              if (cond x4 true ((band .u64 (shrI .u64 (List.getD c5 (Int.toNat x5) 0) x6) 1) == 1)) = true then
                (Go.Bx.field_Pow_1_s0.run ((band .u64 (shrI .u64 (List.getD c5 (Int.toNat x5) 0) x6) 1) == 1) c0 c1 c2).bind fun y1 =>
                D cd3 (lq C 21 next Q) (St4 (cond x4 true ((band .u64 (shrI .u64 (List.getD c5 (Int.toNat x5) 0) x6) 1) == 1)) x5 x6 y1.1 y1.2.1 y1.2.2.1 c5)
              else
                D cd3 (lq C 21 next Q) (St4 (cond x4 true ((band .u64 (shrI .u64 (List.getD c5 (Int.toNat x5) 0) x6) 1) == 1)) x5 x6 c0 c1 c2 c5)
            else none
          else none
        else
          Q (.exit 2) (St5 x4 x5 c0 c1 c2 c5) := by
    intro D L; kernel_rfl
  refine (show rnd C k cd2 21 Q next (St3 x4 x5 x6 c0 c1 c2 c5) = denJ (den C k) (lp C k) Js C cd2 (lq C 21 next Q) (St3 x4 x5 x6 c0 c1 c2 c5) from (denJ_den _ _ _ _ _ _).symm).trans ((h (den C k) (lp C k)).trans ?_)
  simp only [j1_eq]
  first | rfl | kernel_rfl
def l1 {α : Type} (k : Nat) (Xt2 : Bool → Int → (List Int) → (List Int) → (List Int) → (List Int) → Option α) : Nat → Bool → Int → Int → (List Int) → (List Int) → (List Int) → (List Int) → Option α
  | 0, _, _, _, _, _, _, _ => none
  | n + 1, x4, x5, x6, c0, c1, c2, c5 => l1s (l1 k Xt2 n) Xt2 x4 x5 x6 c0 c1 c2 c5
theorem l1_eq {α : Type} (k : Nat) (Q : Ex → St → Option α) : ∀ (n : Nat) (x4 : Bool) (x5 : Int) (x6 : Int) (c0 : List Int) (c1 : List Int) (c2 : List Int) (c5 : List Int), iter (rnd C k cd2 21 Q) n (St3 x4 x5 x6 c0 c1 c2 c5) = l1 k (fun (x4 : Bool) (x5 : Int) (c0 : List Int) (c1 : List Int) (c2 : List Int) (c5 : List Int) => Q (.exit 2) (St5 x4 x5 c0 c1 c2 c5)) n x4 x5 x6 c0 c1 c2 c5
  | 0, _, _, _, _, _, _, _ => rfl
  | n + 1, x4, x5, x6, c0, c1, c2, c5 => (iter_succ _ _ _).trans ((l1s_eq k (iter (rnd C k cd2 21 Q) n) Q x4 x5 x6 c0 c1 c2 c5).trans (congrArg (fun N => l1s N (fun (x4 : Bool) (x5 : Int) (c0 : List Int) (c1 : List Int) (c2 : List Int) (c5 : List Int) => Q (.exit 2) (St5 x4 x5 c0 c1 c2 c5)) x4 x5 x6 c0 c1 c2 c5) (funext fun x4 => funext fun x5 => funext fun x6 => funext fun c0 => funext fun c1 => funext fun c2 => funext fun c5 => l1_eq k Q n x4 x5 x6 c0 c1 c2 c5)))
theorem l1_congr {α : Type} (k : Nat) (Xt2 : Bool → Int → (List Int) → (List Int) → (List Int) → (List Int) → Option α) (Xt2q : Bool → Int → (List Int) → (List Int) → (List Int) → (List Int) → Option α) (hXt2 : ∀ (x4 : Bool) (x5 : Int) (c0 : List Int) (c1 : List Int) (c2 : List Int) (c5 : List Int), Xt2 x4 x5 c0 c1 c2 c5 = Xt2q x4 x5 c0 c1 c2 c5) (n : Nat) (x4 : Bool) (x5 : Int) (x6 : Int) (c0 : List Int) (c1 : List Int) (c2 : List Int) (c5 : List Int) : l1 k Xt2 n x4 x5 x6 c0 c1 c2 c5 = l1 k Xt2q n x4 x5 x6 c0 c1 c2 c5 := by
  obtain rfl : Xt2 = Xt2q := by funext x4; funext x5; funext c0; funext c1; funext c2; funext c5; exact hXt2 x4 x5 c0 c1 c2 c5
  rfl
theorem a0 {α : Type} (k : Nat) (next : St → Option α) (Q : Ex → St → Option α) (x4 : Bool) (x5 : Int) (x6 : Int) (c0 : List Int) (c1 : List Int) (c2 : List Int) (c5 : List Int) :
    (lp C k) cd2 (blkQ C 2 (blkQ C 1 (sq (den C k) (lp C k) Js C cd1 (lq C 9 next Q)))) (St3 x4 x5 x6 c0 c1 c2 c5) = l1 k (fun (x4 : Bool) (x5 : Int) (c0 : List Int) (c1 : List Int) (c2 : List Int) (c5 : List Int) => j0 (fun (x4 : Bool) (x5 : Int) (c0 : List Int) (c1 : List Int) (c2 : List Int) (c5 : List Int) => next (St1 x4 x5 c0 c1 c2 c5)) x4 x5 c0 c1 c2 c5) k x4 x5 x6 c0 c1 c2 c5 :=
  (show (lp C k) cd2 (blkQ C 2 (blkQ C 1 (sq (den C k) (lp C k) Js C cd1 (lq C 9 next Q)))) (St3 x4 x5 x6 c0 c1 c2 c5) = iter (rnd C k cd2 21 (blkQ C 2 (blkQ C 1 (sq (den C k) (lp C k) Js C cd1 (lq C 9 next Q))))) k (St3 x4 x5 x6 c0 c1 c2 c5) by kernel_rfl).trans ((l1_eq k (blkQ C 2 (blkQ C 1 (sq (den C k) (lp C k) Js C cd1 (lq C 9 next Q)))) k x4 x5 x6 c0 c1 c2 c5).trans (l1_congr k _ _ (fun x4 x5 c0 c1 c2 c5 => ((show (blkQ C 2 (blkQ C 1 (sq (den C k) (lp C k) Js C cd1 (lq C 9 next Q)))) (.exit 2) (St5 x4 x5 c0 c1 c2 c5) = (den C k) cd1 (lq C 9 next Q) (St2 x4 x5 c0 c1 c2 c5) by kernel_rfl).trans (by simp only [j0_eq]))) k x4 x5 x6 c0 c1 c2 c5))
def St6 (c0 : List Int) (c1 : List Int) (c2 : List Int) : St := stL 39 [] [(0, .cell (.arr 4 (.int .u64)) (.data (.arr 4 (.int .u64)) c0) false), (1, .cell (.arr 4 (.int .u64)) (.data (.arr 4 (.int .u64)) c1) false), (2, .cell (.arr 4 (.int .u64)) (.data (.arr 4 (.int .u64)) c2) false)]
def l0s {α : Type} (k : Nat) (Nx : Bool → Int → (List Int) → (List Int) → (List Int) → (List Int) → Option α) (Xt0 : (List Int) → (List Int) → (List Int) → Option α) (x4 : Bool) (x5 : Int) (c0 : List Int) (c1 : List Int) (c2 : List Int) (c5 : List Int) : Option α :=
  if (decide (x5 ≥ 0)) = true then
    if 0 ≤ x5 ∧ x5 < (4 : Int) then
      if (cond ((List.getD c5 (Int.toNat x5) 0) == 0) (not x4) false) = true then
        j0 Nx x4 x5 c0 c1 c2 c5
      else
        l1 k (fun (x4 : Bool) (x5 : Int) (c0 : List Int) (c1 : List Int) (c2 : List Int) (c5 : List Int) => j0 Nx x4 x5 c0 c1 c2 c5) k x4 x5 63 c0 c1 c2 c5
    else none
  else
    Xt0 c0 c1 c2
theorem l0s_eq {α : Type} (k : Nat) (next : St → Option α) (Q : Ex → St → Option α) (x4 : Bool) (x5 : Int) (c0 : List Int) (c1 : List Int) (c2 : List Int) (c5 : List Int) :
    rnd C k cd0 9 Q next (St1 x4 x5 c0 c1 c2 c5) = l0s k (fun (x4 : Bool) (x5 : Int) (c0 : List Int) (c1 : List Int) (c2 : List Int) (c5 : List Int) => next (St1 x4 x5 c0 c1 c2 c5)) (fun (c0 : List Int) (c1 : List Int) (c2 : List Int) => Q (.exit 0) (St6 c0 c1 c2)) x4 x5 c0 c1 c2 c5 := by
  have h : ∀ (D L : DT α), denJ D L Js C cd0 (lq C 9 next Q) (St1 x4 x5 c0 c1 c2 c5) =
        if (decide (x5 ≥ 0)) = true then
          if 0 ≤ x5 ∧ x5 < (4 : Int) then
            if (cond ((List.getD c5 (Int.toNat x5) 0) == 0) (not x4) false) = true then
              D cd1 (lq C 9 next Q) (St2 x4 x5 c0 c1 c2 c5)
            else
              L cd2 (blkQ C 2 (blkQ C 1 (sq D L Js C cd1 (lq C 9 next Q)))) (St3 x4 x5 63 c0 c1 c2 c5)
          else none
        else
          Q (.exit 0) (St6 c0 c1 c2) := by
    intro D L; kernel_rfl
  refine (show rnd C k cd0 9 Q next (St1 x4 x5 c0 c1 c2 c5) = denJ (den C k) (lp C k) Js C cd0 (lq C 9 next Q) (St1 x4 x5 c0 c1 c2 c5) from (denJ_den _ _ _ _ _ _).symm).trans ((h (den C k) (lp C k)).trans ?_)
  simp only [j0_eq, a0]
  first | rfl | kernel_rfl
def l0 {α : Type} (k : Nat) (Xt0 : (List Int) → (List Int) → (List Int) → Option α) : Nat → Bool → Int → (List Int) → (List Int) → (List Int) → (List Int) → Option α
  | 0, _, _, _, _, _, _ => none
  | n + 1, x4, x5, c0, c1, c2, c5 => l0s k (l0 k Xt0 n) Xt0 x4 x5 c0 c1 c2 c5
theorem l0_eq {α : Type} (k : Nat) (Q : Ex → St → Option α) : ∀ (n : Nat) (x4 : Bool) (x5 : Int) (c0 : List Int) (c1 : List Int) (c2 : List Int) (c5 : List Int), iter (rnd C k cd0 9 Q) n (St1 x4 x5 c0 c1 c2 c5) = l0 k (fun (c0 : List Int) (c1 : List Int) (c2 : List Int) => Q (.exit 0) (St6 c0 c1 c2)) n x4 x5 c0 c1 c2 c5
  | 0, _, _, _, _, _, _ => rfl
  | n + 1, x4, x5, c0, c1, c2, c5 => (iter_succ _ _ _).trans ((l0s_eq k (iter (rnd C k cd0 9 Q) n) Q x4 x5 c0 c1 c2 c5).trans (congrArg (fun N => l0s k N (fun (c0 : List Int) (c1 : List Int) (c2 : List Int) => Q (.exit 0) (St6 c0 c1 c2)) x4 x5 c0 c1 c2 c5) (funext fun x4 => funext fun x5 => funext fun c0 => funext fun c1 => funext fun c2 => funext fun c5 => l0_eq k Q n x4 x5 c0 c1 c2 c5)))
theorem l0_congr {α : Type} (k : Nat) (Xt0 : (List Int) → (List Int) → (List Int) → Option α) (Xt0q : (List Int) → (List Int) → (List Int) → Option α) (hXt0 : ∀ (c0 : List Int) (c1 : List Int) (c2 : List Int), Xt0 c0 c1 c2 = Xt0q c0 c1 c2) (n : Nat) (x4 : Bool) (x5 : Int) (c0 : List Int) (c1 : List Int) (c2 : List Int) (c5 : List Int) : l0 k Xt0 n x4 x5 c0 c1 c2 c5 = l0 k Xt0q n x4 x5 c0 c1 c2 c5 := by
  obtain rfl : Xt0 = Xt0q := by funext c0; funext c1; funext c2; exact hXt0 c0 c1 c2
  rfl
def St7 (c0 : List Int) (c1 : List Int) (c2 : List Int) : St := stL 39 [] [(0, .cell (.arr 4 (.int .u64)) (.data (.arr 4 (.int .u64)) c0) false), (1, .cell (.arr 4 (.int .u64)) (.data (.arr 4 (.int .u64)) c1) false), (2, .cell (.arr 4 (.int .u64)) (.data (.arr 4 (.int .u64)) c2) false)]
theorem a1 {α : Type} (k : Nat) (Q : Ex → St → Option α) (x4 : Bool) (x5 : Int) (c0 : List Int) (c1 : List Int) (c2 : List Int) (c5 : List Int) :
    (lp C k) cd0 (blkQ C 0 (endQ C Q)) (St1 x4 x5 c0 c1 c2 c5) = l0 k (fun (c0 : List Int) (c1 : List Int) (c2 : List Int) => (fun (c0 : List Int) (c1 : List Int) (c2 : List Int) => Q .ret (St7 c0 c1 c2)) c0 c1 c2) k x4 x5 c0 c1 c2 c5 :=
  (show (lp C k) cd0 (blkQ C 0 (endQ C Q)) (St1 x4 x5 c0 c1 c2 c5) = iter (rnd C k cd0 9 (blkQ C 0 (endQ C Q))) k (St1 x4 x5 c0 c1 c2 c5) by kernel_rfl).trans ((l0_eq k (blkQ C 0 (endQ C Q)) k x4 x5 c0 c1 c2 c5).trans (l0_congr k _ _ (fun c0 c1 c2 => (show (blkQ C 0 (endQ C Q)) (.exit 0) (St6 c0 c1 c2) = Q .ret (St7 c0 c1 c2) by kernel_rfl)) k x4 x5 c0 c1 c2 c5))
def top {α : Type} (k : Nat) (Rt : (List Int) → (List Int) → (List Int) → Option α) (x0 : List Int) (c0 : List Int) (c1 : List Int) (c2 : List Int) : Option α :=
  l0 k (fun (c0 : List Int) (c1 : List Int) (c2 : List Int) => Rt c0 c1 c2) k false 3 c0 c1 c2 x0
theorem top_eq {α : Type} (k : Nat) (Q : Ex → St → Option α) (x0 : List Int) (c0 : List Int) (c1 : List Int) (c2 : List Int) :
    (den C k) (cB Try.f132) (endQ C Q) (St0 x0 c0 c1 c2) = top k (fun (c0 : List Int) (c1 : List Int) (c2 : List Int) => Q .ret (St7 c0 c1 c2)) x0 c0 c1 c2 := by
  have h : ∀ (D L : DT α), denJ D L Js C (cB Try.f132) (endQ C Q) (St0 x0 c0 c1 c2) =
        L cd0 (blkQ C 0 (endQ C Q)) (St1 false 3 c0 c1 c2 x0) := by
    intro D L; kernel_rfl
  refine (show (den C k) (cB Try.f132) (endQ C Q) (St0 x0 c0 c1 c2) = denJ (den C k) (lp C k) Js C (cB Try.f132) (endQ C Q) (St0 x0 c0 c1 c2) from (denJ_den _ _ _ _ _ _).symm).trans ((h (den C k) (lp C k)).trans ?_)
  simp only [a1]
  first | rfl | kernel_rfl
def run (x0 : List Int) (c0 : List Int) (c1 : List Int) (c2 : List Int) : Option (List Int × List Int × List Int × Unit) := top (α := List Int × List Int × List Int × Unit) fuel (fun (c0 : List Int) (c1 : List Int) (c2 : List Int) => some (c0, c1, c2, ())) x0 c0 c1 c2
def Sp : Spec := ⟨[hD (.arr 4 (.int .u64)), .fn 133 [] [.ref 0 0 [], .ref 1 0 [], .ref 2 0 []]], [(0, hC (.arr 4 (.int .u64)) (hD (.arr 4 (.int .u64))) false), (1, hC (.arr 4 (.int .u64)) (hD (.arr 4 (.int .u64))) false), (2, hC (.arr 4 (.int .u64)) (hD (.arr 4 (.int .u64))) false)], (.pair (.arr 4 (.int .u64)) (.pair (.arr 4 (.int .u64)) (.pair (.arr 4 (.int .u64)) (.pair (.arr 4 (.int .u64)) .unit)))), .tup [], [(0, hC (.arr 4 (.int .u64)) (hD (.arr 4 (.int .u64))) false), (1, hC (.arr 4 (.int .u64)) (hD (.arr 4 (.int .u64))) false), (2, hC (.arr 4 (.int .u64)) (hD (.arr 4 (.int .u64))) false)], (.pair (.arr 4 (.int .u64)) (.pair (.arr 4 (.int .u64)) (.pair (.arr 4 (.int .u64)) .unit))), fun x => run x.1 x.2.1 x.2.2.1 x.2.2.2.1⟩
set_option maxRecDepth 100000 in
theorem sok : SOk Try.prog 132 Sp.h := by
  refine sok_of_den (C := C) (ctx_ok_sh (by kernel_rfl) (by kernel_rfl) (by kernel_rfl) (by kernel_rfl) trivial ⟨⟨⟨Go.Bx.field_Pow_1_s0.sok, trivial⟩, Go.Bx.field_Pow_1_s0.named⟩, trivial⟩) (by kernel_rfl) Try.func132 (c := cB Try.f132) (by kernel_rfl) (by kernel_rfl) Sp fuel (by kernel_rfl) (by kernel_rfl) ?_
  intro x r h
  rw [← h]
  have h1 : Sp.start x Try.f132.ntmps = (St0 x.1 x.2.1 x.2.2.1 x.2.2.2.1) := by kernel_rfl
  rw [h1]
  refine (top_eq fuel (finS C Try.f132.results.toList Sp.read) x.1 x.2.1 x.2.2.1 x.2.2.2.1).trans ?_
  kernel_rfl
theorem named : Named Try.prog 132 := named_of Try.func132 (by kernel_rfl) (by kernel_rfl)
end Go.Bx.field_bits_s1
namespace Go.Bx.field_by_s0
open Go Go.Proofs Go.Bx
set_option maxRecDepth 100000
set_option linter.unusedVariables false
def Js : List Nat := []
def C : Ctx := ⟨[(45, (.arr 4 (.int .u64))), (198, (.sl (.arr 4 (.int .u64))))], [], [], fnL [(130, Go.Bx.field_mul.F), (131, Go.Bx.field_fault.F)], noSh, [], invL [], [(2, [8, 9])], [], [], 0, 0⟩
def St0 (x1 : List Int) (x2 : List Int) (x3 : List Int) : St := stL 25 [(0, .fn 130 [] []), (1, .data (.arr 4 (.int .u64)) x1), (2, .data (.arr 4 (.int .u64)) x2), (3, .data (.arr 4 (.int .u64)) x3)] []
def St1 (x9 : Int) (c8 : List Int) : St := stL 25 [(8, .ref 8 0 []), (9, .data (.int .i64) x9)] [(8, .cell (.arr 4 (.int .u64)) (.data (.arr 4 (.int .u64)) c8) false)]
def top {α : Type} (Rt : Int → (List Int) → Option α) (x1 : List Int) (x2 : List Int) (x3 : List Int) : Option α :=
  (Go.Bx.field_fault.run x3 [x1, x2]).bind fun y1 =>
  if (y1 != 0) = true then
    Rt y1 [0, 0, 0, 0]
  else
    (Go.Bx.field_mul.run x1 x2 x3).bind fun y2 =>
    Rt 0 y2
theorem top_eq {α : Type} (k : Nat) (Q : Ex → St → Option α) (x1 : List Int) (x2 : List Int) (x3 : List Int) :
    (den C k) (cB Try.f126) (endQ C Q) (St0 x1 x2 x3) = top (fun (x9 : Int) (c8 : List Int) => Q .ret (St1 x9 c8)) x1 x2 x3 := by
  have h : ∀ (D L : DT α), denJ D L Js C (cB Try.f126) (endQ C Q) (St0 x1 x2 x3) =
        (Go.Bx.field_fault.run x3 [x1, x2]).bind fun y1 =>
        if (y1 != 0) = true then
          Q .ret (St1 y1 [0, 0, 0, 0])
        else
          (Go.Bx.field_mul.run x1 x2 x3).bind fun y2 =>
          Q .ret (St1 0 y2) := by
    intro D L; kernel_rfl
  refine (show (den C k) (cB Try.f126) (endQ C Q) (St0 x1 x2 x3) = denJ (den C k) (lp C k) Js C (cB Try.f126) (endQ C Q) (St0 x1 x2 x3) from (denJ_den _ _ _ _ _ _).symm).trans ((h (den C k) (lp C k)).trans ?_)
  first | rfl | kernel_rfl
def run (x1 : List Int) (x2 : List Int) (x3 : List Int) : Option (List Int × Int × List Int × Unit) := top (α := List Int × Int × List Int × Unit) (fun (x9 : Int) (c8 : List Int) => some (c8, x9, c8, ())) x1 x2 x3
def Sp : Spec := ⟨[.fn 130 [] [], hD (.arr 4 (.int .u64)), hD (.arr 4 (.int .u64)), hD (.arr 4 (.int .u64))], [], (.pair (.arr 4 (.int .u64)) (.pair (.arr 4 (.int .u64)) (.pair (.arr 4 (.int .u64)) .unit))), .tup [hD (.arr 4 (.int .u64)), hD (.int .i64)], [(8, hC (.arr 4 (.int .u64)) (hD (.arr 4 (.int .u64))) false)], (.pair (.arr 4 (.int .u64)) (.pair (.int .i64) (.pair (.arr 4 (.int .u64)) .unit))), fun x => run x.1 x.2.1 x.2.2.1⟩
set_option maxRecDepth 100000 in
theorem sok : SOk Try.prog 126 Sp.h := by
  refine sok_of_den (C := C) (ctx_ok (by kernel_rfl) (by kernel_rfl) (by kernel_rfl) (by kernel_rfl) ⟨.inl ⟨Go.Bx.field_mul.con, Go.Bx.field_mul.named⟩, ⟨.inl ⟨Go.Bx.field_fault.con, Go.Bx.field_fault.named⟩, trivial⟩⟩) (by kernel_rfl) Try.func126 (c := cB Try.f126) (by kernel_rfl) (by kernel_rfl) Sp fuel (by kernel_rfl) (by kernel_rfl) ?_
  intro x r h
  rw [← h]
  have h1 : Sp.start x Try.f126.ntmps = (St0 x.1 x.2.1 x.2.2.1) := by kernel_rfl
  rw [h1]
  refine (top_eq fuel (finS C Try.f126.results.toList Sp.read) x.1 x.2.1 x.2.2.1).trans ?_
  kernel_rfl
theorem named : Named Try.prog 126 := named_of Try.func126 (by kernel_rfl) (by kernel_rfl)
end Go.Bx.field_by_s0
namespace Go.Bx.field_Mul
open Go Go.Proofs Go.Bx
set_option maxRecDepth 100000
set_option linter.unusedVariables false
def Js : List Nat := []
def C : Ctx := ⟨[(31, (.int .i64)), (45, (.arr 4 (.int .u64)))], [], [], fnL [], shL [(126, [.one Go.Bx.field_by_s0.Sp])], [(11, 15)], invL [], [(2, [6, 7])], [], [], 0, 0⟩
def St0 (x0 : List Int) (x1 : List Int) (x2 : List Int) : St := stL 14 [(0, .data (.arr 4 (.int .u64)) x0), (1, .data (.arr 4 (.int .u64)) x1), (2, .data (.arr 4 (.int .u64)) x2)] []
def St1 (x7 : Int) (c6 : List Int) : St := stL 14 [(6, .ref 6 0 []), (7, .data (.int .i64) x7)] [(6, .cell (.arr 4 (.int .u64)) (.data (.arr 4 (.int .u64)) c6) false)]
def top {α : Type} (Rt : Int → (List Int) → Option α) (x0 : List Int) (x1 : List Int) (x2 : List Int) : Option α :=
  (Go.Bx.field_by_s0.run x0 x1 x2).bind fun y1 =>
  Rt y1.2.1 y1.1
theorem top_eq {α : Type} (k : Nat) (Q : Ex → St → Option α) (x0 : List Int) (x1 : List Int) (x2 : List Int) :
    (den C k) (cB Try.f55) Q (St0 x0 x1 x2) = top (fun (x7 : Int) (c6 : List Int) => Q .ret (St1 x7 c6)) x0 x1 x2 := by
  have h : ∀ (D L : DT α), denJ D L Js C (cB Try.f55) Q (St0 x0 x1 x2) =
        (Go.Bx.field_by_s0.run x0 x1 x2).bind fun y1 =>
        Q .ret (St1 y1.2.1 y1.1) := by
    intro D L; kernel_rfl
  refine (show (den C k) (cB Try.f55) Q (St0 x0 x1 x2) = denJ (den C k) (lp C k) Js C (cB Try.f55) Q (St0 x0 x1 x2) from (denJ_den _ _ _ _ _ _).symm).trans ((h (den C k) (lp C k)).trans ?_)
  first | rfl | kernel_rfl
def run (x0 : List Int) (x1 : List Int) (x2 : List Int) : Option (List Int × Int × Unit) := top (α := List Int × Int × Unit) (fun (x7 : Int) (c6 : List Int) => some (c6, x7, ())) x0 x1 x2
def F : Fn := ⟨(.pair (.arr 4 (.int .u64)) (.pair (.arr 4 (.int .u64)) (.pair (.arr 4 (.int .u64)) .unit))), (.pair (.arr 4 (.int .u64)) (.pair (.int .i64) .unit)), true, fun x => run x.1 x.2.1 x.2.2.1⟩
set_option maxRecDepth 100000 in
theorem con : Con Try.prog 55 F := by
  refine con_of_den (C := C) (ctx_ok_sh (by kernel_rfl) (by kernel_rfl) (by kernel_rfl) (by kernel_rfl) trivial ⟨⟨⟨Go.Bx.field_by_s0.sok, trivial⟩, Go.Bx.field_by_s0.named⟩, trivial⟩) (by kernel_rfl) Try.func55 (c := cB Try.f55) (by kernel_rfl) (by kernel_rfl) F fuel (fun x => by simp [F, spread, Try.ntmps55]) ?_
  intro x r h
  rw [← h]
  have h1 : start F Try.f55.ntmps x = (St0 x.1 x.2.1 x.2.2.1) := by kernel_rfl
  rw [h1]
  refine (top_eq fuel (fin C Try.f55.results.toList F.rs F.multi) x.1 x.2.1 x.2.2.1).trans ?_
  kernel_rfl
theorem named : Named Try.prog 55 := named_of Try.func55 (by kernel_rfl) (by kernel_rfl)
end Go.Bx.field_Mul
namespace Go.Bx.curve_ring__take_s1
open Go Go.Proofs Go.Bx
set_option maxRecDepth 100000
set_option linter.unusedVariables false
def Js : List Nat := [4]
def C : Ctx := ⟨[(4, .bool), (45, (.arr 4 (.int .u64))), (117, .opq), (119, (.pair (.arr 4 (.int .u64)) (.pair .opq .unit)))], [], [], fnL [], noSh, [], invL [], [(2, [6]), (9, [4, 6])], [], [], 1, 0⟩
def St0 (x0p0 : List Int) (x1 : List Int) (x2 : Int) (c0 : Bool) : St := stL 13 [(0, .agg (.pair (.arr 4 (.int .u64)) (.pair .opq .unit)) [.data (.arr 4 (.int .u64)) x0p0, .ref 0 0 []]), (1, .data (.arr 4 (.int .u64)) x1), (2, .data (.int .i64) x2)] [(0, .cell .bool (.data .bool c0) false)]
def St1 (c0 : Bool) (c5 : List Int) (c7 : List Int) : St := stL 13 [(4, .ref 5 0 []), (6, .ref 7 0 [])] [(0, .cell .bool (.data .bool c0) false), (5, .cell (.arr 4 (.int .u64)) (.data (.arr 4 (.int .u64)) c5) false), (7, .cell (.arr 4 (.int .u64)) (.data (.arr 4 (.int .u64)) c7) false)]
noncomputable def cd0 : Code := cR (cR (cB Try.f104))
def St2 (c0 : Bool) (c7 : List Int) : St := stL 13 [(6, .ref 7 0 [])] [(0, .cell .bool (.data .bool c0) false), (7, .cell (.arr 4 (.int .u64)) (.data (.arr 4 (.int .u64)) c7) false)]
def j0 {α : Type} (Rt : Bool → (List Int) → Option α) (c0 : Bool) (c5 : List Int) (c7 : List Int) : Option α :=
  Rt c0 c5
theorem j0_eq {α : Type} (k : Nat) (Q : Ex → St → Option α) (c0 : Bool) (c5 : List Int) (c7 : List Int) :
    (den C k) cd0 (endQ C Q) (St1 c0 c5 c7) = j0 (fun (c0 : Bool) (c7 : List Int) => Q .ret (St2 c0 c7)) c0 c5 c7 := by
  have h : ∀ (D L : DT α), denJ D L Js C cd0 (endQ C Q) (St1 c0 c5 c7) =
        Q .ret (St2 c0 c5) := by
    intro D L; kernel_rfl
  refine (show (den C k) cd0 (endQ C Q) (St1 c0 c5 c7) = denJ (den C k) (lp C k) Js C cd0 (endQ C Q) (St1 c0 c5 c7) from (denJ_den _ _ _ _ _ _).symm).trans ((h (den C k) (lp C k)).trans ?_)
  first | rfl | kernel_rfl
def top {α : Type} (Rt : Bool → (List Int) → Option α) (x0p0 : List Int) (x1 : List Int) (x2 : Int) (c0 : Bool) : Option α :=
  if (x2 != 0) = true then
    j0 Rt true x1 [0, 0, 0, 0]
  else
    j0 Rt c0 x1 [0, 0, 0, 0]
theorem top_eq {α : Type} (k : Nat) (Q : Ex → St → Option α) (x0p0 : List Int) (x1 : List Int) (x2 : Int) (c0 : Bool) :
    (den C k) (cB Try.f104) (endQ C Q) (St0 x0p0 x1 x2 c0) = top (fun (c0 : Bool) (c7 : List Int) => Q .ret (St2 c0 c7)) x0p0 x1 x2 c0 := by
  have h : ∀ (D L : DT α), denJ D L Js C (cB Try.f104) (endQ C Q) (St0 x0p0 x1 x2 c0) =
        if (x2 != 0) = true then
          D cd0 (endQ C Q) (St1 true x1 [0, 0, 0, 0])
        else
          D cd0 (endQ C Q) (St1 c0 x1 [0, 0, 0, 0]) := by
    intro D L; kernel_rfl
  refine (show (den C k) (cB Try.f104) (endQ C Q) (St0 x0p0 x1 x2 c0) = denJ (den C k) (lp C k) Js C (cB Try.f104) (endQ C Q) (St0 x0p0 x1 x2 c0) from (denJ_den _ _ _ _ _ _).symm).trans ((h (den C k) (lp C k)).trans ?_)
  simp only [j0_eq]
  first | rfl | kernel_rfl
def run (x0p0 : List Int) (x1 : List Int) (x2 : Int) (c0 : Bool) : Option (List Int × Bool × List Int × Unit) := top (α := List Int × Bool × List Int × Unit) (fun (c0 : Bool) (c7 : List Int) => some (c7, c0, c7, ())) x0p0 x1 x2 c0
def Sp : Spec := ⟨[.agg (.pair (.arr 4 (.int .u64)) (.pair .opq .unit)) [hD (.arr 4 (.int .u64)), .ref 0 0 []], hD (.arr 4 (.int .u64)), hD (.int .i64)], [(0, hC .bool (hD .bool) false)], (.pair (.arr 4 (.int .u64)) (.pair (.arr 4 (.int .u64)) (.pair (.int .i64) (.pair .bool .unit)))), hD (.arr 4 (.int .u64)), [(0, hC .bool (hD .bool) false), (7, hC (.arr 4 (.int .u64)) (hD (.arr 4 (.int .u64))) false)], (.pair (.arr 4 (.int .u64)) (.pair .bool (.pair (.arr 4 (.int .u64)) .unit))), fun x => run x.1 x.2.1 x.2.2.1 x.2.2.2.1⟩
set_option maxRecDepth 100000 in
theorem sok : SOk Try.prog 104 Sp.h := by
  refine sok_of_den (C := C) (ctx_ok (by kernel_rfl) (by kernel_rfl) (by kernel_rfl) (by kernel_rfl) trivial) (by kernel_rfl) Try.func104 (c := cB Try.f104) (by kernel_rfl) (by kernel_rfl) Sp fuel (by kernel_rfl) (by kernel_rfl) ?_
  intro x r h
  rw [← h]
  have h1 : Sp.start x Try.f104.ntmps = (St0 x.1 x.2.1 x.2.2.1 x.2.2.2.1) := by kernel_rfl
  rw [h1]
  refine (top_eq fuel (finS C Try.f104.results.toList Sp.read) x.1 x.2.1 x.2.2.1 x.2.2.2.1).trans ?_
  kernel_rfl
theorem named : Named Try.prog 104 := named_of Try.func104 (by kernel_rfl) (by kernel_rfl)
end Go.Bx.curve_ring__take_s1
namespace Go.Bx.curve_ring__mul_s1
open Go Go.Proofs Go.Bx
set_option maxRecDepth 100000
set_option linter.unusedVariables false
def Js : List Nat := []
def C : Ctx := ⟨[(45, (.arr 4 (.int .u64))), (119, (.pair (.arr 4 (.int .u64)) (.pair .opq .unit)))], [], [], fnL [(55, Go.Bx.field_Mul.F)], shL [(104, [.one Go.Bx.curve_ring__take_s1.Sp])], [(15, 17)], invL [], [(2, [6])], [], [], 1, 0⟩
def St0 (x0p0 : List Int) (x1 : List Int) (x2 : List Int) (c0 : Bool) : St := stL 16 [(0, .agg (.pair (.arr 4 (.int .u64)) (.pair .opq .unit)) [.data (.arr 4 (.int .u64)) x0p0, .ref 0 0 []]), (1, .data (.arr 4 (.int .u64)) x1), (2, .data (.arr 4 (.int .u64)) x2)] [(0, .cell .bool (.data .bool c0) false)]
def St1 (c0 : Bool) (c7 : List Int) : St := stL 16 [(6, .ref 7 0 [])] [(0, .cell .bool (.data .bool c0) false), (7, .cell (.arr 4 (.int .u64)) (.data (.arr 4 (.int .u64)) c7) false)]
def top {α : Type} (Rt : Bool → (List Int) → Option α) (x0p0 : List Int) (x1 : List Int) (x2 : List Int) (c0 : Bool) : Option α :=
  (Go.Bx.field_Mul.run x1 x2 x0p0).bind fun y1 =>
  (Go.Bx.curve_ring__take_s1.run x0p0 y1.1 y1.2.1 c0).bind fun y2 =>
  Rt y2.2.1 y2.1
theorem top_eq {α : Type} (k : Nat) (Q : Ex → St → Option α) (x0p0 : List Int) (x1 : List Int) (x2 : List Int) (c0 : Bool) :
    (den C k) (cB Try.f90) (endQ C Q) (St0 x0p0 x1 x2 c0) = top (fun (c0 : Bool) (c7 : List Int) => Q .ret (St1 c0 c7)) x0p0 x1 x2 c0 := by
  have h : ∀ (D L : DT α), denJ D L Js C (cB Try.f90) (endQ C Q) (St0 x0p0 x1 x2 c0) =
        (Go.Bx.field_Mul.run x1 x2 x0p0).bind fun y1 =>
        (Go.Bx.curve_ring__take_s1.run x0p0 y1.1 y1.2.1 c0).bind fun y2 =>
        Q .ret (St1 y2.2.1 y2.1) := by
    intro D L; kernel_rfl
  refine (show (den C k) (cB Try.f90) (endQ C Q) (St0 x0p0 x1 x2 c0) = denJ (den C k) (lp C k) Js C (cB Try.f90) (endQ C Q) (St0 x0p0 x1 x2 c0) from (denJ_den _ _ _ _ _ _).symm).trans ((h (den C k) (lp C k)).trans ?_)
  first | rfl | kernel_rfl
def run (x0p0 : List Int) (x1 : List Int) (x2 : List Int) (c0 : Bool) : Option (List Int × Bool × List Int × Unit) := top (α := List Int × Bool × List Int × Unit) (fun (c0 : Bool) (c7 : List Int) => some (c7, c0, c7, ())) x0p0 x1 x2 c0
def Sp : Spec := ⟨[.agg (.pair (.arr 4 (.int .u64)) (.pair .opq .unit)) [hD (.arr 4 (.int .u64)), .ref 0 0 []], hD (.arr 4 (.int .u64)), hD (.arr 4 (.int .u64))], [(0, hC .bool (hD .bool) false)], (.pair (.arr 4 (.int .u64)) (.pair (.arr 4 (.int .u64)) (.pair (.arr 4 (.int .u64)) (.pair .bool .unit)))), hD (.arr 4 (.int .u64)), [(0, hC .bool (hD .bool) false), (7, hC (.arr 4 (.int .u64)) (hD (.arr 4 (.int .u64))) false)], (.pair (.arr 4 (.int .u64)) (.pair .bool (.pair (.arr 4 (.int .u64)) .unit))), fun x => run x.1 x.2.1 x.2.2.1 x.2.2.2.1⟩
set_option maxRecDepth 100000 in
theorem sok : SOk Try.prog 90 Sp.h := by
  refine sok_of_den (C := C) (ctx_ok_sh (by kernel_rfl) (by kernel_rfl) (by kernel_rfl) (by kernel_rfl) ⟨.inl ⟨Go.Bx.field_Mul.con, Go.Bx.field_Mul.named⟩, trivial⟩ ⟨⟨⟨Go.Bx.curve_ring__take_s1.sok, trivial⟩, Go.Bx.curve_ring__take_s1.named⟩, trivial⟩) (by kernel_rfl) Try.func90 (c := cB Try.f90) (by kernel_rfl) (by kernel_rfl) Sp fuel (by kernel_rfl) (by kernel_rfl) ?_
  intro x r h
  rw [← h]
  have h1 : Sp.start x Try.f90.ntmps = (St0 x.1 x.2.1 x.2.2.1 x.2.2.2.1) := by kernel_rfl
  rw [h1]
  refine (top_eq fuel (finS C Try.f90.results.toList Sp.read) x.1 x.2.1 x.2.2.1 x.2.2.2.1).trans ?_
  kernel_rfl
theorem named : Named Try.prog 90 := named_of Try.func90 (by kernel_rfl) (by kernel_rfl)
end Go.Bx.curve_ring__mul_s1
namespace Go.Bx.field_by_s1
open Go Go.Proofs Go.Bx
set_option maxRecDepth 100000
set_option linter.unusedVariables false
def Js : List Nat := []
def C : Ctx := ⟨[(45, (.arr 4 (.int .u64))), (198, (.sl (.arr 4 (.int .u64))))], [], [], fnL [(127, Go.Bx.field_add.F), (131, Go.Bx.field_fault.F)], noSh, [], invL [], [(2, [8, 9])], [], [], 0, 0⟩
def St0 (x1 : List Int) (x2 : List Int) (x3 : List Int) : St := stL 25 [(0, .fn 127 [] []), (1, .data (.arr 4 (.int .u64)) x1), (2, .data (.arr 4 (.int .u64)) x2), (3, .data (.arr 4 (.int .u64)) x3)] []
def St1 (x9 : Int) (c8 : List Int) : St := stL 25 [(8, .ref 8 0 []), (9, .data (.int .i64) x9)] [(8, .cell (.arr 4 (.int .u64)) (.data (.arr 4 (.int .u64)) c8) false)]
def top {α : Type} (Rt : Int → (List Int) → Option α) (x1 : List Int) (x2 : List Int) (x3 : List Int) : Option α :=
  (Go.Bx.field_fault.run x3 [x1, x2]).bind fun y1 =>
  if (y1 != 0) = true then
    Rt y1 [0, 0, 0, 0]
  else
    (Go.Bx.field_add.run x1 x2 x3).bind fun y2 =>
    Rt 0 y2
theorem top_eq {α : Type} (k : Nat) (Q : Ex → St → Option α) (x1 : List Int) (x2 : List Int) (x3 : List Int) :
    (den C k) (cB Try.f126) (endQ C Q) (St0 x1 x2 x3) = top (fun (x9 : Int) (c8 : List Int) => Q .ret (St1 x9 c8)) x1 x2 x3 := by
  have h : ∀ (D L : DT α), denJ D L Js C (cB Try.f126) (endQ C Q) (St0 x1 x2 x3) =
        (Go.Bx.field_fault.run x3 [x1, x2]).bind fun y1 =>
        if (y1 != 0) = true then
          Q .ret (St1 y1 [0, 0, 0, 0])
        else
          (Go.Bx.field_add.run x1 x2 x3).bind fun y2 =>
          Q .ret (St1 0 y2) := by
    intro D L; kernel_rfl
  refine (show (den C k) (cB Try.f126) (endQ C Q) (St0 x1 x2 x3) = denJ (den C k) (lp C k) Js C (cB Try.f126) (endQ C Q) (St0 x1 x2 x3) from (denJ_den _ _ _ _ _ _).symm).trans ((h (den C k) (lp C k)).trans ?_)
  first | rfl | kernel_rfl
def run (x1 : List Int) (x2 : List Int) (x3 : List Int) : Option (List Int × Int × List Int × Unit) := top (α := List Int × Int × List Int × Unit) (fun (x9 : Int) (c8 : List Int) => some (c8, x9, c8, ())) x1 x2 x3
def Sp : Spec := ⟨[.fn 127 [] [], hD (.arr 4 (.int .u64)), hD (.arr 4 (.int .u64)), hD (.arr 4 (.int .u64))], [], (.pair (.arr 4 (.int .u64)) (.pair (.arr 4 (.int .u64)) (.pair (.arr 4 (.int .u64)) .unit))), .tup [hD (.arr 4 (.int .u64)), hD (.int .i64)], [(8, hC (.arr 4 (.int .u64)) (hD (.arr 4 (.int .u64))) false)], (.pair (.arr 4 (.int .u64)) (.pair (.int .i64) (.pair (.arr 4 (.int .u64)) .unit))), fun x => run x.1 x.2.1 x.2.2.1⟩
set_option maxRecDepth 100000 in
theorem sok : SOk Try.prog 126 Sp.h := by
  refine sok_of_den (C := C) (ctx_ok (by kernel_rfl) (by kernel_rfl) (by kernel_rfl) (by kernel_rfl) ⟨.inl ⟨Go.Bx.field_add.con, Go.Bx.field_add.named⟩, ⟨.inl ⟨Go.Bx.field_fault.con, Go.Bx.field_fault.named⟩, trivial⟩⟩) (by kernel_rfl) Try.func126 (c := cB Try.f126) (by kernel_rfl) (by kernel_rfl) Sp fuel (by kernel_rfl) (by kernel_rfl) ?_
  intro x r h
  rw [← h]
  have h1 : Sp.start x Try.f126.ntmps = (St0 x.1 x.2.1 x.2.2.1) := by kernel_rfl
  rw [h1]
  refine (top_eq fuel (finS C Try.f126.results.toList Sp.read) x.1 x.2.1 x.2.2.1).trans ?_
  kernel_rfl
theorem named : Named Try.prog 126 := named_of Try.func126 (by kernel_rfl) (by kernel_rfl)
end Go.Bx.field_by_s1
namespace Go.Bx.field_Add
open Go Go.Proofs Go.Bx
set_option maxRecDepth 100000
set_option linter.unusedVariables false
def Js : List Nat := []
def C : Ctx := ⟨[(31, (.int .i64)), (45, (.arr 4 (.int .u64)))], [], [], fnL [], shL [(126, [.one Go.Bx.field_by_s1.Sp])], [(11, 15)], invL [], [(2, [6, 7])], [], [], 0, 0⟩
def St0 (x0 : List Int) (x1 : List Int) (x2 : List Int) : St := stL 14 [(0, .data (.arr 4 (.int .u64)) x0), (1, .data (.arr 4 (.int .u64)) x1), (2, .data (.arr 4 (.int .u64)) x2)] []
def St1 (x7 : Int) (c6 : List Int) : St := stL 14 [(6, .ref 6 0 []), (7, .data (.int .i64) x7)] [(6, .cell (.arr 4 (.int .u64)) (.data (.arr 4 (.int .u64)) c6) false)]
def top {α : Type} (Rt : Int → (List Int) → Option α) (x0 : List Int) (x1 : List Int) (x2 : List Int) : Option α :=
  (Go.Bx.field_by_s1.run x0 x1 x2).bind fun y1 =>
  Rt y1.2.1 y1.1
theorem top_eq {α : Type} (k : Nat) (Q : Ex → St → Option α) (x0 : List Int) (x1 : List Int) (x2 : List Int) :
    (den C k) (cB Try.f52) Q (St0 x0 x1 x2) = top (fun (x7 : Int) (c6 : List Int) => Q .ret (St1 x7 c6)) x0 x1 x2 := by
  have h : ∀ (D L : DT α), denJ D L Js C (cB Try.f52) Q (St0 x0 x1 x2) =
        (Go.Bx.field_by_s1.run x0 x1 x2).bind fun y1 =>
        Q .ret (St1 y1.2.1 y1.1) := by
    intro D L; kernel_rfl
  refine (show (den C k) (cB Try.f52) Q (St0 x0 x1 x2) = denJ (den C k) (lp C k) Js C (cB Try.f52) Q (St0 x0 x1 x2) from (denJ_den _ _ _ _ _ _).symm).trans ((h (den C k) (lp C k)).trans ?_)
  first | rfl | kernel_rfl
def run (x0 : List Int) (x1 : List Int) (x2 : List Int) : Option (List Int × Int × Unit) := top (α := List Int × Int × Unit) (fun (x7 : Int) (c6 : List Int) => some (c6, x7, ())) x0 x1 x2
def F : Fn := ⟨(.pair (.arr 4 (.int .u64)) (.pair (.arr 4 (.int .u64)) (.pair (.arr 4 (.int .u64)) .unit))), (.pair (.arr 4 (.int .u64)) (.pair (.int .i64) .unit)), true, fun x => run x.1 x.2.1 x.2.2.1⟩
set_option maxRecDepth 100000 in
theorem con : Con Try.prog 52 F := by
  refine con_of_den (C := C) (ctx_ok_sh (by kernel_rfl) (by kernel_rfl) (by kernel_rfl) (by kernel_rfl) trivial ⟨⟨⟨Go.Bx.field_by_s1.sok, trivial⟩, Go.Bx.field_by_s1.named⟩, trivial⟩) (by kernel_rfl) Try.func52 (c := cB Try.f52) (by kernel_rfl) (by kernel_rfl) F fuel (fun x => by simp [F, spread, Try.ntmps52]) ?_
  intro x r h
  rw [← h]
  have h1 : start F Try.f52.ntmps x = (St0 x.1 x.2.1 x.2.2.1) := by kernel_rfl
  rw [h1]
  refine (top_eq fuel (fin C Try.f52.results.toList F.rs F.multi) x.1 x.2.1 x.2.2.1).trans ?_
  kernel_rfl
theorem named : Named Try.prog 52 := named_of Try.func52 (by kernel_rfl) (by kernel_rfl)
end Go.Bx.field_Add
namespace Go.Bx.curve_ring__add_s0
open Go Go.Proofs Go.Bx
set_option maxRecDepth 100000
set_option linter.unusedVariables false
def Js : List Nat := []
def C : Ctx := ⟨[(45, (.arr 4 (.int .u64))), (119, (.pair (.arr 4 (.int .u64)) (.pair .opq .unit)))], [], [], fnL [(52, Go.Bx.field_Add.F)], shL [(104, [.one Go.Bx.curve_ring__take_s1.Sp])], [(15, 17)], invL [], [(2, [6])], [], [], 1, 0⟩
def St0 (x0p0 : List Int) (x1 : List Int) (x2 : List Int) (c0 : Bool) : St := stL 16 [(0, .agg (.pair (.arr 4 (.int .u64)) (.pair .opq .unit)) [.data (.arr 4 (.int .u64)) x0p0, .ref 0 0 []]), (1, .data (.arr 4 (.int .u64)) x1), (2, .data (.arr 4 (.int .u64)) x2)] [(0, .cell .bool (.data .bool c0) false)]
def St1 (c0 : Bool) (c7 : List Int) : St := stL 16 [(6, .ref 7 0 [])] [(0, .cell .bool (.data .bool c0) false), (7, .cell (.arr 4 (.int .u64)) (.data (.arr 4 (.int .u64)) c7) false)]
def top {α : Type} (Rt : Bool → (List Int) → Option α) (x0p0 : List Int) (x1 : List Int) (x2 : List Int) (c0 : Bool) : Option α :=
  (Go.Bx.field_Add.run x1 x2 x0p0).bind fun y1 =>
  (Go.Bx.curve_ring__take_s1.run x0p0 y1.1 y1.2.1 c0).bind fun y2 =>
  Rt y2.2.1 y2.1
theorem top_eq {α : Type} (k : Nat) (Q : Ex → St → Option α) (x0p0 : List Int) (x1 : List Int) (x2 : List Int) (c0 : Bool) :
    (den C k) (cB Try.f92) (endQ C Q) (St0 x0p0 x1 x2 c0) = top (fun (c0 : Bool) (c7 : List Int) => Q .ret (St1 c0 c7)) x0p0 x1 x2 c0 := by
  have h : ∀ (D L : DT α), denJ D L Js C (cB Try.f92) (endQ C Q) (St0 x0p0 x1 x2 c0) =
        (Go.Bx.field_Add.run x1 x2 x0p0).bind fun y1 =>
        (Go.Bx.curve_ring__take_s1.run x0p0 y1.1 y1.2.1 c0).bind fun y2 =>
        Q .ret (St1 y2.2.1 y2.1) := by
    intro D L; kernel_rfl
  refine (show (den C k) (cB Try.f92) (endQ C Q) (St0 x0p0 x1 x2 c0) = denJ (den C k) (lp C k) Js C (cB Try.f92) (endQ C Q) (St0 x0p0 x1 x2 c0) from (denJ_den _ _ _ _ _ _).symm).trans ((h (den C k) (lp C k)).trans ?_)
  first | rfl | kernel_rfl
def run (x0p0 : List Int) (x1 : List Int) (x2 : List Int) (c0 : Bool) : Option (List Int × Bool × List Int × Unit) := top (α := List Int × Bool × List Int × Unit) (fun (c0 : Bool) (c7 : List Int) => some (c7, c0, c7, ())) x0p0 x1 x2 c0
def Sp : Spec := ⟨[.agg (.pair (.arr 4 (.int .u64)) (.pair .opq .unit)) [hD (.arr 4 (.int .u64)), .ref 0 0 []], hD (.arr 4 (.int .u64)), hD (.arr 4 (.int .u64))], [(0, hC .bool (hD .bool) false)], (.pair (.arr 4 (.int .u64)) (.pair (.arr 4 (.int .u64)) (.pair (.arr 4 (.int .u64)) (.pair .bool .unit)))), hD (.arr 4 (.int .u64)), [(0, hC .bool (hD .bool) false), (7, hC (.arr 4 (.int .u64)) (hD (.arr 4 (.int .u64))) false)], (.pair (.arr 4 (.int .u64)) (.pair .bool (.pair (.arr 4 (.int .u64)) .unit))), fun x => run x.1 x.2.1 x.2.2.1 x.2.2.2.1⟩
set_option maxRecDepth 100000 in
theorem sok : SOk Try.prog 92 Sp.h := by
  refine sok_of_den (C := C) (ctx_ok_sh (by kernel_rfl) (by kernel_rfl) (by kernel_rfl) (by kernel_rfl) ⟨.inl ⟨Go.Bx.field_Add.con, Go.Bx.field_Add.named⟩, trivial⟩ ⟨⟨⟨Go.Bx.curve_ring__take_s1.sok, trivial⟩, Go.Bx.curve_ring__take_s1.named⟩, trivial⟩) (by kernel_rfl) Try.func92 (c := cB Try.f92) (by kernel_rfl) (by kernel_rfl) Sp fuel (by kernel_rfl) (by kernel_rfl) ?_
  intro x r h
  rw [← h]
  have h1 : Sp.start x Try.f92.ntmps = (St0 x.1 x.2.1 x.2.2.1 x.2.2.2.1) := by kernel_rfl
  rw [h1]
  refine (top_eq fuel (finS C Try.f92.results.toList Sp.read) x.1 x.2.1 x.2.2.1 x.2.2.2.1).trans ?_
  kernel_rfl
theorem named : Named Try.prog 92 := named_of Try.func92 (by kernel_rfl) (by kernel_rfl)
end Go.Bx.curve_ring__add_s0
namespace Go.Bx.field_by_s2
open Go Go.Proofs Go.Bx
set_option maxRecDepth 100000
set_option linter.unusedVariables false
def Js : List Nat := []
def C : Ctx := ⟨[(45, (.arr 4 (.int .u64))), (198, (.sl (.arr 4 (.int .u64))))], [], [], fnL [(128, Go.Bx.field_sub.F), (131, Go.Bx.field_fault.F)], noSh, [], invL [], [(2, [8, 9])], [], [], 0, 0⟩
def St0 (x1 : List Int) (x2 : List Int) (x3 : List Int) : St := stL 25 [(0, .fn 128 [] []), (1, .data (.arr 4 (.int .u64)) x1), (2, .data (.arr 4 (.int .u64)) x2), (3, .data (.arr 4 (.int .u64)) x3)] []
def St1 (x9 : Int) (c8 : List Int) : St := stL 25 [(8, .ref 8 0 []), (9, .data (.int .i64) x9)] [(8, .cell (.arr 4 (.int .u64)) (.data (.arr 4 (.int .u64)) c8) false)]
def top {α : Type} (Rt : Int → (List Int) → Option α) (x1 : List Int) (x2 : List Int) (x3 : List Int) : Option α :=
  (Go.Bx.field_fault.run x3 [x1, x2]).bind fun y1 =>
  if (y1 != 0) = true then
    Rt y1 [0, 0, 0, 0]
  else
    (Go.Bx.field_sub.run x1 x2 x3).bind fun y2 =>
    Rt 0 y2
theorem top_eq {α : Type} (k : Nat) (Q : Ex → St → Option α) (x1 : List Int) (x2 : List Int) (x3 : List Int) :
    (den C k) (cB Try.f126) (endQ C Q) (St0 x1 x2 x3) = top (fun (x9 : Int) (c8 : List Int) => Q .ret (St1 x9 c8)) x1 x2 x3 := by
  have h : ∀ (D L : DT α), denJ D L Js C (cB Try.f126) (endQ C Q) (St0 x1 x2 x3) =
        (Go.Bx.field_fault.run x3 [x1, x2]).bind fun y1 =>
        if (y1 != 0) = true then
          Q .ret (St1 y1 [0, 0, 0, 0])
        else
          (Go.Bx.field_sub.run x1 x2 x3).bind fun y2 =>
          Q .ret (St1 0 y2) := by
    intro D L; kernel_rfl
  refine (show (den C k) (cB Try.f126) (endQ C Q) (St0 x1 x2 x3) = denJ (den C k) (lp C k) Js C (cB Try.f126) (endQ C Q) (St0 x1 x2 x3) from (denJ_den _ _ _ _ _ _).symm).trans ((h (den C k) (lp C k)).trans ?_)
  first | rfl | kernel_rfl
def run (x1 : List Int) (x2 : List Int) (x3 : List Int) : Option (List Int × Int × List Int × Unit) := top (α := List Int × Int × List Int × Unit) (fun (x9 : Int) (c8 : List Int) => some (c8, x9, c8, ())) x1 x2 x3
def Sp : Spec := ⟨[.fn 128 [] [], hD (.arr 4 (.int .u64)), hD (.arr 4 (.int .u64)), hD (.arr 4 (.int .u64))], [], (.pair (.arr 4 (.int .u64)) (.pair (.arr 4 (.int .u64)) (.pair (.arr 4 (.int .u64)) .unit))), .tup [hD (.arr 4 (.int .u64)), hD (.int .i64)], [(8, hC (.arr 4 (.int .u64)) (hD (.arr 4 (.int .u64))) false)], (.pair (.arr 4 (.int .u64)) (.pair (.int .i64) (.pair (.arr 4 (.int .u64)) .unit))), fun x => run x.1 x.2.1 x.2.2.1⟩
set_option maxRecDepth 100000 in
theorem sok : SOk Try.prog 126 Sp.h := by
  refine sok_of_den (C := C) (ctx_ok (by kernel_rfl) (by kernel_rfl) (by kernel_rfl) (by kernel_rfl) ⟨.inl ⟨Go.Bx.field_sub.con, Go.Bx.field_sub.named⟩, ⟨.inl ⟨Go.Bx.field_fault.con, Go.Bx.field_fault.named⟩, trivial⟩⟩) (by kernel_rfl) Try.func126 (c := cB Try.f126) (by kernel_rfl) (by kernel_rfl) Sp fuel (by kernel_rfl) (by kernel_rfl) ?_
  intro x r h
  rw [← h]
  have h1 : Sp.start x Try.f126.ntmps = (St0 x.1 x.2.1 x.2.2.1) := by kernel_rfl
  rw [h1]
  refine (top_eq fuel (finS C Try.f126.results.toList Sp.read) x.1 x.2.1 x.2.2.1).trans ?_
  kernel_rfl
theorem named : Named Try.prog 126 := named_of Try.func126 (by kernel_rfl) (by kernel_rfl)
end Go.Bx.field_by_s2
namespace Go.Bx.field_Sub
open Go Go.Proofs Go.Bx
set_option maxRecDepth 100000
set_option linter.unusedVariables false
def Js : List Nat := []
def C : Ctx := ⟨[(31, (.int .i64)), (45, (.arr 4 (.int .u64)))], [], [], fnL [], shL [(126, [.one Go.Bx.field_by_s2.Sp])], [(11, 15)], invL [], [(2, [6, 7])], [], [], 0, 0⟩
def St0 (x0 : List Int) (x1 : List Int) (x2 : List Int) : St := stL 14 [(0, .data (.arr 4 (.int .u64)) x0), (1, .data (.arr 4 (.int .u64)) x1), (2, .data (.arr 4 (.int .u64)) x2)] []
def St1 (x7 : Int) (c6 : List Int) : St := stL 14 [(6, .ref 6 0 []), (7, .data (.int .i64) x7)] [(6, .cell (.arr 4 (.int .u64)) (.data (.arr 4 (.int .u64)) c6) false)]
def top {α : Type} (Rt : Int → (List Int) → Option α) (x0 : List Int) (x1 : List Int) (x2 : List Int) : Option α :=
  (Go.Bx.field_by_s2.run x0 x1 x2).bind fun y1 =>
  Rt y1.2.1 y1.1
theorem top_eq {α : Type} (k : Nat) (Q : Ex → St → Option α) (x0 : List Int) (x1 : List Int) (x2 : List Int) :
    (den C k) (cB Try.f53) Q (St0 x0 x1 x2) = top (fun (x7 : Int) (c6 : List Int) => Q .ret (St1 x7 c6)) x0 x1 x2 := by
  have h : ∀ (D L : DT α), denJ D L Js C (cB Try.f53) Q (St0 x0 x1 x2) =
        (Go.Bx.field_by_s2.run x0 x1 x2).bind fun y1 =>
        Q .ret (St1 y1.2.1 y1.1) := by
    intro D L; kernel_rfl
  refine (show (den C k) (cB Try.f53) Q (St0 x0 x1 x2) = denJ (den C k) (lp C k) Js C (cB Try.f53) Q (St0 x0 x1 x2) from (denJ_den _ _ _ _ _ _).symm).trans ((h (den C k) (lp C k)).trans ?_)
  first | rfl | kernel_rfl
def run (x0 : List Int) (x1 : List Int) (x2 : List Int) : Option (List Int × Int × Unit) := top (α := List Int × Int × Unit) (fun (x7 : Int) (c6 : List Int) => some (c6, x7, ())) x0 x1 x2
def F : Fn := ⟨(.pair (.arr 4 (.int .u64)) (.pair (.arr 4 (.int .u64)) (.pair (.arr 4 (.int .u64)) .unit))), (.pair (.arr 4 (.int .u64)) (.pair (.int .i64) .unit)), true, fun x => run x.1 x.2.1 x.2.2.1⟩
set_option maxRecDepth 100000 in
theorem con : Con Try.prog 53 F := by
  refine con_of_den (C := C) (ctx_ok_sh (by kernel_rfl) (by kernel_rfl) (by kernel_rfl) (by kernel_rfl) trivial ⟨⟨⟨Go.Bx.field_by_s2.sok, trivial⟩, Go.Bx.field_by_s2.named⟩, trivial⟩) (by kernel_rfl) Try.func53 (c := cB Try.f53) (by kernel_rfl) (by kernel_rfl) F fuel (fun x => by simp [F, spread, Try.ntmps53]) ?_
  intro x r h
  rw [← h]
  have h1 : start F Try.f53.ntmps x = (St0 x.1 x.2.1 x.2.2.1) := by kernel_rfl
  rw [h1]
  refine (top_eq fuel (fin C Try.f53.results.toList F.rs F.multi) x.1 x.2.1 x.2.2.1).trans ?_
  kernel_rfl
theorem named : Named Try.prog 53 := named_of Try.func53 (by kernel_rfl) (by kernel_rfl)
end Go.Bx.field_Sub
namespace Go.Bx.curve_ring__sub_s0
open Go Go.Proofs Go.Bx
set_option maxRecDepth 100000
set_option linter.unusedVariables false
def Js : List Nat := []
def C : Ctx := ⟨[(45, (.arr 4 (.int .u64))), (119, (.pair (.arr 4 (.int .u64)) (.pair .opq .unit)))], [], [], fnL [(53, Go.Bx.field_Sub.F)], shL [(104, [.one Go.Bx.curve_ring__take_s1.Sp])], [(15, 17)], invL [], [(2, [6])], [], [], 1, 0⟩
def St0 (x0p0 : List Int) (x1 : List Int) (x2 : List Int) (c0 : Bool) : St := stL 16 [(0, .agg (.pair (.arr 4 (.int .u64)) (.pair .opq .unit)) [.data (.arr 4 (.int .u64)) x0p0, .ref 0 0 []]), (1, .data (.arr 4 (.int .u64)) x1), (2, .data (.arr 4 (.int .u64)) x2)] [(0, .cell .bool (.data .bool c0) false)]
def St1 (c0 : Bool) (c7 : List Int) : St := stL 16 [(6, .ref 7 0 [])] [(0, .cell .bool (.data .bool c0) false), (7, .cell (.arr 4 (.int .u64)) (.data (.arr 4 (.int .u64)) c7) false)]
def top {α : Type} (Rt : Bool → (List Int) → Option α) (x0p0 : List Int) (x1 : List Int) (x2 : List Int) (c0 : Bool) : Option α :=
  (Go.Bx.field_Sub.run x1 x2 x0p0).bind fun y1 =>
  (Go.Bx.curve_ring__take_s1.run x0p0 y1.1 y1.2.1 c0).bind fun y2 =>
  Rt y2.2.1 y2.1
theorem top_eq {α : Type} (k : Nat) (Q : Ex → St → Option α) (x0p0 : List Int) (x1 : List Int) (x2 : List Int) (c0 : Bool) :
    (den C k) (cB Try.f162) (endQ C Q) (St0 x0p0 x1 x2 c0) = top (fun (c0 : Bool) (c7 : List Int) => Q .ret (St1 c0 c7)) x0p0 x1 x2 c0 := by
  have h : ∀ (D L : DT α), denJ D L Js C (cB Try.f162) (endQ C Q) (St0 x0p0 x1 x2 c0) =
        (Go.Bx.field_Sub.run x1 x2 x0p0).bind fun y1 =>
        (Go.Bx.curve_ring__take_s1.run x0p0 y1.1 y1.2.1 c0).bind fun y2 =>
        Q .ret (St1 y2.2.1 y2.1) := by
    intro D L; kernel_rfl
  refine (show (den C k) (cB Try.f162) (endQ C Q) (St0 x0p0 x1 x2 c0) = denJ (den C k) (lp C k) Js C (cB Try.f162) (endQ C Q) (St0 x0p0 x1 x2 c0) from (denJ_den _ _ _ _ _ _).symm).trans ((h (den C k) (lp C k)).trans ?_)
  first | rfl | kernel_rfl
def run (x0p0 : List Int) (x1 : List Int) (x2 : List Int) (c0 : Bool) : Option (List Int × Bool × List Int × Unit) := top (α := List Int × Bool × List Int × Unit) (fun (c0 : Bool) (c7 : List Int) => some (c7, c0, c7, ())) x0p0 x1 x2 c0
def Sp : Spec := ⟨[.agg (.pair (.arr 4 (.int .u64)) (.pair .opq .unit)) [hD (.arr 4 (.int .u64)), .ref 0 0 []], hD (.arr 4 (.int .u64)), hD (.arr 4 (.int .u64))], [(0, hC .bool (hD .bool) false)], (.pair (.arr 4 (.int .u64)) (.pair (.arr 4 (.int .u64)) (.pair (.arr 4 (.int .u64)) (.pair .bool .unit)))), hD (.arr 4 (.int .u64)), [(0, hC .bool (hD .bool) false), (7, hC (.arr 4 (.int .u64)) (hD (.arr 4 (.int .u64))) false)], (.pair (.arr 4 (.int .u64)) (.pair .bool (.pair (.arr 4 (.int .u64)) .unit))), fun x => run x.1 x.2.1 x.2.2.1 x.2.2.2.1⟩
set_option maxRecDepth 100000 in
theorem sok : SOk Try.prog 162 Sp.h := by
  refine sok_of_den (C := C) (ctx_ok_sh (by kernel_rfl) (by kernel_rfl) (by kernel_rfl) (by kernel_rfl) ⟨.inl ⟨Go.Bx.field_Sub.con, Go.Bx.field_Sub.named⟩, trivial⟩ ⟨⟨⟨Go.Bx.curve_ring__take_s1.sok, trivial⟩, Go.Bx.curve_ring__take_s1.named⟩, trivial⟩) (by kernel_rfl) Try.func162 (c := cB Try.f162) (by kernel_rfl) (by kernel_rfl) Sp fuel (by kernel_rfl) (by kernel_rfl) ?_
  intro x r h
  rw [← h]
  have h1 : Sp.start x Try.f162.ntmps = (St0 x.1 x.2.1 x.2.2.1 x.2.2.2.1) := by kernel_rfl
  rw [h1]
  refine (top_eq fuel (finS C Try.f162.results.toList Sp.read) x.1 x.2.1 x.2.2.1 x.2.2.2.1).trans ?_
  kernel_rfl
theorem named : Named Try.prog 162 := named_of Try.func162 (by kernel_rfl) (by kernel_rfl)
end Go.Bx.curve_ring__sub_s0
namespace Go.Bx.curve_ring__inv_s0
open Go Go.Proofs Go.Bx
set_option maxRecDepth 100000
set_option linter.unusedVariables false
def Js : List Nat := []
def C : Ctx := ⟨[(45, (.arr 4 (.int .u64))), (119, (.pair (.arr 4 (.int .u64)) (.pair .opq .unit)))], [], [], fnL [(58, Go.Bx.field_Inv.F)], shL [(104, [.one Go.Bx.curve_ring__take_s1.Sp])], [(12, 14)], invL [], [(2, [4])], [], [], 1, 0⟩
def St0 (x0p0 : List Int) (x1 : List Int) (c0 : Bool) : St := stL 13 [(0, .agg (.pair (.arr 4 (.int .u64)) (.pair .opq .unit)) [.data (.arr 4 (.int .u64)) x0p0, .ref 0 0 []]), (1, .data (.arr 4 (.int .u64)) x1)] [(0, .cell .bool (.data .bool c0) false)]
def St1 (c0 : Bool) (c5 : List Int) : St := stL 13 [(4, .ref 5 0 [])] [(0, .cell .bool (.data .bool c0) false), (5, .cell (.arr 4 (.int .u64)) (.data (.arr 4 (.int .u64)) c5) false)]
def top {α : Type} (Rt : Bool → (List Int) → Option α) (x0p0 : List Int) (x1 : List Int) (c0 : Bool) : Option α :=
  (Go.Bx.field_Inv.run x1 x0p0).bind fun y1 =>
  (Go.Bx.curve_ring__take_s1.run x0p0 y1.1 y1.2.1 c0).bind fun y2 =>
  Rt y2.2.1 y2.1
theorem top_eq {α : Type} (k : Nat) (Q : Ex → St → Option α) (x0p0 : List Int) (x1 : List Int) (c0 : Bool) :
    (den C k) (cB Try.f163) (endQ C Q) (St0 x0p0 x1 c0) = top (fun (c0 : Bool) (c5 : List Int) => Q .ret (St1 c0 c5)) x0p0 x1 c0 := by
  have h : ∀ (D L : DT α), denJ D L Js C (cB Try.f163) (endQ C Q) (St0 x0p0 x1 c0) =
        (Go.Bx.field_Inv.run x1 x0p0).bind fun y1 =>
        (Go.Bx.curve_ring__take_s1.run x0p0 y1.1 y1.2.1 c0).bind fun y2 =>
        Q .ret (St1 y2.2.1 y2.1) := by
    intro D L; kernel_rfl
  refine (show (den C k) (cB Try.f163) (endQ C Q) (St0 x0p0 x1 c0) = denJ (den C k) (lp C k) Js C (cB Try.f163) (endQ C Q) (St0 x0p0 x1 c0) from (denJ_den _ _ _ _ _ _).symm).trans ((h (den C k) (lp C k)).trans ?_)
  first | rfl | kernel_rfl
def run (x0p0 : List Int) (x1 : List Int) (c0 : Bool) : Option (List Int × Bool × List Int × Unit) := top (α := List Int × Bool × List Int × Unit) (fun (c0 : Bool) (c5 : List Int) => some (c5, c0, c5, ())) x0p0 x1 c0
def Sp : Spec := ⟨[.agg (.pair (.arr 4 (.int .u64)) (.pair .opq .unit)) [hD (.arr 4 (.int .u64)), .ref 0 0 []], hD (.arr 4 (.int .u64))], [(0, hC .bool (hD .bool) false)], (.pair (.arr 4 (.int .u64)) (.pair (.arr 4 (.int .u64)) (.pair .bool .unit))), hD (.arr 4 (.int .u64)), [(0, hC .bool (hD .bool) false), (5, hC (.arr 4 (.int .u64)) (hD (.arr 4 (.int .u64))) false)], (.pair (.arr 4 (.int .u64)) (.pair .bool (.pair (.arr 4 (.int .u64)) .unit))), fun x => run x.1 x.2.1 x.2.2.1⟩
set_option maxRecDepth 100000 in
theorem sok : SOk Try.prog 163 Sp.h := by
  refine sok_of_den (C := C) (ctx_ok_sh (by kernel_rfl) (by kernel_rfl) (by kernel_rfl) (by kernel_rfl) ⟨.inl ⟨Go.Bx.field_Inv.con, Go.Bx.field_Inv.named⟩, trivial⟩ ⟨⟨⟨Go.Bx.curve_ring__take_s1.sok, trivial⟩, Go.Bx.curve_ring__take_s1.named⟩, trivial⟩) (by kernel_rfl) Try.func163 (c := cB Try.f163) (by kernel_rfl) (by kernel_rfl) Sp fuel (by kernel_rfl) (by kernel_rfl) ?_
  intro x r h
  rw [← h]
  have h1 : Sp.start x Try.f163.ntmps = (St0 x.1 x.2.1 x.2.2.1) := by kernel_rfl
  rw [h1]
  refine (top_eq fuel (finS C Try.f163.results.toList Sp.read) x.1 x.2.1 x.2.2.1).trans ?_
  kernel_rfl
theorem named : Named Try.prog 163 := named_of Try.func163 (by kernel_rfl) (by kernel_rfl)
end Go.Bx.curve_ring__inv_s0
namespace Go.Bx.curve_ring__small_s0
open Go Go.Proofs Go.Bx
set_option maxRecDepth 100000
set_option linter.unusedVariables false
def Js : List Nat := []
def C : Ctx := ⟨[(45, (.arr 4 (.int .u64))), (119, (.pair (.arr 4 (.int .u64)) (.pair .opq .unit)))], [], [], fnL [(47, Go.Bx.wide_DivMod.F)], noSh, [], invL [], [(2, [4])], [], [], 1, 0⟩
def St0 (x0p0 : List Int) (x1 : Int) (c0 : Bool) : St := stL 18 [(0, .agg (.pair (.arr 4 (.int .u64)) (.pair .opq .unit)) [.data (.arr 4 (.int .u64)) x0p0, .ref 0 0 []]), (1, .data (.int .u64) x1)] [(0, .cell .bool (.data .bool c0) false)]
def St1 (c0 : Bool) (c5 : List Int) : St := stL 18 [(4, .ref 5 0 [])] [(0, .cell .bool (.data .bool c0) false), (5, .cell (.arr 4 (.int .u64)) (.data (.arr 4 (.int .u64)) c5) false)]
def top {α : Type} (Rt : Bool → (List Int) → Option α) (x0p0 : List Int) (x1 : Int) (c0 : Bool) : Option α :=
  (Go.Bx.wide_DivMod.run [x1, 0, 0, 0] x0p0).bind fun y1 =>
  Rt c0 y1.2.1
theorem top_eq {α : Type} (k : Nat) (Q : Ex → St → Option α) (x0p0 : List Int) (x1 : Int) (c0 : Bool) :
    (den C k) (cB Try.f91) (endQ C Q) (St0 x0p0 x1 c0) = top (fun (c0 : Bool) (c5 : List Int) => Q .ret (St1 c0 c5)) x0p0 x1 c0 := by
  have h : ∀ (D L : DT α), denJ D L Js C (cB Try.f91) (endQ C Q) (St0 x0p0 x1 c0) =
        (Go.Bx.wide_DivMod.run [x1, 0, 0, 0] x0p0).bind fun y1 =>
        Q .ret (St1 c0 y1.2.1) := by
    intro D L; kernel_rfl
  refine (show (den C k) (cB Try.f91) (endQ C Q) (St0 x0p0 x1 c0) = denJ (den C k) (lp C k) Js C (cB Try.f91) (endQ C Q) (St0 x0p0 x1 c0) from (denJ_den _ _ _ _ _ _).symm).trans ((h (den C k) (lp C k)).trans ?_)
  first | rfl | kernel_rfl
def run (x0p0 : List Int) (x1 : Int) (c0 : Bool) : Option (List Int × Bool × List Int × Unit) := top (α := List Int × Bool × List Int × Unit) (fun (c0 : Bool) (c5 : List Int) => some (c5, c0, c5, ())) x0p0 x1 c0
def Sp : Spec := ⟨[.agg (.pair (.arr 4 (.int .u64)) (.pair .opq .unit)) [hD (.arr 4 (.int .u64)), .ref 0 0 []], hD (.int .u64)], [(0, hC .bool (hD .bool) false)], (.pair (.arr 4 (.int .u64)) (.pair (.int .u64) (.pair .bool .unit))), hD (.arr 4 (.int .u64)), [(0, hC .bool (hD .bool) false), (5, hC (.arr 4 (.int .u64)) (hD (.arr 4 (.int .u64))) false)], (.pair (.arr 4 (.int .u64)) (.pair .bool (.pair (.arr 4 (.int .u64)) .unit))), fun x => run x.1 x.2.1 x.2.2.1⟩
set_option maxRecDepth 100000 in
theorem sok : SOk Try.prog 91 Sp.h := by
  refine sok_of_den (C := C) (ctx_ok (by kernel_rfl) (by kernel_rfl) (by kernel_rfl) (by kernel_rfl) ⟨.inl ⟨Go.Bx.wide_DivMod.con, Go.Bx.wide_DivMod.named⟩, trivial⟩) (by kernel_rfl) Try.func91 (c := cB Try.f91) (by kernel_rfl) (by kernel_rfl) Sp fuel (by kernel_rfl) (by kernel_rfl) ?_
  intro x r h
  rw [← h]
  have h1 : Sp.start x Try.f91.ntmps = (St0 x.1 x.2.1 x.2.2.1) := by kernel_rfl
  rw [h1]
  refine (top_eq fuel (finS C Try.f91.results.toList Sp.read) x.1 x.2.1 x.2.2.1).trans ?_
  kernel_rfl
theorem named : Named Try.prog 91 := named_of Try.func91 (by kernel_rfl) (by kernel_rfl)
end Go.Bx.curve_ring__small_s0
namespace Go.Bx.basculeref_by
open Go Go.Proofs Go.Bx
set_option maxRecDepth 100000
set_option linter.unusedVariables false
def Js : List Nat := []
def C : Ctx := ⟨[(24, (.int .u64)), (45, (.arr 4 (.int .u64))), (134, (.sl (.int .u64)))], [], [], fnL [(161, Go.Bx.basculeref_rest.F)], noSh, [], invL [], [(2, [4])], [], [], 0, 0⟩
def St0 (x0 : Int) (x1 : List Int) : St := stL 12 [(0, .data (.int .u64) x0), (1, .data (.arr 4 (.int .u64)) x1)] []
def St1 (c4 : List Int) : St := stL 12 [(4, .ref 4 0 [])] [(4, .cell (.arr 4 (.int .u64)) (.data (.arr 4 (.int .u64)) c4) false)]
def top {α : Type} (Rt : (List Int) → Option α) (x0 : Int) (x1 : List Int) : Option α :=
  (Go.Bx.basculeref_rest.run [(Int.tmod x0 4294967296), (IntKind.u64.wrap (Int.tdiv x0 4294967296))] x1).bind fun y1 =>
  Rt y1
theorem top_eq {α : Type} (k : Nat) (Q : Ex → St → Option α) (x0 : Int) (x1 : List Int) :
    (den C k) (cB Try.f96) Q (St0 x0 x1) = top (fun (c4 : List Int) => Q .ret (St1 c4)) x0 x1 := by
  have h : ∀ (D L : DT α), denJ D L Js C (cB Try.f96) Q (St0 x0 x1) =
        (Go.Bx.basculeref_rest.run [(Int.tmod x0 4294967296), (IntKind.u64.wrap (Int.tdiv x0 4294967296))] x1).bind fun y1 =>
        Q .ret (St1 y1) := by
    intro D L; kernel_rfl
  refine (show (den C k) (cB Try.f96) Q (St0 x0 x1) = denJ (den C k) (lp C k) Js C (cB Try.f96) Q (St0 x0 x1) from (denJ_den _ _ _ _ _ _).symm).trans ((h (den C k) (lp C k)).trans ?_)
  first | rfl | kernel_rfl
def run (x0 : Int) (x1 : List Int) : Option (List Int) := top (α := List Int) (fun (c4 : List Int) => some c4) x0 x1
def F : Fn := ⟨(.pair (.int .u64) (.pair (.arr 4 (.int .u64)) .unit)), (.arr 4 (.int .u64)), false, fun x => run x.1 x.2.1⟩
set_option maxRecDepth 100000 in
theorem con : Con Try.prog 96 F := by
  refine con_of_den (C := C) (ctx_ok (by kernel_rfl) (by kernel_rfl) (by kernel_rfl) (by kernel_rfl) ⟨.inl ⟨Go.Bx.basculeref_rest.con, Go.Bx.basculeref_rest.named⟩, trivial⟩) (by kernel_rfl) Try.func96 (c := cB Try.f96) (by kernel_rfl) (by kernel_rfl) F fuel (fun x => by simp [F, spread, Try.ntmps96]) ?_
  intro x r h
  rw [← h]
  have h1 : start F Try.f96.ntmps x = (St0 x.1 x.2.1) := by kernel_rfl
  rw [h1]
  refine (top_eq fuel (fin C Try.f96.results.toList F.rs F.multi) x.1 x.2.1).trans ?_
  kernel_rfl
theorem named : Named Try.prog 96 := named_of Try.func96 (by kernel_rfl) (by kernel_rfl)
end Go.Bx.basculeref_by
namespace Go.Bx.basculeref_isZero
open Go Go.Proofs Go.Bx
set_option maxRecDepth 100000
set_option linter.unusedVariables false
def Js : List Nat := []
def C : Ctx := ⟨[(4, .bool), (45, (.arr 4 (.int .u64)))], [], [], fnL [], noSh, [], invL [], [(2, [2])], [], [], 0, 0⟩
def St0 (x0 : List Int) : St := stL 6 [(0, .data (.arr 4 (.int .u64)) x0)] []
def St1 (x2 : Bool) : St := stL 6 [(2, .data .bool x2)] []
def top {α : Type} (Rt : Bool → Option α) (x0 : List Int) : Option α :=
  Rt (beqD (.arr 4 (.int .u64)) x0 [0, 0, 0, 0])
theorem top_eq {α : Type} (k : Nat) (Q : Ex → St → Option α) (x0 : List Int) :
    (den C k) (cB Try.f98) Q (St0 x0) = top (fun (x2 : Bool) => Q .ret (St1 x2)) x0 := by
  have h : ∀ (D L : DT α), denJ D L Js C (cB Try.f98) Q (St0 x0) =
        Q .ret (St1 (beqD (.arr 4 (.int .u64)) x0 [0, 0, 0, 0])) := by
    intro D L; kernel_rfl
  refine (show (den C k) (cB Try.f98) Q (St0 x0) = denJ (den C k) (lp C k) Js C (cB Try.f98) Q (St0 x0) from (denJ_den _ _ _ _ _ _).symm).trans ((h (den C k) (lp C k)).trans ?_)
  first | rfl | kernel_rfl
def run (x0 : List Int) : Option (Bool) := top (α := Bool) (fun (x2 : Bool) => some x2) x0
def F : Fn := ⟨(.pair (.arr 4 (.int .u64)) .unit), .bool, false, fun x => run x.1⟩
set_option maxRecDepth 100000 in
theorem con : Con Try.prog 98 F := by
  refine con_of_den (C := C) (ctx_ok (by kernel_rfl) (by kernel_rfl) (by kernel_rfl) (by kernel_rfl) trivial) (by kernel_rfl) Try.func98 (c := cB Try.f98) (by kernel_rfl) (by kernel_rfl) F fuel (fun x => by simp [F, spread, Try.ntmps98]) ?_
  intro x r h
  rw [← h]
  have h1 : start F Try.f98.ntmps x = (St0 x.1) := by kernel_rfl
  rw [h1]
  refine (top_eq fuel (fin C Try.f98.results.toList F.rs F.multi) x.1).trans ?_
  kernel_rfl
theorem named : Named Try.prog 98 := named_of Try.func98 (by kernel_rfl) (by kernel_rfl)
end Go.Bx.basculeref_isZero
namespace Go.Bx.curve_ringOf_s0
open Go Go.Proofs Go.Bx
set_option maxRecDepth 100000
set_option linter.unusedVariables false
def Js : List Nat := []
def C : Ctx := ⟨[(4, .bool), (45, (.arr 4 (.int .u64))), (61, (.pair (.arr 4 (.int .u64)) (.pair (.arr 4 (.int .u64)) (.pair (.arr 4 (.int .u64)) (.pair (.arr 4 (.int .u64)) (.pair (.pair (.arr 4 (.int .u64)) (.pair (.arr 4 (.int .u64)) (.pair .bool .unit))) .unit)))))), (119, (.pair (.arr 4 (.int .u64)) (.pair .opq .unit)))], [], [], fnL [], noSh, [], invL [], [(2, [2])], [], [], 0, 0⟩
def St0 (x0 : List Int × List Int × List Int × List Int × (List Int × List Int × Bool × Unit) × Unit) : St := stL 7 [(0, .data (.pair (.arr 4 (.int .u64)) (.pair (.arr 4 (.int .u64)) (.pair (.arr 4 (.int .u64)) (.pair (.arr 4 (.int .u64)) (.pair (.pair (.arr 4 (.int .u64)) (.pair (.arr 4 (.int .u64)) (.pair .bool .unit))) .unit))))) x0)] []
def St1 (c2p0 : List Int) (c5 : Bool) : St := stL 7 [(2, .ref 2 0 [])] [(2, .cell (.pair (.arr 4 (.int .u64)) (.pair .opq .unit)) (.agg (.pair (.arr 4 (.int .u64)) (.pair .opq .unit)) [.data (.arr 4 (.int .u64)) c2p0, .ref 5 0 []]) false), (5, .cell .bool (.data .bool c5) false)]
def top {α : Type} (Rt : (List Int) → Bool → Option α) (x0 : List Int × List Int × List Int × List Int × (List Int × List Int × Bool × Unit) × Unit) : Option α :=
  Rt x0.1 false
theorem top_eq {α : Type} (k : Nat) (Q : Ex → St → Option α) (x0 : List Int × List Int × List Int × List Int × (List Int × List Int × Bool × Unit) × Unit) :
    (den C k) (cB Try.f89) (endQ C Q) (St0 x0) = top (fun (c2p0 : List Int) (c5 : Bool) => Q .ret (St1 c2p0 c5)) x0 := by
  have h : ∀ (D L : DT α), denJ D L Js C (cB Try.f89) (endQ C Q) (St0 x0) =
        Q .ret (St1 x0.1 false) := by
    intro D L; kernel_rfl
  refine (show (den C k) (cB Try.f89) (endQ C Q) (St0 x0) = denJ (den C k) (lp C k) Js C (cB Try.f89) (endQ C Q) (St0 x0) from (denJ_den _ _ _ _ _ _).symm).trans ((h (den C k) (lp C k)).trans ?_)
  first | rfl | kernel_rfl
def run (x0 : List Int × List Int × List Int × List Int × (List Int × List Int × Bool × Unit) × Unit) : Option (List Int × List Int × Bool × Unit) := top (α := List Int × List Int × Bool × Unit) (fun (c2p0 : List Int) (c5 : Bool) => some (c2p0, c2p0, c5, ())) x0
def Sp : Spec := ⟨[hD (.pair (.arr 4 (.int .u64)) (.pair (.arr 4 (.int .u64)) (.pair (.arr 4 (.int .u64)) (.pair (.arr 4 (.int .u64)) (.pair (.pair (.arr 4 (.int .u64)) (.pair (.arr 4 (.int .u64)) (.pair .bool .unit))) .unit)))))], [], (.pair (.pair (.arr 4 (.int .u64)) (.pair (.arr 4 (.int .u64)) (.pair (.arr 4 (.int .u64)) (.pair (.arr 4 (.int .u64)) (.pair (.pair (.arr 4 (.int .u64)) (.pair (.arr 4 (.int .u64)) (.pair .bool .unit))) .unit))))) .unit), .agg (.pair (.arr 4 (.int .u64)) (.pair .opq .unit)) [hD (.arr 4 (.int .u64)), .ref 5 0 []], [(2, hC (.pair (.arr 4 (.int .u64)) (.pair .opq .unit)) (.agg (.pair (.arr 4 (.int .u64)) (.pair .opq .unit)) [hD (.arr 4 (.int .u64)), .ref 5 0 []]) false), (5, hC .bool (hD .bool) false)], (.pair (.arr 4 (.int .u64)) (.pair (.arr 4 (.int .u64)) (.pair .bool .unit))), fun x => run x.1⟩
set_option maxRecDepth 100000 in
theorem sok : SOk Try.prog 89 Sp.h := by
  refine sok_of_den (C := C) (ctx_ok (by kernel_rfl) (by kernel_rfl) (by kernel_rfl) (by kernel_rfl) trivial) (by kernel_rfl) Try.func89 (c := cB Try.f89) (by kernel_rfl) (by kernel_rfl) Sp fuel (by kernel_rfl) (by kernel_rfl) ?_
  intro x r h
  rw [← h]
  have h1 : Sp.start x Try.f89.ntmps = (St0 x.1) := by kernel_rfl
  rw [h1]
  refine (top_eq fuel (finS C Try.f89.results.toList Sp.read) x.1).trans ?_
  kernel_rfl
theorem named : Named Try.prog 89 := named_of Try.func89 (by kernel_rfl) (by kernel_rfl)
end Go.Bx.curve_ringOf_s0
namespace Go.Bx.curve_side_s0
open Go Go.Proofs Go.Bx
set_option maxRecDepth 100000
set_option linter.unusedVariables false
def Js : List Nat := []
def C : Ctx := ⟨[(45, (.arr 4 (.int .u64))), (61, (.pair (.arr 4 (.int .u64)) (.pair (.arr 4 (.int .u64)) (.pair (.arr 4 (.int .u64)) (.pair (.arr 4 (.int .u64)) (.pair (.pair (.arr 4 (.int .u64)) (.pair (.arr 4 (.int .u64)) (.pair .bool .unit))) .unit)))))), (119, (.pair (.arr 4 (.int .u64)) (.pair .opq .unit)))], [], [], fnL [], shL [(90, [.one Go.Bx.curve_ring__mul_s1.Sp]), (92, [.one Go.Bx.curve_ring__add_s0.Sp])], [(14, 26), (15, 27), (20, 28), (21, 29), (24, 30)], invL [], [(2, [6])], [], [], 1, 0⟩
def St0 (x0 : List Int × List Int × List Int × List Int × (List Int × List Int × Bool × Unit) × Unit) (x1p0 : List Int) (x2 : List Int) (c0 : Bool) : St := stL 25 [(0, .data (.pair (.arr 4 (.int .u64)) (.pair (.arr 4 (.int .u64)) (.pair (.arr 4 (.int .u64)) (.pair (.arr 4 (.int .u64)) (.pair (.pair (.arr 4 (.int .u64)) (.pair (.arr 4 (.int .u64)) (.pair .bool .unit))) .unit))))) x0), (1, .agg (.pair (.arr 4 (.int .u64)) (.pair .opq .unit)) [.data (.arr 4 (.int .u64)) x1p0, .ref 0 0 []]), (2, .data (.arr 4 (.int .u64)) x2)] [(0, .cell .bool (.data .bool c0) false)]
def St1 (c0 : Bool) (c7 : List Int) : St := stL 25 [(6, .ref 7 0 [])] [(0, .cell .bool (.data .bool c0) false), (7, .cell (.arr 4 (.int .u64)) (.data (.arr 4 (.int .u64)) c7) false)]
def top {α : Type} (Rt : Bool → (List Int) → Option α) (x0 : List Int × List Int × List Int × List Int × (List Int × List Int × Bool × Unit) × Unit) (x1p0 : List Int) (x2 : List Int) (c0 : Bool) : Option α :=
  (Go.Bx.curve_ring__mul_s1.run x1p0 x2 x2 c0).bind fun y1 =>
  (Go.Bx.curve_ring__mul_s1.run x1p0 x2 y1.1 y1.2.1).bind fun y2 =>
  (Go.Bx.curve_ring__mul_s1.run x1p0 x0.2.1 x2 y2.2.1).bind fun y3 =>
  (Go.Bx.curve_ring__add_s0.run x1p0 y2.1 y3.1 y3.2.1).bind fun y4 =>
  (Go.Bx.curve_ring__add_s0.run x1p0 y4.1 x0.2.2.1 y4.2.1).bind fun y5 =>
  Rt y5.2.1 y5.1
theorem top_eq {α : Type} (k : Nat) (Q : Ex → St → Option α) (x0 : List Int × List Int × List Int × List Int × (List Int × List Int × Bool × Unit) × Unit) (x1p0 : List Int) (x2 : List Int) (c0 : Bool) :
    (den C k) (cB Try.f105) (endQ C Q) (St0 x0 x1p0 x2 c0) = top (fun (c0 : Bool) (c7 : List Int) => Q .ret (St1 c0 c7)) x0 x1p0 x2 c0 := by
  have h : ∀ (D L : DT α), denJ D L Js C (cB Try.f105) (endQ C Q) (St0 x0 x1p0 x2 c0) =
        (Go.Bx.curve_ring__mul_s1.run x1p0 x2 x2 c0).bind fun y1 =>
        (Go.Bx.curve_ring__mul_s1.run x1p0 x2 y1.1 y1.2.1).bind fun y2 =>
        (Go.Bx.curve_ring__mul_s1.run x1p0 x0.2.1 x2 y2.2.1).bind fun y3 =>
        (Go.Bx.curve_ring__add_s0.run x1p0 y2.1 y3.1 y3.2.1).bind fun y4 =>
        (Go.Bx.curve_ring__add_s0.run x1p0 y4.1 x0.2.2.1 y4.2.1).bind fun y5 =>
        Q .ret (St1 y5.2.1 y5.1) := by
    intro D L; kernel_rfl
  refine (show (den C k) (cB Try.f105) (endQ C Q) (St0 x0 x1p0 x2 c0) = denJ (den C k) (lp C k) Js C (cB Try.f105) (endQ C Q) (St0 x0 x1p0 x2 c0) from (denJ_den _ _ _ _ _ _).symm).trans ((h (den C k) (lp C k)).trans ?_)
  first | rfl | kernel_rfl
def run (x0 : List Int × List Int × List Int × List Int × (List Int × List Int × Bool × Unit) × Unit) (x1p0 : List Int) (x2 : List Int) (c0 : Bool) : Option (List Int × Bool × List Int × Unit) := top (α := List Int × Bool × List Int × Unit) (fun (c0 : Bool) (c7 : List Int) => some (c7, c0, c7, ())) x0 x1p0 x2 c0
def Sp : Spec := ⟨[hD (.pair (.arr 4 (.int .u64)) (.pair (.arr 4 (.int .u64)) (.pair (.arr 4 (.int .u64)) (.pair (.arr 4 (.int .u64)) (.pair (.pair (.arr 4 (.int .u64)) (.pair (.arr 4 (.int .u64)) (.pair .bool .unit))) .unit))))), .agg (.pair (.arr 4 (.int .u64)) (.pair .opq .unit)) [hD (.arr 4 (.int .u64)), .ref 0 0 []], hD (.arr 4 (.int .u64))], [(0, hC .bool (hD .bool) false)], (.pair (.pair (.arr 4 (.int .u64)) (.pair (.arr 4 (.int .u64)) (.pair (.arr 4 (.int .u64)) (.pair (.arr 4 (.int .u64)) (.pair (.pair (.arr 4 (.int .u64)) (.pair (.arr 4 (.int .u64)) (.pair .bool .unit))) .unit))))) (.pair (.arr 4 (.int .u64)) (.pair (.arr 4 (.int .u64)) (.pair .bool .unit)))), hD (.arr 4 (.int .u64)), [(0, hC .bool (hD .bool) false), (7, hC (.arr 4 (.int .u64)) (hD (.arr 4 (.int .u64))) false)], (.pair (.arr 4 (.int .u64)) (.pair .bool (.pair (.arr 4 (.int .u64)) .unit))), fun x => run x.1 x.2.1 x.2.2.1 x.2.2.2.1⟩
set_option maxRecDepth 100000 in
theorem sok : SOk Try.prog 105 Sp.h := by
  refine sok_of_den (C := C) (ctx_ok_sh (by kernel_rfl) (by kernel_rfl) (by kernel_rfl) (by kernel_rfl) trivial ⟨⟨⟨Go.Bx.curve_ring__mul_s1.sok, trivial⟩, Go.Bx.curve_ring__mul_s1.named⟩, ⟨⟨⟨Go.Bx.curve_ring__add_s0.sok, trivial⟩, Go.Bx.curve_ring__add_s0.named⟩, trivial⟩⟩) (by kernel_rfl) Try.func105 (c := cB Try.f105) (by kernel_rfl) (by kernel_rfl) Sp fuel (by kernel_rfl) (by kernel_rfl) ?_
  intro x r h
  rw [← h]
  have h1 : Sp.start x Try.f105.ntmps = (St0 x.1 x.2.1 x.2.2.1 x.2.2.2.1) := by kernel_rfl
  rw [h1]
  refine (top_eq fuel (finS C Try.f105.results.toList Sp.read) x.1 x.2.1 x.2.2.1 x.2.2.2.1).trans ?_
  kernel_rfl
theorem named : Named Try.prog 105 := named_of Try.func105 (by kernel_rfl) (by kernel_rfl)
end Go.Bx.curve_side_s0
namespace Go.Bx.curve_on
open Go Go.Proofs Go.Bx
set_option maxRecDepth 100000
set_option linter.unusedVariables false
def Js : List Nat := []
def C : Ctx := ⟨[(4, .bool), (45, (.arr 4 (.int .u64))), (59, (.pair (.arr 4 (.int .u64)) (.pair (.arr 4 (.int .u64)) (.pair .bool .unit)))), (61, (.pair (.arr 4 (.int .u64)) (.pair (.arr 4 (.int .u64)) (.pair (.arr 4 (.int .u64)) (.pair (.arr 4 (.int .u64)) (.pair (.pair (.arr 4 (.int .u64)) (.pair (.arr 4 (.int .u64)) (.pair .bool .unit))) .unit)))))), (119, (.pair (.arr 4 (.int .u64)) (.pair .opq .unit)))], [], [], fnL [(88, Go.Bx.wide_Cmp.F)], shL [(89, [.one Go.Bx.curve_ringOf_s0.Sp]), (90, [.one Go.Bx.curve_ring__mul_s1.Sp]), (105, [.one Go.Bx.curve_side_s0.Sp])], [(33, 47), (39, 49), (44, 50)], invL [], [(2, [4])], [], [], 0, 0⟩
def St0 (x0 : List Int × List Int × List Int × List Int × (List Int × List Int × Bool × Unit) × Unit) (x1 : List Int × List Int × Bool × Unit) : St := stL 46 [(0, .data (.pair (.arr 4 (.int .u64)) (.pair (.arr 4 (.int .u64)) (.pair (.arr 4 (.int .u64)) (.pair (.arr 4 (.int .u64)) (.pair (.pair (.arr 4 (.int .u64)) (.pair (.arr 4 (.int .u64)) (.pair .bool .unit))) .unit))))) x0), (1, .data (.pair (.arr 4 (.int .u64)) (.pair (.arr 4 (.int .u64)) (.pair .bool .unit))) x1)] []
def St1 (x4 : Bool) : St := stL 46 [(4, .data .bool x4)] []
def top {α : Type} (Rt : Bool → Option α) (x0 : List Int × List Int × List Int × List Int × (List Int × List Int × Bool × Unit) × Unit) (x1 : List Int × List Int × Bool × Unit) : Option α :=
  if x1.2.2.1 = true then
    Rt (cond (beqD (.arr 4 (.int .u64)) x1.1 [0, 0, 0, 0]) (beqD (.arr 4 (.int .u64)) x1.2.1 [0, 0, 0, 0]) false)
  else
    (Go.Bx.wide_Cmp.run x1.1 x0.1).bind fun y1 =>
    (if ((decide (y1 ≥ 0)) == false) = true then Go.Bx.wide_Cmp.run x1.2.1 x0.1 else some 0).bind fun y2 =>
    if (cond (decide (y1 ≥ 0)) true (decide (y2 ≥ 0))) = true then
      Rt false
    else
      (Go.Bx.curve_ringOf_s0.run x0).bind fun y3 =>
      (Go.Bx.curve_ring__mul_s1.run y3.1 x1.2.1 x1.2.1 y3.2.2.1).bind fun y4 =>
      (Go.Bx.curve_side_s0.run x0 y3.1 x1.1 y4.2.1).bind fun y5 =>
      Rt (beqD (.arr 4 (.int .u64)) y4.1 y5.1)
theorem top_eq {α : Type} (k : Nat) (Q : Ex → St → Option α) (x0 : List Int × List Int × List Int × List Int × (List Int × List Int × Bool × Unit) × Unit) (x1 : List Int × List Int × Bool × Unit) :
    (den C k) (cB Try.f93) Q (St0 x0 x1) = top (fun (x4 : Bool) => Q .ret (St1 x4)) x0 x1 := by
  have h : ∀ (D L : DT α), denJ D L Js C (cB Try.f93) Q (St0 x0 x1) =
        if x1.2.2.1 = true then
          Q .ret (St1 (cond (beqD (.arr 4 (.int .u64)) x1.1 [0, 0, 0, 0]) (beqD (.arr 4 (.int .u64)) x1.2.1 [0, 0, 0, 0]) false))
        else
          (Go.Bx.wide_Cmp.run x1.1 x0.1).bind fun y1 =>
          (if ((decide (y1 ≥ 0)) == false) = true then Go.Bx.wide_Cmp.run x1.2.1 x0.1 else some 0).bind fun y2 =>
          if (cond (decide (y1 ≥ 0)) true (decide (y2 ≥ 0))) = true then
            Q .ret (St1 false)
          else
            (Go.Bx.curve_ringOf_s0.run x0).bind fun y3 =>
            (Go.Bx.curve_ring__mul_s1.run y3.1 x1.2.1 x1.2.1 y3.2.2.1).bind fun y4 =>
            (Go.Bx.curve_side_s0.run x0 y3.1 x1.1 y4.2.1).bind fun y5 =>
            Q .ret (St1 (beqD (.arr 4 (.int .u64)) y4.1 y5.1)) := by
    intro D L; kernel_rfl
  refine (show (den C k) (cB Try.f93) Q (St0 x0 x1) = denJ (den C k) (lp C k) Js C (cB Try.f93) Q (St0 x0 x1) from (denJ_den _ _ _ _ _ _).symm).trans ((h (den C k) (lp C k)).trans ?_)
  first | rfl | kernel_rfl
def run (x0 : List Int × List Int × List Int × List Int × (List Int × List Int × Bool × Unit) × Unit) (x1 : List Int × List Int × Bool × Unit) : Option (Bool) := top (α := Bool) (fun (x4 : Bool) => some x4) x0 x1
def F : Fn := ⟨(.pair (.pair (.arr 4 (.int .u64)) (.pair (.arr 4 (.int .u64)) (.pair (.arr 4 (.int .u64)) (.pair (.arr 4 (.int .u64)) (.pair (.pair (.arr 4 (.int .u64)) (.pair (.arr 4 (.int .u64)) (.pair .bool .unit))) .unit))))) (.pair (.pair (.arr 4 (.int .u64)) (.pair (.arr 4 (.int .u64)) (.pair .bool .unit))) .unit)), .bool, false, fun x => run x.1 x.2.1⟩
set_option maxRecDepth 100000 in
theorem con : Con Try.prog 93 F := by
  refine con_of_den (C := C) (ctx_ok_sh (by kernel_rfl) (by kernel_rfl) (by kernel_rfl) (by kernel_rfl) ⟨.inl ⟨Go.Bx.wide_Cmp.con, Go.Bx.wide_Cmp.named⟩, trivial⟩ ⟨⟨⟨Go.Bx.curve_ringOf_s0.sok, trivial⟩, Go.Bx.curve_ringOf_s0.named⟩, ⟨⟨⟨Go.Bx.curve_ring__mul_s1.sok, trivial⟩, Go.Bx.curve_ring__mul_s1.named⟩, ⟨⟨⟨Go.Bx.curve_side_s0.sok, trivial⟩, Go.Bx.curve_side_s0.named⟩, trivial⟩⟩⟩) (by kernel_rfl) Try.func93 (c := cB Try.f93) (by kernel_rfl) (by kernel_rfl) F fuel (fun x => by simp [F, spread, Try.ntmps93]) ?_
  intro x r h
  rw [← h]
  have h1 : start F Try.f93.ntmps x = (St0 x.1 x.2.1) := by kernel_rfl
  rw [h1]
  refine (top_eq fuel (fin C Try.f93.results.toList F.rs F.multi) x.1 x.2.1).trans ?_
  kernel_rfl
theorem named : Named Try.prog 93 := named_of Try.func93 (by kernel_rfl) (by kernel_rfl)
end Go.Bx.curve_on
namespace Go.Bx.curve_Check
open Go Go.Proofs Go.Bx
set_option maxRecDepth 100000
set_option linter.unusedVariables false
def Js : List Nat := []
def C : Ctx := ⟨[(4, .bool), (24, (.int .u64)), (31, (.int .i64)), (45, (.arr 4 (.int .u64))), (59, (.pair (.arr 4 (.int .u64)) (.pair (.arr 4 (.int .u64)) (.pair .bool .unit)))), (61, (.pair (.arr 4 (.int .u64)) (.pair (.arr 4 (.int .u64)) (.pair (.arr 4 (.int .u64)) (.pair (.arr 4 (.int .u64)) (.pair (.pair (.arr 4 (.int .u64)) (.pair (.arr 4 (.int .u64)) (.pair .bool .unit))) .unit)))))), (119, (.pair (.arr 4 (.int .u64)) (.pair .opq .unit)))], [], [], fnL [(88, Go.Bx.wide_Cmp.F), (93, Go.Bx.curve_on.F)], shL [(89, [.one Go.Bx.curve_ringOf_s0.Sp]), (90, [.one Go.Bx.curve_ring__mul_s1.Sp]), (91, [.one Go.Bx.curve_ring__small_s0.Sp]), (92, [.one Go.Bx.curve_ring__add_s0.Sp])], [(42, 86), (45, 88), (54, 89), (55, 90), (56, 91), (59, 92), (65, 93), (66, 94), (70, 95)], invL [], [(2, [2])], [], [], 0, 0⟩
def St0 (x0 : List Int × List Int × List Int × List Int × (List Int × List Int × Bool × Unit) × Unit) : St := stL 85 [(0, .data (.pair (.arr 4 (.int .u64)) (.pair (.arr 4 (.int .u64)) (.pair (.arr 4 (.int .u64)) (.pair (.arr 4 (.int .u64)) (.pair (.pair (.arr 4 (.int .u64)) (.pair (.arr 4 (.int .u64)) (.pair .bool .unit))) .unit))))) x0)] []
def St1 (x2 : Int) : St := stL 85 [(2, .data (.int .i64) x2)] []
def top {α : Type} (Rt : Int → Option α) (x0 : List Int × List Int × List Int × List Int × (List Int × List Int × Bool × Unit) × Unit) : Option α :=
  (Go.Bx.wide_Cmp.run x0.1 [3, 0, 0, 0]).bind fun y1 =>
  (if ((cond (decide (y1 ≤ 0)) true ((Int.tmod (List.getD x0.1 0 0) 4) != 3)) == false) = true then Go.Bx.wide_Cmp.run x0.2.1 x0.1 else some 0).bind fun y2 =>
  (if ((cond (cond (decide (y1 ≤ 0)) true ((Int.tmod (List.getD x0.1 0 0) 4) != 3)) true (decide (y2 ≥ 0))) == false) = true then Go.Bx.wide_Cmp.run x0.2.2.1 x0.1 else some 0).bind fun y3 =>
  (if ((cond (cond (cond (decide (y1 ≤ 0)) true ((Int.tmod (List.getD x0.1 0 0) 4) != 3)) true (decide (y2 ≥ 0))) true (decide (y3 ≥ 0))) == false) = true then Go.Bx.wide_Cmp.run x0.2.2.2.1 [1, 0, 0, 0] else some 0).bind fun y4 =>
  if (cond (cond (cond (cond (decide (y1 ≤ 0)) true ((Int.tmod (List.getD x0.1 0 0) 4) != 3)) true (decide (y2 ≥ 0))) true (decide (y3 ≥ 0))) true (decide (y4 ≤ 0))) = true then
    Rt 16
  else
    (Go.Bx.curve_ringOf_s0.run x0).bind fun y5 =>
    (Go.Bx.curve_ring__small_s0.run y5.1 4 y5.2.2.1).bind fun y6 =>
    (Go.Bx.curve_ring__mul_s1.run y5.1 x0.2.1 x0.2.1 y6.2.1).bind fun y7 =>
    (Go.Bx.curve_ring__mul_s1.run y5.1 x0.2.1 y7.1 y7.2.1).bind fun y8 =>
    (Go.Bx.curve_ring__mul_s1.run y5.1 y6.1 y8.1 y8.2.1).bind fun y9 =>
    (Go.Bx.curve_ring__small_s0.run y5.1 27 y9.2.1).bind fun y10 =>
    (Go.Bx.curve_ring__mul_s1.run y5.1 x0.2.2.1 x0.2.2.1 y10.2.1).bind fun y11 =>
    (Go.Bx.curve_ring__mul_s1.run y5.1 y10.1 y11.1 y11.2.1).bind fun y12 =>
    (Go.Bx.curve_ring__add_s0.run y5.1 y9.1 y12.1 y12.2.1).bind fun y13 =>
    (if ((cond (beqD (.arr 4 (.int .u64)) y13.1 [0, 0, 0, 0]) true x0.2.2.2.2.1.2.2.1) == false) = true then Go.Bx.curve_on.run x0 x0.2.2.2.2.1 else some false).bind fun y14 =>
    if (cond (cond (beqD (.arr 4 (.int .u64)) y13.1 [0, 0, 0, 0]) true x0.2.2.2.2.1.2.2.1) true (not y14)) = true then
      Rt 16
    else
      Rt 0
theorem top_eq {α : Type} (k : Nat) (Q : Ex → St → Option α) (x0 : List Int × List Int × List Int × List Int × (List Int × List Int × Bool × Unit) × Unit) :
    (den C k) (cB Try.f31) Q (St0 x0) = top (fun (x2 : Int) => Q .ret (St1 x2)) x0 := by
  have h : ∀ (D L : DT α), denJ D L Js C (cB Try.f31) Q (St0 x0) =
        (Go.Bx.wide_Cmp.run x0.1 [3, 0, 0, 0]).bind fun y1 =>
        (if ((cond (decide (y1 ≤ 0)) true ((Int.tmod (List.getD x0.1 0 0) 4) != 3)) == false) = true then Go.Bx.wide_Cmp.run x0.2.1 x0.1 else some 0).bind fun y2 =>
        (if ((cond (cond (decide (y1 ≤ 0)) true ((Int.tmod (List.getD x0.1 0 0) 4) != 3)) true (decide (y2 ≥ 0))) == false) = true then Go.Bx.wide_Cmp.run x0.2.2.1 x0.1 else some 0).bind fun y3 =>
        (if ((cond (cond (cond (decide (y1 ≤ 0)) true ((Int.tmod (List.getD x0.1 0 0) 4) != 3)) true (decide (y2 ≥ 0))) true (decide (y3 ≥ 0))) == false) = true then Go.Bx.wide_Cmp.run x0.2.2.2.1 [1, 0, 0, 0] else some 0).bind fun y4 =>
        if (cond (cond (cond (cond (decide (y1 ≤ 0)) true ((Int.tmod (List.getD x0.1 0 0) 4) != 3)) true (decide (y2 ≥ 0))) true (decide (y3 ≥ 0))) true (decide (y4 ≤ 0))) = true then
          Q .ret (St1 16)
        else
          (Go.Bx.curve_ringOf_s0.run x0).bind fun y5 =>
          (Go.Bx.curve_ring__small_s0.run y5.1 4 y5.2.2.1).bind fun y6 =>
          (Go.Bx.curve_ring__mul_s1.run y5.1 x0.2.1 x0.2.1 y6.2.1).bind fun y7 =>
          (Go.Bx.curve_ring__mul_s1.run y5.1 x0.2.1 y7.1 y7.2.1).bind fun y8 =>
          (Go.Bx.curve_ring__mul_s1.run y5.1 y6.1 y8.1 y8.2.1).bind fun y9 =>
          (Go.Bx.curve_ring__small_s0.run y5.1 27 y9.2.1).bind fun y10 =>
          (Go.Bx.curve_ring__mul_s1.run y5.1 x0.2.2.1 x0.2.2.1 y10.2.1).bind fun y11 =>
          (Go.Bx.curve_ring__mul_s1.run y5.1 y10.1 y11.1 y11.2.1).bind fun y12 =>
          (Go.Bx.curve_ring__add_s0.run y5.1 y9.1 y12.1 y12.2.1).bind fun y13 =>
          (if ((cond (beqD (.arr 4 (.int .u64)) y13.1 [0, 0, 0, 0]) true x0.2.2.2.2.1.2.2.1) == false) = true then Go.Bx.curve_on.run x0 x0.2.2.2.2.1 else some false).bind fun y14 =>
          if (cond (cond (beqD (.arr 4 (.int .u64)) y13.1 [0, 0, 0, 0]) true x0.2.2.2.2.1.2.2.1) true (not y14)) = true then
            Q .ret (St1 16)
          else
            Q .ret (St1 0) := by
    intro D L; kernel_rfl
  refine (show (den C k) (cB Try.f31) Q (St0 x0) = denJ (den C k) (lp C k) Js C (cB Try.f31) Q (St0 x0) from (denJ_den _ _ _ _ _ _).symm).trans ((h (den C k) (lp C k)).trans ?_)
  first | rfl | kernel_rfl
def run (x0 : List Int × List Int × List Int × List Int × (List Int × List Int × Bool × Unit) × Unit) : Option (Int) := top (α := Int) (fun (x2 : Int) => some x2) x0
def F : Fn := ⟨(.pair (.pair (.arr 4 (.int .u64)) (.pair (.arr 4 (.int .u64)) (.pair (.arr 4 (.int .u64)) (.pair (.arr 4 (.int .u64)) (.pair (.pair (.arr 4 (.int .u64)) (.pair (.arr 4 (.int .u64)) (.pair .bool .unit))) .unit))))) .unit), (.int .i64), false, fun x => run x.1⟩
set_option maxRecDepth 100000 in
theorem con : Con Try.prog 31 F := by
  refine con_of_den (C := C) (ctx_ok_sh (by kernel_rfl) (by kernel_rfl) (by kernel_rfl) (by kernel_rfl) ⟨.inl ⟨Go.Bx.wide_Cmp.con, Go.Bx.wide_Cmp.named⟩, ⟨.inl ⟨Go.Bx.curve_on.con, Go.Bx.curve_on.named⟩, trivial⟩⟩ ⟨⟨⟨Go.Bx.curve_ringOf_s0.sok, trivial⟩, Go.Bx.curve_ringOf_s0.named⟩, ⟨⟨⟨Go.Bx.curve_ring__mul_s1.sok, trivial⟩, Go.Bx.curve_ring__mul_s1.named⟩, ⟨⟨⟨Go.Bx.curve_ring__small_s0.sok, trivial⟩, Go.Bx.curve_ring__small_s0.named⟩, ⟨⟨⟨Go.Bx.curve_ring__add_s0.sok, trivial⟩, Go.Bx.curve_ring__add_s0.named⟩, trivial⟩⟩⟩⟩) (by kernel_rfl) Try.func31 (c := cB Try.f31) (by kernel_rfl) (by kernel_rfl) F fuel (fun x => by simp [F, spread, Try.ntmps31]) ?_
  intro x r h
  rw [← h]
  have h1 : start F Try.f31.ntmps x = (St0 x.1) := by kernel_rfl
  rw [h1]
  refine (top_eq fuel (fin C Try.f31.results.toList F.rs F.multi) x.1).trans ?_
  kernel_rfl
theorem named : Named Try.prog 31 := named_of Try.func31 (by kernel_rfl) (by kernel_rfl)
end Go.Bx.curve_Check
namespace Go.Bx.basculeref_right
open Go Go.Proofs Go.Bx
set_option maxRecDepth 100000
set_option linter.unusedVariables false
def Js : List Nat := []
def C : Ctx := ⟨[(45, (.arr 4 (.int .u64))), (61, (.pair (.arr 4 (.int .u64)) (.pair (.arr 4 (.int .u64)) (.pair (.arr 4 (.int .u64)) (.pair (.arr 4 (.int .u64)) (.pair (.pair (.arr 4 (.int .u64)) (.pair (.arr 4 (.int .u64)) (.pair .bool .unit))) .unit))))))], [], [], fnL [(94, Go.Bx.basculeref_total.F), (95, Go.Bx.basculeref_product.F)], noSh, [], invL [], [(2, [4])], [], [], 0, 0⟩
def St0 (x0 : List Int × List Int × List Int × List Int × (List Int × List Int × Bool × Unit) × Unit) (x1 : List Int) : St := stL 24 [(0, .data (.pair (.arr 4 (.int .u64)) (.pair (.arr 4 (.int .u64)) (.pair (.arr 4 (.int .u64)) (.pair (.arr 4 (.int .u64)) (.pair (.pair (.arr 4 (.int .u64)) (.pair (.arr 4 (.int .u64)) (.pair .bool .unit))) .unit))))) x0), (1, .data (.arr 4 (.int .u64)) x1)] []
def St1 (c4 : List Int) : St := stL 24 [(4, .ref 4 0 [])] [(4, .cell (.arr 4 (.int .u64)) (.data (.arr 4 (.int .u64)) c4) false)]
def top {α : Type} (Rt : (List Int) → Option α) (x0 : List Int × List Int × List Int × List Int × (List Int × List Int × Bool × Unit) × Unit) (x1 : List Int) : Option α :=
  (Go.Bx.basculeref_product.run x1 x1 x0.1).bind fun y1 =>
  (Go.Bx.basculeref_total.run y1 x0.2.1 x0.1).bind fun y2 =>
  (Go.Bx.basculeref_product.run x1 y2 x0.1).bind fun y3 =>
  (Go.Bx.basculeref_total.run y3 x0.2.2.1 x0.1).bind fun y4 =>
  Rt y4
theorem top_eq {α : Type} (k : Nat) (Q : Ex → St → Option α) (x0 : List Int × List Int × List Int × List Int × (List Int × List Int × Bool × Unit) × Unit) (x1 : List Int) :
    (den C k) (cB Try.f109) Q (St0 x0 x1) = top (fun (c4 : List Int) => Q .ret (St1 c4)) x0 x1 := by
  have h : ∀ (D L : DT α), denJ D L Js C (cB Try.f109) Q (St0 x0 x1) =
        (Go.Bx.basculeref_product.run x1 x1 x0.1).bind fun y1 =>
        (Go.Bx.basculeref_total.run y1 x0.2.1 x0.1).bind fun y2 =>
        (Go.Bx.basculeref_product.run x1 y2 x0.1).bind fun y3 =>
        (Go.Bx.basculeref_total.run y3 x0.2.2.1 x0.1).bind fun y4 =>
        Q .ret (St1 y4) := by
    intro D L; kernel_rfl
  refine (show (den C k) (cB Try.f109) Q (St0 x0 x1) = denJ (den C k) (lp C k) Js C (cB Try.f109) Q (St0 x0 x1) from (denJ_den _ _ _ _ _ _).symm).trans ((h (den C k) (lp C k)).trans ?_)
  first | rfl | kernel_rfl
def run (x0 : List Int × List Int × List Int × List Int × (List Int × List Int × Bool × Unit) × Unit) (x1 : List Int) : Option (List Int) := top (α := List Int) (fun (c4 : List Int) => some c4) x0 x1
def F : Fn := ⟨(.pair (.pair (.arr 4 (.int .u64)) (.pair (.arr 4 (.int .u64)) (.pair (.arr 4 (.int .u64)) (.pair (.arr 4 (.int .u64)) (.pair (.pair (.arr 4 (.int .u64)) (.pair (.arr 4 (.int .u64)) (.pair .bool .unit))) .unit))))) (.pair (.arr 4 (.int .u64)) .unit)), (.arr 4 (.int .u64)), false, fun x => run x.1 x.2.1⟩
set_option maxRecDepth 100000 in
theorem con : Con Try.prog 109 F := by
  refine con_of_den (C := C) (ctx_ok (by kernel_rfl) (by kernel_rfl) (by kernel_rfl) (by kernel_rfl) ⟨.inl ⟨Go.Bx.basculeref_total.con, Go.Bx.basculeref_total.named⟩, ⟨.inl ⟨Go.Bx.basculeref_product.con, Go.Bx.basculeref_product.named⟩, trivial⟩⟩) (by kernel_rfl) Try.func109 (c := cB Try.f109) (by kernel_rfl) (by kernel_rfl) F fuel (fun x => by simp [F, spread, Try.ntmps109]) ?_
  intro x r h
  rw [← h]
  have h1 : start F Try.f109.ntmps x = (St0 x.1 x.2.1) := by kernel_rfl
  rw [h1]
  refine (top_eq fuel (fin C Try.f109.results.toList F.rs F.multi) x.1 x.2.1).trans ?_
  kernel_rfl
theorem named : Named Try.prog 109 := named_of Try.func109 (by kernel_rfl) (by kernel_rfl)
end Go.Bx.basculeref_right
namespace Go.Bx.basculeref_isOn
open Go Go.Proofs Go.Bx
set_option maxRecDepth 100000
set_option linter.unusedVariables false
def Js : List Nat := []
def C : Ctx := ⟨[(4, .bool), (45, (.arr 4 (.int .u64))), (59, (.pair (.arr 4 (.int .u64)) (.pair (.arr 4 (.int .u64)) (.pair .bool .unit)))), (61, (.pair (.arr 4 (.int .u64)) (.pair (.arr 4 (.int .u64)) (.pair (.arr 4 (.int .u64)) (.pair (.arr 4 (.int .u64)) (.pair (.pair (.arr 4 (.int .u64)) (.pair (.arr 4 (.int .u64)) (.pair .bool .unit))) .unit))))))], [], [], fnL [(78, Go.Bx.basculeref_Order.F), (95, Go.Bx.basculeref_product.F), (98, Go.Bx.basculeref_isZero.F), (109, Go.Bx.basculeref_right.F)], noSh, [], invL [], [(2, [4])], [], [], 0, 0⟩
def St0 (x0 : List Int × List Int × List Int × List Int × (List Int × List Int × Bool × Unit) × Unit) (x1 : List Int × List Int × Bool × Unit) : St := stL 43 [(0, .data (.pair (.arr 4 (.int .u64)) (.pair (.arr 4 (.int .u64)) (.pair (.arr 4 (.int .u64)) (.pair (.arr 4 (.int .u64)) (.pair (.pair (.arr 4 (.int .u64)) (.pair (.arr 4 (.int .u64)) (.pair .bool .unit))) .unit))))) x0), (1, .data (.pair (.arr 4 (.int .u64)) (.pair (.arr 4 (.int .u64)) (.pair .bool .unit))) x1)] []
def St1 (x4 : Bool) : St := stL 43 [(4, .data .bool x4)] []
def top {α : Type} (Rt : Bool → Option α) (x0 : List Int × List Int × List Int × List Int × (List Int × List Int × Bool × Unit) × Unit) (x1 : List Int × List Int × Bool × Unit) : Option α :=
  if x1.2.2.1 = true then
    (Go.Bx.basculeref_isZero.run x1.1).bind fun y1 =>
    (if (y1 == true) = true then Go.Bx.basculeref_isZero.run x1.2.1 else some false).bind fun y2 =>
    Rt (cond y1 y2 false)
  else
    (Go.Bx.basculeref_Order.run x1.1 x0.1).bind fun y3 =>
    (if ((decide (y3 < 0)) == true) = true then Go.Bx.basculeref_Order.run x1.2.1 x0.1 else some 0).bind fun y4 =>
    (if ((cond (decide (y3 < 0)) (decide (y4 < 0)) false) == true) = true then Go.Bx.basculeref_product.run x1.2.1 x1.2.1 x0.1 else some [0, 0, 0, 0]).bind fun y5 =>
    (if ((cond (decide (y3 < 0)) (decide (y4 < 0)) false) == true) = true then Go.Bx.basculeref_right.run x0 x1.1 else some [0, 0, 0, 0]).bind fun y6 =>
    Rt (cond (cond (decide (y3 < 0)) (decide (y4 < 0)) false) (beqD (.arr 4 (.int .u64)) y5 y6) false)
theorem top_eq {α : Type} (k : Nat) (Q : Ex → St → Option α) (x0 : List Int × List Int × List Int × List Int × (List Int × List Int × Bool × Unit) × Unit) (x1 : List Int × List Int × Bool × Unit) :
    (den C k) (cB Try.f99) Q (St0 x0 x1) = top (fun (x4 : Bool) => Q .ret (St1 x4)) x0 x1 := by
  have h : ∀ (D L : DT α), denJ D L Js C (cB Try.f99) Q (St0 x0 x1) =
        if x1.2.2.1 = true then
          (Go.Bx.basculeref_isZero.run x1.1).bind fun y1 =>
          (if (y1 == true) = true then Go.Bx.basculeref_isZero.run x1.2.1 else some false).bind fun y2 =>
          Q .ret (St1 (cond y1 y2 false))
        else
          (Go.Bx.basculeref_Order.run x1.1 x0.1).bind fun y3 =>
          (if ((decide (y3 < 0)) == true) = true then Go.Bx.basculeref_Order.run x1.2.1 x0.1 else some 0).bind fun y4 =>
          (if ((cond (decide (y3 < 0)) (decide (y4 < 0)) false) == true) = true then Go.Bx.basculeref_product.run x1.2.1 x1.2.1 x0.1 else some [0, 0, 0, 0]).bind fun y5 =>
          (if ((cond (decide (y3 < 0)) (decide (y4 < 0)) false) == true) = true then Go.Bx.basculeref_right.run x0 x1.1 else some [0, 0, 0, 0]).bind fun y6 =>
          Q .ret (St1 (cond (cond (decide (y3 < 0)) (decide (y4 < 0)) false) (beqD (.arr 4 (.int .u64)) y5 y6) false)) := by
    intro D L; kernel_rfl
  refine (show (den C k) (cB Try.f99) Q (St0 x0 x1) = denJ (den C k) (lp C k) Js C (cB Try.f99) Q (St0 x0 x1) from (denJ_den _ _ _ _ _ _).symm).trans ((h (den C k) (lp C k)).trans ?_)
  first | rfl | kernel_rfl
def run (x0 : List Int × List Int × List Int × List Int × (List Int × List Int × Bool × Unit) × Unit) (x1 : List Int × List Int × Bool × Unit) : Option (Bool) := top (α := Bool) (fun (x4 : Bool) => some x4) x0 x1
def F : Fn := ⟨(.pair (.pair (.arr 4 (.int .u64)) (.pair (.arr 4 (.int .u64)) (.pair (.arr 4 (.int .u64)) (.pair (.arr 4 (.int .u64)) (.pair (.pair (.arr 4 (.int .u64)) (.pair (.arr 4 (.int .u64)) (.pair .bool .unit))) .unit))))) (.pair (.pair (.arr 4 (.int .u64)) (.pair (.arr 4 (.int .u64)) (.pair .bool .unit))) .unit)), .bool, false, fun x => run x.1 x.2.1⟩
set_option maxRecDepth 100000 in
theorem con : Con Try.prog 99 F := by
  refine con_of_den (C := C) (ctx_ok (by kernel_rfl) (by kernel_rfl) (by kernel_rfl) (by kernel_rfl) ⟨.inl ⟨Go.Bx.basculeref_Order.con, Go.Bx.basculeref_Order.named⟩, ⟨.inl ⟨Go.Bx.basculeref_product.con, Go.Bx.basculeref_product.named⟩, ⟨.inl ⟨Go.Bx.basculeref_isZero.con, Go.Bx.basculeref_isZero.named⟩, ⟨.inl ⟨Go.Bx.basculeref_right.con, Go.Bx.basculeref_right.named⟩, trivial⟩⟩⟩⟩) (by kernel_rfl) Try.func99 (c := cB Try.f99) (by kernel_rfl) (by kernel_rfl) F fuel (fun x => by simp [F, spread, Try.ntmps99]) ?_
  intro x r h
  rw [← h]
  have h1 : start F Try.f99.ntmps x = (St0 x.1 x.2.1) := by kernel_rfl
  rw [h1]
  refine (top_eq fuel (fin C Try.f99.results.toList F.rs F.multi) x.1 x.2.1).trans ?_
  kernel_rfl
theorem named : Named Try.prog 99 := named_of Try.func99 (by kernel_rfl) (by kernel_rfl)
end Go.Bx.basculeref_isOn
namespace Go.Bx.basculeref_CurveFault
open Go Go.Proofs Go.Bx
set_option maxRecDepth 100000
set_option linter.unusedVariables false
def Js : List Nat := []
def C : Ctx := ⟨[(4, .bool), (24, (.int .u64)), (31, (.int .i64)), (45, (.arr 4 (.int .u64))), (59, (.pair (.arr 4 (.int .u64)) (.pair (.arr 4 (.int .u64)) (.pair .bool .unit)))), (61, (.pair (.arr 4 (.int .u64)) (.pair (.arr 4 (.int .u64)) (.pair (.arr 4 (.int .u64)) (.pair (.arr 4 (.int .u64)) (.pair (.pair (.arr 4 (.int .u64)) (.pair (.arr 4 (.int .u64)) (.pair .bool .unit))) .unit))))))], [], [], fnL [(78, Go.Bx.basculeref_Order.F), (94, Go.Bx.basculeref_total.F), (95, Go.Bx.basculeref_product.F), (96, Go.Bx.basculeref_by.F), (97, Go.Bx.basculeref_power.F), (98, Go.Bx.basculeref_isZero.F), (99, Go.Bx.basculeref_isOn.F)], noSh, [], invL [], [(2, [2])], [], [], 0, 0⟩
def St0 (x0 : List Int × List Int × List Int × List Int × (List Int × List Int × Bool × Unit) × Unit) : St := stL 83 [(0, .data (.pair (.arr 4 (.int .u64)) (.pair (.arr 4 (.int .u64)) (.pair (.arr 4 (.int .u64)) (.pair (.arr 4 (.int .u64)) (.pair (.pair (.arr 4 (.int .u64)) (.pair (.arr 4 (.int .u64)) (.pair .bool .unit))) .unit))))) x0)] []
def St1 (x2 : Int) : St := stL 83 [(2, .data (.int .i64) x2)] []
def top {α : Type} (Rt : Int → Option α) (x0 : List Int × List Int × List Int × List Int × (List Int × List Int × Bool × Unit) × Unit) : Option α :=
  (Go.Bx.basculeref_Order.run x0.1 [3, 0, 0, 0]).bind fun y1 =>
  (if ((cond (decide (y1 > 0)) ((band .u64 (List.getD x0.1 0 0) 3) == 3) false) == true) = true then Go.Bx.basculeref_Order.run x0.2.1 x0.1 else some 0).bind fun y2 =>
  (if ((cond (cond (decide (y1 > 0)) ((band .u64 (List.getD x0.1 0 0) 3) == 3) false) (decide (y2 < 0)) false) == true) = true then Go.Bx.basculeref_Order.run x0.2.2.1 x0.1 else some 0).bind fun y3 =>
  (if ((cond (cond (cond (decide (y1 > 0)) ((band .u64 (List.getD x0.1 0 0) 3) == 3) false) (decide (y2 < 0)) false) (decide (y3 < 0)) false) == true) = true then Go.Bx.basculeref_Order.run x0.2.2.2.1 [1, 0, 0, 0] else some 0).bind fun y4 =>
  if (not (cond (cond (cond (cond (decide (y1 > 0)) ((band .u64 (List.getD x0.1 0 0) 3) == 3) false) (decide (y2 < 0)) false) (decide (y3 < 0)) false) (decide (y4 > 0)) false)) = true then
    Rt 16
  else
    (Go.Bx.basculeref_by.run 4 x0.1).bind fun y5 =>
    (Go.Bx.basculeref_power.run x0.2.1 [3, 0, 0, 0] x0.1).bind fun y6 =>
    (Go.Bx.basculeref_product.run y5 y6 x0.1).bind fun y7 =>
    (Go.Bx.basculeref_by.run 27 x0.1).bind fun y8 =>
    (Go.Bx.basculeref_power.run x0.2.2.1 [2, 0, 0, 0] x0.1).bind fun y9 =>
    (Go.Bx.basculeref_product.run y8 y9 x0.1).bind fun y10 =>
    (Go.Bx.basculeref_total.run y7 y10 x0.1).bind fun y11 =>
    (Go.Bx.basculeref_isZero.run y11).bind fun y12 =>
    (if ((cond y12 true x0.2.2.2.2.1.2.2.1) == false) = true then Go.Bx.basculeref_isOn.run x0 x0.2.2.2.2.1 else some false).bind fun y13 =>
    if (cond (cond y12 true x0.2.2.2.2.1.2.2.1) true (not y13)) = true then
      Rt 16
    else
      Rt 0
theorem top_eq {α : Type} (k : Nat) (Q : Ex → St → Option α) (x0 : List Int × List Int × List Int × List Int × (List Int × List Int × Bool × Unit) × Unit) :
    (den C k) (cB Try.f33) Q (St0 x0) = top (fun (x2 : Int) => Q .ret (St1 x2)) x0 := by
  have h : ∀ (D L : DT α), denJ D L Js C (cB Try.f33) Q (St0 x0) =
        (Go.Bx.basculeref_Order.run x0.1 [3, 0, 0, 0]).bind fun y1 =>
        (if ((cond (decide (y1 > 0)) ((band .u64 (List.getD x0.1 0 0) 3) == 3) false) == true) = true then Go.Bx.basculeref_Order.run x0.2.1 x0.1 else some 0).bind fun y2 =>
        (if ((cond (cond (decide (y1 > 0)) ((band .u64 (List.getD x0.1 0 0) 3) == 3) false) (decide (y2 < 0)) false) == true) = true then Go.Bx.basculeref_Order.run x0.2.2.1 x0.1 else some 0).bind fun y3 =>
        (if ((cond (cond (cond (decide (y1 > 0)) ((band .u64 (List.getD x0.1 0 0) 3) == 3) false) (decide (y2 < 0)) false) (decide (y3 < 0)) false) == true) = true then Go.Bx.basculeref_Order.run x0.2.2.2.1 [1, 0, 0, 0] else some 0).bind fun y4 =>
        if (not (cond (cond (cond (cond (decide (y1 > 0)) ((band .u64 (List.getD x0.1 0 0) 3) == 3) false) (decide (y2 < 0)) false) (decide (y3 < 0)) false) (decide (y4 > 0)) false)) = true then
          Q .ret (St1 16)
        else
          (Go.Bx.basculeref_by.run 4 x0.1).bind fun y5 =>
          (Go.Bx.basculeref_power.run x0.2.1 [3, 0, 0, 0] x0.1).bind fun y6 =>
          (Go.Bx.basculeref_product.run y5 y6 x0.1).bind fun y7 =>
          (Go.Bx.basculeref_by.run 27 x0.1).bind fun y8 =>
          (Go.Bx.basculeref_power.run x0.2.2.1 [2, 0, 0, 0] x0.1).bind fun y9 =>
          (Go.Bx.basculeref_product.run y8 y9 x0.1).bind fun y10 =>
          (Go.Bx.basculeref_total.run y7 y10 x0.1).bind fun y11 =>
          (Go.Bx.basculeref_isZero.run y11).bind fun y12 =>
          (if ((cond y12 true x0.2.2.2.2.1.2.2.1) == false) = true then Go.Bx.basculeref_isOn.run x0 x0.2.2.2.2.1 else some false).bind fun y13 =>
          if (cond (cond y12 true x0.2.2.2.2.1.2.2.1) true (not y13)) = true then
            Q .ret (St1 16)
          else
            Q .ret (St1 0) := by
    intro D L; kernel_rfl
  refine (show (den C k) (cB Try.f33) Q (St0 x0) = denJ (den C k) (lp C k) Js C (cB Try.f33) Q (St0 x0) from (denJ_den _ _ _ _ _ _).symm).trans ((h (den C k) (lp C k)).trans ?_)
  first | rfl | kernel_rfl
def run (x0 : List Int × List Int × List Int × List Int × (List Int × List Int × Bool × Unit) × Unit) : Option (Int) := top (α := Int) (fun (x2 : Int) => some x2) x0
def F : Fn := ⟨(.pair (.pair (.arr 4 (.int .u64)) (.pair (.arr 4 (.int .u64)) (.pair (.arr 4 (.int .u64)) (.pair (.arr 4 (.int .u64)) (.pair (.pair (.arr 4 (.int .u64)) (.pair (.arr 4 (.int .u64)) (.pair .bool .unit))) .unit))))) .unit), (.int .i64), false, fun x => run x.1⟩
set_option maxRecDepth 100000 in
theorem con : Con Try.prog 33 F := by
  refine con_of_den (C := C) (ctx_ok (by kernel_rfl) (by kernel_rfl) (by kernel_rfl) (by kernel_rfl) ⟨.inl ⟨Go.Bx.basculeref_Order.con, Go.Bx.basculeref_Order.named⟩, ⟨.inl ⟨Go.Bx.basculeref_total.con, Go.Bx.basculeref_total.named⟩, ⟨.inl ⟨Go.Bx.basculeref_product.con, Go.Bx.basculeref_product.named⟩, ⟨.inl ⟨Go.Bx.basculeref_by.con, Go.Bx.basculeref_by.named⟩, ⟨.inl ⟨Go.Bx.basculeref_power.con, Go.Bx.basculeref_power.named⟩, ⟨.inl ⟨Go.Bx.basculeref_isZero.con, Go.Bx.basculeref_isZero.named⟩, ⟨.inl ⟨Go.Bx.basculeref_isOn.con, Go.Bx.basculeref_isOn.named⟩, trivial⟩⟩⟩⟩⟩⟩⟩) (by kernel_rfl) Try.func33 (c := cB Try.f33) (by kernel_rfl) (by kernel_rfl) F fuel (fun x => by simp [F, spread, Try.ntmps33]) ?_
  intro x r h
  rw [← h]
  have h1 : start F Try.f33.ntmps x = (St0 x.1) := by kernel_rfl
  rw [h1]
  refine (top_eq fuel (fin C Try.f33.results.toList F.rs F.multi) x.1).trans ?_
  kernel_rfl
theorem named : Named Try.prog 33 := named_of Try.func33 (by kernel_rfl) (by kernel_rfl)
end Go.Bx.basculeref_CurveFault
namespace Go.Bx.curve_add
open Go Go.Proofs Go.Bx
set_option maxRecDepth 100000
set_option linter.unusedVariables false
def Js : List Nat := [14]
def C : Ctx := ⟨[(4, .bool), (45, (.arr 4 (.int .u64))), (59, (.pair (.arr 4 (.int .u64)) (.pair (.arr 4 (.int .u64)) (.pair .bool .unit)))), (61, (.pair (.arr 4 (.int .u64)) (.pair (.arr 4 (.int .u64)) (.pair (.arr 4 (.int .u64)) (.pair (.arr 4 (.int .u64)) (.pair (.pair (.arr 4 (.int .u64)) (.pair (.arr 4 (.int .u64)) (.pair .bool .unit))) .unit)))))), (117, .opq), (119, (.pair (.arr 4 (.int .u64)) (.pair .opq .unit)))], [], [], fnL [], shL [(89, [.one Go.Bx.curve_ringOf_s0.Sp]), (90, [.one Go.Bx.curve_ring__mul_s1.Sp]), (91, [.one Go.Bx.curve_ring__small_s0.Sp]), (92, [.one Go.Bx.curve_ring__add_s0.Sp]), (162, [.one Go.Bx.curve_ring__sub_s0.Sp]), (163, [.one Go.Bx.curve_ring__inv_s0.Sp])], [(21, 113), (27, 115), (33, 116), (44, 117), (57, 118), (63, 119), (64, 120), (67, 121), (73, 122), (78, 123), (79, 124), (85, 125), (88, 126), (91, 127), (99, 128), (100, 129), (103, 130)], invL [], [(2, [6, 7]), (39, [4, 5, 6, 8, 9, 10])], [], [], 0, 0⟩
def St0 (x0 : List Int × List Int × List Int × List Int × (List Int × List Int × Bool × Unit) × Unit) (x1 : List Int × List Int × Bool × Unit) (x2 : List Int × List Int × Bool × Unit) : St := stL 112 [(0, .data (.pair (.arr 4 (.int .u64)) (.pair (.arr 4 (.int .u64)) (.pair (.arr 4 (.int .u64)) (.pair (.arr 4 (.int .u64)) (.pair (.pair (.arr 4 (.int .u64)) (.pair (.arr 4 (.int .u64)) (.pair .bool .unit))) .unit))))) x0), (1, .data (.pair (.arr 4 (.int .u64)) (.pair (.arr 4 (.int .u64)) (.pair .bool .unit))) x1), (2, .data (.pair (.arr 4 (.int .u64)) (.pair (.arr 4 (.int .u64)) (.pair .bool .unit))) x2)] []
def St1 (x7 : Bool) (c6 : List Int × List Int × Bool × Unit) : St := stL 112 [(6, .ref 6 0 []), (7, .data .bool x7)] [(6, .cell (.pair (.arr 4 (.int .u64)) (.pair (.arr 4 (.int .u64)) (.pair .bool .unit))) (.data (.pair (.arr 4 (.int .u64)) (.pair (.arr 4 (.int .u64)) (.pair .bool .unit))) c6) false)]
def St2 (c4 : List Int × List Int × Bool × Unit) (c5 : List Int × List Int × Bool × Unit) (c6 : List Int × List Int × Bool × Unit) (c8p0 : List Int) (c9 : List Int) (c10 : List Int) (c114 : Bool) : St := stL 112 [(4, .ref 4 0 []), (5, .ref 5 0 []), (6, .ref 6 0 []), (8, .ref 8 0 []), (9, .ref 9 0 []), (10, .ref 10 0 [])] [(4, .cell (.pair (.arr 4 (.int .u64)) (.pair (.arr 4 (.int .u64)) (.pair .bool .unit))) (.data (.pair (.arr 4 (.int .u64)) (.pair (.arr 4 (.int .u64)) (.pair .bool .unit))) c4) false), (5, .cell (.pair (.arr 4 (.int .u64)) (.pair (.arr 4 (.int .u64)) (.pair .bool .unit))) (.data (.pair (.arr 4 (.int .u64)) (.pair (.arr 4 (.int .u64)) (.pair .bool .unit))) c5) false), (6, .cell (.pair (.arr 4 (.int .u64)) (.pair (.arr 4 (.int .u64)) (.pair .bool .unit))) (.data (.pair (.arr 4 (.int .u64)) (.pair (.arr 4 (.int .u64)) (.pair .bool .unit))) c6) false), (8, .cell (.pair (.arr 4 (.int .u64)) (.pair .opq .unit)) (.agg (.pair (.arr 4 (.int .u64)) (.pair .opq .unit)) [.data (.arr 4 (.int .u64)) c8p0, .ref 114 0 []]) false), (9, .cell (.arr 4 (.int .u64)) (.data (.arr 4 (.int .u64)) c9) false), (10, .cell (.arr 4 (.int .u64)) (.data (.arr 4 (.int .u64)) c10) false), (114, .cell .bool (.data .bool c114) false)]
noncomputable def cd0 : Code := cR (cR (cR (cR (cR (cR (cB Try.f101))))))
def j0 {α : Type} (Rt : Bool → (List Int × List Int × Bool × Unit) → Option α) (c4 : List Int × List Int × Bool × Unit) (c5 : List Int × List Int × Bool × Unit) (c6 : List Int × List Int × Bool × Unit) (c8p0 : List Int) (c9 : List Int) (c10 : List Int) (c114 : Bool) : Option α :=
  (Go.Bx.curve_ring__inv_s0.run c8p0 c10 c114).bind fun y10 =>
  (Go.Bx.curve_ring__mul_s1.run c8p0 c9 y10.1 y10.2.1).bind fun y11 =>
  (Go.Bx.curve_ring__mul_s1.run c8p0 y11.1 y11.1 y11.2.1).bind fun y12 =>
  (Go.Bx.curve_ring__sub_s0.run c8p0 y12.1 c4.1 y12.2.1).bind fun y13 =>
  (Go.Bx.curve_ring__sub_s0.run c8p0 y13.1 c5.1 y13.2.1).bind fun y14 =>
  (Go.Bx.curve_ring__sub_s0.run c8p0 c4.1 y14.1 y14.2.1).bind fun y15 =>
  (Go.Bx.curve_ring__mul_s1.run c8p0 y11.1 y15.1 y15.2.1).bind fun y16 =>
  (Go.Bx.curve_ring__sub_s0.run c8p0 y16.1 c4.2.1 y16.2.1).bind fun y17 =>
  if y17.2.1 = true then
    Rt false ([0, 0, 0, 0], [0, 0, 0, 0], false, ())
  else
    Rt true (y14.1, y17.1, false, ())
theorem j0_eq {α : Type} (k : Nat) (Q : Ex → St → Option α) (c4 : List Int × List Int × Bool × Unit) (c5 : List Int × List Int × Bool × Unit) (c6 : List Int × List Int × Bool × Unit) (c8p0 : List Int) (c9 : List Int) (c10 : List Int) (c114 : Bool) :
    (den C k) cd0 Q (St2 c4 c5 c6 c8p0 c9 c10 c114) = j0 (fun (x7 : Bool) (c6 : List Int × List Int × Bool × Unit) => Q .ret (St1 x7 c6)) c4 c5 c6 c8p0 c9 c10 c114 := by
  have h : ∀ (D L : DT α), denJ D L Js C cd0 Q (St2 c4 c5 c6 c8p0 c9 c10 c114) =
        (Go.Bx.curve_ring__inv_s0.run c8p0 c10 c114).bind fun y10 =>
        (Go.Bx.curve_ring__mul_s1.run c8p0 c9 y10.1 y10.2.1).bind fun y11 =>
        (Go.Bx.curve_ring__mul_s1.run c8p0 y11.1 y11.1 y11.2.1).bind fun y12 =>
        (Go.Bx.curve_ring__sub_s0.run c8p0 y12.1 c4.1 y12.2.1).bind fun y13 =>
        (Go.Bx.curve_ring__sub_s0.run c8p0 y13.1 c5.1 y13.2.1).bind fun y14 =>
        (Go.Bx.curve_ring__sub_s0.run c8p0 c4.1 y14.1 y14.2.1).bind fun y15 =>
        (Go.Bx.curve_ring__mul_s1.run c8p0 y11.1 y15.1 y15.2.1).bind fun y16 =>
        (Go.Bx.curve_ring__sub_s0.run c8p0 y16.1 c4.2.1 y16.2.1).bind fun y17 =>
        if y17.2.1 = true then
          Q .ret (St1 false ([0, 0, 0, 0], [0, 0, 0, 0], false, ()))
        else
          Q .ret (St1 true (y14.1, y17.1, false, ())) := by
    intro D L; kernel_rfl
  refine (show (den C k) cd0 Q (St2 c4 c5 c6 c8p0 c9 c10 c114) = denJ (den C k) (lp C k) Js C cd0 Q (St2 c4 c5 c6 c8p0 c9 c10 c114) from (denJ_den _ _ _ _ _ _).symm).trans ((h (den C k) (lp C k)).trans ?_)
  first | rfl | kernel_rfl
def top {α : Type} (Rt : Bool → (List Int × List Int × Bool × Unit) → Option α) (x0 : List Int × List Int × List Int × List Int × (List Int × List Int × Bool × Unit) × Unit) (x1 : List Int × List Int × Bool × Unit) (x2 : List Int × List Int × Bool × Unit) : Option α :=
  if x1.2.2.1 = true then
    Rt true x2
  else
    if x2.2.2.1 = true then
      Rt true x1
    else
      (Go.Bx.curve_ringOf_s0.run x0).bind fun y1 =>
      (Go.Bx.curve_ring__sub_s0.run y1.1 x2.2.1 x1.2.1 y1.2.2.1).bind fun y2 =>
      (Go.Bx.curve_ring__sub_s0.run y1.1 x2.1 x1.1 y2.2.1).bind fun y3 =>
      if (beqD (.arr 4 (.int .u64)) x1.1 x2.1) = true then
        (Go.Bx.curve_ring__add_s0.run y1.1 x1.2.1 x2.2.1 y3.2.1).bind fun y4 =>
        if (beqD (.arr 4 (.int .u64)) y4.1 [0, 0, 0, 0]) = true then
          Rt true ([0, 0, 0, 0], [0, 0, 0, 0], true, ())
        else
          if (not (beqD (.arr 4 (.int .u64)) x1.2.1 x2.2.1)) = true then
            Rt false ([0, 0, 0, 0], [0, 0, 0, 0], false, ())
          else
            (Go.Bx.curve_ring__small_s0.run y1.1 3 y4.2.1).bind fun y5 =>
            (Go.Bx.curve_ring__mul_s1.run y1.1 x1.1 x1.1 y5.2.1).bind fun y6 =>
            (Go.Bx.curve_ring__mul_s1.run y1.1 y5.1 y6.1 y6.2.1).bind fun y7 =>
            (Go.Bx.curve_ring__add_s0.run y1.1 y7.1 x0.2.1 y7.2.1).bind fun y8 =>
            (Go.Bx.curve_ring__add_s0.run y1.1 x1.2.1 x1.2.1 y8.2.1).bind fun y9 =>
            j0 Rt x1 x2 ([0, 0, 0, 0], [0, 0, 0, 0], false, ()) y1.1 y8.1 y9.1 y9.2.1
      else
        j0 Rt x1 x2 ([0, 0, 0, 0], [0, 0, 0, 0], false, ()) y1.1 y2.1 y3.1 y3.2.1
theorem top_eq {α : Type} (k : Nat) (Q : Ex → St → Option α) (x0 : List Int × List Int × List Int × List Int × (List Int × List Int × Bool × Unit) × Unit) (x1 : List Int × List Int × Bool × Unit) (x2 : List Int × List Int × Bool × Unit) :
    (den C k) (cB Try.f101) Q (St0 x0 x1 x2) = top (fun (x7 : Bool) (c6 : List Int × List Int × Bool × Unit) => Q .ret (St1 x7 c6)) x0 x1 x2 := by
  have h : ∀ (D L : DT α), denJ D L Js C (cB Try.f101) Q (St0 x0 x1 x2) =
        if x1.2.2.1 = true then
          Q .ret (St1 true x2)
        else
          if x2.2.2.1 = true then
            Q .ret (St1 true x1)
          else
            (Go.Bx.curve_ringOf_s0.run x0).bind fun y1 =>
            (Go.Bx.curve_ring__sub_s0.run y1.1 x2.2.1 x1.2.1 y1.2.2.1).bind fun y2 =>
            (Go.Bx.curve_ring__sub_s0.run y1.1 x2.1 x1.1 y2.2.1).bind fun y3 =>
            if (beqD (.arr 4 (.int .u64)) x1.1 x2.1) = true then
              (Go.Bx.curve_ring__add_s0.run y1.1 x1.2.1 x2.2.1 y3.2.1).bind fun y4 =>
              if (beqD (.arr 4 (.int .u64)) y4.1 [0, 0, 0, 0]) = true then
                Q .ret (St1 true ([0, 0, 0, 0], [0, 0, 0, 0], true, ()))
              else
                if (not (beqD (.arr 4 (.int .u64)) x1.2.1 x2.2.1)) = true then
                  Q .ret (St1 false ([0, 0, 0, 0], [0, 0, 0, 0], false, ()))
                else
                  (Go.Bx.curve_ring__small_s0.run y1.1 3 y4.2.1).bind fun y5 =>
                  (Go.Bx.curve_ring__mul_s1.run y1.1 x1.1 x1.1 y5.2.1).bind fun y6 =>
                  (Go.Bx.curve_ring__mul_s1.run y1.1 y5.1 y6.1 y6.2.1).bind fun y7 =>
                  (Go.Bx.curve_ring__add_s0.run y1.1 y7.1 x0.2.1 y7.2.1).bind fun y8 =>
                  (Go.Bx.curve_ring__add_s0.run y1.1 x1.2.1 x1.2.1 y8.2.1).bind fun y9 =>
                  D cd0 Q (St2 x1 x2 ([0, 0, 0, 0], [0, 0, 0, 0], false, ()) y1.1 y8.1 y9.1 y9.2.1)
            else
              D cd0 Q (St2 x1 x2 ([0, 0, 0, 0], [0, 0, 0, 0], false, ()) y1.1 y2.1 y3.1 y3.2.1) := by
    intro D L; kernel_rfl
  refine (show (den C k) (cB Try.f101) Q (St0 x0 x1 x2) = denJ (den C k) (lp C k) Js C (cB Try.f101) Q (St0 x0 x1 x2) from (denJ_den _ _ _ _ _ _).symm).trans ((h (den C k) (lp C k)).trans ?_)
  simp only [j0_eq]
  first | rfl | kernel_rfl
def run (x0 : List Int × List Int × List Int × List Int × (List Int × List Int × Bool × Unit) × Unit) (x1 : List Int × List Int × Bool × Unit) (x2 : List Int × List Int × Bool × Unit) : Option ((List Int × List Int × Bool × Unit) × Bool × Unit) := top (α := (List Int × List Int × Bool × Unit) × Bool × Unit) (fun (x7 : Bool) (c6 : List Int × List Int × Bool × Unit) => some (c6, x7, ())) x0 x1 x2
def F : Fn := ⟨(.pair (.pair (.arr 4 (.int .u64)) (.pair (.arr 4 (.int .u64)) (.pair (.arr 4 (.int .u64)) (.pair (.arr 4 (.int .u64)) (.pair (.pair (.arr 4 (.int .u64)) (.pair (.arr 4 (.int .u64)) (.pair .bool .unit))) .unit))))) (.pair (.pair (.arr 4 (.int .u64)) (.pair (.arr 4 (.int .u64)) (.pair .bool .unit))) (.pair (.pair (.arr 4 (.int .u64)) (.pair (.arr 4 (.int .u64)) (.pair .bool .unit))) .unit))), (.pair (.pair (.arr 4 (.int .u64)) (.pair (.arr 4 (.int .u64)) (.pair .bool .unit))) (.pair .bool .unit)), true, fun x => run x.1 x.2.1 x.2.2.1⟩
set_option maxRecDepth 100000 in
theorem con : Con Try.prog 101 F := by
  refine con_of_den (C := C) (ctx_ok_sh (by kernel_rfl) (by kernel_rfl) (by kernel_rfl) (by kernel_rfl) trivial ⟨⟨⟨Go.Bx.curve_ringOf_s0.sok, trivial⟩, Go.Bx.curve_ringOf_s0.named⟩, ⟨⟨⟨Go.Bx.curve_ring__mul_s1.sok, trivial⟩, Go.Bx.curve_ring__mul_s1.named⟩, ⟨⟨⟨Go.Bx.curve_ring__small_s0.sok, trivial⟩, Go.Bx.curve_ring__small_s0.named⟩, ⟨⟨⟨Go.Bx.curve_ring__add_s0.sok, trivial⟩, Go.Bx.curve_ring__add_s0.named⟩, ⟨⟨⟨Go.Bx.curve_ring__sub_s0.sok, trivial⟩, Go.Bx.curve_ring__sub_s0.named⟩, ⟨⟨⟨Go.Bx.curve_ring__inv_s0.sok, trivial⟩, Go.Bx.curve_ring__inv_s0.named⟩, trivial⟩⟩⟩⟩⟩⟩) (by kernel_rfl) Try.func101 (c := cB Try.f101) (by kernel_rfl) (by kernel_rfl) F fuel (fun x => by simp [F, spread, Try.ntmps101]) ?_
  intro x r h
  rw [← h]
  have h1 : start F Try.f101.ntmps x = (St0 x.1 x.2.1 x.2.2.1) := by kernel_rfl
  rw [h1]
  refine (top_eq fuel (fin C Try.f101.results.toList F.rs F.multi) x.1 x.2.1 x.2.2.1).trans ?_
  kernel_rfl
theorem named : Named Try.prog 101 := named_of Try.func101 (by kernel_rfl) (by kernel_rfl)
end Go.Bx.curve_add
namespace Go.Bx.basculeref_together
open Go Go.Proofs Go.Bx
set_option maxRecDepth 100000
set_option linter.unusedVariables false
def Js : List Nat := [13]
def C : Ctx := ⟨[(4, .bool), (45, (.arr 4 (.int .u64))), (59, (.pair (.arr 4 (.int .u64)) (.pair (.arr 4 (.int .u64)) (.pair .bool .unit)))), (61, (.pair (.arr 4 (.int .u64)) (.pair (.arr 4 (.int .u64)) (.pair (.arr 4 (.int .u64)) (.pair (.arr 4 (.int .u64)) (.pair (.pair (.arr 4 (.int .u64)) (.pair (.arr 4 (.int .u64)) (.pair .bool .unit))) .unit))))))], [], [], fnL [(94, Go.Bx.basculeref_total.F), (95, Go.Bx.basculeref_product.F), (96, Go.Bx.basculeref_by.F), (98, Go.Bx.basculeref_isZero.F), (110, Go.Bx.basculeref_opposite.F), (134, Go.Bx.basculeref_inverse.F)], noSh, [], invL [], [(2, [6, 7]), (1, [3, 4, 5, 6]), (36, [3, 4, 5, 6, 8, 9])], [], [], 0, 0⟩
def St0 (x0 : List Int × List Int × List Int × List Int × (List Int × List Int × Bool × Unit) × Unit) (x1 : List Int × List Int × Bool × Unit) (x2 : List Int × List Int × Bool × Unit) : St := stL 145 [(0, .data (.pair (.arr 4 (.int .u64)) (.pair (.arr 4 (.int .u64)) (.pair (.arr 4 (.int .u64)) (.pair (.arr 4 (.int .u64)) (.pair (.pair (.arr 4 (.int .u64)) (.pair (.arr 4 (.int .u64)) (.pair .bool .unit))) .unit))))) x0), (1, .data (.pair (.arr 4 (.int .u64)) (.pair (.arr 4 (.int .u64)) (.pair .bool .unit))) x1), (2, .data (.pair (.arr 4 (.int .u64)) (.pair (.arr 4 (.int .u64)) (.pair .bool .unit))) x2)] []
def St1 (x7 : Bool) (c6 : List Int × List Int × Bool × Unit) : St := stL 145 [(6, .ref 6 0 []), (7, .data .bool x7)] [(6, .cell (.pair (.arr 4 (.int .u64)) (.pair (.arr 4 (.int .u64)) (.pair .bool .unit))) (.data (.pair (.arr 4 (.int .u64)) (.pair (.arr 4 (.int .u64)) (.pair .bool .unit))) c6) false)]
def St2 (c3 : List Int × List Int × List Int × List Int × (List Int × List Int × Bool × Unit) × Unit) (c4 : List Int × List Int × Bool × Unit) (c5 : List Int × List Int × Bool × Unit) (c6 : List Int × List Int × Bool × Unit) (c8 : List Int) (c9 : List Int) : St := stL 145 [(3, .ref 3 0 []), (4, .ref 4 0 []), (5, .ref 5 0 []), (6, .ref 6 0 []), (8, .ref 8 0 []), (9, .ref 9 0 [])] [(3, .cell (.pair (.arr 4 (.int .u64)) (.pair (.arr 4 (.int .u64)) (.pair (.arr 4 (.int .u64)) (.pair (.arr 4 (.int .u64)) (.pair (.pair (.arr 4 (.int .u64)) (.pair (.arr 4 (.int .u64)) (.pair .bool .unit))) .unit))))) (.data (.pair (.arr 4 (.int .u64)) (.pair (.arr 4 (.int .u64)) (.pair (.arr 4 (.int .u64)) (.pair (.arr 4 (.int .u64)) (.pair (.pair (.arr 4 (.int .u64)) (.pair (.arr 4 (.int .u64)) (.pair .bool .unit))) .unit))))) c3) false), (4, .cell (.pair (.arr 4 (.int .u64)) (.pair (.arr 4 (.int .u64)) (.pair .bool .unit))) (.data (.pair (.arr 4 (.int .u64)) (.pair (.arr 4 (.int .u64)) (.pair .bool .unit))) c4) false), (5, .cell (.pair (.arr 4 (.int .u64)) (.pair (.arr 4 (.int .u64)) (.pair .bool .unit))) (.data (.pair (.arr 4 (.int .u64)) (.pair (.arr 4 (.int .u64)) (.pair .bool .unit))) c5) false), (6, .cell (.pair (.arr 4 (.int .u64)) (.pair (.arr 4 (.int .u64)) (.pair .bool .unit))) (.data (.pair (.arr 4 (.int .u64)) (.pair (.arr 4 (.int .u64)) (.pair .bool .unit))) c6) false), (8, .cell (.arr 4 (.int .u64)) (.data (.arr 4 (.int .u64)) c8) false), (9, .cell (.arr 4 (.int .u64)) (.data (.arr 4 (.int .u64)) c9) false)]
noncomputable def cd0 : Code := cR (cR (cR (cR (cR (cB Try.f102)))))
def j0 {α : Type} (Rt : Bool → (List Int × List Int × Bool × Unit) → Option α) (c3 : List Int × List Int × List Int × List Int × (List Int × List Int × Bool × Unit) × Unit) (c4 : List Int × List Int × Bool × Unit) (c5 : List Int × List Int × Bool × Unit) (c6 : List Int × List Int × Bool × Unit) (c8 : List Int) (c9 : List Int) : Option α :=
  (Go.Bx.basculeref_inverse.run c9 c3.1).bind fun y12 =>
  if (not y12.2.1) = true then
    Rt false ([0, 0, 0, 0], [0, 0, 0, 0], false, ())
  else
    (Go.Bx.basculeref_product.run c8 y12.1 c3.1).bind fun y13 =>
    (Go.Bx.basculeref_product.run y13 y13 c3.1).bind fun y14 =>
    (Go.Bx.basculeref_total.run c4.1 c5.1 c3.1).bind fun y15 =>
    (Go.Bx.basculeref_opposite.run y15 c3.1).bind fun y16 =>
    (Go.Bx.basculeref_total.run y14 y16 c3.1).bind fun y17 =>
    (Go.Bx.basculeref_opposite.run y17 c3.1).bind fun y18 =>
    (Go.Bx.basculeref_total.run c4.1 y18 c3.1).bind fun y19 =>
    (Go.Bx.basculeref_product.run y13 y19 c3.1).bind fun y20 =>
    (Go.Bx.basculeref_opposite.run c4.2.1 c3.1).bind fun y21 =>
    (Go.Bx.basculeref_total.run y20 y21 c3.1).bind fun y22 =>
    Rt true (y17, y22, false, ())
theorem j0_eq {α : Type} (k : Nat) (Q : Ex → St → Option α) (c3 : List Int × List Int × List Int × List Int × (List Int × List Int × Bool × Unit) × Unit) (c4 : List Int × List Int × Bool × Unit) (c5 : List Int × List Int × Bool × Unit) (c6 : List Int × List Int × Bool × Unit) (c8 : List Int) (c9 : List Int) :
    (den C k) cd0 Q (St2 c3 c4 c5 c6 c8 c9) = j0 (fun (x7 : Bool) (c6 : List Int × List Int × Bool × Unit) => Q .ret (St1 x7 c6)) c3 c4 c5 c6 c8 c9 := by
  have h : ∀ (D L : DT α), denJ D L Js C cd0 Q (St2 c3 c4 c5 c6 c8 c9) =
        (Go.Bx.basculeref_inverse.run c9 c3.1).bind fun y12 =>
        if (not y12.2.1) = true then
          Q .ret (St1 false ([0, 0, 0, 0], [0, 0, 0, 0], false, ()))
        else
          (Go.Bx.basculeref_product.run c8 y12.1 c3.1).bind fun y13 =>
          (Go.Bx.basculeref_product.run y13 y13 c3.1).bind fun y14 =>
          (Go.Bx.basculeref_total.run c4.1 c5.1 c3.1).bind fun y15 =>
          (Go.Bx.basculeref_opposite.run y15 c3.1).bind fun y16 =>
          (Go.Bx.basculeref_total.run y14 y16 c3.1).bind fun y17 =>
          (Go.Bx.basculeref_opposite.run y17 c3.1).bind fun y18 =>
          (Go.Bx.basculeref_total.run c4.1 y18 c3.1).bind fun y19 =>
          (Go.Bx.basculeref_product.run y13 y19 c3.1).bind fun y20 =>
          (Go.Bx.basculeref_opposite.run c4.2.1 c3.1).bind fun y21 =>
          (Go.Bx.basculeref_total.run y20 y21 c3.1).bind fun y22 =>
          Q .ret (St1 true (y17, y22, false, ())) := by
    intro D L; kernel_rfl
  refine (show (den C k) cd0 Q (St2 c3 c4 c5 c6 c8 c9) = denJ (den C k) (lp C k) Js C cd0 Q (St2 c3 c4 c5 c6 c8 c9) from (denJ_den _ _ _ _ _ _).symm).trans ((h (den C k) (lp C k)).trans ?_)
  first | rfl | kernel_rfl
def top {α : Type} (Rt : Bool → (List Int × List Int × Bool × Unit) → Option α) (x0 : List Int × List Int × List Int × List Int × (List Int × List Int × Bool × Unit) × Unit) (x1 : List Int × List Int × Bool × Unit) (x2 : List Int × List Int × Bool × Unit) : Option α :=
  if x1.2.2.1 = true then
    Rt true x2
  else
    if x2.2.2.1 = true then
      Rt true x1
    else
      (if ((beqD (.arr 4 (.int .u64)) x1.1 x2.1) == true) = true then Go.Bx.basculeref_total.run x1.2.1 x2.2.1 x0.1 else some [0, 0, 0, 0]).bind fun y1 =>
      (if ((beqD (.arr 4 (.int .u64)) x1.1 x2.1) == true) = true then Go.Bx.basculeref_isZero.run y1 else some false).bind fun y2 =>
      if (cond (beqD (.arr 4 (.int .u64)) x1.1 x2.1) y2 false) = true then
        Rt true ([0, 0, 0, 0], [0, 0, 0, 0], true, ())
      else
        (Go.Bx.basculeref_opposite.run x1.2.1 x0.1).bind fun y3 =>
        (Go.Bx.basculeref_total.run x2.2.1 y3 x0.1).bind fun y4 =>
        (Go.Bx.basculeref_opposite.run x1.1 x0.1).bind fun y5 =>
        (Go.Bx.basculeref_total.run x2.1 y5 x0.1).bind fun y6 =>
        if (beqD (.pair (.arr 4 (.int .u64)) (.pair (.arr 4 (.int .u64)) (.pair .bool .unit))) x1 x2) = true then
          (Go.Bx.basculeref_by.run 3 x0.1).bind fun y7 =>
          (Go.Bx.basculeref_product.run x1.1 x1.1 x0.1).bind fun y8 =>
          (Go.Bx.basculeref_product.run y7 y8 x0.1).bind fun y9 =>
          (Go.Bx.basculeref_total.run y9 x0.2.1 x0.1).bind fun y10 =>
          (Go.Bx.basculeref_total.run x1.2.1 x1.2.1 x0.1).bind fun y11 =>
          j0 Rt x0 x1 x2 ([0, 0, 0, 0], [0, 0, 0, 0], false, ()) y10 y11
        else
          j0 Rt x0 x1 x2 ([0, 0, 0, 0], [0, 0, 0, 0], false, ()) y4 y6
theorem top_eq {α : Type} (k : Nat) (Q : Ex → St → Option α) (x0 : List Int × List Int × List Int × List Int × (List Int × List Int × Bool × Unit) × Unit) (x1 : List Int × List Int × Bool × Unit) (x2 : List Int × List Int × Bool × Unit) :
    (den C k) (cB Try.f102) Q (St0 x0 x1 x2) = top (fun (x7 : Bool) (c6 : List Int × List Int × Bool × Unit) => Q .ret (St1 x7 c6)) x0 x1 x2 := by
  have h : ∀ (D L : DT α), denJ D L Js C (cB Try.f102) Q (St0 x0 x1 x2) =
        if x1.2.2.1 = true then
          Q .ret (St1 true x2)
        else
          if x2.2.2.1 = true then
            Q .ret (St1 true x1)
          else
            (if ((beqD (.arr 4 (.int .u64)) x1.1 x2.1) == true) = true then Go.Bx.basculeref_total.run x1.2.1 x2.2.1 x0.1 else some [0, 0, 0, 0]).bind fun y1 =>
            (if ((beqD (.arr 4 (.int .u64)) x1.1 x2.1) == true) = true then Go.Bx.basculeref_isZero.run y1 else some false).bind fun y2 =>
            if (cond (beqD (.arr 4 (.int .u64)) x1.1 x2.1) y2 false) = true then
              Q .ret (St1 true ([0, 0, 0, 0], [0, 0, 0, 0], true, ()))
            else
              (Go.Bx.basculeref_opposite.run x1.2.1 x0.1).bind fun y3 =>
              (Go.Bx.basculeref_total.run x2.2.1 y3 x0.1).bind fun y4 =>
              (Go.Bx.basculeref_opposite.run x1.1 x0.1).bind fun y5 =>
              (Go.Bx.basculeref_total.run x2.1 y5 x0.1).bind fun y6 =>
              if (beqD (.pair (.arr 4 (.int .u64)) (.pair (.arr 4 (.int .u64)) (.pair .bool .unit))) x1 x2) = true then
                (Go.Bx.basculeref_by.run 3 x0.1).bind fun y7 =>
                (Go.Bx.basculeref_product.run x1.1 x1.1 x0.1).bind fun y8 =>
                (Go.Bx.basculeref_product.run y7 y8 x0.1).bind fun y9 =>
                (Go.Bx.basculeref_total.run y9 x0.2.1 x0.1).bind fun y10 =>
                (Go.Bx.basculeref_total.run x1.2.1 x1.2.1 x0.1).bind fun y11 =>
                D cd0 Q (St2 x0 x1 x2 ([0, 0, 0, 0], [0, 0, 0, 0], false, ()) y10 y11)
              else
                D cd0 Q (St2 x0 x1 x2 ([0, 0, 0, 0], [0, 0, 0, 0], false, ()) y4 y6) := by
    intro D L; kernel_rfl
  refine (show (den C k) (cB Try.f102) Q (St0 x0 x1 x2) = denJ (den C k) (lp C k) Js C (cB Try.f102) Q (St0 x0 x1 x2) from (denJ_den _ _ _ _ _ _).symm).trans ((h (den C k) (lp C k)).trans ?_)
  simp only [j0_eq]
  first | rfl | kernel_rfl
def run (x0 : List Int × List Int × List Int × List Int × (List Int × List Int × Bool × Unit) × Unit) (x1 : List Int × List Int × Bool × Unit) (x2 : List Int × List Int × Bool × Unit) : Option ((List Int × List Int × Bool × Unit) × Bool × Unit) := top (α := (List Int × List Int × Bool × Unit) × Bool × Unit) (fun (x7 : Bool) (c6 : List Int × List Int × Bool × Unit) => some (c6, x7, ())) x0 x1 x2
def F : Fn := ⟨(.pair (.pair (.arr 4 (.int .u64)) (.pair (.arr 4 (.int .u64)) (.pair (.arr 4 (.int .u64)) (.pair (.arr 4 (.int .u64)) (.pair (.pair (.arr 4 (.int .u64)) (.pair (.arr 4 (.int .u64)) (.pair .bool .unit))) .unit))))) (.pair (.pair (.arr 4 (.int .u64)) (.pair (.arr 4 (.int .u64)) (.pair .bool .unit))) (.pair (.pair (.arr 4 (.int .u64)) (.pair (.arr 4 (.int .u64)) (.pair .bool .unit))) .unit))), (.pair (.pair (.arr 4 (.int .u64)) (.pair (.arr 4 (.int .u64)) (.pair .bool .unit))) (.pair .bool .unit)), true, fun x => run x.1 x.2.1 x.2.2.1⟩
set_option maxRecDepth 100000 in
theorem con : Con Try.prog 102 F := by
  refine con_of_den (C := C) (ctx_ok (by kernel_rfl) (by kernel_rfl) (by kernel_rfl) (by kernel_rfl) ⟨.inl ⟨Go.Bx.basculeref_total.con, Go.Bx.basculeref_total.named⟩, ⟨.inl ⟨Go.Bx.basculeref_product.con, Go.Bx.basculeref_product.named⟩, ⟨.inl ⟨Go.Bx.basculeref_by.con, Go.Bx.basculeref_by.named⟩, ⟨.inl ⟨Go.Bx.basculeref_isZero.con, Go.Bx.basculeref_isZero.named⟩, ⟨.inl ⟨Go.Bx.basculeref_opposite.con, Go.Bx.basculeref_opposite.named⟩, ⟨.inl ⟨Go.Bx.basculeref_inverse.con, Go.Bx.basculeref_inverse.named⟩, trivial⟩⟩⟩⟩⟩⟩) (by kernel_rfl) Try.func102 (c := cB Try.f102) (by kernel_rfl) (by kernel_rfl) F fuel (fun x => by simp [F, spread, Try.ntmps102]) ?_
  intro x r h
  rw [← h]
  have h1 : start F Try.f102.ntmps x = (St0 x.1 x.2.1 x.2.2.1) := by kernel_rfl
  rw [h1]
  refine (top_eq fuel (fin C Try.f102.results.toList F.rs F.multi) x.1 x.2.1 x.2.2.1).trans ?_
  kernel_rfl
theorem named : Named Try.prog 102 := named_of Try.func102 (by kernel_rfl) (by kernel_rfl)
end Go.Bx.basculeref_together
namespace Go.Bx.curve_fault
open Go Go.Proofs Go.Bx
set_option maxRecDepth 100000
set_option linter.unusedVariables false
def Js : List Nat := [11]
def C : Ctx := ⟨[(31, (.int .i64)), (59, (.pair (.arr 4 (.int .u64)) (.pair (.arr 4 (.int .u64)) (.pair .bool .unit)))), (61, (.pair (.arr 4 (.int .u64)) (.pair (.arr 4 (.int .u64)) (.pair (.arr 4 (.int .u64)) (.pair (.arr 4 (.int .u64)) (.pair (.pair (.arr 4 (.int .u64)) (.pair (.arr 4 (.int .u64)) (.pair .bool .unit))) .unit)))))), (191, (.sl (.pair (.arr 4 (.int .u64)) (.pair (.arr 4 (.int .u64)) (.pair .bool .unit)))))], [], [], fnL [(31, Go.Bx.curve_Check.F), (93, Go.Bx.curve_on.F)], noSh, [], invL [], [(2, [4]), (1, []), (4, [2, 13, 14, 15]), (15, [2, 13, 14, 15]), (30, [])], [], [], 0, 0⟩
def St0 (x0 : List Int × List Int × List Int × List Int × (List Int × List Int × Bool × Unit) × Unit) (x1 : List (List Int × List Int × Bool × Unit)) : St := stL 24 [(0, .data (.pair (.arr 4 (.int .u64)) (.pair (.arr 4 (.int .u64)) (.pair (.arr 4 (.int .u64)) (.pair (.arr 4 (.int .u64)) (.pair (.pair (.arr 4 (.int .u64)) (.pair (.arr 4 (.int .u64)) (.pair .bool .unit))) .unit))))) x0), (1, .data (.sl (.pair (.arr 4 (.int .u64)) (.pair (.arr 4 (.int .u64)) (.pair .bool .unit)))) x1)] []
def St1 (x4 : Int) : St := stL 24 [(4, .data (.int .i64) x4)] []
def St2 (x13 : List (List Int × List Int × Bool × Unit)) (x14 : Int) (x15 : Int) (c2 : List Int × List Int × List Int × List Int × (List Int × List Int × Bool × Unit) × Unit) : St := stL 24 [(2, .ref 2 0 []), (13, .data (.sl (.pair (.arr 4 (.int .u64)) (.pair (.arr 4 (.int .u64)) (.pair .bool .unit)))) x13), (14, .data (.int .i64) x14), (15, .data (.int .i64) x15)] [(2, .cell (.pair (.arr 4 (.int .u64)) (.pair (.arr 4 (.int .u64)) (.pair (.arr 4 (.int .u64)) (.pair (.arr 4 (.int .u64)) (.pair (.pair (.arr 4 (.int .u64)) (.pair (.arr 4 (.int .u64)) (.pair .bool .unit))) .unit))))) (.data (.pair (.arr 4 (.int .u64)) (.pair (.arr 4 (.int .u64)) (.pair (.arr 4 (.int .u64)) (.pair (.arr 4 (.int .u64)) (.pair (.pair (.arr 4 (.int .u64)) (.pair (.arr 4 (.int .u64)) (.pair .bool .unit))) .unit))))) c2) false)]
noncomputable def cd0 : Code := cL (cL (cR (cL (cR (cR (cB Try.f100))))))
def St3 : St := stL 24 [] []
def l0s {α : Type} (Nx : (List (List Int × List Int × Bool × Unit)) → Int → Int → (List Int × List Int × List Int × List Int × (List Int × List Int × Bool × Unit) × Unit) → Option α) (Rt : Int → Option α) (Xt0 : Option α) (x13 : List (List Int × List Int × Bool × Unit)) (x14 : Int) (x15 : Int) (c2 : List Int × List Int × List Int × List Int × (List Int × List Int × Bool × Unit) × Unit) : Option α :=
  if (decide (x15 < x14)) = true then
    if 0 ≤ x15 ∧ x15 < (x13.length : Int) then
      (Go.Bx.curve_on.run c2 (List.getD x13 (Int.toNat x15) ([0, 0, 0, 0], [0, 0, 0, 0], false, ()))).bind fun y2 =>
      if (not y2) = true then
        Rt 16
      else
        Nx x13 x14 (IntKind.i64.wrap (x15 + 1)) c2
    else none
  else
    Xt0
theorem l0s_eq {α : Type} (k : Nat) (next : St → Option α) (Q : Ex → St → Option α) (x13 : List (List Int × List Int × Bool × Unit)) (x14 : Int) (x15 : Int) (c2 : List Int × List Int × List Int × List Int × (List Int × List Int × Bool × Unit) × Unit) :
    rnd C k cd0 15 Q next (St2 x13 x14 x15 c2) = l0s (fun (x13 : List (List Int × List Int × Bool × Unit)) (x14 : Int) (x15 : Int) (c2 : List Int × List Int × List Int × List Int × (List Int × List Int × Bool × Unit) × Unit) => next (St2 x13 x14 x15 c2)) (fun (x4 : Int) => Q .ret (St1 x4)) (Q (.exit 0) St3) x13 x14 x15 c2 := by
  have h : ∀ (D L : DT α), denJ D L Js C cd0 (lq C 15 next Q) (St2 x13 x14 x15 c2) =
        if (decide (x15 < x14)) = true then
          if 0 ≤ x15 ∧ x15 < (x13.length : Int) then
            (Go.Bx.curve_on.run c2 (List.getD x13 (Int.toNat x15) ([0, 0, 0, 0], [0, 0, 0, 0], false, ()))).bind fun y2 =>
            if (not y2) = true then
              Q .ret (St1 16)
            else
              next (St2 x13 x14 (IntKind.i64.wrap (x15 + 1)) c2)
          else none
        else
          Q (.exit 0) St3 := by
    intro D L; kernel_rfl
  refine (show rnd C k cd0 15 Q next (St2 x13 x14 x15 c2) = denJ (den C k) (lp C k) Js C cd0 (lq C 15 next Q) (St2 x13 x14 x15 c2) from (denJ_den _ _ _ _ _ _).symm).trans ((h (den C k) (lp C k)).trans ?_)
  first | rfl | kernel_rfl
def l0 {α : Type} (k : Nat) (Rt : Int → Option α) (Xt0 : Option α) : Nat → (List (List Int × List Int × Bool × Unit)) → Int → Int → (List Int × List Int × List Int × List Int × (List Int × List Int × Bool × Unit) × Unit) → Option α
  | 0, _, _, _, _ => none
  | n + 1, x13, x14, x15, c2 => l0s (l0 k Rt Xt0 n) Rt Xt0 x13 x14 x15 c2
theorem l0_eq {α : Type} (k : Nat) (Q : Ex → St → Option α) : ∀ (n : Nat) (x13 : List (List Int × List Int × Bool × Unit)) (x14 : Int) (x15 : Int) (c2 : List Int × List Int × List Int × List Int × (List Int × List Int × Bool × Unit) × Unit), iter (rnd C k cd0 15 Q) n (St2 x13 x14 x15 c2) = l0 k (fun (x4 : Int) => Q .ret (St1 x4)) (Q (.exit 0) St3) n x13 x14 x15 c2
  | 0, _, _, _, _ => rfl
  | n + 1, x13, x14, x15, c2 => (iter_succ _ _ _).trans ((l0s_eq k (iter (rnd C k cd0 15 Q) n) Q x13 x14 x15 c2).trans (congrArg (fun N => l0s N (fun (x4 : Int) => Q .ret (St1 x4)) (Q (.exit 0) St3) x13 x14 x15 c2) (funext fun x13 => funext fun x14 => funext fun x15 => funext fun c2 => l0_eq k Q n x13 x14 x15 c2)))
theorem l0_congr {α : Type} (k : Nat) (Rt : Int → Option α) (Xt0 : Option α) (Rtq : Int → Option α) (Xt0q : Option α) (hRt : ∀ (x4 : Int), Rt x4 = Rtq x4) (hXt0 : Xt0 = Xt0q) (n : Nat) (x13 : List (List Int × List Int × Bool × Unit)) (x14 : Int) (x15 : Int) (c2 : List Int × List Int × List Int × List Int × (List Int × List Int × Bool × Unit) × Unit) : l0 k Rt Xt0 n x13 x14 x15 c2 = l0 k Rtq Xt0q n x13 x14 x15 c2 := by
  obtain rfl : Rt = Rtq := by funext x4; exact hRt x4
  obtain rfl : Xt0 = Xt0q := hXt0
  rfl
noncomputable def cd1 : Code := cR (cR (cR (cB Try.f100)))
def St4 : St := stL 24 [] []
def j0 {α : Type} (Rt : Int → Option α) : Option α :=
  Rt 0
theorem j0_eq {α : Type} (k : Nat) (Q : Ex → St → Option α) :
    (den C k) cd1 Q St4 = j0 (fun (x4 : Int) => Q .ret (St1 x4)) := by
  have h : ∀ (D L : DT α), denJ D L Js C cd1 Q St4 =
        Q .ret (St1 0) := by
    intro D L; kernel_rfl
  refine (show (den C k) cd1 Q St4 = denJ (den C k) (lp C k) Js C cd1 Q St4 from (denJ_den _ _ _ _ _ _).symm).trans ((h (den C k) (lp C k)).trans ?_)
  first | rfl | kernel_rfl
theorem a0 {α : Type} (k : Nat) (Q : Ex → St → Option α) (x13 : List (List Int × List Int × Bool × Unit)) (x14 : Int) (x15 : Int) (c2 : List Int × List Int × List Int × List Int × (List Int × List Int × Bool × Unit) × Unit) :
    (lp C k) cd0 (blkQ C 0 (sq (den C k) (lp C k) Js C cd1 Q)) (St2 x13 x14 x15 c2) = l0 k (fun (x4 : Int) => (fun (x4 : Int) => Q .ret (St1 x4)) x4) (j0 (fun (x4 : Int) => Q .ret (St1 x4))) k x13 x14 x15 c2 :=
  (show (lp C k) cd0 (blkQ C 0 (sq (den C k) (lp C k) Js C cd1 Q)) (St2 x13 x14 x15 c2) = iter (rnd C k cd0 15 (blkQ C 0 (sq (den C k) (lp C k) Js C cd1 Q))) k (St2 x13 x14 x15 c2) by kernel_rfl).trans ((l0_eq k (blkQ C 0 (sq (den C k) (lp C k) Js C cd1 Q)) k x13 x14 x15 c2).trans (l0_congr k _ _ _ _ (fun x4 => (show (blkQ C 0 (sq (den C k) (lp C k) Js C cd1 Q)) .ret (St1 x4) = Q .ret (St1 x4) by kernel_rfl)) ((show (blkQ C 0 (sq (den C k) (lp C k) Js C cd1 Q)) (.exit 0) St3 = (den C k) cd1 Q St4 by kernel_rfl).trans (by simp only [j0_eq])) k x13 x14 x15 c2))
def top {α : Type} (k : Nat) (Rt : Int → Option α) (x0 : List Int × List Int × List Int × List Int × (List Int × List Int × Bool × Unit) × Unit) (x1 : List (List Int × List Int × Bool × Unit)) : Option α :=
  (Go.Bx.curve_Check.run x0).bind fun y1 =>
  if (y1 != 0) = true then
    Rt y1
  else
    l0 k (fun (x4 : Int) => Rt x4) (j0 Rt) k x1 (x1.length : Int) 0 x0
theorem top_eq {α : Type} (k : Nat) (Q : Ex → St → Option α) (x0 : List Int × List Int × List Int × List Int × (List Int × List Int × Bool × Unit) × Unit) (x1 : List (List Int × List Int × Bool × Unit)) :
    (den C k) (cB Try.f100) Q (St0 x0 x1) = top k (fun (x4 : Int) => Q .ret (St1 x4)) x0 x1 := by
  have h : ∀ (D L : DT α), denJ D L Js C (cB Try.f100) Q (St0 x0 x1) =
        (Go.Bx.curve_Check.run x0).bind fun y1 =>
        if (y1 != 0) = true then
          Q .ret (St1 y1)
        else
          L cd0 (blkQ C 0 (sq D L Js C cd1 Q)) (St2 x1 (x1.length : Int) 0 x0) := by
    intro D L; kernel_rfl
  refine (show (den C k) (cB Try.f100) Q (St0 x0 x1) = denJ (den C k) (lp C k) Js C (cB Try.f100) Q (St0 x0 x1) from (denJ_den _ _ _ _ _ _).symm).trans ((h (den C k) (lp C k)).trans ?_)
  simp only [a0]
  first | rfl | kernel_rfl
def run (x0 : List Int × List Int × List Int × List Int × (List Int × List Int × Bool × Unit) × Unit) (x1 : List (List Int × List Int × Bool × Unit)) : Option (Int) := top (α := Int) fuel (fun (x4 : Int) => some x4) x0 x1
def F : Fn := ⟨(.pair (.pair (.arr 4 (.int .u64)) (.pair (.arr 4 (.int .u64)) (.pair (.arr 4 (.int .u64)) (.pair (.arr 4 (.int .u64)) (.pair (.pair (.arr 4 (.int .u64)) (.pair (.arr 4 (.int .u64)) (.pair .bool .unit))) .unit))))) (.pair (.sl (.pair (.arr 4 (.int .u64)) (.pair (.arr 4 (.int .u64)) (.pair .bool .unit)))) .unit)), (.int .i64), false, fun x => run x.1 x.2.1⟩
set_option maxRecDepth 100000 in
theorem con : Con Try.prog 100 F := by
  refine con_of_den (C := C) (ctx_ok (by kernel_rfl) (by kernel_rfl) (by kernel_rfl) (by kernel_rfl) ⟨.inl ⟨Go.Bx.curve_Check.con, Go.Bx.curve_Check.named⟩, ⟨.inl ⟨Go.Bx.curve_on.con, Go.Bx.curve_on.named⟩, trivial⟩⟩) (by kernel_rfl) Try.func100 (c := cB Try.f100) (by kernel_rfl) (by kernel_rfl) F fuel (fun x => by simp [F, spread, Try.ntmps100]) ?_
  intro x r h
  rw [← h]
  have h1 : start F Try.f100.ntmps x = (St0 x.1 x.2.1) := by kernel_rfl
  rw [h1]
  refine (top_eq fuel (fin C Try.f100.results.toList F.rs F.multi) x.1 x.2.1).trans ?_
  kernel_rfl
theorem named : Named Try.prog 100 := named_of Try.func100 (by kernel_rfl) (by kernel_rfl)
end Go.Bx.curve_fault
namespace Go.Bx.curve_Mult
open Go Go.Proofs Go.Bx
set_option maxRecDepth 100000
set_option linter.unusedVariables false
def Js : List Nat := [8, 12]
def C : Ctx := ⟨[(24, (.int .u64)), (31, (.int .i64)), (45, (.arr 4 (.int .u64))), (59, (.pair (.arr 4 (.int .u64)) (.pair (.arr 4 (.int .u64)) (.pair .bool .unit)))), (61, (.pair (.arr 4 (.int .u64)) (.pair (.arr 4 (.int .u64)) (.pair (.arr 4 (.int .u64)) (.pair (.arr 4 (.int .u64)) (.pair (.pair (.arr 4 (.int .u64)) (.pair (.arr 4 (.int .u64)) (.pair .bool .unit))) .unit)))))), (191, (.sl (.pair (.arr 4 (.int .u64)) (.pair (.arr 4 (.int .u64)) (.pair .bool .unit)))))], [], [], fnL [(100, Go.Bx.curve_fault.F), (101, Go.Bx.curve_add.F)], noSh, [], invL [], [(2, [6, 7]), (1, [6, 9, 10]), (4, [3, 4, 5, 6, 9, 10, 11]), (18, [3, 4, 5, 6, 9, 10, 11]), (21, [3, 4, 5, 6, 9, 10, 11]), (33, [6, 9, 10])], [], [], 0, 0⟩
def St0 (x0 : List Int × List Int × List Int × List Int × (List Int × List Int × Bool × Unit) × Unit) (x1 : List Int) (x2 : List Int × List Int × Bool × Unit) : St := stL 58 [(0, .data (.pair (.arr 4 (.int .u64)) (.pair (.arr 4 (.int .u64)) (.pair (.arr 4 (.int .u64)) (.pair (.arr 4 (.int .u64)) (.pair (.pair (.arr 4 (.int .u64)) (.pair (.arr 4 (.int .u64)) (.pair .bool .unit))) .unit))))) x0), (1, .data (.arr 4 (.int .u64)) x1), (2, .data (.pair (.arr 4 (.int .u64)) (.pair (.arr 4 (.int .u64)) (.pair .bool .unit))) x2)] []
def St1 (x7 : Int) (c6 : List Int × List Int × Bool × Unit) : St := stL 58 [(6, .ref 6 0 []), (7, .data (.int .i64) x7)] [(6, .cell (.pair (.arr 4 (.int .u64)) (.pair (.arr 4 (.int .u64)) (.pair .bool .unit))) (.data (.pair (.arr 4 (.int .u64)) (.pair (.arr 4 (.int .u64)) (.pair .bool .unit))) c6) false)]
def St2 (x10 : Bool) (x11 : Int) (c3 : List Int × List Int × List Int × List Int × (List Int × List Int × Bool × Unit) × Unit) (c4 : List Int) (c5 : List Int × List Int × Bool × Unit) (c6 : List Int × List Int × Bool × Unit) (c9 : List Int × List Int × Bool × Unit) : St := stL 58 [(3, .ref 3 0 []), (4, .ref 4 0 []), (5, .ref 5 0 []), (6, .ref 6 0 []), (9, .ref 9 0 []), (10, .data .bool x10), (11, .data (.int .i64) x11)] [(3, .cell (.pair (.arr 4 (.int .u64)) (.pair (.arr 4 (.int .u64)) (.pair (.arr 4 (.int .u64)) (.pair (.arr 4 (.int .u64)) (.pair (.pair (.arr 4 (.int .u64)) (.pair (.arr 4 (.int .u64)) (.pair .bool .unit))) .unit))))) (.data (.pair (.arr 4 (.int .u64)) (.pair (.arr 4 (.int .u64)) (.pair (.arr 4 (.int .u64)) (.pair (.arr 4 (.int .u64)) (.pair (.pair (.arr 4 (.int .u64)) (.pair (.arr 4 (.int .u64)) (.pair .bool .unit))) .unit))))) c3) false), (4, .cell (.arr 4 (.int .u64)) (.data (.arr 4 (.int .u64)) c4) false), (5, .cell (.pair (.arr 4 (.int .u64)) (.pair (.arr 4 (.int .u64)) (.pair .bool .unit))) (.data (.pair (.arr 4 (.int .u64)) (.pair (.arr 4 (.int .u64)) (.pair .bool .unit))) c5) false), (6, .cell (.pair (.arr 4 (.int .u64)) (.pair (.arr 4 (.int .u64)) (.pair .bool .unit))) (.data (.pair (.arr 4 (.int .u64)) (.pair (.arr 4 (.int .u64)) (.pair .bool .unit))) c6) false), (9, .cell (.pair (.arr 4 (.int .u64)) (.pair (.arr 4 (.int .u64)) (.pair .bool .unit))) (.data (.pair (.arr 4 (.int .u64)) (.pair (.arr 4 (.int .u64)) (.pair .bool .unit))) c9) false)]
noncomputable def cd0 : Code := cL (cL (cR (cL (cR (cR (cR (cB Try.f37)))))))
def St3 (x10 : Bool) (x11 : Int) (c3 : List Int × List Int × List Int × List Int × (List Int × List Int × Bool × Unit) × Unit) (c4 : List Int) (c5 : List Int × List Int × Bool × Unit) (c6 : List Int × List Int × Bool × Unit) (c9 : List Int × List Int × Bool × Unit) : St := stL 58 [(3, .ref 3 0 []), (4, .ref 4 0 []), (5, .ref 5 0 []), (6, .ref 6 0 []), (9, .ref 9 0 []), (10, .data .bool x10), (11, .data (.int .i64) x11)] [(3, .cell (.pair (.arr 4 (.int .u64)) (.pair (.arr 4 (.int .u64)) (.pair (.arr 4 (.int .u64)) (.pair (.arr 4 (.int .u64)) (.pair (.pair (.arr 4 (.int .u64)) (.pair (.arr 4 (.int .u64)) (.pair .bool .unit))) .unit))))) (.data (.pair (.arr 4 (.int .u64)) (.pair (.arr 4 (.int .u64)) (.pair (.arr 4 (.int .u64)) (.pair (.arr 4 (.int .u64)) (.pair (.pair (.arr 4 (.int .u64)) (.pair (.arr 4 (.int .u64)) (.pair .bool .unit))) .unit))))) c3) false), (4, .cell (.arr 4 (.int .u64)) (.data (.arr 4 (.int .u64)) c4) false), (5, .cell (.pair (.arr 4 (.int .u64)) (.pair (.arr 4 (.int .u64)) (.pair .bool .unit))) (.data (.pair (.arr 4 (.int .u64)) (.pair (.arr 4 (.int .u64)) (.pair .bool .unit))) c5) false), (6, .cell (.pair (.arr 4 (.int .u64)) (.pair (.arr 4 (.int .u64)) (.pair .bool .unit))) (.data (.pair (.arr 4 (.int .u64)) (.pair (.arr 4 (.int .u64)) (.pair .bool .unit))) c6) false), (9, .cell (.pair (.arr 4 (.int .u64)) (.pair (.arr 4 (.int .u64)) (.pair .bool .unit))) (.data (.pair (.arr 4 (.int .u64)) (.pair (.arr 4 (.int .u64)) (.pair .bool .unit))) c9) false)]
noncomputable def cd1 : Code := cR (cR (cL (cL (cR (cL (cR (cR (cR (cB Try.f37)))))))))
def j0 {α : Type} (Nx : Bool → Int → (List Int × List Int × List Int × List Int × (List Int × List Int × Bool × Unit) × Unit) → (List Int) → (List Int × List Int × Bool × Unit) → (List Int × List Int × Bool × Unit) → (List Int × List Int × Bool × Unit) → Option α) (x10 : Bool) (x11 : Int) (c3 : List Int × List Int × List Int × List Int × (List Int × List Int × Bool × Unit) × Unit) (c4 : List Int) (c5 : List Int × List Int × Bool × Unit) (c6 : List Int × List Int × Bool × Unit) (c9 : List Int × List Int × Bool × Unit) : Option α :=
  Nx x10 (IntKind.i64.wrap (x11 - 1)) c3 c4 c5 c6 c9
theorem j0_eq {α : Type} (k : Nat) (next : St → Option α) (Q : Ex → St → Option α) (x10 : Bool) (x11 : Int) (c3 : List Int × List Int × List Int × List Int × (List Int × List Int × Bool × Unit) × Unit) (c4 : List Int) (c5 : List Int × List Int × Bool × Unit) (c6 : List Int × List Int × Bool × Unit) (c9 : List Int × List Int × Bool × Unit) :
    (den C k) cd1 (lq C 18 next Q) (St3 x10 x11 c3 c4 c5 c6 c9) = j0 (fun (x10 : Bool) (x11 : Int) (c3 : List Int × List Int × List Int × List Int × (List Int × List Int × Bool × Unit) × Unit) (c4 : List Int) (c5 : List Int × List Int × Bool × Unit) (c6 : List Int × List Int × Bool × Unit) (c9 : List Int × List Int × Bool × Unit) => next (St2 x10 x11 c3 c4 c5 c6 c9)) x10 x11 c3 c4 c5 c6 c9 := by
  have h : ∀ (D L : DT α), denJ D L Js C cd1 (lq C 18 next Q) (St3 x10 x11 c3 c4 c5 c6 c9) =
        next (St2 x10 (IntKind.i64.wrap (x11 - 1)) c3 c4 c5 c6 c9) := by
    intro D L; kernel_rfl
  refine (show (den C k) cd1 (lq C 18 next Q) (St3 x10 x11 c3 c4 c5 c6 c9) = denJ (den C k) (lp C k) Js C cd1 (lq C 18 next Q) (St3 x10 x11 c3 c4 c5 c6 c9) from (denJ_den _ _ _ _ _ _).symm).trans ((h (den C k) (lp C k)).trans ?_)
  first | rfl | kernel_rfl
def St4 (x10 : Bool) (c6 : List Int × List Int × Bool × Unit) (c9 : List Int × List Int × Bool × Unit) : St := stL 58 [(6, .ref 6 0 []), (9, .ref 9 0 []), (10, .data .bool x10)] [(6, .cell (.pair (.arr 4 (.int .u64)) (.pair (.arr 4 (.int .u64)) (.pair .bool .unit))) (.data (.pair (.arr 4 (.int .u64)) (.pair (.arr 4 (.int .u64)) (.pair .bool .unit))) c6) false), (9, .cell (.pair (.arr 4 (.int .u64)) (.pair (.arr 4 (.int .u64)) (.pair .bool .unit))) (.data (.pair (.arr 4 (.int .u64)) (.pair (.arr 4 (.int .u64)) (.pair .bool .unit))) c9) false)]
def l0s {α : Type} (Nx : Bool → Int → (List Int × List Int × List Int × List Int × (List Int × List Int × Bool × Unit) × Unit) → (List Int) → (List Int × List Int × Bool × Unit) → (List Int × List Int × Bool × Unit) → (List Int × List Int × Bool × Unit) → Option α) (Xt0 : Bool → (List Int × List Int × Bool × Unit) → (List Int × List Int × Bool × Unit) → Option α) (x10 : Bool) (x11 : Int) (c3 : List Int × List Int × List Int × List Int × (List Int × List Int × Bool × Unit) × Unit) (c4 : List Int) (c5 : List Int × List Int × Bool × Unit) (c6 : List Int × List Int × Bool × Unit) (c9 : List Int × List Int × Bool × Unit) : Option α :=
  if (cond (decide (x11 ≥ 0)) x10 false) = true then
    (Go.Bx.curve_add.run c3 c9 c9).bind fun y2 =>
    cond (decide (0 ≤ (IntKind.i64.wrap (Int.tdiv x11 64)) ∧ (IntKind.i64.wrap (Int.tdiv x11 64)) < (4 : Int)) || !(y2.2.1 == true)) (
      cond (decide (0 ≤ (Int.tmod x11 64)) || !(y2.2.1 == true)) (
        if (cond y2.2.1 ((band .u64 (shrI .u64 (List.getD c4 (Int.toNat (IntKind.i64.wrap (Int.tdiv x11 64))) 0) (Int.tmod x11 64)) 1) == 1) false) = true then
          (Go.Bx.curve_add.run c3 y2.1 c5).bind fun y3 =>
          j0 Nx y3.2.1 x11 c3 c4 c5 c6 y3.1
        else
          j0 Nx y2.2.1 x11 c3 c4 c5 c6 y2.1) none) none
  else
    Xt0 x10 c6 c9
theorem l0s_eq {α : Type} (k : Nat) (next : St → Option α) (Q : Ex → St → Option α) (x10 : Bool) (x11 : Int) (c3 : List Int × List Int × List Int × List Int × (List Int × List Int × Bool × Unit) × Unit) (c4 : List Int) (c5 : List Int × List Int × Bool × Unit) (c6 : List Int × List Int × Bool × Unit) (c9 : List Int × List Int × Bool × Unit) :
    rnd C k cd0 18 Q next (St2 x10 x11 c3 c4 c5 c6 c9) = l0s (fun (x10 : Bool) (x11 : Int) (c3 : List Int × List Int × List Int × List Int × (List Int × List Int × Bool × Unit) × Unit) (c4 : List Int) (c5 : List Int × List Int × Bool × Unit) (c6 : List Int × List Int × Bool × Unit) (c9 : List Int × List Int × Bool × Unit) => next (St2 x10 x11 c3 c4 c5 c6 c9)) (fun (x10 : Bool) (c6 : List Int × List Int × Bool × Unit) (c9 : List Int × List Int × Bool × Unit) => Q (.exit 0) (St4 x10 c6 c9)) x10 x11 c3 c4 c5 c6 c9 := by
  have h : ∀ (D L : DT α), denJ D L Js C cd0 (lq C 18 next Q) (St2 x10 x11 c3 c4 c5 c6 c9) =
        if (cond (decide (x11 ≥ 0)) x10 false) = true then
          (Go.Bx.curve_add.run c3 c9 c9).bind fun y2 =>
          cond (decide (0 ≤ (IntKind.i64.wrap (Int.tdiv x11 64)) ∧ (IntKind.i64.wrap (Int.tdiv x11 64)) < (4 : Int)) || !(y2.2.1 == true)) (
            cond (decide (0 ≤ (Int.tmod x11 64)) || !(y2.2.1 == true)) (
              if (cond y2.2.1 ((band .u64 (shrI .u64 (List.getD c4 (Int.toNat (IntKind.i64.wrap (Int.tdiv x11 64))) 0) (Int.tmod x11 64)) 1) == 1) false) = true then
                (Go.Bx.curve_add.run c3 y2.1 c5).bind fun y3 =>
                D cd1 (lq C 18 next Q) (St3 y3.2.1 x11 c3 c4 c5 c6 y3.1)
              else
                D cd1 (lq C 18 next Q) (St3 y2.2.1 x11 c3 c4 c5 c6 y2.1)) none) none
        else
          Q (.exit 0) (St4 x10 c6 c9) := by
    intro D L; kernel_rfl
  refine (show rnd C k cd0 18 Q next (St2 x10 x11 c3 c4 c5 c6 c9) = denJ (den C k) (lp C k) Js C cd0 (lq C 18 next Q) (St2 x10 x11 c3 c4 c5 c6 c9) from (denJ_den _ _ _ _ _ _).symm).trans ((h (den C k) (lp C k)).trans ?_)
  simp only [j0_eq]
  first | rfl | kernel_rfl
def l0 {α : Type} (k : Nat) (Xt0 : Bool → (List Int × List Int × Bool × Unit) → (List Int × List Int × Bool × Unit) → Option α) : Nat → Bool → Int → (List Int × List Int × List Int × List Int × (List Int × List Int × Bool × Unit) × Unit) → (List Int) → (List Int × List Int × Bool × Unit) → (List Int × List Int × Bool × Unit) → (List Int × List Int × Bool × Unit) → Option α
  | 0, _, _, _, _, _, _, _ => none
  | n + 1, x10, x11, c3, c4, c5, c6, c9 => l0s (l0 k Xt0 n) Xt0 x10 x11 c3 c4 c5 c6 c9
theorem l0_eq {α : Type} (k : Nat) (Q : Ex → St → Option α) : ∀ (n : Nat) (x10 : Bool) (x11 : Int) (c3 : List Int × List Int × List Int × List Int × (List Int × List Int × Bool × Unit) × Unit) (c4 : List Int) (c5 : List Int × List Int × Bool × Unit) (c6 : List Int × List Int × Bool × Unit) (c9 : List Int × List Int × Bool × Unit), iter (rnd C k cd0 18 Q) n (St2 x10 x11 c3 c4 c5 c6 c9) = l0 k (fun (x10 : Bool) (c6 : List Int × List Int × Bool × Unit) (c9 : List Int × List Int × Bool × Unit) => Q (.exit 0) (St4 x10 c6 c9)) n x10 x11 c3 c4 c5 c6 c9
  | 0, _, _, _, _, _, _, _ => rfl
  | n + 1, x10, x11, c3, c4, c5, c6, c9 => (iter_succ _ _ _).trans ((l0s_eq k (iter (rnd C k cd0 18 Q) n) Q x10 x11 c3 c4 c5 c6 c9).trans (congrArg (fun N => l0s N (fun (x10 : Bool) (c6 : List Int × List Int × Bool × Unit) (c9 : List Int × List Int × Bool × Unit) => Q (.exit 0) (St4 x10 c6 c9)) x10 x11 c3 c4 c5 c6 c9) (funext fun x10 => funext fun x11 => funext fun c3 => funext fun c4 => funext fun c5 => funext fun c6 => funext fun c9 => l0_eq k Q n x10 x11 c3 c4 c5 c6 c9)))
theorem l0_congr {α : Type} (k : Nat) (Xt0 : Bool → (List Int × List Int × Bool × Unit) → (List Int × List Int × Bool × Unit) → Option α) (Xt0q : Bool → (List Int × List Int × Bool × Unit) → (List Int × List Int × Bool × Unit) → Option α) (hXt0 : ∀ (x10 : Bool) (c6 : List Int × List Int × Bool × Unit) (c9 : List Int × List Int × Bool × Unit), Xt0 x10 c6 c9 = Xt0q x10 c6 c9) (n : Nat) (x10 : Bool) (x11 : Int) (c3 : List Int × List Int × List Int × List Int × (List Int × List Int × Bool × Unit) × Unit) (c4 : List Int) (c5 : List Int × List Int × Bool × Unit) (c6 : List Int × List Int × Bool × Unit) (c9 : List Int × List Int × Bool × Unit) : l0 k Xt0 n x10 x11 c3 c4 c5 c6 c9 = l0 k Xt0q n x10 x11 c3 c4 c5 c6 c9 := by
  obtain rfl : Xt0 = Xt0q := by funext x10; funext c6; funext c9; exact hXt0 x10 c6 c9
  rfl
noncomputable def cd2 : Code := cR (cR (cR (cR (cB Try.f37))))
def St5 (x10 : Bool) (c6 : List Int × List Int × Bool × Unit) (c9 : List Int × List Int × Bool × Unit) : St := stL 58 [(6, .ref 6 0 []), (9, .ref 9 0 []), (10, .data .bool x10)] [(6, .cell (.pair (.arr 4 (.int .u64)) (.pair (.arr 4 (.int .u64)) (.pair .bool .unit))) (.data (.pair (.arr 4 (.int .u64)) (.pair (.arr 4 (.int .u64)) (.pair .bool .unit))) c6) false), (9, .cell (.pair (.arr 4 (.int .u64)) (.pair (.arr 4 (.int .u64)) (.pair .bool .unit))) (.data (.pair (.arr 4 (.int .u64)) (.pair (.arr 4 (.int .u64)) (.pair .bool .unit))) c9) false)]
def j1 {α : Type} (Rt : Int → (List Int × List Int × Bool × Unit) → Option α) (x10 : Bool) (c6 : List Int × List Int × Bool × Unit) (c9 : List Int × List Int × Bool × Unit) : Option α :=
  if (not x10) = true then
    Rt 16 ([0, 0, 0, 0], [0, 0, 0, 0], false, ())
  else
    Rt 0 c9
theorem j1_eq {α : Type} (k : Nat) (Q : Ex → St → Option α) (x10 : Bool) (c6 : List Int × List Int × Bool × Unit) (c9 : List Int × List Int × Bool × Unit) :
    (den C k) cd2 Q (St5 x10 c6 c9) = j1 (fun (x7 : Int) (c6 : List Int × List Int × Bool × Unit) => Q .ret (St1 x7 c6)) x10 c6 c9 := by
  have h : ∀ (D L : DT α), denJ D L Js C cd2 Q (St5 x10 c6 c9) =
        if (not x10) = true then
          Q .ret (St1 16 ([0, 0, 0, 0], [0, 0, 0, 0], false, ()))
        else
          Q .ret (St1 0 c9) := by
    intro D L; kernel_rfl
  refine (show (den C k) cd2 Q (St5 x10 c6 c9) = denJ (den C k) (lp C k) Js C cd2 Q (St5 x10 c6 c9) from (denJ_den _ _ _ _ _ _).symm).trans ((h (den C k) (lp C k)).trans ?_)
  first | rfl | kernel_rfl
theorem a0 {α : Type} (k : Nat) (Q : Ex → St → Option α) (x10 : Bool) (x11 : Int) (c3 : List Int × List Int × List Int × List Int × (List Int × List Int × Bool × Unit) × Unit) (c4 : List Int) (c5 : List Int × List Int × Bool × Unit) (c6 : List Int × List Int × Bool × Unit) (c9 : List Int × List Int × Bool × Unit) :
    (lp C k) cd0 (blkQ C 0 (sq (den C k) (lp C k) Js C cd2 Q)) (St2 x10 x11 c3 c4 c5 c6 c9) = l0 k (fun (x10 : Bool) (c6 : List Int × List Int × Bool × Unit) (c9 : List Int × List Int × Bool × Unit) => j1 (fun (x7 : Int) (c6 : List Int × List Int × Bool × Unit) => Q .ret (St1 x7 c6)) x10 c6 c9) k x10 x11 c3 c4 c5 c6 c9 :=
  (show (lp C k) cd0 (blkQ C 0 (sq (den C k) (lp C k) Js C cd2 Q)) (St2 x10 x11 c3 c4 c5 c6 c9) = iter (rnd C k cd0 18 (blkQ C 0 (sq (den C k) (lp C k) Js C cd2 Q))) k (St2 x10 x11 c3 c4 c5 c6 c9) by kernel_rfl).trans ((l0_eq k (blkQ C 0 (sq (den C k) (lp C k) Js C cd2 Q)) k x10 x11 c3 c4 c5 c6 c9).trans (l0_congr k _ _ (fun x10 c6 c9 => ((show (blkQ C 0 (sq (den C k) (lp C k) Js C cd2 Q)) (.exit 0) (St4 x10 c6 c9) = (den C k) cd2 Q (St5 x10 c6 c9) by kernel_rfl).trans (by simp only [j1_eq]))) k x10 x11 c3 c4 c5 c6 c9))
def top {α : Type} (k : Nat) (Rt : Int → (List Int × List Int × Bool × Unit) → Option α) (x0 : List Int × List Int × List Int × List Int × (List Int × List Int × Bool × Unit) × Unit) (x1 : List Int) (x2 : List Int × List Int × Bool × Unit) : Option α :=
  (Go.Bx.curve_fault.run x0 [x2]).bind fun y1 =>
  if (y1 != 0) = true then
    Rt y1 ([0, 0, 0, 0], [0, 0, 0, 0], false, ())
  else
    l0 k (fun (x10 : Bool) (c6 : List Int × List Int × Bool × Unit) (c9 : List Int × List Int × Bool × Unit) => j1 Rt x10 c6 c9) k true 255 x0 x1 x2 ([0, 0, 0, 0], [0, 0, 0, 0], false, ()) ([0, 0, 0, 0], [0, 0, 0, 0], true, ())
theorem top_eq {α : Type} (k : Nat) (Q : Ex → St → Option α) (x0 : List Int × List Int × List Int × List Int × (List Int × List Int × Bool × Unit) × Unit) (x1 : List Int) (x2 : List Int × List Int × Bool × Unit) :
    (den C k) (cB Try.f37) Q (St0 x0 x1 x2) = top k (fun (x7 : Int) (c6 : List Int × List Int × Bool × Unit) => Q .ret (St1 x7 c6)) x0 x1 x2 := by
  have h : ∀ (D L : DT α), denJ D L Js C (cB Try.f37) Q (St0 x0 x1 x2) =
        (Go.Bx.curve_fault.run x0 [x2]).bind fun y1 =>
        if (y1 != 0) = true then
          Q .ret (St1 y1 ([0, 0, 0, 0], [0, 0, 0, 0], false, ()))
        else
          L cd0 (blkQ C 0 (sq D L Js C cd2 Q)) (St2 true 255 x0 x1 x2 ([0, 0, 0, 0], [0, 0, 0, 0], false, ()) ([0, 0, 0, 0], [0, 0, 0, 0], true, ())) := by
    intro D L; kernel_rfl
  refine (show (den C k) (cB Try.f37) Q (St0 x0 x1 x2) = denJ (den C k) (lp C k) Js C (cB Try.f37) Q (St0 x0 x1 x2) from (denJ_den _ _ _ _ _ _).symm).trans ((h (den C k) (lp C k)).trans ?_)
  simp only [a0]
  first | rfl | kernel_rfl
def run (x0 : List Int × List Int × List Int × List Int × (List Int × List Int × Bool × Unit) × Unit) (x1 : List Int) (x2 : List Int × List Int × Bool × Unit) : Option ((List Int × List Int × Bool × Unit) × Int × Unit) := top (α := (List Int × List Int × Bool × Unit) × Int × Unit) fuel (fun (x7 : Int) (c6 : List Int × List Int × Bool × Unit) => some (c6, x7, ())) x0 x1 x2
def F : Fn := ⟨(.pair (.pair (.arr 4 (.int .u64)) (.pair (.arr 4 (.int .u64)) (.pair (.arr 4 (.int .u64)) (.pair (.arr 4 (.int .u64)) (.pair (.pair (.arr 4 (.int .u64)) (.pair (.arr 4 (.int .u64)) (.pair .bool .unit))) .unit))))) (.pair (.arr 4 (.int .u64)) (.pair (.pair (.arr 4 (.int .u64)) (.pair (.arr 4 (.int .u64)) (.pair .bool .unit))) .unit))), (.pair (.pair (.arr 4 (.int .u64)) (.pair (.arr 4 (.int .u64)) (.pair .bool .unit))) (.pair (.int .i64) .unit)), true, fun x => run x.1 x.2.1 x.2.2.1⟩
set_option maxRecDepth 100000 in
theorem con : Con Try.prog 37 F := by
  refine con_of_den (C := C) (ctx_ok (by kernel_rfl) (by kernel_rfl) (by kernel_rfl) (by kernel_rfl) ⟨.inl ⟨Go.Bx.curve_fault.con, Go.Bx.curve_fault.named⟩, ⟨.inl ⟨Go.Bx.curve_add.con, Go.Bx.curve_add.named⟩, trivial⟩⟩) (by kernel_rfl) Try.func37 (c := cB Try.f37) (by kernel_rfl) (by kernel_rfl) F fuel (fun x => by simp [F, spread, Try.ntmps37]) ?_
  intro x r h
  rw [← h]
  have h1 : start F Try.f37.ntmps x = (St0 x.1 x.2.1 x.2.2.1) := by kernel_rfl
  rw [h1]
  refine (top_eq fuel (fin C Try.f37.results.toList F.rs F.multi) x.1 x.2.1 x.2.2.1).trans ?_
  kernel_rfl
theorem named : Named Try.prog 37 := named_of Try.func37 (by kernel_rfl) (by kernel_rfl)
end Go.Bx.curve_Mult
namespace Go.Bx.basculeref_often
open Go Go.Proofs Go.Bx
set_option maxRecDepth 100000
set_option linter.unusedVariables false
def Js : List Nat := [5, 12, 15]
def C : Ctx := ⟨[(4, .bool), (24, (.int .u64)), (45, (.arr 4 (.int .u64))), (59, (.pair (.arr 4 (.int .u64)) (.pair (.arr 4 (.int .u64)) (.pair .bool .unit)))), (61, (.pair (.arr 4 (.int .u64)) (.pair (.arr 4 (.int .u64)) (.pair (.arr 4 (.int .u64)) (.pair (.arr 4 (.int .u64)) (.pair (.pair (.arr 4 (.int .u64)) (.pair (.arr 4 (.int .u64)) (.pair .bool .unit))) .unit))))))], [], [], fnL [(102, Go.Bx.basculeref_together.F)], noSh, [], invL [], [(2, [6, 7]), (1, [6, 8]), (4, [3, 4, 5, 6, 8, 9]), (7, [3, 4, 5, 6, 8, 9]), (10, [3, 4, 5, 6, 8, 9, 10]), (9, [3, 4, 5, 6, 8, 9]), (12, [3, 4, 5, 6, 8, 9]), (18, [3, 4, 5, 6, 8, 9, 10]), (33, [3, 4, 5, 6, 8, 9, 10, 11, 12]), (42, [6, 8])], [], [], 0, 0⟩
def St0 (x0 : List Int × List Int × List Int × List Int × (List Int × List Int × Bool × Unit) × Unit) (x1 : List Int) (x2 : List Int × List Int × Bool × Unit) : St := stL 51 [(0, .data (.pair (.arr 4 (.int .u64)) (.pair (.arr 4 (.int .u64)) (.pair (.arr 4 (.int .u64)) (.pair (.arr 4 (.int .u64)) (.pair (.pair (.arr 4 (.int .u64)) (.pair (.arr 4 (.int .u64)) (.pair .bool .unit))) .unit))))) x0), (1, .data (.arr 4 (.int .u64)) x1), (2, .data (.pair (.arr 4 (.int .u64)) (.pair (.arr 4 (.int .u64)) (.pair .bool .unit))) x2)] []
def St1 (x9 : Int) (c3 : List Int × List Int × List Int × List Int × (List Int × List Int × Bool × Unit) × Unit) (c4 : List Int) (c5 : List Int × List Int × Bool × Unit) (c6 : List Int × List Int × Bool × Unit) (c8 : List Int × List Int × Bool × Unit) : St := stL 51 [(3, .ref 3 0 []), (4, .ref 4 0 []), (5, .ref 5 0 []), (6, .ref 6 0 []), (8, .ref 8 0 []), (9, .data (.int .i64) x9)] [(3, .cell (.pair (.arr 4 (.int .u64)) (.pair (.arr 4 (.int .u64)) (.pair (.arr 4 (.int .u64)) (.pair (.arr 4 (.int .u64)) (.pair (.pair (.arr 4 (.int .u64)) (.pair (.arr 4 (.int .u64)) (.pair .bool .unit))) .unit))))) (.data (.pair (.arr 4 (.int .u64)) (.pair (.arr 4 (.int .u64)) (.pair (.arr 4 (.int .u64)) (.pair (.arr 4 (.int .u64)) (.pair (.pair (.arr 4 (.int .u64)) (.pair (.arr 4 (.int .u64)) (.pair .bool .unit))) .unit))))) c3) false), (4, .cell (.arr 4 (.int .u64)) (.data (.arr 4 (.int .u64)) c4) false), (5, .cell (.pair (.arr 4 (.int .u64)) (.pair (.arr 4 (.int .u64)) (.pair .bool .unit))) (.data (.pair (.arr 4 (.int .u64)) (.pair (.arr 4 (.int .u64)) (.pair .bool .unit))) c5) false), (6, .cell (.pair (.arr 4 (.int .u64)) (.pair (.arr 4 (.int .u64)) (.pair .bool .unit))) (.data (.pair (.arr 4 (.int .u64)) (.pair (.arr 4 (.int .u64)) (.pair .bool .unit))) c6) false), (8, .cell (.pair (.arr 4 (.int .u64)) (.pair (.arr 4 (.int .u64)) (.pair .bool .unit))) (.data (.pair (.arr 4 (.int .u64)) (.pair (.arr 4 (.int .u64)) (.pair .bool .unit))) c8) false)]
noncomputable def cd0 : Code := cL (cL (cR (cL (cR (cR (cB Try.f103))))))
def St2 (x9 : Int) (x10 : Int) (c3 : List Int × List Int × List Int × List Int × (List Int × List Int × Bool × Unit) × Unit) (c4 : List Int) (c5 : List Int × List Int × Bool × Unit) (c6 : List Int × List Int × Bool × Unit) (c8 : List Int × List Int × Bool × Unit) : St := stL 51 [(3, .ref 3 0 []), (4, .ref 4 0 []), (5, .ref 5 0 []), (6, .ref 6 0 []), (8, .ref 8 0 []), (9, .data (.int .i64) x9), (10, .data (.int .i64) x10)] [(3, .cell (.pair (.arr 4 (.int .u64)) (.pair (.arr 4 (.int .u64)) (.pair (.arr 4 (.int .u64)) (.pair (.arr 4 (.int .u64)) (.pair (.pair (.arr 4 (.int .u64)) (.pair (.arr 4 (.int .u64)) (.pair .bool .unit))) .unit))))) (.data (.pair (.arr 4 (.int .u64)) (.pair (.arr 4 (.int .u64)) (.pair (.arr 4 (.int .u64)) (.pair (.arr 4 (.int .u64)) (.pair (.pair (.arr 4 (.int .u64)) (.pair (.arr 4 (.int .u64)) (.pair .bool .unit))) .unit))))) c3) false), (4, .cell (.arr 4 (.int .u64)) (.data (.arr 4 (.int .u64)) c4) false), (5, .cell (.pair (.arr 4 (.int .u64)) (.pair (.arr 4 (.int .u64)) (.pair .bool .unit))) (.data (.pair (.arr 4 (.int .u64)) (.pair (.arr 4 (.int .u64)) (.pair .bool .unit))) c5) false), (6, .cell (.pair (.arr 4 (.int .u64)) (.pair (.arr 4 (.int .u64)) (.pair .bool .unit))) (.data (.pair (.arr 4 (.int .u64)) (.pair (.arr 4 (.int .u64)) (.pair .bool .unit))) c6) false), (8, .cell (.pair (.arr 4 (.int .u64)) (.pair (.arr 4 (.int .u64)) (.pair .bool .unit))) (.data (.pair (.arr 4 (.int .u64)) (.pair (.arr 4 (.int .u64)) (.pair .bool .unit))) c8) false)]
noncomputable def cd1 : Code := cL (cL (cR (cL (cL (cR (cL (cL (cR (cL (cR (cR (cB Try.f103))))))))))))
def St3 (x9 : Int) (x10 : Int) (x12 : Bool) (c3 : List Int × List Int × List Int × List Int × (List Int × List Int × Bool × Unit) × Unit) (c4 : List Int) (c5 : List Int × List Int × Bool × Unit) (c6 : List Int × List Int × Bool × Unit) (c8 : List Int × List Int × Bool × Unit) (c11 : List Int × List Int × Bool × Unit) : St := stL 51 [(3, .ref 3 0 []), (4, .ref 4 0 []), (5, .ref 5 0 []), (6, .ref 6 0 []), (8, .ref 8 0 []), (9, .data (.int .i64) x9), (10, .data (.int .i64) x10), (11, .ref 11 0 []), (12, .data .bool x12)] [(3, .cell (.pair (.arr 4 (.int .u64)) (.pair (.arr 4 (.int .u64)) (.pair (.arr 4 (.int .u64)) (.pair (.arr 4 (.int .u64)) (.pair (.pair (.arr 4 (.int .u64)) (.pair (.arr 4 (.int .u64)) (.pair .bool .unit))) .unit))))) (.data (.pair (.arr 4 (.int .u64)) (.pair (.arr 4 (.int .u64)) (.pair (.arr 4 (.int .u64)) (.pair (.arr 4 (.int .u64)) (.pair (.pair (.arr 4 (.int .u64)) (.pair (.arr 4 (.int .u64)) (.pair .bool .unit))) .unit))))) c3) false), (4, .cell (.arr 4 (.int .u64)) (.data (.arr 4 (.int .u64)) c4) false), (5, .cell (.pair (.arr 4 (.int .u64)) (.pair (.arr 4 (.int .u64)) (.pair .bool .unit))) (.data (.pair (.arr 4 (.int .u64)) (.pair (.arr 4 (.int .u64)) (.pair .bool .unit))) c5) false), (6, .cell (.pair (.arr 4 (.int .u64)) (.pair (.arr 4 (.int .u64)) (.pair .bool .unit))) (.data (.pair (.arr 4 (.int .u64)) (.pair (.arr 4 (.int .u64)) (.pair .bool .unit))) c6) false), (8, .cell (.pair (.arr 4 (.int .u64)) (.pair (.arr 4 (.int .u64)) (.pair .bool .unit))) (.data (.pair (.arr 4 (.int .u64)) (.pair (.arr 4 (.int .u64)) (.pair .bool .unit))) c8) false), (11, .cell (.pair (.arr 4 (.int .u64)) (.pair (.arr 4 (.int .u64)) (.pair .bool .unit))) (.data (.pair (.arr 4 (.int .u64)) (.pair (.arr 4 (.int .u64)) (.pair .bool .unit))) c11) false)]
noncomputable def cd2 : Code := cR (cR (cL (cL (cR (cL (cL (cR (cL (cL (cR (cL (cR (cR (cB Try.f103))))))))))))))
noncomputable def cd3 : Code := cR (cR (cL (cL (cR (cL (cL (cR (cL (cL (cR (cL (cL (cR (cL (cR (cR (cB Try.f103)))))))))))))))))
def St4 (x7 : Bool) (c6 : List Int × List Int × Bool × Unit) : St := stL 51 [(6, .ref 6 0 []), (7, .data .bool x7)] [(6, .cell (.pair (.arr 4 (.int .u64)) (.pair (.arr 4 (.int .u64)) (.pair .bool .unit))) (.data (.pair (.arr 4 (.int .u64)) (.pair (.arr 4 (.int .u64)) (.pair .bool .unit))) c6) false)]
def j0 {α : Type} (Nx : Int → Int → (List Int × List Int × List Int × List Int × (List Int × List Int × Bool × Unit) × Unit) → (List Int) → (List Int × List Int × Bool × Unit) → (List Int × List Int × Bool × Unit) → (List Int × List Int × Bool × Unit) → Option α) (Rt : Bool → (List Int × List Int × Bool × Unit) → Option α) (x9 : Int) (x10 : Int) (x12 : Bool) (c3 : List Int × List Int × List Int × List Int × (List Int × List Int × Bool × Unit) × Unit) (c4 : List Int) (c5 : List Int × List Int × Bool × Unit) (c6 : List Int × List Int × Bool × Unit) (c8 : List Int × List Int × Bool × Unit) (c11 : List Int × List Int × Bool × Unit) : Option α :=
  if (not x12) = true then
    Rt false ([0, 0, 0, 0], [0, 0, 0, 0], false, ())
  else
    Nx x9 (IntKind.i64.wrap (x10 - 1)) c3 c4 c5 c6 c11
theorem j0_eq {α : Type} (k : Nat) (next : St → Option α) (Q : Ex → St → Option α) (x9 : Int) (x10 : Int) (x12 : Bool) (c3 : List Int × List Int × List Int × List Int × (List Int × List Int × Bool × Unit) × Unit) (c4 : List Int) (c5 : List Int × List Int × Bool × Unit) (c6 : List Int × List Int × Bool × Unit) (c8 : List Int × List Int × Bool × Unit) (c11 : List Int × List Int × Bool × Unit) :
    (den C k) cd3 (blkQ C 3 (sq (den C k) (lp C k) Js C cd2 (lq C 18 next Q))) (St3 x9 x10 x12 c3 c4 c5 c6 c8 c11) = j0 (fun (x9 : Int) (x10 : Int) (c3 : List Int × List Int × List Int × List Int × (List Int × List Int × Bool × Unit) × Unit) (c4 : List Int) (c5 : List Int × List Int × Bool × Unit) (c6 : List Int × List Int × Bool × Unit) (c8 : List Int × List Int × Bool × Unit) => next (St2 x9 x10 c3 c4 c5 c6 c8)) (fun (x7 : Bool) (c6 : List Int × List Int × Bool × Unit) => Q .ret (St4 x7 c6)) x9 x10 x12 c3 c4 c5 c6 c8 c11 := by
  have h : ∀ (D L : DT α), denJ D L Js C cd3 (blkQ C 3 (sq D L Js C cd2 (lq C 18 next Q))) (St3 x9 x10 x12 c3 c4 c5 c6 c8 c11) =
        if (not x12) = true then
          Q .ret (St4 false ([0, 0, 0, 0], [0, 0, 0, 0], false, ()))
        else
          next (St2 x9 (IntKind.i64.wrap (x10 - 1)) c3 c4 c5 c6 c11) := by
    intro D L; kernel_rfl
  refine (show (den C k) cd3 (blkQ C 3 (sq (den C k) (lp C k) Js C cd2 (lq C 18 next Q))) (St3 x9 x10 x12 c3 c4 c5 c6 c8 c11) = denJ (den C k) (lp C k) Js C cd3 (blkQ C 3 (sq (den C k) (lp C k) Js C cd2 (lq C 18 next Q))) (St3 x9 x10 x12 c3 c4 c5 c6 c8 c11) from (denJ_den _ _ _ _ _ _).symm).trans ((h (den C k) (lp C k)).trans ?_)
  first | rfl | kernel_rfl
def St5 (x9 : Int) (c3 : List Int × List Int × List Int × List Int × (List Int × List Int × Bool × Unit) × Unit) (c4 : List Int) (c5 : List Int × List Int × Bool × Unit) (c6 : List Int × List Int × Bool × Unit) (c8 : List Int × List Int × Bool × Unit) : St := stL 51 [(3, .ref 3 0 []), (4, .ref 4 0 []), (5, .ref 5 0 []), (6, .ref 6 0 []), (8, .ref 8 0 []), (9, .data (.int .i64) x9)] [(3, .cell (.pair (.arr 4 (.int .u64)) (.pair (.arr 4 (.int .u64)) (.pair (.arr 4 (.int .u64)) (.pair (.arr 4 (.int .u64)) (.pair (.pair (.arr 4 (.int .u64)) (.pair (.arr 4 (.int .u64)) (.pair .bool .unit))) .unit))))) (.data (.pair (.arr 4 (.int .u64)) (.pair (.arr 4 (.int .u64)) (.pair (.arr 4 (.int .u64)) (.pair (.arr 4 (.int .u64)) (.pair (.pair (.arr 4 (.int .u64)) (.pair (.arr 4 (.int .u64)) (.pair .bool .unit))) .unit))))) c3) false), (4, .cell (.arr 4 (.int .u64)) (.data (.arr 4 (.int .u64)) c4) false), (5, .cell (.pair (.arr 4 (.int .u64)) (.pair (.arr 4 (.int .u64)) (.pair .bool .unit))) (.data (.pair (.arr 4 (.int .u64)) (.pair (.arr 4 (.int .u64)) (.pair .bool .unit))) c5) false), (6, .cell (.pair (.arr 4 (.int .u64)) (.pair (.arr 4 (.int .u64)) (.pair .bool .unit))) (.data (.pair (.arr 4 (.int .u64)) (.pair (.arr 4 (.int .u64)) (.pair .bool .unit))) c6) false), (8, .cell (.pair (.arr 4 (.int .u64)) (.pair (.arr 4 (.int .u64)) (.pair .bool .unit))) (.data (.pair (.arr 4 (.int .u64)) (.pair (.arr 4 (.int .u64)) (.pair .bool .unit))) c8) false)]
def l1s {α : Type} (Nx : Int → Int → (List Int × List Int × List Int × List Int × (List Int × List Int × Bool × Unit) × Unit) → (List Int) → (List Int × List Int × Bool × Unit) → (List Int × List Int × Bool × Unit) → (List Int × List Int × Bool × Unit) → Option α) (Rt : Bool → (List Int × List Int × Bool × Unit) → Option α) (Xt2 : Int → (List Int × List Int × List Int × List Int × (List Int × List Int × Bool × Unit) × Unit) → (List Int) → (List Int × List Int × Bool × Unit) → (List Int × List Int × Bool × Unit) → (List Int × List Int × Bool × Unit) → Option α) (x9 : Int) (x10 : Int) (c3 : List Int × List Int × List Int × List Int × (List Int × List Int × Bool × Unit) × Unit) (c4 : List Int) (c5 : List Int × List Int × Bool × Unit) (c6 : List Int × List Int × Bool × Unit) (c8 : List Int × List Int × Bool × Unit) : Option α :=
  if (decide (x10 ≥ 0)) = true then
    (Go.Bx.basculeref_together.run c3 c8 c8).bind fun y1 =>
    cond (decide (0 ≤ x9 ∧ x9 < (4 : Int)) || !(y1.2.1 == true)) (
      cond (decide (0 ≤ x10) || !(y1.2.1 == true)) (
        if (cond y1.2.1 ((band .u64 (List.getD c4 (Int.toNat x9) 0) (shlI .u64 1 x10)) != 0) false) = true then
          (Go.Bx.basculeref_together.run c3 y1.1 c5).bind fun y2 =>
          j0 Nx Rt x9 x10 y2.2.1 c3 c4 c5 c6 c8 y2.1
        else
          j0 Nx Rt x9 x10 y1.2.1 c3 c4 c5 c6 c8 y1.1) none) none
  else
    Xt2 x9 c3 c4 c5 c6 c8
theorem l1s_eq {α : Type} (k : Nat) (next : St → Option α) (Q : Ex → St → Option α) (x9 : Int) (x10 : Int) (c3 : List Int × List Int × List Int × List Int × (List Int × List Int × Bool × Unit) × Unit) (c4 : List Int) (c5 : List Int × List Int × Bool × Unit) (c6 : List Int × List Int × Bool × Unit) (c8 : List Int × List Int × Bool × Unit) :
    rnd C k cd1 18 Q next (St2 x9 x10 c3 c4 c5 c6 c8) = l1s (fun (x9 : Int) (x10 : Int) (c3 : List Int × List Int × List Int × List Int × (List Int × List Int × Bool × Unit) × Unit) (c4 : List Int) (c5 : List Int × List Int × Bool × Unit) (c6 : List Int × List Int × Bool × Unit) (c8 : List Int × List Int × Bool × Unit) => next (St2 x9 x10 c3 c4 c5 c6 c8)) (fun (x7 : Bool) (c6 : List Int × List Int × Bool × Unit) => Q .ret (St4 x7 c6)) (fun (x9 : Int) (c3 : List Int × List Int × List Int × List Int × (List Int × List Int × Bool × Unit) × Unit) (c4 : List Int) (c5 : List Int × List Int × Bool × Unit) (c6 : List Int × List Int × Bool × Unit) (c8 : List Int × List Int × Bool × Unit) => Q (.exit 2) (St5 x9 c3 c4 c5 c6 c8)) x9 x10 c3 c4 c5 c6 c8 := by
  have h : ∀ (D L : DT α), denJ D L Js C cd1 (lq C 18 next Q) (St2 x9 x10 c3 c4 c5 c6 c8) =
        if (decide (x10 ≥ 0)) = true then
          (Go.Bx.basculeref_together.run c3 c8 c8).bind fun y1 =>
          cond (decide (0 ≤ x9 ∧ x9 < (4 : Int)) || !(y1.2.1 == true)) (
            cond (decide (0 ≤ x10) || !(y1.2.1 == true)) (
              if (cond y1.2.1 ((band .u64 (List.getD c4 (Int.toNat x9) 0) (shlI .u64 1 x10)) != 0) false) = true then
                (Go.Bx.basculeref_together.run c3 y1.1 c5).bind fun y2 =>
                D cd3 (blkQ C 3 (sq D L Js C cd2 (lq C 18 next Q))) (St3 x9 x10 y2.2.1 c3 c4 c5 c6 c8 y2.1)
              else
                D cd3 (blkQ C 3 (sq D L Js C cd2 (lq C 18 next Q))) (St3 x9 x10 y1.2.1 c3 c4 c5 c6 c8 y1.1)) none) none
        else
          Q (.exit 2) (St5 x9 c3 c4 c5 c6 c8) := by
    intro D L; kernel_rfl
  refine (show rnd C k cd1 18 Q next (St2 x9 x10 c3 c4 c5 c6 c8) = denJ (den C k) (lp C k) Js C cd1 (lq C 18 next Q) (St2 x9 x10 c3 c4 c5 c6 c8) from (denJ_den _ _ _ _ _ _).symm).trans ((h (den C k) (lp C k)).trans ?_)
  simp only [j0_eq]
  first | rfl | kernel_rfl
def l1 {α : Type} (k : Nat) (Rt : Bool → (List Int × List Int × Bool × Unit) → Option α) (Xt2 : Int → (List Int × List Int × List Int × List Int × (List Int × List Int × Bool × Unit) × Unit) → (List Int) → (List Int × List Int × Bool × Unit) → (List Int × List Int × Bool × Unit) → (List Int × List Int × Bool × Unit) → Option α) : Nat → Int → Int → (List Int × List Int × List Int × List Int × (List Int × List Int × Bool × Unit) × Unit) → (List Int) → (List Int × List Int × Bool × Unit) → (List Int × List Int × Bool × Unit) → (List Int × List Int × Bool × Unit) → Option α
  | 0, _, _, _, _, _, _, _ => none
  | n + 1, x9, x10, c3, c4, c5, c6, c8 => l1s (l1 k Rt Xt2 n) Rt Xt2 x9 x10 c3 c4 c5 c6 c8
theorem l1_eq {α : Type} (k : Nat) (Q : Ex → St → Option α) : ∀ (n : Nat) (x9 : Int) (x10 : Int) (c3 : List Int × List Int × List Int × List Int × (List Int × List Int × Bool × Unit) × Unit) (c4 : List Int) (c5 : List Int × List Int × Bool × Unit) (c6 : List Int × List Int × Bool × Unit) (c8 : List Int × List Int × Bool × Unit), iter (rnd C k cd1 18 Q) n (St2 x9 x10 c3 c4 c5 c6 c8) = l1 k (fun (x7 : Bool) (c6 : List Int × List Int × Bool × Unit) => Q .ret (St4 x7 c6)) (fun (x9 : Int) (c3 : List Int × List Int × List Int × List Int × (List Int × List Int × Bool × Unit) × Unit) (c4 : List Int) (c5 : List Int × List Int × Bool × Unit) (c6 : List Int × List Int × Bool × Unit) (c8 : List Int × List Int × Bool × Unit) => Q (.exit 2) (St5 x9 c3 c4 c5 c6 c8)) n x9 x10 c3 c4 c5 c6 c8
  | 0, _, _, _, _, _, _, _ => rfl
  | n + 1, x9, x10, c3, c4, c5, c6, c8 => (iter_succ _ _ _).trans ((l1s_eq k (iter (rnd C k cd1 18 Q) n) Q x9 x10 c3 c4 c5 c6 c8).trans (congrArg (fun N => l1s N (fun (x7 : Bool) (c6 : List Int × List Int × Bool × Unit) => Q .ret (St4 x7 c6)) (fun (x9 : Int) (c3 : List Int × List Int × List Int × List Int × (List Int × List Int × Bool × Unit) × Unit) (c4 : List Int) (c5 : List Int × List Int × Bool × Unit) (c6 : List Int × List Int × Bool × Unit) (c8 : List Int × List Int × Bool × Unit) => Q (.exit 2) (St5 x9 c3 c4 c5 c6 c8)) x9 x10 c3 c4 c5 c6 c8) (funext fun x9 => funext fun x10 => funext fun c3 => funext fun c4 => funext fun c5 => funext fun c6 => funext fun c8 => l1_eq k Q n x9 x10 c3 c4 c5 c6 c8)))
theorem l1_congr {α : Type} (k : Nat) (Rt : Bool → (List Int × List Int × Bool × Unit) → Option α) (Xt2 : Int → (List Int × List Int × List Int × List Int × (List Int × List Int × Bool × Unit) × Unit) → (List Int) → (List Int × List Int × Bool × Unit) → (List Int × List Int × Bool × Unit) → (List Int × List Int × Bool × Unit) → Option α) (Rtq : Bool → (List Int × List Int × Bool × Unit) → Option α) (Xt2q : Int → (List Int × List Int × List Int × List Int × (List Int × List Int × Bool × Unit) × Unit) → (List Int) → (List Int × List Int × Bool × Unit) → (List Int × List Int × Bool × Unit) → (List Int × List Int × Bool × Unit) → Option α) (hRt : ∀ (x7 : Bool) (c6 : List Int × List Int × Bool × Unit), Rt x7 c6 = Rtq x7 c6) (hXt2 : ∀ (x9 : Int) (c3 : List Int × List Int × List Int × List Int × (List Int × List Int × Bool × Unit) × Unit) (c4 : List Int) (c5 : List Int × List Int × Bool × Unit) (c6 : List Int × List Int × Bool × Unit) (c8 : List Int × List Int × Bool × Unit), Xt2 x9 c3 c4 c5 c6 c8 = Xt2q x9 c3 c4 c5 c6 c8) (n : Nat) (x9 : Int) (x10 : Int) (c3 : List Int × List Int × List Int × List Int × (List Int × List Int × Bool × Unit) × Unit) (c4 : List Int) (c5 : List Int × List Int × Bool × Unit) (c6 : List Int × List Int × Bool × Unit) (c8 : List Int × List Int × Bool × Unit) : l1 k Rt Xt2 n x9 x10 c3 c4 c5 c6 c8 = l1 k Rtq Xt2q n x9 x10 c3 c4 c5 c6 c8 := by
  obtain rfl : Rt = Rtq := by funext x7; funext c6; exact hRt x7 c6
  obtain rfl : Xt2 = Xt2q := by funext x9; funext c3; funext c4; funext c5; funext c6; funext c8; exact hXt2 x9 c3 c4 c5 c6 c8
  rfl
noncomputable def cd4 : Code := cR (cR (cL (cL (cR (cL (cR (cR (cB Try.f103))))))))
def St6 (x9 : Int) (c3 : List Int × List Int × List Int × List Int × (List Int × List Int × Bool × Unit) × Unit) (c4 : List Int) (c5 : List Int × List Int × Bool × Unit) (c6 : List Int × List Int × Bool × Unit) (c8 : List Int × List Int × Bool × Unit) : St := stL 51 [(3, .ref 3 0 []), (4, .ref 4 0 []), (5, .ref 5 0 []), (6, .ref 6 0 []), (8, .ref 8 0 []), (9, .data (.int .i64) x9)] [(3, .cell (.pair (.arr 4 (.int .u64)) (.pair (.arr 4 (.int .u64)) (.pair (.arr 4 (.int .u64)) (.pair (.arr 4 (.int .u64)) (.pair (.pair (.arr 4 (.int .u64)) (.pair (.arr 4 (.int .u64)) (.pair .bool .unit))) .unit))))) (.data (.pair (.arr 4 (.int .u64)) (.pair (.arr 4 (.int .u64)) (.pair (.arr 4 (.int .u64)) (.pair (.arr 4 (.int .u64)) (.pair (.pair (.arr 4 (.int .u64)) (.pair (.arr 4 (.int .u64)) (.pair .bool .unit))) .unit))))) c3) false), (4, .cell (.arr 4 (.int .u64)) (.data (.arr 4 (.int .u64)) c4) false), (5, .cell (.pair (.arr 4 (.int .u64)) (.pair (.arr 4 (.int .u64)) (.pair .bool .unit))) (.data (.pair (.arr 4 (.int .u64)) (.pair (.arr 4 (.int .u64)) (.pair .bool .unit))) c5) false), (6, .cell (.pair (.arr 4 (.int .u64)) (.pair (.arr 4 (.int .u64)) (.pair .bool .unit))) (.data (.pair (.arr 4 (.int .u64)) (.pair (.arr 4 (.int .u64)) (.pair .bool .unit))) c6) false), (8, .cell (.pair (.arr 4 (.int .u64)) (.pair (.arr 4 (.int .u64)) (.pair .bool .unit))) (.data (.pair (.arr 4 (.int .u64)) (.pair (.arr 4 (.int .u64)) (.pair .bool .unit))) c8) false)]
def j1 {α : Type} (Nx : Int → (List Int × List Int × List Int × List Int × (List Int × List Int × Bool × Unit) × Unit) → (List Int) → (List Int × List Int × Bool × Unit) → (List Int × List Int × Bool × Unit) → (List Int × List Int × Bool × Unit) → Option α) (x9 : Int) (c3 : List Int × List Int × List Int × List Int × (List Int × List Int × Bool × Unit) × Unit) (c4 : List Int) (c5 : List Int × List Int × Bool × Unit) (c6 : List Int × List Int × Bool × Unit) (c8 : List Int × List Int × Bool × Unit) : Option α :=
  Nx (IntKind.i64.wrap (x9 - 1)) c3 c4 c5 c6 c8
theorem j1_eq {α : Type} (k : Nat) (next : St → Option α) (Q : Ex → St → Option α) (x9 : Int) (c3 : List Int × List Int × List Int × List Int × (List Int × List Int × Bool × Unit) × Unit) (c4 : List Int) (c5 : List Int × List Int × Bool × Unit) (c6 : List Int × List Int × Bool × Unit) (c8 : List Int × List Int × Bool × Unit) :
    (den C k) cd4 (lq C 9 next Q) (St6 x9 c3 c4 c5 c6 c8) = j1 (fun (x9 : Int) (c3 : List Int × List Int × List Int × List Int × (List Int × List Int × Bool × Unit) × Unit) (c4 : List Int) (c5 : List Int × List Int × Bool × Unit) (c6 : List Int × List Int × Bool × Unit) (c8 : List Int × List Int × Bool × Unit) => next (St1 x9 c3 c4 c5 c6 c8)) x9 c3 c4 c5 c6 c8 := by
  have h : ∀ (D L : DT α), denJ D L Js C cd4 (lq C 9 next Q) (St6 x9 c3 c4 c5 c6 c8) =
        next (St1 (IntKind.i64.wrap (x9 - 1)) c3 c4 c5 c6 c8) := by
    intro D L; kernel_rfl
  refine (show (den C k) cd4 (lq C 9 next Q) (St6 x9 c3 c4 c5 c6 c8) = denJ (den C k) (lp C k) Js C cd4 (lq C 9 next Q) (St6 x9 c3 c4 c5 c6 c8) from (denJ_den _ _ _ _ _ _).symm).trans ((h (den C k) (lp C k)).trans ?_)
  first | rfl | kernel_rfl
theorem a0 {α : Type} (k : Nat) (next : St → Option α) (Q : Ex → St → Option α) (x9 : Int) (x10 : Int) (c3 : List Int × List Int × List Int × List Int × (List Int × List Int × Bool × Unit) × Unit) (c4 : List Int) (c5 : List Int × List Int × Bool × Unit) (c6 : List Int × List Int × Bool × Unit) (c8 : List Int × List Int × Bool × Unit) :
    (lp C k) cd1 (blkQ C 2 (blkQ C 1 (sq (den C k) (lp C k) Js C cd4 (lq C 9 next Q)))) (St2 x9 x10 c3 c4 c5 c6 c8) = l1 k (fun (x7 : Bool) (c6 : List Int × List Int × Bool × Unit) => (fun (x7 : Bool) (c6 : List Int × List Int × Bool × Unit) => Q .ret (St4 x7 c6)) x7 c6) (fun (x9 : Int) (c3 : List Int × List Int × List Int × List Int × (List Int × List Int × Bool × Unit) × Unit) (c4 : List Int) (c5 : List Int × List Int × Bool × Unit) (c6 : List Int × List Int × Bool × Unit) (c8 : List Int × List Int × Bool × Unit) => j1 (fun (x9 : Int) (c3 : List Int × List Int × List Int × List Int × (List Int × List Int × Bool × Unit) × Unit) (c4 : List Int) (c5 : List Int × List Int × Bool × Unit) (c6 : List Int × List Int × Bool × Unit) (c8 : List Int × List Int × Bool × Unit) => next (St1 x9 c3 c4 c5 c6 c8)) x9 c3 c4 c5 c6 c8) k x9 x10 c3 c4 c5 c6 c8 :=
  (show (lp C k) cd1 (blkQ C 2 (blkQ C 1 (sq (den C k) (lp C k) Js C cd4 (lq C 9 next Q)))) (St2 x9 x10 c3 c4 c5 c6 c8) = iter (rnd C k cd1 18 (blkQ C 2 (blkQ C 1 (sq (den C k) (lp C k) Js C cd4 (lq C 9 next Q))))) k (St2 x9 x10 c3 c4 c5 c6 c8) by kernel_rfl).trans ((l1_eq k (blkQ C 2 (blkQ C 1 (sq (den C k) (lp C k) Js C cd4 (lq C 9 next Q)))) k x9 x10 c3 c4 c5 c6 c8).trans (l1_congr k _ _ _ _ (fun x7 c6 => (show (blkQ C 2 (blkQ C 1 (sq (den C k) (lp C k) Js C cd4 (lq C 9 next Q)))) .ret (St4 x7 c6) = Q .ret (St4 x7 c6) by kernel_rfl)) (fun x9 c3 c4 c5 c6 c8 => ((show (blkQ C 2 (blkQ C 1 (sq (den C k) (lp C k) Js C cd4 (lq C 9 next Q)))) (.exit 2) (St5 x9 c3 c4 c5 c6 c8) = (den C k) cd4 (lq C 9 next Q) (St6 x9 c3 c4 c5 c6 c8) by kernel_rfl).trans (by simp only [j1_eq]))) k x9 x10 c3 c4 c5 c6 c8))
def St7 (c6 : List Int × List Int × Bool × Unit) (c8 : List Int × List Int × Bool × Unit) : St := stL 51 [(6, .ref 6 0 []), (8, .ref 8 0 [])] [(6, .cell (.pair (.arr 4 (.int .u64)) (.pair (.arr 4 (.int .u64)) (.pair .bool .unit))) (.data (.pair (.arr 4 (.int .u64)) (.pair (.arr 4 (.int .u64)) (.pair .bool .unit))) c6) false), (8, .cell (.pair (.arr 4 (.int .u64)) (.pair (.arr 4 (.int .u64)) (.pair .bool .unit))) (.data (.pair (.arr 4 (.int .u64)) (.pair (.arr 4 (.int .u64)) (.pair .bool .unit))) c8) false)]
def l0s {α : Type} (k : Nat) (Nx : Int → (List Int × List Int × List Int × List Int × (List Int × List Int × Bool × Unit) × Unit) → (List Int) → (List Int × List Int × Bool × Unit) → (List Int × List Int × Bool × Unit) → (List Int × List Int × Bool × Unit) → Option α) (Rt : Bool → (List Int × List Int × Bool × Unit) → Option α) (Xt0 : (List Int × List Int × Bool × Unit) → (List Int × List Int × Bool × Unit) → Option α) (x9 : Int) (c3 : List Int × List Int × List Int × List Int × (List Int × List Int × Bool × Unit) × Unit) (c4 : List Int) (c5 : List Int × List Int × Bool × Unit) (c6 : List Int × List Int × Bool × Unit) (c8 : List Int × List Int × Bool × Unit) : Option α :=
  if (decide (x9 ≥ 0)) = true then
    l1 k (fun (x7 : Bool) (c6 : List Int × List Int × Bool × Unit) => Rt x7 c6) (fun (x9 : Int) (c3 : List Int × List Int × List Int × List Int × (List Int × List Int × Bool × Unit) × Unit) (c4 : List Int) (c5 : List Int × List Int × Bool × Unit) (c6 : List Int × List Int × Bool × Unit) (c8 : List Int × List Int × Bool × Unit) => j1 Nx x9 c3 c4 c5 c6 c8) k x9 63 c3 c4 c5 c6 c8
  else
    Xt0 c6 c8
theorem l0s_eq {α : Type} (k : Nat) (next : St → Option α) (Q : Ex → St → Option α) (x9 : Int) (c3 : List Int × List Int × List Int × List Int × (List Int × List Int × Bool × Unit) × Unit) (c4 : List Int) (c5 : List Int × List Int × Bool × Unit) (c6 : List Int × List Int × Bool × Unit) (c8 : List Int × List Int × Bool × Unit) :
    rnd C k cd0 9 Q next (St1 x9 c3 c4 c5 c6 c8) = l0s k (fun (x9 : Int) (c3 : List Int × List Int × List Int × List Int × (List Int × List Int × Bool × Unit) × Unit) (c4 : List Int) (c5 : List Int × List Int × Bool × Unit) (c6 : List Int × List Int × Bool × Unit) (c8 : List Int × List Int × Bool × Unit) => next (St1 x9 c3 c4 c5 c6 c8)) (fun (x7 : Bool) (c6 : List Int × List Int × Bool × Unit) => Q .ret (St4 x7 c6)) (fun (c6 : List Int × List Int × Bool × Unit) (c8 : List Int × List Int × Bool × Unit) => Q (.exit 0) (St7 c6 c8)) x9 c3 c4 c5 c6 c8 := by
  have h : ∀ (D L : DT α), denJ D L Js C cd0 (lq C 9 next Q) (St1 x9 c3 c4 c5 c6 c8) =
        if (decide (x9 ≥ 0)) = true then
          L cd1 (blkQ C 2 (blkQ C 1 (sq D L Js C cd4 (lq C 9 next Q)))) (St2 x9 63 c3 c4 c5 c6 c8)
        else
          Q (.exit 0) (St7 c6 c8) := by
    intro D L; kernel_rfl
  refine (show rnd C k cd0 9 Q next (St1 x9 c3 c4 c5 c6 c8) = denJ (den C k) (lp C k) Js C cd0 (lq C 9 next Q) (St1 x9 c3 c4 c5 c6 c8) from (denJ_den _ _ _ _ _ _).symm).trans ((h (den C k) (lp C k)).trans ?_)
  simp only [a0]
  first | rfl | kernel_rfl
def l0 {α : Type} (k : Nat) (Rt : Bool → (List Int × List Int × Bool × Unit) → Option α) (Xt0 : (List Int × List Int × Bool × Unit) → (List Int × List Int × Bool × Unit) → Option α) : Nat → Int → (List Int × List Int × List Int × List Int × (List Int × List Int × Bool × Unit) × Unit) → (List Int) → (List Int × List Int × Bool × Unit) → (List Int × List Int × Bool × Unit) → (List Int × List Int × Bool × Unit) → Option α
  | 0, _, _, _, _, _, _ => none
  | n + 1, x9, c3, c4, c5, c6, c8 => l0s k (l0 k Rt Xt0 n) Rt Xt0 x9 c3 c4 c5 c6 c8
theorem l0_eq {α : Type} (k : Nat) (Q : Ex → St → Option α) : ∀ (n : Nat) (x9 : Int) (c3 : List Int × List Int × List Int × List Int × (List Int × List Int × Bool × Unit) × Unit) (c4 : List Int) (c5 : List Int × List Int × Bool × Unit) (c6 : List Int × List Int × Bool × Unit) (c8 : List Int × List Int × Bool × Unit), iter (rnd C k cd0 9 Q) n (St1 x9 c3 c4 c5 c6 c8) = l0 k (fun (x7 : Bool) (c6 : List Int × List Int × Bool × Unit) => Q .ret (St4 x7 c6)) (fun (c6 : List Int × List Int × Bool × Unit) (c8 : List Int × List Int × Bool × Unit) => Q (.exit 0) (St7 c6 c8)) n x9 c3 c4 c5 c6 c8
  | 0, _, _, _, _, _, _ => rfl
  | n + 1, x9, c3, c4, c5, c6, c8 => (iter_succ _ _ _).trans ((l0s_eq k (iter (rnd C k cd0 9 Q) n) Q x9 c3 c4 c5 c6 c8).trans (congrArg (fun N => l0s k N (fun (x7 : Bool) (c6 : List Int × List Int × Bool × Unit) => Q .ret (St4 x7 c6)) (fun (c6 : List Int × List Int × Bool × Unit) (c8 : List Int × List Int × Bool × Unit) => Q (.exit 0) (St7 c6 c8)) x9 c3 c4 c5 c6 c8) (funext fun x9 => funext fun c3 => funext fun c4 => funext fun c5 => funext fun c6 => funext fun c8 => l0_eq k Q n x9 c3 c4 c5 c6 c8)))
theorem l0_congr {α : Type} (k : Nat) (Rt : Bool → (List Int × List Int × Bool × Unit) → Option α) (Xt0 : (List Int × List Int × Bool × Unit) → (List Int × List Int × Bool × Unit) → Option α) (Rtq : Bool → (List Int × List Int × Bool × Unit) → Option α) (Xt0q : (List Int × List Int × Bool × Unit) → (List Int × List Int × Bool × Unit) → Option α) (hRt : ∀ (x7 : Bool) (c6 : List Int × List Int × Bool × Unit), Rt x7 c6 = Rtq x7 c6) (hXt0 : ∀ (c6 : List Int × List Int × Bool × Unit) (c8 : List Int × List Int × Bool × Unit), Xt0 c6 c8 = Xt0q c6 c8) (n : Nat) (x9 : Int) (c3 : List Int × List Int × List Int × List Int × (List Int × List Int × Bool × Unit) × Unit) (c4 : List Int) (c5 : List Int × List Int × Bool × Unit) (c6 : List Int × List Int × Bool × Unit) (c8 : List Int × List Int × Bool × Unit) : l0 k Rt Xt0 n x9 c3 c4 c5 c6 c8 = l0 k Rtq Xt0q n x9 c3 c4 c5 c6 c8 := by
  obtain rfl : Rt = Rtq := by funext x7; funext c6; exact hRt x7 c6
  obtain rfl : Xt0 = Xt0q := by funext c6; funext c8; exact hXt0 c6 c8
  rfl
noncomputable def cd5 : Code := cR (cR (cR (cB Try.f103)))
def St8 (c6 : List Int × List Int × Bool × Unit) (c8 : List Int × List Int × Bool × Unit) : St := stL 51 [(6, .ref 6 0 []), (8, .ref 8 0 [])] [(6, .cell (.pair (.arr 4 (.int .u64)) (.pair (.arr 4 (.int .u64)) (.pair .bool .unit))) (.data (.pair (.arr 4 (.int .u64)) (.pair (.arr 4 (.int .u64)) (.pair .bool .unit))) c6) false), (8, .cell (.pair (.arr 4 (.int .u64)) (.pair (.arr 4 (.int .u64)) (.pair .bool .unit))) (.data (.pair (.arr 4 (.int .u64)) (.pair (.arr 4 (.int .u64)) (.pair .bool .unit))) c8) false)]
def j2 {α : Type} (Rt : Bool → (List Int × List Int × Bool × Unit) → Option α) (c6 : List Int × List Int × Bool × Unit) (c8 : List Int × List Int × Bool × Unit) : Option α :=
  Rt true c8
theorem j2_eq {α : Type} (k : Nat) (Q : Ex → St → Option α) (c6 : List Int × List Int × Bool × Unit) (c8 : List Int × List Int × Bool × Unit) :
    (den C k) cd5 Q (St8 c6 c8) = j2 (fun (x7 : Bool) (c6 : List Int × List Int × Bool × Unit) => Q .ret (St4 x7 c6)) c6 c8 := by
  have h : ∀ (D L : DT α), denJ D L Js C cd5 Q (St8 c6 c8) =
        Q .ret (St4 true c8) := by
    intro D L; kernel_rfl
  refine (show (den C k) cd5 Q (St8 c6 c8) = denJ (den C k) (lp C k) Js C cd5 Q (St8 c6 c8) from (denJ_den _ _ _ _ _ _).symm).trans ((h (den C k) (lp C k)).trans ?_)
  first | rfl | kernel_rfl
theorem a1 {α : Type} (k : Nat) (Q : Ex → St → Option α) (x9 : Int) (c3 : List Int × List Int × List Int × List Int × (List Int × List Int × Bool × Unit) × Unit) (c4 : List Int) (c5 : List Int × List Int × Bool × Unit) (c6 : List Int × List Int × Bool × Unit) (c8 : List Int × List Int × Bool × Unit) :
    (lp C k) cd0 (blkQ C 0 (sq (den C k) (lp C k) Js C cd5 Q)) (St1 x9 c3 c4 c5 c6 c8) = l0 k (fun (x7 : Bool) (c6 : List Int × List Int × Bool × Unit) => (fun (x7 : Bool) (c6 : List Int × List Int × Bool × Unit) => Q .ret (St4 x7 c6)) x7 c6) (fun (c6 : List Int × List Int × Bool × Unit) (c8 : List Int × List Int × Bool × Unit) => j2 (fun (x7 : Bool) (c6 : List Int × List Int × Bool × Unit) => Q .ret (St4 x7 c6)) c6 c8) k x9 c3 c4 c5 c6 c8 :=
  (show (lp C k) cd0 (blkQ C 0 (sq (den C k) (lp C k) Js C cd5 Q)) (St1 x9 c3 c4 c5 c6 c8) = iter (rnd C k cd0 9 (blkQ C 0 (sq (den C k) (lp C k) Js C cd5 Q))) k (St1 x9 c3 c4 c5 c6 c8) by kernel_rfl).trans ((l0_eq k (blkQ C 0 (sq (den C k) (lp C k) Js C cd5 Q)) k x9 c3 c4 c5 c6 c8).trans (l0_congr k _ _ _ _ (fun x7 c6 => (show (blkQ C 0 (sq (den C k) (lp C k) Js C cd5 Q)) .ret (St4 x7 c6) = Q .ret (St4 x7 c6) by kernel_rfl)) (fun c6 c8 => ((show (blkQ C 0 (sq (den C k) (lp C k) Js C cd5 Q)) (.exit 0) (St7 c6 c8) = (den C k) cd5 Q (St8 c6 c8) by kernel_rfl).trans (by simp only [j2_eq]))) k x9 c3 c4 c5 c6 c8))
def top {α : Type} (k : Nat) (Rt : Bool → (List Int × List Int × Bool × Unit) → Option α) (x0 : List Int × List Int × List Int × List Int × (List Int × List Int × Bool × Unit) × Unit) (x1 : List Int) (x2 : List Int × List Int × Bool × Unit) : Option α :=
  l0 k (fun (x7 : Bool) (c6 : List Int × List Int × Bool × Unit) => Rt x7 c6) (fun (c6 : List Int × List Int × Bool × Unit) (c8 : List Int × List Int × Bool × Unit) => j2 Rt c6 c8) k 3 x0 x1 x2 ([0, 0, 0, 0], [0, 0, 0, 0], false, ()) ([0, 0, 0, 0], [0, 0, 0, 0], true, ())
theorem top_eq {α : Type} (k : Nat) (Q : Ex → St → Option α) (x0 : List Int × List Int × List Int × List Int × (List Int × List Int × Bool × Unit) × Unit) (x1 : List Int) (x2 : List Int × List Int × Bool × Unit) :
    (den C k) (cB Try.f103) Q (St0 x0 x1 x2) = top k (fun (x7 : Bool) (c6 : List Int × List Int × Bool × Unit) => Q .ret (St4 x7 c6)) x0 x1 x2 := by
  have h : ∀ (D L : DT α), denJ D L Js C (cB Try.f103) Q (St0 x0 x1 x2) =
        L cd0 (blkQ C 0 (sq D L Js C cd5 Q)) (St1 3 x0 x1 x2 ([0, 0, 0, 0], [0, 0, 0, 0], false, ()) ([0, 0, 0, 0], [0, 0, 0, 0], true, ())) := by
    intro D L; kernel_rfl
  refine (show (den C k) (cB Try.f103) Q (St0 x0 x1 x2) = denJ (den C k) (lp C k) Js C (cB Try.f103) Q (St0 x0 x1 x2) from (denJ_den _ _ _ _ _ _).symm).trans ((h (den C k) (lp C k)).trans ?_)
  simp only [a1]
  first | rfl | kernel_rfl
def run (x0 : List Int × List Int × List Int × List Int × (List Int × List Int × Bool × Unit) × Unit) (x1 : List Int) (x2 : List Int × List Int × Bool × Unit) : Option ((List Int × List Int × Bool × Unit) × Bool × Unit) := top (α := (List Int × List Int × Bool × Unit) × Bool × Unit) fuel (fun (x7 : Bool) (c6 : List Int × List Int × Bool × Unit) => some (c6, x7, ())) x0 x1 x2
def F : Fn := ⟨(.pair (.pair (.arr 4 (.int .u64)) (.pair (.arr 4 (.int .u64)) (.pair (.arr 4 (.int .u64)) (.pair (.arr 4 (.int .u64)) (.pair (.pair (.arr 4 (.int .u64)) (.pair (.arr 4 (.int .u64)) (.pair .bool .unit))) .unit))))) (.pair (.arr 4 (.int .u64)) (.pair (.pair (.arr 4 (.int .u64)) (.pair (.arr 4 (.int .u64)) (.pair .bool .unit))) .unit))), (.pair (.pair (.arr 4 (.int .u64)) (.pair (.arr 4 (.int .u64)) (.pair .bool .unit))) (.pair .bool .unit)), true, fun x => run x.1 x.2.1 x.2.2.1⟩
set_option maxRecDepth 100000 in
theorem con : Con Try.prog 103 F := by
  refine con_of_den (C := C) (ctx_ok (by kernel_rfl) (by kernel_rfl) (by kernel_rfl) (by kernel_rfl) ⟨.inl ⟨Go.Bx.basculeref_together.con, Go.Bx.basculeref_together.named⟩, trivial⟩) (by kernel_rfl) Try.func103 (c := cB Try.f103) (by kernel_rfl) (by kernel_rfl) F fuel (fun x => by simp [F, spread, Try.ntmps103]) ?_
  intro x r h
  rw [← h]
  have h1 : start F Try.f103.ntmps x = (St0 x.1 x.2.1 x.2.2.1) := by kernel_rfl
  rw [h1]
  refine (top_eq fuel (fin C Try.f103.results.toList F.rs F.multi) x.1 x.2.1 x.2.2.1).trans ?_
  kernel_rfl
theorem named : Named Try.prog 103 := named_of Try.func103 (by kernel_rfl) (by kernel_rfl)
end Go.Bx.basculeref_often
namespace Go.Bx.basculeref_OnFault
open Go Go.Proofs Go.Bx
set_option maxRecDepth 100000
set_option linter.unusedVariables false
def Js : List Nat := []
def C : Ctx := ⟨[(31, (.int .i64)), (59, (.pair (.arr 4 (.int .u64)) (.pair (.arr 4 (.int .u64)) (.pair .bool .unit)))), (61, (.pair (.arr 4 (.int .u64)) (.pair (.arr 4 (.int .u64)) (.pair (.arr 4 (.int .u64)) (.pair (.arr 4 (.int .u64)) (.pair (.pair (.arr 4 (.int .u64)) (.pair (.arr 4 (.int .u64)) (.pair .bool .unit))) .unit))))))], [], [], fnL [(33, Go.Bx.basculeref_CurveFault.F), (99, Go.Bx.basculeref_isOn.F)], noSh, [], invL [], [(2, [4])], [], [], 0, 0⟩
def St0 (x0 : List Int × List Int × List Int × List Int × (List Int × List Int × Bool × Unit) × Unit) (x1 : List Int × List Int × Bool × Unit) : St := stL 14 [(0, .data (.pair (.arr 4 (.int .u64)) (.pair (.arr 4 (.int .u64)) (.pair (.arr 4 (.int .u64)) (.pair (.arr 4 (.int .u64)) (.pair (.pair (.arr 4 (.int .u64)) (.pair (.arr 4 (.int .u64)) (.pair .bool .unit))) .unit))))) x0), (1, .data (.pair (.arr 4 (.int .u64)) (.pair (.arr 4 (.int .u64)) (.pair .bool .unit))) x1)] []
def St1 (x4 : Int) : St := stL 14 [(4, .data (.int .i64) x4)] []
def top {α : Type} (Rt : Int → Option α) (x0 : List Int × List Int × List Int × List Int × (List Int × List Int × Bool × Unit) × Unit) (x1 : List Int × List Int × Bool × Unit) : Option α :=
  (Go.Bx.basculeref_CurveFault.run x0).bind fun y1 =>
  (if ((y1 != 0) == false) = true then Go.Bx.basculeref_isOn.run x0 x1 else some false).bind fun y2 =>
  if (cond (y1 != 0) true (not y2)) = true then
    Rt 16
  else
    Rt 0
theorem top_eq {α : Type} (k : Nat) (Q : Ex → St → Option α) (x0 : List Int × List Int × List Int × List Int × (List Int × List Int × Bool × Unit) × Unit) (x1 : List Int × List Int × Bool × Unit) :
    (den C k) (cB Try.f34) Q (St0 x0 x1) = top (fun (x4 : Int) => Q .ret (St1 x4)) x0 x1 := by
  have h : ∀ (D L : DT α), denJ D L Js C (cB Try.f34) Q (St0 x0 x1) =
        (Go.Bx.basculeref_CurveFault.run x0).bind fun y1 =>
        (if ((y1 != 0) == false) = true then Go.Bx.basculeref_isOn.run x0 x1 else some false).bind fun y2 =>
        if (cond (y1 != 0) true (not y2)) = true then
          Q .ret (St1 16)
        else
          Q .ret (St1 0) := by
    intro D L; kernel_rfl
  refine (show (den C k) (cB Try.f34) Q (St0 x0 x1) = denJ (den C k) (lp C k) Js C (cB Try.f34) Q (St0 x0 x1) from (denJ_den _ _ _ _ _ _).symm).trans ((h (den C k) (lp C k)).trans ?_)
  first | rfl | kernel_rfl
def run (x0 : List Int × List Int × List Int × List Int × (List Int × List Int × Bool × Unit) × Unit) (x1 : List Int × List Int × Bool × Unit) : Option (Int) := top (α := Int) (fun (x4 : Int) => some x4) x0 x1
def F : Fn := ⟨(.pair (.pair (.arr 4 (.int .u64)) (.pair (.arr 4 (.int .u64)) (.pair (.arr 4 (.int .u64)) (.pair (.arr 4 (.int .u64)) (.pair (.pair (.arr 4 (.int .u64)) (.pair (.arr 4 (.int .u64)) (.pair .bool .unit))) .unit))))) (.pair (.pair (.arr 4 (.int .u64)) (.pair (.arr 4 (.int .u64)) (.pair .bool .unit))) .unit)), (.int .i64), false, fun x => run x.1 x.2.1⟩
set_option maxRecDepth 100000 in
theorem con : Con Try.prog 34 F := by
  refine con_of_den (C := C) (ctx_ok (by kernel_rfl) (by kernel_rfl) (by kernel_rfl) (by kernel_rfl) ⟨.inl ⟨Go.Bx.basculeref_CurveFault.con, Go.Bx.basculeref_CurveFault.named⟩, ⟨.inl ⟨Go.Bx.basculeref_isOn.con, Go.Bx.basculeref_isOn.named⟩, trivial⟩⟩) (by kernel_rfl) Try.func34 (c := cB Try.f34) (by kernel_rfl) (by kernel_rfl) F fuel (fun x => by simp [F, spread, Try.ntmps34]) ?_
  intro x r h
  rw [← h]
  have h1 : start F Try.f34.ntmps x = (St0 x.1 x.2.1) := by kernel_rfl
  rw [h1]
  refine (top_eq fuel (fin C Try.f34.results.toList F.rs F.multi) x.1 x.2.1).trans ?_
  kernel_rfl
theorem named : Named Try.prog 34 := named_of Try.func34 (by kernel_rfl) (by kernel_rfl)
end Go.Bx.basculeref_OnFault
namespace Go.Bx.basculeref_PointOften
open Go Go.Proofs Go.Bx
set_option maxRecDepth 100000
set_option linter.unusedVariables false
def Js : List Nat := []
def C : Ctx := ⟨[(31, (.int .i64)), (45, (.arr 4 (.int .u64))), (59, (.pair (.arr 4 (.int .u64)) (.pair (.arr 4 (.int .u64)) (.pair .bool .unit)))), (61, (.pair (.arr 4 (.int .u64)) (.pair (.arr 4 (.int .u64)) (.pair (.arr 4 (.int .u64)) (.pair (.arr 4 (.int .u64)) (.pair (.pair (.arr 4 (.int .u64)) (.pair (.arr 4 (.int .u64)) (.pair .bool .unit))) .unit))))))], [], [], fnL [(34, Go.Bx.basculeref_OnFault.F), (103, Go.Bx.basculeref_often.F)], noSh, [], invL [], [(2, [6, 7])], [], [], 0, 0⟩
def St0 (x0 : List Int × List Int × List Int × List Int × (List Int × List Int × Bool × Unit) × Unit) (x1 : List Int) (x2 : List Int × List Int × Bool × Unit) : St := stL 26 [(0, .data (.pair (.arr 4 (.int .u64)) (.pair (.arr 4 (.int .u64)) (.pair (.arr 4 (.int .u64)) (.pair (.arr 4 (.int .u64)) (.pair (.pair (.arr 4 (.int .u64)) (.pair (.arr 4 (.int .u64)) (.pair .bool .unit))) .unit))))) x0), (1, .data (.arr 4 (.int .u64)) x1), (2, .data (.pair (.arr 4 (.int .u64)) (.pair (.arr 4 (.int .u64)) (.pair .bool .unit))) x2)] []
def St1 (x7 : Int) (c6 : List Int × List Int × Bool × Unit) : St := stL 26 [(6, .ref 6 0 []), (7, .data (.int .i64) x7)] [(6, .cell (.pair (.arr 4 (.int .u64)) (.pair (.arr 4 (.int .u64)) (.pair .bool .unit))) (.data (.pair (.arr 4 (.int .u64)) (.pair (.arr 4 (.int .u64)) (.pair .bool .unit))) c6) false)]
def top {α : Type} (Rt : Int → (List Int × List Int × Bool × Unit) → Option α) (x0 : List Int × List Int × List Int × List Int × (List Int × List Int × Bool × Unit) × Unit) (x1 : List Int) (x2 : List Int × List Int × Bool × Unit) : Option α :=
  (Go.Bx.basculeref_OnFault.run x0 x2).bind fun y1 =>
  if (y1 != 0) = true then
    Rt 16 ([0, 0, 0, 0], [0, 0, 0, 0], false, ())
  else
    (Go.Bx.basculeref_often.run x0 x1 x2).bind fun y2 =>
    if (not y2.2.1) = true then
      Rt 16 ([0, 0, 0, 0], [0, 0, 0, 0], false, ())
    else
      Rt 0 y2.1
theorem top_eq {α : Type} (k : Nat) (Q : Ex → St → Option α) (x0 : List Int × List Int × List Int × List Int × (List Int × List Int × Bool × Unit) × Unit) (x1 : List Int) (x2 : List Int × List Int × Bool × Unit) :
    (den C k) (cB Try.f38) Q (St0 x0 x1 x2) = top (fun (x7 : Int) (c6 : List Int × List Int × Bool × Unit) => Q .ret (St1 x7 c6)) x0 x1 x2 := by
  have h : ∀ (D L : DT α), denJ D L Js C (cB Try.f38) Q (St0 x0 x1 x2) =
        (Go.Bx.basculeref_OnFault.run x0 x2).bind fun y1 =>
        if (y1 != 0) = true then
          Q .ret (St1 16 ([0, 0, 0, 0], [0, 0, 0, 0], false, ()))
        else
          (Go.Bx.basculeref_often.run x0 x1 x2).bind fun y2 =>
          if (not y2.2.1) = true then
            Q .ret (St1 16 ([0, 0, 0, 0], [0, 0, 0, 0], false, ()))
          else
            Q .ret (St1 0 y2.1) := by
    intro D L; kernel_rfl
  refine (show (den C k) (cB Try.f38) Q (St0 x0 x1 x2) = denJ (den C k) (lp C k) Js C (cB Try.f38) Q (St0 x0 x1 x2) from (denJ_den _ _ _ _ _ _).symm).trans ((h (den C k) (lp C k)).trans ?_)
  first | rfl | kernel_rfl
def run (x0 : List Int × List Int × List Int × List Int × (List Int × List Int × Bool × Unit) × Unit) (x1 : List Int) (x2 : List Int × List Int × Bool × Unit) : Option ((List Int × List Int × Bool × Unit) × Int × Unit) := top (α := (List Int × List Int × Bool × Unit) × Int × Unit) (fun (x7 : Int) (c6 : List Int × List Int × Bool × Unit) => some (c6, x7, ())) x0 x1 x2
def F : Fn := ⟨(.pair (.pair (.arr 4 (.int .u64)) (.pair (.arr 4 (.int .u64)) (.pair (.arr 4 (.int .u64)) (.pair (.arr 4 (.int .u64)) (.pair (.pair (.arr 4 (.int .u64)) (.pair (.arr 4 (.int .u64)) (.pair .bool .unit))) .unit))))) (.pair (.arr 4 (.int .u64)) (.pair (.pair (.arr 4 (.int .u64)) (.pair (.arr 4 (.int .u64)) (.pair .bool .unit))) .unit))), (.pair (.pair (.arr 4 (.int .u64)) (.pair (.arr 4 (.int .u64)) (.pair .bool .unit))) (.pair (.int .i64) .unit)), true, fun x => run x.1 x.2.1 x.2.2.1⟩
set_option maxRecDepth 100000 in
theorem con : Con Try.prog 38 F := by
  refine con_of_den (C := C) (ctx_ok (by kernel_rfl) (by kernel_rfl) (by kernel_rfl) (by kernel_rfl) ⟨.inl ⟨Go.Bx.basculeref_OnFault.con, Go.Bx.basculeref_OnFault.named⟩, ⟨.inl ⟨Go.Bx.basculeref_often.con, Go.Bx.basculeref_often.named⟩, trivial⟩⟩) (by kernel_rfl) Try.func38 (c := cB Try.f38) (by kernel_rfl) (by kernel_rfl) F fuel (fun x => by simp [F, spread, Try.ntmps38]) ?_
  intro x r h
  rw [← h]
  have h1 : start F Try.f38.ntmps x = (St0 x.1 x.2.1 x.2.2.1) := by kernel_rfl
  rw [h1]
  refine (top_eq fuel (fin C Try.f38.results.toList F.rs F.multi) x.1 x.2.1 x.2.2.1).trans ?_
  kernel_rfl
theorem named : Named Try.prog 38 := named_of Try.func38 (by kernel_rfl) (by kernel_rfl)
end Go.Bx.basculeref_PointOften
namespace Go.Bx.basculelaw_CurveMults
open Go Go.Proofs Go.Bx
set_option maxRecDepth 100000
set_option linter.unusedVariables false
def Js : List Nat := []
def C : Ctx := ⟨[(4, .bool), (45, (.arr 4 (.int .u64))), (59, (.pair (.arr 4 (.int .u64)) (.pair (.arr 4 (.int .u64)) (.pair .bool .unit)))), (61, (.pair (.arr 4 (.int .u64)) (.pair (.arr 4 (.int .u64)) (.pair (.arr 4 (.int .u64)) (.pair (.arr 4 (.int .u64)) (.pair (.pair (.arr 4 (.int .u64)) (.pair (.arr 4 (.int .u64)) (.pair .bool .unit))) .unit))))))], [], [], fnL [(37, Go.Bx.curve_Mult.F), (38, Go.Bx.basculeref_PointOften.F)], noSh, [], invL [], [(2, [6])], [], [], 0, 0⟩
def St0 (x0 : List Int × List Int × List Int × List Int × (List Int × List Int × Bool × Unit) × Unit) (x1 : List Int) (x2 : List Int × List Int × Bool × Unit) : St := stL 33 [(0, .data (.pair (.arr 4 (.int .u64)) (.pair (.arr 4 (.int .u64)) (.pair (.arr 4 (.int .u64)) (.pair (.arr 4 (.int .u64)) (.pair (.pair (.arr 4 (.int .u64)) (.pair (.arr 4 (.int .u64)) (.pair .bool .unit))) .unit))))) x0), (1, .data (.arr 4 (.int .u64)) x1), (2, .data (.pair (.arr 4 (.int .u64)) (.pair (.arr 4 (.int .u64)) (.pair .bool .unit))) x2)] []
def St1 (x6 : Bool) : St := stL 33 [(6, .data .bool x6)] []
def top {α : Type} (Rt : Bool → Option α) (x0 : List Int × List Int × List Int × List Int × (List Int × List Int × Bool × Unit) × Unit) (x1 : List Int) (x2 : List Int × List Int × Bool × Unit) : Option α :=
  (Go.Bx.curve_Mult.run x0 x1 x2).bind fun y1 =>
  (Go.Bx.basculeref_PointOften.run x0 x1 x2).bind fun y2 =>
  Rt (cond (beqD (.pair (.arr 4 (.int .u64)) (.pair (.arr 4 (.int .u64)) (.pair .bool .unit))) y1.1 y2.1) (y1.2.1 == y2.2.1) false)
theorem top_eq {α : Type} (k : Nat) (Q : Ex → St → Option α) (x0 : List Int × List Int × List Int × List Int × (List Int × List Int × Bool × Unit) × Unit) (x1 : List Int) (x2 : List Int × List Int × Bool × Unit) :
    (den C k) (cB Try.f9) Q (St0 x0 x1 x2) = top (fun (x6 : Bool) => Q .ret (St1 x6)) x0 x1 x2 := by
  have h : ∀ (D L : DT α), denJ D L Js C (cB Try.f9) Q (St0 x0 x1 x2) =
        (Go.Bx.curve_Mult.run x0 x1 x2).bind fun y1 =>
        (Go.Bx.basculeref_PointOften.run x0 x1 x2).bind fun y2 =>
        Q .ret (St1 (cond (beqD (.pair (.arr 4 (.int .u64)) (.pair (.arr 4 (.int .u64)) (.pair .bool .unit))) y1.1 y2.1) (y1.2.1 == y2.2.1) false)) := by
    intro D L; kernel_rfl
  refine (show (den C k) (cB Try.f9) Q (St0 x0 x1 x2) = denJ (den C k) (lp C k) Js C (cB Try.f9) Q (St0 x0 x1 x2) from (denJ_den _ _ _ _ _ _).symm).trans ((h (den C k) (lp C k)).trans ?_)
  first | rfl | kernel_rfl
def run (x0 : List Int × List Int × List Int × List Int × (List Int × List Int × Bool × Unit) × Unit) (x1 : List Int) (x2 : List Int × List Int × Bool × Unit) : Option (Bool) := top (α := Bool) (fun (x6 : Bool) => some x6) x0 x1 x2
def F : Fn := ⟨(.pair (.pair (.arr 4 (.int .u64)) (.pair (.arr 4 (.int .u64)) (.pair (.arr 4 (.int .u64)) (.pair (.arr 4 (.int .u64)) (.pair (.pair (.arr 4 (.int .u64)) (.pair (.arr 4 (.int .u64)) (.pair .bool .unit))) .unit))))) (.pair (.arr 4 (.int .u64)) (.pair (.pair (.arr 4 (.int .u64)) (.pair (.arr 4 (.int .u64)) (.pair .bool .unit))) .unit))), .bool, false, fun x => run x.1 x.2.1 x.2.2.1⟩
set_option maxRecDepth 100000 in
theorem con : Con Try.prog 9 F := by
  refine con_of_den (C := C) (ctx_ok (by kernel_rfl) (by kernel_rfl) (by kernel_rfl) (by kernel_rfl) ⟨.inl ⟨Go.Bx.curve_Mult.con, Go.Bx.curve_Mult.named⟩, ⟨.inl ⟨Go.Bx.basculeref_PointOften.con, Go.Bx.basculeref_PointOften.named⟩, trivial⟩⟩) (by kernel_rfl) Try.func9 (c := cB Try.f9) (by kernel_rfl) (by kernel_rfl) F fuel (fun x => by simp [F, spread, Try.ntmps9]) ?_
  intro x r h
  rw [← h]
  have h1 : start F Try.f9.ntmps x = (St0 x.1 x.2.1 x.2.2.1) := by kernel_rfl
  rw [h1]
  refine (top_eq fuel (fin C Try.f9.results.toList F.rs F.multi) x.1 x.2.1 x.2.2.1).trans ?_
  kernel_rfl
theorem named : Named Try.prog 9 := named_of Try.func9 (by kernel_rfl) (by kernel_rfl)
end Go.Bx.basculelaw_CurveMults
