/- Go functions of this seat in their own words of Lean, each tied to its code by a contract. -/
import Derived.Test.YtbkkahkikjifkaaDoorGBase
namespace Go.Bx.math_bits_RotateLeft64
open Go Go.Proofs Go.Bx
set_option maxRecDepth 100000
set_option linter.unusedVariables false
def Js : List Nat := []
def C : Ctx := ⟨[(3, T1), (22, T2), (129, T2)], [], [], fnL [], noSh, [], invL [], [(2, [4])], [], [], 0, 0⟩
def St0 (x0 x1 : Int) : St := stL 17 [(0, .data T2 x0), (1, .data T1 x1)] []
def St1 (x4 : Int) : St := stL 17 [(4, .data T2 x4)] []
def top {α : Type} (Rt : Int → Option α) (x0 x1 : Int) : Option α :=
  if 0 ≤ (band .u64 (IntKind.u64.wrap x1) 63) then
    if 0 ≤ (IntKind.u64.wrap (64 - (band .u64 (IntKind.u64.wrap x1) 63))) then
      Rt (bor .u64 (shlI .u64 x0 (band .u64 (IntKind.u64.wrap x1) 63)) (shrI .u64 x0 (IntKind.u64.wrap (64 - (band .u64 (IntKind.u64.wrap x1) 63)))))
    else none
  else none
theorem top_eq {α : Type} (k : Nat) (Q : Ex → St → Option α) (x0 x1 : Int) :
    (den C k) (cB Tryd.f40) Q (St0 x0 x1) = top (fun x4 => Q .ret (St1 x4)) x0 x1 := by
  have h : ∀ (D L : DT α), denJ D L Js C (cB Tryd.f40) Q (St0 x0 x1) = top (fun x4 => Q .ret (St1 x4)) x0 x1 := by
    intro D L; kernel_rfl
  have h2 := via (k := k) h
  exact h2
def run (x0 x1 : Int) : Option (Int) := top (α := Int) (fun x4 => some x4) x0 x1
def F : Fn := ⟨T3, T2, false, fun x => run x.1 x.2.1⟩
set_option maxRecDepth 100000 in
theorem con : Con Tryd.prog 40 F := by
  refine con_of_den (C := C) (ctx_ok (by kernel_rfl) (by kernel_rfl) (by kernel_rfl) (by kernel_rfl) trivial) (by kernel_rfl) Tryd.func40 (c := cB Tryd.f40) (by kernel_rfl) (by kernel_rfl) F fuel (fun x => by simp [F, spread, Tryd.ntmps40]) ?_
  intro x r h
  rw [← h]
  have h1 : start F Tryd.f40.ntmps x = (St0 x.1 x.2.1) := by kernel_rfl
  rw [h1]
  refine (top_eq fuel (fin C Tryd.f40.results.toList F.rs F.multi) x.1 x.2.1).trans ?_
  kernel_rfl
theorem named : Named Tryd.prog 40 := named_of Tryd.func40 (by kernel_rfl) (by kernel_rfl)
end Go.Bx.math_bits_RotateLeft64
namespace Go.Bx.keccak_Turn
open Go Go.Proofs Go.Bx
set_option maxRecDepth 100000
set_option linter.unusedVariables false
def Js : List Nat := [11, 19, 25, 26, 27]
def C : Ctx := ⟨[(3, T1), (22, T2), (23, T4), (86, T5), (87, T6), (89, T7)], [], [], fnL [(40, Go.Bx.math_bits_RotateLeft64.F)], noSh, [], invL [], [(2, [2]), (1, [1, 2]), (4, [1, 2, 16, 17]), (19, [1, 2, 4, 16, 17]), (22, [1, 2, 4, 8, 16, 17, 72]), (13, [1, 2, 4, 8, 16, 17]), (16, [1, 2, 4, 5, 8, 16, 17, 33]), (7, [1, 2, 4, 5, 16, 17]), (10, [1, 2, 4, 5, 16, 17, 20, 21]), (6, [1, 2, 16, 17]), (18, [1, 2, 4, 5, 16, 17, 20, 21]), (30, [1, 2, 4, 5, 16, 17]), (36, [1, 2, 4, 5, 8, 16, 17, 33]), (54, [1, 2, 4, 8, 16, 17]), (57, [1, 2, 4, 8, 16, 17, 72]), (72, [1, 2, 4, 16, 17]), (75, [1, 2, 16, 17]), (78, [1, 2])], [], [], 0, 0⟩
def St0 (x0 : D0) : St := stL 111 [(0, .data T4 x0)] []
def St1 (x16 : D0) (x17 : Int) (c1 c2 : D0) : St := stL 111 [(1, .ref 1 0 []), (2, .ref 2 0 []), (16, .data T5 x16), (17, .data T1 x17)] [(1, .cell T4 (.data T4 c1) false), (2, .cell T4 (.data T4 c2) false)]
noncomputable def cd0 : Code := cL (cL (cR (cL (cR (cB Tryd.f12)))))
def St2 (x4 : Int) (x16 : D0) (x17 : Int) (x20 : D0) (x21 : Int) (c1 c2 c5 : D0) : St := stL 111 [(1, .ref 1 0 []), (2, .ref 2 0 []), (4, .data T2 x4), (5, .ref 5 0 []), (16, .data T5 x16), (17, .data T1 x17), (20, .data T4 x20), (21, .data T1 x21)] [(1, .cell T4 (.data T4 c1) false), (2, .cell T4 (.data T4 c2) false), (5, .cell T6 (.data T6 c5) false)]
noncomputable def cd1 : Code := cL (cL (cR (cL (cR (cR (cL (cL (cR (cR (cL (cL (cR (cL (cR (cB Tryd.f12)))))))))))))))
def St3 (x4 : Int) (x16 : D0) (x17 : Int) (c1 c2 c5 : D0) : St := stL 111 [(1, .ref 1 0 []), (2, .ref 2 0 []), (4, .data T2 x4), (5, .ref 5 0 []), (16, .data T5 x16), (17, .data T1 x17)] [(1, .cell T4 (.data T4 c1) false), (2, .cell T4 (.data T4 c2) false), (5, .cell T6 (.data T6 c5) false)]
def l1s {α : Type} (Nx : Int → D0 → Int → D0 → Int → D0 → D0 → D0 → Option α) (Xt2 : Int → D0 → Int → D0 → D0 → D0 → Option α) (x4 : Int) (x16 : D0) (x17 : Int) (x20 : D0) (x21 : Int) (c1 c2 c5 : D0) : Option α :=
  if (decide (x21 < 25)) = true then
    if 0 ≤ x21 ∧ x21 < (25 : Int) then
      if 0 ≤ (Int.tmod x21 5) ∧ (Int.tmod x21 5) < (5 : Int) then
        if 0 ≤ (Int.tmod x21 5) ∧ (Int.tmod x21 5) < (5 : Int) then
          Nx x4 x16 x17 x20 (IntKind.i64.wrap (x21 + 1)) c1 c2 (List.set c5 (Int.toNat (Int.tmod x21 5)) (bxor .u64 (List.getD c5 (Int.toNat (Int.tmod x21 5)) 0) (List.getD x20 (Int.toNat x21) 0)))
        else none
      else none
    else none
  else
    Xt2 x4 x16 x17 c1 c2 c5
theorem l1s_eq {α : Type} (k : Nat) (next : St → Option α) (Q : Ex → St → Option α) (x4 : Int) (x16 : D0) (x17 : Int) (x20 : D0) (x21 : Int) (c1 c2 c5 : D0) :
    rnd C k cd1 18 Q next (St2 x4 x16 x17 x20 x21 c1 c2 c5) = l1s (fun x4 x16 x17 x20 x21 c1 c2 c5 => next (St2 x4 x16 x17 x20 x21 c1 c2 c5)) (fun x4 x16 x17 c1 c2 c5 => Q (.exit 2) (St3 x4 x16 x17 c1 c2 c5)) x4 x16 x17 x20 x21 c1 c2 c5 := by
  have h : ∀ (D L : DT α), denJ D L Js C cd1 (lq C 18 next Q) (St2 x4 x16 x17 x20 x21 c1 c2 c5) = l1s (fun x4 x16 x17 x20 x21 c1 c2 c5 => next (St2 x4 x16 x17 x20 x21 c1 c2 c5)) (fun x4 x16 x17 c1 c2 c5 => Q (.exit 2) (St3 x4 x16 x17 c1 c2 c5)) x4 x16 x17 x20 x21 c1 c2 c5 := by
    intro D L; kernel_rfl
  have h2 := via (k := k) h
  exact h2
def l1 {α : Type} (k : Nat) (Xt2 : Int → D0 → Int → D0 → D0 → D0 → Option α) : Nat → Int → D0 → Int → D0 → Int → D0 → D0 → D0 → Option α
  | 0, _, _, _, _, _, _, _, _ => none
  | n + 1, x4, x16, x17, x20, x21, c1, c2, c5 => l1s (l1 k Xt2 n) Xt2 x4 x16 x17 x20 x21 c1 c2 c5
theorem l1_eq {α : Type} (k : Nat) (Q : Ex → St → Option α) : ∀ (n : Nat) (x4 : Int) (x16 : D0) (x17 : Int) (x20 : D0) (x21 : Int) (c1 c2 c5 : D0), iter (rnd C k cd1 18 Q) n (St2 x4 x16 x17 x20 x21 c1 c2 c5) = l1 k (fun x4 x16 x17 c1 c2 c5 => Q (.exit 2) (St3 x4 x16 x17 c1 c2 c5)) n x4 x16 x17 x20 x21 c1 c2 c5
  | 0, _, _, _, _, _, _, _, _ => rfl
  | n + 1, x4, x16, x17, x20, x21, c1, c2, c5 => (iter_succ _ _ _).trans ((l1s_eq k (iter (rnd C k cd1 18 Q) n) Q x4 x16 x17 x20 x21 c1 c2 c5).trans (congrArg (fun N => l1s N (fun x4 x16 x17 c1 c2 c5 => Q (.exit 2) (St3 x4 x16 x17 c1 c2 c5)) x4 x16 x17 x20 x21 c1 c2 c5) (funext fun x4 => funext fun x16 => funext fun x17 => funext fun x20 => funext fun x21 => funext fun c1 => funext fun c2 => funext fun c5 => l1_eq k Q n x4 x16 x17 x20 x21 c1 c2 c5)))
theorem l1_congr {α : Type} (k : Nat) (Xt2 : Int → D0 → Int → D0 → D0 → D0 → Option α) (Xt2q : Int → D0 → Int → D0 → D0 → D0 → Option α) (hXt2 : ∀ (x4 : Int) (x16 : D0) (x17 : Int) (c1 c2 c5 : D0), Xt2 x4 x16 x17 c1 c2 c5 = Xt2q x4 x16 x17 c1 c2 c5) (n : Nat) (x4 : Int) (x16 : D0) (x17 : Int) (x20 : D0) (x21 : Int) (c1 c2 c5 : D0) : l1 k Xt2 n x4 x16 x17 x20 x21 c1 c2 c5 = l1 k Xt2q n x4 x16 x17 x20 x21 c1 c2 c5 := by
  obtain rfl : Xt2 = Xt2q := by funext x4; funext x16; funext x17; funext c1; funext c2; funext c5; exact hXt2 x4 x16 x17 c1 c2 c5
  rfl
noncomputable def cd2 : Code := cR (cR (cR (cL (cL (cR (cR (cL (cL (cR (cL (cR (cB Tryd.f12))))))))))))
noncomputable def cd3 : Code := cR (cR (cR (cL (cL (cR (cL (cR (cB Tryd.f12))))))))
def St4 (x4 : Int) (x16 : D0) (x17 : Int) (c1 c2 c5 : D0) : St := stL 111 [(1, .ref 1 0 []), (2, .ref 2 0 []), (4, .data T2 x4), (5, .ref 5 0 []), (16, .data T5 x16), (17, .data T1 x17)] [(1, .cell T4 (.data T4 c1) false), (2, .cell T4 (.data T4 c2) false), (5, .cell T6 (.data T6 c5) false)]
def St5 (x4 : Int) (x16 : D0) (x17 x33 : Int) (c1 c2 : D0) (c5 c8 : D0) : St := stL 111 [(1, .ref 1 0 []), (2, .ref 2 0 []), (4, .data T2 x4), (5, .ref 5 0 []), (8, .ref 8 0 []), (16, .data T5 x16), (17, .data T1 x17), (33, .data T1 x33)] [(1, .cell T4 (.data T4 c1) false), (2, .cell T4 (.data T4 c2) false), (5, .cell T6 (.data T6 c5) false), (8, .cell T4 (.data T4 c8) false)]
noncomputable def cd4 : Code := cL (cL (cR (cL (cR (cR (cR (cR (cL (cL (cR (cR (cL (cL (cR (cL (cR (cB Tryd.f12)))))))))))))))))
def St6 (x4 : Int) (x16 : D0) (x17 : Int) (c1 c2 c8 : D0) : St := stL 111 [(1, .ref 1 0 []), (2, .ref 2 0 []), (4, .data T2 x4), (8, .ref 8 0 []), (16, .data T5 x16), (17, .data T1 x17)] [(1, .cell T4 (.data T4 c1) false), (2, .cell T4 (.data T4 c2) false), (8, .cell T4 (.data T4 c8) false)]
def l2s {α : Type} (Nx : Int → D0 → Int → Int → D0 → D0 → D0 → D0 → Option α) (Xt4 : Int → D0 → Int → D0 → D0 → D0 → Option α) (x4 : Int) (x16 : D0) (x17 x33 : Int) (c1 c2 : D0) (c5 c8 : D0) : Option α :=
  if (decide (x33 < 25)) = true then
    if 0 ≤ x33 ∧ x33 < (25 : Int) then
      if 0 ≤ (Int.tmod (IntKind.i64.wrap ((Int.tmod x33 5) + 4)) 5) ∧ (Int.tmod (IntKind.i64.wrap ((Int.tmod x33 5) + 4)) 5) < (5 : Int) then
        if 0 ≤ (Int.tmod (IntKind.i64.wrap ((Int.tmod x33 5) + 1)) 5) ∧ (Int.tmod (IntKind.i64.wrap ((Int.tmod x33 5) + 1)) 5) < (5 : Int) then
          (Go.Bx.math_bits_RotateLeft64.run (List.getD c5 (Int.toNat (Int.tmod (IntKind.i64.wrap ((Int.tmod x33 5) + 1)) 5)) 0) 1).bind fun y1 =>
          if 0 ≤ x33 ∧ x33 < (25 : Int) then
            (Go.Bx.math_bits_RotateLeft64.run (bxor .u64 (bxor .u64 (List.getD c1 (Int.toNat x33) 0) (List.getD c5 (Int.toNat (Int.tmod (IntKind.i64.wrap ((Int.tmod x33 5) + 4)) 5)) 0)) y1) (List.getD gTurns (Int.toNat x33) 0)).bind fun y2 =>
            if 0 ≤ (IntKind.i64.wrap ((IntKind.i64.wrap (Int.tdiv x33 5)) + (IntKind.i64.wrap (5 * (Int.tmod (IntKind.i64.wrap ((IntKind.i64.wrap (2 * (Int.tmod x33 5))) + (IntKind.i64.wrap (3 * (IntKind.i64.wrap (Int.tdiv x33 5)))))) 5))))) ∧ (IntKind.i64.wrap ((IntKind.i64.wrap (Int.tdiv x33 5)) + (IntKind.i64.wrap (5 * (Int.tmod (IntKind.i64.wrap ((IntKind.i64.wrap (2 * (Int.tmod x33 5))) + (IntKind.i64.wrap (3 * (IntKind.i64.wrap (Int.tdiv x33 5)))))) 5))))) < (25 : Int) then
              Nx x4 x16 x17 (IntKind.i64.wrap (x33 + 1)) c1 c2 c5 (List.set c8 (Int.toNat (IntKind.i64.wrap ((IntKind.i64.wrap (Int.tdiv x33 5)) + (IntKind.i64.wrap (5 * (Int.tmod (IntKind.i64.wrap ((IntKind.i64.wrap (2 * (Int.tmod x33 5))) + (IntKind.i64.wrap (3 * (IntKind.i64.wrap (Int.tdiv x33 5)))))) 5)))))) y2)
            else none
          else none
        else none
      else none
    else none
  else
    Xt4 x4 x16 x17 c1 c2 c8
theorem l2s_eq {α : Type} (k : Nat) (next : St → Option α) (Q : Ex → St → Option α) (x4 : Int) (x16 : D0) (x17 x33 : Int) (c1 c2 : D0) (c5 c8 : D0) :
    rnd C k cd4 36 Q next (St5 x4 x16 x17 x33 c1 c2 c5 c8) = l2s (fun x4 x16 x17 x33 c1 c2 c5 c8 => next (St5 x4 x16 x17 x33 c1 c2 c5 c8)) (fun x4 x16 x17 c1 c2 c8 => Q (.exit 4) (St6 x4 x16 x17 c1 c2 c8)) x4 x16 x17 x33 c1 c2 c5 c8 := by
  have h : ∀ (D L : DT α), denJ D L Js C cd4 (lq C 36 next Q) (St5 x4 x16 x17 x33 c1 c2 c5 c8) = l2s (fun x4 x16 x17 x33 c1 c2 c5 c8 => next (St5 x4 x16 x17 x33 c1 c2 c5 c8)) (fun x4 x16 x17 c1 c2 c8 => Q (.exit 4) (St6 x4 x16 x17 c1 c2 c8)) x4 x16 x17 x33 c1 c2 c5 c8 := by
    intro D L; kernel_rfl
  have h2 := via (k := k) h
  exact h2
def l2 {α : Type} (k : Nat) (Xt4 : Int → D0 → Int → D0 → D0 → D0 → Option α) : Nat → Int → D0 → Int → Int → D0 → D0 → D0 → D0 → Option α
  | 0, _, _, _, _, _, _, _, _ => none
  | n + 1, x4, x16, x17, x33, c1, c2, c5, c8 => l2s (l2 k Xt4 n) Xt4 x4 x16 x17 x33 c1 c2 c5 c8
theorem l2_eq {α : Type} (k : Nat) (Q : Ex → St → Option α) : ∀ (n : Nat) (x4 : Int) (x16 : D0) (x17 x33 : Int) (c1 c2 : D0) (c5 c8 : D0), iter (rnd C k cd4 36 Q) n (St5 x4 x16 x17 x33 c1 c2 c5 c8) = l2 k (fun x4 x16 x17 c1 c2 c8 => Q (.exit 4) (St6 x4 x16 x17 c1 c2 c8)) n x4 x16 x17 x33 c1 c2 c5 c8
  | 0, _, _, _, _, _, _, _, _ => rfl
  | n + 1, x4, x16, x17, x33, c1, c2, c5, c8 => (iter_succ _ _ _).trans ((l2s_eq k (iter (rnd C k cd4 36 Q) n) Q x4 x16 x17 x33 c1 c2 c5 c8).trans (congrArg (fun N => l2s N (fun x4 x16 x17 c1 c2 c8 => Q (.exit 4) (St6 x4 x16 x17 c1 c2 c8)) x4 x16 x17 x33 c1 c2 c5 c8) (funext fun x4 => funext fun x16 => funext fun x17 => funext fun x33 => funext fun c1 => funext fun c2 => funext fun c5 => funext fun c8 => l2_eq k Q n x4 x16 x17 x33 c1 c2 c5 c8)))
theorem l2_congr {α : Type} (k : Nat) (Xt4 : Int → D0 → Int → D0 → D0 → D0 → Option α) (Xt4q : Int → D0 → Int → D0 → D0 → D0 → Option α) (hXt4 : ∀ (x4 : Int) (x16 : D0) (x17 : Int) (c1 c2 c8 : D0), Xt4 x4 x16 x17 c1 c2 c8 = Xt4q x4 x16 x17 c1 c2 c8) (n : Nat) (x4 : Int) (x16 : D0) (x17 x33 : Int) (c1 c2 : D0) (c5 c8 : D0) : l2 k Xt4 n x4 x16 x17 x33 c1 c2 c5 c8 = l2 k Xt4q n x4 x16 x17 x33 c1 c2 c5 c8 := by
  obtain rfl : Xt4 = Xt4q := by funext x4; funext x16; funext x17; funext c1; funext c2; funext c8; exact hXt4 x4 x16 x17 c1 c2 c8
  rfl
noncomputable def cd5 : Code := cR (cR (cR (cR (cR (cL (cL (cR (cR (cL (cL (cR (cL (cR (cB Tryd.f12))))))))))))))
def St7 (x4 : Int) (x16 : D0) (x17 : Int) (c1 c2 c8 : D0) : St := stL 111 [(1, .ref 1 0 []), (2, .ref 2 0 []), (4, .data T2 x4), (8, .ref 8 0 []), (16, .data T5 x16), (17, .data T1 x17)] [(1, .cell T4 (.data T4 c1) false), (2, .cell T4 (.data T4 c2) false), (8, .cell T4 (.data T4 c8) false)]
def St8 (x4 : Int) (x16 : D0) (x17 x72 : Int) (c1 c2 c8 : D0) : St := stL 111 [(1, .ref 1 0 []), (2, .ref 2 0 []), (4, .data T2 x4), (8, .ref 8 0 []), (16, .data T5 x16), (17, .data T1 x17), (72, .data T1 x72)] [(1, .cell T4 (.data T4 c1) false), (2, .cell T4 (.data T4 c2) false), (8, .cell T4 (.data T4 c8) false)]
noncomputable def cd6 : Code := cL (cL (cR (cL (cR (cR (cR (cR (cR (cL (cL (cR (cR (cL (cL (cR (cL (cR (cB Tryd.f12))))))))))))))))))
def St9 (x4 : Int) (x16 : D0) (x17 : Int) (c1 c2 : D0) : St := stL 111 [(1, .ref 1 0 []), (2, .ref 2 0 []), (4, .data T2 x4), (16, .data T5 x16), (17, .data T1 x17)] [(1, .cell T4 (.data T4 c1) false), (2, .cell T4 (.data T4 c2) false)]
def l3s {α : Type} (Nx : Int → D0 → Int → Int → D0 → D0 → D0 → Option α) (Xt6 : Int → D0 → Int → D0 → D0 → Option α) (x4 : Int) (x16 : D0) (x17 x72 : Int) (c1 c2 c8 : D0) : Option α :=
  if (decide (x72 < 25)) = true then
    if 0 ≤ x72 ∧ x72 < (25 : Int) then
      if 0 ≤ (IntKind.i64.wrap ((Int.tmod (IntKind.i64.wrap ((Int.tmod x72 5) + 1)) 5) + (IntKind.i64.wrap (5 * (IntKind.i64.wrap (Int.tdiv x72 5)))))) ∧ (IntKind.i64.wrap ((Int.tmod (IntKind.i64.wrap ((Int.tmod x72 5) + 1)) 5) + (IntKind.i64.wrap (5 * (IntKind.i64.wrap (Int.tdiv x72 5)))))) < (25 : Int) then
        if 0 ≤ (IntKind.i64.wrap ((Int.tmod (IntKind.i64.wrap ((Int.tmod x72 5) + 2)) 5) + (IntKind.i64.wrap (5 * (IntKind.i64.wrap (Int.tdiv x72 5)))))) ∧ (IntKind.i64.wrap ((Int.tmod (IntKind.i64.wrap ((Int.tmod x72 5) + 2)) 5) + (IntKind.i64.wrap (5 * (IntKind.i64.wrap (Int.tdiv x72 5)))))) < (25 : Int) then
          if 0 ≤ x72 ∧ x72 < (25 : Int) then
            Nx x4 x16 x17 (IntKind.i64.wrap (x72 + 1)) (List.set c1 (Int.toNat x72) (bxor .u64 (List.getD c8 (Int.toNat x72) 0) (band .u64 (bxor .u64 18446744073709551615 (List.getD c8 (Int.toNat (IntKind.i64.wrap ((Int.tmod (IntKind.i64.wrap ((Int.tmod x72 5) + 1)) 5) + (IntKind.i64.wrap (5 * (IntKind.i64.wrap (Int.tdiv x72 5))))))) 0)) (List.getD c8 (Int.toNat (IntKind.i64.wrap ((Int.tmod (IntKind.i64.wrap ((Int.tmod x72 5) + 2)) 5) + (IntKind.i64.wrap (5 * (IntKind.i64.wrap (Int.tdiv x72 5))))))) 0)))) c2 c8
          else none
        else none
      else none
    else none
  else
    Xt6 x4 x16 x17 c1 c2
theorem l3s_eq {α : Type} (k : Nat) (next : St → Option α) (Q : Ex → St → Option α) (x4 : Int) (x16 : D0) (x17 x72 : Int) (c1 c2 c8 : D0) :
    rnd C k cd6 57 Q next (St8 x4 x16 x17 x72 c1 c2 c8) = l3s (fun x4 x16 x17 x72 c1 c2 c8 => next (St8 x4 x16 x17 x72 c1 c2 c8)) (fun x4 x16 x17 c1 c2 => Q (.exit 6) (St9 x4 x16 x17 c1 c2)) x4 x16 x17 x72 c1 c2 c8 := by
  have h : ∀ (D L : DT α), denJ D L Js C cd6 (lq C 57 next Q) (St8 x4 x16 x17 x72 c1 c2 c8) = l3s (fun x4 x16 x17 x72 c1 c2 c8 => next (St8 x4 x16 x17 x72 c1 c2 c8)) (fun x4 x16 x17 c1 c2 => Q (.exit 6) (St9 x4 x16 x17 c1 c2)) x4 x16 x17 x72 c1 c2 c8 := by
    intro D L; kernel_rfl
  have h2 := via (k := k) h
  exact h2
def l3 {α : Type} (k : Nat) (Xt6 : Int → D0 → Int → D0 → D0 → Option α) : Nat → Int → D0 → Int → Int → D0 → D0 → D0 → Option α
  | 0, _, _, _, _, _, _, _ => none
  | n + 1, x4, x16, x17, x72, c1, c2, c8 => l3s (l3 k Xt6 n) Xt6 x4 x16 x17 x72 c1 c2 c8
theorem l3_eq {α : Type} (k : Nat) (Q : Ex → St → Option α) : ∀ (n : Nat) (x4 : Int) (x16 : D0) (x17 x72 : Int) (c1 c2 c8 : D0), iter (rnd C k cd6 57 Q) n (St8 x4 x16 x17 x72 c1 c2 c8) = l3 k (fun x4 x16 x17 c1 c2 => Q (.exit 6) (St9 x4 x16 x17 c1 c2)) n x4 x16 x17 x72 c1 c2 c8
  | 0, _, _, _, _, _, _, _ => rfl
  | n + 1, x4, x16, x17, x72, c1, c2, c8 => (iter_succ _ _ _).trans ((l3s_eq k (iter (rnd C k cd6 57 Q) n) Q x4 x16 x17 x72 c1 c2 c8).trans (congrArg (fun N => l3s N (fun x4 x16 x17 c1 c2 => Q (.exit 6) (St9 x4 x16 x17 c1 c2)) x4 x16 x17 x72 c1 c2 c8) (funext fun x4 => funext fun x16 => funext fun x17 => funext fun x72 => funext fun c1 => funext fun c2 => funext fun c8 => l3_eq k Q n x4 x16 x17 x72 c1 c2 c8)))
theorem l3_congr {α : Type} (k : Nat) (Xt6 : Int → D0 → Int → D0 → D0 → Option α) (Xt6q : Int → D0 → Int → D0 → D0 → Option α) (hXt6 : ∀ (x4 : Int) (x16 : D0) (x17 : Int) (c1 c2 : D0), Xt6 x4 x16 x17 c1 c2 = Xt6q x4 x16 x17 c1 c2) (n : Nat) (x4 : Int) (x16 : D0) (x17 x72 : Int) (c1 c2 c8 : D0) : l3 k Xt6 n x4 x16 x17 x72 c1 c2 c8 = l3 k Xt6q n x4 x16 x17 x72 c1 c2 c8 := by
  obtain rfl : Xt6 = Xt6q := by funext x4; funext x16; funext x17; funext c1; funext c2; exact hXt6 x4 x16 x17 c1 c2
  rfl
noncomputable def cd7 : Code := cR (cR (cR (cR (cR (cR (cL (cL (cR (cR (cL (cL (cR (cL (cR (cB Tryd.f12)))))))))))))))
def St10 (x4 : Int) (x16 : D0) (x17 : Int) (c1 c2 : D0) : St := stL 111 [(1, .ref 1 0 []), (2, .ref 2 0 []), (4, .data T2 x4), (16, .data T5 x16), (17, .data T1 x17)] [(1, .cell T4 (.data T4 c1) false), (2, .cell T4 (.data T4 c2) false)]
def St11 (x16 : D0) (x17 : Int) (c1 c2 : D0) : St := stL 111 [(1, .ref 1 0 []), (2, .ref 2 0 []), (16, .data T5 x16), (17, .data T1 x17)] [(1, .cell T4 (.data T4 c1) false), (2, .cell T4 (.data T4 c2) false)]
def j3 {α : Type} (Nx : D0 → Int → D0 → D0 → Option α) (x16 : D0) (x17 : Int) (c1 c2 : D0) : Option α :=
  Nx x16 (IntKind.i64.wrap (x17 + 1)) c1 c2
theorem j3_eq {α : Type} (k : Nat) (next : St → Option α) (Q : Ex → St → Option α) (x16 : D0) (x17 : Int) (c1 c2 : D0) :
    (den C k) cd3 (lq C 6 next Q) (St11 x16 x17 c1 c2) = j3 (fun x16 x17 c1 c2 => next (St1 x16 x17 c1 c2)) x16 x17 c1 c2 := by
  have h : ∀ (D L : DT α), denJ D L Js C cd3 (lq C 6 next Q) (St11 x16 x17 c1 c2) = j3 (fun x16 x17 c1 c2 => next (St1 x16 x17 c1 c2)) x16 x17 c1 c2 := by
    intro D L; kernel_rfl
  have h2 := via (k := k) h
  exact h2
def j2 {α : Type} (Nx : D0 → Int → D0 → D0 → Option α) (x4 : Int) (x16 : D0) (x17 : Int) (c1 c2 : D0) : Option α :=
  j3 Nx x16 x17 (List.set c1 0 (bxor .u64 (List.getD c1 0 0) x4)) c2
theorem j2_eq {α : Type} (k : Nat) (next : St → Option α) (Q : Ex → St → Option α) (x4 : Int) (x16 : D0) (x17 : Int) (c1 c2 : D0) :
    (den C k) cd7 (blkQ C 1 (sq (den C k) (lp C k) Js C cd3 (lq C 6 next Q))) (St10 x4 x16 x17 c1 c2) = j2 (fun x16 x17 c1 c2 => next (St1 x16 x17 c1 c2)) x4 x16 x17 c1 c2 := by
  have h : ∀ (D L : DT α), denJ D L Js C cd7 (blkQ C 1 (sq D L Js C cd3 (lq C 6 next Q))) (St10 x4 x16 x17 c1 c2) =
        D cd3 (lq C 6 next Q) (St11 x16 x17 (List.set c1 0 (bxor .u64 (List.getD c1 0 0) x4)) c2) := by
    intro D L; kernel_rfl
  have h2 := via (k := k) h
  refine h2.trans ?_
  simp only [j3_eq]
  first | rfl | kernel_rfl
theorem a0 {α : Type} (k : Nat) (next : St → Option α) (Q : Ex → St → Option α) (x4 : Int) (x16 : D0) (x17 x72 : Int) (c1 c2 c8 : D0) :
    (lp C k) cd6 (blkQ C 6 (sq (den C k) (lp C k) Js C cd7 (blkQ C 1 (sq (den C k) (lp C k) Js C cd3 (lq C 6 next Q))))) (St8 x4 x16 x17 x72 c1 c2 c8) = l3 k (fun x4 x16 x17 c1 c2 => j2 (fun x16 x17 c1 c2 => next (St1 x16 x17 c1 c2)) x4 x16 x17 c1 c2) k x4 x16 x17 x72 c1 c2 c8 :=
  (show (lp C k) cd6 (blkQ C 6 (sq (den C k) (lp C k) Js C cd7 (blkQ C 1 (sq (den C k) (lp C k) Js C cd3 (lq C 6 next Q))))) (St8 x4 x16 x17 x72 c1 c2 c8) = iter (rnd C k cd6 57 (blkQ C 6 (sq (den C k) (lp C k) Js C cd7 (blkQ C 1 (sq (den C k) (lp C k) Js C cd3 (lq C 6 next Q)))))) k (St8 x4 x16 x17 x72 c1 c2 c8) by kernel_rfl).trans ((l3_eq k (blkQ C 6 (sq (den C k) (lp C k) Js C cd7 (blkQ C 1 (sq (den C k) (lp C k) Js C cd3 (lq C 6 next Q))))) k x4 x16 x17 x72 c1 c2 c8).trans (l3_congr k _ _ (fun x4 x16 x17 c1 c2 => ((show (blkQ C 6 (sq (den C k) (lp C k) Js C cd7 (blkQ C 1 (sq (den C k) (lp C k) Js C cd3 (lq C 6 next Q))))) (.exit 6) (St9 x4 x16 x17 c1 c2) = (den C k) cd7 (blkQ C 1 (sq (den C k) (lp C k) Js C cd3 (lq C 6 next Q))) (St10 x4 x16 x17 c1 c2) by kernel_rfl).trans (by simp only [j2_eq]))) k x4 x16 x17 x72 c1 c2 c8))
def j1 {α : Type} (k : Nat) (Nx : D0 → Int → D0 → D0 → Option α) (x4 : Int) (x16 : D0) (x17 : Int) (c1 c2 c8 : D0) : Option α :=
  l3 k (fun x4 x16 x17 c1 c2 => j2 Nx x4 x16 x17 c1 c2) k x4 x16 x17 0 c1 c2 c8
theorem j1_eq {α : Type} (k : Nat) (next : St → Option α) (Q : Ex → St → Option α) (x4 : Int) (x16 : D0) (x17 : Int) (c1 c2 c8 : D0) :
    (den C k) cd5 (blkQ C 1 (sq (den C k) (lp C k) Js C cd3 (lq C 6 next Q))) (St7 x4 x16 x17 c1 c2 c8) = j1 k (fun x16 x17 c1 c2 => next (St1 x16 x17 c1 c2)) x4 x16 x17 c1 c2 c8 := by
  have h : ∀ (D L : DT α), denJ D L Js C cd5 (blkQ C 1 (sq D L Js C cd3 (lq C 6 next Q))) (St7 x4 x16 x17 c1 c2 c8) =
        L cd6 (blkQ C 6 (sq D L Js C cd7 (blkQ C 1 (sq D L Js C cd3 (lq C 6 next Q))))) (St8 x4 x16 x17 0 c1 c2 c8) := by
    intro D L; kernel_rfl
  have h2 := via (k := k) h
  refine h2.trans ?_
  simp only [a0]
  first | rfl | kernel_rfl
theorem a1 {α : Type} (k : Nat) (next : St → Option α) (Q : Ex → St → Option α) (x4 : Int) (x16 : D0) (x17 x33 : Int) (c1 c2 : D0) (c5 c8 : D0) :
    (lp C k) cd4 (blkQ C 4 (sq (den C k) (lp C k) Js C cd5 (blkQ C 1 (sq (den C k) (lp C k) Js C cd3 (lq C 6 next Q))))) (St5 x4 x16 x17 x33 c1 c2 c5 c8) = l2 k (fun x4 x16 x17 c1 c2 c8 => j1 k (fun x16 x17 c1 c2 => next (St1 x16 x17 c1 c2)) x4 x16 x17 c1 c2 c8) k x4 x16 x17 x33 c1 c2 c5 c8 :=
  (show (lp C k) cd4 (blkQ C 4 (sq (den C k) (lp C k) Js C cd5 (blkQ C 1 (sq (den C k) (lp C k) Js C cd3 (lq C 6 next Q))))) (St5 x4 x16 x17 x33 c1 c2 c5 c8) = iter (rnd C k cd4 36 (blkQ C 4 (sq (den C k) (lp C k) Js C cd5 (blkQ C 1 (sq (den C k) (lp C k) Js C cd3 (lq C 6 next Q)))))) k (St5 x4 x16 x17 x33 c1 c2 c5 c8) by kernel_rfl).trans ((l2_eq k (blkQ C 4 (sq (den C k) (lp C k) Js C cd5 (blkQ C 1 (sq (den C k) (lp C k) Js C cd3 (lq C 6 next Q))))) k x4 x16 x17 x33 c1 c2 c5 c8).trans (l2_congr k _ _ (fun x4 x16 x17 c1 c2 c8 => ((show (blkQ C 4 (sq (den C k) (lp C k) Js C cd5 (blkQ C 1 (sq (den C k) (lp C k) Js C cd3 (lq C 6 next Q))))) (.exit 4) (St6 x4 x16 x17 c1 c2 c8) = (den C k) cd5 (blkQ C 1 (sq (den C k) (lp C k) Js C cd3 (lq C 6 next Q))) (St7 x4 x16 x17 c1 c2 c8) by kernel_rfl).trans (by simp only [j1_eq]))) k x4 x16 x17 x33 c1 c2 c5 c8))
def j0 {α : Type} (k : Nat) (Nx : D0 → Int → D0 → D0 → Option α) (x4 : Int) (x16 : D0) (x17 : Int) (c1 c2 c5 : D0) : Option α :=
  l2 k (fun x4 x16 x17 c1 c2 c8 => j1 k Nx x4 x16 x17 c1 c2 c8) k x4 x16 x17 0 c1 c2 c5 (List.replicate 25 0)
theorem j0_eq {α : Type} (k : Nat) (next : St → Option α) (Q : Ex → St → Option α) (x4 : Int) (x16 : D0) (x17 : Int) (c1 c2 c5 : D0) :
    (den C k) cd2 (blkQ C 1 (sq (den C k) (lp C k) Js C cd3 (lq C 6 next Q))) (St4 x4 x16 x17 c1 c2 c5) = j0 k (fun x16 x17 c1 c2 => next (St1 x16 x17 c1 c2)) x4 x16 x17 c1 c2 c5 := by
  have h : ∀ (D L : DT α), denJ D L Js C cd2 (blkQ C 1 (sq D L Js C cd3 (lq C 6 next Q))) (St4 x4 x16 x17 c1 c2 c5) =
        L cd4 (blkQ C 4 (sq D L Js C cd5 (blkQ C 1 (sq D L Js C cd3 (lq C 6 next Q))))) (St5 x4 x16 x17 0 c1 c2 c5 (List.replicate 25 0)) := by
    intro D L; kernel_rfl
  have h2 := via (k := k) h
  refine h2.trans ?_
  simp only [a1]
  first | rfl | kernel_rfl
theorem a2 {α : Type} (k : Nat) (next : St → Option α) (Q : Ex → St → Option α) (x4 : Int) (x16 : D0) (x17 : Int) (x20 : D0) (x21 : Int) (c1 c2 c5 : D0) :
    (lp C k) cd1 (blkQ C 2 (sq (den C k) (lp C k) Js C cd2 (blkQ C 1 (sq (den C k) (lp C k) Js C cd3 (lq C 6 next Q))))) (St2 x4 x16 x17 x20 x21 c1 c2 c5) = l1 k (fun x4 x16 x17 c1 c2 c5 => j0 k (fun x16 x17 c1 c2 => next (St1 x16 x17 c1 c2)) x4 x16 x17 c1 c2 c5) k x4 x16 x17 x20 x21 c1 c2 c5 :=
  (show (lp C k) cd1 (blkQ C 2 (sq (den C k) (lp C k) Js C cd2 (blkQ C 1 (sq (den C k) (lp C k) Js C cd3 (lq C 6 next Q))))) (St2 x4 x16 x17 x20 x21 c1 c2 c5) = iter (rnd C k cd1 18 (blkQ C 2 (sq (den C k) (lp C k) Js C cd2 (blkQ C 1 (sq (den C k) (lp C k) Js C cd3 (lq C 6 next Q)))))) k (St2 x4 x16 x17 x20 x21 c1 c2 c5) by kernel_rfl).trans ((l1_eq k (blkQ C 2 (sq (den C k) (lp C k) Js C cd2 (blkQ C 1 (sq (den C k) (lp C k) Js C cd3 (lq C 6 next Q))))) k x4 x16 x17 x20 x21 c1 c2 c5).trans (l1_congr k _ _ (fun x4 x16 x17 c1 c2 c5 => ((show (blkQ C 2 (sq (den C k) (lp C k) Js C cd2 (blkQ C 1 (sq (den C k) (lp C k) Js C cd3 (lq C 6 next Q))))) (.exit 2) (St3 x4 x16 x17 c1 c2 c5) = (den C k) cd2 (blkQ C 1 (sq (den C k) (lp C k) Js C cd3 (lq C 6 next Q))) (St4 x4 x16 x17 c1 c2 c5) by kernel_rfl).trans (by simp only [j0_eq]))) k x4 x16 x17 x20 x21 c1 c2 c5))
def St12 (c1 c2 : D0) : St := stL 111 [(1, .ref 1 0 []), (2, .ref 2 0 [])] [(1, .cell T4 (.data T4 c1) false), (2, .cell T4 (.data T4 c2) false)]
def l0s {α : Type} (k : Nat) (Nx : D0 → Int → D0 → D0 → Option α) (Xt0 : D0 → D0 → Option α) (x16 : D0) (x17 : Int) (c1 c2 : D0) : Option α :=
  if (decide (x17 < 24)) = true then
    if 0 ≤ x17 ∧ x17 < (24 : Int) then
      l1 k (fun x4 x16 x17 c1 c2 c5 => j0 k Nx x4 x16 x17 c1 c2 c5) k (List.getD x16 (Int.toNat x17) 0) x16 x17 c1 0 c1 c2 [0, 0, 0, 0, 0]
    else none
  else
    Xt0 c1 c2
theorem l0s_eq {α : Type} (k : Nat) (next : St → Option α) (Q : Ex → St → Option α) (x16 : D0) (x17 : Int) (c1 c2 : D0) :
    rnd C k cd0 6 Q next (St1 x16 x17 c1 c2) = l0s k (fun x16 x17 c1 c2 => next (St1 x16 x17 c1 c2)) (fun c1 c2 => Q (.exit 0) (St12 c1 c2)) x16 x17 c1 c2 := by
  have h : ∀ (D L : DT α), denJ D L Js C cd0 (lq C 6 next Q) (St1 x16 x17 c1 c2) =
        if (decide (x17 < 24)) = true then
          if 0 ≤ x17 ∧ x17 < (24 : Int) then
            L cd1 (blkQ C 2 (sq D L Js C cd2 (blkQ C 1 (sq D L Js C cd3 (lq C 6 next Q))))) (St2 (List.getD x16 (Int.toNat x17) 0) x16 x17 c1 0 c1 c2 [0, 0, 0, 0, 0])
          else none
        else
          Q (.exit 0) (St12 c1 c2) := by
    intro D L; kernel_rfl
  have h2 := via (k := k) h
  refine h2.trans ?_
  simp only [a2]
  first | rfl | kernel_rfl
def l0 {α : Type} (k : Nat) (Xt0 : D0 → D0 → Option α) : Nat → D0 → Int → D0 → D0 → Option α
  | 0, _, _, _, _ => none
  | n + 1, x16, x17, c1, c2 => l0s k (l0 k Xt0 n) Xt0 x16 x17 c1 c2
theorem l0_eq {α : Type} (k : Nat) (Q : Ex → St → Option α) : ∀ (n : Nat) (x16 : D0) (x17 : Int) (c1 c2 : D0), iter (rnd C k cd0 6 Q) n (St1 x16 x17 c1 c2) = l0 k (fun c1 c2 => Q (.exit 0) (St12 c1 c2)) n x16 x17 c1 c2
  | 0, _, _, _, _ => rfl
  | n + 1, x16, x17, c1, c2 => (iter_succ _ _ _).trans ((l0s_eq k (iter (rnd C k cd0 6 Q) n) Q x16 x17 c1 c2).trans (congrArg (fun N => l0s k N (fun c1 c2 => Q (.exit 0) (St12 c1 c2)) x16 x17 c1 c2) (funext fun x16 => funext fun x17 => funext fun c1 => funext fun c2 => l0_eq k Q n x16 x17 c1 c2)))
theorem l0_congr {α : Type} (k : Nat) (Xt0 : D0 → D0 → Option α) (Xt0q : D0 → D0 → Option α) (hXt0 : ∀ (c1 c2 : D0), Xt0 c1 c2 = Xt0q c1 c2) (n : Nat) (x16 : D0) (x17 : Int) (c1 c2 : D0) : l0 k Xt0 n x16 x17 c1 c2 = l0 k Xt0q n x16 x17 c1 c2 := by
  obtain rfl : Xt0 = Xt0q := by funext c1; funext c2; exact hXt0 c1 c2
  rfl
noncomputable def cd8 : Code := cR (cR (cB Tryd.f12))
def St13 (c1 c2 : D0) : St := stL 111 [(1, .ref 1 0 []), (2, .ref 2 0 [])] [(1, .cell T4 (.data T4 c1) false), (2, .cell T4 (.data T4 c2) false)]
def St14 (c2 : D0) : St := stL 111 [(2, .ref 2 0 [])] [(2, .cell T4 (.data T4 c2) false)]
def j4 {α : Type} (Rt : D0 → Option α) (c1 c2 : D0) : Option α :=
  Rt c1
theorem j4_eq {α : Type} (k : Nat) (Q : Ex → St → Option α) (c1 c2 : D0) :
    (den C k) cd8 Q (St13 c1 c2) = j4 (fun c2 => Q .ret (St14 c2)) c1 c2 := by
  have h : ∀ (D L : DT α), denJ D L Js C cd8 Q (St13 c1 c2) = j4 (fun c2 => Q .ret (St14 c2)) c1 c2 := by
    intro D L; kernel_rfl
  have h2 := via (k := k) h
  exact h2
theorem a3 {α : Type} (k : Nat) (Q : Ex → St → Option α) (x16 : D0) (x17 : Int) (c1 c2 : D0) :
    (lp C k) cd0 (blkQ C 0 (sq (den C k) (lp C k) Js C cd8 Q)) (St1 x16 x17 c1 c2) = l0 k (fun c1 c2 => j4 (fun c2 => Q .ret (St14 c2)) c1 c2) k x16 x17 c1 c2 :=
  (show (lp C k) cd0 (blkQ C 0 (sq (den C k) (lp C k) Js C cd8 Q)) (St1 x16 x17 c1 c2) = iter (rnd C k cd0 6 (blkQ C 0 (sq (den C k) (lp C k) Js C cd8 Q))) k (St1 x16 x17 c1 c2) by kernel_rfl).trans ((l0_eq k (blkQ C 0 (sq (den C k) (lp C k) Js C cd8 Q)) k x16 x17 c1 c2).trans (l0_congr k _ _ (fun c1 c2 => ((show (blkQ C 0 (sq (den C k) (lp C k) Js C cd8 Q)) (.exit 0) (St12 c1 c2) = (den C k) cd8 Q (St13 c1 c2) by kernel_rfl).trans (by simp only [j4_eq]))) k x16 x17 c1 c2))
def top {α : Type} (k : Nat) (Rt : D0 → Option α) (x0 : D0) : Option α :=
  l0 k (fun c1 c2 => j4 Rt c1 c2) k gRounds 0 x0 (List.replicate 25 0)
theorem top_eq {α : Type} (k : Nat) (Q : Ex → St → Option α) (x0 : D0) :
    (den C k) (cB Tryd.f12) Q (St0 x0) = top k (fun c2 => Q .ret (St14 c2)) x0 := by
  have h : ∀ (D L : DT α), denJ D L Js C (cB Tryd.f12) Q (St0 x0) =
        L cd0 (blkQ C 0 (sq D L Js C cd8 Q)) (St1 gRounds 0 x0 (List.replicate 25 0)) := by
    intro D L; kernel_rfl
  have h2 := via (k := k) h
  refine h2.trans ?_
  simp only [a3]
  first | rfl | kernel_rfl
def run (x0 : D0) : Option D0 := top (α := List Int) fuel (fun c2 => some c2) x0
def F : Fn := ⟨T8, T4, false, fun x => run x.1⟩
set_option maxRecDepth 100000 in
theorem con : Con Tryd.prog 12 F := by
  refine con_of_den (C := C) (ctx_ok (by kernel_rfl) (by kernel_rfl) (by kernel_rfl) (by kernel_rfl) ⟨.inl ⟨Go.Bx.math_bits_RotateLeft64.con, Go.Bx.math_bits_RotateLeft64.named⟩, trivial⟩) (by kernel_rfl) Tryd.func12 (c := cB Tryd.f12) (by kernel_rfl) (by kernel_rfl) F fuel (fun x => by simp [F, spread, Tryd.ntmps12]) ?_
  intro x r h
  rw [← h]
  have h1 : start F Tryd.f12.ntmps x = (St0 x.1) := by kernel_rfl
  rw [h1]
  refine (top_eq fuel (fin C Tryd.f12.results.toList F.rs F.multi) x.1).trans ?_
  kernel_rfl
theorem named : Named Tryd.prog 12 := named_of Tryd.func12 (by kernel_rfl) (by kernel_rfl)
end Go.Bx.keccak_Turn
namespace Go.Bx.basculeref_roundOf
open Go Go.Proofs Go.Bx
set_option maxRecDepth 100000
set_option linter.unusedVariables false
def Js : List Nat := [9, 11]
def C : Ctx := ⟨[(3, T1), (5, T9), (9, .str), (22, T2), (29, T10)], [], [], fnL [], noSh, [], invL [], [(2, [2]), (1, [3]), (4, [3, 13, 14, 15]), (9, [3, 13, 14, 15]), (24, [3, 6, 13, 14, 15]), (30, [3])], [], [], 0, 0⟩
def lit0 : List Int := [48, 48, 48, 48, 48, 48, 48, 48, 48, 48, 48, 48, 48, 48, 48, 49, 48, 48, 48, 48, 48, 48, 48, 48, 48, 48, 48, 48, 56, 48, 56, 50, 56, 48, 48, 48, 48, 48, 48, 48, 48, 48, 48, 48, 56, 48, 56, 97, 56, 48, 48, 48, 48, 48, 48, 48, 56, 48, 48, 48, 56, 48, 48, 48, 48, 48, 48, 48, 48, 48, 48, 48, 48, 48, 48, 48, 56, 48, 56, 98, 48, 48, 48, 48, 48, 48, 48, 48, 56, 48, 48, 48, 48, 48, 48, 49, 56, 48, 48, 48, 48, 48, 48, 48, 56, 48, 48, 48, 56, 48, 56, 49, 56, 48, 48, 48, 48, 48, 48, 48, 48, 48, 48, 48, 56, 48, 48, 57, 48, 48, 48, 48, 48, 48, 48, 48, 48, 48, 48, 48, 48, 48, 56, 97, 48, 48, 48, 48, 48, 48, 48, 48, 48, 48, 48, 48, 48, 48, 56, 56, 48, 48, 48, 48, 48, 48, 48, 48, 56, 48, 48, 48, 56, 48, 48, 57, 48, 48, 48, 48, 48, 48, 48, 48, 56, 48, 48, 48, 48, 48, 48, 97, 48, 48, 48, 48, 48, 48, 48, 48, 56, 48, 48, 48, 56, 48, 56, 98, 56, 48, 48, 48, 48, 48, 48, 48, 48, 48, 48, 48, 48, 48, 56, 98, 56, 48, 48, 48, 48, 48, 48, 48, 48, 48, 48, 48, 56, 48, 56, 57, 56, 48, 48, 48, 48, 48, 48, 48, 48, 48, 48, 48, 56, 48, 48, 51, 56, 48, 48, 48, 48, 48, 48, 48, 48, 48, 48, 48, 56, 48, 48, 50, 56, 48, 48, 48, 48, 48, 48, 48, 48, 48, 48, 48, 48, 48, 56, 48, 48, 48, 48, 48, 48, 48, 48, 48, 48, 48, 48, 48, 56, 48, 48, 97, 56, 48, 48, 48, 48, 48, 48, 48, 56, 48, 48, 48, 48, 48, 48, 97, 56, 48, 48, 48, 48, 48, 48, 48, 56, 48, 48, 48, 56, 48, 56, 49, 56, 48, 48, 48, 48, 48, 48, 48, 48, 48, 48, 48, 56, 48, 56, 48, 48, 48, 48, 48, 48, 48, 48, 48, 56, 48, 48, 48, 48, 48, 48, 49, 56, 48, 48, 48, 48, 48, 48, 48, 56, 48, 48, 48, 56, 48, 48, 56]
def St0 (x0 : Int) : St := stL 34 [(0, .data T1 x0)] []
def St1 (x3 : Int) (x13 : D0) (x14 x15 : Int) : St := stL 34 [(3, .data T2 x3), (13, .data T10 x13), (14, .data T1 x14), (15, .data T1 x15)] []
noncomputable def cd0 : Code := cL (cL (cR (cL (cR (cR (cB Tryd.f41))))))
def St2 (x3 x6 : Int) (x13 : D0) (x14 x15 : Int) : St := stL 34 [(3, .data T2 x3), (6, .data T2 x6), (13, .data T10 x13), (14, .data T1 x14), (15, .data T1 x15)] []
noncomputable def cd1 : Code := cR (cR (cR (cL (cL (cR (cL (cR (cR (cB Tryd.f41)))))))))
noncomputable def cd2 : Code := cR (cR (cR (cL (cL (cR (cR (cL (cL (cR (cL (cR (cR (cB Tryd.f41)))))))))))))
def j0 {α : Type} (Nx : Int → D0 → Int → Int → Option α) (x3 x6 : Int) (x13 : D0) (x14 x15 : Int) : Option α :=
  Nx (IntKind.u64.wrap ((IntKind.u64.wrap (x3 * 16)) + x6)) x13 x14 (IntKind.i64.wrap (x15 + 1))
theorem j0_eq {α : Type} (k : Nat) (next : St → Option α) (Q : Ex → St → Option α) (x3 x6 : Int) (x13 : D0) (x14 x15 : Int) :
    (den C k) cd2 (blkQ C 1 (sq (den C k) (lp C k) Js C cd1 (lq C 9 next Q))) (St2 x3 x6 x13 x14 x15) = j0 (fun x3 x13 x14 x15 => next (St1 x3 x13 x14 x15)) x3 x6 x13 x14 x15 := by
  have h : ∀ (D L : DT α), denJ D L Js C cd2 (blkQ C 1 (sq D L Js C cd1 (lq C 9 next Q))) (St2 x3 x6 x13 x14 x15) = j0 (fun x3 x13 x14 x15 => next (St1 x3 x13 x14 x15)) x3 x6 x13 x14 x15 := by
    intro D L; kernel_rfl
  have h2 := via (k := k) h
  exact h2
def St3 (x3 : Int) : St := stL 34 [(3, .data T2 x3)] []
def l0s {α : Type} (Nx : Int → D0 → Int → Int → Option α) (Xt0 : Int → Option α) (x3 : Int) (x13 : D0) (x14 x15 : Int) : Option α :=
  if (decide (x15 < x14)) = true then
    if 0 ≤ x15 ∧ x15 < (x13.length : Int) then
      if (decide ((List.getD x13 (Int.toNat x15) 0) ≥ 97)) = true then
        j0 Nx x3 (IntKind.u64.wrap ((IntKind.u64.wrap (IntKind.u8.wrap ((List.getD x13 (Int.toNat x15) 0) - 97))) + 10)) x13 x14 x15
      else
        j0 Nx x3 (IntKind.u64.wrap (IntKind.u8.wrap ((List.getD x13 (Int.toNat x15) 0) - 48))) x13 x14 x15
    else none
  else
    Xt0 x3
theorem l0s_eq {α : Type} (k : Nat) (next : St → Option α) (Q : Ex → St → Option α) (x3 : Int) (x13 : D0) (x14 x15 : Int) :
    rnd C k cd0 9 Q next (St1 x3 x13 x14 x15) = l0s (fun x3 x13 x14 x15 => next (St1 x3 x13 x14 x15)) (fun x3 => Q (.exit 0) (St3 x3)) x3 x13 x14 x15 := by
  have h : ∀ (D L : DT α), denJ D L Js C cd0 (lq C 9 next Q) (St1 x3 x13 x14 x15) =
        if (decide (x15 < x14)) = true then
          if 0 ≤ x15 ∧ x15 < (x13.length : Int) then
            if (decide ((List.getD x13 (Int.toNat x15) 0) ≥ 97)) = true then
              D cd2 (blkQ C 1 (sq D L Js C cd1 (lq C 9 next Q))) (St2 x3 (IntKind.u64.wrap ((IntKind.u64.wrap (IntKind.u8.wrap ((List.getD x13 (Int.toNat x15) 0) - 97))) + 10)) x13 x14 x15)
            else
              D cd2 (blkQ C 1 (sq D L Js C cd1 (lq C 9 next Q))) (St2 x3 (IntKind.u64.wrap (IntKind.u8.wrap ((List.getD x13 (Int.toNat x15) 0) - 48))) x13 x14 x15)
          else none
        else
          Q (.exit 0) (St3 x3) := by
    intro D L; kernel_rfl
  have h2 := via (k := k) h
  refine h2.trans ?_
  simp only [j0_eq]
  first | rfl | kernel_rfl
def l0 {α : Type} (k : Nat) (Xt0 : Int → Option α) : Nat → Int → D0 → Int → Int → Option α
  | 0, _, _, _, _ => none
  | n + 1, x3, x13, x14, x15 => l0s (l0 k Xt0 n) Xt0 x3 x13 x14 x15
theorem l0_eq {α : Type} (k : Nat) (Q : Ex → St → Option α) : ∀ (n : Nat) (x3 : Int) (x13 : D0) (x14 x15 : Int), iter (rnd C k cd0 9 Q) n (St1 x3 x13 x14 x15) = l0 k (fun x3 => Q (.exit 0) (St3 x3)) n x3 x13 x14 x15
  | 0, _, _, _, _ => rfl
  | n + 1, x3, x13, x14, x15 => (iter_succ _ _ _).trans ((l0s_eq k (iter (rnd C k cd0 9 Q) n) Q x3 x13 x14 x15).trans (congrArg (fun N => l0s N (fun x3 => Q (.exit 0) (St3 x3)) x3 x13 x14 x15) (funext fun x3 => funext fun x13 => funext fun x14 => funext fun x15 => l0_eq k Q n x3 x13 x14 x15)))
theorem l0_congr {α : Type} (k : Nat) (Xt0 : Int → Option α) (Xt0q : Int → Option α) (hXt0 : ∀ (x3 : Int), Xt0 x3 = Xt0q x3) (n : Nat) (x3 : Int) (x13 : D0) (x14 x15 : Int) : l0 k Xt0 n x3 x13 x14 x15 = l0 k Xt0q n x3 x13 x14 x15 := by
  obtain rfl : Xt0 = Xt0q := by funext x3; exact hXt0 x3
  rfl
noncomputable def cd3 : Code := cR (cR (cR (cB Tryd.f41)))
def St4 (x3 : Int) : St := stL 34 [(3, .data T2 x3)] []
def St5 (x2 : Int) : St := stL 34 [(2, .data T2 x2)] []
def j1 {α : Type} (Rt : Int → Option α) (x3 : Int) : Option α :=
  Rt x3
theorem j1_eq {α : Type} (k : Nat) (Q : Ex → St → Option α) (x3 : Int) :
    (den C k) cd3 Q (St4 x3) = j1 (fun x2 => Q .ret (St5 x2)) x3 := by
  have h : ∀ (D L : DT α), denJ D L Js C cd3 Q (St4 x3) = j1 (fun x2 => Q .ret (St5 x2)) x3 := by
    intro D L; kernel_rfl
  have h2 := via (k := k) h
  exact h2
theorem a0 {α : Type} (k : Nat) (Q : Ex → St → Option α) (x3 : Int) (x13 : D0) (x14 x15 : Int) :
    (lp C k) cd0 (blkQ C 0 (sq (den C k) (lp C k) Js C cd3 Q)) (St1 x3 x13 x14 x15) = l0 k (fun x3 => j1 (fun x2 => Q .ret (St5 x2)) x3) k x3 x13 x14 x15 :=
  (show (lp C k) cd0 (blkQ C 0 (sq (den C k) (lp C k) Js C cd3 Q)) (St1 x3 x13 x14 x15) = iter (rnd C k cd0 9 (blkQ C 0 (sq (den C k) (lp C k) Js C cd3 Q))) k (St1 x3 x13 x14 x15) by kernel_rfl).trans ((l0_eq k (blkQ C 0 (sq (den C k) (lp C k) Js C cd3 Q)) k x3 x13 x14 x15).trans (l0_congr k _ _ (fun x3 => ((show (blkQ C 0 (sq (den C k) (lp C k) Js C cd3 Q)) (.exit 0) (St3 x3) = (den C k) cd3 Q (St4 x3) by kernel_rfl).trans (by simp only [j1_eq]))) k x3 x13 x14 x15))
def top {α : Type} (k : Nat) (Rt : Int → Option α) (x0 : Int) : Option α :=
  if 0 ≤ (IntKind.i64.wrap (16 * x0)) ∧ (IntKind.i64.wrap (16 * x0)) ≤ (IntKind.i64.wrap ((IntKind.i64.wrap (16 * x0)) + 16)) ∧ (IntKind.i64.wrap ((IntKind.i64.wrap (16 * x0)) + 16)) ≤ (lit0.length : Int) then
    l0 k (fun x3 => j1 Rt x3) k 0 (cutL lit0 (IntKind.i64.wrap (16 * x0)) (IntKind.i64.wrap ((IntKind.i64.wrap (16 * x0)) + 16))) ((cutL lit0 (IntKind.i64.wrap (16 * x0)) (IntKind.i64.wrap ((IntKind.i64.wrap (16 * x0)) + 16))).length : Int) 0
  else none
theorem top_eq {α : Type} (k : Nat) (Q : Ex → St → Option α) (x0 : Int) :
    (den C k) (cB Tryd.f41) Q (St0 x0) = top k (fun x2 => Q .ret (St5 x2)) x0 := by
  have h : ∀ (D L : DT α), denJ D L Js C (cB Tryd.f41) Q (St0 x0) =
        if 0 ≤ (IntKind.i64.wrap (16 * x0)) ∧ (IntKind.i64.wrap (16 * x0)) ≤ (IntKind.i64.wrap ((IntKind.i64.wrap (16 * x0)) + 16)) ∧ (IntKind.i64.wrap ((IntKind.i64.wrap (16 * x0)) + 16)) ≤ (lit0.length : Int) then
          L cd0 (blkQ C 0 (sq D L Js C cd3 Q)) (St1 0 (cutL lit0 (IntKind.i64.wrap (16 * x0)) (IntKind.i64.wrap ((IntKind.i64.wrap (16 * x0)) + 16))) ((cutL lit0 (IntKind.i64.wrap (16 * x0)) (IntKind.i64.wrap ((IntKind.i64.wrap (16 * x0)) + 16))).length : Int) 0)
        else none := by
    intro D L; kernel_rfl
  have h2 := via (k := k) h
  refine h2.trans ?_
  simp only [a0]
  first | rfl | kernel_rfl
def run (x0 : Int) : Option (Int) := top (α := Int) fuel (fun x2 => some x2) x0
def F : Fn := ⟨T11, T2, false, fun x => run x.1⟩
set_option maxRecDepth 100000 in
theorem con : Con Tryd.prog 41 F := by
  refine con_of_den (C := C) (ctx_ok (by kernel_rfl) (by kernel_rfl) (by kernel_rfl) (by kernel_rfl) trivial) (by kernel_rfl) Tryd.func41 (c := cB Tryd.f41) (by kernel_rfl) (by kernel_rfl) F fuel (fun x => by simp [F, spread, Tryd.ntmps41]) ?_
  intro x r h
  rw [← h]
  have h1 : start F Tryd.f41.ntmps x = (St0 x.1) := by kernel_rfl
  rw [h1]
  refine (top_eq fuel (fin C Tryd.f41.results.toList F.rs F.multi) x.1).trans ?_
  kernel_rfl
theorem named : Named Tryd.prog 41 := named_of Tryd.func41 (by kernel_rfl) (by kernel_rfl)
end Go.Bx.basculeref_roundOf
namespace Go.Bx.basculeref_Turned
open Go Go.Proofs Go.Bx
set_option maxRecDepth 100000
set_option linter.unusedVariables false
def Js : List Nat := [11, 19, 20, 27, 29, 36, 37, 38]
def C : Ctx := ⟨[(22, T2), (23, T4), (87, T6)], [], [], fnL [(40, Go.Bx.math_bits_RotateLeft64.F), (41, Go.Bx.basculeref_roundOf.F)], noSh, [], invL [], [(2, [2]), (1, [1, 2]), (4, [1, 2, 16]), (31, [1, 2, 3, 16]), (34, [1, 2, 3, 13, 16]), (37, [1, 2, 3, 13, 16]), (40, [1, 2, 3, 13, 14, 16, 132]), (25, [1, 2, 3, 16]), (28, [1, 2, 3, 9, 10, 11, 16, 78]), (13, [1, 2, 3, 16]), (16, [1, 2, 3, 4, 16, 48]), (19, [1, 2, 3, 4, 16, 48]), (22, [1, 2, 3, 4, 6, 7, 8, 16, 48]), (7, [1, 2, 3, 4, 16]), (10, [1, 2, 3, 4, 16, 19]), (6, [1, 2, 16]), (18, [1, 2, 3, 4, 16, 19]), (30, [1, 2, 3, 4, 16]), (33, [1, 2, 3, 4, 16, 48]), (45, [1, 2, 3, 4, 6, 7, 8, 16, 48]), (54, [1, 2, 3, 4, 16, 48]), (57, [1, 2, 3, 16]), (63, [1, 2, 3, 9, 10, 11, 16, 78]), (78, [1, 2, 3, 16]), (81, [1, 2, 3, 13, 16]), (84, [1, 2, 3, 13, 16]), (93, [1, 2, 3, 13, 14, 16, 132]), (105, [1, 2, 3, 16]), (108, [1, 2, 16]), (111, [1, 2])], [], [], 0, 0⟩
def St0 (x0 : D0) : St := stL 164 [(0, .data T4 x0)] []
def St1 (x16 : Int) (c1 c2 : D0) : St := stL 164 [(1, .ref 1 0 []), (2, .ref 2 0 []), (16, .data T1 x16)] [(1, .cell T4 (.data T4 c1) false), (2, .cell T4 (.data T4 c2) false)]
noncomputable def cd0 : Code := cL (cL (cR (cL (cR (cB Tryd.f13)))))
def St2 (x3 x16 x19 : Int) (c1 c2 c4 : D0) : St := stL 164 [(1, .ref 1 0 []), (2, .ref 2 0 []), (3, .data T1 x3), (4, .ref 4 0 []), (16, .data T1 x16), (19, .data T1 x19)] [(1, .cell T4 (.data T4 c1) false), (2, .cell T4 (.data T4 c2) false), (4, .cell T6 (.data T6 c4) false)]
noncomputable def cd1 : Code := cL (cL (cR (cL (cR (cR (cL (cL (cR (cR (cL (cL (cR (cL (cR (cB Tryd.f13)))))))))))))))
def St3 (x3 x16 : Int) (c1 c2 c4 : D0) : St := stL 164 [(1, .ref 1 0 []), (2, .ref 2 0 []), (3, .data T1 x3), (4, .ref 4 0 []), (16, .data T1 x16)] [(1, .cell T4 (.data T4 c1) false), (2, .cell T4 (.data T4 c2) false), (4, .cell T6 (.data T6 c4) false)]
def l1s {α : Type} (Nx : Int → Int → Int → D0 → D0 → D0 → Option α) (Xt2 : Int → Int → D0 → D0 → D0 → Option α) (x3 x16 x19 : Int) (c1 c2 c4 : D0) : Option α :=
  if (decide (x19 < 5)) = true then
    if 0 ≤ x19 ∧ x19 < (25 : Int) then
      if 0 ≤ (IntKind.i64.wrap (x19 + 5)) ∧ (IntKind.i64.wrap (x19 + 5)) < (25 : Int) then
        if 0 ≤ (IntKind.i64.wrap (x19 + 10)) ∧ (IntKind.i64.wrap (x19 + 10)) < (25 : Int) then
          if 0 ≤ (IntKind.i64.wrap (x19 + 15)) ∧ (IntKind.i64.wrap (x19 + 15)) < (25 : Int) then
            if 0 ≤ (IntKind.i64.wrap (x19 + 20)) ∧ (IntKind.i64.wrap (x19 + 20)) < (25 : Int) then
              if 0 ≤ x19 ∧ x19 < (5 : Int) then
                Nx x3 x16 (IntKind.i64.wrap (x19 + 1)) c1 c2 (List.set c4 (Int.toNat x19) (bxor .u64 (bxor .u64 (bxor .u64 (bxor .u64 (List.getD c1 (Int.toNat x19) 0) (List.getD c1 (Int.toNat (IntKind.i64.wrap (x19 + 5))) 0)) (List.getD c1 (Int.toNat (IntKind.i64.wrap (x19 + 10))) 0)) (List.getD c1 (Int.toNat (IntKind.i64.wrap (x19 + 15))) 0)) (List.getD c1 (Int.toNat (IntKind.i64.wrap (x19 + 20))) 0)))
              else none
            else none
          else none
        else none
      else none
    else none
  else
    Xt2 x3 x16 c1 c2 c4
theorem l1s_eq {α : Type} (k : Nat) (next : St → Option α) (Q : Ex → St → Option α) (x3 x16 x19 : Int) (c1 c2 c4 : D0) :
    rnd C k cd1 18 Q next (St2 x3 x16 x19 c1 c2 c4) = l1s (fun x3 x16 x19 c1 c2 c4 => next (St2 x3 x16 x19 c1 c2 c4)) (fun x3 x16 c1 c2 c4 => Q (.exit 2) (St3 x3 x16 c1 c2 c4)) x3 x16 x19 c1 c2 c4 := by
  have h : ∀ (D L : DT α), denJ D L Js C cd1 (lq C 18 next Q) (St2 x3 x16 x19 c1 c2 c4) = l1s (fun x3 x16 x19 c1 c2 c4 => next (St2 x3 x16 x19 c1 c2 c4)) (fun x3 x16 c1 c2 c4 => Q (.exit 2) (St3 x3 x16 c1 c2 c4)) x3 x16 x19 c1 c2 c4 := by
    intro D L; kernel_rfl
  have h2 := via (k := k) h
  exact h2
def l1 {α : Type} (k : Nat) (Xt2 : Int → Int → D0 → D0 → D0 → Option α) : Nat → Int → Int → Int → D0 → D0 → D0 → Option α
  | 0, _, _, _, _, _, _ => none
  | n + 1, x3, x16, x19, c1, c2, c4 => l1s (l1 k Xt2 n) Xt2 x3 x16 x19 c1 c2 c4
theorem l1_eq {α : Type} (k : Nat) (Q : Ex → St → Option α) : ∀ (n : Nat) (x3 x16 x19 : Int) (c1 c2 c4 : D0), iter (rnd C k cd1 18 Q) n (St2 x3 x16 x19 c1 c2 c4) = l1 k (fun x3 x16 c1 c2 c4 => Q (.exit 2) (St3 x3 x16 c1 c2 c4)) n x3 x16 x19 c1 c2 c4
  | 0, _, _, _, _, _, _ => rfl
  | n + 1, x3, x16, x19, c1, c2, c4 => (iter_succ _ _ _).trans ((l1s_eq k (iter (rnd C k cd1 18 Q) n) Q x3 x16 x19 c1 c2 c4).trans (congrArg (fun N => l1s N (fun x3 x16 c1 c2 c4 => Q (.exit 2) (St3 x3 x16 c1 c2 c4)) x3 x16 x19 c1 c2 c4) (funext fun x3 => funext fun x16 => funext fun x19 => funext fun c1 => funext fun c2 => funext fun c4 => l1_eq k Q n x3 x16 x19 c1 c2 c4)))
theorem l1_congr {α : Type} (k : Nat) (Xt2 : Int → Int → D0 → D0 → D0 → Option α) (Xt2q : Int → Int → D0 → D0 → D0 → Option α) (hXt2 : ∀ (x3 x16 : Int) (c1 c2 c4 : D0), Xt2 x3 x16 c1 c2 c4 = Xt2q x3 x16 c1 c2 c4) (n : Nat) (x3 x16 x19 : Int) (c1 c2 c4 : D0) : l1 k Xt2 n x3 x16 x19 c1 c2 c4 = l1 k Xt2q n x3 x16 x19 c1 c2 c4 := by
  obtain rfl : Xt2 = Xt2q := by funext x3; funext x16; funext c1; funext c2; funext c4; exact hXt2 x3 x16 c1 c2 c4
  rfl
noncomputable def cd2 : Code := cR (cR (cR (cL (cL (cR (cR (cL (cL (cR (cL (cR (cB Tryd.f13))))))))))))
noncomputable def cd3 : Code := cR (cR (cR (cL (cL (cR (cL (cR (cB Tryd.f13))))))))
def St4 (x3 x16 : Int) (c1 c2 c4 : D0) : St := stL 164 [(1, .ref 1 0 []), (2, .ref 2 0 []), (3, .data T1 x3), (4, .ref 4 0 []), (16, .data T1 x16)] [(1, .cell T4 (.data T4 c1) false), (2, .cell T4 (.data T4 c2) false), (4, .cell T6 (.data T6 c4) false)]
def St5 (x3 x16 x48 : Int) (c1 c2 c4 : D0) : St := stL 164 [(1, .ref 1 0 []), (2, .ref 2 0 []), (3, .data T1 x3), (4, .ref 4 0 []), (16, .data T1 x16), (48, .data T1 x48)] [(1, .cell T4 (.data T4 c1) false), (2, .cell T4 (.data T4 c2) false), (4, .cell T6 (.data T6 c4) false)]
noncomputable def cd4 : Code := cL (cL (cR (cL (cR (cR (cR (cL (cL (cR (cR (cL (cL (cR (cL (cR (cB Tryd.f13))))))))))))))))
def St6 (x3 x6 : Int) (x7 x8 : Int) (x16 x48 : Int) (c1 c2 c4 : D0) : St := stL 164 [(1, .ref 1 0 []), (2, .ref 2 0 []), (3, .data T1 x3), (4, .ref 4 0 []), (6, .data T1 x6), (7, .data T2 x7), (8, .data T1 x8), (16, .data T1 x16), (48, .data T1 x48)] [(1, .cell T4 (.data T4 c1) false), (2, .cell T4 (.data T4 c2) false), (4, .cell T6 (.data T6 c4) false)]
noncomputable def cd5 : Code := cL (cL (cR (cR (cR (cL (cL (cR (cR (cL (cL (cR (cL (cR (cR (cR (cL (cL (cR (cR (cL (cL (cR (cL (cR (cB Tryd.f13)))))))))))))))))))))))))
def St7 (x3 x16 x48 : Int) (c1 c2 c4 : D0) : St := stL 164 [(1, .ref 1 0 []), (2, .ref 2 0 []), (3, .data T1 x3), (4, .ref 4 0 []), (16, .data T1 x16), (48, .data T1 x48)] [(1, .cell T4 (.data T4 c1) false), (2, .cell T4 (.data T4 c2) false), (4, .cell T6 (.data T6 c4) false)]
def l3s {α : Type} (Nx : Int → Int → Int → Int → Int → Int → D0 → D0 → D0 → Option α) (Xt6 : Int → Int → Int → D0 → D0 → D0 → Option α) (x3 x6 : Int) (x7 x8 : Int) (x16 x48 : Int) (c1 c2 c4 : D0) : Option α :=
  if (decide (x8 < 25)) = true then
    if 0 ≤ (IntKind.i64.wrap (x6 + x8)) ∧ (IntKind.i64.wrap (x6 + x8)) < (25 : Int) then
      if 0 ≤ (IntKind.i64.wrap (x6 + x8)) ∧ (IntKind.i64.wrap (x6 + x8)) < (25 : Int) then
        Nx x3 x6 x7 (IntKind.i64.wrap (x8 + 5)) x16 x48 (List.set c1 (Int.toNat (IntKind.i64.wrap (x6 + x8))) (bxor .u64 (List.getD c1 (Int.toNat (IntKind.i64.wrap (x6 + x8))) 0) x7)) c2 c4
      else none
    else none
  else
    Xt6 x3 x16 x48 c1 c2 c4
theorem l3s_eq {α : Type} (k : Nat) (next : St → Option α) (Q : Ex → St → Option α) (x3 x6 : Int) (x7 x8 : Int) (x16 x48 : Int) (c1 c2 c4 : D0) :
    rnd C k cd5 45 Q next (St6 x3 x6 x7 x8 x16 x48 c1 c2 c4) = l3s (fun x3 x6 x7 x8 x16 x48 c1 c2 c4 => next (St6 x3 x6 x7 x8 x16 x48 c1 c2 c4)) (fun x3 x16 x48 c1 c2 c4 => Q (.exit 6) (St7 x3 x16 x48 c1 c2 c4)) x3 x6 x7 x8 x16 x48 c1 c2 c4 := by
  have h : ∀ (D L : DT α), denJ D L Js C cd5 (lq C 45 next Q) (St6 x3 x6 x7 x8 x16 x48 c1 c2 c4) = l3s (fun x3 x6 x7 x8 x16 x48 c1 c2 c4 => next (St6 x3 x6 x7 x8 x16 x48 c1 c2 c4)) (fun x3 x16 x48 c1 c2 c4 => Q (.exit 6) (St7 x3 x16 x48 c1 c2 c4)) x3 x6 x7 x8 x16 x48 c1 c2 c4 := by
    intro D L; kernel_rfl
  have h2 := via (k := k) h
  exact h2
def l3 {α : Type} (k : Nat) (Xt6 : Int → Int → Int → D0 → D0 → D0 → Option α) : Nat → Int → Int → Int → Int → Int → Int → D0 → D0 → D0 → Option α
  | 0, _, _, _, _, _, _, _, _, _ => none
  | n + 1, x3, x6, x7, x8, x16, x48, c1, c2, c4 => l3s (l3 k Xt6 n) Xt6 x3 x6 x7 x8 x16 x48 c1 c2 c4
theorem l3_eq {α : Type} (k : Nat) (Q : Ex → St → Option α) : ∀ (n : Nat) (x3 x6 : Int) (x7 x8 : Int) (x16 x48 : Int) (c1 c2 c4 : D0), iter (rnd C k cd5 45 Q) n (St6 x3 x6 x7 x8 x16 x48 c1 c2 c4) = l3 k (fun x3 x16 x48 c1 c2 c4 => Q (.exit 6) (St7 x3 x16 x48 c1 c2 c4)) n x3 x6 x7 x8 x16 x48 c1 c2 c4
  | 0, _, _, _, _, _, _, _, _, _ => rfl
  | n + 1, x3, x6, x7, x8, x16, x48, c1, c2, c4 => (iter_succ _ _ _).trans ((l3s_eq k (iter (rnd C k cd5 45 Q) n) Q x3 x6 x7 x8 x16 x48 c1 c2 c4).trans (congrArg (fun N => l3s N (fun x3 x16 x48 c1 c2 c4 => Q (.exit 6) (St7 x3 x16 x48 c1 c2 c4)) x3 x6 x7 x8 x16 x48 c1 c2 c4) (funext fun x3 => funext fun x6 => funext fun x7 => funext fun x8 => funext fun x16 => funext fun x48 => funext fun c1 => funext fun c2 => funext fun c4 => l3_eq k Q n x3 x6 x7 x8 x16 x48 c1 c2 c4)))
theorem l3_congr {α : Type} (k : Nat) (Xt6 : Int → Int → Int → D0 → D0 → D0 → Option α) (Xt6q : Int → Int → Int → D0 → D0 → D0 → Option α) (hXt6 : ∀ (x3 x16 x48 : Int) (c1 c2 c4 : D0), Xt6 x3 x16 x48 c1 c2 c4 = Xt6q x3 x16 x48 c1 c2 c4) (n : Nat) (x3 x6 : Int) (x7 x8 : Int) (x16 x48 : Int) (c1 c2 c4 : D0) : l3 k Xt6 n x3 x6 x7 x8 x16 x48 c1 c2 c4 = l3 k Xt6q n x3 x6 x7 x8 x16 x48 c1 c2 c4 := by
  obtain rfl : Xt6 = Xt6q := by funext x3; funext x16; funext x48; funext c1; funext c2; funext c4; exact hXt6 x3 x16 x48 c1 c2 c4
  rfl
noncomputable def cd6 : Code := cR (cR (cR (cL (cL (cR (cL (cR (cR (cR (cL (cL (cR (cR (cL (cL (cR (cL (cR (cB Tryd.f13)))))))))))))))))))
def St8 (x3 x16 x48 : Int) (c1 c2 c4 : D0) : St := stL 164 [(1, .ref 1 0 []), (2, .ref 2 0 []), (3, .data T1 x3), (4, .ref 4 0 []), (16, .data T1 x16), (48, .data T1 x48)] [(1, .cell T4 (.data T4 c1) false), (2, .cell T4 (.data T4 c2) false), (4, .cell T6 (.data T6 c4) false)]
def j1 {α : Type} (Nx : Int → Int → Int → D0 → D0 → D0 → Option α) (x3 x16 x48 : Int) (c1 c2 c4 : D0) : Option α :=
  Nx x3 x16 (IntKind.i64.wrap (x48 + 1)) c1 c2 c4
theorem j1_eq {α : Type} (k : Nat) (next : St → Option α) (Q : Ex → St → Option α) (x3 x16 x48 : Int) (c1 c2 c4 : D0) :
    (den C k) cd6 (lq C 33 next Q) (St8 x3 x16 x48 c1 c2 c4) = j1 (fun x3 x16 x48 c1 c2 c4 => next (St5 x3 x16 x48 c1 c2 c4)) x3 x16 x48 c1 c2 c4 := by
  have h : ∀ (D L : DT α), denJ D L Js C cd6 (lq C 33 next Q) (St8 x3 x16 x48 c1 c2 c4) = j1 (fun x3 x16 x48 c1 c2 c4 => next (St5 x3 x16 x48 c1 c2 c4)) x3 x16 x48 c1 c2 c4 := by
    intro D L; kernel_rfl
  have h2 := via (k := k) h
  exact h2
theorem a0 {α : Type} (k : Nat) (next : St → Option α) (Q : Ex → St → Option α) (x3 x6 : Int) (x7 x8 : Int) (x16 x48 : Int) (c1 c2 c4 : D0) :
    (lp C k) cd5 (blkQ C 6 (blkQ C 5 (sq (den C k) (lp C k) Js C cd6 (lq C 33 next Q)))) (St6 x3 x6 x7 x8 x16 x48 c1 c2 c4) = l3 k (fun x3 x16 x48 c1 c2 c4 => j1 (fun x3 x16 x48 c1 c2 c4 => next (St5 x3 x16 x48 c1 c2 c4)) x3 x16 x48 c1 c2 c4) k x3 x6 x7 x8 x16 x48 c1 c2 c4 :=
  (show (lp C k) cd5 (blkQ C 6 (blkQ C 5 (sq (den C k) (lp C k) Js C cd6 (lq C 33 next Q)))) (St6 x3 x6 x7 x8 x16 x48 c1 c2 c4) = iter (rnd C k cd5 45 (blkQ C 6 (blkQ C 5 (sq (den C k) (lp C k) Js C cd6 (lq C 33 next Q))))) k (St6 x3 x6 x7 x8 x16 x48 c1 c2 c4) by kernel_rfl).trans ((l3_eq k (blkQ C 6 (blkQ C 5 (sq (den C k) (lp C k) Js C cd6 (lq C 33 next Q)))) k x3 x6 x7 x8 x16 x48 c1 c2 c4).trans (l3_congr k _ _ (fun x3 x16 x48 c1 c2 c4 => ((show (blkQ C 6 (blkQ C 5 (sq (den C k) (lp C k) Js C cd6 (lq C 33 next Q)))) (.exit 6) (St7 x3 x16 x48 c1 c2 c4) = (den C k) cd6 (lq C 33 next Q) (St8 x3 x16 x48 c1 c2 c4) by kernel_rfl).trans (by simp only [j1_eq]))) k x3 x6 x7 x8 x16 x48 c1 c2 c4))
def St9 (x3 x16 : Int) (c1 c2 : D0) : St := stL 164 [(1, .ref 1 0 []), (2, .ref 2 0 []), (3, .data T1 x3), (16, .data T1 x16)] [(1, .cell T4 (.data T4 c1) false), (2, .cell T4 (.data T4 c2) false)]
def l2s {α : Type} (k : Nat) (Nx : Int → Int → Int → D0 → D0 → D0 → Option α) (Xt4 : Int → Int → D0 → D0 → Option α) (x3 x16 x48 : Int) (c1 c2 c4 : D0) : Option α :=
  if (decide (x48 < 5)) = true then
    if 0 ≤ (Int.tmod (IntKind.i64.wrap (x48 + 4)) 5) ∧ (Int.tmod (IntKind.i64.wrap (x48 + 4)) 5) < (5 : Int) then
      if 0 ≤ (Int.tmod (IntKind.i64.wrap (x48 + 1)) 5) ∧ (Int.tmod (IntKind.i64.wrap (x48 + 1)) 5) < (5 : Int) then
        (Go.Bx.math_bits_RotateLeft64.run (List.getD c4 (Int.toNat (Int.tmod (IntKind.i64.wrap (x48 + 1)) 5)) 0) 1).bind fun y1 =>
        l3 k (fun x3 x16 x48 c1 c2 c4 => j1 Nx x3 x16 x48 c1 c2 c4) k x3 x48 (bxor .u64 (List.getD c4 (Int.toNat (Int.tmod (IntKind.i64.wrap (x48 + 4)) 5)) 0) y1) 0 x16 x48 c1 c2 c4
      else none
    else none
  else
    Xt4 x3 x16 c1 c2
theorem l2s_eq {α : Type} (k : Nat) (next : St → Option α) (Q : Ex → St → Option α) (x3 x16 x48 : Int) (c1 c2 c4 : D0) :
    rnd C k cd4 33 Q next (St5 x3 x16 x48 c1 c2 c4) = l2s k (fun x3 x16 x48 c1 c2 c4 => next (St5 x3 x16 x48 c1 c2 c4)) (fun x3 x16 c1 c2 => Q (.exit 4) (St9 x3 x16 c1 c2)) x3 x16 x48 c1 c2 c4 := by
  have h : ∀ (D L : DT α), denJ D L Js C cd4 (lq C 33 next Q) (St5 x3 x16 x48 c1 c2 c4) =
        if (decide (x48 < 5)) = true then
          if 0 ≤ (Int.tmod (IntKind.i64.wrap (x48 + 4)) 5) ∧ (Int.tmod (IntKind.i64.wrap (x48 + 4)) 5) < (5 : Int) then
            if 0 ≤ (Int.tmod (IntKind.i64.wrap (x48 + 1)) 5) ∧ (Int.tmod (IntKind.i64.wrap (x48 + 1)) 5) < (5 : Int) then
              (Go.Bx.math_bits_RotateLeft64.run (List.getD c4 (Int.toNat (Int.tmod (IntKind.i64.wrap (x48 + 1)) 5)) 0) 1).bind fun y1 =>
              L cd5 (blkQ C 6 (blkQ C 5 (sq D L Js C cd6 (lq C 33 next Q)))) (St6 x3 x48 (bxor .u64 (List.getD c4 (Int.toNat (Int.tmod (IntKind.i64.wrap (x48 + 4)) 5)) 0) y1) 0 x16 x48 c1 c2 c4)
            else none
          else none
        else
          Q (.exit 4) (St9 x3 x16 c1 c2) := by
    intro D L; kernel_rfl
  have h2 := via (k := k) h
  refine h2.trans ?_
  simp only [a0]
  first | rfl | kernel_rfl
def l2 {α : Type} (k : Nat) (Xt4 : Int → Int → D0 → D0 → Option α) : Nat → Int → Int → Int → D0 → D0 → D0 → Option α
  | 0, _, _, _, _, _, _ => none
  | n + 1, x3, x16, x48, c1, c2, c4 => l2s k (l2 k Xt4 n) Xt4 x3 x16 x48 c1 c2 c4
theorem l2_eq {α : Type} (k : Nat) (Q : Ex → St → Option α) : ∀ (n : Nat) (x3 x16 x48 : Int) (c1 c2 c4 : D0), iter (rnd C k cd4 33 Q) n (St5 x3 x16 x48 c1 c2 c4) = l2 k (fun x3 x16 c1 c2 => Q (.exit 4) (St9 x3 x16 c1 c2)) n x3 x16 x48 c1 c2 c4
  | 0, _, _, _, _, _, _ => rfl
  | n + 1, x3, x16, x48, c1, c2, c4 => (iter_succ _ _ _).trans ((l2s_eq k (iter (rnd C k cd4 33 Q) n) Q x3 x16 x48 c1 c2 c4).trans (congrArg (fun N => l2s k N (fun x3 x16 c1 c2 => Q (.exit 4) (St9 x3 x16 c1 c2)) x3 x16 x48 c1 c2 c4) (funext fun x3 => funext fun x16 => funext fun x48 => funext fun c1 => funext fun c2 => funext fun c4 => l2_eq k Q n x3 x16 x48 c1 c2 c4)))
theorem l2_congr {α : Type} (k : Nat) (Xt4 : Int → Int → D0 → D0 → Option α) (Xt4q : Int → Int → D0 → D0 → Option α) (hXt4 : ∀ (x3 x16 : Int) (c1 c2 : D0), Xt4 x3 x16 c1 c2 = Xt4q x3 x16 c1 c2) (n : Nat) (x3 x16 x48 : Int) (c1 c2 c4 : D0) : l2 k Xt4 n x3 x16 x48 c1 c2 c4 = l2 k Xt4q n x3 x16 x48 c1 c2 c4 := by
  obtain rfl : Xt4 = Xt4q := by funext x3; funext x16; funext c1; funext c2; exact hXt4 x3 x16 c1 c2
  rfl
noncomputable def cd7 : Code := cR (cR (cR (cR (cL (cL (cR (cR (cL (cL (cR (cL (cR (cB Tryd.f13)))))))))))))
def St10 (x3 x16 : Int) (c1 c2 : D0) : St := stL 164 [(1, .ref 1 0 []), (2, .ref 2 0 []), (3, .data T1 x3), (16, .data T1 x16)] [(1, .cell T4 (.data T4 c1) false), (2, .cell T4 (.data T4 c2) false)]
def St11 (x3 x9 : Int) (x10 x11 : Int) (x16 x78 : Int) (c1 c2 : D0) : St := stL 164 [(1, .ref 1 0 []), (2, .ref 2 0 []), (3, .data T1 x3), (9, .data T1 x9), (10, .data T1 x10), (11, .data T2 x11), (16, .data T1 x16), (78, .data T1 x78)] [(1, .cell T4 (.data T4 c1) false), (2, .cell T4 (.data T4 c2) false)]
noncomputable def cd8 : Code := cL (cL (cR (cL (cR (cR (cR (cR (cR (cL (cL (cR (cR (cL (cL (cR (cL (cR (cB Tryd.f13))))))))))))))))))
def St12 (x3 x16 : Int) (c1 c2 : D0) : St := stL 164 [(1, .ref 1 0 []), (2, .ref 2 0 []), (3, .data T1 x3), (16, .data T1 x16)] [(1, .cell T4 (.data T4 c1) false), (2, .cell T4 (.data T4 c2) false)]
def l4s {α : Type} (Nx : Int → Int → Int → Int → Int → Int → D0 → D0 → Option α) (Xt8 : Int → Int → D0 → D0 → Option α) (x3 x9 : Int) (x10 x11 : Int) (x16 x78 : Int) (c1 c2 : D0) : Option α :=
  if (decide (x78 < 24)) = true then
    if 0 ≤ (IntKind.i64.wrap (x10 + (IntKind.i64.wrap (5 * (Int.tmod (IntKind.i64.wrap ((IntKind.i64.wrap (2 * x9)) + (IntKind.i64.wrap (3 * x10)))) 5))))) ∧ (IntKind.i64.wrap (x10 + (IntKind.i64.wrap (5 * (Int.tmod (IntKind.i64.wrap ((IntKind.i64.wrap (2 * x9)) + (IntKind.i64.wrap (3 * x10)))) 5))))) < (25 : Int) then
      (Go.Bx.math_bits_RotateLeft64.run x11 (IntKind.i64.wrap (Int.tdiv (IntKind.i64.wrap ((IntKind.i64.wrap (x78 + 1)) * (IntKind.i64.wrap (x78 + 2)))) 2))).bind fun y2 =>
      if 0 ≤ (IntKind.i64.wrap (x10 + (IntKind.i64.wrap (5 * (Int.tmod (IntKind.i64.wrap ((IntKind.i64.wrap (2 * x9)) + (IntKind.i64.wrap (3 * x10)))) 5))))) ∧ (IntKind.i64.wrap (x10 + (IntKind.i64.wrap (5 * (Int.tmod (IntKind.i64.wrap ((IntKind.i64.wrap (2 * x9)) + (IntKind.i64.wrap (3 * x10)))) 5))))) < (25 : Int) then
        Nx x3 x10 (Int.tmod (IntKind.i64.wrap ((IntKind.i64.wrap (2 * x9)) + (IntKind.i64.wrap (3 * x10)))) 5) (List.getD c1 (Int.toNat (IntKind.i64.wrap (x10 + (IntKind.i64.wrap (5 * (Int.tmod (IntKind.i64.wrap ((IntKind.i64.wrap (2 * x9)) + (IntKind.i64.wrap (3 * x10)))) 5)))))) 0) x16 (IntKind.i64.wrap (x78 + 1)) (List.set c1 (Int.toNat (IntKind.i64.wrap (x10 + (IntKind.i64.wrap (5 * (Int.tmod (IntKind.i64.wrap ((IntKind.i64.wrap (2 * x9)) + (IntKind.i64.wrap (3 * x10)))) 5)))))) y2) c2
      else none
    else none
  else
    Xt8 x3 x16 c1 c2
theorem l4s_eq {α : Type} (k : Nat) (next : St → Option α) (Q : Ex → St → Option α) (x3 x9 : Int) (x10 x11 : Int) (x16 x78 : Int) (c1 c2 : D0) :
    rnd C k cd8 63 Q next (St11 x3 x9 x10 x11 x16 x78 c1 c2) = l4s (fun x3 x9 x10 x11 x16 x78 c1 c2 => next (St11 x3 x9 x10 x11 x16 x78 c1 c2)) (fun x3 x16 c1 c2 => Q (.exit 8) (St12 x3 x16 c1 c2)) x3 x9 x10 x11 x16 x78 c1 c2 := by
  have h : ∀ (D L : DT α), denJ D L Js C cd8 (lq C 63 next Q) (St11 x3 x9 x10 x11 x16 x78 c1 c2) = l4s (fun x3 x9 x10 x11 x16 x78 c1 c2 => next (St11 x3 x9 x10 x11 x16 x78 c1 c2)) (fun x3 x16 c1 c2 => Q (.exit 8) (St12 x3 x16 c1 c2)) x3 x9 x10 x11 x16 x78 c1 c2 := by
    intro D L; kernel_rfl
  have h2 := via (k := k) h
  exact h2
def l4 {α : Type} (k : Nat) (Xt8 : Int → Int → D0 → D0 → Option α) : Nat → Int → Int → Int → Int → Int → Int → D0 → D0 → Option α
  | 0, _, _, _, _, _, _, _, _ => none
  | n + 1, x3, x9, x10, x11, x16, x78, c1, c2 => l4s (l4 k Xt8 n) Xt8 x3 x9 x10 x11 x16 x78 c1 c2
theorem l4_eq {α : Type} (k : Nat) (Q : Ex → St → Option α) : ∀ (n : Nat) (x3 x9 : Int) (x10 x11 : Int) (x16 x78 : Int) (c1 c2 : D0), iter (rnd C k cd8 63 Q) n (St11 x3 x9 x10 x11 x16 x78 c1 c2) = l4 k (fun x3 x16 c1 c2 => Q (.exit 8) (St12 x3 x16 c1 c2)) n x3 x9 x10 x11 x16 x78 c1 c2
  | 0, _, _, _, _, _, _, _, _ => rfl
  | n + 1, x3, x9, x10, x11, x16, x78, c1, c2 => (iter_succ _ _ _).trans ((l4s_eq k (iter (rnd C k cd8 63 Q) n) Q x3 x9 x10 x11 x16 x78 c1 c2).trans (congrArg (fun N => l4s N (fun x3 x16 c1 c2 => Q (.exit 8) (St12 x3 x16 c1 c2)) x3 x9 x10 x11 x16 x78 c1 c2) (funext fun x3 => funext fun x9 => funext fun x10 => funext fun x11 => funext fun x16 => funext fun x78 => funext fun c1 => funext fun c2 => l4_eq k Q n x3 x9 x10 x11 x16 x78 c1 c2)))
theorem l4_congr {α : Type} (k : Nat) (Xt8 : Int → Int → D0 → D0 → Option α) (Xt8q : Int → Int → D0 → D0 → Option α) (hXt8 : ∀ (x3 x16 : Int) (c1 c2 : D0), Xt8 x3 x16 c1 c2 = Xt8q x3 x16 c1 c2) (n : Nat) (x3 x9 : Int) (x10 x11 : Int) (x16 x78 : Int) (c1 c2 : D0) : l4 k Xt8 n x3 x9 x10 x11 x16 x78 c1 c2 = l4 k Xt8q n x3 x9 x10 x11 x16 x78 c1 c2 := by
  obtain rfl : Xt8 = Xt8q := by funext x3; funext x16; funext c1; funext c2; exact hXt8 x3 x16 c1 c2
  rfl
noncomputable def cd9 : Code := cR (cR (cR (cR (cR (cR (cL (cL (cR (cR (cL (cL (cR (cL (cR (cB Tryd.f13)))))))))))))))
def St13 (x3 x16 : Int) (c1 c2 : D0) : St := stL 164 [(1, .ref 1 0 []), (2, .ref 2 0 []), (3, .data T1 x3), (16, .data T1 x16)] [(1, .cell T4 (.data T4 c1) false), (2, .cell T4 (.data T4 c2) false)]
def St14 (x3 x13 x16 : Int) (c1 c2 : D0) : St := stL 164 [(1, .ref 1 0 []), (2, .ref 2 0 []), (3, .data T1 x3), (13, .data T1 x13), (16, .data T1 x16)] [(1, .cell T4 (.data T4 c1) false), (2, .cell T4 (.data T4 c2) false)]
noncomputable def cd10 : Code := cL (cL (cR (cL (cR (cR (cR (cR (cR (cR (cL (cL (cR (cR (cL (cL (cR (cL (cR (cB Tryd.f13)))))))))))))))))))
def St15 (x3 x13 : Int) (x16 x132 : Int) (c1 c2 c14 : D0) : St := stL 164 [(1, .ref 1 0 []), (2, .ref 2 0 []), (3, .data T1 x3), (13, .data T1 x13), (14, .ref 14 0 []), (16, .data T1 x16), (132, .data T1 x132)] [(1, .cell T4 (.data T4 c1) false), (2, .cell T4 (.data T4 c2) false), (14, .cell T6 (.data T6 c14) false)]
noncomputable def cd11 : Code := cL (cL (cR (cR (cL (cL (cR (cL (cL (cR (cL (cR (cR (cR (cR (cR (cR (cL (cL (cR (cR (cL (cL (cR (cL (cR (cB Tryd.f13))))))))))))))))))))))))))
def St16 (x3 x13 x16 : Int) (c1 c2 : D0) : St := stL 164 [(1, .ref 1 0 []), (2, .ref 2 0 []), (3, .data T1 x3), (13, .data T1 x13), (16, .data T1 x16)] [(1, .cell T4 (.data T4 c1) false), (2, .cell T4 (.data T4 c2) false)]
def l6s {α : Type} (Nx : Int → Int → Int → Int → D0 → D0 → D0 → Option α) (Xt12 : Int → Int → Int → D0 → D0 → Option α) (x3 x13 : Int) (x16 x132 : Int) (c1 c2 c14 : D0) : Option α :=
  if (decide (x132 < 5)) = true then
    if 0 ≤ x132 ∧ x132 < (5 : Int) then
      if 0 ≤ (Int.tmod (IntKind.i64.wrap (x132 + 1)) 5) ∧ (Int.tmod (IntKind.i64.wrap (x132 + 1)) 5) < (5 : Int) then
        if 0 ≤ (Int.tmod (IntKind.i64.wrap (x132 + 2)) 5) ∧ (Int.tmod (IntKind.i64.wrap (x132 + 2)) 5) < (5 : Int) then
          if 0 ≤ (IntKind.i64.wrap (x13 + x132)) ∧ (IntKind.i64.wrap (x13 + x132)) < (25 : Int) then
            Nx x3 x13 x16 (IntKind.i64.wrap (x132 + 1)) (List.set c1 (Int.toNat (IntKind.i64.wrap (x13 + x132))) (bxor .u64 (List.getD c14 (Int.toNat x132) 0) (band .u64 (bxor .u64 18446744073709551615 (List.getD c14 (Int.toNat (Int.tmod (IntKind.i64.wrap (x132 + 1)) 5)) 0)) (List.getD c14 (Int.toNat (Int.tmod (IntKind.i64.wrap (x132 + 2)) 5)) 0)))) c2 c14
          else none
        else none
      else none
    else none
  else
    Xt12 x3 x13 x16 c1 c2
theorem l6s_eq {α : Type} (k : Nat) (next : St → Option α) (Q : Ex → St → Option α) (x3 x13 : Int) (x16 x132 : Int) (c1 c2 c14 : D0) :
    rnd C k cd11 93 Q next (St15 x3 x13 x16 x132 c1 c2 c14) = l6s (fun x3 x13 x16 x132 c1 c2 c14 => next (St15 x3 x13 x16 x132 c1 c2 c14)) (fun x3 x13 x16 c1 c2 => Q (.exit 12) (St16 x3 x13 x16 c1 c2)) x3 x13 x16 x132 c1 c2 c14 := by
  have h : ∀ (D L : DT α), denJ D L Js C cd11 (lq C 93 next Q) (St15 x3 x13 x16 x132 c1 c2 c14) = l6s (fun x3 x13 x16 x132 c1 c2 c14 => next (St15 x3 x13 x16 x132 c1 c2 c14)) (fun x3 x13 x16 c1 c2 => Q (.exit 12) (St16 x3 x13 x16 c1 c2)) x3 x13 x16 x132 c1 c2 c14 := by
    intro D L; kernel_rfl
  have h2 := via (k := k) h
  exact h2
def l6 {α : Type} (k : Nat) (Xt12 : Int → Int → Int → D0 → D0 → Option α) : Nat → Int → Int → Int → Int → D0 → D0 → D0 → Option α
  | 0, _, _, _, _, _, _, _ => none
  | n + 1, x3, x13, x16, x132, c1, c2, c14 => l6s (l6 k Xt12 n) Xt12 x3 x13 x16 x132 c1 c2 c14
theorem l6_eq {α : Type} (k : Nat) (Q : Ex → St → Option α) : ∀ (n : Nat) (x3 x13 : Int) (x16 x132 : Int) (c1 c2 c14 : D0), iter (rnd C k cd11 93 Q) n (St15 x3 x13 x16 x132 c1 c2 c14) = l6 k (fun x3 x13 x16 c1 c2 => Q (.exit 12) (St16 x3 x13 x16 c1 c2)) n x3 x13 x16 x132 c1 c2 c14
  | 0, _, _, _, _, _, _, _ => rfl
  | n + 1, x3, x13, x16, x132, c1, c2, c14 => (iter_succ _ _ _).trans ((l6s_eq k (iter (rnd C k cd11 93 Q) n) Q x3 x13 x16 x132 c1 c2 c14).trans (congrArg (fun N => l6s N (fun x3 x13 x16 c1 c2 => Q (.exit 12) (St16 x3 x13 x16 c1 c2)) x3 x13 x16 x132 c1 c2 c14) (funext fun x3 => funext fun x13 => funext fun x16 => funext fun x132 => funext fun c1 => funext fun c2 => funext fun c14 => l6_eq k Q n x3 x13 x16 x132 c1 c2 c14)))
theorem l6_congr {α : Type} (k : Nat) (Xt12 : Int → Int → Int → D0 → D0 → Option α) (Xt12q : Int → Int → Int → D0 → D0 → Option α) (hXt12 : ∀ (x3 x13 x16 : Int) (c1 c2 : D0), Xt12 x3 x13 x16 c1 c2 = Xt12q x3 x13 x16 c1 c2) (n : Nat) (x3 x13 : Int) (x16 x132 : Int) (c1 c2 c14 : D0) : l6 k Xt12 n x3 x13 x16 x132 c1 c2 c14 = l6 k Xt12q n x3 x13 x16 x132 c1 c2 c14 := by
  obtain rfl : Xt12 = Xt12q := by funext x3; funext x13; funext x16; funext c1; funext c2; exact hXt12 x3 x13 x16 c1 c2
  rfl
noncomputable def cd12 : Code := cR (cR (cL (cL (cR (cL (cR (cR (cR (cR (cR (cR (cL (cL (cR (cR (cL (cL (cR (cL (cR (cB Tryd.f13)))))))))))))))))))))
def St17 (x3 x13 x16 : Int) (c1 c2 : D0) : St := stL 164 [(1, .ref 1 0 []), (2, .ref 2 0 []), (3, .data T1 x3), (13, .data T1 x13), (16, .data T1 x16)] [(1, .cell T4 (.data T4 c1) false), (2, .cell T4 (.data T4 c2) false)]
def j4 {α : Type} (Nx : Int → Int → Int → D0 → D0 → Option α) (x3 x13 x16 : Int) (c1 c2 : D0) : Option α :=
  Nx x3 (IntKind.i64.wrap (x13 + 5)) x16 c1 c2
theorem j4_eq {α : Type} (k : Nat) (next : St → Option α) (Q : Ex → St → Option α) (x3 x13 x16 : Int) (c1 c2 : D0) :
    (den C k) cd12 (lq C 81 next Q) (St17 x3 x13 x16 c1 c2) = j4 (fun x3 x13 x16 c1 c2 => next (St14 x3 x13 x16 c1 c2)) x3 x13 x16 c1 c2 := by
  have h : ∀ (D L : DT α), denJ D L Js C cd12 (lq C 81 next Q) (St17 x3 x13 x16 c1 c2) = j4 (fun x3 x13 x16 c1 c2 => next (St14 x3 x13 x16 c1 c2)) x3 x13 x16 c1 c2 := by
    intro D L; kernel_rfl
  have h2 := via (k := k) h
  exact h2
theorem a1 {α : Type} (k : Nat) (next : St → Option α) (Q : Ex → St → Option α) (x3 x13 : Int) (x16 x132 : Int) (c1 c2 c14 : D0) :
    (lp C k) cd11 (blkQ C 12 (blkQ C 11 (sq (den C k) (lp C k) Js C cd12 (lq C 81 next Q)))) (St15 x3 x13 x16 x132 c1 c2 c14) = l6 k (fun x3 x13 x16 c1 c2 => j4 (fun x3 x13 x16 c1 c2 => next (St14 x3 x13 x16 c1 c2)) x3 x13 x16 c1 c2) k x3 x13 x16 x132 c1 c2 c14 :=
  (show (lp C k) cd11 (blkQ C 12 (blkQ C 11 (sq (den C k) (lp C k) Js C cd12 (lq C 81 next Q)))) (St15 x3 x13 x16 x132 c1 c2 c14) = iter (rnd C k cd11 93 (blkQ C 12 (blkQ C 11 (sq (den C k) (lp C k) Js C cd12 (lq C 81 next Q))))) k (St15 x3 x13 x16 x132 c1 c2 c14) by kernel_rfl).trans ((l6_eq k (blkQ C 12 (blkQ C 11 (sq (den C k) (lp C k) Js C cd12 (lq C 81 next Q)))) k x3 x13 x16 x132 c1 c2 c14).trans (l6_congr k _ _ (fun x3 x13 x16 c1 c2 => ((show (blkQ C 12 (blkQ C 11 (sq (den C k) (lp C k) Js C cd12 (lq C 81 next Q)))) (.exit 12) (St16 x3 x13 x16 c1 c2) = (den C k) cd12 (lq C 81 next Q) (St17 x3 x13 x16 c1 c2) by kernel_rfl).trans (by simp only [j4_eq]))) k x3 x13 x16 x132 c1 c2 c14))
def St18 (x3 x16 : Int) (c1 c2 : D0) : St := stL 164 [(1, .ref 1 0 []), (2, .ref 2 0 []), (3, .data T1 x3), (16, .data T1 x16)] [(1, .cell T4 (.data T4 c1) false), (2, .cell T4 (.data T4 c2) false)]
def l5s {α : Type} (k : Nat) (Nx : Int → Int → Int → D0 → D0 → Option α) (Xt10 : Int → Int → D0 → D0 → Option α) (x3 x13 x16 : Int) (c1 c2 : D0) : Option α :=
  if (decide (x13 < 25)) = true then
    if 0 ≤ x13 ∧ x13 < (25 : Int) then
      if 0 ≤ (IntKind.i64.wrap (x13 + 1)) ∧ (IntKind.i64.wrap (x13 + 1)) < (25 : Int) then
        if 0 ≤ (IntKind.i64.wrap (x13 + 2)) ∧ (IntKind.i64.wrap (x13 + 2)) < (25 : Int) then
          if 0 ≤ (IntKind.i64.wrap (x13 + 3)) ∧ (IntKind.i64.wrap (x13 + 3)) < (25 : Int) then
            if 0 ≤ (IntKind.i64.wrap (x13 + 4)) ∧ (IntKind.i64.wrap (x13 + 4)) < (25 : Int) then
              l6 k (fun x3 x13 x16 c1 c2 => j4 Nx x3 x13 x16 c1 c2) k x3 x13 x16 0 c1 c2 [(List.getD c1 (Int.toNat x13) 0), (List.getD c1 (Int.toNat (IntKind.i64.wrap (x13 + 1))) 0), (List.getD c1 (Int.toNat (IntKind.i64.wrap (x13 + 2))) 0), (List.getD c1 (Int.toNat (IntKind.i64.wrap (x13 + 3))) 0), (List.getD c1 (Int.toNat (IntKind.i64.wrap (x13 + 4))) 0)]
            else none
          else none
        else none
      else none
    else none
  else
    Xt10 x3 x16 c1 c2
theorem l5s_eq {α : Type} (k : Nat) (next : St → Option α) (Q : Ex → St → Option α) (x3 x13 x16 : Int) (c1 c2 : D0) :
    rnd C k cd10 81 Q next (St14 x3 x13 x16 c1 c2) = l5s k (fun x3 x13 x16 c1 c2 => next (St14 x3 x13 x16 c1 c2)) (fun x3 x16 c1 c2 => Q (.exit 10) (St18 x3 x16 c1 c2)) x3 x13 x16 c1 c2 := by
  have h : ∀ (D L : DT α), denJ D L Js C cd10 (lq C 81 next Q) (St14 x3 x13 x16 c1 c2) =
        if (decide (x13 < 25)) = true then
          if 0 ≤ x13 ∧ x13 < (25 : Int) then
            if 0 ≤ (IntKind.i64.wrap (x13 + 1)) ∧ (IntKind.i64.wrap (x13 + 1)) < (25 : Int) then
              if 0 ≤ (IntKind.i64.wrap (x13 + 2)) ∧ (IntKind.i64.wrap (x13 + 2)) < (25 : Int) then
                if 0 ≤ (IntKind.i64.wrap (x13 + 3)) ∧ (IntKind.i64.wrap (x13 + 3)) < (25 : Int) then
                  if 0 ≤ (IntKind.i64.wrap (x13 + 4)) ∧ (IntKind.i64.wrap (x13 + 4)) < (25 : Int) then
                    L cd11 (blkQ C 12 (blkQ C 11 (sq D L Js C cd12 (lq C 81 next Q)))) (St15 x3 x13 x16 0 c1 c2 [(List.getD c1 (Int.toNat x13) 0), (List.getD c1 (Int.toNat (IntKind.i64.wrap (x13 + 1))) 0), (List.getD c1 (Int.toNat (IntKind.i64.wrap (x13 + 2))) 0), (List.getD c1 (Int.toNat (IntKind.i64.wrap (x13 + 3))) 0), (List.getD c1 (Int.toNat (IntKind.i64.wrap (x13 + 4))) 0)])
                  else none
                else none
              else none
            else none
          else none
        else
          Q (.exit 10) (St18 x3 x16 c1 c2) := by
    intro D L; kernel_rfl
  have h2 := via (k := k) h
  refine h2.trans ?_
  simp only [a1]
  first | rfl | kernel_rfl
def l5 {α : Type} (k : Nat) (Xt10 : Int → Int → D0 → D0 → Option α) : Nat → Int → Int → Int → D0 → D0 → Option α
  | 0, _, _, _, _, _ => none
  | n + 1, x3, x13, x16, c1, c2 => l5s k (l5 k Xt10 n) Xt10 x3 x13 x16 c1 c2
theorem l5_eq {α : Type} (k : Nat) (Q : Ex → St → Option α) : ∀ (n : Nat) (x3 x13 x16 : Int) (c1 c2 : D0), iter (rnd C k cd10 81 Q) n (St14 x3 x13 x16 c1 c2) = l5 k (fun x3 x16 c1 c2 => Q (.exit 10) (St18 x3 x16 c1 c2)) n x3 x13 x16 c1 c2
  | 0, _, _, _, _, _ => rfl
  | n + 1, x3, x13, x16, c1, c2 => (iter_succ _ _ _).trans ((l5s_eq k (iter (rnd C k cd10 81 Q) n) Q x3 x13 x16 c1 c2).trans (congrArg (fun N => l5s k N (fun x3 x16 c1 c2 => Q (.exit 10) (St18 x3 x16 c1 c2)) x3 x13 x16 c1 c2) (funext fun x3 => funext fun x13 => funext fun x16 => funext fun c1 => funext fun c2 => l5_eq k Q n x3 x13 x16 c1 c2)))
theorem l5_congr {α : Type} (k : Nat) (Xt10 : Int → Int → D0 → D0 → Option α) (Xt10q : Int → Int → D0 → D0 → Option α) (hXt10 : ∀ (x3 x16 : Int) (c1 c2 : D0), Xt10 x3 x16 c1 c2 = Xt10q x3 x16 c1 c2) (n : Nat) (x3 x13 x16 : Int) (c1 c2 : D0) : l5 k Xt10 n x3 x13 x16 c1 c2 = l5 k Xt10q n x3 x13 x16 c1 c2 := by
  obtain rfl : Xt10 = Xt10q := by funext x3; funext x16; funext c1; funext c2; exact hXt10 x3 x16 c1 c2
  rfl
noncomputable def cd13 : Code := cR (cR (cR (cR (cR (cR (cR (cL (cL (cR (cR (cL (cL (cR (cL (cR (cB Tryd.f13))))))))))))))))
def St19 (x3 x16 : Int) (c1 c2 : D0) : St := stL 164 [(1, .ref 1 0 []), (2, .ref 2 0 []), (3, .data T1 x3), (16, .data T1 x16)] [(1, .cell T4 (.data T4 c1) false), (2, .cell T4 (.data T4 c2) false)]
def St20 (x16 : Int) (c1 c2 : D0) : St := stL 164 [(1, .ref 1 0 []), (2, .ref 2 0 []), (16, .data T1 x16)] [(1, .cell T4 (.data T4 c1) false), (2, .cell T4 (.data T4 c2) false)]
def j6 {α : Type} (Nx : Int → D0 → D0 → Option α) (x16 : Int) (c1 c2 : D0) : Option α :=
  Nx (IntKind.i64.wrap (x16 + 1)) c1 c2
theorem j6_eq {α : Type} (k : Nat) (next : St → Option α) (Q : Ex → St → Option α) (x16 : Int) (c1 c2 : D0) :
    (den C k) cd3 (lq C 6 next Q) (St20 x16 c1 c2) = j6 (fun x16 c1 c2 => next (St1 x16 c1 c2)) x16 c1 c2 := by
  have h : ∀ (D L : DT α), denJ D L Js C cd3 (lq C 6 next Q) (St20 x16 c1 c2) = j6 (fun x16 c1 c2 => next (St1 x16 c1 c2)) x16 c1 c2 := by
    intro D L; kernel_rfl
  have h2 := via (k := k) h
  exact h2
def j5 {α : Type} (Nx : Int → D0 → D0 → Option α) (x3 x16 : Int) (c1 c2 : D0) : Option α :=
  (Go.Bx.basculeref_roundOf.run x3).bind fun y3 =>
  j6 Nx x16 (List.set c1 0 (bxor .u64 (List.getD c1 0 0) y3)) c2
theorem j5_eq {α : Type} (k : Nat) (next : St → Option α) (Q : Ex → St → Option α) (x3 x16 : Int) (c1 c2 : D0) :
    (den C k) cd13 (blkQ C 1 (sq (den C k) (lp C k) Js C cd3 (lq C 6 next Q))) (St19 x3 x16 c1 c2) = j5 (fun x16 c1 c2 => next (St1 x16 c1 c2)) x3 x16 c1 c2 := by
  have h : ∀ (D L : DT α), denJ D L Js C cd13 (blkQ C 1 (sq D L Js C cd3 (lq C 6 next Q))) (St19 x3 x16 c1 c2) =
        (Go.Bx.basculeref_roundOf.run x3).bind fun y3 =>
        D cd3 (lq C 6 next Q) (St20 x16 (List.set c1 0 (bxor .u64 (List.getD c1 0 0) y3)) c2) := by
    intro D L; kernel_rfl
  have h2 := via (k := k) h
  refine h2.trans ?_
  simp only [j6_eq]
  first | rfl | kernel_rfl
theorem a2 {α : Type} (k : Nat) (next : St → Option α) (Q : Ex → St → Option α) (x3 x13 x16 : Int) (c1 c2 : D0) :
    (lp C k) cd10 (blkQ C 10 (sq (den C k) (lp C k) Js C cd13 (blkQ C 1 (sq (den C k) (lp C k) Js C cd3 (lq C 6 next Q))))) (St14 x3 x13 x16 c1 c2) = l5 k (fun x3 x16 c1 c2 => j5 (fun x16 c1 c2 => next (St1 x16 c1 c2)) x3 x16 c1 c2) k x3 x13 x16 c1 c2 :=
  (show (lp C k) cd10 (blkQ C 10 (sq (den C k) (lp C k) Js C cd13 (blkQ C 1 (sq (den C k) (lp C k) Js C cd3 (lq C 6 next Q))))) (St14 x3 x13 x16 c1 c2) = iter (rnd C k cd10 81 (blkQ C 10 (sq (den C k) (lp C k) Js C cd13 (blkQ C 1 (sq (den C k) (lp C k) Js C cd3 (lq C 6 next Q)))))) k (St14 x3 x13 x16 c1 c2) by kernel_rfl).trans ((l5_eq k (blkQ C 10 (sq (den C k) (lp C k) Js C cd13 (blkQ C 1 (sq (den C k) (lp C k) Js C cd3 (lq C 6 next Q))))) k x3 x13 x16 c1 c2).trans (l5_congr k _ _ (fun x3 x16 c1 c2 => ((show (blkQ C 10 (sq (den C k) (lp C k) Js C cd13 (blkQ C 1 (sq (den C k) (lp C k) Js C cd3 (lq C 6 next Q))))) (.exit 10) (St18 x3 x16 c1 c2) = (den C k) cd13 (blkQ C 1 (sq (den C k) (lp C k) Js C cd3 (lq C 6 next Q))) (St19 x3 x16 c1 c2) by kernel_rfl).trans (by simp only [j5_eq]))) k x3 x13 x16 c1 c2))
def j3 {α : Type} (k : Nat) (Nx : Int → D0 → D0 → Option α) (x3 x16 : Int) (c1 c2 : D0) : Option α :=
  l5 k (fun x3 x16 c1 c2 => j5 Nx x3 x16 c1 c2) k x3 0 x16 c1 c2
theorem j3_eq {α : Type} (k : Nat) (next : St → Option α) (Q : Ex → St → Option α) (x3 x16 : Int) (c1 c2 : D0) :
    (den C k) cd9 (blkQ C 1 (sq (den C k) (lp C k) Js C cd3 (lq C 6 next Q))) (St13 x3 x16 c1 c2) = j3 k (fun x16 c1 c2 => next (St1 x16 c1 c2)) x3 x16 c1 c2 := by
  have h : ∀ (D L : DT α), denJ D L Js C cd9 (blkQ C 1 (sq D L Js C cd3 (lq C 6 next Q))) (St13 x3 x16 c1 c2) =
        L cd10 (blkQ C 10 (sq D L Js C cd13 (blkQ C 1 (sq D L Js C cd3 (lq C 6 next Q))))) (St14 x3 0 x16 c1 c2) := by
    intro D L; kernel_rfl
  have h2 := via (k := k) h
  refine h2.trans ?_
  simp only [a2]
  first | rfl | kernel_rfl
theorem a3 {α : Type} (k : Nat) (next : St → Option α) (Q : Ex → St → Option α) (x3 x9 : Int) (x10 x11 : Int) (x16 x78 : Int) (c1 c2 : D0) :
    (lp C k) cd8 (blkQ C 8 (sq (den C k) (lp C k) Js C cd9 (blkQ C 1 (sq (den C k) (lp C k) Js C cd3 (lq C 6 next Q))))) (St11 x3 x9 x10 x11 x16 x78 c1 c2) = l4 k (fun x3 x16 c1 c2 => j3 k (fun x16 c1 c2 => next (St1 x16 c1 c2)) x3 x16 c1 c2) k x3 x9 x10 x11 x16 x78 c1 c2 :=
  (show (lp C k) cd8 (blkQ C 8 (sq (den C k) (lp C k) Js C cd9 (blkQ C 1 (sq (den C k) (lp C k) Js C cd3 (lq C 6 next Q))))) (St11 x3 x9 x10 x11 x16 x78 c1 c2) = iter (rnd C k cd8 63 (blkQ C 8 (sq (den C k) (lp C k) Js C cd9 (blkQ C 1 (sq (den C k) (lp C k) Js C cd3 (lq C 6 next Q)))))) k (St11 x3 x9 x10 x11 x16 x78 c1 c2) by kernel_rfl).trans ((l4_eq k (blkQ C 8 (sq (den C k) (lp C k) Js C cd9 (blkQ C 1 (sq (den C k) (lp C k) Js C cd3 (lq C 6 next Q))))) k x3 x9 x10 x11 x16 x78 c1 c2).trans (l4_congr k _ _ (fun x3 x16 c1 c2 => ((show (blkQ C 8 (sq (den C k) (lp C k) Js C cd9 (blkQ C 1 (sq (den C k) (lp C k) Js C cd3 (lq C 6 next Q))))) (.exit 8) (St12 x3 x16 c1 c2) = (den C k) cd9 (blkQ C 1 (sq (den C k) (lp C k) Js C cd3 (lq C 6 next Q))) (St13 x3 x16 c1 c2) by kernel_rfl).trans (by simp only [j3_eq]))) k x3 x9 x10 x11 x16 x78 c1 c2))
def j2 {α : Type} (k : Nat) (Nx : Int → D0 → D0 → Option α) (x3 x16 : Int) (c1 c2 : D0) : Option α :=
  l4 k (fun x3 x16 c1 c2 => j3 k Nx x3 x16 c1 c2) k x3 1 0 (List.getD c1 1 0) x16 0 c1 c2
theorem j2_eq {α : Type} (k : Nat) (next : St → Option α) (Q : Ex → St → Option α) (x3 x16 : Int) (c1 c2 : D0) :
    (den C k) cd7 (blkQ C 1 (sq (den C k) (lp C k) Js C cd3 (lq C 6 next Q))) (St10 x3 x16 c1 c2) = j2 k (fun x16 c1 c2 => next (St1 x16 c1 c2)) x3 x16 c1 c2 := by
  have h : ∀ (D L : DT α), denJ D L Js C cd7 (blkQ C 1 (sq D L Js C cd3 (lq C 6 next Q))) (St10 x3 x16 c1 c2) =
        L cd8 (blkQ C 8 (sq D L Js C cd9 (blkQ C 1 (sq D L Js C cd3 (lq C 6 next Q))))) (St11 x3 1 0 (List.getD c1 1 0) x16 0 c1 c2) := by
    intro D L; kernel_rfl
  have h2 := via (k := k) h
  refine h2.trans ?_
  simp only [a3]
  first | rfl | kernel_rfl
theorem a4 {α : Type} (k : Nat) (next : St → Option α) (Q : Ex → St → Option α) (x3 x16 x48 : Int) (c1 c2 c4 : D0) :
    (lp C k) cd4 (blkQ C 4 (sq (den C k) (lp C k) Js C cd7 (blkQ C 1 (sq (den C k) (lp C k) Js C cd3 (lq C 6 next Q))))) (St5 x3 x16 x48 c1 c2 c4) = l2 k (fun x3 x16 c1 c2 => j2 k (fun x16 c1 c2 => next (St1 x16 c1 c2)) x3 x16 c1 c2) k x3 x16 x48 c1 c2 c4 :=
  (show (lp C k) cd4 (blkQ C 4 (sq (den C k) (lp C k) Js C cd7 (blkQ C 1 (sq (den C k) (lp C k) Js C cd3 (lq C 6 next Q))))) (St5 x3 x16 x48 c1 c2 c4) = iter (rnd C k cd4 33 (blkQ C 4 (sq (den C k) (lp C k) Js C cd7 (blkQ C 1 (sq (den C k) (lp C k) Js C cd3 (lq C 6 next Q)))))) k (St5 x3 x16 x48 c1 c2 c4) by kernel_rfl).trans ((l2_eq k (blkQ C 4 (sq (den C k) (lp C k) Js C cd7 (blkQ C 1 (sq (den C k) (lp C k) Js C cd3 (lq C 6 next Q))))) k x3 x16 x48 c1 c2 c4).trans (l2_congr k _ _ (fun x3 x16 c1 c2 => ((show (blkQ C 4 (sq (den C k) (lp C k) Js C cd7 (blkQ C 1 (sq (den C k) (lp C k) Js C cd3 (lq C 6 next Q))))) (.exit 4) (St9 x3 x16 c1 c2) = (den C k) cd7 (blkQ C 1 (sq (den C k) (lp C k) Js C cd3 (lq C 6 next Q))) (St10 x3 x16 c1 c2) by kernel_rfl).trans (by simp only [j2_eq]))) k x3 x16 x48 c1 c2 c4))
def j0 {α : Type} (k : Nat) (Nx : Int → D0 → D0 → Option α) (x3 x16 : Int) (c1 c2 c4 : D0) : Option α :=
  l2 k (fun x3 x16 c1 c2 => j2 k Nx x3 x16 c1 c2) k x3 x16 0 c1 c2 c4
theorem j0_eq {α : Type} (k : Nat) (next : St → Option α) (Q : Ex → St → Option α) (x3 x16 : Int) (c1 c2 c4 : D0) :
    (den C k) cd2 (blkQ C 1 (sq (den C k) (lp C k) Js C cd3 (lq C 6 next Q))) (St4 x3 x16 c1 c2 c4) = j0 k (fun x16 c1 c2 => next (St1 x16 c1 c2)) x3 x16 c1 c2 c4 := by
  have h : ∀ (D L : DT α), denJ D L Js C cd2 (blkQ C 1 (sq D L Js C cd3 (lq C 6 next Q))) (St4 x3 x16 c1 c2 c4) =
        L cd4 (blkQ C 4 (sq D L Js C cd7 (blkQ C 1 (sq D L Js C cd3 (lq C 6 next Q))))) (St5 x3 x16 0 c1 c2 c4) := by
    intro D L; kernel_rfl
  have h2 := via (k := k) h
  refine h2.trans ?_
  simp only [a4]
  first | rfl | kernel_rfl
theorem a5 {α : Type} (k : Nat) (next : St → Option α) (Q : Ex → St → Option α) (x3 x16 x19 : Int) (c1 c2 c4 : D0) :
    (lp C k) cd1 (blkQ C 2 (sq (den C k) (lp C k) Js C cd2 (blkQ C 1 (sq (den C k) (lp C k) Js C cd3 (lq C 6 next Q))))) (St2 x3 x16 x19 c1 c2 c4) = l1 k (fun x3 x16 c1 c2 c4 => j0 k (fun x16 c1 c2 => next (St1 x16 c1 c2)) x3 x16 c1 c2 c4) k x3 x16 x19 c1 c2 c4 :=
  (show (lp C k) cd1 (blkQ C 2 (sq (den C k) (lp C k) Js C cd2 (blkQ C 1 (sq (den C k) (lp C k) Js C cd3 (lq C 6 next Q))))) (St2 x3 x16 x19 c1 c2 c4) = iter (rnd C k cd1 18 (blkQ C 2 (sq (den C k) (lp C k) Js C cd2 (blkQ C 1 (sq (den C k) (lp C k) Js C cd3 (lq C 6 next Q)))))) k (St2 x3 x16 x19 c1 c2 c4) by kernel_rfl).trans ((l1_eq k (blkQ C 2 (sq (den C k) (lp C k) Js C cd2 (blkQ C 1 (sq (den C k) (lp C k) Js C cd3 (lq C 6 next Q))))) k x3 x16 x19 c1 c2 c4).trans (l1_congr k _ _ (fun x3 x16 c1 c2 c4 => ((show (blkQ C 2 (sq (den C k) (lp C k) Js C cd2 (blkQ C 1 (sq (den C k) (lp C k) Js C cd3 (lq C 6 next Q))))) (.exit 2) (St3 x3 x16 c1 c2 c4) = (den C k) cd2 (blkQ C 1 (sq (den C k) (lp C k) Js C cd3 (lq C 6 next Q))) (St4 x3 x16 c1 c2 c4) by kernel_rfl).trans (by simp only [j0_eq]))) k x3 x16 x19 c1 c2 c4))
def St21 (c1 c2 : D0) : St := stL 164 [(1, .ref 1 0 []), (2, .ref 2 0 [])] [(1, .cell T4 (.data T4 c1) false), (2, .cell T4 (.data T4 c2) false)]
def l0s {α : Type} (k : Nat) (Nx : Int → D0 → D0 → Option α) (Xt0 : D0 → D0 → Option α) (x16 : Int) (c1 c2 : D0) : Option α :=
  if (decide (x16 < 24)) = true then
    l1 k (fun x3 x16 c1 c2 c4 => j0 k Nx x3 x16 c1 c2 c4) k x16 x16 0 c1 c2 [0, 0, 0, 0, 0]
  else
    Xt0 c1 c2
theorem l0s_eq {α : Type} (k : Nat) (next : St → Option α) (Q : Ex → St → Option α) (x16 : Int) (c1 c2 : D0) :
    rnd C k cd0 6 Q next (St1 x16 c1 c2) = l0s k (fun x16 c1 c2 => next (St1 x16 c1 c2)) (fun c1 c2 => Q (.exit 0) (St21 c1 c2)) x16 c1 c2 := by
  have h : ∀ (D L : DT α), denJ D L Js C cd0 (lq C 6 next Q) (St1 x16 c1 c2) =
        if (decide (x16 < 24)) = true then
          L cd1 (blkQ C 2 (sq D L Js C cd2 (blkQ C 1 (sq D L Js C cd3 (lq C 6 next Q))))) (St2 x16 x16 0 c1 c2 [0, 0, 0, 0, 0])
        else
          Q (.exit 0) (St21 c1 c2) := by
    intro D L; kernel_rfl
  have h2 := via (k := k) h
  refine h2.trans ?_
  simp only [a5]
  first | rfl | kernel_rfl
def l0 {α : Type} (k : Nat) (Xt0 : D0 → D0 → Option α) : Nat → Int → D0 → D0 → Option α
  | 0, _, _, _ => none
  | n + 1, x16, c1, c2 => l0s k (l0 k Xt0 n) Xt0 x16 c1 c2
theorem l0_eq {α : Type} (k : Nat) (Q : Ex → St → Option α) : ∀ (n : Nat) (x16 : Int) (c1 c2 : D0), iter (rnd C k cd0 6 Q) n (St1 x16 c1 c2) = l0 k (fun c1 c2 => Q (.exit 0) (St21 c1 c2)) n x16 c1 c2
  | 0, _, _, _ => rfl
  | n + 1, x16, c1, c2 => (iter_succ _ _ _).trans ((l0s_eq k (iter (rnd C k cd0 6 Q) n) Q x16 c1 c2).trans (congrArg (fun N => l0s k N (fun c1 c2 => Q (.exit 0) (St21 c1 c2)) x16 c1 c2) (funext fun x16 => funext fun c1 => funext fun c2 => l0_eq k Q n x16 c1 c2)))
theorem l0_congr {α : Type} (k : Nat) (Xt0 : D0 → D0 → Option α) (Xt0q : D0 → D0 → Option α) (hXt0 : ∀ (c1 c2 : D0), Xt0 c1 c2 = Xt0q c1 c2) (n : Nat) (x16 : Int) (c1 c2 : D0) : l0 k Xt0 n x16 c1 c2 = l0 k Xt0q n x16 c1 c2 := by
  obtain rfl : Xt0 = Xt0q := by funext c1; funext c2; exact hXt0 c1 c2
  rfl
noncomputable def cd14 : Code := cR (cR (cB Tryd.f13))
def St22 (c1 c2 : D0) : St := stL 164 [(1, .ref 1 0 []), (2, .ref 2 0 [])] [(1, .cell T4 (.data T4 c1) false), (2, .cell T4 (.data T4 c2) false)]
def St23 (c2 : D0) : St := stL 164 [(2, .ref 2 0 [])] [(2, .cell T4 (.data T4 c2) false)]
def j7 {α : Type} (Rt : D0 → Option α) (c1 c2 : D0) : Option α :=
  Rt c1
theorem j7_eq {α : Type} (k : Nat) (Q : Ex → St → Option α) (c1 c2 : D0) :
    (den C k) cd14 Q (St22 c1 c2) = j7 (fun c2 => Q .ret (St23 c2)) c1 c2 := by
  have h : ∀ (D L : DT α), denJ D L Js C cd14 Q (St22 c1 c2) = j7 (fun c2 => Q .ret (St23 c2)) c1 c2 := by
    intro D L; kernel_rfl
  have h2 := via (k := k) h
  exact h2
theorem a6 {α : Type} (k : Nat) (Q : Ex → St → Option α) (x16 : Int) (c1 c2 : D0) :
    (lp C k) cd0 (blkQ C 0 (sq (den C k) (lp C k) Js C cd14 Q)) (St1 x16 c1 c2) = l0 k (fun c1 c2 => j7 (fun c2 => Q .ret (St23 c2)) c1 c2) k x16 c1 c2 :=
  (show (lp C k) cd0 (blkQ C 0 (sq (den C k) (lp C k) Js C cd14 Q)) (St1 x16 c1 c2) = iter (rnd C k cd0 6 (blkQ C 0 (sq (den C k) (lp C k) Js C cd14 Q))) k (St1 x16 c1 c2) by kernel_rfl).trans ((l0_eq k (blkQ C 0 (sq (den C k) (lp C k) Js C cd14 Q)) k x16 c1 c2).trans (l0_congr k _ _ (fun c1 c2 => ((show (blkQ C 0 (sq (den C k) (lp C k) Js C cd14 Q)) (.exit 0) (St21 c1 c2) = (den C k) cd14 Q (St22 c1 c2) by kernel_rfl).trans (by simp only [j7_eq]))) k x16 c1 c2))
def top {α : Type} (k : Nat) (Rt : D0 → Option α) (x0 : D0) : Option α :=
  l0 k (fun c1 c2 => j7 Rt c1 c2) k 0 x0 (List.replicate 25 0)
theorem top_eq {α : Type} (k : Nat) (Q : Ex → St → Option α) (x0 : D0) :
    (den C k) (cB Tryd.f13) Q (St0 x0) = top k (fun c2 => Q .ret (St23 c2)) x0 := by
  have h : ∀ (D L : DT α), denJ D L Js C (cB Tryd.f13) Q (St0 x0) =
        L cd0 (blkQ C 0 (sq D L Js C cd14 Q)) (St1 0 x0 (List.replicate 25 0)) := by
    intro D L; kernel_rfl
  have h2 := via (k := k) h
  refine h2.trans ?_
  simp only [a6]
  first | rfl | kernel_rfl
def run (x0 : D0) : Option D0 := top (α := List Int) fuel (fun c2 => some c2) x0
def F : Fn := ⟨T8, T4, false, fun x => run x.1⟩
set_option maxRecDepth 100000 in
theorem con : Con Tryd.prog 13 F := by
  refine con_of_den (C := C) (ctx_ok (by kernel_rfl) (by kernel_rfl) (by kernel_rfl) (by kernel_rfl) ⟨.inl ⟨Go.Bx.math_bits_RotateLeft64.con, Go.Bx.math_bits_RotateLeft64.named⟩, ⟨.inl ⟨Go.Bx.basculeref_roundOf.con, Go.Bx.basculeref_roundOf.named⟩, trivial⟩⟩) (by kernel_rfl) Tryd.func13 (c := cB Tryd.f13) (by kernel_rfl) (by kernel_rfl) F fuel (fun x => by simp [F, spread, Tryd.ntmps13]) ?_
  intro x r h
  rw [← h]
  have h1 : start F Tryd.f13.ntmps x = (St0 x.1) := by kernel_rfl
  rw [h1]
  refine (top_eq fuel (fin C Tryd.f13.results.toList F.rs F.multi) x.1).trans ?_
  kernel_rfl
theorem named : Named Tryd.prog 13 := named_of Tryd.func13 (by kernel_rfl) (by kernel_rfl)
end Go.Bx.basculeref_Turned
namespace Go.Bx.keccak_soak
open Go Go.Proofs Go.Bx
set_option maxRecDepth 100000
set_option linter.unusedVariables false
def Js : List Nat := [7]
def C : Ctx := ⟨[(5, T9), (22, T2), (23, T4), (26, T12), (28, T13)], [], [], fnL [(12, Go.Bx.keccak_Turn.F)], noSh, [], invL [], [(2, [2]), (1, [1, 2]), (4, [1, 2, 6, 7]), (6, [1, 2, 6, 7]), (18, [1, 2])], [], [], 0, 0⟩
def St0 (x0 : D1) : St := stL 30 [(0, .data T13 x0)] []
def St1 (x6 : D0) (x7 : Int) (c1 c2 : D1) : St := stL 30 [(1, .ref 1 0 []), (2, .ref 2 0 []), (6, .data T12 x6), (7, .data T1 x7)] [(1, .cell T13 (.data T13 c1) false), (2, .cell T13 (.data T13 c2) false)]
noncomputable def cd0 : Code := cL (cL (cR (cL (cR (cB Tryd.f43)))))
def St2 (c1 c2 : D1) : St := stL 30 [(1, .ref 1 0 []), (2, .ref 2 0 [])] [(1, .cell T13 (.data T13 c1) false), (2, .cell T13 (.data T13 c2) false)]
def l0s {α : Type} (Nx : D0 → Int → D1 → D1 → Option α) (Xt0 : D1 → D1 → Option α) (x6 : D0) (x7 : Int) (c1 c2 : D1) : Option α :=
  if (decide (x7 < 136)) = true then
    if 0 ≤ x7 ∧ x7 < (136 : Int) then
      if 0 ≤ (IntKind.i64.wrap (Int.tdiv x7 8)) ∧ (IntKind.i64.wrap (Int.tdiv x7 8)) < (25 : Int) then
        if 0 ≤ (IntKind.i64.wrap (8 * (Int.tmod x7 8))) then
          if 0 ≤ (IntKind.i64.wrap (Int.tdiv x7 8)) ∧ (IntKind.i64.wrap (Int.tdiv x7 8)) < (25 : Int) then
            Nx x6 (IntKind.i64.wrap (x7 + 1)) ((List.set c1.1 (Int.toNat (IntKind.i64.wrap (Int.tdiv x7 8))) (bxor .u64 (List.getD c1.1 (Int.toNat (IntKind.i64.wrap (Int.tdiv x7 8))) 0) (shlI .u64 (IntKind.u64.wrap (List.getD x6 (Int.toNat x7) 0)) (IntKind.i64.wrap (8 * (Int.tmod x7 8)))))), c1.2) c2
          else none
        else none
      else none
    else none
  else
    Xt0 c1 c2
theorem l0s_eq {α : Type} (k : Nat) (next : St → Option α) (Q : Ex → St → Option α) (x6 : D0) (x7 : Int) (c1 c2 : D1) :
    rnd C k cd0 6 Q next (St1 x6 x7 c1 c2) = l0s (fun x6 x7 c1 c2 => next (St1 x6 x7 c1 c2)) (fun c1 c2 => Q (.exit 0) (St2 c1 c2)) x6 x7 c1 c2 := by
  have h : ∀ (D L : DT α), denJ D L Js C cd0 (lq C 6 next Q) (St1 x6 x7 c1 c2) = l0s (fun x6 x7 c1 c2 => next (St1 x6 x7 c1 c2)) (fun c1 c2 => Q (.exit 0) (St2 c1 c2)) x6 x7 c1 c2 := by
    intro D L; kernel_rfl
  have h2 := via (k := k) h
  exact h2
def l0 {α : Type} (k : Nat) (Xt0 : D1 → D1 → Option α) : Nat → D0 → Int → D1 → D1 → Option α
  | 0, _, _, _, _ => none
  | n + 1, x6, x7, c1, c2 => l0s (l0 k Xt0 n) Xt0 x6 x7 c1 c2
theorem l0_eq {α : Type} (k : Nat) (Q : Ex → St → Option α) : ∀ (n : Nat) (x6 : D0) (x7 : Int) (c1 c2 : D1), iter (rnd C k cd0 6 Q) n (St1 x6 x7 c1 c2) = l0 k (fun c1 c2 => Q (.exit 0) (St2 c1 c2)) n x6 x7 c1 c2
  | 0, _, _, _, _ => rfl
  | n + 1, x6, x7, c1, c2 => (iter_succ _ _ _).trans ((l0s_eq k (iter (rnd C k cd0 6 Q) n) Q x6 x7 c1 c2).trans (congrArg (fun N => l0s N (fun c1 c2 => Q (.exit 0) (St2 c1 c2)) x6 x7 c1 c2) (funext fun x6 => funext fun x7 => funext fun c1 => funext fun c2 => l0_eq k Q n x6 x7 c1 c2)))
theorem l0_congr {α : Type} (k : Nat) (Xt0 : D1 → D1 → Option α) (Xt0q : D1 → D1 → Option α) (hXt0 : ∀ (c1 c2 : D1), Xt0 c1 c2 = Xt0q c1 c2) (n : Nat) (x6 : D0) (x7 : Int) (c1 c2 : D1) : l0 k Xt0 n x6 x7 c1 c2 = l0 k Xt0q n x6 x7 c1 c2 := by
  obtain rfl : Xt0 = Xt0q := by funext c1; funext c2; exact hXt0 c1 c2
  rfl
noncomputable def cd1 : Code := cR (cR (cB Tryd.f43))
def St3 (c1 c2 : D1) : St := stL 30 [(1, .ref 1 0 []), (2, .ref 2 0 [])] [(1, .cell T13 (.data T13 c1) false), (2, .cell T13 (.data T13 c2) false)]
def St4 (c2 : D1) : St := stL 30 [(2, .ref 2 0 [])] [(2, .cell T13 (.data T13 c2) false)]
def j0 {α : Type} (Rt : D1 → Option α) (c1 c2 : D1) : Option α :=
  (Go.Bx.keccak_Turn.run c1.1).bind fun y1 =>
  Rt (y1, (List.replicate 136 0), 0, ())
theorem j0_eq {α : Type} (k : Nat) (Q : Ex → St → Option α) (c1 c2 : D1) :
    (den C k) cd1 Q (St3 c1 c2) = j0 (fun c2 => Q .ret (St4 c2)) c1 c2 := by
  have h : ∀ (D L : DT α), denJ D L Js C cd1 Q (St3 c1 c2) = j0 (fun c2 => Q .ret (St4 c2)) c1 c2 := by
    intro D L; kernel_rfl
  have h2 := via (k := k) h
  exact h2
theorem a0 {α : Type} (k : Nat) (Q : Ex → St → Option α) (x6 : D0) (x7 : Int) (c1 c2 : D1) :
    (lp C k) cd0 (blkQ C 0 (sq (den C k) (lp C k) Js C cd1 Q)) (St1 x6 x7 c1 c2) = l0 k (fun c1 c2 => j0 (fun c2 => Q .ret (St4 c2)) c1 c2) k x6 x7 c1 c2 :=
  (show (lp C k) cd0 (blkQ C 0 (sq (den C k) (lp C k) Js C cd1 Q)) (St1 x6 x7 c1 c2) = iter (rnd C k cd0 6 (blkQ C 0 (sq (den C k) (lp C k) Js C cd1 Q))) k (St1 x6 x7 c1 c2) by kernel_rfl).trans ((l0_eq k (blkQ C 0 (sq (den C k) (lp C k) Js C cd1 Q)) k x6 x7 c1 c2).trans (l0_congr k _ _ (fun c1 c2 => ((show (blkQ C 0 (sq (den C k) (lp C k) Js C cd1 Q)) (.exit 0) (St2 c1 c2) = (den C k) cd1 Q (St3 c1 c2) by kernel_rfl).trans (by simp only [j0_eq]))) k x6 x7 c1 c2))
def top {α : Type} (k : Nat) (Rt : D1 → Option α) (x0 : D1) : Option α :=
  l0 k (fun c1 c2 => j0 Rt c1 c2) k x0.2.1 0 x0 ((List.replicate 25 0), (List.replicate 136 0), 0, ())
theorem top_eq {α : Type} (k : Nat) (Q : Ex → St → Option α) (x0 : D1) :
    (den C k) (cB Tryd.f43) Q (St0 x0) = top k (fun c2 => Q .ret (St4 c2)) x0 := by
  have h : ∀ (D L : DT α), denJ D L Js C (cB Tryd.f43) Q (St0 x0) =
        L cd0 (blkQ C 0 (sq D L Js C cd1 Q)) (St1 x0.2.1 0 x0 ((List.replicate 25 0), (List.replicate 136 0), 0, ())) := by
    intro D L; kernel_rfl
  have h2 := via (k := k) h
  refine h2.trans ?_
  simp only [a0]
  first | rfl | kernel_rfl
def run (x0 : D1) : Option D1 := top (α := List Int × List Int × Int × Unit) fuel (fun c2 => some c2) x0
def F : Fn := ⟨T14, T13, false, fun x => run x.1⟩
set_option maxRecDepth 100000 in
theorem con : Con Tryd.prog 43 F := by
  refine con_of_den (C := C) (ctx_ok (by kernel_rfl) (by kernel_rfl) (by kernel_rfl) (by kernel_rfl) ⟨.inl ⟨Go.Bx.keccak_Turn.con, Go.Bx.keccak_Turn.named⟩, trivial⟩) (by kernel_rfl) Tryd.func43 (c := cB Tryd.f43) (by kernel_rfl) (by kernel_rfl) F fuel (fun x => by simp [F, spread, Tryd.ntmps43]) ?_
  intro x r h
  rw [← h]
  have h1 : start F Tryd.f43.ntmps x = (St0 x.1) := by kernel_rfl
  rw [h1]
  refine (top_eq fuel (fin C Tryd.f43.results.toList F.rs F.multi) x.1).trans ?_
  kernel_rfl
theorem named : Named Tryd.prog 43 := named_of Tryd.func43 (by kernel_rfl) (by kernel_rfl)
end Go.Bx.keccak_soak
namespace Go.Bx.basculeref_soaked
open Go Go.Proofs Go.Bx
set_option maxRecDepth 100000
set_option linter.unusedVariables false
def Js : List Nat := [4, 10, 11]
def C : Ctx := ⟨[(5, T9), (9, .str), (22, T2), (23, T4)], [], [], fnL [(13, Go.Bx.basculeref_Turned.F)], noSh, [], invL [], [(2, [4]), (1, [2, 4]), (4, [1, 2, 4, 5]), (7, [1, 2, 4, 5, 6]), (10, [1, 2, 4, 5, 6, 7]), (6, [1, 2, 4, 5]), (9, [1, 2, 4, 5]), (18, [1, 2, 4, 5, 6, 7]), (27, [1, 2, 4, 5, 6]), (30, [2, 4])], [], [], 0, 0⟩
def St0 (x0 x1 : D0) : St := stL 34 [(0, .data T4 x0), (1, .data .str x1)] []
def St1 (x1 : D0) (x5 : Int) (c2 c4 : D0) : St := stL 34 [(1, .data .str x1), (2, .ref 2 0 []), (4, .ref 4 0 []), (5, .data T1 x5)] [(2, .cell T4 (.data T4 c2) false), (4, .cell T4 (.data T4 c4) false)]
noncomputable def cd0 : Code := cL (cL (cR (cL (cR (cB Tryd.f45)))))
def St2 (x1 : D0) (x5 x6 x7 : Int) (c2 c4 : D0) : St := stL 34 [(1, .data .str x1), (2, .ref 2 0 []), (4, .ref 4 0 []), (5, .data T1 x5), (6, .data T2 x6), (7, .data T1 x7)] [(2, .cell T4 (.data T4 c2) false), (4, .cell T4 (.data T4 c4) false)]
noncomputable def cd1 : Code := cL (cL (cR (cL (cR (cL (cL (cR (cL (cL (cR (cL (cR (cB Tryd.f45)))))))))))))
def St3 (x1 : D0) (x5 x6 : Int) (c2 c4 : D0) : St := stL 34 [(1, .data .str x1), (2, .ref 2 0 []), (4, .ref 4 0 []), (5, .data T1 x5), (6, .data T2 x6)] [(2, .cell T4 (.data T4 c2) false), (4, .cell T4 (.data T4 c4) false)]
def l1s {α : Type} (Nx : D0 → Int → Int → Int → D0 → D0 → Option α) (Xt2 : D0 → Int → Int → D0 → D0 → Option α) (x1 : D0) (x5 x6 x7 : Int) (c2 c4 : D0) : Option α :=
  if (decide (x7 ≥ 0)) = true then
    if 0 ≤ (IntKind.i64.wrap (x5 + x7)) ∧ (IntKind.i64.wrap (x5 + x7)) < (x1.length : Int) then
      Nx x1 x5 (IntKind.u64.wrap ((IntKind.u64.wrap (x6 * 256)) + (IntKind.u64.wrap (List.getD x1 (Int.toNat (IntKind.i64.wrap (x5 + x7))) 0)))) (IntKind.i64.wrap (x7 - 1)) c2 c4
    else none
  else
    Xt2 x1 x5 x6 c2 c4
theorem l1s_eq {α : Type} (k : Nat) (next : St → Option α) (Q : Ex → St → Option α) (x1 : D0) (x5 x6 x7 : Int) (c2 c4 : D0) :
    rnd C k cd1 18 Q next (St2 x1 x5 x6 x7 c2 c4) = l1s (fun x1 x5 x6 x7 c2 c4 => next (St2 x1 x5 x6 x7 c2 c4)) (fun x1 x5 x6 c2 c4 => Q (.exit 2) (St3 x1 x5 x6 c2 c4)) x1 x5 x6 x7 c2 c4 := by
  have h : ∀ (D L : DT α), denJ D L Js C cd1 (lq C 18 next Q) (St2 x1 x5 x6 x7 c2 c4) = l1s (fun x1 x5 x6 x7 c2 c4 => next (St2 x1 x5 x6 x7 c2 c4)) (fun x1 x5 x6 c2 c4 => Q (.exit 2) (St3 x1 x5 x6 c2 c4)) x1 x5 x6 x7 c2 c4 := by
    intro D L; kernel_rfl
  have h2 := via (k := k) h
  exact h2
def l1 {α : Type} (k : Nat) (Xt2 : D0 → Int → Int → D0 → D0 → Option α) : Nat → D0 → Int → Int → Int → D0 → D0 → Option α
  | 0, _, _, _, _, _, _ => none
  | n + 1, x1, x5, x6, x7, c2, c4 => l1s (l1 k Xt2 n) Xt2 x1 x5 x6 x7 c2 c4
theorem l1_eq {α : Type} (k : Nat) (Q : Ex → St → Option α) : ∀ (n : Nat) (x1 : D0) (x5 x6 x7 : Int) (c2 c4 : D0), iter (rnd C k cd1 18 Q) n (St2 x1 x5 x6 x7 c2 c4) = l1 k (fun x1 x5 x6 c2 c4 => Q (.exit 2) (St3 x1 x5 x6 c2 c4)) n x1 x5 x6 x7 c2 c4
  | 0, _, _, _, _, _, _ => rfl
  | n + 1, x1, x5, x6, x7, c2, c4 => (iter_succ _ _ _).trans ((l1s_eq k (iter (rnd C k cd1 18 Q) n) Q x1 x5 x6 x7 c2 c4).trans (congrArg (fun N => l1s N (fun x1 x5 x6 c2 c4 => Q (.exit 2) (St3 x1 x5 x6 c2 c4)) x1 x5 x6 x7 c2 c4) (funext fun x1 => funext fun x5 => funext fun x6 => funext fun x7 => funext fun c2 => funext fun c4 => l1_eq k Q n x1 x5 x6 x7 c2 c4)))
theorem l1_congr {α : Type} (k : Nat) (Xt2 : D0 → Int → Int → D0 → D0 → Option α) (Xt2q : D0 → Int → Int → D0 → D0 → Option α) (hXt2 : ∀ (x1 : D0) (x5 x6 : Int) (c2 c4 : D0), Xt2 x1 x5 x6 c2 c4 = Xt2q x1 x5 x6 c2 c4) (n : Nat) (x1 : D0) (x5 x6 x7 : Int) (c2 c4 : D0) : l1 k Xt2 n x1 x5 x6 x7 c2 c4 = l1 k Xt2q n x1 x5 x6 x7 c2 c4 := by
  obtain rfl : Xt2 = Xt2q := by funext x1; funext x5; funext x6; funext c2; funext c4; exact hXt2 x1 x5 x6 c2 c4
  rfl
noncomputable def cd2 : Code := cR (cR (cL (cL (cR (cL (cL (cR (cL (cR (cB Tryd.f45))))))))))
noncomputable def cd3 : Code := cR (cR (cL (cL (cR (cL (cR (cB Tryd.f45)))))))
def St4 (x1 : D0) (x5 x6 : Int) (c2 c4 : D0) : St := stL 34 [(1, .data .str x1), (2, .ref 2 0 []), (4, .ref 4 0 []), (5, .data T1 x5), (6, .data T2 x6)] [(2, .cell T4 (.data T4 c2) false), (4, .cell T4 (.data T4 c4) false)]
def St5 (x1 : D0) (x5 : Int) (c2 c4 : D0) : St := stL 34 [(1, .data .str x1), (2, .ref 2 0 []), (4, .ref 4 0 []), (5, .data T1 x5)] [(2, .cell T4 (.data T4 c2) false), (4, .cell T4 (.data T4 c4) false)]
def j1 {α : Type} (Nx : D0 → Int → D0 → D0 → Option α) (x1 : D0) (x5 : Int) (c2 c4 : D0) : Option α :=
  Nx x1 (IntKind.i64.wrap (x5 + 8)) c2 c4
theorem j1_eq {α : Type} (k : Nat) (next : St → Option α) (Q : Ex → St → Option α) (x1 : D0) (x5 : Int) (c2 c4 : D0) :
    (den C k) cd3 (lq C 6 next Q) (St5 x1 x5 c2 c4) = j1 (fun x1 x5 c2 c4 => next (St1 x1 x5 c2 c4)) x1 x5 c2 c4 := by
  have h : ∀ (D L : DT α), denJ D L Js C cd3 (lq C 6 next Q) (St5 x1 x5 c2 c4) = j1 (fun x1 x5 c2 c4 => next (St1 x1 x5 c2 c4)) x1 x5 c2 c4 := by
    intro D L; kernel_rfl
  have h2 := via (k := k) h
  exact h2
def j0 {α : Type} (Nx : D0 → Int → D0 → D0 → Option α) (x1 : D0) (x5 x6 : Int) (c2 c4 : D0) : Option α :=
  if 0 ≤ (IntKind.i64.wrap (Int.tdiv x5 8)) ∧ (IntKind.i64.wrap (Int.tdiv x5 8)) < (25 : Int) then
    if 0 ≤ (IntKind.i64.wrap (Int.tdiv x5 8)) ∧ (IntKind.i64.wrap (Int.tdiv x5 8)) < (25 : Int) then
      j1 Nx x1 x5 (List.set c2 (Int.toNat (IntKind.i64.wrap (Int.tdiv x5 8))) (bxor .u64 (List.getD c2 (Int.toNat (IntKind.i64.wrap (Int.tdiv x5 8))) 0) x6)) c4
    else none
  else none
theorem j0_eq {α : Type} (k : Nat) (next : St → Option α) (Q : Ex → St → Option α) (x1 : D0) (x5 x6 : Int) (c2 c4 : D0) :
    (den C k) cd2 (blkQ C 1 (sq (den C k) (lp C k) Js C cd3 (lq C 6 next Q))) (St4 x1 x5 x6 c2 c4) = j0 (fun x1 x5 c2 c4 => next (St1 x1 x5 c2 c4)) x1 x5 x6 c2 c4 := by
  have h : ∀ (D L : DT α), denJ D L Js C cd2 (blkQ C 1 (sq D L Js C cd3 (lq C 6 next Q))) (St4 x1 x5 x6 c2 c4) =
        if 0 ≤ (IntKind.i64.wrap (Int.tdiv x5 8)) ∧ (IntKind.i64.wrap (Int.tdiv x5 8)) < (25 : Int) then
          if 0 ≤ (IntKind.i64.wrap (Int.tdiv x5 8)) ∧ (IntKind.i64.wrap (Int.tdiv x5 8)) < (25 : Int) then
            D cd3 (lq C 6 next Q) (St5 x1 x5 (List.set c2 (Int.toNat (IntKind.i64.wrap (Int.tdiv x5 8))) (bxor .u64 (List.getD c2 (Int.toNat (IntKind.i64.wrap (Int.tdiv x5 8))) 0) x6)) c4)
          else none
        else none := by
    intro D L; kernel_rfl
  have h2 := via (k := k) h
  refine h2.trans ?_
  simp only [j1_eq]
  first | rfl | kernel_rfl
theorem a0 {α : Type} (k : Nat) (next : St → Option α) (Q : Ex → St → Option α) (x1 : D0) (x5 x6 x7 : Int) (c2 c4 : D0) :
    (lp C k) cd1 (blkQ C 2 (sq (den C k) (lp C k) Js C cd2 (blkQ C 1 (sq (den C k) (lp C k) Js C cd3 (lq C 6 next Q))))) (St2 x1 x5 x6 x7 c2 c4) = l1 k (fun x1 x5 x6 c2 c4 => j0 (fun x1 x5 c2 c4 => next (St1 x1 x5 c2 c4)) x1 x5 x6 c2 c4) k x1 x5 x6 x7 c2 c4 :=
  (show (lp C k) cd1 (blkQ C 2 (sq (den C k) (lp C k) Js C cd2 (blkQ C 1 (sq (den C k) (lp C k) Js C cd3 (lq C 6 next Q))))) (St2 x1 x5 x6 x7 c2 c4) = iter (rnd C k cd1 18 (blkQ C 2 (sq (den C k) (lp C k) Js C cd2 (blkQ C 1 (sq (den C k) (lp C k) Js C cd3 (lq C 6 next Q)))))) k (St2 x1 x5 x6 x7 c2 c4) by kernel_rfl).trans ((l1_eq k (blkQ C 2 (sq (den C k) (lp C k) Js C cd2 (blkQ C 1 (sq (den C k) (lp C k) Js C cd3 (lq C 6 next Q))))) k x1 x5 x6 x7 c2 c4).trans (l1_congr k _ _ (fun x1 x5 x6 c2 c4 => ((show (blkQ C 2 (sq (den C k) (lp C k) Js C cd2 (blkQ C 1 (sq (den C k) (lp C k) Js C cd3 (lq C 6 next Q))))) (.exit 2) (St3 x1 x5 x6 c2 c4) = (den C k) cd2 (blkQ C 1 (sq (den C k) (lp C k) Js C cd3 (lq C 6 next Q))) (St4 x1 x5 x6 c2 c4) by kernel_rfl).trans (by simp only [j0_eq]))) k x1 x5 x6 x7 c2 c4))
def St6 (c2 c4 : D0) : St := stL 34 [(2, .ref 2 0 []), (4, .ref 4 0 [])] [(2, .cell T4 (.data T4 c2) false), (4, .cell T4 (.data T4 c4) false)]
def l0s {α : Type} (k : Nat) (Nx : D0 → Int → D0 → D0 → Option α) (Xt0 : D0 → D0 → Option α) (x1 : D0) (x5 : Int) (c2 c4 : D0) : Option α :=
  if (decide (x5 < 136)) = true then
    l1 k (fun x1 x5 x6 c2 c4 => j0 Nx x1 x5 x6 c2 c4) k x1 x5 0 7 c2 c4
  else
    Xt0 c2 c4
theorem l0s_eq {α : Type} (k : Nat) (next : St → Option α) (Q : Ex → St → Option α) (x1 : D0) (x5 : Int) (c2 c4 : D0) :
    rnd C k cd0 6 Q next (St1 x1 x5 c2 c4) = l0s k (fun x1 x5 c2 c4 => next (St1 x1 x5 c2 c4)) (fun c2 c4 => Q (.exit 0) (St6 c2 c4)) x1 x5 c2 c4 := by
  have h : ∀ (D L : DT α), denJ D L Js C cd0 (lq C 6 next Q) (St1 x1 x5 c2 c4) =
        if (decide (x5 < 136)) = true then
          L cd1 (blkQ C 2 (sq D L Js C cd2 (blkQ C 1 (sq D L Js C cd3 (lq C 6 next Q))))) (St2 x1 x5 0 7 c2 c4)
        else
          Q (.exit 0) (St6 c2 c4) := by
    intro D L; kernel_rfl
  have h2 := via (k := k) h
  refine h2.trans ?_
  simp only [a0]
  first | rfl | kernel_rfl
def l0 {α : Type} (k : Nat) (Xt0 : D0 → D0 → Option α) : Nat → D0 → Int → D0 → D0 → Option α
  | 0, _, _, _, _ => none
  | n + 1, x1, x5, c2, c4 => l0s k (l0 k Xt0 n) Xt0 x1 x5 c2 c4
theorem l0_eq {α : Type} (k : Nat) (Q : Ex → St → Option α) : ∀ (n : Nat) (x1 : D0) (x5 : Int) (c2 c4 : D0), iter (rnd C k cd0 6 Q) n (St1 x1 x5 c2 c4) = l0 k (fun c2 c4 => Q (.exit 0) (St6 c2 c4)) n x1 x5 c2 c4
  | 0, _, _, _, _ => rfl
  | n + 1, x1, x5, c2, c4 => (iter_succ _ _ _).trans ((l0s_eq k (iter (rnd C k cd0 6 Q) n) Q x1 x5 c2 c4).trans (congrArg (fun N => l0s k N (fun c2 c4 => Q (.exit 0) (St6 c2 c4)) x1 x5 c2 c4) (funext fun x1 => funext fun x5 => funext fun c2 => funext fun c4 => l0_eq k Q n x1 x5 c2 c4)))
theorem l0_congr {α : Type} (k : Nat) (Xt0 : D0 → D0 → Option α) (Xt0q : D0 → D0 → Option α) (hXt0 : ∀ (c2 c4 : D0), Xt0 c2 c4 = Xt0q c2 c4) (n : Nat) (x1 : D0) (x5 : Int) (c2 c4 : D0) : l0 k Xt0 n x1 x5 c2 c4 = l0 k Xt0q n x1 x5 c2 c4 := by
  obtain rfl : Xt0 = Xt0q := by funext c2; funext c4; exact hXt0 c2 c4
  rfl
noncomputable def cd4 : Code := cR (cR (cB Tryd.f45))
def St7 (c2 c4 : D0) : St := stL 34 [(2, .ref 2 0 []), (4, .ref 4 0 [])] [(2, .cell T4 (.data T4 c2) false), (4, .cell T4 (.data T4 c4) false)]
def St8 (c4 : D0) : St := stL 34 [(4, .ref 4 0 [])] [(4, .cell T4 (.data T4 c4) false)]
def j2 {α : Type} (Rt : D0 → Option α) (c2 c4 : D0) : Option α :=
  (Go.Bx.basculeref_Turned.run c2).bind fun y1 =>
  Rt y1
theorem j2_eq {α : Type} (k : Nat) (Q : Ex → St → Option α) (c2 c4 : D0) :
    (den C k) cd4 Q (St7 c2 c4) = j2 (fun c4 => Q .ret (St8 c4)) c2 c4 := by
  have h : ∀ (D L : DT α), denJ D L Js C cd4 Q (St7 c2 c4) = j2 (fun c4 => Q .ret (St8 c4)) c2 c4 := by
    intro D L; kernel_rfl
  have h2 := via (k := k) h
  exact h2
theorem a1 {α : Type} (k : Nat) (Q : Ex → St → Option α) (x1 : D0) (x5 : Int) (c2 c4 : D0) :
    (lp C k) cd0 (blkQ C 0 (sq (den C k) (lp C k) Js C cd4 Q)) (St1 x1 x5 c2 c4) = l0 k (fun c2 c4 => j2 (fun c4 => Q .ret (St8 c4)) c2 c4) k x1 x5 c2 c4 :=
  (show (lp C k) cd0 (blkQ C 0 (sq (den C k) (lp C k) Js C cd4 Q)) (St1 x1 x5 c2 c4) = iter (rnd C k cd0 6 (blkQ C 0 (sq (den C k) (lp C k) Js C cd4 Q))) k (St1 x1 x5 c2 c4) by kernel_rfl).trans ((l0_eq k (blkQ C 0 (sq (den C k) (lp C k) Js C cd4 Q)) k x1 x5 c2 c4).trans (l0_congr k _ _ (fun c2 c4 => ((show (blkQ C 0 (sq (den C k) (lp C k) Js C cd4 Q)) (.exit 0) (St6 c2 c4) = (den C k) cd4 Q (St7 c2 c4) by kernel_rfl).trans (by simp only [j2_eq]))) k x1 x5 c2 c4))
def top {α : Type} (k : Nat) (Rt : D0 → Option α) (x0 x1 : D0) : Option α :=
  l0 k (fun c2 c4 => j2 Rt c2 c4) k x1 0 x0 (List.replicate 25 0)
theorem top_eq {α : Type} (k : Nat) (Q : Ex → St → Option α) (x0 x1 : D0) :
    (den C k) (cB Tryd.f45) Q (St0 x0 x1) = top k (fun c4 => Q .ret (St8 c4)) x0 x1 := by
  have h : ∀ (D L : DT α), denJ D L Js C (cB Tryd.f45) Q (St0 x0 x1) =
        L cd0 (blkQ C 0 (sq D L Js C cd4 Q)) (St1 x1 0 x0 (List.replicate 25 0)) := by
    intro D L; kernel_rfl
  have h2 := via (k := k) h
  refine h2.trans ?_
  simp only [a1]
  first | rfl | kernel_rfl
def run (x0 x1 : D0) : Option D0 := top (α := List Int) fuel (fun c4 => some c4) x0 x1
def F : Fn := ⟨T17, T4, false, fun x => run x.1 x.2.1⟩
set_option maxRecDepth 100000 in
theorem con : Con Tryd.prog 45 F := by
  refine con_of_den (C := C) (ctx_ok (by kernel_rfl) (by kernel_rfl) (by kernel_rfl) (by kernel_rfl) ⟨.inl ⟨Go.Bx.basculeref_Turned.con, Go.Bx.basculeref_Turned.named⟩, trivial⟩) (by kernel_rfl) Tryd.func45 (c := cB Tryd.f45) (by kernel_rfl) (by kernel_rfl) F fuel (fun x => by simp [F, spread, Tryd.ntmps45]) ?_
  intro x r h
  rw [← h]
  have h1 : start F Tryd.f45.ntmps x = (St0 x.1 x.2.1) := by kernel_rfl
  rw [h1]
  refine (top_eq fuel (fin C Tryd.f45.results.toList F.rs F.multi) x.1 x.2.1).trans ?_
  kernel_rfl
theorem named : Named Tryd.prog 45 := named_of Tryd.func45 (by kernel_rfl) (by kernel_rfl)
end Go.Bx.basculeref_soaked
namespace Go.Bx.keccak_check
open Go Go.Proofs Go.Bx
set_option maxRecDepth 100000
set_option linter.unusedVariables false
def Js : List Nat := [10]
def C : Ctx := ⟨[(3, T1), (5, T9), (26, T12), (28, T13), (29, T10), (30, T1)], [], [], fnL [], noSh, [], invL [], [(2, [2]), (1, []), (4, [16, 17, 18]), (12, [16, 17, 18]), (27, [])], [], [], 0, 0⟩
def St0 (x0 : D1) : St := stL 25 [(0, .data T13 x0)] []
def St1 (x2 : Int) : St := stL 25 [(2, .data T1 x2)] []
def St2 (x16l x17 x18 : Int) (c1 : D1) : St := stL 25 [(16, .view 1 [.fld 1] T9 136 x16l 136), (17, .data T1 x17), (18, .data T1 x18)] [(1, .cell T13 (.data T13 c1) false)]
noncomputable def cd0 : Code := cL (cL (cR (cL (cR (cR (cB Tryd.f42))))))
def St3 : St := stL 25 [] []
def l0s {α : Type} (Nx : Int → Int → Int → D1 → Option α) (Rt : Int → Option α) (Xt0 : Option α) (x16l x17 x18 : Int) (c1 : D1) : Option α :=
  if (decide (x18 < x17)) = true then
    if 0 ≤ x18 ∧ x18 < (136 - x16l) then
      if ((List.getD c1.2.1 (Int.toNat (x16l + x18)) 0) != 0) = true then
        Rt 12
      else
        Nx x16l x17 (IntKind.i64.wrap (x18 + 1)) c1
    else none
  else
    Xt0
theorem l0s_eq {α : Type} (k : Nat) (next : St → Option α) (Q : Ex → St → Option α) (x16l x17 x18 : Int) (c1 : D1) :
    rnd C k cd0 12 Q next (St2 x16l x17 x18 c1) = l0s (fun x16l x17 x18 c1 => next (St2 x16l x17 x18 c1)) (fun x2 => Q .ret (St1 x2)) (Q (.exit 0) St3) x16l x17 x18 c1 := by
  have h : ∀ (D L : DT α), denJ D L Js C cd0 (lq C 12 next Q) (St2 x16l x17 x18 c1) = l0s (fun x16l x17 x18 c1 => next (St2 x16l x17 x18 c1)) (fun x2 => Q .ret (St1 x2)) (Q (.exit 0) St3) x16l x17 x18 c1 := by
    intro D L; kernel_rfl
  have h2 := via (k := k) h
  exact h2
def l0 {α : Type} (k : Nat) (Rt : Int → Option α) (Xt0 : Option α) : Nat → Int → Int → Int → D1 → Option α
  | 0, _, _, _, _ => none
  | n + 1, x16l, x17, x18, c1 => l0s (l0 k Rt Xt0 n) Rt Xt0 x16l x17 x18 c1
theorem l0_eq {α : Type} (k : Nat) (Q : Ex → St → Option α) : ∀ (n : Nat) (x16l x17 x18 : Int) (c1 : D1), iter (rnd C k cd0 12 Q) n (St2 x16l x17 x18 c1) = l0 k (fun x2 => Q .ret (St1 x2)) (Q (.exit 0) St3) n x16l x17 x18 c1
  | 0, _, _, _, _ => rfl
  | n + 1, x16l, x17, x18, c1 => (iter_succ _ _ _).trans ((l0s_eq k (iter (rnd C k cd0 12 Q) n) Q x16l x17 x18 c1).trans (congrArg (fun N => l0s N (fun x2 => Q .ret (St1 x2)) (Q (.exit 0) St3) x16l x17 x18 c1) (funext fun x16l => funext fun x17 => funext fun x18 => funext fun c1 => l0_eq k Q n x16l x17 x18 c1)))
theorem l0_congr {α : Type} (k : Nat) (Rt : Int → Option α) (Xt0 : Option α) (Rtq : Int → Option α) (Xt0q : Option α) (hRt : ∀ (x2 : Int), Rt x2 = Rtq x2) (hXt0 : Xt0 = Xt0q) (n : Nat) (x16l x17 x18 : Int) (c1 : D1) : l0 k Rt Xt0 n x16l x17 x18 c1 = l0 k Rtq Xt0q n x16l x17 x18 c1 := by
  obtain rfl : Rt = Rtq := by funext x2; exact hRt x2
  obtain rfl : Xt0 = Xt0q := hXt0
  rfl
noncomputable def cd1 : Code := cR (cR (cR (cB Tryd.f42)))
def St4 : St := stL 25 [] []
def j0 {α : Type} (Rt : Int → Option α) : Option α :=
  Rt 0
theorem j0_eq {α : Type} (k : Nat) (Q : Ex → St → Option α) :
    (den C k) cd1 Q St4 = j0 (fun x2 => Q .ret (St1 x2)) := by
  have h : ∀ (D L : DT α), denJ D L Js C cd1 Q St4 = j0 (fun x2 => Q .ret (St1 x2)) := by
    intro D L; kernel_rfl
  have h2 := via (k := k) h
  exact h2
theorem a0 {α : Type} (k : Nat) (Q : Ex → St → Option α) (x16l x17 x18 : Int) (c1 : D1) :
    (lp C k) cd0 (blkQ C 0 (sq (den C k) (lp C k) Js C cd1 Q)) (St2 x16l x17 x18 c1) = l0 k (fun x2 => (fun x2 => Q .ret (St1 x2)) x2) (j0 (fun x2 => Q .ret (St1 x2))) k x16l x17 x18 c1 :=
  (show (lp C k) cd0 (blkQ C 0 (sq (den C k) (lp C k) Js C cd1 Q)) (St2 x16l x17 x18 c1) = iter (rnd C k cd0 12 (blkQ C 0 (sq (den C k) (lp C k) Js C cd1 Q))) k (St2 x16l x17 x18 c1) by kernel_rfl).trans ((l0_eq k (blkQ C 0 (sq (den C k) (lp C k) Js C cd1 Q)) k x16l x17 x18 c1).trans (l0_congr k _ _ _ _ (fun x2 => (show (blkQ C 0 (sq (den C k) (lp C k) Js C cd1 Q)) .ret (St1 x2) = Q .ret (St1 x2) by kernel_rfl)) ((show (blkQ C 0 (sq (den C k) (lp C k) Js C cd1 Q)) (.exit 0) St3 = (den C k) cd1 Q St4 by kernel_rfl).trans (by simp only [j0_eq])) k x16l x17 x18 c1))
def top {α : Type} (k : Nat) (Rt : Int → Option α) (x0 : D1) : Option α :=
  if (cond (decide (x0.2.2.1 < 0)) true (decide (x0.2.2.1 ≥ 136))) = true then
    Rt 12
  else
    if 0 ≤ x0.2.2.1 ∧ x0.2.2.1 ≤ (136 : Int) ∧ (136 : Int) ≤ (136 : Int) then
      l0 k (fun x2 => Rt x2) (j0 Rt) k x0.2.2.1 ((cutL x0.2.1 x0.2.2.1 136).length : Int) 0 x0
    else none
theorem top_eq {α : Type} (k : Nat) (Q : Ex → St → Option α) (x0 : D1) :
    (den C k) (cB Tryd.f42) Q (St0 x0) = top k (fun x2 => Q .ret (St1 x2)) x0 := by
  have h : ∀ (D L : DT α), denJ D L Js C (cB Tryd.f42) Q (St0 x0) =
        if (cond (decide (x0.2.2.1 < 0)) true (decide (x0.2.2.1 ≥ 136))) = true then
          Q .ret (St1 12)
        else
          if 0 ≤ x0.2.2.1 ∧ x0.2.2.1 ≤ (136 : Int) ∧ (136 : Int) ≤ (136 : Int) then
            L cd0 (blkQ C 0 (sq D L Js C cd1 Q)) (St2 x0.2.2.1 ((cutL x0.2.1 x0.2.2.1 136).length : Int) 0 x0)
          else none := by
    intro D L; kernel_rfl
  have h2 := via (k := k) h
  refine h2.trans ?_
  simp only [a0]
  first | rfl | kernel_rfl
def run (x0 : D1) : Option (Int) := top (α := Int) fuel (fun x2 => some x2) x0
def F : Fn := ⟨T14, T1, false, fun x => run x.1⟩
set_option maxRecDepth 100000 in
theorem con : Con Tryd.prog 42 F := by
  refine con_of_den (C := C) (ctx_ok (by kernel_rfl) (by kernel_rfl) (by kernel_rfl) (by kernel_rfl) trivial) (by kernel_rfl) Tryd.func42 (c := cB Tryd.f42) (by kernel_rfl) (by kernel_rfl) F fuel (fun x => by simp [F, spread, Tryd.ntmps42]) ?_
  intro x r h
  rw [← h]
  have h1 : start F Tryd.f42.ntmps x = (St0 x.1) := by kernel_rfl
  rw [h1]
  refine (top_eq fuel (fin C Tryd.f42.results.toList F.rs F.multi) x.1).trans ?_
  kernel_rfl
theorem named : Named Tryd.prog 42 := named_of Tryd.func42 (by kernel_rfl) (by kernel_rfl)
end Go.Bx.keccak_check
namespace Go.Bx.basculeref_badSponge
open Go Go.Proofs Go.Bx
set_option maxRecDepth 100000
set_option linter.unusedVariables false
def Js : List Nat := [9]
def C : Ctx := ⟨[(3, T1), (4, .bool), (5, T9), (26, T12), (28, T13)], [], [], fnL [], noSh, [], invL [], [(2, [2]), (1, []), (4, [1, 3]), (12, [1, 3]), (24, [])], [], [], 0, 0⟩
def St0 (x0 : D1) : St := stL 23 [(0, .data T13 x0)] []
def St1 (x2 : Bool) : St := stL 23 [(2, .data .bool x2)] []
def St2 (x3 : Int) (c1 : D1) : St := stL 23 [(1, .ref 1 0 []), (3, .data T1 x3)] [(1, .cell T13 (.data T13 c1) false)]
noncomputable def cd0 : Code := cL (cL (cR (cL (cR (cR (cB Tryd.f44))))))
def St3 : St := stL 23 [] []
def l0s {α : Type} (Nx : Int → D1 → Option α) (Rt : Bool → Option α) (Xt0 : Option α) (x3 : Int) (c1 : D1) : Option α :=
  if (decide (x3 < 136)) = true then
    if 0 ≤ x3 ∧ x3 < (136 : Int) then
      if ((List.getD c1.2.1 (Int.toNat x3) 0) != 0) = true then
        Rt true
      else
        Nx (IntKind.i64.wrap (x3 + 1)) c1
    else none
  else
    Xt0
theorem l0s_eq {α : Type} (k : Nat) (next : St → Option α) (Q : Ex → St → Option α) (x3 : Int) (c1 : D1) :
    rnd C k cd0 12 Q next (St2 x3 c1) = l0s (fun x3 c1 => next (St2 x3 c1)) (fun x2 => Q .ret (St1 x2)) (Q (.exit 0) St3) x3 c1 := by
  have h : ∀ (D L : DT α), denJ D L Js C cd0 (lq C 12 next Q) (St2 x3 c1) = l0s (fun x3 c1 => next (St2 x3 c1)) (fun x2 => Q .ret (St1 x2)) (Q (.exit 0) St3) x3 c1 := by
    intro D L; kernel_rfl
  have h2 := via (k := k) h
  exact h2
def l0 {α : Type} (k : Nat) (Rt : Bool → Option α) (Xt0 : Option α) : Nat → Int → D1 → Option α
  | 0, _, _ => none
  | n + 1, x3, c1 => l0s (l0 k Rt Xt0 n) Rt Xt0 x3 c1
theorem l0_eq {α : Type} (k : Nat) (Q : Ex → St → Option α) : ∀ (n : Nat) (x3 : Int) (c1 : D1), iter (rnd C k cd0 12 Q) n (St2 x3 c1) = l0 k (fun x2 => Q .ret (St1 x2)) (Q (.exit 0) St3) n x3 c1
  | 0, _, _ => rfl
  | n + 1, x3, c1 => (iter_succ _ _ _).trans ((l0s_eq k (iter (rnd C k cd0 12 Q) n) Q x3 c1).trans (congrArg (fun N => l0s N (fun x2 => Q .ret (St1 x2)) (Q (.exit 0) St3) x3 c1) (funext fun x3 => funext fun c1 => l0_eq k Q n x3 c1)))
theorem l0_congr {α : Type} (k : Nat) (Rt : Bool → Option α) (Xt0 : Option α) (Rtq : Bool → Option α) (Xt0q : Option α) (hRt : ∀ (x2 : Bool), Rt x2 = Rtq x2) (hXt0 : Xt0 = Xt0q) (n : Nat) (x3 : Int) (c1 : D1) : l0 k Rt Xt0 n x3 c1 = l0 k Rtq Xt0q n x3 c1 := by
  obtain rfl : Rt = Rtq := by funext x2; exact hRt x2
  obtain rfl : Xt0 = Xt0q := hXt0
  rfl
noncomputable def cd1 : Code := cR (cR (cR (cB Tryd.f44)))
def St4 : St := stL 23 [] []
def j0 {α : Type} (Rt : Bool → Option α) : Option α :=
  Rt false
theorem j0_eq {α : Type} (k : Nat) (Q : Ex → St → Option α) :
    (den C k) cd1 Q St4 = j0 (fun x2 => Q .ret (St1 x2)) := by
  have h : ∀ (D L : DT α), denJ D L Js C cd1 Q St4 = j0 (fun x2 => Q .ret (St1 x2)) := by
    intro D L; kernel_rfl
  have h2 := via (k := k) h
  exact h2
theorem a0 {α : Type} (k : Nat) (Q : Ex → St → Option α) (x3 : Int) (c1 : D1) :
    (lp C k) cd0 (blkQ C 0 (sq (den C k) (lp C k) Js C cd1 Q)) (St2 x3 c1) = l0 k (fun x2 => (fun x2 => Q .ret (St1 x2)) x2) (j0 (fun x2 => Q .ret (St1 x2))) k x3 c1 :=
  (show (lp C k) cd0 (blkQ C 0 (sq (den C k) (lp C k) Js C cd1 Q)) (St2 x3 c1) = iter (rnd C k cd0 12 (blkQ C 0 (sq (den C k) (lp C k) Js C cd1 Q))) k (St2 x3 c1) by kernel_rfl).trans ((l0_eq k (blkQ C 0 (sq (den C k) (lp C k) Js C cd1 Q)) k x3 c1).trans (l0_congr k _ _ _ _ (fun x2 => (show (blkQ C 0 (sq (den C k) (lp C k) Js C cd1 Q)) .ret (St1 x2) = Q .ret (St1 x2) by kernel_rfl)) ((show (blkQ C 0 (sq (den C k) (lp C k) Js C cd1 Q)) (.exit 0) St3 = (den C k) cd1 Q St4 by kernel_rfl).trans (by simp only [j0_eq])) k x3 c1))
def top {α : Type} (k : Nat) (Rt : Bool → Option α) (x0 : D1) : Option α :=
  if (cond (decide (x0.2.2.1 < 0)) true (decide (x0.2.2.1 > 135))) = true then
    Rt true
  else
    l0 k (fun x2 => Rt x2) (j0 Rt) k x0.2.2.1 x0
theorem top_eq {α : Type} (k : Nat) (Q : Ex → St → Option α) (x0 : D1) :
    (den C k) (cB Tryd.f44) Q (St0 x0) = top k (fun x2 => Q .ret (St1 x2)) x0 := by
  have h : ∀ (D L : DT α), denJ D L Js C (cB Tryd.f44) Q (St0 x0) =
        if (cond (decide (x0.2.2.1 < 0)) true (decide (x0.2.2.1 > 135))) = true then
          Q .ret (St1 true)
        else
          L cd0 (blkQ C 0 (sq D L Js C cd1 Q)) (St2 x0.2.2.1 x0) := by
    intro D L; kernel_rfl
  have h2 := via (k := k) h
  refine h2.trans ?_
  simp only [a0]
  first | rfl | kernel_rfl
def run (x0 : D1) : Option (Bool) := top (α := Bool) fuel (fun x2 => some x2) x0
def F : Fn := ⟨T14, .bool, false, fun x => run x.1⟩
set_option maxRecDepth 100000 in
theorem con : Con Tryd.prog 44 F := by
  refine con_of_den (C := C) (ctx_ok (by kernel_rfl) (by kernel_rfl) (by kernel_rfl) (by kernel_rfl) trivial) (by kernel_rfl) Tryd.func44 (c := cB Tryd.f44) (by kernel_rfl) (by kernel_rfl) F fuel (fun x => by simp [F, spread, Tryd.ntmps44]) ?_
  intro x r h
  rw [← h]
  have h1 : start F Tryd.f44.ntmps x = (St0 x.1) := by kernel_rfl
  rw [h1]
  refine (top_eq fuel (fin C Tryd.f44.results.toList F.rs F.multi) x.1).trans ?_
  kernel_rfl
theorem named : Named Tryd.prog 44 := named_of Tryd.func44 (by kernel_rfl) (by kernel_rfl)
end Go.Bx.basculeref_badSponge
namespace Go.Bx.keccak_Add
open Go Go.Proofs Go.Bx
set_option maxRecDepth 100000
set_option linter.unusedVariables false
def Js : List Nat := [12, 13]
def C : Ctx := ⟨[(3, T1), (5, T9), (26, T12), (28, T13), (29, T10), (30, T1)], [], [], fnL [(42, Go.Bx.keccak_check.F), (43, Go.Bx.keccak_soak.F)], noSh, [], invL [], [(2, [4, 5]), (1, [2, 4]), (4, [2, 4, 15, 16, 17]), (15, [2, 4, 15, 16, 17]), (33, [2, 4, 15, 16, 17]), (36, [2, 4])], [], [], 0, 0⟩
def St0 (x0 : D1) (x1 : D0) : St := stL 37 [(0, .data T13 x0), (1, .data T10 x1)] []
def St1 (x5 : Int) (c4 : D1) : St := stL 37 [(4, .ref 4 0 []), (5, .data T1 x5)] [(4, .cell T13 (.data T13 c4) false)]
def St2 (x15 : D0) (x16 x17 : Int) (c2 c4 : D1) : St := stL 37 [(2, .ref 2 0 []), (4, .ref 4 0 []), (15, .data T10 x15), (16, .data T1 x16), (17, .data T1 x17)] [(2, .cell T13 (.data T13 c2) false), (4, .cell T13 (.data T13 c4) false)]
noncomputable def cd0 : Code := cL (cL (cR (cL (cR (cR (cB Tryd.f14))))))
def St3 (x15 : D0) (x16 x17 : Int) (c2 c4 : D1) : St := stL 37 [(2, .ref 2 0 []), (4, .ref 4 0 []), (15, .data T10 x15), (16, .data T1 x16), (17, .data T1 x17)] [(2, .cell T13 (.data T13 c2) false), (4, .cell T13 (.data T13 c4) false)]
noncomputable def cd1 : Code := cR (cR (cR (cL (cL (cR (cL (cR (cR (cB Tryd.f14)))))))))
def j0 {α : Type} (Nx : D0 → Int → Int → D1 → D1 → Option α) (x15 : D0) (x16 x17 : Int) (c2 c4 : D1) : Option α :=
  Nx x15 x16 (IntKind.i64.wrap (x17 + 1)) c2 c4
theorem j0_eq {α : Type} (k : Nat) (next : St → Option α) (Q : Ex → St → Option α) (x15 : D0) (x16 x17 : Int) (c2 c4 : D1) :
    (den C k) cd1 (lq C 15 next Q) (St3 x15 x16 x17 c2 c4) = j0 (fun x15 x16 x17 c2 c4 => next (St2 x15 x16 x17 c2 c4)) x15 x16 x17 c2 c4 := by
  have h : ∀ (D L : DT α), denJ D L Js C cd1 (lq C 15 next Q) (St3 x15 x16 x17 c2 c4) = j0 (fun x15 x16 x17 c2 c4 => next (St2 x15 x16 x17 c2 c4)) x15 x16 x17 c2 c4 := by
    intro D L; kernel_rfl
  have h2 := via (k := k) h
  exact h2
def St4 (c2 c4 : D1) : St := stL 37 [(2, .ref 2 0 []), (4, .ref 4 0 [])] [(2, .cell T13 (.data T13 c2) false), (4, .cell T13 (.data T13 c4) false)]
def l0s {α : Type} (Nx : D0 → Int → Int → D1 → D1 → Option α) (Xt0 : D1 → D1 → Option α) (x15 : D0) (x16 x17 : Int) (c2 c4 : D1) : Option α :=
  if (decide (x17 < x16)) = true then
    if 0 ≤ x17 ∧ x17 < (x15.length : Int) then
      if 0 ≤ c2.2.2.1 ∧ c2.2.2.1 < (136 : Int) then
        if ((IntKind.i64.wrap (c2.2.2.1 + 1)) == 136) = true then
          (Go.Bx.keccak_soak.run (c2.1, (List.set c2.2.1 (Int.toNat c2.2.2.1) (List.getD x15 (Int.toNat x17) 0)), (IntKind.i64.wrap (c2.2.2.1 + 1)), c2.2.2.2)).bind fun y2 =>
          j0 Nx x15 x16 x17 y2 c4
        else
          j0 Nx x15 x16 x17 (c2.1, (List.set c2.2.1 (Int.toNat c2.2.2.1) (List.getD x15 (Int.toNat x17) 0)), (IntKind.i64.wrap (c2.2.2.1 + 1)), c2.2.2.2) c4
      else none
    else none
  else
    Xt0 c2 c4
theorem l0s_eq {α : Type} (k : Nat) (next : St → Option α) (Q : Ex → St → Option α) (x15 : D0) (x16 x17 : Int) (c2 c4 : D1) :
    rnd C k cd0 15 Q next (St2 x15 x16 x17 c2 c4) = l0s (fun x15 x16 x17 c2 c4 => next (St2 x15 x16 x17 c2 c4)) (fun c2 c4 => Q (.exit 0) (St4 c2 c4)) x15 x16 x17 c2 c4 := by
  have h : ∀ (D L : DT α), denJ D L Js C cd0 (lq C 15 next Q) (St2 x15 x16 x17 c2 c4) =
        if (decide (x17 < x16)) = true then
          if 0 ≤ x17 ∧ x17 < (x15.length : Int) then
            if 0 ≤ c2.2.2.1 ∧ c2.2.2.1 < (136 : Int) then
              if ((IntKind.i64.wrap (c2.2.2.1 + 1)) == 136) = true then
                (Go.Bx.keccak_soak.run (c2.1, (List.set c2.2.1 (Int.toNat c2.2.2.1) (List.getD x15 (Int.toNat x17) 0)), (IntKind.i64.wrap (c2.2.2.1 + 1)), c2.2.2.2)).bind fun y2 =>
                D cd1 (lq C 15 next Q) (St3 x15 x16 x17 y2 c4)
              else
                D cd1 (lq C 15 next Q) (St3 x15 x16 x17 (c2.1, (List.set c2.2.1 (Int.toNat c2.2.2.1) (List.getD x15 (Int.toNat x17) 0)), (IntKind.i64.wrap (c2.2.2.1 + 1)), c2.2.2.2) c4)
            else none
          else none
        else
          Q (.exit 0) (St4 c2 c4) := by
    intro D L; kernel_rfl
  have h2 := via (k := k) h
  refine h2.trans ?_
  simp only [j0_eq]
  first | rfl | kernel_rfl
def l0 {α : Type} (k : Nat) (Xt0 : D1 → D1 → Option α) : Nat → D0 → Int → Int → D1 → D1 → Option α
  | 0, _, _, _, _, _ => none
  | n + 1, x15, x16, x17, c2, c4 => l0s (l0 k Xt0 n) Xt0 x15 x16 x17 c2 c4
theorem l0_eq {α : Type} (k : Nat) (Q : Ex → St → Option α) : ∀ (n : Nat) (x15 : D0) (x16 x17 : Int) (c2 c4 : D1), iter (rnd C k cd0 15 Q) n (St2 x15 x16 x17 c2 c4) = l0 k (fun c2 c4 => Q (.exit 0) (St4 c2 c4)) n x15 x16 x17 c2 c4
  | 0, _, _, _, _, _ => rfl
  | n + 1, x15, x16, x17, c2, c4 => (iter_succ _ _ _).trans ((l0s_eq k (iter (rnd C k cd0 15 Q) n) Q x15 x16 x17 c2 c4).trans (congrArg (fun N => l0s N (fun c2 c4 => Q (.exit 0) (St4 c2 c4)) x15 x16 x17 c2 c4) (funext fun x15 => funext fun x16 => funext fun x17 => funext fun c2 => funext fun c4 => l0_eq k Q n x15 x16 x17 c2 c4)))
theorem l0_congr {α : Type} (k : Nat) (Xt0 : D1 → D1 → Option α) (Xt0q : D1 → D1 → Option α) (hXt0 : ∀ (c2 c4 : D1), Xt0 c2 c4 = Xt0q c2 c4) (n : Nat) (x15 : D0) (x16 x17 : Int) (c2 c4 : D1) : l0 k Xt0 n x15 x16 x17 c2 c4 = l0 k Xt0q n x15 x16 x17 c2 c4 := by
  obtain rfl : Xt0 = Xt0q := by funext c2; funext c4; exact hXt0 c2 c4
  rfl
noncomputable def cd2 : Code := cR (cR (cR (cB Tryd.f14)))
def St5 (c2 c4 : D1) : St := stL 37 [(2, .ref 2 0 []), (4, .ref 4 0 [])] [(2, .cell T13 (.data T13 c2) false), (4, .cell T13 (.data T13 c4) false)]
def j1 {α : Type} (Rt : Int → D1 → Option α) (c2 c4 : D1) : Option α :=
  Rt 0 c2
theorem j1_eq {α : Type} (k : Nat) (Q : Ex → St → Option α) (c2 c4 : D1) :
    (den C k) cd2 Q (St5 c2 c4) = j1 (fun x5 c4 => Q .ret (St1 x5 c4)) c2 c4 := by
  have h : ∀ (D L : DT α), denJ D L Js C cd2 Q (St5 c2 c4) = j1 (fun x5 c4 => Q .ret (St1 x5 c4)) c2 c4 := by
    intro D L; kernel_rfl
  have h2 := via (k := k) h
  exact h2
theorem a0 {α : Type} (k : Nat) (Q : Ex → St → Option α) (x15 : D0) (x16 x17 : Int) (c2 c4 : D1) :
    (lp C k) cd0 (blkQ C 0 (sq (den C k) (lp C k) Js C cd2 Q)) (St2 x15 x16 x17 c2 c4) = l0 k (fun c2 c4 => j1 (fun x5 c4 => Q .ret (St1 x5 c4)) c2 c4) k x15 x16 x17 c2 c4 :=
  (show (lp C k) cd0 (blkQ C 0 (sq (den C k) (lp C k) Js C cd2 Q)) (St2 x15 x16 x17 c2 c4) = iter (rnd C k cd0 15 (blkQ C 0 (sq (den C k) (lp C k) Js C cd2 Q))) k (St2 x15 x16 x17 c2 c4) by kernel_rfl).trans ((l0_eq k (blkQ C 0 (sq (den C k) (lp C k) Js C cd2 Q)) k x15 x16 x17 c2 c4).trans (l0_congr k _ _ (fun c2 c4 => ((show (blkQ C 0 (sq (den C k) (lp C k) Js C cd2 Q)) (.exit 0) (St4 c2 c4) = (den C k) cd2 Q (St5 c2 c4) by kernel_rfl).trans (by simp only [j1_eq]))) k x15 x16 x17 c2 c4))
def top {α : Type} (k : Nat) (Rt : Int → D1 → Option α) (x0 : D1) (x1 : D0) : Option α :=
  (Go.Bx.keccak_check.run x0).bind fun y1 =>
  if (y1 != 0) = true then
    Rt y1 ((List.replicate 25 0), (List.replicate 136 0), 0, ())
  else
    l0 k (fun c2 c4 => j1 Rt c2 c4) k x1 (x1.length : Int) 0 x0 ((List.replicate 25 0), (List.replicate 136 0), 0, ())
theorem top_eq {α : Type} (k : Nat) (Q : Ex → St → Option α) (x0 : D1) (x1 : D0) :
    (den C k) (cB Tryd.f14) Q (St0 x0 x1) = top k (fun x5 c4 => Q .ret (St1 x5 c4)) x0 x1 := by
  have h : ∀ (D L : DT α), denJ D L Js C (cB Tryd.f14) Q (St0 x0 x1) =
        (Go.Bx.keccak_check.run x0).bind fun y1 =>
        if (y1 != 0) = true then
          Q .ret (St1 y1 ((List.replicate 25 0), (List.replicate 136 0), 0, ()))
        else
          L cd0 (blkQ C 0 (sq D L Js C cd2 Q)) (St2 x1 (x1.length : Int) 0 x0 ((List.replicate 25 0), (List.replicate 136 0), 0, ())) := by
    intro D L; kernel_rfl
  have h2 := via (k := k) h
  refine h2.trans ?_
  simp only [a0]
  first | rfl | kernel_rfl
def run (x0 : D1) (x1 : D0) : Option D2 := top (α := D1 × Int × Unit) fuel (fun x5 c4 => some (c4, x5, ())) x0 x1
def F : Fn := ⟨T15, T16, true, fun x => run x.1 x.2.1⟩
set_option maxRecDepth 100000 in
theorem con : Con Tryd.prog 14 F := by
  refine con_of_den (C := C) (ctx_ok (by kernel_rfl) (by kernel_rfl) (by kernel_rfl) (by kernel_rfl) ⟨.inl ⟨Go.Bx.keccak_check.con, Go.Bx.keccak_check.named⟩, ⟨.inl ⟨Go.Bx.keccak_soak.con, Go.Bx.keccak_soak.named⟩, trivial⟩⟩) (by kernel_rfl) Tryd.func14 (c := cB Tryd.f14) (by kernel_rfl) (by kernel_rfl) F fuel (fun x => by simp [F, spread, Tryd.ntmps14]) ?_
  intro x r h
  rw [← h]
  have h1 : start F Tryd.f14.ntmps x = (St0 x.1 x.2.1) := by kernel_rfl
  rw [h1]
  refine (top_eq fuel (fin C Tryd.f14.results.toList F.rs F.multi) x.1 x.2.1).trans ?_
  kernel_rfl
theorem named : Named Tryd.prog 14 := named_of Tryd.func14 (by kernel_rfl) (by kernel_rfl)
end Go.Bx.keccak_Add
namespace Go.Bx.basculeref_Soaked
open Go Go.Proofs Go.Bx
set_option maxRecDepth 100000
set_option linter.unusedVariables false
def Js : List Nat := [9, 14]
def C : Ctx := ⟨[(3, T1), (5, T9), (9, .str), (23, T4), (26, T12), (28, T13), (29, T10), (30, T1)], [], [], fnL [(44, Go.Bx.basculeref_badSponge.F), (45, Go.Bx.basculeref_soaked.F)], noSh, [], invL [], [(2, [4, 5]), (7, [4, 9]), (10, [4, 7, 9, 10]), (1, [4, 7, 8]), (4, [4, 7, 8]), (18, [4, 7, 8]), (24, [4, 7, 8]), (30, [4, 7, 9, 10]), (39, [4, 9])], [], [], 0, 0⟩
def St0 (x0 : D1) (x1 : D0) : St := stL 52 [(0, .data T13 x0), (1, .data T10 x1)] []
def St1 (x5 : Int) (c4 : D1) : St := stL 52 [(4, .ref 4 0 []), (5, .data T1 x5)] [(4, .cell T13 (.data T13 c4) false)]
def St2 (x7 : D0) (c4 : D1) (c8 : D0) : St := stL 52 [(4, .ref 4 0 []), (7, .data .str x7), (8, .ref 8 0 [])] [(4, .cell T13 (.data T13 c4) false), (8, .cell T4 (.data T4 c8) false)]
noncomputable def cd0 : Code := cL (cL (cL (cR (cR (cR (cR (cR (cB Tryd.f15))))))))
def St3 (x7 : D0) (c4 : D1) (c8 : D0) : St := stL 52 [(4, .ref 4 0 []), (7, .data .str x7), (8, .ref 8 0 [])] [(4, .cell T13 (.data T13 c4) false), (8, .cell T4 (.data T4 c8) false)]
def l0s {α : Type} (Nx : D0 → D1 → D0 → Option α) (Xt0 : D0 → D1 → D0 → Option α) (x7 : D0) (c4 : D1) (c8 : D0) : Option α :=
  if (decide ((x7.length : Int) ≥ 136)) = true then
    if 0 ≤ (0 : Int) ∧ (0 : Int) ≤ (136 : Int) ∧ (136 : Int) ≤ (x7.length : Int) then
      (Go.Bx.basculeref_soaked.run c8 (cutL x7 0 136)).bind fun y2 =>
      if 0 ≤ (136 : Int) ∧ (136 : Int) ≤ (x7.length : Int) ∧ (x7.length : Int) ≤ (x7.length : Int) then
        Nx (cutL x7 136 (x7.length : Int)) c4 y2
      else none
    else none
  else
    Xt0 x7 c4 c8
theorem l0s_eq {α : Type} (k : Nat) (next : St → Option α) (Q : Ex → St → Option α) (x7 : D0) (c4 : D1) (c8 : D0) :
    rnd C k cd0 18 Q next (St2 x7 c4 c8) = l0s (fun x7 c4 c8 => next (St2 x7 c4 c8)) (fun x7 c4 c8 => Q (.exit 0) (St3 x7 c4 c8)) x7 c4 c8 := by
  have h : ∀ (D L : DT α), denJ D L Js C cd0 (lq C 18 next Q) (St2 x7 c4 c8) = l0s (fun x7 c4 c8 => next (St2 x7 c4 c8)) (fun x7 c4 c8 => Q (.exit 0) (St3 x7 c4 c8)) x7 c4 c8 := by
    intro D L; kernel_rfl
  have h2 := via (k := k) h
  exact h2
def l0 {α : Type} (k : Nat) (Xt0 : D0 → D1 → D0 → Option α) : Nat → D0 → D1 → D0 → Option α
  | 0, _, _, _ => none
  | n + 1, x7, c4, c8 => l0s (l0 k Xt0 n) Xt0 x7 c4 c8
theorem l0_eq {α : Type} (k : Nat) (Q : Ex → St → Option α) : ∀ (n : Nat) (x7 : D0) (c4 : D1) (c8 : D0), iter (rnd C k cd0 18 Q) n (St2 x7 c4 c8) = l0 k (fun x7 c4 c8 => Q (.exit 0) (St3 x7 c4 c8)) n x7 c4 c8
  | 0, _, _, _ => rfl
  | n + 1, x7, c4, c8 => (iter_succ _ _ _).trans ((l0s_eq k (iter (rnd C k cd0 18 Q) n) Q x7 c4 c8).trans (congrArg (fun N => l0s N (fun x7 c4 c8 => Q (.exit 0) (St3 x7 c4 c8)) x7 c4 c8) (funext fun x7 => funext fun c4 => funext fun c8 => l0_eq k Q n x7 c4 c8)))
theorem l0_congr {α : Type} (k : Nat) (Xt0 : D0 → D1 → D0 → Option α) (Xt0q : D0 → D1 → D0 → Option α) (hXt0 : ∀ (x7 : D0) (c4 : D1) (c8 : D0), Xt0 x7 c4 c8 = Xt0q x7 c4 c8) (n : Nat) (x7 : D0) (c4 : D1) (c8 : D0) : l0 k Xt0 n x7 c4 c8 = l0 k Xt0q n x7 c4 c8 := by
  obtain rfl : Xt0 = Xt0q := by funext x7; funext c4; funext c8; exact hXt0 x7 c4 c8
  rfl
noncomputable def cd1 : Code := cR (cR (cR (cR (cR (cR (cB Tryd.f15))))))
def St4 (x7 : D0) (c4 : D1) (c8 : D0) : St := stL 52 [(4, .ref 4 0 []), (7, .data .str x7), (8, .ref 8 0 [])] [(4, .cell T13 (.data T13 c4) false), (8, .cell T4 (.data T4 c8) false)]
def St5 (x7 : D0) (x10 : Int) (c4 c9 : D1) : St := stL 52 [(4, .ref 4 0 []), (7, .data .str x7), (9, .ref 9 0 []), (10, .data T1 x10)] [(4, .cell T13 (.data T13 c4) false), (9, .cell T13 (.data T13 c9) false)]
noncomputable def cd2 : Code := cL (cL (cR (cL (cR (cR (cR (cR (cR (cR (cR (cB Tryd.f15)))))))))))
def St6 (c4 c9 : D1) : St := stL 52 [(4, .ref 4 0 []), (9, .ref 9 0 [])] [(4, .cell T13 (.data T13 c4) false), (9, .cell T13 (.data T13 c9) false)]
def l1s {α : Type} (Nx : D0 → Int → D1 → D1 → Option α) (Xt2 : D1 → D1 → Option α) (x7 : D0) (x10 : Int) (c4 c9 : D1) : Option α :=
  if (decide (x10 < (x7.length : Int))) = true then
    if 0 ≤ x10 ∧ x10 < (x7.length : Int) then
      if 0 ≤ x10 ∧ x10 < (136 : Int) then
        Nx x7 (IntKind.i64.wrap (x10 + 1)) c4 (c9.1, (List.set c9.2.1 (Int.toNat x10) (List.getD x7 (Int.toNat x10) 0)), c9.2.2)
      else none
    else none
  else
    Xt2 c4 c9
theorem l1s_eq {α : Type} (k : Nat) (next : St → Option α) (Q : Ex → St → Option α) (x7 : D0) (x10 : Int) (c4 c9 : D1) :
    rnd C k cd2 30 Q next (St5 x7 x10 c4 c9) = l1s (fun x7 x10 c4 c9 => next (St5 x7 x10 c4 c9)) (fun c4 c9 => Q (.exit 2) (St6 c4 c9)) x7 x10 c4 c9 := by
  have h : ∀ (D L : DT α), denJ D L Js C cd2 (lq C 30 next Q) (St5 x7 x10 c4 c9) = l1s (fun x7 x10 c4 c9 => next (St5 x7 x10 c4 c9)) (fun c4 c9 => Q (.exit 2) (St6 c4 c9)) x7 x10 c4 c9 := by
    intro D L; kernel_rfl
  have h2 := via (k := k) h
  exact h2
def l1 {α : Type} (k : Nat) (Xt2 : D1 → D1 → Option α) : Nat → D0 → Int → D1 → D1 → Option α
  | 0, _, _, _, _ => none
  | n + 1, x7, x10, c4, c9 => l1s (l1 k Xt2 n) Xt2 x7 x10 c4 c9
theorem l1_eq {α : Type} (k : Nat) (Q : Ex → St → Option α) : ∀ (n : Nat) (x7 : D0) (x10 : Int) (c4 c9 : D1), iter (rnd C k cd2 30 Q) n (St5 x7 x10 c4 c9) = l1 k (fun c4 c9 => Q (.exit 2) (St6 c4 c9)) n x7 x10 c4 c9
  | 0, _, _, _, _ => rfl
  | n + 1, x7, x10, c4, c9 => (iter_succ _ _ _).trans ((l1s_eq k (iter (rnd C k cd2 30 Q) n) Q x7 x10 c4 c9).trans (congrArg (fun N => l1s N (fun c4 c9 => Q (.exit 2) (St6 c4 c9)) x7 x10 c4 c9) (funext fun x7 => funext fun x10 => funext fun c4 => funext fun c9 => l1_eq k Q n x7 x10 c4 c9)))
theorem l1_congr {α : Type} (k : Nat) (Xt2 : D1 → D1 → Option α) (Xt2q : D1 → D1 → Option α) (hXt2 : ∀ (c4 c9 : D1), Xt2 c4 c9 = Xt2q c4 c9) (n : Nat) (x7 : D0) (x10 : Int) (c4 c9 : D1) : l1 k Xt2 n x7 x10 c4 c9 = l1 k Xt2q n x7 x10 c4 c9 := by
  obtain rfl : Xt2 = Xt2q := by funext c4; funext c9; exact hXt2 c4 c9
  rfl
noncomputable def cd3 : Code := cR (cR (cR (cR (cR (cR (cR (cR (cB Tryd.f15))))))))
def St7 (c4 c9 : D1) : St := stL 52 [(4, .ref 4 0 []), (9, .ref 9 0 [])] [(4, .cell T13 (.data T13 c4) false), (9, .cell T13 (.data T13 c9) false)]
def j1 {α : Type} (Rt : Int → D1 → Option α) (c4 c9 : D1) : Option α :=
  Rt 0 c9
theorem j1_eq {α : Type} (k : Nat) (Q : Ex → St → Option α) (c4 c9 : D1) :
    (den C k) cd3 Q (St7 c4 c9) = j1 (fun x5 c4 => Q .ret (St1 x5 c4)) c4 c9 := by
  have h : ∀ (D L : DT α), denJ D L Js C cd3 Q (St7 c4 c9) = j1 (fun x5 c4 => Q .ret (St1 x5 c4)) c4 c9 := by
    intro D L; kernel_rfl
  have h2 := via (k := k) h
  exact h2
theorem a0 {α : Type} (k : Nat) (Q : Ex → St → Option α) (x7 : D0) (x10 : Int) (c4 c9 : D1) :
    (lp C k) cd2 (blkQ C 2 (sq (den C k) (lp C k) Js C cd3 Q)) (St5 x7 x10 c4 c9) = l1 k (fun c4 c9 => j1 (fun x5 c4 => Q .ret (St1 x5 c4)) c4 c9) k x7 x10 c4 c9 :=
  (show (lp C k) cd2 (blkQ C 2 (sq (den C k) (lp C k) Js C cd3 Q)) (St5 x7 x10 c4 c9) = iter (rnd C k cd2 30 (blkQ C 2 (sq (den C k) (lp C k) Js C cd3 Q))) k (St5 x7 x10 c4 c9) by kernel_rfl).trans ((l1_eq k (blkQ C 2 (sq (den C k) (lp C k) Js C cd3 Q)) k x7 x10 c4 c9).trans (l1_congr k _ _ (fun c4 c9 => ((show (blkQ C 2 (sq (den C k) (lp C k) Js C cd3 Q)) (.exit 2) (St6 c4 c9) = (den C k) cd3 Q (St7 c4 c9) by kernel_rfl).trans (by simp only [j1_eq]))) k x7 x10 c4 c9))
def j0 {α : Type} (k : Nat) (Rt : Int → D1 → Option α) (x7 : D0) (c4 : D1) (c8 : D0) : Option α :=
  l1 k (fun c4 c9 => j1 Rt c4 c9) k x7 0 c4 (c8, (List.replicate 136 0), (x7.length : Int), ())
theorem j0_eq {α : Type} (k : Nat) (Q : Ex → St → Option α) (x7 : D0) (c4 : D1) (c8 : D0) :
    (den C k) cd1 Q (St4 x7 c4 c8) = j0 k (fun x5 c4 => Q .ret (St1 x5 c4)) x7 c4 c8 := by
  have h : ∀ (D L : DT α), denJ D L Js C cd1 Q (St4 x7 c4 c8) =
        L cd2 (blkQ C 2 (sq D L Js C cd3 Q)) (St5 x7 0 c4 (c8, (List.replicate 136 0), (x7.length : Int), ())) := by
    intro D L; kernel_rfl
  have h2 := via (k := k) h
  refine h2.trans ?_
  simp only [a0]
  first | rfl | kernel_rfl
theorem a1 {α : Type} (k : Nat) (Q : Ex → St → Option α) (x7 : D0) (c4 : D1) (c8 : D0) :
    (lp C k) cd0 (blkQ C 0 (sq (den C k) (lp C k) Js C cd1 Q)) (St2 x7 c4 c8) = l0 k (fun x7 c4 c8 => j0 k (fun x5 c4 => Q .ret (St1 x5 c4)) x7 c4 c8) k x7 c4 c8 :=
  (show (lp C k) cd0 (blkQ C 0 (sq (den C k) (lp C k) Js C cd1 Q)) (St2 x7 c4 c8) = iter (rnd C k cd0 18 (blkQ C 0 (sq (den C k) (lp C k) Js C cd1 Q))) k (St2 x7 c4 c8) by kernel_rfl).trans ((l0_eq k (blkQ C 0 (sq (den C k) (lp C k) Js C cd1 Q)) k x7 c4 c8).trans (l0_congr k _ _ (fun x7 c4 c8 => ((show (blkQ C 0 (sq (den C k) (lp C k) Js C cd1 Q)) (.exit 0) (St3 x7 c4 c8) = (den C k) cd1 Q (St4 x7 c4 c8) by kernel_rfl).trans (by simp only [j0_eq]))) k x7 c4 c8))
def top {α : Type} (k : Nat) (Rt : Int → D1 → Option α) (x0 : D1) (x1 : D0) : Option α :=
  (Go.Bx.basculeref_badSponge.run x0).bind fun y1 =>
  if y1 = true then
    Rt 12 ((List.replicate 25 0), (List.replicate 136 0), 0, ())
  else
    if 0 ≤ (0 : Int) ∧ (0 : Int) ≤ x0.2.2.1 ∧ x0.2.2.1 ≤ ((cutL x0.2.1 0 136).length : Int) then
      if Nat.ble ((cutL (cutL x0.2.1 0 136) 0 x0.2.2.1).length + x1.length) 9223372036854775807 = true then
        l0 k (fun x7 c4 c8 => j0 k Rt x7 c4 c8) k ((cutL (cutL x0.2.1 0 136) 0 x0.2.2.1) ++ x1) ((List.replicate 25 0), (List.replicate 136 0), 0, ()) x0.1
      else none
    else none
theorem top_eq {α : Type} (k : Nat) (Q : Ex → St → Option α) (x0 : D1) (x1 : D0) :
    (den C k) (cB Tryd.f15) Q (St0 x0 x1) = top k (fun x5 c4 => Q .ret (St1 x5 c4)) x0 x1 := by
  have h : ∀ (D L : DT α), denJ D L Js C (cB Tryd.f15) Q (St0 x0 x1) =
        (Go.Bx.basculeref_badSponge.run x0).bind fun y1 =>
        if y1 = true then
          Q .ret (St1 12 ((List.replicate 25 0), (List.replicate 136 0), 0, ()))
        else
          if 0 ≤ (0 : Int) ∧ (0 : Int) ≤ x0.2.2.1 ∧ x0.2.2.1 ≤ ((cutL x0.2.1 0 136).length : Int) then
            if Nat.ble ((cutL (cutL x0.2.1 0 136) 0 x0.2.2.1).length + x1.length) 9223372036854775807 = true then
              L cd0 (blkQ C 0 (sq D L Js C cd1 Q)) (St2 ((cutL (cutL x0.2.1 0 136) 0 x0.2.2.1) ++ x1) ((List.replicate 25 0), (List.replicate 136 0), 0, ()) x0.1)
            else none
          else none := by
    intro D L; kernel_rfl
  have h2 := via (k := k) h
  refine h2.trans ?_
  simp only [a1]
  first | rfl | kernel_rfl
def run (x0 : D1) (x1 : D0) : Option D2 := top (α := D1 × Int × Unit) fuel (fun x5 c4 => some (c4, x5, ())) x0 x1
def F : Fn := ⟨T15, T16, true, fun x => run x.1 x.2.1⟩
set_option maxRecDepth 100000 in
theorem con : Con Tryd.prog 15 F := by
  refine con_of_den (C := C) (ctx_ok (by kernel_rfl) (by kernel_rfl) (by kernel_rfl) (by kernel_rfl) ⟨.inl ⟨Go.Bx.basculeref_badSponge.con, Go.Bx.basculeref_badSponge.named⟩, ⟨.inl ⟨Go.Bx.basculeref_soaked.con, Go.Bx.basculeref_soaked.named⟩, trivial⟩⟩) (by kernel_rfl) Tryd.func15 (c := cB Tryd.f15) (by kernel_rfl) (by kernel_rfl) F fuel (fun x => by simp [F, spread, Tryd.ntmps15]) ?_
  intro x r h
  rw [← h]
  have h1 : start F Tryd.f15.ntmps x = (St0 x.1 x.2.1) := by kernel_rfl
  rw [h1]
  refine (top_eq fuel (fin C Tryd.f15.results.toList F.rs F.multi) x.1 x.2.1).trans ?_
  kernel_rfl
theorem named : Named Tryd.prog 15 := named_of Tryd.func15 (by kernel_rfl) (by kernel_rfl)
end Go.Bx.basculeref_Soaked
namespace Go.Bx.keccak_End
open Go Go.Proofs Go.Bx
set_option maxRecDepth 100000
set_option linter.unusedVariables false
def Js : List Nat := [14]
def C : Ctx := ⟨[(3, T1), (5, T9), (22, T2), (23, T4), (26, T12), (28, T13), (30, T1), (35, T18)], [], [], fnL [(42, Go.Bx.keccak_check.F), (43, Go.Bx.keccak_soak.F)], noSh, [], invL [], [(2, [2, 3]), (1, [2, 5]), (4, [1, 2, 5, 25]), (27, [1, 2, 5, 25]), (39, [2, 5])], [], [], 0, 0⟩
def St0 (x0 : D1) : St := stL 42 [(0, .data T13 x0)] []
def St1 (x3 : Int) (c2 : D0) : St := stL 42 [(2, .ref 2 0 []), (3, .data T1 x3)] [(2, .cell T18 (.data T18 c2) false)]
def St2 (x25 : Int) (c1 : D1) (c2 c5 : D0) : St := stL 42 [(1, .ref 1 0 []), (2, .ref 2 0 []), (5, .ref 5 0 []), (25, .data T1 x25)] [(1, .cell T13 (.data T13 c1) false), (2, .cell T18 (.data T18 c2) false), (5, .cell T18 (.data T18 c5) false)]
noncomputable def cd0 : Code := cL (cL (cR (cL (cR (cR (cR (cR (cR (cR (cB Tryd.f17))))))))))
def St3 (c2 c5 : D0) : St := stL 42 [(2, .ref 2 0 []), (5, .ref 5 0 [])] [(2, .cell T18 (.data T18 c2) false), (5, .cell T18 (.data T18 c5) false)]
def l0s {α : Type} (Nx : Int → D1 → D0 → D0 → Option α) (Xt0 : D0 → D0 → Option α) (x25 : Int) (c1 : D1) (c2 c5 : D0) : Option α :=
  if (decide (x25 < 32)) = true then
    if 0 ≤ (IntKind.i64.wrap (Int.tdiv x25 8)) ∧ (IntKind.i64.wrap (Int.tdiv x25 8)) < (25 : Int) then
      if 0 ≤ (IntKind.i64.wrap (8 * (Int.tmod x25 8))) then
        if 0 ≤ x25 ∧ x25 < (32 : Int) then
          Nx (IntKind.i64.wrap (x25 + 1)) c1 c2 (List.set c5 (Int.toNat x25) (IntKind.u8.wrap (shrI .u64 (List.getD c1.1 (Int.toNat (IntKind.i64.wrap (Int.tdiv x25 8))) 0) (IntKind.i64.wrap (8 * (Int.tmod x25 8))))))
        else none
      else none
    else none
  else
    Xt0 c2 c5
theorem l0s_eq {α : Type} (k : Nat) (next : St → Option α) (Q : Ex → St → Option α) (x25 : Int) (c1 : D1) (c2 c5 : D0) :
    rnd C k cd0 27 Q next (St2 x25 c1 c2 c5) = l0s (fun x25 c1 c2 c5 => next (St2 x25 c1 c2 c5)) (fun c2 c5 => Q (.exit 0) (St3 c2 c5)) x25 c1 c2 c5 := by
  have h : ∀ (D L : DT α), denJ D L Js C cd0 (lq C 27 next Q) (St2 x25 c1 c2 c5) = l0s (fun x25 c1 c2 c5 => next (St2 x25 c1 c2 c5)) (fun c2 c5 => Q (.exit 0) (St3 c2 c5)) x25 c1 c2 c5 := by
    intro D L; kernel_rfl
  have h2 := via (k := k) h
  exact h2
def l0 {α : Type} (k : Nat) (Xt0 : D0 → D0 → Option α) : Nat → Int → D1 → D0 → D0 → Option α
  | 0, _, _, _, _ => none
  | n + 1, x25, c1, c2, c5 => l0s (l0 k Xt0 n) Xt0 x25 c1 c2 c5
theorem l0_eq {α : Type} (k : Nat) (Q : Ex → St → Option α) : ∀ (n : Nat) (x25 : Int) (c1 : D1) (c2 c5 : D0), iter (rnd C k cd0 27 Q) n (St2 x25 c1 c2 c5) = l0 k (fun c2 c5 => Q (.exit 0) (St3 c2 c5)) n x25 c1 c2 c5
  | 0, _, _, _, _ => rfl
  | n + 1, x25, c1, c2, c5 => (iter_succ _ _ _).trans ((l0s_eq k (iter (rnd C k cd0 27 Q) n) Q x25 c1 c2 c5).trans (congrArg (fun N => l0s N (fun c2 c5 => Q (.exit 0) (St3 c2 c5)) x25 c1 c2 c5) (funext fun x25 => funext fun c1 => funext fun c2 => funext fun c5 => l0_eq k Q n x25 c1 c2 c5)))
theorem l0_congr {α : Type} (k : Nat) (Xt0 : D0 → D0 → Option α) (Xt0q : D0 → D0 → Option α) (hXt0 : ∀ (c2 c5 : D0), Xt0 c2 c5 = Xt0q c2 c5) (n : Nat) (x25 : Int) (c1 : D1) (c2 c5 : D0) : l0 k Xt0 n x25 c1 c2 c5 = l0 k Xt0q n x25 c1 c2 c5 := by
  obtain rfl : Xt0 = Xt0q := by funext c2; funext c5; exact hXt0 c2 c5
  rfl
noncomputable def cd1 : Code := cR (cR (cR (cR (cR (cR (cR (cB Tryd.f17)))))))
def St4 (c2 c5 : D0) : St := stL 42 [(2, .ref 2 0 []), (5, .ref 5 0 [])] [(2, .cell T18 (.data T18 c2) false), (5, .cell T18 (.data T18 c5) false)]
def j0 {α : Type} (Rt : Int → D0 → Option α) (c2 c5 : D0) : Option α :=
  Rt 0 c5
theorem j0_eq {α : Type} (k : Nat) (Q : Ex → St → Option α) (c2 c5 : D0) :
    (den C k) cd1 Q (St4 c2 c5) = j0 (fun x3 c2 => Q .ret (St1 x3 c2)) c2 c5 := by
  have h : ∀ (D L : DT α), denJ D L Js C cd1 Q (St4 c2 c5) = j0 (fun x3 c2 => Q .ret (St1 x3 c2)) c2 c5 := by
    intro D L; kernel_rfl
  have h2 := via (k := k) h
  exact h2
theorem a0 {α : Type} (k : Nat) (Q : Ex → St → Option α) (x25 : Int) (c1 : D1) (c2 c5 : D0) :
    (lp C k) cd0 (blkQ C 0 (sq (den C k) (lp C k) Js C cd1 Q)) (St2 x25 c1 c2 c5) = l0 k (fun c2 c5 => j0 (fun x3 c2 => Q .ret (St1 x3 c2)) c2 c5) k x25 c1 c2 c5 :=
  (show (lp C k) cd0 (blkQ C 0 (sq (den C k) (lp C k) Js C cd1 Q)) (St2 x25 c1 c2 c5) = iter (rnd C k cd0 27 (blkQ C 0 (sq (den C k) (lp C k) Js C cd1 Q))) k (St2 x25 c1 c2 c5) by kernel_rfl).trans ((l0_eq k (blkQ C 0 (sq (den C k) (lp C k) Js C cd1 Q)) k x25 c1 c2 c5).trans (l0_congr k _ _ (fun c2 c5 => ((show (blkQ C 0 (sq (den C k) (lp C k) Js C cd1 Q)) (.exit 0) (St3 c2 c5) = (den C k) cd1 Q (St4 c2 c5) by kernel_rfl).trans (by simp only [j0_eq]))) k x25 c1 c2 c5))
def top {α : Type} (k : Nat) (Rt : Int → D0 → Option α) (x0 : D1) : Option α :=
  (Go.Bx.keccak_check.run x0).bind fun y1 =>
  if (y1 != 0) = true then
    Rt y1 (List.replicate 32 0)
  else
    if 0 ≤ x0.2.2.1 ∧ x0.2.2.1 < (136 : Int) then
      (Go.Bx.keccak_soak.run (x0.1, (List.set (List.set x0.2.1 (Int.toNat x0.2.2.1) 1) 135 (bor .u8 (List.getD (List.set x0.2.1 (Int.toNat x0.2.2.1) 1) 135 0) 128)), x0.2.2)).bind fun y2 =>
      l0 k (fun c2 c5 => j0 Rt c2 c5) k 0 y2 (List.replicate 32 0) (List.replicate 32 0)
    else none
theorem top_eq {α : Type} (k : Nat) (Q : Ex → St → Option α) (x0 : D1) :
    (den C k) (cB Tryd.f17) Q (St0 x0) = top k (fun x3 c2 => Q .ret (St1 x3 c2)) x0 := by
  have h : ∀ (D L : DT α), denJ D L Js C (cB Tryd.f17) Q (St0 x0) =
        (Go.Bx.keccak_check.run x0).bind fun y1 =>
        if (y1 != 0) = true then
          Q .ret (St1 y1 (List.replicate 32 0))
        else
          if 0 ≤ x0.2.2.1 ∧ x0.2.2.1 < (136 : Int) then
            (Go.Bx.keccak_soak.run (x0.1, (List.set (List.set x0.2.1 (Int.toNat x0.2.2.1) 1) 135 (bor .u8 (List.getD (List.set x0.2.1 (Int.toNat x0.2.2.1) 1) 135 0) 128)), x0.2.2)).bind fun y2 =>
            L cd0 (blkQ C 0 (sq D L Js C cd1 Q)) (St2 0 y2 (List.replicate 32 0) (List.replicate 32 0))
          else none := by
    intro D L; kernel_rfl
  have h2 := via (k := k) h
  refine h2.trans ?_
  simp only [a0]
  first | rfl | kernel_rfl
def run (x0 : D1) : Option D3 := top (α := List Int × Int × Unit) fuel (fun x3 c2 => some (c2, x3, ())) x0
def F : Fn := ⟨T14, T19, true, fun x => run x.1⟩
set_option maxRecDepth 100000 in
theorem con : Con Tryd.prog 17 F := by
  refine con_of_den (C := C) (ctx_ok (by kernel_rfl) (by kernel_rfl) (by kernel_rfl) (by kernel_rfl) ⟨.inl ⟨Go.Bx.keccak_check.con, Go.Bx.keccak_check.named⟩, ⟨.inl ⟨Go.Bx.keccak_soak.con, Go.Bx.keccak_soak.named⟩, trivial⟩⟩) (by kernel_rfl) Tryd.func17 (c := cB Tryd.f17) (by kernel_rfl) (by kernel_rfl) F fuel (fun x => by simp [F, spread, Tryd.ntmps17]) ?_
  intro x r h
  rw [← h]
  have h1 : start F Tryd.f17.ntmps x = (St0 x.1) := by kernel_rfl
  rw [h1]
  refine (top_eq fuel (fin C Tryd.f17.results.toList F.rs F.multi) x.1).trans ?_
  kernel_rfl
theorem named : Named Tryd.prog 17 := named_of Tryd.func17 (by kernel_rfl) (by kernel_rfl)
end Go.Bx.keccak_End
namespace Go.Bx.basculeref_Wrung
open Go Go.Proofs Go.Bx
set_option maxRecDepth 100000
set_option linter.unusedVariables false
def Js : List Nat := [14]
def C : Ctx := ⟨[(3, T1), (5, T9), (9, .str), (22, T2), (23, T4), (26, T12), (28, T13), (29, T10), (30, T1), (35, T18)], [], [], fnL [(44, Go.Bx.basculeref_badSponge.F), (45, Go.Bx.basculeref_soaked.F)], noSh, [], invL [], [(2, [2, 3]), (1, [2, 6]), (4, [2, 5, 6, 28]), (27, [2, 5, 6, 28]), (39, [2, 6])], [], [], 0, 0⟩
def St0 (x0 : D1) : St := stL 44 [(0, .data T13 x0)] []
def St1 (x3 : Int) (c2 : D0) : St := stL 44 [(2, .ref 2 0 []), (3, .data T1 x3)] [(2, .cell T18 (.data T18 c2) false)]
def St2 (x28 : Int) (c2 c5 c6 : D0) : St := stL 44 [(2, .ref 2 0 []), (5, .ref 5 0 []), (6, .ref 6 0 []), (28, .data T1 x28)] [(2, .cell T18 (.data T18 c2) false), (5, .cell T4 (.data T4 c5) false), (6, .cell T18 (.data T18 c6) false)]
noncomputable def cd0 : Code := cL (cL (cR (cL (cR (cR (cR (cR (cR (cR (cR (cB Tryd.f18)))))))))))
def St3 (c2 c6 : D0) : St := stL 44 [(2, .ref 2 0 []), (6, .ref 6 0 [])] [(2, .cell T18 (.data T18 c2) false), (6, .cell T18 (.data T18 c6) false)]
def l0s {α : Type} (Nx : Int → D0 → D0 → D0 → Option α) (Xt0 : D0 → D0 → Option α) (x28 : Int) (c2 c5 c6 : D0) : Option α :=
  if (decide (x28 < 32)) = true then
    if 0 ≤ (IntKind.i64.wrap (Int.tdiv x28 8)) ∧ (IntKind.i64.wrap (Int.tdiv x28 8)) < (25 : Int) then
      if 0 ≤ (IntKind.i64.wrap ((Int.tmod x28 8) * 8)) then
        if 0 ≤ x28 ∧ x28 < (32 : Int) then
          Nx (IntKind.i64.wrap (x28 + 1)) c2 c5 (List.set c6 (Int.toNat x28) (IntKind.u8.wrap (shrI .u64 (List.getD c5 (Int.toNat (IntKind.i64.wrap (Int.tdiv x28 8))) 0) (IntKind.i64.wrap ((Int.tmod x28 8) * 8)))))
        else none
      else none
    else none
  else
    Xt0 c2 c6
theorem l0s_eq {α : Type} (k : Nat) (next : St → Option α) (Q : Ex → St → Option α) (x28 : Int) (c2 c5 c6 : D0) :
    rnd C k cd0 27 Q next (St2 x28 c2 c5 c6) = l0s (fun x28 c2 c5 c6 => next (St2 x28 c2 c5 c6)) (fun c2 c6 => Q (.exit 0) (St3 c2 c6)) x28 c2 c5 c6 := by
  have h : ∀ (D L : DT α), denJ D L Js C cd0 (lq C 27 next Q) (St2 x28 c2 c5 c6) = l0s (fun x28 c2 c5 c6 => next (St2 x28 c2 c5 c6)) (fun c2 c6 => Q (.exit 0) (St3 c2 c6)) x28 c2 c5 c6 := by
    intro D L; kernel_rfl
  have h2 := via (k := k) h
  exact h2
def l0 {α : Type} (k : Nat) (Xt0 : D0 → D0 → Option α) : Nat → Int → D0 → D0 → D0 → Option α
  | 0, _, _, _, _ => none
  | n + 1, x28, c2, c5, c6 => l0s (l0 k Xt0 n) Xt0 x28 c2 c5 c6
theorem l0_eq {α : Type} (k : Nat) (Q : Ex → St → Option α) : ∀ (n : Nat) (x28 : Int) (c2 c5 c6 : D0), iter (rnd C k cd0 27 Q) n (St2 x28 c2 c5 c6) = l0 k (fun c2 c6 => Q (.exit 0) (St3 c2 c6)) n x28 c2 c5 c6
  | 0, _, _, _, _ => rfl
  | n + 1, x28, c2, c5, c6 => (iter_succ _ _ _).trans ((l0s_eq k (iter (rnd C k cd0 27 Q) n) Q x28 c2 c5 c6).trans (congrArg (fun N => l0s N (fun c2 c6 => Q (.exit 0) (St3 c2 c6)) x28 c2 c5 c6) (funext fun x28 => funext fun c2 => funext fun c5 => funext fun c6 => l0_eq k Q n x28 c2 c5 c6)))
theorem l0_congr {α : Type} (k : Nat) (Xt0 : D0 → D0 → Option α) (Xt0q : D0 → D0 → Option α) (hXt0 : ∀ (c2 c6 : D0), Xt0 c2 c6 = Xt0q c2 c6) (n : Nat) (x28 : Int) (c2 c5 c6 : D0) : l0 k Xt0 n x28 c2 c5 c6 = l0 k Xt0q n x28 c2 c5 c6 := by
  obtain rfl : Xt0 = Xt0q := by funext c2; funext c6; exact hXt0 c2 c6
  rfl
noncomputable def cd1 : Code := cR (cR (cR (cR (cR (cR (cR (cR (cB Tryd.f18))))))))
def St4 (c2 c6 : D0) : St := stL 44 [(2, .ref 2 0 []), (6, .ref 6 0 [])] [(2, .cell T18 (.data T18 c2) false), (6, .cell T18 (.data T18 c6) false)]
def j0 {α : Type} (Rt : Int → D0 → Option α) (c2 c6 : D0) : Option α :=
  Rt 0 c6
theorem j0_eq {α : Type} (k : Nat) (Q : Ex → St → Option α) (c2 c6 : D0) :
    (den C k) cd1 Q (St4 c2 c6) = j0 (fun x3 c2 => Q .ret (St1 x3 c2)) c2 c6 := by
  have h : ∀ (D L : DT α), denJ D L Js C cd1 Q (St4 c2 c6) = j0 (fun x3 c2 => Q .ret (St1 x3 c2)) c2 c6 := by
    intro D L; kernel_rfl
  have h2 := via (k := k) h
  exact h2
theorem a0 {α : Type} (k : Nat) (Q : Ex → St → Option α) (x28 : Int) (c2 c5 c6 : D0) :
    (lp C k) cd0 (blkQ C 0 (sq (den C k) (lp C k) Js C cd1 Q)) (St2 x28 c2 c5 c6) = l0 k (fun c2 c6 => j0 (fun x3 c2 => Q .ret (St1 x3 c2)) c2 c6) k x28 c2 c5 c6 :=
  (show (lp C k) cd0 (blkQ C 0 (sq (den C k) (lp C k) Js C cd1 Q)) (St2 x28 c2 c5 c6) = iter (rnd C k cd0 27 (blkQ C 0 (sq (den C k) (lp C k) Js C cd1 Q))) k (St2 x28 c2 c5 c6) by kernel_rfl).trans ((l0_eq k (blkQ C 0 (sq (den C k) (lp C k) Js C cd1 Q)) k x28 c2 c5 c6).trans (l0_congr k _ _ (fun c2 c6 => ((show (blkQ C 0 (sq (den C k) (lp C k) Js C cd1 Q)) (.exit 0) (St3 c2 c6) = (den C k) cd1 Q (St4 c2 c6) by kernel_rfl).trans (by simp only [j0_eq]))) k x28 c2 c5 c6))
def top {α : Type} (k : Nat) (Rt : Int → D0 → Option α) (x0 : D1) : Option α :=
  (Go.Bx.basculeref_badSponge.run x0).bind fun y1 =>
  if y1 = true then
    Rt 12 (List.replicate 32 0)
  else
    if 0 ≤ x0.2.2.1 ∧ x0.2.2.1 < (136 : Int) then
      if 0 ≤ x0.2.2.1 ∧ x0.2.2.1 < (136 : Int) then
        (Go.Bx.basculeref_soaked.run x0.1 (cutL (List.set (List.set x0.2.1 (Int.toNat x0.2.2.1) (bxor .u8 (List.getD x0.2.1 (Int.toNat x0.2.2.1) 0) 1)) 135 (bxor .u8 (List.getD (List.set x0.2.1 (Int.toNat x0.2.2.1) (bxor .u8 (List.getD x0.2.1 (Int.toNat x0.2.2.1) 0) 1)) 135 0) 128)) 0 136)).bind fun y2 =>
        l0 k (fun c2 c6 => j0 Rt c2 c6) k 0 (List.replicate 32 0) y2 (List.replicate 32 0)
      else none
    else none
theorem top_eq {α : Type} (k : Nat) (Q : Ex → St → Option α) (x0 : D1) :
    (den C k) (cB Tryd.f18) Q (St0 x0) = top k (fun x3 c2 => Q .ret (St1 x3 c2)) x0 := by
  have h : ∀ (D L : DT α), denJ D L Js C (cB Tryd.f18) Q (St0 x0) =
        (Go.Bx.basculeref_badSponge.run x0).bind fun y1 =>
        if y1 = true then
          Q .ret (St1 12 (List.replicate 32 0))
        else
          if 0 ≤ x0.2.2.1 ∧ x0.2.2.1 < (136 : Int) then
            if 0 ≤ x0.2.2.1 ∧ x0.2.2.1 < (136 : Int) then
              (Go.Bx.basculeref_soaked.run x0.1 (cutL (List.set (List.set x0.2.1 (Int.toNat x0.2.2.1) (bxor .u8 (List.getD x0.2.1 (Int.toNat x0.2.2.1) 0) 1)) 135 (bxor .u8 (List.getD (List.set x0.2.1 (Int.toNat x0.2.2.1) (bxor .u8 (List.getD x0.2.1 (Int.toNat x0.2.2.1) 0) 1)) 135 0) 128)) 0 136)).bind fun y2 =>
              L cd0 (blkQ C 0 (sq D L Js C cd1 Q)) (St2 0 (List.replicate 32 0) y2 (List.replicate 32 0))
            else none
          else none := by
    intro D L; kernel_rfl
  have h2 := via (k := k) h
  refine h2.trans ?_
  simp only [a0]
  first | rfl | kernel_rfl
def run (x0 : D1) : Option D3 := top (α := List Int × Int × Unit) fuel (fun x3 c2 => some (c2, x3, ())) x0
def F : Fn := ⟨T14, T19, true, fun x => run x.1⟩
set_option maxRecDepth 100000 in
theorem con : Con Tryd.prog 18 F := by
  refine con_of_den (C := C) (ctx_ok (by kernel_rfl) (by kernel_rfl) (by kernel_rfl) (by kernel_rfl) ⟨.inl ⟨Go.Bx.basculeref_badSponge.con, Go.Bx.basculeref_badSponge.named⟩, ⟨.inl ⟨Go.Bx.basculeref_soaked.con, Go.Bx.basculeref_soaked.named⟩, trivial⟩⟩) (by kernel_rfl) Tryd.func18 (c := cB Tryd.f18) (by kernel_rfl) (by kernel_rfl) F fuel (fun x => by simp [F, spread, Tryd.ntmps18]) ?_
  intro x r h
  rw [← h]
  have h1 : start F Tryd.f18.ntmps x = (St0 x.1) := by kernel_rfl
  rw [h1]
  refine (top_eq fuel (fin C Tryd.f18.results.toList F.rs F.multi) x.1).trans ?_
  kernel_rfl
theorem named : Named Tryd.prog 18 := named_of Tryd.func18 (by kernel_rfl) (by kernel_rfl)
end Go.Bx.basculeref_Wrung
namespace Go.Bx.basculelaw_KeccakEnds
open Go Go.Proofs Go.Bx
set_option maxRecDepth 100000
set_option linter.unusedVariables false
def Js : List Nat := []
def C : Ctx := ⟨[(4, .bool), (28, T13), (35, T18)], [], [], fnL [(17, Go.Bx.keccak_End.F), (18, Go.Bx.basculeref_Wrung.F)], noSh, [], invL [], [(2, [2])], [], [], 0, 0⟩
def St0 (x0 : D1) : St := stL 25 [(0, .data T13 x0)] []
def St1 (x2 : Bool) : St := stL 25 [(2, .data .bool x2)] []
def top {α : Type} (Rt : Bool → Option α) (x0 : D1) : Option α :=
  (Go.Bx.keccak_End.run x0).bind fun y1 =>
  (Go.Bx.basculeref_Wrung.run x0).bind fun y2 =>
  Rt (cond (beqD T18 y1.1 y2.1) (y1.2.1 == y2.2.1) false)
theorem top_eq {α : Type} (k : Nat) (Q : Ex → St → Option α) (x0 : D1) :
    (den C k) (cB Tryd.f5) Q (St0 x0) = top (fun x2 => Q .ret (St1 x2)) x0 := by
  have h : ∀ (D L : DT α), denJ D L Js C (cB Tryd.f5) Q (St0 x0) = top (fun x2 => Q .ret (St1 x2)) x0 := by
    intro D L; kernel_rfl
  have h2 := via (k := k) h
  exact h2
def run (x0 : D1) : Option (Bool) := top (α := Bool) (fun x2 => some x2) x0
def F : Fn := ⟨T14, .bool, false, fun x => run x.1⟩
set_option maxRecDepth 100000 in
theorem con : Con Tryd.prog 5 F := by
  refine con_of_den (C := C) (ctx_ok (by kernel_rfl) (by kernel_rfl) (by kernel_rfl) (by kernel_rfl) ⟨.inl ⟨Go.Bx.keccak_End.con, Go.Bx.keccak_End.named⟩, ⟨.inl ⟨Go.Bx.basculeref_Wrung.con, Go.Bx.basculeref_Wrung.named⟩, trivial⟩⟩) (by kernel_rfl) Tryd.func5 (c := cB Tryd.f5) (by kernel_rfl) (by kernel_rfl) F fuel (fun x => by simp [F, spread, Tryd.ntmps5]) ?_
  intro x r h
  rw [← h]
  have h1 : start F Tryd.f5.ntmps x = (St0 x.1) := by kernel_rfl
  rw [h1]
  refine (top_eq fuel (fin C Tryd.f5.results.toList F.rs F.multi) x.1).trans ?_
  kernel_rfl
theorem named : Named Tryd.prog 5 := named_of Tryd.func5 (by kernel_rfl) (by kernel_rfl)
end Go.Bx.basculelaw_KeccakEnds
