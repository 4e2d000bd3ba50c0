/- Go functions of this seat in their own words of Lean, each tied to its code by a contract. -/
import Derived.Test.YtokjlmpahlneaaaGBase
import Derived.Test.YtokjlmpahlneaaaFnGuardNames0
namespace Go.Bx.load_turn__get
open Go Go.Proofs Go.Bx
set_option maxRecDepth 100000
set_option linter.unusedVariables false
def Js : List Nat := [15]
def C : Ctx := ⟨[(3, (.int .i64)), (5, (.int .u8)), (31, (.int .i64)), (34, (.sl (.arr 20 (.int .u8)))), (40, (.sl (.int .u8))), (105, (.pair (.int .i64) (.pair (.arr 4 (.int .u64)) (.pair (.arr 4 (.int .u64)) (.pair (.arr 32 (.int .u8)) (.pair (.int .i64) (.pair (.arr 32 (.int .u8)) (.pair (.int .i64) (.pair (.int .i64) (.pair .str (.pair (.sl (.int .u8)) (.pair (.int .i64) (.pair (.sl (.arr 20 (.int .u8))) .unit))))))))))))), (178, (.arr 20 (.int .u8))), (205, .unit)], [], [], fnL [], noSh, [], invL [], [(2, [4, 5]), (1, [4, 6]), (4, [1, 4, 6, 59, 60]), (24, [1, 4, 6, 59, 60]), (42, [4, 6])], [(2, [.dat false 4 [11]]), (24, [.melt false 6 [11] 74 true])], [], 0, 0⟩
def St0 (x0 : Unit) (x1 : List Int) : St := stL 78 [(0, .data .unit x0), (1, .data (.sl (.int .u8)) x1)] []
def St1 (x5 : Int) (c4p0 : Int) (c4p1 : List Int) (c4p2 : List Int) (c4p3 : List Int) (c4p4 : Int) (c4p5 : List Int) (c4p6 : Int) (c4p7 : Int) (c4p8 : List Int) (c4p10 : Int) (c4p11 : List (List Int)) : St := stL 78 [(4, .ref 4 0 []), (5, .data (.int .i64) x5)] [(4, .cell (.pair (.int .i64) (.pair (.arr 4 (.int .u64)) (.pair (.arr 4 (.int .u64)) (.pair (.arr 32 (.int .u8)) (.pair (.int .i64) (.pair (.arr 32 (.int .u8)) (.pair (.int .i64) (.pair (.int .i64) (.pair .str (.pair (.sl (.int .u8)) (.pair (.int .i64) (.pair (.sl (.arr 20 (.int .u8))) .unit)))))))))))) (.agg (.pair (.int .i64) (.pair (.arr 4 (.int .u64)) (.pair (.arr 4 (.int .u64)) (.pair (.arr 32 (.int .u8)) (.pair (.int .i64) (.pair (.arr 32 (.int .u8)) (.pair (.int .i64) (.pair (.int .i64) (.pair .str (.pair (.sl (.int .u8)) (.pair (.int .i64) (.pair (.sl (.arr 20 (.int .u8))) .unit)))))))))))) [.data (.int .i64) c4p0, .data (.arr 4 (.int .u64)) c4p1, .data (.arr 4 (.int .u64)) c4p2, .data (.arr 32 (.int .u8)) c4p3, .data (.int .i64) c4p4, .data (.arr 32 (.int .u8)) c4p5, .data (.int .i64) c4p6, .data (.int .i64) c4p7, .data .str c4p8, .full (.int .u8) [], .data (.int .i64) c4p10, .data (.sl (.arr 20 (.int .u8))) c4p11]) false)]
def St2 (x1 : List Int) (x59 : Int) (x60 : Int) (c4p0 : Int) (c4p1 : List Int) (c4p2 : List Int) (c4p3 : List Int) (c4p4 : Int) (c4p5 : List Int) (c4p6 : Int) (c4p7 : Int) (c4p8 : List Int) (c4p10 : Int) (c6p0 : Int) (c6p1 : List Int) (c6p2 : List Int) (c6p3 : List Int) (c6p4 : Int) (c6p5 : List Int) (c6p6 : Int) (c6p7 : Int) (c6p8 : List Int) (c6p10 : Int) (c74 : List (List Int)) : St := stL 78 [(1, .data (.sl (.int .u8)) x1), (4, .ref 4 0 []), (6, .ref 6 0 []), (59, .data (.int .i64) x59), (60, .data (.int .i64) x60)] [(4, .cell (.pair (.int .i64) (.pair (.arr 4 (.int .u64)) (.pair (.arr 4 (.int .u64)) (.pair (.arr 32 (.int .u8)) (.pair (.int .i64) (.pair (.arr 32 (.int .u8)) (.pair (.int .i64) (.pair (.int .i64) (.pair .str (.pair (.sl (.int .u8)) (.pair (.int .i64) (.pair (.sl (.arr 20 (.int .u8))) .unit)))))))))))) (.agg (.pair (.int .i64) (.pair (.arr 4 (.int .u64)) (.pair (.arr 4 (.int .u64)) (.pair (.arr 32 (.int .u8)) (.pair (.int .i64) (.pair (.arr 32 (.int .u8)) (.pair (.int .i64) (.pair (.int .i64) (.pair .str (.pair (.sl (.int .u8)) (.pair (.int .i64) (.pair (.sl (.arr 20 (.int .u8))) .unit)))))))))))) [.data (.int .i64) c4p0, .data (.arr 4 (.int .u64)) c4p1, .data (.arr 4 (.int .u64)) c4p2, .data (.arr 32 (.int .u8)) c4p3, .data (.int .i64) c4p4, .data (.arr 32 (.int .u8)) c4p5, .data (.int .i64) c4p6, .data (.int .i64) c4p7, .data .str c4p8, .full (.int .u8) [], .data (.int .i64) c4p10, .full (.arr 20 (.int .u8)) []]) false), (6, .cell (.pair (.int .i64) (.pair (.arr 4 (.int .u64)) (.pair (.arr 4 (.int .u64)) (.pair (.arr 32 (.int .u8)) (.pair (.int .i64) (.pair (.arr 32 (.int .u8)) (.pair (.int .i64) (.pair (.int .i64) (.pair .str (.pair (.sl (.int .u8)) (.pair (.int .i64) (.pair (.sl (.arr 20 (.int .u8))) .unit)))))))))))) (.agg (.pair (.int .i64) (.pair (.arr 4 (.int .u64)) (.pair (.arr 4 (.int .u64)) (.pair (.arr 32 (.int .u8)) (.pair (.int .i64) (.pair (.arr 32 (.int .u8)) (.pair (.int .i64) (.pair (.int .i64) (.pair .str (.pair (.sl (.int .u8)) (.pair (.int .i64) (.pair (.sl (.arr 20 (.int .u8))) .unit)))))))))))) [.data (.int .i64) c6p0, .data (.arr 4 (.int .u64)) c6p1, .data (.arr 4 (.int .u64)) c6p2, .data (.arr 32 (.int .u8)) c6p3, .data (.int .i64) c6p4, .data (.arr 32 (.int .u8)) c6p5, .data (.int .i64) c6p6, .data (.int .i64) c6p7, .data .str c6p8, .full (.int .u8) [], .data (.int .i64) c6p10, .app 74 0]) false), (74, .buf (.arr 20 (.int .u8)) c74 0 true)]
noncomputable def cd0 : Code := cL (cL (cR (cL (cR (cR (cR (cR (cR (cB Try.f213)))))))))
def St3 (c4p0 : Int) (c4p1 : List Int) (c4p2 : List Int) (c4p3 : List Int) (c4p4 : Int) (c4p5 : List Int) (c4p6 : Int) (c4p7 : Int) (c4p8 : List Int) (c4p10 : Int) (c6p0 : Int) (c6p1 : List Int) (c6p2 : List Int) (c6p3 : List Int) (c6p4 : Int) (c6p5 : List Int) (c6p6 : Int) (c6p7 : Int) (c6p8 : List Int) (c6p10 : Int) (c74 : List (List Int)) : St := stL 78 [(4, .ref 4 0 []), (6, .ref 6 0 [])] [(4, .cell (.pair (.int .i64) (.pair (.arr 4 (.int .u64)) (.pair (.arr 4 (.int .u64)) (.pair (.arr 32 (.int .u8)) (.pair (.int .i64) (.pair (.arr 32 (.int .u8)) (.pair (.int .i64) (.pair (.int .i64) (.pair .str (.pair (.sl (.int .u8)) (.pair (.int .i64) (.pair (.sl (.arr 20 (.int .u8))) .unit)))))))))))) (.agg (.pair (.int .i64) (.pair (.arr 4 (.int .u64)) (.pair (.arr 4 (.int .u64)) (.pair (.arr 32 (.int .u8)) (.pair (.int .i64) (.pair (.arr 32 (.int .u8)) (.pair (.int .i64) (.pair (.int .i64) (.pair .str (.pair (.sl (.int .u8)) (.pair (.int .i64) (.pair (.sl (.arr 20 (.int .u8))) .unit)))))))))))) [.data (.int .i64) c4p0, .data (.arr 4 (.int .u64)) c4p1, .data (.arr 4 (.int .u64)) c4p2, .data (.arr 32 (.int .u8)) c4p3, .data (.int .i64) c4p4, .data (.arr 32 (.int .u8)) c4p5, .data (.int .i64) c4p6, .data (.int .i64) c4p7, .data .str c4p8, .full (.int .u8) [], .data (.int .i64) c4p10, .full (.arr 20 (.int .u8)) []]) false), (6, .cell (.pair (.int .i64) (.pair (.arr 4 (.int .u64)) (.pair (.arr 4 (.int .u64)) (.pair (.arr 32 (.int .u8)) (.pair (.int .i64) (.pair (.arr 32 (.int .u8)) (.pair (.int .i64) (.pair (.int .i64) (.pair .str (.pair (.sl (.int .u8)) (.pair (.int .i64) (.pair (.sl (.arr 20 (.int .u8))) .unit)))))))))))) (.agg (.pair (.int .i64) (.pair (.arr 4 (.int .u64)) (.pair (.arr 4 (.int .u64)) (.pair (.arr 32 (.int .u8)) (.pair (.int .i64) (.pair (.arr 32 (.int .u8)) (.pair (.int .i64) (.pair (.int .i64) (.pair .str (.pair (.sl (.int .u8)) (.pair (.int .i64) (.pair (.sl (.arr 20 (.int .u8))) .unit)))))))))))) [.data (.int .i64) c6p0, .data (.arr 4 (.int .u64)) c6p1, .data (.arr 4 (.int .u64)) c6p2, .data (.arr 32 (.int .u8)) c6p3, .data (.int .i64) c6p4, .data (.arr 32 (.int .u8)) c6p5, .data (.int .i64) c6p6, .data (.int .i64) c6p7, .data .str c6p8, .full (.int .u8) [], .data (.int .i64) c6p10, .app 74 0]) false), (74, .buf (.arr 20 (.int .u8)) c74 0 true)]
def l0s {α : Type} (Nx : (List Int) → Int → Int → Int → (List Int) → (List Int) → (List Int) → Int → (List Int) → Int → Int → (List Int) → Int → Int → (List Int) → (List Int) → (List Int) → Int → (List Int) → Int → Int → (List Int) → Int → (List (List Int)) → Option α) (Xt0 : Int → (List Int) → (List Int) → (List Int) → Int → (List Int) → Int → Int → (List Int) → Int → Int → (List Int) → (List Int) → (List Int) → Int → (List Int) → Int → Int → (List Int) → Int → (List (List Int)) → Option α) (x1 : List Int) (x59 : Int) (x60 : Int) (c4p0 : Int) (c4p1 : List Int) (c4p2 : List Int) (c4p3 : List Int) (c4p4 : Int) (c4p5 : List Int) (c4p6 : Int) (c4p7 : Int) (c4p8 : List Int) (c4p10 : Int) (c6p0 : Int) (c6p1 : List Int) (c6p2 : List Int) (c6p3 : List Int) (c6p4 : Int) (c6p5 : List Int) (c6p6 : Int) (c6p7 : Int) (c6p8 : List Int) (c6p10 : Int) (c74 : List (List Int)) : Option α :=
  if (decide (x60 < x59)) = true then
    if 0 ≤ (IntKind.i64.wrap (5 + (IntKind.i64.wrap (20 * x60)))) ∧ (IntKind.i64.wrap (5 + (IntKind.i64.wrap (20 * x60)))) ≤ (x1.length : Int) ∧ (x1.length : Int) ≤ (x1.length : Int) then
      if fitB (c74.length + 1) 20 = true then
        Nx x1 x59 (IntKind.i64.wrap (x60 + 1)) c4p0 c4p1 c4p2 c4p3 c4p4 c4p5 c4p6 c4p7 c4p8 c4p10 c6p0 c6p1 c6p2 c6p3 c6p4 c6p5 c6p6 c6p7 c6p8 c6p10 (c74 ++ [(cpyL (List.replicate 20 0) 0 20 (cutL x1 (IntKind.i64.wrap (5 + (IntKind.i64.wrap (20 * x60)))) (x1.length : Int)))])
      else none
    else none
  else
    Xt0 c4p0 c4p1 c4p2 c4p3 c4p4 c4p5 c4p6 c4p7 c4p8 c4p10 c6p0 c6p1 c6p2 c6p3 c6p4 c6p5 c6p6 c6p7 c6p8 c6p10 c74
theorem l0s_eq {α : Type} (k : Nat) (next : St → Option α) (Q : Ex → St → Option α) (x1 : List Int) (x59 : Int) (x60 : Int) (c4p0 : Int) (c4p1 : List Int) (c4p2 : List Int) (c4p3 : List Int) (c4p4 : Int) (c4p5 : List Int) (c4p6 : Int) (c4p7 : Int) (c4p8 : List Int) (c4p10 : Int) (c6p0 : Int) (c6p1 : List Int) (c6p2 : List Int) (c6p3 : List Int) (c6p4 : Int) (c6p5 : List Int) (c6p6 : Int) (c6p7 : Int) (c6p8 : List Int) (c6p10 : Int) (c74 : List (List Int)) :
    rnd C k cd0 24 Q next (St2 x1 x59 x60 c4p0 c4p1 c4p2 c4p3 c4p4 c4p5 c4p6 c4p7 c4p8 c4p10 c6p0 c6p1 c6p2 c6p3 c6p4 c6p5 c6p6 c6p7 c6p8 c6p10 c74) = l0s (fun (x1 : List Int) (x59 : Int) (x60 : Int) (c4p0 : Int) (c4p1 : List Int) (c4p2 : List Int) (c4p3 : List Int) (c4p4 : Int) (c4p5 : List Int) (c4p6 : Int) (c4p7 : Int) (c4p8 : List Int) (c4p10 : Int) (c6p0 : Int) (c6p1 : List Int) (c6p2 : List Int) (c6p3 : List Int) (c6p4 : Int) (c6p5 : List Int) (c6p6 : Int) (c6p7 : Int) (c6p8 : List Int) (c6p10 : Int) (c74 : List (List Int)) => next (St2 x1 x59 x60 c4p0 c4p1 c4p2 c4p3 c4p4 c4p5 c4p6 c4p7 c4p8 c4p10 c6p0 c6p1 c6p2 c6p3 c6p4 c6p5 c6p6 c6p7 c6p8 c6p10 c74)) (fun (c4p0 : Int) (c4p1 : List Int) (c4p2 : List Int) (c4p3 : List Int) (c4p4 : Int) (c4p5 : List Int) (c4p6 : Int) (c4p7 : Int) (c4p8 : List Int) (c4p10 : Int) (c6p0 : Int) (c6p1 : List Int) (c6p2 : List Int) (c6p3 : List Int) (c6p4 : Int) (c6p5 : List Int) (c6p6 : Int) (c6p7 : Int) (c6p8 : List Int) (c6p10 : Int) (c74 : List (List Int)) => Q (.exit 0) (St3 c4p0 c4p1 c4p2 c4p3 c4p4 c4p5 c4p6 c4p7 c4p8 c4p10 c6p0 c6p1 c6p2 c6p3 c6p4 c6p5 c6p6 c6p7 c6p8 c6p10 c74)) x1 x59 x60 c4p0 c4p1 c4p2 c4p3 c4p4 c4p5 c4p6 c4p7 c4p8 c4p10 c6p0 c6p1 c6p2 c6p3 c6p4 c6p5 c6p6 c6p7 c6p8 c6p10 c74 := by
  have h : ∀ (D L : DT α), denJ D L Js C cd0 (lq C 24 next Q) (St2 x1 x59 x60 c4p0 c4p1 c4p2 c4p3 c4p4 c4p5 c4p6 c4p7 c4p8 c4p10 c6p0 c6p1 c6p2 c6p3 c6p4 c6p5 c6p6 c6p7 c6p8 c6p10 c74) =
        if (decide (x60 < x59)) = true then
          if 0 ≤ (IntKind.i64.wrap (5 + (IntKind.i64.wrap (20 * x60)))) ∧ (IntKind.i64.wrap (5 + (IntKind.i64.wrap (20 * x60)))) ≤ (x1.length : Int) ∧ (x1.length : Int) ≤ (x1.length : Int) then
            if fitB (c74.length + 1) 20 = true then
              next (St2 x1 x59 (IntKind.i64.wrap (x60 + 1)) c4p0 c4p1 c4p2 c4p3 c4p4 c4p5 c4p6 c4p7 c4p8 c4p10 c6p0 c6p1 c6p2 c6p3 c6p4 c6p5 c6p6 c6p7 c6p8 c6p10 (c74 ++ [(cpyL (List.replicate 20 0) 0 20 (cutL x1 (IntKind.i64.wrap (5 + (IntKind.i64.wrap (20 * x60)))) (x1.length : Int)))]))
            else none
          else none
        else
          Q (.exit 0) (St3 c4p0 c4p1 c4p2 c4p3 c4p4 c4p5 c4p6 c4p7 c4p8 c4p10 c6p0 c6p1 c6p2 c6p3 c6p4 c6p5 c6p6 c6p7 c6p8 c6p10 c74) := by
    intro D L; kernel_rfl
  refine (show rnd C k cd0 24 Q next (St2 x1 x59 x60 c4p0 c4p1 c4p2 c4p3 c4p4 c4p5 c4p6 c4p7 c4p8 c4p10 c6p0 c6p1 c6p2 c6p3 c6p4 c6p5 c6p6 c6p7 c6p8 c6p10 c74) = denJ (den C k) (lp C k) Js C cd0 (lq C 24 next Q) (St2 x1 x59 x60 c4p0 c4p1 c4p2 c4p3 c4p4 c4p5 c4p6 c4p7 c4p8 c4p10 c6p0 c6p1 c6p2 c6p3 c6p4 c6p5 c6p6 c6p7 c6p8 c6p10 c74) from (denJ_den _ _ _ _ _ _).symm).trans ((h (den C k) (lp C k)).trans ?_)
  first | rfl | kernel_rfl
def l0 {α : Type} (k : Nat) (Xt0 : Int → (List Int) → (List Int) → (List Int) → Int → (List Int) → Int → Int → (List Int) → Int → Int → (List Int) → (List Int) → (List Int) → Int → (List Int) → Int → Int → (List Int) → Int → (List (List Int)) → Option α) : Nat → (List Int) → Int → Int → Int → (List Int) → (List Int) → (List Int) → Int → (List Int) → Int → Int → (List Int) → Int → Int → (List Int) → (List Int) → (List Int) → Int → (List Int) → Int → Int → (List Int) → Int → (List (List Int)) → Option α
  | 0, _, _, _, _, _, _, _, _, _, _, _, _, _, _, _, _, _, _, _, _, _, _, _, _ => none
  | n + 1, x1, x59, x60, c4p0, c4p1, c4p2, c4p3, c4p4, c4p5, c4p6, c4p7, c4p8, c4p10, c6p0, c6p1, c6p2, c6p3, c6p4, c6p5, c6p6, c6p7, c6p8, c6p10, c74 => l0s (l0 k Xt0 n) Xt0 x1 x59 x60 c4p0 c4p1 c4p2 c4p3 c4p4 c4p5 c4p6 c4p7 c4p8 c4p10 c6p0 c6p1 c6p2 c6p3 c6p4 c6p5 c6p6 c6p7 c6p8 c6p10 c74
theorem l0_eq {α : Type} (k : Nat) (Q : Ex → St → Option α) : ∀ (n : Nat) (x1 : List Int) (x59 : Int) (x60 : Int) (c4p0 : Int) (c4p1 : List Int) (c4p2 : List Int) (c4p3 : List Int) (c4p4 : Int) (c4p5 : List Int) (c4p6 : Int) (c4p7 : Int) (c4p8 : List Int) (c4p10 : Int) (c6p0 : Int) (c6p1 : List Int) (c6p2 : List Int) (c6p3 : List Int) (c6p4 : Int) (c6p5 : List Int) (c6p6 : Int) (c6p7 : Int) (c6p8 : List Int) (c6p10 : Int) (c74 : List (List Int)), iter (rnd C k cd0 24 Q) n (St2 x1 x59 x60 c4p0 c4p1 c4p2 c4p3 c4p4 c4p5 c4p6 c4p7 c4p8 c4p10 c6p0 c6p1 c6p2 c6p3 c6p4 c6p5 c6p6 c6p7 c6p8 c6p10 c74) = l0 k (fun (c4p0 : Int) (c4p1 : List Int) (c4p2 : List Int) (c4p3 : List Int) (c4p4 : Int) (c4p5 : List Int) (c4p6 : Int) (c4p7 : Int) (c4p8 : List Int) (c4p10 : Int) (c6p0 : Int) (c6p1 : List Int) (c6p2 : List Int) (c6p3 : List Int) (c6p4 : Int) (c6p5 : List Int) (c6p6 : Int) (c6p7 : Int) (c6p8 : List Int) (c6p10 : Int) (c74 : List (List Int)) => Q (.exit 0) (St3 c4p0 c4p1 c4p2 c4p3 c4p4 c4p5 c4p6 c4p7 c4p8 c4p10 c6p0 c6p1 c6p2 c6p3 c6p4 c6p5 c6p6 c6p7 c6p8 c6p10 c74)) n x1 x59 x60 c4p0 c4p1 c4p2 c4p3 c4p4 c4p5 c4p6 c4p7 c4p8 c4p10 c6p0 c6p1 c6p2 c6p3 c6p4 c6p5 c6p6 c6p7 c6p8 c6p10 c74
  | 0, _, _, _, _, _, _, _, _, _, _, _, _, _, _, _, _, _, _, _, _, _, _, _, _ => rfl
  | n + 1, x1, x59, x60, c4p0, c4p1, c4p2, c4p3, c4p4, c4p5, c4p6, c4p7, c4p8, c4p10, c6p0, c6p1, c6p2, c6p3, c6p4, c6p5, c6p6, c6p7, c6p8, c6p10, c74 => (iter_succ _ _ _).trans ((l0s_eq k (iter (rnd C k cd0 24 Q) n) Q x1 x59 x60 c4p0 c4p1 c4p2 c4p3 c4p4 c4p5 c4p6 c4p7 c4p8 c4p10 c6p0 c6p1 c6p2 c6p3 c6p4 c6p5 c6p6 c6p7 c6p8 c6p10 c74).trans (congrArg (fun N => l0s N (fun (c4p0 : Int) (c4p1 : List Int) (c4p2 : List Int) (c4p3 : List Int) (c4p4 : Int) (c4p5 : List Int) (c4p6 : Int) (c4p7 : Int) (c4p8 : List Int) (c4p10 : Int) (c6p0 : Int) (c6p1 : List Int) (c6p2 : List Int) (c6p3 : List Int) (c6p4 : Int) (c6p5 : List Int) (c6p6 : Int) (c6p7 : Int) (c6p8 : List Int) (c6p10 : Int) (c74 : List (List Int)) => Q (.exit 0) (St3 c4p0 c4p1 c4p2 c4p3 c4p4 c4p5 c4p6 c4p7 c4p8 c4p10 c6p0 c6p1 c6p2 c6p3 c6p4 c6p5 c6p6 c6p7 c6p8 c6p10 c74)) x1 x59 x60 c4p0 c4p1 c4p2 c4p3 c4p4 c4p5 c4p6 c4p7 c4p8 c4p10 c6p0 c6p1 c6p2 c6p3 c6p4 c6p5 c6p6 c6p7 c6p8 c6p10 c74) (funext fun x1 => funext fun x59 => funext fun x60 => funext fun c4p0 => funext fun c4p1 => funext fun c4p2 => funext fun c4p3 => funext fun c4p4 => funext fun c4p5 => funext fun c4p6 => funext fun c4p7 => funext fun c4p8 => funext fun c4p10 => funext fun c6p0 => funext fun c6p1 => funext fun c6p2 => funext fun c6p3 => funext fun c6p4 => funext fun c6p5 => funext fun c6p6 => funext fun c6p7 => funext fun c6p8 => funext fun c6p10 => funext fun c74 => l0_eq k Q n x1 x59 x60 c4p0 c4p1 c4p2 c4p3 c4p4 c4p5 c4p6 c4p7 c4p8 c4p10 c6p0 c6p1 c6p2 c6p3 c6p4 c6p5 c6p6 c6p7 c6p8 c6p10 c74)))
theorem l0_congr {α : Type} (k : Nat) (Xt0 : Int → (List Int) → (List Int) → (List Int) → Int → (List Int) → Int → Int → (List Int) → Int → Int → (List Int) → (List Int) → (List Int) → Int → (List Int) → Int → Int → (List Int) → Int → (List (List Int)) → Option α) (Xt0q : Int → (List Int) → (List Int) → (List Int) → Int → (List Int) → Int → Int → (List Int) → Int → Int → (List Int) → (List Int) → (List Int) → Int → (List Int) → Int → Int → (List Int) → Int → (List (List Int)) → Option α) (hXt0 : ∀ (c4p0 : Int) (c4p1 : List Int) (c4p2 : List Int) (c4p3 : List Int) (c4p4 : Int) (c4p5 : List Int) (c4p6 : Int) (c4p7 : Int) (c4p8 : List Int) (c4p10 : Int) (c6p0 : Int) (c6p1 : List Int) (c6p2 : List Int) (c6p3 : List Int) (c6p4 : Int) (c6p5 : List Int) (c6p6 : Int) (c6p7 : Int) (c6p8 : List Int) (c6p10 : Int) (c74 : List (List Int)), Xt0 c4p0 c4p1 c4p2 c4p3 c4p4 c4p5 c4p6 c4p7 c4p8 c4p10 c6p0 c6p1 c6p2 c6p3 c6p4 c6p5 c6p6 c6p7 c6p8 c6p10 c74 = Xt0q c4p0 c4p1 c4p2 c4p3 c4p4 c4p5 c4p6 c4p7 c4p8 c4p10 c6p0 c6p1 c6p2 c6p3 c6p4 c6p5 c6p6 c6p7 c6p8 c6p10 c74) (n : Nat) (x1 : List Int) (x59 : Int) (x60 : Int) (c4p0 : Int) (c4p1 : List Int) (c4p2 : List Int) (c4p3 : List Int) (c4p4 : Int) (c4p5 : List Int) (c4p6 : Int) (c4p7 : Int) (c4p8 : List Int) (c4p10 : Int) (c6p0 : Int) (c6p1 : List Int) (c6p2 : List Int) (c6p3 : List Int) (c6p4 : Int) (c6p5 : List Int) (c6p6 : Int) (c6p7 : Int) (c6p8 : List Int) (c6p10 : Int) (c74 : List (List Int)) : l0 k Xt0 n x1 x59 x60 c4p0 c4p1 c4p2 c4p3 c4p4 c4p5 c4p6 c4p7 c4p8 c4p10 c6p0 c6p1 c6p2 c6p3 c6p4 c6p5 c6p6 c6p7 c6p8 c6p10 c74 = l0 k Xt0q n x1 x59 x60 c4p0 c4p1 c4p2 c4p3 c4p4 c4p5 c4p6 c4p7 c4p8 c4p10 c6p0 c6p1 c6p2 c6p3 c6p4 c6p5 c6p6 c6p7 c6p8 c6p10 c74 := by
  obtain rfl : Xt0 = Xt0q := by funext c4p0; funext c4p1; funext c4p2; funext c4p3; funext c4p4; funext c4p5; funext c4p6; funext c4p7; funext c4p8; funext c4p10; funext c6p0; funext c6p1; funext c6p2; funext c6p3; funext c6p4; funext c6p5; funext c6p6; funext c6p7; funext c6p8; funext c6p10; funext c74; exact hXt0 c4p0 c4p1 c4p2 c4p3 c4p4 c4p5 c4p6 c4p7 c4p8 c4p10 c6p0 c6p1 c6p2 c6p3 c6p4 c6p5 c6p6 c6p7 c6p8 c6p10 c74
  rfl
noncomputable def cd1 : Code := cR (cR (cR (cR (cR (cR (cB Try.f213))))))
def St4 (c4p0 : Int) (c4p1 : List Int) (c4p2 : List Int) (c4p3 : List Int) (c4p4 : Int) (c4p5 : List Int) (c4p6 : Int) (c4p7 : Int) (c4p8 : List Int) (c4p10 : Int) (c6p0 : Int) (c6p1 : List Int) (c6p2 : List Int) (c6p3 : List Int) (c6p4 : Int) (c6p5 : List Int) (c6p6 : Int) (c6p7 : Int) (c6p8 : List Int) (c6p10 : Int) (c74 : List (List Int)) : St := stL 78 [(4, .ref 4 0 []), (6, .ref 6 0 [])] [(4, .cell (.pair (.int .i64) (.pair (.arr 4 (.int .u64)) (.pair (.arr 4 (.int .u64)) (.pair (.arr 32 (.int .u8)) (.pair (.int .i64) (.pair (.arr 32 (.int .u8)) (.pair (.int .i64) (.pair (.int .i64) (.pair .str (.pair (.sl (.int .u8)) (.pair (.int .i64) (.pair (.sl (.arr 20 (.int .u8))) .unit)))))))))))) (.agg (.pair (.int .i64) (.pair (.arr 4 (.int .u64)) (.pair (.arr 4 (.int .u64)) (.pair (.arr 32 (.int .u8)) (.pair (.int .i64) (.pair (.arr 32 (.int .u8)) (.pair (.int .i64) (.pair (.int .i64) (.pair .str (.pair (.sl (.int .u8)) (.pair (.int .i64) (.pair (.sl (.arr 20 (.int .u8))) .unit)))))))))))) [.data (.int .i64) c4p0, .data (.arr 4 (.int .u64)) c4p1, .data (.arr 4 (.int .u64)) c4p2, .data (.arr 32 (.int .u8)) c4p3, .data (.int .i64) c4p4, .data (.arr 32 (.int .u8)) c4p5, .data (.int .i64) c4p6, .data (.int .i64) c4p7, .data .str c4p8, .full (.int .u8) [], .data (.int .i64) c4p10, .full (.arr 20 (.int .u8)) []]) false), (6, .cell (.pair (.int .i64) (.pair (.arr 4 (.int .u64)) (.pair (.arr 4 (.int .u64)) (.pair (.arr 32 (.int .u8)) (.pair (.int .i64) (.pair (.arr 32 (.int .u8)) (.pair (.int .i64) (.pair (.int .i64) (.pair .str (.pair (.sl (.int .u8)) (.pair (.int .i64) (.pair (.sl (.arr 20 (.int .u8))) .unit)))))))))))) (.agg (.pair (.int .i64) (.pair (.arr 4 (.int .u64)) (.pair (.arr 4 (.int .u64)) (.pair (.arr 32 (.int .u8)) (.pair (.int .i64) (.pair (.arr 32 (.int .u8)) (.pair (.int .i64) (.pair (.int .i64) (.pair .str (.pair (.sl (.int .u8)) (.pair (.int .i64) (.pair (.sl (.arr 20 (.int .u8))) .unit)))))))))))) [.data (.int .i64) c6p0, .data (.arr 4 (.int .u64)) c6p1, .data (.arr 4 (.int .u64)) c6p2, .data (.arr 32 (.int .u8)) c6p3, .data (.int .i64) c6p4, .data (.arr 32 (.int .u8)) c6p5, .data (.int .i64) c6p6, .data (.int .i64) c6p7, .data .str c6p8, .full (.int .u8) [], .data (.int .i64) c6p10, .app 74 0]) false), (74, .buf (.arr 20 (.int .u8)) c74 0 true)]
def j0 {α : Type} (Rt : Int → Int → (List Int) → (List Int) → (List Int) → Int → (List Int) → Int → Int → (List Int) → Int → (List (List Int)) → Option α) (c4p0 : Int) (c4p1 : List Int) (c4p2 : List Int) (c4p3 : List Int) (c4p4 : Int) (c4p5 : List Int) (c4p6 : Int) (c4p7 : Int) (c4p8 : List Int) (c4p10 : Int) (c6p0 : Int) (c6p1 : List Int) (c6p2 : List Int) (c6p3 : List Int) (c6p4 : Int) (c6p5 : List Int) (c6p6 : Int) (c6p7 : Int) (c6p8 : List Int) (c6p10 : Int) (c74 : List (List Int)) : Option α :=
  Rt 0 c6p0 c6p1 c6p2 c6p3 c6p4 c6p5 c6p6 c6p7 c6p8 c6p10 c74
theorem j0_eq {α : Type} (k : Nat) (Q : Ex → St → Option α) (c4p0 : Int) (c4p1 : List Int) (c4p2 : List Int) (c4p3 : List Int) (c4p4 : Int) (c4p5 : List Int) (c4p6 : Int) (c4p7 : Int) (c4p8 : List Int) (c4p10 : Int) (c6p0 : Int) (c6p1 : List Int) (c6p2 : List Int) (c6p3 : List Int) (c6p4 : Int) (c6p5 : List Int) (c6p6 : Int) (c6p7 : Int) (c6p8 : List Int) (c6p10 : Int) (c74 : List (List Int)) :
    (den C k) cd1 Q (St4 c4p0 c4p1 c4p2 c4p3 c4p4 c4p5 c4p6 c4p7 c4p8 c4p10 c6p0 c6p1 c6p2 c6p3 c6p4 c6p5 c6p6 c6p7 c6p8 c6p10 c74) = j0 (fun (x5 : Int) (c4p0 : Int) (c4p1 : List Int) (c4p2 : List Int) (c4p3 : List Int) (c4p4 : Int) (c4p5 : List Int) (c4p6 : Int) (c4p7 : Int) (c4p8 : List Int) (c4p10 : Int) (c4p11 : List (List Int)) => Q .ret (St1 x5 c4p0 c4p1 c4p2 c4p3 c4p4 c4p5 c4p6 c4p7 c4p8 c4p10 c4p11)) c4p0 c4p1 c4p2 c4p3 c4p4 c4p5 c4p6 c4p7 c4p8 c4p10 c6p0 c6p1 c6p2 c6p3 c6p4 c6p5 c6p6 c6p7 c6p8 c6p10 c74 := by
  have h : ∀ (D L : DT α), denJ D L Js C cd1 Q (St4 c4p0 c4p1 c4p2 c4p3 c4p4 c4p5 c4p6 c4p7 c4p8 c4p10 c6p0 c6p1 c6p2 c6p3 c6p4 c6p5 c6p6 c6p7 c6p8 c6p10 c74) =
        Q .ret (St1 0 c6p0 c6p1 c6p2 c6p3 c6p4 c6p5 c6p6 c6p7 c6p8 c6p10 c74) := by
    intro D L; kernel_rfl
  refine (show (den C k) cd1 Q (St4 c4p0 c4p1 c4p2 c4p3 c4p4 c4p5 c4p6 c4p7 c4p8 c4p10 c6p0 c6p1 c6p2 c6p3 c6p4 c6p5 c6p6 c6p7 c6p8 c6p10 c74) = denJ (den C k) (lp C k) Js C cd1 Q (St4 c4p0 c4p1 c4p2 c4p3 c4p4 c4p5 c4p6 c4p7 c4p8 c4p10 c6p0 c6p1 c6p2 c6p3 c6p4 c6p5 c6p6 c6p7 c6p8 c6p10 c74) from (denJ_den _ _ _ _ _ _).symm).trans ((h (den C k) (lp C k)).trans ?_)
  first | rfl | kernel_rfl
theorem a0 {α : Type} (k : Nat) (Q : Ex → St → Option α) (x1 : List Int) (x59 : Int) (x60 : Int) (c4p0 : Int) (c4p1 : List Int) (c4p2 : List Int) (c4p3 : List Int) (c4p4 : Int) (c4p5 : List Int) (c4p6 : Int) (c4p7 : Int) (c4p8 : List Int) (c4p10 : Int) (c6p0 : Int) (c6p1 : List Int) (c6p2 : List Int) (c6p3 : List Int) (c6p4 : Int) (c6p5 : List Int) (c6p6 : Int) (c6p7 : Int) (c6p8 : List Int) (c6p10 : Int) (c74 : List (List Int)) :
    (lp C k) cd0 (blkQ C 0 (sq (den C k) (lp C k) Js C cd1 Q)) (St2 x1 x59 x60 c4p0 c4p1 c4p2 c4p3 c4p4 c4p5 c4p6 c4p7 c4p8 c4p10 c6p0 c6p1 c6p2 c6p3 c6p4 c6p5 c6p6 c6p7 c6p8 c6p10 c74) = l0 k (fun (c4p0 : Int) (c4p1 : List Int) (c4p2 : List Int) (c4p3 : List Int) (c4p4 : Int) (c4p5 : List Int) (c4p6 : Int) (c4p7 : Int) (c4p8 : List Int) (c4p10 : Int) (c6p0 : Int) (c6p1 : List Int) (c6p2 : List Int) (c6p3 : List Int) (c6p4 : Int) (c6p5 : List Int) (c6p6 : Int) (c6p7 : Int) (c6p8 : List Int) (c6p10 : Int) (c74 : List (List Int)) => j0 (fun (x5 : Int) (c4p0 : Int) (c4p1 : List Int) (c4p2 : List Int) (c4p3 : List Int) (c4p4 : Int) (c4p5 : List Int) (c4p6 : Int) (c4p7 : Int) (c4p8 : List Int) (c4p10 : Int) (c4p11 : List (List Int)) => Q .ret (St1 x5 c4p0 c4p1 c4p2 c4p3 c4p4 c4p5 c4p6 c4p7 c4p8 c4p10 c4p11)) c4p0 c4p1 c4p2 c4p3 c4p4 c4p5 c4p6 c4p7 c4p8 c4p10 c6p0 c6p1 c6p2 c6p3 c6p4 c6p5 c6p6 c6p7 c6p8 c6p10 c74) k x1 x59 x60 c4p0 c4p1 c4p2 c4p3 c4p4 c4p5 c4p6 c4p7 c4p8 c4p10 c6p0 c6p1 c6p2 c6p3 c6p4 c6p5 c6p6 c6p7 c6p8 c6p10 c74 :=
  (show (lp C k) cd0 (blkQ C 0 (sq (den C k) (lp C k) Js C cd1 Q)) (St2 x1 x59 x60 c4p0 c4p1 c4p2 c4p3 c4p4 c4p5 c4p6 c4p7 c4p8 c4p10 c6p0 c6p1 c6p2 c6p3 c6p4 c6p5 c6p6 c6p7 c6p8 c6p10 c74) = iter (rnd C k cd0 24 (blkQ C 0 (sq (den C k) (lp C k) Js C cd1 Q))) k (St2 x1 x59 x60 c4p0 c4p1 c4p2 c4p3 c4p4 c4p5 c4p6 c4p7 c4p8 c4p10 c6p0 c6p1 c6p2 c6p3 c6p4 c6p5 c6p6 c6p7 c6p8 c6p10 c74) by kernel_rfl).trans ((l0_eq k (blkQ C 0 (sq (den C k) (lp C k) Js C cd1 Q)) k x1 x59 x60 c4p0 c4p1 c4p2 c4p3 c4p4 c4p5 c4p6 c4p7 c4p8 c4p10 c6p0 c6p1 c6p2 c6p3 c6p4 c6p5 c6p6 c6p7 c6p8 c6p10 c74).trans (l0_congr k _ _ (fun c4p0 c4p1 c4p2 c4p3 c4p4 c4p5 c4p6 c4p7 c4p8 c4p10 c6p0 c6p1 c6p2 c6p3 c6p4 c6p5 c6p6 c6p7 c6p8 c6p10 c74 => ((show (blkQ C 0 (sq (den C k) (lp C k) Js C cd1 Q)) (.exit 0) (St3 c4p0 c4p1 c4p2 c4p3 c4p4 c4p5 c4p6 c4p7 c4p8 c4p10 c6p0 c6p1 c6p2 c6p3 c6p4 c6p5 c6p6 c6p7 c6p8 c6p10 c74) = (den C k) cd1 Q (St4 c4p0 c4p1 c4p2 c4p3 c4p4 c4p5 c4p6 c4p7 c4p8 c4p10 c6p0 c6p1 c6p2 c6p3 c6p4 c6p5 c6p6 c6p7 c6p8 c6p10 c74) by kernel_rfl).trans (by simp only [j0_eq]))) k x1 x59 x60 c4p0 c4p1 c4p2 c4p3 c4p4 c4p5 c4p6 c4p7 c4p8 c4p10 c6p0 c6p1 c6p2 c6p3 c6p4 c6p5 c6p6 c6p7 c6p8 c6p10 c74))
def top {α : Type} (k : Nat) (Rt : Int → Int → (List Int) → (List Int) → (List Int) → Int → (List Int) → Int → Int → (List Int) → Int → (List (List Int)) → Option α) (x0 : Unit) (x1 : List Int) : Option α :=
  cond (decide (0 ≤ (4 : Int) ∧ (4 : Int) < (x1.length : Int)) || !((decide ((x1.length : Int) < 5)) == false)) (
    if (cond (decide ((x1.length : Int) < 5)) true (decide ((x1.length : Int) < (IntKind.i64.wrap (5 + (IntKind.i64.wrap (20 * (IntKind.i64.wrap (List.getD x1 4 0))))))))) = true then
      Rt 4 0 [0, 0, 0, 0] [0, 0, 0, 0] (List.replicate 32 0) 0 (List.replicate 32 0) 0 0 [] 0 []
    else
      if 0 ≤ (0 : Int) ∧ (0 : Int) < (x1.length : Int) then
        if 0 ≤ (1 : Int) ∧ (1 : Int) < (x1.length : Int) then
          if 0 ≤ (2 : Int) ∧ (2 : Int) < (x1.length : Int) then
            if 0 ≤ (3 : Int) ∧ (3 : Int) < (x1.length : Int) then
              if 0 ≤ (4 : Int) ∧ (4 : Int) < (x1.length : Int) then
                if (decide ((x1.length : Int) > (IntKind.i64.wrap (5 + (IntKind.i64.wrap (20 * (IntKind.i64.wrap (List.getD x1 4 0)))))))) = true then
                  Rt 3 0 [0, 0, 0, 0] [0, 0, 0, 0] (List.replicate 32 0) 0 (List.replicate 32 0) 0 0 [] 0 []
                else
                  l0 k (fun (c4p0 : Int) (c4p1 : List Int) (c4p2 : List Int) (c4p3 : List Int) (c4p4 : Int) (c4p5 : List Int) (c4p6 : Int) (c4p7 : Int) (c4p8 : List Int) (c4p10 : Int) (c6p0 : Int) (c6p1 : List Int) (c6p2 : List Int) (c6p3 : List Int) (c6p4 : Int) (c6p5 : List Int) (c6p6 : Int) (c6p7 : Int) (c6p8 : List Int) (c6p10 : Int) (c74 : List (List Int)) => j0 Rt c4p0 c4p1 c4p2 c4p3 c4p4 c4p5 c4p6 c4p7 c4p8 c4p10 c6p0 c6p1 c6p2 c6p3 c6p4 c6p5 c6p6 c6p7 c6p8 c6p10 c74) k x1 (IntKind.i64.wrap (List.getD x1 4 0)) 0 0 [0, 0, 0, 0] [0, 0, 0, 0] (List.replicate 32 0) 0 (List.replicate 32 0) 0 0 [] 0 0 [0, 0, 0, 0] [0, 0, 0, 0] (List.replicate 32 0) 0 (List.replicate 32 0) 0 0 [] (bor .i64 (bor .i64 (bor .i64 (shlI .i64 (IntKind.i64.wrap (List.getD x1 0 0)) 24) (shlI .i64 (IntKind.i64.wrap (List.getD x1 1 0)) 16)) (shlI .i64 (IntKind.i64.wrap (List.getD x1 2 0)) 8)) (IntKind.i64.wrap (List.getD x1 3 0))) []
              else none
            else none
          else none
        else none
      else none) none
theorem top_eq {α : Type} (k : Nat) (Q : Ex → St → Option α) (x0 : Unit) (x1 : List Int) :
    (den C k) (cB Try.f213) Q (St0 x0 x1) = top k (fun (x5 : Int) (c4p0 : Int) (c4p1 : List Int) (c4p2 : List Int) (c4p3 : List Int) (c4p4 : Int) (c4p5 : List Int) (c4p6 : Int) (c4p7 : Int) (c4p8 : List Int) (c4p10 : Int) (c4p11 : List (List Int)) => Q .ret (St1 x5 c4p0 c4p1 c4p2 c4p3 c4p4 c4p5 c4p6 c4p7 c4p8 c4p10 c4p11)) x0 x1 := by
  have h : ∀ (D L : DT α), denJ D L Js C (cB Try.f213) Q (St0 x0 x1) =
        cond (decide (0 ≤ (4 : Int) ∧ (4 : Int) < (x1.length : Int)) || !((decide ((x1.length : Int) < 5)) == false)) (
          if (cond (decide ((x1.length : Int) < 5)) true (decide ((x1.length : Int) < (IntKind.i64.wrap (5 + (IntKind.i64.wrap (20 * (IntKind.i64.wrap (List.getD x1 4 0))))))))) = true then
            Q .ret (St1 4 0 [0, 0, 0, 0] [0, 0, 0, 0] (List.replicate 32 0) 0 (List.replicate 32 0) 0 0 [] 0 [])
          else
            if 0 ≤ (0 : Int) ∧ (0 : Int) < (x1.length : Int) then
              if 0 ≤ (1 : Int) ∧ (1 : Int) < (x1.length : Int) then
                if 0 ≤ (2 : Int) ∧ (2 : Int) < (x1.length : Int) then
                  if 0 ≤ (3 : Int) ∧ (3 : Int) < (x1.length : Int) then
                    if 0 ≤ (4 : Int) ∧ (4 : Int) < (x1.length : Int) then
                      if (decide ((x1.length : Int) > (IntKind.i64.wrap (5 + (IntKind.i64.wrap (20 * (IntKind.i64.wrap (List.getD x1 4 0)))))))) = true then
                        Q .ret (St1 3 0 [0, 0, 0, 0] [0, 0, 0, 0] (List.replicate 32 0) 0 (List.replicate 32 0) 0 0 [] 0 [])
                      else
                        L cd0 (blkQ C 0 (sq D L Js C cd1 Q)) (St2 x1 (IntKind.i64.wrap (List.getD x1 4 0)) 0 0 [0, 0, 0, 0] [0, 0, 0, 0] (List.replicate 32 0) 0 (List.replicate 32 0) 0 0 [] 0 0 [0, 0, 0, 0] [0, 0, 0, 0] (List.replicate 32 0) 0 (List.replicate 32 0) 0 0 [] (bor .i64 (bor .i64 (bor .i64 (shlI .i64 (IntKind.i64.wrap (List.getD x1 0 0)) 24) (shlI .i64 (IntKind.i64.wrap (List.getD x1 1 0)) 16)) (shlI .i64 (IntKind.i64.wrap (List.getD x1 2 0)) 8)) (IntKind.i64.wrap (List.getD x1 3 0))) [])
                    else none
                  else none
                else none
              else none
            else none) none := by
    intro D L; kernel_rfl
  refine (show (den C k) (cB Try.f213) Q (St0 x0 x1) = denJ (den C k) (lp C k) Js C (cB Try.f213) Q (St0 x0 x1) from (denJ_den _ _ _ _ _ _).symm).trans ((h (den C k) (lp C k)).trans ?_)
  simp only [a0]
  first | rfl | kernel_rfl
def run (x0 : Unit) (x1 : List Int) : Option ((Int × List Int × List Int × List Int × Int × List Int × Int × Int × List Int × List Int × Int × List (List Int) × Unit) × Int × Unit) := top (α := (Int × List Int × List Int × List Int × Int × List Int × Int × Int × List Int × List Int × Int × List (List Int) × Unit) × Int × Unit) fuel (fun (x5 : Int) (c4p0 : Int) (c4p1 : List Int) (c4p2 : List Int) (c4p3 : List Int) (c4p4 : Int) (c4p5 : List Int) (c4p6 : Int) (c4p7 : Int) (c4p8 : List Int) (c4p10 : Int) (c4p11 : List (List Int)) => some ((c4p0, c4p1, c4p2, c4p3, c4p4, c4p5, c4p6, c4p7, c4p8, [], c4p10, c4p11, ()), x5, ())) x0 x1
def F : Fn := ⟨(.pair .unit (.pair (.sl (.int .u8)) .unit)), (.pair (.pair (.int .i64) (.pair (.arr 4 (.int .u64)) (.pair (.arr 4 (.int .u64)) (.pair (.arr 32 (.int .u8)) (.pair (.int .i64) (.pair (.arr 32 (.int .u8)) (.pair (.int .i64) (.pair (.int .i64) (.pair .str (.pair (.sl (.int .u8)) (.pair (.int .i64) (.pair (.sl (.arr 20 (.int .u8))) .unit)))))))))))) (.pair (.int .i64) .unit)), true, fun x => run x.1 x.2.1⟩
set_option maxRecDepth 100000 in
theorem con : Con Try.prog 213 F := by
  refine con_of_den (C := C) (ctx_ok (by kernel_rfl) (by kernel_rfl) (by kernel_rfl) (by kernel_rfl) trivial) (by kernel_rfl) Try.func213 (c := cB Try.f213) (by kernel_rfl) (by kernel_rfl) F fuel (fun x => by simp [F, spread, Try.ntmps213]) ?_
  intro x r h
  rw [← h]
  have h1 : start F Try.f213.ntmps x = (St0 x.1 x.2.1) := by kernel_rfl
  rw [h1]
  refine (top_eq fuel (fin C Try.f213.results.toList F.rs F.multi) x.1 x.2.1).trans ?_
  kernel_rfl
theorem named : Named Try.prog 213 := named_of Try.func213 (by kernel_rfl) (by kernel_rfl)
end Go.Bx.load_turn__get
namespace Go.Bx.load_Decode
open Go Go.Proofs Go.Bx
set_option maxRecDepth 100000
set_option linter.unusedVariables false
def Js : List Nat := []
def C : Ctx := ⟨[(3, (.int .i64)), (5, (.int .u8)), (31, (.int .i64)), (40, (.sl (.int .u8))), (105, (.pair (.int .i64) (.pair (.arr 4 (.int .u64)) (.pair (.arr 4 (.int .u64)) (.pair (.arr 32 (.int .u8)) (.pair (.int .i64) (.pair (.arr 32 (.int .u8)) (.pair (.int .i64) (.pair (.int .i64) (.pair .str (.pair (.sl (.int .u8)) (.pair (.int .i64) (.pair (.sl (.arr 20 (.int .u8))) .unit)))))))))))))], [], [], fnL [(147, Go.Bx.load_Check.F), (202, Go.Bx.load_transfer__get.F), (209, Go.Bx.load_meta__get.F), (213, Go.Bx.load_turn__get.F)], shL [(146, [.alt Go.Bx.load_kindOf_s0.Sp])], [(17, 48)], invL [(202, [("bascule/load.get", 202)]), (204, [("bascule/load.get", 209)]), (205, [("bascule/load.get", 213)])], [(2, [2, 3])], [(2, [.dat false 2 []])], [], 0, 0⟩
def St0 (x0 : List Int) : St := stL 47 [(0, .data (.sl (.int .u8)) x0)] []
def St1 (x3 : Int) (c2 : Int × List Int × List Int × List Int × Int × List Int × Int × Int × List Int × List Int × Int × List (List Int) × Unit) : St := stL 47 [(2, .ref 2 0 []), (3, .data (.int .i64) x3)] [(2, .cell (.pair (.int .i64) (.pair (.arr 4 (.int .u64)) (.pair (.arr 4 (.int .u64)) (.pair (.arr 32 (.int .u8)) (.pair (.int .i64) (.pair (.arr 32 (.int .u8)) (.pair (.int .i64) (.pair (.int .i64) (.pair .str (.pair (.sl (.int .u8)) (.pair (.int .i64) (.pair (.sl (.arr 20 (.int .u8))) .unit)))))))))))) (.data (.pair (.int .i64) (.pair (.arr 4 (.int .u64)) (.pair (.arr 4 (.int .u64)) (.pair (.arr 32 (.int .u8)) (.pair (.int .i64) (.pair (.arr 32 (.int .u8)) (.pair (.int .i64) (.pair (.int .i64) (.pair .str (.pair (.sl (.int .u8)) (.pair (.int .i64) (.pair (.sl (.arr 20 (.int .u8))) .unit)))))))))))) c2) false)]
def top {α : Type} (Rt : Int → (Int × List Int × List Int × List Int × Int × List Int × Int × Int × List Int × List Int × Int × List (List Int) × Unit) → Option α) (x0 : List Int) : Option α :=
  if ((x0.length : Int) == 0) = true then
    Rt 4 (0, [0, 0, 0, 0], [0, 0, 0, 0], (List.replicate 32 0), 0, (List.replicate 32 0), 0, 0, [], [], 0, [], ())
  else
    if 0 ≤ (0 : Int) ∧ (0 : Int) < (x0.length : Int) then
      (Go.Bx.load_kindOf_s0.run (IntKind.i64.wrap (List.getD x0 0 0))).bind fun y1 => (Sum.elim (fun y2 =>
        if (not y2.2.1) = true then
          Rt 2 (0, [0, 0, 0, 0], [0, 0, 0, 0], (List.replicate 32 0), 0, (List.replicate 32 0), 0, 0, [], [], 0, [], ())
        else
          if 0 ≤ (1 : Int) ∧ (1 : Int) ≤ (x0.length : Int) ∧ (x0.length : Int) ≤ (x0.length : Int) then
            (Go.Bx.load_transfer__get.run y2.1 (cutL x0 1 (x0.length : Int))).bind fun y6 =>
            if (y6.2.1 != 0) = true then
              Rt y6.2.1 (0, [0, 0, 0, 0], [0, 0, 0, 0], (List.replicate 32 0), 0, (List.replicate 32 0), 0, 0, [], [], 0, [], ())
            else
              if 0 ≤ (0 : Int) ∧ (0 : Int) < (x0.length : Int) then
                (Go.Bx.load_Check.run ((IntKind.i64.wrap (List.getD x0 0 0)), y6.1.2)).bind fun y7 =>
                if (y7 != 0) = true then
                  Rt 3 (0, [0, 0, 0, 0], [0, 0, 0, 0], (List.replicate 32 0), 0, (List.replicate 32 0), 0, 0, [], [], 0, [], ())
                else
                  Rt 0 ((IntKind.i64.wrap (List.getD x0 0 0)), y6.1.2)
              else none
          else none) (Sum.elim (fun y3 =>
        if (not y3.2.1) = true then
          Rt 2 (0, [0, 0, 0, 0], [0, 0, 0, 0], (List.replicate 32 0), 0, (List.replicate 32 0), 0, 0, [], [], 0, [], ())
        else
          if 0 ≤ (1 : Int) ∧ (1 : Int) ≤ (x0.length : Int) ∧ (x0.length : Int) ≤ (x0.length : Int) then
            (Go.Bx.load_meta__get.run y3.1 (cutL x0 1 (x0.length : Int))).bind fun y8 =>
            if (y8.2.1 != 0) = true then
              Rt y8.2.1 (0, [0, 0, 0, 0], [0, 0, 0, 0], (List.replicate 32 0), 0, (List.replicate 32 0), 0, 0, [], [], 0, [], ())
            else
              if 0 ≤ (0 : Int) ∧ (0 : Int) < (x0.length : Int) then
                (Go.Bx.load_Check.run ((IntKind.i64.wrap (List.getD x0 0 0)), y8.1.2)).bind fun y9 =>
                if (y9 != 0) = true then
                  Rt 3 (0, [0, 0, 0, 0], [0, 0, 0, 0], (List.replicate 32 0), 0, (List.replicate 32 0), 0, 0, [], [], 0, [], ())
                else
                  Rt 0 ((IntKind.i64.wrap (List.getD x0 0 0)), y8.1.2)
              else none
          else none) (Sum.elim (fun y4 =>
        if (not y4.2.1) = true then
          Rt 2 (0, [0, 0, 0, 0], [0, 0, 0, 0], (List.replicate 32 0), 0, (List.replicate 32 0), 0, 0, [], [], 0, [], ())
        else
          if 0 ≤ (1 : Int) ∧ (1 : Int) ≤ (x0.length : Int) ∧ (x0.length : Int) ≤ (x0.length : Int) then
            (Go.Bx.load_turn__get.run y4.1 (cutL x0 1 (x0.length : Int))).bind fun y10 =>
            if (y10.2.1 != 0) = true then
              Rt y10.2.1 (0, [0, 0, 0, 0], [0, 0, 0, 0], (List.replicate 32 0), 0, (List.replicate 32 0), 0, 0, [], [], 0, [], ())
            else
              if 0 ≤ (0 : Int) ∧ (0 : Int) < (x0.length : Int) then
                (Go.Bx.load_Check.run ((IntKind.i64.wrap (List.getD x0 0 0)), y10.1.2)).bind fun y11 =>
                if (y11 != 0) = true then
                  Rt 3 (0, [0, 0, 0, 0], [0, 0, 0, 0], (List.replicate 32 0), 0, (List.replicate 32 0), 0, 0, [], [], 0, [], ())
                else
                  Rt 0 ((IntKind.i64.wrap (List.getD x0 0 0)), y10.1.2)
              else none
          else none) (Sum.elim (fun y5 =>
        if (not y5.1) = true then
          Rt 2 (0, [0, 0, 0, 0], [0, 0, 0, 0], (List.replicate 32 0), 0, (List.replicate 32 0), 0, 0, [], [], 0, [], ())
        else
          if 0 ≤ (1 : Int) ∧ (1 : Int) ≤ (x0.length : Int) ∧ (x0.length : Int) ≤ (x0.length : Int) then
            none
          else none) (fun (e : Empty) => e.elim))))) y1
    else none
theorem top_eq {α : Type} (k : Nat) (Q : Ex → St → Option α) (x0 : List Int) :
    (den C k) (cB Try.f76) Q (St0 x0) = top (fun (x3 : Int) (c2 : Int × List Int × List Int × List Int × Int × List Int × Int × Int × List Int × List Int × Int × List (List Int) × Unit) => Q .ret (St1 x3 c2)) x0 := by
  have h : ∀ (D L : DT α), denJ D L Js C (cB Try.f76) Q (St0 x0) =
        if ((x0.length : Int) == 0) = true then
          Q .ret (St1 4 (0, [0, 0, 0, 0], [0, 0, 0, 0], (List.replicate 32 0), 0, (List.replicate 32 0), 0, 0, [], [], 0, [], ()))
        else
          if 0 ≤ (0 : Int) ∧ (0 : Int) < (x0.length : Int) then
            (Go.Bx.load_kindOf_s0.run (IntKind.i64.wrap (List.getD x0 0 0))).bind fun y1 => (Sum.elim (fun y2 =>
              if (not y2.2.1) = true then
                Q .ret (St1 2 (0, [0, 0, 0, 0], [0, 0, 0, 0], (List.replicate 32 0), 0, (List.replicate 32 0), 0, 0, [], [], 0, [], ()))
              else
                if 0 ≤ (1 : Int) ∧ (1 : Int) ≤ (x0.length : Int) ∧ (x0.length : Int) ≤ (x0.length : Int) then
                  (Go.Bx.load_transfer__get.run y2.1 (cutL x0 1 (x0.length : Int))).bind fun y6 =>
                  if (y6.2.1 != 0) = true then
                    Q .ret (St1 y6.2.1 (0, [0, 0, 0, 0], [0, 0, 0, 0], (List.replicate 32 0), 0, (List.replicate 32 0), 0, 0, [], [], 0, [], ()))
                  else
                    if 0 ≤ (0 : Int) ∧ (0 : Int) < (x0.length : Int) then
                      (Go.Bx.load_Check.run ((IntKind.i64.wrap (List.getD x0 0 0)), y6.1.2)).bind fun y7 =>
                      if (y7 != 0) = true then
                        Q .ret (St1 3 (0, [0, 0, 0, 0], [0, 0, 0, 0], (List.replicate 32 0), 0, (List.replicate 32 0), 0, 0, [], [], 0, [], ()))
                      else
                        Q .ret (St1 0 ((IntKind.i64.wrap (List.getD x0 0 0)), y6.1.2))
                    else none
                else none) (Sum.elim (fun y3 =>
              if (not y3.2.1) = true then
                Q .ret (St1 2 (0, [0, 0, 0, 0], [0, 0, 0, 0], (List.replicate 32 0), 0, (List.replicate 32 0), 0, 0, [], [], 0, [], ()))
              else
                if 0 ≤ (1 : Int) ∧ (1 : Int) ≤ (x0.length : Int) ∧ (x0.length : Int) ≤ (x0.length : Int) then
                  (Go.Bx.load_meta__get.run y3.1 (cutL x0 1 (x0.length : Int))).bind fun y8 =>
                  if (y8.2.1 != 0) = true then
                    Q .ret (St1 y8.2.1 (0, [0, 0, 0, 0], [0, 0, 0, 0], (List.replicate 32 0), 0, (List.replicate 32 0), 0, 0, [], [], 0, [], ()))
                  else
                    if 0 ≤ (0 : Int) ∧ (0 : Int) < (x0.length : Int) then
                      (Go.Bx.load_Check.run ((IntKind.i64.wrap (List.getD x0 0 0)), y8.1.2)).bind fun y9 =>
                      if (y9 != 0) = true then
                        Q .ret (St1 3 (0, [0, 0, 0, 0], [0, 0, 0, 0], (List.replicate 32 0), 0, (List.replicate 32 0), 0, 0, [], [], 0, [], ()))
                      else
                        Q .ret (St1 0 ((IntKind.i64.wrap (List.getD x0 0 0)), y8.1.2))
                    else none
                else none) (Sum.elim (fun y4 =>
              if (not y4.2.1) = true then
                Q .ret (St1 2 (0, [0, 0, 0, 0], [0, 0, 0, 0], (List.replicate 32 0), 0, (List.replicate 32 0), 0, 0, [], [], 0, [], ()))
              else
                if 0 ≤ (1 : Int) ∧ (1 : Int) ≤ (x0.length : Int) ∧ (x0.length : Int) ≤ (x0.length : Int) then
                  (Go.Bx.load_turn__get.run y4.1 (cutL x0 1 (x0.length : Int))).bind fun y10 =>
                  if (y10.2.1 != 0) = true then
                    Q .ret (St1 y10.2.1 (0, [0, 0, 0, 0], [0, 0, 0, 0], (List.replicate 32 0), 0, (List.replicate 32 0), 0, 0, [], [], 0, [], ()))
                  else
                    if 0 ≤ (0 : Int) ∧ (0 : Int) < (x0.length : Int) then
                      (Go.Bx.load_Check.run ((IntKind.i64.wrap (List.getD x0 0 0)), y10.1.2)).bind fun y11 =>
                      if (y11 != 0) = true then
                        Q .ret (St1 3 (0, [0, 0, 0, 0], [0, 0, 0, 0], (List.replicate 32 0), 0, (List.replicate 32 0), 0, 0, [], [], 0, [], ()))
                      else
                        Q .ret (St1 0 ((IntKind.i64.wrap (List.getD x0 0 0)), y10.1.2))
                    else none
                else none) (Sum.elim (fun y5 =>
              if (not y5.1) = true then
                Q .ret (St1 2 (0, [0, 0, 0, 0], [0, 0, 0, 0], (List.replicate 32 0), 0, (List.replicate 32 0), 0, 0, [], [], 0, [], ()))
              else
                if 0 ≤ (1 : Int) ∧ (1 : Int) ≤ (x0.length : Int) ∧ (x0.length : Int) ≤ (x0.length : Int) then
                  none
                else none) (fun (e : Empty) => e.elim))))) y1
          else none := by
    intro D L; kernel_rfl
  refine (show (den C k) (cB Try.f76) Q (St0 x0) = denJ (den C k) (lp C k) Js C (cB Try.f76) Q (St0 x0) from (denJ_den _ _ _ _ _ _).symm).trans ((h (den C k) (lp C k)).trans ?_)
  first | rfl | kernel_rfl
def run (x0 : List Int) : Option ((Int × List Int × List Int × List Int × Int × List Int × Int × Int × List Int × List Int × Int × List (List Int) × Unit) × Int × Unit) := top (α := (Int × List Int × List Int × List Int × Int × List Int × Int × Int × List Int × List Int × Int × List (List Int) × Unit) × Int × Unit) (fun (x3 : Int) (c2 : Int × List Int × List Int × List Int × Int × List Int × Int × Int × List Int × List Int × Int × List (List Int) × Unit) => some (c2, x3, ())) x0
def F : Fn := ⟨(.pair (.sl (.int .u8)) .unit), (.pair (.pair (.int .i64) (.pair (.arr 4 (.int .u64)) (.pair (.arr 4 (.int .u64)) (.pair (.arr 32 (.int .u8)) (.pair (.int .i64) (.pair (.arr 32 (.int .u8)) (.pair (.int .i64) (.pair (.int .i64) (.pair .str (.pair (.sl (.int .u8)) (.pair (.int .i64) (.pair (.sl (.arr 20 (.int .u8))) .unit)))))))))))) (.pair (.int .i64) .unit)), true, fun x => run x.1⟩
set_option maxRecDepth 100000 in
theorem con : Con Try.prog 76 F := by
  refine con_of_den (C := C) (ctx_ok_sh (by kernel_rfl) (by kernel_rfl) (by kernel_rfl) (by kernel_rfl) ⟨.inl ⟨Go.Bx.load_Check.con, Go.Bx.load_Check.named⟩, ⟨.inl ⟨Go.Bx.load_transfer__get.con, Go.Bx.load_transfer__get.named⟩, ⟨.inl ⟨Go.Bx.load_meta__get.con, Go.Bx.load_meta__get.named⟩, ⟨.inl ⟨Go.Bx.load_turn__get.con, Go.Bx.load_turn__get.named⟩, trivial⟩⟩⟩⟩ ⟨⟨⟨Go.Bx.load_kindOf_s0.sok, trivial⟩, Go.Bx.load_kindOf_s0.named⟩, trivial⟩) (by kernel_rfl) Try.func76 (c := cB Try.f76) (by kernel_rfl) (by kernel_rfl) F fuel (fun x => by simp [F, spread, Try.ntmps76]) ?_
  intro x r h
  rw [← h]
  have h1 : start F Try.f76.ntmps x = (St0 x.1) := by kernel_rfl
  rw [h1]
  refine (top_eq fuel (fin C Try.f76.results.toList F.rs F.multi) x.1).trans ?_
  kernel_rfl
theorem named : Named Try.prog 76 := named_of Try.func76 (by kernel_rfl) (by kernel_rfl)
end Go.Bx.load_Decode
namespace Go.Bx.basculeref_LoadOf
open Go Go.Proofs Go.Bx
set_option maxRecDepth 100000
set_option linter.unusedVariables false
def Js : List Nat := [11, 22, 35]
def C : Ctx := ⟨[(3, (.int .i64)), (5, (.int .u8)), (9, .str), (31, (.int .i64)), (34, (.sl (.arr 20 (.int .u8)))), (39, (.arr 32 (.int .u8))), (40, (.sl (.int .u8))), (45, (.arr 4 (.int .u64))), (105, (.pair (.int .i64) (.pair (.arr 4 (.int .u64)) (.pair (.arr 4 (.int .u64)) (.pair (.arr 32 (.int .u8)) (.pair (.int .i64) (.pair (.arr 32 (.int .u8)) (.pair (.int .i64) (.pair (.int .i64) (.pair .str (.pair (.sl (.int .u8)) (.pair (.int .i64) (.pair (.sl (.arr 20 (.int .u8))) .unit))))))))))))), (178, (.arr 20 (.int .u8)))], [], [], fnL [(141, Go.Bx.basculeref_word.F), (148, Go.Bx.basculeref_wideOf.F), (149, Go.Bx.basculeref_number.F), (150, Go.Bx.basculeref_LoadFault.F)], noSh, [], invL [], [(2, [2, 3]), (1, [2, 5]), (4, [2, 4, 5, 6]), (7, [2, 4, 5, 6]), (10, [2, 5]), (13, [2, 4, 5]), (38, [2, 4, 5, 20, 22]), (57, [2, 4, 5, 6]), (63, [2, 4, 5, 6]), (87, [2, 4, 5]), (102, [2, 5])], [(2, [.dat false 2 [9], .dat false 2 [11]]), (87, [.melt false 5 [11] 140 true]), (102, [.dat false 5 [9], .melt false 5 [11] 140 true])], [], 0, 0⟩
def St0 (x0 : List Int) : St := stL 147 [(0, .data (.sl (.int .u8)) x0)] []
def St1 (x3 : Int) (c2 : Int × List Int × List Int × List Int × Int × List Int × Int × Int × List Int × List Int × Int × List (List Int) × Unit) : St := stL 147 [(2, .ref 2 0 []), (3, .data (.int .i64) x3)] [(2, .cell (.pair (.int .i64) (.pair (.arr 4 (.int .u64)) (.pair (.arr 4 (.int .u64)) (.pair (.arr 32 (.int .u8)) (.pair (.int .i64) (.pair (.arr 32 (.int .u8)) (.pair (.int .i64) (.pair (.int .i64) (.pair .str (.pair (.sl (.int .u8)) (.pair (.int .i64) (.pair (.sl (.arr 20 (.int .u8))) .unit)))))))))))) (.data (.pair (.int .i64) (.pair (.arr 4 (.int .u64)) (.pair (.arr 4 (.int .u64)) (.pair (.arr 32 (.int .u8)) (.pair (.int .i64) (.pair (.arr 32 (.int .u8)) (.pair (.int .i64) (.pair (.int .i64) (.pair .str (.pair (.sl (.int .u8)) (.pair (.int .i64) (.pair (.sl (.arr 20 (.int .u8))) .unit)))))))))))) c2) false)]
def St2 (x4 : List Int) (x20 : Int) (x22 : Bool) (c2p0 : Int) (c2p1 : List Int) (c2p2 : List Int) (c2p3 : List Int) (c2p4 : Int) (c2p5 : List Int) (c2p6 : Int) (c2p7 : Int) (c2p8 : List Int) (c2p10 : Int) (c5p0 : Int) (c5p1 : List Int) (c5p2 : List Int) (c5p3 : List Int) (c5p4 : Int) (c5p5 : List Int) (c5p6 : Int) (c5p7 : Int) (c5p8 : List Int) (c5p10 : Int) : St := stL 147 [(2, .ref 2 0 []), (4, .data .str x4), (5, .ref 5 0 []), (20, .data (.int .i64) x20), (22, .data .bool x22)] [(2, .cell (.pair (.int .i64) (.pair (.arr 4 (.int .u64)) (.pair (.arr 4 (.int .u64)) (.pair (.arr 32 (.int .u8)) (.pair (.int .i64) (.pair (.arr 32 (.int .u8)) (.pair (.int .i64) (.pair (.int .i64) (.pair .str (.pair (.sl (.int .u8)) (.pair (.int .i64) (.pair (.sl (.arr 20 (.int .u8))) .unit)))))))))))) (.agg (.pair (.int .i64) (.pair (.arr 4 (.int .u64)) (.pair (.arr 4 (.int .u64)) (.pair (.arr 32 (.int .u8)) (.pair (.int .i64) (.pair (.arr 32 (.int .u8)) (.pair (.int .i64) (.pair (.int .i64) (.pair .str (.pair (.sl (.int .u8)) (.pair (.int .i64) (.pair (.sl (.arr 20 (.int .u8))) .unit)))))))))))) [.data (.int .i64) c2p0, .data (.arr 4 (.int .u64)) c2p1, .data (.arr 4 (.int .u64)) c2p2, .data (.arr 32 (.int .u8)) c2p3, .data (.int .i64) c2p4, .data (.arr 32 (.int .u8)) c2p5, .data (.int .i64) c2p6, .data (.int .i64) c2p7, .data .str c2p8, .full (.int .u8) [], .data (.int .i64) c2p10, .full (.arr 20 (.int .u8)) []]) false), (5, .cell (.pair (.int .i64) (.pair (.arr 4 (.int .u64)) (.pair (.arr 4 (.int .u64)) (.pair (.arr 32 (.int .u8)) (.pair (.int .i64) (.pair (.arr 32 (.int .u8)) (.pair (.int .i64) (.pair (.int .i64) (.pair .str (.pair (.sl (.int .u8)) (.pair (.int .i64) (.pair (.sl (.arr 20 (.int .u8))) .unit)))))))))))) (.agg (.pair (.int .i64) (.pair (.arr 4 (.int .u64)) (.pair (.arr 4 (.int .u64)) (.pair (.arr 32 (.int .u8)) (.pair (.int .i64) (.pair (.arr 32 (.int .u8)) (.pair (.int .i64) (.pair (.int .i64) (.pair .str (.pair (.sl (.int .u8)) (.pair (.int .i64) (.pair (.sl (.arr 20 (.int .u8))) .unit)))))))))))) [.data (.int .i64) c5p0, .data (.arr 4 (.int .u64)) c5p1, .data (.arr 4 (.int .u64)) c5p2, .data (.arr 32 (.int .u8)) c5p3, .data (.int .i64) c5p4, .data (.arr 32 (.int .u8)) c5p5, .data (.int .i64) c5p6, .data (.int .i64) c5p7, .data .str c5p8, .full (.int .u8) [], .data (.int .i64) c5p10, .full (.arr 20 (.int .u8)) []]) false)]
noncomputable def cd0 : Code := cR (cR (cR (cR (cR (cR (cB Try.f77))))))
noncomputable def cd1 : Code := cR (cL (cR (cL (cR (cR (cR (cR (cR (cB Try.f77)))))))))
def St3 (c2p0 : Int) (c2p1 : List Int) (c2p2 : List Int) (c2p3 : List Int) (c2p4 : Int) (c2p5 : List Int) (c2p6 : Int) (c2p7 : Int) (c2p8 : List Int) (c2p10 : Int) (c5p0 : Int) (c5p1 : List Int) (c5p2 : List Int) (c5p3 : List Int) (c5p4 : Int) (c5p5 : List Int) (c5p6 : Int) (c5p7 : Int) (c5p8 : List Int) (c5p9 : List Int) (c5p10 : Int) (c140 : List (List Int)) : St := stL 147 [(2, .ref 2 0 []), (5, .ref 5 0 [])] [(2, .cell (.pair (.int .i64) (.pair (.arr 4 (.int .u64)) (.pair (.arr 4 (.int .u64)) (.pair (.arr 32 (.int .u8)) (.pair (.int .i64) (.pair (.arr 32 (.int .u8)) (.pair (.int .i64) (.pair (.int .i64) (.pair .str (.pair (.sl (.int .u8)) (.pair (.int .i64) (.pair (.sl (.arr 20 (.int .u8))) .unit)))))))))))) (.agg (.pair (.int .i64) (.pair (.arr 4 (.int .u64)) (.pair (.arr 4 (.int .u64)) (.pair (.arr 32 (.int .u8)) (.pair (.int .i64) (.pair (.arr 32 (.int .u8)) (.pair (.int .i64) (.pair (.int .i64) (.pair .str (.pair (.sl (.int .u8)) (.pair (.int .i64) (.pair (.sl (.arr 20 (.int .u8))) .unit)))))))))))) [.data (.int .i64) c2p0, .data (.arr 4 (.int .u64)) c2p1, .data (.arr 4 (.int .u64)) c2p2, .data (.arr 32 (.int .u8)) c2p3, .data (.int .i64) c2p4, .data (.arr 32 (.int .u8)) c2p5, .data (.int .i64) c2p6, .data (.int .i64) c2p7, .data .str c2p8, .full (.int .u8) [], .data (.int .i64) c2p10, .full (.arr 20 (.int .u8)) []]) false), (5, .cell (.pair (.int .i64) (.pair (.arr 4 (.int .u64)) (.pair (.arr 4 (.int .u64)) (.pair (.arr 32 (.int .u8)) (.pair (.int .i64) (.pair (.arr 32 (.int .u8)) (.pair (.int .i64) (.pair (.int .i64) (.pair .str (.pair (.sl (.int .u8)) (.pair (.int .i64) (.pair (.sl (.arr 20 (.int .u8))) .unit)))))))))))) (.agg (.pair (.int .i64) (.pair (.arr 4 (.int .u64)) (.pair (.arr 4 (.int .u64)) (.pair (.arr 32 (.int .u8)) (.pair (.int .i64) (.pair (.arr 32 (.int .u8)) (.pair (.int .i64) (.pair (.int .i64) (.pair .str (.pair (.sl (.int .u8)) (.pair (.int .i64) (.pair (.sl (.arr 20 (.int .u8))) .unit)))))))))))) [.data (.int .i64) c5p0, .data (.arr 4 (.int .u64)) c5p1, .data (.arr 4 (.int .u64)) c5p2, .data (.arr 32 (.int .u8)) c5p3, .data (.int .i64) c5p4, .data (.arr 32 (.int .u8)) c5p5, .data (.int .i64) c5p6, .data (.int .i64) c5p7, .data .str c5p8, .data (.sl (.int .u8)) c5p9, .data (.int .i64) c5p10, .app 140 0]) false), (140, .buf (.arr 20 (.int .u8)) c140 0 true)]
def j1 {α : Type} (Rt : Int → (Int × List Int × List Int × List Int × Int × List Int × Int × Int × List Int × List Int × Int × List (List Int) × Unit) → Option α) (c2p0 : Int) (c2p1 : List Int) (c2p2 : List Int) (c2p3 : List Int) (c2p4 : Int) (c2p5 : List Int) (c2p6 : Int) (c2p7 : Int) (c2p8 : List Int) (c2p10 : Int) (c5p0 : Int) (c5p1 : List Int) (c5p2 : List Int) (c5p3 : List Int) (c5p4 : Int) (c5p5 : List Int) (c5p6 : Int) (c5p7 : Int) (c5p8 : List Int) (c5p9 : List Int) (c5p10 : Int) (c140 : List (List Int)) : Option α :=
  (Go.Bx.basculeref_LoadFault.run (c5p0, c5p1, c5p2, c5p3, c5p4, c5p5, c5p6, c5p7, c5p8, c5p9, c5p10, c140, ())).bind fun y7 =>
  if (y7 != 0) = true then
    Rt 3 (0, [0, 0, 0, 0], [0, 0, 0, 0], (List.replicate 32 0), 0, (List.replicate 32 0), 0, 0, [], [], 0, [], ())
  else
    Rt 0 (c5p0, c5p1, c5p2, c5p3, c5p4, c5p5, c5p6, c5p7, c5p8, c5p9, c5p10, c140, ())
theorem j1_eq {α : Type} (k : Nat) (Q : Ex → St → Option α) (c2p0 : Int) (c2p1 : List Int) (c2p2 : List Int) (c2p3 : List Int) (c2p4 : Int) (c2p5 : List Int) (c2p6 : Int) (c2p7 : Int) (c2p8 : List Int) (c2p10 : Int) (c5p0 : Int) (c5p1 : List Int) (c5p2 : List Int) (c5p3 : List Int) (c5p4 : Int) (c5p5 : List Int) (c5p6 : Int) (c5p7 : Int) (c5p8 : List Int) (c5p9 : List Int) (c5p10 : Int) (c140 : List (List Int)) :
    (den C k) cd0 Q (St3 c2p0 c2p1 c2p2 c2p3 c2p4 c2p5 c2p6 c2p7 c2p8 c2p10 c5p0 c5p1 c5p2 c5p3 c5p4 c5p5 c5p6 c5p7 c5p8 c5p9 c5p10 c140) = j1 (fun (x3 : Int) (c2 : Int × List Int × List Int × List Int × Int × List Int × Int × Int × List Int × List Int × Int × List (List Int) × Unit) => Q .ret (St1 x3 c2)) c2p0 c2p1 c2p2 c2p3 c2p4 c2p5 c2p6 c2p7 c2p8 c2p10 c5p0 c5p1 c5p2 c5p3 c5p4 c5p5 c5p6 c5p7 c5p8 c5p9 c5p10 c140 := by
  have h : ∀ (D L : DT α), denJ D L Js C cd0 Q (St3 c2p0 c2p1 c2p2 c2p3 c2p4 c2p5 c2p6 c2p7 c2p8 c2p10 c5p0 c5p1 c5p2 c5p3 c5p4 c5p5 c5p6 c5p7 c5p8 c5p9 c5p10 c140) =
        (Go.Bx.basculeref_LoadFault.run (c5p0, c5p1, c5p2, c5p3, c5p4, c5p5, c5p6, c5p7, c5p8, c5p9, c5p10, c140, ())).bind fun y7 =>
        if (y7 != 0) = true then
          Q .ret (St1 3 (0, [0, 0, 0, 0], [0, 0, 0, 0], (List.replicate 32 0), 0, (List.replicate 32 0), 0, 0, [], [], 0, [], ()))
        else
          Q .ret (St1 0 (c5p0, c5p1, c5p2, c5p3, c5p4, c5p5, c5p6, c5p7, c5p8, c5p9, c5p10, c140, ())) := by
    intro D L; kernel_rfl
  refine (show (den C k) cd0 Q (St3 c2p0 c2p1 c2p2 c2p3 c2p4 c2p5 c2p6 c2p7 c2p8 c2p10 c5p0 c5p1 c5p2 c5p3 c5p4 c5p5 c5p6 c5p7 c5p8 c5p9 c5p10 c140) = denJ (den C k) (lp C k) Js C cd0 Q (St3 c2p0 c2p1 c2p2 c2p3 c2p4 c2p5 c2p6 c2p7 c2p8 c2p10 c5p0 c5p1 c5p2 c5p3 c5p4 c5p5 c5p6 c5p7 c5p8 c5p9 c5p10 c140) from (denJ_den _ _ _ _ _ _).symm).trans ((h (den C k) (lp C k)).trans ?_)
  first | rfl | kernel_rfl
def St4 (x4 : List Int) (x6 : List Int) (c2p0 : Int) (c2p1 : List Int) (c2p2 : List Int) (c2p3 : List Int) (c2p4 : Int) (c2p5 : List Int) (c2p6 : Int) (c2p7 : Int) (c2p8 : List Int) (c2p10 : Int) (c5p0 : Int) (c5p1 : List Int) (c5p2 : List Int) (c5p3 : List Int) (c5p4 : Int) (c5p5 : List Int) (c5p6 : Int) (c5p7 : Int) (c5p8 : List Int) (c5p10 : Int) : St := stL 147 [(2, .ref 2 0 []), (4, .data .str x4), (5, .ref 5 0 []), (6, .data .str x6)] [(2, .cell (.pair (.int .i64) (.pair (.arr 4 (.int .u64)) (.pair (.arr 4 (.int .u64)) (.pair (.arr 32 (.int .u8)) (.pair (.int .i64) (.pair (.arr 32 (.int .u8)) (.pair (.int .i64) (.pair (.int .i64) (.pair .str (.pair (.sl (.int .u8)) (.pair (.int .i64) (.pair (.sl (.arr 20 (.int .u8))) .unit)))))))))))) (.agg (.pair (.int .i64) (.pair (.arr 4 (.int .u64)) (.pair (.arr 4 (.int .u64)) (.pair (.arr 32 (.int .u8)) (.pair (.int .i64) (.pair (.arr 32 (.int .u8)) (.pair (.int .i64) (.pair (.int .i64) (.pair .str (.pair (.sl (.int .u8)) (.pair (.int .i64) (.pair (.sl (.arr 20 (.int .u8))) .unit)))))))))))) [.data (.int .i64) c2p0, .data (.arr 4 (.int .u64)) c2p1, .data (.arr 4 (.int .u64)) c2p2, .data (.arr 32 (.int .u8)) c2p3, .data (.int .i64) c2p4, .data (.arr 32 (.int .u8)) c2p5, .data (.int .i64) c2p6, .data (.int .i64) c2p7, .data .str c2p8, .full (.int .u8) [], .data (.int .i64) c2p10, .full (.arr 20 (.int .u8)) []]) false), (5, .cell (.pair (.int .i64) (.pair (.arr 4 (.int .u64)) (.pair (.arr 4 (.int .u64)) (.pair (.arr 32 (.int .u8)) (.pair (.int .i64) (.pair (.arr 32 (.int .u8)) (.pair (.int .i64) (.pair (.int .i64) (.pair .str (.pair (.sl (.int .u8)) (.pair (.int .i64) (.pair (.sl (.arr 20 (.int .u8))) .unit)))))))))))) (.agg (.pair (.int .i64) (.pair (.arr 4 (.int .u64)) (.pair (.arr 4 (.int .u64)) (.pair (.arr 32 (.int .u8)) (.pair (.int .i64) (.pair (.arr 32 (.int .u8)) (.pair (.int .i64) (.pair (.int .i64) (.pair .str (.pair (.sl (.int .u8)) (.pair (.int .i64) (.pair (.sl (.arr 20 (.int .u8))) .unit)))))))))))) [.data (.int .i64) c5p0, .data (.arr 4 (.int .u64)) c5p1, .data (.arr 4 (.int .u64)) c5p2, .data (.arr 32 (.int .u8)) c5p3, .data (.int .i64) c5p4, .data (.arr 32 (.int .u8)) c5p5, .data (.int .i64) c5p6, .data (.int .i64) c5p7, .data .str c5p8, .full (.int .u8) [], .data (.int .i64) c5p10, .full (.arr 20 (.int .u8)) []]) false)]
noncomputable def cd2 : Code := cL (cL (cL (cR (cR (cR (cL (cR (cR (cR (cL (cR (cL (cR (cR (cR (cR (cR (cB Try.f77))))))))))))))))))
def St5 (x4 : List Int) (x6 : List Int) (c2p0 : Int) (c2p1 : List Int) (c2p2 : List Int) (c2p3 : List Int) (c2p4 : Int) (c2p5 : List Int) (c2p6 : Int) (c2p7 : Int) (c2p8 : List Int) (c2p10 : Int) (c5p0 : Int) (c5p1 : List Int) (c5p2 : List Int) (c5p3 : List Int) (c5p4 : Int) (c5p5 : List Int) (c5p6 : Int) (c5p7 : Int) (c5p8 : List Int) (c5p10 : Int) : St := stL 147 [(2, .ref 2 0 []), (4, .data .str x4), (5, .ref 5 0 []), (6, .data .str x6)] [(2, .cell (.pair (.int .i64) (.pair (.arr 4 (.int .u64)) (.pair (.arr 4 (.int .u64)) (.pair (.arr 32 (.int .u8)) (.pair (.int .i64) (.pair (.arr 32 (.int .u8)) (.pair (.int .i64) (.pair (.int .i64) (.pair .str (.pair (.sl (.int .u8)) (.pair (.int .i64) (.pair (.sl (.arr 20 (.int .u8))) .unit)))))))))))) (.agg (.pair (.int .i64) (.pair (.arr 4 (.int .u64)) (.pair (.arr 4 (.int .u64)) (.pair (.arr 32 (.int .u8)) (.pair (.int .i64) (.pair (.arr 32 (.int .u8)) (.pair (.int .i64) (.pair (.int .i64) (.pair .str (.pair (.sl (.int .u8)) (.pair (.int .i64) (.pair (.sl (.arr 20 (.int .u8))) .unit)))))))))))) [.data (.int .i64) c2p0, .data (.arr 4 (.int .u64)) c2p1, .data (.arr 4 (.int .u64)) c2p2, .data (.arr 32 (.int .u8)) c2p3, .data (.int .i64) c2p4, .data (.arr 32 (.int .u8)) c2p5, .data (.int .i64) c2p6, .data (.int .i64) c2p7, .data .str c2p8, .full (.int .u8) [], .data (.int .i64) c2p10, .full (.arr 20 (.int .u8)) []]) false), (5, .cell (.pair (.int .i64) (.pair (.arr 4 (.int .u64)) (.pair (.arr 4 (.int .u64)) (.pair (.arr 32 (.int .u8)) (.pair (.int .i64) (.pair (.arr 32 (.int .u8)) (.pair (.int .i64) (.pair (.int .i64) (.pair .str (.pair (.sl (.int .u8)) (.pair (.int .i64) (.pair (.sl (.arr 20 (.int .u8))) .unit)))))))))))) (.agg (.pair (.int .i64) (.pair (.arr 4 (.int .u64)) (.pair (.arr 4 (.int .u64)) (.pair (.arr 32 (.int .u8)) (.pair (.int .i64) (.pair (.arr 32 (.int .u8)) (.pair (.int .i64) (.pair (.int .i64) (.pair .str (.pair (.sl (.int .u8)) (.pair (.int .i64) (.pair (.sl (.arr 20 (.int .u8))) .unit)))))))))))) [.data (.int .i64) c5p0, .data (.arr 4 (.int .u64)) c5p1, .data (.arr 4 (.int .u64)) c5p2, .data (.arr 32 (.int .u8)) c5p3, .data (.int .i64) c5p4, .data (.arr 32 (.int .u8)) c5p5, .data (.int .i64) c5p6, .data (.int .i64) c5p7, .data .str c5p8, .full (.int .u8) [], .data (.int .i64) c5p10, .full (.arr 20 (.int .u8)) []]) false)]
def l0s {α : Type} (Nx : (List Int) → (List Int) → Int → (List Int) → (List Int) → (List Int) → Int → (List Int) → Int → Int → (List Int) → Int → Int → (List Int) → (List Int) → (List Int) → Int → (List Int) → Int → Int → (List Int) → Int → Option α) (Xt1 : (List Int) → (List Int) → Int → (List Int) → (List Int) → (List Int) → Int → (List Int) → Int → Int → (List Int) → Int → Int → (List Int) → (List Int) → (List Int) → Int → (List Int) → Int → Int → (List Int) → Int → Option α) (x4 : List Int) (x6 : List Int) (c2p0 : Int) (c2p1 : List Int) (c2p2 : List Int) (c2p3 : List Int) (c2p4 : Int) (c2p5 : List Int) (c2p6 : Int) (c2p7 : Int) (c2p8 : List Int) (c2p10 : Int) (c5p0 : Int) (c5p1 : List Int) (c5p2 : List Int) (c5p3 : List Int) (c5p4 : Int) (c5p5 : List Int) (c5p6 : Int) (c5p7 : Int) (c5p8 : List Int) (c5p10 : Int) : Option α :=
  cond (decide (0 ≤ (IntKind.i64.wrap ((x6.length : Int) - 1)) ∧ (IntKind.i64.wrap ((x6.length : Int) - 1)) < (x6.length : Int)) || !((not (beqD .str x6 [])) == true)) (
    if (cond (not (beqD .str x6 [])) ((List.getD x6 (Int.toNat (IntKind.i64.wrap ((x6.length : Int) - 1))) 0) == 0) false) = true then
      if 0 ≤ (0 : Int) ∧ (0 : Int) ≤ (IntKind.i64.wrap ((x6.length : Int) - 1)) ∧ (IntKind.i64.wrap ((x6.length : Int) - 1)) ≤ (x6.length : Int) then
        Nx x4 (cutL x6 0 (IntKind.i64.wrap ((x6.length : Int) - 1))) c2p0 c2p1 c2p2 c2p3 c2p4 c2p5 c2p6 c2p7 c2p8 c2p10 c5p0 c5p1 c5p2 c5p3 c5p4 c5p5 c5p6 c5p7 c5p8 c5p10
      else none
    else
      Xt1 x4 x6 c2p0 c2p1 c2p2 c2p3 c2p4 c2p5 c2p6 c2p7 c2p8 c2p10 c5p0 c5p1 c5p2 c5p3 c5p4 c5p5 c5p6 c5p7 c5p8 c5p10) none
theorem l0s_eq {α : Type} (k : Nat) (next : St → Option α) (Q : Ex → St → Option α) (x4 : List Int) (x6 : List Int) (c2p0 : Int) (c2p1 : List Int) (c2p2 : List Int) (c2p3 : List Int) (c2p4 : Int) (c2p5 : List Int) (c2p6 : Int) (c2p7 : Int) (c2p8 : List Int) (c2p10 : Int) (c5p0 : Int) (c5p1 : List Int) (c5p2 : List Int) (c5p3 : List Int) (c5p4 : Int) (c5p5 : List Int) (c5p6 : Int) (c5p7 : Int) (c5p8 : List Int) (c5p10 : Int) :
    rnd C k cd2 57 Q next (St4 x4 x6 c2p0 c2p1 c2p2 c2p3 c2p4 c2p5 c2p6 c2p7 c2p8 c2p10 c5p0 c5p1 c5p2 c5p3 c5p4 c5p5 c5p6 c5p7 c5p8 c5p10) = l0s (fun (x4 : List Int) (x6 : List Int) (c2p0 : Int) (c2p1 : List Int) (c2p2 : List Int) (c2p3 : List Int) (c2p4 : Int) (c2p5 : List Int) (c2p6 : Int) (c2p7 : Int) (c2p8 : List Int) (c2p10 : Int) (c5p0 : Int) (c5p1 : List Int) (c5p2 : List Int) (c5p3 : List Int) (c5p4 : Int) (c5p5 : List Int) (c5p6 : Int) (c5p7 : Int) (c5p8 : List Int) (c5p10 : Int) => next (St4 x4 x6 c2p0 c2p1 c2p2 c2p3 c2p4 c2p5 c2p6 c2p7 c2p8 c2p10 c5p0 c5p1 c5p2 c5p3 c5p4 c5p5 c5p6 c5p7 c5p8 c5p10)) (fun (x4 : List Int) (x6 : List Int) (c2p0 : Int) (c2p1 : List Int) (c2p2 : List Int) (c2p3 : List Int) (c2p4 : Int) (c2p5 : List Int) (c2p6 : Int) (c2p7 : Int) (c2p8 : List Int) (c2p10 : Int) (c5p0 : Int) (c5p1 : List Int) (c5p2 : List Int) (c5p3 : List Int) (c5p4 : Int) (c5p5 : List Int) (c5p6 : Int) (c5p7 : Int) (c5p8 : List Int) (c5p10 : Int) => Q (.exit 1) (St5 x4 x6 c2p0 c2p1 c2p2 c2p3 c2p4 c2p5 c2p6 c2p7 c2p8 c2p10 c5p0 c5p1 c5p2 c5p3 c5p4 c5p5 c5p6 c5p7 c5p8 c5p10)) x4 x6 c2p0 c2p1 c2p2 c2p3 c2p4 c2p5 c2p6 c2p7 c2p8 c2p10 c5p0 c5p1 c5p2 c5p3 c5p4 c5p5 c5p6 c5p7 c5p8 c5p10 := by
  have h : ∀ (D L : DT α), denJ D L Js C cd2 (lq C 57 next Q) (St4 x4 x6 c2p0 c2p1 c2p2 c2p3 c2p4 c2p5 c2p6 c2p7 c2p8 c2p10 c5p0 c5p1 c5p2 c5p3 c5p4 c5p5 c5p6 c5p7 c5p8 c5p10) =
        cond (decide (0 ≤ (IntKind.i64.wrap ((x6.length : Int) - 1)) ∧ (IntKind.i64.wrap ((x6.length : Int) - 1)) < (x6.length : Int)) || !((not (beqD .str x6 [])) == true)) (
          if (cond (not (beqD .str x6 [])) ((List.getD x6 (Int.toNat (IntKind.i64.wrap ((x6.length : Int) - 1))) 0) == 0) false) = true then
            if 0 ≤ (0 : Int) ∧ (0 : Int) ≤ (IntKind.i64.wrap ((x6.length : Int) - 1)) ∧ (IntKind.i64.wrap ((x6.length : Int) - 1)) ≤ (x6.length : Int) then
              next (St4 x4 (cutL x6 0 (IntKind.i64.wrap ((x6.length : Int) - 1))) c2p0 c2p1 c2p2 c2p3 c2p4 c2p5 c2p6 c2p7 c2p8 c2p10 c5p0 c5p1 c5p2 c5p3 c5p4 c5p5 c5p6 c5p7 c5p8 c5p10)
            else none
          else
            Q (.exit 1) (St5 x4 x6 c2p0 c2p1 c2p2 c2p3 c2p4 c2p5 c2p6 c2p7 c2p8 c2p10 c5p0 c5p1 c5p2 c5p3 c5p4 c5p5 c5p6 c5p7 c5p8 c5p10)) none := by
    intro D L; kernel_rfl
  refine (show rnd C k cd2 57 Q next (St4 x4 x6 c2p0 c2p1 c2p2 c2p3 c2p4 c2p5 c2p6 c2p7 c2p8 c2p10 c5p0 c5p1 c5p2 c5p3 c5p4 c5p5 c5p6 c5p7 c5p8 c5p10) = denJ (den C k) (lp C k) Js C cd2 (lq C 57 next Q) (St4 x4 x6 c2p0 c2p1 c2p2 c2p3 c2p4 c2p5 c2p6 c2p7 c2p8 c2p10 c5p0 c5p1 c5p2 c5p3 c5p4 c5p5 c5p6 c5p7 c5p8 c5p10) from (denJ_den _ _ _ _ _ _).symm).trans ((h (den C k) (lp C k)).trans ?_)
  first | rfl | kernel_rfl
def l0 {α : Type} (k : Nat) (Xt1 : (List Int) → (List Int) → Int → (List Int) → (List Int) → (List Int) → Int → (List Int) → Int → Int → (List Int) → Int → Int → (List Int) → (List Int) → (List Int) → Int → (List Int) → Int → Int → (List Int) → Int → Option α) : Nat → (List Int) → (List Int) → Int → (List Int) → (List Int) → (List Int) → Int → (List Int) → Int → Int → (List Int) → Int → Int → (List Int) → (List Int) → (List Int) → Int → (List Int) → Int → Int → (List Int) → Int → Option α
  | 0, _, _, _, _, _, _, _, _, _, _, _, _, _, _, _, _, _, _, _, _, _, _ => none
  | n + 1, x4, x6, c2p0, c2p1, c2p2, c2p3, c2p4, c2p5, c2p6, c2p7, c2p8, c2p10, c5p0, c5p1, c5p2, c5p3, c5p4, c5p5, c5p6, c5p7, c5p8, c5p10 => l0s (l0 k Xt1 n) Xt1 x4 x6 c2p0 c2p1 c2p2 c2p3 c2p4 c2p5 c2p6 c2p7 c2p8 c2p10 c5p0 c5p1 c5p2 c5p3 c5p4 c5p5 c5p6 c5p7 c5p8 c5p10
theorem l0_eq {α : Type} (k : Nat) (Q : Ex → St → Option α) : ∀ (n : Nat) (x4 : List Int) (x6 : List Int) (c2p0 : Int) (c2p1 : List Int) (c2p2 : List Int) (c2p3 : List Int) (c2p4 : Int) (c2p5 : List Int) (c2p6 : Int) (c2p7 : Int) (c2p8 : List Int) (c2p10 : Int) (c5p0 : Int) (c5p1 : List Int) (c5p2 : List Int) (c5p3 : List Int) (c5p4 : Int) (c5p5 : List Int) (c5p6 : Int) (c5p7 : Int) (c5p8 : List Int) (c5p10 : Int), iter (rnd C k cd2 57 Q) n (St4 x4 x6 c2p0 c2p1 c2p2 c2p3 c2p4 c2p5 c2p6 c2p7 c2p8 c2p10 c5p0 c5p1 c5p2 c5p3 c5p4 c5p5 c5p6 c5p7 c5p8 c5p10) = l0 k (fun (x4 : List Int) (x6 : List Int) (c2p0 : Int) (c2p1 : List Int) (c2p2 : List Int) (c2p3 : List Int) (c2p4 : Int) (c2p5 : List Int) (c2p6 : Int) (c2p7 : Int) (c2p8 : List Int) (c2p10 : Int) (c5p0 : Int) (c5p1 : List Int) (c5p2 : List Int) (c5p3 : List Int) (c5p4 : Int) (c5p5 : List Int) (c5p6 : Int) (c5p7 : Int) (c5p8 : List Int) (c5p10 : Int) => Q (.exit 1) (St5 x4 x6 c2p0 c2p1 c2p2 c2p3 c2p4 c2p5 c2p6 c2p7 c2p8 c2p10 c5p0 c5p1 c5p2 c5p3 c5p4 c5p5 c5p6 c5p7 c5p8 c5p10)) n x4 x6 c2p0 c2p1 c2p2 c2p3 c2p4 c2p5 c2p6 c2p7 c2p8 c2p10 c5p0 c5p1 c5p2 c5p3 c5p4 c5p5 c5p6 c5p7 c5p8 c5p10
  | 0, _, _, _, _, _, _, _, _, _, _, _, _, _, _, _, _, _, _, _, _, _, _ => rfl
  | n + 1, x4, x6, c2p0, c2p1, c2p2, c2p3, c2p4, c2p5, c2p6, c2p7, c2p8, c2p10, c5p0, c5p1, c5p2, c5p3, c5p4, c5p5, c5p6, c5p7, c5p8, c5p10 => (iter_succ _ _ _).trans ((l0s_eq k (iter (rnd C k cd2 57 Q) n) Q x4 x6 c2p0 c2p1 c2p2 c2p3 c2p4 c2p5 c2p6 c2p7 c2p8 c2p10 c5p0 c5p1 c5p2 c5p3 c5p4 c5p5 c5p6 c5p7 c5p8 c5p10).trans (congrArg (fun N => l0s N (fun (x4 : List Int) (x6 : List Int) (c2p0 : Int) (c2p1 : List Int) (c2p2 : List Int) (c2p3 : List Int) (c2p4 : Int) (c2p5 : List Int) (c2p6 : Int) (c2p7 : Int) (c2p8 : List Int) (c2p10 : Int) (c5p0 : Int) (c5p1 : List Int) (c5p2 : List Int) (c5p3 : List Int) (c5p4 : Int) (c5p5 : List Int) (c5p6 : Int) (c5p7 : Int) (c5p8 : List Int) (c5p10 : Int) => Q (.exit 1) (St5 x4 x6 c2p0 c2p1 c2p2 c2p3 c2p4 c2p5 c2p6 c2p7 c2p8 c2p10 c5p0 c5p1 c5p2 c5p3 c5p4 c5p5 c5p6 c5p7 c5p8 c5p10)) x4 x6 c2p0 c2p1 c2p2 c2p3 c2p4 c2p5 c2p6 c2p7 c2p8 c2p10 c5p0 c5p1 c5p2 c5p3 c5p4 c5p5 c5p6 c5p7 c5p8 c5p10) (funext fun x4 => funext fun x6 => funext fun c2p0 => funext fun c2p1 => funext fun c2p2 => funext fun c2p3 => funext fun c2p4 => funext fun c2p5 => funext fun c2p6 => funext fun c2p7 => funext fun c2p8 => funext fun c2p10 => funext fun c5p0 => funext fun c5p1 => funext fun c5p2 => funext fun c5p3 => funext fun c5p4 => funext fun c5p5 => funext fun c5p6 => funext fun c5p7 => funext fun c5p8 => funext fun c5p10 => l0_eq k Q n x4 x6 c2p0 c2p1 c2p2 c2p3 c2p4 c2p5 c2p6 c2p7 c2p8 c2p10 c5p0 c5p1 c5p2 c5p3 c5p4 c5p5 c5p6 c5p7 c5p8 c5p10)))
theorem l0_congr {α : Type} (k : Nat) (Xt1 : (List Int) → (List Int) → Int → (List Int) → (List Int) → (List Int) → Int → (List Int) → Int → Int → (List Int) → Int → Int → (List Int) → (List Int) → (List Int) → Int → (List Int) → Int → Int → (List Int) → Int → Option α) (Xt1q : (List Int) → (List Int) → Int → (List Int) → (List Int) → (List Int) → Int → (List Int) → Int → Int → (List Int) → Int → Int → (List Int) → (List Int) → (List Int) → Int → (List Int) → Int → Int → (List Int) → Int → Option α) (hXt1 : ∀ (x4 : List Int) (x6 : List Int) (c2p0 : Int) (c2p1 : List Int) (c2p2 : List Int) (c2p3 : List Int) (c2p4 : Int) (c2p5 : List Int) (c2p6 : Int) (c2p7 : Int) (c2p8 : List Int) (c2p10 : Int) (c5p0 : Int) (c5p1 : List Int) (c5p2 : List Int) (c5p3 : List Int) (c5p4 : Int) (c5p5 : List Int) (c5p6 : Int) (c5p7 : Int) (c5p8 : List Int) (c5p10 : Int), Xt1 x4 x6 c2p0 c2p1 c2p2 c2p3 c2p4 c2p5 c2p6 c2p7 c2p8 c2p10 c5p0 c5p1 c5p2 c5p3 c5p4 c5p5 c5p6 c5p7 c5p8 c5p10 = Xt1q x4 x6 c2p0 c2p1 c2p2 c2p3 c2p4 c2p5 c2p6 c2p7 c2p8 c2p10 c5p0 c5p1 c5p2 c5p3 c5p4 c5p5 c5p6 c5p7 c5p8 c5p10) (n : Nat) (x4 : List Int) (x6 : List Int) (c2p0 : Int) (c2p1 : List Int) (c2p2 : List Int) (c2p3 : List Int) (c2p4 : Int) (c2p5 : List Int) (c2p6 : Int) (c2p7 : Int) (c2p8 : List Int) (c2p10 : Int) (c5p0 : Int) (c5p1 : List Int) (c5p2 : List Int) (c5p3 : List Int) (c5p4 : Int) (c5p5 : List Int) (c5p6 : Int) (c5p7 : Int) (c5p8 : List Int) (c5p10 : Int) : l0 k Xt1 n x4 x6 c2p0 c2p1 c2p2 c2p3 c2p4 c2p5 c2p6 c2p7 c2p8 c2p10 c5p0 c5p1 c5p2 c5p3 c5p4 c5p5 c5p6 c5p7 c5p8 c5p10 = l0 k Xt1q n x4 x6 c2p0 c2p1 c2p2 c2p3 c2p4 c2p5 c2p6 c2p7 c2p8 c2p10 c5p0 c5p1 c5p2 c5p3 c5p4 c5p5 c5p6 c5p7 c5p8 c5p10 := by
  obtain rfl : Xt1 = Xt1q := by funext x4; funext x6; funext c2p0; funext c2p1; funext c2p2; funext c2p3; funext c2p4; funext c2p5; funext c2p6; funext c2p7; funext c2p8; funext c2p10; funext c5p0; funext c5p1; funext c5p2; funext c5p3; funext c5p4; funext c5p5; funext c5p6; funext c5p7; funext c5p8; funext c5p10; exact hXt1 x4 x6 c2p0 c2p1 c2p2 c2p3 c2p4 c2p5 c2p6 c2p7 c2p8 c2p10 c5p0 c5p1 c5p2 c5p3 c5p4 c5p5 c5p6 c5p7 c5p8 c5p10
  rfl
noncomputable def cd3 : Code := cR (cR (cR (cR (cL (cR (cR (cR (cL (cR (cL (cR (cR (cR (cR (cR (cB Try.f77))))))))))))))))
def St6 (x4 : List Int) (x6 : List Int) (c2p0 : Int) (c2p1 : List Int) (c2p2 : List Int) (c2p3 : List Int) (c2p4 : Int) (c2p5 : List Int) (c2p6 : Int) (c2p7 : Int) (c2p8 : List Int) (c2p10 : Int) (c5p0 : Int) (c5p1 : List Int) (c5p2 : List Int) (c5p3 : List Int) (c5p4 : Int) (c5p5 : List Int) (c5p6 : Int) (c5p7 : Int) (c5p8 : List Int) (c5p10 : Int) : St := stL 147 [(2, .ref 2 0 []), (4, .data .str x4), (5, .ref 5 0 []), (6, .data .str x6)] [(2, .cell (.pair (.int .i64) (.pair (.arr 4 (.int .u64)) (.pair (.arr 4 (.int .u64)) (.pair (.arr 32 (.int .u8)) (.pair (.int .i64) (.pair (.arr 32 (.int .u8)) (.pair (.int .i64) (.pair (.int .i64) (.pair .str (.pair (.sl (.int .u8)) (.pair (.int .i64) (.pair (.sl (.arr 20 (.int .u8))) .unit)))))))))))) (.agg (.pair (.int .i64) (.pair (.arr 4 (.int .u64)) (.pair (.arr 4 (.int .u64)) (.pair (.arr 32 (.int .u8)) (.pair (.int .i64) (.pair (.arr 32 (.int .u8)) (.pair (.int .i64) (.pair (.int .i64) (.pair .str (.pair (.sl (.int .u8)) (.pair (.int .i64) (.pair (.sl (.arr 20 (.int .u8))) .unit)))))))))))) [.data (.int .i64) c2p0, .data (.arr 4 (.int .u64)) c2p1, .data (.arr 4 (.int .u64)) c2p2, .data (.arr 32 (.int .u8)) c2p3, .data (.int .i64) c2p4, .data (.arr 32 (.int .u8)) c2p5, .data (.int .i64) c2p6, .data (.int .i64) c2p7, .data .str c2p8, .full (.int .u8) [], .data (.int .i64) c2p10, .full (.arr 20 (.int .u8)) []]) false), (5, .cell (.pair (.int .i64) (.pair (.arr 4 (.int .u64)) (.pair (.arr 4 (.int .u64)) (.pair (.arr 32 (.int .u8)) (.pair (.int .i64) (.pair (.arr 32 (.int .u8)) (.pair (.int .i64) (.pair (.int .i64) (.pair .str (.pair (.sl (.int .u8)) (.pair (.int .i64) (.pair (.sl (.arr 20 (.int .u8))) .unit)))))))))))) (.agg (.pair (.int .i64) (.pair (.arr 4 (.int .u64)) (.pair (.arr 4 (.int .u64)) (.pair (.arr 32 (.int .u8)) (.pair (.int .i64) (.pair (.arr 32 (.int .u8)) (.pair (.int .i64) (.pair (.int .i64) (.pair .str (.pair (.sl (.int .u8)) (.pair (.int .i64) (.pair (.sl (.arr 20 (.int .u8))) .unit)))))))))))) [.data (.int .i64) c5p0, .data (.arr 4 (.int .u64)) c5p1, .data (.arr 4 (.int .u64)) c5p2, .data (.arr 32 (.int .u8)) c5p3, .data (.int .i64) c5p4, .data (.arr 32 (.int .u8)) c5p5, .data (.int .i64) c5p6, .data (.int .i64) c5p7, .data .str c5p8, .full (.int .u8) [], .data (.int .i64) c5p10, .full (.arr 20 (.int .u8)) []]) false)]
def j2 {α : Type} (Rt : Int → (Int × List Int × List Int × List Int × Int × List Int × Int × Int × List Int × List Int × Int × List (List Int) × Unit) → Option α) (x4 : List Int) (x6 : List Int) (c2p0 : Int) (c2p1 : List Int) (c2p2 : List Int) (c2p3 : List Int) (c2p4 : Int) (c2p5 : List Int) (c2p6 : Int) (c2p7 : Int) (c2p8 : List Int) (c2p10 : Int) (c5p0 : Int) (c5p1 : List Int) (c5p2 : List Int) (c5p3 : List Int) (c5p4 : Int) (c5p5 : List Int) (c5p6 : Int) (c5p7 : Int) (c5p8 : List Int) (c5p10 : Int) : Option α :=
  if 0 ≤ (0 : Int) ∧ (0 : Int) ≤ (32 : Int) ∧ (32 : Int) ≤ (x4.length : Int) then
    (Go.Bx.basculeref_word.run (cutL x4 0 32)).bind fun y8 =>
    if 0 ≤ (32 : Int) ∧ (32 : Int) ≤ (34 : Int) ∧ (34 : Int) ≤ (x4.length : Int) then
      (Go.Bx.basculeref_number.run (cutL x4 32 34)).bind fun y9 =>
      if 0 ≤ (34 : Int) ∧ (34 : Int) < (x4.length : Int) then
        j1 Rt c2p0 c2p1 c2p2 c2p3 c2p4 c2p5 c2p6 c2p7 c2p8 c2p10 c5p0 c5p1 c5p2 y8 y9 c5p5 c5p6 (IntKind.i64.wrap (List.getD x4 34 0)) x6 [] c5p10 []
      else none
    else none
  else none
theorem j2_eq {α : Type} (k : Nat) (Q : Ex → St → Option α) (x4 : List Int) (x6 : List Int) (c2p0 : Int) (c2p1 : List Int) (c2p2 : List Int) (c2p3 : List Int) (c2p4 : Int) (c2p5 : List Int) (c2p6 : Int) (c2p7 : Int) (c2p8 : List Int) (c2p10 : Int) (c5p0 : Int) (c5p1 : List Int) (c5p2 : List Int) (c5p3 : List Int) (c5p4 : Int) (c5p5 : List Int) (c5p6 : Int) (c5p7 : Int) (c5p8 : List Int) (c5p10 : Int) :
    (den C k) cd3 (blkQ C 0 (sq (den C k) (lp C k) Js C cd0 Q)) (St6 x4 x6 c2p0 c2p1 c2p2 c2p3 c2p4 c2p5 c2p6 c2p7 c2p8 c2p10 c5p0 c5p1 c5p2 c5p3 c5p4 c5p5 c5p6 c5p7 c5p8 c5p10) = j2 (fun (x3 : Int) (c2 : Int × List Int × List Int × List Int × Int × List Int × Int × Int × List Int × List Int × Int × List (List Int) × Unit) => Q .ret (St1 x3 c2)) x4 x6 c2p0 c2p1 c2p2 c2p3 c2p4 c2p5 c2p6 c2p7 c2p8 c2p10 c5p0 c5p1 c5p2 c5p3 c5p4 c5p5 c5p6 c5p7 c5p8 c5p10 := by
  have h : ∀ (D L : DT α), denJ D L Js C cd3 (blkQ C 0 (sq D L Js C cd0 Q)) (St6 x4 x6 c2p0 c2p1 c2p2 c2p3 c2p4 c2p5 c2p6 c2p7 c2p8 c2p10 c5p0 c5p1 c5p2 c5p3 c5p4 c5p5 c5p6 c5p7 c5p8 c5p10) =
        if 0 ≤ (0 : Int) ∧ (0 : Int) ≤ (32 : Int) ∧ (32 : Int) ≤ (x4.length : Int) then
          (Go.Bx.basculeref_word.run (cutL x4 0 32)).bind fun y8 =>
          if 0 ≤ (32 : Int) ∧ (32 : Int) ≤ (34 : Int) ∧ (34 : Int) ≤ (x4.length : Int) then
            (Go.Bx.basculeref_number.run (cutL x4 32 34)).bind fun y9 =>
            if 0 ≤ (34 : Int) ∧ (34 : Int) < (x4.length : Int) then
              D cd0 Q (St3 c2p0 c2p1 c2p2 c2p3 c2p4 c2p5 c2p6 c2p7 c2p8 c2p10 c5p0 c5p1 c5p2 y8 y9 c5p5 c5p6 (IntKind.i64.wrap (List.getD x4 34 0)) x6 [] c5p10 [])
            else none
          else none
        else none := by
    intro D L; kernel_rfl
  refine (show (den C k) cd3 (blkQ C 0 (sq (den C k) (lp C k) Js C cd0 Q)) (St6 x4 x6 c2p0 c2p1 c2p2 c2p3 c2p4 c2p5 c2p6 c2p7 c2p8 c2p10 c5p0 c5p1 c5p2 c5p3 c5p4 c5p5 c5p6 c5p7 c5p8 c5p10) = denJ (den C k) (lp C k) Js C cd3 (blkQ C 0 (sq (den C k) (lp C k) Js C cd0 Q)) (St6 x4 x6 c2p0 c2p1 c2p2 c2p3 c2p4 c2p5 c2p6 c2p7 c2p8 c2p10 c5p0 c5p1 c5p2 c5p3 c5p4 c5p5 c5p6 c5p7 c5p8 c5p10) from (denJ_den _ _ _ _ _ _).symm).trans ((h (den C k) (lp C k)).trans ?_)
  simp only [j1_eq]
  first | rfl | kernel_rfl
theorem a0 {α : Type} (k : Nat) (Q : Ex → St → Option α) (x4 : List Int) (x6 : List Int) (c2p0 : Int) (c2p1 : List Int) (c2p2 : List Int) (c2p3 : List Int) (c2p4 : Int) (c2p5 : List Int) (c2p6 : Int) (c2p7 : Int) (c2p8 : List Int) (c2p10 : Int) (c5p0 : Int) (c5p1 : List Int) (c5p2 : List Int) (c5p3 : List Int) (c5p4 : Int) (c5p5 : List Int) (c5p6 : Int) (c5p7 : Int) (c5p8 : List Int) (c5p10 : Int) :
    (lp C k) cd2 (blkQ C 1 (sq (den C k) (lp C k) Js C cd3 (blkQ C 0 (sq (den C k) (lp C k) Js C cd0 Q)))) (St4 x4 x6 c2p0 c2p1 c2p2 c2p3 c2p4 c2p5 c2p6 c2p7 c2p8 c2p10 c5p0 c5p1 c5p2 c5p3 c5p4 c5p5 c5p6 c5p7 c5p8 c5p10) = l0 k (fun (x4 : List Int) (x6 : List Int) (c2p0 : Int) (c2p1 : List Int) (c2p2 : List Int) (c2p3 : List Int) (c2p4 : Int) (c2p5 : List Int) (c2p6 : Int) (c2p7 : Int) (c2p8 : List Int) (c2p10 : Int) (c5p0 : Int) (c5p1 : List Int) (c5p2 : List Int) (c5p3 : List Int) (c5p4 : Int) (c5p5 : List Int) (c5p6 : Int) (c5p7 : Int) (c5p8 : List Int) (c5p10 : Int) => j2 (fun (x3 : Int) (c2 : Int × List Int × List Int × List Int × Int × List Int × Int × Int × List Int × List Int × Int × List (List Int) × Unit) => Q .ret (St1 x3 c2)) x4 x6 c2p0 c2p1 c2p2 c2p3 c2p4 c2p5 c2p6 c2p7 c2p8 c2p10 c5p0 c5p1 c5p2 c5p3 c5p4 c5p5 c5p6 c5p7 c5p8 c5p10) k x4 x6 c2p0 c2p1 c2p2 c2p3 c2p4 c2p5 c2p6 c2p7 c2p8 c2p10 c5p0 c5p1 c5p2 c5p3 c5p4 c5p5 c5p6 c5p7 c5p8 c5p10 :=
  (show (lp C k) cd2 (blkQ C 1 (sq (den C k) (lp C k) Js C cd3 (blkQ C 0 (sq (den C k) (lp C k) Js C cd0 Q)))) (St4 x4 x6 c2p0 c2p1 c2p2 c2p3 c2p4 c2p5 c2p6 c2p7 c2p8 c2p10 c5p0 c5p1 c5p2 c5p3 c5p4 c5p5 c5p6 c5p7 c5p8 c5p10) = iter (rnd C k cd2 57 (blkQ C 1 (sq (den C k) (lp C k) Js C cd3 (blkQ C 0 (sq (den C k) (lp C k) Js C cd0 Q))))) k (St4 x4 x6 c2p0 c2p1 c2p2 c2p3 c2p4 c2p5 c2p6 c2p7 c2p8 c2p10 c5p0 c5p1 c5p2 c5p3 c5p4 c5p5 c5p6 c5p7 c5p8 c5p10) by kernel_rfl).trans ((l0_eq k (blkQ C 1 (sq (den C k) (lp C k) Js C cd3 (blkQ C 0 (sq (den C k) (lp C k) Js C cd0 Q)))) k x4 x6 c2p0 c2p1 c2p2 c2p3 c2p4 c2p5 c2p6 c2p7 c2p8 c2p10 c5p0 c5p1 c5p2 c5p3 c5p4 c5p5 c5p6 c5p7 c5p8 c5p10).trans (l0_congr k _ _ (fun x4 x6 c2p0 c2p1 c2p2 c2p3 c2p4 c2p5 c2p6 c2p7 c2p8 c2p10 c5p0 c5p1 c5p2 c5p3 c5p4 c5p5 c5p6 c5p7 c5p8 c5p10 => ((show (blkQ C 1 (sq (den C k) (lp C k) Js C cd3 (blkQ C 0 (sq (den C k) (lp C k) Js C cd0 Q)))) (.exit 1) (St5 x4 x6 c2p0 c2p1 c2p2 c2p3 c2p4 c2p5 c2p6 c2p7 c2p8 c2p10 c5p0 c5p1 c5p2 c5p3 c5p4 c5p5 c5p6 c5p7 c5p8 c5p10) = (den C k) cd3 (blkQ C 0 (sq (den C k) (lp C k) Js C cd0 Q)) (St6 x4 x6 c2p0 c2p1 c2p2 c2p3 c2p4 c2p5 c2p6 c2p7 c2p8 c2p10 c5p0 c5p1 c5p2 c5p3 c5p4 c5p5 c5p6 c5p7 c5p8 c5p10) by kernel_rfl).trans (by simp only [j2_eq]))) k x4 x6 c2p0 c2p1 c2p2 c2p3 c2p4 c2p5 c2p6 c2p7 c2p8 c2p10 c5p0 c5p1 c5p2 c5p3 c5p4 c5p5 c5p6 c5p7 c5p8 c5p10))
def St7 (x4 : List Int) (c2p0 : Int) (c2p1 : List Int) (c2p2 : List Int) (c2p3 : List Int) (c2p4 : Int) (c2p5 : List Int) (c2p6 : Int) (c2p7 : Int) (c2p8 : List Int) (c2p10 : Int) (c5p0 : Int) (c5p1 : List Int) (c5p2 : List Int) (c5p3 : List Int) (c5p4 : Int) (c5p5 : List Int) (c5p6 : Int) (c5p7 : Int) (c5p8 : List Int) (c5p10 : Int) (c140 : List (List Int)) : St := stL 147 [(2, .ref 2 0 []), (4, .data .str x4), (5, .ref 5 0 [])] [(2, .cell (.pair (.int .i64) (.pair (.arr 4 (.int .u64)) (.pair (.arr 4 (.int .u64)) (.pair (.arr 32 (.int .u8)) (.pair (.int .i64) (.pair (.arr 32 (.int .u8)) (.pair (.int .i64) (.pair (.int .i64) (.pair .str (.pair (.sl (.int .u8)) (.pair (.int .i64) (.pair (.sl (.arr 20 (.int .u8))) .unit)))))))))))) (.agg (.pair (.int .i64) (.pair (.arr 4 (.int .u64)) (.pair (.arr 4 (.int .u64)) (.pair (.arr 32 (.int .u8)) (.pair (.int .i64) (.pair (.arr 32 (.int .u8)) (.pair (.int .i64) (.pair (.int .i64) (.pair .str (.pair (.sl (.int .u8)) (.pair (.int .i64) (.pair (.sl (.arr 20 (.int .u8))) .unit)))))))))))) [.data (.int .i64) c2p0, .data (.arr 4 (.int .u64)) c2p1, .data (.arr 4 (.int .u64)) c2p2, .data (.arr 32 (.int .u8)) c2p3, .data (.int .i64) c2p4, .data (.arr 32 (.int .u8)) c2p5, .data (.int .i64) c2p6, .data (.int .i64) c2p7, .data .str c2p8, .full (.int .u8) [], .data (.int .i64) c2p10, .full (.arr 20 (.int .u8)) []]) false), (5, .cell (.pair (.int .i64) (.pair (.arr 4 (.int .u64)) (.pair (.arr 4 (.int .u64)) (.pair (.arr 32 (.int .u8)) (.pair (.int .i64) (.pair (.arr 32 (.int .u8)) (.pair (.int .i64) (.pair (.int .i64) (.pair .str (.pair (.sl (.int .u8)) (.pair (.int .i64) (.pair (.sl (.arr 20 (.int .u8))) .unit)))))))))))) (.agg (.pair (.int .i64) (.pair (.arr 4 (.int .u64)) (.pair (.arr 4 (.int .u64)) (.pair (.arr 32 (.int .u8)) (.pair (.int .i64) (.pair (.arr 32 (.int .u8)) (.pair (.int .i64) (.pair (.int .i64) (.pair .str (.pair (.sl (.int .u8)) (.pair (.int .i64) (.pair (.sl (.arr 20 (.int .u8))) .unit)))))))))))) [.data (.int .i64) c5p0, .data (.arr 4 (.int .u64)) c5p1, .data (.arr 4 (.int .u64)) c5p2, .data (.arr 32 (.int .u8)) c5p3, .data (.int .i64) c5p4, .data (.arr 32 (.int .u8)) c5p5, .data (.int .i64) c5p6, .data (.int .i64) c5p7, .data .str c5p8, .full (.int .u8) [], .data (.int .i64) c5p10, .app 140 0]) false), (140, .buf (.arr 20 (.int .u8)) c140 0 true)]
noncomputable def cd4 : Code := cL (cL (cR (cR (cR (cR (cL (cR (cR (cR (cR (cR (cL (cR (cL (cR (cR (cR (cR (cR (cB Try.f77))))))))))))))))))))
def St8 (c2p0 : Int) (c2p1 : List Int) (c2p2 : List Int) (c2p3 : List Int) (c2p4 : Int) (c2p5 : List Int) (c2p6 : Int) (c2p7 : Int) (c2p8 : List Int) (c2p10 : Int) (c5p0 : Int) (c5p1 : List Int) (c5p2 : List Int) (c5p3 : List Int) (c5p4 : Int) (c5p5 : List Int) (c5p6 : Int) (c5p7 : Int) (c5p8 : List Int) (c5p10 : Int) (c140 : List (List Int)) : St := stL 147 [(2, .ref 2 0 []), (5, .ref 5 0 [])] [(2, .cell (.pair (.int .i64) (.pair (.arr 4 (.int .u64)) (.pair (.arr 4 (.int .u64)) (.pair (.arr 32 (.int .u8)) (.pair (.int .i64) (.pair (.arr 32 (.int .u8)) (.pair (.int .i64) (.pair (.int .i64) (.pair .str (.pair (.sl (.int .u8)) (.pair (.int .i64) (.pair (.sl (.arr 20 (.int .u8))) .unit)))))))))))) (.agg (.pair (.int .i64) (.pair (.arr 4 (.int .u64)) (.pair (.arr 4 (.int .u64)) (.pair (.arr 32 (.int .u8)) (.pair (.int .i64) (.pair (.arr 32 (.int .u8)) (.pair (.int .i64) (.pair (.int .i64) (.pair .str (.pair (.sl (.int .u8)) (.pair (.int .i64) (.pair (.sl (.arr 20 (.int .u8))) .unit)))))))))))) [.data (.int .i64) c2p0, .data (.arr 4 (.int .u64)) c2p1, .data (.arr 4 (.int .u64)) c2p2, .data (.arr 32 (.int .u8)) c2p3, .data (.int .i64) c2p4, .data (.arr 32 (.int .u8)) c2p5, .data (.int .i64) c2p6, .data (.int .i64) c2p7, .data .str c2p8, .full (.int .u8) [], .data (.int .i64) c2p10, .full (.arr 20 (.int .u8)) []]) false), (5, .cell (.pair (.int .i64) (.pair (.arr 4 (.int .u64)) (.pair (.arr 4 (.int .u64)) (.pair (.arr 32 (.int .u8)) (.pair (.int .i64) (.pair (.arr 32 (.int .u8)) (.pair (.int .i64) (.pair (.int .i64) (.pair .str (.pair (.sl (.int .u8)) (.pair (.int .i64) (.pair (.sl (.arr 20 (.int .u8))) .unit)))))))))))) (.agg (.pair (.int .i64) (.pair (.arr 4 (.int .u64)) (.pair (.arr 4 (.int .u64)) (.pair (.arr 32 (.int .u8)) (.pair (.int .i64) (.pair (.arr 32 (.int .u8)) (.pair (.int .i64) (.pair (.int .i64) (.pair .str (.pair (.sl (.int .u8)) (.pair (.int .i64) (.pair (.sl (.arr 20 (.int .u8))) .unit)))))))))))) [.data (.int .i64) c5p0, .data (.arr 4 (.int .u64)) c5p1, .data (.arr 4 (.int .u64)) c5p2, .data (.arr 32 (.int .u8)) c5p3, .data (.int .i64) c5p4, .data (.arr 32 (.int .u8)) c5p5, .data (.int .i64) c5p6, .data (.int .i64) c5p7, .data .str c5p8, .full (.int .u8) [], .data (.int .i64) c5p10, .app 140 0]) false), (140, .buf (.arr 20 (.int .u8)) c140 0 true)]
def l1s {α : Type} (Nx : (List Int) → Int → (List Int) → (List Int) → (List Int) → Int → (List Int) → Int → Int → (List Int) → Int → Int → (List Int) → (List Int) → (List Int) → Int → (List Int) → Int → Int → (List Int) → Int → (List (List Int)) → Option α) (Xt3 : Int → (List Int) → (List Int) → (List Int) → Int → (List Int) → Int → Int → (List Int) → Int → Int → (List Int) → (List Int) → (List Int) → Int → (List Int) → Int → Int → (List Int) → Int → (List (List Int)) → Option α) (x4 : List Int) (c2p0 : Int) (c2p1 : List Int) (c2p2 : List Int) (c2p3 : List Int) (c2p4 : Int) (c2p5 : List Int) (c2p6 : Int) (c2p7 : Int) (c2p8 : List Int) (c2p10 : Int) (c5p0 : Int) (c5p1 : List Int) (c5p2 : List Int) (c5p3 : List Int) (c5p4 : Int) (c5p5 : List Int) (c5p6 : Int) (c5p7 : Int) (c5p8 : List Int) (c5p10 : Int) (c140 : List (List Int)) : Option α :=
  if (not (beqD .str x4 [])) = true then
    if fitB (c140.length + 1) 20 = true then
      if 0 ≤ (20 : Int) ∧ (20 : Int) ≤ (x4.length : Int) ∧ (x4.length : Int) ≤ (x4.length : Int) then
        Nx (cutL x4 20 (x4.length : Int)) c2p0 c2p1 c2p2 c2p3 c2p4 c2p5 c2p6 c2p7 c2p8 c2p10 c5p0 c5p1 c5p2 c5p3 c5p4 c5p5 c5p6 c5p7 c5p8 c5p10 (c140 ++ [(cpyL (List.replicate 20 0) 0 20 x4)])
      else none
    else none
  else
    Xt3 c2p0 c2p1 c2p2 c2p3 c2p4 c2p5 c2p6 c2p7 c2p8 c2p10 c5p0 c5p1 c5p2 c5p3 c5p4 c5p5 c5p6 c5p7 c5p8 c5p10 c140
theorem l1s_eq {α : Type} (k : Nat) (next : St → Option α) (Q : Ex → St → Option α) (x4 : List Int) (c2p0 : Int) (c2p1 : List Int) (c2p2 : List Int) (c2p3 : List Int) (c2p4 : Int) (c2p5 : List Int) (c2p6 : Int) (c2p7 : Int) (c2p8 : List Int) (c2p10 : Int) (c5p0 : Int) (c5p1 : List Int) (c5p2 : List Int) (c5p3 : List Int) (c5p4 : Int) (c5p5 : List Int) (c5p6 : Int) (c5p7 : Int) (c5p8 : List Int) (c5p10 : Int) (c140 : List (List Int)) :
    rnd C k cd4 87 Q next (St7 x4 c2p0 c2p1 c2p2 c2p3 c2p4 c2p5 c2p6 c2p7 c2p8 c2p10 c5p0 c5p1 c5p2 c5p3 c5p4 c5p5 c5p6 c5p7 c5p8 c5p10 c140) = l1s (fun (x4 : List Int) (c2p0 : Int) (c2p1 : List Int) (c2p2 : List Int) (c2p3 : List Int) (c2p4 : Int) (c2p5 : List Int) (c2p6 : Int) (c2p7 : Int) (c2p8 : List Int) (c2p10 : Int) (c5p0 : Int) (c5p1 : List Int) (c5p2 : List Int) (c5p3 : List Int) (c5p4 : Int) (c5p5 : List Int) (c5p6 : Int) (c5p7 : Int) (c5p8 : List Int) (c5p10 : Int) (c140 : List (List Int)) => next (St7 x4 c2p0 c2p1 c2p2 c2p3 c2p4 c2p5 c2p6 c2p7 c2p8 c2p10 c5p0 c5p1 c5p2 c5p3 c5p4 c5p5 c5p6 c5p7 c5p8 c5p10 c140)) (fun (c2p0 : Int) (c2p1 : List Int) (c2p2 : List Int) (c2p3 : List Int) (c2p4 : Int) (c2p5 : List Int) (c2p6 : Int) (c2p7 : Int) (c2p8 : List Int) (c2p10 : Int) (c5p0 : Int) (c5p1 : List Int) (c5p2 : List Int) (c5p3 : List Int) (c5p4 : Int) (c5p5 : List Int) (c5p6 : Int) (c5p7 : Int) (c5p8 : List Int) (c5p10 : Int) (c140 : List (List Int)) => Q (.exit 3) (St8 c2p0 c2p1 c2p2 c2p3 c2p4 c2p5 c2p6 c2p7 c2p8 c2p10 c5p0 c5p1 c5p2 c5p3 c5p4 c5p5 c5p6 c5p7 c5p8 c5p10 c140)) x4 c2p0 c2p1 c2p2 c2p3 c2p4 c2p5 c2p6 c2p7 c2p8 c2p10 c5p0 c5p1 c5p2 c5p3 c5p4 c5p5 c5p6 c5p7 c5p8 c5p10 c140 := by
  have h : ∀ (D L : DT α), denJ D L Js C cd4 (lq C 87 next Q) (St7 x4 c2p0 c2p1 c2p2 c2p3 c2p4 c2p5 c2p6 c2p7 c2p8 c2p10 c5p0 c5p1 c5p2 c5p3 c5p4 c5p5 c5p6 c5p7 c5p8 c5p10 c140) =
        if (not (beqD .str x4 [])) = true then
          if fitB (c140.length + 1) 20 = true then
            if 0 ≤ (20 : Int) ∧ (20 : Int) ≤ (x4.length : Int) ∧ (x4.length : Int) ≤ (x4.length : Int) then
              next (St7 (cutL x4 20 (x4.length : Int)) c2p0 c2p1 c2p2 c2p3 c2p4 c2p5 c2p6 c2p7 c2p8 c2p10 c5p0 c5p1 c5p2 c5p3 c5p4 c5p5 c5p6 c5p7 c5p8 c5p10 (c140 ++ [(cpyL (List.replicate 20 0) 0 20 x4)]))
            else none
          else none
        else
          Q (.exit 3) (St8 c2p0 c2p1 c2p2 c2p3 c2p4 c2p5 c2p6 c2p7 c2p8 c2p10 c5p0 c5p1 c5p2 c5p3 c5p4 c5p5 c5p6 c5p7 c5p8 c5p10 c140) := by
    intro D L; kernel_rfl
  refine (show rnd C k cd4 87 Q next (St7 x4 c2p0 c2p1 c2p2 c2p3 c2p4 c2p5 c2p6 c2p7 c2p8 c2p10 c5p0 c5p1 c5p2 c5p3 c5p4 c5p5 c5p6 c5p7 c5p8 c5p10 c140) = denJ (den C k) (lp C k) Js C cd4 (lq C 87 next Q) (St7 x4 c2p0 c2p1 c2p2 c2p3 c2p4 c2p5 c2p6 c2p7 c2p8 c2p10 c5p0 c5p1 c5p2 c5p3 c5p4 c5p5 c5p6 c5p7 c5p8 c5p10 c140) from (denJ_den _ _ _ _ _ _).symm).trans ((h (den C k) (lp C k)).trans ?_)
  first | rfl | kernel_rfl
def l1 {α : Type} (k : Nat) (Xt3 : Int → (List Int) → (List Int) → (List Int) → Int → (List Int) → Int → Int → (List Int) → Int → Int → (List Int) → (List Int) → (List Int) → Int → (List Int) → Int → Int → (List Int) → Int → (List (List Int)) → Option α) : Nat → (List Int) → Int → (List Int) → (List Int) → (List Int) → Int → (List Int) → Int → Int → (List Int) → Int → Int → (List Int) → (List Int) → (List Int) → Int → (List Int) → Int → Int → (List Int) → Int → (List (List Int)) → Option α
  | 0, _, _, _, _, _, _, _, _, _, _, _, _, _, _, _, _, _, _, _, _, _, _ => none
  | n + 1, x4, c2p0, c2p1, c2p2, c2p3, c2p4, c2p5, c2p6, c2p7, c2p8, c2p10, c5p0, c5p1, c5p2, c5p3, c5p4, c5p5, c5p6, c5p7, c5p8, c5p10, c140 => l1s (l1 k Xt3 n) Xt3 x4 c2p0 c2p1 c2p2 c2p3 c2p4 c2p5 c2p6 c2p7 c2p8 c2p10 c5p0 c5p1 c5p2 c5p3 c5p4 c5p5 c5p6 c5p7 c5p8 c5p10 c140
theorem l1_eq {α : Type} (k : Nat) (Q : Ex → St → Option α) : ∀ (n : Nat) (x4 : List Int) (c2p0 : Int) (c2p1 : List Int) (c2p2 : List Int) (c2p3 : List Int) (c2p4 : Int) (c2p5 : List Int) (c2p6 : Int) (c2p7 : Int) (c2p8 : List Int) (c2p10 : Int) (c5p0 : Int) (c5p1 : List Int) (c5p2 : List Int) (c5p3 : List Int) (c5p4 : Int) (c5p5 : List Int) (c5p6 : Int) (c5p7 : Int) (c5p8 : List Int) (c5p10 : Int) (c140 : List (List Int)), iter (rnd C k cd4 87 Q) n (St7 x4 c2p0 c2p1 c2p2 c2p3 c2p4 c2p5 c2p6 c2p7 c2p8 c2p10 c5p0 c5p1 c5p2 c5p3 c5p4 c5p5 c5p6 c5p7 c5p8 c5p10 c140) = l1 k (fun (c2p0 : Int) (c2p1 : List Int) (c2p2 : List Int) (c2p3 : List Int) (c2p4 : Int) (c2p5 : List Int) (c2p6 : Int) (c2p7 : Int) (c2p8 : List Int) (c2p10 : Int) (c5p0 : Int) (c5p1 : List Int) (c5p2 : List Int) (c5p3 : List Int) (c5p4 : Int) (c5p5 : List Int) (c5p6 : Int) (c5p7 : Int) (c5p8 : List Int) (c5p10 : Int) (c140 : List (List Int)) => Q (.exit 3) (St8 c2p0 c2p1 c2p2 c2p3 c2p4 c2p5 c2p6 c2p7 c2p8 c2p10 c5p0 c5p1 c5p2 c5p3 c5p4 c5p5 c5p6 c5p7 c5p8 c5p10 c140)) n x4 c2p0 c2p1 c2p2 c2p3 c2p4 c2p5 c2p6 c2p7 c2p8 c2p10 c5p0 c5p1 c5p2 c5p3 c5p4 c5p5 c5p6 c5p7 c5p8 c5p10 c140
  | 0, _, _, _, _, _, _, _, _, _, _, _, _, _, _, _, _, _, _, _, _, _, _ => rfl
  | n + 1, x4, c2p0, c2p1, c2p2, c2p3, c2p4, c2p5, c2p6, c2p7, c2p8, c2p10, c5p0, c5p1, c5p2, c5p3, c5p4, c5p5, c5p6, c5p7, c5p8, c5p10, c140 => (iter_succ _ _ _).trans ((l1s_eq k (iter (rnd C k cd4 87 Q) n) Q x4 c2p0 c2p1 c2p2 c2p3 c2p4 c2p5 c2p6 c2p7 c2p8 c2p10 c5p0 c5p1 c5p2 c5p3 c5p4 c5p5 c5p6 c5p7 c5p8 c5p10 c140).trans (congrArg (fun N => l1s N (fun (c2p0 : Int) (c2p1 : List Int) (c2p2 : List Int) (c2p3 : List Int) (c2p4 : Int) (c2p5 : List Int) (c2p6 : Int) (c2p7 : Int) (c2p8 : List Int) (c2p10 : Int) (c5p0 : Int) (c5p1 : List Int) (c5p2 : List Int) (c5p3 : List Int) (c5p4 : Int) (c5p5 : List Int) (c5p6 : Int) (c5p7 : Int) (c5p8 : List Int) (c5p10 : Int) (c140 : List (List Int)) => Q (.exit 3) (St8 c2p0 c2p1 c2p2 c2p3 c2p4 c2p5 c2p6 c2p7 c2p8 c2p10 c5p0 c5p1 c5p2 c5p3 c5p4 c5p5 c5p6 c5p7 c5p8 c5p10 c140)) x4 c2p0 c2p1 c2p2 c2p3 c2p4 c2p5 c2p6 c2p7 c2p8 c2p10 c5p0 c5p1 c5p2 c5p3 c5p4 c5p5 c5p6 c5p7 c5p8 c5p10 c140) (funext fun x4 => funext fun c2p0 => funext fun c2p1 => funext fun c2p2 => funext fun c2p3 => funext fun c2p4 => funext fun c2p5 => funext fun c2p6 => funext fun c2p7 => funext fun c2p8 => funext fun c2p10 => funext fun c5p0 => funext fun c5p1 => funext fun c5p2 => funext fun c5p3 => funext fun c5p4 => funext fun c5p5 => funext fun c5p6 => funext fun c5p7 => funext fun c5p8 => funext fun c5p10 => funext fun c140 => l1_eq k Q n x4 c2p0 c2p1 c2p2 c2p3 c2p4 c2p5 c2p6 c2p7 c2p8 c2p10 c5p0 c5p1 c5p2 c5p3 c5p4 c5p5 c5p6 c5p7 c5p8 c5p10 c140)))
theorem l1_congr {α : Type} (k : Nat) (Xt3 : Int → (List Int) → (List Int) → (List Int) → Int → (List Int) → Int → Int → (List Int) → Int → Int → (List Int) → (List Int) → (List Int) → Int → (List Int) → Int → Int → (List Int) → Int → (List (List Int)) → Option α) (Xt3q : Int → (List Int) → (List Int) → (List Int) → Int → (List Int) → Int → Int → (List Int) → Int → Int → (List Int) → (List Int) → (List Int) → Int → (List Int) → Int → Int → (List Int) → Int → (List (List Int)) → Option α) (hXt3 : ∀ (c2p0 : Int) (c2p1 : List Int) (c2p2 : List Int) (c2p3 : List Int) (c2p4 : Int) (c2p5 : List Int) (c2p6 : Int) (c2p7 : Int) (c2p8 : List Int) (c2p10 : Int) (c5p0 : Int) (c5p1 : List Int) (c5p2 : List Int) (c5p3 : List Int) (c5p4 : Int) (c5p5 : List Int) (c5p6 : Int) (c5p7 : Int) (c5p8 : List Int) (c5p10 : Int) (c140 : List (List Int)), Xt3 c2p0 c2p1 c2p2 c2p3 c2p4 c2p5 c2p6 c2p7 c2p8 c2p10 c5p0 c5p1 c5p2 c5p3 c5p4 c5p5 c5p6 c5p7 c5p8 c5p10 c140 = Xt3q c2p0 c2p1 c2p2 c2p3 c2p4 c2p5 c2p6 c2p7 c2p8 c2p10 c5p0 c5p1 c5p2 c5p3 c5p4 c5p5 c5p6 c5p7 c5p8 c5p10 c140) (n : Nat) (x4 : List Int) (c2p0 : Int) (c2p1 : List Int) (c2p2 : List Int) (c2p3 : List Int) (c2p4 : Int) (c2p5 : List Int) (c2p6 : Int) (c2p7 : Int) (c2p8 : List Int) (c2p10 : Int) (c5p0 : Int) (c5p1 : List Int) (c5p2 : List Int) (c5p3 : List Int) (c5p4 : Int) (c5p5 : List Int) (c5p6 : Int) (c5p7 : Int) (c5p8 : List Int) (c5p10 : Int) (c140 : List (List Int)) : l1 k Xt3 n x4 c2p0 c2p1 c2p2 c2p3 c2p4 c2p5 c2p6 c2p7 c2p8 c2p10 c5p0 c5p1 c5p2 c5p3 c5p4 c5p5 c5p6 c5p7 c5p8 c5p10 c140 = l1 k Xt3q n x4 c2p0 c2p1 c2p2 c2p3 c2p4 c2p5 c2p6 c2p7 c2p8 c2p10 c5p0 c5p1 c5p2 c5p3 c5p4 c5p5 c5p6 c5p7 c5p8 c5p10 c140 := by
  obtain rfl : Xt3 = Xt3q := by funext c2p0; funext c2p1; funext c2p2; funext c2p3; funext c2p4; funext c2p5; funext c2p6; funext c2p7; funext c2p8; funext c2p10; funext c5p0; funext c5p1; funext c5p2; funext c5p3; funext c5p4; funext c5p5; funext c5p6; funext c5p7; funext c5p8; funext c5p10; funext c140; exact hXt3 c2p0 c2p1 c2p2 c2p3 c2p4 c2p5 c2p6 c2p7 c2p8 c2p10 c5p0 c5p1 c5p2 c5p3 c5p4 c5p5 c5p6 c5p7 c5p8 c5p10 c140
  rfl
theorem a1 {α : Type} (k : Nat) (Q : Ex → St → Option α) (x4 : List Int) (c2p0 : Int) (c2p1 : List Int) (c2p2 : List Int) (c2p3 : List Int) (c2p4 : Int) (c2p5 : List Int) (c2p6 : Int) (c2p7 : Int) (c2p8 : List Int) (c2p10 : Int) (c5p0 : Int) (c5p1 : List Int) (c5p2 : List Int) (c5p3 : List Int) (c5p4 : Int) (c5p5 : List Int) (c5p6 : Int) (c5p7 : Int) (c5p8 : List Int) (c5p10 : Int) (c140 : List (List Int)) :
    (lp C k) cd4 (blkQ C 3 (blkQ C 0 (sq (den C k) (lp C k) Js C cd0 Q))) (St7 x4 c2p0 c2p1 c2p2 c2p3 c2p4 c2p5 c2p6 c2p7 c2p8 c2p10 c5p0 c5p1 c5p2 c5p3 c5p4 c5p5 c5p6 c5p7 c5p8 c5p10 c140) = l1 k (fun (c2p0 : Int) (c2p1 : List Int) (c2p2 : List Int) (c2p3 : List Int) (c2p4 : Int) (c2p5 : List Int) (c2p6 : Int) (c2p7 : Int) (c2p8 : List Int) (c2p10 : Int) (c5p0 : Int) (c5p1 : List Int) (c5p2 : List Int) (c5p3 : List Int) (c5p4 : Int) (c5p5 : List Int) (c5p6 : Int) (c5p7 : Int) (c5p8 : List Int) (c5p10 : Int) (c140 : List (List Int)) => j1 (fun (x3 : Int) (c2 : Int × List Int × List Int × List Int × Int × List Int × Int × Int × List Int × List Int × Int × List (List Int) × Unit) => Q .ret (St1 x3 c2)) c2p0 c2p1 c2p2 c2p3 c2p4 c2p5 c2p6 c2p7 c2p8 c2p10 c5p0 c5p1 c5p2 c5p3 c5p4 c5p5 c5p6 c5p7 c5p8 [] c5p10 c140) k x4 c2p0 c2p1 c2p2 c2p3 c2p4 c2p5 c2p6 c2p7 c2p8 c2p10 c5p0 c5p1 c5p2 c5p3 c5p4 c5p5 c5p6 c5p7 c5p8 c5p10 c140 :=
  (show (lp C k) cd4 (blkQ C 3 (blkQ C 0 (sq (den C k) (lp C k) Js C cd0 Q))) (St7 x4 c2p0 c2p1 c2p2 c2p3 c2p4 c2p5 c2p6 c2p7 c2p8 c2p10 c5p0 c5p1 c5p2 c5p3 c5p4 c5p5 c5p6 c5p7 c5p8 c5p10 c140) = iter (rnd C k cd4 87 (blkQ C 3 (blkQ C 0 (sq (den C k) (lp C k) Js C cd0 Q)))) k (St7 x4 c2p0 c2p1 c2p2 c2p3 c2p4 c2p5 c2p6 c2p7 c2p8 c2p10 c5p0 c5p1 c5p2 c5p3 c5p4 c5p5 c5p6 c5p7 c5p8 c5p10 c140) by kernel_rfl).trans ((l1_eq k (blkQ C 3 (blkQ C 0 (sq (den C k) (lp C k) Js C cd0 Q))) k x4 c2p0 c2p1 c2p2 c2p3 c2p4 c2p5 c2p6 c2p7 c2p8 c2p10 c5p0 c5p1 c5p2 c5p3 c5p4 c5p5 c5p6 c5p7 c5p8 c5p10 c140).trans (l1_congr k _ _ (fun c2p0 c2p1 c2p2 c2p3 c2p4 c2p5 c2p6 c2p7 c2p8 c2p10 c5p0 c5p1 c5p2 c5p3 c5p4 c5p5 c5p6 c5p7 c5p8 c5p10 c140 => ((show (blkQ C 3 (blkQ C 0 (sq (den C k) (lp C k) Js C cd0 Q))) (.exit 3) (St8 c2p0 c2p1 c2p2 c2p3 c2p4 c2p5 c2p6 c2p7 c2p8 c2p10 c5p0 c5p1 c5p2 c5p3 c5p4 c5p5 c5p6 c5p7 c5p8 c5p10 c140) = (den C k) cd0 Q (St3 c2p0 c2p1 c2p2 c2p3 c2p4 c2p5 c2p6 c2p7 c2p8 c2p10 c5p0 c5p1 c5p2 c5p3 c5p4 c5p5 c5p6 c5p7 c5p8 [] c5p10 c140) by kernel_rfl).trans (by simp only [j1_eq]))) k x4 c2p0 c2p1 c2p2 c2p3 c2p4 c2p5 c2p6 c2p7 c2p8 c2p10 c5p0 c5p1 c5p2 c5p3 c5p4 c5p5 c5p6 c5p7 c5p8 c5p10 c140))
def j0 {α : Type} (k : Nat) (Rt : Int → (Int × List Int × List Int × List Int × Int × List Int × Int × Int × List Int × List Int × Int × List (List Int) × Unit) → Option α) (x4 : List Int) (x20 : Int) (x22 : Bool) (c2p0 : Int) (c2p1 : List Int) (c2p2 : List Int) (c2p3 : List Int) (c2p4 : Int) (c2p5 : List Int) (c2p6 : Int) (c2p7 : Int) (c2p8 : List Int) (c2p10 : Int) (c5p0 : Int) (c5p1 : List Int) (c5p2 : List Int) (c5p3 : List Int) (c5p4 : Int) (c5p5 : List Int) (c5p6 : Int) (c5p7 : Int) (c5p8 : List Int) (c5p10 : Int) : Option α :=
  if x22 = true then
    if (decide ((x4.length : Int) < 132)) = true then
      Rt 4 (0, [0, 0, 0, 0], [0, 0, 0, 0], (List.replicate 32 0), 0, (List.replicate 32 0), 0, 0, [], [], 0, [], ())
    else
      if 0 ≤ (0 : Int) ∧ (0 : Int) ≤ (32 : Int) ∧ (32 : Int) ≤ (x4.length : Int) then
        (Go.Bx.basculeref_wideOf.run (cutL x4 0 32)).bind fun y1 =>
        if 0 ≤ (32 : Int) ∧ (32 : Int) ≤ (64 : Int) ∧ (64 : Int) ≤ (x4.length : Int) then
          (Go.Bx.basculeref_word.run (cutL x4 32 64)).bind fun y2 =>
          if 0 ≤ (64 : Int) ∧ (64 : Int) ≤ (66 : Int) ∧ (66 : Int) ≤ (x4.length : Int) then
            (Go.Bx.basculeref_number.run (cutL x4 64 66)).bind fun y3 =>
            if 0 ≤ (66 : Int) ∧ (66 : Int) ≤ (98 : Int) ∧ (98 : Int) ≤ (x4.length : Int) then
              (Go.Bx.basculeref_word.run (cutL x4 66 98)).bind fun y4 =>
              if 0 ≤ (98 : Int) ∧ (98 : Int) ≤ (100 : Int) ∧ (100 : Int) ≤ (x4.length : Int) then
                (Go.Bx.basculeref_number.run (cutL x4 98 100)).bind fun y5 =>
                if 0 ≤ (100 : Int) ∧ (100 : Int) ≤ (132 : Int) ∧ (132 : Int) ≤ (x4.length : Int) then
                  (Go.Bx.basculeref_wideOf.run (cutL x4 100 132)).bind fun y6 =>
                  if 0 ≤ (132 : Int) ∧ (132 : Int) ≤ (x4.length : Int) ∧ (x4.length : Int) ≤ (x4.length : Int) then
                    j1 Rt c2p0 c2p1 c2p2 c2p3 c2p4 c2p5 c2p6 c2p7 c2p8 c2p10 c5p0 y1 y6 y2 y3 y4 y5 c5p7 c5p8 (cutL x4 132 (x4.length : Int)) c5p10 []
                  else none
                else none
              else none
            else none
          else none
        else none
      else none
  else
    if (x20 == 2) = true then
      if (decide ((x4.length : Int) < 67)) = true then
        Rt 4 (0, [0, 0, 0, 0], [0, 0, 0, 0], (List.replicate 32 0), 0, (List.replicate 32 0), 0, 0, [], [], 0, [], ())
      else
        if (decide ((x4.length : Int) > 67)) = true then
          Rt 3 (0, [0, 0, 0, 0], [0, 0, 0, 0], (List.replicate 32 0), 0, (List.replicate 32 0), 0, 0, [], [], 0, [], ())
        else
          if 0 ≤ (35 : Int) ∧ (35 : Int) ≤ (x4.length : Int) ∧ (x4.length : Int) ≤ (x4.length : Int) then
            l0 k (fun (x4 : List Int) (x6 : List Int) (c2p0 : Int) (c2p1 : List Int) (c2p2 : List Int) (c2p3 : List Int) (c2p4 : Int) (c2p5 : List Int) (c2p6 : Int) (c2p7 : Int) (c2p8 : List Int) (c2p10 : Int) (c5p0 : Int) (c5p1 : List Int) (c5p2 : List Int) (c5p3 : List Int) (c5p4 : Int) (c5p5 : List Int) (c5p6 : Int) (c5p7 : Int) (c5p8 : List Int) (c5p10 : Int) => j2 Rt x4 x6 c2p0 c2p1 c2p2 c2p3 c2p4 c2p5 c2p6 c2p7 c2p8 c2p10 c5p0 c5p1 c5p2 c5p3 c5p4 c5p5 c5p6 c5p7 c5p8 c5p10) k x4 (cutL x4 35 (x4.length : Int)) c2p0 c2p1 c2p2 c2p3 c2p4 c2p5 c2p6 c2p7 c2p8 c2p10 c5p0 c5p1 c5p2 c5p3 c5p4 c5p5 c5p6 c5p7 c5p8 c5p10
          else none
    else
      if (x20 == 4) = true then
        cond (decide (0 ≤ (4 : Int) ∧ (4 : Int) < (x4.length : Int)) || !((decide ((x4.length : Int) < 5)) == false)) (
          if (cond (decide ((x4.length : Int) < 5)) true (decide ((x4.length : Int) < (IntKind.i64.wrap (5 + (IntKind.i64.wrap (20 * (IntKind.i64.wrap (List.getD x4 4 0))))))))) = true then
            Rt 4 (0, [0, 0, 0, 0], [0, 0, 0, 0], (List.replicate 32 0), 0, (List.replicate 32 0), 0, 0, [], [], 0, [], ())
          else
            if 0 ≤ (4 : Int) ∧ (4 : Int) < (x4.length : Int) then
              if (decide ((x4.length : Int) > (IntKind.i64.wrap (5 + (IntKind.i64.wrap (20 * (IntKind.i64.wrap (List.getD x4 4 0)))))))) = true then
                Rt 3 (0, [0, 0, 0, 0], [0, 0, 0, 0], (List.replicate 32 0), 0, (List.replicate 32 0), 0, 0, [], [], 0, [], ())
              else
                if 0 ≤ (0 : Int) ∧ (0 : Int) ≤ (4 : Int) ∧ (4 : Int) ≤ (x4.length : Int) then
                  (Go.Bx.basculeref_number.run (cutL x4 0 4)).bind fun y10 =>
                  if 0 ≤ (5 : Int) ∧ (5 : Int) ≤ (x4.length : Int) ∧ (x4.length : Int) ≤ (x4.length : Int) then
                    l1 k (fun (c2p0 : Int) (c2p1 : List Int) (c2p2 : List Int) (c2p3 : List Int) (c2p4 : Int) (c2p5 : List Int) (c2p6 : Int) (c2p7 : Int) (c2p8 : List Int) (c2p10 : Int) (c5p0 : Int) (c5p1 : List Int) (c5p2 : List Int) (c5p3 : List Int) (c5p4 : Int) (c5p5 : List Int) (c5p6 : Int) (c5p7 : Int) (c5p8 : List Int) (c5p10 : Int) (c140 : List (List Int)) => j1 Rt c2p0 c2p1 c2p2 c2p3 c2p4 c2p5 c2p6 c2p7 c2p8 c2p10 c5p0 c5p1 c5p2 c5p3 c5p4 c5p5 c5p6 c5p7 c5p8 [] c5p10 c140) k (cutL x4 5 (x4.length : Int)) c2p0 c2p1 c2p2 c2p3 c2p4 c2p5 c2p6 c2p7 c2p8 c2p10 c5p0 c5p1 c5p2 c5p3 c5p4 c5p5 c5p6 c5p7 c5p8 y10 []
                  else none
                else none
            else none) none
      else
        Rt 2 (0, [0, 0, 0, 0], [0, 0, 0, 0], (List.replicate 32 0), 0, (List.replicate 32 0), 0, 0, [], [], 0, [], ())
theorem j0_eq {α : Type} (k : Nat) (Q : Ex → St → Option α) (x4 : List Int) (x20 : Int) (x22 : Bool) (c2p0 : Int) (c2p1 : List Int) (c2p2 : List Int) (c2p3 : List Int) (c2p4 : Int) (c2p5 : List Int) (c2p6 : Int) (c2p7 : Int) (c2p8 : List Int) (c2p10 : Int) (c5p0 : Int) (c5p1 : List Int) (c5p2 : List Int) (c5p3 : List Int) (c5p4 : Int) (c5p5 : List Int) (c5p6 : Int) (c5p7 : Int) (c5p8 : List Int) (c5p10 : Int) :
    (den C k) cd1 (blkQ C 0 (sq (den C k) (lp C k) Js C cd0 Q)) (St2 x4 x20 x22 c2p0 c2p1 c2p2 c2p3 c2p4 c2p5 c2p6 c2p7 c2p8 c2p10 c5p0 c5p1 c5p2 c5p3 c5p4 c5p5 c5p6 c5p7 c5p8 c5p10) = j0 k (fun (x3 : Int) (c2 : Int × List Int × List Int × List Int × Int × List Int × Int × Int × List Int × List Int × Int × List (List Int) × Unit) => Q .ret (St1 x3 c2)) x4 x20 x22 c2p0 c2p1 c2p2 c2p3 c2p4 c2p5 c2p6 c2p7 c2p8 c2p10 c5p0 c5p1 c5p2 c5p3 c5p4 c5p5 c5p6 c5p7 c5p8 c5p10 := by
  have h : ∀ (D L : DT α), denJ D L Js C cd1 (blkQ C 0 (sq D L Js C cd0 Q)) (St2 x4 x20 x22 c2p0 c2p1 c2p2 c2p3 c2p4 c2p5 c2p6 c2p7 c2p8 c2p10 c5p0 c5p1 c5p2 c5p3 c5p4 c5p5 c5p6 c5p7 c5p8 c5p10) =
        if x22 = true then
          if (decide ((x4.length : Int) < 132)) = true then
            Q .ret (St1 4 (0, [0, 0, 0, 0], [0, 0, 0, 0], (List.replicate 32 0), 0, (List.replicate 32 0), 0, 0, [], [], 0, [], ()))
          else
            if 0 ≤ (0 : Int) ∧ (0 : Int) ≤ (32 : Int) ∧ (32 : Int) ≤ (x4.length : Int) then
              (Go.Bx.basculeref_wideOf.run (cutL x4 0 32)).bind fun y1 =>
              if 0 ≤ (32 : Int) ∧ (32 : Int) ≤ (64 : Int) ∧ (64 : Int) ≤ (x4.length : Int) then
                (Go.Bx.basculeref_word.run (cutL x4 32 64)).bind fun y2 =>
                if 0 ≤ (64 : Int) ∧ (64 : Int) ≤ (66 : Int) ∧ (66 : Int) ≤ (x4.length : Int) then
                  (Go.Bx.basculeref_number.run (cutL x4 64 66)).bind fun y3 =>
                  if 0 ≤ (66 : Int) ∧ (66 : Int) ≤ (98 : Int) ∧ (98 : Int) ≤ (x4.length : Int) then
                    (Go.Bx.basculeref_word.run (cutL x4 66 98)).bind fun y4 =>
                    if 0 ≤ (98 : Int) ∧ (98 : Int) ≤ (100 : Int) ∧ (100 : Int) ≤ (x4.length : Int) then
                      (Go.Bx.basculeref_number.run (cutL x4 98 100)).bind fun y5 =>
                      if 0 ≤ (100 : Int) ∧ (100 : Int) ≤ (132 : Int) ∧ (132 : Int) ≤ (x4.length : Int) then
                        (Go.Bx.basculeref_wideOf.run (cutL x4 100 132)).bind fun y6 =>
                        if 0 ≤ (132 : Int) ∧ (132 : Int) ≤ (x4.length : Int) ∧ (x4.length : Int) ≤ (x4.length : Int) then
                          D cd0 Q (St3 c2p0 c2p1 c2p2 c2p3 c2p4 c2p5 c2p6 c2p7 c2p8 c2p10 c5p0 y1 y6 y2 y3 y4 y5 c5p7 c5p8 (cutL x4 132 (x4.length : Int)) c5p10 [])
                        else none
                      else none
                    else none
                  else none
                else none
              else none
            else none
        else
          if (x20 == 2) = true then
            if (decide ((x4.length : Int) < 67)) = true then
              Q .ret (St1 4 (0, [0, 0, 0, 0], [0, 0, 0, 0], (List.replicate 32 0), 0, (List.replicate 32 0), 0, 0, [], [], 0, [], ()))
            else
              if (decide ((x4.length : Int) > 67)) = true then
                Q .ret (St1 3 (0, [0, 0, 0, 0], [0, 0, 0, 0], (List.replicate 32 0), 0, (List.replicate 32 0), 0, 0, [], [], 0, [], ()))
              else
                if 0 ≤ (35 : Int) ∧ (35 : Int) ≤ (x4.length : Int) ∧ (x4.length : Int) ≤ (x4.length : Int) then
                  L cd2 (blkQ C 1 (sq D L Js C cd3 (blkQ C 0 (sq D L Js C cd0 Q)))) (St4 x4 (cutL x4 35 (x4.length : Int)) c2p0 c2p1 c2p2 c2p3 c2p4 c2p5 c2p6 c2p7 c2p8 c2p10 c5p0 c5p1 c5p2 c5p3 c5p4 c5p5 c5p6 c5p7 c5p8 c5p10)
                else none
          else
            if (x20 == 4) = true then
              cond (decide (0 ≤ (4 : Int) ∧ (4 : Int) < (x4.length : Int)) || !((decide ((x4.length : Int) < 5)) == false)) (
                if (cond (decide ((x4.length : Int) < 5)) true (decide ((x4.length : Int) < (IntKind.i64.wrap (5 + (IntKind.i64.wrap (20 * (IntKind.i64.wrap (List.getD x4 4 0))))))))) = true then
                  Q .ret (St1 4 (0, [0, 0, 0, 0], [0, 0, 0, 0], (List.replicate 32 0), 0, (List.replicate 32 0), 0, 0, [], [], 0, [], ()))
                else
                  if 0 ≤ (4 : Int) ∧ (4 : Int) < (x4.length : Int) then
                    if (decide ((x4.length : Int) > (IntKind.i64.wrap (5 + (IntKind.i64.wrap (20 * (IntKind.i64.wrap (List.getD x4 4 0)))))))) = true then
                      Q .ret (St1 3 (0, [0, 0, 0, 0], [0, 0, 0, 0], (List.replicate 32 0), 0, (List.replicate 32 0), 0, 0, [], [], 0, [], ()))
                    else
                      if 0 ≤ (0 : Int) ∧ (0 : Int) ≤ (4 : Int) ∧ (4 : Int) ≤ (x4.length : Int) then
                        (Go.Bx.basculeref_number.run (cutL x4 0 4)).bind fun y10 =>
                        if 0 ≤ (5 : Int) ∧ (5 : Int) ≤ (x4.length : Int) ∧ (x4.length : Int) ≤ (x4.length : Int) then
                          L cd4 (blkQ C 3 (blkQ C 0 (sq D L Js C cd0 Q))) (St7 (cutL x4 5 (x4.length : Int)) c2p0 c2p1 c2p2 c2p3 c2p4 c2p5 c2p6 c2p7 c2p8 c2p10 c5p0 c5p1 c5p2 c5p3 c5p4 c5p5 c5p6 c5p7 c5p8 y10 [])
                        else none
                      else none
                  else none) none
            else
              Q .ret (St1 2 (0, [0, 0, 0, 0], [0, 0, 0, 0], (List.replicate 32 0), 0, (List.replicate 32 0), 0, 0, [], [], 0, [], ())) := by
    intro D L; kernel_rfl
  refine (show (den C k) cd1 (blkQ C 0 (sq (den C k) (lp C k) Js C cd0 Q)) (St2 x4 x20 x22 c2p0 c2p1 c2p2 c2p3 c2p4 c2p5 c2p6 c2p7 c2p8 c2p10 c5p0 c5p1 c5p2 c5p3 c5p4 c5p5 c5p6 c5p7 c5p8 c5p10) = denJ (den C k) (lp C k) Js C cd1 (blkQ C 0 (sq (den C k) (lp C k) Js C cd0 Q)) (St2 x4 x20 x22 c2p0 c2p1 c2p2 c2p3 c2p4 c2p5 c2p6 c2p7 c2p8 c2p10 c5p0 c5p1 c5p2 c5p3 c5p4 c5p5 c5p6 c5p7 c5p8 c5p10) from (denJ_den _ _ _ _ _ _).symm).trans ((h (den C k) (lp C k)).trans ?_)
  simp only [j1_eq, a0, a1]
  first | rfl | kernel_rfl
def top {α : Type} (k : Nat) (Rt : Int → (Int × List Int × List Int × List Int × Int × List Int × Int × Int × List Int × List Int × Int × List (List Int) × Unit) → Option α) (x0 : List Int) : Option α :=
  if (beqD .str x0 []) = true then
    Rt 4 (0, [0, 0, 0, 0], [0, 0, 0, 0], (List.replicate 32 0), 0, (List.replicate 32 0), 0, 0, [], [], 0, [], ())
  else
    if 0 ≤ (0 : Int) ∧ (0 : Int) < (x0.length : Int) then
      if 0 ≤ (1 : Int) ∧ (1 : Int) ≤ (x0.length : Int) ∧ (x0.length : Int) ≤ (x0.length : Int) then
        if ((IntKind.i64.wrap (List.getD x0 0 0)) == 1) = true then
          j0 k Rt (cutL x0 1 (x0.length : Int)) (IntKind.i64.wrap (List.getD x0 0 0)) ((IntKind.i64.wrap (List.getD x0 0 0)) == 1) 0 [0, 0, 0, 0] [0, 0, 0, 0] (List.replicate 32 0) 0 (List.replicate 32 0) 0 0 [] 0 (IntKind.i64.wrap (List.getD x0 0 0)) [0, 0, 0, 0] [0, 0, 0, 0] (List.replicate 32 0) 0 (List.replicate 32 0) 0 0 [] 0
        else
          j0 k Rt (cutL x0 1 (x0.length : Int)) (IntKind.i64.wrap (List.getD x0 0 0)) ((IntKind.i64.wrap (List.getD x0 0 0)) == 3) 0 [0, 0, 0, 0] [0, 0, 0, 0] (List.replicate 32 0) 0 (List.replicate 32 0) 0 0 [] 0 (IntKind.i64.wrap (List.getD x0 0 0)) [0, 0, 0, 0] [0, 0, 0, 0] (List.replicate 32 0) 0 (List.replicate 32 0) 0 0 [] 0
      else none
    else none
theorem top_eq {α : Type} (k : Nat) (Q : Ex → St → Option α) (x0 : List Int) :
    (den C k) (cB Try.f77) Q (St0 x0) = top k (fun (x3 : Int) (c2 : Int × List Int × List Int × List Int × Int × List Int × Int × Int × List Int × List Int × Int × List (List Int) × Unit) => Q .ret (St1 x3 c2)) x0 := by
  have h : ∀ (D L : DT α), denJ D L Js C (cB Try.f77) Q (St0 x0) =
        if (beqD .str x0 []) = true then
          Q .ret (St1 4 (0, [0, 0, 0, 0], [0, 0, 0, 0], (List.replicate 32 0), 0, (List.replicate 32 0), 0, 0, [], [], 0, [], ()))
        else
          if 0 ≤ (0 : Int) ∧ (0 : Int) < (x0.length : Int) then
            if 0 ≤ (1 : Int) ∧ (1 : Int) ≤ (x0.length : Int) ∧ (x0.length : Int) ≤ (x0.length : Int) then
              if ((IntKind.i64.wrap (List.getD x0 0 0)) == 1) = true then
                D cd1 (blkQ C 0 (sq D L Js C cd0 Q)) (St2 (cutL x0 1 (x0.length : Int)) (IntKind.i64.wrap (List.getD x0 0 0)) ((IntKind.i64.wrap (List.getD x0 0 0)) == 1) 0 [0, 0, 0, 0] [0, 0, 0, 0] (List.replicate 32 0) 0 (List.replicate 32 0) 0 0 [] 0 (IntKind.i64.wrap (List.getD x0 0 0)) [0, 0, 0, 0] [0, 0, 0, 0] (List.replicate 32 0) 0 (List.replicate 32 0) 0 0 [] 0)
              else
                D cd1 (blkQ C 0 (sq D L Js C cd0 Q)) (St2 (cutL x0 1 (x0.length : Int)) (IntKind.i64.wrap (List.getD x0 0 0)) ((IntKind.i64.wrap (List.getD x0 0 0)) == 3) 0 [0, 0, 0, 0] [0, 0, 0, 0] (List.replicate 32 0) 0 (List.replicate 32 0) 0 0 [] 0 (IntKind.i64.wrap (List.getD x0 0 0)) [0, 0, 0, 0] [0, 0, 0, 0] (List.replicate 32 0) 0 (List.replicate 32 0) 0 0 [] 0)
            else none
          else none := by
    intro D L; kernel_rfl
  refine (show (den C k) (cB Try.f77) Q (St0 x0) = denJ (den C k) (lp C k) Js C (cB Try.f77) Q (St0 x0) from (denJ_den _ _ _ _ _ _).symm).trans ((h (den C k) (lp C k)).trans ?_)
  simp only [j0_eq]
  first | rfl | kernel_rfl
def run (x0 : List Int) : Option ((Int × List Int × List Int × List Int × Int × List Int × Int × Int × List Int × List Int × Int × List (List Int) × Unit) × Int × Unit) := top (α := (Int × List Int × List Int × List Int × Int × List Int × Int × Int × List Int × List Int × Int × List (List Int) × Unit) × Int × Unit) fuel (fun (x3 : Int) (c2 : Int × List Int × List Int × List Int × Int × List Int × Int × Int × List Int × List Int × Int × List (List Int) × Unit) => some (c2, x3, ())) x0
def F : Fn := ⟨(.pair (.sl (.int .u8)) .unit), (.pair (.pair (.int .i64) (.pair (.arr 4 (.int .u64)) (.pair (.arr 4 (.int .u64)) (.pair (.arr 32 (.int .u8)) (.pair (.int .i64) (.pair (.arr 32 (.int .u8)) (.pair (.int .i64) (.pair (.int .i64) (.pair .str (.pair (.sl (.int .u8)) (.pair (.int .i64) (.pair (.sl (.arr 20 (.int .u8))) .unit)))))))))))) (.pair (.int .i64) .unit)), true, fun x => run x.1⟩
set_option maxRecDepth 100000 in
theorem con : Con Try.prog 77 F := by
  refine con_of_den (C := C) (ctx_ok (by kernel_rfl) (by kernel_rfl) (by kernel_rfl) (by kernel_rfl) ⟨.inl ⟨Go.Bx.basculeref_word.con, Go.Bx.basculeref_word.named⟩, ⟨.inl ⟨Go.Bx.basculeref_wideOf.con, Go.Bx.basculeref_wideOf.named⟩, ⟨.inl ⟨Go.Bx.basculeref_number.con, Go.Bx.basculeref_number.named⟩, ⟨.inl ⟨Go.Bx.basculeref_LoadFault.con, Go.Bx.basculeref_LoadFault.named⟩, trivial⟩⟩⟩⟩) (by kernel_rfl) Try.func77 (c := cB Try.f77) (by kernel_rfl) (by kernel_rfl) F fuel (fun x => by simp [F, spread, Try.ntmps77]) ?_
  intro x r h
  rw [← h]
  have h1 : start F Try.f77.ntmps x = (St0 x.1) := by kernel_rfl
  rw [h1]
  refine (top_eq fuel (fin C Try.f77.results.toList F.rs F.multi) x.1).trans ?_
  kernel_rfl
theorem named : Named Try.prog 77 := named_of Try.func77 (by kernel_rfl) (by kernel_rfl)
end Go.Bx.basculeref_LoadOf
namespace Go.Bx.basculeref_SameBody
open Go Go.Proofs Go.Bx
set_option maxRecDepth 100000
set_option linter.unusedVariables false
def Js : List Nat := []
def C : Ctx := ⟨[(3, (.int .i64)), (4, .bool), (9, .str), (39, (.arr 32 (.int .u8))), (40, (.sl (.int .u8))), (42, (.pair (.int .i64) (.pair (.int .i64) (.pair (.int .i64) (.pair (.arr 32 (.int .u8)) (.pair (.int .i64) (.pair (.int .i64) (.pair (.sl (.int .u8)) .unit))))))))], [], [], fnL [], noSh, [], invL [], [(2, [4])], [], [], 0, 0⟩
def St0 (x0 : Int × Int × Int × List Int × Int × Int × List Int × Unit) (x1 : Int × Int × Int × List Int × Int × Int × List Int × Unit) : St := stL 54 [(0, .data (.pair (.int .i64) (.pair (.int .i64) (.pair (.int .i64) (.pair (.arr 32 (.int .u8)) (.pair (.int .i64) (.pair (.int .i64) (.pair (.sl (.int .u8)) .unit))))))) x0), (1, .data (.pair (.int .i64) (.pair (.int .i64) (.pair (.int .i64) (.pair (.arr 32 (.int .u8)) (.pair (.int .i64) (.pair (.int .i64) (.pair (.sl (.int .u8)) .unit))))))) x1)] []
def St1 (x4 : Bool) : St := stL 54 [(4, .data .bool x4)] []
def top {α : Type} (Rt : Bool → Option α) (x0 : Int × Int × Int × List Int × Int × Int × List Int × Unit) (x1 : Int × Int × Int × List Int × Int × Int × List Int × Unit) : Option α :=
  Rt (cond (cond (cond (cond (cond (cond (x0.1 == x1.1) (x0.2.1 == x1.2.1) false) (x0.2.2.1 == x1.2.2.1) false) (beqD (.arr 32 (.int .u8)) x0.2.2.2.1 x1.2.2.2.1) false) (x0.2.2.2.2.1 == x1.2.2.2.2.1) false) (x0.2.2.2.2.2.1 == x1.2.2.2.2.2.1) false) (beqD .str x0.2.2.2.2.2.2.1 x1.2.2.2.2.2.2.1) false)
theorem top_eq {α : Type} (k : Nat) (Q : Ex → St → Option α) (x0 : Int × Int × Int × List Int × Int × Int × List Int × Unit) (x1 : Int × Int × Int × List Int × Int × Int × List Int × Unit) :
    (den C k) (cB Try.f145) Q (St0 x0 x1) = top (fun (x4 : Bool) => Q .ret (St1 x4)) x0 x1 := by
  have h : ∀ (D L : DT α), denJ D L Js C (cB Try.f145) Q (St0 x0 x1) =
        Q .ret (St1 (cond (cond (cond (cond (cond (cond (x0.1 == x1.1) (x0.2.1 == x1.2.1) false) (x0.2.2.1 == x1.2.2.1) false) (beqD (.arr 32 (.int .u8)) x0.2.2.2.1 x1.2.2.2.1) false) (x0.2.2.2.2.1 == x1.2.2.2.2.1) false) (x0.2.2.2.2.2.1 == x1.2.2.2.2.2.1) false) (beqD .str x0.2.2.2.2.2.2.1 x1.2.2.2.2.2.2.1) false)) := by
    intro D L; kernel_rfl
  refine (show (den C k) (cB Try.f145) Q (St0 x0 x1) = denJ (den C k) (lp C k) Js C (cB Try.f145) Q (St0 x0 x1) from (denJ_den _ _ _ _ _ _).symm).trans ((h (den C k) (lp C k)).trans ?_)
  first | rfl | kernel_rfl
def run (x0 : Int × Int × Int × List Int × Int × Int × List Int × Unit) (x1 : Int × Int × Int × List Int × Int × Int × List Int × Unit) : Option (Bool) := top (α := Bool) (fun (x4 : Bool) => some x4) x0 x1
def F : Fn := ⟨(.pair (.pair (.int .i64) (.pair (.int .i64) (.pair (.int .i64) (.pair (.arr 32 (.int .u8)) (.pair (.int .i64) (.pair (.int .i64) (.pair (.sl (.int .u8)) .unit))))))) (.pair (.pair (.int .i64) (.pair (.int .i64) (.pair (.int .i64) (.pair (.arr 32 (.int .u8)) (.pair (.int .i64) (.pair (.int .i64) (.pair (.sl (.int .u8)) .unit))))))) .unit)), .bool, false, fun x => run x.1 x.2.1⟩
set_option maxRecDepth 100000 in
theorem con : Con Try.prog 145 F := by
  refine con_of_den (C := C) (ctx_ok (by kernel_rfl) (by kernel_rfl) (by kernel_rfl) (by kernel_rfl) trivial) (by kernel_rfl) Try.func145 (c := cB Try.f145) (by kernel_rfl) (by kernel_rfl) F fuel (fun x => by simp [F, spread, Try.ntmps145]) ?_
  intro x r h
  rw [← h]
  have h1 : start F Try.f145.ntmps x = (St0 x.1 x.2.1) := by kernel_rfl
  rw [h1]
  refine (top_eq fuel (fin C Try.f145.results.toList F.rs F.multi) x.1 x.2.1).trans ?_
  kernel_rfl
theorem named : Named Try.prog 145 := named_of Try.func145 (by kernel_rfl) (by kernel_rfl)
end Go.Bx.basculeref_SameBody
namespace Go.Bx.basculelaw_sameBytes
open Go Go.Proofs Go.Bx
set_option maxRecDepth 100000
set_option linter.unusedVariables false
def Js : List Nat := []
def C : Ctx := ⟨[(4, .bool), (9, .str), (40, (.sl (.int .u8)))], [], [], fnL [], noSh, [], invL [], [(2, [4])], [], [], 0, 0⟩
def St0 (x0 : List Int) (x1 : List Int) : St := stL 10 [(0, .data (.sl (.int .u8)) x0), (1, .data (.sl (.int .u8)) x1)] []
def St1 (x4 : Bool) : St := stL 10 [(4, .data .bool x4)] []
def top {α : Type} (Rt : Bool → Option α) (x0 : List Int) (x1 : List Int) : Option α :=
  Rt (beqD .str x0 x1)
theorem top_eq {α : Type} (k : Nat) (Q : Ex → St → Option α) (x0 : List Int) (x1 : List Int) :
    (den C k) (cB Try.f160) Q (St0 x0 x1) = top (fun (x4 : Bool) => Q .ret (St1 x4)) x0 x1 := by
  have h : ∀ (D L : DT α), denJ D L Js C (cB Try.f160) Q (St0 x0 x1) =
        Q .ret (St1 (beqD .str x0 x1)) := by
    intro D L; kernel_rfl
  refine (show (den C k) (cB Try.f160) Q (St0 x0 x1) = denJ (den C k) (lp C k) Js C (cB Try.f160) Q (St0 x0 x1) from (denJ_den _ _ _ _ _ _).symm).trans ((h (den C k) (lp C k)).trans ?_)
  first | rfl | kernel_rfl
def run (x0 : List Int) (x1 : List Int) : Option (Bool) := top (α := Bool) (fun (x4 : Bool) => some x4) x0 x1
def F : Fn := ⟨(.pair (.sl (.int .u8)) (.pair (.sl (.int .u8)) .unit)), .bool, false, fun x => run x.1 x.2.1⟩
set_option maxRecDepth 100000 in
theorem con : Con Try.prog 160 F := by
  refine con_of_den (C := C) (ctx_ok (by kernel_rfl) (by kernel_rfl) (by kernel_rfl) (by kernel_rfl) trivial) (by kernel_rfl) Try.func160 (c := cB Try.f160) (by kernel_rfl) (by kernel_rfl) F fuel (fun x => by simp [F, spread, Try.ntmps160]) ?_
  intro x r h
  rw [← h]
  have h1 : start F Try.f160.ntmps x = (St0 x.1 x.2.1) := by kernel_rfl
  rw [h1]
  refine (top_eq fuel (fin C Try.f160.results.toList F.rs F.multi) x.1 x.2.1).trans ?_
  kernel_rfl
theorem named : Named Try.prog 160 := named_of Try.func160 (by kernel_rfl) (by kernel_rfl)
end Go.Bx.basculelaw_sameBytes
namespace Go.Bx.guard_Id
open Go Go.Proofs Go.Bx
set_option maxRecDepth 100000
set_option linter.unusedVariables false
def Js : List Nat := []
def C : Ctx := ⟨[(3, (.int .i64)), (42, (.pair (.int .i64) (.pair (.int .i64) (.pair (.int .i64) (.pair (.arr 32 (.int .u8)) (.pair (.int .i64) (.pair (.int .i64) (.pair (.sl (.int .u8)) .unit))))))))], [], [], fnL [], noSh, [], invL [], [(2, [2])], [], [], 0, 0⟩
def St0 (x0 : Int × Int × Int × List Int × Int × Int × List Int × Unit) : St := stL 9 [(0, .data (.pair (.int .i64) (.pair (.int .i64) (.pair (.int .i64) (.pair (.arr 32 (.int .u8)) (.pair (.int .i64) (.pair (.int .i64) (.pair (.sl (.int .u8)) .unit))))))) x0)] []
def St1 (x2 : Int) : St := stL 9 [(2, .data (.int .i64) x2)] []
def top {α : Type} (Rt : Int → Option α) (x0 : Int × Int × Int × List Int × Int × Int × List Int × Unit) : Option α :=
  Rt (IntKind.i64.wrap ((IntKind.i64.wrap (x0.2.2.1 * 256)) + x0.2.2.2.2.1))
theorem top_eq {α : Type} (k : Nat) (Q : Ex → St → Option α) (x0 : Int × Int × Int × List Int × Int × Int × List Int × Unit) :
    (den C k) (cB Try.f24) Q (St0 x0) = top (fun (x2 : Int) => Q .ret (St1 x2)) x0 := by
  have h : ∀ (D L : DT α), denJ D L Js C (cB Try.f24) Q (St0 x0) =
        Q .ret (St1 (IntKind.i64.wrap ((IntKind.i64.wrap (x0.2.2.1 * 256)) + x0.2.2.2.2.1))) := by
    intro D L; kernel_rfl
  refine (show (den C k) (cB Try.f24) Q (St0 x0) = denJ (den C k) (lp C k) Js C (cB Try.f24) Q (St0 x0) from (denJ_den _ _ _ _ _ _).symm).trans ((h (den C k) (lp C k)).trans ?_)
  first | rfl | kernel_rfl
def run (x0 : Int × Int × Int × List Int × Int × Int × List Int × Unit) : Option (Int) := top (α := Int) (fun (x2 : Int) => some x2) x0
def F : Fn := ⟨(.pair (.pair (.int .i64) (.pair (.int .i64) (.pair (.int .i64) (.pair (.arr 32 (.int .u8)) (.pair (.int .i64) (.pair (.int .i64) (.pair (.sl (.int .u8)) .unit))))))) .unit), (.int .i64), false, fun x => run x.1⟩
set_option maxRecDepth 100000 in
theorem con : Con Try.prog 24 F := by
  refine con_of_den (C := C) (ctx_ok (by kernel_rfl) (by kernel_rfl) (by kernel_rfl) (by kernel_rfl) trivial) (by kernel_rfl) Try.func24 (c := cB Try.f24) (by kernel_rfl) (by kernel_rfl) F fuel (fun x => by simp [F, spread, Try.ntmps24]) ?_
  intro x r h
  rw [← h]
  have h1 : start F Try.f24.ntmps x = (St0 x.1) := by kernel_rfl
  rw [h1]
  refine (top_eq fuel (fin C Try.f24.results.toList F.rs F.multi) x.1).trans ?_
  kernel_rfl
theorem named : Named Try.prog 24 := named_of Try.func24 (by kernel_rfl) (by kernel_rfl)
end Go.Bx.guard_Id
namespace Go.Bx.guard_Worth
open Go Go.Proofs Go.Bx
set_option maxRecDepth 100000
set_option linter.unusedVariables false
def Js : List Nat := []
def C : Ctx := ⟨[(3, (.int .i64)), (24, (.int .u64)), (40, (.sl (.int .u8))), (42, (.pair (.int .i64) (.pair (.int .i64) (.pair (.int .i64) (.pair (.arr 32 (.int .u8)) (.pair (.int .i64) (.pair (.int .i64) (.pair (.sl (.int .u8)) .unit)))))))), (45, (.arr 4 (.int .u64))), (105, (.pair (.int .i64) (.pair (.arr 4 (.int .u64)) (.pair (.arr 4 (.int .u64)) (.pair (.arr 32 (.int .u8)) (.pair (.int .i64) (.pair (.arr 32 (.int .u8)) (.pair (.int .i64) (.pair (.int .i64) (.pair .str (.pair (.sl (.int .u8)) (.pair (.int .i64) (.pair (.sl (.arr 20 (.int .u8))) .unit)))))))))))))], [], [], fnL [(76, Go.Bx.load_Decode.F)], noSh, [], invL [], [(2, [2])], [], [], 0, 0⟩
def St0 (x0 : Int × Int × Int × List Int × Int × Int × List Int × Unit) : St := stL 43 [(0, .data (.pair (.int .i64) (.pair (.int .i64) (.pair (.int .i64) (.pair (.arr 32 (.int .u8)) (.pair (.int .i64) (.pair (.int .i64) (.pair (.sl (.int .u8)) .unit))))))) x0)] []
def St1 (x2 : Int) : St := stL 43 [(2, .data (.int .i64) x2)] []
def top {α : Type} (Rt : Int → Option α) (x0 : Int × Int × Int × List Int × Int × Int × List Int × Unit) : Option α :=
  (Go.Bx.load_Decode.run x0.2.2.2.2.2.2.1).bind fun y1 =>
  if (cond (y1.2.1 != 0) true (cond (y1.1.1 != 1) (y1.1.1 != 3) false)) = true then
    Rt 0
  else
    if (cond ((bor .u64 (bor .u64 (List.getD y1.1.2.1 1 0) (List.getD y1.1.2.1 2 0)) (List.getD y1.1.2.1 3 0)) != 0) true (decide ((List.getD y1.1.2.1 0 0) > 1073741824))) = true then
      Rt 1073741824
    else
      Rt (IntKind.i64.wrap (List.getD y1.1.2.1 0 0))
theorem top_eq {α : Type} (k : Nat) (Q : Ex → St → Option α) (x0 : Int × Int × Int × List Int × Int × Int × List Int × Unit) :
    (den C k) (cB Try.f25) Q (St0 x0) = top (fun (x2 : Int) => Q .ret (St1 x2)) x0 := by
  have h : ∀ (D L : DT α), denJ D L Js C (cB Try.f25) Q (St0 x0) =
        (Go.Bx.load_Decode.run x0.2.2.2.2.2.2.1).bind fun y1 =>
        if (cond (y1.2.1 != 0) true (cond (y1.1.1 != 1) (y1.1.1 != 3) false)) = true then
          Q .ret (St1 0)
        else
          if (cond ((bor .u64 (bor .u64 (List.getD y1.1.2.1 1 0) (List.getD y1.1.2.1 2 0)) (List.getD y1.1.2.1 3 0)) != 0) true (decide ((List.getD y1.1.2.1 0 0) > 1073741824))) = true then
            Q .ret (St1 1073741824)
          else
            Q .ret (St1 (IntKind.i64.wrap (List.getD y1.1.2.1 0 0))) := by
    intro D L; kernel_rfl
  refine (show (den C k) (cB Try.f25) Q (St0 x0) = denJ (den C k) (lp C k) Js C (cB Try.f25) Q (St0 x0) from (denJ_den _ _ _ _ _ _).symm).trans ((h (den C k) (lp C k)).trans ?_)
  first | rfl | kernel_rfl
def run (x0 : Int × Int × Int × List Int × Int × Int × List Int × Unit) : Option (Int) := top (α := Int) (fun (x2 : Int) => some x2) x0
def F : Fn := ⟨(.pair (.pair (.int .i64) (.pair (.int .i64) (.pair (.int .i64) (.pair (.arr 32 (.int .u8)) (.pair (.int .i64) (.pair (.int .i64) (.pair (.sl (.int .u8)) .unit))))))) .unit), (.int .i64), false, fun x => run x.1⟩
set_option maxRecDepth 100000 in
theorem con : Con Try.prog 25 F := by
  refine con_of_den (C := C) (ctx_ok (by kernel_rfl) (by kernel_rfl) (by kernel_rfl) (by kernel_rfl) ⟨.inl ⟨Go.Bx.load_Decode.con, Go.Bx.load_Decode.named⟩, trivial⟩) (by kernel_rfl) Try.func25 (c := cB Try.f25) (by kernel_rfl) (by kernel_rfl) F fuel (fun x => by simp [F, spread, Try.ntmps25]) ?_
  intro x r h
  rw [← h]
  have h1 : start F Try.f25.ntmps x = (St0 x.1) := by kernel_rfl
  rw [h1]
  refine (top_eq fuel (fin C Try.f25.results.toList F.rs F.multi) x.1).trans ?_
  kernel_rfl
theorem named : Named Try.prog 25 := named_of Try.func25 (by kernel_rfl) (by kernel_rfl)
end Go.Bx.guard_Worth
namespace Go.Bx.basculeref_IdOf
open Go Go.Proofs Go.Bx
set_option maxRecDepth 100000
set_option linter.unusedVariables false
def Js : List Nat := []
def C : Ctx := ⟨[(3, (.int .i64)), (42, (.pair (.int .i64) (.pair (.int .i64) (.pair (.int .i64) (.pair (.arr 32 (.int .u8)) (.pair (.int .i64) (.pair (.int .i64) (.pair (.sl (.int .u8)) .unit))))))))], [], [], fnL [], noSh, [], invL [], [(2, [2])], [], [], 0, 0⟩
def St0 (x0 : Int × Int × Int × List Int × Int × Int × List Int × Unit) : St := stL 9 [(0, .data (.pair (.int .i64) (.pair (.int .i64) (.pair (.int .i64) (.pair (.arr 32 (.int .u8)) (.pair (.int .i64) (.pair (.int .i64) (.pair (.sl (.int .u8)) .unit))))))) x0)] []
def St1 (x2 : Int) : St := stL 9 [(2, .data (.int .i64) x2)] []
def top {α : Type} (Rt : Int → Option α) (x0 : Int × Int × Int × List Int × Int × Int × List Int × Unit) : Option α :=
  Rt (IntKind.i64.wrap ((IntKind.i64.wrap (256 * x0.2.2.1)) + x0.2.2.2.2.1))
theorem top_eq {α : Type} (k : Nat) (Q : Ex → St → Option α) (x0 : Int × Int × Int × List Int × Int × Int × List Int × Unit) :
    (den C k) (cB Try.f26) Q (St0 x0) = top (fun (x2 : Int) => Q .ret (St1 x2)) x0 := by
  have h : ∀ (D L : DT α), denJ D L Js C (cB Try.f26) Q (St0 x0) =
        Q .ret (St1 (IntKind.i64.wrap ((IntKind.i64.wrap (256 * x0.2.2.1)) + x0.2.2.2.2.1))) := by
    intro D L; kernel_rfl
  refine (show (den C k) (cB Try.f26) Q (St0 x0) = denJ (den C k) (lp C k) Js C (cB Try.f26) Q (St0 x0) from (denJ_den _ _ _ _ _ _).symm).trans ((h (den C k) (lp C k)).trans ?_)
  first | rfl | kernel_rfl
def run (x0 : Int × Int × Int × List Int × Int × Int × List Int × Unit) : Option (Int) := top (α := Int) (fun (x2 : Int) => some x2) x0
def F : Fn := ⟨(.pair (.pair (.int .i64) (.pair (.int .i64) (.pair (.int .i64) (.pair (.arr 32 (.int .u8)) (.pair (.int .i64) (.pair (.int .i64) (.pair (.sl (.int .u8)) .unit))))))) .unit), (.int .i64), false, fun x => run x.1⟩
set_option maxRecDepth 100000 in
theorem con : Con Try.prog 26 F := by
  refine con_of_den (C := C) (ctx_ok (by kernel_rfl) (by kernel_rfl) (by kernel_rfl) (by kernel_rfl) trivial) (by kernel_rfl) Try.func26 (c := cB Try.f26) (by kernel_rfl) (by kernel_rfl) F fuel (fun x => by simp [F, spread, Try.ntmps26]) ?_
  intro x r h
  rw [← h]
  have h1 : start F Try.f26.ntmps x = (St0 x.1) := by kernel_rfl
  rw [h1]
  refine (top_eq fuel (fin C Try.f26.results.toList F.rs F.multi) x.1).trans ?_
  kernel_rfl
theorem named : Named Try.prog 26 := named_of Try.func26 (by kernel_rfl) (by kernel_rfl)
end Go.Bx.basculeref_IdOf
namespace Go.Bx.basculeref_WorthOf
open Go Go.Proofs Go.Bx
set_option maxRecDepth 100000
set_option linter.unusedVariables false
def Js : List Nat := []
def C : Ctx := ⟨[(3, (.int .i64)), (24, (.int .u64)), (40, (.sl (.int .u8))), (42, (.pair (.int .i64) (.pair (.int .i64) (.pair (.int .i64) (.pair (.arr 32 (.int .u8)) (.pair (.int .i64) (.pair (.int .i64) (.pair (.sl (.int .u8)) .unit)))))))), (45, (.arr 4 (.int .u64))), (105, (.pair (.int .i64) (.pair (.arr 4 (.int .u64)) (.pair (.arr 4 (.int .u64)) (.pair (.arr 32 (.int .u8)) (.pair (.int .i64) (.pair (.arr 32 (.int .u8)) (.pair (.int .i64) (.pair (.int .i64) (.pair .str (.pair (.sl (.int .u8)) (.pair (.int .i64) (.pair (.sl (.arr 20 (.int .u8))) .unit)))))))))))))], [], [], fnL [(77, Go.Bx.basculeref_LoadOf.F), (78, Go.Bx.basculeref_Order.F)], noSh, [], invL [], [(2, [2])], [], [], 0, 0⟩
def St0 (x0 : Int × Int × Int × List Int × Int × Int × List Int × Unit) : St := stL 32 [(0, .data (.pair (.int .i64) (.pair (.int .i64) (.pair (.int .i64) (.pair (.arr 32 (.int .u8)) (.pair (.int .i64) (.pair (.int .i64) (.pair (.sl (.int .u8)) .unit))))))) x0)] []
def St1 (x2 : Int) : St := stL 32 [(2, .data (.int .i64) x2)] []
def top {α : Type} (Rt : Int → Option α) (x0 : Int × Int × Int × List Int × Int × Int × List Int × Unit) : Option α :=
  (Go.Bx.basculeref_LoadOf.run x0.2.2.2.2.2.2.1).bind fun y1 =>
  if (cond (cond (y1.2.1 != 0) true (y1.1.1 == 2)) true (y1.1.1 == 4)) = true then
    Rt 0
  else
    (Go.Bx.basculeref_Order.run y1.1.2.1 [1073741824, 0, 0, 0]).bind fun y2 =>
    if (decide (y2 > 0)) = true then
      Rt 1073741824
    else
      Rt (IntKind.i64.wrap (List.getD y1.1.2.1 0 0))
theorem top_eq {α : Type} (k : Nat) (Q : Ex → St → Option α) (x0 : Int × Int × Int × List Int × Int × Int × List Int × Unit) :
    (den C k) (cB Try.f27) Q (St0 x0) = top (fun (x2 : Int) => Q .ret (St1 x2)) x0 := by
  have h : ∀ (D L : DT α), denJ D L Js C (cB Try.f27) Q (St0 x0) =
        (Go.Bx.basculeref_LoadOf.run x0.2.2.2.2.2.2.1).bind fun y1 =>
        if (cond (cond (y1.2.1 != 0) true (y1.1.1 == 2)) true (y1.1.1 == 4)) = true then
          Q .ret (St1 0)
        else
          (Go.Bx.basculeref_Order.run y1.1.2.1 [1073741824, 0, 0, 0]).bind fun y2 =>
          if (decide (y2 > 0)) = true then
            Q .ret (St1 1073741824)
          else
            Q .ret (St1 (IntKind.i64.wrap (List.getD y1.1.2.1 0 0))) := by
    intro D L; kernel_rfl
  refine (show (den C k) (cB Try.f27) Q (St0 x0) = denJ (den C k) (lp C k) Js C (cB Try.f27) Q (St0 x0) from (denJ_den _ _ _ _ _ _).symm).trans ((h (den C k) (lp C k)).trans ?_)
  first | rfl | kernel_rfl
def run (x0 : Int × Int × Int × List Int × Int × Int × List Int × Unit) : Option (Int) := top (α := Int) (fun (x2 : Int) => some x2) x0
def F : Fn := ⟨(.pair (.pair (.int .i64) (.pair (.int .i64) (.pair (.int .i64) (.pair (.arr 32 (.int .u8)) (.pair (.int .i64) (.pair (.int .i64) (.pair (.sl (.int .u8)) .unit))))))) .unit), (.int .i64), false, fun x => run x.1⟩
set_option maxRecDepth 100000 in
theorem con : Con Try.prog 27 F := by
  refine con_of_den (C := C) (ctx_ok (by kernel_rfl) (by kernel_rfl) (by kernel_rfl) (by kernel_rfl) ⟨.inl ⟨Go.Bx.basculeref_LoadOf.con, Go.Bx.basculeref_LoadOf.named⟩, ⟨.inl ⟨Go.Bx.basculeref_Order.con, Go.Bx.basculeref_Order.named⟩, trivial⟩⟩) (by kernel_rfl) Try.func27 (c := cB Try.f27) (by kernel_rfl) (by kernel_rfl) F fuel (fun x => by simp [F, spread, Try.ntmps27]) ?_
  intro x r h
  rw [← h]
  have h1 : start F Try.f27.ntmps x = (St0 x.1) := by kernel_rfl
  rw [h1]
  refine (top_eq fuel (fin C Try.f27.results.toList F.rs F.multi) x.1).trans ?_
  kernel_rfl
theorem named : Named Try.prog 27 := named_of Try.func27 (by kernel_rfl) (by kernel_rfl)
end Go.Bx.basculeref_WorthOf
namespace Go.Bx.basculelaw_GuardNames
open Go Go.Proofs Go.Bx
set_option maxRecDepth 100000
set_option linter.unusedVariables false
def Js : List Nat := []
def C : Ctx := ⟨[(4, .bool), (42, (.pair (.int .i64) (.pair (.int .i64) (.pair (.int .i64) (.pair (.arr 32 (.int .u8)) (.pair (.int .i64) (.pair (.int .i64) (.pair (.sl (.int .u8)) .unit))))))))], [], [], fnL [(24, Go.Bx.guard_Id.F), (25, Go.Bx.guard_Worth.F), (26, Go.Bx.basculeref_IdOf.F), (27, Go.Bx.basculeref_WorthOf.F)], noSh, [], invL [], [(2, [2])], [], [], 0, 0⟩
def St0 (x0 : Int × Int × Int × List Int × Int × Int × List Int × Unit) : St := stL 23 [(0, .data (.pair (.int .i64) (.pair (.int .i64) (.pair (.int .i64) (.pair (.arr 32 (.int .u8)) (.pair (.int .i64) (.pair (.int .i64) (.pair (.sl (.int .u8)) .unit))))))) x0)] []
def St1 (x2 : Bool) : St := stL 23 [(2, .data .bool x2)] []
def top {α : Type} (Rt : Bool → Option α) (x0 : Int × Int × Int × List Int × Int × Int × List Int × Unit) : Option α :=
  (Go.Bx.guard_Id.run x0).bind fun y1 =>
  (Go.Bx.guard_Worth.run x0).bind fun y2 =>
  (Go.Bx.basculeref_IdOf.run x0).bind fun y3 =>
  (Go.Bx.basculeref_WorthOf.run x0).bind fun y4 =>
  Rt (cond (y1 == y3) (y2 == y4) false)
theorem top_eq {α : Type} (k : Nat) (Q : Ex → St → Option α) (x0 : Int × Int × Int × List Int × Int × Int × List Int × Unit) :
    (den C k) (cB Try.f5) Q (St0 x0) = top (fun (x2 : Bool) => Q .ret (St1 x2)) x0 := by
  have h : ∀ (D L : DT α), denJ D L Js C (cB Try.f5) Q (St0 x0) =
        (Go.Bx.guard_Id.run x0).bind fun y1 =>
        (Go.Bx.guard_Worth.run x0).bind fun y2 =>
        (Go.Bx.basculeref_IdOf.run x0).bind fun y3 =>
        (Go.Bx.basculeref_WorthOf.run x0).bind fun y4 =>
        Q .ret (St1 (cond (y1 == y3) (y2 == y4) false)) := by
    intro D L; kernel_rfl
  refine (show (den C k) (cB Try.f5) Q (St0 x0) = denJ (den C k) (lp C k) Js C (cB Try.f5) Q (St0 x0) from (denJ_den _ _ _ _ _ _).symm).trans ((h (den C k) (lp C k)).trans ?_)
  first | rfl | kernel_rfl
def run (x0 : Int × Int × Int × List Int × Int × Int × List Int × Unit) : Option (Bool) := top (α := Bool) (fun (x2 : Bool) => some x2) x0
def F : Fn := ⟨(.pair (.pair (.int .i64) (.pair (.int .i64) (.pair (.int .i64) (.pair (.arr 32 (.int .u8)) (.pair (.int .i64) (.pair (.int .i64) (.pair (.sl (.int .u8)) .unit))))))) .unit), .bool, false, fun x => run x.1⟩
set_option maxRecDepth 100000 in
theorem con : Con Try.prog 5 F := by
  refine con_of_den (C := C) (ctx_ok (by kernel_rfl) (by kernel_rfl) (by kernel_rfl) (by kernel_rfl) ⟨.inl ⟨Go.Bx.guard_Id.con, Go.Bx.guard_Id.named⟩, ⟨.inl ⟨Go.Bx.guard_Worth.con, Go.Bx.guard_Worth.named⟩, ⟨.inl ⟨Go.Bx.basculeref_IdOf.con, Go.Bx.basculeref_IdOf.named⟩, ⟨.inl ⟨Go.Bx.basculeref_WorthOf.con, Go.Bx.basculeref_WorthOf.named⟩, trivial⟩⟩⟩⟩) (by kernel_rfl) Try.func5 (c := cB Try.f5) (by kernel_rfl) (by kernel_rfl) F fuel (fun x => by simp [F, spread, Try.ntmps5]) ?_
  intro x r h
  rw [← h]
  have h1 : start F Try.f5.ntmps x = (St0 x.1) := by kernel_rfl
  rw [h1]
  refine (top_eq fuel (fin C Try.f5.results.toList F.rs F.multi) x.1).trans ?_
  kernel_rfl
theorem named : Named Try.prog 5 := named_of Try.func5 (by kernel_rfl) (by kernel_rfl)
end Go.Bx.basculelaw_GuardNames
