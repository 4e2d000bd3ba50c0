/- Go functions of this seat in their own words of Lean, each tied to its code by a contract. -/
import Derived.Test.YthgnmgdhgmobpaaGBase
namespace Go.Bx.seen_inside
open Go Go.Proofs Go.Bx
set_option maxRecDepth 100000
set_option linter.unusedVariables false
def Js : List Nat := []
def C : Ctx := ⟨[(3, (.int .i64)), (4, .bool)], [], fnL [], noSh, [], noInv, [(2, [2])], [], [], 0, 0⟩
def St0 (x0 : Int) : St := stL 9 [(0, .data (.int .i64) x0)] []
def St1 (x2 : Bool) : St := stL 9 [(2, .data .bool x2)] []
def top {α : Type} (Rt : Bool → Option α) (x0 : Int) : Option α :=
  Rt (cond (decide (x0 ≥ 0)) (decide (x0 < 256)) false)
theorem top_eq {α : Type} (k : Nat) (Q : Ex → St → Option α) (x0 : Int) :
    (den C k) (cB Try.f71) Q (St0 x0) = top (fun (x2 : Bool) => Q .ret (St1 x2)) x0 := by
  have h : ∀ (D L : DT α), denJ D L Js C (cB Try.f71) Q (St0 x0) =
        Q .ret (St1 (cond (decide (x0 ≥ 0)) (decide (x0 < 256)) false)) := by
    intro D L; kernel_rfl
  refine (show (den C k) (cB Try.f71) Q (St0 x0) = denJ (den C k) (lp C k) Js C (cB Try.f71) Q (St0 x0) from (denJ_den _ _ _ _ _ _).symm).trans ((h (den C k) (lp C k)).trans ?_)
  first | rfl | kernel_rfl
def run (x0 : Int) : Option (Bool) := top (α := Bool) (fun (x2 : Bool) => some x2) x0
def F : Fn := ⟨(.pair (.int .i64) .unit), .bool, false, fun x => run x.1⟩
set_option maxRecDepth 100000 in
theorem con : Con Try.prog 71 F := by
  refine con_of_den (C := C) (ctx_ok (by kernel_rfl) (by kernel_rfl) trivial) (by kernel_rfl) Try.func71 (c := cB Try.f71) (by kernel_rfl) (by kernel_rfl) F fuel (fun x => by simp [F, spread, Try.ntmps71]) ?_
  intro x r h
  rw [← h]
  have h1 : start F Try.f71.ntmps x = (St0 x.1) := by kernel_rfl
  rw [h1]
  refine (top_eq fuel (fin C Try.f71.results.toList F.rs F.multi) x.1).trans ?_
  kernel_rfl
theorem named : Named Try.prog 71 := named_of Try.func71 (by kernel_rfl) (by kernel_rfl)
end Go.Bx.seen_inside
namespace Go.Bx.seen_Has
open Go Go.Proofs Go.Bx
set_option maxRecDepth 100000
set_option linter.unusedVariables false
def Js : List Nat := []
def C : Ctx := ⟨[(3, (.int .i64)), (4, .bool), (23, (.int .i64)), (27, (.int .u64)), (29, (.arr 4 (.int .u64)))], [], fnL [(71, Go.Bx.seen_inside.F)], noSh, [], noInv, [(2, [4, 5])], [], [], 0, 0⟩
def St0 (x0 : List Int) (x1 : Int) : St := stL 18 [(0, .data (.arr 4 (.int .u64)) x0), (1, .data (.int .i64) x1)] []
def St1 (x4 : Bool) (x5 : Int) : St := stL 18 [(4, .data .bool x4), (5, .data (.int .i64) x5)] []
def top {α : Type} (Rt : Bool → Int → Option α) (x0 : List Int) (x1 : Int) : Option α :=
  (Go.Bx.seen_inside.run x1).bind fun y1 =>
  if (not y1) = true then
    Rt false 6
  else
    if 0 ≤ (IntKind.i64.wrap (Int.tdiv x1 64)) ∧ (IntKind.i64.wrap (Int.tdiv x1 64)) < (4 : Int) then
      if 0 ≤ (Int.tmod x1 64) then
        Rt ((band .u64 (shrI .u64 (List.getD x0 (Int.toNat (IntKind.i64.wrap (Int.tdiv x1 64))) 0) (Int.tmod x1 64)) 1) == 1) 0
      else none
    else none
theorem top_eq {α : Type} (k : Nat) (Q : Ex → St → Option α) (x0 : List Int) (x1 : Int) :
    (den C k) (cB Try.f24) Q (St0 x0 x1) = top (fun (x4 : Bool) (x5 : Int) => Q .ret (St1 x4 x5)) x0 x1 := by
  have h : ∀ (D L : DT α), denJ D L Js C (cB Try.f24) Q (St0 x0 x1) =
        (Go.Bx.seen_inside.run x1).bind fun y1 =>
        if (not y1) = true then
          Q .ret (St1 false 6)
        else
          if 0 ≤ (IntKind.i64.wrap (Int.tdiv x1 64)) ∧ (IntKind.i64.wrap (Int.tdiv x1 64)) < (4 : Int) then
            if 0 ≤ (Int.tmod x1 64) then
              Q .ret (St1 ((band .u64 (shrI .u64 (List.getD x0 (Int.toNat (IntKind.i64.wrap (Int.tdiv x1 64))) 0) (Int.tmod x1 64)) 1) == 1) 0)
            else none
          else none := by
    intro D L; kernel_rfl
  refine (show (den C k) (cB Try.f24) Q (St0 x0 x1) = denJ (den C k) (lp C k) Js C (cB Try.f24) Q (St0 x0 x1) from (denJ_den _ _ _ _ _ _).symm).trans ((h (den C k) (lp C k)).trans ?_)
  first | rfl | kernel_rfl
def run (x0 : List Int) (x1 : Int) : Option (Bool × Int × Unit) := top (α := Bool × Int × Unit) (fun (x4 : Bool) (x5 : Int) => some (x4, x5, ())) x0 x1
def F : Fn := ⟨(.pair (.arr 4 (.int .u64)) (.pair (.int .i64) .unit)), (.pair .bool (.pair (.int .i64) .unit)), true, fun x => run x.1 x.2.1⟩
set_option maxRecDepth 100000 in
theorem con : Con Try.prog 24 F := by
  refine con_of_den (C := C) (ctx_ok (by kernel_rfl) (by kernel_rfl) ⟨.inl ⟨Go.Bx.seen_inside.con, Go.Bx.seen_inside.named⟩, trivial⟩) (by kernel_rfl) Try.func24 (c := cB Try.f24) (by kernel_rfl) (by kernel_rfl) F fuel (fun x => by simp [F, spread, Try.ntmps24]) ?_
  intro x r h
  rw [← h]
  have h1 : start F Try.f24.ntmps x = (St0 x.1 x.2.1) := by kernel_rfl
  rw [h1]
  refine (top_eq fuel (fin C Try.f24.results.toList F.rs F.multi) x.1 x.2.1).trans ?_
  kernel_rfl
theorem named : Named Try.prog 24 := named_of Try.func24 (by kernel_rfl) (by kernel_rfl)
end Go.Bx.seen_Has
namespace Go.Bx.basculeref_Marks
open Go Go.Proofs Go.Bx
set_option maxRecDepth 100000
set_option linter.unusedVariables false
def Js : List Nat := [8, 9]
def C : Ctx := ⟨[(27, (.int .u64)), (29, (.arr 4 (.int .u64))), (92, (.sl (.int .i64)))], [], fnL [], noSh, [], noInv, [(2, [2]), (1, [3]), (4, [1, 3, 5]), (9, [1, 3, 5]), (21, [1, 3, 5]), (24, [3])], [(9, [.melt true 3 [] 20 true])], [], 0, 0⟩
def St0 (x0 : List Int) : St := stL 23 [(0, .data (.arr 4 (.int .u64)) x0)] []
def St1 (x5 : Int) (c1 : List Int) (c20 : List Int) : St := stL 23 [(1, .ref 1 0 []), (3, .app 20 0), (5, .data (.int .i64) x5)] [(1, .cell (.arr 4 (.int .u64)) (.data (.arr 4 (.int .u64)) c1) false), (20, .buf (.int .i64) c20 0 true)]
noncomputable def cd0 : Code := cL (cL (cR (cL (cR (cR (cB Try.f72))))))
def St2 (x5 : Int) (c1 : List Int) (c20 : List Int) : St := stL 23 [(1, .ref 1 0 []), (3, .app 20 0), (5, .data (.int .i64) x5)] [(1, .cell (.arr 4 (.int .u64)) (.data (.arr 4 (.int .u64)) c1) false), (20, .buf (.int .i64) c20 0 true)]
noncomputable def cd1 : Code := cR (cR (cR (cL (cL (cR (cL (cR (cR (cB Try.f72)))))))))
def j0 {α : Type} (Nx : Int → (List Int) → (List Int) → Option α) (x5 : Int) (c1 : List Int) (c20 : List Int) : Option α :=
  Nx (IntKind.i64.wrap (x5 + 1)) c1 c20
theorem j0_eq {α : Type} (k : Nat) (next : St → Option α) (Q : Ex → St → Option α) (x5 : Int) (c1 : List Int) (c20 : List Int) :
    (den C k) cd1 (lq C 9 next Q) (St2 x5 c1 c20) = j0 (fun (x5 : Int) (c1 : List Int) (c20 : List Int) => next (St1 x5 c1 c20)) x5 c1 c20 := by
  have h : ∀ (D L : DT α), denJ D L Js C cd1 (lq C 9 next Q) (St2 x5 c1 c20) =
        next (St1 (IntKind.i64.wrap (x5 + 1)) c1 c20) := by
    intro D L; kernel_rfl
  refine (show (den C k) cd1 (lq C 9 next Q) (St2 x5 c1 c20) = denJ (den C k) (lp C k) Js C cd1 (lq C 9 next Q) (St2 x5 c1 c20) from (denJ_den _ _ _ _ _ _).symm).trans ((h (den C k) (lp C k)).trans ?_)
  first | rfl | kernel_rfl
def St3 (c20 : List Int) : St := stL 23 [(3, .app 20 0)] [(20, .buf (.int .i64) c20 0 true)]
def l0s {α : Type} (Nx : Int → (List Int) → (List Int) → Option α) (Xt0 : (List Int) → Option α) (x5 : Int) (c1 : List Int) (c20 : List Int) : Option α :=
  if (decide (x5 < 256)) = true then
    if 0 ≤ (IntKind.i64.wrap (Int.tdiv x5 64)) ∧ (IntKind.i64.wrap (Int.tdiv x5 64)) < (4 : Int) then
      if 0 ≤ (Int.tmod x5 64) then
        if ((band .u64 (List.getD c1 (Int.toNat (IntKind.i64.wrap (Int.tdiv x5 64))) 0) (shlI .u64 1 (Int.tmod x5 64))) != 0) = true then
          if fitB (c20.length + 1) 8 = true then
            j0 Nx x5 c1 (c20 ++ [x5])
          else none
        else
          j0 Nx x5 c1 c20
      else none
    else none
  else
    Xt0 c20
theorem l0s_eq {α : Type} (k : Nat) (next : St → Option α) (Q : Ex → St → Option α) (x5 : Int) (c1 : List Int) (c20 : List Int) :
    rnd C k cd0 9 Q next (St1 x5 c1 c20) = l0s (fun (x5 : Int) (c1 : List Int) (c20 : List Int) => next (St1 x5 c1 c20)) (fun (c20 : List Int) => Q (.exit 0) (St3 c20)) x5 c1 c20 := by
  have h : ∀ (D L : DT α), denJ D L Js C cd0 (lq C 9 next Q) (St1 x5 c1 c20) =
        if (decide (x5 < 256)) = true then
          if 0 ≤ (IntKind.i64.wrap (Int.tdiv x5 64)) ∧ (IntKind.i64.wrap (Int.tdiv x5 64)) < (4 : Int) then
            if 0 ≤ (Int.tmod x5 64) then
              if ((band .u64 (List.getD c1 (Int.toNat (IntKind.i64.wrap (Int.tdiv x5 64))) 0) (shlI .u64 1 (Int.tmod x5 64))) != 0) = true then
                if fitB (c20.length + 1) 8 = true then
                  D cd1 (lq C 9 next Q) (St2 x5 c1 (c20 ++ [x5]))
                else none
              else
                D cd1 (lq C 9 next Q) (St2 x5 c1 c20)
            else none
          else none
        else
          Q (.exit 0) (St3 c20) := by
    intro D L; kernel_rfl
  refine (show rnd C k cd0 9 Q next (St1 x5 c1 c20) = denJ (den C k) (lp C k) Js C cd0 (lq C 9 next Q) (St1 x5 c1 c20) from (denJ_den _ _ _ _ _ _).symm).trans ((h (den C k) (lp C k)).trans ?_)
  simp only [j0_eq]
  first | rfl | kernel_rfl
def l0 {α : Type} (k : Nat) (Xt0 : (List Int) → Option α) : Nat → Int → (List Int) → (List Int) → Option α
  | 0, _, _, _ => none
  | n + 1, x5, c1, c20 => l0s (l0 k Xt0 n) Xt0 x5 c1 c20
theorem l0_eq {α : Type} (k : Nat) (Q : Ex → St → Option α) : ∀ (n : Nat) (x5 : Int) (c1 : List Int) (c20 : List Int), iter (rnd C k cd0 9 Q) n (St1 x5 c1 c20) = l0 k (fun (c20 : List Int) => Q (.exit 0) (St3 c20)) n x5 c1 c20
  | 0, _, _, _ => rfl
  | n + 1, x5, c1, c20 => (iter_succ _ _ _).trans ((l0s_eq k (iter (rnd C k cd0 9 Q) n) Q x5 c1 c20).trans (congrArg (fun N => l0s N (fun (c20 : List Int) => Q (.exit 0) (St3 c20)) x5 c1 c20) (funext fun x5 => funext fun c1 => funext fun c20 => l0_eq k Q n x5 c1 c20)))
theorem l0_congr {α : Type} (k : Nat) (Xt0 : (List Int) → Option α) (Xt0q : (List Int) → Option α) (hXt0 : ∀ (c20 : List Int), Xt0 c20 = Xt0q c20) (n : Nat) (x5 : Int) (c1 : List Int) (c20 : List Int) : l0 k Xt0 n x5 c1 c20 = l0 k Xt0q n x5 c1 c20 := by
  obtain rfl : Xt0 = Xt0q := by funext c20; exact hXt0 c20
  rfl
noncomputable def cd2 : Code := cR (cR (cR (cB Try.f72)))
def St4 (c20 : List Int) : St := stL 23 [(3, .app 20 0)] [(20, .buf (.int .i64) c20 0 true)]
def St5 (c20 : List Int) : St := stL 23 [(2, .app 20 0)] [(20, .buf (.int .i64) c20 0 true)]
def j1 {α : Type} (Rt : (List Int) → Option α) (c20 : List Int) : Option α :=
  Rt c20
theorem j1_eq {α : Type} (k : Nat) (Q : Ex → St → Option α) (c20 : List Int) :
    (den C k) cd2 Q (St4 c20) = j1 (fun (c20 : List Int) => Q .ret (St5 c20)) c20 := by
  have h : ∀ (D L : DT α), denJ D L Js C cd2 Q (St4 c20) =
        Q .ret (St5 c20) := by
    intro D L; kernel_rfl
  refine (show (den C k) cd2 Q (St4 c20) = denJ (den C k) (lp C k) Js C cd2 Q (St4 c20) from (denJ_den _ _ _ _ _ _).symm).trans ((h (den C k) (lp C k)).trans ?_)
  first | rfl | kernel_rfl
theorem a0 {α : Type} (k : Nat) (Q : Ex → St → Option α) (x5 : Int) (c1 : List Int) (c20 : List Int) :
    (lp C k) cd0 (blkQ C 0 (sq (den C k) (lp C k) Js C cd2 Q)) (St1 x5 c1 c20) = l0 k (fun (c20 : List Int) => j1 (fun (c20 : List Int) => Q .ret (St5 c20)) c20) k x5 c1 c20 :=
  (show (lp C k) cd0 (blkQ C 0 (sq (den C k) (lp C k) Js C cd2 Q)) (St1 x5 c1 c20) = iter (rnd C k cd0 9 (blkQ C 0 (sq (den C k) (lp C k) Js C cd2 Q))) k (St1 x5 c1 c20) by kernel_rfl).trans ((l0_eq k (blkQ C 0 (sq (den C k) (lp C k) Js C cd2 Q)) k x5 c1 c20).trans (l0_congr k _ _ (fun c20 => ((show (blkQ C 0 (sq (den C k) (lp C k) Js C cd2 Q)) (.exit 0) (St3 c20) = (den C k) cd2 Q (St4 c20) by kernel_rfl).trans (by simp only [j1_eq]))) k x5 c1 c20))
def top {α : Type} (k : Nat) (Rt : (List Int) → Option α) (x0 : List Int) : Option α :=
  l0 k (fun (c20 : List Int) => j1 Rt c20) k 0 x0 []
theorem top_eq {α : Type} (k : Nat) (Q : Ex → St → Option α) (x0 : List Int) :
    (den C k) (cB Try.f72) Q (St0 x0) = top k (fun (c20 : List Int) => Q .ret (St5 c20)) x0 := by
  have h : ∀ (D L : DT α), denJ D L Js C (cB Try.f72) Q (St0 x0) =
        L cd0 (blkQ C 0 (sq D L Js C cd2 Q)) (St1 0 x0 []) := by
    intro D L; kernel_rfl
  refine (show (den C k) (cB Try.f72) Q (St0 x0) = denJ (den C k) (lp C k) Js C (cB Try.f72) Q (St0 x0) from (denJ_den _ _ _ _ _ _).symm).trans ((h (den C k) (lp C k)).trans ?_)
  simp only [a0]
  first | rfl | kernel_rfl
def run (x0 : List Int) : Option (List Int) := top (α := List Int) fuel (fun (c20 : List Int) => some c20) x0
def F : Fn := ⟨(.pair (.arr 4 (.int .u64)) .unit), (.sl (.int .i64)), false, fun x => run x.1⟩
set_option maxRecDepth 100000 in
theorem con : Con Try.prog 72 F := by
  refine con_of_den (C := C) (ctx_ok (by kernel_rfl) (by kernel_rfl) trivial) (by kernel_rfl) Try.func72 (c := cB Try.f72) (by kernel_rfl) (by kernel_rfl) F fuel (fun x => by simp [F, spread, Try.ntmps72]) ?_
  intro x r h
  rw [← h]
  have h1 : start F Try.f72.ntmps x = (St0 x.1) := by kernel_rfl
  rw [h1]
  refine (top_eq fuel (fin C Try.f72.results.toList F.rs F.multi) x.1).trans ?_
  kernel_rfl
theorem named : Named Try.prog 72 := named_of Try.func72 (by kernel_rfl) (by kernel_rfl)
end Go.Bx.basculeref_Marks
namespace Go.Bx.basculeref_Marked
open Go Go.Proofs Go.Bx
set_option maxRecDepth 100000
set_option linter.unusedVariables false
def Js : List Nat := [10]
def C : Ctx := ⟨[(3, (.int .i64)), (4, .bool), (23, (.int .i64)), (29, (.arr 4 (.int .u64))), (92, (.sl (.int .i64)))], [], fnL [(72, Go.Bx.basculeref_Marks.F)], noSh, [], noInv, [(2, [4, 5]), (1, []), (4, [1, 15, 16, 17]), (12, [1, 15, 16, 17]), (27, [])], [], [], 0, 0⟩
def St0 (x0 : List Int) (x1 : Int) : St := stL 25 [(0, .data (.arr 4 (.int .u64)) x0), (1, .data (.int .i64) x1)] []
def St1 (x4 : Bool) (x5 : Int) : St := stL 25 [(4, .data .bool x4), (5, .data (.int .i64) x5)] []
def St2 (x1 : Int) (x15 : List Int) (x16 : Int) (x17 : Int) : St := stL 25 [(1, .data (.int .i64) x1), (15, .data (.sl (.int .i64)) x15), (16, .data (.int .i64) x16), (17, .data (.int .i64) x17)] []
noncomputable def cd0 : Code := cL (cL (cR (cL (cR (cR (cB Try.f25))))))
def St3 : St := stL 25 [] []
def l0s {α : Type} (Nx : Int → (List Int) → Int → Int → Option α) (Rt : Bool → Int → Option α) (Xt0 : Option α) (x1 : Int) (x15 : List Int) (x16 : Int) (x17 : Int) : Option α :=
  if (decide (x17 < x16)) = true then
    if 0 ≤ x17 ∧ x17 < (x15.length : Int) then
      if ((List.getD x15 (Int.toNat x17) 0) == x1) = true then
        Rt true 0
      else
        Nx x1 x15 x16 (IntKind.i64.wrap (x17 + 1))
    else none
  else
    Xt0
theorem l0s_eq {α : Type} (k : Nat) (next : St → Option α) (Q : Ex → St → Option α) (x1 : Int) (x15 : List Int) (x16 : Int) (x17 : Int) :
    rnd C k cd0 12 Q next (St2 x1 x15 x16 x17) = l0s (fun (x1 : Int) (x15 : List Int) (x16 : Int) (x17 : Int) => next (St2 x1 x15 x16 x17)) (fun (x4 : Bool) (x5 : Int) => Q .ret (St1 x4 x5)) (Q (.exit 0) St3) x1 x15 x16 x17 := by
  have h : ∀ (D L : DT α), denJ D L Js C cd0 (lq C 12 next Q) (St2 x1 x15 x16 x17) =
        if (decide (x17 < x16)) = true then
          if 0 ≤ x17 ∧ x17 < (x15.length : Int) then
            if ((List.getD x15 (Int.toNat x17) 0) == x1) = true then
              Q .ret (St1 true 0)
            else
              next (St2 x1 x15 x16 (IntKind.i64.wrap (x17 + 1)))
          else none
        else
          Q (.exit 0) St3 := by
    intro D L; kernel_rfl
  refine (show rnd C k cd0 12 Q next (St2 x1 x15 x16 x17) = denJ (den C k) (lp C k) Js C cd0 (lq C 12 next Q) (St2 x1 x15 x16 x17) from (denJ_den _ _ _ _ _ _).symm).trans ((h (den C k) (lp C k)).trans ?_)
  first | rfl | kernel_rfl
def l0 {α : Type} (k : Nat) (Rt : Bool → Int → Option α) (Xt0 : Option α) : Nat → Int → (List Int) → Int → Int → Option α
  | 0, _, _, _, _ => none
  | n + 1, x1, x15, x16, x17 => l0s (l0 k Rt Xt0 n) Rt Xt0 x1 x15 x16 x17
theorem l0_eq {α : Type} (k : Nat) (Q : Ex → St → Option α) : ∀ (n : Nat) (x1 : Int) (x15 : List Int) (x16 : Int) (x17 : Int), iter (rnd C k cd0 12 Q) n (St2 x1 x15 x16 x17) = l0 k (fun (x4 : Bool) (x5 : Int) => Q .ret (St1 x4 x5)) (Q (.exit 0) St3) n x1 x15 x16 x17
  | 0, _, _, _, _ => rfl
  | n + 1, x1, x15, x16, x17 => (iter_succ _ _ _).trans ((l0s_eq k (iter (rnd C k cd0 12 Q) n) Q x1 x15 x16 x17).trans (congrArg (fun N => l0s N (fun (x4 : Bool) (x5 : Int) => Q .ret (St1 x4 x5)) (Q (.exit 0) St3) x1 x15 x16 x17) (funext fun x1 => funext fun x15 => funext fun x16 => funext fun x17 => l0_eq k Q n x1 x15 x16 x17)))
theorem l0_congr {α : Type} (k : Nat) (Rt : Bool → Int → Option α) (Xt0 : Option α) (Rtq : Bool → Int → Option α) (Xt0q : Option α) (hRt : ∀ (x4 : Bool) (x5 : Int), Rt x4 x5 = Rtq x4 x5) (hXt0 : Xt0 = Xt0q) (n : Nat) (x1 : Int) (x15 : List Int) (x16 : Int) (x17 : Int) : l0 k Rt Xt0 n x1 x15 x16 x17 = l0 k Rtq Xt0q n x1 x15 x16 x17 := by
  obtain rfl : Rt = Rtq := by funext x4; funext x5; exact hRt x4 x5
  obtain rfl : Xt0 = Xt0q := hXt0
  rfl
noncomputable def cd1 : Code := cR (cR (cR (cB Try.f25)))
def St4 : St := stL 25 [] []
def j0 {α : Type} (Rt : Bool → Int → Option α) : Option α :=
  Rt false 0
theorem j0_eq {α : Type} (k : Nat) (Q : Ex → St → Option α) :
    (den C k) cd1 Q St4 = j0 (fun (x4 : Bool) (x5 : Int) => Q .ret (St1 x4 x5)) := by
  have h : ∀ (D L : DT α), denJ D L Js C cd1 Q St4 =
        Q .ret (St1 false 0) := by
    intro D L; kernel_rfl
  refine (show (den C k) cd1 Q St4 = denJ (den C k) (lp C k) Js C cd1 Q St4 from (denJ_den _ _ _ _ _ _).symm).trans ((h (den C k) (lp C k)).trans ?_)
  first | rfl | kernel_rfl
theorem a0 {α : Type} (k : Nat) (Q : Ex → St → Option α) (x1 : Int) (x15 : List Int) (x16 : Int) (x17 : Int) :
    (lp C k) cd0 (blkQ C 0 (sq (den C k) (lp C k) Js C cd1 Q)) (St2 x1 x15 x16 x17) = l0 k (fun (x4 : Bool) (x5 : Int) => (fun (x4 : Bool) (x5 : Int) => Q .ret (St1 x4 x5)) x4 x5) (j0 (fun (x4 : Bool) (x5 : Int) => Q .ret (St1 x4 x5))) k x1 x15 x16 x17 :=
  (show (lp C k) cd0 (blkQ C 0 (sq (den C k) (lp C k) Js C cd1 Q)) (St2 x1 x15 x16 x17) = iter (rnd C k cd0 12 (blkQ C 0 (sq (den C k) (lp C k) Js C cd1 Q))) k (St2 x1 x15 x16 x17) by kernel_rfl).trans ((l0_eq k (blkQ C 0 (sq (den C k) (lp C k) Js C cd1 Q)) k x1 x15 x16 x17).trans (l0_congr k _ _ _ _ (fun x4 x5 => (show (blkQ C 0 (sq (den C k) (lp C k) Js C cd1 Q)) .ret (St1 x4 x5) = Q .ret (St1 x4 x5) by kernel_rfl)) ((show (blkQ C 0 (sq (den C k) (lp C k) Js C cd1 Q)) (.exit 0) St3 = (den C k) cd1 Q St4 by kernel_rfl).trans (by simp only [j0_eq])) k x1 x15 x16 x17))
def top {α : Type} (k : Nat) (Rt : Bool → Int → Option α) (x0 : List Int) (x1 : Int) : Option α :=
  if (cond (decide (x1 < 0)) true (decide (x1 > 255))) = true then
    Rt false 6
  else
    (Go.Bx.basculeref_Marks.run x0).bind fun y1 =>
    l0 k (fun (x4 : Bool) (x5 : Int) => Rt x4 x5) (j0 Rt) k x1 y1 (y1.length : Int) 0
theorem top_eq {α : Type} (k : Nat) (Q : Ex → St → Option α) (x0 : List Int) (x1 : Int) :
    (den C k) (cB Try.f25) Q (St0 x0 x1) = top k (fun (x4 : Bool) (x5 : Int) => Q .ret (St1 x4 x5)) x0 x1 := by
  have h : ∀ (D L : DT α), denJ D L Js C (cB Try.f25) Q (St0 x0 x1) =
        if (cond (decide (x1 < 0)) true (decide (x1 > 255))) = true then
          Q .ret (St1 false 6)
        else
          (Go.Bx.basculeref_Marks.run x0).bind fun y1 =>
          L cd0 (blkQ C 0 (sq D L Js C cd1 Q)) (St2 x1 y1 (y1.length : Int) 0) := by
    intro D L; kernel_rfl
  refine (show (den C k) (cB Try.f25) Q (St0 x0 x1) = denJ (den C k) (lp C k) Js C (cB Try.f25) Q (St0 x0 x1) from (denJ_den _ _ _ _ _ _).symm).trans ((h (den C k) (lp C k)).trans ?_)
  simp only [a0]
  first | rfl | kernel_rfl
def run (x0 : List Int) (x1 : Int) : Option (Bool × Int × Unit) := top (α := Bool × Int × Unit) fuel (fun (x4 : Bool) (x5 : Int) => some (x4, x5, ())) x0 x1
def F : Fn := ⟨(.pair (.arr 4 (.int .u64)) (.pair (.int .i64) .unit)), (.pair .bool (.pair (.int .i64) .unit)), true, fun x => run x.1 x.2.1⟩
set_option maxRecDepth 100000 in
theorem con : Con Try.prog 25 F := by
  refine con_of_den (C := C) (ctx_ok (by kernel_rfl) (by kernel_rfl) ⟨.inl ⟨Go.Bx.basculeref_Marks.con, Go.Bx.basculeref_Marks.named⟩, trivial⟩) (by kernel_rfl) Try.func25 (c := cB Try.f25) (by kernel_rfl) (by kernel_rfl) F fuel (fun x => by simp [F, spread, Try.ntmps25]) ?_
  intro x r h
  rw [← h]
  have h1 : start F Try.f25.ntmps x = (St0 x.1 x.2.1) := by kernel_rfl
  rw [h1]
  refine (top_eq fuel (fin C Try.f25.results.toList F.rs F.multi) x.1 x.2.1).trans ?_
  kernel_rfl
theorem named : Named Try.prog 25 := named_of Try.func25 (by kernel_rfl) (by kernel_rfl)
end Go.Bx.basculeref_Marked
namespace Go.Bx.basculelaw_SeenHas
open Go Go.Proofs Go.Bx
set_option maxRecDepth 100000
set_option linter.unusedVariables false
def Js : List Nat := []
def C : Ctx := ⟨[(3, (.int .i64)), (4, .bool), (29, (.arr 4 (.int .u64)))], [], fnL [(24, Go.Bx.seen_Has.F), (25, Go.Bx.basculeref_Marked.F)], noSh, [], noInv, [(2, [4])], [], [], 0, 0⟩
def St0 (x0 : List Int) (x1 : Int) : St := stL 29 [(0, .data (.arr 4 (.int .u64)) x0), (1, .data (.int .i64) x1)] []
def St1 (x4 : Bool) : St := stL 29 [(4, .data .bool x4)] []
def top {α : Type} (Rt : Bool → Option α) (x0 : List Int) (x1 : Int) : Option α :=
  (Go.Bx.seen_Has.run x0 x1).bind fun y1 =>
  (Go.Bx.basculeref_Marked.run x0 x1).bind fun y2 =>
  Rt (cond (beqD .bool y1.1 y2.1) (y1.2.1 == y2.2.1) false)
theorem top_eq {α : Type} (k : Nat) (Q : Ex → St → Option α) (x0 : List Int) (x1 : Int) :
    (den C k) (cB Try.f5) Q (St0 x0 x1) = top (fun (x4 : Bool) => Q .ret (St1 x4)) x0 x1 := by
  have h : ∀ (D L : DT α), denJ D L Js C (cB Try.f5) Q (St0 x0 x1) =
        (Go.Bx.seen_Has.run x0 x1).bind fun y1 =>
        (Go.Bx.basculeref_Marked.run x0 x1).bind fun y2 =>
        Q .ret (St1 (cond (beqD .bool y1.1 y2.1) (y1.2.1 == y2.2.1) false)) := by
    intro D L; kernel_rfl
  refine (show (den C k) (cB Try.f5) Q (St0 x0 x1) = denJ (den C k) (lp C k) Js C (cB Try.f5) Q (St0 x0 x1) from (denJ_den _ _ _ _ _ _).symm).trans ((h (den C k) (lp C k)).trans ?_)
  first | rfl | kernel_rfl
def run (x0 : List Int) (x1 : Int) : Option (Bool) := top (α := Bool) (fun (x4 : Bool) => some x4) x0 x1
def F : Fn := ⟨(.pair (.arr 4 (.int .u64)) (.pair (.int .i64) .unit)), .bool, false, fun x => run x.1 x.2.1⟩
set_option maxRecDepth 100000 in
theorem con : Con Try.prog 5 F := by
  refine con_of_den (C := C) (ctx_ok (by kernel_rfl) (by kernel_rfl) ⟨.inl ⟨Go.Bx.seen_Has.con, Go.Bx.seen_Has.named⟩, ⟨.inl ⟨Go.Bx.basculeref_Marked.con, Go.Bx.basculeref_Marked.named⟩, trivial⟩⟩) (by kernel_rfl) Try.func5 (c := cB Try.f5) (by kernel_rfl) (by kernel_rfl) F fuel (fun x => by simp [F, spread, Try.ntmps5]) ?_
  intro x r h
  rw [← h]
  have h1 : start F Try.f5.ntmps x = (St0 x.1 x.2.1) := by kernel_rfl
  rw [h1]
  refine (top_eq fuel (fin C Try.f5.results.toList F.rs F.multi) x.1 x.2.1).trans ?_
  kernel_rfl
theorem named : Named Try.prog 5 := named_of Try.func5 (by kernel_rfl) (by kernel_rfl)
end Go.Bx.basculelaw_SeenHas
namespace Go.Bx.seen_Mark
open Go Go.Proofs Go.Bx
set_option maxRecDepth 100000
set_option linter.unusedVariables false
def Js : List Nat := []
def C : Ctx := ⟨[(3, (.int .i64)), (23, (.int .i64)), (27, (.int .u64)), (29, (.arr 4 (.int .u64)))], [], fnL [(24, Go.Bx.seen_Has.F)], noSh, [], noInv, [(2, [4, 5])], [], [], 0, 0⟩
def St0 (x0 : List Int) (x1 : Int) : St := stL 30 [(0, .data (.arr 4 (.int .u64)) x0), (1, .data (.int .i64) x1)] []
def St1 (x5 : Int) (c4 : List Int) : St := stL 30 [(4, .ref 4 0 []), (5, .data (.int .i64) x5)] [(4, .cell (.arr 4 (.int .u64)) (.data (.arr 4 (.int .u64)) c4) false)]
def top {α : Type} (Rt : Int → (List Int) → Option α) (x0 : List Int) (x1 : Int) : Option α :=
  (Go.Bx.seen_Has.run x0 x1).bind fun y1 =>
  if (y1.2.1 != 0) = true then
    Rt y1.2.1 [0, 0, 0, 0]
  else
    if y1.1 = true then
      Rt 8 [0, 0, 0, 0]
    else
      if 0 ≤ (IntKind.i64.wrap (Int.tdiv x1 64)) ∧ (IntKind.i64.wrap (Int.tdiv x1 64)) < (4 : Int) then
        if 0 ≤ (Int.tmod x1 64) then
          if 0 ≤ (IntKind.i64.wrap (Int.tdiv x1 64)) ∧ (IntKind.i64.wrap (Int.tdiv x1 64)) < (4 : Int) then
            Rt 0 (List.set x0 (Int.toNat (IntKind.i64.wrap (Int.tdiv x1 64))) (bor .u64 (List.getD x0 (Int.toNat (IntKind.i64.wrap (Int.tdiv x1 64))) 0) (shlI .u64 1 (Int.tmod x1 64))))
          else none
        else none
      else none
theorem top_eq {α : Type} (k : Nat) (Q : Ex → St → Option α) (x0 : List Int) (x1 : Int) :
    (den C k) (cB Try.f45) Q (St0 x0 x1) = top (fun (x5 : Int) (c4 : List Int) => Q .ret (St1 x5 c4)) x0 x1 := by
  have h : ∀ (D L : DT α), denJ D L Js C (cB Try.f45) Q (St0 x0 x1) =
        (Go.Bx.seen_Has.run x0 x1).bind fun y1 =>
        if (y1.2.1 != 0) = true then
          Q .ret (St1 y1.2.1 [0, 0, 0, 0])
        else
          if y1.1 = true then
            Q .ret (St1 8 [0, 0, 0, 0])
          else
            if 0 ≤ (IntKind.i64.wrap (Int.tdiv x1 64)) ∧ (IntKind.i64.wrap (Int.tdiv x1 64)) < (4 : Int) then
              if 0 ≤ (Int.tmod x1 64) then
                if 0 ≤ (IntKind.i64.wrap (Int.tdiv x1 64)) ∧ (IntKind.i64.wrap (Int.tdiv x1 64)) < (4 : Int) then
                  Q .ret (St1 0 (List.set x0 (Int.toNat (IntKind.i64.wrap (Int.tdiv x1 64))) (bor .u64 (List.getD x0 (Int.toNat (IntKind.i64.wrap (Int.tdiv x1 64))) 0) (shlI .u64 1 (Int.tmod x1 64)))))
                else none
              else none
            else none := by
    intro D L; kernel_rfl
  refine (show (den C k) (cB Try.f45) Q (St0 x0 x1) = denJ (den C k) (lp C k) Js C (cB Try.f45) Q (St0 x0 x1) from (denJ_den _ _ _ _ _ _).symm).trans ((h (den C k) (lp C k)).trans ?_)
  first | rfl | kernel_rfl
def run (x0 : List Int) (x1 : Int) : Option (List Int × Int × Unit) := top (α := List Int × Int × Unit) (fun (x5 : Int) (c4 : List Int) => some (c4, x5, ())) x0 x1
def F : Fn := ⟨(.pair (.arr 4 (.int .u64)) (.pair (.int .i64) .unit)), (.pair (.arr 4 (.int .u64)) (.pair (.int .i64) .unit)), true, fun x => run x.1 x.2.1⟩
set_option maxRecDepth 100000 in
theorem con : Con Try.prog 45 F := by
  refine con_of_den (C := C) (ctx_ok (by kernel_rfl) (by kernel_rfl) ⟨.inl ⟨Go.Bx.seen_Has.con, Go.Bx.seen_Has.named⟩, trivial⟩) (by kernel_rfl) Try.func45 (c := cB Try.f45) (by kernel_rfl) (by kernel_rfl) F fuel (fun x => by simp [F, spread, Try.ntmps45]) ?_
  intro x r h
  rw [← h]
  have h1 : start F Try.f45.ntmps x = (St0 x.1 x.2.1) := by kernel_rfl
  rw [h1]
  refine (top_eq fuel (fin C Try.f45.results.toList F.rs F.multi) x.1 x.2.1).trans ?_
  kernel_rfl
theorem named : Named Try.prog 45 := named_of Try.func45 (by kernel_rfl) (by kernel_rfl)
end Go.Bx.seen_Mark
namespace Go.Bx.basculeref_MarkedToo
open Go Go.Proofs Go.Bx
set_option maxRecDepth 100000
set_option linter.unusedVariables false
def Js : List Nat := []
def C : Ctx := ⟨[(3, (.int .i64)), (23, (.int .i64)), (27, (.int .u64)), (29, (.arr 4 (.int .u64)))], [], fnL [(25, Go.Bx.basculeref_Marked.F)], noSh, [], noInv, [(2, [4, 5])], [], [], 0, 0⟩
def St0 (x0 : List Int) (x1 : Int) : St := stL 30 [(0, .data (.arr 4 (.int .u64)) x0), (1, .data (.int .i64) x1)] []
def St1 (x5 : Int) (c4 : List Int) : St := stL 30 [(4, .ref 4 0 []), (5, .data (.int .i64) x5)] [(4, .cell (.arr 4 (.int .u64)) (.data (.arr 4 (.int .u64)) c4) false)]
def top {α : Type} (Rt : Int → (List Int) → Option α) (x0 : List Int) (x1 : Int) : Option α :=
  (Go.Bx.basculeref_Marked.run x0 x1).bind fun y1 =>
  if (y1.2.1 != 0) = true then
    Rt y1.2.1 [0, 0, 0, 0]
  else
    if y1.1 = true then
      Rt 8 [0, 0, 0, 0]
    else
      if 0 ≤ (IntKind.i64.wrap (Int.tdiv x1 64)) ∧ (IntKind.i64.wrap (Int.tdiv x1 64)) < (4 : Int) then
        if 0 ≤ (Int.tmod x1 64) then
          if 0 ≤ (IntKind.i64.wrap (Int.tdiv x1 64)) ∧ (IntKind.i64.wrap (Int.tdiv x1 64)) < (4 : Int) then
            Rt 0 (List.set x0 (Int.toNat (IntKind.i64.wrap (Int.tdiv x1 64))) (IntKind.u64.wrap ((List.getD x0 (Int.toNat (IntKind.i64.wrap (Int.tdiv x1 64))) 0) + (shlI .u64 1 (Int.tmod x1 64)))))
          else none
        else none
      else none
theorem top_eq {α : Type} (k : Nat) (Q : Ex → St → Option α) (x0 : List Int) (x1 : Int) :
    (den C k) (cB Try.f46) Q (St0 x0 x1) = top (fun (x5 : Int) (c4 : List Int) => Q .ret (St1 x5 c4)) x0 x1 := by
  have h : ∀ (D L : DT α), denJ D L Js C (cB Try.f46) Q (St0 x0 x1) =
        (Go.Bx.basculeref_Marked.run x0 x1).bind fun y1 =>
        if (y1.2.1 != 0) = true then
          Q .ret (St1 y1.2.1 [0, 0, 0, 0])
        else
          if y1.1 = true then
            Q .ret (St1 8 [0, 0, 0, 0])
          else
            if 0 ≤ (IntKind.i64.wrap (Int.tdiv x1 64)) ∧ (IntKind.i64.wrap (Int.tdiv x1 64)) < (4 : Int) then
              if 0 ≤ (Int.tmod x1 64) then
                if 0 ≤ (IntKind.i64.wrap (Int.tdiv x1 64)) ∧ (IntKind.i64.wrap (Int.tdiv x1 64)) < (4 : Int) then
                  Q .ret (St1 0 (List.set x0 (Int.toNat (IntKind.i64.wrap (Int.tdiv x1 64))) (IntKind.u64.wrap ((List.getD x0 (Int.toNat (IntKind.i64.wrap (Int.tdiv x1 64))) 0) + (shlI .u64 1 (Int.tmod x1 64))))))
                else none
              else none
            else none := by
    intro D L; kernel_rfl
  refine (show (den C k) (cB Try.f46) Q (St0 x0 x1) = denJ (den C k) (lp C k) Js C (cB Try.f46) Q (St0 x0 x1) from (denJ_den _ _ _ _ _ _).symm).trans ((h (den C k) (lp C k)).trans ?_)
  first | rfl | kernel_rfl
def run (x0 : List Int) (x1 : Int) : Option (List Int × Int × Unit) := top (α := List Int × Int × Unit) (fun (x5 : Int) (c4 : List Int) => some (c4, x5, ())) x0 x1
def F : Fn := ⟨(.pair (.arr 4 (.int .u64)) (.pair (.int .i64) .unit)), (.pair (.arr 4 (.int .u64)) (.pair (.int .i64) .unit)), true, fun x => run x.1 x.2.1⟩
set_option maxRecDepth 100000 in
theorem con : Con Try.prog 46 F := by
  refine con_of_den (C := C) (ctx_ok (by kernel_rfl) (by kernel_rfl) ⟨.inl ⟨Go.Bx.basculeref_Marked.con, Go.Bx.basculeref_Marked.named⟩, trivial⟩) (by kernel_rfl) Try.func46 (c := cB Try.f46) (by kernel_rfl) (by kernel_rfl) F fuel (fun x => by simp [F, spread, Try.ntmps46]) ?_
  intro x r h
  rw [← h]
  have h1 : start F Try.f46.ntmps x = (St0 x.1 x.2.1) := by kernel_rfl
  rw [h1]
  refine (top_eq fuel (fin C Try.f46.results.toList F.rs F.multi) x.1 x.2.1).trans ?_
  kernel_rfl
theorem named : Named Try.prog 46 := named_of Try.func46 (by kernel_rfl) (by kernel_rfl)
end Go.Bx.basculeref_MarkedToo
namespace Go.Bx.basculelaw_SeenMarks
open Go Go.Proofs Go.Bx
set_option maxRecDepth 100000
set_option linter.unusedVariables false
def Js : List Nat := []
def C : Ctx := ⟨[(3, (.int .i64)), (4, .bool), (29, (.arr 4 (.int .u64)))], [], fnL [(45, Go.Bx.seen_Mark.F), (46, Go.Bx.basculeref_MarkedToo.F)], noSh, [], noInv, [(2, [4])], [], [], 0, 0⟩
def St0 (x0 : List Int) (x1 : Int) : St := stL 29 [(0, .data (.arr 4 (.int .u64)) x0), (1, .data (.int .i64) x1)] []
def St1 (x4 : Bool) : St := stL 29 [(4, .data .bool x4)] []
def top {α : Type} (Rt : Bool → Option α) (x0 : List Int) (x1 : Int) : Option α :=
  (Go.Bx.seen_Mark.run x0 x1).bind fun y1 =>
  (Go.Bx.basculeref_MarkedToo.run x0 x1).bind fun y2 =>
  Rt (cond (beqD (.arr 4 (.int .u64)) y1.1 y2.1) (y1.2.1 == y2.2.1) false)
theorem top_eq {α : Type} (k : Nat) (Q : Ex → St → Option α) (x0 : List Int) (x1 : Int) :
    (den C k) (cB Try.f11) Q (St0 x0 x1) = top (fun (x4 : Bool) => Q .ret (St1 x4)) x0 x1 := by
  have h : ∀ (D L : DT α), denJ D L Js C (cB Try.f11) Q (St0 x0 x1) =
        (Go.Bx.seen_Mark.run x0 x1).bind fun y1 =>
        (Go.Bx.basculeref_MarkedToo.run x0 x1).bind fun y2 =>
        Q .ret (St1 (cond (beqD (.arr 4 (.int .u64)) y1.1 y2.1) (y1.2.1 == y2.2.1) false)) := by
    intro D L; kernel_rfl
  refine (show (den C k) (cB Try.f11) Q (St0 x0 x1) = denJ (den C k) (lp C k) Js C (cB Try.f11) Q (St0 x0 x1) from (denJ_den _ _ _ _ _ _).symm).trans ((h (den C k) (lp C k)).trans ?_)
  first | rfl | kernel_rfl
def run (x0 : List Int) (x1 : Int) : Option (Bool) := top (α := Bool) (fun (x4 : Bool) => some x4) x0 x1
def F : Fn := ⟨(.pair (.arr 4 (.int .u64)) (.pair (.int .i64) .unit)), .bool, false, fun x => run x.1 x.2.1⟩
set_option maxRecDepth 100000 in
theorem con : Con Try.prog 11 F := by
  refine con_of_den (C := C) (ctx_ok (by kernel_rfl) (by kernel_rfl) ⟨.inl ⟨Go.Bx.seen_Mark.con, Go.Bx.seen_Mark.named⟩, ⟨.inl ⟨Go.Bx.basculeref_MarkedToo.con, Go.Bx.basculeref_MarkedToo.named⟩, trivial⟩⟩) (by kernel_rfl) Try.func11 (c := cB Try.f11) (by kernel_rfl) (by kernel_rfl) F fuel (fun x => by simp [F, spread, Try.ntmps11]) ?_
  intro x r h
  rw [← h]
  have h1 : start F Try.f11.ntmps x = (St0 x.1 x.2.1) := by kernel_rfl
  rw [h1]
  refine (top_eq fuel (fin C Try.f11.results.toList F.rs F.multi) x.1 x.2.1).trans ?_
  kernel_rfl
theorem named : Named Try.prog 11 := named_of Try.func11 (by kernel_rfl) (by kernel_rfl)
end Go.Bx.basculelaw_SeenMarks
