/- Go functions of this seat in their own words of Lean, each tied to its code by a contract. -/
import Derived.Test.YtbkkahkikjifkaaGBase
import Derived.Test.YtbkkahkikjifkaaFnGuardSees0
import Derived.Test.YtbkkahkikjifkaaFnGuardSees1
open Go Go.Proofs Go.Bx
set_option maxRecDepth 100000
set_option linter.unusedVariables false
variable {α : Type}
namespace Go.Bx.guard_See
def Js : List Nat := [11, 12]
def C : Ctx := ⟨[(3, T1), (32, T19), (34, T22), (40, T2)], [], [], fnL [(21, guard_fresh.F), (56, guard_meet.F)], noSh, [], invL [], [(2, [4, 5]), (1, [2, 4, 6]), (4, [2, 4, 6, 13, 14, 15]), (12, [2, 4, 6, 13, 14, 15]), (30, [2, 4, 6, 13, 14, 15]), (33, [2, 4, 6])], [], [], 0, 0⟩
def St0 (x0 : D8) (x1 : D7) : St := stL 32 [(0, .data T22 x0), (1, .data T19 x1)] []
def St1 (x6 : Int) (x13 : D7) (x14 x15 : Int) (c2 : D8) (c4p0 c4p1p0 c4p1p1 : D4) (c4p1p2 : Int) (c4p2p0 c4p2p1 : D4) (c4p2p2 : Int) : St := stL 32 [(2, .ref 2 0 []), (4, .ref 4 0 []), (6, .data T1 x6), (13, .data T19 x13), (14, .data T1 x14), (15, .data T1 x15)] [(2, .cell T22 (.data T22 c2) false), (4, .cell T22 (.agg T22 [.data T23 c4p0, .agg T7 [.data T5 c4p1p0, .data T5 c4p1p1, .data T1 c4p1p2, .full T8 [], .full T8 []], .agg T7 [.data T5 c4p2p0, .data T5 c4p2p1, .data T1 c4p2p2, .full T8 [], .full T8 []], .agg T21 [.full T18 [], .full T18 []], .full T2 [], .full T2 []]) false)]
noncomputable def cd0 : Code := cL (cL (cR (cL (cR (cR (cR (cB Try.f16)))))))
def St2 (x6 : Int) (x13 : D7) (x14 x15 : Int) (c2 : D8) (c4p0 c4p1p0 c4p1p1 : D4) (c4p1p2 : Int) (c4p2p0 c4p2p1 : D4) (c4p2p2 : Int) : St := stL 32 [(2, .ref 2 0 []), (4, .ref 4 0 []), (6, .data T1 x6), (13, .data T19 x13), (14, .data T1 x14), (15, .data T1 x15)] [(2, .cell T22 (.data T22 c2) false), (4, .cell T22 (.agg T22 [.data T23 c4p0, .agg T7 [.data T5 c4p1p0, .data T5 c4p1p1, .data T1 c4p1p2, .full T8 [], .full T8 []], .agg T7 [.data T5 c4p2p0, .data T5 c4p2p1, .data T1 c4p2p2, .full T8 [], .full T8 []], .agg T21 [.full T18 [], .full T18 []], .full T2 [], .full T2 []]) false)]
noncomputable def cd1 : Code := cR (cR (cR (cL (cL (cR (cL (cR (cR (cR (cB Try.f16))))))))))
def j0 (Nx : Int -> D7 -> Int -> Int -> D8 -> D4 -> D4 -> D4 -> Int -> D4 -> D4 -> Int -> Option α) (x6 : Int) (x13 : D7) (x14 x15 : Int) (c2 : D8) (c4p0 c4p1p0 c4p1p1 : D4) (c4p1p2 : Int) (c4p2p0 c4p2p1 : D4) (c4p2p2 : Int) : Option α :=
 Nx x6 x13 x14 (IntKind.i64.wrap (x15 + 1)) c2 c4p0 c4p1p0 c4p1p1 c4p1p2 c4p2p0 c4p2p1 c4p2p2
theorem j0_eq (k : Nat) (next : St -> Option α) (Q : Ex -> St -> Option α) (x6 : Int) (x13 : D7) (x14 x15 : Int) (c2 : D8) (c4p0 c4p1p0 c4p1p1 : D4) (c4p1p2 : Int) (c4p2p0 c4p2p1 : D4) (c4p2p2 : Int) :
  (den C k) cd1 (lq C 12 next Q) (St2 x6 x13 x14 x15 c2 c4p0 c4p1p0 c4p1p1 c4p1p2 c4p2p0 c4p2p1 c4p2p2) = j0 (fun x6 x13 x14 x15 c2 c4p0 c4p1p0 c4p1p1 c4p1p2 c4p2p0 c4p2p1 c4p2p2 => next (St1 x6 x13 x14 x15 c2 c4p0 c4p1p0 c4p1p1 c4p1p2 c4p2p0 c4p2p1 c4p2p2)) x6 x13 x14 x15 c2 c4p0 c4p1p0 c4p1p1 c4p1p2 c4p2p0 c4p2p1 c4p2p2 := plainly Js (by kernel_rfl)
def St3 (x6 : Int) (c2 : D8) (c4p0 c4p1p0 c4p1p1 : D4) (c4p1p2 : Int) (c4p2p0 c4p2p1 : D4) (c4p2p2 : Int) : St := stL 32 [(2, .ref 2 0 []), (4, .ref 4 0 []), (6, .data T1 x6)] [(2, .cell T22 (.data T22 c2) false), (4, .cell T22 (.agg T22 [.data T23 c4p0, .agg T7 [.data T5 c4p1p0, .data T5 c4p1p1, .data T1 c4p1p2, .full T8 [], .full T8 []], .agg T7 [.data T5 c4p2p0, .data T5 c4p2p1, .data T1 c4p2p2, .full T8 [], .full T8 []], .agg T21 [.full T18 [], .full T18 []], .full T2 [], .full T2 []]) false)]
def l0s (Nx : Int -> D7 -> Int -> Int -> D8 -> D4 -> D4 -> D4 -> Int -> D4 -> D4 -> Int -> Option α) (Xt0 : Int -> D8 -> D4 -> D4 -> D4 -> Int -> D4 -> D4 -> Int -> Option α) (x6 : Int) (x13 : D7) (x14 x15 : Int) (c2 : D8) (c4p0 c4p1p0 c4p1p1 : D4) (c4p1p2 : Int) (c4p2p0 c4p2p1 : D4) (c4p2p2 : Int) : Option α :=
 if (decide (x15 < x14)) = true then
  if 0 <= x15 /\ x15 < (x13.length : Int) then
   (guard_meet.run c2 (List.getD x13 (Int.toNat x15) (0, 0, 0, (List.replicate 32 0), 0, 0, [], ()))).bind fun y2 =>
   if y2.2.1 = true then
    j0 Nx (IntKind.i64.wrap (x6 + 1)) x13 x14 x15 y2.1 c4p0 c4p1p0 c4p1p1 c4p1p2 c4p2p0 c4p2p1 c4p2p2
   else
    j0 Nx x6 x13 x14 x15 c2 c4p0 c4p1p0 c4p1p1 c4p1p2 c4p2p0 c4p2p1 c4p2p2
  else none
 else
  Xt0 x6 c2 c4p0 c4p1p0 c4p1p1 c4p1p2 c4p2p0 c4p2p1 c4p2p2
theorem l0s_eq (k : Nat) (next : St -> Option α) (Q : Ex -> St -> Option α) (x6 : Int) (x13 : D7) (x14 x15 : Int) (c2 : D8) (c4p0 c4p1p0 c4p1p1 : D4) (c4p1p2 : Int) (c4p2p0 c4p2p1 : D4) (c4p2p2 : Int) :
  rnd C k cd0 12 Q next (St1 x6 x13 x14 x15 c2 c4p0 c4p1p0 c4p1p1 c4p1p2 c4p2p0 c4p2p1 c4p2p2) = l0s (fun x6 x13 x14 x15 c2 c4p0 c4p1p0 c4p1p1 c4p1p2 c4p2p0 c4p2p1 c4p2p2 => next (St1 x6 x13 x14 x15 c2 c4p0 c4p1p0 c4p1p1 c4p1p2 c4p2p0 c4p2p1 c4p2p2)) (fun x6 c2 c4p0 c4p1p0 c4p1p1 c4p1p2 c4p2p0 c4p2p1 c4p2p2 => Q (.exit 0) (St3 x6 c2 c4p0 c4p1p0 c4p1p1 c4p1p2 c4p2p0 c4p2p1 c4p2p2)) x6 x13 x14 x15 c2 c4p0 c4p1p0 c4p1p1 c4p1p2 c4p2p0 c4p2p1 c4p2p2 := by
 have h : ∀ (D L : DT α), denJ D L Js C cd0 (lq C 12 next Q) (St1 x6 x13 x14 x15 c2 c4p0 c4p1p0 c4p1p1 c4p1p2 c4p2p0 c4p2p1 c4p2p2) =
    if (decide (x15 < x14)) = true then
     if 0 <= x15 /\ x15 < (x13.length : Int) then
      (guard_meet.run c2 (List.getD x13 (Int.toNat x15) (0, 0, 0, (List.replicate 32 0), 0, 0, [], ()))).bind fun y2 =>
      if y2.2.1 = true then
       D cd1 (lq C 12 next Q) (St2 (IntKind.i64.wrap (x6 + 1)) x13 x14 x15 y2.1 c4p0 c4p1p0 c4p1p1 c4p1p2 c4p2p0 c4p2p1 c4p2p2)
      else
       D cd1 (lq C 12 next Q) (St2 x6 x13 x14 x15 c2 c4p0 c4p1p0 c4p1p1 c4p1p2 c4p2p0 c4p2p1 c4p2p2)
     else none
    else
     Q (.exit 0) (St3 x6 c2 c4p0 c4p1p0 c4p1p1 c4p1p2 c4p2p0 c4p2p1 c4p2p2) := by
  intro D L; kernel_rfl
 have h2 := via (k := k) h
 refine h2.trans ?_
 simp only [j0_eq]
 first | rfl | kernel_rfl
def l0 (k : Nat) (Xt0 : Int -> D8 -> D4 -> D4 -> D4 -> Int -> D4 -> D4 -> Int -> Option α) : Nat -> Int -> D7 -> Int -> Int -> D8 -> D4 -> D4 -> D4 -> Int -> D4 -> D4 -> Int -> Option α
 | 0, _, _, _, _, _, _, _, _, _, _, _, _ => none
 | n + 1, x6, x13, x14, x15, c2, c4p0, c4p1p0, c4p1p1, c4p1p2, c4p2p0, c4p2p1, c4p2p2 => l0s (l0 k Xt0 n) Xt0 x6 x13 x14 x15 c2 c4p0 c4p1p0 c4p1p1 c4p1p2 c4p2p0 c4p2p1 c4p2p2
theorem l0_eq (k : Nat) (Q : Ex -> St -> Option α) : ∀ (n : Nat) (x6 : Int) (x13 : D7) (x14 x15 : Int) (c2 : D8) (c4p0 c4p1p0 c4p1p1 : D4) (c4p1p2 : Int) (c4p2p0 c4p2p1 : D4) (c4p2p2 : Int), iter (rnd C k cd0 12 Q) n (St1 x6 x13 x14 x15 c2 c4p0 c4p1p0 c4p1p1 c4p1p2 c4p2p0 c4p2p1 c4p2p2) = l0 k (fun x6 c2 c4p0 c4p1p0 c4p1p1 c4p1p2 c4p2p0 c4p2p1 c4p2p2 => Q (.exit 0) (St3 x6 c2 c4p0 c4p1p0 c4p1p1 c4p1p2 c4p2p0 c4p2p1 c4p2p2)) n x6 x13 x14 x15 c2 c4p0 c4p1p0 c4p1p1 c4p1p2 c4p2p0 c4p2p1 c4p2p2
 | 0, _, _, _, _, _, _, _, _, _, _, _, _ => rfl
 | n + 1, x6, x13, x14, x15, c2, c4p0, c4p1p0, c4p1p1, c4p1p2, c4p2p0, c4p2p1, c4p2p2 => (iter_succ _ _ _).trans ((l0s_eq k _ Q x6 x13 x14 x15 c2 c4p0 c4p1p0 c4p1p1 c4p1p2 c4p2p0 c4p2p1 c4p2p2).trans (congrArg (fun N => l0s N (fun x6 c2 c4p0 c4p1p0 c4p1p1 c4p1p2 c4p2p0 c4p2p1 c4p2p2 => Q (.exit 0) (St3 x6 c2 c4p0 c4p1p0 c4p1p1 c4p1p2 c4p2p0 c4p2p1 c4p2p2)) x6 x13 x14 x15 c2 c4p0 c4p1p0 c4p1p1 c4p1p2 c4p2p0 c4p2p1 c4p2p2) (by funext; exact l0_eq k Q n _ _ _ _ _ _ _ _ _ _ _ _)))
noncomputable def cd2 : Code := cR (cR (cR (cR (cB Try.f16))))
def St4 (x6 : Int) (c2 : D8) (c4p0 c4p1p0 c4p1p1 : D4) (c4p1p2 : Int) (c4p2p0 c4p2p1 : D4) (c4p2p2 : Int) : St := stL 32 [(2, .ref 2 0 []), (4, .ref 4 0 []), (6, .data T1 x6)] [(2, .cell T22 (.data T22 c2) false), (4, .cell T22 (.agg T22 [.data T23 c4p0, .agg T7 [.data T5 c4p1p0, .data T5 c4p1p1, .data T1 c4p1p2, .full T8 [], .full T8 []], .agg T7 [.data T5 c4p2p0, .data T5 c4p2p1, .data T1 c4p2p2, .full T8 [], .full T8 []], .agg T21 [.full T18 [], .full T18 []], .full T2 [], .full T2 []]) false)]
def St5 (x5 : Int) (c4 : D8) : St := stL 32 [(4, .ref 4 0 []), (5, .data T1 x5)] [(4, .cell T22 (.data T22 c4) false)]
def j1 (Rt : Int -> D8 -> Option α) (x6 : Int) (c2 : D8) (c4p0 c4p1p0 c4p1p1 : D4) (c4p1p2 : Int) (c4p2p0 c4p2p1 : D4) (c4p2p2 : Int) : Option α :=
 Rt x6 c2
theorem j1_eq (k : Nat) (Q : Ex -> St -> Option α) (x6 : Int) (c2 : D8) (c4p0 c4p1p0 c4p1p1 : D4) (c4p1p2 : Int) (c4p2p0 c4p2p1 : D4) (c4p2p2 : Int) :
  (den C k) cd2 Q (St4 x6 c2 c4p0 c4p1p0 c4p1p1 c4p1p2 c4p2p0 c4p2p1 c4p2p2) = j1 (fun x5 c4 => Q .ret (St5 x5 c4)) x6 c2 c4p0 c4p1p0 c4p1p1 c4p1p2 c4p2p0 c4p2p1 c4p2p2 := plainly Js (by kernel_rfl)
theorem a0 (k : Nat) (Q : Ex -> St -> Option α) (x6 : Int) (x13 : D7) (x14 x15 : Int) (c2 : D8) (c4p0 c4p1p0 c4p1p1 : D4) (c4p1p2 : Int) (c4p2p0 c4p2p1 : D4) (c4p2p2 : Int) :
  (lp C k) cd0 (blkQ C 0 (sq (den C k) (lp C k) Js C cd2 Q)) (St1 x6 x13 x14 x15 c2 c4p0 c4p1p0 c4p1p1 c4p1p2 c4p2p0 c4p2p1 c4p2p2) = l0 k (fun x6 c2 c4p0 c4p1p0 c4p1p1 c4p1p2 c4p2p0 c4p2p1 c4p2p2 => j1 (fun x5 c4 => Q .ret (St5 x5 c4)) x6 c2 c4p0 c4p1p0 c4p1p1 c4p1p2 c4p2p0 c4p2p1 c4p2p2) k x6 x13 x14 x15 c2 c4p0 c4p1p0 c4p1p1 c4p1p2 c4p2p0 c4p2p1 c4p2p2 :=
 (lp_iter 12 (by kernel_rfl)).trans ((l0_eq k _ k x6 x13 x14 x15 c2 c4p0 c4p1p0 c4p1p1 c4p1p2 c4p2p0 c4p2p1 c4p2p2).trans (congrArg (fun X => l0 k X k x6 x13 x14 x15 c2 c4p0 c4p1p0 c4p1p1 c4p1p2 c4p2p0 c4p2p1 c4p2p2) (funext fun x6 => funext fun c2 => funext fun c4p0 => funext fun c4p1p0 => funext fun c4p1p1 => funext fun c4p1p2 => funext fun c4p2p0 => funext fun c4p2p1 => funext fun c4p2p2 => (Eq.trans (b := (den C k) cd2 Q (St4 x6 c2 c4p0 c4p1p0 c4p1p1 c4p1p2 c4p2p0 c4p2p1 c4p2p2)) (by kernel_rfl) (by simp only [j1_eq])))))
def top (k : Nat) (Rt : Int -> D8 -> Option α) (x0 : D8) (x1 : D7) : Option α :=
 (guard_fresh.run x0).bind fun y1 =>
 l0 k (fun x6 c2 c4p0 c4p1p0 c4p1p1 c4p1p2 c4p2p0 c4p2p1 c4p2p2 => j1 Rt x6 c2 c4p0 c4p1p0 c4p1p1 c4p1p2 c4p2p0 c4p2p1 c4p2p2) k 0 x1 (x1.length : Int) 0 y1 [0, 0, 0, 0] [0, 0, 0] [0, 0, 0] 0 [0, 0, 0] [0, 0, 0] 0
theorem top_eq (k : Nat) (Q : Ex -> St -> Option α) (x0 : D8) (x1 : D7) :
  (den C k) (cB Try.f16) Q (St0 x0 x1) = top k (fun x5 c4 => Q .ret (St5 x5 c4)) x0 x1 := by
 have h : ∀ (D L : DT α), denJ D L Js C (cB Try.f16) Q (St0 x0 x1) =
    (guard_fresh.run x0).bind fun y1 =>
    L cd0 (blkQ C 0 (sq D L Js C cd2 Q)) (St1 0 x1 (x1.length : Int) 0 y1 [0, 0, 0, 0] [0, 0, 0] [0, 0, 0] 0 [0, 0, 0] [0, 0, 0] 0) := by
  intro D L; kernel_rfl
 have h2 := via (k := k) h
 refine h2.trans ?_
 simp only [a0]
 first | rfl | kernel_rfl
def run (x0 : D8) (x1 : D7) : Option D11 := top (α := D8 × Int × Unit) fuel (fun x5 c4 => some (c4, x5, ())) x0 x1
def F : Fn := ⟨T117, T30, true, fun x => run x.1 x.2.1⟩
theorem con : Con Try.prog 16 F /\ Named Try.prog 16 :=
 con_of2 (C := C) (ctx_ok (by kernel_rfl) (by kernel_rfl) (by kernel_rfl) (by kernel_rfl) ⟨.inl guard_fresh.con, ⟨.inl guard_meet.con, trivial⟩⟩) (by kernel_rfl) Try.func16 (by kernel_rfl) (c := cB Try.f16) (by kernel_rfl) (by kernel_rfl) F (fun x => by simp [F, spread, Try.ntmps16]) (fun x => (St0 x.1 x.2.1)) (fun x => by kernel_rfl) fun x => (top_eq fuel _ x.1 x.2.1).trans (by kernel_rfl)
end Go.Bx.guard_See
namespace Go.Bx.basculeref_Saw
def Js : List Nat := [9, 12, 13]
def C : Ctx := ⟨[(3, T1), (32, T19), (34, T22), (40, T2)], [], [], fnL [(25, basculeref_logged.F), (57, basculeref_meets.F), (58, basculeref_bodyText.F)], noSh, [], invL [], [(2, [4, 5]), (1, [2, 4, 6]), (4, [2, 4, 6, 11, 12, 13]), (9, [2, 4, 6, 11, 12, 13]), (24, [2, 4, 6, 9, 10, 11, 12, 13]), (33, [2, 4, 6, 11, 12, 13]), (36, [2, 4, 6])], [], [], 0, 0⟩
def St0 (x0 : D8) (x1 : D7) : St := stL 39 [(0, .data T22 x0), (1, .data T19 x1)] []
def St1 (x6 : Int) (x11 : D7) (x12 x13 : Int) (c2 : D8) (c4p0 c4p1p0 c4p1p1 : D4) (c4p1p2 : Int) (c4p2p0 c4p2p1 : D4) (c4p2p2 : Int) : St := stL 39 [(2, .ref 2 0 []), (4, .ref 4 0 []), (6, .data T1 x6), (11, .data T19 x11), (12, .data T1 x12), (13, .data T1 x13)] [(2, .cell T22 (.data T22 c2) false), (4, .cell T22 (.agg T22 [.data T23 c4p0, .agg T7 [.data T5 c4p1p0, .data T5 c4p1p1, .data T1 c4p1p2, .full T8 [], .full T8 []], .agg T7 [.data T5 c4p2p0, .data T5 c4p2p1, .data T1 c4p2p2, .full T8 [], .full T8 []], .agg T21 [.full T18 [], .full T18 []], .full T2 [], .full T2 []]) false)]
noncomputable def cd0 : Code := cL (cL (cR (cL (cR (cR (cB Try.f17))))))
def St2 (x6 : Int) (x10 : Bool) (x11 : D7) (x12 x13 : Int) (c2 : D8) (c4p0 c4p1p0 c4p1p1 : D4) (c4p1p2 : Int) (c4p2p0 c4p2p1 : D4) (c4p2p2 : Int) (c9 : D8) : St := stL 39 [(2, .ref 2 0 []), (4, .ref 4 0 []), (6, .data T1 x6), (9, .ref 9 0 []), (10, .data .bool x10), (11, .data T19 x11), (12, .data T1 x12), (13, .data T1 x13)] [(2, .cell T22 (.data T22 c2) false), (4, .cell T22 (.agg T22 [.data T23 c4p0, .agg T7 [.data T5 c4p1p0, .data T5 c4p1p1, .data T1 c4p1p2, .full T8 [], .full T8 []], .agg T7 [.data T5 c4p2p0, .data T5 c4p2p1, .data T1 c4p2p2, .full T8 [], .full T8 []], .agg T21 [.full T18 [], .full T18 []], .full T2 [], .full T2 []]) false), (9, .cell T22 (.data T22 c9) false)]
noncomputable def cd1 : Code := cR (cR (cR (cL (cL (cR (cL (cR (cR (cB Try.f17)))))))))
noncomputable def cd2 : Code := cR (cR (cR (cL (cL (cR (cR (cL (cL (cR (cL (cR (cR (cB Try.f17)))))))))))))
def St3 (x6 : Int) (x11 : D7) (x12 x13 : Int) (c2 : D8) (c4p0 c4p1p0 c4p1p1 : D4) (c4p1p2 : Int) (c4p2p0 c4p2p1 : D4) (c4p2p2 : Int) : St := stL 39 [(2, .ref 2 0 []), (4, .ref 4 0 []), (6, .data T1 x6), (11, .data T19 x11), (12, .data T1 x12), (13, .data T1 x13)] [(2, .cell T22 (.data T22 c2) false), (4, .cell T22 (.agg T22 [.data T23 c4p0, .agg T7 [.data T5 c4p1p0, .data T5 c4p1p1, .data T1 c4p1p2, .full T8 [], .full T8 []], .agg T7 [.data T5 c4p2p0, .data T5 c4p2p1, .data T1 c4p2p2, .full T8 [], .full T8 []], .agg T21 [.full T18 [], .full T18 []], .full T2 [], .full T2 []]) false)]
def j1 (Nx : Int -> D7 -> Int -> Int -> D8 -> D4 -> D4 -> D4 -> Int -> D4 -> D4 -> Int -> Option α) (x6 : Int) (x11 : D7) (x12 x13 : Int) (c2 : D8) (c4p0 c4p1p0 c4p1p1 : D4) (c4p1p2 : Int) (c4p2p0 c4p2p1 : D4) (c4p2p2 : Int) : Option α :=
 Nx x6 x11 x12 (IntKind.i64.wrap (x13 + 1)) c2 c4p0 c4p1p0 c4p1p1 c4p1p2 c4p2p0 c4p2p1 c4p2p2
theorem j1_eq (k : Nat) (next : St -> Option α) (Q : Ex -> St -> Option α) (x6 : Int) (x11 : D7) (x12 x13 : Int) (c2 : D8) (c4p0 c4p1p0 c4p1p1 : D4) (c4p1p2 : Int) (c4p2p0 c4p2p1 : D4) (c4p2p2 : Int) :
  (den C k) cd1 (lq C 9 next Q) (St3 x6 x11 x12 x13 c2 c4p0 c4p1p0 c4p1p1 c4p1p2 c4p2p0 c4p2p1 c4p2p2) = j1 (fun x6 x11 x12 x13 c2 c4p0 c4p1p0 c4p1p1 c4p1p2 c4p2p0 c4p2p1 c4p2p2 => next (St1 x6 x11 x12 x13 c2 c4p0 c4p1p0 c4p1p1 c4p1p2 c4p2p0 c4p2p1 c4p2p2)) x6 x11 x12 x13 c2 c4p0 c4p1p0 c4p1p1 c4p1p2 c4p2p0 c4p2p1 c4p2p2 := plainly Js (by kernel_rfl)
def j0 (Nx : Int -> D7 -> Int -> Int -> D8 -> D4 -> D4 -> D4 -> Int -> D4 -> D4 -> Int -> Option α) (x6 : Int) (x10 : Bool) (x11 : D7) (x12 x13 : Int) (c2 : D8) (c4p0 c4p1p0 c4p1p1 : D4) (c4p1p2 : Int) (c4p2p0 c4p2p1 : D4) (c4p2p2 : Int) (c9 : D8) : Option α :=
 if x10 = true then
  j1 Nx (IntKind.i64.wrap (x6 + 1)) x11 x12 x13 c9 c4p0 c4p1p0 c4p1p1 c4p1p2 c4p2p0 c4p2p1 c4p2p2
 else
  j1 Nx x6 x11 x12 x13 c2 c4p0 c4p1p0 c4p1p1 c4p1p2 c4p2p0 c4p2p1 c4p2p2
theorem j0_eq (k : Nat) (next : St -> Option α) (Q : Ex -> St -> Option α) (x6 : Int) (x10 : Bool) (x11 : D7) (x12 x13 : Int) (c2 : D8) (c4p0 c4p1p0 c4p1p1 : D4) (c4p1p2 : Int) (c4p2p0 c4p2p1 : D4) (c4p2p2 : Int) (c9 : D8) :
  (den C k) cd2 (blkQ C 1 (sq (den C k) (lp C k) Js C cd1 (lq C 9 next Q))) (St2 x6 x10 x11 x12 x13 c2 c4p0 c4p1p0 c4p1p1 c4p1p2 c4p2p0 c4p2p1 c4p2p2 c9) = j0 (fun x6 x11 x12 x13 c2 c4p0 c4p1p0 c4p1p1 c4p1p2 c4p2p0 c4p2p1 c4p2p2 => next (St1 x6 x11 x12 x13 c2 c4p0 c4p1p0 c4p1p1 c4p1p2 c4p2p0 c4p2p1 c4p2p2)) x6 x10 x11 x12 x13 c2 c4p0 c4p1p0 c4p1p1 c4p1p2 c4p2p0 c4p2p1 c4p2p2 c9 := by
 have h : ∀ (D L : DT α), denJ D L Js C cd2 (blkQ C 1 (sq D L Js C cd1 (lq C 9 next Q))) (St2 x6 x10 x11 x12 x13 c2 c4p0 c4p1p0 c4p1p1 c4p1p2 c4p2p0 c4p2p1 c4p2p2 c9) =
    if x10 = true then
     D cd1 (lq C 9 next Q) (St3 (IntKind.i64.wrap (x6 + 1)) x11 x12 x13 c9 c4p0 c4p1p0 c4p1p1 c4p1p2 c4p2p0 c4p2p1 c4p2p2)
    else
     D cd1 (lq C 9 next Q) (St3 x6 x11 x12 x13 c2 c4p0 c4p1p0 c4p1p1 c4p1p2 c4p2p0 c4p2p1 c4p2p2) := by
  intro D L; kernel_rfl
 have h2 := via (k := k) h
 refine h2.trans ?_
 simp only [j1_eq]
 first | rfl | kernel_rfl
def St4 (x6 : Int) (c2 : D8) (c4p0 c4p1p0 c4p1p1 : D4) (c4p1p2 : Int) (c4p2p0 c4p2p1 : D4) (c4p2p2 : Int) : St := stL 39 [(2, .ref 2 0 []), (4, .ref 4 0 []), (6, .data T1 x6)] [(2, .cell T22 (.data T22 c2) false), (4, .cell T22 (.agg T22 [.data T23 c4p0, .agg T7 [.data T5 c4p1p0, .data T5 c4p1p1, .data T1 c4p1p2, .full T8 [], .full T8 []], .agg T7 [.data T5 c4p2p0, .data T5 c4p2p1, .data T1 c4p2p2, .full T8 [], .full T8 []], .agg T21 [.full T18 [], .full T18 []], .full T2 [], .full T2 []]) false)]
def l0s (Nx : Int -> D7 -> Int -> Int -> D8 -> D4 -> D4 -> D4 -> Int -> D4 -> D4 -> Int -> Option α) (Xt0 : Int -> D8 -> D4 -> D4 -> D4 -> Int -> D4 -> D4 -> Int -> Option α) (x6 : Int) (x11 : D7) (x12 x13 : Int) (c2 : D8) (c4p0 c4p1p0 c4p1p1 : D4) (c4p1p2 : Int) (c4p2p0 c4p2p1 : D4) (c4p2p2 : Int) : Option α :=
 if (decide (x13 < x12)) = true then
  if 0 <= x13 /\ x13 < (x11.length : Int) then
   (basculeref_meets.run c2 (List.getD x11 (Int.toNat x13) (0, 0, 0, (List.replicate 32 0), 0, 0, [], ()))).bind fun y1 =>
   if y1.2.1 = true then
    (basculeref_bodyText.run (List.getD x11 (Int.toNat x13) (0, 0, 0, (List.replicate 32 0), 0, 0, [], ()))).bind fun y2 =>
    if Nat.ble (1 + y2.length) 9223372036854775807 = true then
     (basculeref_logged.run y1.1 ([1] ++ y2)).bind fun y3 =>
     j0 Nx x6 y3.2.1 x11 x12 x13 c2 c4p0 c4p1p0 c4p1p1 c4p1p2 c4p2p0 c4p2p1 c4p2p2 y3.1
    else none
   else
    j0 Nx x6 y1.2.1 x11 x12 x13 c2 c4p0 c4p1p0 c4p1p1 c4p1p2 c4p2p0 c4p2p1 c4p2p2 y1.1
  else none
 else
  Xt0 x6 c2 c4p0 c4p1p0 c4p1p1 c4p1p2 c4p2p0 c4p2p1 c4p2p2
theorem l0s_eq (k : Nat) (next : St -> Option α) (Q : Ex -> St -> Option α) (x6 : Int) (x11 : D7) (x12 x13 : Int) (c2 : D8) (c4p0 c4p1p0 c4p1p1 : D4) (c4p1p2 : Int) (c4p2p0 c4p2p1 : D4) (c4p2p2 : Int) :
  rnd C k cd0 9 Q next (St1 x6 x11 x12 x13 c2 c4p0 c4p1p0 c4p1p1 c4p1p2 c4p2p0 c4p2p1 c4p2p2) = l0s (fun x6 x11 x12 x13 c2 c4p0 c4p1p0 c4p1p1 c4p1p2 c4p2p0 c4p2p1 c4p2p2 => next (St1 x6 x11 x12 x13 c2 c4p0 c4p1p0 c4p1p1 c4p1p2 c4p2p0 c4p2p1 c4p2p2)) (fun x6 c2 c4p0 c4p1p0 c4p1p1 c4p1p2 c4p2p0 c4p2p1 c4p2p2 => Q (.exit 0) (St4 x6 c2 c4p0 c4p1p0 c4p1p1 c4p1p2 c4p2p0 c4p2p1 c4p2p2)) x6 x11 x12 x13 c2 c4p0 c4p1p0 c4p1p1 c4p1p2 c4p2p0 c4p2p1 c4p2p2 := by
 have h : ∀ (D L : DT α), denJ D L Js C cd0 (lq C 9 next Q) (St1 x6 x11 x12 x13 c2 c4p0 c4p1p0 c4p1p1 c4p1p2 c4p2p0 c4p2p1 c4p2p2) =
    if (decide (x13 < x12)) = true then
     if 0 <= x13 /\ x13 < (x11.length : Int) then
      (basculeref_meets.run c2 (List.getD x11 (Int.toNat x13) (0, 0, 0, (List.replicate 32 0), 0, 0, [], ()))).bind fun y1 =>
      if y1.2.1 = true then
       (basculeref_bodyText.run (List.getD x11 (Int.toNat x13) (0, 0, 0, (List.replicate 32 0), 0, 0, [], ()))).bind fun y2 =>
       if Nat.ble (1 + y2.length) 9223372036854775807 = true then
        (basculeref_logged.run y1.1 ([1] ++ y2)).bind fun y3 =>
        D cd2 (blkQ C 1 (sq D L Js C cd1 (lq C 9 next Q))) (St2 x6 y3.2.1 x11 x12 x13 c2 c4p0 c4p1p0 c4p1p1 c4p1p2 c4p2p0 c4p2p1 c4p2p2 y3.1)
       else none
      else
       D cd2 (blkQ C 1 (sq D L Js C cd1 (lq C 9 next Q))) (St2 x6 y1.2.1 x11 x12 x13 c2 c4p0 c4p1p0 c4p1p1 c4p1p2 c4p2p0 c4p2p1 c4p2p2 y1.1)
     else none
    else
     Q (.exit 0) (St4 x6 c2 c4p0 c4p1p0 c4p1p1 c4p1p2 c4p2p0 c4p2p1 c4p2p2) := by
  intro D L; kernel_rfl
 have h2 := via (k := k) h
 refine h2.trans ?_
 simp only [j0_eq]
 first | rfl | kernel_rfl
def l0 (k : Nat) (Xt0 : Int -> D8 -> D4 -> D4 -> D4 -> Int -> D4 -> D4 -> Int -> Option α) : Nat -> Int -> D7 -> Int -> Int -> D8 -> D4 -> D4 -> D4 -> Int -> D4 -> D4 -> Int -> Option α
 | 0, _, _, _, _, _, _, _, _, _, _, _, _ => none
 | n + 1, x6, x11, x12, x13, c2, c4p0, c4p1p0, c4p1p1, c4p1p2, c4p2p0, c4p2p1, c4p2p2 => l0s (l0 k Xt0 n) Xt0 x6 x11 x12 x13 c2 c4p0 c4p1p0 c4p1p1 c4p1p2 c4p2p0 c4p2p1 c4p2p2
theorem l0_eq (k : Nat) (Q : Ex -> St -> Option α) : ∀ (n : Nat) (x6 : Int) (x11 : D7) (x12 x13 : Int) (c2 : D8) (c4p0 c4p1p0 c4p1p1 : D4) (c4p1p2 : Int) (c4p2p0 c4p2p1 : D4) (c4p2p2 : Int), iter (rnd C k cd0 9 Q) n (St1 x6 x11 x12 x13 c2 c4p0 c4p1p0 c4p1p1 c4p1p2 c4p2p0 c4p2p1 c4p2p2) = l0 k (fun x6 c2 c4p0 c4p1p0 c4p1p1 c4p1p2 c4p2p0 c4p2p1 c4p2p2 => Q (.exit 0) (St4 x6 c2 c4p0 c4p1p0 c4p1p1 c4p1p2 c4p2p0 c4p2p1 c4p2p2)) n x6 x11 x12 x13 c2 c4p0 c4p1p0 c4p1p1 c4p1p2 c4p2p0 c4p2p1 c4p2p2
 | 0, _, _, _, _, _, _, _, _, _, _, _, _ => rfl
 | n + 1, x6, x11, x12, x13, c2, c4p0, c4p1p0, c4p1p1, c4p1p2, c4p2p0, c4p2p1, c4p2p2 => (iter_succ _ _ _).trans ((l0s_eq k _ Q x6 x11 x12 x13 c2 c4p0 c4p1p0 c4p1p1 c4p1p2 c4p2p0 c4p2p1 c4p2p2).trans (congrArg (fun N => l0s N (fun x6 c2 c4p0 c4p1p0 c4p1p1 c4p1p2 c4p2p0 c4p2p1 c4p2p2 => Q (.exit 0) (St4 x6 c2 c4p0 c4p1p0 c4p1p1 c4p1p2 c4p2p0 c4p2p1 c4p2p2)) x6 x11 x12 x13 c2 c4p0 c4p1p0 c4p1p1 c4p1p2 c4p2p0 c4p2p1 c4p2p2) (by funext; exact l0_eq k Q n _ _ _ _ _ _ _ _ _ _ _ _)))
noncomputable def cd3 : Code := cR (cR (cR (cB Try.f17)))
def St5 (x6 : Int) (c2 : D8) (c4p0 c4p1p0 c4p1p1 : D4) (c4p1p2 : Int) (c4p2p0 c4p2p1 : D4) (c4p2p2 : Int) : St := stL 39 [(2, .ref 2 0 []), (4, .ref 4 0 []), (6, .data T1 x6)] [(2, .cell T22 (.data T22 c2) false), (4, .cell T22 (.agg T22 [.data T23 c4p0, .agg T7 [.data T5 c4p1p0, .data T5 c4p1p1, .data T1 c4p1p2, .full T8 [], .full T8 []], .agg T7 [.data T5 c4p2p0, .data T5 c4p2p1, .data T1 c4p2p2, .full T8 [], .full T8 []], .agg T21 [.full T18 [], .full T18 []], .full T2 [], .full T2 []]) false)]
def St6 (x5 : Int) (c4 : D8) : St := stL 39 [(4, .ref 4 0 []), (5, .data T1 x5)] [(4, .cell T22 (.data T22 c4) false)]
def j2 (Rt : Int -> D8 -> Option α) (x6 : Int) (c2 : D8) (c4p0 c4p1p0 c4p1p1 : D4) (c4p1p2 : Int) (c4p2p0 c4p2p1 : D4) (c4p2p2 : Int) : Option α :=
 Rt x6 c2
theorem j2_eq (k : Nat) (Q : Ex -> St -> Option α) (x6 : Int) (c2 : D8) (c4p0 c4p1p0 c4p1p1 : D4) (c4p1p2 : Int) (c4p2p0 c4p2p1 : D4) (c4p2p2 : Int) :
  (den C k) cd3 Q (St5 x6 c2 c4p0 c4p1p0 c4p1p1 c4p1p2 c4p2p0 c4p2p1 c4p2p2) = j2 (fun x5 c4 => Q .ret (St6 x5 c4)) x6 c2 c4p0 c4p1p0 c4p1p1 c4p1p2 c4p2p0 c4p2p1 c4p2p2 := plainly Js (by kernel_rfl)
theorem a0 (k : Nat) (Q : Ex -> St -> Option α) (x6 : Int) (x11 : D7) (x12 x13 : Int) (c2 : D8) (c4p0 c4p1p0 c4p1p1 : D4) (c4p1p2 : Int) (c4p2p0 c4p2p1 : D4) (c4p2p2 : Int) :
  (lp C k) cd0 (blkQ C 0 (sq (den C k) (lp C k) Js C cd3 Q)) (St1 x6 x11 x12 x13 c2 c4p0 c4p1p0 c4p1p1 c4p1p2 c4p2p0 c4p2p1 c4p2p2) = l0 k (fun x6 c2 c4p0 c4p1p0 c4p1p1 c4p1p2 c4p2p0 c4p2p1 c4p2p2 => j2 (fun x5 c4 => Q .ret (St6 x5 c4)) x6 c2 c4p0 c4p1p0 c4p1p1 c4p1p2 c4p2p0 c4p2p1 c4p2p2) k x6 x11 x12 x13 c2 c4p0 c4p1p0 c4p1p1 c4p1p2 c4p2p0 c4p2p1 c4p2p2 :=
 (lp_iter 9 (by kernel_rfl)).trans ((l0_eq k _ k x6 x11 x12 x13 c2 c4p0 c4p1p0 c4p1p1 c4p1p2 c4p2p0 c4p2p1 c4p2p2).trans (congrArg (fun X => l0 k X k x6 x11 x12 x13 c2 c4p0 c4p1p0 c4p1p1 c4p1p2 c4p2p0 c4p2p1 c4p2p2) (funext fun x6 => funext fun c2 => funext fun c4p0 => funext fun c4p1p0 => funext fun c4p1p1 => funext fun c4p1p2 => funext fun c4p2p0 => funext fun c4p2p1 => funext fun c4p2p2 => (Eq.trans (b := (den C k) cd3 Q (St5 x6 c2 c4p0 c4p1p0 c4p1p1 c4p1p2 c4p2p0 c4p2p1 c4p2p2)) (by kernel_rfl) (by simp only [j2_eq])))))
def top (k : Nat) (Rt : Int -> D8 -> Option α) (x0 : D8) (x1 : D7) : Option α :=
 l0 k (fun x6 c2 c4p0 c4p1p0 c4p1p1 c4p1p2 c4p2p0 c4p2p1 c4p2p2 => j2 Rt x6 c2 c4p0 c4p1p0 c4p1p1 c4p1p2 c4p2p0 c4p2p1 c4p2p2) k 0 x1 (x1.length : Int) 0 x0 [0, 0, 0, 0] [0, 0, 0] [0, 0, 0] 0 [0, 0, 0] [0, 0, 0] 0
theorem top_eq (k : Nat) (Q : Ex -> St -> Option α) (x0 : D8) (x1 : D7) :
  (den C k) (cB Try.f17) Q (St0 x0 x1) = top k (fun x5 c4 => Q .ret (St6 x5 c4)) x0 x1 := by
 have h : ∀ (D L : DT α), denJ D L Js C (cB Try.f17) Q (St0 x0 x1) =
    L cd0 (blkQ C 0 (sq D L Js C cd3 Q)) (St1 0 x1 (x1.length : Int) 0 x0 [0, 0, 0, 0] [0, 0, 0] [0, 0, 0] 0 [0, 0, 0] [0, 0, 0] 0) := by
  intro D L; kernel_rfl
 have h2 := via (k := k) h
 refine h2.trans ?_
 simp only [a0]
 first | rfl | kernel_rfl
def run (x0 : D8) (x1 : D7) : Option D11 := top (α := D8 × Int × Unit) fuel (fun x5 c4 => some (c4, x5, ())) x0 x1
def F : Fn := ⟨T117, T30, true, fun x => run x.1 x.2.1⟩
theorem con : Con Try.prog 17 F /\ Named Try.prog 17 :=
 con_of2 (C := C) (ctx_ok (by kernel_rfl) (by kernel_rfl) (by kernel_rfl) (by kernel_rfl) ⟨.inl basculeref_logged.con, ⟨.inl basculeref_meets.con, ⟨.inl basculeref_bodyText.con, trivial⟩⟩⟩) (by kernel_rfl) Try.func17 (by kernel_rfl) (c := cB Try.f17) (by kernel_rfl) (by kernel_rfl) F (fun x => by simp [F, spread, Try.ntmps17]) (fun x => (St0 x.1 x.2.1)) (fun x => by kernel_rfl) fun x => (top_eq fuel _ x.1 x.2.1).trans (by kernel_rfl)
end Go.Bx.basculeref_Saw
namespace Go.Bx.basculelaw_GuardSees
def Js : List Nat := []
def C : Ctx := ⟨[(4, .bool), (32, T19), (34, T22)], [], [], fnL [(11, basculelaw_sameGuard.F), (16, guard_See.F), (17, basculeref_Saw.F)], noSh, [], invL [], [(2, [4])], [], [], 0, 0⟩
def St0 (x0 : D8) (x1 : D7) : St := stL 29 [(0, .data T22 x0), (1, .data T19 x1)] []
def St1 (x4 : Bool) : St := stL 29 [(4, .data .bool x4)] []
def top (Rt : Bool -> Option α) (x0 : D8) (x1 : D7) : Option α :=
 (guard_See.run x0 x1).bind fun y1 =>
 (basculeref_Saw.run x0 x1).bind fun y2 =>
 (basculelaw_sameGuard.run y1.1 y2.1).bind fun y3 =>
 Rt (cond y3 (y1.2.1 == y2.2.1) false)
theorem top_eq (k : Nat) (Q : Ex -> St -> Option α) (x0 : D8) (x1 : D7) :
  (den C k) (cB Try.f6) Q (St0 x0 x1) = top (fun x4 => Q .ret (St1 x4)) x0 x1 := plainly Js (by kernel_rfl)
def run (x0 : D8) (x1 : D7) : Option (Bool) := top (α := Bool) (fun x4 => some x4) x0 x1
def F : Fn := ⟨T117, .bool, false, fun x => run x.1 x.2.1⟩
theorem con : Con Try.prog 6 F /\ Named Try.prog 6 :=
 con_of2 (C := C) (ctx_ok (by kernel_rfl) (by kernel_rfl) (by kernel_rfl) (by kernel_rfl) ⟨.inl basculelaw_sameGuard.con, ⟨.inl guard_See.con, ⟨.inl basculeref_Saw.con, trivial⟩⟩⟩) (by kernel_rfl) Try.func6 (by kernel_rfl) (c := cB Try.f6) (by kernel_rfl) (by kernel_rfl) F (fun x => by simp [F, spread, Try.ntmps6]) (fun x => (St0 x.1 x.2.1)) (fun x => by kernel_rfl) fun x => (top_eq fuel _ x.1 x.2.1).trans (by kernel_rfl)
end Go.Bx.basculelaw_GuardSees
