/- Go functions of this seat in their own words of Lean, each tied to its code by a contract. -/
import Derived.Test.YtbkkahkikjifkaaGBase
import Derived.Test.YtbkkahkikjifkaaFnSignRecovers0
open Go Go.Proofs Go.Bx
set_option maxRecDepth 100000
set_option linter.unusedVariables false
namespace Go.Bx.curve_fault
def Js : List Nat := [11]
def C : Ctx := ⟨[(35, T1), (45, T56), (47, T53), (191, T70)], [], [], fnL [(45, curve_Check.F), (82, curve_on.F)], noSh, [], invL [], [(2, [4]), (1, []), (4, [2, 13, 14, 15]), (15, [2, 13, 14, 15]), (30, [])], [], [], 0, 0⟩
def St0 (x0 : D21) (x1 : D26) : St := stL 24 [(0, .data T53 x0), (1, .data T70 x1)] []
def St1 (x4 : Int) : St := stL 24 [(4, .data T1 x4)] []
def St2 (x13 : D26) (x14 x15 : Int) (c2 : D21) : St := stL 24 [(2, .ref 2 0 []), (13, .data T70 x13), (14, .data T1 x14), (15, .data T1 x15)] [(2, .cell T53 (.data T53 c2) false)]
noncomputable def cd0 : Code := cL (cL (cR (cL (cR (cR (cB Try.f141))))))
def St3 : St := stL 24 [] []
def l0s {α : Type} (Nx : D26 -> Int -> Int -> D21 -> Option α) (Rt : Int -> Option α) (Xt0 : Option α) (x13 : D26) (x14 x15 : Int) (c2 : D21) : Option α :=
 if (decide (x15 < x14)) = true then
  if 0 <= x15 /\ x15 < (x13.length : Int) then
   (curve_on.run c2 (List.getD x13 (Int.toNat x15) ([0, 0, 0, 0], [0, 0, 0, 0], false, ()))).bind fun y2 =>
   if (not y2) = true then
    Rt 16
   else
    Nx x13 x14 (IntKind.i64.wrap (x15 + 1)) c2
  else none
 else
  Xt0
theorem l0s_eq {α : Type} (k : Nat) (next : St -> Option α) (Q : Ex -> St -> Option α) (x13 : D26) (x14 x15 : Int) (c2 : D21) :
  rnd C k cd0 15 Q next (St2 x13 x14 x15 c2) = l0s (fun x13 x14 x15 c2 => next (St2 x13 x14 x15 c2)) (fun x4 => Q .ret (St1 x4)) (Q (.exit 0) St3) x13 x14 x15 c2 := by
 have h : ∀ (D L : DT α), denJ D L Js C cd0 (lq C 15 next Q) (St2 x13 x14 x15 c2) = l0s (fun x13 x14 x15 c2 => next (St2 x13 x14 x15 c2)) (fun x4 => Q .ret (St1 x4)) (Q (.exit 0) St3) x13 x14 x15 c2 := by
  intro D L; kernel_rfl
 have h2 := via (k := k) h
 exact h2
def l0 {α : Type} (k : Nat) (Rt : Int -> Option α) (Xt0 : Option α) : Nat -> D26 -> Int -> Int -> D21 -> Option α
 | 0, _, _, _, _ => none
 | n + 1, x13, x14, x15, c2 => l0s (l0 k Rt Xt0 n) Rt Xt0 x13 x14 x15 c2
theorem l0_eq {α : Type} (k : Nat) (Q : Ex -> St -> Option α) : ∀ (n : Nat) (x13 : D26) (x14 x15 : Int) (c2 : D21), iter (rnd C k cd0 15 Q) n (St2 x13 x14 x15 c2) = l0 k (fun x4 => Q .ret (St1 x4)) (Q (.exit 0) St3) n x13 x14 x15 c2
 | 0, _, _, _, _ => rfl
 | n + 1, x13, x14, x15, c2 => (iter_succ _ _ _).trans ((l0s_eq k _ Q x13 x14 x15 c2).trans (congrArg (fun N => l0s N (fun x4 => Q .ret (St1 x4)) (Q (.exit 0) St3) x13 x14 x15 c2) (by funext; exact l0_eq k Q n _ _ _ _)))
theorem l0_congr {α : Type} (k : Nat) (Rt : Int -> Option α) (Xt0 : Option α) (Rtq : Int -> Option α) (Xt0q : Option α) (hRt : ∀ (x4 : Int), Rt x4 = Rtq x4) (hXt0 : Xt0 = Xt0q) (n : Nat) (x13 : D26) (x14 x15 : Int) (c2 : D21) : l0 k Rt Xt0 n x13 x14 x15 c2 = l0 k Rtq Xt0q n x13 x14 x15 c2 := by
 obtain rfl : Rt = Rtq := by funext x4; exact hRt x4
 obtain rfl : Xt0 = Xt0q := hXt0
 rfl
noncomputable def cd1 : Code := cR (cR (cR (cB Try.f141)))
def St4 : St := stL 24 [] []
def j0 {α : Type} (Rt : Int -> Option α) : Option α :=
 Rt 0
theorem j0_eq {α : Type} (k : Nat) (Q : Ex -> St -> Option α) :
  (den C k) cd1 Q St4 = j0 (fun x4 => Q .ret (St1 x4)) := by
 have h : ∀ (D L : DT α), denJ D L Js C cd1 Q St4 = j0 (fun x4 => Q .ret (St1 x4)) := by
  intro D L; kernel_rfl
 have h2 := via (k := k) h
 exact h2
theorem a0 {α : Type} (k : Nat) (Q : Ex -> St -> Option α) (x13 : D26) (x14 x15 : Int) (c2 : D21) :
  (lp C k) cd0 (blkQ C 0 (sq (den C k) (lp C k) Js C cd1 Q)) (St2 x13 x14 x15 c2) = l0 k (fun x4 => (fun x4 => Q .ret (St1 x4)) x4) (j0 (fun x4 => Q .ret (St1 x4))) k x13 x14 x15 c2 :=
 (lp_iter 15 (by kernel_rfl)).trans ((l0_eq k _ k x13 x14 x15 c2).trans (l0_congr k _ _ _ _ (fun x4 => (by kernel_rfl)) (Eq.trans (b := (den C k) cd1 Q St4) (by kernel_rfl) (by simp only [j0_eq])) k x13 x14 x15 c2))
def top {α : Type} (k : Nat) (Rt : Int -> Option α) (x0 : D21) (x1 : D26) : Option α :=
 (curve_Check.run x0).bind fun y1 =>
 if (y1 != 0) = true then
  Rt y1
 else
  l0 k (fun x4 => Rt x4) (j0 Rt) k x1 (x1.length : Int) 0 x0
theorem top_eq {α : Type} (k : Nat) (Q : Ex -> St -> Option α) (x0 : D21) (x1 : D26) :
  (den C k) (cB Try.f141) Q (St0 x0 x1) = top k (fun x4 => Q .ret (St1 x4)) x0 x1 := by
 have h : ∀ (D L : DT α), denJ D L Js C (cB Try.f141) Q (St0 x0 x1) =
    (curve_Check.run x0).bind fun y1 =>
    if (y1 != 0) = true then
     Q .ret (St1 y1)
    else
     L cd0 (blkQ C 0 (sq D L Js C cd1 Q)) (St2 x1 (x1.length : Int) 0 x0) := by
  intro D L; kernel_rfl
 have h2 := via (k := k) h
 refine h2.trans ?_
 simp only [a0]
 first | rfl | kernel_rfl
def run (x0 : D21) (x1 : D26) : Option (Int) := top (α := Int) fuel (fun x4 => some x4) x0 x1
def F : Fn := ⟨T71, T1, false, fun x => run x.1 x.2.1⟩
theorem con : Con Try.prog 141 F :=
 con_of (C := C) (ctx_ok (by kernel_rfl) (by kernel_rfl) (by kernel_rfl) (by kernel_rfl) ⟨.inl ⟨curve_Check.con, curve_Check.named⟩, ⟨.inl ⟨curve_on.con, curve_on.named⟩, trivial⟩⟩) (by kernel_rfl) Try.func141 (c := cB Try.f141) (by kernel_rfl) (by kernel_rfl) F (fun x => by simp [F, spread, Try.ntmps141]) (fun x => (St0 x.1 x.2.1)) (fun x => by kernel_rfl) fun x => (top_eq fuel _ x.1 x.2.1).trans (by kernel_rfl)
theorem named : Named Try.prog 141 := named_of Try.func141 (by kernel_rfl) (by kernel_rfl)
end Go.Bx.curve_fault
namespace Go.Bx.curve_Mult
def Js : List Nat := [8, 12]
def C : Ctx := ⟨[(22, T34), (24, T23), (35, T1), (45, T56), (47, T53), (191, T70)], [], [], fnL [(141, curve_fault.F), (142, curve_add.F)], noSh, [], invL [], [(2, [6, 7]), (1, [6, 9, 10]), (4, [3, 4, 5, 6, 9, 10, 11]), (18, [3, 4, 5, 6, 9, 10, 11]), (21, [3, 4, 5, 6, 9, 10, 11]), (33, [6, 9, 10])], [], [], 0, 0⟩
def St0 (x0 : D21) (x1 : D4) (x2 : D22) : St := stL 58 [(0, .data T53 x0), (1, .data T23 x1), (2, .data T56 x2)] []
def St1 (x7 : Int) (c6 : D22) : St := stL 58 [(6, .ref 6 0 []), (7, .data T1 x7)] [(6, .cell T56 (.data T56 c6) false)]
def St2 (x10 : Bool) (x11 : Int) (c3 : D21) (c4 : D4) (c5 c6 c9 : D22) : St := stL 58 [(3, .ref 3 0 []), (4, .ref 4 0 []), (5, .ref 5 0 []), (6, .ref 6 0 []), (9, .ref 9 0 []), (10, .data .bool x10), (11, .data T1 x11)] [(3, .cell T53 (.data T53 c3) false), (4, .cell T23 (.data T23 c4) false), (5, .cell T56 (.data T56 c5) false), (6, .cell T56 (.data T56 c6) false), (9, .cell T56 (.data T56 c9) false)]
noncomputable def cd0 : Code := cL (cL (cR (cL (cR (cR (cR (cB Try.f90)))))))
def St3 (x10 : Bool) (x11 : Int) (c3 : D21) (c4 : D4) (c5 c6 c9 : D22) : St := stL 58 [(3, .ref 3 0 []), (4, .ref 4 0 []), (5, .ref 5 0 []), (6, .ref 6 0 []), (9, .ref 9 0 []), (10, .data .bool x10), (11, .data T1 x11)] [(3, .cell T53 (.data T53 c3) false), (4, .cell T23 (.data T23 c4) false), (5, .cell T56 (.data T56 c5) false), (6, .cell T56 (.data T56 c6) false), (9, .cell T56 (.data T56 c9) false)]
noncomputable def cd1 : Code := cR (cR (cL (cL (cR (cL (cR (cR (cR (cB Try.f90)))))))))
def j0 {α : Type} (Nx : Bool -> Int -> D21 -> D4 -> D22 -> D22 -> D22 -> Option α) (x10 : Bool) (x11 : Int) (c3 : D21) (c4 : D4) (c5 c6 c9 : D22) : Option α :=
 Nx x10 (IntKind.i64.wrap (x11 - 1)) c3 c4 c5 c6 c9
theorem j0_eq {α : Type} (k : Nat) (next : St -> Option α) (Q : Ex -> St -> Option α) (x10 : Bool) (x11 : Int) (c3 : D21) (c4 : D4) (c5 c6 c9 : D22) :
  (den C k) cd1 (lq C 18 next Q) (St3 x10 x11 c3 c4 c5 c6 c9) = j0 (fun x10 x11 c3 c4 c5 c6 c9 => next (St2 x10 x11 c3 c4 c5 c6 c9)) x10 x11 c3 c4 c5 c6 c9 := by
 have h : ∀ (D L : DT α), denJ D L Js C cd1 (lq C 18 next Q) (St3 x10 x11 c3 c4 c5 c6 c9) = j0 (fun x10 x11 c3 c4 c5 c6 c9 => next (St2 x10 x11 c3 c4 c5 c6 c9)) x10 x11 c3 c4 c5 c6 c9 := by
  intro D L; kernel_rfl
 have h2 := via (k := k) h
 exact h2
def St4 (x10 : Bool) (c6 c9 : D22) : St := stL 58 [(6, .ref 6 0 []), (9, .ref 9 0 []), (10, .data .bool x10)] [(6, .cell T56 (.data T56 c6) false), (9, .cell T56 (.data T56 c9) false)]
def l0s {α : Type} (Nx : Bool -> Int -> D21 -> D4 -> D22 -> D22 -> D22 -> Option α) (Xt0 : Bool -> D22 -> D22 -> Option α) (x10 : Bool) (x11 : Int) (c3 : D21) (c4 : D4) (c5 c6 c9 : D22) : Option α :=
 if (cond (decide (x11 >= 0)) x10 false) = true then
  (curve_add.run c3 c9 c9).bind fun y2 =>
  cond (decide (0 <= (IntKind.i64.wrap (Int.tdiv x11 64)) /\ (IntKind.i64.wrap (Int.tdiv x11 64)) < (4 : Int)) || !(y2.2.1 == true)) (
   cond (decide (0 <= (Int.tmod x11 64)) || !(y2.2.1 == true)) (
    if (cond y2.2.1 ((band .u64 (shrI .u64 (List.getD c4 (Int.toNat (IntKind.i64.wrap (Int.tdiv x11 64))) 0) (Int.tmod x11 64)) 1) == 1) false) = true then
     (curve_add.run c3 y2.1 c5).bind fun y3 =>
     j0 Nx y3.2.1 x11 c3 c4 c5 c6 y3.1
    else
     j0 Nx y2.2.1 x11 c3 c4 c5 c6 y2.1) none) none
 else
  Xt0 x10 c6 c9
theorem l0s_eq {α : Type} (k : Nat) (next : St -> Option α) (Q : Ex -> St -> Option α) (x10 : Bool) (x11 : Int) (c3 : D21) (c4 : D4) (c5 c6 c9 : D22) :
  rnd C k cd0 18 Q next (St2 x10 x11 c3 c4 c5 c6 c9) = l0s (fun x10 x11 c3 c4 c5 c6 c9 => next (St2 x10 x11 c3 c4 c5 c6 c9)) (fun x10 c6 c9 => Q (.exit 0) (St4 x10 c6 c9)) x10 x11 c3 c4 c5 c6 c9 := by
 have h : ∀ (D L : DT α), denJ D L Js C cd0 (lq C 18 next Q) (St2 x10 x11 c3 c4 c5 c6 c9) =
    if (cond (decide (x11 >= 0)) x10 false) = true then
     (curve_add.run c3 c9 c9).bind fun y2 =>
     cond (decide (0 <= (IntKind.i64.wrap (Int.tdiv x11 64)) /\ (IntKind.i64.wrap (Int.tdiv x11 64)) < (4 : Int)) || !(y2.2.1 == true)) (
      cond (decide (0 <= (Int.tmod x11 64)) || !(y2.2.1 == true)) (
       if (cond y2.2.1 ((band .u64 (shrI .u64 (List.getD c4 (Int.toNat (IntKind.i64.wrap (Int.tdiv x11 64))) 0) (Int.tmod x11 64)) 1) == 1) false) = true then
        (curve_add.run c3 y2.1 c5).bind fun y3 =>
        D cd1 (lq C 18 next Q) (St3 y3.2.1 x11 c3 c4 c5 c6 y3.1)
       else
        D cd1 (lq C 18 next Q) (St3 y2.2.1 x11 c3 c4 c5 c6 y2.1)) none) none
    else
     Q (.exit 0) (St4 x10 c6 c9) := by
  intro D L; kernel_rfl
 have h2 := via (k := k) h
 refine h2.trans ?_
 simp only [j0_eq]
 first | rfl | kernel_rfl
def l0 {α : Type} (k : Nat) (Xt0 : Bool -> D22 -> D22 -> Option α) : Nat -> Bool -> Int -> D21 -> D4 -> D22 -> D22 -> D22 -> Option α
 | 0, _, _, _, _, _, _, _ => none
 | n + 1, x10, x11, c3, c4, c5, c6, c9 => l0s (l0 k Xt0 n) Xt0 x10 x11 c3 c4 c5 c6 c9
theorem l0_eq {α : Type} (k : Nat) (Q : Ex -> St -> Option α) : ∀ (n : Nat) (x10 : Bool) (x11 : Int) (c3 : D21) (c4 : D4) (c5 c6 c9 : D22), iter (rnd C k cd0 18 Q) n (St2 x10 x11 c3 c4 c5 c6 c9) = l0 k (fun x10 c6 c9 => Q (.exit 0) (St4 x10 c6 c9)) n x10 x11 c3 c4 c5 c6 c9
 | 0, _, _, _, _, _, _, _ => rfl
 | n + 1, x10, x11, c3, c4, c5, c6, c9 => (iter_succ _ _ _).trans ((l0s_eq k _ Q x10 x11 c3 c4 c5 c6 c9).trans (congrArg (fun N => l0s N (fun x10 c6 c9 => Q (.exit 0) (St4 x10 c6 c9)) x10 x11 c3 c4 c5 c6 c9) (by funext; exact l0_eq k Q n _ _ _ _ _ _ _)))
noncomputable def cd2 : Code := cR (cR (cR (cR (cB Try.f90))))
def St5 (x10 : Bool) (c6 c9 : D22) : St := stL 58 [(6, .ref 6 0 []), (9, .ref 9 0 []), (10, .data .bool x10)] [(6, .cell T56 (.data T56 c6) false), (9, .cell T56 (.data T56 c9) false)]
def j1 {α : Type} (Rt : Int -> D22 -> Option α) (x10 : Bool) (c6 c9 : D22) : Option α :=
 if (not x10) = true then
  Rt 16 ([0, 0, 0, 0], [0, 0, 0, 0], false, ())
 else
  Rt 0 c9
theorem j1_eq {α : Type} (k : Nat) (Q : Ex -> St -> Option α) (x10 : Bool) (c6 c9 : D22) :
  (den C k) cd2 Q (St5 x10 c6 c9) = j1 (fun x7 c6 => Q .ret (St1 x7 c6)) x10 c6 c9 := by
 have h : ∀ (D L : DT α), denJ D L Js C cd2 Q (St5 x10 c6 c9) = j1 (fun x7 c6 => Q .ret (St1 x7 c6)) x10 c6 c9 := by
  intro D L; kernel_rfl
 have h2 := via (k := k) h
 exact h2
theorem a0 {α : Type} (k : Nat) (Q : Ex -> St -> Option α) (x10 : Bool) (x11 : Int) (c3 : D21) (c4 : D4) (c5 c6 c9 : D22) :
  (lp C k) cd0 (blkQ C 0 (sq (den C k) (lp C k) Js C cd2 Q)) (St2 x10 x11 c3 c4 c5 c6 c9) = l0 k (fun x10 c6 c9 => j1 (fun x7 c6 => Q .ret (St1 x7 c6)) x10 c6 c9) k x10 x11 c3 c4 c5 c6 c9 :=
 (lp_iter 18 (by kernel_rfl)).trans ((l0_eq k _ k x10 x11 c3 c4 c5 c6 c9).trans (congrArg (fun X => l0 k X k x10 x11 c3 c4 c5 c6 c9) (funext fun x10 => funext fun c6 => funext fun c9 => (Eq.trans (b := (den C k) cd2 Q (St5 x10 c6 c9)) (by kernel_rfl) (by simp only [j1_eq])))))
def top {α : Type} (k : Nat) (Rt : Int -> D22 -> Option α) (x0 : D21) (x1 : D4) (x2 : D22) : Option α :=
 (curve_fault.run x0 [x2]).bind fun y1 =>
 if (y1 != 0) = true then
  Rt y1 ([0, 0, 0, 0], [0, 0, 0, 0], false, ())
 else
  l0 k (fun x10 c6 c9 => j1 Rt x10 c6 c9) k true 255 x0 x1 x2 ([0, 0, 0, 0], [0, 0, 0, 0], false, ()) ([0, 0, 0, 0], [0, 0, 0, 0], true, ())
theorem top_eq {α : Type} (k : Nat) (Q : Ex -> St -> Option α) (x0 : D21) (x1 : D4) (x2 : D22) :
  (den C k) (cB Try.f90) Q (St0 x0 x1 x2) = top k (fun x7 c6 => Q .ret (St1 x7 c6)) x0 x1 x2 := by
 have h : ∀ (D L : DT α), denJ D L Js C (cB Try.f90) Q (St0 x0 x1 x2) =
    (curve_fault.run x0 [x2]).bind fun y1 =>
    if (y1 != 0) = true then
     Q .ret (St1 y1 ([0, 0, 0, 0], [0, 0, 0, 0], false, ()))
    else
     L cd0 (blkQ C 0 (sq D L Js C cd2 Q)) (St2 true 255 x0 x1 x2 ([0, 0, 0, 0], [0, 0, 0, 0], false, ()) ([0, 0, 0, 0], [0, 0, 0, 0], true, ())) := by
  intro D L; kernel_rfl
 have h2 := via (k := k) h
 refine h2.trans ?_
 simp only [a0]
 first | rfl | kernel_rfl
def run (x0 : D21) (x1 : D4) (x2 : D22) : Option D28 := top (α := D22 × Int × Unit) fuel (fun x7 c6 => some (c6, x7, ())) x0 x1 x2
def F : Fn := ⟨T74, T75, true, fun x => run x.1 x.2.1 x.2.2.1⟩
theorem con : Con Try.prog 90 F :=
 con_of (C := C) (ctx_ok (by kernel_rfl) (by kernel_rfl) (by kernel_rfl) (by kernel_rfl) ⟨.inl ⟨curve_fault.con, curve_fault.named⟩, ⟨.inl ⟨curve_add.con, curve_add.named⟩, trivial⟩⟩) (by kernel_rfl) Try.func90 (c := cB Try.f90) (by kernel_rfl) (by kernel_rfl) F (fun x => by simp [F, spread, Try.ntmps90]) (fun x => (St0 x.1 x.2.1 x.2.2.1)) (fun x => by kernel_rfl) fun x => (top_eq fuel _ x.1 x.2.1 x.2.2.1).trans (by kernel_rfl)
theorem named : Named Try.prog 90 := named_of Try.func90 (by kernel_rfl) (by kernel_rfl)
end Go.Bx.curve_Mult
namespace Go.Bx.basculeref_often
def Js : List Nat := [5, 12, 15]
def C : Ctx := ⟨[(4, .bool), (22, T34), (24, T23), (45, T56), (47, T53)], [], [], fnL [(99, basculeref_together.F)], noSh, [], invL [], [(2, [6, 7]), (1, [6, 8]), (4, [3, 4, 5, 6, 8, 9]), (7, [3, 4, 5, 6, 8, 9]), (10, [3, 4, 5, 6, 8, 9, 10]), (9, [3, 4, 5, 6, 8, 9]), (12, [3, 4, 5, 6, 8, 9]), (18, [3, 4, 5, 6, 8, 9, 10]), (33, [3, 4, 5, 6, 8, 9, 10, 11, 12]), (42, [6, 8])], [], [], 0, 0⟩
def St0 (x0 : D21) (x1 : D4) (x2 : D22) : St := stL 51 [(0, .data T53 x0), (1, .data T23 x1), (2, .data T56 x2)] []
def St1 (x9 : Int) (c3 : D21) (c4 : D4) (c5 c6 c8 : D22) : St := stL 51 [(3, .ref 3 0 []), (4, .ref 4 0 []), (5, .ref 5 0 []), (6, .ref 6 0 []), (8, .ref 8 0 []), (9, .data T1 x9)] [(3, .cell T53 (.data T53 c3) false), (4, .cell T23 (.data T23 c4) false), (5, .cell T56 (.data T56 c5) false), (6, .cell T56 (.data T56 c6) false), (8, .cell T56 (.data T56 c8) false)]
noncomputable def cd0 : Code := cL (cL (cR (cL (cR (cR (cB Try.f98))))))
def St2 (x9 x10 : Int) (c3 : D21) (c4 : D4) (c5 c6 c8 : D22) : St := stL 51 [(3, .ref 3 0 []), (4, .ref 4 0 []), (5, .ref 5 0 []), (6, .ref 6 0 []), (8, .ref 8 0 []), (9, .data T1 x9), (10, .data T1 x10)] [(3, .cell T53 (.data T53 c3) false), (4, .cell T23 (.data T23 c4) false), (5, .cell T56 (.data T56 c5) false), (6, .cell T56 (.data T56 c6) false), (8, .cell T56 (.data T56 c8) false)]
noncomputable def cd1 : Code := cL (cL (cR (cL (cL (cR (cL (cL (cR (cL (cR (cR (cB Try.f98))))))))))))
def St3 (x9 x10 : Int) (x12 : Bool) (c3 : D21) (c4 : D4) (c5 c6 : D22) (c8 c11 : D22) : St := stL 51 [(3, .ref 3 0 []), (4, .ref 4 0 []), (5, .ref 5 0 []), (6, .ref 6 0 []), (8, .ref 8 0 []), (9, .data T1 x9), (10, .data T1 x10), (11, .ref 11 0 []), (12, .data .bool x12)] [(3, .cell T53 (.data T53 c3) false), (4, .cell T23 (.data T23 c4) false), (5, .cell T56 (.data T56 c5) false), (6, .cell T56 (.data T56 c6) false), (8, .cell T56 (.data T56 c8) false), (11, .cell T56 (.data T56 c11) false)]
noncomputable def cd2 : Code := cR (cR (cL (cL (cR (cL (cL (cR (cL (cL (cR (cL (cR (cR (cB Try.f98))))))))))))))
noncomputable def cd3 : Code := cR (cR (cL (cL (cR (cL (cL (cR (cL (cL (cR (cL (cL (cR (cL (cR (cR (cB Try.f98)))))))))))))))))
def St4 (x7 : Bool) (c6 : D22) : St := stL 51 [(6, .ref 6 0 []), (7, .data .bool x7)] [(6, .cell T56 (.data T56 c6) false)]
def j0 {α : Type} (Nx : Int -> Int -> D21 -> D4 -> D22 -> D22 -> D22 -> Option α) (Rt : Bool -> D22 -> Option α) (x9 x10 : Int) (x12 : Bool) (c3 : D21) (c4 : D4) (c5 c6 : D22) (c8 c11 : D22) : Option α :=
 if (not x12) = true then
  Rt false ([0, 0, 0, 0], [0, 0, 0, 0], false, ())
 else
  Nx x9 (IntKind.i64.wrap (x10 - 1)) c3 c4 c5 c6 c11
theorem j0_eq {α : Type} (k : Nat) (next : St -> Option α) (Q : Ex -> St -> Option α) (x9 x10 : Int) (x12 : Bool) (c3 : D21) (c4 : D4) (c5 c6 : D22) (c8 c11 : D22) :
  (den C k) cd3 (blkQ C 3 (sq (den C k) (lp C k) Js C cd2 (lq C 18 next Q))) (St3 x9 x10 x12 c3 c4 c5 c6 c8 c11) = j0 (fun x9 x10 c3 c4 c5 c6 c8 => next (St2 x9 x10 c3 c4 c5 c6 c8)) (fun x7 c6 => Q .ret (St4 x7 c6)) x9 x10 x12 c3 c4 c5 c6 c8 c11 := by
 have h : ∀ (D L : DT α), denJ D L Js C cd3 (blkQ C 3 (sq D L Js C cd2 (lq C 18 next Q))) (St3 x9 x10 x12 c3 c4 c5 c6 c8 c11) = j0 (fun x9 x10 c3 c4 c5 c6 c8 => next (St2 x9 x10 c3 c4 c5 c6 c8)) (fun x7 c6 => Q .ret (St4 x7 c6)) x9 x10 x12 c3 c4 c5 c6 c8 c11 := by
  intro D L; kernel_rfl
 have h2 := via (k := k) h
 exact h2
def St5 (x9 : Int) (c3 : D21) (c4 : D4) (c5 c6 c8 : D22) : St := stL 51 [(3, .ref 3 0 []), (4, .ref 4 0 []), (5, .ref 5 0 []), (6, .ref 6 0 []), (8, .ref 8 0 []), (9, .data T1 x9)] [(3, .cell T53 (.data T53 c3) false), (4, .cell T23 (.data T23 c4) false), (5, .cell T56 (.data T56 c5) false), (6, .cell T56 (.data T56 c6) false), (8, .cell T56 (.data T56 c8) false)]
def l1s {α : Type} (Nx : Int -> Int -> D21 -> D4 -> D22 -> D22 -> D22 -> Option α) (Rt : Bool -> D22 -> Option α) (Xt2 : Int -> D21 -> D4 -> D22 -> D22 -> D22 -> Option α) (x9 x10 : Int) (c3 : D21) (c4 : D4) (c5 c6 c8 : D22) : Option α :=
 if (decide (x10 >= 0)) = true then
  (basculeref_together.run c3 c8 c8).bind fun y1 =>
  cond (decide (0 <= x9 /\ x9 < (4 : Int)) || !(y1.2.1 == true)) (
   cond (decide (0 <= x10) || !(y1.2.1 == true)) (
    if (cond y1.2.1 ((band .u64 (List.getD c4 (Int.toNat x9) 0) (shlI .u64 1 x10)) != 0) false) = true then
     (basculeref_together.run c3 y1.1 c5).bind fun y2 =>
     j0 Nx Rt x9 x10 y2.2.1 c3 c4 c5 c6 c8 y2.1
    else
     j0 Nx Rt x9 x10 y1.2.1 c3 c4 c5 c6 c8 y1.1) none) none
 else
  Xt2 x9 c3 c4 c5 c6 c8
theorem l1s_eq {α : Type} (k : Nat) (next : St -> Option α) (Q : Ex -> St -> Option α) (x9 x10 : Int) (c3 : D21) (c4 : D4) (c5 c6 c8 : D22) :
  rnd C k cd1 18 Q next (St2 x9 x10 c3 c4 c5 c6 c8) = l1s (fun x9 x10 c3 c4 c5 c6 c8 => next (St2 x9 x10 c3 c4 c5 c6 c8)) (fun x7 c6 => Q .ret (St4 x7 c6)) (fun x9 c3 c4 c5 c6 c8 => Q (.exit 2) (St5 x9 c3 c4 c5 c6 c8)) x9 x10 c3 c4 c5 c6 c8 := by
 have h : ∀ (D L : DT α), denJ D L Js C cd1 (lq C 18 next Q) (St2 x9 x10 c3 c4 c5 c6 c8) =
    if (decide (x10 >= 0)) = true then
     (basculeref_together.run c3 c8 c8).bind fun y1 =>
     cond (decide (0 <= x9 /\ x9 < (4 : Int)) || !(y1.2.1 == true)) (
      cond (decide (0 <= x10) || !(y1.2.1 == true)) (
       if (cond y1.2.1 ((band .u64 (List.getD c4 (Int.toNat x9) 0) (shlI .u64 1 x10)) != 0) false) = true then
        (basculeref_together.run c3 y1.1 c5).bind fun y2 =>
        D cd3 (blkQ C 3 (sq D L Js C cd2 (lq C 18 next Q))) (St3 x9 x10 y2.2.1 c3 c4 c5 c6 c8 y2.1)
       else
        D cd3 (blkQ C 3 (sq D L Js C cd2 (lq C 18 next Q))) (St3 x9 x10 y1.2.1 c3 c4 c5 c6 c8 y1.1)) none) none
    else
     Q (.exit 2) (St5 x9 c3 c4 c5 c6 c8) := by
  intro D L; kernel_rfl
 have h2 := via (k := k) h
 refine h2.trans ?_
 simp only [j0_eq]
 first | rfl | kernel_rfl
def l1 {α : Type} (k : Nat) (Rt : Bool -> D22 -> Option α) (Xt2 : Int -> D21 -> D4 -> D22 -> D22 -> D22 -> Option α) : Nat -> Int -> Int -> D21 -> D4 -> D22 -> D22 -> D22 -> Option α
 | 0, _, _, _, _, _, _, _ => none
 | n + 1, x9, x10, c3, c4, c5, c6, c8 => l1s (l1 k Rt Xt2 n) Rt Xt2 x9 x10 c3 c4 c5 c6 c8
theorem l1_eq {α : Type} (k : Nat) (Q : Ex -> St -> Option α) : ∀ (n : Nat) (x9 x10 : Int) (c3 : D21) (c4 : D4) (c5 c6 c8 : D22), iter (rnd C k cd1 18 Q) n (St2 x9 x10 c3 c4 c5 c6 c8) = l1 k (fun x7 c6 => Q .ret (St4 x7 c6)) (fun x9 c3 c4 c5 c6 c8 => Q (.exit 2) (St5 x9 c3 c4 c5 c6 c8)) n x9 x10 c3 c4 c5 c6 c8
 | 0, _, _, _, _, _, _, _ => rfl
 | n + 1, x9, x10, c3, c4, c5, c6, c8 => (iter_succ _ _ _).trans ((l1s_eq k _ Q x9 x10 c3 c4 c5 c6 c8).trans (congrArg (fun N => l1s N (fun x7 c6 => Q .ret (St4 x7 c6)) (fun x9 c3 c4 c5 c6 c8 => Q (.exit 2) (St5 x9 c3 c4 c5 c6 c8)) x9 x10 c3 c4 c5 c6 c8) (by funext; exact l1_eq k Q n _ _ _ _ _ _ _)))
theorem l1_congr {α : Type} (k : Nat) (Rt : Bool -> D22 -> Option α) (Xt2 : Int -> D21 -> D4 -> D22 -> D22 -> D22 -> Option α) (Rtq : Bool -> D22 -> Option α) (Xt2q : Int -> D21 -> D4 -> D22 -> D22 -> D22 -> Option α) (hRt : ∀ (x7 : Bool) (c6 : D22), Rt x7 c6 = Rtq x7 c6) (hXt2 : ∀ (x9 : Int) (c3 : D21) (c4 : D4) (c5 c6 c8 : D22), Xt2 x9 c3 c4 c5 c6 c8 = Xt2q x9 c3 c4 c5 c6 c8) (n : Nat) (x9 x10 : Int) (c3 : D21) (c4 : D4) (c5 c6 c8 : D22) : l1 k Rt Xt2 n x9 x10 c3 c4 c5 c6 c8 = l1 k Rtq Xt2q n x9 x10 c3 c4 c5 c6 c8 := by
 obtain rfl : Rt = Rtq := by funext x7; funext c6; exact hRt x7 c6
 obtain rfl : Xt2 = Xt2q := by funext x9; funext c3; funext c4; funext c5; funext c6; funext c8; exact hXt2 x9 c3 c4 c5 c6 c8
 rfl
noncomputable def cd4 : Code := cR (cR (cL (cL (cR (cL (cR (cR (cB Try.f98))))))))
def St6 (x9 : Int) (c3 : D21) (c4 : D4) (c5 c6 c8 : D22) : St := stL 51 [(3, .ref 3 0 []), (4, .ref 4 0 []), (5, .ref 5 0 []), (6, .ref 6 0 []), (8, .ref 8 0 []), (9, .data T1 x9)] [(3, .cell T53 (.data T53 c3) false), (4, .cell T23 (.data T23 c4) false), (5, .cell T56 (.data T56 c5) false), (6, .cell T56 (.data T56 c6) false), (8, .cell T56 (.data T56 c8) false)]
def j1 {α : Type} (Nx : Int -> D21 -> D4 -> D22 -> D22 -> D22 -> Option α) (x9 : Int) (c3 : D21) (c4 : D4) (c5 c6 c8 : D22) : Option α :=
 Nx (IntKind.i64.wrap (x9 - 1)) c3 c4 c5 c6 c8
theorem j1_eq {α : Type} (k : Nat) (next : St -> Option α) (Q : Ex -> St -> Option α) (x9 : Int) (c3 : D21) (c4 : D4) (c5 c6 c8 : D22) :
  (den C k) cd4 (lq C 9 next Q) (St6 x9 c3 c4 c5 c6 c8) = j1 (fun x9 c3 c4 c5 c6 c8 => next (St1 x9 c3 c4 c5 c6 c8)) x9 c3 c4 c5 c6 c8 := by
 have h : ∀ (D L : DT α), denJ D L Js C cd4 (lq C 9 next Q) (St6 x9 c3 c4 c5 c6 c8) = j1 (fun x9 c3 c4 c5 c6 c8 => next (St1 x9 c3 c4 c5 c6 c8)) x9 c3 c4 c5 c6 c8 := by
  intro D L; kernel_rfl
 have h2 := via (k := k) h
 exact h2
theorem a0 {α : Type} (k : Nat) (next : St -> Option α) (Q : Ex -> St -> Option α) (x9 x10 : Int) (c3 : D21) (c4 : D4) (c5 c6 c8 : D22) :
  (lp C k) cd1 (blkQ C 2 (blkQ C 1 (sq (den C k) (lp C k) Js C cd4 (lq C 9 next Q)))) (St2 x9 x10 c3 c4 c5 c6 c8) = l1 k (fun x7 c6 => (fun x7 c6 => Q .ret (St4 x7 c6)) x7 c6) (fun x9 c3 c4 c5 c6 c8 => j1 (fun x9 c3 c4 c5 c6 c8 => next (St1 x9 c3 c4 c5 c6 c8)) x9 c3 c4 c5 c6 c8) k x9 x10 c3 c4 c5 c6 c8 :=
 (lp_iter 18 (by kernel_rfl)).trans ((l1_eq k _ k x9 x10 c3 c4 c5 c6 c8).trans (l1_congr k _ _ _ _ (fun x7 c6 => (by kernel_rfl)) (fun x9 c3 c4 c5 c6 c8 => (Eq.trans (b := (den C k) cd4 (lq C 9 next Q) (St6 x9 c3 c4 c5 c6 c8)) (by kernel_rfl) (by simp only [j1_eq]))) k x9 x10 c3 c4 c5 c6 c8))
def St7 (c6 c8 : D22) : St := stL 51 [(6, .ref 6 0 []), (8, .ref 8 0 [])] [(6, .cell T56 (.data T56 c6) false), (8, .cell T56 (.data T56 c8) false)]
def l0s {α : Type} (k : Nat) (Nx : Int -> D21 -> D4 -> D22 -> D22 -> D22 -> Option α) (Rt : Bool -> D22 -> Option α) (Xt0 : D22 -> D22 -> Option α) (x9 : Int) (c3 : D21) (c4 : D4) (c5 c6 c8 : D22) : Option α :=
 if (decide (x9 >= 0)) = true then
  l1 k (fun x7 c6 => Rt x7 c6) (fun x9 c3 c4 c5 c6 c8 => j1 Nx x9 c3 c4 c5 c6 c8) k x9 63 c3 c4 c5 c6 c8
 else
  Xt0 c6 c8
theorem l0s_eq {α : Type} (k : Nat) (next : St -> Option α) (Q : Ex -> St -> Option α) (x9 : Int) (c3 : D21) (c4 : D4) (c5 c6 c8 : D22) :
  rnd C k cd0 9 Q next (St1 x9 c3 c4 c5 c6 c8) = l0s k (fun x9 c3 c4 c5 c6 c8 => next (St1 x9 c3 c4 c5 c6 c8)) (fun x7 c6 => Q .ret (St4 x7 c6)) (fun c6 c8 => Q (.exit 0) (St7 c6 c8)) x9 c3 c4 c5 c6 c8 := by
 have h : ∀ (D L : DT α), denJ D L Js C cd0 (lq C 9 next Q) (St1 x9 c3 c4 c5 c6 c8) =
    if (decide (x9 >= 0)) = true then
     L cd1 (blkQ C 2 (blkQ C 1 (sq D L Js C cd4 (lq C 9 next Q)))) (St2 x9 63 c3 c4 c5 c6 c8)
    else
     Q (.exit 0) (St7 c6 c8) := by
  intro D L; kernel_rfl
 have h2 := via (k := k) h
 refine h2.trans ?_
 simp only [a0]
 first | rfl | kernel_rfl
def l0 {α : Type} (k : Nat) (Rt : Bool -> D22 -> Option α) (Xt0 : D22 -> D22 -> Option α) : Nat -> Int -> D21 -> D4 -> D22 -> D22 -> D22 -> Option α
 | 0, _, _, _, _, _, _ => none
 | n + 1, x9, c3, c4, c5, c6, c8 => l0s k (l0 k Rt Xt0 n) Rt Xt0 x9 c3 c4 c5 c6 c8
theorem l0_eq {α : Type} (k : Nat) (Q : Ex -> St -> Option α) : ∀ (n : Nat) (x9 : Int) (c3 : D21) (c4 : D4) (c5 c6 c8 : D22), iter (rnd C k cd0 9 Q) n (St1 x9 c3 c4 c5 c6 c8) = l0 k (fun x7 c6 => Q .ret (St4 x7 c6)) (fun c6 c8 => Q (.exit 0) (St7 c6 c8)) n x9 c3 c4 c5 c6 c8
 | 0, _, _, _, _, _, _ => rfl
 | n + 1, x9, c3, c4, c5, c6, c8 => (iter_succ _ _ _).trans ((l0s_eq k _ Q x9 c3 c4 c5 c6 c8).trans (congrArg (fun N => l0s k N (fun x7 c6 => Q .ret (St4 x7 c6)) (fun c6 c8 => Q (.exit 0) (St7 c6 c8)) x9 c3 c4 c5 c6 c8) (by funext; exact l0_eq k Q n _ _ _ _ _ _)))
theorem l0_congr {α : Type} (k : Nat) (Rt : Bool -> D22 -> Option α) (Xt0 : D22 -> D22 -> Option α) (Rtq : Bool -> D22 -> Option α) (Xt0q : D22 -> D22 -> Option α) (hRt : ∀ (x7 : Bool) (c6 : D22), Rt x7 c6 = Rtq x7 c6) (hXt0 : ∀ (c6 c8 : D22), Xt0 c6 c8 = Xt0q c6 c8) (n : Nat) (x9 : Int) (c3 : D21) (c4 : D4) (c5 c6 c8 : D22) : l0 k Rt Xt0 n x9 c3 c4 c5 c6 c8 = l0 k Rtq Xt0q n x9 c3 c4 c5 c6 c8 := by
 obtain rfl : Rt = Rtq := by funext x7; funext c6; exact hRt x7 c6
 obtain rfl : Xt0 = Xt0q := by funext c6; funext c8; exact hXt0 c6 c8
 rfl
noncomputable def cd5 : Code := cR (cR (cR (cB Try.f98)))
def St8 (c6 c8 : D22) : St := stL 51 [(6, .ref 6 0 []), (8, .ref 8 0 [])] [(6, .cell T56 (.data T56 c6) false), (8, .cell T56 (.data T56 c8) false)]
def j2 {α : Type} (Rt : Bool -> D22 -> Option α) (c6 c8 : D22) : Option α :=
 Rt true c8
theorem j2_eq {α : Type} (k : Nat) (Q : Ex -> St -> Option α) (c6 c8 : D22) :
  (den C k) cd5 Q (St8 c6 c8) = j2 (fun x7 c6 => Q .ret (St4 x7 c6)) c6 c8 := by
 have h : ∀ (D L : DT α), denJ D L Js C cd5 Q (St8 c6 c8) = j2 (fun x7 c6 => Q .ret (St4 x7 c6)) c6 c8 := by
  intro D L; kernel_rfl
 have h2 := via (k := k) h
 exact h2
theorem a1 {α : Type} (k : Nat) (Q : Ex -> St -> Option α) (x9 : Int) (c3 : D21) (c4 : D4) (c5 c6 c8 : D22) :
  (lp C k) cd0 (blkQ C 0 (sq (den C k) (lp C k) Js C cd5 Q)) (St1 x9 c3 c4 c5 c6 c8) = l0 k (fun x7 c6 => (fun x7 c6 => Q .ret (St4 x7 c6)) x7 c6) (fun c6 c8 => j2 (fun x7 c6 => Q .ret (St4 x7 c6)) c6 c8) k x9 c3 c4 c5 c6 c8 :=
 (lp_iter 9 (by kernel_rfl)).trans ((l0_eq k _ k x9 c3 c4 c5 c6 c8).trans (l0_congr k _ _ _ _ (fun x7 c6 => (by kernel_rfl)) (fun c6 c8 => (Eq.trans (b := (den C k) cd5 Q (St8 c6 c8)) (by kernel_rfl) (by simp only [j2_eq]))) k x9 c3 c4 c5 c6 c8))
def top {α : Type} (k : Nat) (Rt : Bool -> D22 -> Option α) (x0 : D21) (x1 : D4) (x2 : D22) : Option α :=
 l0 k (fun x7 c6 => Rt x7 c6) (fun c6 c8 => j2 Rt c6 c8) k 3 x0 x1 x2 ([0, 0, 0, 0], [0, 0, 0, 0], false, ()) ([0, 0, 0, 0], [0, 0, 0, 0], true, ())
theorem top_eq {α : Type} (k : Nat) (Q : Ex -> St -> Option α) (x0 : D21) (x1 : D4) (x2 : D22) :
  (den C k) (cB Try.f98) Q (St0 x0 x1 x2) = top k (fun x7 c6 => Q .ret (St4 x7 c6)) x0 x1 x2 := by
 have h : ∀ (D L : DT α), denJ D L Js C (cB Try.f98) Q (St0 x0 x1 x2) =
    L cd0 (blkQ C 0 (sq D L Js C cd5 Q)) (St1 3 x0 x1 x2 ([0, 0, 0, 0], [0, 0, 0, 0], false, ()) ([0, 0, 0, 0], [0, 0, 0, 0], true, ())) := by
  intro D L; kernel_rfl
 have h2 := via (k := k) h
 refine h2.trans ?_
 simp only [a1]
 first | rfl | kernel_rfl
def run (x0 : D21) (x1 : D4) (x2 : D22) : Option D27 := top (α := D22 × Bool × Unit) fuel (fun x7 c6 => some (c6, x7, ())) x0 x1 x2
def F : Fn := ⟨T74, T73, true, fun x => run x.1 x.2.1 x.2.2.1⟩
theorem con : Con Try.prog 98 F :=
 con_of (C := C) (ctx_ok (by kernel_rfl) (by kernel_rfl) (by kernel_rfl) (by kernel_rfl) ⟨.inl ⟨basculeref_together.con, basculeref_together.named⟩, trivial⟩) (by kernel_rfl) Try.func98 (c := cB Try.f98) (by kernel_rfl) (by kernel_rfl) F (fun x => by simp [F, spread, Try.ntmps98]) (fun x => (St0 x.1 x.2.1 x.2.2.1)) (fun x => by kernel_rfl) fun x => (top_eq fuel _ x.1 x.2.1 x.2.2.1).trans (by kernel_rfl)
theorem named : Named Try.prog 98 := named_of Try.func98 (by kernel_rfl) (by kernel_rfl)
end Go.Bx.basculeref_often
namespace Go.Bx.curve_Add
def Js : List Nat := []
def C : Ctx := ⟨[(35, T1), (45, T56), (47, T53), (191, T70)], [], [], fnL [(141, curve_fault.F), (142, curve_add.F)], noSh, [], invL [], [(2, [6, 7])], [], [], 0, 0⟩
def St0 (x0 : D21) (x1 x2 : D22) : St := stL 31 [(0, .data T53 x0), (1, .data T56 x1), (2, .data T56 x2)] []
def St1 (x7 : Int) (c6 : D22) : St := stL 31 [(6, .ref 6 0 []), (7, .data T1 x7)] [(6, .cell T56 (.data T56 c6) false)]
def top {α : Type} (Rt : Int -> D22 -> Option α) (x0 : D21) (x1 x2 : D22) : Option α :=
 (curve_fault.run x0 [x1, x2]).bind fun y1 =>
 if (y1 != 0) = true then
  Rt y1 ([0, 0, 0, 0], [0, 0, 0, 0], false, ())
 else
  (curve_add.run x0 x1 x2).bind fun y2 =>
  if (not y2.2.1) = true then
   Rt 16 ([0, 0, 0, 0], [0, 0, 0, 0], false, ())
  else
   Rt 0 y2.1
theorem top_eq {α : Type} (k : Nat) (Q : Ex -> St -> Option α) (x0 : D21) (x1 x2 : D22) :
  (den C k) (cB Try.f91) Q (St0 x0 x1 x2) = top (fun x7 c6 => Q .ret (St1 x7 c6)) x0 x1 x2 := by
 have h : ∀ (D L : DT α), denJ D L Js C (cB Try.f91) Q (St0 x0 x1 x2) = top (fun x7 c6 => Q .ret (St1 x7 c6)) x0 x1 x2 := by
  intro D L; kernel_rfl
 have h2 := via (k := k) h
 exact h2
def run (x0 : D21) (x1 x2 : D22) : Option D28 := top (α := D22 × Int × Unit) (fun x7 c6 => some (c6, x7, ())) x0 x1 x2
def F : Fn := ⟨T72, T75, true, fun x => run x.1 x.2.1 x.2.2.1⟩
theorem con : Con Try.prog 91 F :=
 con_of (C := C) (ctx_ok (by kernel_rfl) (by kernel_rfl) (by kernel_rfl) (by kernel_rfl) ⟨.inl ⟨curve_fault.con, curve_fault.named⟩, ⟨.inl ⟨curve_add.con, curve_add.named⟩, trivial⟩⟩) (by kernel_rfl) Try.func91 (c := cB Try.f91) (by kernel_rfl) (by kernel_rfl) F (fun x => by simp [F, spread, Try.ntmps91]) (fun x => (St0 x.1 x.2.1 x.2.2.1)) (fun x => by kernel_rfl) fun x => (top_eq fuel _ x.1 x.2.1 x.2.2.1).trans (by kernel_rfl)
theorem named : Named Try.prog 91 := named_of Try.func91 (by kernel_rfl) (by kernel_rfl)
end Go.Bx.curve_Add
namespace Go.Bx.sign_sum2
def Js : List Nat := []
def C : Ctx := ⟨[(24, T23), (35, T1), (45, T56), (47, T53)], [], [], fnL [(90, curve_Mult.F), (91, curve_Add.F)], noSh, [], invL [], [(2, [10, 11])], [], [], 0, 0⟩
def St0 (x0 : D21) (x1 : D4) (x2 : D22) (x3 : D4) (x4 : D22) : St := stL 43 [(0, .data T53 x0), (1, .data T23 x1), (2, .data T56 x2), (3, .data T23 x3), (4, .data T56 x4)] []
def St1 (x11 : Int) (c10 : D22) : St := stL 43 [(10, .ref 10 0 []), (11, .data T1 x11)] [(10, .cell T56 (.data T56 c10) false)]
def top {α : Type} (Rt : Int -> D22 -> Option α) (x0 : D21) (x1 : D4) (x2 : D22) (x3 : D4) (x4 : D22) : Option α :=
 (curve_Mult.run x0 x1 x2).bind fun y1 =>
 if (y1.2.1 != 0) = true then
  Rt y1.2.1 ([0, 0, 0, 0], [0, 0, 0, 0], false, ())
 else
  (curve_Mult.run x0 x3 x4).bind fun y2 =>
  if (y2.2.1 != 0) = true then
   Rt y2.2.1 ([0, 0, 0, 0], [0, 0, 0, 0], false, ())
  else
   (curve_Add.run x0 y1.1 y2.1).bind fun y3 =>
   Rt y3.2.1 y3.1
theorem top_eq {α : Type} (k : Nat) (Q : Ex -> St -> Option α) (x0 : D21) (x1 : D4) (x2 : D22) (x3 : D4) (x4 : D22) :
  (den C k) (cB Try.f36) Q (St0 x0 x1 x2 x3 x4) = top (fun x11 c10 => Q .ret (St1 x11 c10)) x0 x1 x2 x3 x4 := by
 have h : ∀ (D L : DT α), denJ D L Js C (cB Try.f36) Q (St0 x0 x1 x2 x3 x4) = top (fun x11 c10 => Q .ret (St1 x11 c10)) x0 x1 x2 x3 x4 := by
  intro D L; kernel_rfl
 have h2 := via (k := k) h
 exact h2
def run (x0 : D21) (x1 : D4) (x2 : D22) (x3 : D4) (x4 : D22) : Option D28 := top (α := D22 × Int × Unit) (fun x11 c10 => some (c10, x11, ())) x0 x1 x2 x3 x4
def F : Fn := ⟨T76, T75, true, fun x => run x.1 x.2.1 x.2.2.1 x.2.2.2.1 x.2.2.2.2.1⟩
theorem con : Con Try.prog 36 F :=
 con_of (C := C) (ctx_ok (by kernel_rfl) (by kernel_rfl) (by kernel_rfl) (by kernel_rfl) ⟨.inl ⟨curve_Mult.con, curve_Mult.named⟩, ⟨.inl ⟨curve_Add.con, curve_Add.named⟩, trivial⟩⟩) (by kernel_rfl) Try.func36 (c := cB Try.f36) (by kernel_rfl) (by kernel_rfl) F (fun x => by simp [F, spread, Try.ntmps36]) (fun x => (St0 x.1 x.2.1 x.2.2.1 x.2.2.2.1 x.2.2.2.2.1)) (fun x => by kernel_rfl) fun x => (top_eq fuel _ x.1 x.2.1 x.2.2.1 x.2.2.2.1 x.2.2.2.2.1).trans (by kernel_rfl)
theorem named : Named Try.prog 36 := named_of Try.func36 (by kernel_rfl) (by kernel_rfl)
end Go.Bx.sign_sum2
namespace Go.Bx.basculeref_both
def Js : List Nat := []
def C : Ctx := ⟨[(4, .bool), (24, T23), (45, T56), (47, T53)], [], [], fnL [(98, basculeref_often.F), (99, basculeref_together.F)], noSh, [], invL [], [(2, [10, 11])], [], [], 0, 0⟩
def St0 (x0 : D21) (x1 : D4) (x2 : D22) (x3 : D4) (x4 : D22) : St := stL 43 [(0, .data T53 x0), (1, .data T23 x1), (2, .data T56 x2), (3, .data T23 x3), (4, .data T56 x4)] []
def St1 (x11 : Bool) (c10 : D22) : St := stL 43 [(10, .ref 10 0 []), (11, .data .bool x11)] [(10, .cell T56 (.data T56 c10) false)]
def top {α : Type} (Rt : Bool -> D22 -> Option α) (x0 : D21) (x1 : D4) (x2 : D22) (x3 : D4) (x4 : D22) : Option α :=
 (basculeref_often.run x0 x1 x2).bind fun y1 =>
 (basculeref_often.run x0 x3 x4).bind fun y2 =>
 if (cond (not y1.2.1) true (not y2.2.1)) = true then
  Rt false ([0, 0, 0, 0], [0, 0, 0, 0], false, ())
 else
  (basculeref_together.run x0 y1.1 y2.1).bind fun y3 =>
  Rt y3.2.1 y3.1
theorem top_eq {α : Type} (k : Nat) (Q : Ex -> St -> Option α) (x0 : D21) (x1 : D4) (x2 : D22) (x3 : D4) (x4 : D22) :
  (den C k) (cB Try.f40) Q (St0 x0 x1 x2 x3 x4) = top (fun x11 c10 => Q .ret (St1 x11 c10)) x0 x1 x2 x3 x4 := by
 have h : ∀ (D L : DT α), denJ D L Js C (cB Try.f40) Q (St0 x0 x1 x2 x3 x4) = top (fun x11 c10 => Q .ret (St1 x11 c10)) x0 x1 x2 x3 x4 := by
  intro D L; kernel_rfl
 have h2 := via (k := k) h
 exact h2
def run (x0 : D21) (x1 : D4) (x2 : D22) (x3 : D4) (x4 : D22) : Option D27 := top (α := D22 × Bool × Unit) (fun x11 c10 => some (c10, x11, ())) x0 x1 x2 x3 x4
def F : Fn := ⟨T76, T73, true, fun x => run x.1 x.2.1 x.2.2.1 x.2.2.2.1 x.2.2.2.2.1⟩
theorem con : Con Try.prog 40 F :=
 con_of (C := C) (ctx_ok (by kernel_rfl) (by kernel_rfl) (by kernel_rfl) (by kernel_rfl) ⟨.inl ⟨basculeref_often.con, basculeref_often.named⟩, ⟨.inl ⟨basculeref_together.con, basculeref_together.named⟩, trivial⟩⟩) (by kernel_rfl) Try.func40 (c := cB Try.f40) (by kernel_rfl) (by kernel_rfl) F (fun x => by simp [F, spread, Try.ntmps40]) (fun x => (St0 x.1 x.2.1 x.2.2.1 x.2.2.2.1 x.2.2.2.2.1)) (fun x => by kernel_rfl) fun x => (top_eq fuel _ x.1 x.2.1 x.2.2.1 x.2.2.2.1 x.2.2.2.2.1).trans (by kernel_rfl)
theorem named : Named Try.prog 40 := named_of Try.func40 (by kernel_rfl) (by kernel_rfl)
end Go.Bx.basculeref_both
namespace Go.Bx.field_Pow_1_s0
def Js : List Nat := []
def C : Ctx := ⟨[(24, T23)], [], [], fnL [(88, field_mul.F)], noSh, [], invL [], [(2, [])], [], [], 3, 0⟩
def St0 (x0 : Bool) (c0 c1 c2 : D4) : St := stL 14 [(0, .data .bool x0), (1, .ref 0 0 []), (2, .ref 1 0 []), (3, .ref 2 0 [])] [(0, .cell T23 (.data T23 c0) false), (1, .cell T23 (.data T23 c1) false), (2, .cell T23 (.data T23 c2) false)]
def St1 (c0 c1 c2 : D4) : St := stL 14 [] [(0, .cell T23 (.data T23 c0) false), (1, .cell T23 (.data T23 c1) false), (2, .cell T23 (.data T23 c2) false)]
def top {α : Type} (Rt : D4 -> D4 -> D4 -> Option α) (x0 : Bool) (c0 c1 c2 : D4) : Option α :=
 (field_mul.run c0 c0 c1).bind fun y1 =>
 if x0 = true then
  (field_mul.run y1 c2 c1).bind fun y2 =>
  Rt y2 c1 c2
 else
  Rt y1 c1 c2
theorem top_eq {α : Type} (k : Nat) (Q : Ex -> St -> Option α) (x0 : Bool) (c0 c1 c2 : D4) :
  (den C k) (cB Try.f146) (endQ C Q) (St0 x0 c0 c1 c2) = top (fun c0 c1 c2 => Q .ret (St1 c0 c1 c2)) x0 c0 c1 c2 := by
 have h : ∀ (D L : DT α), denJ D L Js C (cB Try.f146) (endQ C Q) (St0 x0 c0 c1 c2) = top (fun c0 c1 c2 => Q .ret (St1 c0 c1 c2)) x0 c0 c1 c2 := by
  intro D L; kernel_rfl
 have h2 := via (k := k) h
 exact h2
def run (x0 : Bool) (c0 c1 c2 : D4) : Option D17 := top (α := List Int × List Int × List Int × Unit) (fun c0 c1 c2 => some (c0, c1, c2, ())) x0 c0 c1 c2
def Sp : Spec := ⟨[hD .bool, .ref 0 0 [], .ref 1 0 [], .ref 2 0 []], [(0, hC T23 (hD T23) false), (1, hC T23 (hD T23) false), (2, hC T23 (hD T23) false)], T47, .tup [], [(0, hC T23 (hD T23) false), (1, hC T23 (hD T23) false), (2, hC T23 (hD T23) false)], T46, fun x => run x.1 x.2.1 x.2.2.1 x.2.2.2.1⟩
set_option maxRecDepth 100000 in
theorem sok : SOk Try.prog 146 Sp.h := by
 refine sok_of_den (C := C) (ctx_ok (by kernel_rfl) (by kernel_rfl) (by kernel_rfl) (by kernel_rfl) ⟨.inl ⟨field_mul.con, field_mul.named⟩, trivial⟩) (by kernel_rfl) Try.func146 (c := cB Try.f146) (by kernel_rfl) (by kernel_rfl) Sp fuel (by kernel_rfl) (by kernel_rfl) ?_
 intro x r h
 rw [<- h]
 have h1 : Sp.start x Try.f146.ntmps = (St0 x.1 x.2.1 x.2.2.1 x.2.2.2.1) := by kernel_rfl
 rw [h1]
 refine (top_eq fuel (finS C Try.f146.results.toList Sp.read) x.1 x.2.1 x.2.2.1 x.2.2.2.1).trans ?_
 kernel_rfl
theorem named : Named Try.prog 146 := named_of Try.func146 (by kernel_rfl) (by kernel_rfl)
end Go.Bx.field_Pow_1_s0
namespace Go.Bx.field_bits_s1
def Js : List Nat := [5, 9]
def C : Ctx := ⟨[(22, T34), (24, T23)], [], [], fnL [], shL [(146, [.one field_Pow_1_s0.Sp])], [(38, 40)], invL [], [(2, []), (1, []), (4, [1, 2, 4, 5]), (7, [1, 2, 4, 5]), (10, [1, 2, 4, 5, 6]), (9, [1, 2, 4, 5]), (12, [1, 2, 4, 5]), (21, [1, 2, 4, 5, 6]), (24, [1, 2, 4, 5, 6])], [], [], 3, 0⟩
def St0 (x0 c0 : D4) (c1 c2 : D4) : St := stL 39 [(0, .data T23 x0), (1, .fn 146 [] [.ref 0 0 [], .ref 1 0 [], .ref 2 0 []])] [(0, .cell T23 (.data T23 c0) false), (1, .cell T23 (.data T23 c1) false), (2, .cell T23 (.data T23 c2) false)]
def St1 (x4 : Bool) (x5 : Int) (c0 c1 : D4) (c2 c5 : D4) : St := stL 39 [(1, .fn 146 [] [.ref 0 0 [], .ref 1 0 [], .ref 2 0 []]), (2, .ref 5 0 []), (4, .data .bool x4), (5, .data T1 x5)] [(0, .cell T23 (.data T23 c0) false), (1, .cell T23 (.data T23 c1) false), (2, .cell T23 (.data T23 c2) false), (5, .cell T23 (.data T23 c5) false)]
noncomputable def cd0 : Code := cL (cL (cR (cR (cR (cB Try.f138)))))
def St2 (x4 : Bool) (x5 : Int) (c0 c1 : D4) (c2 c5 : D4) : St := stL 39 [(1, .fn 146 [] [.ref 0 0 [], .ref 1 0 [], .ref 2 0 []]), (2, .ref 5 0 []), (4, .data .bool x4), (5, .data T1 x5)] [(0, .cell T23 (.data T23 c0) false), (1, .cell T23 (.data T23 c1) false), (2, .cell T23 (.data T23 c2) false), (5, .cell T23 (.data T23 c5) false)]
noncomputable def cd1 : Code := cR (cR (cL (cL (cR (cR (cR (cB Try.f138)))))))
def j0 {α : Type} (Nx : Bool -> Int -> D4 -> D4 -> D4 -> D4 -> Option α) (x4 : Bool) (x5 : Int) (c0 c1 : D4) (c2 c5 : D4) : Option α :=
 Nx x4 (IntKind.i64.wrap (x5 - 1)) c0 c1 c2 c5
theorem j0_eq {α : Type} (k : Nat) (next : St -> Option α) (Q : Ex -> St -> Option α) (x4 : Bool) (x5 : Int) (c0 c1 : D4) (c2 c5 : D4) :
  (den C k) cd1 (lq C 9 next Q) (St2 x4 x5 c0 c1 c2 c5) = j0 (fun x4 x5 c0 c1 c2 c5 => next (St1 x4 x5 c0 c1 c2 c5)) x4 x5 c0 c1 c2 c5 := by
 have h : ∀ (D L : DT α), denJ D L Js C cd1 (lq C 9 next Q) (St2 x4 x5 c0 c1 c2 c5) = j0 (fun x4 x5 c0 c1 c2 c5 => next (St1 x4 x5 c0 c1 c2 c5)) x4 x5 c0 c1 c2 c5 := by
  intro D L; kernel_rfl
 have h2 := via (k := k) h
 exact h2
def St3 (x4 : Bool) (x5 x6 : Int) (c0 c1 : D4) (c2 c5 : D4) : St := stL 39 [(1, .fn 146 [] [.ref 0 0 [], .ref 1 0 [], .ref 2 0 []]), (2, .ref 5 0 []), (4, .data .bool x4), (5, .data T1 x5), (6, .data T1 x6)] [(0, .cell T23 (.data T23 c0) false), (1, .cell T23 (.data T23 c1) false), (2, .cell T23 (.data T23 c2) false), (5, .cell T23 (.data T23 c5) false)]
noncomputable def cd2 : Code := cL (cL (cR (cR (cL (cL (cR (cL (cL (cR (cR (cR (cB Try.f138))))))))))))
def St4 (x4 : Bool) (x5 x6 : Int) (c0 c1 : D4) (c2 c5 : D4) : St := stL 39 [(1, .fn 146 [] [.ref 0 0 [], .ref 1 0 [], .ref 2 0 []]), (2, .ref 5 0 []), (4, .data .bool x4), (5, .data T1 x5), (6, .data T1 x6)] [(0, .cell T23 (.data T23 c0) false), (1, .cell T23 (.data T23 c1) false), (2, .cell T23 (.data T23 c2) false), (5, .cell T23 (.data T23 c5) false)]
noncomputable def cd3 : Code := cR (cR (cL (cL (cR (cR (cL (cL (cR (cL (cL (cR (cR (cR (cB Try.f138))))))))))))))
def j1 {α : Type} (Nx : Bool -> Int -> Int -> D4 -> D4 -> D4 -> D4 -> Option α) (x4 : Bool) (x5 x6 : Int) (c0 c1 : D4) (c2 c5 : D4) : Option α :=
 Nx x4 x5 (IntKind.i64.wrap (x6 - 1)) c0 c1 c2 c5
theorem j1_eq {α : Type} (k : Nat) (next : St -> Option α) (Q : Ex -> St -> Option α) (x4 : Bool) (x5 x6 : Int) (c0 c1 : D4) (c2 c5 : D4) :
  (den C k) cd3 (lq C 21 next Q) (St4 x4 x5 x6 c0 c1 c2 c5) = j1 (fun x4 x5 x6 c0 c1 c2 c5 => next (St3 x4 x5 x6 c0 c1 c2 c5)) x4 x5 x6 c0 c1 c2 c5 := by
 have h : ∀ (D L : DT α), denJ D L Js C cd3 (lq C 21 next Q) (St4 x4 x5 x6 c0 c1 c2 c5) = j1 (fun x4 x5 x6 c0 c1 c2 c5 => next (St3 x4 x5 x6 c0 c1 c2 c5)) x4 x5 x6 c0 c1 c2 c5 := by
  intro D L; kernel_rfl
 have h2 := via (k := k) h
 exact h2
def St5 (x4 : Bool) (x5 : Int) (c0 c1 : D4) (c2 c5 : D4) : St := stL 39 [(1, .fn 146 [] [.ref 0 0 [], .ref 1 0 [], .ref 2 0 []]), (2, .ref 5 0 []), (4, .data .bool x4), (5, .data T1 x5)] [(0, .cell T23 (.data T23 c0) false), (1, .cell T23 (.data T23 c1) false), (2, .cell T23 (.data T23 c2) false), (5, .cell T23 (.data T23 c5) false)]
def l1s {α : Type} (Nx : Bool -> Int -> Int -> D4 -> D4 -> D4 -> D4 -> Option α) (Xt2 : Bool -> Int -> D4 -> D4 -> D4 -> D4 -> Option α) (x4 : Bool) (x5 x6 : Int) (c0 c1 : D4) (c2 c5 : D4) : Option α :=
 if (decide (x6 >= 0)) = true then
  if 0 <= x5 /\ x5 < (4 : Int) then
   if 0 <= x6 then
    if (cond x4 true ((band .u64 (shrI .u64 (List.getD c5 (Int.toNat x5) 0) x6) 1) == 1)) = true then
     (field_Pow_1_s0.run ((band .u64 (shrI .u64 (List.getD c5 (Int.toNat x5) 0) x6) 1) == 1) c0 c1 c2).bind fun y1 =>
     j1 Nx (cond x4 true ((band .u64 (shrI .u64 (List.getD c5 (Int.toNat x5) 0) x6) 1) == 1)) x5 x6 y1.1 y1.2.1 y1.2.2.1 c5
    else
     j1 Nx (cond x4 true ((band .u64 (shrI .u64 (List.getD c5 (Int.toNat x5) 0) x6) 1) == 1)) x5 x6 c0 c1 c2 c5
   else none
  else none
 else
  Xt2 x4 x5 c0 c1 c2 c5
theorem l1s_eq {α : Type} (k : Nat) (next : St -> Option α) (Q : Ex -> St -> Option α) (x4 : Bool) (x5 x6 : Int) (c0 c1 : D4) (c2 c5 : D4) :
  rnd C k cd2 21 Q next (St3 x4 x5 x6 c0 c1 c2 c5) = l1s (fun x4 x5 x6 c0 c1 c2 c5 => next (St3 x4 x5 x6 c0 c1 c2 c5)) (fun x4 x5 c0 c1 c2 c5 => Q (.exit 2) (St5 x4 x5 c0 c1 c2 c5)) x4 x5 x6 c0 c1 c2 c5 := by
 have h : ∀ (D L : DT α), denJ D L Js C cd2 (lq C 21 next Q) (St3 x4 x5 x6 c0 c1 c2 c5) =
    if (decide (x6 >= 0)) = true then
     if 0 <= x5 /\ x5 < (4 : Int) then
      if 0 <= x6 then
       if (cond x4 true ((band .u64 (shrI .u64 (List.getD c5 (Int.toNat x5) 0) x6) 1) == 1)) = true then
        (field_Pow_1_s0.run ((band .u64 (shrI .u64 (List.getD c5 (Int.toNat x5) 0) x6) 1) == 1) c0 c1 c2).bind fun y1 =>
        D cd3 (lq C 21 next Q) (St4 (cond x4 true ((band .u64 (shrI .u64 (List.getD c5 (Int.toNat x5) 0) x6) 1) == 1)) x5 x6 y1.1 y1.2.1 y1.2.2.1 c5)
       else
        D cd3 (lq C 21 next Q) (St4 (cond x4 true ((band .u64 (shrI .u64 (List.getD c5 (Int.toNat x5) 0) x6) 1) == 1)) x5 x6 c0 c1 c2 c5)
      else none
     else none
    else
     Q (.exit 2) (St5 x4 x5 c0 c1 c2 c5) := by
  intro D L; kernel_rfl
 have h2 := via (k := k) h
 refine h2.trans ?_
 simp only [j1_eq]
 first | rfl | kernel_rfl
def l1 {α : Type} (k : Nat) (Xt2 : Bool -> Int -> D4 -> D4 -> D4 -> D4 -> Option α) : Nat -> Bool -> Int -> Int -> D4 -> D4 -> D4 -> D4 -> Option α
 | 0, _, _, _, _, _, _, _ => none
 | n + 1, x4, x5, x6, c0, c1, c2, c5 => l1s (l1 k Xt2 n) Xt2 x4 x5 x6 c0 c1 c2 c5
theorem l1_eq {α : Type} (k : Nat) (Q : Ex -> St -> Option α) : ∀ (n : Nat) (x4 : Bool) (x5 x6 : Int) (c0 c1 : D4) (c2 c5 : D4), iter (rnd C k cd2 21 Q) n (St3 x4 x5 x6 c0 c1 c2 c5) = l1 k (fun x4 x5 c0 c1 c2 c5 => Q (.exit 2) (St5 x4 x5 c0 c1 c2 c5)) n x4 x5 x6 c0 c1 c2 c5
 | 0, _, _, _, _, _, _, _ => rfl
 | n + 1, x4, x5, x6, c0, c1, c2, c5 => (iter_succ _ _ _).trans ((l1s_eq k _ Q x4 x5 x6 c0 c1 c2 c5).trans (congrArg (fun N => l1s N (fun x4 x5 c0 c1 c2 c5 => Q (.exit 2) (St5 x4 x5 c0 c1 c2 c5)) x4 x5 x6 c0 c1 c2 c5) (by funext; exact l1_eq k Q n _ _ _ _ _ _ _)))
theorem a0 {α : Type} (k : Nat) (next : St -> Option α) (Q : Ex -> St -> Option α) (x4 : Bool) (x5 x6 : Int) (c0 c1 : D4) (c2 c5 : D4) :
  (lp C k) cd2 (blkQ C 2 (blkQ C 1 (sq (den C k) (lp C k) Js C cd1 (lq C 9 next Q)))) (St3 x4 x5 x6 c0 c1 c2 c5) = l1 k (fun x4 x5 c0 c1 c2 c5 => j0 (fun x4 x5 c0 c1 c2 c5 => next (St1 x4 x5 c0 c1 c2 c5)) x4 x5 c0 c1 c2 c5) k x4 x5 x6 c0 c1 c2 c5 :=
 (lp_iter 21 (by kernel_rfl)).trans ((l1_eq k _ k x4 x5 x6 c0 c1 c2 c5).trans (congrArg (fun X => l1 k X k x4 x5 x6 c0 c1 c2 c5) (funext fun x4 => funext fun x5 => funext fun c0 => funext fun c1 => funext fun c2 => funext fun c5 => (Eq.trans (b := (den C k) cd1 (lq C 9 next Q) (St2 x4 x5 c0 c1 c2 c5)) (by kernel_rfl) (by simp only [j0_eq])))))
def St6 (c0 c1 c2 : D4) : St := stL 39 [] [(0, .cell T23 (.data T23 c0) false), (1, .cell T23 (.data T23 c1) false), (2, .cell T23 (.data T23 c2) false)]
def l0s {α : Type} (k : Nat) (Nx : Bool -> Int -> D4 -> D4 -> D4 -> D4 -> Option α) (Xt0 : D4 -> D4 -> D4 -> Option α) (x4 : Bool) (x5 : Int) (c0 c1 : D4) (c2 c5 : D4) : Option α :=
 if (decide (x5 >= 0)) = true then
  if 0 <= x5 /\ x5 < (4 : Int) then
   if (cond ((List.getD c5 (Int.toNat x5) 0) == 0) (not x4) false) = true then
    j0 Nx x4 x5 c0 c1 c2 c5
   else
    l1 k (fun x4 x5 c0 c1 c2 c5 => j0 Nx x4 x5 c0 c1 c2 c5) k x4 x5 63 c0 c1 c2 c5
  else none
 else
  Xt0 c0 c1 c2
theorem l0s_eq {α : Type} (k : Nat) (next : St -> Option α) (Q : Ex -> St -> Option α) (x4 : Bool) (x5 : Int) (c0 c1 : D4) (c2 c5 : D4) :
  rnd C k cd0 9 Q next (St1 x4 x5 c0 c1 c2 c5) = l0s k (fun x4 x5 c0 c1 c2 c5 => next (St1 x4 x5 c0 c1 c2 c5)) (fun c0 c1 c2 => Q (.exit 0) (St6 c0 c1 c2)) x4 x5 c0 c1 c2 c5 := by
 have h : ∀ (D L : DT α), denJ D L Js C cd0 (lq C 9 next Q) (St1 x4 x5 c0 c1 c2 c5) =
    if (decide (x5 >= 0)) = true then
     if 0 <= x5 /\ x5 < (4 : Int) then
      if (cond ((List.getD c5 (Int.toNat x5) 0) == 0) (not x4) false) = true then
       D cd1 (lq C 9 next Q) (St2 x4 x5 c0 c1 c2 c5)
      else
       L cd2 (blkQ C 2 (blkQ C 1 (sq D L Js C cd1 (lq C 9 next Q)))) (St3 x4 x5 63 c0 c1 c2 c5)
     else none
    else
     Q (.exit 0) (St6 c0 c1 c2) := by
  intro D L; kernel_rfl
 have h2 := via (k := k) h
 refine h2.trans ?_
 simp only [j0_eq, a0]
 first | rfl | kernel_rfl
def l0 {α : Type} (k : Nat) (Xt0 : D4 -> D4 -> D4 -> Option α) : Nat -> Bool -> Int -> D4 -> D4 -> D4 -> D4 -> Option α
 | 0, _, _, _, _, _, _ => none
 | n + 1, x4, x5, c0, c1, c2, c5 => l0s k (l0 k Xt0 n) Xt0 x4 x5 c0 c1 c2 c5
theorem l0_eq {α : Type} (k : Nat) (Q : Ex -> St -> Option α) : ∀ (n : Nat) (x4 : Bool) (x5 : Int) (c0 c1 : D4) (c2 c5 : D4), iter (rnd C k cd0 9 Q) n (St1 x4 x5 c0 c1 c2 c5) = l0 k (fun c0 c1 c2 => Q (.exit 0) (St6 c0 c1 c2)) n x4 x5 c0 c1 c2 c5
 | 0, _, _, _, _, _, _ => rfl
 | n + 1, x4, x5, c0, c1, c2, c5 => (iter_succ _ _ _).trans ((l0s_eq k _ Q x4 x5 c0 c1 c2 c5).trans (congrArg (fun N => l0s k N (fun c0 c1 c2 => Q (.exit 0) (St6 c0 c1 c2)) x4 x5 c0 c1 c2 c5) (by funext; exact l0_eq k Q n _ _ _ _ _ _)))
def St7 (c0 c1 c2 : D4) : St := stL 39 [] [(0, .cell T23 (.data T23 c0) false), (1, .cell T23 (.data T23 c1) false), (2, .cell T23 (.data T23 c2) false)]
theorem a1 {α : Type} (k : Nat) (Q : Ex -> St -> Option α) (x4 : Bool) (x5 : Int) (c0 c1 : D4) (c2 c5 : D4) :
  (lp C k) cd0 (blkQ C 0 (endQ C Q)) (St1 x4 x5 c0 c1 c2 c5) = l0 k (fun c0 c1 c2 => (fun c0 c1 c2 => Q .ret (St7 c0 c1 c2)) c0 c1 c2) k x4 x5 c0 c1 c2 c5 :=
 (lp_iter 9 (by kernel_rfl)).trans ((l0_eq k _ k x4 x5 c0 c1 c2 c5).trans (congrArg (fun X => l0 k X k x4 x5 c0 c1 c2 c5) (funext fun c0 => funext fun c1 => funext fun c2 => (by kernel_rfl))))
def top {α : Type} (k : Nat) (Rt : D4 -> D4 -> D4 -> Option α) (x0 c0 : D4) (c1 c2 : D4) : Option α :=
 l0 k (fun c0 c1 c2 => Rt c0 c1 c2) k false 3 c0 c1 c2 x0
theorem top_eq {α : Type} (k : Nat) (Q : Ex -> St -> Option α) (x0 c0 : D4) (c1 c2 : D4) :
  (den C k) (cB Try.f138) (endQ C Q) (St0 x0 c0 c1 c2) = top k (fun c0 c1 c2 => Q .ret (St7 c0 c1 c2)) x0 c0 c1 c2 := by
 have h : ∀ (D L : DT α), denJ D L Js C (cB Try.f138) (endQ C Q) (St0 x0 c0 c1 c2) =
    L cd0 (blkQ C 0 (endQ C Q)) (St1 false 3 c0 c1 c2 x0) := by
  intro D L; kernel_rfl
 have h2 := via (k := k) h
 refine h2.trans ?_
 simp only [a1]
 first | rfl | kernel_rfl
def run (x0 c0 : D4) (c1 c2 : D4) : Option D17 := top (α := List Int × List Int × List Int × Unit) fuel (fun c0 c1 c2 => some (c0, c1, c2, ())) x0 c0 c1 c2
def Sp : Spec := ⟨[hD T23, .fn 146 [] [.ref 0 0 [], .ref 1 0 [], .ref 2 0 []]], [(0, hC T23 (hD T23) false), (1, hC T23 (hD T23) false), (2, hC T23 (hD T23) false)], T48, .tup [], [(0, hC T23 (hD T23) false), (1, hC T23 (hD T23) false), (2, hC T23 (hD T23) false)], T46, fun x => run x.1 x.2.1 x.2.2.1 x.2.2.2.1⟩
set_option maxRecDepth 100000 in
theorem sok : SOk Try.prog 138 Sp.h := by
 refine sok_of_den (C := C) (ctx_ok_sh (by kernel_rfl) (by kernel_rfl) (by kernel_rfl) (by kernel_rfl) trivial ⟨⟨⟨field_Pow_1_s0.sok, trivial⟩, field_Pow_1_s0.named⟩, trivial⟩) (by kernel_rfl) Try.func138 (c := cB Try.f138) (by kernel_rfl) (by kernel_rfl) Sp fuel (by kernel_rfl) (by kernel_rfl) ?_
 intro x r h
 rw [<- h]
 have h1 : Sp.start x Try.f138.ntmps = (St0 x.1 x.2.1 x.2.2.1 x.2.2.2.1) := by kernel_rfl
 rw [h1]
 refine (top_eq fuel (finS C Try.f138.results.toList Sp.read) x.1 x.2.1 x.2.2.1 x.2.2.2.1).trans ?_
 kernel_rfl
theorem named : Named Try.prog 138 := named_of Try.func138 (by kernel_rfl) (by kernel_rfl)
end Go.Bx.field_bits_s1
namespace Go.Bx.field_Pow
def Js : List Nat := []
def C : Ctx := ⟨[(24, T23), (35, T1), (167, T49)], [], [], fnL [(85, field_fault.F), (86, wide_DivMod.F)], shL [(138, [.one field_bits_s1.Sp])], [(29, 32)], invL [], [(2, [6, 7])], [], [], 0, 0⟩
def St0 (x0 x1 x2 : D4) : St := stL 31 [(0, .data T23 x0), (1, .data T23 x1), (2, .data T23 x2)] []
def St1 (x7 : Int) (c6 : D4) : St := stL 31 [(6, .ref 6 0 []), (7, .data T1 x7)] [(6, .cell T23 (.data T23 c6) false)]
def top {α : Type} (Rt : Int -> D4 -> Option α) (x0 x1 x2 : D4) : Option α :=
 (field_fault.run x2 [x0]).bind fun y1 =>
 if (y1 != 0) = true then
  Rt y1 [0, 0, 0, 0]
 else
  (wide_DivMod.run [1, 0, 0, 0] x2).bind fun y2 =>
  (field_bits_s1.run x1 y2.2.1 x2 x0).bind fun y3 =>
  Rt 0 y3.1
theorem top_eq {α : Type} (k : Nat) (Q : Ex -> St -> Option α) (x0 x1 x2 : D4) :
  (den C k) (cB Try.f107) Q (St0 x0 x1 x2) = top (fun x7 c6 => Q .ret (St1 x7 c6)) x0 x1 x2 := by
 have h : ∀ (D L : DT α), denJ D L Js C (cB Try.f107) Q (St0 x0 x1 x2) = top (fun x7 c6 => Q .ret (St1 x7 c6)) x0 x1 x2 := by
  intro D L; kernel_rfl
 have h2 := via (k := k) h
 exact h2
def run (x0 x1 x2 : D4) : Option D20 := top (α := List Int × Int × Unit) (fun x7 c6 => some (c6, x7, ())) x0 x1 x2
def F : Fn := ⟨T46, T52, true, fun x => run x.1 x.2.1 x.2.2.1⟩
theorem con : Con Try.prog 107 F :=
 con_of (C := C) (ctx_ok_sh (by kernel_rfl) (by kernel_rfl) (by kernel_rfl) (by kernel_rfl) ⟨.inl ⟨field_fault.con, field_fault.named⟩, ⟨.inl ⟨wide_DivMod.con, wide_DivMod.named⟩, trivial⟩⟩ ⟨⟨⟨field_bits_s1.sok, trivial⟩, field_bits_s1.named⟩, trivial⟩) (by kernel_rfl) Try.func107 (c := cB Try.f107) (by kernel_rfl) (by kernel_rfl) F (fun x => by simp [F, spread, Try.ntmps107]) (fun x => (St0 x.1 x.2.1 x.2.2.1)) (fun x => by kernel_rfl) fun x => (top_eq fuel _ x.1 x.2.1 x.2.2.1).trans (by kernel_rfl)
theorem named : Named Try.prog 107 := named_of Try.func107 (by kernel_rfl) (by kernel_rfl)
end Go.Bx.field_Pow
namespace Go.Bx.curve_Lift
def Js : List Nat := [14]
def C : Ctx := ⟨[(4, .bool), (22, T34), (24, T23), (35, T1), (45, T56), (47, T53), (132, T54)], [], [], fnL [(45, curve_Check.F), (46, wide_Add.F), (47, wide_Cmp.F), (82, curve_on.F), (86, wide_DivMod.F), (107, field_Pow.F), (109, wide_Sub.F)], shL [(101, [.one curve_ringOf_s0.Sp]), (106, [.one curve_ring__take_s1.Sp]), (108, [.one curve_side_s0.Sp])], [(28, 89), (47, 91), (54, 92)], invL [], [(2, [6, 7]), (39, [2, 3, 4, 6, 13])], [], [], 0, 0⟩
def St0 (x0 : D21) (x1 : D4) (x2 : Bool) : St := stL 88 [(0, .data T53 x0), (1, .data T23 x1), (2, .data .bool x2)] []
def St1 (x7 : Int) (c6 : D22) : St := stL 88 [(6, .ref 6 0 []), (7, .data T1 x7)] [(6, .cell T56 (.data T56 c6) false)]
def St2 (x2 : Bool) (c3 : D21) (c4 : D4) (c6 : D22) (c13 : D4) : St := stL 88 [(2, .data .bool x2), (3, .ref 3 0 []), (4, .ref 4 0 []), (6, .ref 6 0 []), (13, .ref 13 0 [])] [(3, .cell T53 (.data T53 c3) false), (4, .cell T23 (.data T23 c4) false), (6, .cell T56 (.data T56 c6) false), (13, .cell T23 (.data T23 c13) false)]
noncomputable def cd0 : Code := cR (cR (cR (cR (cR (cR (cR (cR (cB Try.f48))))))))
def j0 {α : Type} (Rt : Int -> D22 -> Option α) (x2 : Bool) (c3 : D21) (c4 : D4) (c6 : D22) (c13 : D4) : Option α :=
 (if ((not (beqD .bool ((Int.tmod (List.getD c13 0 0) 2) == 1) x2)) == false) = true then curve_on.run c3 (c4, c13, false, ()) else some false).bind fun y10 =>
 if (cond (not (beqD .bool ((Int.tmod (List.getD c13 0 0) 2) == 1) x2)) true (not y10)) = true then
  Rt 16 ([0, 0, 0, 0], [0, 0, 0, 0], false, ())
 else
  Rt 0 (c4, c13, false, ())
theorem j0_eq {α : Type} (k : Nat) (Q : Ex -> St -> Option α) (x2 : Bool) (c3 : D21) (c4 : D4) (c6 : D22) (c13 : D4) :
  (den C k) cd0 Q (St2 x2 c3 c4 c6 c13) = j0 (fun x7 c6 => Q .ret (St1 x7 c6)) x2 c3 c4 c6 c13 := by
 have h : ∀ (D L : DT α), denJ D L Js C cd0 Q (St2 x2 c3 c4 c6 c13) = j0 (fun x7 c6 => Q .ret (St1 x7 c6)) x2 c3 c4 c6 c13 := by
  intro D L; kernel_rfl
 have h2 := via (k := k) h
 exact h2
def top {α : Type} (Rt : Int -> D22 -> Option α) (x0 : D21) (x1 : D4) (x2 : Bool) : Option α :=
 (curve_Check.run x0).bind fun y1 =>
 if (y1 != 0) = true then
  Rt y1 ([0, 0, 0, 0], [0, 0, 0, 0], false, ())
 else
  (wide_Cmp.run x1 x0.1).bind fun y2 =>
  if (decide (y2 >= 0)) = true then
   Rt 6 ([0, 0, 0, 0], [0, 0, 0, 0], false, ())
  else
   (curve_ringOf_s0.run x0).bind fun y3 =>
   (wide_DivMod.run x0.1 [4, 0, 0, 0]).bind fun y4 =>
   (wide_Add.run y4.1 [1, 0, 0, 0]).bind fun y5 =>
   (curve_side_s0.run x0 y3.1 x1 y3.2.2.1).bind fun y6 =>
   (field_Pow.run y6.1 y5.1 x0.1).bind fun y7 =>
   (curve_ring__take_s1.run y3.1 y7.1 y7.2.1 y6.2.1).bind fun y8 =>
   if (not (beqD .bool ((Int.tmod (List.getD y8.1 0 0) 2) == 1) x2)) = true then
    if (not (beqD T23 y8.1 [0, 0, 0, 0])) = true then
     (wide_Sub.run x0.1 y8.1).bind fun y9 =>
     j0 Rt x2 x0 x1 ([0, 0, 0, 0], [0, 0, 0, 0], false, ()) y9.1
    else
     j0 Rt x2 x0 x1 ([0, 0, 0, 0], [0, 0, 0, 0], false, ()) y8.1
   else
    j0 Rt x2 x0 x1 ([0, 0, 0, 0], [0, 0, 0, 0], false, ()) y8.1
theorem top_eq {α : Type} (k : Nat) (Q : Ex -> St -> Option α) (x0 : D21) (x1 : D4) (x2 : Bool) :
  (den C k) (cB Try.f48) Q (St0 x0 x1 x2) = top (fun x7 c6 => Q .ret (St1 x7 c6)) x0 x1 x2 := by
 have h : ∀ (D L : DT α), denJ D L Js C (cB Try.f48) Q (St0 x0 x1 x2) =
    (curve_Check.run x0).bind fun y1 =>
    if (y1 != 0) = true then
     Q .ret (St1 y1 ([0, 0, 0, 0], [0, 0, 0, 0], false, ()))
    else
     (wide_Cmp.run x1 x0.1).bind fun y2 =>
     if (decide (y2 >= 0)) = true then
      Q .ret (St1 6 ([0, 0, 0, 0], [0, 0, 0, 0], false, ()))
     else
      (curve_ringOf_s0.run x0).bind fun y3 =>
      (wide_DivMod.run x0.1 [4, 0, 0, 0]).bind fun y4 =>
      (wide_Add.run y4.1 [1, 0, 0, 0]).bind fun y5 =>
      (curve_side_s0.run x0 y3.1 x1 y3.2.2.1).bind fun y6 =>
      (field_Pow.run y6.1 y5.1 x0.1).bind fun y7 =>
      (curve_ring__take_s1.run y3.1 y7.1 y7.2.1 y6.2.1).bind fun y8 =>
      if (not (beqD .bool ((Int.tmod (List.getD y8.1 0 0) 2) == 1) x2)) = true then
       if (not (beqD T23 y8.1 [0, 0, 0, 0])) = true then
        (wide_Sub.run x0.1 y8.1).bind fun y9 =>
        D cd0 Q (St2 x2 x0 x1 ([0, 0, 0, 0], [0, 0, 0, 0], false, ()) y9.1)
       else
        D cd0 Q (St2 x2 x0 x1 ([0, 0, 0, 0], [0, 0, 0, 0], false, ()) y8.1)
      else
       D cd0 Q (St2 x2 x0 x1 ([0, 0, 0, 0], [0, 0, 0, 0], false, ()) y8.1) := by
  intro D L; kernel_rfl
 have h2 := via (k := k) h
 refine h2.trans ?_
 simp only [j0_eq]
 first | rfl | kernel_rfl
def run (x0 : D21) (x1 : D4) (x2 : Bool) : Option D28 := top (α := D22 × Int × Unit) (fun x7 c6 => some (c6, x7, ())) x0 x1 x2
def F : Fn := ⟨T84, T75, true, fun x => run x.1 x.2.1 x.2.2.1⟩
theorem con : Con Try.prog 48 F :=
 con_of (C := C) (ctx_ok_sh (by kernel_rfl) (by kernel_rfl) (by kernel_rfl) (by kernel_rfl) ⟨.inl ⟨curve_Check.con, curve_Check.named⟩, ⟨.inl ⟨wide_Add.con, wide_Add.named⟩, ⟨.inl ⟨wide_Cmp.con, wide_Cmp.named⟩, ⟨.inl ⟨curve_on.con, curve_on.named⟩, ⟨.inl ⟨wide_DivMod.con, wide_DivMod.named⟩, ⟨.inl ⟨field_Pow.con, field_Pow.named⟩, ⟨.inl ⟨wide_Sub.con, wide_Sub.named⟩, trivial⟩⟩⟩⟩⟩⟩⟩ ⟨⟨⟨curve_ringOf_s0.sok, trivial⟩, curve_ringOf_s0.named⟩, ⟨⟨⟨curve_ring__take_s1.sok, trivial⟩, curve_ring__take_s1.named⟩, ⟨⟨⟨curve_side_s0.sok, trivial⟩, curve_side_s0.named⟩, trivial⟩⟩⟩) (by kernel_rfl) Try.func48 (c := cB Try.f48) (by kernel_rfl) (by kernel_rfl) F (fun x => by simp [F, spread, Try.ntmps48]) (fun x => (St0 x.1 x.2.1 x.2.2.1)) (fun x => by kernel_rfl) fun x => (top_eq fuel _ x.1 x.2.1 x.2.2.1).trans (by kernel_rfl)
theorem named : Named Try.prog 48 := named_of Try.func48 (by kernel_rfl) (by kernel_rfl)
end Go.Bx.curve_Lift
namespace Go.Bx.basculeref_Lifted
def Js : List Nat := [12, 20]
def C : Ctx := ⟨[(4, .bool), (22, T34), (24, T23), (35, T1), (45, T56), (47, T53), (84, T78)], [], [], fnL [(43, basculeref_of.F), (50, basculeref_CurveFault.F), (51, basculeref_plus.F), (52, basculeref_wide.F), (53, basculeref_Order.F), (55, basculeref_opposite.F), (92, basculeref_isOn.F), (94, basculeref_Quotient.F), (112, basculeref_power.F), (115, basculeref_right.F)], noSh, [], invL [], [(2, [6, 7]), (1, [6]), (4, [2, 3, 4, 6, 15, 59]), (33, [2, 3, 4, 6, 12]), (39, [2, 3, 4, 6, 15, 59]), (57, [6])], [], [], 0, 0⟩
def St0 (x0 : D21) (x1 : D4) (x2 : Bool) : St := stL 82 [(0, .data T53 x0), (1, .data T23 x1), (2, .data .bool x2)] []
def St1 (x7 : Int) (c6 : D22) : St := stL 82 [(6, .ref 6 0 []), (7, .data T1 x7)] [(6, .cell T56 (.data T56 c6) false)]
def St2 (x2 : Bool) (c3 : D21) (c4 : D4) (c6 : D22) (c12 : D4) : St := stL 82 [(2, .data .bool x2), (3, .ref 3 0 []), (4, .ref 4 0 []), (6, .ref 6 0 []), (12, .ref 12 0 [])] [(3, .cell T53 (.data T53 c3) false), (4, .cell T23 (.data T23 c4) false), (6, .cell T56 (.data T56 c6) false), (12, .cell T23 (.data T23 c12) false)]
noncomputable def cd0 : Code := cR (cR (cR (cR (cR (cR (cR (cB Try.f54)))))))
def St3 (x2 : Bool) (x59 : Int) (c3 : D21) (c4 : D4) (c6 : D22) (c15 : D4) : St := stL 82 [(2, .data .bool x2), (3, .ref 3 0 []), (4, .ref 4 0 []), (6, .ref 6 0 []), (15, .ref 15 0 []), (59, .data T1 x59)] [(3, .cell T53 (.data T53 c3) false), (4, .cell T23 (.data T23 c4) false), (6, .cell T56 (.data T56 c6) false), (15, .cell T23 (.data T23 c15) false)]
noncomputable def cd1 : Code := cL (cL (cR (cL (cR (cR (cR (cR (cR (cR (cR (cR (cB Try.f54))))))))))))
def St4 (c6 : D22) : St := stL 82 [(6, .ref 6 0 [])] [(6, .cell T56 (.data T56 c6) false)]
def l0s {α : Type} (Nx : Bool -> Int -> D21 -> D4 -> D22 -> D4 -> Option α) (Rt : Int -> D22 -> Option α) (Xt0 : D22 -> Option α) (x2 : Bool) (x59 : Int) (c3 : D21) (c4 : D4) (c6 : D22) (c15 : D4) : Option α :=
 if (decide (x59 < 2)) = true then
  (if ((beqD .bool ((band .u64 (List.getD c15 0 0) 1) == 1) x2) == true) = true then basculeref_isOn.run c3 (c4, c15, false, ()) else some false).bind fun y10 =>
  if (cond (beqD .bool ((band .u64 (List.getD c15 0 0) 1) == 1) x2) y10 false) = true then
   Rt 0 (c4, c15, false, ())
  else
   (basculeref_opposite.run c15 c3.1).bind fun y11 =>
   Nx x2 (IntKind.i64.wrap (x59 + 1)) c3 c4 c6 y11
 else
  Xt0 c6
theorem l0s_eq {α : Type} (k : Nat) (next : St -> Option α) (Q : Ex -> St -> Option α) (x2 : Bool) (x59 : Int) (c3 : D21) (c4 : D4) (c6 : D22) (c15 : D4) :
  rnd C k cd1 39 Q next (St3 x2 x59 c3 c4 c6 c15) = l0s (fun x2 x59 c3 c4 c6 c15 => next (St3 x2 x59 c3 c4 c6 c15)) (fun x7 c6 => Q .ret (St1 x7 c6)) (fun c6 => Q (.exit 0) (St4 c6)) x2 x59 c3 c4 c6 c15 := by
 have h : ∀ (D L : DT α), denJ D L Js C cd1 (lq C 39 next Q) (St3 x2 x59 c3 c4 c6 c15) = l0s (fun x2 x59 c3 c4 c6 c15 => next (St3 x2 x59 c3 c4 c6 c15)) (fun x7 c6 => Q .ret (St1 x7 c6)) (fun c6 => Q (.exit 0) (St4 c6)) x2 x59 c3 c4 c6 c15 := by
  intro D L; kernel_rfl
 have h2 := via (k := k) h
 exact h2
def l0 {α : Type} (k : Nat) (Rt : Int -> D22 -> Option α) (Xt0 : D22 -> Option α) : Nat -> Bool -> Int -> D21 -> D4 -> D22 -> D4 -> Option α
 | 0, _, _, _, _, _, _ => none
 | n + 1, x2, x59, c3, c4, c6, c15 => l0s (l0 k Rt Xt0 n) Rt Xt0 x2 x59 c3 c4 c6 c15
theorem l0_eq {α : Type} (k : Nat) (Q : Ex -> St -> Option α) : ∀ (n : Nat) (x2 : Bool) (x59 : Int) (c3 : D21) (c4 : D4) (c6 : D22) (c15 : D4), iter (rnd C k cd1 39 Q) n (St3 x2 x59 c3 c4 c6 c15) = l0 k (fun x7 c6 => Q .ret (St1 x7 c6)) (fun c6 => Q (.exit 0) (St4 c6)) n x2 x59 c3 c4 c6 c15
 | 0, _, _, _, _, _, _ => rfl
 | n + 1, x2, x59, c3, c4, c6, c15 => (iter_succ _ _ _).trans ((l0s_eq k _ Q x2 x59 c3 c4 c6 c15).trans (congrArg (fun N => l0s N (fun x7 c6 => Q .ret (St1 x7 c6)) (fun c6 => Q (.exit 0) (St4 c6)) x2 x59 c3 c4 c6 c15) (by funext; exact l0_eq k Q n _ _ _ _ _ _)))
theorem l0_congr {α : Type} (k : Nat) (Rt : Int -> D22 -> Option α) (Xt0 : D22 -> Option α) (Rtq : Int -> D22 -> Option α) (Xt0q : D22 -> Option α) (hRt : ∀ (x7 : Int) (c6 : D22), Rt x7 c6 = Rtq x7 c6) (hXt0 : ∀ (c6 : D22), Xt0 c6 = Xt0q c6) (n : Nat) (x2 : Bool) (x59 : Int) (c3 : D21) (c4 : D4) (c6 : D22) (c15 : D4) : l0 k Rt Xt0 n x2 x59 c3 c4 c6 c15 = l0 k Rtq Xt0q n x2 x59 c3 c4 c6 c15 := by
 obtain rfl : Rt = Rtq := by funext x7; funext c6; exact hRt x7 c6
 obtain rfl : Xt0 = Xt0q := by funext c6; exact hXt0 c6
 rfl
noncomputable def cd2 : Code := cR (cR (cR (cR (cR (cR (cR (cR (cR (cB Try.f54)))))))))
def St5 (c6 : D22) : St := stL 82 [(6, .ref 6 0 [])] [(6, .cell T56 (.data T56 c6) false)]
def j1 {α : Type} (Rt : Int -> D22 -> Option α) (c6 : D22) : Option α :=
 Rt 16 ([0, 0, 0, 0], [0, 0, 0, 0], false, ())
theorem j1_eq {α : Type} (k : Nat) (Q : Ex -> St -> Option α) (c6 : D22) :
  (den C k) cd2 Q (St5 c6) = j1 (fun x7 c6 => Q .ret (St1 x7 c6)) c6 := by
 have h : ∀ (D L : DT α), denJ D L Js C cd2 Q (St5 c6) = j1 (fun x7 c6 => Q .ret (St1 x7 c6)) c6 := by
  intro D L; kernel_rfl
 have h2 := via (k := k) h
 exact h2
theorem a0 {α : Type} (k : Nat) (Q : Ex -> St -> Option α) (x2 : Bool) (x59 : Int) (c3 : D21) (c4 : D4) (c6 : D22) (c15 : D4) :
  (lp C k) cd1 (blkQ C 0 (sq (den C k) (lp C k) Js C cd2 Q)) (St3 x2 x59 c3 c4 c6 c15) = l0 k (fun x7 c6 => (fun x7 c6 => Q .ret (St1 x7 c6)) x7 c6) (fun c6 => j1 (fun x7 c6 => Q .ret (St1 x7 c6)) c6) k x2 x59 c3 c4 c6 c15 :=
 (lp_iter 39 (by kernel_rfl)).trans ((l0_eq k _ k x2 x59 c3 c4 c6 c15).trans (l0_congr k _ _ _ _ (fun x7 c6 => (by kernel_rfl)) (fun c6 => (Eq.trans (b := (den C k) cd2 Q (St5 c6)) (by kernel_rfl) (by simp only [j1_eq]))) k x2 x59 c3 c4 c6 c15))
def j0 {α : Type} (k : Nat) (Rt : Int -> D22 -> Option α) (x2 : Bool) (c3 : D21) (c4 : D4) (c6 : D22) (c12 : D4) : Option α :=
 (basculeref_right.run c3 c4).bind fun y8 =>
 (basculeref_power.run y8 c12 c3.1).bind fun y9 =>
 l0 k (fun x7 c6 => Rt x7 c6) (fun c6 => j1 Rt c6) k x2 0 c3 c4 c6 y9
theorem j0_eq {α : Type} (k : Nat) (Q : Ex -> St -> Option α) (x2 : Bool) (c3 : D21) (c4 : D4) (c6 : D22) (c12 : D4) :
  (den C k) cd0 Q (St2 x2 c3 c4 c6 c12) = j0 k (fun x7 c6 => Q .ret (St1 x7 c6)) x2 c3 c4 c6 c12 := by
 have h : ∀ (D L : DT α), denJ D L Js C cd0 Q (St2 x2 c3 c4 c6 c12) =
    (basculeref_right.run c3 c4).bind fun y8 =>
    (basculeref_power.run y8 c12 c3.1).bind fun y9 =>
    L cd1 (blkQ C 0 (sq D L Js C cd2 Q)) (St3 x2 0 c3 c4 c6 y9) := by
  intro D L; kernel_rfl
 have h2 := via (k := k) h
 refine h2.trans ?_
 simp only [a0]
 first | rfl | kernel_rfl
def top {α : Type} (k : Nat) (Rt : Int -> D22 -> Option α) (x0 : D21) (x1 : D4) (x2 : Bool) : Option α :=
 (basculeref_CurveFault.run x0).bind fun y1 =>
 if (y1 != 0) = true then
  Rt y1 ([0, 0, 0, 0], [0, 0, 0, 0], false, ())
 else
  (basculeref_Order.run x1 x0.1).bind fun y2 =>
  if (decide (y2 >= 0)) = true then
   Rt 6 ([0, 0, 0, 0], [0, 0, 0, 0], false, ())
  else
   (basculeref_of.run x0.1).bind fun y3 =>
   (basculeref_plus.run y3 [1]).bind fun y4 =>
   (basculeref_wide.run y4).bind fun y5 =>
   (basculeref_Order.run y5.1 x0.1).bind fun y6 =>
   (basculeref_Quotient.run y5.1 [4, 0, 0, 0]).bind fun y7 =>
   if (decide (y6 < 0)) = true then
    j0 k Rt x2 x0 x1 ([0, 0, 0, 0], [0, 0, 0, 0], false, ()) [0, 0, 0, 4611686018427387904]
   else
    j0 k Rt x2 x0 x1 ([0, 0, 0, 0], [0, 0, 0, 0], false, ()) y7.1
theorem top_eq {α : Type} (k : Nat) (Q : Ex -> St -> Option α) (x0 : D21) (x1 : D4) (x2 : Bool) :
  (den C k) (cB Try.f54) Q (St0 x0 x1 x2) = top k (fun x7 c6 => Q .ret (St1 x7 c6)) x0 x1 x2 := by
 have h : ∀ (D L : DT α), denJ D L Js C (cB Try.f54) Q (St0 x0 x1 x2) =
    (basculeref_CurveFault.run x0).bind fun y1 =>
    if (y1 != 0) = true then
     Q .ret (St1 y1 ([0, 0, 0, 0], [0, 0, 0, 0], false, ()))
    else
     (basculeref_Order.run x1 x0.1).bind fun y2 =>
     if (decide (y2 >= 0)) = true then
      Q .ret (St1 6 ([0, 0, 0, 0], [0, 0, 0, 0], false, ()))
     else
      (basculeref_of.run x0.1).bind fun y3 =>
      (basculeref_plus.run y3 [1]).bind fun y4 =>
      (basculeref_wide.run y4).bind fun y5 =>
      (basculeref_Order.run y5.1 x0.1).bind fun y6 =>
      (basculeref_Quotient.run y5.1 [4, 0, 0, 0]).bind fun y7 =>
      if (decide (y6 < 0)) = true then
       D cd0 Q (St2 x2 x0 x1 ([0, 0, 0, 0], [0, 0, 0, 0], false, ()) [0, 0, 0, 4611686018427387904])
      else
       D cd0 Q (St2 x2 x0 x1 ([0, 0, 0, 0], [0, 0, 0, 0], false, ()) y7.1) := by
  intro D L; kernel_rfl
 have h2 := via (k := k) h
 refine h2.trans ?_
 simp only [j0_eq]
 first | rfl | kernel_rfl
def run (x0 : D21) (x1 : D4) (x2 : Bool) : Option D28 := top (α := D22 × Int × Unit) fuel (fun x7 c6 => some (c6, x7, ())) x0 x1 x2
def F : Fn := ⟨T84, T75, true, fun x => run x.1 x.2.1 x.2.2.1⟩
theorem con : Con Try.prog 54 F :=
 con_of (C := C) (ctx_ok (by kernel_rfl) (by kernel_rfl) (by kernel_rfl) (by kernel_rfl) ⟨.inl ⟨basculeref_of.con, basculeref_of.named⟩, ⟨.inl ⟨basculeref_CurveFault.con, basculeref_CurveFault.named⟩, ⟨.inl ⟨basculeref_plus.con, basculeref_plus.named⟩, ⟨.inl ⟨basculeref_wide.con, basculeref_wide.named⟩, ⟨.inl ⟨basculeref_Order.con, basculeref_Order.named⟩, ⟨.inl ⟨basculeref_opposite.con, basculeref_opposite.named⟩, ⟨.inl ⟨basculeref_isOn.con, basculeref_isOn.named⟩, ⟨.inl ⟨basculeref_Quotient.con, basculeref_Quotient.named⟩, ⟨.inl ⟨basculeref_power.con, basculeref_power.named⟩, ⟨.inl ⟨basculeref_right.con, basculeref_right.named⟩, trivial⟩⟩⟩⟩⟩⟩⟩⟩⟩⟩) (by kernel_rfl) Try.func54 (c := cB Try.f54) (by kernel_rfl) (by kernel_rfl) F (fun x => by simp [F, spread, Try.ntmps54]) (fun x => (St0 x.1 x.2.1 x.2.2.1)) (fun x => by kernel_rfl) fun x => (top_eq fuel _ x.1 x.2.1 x.2.2.1).trans (by kernel_rfl)
theorem named : Named Try.prog 54 := named_of Try.func54 (by kernel_rfl) (by kernel_rfl)
end Go.Bx.basculeref_Lifted
namespace Go.Bx.sign_secret
def Js : List Nat := []
def C : Ctx := ⟨[(4, .bool), (24, T23), (47, T53)], [], [], fnL [(47, wide_Cmp.F)], noSh, [], invL [], [(2, [4])], [], [], 0, 0⟩
def St0 (x0 : D21) (x1 : D4) : St := stL 15 [(0, .data T53 x0), (1, .data T23 x1)] []
def St1 (x4 : Bool) : St := stL 15 [(4, .data .bool x4)] []
def top {α : Type} (Rt : Bool -> Option α) (x0 : D21) (x1 : D4) : Option α :=
 (if ((not (beqD T23 x1 [0, 0, 0, 0])) == true) = true then wide_Cmp.run x1 x0.2.2.2.1 else some 0).bind fun y1 =>
 Rt (cond (not (beqD T23 x1 [0, 0, 0, 0])) (decide (y1 < 0)) false)
theorem top_eq {α : Type} (k : Nat) (Q : Ex -> St -> Option α) (x0 : D21) (x1 : D4) :
  (den C k) (cB Try.f83) Q (St0 x0 x1) = top (fun x4 => Q .ret (St1 x4)) x0 x1 := by
 have h : ∀ (D L : DT α), denJ D L Js C (cB Try.f83) Q (St0 x0 x1) = top (fun x4 => Q .ret (St1 x4)) x0 x1 := by
  intro D L; kernel_rfl
 have h2 := via (k := k) h
 exact h2
def run (x0 : D21) (x1 : D4) : Option (Bool) := top (α := Bool) (fun x4 => some x4) x0 x1
def F : Fn := ⟨T67, .bool, false, fun x => run x.1 x.2.1⟩
theorem con : Con Try.prog 83 F :=
 con_of (C := C) (ctx_ok (by kernel_rfl) (by kernel_rfl) (by kernel_rfl) (by kernel_rfl) ⟨.inl ⟨wide_Cmp.con, wide_Cmp.named⟩, trivial⟩) (by kernel_rfl) Try.func83 (c := cB Try.f83) (by kernel_rfl) (by kernel_rfl) F (fun x => by simp [F, spread, Try.ntmps83]) (fun x => (St0 x.1 x.2.1)) (fun x => by kernel_rfl) fun x => (top_eq fuel _ x.1 x.2.1).trans (by kernel_rfl)
theorem named : Named Try.prog 83 := named_of Try.func83 (by kernel_rfl) (by kernel_rfl)
end Go.Bx.sign_secret
namespace Go.Bx.basculeref_mayBeSecret
def Js : List Nat := []
def C : Ctx := ⟨[(4, .bool), (24, T23), (47, T53)], [], [], fnL [(53, basculeref_Order.F), (113, basculeref_isZero.F)], noSh, [], invL [], [(2, [4])], [], [], 0, 0⟩
def St0 (x0 : D21) (x1 : D4) : St := stL 15 [(0, .data T53 x0), (1, .data T23 x1)] []
def St1 (x4 : Bool) : St := stL 15 [(4, .data .bool x4)] []
def top {α : Type} (Rt : Bool -> Option α) (x0 : D21) (x1 : D4) : Option α :=
 (basculeref_isZero.run x1).bind fun y1 =>
 (if ((not y1) == true) = true then basculeref_Order.run x1 x0.2.2.2.1 else some 0).bind fun y2 =>
 Rt (cond (not y1) (decide (y2 < 0)) false)
theorem top_eq {α : Type} (k : Nat) (Q : Ex -> St -> Option α) (x0 : D21) (x1 : D4) :
  (den C k) (cB Try.f93) Q (St0 x0 x1) = top (fun x4 => Q .ret (St1 x4)) x0 x1 := by
 have h : ∀ (D L : DT α), denJ D L Js C (cB Try.f93) Q (St0 x0 x1) = top (fun x4 => Q .ret (St1 x4)) x0 x1 := by
  intro D L; kernel_rfl
 have h2 := via (k := k) h
 exact h2
def run (x0 : D21) (x1 : D4) : Option (Bool) := top (α := Bool) (fun x4 => some x4) x0 x1
def F : Fn := ⟨T67, .bool, false, fun x => run x.1 x.2.1⟩
theorem con : Con Try.prog 93 F :=
 con_of (C := C) (ctx_ok (by kernel_rfl) (by kernel_rfl) (by kernel_rfl) (by kernel_rfl) ⟨.inl ⟨basculeref_Order.con, basculeref_Order.named⟩, ⟨.inl ⟨basculeref_isZero.con, basculeref_isZero.named⟩, trivial⟩⟩) (by kernel_rfl) Try.func93 (c := cB Try.f93) (by kernel_rfl) (by kernel_rfl) F (fun x => by simp [F, spread, Try.ntmps93]) (fun x => (St0 x.1 x.2.1)) (fun x => by kernel_rfl) fun x => (top_eq fuel _ x.1 x.2.1).trans (by kernel_rfl)
theorem named : Named Try.prog 93 := named_of Try.func93 (by kernel_rfl) (by kernel_rfl)
end Go.Bx.basculeref_mayBeSecret
namespace Go.Bx.sign_rest
def Js : List Nat := []
def C : Ctx := ⟨[(24, T23)], [], [], fnL [(86, wide_DivMod.F)], noSh, [], invL [], [(2, [4])], [], [], 0, 0⟩
def St0 (x0 x1 : D4) : St := stL 16 [(0, .data T23 x0), (1, .data T23 x1)] []
def St1 (c4 : D4) : St := stL 16 [(4, .ref 4 0 [])] [(4, .cell T23 (.data T23 c4) false)]
def top {α : Type} (Rt : D4 -> Option α) (x0 x1 : D4) : Option α :=
 (wide_DivMod.run x0 x1).bind fun y1 =>
 Rt y1.2.1
theorem top_eq {α : Type} (k : Nat) (Q : Ex -> St -> Option α) (x0 x1 : D4) :
  (den C k) (cB Try.f34) Q (St0 x0 x1) = top (fun c4 => Q .ret (St1 c4)) x0 x1 := by
 have h : ∀ (D L : DT α), denJ D L Js C (cB Try.f34) Q (St0 x0 x1) = top (fun c4 => Q .ret (St1 c4)) x0 x1 := by
  intro D L; kernel_rfl
 have h2 := via (k := k) h
 exact h2
def run (x0 x1 : D4) : Option D4 := top (α := List Int) (fun c4 => some c4) x0 x1
def F : Fn := ⟨T44, T23, false, fun x => run x.1 x.2.1⟩
theorem con : Con Try.prog 34 F :=
 con_of (C := C) (ctx_ok (by kernel_rfl) (by kernel_rfl) (by kernel_rfl) (by kernel_rfl) ⟨.inl ⟨wide_DivMod.con, wide_DivMod.named⟩, trivial⟩) (by kernel_rfl) Try.func34 (c := cB Try.f34) (by kernel_rfl) (by kernel_rfl) F (fun x => by simp [F, spread, Try.ntmps34]) (fun x => (St0 x.1 x.2.1)) (fun x => by kernel_rfl) fun x => (top_eq fuel _ x.1 x.2.1).trans (by kernel_rfl)
theorem named : Named Try.prog 34 := named_of Try.func34 (by kernel_rfl) (by kernel_rfl)
end Go.Bx.sign_rest
namespace Go.Bx.sign_low
def Js : List Nat := []
def C : Ctx := ⟨[(4, .bool), (24, T23), (47, T53)], [], [], fnL [(47, wide_Cmp.F), (86, wide_DivMod.F)], noSh, [], invL [], [(2, [4])], [], [], 0, 0⟩
def St0 (x0 : D21) (x1 : D4) : St := stL 20 [(0, .data T53 x0), (1, .data T23 x1)] []
def St1 (x4 : Bool) : St := stL 20 [(4, .data .bool x4)] []
def top {α : Type} (Rt : Bool -> Option α) (x0 : D21) (x1 : D4) : Option α :=
 (wide_DivMod.run x0.2.2.2.1 [2, 0, 0, 0]).bind fun y1 =>
 (wide_Cmp.run x1 y1.1).bind fun y2 =>
 Rt (decide (y2 <= 0))
theorem top_eq {α : Type} (k : Nat) (Q : Ex -> St -> Option α) (x0 : D21) (x1 : D4) :
  (den C k) (cB Try.f84) Q (St0 x0 x1) = top (fun x4 => Q .ret (St1 x4)) x0 x1 := by
 have h : ∀ (D L : DT α), denJ D L Js C (cB Try.f84) Q (St0 x0 x1) = top (fun x4 => Q .ret (St1 x4)) x0 x1 := by
  intro D L; kernel_rfl
 have h2 := via (k := k) h
 exact h2
def run (x0 : D21) (x1 : D4) : Option (Bool) := top (α := Bool) (fun x4 => some x4) x0 x1
def F : Fn := ⟨T67, .bool, false, fun x => run x.1 x.2.1⟩
theorem con : Con Try.prog 84 F :=
 con_of (C := C) (ctx_ok (by kernel_rfl) (by kernel_rfl) (by kernel_rfl) (by kernel_rfl) ⟨.inl ⟨wide_Cmp.con, wide_Cmp.named⟩, ⟨.inl ⟨wide_DivMod.con, wide_DivMod.named⟩, trivial⟩⟩) (by kernel_rfl) Try.func84 (c := cB Try.f84) (by kernel_rfl) (by kernel_rfl) F (fun x => by simp [F, spread, Try.ntmps84]) (fun x => (St0 x.1 x.2.1)) (fun x => by kernel_rfl) fun x => (top_eq fuel _ x.1 x.2.1).trans (by kernel_rfl)
theorem named : Named Try.prog 84 := named_of Try.func84 (by kernel_rfl) (by kernel_rfl)
end Go.Bx.sign_low
namespace Go.Bx.sign_formed
def Js : List Nat := []
def C : Ctx := ⟨[(3, T1), (4, .bool), (24, T23), (47, T53), (49, T64)], [], [], fnL [(83, sign_secret.F), (84, sign_low.F)], noSh, [], invL [], [(2, [4])], [], [], 0, 0⟩
def St0 (x0 : D21) (x1 : D24) : St := stL 31 [(0, .data T53 x0), (1, .data T64 x1)] []
def St1 (x4 : Bool) : St := stL 31 [(4, .data .bool x4)] []
def top {α : Type} (Rt : Bool -> Option α) (x0 : D21) (x1 : D24) : Option α :=
 (sign_secret.run x0 x1.1).bind fun y1 =>
 (if (y1 == true) = true then sign_secret.run x0 x1.2.1 else some false).bind fun y2 =>
 (if ((cond y1 y2 false) == true) = true then sign_low.run x0 x1.2.1 else some false).bind fun y3 =>
 Rt (cond (cond (cond (cond y1 y2 false) y3 false) (decide (x1.2.2.1 >= 0)) false) (decide (x1.2.2.1 <= 3)) false)
theorem top_eq {α : Type} (k : Nat) (Q : Ex -> St -> Option α) (x0 : D21) (x1 : D24) :
  (den C k) (cB Try.f31) Q (St0 x0 x1) = top (fun x4 => Q .ret (St1 x4)) x0 x1 := by
 have h : ∀ (D L : DT α), denJ D L Js C (cB Try.f31) Q (St0 x0 x1) = top (fun x4 => Q .ret (St1 x4)) x0 x1 := by
  intro D L; kernel_rfl
 have h2 := via (k := k) h
 exact h2
def run (x0 : D21) (x1 : D24) : Option (Bool) := top (α := Bool) (fun x4 => some x4) x0 x1
def F : Fn := ⟨T68, .bool, false, fun x => run x.1 x.2.1⟩
theorem con : Con Try.prog 31 F :=
 con_of (C := C) (ctx_ok (by kernel_rfl) (by kernel_rfl) (by kernel_rfl) (by kernel_rfl) ⟨.inl ⟨sign_secret.con, sign_secret.named⟩, ⟨.inl ⟨sign_low.con, sign_low.named⟩, trivial⟩⟩) (by kernel_rfl) Try.func31 (c := cB Try.f31) (by kernel_rfl) (by kernel_rfl) F (fun x => by simp [F, spread, Try.ntmps31]) (fun x => (St0 x.1 x.2.1)) (fun x => by kernel_rfl) fun x => (top_eq fuel _ x.1 x.2.1).trans (by kernel_rfl)
theorem named : Named Try.prog 31 := named_of Try.func31 (by kernel_rfl) (by kernel_rfl)
end Go.Bx.sign_formed
namespace Go.Bx.basculeref_mayBeSign
def Js : List Nat := []
def C : Ctx := ⟨[(3, T1), (4, .bool), (24, T23), (47, T53), (49, T64)], [], [], fnL [(53, basculeref_Order.F), (55, basculeref_opposite.F), (93, basculeref_mayBeSecret.F)], noSh, [], invL [], [(2, [4])], [], [], 0, 0⟩
def St0 (x0 : D21) (x1 : D24) : St := stL 36 [(0, .data T53 x0), (1, .data T64 x1)] []
def St1 (x4 : Bool) : St := stL 36 [(4, .data .bool x4)] []
def top {α : Type} (Rt : Bool -> Option α) (x0 : D21) (x1 : D24) : Option α :=
 (basculeref_mayBeSecret.run x0 x1.1).bind fun y1 =>
 (if (y1 == true) = true then basculeref_mayBeSecret.run x0 x1.2.1 else some false).bind fun y2 =>
 (if ((cond y1 y2 false) == true) = true then basculeref_opposite.run x1.2.1 x0.2.2.2.1 else some [0, 0, 0, 0]).bind fun y3 =>
 (if ((cond y1 y2 false) == true) = true then basculeref_Order.run x1.2.1 y3 else some 0).bind fun y4 =>
 Rt (cond (cond (cond (cond y1 y2 false) (decide (y4 <= 0)) false) (decide (x1.2.2.1 >= 0)) false) (decide (x1.2.2.1 < 4)) false)
theorem top_eq {α : Type} (k : Nat) (Q : Ex -> St -> Option α) (x0 : D21) (x1 : D24) :
  (den C k) (cB Try.f38) Q (St0 x0 x1) = top (fun x4 => Q .ret (St1 x4)) x0 x1 := by
 have h : ∀ (D L : DT α), denJ D L Js C (cB Try.f38) Q (St0 x0 x1) = top (fun x4 => Q .ret (St1 x4)) x0 x1 := by
  intro D L; kernel_rfl
 have h2 := via (k := k) h
 exact h2
def run (x0 : D21) (x1 : D24) : Option (Bool) := top (α := Bool) (fun x4 => some x4) x0 x1
def F : Fn := ⟨T68, .bool, false, fun x => run x.1 x.2.1⟩
theorem con : Con Try.prog 38 F :=
 con_of (C := C) (ctx_ok (by kernel_rfl) (by kernel_rfl) (by kernel_rfl) (by kernel_rfl) ⟨.inl ⟨basculeref_Order.con, basculeref_Order.named⟩, ⟨.inl ⟨basculeref_opposite.con, basculeref_opposite.named⟩, ⟨.inl ⟨basculeref_mayBeSecret.con, basculeref_mayBeSecret.named⟩, trivial⟩⟩⟩) (by kernel_rfl) Try.func38 (c := cB Try.f38) (by kernel_rfl) (by kernel_rfl) F (fun x => by simp [F, spread, Try.ntmps38]) (fun x => (St0 x.1 x.2.1)) (fun x => by kernel_rfl) fun x => (top_eq fuel _ x.1 x.2.1).trans (by kernel_rfl)
theorem named : Named Try.prog 38 := named_of Try.func38 (by kernel_rfl) (by kernel_rfl)
end Go.Bx.basculeref_mayBeSign
namespace Go.Bx.basculeref_big
end Go.Bx.basculeref_big
namespace Go.Bx.wide_From
def Js : List Nat := [9]
def C : Ctx := ⟨[(5, T18), (22, T34), (24, T23), (38, T17)], [], [], fnL [], noSh, [], invL [], [(2, [2]), (1, [2, 3]), (4, [2, 3, 7, 8]), (9, [2, 3, 7, 8]), (24, [2, 3])], [], [], 0, 0⟩
def St0 (x0 : D4) : St := stL 28 [(0, .data T17 x0)] []
def St1 (x7 : D4) (x8 : Int) (c2 c3 : D4) : St := stL 28 [(2, .ref 2 0 []), (3, .ref 3 0 []), (7, .data T17 x7), (8, .data T1 x8)] [(2, .cell T23 (.data T23 c2) false), (3, .cell T23 (.data T23 c3) false)]
noncomputable def cd0 : Code := cL (cL (cR (cL (cR (cR (cB Try.f35))))))
def St2 (c2 c3 : D4) : St := stL 28 [(2, .ref 2 0 []), (3, .ref 3 0 [])] [(2, .cell T23 (.data T23 c2) false), (3, .cell T23 (.data T23 c3) false)]
def l0s {α : Type} (Nx : D4 -> Int -> D4 -> D4 -> Option α) (Xt0 : D4 -> D4 -> Option α) (x7 : D4) (x8 : Int) (c2 c3 : D4) : Option α :=
 if (decide (x8 < 32)) = true then
  if 0 <= x8 /\ x8 < (32 : Int) then
   if 0 <= (IntKind.i64.wrap (Int.tdiv (IntKind.i64.wrap (31 - x8)) 8)) /\ (IntKind.i64.wrap (Int.tdiv (IntKind.i64.wrap (31 - x8)) 8)) < (4 : Int) then
    if 0 <= (IntKind.i64.wrap (8 * (Int.tmod (IntKind.i64.wrap (31 - x8)) 8))) then
     if 0 <= (IntKind.i64.wrap (Int.tdiv (IntKind.i64.wrap (31 - x8)) 8)) /\ (IntKind.i64.wrap (Int.tdiv (IntKind.i64.wrap (31 - x8)) 8)) < (4 : Int) then
      Nx x7 (IntKind.i64.wrap (x8 + 1)) c2 (List.set c3 (Int.toNat (IntKind.i64.wrap (Int.tdiv (IntKind.i64.wrap (31 - x8)) 8))) (bor .u64 (List.getD c3 (Int.toNat (IntKind.i64.wrap (Int.tdiv (IntKind.i64.wrap (31 - x8)) 8))) 0) (shlI .u64 (IntKind.u64.wrap (List.getD x7 (Int.toNat x8) 0)) (IntKind.i64.wrap (8 * (Int.tmod (IntKind.i64.wrap (31 - x8)) 8))))))
     else none
    else none
   else none
  else none
 else
  Xt0 c2 c3
theorem l0s_eq {α : Type} (k : Nat) (next : St -> Option α) (Q : Ex -> St -> Option α) (x7 : D4) (x8 : Int) (c2 c3 : D4) :
  rnd C k cd0 9 Q next (St1 x7 x8 c2 c3) = l0s (fun x7 x8 c2 c3 => next (St1 x7 x8 c2 c3)) (fun c2 c3 => Q (.exit 0) (St2 c2 c3)) x7 x8 c2 c3 := by
 have h : ∀ (D L : DT α), denJ D L Js C cd0 (lq C 9 next Q) (St1 x7 x8 c2 c3) = l0s (fun x7 x8 c2 c3 => next (St1 x7 x8 c2 c3)) (fun c2 c3 => Q (.exit 0) (St2 c2 c3)) x7 x8 c2 c3 := by
  intro D L; kernel_rfl
 have h2 := via (k := k) h
 exact h2
def l0 {α : Type} (k : Nat) (Xt0 : D4 -> D4 -> Option α) : Nat -> D4 -> Int -> D4 -> D4 -> Option α
 | 0, _, _, _, _ => none
 | n + 1, x7, x8, c2, c3 => l0s (l0 k Xt0 n) Xt0 x7 x8 c2 c3
theorem l0_eq {α : Type} (k : Nat) (Q : Ex -> St -> Option α) : ∀ (n : Nat) (x7 : D4) (x8 : Int) (c2 c3 : D4), iter (rnd C k cd0 9 Q) n (St1 x7 x8 c2 c3) = l0 k (fun c2 c3 => Q (.exit 0) (St2 c2 c3)) n x7 x8 c2 c3
 | 0, _, _, _, _ => rfl
 | n + 1, x7, x8, c2, c3 => (iter_succ _ _ _).trans ((l0s_eq k _ Q x7 x8 c2 c3).trans (congrArg (fun N => l0s N (fun c2 c3 => Q (.exit 0) (St2 c2 c3)) x7 x8 c2 c3) (by funext; exact l0_eq k Q n _ _ _ _)))
noncomputable def cd1 : Code := cR (cR (cR (cB Try.f35)))
def St3 (c2 c3 : D4) : St := stL 28 [(2, .ref 2 0 []), (3, .ref 3 0 [])] [(2, .cell T23 (.data T23 c2) false), (3, .cell T23 (.data T23 c3) false)]
def St4 (c2 : D4) : St := stL 28 [(2, .ref 2 0 [])] [(2, .cell T23 (.data T23 c2) false)]
def j0 {α : Type} (Rt : D4 -> Option α) (c2 c3 : D4) : Option α :=
 Rt c3
theorem j0_eq {α : Type} (k : Nat) (Q : Ex -> St -> Option α) (c2 c3 : D4) :
  (den C k) cd1 Q (St3 c2 c3) = j0 (fun c2 => Q .ret (St4 c2)) c2 c3 := by
 have h : ∀ (D L : DT α), denJ D L Js C cd1 Q (St3 c2 c3) = j0 (fun c2 => Q .ret (St4 c2)) c2 c3 := by
  intro D L; kernel_rfl
 have h2 := via (k := k) h
 exact h2
theorem a0 {α : Type} (k : Nat) (Q : Ex -> St -> Option α) (x7 : D4) (x8 : Int) (c2 c3 : D4) :
  (lp C k) cd0 (blkQ C 0 (sq (den C k) (lp C k) Js C cd1 Q)) (St1 x7 x8 c2 c3) = l0 k (fun c2 c3 => j0 (fun c2 => Q .ret (St4 c2)) c2 c3) k x7 x8 c2 c3 :=
 (lp_iter 9 (by kernel_rfl)).trans ((l0_eq k _ k x7 x8 c2 c3).trans (congrArg (fun X => l0 k X k x7 x8 c2 c3) (funext fun c2 => funext fun c3 => (Eq.trans (b := (den C k) cd1 Q (St3 c2 c3)) (by kernel_rfl) (by simp only [j0_eq])))))
def top {α : Type} (k : Nat) (Rt : D4 -> Option α) (x0 : D4) : Option α :=
 l0 k (fun c2 c3 => j0 Rt c2 c3) k x0 0 [0, 0, 0, 0] [0, 0, 0, 0]
theorem top_eq {α : Type} (k : Nat) (Q : Ex -> St -> Option α) (x0 : D4) :
  (den C k) (cB Try.f35) Q (St0 x0) = top k (fun c2 => Q .ret (St4 c2)) x0 := by
 have h : ∀ (D L : DT α), denJ D L Js C (cB Try.f35) Q (St0 x0) =
    L cd0 (blkQ C 0 (sq D L Js C cd1 Q)) (St1 x0 0 [0, 0, 0, 0] [0, 0, 0, 0]) := by
  intro D L; kernel_rfl
 have h2 := via (k := k) h
 refine h2.trans ?_
 simp only [a0]
 first | rfl | kernel_rfl
def run (x0 : D4) : Option D4 := top (α := List Int) fuel (fun c2 => some c2) x0
def F : Fn := ⟨T69, T23, false, fun x => run x.1⟩
theorem con : Con Try.prog 35 F :=
 con_of (C := C) (ctx_ok (by kernel_rfl) (by kernel_rfl) (by kernel_rfl) (by kernel_rfl) trivial) (by kernel_rfl) Try.func35 (c := cB Try.f35) (by kernel_rfl) (by kernel_rfl) F (fun x => by simp [F, spread, Try.ntmps35]) (fun x => (St0 x.1)) (fun x => by kernel_rfl) fun x => (top_eq fuel _ x.1).trans (by kernel_rfl)
theorem named : Named Try.prog 35 := named_of Try.func35 (by kernel_rfl) (by kernel_rfl)
end Go.Bx.wide_From
namespace Go.Bx.basculeref_FromBytes
def Js : List Nat := [8]
def C : Ctx := ⟨[(5, T18), (22, T34), (24, T23), (38, T17)], [], [], fnL [], noSh, [], invL [], [(2, [2]), (1, [2, 3]), (4, [2, 3, 6, 7]), (9, [2, 3, 6, 7]), (21, [2, 3])], [], [], 0, 0⟩
def St0 (x0 : D4) : St := stL 26 [(0, .data T17 x0)] []
def St1 (x6 : D4) (x7 : Int) (c2 c3 : D4) : St := stL 26 [(2, .ref 2 0 []), (3, .ref 3 0 []), (6, .data T17 x6), (7, .data T1 x7)] [(2, .cell T23 (.data T23 c2) false), (3, .cell T23 (.data T23 c3) false)]
noncomputable def cd0 : Code := cL (cL (cR (cL (cR (cR (cB Try.f44))))))
def St2 (c2 c3 : D4) : St := stL 26 [(2, .ref 2 0 []), (3, .ref 3 0 [])] [(2, .cell T23 (.data T23 c2) false), (3, .cell T23 (.data T23 c3) false)]
def l0s {α : Type} (Nx : D4 -> Int -> D4 -> D4 -> Option α) (Xt0 : D4 -> D4 -> Option α) (x6 : D4) (x7 : Int) (c2 c3 : D4) : Option α :=
 if (decide (x7 < 32)) = true then
  if 0 <= x7 /\ x7 < (32 : Int) then
   if 0 <= (IntKind.i64.wrap (3 - (IntKind.i64.wrap (Int.tdiv x7 8)))) /\ (IntKind.i64.wrap (3 - (IntKind.i64.wrap (Int.tdiv x7 8)))) < (4 : Int) then
    if 0 <= (IntKind.i64.wrap (3 - (IntKind.i64.wrap (Int.tdiv x7 8)))) /\ (IntKind.i64.wrap (3 - (IntKind.i64.wrap (Int.tdiv x7 8)))) < (4 : Int) then
     Nx x6 (IntKind.i64.wrap (x7 + 1)) c2 (List.set c3 (Int.toNat (IntKind.i64.wrap (3 - (IntKind.i64.wrap (Int.tdiv x7 8))))) (IntKind.u64.wrap ((IntKind.u64.wrap ((List.getD c3 (Int.toNat (IntKind.i64.wrap (3 - (IntKind.i64.wrap (Int.tdiv x7 8))))) 0) * 256)) + (IntKind.u64.wrap (List.getD x6 (Int.toNat x7) 0)))))
    else none
   else none
  else none
 else
  Xt0 c2 c3
theorem l0s_eq {α : Type} (k : Nat) (next : St -> Option α) (Q : Ex -> St -> Option α) (x6 : D4) (x7 : Int) (c2 c3 : D4) :
  rnd C k cd0 9 Q next (St1 x6 x7 c2 c3) = l0s (fun x6 x7 c2 c3 => next (St1 x6 x7 c2 c3)) (fun c2 c3 => Q (.exit 0) (St2 c2 c3)) x6 x7 c2 c3 := by
 have h : ∀ (D L : DT α), denJ D L Js C cd0 (lq C 9 next Q) (St1 x6 x7 c2 c3) = l0s (fun x6 x7 c2 c3 => next (St1 x6 x7 c2 c3)) (fun c2 c3 => Q (.exit 0) (St2 c2 c3)) x6 x7 c2 c3 := by
  intro D L; kernel_rfl
 have h2 := via (k := k) h
 exact h2
def l0 {α : Type} (k : Nat) (Xt0 : D4 -> D4 -> Option α) : Nat -> D4 -> Int -> D4 -> D4 -> Option α
 | 0, _, _, _, _ => none
 | n + 1, x6, x7, c2, c3 => l0s (l0 k Xt0 n) Xt0 x6 x7 c2 c3
theorem l0_eq {α : Type} (k : Nat) (Q : Ex -> St -> Option α) : ∀ (n : Nat) (x6 : D4) (x7 : Int) (c2 c3 : D4), iter (rnd C k cd0 9 Q) n (St1 x6 x7 c2 c3) = l0 k (fun c2 c3 => Q (.exit 0) (St2 c2 c3)) n x6 x7 c2 c3
 | 0, _, _, _, _ => rfl
 | n + 1, x6, x7, c2, c3 => (iter_succ _ _ _).trans ((l0s_eq k _ Q x6 x7 c2 c3).trans (congrArg (fun N => l0s N (fun c2 c3 => Q (.exit 0) (St2 c2 c3)) x6 x7 c2 c3) (by funext; exact l0_eq k Q n _ _ _ _)))
noncomputable def cd1 : Code := cR (cR (cR (cB Try.f44)))
def St3 (c2 c3 : D4) : St := stL 26 [(2, .ref 2 0 []), (3, .ref 3 0 [])] [(2, .cell T23 (.data T23 c2) false), (3, .cell T23 (.data T23 c3) false)]
def St4 (c2 : D4) : St := stL 26 [(2, .ref 2 0 [])] [(2, .cell T23 (.data T23 c2) false)]
def j0 {α : Type} (Rt : D4 -> Option α) (c2 c3 : D4) : Option α :=
 Rt c3
theorem j0_eq {α : Type} (k : Nat) (Q : Ex -> St -> Option α) (c2 c3 : D4) :
  (den C k) cd1 Q (St3 c2 c3) = j0 (fun c2 => Q .ret (St4 c2)) c2 c3 := by
 have h : ∀ (D L : DT α), denJ D L Js C cd1 Q (St3 c2 c3) = j0 (fun c2 => Q .ret (St4 c2)) c2 c3 := by
  intro D L; kernel_rfl
 have h2 := via (k := k) h
 exact h2
theorem a0 {α : Type} (k : Nat) (Q : Ex -> St -> Option α) (x6 : D4) (x7 : Int) (c2 c3 : D4) :
  (lp C k) cd0 (blkQ C 0 (sq (den C k) (lp C k) Js C cd1 Q)) (St1 x6 x7 c2 c3) = l0 k (fun c2 c3 => j0 (fun c2 => Q .ret (St4 c2)) c2 c3) k x6 x7 c2 c3 :=
 (lp_iter 9 (by kernel_rfl)).trans ((l0_eq k _ k x6 x7 c2 c3).trans (congrArg (fun X => l0 k X k x6 x7 c2 c3) (funext fun c2 => funext fun c3 => (Eq.trans (b := (den C k) cd1 Q (St3 c2 c3)) (by kernel_rfl) (by simp only [j0_eq])))))
def top {α : Type} (k : Nat) (Rt : D4 -> Option α) (x0 : D4) : Option α :=
 l0 k (fun c2 c3 => j0 Rt c2 c3) k x0 0 [0, 0, 0, 0] [0, 0, 0, 0]
theorem top_eq {α : Type} (k : Nat) (Q : Ex -> St -> Option α) (x0 : D4) :
  (den C k) (cB Try.f44) Q (St0 x0) = top k (fun c2 => Q .ret (St4 c2)) x0 := by
 have h : ∀ (D L : DT α), denJ D L Js C (cB Try.f44) Q (St0 x0) =
    L cd0 (blkQ C 0 (sq D L Js C cd1 Q)) (St1 x0 0 [0, 0, 0, 0] [0, 0, 0, 0]) := by
  intro D L; kernel_rfl
 have h2 := via (k := k) h
 refine h2.trans ?_
 simp only [a0]
 first | rfl | kernel_rfl
def run (x0 : D4) : Option D4 := top (α := List Int) fuel (fun c2 => some c2) x0
def F : Fn := ⟨T69, T23, false, fun x => run x.1⟩
theorem con : Con Try.prog 44 F :=
 con_of (C := C) (ctx_ok (by kernel_rfl) (by kernel_rfl) (by kernel_rfl) (by kernel_rfl) trivial) (by kernel_rfl) Try.func44 (c := cB Try.f44) (by kernel_rfl) (by kernel_rfl) F (fun x => by simp [F, spread, Try.ntmps44]) (fun x => (St0 x.1)) (fun x => by kernel_rfl) fun x => (top_eq fuel _ x.1).trans (by kernel_rfl)
theorem named : Named Try.prog 44 := named_of Try.func44 (by kernel_rfl) (by kernel_rfl)
end Go.Bx.basculeref_FromBytes
namespace Go.Bx.sign_Recover
def Js : List Nat := [10]
def C : Ctx := ⟨[(3, T1), (4, .bool), (24, T23), (35, T1), (38, T17), (45, T56), (47, T53), (49, T64)], [], [], fnL [(31, sign_formed.F), (32, field_Inv.F), (33, field_Mul.F), (34, sign_rest.F), (35, wide_From.F), (36, sign_sum2.F), (45, curve_Check.F), (46, wide_Add.F), (47, wide_Cmp.F), (48, curve_Lift.F), (49, field_Sub.F)], noSh, [], invL [], [(2, [6, 7]), (27, [3, 4, 5, 6, 9, 10])], [], [], 0, 0⟩
def St0 (x0 : D21) (x1 : D4) (x2 : D24) : St := stL 122 [(0, .data T53 x0), (1, .data T17 x1), (2, .data T64 x2)] []
def St1 (x7 : Int) (c6 : D22) : St := stL 122 [(6, .ref 6 0 []), (7, .data T1 x7)] [(6, .cell T56 (.data T56 c6) false)]
def St2 (x10 : Bool) (c3 : D21) (c4 : D4) (c5 : D24) (c6 : D22) (c9 : D4) : St := stL 122 [(3, .ref 3 0 []), (4, .ref 4 0 []), (5, .ref 5 0 []), (6, .ref 6 0 []), (9, .ref 9 0 []), (10, .data .bool x10)] [(3, .cell T53 (.data T53 c3) false), (4, .cell T17 (.data T17 c4) false), (5, .cell T64 (.data T64 c5) false), (6, .cell T56 (.data T56 c6) false), (9, .cell T23 (.data T23 c9) false)]
noncomputable def cd0 : Code := cR (cR (cR (cR (cR (cB Try.f14)))))
def j0 {α : Type} (Rt : Int -> D22 -> Option α) (x10 : Bool) (c3 : D21) (c4 : D4) (c5 : D24) (c6 : D22) (c9 : D4) : Option α :=
 (if (x10 == false) = true then wide_Cmp.run c9 c3.1 else some 0).bind fun y4 =>
 if (cond x10 true (decide (y4 >= 0))) = true then
  Rt 10 ([0, 0, 0, 0], [0, 0, 0, 0], false, ())
 else
  (curve_Lift.run c3 c9 ((Int.tmod c5.2.2.1 2) == 1)).bind fun y5 =>
  if (y5.2.1 != 0) = true then
   Rt 10 ([0, 0, 0, 0], [0, 0, 0, 0], false, ())
  else
   (field_Inv.run c5.1 c3.2.2.2.1).bind fun y6 =>
   if (y6.2.1 != 0) = true then
    Rt 16 ([0, 0, 0, 0], [0, 0, 0, 0], false, ())
   else
    (field_Mul.run c5.2.1 y6.1 c3.2.2.2.1).bind fun y7 =>
    (wide_From.run c4).bind fun y8 =>
    (sign_rest.run y8 c3.2.2.2.1).bind fun y9 =>
    (field_Mul.run y9 y6.1 c3.2.2.2.1).bind fun y10 =>
    (field_Sub.run [0, 0, 0, 0] y10.1 c3.2.2.2.1).bind fun y11 =>
    (sign_sum2.run c3 y7.1 y5.1 y11.1 c3.2.2.2.2.1).bind fun y12 =>
    if (y12.2.1 != 0) = true then
     Rt y12.2.1 ([0, 0, 0, 0], [0, 0, 0, 0], false, ())
    else
     if y12.1.2.2.1 = true then
      Rt 10 ([0, 0, 0, 0], [0, 0, 0, 0], false, ())
     else
      Rt 0 y12.1
theorem j0_eq {α : Type} (k : Nat) (Q : Ex -> St -> Option α) (x10 : Bool) (c3 : D21) (c4 : D4) (c5 : D24) (c6 : D22) (c9 : D4) :
  (den C k) cd0 Q (St2 x10 c3 c4 c5 c6 c9) = j0 (fun x7 c6 => Q .ret (St1 x7 c6)) x10 c3 c4 c5 c6 c9 := by
 have h : ∀ (D L : DT α), denJ D L Js C cd0 Q (St2 x10 c3 c4 c5 c6 c9) = j0 (fun x7 c6 => Q .ret (St1 x7 c6)) x10 c3 c4 c5 c6 c9 := by
  intro D L; kernel_rfl
 have h2 := via (k := k) h
 exact h2
def top {α : Type} (Rt : Int -> D22 -> Option α) (x0 : D21) (x1 : D4) (x2 : D24) : Option α :=
 (curve_Check.run x0).bind fun y1 =>
 if (y1 != 0) = true then
  Rt y1 ([0, 0, 0, 0], [0, 0, 0, 0], false, ())
 else
  (sign_formed.run x0 x2).bind fun y2 =>
  if (not y2) = true then
   Rt 10 ([0, 0, 0, 0], [0, 0, 0, 0], false, ())
  else
   if (decide (x2.2.2.1 >= 2)) = true then
    (wide_Add.run x2.1 x0.2.2.2.1).bind fun y3 =>
    j0 Rt y3.2.1 x0 x1 x2 ([0, 0, 0, 0], [0, 0, 0, 0], false, ()) y3.1
   else
    j0 Rt false x0 x1 x2 ([0, 0, 0, 0], [0, 0, 0, 0], false, ()) x2.1
theorem top_eq {α : Type} (k : Nat) (Q : Ex -> St -> Option α) (x0 : D21) (x1 : D4) (x2 : D24) :
  (den C k) (cB Try.f14) Q (St0 x0 x1 x2) = top (fun x7 c6 => Q .ret (St1 x7 c6)) x0 x1 x2 := by
 have h : ∀ (D L : DT α), denJ D L Js C (cB Try.f14) Q (St0 x0 x1 x2) =
    (curve_Check.run x0).bind fun y1 =>
    if (y1 != 0) = true then
     Q .ret (St1 y1 ([0, 0, 0, 0], [0, 0, 0, 0], false, ()))
    else
     (sign_formed.run x0 x2).bind fun y2 =>
     if (not y2) = true then
      Q .ret (St1 10 ([0, 0, 0, 0], [0, 0, 0, 0], false, ()))
     else
      if (decide (x2.2.2.1 >= 2)) = true then
       (wide_Add.run x2.1 x0.2.2.2.1).bind fun y3 =>
       D cd0 Q (St2 y3.2.1 x0 x1 x2 ([0, 0, 0, 0], [0, 0, 0, 0], false, ()) y3.1)
      else
       D cd0 Q (St2 false x0 x1 x2 ([0, 0, 0, 0], [0, 0, 0, 0], false, ()) x2.1) := by
  intro D L; kernel_rfl
 have h2 := via (k := k) h
 refine h2.trans ?_
 simp only [j0_eq]
 first | rfl | kernel_rfl
def run (x0 : D21) (x1 : D4) (x2 : D24) : Option D28 := top (α := D22 × Int × Unit) (fun x7 c6 => some (c6, x7, ())) x0 x1 x2
def F : Fn := ⟨T85, T75, true, fun x => run x.1 x.2.1 x.2.2.1⟩
theorem con : Con Try.prog 14 F :=
 con_of (C := C) (ctx_ok (by kernel_rfl) (by kernel_rfl) (by kernel_rfl) (by kernel_rfl) ⟨.inl ⟨sign_formed.con, sign_formed.named⟩, ⟨.inl ⟨field_Inv.con, field_Inv.named⟩, ⟨.inl ⟨field_Mul.con, field_Mul.named⟩, ⟨.inl ⟨sign_rest.con, sign_rest.named⟩, ⟨.inl ⟨wide_From.con, wide_From.named⟩, ⟨.inl ⟨sign_sum2.con, sign_sum2.named⟩, ⟨.inl ⟨curve_Check.con, curve_Check.named⟩, ⟨.inl ⟨wide_Add.con, wide_Add.named⟩, ⟨.inl ⟨wide_Cmp.con, wide_Cmp.named⟩, ⟨.inl ⟨curve_Lift.con, curve_Lift.named⟩, ⟨.inl ⟨field_Sub.con, field_Sub.named⟩, trivial⟩⟩⟩⟩⟩⟩⟩⟩⟩⟩⟩) (by kernel_rfl) Try.func14 (c := cB Try.f14) (by kernel_rfl) (by kernel_rfl) F (fun x => by simp [F, spread, Try.ntmps14]) (fun x => (St0 x.1 x.2.1 x.2.2.1)) (fun x => by kernel_rfl) fun x => (top_eq fuel _ x.1 x.2.1 x.2.2.1).trans (by kernel_rfl)
theorem named : Named Try.prog 14 := named_of Try.func14 (by kernel_rfl) (by kernel_rfl)
end Go.Bx.sign_Recover
namespace Go.Bx.basculeref_Recovered
def Js : List Nat := [10]
def C : Ctx := ⟨[(3, T1), (4, .bool), (24, T23), (35, T1), (38, T17), (45, T56), (47, T53), (49, T64)], [], [], fnL [(38, basculeref_mayBeSign.F), (39, basculeref_inverse.F), (40, basculeref_both.F), (41, basculeref_product.F), (42, basculeref_rest.F), (43, basculeref_of.F), (44, basculeref_FromBytes.F), (50, basculeref_CurveFault.F), (51, basculeref_plus.F), (52, basculeref_wide.F), (53, basculeref_Order.F), (54, basculeref_Lifted.F), (55, basculeref_opposite.F)], noSh, [], invL [], [(2, [6, 7]), (27, [3, 4, 5, 6, 9])], [], [], 0, 0⟩
def St0 (x0 : D21) (x1 : D4) (x2 : D24) : St := stL 111 [(0, .data T53 x0), (1, .data T17 x1), (2, .data T64 x2)] []
def St1 (x7 : Int) (c6 : D22) : St := stL 111 [(6, .ref 6 0 []), (7, .data T1 x7)] [(6, .cell T56 (.data T56 c6) false)]
def St2 (x9 : D4) (c3 : D21) (c4 : D4) (c5 : D24) (c6 : D22) : St := stL 111 [(3, .ref 3 0 []), (4, .ref 4 0 []), (5, .ref 5 0 []), (6, .ref 6 0 []), (9, .data T78 x9)] [(3, .cell T53 (.data T53 c3) false), (4, .cell T17 (.data T17 c4) false), (5, .cell T64 (.data T64 c5) false), (6, .cell T56 (.data T56 c6) false)]
noncomputable def cd0 : Code := cR (cR (cR (cR (cR (cB Try.f15)))))
def j0 {α : Type} (Rt : Int -> D22 -> Option α) (x9 : D4) (c3 : D21) (c4 : D4) (c5 : D24) (c6 : D22) : Option α :=
 (basculeref_wide.run x9).bind fun y6 =>
 (if (y6.2.1 == false) = true then basculeref_Order.run y6.1 c3.1 else some 0).bind fun y7 =>
 if (cond y6.2.1 true (decide (y7 >= 0))) = true then
  Rt 10 ([0, 0, 0, 0], [0, 0, 0, 0], false, ())
 else
  (basculeref_Lifted.run c3 y6.1 ((band .i64 c5.2.2.1 1) == 1)).bind fun y8 =>
  if (y8.2.1 != 0) = true then
   Rt 10 ([0, 0, 0, 0], [0, 0, 0, 0], false, ())
  else
   (basculeref_inverse.run c5.1 c3.2.2.2.1).bind fun y9 =>
   if (not y9.2.1) = true then
    Rt 16 ([0, 0, 0, 0], [0, 0, 0, 0], false, ())
   else
    (basculeref_product.run c5.2.1 y9.1 c3.2.2.2.1).bind fun y10 =>
    (basculeref_FromBytes.run c4).bind fun y11 =>
    (basculeref_of.run y11).bind fun y12 =>
    (basculeref_rest.run y12 c3.2.2.2.1).bind fun y13 =>
    (basculeref_product.run y13 y9.1 c3.2.2.2.1).bind fun y14 =>
    (basculeref_opposite.run y14 c3.2.2.2.1).bind fun y15 =>
    (basculeref_both.run c3 y10 y8.1 y15 c3.2.2.2.2.1).bind fun y16 =>
    if (not y16.2.1) = true then
     Rt 16 ([0, 0, 0, 0], [0, 0, 0, 0], false, ())
    else
     if y16.1.2.2.1 = true then
      Rt 10 ([0, 0, 0, 0], [0, 0, 0, 0], false, ())
     else
      Rt 0 y16.1
theorem j0_eq {α : Type} (k : Nat) (Q : Ex -> St -> Option α) (x9 : D4) (c3 : D21) (c4 : D4) (c5 : D24) (c6 : D22) :
  (den C k) cd0 Q (St2 x9 c3 c4 c5 c6) = j0 (fun x7 c6 => Q .ret (St1 x7 c6)) x9 c3 c4 c5 c6 := by
 have h : ∀ (D L : DT α), denJ D L Js C cd0 Q (St2 x9 c3 c4 c5 c6) = j0 (fun x7 c6 => Q .ret (St1 x7 c6)) x9 c3 c4 c5 c6 := by
  intro D L; kernel_rfl
 have h2 := via (k := k) h
 exact h2
def top {α : Type} (Rt : Int -> D22 -> Option α) (x0 : D21) (x1 : D4) (x2 : D24) : Option α :=
 (basculeref_CurveFault.run x0).bind fun y1 =>
 if (y1 != 0) = true then
  Rt y1 ([0, 0, 0, 0], [0, 0, 0, 0], false, ())
 else
  (basculeref_mayBeSign.run x0 x2).bind fun y2 =>
  if (not y2) = true then
   Rt 10 ([0, 0, 0, 0], [0, 0, 0, 0], false, ())
  else
   (basculeref_of.run x2.1).bind fun y3 =>
   if (decide (x2.2.2.1 > 1)) = true then
    (basculeref_of.run x0.2.2.2.1).bind fun y4 =>
    (basculeref_plus.run y3 y4).bind fun y5 =>
    j0 Rt y5 x0 x1 x2 ([0, 0, 0, 0], [0, 0, 0, 0], false, ())
   else
    j0 Rt y3 x0 x1 x2 ([0, 0, 0, 0], [0, 0, 0, 0], false, ())
theorem top_eq {α : Type} (k : Nat) (Q : Ex -> St -> Option α) (x0 : D21) (x1 : D4) (x2 : D24) :
  (den C k) (cB Try.f15) Q (St0 x0 x1 x2) = top (fun x7 c6 => Q .ret (St1 x7 c6)) x0 x1 x2 := by
 have h : ∀ (D L : DT α), denJ D L Js C (cB Try.f15) Q (St0 x0 x1 x2) =
    (basculeref_CurveFault.run x0).bind fun y1 =>
    if (y1 != 0) = true then
     Q .ret (St1 y1 ([0, 0, 0, 0], [0, 0, 0, 0], false, ()))
    else
     (basculeref_mayBeSign.run x0 x2).bind fun y2 =>
     if (not y2) = true then
      Q .ret (St1 10 ([0, 0, 0, 0], [0, 0, 0, 0], false, ()))
     else
      (basculeref_of.run x2.1).bind fun y3 =>
      if (decide (x2.2.2.1 > 1)) = true then
       (basculeref_of.run x0.2.2.2.1).bind fun y4 =>
       (basculeref_plus.run y3 y4).bind fun y5 =>
       D cd0 Q (St2 y5 x0 x1 x2 ([0, 0, 0, 0], [0, 0, 0, 0], false, ()))
      else
       D cd0 Q (St2 y3 x0 x1 x2 ([0, 0, 0, 0], [0, 0, 0, 0], false, ())) := by
  intro D L; kernel_rfl
 have h2 := via (k := k) h
 refine h2.trans ?_
 simp only [j0_eq]
 first | rfl | kernel_rfl
def run (x0 : D21) (x1 : D4) (x2 : D24) : Option D28 := top (α := D22 × Int × Unit) (fun x7 c6 => some (c6, x7, ())) x0 x1 x2
def F : Fn := ⟨T85, T75, true, fun x => run x.1 x.2.1 x.2.2.1⟩
theorem con : Con Try.prog 15 F :=
 con_of (C := C) (ctx_ok (by kernel_rfl) (by kernel_rfl) (by kernel_rfl) (by kernel_rfl) ⟨.inl ⟨basculeref_mayBeSign.con, basculeref_mayBeSign.named⟩, ⟨.inl ⟨basculeref_inverse.con, basculeref_inverse.named⟩, ⟨.inl ⟨basculeref_both.con, basculeref_both.named⟩, ⟨.inl ⟨basculeref_product.con, basculeref_product.named⟩, ⟨.inl ⟨basculeref_rest.con, basculeref_rest.named⟩, ⟨.inl ⟨basculeref_of.con, basculeref_of.named⟩, ⟨.inl ⟨basculeref_FromBytes.con, basculeref_FromBytes.named⟩, ⟨.inl ⟨basculeref_CurveFault.con, basculeref_CurveFault.named⟩, ⟨.inl ⟨basculeref_plus.con, basculeref_plus.named⟩, ⟨.inl ⟨basculeref_wide.con, basculeref_wide.named⟩, ⟨.inl ⟨basculeref_Order.con, basculeref_Order.named⟩, ⟨.inl ⟨basculeref_Lifted.con, basculeref_Lifted.named⟩, ⟨.inl ⟨basculeref_opposite.con, basculeref_opposite.named⟩, trivial⟩⟩⟩⟩⟩⟩⟩⟩⟩⟩⟩⟩⟩) (by kernel_rfl) Try.func15 (c := cB Try.f15) (by kernel_rfl) (by kernel_rfl) F (fun x => by simp [F, spread, Try.ntmps15]) (fun x => (St0 x.1 x.2.1 x.2.2.1)) (fun x => by kernel_rfl) fun x => (top_eq fuel _ x.1 x.2.1 x.2.2.1).trans (by kernel_rfl)
theorem named : Named Try.prog 15 := named_of Try.func15 (by kernel_rfl) (by kernel_rfl)
end Go.Bx.basculeref_Recovered
namespace Go.Bx.basculelaw_SignRecovers
def Js : List Nat := []
def C : Ctx := ⟨[(4, .bool), (38, T17), (45, T56), (47, T53), (49, T64)], [], [], fnL [(14, sign_Recover.F), (15, basculeref_Recovered.F)], noSh, [], invL [], [(2, [6])], [], [], 0, 0⟩
def St0 (x0 : D21) (x1 : D4) (x2 : D24) : St := stL 33 [(0, .data T53 x0), (1, .data T17 x1), (2, .data T64 x2)] []
def St1 (x6 : Bool) : St := stL 33 [(6, .data .bool x6)] []
def top {α : Type} (Rt : Bool -> Option α) (x0 : D21) (x1 : D4) (x2 : D24) : Option α :=
 (sign_Recover.run x0 x1 x2).bind fun y1 =>
 (basculeref_Recovered.run x0 x1 x2).bind fun y2 =>
 Rt (cond (beqD T56 y1.1 y2.1) (y1.2.1 == y2.2.1) false)
theorem top_eq {α : Type} (k : Nat) (Q : Ex -> St -> Option α) (x0 : D21) (x1 : D4) (x2 : D24) :
  (den C k) (cB Try.f5) Q (St0 x0 x1 x2) = top (fun x6 => Q .ret (St1 x6)) x0 x1 x2 := by
 have h : ∀ (D L : DT α), denJ D L Js C (cB Try.f5) Q (St0 x0 x1 x2) = top (fun x6 => Q .ret (St1 x6)) x0 x1 x2 := by
  intro D L; kernel_rfl
 have h2 := via (k := k) h
 exact h2
def run (x0 : D21) (x1 : D4) (x2 : D24) : Option (Bool) := top (α := Bool) (fun x6 => some x6) x0 x1 x2
def F : Fn := ⟨T85, .bool, false, fun x => run x.1 x.2.1 x.2.2.1⟩
theorem con : Con Try.prog 5 F :=
 con_of (C := C) (ctx_ok (by kernel_rfl) (by kernel_rfl) (by kernel_rfl) (by kernel_rfl) ⟨.inl ⟨sign_Recover.con, sign_Recover.named⟩, ⟨.inl ⟨basculeref_Recovered.con, basculeref_Recovered.named⟩, trivial⟩⟩) (by kernel_rfl) Try.func5 (c := cB Try.f5) (by kernel_rfl) (by kernel_rfl) F (fun x => by simp [F, spread, Try.ntmps5]) (fun x => (St0 x.1 x.2.1 x.2.2.1)) (fun x => by kernel_rfl) fun x => (top_eq fuel _ x.1 x.2.1 x.2.2.1).trans (by kernel_rfl)
theorem named : Named Try.prog 5 := named_of Try.func5 (by kernel_rfl) (by kernel_rfl)
end Go.Bx.basculelaw_SignRecovers
