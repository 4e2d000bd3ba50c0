/- Go functions of this seat in their own words of Lean, each tied to its code by a contract. -/
import Derived.Test.YtbkkahkikjifkaaDoorGBase
import Derived.Test.YtbkkahkikjifkaaDoorFnSignMakes0
open Go Go.Proofs Go.Bx
set_option maxRecDepth 100000
set_option linter.unusedVariables false
variable {α : Type}
namespace Go.Bx.basculeref_together
def Js : List Nat := [13]
def C : Ctx := ⟨[(4, .bool), (56, T32), (58, T52), (60, T50)], [], [], fnL [(69, basculeref_isZero.F), (71, basculeref_inverse.F), (72, basculeref_product.F), (73, basculeref_total.F), (74, basculeref_opposite.F), (90, basculeref_by.F)], noSh, [], invL [], [(2, [6, 7]), (1, [3, 4, 5, 6]), (36, [3, 4, 5, 6, 8, 9])], [], [], 0, 0⟩
def St0 (x0 : D13) (x1 x2 : D14) : St := stL 145 [(0, .data T50 x0), (1, .data T52 x1), (2, .data T52 x2)] []
def St1 (x7 : Bool) (c6 : D14) : St := stL 145 [(6, .ref 6 0 []), (7, .data .bool x7)] [(6, .cell T52 (.data T52 c6) false)]
def St2 (c3 : D13) (c4 c5 c6 : D14) (c8 c9 : D0) : St := stL 145 [(3, .ref 3 0 []), (4, .ref 4 0 []), (5, .ref 5 0 []), (6, .ref 6 0 []), (8, .ref 8 0 []), (9, .ref 9 0 [])] [(3, .cell T50 (.data T50 c3) false), (4, .cell T52 (.data T52 c4) false), (5, .cell T52 (.data T52 c5) false), (6, .cell T52 (.data T52 c6) false), (8, .cell T32 (.data T32 c8) false), (9, .cell T32 (.data T32 c9) false)]
noncomputable def cd0 : Code := cR (cR (cR (cR (cR (cB Tryd.f102)))))
def j0 {α : Type} (Rt : Bool -> D14 -> Option α) (c3 : D13) (c4 c5 c6 : D14) (c8 c9 : D0) : Option α :=
 (basculeref_inverse.run c9 c3.1).bind fun y12 =>
 if (not y12.2.1) = true then
  Rt false ([0, 0, 0, 0], [0, 0, 0, 0], false, ())
 else
  (basculeref_product.run c8 y12.1 c3.1).bind fun y13 =>
  (basculeref_product.run y13 y13 c3.1).bind fun y14 =>
  (basculeref_total.run c4.1 c5.1 c3.1).bind fun y15 =>
  (basculeref_opposite.run y15 c3.1).bind fun y16 =>
  (basculeref_total.run y14 y16 c3.1).bind fun y17 =>
  (basculeref_opposite.run y17 c3.1).bind fun y18 =>
  (basculeref_total.run c4.1 y18 c3.1).bind fun y19 =>
  (basculeref_product.run y13 y19 c3.1).bind fun y20 =>
  (basculeref_opposite.run c4.2.1 c3.1).bind fun y21 =>
  (basculeref_total.run y20 y21 c3.1).bind fun y22 =>
  Rt true (y17, y22, false, ())
theorem j0_eq {α : Type} (k : Nat) (Q : Ex -> St -> Option α) (c3 : D13) (c4 c5 c6 : D14) (c8 c9 : D0) :
  (den C k) cd0 Q (St2 c3 c4 c5 c6 c8 c9) = j0 (fun x7 c6 => Q .ret (St1 x7 c6)) c3 c4 c5 c6 c8 c9 := by
 have h : ∀ (D L : DT α), denJ D L Js C cd0 Q (St2 c3 c4 c5 c6 c8 c9) = j0 (fun x7 c6 => Q .ret (St1 x7 c6)) c3 c4 c5 c6 c8 c9 := by
  intro D L; kernel_rfl
 have h2 := via (k := k) h
 exact h2
def top {α : Type} (Rt : Bool -> D14 -> Option α) (x0 : D13) (x1 x2 : D14) : Option α :=
 if x1.2.2.1 = true then
  Rt true x2
 else
  if x2.2.2.1 = true then
   Rt true x1
  else
   (if ((beqD T32 x1.1 x2.1) == true) = true then basculeref_total.run x1.2.1 x2.2.1 x0.1 else some [0, 0, 0, 0]).bind fun y1 =>
   (if ((beqD T32 x1.1 x2.1) == true) = true then basculeref_isZero.run y1 else some false).bind fun y2 =>
   if (cond (beqD T32 x1.1 x2.1) y2 false) = true then
    Rt true ([0, 0, 0, 0], [0, 0, 0, 0], true, ())
   else
    (basculeref_opposite.run x1.2.1 x0.1).bind fun y3 =>
    (basculeref_total.run x2.2.1 y3 x0.1).bind fun y4 =>
    (basculeref_opposite.run x1.1 x0.1).bind fun y5 =>
    (basculeref_total.run x2.1 y5 x0.1).bind fun y6 =>
    if (beqD T52 x1 x2) = true then
     (basculeref_by.run 3 x0.1).bind fun y7 =>
     (basculeref_product.run x1.1 x1.1 x0.1).bind fun y8 =>
     (basculeref_product.run y7 y8 x0.1).bind fun y9 =>
     (basculeref_total.run y9 x0.2.1 x0.1).bind fun y10 =>
     (basculeref_total.run x1.2.1 x1.2.1 x0.1).bind fun y11 =>
     j0 Rt x0 x1 x2 ([0, 0, 0, 0], [0, 0, 0, 0], false, ()) y10 y11
    else
     j0 Rt x0 x1 x2 ([0, 0, 0, 0], [0, 0, 0, 0], false, ()) y4 y6
theorem top_eq {α : Type} (k : Nat) (Q : Ex -> St -> Option α) (x0 : D13) (x1 x2 : D14) :
  (den C k) (cB Tryd.f102) Q (St0 x0 x1 x2) = top (fun x7 c6 => Q .ret (St1 x7 c6)) x0 x1 x2 := by
 have h : ∀ (D L : DT α), denJ D L Js C (cB Tryd.f102) Q (St0 x0 x1 x2) =
    if x1.2.2.1 = true then
     Q .ret (St1 true x2)
    else
     if x2.2.2.1 = true then
      Q .ret (St1 true x1)
     else
      (if ((beqD T32 x1.1 x2.1) == true) = true then basculeref_total.run x1.2.1 x2.2.1 x0.1 else some [0, 0, 0, 0]).bind fun y1 =>
      (if ((beqD T32 x1.1 x2.1) == true) = true then basculeref_isZero.run y1 else some false).bind fun y2 =>
      if (cond (beqD T32 x1.1 x2.1) y2 false) = true then
       Q .ret (St1 true ([0, 0, 0, 0], [0, 0, 0, 0], true, ()))
      else
       (basculeref_opposite.run x1.2.1 x0.1).bind fun y3 =>
       (basculeref_total.run x2.2.1 y3 x0.1).bind fun y4 =>
       (basculeref_opposite.run x1.1 x0.1).bind fun y5 =>
       (basculeref_total.run x2.1 y5 x0.1).bind fun y6 =>
       if (beqD T52 x1 x2) = true then
        (basculeref_by.run 3 x0.1).bind fun y7 =>
        (basculeref_product.run x1.1 x1.1 x0.1).bind fun y8 =>
        (basculeref_product.run y7 y8 x0.1).bind fun y9 =>
        (basculeref_total.run y9 x0.2.1 x0.1).bind fun y10 =>
        (basculeref_total.run x1.2.1 x1.2.1 x0.1).bind fun y11 =>
        D cd0 Q (St2 x0 x1 x2 ([0, 0, 0, 0], [0, 0, 0, 0], false, ()) y10 y11)
       else
        D cd0 Q (St2 x0 x1 x2 ([0, 0, 0, 0], [0, 0, 0, 0], false, ()) y4 y6) := by
  intro D L; kernel_rfl
 have h2 := via (k := k) h
 refine h2.trans ?_
 simp only [j0_eq]
 first | rfl | kernel_rfl
def run (x0 : D13) (x1 x2 : D14) : Option D17 := top (α := D14 × Bool × Unit) (fun x7 c6 => some (c6, x7, ())) x0 x1 x2
def F : Fn := ⟨T62, T63, true, fun x => run x.1 x.2.1 x.2.2.1⟩
theorem con : Con Tryd.prog 102 F :=
 con_of (C := C) (ctx_ok (by kernel_rfl) (by kernel_rfl) (by kernel_rfl) (by kernel_rfl) ⟨.inl ⟨basculeref_isZero.con, basculeref_isZero.named⟩, ⟨.inl ⟨basculeref_inverse.con, basculeref_inverse.named⟩, ⟨.inl ⟨basculeref_product.con, basculeref_product.named⟩, ⟨.inl ⟨basculeref_total.con, basculeref_total.named⟩, ⟨.inl ⟨basculeref_opposite.con, basculeref_opposite.named⟩, ⟨.inl ⟨basculeref_by.con, basculeref_by.named⟩, trivial⟩⟩⟩⟩⟩⟩) (by kernel_rfl) Tryd.func102 (c := cB Tryd.f102) (by kernel_rfl) (by kernel_rfl) F (fun x => by simp [F, spread, Tryd.ntmps102]) (fun x => (St0 x.1 x.2.1 x.2.2.1)) (fun x => by kernel_rfl) fun x => (top_eq fuel _ x.1 x.2.1 x.2.2.1).trans (by kernel_rfl)
theorem named : Named Tryd.prog 102 := named_of Tryd.func102 (by kernel_rfl) (by kernel_rfl)
end Go.Bx.basculeref_together
namespace Go.Bx.curve_fault
def Js : List Nat := [11]
def C : Ctx := ⟨[(30, T1), (58, T52), (60, T50), (160, T60)], [], [], fnL [(53, curve_Check.F), (87, curve_on.F)], noSh, [], invL [], [(2, [4]), (1, []), (4, [2, 13, 14, 15]), (15, [2, 13, 14, 15]), (30, [])], [], [], 0, 0⟩
def St0 (x0 : D13) (x1 : D16) : St := stL 24 [(0, .data T50 x0), (1, .data T60 x1)] []
def St1 (x4 : Int) : St := stL 24 [(4, .data T1 x4)] []
def St2 (x13 : D16) (x14 x15 : Int) (c2 : D13) : St := stL 24 [(2, .ref 2 0 []), (13, .data T60 x13), (14, .data T1 x14), (15, .data T1 x15)] [(2, .cell T50 (.data T50 c2) false)]
noncomputable def cd0 : Code := cL (cL (cR (cL (cR (cR (cB Tryd.f88))))))
def St3 : St := stL 24 [] []
def l0s {α : Type} (Nx : D16 -> Int -> Int -> D13 -> Option α) (Rt : Int -> Option α) (Xt0 : Option α) (x13 : D16) (x14 x15 : Int) (c2 : D13) : Option α :=
 if (decide (x15 < x14)) = true then
  if 0 <= x15 /\ x15 < (x13.length : Int) then
   (curve_on.run c2 (List.getD x13 (Int.toNat x15) ([0, 0, 0, 0], [0, 0, 0, 0], false, ()))).bind fun y2 =>
   if (not y2) = true then
    Rt 16
   else
    Nx x13 x14 (IntKind.i64.wrap (x15 + 1)) c2
  else none
 else
  Xt0
theorem l0s_eq {α : Type} (k : Nat) (next : St -> Option α) (Q : Ex -> St -> Option α) (x13 : D16) (x14 x15 : Int) (c2 : D13) :
  rnd C k cd0 15 Q next (St2 x13 x14 x15 c2) = l0s (fun x13 x14 x15 c2 => next (St2 x13 x14 x15 c2)) (fun x4 => Q .ret (St1 x4)) (Q (.exit 0) St3) x13 x14 x15 c2 := by
 have h : ∀ (D L : DT α), denJ D L Js C cd0 (lq C 15 next Q) (St2 x13 x14 x15 c2) = l0s (fun x13 x14 x15 c2 => next (St2 x13 x14 x15 c2)) (fun x4 => Q .ret (St1 x4)) (Q (.exit 0) St3) x13 x14 x15 c2 := by
  intro D L; kernel_rfl
 have h2 := via (k := k) h
 exact h2
def l0 {α : Type} (k : Nat) (Rt : Int -> Option α) (Xt0 : Option α) : Nat -> D16 -> Int -> Int -> D13 -> Option α
 | 0, _, _, _, _ => none
 | n + 1, x13, x14, x15, c2 => l0s (l0 k Rt Xt0 n) Rt Xt0 x13 x14 x15 c2
theorem l0_eq {α : Type} (k : Nat) (Q : Ex -> St -> Option α) : ∀ (n : Nat) (x13 : D16) (x14 x15 : Int) (c2 : D13), iter (rnd C k cd0 15 Q) n (St2 x13 x14 x15 c2) = l0 k (fun x4 => Q .ret (St1 x4)) (Q (.exit 0) St3) n x13 x14 x15 c2
 | 0, _, _, _, _ => rfl
 | n + 1, x13, x14, x15, c2 => (iter_succ _ _ _).trans ((l0s_eq k _ Q x13 x14 x15 c2).trans (congrArg (fun N => l0s N (fun x4 => Q .ret (St1 x4)) (Q (.exit 0) St3) x13 x14 x15 c2) (by funext; exact l0_eq k Q n _ _ _ _)))
theorem l0_congr {α : Type} (k : Nat) (Rt : Int -> Option α) (Xt0 : Option α) (Rtq : Int -> Option α) (Xt0q : Option α) (hRt : ∀ (x4 : Int), Rt x4 = Rtq x4) (hXt0 : Xt0 = Xt0q) (n : Nat) (x13 : D16) (x14 x15 : Int) (c2 : D13) : l0 k Rt Xt0 n x13 x14 x15 c2 = l0 k Rtq Xt0q n x13 x14 x15 c2 := by
 obtain rfl : Rt = Rtq := by funext x4; exact hRt x4
 obtain rfl : Xt0 = Xt0q := hXt0
 rfl
noncomputable def cd1 : Code := cR (cR (cR (cB Tryd.f88)))
def St4 : St := stL 24 [] []
def j0 {α : Type} (Rt : Int -> Option α) : Option α :=
 Rt 0
theorem j0_eq {α : Type} (k : Nat) (Q : Ex -> St -> Option α) :
  (den C k) cd1 Q St4 = j0 (fun x4 => Q .ret (St1 x4)) := by
 have h : ∀ (D L : DT α), denJ D L Js C cd1 Q St4 = j0 (fun x4 => Q .ret (St1 x4)) := by
  intro D L; kernel_rfl
 have h2 := via (k := k) h
 exact h2
theorem a0 {α : Type} (k : Nat) (Q : Ex -> St -> Option α) (x13 : D16) (x14 x15 : Int) (c2 : D13) :
  (lp C k) cd0 (blkQ C 0 (sq (den C k) (lp C k) Js C cd1 Q)) (St2 x13 x14 x15 c2) = l0 k (fun x4 => (fun x4 => Q .ret (St1 x4)) x4) (j0 (fun x4 => Q .ret (St1 x4))) k x13 x14 x15 c2 :=
 (lp_iter 15 (by kernel_rfl)).trans ((l0_eq k _ k x13 x14 x15 c2).trans (l0_congr k _ _ _ _ (fun x4 => (by kernel_rfl)) (Eq.trans (b := (den C k) cd1 Q St4) (by kernel_rfl) (by simp only [j0_eq])) k x13 x14 x15 c2))
def top {α : Type} (k : Nat) (Rt : Int -> Option α) (x0 : D13) (x1 : D16) : Option α :=
 (curve_Check.run x0).bind fun y1 =>
 if (y1 != 0) = true then
  Rt y1
 else
  l0 k (fun x4 => Rt x4) (j0 Rt) k x1 (x1.length : Int) 0 x0
theorem top_eq {α : Type} (k : Nat) (Q : Ex -> St -> Option α) (x0 : D13) (x1 : D16) :
  (den C k) (cB Tryd.f88) Q (St0 x0 x1) = top k (fun x4 => Q .ret (St1 x4)) x0 x1 := by
 have h : ∀ (D L : DT α), denJ D L Js C (cB Tryd.f88) Q (St0 x0 x1) =
    (curve_Check.run x0).bind fun y1 =>
    if (y1 != 0) = true then
     Q .ret (St1 y1)
    else
     L cd0 (blkQ C 0 (sq D L Js C cd1 Q)) (St2 x1 (x1.length : Int) 0 x0) := by
  intro D L; kernel_rfl
 have h2 := via (k := k) h
 refine h2.trans ?_
 simp only [a0]
 first | rfl | kernel_rfl
def run (x0 : D13) (x1 : D16) : Option (Int) := top (α := Int) fuel (fun x4 => some x4) x0 x1
def F : Fn := ⟨T61, T1, false, fun x => run x.1 x.2.1⟩
theorem con : Con Tryd.prog 88 F :=
 con_of (C := C) (ctx_ok (by kernel_rfl) (by kernel_rfl) (by kernel_rfl) (by kernel_rfl) ⟨.inl ⟨curve_Check.con, curve_Check.named⟩, ⟨.inl ⟨curve_on.con, curve_on.named⟩, trivial⟩⟩) (by kernel_rfl) Tryd.func88 (c := cB Tryd.f88) (by kernel_rfl) (by kernel_rfl) F (fun x => by simp [F, spread, Tryd.ntmps88]) (fun x => (St0 x.1 x.2.1)) (fun x => by kernel_rfl) fun x => (top_eq fuel _ x.1 x.2.1).trans (by kernel_rfl)
theorem named : Named Tryd.prog 88 := named_of Tryd.func88 (by kernel_rfl) (by kernel_rfl)
end Go.Bx.curve_fault
namespace Go.Bx.curve_Mult
def Js : List Nat := [8, 12]
def C : Ctx := ⟨[(22, T2), (30, T1), (56, T32), (58, T52), (60, T50), (160, T60)], [], [], fnL [(88, curve_fault.F), (89, curve_add.F)], noSh, [], invL [], [(2, [6, 7]), (1, [6, 9, 10]), (4, [3, 4, 5, 6, 9, 10, 11]), (18, [3, 4, 5, 6, 9, 10, 11]), (21, [3, 4, 5, 6, 9, 10, 11]), (33, [6, 9, 10])], [], [], 0, 0⟩
def St0 (x0 : D13) (x1 : D0) (x2 : D14) : St := stL 58 [(0, .data T50 x0), (1, .data T32 x1), (2, .data T52 x2)] []
def St1 (x7 : Int) (c6 : D14) : St := stL 58 [(6, .ref 6 0 []), (7, .data T1 x7)] [(6, .cell T52 (.data T52 c6) false)]
def St2 (x10 : Bool) (x11 : Int) (c3 : D13) (c4 : D0) (c5 c6 c9 : D14) : St := stL 58 [(3, .ref 3 0 []), (4, .ref 4 0 []), (5, .ref 5 0 []), (6, .ref 6 0 []), (9, .ref 9 0 []), (10, .data .bool x10), (11, .data T1 x11)] [(3, .cell T50 (.data T50 c3) false), (4, .cell T32 (.data T32 c4) false), (5, .cell T52 (.data T52 c5) false), (6, .cell T52 (.data T52 c6) false), (9, .cell T52 (.data T52 c9) false)]
noncomputable def cd0 : Code := cL (cL (cR (cL (cR (cR (cR (cB Tryd.f55)))))))
def St3 (x10 : Bool) (x11 : Int) (c3 : D13) (c4 : D0) (c5 c6 c9 : D14) : St := stL 58 [(3, .ref 3 0 []), (4, .ref 4 0 []), (5, .ref 5 0 []), (6, .ref 6 0 []), (9, .ref 9 0 []), (10, .data .bool x10), (11, .data T1 x11)] [(3, .cell T50 (.data T50 c3) false), (4, .cell T32 (.data T32 c4) false), (5, .cell T52 (.data T52 c5) false), (6, .cell T52 (.data T52 c6) false), (9, .cell T52 (.data T52 c9) false)]
noncomputable def cd1 : Code := cR (cR (cL (cL (cR (cL (cR (cR (cR (cB Tryd.f55)))))))))
def j0 {α : Type} (Nx : Bool -> Int -> D13 -> D0 -> D14 -> D14 -> D14 -> Option α) (x10 : Bool) (x11 : Int) (c3 : D13) (c4 : D0) (c5 c6 c9 : D14) : Option α :=
 Nx x10 (IntKind.i64.wrap (x11 - 1)) c3 c4 c5 c6 c9
theorem j0_eq {α : Type} (k : Nat) (next : St -> Option α) (Q : Ex -> St -> Option α) (x10 : Bool) (x11 : Int) (c3 : D13) (c4 : D0) (c5 c6 c9 : D14) :
  (den C k) cd1 (lq C 18 next Q) (St3 x10 x11 c3 c4 c5 c6 c9) = j0 (fun x10 x11 c3 c4 c5 c6 c9 => next (St2 x10 x11 c3 c4 c5 c6 c9)) x10 x11 c3 c4 c5 c6 c9 := by
 have h : ∀ (D L : DT α), denJ D L Js C cd1 (lq C 18 next Q) (St3 x10 x11 c3 c4 c5 c6 c9) = j0 (fun x10 x11 c3 c4 c5 c6 c9 => next (St2 x10 x11 c3 c4 c5 c6 c9)) x10 x11 c3 c4 c5 c6 c9 := by
  intro D L; kernel_rfl
 have h2 := via (k := k) h
 exact h2
def St4 (x10 : Bool) (c6 c9 : D14) : St := stL 58 [(6, .ref 6 0 []), (9, .ref 9 0 []), (10, .data .bool x10)] [(6, .cell T52 (.data T52 c6) false), (9, .cell T52 (.data T52 c9) false)]
def l0s {α : Type} (Nx : Bool -> Int -> D13 -> D0 -> D14 -> D14 -> D14 -> Option α) (Xt0 : Bool -> D14 -> D14 -> Option α) (x10 : Bool) (x11 : Int) (c3 : D13) (c4 : D0) (c5 c6 c9 : D14) : Option α :=
 if (cond (decide (x11 >= 0)) x10 false) = true then
  (curve_add.run c3 c9 c9).bind fun y2 =>
  cond (decide (0 <= (IntKind.i64.wrap (Int.tdiv x11 64)) /\ (IntKind.i64.wrap (Int.tdiv x11 64)) < (4 : Int)) || !(y2.2.1 == true)) (
   cond (decide (0 <= (Int.tmod x11 64)) || !(y2.2.1 == true)) (
    if (cond y2.2.1 ((band .u64 (shrI .u64 (List.getD c4 (Int.toNat (IntKind.i64.wrap (Int.tdiv x11 64))) 0) (Int.tmod x11 64)) 1) == 1) false) = true then
     (curve_add.run c3 y2.1 c5).bind fun y3 =>
     j0 Nx y3.2.1 x11 c3 c4 c5 c6 y3.1
    else
     j0 Nx y2.2.1 x11 c3 c4 c5 c6 y2.1) none) none
 else
  Xt0 x10 c6 c9
theorem l0s_eq {α : Type} (k : Nat) (next : St -> Option α) (Q : Ex -> St -> Option α) (x10 : Bool) (x11 : Int) (c3 : D13) (c4 : D0) (c5 c6 c9 : D14) :
  rnd C k cd0 18 Q next (St2 x10 x11 c3 c4 c5 c6 c9) = l0s (fun x10 x11 c3 c4 c5 c6 c9 => next (St2 x10 x11 c3 c4 c5 c6 c9)) (fun x10 c6 c9 => Q (.exit 0) (St4 x10 c6 c9)) x10 x11 c3 c4 c5 c6 c9 := by
 have h : ∀ (D L : DT α), denJ D L Js C cd0 (lq C 18 next Q) (St2 x10 x11 c3 c4 c5 c6 c9) =
    if (cond (decide (x11 >= 0)) x10 false) = true then
     (curve_add.run c3 c9 c9).bind fun y2 =>
     cond (decide (0 <= (IntKind.i64.wrap (Int.tdiv x11 64)) /\ (IntKind.i64.wrap (Int.tdiv x11 64)) < (4 : Int)) || !(y2.2.1 == true)) (
      cond (decide (0 <= (Int.tmod x11 64)) || !(y2.2.1 == true)) (
       if (cond y2.2.1 ((band .u64 (shrI .u64 (List.getD c4 (Int.toNat (IntKind.i64.wrap (Int.tdiv x11 64))) 0) (Int.tmod x11 64)) 1) == 1) false) = true then
        (curve_add.run c3 y2.1 c5).bind fun y3 =>
        D cd1 (lq C 18 next Q) (St3 y3.2.1 x11 c3 c4 c5 c6 y3.1)
       else
        D cd1 (lq C 18 next Q) (St3 y2.2.1 x11 c3 c4 c5 c6 y2.1)) none) none
    else
     Q (.exit 0) (St4 x10 c6 c9) := by
  intro D L; kernel_rfl
 have h2 := via (k := k) h
 refine h2.trans ?_
 simp only [j0_eq]
 first | rfl | kernel_rfl
def l0 {α : Type} (k : Nat) (Xt0 : Bool -> D14 -> D14 -> Option α) : Nat -> Bool -> Int -> D13 -> D0 -> D14 -> D14 -> D14 -> Option α
 | 0, _, _, _, _, _, _, _ => none
 | n + 1, x10, x11, c3, c4, c5, c6, c9 => l0s (l0 k Xt0 n) Xt0 x10 x11 c3 c4 c5 c6 c9
theorem l0_eq {α : Type} (k : Nat) (Q : Ex -> St -> Option α) : ∀ (n : Nat) (x10 : Bool) (x11 : Int) (c3 : D13) (c4 : D0) (c5 c6 c9 : D14), iter (rnd C k cd0 18 Q) n (St2 x10 x11 c3 c4 c5 c6 c9) = l0 k (fun x10 c6 c9 => Q (.exit 0) (St4 x10 c6 c9)) n x10 x11 c3 c4 c5 c6 c9
 | 0, _, _, _, _, _, _, _ => rfl
 | n + 1, x10, x11, c3, c4, c5, c6, c9 => (iter_succ _ _ _).trans ((l0s_eq k _ Q x10 x11 c3 c4 c5 c6 c9).trans (congrArg (fun N => l0s N (fun x10 c6 c9 => Q (.exit 0) (St4 x10 c6 c9)) x10 x11 c3 c4 c5 c6 c9) (by funext; exact l0_eq k Q n _ _ _ _ _ _ _)))
noncomputable def cd2 : Code := cR (cR (cR (cR (cB Tryd.f55))))
def St5 (x10 : Bool) (c6 c9 : D14) : St := stL 58 [(6, .ref 6 0 []), (9, .ref 9 0 []), (10, .data .bool x10)] [(6, .cell T52 (.data T52 c6) false), (9, .cell T52 (.data T52 c9) false)]
def j1 {α : Type} (Rt : Int -> D14 -> Option α) (x10 : Bool) (c6 c9 : D14) : Option α :=
 if (not x10) = true then
  Rt 16 ([0, 0, 0, 0], [0, 0, 0, 0], false, ())
 else
  Rt 0 c9
theorem j1_eq {α : Type} (k : Nat) (Q : Ex -> St -> Option α) (x10 : Bool) (c6 c9 : D14) :
  (den C k) cd2 Q (St5 x10 c6 c9) = j1 (fun x7 c6 => Q .ret (St1 x7 c6)) x10 c6 c9 := by
 have h : ∀ (D L : DT α), denJ D L Js C cd2 Q (St5 x10 c6 c9) = j1 (fun x7 c6 => Q .ret (St1 x7 c6)) x10 c6 c9 := by
  intro D L; kernel_rfl
 have h2 := via (k := k) h
 exact h2
theorem a0 {α : Type} (k : Nat) (Q : Ex -> St -> Option α) (x10 : Bool) (x11 : Int) (c3 : D13) (c4 : D0) (c5 c6 c9 : D14) :
  (lp C k) cd0 (blkQ C 0 (sq (den C k) (lp C k) Js C cd2 Q)) (St2 x10 x11 c3 c4 c5 c6 c9) = l0 k (fun x10 c6 c9 => j1 (fun x7 c6 => Q .ret (St1 x7 c6)) x10 c6 c9) k x10 x11 c3 c4 c5 c6 c9 :=
 (lp_iter 18 (by kernel_rfl)).trans ((l0_eq k _ k x10 x11 c3 c4 c5 c6 c9).trans (congrArg (fun X => l0 k X k x10 x11 c3 c4 c5 c6 c9) (funext fun x10 => funext fun c6 => funext fun c9 => (Eq.trans (b := (den C k) cd2 Q (St5 x10 c6 c9)) (by kernel_rfl) (by simp only [j1_eq])))))
def top {α : Type} (k : Nat) (Rt : Int -> D14 -> Option α) (x0 : D13) (x1 : D0) (x2 : D14) : Option α :=
 (curve_fault.run x0 [x2]).bind fun y1 =>
 if (y1 != 0) = true then
  Rt y1 ([0, 0, 0, 0], [0, 0, 0, 0], false, ())
 else
  l0 k (fun x10 c6 c9 => j1 Rt x10 c6 c9) k true 255 x0 x1 x2 ([0, 0, 0, 0], [0, 0, 0, 0], false, ()) ([0, 0, 0, 0], [0, 0, 0, 0], true, ())
theorem top_eq {α : Type} (k : Nat) (Q : Ex -> St -> Option α) (x0 : D13) (x1 : D0) (x2 : D14) :
  (den C k) (cB Tryd.f55) Q (St0 x0 x1 x2) = top k (fun x7 c6 => Q .ret (St1 x7 c6)) x0 x1 x2 := by
 have h : ∀ (D L : DT α), denJ D L Js C (cB Tryd.f55) Q (St0 x0 x1 x2) =
    (curve_fault.run x0 [x2]).bind fun y1 =>
    if (y1 != 0) = true then
     Q .ret (St1 y1 ([0, 0, 0, 0], [0, 0, 0, 0], false, ()))
    else
     L cd0 (blkQ C 0 (sq D L Js C cd2 Q)) (St2 true 255 x0 x1 x2 ([0, 0, 0, 0], [0, 0, 0, 0], false, ()) ([0, 0, 0, 0], [0, 0, 0, 0], true, ())) := by
  intro D L; kernel_rfl
 have h2 := via (k := k) h
 refine h2.trans ?_
 simp only [a0]
 first | rfl | kernel_rfl
def run (x0 : D13) (x1 : D0) (x2 : D14) : Option D18 := top (α := D14 × Int × Unit) fuel (fun x7 c6 => some (c6, x7, ())) x0 x1 x2
def F : Fn := ⟨T64, T65, true, fun x => run x.1 x.2.1 x.2.2.1⟩
theorem con : Con Tryd.prog 55 F :=
 con_of (C := C) (ctx_ok (by kernel_rfl) (by kernel_rfl) (by kernel_rfl) (by kernel_rfl) ⟨.inl ⟨curve_fault.con, curve_fault.named⟩, ⟨.inl ⟨curve_add.con, curve_add.named⟩, trivial⟩⟩) (by kernel_rfl) Tryd.func55 (c := cB Tryd.f55) (by kernel_rfl) (by kernel_rfl) F (fun x => by simp [F, spread, Tryd.ntmps55]) (fun x => (St0 x.1 x.2.1 x.2.2.1)) (fun x => by kernel_rfl) fun x => (top_eq fuel _ x.1 x.2.1 x.2.2.1).trans (by kernel_rfl)
theorem named : Named Tryd.prog 55 := named_of Tryd.func55 (by kernel_rfl) (by kernel_rfl)
end Go.Bx.curve_Mult
namespace Go.Bx.basculeref_often
def Js : List Nat := [5, 12, 15]
def C : Ctx := ⟨[(4, .bool), (22, T2), (56, T32), (58, T52), (60, T50)], [], [], fnL [(102, basculeref_together.F)], noSh, [], invL [], [(2, [6, 7]), (1, [6, 8]), (4, [3, 4, 5, 6, 8, 9]), (7, [3, 4, 5, 6, 8, 9]), (10, [3, 4, 5, 6, 8, 9, 10]), (9, [3, 4, 5, 6, 8, 9]), (12, [3, 4, 5, 6, 8, 9]), (18, [3, 4, 5, 6, 8, 9, 10]), (33, [3, 4, 5, 6, 8, 9, 10, 11, 12]), (42, [6, 8])], [], [], 0, 0⟩
def St0 (x0 : D13) (x1 : D0) (x2 : D14) : St := stL 51 [(0, .data T50 x0), (1, .data T32 x1), (2, .data T52 x2)] []
def St1 (x9 : Int) (c3 : D13) (c4 : D0) (c5 c6 c8 : D14) : St := stL 51 [(3, .ref 3 0 []), (4, .ref 4 0 []), (5, .ref 5 0 []), (6, .ref 6 0 []), (8, .ref 8 0 []), (9, .data T1 x9)] [(3, .cell T50 (.data T50 c3) false), (4, .cell T32 (.data T32 c4) false), (5, .cell T52 (.data T52 c5) false), (6, .cell T52 (.data T52 c6) false), (8, .cell T52 (.data T52 c8) false)]
noncomputable def cd0 : Code := cL (cL (cR (cL (cR (cR (cB Tryd.f70))))))
def St2 (x9 x10 : Int) (c3 : D13) (c4 : D0) (c5 c6 c8 : D14) : St := stL 51 [(3, .ref 3 0 []), (4, .ref 4 0 []), (5, .ref 5 0 []), (6, .ref 6 0 []), (8, .ref 8 0 []), (9, .data T1 x9), (10, .data T1 x10)] [(3, .cell T50 (.data T50 c3) false), (4, .cell T32 (.data T32 c4) false), (5, .cell T52 (.data T52 c5) false), (6, .cell T52 (.data T52 c6) false), (8, .cell T52 (.data T52 c8) false)]
noncomputable def cd1 : Code := cL (cL (cR (cL (cL (cR (cL (cL (cR (cL (cR (cR (cB Tryd.f70))))))))))))
def St3 (x9 x10 : Int) (x12 : Bool) (c3 : D13) (c4 : D0) (c5 c6 : D14) (c8 c11 : D14) : St := stL 51 [(3, .ref 3 0 []), (4, .ref 4 0 []), (5, .ref 5 0 []), (6, .ref 6 0 []), (8, .ref 8 0 []), (9, .data T1 x9), (10, .data T1 x10), (11, .ref 11 0 []), (12, .data .bool x12)] [(3, .cell T50 (.data T50 c3) false), (4, .cell T32 (.data T32 c4) false), (5, .cell T52 (.data T52 c5) false), (6, .cell T52 (.data T52 c6) false), (8, .cell T52 (.data T52 c8) false), (11, .cell T52 (.data T52 c11) false)]
noncomputable def cd2 : Code := cR (cR (cL (cL (cR (cL (cL (cR (cL (cL (cR (cL (cR (cR (cB Tryd.f70))))))))))))))
noncomputable def cd3 : Code := cR (cR (cL (cL (cR (cL (cL (cR (cL (cL (cR (cL (cL (cR (cL (cR (cR (cB Tryd.f70)))))))))))))))))
def St4 (x7 : Bool) (c6 : D14) : St := stL 51 [(6, .ref 6 0 []), (7, .data .bool x7)] [(6, .cell T52 (.data T52 c6) false)]
def j0 {α : Type} (Nx : Int -> Int -> D13 -> D0 -> D14 -> D14 -> D14 -> Option α) (Rt : Bool -> D14 -> Option α) (x9 x10 : Int) (x12 : Bool) (c3 : D13) (c4 : D0) (c5 c6 : D14) (c8 c11 : D14) : Option α :=
 if (not x12) = true then
  Rt false ([0, 0, 0, 0], [0, 0, 0, 0], false, ())
 else
  Nx x9 (IntKind.i64.wrap (x10 - 1)) c3 c4 c5 c6 c11
theorem j0_eq {α : Type} (k : Nat) (next : St -> Option α) (Q : Ex -> St -> Option α) (x9 x10 : Int) (x12 : Bool) (c3 : D13) (c4 : D0) (c5 c6 : D14) (c8 c11 : D14) :
  (den C k) cd3 (blkQ C 3 (sq (den C k) (lp C k) Js C cd2 (lq C 18 next Q))) (St3 x9 x10 x12 c3 c4 c5 c6 c8 c11) = j0 (fun x9 x10 c3 c4 c5 c6 c8 => next (St2 x9 x10 c3 c4 c5 c6 c8)) (fun x7 c6 => Q .ret (St4 x7 c6)) x9 x10 x12 c3 c4 c5 c6 c8 c11 := by
 have h : ∀ (D L : DT α), denJ D L Js C cd3 (blkQ C 3 (sq D L Js C cd2 (lq C 18 next Q))) (St3 x9 x10 x12 c3 c4 c5 c6 c8 c11) = j0 (fun x9 x10 c3 c4 c5 c6 c8 => next (St2 x9 x10 c3 c4 c5 c6 c8)) (fun x7 c6 => Q .ret (St4 x7 c6)) x9 x10 x12 c3 c4 c5 c6 c8 c11 := by
  intro D L; kernel_rfl
 have h2 := via (k := k) h
 exact h2
def St5 (x9 : Int) (c3 : D13) (c4 : D0) (c5 c6 c8 : D14) : St := stL 51 [(3, .ref 3 0 []), (4, .ref 4 0 []), (5, .ref 5 0 []), (6, .ref 6 0 []), (8, .ref 8 0 []), (9, .data T1 x9)] [(3, .cell T50 (.data T50 c3) false), (4, .cell T32 (.data T32 c4) false), (5, .cell T52 (.data T52 c5) false), (6, .cell T52 (.data T52 c6) false), (8, .cell T52 (.data T52 c8) false)]
def l1s {α : Type} (Nx : Int -> Int -> D13 -> D0 -> D14 -> D14 -> D14 -> Option α) (Rt : Bool -> D14 -> Option α) (Xt2 : Int -> D13 -> D0 -> D14 -> D14 -> D14 -> Option α) (x9 x10 : Int) (c3 : D13) (c4 : D0) (c5 c6 c8 : D14) : Option α :=
 if (decide (x10 >= 0)) = true then
  (basculeref_together.run c3 c8 c8).bind fun y1 =>
  cond (decide (0 <= x9 /\ x9 < (4 : Int)) || !(y1.2.1 == true)) (
   cond (decide (0 <= x10) || !(y1.2.1 == true)) (
    if (cond y1.2.1 ((band .u64 (List.getD c4 (Int.toNat x9) 0) (shlI .u64 1 x10)) != 0) false) = true then
     (basculeref_together.run c3 y1.1 c5).bind fun y2 =>
     j0 Nx Rt x9 x10 y2.2.1 c3 c4 c5 c6 c8 y2.1
    else
     j0 Nx Rt x9 x10 y1.2.1 c3 c4 c5 c6 c8 y1.1) none) none
 else
  Xt2 x9 c3 c4 c5 c6 c8
theorem l1s_eq {α : Type} (k : Nat) (next : St -> Option α) (Q : Ex -> St -> Option α) (x9 x10 : Int) (c3 : D13) (c4 : D0) (c5 c6 c8 : D14) :
  rnd C k cd1 18 Q next (St2 x9 x10 c3 c4 c5 c6 c8) = l1s (fun x9 x10 c3 c4 c5 c6 c8 => next (St2 x9 x10 c3 c4 c5 c6 c8)) (fun x7 c6 => Q .ret (St4 x7 c6)) (fun x9 c3 c4 c5 c6 c8 => Q (.exit 2) (St5 x9 c3 c4 c5 c6 c8)) x9 x10 c3 c4 c5 c6 c8 := by
 have h : ∀ (D L : DT α), denJ D L Js C cd1 (lq C 18 next Q) (St2 x9 x10 c3 c4 c5 c6 c8) =
    if (decide (x10 >= 0)) = true then
     (basculeref_together.run c3 c8 c8).bind fun y1 =>
     cond (decide (0 <= x9 /\ x9 < (4 : Int)) || !(y1.2.1 == true)) (
      cond (decide (0 <= x10) || !(y1.2.1 == true)) (
       if (cond y1.2.1 ((band .u64 (List.getD c4 (Int.toNat x9) 0) (shlI .u64 1 x10)) != 0) false) = true then
        (basculeref_together.run c3 y1.1 c5).bind fun y2 =>
        D cd3 (blkQ C 3 (sq D L Js C cd2 (lq C 18 next Q))) (St3 x9 x10 y2.2.1 c3 c4 c5 c6 c8 y2.1)
       else
        D cd3 (blkQ C 3 (sq D L Js C cd2 (lq C 18 next Q))) (St3 x9 x10 y1.2.1 c3 c4 c5 c6 c8 y1.1)) none) none
    else
     Q (.exit 2) (St5 x9 c3 c4 c5 c6 c8) := by
  intro D L; kernel_rfl
 have h2 := via (k := k) h
 refine h2.trans ?_
 simp only [j0_eq]
 first | rfl | kernel_rfl
def l1 {α : Type} (k : Nat) (Rt : Bool -> D14 -> Option α) (Xt2 : Int -> D13 -> D0 -> D14 -> D14 -> D14 -> Option α) : Nat -> Int -> Int -> D13 -> D0 -> D14 -> D14 -> D14 -> Option α
 | 0, _, _, _, _, _, _, _ => none
 | n + 1, x9, x10, c3, c4, c5, c6, c8 => l1s (l1 k Rt Xt2 n) Rt Xt2 x9 x10 c3 c4 c5 c6 c8
theorem l1_eq {α : Type} (k : Nat) (Q : Ex -> St -> Option α) : ∀ (n : Nat) (x9 x10 : Int) (c3 : D13) (c4 : D0) (c5 c6 c8 : D14), iter (rnd C k cd1 18 Q) n (St2 x9 x10 c3 c4 c5 c6 c8) = l1 k (fun x7 c6 => Q .ret (St4 x7 c6)) (fun x9 c3 c4 c5 c6 c8 => Q (.exit 2) (St5 x9 c3 c4 c5 c6 c8)) n x9 x10 c3 c4 c5 c6 c8
 | 0, _, _, _, _, _, _, _ => rfl
 | n + 1, x9, x10, c3, c4, c5, c6, c8 => (iter_succ _ _ _).trans ((l1s_eq k _ Q x9 x10 c3 c4 c5 c6 c8).trans (congrArg (fun N => l1s N (fun x7 c6 => Q .ret (St4 x7 c6)) (fun x9 c3 c4 c5 c6 c8 => Q (.exit 2) (St5 x9 c3 c4 c5 c6 c8)) x9 x10 c3 c4 c5 c6 c8) (by funext; exact l1_eq k Q n _ _ _ _ _ _ _)))
theorem l1_congr {α : Type} (k : Nat) (Rt : Bool -> D14 -> Option α) (Xt2 : Int -> D13 -> D0 -> D14 -> D14 -> D14 -> Option α) (Rtq : Bool -> D14 -> Option α) (Xt2q : Int -> D13 -> D0 -> D14 -> D14 -> D14 -> Option α) (hRt : ∀ (x7 : Bool) (c6 : D14), Rt x7 c6 = Rtq x7 c6) (hXt2 : ∀ (x9 : Int) (c3 : D13) (c4 : D0) (c5 c6 c8 : D14), Xt2 x9 c3 c4 c5 c6 c8 = Xt2q x9 c3 c4 c5 c6 c8) (n : Nat) (x9 x10 : Int) (c3 : D13) (c4 : D0) (c5 c6 c8 : D14) : l1 k Rt Xt2 n x9 x10 c3 c4 c5 c6 c8 = l1 k Rtq Xt2q n x9 x10 c3 c4 c5 c6 c8 := by
 obtain rfl : Rt = Rtq := by funext x7; funext c6; exact hRt x7 c6
 obtain rfl : Xt2 = Xt2q := by funext x9; funext c3; funext c4; funext c5; funext c6; funext c8; exact hXt2 x9 c3 c4 c5 c6 c8
 rfl
noncomputable def cd4 : Code := cR (cR (cL (cL (cR (cL (cR (cR (cB Tryd.f70))))))))
def St6 (x9 : Int) (c3 : D13) (c4 : D0) (c5 c6 c8 : D14) : St := stL 51 [(3, .ref 3 0 []), (4, .ref 4 0 []), (5, .ref 5 0 []), (6, .ref 6 0 []), (8, .ref 8 0 []), (9, .data T1 x9)] [(3, .cell T50 (.data T50 c3) false), (4, .cell T32 (.data T32 c4) false), (5, .cell T52 (.data T52 c5) false), (6, .cell T52 (.data T52 c6) false), (8, .cell T52 (.data T52 c8) false)]
def j1 {α : Type} (Nx : Int -> D13 -> D0 -> D14 -> D14 -> D14 -> Option α) (x9 : Int) (c3 : D13) (c4 : D0) (c5 c6 c8 : D14) : Option α :=
 Nx (IntKind.i64.wrap (x9 - 1)) c3 c4 c5 c6 c8
theorem j1_eq {α : Type} (k : Nat) (next : St -> Option α) (Q : Ex -> St -> Option α) (x9 : Int) (c3 : D13) (c4 : D0) (c5 c6 c8 : D14) :
  (den C k) cd4 (lq C 9 next Q) (St6 x9 c3 c4 c5 c6 c8) = j1 (fun x9 c3 c4 c5 c6 c8 => next (St1 x9 c3 c4 c5 c6 c8)) x9 c3 c4 c5 c6 c8 := by
 have h : ∀ (D L : DT α), denJ D L Js C cd4 (lq C 9 next Q) (St6 x9 c3 c4 c5 c6 c8) = j1 (fun x9 c3 c4 c5 c6 c8 => next (St1 x9 c3 c4 c5 c6 c8)) x9 c3 c4 c5 c6 c8 := by
  intro D L; kernel_rfl
 have h2 := via (k := k) h
 exact h2
theorem a0 {α : Type} (k : Nat) (next : St -> Option α) (Q : Ex -> St -> Option α) (x9 x10 : Int) (c3 : D13) (c4 : D0) (c5 c6 c8 : D14) :
  (lp C k) cd1 (blkQ C 2 (blkQ C 1 (sq (den C k) (lp C k) Js C cd4 (lq C 9 next Q)))) (St2 x9 x10 c3 c4 c5 c6 c8) = l1 k (fun x7 c6 => (fun x7 c6 => Q .ret (St4 x7 c6)) x7 c6) (fun x9 c3 c4 c5 c6 c8 => j1 (fun x9 c3 c4 c5 c6 c8 => next (St1 x9 c3 c4 c5 c6 c8)) x9 c3 c4 c5 c6 c8) k x9 x10 c3 c4 c5 c6 c8 :=
 (lp_iter 18 (by kernel_rfl)).trans ((l1_eq k _ k x9 x10 c3 c4 c5 c6 c8).trans (l1_congr k _ _ _ _ (fun x7 c6 => (by kernel_rfl)) (fun x9 c3 c4 c5 c6 c8 => (Eq.trans (b := (den C k) cd4 (lq C 9 next Q) (St6 x9 c3 c4 c5 c6 c8)) (by kernel_rfl) (by simp only [j1_eq]))) k x9 x10 c3 c4 c5 c6 c8))
def St7 (c6 c8 : D14) : St := stL 51 [(6, .ref 6 0 []), (8, .ref 8 0 [])] [(6, .cell T52 (.data T52 c6) false), (8, .cell T52 (.data T52 c8) false)]
def l0s {α : Type} (k : Nat) (Nx : Int -> D13 -> D0 -> D14 -> D14 -> D14 -> Option α) (Rt : Bool -> D14 -> Option α) (Xt0 : D14 -> D14 -> Option α) (x9 : Int) (c3 : D13) (c4 : D0) (c5 c6 c8 : D14) : Option α :=
 if (decide (x9 >= 0)) = true then
  l1 k (fun x7 c6 => Rt x7 c6) (fun x9 c3 c4 c5 c6 c8 => j1 Nx x9 c3 c4 c5 c6 c8) k x9 63 c3 c4 c5 c6 c8
 else
  Xt0 c6 c8
theorem l0s_eq {α : Type} (k : Nat) (next : St -> Option α) (Q : Ex -> St -> Option α) (x9 : Int) (c3 : D13) (c4 : D0) (c5 c6 c8 : D14) :
  rnd C k cd0 9 Q next (St1 x9 c3 c4 c5 c6 c8) = l0s k (fun x9 c3 c4 c5 c6 c8 => next (St1 x9 c3 c4 c5 c6 c8)) (fun x7 c6 => Q .ret (St4 x7 c6)) (fun c6 c8 => Q (.exit 0) (St7 c6 c8)) x9 c3 c4 c5 c6 c8 := by
 have h : ∀ (D L : DT α), denJ D L Js C cd0 (lq C 9 next Q) (St1 x9 c3 c4 c5 c6 c8) =
    if (decide (x9 >= 0)) = true then
     L cd1 (blkQ C 2 (blkQ C 1 (sq D L Js C cd4 (lq C 9 next Q)))) (St2 x9 63 c3 c4 c5 c6 c8)
    else
     Q (.exit 0) (St7 c6 c8) := by
  intro D L; kernel_rfl
 have h2 := via (k := k) h
 refine h2.trans ?_
 simp only [a0]
 first | rfl | kernel_rfl
def l0 {α : Type} (k : Nat) (Rt : Bool -> D14 -> Option α) (Xt0 : D14 -> D14 -> Option α) : Nat -> Int -> D13 -> D0 -> D14 -> D14 -> D14 -> Option α
 | 0, _, _, _, _, _, _ => none
 | n + 1, x9, c3, c4, c5, c6, c8 => l0s k (l0 k Rt Xt0 n) Rt Xt0 x9 c3 c4 c5 c6 c8
theorem l0_eq {α : Type} (k : Nat) (Q : Ex -> St -> Option α) : ∀ (n : Nat) (x9 : Int) (c3 : D13) (c4 : D0) (c5 c6 c8 : D14), iter (rnd C k cd0 9 Q) n (St1 x9 c3 c4 c5 c6 c8) = l0 k (fun x7 c6 => Q .ret (St4 x7 c6)) (fun c6 c8 => Q (.exit 0) (St7 c6 c8)) n x9 c3 c4 c5 c6 c8
 | 0, _, _, _, _, _, _ => rfl
 | n + 1, x9, c3, c4, c5, c6, c8 => (iter_succ _ _ _).trans ((l0s_eq k _ Q x9 c3 c4 c5 c6 c8).trans (congrArg (fun N => l0s k N (fun x7 c6 => Q .ret (St4 x7 c6)) (fun c6 c8 => Q (.exit 0) (St7 c6 c8)) x9 c3 c4 c5 c6 c8) (by funext; exact l0_eq k Q n _ _ _ _ _ _)))
theorem l0_congr {α : Type} (k : Nat) (Rt : Bool -> D14 -> Option α) (Xt0 : D14 -> D14 -> Option α) (Rtq : Bool -> D14 -> Option α) (Xt0q : D14 -> D14 -> Option α) (hRt : ∀ (x7 : Bool) (c6 : D14), Rt x7 c6 = Rtq x7 c6) (hXt0 : ∀ (c6 c8 : D14), Xt0 c6 c8 = Xt0q c6 c8) (n : Nat) (x9 : Int) (c3 : D13) (c4 : D0) (c5 c6 c8 : D14) : l0 k Rt Xt0 n x9 c3 c4 c5 c6 c8 = l0 k Rtq Xt0q n x9 c3 c4 c5 c6 c8 := by
 obtain rfl : Rt = Rtq := by funext x7; funext c6; exact hRt x7 c6
 obtain rfl : Xt0 = Xt0q := by funext c6; funext c8; exact hXt0 c6 c8
 rfl
noncomputable def cd5 : Code := cR (cR (cR (cB Tryd.f70)))
def St8 (c6 c8 : D14) : St := stL 51 [(6, .ref 6 0 []), (8, .ref 8 0 [])] [(6, .cell T52 (.data T52 c6) false), (8, .cell T52 (.data T52 c8) false)]
def j2 {α : Type} (Rt : Bool -> D14 -> Option α) (c6 c8 : D14) : Option α :=
 Rt true c8
theorem j2_eq {α : Type} (k : Nat) (Q : Ex -> St -> Option α) (c6 c8 : D14) :
  (den C k) cd5 Q (St8 c6 c8) = j2 (fun x7 c6 => Q .ret (St4 x7 c6)) c6 c8 := by
 have h : ∀ (D L : DT α), denJ D L Js C cd5 Q (St8 c6 c8) = j2 (fun x7 c6 => Q .ret (St4 x7 c6)) c6 c8 := by
  intro D L; kernel_rfl
 have h2 := via (k := k) h
 exact h2
theorem a1 {α : Type} (k : Nat) (Q : Ex -> St -> Option α) (x9 : Int) (c3 : D13) (c4 : D0) (c5 c6 c8 : D14) :
  (lp C k) cd0 (blkQ C 0 (sq (den C k) (lp C k) Js C cd5 Q)) (St1 x9 c3 c4 c5 c6 c8) = l0 k (fun x7 c6 => (fun x7 c6 => Q .ret (St4 x7 c6)) x7 c6) (fun c6 c8 => j2 (fun x7 c6 => Q .ret (St4 x7 c6)) c6 c8) k x9 c3 c4 c5 c6 c8 :=
 (lp_iter 9 (by kernel_rfl)).trans ((l0_eq k _ k x9 c3 c4 c5 c6 c8).trans (l0_congr k _ _ _ _ (fun x7 c6 => (by kernel_rfl)) (fun c6 c8 => (Eq.trans (b := (den C k) cd5 Q (St8 c6 c8)) (by kernel_rfl) (by simp only [j2_eq]))) k x9 c3 c4 c5 c6 c8))
def top {α : Type} (k : Nat) (Rt : Bool -> D14 -> Option α) (x0 : D13) (x1 : D0) (x2 : D14) : Option α :=
 l0 k (fun x7 c6 => Rt x7 c6) (fun c6 c8 => j2 Rt c6 c8) k 3 x0 x1 x2 ([0, 0, 0, 0], [0, 0, 0, 0], false, ()) ([0, 0, 0, 0], [0, 0, 0, 0], true, ())
theorem top_eq {α : Type} (k : Nat) (Q : Ex -> St -> Option α) (x0 : D13) (x1 : D0) (x2 : D14) :
  (den C k) (cB Tryd.f70) Q (St0 x0 x1 x2) = top k (fun x7 c6 => Q .ret (St4 x7 c6)) x0 x1 x2 := by
 have h : ∀ (D L : DT α), denJ D L Js C (cB Tryd.f70) Q (St0 x0 x1 x2) =
    L cd0 (blkQ C 0 (sq D L Js C cd5 Q)) (St1 3 x0 x1 x2 ([0, 0, 0, 0], [0, 0, 0, 0], false, ()) ([0, 0, 0, 0], [0, 0, 0, 0], true, ())) := by
  intro D L; kernel_rfl
 have h2 := via (k := k) h
 refine h2.trans ?_
 simp only [a1]
 first | rfl | kernel_rfl
def run (x0 : D13) (x1 : D0) (x2 : D14) : Option D17 := top (α := D14 × Bool × Unit) fuel (fun x7 c6 => some (c6, x7, ())) x0 x1 x2
def F : Fn := ⟨T64, T63, true, fun x => run x.1 x.2.1 x.2.2.1⟩
theorem con : Con Tryd.prog 70 F :=
 con_of (C := C) (ctx_ok (by kernel_rfl) (by kernel_rfl) (by kernel_rfl) (by kernel_rfl) ⟨.inl ⟨basculeref_together.con, basculeref_together.named⟩, trivial⟩) (by kernel_rfl) Tryd.func70 (c := cB Tryd.f70) (by kernel_rfl) (by kernel_rfl) F (fun x => by simp [F, spread, Tryd.ntmps70]) (fun x => (St0 x.1 x.2.1 x.2.2.1)) (fun x => by kernel_rfl) fun x => (top_eq fuel _ x.1 x.2.1 x.2.2.1).trans (by kernel_rfl)
theorem named : Named Tryd.prog 70 := named_of Tryd.func70 (by kernel_rfl) (by kernel_rfl)
end Go.Bx.basculeref_often
namespace Go.Bx.sign_secret
def Js : List Nat := []
def C : Ctx := ⟨[(4, .bool), (56, T32), (60, T50)], [], [], fnL [(82, wide_Cmp.F)], noSh, [], invL [], [(2, [4])], [], [], 0, 0⟩
def St0 (x0 : D13) (x1 : D0) : St := stL 15 [(0, .data T50 x0), (1, .data T32 x1)] []
def St1 (x4 : Bool) : St := stL 15 [(4, .data .bool x4)] []
def top {α : Type} (Rt : Bool -> Option α) (x0 : D13) (x1 : D0) : Option α :=
 (if ((not (beqD T32 x1 [0, 0, 0, 0])) == true) = true then wide_Cmp.run x1 x0.2.2.2.1 else some 0).bind fun y1 =>
 Rt (cond (not (beqD T32 x1 [0, 0, 0, 0])) (decide (y1 < 0)) false)
theorem top_eq {α : Type} (k : Nat) (Q : Ex -> St -> Option α) (x0 : D13) (x1 : D0) :
  (den C k) (cB Tryd.f54) Q (St0 x0 x1) = top (fun x4 => Q .ret (St1 x4)) x0 x1 := by
 have h : ∀ (D L : DT α), denJ D L Js C (cB Tryd.f54) Q (St0 x0 x1) = top (fun x4 => Q .ret (St1 x4)) x0 x1 := by
  intro D L; kernel_rfl
 have h2 := via (k := k) h
 exact h2
def run (x0 : D13) (x1 : D0) : Option (Bool) := top (α := Bool) (fun x4 => some x4) x0 x1
def F : Fn := ⟨T59, .bool, false, fun x => run x.1 x.2.1⟩
theorem con : Con Tryd.prog 54 F :=
 con_of (C := C) (ctx_ok (by kernel_rfl) (by kernel_rfl) (by kernel_rfl) (by kernel_rfl) ⟨.inl ⟨wide_Cmp.con, wide_Cmp.named⟩, trivial⟩) (by kernel_rfl) Tryd.func54 (c := cB Tryd.f54) (by kernel_rfl) (by kernel_rfl) F (fun x => by simp [F, spread, Tryd.ntmps54]) (fun x => (St0 x.1 x.2.1)) (fun x => by kernel_rfl) fun x => (top_eq fuel _ x.1 x.2.1).trans (by kernel_rfl)
theorem named : Named Tryd.prog 54 := named_of Tryd.func54 (by kernel_rfl) (by kernel_rfl)
end Go.Bx.sign_secret
namespace Go.Bx.basculeref_mayBeSecret
def Js : List Nat := []
def C : Ctx := ⟨[(4, .bool), (56, T32), (60, T50)], [], [], fnL [(69, basculeref_isZero.F), (75, basculeref_Order.F)], noSh, [], invL [], [(2, [4])], [], [], 0, 0⟩
def St0 (x0 : D13) (x1 : D0) : St := stL 15 [(0, .data T50 x0), (1, .data T32 x1)] []
def St1 (x4 : Bool) : St := stL 15 [(4, .data .bool x4)] []
def top {α : Type} (Rt : Bool -> Option α) (x0 : D13) (x1 : D0) : Option α :=
 (basculeref_isZero.run x1).bind fun y1 =>
 (if ((not y1) == true) = true then basculeref_Order.run x1 x0.2.2.2.1 else some 0).bind fun y2 =>
 Rt (cond (not y1) (decide (y2 < 0)) false)
theorem top_eq {α : Type} (k : Nat) (Q : Ex -> St -> Option α) (x0 : D13) (x1 : D0) :
  (den C k) (cB Tryd.f58) Q (St0 x0 x1) = top (fun x4 => Q .ret (St1 x4)) x0 x1 := by
 have h : ∀ (D L : DT α), denJ D L Js C (cB Tryd.f58) Q (St0 x0 x1) = top (fun x4 => Q .ret (St1 x4)) x0 x1 := by
  intro D L; kernel_rfl
 have h2 := via (k := k) h
 exact h2
def run (x0 : D13) (x1 : D0) : Option (Bool) := top (α := Bool) (fun x4 => some x4) x0 x1
def F : Fn := ⟨T59, .bool, false, fun x => run x.1 x.2.1⟩
theorem con : Con Tryd.prog 58 F :=
 con_of (C := C) (ctx_ok (by kernel_rfl) (by kernel_rfl) (by kernel_rfl) (by kernel_rfl) ⟨.inl ⟨basculeref_isZero.con, basculeref_isZero.named⟩, ⟨.inl ⟨basculeref_Order.con, basculeref_Order.named⟩, trivial⟩⟩) (by kernel_rfl) Tryd.func58 (c := cB Tryd.f58) (by kernel_rfl) (by kernel_rfl) F (fun x => by simp [F, spread, Tryd.ntmps58]) (fun x => (St0 x.1 x.2.1)) (fun x => by kernel_rfl) fun x => (top_eq fuel _ x.1 x.2.1).trans (by kernel_rfl)
theorem named : Named Tryd.prog 58 := named_of Tryd.func58 (by kernel_rfl) (by kernel_rfl)
end Go.Bx.basculeref_mayBeSecret
namespace Go.Bx.sign_try
def Js : List Nat := [12, 23]
def C : Ctx := ⟨[(3, T1), (4, .bool), (22, T2), (30, T1), (56, T32), (58, T52), (60, T50), (68, T47)], [], [], fnL [(55, curve_Mult.F), (61, sign_rest.F), (82, wide_Cmp.F), (95, field_Inv.F), (96, field_Mul.F), (97, field_Add.F), (98, sign_low.F), (99, wide_Sub.F)], noSh, [], invL [], [(2, [8, 9, 10]), (33, [4, 5, 6, 7, 8, 13]), (66, [8, 13])], [], [], 0, 0⟩
def St0 (x0 : D13) (x1 x2 x3 : D0) : St := stL 125 [(0, .data T50 x0), (1, .data T32 x1), (2, .data T32 x2), (3, .data T32 x3)] []
def St1 (x9 : Bool) (x10 : Int) (c8 : D1) : St := stL 125 [(8, .ref 8 0 []), (9, .data .bool x9), (10, .data T1 x10)] [(8, .cell T47 (.data T47 c8) false)]
def St2 (c4 : D13) (c5 c6 c7 : D0) (c8 c13 : D1) : St := stL 125 [(4, .ref 4 0 []), (5, .ref 5 0 []), (6, .ref 6 0 []), (7, .ref 7 0 []), (8, .ref 8 0 []), (13, .ref 13 0 [])] [(4, .cell T50 (.data T50 c4) false), (5, .cell T32 (.data T32 c5) false), (6, .cell T32 (.data T32 c6) false), (7, .cell T32 (.data T32 c7) false), (8, .cell T47 (.data T47 c8) false), (13, .cell T47 (.data T47 c13) false)]
noncomputable def cd0 : Code := cR (cR (cR (cR (cR (cR (cR (cB Tryd.f63)))))))
def St3 (c8 c13 : D1) : St := stL 125 [(8, .ref 8 0 []), (13, .ref 13 0 [])] [(8, .cell T47 (.data T47 c8) false), (13, .cell T47 (.data T47 c13) false)]
noncomputable def cd1 : Code := cR (cR (cR (cR (cR (cR (cR (cR (cR (cR (cR (cR (cR (cR (cB Tryd.f63))))))))))))))
def j1 {α : Type} (Rt : Bool -> Int -> D1 -> Option α) (c8 c13 : D1) : Option α :=
 Rt true 0 c13
theorem j1_eq {α : Type} (k : Nat) (Q : Ex -> St -> Option α) (c8 c13 : D1) :
  (den C k) cd1 Q (St3 c8 c13) = j1 (fun x9 x10 c8 => Q .ret (St1 x9 x10 c8)) c8 c13 := by
 have h : ∀ (D L : DT α), denJ D L Js C cd1 Q (St3 c8 c13) = j1 (fun x9 x10 c8 => Q .ret (St1 x9 x10 c8)) c8 c13 := by
  intro D L; kernel_rfl
 have h2 := via (k := k) h
 exact h2
def j0 {α : Type} (Rt : Bool -> Int -> D1 -> Option α) (c4 : D13) (c5 c6 c7 : D0) (c8 c13 : D1) : Option α :=
 (field_Inv.run c7 c4.2.2.2.1).bind fun y4 =>
 if (y4.2.1 != 0) = true then
  Rt false 16 ([0, 0, 0, 0], [0, 0, 0, 0], 0, ())
 else
  (field_Mul.run c13.1 c5 c4.2.2.2.1).bind fun y5 =>
  (field_Add.run c6 y5.1 c4.2.2.2.1).bind fun y6 =>
  (field_Mul.run y4.1 y6.1 c4.2.2.2.1).bind fun y7 =>
  if (beqD T32 y7.1 [0, 0, 0, 0]) = true then
   Rt false 0 ([0, 0, 0, 0], [0, 0, 0, 0], 0, ())
  else
   (sign_low.run c4 y7.1).bind fun y8 =>
   if (not y8) = true then
    (wide_Sub.run c4.2.2.2.1 y7.1).bind fun y9 =>
    j1 Rt c8 (c13.1, y9.1, (bxor .i64 c13.2.2.1 1), c13.2.2.2)
   else
    j1 Rt c8 (c13.1, y7.1, c13.2.2)
theorem j0_eq {α : Type} (k : Nat) (Q : Ex -> St -> Option α) (c4 : D13) (c5 c6 c7 : D0) (c8 c13 : D1) :
  (den C k) cd0 Q (St2 c4 c5 c6 c7 c8 c13) = j0 (fun x9 x10 c8 => Q .ret (St1 x9 x10 c8)) c4 c5 c6 c7 c8 c13 := by
 have h : ∀ (D L : DT α), denJ D L Js C cd0 Q (St2 c4 c5 c6 c7 c8 c13) =
    (field_Inv.run c7 c4.2.2.2.1).bind fun y4 =>
    if (y4.2.1 != 0) = true then
     Q .ret (St1 false 16 ([0, 0, 0, 0], [0, 0, 0, 0], 0, ()))
    else
     (field_Mul.run c13.1 c5 c4.2.2.2.1).bind fun y5 =>
     (field_Add.run c6 y5.1 c4.2.2.2.1).bind fun y6 =>
     (field_Mul.run y4.1 y6.1 c4.2.2.2.1).bind fun y7 =>
     if (beqD T32 y7.1 [0, 0, 0, 0]) = true then
      Q .ret (St1 false 0 ([0, 0, 0, 0], [0, 0, 0, 0], 0, ()))
     else
      (sign_low.run c4 y7.1).bind fun y8 =>
      if (not y8) = true then
       (wide_Sub.run c4.2.2.2.1 y7.1).bind fun y9 =>
       D cd1 Q (St3 c8 (c13.1, y9.1, (bxor .i64 c13.2.2.1 1), c13.2.2.2))
      else
       D cd1 Q (St3 c8 (c13.1, y7.1, c13.2.2)) := by
  intro D L; kernel_rfl
 have h2 := via (k := k) h
 refine h2.trans ?_
 simp only [j1_eq]
 first | rfl | kernel_rfl
def top {α : Type} (Rt : Bool -> Int -> D1 -> Option α) (x0 : D13) (x1 x2 x3 : D0) : Option α :=
 if (beqD T32 x3 [0, 0, 0, 0]) = true then
  Rt false 0 ([0, 0, 0, 0], [0, 0, 0, 0], 0, ())
 else
  (curve_Mult.run x0 x3 x0.2.2.2.2.1).bind fun y1 =>
  if (y1.2.1 != 0) = true then
   Rt false y1.2.1 ([0, 0, 0, 0], [0, 0, 0, 0], 0, ())
  else
   (sign_rest.run y1.1.1 x0.2.2.2.1).bind fun y2 =>
   if (cond y1.1.2.2.1 true (beqD T32 y2 [0, 0, 0, 0])) = true then
    Rt false 0 ([0, 0, 0, 0], [0, 0, 0, 0], 0, ())
   else
    (wide_Cmp.run y1.1.1 x0.2.2.2.1).bind fun y3 =>
    if (decide (y3 >= 0)) = true then
     j0 Rt x0 x1 x2 x3 ([0, 0, 0, 0], [0, 0, 0, 0], 0, ()) (y2, [0, 0, 0, 0], (IntKind.i64.wrap ((IntKind.i64.wrap (Int.tmod (List.getD y1.1.2.1 0 0) 2)) + 2)), ())
    else
     j0 Rt x0 x1 x2 x3 ([0, 0, 0, 0], [0, 0, 0, 0], 0, ()) (y2, [0, 0, 0, 0], (IntKind.i64.wrap (Int.tmod (List.getD y1.1.2.1 0 0) 2)), ())
theorem top_eq {α : Type} (k : Nat) (Q : Ex -> St -> Option α) (x0 : D13) (x1 x2 x3 : D0) :
  (den C k) (cB Tryd.f63) Q (St0 x0 x1 x2 x3) = top (fun x9 x10 c8 => Q .ret (St1 x9 x10 c8)) x0 x1 x2 x3 := by
 have h : ∀ (D L : DT α), denJ D L Js C (cB Tryd.f63) Q (St0 x0 x1 x2 x3) =
    if (beqD T32 x3 [0, 0, 0, 0]) = true then
     Q .ret (St1 false 0 ([0, 0, 0, 0], [0, 0, 0, 0], 0, ()))
    else
     (curve_Mult.run x0 x3 x0.2.2.2.2.1).bind fun y1 =>
     if (y1.2.1 != 0) = true then
      Q .ret (St1 false y1.2.1 ([0, 0, 0, 0], [0, 0, 0, 0], 0, ()))
     else
      (sign_rest.run y1.1.1 x0.2.2.2.1).bind fun y2 =>
      if (cond y1.1.2.2.1 true (beqD T32 y2 [0, 0, 0, 0])) = true then
       Q .ret (St1 false 0 ([0, 0, 0, 0], [0, 0, 0, 0], 0, ()))
      else
       (wide_Cmp.run y1.1.1 x0.2.2.2.1).bind fun y3 =>
       if (decide (y3 >= 0)) = true then
        D cd0 Q (St2 x0 x1 x2 x3 ([0, 0, 0, 0], [0, 0, 0, 0], 0, ()) (y2, [0, 0, 0, 0], (IntKind.i64.wrap ((IntKind.i64.wrap (Int.tmod (List.getD y1.1.2.1 0 0) 2)) + 2)), ()))
       else
        D cd0 Q (St2 x0 x1 x2 x3 ([0, 0, 0, 0], [0, 0, 0, 0], 0, ()) (y2, [0, 0, 0, 0], (IntKind.i64.wrap (Int.tmod (List.getD y1.1.2.1 0 0) 2)), ())) := by
  intro D L; kernel_rfl
 have h2 := via (k := k) h
 refine h2.trans ?_
 simp only [j0_eq]
 first | rfl | kernel_rfl
def run (x0 : D13) (x1 x2 x3 : D0) : Option D21 := top (α := D1 × Bool × Int × Unit) (fun x9 x10 c8 => some (c8, x9, x10, ())) x0 x1 x2 x3
def F : Fn := ⟨T75, T76, true, fun x => run x.1 x.2.1 x.2.2.1 x.2.2.2.1⟩
theorem con : Con Tryd.prog 63 F :=
 con_of (C := C) (ctx_ok (by kernel_rfl) (by kernel_rfl) (by kernel_rfl) (by kernel_rfl) ⟨.inl ⟨curve_Mult.con, curve_Mult.named⟩, ⟨.inl ⟨sign_rest.con, sign_rest.named⟩, ⟨.inl ⟨wide_Cmp.con, wide_Cmp.named⟩, ⟨.inl ⟨field_Inv.con, field_Inv.named⟩, ⟨.inl ⟨field_Mul.con, field_Mul.named⟩, ⟨.inl ⟨field_Add.con, field_Add.named⟩, ⟨.inl ⟨sign_low.con, sign_low.named⟩, ⟨.inl ⟨wide_Sub.con, wide_Sub.named⟩, trivial⟩⟩⟩⟩⟩⟩⟩⟩) (by kernel_rfl) Tryd.func63 (c := cB Tryd.f63) (by kernel_rfl) (by kernel_rfl) F (fun x => by simp [F, spread, Tryd.ntmps63]) (fun x => (St0 x.1 x.2.1 x.2.2.1 x.2.2.2.1)) (fun x => by kernel_rfl) fun x => (top_eq fuel _ x.1 x.2.1 x.2.2.1 x.2.2.2.1).trans (by kernel_rfl)
theorem named : Named Tryd.prog 63 := named_of Tryd.func63 (by kernel_rfl) (by kernel_rfl)
end Go.Bx.sign_try
namespace Go.Bx.basculeref_badSponge
def Js : List Nat := [9]
def C : Ctx := ⟨[(3, T1), (4, .bool), (5, T9), (26, T12), (28, T13)], [], [], fnL [], noSh, [], invL [], [(2, [2]), (1, []), (4, [1, 3]), (12, [1, 3]), (24, [])], [], [], 0, 0⟩
def St0 (x0 : D1) : St := stL 23 [(0, .data T13 x0)] []
def St1 (x2 : Bool) : St := stL 23 [(2, .data .bool x2)] []
def St2 (x3 : Int) (c1 : D1) : St := stL 23 [(1, .ref 1 0 []), (3, .data T1 x3)] [(1, .cell T13 (.data T13 c1) false)]
noncomputable def cd0 : Code := cL (cL (cR (cL (cR (cR (cB Tryd.f44))))))
def St3 : St := stL 23 [] []
def l0s {α : Type} (Nx : Int -> D1 -> Option α) (Rt : Bool -> Option α) (Xt0 : Option α) (x3 : Int) (c1 : D1) : Option α :=
 if (decide (x3 < 136)) = true then
  if 0 <= x3 /\ x3 < (136 : Int) then
   if ((List.getD c1.2.1 (Int.toNat x3) 0) != 0) = true then
    Rt true
   else
    Nx (IntKind.i64.wrap (x3 + 1)) c1
  else none
 else
  Xt0
theorem l0s_eq {α : Type} (k : Nat) (next : St -> Option α) (Q : Ex -> St -> Option α) (x3 : Int) (c1 : D1) :
  rnd C k cd0 12 Q next (St2 x3 c1) = l0s (fun x3 c1 => next (St2 x3 c1)) (fun x2 => Q .ret (St1 x2)) (Q (.exit 0) St3) x3 c1 := by
 have h : ∀ (D L : DT α), denJ D L Js C cd0 (lq C 12 next Q) (St2 x3 c1) = l0s (fun x3 c1 => next (St2 x3 c1)) (fun x2 => Q .ret (St1 x2)) (Q (.exit 0) St3) x3 c1 := by
  intro D L; kernel_rfl
 have h2 := via (k := k) h
 exact h2
def l0 {α : Type} (k : Nat) (Rt : Bool -> Option α) (Xt0 : Option α) : Nat -> Int -> D1 -> Option α
 | 0, _, _ => none
 | n + 1, x3, c1 => l0s (l0 k Rt Xt0 n) Rt Xt0 x3 c1
theorem l0_eq {α : Type} (k : Nat) (Q : Ex -> St -> Option α) : ∀ (n : Nat) (x3 : Int) (c1 : D1), iter (rnd C k cd0 12 Q) n (St2 x3 c1) = l0 k (fun x2 => Q .ret (St1 x2)) (Q (.exit 0) St3) n x3 c1
 | 0, _, _ => rfl
 | n + 1, x3, c1 => (iter_succ _ _ _).trans ((l0s_eq k _ Q x3 c1).trans (congrArg (fun N => l0s N (fun x2 => Q .ret (St1 x2)) (Q (.exit 0) St3) x3 c1) (by funext; exact l0_eq k Q n _ _)))
theorem l0_congr {α : Type} (k : Nat) (Rt : Bool -> Option α) (Xt0 : Option α) (Rtq : Bool -> Option α) (Xt0q : Option α) (hRt : ∀ (x2 : Bool), Rt x2 = Rtq x2) (hXt0 : Xt0 = Xt0q) (n : Nat) (x3 : Int) (c1 : D1) : l0 k Rt Xt0 n x3 c1 = l0 k Rtq Xt0q n x3 c1 := by
 obtain rfl : Rt = Rtq := by funext x2; exact hRt x2
 obtain rfl : Xt0 = Xt0q := hXt0
 rfl
noncomputable def cd1 : Code := cR (cR (cR (cB Tryd.f44)))
def St4 : St := stL 23 [] []
def j0 {α : Type} (Rt : Bool -> Option α) : Option α :=
 Rt false
theorem j0_eq {α : Type} (k : Nat) (Q : Ex -> St -> Option α) :
  (den C k) cd1 Q St4 = j0 (fun x2 => Q .ret (St1 x2)) := by
 have h : ∀ (D L : DT α), denJ D L Js C cd1 Q St4 = j0 (fun x2 => Q .ret (St1 x2)) := by
  intro D L; kernel_rfl
 have h2 := via (k := k) h
 exact h2
theorem a0 {α : Type} (k : Nat) (Q : Ex -> St -> Option α) (x3 : Int) (c1 : D1) :
  (lp C k) cd0 (blkQ C 0 (sq (den C k) (lp C k) Js C cd1 Q)) (St2 x3 c1) = l0 k (fun x2 => (fun x2 => Q .ret (St1 x2)) x2) (j0 (fun x2 => Q .ret (St1 x2))) k x3 c1 :=
 (lp_iter 12 (by kernel_rfl)).trans ((l0_eq k _ k x3 c1).trans (l0_congr k _ _ _ _ (fun x2 => (by kernel_rfl)) (Eq.trans (b := (den C k) cd1 Q St4) (by kernel_rfl) (by simp only [j0_eq])) k x3 c1))
def top {α : Type} (k : Nat) (Rt : Bool -> Option α) (x0 : D1) : Option α :=
 if (cond (decide (x0.2.2.1 < 0)) true (decide (x0.2.2.1 > 135))) = true then
  Rt true
 else
  l0 k (fun x2 => Rt x2) (j0 Rt) k x0.2.2.1 x0
theorem top_eq {α : Type} (k : Nat) (Q : Ex -> St -> Option α) (x0 : D1) :
  (den C k) (cB Tryd.f44) Q (St0 x0) = top k (fun x2 => Q .ret (St1 x2)) x0 := by
 have h : ∀ (D L : DT α), denJ D L Js C (cB Tryd.f44) Q (St0 x0) =
    if (cond (decide (x0.2.2.1 < 0)) true (decide (x0.2.2.1 > 135))) = true then
     Q .ret (St1 true)
    else
     L cd0 (blkQ C 0 (sq D L Js C cd1 Q)) (St2 x0.2.2.1 x0) := by
  intro D L; kernel_rfl
 have h2 := via (k := k) h
 refine h2.trans ?_
 simp only [a0]
 first | rfl | kernel_rfl
def run (x0 : D1) : Option (Bool) := top (α := Bool) fuel (fun x2 => some x2) x0
def F : Fn := ⟨T14, .bool, false, fun x => run x.1⟩
theorem con : Con Tryd.prog 44 F :=
 con_of (C := C) (ctx_ok (by kernel_rfl) (by kernel_rfl) (by kernel_rfl) (by kernel_rfl) trivial) (by kernel_rfl) Tryd.func44 (c := cB Tryd.f44) (by kernel_rfl) (by kernel_rfl) F (fun x => by simp [F, spread, Tryd.ntmps44]) (fun x => (St0 x.1)) (fun x => by kernel_rfl) fun x => (top_eq fuel _ x.1).trans (by kernel_rfl)
theorem named : Named Tryd.prog 44 := named_of Tryd.func44 (by kernel_rfl) (by kernel_rfl)
end Go.Bx.basculeref_badSponge
namespace Go.Bx.math_bits_RotateLeft64
def Js : List Nat := []
def C : Ctx := ⟨[(3, T1), (22, T2), (129, T2)], [], [], fnL [], noSh, [], invL [], [(2, [4])], [], [], 0, 0⟩
def St0 (x0 x1 : Int) : St := stL 17 [(0, .data T2 x0), (1, .data T1 x1)] []
def St1 (x4 : Int) : St := stL 17 [(4, .data T2 x4)] []
def top {α : Type} (Rt : Int -> Option α) (x0 x1 : Int) : Option α :=
 if 0 <= (band .u64 (IntKind.u64.wrap x1) 63) then
  if 0 <= (IntKind.u64.wrap (64 - (band .u64 (IntKind.u64.wrap x1) 63))) then
   Rt (bor .u64 (shlI .u64 x0 (band .u64 (IntKind.u64.wrap x1) 63)) (shrI .u64 x0 (IntKind.u64.wrap (64 - (band .u64 (IntKind.u64.wrap x1) 63)))))
  else none
 else none
theorem top_eq {α : Type} (k : Nat) (Q : Ex -> St -> Option α) (x0 x1 : Int) :
  (den C k) (cB Tryd.f40) Q (St0 x0 x1) = top (fun x4 => Q .ret (St1 x4)) x0 x1 := by
 have h : ∀ (D L : DT α), denJ D L Js C (cB Tryd.f40) Q (St0 x0 x1) = top (fun x4 => Q .ret (St1 x4)) x0 x1 := by
  intro D L; kernel_rfl
 have h2 := via (k := k) h
 exact h2
def run (x0 x1 : Int) : Option (Int) := top (α := Int) (fun x4 => some x4) x0 x1
def F : Fn := ⟨T3, T2, false, fun x => run x.1 x.2.1⟩
theorem con : Con Tryd.prog 40 F :=
 con_of (C := C) (ctx_ok (by kernel_rfl) (by kernel_rfl) (by kernel_rfl) (by kernel_rfl) trivial) (by kernel_rfl) Tryd.func40 (c := cB Tryd.f40) (by kernel_rfl) (by kernel_rfl) F (fun x => by simp [F, spread, Tryd.ntmps40]) (fun x => (St0 x.1 x.2.1)) (fun x => by kernel_rfl) fun x => (top_eq fuel _ x.1 x.2.1).trans (by kernel_rfl)
theorem named : Named Tryd.prog 40 := named_of Tryd.func40 (by kernel_rfl) (by kernel_rfl)
end Go.Bx.math_bits_RotateLeft64
namespace Go.Bx.basculeref_roundOf
def Js : List Nat := [9, 11]
def C : Ctx := ⟨[(3, T1), (5, T9), (9, .str), (22, T2), (29, T10)], [], [], fnL [], noSh, [], invL [], [(2, [2]), (1, [3]), (4, [3, 13, 14, 15]), (9, [3, 13, 14, 15]), (24, [3, 6, 13, 14, 15]), (30, [3])], [], [], 0, 0⟩
def lit0 : List Int := [48, 48, 48, 48, 48, 48, 48, 48, 48, 48, 48, 48, 48, 48, 48, 49, 48, 48, 48, 48, 48, 48, 48, 48, 48, 48, 48, 48, 56, 48, 56, 50, 56, 48, 48, 48, 48, 48, 48, 48, 48, 48, 48, 48, 56, 48, 56, 97, 56, 48, 48, 48, 48, 48, 48, 48, 56, 48, 48, 48, 56, 48, 48, 48, 48, 48, 48, 48, 48, 48, 48, 48, 48, 48, 48, 48, 56, 48, 56, 98, 48, 48, 48, 48, 48, 48, 48, 48, 56, 48, 48, 48, 48, 48, 48, 49, 56, 48, 48, 48, 48, 48, 48, 48, 56, 48, 48, 48, 56, 48, 56, 49, 56, 48, 48, 48, 48, 48, 48, 48, 48, 48, 48, 48, 56, 48, 48, 57, 48, 48, 48, 48, 48, 48, 48, 48, 48, 48, 48, 48, 48, 48, 56, 97, 48, 48, 48, 48, 48, 48, 48, 48, 48, 48, 48, 48, 48, 48, 56, 56, 48, 48, 48, 48, 48, 48, 48, 48, 56, 48, 48, 48, 56, 48, 48, 57, 48, 48, 48, 48, 48, 48, 48, 48, 56, 48, 48, 48, 48, 48, 48, 97, 48, 48, 48, 48, 48, 48, 48, 48, 56, 48, 48, 48, 56, 48, 56, 98, 56, 48, 48, 48, 48, 48, 48, 48, 48, 48, 48, 48, 48, 48, 56, 98, 56, 48, 48, 48, 48, 48, 48, 48, 48, 48, 48, 48, 56, 48, 56, 57, 56, 48, 48, 48, 48, 48, 48, 48, 48, 48, 48, 48, 56, 48, 48, 51, 56, 48, 48, 48, 48, 48, 48, 48, 48, 48, 48, 48, 56, 48, 48, 50, 56, 48, 48, 48, 48, 48, 48, 48, 48, 48, 48, 48, 48, 48, 56, 48, 48, 48, 48, 48, 48, 48, 48, 48, 48, 48, 48, 48, 56, 48, 48, 97, 56, 48, 48, 48, 48, 48, 48, 48, 56, 48, 48, 48, 48, 48, 48, 97, 56, 48, 48, 48, 48, 48, 48, 48, 56, 48, 48, 48, 56, 48, 56, 49, 56, 48, 48, 48, 48, 48, 48, 48, 48, 48, 48, 48, 56, 48, 56, 48, 48, 48, 48, 48, 48, 48, 48, 48, 56, 48, 48, 48, 48, 48, 48, 49, 56, 48, 48, 48, 48, 48, 48, 48, 56, 48, 48, 48, 56, 48, 48, 56]
def St0 (x0 : Int) : St := stL 34 [(0, .data T1 x0)] []
def St1 (x3 : Int) (x13 : D0) (x14 x15 : Int) : St := stL 34 [(3, .data T2 x3), (13, .data T10 x13), (14, .data T1 x14), (15, .data T1 x15)] []
noncomputable def cd0 : Code := cL (cL (cR (cL (cR (cR (cB Tryd.f41))))))
def St2 (x3 x6 : Int) (x13 : D0) (x14 x15 : Int) : St := stL 34 [(3, .data T2 x3), (6, .data T2 x6), (13, .data T10 x13), (14, .data T1 x14), (15, .data T1 x15)] []
noncomputable def cd1 : Code := cR (cR (cR (cL (cL (cR (cL (cR (cR (cB Tryd.f41)))))))))
noncomputable def cd2 : Code := cR (cR (cR (cL (cL (cR (cR (cL (cL (cR (cL (cR (cR (cB Tryd.f41)))))))))))))
def j0 {α : Type} (Nx : Int -> D0 -> Int -> Int -> Option α) (x3 x6 : Int) (x13 : D0) (x14 x15 : Int) : Option α :=
 Nx (IntKind.u64.wrap ((IntKind.u64.wrap (x3 * 16)) + x6)) x13 x14 (IntKind.i64.wrap (x15 + 1))
theorem j0_eq {α : Type} (k : Nat) (next : St -> Option α) (Q : Ex -> St -> Option α) (x3 x6 : Int) (x13 : D0) (x14 x15 : Int) :
  (den C k) cd2 (blkQ C 1 (sq (den C k) (lp C k) Js C cd1 (lq C 9 next Q))) (St2 x3 x6 x13 x14 x15) = j0 (fun x3 x13 x14 x15 => next (St1 x3 x13 x14 x15)) x3 x6 x13 x14 x15 := by
 have h : ∀ (D L : DT α), denJ D L Js C cd2 (blkQ C 1 (sq D L Js C cd1 (lq C 9 next Q))) (St2 x3 x6 x13 x14 x15) = j0 (fun x3 x13 x14 x15 => next (St1 x3 x13 x14 x15)) x3 x6 x13 x14 x15 := by
  intro D L; kernel_rfl
 have h2 := via (k := k) h
 exact h2
def St3 (x3 : Int) : St := stL 34 [(3, .data T2 x3)] []
def l0s {α : Type} (Nx : Int -> D0 -> Int -> Int -> Option α) (Xt0 : Int -> Option α) (x3 : Int) (x13 : D0) (x14 x15 : Int) : Option α :=
 if (decide (x15 < x14)) = true then
  if 0 <= x15 /\ x15 < (x13.length : Int) then
   if (decide ((List.getD x13 (Int.toNat x15) 0) >= 97)) = true then
    j0 Nx x3 (IntKind.u64.wrap ((IntKind.u64.wrap (IntKind.u8.wrap ((List.getD x13 (Int.toNat x15) 0) - 97))) + 10)) x13 x14 x15
   else
    j0 Nx x3 (IntKind.u64.wrap (IntKind.u8.wrap ((List.getD x13 (Int.toNat x15) 0) - 48))) x13 x14 x15
  else none
 else
  Xt0 x3
theorem l0s_eq {α : Type} (k : Nat) (next : St -> Option α) (Q : Ex -> St -> Option α) (x3 : Int) (x13 : D0) (x14 x15 : Int) :
  rnd C k cd0 9 Q next (St1 x3 x13 x14 x15) = l0s (fun x3 x13 x14 x15 => next (St1 x3 x13 x14 x15)) (fun x3 => Q (.exit 0) (St3 x3)) x3 x13 x14 x15 := by
 have h : ∀ (D L : DT α), denJ D L Js C cd0 (lq C 9 next Q) (St1 x3 x13 x14 x15) =
    if (decide (x15 < x14)) = true then
     if 0 <= x15 /\ x15 < (x13.length : Int) then
      if (decide ((List.getD x13 (Int.toNat x15) 0) >= 97)) = true then
       D cd2 (blkQ C 1 (sq D L Js C cd1 (lq C 9 next Q))) (St2 x3 (IntKind.u64.wrap ((IntKind.u64.wrap (IntKind.u8.wrap ((List.getD x13 (Int.toNat x15) 0) - 97))) + 10)) x13 x14 x15)
      else
       D cd2 (blkQ C 1 (sq D L Js C cd1 (lq C 9 next Q))) (St2 x3 (IntKind.u64.wrap (IntKind.u8.wrap ((List.getD x13 (Int.toNat x15) 0) - 48))) x13 x14 x15)
     else none
    else
     Q (.exit 0) (St3 x3) := by
  intro D L; kernel_rfl
 have h2 := via (k := k) h
 refine h2.trans ?_
 simp only [j0_eq]
 first | rfl | kernel_rfl
def l0 {α : Type} (k : Nat) (Xt0 : Int -> Option α) : Nat -> Int -> D0 -> Int -> Int -> Option α
 | 0, _, _, _, _ => none
 | n + 1, x3, x13, x14, x15 => l0s (l0 k Xt0 n) Xt0 x3 x13 x14 x15
theorem l0_eq {α : Type} (k : Nat) (Q : Ex -> St -> Option α) : ∀ (n : Nat) (x3 : Int) (x13 : D0) (x14 x15 : Int), iter (rnd C k cd0 9 Q) n (St1 x3 x13 x14 x15) = l0 k (fun x3 => Q (.exit 0) (St3 x3)) n x3 x13 x14 x15
 | 0, _, _, _, _ => rfl
 | n + 1, x3, x13, x14, x15 => (iter_succ _ _ _).trans ((l0s_eq k _ Q x3 x13 x14 x15).trans (congrArg (fun N => l0s N (fun x3 => Q (.exit 0) (St3 x3)) x3 x13 x14 x15) (by funext; exact l0_eq k Q n _ _ _ _)))
noncomputable def cd3 : Code := cR (cR (cR (cB Tryd.f41)))
def St4 (x3 : Int) : St := stL 34 [(3, .data T2 x3)] []
def St5 (x2 : Int) : St := stL 34 [(2, .data T2 x2)] []
def j1 {α : Type} (Rt : Int -> Option α) (x3 : Int) : Option α :=
 Rt x3
theorem j1_eq {α : Type} (k : Nat) (Q : Ex -> St -> Option α) (x3 : Int) :
  (den C k) cd3 Q (St4 x3) = j1 (fun x2 => Q .ret (St5 x2)) x3 := by
 have h : ∀ (D L : DT α), denJ D L Js C cd3 Q (St4 x3) = j1 (fun x2 => Q .ret (St5 x2)) x3 := by
  intro D L; kernel_rfl
 have h2 := via (k := k) h
 exact h2
theorem a0 {α : Type} (k : Nat) (Q : Ex -> St -> Option α) (x3 : Int) (x13 : D0) (x14 x15 : Int) :
  (lp C k) cd0 (blkQ C 0 (sq (den C k) (lp C k) Js C cd3 Q)) (St1 x3 x13 x14 x15) = l0 k (fun x3 => j1 (fun x2 => Q .ret (St5 x2)) x3) k x3 x13 x14 x15 :=
 (lp_iter 9 (by kernel_rfl)).trans ((l0_eq k _ k x3 x13 x14 x15).trans (congrArg (fun X => l0 k X k x3 x13 x14 x15) (funext fun x3 => (Eq.trans (b := (den C k) cd3 Q (St4 x3)) (by kernel_rfl) (by simp only [j1_eq])))))
def top {α : Type} (k : Nat) (Rt : Int -> Option α) (x0 : Int) : Option α :=
 if 0 <= (IntKind.i64.wrap (16 * x0)) /\ (IntKind.i64.wrap (16 * x0)) <= (IntKind.i64.wrap ((IntKind.i64.wrap (16 * x0)) + 16)) /\ (IntKind.i64.wrap ((IntKind.i64.wrap (16 * x0)) + 16)) <= (lit0.length : Int) then
  l0 k (fun x3 => j1 Rt x3) k 0 (cutL lit0 (IntKind.i64.wrap (16 * x0)) (IntKind.i64.wrap ((IntKind.i64.wrap (16 * x0)) + 16))) ((cutL lit0 (IntKind.i64.wrap (16 * x0)) (IntKind.i64.wrap ((IntKind.i64.wrap (16 * x0)) + 16))).length : Int) 0
 else none
theorem top_eq {α : Type} (k : Nat) (Q : Ex -> St -> Option α) (x0 : Int) :
  (den C k) (cB Tryd.f41) Q (St0 x0) = top k (fun x2 => Q .ret (St5 x2)) x0 := by
 have h : ∀ (D L : DT α), denJ D L Js C (cB Tryd.f41) Q (St0 x0) =
    if 0 <= (IntKind.i64.wrap (16 * x0)) /\ (IntKind.i64.wrap (16 * x0)) <= (IntKind.i64.wrap ((IntKind.i64.wrap (16 * x0)) + 16)) /\ (IntKind.i64.wrap ((IntKind.i64.wrap (16 * x0)) + 16)) <= (lit0.length : Int) then
     L cd0 (blkQ C 0 (sq D L Js C cd3 Q)) (St1 0 (cutL lit0 (IntKind.i64.wrap (16 * x0)) (IntKind.i64.wrap ((IntKind.i64.wrap (16 * x0)) + 16))) ((cutL lit0 (IntKind.i64.wrap (16 * x0)) (IntKind.i64.wrap ((IntKind.i64.wrap (16 * x0)) + 16))).length : Int) 0)
    else none := by
  intro D L; kernel_rfl
 have h2 := via (k := k) h
 refine h2.trans ?_
 simp only [a0]
 first | rfl | kernel_rfl
def run (x0 : Int) : Option (Int) := top (α := Int) fuel (fun x2 => some x2) x0
def F : Fn := ⟨T11, T2, false, fun x => run x.1⟩
theorem con : Con Tryd.prog 41 F :=
 con_of (C := C) (ctx_ok (by kernel_rfl) (by kernel_rfl) (by kernel_rfl) (by kernel_rfl) trivial) (by kernel_rfl) Tryd.func41 (c := cB Tryd.f41) (by kernel_rfl) (by kernel_rfl) F (fun x => by simp [F, spread, Tryd.ntmps41]) (fun x => (St0 x.1)) (fun x => by kernel_rfl) fun x => (top_eq fuel _ x.1).trans (by kernel_rfl)
theorem named : Named Tryd.prog 41 := named_of Tryd.func41 (by kernel_rfl) (by kernel_rfl)
end Go.Bx.basculeref_roundOf
namespace Go.Bx.basculeref_Turned
def Js : List Nat := [11, 19, 20, 27, 29, 36, 37, 38]
def C : Ctx := ⟨[(22, T2), (23, T4), (87, T6)], [], [], fnL [(40, math_bits_RotateLeft64.F), (41, basculeref_roundOf.F)], noSh, [], invL [], [(2, [2]), (1, [1, 2]), (4, [1, 2, 16]), (31, [1, 2, 3, 16]), (34, [1, 2, 3, 13, 16]), (37, [1, 2, 3, 13, 16]), (40, [1, 2, 3, 13, 14, 16, 132]), (25, [1, 2, 3, 16]), (28, [1, 2, 3, 9, 10, 11, 16, 78]), (13, [1, 2, 3, 16]), (16, [1, 2, 3, 4, 16, 48]), (19, [1, 2, 3, 4, 16, 48]), (22, [1, 2, 3, 4, 6, 7, 8, 16, 48]), (7, [1, 2, 3, 4, 16]), (10, [1, 2, 3, 4, 16, 19]), (6, [1, 2, 16]), (18, [1, 2, 3, 4, 16, 19]), (30, [1, 2, 3, 4, 16]), (33, [1, 2, 3, 4, 16, 48]), (45, [1, 2, 3, 4, 6, 7, 8, 16, 48]), (54, [1, 2, 3, 4, 16, 48]), (57, [1, 2, 3, 16]), (63, [1, 2, 3, 9, 10, 11, 16, 78]), (78, [1, 2, 3, 16]), (81, [1, 2, 3, 13, 16]), (84, [1, 2, 3, 13, 16]), (93, [1, 2, 3, 13, 14, 16, 132]), (105, [1, 2, 3, 16]), (108, [1, 2, 16]), (111, [1, 2])], [], [], 0, 0⟩
def St0 (x0 : D0) : St := stL 164 [(0, .data T4 x0)] []
def St1 (x16 : Int) (c1 c2 : D0) : St := stL 164 [(1, .ref 1 0 []), (2, .ref 2 0 []), (16, .data T1 x16)] [(1, .cell T4 (.data T4 c1) false), (2, .cell T4 (.data T4 c2) false)]
noncomputable def cd0 : Code := cL (cL (cR (cL (cR (cB Tryd.f13)))))
def St2 (x3 x16 x19 : Int) (c1 c2 c4 : D0) : St := stL 164 [(1, .ref 1 0 []), (2, .ref 2 0 []), (3, .data T1 x3), (4, .ref 4 0 []), (16, .data T1 x16), (19, .data T1 x19)] [(1, .cell T4 (.data T4 c1) false), (2, .cell T4 (.data T4 c2) false), (4, .cell T6 (.data T6 c4) false)]
noncomputable def cd1 : Code := cL (cL (cR (cL (cR (cR (cL (cL (cR (cR (cL (cL (cR (cL (cR (cB Tryd.f13)))))))))))))))
def St3 (x3 x16 : Int) (c1 c2 c4 : D0) : St := stL 164 [(1, .ref 1 0 []), (2, .ref 2 0 []), (3, .data T1 x3), (4, .ref 4 0 []), (16, .data T1 x16)] [(1, .cell T4 (.data T4 c1) false), (2, .cell T4 (.data T4 c2) false), (4, .cell T6 (.data T6 c4) false)]
def l1s {α : Type} (Nx : Int -> Int -> Int -> D0 -> D0 -> D0 -> Option α) (Xt2 : Int -> Int -> D0 -> D0 -> D0 -> Option α) (x3 x16 x19 : Int) (c1 c2 c4 : D0) : Option α :=
 if (decide (x19 < 5)) = true then
  if 0 <= x19 /\ x19 < (25 : Int) then
   if 0 <= (IntKind.i64.wrap (x19 + 5)) /\ (IntKind.i64.wrap (x19 + 5)) < (25 : Int) then
    if 0 <= (IntKind.i64.wrap (x19 + 10)) /\ (IntKind.i64.wrap (x19 + 10)) < (25 : Int) then
     if 0 <= (IntKind.i64.wrap (x19 + 15)) /\ (IntKind.i64.wrap (x19 + 15)) < (25 : Int) then
      if 0 <= (IntKind.i64.wrap (x19 + 20)) /\ (IntKind.i64.wrap (x19 + 20)) < (25 : Int) then
       if 0 <= x19 /\ x19 < (5 : Int) then
        Nx x3 x16 (IntKind.i64.wrap (x19 + 1)) c1 c2 (List.set c4 (Int.toNat x19) (bxor .u64 (bxor .u64 (bxor .u64 (bxor .u64 (List.getD c1 (Int.toNat x19) 0) (List.getD c1 (Int.toNat (IntKind.i64.wrap (x19 + 5))) 0)) (List.getD c1 (Int.toNat (IntKind.i64.wrap (x19 + 10))) 0)) (List.getD c1 (Int.toNat (IntKind.i64.wrap (x19 + 15))) 0)) (List.getD c1 (Int.toNat (IntKind.i64.wrap (x19 + 20))) 0)))
       else none
      else none
     else none
    else none
   else none
  else none
 else
  Xt2 x3 x16 c1 c2 c4
theorem l1s_eq {α : Type} (k : Nat) (next : St -> Option α) (Q : Ex -> St -> Option α) (x3 x16 x19 : Int) (c1 c2 c4 : D0) :
  rnd C k cd1 18 Q next (St2 x3 x16 x19 c1 c2 c4) = l1s (fun x3 x16 x19 c1 c2 c4 => next (St2 x3 x16 x19 c1 c2 c4)) (fun x3 x16 c1 c2 c4 => Q (.exit 2) (St3 x3 x16 c1 c2 c4)) x3 x16 x19 c1 c2 c4 := by
 have h : ∀ (D L : DT α), denJ D L Js C cd1 (lq C 18 next Q) (St2 x3 x16 x19 c1 c2 c4) = l1s (fun x3 x16 x19 c1 c2 c4 => next (St2 x3 x16 x19 c1 c2 c4)) (fun x3 x16 c1 c2 c4 => Q (.exit 2) (St3 x3 x16 c1 c2 c4)) x3 x16 x19 c1 c2 c4 := by
  intro D L; kernel_rfl
 have h2 := via (k := k) h
 exact h2
def l1 {α : Type} (k : Nat) (Xt2 : Int -> Int -> D0 -> D0 -> D0 -> Option α) : Nat -> Int -> Int -> Int -> D0 -> D0 -> D0 -> Option α
 | 0, _, _, _, _, _, _ => none
 | n + 1, x3, x16, x19, c1, c2, c4 => l1s (l1 k Xt2 n) Xt2 x3 x16 x19 c1 c2 c4
theorem l1_eq {α : Type} (k : Nat) (Q : Ex -> St -> Option α) : ∀ (n : Nat) (x3 x16 x19 : Int) (c1 c2 c4 : D0), iter (rnd C k cd1 18 Q) n (St2 x3 x16 x19 c1 c2 c4) = l1 k (fun x3 x16 c1 c2 c4 => Q (.exit 2) (St3 x3 x16 c1 c2 c4)) n x3 x16 x19 c1 c2 c4
 | 0, _, _, _, _, _, _ => rfl
 | n + 1, x3, x16, x19, c1, c2, c4 => (iter_succ _ _ _).trans ((l1s_eq k _ Q x3 x16 x19 c1 c2 c4).trans (congrArg (fun N => l1s N (fun x3 x16 c1 c2 c4 => Q (.exit 2) (St3 x3 x16 c1 c2 c4)) x3 x16 x19 c1 c2 c4) (by funext; exact l1_eq k Q n _ _ _ _ _ _)))
noncomputable def cd2 : Code := cR (cR (cR (cL (cL (cR (cR (cL (cL (cR (cL (cR (cB Tryd.f13))))))))))))
noncomputable def cd3 : Code := cR (cR (cR (cL (cL (cR (cL (cR (cB Tryd.f13))))))))
def St4 (x3 x16 : Int) (c1 c2 c4 : D0) : St := stL 164 [(1, .ref 1 0 []), (2, .ref 2 0 []), (3, .data T1 x3), (4, .ref 4 0 []), (16, .data T1 x16)] [(1, .cell T4 (.data T4 c1) false), (2, .cell T4 (.data T4 c2) false), (4, .cell T6 (.data T6 c4) false)]
def St5 (x3 x16 x48 : Int) (c1 c2 c4 : D0) : St := stL 164 [(1, .ref 1 0 []), (2, .ref 2 0 []), (3, .data T1 x3), (4, .ref 4 0 []), (16, .data T1 x16), (48, .data T1 x48)] [(1, .cell T4 (.data T4 c1) false), (2, .cell T4 (.data T4 c2) false), (4, .cell T6 (.data T6 c4) false)]
noncomputable def cd4 : Code := cL (cL (cR (cL (cR (cR (cR (cL (cL (cR (cR (cL (cL (cR (cL (cR (cB Tryd.f13))))))))))))))))
def St6 (x3 x6 : Int) (x7 x8 : Int) (x16 x48 : Int) (c1 c2 c4 : D0) : St := stL 164 [(1, .ref 1 0 []), (2, .ref 2 0 []), (3, .data T1 x3), (4, .ref 4 0 []), (6, .data T1 x6), (7, .data T2 x7), (8, .data T1 x8), (16, .data T1 x16), (48, .data T1 x48)] [(1, .cell T4 (.data T4 c1) false), (2, .cell T4 (.data T4 c2) false), (4, .cell T6 (.data T6 c4) false)]
noncomputable def cd5 : Code := cL (cL (cR (cR (cR (cL (cL (cR (cR (cL (cL (cR (cL (cR (cR (cR (cL (cL (cR (cR (cL (cL (cR (cL (cR (cB Tryd.f13)))))))))))))))))))))))))
def St7 (x3 x16 x48 : Int) (c1 c2 c4 : D0) : St := stL 164 [(1, .ref 1 0 []), (2, .ref 2 0 []), (3, .data T1 x3), (4, .ref 4 0 []), (16, .data T1 x16), (48, .data T1 x48)] [(1, .cell T4 (.data T4 c1) false), (2, .cell T4 (.data T4 c2) false), (4, .cell T6 (.data T6 c4) false)]
def l3s {α : Type} (Nx : Int -> Int -> Int -> Int -> Int -> Int -> D0 -> D0 -> D0 -> Option α) (Xt6 : Int -> Int -> Int -> D0 -> D0 -> D0 -> Option α) (x3 x6 : Int) (x7 x8 : Int) (x16 x48 : Int) (c1 c2 c4 : D0) : Option α :=
 if (decide (x8 < 25)) = true then
  if 0 <= (IntKind.i64.wrap (x6 + x8)) /\ (IntKind.i64.wrap (x6 + x8)) < (25 : Int) then
   if 0 <= (IntKind.i64.wrap (x6 + x8)) /\ (IntKind.i64.wrap (x6 + x8)) < (25 : Int) then
    Nx x3 x6 x7 (IntKind.i64.wrap (x8 + 5)) x16 x48 (List.set c1 (Int.toNat (IntKind.i64.wrap (x6 + x8))) (bxor .u64 (List.getD c1 (Int.toNat (IntKind.i64.wrap (x6 + x8))) 0) x7)) c2 c4
   else none
  else none
 else
  Xt6 x3 x16 x48 c1 c2 c4
theorem l3s_eq {α : Type} (k : Nat) (next : St -> Option α) (Q : Ex -> St -> Option α) (x3 x6 : Int) (x7 x8 : Int) (x16 x48 : Int) (c1 c2 c4 : D0) :
  rnd C k cd5 45 Q next (St6 x3 x6 x7 x8 x16 x48 c1 c2 c4) = l3s (fun x3 x6 x7 x8 x16 x48 c1 c2 c4 => next (St6 x3 x6 x7 x8 x16 x48 c1 c2 c4)) (fun x3 x16 x48 c1 c2 c4 => Q (.exit 6) (St7 x3 x16 x48 c1 c2 c4)) x3 x6 x7 x8 x16 x48 c1 c2 c4 := by
 have h : ∀ (D L : DT α), denJ D L Js C cd5 (lq C 45 next Q) (St6 x3 x6 x7 x8 x16 x48 c1 c2 c4) = l3s (fun x3 x6 x7 x8 x16 x48 c1 c2 c4 => next (St6 x3 x6 x7 x8 x16 x48 c1 c2 c4)) (fun x3 x16 x48 c1 c2 c4 => Q (.exit 6) (St7 x3 x16 x48 c1 c2 c4)) x3 x6 x7 x8 x16 x48 c1 c2 c4 := by
  intro D L; kernel_rfl
 have h2 := via (k := k) h
 exact h2
def l3 {α : Type} (k : Nat) (Xt6 : Int -> Int -> Int -> D0 -> D0 -> D0 -> Option α) : Nat -> Int -> Int -> Int -> Int -> Int -> Int -> D0 -> D0 -> D0 -> Option α
 | 0, _, _, _, _, _, _, _, _, _ => none
 | n + 1, x3, x6, x7, x8, x16, x48, c1, c2, c4 => l3s (l3 k Xt6 n) Xt6 x3 x6 x7 x8 x16 x48 c1 c2 c4
theorem l3_eq {α : Type} (k : Nat) (Q : Ex -> St -> Option α) : ∀ (n : Nat) (x3 x6 : Int) (x7 x8 : Int) (x16 x48 : Int) (c1 c2 c4 : D0), iter (rnd C k cd5 45 Q) n (St6 x3 x6 x7 x8 x16 x48 c1 c2 c4) = l3 k (fun x3 x16 x48 c1 c2 c4 => Q (.exit 6) (St7 x3 x16 x48 c1 c2 c4)) n x3 x6 x7 x8 x16 x48 c1 c2 c4
 | 0, _, _, _, _, _, _, _, _, _ => rfl
 | n + 1, x3, x6, x7, x8, x16, x48, c1, c2, c4 => (iter_succ _ _ _).trans ((l3s_eq k _ Q x3 x6 x7 x8 x16 x48 c1 c2 c4).trans (congrArg (fun N => l3s N (fun x3 x16 x48 c1 c2 c4 => Q (.exit 6) (St7 x3 x16 x48 c1 c2 c4)) x3 x6 x7 x8 x16 x48 c1 c2 c4) (by funext; exact l3_eq k Q n _ _ _ _ _ _ _ _ _)))
noncomputable def cd6 : Code := cR (cR (cR (cL (cL (cR (cL (cR (cR (cR (cL (cL (cR (cR (cL (cL (cR (cL (cR (cB Tryd.f13)))))))))))))))))))
def St8 (x3 x16 x48 : Int) (c1 c2 c4 : D0) : St := stL 164 [(1, .ref 1 0 []), (2, .ref 2 0 []), (3, .data T1 x3), (4, .ref 4 0 []), (16, .data T1 x16), (48, .data T1 x48)] [(1, .cell T4 (.data T4 c1) false), (2, .cell T4 (.data T4 c2) false), (4, .cell T6 (.data T6 c4) false)]
def j1 {α : Type} (Nx : Int -> Int -> Int -> D0 -> D0 -> D0 -> Option α) (x3 x16 x48 : Int) (c1 c2 c4 : D0) : Option α :=
 Nx x3 x16 (IntKind.i64.wrap (x48 + 1)) c1 c2 c4
theorem j1_eq {α : Type} (k : Nat) (next : St -> Option α) (Q : Ex -> St -> Option α) (x3 x16 x48 : Int) (c1 c2 c4 : D0) :
  (den C k) cd6 (lq C 33 next Q) (St8 x3 x16 x48 c1 c2 c4) = j1 (fun x3 x16 x48 c1 c2 c4 => next (St5 x3 x16 x48 c1 c2 c4)) x3 x16 x48 c1 c2 c4 := by
 have h : ∀ (D L : DT α), denJ D L Js C cd6 (lq C 33 next Q) (St8 x3 x16 x48 c1 c2 c4) = j1 (fun x3 x16 x48 c1 c2 c4 => next (St5 x3 x16 x48 c1 c2 c4)) x3 x16 x48 c1 c2 c4 := by
  intro D L; kernel_rfl
 have h2 := via (k := k) h
 exact h2
theorem a0 {α : Type} (k : Nat) (next : St -> Option α) (Q : Ex -> St -> Option α) (x3 x6 : Int) (x7 x8 : Int) (x16 x48 : Int) (c1 c2 c4 : D0) :
  (lp C k) cd5 (blkQ C 6 (blkQ C 5 (sq (den C k) (lp C k) Js C cd6 (lq C 33 next Q)))) (St6 x3 x6 x7 x8 x16 x48 c1 c2 c4) = l3 k (fun x3 x16 x48 c1 c2 c4 => j1 (fun x3 x16 x48 c1 c2 c4 => next (St5 x3 x16 x48 c1 c2 c4)) x3 x16 x48 c1 c2 c4) k x3 x6 x7 x8 x16 x48 c1 c2 c4 :=
 (lp_iter 45 (by kernel_rfl)).trans ((l3_eq k _ k x3 x6 x7 x8 x16 x48 c1 c2 c4).trans (congrArg (fun X => l3 k X k x3 x6 x7 x8 x16 x48 c1 c2 c4) (funext fun x3 => funext fun x16 => funext fun x48 => funext fun c1 => funext fun c2 => funext fun c4 => (Eq.trans (b := (den C k) cd6 (lq C 33 next Q) (St8 x3 x16 x48 c1 c2 c4)) (by kernel_rfl) (by simp only [j1_eq])))))
def St9 (x3 x16 : Int) (c1 c2 : D0) : St := stL 164 [(1, .ref 1 0 []), (2, .ref 2 0 []), (3, .data T1 x3), (16, .data T1 x16)] [(1, .cell T4 (.data T4 c1) false), (2, .cell T4 (.data T4 c2) false)]
def l2s {α : Type} (k : Nat) (Nx : Int -> Int -> Int -> D0 -> D0 -> D0 -> Option α) (Xt4 : Int -> Int -> D0 -> D0 -> Option α) (x3 x16 x48 : Int) (c1 c2 c4 : D0) : Option α :=
 if (decide (x48 < 5)) = true then
  if 0 <= (Int.tmod (IntKind.i64.wrap (x48 + 4)) 5) /\ (Int.tmod (IntKind.i64.wrap (x48 + 4)) 5) < (5 : Int) then
   if 0 <= (Int.tmod (IntKind.i64.wrap (x48 + 1)) 5) /\ (Int.tmod (IntKind.i64.wrap (x48 + 1)) 5) < (5 : Int) then
    (math_bits_RotateLeft64.run (List.getD c4 (Int.toNat (Int.tmod (IntKind.i64.wrap (x48 + 1)) 5)) 0) 1).bind fun y1 =>
    l3 k (fun x3 x16 x48 c1 c2 c4 => j1 Nx x3 x16 x48 c1 c2 c4) k x3 x48 (bxor .u64 (List.getD c4 (Int.toNat (Int.tmod (IntKind.i64.wrap (x48 + 4)) 5)) 0) y1) 0 x16 x48 c1 c2 c4
   else none
  else none
 else
  Xt4 x3 x16 c1 c2
theorem l2s_eq {α : Type} (k : Nat) (next : St -> Option α) (Q : Ex -> St -> Option α) (x3 x16 x48 : Int) (c1 c2 c4 : D0) :
  rnd C k cd4 33 Q next (St5 x3 x16 x48 c1 c2 c4) = l2s k (fun x3 x16 x48 c1 c2 c4 => next (St5 x3 x16 x48 c1 c2 c4)) (fun x3 x16 c1 c2 => Q (.exit 4) (St9 x3 x16 c1 c2)) x3 x16 x48 c1 c2 c4 := by
 have h : ∀ (D L : DT α), denJ D L Js C cd4 (lq C 33 next Q) (St5 x3 x16 x48 c1 c2 c4) =
    if (decide (x48 < 5)) = true then
     if 0 <= (Int.tmod (IntKind.i64.wrap (x48 + 4)) 5) /\ (Int.tmod (IntKind.i64.wrap (x48 + 4)) 5) < (5 : Int) then
      if 0 <= (Int.tmod (IntKind.i64.wrap (x48 + 1)) 5) /\ (Int.tmod (IntKind.i64.wrap (x48 + 1)) 5) < (5 : Int) then
       (math_bits_RotateLeft64.run (List.getD c4 (Int.toNat (Int.tmod (IntKind.i64.wrap (x48 + 1)) 5)) 0) 1).bind fun y1 =>
       L cd5 (blkQ C 6 (blkQ C 5 (sq D L Js C cd6 (lq C 33 next Q)))) (St6 x3 x48 (bxor .u64 (List.getD c4 (Int.toNat (Int.tmod (IntKind.i64.wrap (x48 + 4)) 5)) 0) y1) 0 x16 x48 c1 c2 c4)
      else none
     else none
    else
     Q (.exit 4) (St9 x3 x16 c1 c2) := by
  intro D L; kernel_rfl
 have h2 := via (k := k) h
 refine h2.trans ?_
 simp only [a0]
 first | rfl | kernel_rfl
def l2 {α : Type} (k : Nat) (Xt4 : Int -> Int -> D0 -> D0 -> Option α) : Nat -> Int -> Int -> Int -> D0 -> D0 -> D0 -> Option α
 | 0, _, _, _, _, _, _ => none
 | n + 1, x3, x16, x48, c1, c2, c4 => l2s k (l2 k Xt4 n) Xt4 x3 x16 x48 c1 c2 c4
theorem l2_eq {α : Type} (k : Nat) (Q : Ex -> St -> Option α) : ∀ (n : Nat) (x3 x16 x48 : Int) (c1 c2 c4 : D0), iter (rnd C k cd4 33 Q) n (St5 x3 x16 x48 c1 c2 c4) = l2 k (fun x3 x16 c1 c2 => Q (.exit 4) (St9 x3 x16 c1 c2)) n x3 x16 x48 c1 c2 c4
 | 0, _, _, _, _, _, _ => rfl
 | n + 1, x3, x16, x48, c1, c2, c4 => (iter_succ _ _ _).trans ((l2s_eq k _ Q x3 x16 x48 c1 c2 c4).trans (congrArg (fun N => l2s k N (fun x3 x16 c1 c2 => Q (.exit 4) (St9 x3 x16 c1 c2)) x3 x16 x48 c1 c2 c4) (by funext; exact l2_eq k Q n _ _ _ _ _ _)))
noncomputable def cd7 : Code := cR (cR (cR (cR (cL (cL (cR (cR (cL (cL (cR (cL (cR (cB Tryd.f13)))))))))))))
def St10 (x3 x16 : Int) (c1 c2 : D0) : St := stL 164 [(1, .ref 1 0 []), (2, .ref 2 0 []), (3, .data T1 x3), (16, .data T1 x16)] [(1, .cell T4 (.data T4 c1) false), (2, .cell T4 (.data T4 c2) false)]
def St11 (x3 x9 : Int) (x10 x11 : Int) (x16 x78 : Int) (c1 c2 : D0) : St := stL 164 [(1, .ref 1 0 []), (2, .ref 2 0 []), (3, .data T1 x3), (9, .data T1 x9), (10, .data T1 x10), (11, .data T2 x11), (16, .data T1 x16), (78, .data T1 x78)] [(1, .cell T4 (.data T4 c1) false), (2, .cell T4 (.data T4 c2) false)]
noncomputable def cd8 : Code := cL (cL (cR (cL (cR (cR (cR (cR (cR (cL (cL (cR (cR (cL (cL (cR (cL (cR (cB Tryd.f13))))))))))))))))))
def St12 (x3 x16 : Int) (c1 c2 : D0) : St := stL 164 [(1, .ref 1 0 []), (2, .ref 2 0 []), (3, .data T1 x3), (16, .data T1 x16)] [(1, .cell T4 (.data T4 c1) false), (2, .cell T4 (.data T4 c2) false)]
def l4s {α : Type} (Nx : Int -> Int -> Int -> Int -> Int -> Int -> D0 -> D0 -> Option α) (Xt8 : Int -> Int -> D0 -> D0 -> Option α) (x3 x9 : Int) (x10 x11 : Int) (x16 x78 : Int) (c1 c2 : D0) : Option α :=
 if (decide (x78 < 24)) = true then
  if 0 <= (IntKind.i64.wrap (x10 + (IntKind.i64.wrap (5 * (Int.tmod (IntKind.i64.wrap ((IntKind.i64.wrap (2 * x9)) + (IntKind.i64.wrap (3 * x10)))) 5))))) /\ (IntKind.i64.wrap (x10 + (IntKind.i64.wrap (5 * (Int.tmod (IntKind.i64.wrap ((IntKind.i64.wrap (2 * x9)) + (IntKind.i64.wrap (3 * x10)))) 5))))) < (25 : Int) then
   (math_bits_RotateLeft64.run x11 (IntKind.i64.wrap (Int.tdiv (IntKind.i64.wrap ((IntKind.i64.wrap (x78 + 1)) * (IntKind.i64.wrap (x78 + 2)))) 2))).bind fun y2 =>
   if 0 <= (IntKind.i64.wrap (x10 + (IntKind.i64.wrap (5 * (Int.tmod (IntKind.i64.wrap ((IntKind.i64.wrap (2 * x9)) + (IntKind.i64.wrap (3 * x10)))) 5))))) /\ (IntKind.i64.wrap (x10 + (IntKind.i64.wrap (5 * (Int.tmod (IntKind.i64.wrap ((IntKind.i64.wrap (2 * x9)) + (IntKind.i64.wrap (3 * x10)))) 5))))) < (25 : Int) then
    Nx x3 x10 (Int.tmod (IntKind.i64.wrap ((IntKind.i64.wrap (2 * x9)) + (IntKind.i64.wrap (3 * x10)))) 5) (List.getD c1 (Int.toNat (IntKind.i64.wrap (x10 + (IntKind.i64.wrap (5 * (Int.tmod (IntKind.i64.wrap ((IntKind.i64.wrap (2 * x9)) + (IntKind.i64.wrap (3 * x10)))) 5)))))) 0) x16 (IntKind.i64.wrap (x78 + 1)) (List.set c1 (Int.toNat (IntKind.i64.wrap (x10 + (IntKind.i64.wrap (5 * (Int.tmod (IntKind.i64.wrap ((IntKind.i64.wrap (2 * x9)) + (IntKind.i64.wrap (3 * x10)))) 5)))))) y2) c2
   else none
  else none
 else
  Xt8 x3 x16 c1 c2
theorem l4s_eq {α : Type} (k : Nat) (next : St -> Option α) (Q : Ex -> St -> Option α) (x3 x9 : Int) (x10 x11 : Int) (x16 x78 : Int) (c1 c2 : D0) :
  rnd C k cd8 63 Q next (St11 x3 x9 x10 x11 x16 x78 c1 c2) = l4s (fun x3 x9 x10 x11 x16 x78 c1 c2 => next (St11 x3 x9 x10 x11 x16 x78 c1 c2)) (fun x3 x16 c1 c2 => Q (.exit 8) (St12 x3 x16 c1 c2)) x3 x9 x10 x11 x16 x78 c1 c2 := by
 have h : ∀ (D L : DT α), denJ D L Js C cd8 (lq C 63 next Q) (St11 x3 x9 x10 x11 x16 x78 c1 c2) = l4s (fun x3 x9 x10 x11 x16 x78 c1 c2 => next (St11 x3 x9 x10 x11 x16 x78 c1 c2)) (fun x3 x16 c1 c2 => Q (.exit 8) (St12 x3 x16 c1 c2)) x3 x9 x10 x11 x16 x78 c1 c2 := by
  intro D L; kernel_rfl
 have h2 := via (k := k) h
 exact h2
def l4 {α : Type} (k : Nat) (Xt8 : Int -> Int -> D0 -> D0 -> Option α) : Nat -> Int -> Int -> Int -> Int -> Int -> Int -> D0 -> D0 -> Option α
 | 0, _, _, _, _, _, _, _, _ => none
 | n + 1, x3, x9, x10, x11, x16, x78, c1, c2 => l4s (l4 k Xt8 n) Xt8 x3 x9 x10 x11 x16 x78 c1 c2
theorem l4_eq {α : Type} (k : Nat) (Q : Ex -> St -> Option α) : ∀ (n : Nat) (x3 x9 : Int) (x10 x11 : Int) (x16 x78 : Int) (c1 c2 : D0), iter (rnd C k cd8 63 Q) n (St11 x3 x9 x10 x11 x16 x78 c1 c2) = l4 k (fun x3 x16 c1 c2 => Q (.exit 8) (St12 x3 x16 c1 c2)) n x3 x9 x10 x11 x16 x78 c1 c2
 | 0, _, _, _, _, _, _, _, _ => rfl
 | n + 1, x3, x9, x10, x11, x16, x78, c1, c2 => (iter_succ _ _ _).trans ((l4s_eq k _ Q x3 x9 x10 x11 x16 x78 c1 c2).trans (congrArg (fun N => l4s N (fun x3 x16 c1 c2 => Q (.exit 8) (St12 x3 x16 c1 c2)) x3 x9 x10 x11 x16 x78 c1 c2) (by funext; exact l4_eq k Q n _ _ _ _ _ _ _ _)))
noncomputable def cd9 : Code := cR (cR (cR (cR (cR (cR (cL (cL (cR (cR (cL (cL (cR (cL (cR (cB Tryd.f13)))))))))))))))
def St13 (x3 x16 : Int) (c1 c2 : D0) : St := stL 164 [(1, .ref 1 0 []), (2, .ref 2 0 []), (3, .data T1 x3), (16, .data T1 x16)] [(1, .cell T4 (.data T4 c1) false), (2, .cell T4 (.data T4 c2) false)]
def St14 (x3 x13 x16 : Int) (c1 c2 : D0) : St := stL 164 [(1, .ref 1 0 []), (2, .ref 2 0 []), (3, .data T1 x3), (13, .data T1 x13), (16, .data T1 x16)] [(1, .cell T4 (.data T4 c1) false), (2, .cell T4 (.data T4 c2) false)]
noncomputable def cd10 : Code := cL (cL (cR (cL (cR (cR (cR (cR (cR (cR (cL (cL (cR (cR (cL (cL (cR (cL (cR (cB Tryd.f13)))))))))))))))))))
def St15 (x3 x13 : Int) (x16 x132 : Int) (c1 c2 c14 : D0) : St := stL 164 [(1, .ref 1 0 []), (2, .ref 2 0 []), (3, .data T1 x3), (13, .data T1 x13), (14, .ref 14 0 []), (16, .data T1 x16), (132, .data T1 x132)] [(1, .cell T4 (.data T4 c1) false), (2, .cell T4 (.data T4 c2) false), (14, .cell T6 (.data T6 c14) false)]
noncomputable def cd11 : Code := cL (cL (cR (cR (cL (cL (cR (cL (cL (cR (cL (cR (cR (cR (cR (cR (cR (cL (cL (cR (cR (cL (cL (cR (cL (cR (cB Tryd.f13))))))))))))))))))))))))))
def St16 (x3 x13 x16 : Int) (c1 c2 : D0) : St := stL 164 [(1, .ref 1 0 []), (2, .ref 2 0 []), (3, .data T1 x3), (13, .data T1 x13), (16, .data T1 x16)] [(1, .cell T4 (.data T4 c1) false), (2, .cell T4 (.data T4 c2) false)]
def l6s {α : Type} (Nx : Int -> Int -> Int -> Int -> D0 -> D0 -> D0 -> Option α) (Xt12 : Int -> Int -> Int -> D0 -> D0 -> Option α) (x3 x13 : Int) (x16 x132 : Int) (c1 c2 c14 : D0) : Option α :=
 if (decide (x132 < 5)) = true then
  if 0 <= x132 /\ x132 < (5 : Int) then
   if 0 <= (Int.tmod (IntKind.i64.wrap (x132 + 1)) 5) /\ (Int.tmod (IntKind.i64.wrap (x132 + 1)) 5) < (5 : Int) then
    if 0 <= (Int.tmod (IntKind.i64.wrap (x132 + 2)) 5) /\ (Int.tmod (IntKind.i64.wrap (x132 + 2)) 5) < (5 : Int) then
     if 0 <= (IntKind.i64.wrap (x13 + x132)) /\ (IntKind.i64.wrap (x13 + x132)) < (25 : Int) then
      Nx x3 x13 x16 (IntKind.i64.wrap (x132 + 1)) (List.set c1 (Int.toNat (IntKind.i64.wrap (x13 + x132))) (bxor .u64 (List.getD c14 (Int.toNat x132) 0) (band .u64 (bxor .u64 18446744073709551615 (List.getD c14 (Int.toNat (Int.tmod (IntKind.i64.wrap (x132 + 1)) 5)) 0)) (List.getD c14 (Int.toNat (Int.tmod (IntKind.i64.wrap (x132 + 2)) 5)) 0)))) c2 c14
     else none
    else none
   else none
  else none
 else
  Xt12 x3 x13 x16 c1 c2
theorem l6s_eq {α : Type} (k : Nat) (next : St -> Option α) (Q : Ex -> St -> Option α) (x3 x13 : Int) (x16 x132 : Int) (c1 c2 c14 : D0) :
  rnd C k cd11 93 Q next (St15 x3 x13 x16 x132 c1 c2 c14) = l6s (fun x3 x13 x16 x132 c1 c2 c14 => next (St15 x3 x13 x16 x132 c1 c2 c14)) (fun x3 x13 x16 c1 c2 => Q (.exit 12) (St16 x3 x13 x16 c1 c2)) x3 x13 x16 x132 c1 c2 c14 := by
 have h : ∀ (D L : DT α), denJ D L Js C cd11 (lq C 93 next Q) (St15 x3 x13 x16 x132 c1 c2 c14) = l6s (fun x3 x13 x16 x132 c1 c2 c14 => next (St15 x3 x13 x16 x132 c1 c2 c14)) (fun x3 x13 x16 c1 c2 => Q (.exit 12) (St16 x3 x13 x16 c1 c2)) x3 x13 x16 x132 c1 c2 c14 := by
  intro D L; kernel_rfl
 have h2 := via (k := k) h
 exact h2
def l6 {α : Type} (k : Nat) (Xt12 : Int -> Int -> Int -> D0 -> D0 -> Option α) : Nat -> Int -> Int -> Int -> Int -> D0 -> D0 -> D0 -> Option α
 | 0, _, _, _, _, _, _, _ => none
 | n + 1, x3, x13, x16, x132, c1, c2, c14 => l6s (l6 k Xt12 n) Xt12 x3 x13 x16 x132 c1 c2 c14
theorem l6_eq {α : Type} (k : Nat) (Q : Ex -> St -> Option α) : ∀ (n : Nat) (x3 x13 : Int) (x16 x132 : Int) (c1 c2 c14 : D0), iter (rnd C k cd11 93 Q) n (St15 x3 x13 x16 x132 c1 c2 c14) = l6 k (fun x3 x13 x16 c1 c2 => Q (.exit 12) (St16 x3 x13 x16 c1 c2)) n x3 x13 x16 x132 c1 c2 c14
 | 0, _, _, _, _, _, _, _ => rfl
 | n + 1, x3, x13, x16, x132, c1, c2, c14 => (iter_succ _ _ _).trans ((l6s_eq k _ Q x3 x13 x16 x132 c1 c2 c14).trans (congrArg (fun N => l6s N (fun x3 x13 x16 c1 c2 => Q (.exit 12) (St16 x3 x13 x16 c1 c2)) x3 x13 x16 x132 c1 c2 c14) (by funext; exact l6_eq k Q n _ _ _ _ _ _ _)))
noncomputable def cd12 : Code := cR (cR (cL (cL (cR (cL (cR (cR (cR (cR (cR (cR (cL (cL (cR (cR (cL (cL (cR (cL (cR (cB Tryd.f13)))))))))))))))))))))
def St17 (x3 x13 x16 : Int) (c1 c2 : D0) : St := stL 164 [(1, .ref 1 0 []), (2, .ref 2 0 []), (3, .data T1 x3), (13, .data T1 x13), (16, .data T1 x16)] [(1, .cell T4 (.data T4 c1) false), (2, .cell T4 (.data T4 c2) false)]
def j4 {α : Type} (Nx : Int -> Int -> Int -> D0 -> D0 -> Option α) (x3 x13 x16 : Int) (c1 c2 : D0) : Option α :=
 Nx x3 (IntKind.i64.wrap (x13 + 5)) x16 c1 c2
theorem j4_eq {α : Type} (k : Nat) (next : St -> Option α) (Q : Ex -> St -> Option α) (x3 x13 x16 : Int) (c1 c2 : D0) :
  (den C k) cd12 (lq C 81 next Q) (St17 x3 x13 x16 c1 c2) = j4 (fun x3 x13 x16 c1 c2 => next (St14 x3 x13 x16 c1 c2)) x3 x13 x16 c1 c2 := by
 have h : ∀ (D L : DT α), denJ D L Js C cd12 (lq C 81 next Q) (St17 x3 x13 x16 c1 c2) = j4 (fun x3 x13 x16 c1 c2 => next (St14 x3 x13 x16 c1 c2)) x3 x13 x16 c1 c2 := by
  intro D L; kernel_rfl
 have h2 := via (k := k) h
 exact h2
theorem a1 {α : Type} (k : Nat) (next : St -> Option α) (Q : Ex -> St -> Option α) (x3 x13 : Int) (x16 x132 : Int) (c1 c2 c14 : D0) :
  (lp C k) cd11 (blkQ C 12 (blkQ C 11 (sq (den C k) (lp C k) Js C cd12 (lq C 81 next Q)))) (St15 x3 x13 x16 x132 c1 c2 c14) = l6 k (fun x3 x13 x16 c1 c2 => j4 (fun x3 x13 x16 c1 c2 => next (St14 x3 x13 x16 c1 c2)) x3 x13 x16 c1 c2) k x3 x13 x16 x132 c1 c2 c14 :=
 (lp_iter 93 (by kernel_rfl)).trans ((l6_eq k _ k x3 x13 x16 x132 c1 c2 c14).trans (congrArg (fun X => l6 k X k x3 x13 x16 x132 c1 c2 c14) (funext fun x3 => funext fun x13 => funext fun x16 => funext fun c1 => funext fun c2 => (Eq.trans (b := (den C k) cd12 (lq C 81 next Q) (St17 x3 x13 x16 c1 c2)) (by kernel_rfl) (by simp only [j4_eq])))))
def St18 (x3 x16 : Int) (c1 c2 : D0) : St := stL 164 [(1, .ref 1 0 []), (2, .ref 2 0 []), (3, .data T1 x3), (16, .data T1 x16)] [(1, .cell T4 (.data T4 c1) false), (2, .cell T4 (.data T4 c2) false)]
def l5s {α : Type} (k : Nat) (Nx : Int -> Int -> Int -> D0 -> D0 -> Option α) (Xt10 : Int -> Int -> D0 -> D0 -> Option α) (x3 x13 x16 : Int) (c1 c2 : D0) : Option α :=
 if (decide (x13 < 25)) = true then
  if 0 <= x13 /\ x13 < (25 : Int) then
   if 0 <= (IntKind.i64.wrap (x13 + 1)) /\ (IntKind.i64.wrap (x13 + 1)) < (25 : Int) then
    if 0 <= (IntKind.i64.wrap (x13 + 2)) /\ (IntKind.i64.wrap (x13 + 2)) < (25 : Int) then
     if 0 <= (IntKind.i64.wrap (x13 + 3)) /\ (IntKind.i64.wrap (x13 + 3)) < (25 : Int) then
      if 0 <= (IntKind.i64.wrap (x13 + 4)) /\ (IntKind.i64.wrap (x13 + 4)) < (25 : Int) then
       l6 k (fun x3 x13 x16 c1 c2 => j4 Nx x3 x13 x16 c1 c2) k x3 x13 x16 0 c1 c2 [(List.getD c1 (Int.toNat x13) 0), (List.getD c1 (Int.toNat (IntKind.i64.wrap (x13 + 1))) 0), (List.getD c1 (Int.toNat (IntKind.i64.wrap (x13 + 2))) 0), (List.getD c1 (Int.toNat (IntKind.i64.wrap (x13 + 3))) 0), (List.getD c1 (Int.toNat (IntKind.i64.wrap (x13 + 4))) 0)]
      else none
     else none
    else none
   else none
  else none
 else
  Xt10 x3 x16 c1 c2
theorem l5s_eq {α : Type} (k : Nat) (next : St -> Option α) (Q : Ex -> St -> Option α) (x3 x13 x16 : Int) (c1 c2 : D0) :
  rnd C k cd10 81 Q next (St14 x3 x13 x16 c1 c2) = l5s k (fun x3 x13 x16 c1 c2 => next (St14 x3 x13 x16 c1 c2)) (fun x3 x16 c1 c2 => Q (.exit 10) (St18 x3 x16 c1 c2)) x3 x13 x16 c1 c2 := by
 have h : ∀ (D L : DT α), denJ D L Js C cd10 (lq C 81 next Q) (St14 x3 x13 x16 c1 c2) =
    if (decide (x13 < 25)) = true then
     if 0 <= x13 /\ x13 < (25 : Int) then
      if 0 <= (IntKind.i64.wrap (x13 + 1)) /\ (IntKind.i64.wrap (x13 + 1)) < (25 : Int) then
       if 0 <= (IntKind.i64.wrap (x13 + 2)) /\ (IntKind.i64.wrap (x13 + 2)) < (25 : Int) then
        if 0 <= (IntKind.i64.wrap (x13 + 3)) /\ (IntKind.i64.wrap (x13 + 3)) < (25 : Int) then
         if 0 <= (IntKind.i64.wrap (x13 + 4)) /\ (IntKind.i64.wrap (x13 + 4)) < (25 : Int) then
          L cd11 (blkQ C 12 (blkQ C 11 (sq D L Js C cd12 (lq C 81 next Q)))) (St15 x3 x13 x16 0 c1 c2 [(List.getD c1 (Int.toNat x13) 0), (List.getD c1 (Int.toNat (IntKind.i64.wrap (x13 + 1))) 0), (List.getD c1 (Int.toNat (IntKind.i64.wrap (x13 + 2))) 0), (List.getD c1 (Int.toNat (IntKind.i64.wrap (x13 + 3))) 0), (List.getD c1 (Int.toNat (IntKind.i64.wrap (x13 + 4))) 0)])
         else none
        else none
       else none
      else none
     else none
    else
     Q (.exit 10) (St18 x3 x16 c1 c2) := by
  intro D L; kernel_rfl
 have h2 := via (k := k) h
 refine h2.trans ?_
 simp only [a1]
 first | rfl | kernel_rfl
def l5 {α : Type} (k : Nat) (Xt10 : Int -> Int -> D0 -> D0 -> Option α) : Nat -> Int -> Int -> Int -> D0 -> D0 -> Option α
 | 0, _, _, _, _, _ => none
 | n + 1, x3, x13, x16, c1, c2 => l5s k (l5 k Xt10 n) Xt10 x3 x13 x16 c1 c2
theorem l5_eq {α : Type} (k : Nat) (Q : Ex -> St -> Option α) : ∀ (n : Nat) (x3 x13 x16 : Int) (c1 c2 : D0), iter (rnd C k cd10 81 Q) n (St14 x3 x13 x16 c1 c2) = l5 k (fun x3 x16 c1 c2 => Q (.exit 10) (St18 x3 x16 c1 c2)) n x3 x13 x16 c1 c2
 | 0, _, _, _, _, _ => rfl
 | n + 1, x3, x13, x16, c1, c2 => (iter_succ _ _ _).trans ((l5s_eq k _ Q x3 x13 x16 c1 c2).trans (congrArg (fun N => l5s k N (fun x3 x16 c1 c2 => Q (.exit 10) (St18 x3 x16 c1 c2)) x3 x13 x16 c1 c2) (by funext; exact l5_eq k Q n _ _ _ _ _)))
noncomputable def cd13 : Code := cR (cR (cR (cR (cR (cR (cR (cL (cL (cR (cR (cL (cL (cR (cL (cR (cB Tryd.f13))))))))))))))))
def St19 (x3 x16 : Int) (c1 c2 : D0) : St := stL 164 [(1, .ref 1 0 []), (2, .ref 2 0 []), (3, .data T1 x3), (16, .data T1 x16)] [(1, .cell T4 (.data T4 c1) false), (2, .cell T4 (.data T4 c2) false)]
def St20 (x16 : Int) (c1 c2 : D0) : St := stL 164 [(1, .ref 1 0 []), (2, .ref 2 0 []), (16, .data T1 x16)] [(1, .cell T4 (.data T4 c1) false), (2, .cell T4 (.data T4 c2) false)]
def j6 {α : Type} (Nx : Int -> D0 -> D0 -> Option α) (x16 : Int) (c1 c2 : D0) : Option α :=
 Nx (IntKind.i64.wrap (x16 + 1)) c1 c2
theorem j6_eq {α : Type} (k : Nat) (next : St -> Option α) (Q : Ex -> St -> Option α) (x16 : Int) (c1 c2 : D0) :
  (den C k) cd3 (lq C 6 next Q) (St20 x16 c1 c2) = j6 (fun x16 c1 c2 => next (St1 x16 c1 c2)) x16 c1 c2 := by
 have h : ∀ (D L : DT α), denJ D L Js C cd3 (lq C 6 next Q) (St20 x16 c1 c2) = j6 (fun x16 c1 c2 => next (St1 x16 c1 c2)) x16 c1 c2 := by
  intro D L; kernel_rfl
 have h2 := via (k := k) h
 exact h2
def j5 {α : Type} (Nx : Int -> D0 -> D0 -> Option α) (x3 x16 : Int) (c1 c2 : D0) : Option α :=
 (basculeref_roundOf.run x3).bind fun y3 =>
 j6 Nx x16 (List.set c1 0 (bxor .u64 (List.getD c1 0 0) y3)) c2
theorem j5_eq {α : Type} (k : Nat) (next : St -> Option α) (Q : Ex -> St -> Option α) (x3 x16 : Int) (c1 c2 : D0) :
  (den C k) cd13 (blkQ C 1 (sq (den C k) (lp C k) Js C cd3 (lq C 6 next Q))) (St19 x3 x16 c1 c2) = j5 (fun x16 c1 c2 => next (St1 x16 c1 c2)) x3 x16 c1 c2 := by
 have h : ∀ (D L : DT α), denJ D L Js C cd13 (blkQ C 1 (sq D L Js C cd3 (lq C 6 next Q))) (St19 x3 x16 c1 c2) =
    (basculeref_roundOf.run x3).bind fun y3 =>
    D cd3 (lq C 6 next Q) (St20 x16 (List.set c1 0 (bxor .u64 (List.getD c1 0 0) y3)) c2) := by
  intro D L; kernel_rfl
 have h2 := via (k := k) h
 refine h2.trans ?_
 simp only [j6_eq]
 first | rfl | kernel_rfl
theorem a2 {α : Type} (k : Nat) (next : St -> Option α) (Q : Ex -> St -> Option α) (x3 x13 x16 : Int) (c1 c2 : D0) :
  (lp C k) cd10 (blkQ C 10 (sq (den C k) (lp C k) Js C cd13 (blkQ C 1 (sq (den C k) (lp C k) Js C cd3 (lq C 6 next Q))))) (St14 x3 x13 x16 c1 c2) = l5 k (fun x3 x16 c1 c2 => j5 (fun x16 c1 c2 => next (St1 x16 c1 c2)) x3 x16 c1 c2) k x3 x13 x16 c1 c2 :=
 (lp_iter 81 (by kernel_rfl)).trans ((l5_eq k _ k x3 x13 x16 c1 c2).trans (congrArg (fun X => l5 k X k x3 x13 x16 c1 c2) (funext fun x3 => funext fun x16 => funext fun c1 => funext fun c2 => (Eq.trans (b := (den C k) cd13 (blkQ C 1 (sq (den C k) (lp C k) Js C cd3 (lq C 6 next Q))) (St19 x3 x16 c1 c2)) (by kernel_rfl) (by simp only [j5_eq])))))
def j3 {α : Type} (k : Nat) (Nx : Int -> D0 -> D0 -> Option α) (x3 x16 : Int) (c1 c2 : D0) : Option α :=
 l5 k (fun x3 x16 c1 c2 => j5 Nx x3 x16 c1 c2) k x3 0 x16 c1 c2
theorem j3_eq {α : Type} (k : Nat) (next : St -> Option α) (Q : Ex -> St -> Option α) (x3 x16 : Int) (c1 c2 : D0) :
  (den C k) cd9 (blkQ C 1 (sq (den C k) (lp C k) Js C cd3 (lq C 6 next Q))) (St13 x3 x16 c1 c2) = j3 k (fun x16 c1 c2 => next (St1 x16 c1 c2)) x3 x16 c1 c2 := by
 have h : ∀ (D L : DT α), denJ D L Js C cd9 (blkQ C 1 (sq D L Js C cd3 (lq C 6 next Q))) (St13 x3 x16 c1 c2) =
    L cd10 (blkQ C 10 (sq D L Js C cd13 (blkQ C 1 (sq D L Js C cd3 (lq C 6 next Q))))) (St14 x3 0 x16 c1 c2) := by
  intro D L; kernel_rfl
 have h2 := via (k := k) h
 refine h2.trans ?_
 simp only [a2]
 first | rfl | kernel_rfl
theorem a3 {α : Type} (k : Nat) (next : St -> Option α) (Q : Ex -> St -> Option α) (x3 x9 : Int) (x10 x11 : Int) (x16 x78 : Int) (c1 c2 : D0) :
  (lp C k) cd8 (blkQ C 8 (sq (den C k) (lp C k) Js C cd9 (blkQ C 1 (sq (den C k) (lp C k) Js C cd3 (lq C 6 next Q))))) (St11 x3 x9 x10 x11 x16 x78 c1 c2) = l4 k (fun x3 x16 c1 c2 => j3 k (fun x16 c1 c2 => next (St1 x16 c1 c2)) x3 x16 c1 c2) k x3 x9 x10 x11 x16 x78 c1 c2 :=
 (lp_iter 63 (by kernel_rfl)).trans ((l4_eq k _ k x3 x9 x10 x11 x16 x78 c1 c2).trans (congrArg (fun X => l4 k X k x3 x9 x10 x11 x16 x78 c1 c2) (funext fun x3 => funext fun x16 => funext fun c1 => funext fun c2 => (Eq.trans (b := (den C k) cd9 (blkQ C 1 (sq (den C k) (lp C k) Js C cd3 (lq C 6 next Q))) (St13 x3 x16 c1 c2)) (by kernel_rfl) (by simp only [j3_eq])))))
def j2 {α : Type} (k : Nat) (Nx : Int -> D0 -> D0 -> Option α) (x3 x16 : Int) (c1 c2 : D0) : Option α :=
 l4 k (fun x3 x16 c1 c2 => j3 k Nx x3 x16 c1 c2) k x3 1 0 (List.getD c1 1 0) x16 0 c1 c2
theorem j2_eq {α : Type} (k : Nat) (next : St -> Option α) (Q : Ex -> St -> Option α) (x3 x16 : Int) (c1 c2 : D0) :
  (den C k) cd7 (blkQ C 1 (sq (den C k) (lp C k) Js C cd3 (lq C 6 next Q))) (St10 x3 x16 c1 c2) = j2 k (fun x16 c1 c2 => next (St1 x16 c1 c2)) x3 x16 c1 c2 := by
 have h : ∀ (D L : DT α), denJ D L Js C cd7 (blkQ C 1 (sq D L Js C cd3 (lq C 6 next Q))) (St10 x3 x16 c1 c2) =
    L cd8 (blkQ C 8 (sq D L Js C cd9 (blkQ C 1 (sq D L Js C cd3 (lq C 6 next Q))))) (St11 x3 1 0 (List.getD c1 1 0) x16 0 c1 c2) := by
  intro D L; kernel_rfl
 have h2 := via (k := k) h
 refine h2.trans ?_
 simp only [a3]
 first | rfl | kernel_rfl
theorem a4 {α : Type} (k : Nat) (next : St -> Option α) (Q : Ex -> St -> Option α) (x3 x16 x48 : Int) (c1 c2 c4 : D0) :
  (lp C k) cd4 (blkQ C 4 (sq (den C k) (lp C k) Js C cd7 (blkQ C 1 (sq (den C k) (lp C k) Js C cd3 (lq C 6 next Q))))) (St5 x3 x16 x48 c1 c2 c4) = l2 k (fun x3 x16 c1 c2 => j2 k (fun x16 c1 c2 => next (St1 x16 c1 c2)) x3 x16 c1 c2) k x3 x16 x48 c1 c2 c4 :=
 (lp_iter 33 (by kernel_rfl)).trans ((l2_eq k _ k x3 x16 x48 c1 c2 c4).trans (congrArg (fun X => l2 k X k x3 x16 x48 c1 c2 c4) (funext fun x3 => funext fun x16 => funext fun c1 => funext fun c2 => (Eq.trans (b := (den C k) cd7 (blkQ C 1 (sq (den C k) (lp C k) Js C cd3 (lq C 6 next Q))) (St10 x3 x16 c1 c2)) (by kernel_rfl) (by simp only [j2_eq])))))
def j0 {α : Type} (k : Nat) (Nx : Int -> D0 -> D0 -> Option α) (x3 x16 : Int) (c1 c2 c4 : D0) : Option α :=
 l2 k (fun x3 x16 c1 c2 => j2 k Nx x3 x16 c1 c2) k x3 x16 0 c1 c2 c4
theorem j0_eq {α : Type} (k : Nat) (next : St -> Option α) (Q : Ex -> St -> Option α) (x3 x16 : Int) (c1 c2 c4 : D0) :
  (den C k) cd2 (blkQ C 1 (sq (den C k) (lp C k) Js C cd3 (lq C 6 next Q))) (St4 x3 x16 c1 c2 c4) = j0 k (fun x16 c1 c2 => next (St1 x16 c1 c2)) x3 x16 c1 c2 c4 := by
 have h : ∀ (D L : DT α), denJ D L Js C cd2 (blkQ C 1 (sq D L Js C cd3 (lq C 6 next Q))) (St4 x3 x16 c1 c2 c4) =
    L cd4 (blkQ C 4 (sq D L Js C cd7 (blkQ C 1 (sq D L Js C cd3 (lq C 6 next Q))))) (St5 x3 x16 0 c1 c2 c4) := by
  intro D L; kernel_rfl
 have h2 := via (k := k) h
 refine h2.trans ?_
 simp only [a4]
 first | rfl | kernel_rfl
theorem a5 {α : Type} (k : Nat) (next : St -> Option α) (Q : Ex -> St -> Option α) (x3 x16 x19 : Int) (c1 c2 c4 : D0) :
  (lp C k) cd1 (blkQ C 2 (sq (den C k) (lp C k) Js C cd2 (blkQ C 1 (sq (den C k) (lp C k) Js C cd3 (lq C 6 next Q))))) (St2 x3 x16 x19 c1 c2 c4) = l1 k (fun x3 x16 c1 c2 c4 => j0 k (fun x16 c1 c2 => next (St1 x16 c1 c2)) x3 x16 c1 c2 c4) k x3 x16 x19 c1 c2 c4 :=
 (lp_iter 18 (by kernel_rfl)).trans ((l1_eq k _ k x3 x16 x19 c1 c2 c4).trans (congrArg (fun X => l1 k X k x3 x16 x19 c1 c2 c4) (funext fun x3 => funext fun x16 => funext fun c1 => funext fun c2 => funext fun c4 => (Eq.trans (b := (den C k) cd2 (blkQ C 1 (sq (den C k) (lp C k) Js C cd3 (lq C 6 next Q))) (St4 x3 x16 c1 c2 c4)) (by kernel_rfl) (by simp only [j0_eq])))))
def St21 (c1 c2 : D0) : St := stL 164 [(1, .ref 1 0 []), (2, .ref 2 0 [])] [(1, .cell T4 (.data T4 c1) false), (2, .cell T4 (.data T4 c2) false)]
def l0s {α : Type} (k : Nat) (Nx : Int -> D0 -> D0 -> Option α) (Xt0 : D0 -> D0 -> Option α) (x16 : Int) (c1 c2 : D0) : Option α :=
 if (decide (x16 < 24)) = true then
  l1 k (fun x3 x16 c1 c2 c4 => j0 k Nx x3 x16 c1 c2 c4) k x16 x16 0 c1 c2 [0, 0, 0, 0, 0]
 else
  Xt0 c1 c2
theorem l0s_eq {α : Type} (k : Nat) (next : St -> Option α) (Q : Ex -> St -> Option α) (x16 : Int) (c1 c2 : D0) :
  rnd C k cd0 6 Q next (St1 x16 c1 c2) = l0s k (fun x16 c1 c2 => next (St1 x16 c1 c2)) (fun c1 c2 => Q (.exit 0) (St21 c1 c2)) x16 c1 c2 := by
 have h : ∀ (D L : DT α), denJ D L Js C cd0 (lq C 6 next Q) (St1 x16 c1 c2) =
    if (decide (x16 < 24)) = true then
     L cd1 (blkQ C 2 (sq D L Js C cd2 (blkQ C 1 (sq D L Js C cd3 (lq C 6 next Q))))) (St2 x16 x16 0 c1 c2 [0, 0, 0, 0, 0])
    else
     Q (.exit 0) (St21 c1 c2) := by
  intro D L; kernel_rfl
 have h2 := via (k := k) h
 refine h2.trans ?_
 simp only [a5]
 first | rfl | kernel_rfl
def l0 {α : Type} (k : Nat) (Xt0 : D0 -> D0 -> Option α) : Nat -> Int -> D0 -> D0 -> Option α
 | 0, _, _, _ => none
 | n + 1, x16, c1, c2 => l0s k (l0 k Xt0 n) Xt0 x16 c1 c2
theorem l0_eq {α : Type} (k : Nat) (Q : Ex -> St -> Option α) : ∀ (n : Nat) (x16 : Int) (c1 c2 : D0), iter (rnd C k cd0 6 Q) n (St1 x16 c1 c2) = l0 k (fun c1 c2 => Q (.exit 0) (St21 c1 c2)) n x16 c1 c2
 | 0, _, _, _ => rfl
 | n + 1, x16, c1, c2 => (iter_succ _ _ _).trans ((l0s_eq k _ Q x16 c1 c2).trans (congrArg (fun N => l0s k N (fun c1 c2 => Q (.exit 0) (St21 c1 c2)) x16 c1 c2) (by funext; exact l0_eq k Q n _ _ _)))
noncomputable def cd14 : Code := cR (cR (cB Tryd.f13))
def St22 (c1 c2 : D0) : St := stL 164 [(1, .ref 1 0 []), (2, .ref 2 0 [])] [(1, .cell T4 (.data T4 c1) false), (2, .cell T4 (.data T4 c2) false)]
def St23 (c2 : D0) : St := stL 164 [(2, .ref 2 0 [])] [(2, .cell T4 (.data T4 c2) false)]
def j7 {α : Type} (Rt : D0 -> Option α) (c1 c2 : D0) : Option α :=
 Rt c1
theorem j7_eq {α : Type} (k : Nat) (Q : Ex -> St -> Option α) (c1 c2 : D0) :
  (den C k) cd14 Q (St22 c1 c2) = j7 (fun c2 => Q .ret (St23 c2)) c1 c2 := by
 have h : ∀ (D L : DT α), denJ D L Js C cd14 Q (St22 c1 c2) = j7 (fun c2 => Q .ret (St23 c2)) c1 c2 := by
  intro D L; kernel_rfl
 have h2 := via (k := k) h
 exact h2
theorem a6 {α : Type} (k : Nat) (Q : Ex -> St -> Option α) (x16 : Int) (c1 c2 : D0) :
  (lp C k) cd0 (blkQ C 0 (sq (den C k) (lp C k) Js C cd14 Q)) (St1 x16 c1 c2) = l0 k (fun c1 c2 => j7 (fun c2 => Q .ret (St23 c2)) c1 c2) k x16 c1 c2 :=
 (lp_iter 6 (by kernel_rfl)).trans ((l0_eq k _ k x16 c1 c2).trans (congrArg (fun X => l0 k X k x16 c1 c2) (funext fun c1 => funext fun c2 => (Eq.trans (b := (den C k) cd14 Q (St22 c1 c2)) (by kernel_rfl) (by simp only [j7_eq])))))
def top {α : Type} (k : Nat) (Rt : D0 -> Option α) (x0 : D0) : Option α :=
 l0 k (fun c1 c2 => j7 Rt c1 c2) k 0 x0 (List.replicate 25 0)
theorem top_eq {α : Type} (k : Nat) (Q : Ex -> St -> Option α) (x0 : D0) :
  (den C k) (cB Tryd.f13) Q (St0 x0) = top k (fun c2 => Q .ret (St23 c2)) x0 := by
 have h : ∀ (D L : DT α), denJ D L Js C (cB Tryd.f13) Q (St0 x0) =
    L cd0 (blkQ C 0 (sq D L Js C cd14 Q)) (St1 0 x0 (List.replicate 25 0)) := by
  intro D L; kernel_rfl
 have h2 := via (k := k) h
 refine h2.trans ?_
 simp only [a6]
 first | rfl | kernel_rfl
def run (x0 : D0) : Option D0 := top (α := List Int) fuel (fun c2 => some c2) x0
def F : Fn := ⟨T8, T4, false, fun x => run x.1⟩
theorem con : Con Tryd.prog 13 F :=
 con_of (C := C) (ctx_ok (by kernel_rfl) (by kernel_rfl) (by kernel_rfl) (by kernel_rfl) ⟨.inl ⟨math_bits_RotateLeft64.con, math_bits_RotateLeft64.named⟩, ⟨.inl ⟨basculeref_roundOf.con, basculeref_roundOf.named⟩, trivial⟩⟩) (by kernel_rfl) Tryd.func13 (c := cB Tryd.f13) (by kernel_rfl) (by kernel_rfl) F (fun x => by simp [F, spread, Tryd.ntmps13]) (fun x => (St0 x.1)) (fun x => by kernel_rfl) fun x => (top_eq fuel _ x.1).trans (by kernel_rfl)
theorem named : Named Tryd.prog 13 := named_of Tryd.func13 (by kernel_rfl) (by kernel_rfl)
end Go.Bx.basculeref_Turned
namespace Go.Bx.basculeref_soaked
def Js : List Nat := [4, 10, 11]
def C : Ctx := ⟨[(5, T9), (9, .str), (22, T2), (23, T4)], [], [], fnL [(13, basculeref_Turned.F)], noSh, [], invL [], [(2, [4]), (1, [2, 4]), (4, [1, 2, 4, 5]), (7, [1, 2, 4, 5, 6]), (10, [1, 2, 4, 5, 6, 7]), (6, [1, 2, 4, 5]), (9, [1, 2, 4, 5]), (18, [1, 2, 4, 5, 6, 7]), (27, [1, 2, 4, 5, 6]), (30, [2, 4])], [], [], 0, 0⟩
def St0 (x0 x1 : D0) : St := stL 34 [(0, .data T4 x0), (1, .data .str x1)] []
def St1 (x1 : D0) (x5 : Int) (c2 c4 : D0) : St := stL 34 [(1, .data .str x1), (2, .ref 2 0 []), (4, .ref 4 0 []), (5, .data T1 x5)] [(2, .cell T4 (.data T4 c2) false), (4, .cell T4 (.data T4 c4) false)]
noncomputable def cd0 : Code := cL (cL (cR (cL (cR (cB Tryd.f45)))))
def St2 (x1 : D0) (x5 x6 x7 : Int) (c2 c4 : D0) : St := stL 34 [(1, .data .str x1), (2, .ref 2 0 []), (4, .ref 4 0 []), (5, .data T1 x5), (6, .data T2 x6), (7, .data T1 x7)] [(2, .cell T4 (.data T4 c2) false), (4, .cell T4 (.data T4 c4) false)]
noncomputable def cd1 : Code := cL (cL (cR (cL (cR (cL (cL (cR (cL (cL (cR (cL (cR (cB Tryd.f45)))))))))))))
def St3 (x1 : D0) (x5 x6 : Int) (c2 c4 : D0) : St := stL 34 [(1, .data .str x1), (2, .ref 2 0 []), (4, .ref 4 0 []), (5, .data T1 x5), (6, .data T2 x6)] [(2, .cell T4 (.data T4 c2) false), (4, .cell T4 (.data T4 c4) false)]
def l1s {α : Type} (Nx : D0 -> Int -> Int -> Int -> D0 -> D0 -> Option α) (Xt2 : D0 -> Int -> Int -> D0 -> D0 -> Option α) (x1 : D0) (x5 x6 x7 : Int) (c2 c4 : D0) : Option α :=
 if (decide (x7 >= 0)) = true then
  if 0 <= (IntKind.i64.wrap (x5 + x7)) /\ (IntKind.i64.wrap (x5 + x7)) < (x1.length : Int) then
   Nx x1 x5 (IntKind.u64.wrap ((IntKind.u64.wrap (x6 * 256)) + (IntKind.u64.wrap (List.getD x1 (Int.toNat (IntKind.i64.wrap (x5 + x7))) 0)))) (IntKind.i64.wrap (x7 - 1)) c2 c4
  else none
 else
  Xt2 x1 x5 x6 c2 c4
theorem l1s_eq {α : Type} (k : Nat) (next : St -> Option α) (Q : Ex -> St -> Option α) (x1 : D0) (x5 x6 x7 : Int) (c2 c4 : D0) :
  rnd C k cd1 18 Q next (St2 x1 x5 x6 x7 c2 c4) = l1s (fun x1 x5 x6 x7 c2 c4 => next (St2 x1 x5 x6 x7 c2 c4)) (fun x1 x5 x6 c2 c4 => Q (.exit 2) (St3 x1 x5 x6 c2 c4)) x1 x5 x6 x7 c2 c4 := by
 have h : ∀ (D L : DT α), denJ D L Js C cd1 (lq C 18 next Q) (St2 x1 x5 x6 x7 c2 c4) = l1s (fun x1 x5 x6 x7 c2 c4 => next (St2 x1 x5 x6 x7 c2 c4)) (fun x1 x5 x6 c2 c4 => Q (.exit 2) (St3 x1 x5 x6 c2 c4)) x1 x5 x6 x7 c2 c4 := by
  intro D L; kernel_rfl
 have h2 := via (k := k) h
 exact h2
def l1 {α : Type} (k : Nat) (Xt2 : D0 -> Int -> Int -> D0 -> D0 -> Option α) : Nat -> D0 -> Int -> Int -> Int -> D0 -> D0 -> Option α
 | 0, _, _, _, _, _, _ => none
 | n + 1, x1, x5, x6, x7, c2, c4 => l1s (l1 k Xt2 n) Xt2 x1 x5 x6 x7 c2 c4
theorem l1_eq {α : Type} (k : Nat) (Q : Ex -> St -> Option α) : ∀ (n : Nat) (x1 : D0) (x5 x6 x7 : Int) (c2 c4 : D0), iter (rnd C k cd1 18 Q) n (St2 x1 x5 x6 x7 c2 c4) = l1 k (fun x1 x5 x6 c2 c4 => Q (.exit 2) (St3 x1 x5 x6 c2 c4)) n x1 x5 x6 x7 c2 c4
 | 0, _, _, _, _, _, _ => rfl
 | n + 1, x1, x5, x6, x7, c2, c4 => (iter_succ _ _ _).trans ((l1s_eq k _ Q x1 x5 x6 x7 c2 c4).trans (congrArg (fun N => l1s N (fun x1 x5 x6 c2 c4 => Q (.exit 2) (St3 x1 x5 x6 c2 c4)) x1 x5 x6 x7 c2 c4) (by funext; exact l1_eq k Q n _ _ _ _ _ _)))
noncomputable def cd2 : Code := cR (cR (cL (cL (cR (cL (cL (cR (cL (cR (cB Tryd.f45))))))))))
noncomputable def cd3 : Code := cR (cR (cL (cL (cR (cL (cR (cB Tryd.f45)))))))
def St4 (x1 : D0) (x5 x6 : Int) (c2 c4 : D0) : St := stL 34 [(1, .data .str x1), (2, .ref 2 0 []), (4, .ref 4 0 []), (5, .data T1 x5), (6, .data T2 x6)] [(2, .cell T4 (.data T4 c2) false), (4, .cell T4 (.data T4 c4) false)]
def St5 (x1 : D0) (x5 : Int) (c2 c4 : D0) : St := stL 34 [(1, .data .str x1), (2, .ref 2 0 []), (4, .ref 4 0 []), (5, .data T1 x5)] [(2, .cell T4 (.data T4 c2) false), (4, .cell T4 (.data T4 c4) false)]
def j1 {α : Type} (Nx : D0 -> Int -> D0 -> D0 -> Option α) (x1 : D0) (x5 : Int) (c2 c4 : D0) : Option α :=
 Nx x1 (IntKind.i64.wrap (x5 + 8)) c2 c4
theorem j1_eq {α : Type} (k : Nat) (next : St -> Option α) (Q : Ex -> St -> Option α) (x1 : D0) (x5 : Int) (c2 c4 : D0) :
  (den C k) cd3 (lq C 6 next Q) (St5 x1 x5 c2 c4) = j1 (fun x1 x5 c2 c4 => next (St1 x1 x5 c2 c4)) x1 x5 c2 c4 := by
 have h : ∀ (D L : DT α), denJ D L Js C cd3 (lq C 6 next Q) (St5 x1 x5 c2 c4) = j1 (fun x1 x5 c2 c4 => next (St1 x1 x5 c2 c4)) x1 x5 c2 c4 := by
  intro D L; kernel_rfl
 have h2 := via (k := k) h
 exact h2
def j0 {α : Type} (Nx : D0 -> Int -> D0 -> D0 -> Option α) (x1 : D0) (x5 x6 : Int) (c2 c4 : D0) : Option α :=
 if 0 <= (IntKind.i64.wrap (Int.tdiv x5 8)) /\ (IntKind.i64.wrap (Int.tdiv x5 8)) < (25 : Int) then
  if 0 <= (IntKind.i64.wrap (Int.tdiv x5 8)) /\ (IntKind.i64.wrap (Int.tdiv x5 8)) < (25 : Int) then
   j1 Nx x1 x5 (List.set c2 (Int.toNat (IntKind.i64.wrap (Int.tdiv x5 8))) (bxor .u64 (List.getD c2 (Int.toNat (IntKind.i64.wrap (Int.tdiv x5 8))) 0) x6)) c4
  else none
 else none
theorem j0_eq {α : Type} (k : Nat) (next : St -> Option α) (Q : Ex -> St -> Option α) (x1 : D0) (x5 x6 : Int) (c2 c4 : D0) :
  (den C k) cd2 (blkQ C 1 (sq (den C k) (lp C k) Js C cd3 (lq C 6 next Q))) (St4 x1 x5 x6 c2 c4) = j0 (fun x1 x5 c2 c4 => next (St1 x1 x5 c2 c4)) x1 x5 x6 c2 c4 := by
 have h : ∀ (D L : DT α), denJ D L Js C cd2 (blkQ C 1 (sq D L Js C cd3 (lq C 6 next Q))) (St4 x1 x5 x6 c2 c4) =
    if 0 <= (IntKind.i64.wrap (Int.tdiv x5 8)) /\ (IntKind.i64.wrap (Int.tdiv x5 8)) < (25 : Int) then
     if 0 <= (IntKind.i64.wrap (Int.tdiv x5 8)) /\ (IntKind.i64.wrap (Int.tdiv x5 8)) < (25 : Int) then
      D cd3 (lq C 6 next Q) (St5 x1 x5 (List.set c2 (Int.toNat (IntKind.i64.wrap (Int.tdiv x5 8))) (bxor .u64 (List.getD c2 (Int.toNat (IntKind.i64.wrap (Int.tdiv x5 8))) 0) x6)) c4)
     else none
    else none := by
  intro D L; kernel_rfl
 have h2 := via (k := k) h
 refine h2.trans ?_
 simp only [j1_eq]
 first | rfl | kernel_rfl
theorem a0 {α : Type} (k : Nat) (next : St -> Option α) (Q : Ex -> St -> Option α) (x1 : D0) (x5 x6 x7 : Int) (c2 c4 : D0) :
  (lp C k) cd1 (blkQ C 2 (sq (den C k) (lp C k) Js C cd2 (blkQ C 1 (sq (den C k) (lp C k) Js C cd3 (lq C 6 next Q))))) (St2 x1 x5 x6 x7 c2 c4) = l1 k (fun x1 x5 x6 c2 c4 => j0 (fun x1 x5 c2 c4 => next (St1 x1 x5 c2 c4)) x1 x5 x6 c2 c4) k x1 x5 x6 x7 c2 c4 :=
 (lp_iter 18 (by kernel_rfl)).trans ((l1_eq k _ k x1 x5 x6 x7 c2 c4).trans (congrArg (fun X => l1 k X k x1 x5 x6 x7 c2 c4) (funext fun x1 => funext fun x5 => funext fun x6 => funext fun c2 => funext fun c4 => (Eq.trans (b := (den C k) cd2 (blkQ C 1 (sq (den C k) (lp C k) Js C cd3 (lq C 6 next Q))) (St4 x1 x5 x6 c2 c4)) (by kernel_rfl) (by simp only [j0_eq])))))
def St6 (c2 c4 : D0) : St := stL 34 [(2, .ref 2 0 []), (4, .ref 4 0 [])] [(2, .cell T4 (.data T4 c2) false), (4, .cell T4 (.data T4 c4) false)]
def l0s {α : Type} (k : Nat) (Nx : D0 -> Int -> D0 -> D0 -> Option α) (Xt0 : D0 -> D0 -> Option α) (x1 : D0) (x5 : Int) (c2 c4 : D0) : Option α :=
 if (decide (x5 < 136)) = true then
  l1 k (fun x1 x5 x6 c2 c4 => j0 Nx x1 x5 x6 c2 c4) k x1 x5 0 7 c2 c4
 else
  Xt0 c2 c4
theorem l0s_eq {α : Type} (k : Nat) (next : St -> Option α) (Q : Ex -> St -> Option α) (x1 : D0) (x5 : Int) (c2 c4 : D0) :
  rnd C k cd0 6 Q next (St1 x1 x5 c2 c4) = l0s k (fun x1 x5 c2 c4 => next (St1 x1 x5 c2 c4)) (fun c2 c4 => Q (.exit 0) (St6 c2 c4)) x1 x5 c2 c4 := by
 have h : ∀ (D L : DT α), denJ D L Js C cd0 (lq C 6 next Q) (St1 x1 x5 c2 c4) =
    if (decide (x5 < 136)) = true then
     L cd1 (blkQ C 2 (sq D L Js C cd2 (blkQ C 1 (sq D L Js C cd3 (lq C 6 next Q))))) (St2 x1 x5 0 7 c2 c4)
    else
     Q (.exit 0) (St6 c2 c4) := by
  intro D L; kernel_rfl
 have h2 := via (k := k) h
 refine h2.trans ?_
 simp only [a0]
 first | rfl | kernel_rfl
def l0 {α : Type} (k : Nat) (Xt0 : D0 -> D0 -> Option α) : Nat -> D0 -> Int -> D0 -> D0 -> Option α
 | 0, _, _, _, _ => none
 | n + 1, x1, x5, c2, c4 => l0s k (l0 k Xt0 n) Xt0 x1 x5 c2 c4
theorem l0_eq {α : Type} (k : Nat) (Q : Ex -> St -> Option α) : ∀ (n : Nat) (x1 : D0) (x5 : Int) (c2 c4 : D0), iter (rnd C k cd0 6 Q) n (St1 x1 x5 c2 c4) = l0 k (fun c2 c4 => Q (.exit 0) (St6 c2 c4)) n x1 x5 c2 c4
 | 0, _, _, _, _ => rfl
 | n + 1, x1, x5, c2, c4 => (iter_succ _ _ _).trans ((l0s_eq k _ Q x1 x5 c2 c4).trans (congrArg (fun N => l0s k N (fun c2 c4 => Q (.exit 0) (St6 c2 c4)) x1 x5 c2 c4) (by funext; exact l0_eq k Q n _ _ _ _)))
noncomputable def cd4 : Code := cR (cR (cB Tryd.f45))
def St7 (c2 c4 : D0) : St := stL 34 [(2, .ref 2 0 []), (4, .ref 4 0 [])] [(2, .cell T4 (.data T4 c2) false), (4, .cell T4 (.data T4 c4) false)]
def St8 (c4 : D0) : St := stL 34 [(4, .ref 4 0 [])] [(4, .cell T4 (.data T4 c4) false)]
def j2 {α : Type} (Rt : D0 -> Option α) (c2 c4 : D0) : Option α :=
 (basculeref_Turned.run c2).bind fun y1 =>
 Rt y1
theorem j2_eq {α : Type} (k : Nat) (Q : Ex -> St -> Option α) (c2 c4 : D0) :
  (den C k) cd4 Q (St7 c2 c4) = j2 (fun c4 => Q .ret (St8 c4)) c2 c4 := by
 have h : ∀ (D L : DT α), denJ D L Js C cd4 Q (St7 c2 c4) = j2 (fun c4 => Q .ret (St8 c4)) c2 c4 := by
  intro D L; kernel_rfl
 have h2 := via (k := k) h
 exact h2
theorem a1 {α : Type} (k : Nat) (Q : Ex -> St -> Option α) (x1 : D0) (x5 : Int) (c2 c4 : D0) :
  (lp C k) cd0 (blkQ C 0 (sq (den C k) (lp C k) Js C cd4 Q)) (St1 x1 x5 c2 c4) = l0 k (fun c2 c4 => j2 (fun c4 => Q .ret (St8 c4)) c2 c4) k x1 x5 c2 c4 :=
 (lp_iter 6 (by kernel_rfl)).trans ((l0_eq k _ k x1 x5 c2 c4).trans (congrArg (fun X => l0 k X k x1 x5 c2 c4) (funext fun c2 => funext fun c4 => (Eq.trans (b := (den C k) cd4 Q (St7 c2 c4)) (by kernel_rfl) (by simp only [j2_eq])))))
def top {α : Type} (k : Nat) (Rt : D0 -> Option α) (x0 x1 : D0) : Option α :=
 l0 k (fun c2 c4 => j2 Rt c2 c4) k x1 0 x0 (List.replicate 25 0)
theorem top_eq {α : Type} (k : Nat) (Q : Ex -> St -> Option α) (x0 x1 : D0) :
  (den C k) (cB Tryd.f45) Q (St0 x0 x1) = top k (fun c4 => Q .ret (St8 c4)) x0 x1 := by
 have h : ∀ (D L : DT α), denJ D L Js C (cB Tryd.f45) Q (St0 x0 x1) =
    L cd0 (blkQ C 0 (sq D L Js C cd4 Q)) (St1 x1 0 x0 (List.replicate 25 0)) := by
  intro D L; kernel_rfl
 have h2 := via (k := k) h
 refine h2.trans ?_
 simp only [a1]
 first | rfl | kernel_rfl
def run (x0 x1 : D0) : Option D0 := top (α := List Int) fuel (fun c4 => some c4) x0 x1
def F : Fn := ⟨T17, T4, false, fun x => run x.1 x.2.1⟩
theorem con : Con Tryd.prog 45 F :=
 con_of (C := C) (ctx_ok (by kernel_rfl) (by kernel_rfl) (by kernel_rfl) (by kernel_rfl) ⟨.inl ⟨basculeref_Turned.con, basculeref_Turned.named⟩, trivial⟩) (by kernel_rfl) Tryd.func45 (c := cB Tryd.f45) (by kernel_rfl) (by kernel_rfl) F (fun x => by simp [F, spread, Tryd.ntmps45]) (fun x => (St0 x.1 x.2.1)) (fun x => by kernel_rfl) fun x => (top_eq fuel _ x.1 x.2.1).trans (by kernel_rfl)
theorem named : Named Tryd.prog 45 := named_of Tryd.func45 (by kernel_rfl) (by kernel_rfl)
end Go.Bx.basculeref_soaked
namespace Go.Bx.basculeref_Soaked
def Js : List Nat := [9, 14]
def C : Ctx := ⟨[(3, T1), (5, T9), (9, .str), (23, T4), (26, T12), (28, T13), (29, T10), (30, T1)], [], [], fnL [(44, basculeref_badSponge.F), (45, basculeref_soaked.F)], noSh, [], invL [], [(2, [4, 5]), (7, [4, 9]), (10, [4, 7, 9, 10]), (1, [4, 7, 8]), (4, [4, 7, 8]), (18, [4, 7, 8]), (24, [4, 7, 8]), (30, [4, 7, 9, 10]), (39, [4, 9])], [], [], 0, 0⟩
def St0 (x0 : D1) (x1 : D0) : St := stL 52 [(0, .data T13 x0), (1, .data T10 x1)] []
def St1 (x5 : Int) (c4 : D1) : St := stL 52 [(4, .ref 4 0 []), (5, .data T1 x5)] [(4, .cell T13 (.data T13 c4) false)]
def St2 (x7 : D0) (c4 : D1) (c8 : D0) : St := stL 52 [(4, .ref 4 0 []), (7, .data .str x7), (8, .ref 8 0 [])] [(4, .cell T13 (.data T13 c4) false), (8, .cell T4 (.data T4 c8) false)]
noncomputable def cd0 : Code := cL (cL (cL (cR (cR (cR (cR (cR (cB Tryd.f15))))))))
def St3 (x7 : D0) (c4 : D1) (c8 : D0) : St := stL 52 [(4, .ref 4 0 []), (7, .data .str x7), (8, .ref 8 0 [])] [(4, .cell T13 (.data T13 c4) false), (8, .cell T4 (.data T4 c8) false)]
def l0s {α : Type} (Nx : D0 -> D1 -> D0 -> Option α) (Xt0 : D0 -> D1 -> D0 -> Option α) (x7 : D0) (c4 : D1) (c8 : D0) : Option α :=
 if (decide ((x7.length : Int) >= 136)) = true then
  if 0 <= (0 : Int) /\ (0 : Int) <= (136 : Int) /\ (136 : Int) <= (x7.length : Int) then
   (basculeref_soaked.run c8 (cutL x7 0 136)).bind fun y2 =>
   if 0 <= (136 : Int) /\ (136 : Int) <= (x7.length : Int) /\ (x7.length : Int) <= (x7.length : Int) then
    Nx (cutL x7 136 (x7.length : Int)) c4 y2
   else none
  else none
 else
  Xt0 x7 c4 c8
theorem l0s_eq {α : Type} (k : Nat) (next : St -> Option α) (Q : Ex -> St -> Option α) (x7 : D0) (c4 : D1) (c8 : D0) :
  rnd C k cd0 18 Q next (St2 x7 c4 c8) = l0s (fun x7 c4 c8 => next (St2 x7 c4 c8)) (fun x7 c4 c8 => Q (.exit 0) (St3 x7 c4 c8)) x7 c4 c8 := by
 have h : ∀ (D L : DT α), denJ D L Js C cd0 (lq C 18 next Q) (St2 x7 c4 c8) = l0s (fun x7 c4 c8 => next (St2 x7 c4 c8)) (fun x7 c4 c8 => Q (.exit 0) (St3 x7 c4 c8)) x7 c4 c8 := by
  intro D L; kernel_rfl
 have h2 := via (k := k) h
 exact h2
def l0 {α : Type} (k : Nat) (Xt0 : D0 -> D1 -> D0 -> Option α) : Nat -> D0 -> D1 -> D0 -> Option α
 | 0, _, _, _ => none
 | n + 1, x7, c4, c8 => l0s (l0 k Xt0 n) Xt0 x7 c4 c8
theorem l0_eq {α : Type} (k : Nat) (Q : Ex -> St -> Option α) : ∀ (n : Nat) (x7 : D0) (c4 : D1) (c8 : D0), iter (rnd C k cd0 18 Q) n (St2 x7 c4 c8) = l0 k (fun x7 c4 c8 => Q (.exit 0) (St3 x7 c4 c8)) n x7 c4 c8
 | 0, _, _, _ => rfl
 | n + 1, x7, c4, c8 => (iter_succ _ _ _).trans ((l0s_eq k _ Q x7 c4 c8).trans (congrArg (fun N => l0s N (fun x7 c4 c8 => Q (.exit 0) (St3 x7 c4 c8)) x7 c4 c8) (by funext; exact l0_eq k Q n _ _ _)))
noncomputable def cd1 : Code := cR (cR (cR (cR (cR (cR (cB Tryd.f15))))))
def St4 (x7 : D0) (c4 : D1) (c8 : D0) : St := stL 52 [(4, .ref 4 0 []), (7, .data .str x7), (8, .ref 8 0 [])] [(4, .cell T13 (.data T13 c4) false), (8, .cell T4 (.data T4 c8) false)]
def St5 (x7 : D0) (x10 : Int) (c4 c9 : D1) : St := stL 52 [(4, .ref 4 0 []), (7, .data .str x7), (9, .ref 9 0 []), (10, .data T1 x10)] [(4, .cell T13 (.data T13 c4) false), (9, .cell T13 (.data T13 c9) false)]
noncomputable def cd2 : Code := cL (cL (cR (cL (cR (cR (cR (cR (cR (cR (cR (cB Tryd.f15)))))))))))
def St6 (c4 c9 : D1) : St := stL 52 [(4, .ref 4 0 []), (9, .ref 9 0 [])] [(4, .cell T13 (.data T13 c4) false), (9, .cell T13 (.data T13 c9) false)]
def l1s {α : Type} (Nx : D0 -> Int -> D1 -> D1 -> Option α) (Xt2 : D1 -> D1 -> Option α) (x7 : D0) (x10 : Int) (c4 c9 : D1) : Option α :=
 if (decide (x10 < (x7.length : Int))) = true then
  if 0 <= x10 /\ x10 < (x7.length : Int) then
   if 0 <= x10 /\ x10 < (136 : Int) then
    Nx x7 (IntKind.i64.wrap (x10 + 1)) c4 (c9.1, (List.set c9.2.1 (Int.toNat x10) (List.getD x7 (Int.toNat x10) 0)), c9.2.2)
   else none
  else none
 else
  Xt2 c4 c9
theorem l1s_eq {α : Type} (k : Nat) (next : St -> Option α) (Q : Ex -> St -> Option α) (x7 : D0) (x10 : Int) (c4 c9 : D1) :
  rnd C k cd2 30 Q next (St5 x7 x10 c4 c9) = l1s (fun x7 x10 c4 c9 => next (St5 x7 x10 c4 c9)) (fun c4 c9 => Q (.exit 2) (St6 c4 c9)) x7 x10 c4 c9 := by
 have h : ∀ (D L : DT α), denJ D L Js C cd2 (lq C 30 next Q) (St5 x7 x10 c4 c9) = l1s (fun x7 x10 c4 c9 => next (St5 x7 x10 c4 c9)) (fun c4 c9 => Q (.exit 2) (St6 c4 c9)) x7 x10 c4 c9 := by
  intro D L; kernel_rfl
 have h2 := via (k := k) h
 exact h2
def l1 {α : Type} (k : Nat) (Xt2 : D1 -> D1 -> Option α) : Nat -> D0 -> Int -> D1 -> D1 -> Option α
 | 0, _, _, _, _ => none
 | n + 1, x7, x10, c4, c9 => l1s (l1 k Xt2 n) Xt2 x7 x10 c4 c9
theorem l1_eq {α : Type} (k : Nat) (Q : Ex -> St -> Option α) : ∀ (n : Nat) (x7 : D0) (x10 : Int) (c4 c9 : D1), iter (rnd C k cd2 30 Q) n (St5 x7 x10 c4 c9) = l1 k (fun c4 c9 => Q (.exit 2) (St6 c4 c9)) n x7 x10 c4 c9
 | 0, _, _, _, _ => rfl
 | n + 1, x7, x10, c4, c9 => (iter_succ _ _ _).trans ((l1s_eq k _ Q x7 x10 c4 c9).trans (congrArg (fun N => l1s N (fun c4 c9 => Q (.exit 2) (St6 c4 c9)) x7 x10 c4 c9) (by funext; exact l1_eq k Q n _ _ _ _)))
noncomputable def cd3 : Code := cR (cR (cR (cR (cR (cR (cR (cR (cB Tryd.f15))))))))
def St7 (c4 c9 : D1) : St := stL 52 [(4, .ref 4 0 []), (9, .ref 9 0 [])] [(4, .cell T13 (.data T13 c4) false), (9, .cell T13 (.data T13 c9) false)]
def j1 {α : Type} (Rt : Int -> D1 -> Option α) (c4 c9 : D1) : Option α :=
 Rt 0 c9
theorem j1_eq {α : Type} (k : Nat) (Q : Ex -> St -> Option α) (c4 c9 : D1) :
  (den C k) cd3 Q (St7 c4 c9) = j1 (fun x5 c4 => Q .ret (St1 x5 c4)) c4 c9 := by
 have h : ∀ (D L : DT α), denJ D L Js C cd3 Q (St7 c4 c9) = j1 (fun x5 c4 => Q .ret (St1 x5 c4)) c4 c9 := by
  intro D L; kernel_rfl
 have h2 := via (k := k) h
 exact h2
theorem a0 {α : Type} (k : Nat) (Q : Ex -> St -> Option α) (x7 : D0) (x10 : Int) (c4 c9 : D1) :
  (lp C k) cd2 (blkQ C 2 (sq (den C k) (lp C k) Js C cd3 Q)) (St5 x7 x10 c4 c9) = l1 k (fun c4 c9 => j1 (fun x5 c4 => Q .ret (St1 x5 c4)) c4 c9) k x7 x10 c4 c9 :=
 (lp_iter 30 (by kernel_rfl)).trans ((l1_eq k _ k x7 x10 c4 c9).trans (congrArg (fun X => l1 k X k x7 x10 c4 c9) (funext fun c4 => funext fun c9 => (Eq.trans (b := (den C k) cd3 Q (St7 c4 c9)) (by kernel_rfl) (by simp only [j1_eq])))))
def j0 {α : Type} (k : Nat) (Rt : Int -> D1 -> Option α) (x7 : D0) (c4 : D1) (c8 : D0) : Option α :=
 l1 k (fun c4 c9 => j1 Rt c4 c9) k x7 0 c4 (c8, (List.replicate 136 0), (x7.length : Int), ())
theorem j0_eq {α : Type} (k : Nat) (Q : Ex -> St -> Option α) (x7 : D0) (c4 : D1) (c8 : D0) :
  (den C k) cd1 Q (St4 x7 c4 c8) = j0 k (fun x5 c4 => Q .ret (St1 x5 c4)) x7 c4 c8 := by
 have h : ∀ (D L : DT α), denJ D L Js C cd1 Q (St4 x7 c4 c8) =
    L cd2 (blkQ C 2 (sq D L Js C cd3 Q)) (St5 x7 0 c4 (c8, (List.replicate 136 0), (x7.length : Int), ())) := by
  intro D L; kernel_rfl
 have h2 := via (k := k) h
 refine h2.trans ?_
 simp only [a0]
 first | rfl | kernel_rfl
theorem a1 {α : Type} (k : Nat) (Q : Ex -> St -> Option α) (x7 : D0) (c4 : D1) (c8 : D0) :
  (lp C k) cd0 (blkQ C 0 (sq (den C k) (lp C k) Js C cd1 Q)) (St2 x7 c4 c8) = l0 k (fun x7 c4 c8 => j0 k (fun x5 c4 => Q .ret (St1 x5 c4)) x7 c4 c8) k x7 c4 c8 :=
 (lp_iter 18 (by kernel_rfl)).trans ((l0_eq k _ k x7 c4 c8).trans (congrArg (fun X => l0 k X k x7 c4 c8) (funext fun x7 => funext fun c4 => funext fun c8 => (Eq.trans (b := (den C k) cd1 Q (St4 x7 c4 c8)) (by kernel_rfl) (by simp only [j0_eq])))))
def top {α : Type} (k : Nat) (Rt : Int -> D1 -> Option α) (x0 : D1) (x1 : D0) : Option α :=
 (basculeref_badSponge.run x0).bind fun y1 =>
 if y1 = true then
  Rt 12 ((List.replicate 25 0), (List.replicate 136 0), 0, ())
 else
  if 0 <= (0 : Int) /\ (0 : Int) <= x0.2.2.1 /\ x0.2.2.1 <= ((cutL x0.2.1 0 136).length : Int) then
   if Nat.ble ((cutL (cutL x0.2.1 0 136) 0 x0.2.2.1).length + x1.length) 9223372036854775807 = true then
    l0 k (fun x7 c4 c8 => j0 k Rt x7 c4 c8) k ((cutL (cutL x0.2.1 0 136) 0 x0.2.2.1) ++ x1) ((List.replicate 25 0), (List.replicate 136 0), 0, ()) x0.1
   else none
  else none
theorem top_eq {α : Type} (k : Nat) (Q : Ex -> St -> Option α) (x0 : D1) (x1 : D0) :
  (den C k) (cB Tryd.f15) Q (St0 x0 x1) = top k (fun x5 c4 => Q .ret (St1 x5 c4)) x0 x1 := by
 have h : ∀ (D L : DT α), denJ D L Js C (cB Tryd.f15) Q (St0 x0 x1) =
    (basculeref_badSponge.run x0).bind fun y1 =>
    if y1 = true then
     Q .ret (St1 12 ((List.replicate 25 0), (List.replicate 136 0), 0, ()))
    else
     if 0 <= (0 : Int) /\ (0 : Int) <= x0.2.2.1 /\ x0.2.2.1 <= ((cutL x0.2.1 0 136).length : Int) then
      if Nat.ble ((cutL (cutL x0.2.1 0 136) 0 x0.2.2.1).length + x1.length) 9223372036854775807 = true then
       L cd0 (blkQ C 0 (sq D L Js C cd1 Q)) (St2 ((cutL (cutL x0.2.1 0 136) 0 x0.2.2.1) ++ x1) ((List.replicate 25 0), (List.replicate 136 0), 0, ()) x0.1)
      else none
     else none := by
  intro D L; kernel_rfl
 have h2 := via (k := k) h
 refine h2.trans ?_
 simp only [a1]
 first | rfl | kernel_rfl
def run (x0 : D1) (x1 : D0) : Option D2 := top (α := D1 × Int × Unit) fuel (fun x5 c4 => some (c4, x5, ())) x0 x1
def F : Fn := ⟨T15, T16, true, fun x => run x.1 x.2.1⟩
theorem con : Con Tryd.prog 15 F :=
 con_of (C := C) (ctx_ok (by kernel_rfl) (by kernel_rfl) (by kernel_rfl) (by kernel_rfl) ⟨.inl ⟨basculeref_badSponge.con, basculeref_badSponge.named⟩, ⟨.inl ⟨basculeref_soaked.con, basculeref_soaked.named⟩, trivial⟩⟩) (by kernel_rfl) Tryd.func15 (c := cB Tryd.f15) (by kernel_rfl) (by kernel_rfl) F (fun x => by simp [F, spread, Tryd.ntmps15]) (fun x => (St0 x.1 x.2.1)) (fun x => by kernel_rfl) fun x => (top_eq fuel _ x.1 x.2.1).trans (by kernel_rfl)
theorem named : Named Tryd.prog 15 := named_of Tryd.func15 (by kernel_rfl) (by kernel_rfl)
end Go.Bx.basculeref_Soaked
namespace Go.Bx.basculeref_Wrung
def Js : List Nat := [14]
def C : Ctx := ⟨[(3, T1), (5, T9), (9, .str), (22, T2), (23, T4), (26, T12), (28, T13), (29, T10), (30, T1), (35, T18)], [], [], fnL [(44, basculeref_badSponge.F), (45, basculeref_soaked.F)], noSh, [], invL [], [(2, [2, 3]), (1, [2, 6]), (4, [2, 5, 6, 28]), (27, [2, 5, 6, 28]), (39, [2, 6])], [], [], 0, 0⟩
def St0 (x0 : D1) : St := stL 44 [(0, .data T13 x0)] []
def St1 (x3 : Int) (c2 : D0) : St := stL 44 [(2, .ref 2 0 []), (3, .data T1 x3)] [(2, .cell T18 (.data T18 c2) false)]
def St2 (x28 : Int) (c2 c5 c6 : D0) : St := stL 44 [(2, .ref 2 0 []), (5, .ref 5 0 []), (6, .ref 6 0 []), (28, .data T1 x28)] [(2, .cell T18 (.data T18 c2) false), (5, .cell T4 (.data T4 c5) false), (6, .cell T18 (.data T18 c6) false)]
noncomputable def cd0 : Code := cL (cL (cR (cL (cR (cR (cR (cR (cR (cR (cR (cB Tryd.f18)))))))))))
def St3 (c2 c6 : D0) : St := stL 44 [(2, .ref 2 0 []), (6, .ref 6 0 [])] [(2, .cell T18 (.data T18 c2) false), (6, .cell T18 (.data T18 c6) false)]
def l0s {α : Type} (Nx : Int -> D0 -> D0 -> D0 -> Option α) (Xt0 : D0 -> D0 -> Option α) (x28 : Int) (c2 c5 c6 : D0) : Option α :=
 if (decide (x28 < 32)) = true then
  if 0 <= (IntKind.i64.wrap (Int.tdiv x28 8)) /\ (IntKind.i64.wrap (Int.tdiv x28 8)) < (25 : Int) then
   if 0 <= (IntKind.i64.wrap ((Int.tmod x28 8) * 8)) then
    if 0 <= x28 /\ x28 < (32 : Int) then
     Nx (IntKind.i64.wrap (x28 + 1)) c2 c5 (List.set c6 (Int.toNat x28) (IntKind.u8.wrap (shrI .u64 (List.getD c5 (Int.toNat (IntKind.i64.wrap (Int.tdiv x28 8))) 0) (IntKind.i64.wrap ((Int.tmod x28 8) * 8)))))
    else none
   else none
  else none
 else
  Xt0 c2 c6
theorem l0s_eq {α : Type} (k : Nat) (next : St -> Option α) (Q : Ex -> St -> Option α) (x28 : Int) (c2 c5 c6 : D0) :
  rnd C k cd0 27 Q next (St2 x28 c2 c5 c6) = l0s (fun x28 c2 c5 c6 => next (St2 x28 c2 c5 c6)) (fun c2 c6 => Q (.exit 0) (St3 c2 c6)) x28 c2 c5 c6 := by
 have h : ∀ (D L : DT α), denJ D L Js C cd0 (lq C 27 next Q) (St2 x28 c2 c5 c6) = l0s (fun x28 c2 c5 c6 => next (St2 x28 c2 c5 c6)) (fun c2 c6 => Q (.exit 0) (St3 c2 c6)) x28 c2 c5 c6 := by
  intro D L; kernel_rfl
 have h2 := via (k := k) h
 exact h2
def l0 {α : Type} (k : Nat) (Xt0 : D0 -> D0 -> Option α) : Nat -> Int -> D0 -> D0 -> D0 -> Option α
 | 0, _, _, _, _ => none
 | n + 1, x28, c2, c5, c6 => l0s (l0 k Xt0 n) Xt0 x28 c2 c5 c6
theorem l0_eq {α : Type} (k : Nat) (Q : Ex -> St -> Option α) : ∀ (n : Nat) (x28 : Int) (c2 c5 c6 : D0), iter (rnd C k cd0 27 Q) n (St2 x28 c2 c5 c6) = l0 k (fun c2 c6 => Q (.exit 0) (St3 c2 c6)) n x28 c2 c5 c6
 | 0, _, _, _, _ => rfl
 | n + 1, x28, c2, c5, c6 => (iter_succ _ _ _).trans ((l0s_eq k _ Q x28 c2 c5 c6).trans (congrArg (fun N => l0s N (fun c2 c6 => Q (.exit 0) (St3 c2 c6)) x28 c2 c5 c6) (by funext; exact l0_eq k Q n _ _ _ _)))
noncomputable def cd1 : Code := cR (cR (cR (cR (cR (cR (cR (cR (cB Tryd.f18))))))))
def St4 (c2 c6 : D0) : St := stL 44 [(2, .ref 2 0 []), (6, .ref 6 0 [])] [(2, .cell T18 (.data T18 c2) false), (6, .cell T18 (.data T18 c6) false)]
def j0 {α : Type} (Rt : Int -> D0 -> Option α) (c2 c6 : D0) : Option α :=
 Rt 0 c6
theorem j0_eq {α : Type} (k : Nat) (Q : Ex -> St -> Option α) (c2 c6 : D0) :
  (den C k) cd1 Q (St4 c2 c6) = j0 (fun x3 c2 => Q .ret (St1 x3 c2)) c2 c6 := by
 have h : ∀ (D L : DT α), denJ D L Js C cd1 Q (St4 c2 c6) = j0 (fun x3 c2 => Q .ret (St1 x3 c2)) c2 c6 := by
  intro D L; kernel_rfl
 have h2 := via (k := k) h
 exact h2
theorem a0 {α : Type} (k : Nat) (Q : Ex -> St -> Option α) (x28 : Int) (c2 c5 c6 : D0) :
  (lp C k) cd0 (blkQ C 0 (sq (den C k) (lp C k) Js C cd1 Q)) (St2 x28 c2 c5 c6) = l0 k (fun c2 c6 => j0 (fun x3 c2 => Q .ret (St1 x3 c2)) c2 c6) k x28 c2 c5 c6 :=
 (lp_iter 27 (by kernel_rfl)).trans ((l0_eq k _ k x28 c2 c5 c6).trans (congrArg (fun X => l0 k X k x28 c2 c5 c6) (funext fun c2 => funext fun c6 => (Eq.trans (b := (den C k) cd1 Q (St4 c2 c6)) (by kernel_rfl) (by simp only [j0_eq])))))
def top {α : Type} (k : Nat) (Rt : Int -> D0 -> Option α) (x0 : D1) : Option α :=
 (basculeref_badSponge.run x0).bind fun y1 =>
 if y1 = true then
  Rt 12 (List.replicate 32 0)
 else
  if 0 <= x0.2.2.1 /\ x0.2.2.1 < (136 : Int) then
   if 0 <= x0.2.2.1 /\ x0.2.2.1 < (136 : Int) then
    (basculeref_soaked.run x0.1 (cutL (List.set (List.set x0.2.1 (Int.toNat x0.2.2.1) (bxor .u8 (List.getD x0.2.1 (Int.toNat x0.2.2.1) 0) 1)) 135 (bxor .u8 (List.getD (List.set x0.2.1 (Int.toNat x0.2.2.1) (bxor .u8 (List.getD x0.2.1 (Int.toNat x0.2.2.1) 0) 1)) 135 0) 128)) 0 136)).bind fun y2 =>
    l0 k (fun c2 c6 => j0 Rt c2 c6) k 0 (List.replicate 32 0) y2 (List.replicate 32 0)
   else none
  else none
theorem top_eq {α : Type} (k : Nat) (Q : Ex -> St -> Option α) (x0 : D1) :
  (den C k) (cB Tryd.f18) Q (St0 x0) = top k (fun x3 c2 => Q .ret (St1 x3 c2)) x0 := by
 have h : ∀ (D L : DT α), denJ D L Js C (cB Tryd.f18) Q (St0 x0) =
    (basculeref_badSponge.run x0).bind fun y1 =>
    if y1 = true then
     Q .ret (St1 12 (List.replicate 32 0))
    else
     if 0 <= x0.2.2.1 /\ x0.2.2.1 < (136 : Int) then
      if 0 <= x0.2.2.1 /\ x0.2.2.1 < (136 : Int) then
       (basculeref_soaked.run x0.1 (cutL (List.set (List.set x0.2.1 (Int.toNat x0.2.2.1) (bxor .u8 (List.getD x0.2.1 (Int.toNat x0.2.2.1) 0) 1)) 135 (bxor .u8 (List.getD (List.set x0.2.1 (Int.toNat x0.2.2.1) (bxor .u8 (List.getD x0.2.1 (Int.toNat x0.2.2.1) 0) 1)) 135 0) 128)) 0 136)).bind fun y2 =>
       L cd0 (blkQ C 0 (sq D L Js C cd1 Q)) (St2 0 (List.replicate 32 0) y2 (List.replicate 32 0))
      else none
     else none := by
  intro D L; kernel_rfl
 have h2 := via (k := k) h
 refine h2.trans ?_
 simp only [a0]
 first | rfl | kernel_rfl
def run (x0 : D1) : Option D3 := top (α := List Int × Int × Unit) fuel (fun x3 c2 => some (c2, x3, ())) x0
def F : Fn := ⟨T14, T19, true, fun x => run x.1⟩
theorem con : Con Tryd.prog 18 F :=
 con_of (C := C) (ctx_ok (by kernel_rfl) (by kernel_rfl) (by kernel_rfl) (by kernel_rfl) ⟨.inl ⟨basculeref_badSponge.con, basculeref_badSponge.named⟩, ⟨.inl ⟨basculeref_soaked.con, basculeref_soaked.named⟩, trivial⟩⟩) (by kernel_rfl) Tryd.func18 (c := cB Tryd.f18) (by kernel_rfl) (by kernel_rfl) F (fun x => by simp [F, spread, Tryd.ntmps18]) (fun x => (St0 x.1)) (fun x => by kernel_rfl) fun x => (top_eq fuel _ x.1).trans (by kernel_rfl)
theorem named : Named Tryd.prog 18 := named_of Tryd.func18 (by kernel_rfl) (by kernel_rfl)
end Go.Bx.basculeref_Wrung
namespace Go.Bx.basculeref_Hash
def Js : List Nat := []
def C : Ctx := ⟨[(9, .str), (28, T13), (29, T10), (35, T18)], [], [], fnL [(15, basculeref_Soaked.F), (18, basculeref_Wrung.F)], noSh, [], invL [], [(2, [2])], [], [], 0, 0⟩
def St0 (x0 : D0) : St := stL 20 [(0, .data .str x0)] []
def St1 (c2 : D0) : St := stL 20 [(2, .ref 2 0 [])] [(2, .cell T18 (.data T18 c2) false)]
def top {α : Type} (Rt : D0 -> Option α) (x0 : D0) : Option α :=
 (basculeref_Soaked.run ((List.replicate 25 0), (List.replicate 136 0), 0, ()) x0).bind fun y1 =>
 (basculeref_Wrung.run y1.1).bind fun y2 =>
 Rt y2.1
theorem top_eq {α : Type} (k : Nat) (Q : Ex -> St -> Option α) (x0 : D0) :
  (den C k) (cB Tryd.f20) Q (St0 x0) = top (fun c2 => Q .ret (St1 c2)) x0 := by
 have h : ∀ (D L : DT α), denJ D L Js C (cB Tryd.f20) Q (St0 x0) = top (fun c2 => Q .ret (St1 c2)) x0 := by
  intro D L; kernel_rfl
 have h2 := via (k := k) h
 exact h2
def run (x0 : D0) : Option D0 := top (α := List Int) (fun c2 => some c2) x0
def F : Fn := ⟨T21, T18, false, fun x => run x.1⟩
theorem con : Con Tryd.prog 20 F :=
 con_of (C := C) (ctx_ok (by kernel_rfl) (by kernel_rfl) (by kernel_rfl) (by kernel_rfl) ⟨.inl ⟨basculeref_Soaked.con, basculeref_Soaked.named⟩, ⟨.inl ⟨basculeref_Wrung.con, basculeref_Wrung.named⟩, trivial⟩⟩) (by kernel_rfl) Tryd.func20 (c := cB Tryd.f20) (by kernel_rfl) (by kernel_rfl) F (fun x => by simp [F, spread, Tryd.ntmps20]) (fun x => (St0 x.1)) (fun x => by kernel_rfl) fun x => (top_eq fuel _ x.1).trans (by kernel_rfl)
theorem named : Named Tryd.prog 20 := named_of Tryd.func20 (by kernel_rfl) (by kernel_rfl)
end Go.Bx.basculeref_Hash
namespace Go.Bx.basculeref_big
def Js : List Nat := [8]
def C : Ctx := ⟨[(3, T1), (5, T9), (9, .str), (22, T2), (29, T10)], [], [], fnL [], noSh, [], invL [], [(2, [4]), (1, [5]), (4, [0, 5, 6, 7]), (9, [0, 5, 6, 7]), (21, [5])], [], [], 0, 0⟩
def St0 (x0 x1 : Int) : St := stL 19 [(0, .data T2 x0), (1, .data T1 x1)] []
def St1 (x0 : Int) (x5 : D0) (x6 x7 : Int) : St := stL 19 [(0, .data T2 x0), (5, .data .str x5), (6, .data T1 x6), (7, .data T1 x7)] []
noncomputable def cd0 : Code := cL (cL (cR (cL (cR (cR (cB Tryd.f68))))))
def St2 (x5 : D0) : St := stL 19 [(5, .data .str x5)] []
def l0s {α : Type} (Nx : Int -> D0 -> Int -> Int -> Option α) (Xt0 : D0 -> Option α) (x0 : Int) (x5 : D0) (x6 x7 : Int) : Option α :=
 if (decide (x7 < x6)) = true then
  if Nat.ble (1 + x5.length) 9223372036854775807 = true then
   Nx (shrI .u64 x0 8) ([(IntKind.u8.wrap x0)] ++ x5) x6 (IntKind.i64.wrap (x7 + 1))
  else none
 else
  Xt0 x5
theorem l0s_eq {α : Type} (k : Nat) (next : St -> Option α) (Q : Ex -> St -> Option α) (x0 : Int) (x5 : D0) (x6 x7 : Int) :
  rnd C k cd0 9 Q next (St1 x0 x5 x6 x7) = l0s (fun x0 x5 x6 x7 => next (St1 x0 x5 x6 x7)) (fun x5 => Q (.exit 0) (St2 x5)) x0 x5 x6 x7 := by
 have h : ∀ (D L : DT α), denJ D L Js C cd0 (lq C 9 next Q) (St1 x0 x5 x6 x7) = l0s (fun x0 x5 x6 x7 => next (St1 x0 x5 x6 x7)) (fun x5 => Q (.exit 0) (St2 x5)) x0 x5 x6 x7 := by
  intro D L; kernel_rfl
 have h2 := via (k := k) h
 exact h2
def l0 {α : Type} (k : Nat) (Xt0 : D0 -> Option α) : Nat -> Int -> D0 -> Int -> Int -> Option α
 | 0, _, _, _, _ => none
 | n + 1, x0, x5, x6, x7 => l0s (l0 k Xt0 n) Xt0 x0 x5 x6 x7
theorem l0_eq {α : Type} (k : Nat) (Q : Ex -> St -> Option α) : ∀ (n : Nat) (x0 : Int) (x5 : D0) (x6 x7 : Int), iter (rnd C k cd0 9 Q) n (St1 x0 x5 x6 x7) = l0 k (fun x5 => Q (.exit 0) (St2 x5)) n x0 x5 x6 x7
 | 0, _, _, _, _ => rfl
 | n + 1, x0, x5, x6, x7 => (iter_succ _ _ _).trans ((l0s_eq k _ Q x0 x5 x6 x7).trans (congrArg (fun N => l0s N (fun x5 => Q (.exit 0) (St2 x5)) x0 x5 x6 x7) (by funext; exact l0_eq k Q n _ _ _ _)))
noncomputable def cd1 : Code := cR (cR (cR (cB Tryd.f68)))
def St3 (x5 : D0) : St := stL 19 [(5, .data .str x5)] []
def St4 (x4 : D0) : St := stL 19 [(4, .data .str x4)] []
def j0 {α : Type} (Rt : D0 -> Option α) (x5 : D0) : Option α :=
 Rt x5
theorem j0_eq {α : Type} (k : Nat) (Q : Ex -> St -> Option α) (x5 : D0) :
  (den C k) cd1 Q (St3 x5) = j0 (fun x4 => Q .ret (St4 x4)) x5 := by
 have h : ∀ (D L : DT α), denJ D L Js C cd1 Q (St3 x5) = j0 (fun x4 => Q .ret (St4 x4)) x5 := by
  intro D L; kernel_rfl
 have h2 := via (k := k) h
 exact h2
theorem a0 {α : Type} (k : Nat) (Q : Ex -> St -> Option α) (x0 : Int) (x5 : D0) (x6 x7 : Int) :
  (lp C k) cd0 (blkQ C 0 (sq (den C k) (lp C k) Js C cd1 Q)) (St1 x0 x5 x6 x7) = l0 k (fun x5 => j0 (fun x4 => Q .ret (St4 x4)) x5) k x0 x5 x6 x7 :=
 (lp_iter 9 (by kernel_rfl)).trans ((l0_eq k _ k x0 x5 x6 x7).trans (congrArg (fun X => l0 k X k x0 x5 x6 x7) (funext fun x5 => (Eq.trans (b := (den C k) cd1 Q (St3 x5)) (by kernel_rfl) (by simp only [j0_eq])))))
def top {α : Type} (k : Nat) (Rt : D0 -> Option α) (x0 x1 : Int) : Option α :=
 l0 k (fun x5 => j0 Rt x5) k x0 [] x1 0
theorem top_eq {α : Type} (k : Nat) (Q : Ex -> St -> Option α) (x0 x1 : Int) :
  (den C k) (cB Tryd.f68) Q (St0 x0 x1) = top k (fun x4 => Q .ret (St4 x4)) x0 x1 := by
 have h : ∀ (D L : DT α), denJ D L Js C (cB Tryd.f68) Q (St0 x0 x1) =
    L cd0 (blkQ C 0 (sq D L Js C cd1 Q)) (St1 x0 [] x1 0) := by
  intro D L; kernel_rfl
 have h2 := via (k := k) h
 refine h2.trans ?_
 simp only [a0]
 first | rfl | kernel_rfl
def run (x0 x1 : Int) : Option D0 := top (α := List Int) fuel (fun x4 => some x4) x0 x1
def F : Fn := ⟨T3, .str, false, fun x => run x.1 x.2.1⟩
theorem con : Con Tryd.prog 68 F :=
 con_of (C := C) (ctx_ok (by kernel_rfl) (by kernel_rfl) (by kernel_rfl) (by kernel_rfl) trivial) (by kernel_rfl) Tryd.func68 (c := cB Tryd.f68) (by kernel_rfl) (by kernel_rfl) F (fun x => by simp [F, spread, Tryd.ntmps68]) (fun x => (St0 x.1 x.2.1)) (fun x => by kernel_rfl) fun x => (top_eq fuel _ x.1 x.2.1).trans (by kernel_rfl)
theorem named : Named Tryd.prog 68 := named_of Tryd.func68 (by kernel_rfl) (by kernel_rfl)
end Go.Bx.basculeref_big
namespace Go.Bx.basculeref_text
def Js : List Nat := []
def C : Ctx := ⟨[(9, .str), (22, T2), (56, T32)], [], [], fnL [(68, basculeref_big.F)], noSh, [], invL [], [(2, [2])], [], [], 0, 0⟩
def St0 (x0 : D0) : St := stL 18 [(0, .data T32 x0)] []
def St1 (x2 : D0) : St := stL 18 [(2, .data .str x2)] []
def top {α : Type} (Rt : D0 -> Option α) (x0 : D0) : Option α :=
 (basculeref_big.run (List.getD x0 3 0) 8).bind fun y1 =>
 (basculeref_big.run (List.getD x0 2 0) 8).bind fun y2 =>
 if Nat.ble (y1.length + y2.length) 9223372036854775807 = true then
  (basculeref_big.run (List.getD x0 1 0) 8).bind fun y3 =>
  if Nat.ble ((y1 ++ y2).length + y3.length) 9223372036854775807 = true then
   (basculeref_big.run (List.getD x0 0 0) 8).bind fun y4 =>
   if Nat.ble (((y1 ++ y2) ++ y3).length + y4.length) 9223372036854775807 = true then
    Rt (((y1 ++ y2) ++ y3) ++ y4)
   else none
  else none
 else none
theorem top_eq {α : Type} (k : Nat) (Q : Ex -> St -> Option α) (x0 : D0) :
  (den C k) (cB Tryd.f60) Q (St0 x0) = top (fun x2 => Q .ret (St1 x2)) x0 := by
 have h : ∀ (D L : DT α), denJ D L Js C (cB Tryd.f60) Q (St0 x0) = top (fun x2 => Q .ret (St1 x2)) x0 := by
  intro D L; kernel_rfl
 have h2 := via (k := k) h
 exact h2
def run (x0 : D0) : Option D0 := top (α := List Int) (fun x2 => some x2) x0
def F : Fn := ⟨T35, .str, false, fun x => run x.1⟩
theorem con : Con Tryd.prog 60 F :=
 con_of (C := C) (ctx_ok (by kernel_rfl) (by kernel_rfl) (by kernel_rfl) (by kernel_rfl) ⟨.inl ⟨basculeref_big.con, basculeref_big.named⟩, trivial⟩) (by kernel_rfl) Tryd.func60 (c := cB Tryd.f60) (by kernel_rfl) (by kernel_rfl) F (fun x => by simp [F, spread, Tryd.ntmps60]) (fun x => (St0 x.1)) (fun x => by kernel_rfl) fun x => (top_eq fuel _ x.1).trans (by kernel_rfl)
theorem named : Named Tryd.prog 60 := named_of Tryd.func60 (by kernel_rfl) (by kernel_rfl)
end Go.Bx.basculeref_text
namespace Go.Bx.basculeref_FromBytes
def Js : List Nat := [8]
def C : Ctx := ⟨[(5, T9), (22, T2), (35, T18), (56, T32)], [], [], fnL [], noSh, [], invL [], [(2, [2]), (1, [2, 3]), (4, [2, 3, 6, 7]), (9, [2, 3, 6, 7]), (21, [2, 3])], [], [], 0, 0⟩
def St0 (x0 : D0) : St := stL 26 [(0, .data T18 x0)] []
def St1 (x6 : D0) (x7 : Int) (c2 c3 : D0) : St := stL 26 [(2, .ref 2 0 []), (3, .ref 3 0 []), (6, .data T18 x6), (7, .data T1 x7)] [(2, .cell T32 (.data T32 c2) false), (3, .cell T32 (.data T32 c3) false)]
noncomputable def cd0 : Code := cL (cL (cR (cL (cR (cR (cB Tryd.f67))))))
def St2 (c2 c3 : D0) : St := stL 26 [(2, .ref 2 0 []), (3, .ref 3 0 [])] [(2, .cell T32 (.data T32 c2) false), (3, .cell T32 (.data T32 c3) false)]
def l0s {α : Type} (Nx : D0 -> Int -> D0 -> D0 -> Option α) (Xt0 : D0 -> D0 -> Option α) (x6 : D0) (x7 : Int) (c2 c3 : D0) : Option α :=
 if (decide (x7 < 32)) = true then
  if 0 <= x7 /\ x7 < (32 : Int) then
   if 0 <= (IntKind.i64.wrap (3 - (IntKind.i64.wrap (Int.tdiv x7 8)))) /\ (IntKind.i64.wrap (3 - (IntKind.i64.wrap (Int.tdiv x7 8)))) < (4 : Int) then
    if 0 <= (IntKind.i64.wrap (3 - (IntKind.i64.wrap (Int.tdiv x7 8)))) /\ (IntKind.i64.wrap (3 - (IntKind.i64.wrap (Int.tdiv x7 8)))) < (4 : Int) then
     Nx x6 (IntKind.i64.wrap (x7 + 1)) c2 (List.set c3 (Int.toNat (IntKind.i64.wrap (3 - (IntKind.i64.wrap (Int.tdiv x7 8))))) (IntKind.u64.wrap ((IntKind.u64.wrap ((List.getD c3 (Int.toNat (IntKind.i64.wrap (3 - (IntKind.i64.wrap (Int.tdiv x7 8))))) 0) * 256)) + (IntKind.u64.wrap (List.getD x6 (Int.toNat x7) 0)))))
    else none
   else none
  else none
 else
  Xt0 c2 c3
theorem l0s_eq {α : Type} (k : Nat) (next : St -> Option α) (Q : Ex -> St -> Option α) (x6 : D0) (x7 : Int) (c2 c3 : D0) :
  rnd C k cd0 9 Q next (St1 x6 x7 c2 c3) = l0s (fun x6 x7 c2 c3 => next (St1 x6 x7 c2 c3)) (fun c2 c3 => Q (.exit 0) (St2 c2 c3)) x6 x7 c2 c3 := by
 have h : ∀ (D L : DT α), denJ D L Js C cd0 (lq C 9 next Q) (St1 x6 x7 c2 c3) = l0s (fun x6 x7 c2 c3 => next (St1 x6 x7 c2 c3)) (fun c2 c3 => Q (.exit 0) (St2 c2 c3)) x6 x7 c2 c3 := by
  intro D L; kernel_rfl
 have h2 := via (k := k) h
 exact h2
def l0 {α : Type} (k : Nat) (Xt0 : D0 -> D0 -> Option α) : Nat -> D0 -> Int -> D0 -> D0 -> Option α
 | 0, _, _, _, _ => none
 | n + 1, x6, x7, c2, c3 => l0s (l0 k Xt0 n) Xt0 x6 x7 c2 c3
theorem l0_eq {α : Type} (k : Nat) (Q : Ex -> St -> Option α) : ∀ (n : Nat) (x6 : D0) (x7 : Int) (c2 c3 : D0), iter (rnd C k cd0 9 Q) n (St1 x6 x7 c2 c3) = l0 k (fun c2 c3 => Q (.exit 0) (St2 c2 c3)) n x6 x7 c2 c3
 | 0, _, _, _, _ => rfl
 | n + 1, x6, x7, c2, c3 => (iter_succ _ _ _).trans ((l0s_eq k _ Q x6 x7 c2 c3).trans (congrArg (fun N => l0s N (fun c2 c3 => Q (.exit 0) (St2 c2 c3)) x6 x7 c2 c3) (by funext; exact l0_eq k Q n _ _ _ _)))
noncomputable def cd1 : Code := cR (cR (cR (cB Tryd.f67)))
def St3 (c2 c3 : D0) : St := stL 26 [(2, .ref 2 0 []), (3, .ref 3 0 [])] [(2, .cell T32 (.data T32 c2) false), (3, .cell T32 (.data T32 c3) false)]
def St4 (c2 : D0) : St := stL 26 [(2, .ref 2 0 [])] [(2, .cell T32 (.data T32 c2) false)]
def j0 {α : Type} (Rt : D0 -> Option α) (c2 c3 : D0) : Option α :=
 Rt c3
theorem j0_eq {α : Type} (k : Nat) (Q : Ex -> St -> Option α) (c2 c3 : D0) :
  (den C k) cd1 Q (St3 c2 c3) = j0 (fun c2 => Q .ret (St4 c2)) c2 c3 := by
 have h : ∀ (D L : DT α), denJ D L Js C cd1 Q (St3 c2 c3) = j0 (fun c2 => Q .ret (St4 c2)) c2 c3 := by
  intro D L; kernel_rfl
 have h2 := via (k := k) h
 exact h2
theorem a0 {α : Type} (k : Nat) (Q : Ex -> St -> Option α) (x6 : D0) (x7 : Int) (c2 c3 : D0) :
  (lp C k) cd0 (blkQ C 0 (sq (den C k) (lp C k) Js C cd1 Q)) (St1 x6 x7 c2 c3) = l0 k (fun c2 c3 => j0 (fun c2 => Q .ret (St4 c2)) c2 c3) k x6 x7 c2 c3 :=
 (lp_iter 9 (by kernel_rfl)).trans ((l0_eq k _ k x6 x7 c2 c3).trans (congrArg (fun X => l0 k X k x6 x7 c2 c3) (funext fun c2 => funext fun c3 => (Eq.trans (b := (den C k) cd1 Q (St3 c2 c3)) (by kernel_rfl) (by simp only [j0_eq])))))
def top {α : Type} (k : Nat) (Rt : D0 -> Option α) (x0 : D0) : Option α :=
 l0 k (fun c2 c3 => j0 Rt c2 c3) k x0 0 [0, 0, 0, 0] [0, 0, 0, 0]
theorem top_eq {α : Type} (k : Nat) (Q : Ex -> St -> Option α) (x0 : D0) :
  (den C k) (cB Tryd.f67) Q (St0 x0) = top k (fun c2 => Q .ret (St4 c2)) x0 := by
 have h : ∀ (D L : DT α), denJ D L Js C (cB Tryd.f67) Q (St0 x0) =
    L cd0 (blkQ C 0 (sq D L Js C cd1 Q)) (St1 x0 0 [0, 0, 0, 0] [0, 0, 0, 0]) := by
  intro D L; kernel_rfl
 have h2 := via (k := k) h
 refine h2.trans ?_
 simp only [a0]
 first | rfl | kernel_rfl
def run (x0 : D0) : Option D0 := top (α := List Int) fuel (fun c2 => some c2) x0
def F : Fn := ⟨T74, T32, false, fun x => run x.1⟩
theorem con : Con Tryd.prog 67 F :=
 con_of (C := C) (ctx_ok (by kernel_rfl) (by kernel_rfl) (by kernel_rfl) (by kernel_rfl) trivial) (by kernel_rfl) Tryd.func67 (c := cB Tryd.f67) (by kernel_rfl) (by kernel_rfl) F (fun x => by simp [F, spread, Tryd.ntmps67]) (fun x => (St0 x.1)) (fun x => by kernel_rfl) fun x => (top_eq fuel _ x.1).trans (by kernel_rfl)
theorem named : Named Tryd.prog 67 := named_of Tryd.func67 (by kernel_rfl) (by kernel_rfl)
end Go.Bx.basculeref_FromBytes
namespace Go.Bx.basculeref_Signed
def Js : List Nat := [14, 29, 31, 32, 33]
def C : Ctx := ⟨[(3, T1), (4, .bool), (9, .str), (22, T2), (29, T10), (30, T1), (35, T18), (56, T32), (58, T52), (60, T50), (68, T47), (119, T68)], [], [], fnL [(20, basculeref_Hash.F), (57, basculeref_CurveFault.F), (58, basculeref_mayBeSecret.F), (60, basculeref_text.F), (65, basculeref_rest.F), (66, basculeref_of.F), (67, basculeref_FromBytes.F), (68, basculeref_big.F), (69, basculeref_isZero.F), (70, basculeref_often.F), (71, basculeref_inverse.F), (72, basculeref_product.F), (73, basculeref_total.F), (74, basculeref_opposite.F), (75, basculeref_Order.F)], noSh, [], invL [], [(2, [6, 7]), (1, [6]), (4, [3, 4, 5, 6, 9, 36]), (24, [3, 4, 5, 6, 9, 36]), (39, [3, 4, 5, 6, 9, 11, 36]), (84, [3, 6, 12, 14, 16, 17]), (90, [6, 14, 16, 17]), (93, [3, 4, 5, 6, 9, 36]), (96, [6])], [], [], 0, 0⟩
def St0 (x0 : D13) (x1 x2 : D0) : St := stL 148 [(0, .data T50 x0), (1, .data T32 x1), (2, .data T18 x2)] []
def St1 (x7 : Int) (c6 : D1) : St := stL 148 [(6, .ref 6 0 []), (7, .data T1 x7)] [(6, .cell T47 (.data T47 c6) false)]
def St2 (x36 : Int) (c3 : D13) (c4 c5 : D0) (c6 : D1) (c9 : D0) : St := stL 148 [(3, .ref 3 0 []), (4, .ref 4 0 []), (5, .ref 5 0 []), (6, .ref 6 0 []), (9, .ref 9 0 []), (36, .data T1 x36)] [(3, .cell T50 (.data T50 c3) false), (4, .cell T32 (.data T32 c4) false), (5, .cell T18 (.data T18 c5) false), (6, .cell T47 (.data T47 c6) false), (9, .cell T32 (.data T32 c9) false)]
noncomputable def cd0 : Code := cL (cL (cR (cL (cR (cR (cR (cR (cB Tryd.f36))))))))
def St3 (x36 : Int) (c3 : D13) (c4 c5 : D0) (c6 : D1) (c9 c11 : D0) : St := stL 148 [(3, .ref 3 0 []), (4, .ref 4 0 []), (5, .ref 5 0 []), (6, .ref 6 0 []), (9, .ref 9 0 []), (11, .ref 11 0 []), (36, .data T1 x36)] [(3, .cell T50 (.data T50 c3) false), (4, .cell T32 (.data T32 c4) false), (5, .cell T18 (.data T18 c5) false), (6, .cell T47 (.data T47 c6) false), (9, .cell T32 (.data T32 c9) false), (11, .cell T32 (.data T32 c11) false)]
noncomputable def cd1 : Code := cR (cR (cR (cL (cL (cR (cL (cR (cR (cR (cR (cB Tryd.f36)))))))))))
noncomputable def cd2 : Code := cR (cR (cR (cL (cL (cR (cR (cL (cL (cR (cL (cR (cR (cR (cR (cB Tryd.f36)))))))))))))))
def St4 (x36 : Int) (c3 : D13) (c4 c5 : D0) (c6 : D1) (c9 : D0) : St := stL 148 [(3, .ref 3 0 []), (4, .ref 4 0 []), (5, .ref 5 0 []), (6, .ref 6 0 []), (9, .ref 9 0 []), (36, .data T1 x36)] [(3, .cell T50 (.data T50 c3) false), (4, .cell T32 (.data T32 c4) false), (5, .cell T18 (.data T18 c5) false), (6, .cell T47 (.data T47 c6) false), (9, .cell T32 (.data T32 c9) false)]
def j1 {α : Type} (Nx : Int -> D13 -> D0 -> D0 -> D1 -> D0 -> Option α) (x36 : Int) (c3 : D13) (c4 c5 : D0) (c6 : D1) (c9 : D0) : Option α :=
 Nx (IntKind.i64.wrap (x36 + 1)) c3 c4 c5 c6 c9
theorem j1_eq {α : Type} (k : Nat) (next : St -> Option α) (Q : Ex -> St -> Option α) (x36 : Int) (c3 : D13) (c4 c5 : D0) (c6 : D1) (c9 : D0) :
  (den C k) cd1 (lq C 24 next Q) (St4 x36 c3 c4 c5 c6 c9) = j1 (fun x36 c3 c4 c5 c6 c9 => next (St2 x36 c3 c4 c5 c6 c9)) x36 c3 c4 c5 c6 c9 := by
 have h : ∀ (D L : DT α), denJ D L Js C cd1 (lq C 24 next Q) (St4 x36 c3 c4 c5 c6 c9) = j1 (fun x36 c3 c4 c5 c6 c9 => next (St2 x36 c3 c4 c5 c6 c9)) x36 c3 c4 c5 c6 c9 := by
  intro D L; kernel_rfl
 have h2 := via (k := k) h
 exact h2
def St5 (x17 : Int) (c3 : D13) (c6 : D1) (c12 : D14) (c14 c16 : D0) : St := stL 148 [(3, .ref 3 0 []), (6, .ref 6 0 []), (12, .ref 12 0 []), (14, .ref 14 0 []), (16, .ref 16 0 []), (17, .data T1 x17)] [(3, .cell T50 (.data T50 c3) false), (6, .cell T47 (.data T47 c6) false), (12, .cell T52 (.data T52 c12) false), (14, .cell T32 (.data T32 c14) false), (16, .cell T32 (.data T32 c16) false)]
noncomputable def cd3 : Code := cR (cR (cR (cR (cR (cR (cR (cR (cR (cR (cR (cR (cR (cR (cL (cL (cR (cR (cL (cL (cR (cL (cR (cR (cR (cR (cB Tryd.f36))))))))))))))))))))))))))
def St6 (x17 : Int) (c6 : D1) (c14 c16 : D0) : St := stL 148 [(6, .ref 6 0 []), (14, .ref 14 0 []), (16, .ref 16 0 []), (17, .data T1 x17)] [(6, .cell T47 (.data T47 c6) false), (14, .cell T32 (.data T32 c14) false), (16, .cell T32 (.data T32 c16) false)]
noncomputable def cd4 : Code := cR (cR (cR (cR (cR (cR (cR (cR (cR (cR (cR (cR (cR (cR (cR (cL (cL (cR (cR (cL (cL (cR (cL (cR (cR (cR (cR (cB Tryd.f36)))))))))))))))))))))))))))
def j3 {α : Type} (Rt : Int -> D1 -> Option α) (x17 : Int) (c6 : D1) (c14 c16 : D0) : Option α :=
 Rt 0 (c14, c16, x17, ())
theorem j3_eq {α : Type} (k : Nat) (next : St -> Option α) (Q : Ex -> St -> Option α) (x17 : Int) (c6 : D1) (c14 c16 : D0) :
  (den C k) cd4 (blkQ C 1 (sq (den C k) (lp C k) Js C cd1 (lq C 24 next Q))) (St6 x17 c6 c14 c16) = j3 (fun x7 c6 => Q .ret (St1 x7 c6)) x17 c6 c14 c16 := by
 have h : ∀ (D L : DT α), denJ D L Js C cd4 (blkQ C 1 (sq D L Js C cd1 (lq C 24 next Q))) (St6 x17 c6 c14 c16) = j3 (fun x7 c6 => Q .ret (St1 x7 c6)) x17 c6 c14 c16 := by
  intro D L; kernel_rfl
 have h2 := via (k := k) h
 exact h2
def j2 {α : Type} (Rt : Int -> D1 -> Option α) (x17 : Int) (c3 : D13) (c6 : D1) (c12 : D14) (c14 c16 : D0) : Option α :=
 (basculeref_Order.run c12.1 c3.2.2.2.1).bind fun y27 =>
 if (decide (y27 >= 0)) = true then
  j3 Rt (IntKind.i64.wrap (x17 + 2)) c6 c14 c16
 else
  j3 Rt x17 c6 c14 c16
theorem j2_eq {α : Type} (k : Nat) (next : St -> Option α) (Q : Ex -> St -> Option α) (x17 : Int) (c3 : D13) (c6 : D1) (c12 : D14) (c14 c16 : D0) :
  (den C k) cd3 (blkQ C 1 (sq (den C k) (lp C k) Js C cd1 (lq C 24 next Q))) (St5 x17 c3 c6 c12 c14 c16) = j2 (fun x7 c6 => Q .ret (St1 x7 c6)) x17 c3 c6 c12 c14 c16 := by
 have h : ∀ (D L : DT α), denJ D L Js C cd3 (blkQ C 1 (sq D L Js C cd1 (lq C 24 next Q))) (St5 x17 c3 c6 c12 c14 c16) =
    (basculeref_Order.run c12.1 c3.2.2.2.1).bind fun y27 =>
    if (decide (y27 >= 0)) = true then
     D cd4 (blkQ C 1 (sq D L Js C cd1 (lq C 24 next Q))) (St6 (IntKind.i64.wrap (x17 + 2)) c6 c14 c16)
    else
     D cd4 (blkQ C 1 (sq D L Js C cd1 (lq C 24 next Q))) (St6 x17 c6 c14 c16) := by
  intro D L; kernel_rfl
 have h2 := via (k := k) h
 refine h2.trans ?_
 simp only [j3_eq]
 first | rfl | kernel_rfl
def j0 {α : Type} (Nx : Int -> D13 -> D0 -> D0 -> D1 -> D0 -> Option α) (Rt : Int -> D1 -> Option α) (x36 : Int) (c3 : D13) (c4 c5 : D0) (c6 : D1) (c9 c11 : D0) : Option α :=
 (basculeref_isZero.run c11).bind fun y13 =>
 if y13 = true then
  j1 Nx x36 c3 c4 c5 c6 c9
 else
  (basculeref_often.run c3 c11 c3.2.2.2.2.1).bind fun y14 =>
  if (not y14.2.1) = true then
   Rt 16 ([0, 0, 0, 0], [0, 0, 0, 0], 0, ())
  else
   (basculeref_of.run y14.1.1).bind fun y15 =>
   (basculeref_rest.run y15 c3.2.2.2.1).bind fun y16 =>
   (if (y14.1.2.2.1 == false) = true then basculeref_isZero.run y16 else some false).bind fun y17 =>
   if (cond y14.1.2.2.1 true y17) = true then
    j1 Nx x36 c3 c4 c5 c6 c9
   else
    (basculeref_of.run c11).bind fun y18 =>
    (basculeref_rest.run y18 c3.2.2.2.1).bind fun y19 =>
    (basculeref_inverse.run y19 c3.2.2.2.1).bind fun y20 =>
    if (not y20.2.1) = true then
     Rt 16 ([0, 0, 0, 0], [0, 0, 0, 0], 0, ())
    else
     (basculeref_product.run y16 c4 c3.2.2.2.1).bind fun y21 =>
     (basculeref_total.run c9 y21 c3.2.2.2.1).bind fun y22 =>
     (basculeref_product.run y20.1 y22 c3.2.2.2.1).bind fun y23 =>
     (basculeref_isZero.run y23).bind fun y24 =>
     if y24 = true then
      j1 Nx x36 c3 c4 c5 c6 c9
     else
      (basculeref_opposite.run y23 c3.2.2.2.1).bind fun y25 =>
      (basculeref_Order.run y25 y23).bind fun y26 =>
      if (decide (y26 < 0)) = true then
       j2 Rt (IntKind.i64.wrap (1 - (IntKind.i64.wrap (band .u64 (List.getD y14.1.2.1 0 0) 1)))) c3 c6 y14.1 y16 y25
      else
       j2 Rt (IntKind.i64.wrap (band .u64 (List.getD y14.1.2.1 0 0) 1)) c3 c6 y14.1 y16 y23
theorem j0_eq {α : Type} (k : Nat) (next : St -> Option α) (Q : Ex -> St -> Option α) (x36 : Int) (c3 : D13) (c4 c5 : D0) (c6 : D1) (c9 c11 : D0) :
  (den C k) cd2 (blkQ C 1 (sq (den C k) (lp C k) Js C cd1 (lq C 24 next Q))) (St3 x36 c3 c4 c5 c6 c9 c11) = j0 (fun x36 c3 c4 c5 c6 c9 => next (St2 x36 c3 c4 c5 c6 c9)) (fun x7 c6 => Q .ret (St1 x7 c6)) x36 c3 c4 c5 c6 c9 c11 := by
 have h : ∀ (D L : DT α), denJ D L Js C cd2 (blkQ C 1 (sq D L Js C cd1 (lq C 24 next Q))) (St3 x36 c3 c4 c5 c6 c9 c11) =
    (basculeref_isZero.run c11).bind fun y13 =>
    if y13 = true then
     D cd1 (lq C 24 next Q) (St4 x36 c3 c4 c5 c6 c9)
    else
     (basculeref_often.run c3 c11 c3.2.2.2.2.1).bind fun y14 =>
     if (not y14.2.1) = true then
      Q .ret (St1 16 ([0, 0, 0, 0], [0, 0, 0, 0], 0, ()))
     else
      (basculeref_of.run y14.1.1).bind fun y15 =>
      (basculeref_rest.run y15 c3.2.2.2.1).bind fun y16 =>
      (if (y14.1.2.2.1 == false) = true then basculeref_isZero.run y16 else some false).bind fun y17 =>
      if (cond y14.1.2.2.1 true y17) = true then
       D cd1 (lq C 24 next Q) (St4 x36 c3 c4 c5 c6 c9)
      else
       (basculeref_of.run c11).bind fun y18 =>
       (basculeref_rest.run y18 c3.2.2.2.1).bind fun y19 =>
       (basculeref_inverse.run y19 c3.2.2.2.1).bind fun y20 =>
       if (not y20.2.1) = true then
        Q .ret (St1 16 ([0, 0, 0, 0], [0, 0, 0, 0], 0, ()))
       else
        (basculeref_product.run y16 c4 c3.2.2.2.1).bind fun y21 =>
        (basculeref_total.run c9 y21 c3.2.2.2.1).bind fun y22 =>
        (basculeref_product.run y20.1 y22 c3.2.2.2.1).bind fun y23 =>
        (basculeref_isZero.run y23).bind fun y24 =>
        if y24 = true then
         D cd1 (lq C 24 next Q) (St4 x36 c3 c4 c5 c6 c9)
        else
         (basculeref_opposite.run y23 c3.2.2.2.1).bind fun y25 =>
         (basculeref_Order.run y25 y23).bind fun y26 =>
         if (decide (y26 < 0)) = true then
          D cd3 (blkQ C 1 (sq D L Js C cd1 (lq C 24 next Q))) (St5 (IntKind.i64.wrap (1 - (IntKind.i64.wrap (band .u64 (List.getD y14.1.2.1 0 0) 1)))) c3 c6 y14.1 y16 y25)
         else
          D cd3 (blkQ C 1 (sq D L Js C cd1 (lq C 24 next Q))) (St5 (IntKind.i64.wrap (band .u64 (List.getD y14.1.2.1 0 0) 1)) c3 c6 y14.1 y16 y23) := by
  intro D L; kernel_rfl
 have h2 := via (k := k) h
 refine h2.trans ?_
 simp only [j1_eq, j2_eq]
 first | rfl | kernel_rfl
def St7 (c6 : D1) : St := stL 148 [(6, .ref 6 0 [])] [(6, .cell T47 (.data T47 c6) false)]
def l0s {α : Type} (Nx : Int -> D13 -> D0 -> D0 -> D1 -> D0 -> Option α) (Rt : Int -> D1 -> Option α) (Xt0 : D1 -> Option α) (x36 : Int) (c3 : D13) (c4 c5 : D0) (c6 : D1) (c9 : D0) : Option α :=
 if (decide (x36 < 272)) = true then
  (basculeref_rest.run [(IntKind.u64.wrap (IntKind.i64.wrap ((if 255 > x36 then 255 else x36) - 255)))] c3.2.2.2.1).bind fun y6 =>
  if (decide (x36 < 256)) = true then
   (basculeref_text.run c4).bind fun y7 =>
   if Nat.ble (y7.length + (cutL c5 0 32).length) 9223372036854775807 = true then
    (basculeref_big.run (IntKind.u64.wrap x36) 1).bind fun y8 =>
    if Nat.ble ((y7 ++ (cutL c5 0 32)).length + y8.length) 9223372036854775807 = true then
     (basculeref_Hash.run ((y7 ++ (cutL c5 0 32)) ++ y8)).bind fun y9 =>
     (basculeref_FromBytes.run y9).bind fun y10 =>
     (basculeref_of.run y10).bind fun y11 =>
     (basculeref_rest.run y11 c3.2.2.2.1).bind fun y12 =>
     j0 Nx Rt x36 c3 c4 c5 c6 c9 y12
    else none
   else none
  else
   j0 Nx Rt x36 c3 c4 c5 c6 c9 y6
 else
  Xt0 c6
theorem l0s_eq {α : Type} (k : Nat) (next : St -> Option α) (Q : Ex -> St -> Option α) (x36 : Int) (c3 : D13) (c4 c5 : D0) (c6 : D1) (c9 : D0) :
  rnd C k cd0 24 Q next (St2 x36 c3 c4 c5 c6 c9) = l0s (fun x36 c3 c4 c5 c6 c9 => next (St2 x36 c3 c4 c5 c6 c9)) (fun x7 c6 => Q .ret (St1 x7 c6)) (fun c6 => Q (.exit 0) (St7 c6)) x36 c3 c4 c5 c6 c9 := by
 have h : ∀ (D L : DT α), denJ D L Js C cd0 (lq C 24 next Q) (St2 x36 c3 c4 c5 c6 c9) =
    if (decide (x36 < 272)) = true then
     (basculeref_rest.run [(IntKind.u64.wrap (IntKind.i64.wrap ((if 255 > x36 then 255 else x36) - 255)))] c3.2.2.2.1).bind fun y6 =>
     if (decide (x36 < 256)) = true then
      (basculeref_text.run c4).bind fun y7 =>
      if Nat.ble (y7.length + (cutL c5 0 32).length) 9223372036854775807 = true then
       (basculeref_big.run (IntKind.u64.wrap x36) 1).bind fun y8 =>
       if Nat.ble ((y7 ++ (cutL c5 0 32)).length + y8.length) 9223372036854775807 = true then
        (basculeref_Hash.run ((y7 ++ (cutL c5 0 32)) ++ y8)).bind fun y9 =>
        (basculeref_FromBytes.run y9).bind fun y10 =>
        (basculeref_of.run y10).bind fun y11 =>
        (basculeref_rest.run y11 c3.2.2.2.1).bind fun y12 =>
        D cd2 (blkQ C 1 (sq D L Js C cd1 (lq C 24 next Q))) (St3 x36 c3 c4 c5 c6 c9 y12)
       else none
      else none
     else
      D cd2 (blkQ C 1 (sq D L Js C cd1 (lq C 24 next Q))) (St3 x36 c3 c4 c5 c6 c9 y6)
    else
     Q (.exit 0) (St7 c6) := by
  intro D L; kernel_rfl
 have h2 := via (k := k) h
 refine h2.trans ?_
 simp only [j0_eq]
 first | rfl | kernel_rfl
def l0 {α : Type} (k : Nat) (Rt : Int -> D1 -> Option α) (Xt0 : D1 -> Option α) : Nat -> Int -> D13 -> D0 -> D0 -> D1 -> D0 -> Option α
 | 0, _, _, _, _, _, _ => none
 | n + 1, x36, c3, c4, c5, c6, c9 => l0s (l0 k Rt Xt0 n) Rt Xt0 x36 c3 c4 c5 c6 c9
theorem l0_eq {α : Type} (k : Nat) (Q : Ex -> St -> Option α) : ∀ (n : Nat) (x36 : Int) (c3 : D13) (c4 c5 : D0) (c6 : D1) (c9 : D0), iter (rnd C k cd0 24 Q) n (St2 x36 c3 c4 c5 c6 c9) = l0 k (fun x7 c6 => Q .ret (St1 x7 c6)) (fun c6 => Q (.exit 0) (St7 c6)) n x36 c3 c4 c5 c6 c9
 | 0, _, _, _, _, _, _ => rfl
 | n + 1, x36, c3, c4, c5, c6, c9 => (iter_succ _ _ _).trans ((l0s_eq k _ Q x36 c3 c4 c5 c6 c9).trans (congrArg (fun N => l0s N (fun x7 c6 => Q .ret (St1 x7 c6)) (fun c6 => Q (.exit 0) (St7 c6)) x36 c3 c4 c5 c6 c9) (by funext; exact l0_eq k Q n _ _ _ _ _ _)))
theorem l0_congr {α : Type} (k : Nat) (Rt : Int -> D1 -> Option α) (Xt0 : D1 -> Option α) (Rtq : Int -> D1 -> Option α) (Xt0q : D1 -> Option α) (hRt : ∀ (x7 : Int) (c6 : D1), Rt x7 c6 = Rtq x7 c6) (hXt0 : ∀ (c6 : D1), Xt0 c6 = Xt0q c6) (n : Nat) (x36 : Int) (c3 : D13) (c4 c5 : D0) (c6 : D1) (c9 : D0) : l0 k Rt Xt0 n x36 c3 c4 c5 c6 c9 = l0 k Rtq Xt0q n x36 c3 c4 c5 c6 c9 := by
 obtain rfl : Rt = Rtq := by funext x7; funext c6; exact hRt x7 c6
 obtain rfl : Xt0 = Xt0q := by funext c6; exact hXt0 c6
 rfl
noncomputable def cd5 : Code := cR (cR (cR (cR (cR (cB Tryd.f36)))))
def St8 (c6 : D1) : St := stL 148 [(6, .ref 6 0 [])] [(6, .cell T47 (.data T47 c6) false)]
def j4 {α : Type} (Rt : Int -> D1 -> Option α) (c6 : D1) : Option α :=
 Rt 5 ([0, 0, 0, 0], [0, 0, 0, 0], 0, ())
theorem j4_eq {α : Type} (k : Nat) (Q : Ex -> St -> Option α) (c6 : D1) :
  (den C k) cd5 Q (St8 c6) = j4 (fun x7 c6 => Q .ret (St1 x7 c6)) c6 := by
 have h : ∀ (D L : DT α), denJ D L Js C cd5 Q (St8 c6) = j4 (fun x7 c6 => Q .ret (St1 x7 c6)) c6 := by
  intro D L; kernel_rfl
 have h2 := via (k := k) h
 exact h2
theorem a0 {α : Type} (k : Nat) (Q : Ex -> St -> Option α) (x36 : Int) (c3 : D13) (c4 c5 : D0) (c6 : D1) (c9 : D0) :
  (lp C k) cd0 (blkQ C 0 (sq (den C k) (lp C k) Js C cd5 Q)) (St2 x36 c3 c4 c5 c6 c9) = l0 k (fun x7 c6 => (fun x7 c6 => Q .ret (St1 x7 c6)) x7 c6) (fun c6 => j4 (fun x7 c6 => Q .ret (St1 x7 c6)) c6) k x36 c3 c4 c5 c6 c9 :=
 (lp_iter 24 (by kernel_rfl)).trans ((l0_eq k _ k x36 c3 c4 c5 c6 c9).trans (l0_congr k _ _ _ _ (fun x7 c6 => (by kernel_rfl)) (fun c6 => (Eq.trans (b := (den C k) cd5 Q (St8 c6)) (by kernel_rfl) (by simp only [j4_eq]))) k x36 c3 c4 c5 c6 c9))
def top {α : Type} (k : Nat) (Rt : Int -> D1 -> Option α) (x0 : D13) (x1 x2 : D0) : Option α :=
 (basculeref_CurveFault.run x0).bind fun y1 =>
 if (y1 != 0) = true then
  Rt y1 ([0, 0, 0, 0], [0, 0, 0, 0], 0, ())
 else
  (basculeref_mayBeSecret.run x0 x1).bind fun y2 =>
  if (not y2) = true then
   Rt 6 ([0, 0, 0, 0], [0, 0, 0, 0], 0, ())
  else
   (basculeref_FromBytes.run x2).bind fun y3 =>
   (basculeref_of.run y3).bind fun y4 =>
   (basculeref_rest.run y4 x0.2.2.2.1).bind fun y5 =>
   l0 k (fun x7 c6 => Rt x7 c6) (fun c6 => j4 Rt c6) k 0 x0 x1 x2 ([0, 0, 0, 0], [0, 0, 0, 0], 0, ()) y5
theorem top_eq {α : Type} (k : Nat) (Q : Ex -> St -> Option α) (x0 : D13) (x1 x2 : D0) :
  (den C k) (cB Tryd.f36) Q (St0 x0 x1 x2) = top k (fun x7 c6 => Q .ret (St1 x7 c6)) x0 x1 x2 := by
 have h : ∀ (D L : DT α), denJ D L Js C (cB Tryd.f36) Q (St0 x0 x1 x2) =
    (basculeref_CurveFault.run x0).bind fun y1 =>
    if (y1 != 0) = true then
     Q .ret (St1 y1 ([0, 0, 0, 0], [0, 0, 0, 0], 0, ()))
    else
     (basculeref_mayBeSecret.run x0 x1).bind fun y2 =>
     if (not y2) = true then
      Q .ret (St1 6 ([0, 0, 0, 0], [0, 0, 0, 0], 0, ()))
     else
      (basculeref_FromBytes.run x2).bind fun y3 =>
      (basculeref_of.run y3).bind fun y4 =>
      (basculeref_rest.run y4 x0.2.2.2.1).bind fun y5 =>
      L cd0 (blkQ C 0 (sq D L Js C cd5 Q)) (St2 0 x0 x1 x2 ([0, 0, 0, 0], [0, 0, 0, 0], 0, ()) y5) := by
  intro D L; kernel_rfl
 have h2 := via (k := k) h
 refine h2.trans ?_
 simp only [a0]
 first | rfl | kernel_rfl
def run (x0 : D13) (x1 x2 : D0) : Option D2 := top (α := D1 × Int × Unit) fuel (fun x7 c6 => some (c6, x7, ())) x0 x1 x2
def F : Fn := ⟨T78, T79, true, fun x => run x.1 x.2.1 x.2.2.1⟩
theorem con : Con Tryd.prog 36 F :=
 con_of (C := C) (ctx_ok (by kernel_rfl) (by kernel_rfl) (by kernel_rfl) (by kernel_rfl) ⟨.inl ⟨basculeref_Hash.con, basculeref_Hash.named⟩, ⟨.inl ⟨basculeref_CurveFault.con, basculeref_CurveFault.named⟩, ⟨.inl ⟨basculeref_mayBeSecret.con, basculeref_mayBeSecret.named⟩, ⟨.inl ⟨basculeref_text.con, basculeref_text.named⟩, ⟨.inl ⟨basculeref_rest.con, basculeref_rest.named⟩, ⟨.inl ⟨basculeref_of.con, basculeref_of.named⟩, ⟨.inl ⟨basculeref_FromBytes.con, basculeref_FromBytes.named⟩, ⟨.inl ⟨basculeref_big.con, basculeref_big.named⟩, ⟨.inl ⟨basculeref_isZero.con, basculeref_isZero.named⟩, ⟨.inl ⟨basculeref_often.con, basculeref_often.named⟩, ⟨.inl ⟨basculeref_inverse.con, basculeref_inverse.named⟩, ⟨.inl ⟨basculeref_product.con, basculeref_product.named⟩, ⟨.inl ⟨basculeref_total.con, basculeref_total.named⟩, ⟨.inl ⟨basculeref_opposite.con, basculeref_opposite.named⟩, ⟨.inl ⟨basculeref_Order.con, basculeref_Order.named⟩, trivial⟩⟩⟩⟩⟩⟩⟩⟩⟩⟩⟩⟩⟩⟩⟩) (by kernel_rfl) Tryd.func36 (c := cB Tryd.f36) (by kernel_rfl) (by kernel_rfl) F (fun x => by simp [F, spread, Tryd.ntmps36]) (fun x => (St0 x.1 x.2.1 x.2.2.1)) (fun x => by kernel_rfl) fun x => (top_eq fuel _ x.1 x.2.1 x.2.2.1).trans (by kernel_rfl)
theorem named : Named Tryd.prog 36 := named_of Tryd.func36 (by kernel_rfl) (by kernel_rfl)
end Go.Bx.basculeref_Signed
namespace Go.Bx.keccak_Turn
def Js : List Nat := [11, 19, 25, 26, 27]
def C : Ctx := ⟨[(3, T1), (22, T2), (23, T4), (86, T5), (87, T6), (89, T7)], [], [], fnL [(40, math_bits_RotateLeft64.F)], noSh, [], invL [], [(2, [2]), (1, [1, 2]), (4, [1, 2, 16, 17]), (19, [1, 2, 4, 16, 17]), (22, [1, 2, 4, 8, 16, 17, 72]), (13, [1, 2, 4, 8, 16, 17]), (16, [1, 2, 4, 5, 8, 16, 17, 33]), (7, [1, 2, 4, 5, 16, 17]), (10, [1, 2, 4, 5, 16, 17, 20, 21]), (6, [1, 2, 16, 17]), (18, [1, 2, 4, 5, 16, 17, 20, 21]), (30, [1, 2, 4, 5, 16, 17]), (36, [1, 2, 4, 5, 8, 16, 17, 33]), (54, [1, 2, 4, 8, 16, 17]), (57, [1, 2, 4, 8, 16, 17, 72]), (72, [1, 2, 4, 16, 17]), (75, [1, 2, 16, 17]), (78, [1, 2])], [], [], 0, 0⟩
def St0 (x0 : D0) : St := stL 111 [(0, .data T4 x0)] []
def St1 (x16 : D0) (x17 : Int) (c1 c2 : D0) : St := stL 111 [(1, .ref 1 0 []), (2, .ref 2 0 []), (16, .data T5 x16), (17, .data T1 x17)] [(1, .cell T4 (.data T4 c1) false), (2, .cell T4 (.data T4 c2) false)]
noncomputable def cd0 : Code := cL (cL (cR (cL (cR (cB Tryd.f12)))))
def St2 (x4 : Int) (x16 : D0) (x17 : Int) (x20 : D0) (x21 : Int) (c1 c2 c5 : D0) : St := stL 111 [(1, .ref 1 0 []), (2, .ref 2 0 []), (4, .data T2 x4), (5, .ref 5 0 []), (16, .data T5 x16), (17, .data T1 x17), (20, .data T4 x20), (21, .data T1 x21)] [(1, .cell T4 (.data T4 c1) false), (2, .cell T4 (.data T4 c2) false), (5, .cell T6 (.data T6 c5) false)]
noncomputable def cd1 : Code := cL (cL (cR (cL (cR (cR (cL (cL (cR (cR (cL (cL (cR (cL (cR (cB Tryd.f12)))))))))))))))
def St3 (x4 : Int) (x16 : D0) (x17 : Int) (c1 c2 c5 : D0) : St := stL 111 [(1, .ref 1 0 []), (2, .ref 2 0 []), (4, .data T2 x4), (5, .ref 5 0 []), (16, .data T5 x16), (17, .data T1 x17)] [(1, .cell T4 (.data T4 c1) false), (2, .cell T4 (.data T4 c2) false), (5, .cell T6 (.data T6 c5) false)]
def l1s {α : Type} (Nx : Int -> D0 -> Int -> D0 -> Int -> D0 -> D0 -> D0 -> Option α) (Xt2 : Int -> D0 -> Int -> D0 -> D0 -> D0 -> Option α) (x4 : Int) (x16 : D0) (x17 : Int) (x20 : D0) (x21 : Int) (c1 c2 c5 : D0) : Option α :=
 if (decide (x21 < 25)) = true then
  if 0 <= x21 /\ x21 < (25 : Int) then
   if 0 <= (Int.tmod x21 5) /\ (Int.tmod x21 5) < (5 : Int) then
    if 0 <= (Int.tmod x21 5) /\ (Int.tmod x21 5) < (5 : Int) then
     Nx x4 x16 x17 x20 (IntKind.i64.wrap (x21 + 1)) c1 c2 (List.set c5 (Int.toNat (Int.tmod x21 5)) (bxor .u64 (List.getD c5 (Int.toNat (Int.tmod x21 5)) 0) (List.getD x20 (Int.toNat x21) 0)))
    else none
   else none
  else none
 else
  Xt2 x4 x16 x17 c1 c2 c5
theorem l1s_eq {α : Type} (k : Nat) (next : St -> Option α) (Q : Ex -> St -> Option α) (x4 : Int) (x16 : D0) (x17 : Int) (x20 : D0) (x21 : Int) (c1 c2 c5 : D0) :
  rnd C k cd1 18 Q next (St2 x4 x16 x17 x20 x21 c1 c2 c5) = l1s (fun x4 x16 x17 x20 x21 c1 c2 c5 => next (St2 x4 x16 x17 x20 x21 c1 c2 c5)) (fun x4 x16 x17 c1 c2 c5 => Q (.exit 2) (St3 x4 x16 x17 c1 c2 c5)) x4 x16 x17 x20 x21 c1 c2 c5 := by
 have h : ∀ (D L : DT α), denJ D L Js C cd1 (lq C 18 next Q) (St2 x4 x16 x17 x20 x21 c1 c2 c5) = l1s (fun x4 x16 x17 x20 x21 c1 c2 c5 => next (St2 x4 x16 x17 x20 x21 c1 c2 c5)) (fun x4 x16 x17 c1 c2 c5 => Q (.exit 2) (St3 x4 x16 x17 c1 c2 c5)) x4 x16 x17 x20 x21 c1 c2 c5 := by
  intro D L; kernel_rfl
 have h2 := via (k := k) h
 exact h2
def l1 {α : Type} (k : Nat) (Xt2 : Int -> D0 -> Int -> D0 -> D0 -> D0 -> Option α) : Nat -> Int -> D0 -> Int -> D0 -> Int -> D0 -> D0 -> D0 -> Option α
 | 0, _, _, _, _, _, _, _, _ => none
 | n + 1, x4, x16, x17, x20, x21, c1, c2, c5 => l1s (l1 k Xt2 n) Xt2 x4 x16 x17 x20 x21 c1 c2 c5
theorem l1_eq {α : Type} (k : Nat) (Q : Ex -> St -> Option α) : ∀ (n : Nat) (x4 : Int) (x16 : D0) (x17 : Int) (x20 : D0) (x21 : Int) (c1 c2 c5 : D0), iter (rnd C k cd1 18 Q) n (St2 x4 x16 x17 x20 x21 c1 c2 c5) = l1 k (fun x4 x16 x17 c1 c2 c5 => Q (.exit 2) (St3 x4 x16 x17 c1 c2 c5)) n x4 x16 x17 x20 x21 c1 c2 c5
 | 0, _, _, _, _, _, _, _, _ => rfl
 | n + 1, x4, x16, x17, x20, x21, c1, c2, c5 => (iter_succ _ _ _).trans ((l1s_eq k _ Q x4 x16 x17 x20 x21 c1 c2 c5).trans (congrArg (fun N => l1s N (fun x4 x16 x17 c1 c2 c5 => Q (.exit 2) (St3 x4 x16 x17 c1 c2 c5)) x4 x16 x17 x20 x21 c1 c2 c5) (by funext; exact l1_eq k Q n _ _ _ _ _ _ _ _)))
noncomputable def cd2 : Code := cR (cR (cR (cL (cL (cR (cR (cL (cL (cR (cL (cR (cB Tryd.f12))))))))))))
noncomputable def cd3 : Code := cR (cR (cR (cL (cL (cR (cL (cR (cB Tryd.f12))))))))
def St4 (x4 : Int) (x16 : D0) (x17 : Int) (c1 c2 c5 : D0) : St := stL 111 [(1, .ref 1 0 []), (2, .ref 2 0 []), (4, .data T2 x4), (5, .ref 5 0 []), (16, .data T5 x16), (17, .data T1 x17)] [(1, .cell T4 (.data T4 c1) false), (2, .cell T4 (.data T4 c2) false), (5, .cell T6 (.data T6 c5) false)]
def St5 (x4 : Int) (x16 : D0) (x17 x33 : Int) (c1 c2 : D0) (c5 c8 : D0) : St := stL 111 [(1, .ref 1 0 []), (2, .ref 2 0 []), (4, .data T2 x4), (5, .ref 5 0 []), (8, .ref 8 0 []), (16, .data T5 x16), (17, .data T1 x17), (33, .data T1 x33)] [(1, .cell T4 (.data T4 c1) false), (2, .cell T4 (.data T4 c2) false), (5, .cell T6 (.data T6 c5) false), (8, .cell T4 (.data T4 c8) false)]
noncomputable def cd4 : Code := cL (cL (cR (cL (cR (cR (cR (cR (cL (cL (cR (cR (cL (cL (cR (cL (cR (cB Tryd.f12)))))))))))))))))
def St6 (x4 : Int) (x16 : D0) (x17 : Int) (c1 c2 c8 : D0) : St := stL 111 [(1, .ref 1 0 []), (2, .ref 2 0 []), (4, .data T2 x4), (8, .ref 8 0 []), (16, .data T5 x16), (17, .data T1 x17)] [(1, .cell T4 (.data T4 c1) false), (2, .cell T4 (.data T4 c2) false), (8, .cell T4 (.data T4 c8) false)]
def l2s {α : Type} (Nx : Int -> D0 -> Int -> Int -> D0 -> D0 -> D0 -> D0 -> Option α) (Xt4 : Int -> D0 -> Int -> D0 -> D0 -> D0 -> Option α) (x4 : Int) (x16 : D0) (x17 x33 : Int) (c1 c2 : D0) (c5 c8 : D0) : Option α :=
 if (decide (x33 < 25)) = true then
  if 0 <= x33 /\ x33 < (25 : Int) then
   if 0 <= (Int.tmod (IntKind.i64.wrap ((Int.tmod x33 5) + 4)) 5) /\ (Int.tmod (IntKind.i64.wrap ((Int.tmod x33 5) + 4)) 5) < (5 : Int) then
    if 0 <= (Int.tmod (IntKind.i64.wrap ((Int.tmod x33 5) + 1)) 5) /\ (Int.tmod (IntKind.i64.wrap ((Int.tmod x33 5) + 1)) 5) < (5 : Int) then
     (math_bits_RotateLeft64.run (List.getD c5 (Int.toNat (Int.tmod (IntKind.i64.wrap ((Int.tmod x33 5) + 1)) 5)) 0) 1).bind fun y1 =>
     if 0 <= x33 /\ x33 < (25 : Int) then
      (math_bits_RotateLeft64.run (bxor .u64 (bxor .u64 (List.getD c1 (Int.toNat x33) 0) (List.getD c5 (Int.toNat (Int.tmod (IntKind.i64.wrap ((Int.tmod x33 5) + 4)) 5)) 0)) y1) (List.getD gTurns (Int.toNat x33) 0)).bind fun y2 =>
      if 0 <= (IntKind.i64.wrap ((IntKind.i64.wrap (Int.tdiv x33 5)) + (IntKind.i64.wrap (5 * (Int.tmod (IntKind.i64.wrap ((IntKind.i64.wrap (2 * (Int.tmod x33 5))) + (IntKind.i64.wrap (3 * (IntKind.i64.wrap (Int.tdiv x33 5)))))) 5))))) /\ (IntKind.i64.wrap ((IntKind.i64.wrap (Int.tdiv x33 5)) + (IntKind.i64.wrap (5 * (Int.tmod (IntKind.i64.wrap ((IntKind.i64.wrap (2 * (Int.tmod x33 5))) + (IntKind.i64.wrap (3 * (IntKind.i64.wrap (Int.tdiv x33 5)))))) 5))))) < (25 : Int) then
       Nx x4 x16 x17 (IntKind.i64.wrap (x33 + 1)) c1 c2 c5 (List.set c8 (Int.toNat (IntKind.i64.wrap ((IntKind.i64.wrap (Int.tdiv x33 5)) + (IntKind.i64.wrap (5 * (Int.tmod (IntKind.i64.wrap ((IntKind.i64.wrap (2 * (Int.tmod x33 5))) + (IntKind.i64.wrap (3 * (IntKind.i64.wrap (Int.tdiv x33 5)))))) 5)))))) y2)
      else none
     else none
    else none
   else none
  else none
 else
  Xt4 x4 x16 x17 c1 c2 c8
theorem l2s_eq {α : Type} (k : Nat) (next : St -> Option α) (Q : Ex -> St -> Option α) (x4 : Int) (x16 : D0) (x17 x33 : Int) (c1 c2 : D0) (c5 c8 : D0) :
  rnd C k cd4 36 Q next (St5 x4 x16 x17 x33 c1 c2 c5 c8) = l2s (fun x4 x16 x17 x33 c1 c2 c5 c8 => next (St5 x4 x16 x17 x33 c1 c2 c5 c8)) (fun x4 x16 x17 c1 c2 c8 => Q (.exit 4) (St6 x4 x16 x17 c1 c2 c8)) x4 x16 x17 x33 c1 c2 c5 c8 := by
 have h : ∀ (D L : DT α), denJ D L Js C cd4 (lq C 36 next Q) (St5 x4 x16 x17 x33 c1 c2 c5 c8) = l2s (fun x4 x16 x17 x33 c1 c2 c5 c8 => next (St5 x4 x16 x17 x33 c1 c2 c5 c8)) (fun x4 x16 x17 c1 c2 c8 => Q (.exit 4) (St6 x4 x16 x17 c1 c2 c8)) x4 x16 x17 x33 c1 c2 c5 c8 := by
  intro D L; kernel_rfl
 have h2 := via (k := k) h
 exact h2
def l2 {α : Type} (k : Nat) (Xt4 : Int -> D0 -> Int -> D0 -> D0 -> D0 -> Option α) : Nat -> Int -> D0 -> Int -> Int -> D0 -> D0 -> D0 -> D0 -> Option α
 | 0, _, _, _, _, _, _, _, _ => none
 | n + 1, x4, x16, x17, x33, c1, c2, c5, c8 => l2s (l2 k Xt4 n) Xt4 x4 x16 x17 x33 c1 c2 c5 c8
theorem l2_eq {α : Type} (k : Nat) (Q : Ex -> St -> Option α) : ∀ (n : Nat) (x4 : Int) (x16 : D0) (x17 x33 : Int) (c1 c2 : D0) (c5 c8 : D0), iter (rnd C k cd4 36 Q) n (St5 x4 x16 x17 x33 c1 c2 c5 c8) = l2 k (fun x4 x16 x17 c1 c2 c8 => Q (.exit 4) (St6 x4 x16 x17 c1 c2 c8)) n x4 x16 x17 x33 c1 c2 c5 c8
 | 0, _, _, _, _, _, _, _, _ => rfl
 | n + 1, x4, x16, x17, x33, c1, c2, c5, c8 => (iter_succ _ _ _).trans ((l2s_eq k _ Q x4 x16 x17 x33 c1 c2 c5 c8).trans (congrArg (fun N => l2s N (fun x4 x16 x17 c1 c2 c8 => Q (.exit 4) (St6 x4 x16 x17 c1 c2 c8)) x4 x16 x17 x33 c1 c2 c5 c8) (by funext; exact l2_eq k Q n _ _ _ _ _ _ _ _)))
noncomputable def cd5 : Code := cR (cR (cR (cR (cR (cL (cL (cR (cR (cL (cL (cR (cL (cR (cB Tryd.f12))))))))))))))
def St7 (x4 : Int) (x16 : D0) (x17 : Int) (c1 c2 c8 : D0) : St := stL 111 [(1, .ref 1 0 []), (2, .ref 2 0 []), (4, .data T2 x4), (8, .ref 8 0 []), (16, .data T5 x16), (17, .data T1 x17)] [(1, .cell T4 (.data T4 c1) false), (2, .cell T4 (.data T4 c2) false), (8, .cell T4 (.data T4 c8) false)]
def St8 (x4 : Int) (x16 : D0) (x17 x72 : Int) (c1 c2 c8 : D0) : St := stL 111 [(1, .ref 1 0 []), (2, .ref 2 0 []), (4, .data T2 x4), (8, .ref 8 0 []), (16, .data T5 x16), (17, .data T1 x17), (72, .data T1 x72)] [(1, .cell T4 (.data T4 c1) false), (2, .cell T4 (.data T4 c2) false), (8, .cell T4 (.data T4 c8) false)]
noncomputable def cd6 : Code := cL (cL (cR (cL (cR (cR (cR (cR (cR (cL (cL (cR (cR (cL (cL (cR (cL (cR (cB Tryd.f12))))))))))))))))))
def St9 (x4 : Int) (x16 : D0) (x17 : Int) (c1 c2 : D0) : St := stL 111 [(1, .ref 1 0 []), (2, .ref 2 0 []), (4, .data T2 x4), (16, .data T5 x16), (17, .data T1 x17)] [(1, .cell T4 (.data T4 c1) false), (2, .cell T4 (.data T4 c2) false)]
def l3s {α : Type} (Nx : Int -> D0 -> Int -> Int -> D0 -> D0 -> D0 -> Option α) (Xt6 : Int -> D0 -> Int -> D0 -> D0 -> Option α) (x4 : Int) (x16 : D0) (x17 x72 : Int) (c1 c2 c8 : D0) : Option α :=
 if (decide (x72 < 25)) = true then
  if 0 <= x72 /\ x72 < (25 : Int) then
   if 0 <= (IntKind.i64.wrap ((Int.tmod (IntKind.i64.wrap ((Int.tmod x72 5) + 1)) 5) + (IntKind.i64.wrap (5 * (IntKind.i64.wrap (Int.tdiv x72 5)))))) /\ (IntKind.i64.wrap ((Int.tmod (IntKind.i64.wrap ((Int.tmod x72 5) + 1)) 5) + (IntKind.i64.wrap (5 * (IntKind.i64.wrap (Int.tdiv x72 5)))))) < (25 : Int) then
    if 0 <= (IntKind.i64.wrap ((Int.tmod (IntKind.i64.wrap ((Int.tmod x72 5) + 2)) 5) + (IntKind.i64.wrap (5 * (IntKind.i64.wrap (Int.tdiv x72 5)))))) /\ (IntKind.i64.wrap ((Int.tmod (IntKind.i64.wrap ((Int.tmod x72 5) + 2)) 5) + (IntKind.i64.wrap (5 * (IntKind.i64.wrap (Int.tdiv x72 5)))))) < (25 : Int) then
     if 0 <= x72 /\ x72 < (25 : Int) then
      Nx x4 x16 x17 (IntKind.i64.wrap (x72 + 1)) (List.set c1 (Int.toNat x72) (bxor .u64 (List.getD c8 (Int.toNat x72) 0) (band .u64 (bxor .u64 18446744073709551615 (List.getD c8 (Int.toNat (IntKind.i64.wrap ((Int.tmod (IntKind.i64.wrap ((Int.tmod x72 5) + 1)) 5) + (IntKind.i64.wrap (5 * (IntKind.i64.wrap (Int.tdiv x72 5))))))) 0)) (List.getD c8 (Int.toNat (IntKind.i64.wrap ((Int.tmod (IntKind.i64.wrap ((Int.tmod x72 5) + 2)) 5) + (IntKind.i64.wrap (5 * (IntKind.i64.wrap (Int.tdiv x72 5))))))) 0)))) c2 c8
     else none
    else none
   else none
  else none
 else
  Xt6 x4 x16 x17 c1 c2
theorem l3s_eq {α : Type} (k : Nat) (next : St -> Option α) (Q : Ex -> St -> Option α) (x4 : Int) (x16 : D0) (x17 x72 : Int) (c1 c2 c8 : D0) :
  rnd C k cd6 57 Q next (St8 x4 x16 x17 x72 c1 c2 c8) = l3s (fun x4 x16 x17 x72 c1 c2 c8 => next (St8 x4 x16 x17 x72 c1 c2 c8)) (fun x4 x16 x17 c1 c2 => Q (.exit 6) (St9 x4 x16 x17 c1 c2)) x4 x16 x17 x72 c1 c2 c8 := by
 have h : ∀ (D L : DT α), denJ D L Js C cd6 (lq C 57 next Q) (St8 x4 x16 x17 x72 c1 c2 c8) = l3s (fun x4 x16 x17 x72 c1 c2 c8 => next (St8 x4 x16 x17 x72 c1 c2 c8)) (fun x4 x16 x17 c1 c2 => Q (.exit 6) (St9 x4 x16 x17 c1 c2)) x4 x16 x17 x72 c1 c2 c8 := by
  intro D L; kernel_rfl
 have h2 := via (k := k) h
 exact h2
def l3 {α : Type} (k : Nat) (Xt6 : Int -> D0 -> Int -> D0 -> D0 -> Option α) : Nat -> Int -> D0 -> Int -> Int -> D0 -> D0 -> D0 -> Option α
 | 0, _, _, _, _, _, _, _ => none
 | n + 1, x4, x16, x17, x72, c1, c2, c8 => l3s (l3 k Xt6 n) Xt6 x4 x16 x17 x72 c1 c2 c8
theorem l3_eq {α : Type} (k : Nat) (Q : Ex -> St -> Option α) : ∀ (n : Nat) (x4 : Int) (x16 : D0) (x17 x72 : Int) (c1 c2 c8 : D0), iter (rnd C k cd6 57 Q) n (St8 x4 x16 x17 x72 c1 c2 c8) = l3 k (fun x4 x16 x17 c1 c2 => Q (.exit 6) (St9 x4 x16 x17 c1 c2)) n x4 x16 x17 x72 c1 c2 c8
 | 0, _, _, _, _, _, _, _ => rfl
 | n + 1, x4, x16, x17, x72, c1, c2, c8 => (iter_succ _ _ _).trans ((l3s_eq k _ Q x4 x16 x17 x72 c1 c2 c8).trans (congrArg (fun N => l3s N (fun x4 x16 x17 c1 c2 => Q (.exit 6) (St9 x4 x16 x17 c1 c2)) x4 x16 x17 x72 c1 c2 c8) (by funext; exact l3_eq k Q n _ _ _ _ _ _ _)))
noncomputable def cd7 : Code := cR (cR (cR (cR (cR (cR (cL (cL (cR (cR (cL (cL (cR (cL (cR (cB Tryd.f12)))))))))))))))
def St10 (x4 : Int) (x16 : D0) (x17 : Int) (c1 c2 : D0) : St := stL 111 [(1, .ref 1 0 []), (2, .ref 2 0 []), (4, .data T2 x4), (16, .data T5 x16), (17, .data T1 x17)] [(1, .cell T4 (.data T4 c1) false), (2, .cell T4 (.data T4 c2) false)]
def St11 (x16 : D0) (x17 : Int) (c1 c2 : D0) : St := stL 111 [(1, .ref 1 0 []), (2, .ref 2 0 []), (16, .data T5 x16), (17, .data T1 x17)] [(1, .cell T4 (.data T4 c1) false), (2, .cell T4 (.data T4 c2) false)]
def j3 {α : Type} (Nx : D0 -> Int -> D0 -> D0 -> Option α) (x16 : D0) (x17 : Int) (c1 c2 : D0) : Option α :=
 Nx x16 (IntKind.i64.wrap (x17 + 1)) c1 c2
theorem j3_eq {α : Type} (k : Nat) (next : St -> Option α) (Q : Ex -> St -> Option α) (x16 : D0) (x17 : Int) (c1 c2 : D0) :
  (den C k) cd3 (lq C 6 next Q) (St11 x16 x17 c1 c2) = j3 (fun x16 x17 c1 c2 => next (St1 x16 x17 c1 c2)) x16 x17 c1 c2 := by
 have h : ∀ (D L : DT α), denJ D L Js C cd3 (lq C 6 next Q) (St11 x16 x17 c1 c2) = j3 (fun x16 x17 c1 c2 => next (St1 x16 x17 c1 c2)) x16 x17 c1 c2 := by
  intro D L; kernel_rfl
 have h2 := via (k := k) h
 exact h2
def j2 {α : Type} (Nx : D0 -> Int -> D0 -> D0 -> Option α) (x4 : Int) (x16 : D0) (x17 : Int) (c1 c2 : D0) : Option α :=
 j3 Nx x16 x17 (List.set c1 0 (bxor .u64 (List.getD c1 0 0) x4)) c2
theorem j2_eq {α : Type} (k : Nat) (next : St -> Option α) (Q : Ex -> St -> Option α) (x4 : Int) (x16 : D0) (x17 : Int) (c1 c2 : D0) :
  (den C k) cd7 (blkQ C 1 (sq (den C k) (lp C k) Js C cd3 (lq C 6 next Q))) (St10 x4 x16 x17 c1 c2) = j2 (fun x16 x17 c1 c2 => next (St1 x16 x17 c1 c2)) x4 x16 x17 c1 c2 := by
 have h : ∀ (D L : DT α), denJ D L Js C cd7 (blkQ C 1 (sq D L Js C cd3 (lq C 6 next Q))) (St10 x4 x16 x17 c1 c2) =
    D cd3 (lq C 6 next Q) (St11 x16 x17 (List.set c1 0 (bxor .u64 (List.getD c1 0 0) x4)) c2) := by
  intro D L; kernel_rfl
 have h2 := via (k := k) h
 refine h2.trans ?_
 simp only [j3_eq]
 first | rfl | kernel_rfl
theorem a0 {α : Type} (k : Nat) (next : St -> Option α) (Q : Ex -> St -> Option α) (x4 : Int) (x16 : D0) (x17 x72 : Int) (c1 c2 c8 : D0) :
  (lp C k) cd6 (blkQ C 6 (sq (den C k) (lp C k) Js C cd7 (blkQ C 1 (sq (den C k) (lp C k) Js C cd3 (lq C 6 next Q))))) (St8 x4 x16 x17 x72 c1 c2 c8) = l3 k (fun x4 x16 x17 c1 c2 => j2 (fun x16 x17 c1 c2 => next (St1 x16 x17 c1 c2)) x4 x16 x17 c1 c2) k x4 x16 x17 x72 c1 c2 c8 :=
 (lp_iter 57 (by kernel_rfl)).trans ((l3_eq k _ k x4 x16 x17 x72 c1 c2 c8).trans (congrArg (fun X => l3 k X k x4 x16 x17 x72 c1 c2 c8) (funext fun x4 => funext fun x16 => funext fun x17 => funext fun c1 => funext fun c2 => (Eq.trans (b := (den C k) cd7 (blkQ C 1 (sq (den C k) (lp C k) Js C cd3 (lq C 6 next Q))) (St10 x4 x16 x17 c1 c2)) (by kernel_rfl) (by simp only [j2_eq])))))
def j1 {α : Type} (k : Nat) (Nx : D0 -> Int -> D0 -> D0 -> Option α) (x4 : Int) (x16 : D0) (x17 : Int) (c1 c2 c8 : D0) : Option α :=
 l3 k (fun x4 x16 x17 c1 c2 => j2 Nx x4 x16 x17 c1 c2) k x4 x16 x17 0 c1 c2 c8
theorem j1_eq {α : Type} (k : Nat) (next : St -> Option α) (Q : Ex -> St -> Option α) (x4 : Int) (x16 : D0) (x17 : Int) (c1 c2 c8 : D0) :
  (den C k) cd5 (blkQ C 1 (sq (den C k) (lp C k) Js C cd3 (lq C 6 next Q))) (St7 x4 x16 x17 c1 c2 c8) = j1 k (fun x16 x17 c1 c2 => next (St1 x16 x17 c1 c2)) x4 x16 x17 c1 c2 c8 := by
 have h : ∀ (D L : DT α), denJ D L Js C cd5 (blkQ C 1 (sq D L Js C cd3 (lq C 6 next Q))) (St7 x4 x16 x17 c1 c2 c8) =
    L cd6 (blkQ C 6 (sq D L Js C cd7 (blkQ C 1 (sq D L Js C cd3 (lq C 6 next Q))))) (St8 x4 x16 x17 0 c1 c2 c8) := by
  intro D L; kernel_rfl
 have h2 := via (k := k) h
 refine h2.trans ?_
 simp only [a0]
 first | rfl | kernel_rfl
theorem a1 {α : Type} (k : Nat) (next : St -> Option α) (Q : Ex -> St -> Option α) (x4 : Int) (x16 : D0) (x17 x33 : Int) (c1 c2 : D0) (c5 c8 : D0) :
  (lp C k) cd4 (blkQ C 4 (sq (den C k) (lp C k) Js C cd5 (blkQ C 1 (sq (den C k) (lp C k) Js C cd3 (lq C 6 next Q))))) (St5 x4 x16 x17 x33 c1 c2 c5 c8) = l2 k (fun x4 x16 x17 c1 c2 c8 => j1 k (fun x16 x17 c1 c2 => next (St1 x16 x17 c1 c2)) x4 x16 x17 c1 c2 c8) k x4 x16 x17 x33 c1 c2 c5 c8 :=
 (lp_iter 36 (by kernel_rfl)).trans ((l2_eq k _ k x4 x16 x17 x33 c1 c2 c5 c8).trans (congrArg (fun X => l2 k X k x4 x16 x17 x33 c1 c2 c5 c8) (funext fun x4 => funext fun x16 => funext fun x17 => funext fun c1 => funext fun c2 => funext fun c8 => (Eq.trans (b := (den C k) cd5 (blkQ C 1 (sq (den C k) (lp C k) Js C cd3 (lq C 6 next Q))) (St7 x4 x16 x17 c1 c2 c8)) (by kernel_rfl) (by simp only [j1_eq])))))
def j0 {α : Type} (k : Nat) (Nx : D0 -> Int -> D0 -> D0 -> Option α) (x4 : Int) (x16 : D0) (x17 : Int) (c1 c2 c5 : D0) : Option α :=
 l2 k (fun x4 x16 x17 c1 c2 c8 => j1 k Nx x4 x16 x17 c1 c2 c8) k x4 x16 x17 0 c1 c2 c5 (List.replicate 25 0)
theorem j0_eq {α : Type} (k : Nat) (next : St -> Option α) (Q : Ex -> St -> Option α) (x4 : Int) (x16 : D0) (x17 : Int) (c1 c2 c5 : D0) :
  (den C k) cd2 (blkQ C 1 (sq (den C k) (lp C k) Js C cd3 (lq C 6 next Q))) (St4 x4 x16 x17 c1 c2 c5) = j0 k (fun x16 x17 c1 c2 => next (St1 x16 x17 c1 c2)) x4 x16 x17 c1 c2 c5 := by
 have h : ∀ (D L : DT α), denJ D L Js C cd2 (blkQ C 1 (sq D L Js C cd3 (lq C 6 next Q))) (St4 x4 x16 x17 c1 c2 c5) =
    L cd4 (blkQ C 4 (sq D L Js C cd5 (blkQ C 1 (sq D L Js C cd3 (lq C 6 next Q))))) (St5 x4 x16 x17 0 c1 c2 c5 (List.replicate 25 0)) := by
  intro D L; kernel_rfl
 have h2 := via (k := k) h
 refine h2.trans ?_
 simp only [a1]
 first | rfl | kernel_rfl
theorem a2 {α : Type} (k : Nat) (next : St -> Option α) (Q : Ex -> St -> Option α) (x4 : Int) (x16 : D0) (x17 : Int) (x20 : D0) (x21 : Int) (c1 c2 c5 : D0) :
  (lp C k) cd1 (blkQ C 2 (sq (den C k) (lp C k) Js C cd2 (blkQ C 1 (sq (den C k) (lp C k) Js C cd3 (lq C 6 next Q))))) (St2 x4 x16 x17 x20 x21 c1 c2 c5) = l1 k (fun x4 x16 x17 c1 c2 c5 => j0 k (fun x16 x17 c1 c2 => next (St1 x16 x17 c1 c2)) x4 x16 x17 c1 c2 c5) k x4 x16 x17 x20 x21 c1 c2 c5 :=
 (lp_iter 18 (by kernel_rfl)).trans ((l1_eq k _ k x4 x16 x17 x20 x21 c1 c2 c5).trans (congrArg (fun X => l1 k X k x4 x16 x17 x20 x21 c1 c2 c5) (funext fun x4 => funext fun x16 => funext fun x17 => funext fun c1 => funext fun c2 => funext fun c5 => (Eq.trans (b := (den C k) cd2 (blkQ C 1 (sq (den C k) (lp C k) Js C cd3 (lq C 6 next Q))) (St4 x4 x16 x17 c1 c2 c5)) (by kernel_rfl) (by simp only [j0_eq])))))
def St12 (c1 c2 : D0) : St := stL 111 [(1, .ref 1 0 []), (2, .ref 2 0 [])] [(1, .cell T4 (.data T4 c1) false), (2, .cell T4 (.data T4 c2) false)]
def l0s {α : Type} (k : Nat) (Nx : D0 -> Int -> D0 -> D0 -> Option α) (Xt0 : D0 -> D0 -> Option α) (x16 : D0) (x17 : Int) (c1 c2 : D0) : Option α :=
 if (decide (x17 < 24)) = true then
  if 0 <= x17 /\ x17 < (24 : Int) then
   l1 k (fun x4 x16 x17 c1 c2 c5 => j0 k Nx x4 x16 x17 c1 c2 c5) k (List.getD x16 (Int.toNat x17) 0) x16 x17 c1 0 c1 c2 [0, 0, 0, 0, 0]
  else none
 else
  Xt0 c1 c2
theorem l0s_eq {α : Type} (k : Nat) (next : St -> Option α) (Q : Ex -> St -> Option α) (x16 : D0) (x17 : Int) (c1 c2 : D0) :
  rnd C k cd0 6 Q next (St1 x16 x17 c1 c2) = l0s k (fun x16 x17 c1 c2 => next (St1 x16 x17 c1 c2)) (fun c1 c2 => Q (.exit 0) (St12 c1 c2)) x16 x17 c1 c2 := by
 have h : ∀ (D L : DT α), denJ D L Js C cd0 (lq C 6 next Q) (St1 x16 x17 c1 c2) =
    if (decide (x17 < 24)) = true then
     if 0 <= x17 /\ x17 < (24 : Int) then
      L cd1 (blkQ C 2 (sq D L Js C cd2 (blkQ C 1 (sq D L Js C cd3 (lq C 6 next Q))))) (St2 (List.getD x16 (Int.toNat x17) 0) x16 x17 c1 0 c1 c2 [0, 0, 0, 0, 0])
     else none
    else
     Q (.exit 0) (St12 c1 c2) := by
  intro D L; kernel_rfl
 have h2 := via (k := k) h
 refine h2.trans ?_
 simp only [a2]
 first | rfl | kernel_rfl
def l0 {α : Type} (k : Nat) (Xt0 : D0 -> D0 -> Option α) : Nat -> D0 -> Int -> D0 -> D0 -> Option α
 | 0, _, _, _, _ => none
 | n + 1, x16, x17, c1, c2 => l0s k (l0 k Xt0 n) Xt0 x16 x17 c1 c2
theorem l0_eq {α : Type} (k : Nat) (Q : Ex -> St -> Option α) : ∀ (n : Nat) (x16 : D0) (x17 : Int) (c1 c2 : D0), iter (rnd C k cd0 6 Q) n (St1 x16 x17 c1 c2) = l0 k (fun c1 c2 => Q (.exit 0) (St12 c1 c2)) n x16 x17 c1 c2
 | 0, _, _, _, _ => rfl
 | n + 1, x16, x17, c1, c2 => (iter_succ _ _ _).trans ((l0s_eq k _ Q x16 x17 c1 c2).trans (congrArg (fun N => l0s k N (fun c1 c2 => Q (.exit 0) (St12 c1 c2)) x16 x17 c1 c2) (by funext; exact l0_eq k Q n _ _ _ _)))
noncomputable def cd8 : Code := cR (cR (cB Tryd.f12))
def St13 (c1 c2 : D0) : St := stL 111 [(1, .ref 1 0 []), (2, .ref 2 0 [])] [(1, .cell T4 (.data T4 c1) false), (2, .cell T4 (.data T4 c2) false)]
def St14 (c2 : D0) : St := stL 111 [(2, .ref 2 0 [])] [(2, .cell T4 (.data T4 c2) false)]
def j4 {α : Type} (Rt : D0 -> Option α) (c1 c2 : D0) : Option α :=
 Rt c1
theorem j4_eq {α : Type} (k : Nat) (Q : Ex -> St -> Option α) (c1 c2 : D0) :
  (den C k) cd8 Q (St13 c1 c2) = j4 (fun c2 => Q .ret (St14 c2)) c1 c2 := by
 have h : ∀ (D L : DT α), denJ D L Js C cd8 Q (St13 c1 c2) = j4 (fun c2 => Q .ret (St14 c2)) c1 c2 := by
  intro D L; kernel_rfl
 have h2 := via (k := k) h
 exact h2
theorem a3 {α : Type} (k : Nat) (Q : Ex -> St -> Option α) (x16 : D0) (x17 : Int) (c1 c2 : D0) :
  (lp C k) cd0 (blkQ C 0 (sq (den C k) (lp C k) Js C cd8 Q)) (St1 x16 x17 c1 c2) = l0 k (fun c1 c2 => j4 (fun c2 => Q .ret (St14 c2)) c1 c2) k x16 x17 c1 c2 :=
 (lp_iter 6 (by kernel_rfl)).trans ((l0_eq k _ k x16 x17 c1 c2).trans (congrArg (fun X => l0 k X k x16 x17 c1 c2) (funext fun c1 => funext fun c2 => (Eq.trans (b := (den C k) cd8 Q (St13 c1 c2)) (by kernel_rfl) (by simp only [j4_eq])))))
def top {α : Type} (k : Nat) (Rt : D0 -> Option α) (x0 : D0) : Option α :=
 l0 k (fun c1 c2 => j4 Rt c1 c2) k gRounds 0 x0 (List.replicate 25 0)
theorem top_eq {α : Type} (k : Nat) (Q : Ex -> St -> Option α) (x0 : D0) :
  (den C k) (cB Tryd.f12) Q (St0 x0) = top k (fun c2 => Q .ret (St14 c2)) x0 := by
 have h : ∀ (D L : DT α), denJ D L Js C (cB Tryd.f12) Q (St0 x0) =
    L cd0 (blkQ C 0 (sq D L Js C cd8 Q)) (St1 gRounds 0 x0 (List.replicate 25 0)) := by
  intro D L; kernel_rfl
 have h2 := via (k := k) h
 refine h2.trans ?_
 simp only [a3]
 first | rfl | kernel_rfl
def run (x0 : D0) : Option D0 := top (α := List Int) fuel (fun c2 => some c2) x0
def F : Fn := ⟨T8, T4, false, fun x => run x.1⟩
theorem con : Con Tryd.prog 12 F :=
 con_of (C := C) (ctx_ok (by kernel_rfl) (by kernel_rfl) (by kernel_rfl) (by kernel_rfl) ⟨.inl ⟨math_bits_RotateLeft64.con, math_bits_RotateLeft64.named⟩, trivial⟩) (by kernel_rfl) Tryd.func12 (c := cB Tryd.f12) (by kernel_rfl) (by kernel_rfl) F (fun x => by simp [F, spread, Tryd.ntmps12]) (fun x => (St0 x.1)) (fun x => by kernel_rfl) fun x => (top_eq fuel _ x.1).trans (by kernel_rfl)
theorem named : Named Tryd.prog 12 := named_of Tryd.func12 (by kernel_rfl) (by kernel_rfl)
end Go.Bx.keccak_Turn
namespace Go.Bx.keccak_soak
def Js : List Nat := [7]
def C : Ctx := ⟨[(5, T9), (22, T2), (23, T4), (26, T12), (28, T13)], [], [], fnL [(12, keccak_Turn.F)], noSh, [], invL [], [(2, [2]), (1, [1, 2]), (4, [1, 2, 6, 7]), (6, [1, 2, 6, 7]), (18, [1, 2])], [], [], 0, 0⟩
def St0 (x0 : D1) : St := stL 30 [(0, .data T13 x0)] []
def St1 (x6 : D0) (x7 : Int) (c1 c2 : D1) : St := stL 30 [(1, .ref 1 0 []), (2, .ref 2 0 []), (6, .data T12 x6), (7, .data T1 x7)] [(1, .cell T13 (.data T13 c1) false), (2, .cell T13 (.data T13 c2) false)]
noncomputable def cd0 : Code := cL (cL (cR (cL (cR (cB Tryd.f43)))))
def St2 (c1 c2 : D1) : St := stL 30 [(1, .ref 1 0 []), (2, .ref 2 0 [])] [(1, .cell T13 (.data T13 c1) false), (2, .cell T13 (.data T13 c2) false)]
def l0s {α : Type} (Nx : D0 -> Int -> D1 -> D1 -> Option α) (Xt0 : D1 -> D1 -> Option α) (x6 : D0) (x7 : Int) (c1 c2 : D1) : Option α :=
 if (decide (x7 < 136)) = true then
  if 0 <= x7 /\ x7 < (136 : Int) then
   if 0 <= (IntKind.i64.wrap (Int.tdiv x7 8)) /\ (IntKind.i64.wrap (Int.tdiv x7 8)) < (25 : Int) then
    if 0 <= (IntKind.i64.wrap (8 * (Int.tmod x7 8))) then
     if 0 <= (IntKind.i64.wrap (Int.tdiv x7 8)) /\ (IntKind.i64.wrap (Int.tdiv x7 8)) < (25 : Int) then
      Nx x6 (IntKind.i64.wrap (x7 + 1)) ((List.set c1.1 (Int.toNat (IntKind.i64.wrap (Int.tdiv x7 8))) (bxor .u64 (List.getD c1.1 (Int.toNat (IntKind.i64.wrap (Int.tdiv x7 8))) 0) (shlI .u64 (IntKind.u64.wrap (List.getD x6 (Int.toNat x7) 0)) (IntKind.i64.wrap (8 * (Int.tmod x7 8)))))), c1.2) c2
     else none
    else none
   else none
  else none
 else
  Xt0 c1 c2
theorem l0s_eq {α : Type} (k : Nat) (next : St -> Option α) (Q : Ex -> St -> Option α) (x6 : D0) (x7 : Int) (c1 c2 : D1) :
  rnd C k cd0 6 Q next (St1 x6 x7 c1 c2) = l0s (fun x6 x7 c1 c2 => next (St1 x6 x7 c1 c2)) (fun c1 c2 => Q (.exit 0) (St2 c1 c2)) x6 x7 c1 c2 := by
 have h : ∀ (D L : DT α), denJ D L Js C cd0 (lq C 6 next Q) (St1 x6 x7 c1 c2) = l0s (fun x6 x7 c1 c2 => next (St1 x6 x7 c1 c2)) (fun c1 c2 => Q (.exit 0) (St2 c1 c2)) x6 x7 c1 c2 := by
  intro D L; kernel_rfl
 have h2 := via (k := k) h
 exact h2
def l0 {α : Type} (k : Nat) (Xt0 : D1 -> D1 -> Option α) : Nat -> D0 -> Int -> D1 -> D1 -> Option α
 | 0, _, _, _, _ => none
 | n + 1, x6, x7, c1, c2 => l0s (l0 k Xt0 n) Xt0 x6 x7 c1 c2
theorem l0_eq {α : Type} (k : Nat) (Q : Ex -> St -> Option α) : ∀ (n : Nat) (x6 : D0) (x7 : Int) (c1 c2 : D1), iter (rnd C k cd0 6 Q) n (St1 x6 x7 c1 c2) = l0 k (fun c1 c2 => Q (.exit 0) (St2 c1 c2)) n x6 x7 c1 c2
 | 0, _, _, _, _ => rfl
 | n + 1, x6, x7, c1, c2 => (iter_succ _ _ _).trans ((l0s_eq k _ Q x6 x7 c1 c2).trans (congrArg (fun N => l0s N (fun c1 c2 => Q (.exit 0) (St2 c1 c2)) x6 x7 c1 c2) (by funext; exact l0_eq k Q n _ _ _ _)))
noncomputable def cd1 : Code := cR (cR (cB Tryd.f43))
def St3 (c1 c2 : D1) : St := stL 30 [(1, .ref 1 0 []), (2, .ref 2 0 [])] [(1, .cell T13 (.data T13 c1) false), (2, .cell T13 (.data T13 c2) false)]
def St4 (c2 : D1) : St := stL 30 [(2, .ref 2 0 [])] [(2, .cell T13 (.data T13 c2) false)]
def j0 {α : Type} (Rt : D1 -> Option α) (c1 c2 : D1) : Option α :=
 (keccak_Turn.run c1.1).bind fun y1 =>
 Rt (y1, (List.replicate 136 0), 0, ())
theorem j0_eq {α : Type} (k : Nat) (Q : Ex -> St -> Option α) (c1 c2 : D1) :
  (den C k) cd1 Q (St3 c1 c2) = j0 (fun c2 => Q .ret (St4 c2)) c1 c2 := by
 have h : ∀ (D L : DT α), denJ D L Js C cd1 Q (St3 c1 c2) = j0 (fun c2 => Q .ret (St4 c2)) c1 c2 := by
  intro D L; kernel_rfl
 have h2 := via (k := k) h
 exact h2
theorem a0 {α : Type} (k : Nat) (Q : Ex -> St -> Option α) (x6 : D0) (x7 : Int) (c1 c2 : D1) :
  (lp C k) cd0 (blkQ C 0 (sq (den C k) (lp C k) Js C cd1 Q)) (St1 x6 x7 c1 c2) = l0 k (fun c1 c2 => j0 (fun c2 => Q .ret (St4 c2)) c1 c2) k x6 x7 c1 c2 :=
 (lp_iter 6 (by kernel_rfl)).trans ((l0_eq k _ k x6 x7 c1 c2).trans (congrArg (fun X => l0 k X k x6 x7 c1 c2) (funext fun c1 => funext fun c2 => (Eq.trans (b := (den C k) cd1 Q (St3 c1 c2)) (by kernel_rfl) (by simp only [j0_eq])))))
def top {α : Type} (k : Nat) (Rt : D1 -> Option α) (x0 : D1) : Option α :=
 l0 k (fun c1 c2 => j0 Rt c1 c2) k x0.2.1 0 x0 ((List.replicate 25 0), (List.replicate 136 0), 0, ())
theorem top_eq {α : Type} (k : Nat) (Q : Ex -> St -> Option α) (x0 : D1) :
  (den C k) (cB Tryd.f43) Q (St0 x0) = top k (fun c2 => Q .ret (St4 c2)) x0 := by
 have h : ∀ (D L : DT α), denJ D L Js C (cB Tryd.f43) Q (St0 x0) =
    L cd0 (blkQ C 0 (sq D L Js C cd1 Q)) (St1 x0.2.1 0 x0 ((List.replicate 25 0), (List.replicate 136 0), 0, ())) := by
  intro D L; kernel_rfl
 have h2 := via (k := k) h
 refine h2.trans ?_
 simp only [a0]
 first | rfl | kernel_rfl
def run (x0 : D1) : Option D1 := top (α := List Int × List Int × Int × Unit) fuel (fun c2 => some c2) x0
def F : Fn := ⟨T14, T13, false, fun x => run x.1⟩
theorem con : Con Tryd.prog 43 F :=
 con_of (C := C) (ctx_ok (by kernel_rfl) (by kernel_rfl) (by kernel_rfl) (by kernel_rfl) ⟨.inl ⟨keccak_Turn.con, keccak_Turn.named⟩, trivial⟩) (by kernel_rfl) Tryd.func43 (c := cB Tryd.f43) (by kernel_rfl) (by kernel_rfl) F (fun x => by simp [F, spread, Tryd.ntmps43]) (fun x => (St0 x.1)) (fun x => by kernel_rfl) fun x => (top_eq fuel _ x.1).trans (by kernel_rfl)
theorem named : Named Tryd.prog 43 := named_of Tryd.func43 (by kernel_rfl) (by kernel_rfl)
end Go.Bx.keccak_soak
namespace Go.Bx.keccak_check
def Js : List Nat := [10]
def C : Ctx := ⟨[(3, T1), (5, T9), (26, T12), (28, T13), (29, T10), (30, T1)], [], [], fnL [], noSh, [], invL [], [(2, [2]), (1, []), (4, [16, 17, 18]), (12, [16, 17, 18]), (27, [])], [], [], 0, 0⟩
def St0 (x0 : D1) : St := stL 25 [(0, .data T13 x0)] []
def St1 (x2 : Int) : St := stL 25 [(2, .data T1 x2)] []
def St2 (x16l x17 x18 : Int) (c1 : D1) : St := stL 25 [(16, .view 1 [.fld 1] T9 136 x16l 136), (17, .data T1 x17), (18, .data T1 x18)] [(1, .cell T13 (.data T13 c1) false)]
noncomputable def cd0 : Code := cL (cL (cR (cL (cR (cR (cB Tryd.f42))))))
def St3 : St := stL 25 [] []
def l0s {α : Type} (Nx : Int -> Int -> Int -> D1 -> Option α) (Rt : Int -> Option α) (Xt0 : Option α) (x16l x17 x18 : Int) (c1 : D1) : Option α :=
 if (decide (x18 < x17)) = true then
  if 0 <= x18 /\ x18 < (136 - x16l) then
   if ((List.getD c1.2.1 (Int.toNat (x16l + x18)) 0) != 0) = true then
    Rt 12
   else
    Nx x16l x17 (IntKind.i64.wrap (x18 + 1)) c1
  else none
 else
  Xt0
theorem l0s_eq {α : Type} (k : Nat) (next : St -> Option α) (Q : Ex -> St -> Option α) (x16l x17 x18 : Int) (c1 : D1) :
  rnd C k cd0 12 Q next (St2 x16l x17 x18 c1) = l0s (fun x16l x17 x18 c1 => next (St2 x16l x17 x18 c1)) (fun x2 => Q .ret (St1 x2)) (Q (.exit 0) St3) x16l x17 x18 c1 := by
 have h : ∀ (D L : DT α), denJ D L Js C cd0 (lq C 12 next Q) (St2 x16l x17 x18 c1) = l0s (fun x16l x17 x18 c1 => next (St2 x16l x17 x18 c1)) (fun x2 => Q .ret (St1 x2)) (Q (.exit 0) St3) x16l x17 x18 c1 := by
  intro D L; kernel_rfl
 have h2 := via (k := k) h
 exact h2
def l0 {α : Type} (k : Nat) (Rt : Int -> Option α) (Xt0 : Option α) : Nat -> Int -> Int -> Int -> D1 -> Option α
 | 0, _, _, _, _ => none
 | n + 1, x16l, x17, x18, c1 => l0s (l0 k Rt Xt0 n) Rt Xt0 x16l x17 x18 c1
theorem l0_eq {α : Type} (k : Nat) (Q : Ex -> St -> Option α) : ∀ (n : Nat) (x16l x17 x18 : Int) (c1 : D1), iter (rnd C k cd0 12 Q) n (St2 x16l x17 x18 c1) = l0 k (fun x2 => Q .ret (St1 x2)) (Q (.exit 0) St3) n x16l x17 x18 c1
 | 0, _, _, _, _ => rfl
 | n + 1, x16l, x17, x18, c1 => (iter_succ _ _ _).trans ((l0s_eq k _ Q x16l x17 x18 c1).trans (congrArg (fun N => l0s N (fun x2 => Q .ret (St1 x2)) (Q (.exit 0) St3) x16l x17 x18 c1) (by funext; exact l0_eq k Q n _ _ _ _)))
theorem l0_congr {α : Type} (k : Nat) (Rt : Int -> Option α) (Xt0 : Option α) (Rtq : Int -> Option α) (Xt0q : Option α) (hRt : ∀ (x2 : Int), Rt x2 = Rtq x2) (hXt0 : Xt0 = Xt0q) (n : Nat) (x16l x17 x18 : Int) (c1 : D1) : l0 k Rt Xt0 n x16l x17 x18 c1 = l0 k Rtq Xt0q n x16l x17 x18 c1 := by
 obtain rfl : Rt = Rtq := by funext x2; exact hRt x2
 obtain rfl : Xt0 = Xt0q := hXt0
 rfl
noncomputable def cd1 : Code := cR (cR (cR (cB Tryd.f42)))
def St4 : St := stL 25 [] []
def j0 {α : Type} (Rt : Int -> Option α) : Option α :=
 Rt 0
theorem j0_eq {α : Type} (k : Nat) (Q : Ex -> St -> Option α) :
  (den C k) cd1 Q St4 = j0 (fun x2 => Q .ret (St1 x2)) := by
 have h : ∀ (D L : DT α), denJ D L Js C cd1 Q St4 = j0 (fun x2 => Q .ret (St1 x2)) := by
  intro D L; kernel_rfl
 have h2 := via (k := k) h
 exact h2
theorem a0 {α : Type} (k : Nat) (Q : Ex -> St -> Option α) (x16l x17 x18 : Int) (c1 : D1) :
  (lp C k) cd0 (blkQ C 0 (sq (den C k) (lp C k) Js C cd1 Q)) (St2 x16l x17 x18 c1) = l0 k (fun x2 => (fun x2 => Q .ret (St1 x2)) x2) (j0 (fun x2 => Q .ret (St1 x2))) k x16l x17 x18 c1 :=
 (lp_iter 12 (by kernel_rfl)).trans ((l0_eq k _ k x16l x17 x18 c1).trans (l0_congr k _ _ _ _ (fun x2 => (by kernel_rfl)) (Eq.trans (b := (den C k) cd1 Q St4) (by kernel_rfl) (by simp only [j0_eq])) k x16l x17 x18 c1))
def top {α : Type} (k : Nat) (Rt : Int -> Option α) (x0 : D1) : Option α :=
 if (cond (decide (x0.2.2.1 < 0)) true (decide (x0.2.2.1 >= 136))) = true then
  Rt 12
 else
  if 0 <= x0.2.2.1 /\ x0.2.2.1 <= (136 : Int) /\ (136 : Int) <= (136 : Int) then
   l0 k (fun x2 => Rt x2) (j0 Rt) k x0.2.2.1 ((cutL x0.2.1 x0.2.2.1 136).length : Int) 0 x0
  else none
theorem top_eq {α : Type} (k : Nat) (Q : Ex -> St -> Option α) (x0 : D1) :
  (den C k) (cB Tryd.f42) Q (St0 x0) = top k (fun x2 => Q .ret (St1 x2)) x0 := by
 have h : ∀ (D L : DT α), denJ D L Js C (cB Tryd.f42) Q (St0 x0) =
    if (cond (decide (x0.2.2.1 < 0)) true (decide (x0.2.2.1 >= 136))) = true then
     Q .ret (St1 12)
    else
     if 0 <= x0.2.2.1 /\ x0.2.2.1 <= (136 : Int) /\ (136 : Int) <= (136 : Int) then
      L cd0 (blkQ C 0 (sq D L Js C cd1 Q)) (St2 x0.2.2.1 ((cutL x0.2.1 x0.2.2.1 136).length : Int) 0 x0)
     else none := by
  intro D L; kernel_rfl
 have h2 := via (k := k) h
 refine h2.trans ?_
 simp only [a0]
 first | rfl | kernel_rfl
def run (x0 : D1) : Option (Int) := top (α := Int) fuel (fun x2 => some x2) x0
def F : Fn := ⟨T14, T1, false, fun x => run x.1⟩
theorem con : Con Tryd.prog 42 F :=
 con_of (C := C) (ctx_ok (by kernel_rfl) (by kernel_rfl) (by kernel_rfl) (by kernel_rfl) trivial) (by kernel_rfl) Tryd.func42 (c := cB Tryd.f42) (by kernel_rfl) (by kernel_rfl) F (fun x => by simp [F, spread, Tryd.ntmps42]) (fun x => (St0 x.1)) (fun x => by kernel_rfl) fun x => (top_eq fuel _ x.1).trans (by kernel_rfl)
theorem named : Named Tryd.prog 42 := named_of Tryd.func42 (by kernel_rfl) (by kernel_rfl)
end Go.Bx.keccak_check
namespace Go.Bx.keccak_Add
def Js : List Nat := [12, 13]
def C : Ctx := ⟨[(3, T1), (5, T9), (26, T12), (28, T13), (29, T10), (30, T1)], [], [], fnL [(42, keccak_check.F), (43, keccak_soak.F)], noSh, [], invL [], [(2, [4, 5]), (1, [2, 4]), (4, [2, 4, 15, 16, 17]), (15, [2, 4, 15, 16, 17]), (33, [2, 4, 15, 16, 17]), (36, [2, 4])], [], [], 0, 0⟩
def St0 (x0 : D1) (x1 : D0) : St := stL 37 [(0, .data T13 x0), (1, .data T10 x1)] []
def St1 (x5 : Int) (c4 : D1) : St := stL 37 [(4, .ref 4 0 []), (5, .data T1 x5)] [(4, .cell T13 (.data T13 c4) false)]
def St2 (x15 : D0) (x16 x17 : Int) (c2 c4 : D1) : St := stL 37 [(2, .ref 2 0 []), (4, .ref 4 0 []), (15, .data T10 x15), (16, .data T1 x16), (17, .data T1 x17)] [(2, .cell T13 (.data T13 c2) false), (4, .cell T13 (.data T13 c4) false)]
noncomputable def cd0 : Code := cL (cL (cR (cL (cR (cR (cB Tryd.f14))))))
def St3 (x15 : D0) (x16 x17 : Int) (c2 c4 : D1) : St := stL 37 [(2, .ref 2 0 []), (4, .ref 4 0 []), (15, .data T10 x15), (16, .data T1 x16), (17, .data T1 x17)] [(2, .cell T13 (.data T13 c2) false), (4, .cell T13 (.data T13 c4) false)]
noncomputable def cd1 : Code := cR (cR (cR (cL (cL (cR (cL (cR (cR (cB Tryd.f14)))))))))
def j0 {α : Type} (Nx : D0 -> Int -> Int -> D1 -> D1 -> Option α) (x15 : D0) (x16 x17 : Int) (c2 c4 : D1) : Option α :=
 Nx x15 x16 (IntKind.i64.wrap (x17 + 1)) c2 c4
theorem j0_eq {α : Type} (k : Nat) (next : St -> Option α) (Q : Ex -> St -> Option α) (x15 : D0) (x16 x17 : Int) (c2 c4 : D1) :
  (den C k) cd1 (lq C 15 next Q) (St3 x15 x16 x17 c2 c4) = j0 (fun x15 x16 x17 c2 c4 => next (St2 x15 x16 x17 c2 c4)) x15 x16 x17 c2 c4 := by
 have h : ∀ (D L : DT α), denJ D L Js C cd1 (lq C 15 next Q) (St3 x15 x16 x17 c2 c4) = j0 (fun x15 x16 x17 c2 c4 => next (St2 x15 x16 x17 c2 c4)) x15 x16 x17 c2 c4 := by
  intro D L; kernel_rfl
 have h2 := via (k := k) h
 exact h2
def St4 (c2 c4 : D1) : St := stL 37 [(2, .ref 2 0 []), (4, .ref 4 0 [])] [(2, .cell T13 (.data T13 c2) false), (4, .cell T13 (.data T13 c4) false)]
def l0s {α : Type} (Nx : D0 -> Int -> Int -> D1 -> D1 -> Option α) (Xt0 : D1 -> D1 -> Option α) (x15 : D0) (x16 x17 : Int) (c2 c4 : D1) : Option α :=
 if (decide (x17 < x16)) = true then
  if 0 <= x17 /\ x17 < (x15.length : Int) then
   if 0 <= c2.2.2.1 /\ c2.2.2.1 < (136 : Int) then
    if ((IntKind.i64.wrap (c2.2.2.1 + 1)) == 136) = true then
     (keccak_soak.run (c2.1, (List.set c2.2.1 (Int.toNat c2.2.2.1) (List.getD x15 (Int.toNat x17) 0)), (IntKind.i64.wrap (c2.2.2.1 + 1)), c2.2.2.2)).bind fun y2 =>
     j0 Nx x15 x16 x17 y2 c4
    else
     j0 Nx x15 x16 x17 (c2.1, (List.set c2.2.1 (Int.toNat c2.2.2.1) (List.getD x15 (Int.toNat x17) 0)), (IntKind.i64.wrap (c2.2.2.1 + 1)), c2.2.2.2) c4
   else none
  else none
 else
  Xt0 c2 c4
theorem l0s_eq {α : Type} (k : Nat) (next : St -> Option α) (Q : Ex -> St -> Option α) (x15 : D0) (x16 x17 : Int) (c2 c4 : D1) :
  rnd C k cd0 15 Q next (St2 x15 x16 x17 c2 c4) = l0s (fun x15 x16 x17 c2 c4 => next (St2 x15 x16 x17 c2 c4)) (fun c2 c4 => Q (.exit 0) (St4 c2 c4)) x15 x16 x17 c2 c4 := by
 have h : ∀ (D L : DT α), denJ D L Js C cd0 (lq C 15 next Q) (St2 x15 x16 x17 c2 c4) =
    if (decide (x17 < x16)) = true then
     if 0 <= x17 /\ x17 < (x15.length : Int) then
      if 0 <= c2.2.2.1 /\ c2.2.2.1 < (136 : Int) then
       if ((IntKind.i64.wrap (c2.2.2.1 + 1)) == 136) = true then
        (keccak_soak.run (c2.1, (List.set c2.2.1 (Int.toNat c2.2.2.1) (List.getD x15 (Int.toNat x17) 0)), (IntKind.i64.wrap (c2.2.2.1 + 1)), c2.2.2.2)).bind fun y2 =>
        D cd1 (lq C 15 next Q) (St3 x15 x16 x17 y2 c4)
       else
        D cd1 (lq C 15 next Q) (St3 x15 x16 x17 (c2.1, (List.set c2.2.1 (Int.toNat c2.2.2.1) (List.getD x15 (Int.toNat x17) 0)), (IntKind.i64.wrap (c2.2.2.1 + 1)), c2.2.2.2) c4)
      else none
     else none
    else
     Q (.exit 0) (St4 c2 c4) := by
  intro D L; kernel_rfl
 have h2 := via (k := k) h
 refine h2.trans ?_
 simp only [j0_eq]
 first | rfl | kernel_rfl
def l0 {α : Type} (k : Nat) (Xt0 : D1 -> D1 -> Option α) : Nat -> D0 -> Int -> Int -> D1 -> D1 -> Option α
 | 0, _, _, _, _, _ => none
 | n + 1, x15, x16, x17, c2, c4 => l0s (l0 k Xt0 n) Xt0 x15 x16 x17 c2 c4
theorem l0_eq {α : Type} (k : Nat) (Q : Ex -> St -> Option α) : ∀ (n : Nat) (x15 : D0) (x16 x17 : Int) (c2 c4 : D1), iter (rnd C k cd0 15 Q) n (St2 x15 x16 x17 c2 c4) = l0 k (fun c2 c4 => Q (.exit 0) (St4 c2 c4)) n x15 x16 x17 c2 c4
 | 0, _, _, _, _, _ => rfl
 | n + 1, x15, x16, x17, c2, c4 => (iter_succ _ _ _).trans ((l0s_eq k _ Q x15 x16 x17 c2 c4).trans (congrArg (fun N => l0s N (fun c2 c4 => Q (.exit 0) (St4 c2 c4)) x15 x16 x17 c2 c4) (by funext; exact l0_eq k Q n _ _ _ _ _)))
noncomputable def cd2 : Code := cR (cR (cR (cB Tryd.f14)))
def St5 (c2 c4 : D1) : St := stL 37 [(2, .ref 2 0 []), (4, .ref 4 0 [])] [(2, .cell T13 (.data T13 c2) false), (4, .cell T13 (.data T13 c4) false)]
def j1 {α : Type} (Rt : Int -> D1 -> Option α) (c2 c4 : D1) : Option α :=
 Rt 0 c2
theorem j1_eq {α : Type} (k : Nat) (Q : Ex -> St -> Option α) (c2 c4 : D1) :
  (den C k) cd2 Q (St5 c2 c4) = j1 (fun x5 c4 => Q .ret (St1 x5 c4)) c2 c4 := by
 have h : ∀ (D L : DT α), denJ D L Js C cd2 Q (St5 c2 c4) = j1 (fun x5 c4 => Q .ret (St1 x5 c4)) c2 c4 := by
  intro D L; kernel_rfl
 have h2 := via (k := k) h
 exact h2
theorem a0 {α : Type} (k : Nat) (Q : Ex -> St -> Option α) (x15 : D0) (x16 x17 : Int) (c2 c4 : D1) :
  (lp C k) cd0 (blkQ C 0 (sq (den C k) (lp C k) Js C cd2 Q)) (St2 x15 x16 x17 c2 c4) = l0 k (fun c2 c4 => j1 (fun x5 c4 => Q .ret (St1 x5 c4)) c2 c4) k x15 x16 x17 c2 c4 :=
 (lp_iter 15 (by kernel_rfl)).trans ((l0_eq k _ k x15 x16 x17 c2 c4).trans (congrArg (fun X => l0 k X k x15 x16 x17 c2 c4) (funext fun c2 => funext fun c4 => (Eq.trans (b := (den C k) cd2 Q (St5 c2 c4)) (by kernel_rfl) (by simp only [j1_eq])))))
def top {α : Type} (k : Nat) (Rt : Int -> D1 -> Option α) (x0 : D1) (x1 : D0) : Option α :=
 (keccak_check.run x0).bind fun y1 =>
 if (y1 != 0) = true then
  Rt y1 ((List.replicate 25 0), (List.replicate 136 0), 0, ())
 else
  l0 k (fun c2 c4 => j1 Rt c2 c4) k x1 (x1.length : Int) 0 x0 ((List.replicate 25 0), (List.replicate 136 0), 0, ())
theorem top_eq {α : Type} (k : Nat) (Q : Ex -> St -> Option α) (x0 : D1) (x1 : D0) :
  (den C k) (cB Tryd.f14) Q (St0 x0 x1) = top k (fun x5 c4 => Q .ret (St1 x5 c4)) x0 x1 := by
 have h : ∀ (D L : DT α), denJ D L Js C (cB Tryd.f14) Q (St0 x0 x1) =
    (keccak_check.run x0).bind fun y1 =>
    if (y1 != 0) = true then
     Q .ret (St1 y1 ((List.replicate 25 0), (List.replicate 136 0), 0, ()))
    else
     L cd0 (blkQ C 0 (sq D L Js C cd2 Q)) (St2 x1 (x1.length : Int) 0 x0 ((List.replicate 25 0), (List.replicate 136 0), 0, ())) := by
  intro D L; kernel_rfl
 have h2 := via (k := k) h
 refine h2.trans ?_
 simp only [a0]
 first | rfl | kernel_rfl
def run (x0 : D1) (x1 : D0) : Option D2 := top (α := D1 × Int × Unit) fuel (fun x5 c4 => some (c4, x5, ())) x0 x1
def F : Fn := ⟨T15, T16, true, fun x => run x.1 x.2.1⟩
theorem con : Con Tryd.prog 14 F :=
 con_of (C := C) (ctx_ok (by kernel_rfl) (by kernel_rfl) (by kernel_rfl) (by kernel_rfl) ⟨.inl ⟨keccak_check.con, keccak_check.named⟩, ⟨.inl ⟨keccak_soak.con, keccak_soak.named⟩, trivial⟩⟩) (by kernel_rfl) Tryd.func14 (c := cB Tryd.f14) (by kernel_rfl) (by kernel_rfl) F (fun x => by simp [F, spread, Tryd.ntmps14]) (fun x => (St0 x.1 x.2.1)) (fun x => by kernel_rfl) fun x => (top_eq fuel _ x.1 x.2.1).trans (by kernel_rfl)
theorem named : Named Tryd.prog 14 := named_of Tryd.func14 (by kernel_rfl) (by kernel_rfl)
end Go.Bx.keccak_Add
namespace Go.Bx.keccak_End
def Js : List Nat := [14]
def C : Ctx := ⟨[(3, T1), (5, T9), (22, T2), (23, T4), (26, T12), (28, T13), (30, T1), (35, T18)], [], [], fnL [(42, keccak_check.F), (43, keccak_soak.F)], noSh, [], invL [], [(2, [2, 3]), (1, [2, 5]), (4, [1, 2, 5, 25]), (27, [1, 2, 5, 25]), (39, [2, 5])], [], [], 0, 0⟩
def St0 (x0 : D1) : St := stL 42 [(0, .data T13 x0)] []
def St1 (x3 : Int) (c2 : D0) : St := stL 42 [(2, .ref 2 0 []), (3, .data T1 x3)] [(2, .cell T18 (.data T18 c2) false)]
def St2 (x25 : Int) (c1 : D1) (c2 c5 : D0) : St := stL 42 [(1, .ref 1 0 []), (2, .ref 2 0 []), (5, .ref 5 0 []), (25, .data T1 x25)] [(1, .cell T13 (.data T13 c1) false), (2, .cell T18 (.data T18 c2) false), (5, .cell T18 (.data T18 c5) false)]
noncomputable def cd0 : Code := cL (cL (cR (cL (cR (cR (cR (cR (cR (cR (cB Tryd.f17))))))))))
def St3 (c2 c5 : D0) : St := stL 42 [(2, .ref 2 0 []), (5, .ref 5 0 [])] [(2, .cell T18 (.data T18 c2) false), (5, .cell T18 (.data T18 c5) false)]
def l0s {α : Type} (Nx : Int -> D1 -> D0 -> D0 -> Option α) (Xt0 : D0 -> D0 -> Option α) (x25 : Int) (c1 : D1) (c2 c5 : D0) : Option α :=
 if (decide (x25 < 32)) = true then
  if 0 <= (IntKind.i64.wrap (Int.tdiv x25 8)) /\ (IntKind.i64.wrap (Int.tdiv x25 8)) < (25 : Int) then
   if 0 <= (IntKind.i64.wrap (8 * (Int.tmod x25 8))) then
    if 0 <= x25 /\ x25 < (32 : Int) then
     Nx (IntKind.i64.wrap (x25 + 1)) c1 c2 (List.set c5 (Int.toNat x25) (IntKind.u8.wrap (shrI .u64 (List.getD c1.1 (Int.toNat (IntKind.i64.wrap (Int.tdiv x25 8))) 0) (IntKind.i64.wrap (8 * (Int.tmod x25 8))))))
    else none
   else none
  else none
 else
  Xt0 c2 c5
theorem l0s_eq {α : Type} (k : Nat) (next : St -> Option α) (Q : Ex -> St -> Option α) (x25 : Int) (c1 : D1) (c2 c5 : D0) :
  rnd C k cd0 27 Q next (St2 x25 c1 c2 c5) = l0s (fun x25 c1 c2 c5 => next (St2 x25 c1 c2 c5)) (fun c2 c5 => Q (.exit 0) (St3 c2 c5)) x25 c1 c2 c5 := by
 have h : ∀ (D L : DT α), denJ D L Js C cd0 (lq C 27 next Q) (St2 x25 c1 c2 c5) = l0s (fun x25 c1 c2 c5 => next (St2 x25 c1 c2 c5)) (fun c2 c5 => Q (.exit 0) (St3 c2 c5)) x25 c1 c2 c5 := by
  intro D L; kernel_rfl
 have h2 := via (k := k) h
 exact h2
def l0 {α : Type} (k : Nat) (Xt0 : D0 -> D0 -> Option α) : Nat -> Int -> D1 -> D0 -> D0 -> Option α
 | 0, _, _, _, _ => none
 | n + 1, x25, c1, c2, c5 => l0s (l0 k Xt0 n) Xt0 x25 c1 c2 c5
theorem l0_eq {α : Type} (k : Nat) (Q : Ex -> St -> Option α) : ∀ (n : Nat) (x25 : Int) (c1 : D1) (c2 c5 : D0), iter (rnd C k cd0 27 Q) n (St2 x25 c1 c2 c5) = l0 k (fun c2 c5 => Q (.exit 0) (St3 c2 c5)) n x25 c1 c2 c5
 | 0, _, _, _, _ => rfl
 | n + 1, x25, c1, c2, c5 => (iter_succ _ _ _).trans ((l0s_eq k _ Q x25 c1 c2 c5).trans (congrArg (fun N => l0s N (fun c2 c5 => Q (.exit 0) (St3 c2 c5)) x25 c1 c2 c5) (by funext; exact l0_eq k Q n _ _ _ _)))
noncomputable def cd1 : Code := cR (cR (cR (cR (cR (cR (cR (cB Tryd.f17)))))))
def St4 (c2 c5 : D0) : St := stL 42 [(2, .ref 2 0 []), (5, .ref 5 0 [])] [(2, .cell T18 (.data T18 c2) false), (5, .cell T18 (.data T18 c5) false)]
def j0 {α : Type} (Rt : Int -> D0 -> Option α) (c2 c5 : D0) : Option α :=
 Rt 0 c5
theorem j0_eq {α : Type} (k : Nat) (Q : Ex -> St -> Option α) (c2 c5 : D0) :
  (den C k) cd1 Q (St4 c2 c5) = j0 (fun x3 c2 => Q .ret (St1 x3 c2)) c2 c5 := by
 have h : ∀ (D L : DT α), denJ D L Js C cd1 Q (St4 c2 c5) = j0 (fun x3 c2 => Q .ret (St1 x3 c2)) c2 c5 := by
  intro D L; kernel_rfl
 have h2 := via (k := k) h
 exact h2
theorem a0 {α : Type} (k : Nat) (Q : Ex -> St -> Option α) (x25 : Int) (c1 : D1) (c2 c5 : D0) :
  (lp C k) cd0 (blkQ C 0 (sq (den C k) (lp C k) Js C cd1 Q)) (St2 x25 c1 c2 c5) = l0 k (fun c2 c5 => j0 (fun x3 c2 => Q .ret (St1 x3 c2)) c2 c5) k x25 c1 c2 c5 :=
 (lp_iter 27 (by kernel_rfl)).trans ((l0_eq k _ k x25 c1 c2 c5).trans (congrArg (fun X => l0 k X k x25 c1 c2 c5) (funext fun c2 => funext fun c5 => (Eq.trans (b := (den C k) cd1 Q (St4 c2 c5)) (by kernel_rfl) (by simp only [j0_eq])))))
def top {α : Type} (k : Nat) (Rt : Int -> D0 -> Option α) (x0 : D1) : Option α :=
 (keccak_check.run x0).bind fun y1 =>
 if (y1 != 0) = true then
  Rt y1 (List.replicate 32 0)
 else
  if 0 <= x0.2.2.1 /\ x0.2.2.1 < (136 : Int) then
   (keccak_soak.run (x0.1, (List.set (List.set x0.2.1 (Int.toNat x0.2.2.1) 1) 135 (bor .u8 (List.getD (List.set x0.2.1 (Int.toNat x0.2.2.1) 1) 135 0) 128)), x0.2.2)).bind fun y2 =>
   l0 k (fun c2 c5 => j0 Rt c2 c5) k 0 y2 (List.replicate 32 0) (List.replicate 32 0)
  else none
theorem top_eq {α : Type} (k : Nat) (Q : Ex -> St -> Option α) (x0 : D1) :
  (den C k) (cB Tryd.f17) Q (St0 x0) = top k (fun x3 c2 => Q .ret (St1 x3 c2)) x0 := by
 have h : ∀ (D L : DT α), denJ D L Js C (cB Tryd.f17) Q (St0 x0) =
    (keccak_check.run x0).bind fun y1 =>
    if (y1 != 0) = true then
     Q .ret (St1 y1 (List.replicate 32 0))
    else
     if 0 <= x0.2.2.1 /\ x0.2.2.1 < (136 : Int) then
      (keccak_soak.run (x0.1, (List.set (List.set x0.2.1 (Int.toNat x0.2.2.1) 1) 135 (bor .u8 (List.getD (List.set x0.2.1 (Int.toNat x0.2.2.1) 1) 135 0) 128)), x0.2.2)).bind fun y2 =>
      L cd0 (blkQ C 0 (sq D L Js C cd1 Q)) (St2 0 y2 (List.replicate 32 0) (List.replicate 32 0))
     else none := by
  intro D L; kernel_rfl
 have h2 := via (k := k) h
 refine h2.trans ?_
 simp only [a0]
 first | rfl | kernel_rfl
def run (x0 : D1) : Option D3 := top (α := List Int × Int × Unit) fuel (fun x3 c2 => some (c2, x3, ())) x0
def F : Fn := ⟨T14, T19, true, fun x => run x.1⟩
theorem con : Con Tryd.prog 17 F :=
 con_of (C := C) (ctx_ok (by kernel_rfl) (by kernel_rfl) (by kernel_rfl) (by kernel_rfl) ⟨.inl ⟨keccak_check.con, keccak_check.named⟩, ⟨.inl ⟨keccak_soak.con, keccak_soak.named⟩, trivial⟩⟩) (by kernel_rfl) Tryd.func17 (c := cB Tryd.f17) (by kernel_rfl) (by kernel_rfl) F (fun x => by simp [F, spread, Tryd.ntmps17]) (fun x => (St0 x.1)) (fun x => by kernel_rfl) fun x => (top_eq fuel _ x.1).trans (by kernel_rfl)
theorem named : Named Tryd.prog 17 := named_of Tryd.func17 (by kernel_rfl) (by kernel_rfl)
end Go.Bx.keccak_End
namespace Go.Bx.keccak_Begin
def Js : List Nat := []
def C : Ctx := ⟨[(28, T13)], [], [], fnL [], noSh, [], invL [], [(2, [0])], [], [], 0, 0⟩
def St0 : St := stL 2 [] []
def St1 (c0 : D1) : St := stL 2 [(0, .ref 0 0 [])] [(0, .cell T13 (.data T13 c0) false)]
def top {α : Type} (Rt : D1 -> Option α) : Option α :=
 Rt ((List.replicate 25 0), (List.replicate 136 0), 0, ())
theorem top_eq {α : Type} (k : Nat) (Q : Ex -> St -> Option α) :
  (den C k) (cB Tryd.f16) Q St0 = top (fun c0 => Q .ret (St1 c0)) := by
 have h : ∀ (D L : DT α), denJ D L Js C (cB Tryd.f16) Q St0 = top (fun c0 => Q .ret (St1 c0)) := by
  intro D L; kernel_rfl
 have h2 := via (k := k) h
 exact h2
def run : Option D1 := top (α := List Int × List Int × Int × Unit) (fun c0 => some c0)
def F : Fn := ⟨.unit, T13, false, fun x => run⟩
theorem con : Con Tryd.prog 16 F :=
 con_of (C := C) (ctx_ok (by kernel_rfl) (by kernel_rfl) (by kernel_rfl) (by kernel_rfl) trivial) (by kernel_rfl) Tryd.func16 (c := cB Tryd.f16) (by kernel_rfl) (by kernel_rfl) F (fun x => by simp [F, spread, Tryd.ntmps16]) (fun x => St0) (fun x => by kernel_rfl) fun x => (top_eq fuel _).trans (by kernel_rfl)
theorem named : Named Tryd.prog 16 := named_of Tryd.func16 (by kernel_rfl) (by kernel_rfl)
end Go.Bx.keccak_Begin
namespace Go.Bx.keccak_Sum
def Js : List Nat := []
def C : Ctx := ⟨[(28, T13), (29, T10), (35, T18)], [], [], fnL [(14, keccak_Add.F), (16, keccak_Begin.F), (17, keccak_End.F)], noSh, [], invL [], [(2, [2])], [], [], 0, 0⟩
def St0 (x0 : D0) : St := stL 19 [(0, .data T10 x0)] []
def St1 (c2 : D0) : St := stL 19 [(2, .ref 2 0 [])] [(2, .cell T18 (.data T18 c2) false)]
def top {α : Type} (Rt : D0 -> Option α) (x0 : D0) : Option α :=
 (keccak_Begin.run).bind fun y1 =>
 (keccak_Add.run y1 x0).bind fun y2 =>
 (keccak_End.run y2.1).bind fun y3 =>
 Rt y3.1
theorem top_eq {α : Type} (k : Nat) (Q : Ex -> St -> Option α) (x0 : D0) :
  (den C k) (cB Tryd.f19) Q (St0 x0) = top (fun c2 => Q .ret (St1 c2)) x0 := by
 have h : ∀ (D L : DT α), denJ D L Js C (cB Tryd.f19) Q (St0 x0) = top (fun c2 => Q .ret (St1 c2)) x0 := by
  intro D L; kernel_rfl
 have h2 := via (k := k) h
 exact h2
def run (x0 : D0) : Option D0 := top (α := List Int) (fun c2 => some c2) x0
def F : Fn := ⟨T20, T18, false, fun x => run x.1⟩
theorem con : Con Tryd.prog 19 F :=
 con_of (C := C) (ctx_ok (by kernel_rfl) (by kernel_rfl) (by kernel_rfl) (by kernel_rfl) ⟨.inl ⟨keccak_Add.con, keccak_Add.named⟩, ⟨.inl ⟨keccak_Begin.con, keccak_Begin.named⟩, ⟨.inl ⟨keccak_End.con, keccak_End.named⟩, trivial⟩⟩⟩) (by kernel_rfl) Tryd.func19 (c := cB Tryd.f19) (by kernel_rfl) (by kernel_rfl) F (fun x => by simp [F, spread, Tryd.ntmps19]) (fun x => (St0 x.1)) (fun x => by kernel_rfl) fun x => (top_eq fuel _ x.1).trans (by kernel_rfl)
theorem named : Named Tryd.prog 19 := named_of Tryd.func19 (by kernel_rfl) (by kernel_rfl)
end Go.Bx.keccak_Sum
namespace Go.Bx.wide_Bytes
def Js : List Nat := [8]
def C : Ctx := ⟨[(5, T9), (22, T2), (35, T18), (56, T32)], [], [], fnL [], noSh, [], invL [], [(2, [2]), (1, [2, 3]), (4, [1, 2, 3, 5]), (9, [1, 2, 3, 5]), (21, [2, 3])], [], [], 0, 0⟩
def St0 (x0 : D0) : St := stL 22 [(0, .data T32 x0)] []
def St1 (x5 : Int) (c1 c2 c3 : D0) : St := stL 22 [(1, .ref 1 0 []), (2, .ref 2 0 []), (3, .ref 3 0 []), (5, .data T1 x5)] [(1, .cell T32 (.data T32 c1) false), (2, .cell T18 (.data T18 c2) false), (3, .cell T18 (.data T18 c3) false)]
noncomputable def cd0 : Code := cL (cL (cR (cL (cR (cR (cB Tryd.f56))))))
def St2 (c2 c3 : D0) : St := stL 22 [(2, .ref 2 0 []), (3, .ref 3 0 [])] [(2, .cell T18 (.data T18 c2) false), (3, .cell T18 (.data T18 c3) false)]
def l0s {α : Type} (Nx : Int -> D0 -> D0 -> D0 -> Option α) (Xt0 : D0 -> D0 -> Option α) (x5 : Int) (c1 c2 c3 : D0) : Option α :=
 if (decide (x5 < 32)) = true then
  if 0 <= (IntKind.i64.wrap (Int.tdiv x5 8)) /\ (IntKind.i64.wrap (Int.tdiv x5 8)) < (4 : Int) then
   if 0 <= (IntKind.i64.wrap (8 * (Int.tmod x5 8))) then
    if 0 <= (IntKind.i64.wrap (31 - x5)) /\ (IntKind.i64.wrap (31 - x5)) < (32 : Int) then
     Nx (IntKind.i64.wrap (x5 + 1)) c1 c2 (List.set c3 (Int.toNat (IntKind.i64.wrap (31 - x5))) (IntKind.u8.wrap (shrI .u64 (List.getD c1 (Int.toNat (IntKind.i64.wrap (Int.tdiv x5 8))) 0) (IntKind.i64.wrap (8 * (Int.tmod x5 8))))))
    else none
   else none
  else none
 else
  Xt0 c2 c3
theorem l0s_eq {α : Type} (k : Nat) (next : St -> Option α) (Q : Ex -> St -> Option α) (x5 : Int) (c1 c2 c3 : D0) :
  rnd C k cd0 9 Q next (St1 x5 c1 c2 c3) = l0s (fun x5 c1 c2 c3 => next (St1 x5 c1 c2 c3)) (fun c2 c3 => Q (.exit 0) (St2 c2 c3)) x5 c1 c2 c3 := by
 have h : ∀ (D L : DT α), denJ D L Js C cd0 (lq C 9 next Q) (St1 x5 c1 c2 c3) = l0s (fun x5 c1 c2 c3 => next (St1 x5 c1 c2 c3)) (fun c2 c3 => Q (.exit 0) (St2 c2 c3)) x5 c1 c2 c3 := by
  intro D L; kernel_rfl
 have h2 := via (k := k) h
 exact h2
def l0 {α : Type} (k : Nat) (Xt0 : D0 -> D0 -> Option α) : Nat -> Int -> D0 -> D0 -> D0 -> Option α
 | 0, _, _, _, _ => none
 | n + 1, x5, c1, c2, c3 => l0s (l0 k Xt0 n) Xt0 x5 c1 c2 c3
theorem l0_eq {α : Type} (k : Nat) (Q : Ex -> St -> Option α) : ∀ (n : Nat) (x5 : Int) (c1 c2 c3 : D0), iter (rnd C k cd0 9 Q) n (St1 x5 c1 c2 c3) = l0 k (fun c2 c3 => Q (.exit 0) (St2 c2 c3)) n x5 c1 c2 c3
 | 0, _, _, _, _ => rfl
 | n + 1, x5, c1, c2, c3 => (iter_succ _ _ _).trans ((l0s_eq k _ Q x5 c1 c2 c3).trans (congrArg (fun N => l0s N (fun c2 c3 => Q (.exit 0) (St2 c2 c3)) x5 c1 c2 c3) (by funext; exact l0_eq k Q n _ _ _ _)))
noncomputable def cd1 : Code := cR (cR (cR (cB Tryd.f56)))
def St3 (c2 c3 : D0) : St := stL 22 [(2, .ref 2 0 []), (3, .ref 3 0 [])] [(2, .cell T18 (.data T18 c2) false), (3, .cell T18 (.data T18 c3) false)]
def St4 (c2 : D0) : St := stL 22 [(2, .ref 2 0 [])] [(2, .cell T18 (.data T18 c2) false)]
def j0 {α : Type} (Rt : D0 -> Option α) (c2 c3 : D0) : Option α :=
 Rt c3
theorem j0_eq {α : Type} (k : Nat) (Q : Ex -> St -> Option α) (c2 c3 : D0) :
  (den C k) cd1 Q (St3 c2 c3) = j0 (fun c2 => Q .ret (St4 c2)) c2 c3 := by
 have h : ∀ (D L : DT α), denJ D L Js C cd1 Q (St3 c2 c3) = j0 (fun c2 => Q .ret (St4 c2)) c2 c3 := by
  intro D L; kernel_rfl
 have h2 := via (k := k) h
 exact h2
theorem a0 {α : Type} (k : Nat) (Q : Ex -> St -> Option α) (x5 : Int) (c1 c2 c3 : D0) :
  (lp C k) cd0 (blkQ C 0 (sq (den C k) (lp C k) Js C cd1 Q)) (St1 x5 c1 c2 c3) = l0 k (fun c2 c3 => j0 (fun c2 => Q .ret (St4 c2)) c2 c3) k x5 c1 c2 c3 :=
 (lp_iter 9 (by kernel_rfl)).trans ((l0_eq k _ k x5 c1 c2 c3).trans (congrArg (fun X => l0 k X k x5 c1 c2 c3) (funext fun c2 => funext fun c3 => (Eq.trans (b := (den C k) cd1 Q (St3 c2 c3)) (by kernel_rfl) (by simp only [j0_eq])))))
def top {α : Type} (k : Nat) (Rt : D0 -> Option α) (x0 : D0) : Option α :=
 l0 k (fun c2 c3 => j0 Rt c2 c3) k 0 x0 (List.replicate 32 0) (List.replicate 32 0)
theorem top_eq {α : Type} (k : Nat) (Q : Ex -> St -> Option α) (x0 : D0) :
  (den C k) (cB Tryd.f56) Q (St0 x0) = top k (fun c2 => Q .ret (St4 c2)) x0 := by
 have h : ∀ (D L : DT α), denJ D L Js C (cB Tryd.f56) Q (St0 x0) =
    L cd0 (blkQ C 0 (sq D L Js C cd1 Q)) (St1 0 x0 (List.replicate 32 0) (List.replicate 32 0)) := by
  intro D L; kernel_rfl
 have h2 := via (k := k) h
 refine h2.trans ?_
 simp only [a0]
 first | rfl | kernel_rfl
def run (x0 : D0) : Option D0 := top (α := List Int) fuel (fun c2 => some c2) x0
def F : Fn := ⟨T35, T18, false, fun x => run x.1⟩
theorem con : Con Tryd.prog 56 F :=
 con_of (C := C) (ctx_ok (by kernel_rfl) (by kernel_rfl) (by kernel_rfl) (by kernel_rfl) trivial) (by kernel_rfl) Tryd.func56 (c := cB Tryd.f56) (by kernel_rfl) (by kernel_rfl) F (fun x => by simp [F, spread, Tryd.ntmps56]) (fun x => (St0 x.1)) (fun x => by kernel_rfl) fun x => (top_eq fuel _ x.1).trans (by kernel_rfl)
theorem named : Named Tryd.prog 56 := named_of Tryd.func56 (by kernel_rfl) (by kernel_rfl)
end Go.Bx.wide_Bytes
namespace Go.Bx.wide_From
def Js : List Nat := [9]
def C : Ctx := ⟨[(5, T9), (22, T2), (35, T18), (56, T32)], [], [], fnL [], noSh, [], invL [], [(2, [2]), (1, [2, 3]), (4, [2, 3, 7, 8]), (9, [2, 3, 7, 8]), (24, [2, 3])], [], [], 0, 0⟩
def St0 (x0 : D0) : St := stL 28 [(0, .data T18 x0)] []
def St1 (x7 : D0) (x8 : Int) (c2 c3 : D0) : St := stL 28 [(2, .ref 2 0 []), (3, .ref 3 0 []), (7, .data T18 x7), (8, .data T1 x8)] [(2, .cell T32 (.data T32 c2) false), (3, .cell T32 (.data T32 c3) false)]
noncomputable def cd0 : Code := cL (cL (cR (cL (cR (cR (cB Tryd.f62))))))
def St2 (c2 c3 : D0) : St := stL 28 [(2, .ref 2 0 []), (3, .ref 3 0 [])] [(2, .cell T32 (.data T32 c2) false), (3, .cell T32 (.data T32 c3) false)]
def l0s {α : Type} (Nx : D0 -> Int -> D0 -> D0 -> Option α) (Xt0 : D0 -> D0 -> Option α) (x7 : D0) (x8 : Int) (c2 c3 : D0) : Option α :=
 if (decide (x8 < 32)) = true then
  if 0 <= x8 /\ x8 < (32 : Int) then
   if 0 <= (IntKind.i64.wrap (Int.tdiv (IntKind.i64.wrap (31 - x8)) 8)) /\ (IntKind.i64.wrap (Int.tdiv (IntKind.i64.wrap (31 - x8)) 8)) < (4 : Int) then
    if 0 <= (IntKind.i64.wrap (8 * (Int.tmod (IntKind.i64.wrap (31 - x8)) 8))) then
     if 0 <= (IntKind.i64.wrap (Int.tdiv (IntKind.i64.wrap (31 - x8)) 8)) /\ (IntKind.i64.wrap (Int.tdiv (IntKind.i64.wrap (31 - x8)) 8)) < (4 : Int) then
      Nx x7 (IntKind.i64.wrap (x8 + 1)) c2 (List.set c3 (Int.toNat (IntKind.i64.wrap (Int.tdiv (IntKind.i64.wrap (31 - x8)) 8))) (bor .u64 (List.getD c3 (Int.toNat (IntKind.i64.wrap (Int.tdiv (IntKind.i64.wrap (31 - x8)) 8))) 0) (shlI .u64 (IntKind.u64.wrap (List.getD x7 (Int.toNat x8) 0)) (IntKind.i64.wrap (8 * (Int.tmod (IntKind.i64.wrap (31 - x8)) 8))))))
     else none
    else none
   else none
  else none
 else
  Xt0 c2 c3
theorem l0s_eq {α : Type} (k : Nat) (next : St -> Option α) (Q : Ex -> St -> Option α) (x7 : D0) (x8 : Int) (c2 c3 : D0) :
  rnd C k cd0 9 Q next (St1 x7 x8 c2 c3) = l0s (fun x7 x8 c2 c3 => next (St1 x7 x8 c2 c3)) (fun c2 c3 => Q (.exit 0) (St2 c2 c3)) x7 x8 c2 c3 := by
 have h : ∀ (D L : DT α), denJ D L Js C cd0 (lq C 9 next Q) (St1 x7 x8 c2 c3) = l0s (fun x7 x8 c2 c3 => next (St1 x7 x8 c2 c3)) (fun c2 c3 => Q (.exit 0) (St2 c2 c3)) x7 x8 c2 c3 := by
  intro D L; kernel_rfl
 have h2 := via (k := k) h
 exact h2
def l0 {α : Type} (k : Nat) (Xt0 : D0 -> D0 -> Option α) : Nat -> D0 -> Int -> D0 -> D0 -> Option α
 | 0, _, _, _, _ => none
 | n + 1, x7, x8, c2, c3 => l0s (l0 k Xt0 n) Xt0 x7 x8 c2 c3
theorem l0_eq {α : Type} (k : Nat) (Q : Ex -> St -> Option α) : ∀ (n : Nat) (x7 : D0) (x8 : Int) (c2 c3 : D0), iter (rnd C k cd0 9 Q) n (St1 x7 x8 c2 c3) = l0 k (fun c2 c3 => Q (.exit 0) (St2 c2 c3)) n x7 x8 c2 c3
 | 0, _, _, _, _ => rfl
 | n + 1, x7, x8, c2, c3 => (iter_succ _ _ _).trans ((l0s_eq k _ Q x7 x8 c2 c3).trans (congrArg (fun N => l0s N (fun c2 c3 => Q (.exit 0) (St2 c2 c3)) x7 x8 c2 c3) (by funext; exact l0_eq k Q n _ _ _ _)))
noncomputable def cd1 : Code := cR (cR (cR (cB Tryd.f62)))
def St3 (c2 c3 : D0) : St := stL 28 [(2, .ref 2 0 []), (3, .ref 3 0 [])] [(2, .cell T32 (.data T32 c2) false), (3, .cell T32 (.data T32 c3) false)]
def St4 (c2 : D0) : St := stL 28 [(2, .ref 2 0 [])] [(2, .cell T32 (.data T32 c2) false)]
def j0 {α : Type} (Rt : D0 -> Option α) (c2 c3 : D0) : Option α :=
 Rt c3
theorem j0_eq {α : Type} (k : Nat) (Q : Ex -> St -> Option α) (c2 c3 : D0) :
  (den C k) cd1 Q (St3 c2 c3) = j0 (fun c2 => Q .ret (St4 c2)) c2 c3 := by
 have h : ∀ (D L : DT α), denJ D L Js C cd1 Q (St3 c2 c3) = j0 (fun c2 => Q .ret (St4 c2)) c2 c3 := by
  intro D L; kernel_rfl
 have h2 := via (k := k) h
 exact h2
theorem a0 {α : Type} (k : Nat) (Q : Ex -> St -> Option α) (x7 : D0) (x8 : Int) (c2 c3 : D0) :
  (lp C k) cd0 (blkQ C 0 (sq (den C k) (lp C k) Js C cd1 Q)) (St1 x7 x8 c2 c3) = l0 k (fun c2 c3 => j0 (fun c2 => Q .ret (St4 c2)) c2 c3) k x7 x8 c2 c3 :=
 (lp_iter 9 (by kernel_rfl)).trans ((l0_eq k _ k x7 x8 c2 c3).trans (congrArg (fun X => l0 k X k x7 x8 c2 c3) (funext fun c2 => funext fun c3 => (Eq.trans (b := (den C k) cd1 Q (St3 c2 c3)) (by kernel_rfl) (by simp only [j0_eq])))))
def top {α : Type} (k : Nat) (Rt : D0 -> Option α) (x0 : D0) : Option α :=
 l0 k (fun c2 c3 => j0 Rt c2 c3) k x0 0 [0, 0, 0, 0] [0, 0, 0, 0]
theorem top_eq {α : Type} (k : Nat) (Q : Ex -> St -> Option α) (x0 : D0) :
  (den C k) (cB Tryd.f62) Q (St0 x0) = top k (fun c2 => Q .ret (St4 c2)) x0 := by
 have h : ∀ (D L : DT α), denJ D L Js C (cB Tryd.f62) Q (St0 x0) =
    L cd0 (blkQ C 0 (sq D L Js C cd1 Q)) (St1 x0 0 [0, 0, 0, 0] [0, 0, 0, 0]) := by
  intro D L; kernel_rfl
 have h2 := via (k := k) h
 refine h2.trans ?_
 simp only [a0]
 first | rfl | kernel_rfl
def run (x0 : D0) : Option D0 := top (α := List Int) fuel (fun c2 => some c2) x0
def F : Fn := ⟨T74, T32, false, fun x => run x.1⟩
theorem con : Con Tryd.prog 62 F :=
 con_of (C := C) (ctx_ok (by kernel_rfl) (by kernel_rfl) (by kernel_rfl) (by kernel_rfl) trivial) (by kernel_rfl) Tryd.func62 (c := cB Tryd.f62) (by kernel_rfl) (by kernel_rfl) F (fun x => by simp [F, spread, Tryd.ntmps62]) (fun x => (St0 x.1)) (fun x => by kernel_rfl) fun x => (top_eq fuel _ x.1).trans (by kernel_rfl)
theorem named : Named Tryd.prog 62 := named_of Tryd.func62 (by kernel_rfl) (by kernel_rfl)
end Go.Bx.wide_From
namespace Go.Bx.sign_nonce
def Js : List Nat := []
def C : Ctx := ⟨[(3, T1), (5, T9), (22, T2), (29, T10), (35, T18), (56, T32), (60, T50)], [], [], fnL [(19, keccak_Sum.F), (56, wide_Bytes.F), (61, sign_rest.F), (62, wide_From.F)], noSh, [], invL [], [(2, [8])], [], [], 0, 0⟩
def St0 (x0 : D13) (x1 x2 : D0) (x3 : Int) : St := stL 36 [(0, .data T50 x0), (1, .data T32 x1), (2, .data T18 x2), (3, .data T1 x3)] []
def St1 (c8 : D0) : St := stL 36 [(8, .ref 8 0 [])] [(8, .cell T32 (.data T32 c8) false)]
def top {α : Type} (Rt : D0 -> Option α) (x0 : D13) (x1 x2 : D0) (x3 : Int) : Option α :=
 if (decide (x3 >= 256)) = true then
  (sign_rest.run [(IntKind.u64.wrap (IntKind.i64.wrap ((IntKind.i64.wrap (x3 - 256)) + 1))), 0, 0, 0] x0.2.2.2.1).bind fun y1 =>
  Rt y1
 else
  (wide_Bytes.run x1).bind fun y2 =>
  if (32 : Int) = (32 : Int) /\ (fitB ((cutL y2 0 32).length + (cutL x2 0 32).length) 1 && Nat.blt 0 (cutL x2 0 32).length) = true then
   if fitB (((cutL y2 0 32) ++ (cutL x2 0 32)).length + 1) 1 = true then
    (keccak_Sum.run (((cutL y2 0 32) ++ (cutL x2 0 32)) ++ [(IntKind.u8.wrap x3)])).bind fun y3 =>
    (wide_From.run y3).bind fun y4 =>
    (sign_rest.run y4 x0.2.2.2.1).bind fun y5 =>
    Rt y5
   else none
  else none
theorem top_eq {α : Type} (k : Nat) (Q : Ex -> St -> Option α) (x0 : D13) (x1 x2 : D0) (x3 : Int) :
  (den C k) (cB Tryd.f64) Q (St0 x0 x1 x2 x3) = top (fun c8 => Q .ret (St1 c8)) x0 x1 x2 x3 := by
 have h : ∀ (D L : DT α), denJ D L Js C (cB Tryd.f64) Q (St0 x0 x1 x2 x3) = top (fun c8 => Q .ret (St1 c8)) x0 x1 x2 x3 := by
  intro D L; kernel_rfl
 have h2 := via (k := k) h
 exact h2
def run (x0 : D13) (x1 x2 : D0) (x3 : Int) : Option D0 := top (α := List Int) (fun c8 => some c8) x0 x1 x2 x3
def F : Fn := ⟨T77, T32, false, fun x => run x.1 x.2.1 x.2.2.1 x.2.2.2.1⟩
theorem con : Con Tryd.prog 64 F :=
 con_of (C := C) (ctx_ok (by kernel_rfl) (by kernel_rfl) (by kernel_rfl) (by kernel_rfl) ⟨.inl ⟨keccak_Sum.con, keccak_Sum.named⟩, ⟨.inl ⟨wide_Bytes.con, wide_Bytes.named⟩, ⟨.inl ⟨sign_rest.con, sign_rest.named⟩, ⟨.inl ⟨wide_From.con, wide_From.named⟩, trivial⟩⟩⟩⟩) (by kernel_rfl) Tryd.func64 (c := cB Tryd.f64) (by kernel_rfl) (by kernel_rfl) F (fun x => by simp [F, spread, Tryd.ntmps64]) (fun x => (St0 x.1 x.2.1 x.2.2.1 x.2.2.2.1)) (fun x => by kernel_rfl) fun x => (top_eq fuel _ x.1 x.2.1 x.2.2.1 x.2.2.2.1).trans (by kernel_rfl)
theorem named : Named Tryd.prog 64 := named_of Tryd.func64 (by kernel_rfl) (by kernel_rfl)
end Go.Bx.sign_nonce
namespace Go.Bx.sign_Make
def Js : List Nat := [17]
def C : Ctx := ⟨[(30, T1), (35, T18), (56, T32), (60, T50), (68, T47)], [], [], fnL [(53, curve_Check.F), (54, sign_secret.F), (61, sign_rest.F), (62, wide_From.F), (63, sign_try.F), (64, sign_nonce.F)], noSh, [], invL [], [(2, [6, 7]), (1, [6]), (4, [3, 4, 5, 6, 9, 30]), (24, [3, 4, 5, 6, 9, 30]), (48, [6])], [], [], 0, 0⟩
def St0 (x0 : D13) (x1 x2 : D0) : St := stL 54 [(0, .data T50 x0), (1, .data T32 x1), (2, .data T18 x2)] []
def St1 (x7 : Int) (c6 : D1) : St := stL 54 [(6, .ref 6 0 []), (7, .data T1 x7)] [(6, .cell T47 (.data T47 c6) false)]
def St2 (x30 : Int) (c3 : D13) (c4 c5 : D0) (c6 : D1) (c9 : D0) : St := stL 54 [(3, .ref 3 0 []), (4, .ref 4 0 []), (5, .ref 5 0 []), (6, .ref 6 0 []), (9, .ref 9 0 []), (30, .data T1 x30)] [(3, .cell T50 (.data T50 c3) false), (4, .cell T32 (.data T32 c4) false), (5, .cell T18 (.data T18 c5) false), (6, .cell T47 (.data T47 c6) false), (9, .cell T32 (.data T32 c9) false)]
noncomputable def cd0 : Code := cL (cL (cR (cL (cR (cR (cR (cR (cB Tryd.f35))))))))
def St3 (c6 : D1) : St := stL 54 [(6, .ref 6 0 [])] [(6, .cell T47 (.data T47 c6) false)]
def l0s {α : Type} (Nx : Int -> D13 -> D0 -> D0 -> D1 -> D0 -> Option α) (Rt : Int -> D1 -> Option α) (Xt0 : D1 -> Option α) (x30 : Int) (c3 : D13) (c4 c5 : D0) (c6 : D1) (c9 : D0) : Option α :=
 if (decide (x30 < 272)) = true then
  (sign_nonce.run c3 c4 c5 x30).bind fun y5 =>
  (sign_try.run c3 c4 c9 y5).bind fun y6 =>
  if (y6.2.2.1 != 0) = true then
   Rt y6.2.2.1 ([0, 0, 0, 0], [0, 0, 0, 0], 0, ())
  else
   if y6.2.1 = true then
    Rt 0 y6.1
   else
    Nx (IntKind.i64.wrap (x30 + 1)) c3 c4 c5 c6 c9
 else
  Xt0 c6
theorem l0s_eq {α : Type} (k : Nat) (next : St -> Option α) (Q : Ex -> St -> Option α) (x30 : Int) (c3 : D13) (c4 c5 : D0) (c6 : D1) (c9 : D0) :
  rnd C k cd0 24 Q next (St2 x30 c3 c4 c5 c6 c9) = l0s (fun x30 c3 c4 c5 c6 c9 => next (St2 x30 c3 c4 c5 c6 c9)) (fun x7 c6 => Q .ret (St1 x7 c6)) (fun c6 => Q (.exit 0) (St3 c6)) x30 c3 c4 c5 c6 c9 := by
 have h : ∀ (D L : DT α), denJ D L Js C cd0 (lq C 24 next Q) (St2 x30 c3 c4 c5 c6 c9) = l0s (fun x30 c3 c4 c5 c6 c9 => next (St2 x30 c3 c4 c5 c6 c9)) (fun x7 c6 => Q .ret (St1 x7 c6)) (fun c6 => Q (.exit 0) (St3 c6)) x30 c3 c4 c5 c6 c9 := by
  intro D L; kernel_rfl
 have h2 := via (k := k) h
 exact h2
def l0 {α : Type} (k : Nat) (Rt : Int -> D1 -> Option α) (Xt0 : D1 -> Option α) : Nat -> Int -> D13 -> D0 -> D0 -> D1 -> D0 -> Option α
 | 0, _, _, _, _, _, _ => none
 | n + 1, x30, c3, c4, c5, c6, c9 => l0s (l0 k Rt Xt0 n) Rt Xt0 x30 c3 c4 c5 c6 c9
theorem l0_eq {α : Type} (k : Nat) (Q : Ex -> St -> Option α) : ∀ (n : Nat) (x30 : Int) (c3 : D13) (c4 c5 : D0) (c6 : D1) (c9 : D0), iter (rnd C k cd0 24 Q) n (St2 x30 c3 c4 c5 c6 c9) = l0 k (fun x7 c6 => Q .ret (St1 x7 c6)) (fun c6 => Q (.exit 0) (St3 c6)) n x30 c3 c4 c5 c6 c9
 | 0, _, _, _, _, _, _ => rfl
 | n + 1, x30, c3, c4, c5, c6, c9 => (iter_succ _ _ _).trans ((l0s_eq k _ Q x30 c3 c4 c5 c6 c9).trans (congrArg (fun N => l0s N (fun x7 c6 => Q .ret (St1 x7 c6)) (fun c6 => Q (.exit 0) (St3 c6)) x30 c3 c4 c5 c6 c9) (by funext; exact l0_eq k Q n _ _ _ _ _ _)))
theorem l0_congr {α : Type} (k : Nat) (Rt : Int -> D1 -> Option α) (Xt0 : D1 -> Option α) (Rtq : Int -> D1 -> Option α) (Xt0q : D1 -> Option α) (hRt : ∀ (x7 : Int) (c6 : D1), Rt x7 c6 = Rtq x7 c6) (hXt0 : ∀ (c6 : D1), Xt0 c6 = Xt0q c6) (n : Nat) (x30 : Int) (c3 : D13) (c4 c5 : D0) (c6 : D1) (c9 : D0) : l0 k Rt Xt0 n x30 c3 c4 c5 c6 c9 = l0 k Rtq Xt0q n x30 c3 c4 c5 c6 c9 := by
 obtain rfl : Rt = Rtq := by funext x7; funext c6; exact hRt x7 c6
 obtain rfl : Xt0 = Xt0q := by funext c6; exact hXt0 c6
 rfl
noncomputable def cd1 : Code := cR (cR (cR (cR (cR (cB Tryd.f35)))))
def St4 (c6 : D1) : St := stL 54 [(6, .ref 6 0 [])] [(6, .cell T47 (.data T47 c6) false)]
def j0 {α : Type} (Rt : Int -> D1 -> Option α) (c6 : D1) : Option α :=
 Rt 5 ([0, 0, 0, 0], [0, 0, 0, 0], 0, ())
theorem j0_eq {α : Type} (k : Nat) (Q : Ex -> St -> Option α) (c6 : D1) :
  (den C k) cd1 Q (St4 c6) = j0 (fun x7 c6 => Q .ret (St1 x7 c6)) c6 := by
 have h : ∀ (D L : DT α), denJ D L Js C cd1 Q (St4 c6) = j0 (fun x7 c6 => Q .ret (St1 x7 c6)) c6 := by
  intro D L; kernel_rfl
 have h2 := via (k := k) h
 exact h2
theorem a0 {α : Type} (k : Nat) (Q : Ex -> St -> Option α) (x30 : Int) (c3 : D13) (c4 c5 : D0) (c6 : D1) (c9 : D0) :
  (lp C k) cd0 (blkQ C 0 (sq (den C k) (lp C k) Js C cd1 Q)) (St2 x30 c3 c4 c5 c6 c9) = l0 k (fun x7 c6 => (fun x7 c6 => Q .ret (St1 x7 c6)) x7 c6) (fun c6 => j0 (fun x7 c6 => Q .ret (St1 x7 c6)) c6) k x30 c3 c4 c5 c6 c9 :=
 (lp_iter 24 (by kernel_rfl)).trans ((l0_eq k _ k x30 c3 c4 c5 c6 c9).trans (l0_congr k _ _ _ _ (fun x7 c6 => (by kernel_rfl)) (fun c6 => (Eq.trans (b := (den C k) cd1 Q (St4 c6)) (by kernel_rfl) (by simp only [j0_eq]))) k x30 c3 c4 c5 c6 c9))
def top {α : Type} (k : Nat) (Rt : Int -> D1 -> Option α) (x0 : D13) (x1 x2 : D0) : Option α :=
 (curve_Check.run x0).bind fun y1 =>
 if (y1 != 0) = true then
  Rt y1 ([0, 0, 0, 0], [0, 0, 0, 0], 0, ())
 else
  (sign_secret.run x0 x1).bind fun y2 =>
  if (not y2) = true then
   Rt 6 ([0, 0, 0, 0], [0, 0, 0, 0], 0, ())
  else
   (wide_From.run x2).bind fun y3 =>
   (sign_rest.run y3 x0.2.2.2.1).bind fun y4 =>
   l0 k (fun x7 c6 => Rt x7 c6) (fun c6 => j0 Rt c6) k 0 x0 x1 x2 ([0, 0, 0, 0], [0, 0, 0, 0], 0, ()) y4
theorem top_eq {α : Type} (k : Nat) (Q : Ex -> St -> Option α) (x0 : D13) (x1 x2 : D0) :
  (den C k) (cB Tryd.f35) Q (St0 x0 x1 x2) = top k (fun x7 c6 => Q .ret (St1 x7 c6)) x0 x1 x2 := by
 have h : ∀ (D L : DT α), denJ D L Js C (cB Tryd.f35) Q (St0 x0 x1 x2) =
    (curve_Check.run x0).bind fun y1 =>
    if (y1 != 0) = true then
     Q .ret (St1 y1 ([0, 0, 0, 0], [0, 0, 0, 0], 0, ()))
    else
     (sign_secret.run x0 x1).bind fun y2 =>
     if (not y2) = true then
      Q .ret (St1 6 ([0, 0, 0, 0], [0, 0, 0, 0], 0, ()))
     else
      (wide_From.run x2).bind fun y3 =>
      (sign_rest.run y3 x0.2.2.2.1).bind fun y4 =>
      L cd0 (blkQ C 0 (sq D L Js C cd1 Q)) (St2 0 x0 x1 x2 ([0, 0, 0, 0], [0, 0, 0, 0], 0, ()) y4) := by
  intro D L; kernel_rfl
 have h2 := via (k := k) h
 refine h2.trans ?_
 simp only [a0]
 first | rfl | kernel_rfl
def run (x0 : D13) (x1 x2 : D0) : Option D2 := top (α := D1 × Int × Unit) fuel (fun x7 c6 => some (c6, x7, ())) x0 x1 x2
def F : Fn := ⟨T78, T79, true, fun x => run x.1 x.2.1 x.2.2.1⟩
theorem con : Con Tryd.prog 35 F :=
 con_of (C := C) (ctx_ok (by kernel_rfl) (by kernel_rfl) (by kernel_rfl) (by kernel_rfl) ⟨.inl ⟨curve_Check.con, curve_Check.named⟩, ⟨.inl ⟨sign_secret.con, sign_secret.named⟩, ⟨.inl ⟨sign_rest.con, sign_rest.named⟩, ⟨.inl ⟨wide_From.con, wide_From.named⟩, ⟨.inl ⟨sign_try.con, sign_try.named⟩, ⟨.inl ⟨sign_nonce.con, sign_nonce.named⟩, trivial⟩⟩⟩⟩⟩⟩) (by kernel_rfl) Tryd.func35 (c := cB Tryd.f35) (by kernel_rfl) (by kernel_rfl) F (fun x => by simp [F, spread, Tryd.ntmps35]) (fun x => (St0 x.1 x.2.1 x.2.2.1)) (fun x => by kernel_rfl) fun x => (top_eq fuel _ x.1 x.2.1 x.2.2.1).trans (by kernel_rfl)
theorem named : Named Tryd.prog 35 := named_of Tryd.func35 (by kernel_rfl) (by kernel_rfl)
end Go.Bx.sign_Make
namespace Go.Bx.basculelaw_SignMakes
def Js : List Nat := []
def C : Ctx := ⟨[(4, .bool), (35, T18), (56, T32), (60, T50), (68, T47)], [], [], fnL [(35, sign_Make.F), (36, basculeref_Signed.F)], noSh, [], invL [], [(2, [6])], [], [], 0, 0⟩
def St0 (x0 : D13) (x1 x2 : D0) : St := stL 33 [(0, .data T50 x0), (1, .data T32 x1), (2, .data T18 x2)] []
def St1 (x6 : Bool) : St := stL 33 [(6, .data .bool x6)] []
def top {α : Type} (Rt : Bool -> Option α) (x0 : D13) (x1 x2 : D0) : Option α :=
 (sign_Make.run x0 x1 x2).bind fun y1 =>
 (basculeref_Signed.run x0 x1 x2).bind fun y2 =>
 Rt (cond (beqD T47 y1.1 y2.1) (y1.2.1 == y2.2.1) false)
theorem top_eq {α : Type} (k : Nat) (Q : Ex -> St -> Option α) (x0 : D13) (x1 x2 : D0) :
  (den C k) (cB Tryd.f10) Q (St0 x0 x1 x2) = top (fun x6 => Q .ret (St1 x6)) x0 x1 x2 := by
 have h : ∀ (D L : DT α), denJ D L Js C (cB Tryd.f10) Q (St0 x0 x1 x2) = top (fun x6 => Q .ret (St1 x6)) x0 x1 x2 := by
  intro D L; kernel_rfl
 have h2 := via (k := k) h
 exact h2
def run (x0 : D13) (x1 x2 : D0) : Option (Bool) := top (α := Bool) (fun x6 => some x6) x0 x1 x2
def F : Fn := ⟨T78, .bool, false, fun x => run x.1 x.2.1 x.2.2.1⟩
theorem con : Con Tryd.prog 10 F :=
 con_of (C := C) (ctx_ok (by kernel_rfl) (by kernel_rfl) (by kernel_rfl) (by kernel_rfl) ⟨.inl ⟨sign_Make.con, sign_Make.named⟩, ⟨.inl ⟨basculeref_Signed.con, basculeref_Signed.named⟩, trivial⟩⟩) (by kernel_rfl) Tryd.func10 (c := cB Tryd.f10) (by kernel_rfl) (by kernel_rfl) F (fun x => by simp [F, spread, Tryd.ntmps10]) (fun x => (St0 x.1 x.2.1 x.2.2.1)) (fun x => by kernel_rfl) fun x => (top_eq fuel _ x.1 x.2.1 x.2.2.1).trans (by kernel_rfl)
theorem named : Named Tryd.prog 10 := named_of Tryd.func10 (by kernel_rfl) (by kernel_rfl)
end Go.Bx.basculelaw_SignMakes
