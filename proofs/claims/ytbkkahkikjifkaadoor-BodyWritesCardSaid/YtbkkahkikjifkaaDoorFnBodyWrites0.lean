/- Go functions of this seat in their own words of Lean, each tied to its code by a contract. -/
import Derived.Test.YtbkkahkikjifkaaDoorGBase
open Go Go.Proofs Go.Bx
set_option maxRecDepth 100000
set_option linter.unusedVariables false
variable {α : Type}
namespace Go.Bx.basculeref_of
def l0s {α : Type} (Nx : D0 -> Int -> D0 -> Option α) (Xt0 : D0 -> Option α) (x6 : D0) (x7 : Int) (c16 : D0) : Option α :=
 if (decide (x7 < 4)) = true then
  if 0 <= x7 /\ x7 < (4 : Int) then
   if fitB (c16.length + 2) 8 = true then
    Nx x6 (IntKind.i64.wrap (x7 + 1)) (c16 ++ [(Int.tmod (List.getD x6 (Int.toNat x7) 0) 4294967296), (IntKind.u64.wrap (Int.tdiv (List.getD x6 (Int.toNat x7) 0) 4294967296))])
   else none
  else none
 else
  Xt0 c16
def l0 {α : Type} (k : Nat) (Xt0 : D0 -> Option α) : Nat -> D0 -> Int -> D0 -> Option α
 | 0, _, _, _ => none
 | n + 1, x6, x7, c16 => l0s (l0 k Xt0 n) Xt0 x6 x7 c16
def j0 {α : Type} (Rt : D0 -> Option α) (c16 : D0) : Option α :=
 Rt c16
def top {α : Type} (k : Nat) (Rt : D0 -> Option α) (x0 : D0) : Option α :=
 l0 k (fun c16 => j0 Rt c16) k x0 0 []
def run (x0 : D0) : Option D0 := top (α := List Int) fuel (fun c16 => some c16) x0
end Go.Bx.basculeref_of
namespace Go.Bx.basculeref_plus
end Go.Bx.basculeref_plus
namespace Go.Bx.basculeref_less
end Go.Bx.basculeref_less
namespace Go.Bx.basculeref_compare
end Go.Bx.basculeref_compare
namespace Go.Bx.basculeref_big
def Js : List Nat := [8]
def C : Ctx := ⟨[(3, T1), (5, T9), (9, .str), (22, T2), (29, T10)], [], [], fnL [], noSh, [], invL [], [(2, [4]), (1, [5]), (4, [0, 5, 6, 7]), (9, [0, 5, 6, 7]), (21, [5])], [], [], 0, 0⟩
def St0 (x0 x1 : Int) : St := stL 19 [(0, .data T2 x0), (1, .data T1 x1)] []
def St1 (x0 : Int) (x5 : D0) (x6 x7 : Int) : St := stL 19 [(0, .data T2 x0), (5, .data .str x5), (6, .data T1 x6), (7, .data T1 x7)] []
noncomputable def cd0 : Code := cL (cL (cR (cL (cR (cR (cB Tryd.f68))))))
def St2 (x5 : D0) : St := stL 19 [(5, .data .str x5)] []
def l0s {α : Type} (Nx : Int -> D0 -> Int -> Int -> Option α) (Xt0 : D0 -> Option α) (x0 : Int) (x5 : D0) (x6 x7 : Int) : Option α :=
 if (decide (x7 < x6)) = true then
  if Nat.ble (1 + x5.length) 9223372036854775807 = true then
   Nx (shrI .u64 x0 8) ([(IntKind.u8.wrap x0)] ++ x5) x6 (IntKind.i64.wrap (x7 + 1))
  else none
 else
  Xt0 x5
theorem l0s_eq {α : Type} (k : Nat) (next : St -> Option α) (Q : Ex -> St -> Option α) (x0 : Int) (x5 : D0) (x6 x7 : Int) :
  rnd C k cd0 9 Q next (St1 x0 x5 x6 x7) = l0s (fun x0 x5 x6 x7 => next (St1 x0 x5 x6 x7)) (fun x5 => Q (.exit 0) (St2 x5)) x0 x5 x6 x7 := by
 have h : ∀ (D L : DT α), denJ D L Js C cd0 (lq C 9 next Q) (St1 x0 x5 x6 x7) = l0s (fun x0 x5 x6 x7 => next (St1 x0 x5 x6 x7)) (fun x5 => Q (.exit 0) (St2 x5)) x0 x5 x6 x7 := by
  intro D L; kernel_rfl
 have h2 := via (k := k) h
 exact h2
def l0 {α : Type} (k : Nat) (Xt0 : D0 -> Option α) : Nat -> Int -> D0 -> Int -> Int -> Option α
 | 0, _, _, _, _ => none
 | n + 1, x0, x5, x6, x7 => l0s (l0 k Xt0 n) Xt0 x0 x5 x6 x7
theorem l0_eq {α : Type} (k : Nat) (Q : Ex -> St -> Option α) : ∀ (n : Nat) (x0 : Int) (x5 : D0) (x6 x7 : Int), iter (rnd C k cd0 9 Q) n (St1 x0 x5 x6 x7) = l0 k (fun x5 => Q (.exit 0) (St2 x5)) n x0 x5 x6 x7
 | 0, _, _, _, _ => rfl
 | n + 1, x0, x5, x6, x7 => (iter_succ _ _ _).trans ((l0s_eq k _ Q x0 x5 x6 x7).trans (congrArg (fun N => l0s N (fun x5 => Q (.exit 0) (St2 x5)) x0 x5 x6 x7) (by funext; exact l0_eq k Q n _ _ _ _)))
noncomputable def cd1 : Code := cR (cR (cR (cB Tryd.f68)))
def St3 (x5 : D0) : St := stL 19 [(5, .data .str x5)] []
def St4 (x4 : D0) : St := stL 19 [(4, .data .str x4)] []
def j0 {α : Type} (Rt : D0 -> Option α) (x5 : D0) : Option α :=
 Rt x5
theorem j0_eq {α : Type} (k : Nat) (Q : Ex -> St -> Option α) (x5 : D0) :
  (den C k) cd1 Q (St3 x5) = j0 (fun x4 => Q .ret (St4 x4)) x5 := by
 have h : ∀ (D L : DT α), denJ D L Js C cd1 Q (St3 x5) = j0 (fun x4 => Q .ret (St4 x4)) x5 := by
  intro D L; kernel_rfl
 have h2 := via (k := k) h
 exact h2
theorem a0 {α : Type} (k : Nat) (Q : Ex -> St -> Option α) (x0 : Int) (x5 : D0) (x6 x7 : Int) :
  (lp C k) cd0 (blkQ C 0 (sq (den C k) (lp C k) Js C cd1 Q)) (St1 x0 x5 x6 x7) = l0 k (fun x5 => j0 (fun x4 => Q .ret (St4 x4)) x5) k x0 x5 x6 x7 :=
 (lp_iter 9 (by kernel_rfl)).trans ((l0_eq k _ k x0 x5 x6 x7).trans (congrArg (fun X => l0 k X k x0 x5 x6 x7) (funext fun x5 => (Eq.trans (b := (den C k) cd1 Q (St3 x5)) (by kernel_rfl) (by simp only [j0_eq])))))
def top {α : Type} (k : Nat) (Rt : D0 -> Option α) (x0 x1 : Int) : Option α :=
 l0 k (fun x5 => j0 Rt x5) k x0 [] x1 0
theorem top_eq {α : Type} (k : Nat) (Q : Ex -> St -> Option α) (x0 x1 : Int) :
  (den C k) (cB Tryd.f68) Q (St0 x0 x1) = top k (fun x4 => Q .ret (St4 x4)) x0 x1 := by
 have h : ∀ (D L : DT α), denJ D L Js C (cB Tryd.f68) Q (St0 x0 x1) =
    L cd0 (blkQ C 0 (sq D L Js C cd1 Q)) (St1 x0 [] x1 0) := by
  intro D L; kernel_rfl
 have h2 := via (k := k) h
 refine h2.trans ?_
 simp only [a0]
 first | rfl | kernel_rfl
def run (x0 x1 : Int) : Option D0 := top (α := List Int) fuel (fun x4 => some x4) x0 x1
def F : Fn := ⟨T3, .str, false, fun x => run x.1 x.2.1⟩
theorem con : Con Tryd.prog 68 F :=
 con_of (C := C) (ctx_ok (by kernel_rfl) (by kernel_rfl) (by kernel_rfl) (by kernel_rfl) trivial) (by kernel_rfl) Tryd.func68 (c := cB Tryd.f68) (by kernel_rfl) (by kernel_rfl) F (fun x => by simp [F, spread, Tryd.ntmps68]) (fun x => (St0 x.1 x.2.1)) (fun x => by kernel_rfl) fun x => (top_eq fuel _ x.1 x.2.1).trans (by kernel_rfl)
theorem named : Named Tryd.prog 68 := named_of Tryd.func68 (by kernel_rfl) (by kernel_rfl)
end Go.Bx.basculeref_big
namespace Go.Bx.wide_Bytes
end Go.Bx.wide_Bytes
namespace Go.Bx.basculeref_text
end Go.Bx.basculeref_text
namespace Go.Bx.paper_Check_1
def Js : List Nat := []
def C : Ctx := ⟨[(3, T1), (4, .bool)], [], [], fnL [], noSh, [], invL [], [(2, [4])], [], [], 0, 0⟩
def St0 (x0 x1 : Int) : St := stL 12 [(0, .data T1 x0), (1, .data T1 x1)] []
def St1 (x4 : Bool) : St := stL 12 [(4, .data .bool x4)] []
def top {α : Type} (Rt : Bool -> Option α) (x0 x1 : Int) : Option α :=
 Rt (cond (decide (x0 >= 0)) (decide (x0 <= x1)) false)
theorem top_eq {α : Type} (k : Nat) (Q : Ex -> St -> Option α) (x0 x1 : Int) :
  (den C k) (cB Tryd.f76) Q (St0 x0 x1) = top (fun x4 => Q .ret (St1 x4)) x0 x1 := by
 have h : ∀ (D L : DT α), denJ D L Js C (cB Tryd.f76) Q (St0 x0 x1) = top (fun x4 => Q .ret (St1 x4)) x0 x1 := by
  intro D L; kernel_rfl
 have h2 := via (k := k) h
 exact h2
def run (x0 x1 : Int) : Option (Bool) := top (α := Bool) (fun x4 => some x4) x0 x1
def F : Fn := ⟨T22, .bool, false, fun x => run x.1 x.2.1⟩
theorem con : Con Tryd.prog 76 F :=
 con_of (C := C) (ctx_ok (by kernel_rfl) (by kernel_rfl) (by kernel_rfl) (by kernel_rfl) trivial) (by kernel_rfl) Tryd.func76 (c := cB Tryd.f76) (by kernel_rfl) (by kernel_rfl) F (fun x => by simp [F, spread, Tryd.ntmps76]) (fun x => (St0 x.1 x.2.1)) (fun x => by kernel_rfl) fun x => (top_eq fuel _ x.1 x.2.1).trans (by kernel_rfl)
theorem named : Named Tryd.prog 76 := named_of Tryd.func76 (by kernel_rfl) (by kernel_rfl)
end Go.Bx.paper_Check_1
namespace Go.Bx.paper_Check
def Js : List Nat := []
def C : Ctx := ⟨[(3, T1), (29, T10), (30, T1), (43, T23)], [], [], fnL [(76, paper_Check_1.F)], noSh, [], invL [], [(2, [2])], [], [], 0, 0⟩
def St0 (x0 : D4) : St := stL 41 [(0, .data T23 x0)] []
def St1 (x2 : Int) : St := stL 41 [(2, .data T1 x2)] []
def top {α : Type} (Rt : Int -> Option α) (x0 : D4) : Option α :=
 (paper_Check_1.run x0.1 1099511627776).bind fun y1 =>
 (if ((not y1) == false) = true then paper_Check_1.run x0.2.1 4294967295 else some false).bind fun y2 =>
 (if ((cond (not y1) true (not y2)) == false) = true then paper_Check_1.run x0.2.2.1 65535 else some false).bind fun y3 =>
 (if ((cond (cond (not y1) true (not y2)) true (not y3)) == false) = true then paper_Check_1.run x0.2.2.2.2.1 1099511627776 else some false).bind fun y4 =>
 (if ((cond (cond (cond (not y1) true (not y2)) true (not y3)) true (not y4)) == false) = true then paper_Check_1.run x0.2.2.2.2.2.1 255 else some false).bind fun y5 =>
 if (cond (cond (cond (cond (not y1) true (not y2)) true (not y3)) true (not y4)) true (not y5)) = true then
  Rt 6
 else
  if (decide ((x0.2.2.2.2.2.2.1.length : Int) > 300)) = true then
   Rt 1
  else
   Rt 0
theorem top_eq {α : Type} (k : Nat) (Q : Ex -> St -> Option α) (x0 : D4) :
  (den C k) (cB Tryd.f46) Q (St0 x0) = top (fun x2 => Q .ret (St1 x2)) x0 := by
 have h : ∀ (D L : DT α), denJ D L Js C (cB Tryd.f46) Q (St0 x0) = top (fun x2 => Q .ret (St1 x2)) x0 := by
  intro D L; kernel_rfl
 have h2 := via (k := k) h
 exact h2
def run (x0 : D4) : Option (Int) := top (α := Int) (fun x2 => some x2) x0
def F : Fn := ⟨T24, T1, false, fun x => run x.1⟩
theorem con : Con Tryd.prog 46 F :=
 con_of (C := C) (ctx_ok (by kernel_rfl) (by kernel_rfl) (by kernel_rfl) (by kernel_rfl) ⟨.inl ⟨paper_Check_1.con, paper_Check_1.named⟩, trivial⟩) (by kernel_rfl) Tryd.func46 (c := cB Tryd.f46) (by kernel_rfl) (by kernel_rfl) F (fun x => by simp [F, spread, Tryd.ntmps46]) (fun x => (St0 x.1)) (fun x => by kernel_rfl) fun x => (top_eq fuel _ x.1).trans (by kernel_rfl)
theorem named : Named Tryd.prog 46 := named_of Tryd.func46 (by kernel_rfl) (by kernel_rfl)
end Go.Bx.paper_Check
namespace Go.Bx.basculeref_upTo
def Js : List Nat := []
def C : Ctx := ⟨[(3, T1), (4, .bool)], [], [], fnL [], noSh, [], invL [], [(2, [4])], [], [], 0, 0⟩
def St0 (x0 x1 : Int) : St := stL 12 [(0, .data T1 x0), (1, .data T1 x1)] []
def St1 (x4 : Bool) : St := stL 12 [(4, .data .bool x4)] []
def top {α : Type} (Rt : Bool -> Option α) (x0 x1 : Int) : Option α :=
 Rt (cond (decide (0 <= x0)) (decide (x0 <= x1)) false)
theorem top_eq {α : Type} (k : Nat) (Q : Ex -> St -> Option α) (x0 x1 : Int) :
  (den C k) (cB Tryd.f79) Q (St0 x0 x1) = top (fun x4 => Q .ret (St1 x4)) x0 x1 := by
 have h : ∀ (D L : DT α), denJ D L Js C (cB Tryd.f79) Q (St0 x0 x1) = top (fun x4 => Q .ret (St1 x4)) x0 x1 := by
  intro D L; kernel_rfl
 have h2 := via (k := k) h
 exact h2
def run (x0 x1 : Int) : Option (Bool) := top (α := Bool) (fun x4 => some x4) x0 x1
def F : Fn := ⟨T22, .bool, false, fun x => run x.1 x.2.1⟩
theorem con : Con Tryd.prog 79 F :=
 con_of (C := C) (ctx_ok (by kernel_rfl) (by kernel_rfl) (by kernel_rfl) (by kernel_rfl) trivial) (by kernel_rfl) Tryd.func79 (c := cB Tryd.f79) (by kernel_rfl) (by kernel_rfl) F (fun x => by simp [F, spread, Tryd.ntmps79]) (fun x => (St0 x.1 x.2.1)) (fun x => by kernel_rfl) fun x => (top_eq fuel _ x.1 x.2.1).trans (by kernel_rfl)
theorem named : Named Tryd.prog 79 := named_of Tryd.func79 (by kernel_rfl) (by kernel_rfl)
end Go.Bx.basculeref_upTo
namespace Go.Bx.basculeref_BodyFault
def Js : List Nat := [8]
def C : Ctx := ⟨[(3, T1), (29, T10), (30, T1), (43, T23), (133, T30), (134, T31)], [], [], fnL [(79, basculeref_upTo.F)], noSh, [], invL [], [(2, [2]), (1, [1]), (4, [1, 20, 21, 22]), (6, [1, 20, 21, 22]), (21, [1])], [], [], 0, 0⟩
def St0 (x0 : D4) : St := stL 37 [(0, .data T23 x0)] []
def St1 (x20 : D7) (x21 x22 : Int) (c1 : D4) : St := stL 37 [(1, .ref 1 0 []), (20, .full T30 x20), (21, .data T1 x21), (22, .data T1 x22)] [(1, .cell T23 (.data T23 c1) false)]
noncomputable def cd0 : Code := cL (cL (cR (cL (cR (cB Tryd.f48)))))
def St2 (x2 : Int) : St := stL 37 [(2, .data T1 x2)] []
def St3 (c1 : D4) : St := stL 37 [(1, .ref 1 0 [])] [(1, .cell T23 (.data T23 c1) false)]
def l0s {α : Type} (Nx : D7 -> Int -> Int -> D4 -> Option α) (Rt : Int -> Option α) (Xt0 : D4 -> Option α) (x20 : D7) (x21 x22 : Int) (c1 : D4) : Option α :=
 if (decide (x22 < x21)) = true then
  if 0 <= x22 /\ x22 < (x20.length : Int) then
   (basculeref_upTo.run (List.getD (List.getD x20 (Int.toNat x22) [0, 0]) 0 0) (List.getD (List.getD x20 (Int.toNat x22) [0, 0]) 1 0)).bind fun y1 =>
   if (not y1) = true then
    Rt 6
   else
    Nx x20 x21 (IntKind.i64.wrap (x22 + 1)) c1
  else none
 else
  Xt0 c1
theorem l0s_eq {α : Type} (k : Nat) (next : St -> Option α) (Q : Ex -> St -> Option α) (x20 : D7) (x21 x22 : Int) (c1 : D4) :
  rnd C k cd0 6 Q next (St1 x20 x21 x22 c1) = l0s (fun x20 x21 x22 c1 => next (St1 x20 x21 x22 c1)) (fun x2 => Q .ret (St2 x2)) (fun c1 => Q (.exit 0) (St3 c1)) x20 x21 x22 c1 := by
 have h : ∀ (D L : DT α), denJ D L Js C cd0 (lq C 6 next Q) (St1 x20 x21 x22 c1) = l0s (fun x20 x21 x22 c1 => next (St1 x20 x21 x22 c1)) (fun x2 => Q .ret (St2 x2)) (fun c1 => Q (.exit 0) (St3 c1)) x20 x21 x22 c1 := by
  intro D L; kernel_rfl
 have h2 := via (k := k) h
 exact h2
def l0 {α : Type} (k : Nat) (Rt : Int -> Option α) (Xt0 : D4 -> Option α) : Nat -> D7 -> Int -> Int -> D4 -> Option α
 | 0, _, _, _, _ => none
 | n + 1, x20, x21, x22, c1 => l0s (l0 k Rt Xt0 n) Rt Xt0 x20 x21 x22 c1
theorem l0_eq {α : Type} (k : Nat) (Q : Ex -> St -> Option α) : ∀ (n : Nat) (x20 : D7) (x21 x22 : Int) (c1 : D4), iter (rnd C k cd0 6 Q) n (St1 x20 x21 x22 c1) = l0 k (fun x2 => Q .ret (St2 x2)) (fun c1 => Q (.exit 0) (St3 c1)) n x20 x21 x22 c1
 | 0, _, _, _, _ => rfl
 | n + 1, x20, x21, x22, c1 => (iter_succ _ _ _).trans ((l0s_eq k _ Q x20 x21 x22 c1).trans (congrArg (fun N => l0s N (fun x2 => Q .ret (St2 x2)) (fun c1 => Q (.exit 0) (St3 c1)) x20 x21 x22 c1) (by funext; exact l0_eq k Q n _ _ _ _)))
theorem l0_congr {α : Type} (k : Nat) (Rt : Int -> Option α) (Xt0 : D4 -> Option α) (Rtq : Int -> Option α) (Xt0q : D4 -> Option α) (hRt : ∀ (x2 : Int), Rt x2 = Rtq x2) (hXt0 : ∀ (c1 : D4), Xt0 c1 = Xt0q c1) (n : Nat) (x20 : D7) (x21 x22 : Int) (c1 : D4) : l0 k Rt Xt0 n x20 x21 x22 c1 = l0 k Rtq Xt0q n x20 x21 x22 c1 := by
 obtain rfl : Rt = Rtq := by funext x2; exact hRt x2
 obtain rfl : Xt0 = Xt0q := by funext c1; exact hXt0 c1
 rfl
noncomputable def cd1 : Code := cR (cR (cB Tryd.f48))
def St4 (c1 : D4) : St := stL 37 [(1, .ref 1 0 [])] [(1, .cell T23 (.data T23 c1) false)]
def j0 {α : Type} (Rt : Int -> Option α) (c1 : D4) : Option α :=
 if (decide ((c1.2.2.2.2.2.2.1.length : Int) > 300)) = true then
  Rt 1
 else
  Rt 0
theorem j0_eq {α : Type} (k : Nat) (Q : Ex -> St -> Option α) (c1 : D4) :
  (den C k) cd1 Q (St4 c1) = j0 (fun x2 => Q .ret (St2 x2)) c1 := by
 have h : ∀ (D L : DT α), denJ D L Js C cd1 Q (St4 c1) = j0 (fun x2 => Q .ret (St2 x2)) c1 := by
  intro D L; kernel_rfl
 have h2 := via (k := k) h
 exact h2
theorem a0 {α : Type} (k : Nat) (Q : Ex -> St -> Option α) (x20 : D7) (x21 x22 : Int) (c1 : D4) :
  (lp C k) cd0 (blkQ C 0 (sq (den C k) (lp C k) Js C cd1 Q)) (St1 x20 x21 x22 c1) = l0 k (fun x2 => (fun x2 => Q .ret (St2 x2)) x2) (fun c1 => j0 (fun x2 => Q .ret (St2 x2)) c1) k x20 x21 x22 c1 :=
 (lp_iter 6 (by kernel_rfl)).trans ((l0_eq k _ k x20 x21 x22 c1).trans (l0_congr k _ _ _ _ (fun x2 => (by kernel_rfl)) (fun c1 => (Eq.trans (b := (den C k) cd1 Q (St4 c1)) (by kernel_rfl) (by simp only [j0_eq]))) k x20 x21 x22 c1))
def top {α : Type} (k : Nat) (Rt : Int -> Option α) (x0 : D4) : Option α :=
 l0 k (fun x2 => Rt x2) (fun c1 => j0 Rt c1) k [[x0.1, 1099511627776], [x0.2.1, 4294967295], [x0.2.2.1, 65535], [x0.2.2.2.2.1, 1099511627776], [x0.2.2.2.2.2.1, 255]] 5 0 x0
theorem top_eq {α : Type} (k : Nat) (Q : Ex -> St -> Option α) (x0 : D4) :
  (den C k) (cB Tryd.f48) Q (St0 x0) = top k (fun x2 => Q .ret (St2 x2)) x0 := by
 have h : ∀ (D L : DT α), denJ D L Js C (cB Tryd.f48) Q (St0 x0) =
    L cd0 (blkQ C 0 (sq D L Js C cd1 Q)) (St1 [[x0.1, 1099511627776], [x0.2.1, 4294967295], [x0.2.2.1, 65535], [x0.2.2.2.2.1, 1099511627776], [x0.2.2.2.2.2.1, 255]] 5 0 x0) := by
  intro D L; kernel_rfl
 have h2 := via (k := k) h
 refine h2.trans ?_
 simp only [a0]
 first | rfl | kernel_rfl
def run (x0 : D4) : Option (Int) := top (α := Int) fuel (fun x2 => some x2) x0
def F : Fn := ⟨T24, T1, false, fun x => run x.1⟩
theorem con : Con Tryd.prog 48 F :=
 con_of (C := C) (ctx_ok (by kernel_rfl) (by kernel_rfl) (by kernel_rfl) (by kernel_rfl) ⟨.inl ⟨basculeref_upTo.con, basculeref_upTo.named⟩, trivial⟩) (by kernel_rfl) Tryd.func48 (c := cB Tryd.f48) (by kernel_rfl) (by kernel_rfl) F (fun x => by simp [F, spread, Tryd.ntmps48]) (fun x => (St0 x.1)) (fun x => by kernel_rfl) fun x => (top_eq fuel _ x.1).trans (by kernel_rfl)
theorem named : Named Tryd.prog 48 := named_of Tryd.func48 (by kernel_rfl) (by kernel_rfl)
end Go.Bx.basculeref_BodyFault
namespace Go.Bx.paper_pen__number_s1
def Js : List Nat := []
def C : Ctx := ⟨[(3, T1), (5, T9), (29, T10), (97, T20)], [], [], fnL [], noSh, [], invL [], [(2, []), (1, []), (4, [0, 1, 6]), (3, [0, 1, 6])], [(3, [.melt false 0 [0] 24 true])], [], 1, 0⟩
def St0 (x1 x2 : Int) (c0p0 : D0) : St := stL 27 [(0, .ref 0 0 []), (1, .data T1 x1), (2, .data T1 x2)] [(0, .cell T20 (.agg T20 [.full T9 c0p0]) false)]
def St1 (x1 x6 : Int) (c25 : D0) : St := stL 27 [(0, .ref 0 0 []), (1, .data T1 x1), (6, .data T1 x6)] [(0, .cell T20 (.agg T20 [.app 25 0]) false), (25, .buf T9 c25 0 true)]
noncomputable def cd0 : Code := cL (cL (cR (cB Tryd.f77)))
def St2 (c25 : D0) : St := stL 27 [] [(0, .cell T20 (.agg T20 [.app 25 0]) false), (25, .buf T9 c25 0 true)]
def l0s {α : Type} (Nx : Int -> Int -> D0 -> Option α) (Xt0 : D0 -> Option α) (x1 x6 : Int) (c25 : D0) : Option α :=
 if (decide (x6 >= 0)) = true then
  if 0 <= (IntKind.i64.wrap (8 * x6)) then
   if fitB (c25.length + 1) 1 = true then
    Nx x1 (IntKind.i64.wrap (x6 - 1)) (c25 ++ [(IntKind.u8.wrap (shrI .i64 x1 (IntKind.i64.wrap (8 * x6))))])
   else none
  else none
 else
  Xt0 c25
theorem l0s_eq {α : Type} (k : Nat) (next : St -> Option α) (Q : Ex -> St -> Option α) (x1 x6 : Int) (c25 : D0) :
  rnd C k cd0 3 Q next (St1 x1 x6 c25) = l0s (fun x1 x6 c25 => next (St1 x1 x6 c25)) (fun c25 => Q (.exit 0) (St2 c25)) x1 x6 c25 := by
 have h : ∀ (D L : DT α), denJ D L Js C cd0 (lq C 3 next Q) (St1 x1 x6 c25) = l0s (fun x1 x6 c25 => next (St1 x1 x6 c25)) (fun c25 => Q (.exit 0) (St2 c25)) x1 x6 c25 := by
  intro D L; kernel_rfl
 have h2 := via (k := k) h
 exact h2
def l0 {α : Type} (k : Nat) (Xt0 : D0 -> Option α) : Nat -> Int -> Int -> D0 -> Option α
 | 0, _, _, _ => none
 | n + 1, x1, x6, c25 => l0s (l0 k Xt0 n) Xt0 x1 x6 c25
theorem l0_eq {α : Type} (k : Nat) (Q : Ex -> St -> Option α) : ∀ (n : Nat) (x1 x6 : Int) (c25 : D0), iter (rnd C k cd0 3 Q) n (St1 x1 x6 c25) = l0 k (fun c25 => Q (.exit 0) (St2 c25)) n x1 x6 c25
 | 0, _, _, _ => rfl
 | n + 1, x1, x6, c25 => (iter_succ _ _ _).trans ((l0s_eq k _ Q x1 x6 c25).trans (congrArg (fun N => l0s N (fun c25 => Q (.exit 0) (St2 c25)) x1 x6 c25) (by funext; exact l0_eq k Q n _ _ _)))
def St3 (c25 : D0) : St := stL 27 [] [(0, .cell T20 (.agg T20 [.app 25 0]) false), (25, .buf T9 c25 0 true)]
theorem a0 {α : Type} (k : Nat) (Q : Ex -> St -> Option α) (x1 x6 : Int) (c25 : D0) :
  (lp C k) cd0 (blkQ C 0 (endQ C Q)) (St1 x1 x6 c25) = l0 k (fun c25 => (fun c25 => Q .ret (St3 c25)) c25) k x1 x6 c25 :=
 (lp_iter 3 (by kernel_rfl)).trans ((l0_eq k _ k x1 x6 c25).trans (congrArg (fun X => l0 k X k x1 x6 c25) (funext fun c25 => (by kernel_rfl))))
def top {α : Type} (k : Nat) (Rt : D0 -> Option α) (x1 x2 : Int) (c0p0 : D0) : Option α :=
 l0 k (fun c25 => Rt c25) k x1 (IntKind.i64.wrap (x2 - 1)) c0p0
theorem top_eq {α : Type} (k : Nat) (Q : Ex -> St -> Option α) (x1 x2 : Int) (c0p0 : D0) :
  (den C k) (cB Tryd.f77) (endQ C Q) (St0 x1 x2 c0p0) = top k (fun c25 => Q .ret (St3 c25)) x1 x2 c0p0 := by
 have h : ∀ (D L : DT α), denJ D L Js C (cB Tryd.f77) (endQ C Q) (St0 x1 x2 c0p0) =
    L cd0 (blkQ C 0 (endQ C Q)) (St1 x1 (IntKind.i64.wrap (x2 - 1)) c0p0) := by
  intro D L; kernel_rfl
 have h2 := via (k := k) h
 refine h2.trans ?_
 simp only [a0]
 first | rfl | kernel_rfl
def run (x1 x2 : Int) (c0p0 : D0) : Option D5 := top (α := List Int × Unit) fuel (fun c25 => some (c25, ())) x1 x2 c0p0
def Sp : Spec := ⟨[.ref 0 0 [], hD T1, hD T1], [(0, hC T20 (.agg T20 [hF T9]) false)], T25, .tup [], [(0, hC T20 (.agg T20 [.app 25 0]) false), (25, hB T9 0 true)], T20, fun x => run x.1 x.2.1 x.2.2.1⟩
set_option maxRecDepth 100000 in
theorem sok : SOk Tryd.prog 77 Sp.h := by
 refine sok_of_den (C := C) (ctx_ok (by kernel_rfl) (by kernel_rfl) (by kernel_rfl) (by kernel_rfl) trivial) (by kernel_rfl) Tryd.func77 (c := cB Tryd.f77) (by kernel_rfl) (by kernel_rfl) Sp fuel (by kernel_rfl) (by kernel_rfl) ?_
 intro x r h
 rw [<- h]
 have h1 : Sp.start x Tryd.f77.ntmps = (St0 x.1 x.2.1 x.2.2.1) := by kernel_rfl
 rw [h1]
 refine (top_eq fuel (finS C Tryd.f77.results.toList Sp.read) x.1 x.2.1 x.2.2.1).trans ?_
 kernel_rfl
theorem named : Named Tryd.prog 77 := named_of Tryd.func77 (by kernel_rfl) (by kernel_rfl)
end Go.Bx.paper_pen__number_s1
namespace Go.Bx.paper_pen__number_s2
def Js : List Nat := []
def C : Ctx := ⟨[(3, T1), (5, T9), (29, T10), (97, T20)], [], [], fnL [], noSh, [], invL [], [(2, []), (1, []), (4, [0, 1, 6]), (3, [0, 1, 6])], [], [], 2, 0⟩
def St0 (x1 x2 : Int) (c1 : D0) : St := stL 27 [(0, .ref 0 0 []), (1, .data T1 x1), (2, .data T1 x2)] [(0, .cell T20 (.agg T20 [.app 1 0]) false), (1, .buf T9 c1 0 true)]
def St1 (x1 x6 : Int) (c1 : D0) : St := stL 27 [(0, .ref 0 0 []), (1, .data T1 x1), (6, .data T1 x6)] [(0, .cell T20 (.agg T20 [.app 1 1]) false), (1, .buf T9 c1 1 true)]
noncomputable def cd0 : Code := cL (cL (cR (cB Tryd.f77)))
def St2 (c1 : D0) : St := stL 27 [] [(0, .cell T20 (.agg T20 [.app 1 1]) false), (1, .buf T9 c1 1 true)]
def l0s {α : Type} (Nx : Int -> Int -> D0 -> Option α) (Xt0 : D0 -> Option α) (x1 x6 : Int) (c1 : D0) : Option α :=
 if (decide (x6 >= 0)) = true then
  if 0 <= (IntKind.i64.wrap (8 * x6)) then
   if fitB (c1.length + 1) 1 = true then
    Nx x1 (IntKind.i64.wrap (x6 - 1)) (c1 ++ [(IntKind.u8.wrap (shrI .i64 x1 (IntKind.i64.wrap (8 * x6))))])
   else none
  else none
 else
  Xt0 c1
theorem l0s_eq {α : Type} (k : Nat) (next : St -> Option α) (Q : Ex -> St -> Option α) (x1 x6 : Int) (c1 : D0) :
  rnd C k cd0 3 Q next (St1 x1 x6 c1) = l0s (fun x1 x6 c1 => next (St1 x1 x6 c1)) (fun c1 => Q (.exit 0) (St2 c1)) x1 x6 c1 := by
 have h : ∀ (D L : DT α), denJ D L Js C cd0 (lq C 3 next Q) (St1 x1 x6 c1) = l0s (fun x1 x6 c1 => next (St1 x1 x6 c1)) (fun c1 => Q (.exit 0) (St2 c1)) x1 x6 c1 := by
  intro D L; kernel_rfl
 have h2 := via (k := k) h
 exact h2
def l0 {α : Type} (k : Nat) (Xt0 : D0 -> Option α) : Nat -> Int -> Int -> D0 -> Option α
 | 0, _, _, _ => none
 | n + 1, x1, x6, c1 => l0s (l0 k Xt0 n) Xt0 x1 x6 c1
theorem l0_eq {α : Type} (k : Nat) (Q : Ex -> St -> Option α) : ∀ (n : Nat) (x1 x6 : Int) (c1 : D0), iter (rnd C k cd0 3 Q) n (St1 x1 x6 c1) = l0 k (fun c1 => Q (.exit 0) (St2 c1)) n x1 x6 c1
 | 0, _, _, _ => rfl
 | n + 1, x1, x6, c1 => (iter_succ _ _ _).trans ((l0s_eq k _ Q x1 x6 c1).trans (congrArg (fun N => l0s N (fun c1 => Q (.exit 0) (St2 c1)) x1 x6 c1) (by funext; exact l0_eq k Q n _ _ _)))
def St3 (c1 : D0) : St := stL 27 [] [(0, .cell T20 (.agg T20 [.app 1 1]) false), (1, .buf T9 c1 1 true)]
theorem a0 {α : Type} (k : Nat) (Q : Ex -> St -> Option α) (x1 x6 : Int) (c1 : D0) :
  (lp C k) cd0 (blkQ C 0 (endQ C Q)) (St1 x1 x6 c1) = l0 k (fun c1 => (fun c1 => Q .ret (St3 c1)) c1) k x1 x6 c1 :=
 (lp_iter 3 (by kernel_rfl)).trans ((l0_eq k _ k x1 x6 c1).trans (congrArg (fun X => l0 k X k x1 x6 c1) (funext fun c1 => (by kernel_rfl))))
def top {α : Type} (k : Nat) (Rt : D0 -> Option α) (x1 x2 : Int) (c1 : D0) : Option α :=
 l0 k (fun c1 => Rt c1) k x1 (IntKind.i64.wrap (x2 - 1)) c1
theorem top_eq {α : Type} (k : Nat) (Q : Ex -> St -> Option α) (x1 x2 : Int) (c1 : D0) :
  (den C k) (cB Tryd.f77) (endQ C Q) (St0 x1 x2 c1) = top k (fun c1 => Q .ret (St3 c1)) x1 x2 c1 := by
 have h : ∀ (D L : DT α), denJ D L Js C (cB Tryd.f77) (endQ C Q) (St0 x1 x2 c1) =
    L cd0 (blkQ C 0 (endQ C Q)) (St1 x1 (IntKind.i64.wrap (x2 - 1)) c1) := by
  intro D L; kernel_rfl
 have h2 := via (k := k) h
 refine h2.trans ?_
 simp only [a0]
 first | rfl | kernel_rfl
def run (x1 x2 : Int) (c1 : D0) : Option D5 := top (α := List Int × Unit) fuel (fun c1 => some (c1, ())) x1 x2 c1
def Sp : Spec := ⟨[.ref 0 0 [], hD T1, hD T1], [(0, hC T20 (.agg T20 [.app 1 0]) false), (1, hB T9 0 true)], T25, .tup [], [(0, hC T20 (.agg T20 [.app 1 1]) false), (1, hB T9 1 true)], T20, fun x => run x.1 x.2.1 x.2.2.1⟩
set_option maxRecDepth 100000 in
theorem sok : SOk Tryd.prog 77 Sp.h := by
 refine sok_of_den (C := C) (ctx_ok (by kernel_rfl) (by kernel_rfl) (by kernel_rfl) (by kernel_rfl) trivial) (by kernel_rfl) Tryd.func77 (c := cB Tryd.f77) (by kernel_rfl) (by kernel_rfl) Sp fuel (by kernel_rfl) (by kernel_rfl) ?_
 intro x r h
 rw [<- h]
 have h1 : Sp.start x Tryd.f77.ntmps = (St0 x.1 x.2.1 x.2.2.1) := by kernel_rfl
 rw [h1]
 refine (top_eq fuel (finS C Tryd.f77.results.toList Sp.read) x.1 x.2.1 x.2.2.1).trans ?_
 kernel_rfl
end Go.Bx.paper_pen__number_s2
namespace Go.Bx.paper_pen__bytes_s0
def Js : List Nat := []
def C : Ctx := ⟨[(29, T10), (97, T20)], [], [], fnL [], noSh, [], invL [], [(2, [])], [], [], 3, 0⟩
def St0 (x1l x1h : Int) (c1 : D4) (c2 : D0) : St := stL 13 [(0, .ref 0 0 []), (1, .view 1 [.fld 3] T9 32 x1l x1h)] [(0, .cell T20 (.agg T20 [.app 2 0]) false), (1, .cell T23 (.data T23 c1) false), (2, .buf T9 c2 0 true)]
def St1 (c1 : D4) (c2 : D0) : St := stL 13 [] [(0, .cell T20 (.agg T20 [.app 2 1]) false), (1, .cell T23 (.data T23 c1) false), (2, .buf T9 c2 1 true)]
def top {α : Type} (Rt : D4 -> D0 -> Option α) (x1l x1h : Int) (c1 : D4) (c2 : D0) : Option α :=
 if fitB (c2.length + (cutL c1.2.2.2.1 x1l x1h).length) 1 = true then
  Rt c1 (c2 ++ (cutL c1.2.2.2.1 x1l x1h))
 else none
theorem top_eq {α : Type} (k : Nat) (Q : Ex -> St -> Option α) (x1l x1h : Int) (c1 : D4) (c2 : D0) :
  (den C k) (cB Tryd.f78) (endQ C Q) (St0 x1l x1h c1 c2) = top (fun c1 c2 => Q .ret (St1 c1 c2)) x1l x1h c1 c2 := by
 have h : ∀ (D L : DT α), denJ D L Js C (cB Tryd.f78) (endQ C Q) (St0 x1l x1h c1 c2) = top (fun c1 c2 => Q .ret (St1 c1 c2)) x1l x1h c1 c2 := by
  intro D L; kernel_rfl
 have h2 := via (k := k) h
 exact h2
def run (x1l x1h : Int) (c1 : D4) (c2 : D0) : Option D6 := top (α := D4 × List Int × Unit) (fun c1 c2 => some (c1, c2, ())) x1l x1h c1 c2
def Sp : Spec := ⟨[.ref 0 0 [], hW 1 [.fld 3] T9 32], [(0, hC T20 (.agg T20 [.app 2 0]) false), (1, hC T23 (hD T23) false), (2, hB T9 0 true)], T26, .tup [], [(0, hC T20 (.agg T20 [.app 2 1]) false), (1, hC T23 (hD T23) false), (2, hB T9 1 true)], T27, fun x => run x.1 x.2.1 x.2.2.1 x.2.2.2.1⟩
set_option maxRecDepth 100000 in
theorem sok : SOk Tryd.prog 78 Sp.h := by
 refine sok_of_den (C := C) (ctx_ok (by kernel_rfl) (by kernel_rfl) (by kernel_rfl) (by kernel_rfl) trivial) (by kernel_rfl) Tryd.func78 (c := cB Tryd.f78) (by kernel_rfl) (by kernel_rfl) Sp fuel (by kernel_rfl) (by kernel_rfl) ?_
 intro x r h
 rw [<- h]
 have h1 : Sp.start x Tryd.f78.ntmps = (St0 x.1 x.2.1 x.2.2.1 x.2.2.2.1) := by kernel_rfl
 rw [h1]
 refine (top_eq fuel (finS C Tryd.f78.results.toList Sp.read) x.1 x.2.1 x.2.2.1 x.2.2.2.1).trans ?_
 kernel_rfl
theorem named : Named Tryd.prog 78 := named_of Tryd.func78 (by kernel_rfl) (by kernel_rfl)
end Go.Bx.paper_pen__bytes_s0
namespace Go.Bx.paper_pen__bytes_s1
def Js : List Nat := []
def C : Ctx := ⟨[(29, T10), (97, T20)], [], [], fnL [], noSh, [], invL [], [(2, [])], [], [], 2, 0⟩
def St0 (x1 c1 : D0) : St := stL 13 [(0, .ref 0 0 []), (1, .data T10 x1)] [(0, .cell T20 (.agg T20 [.app 1 0]) false), (1, .buf T9 c1 0 true)]
def St1 (c1 : D0) : St := stL 13 [] [(0, .cell T20 (.agg T20 [.app 1 1]) false), (1, .buf T9 c1 1 true)]
def top {α : Type} (Rt : D0 -> Option α) (x1 c1 : D0) : Option α :=
 if fitB (c1.length + x1.length) 1 = true then
  Rt (c1 ++ x1)
 else none
theorem top_eq {α : Type} (k : Nat) (Q : Ex -> St -> Option α) (x1 c1 : D0) :
  (den C k) (cB Tryd.f78) (endQ C Q) (St0 x1 c1) = top (fun c1 => Q .ret (St1 c1)) x1 c1 := by
 have h : ∀ (D L : DT α), denJ D L Js C (cB Tryd.f78) (endQ C Q) (St0 x1 c1) = top (fun c1 => Q .ret (St1 c1)) x1 c1 := by
  intro D L; kernel_rfl
 have h2 := via (k := k) h
 exact h2
def run (x1 c1 : D0) : Option D5 := top (α := List Int × Unit) (fun c1 => some (c1, ())) x1 c1
def Sp : Spec := ⟨[.ref 0 0 [], hD T10], [(0, hC T20 (.agg T20 [.app 1 0]) false), (1, hB T9 0 true)], T28, .tup [], [(0, hC T20 (.agg T20 [.app 1 1]) false), (1, hB T9 1 true)], T20, fun x => run x.1 x.2.1⟩
set_option maxRecDepth 100000 in
theorem sok : SOk Tryd.prog 78 Sp.h := by
 refine sok_of_den (C := C) (ctx_ok (by kernel_rfl) (by kernel_rfl) (by kernel_rfl) (by kernel_rfl) trivial) (by kernel_rfl) Tryd.func78 (c := cB Tryd.f78) (by kernel_rfl) (by kernel_rfl) Sp fuel (by kernel_rfl) (by kernel_rfl) ?_
 intro x r h
 rw [<- h]
 have h1 : Sp.start x Tryd.f78.ntmps = (St0 x.1 x.2.1) := by kernel_rfl
 rw [h1]
 refine (top_eq fuel (finS C Tryd.f78.results.toList Sp.read) x.1 x.2.1).trans ?_
 kernel_rfl
end Go.Bx.paper_pen__bytes_s1
namespace Go.Bx.paper_pen__body_s0
def Js : List Nat := []
def C : Ctx := ⟨[(3, T1), (29, T10), (35, T18), (43, T23)], [], [], fnL [], shL [(77, [.one paper_pen__number_s1.Sp, .one paper_pen__number_s2.Sp]), (78, [.one paper_pen__bytes_s0.Sp, .one paper_pen__bytes_s1.Sp])], [(7, 33), (11, 34), (15, 34), (19, 34), (23, 34), (27, 34), (31, 34)], invL [], [(2, [])], [], [], 1, 0⟩
def St0 (x1 : D4) (c0p0 : D0) : St := stL 32 [(0, .ref 0 0 []), (1, .data T23 x1)] [(0, .cell T20 (.agg T20 [.full T9 c0p0]) false)]
def St1 (c34 : D0) : St := stL 32 [] [(0, .cell T20 (.agg T20 [.app 34 0]) false), (34, .buf T9 c34 0 true)]
def top {α : Type} (Rt : D0 -> Option α) (x1 : D4) (c0p0 : D0) : Option α :=
 (paper_pen__number_s1.run x1.1 8 c0p0).bind fun y1 =>
 (paper_pen__number_s2.run x1.2.1 4 y1.1).bind fun y2 =>
 (paper_pen__number_s2.run x1.2.2.1 2 y2.1).bind fun y3 =>
 (paper_pen__bytes_s0.run 0 32 x1 y3.1).bind fun y4 =>
 (paper_pen__number_s2.run y4.1.2.2.2.2.1 8 y4.2.1).bind fun y5 =>
 (paper_pen__number_s2.run y4.1.2.2.2.2.2.1 1 y5.1).bind fun y6 =>
 (paper_pen__bytes_s1.run y4.1.2.2.2.2.2.2.1 y6.1).bind fun y7 =>
 Rt y7.1
theorem top_eq {α : Type} (k : Nat) (Q : Ex -> St -> Option α) (x1 : D4) (c0p0 : D0) :
  (den C k) (cB Tryd.f47) (endQ C Q) (St0 x1 c0p0) = top (fun c34 => Q .ret (St1 c34)) x1 c0p0 := by
 have h : ∀ (D L : DT α), denJ D L Js C (cB Tryd.f47) (endQ C Q) (St0 x1 c0p0) = top (fun c34 => Q .ret (St1 c34)) x1 c0p0 := by
  intro D L; kernel_rfl
 have h2 := via (k := k) h
 exact h2
def run (x1 : D4) (c0p0 : D0) : Option D5 := top (α := List Int × Unit) (fun c34 => some (c34, ())) x1 c0p0
def Sp : Spec := ⟨[.ref 0 0 [], hD T23], [(0, hC T20 (.agg T20 [hF T9]) false)], T27, .tup [], [(0, hC T20 (.agg T20 [.app 34 0]) false), (34, hB T9 0 true)], T20, fun x => run x.1 x.2.1⟩
set_option maxRecDepth 100000 in
theorem sok : SOk Tryd.prog 47 Sp.h := by
 refine sok_of_den (C := C) (ctx_ok_sh (by kernel_rfl) (by kernel_rfl) (by kernel_rfl) (by kernel_rfl) trivial ⟨⟨⟨paper_pen__number_s1.sok, ⟨paper_pen__number_s2.sok, trivial⟩⟩, paper_pen__number_s1.named⟩, ⟨⟨⟨paper_pen__bytes_s0.sok, ⟨paper_pen__bytes_s1.sok, trivial⟩⟩, paper_pen__bytes_s0.named⟩, trivial⟩⟩) (by kernel_rfl) Tryd.func47 (c := cB Tryd.f47) (by kernel_rfl) (by kernel_rfl) Sp fuel (by kernel_rfl) (by kernel_rfl) ?_
 intro x r h
 rw [<- h]
 have h1 : Sp.start x Tryd.f47.ntmps = (St0 x.1 x.2.1) := by kernel_rfl
 rw [h1]
 refine (top_eq fuel (finS C Tryd.f47.results.toList Sp.read) x.1 x.2.1).trans ?_
 kernel_rfl
theorem named : Named Tryd.prog 47 := named_of Tryd.func47 (by kernel_rfl) (by kernel_rfl)
end Go.Bx.paper_pen__body_s0
namespace Go.Bx.basculeref_bodyText
def Js : List Nat := []
def C : Ctx := ⟨[(3, T1), (9, .str), (22, T2), (29, T10), (35, T18), (43, T23)], [], [], fnL [(68, basculeref_big.F)], noSh, [], invL [], [(2, [2])], [], [], 0, 0⟩
def St0 (x0 : D4) : St := stL 35 [(0, .data T23 x0)] []
def St1 (x2 : D0) : St := stL 35 [(2, .data .str x2)] []
def top {α : Type} (Rt : D0 -> Option α) (x0 : D4) : Option α :=
 (basculeref_big.run (IntKind.u64.wrap x0.1) 8).bind fun y1 =>
 (basculeref_big.run (IntKind.u64.wrap x0.2.1) 4).bind fun y2 =>
 if Nat.ble (y1.length + y2.length) 9223372036854775807 = true then
  (basculeref_big.run (IntKind.u64.wrap x0.2.2.1) 2).bind fun y3 =>
  if Nat.ble ((y1 ++ y2).length + y3.length) 9223372036854775807 = true then
   if Nat.ble (((y1 ++ y2) ++ y3).length + (cutL x0.2.2.2.1 0 32).length) 9223372036854775807 = true then
    (basculeref_big.run (IntKind.u64.wrap x0.2.2.2.2.1) 8).bind fun y4 =>
    if Nat.ble ((((y1 ++ y2) ++ y3) ++ (cutL x0.2.2.2.1 0 32)).length + y4.length) 9223372036854775807 = true then
     (basculeref_big.run (IntKind.u64.wrap x0.2.2.2.2.2.1) 1).bind fun y5 =>
     if Nat.ble (((((y1 ++ y2) ++ y3) ++ (cutL x0.2.2.2.1 0 32)) ++ y4).length + y5.length) 9223372036854775807 = true then
      if Nat.ble ((((((y1 ++ y2) ++ y3) ++ (cutL x0.2.2.2.1 0 32)) ++ y4) ++ y5).length + x0.2.2.2.2.2.2.1.length) 9223372036854775807 = true then
       Rt ((((((y1 ++ y2) ++ y3) ++ (cutL x0.2.2.2.1 0 32)) ++ y4) ++ y5) ++ x0.2.2.2.2.2.2.1)
      else none
     else none
    else none
   else none
  else none
 else none
theorem top_eq {α : Type} (k : Nat) (Q : Ex -> St -> Option α) (x0 : D4) :
  (den C k) (cB Tryd.f49) Q (St0 x0) = top (fun x2 => Q .ret (St1 x2)) x0 := by
 have h : ∀ (D L : DT α), denJ D L Js C (cB Tryd.f49) Q (St0 x0) = top (fun x2 => Q .ret (St1 x2)) x0 := by
  intro D L; kernel_rfl
 have h2 := via (k := k) h
 exact h2
def run (x0 : D4) : Option D0 := top (α := List Int) (fun x2 => some x2) x0
def F : Fn := ⟨T24, .str, false, fun x => run x.1⟩
theorem con : Con Tryd.prog 49 F :=
 con_of (C := C) (ctx_ok (by kernel_rfl) (by kernel_rfl) (by kernel_rfl) (by kernel_rfl) ⟨.inl ⟨basculeref_big.con, basculeref_big.named⟩, trivial⟩) (by kernel_rfl) Tryd.func49 (c := cB Tryd.f49) (by kernel_rfl) (by kernel_rfl) F (fun x => by simp [F, spread, Tryd.ntmps49]) (fun x => (St0 x.1)) (fun x => by kernel_rfl) fun x => (top_eq fuel _ x.1).trans (by kernel_rfl)
theorem named : Named Tryd.prog 49 := named_of Tryd.func49 (by kernel_rfl) (by kernel_rfl)
end Go.Bx.basculeref_bodyText
namespace Go.Bx.math_bits_RotateLeft64
def Js : List Nat := []
def C : Ctx := ⟨[(3, T1), (22, T2), (129, T2)], [], [], fnL [], noSh, [], invL [], [(2, [4])], [], [], 0, 0⟩
def St0 (x0 x1 : Int) : St := stL 17 [(0, .data T2 x0), (1, .data T1 x1)] []
def St1 (x4 : Int) : St := stL 17 [(4, .data T2 x4)] []
def top {α : Type} (Rt : Int -> Option α) (x0 x1 : Int) : Option α :=
 if 0 <= (band .u64 (IntKind.u64.wrap x1) 63) then
  if 0 <= (IntKind.u64.wrap (64 - (band .u64 (IntKind.u64.wrap x1) 63))) then
   Rt (bor .u64 (shlI .u64 x0 (band .u64 (IntKind.u64.wrap x1) 63)) (shrI .u64 x0 (IntKind.u64.wrap (64 - (band .u64 (IntKind.u64.wrap x1) 63)))))
  else none
 else none
theorem top_eq {α : Type} (k : Nat) (Q : Ex -> St -> Option α) (x0 x1 : Int) :
  (den C k) (cB Tryd.f40) Q (St0 x0 x1) = top (fun x4 => Q .ret (St1 x4)) x0 x1 := by
 have h : ∀ (D L : DT α), denJ D L Js C (cB Tryd.f40) Q (St0 x0 x1) = top (fun x4 => Q .ret (St1 x4)) x0 x1 := by
  intro D L; kernel_rfl
 have h2 := via (k := k) h
 exact h2
def run (x0 x1 : Int) : Option (Int) := top (α := Int) (fun x4 => some x4) x0 x1
def F : Fn := ⟨T3, T2, false, fun x => run x.1 x.2.1⟩
theorem con : Con Tryd.prog 40 F :=
 con_of (C := C) (ctx_ok (by kernel_rfl) (by kernel_rfl) (by kernel_rfl) (by kernel_rfl) trivial) (by kernel_rfl) Tryd.func40 (c := cB Tryd.f40) (by kernel_rfl) (by kernel_rfl) F (fun x => by simp [F, spread, Tryd.ntmps40]) (fun x => (St0 x.1 x.2.1)) (fun x => by kernel_rfl) fun x => (top_eq fuel _ x.1 x.2.1).trans (by kernel_rfl)
theorem named : Named Tryd.prog 40 := named_of Tryd.func40 (by kernel_rfl) (by kernel_rfl)
end Go.Bx.math_bits_RotateLeft64
namespace Go.Bx.keccak_Turn
def Js : List Nat := [11, 19, 25, 26, 27]
def C : Ctx := ⟨[(3, T1), (22, T2), (23, T4), (86, T5), (87, T6), (89, T7)], [], [], fnL [(40, math_bits_RotateLeft64.F)], noSh, [], invL [], [(2, [2]), (1, [1, 2]), (4, [1, 2, 16, 17]), (19, [1, 2, 4, 16, 17]), (22, [1, 2, 4, 8, 16, 17, 72]), (13, [1, 2, 4, 8, 16, 17]), (16, [1, 2, 4, 5, 8, 16, 17, 33]), (7, [1, 2, 4, 5, 16, 17]), (10, [1, 2, 4, 5, 16, 17, 20, 21]), (6, [1, 2, 16, 17]), (18, [1, 2, 4, 5, 16, 17, 20, 21]), (30, [1, 2, 4, 5, 16, 17]), (36, [1, 2, 4, 5, 8, 16, 17, 33]), (54, [1, 2, 4, 8, 16, 17]), (57, [1, 2, 4, 8, 16, 17, 72]), (72, [1, 2, 4, 16, 17]), (75, [1, 2, 16, 17]), (78, [1, 2])], [], [], 0, 0⟩
def St0 (x0 : D0) : St := stL 111 [(0, .data T4 x0)] []
def St1 (x16 : D0) (x17 : Int) (c1 c2 : D0) : St := stL 111 [(1, .ref 1 0 []), (2, .ref 2 0 []), (16, .data T5 x16), (17, .data T1 x17)] [(1, .cell T4 (.data T4 c1) false), (2, .cell T4 (.data T4 c2) false)]
noncomputable def cd0 : Code := cL (cL (cR (cL (cR (cB Tryd.f12)))))
def St2 (x4 : Int) (x16 : D0) (x17 : Int) (x20 : D0) (x21 : Int) (c1 c2 c5 : D0) : St := stL 111 [(1, .ref 1 0 []), (2, .ref 2 0 []), (4, .data T2 x4), (5, .ref 5 0 []), (16, .data T5 x16), (17, .data T1 x17), (20, .data T4 x20), (21, .data T1 x21)] [(1, .cell T4 (.data T4 c1) false), (2, .cell T4 (.data T4 c2) false), (5, .cell T6 (.data T6 c5) false)]
noncomputable def cd1 : Code := cL (cL (cR (cL (cR (cR (cL (cL (cR (cR (cL (cL (cR (cL (cR (cB Tryd.f12)))))))))))))))
def St3 (x4 : Int) (x16 : D0) (x17 : Int) (c1 c2 c5 : D0) : St := stL 111 [(1, .ref 1 0 []), (2, .ref 2 0 []), (4, .data T2 x4), (5, .ref 5 0 []), (16, .data T5 x16), (17, .data T1 x17)] [(1, .cell T4 (.data T4 c1) false), (2, .cell T4 (.data T4 c2) false), (5, .cell T6 (.data T6 c5) false)]
def l1s {α : Type} (Nx : Int -> D0 -> Int -> D0 -> Int -> D0 -> D0 -> D0 -> Option α) (Xt2 : Int -> D0 -> Int -> D0 -> D0 -> D0 -> Option α) (x4 : Int) (x16 : D0) (x17 : Int) (x20 : D0) (x21 : Int) (c1 c2 c5 : D0) : Option α :=
 if (decide (x21 < 25)) = true then
  if 0 <= x21 /\ x21 < (25 : Int) then
   if 0 <= (Int.tmod x21 5) /\ (Int.tmod x21 5) < (5 : Int) then
    if 0 <= (Int.tmod x21 5) /\ (Int.tmod x21 5) < (5 : Int) then
     Nx x4 x16 x17 x20 (IntKind.i64.wrap (x21 + 1)) c1 c2 (List.set c5 (Int.toNat (Int.tmod x21 5)) (bxor .u64 (List.getD c5 (Int.toNat (Int.tmod x21 5)) 0) (List.getD x20 (Int.toNat x21) 0)))
    else none
   else none
  else none
 else
  Xt2 x4 x16 x17 c1 c2 c5
theorem l1s_eq {α : Type} (k : Nat) (next : St -> Option α) (Q : Ex -> St -> Option α) (x4 : Int) (x16 : D0) (x17 : Int) (x20 : D0) (x21 : Int) (c1 c2 c5 : D0) :
  rnd C k cd1 18 Q next (St2 x4 x16 x17 x20 x21 c1 c2 c5) = l1s (fun x4 x16 x17 x20 x21 c1 c2 c5 => next (St2 x4 x16 x17 x20 x21 c1 c2 c5)) (fun x4 x16 x17 c1 c2 c5 => Q (.exit 2) (St3 x4 x16 x17 c1 c2 c5)) x4 x16 x17 x20 x21 c1 c2 c5 := by
 have h : ∀ (D L : DT α), denJ D L Js C cd1 (lq C 18 next Q) (St2 x4 x16 x17 x20 x21 c1 c2 c5) = l1s (fun x4 x16 x17 x20 x21 c1 c2 c5 => next (St2 x4 x16 x17 x20 x21 c1 c2 c5)) (fun x4 x16 x17 c1 c2 c5 => Q (.exit 2) (St3 x4 x16 x17 c1 c2 c5)) x4 x16 x17 x20 x21 c1 c2 c5 := by
  intro D L; kernel_rfl
 have h2 := via (k := k) h
 exact h2
def l1 {α : Type} (k : Nat) (Xt2 : Int -> D0 -> Int -> D0 -> D0 -> D0 -> Option α) : Nat -> Int -> D0 -> Int -> D0 -> Int -> D0 -> D0 -> D0 -> Option α
 | 0, _, _, _, _, _, _, _, _ => none
 | n + 1, x4, x16, x17, x20, x21, c1, c2, c5 => l1s (l1 k Xt2 n) Xt2 x4 x16 x17 x20 x21 c1 c2 c5
theorem l1_eq {α : Type} (k : Nat) (Q : Ex -> St -> Option α) : ∀ (n : Nat) (x4 : Int) (x16 : D0) (x17 : Int) (x20 : D0) (x21 : Int) (c1 c2 c5 : D0), iter (rnd C k cd1 18 Q) n (St2 x4 x16 x17 x20 x21 c1 c2 c5) = l1 k (fun x4 x16 x17 c1 c2 c5 => Q (.exit 2) (St3 x4 x16 x17 c1 c2 c5)) n x4 x16 x17 x20 x21 c1 c2 c5
 | 0, _, _, _, _, _, _, _, _ => rfl
 | n + 1, x4, x16, x17, x20, x21, c1, c2, c5 => (iter_succ _ _ _).trans ((l1s_eq k _ Q x4 x16 x17 x20 x21 c1 c2 c5).trans (congrArg (fun N => l1s N (fun x4 x16 x17 c1 c2 c5 => Q (.exit 2) (St3 x4 x16 x17 c1 c2 c5)) x4 x16 x17 x20 x21 c1 c2 c5) (by funext; exact l1_eq k Q n _ _ _ _ _ _ _ _)))
noncomputable def cd2 : Code := cR (cR (cR (cL (cL (cR (cR (cL (cL (cR (cL (cR (cB Tryd.f12))))))))))))
noncomputable def cd3 : Code := cR (cR (cR (cL (cL (cR (cL (cR (cB Tryd.f12))))))))
def St4 (x4 : Int) (x16 : D0) (x17 : Int) (c1 c2 c5 : D0) : St := stL 111 [(1, .ref 1 0 []), (2, .ref 2 0 []), (4, .data T2 x4), (5, .ref 5 0 []), (16, .data T5 x16), (17, .data T1 x17)] [(1, .cell T4 (.data T4 c1) false), (2, .cell T4 (.data T4 c2) false), (5, .cell T6 (.data T6 c5) false)]
def St5 (x4 : Int) (x16 : D0) (x17 x33 : Int) (c1 c2 : D0) (c5 c8 : D0) : St := stL 111 [(1, .ref 1 0 []), (2, .ref 2 0 []), (4, .data T2 x4), (5, .ref 5 0 []), (8, .ref 8 0 []), (16, .data T5 x16), (17, .data T1 x17), (33, .data T1 x33)] [(1, .cell T4 (.data T4 c1) false), (2, .cell T4 (.data T4 c2) false), (5, .cell T6 (.data T6 c5) false), (8, .cell T4 (.data T4 c8) false)]
noncomputable def cd4 : Code := cL (cL (cR (cL (cR (cR (cR (cR (cL (cL (cR (cR (cL (cL (cR (cL (cR (cB Tryd.f12)))))))))))))))))
def St6 (x4 : Int) (x16 : D0) (x17 : Int) (c1 c2 c8 : D0) : St := stL 111 [(1, .ref 1 0 []), (2, .ref 2 0 []), (4, .data T2 x4), (8, .ref 8 0 []), (16, .data T5 x16), (17, .data T1 x17)] [(1, .cell T4 (.data T4 c1) false), (2, .cell T4 (.data T4 c2) false), (8, .cell T4 (.data T4 c8) false)]
def l2s {α : Type} (Nx : Int -> D0 -> Int -> Int -> D0 -> D0 -> D0 -> D0 -> Option α) (Xt4 : Int -> D0 -> Int -> D0 -> D0 -> D0 -> Option α) (x4 : Int) (x16 : D0) (x17 x33 : Int) (c1 c2 : D0) (c5 c8 : D0) : Option α :=
 if (decide (x33 < 25)) = true then
  if 0 <= x33 /\ x33 < (25 : Int) then
   if 0 <= (Int.tmod (IntKind.i64.wrap ((Int.tmod x33 5) + 4)) 5) /\ (Int.tmod (IntKind.i64.wrap ((Int.tmod x33 5) + 4)) 5) < (5 : Int) then
    if 0 <= (Int.tmod (IntKind.i64.wrap ((Int.tmod x33 5) + 1)) 5) /\ (Int.tmod (IntKind.i64.wrap ((Int.tmod x33 5) + 1)) 5) < (5 : Int) then
     (math_bits_RotateLeft64.run (List.getD c5 (Int.toNat (Int.tmod (IntKind.i64.wrap ((Int.tmod x33 5) + 1)) 5)) 0) 1).bind fun y1 =>
     if 0 <= x33 /\ x33 < (25 : Int) then
      (math_bits_RotateLeft64.run (bxor .u64 (bxor .u64 (List.getD c1 (Int.toNat x33) 0) (List.getD c5 (Int.toNat (Int.tmod (IntKind.i64.wrap ((Int.tmod x33 5) + 4)) 5)) 0)) y1) (List.getD gTurns (Int.toNat x33) 0)).bind fun y2 =>
      if 0 <= (IntKind.i64.wrap ((IntKind.i64.wrap (Int.tdiv x33 5)) + (IntKind.i64.wrap (5 * (Int.tmod (IntKind.i64.wrap ((IntKind.i64.wrap (2 * (Int.tmod x33 5))) + (IntKind.i64.wrap (3 * (IntKind.i64.wrap (Int.tdiv x33 5)))))) 5))))) /\ (IntKind.i64.wrap ((IntKind.i64.wrap (Int.tdiv x33 5)) + (IntKind.i64.wrap (5 * (Int.tmod (IntKind.i64.wrap ((IntKind.i64.wrap (2 * (Int.tmod x33 5))) + (IntKind.i64.wrap (3 * (IntKind.i64.wrap (Int.tdiv x33 5)))))) 5))))) < (25 : Int) then
       Nx x4 x16 x17 (IntKind.i64.wrap (x33 + 1)) c1 c2 c5 (List.set c8 (Int.toNat (IntKind.i64.wrap ((IntKind.i64.wrap (Int.tdiv x33 5)) + (IntKind.i64.wrap (5 * (Int.tmod (IntKind.i64.wrap ((IntKind.i64.wrap (2 * (Int.tmod x33 5))) + (IntKind.i64.wrap (3 * (IntKind.i64.wrap (Int.tdiv x33 5)))))) 5)))))) y2)
      else none
     else none
    else none
   else none
  else none
 else
  Xt4 x4 x16 x17 c1 c2 c8
theorem l2s_eq {α : Type} (k : Nat) (next : St -> Option α) (Q : Ex -> St -> Option α) (x4 : Int) (x16 : D0) (x17 x33 : Int) (c1 c2 : D0) (c5 c8 : D0) :
  rnd C k cd4 36 Q next (St5 x4 x16 x17 x33 c1 c2 c5 c8) = l2s (fun x4 x16 x17 x33 c1 c2 c5 c8 => next (St5 x4 x16 x17 x33 c1 c2 c5 c8)) (fun x4 x16 x17 c1 c2 c8 => Q (.exit 4) (St6 x4 x16 x17 c1 c2 c8)) x4 x16 x17 x33 c1 c2 c5 c8 := by
 have h : ∀ (D L : DT α), denJ D L Js C cd4 (lq C 36 next Q) (St5 x4 x16 x17 x33 c1 c2 c5 c8) = l2s (fun x4 x16 x17 x33 c1 c2 c5 c8 => next (St5 x4 x16 x17 x33 c1 c2 c5 c8)) (fun x4 x16 x17 c1 c2 c8 => Q (.exit 4) (St6 x4 x16 x17 c1 c2 c8)) x4 x16 x17 x33 c1 c2 c5 c8 := by
  intro D L; kernel_rfl
 have h2 := via (k := k) h
 exact h2
def l2 {α : Type} (k : Nat) (Xt4 : Int -> D0 -> Int -> D0 -> D0 -> D0 -> Option α) : Nat -> Int -> D0 -> Int -> Int -> D0 -> D0 -> D0 -> D0 -> Option α
 | 0, _, _, _, _, _, _, _, _ => none
 | n + 1, x4, x16, x17, x33, c1, c2, c5, c8 => l2s (l2 k Xt4 n) Xt4 x4 x16 x17 x33 c1 c2 c5 c8
theorem l2_eq {α : Type} (k : Nat) (Q : Ex -> St -> Option α) : ∀ (n : Nat) (x4 : Int) (x16 : D0) (x17 x33 : Int) (c1 c2 : D0) (c5 c8 : D0), iter (rnd C k cd4 36 Q) n (St5 x4 x16 x17 x33 c1 c2 c5 c8) = l2 k (fun x4 x16 x17 c1 c2 c8 => Q (.exit 4) (St6 x4 x16 x17 c1 c2 c8)) n x4 x16 x17 x33 c1 c2 c5 c8
 | 0, _, _, _, _, _, _, _, _ => rfl
 | n + 1, x4, x16, x17, x33, c1, c2, c5, c8 => (iter_succ _ _ _).trans ((l2s_eq k _ Q x4 x16 x17 x33 c1 c2 c5 c8).trans (congrArg (fun N => l2s N (fun x4 x16 x17 c1 c2 c8 => Q (.exit 4) (St6 x4 x16 x17 c1 c2 c8)) x4 x16 x17 x33 c1 c2 c5 c8) (by funext; exact l2_eq k Q n _ _ _ _ _ _ _ _)))
noncomputable def cd5 : Code := cR (cR (cR (cR (cR (cL (cL (cR (cR (cL (cL (cR (cL (cR (cB Tryd.f12))))))))))))))
def St7 (x4 : Int) (x16 : D0) (x17 : Int) (c1 c2 c8 : D0) : St := stL 111 [(1, .ref 1 0 []), (2, .ref 2 0 []), (4, .data T2 x4), (8, .ref 8 0 []), (16, .data T5 x16), (17, .data T1 x17)] [(1, .cell T4 (.data T4 c1) false), (2, .cell T4 (.data T4 c2) false), (8, .cell T4 (.data T4 c8) false)]
def St8 (x4 : Int) (x16 : D0) (x17 x72 : Int) (c1 c2 c8 : D0) : St := stL 111 [(1, .ref 1 0 []), (2, .ref 2 0 []), (4, .data T2 x4), (8, .ref 8 0 []), (16, .data T5 x16), (17, .data T1 x17), (72, .data T1 x72)] [(1, .cell T4 (.data T4 c1) false), (2, .cell T4 (.data T4 c2) false), (8, .cell T4 (.data T4 c8) false)]
noncomputable def cd6 : Code := cL (cL (cR (cL (cR (cR (cR (cR (cR (cL (cL (cR (cR (cL (cL (cR (cL (cR (cB Tryd.f12))))))))))))))))))
def St9 (x4 : Int) (x16 : D0) (x17 : Int) (c1 c2 : D0) : St := stL 111 [(1, .ref 1 0 []), (2, .ref 2 0 []), (4, .data T2 x4), (16, .data T5 x16), (17, .data T1 x17)] [(1, .cell T4 (.data T4 c1) false), (2, .cell T4 (.data T4 c2) false)]
def l3s {α : Type} (Nx : Int -> D0 -> Int -> Int -> D0 -> D0 -> D0 -> Option α) (Xt6 : Int -> D0 -> Int -> D0 -> D0 -> Option α) (x4 : Int) (x16 : D0) (x17 x72 : Int) (c1 c2 c8 : D0) : Option α :=
 if (decide (x72 < 25)) = true then
  if 0 <= x72 /\ x72 < (25 : Int) then
   if 0 <= (IntKind.i64.wrap ((Int.tmod (IntKind.i64.wrap ((Int.tmod x72 5) + 1)) 5) + (IntKind.i64.wrap (5 * (IntKind.i64.wrap (Int.tdiv x72 5)))))) /\ (IntKind.i64.wrap ((Int.tmod (IntKind.i64.wrap ((Int.tmod x72 5) + 1)) 5) + (IntKind.i64.wrap (5 * (IntKind.i64.wrap (Int.tdiv x72 5)))))) < (25 : Int) then
    if 0 <= (IntKind.i64.wrap ((Int.tmod (IntKind.i64.wrap ((Int.tmod x72 5) + 2)) 5) + (IntKind.i64.wrap (5 * (IntKind.i64.wrap (Int.tdiv x72 5)))))) /\ (IntKind.i64.wrap ((Int.tmod (IntKind.i64.wrap ((Int.tmod x72 5) + 2)) 5) + (IntKind.i64.wrap (5 * (IntKind.i64.wrap (Int.tdiv x72 5)))))) < (25 : Int) then
     if 0 <= x72 /\ x72 < (25 : Int) then
      Nx x4 x16 x17 (IntKind.i64.wrap (x72 + 1)) (List.set c1 (Int.toNat x72) (bxor .u64 (List.getD c8 (Int.toNat x72) 0) (band .u64 (bxor .u64 18446744073709551615 (List.getD c8 (Int.toNat (IntKind.i64.wrap ((Int.tmod (IntKind.i64.wrap ((Int.tmod x72 5) + 1)) 5) + (IntKind.i64.wrap (5 * (IntKind.i64.wrap (Int.tdiv x72 5))))))) 0)) (List.getD c8 (Int.toNat (IntKind.i64.wrap ((Int.tmod (IntKind.i64.wrap ((Int.tmod x72 5) + 2)) 5) + (IntKind.i64.wrap (5 * (IntKind.i64.wrap (Int.tdiv x72 5))))))) 0)))) c2 c8
     else none
    else none
   else none
  else none
 else
  Xt6 x4 x16 x17 c1 c2
theorem l3s_eq {α : Type} (k : Nat) (next : St -> Option α) (Q : Ex -> St -> Option α) (x4 : Int) (x16 : D0) (x17 x72 : Int) (c1 c2 c8 : D0) :
  rnd C k cd6 57 Q next (St8 x4 x16 x17 x72 c1 c2 c8) = l3s (fun x4 x16 x17 x72 c1 c2 c8 => next (St8 x4 x16 x17 x72 c1 c2 c8)) (fun x4 x16 x17 c1 c2 => Q (.exit 6) (St9 x4 x16 x17 c1 c2)) x4 x16 x17 x72 c1 c2 c8 := by
 have h : ∀ (D L : DT α), denJ D L Js C cd6 (lq C 57 next Q) (St8 x4 x16 x17 x72 c1 c2 c8) = l3s (fun x4 x16 x17 x72 c1 c2 c8 => next (St8 x4 x16 x17 x72 c1 c2 c8)) (fun x4 x16 x17 c1 c2 => Q (.exit 6) (St9 x4 x16 x17 c1 c2)) x4 x16 x17 x72 c1 c2 c8 := by
  intro D L; kernel_rfl
 have h2 := via (k := k) h
 exact h2
def l3 {α : Type} (k : Nat) (Xt6 : Int -> D0 -> Int -> D0 -> D0 -> Option α) : Nat -> Int -> D0 -> Int -> Int -> D0 -> D0 -> D0 -> Option α
 | 0, _, _, _, _, _, _, _ => none
 | n + 1, x4, x16, x17, x72, c1, c2, c8 => l3s (l3 k Xt6 n) Xt6 x4 x16 x17 x72 c1 c2 c8
theorem l3_eq {α : Type} (k : Nat) (Q : Ex -> St -> Option α) : ∀ (n : Nat) (x4 : Int) (x16 : D0) (x17 x72 : Int) (c1 c2 c8 : D0), iter (rnd C k cd6 57 Q) n (St8 x4 x16 x17 x72 c1 c2 c8) = l3 k (fun x4 x16 x17 c1 c2 => Q (.exit 6) (St9 x4 x16 x17 c1 c2)) n x4 x16 x17 x72 c1 c2 c8
 | 0, _, _, _, _, _, _, _ => rfl
 | n + 1, x4, x16, x17, x72, c1, c2, c8 => (iter_succ _ _ _).trans ((l3s_eq k _ Q x4 x16 x17 x72 c1 c2 c8).trans (congrArg (fun N => l3s N (fun x4 x16 x17 c1 c2 => Q (.exit 6) (St9 x4 x16 x17 c1 c2)) x4 x16 x17 x72 c1 c2 c8) (by funext; exact l3_eq k Q n _ _ _ _ _ _ _)))
noncomputable def cd7 : Code := cR (cR (cR (cR (cR (cR (cL (cL (cR (cR (cL (cL (cR (cL (cR (cB Tryd.f12)))))))))))))))
def St10 (x4 : Int) (x16 : D0) (x17 : Int) (c1 c2 : D0) : St := stL 111 [(1, .ref 1 0 []), (2, .ref 2 0 []), (4, .data T2 x4), (16, .data T5 x16), (17, .data T1 x17)] [(1, .cell T4 (.data T4 c1) false), (2, .cell T4 (.data T4 c2) false)]
def St11 (x16 : D0) (x17 : Int) (c1 c2 : D0) : St := stL 111 [(1, .ref 1 0 []), (2, .ref 2 0 []), (16, .data T5 x16), (17, .data T1 x17)] [(1, .cell T4 (.data T4 c1) false), (2, .cell T4 (.data T4 c2) false)]
def j3 {α : Type} (Nx : D0 -> Int -> D0 -> D0 -> Option α) (x16 : D0) (x17 : Int) (c1 c2 : D0) : Option α :=
 Nx x16 (IntKind.i64.wrap (x17 + 1)) c1 c2
theorem j3_eq {α : Type} (k : Nat) (next : St -> Option α) (Q : Ex -> St -> Option α) (x16 : D0) (x17 : Int) (c1 c2 : D0) :
  (den C k) cd3 (lq C 6 next Q) (St11 x16 x17 c1 c2) = j3 (fun x16 x17 c1 c2 => next (St1 x16 x17 c1 c2)) x16 x17 c1 c2 := by
 have h : ∀ (D L : DT α), denJ D L Js C cd3 (lq C 6 next Q) (St11 x16 x17 c1 c2) = j3 (fun x16 x17 c1 c2 => next (St1 x16 x17 c1 c2)) x16 x17 c1 c2 := by
  intro D L; kernel_rfl
 have h2 := via (k := k) h
 exact h2
def j2 {α : Type} (Nx : D0 -> Int -> D0 -> D0 -> Option α) (x4 : Int) (x16 : D0) (x17 : Int) (c1 c2 : D0) : Option α :=
 j3 Nx x16 x17 (List.set c1 0 (bxor .u64 (List.getD c1 0 0) x4)) c2
theorem j2_eq {α : Type} (k : Nat) (next : St -> Option α) (Q : Ex -> St -> Option α) (x4 : Int) (x16 : D0) (x17 : Int) (c1 c2 : D0) :
  (den C k) cd7 (blkQ C 1 (sq (den C k) (lp C k) Js C cd3 (lq C 6 next Q))) (St10 x4 x16 x17 c1 c2) = j2 (fun x16 x17 c1 c2 => next (St1 x16 x17 c1 c2)) x4 x16 x17 c1 c2 := by
 have h : ∀ (D L : DT α), denJ D L Js C cd7 (blkQ C 1 (sq D L Js C cd3 (lq C 6 next Q))) (St10 x4 x16 x17 c1 c2) =
    D cd3 (lq C 6 next Q) (St11 x16 x17 (List.set c1 0 (bxor .u64 (List.getD c1 0 0) x4)) c2) := by
  intro D L; kernel_rfl
 have h2 := via (k := k) h
 refine h2.trans ?_
 simp only [j3_eq]
 first | rfl | kernel_rfl
theorem a0 {α : Type} (k : Nat) (next : St -> Option α) (Q : Ex -> St -> Option α) (x4 : Int) (x16 : D0) (x17 x72 : Int) (c1 c2 c8 : D0) :
  (lp C k) cd6 (blkQ C 6 (sq (den C k) (lp C k) Js C cd7 (blkQ C 1 (sq (den C k) (lp C k) Js C cd3 (lq C 6 next Q))))) (St8 x4 x16 x17 x72 c1 c2 c8) = l3 k (fun x4 x16 x17 c1 c2 => j2 (fun x16 x17 c1 c2 => next (St1 x16 x17 c1 c2)) x4 x16 x17 c1 c2) k x4 x16 x17 x72 c1 c2 c8 :=
 (lp_iter 57 (by kernel_rfl)).trans ((l3_eq k _ k x4 x16 x17 x72 c1 c2 c8).trans (congrArg (fun X => l3 k X k x4 x16 x17 x72 c1 c2 c8) (funext fun x4 => funext fun x16 => funext fun x17 => funext fun c1 => funext fun c2 => (Eq.trans (b := (den C k) cd7 (blkQ C 1 (sq (den C k) (lp C k) Js C cd3 (lq C 6 next Q))) (St10 x4 x16 x17 c1 c2)) (by kernel_rfl) (by simp only [j2_eq])))))
def j1 {α : Type} (k : Nat) (Nx : D0 -> Int -> D0 -> D0 -> Option α) (x4 : Int) (x16 : D0) (x17 : Int) (c1 c2 c8 : D0) : Option α :=
 l3 k (fun x4 x16 x17 c1 c2 => j2 Nx x4 x16 x17 c1 c2) k x4 x16 x17 0 c1 c2 c8
theorem j1_eq {α : Type} (k : Nat) (next : St -> Option α) (Q : Ex -> St -> Option α) (x4 : Int) (x16 : D0) (x17 : Int) (c1 c2 c8 : D0) :
  (den C k) cd5 (blkQ C 1 (sq (den C k) (lp C k) Js C cd3 (lq C 6 next Q))) (St7 x4 x16 x17 c1 c2 c8) = j1 k (fun x16 x17 c1 c2 => next (St1 x16 x17 c1 c2)) x4 x16 x17 c1 c2 c8 := by
 have h : ∀ (D L : DT α), denJ D L Js C cd5 (blkQ C 1 (sq D L Js C cd3 (lq C 6 next Q))) (St7 x4 x16 x17 c1 c2 c8) =
    L cd6 (blkQ C 6 (sq D L Js C cd7 (blkQ C 1 (sq D L Js C cd3 (lq C 6 next Q))))) (St8 x4 x16 x17 0 c1 c2 c8) := by
  intro D L; kernel_rfl
 have h2 := via (k := k) h
 refine h2.trans ?_
 simp only [a0]
 first | rfl | kernel_rfl
theorem a1 {α : Type} (k : Nat) (next : St -> Option α) (Q : Ex -> St -> Option α) (x4 : Int) (x16 : D0) (x17 x33 : Int) (c1 c2 : D0) (c5 c8 : D0) :
  (lp C k) cd4 (blkQ C 4 (sq (den C k) (lp C k) Js C cd5 (blkQ C 1 (sq (den C k) (lp C k) Js C cd3 (lq C 6 next Q))))) (St5 x4 x16 x17 x33 c1 c2 c5 c8) = l2 k (fun x4 x16 x17 c1 c2 c8 => j1 k (fun x16 x17 c1 c2 => next (St1 x16 x17 c1 c2)) x4 x16 x17 c1 c2 c8) k x4 x16 x17 x33 c1 c2 c5 c8 :=
 (lp_iter 36 (by kernel_rfl)).trans ((l2_eq k _ k x4 x16 x17 x33 c1 c2 c5 c8).trans (congrArg (fun X => l2 k X k x4 x16 x17 x33 c1 c2 c5 c8) (funext fun x4 => funext fun x16 => funext fun x17 => funext fun c1 => funext fun c2 => funext fun c8 => (Eq.trans (b := (den C k) cd5 (blkQ C 1 (sq (den C k) (lp C k) Js C cd3 (lq C 6 next Q))) (St7 x4 x16 x17 c1 c2 c8)) (by kernel_rfl) (by simp only [j1_eq])))))
def j0 {α : Type} (k : Nat) (Nx : D0 -> Int -> D0 -> D0 -> Option α) (x4 : Int) (x16 : D0) (x17 : Int) (c1 c2 c5 : D0) : Option α :=
 l2 k (fun x4 x16 x17 c1 c2 c8 => j1 k Nx x4 x16 x17 c1 c2 c8) k x4 x16 x17 0 c1 c2 c5 (List.replicate 25 0)
theorem j0_eq {α : Type} (k : Nat) (next : St -> Option α) (Q : Ex -> St -> Option α) (x4 : Int) (x16 : D0) (x17 : Int) (c1 c2 c5 : D0) :
  (den C k) cd2 (blkQ C 1 (sq (den C k) (lp C k) Js C cd3 (lq C 6 next Q))) (St4 x4 x16 x17 c1 c2 c5) = j0 k (fun x16 x17 c1 c2 => next (St1 x16 x17 c1 c2)) x4 x16 x17 c1 c2 c5 := by
 have h : ∀ (D L : DT α), denJ D L Js C cd2 (blkQ C 1 (sq D L Js C cd3 (lq C 6 next Q))) (St4 x4 x16 x17 c1 c2 c5) =
    L cd4 (blkQ C 4 (sq D L Js C cd5 (blkQ C 1 (sq D L Js C cd3 (lq C 6 next Q))))) (St5 x4 x16 x17 0 c1 c2 c5 (List.replicate 25 0)) := by
  intro D L; kernel_rfl
 have h2 := via (k := k) h
 refine h2.trans ?_
 simp only [a1]
 first | rfl | kernel_rfl
theorem a2 {α : Type} (k : Nat) (next : St -> Option α) (Q : Ex -> St -> Option α) (x4 : Int) (x16 : D0) (x17 : Int) (x20 : D0) (x21 : Int) (c1 c2 c5 : D0) :
  (lp C k) cd1 (blkQ C 2 (sq (den C k) (lp C k) Js C cd2 (blkQ C 1 (sq (den C k) (lp C k) Js C cd3 (lq C 6 next Q))))) (St2 x4 x16 x17 x20 x21 c1 c2 c5) = l1 k (fun x4 x16 x17 c1 c2 c5 => j0 k (fun x16 x17 c1 c2 => next (St1 x16 x17 c1 c2)) x4 x16 x17 c1 c2 c5) k x4 x16 x17 x20 x21 c1 c2 c5 :=
 (lp_iter 18 (by kernel_rfl)).trans ((l1_eq k _ k x4 x16 x17 x20 x21 c1 c2 c5).trans (congrArg (fun X => l1 k X k x4 x16 x17 x20 x21 c1 c2 c5) (funext fun x4 => funext fun x16 => funext fun x17 => funext fun c1 => funext fun c2 => funext fun c5 => (Eq.trans (b := (den C k) cd2 (blkQ C 1 (sq (den C k) (lp C k) Js C cd3 (lq C 6 next Q))) (St4 x4 x16 x17 c1 c2 c5)) (by kernel_rfl) (by simp only [j0_eq])))))
def St12 (c1 c2 : D0) : St := stL 111 [(1, .ref 1 0 []), (2, .ref 2 0 [])] [(1, .cell T4 (.data T4 c1) false), (2, .cell T4 (.data T4 c2) false)]
def l0s {α : Type} (k : Nat) (Nx : D0 -> Int -> D0 -> D0 -> Option α) (Xt0 : D0 -> D0 -> Option α) (x16 : D0) (x17 : Int) (c1 c2 : D0) : Option α :=
 if (decide (x17 < 24)) = true then
  if 0 <= x17 /\ x17 < (24 : Int) then
   l1 k (fun x4 x16 x17 c1 c2 c5 => j0 k Nx x4 x16 x17 c1 c2 c5) k (List.getD x16 (Int.toNat x17) 0) x16 x17 c1 0 c1 c2 [0, 0, 0, 0, 0]
  else none
 else
  Xt0 c1 c2
theorem l0s_eq {α : Type} (k : Nat) (next : St -> Option α) (Q : Ex -> St -> Option α) (x16 : D0) (x17 : Int) (c1 c2 : D0) :
  rnd C k cd0 6 Q next (St1 x16 x17 c1 c2) = l0s k (fun x16 x17 c1 c2 => next (St1 x16 x17 c1 c2)) (fun c1 c2 => Q (.exit 0) (St12 c1 c2)) x16 x17 c1 c2 := by
 have h : ∀ (D L : DT α), denJ D L Js C cd0 (lq C 6 next Q) (St1 x16 x17 c1 c2) =
    if (decide (x17 < 24)) = true then
     if 0 <= x17 /\ x17 < (24 : Int) then
      L cd1 (blkQ C 2 (sq D L Js C cd2 (blkQ C 1 (sq D L Js C cd3 (lq C 6 next Q))))) (St2 (List.getD x16 (Int.toNat x17) 0) x16 x17 c1 0 c1 c2 [0, 0, 0, 0, 0])
     else none
    else
     Q (.exit 0) (St12 c1 c2) := by
  intro D L; kernel_rfl
 have h2 := via (k := k) h
 refine h2.trans ?_
 simp only [a2]
 first | rfl | kernel_rfl
def l0 {α : Type} (k : Nat) (Xt0 : D0 -> D0 -> Option α) : Nat -> D0 -> Int -> D0 -> D0 -> Option α
 | 0, _, _, _, _ => none
 | n + 1, x16, x17, c1, c2 => l0s k (l0 k Xt0 n) Xt0 x16 x17 c1 c2
theorem l0_eq {α : Type} (k : Nat) (Q : Ex -> St -> Option α) : ∀ (n : Nat) (x16 : D0) (x17 : Int) (c1 c2 : D0), iter (rnd C k cd0 6 Q) n (St1 x16 x17 c1 c2) = l0 k (fun c1 c2 => Q (.exit 0) (St12 c1 c2)) n x16 x17 c1 c2
 | 0, _, _, _, _ => rfl
 | n + 1, x16, x17, c1, c2 => (iter_succ _ _ _).trans ((l0s_eq k _ Q x16 x17 c1 c2).trans (congrArg (fun N => l0s k N (fun c1 c2 => Q (.exit 0) (St12 c1 c2)) x16 x17 c1 c2) (by funext; exact l0_eq k Q n _ _ _ _)))
noncomputable def cd8 : Code := cR (cR (cB Tryd.f12))
def St13 (c1 c2 : D0) : St := stL 111 [(1, .ref 1 0 []), (2, .ref 2 0 [])] [(1, .cell T4 (.data T4 c1) false), (2, .cell T4 (.data T4 c2) false)]
def St14 (c2 : D0) : St := stL 111 [(2, .ref 2 0 [])] [(2, .cell T4 (.data T4 c2) false)]
def j4 {α : Type} (Rt : D0 -> Option α) (c1 c2 : D0) : Option α :=
 Rt c1
theorem j4_eq {α : Type} (k : Nat) (Q : Ex -> St -> Option α) (c1 c2 : D0) :
  (den C k) cd8 Q (St13 c1 c2) = j4 (fun c2 => Q .ret (St14 c2)) c1 c2 := by
 have h : ∀ (D L : DT α), denJ D L Js C cd8 Q (St13 c1 c2) = j4 (fun c2 => Q .ret (St14 c2)) c1 c2 := by
  intro D L; kernel_rfl
 have h2 := via (k := k) h
 exact h2
theorem a3 {α : Type} (k : Nat) (Q : Ex -> St -> Option α) (x16 : D0) (x17 : Int) (c1 c2 : D0) :
  (lp C k) cd0 (blkQ C 0 (sq (den C k) (lp C k) Js C cd8 Q)) (St1 x16 x17 c1 c2) = l0 k (fun c1 c2 => j4 (fun c2 => Q .ret (St14 c2)) c1 c2) k x16 x17 c1 c2 :=
 (lp_iter 6 (by kernel_rfl)).trans ((l0_eq k _ k x16 x17 c1 c2).trans (congrArg (fun X => l0 k X k x16 x17 c1 c2) (funext fun c1 => funext fun c2 => (Eq.trans (b := (den C k) cd8 Q (St13 c1 c2)) (by kernel_rfl) (by simp only [j4_eq])))))
def top {α : Type} (k : Nat) (Rt : D0 -> Option α) (x0 : D0) : Option α :=
 l0 k (fun c1 c2 => j4 Rt c1 c2) k gRounds 0 x0 (List.replicate 25 0)
theorem top_eq {α : Type} (k : Nat) (Q : Ex -> St -> Option α) (x0 : D0) :
  (den C k) (cB Tryd.f12) Q (St0 x0) = top k (fun c2 => Q .ret (St14 c2)) x0 := by
 have h : ∀ (D L : DT α), denJ D L Js C (cB Tryd.f12) Q (St0 x0) =
    L cd0 (blkQ C 0 (sq D L Js C cd8 Q)) (St1 gRounds 0 x0 (List.replicate 25 0)) := by
  intro D L; kernel_rfl
 have h2 := via (k := k) h
 refine h2.trans ?_
 simp only [a3]
 first | rfl | kernel_rfl
def run (x0 : D0) : Option D0 := top (α := List Int) fuel (fun c2 => some c2) x0
def F : Fn := ⟨T8, T4, false, fun x => run x.1⟩
theorem con : Con Tryd.prog 12 F :=
 con_of (C := C) (ctx_ok (by kernel_rfl) (by kernel_rfl) (by kernel_rfl) (by kernel_rfl) ⟨.inl ⟨math_bits_RotateLeft64.con, math_bits_RotateLeft64.named⟩, trivial⟩) (by kernel_rfl) Tryd.func12 (c := cB Tryd.f12) (by kernel_rfl) (by kernel_rfl) F (fun x => by simp [F, spread, Tryd.ntmps12]) (fun x => (St0 x.1)) (fun x => by kernel_rfl) fun x => (top_eq fuel _ x.1).trans (by kernel_rfl)
theorem named : Named Tryd.prog 12 := named_of Tryd.func12 (by kernel_rfl) (by kernel_rfl)
end Go.Bx.keccak_Turn
namespace Go.Bx.basculeref_roundOf
def Js : List Nat := [9, 11]
def C : Ctx := ⟨[(3, T1), (5, T9), (9, .str), (22, T2), (29, T10)], [], [], fnL [], noSh, [], invL [], [(2, [2]), (1, [3]), (4, [3, 13, 14, 15]), (9, [3, 13, 14, 15]), (24, [3, 6, 13, 14, 15]), (30, [3])], [], [], 0, 0⟩
def lit0 : List Int := [48, 48, 48, 48, 48, 48, 48, 48, 48, 48, 48, 48, 48, 48, 48, 49, 48, 48, 48, 48, 48, 48, 48, 48, 48, 48, 48, 48, 56, 48, 56, 50, 56, 48, 48, 48, 48, 48, 48, 48, 48, 48, 48, 48, 56, 48, 56, 97, 56, 48, 48, 48, 48, 48, 48, 48, 56, 48, 48, 48, 56, 48, 48, 48, 48, 48, 48, 48, 48, 48, 48, 48, 48, 48, 48, 48, 56, 48, 56, 98, 48, 48, 48, 48, 48, 48, 48, 48, 56, 48, 48, 48, 48, 48, 48, 49, 56, 48, 48, 48, 48, 48, 48, 48, 56, 48, 48, 48, 56, 48, 56, 49, 56, 48, 48, 48, 48, 48, 48, 48, 48, 48, 48, 48, 56, 48, 48, 57, 48, 48, 48, 48, 48, 48, 48, 48, 48, 48, 48, 48, 48, 48, 56, 97, 48, 48, 48, 48, 48, 48, 48, 48, 48, 48, 48, 48, 48, 48, 56, 56, 48, 48, 48, 48, 48, 48, 48, 48, 56, 48, 48, 48, 56, 48, 48, 57, 48, 48, 48, 48, 48, 48, 48, 48, 56, 48, 48, 48, 48, 48, 48, 97, 48, 48, 48, 48, 48, 48, 48, 48, 56, 48, 48, 48, 56, 48, 56, 98, 56, 48, 48, 48, 48, 48, 48, 48, 48, 48, 48, 48, 48, 48, 56, 98, 56, 48, 48, 48, 48, 48, 48, 48, 48, 48, 48, 48, 56, 48, 56, 57, 56, 48, 48, 48, 48, 48, 48, 48, 48, 48, 48, 48, 56, 48, 48, 51, 56, 48, 48, 48, 48, 48, 48, 48, 48, 48, 48, 48, 56, 48, 48, 50, 56, 48, 48, 48, 48, 48, 48, 48, 48, 48, 48, 48, 48, 48, 56, 48, 48, 48, 48, 48, 48, 48, 48, 48, 48, 48, 48, 48, 56, 48, 48, 97, 56, 48, 48, 48, 48, 48, 48, 48, 56, 48, 48, 48, 48, 48, 48, 97, 56, 48, 48, 48, 48, 48, 48, 48, 56, 48, 48, 48, 56, 48, 56, 49, 56, 48, 48, 48, 48, 48, 48, 48, 48, 48, 48, 48, 56, 48, 56, 48, 48, 48, 48, 48, 48, 48, 48, 48, 56, 48, 48, 48, 48, 48, 48, 49, 56, 48, 48, 48, 48, 48, 48, 48, 56, 48, 48, 48, 56, 48, 48, 56]
def St0 (x0 : Int) : St := stL 34 [(0, .data T1 x0)] []
def St1 (x3 : Int) (x13 : D0) (x14 x15 : Int) : St := stL 34 [(3, .data T2 x3), (13, .data T10 x13), (14, .data T1 x14), (15, .data T1 x15)] []
noncomputable def cd0 : Code := cL (cL (cR (cL (cR (cR (cB Tryd.f41))))))
def St2 (x3 x6 : Int) (x13 : D0) (x14 x15 : Int) : St := stL 34 [(3, .data T2 x3), (6, .data T2 x6), (13, .data T10 x13), (14, .data T1 x14), (15, .data T1 x15)] []
noncomputable def cd1 : Code := cR (cR (cR (cL (cL (cR (cL (cR (cR (cB Tryd.f41)))))))))
noncomputable def cd2 : Code := cR (cR (cR (cL (cL (cR (cR (cL (cL (cR (cL (cR (cR (cB Tryd.f41)))))))))))))
def j0 {α : Type} (Nx : Int -> D0 -> Int -> Int -> Option α) (x3 x6 : Int) (x13 : D0) (x14 x15 : Int) : Option α :=
 Nx (IntKind.u64.wrap ((IntKind.u64.wrap (x3 * 16)) + x6)) x13 x14 (IntKind.i64.wrap (x15 + 1))
theorem j0_eq {α : Type} (k : Nat) (next : St -> Option α) (Q : Ex -> St -> Option α) (x3 x6 : Int) (x13 : D0) (x14 x15 : Int) :
  (den C k) cd2 (blkQ C 1 (sq (den C k) (lp C k) Js C cd1 (lq C 9 next Q))) (St2 x3 x6 x13 x14 x15) = j0 (fun x3 x13 x14 x15 => next (St1 x3 x13 x14 x15)) x3 x6 x13 x14 x15 := by
 have h : ∀ (D L : DT α), denJ D L Js C cd2 (blkQ C 1 (sq D L Js C cd1 (lq C 9 next Q))) (St2 x3 x6 x13 x14 x15) = j0 (fun x3 x13 x14 x15 => next (St1 x3 x13 x14 x15)) x3 x6 x13 x14 x15 := by
  intro D L; kernel_rfl
 have h2 := via (k := k) h
 exact h2
def St3 (x3 : Int) : St := stL 34 [(3, .data T2 x3)] []
def l0s {α : Type} (Nx : Int -> D0 -> Int -> Int -> Option α) (Xt0 : Int -> Option α) (x3 : Int) (x13 : D0) (x14 x15 : Int) : Option α :=
 if (decide (x15 < x14)) = true then
  if 0 <= x15 /\ x15 < (x13.length : Int) then
   if (decide ((List.getD x13 (Int.toNat x15) 0) >= 97)) = true then
    j0 Nx x3 (IntKind.u64.wrap ((IntKind.u64.wrap (IntKind.u8.wrap ((List.getD x13 (Int.toNat x15) 0) - 97))) + 10)) x13 x14 x15
   else
    j0 Nx x3 (IntKind.u64.wrap (IntKind.u8.wrap ((List.getD x13 (Int.toNat x15) 0) - 48))) x13 x14 x15
  else none
 else
  Xt0 x3
theorem l0s_eq {α : Type} (k : Nat) (next : St -> Option α) (Q : Ex -> St -> Option α) (x3 : Int) (x13 : D0) (x14 x15 : Int) :
  rnd C k cd0 9 Q next (St1 x3 x13 x14 x15) = l0s (fun x3 x13 x14 x15 => next (St1 x3 x13 x14 x15)) (fun x3 => Q (.exit 0) (St3 x3)) x3 x13 x14 x15 := by
 have h : ∀ (D L : DT α), denJ D L Js C cd0 (lq C 9 next Q) (St1 x3 x13 x14 x15) =
    if (decide (x15 < x14)) = true then
     if 0 <= x15 /\ x15 < (x13.length : Int) then
      if (decide ((List.getD x13 (Int.toNat x15) 0) >= 97)) = true then
       D cd2 (blkQ C 1 (sq D L Js C cd1 (lq C 9 next Q))) (St2 x3 (IntKind.u64.wrap ((IntKind.u64.wrap (IntKind.u8.wrap ((List.getD x13 (Int.toNat x15) 0) - 97))) + 10)) x13 x14 x15)
      else
       D cd2 (blkQ C 1 (sq D L Js C cd1 (lq C 9 next Q))) (St2 x3 (IntKind.u64.wrap (IntKind.u8.wrap ((List.getD x13 (Int.toNat x15) 0) - 48))) x13 x14 x15)
     else none
    else
     Q (.exit 0) (St3 x3) := by
  intro D L; kernel_rfl
 have h2 := via (k := k) h
 refine h2.trans ?_
 simp only [j0_eq]
 first | rfl | kernel_rfl
def l0 {α : Type} (k : Nat) (Xt0 : Int -> Option α) : Nat -> Int -> D0 -> Int -> Int -> Option α
 | 0, _, _, _, _ => none
 | n + 1, x3, x13, x14, x15 => l0s (l0 k Xt0 n) Xt0 x3 x13 x14 x15
theorem l0_eq {α : Type} (k : Nat) (Q : Ex -> St -> Option α) : ∀ (n : Nat) (x3 : Int) (x13 : D0) (x14 x15 : Int), iter (rnd C k cd0 9 Q) n (St1 x3 x13 x14 x15) = l0 k (fun x3 => Q (.exit 0) (St3 x3)) n x3 x13 x14 x15
 | 0, _, _, _, _ => rfl
 | n + 1, x3, x13, x14, x15 => (iter_succ _ _ _).trans ((l0s_eq k _ Q x3 x13 x14 x15).trans (congrArg (fun N => l0s N (fun x3 => Q (.exit 0) (St3 x3)) x3 x13 x14 x15) (by funext; exact l0_eq k Q n _ _ _ _)))
noncomputable def cd3 : Code := cR (cR (cR (cB Tryd.f41)))
def St4 (x3 : Int) : St := stL 34 [(3, .data T2 x3)] []
def St5 (x2 : Int) : St := stL 34 [(2, .data T2 x2)] []
def j1 {α : Type} (Rt : Int -> Option α) (x3 : Int) : Option α :=
 Rt x3
theorem j1_eq {α : Type} (k : Nat) (Q : Ex -> St -> Option α) (x3 : Int) :
  (den C k) cd3 Q (St4 x3) = j1 (fun x2 => Q .ret (St5 x2)) x3 := by
 have h : ∀ (D L : DT α), denJ D L Js C cd3 Q (St4 x3) = j1 (fun x2 => Q .ret (St5 x2)) x3 := by
  intro D L; kernel_rfl
 have h2 := via (k := k) h
 exact h2
theorem a0 {α : Type} (k : Nat) (Q : Ex -> St -> Option α) (x3 : Int) (x13 : D0) (x14 x15 : Int) :
  (lp C k) cd0 (blkQ C 0 (sq (den C k) (lp C k) Js C cd3 Q)) (St1 x3 x13 x14 x15) = l0 k (fun x3 => j1 (fun x2 => Q .ret (St5 x2)) x3) k x3 x13 x14 x15 :=
 (lp_iter 9 (by kernel_rfl)).trans ((l0_eq k _ k x3 x13 x14 x15).trans (congrArg (fun X => l0 k X k x3 x13 x14 x15) (funext fun x3 => (Eq.trans (b := (den C k) cd3 Q (St4 x3)) (by kernel_rfl) (by simp only [j1_eq])))))
def top {α : Type} (k : Nat) (Rt : Int -> Option α) (x0 : Int) : Option α :=
 if 0 <= (IntKind.i64.wrap (16 * x0)) /\ (IntKind.i64.wrap (16 * x0)) <= (IntKind.i64.wrap ((IntKind.i64.wrap (16 * x0)) + 16)) /\ (IntKind.i64.wrap ((IntKind.i64.wrap (16 * x0)) + 16)) <= (lit0.length : Int) then
  l0 k (fun x3 => j1 Rt x3) k 0 (cutL lit0 (IntKind.i64.wrap (16 * x0)) (IntKind.i64.wrap ((IntKind.i64.wrap (16 * x0)) + 16))) ((cutL lit0 (IntKind.i64.wrap (16 * x0)) (IntKind.i64.wrap ((IntKind.i64.wrap (16 * x0)) + 16))).length : Int) 0
 else none
theorem top_eq {α : Type} (k : Nat) (Q : Ex -> St -> Option α) (x0 : Int) :
  (den C k) (cB Tryd.f41) Q (St0 x0) = top k (fun x2 => Q .ret (St5 x2)) x0 := by
 have h : ∀ (D L : DT α), denJ D L Js C (cB Tryd.f41) Q (St0 x0) =
    if 0 <= (IntKind.i64.wrap (16 * x0)) /\ (IntKind.i64.wrap (16 * x0)) <= (IntKind.i64.wrap ((IntKind.i64.wrap (16 * x0)) + 16)) /\ (IntKind.i64.wrap ((IntKind.i64.wrap (16 * x0)) + 16)) <= (lit0.length : Int) then
     L cd0 (blkQ C 0 (sq D L Js C cd3 Q)) (St1 0 (cutL lit0 (IntKind.i64.wrap (16 * x0)) (IntKind.i64.wrap ((IntKind.i64.wrap (16 * x0)) + 16))) ((cutL lit0 (IntKind.i64.wrap (16 * x0)) (IntKind.i64.wrap ((IntKind.i64.wrap (16 * x0)) + 16))).length : Int) 0)
    else none := by
  intro D L; kernel_rfl
 have h2 := via (k := k) h
 refine h2.trans ?_
 simp only [a0]
 first | rfl | kernel_rfl
def run (x0 : Int) : Option (Int) := top (α := Int) fuel (fun x2 => some x2) x0
def F : Fn := ⟨T11, T2, false, fun x => run x.1⟩
theorem con : Con Tryd.prog 41 F :=
 con_of (C := C) (ctx_ok (by kernel_rfl) (by kernel_rfl) (by kernel_rfl) (by kernel_rfl) trivial) (by kernel_rfl) Tryd.func41 (c := cB Tryd.f41) (by kernel_rfl) (by kernel_rfl) F (fun x => by simp [F, spread, Tryd.ntmps41]) (fun x => (St0 x.1)) (fun x => by kernel_rfl) fun x => (top_eq fuel _ x.1).trans (by kernel_rfl)
theorem named : Named Tryd.prog 41 := named_of Tryd.func41 (by kernel_rfl) (by kernel_rfl)
end Go.Bx.basculeref_roundOf
namespace Go.Bx.basculeref_Turned
def Js : List Nat := [11, 19, 20, 27, 29, 36, 37, 38]
def C : Ctx := ⟨[(22, T2), (23, T4), (87, T6)], [], [], fnL [(40, math_bits_RotateLeft64.F), (41, basculeref_roundOf.F)], noSh, [], invL [], [(2, [2]), (1, [1, 2]), (4, [1, 2, 16]), (31, [1, 2, 3, 16]), (34, [1, 2, 3, 13, 16]), (37, [1, 2, 3, 13, 16]), (40, [1, 2, 3, 13, 14, 16, 132]), (25, [1, 2, 3, 16]), (28, [1, 2, 3, 9, 10, 11, 16, 78]), (13, [1, 2, 3, 16]), (16, [1, 2, 3, 4, 16, 48]), (19, [1, 2, 3, 4, 16, 48]), (22, [1, 2, 3, 4, 6, 7, 8, 16, 48]), (7, [1, 2, 3, 4, 16]), (10, [1, 2, 3, 4, 16, 19]), (6, [1, 2, 16]), (18, [1, 2, 3, 4, 16, 19]), (30, [1, 2, 3, 4, 16]), (33, [1, 2, 3, 4, 16, 48]), (45, [1, 2, 3, 4, 6, 7, 8, 16, 48]), (54, [1, 2, 3, 4, 16, 48]), (57, [1, 2, 3, 16]), (63, [1, 2, 3, 9, 10, 11, 16, 78]), (78, [1, 2, 3, 16]), (81, [1, 2, 3, 13, 16]), (84, [1, 2, 3, 13, 16]), (93, [1, 2, 3, 13, 14, 16, 132]), (105, [1, 2, 3, 16]), (108, [1, 2, 16]), (111, [1, 2])], [], [], 0, 0⟩
def St0 (x0 : D0) : St := stL 164 [(0, .data T4 x0)] []
def St1 (x16 : Int) (c1 c2 : D0) : St := stL 164 [(1, .ref 1 0 []), (2, .ref 2 0 []), (16, .data T1 x16)] [(1, .cell T4 (.data T4 c1) false), (2, .cell T4 (.data T4 c2) false)]
noncomputable def cd0 : Code := cL (cL (cR (cL (cR (cB Tryd.f13)))))
def St2 (x3 x16 x19 : Int) (c1 c2 c4 : D0) : St := stL 164 [(1, .ref 1 0 []), (2, .ref 2 0 []), (3, .data T1 x3), (4, .ref 4 0 []), (16, .data T1 x16), (19, .data T1 x19)] [(1, .cell T4 (.data T4 c1) false), (2, .cell T4 (.data T4 c2) false), (4, .cell T6 (.data T6 c4) false)]
noncomputable def cd1 : Code := cL (cL (cR (cL (cR (cR (cL (cL (cR (cR (cL (cL (cR (cL (cR (cB Tryd.f13)))))))))))))))
def St3 (x3 x16 : Int) (c1 c2 c4 : D0) : St := stL 164 [(1, .ref 1 0 []), (2, .ref 2 0 []), (3, .data T1 x3), (4, .ref 4 0 []), (16, .data T1 x16)] [(1, .cell T4 (.data T4 c1) false), (2, .cell T4 (.data T4 c2) false), (4, .cell T6 (.data T6 c4) false)]
def l1s {α : Type} (Nx : Int -> Int -> Int -> D0 -> D0 -> D0 -> Option α) (Xt2 : Int -> Int -> D0 -> D0 -> D0 -> Option α) (x3 x16 x19 : Int) (c1 c2 c4 : D0) : Option α :=
 if (decide (x19 < 5)) = true then
  if 0 <= x19 /\ x19 < (25 : Int) then
   if 0 <= (IntKind.i64.wrap (x19 + 5)) /\ (IntKind.i64.wrap (x19 + 5)) < (25 : Int) then
    if 0 <= (IntKind.i64.wrap (x19 + 10)) /\ (IntKind.i64.wrap (x19 + 10)) < (25 : Int) then
     if 0 <= (IntKind.i64.wrap (x19 + 15)) /\ (IntKind.i64.wrap (x19 + 15)) < (25 : Int) then
      if 0 <= (IntKind.i64.wrap (x19 + 20)) /\ (IntKind.i64.wrap (x19 + 20)) < (25 : Int) then
       if 0 <= x19 /\ x19 < (5 : Int) then
        Nx x3 x16 (IntKind.i64.wrap (x19 + 1)) c1 c2 (List.set c4 (Int.toNat x19) (bxor .u64 (bxor .u64 (bxor .u64 (bxor .u64 (List.getD c1 (Int.toNat x19) 0) (List.getD c1 (Int.toNat (IntKind.i64.wrap (x19 + 5))) 0)) (List.getD c1 (Int.toNat (IntKind.i64.wrap (x19 + 10))) 0)) (List.getD c1 (Int.toNat (IntKind.i64.wrap (x19 + 15))) 0)) (List.getD c1 (Int.toNat (IntKind.i64.wrap (x19 + 20))) 0)))
       else none
      else none
     else none
    else none
   else none
  else none
 else
  Xt2 x3 x16 c1 c2 c4
theorem l1s_eq {α : Type} (k : Nat) (next : St -> Option α) (Q : Ex -> St -> Option α) (x3 x16 x19 : Int) (c1 c2 c4 : D0) :
  rnd C k cd1 18 Q next (St2 x3 x16 x19 c1 c2 c4) = l1s (fun x3 x16 x19 c1 c2 c4 => next (St2 x3 x16 x19 c1 c2 c4)) (fun x3 x16 c1 c2 c4 => Q (.exit 2) (St3 x3 x16 c1 c2 c4)) x3 x16 x19 c1 c2 c4 := by
 have h : ∀ (D L : DT α), denJ D L Js C cd1 (lq C 18 next Q) (St2 x3 x16 x19 c1 c2 c4) = l1s (fun x3 x16 x19 c1 c2 c4 => next (St2 x3 x16 x19 c1 c2 c4)) (fun x3 x16 c1 c2 c4 => Q (.exit 2) (St3 x3 x16 c1 c2 c4)) x3 x16 x19 c1 c2 c4 := by
  intro D L; kernel_rfl
 have h2 := via (k := k) h
 exact h2
def l1 {α : Type} (k : Nat) (Xt2 : Int -> Int -> D0 -> D0 -> D0 -> Option α) : Nat -> Int -> Int -> Int -> D0 -> D0 -> D0 -> Option α
 | 0, _, _, _, _, _, _ => none
 | n + 1, x3, x16, x19, c1, c2, c4 => l1s (l1 k Xt2 n) Xt2 x3 x16 x19 c1 c2 c4
theorem l1_eq {α : Type} (k : Nat) (Q : Ex -> St -> Option α) : ∀ (n : Nat) (x3 x16 x19 : Int) (c1 c2 c4 : D0), iter (rnd C k cd1 18 Q) n (St2 x3 x16 x19 c1 c2 c4) = l1 k (fun x3 x16 c1 c2 c4 => Q (.exit 2) (St3 x3 x16 c1 c2 c4)) n x3 x16 x19 c1 c2 c4
 | 0, _, _, _, _, _, _ => rfl
 | n + 1, x3, x16, x19, c1, c2, c4 => (iter_succ _ _ _).trans ((l1s_eq k _ Q x3 x16 x19 c1 c2 c4).trans (congrArg (fun N => l1s N (fun x3 x16 c1 c2 c4 => Q (.exit 2) (St3 x3 x16 c1 c2 c4)) x3 x16 x19 c1 c2 c4) (by funext; exact l1_eq k Q n _ _ _ _ _ _)))
noncomputable def cd2 : Code := cR (cR (cR (cL (cL (cR (cR (cL (cL (cR (cL (cR (cB Tryd.f13))))))))))))
noncomputable def cd3 : Code := cR (cR (cR (cL (cL (cR (cL (cR (cB Tryd.f13))))))))
def St4 (x3 x16 : Int) (c1 c2 c4 : D0) : St := stL 164 [(1, .ref 1 0 []), (2, .ref 2 0 []), (3, .data T1 x3), (4, .ref 4 0 []), (16, .data T1 x16)] [(1, .cell T4 (.data T4 c1) false), (2, .cell T4 (.data T4 c2) false), (4, .cell T6 (.data T6 c4) false)]
def St5 (x3 x16 x48 : Int) (c1 c2 c4 : D0) : St := stL 164 [(1, .ref 1 0 []), (2, .ref 2 0 []), (3, .data T1 x3), (4, .ref 4 0 []), (16, .data T1 x16), (48, .data T1 x48)] [(1, .cell T4 (.data T4 c1) false), (2, .cell T4 (.data T4 c2) false), (4, .cell T6 (.data T6 c4) false)]
noncomputable def cd4 : Code := cL (cL (cR (cL (cR (cR (cR (cL (cL (cR (cR (cL (cL (cR (cL (cR (cB Tryd.f13))))))))))))))))
def St6 (x3 x6 : Int) (x7 x8 : Int) (x16 x48 : Int) (c1 c2 c4 : D0) : St := stL 164 [(1, .ref 1 0 []), (2, .ref 2 0 []), (3, .data T1 x3), (4, .ref 4 0 []), (6, .data T1 x6), (7, .data T2 x7), (8, .data T1 x8), (16, .data T1 x16), (48, .data T1 x48)] [(1, .cell T4 (.data T4 c1) false), (2, .cell T4 (.data T4 c2) false), (4, .cell T6 (.data T6 c4) false)]
noncomputable def cd5 : Code := cL (cL (cR (cR (cR (cL (cL (cR (cR (cL (cL (cR (cL (cR (cR (cR (cL (cL (cR (cR (cL (cL (cR (cL (cR (cB Tryd.f13)))))))))))))))))))))))))
def St7 (x3 x16 x48 : Int) (c1 c2 c4 : D0) : St := stL 164 [(1, .ref 1 0 []), (2, .ref 2 0 []), (3, .data T1 x3), (4, .ref 4 0 []), (16, .data T1 x16), (48, .data T1 x48)] [(1, .cell T4 (.data T4 c1) false), (2, .cell T4 (.data T4 c2) false), (4, .cell T6 (.data T6 c4) false)]
def l3s {α : Type} (Nx : Int -> Int -> Int -> Int -> Int -> Int -> D0 -> D0 -> D0 -> Option α) (Xt6 : Int -> Int -> Int -> D0 -> D0 -> D0 -> Option α) (x3 x6 : Int) (x7 x8 : Int) (x16 x48 : Int) (c1 c2 c4 : D0) : Option α :=
 if (decide (x8 < 25)) = true then
  if 0 <= (IntKind.i64.wrap (x6 + x8)) /\ (IntKind.i64.wrap (x6 + x8)) < (25 : Int) then
   if 0 <= (IntKind.i64.wrap (x6 + x8)) /\ (IntKind.i64.wrap (x6 + x8)) < (25 : Int) then
    Nx x3 x6 x7 (IntKind.i64.wrap (x8 + 5)) x16 x48 (List.set c1 (Int.toNat (IntKind.i64.wrap (x6 + x8))) (bxor .u64 (List.getD c1 (Int.toNat (IntKind.i64.wrap (x6 + x8))) 0) x7)) c2 c4
   else none
  else none
 else
  Xt6 x3 x16 x48 c1 c2 c4
theorem l3s_eq {α : Type} (k : Nat) (next : St -> Option α) (Q : Ex -> St -> Option α) (x3 x6 : Int) (x7 x8 : Int) (x16 x48 : Int) (c1 c2 c4 : D0) :
  rnd C k cd5 45 Q next (St6 x3 x6 x7 x8 x16 x48 c1 c2 c4) = l3s (fun x3 x6 x7 x8 x16 x48 c1 c2 c4 => next (St6 x3 x6 x7 x8 x16 x48 c1 c2 c4)) (fun x3 x16 x48 c1 c2 c4 => Q (.exit 6) (St7 x3 x16 x48 c1 c2 c4)) x3 x6 x7 x8 x16 x48 c1 c2 c4 := by
 have h : ∀ (D L : DT α), denJ D L Js C cd5 (lq C 45 next Q) (St6 x3 x6 x7 x8 x16 x48 c1 c2 c4) = l3s (fun x3 x6 x7 x8 x16 x48 c1 c2 c4 => next (St6 x3 x6 x7 x8 x16 x48 c1 c2 c4)) (fun x3 x16 x48 c1 c2 c4 => Q (.exit 6) (St7 x3 x16 x48 c1 c2 c4)) x3 x6 x7 x8 x16 x48 c1 c2 c4 := by
  intro D L; kernel_rfl
 have h2 := via (k := k) h
 exact h2
def l3 {α : Type} (k : Nat) (Xt6 : Int -> Int -> Int -> D0 -> D0 -> D0 -> Option α) : Nat -> Int -> Int -> Int -> Int -> Int -> Int -> D0 -> D0 -> D0 -> Option α
 | 0, _, _, _, _, _, _, _, _, _ => none
 | n + 1, x3, x6, x7, x8, x16, x48, c1, c2, c4 => l3s (l3 k Xt6 n) Xt6 x3 x6 x7 x8 x16 x48 c1 c2 c4
theorem l3_eq {α : Type} (k : Nat) (Q : Ex -> St -> Option α) : ∀ (n : Nat) (x3 x6 : Int) (x7 x8 : Int) (x16 x48 : Int) (c1 c2 c4 : D0), iter (rnd C k cd5 45 Q) n (St6 x3 x6 x7 x8 x16 x48 c1 c2 c4) = l3 k (fun x3 x16 x48 c1 c2 c4 => Q (.exit 6) (St7 x3 x16 x48 c1 c2 c4)) n x3 x6 x7 x8 x16 x48 c1 c2 c4
 | 0, _, _, _, _, _, _, _, _, _ => rfl
 | n + 1, x3, x6, x7, x8, x16, x48, c1, c2, c4 => (iter_succ _ _ _).trans ((l3s_eq k _ Q x3 x6 x7 x8 x16 x48 c1 c2 c4).trans (congrArg (fun N => l3s N (fun x3 x16 x48 c1 c2 c4 => Q (.exit 6) (St7 x3 x16 x48 c1 c2 c4)) x3 x6 x7 x8 x16 x48 c1 c2 c4) (by funext; exact l3_eq k Q n _ _ _ _ _ _ _ _ _)))
noncomputable def cd6 : Code := cR (cR (cR (cL (cL (cR (cL (cR (cR (cR (cL (cL (cR (cR (cL (cL (cR (cL (cR (cB Tryd.f13)))))))))))))))))))
def St8 (x3 x16 x48 : Int) (c1 c2 c4 : D0) : St := stL 164 [(1, .ref 1 0 []), (2, .ref 2 0 []), (3, .data T1 x3), (4, .ref 4 0 []), (16, .data T1 x16), (48, .data T1 x48)] [(1, .cell T4 (.data T4 c1) false), (2, .cell T4 (.data T4 c2) false), (4, .cell T6 (.data T6 c4) false)]
def j1 {α : Type} (Nx : Int -> Int -> Int -> D0 -> D0 -> D0 -> Option α) (x3 x16 x48 : Int) (c1 c2 c4 : D0) : Option α :=
 Nx x3 x16 (IntKind.i64.wrap (x48 + 1)) c1 c2 c4
theorem j1_eq {α : Type} (k : Nat) (next : St -> Option α) (Q : Ex -> St -> Option α) (x3 x16 x48 : Int) (c1 c2 c4 : D0) :
  (den C k) cd6 (lq C 33 next Q) (St8 x3 x16 x48 c1 c2 c4) = j1 (fun x3 x16 x48 c1 c2 c4 => next (St5 x3 x16 x48 c1 c2 c4)) x3 x16 x48 c1 c2 c4 := by
 have h : ∀ (D L : DT α), denJ D L Js C cd6 (lq C 33 next Q) (St8 x3 x16 x48 c1 c2 c4) = j1 (fun x3 x16 x48 c1 c2 c4 => next (St5 x3 x16 x48 c1 c2 c4)) x3 x16 x48 c1 c2 c4 := by
  intro D L; kernel_rfl
 have h2 := via (k := k) h
 exact h2
theorem a0 {α : Type} (k : Nat) (next : St -> Option α) (Q : Ex -> St -> Option α) (x3 x6 : Int) (x7 x8 : Int) (x16 x48 : Int) (c1 c2 c4 : D0) :
  (lp C k) cd5 (blkQ C 6 (blkQ C 5 (sq (den C k) (lp C k) Js C cd6 (lq C 33 next Q)))) (St6 x3 x6 x7 x8 x16 x48 c1 c2 c4) = l3 k (fun x3 x16 x48 c1 c2 c4 => j1 (fun x3 x16 x48 c1 c2 c4 => next (St5 x3 x16 x48 c1 c2 c4)) x3 x16 x48 c1 c2 c4) k x3 x6 x7 x8 x16 x48 c1 c2 c4 :=
 (lp_iter 45 (by kernel_rfl)).trans ((l3_eq k _ k x3 x6 x7 x8 x16 x48 c1 c2 c4).trans (congrArg (fun X => l3 k X k x3 x6 x7 x8 x16 x48 c1 c2 c4) (funext fun x3 => funext fun x16 => funext fun x48 => funext fun c1 => funext fun c2 => funext fun c4 => (Eq.trans (b := (den C k) cd6 (lq C 33 next Q) (St8 x3 x16 x48 c1 c2 c4)) (by kernel_rfl) (by simp only [j1_eq])))))
def St9 (x3 x16 : Int) (c1 c2 : D0) : St := stL 164 [(1, .ref 1 0 []), (2, .ref 2 0 []), (3, .data T1 x3), (16, .data T1 x16)] [(1, .cell T4 (.data T4 c1) false), (2, .cell T4 (.data T4 c2) false)]
def l2s {α : Type} (k : Nat) (Nx : Int -> Int -> Int -> D0 -> D0 -> D0 -> Option α) (Xt4 : Int -> Int -> D0 -> D0 -> Option α) (x3 x16 x48 : Int) (c1 c2 c4 : D0) : Option α :=
 if (decide (x48 < 5)) = true then
  if 0 <= (Int.tmod (IntKind.i64.wrap (x48 + 4)) 5) /\ (Int.tmod (IntKind.i64.wrap (x48 + 4)) 5) < (5 : Int) then
   if 0 <= (Int.tmod (IntKind.i64.wrap (x48 + 1)) 5) /\ (Int.tmod (IntKind.i64.wrap (x48 + 1)) 5) < (5 : Int) then
    (math_bits_RotateLeft64.run (List.getD c4 (Int.toNat (Int.tmod (IntKind.i64.wrap (x48 + 1)) 5)) 0) 1).bind fun y1 =>
    l3 k (fun x3 x16 x48 c1 c2 c4 => j1 Nx x3 x16 x48 c1 c2 c4) k x3 x48 (bxor .u64 (List.getD c4 (Int.toNat (Int.tmod (IntKind.i64.wrap (x48 + 4)) 5)) 0) y1) 0 x16 x48 c1 c2 c4
   else none
  else none
 else
  Xt4 x3 x16 c1 c2
theorem l2s_eq {α : Type} (k : Nat) (next : St -> Option α) (Q : Ex -> St -> Option α) (x3 x16 x48 : Int) (c1 c2 c4 : D0) :
  rnd C k cd4 33 Q next (St5 x3 x16 x48 c1 c2 c4) = l2s k (fun x3 x16 x48 c1 c2 c4 => next (St5 x3 x16 x48 c1 c2 c4)) (fun x3 x16 c1 c2 => Q (.exit 4) (St9 x3 x16 c1 c2)) x3 x16 x48 c1 c2 c4 := by
 have h : ∀ (D L : DT α), denJ D L Js C cd4 (lq C 33 next Q) (St5 x3 x16 x48 c1 c2 c4) =
    if (decide (x48 < 5)) = true then
     if 0 <= (Int.tmod (IntKind.i64.wrap (x48 + 4)) 5) /\ (Int.tmod (IntKind.i64.wrap (x48 + 4)) 5) < (5 : Int) then
      if 0 <= (Int.tmod (IntKind.i64.wrap (x48 + 1)) 5) /\ (Int.tmod (IntKind.i64.wrap (x48 + 1)) 5) < (5 : Int) then
       (math_bits_RotateLeft64.run (List.getD c4 (Int.toNat (Int.tmod (IntKind.i64.wrap (x48 + 1)) 5)) 0) 1).bind fun y1 =>
       L cd5 (blkQ C 6 (blkQ C 5 (sq D L Js C cd6 (lq C 33 next Q)))) (St6 x3 x48 (bxor .u64 (List.getD c4 (Int.toNat (Int.tmod (IntKind.i64.wrap (x48 + 4)) 5)) 0) y1) 0 x16 x48 c1 c2 c4)
      else none
     else none
    else
     Q (.exit 4) (St9 x3 x16 c1 c2) := by
  intro D L; kernel_rfl
 have h2 := via (k := k) h
 refine h2.trans ?_
 simp only [a0]
 first | rfl | kernel_rfl
def l2 {α : Type} (k : Nat) (Xt4 : Int -> Int -> D0 -> D0 -> Option α) : Nat -> Int -> Int -> Int -> D0 -> D0 -> D0 -> Option α
 | 0, _, _, _, _, _, _ => none
 | n + 1, x3, x16, x48, c1, c2, c4 => l2s k (l2 k Xt4 n) Xt4 x3 x16 x48 c1 c2 c4
theorem l2_eq {α : Type} (k : Nat) (Q : Ex -> St -> Option α) : ∀ (n : Nat) (x3 x16 x48 : Int) (c1 c2 c4 : D0), iter (rnd C k cd4 33 Q) n (St5 x3 x16 x48 c1 c2 c4) = l2 k (fun x3 x16 c1 c2 => Q (.exit 4) (St9 x3 x16 c1 c2)) n x3 x16 x48 c1 c2 c4
 | 0, _, _, _, _, _, _ => rfl
 | n + 1, x3, x16, x48, c1, c2, c4 => (iter_succ _ _ _).trans ((l2s_eq k _ Q x3 x16 x48 c1 c2 c4).trans (congrArg (fun N => l2s k N (fun x3 x16 c1 c2 => Q (.exit 4) (St9 x3 x16 c1 c2)) x3 x16 x48 c1 c2 c4) (by funext; exact l2_eq k Q n _ _ _ _ _ _)))
noncomputable def cd7 : Code := cR (cR (cR (cR (cL (cL (cR (cR (cL (cL (cR (cL (cR (cB Tryd.f13)))))))))))))
def St10 (x3 x16 : Int) (c1 c2 : D0) : St := stL 164 [(1, .ref 1 0 []), (2, .ref 2 0 []), (3, .data T1 x3), (16, .data T1 x16)] [(1, .cell T4 (.data T4 c1) false), (2, .cell T4 (.data T4 c2) false)]
def St11 (x3 x9 : Int) (x10 x11 : Int) (x16 x78 : Int) (c1 c2 : D0) : St := stL 164 [(1, .ref 1 0 []), (2, .ref 2 0 []), (3, .data T1 x3), (9, .data T1 x9), (10, .data T1 x10), (11, .data T2 x11), (16, .data T1 x16), (78, .data T1 x78)] [(1, .cell T4 (.data T4 c1) false), (2, .cell T4 (.data T4 c2) false)]
noncomputable def cd8 : Code := cL (cL (cR (cL (cR (cR (cR (cR (cR (cL (cL (cR (cR (cL (cL (cR (cL (cR (cB Tryd.f13))))))))))))))))))
def St12 (x3 x16 : Int) (c1 c2 : D0) : St := stL 164 [(1, .ref 1 0 []), (2, .ref 2 0 []), (3, .data T1 x3), (16, .data T1 x16)] [(1, .cell T4 (.data T4 c1) false), (2, .cell T4 (.data T4 c2) false)]
def l4s {α : Type} (Nx : Int -> Int -> Int -> Int -> Int -> Int -> D0 -> D0 -> Option α) (Xt8 : Int -> Int -> D0 -> D0 -> Option α) (x3 x9 : Int) (x10 x11 : Int) (x16 x78 : Int) (c1 c2 : D0) : Option α :=
 if (decide (x78 < 24)) = true then
  if 0 <= (IntKind.i64.wrap (x10 + (IntKind.i64.wrap (5 * (Int.tmod (IntKind.i64.wrap ((IntKind.i64.wrap (2 * x9)) + (IntKind.i64.wrap (3 * x10)))) 5))))) /\ (IntKind.i64.wrap (x10 + (IntKind.i64.wrap (5 * (Int.tmod (IntKind.i64.wrap ((IntKind.i64.wrap (2 * x9)) + (IntKind.i64.wrap (3 * x10)))) 5))))) < (25 : Int) then
   (math_bits_RotateLeft64.run x11 (IntKind.i64.wrap (Int.tdiv (IntKind.i64.wrap ((IntKind.i64.wrap (x78 + 1)) * (IntKind.i64.wrap (x78 + 2)))) 2))).bind fun y2 =>
   if 0 <= (IntKind.i64.wrap (x10 + (IntKind.i64.wrap (5 * (Int.tmod (IntKind.i64.wrap ((IntKind.i64.wrap (2 * x9)) + (IntKind.i64.wrap (3 * x10)))) 5))))) /\ (IntKind.i64.wrap (x10 + (IntKind.i64.wrap (5 * (Int.tmod (IntKind.i64.wrap ((IntKind.i64.wrap (2 * x9)) + (IntKind.i64.wrap (3 * x10)))) 5))))) < (25 : Int) then
    Nx x3 x10 (Int.tmod (IntKind.i64.wrap ((IntKind.i64.wrap (2 * x9)) + (IntKind.i64.wrap (3 * x10)))) 5) (List.getD c1 (Int.toNat (IntKind.i64.wrap (x10 + (IntKind.i64.wrap (5 * (Int.tmod (IntKind.i64.wrap ((IntKind.i64.wrap (2 * x9)) + (IntKind.i64.wrap (3 * x10)))) 5)))))) 0) x16 (IntKind.i64.wrap (x78 + 1)) (List.set c1 (Int.toNat (IntKind.i64.wrap (x10 + (IntKind.i64.wrap (5 * (Int.tmod (IntKind.i64.wrap ((IntKind.i64.wrap (2 * x9)) + (IntKind.i64.wrap (3 * x10)))) 5)))))) y2) c2
   else none
  else none
 else
  Xt8 x3 x16 c1 c2
theorem l4s_eq {α : Type} (k : Nat) (next : St -> Option α) (Q : Ex -> St -> Option α) (x3 x9 : Int) (x10 x11 : Int) (x16 x78 : Int) (c1 c2 : D0) :
  rnd C k cd8 63 Q next (St11 x3 x9 x10 x11 x16 x78 c1 c2) = l4s (fun x3 x9 x10 x11 x16 x78 c1 c2 => next (St11 x3 x9 x10 x11 x16 x78 c1 c2)) (fun x3 x16 c1 c2 => Q (.exit 8) (St12 x3 x16 c1 c2)) x3 x9 x10 x11 x16 x78 c1 c2 := by
 have h : ∀ (D L : DT α), denJ D L Js C cd8 (lq C 63 next Q) (St11 x3 x9 x10 x11 x16 x78 c1 c2) = l4s (fun x3 x9 x10 x11 x16 x78 c1 c2 => next (St11 x3 x9 x10 x11 x16 x78 c1 c2)) (fun x3 x16 c1 c2 => Q (.exit 8) (St12 x3 x16 c1 c2)) x3 x9 x10 x11 x16 x78 c1 c2 := by
  intro D L; kernel_rfl
 have h2 := via (k := k) h
 exact h2
def l4 {α : Type} (k : Nat) (Xt8 : Int -> Int -> D0 -> D0 -> Option α) : Nat -> Int -> Int -> Int -> Int -> Int -> Int -> D0 -> D0 -> Option α
 | 0, _, _, _, _, _, _, _, _ => none
 | n + 1, x3, x9, x10, x11, x16, x78, c1, c2 => l4s (l4 k Xt8 n) Xt8 x3 x9 x10 x11 x16 x78 c1 c2
theorem l4_eq {α : Type} (k : Nat) (Q : Ex -> St -> Option α) : ∀ (n : Nat) (x3 x9 : Int) (x10 x11 : Int) (x16 x78 : Int) (c1 c2 : D0), iter (rnd C k cd8 63 Q) n (St11 x3 x9 x10 x11 x16 x78 c1 c2) = l4 k (fun x3 x16 c1 c2 => Q (.exit 8) (St12 x3 x16 c1 c2)) n x3 x9 x10 x11 x16 x78 c1 c2
 | 0, _, _, _, _, _, _, _, _ => rfl
 | n + 1, x3, x9, x10, x11, x16, x78, c1, c2 => (iter_succ _ _ _).trans ((l4s_eq k _ Q x3 x9 x10 x11 x16 x78 c1 c2).trans (congrArg (fun N => l4s N (fun x3 x16 c1 c2 => Q (.exit 8) (St12 x3 x16 c1 c2)) x3 x9 x10 x11 x16 x78 c1 c2) (by funext; exact l4_eq k Q n _ _ _ _ _ _ _ _)))
noncomputable def cd9 : Code := cR (cR (cR (cR (cR (cR (cL (cL (cR (cR (cL (cL (cR (cL (cR (cB Tryd.f13)))))))))))))))
def St13 (x3 x16 : Int) (c1 c2 : D0) : St := stL 164 [(1, .ref 1 0 []), (2, .ref 2 0 []), (3, .data T1 x3), (16, .data T1 x16)] [(1, .cell T4 (.data T4 c1) false), (2, .cell T4 (.data T4 c2) false)]
def St14 (x3 x13 x16 : Int) (c1 c2 : D0) : St := stL 164 [(1, .ref 1 0 []), (2, .ref 2 0 []), (3, .data T1 x3), (13, .data T1 x13), (16, .data T1 x16)] [(1, .cell T4 (.data T4 c1) false), (2, .cell T4 (.data T4 c2) false)]
noncomputable def cd10 : Code := cL (cL (cR (cL (cR (cR (cR (cR (cR (cR (cL (cL (cR (cR (cL (cL (cR (cL (cR (cB Tryd.f13)))))))))))))))))))
def St15 (x3 x13 : Int) (x16 x132 : Int) (c1 c2 c14 : D0) : St := stL 164 [(1, .ref 1 0 []), (2, .ref 2 0 []), (3, .data T1 x3), (13, .data T1 x13), (14, .ref 14 0 []), (16, .data T1 x16), (132, .data T1 x132)] [(1, .cell T4 (.data T4 c1) false), (2, .cell T4 (.data T4 c2) false), (14, .cell T6 (.data T6 c14) false)]
noncomputable def cd11 : Code := cL (cL (cR (cR (cL (cL (cR (cL (cL (cR (cL (cR (cR (cR (cR (cR (cR (cL (cL (cR (cR (cL (cL (cR (cL (cR (cB Tryd.f13))))))))))))))))))))))))))
def St16 (x3 x13 x16 : Int) (c1 c2 : D0) : St := stL 164 [(1, .ref 1 0 []), (2, .ref 2 0 []), (3, .data T1 x3), (13, .data T1 x13), (16, .data T1 x16)] [(1, .cell T4 (.data T4 c1) false), (2, .cell T4 (.data T4 c2) false)]
def l6s {α : Type} (Nx : Int -> Int -> Int -> Int -> D0 -> D0 -> D0 -> Option α) (Xt12 : Int -> Int -> Int -> D0 -> D0 -> Option α) (x3 x13 : Int) (x16 x132 : Int) (c1 c2 c14 : D0) : Option α :=
 if (decide (x132 < 5)) = true then
  if 0 <= x132 /\ x132 < (5 : Int) then
   if 0 <= (Int.tmod (IntKind.i64.wrap (x132 + 1)) 5) /\ (Int.tmod (IntKind.i64.wrap (x132 + 1)) 5) < (5 : Int) then
    if 0 <= (Int.tmod (IntKind.i64.wrap (x132 + 2)) 5) /\ (Int.tmod (IntKind.i64.wrap (x132 + 2)) 5) < (5 : Int) then
     if 0 <= (IntKind.i64.wrap (x13 + x132)) /\ (IntKind.i64.wrap (x13 + x132)) < (25 : Int) then
      Nx x3 x13 x16 (IntKind.i64.wrap (x132 + 1)) (List.set c1 (Int.toNat (IntKind.i64.wrap (x13 + x132))) (bxor .u64 (List.getD c14 (Int.toNat x132) 0) (band .u64 (bxor .u64 18446744073709551615 (List.getD c14 (Int.toNat (Int.tmod (IntKind.i64.wrap (x132 + 1)) 5)) 0)) (List.getD c14 (Int.toNat (Int.tmod (IntKind.i64.wrap (x132 + 2)) 5)) 0)))) c2 c14
     else none
    else none
   else none
  else none
 else
  Xt12 x3 x13 x16 c1 c2
theorem l6s_eq {α : Type} (k : Nat) (next : St -> Option α) (Q : Ex -> St -> Option α) (x3 x13 : Int) (x16 x132 : Int) (c1 c2 c14 : D0) :
  rnd C k cd11 93 Q next (St15 x3 x13 x16 x132 c1 c2 c14) = l6s (fun x3 x13 x16 x132 c1 c2 c14 => next (St15 x3 x13 x16 x132 c1 c2 c14)) (fun x3 x13 x16 c1 c2 => Q (.exit 12) (St16 x3 x13 x16 c1 c2)) x3 x13 x16 x132 c1 c2 c14 := by
 have h : ∀ (D L : DT α), denJ D L Js C cd11 (lq C 93 next Q) (St15 x3 x13 x16 x132 c1 c2 c14) = l6s (fun x3 x13 x16 x132 c1 c2 c14 => next (St15 x3 x13 x16 x132 c1 c2 c14)) (fun x3 x13 x16 c1 c2 => Q (.exit 12) (St16 x3 x13 x16 c1 c2)) x3 x13 x16 x132 c1 c2 c14 := by
  intro D L; kernel_rfl
 have h2 := via (k := k) h
 exact h2
def l6 {α : Type} (k : Nat) (Xt12 : Int -> Int -> Int -> D0 -> D0 -> Option α) : Nat -> Int -> Int -> Int -> Int -> D0 -> D0 -> D0 -> Option α
 | 0, _, _, _, _, _, _, _ => none
 | n + 1, x3, x13, x16, x132, c1, c2, c14 => l6s (l6 k Xt12 n) Xt12 x3 x13 x16 x132 c1 c2 c14
theorem l6_eq {α : Type} (k : Nat) (Q : Ex -> St -> Option α) : ∀ (n : Nat) (x3 x13 : Int) (x16 x132 : Int) (c1 c2 c14 : D0), iter (rnd C k cd11 93 Q) n (St15 x3 x13 x16 x132 c1 c2 c14) = l6 k (fun x3 x13 x16 c1 c2 => Q (.exit 12) (St16 x3 x13 x16 c1 c2)) n x3 x13 x16 x132 c1 c2 c14
 | 0, _, _, _, _, _, _, _ => rfl
 | n + 1, x3, x13, x16, x132, c1, c2, c14 => (iter_succ _ _ _).trans ((l6s_eq k _ Q x3 x13 x16 x132 c1 c2 c14).trans (congrArg (fun N => l6s N (fun x3 x13 x16 c1 c2 => Q (.exit 12) (St16 x3 x13 x16 c1 c2)) x3 x13 x16 x132 c1 c2 c14) (by funext; exact l6_eq k Q n _ _ _ _ _ _ _)))
noncomputable def cd12 : Code := cR (cR (cL (cL (cR (cL (cR (cR (cR (cR (cR (cR (cL (cL (cR (cR (cL (cL (cR (cL (cR (cB Tryd.f13)))))))))))))))))))))
def St17 (x3 x13 x16 : Int) (c1 c2 : D0) : St := stL 164 [(1, .ref 1 0 []), (2, .ref 2 0 []), (3, .data T1 x3), (13, .data T1 x13), (16, .data T1 x16)] [(1, .cell T4 (.data T4 c1) false), (2, .cell T4 (.data T4 c2) false)]
def j4 {α : Type} (Nx : Int -> Int -> Int -> D0 -> D0 -> Option α) (x3 x13 x16 : Int) (c1 c2 : D0) : Option α :=
 Nx x3 (IntKind.i64.wrap (x13 + 5)) x16 c1 c2
theorem j4_eq {α : Type} (k : Nat) (next : St -> Option α) (Q : Ex -> St -> Option α) (x3 x13 x16 : Int) (c1 c2 : D0) :
  (den C k) cd12 (lq C 81 next Q) (St17 x3 x13 x16 c1 c2) = j4 (fun x3 x13 x16 c1 c2 => next (St14 x3 x13 x16 c1 c2)) x3 x13 x16 c1 c2 := by
 have h : ∀ (D L : DT α), denJ D L Js C cd12 (lq C 81 next Q) (St17 x3 x13 x16 c1 c2) = j4 (fun x3 x13 x16 c1 c2 => next (St14 x3 x13 x16 c1 c2)) x3 x13 x16 c1 c2 := by
  intro D L; kernel_rfl
 have h2 := via (k := k) h
 exact h2
theorem a1 {α : Type} (k : Nat) (next : St -> Option α) (Q : Ex -> St -> Option α) (x3 x13 : Int) (x16 x132 : Int) (c1 c2 c14 : D0) :
  (lp C k) cd11 (blkQ C 12 (blkQ C 11 (sq (den C k) (lp C k) Js C cd12 (lq C 81 next Q)))) (St15 x3 x13 x16 x132 c1 c2 c14) = l6 k (fun x3 x13 x16 c1 c2 => j4 (fun x3 x13 x16 c1 c2 => next (St14 x3 x13 x16 c1 c2)) x3 x13 x16 c1 c2) k x3 x13 x16 x132 c1 c2 c14 :=
 (lp_iter 93 (by kernel_rfl)).trans ((l6_eq k _ k x3 x13 x16 x132 c1 c2 c14).trans (congrArg (fun X => l6 k X k x3 x13 x16 x132 c1 c2 c14) (funext fun x3 => funext fun x13 => funext fun x16 => funext fun c1 => funext fun c2 => (Eq.trans (b := (den C k) cd12 (lq C 81 next Q) (St17 x3 x13 x16 c1 c2)) (by kernel_rfl) (by simp only [j4_eq])))))
def St18 (x3 x16 : Int) (c1 c2 : D0) : St := stL 164 [(1, .ref 1 0 []), (2, .ref 2 0 []), (3, .data T1 x3), (16, .data T1 x16)] [(1, .cell T4 (.data T4 c1) false), (2, .cell T4 (.data T4 c2) false)]
def l5s {α : Type} (k : Nat) (Nx : Int -> Int -> Int -> D0 -> D0 -> Option α) (Xt10 : Int -> Int -> D0 -> D0 -> Option α) (x3 x13 x16 : Int) (c1 c2 : D0) : Option α :=
 if (decide (x13 < 25)) = true then
  if 0 <= x13 /\ x13 < (25 : Int) then
   if 0 <= (IntKind.i64.wrap (x13 + 1)) /\ (IntKind.i64.wrap (x13 + 1)) < (25 : Int) then
    if 0 <= (IntKind.i64.wrap (x13 + 2)) /\ (IntKind.i64.wrap (x13 + 2)) < (25 : Int) then
     if 0 <= (IntKind.i64.wrap (x13 + 3)) /\ (IntKind.i64.wrap (x13 + 3)) < (25 : Int) then
      if 0 <= (IntKind.i64.wrap (x13 + 4)) /\ (IntKind.i64.wrap (x13 + 4)) < (25 : Int) then
       l6 k (fun x3 x13 x16 c1 c2 => j4 Nx x3 x13 x16 c1 c2) k x3 x13 x16 0 c1 c2 [(List.getD c1 (Int.toNat x13) 0), (List.getD c1 (Int.toNat (IntKind.i64.wrap (x13 + 1))) 0), (List.getD c1 (Int.toNat (IntKind.i64.wrap (x13 + 2))) 0), (List.getD c1 (Int.toNat (IntKind.i64.wrap (x13 + 3))) 0), (List.getD c1 (Int.toNat (IntKind.i64.wrap (x13 + 4))) 0)]
      else none
     else none
    else none
   else none
  else none
 else
  Xt10 x3 x16 c1 c2
theorem l5s_eq {α : Type} (k : Nat) (next : St -> Option α) (Q : Ex -> St -> Option α) (x3 x13 x16 : Int) (c1 c2 : D0) :
  rnd C k cd10 81 Q next (St14 x3 x13 x16 c1 c2) = l5s k (fun x3 x13 x16 c1 c2 => next (St14 x3 x13 x16 c1 c2)) (fun x3 x16 c1 c2 => Q (.exit 10) (St18 x3 x16 c1 c2)) x3 x13 x16 c1 c2 := by
 have h : ∀ (D L : DT α), denJ D L Js C cd10 (lq C 81 next Q) (St14 x3 x13 x16 c1 c2) =
    if (decide (x13 < 25)) = true then
     if 0 <= x13 /\ x13 < (25 : Int) then
      if 0 <= (IntKind.i64.wrap (x13 + 1)) /\ (IntKind.i64.wrap (x13 + 1)) < (25 : Int) then
       if 0 <= (IntKind.i64.wrap (x13 + 2)) /\ (IntKind.i64.wrap (x13 + 2)) < (25 : Int) then
        if 0 <= (IntKind.i64.wrap (x13 + 3)) /\ (IntKind.i64.wrap (x13 + 3)) < (25 : Int) then
         if 0 <= (IntKind.i64.wrap (x13 + 4)) /\ (IntKind.i64.wrap (x13 + 4)) < (25 : Int) then
          L cd11 (blkQ C 12 (blkQ C 11 (sq D L Js C cd12 (lq C 81 next Q)))) (St15 x3 x13 x16 0 c1 c2 [(List.getD c1 (Int.toNat x13) 0), (List.getD c1 (Int.toNat (IntKind.i64.wrap (x13 + 1))) 0), (List.getD c1 (Int.toNat (IntKind.i64.wrap (x13 + 2))) 0), (List.getD c1 (Int.toNat (IntKind.i64.wrap (x13 + 3))) 0), (List.getD c1 (Int.toNat (IntKind.i64.wrap (x13 + 4))) 0)])
         else none
        else none
       else none
      else none
     else none
    else
     Q (.exit 10) (St18 x3 x16 c1 c2) := by
  intro D L; kernel_rfl
 have h2 := via (k := k) h
 refine h2.trans ?_
 simp only [a1]
 first | rfl | kernel_rfl
def l5 {α : Type} (k : Nat) (Xt10 : Int -> Int -> D0 -> D0 -> Option α) : Nat -> Int -> Int -> Int -> D0 -> D0 -> Option α
 | 0, _, _, _, _, _ => none
 | n + 1, x3, x13, x16, c1, c2 => l5s k (l5 k Xt10 n) Xt10 x3 x13 x16 c1 c2
theorem l5_eq {α : Type} (k : Nat) (Q : Ex -> St -> Option α) : ∀ (n : Nat) (x3 x13 x16 : Int) (c1 c2 : D0), iter (rnd C k cd10 81 Q) n (St14 x3 x13 x16 c1 c2) = l5 k (fun x3 x16 c1 c2 => Q (.exit 10) (St18 x3 x16 c1 c2)) n x3 x13 x16 c1 c2
 | 0, _, _, _, _, _ => rfl
 | n + 1, x3, x13, x16, c1, c2 => (iter_succ _ _ _).trans ((l5s_eq k _ Q x3 x13 x16 c1 c2).trans (congrArg (fun N => l5s k N (fun x3 x16 c1 c2 => Q (.exit 10) (St18 x3 x16 c1 c2)) x3 x13 x16 c1 c2) (by funext; exact l5_eq k Q n _ _ _ _ _)))
noncomputable def cd13 : Code := cR (cR (cR (cR (cR (cR (cR (cL (cL (cR (cR (cL (cL (cR (cL (cR (cB Tryd.f13))))))))))))))))
def St19 (x3 x16 : Int) (c1 c2 : D0) : St := stL 164 [(1, .ref 1 0 []), (2, .ref 2 0 []), (3, .data T1 x3), (16, .data T1 x16)] [(1, .cell T4 (.data T4 c1) false), (2, .cell T4 (.data T4 c2) false)]
def St20 (x16 : Int) (c1 c2 : D0) : St := stL 164 [(1, .ref 1 0 []), (2, .ref 2 0 []), (16, .data T1 x16)] [(1, .cell T4 (.data T4 c1) false), (2, .cell T4 (.data T4 c2) false)]
def j6 {α : Type} (Nx : Int -> D0 -> D0 -> Option α) (x16 : Int) (c1 c2 : D0) : Option α :=
 Nx (IntKind.i64.wrap (x16 + 1)) c1 c2
theorem j6_eq {α : Type} (k : Nat) (next : St -> Option α) (Q : Ex -> St -> Option α) (x16 : Int) (c1 c2 : D0) :
  (den C k) cd3 (lq C 6 next Q) (St20 x16 c1 c2) = j6 (fun x16 c1 c2 => next (St1 x16 c1 c2)) x16 c1 c2 := by
 have h : ∀ (D L : DT α), denJ D L Js C cd3 (lq C 6 next Q) (St20 x16 c1 c2) = j6 (fun x16 c1 c2 => next (St1 x16 c1 c2)) x16 c1 c2 := by
  intro D L; kernel_rfl
 have h2 := via (k := k) h
 exact h2
def j5 {α : Type} (Nx : Int -> D0 -> D0 -> Option α) (x3 x16 : Int) (c1 c2 : D0) : Option α :=
 (basculeref_roundOf.run x3).bind fun y3 =>
 j6 Nx x16 (List.set c1 0 (bxor .u64 (List.getD c1 0 0) y3)) c2
theorem j5_eq {α : Type} (k : Nat) (next : St -> Option α) (Q : Ex -> St -> Option α) (x3 x16 : Int) (c1 c2 : D0) :
  (den C k) cd13 (blkQ C 1 (sq (den C k) (lp C k) Js C cd3 (lq C 6 next Q))) (St19 x3 x16 c1 c2) = j5 (fun x16 c1 c2 => next (St1 x16 c1 c2)) x3 x16 c1 c2 := by
 have h : ∀ (D L : DT α), denJ D L Js C cd13 (blkQ C 1 (sq D L Js C cd3 (lq C 6 next Q))) (St19 x3 x16 c1 c2) =
    (basculeref_roundOf.run x3).bind fun y3 =>
    D cd3 (lq C 6 next Q) (St20 x16 (List.set c1 0 (bxor .u64 (List.getD c1 0 0) y3)) c2) := by
  intro D L; kernel_rfl
 have h2 := via (k := k) h
 refine h2.trans ?_
 simp only [j6_eq]
 first | rfl | kernel_rfl
theorem a2 {α : Type} (k : Nat) (next : St -> Option α) (Q : Ex -> St -> Option α) (x3 x13 x16 : Int) (c1 c2 : D0) :
  (lp C k) cd10 (blkQ C 10 (sq (den C k) (lp C k) Js C cd13 (blkQ C 1 (sq (den C k) (lp C k) Js C cd3 (lq C 6 next Q))))) (St14 x3 x13 x16 c1 c2) = l5 k (fun x3 x16 c1 c2 => j5 (fun x16 c1 c2 => next (St1 x16 c1 c2)) x3 x16 c1 c2) k x3 x13 x16 c1 c2 :=
 (lp_iter 81 (by kernel_rfl)).trans ((l5_eq k _ k x3 x13 x16 c1 c2).trans (congrArg (fun X => l5 k X k x3 x13 x16 c1 c2) (funext fun x3 => funext fun x16 => funext fun c1 => funext fun c2 => (Eq.trans (b := (den C k) cd13 (blkQ C 1 (sq (den C k) (lp C k) Js C cd3 (lq C 6 next Q))) (St19 x3 x16 c1 c2)) (by kernel_rfl) (by simp only [j5_eq])))))
def j3 {α : Type} (k : Nat) (Nx : Int -> D0 -> D0 -> Option α) (x3 x16 : Int) (c1 c2 : D0) : Option α :=
 l5 k (fun x3 x16 c1 c2 => j5 Nx x3 x16 c1 c2) k x3 0 x16 c1 c2
theorem j3_eq {α : Type} (k : Nat) (next : St -> Option α) (Q : Ex -> St -> Option α) (x3 x16 : Int) (c1 c2 : D0) :
  (den C k) cd9 (blkQ C 1 (sq (den C k) (lp C k) Js C cd3 (lq C 6 next Q))) (St13 x3 x16 c1 c2) = j3 k (fun x16 c1 c2 => next (St1 x16 c1 c2)) x3 x16 c1 c2 := by
 have h : ∀ (D L : DT α), denJ D L Js C cd9 (blkQ C 1 (sq D L Js C cd3 (lq C 6 next Q))) (St13 x3 x16 c1 c2) =
    L cd10 (blkQ C 10 (sq D L Js C cd13 (blkQ C 1 (sq D L Js C cd3 (lq C 6 next Q))))) (St14 x3 0 x16 c1 c2) := by
  intro D L; kernel_rfl
 have h2 := via (k := k) h
 refine h2.trans ?_
 simp only [a2]
 first | rfl | kernel_rfl
theorem a3 {α : Type} (k : Nat) (next : St -> Option α) (Q : Ex -> St -> Option α) (x3 x9 : Int) (x10 x11 : Int) (x16 x78 : Int) (c1 c2 : D0) :
  (lp C k) cd8 (blkQ C 8 (sq (den C k) (lp C k) Js C cd9 (blkQ C 1 (sq (den C k) (lp C k) Js C cd3 (lq C 6 next Q))))) (St11 x3 x9 x10 x11 x16 x78 c1 c2) = l4 k (fun x3 x16 c1 c2 => j3 k (fun x16 c1 c2 => next (St1 x16 c1 c2)) x3 x16 c1 c2) k x3 x9 x10 x11 x16 x78 c1 c2 :=
 (lp_iter 63 (by kernel_rfl)).trans ((l4_eq k _ k x3 x9 x10 x11 x16 x78 c1 c2).trans (congrArg (fun X => l4 k X k x3 x9 x10 x11 x16 x78 c1 c2) (funext fun x3 => funext fun x16 => funext fun c1 => funext fun c2 => (Eq.trans (b := (den C k) cd9 (blkQ C 1 (sq (den C k) (lp C k) Js C cd3 (lq C 6 next Q))) (St13 x3 x16 c1 c2)) (by kernel_rfl) (by simp only [j3_eq])))))
def j2 {α : Type} (k : Nat) (Nx : Int -> D0 -> D0 -> Option α) (x3 x16 : Int) (c1 c2 : D0) : Option α :=
 l4 k (fun x3 x16 c1 c2 => j3 k Nx x3 x16 c1 c2) k x3 1 0 (List.getD c1 1 0) x16 0 c1 c2
theorem j2_eq {α : Type} (k : Nat) (next : St -> Option α) (Q : Ex -> St -> Option α) (x3 x16 : Int) (c1 c2 : D0) :
  (den C k) cd7 (blkQ C 1 (sq (den C k) (lp C k) Js C cd3 (lq C 6 next Q))) (St10 x3 x16 c1 c2) = j2 k (fun x16 c1 c2 => next (St1 x16 c1 c2)) x3 x16 c1 c2 := by
 have h : ∀ (D L : DT α), denJ D L Js C cd7 (blkQ C 1 (sq D L Js C cd3 (lq C 6 next Q))) (St10 x3 x16 c1 c2) =
    L cd8 (blkQ C 8 (sq D L Js C cd9 (blkQ C 1 (sq D L Js C cd3 (lq C 6 next Q))))) (St11 x3 1 0 (List.getD c1 1 0) x16 0 c1 c2) := by
  intro D L; kernel_rfl
 have h2 := via (k := k) h
 refine h2.trans ?_
 simp only [a3]
 first | rfl | kernel_rfl
theorem a4 {α : Type} (k : Nat) (next : St -> Option α) (Q : Ex -> St -> Option α) (x3 x16 x48 : Int) (c1 c2 c4 : D0) :
  (lp C k) cd4 (blkQ C 4 (sq (den C k) (lp C k) Js C cd7 (blkQ C 1 (sq (den C k) (lp C k) Js C cd3 (lq C 6 next Q))))) (St5 x3 x16 x48 c1 c2 c4) = l2 k (fun x3 x16 c1 c2 => j2 k (fun x16 c1 c2 => next (St1 x16 c1 c2)) x3 x16 c1 c2) k x3 x16 x48 c1 c2 c4 :=
 (lp_iter 33 (by kernel_rfl)).trans ((l2_eq k _ k x3 x16 x48 c1 c2 c4).trans (congrArg (fun X => l2 k X k x3 x16 x48 c1 c2 c4) (funext fun x3 => funext fun x16 => funext fun c1 => funext fun c2 => (Eq.trans (b := (den C k) cd7 (blkQ C 1 (sq (den C k) (lp C k) Js C cd3 (lq C 6 next Q))) (St10 x3 x16 c1 c2)) (by kernel_rfl) (by simp only [j2_eq])))))
def j0 {α : Type} (k : Nat) (Nx : Int -> D0 -> D0 -> Option α) (x3 x16 : Int) (c1 c2 c4 : D0) : Option α :=
 l2 k (fun x3 x16 c1 c2 => j2 k Nx x3 x16 c1 c2) k x3 x16 0 c1 c2 c4
theorem j0_eq {α : Type} (k : Nat) (next : St -> Option α) (Q : Ex -> St -> Option α) (x3 x16 : Int) (c1 c2 c4 : D0) :
  (den C k) cd2 (blkQ C 1 (sq (den C k) (lp C k) Js C cd3 (lq C 6 next Q))) (St4 x3 x16 c1 c2 c4) = j0 k (fun x16 c1 c2 => next (St1 x16 c1 c2)) x3 x16 c1 c2 c4 := by
 have h : ∀ (D L : DT α), denJ D L Js C cd2 (blkQ C 1 (sq D L Js C cd3 (lq C 6 next Q))) (St4 x3 x16 c1 c2 c4) =
    L cd4 (blkQ C 4 (sq D L Js C cd7 (blkQ C 1 (sq D L Js C cd3 (lq C 6 next Q))))) (St5 x3 x16 0 c1 c2 c4) := by
  intro D L; kernel_rfl
 have h2 := via (k := k) h
 refine h2.trans ?_
 simp only [a4]
 first | rfl | kernel_rfl
theorem a5 {α : Type} (k : Nat) (next : St -> Option α) (Q : Ex -> St -> Option α) (x3 x16 x19 : Int) (c1 c2 c4 : D0) :
  (lp C k) cd1 (blkQ C 2 (sq (den C k) (lp C k) Js C cd2 (blkQ C 1 (sq (den C k) (lp C k) Js C cd3 (lq C 6 next Q))))) (St2 x3 x16 x19 c1 c2 c4) = l1 k (fun x3 x16 c1 c2 c4 => j0 k (fun x16 c1 c2 => next (St1 x16 c1 c2)) x3 x16 c1 c2 c4) k x3 x16 x19 c1 c2 c4 :=
 (lp_iter 18 (by kernel_rfl)).trans ((l1_eq k _ k x3 x16 x19 c1 c2 c4).trans (congrArg (fun X => l1 k X k x3 x16 x19 c1 c2 c4) (funext fun x3 => funext fun x16 => funext fun c1 => funext fun c2 => funext fun c4 => (Eq.trans (b := (den C k) cd2 (blkQ C 1 (sq (den C k) (lp C k) Js C cd3 (lq C 6 next Q))) (St4 x3 x16 c1 c2 c4)) (by kernel_rfl) (by simp only [j0_eq])))))
def St21 (c1 c2 : D0) : St := stL 164 [(1, .ref 1 0 []), (2, .ref 2 0 [])] [(1, .cell T4 (.data T4 c1) false), (2, .cell T4 (.data T4 c2) false)]
def l0s {α : Type} (k : Nat) (Nx : Int -> D0 -> D0 -> Option α) (Xt0 : D0 -> D0 -> Option α) (x16 : Int) (c1 c2 : D0) : Option α :=
 if (decide (x16 < 24)) = true then
  l1 k (fun x3 x16 c1 c2 c4 => j0 k Nx x3 x16 c1 c2 c4) k x16 x16 0 c1 c2 [0, 0, 0, 0, 0]
 else
  Xt0 c1 c2
theorem l0s_eq {α : Type} (k : Nat) (next : St -> Option α) (Q : Ex -> St -> Option α) (x16 : Int) (c1 c2 : D0) :
  rnd C k cd0 6 Q next (St1 x16 c1 c2) = l0s k (fun x16 c1 c2 => next (St1 x16 c1 c2)) (fun c1 c2 => Q (.exit 0) (St21 c1 c2)) x16 c1 c2 := by
 have h : ∀ (D L : DT α), denJ D L Js C cd0 (lq C 6 next Q) (St1 x16 c1 c2) =
    if (decide (x16 < 24)) = true then
     L cd1 (blkQ C 2 (sq D L Js C cd2 (blkQ C 1 (sq D L Js C cd3 (lq C 6 next Q))))) (St2 x16 x16 0 c1 c2 [0, 0, 0, 0, 0])
    else
     Q (.exit 0) (St21 c1 c2) := by
  intro D L; kernel_rfl
 have h2 := via (k := k) h
 refine h2.trans ?_
 simp only [a5]
 first | rfl | kernel_rfl
def l0 {α : Type} (k : Nat) (Xt0 : D0 -> D0 -> Option α) : Nat -> Int -> D0 -> D0 -> Option α
 | 0, _, _, _ => none
 | n + 1, x16, c1, c2 => l0s k (l0 k Xt0 n) Xt0 x16 c1 c2
theorem l0_eq {α : Type} (k : Nat) (Q : Ex -> St -> Option α) : ∀ (n : Nat) (x16 : Int) (c1 c2 : D0), iter (rnd C k cd0 6 Q) n (St1 x16 c1 c2) = l0 k (fun c1 c2 => Q (.exit 0) (St21 c1 c2)) n x16 c1 c2
 | 0, _, _, _ => rfl
 | n + 1, x16, c1, c2 => (iter_succ _ _ _).trans ((l0s_eq k _ Q x16 c1 c2).trans (congrArg (fun N => l0s k N (fun c1 c2 => Q (.exit 0) (St21 c1 c2)) x16 c1 c2) (by funext; exact l0_eq k Q n _ _ _)))
noncomputable def cd14 : Code := cR (cR (cB Tryd.f13))
def St22 (c1 c2 : D0) : St := stL 164 [(1, .ref 1 0 []), (2, .ref 2 0 [])] [(1, .cell T4 (.data T4 c1) false), (2, .cell T4 (.data T4 c2) false)]
def St23 (c2 : D0) : St := stL 164 [(2, .ref 2 0 [])] [(2, .cell T4 (.data T4 c2) false)]
def j7 {α : Type} (Rt : D0 -> Option α) (c1 c2 : D0) : Option α :=
 Rt c1
theorem j7_eq {α : Type} (k : Nat) (Q : Ex -> St -> Option α) (c1 c2 : D0) :
  (den C k) cd14 Q (St22 c1 c2) = j7 (fun c2 => Q .ret (St23 c2)) c1 c2 := by
 have h : ∀ (D L : DT α), denJ D L Js C cd14 Q (St22 c1 c2) = j7 (fun c2 => Q .ret (St23 c2)) c1 c2 := by
  intro D L; kernel_rfl
 have h2 := via (k := k) h
 exact h2
theorem a6 {α : Type} (k : Nat) (Q : Ex -> St -> Option α) (x16 : Int) (c1 c2 : D0) :
  (lp C k) cd0 (blkQ C 0 (sq (den C k) (lp C k) Js C cd14 Q)) (St1 x16 c1 c2) = l0 k (fun c1 c2 => j7 (fun c2 => Q .ret (St23 c2)) c1 c2) k x16 c1 c2 :=
 (lp_iter 6 (by kernel_rfl)).trans ((l0_eq k _ k x16 c1 c2).trans (congrArg (fun X => l0 k X k x16 c1 c2) (funext fun c1 => funext fun c2 => (Eq.trans (b := (den C k) cd14 Q (St22 c1 c2)) (by kernel_rfl) (by simp only [j7_eq])))))
def top {α : Type} (k : Nat) (Rt : D0 -> Option α) (x0 : D0) : Option α :=
 l0 k (fun c1 c2 => j7 Rt c1 c2) k 0 x0 (List.replicate 25 0)
theorem top_eq {α : Type} (k : Nat) (Q : Ex -> St -> Option α) (x0 : D0) :
  (den C k) (cB Tryd.f13) Q (St0 x0) = top k (fun c2 => Q .ret (St23 c2)) x0 := by
 have h : ∀ (D L : DT α), denJ D L Js C (cB Tryd.f13) Q (St0 x0) =
    L cd0 (blkQ C 0 (sq D L Js C cd14 Q)) (St1 0 x0 (List.replicate 25 0)) := by
  intro D L; kernel_rfl
 have h2 := via (k := k) h
 refine h2.trans ?_
 simp only [a6]
 first | rfl | kernel_rfl
def run (x0 : D0) : Option D0 := top (α := List Int) fuel (fun c2 => some c2) x0
def F : Fn := ⟨T8, T4, false, fun x => run x.1⟩
theorem con : Con Tryd.prog 13 F :=
 con_of (C := C) (ctx_ok (by kernel_rfl) (by kernel_rfl) (by kernel_rfl) (by kernel_rfl) ⟨.inl ⟨math_bits_RotateLeft64.con, math_bits_RotateLeft64.named⟩, ⟨.inl ⟨basculeref_roundOf.con, basculeref_roundOf.named⟩, trivial⟩⟩) (by kernel_rfl) Tryd.func13 (c := cB Tryd.f13) (by kernel_rfl) (by kernel_rfl) F (fun x => by simp [F, spread, Tryd.ntmps13]) (fun x => (St0 x.1)) (fun x => by kernel_rfl) fun x => (top_eq fuel _ x.1).trans (by kernel_rfl)
theorem named : Named Tryd.prog 13 := named_of Tryd.func13 (by kernel_rfl) (by kernel_rfl)
end Go.Bx.basculeref_Turned
namespace Go.Bx.keccak_soak
def Js : List Nat := [7]
def C : Ctx := ⟨[(5, T9), (22, T2), (23, T4), (26, T12), (28, T13)], [], [], fnL [(12, keccak_Turn.F)], noSh, [], invL [], [(2, [2]), (1, [1, 2]), (4, [1, 2, 6, 7]), (6, [1, 2, 6, 7]), (18, [1, 2])], [], [], 0, 0⟩
def St0 (x0 : D1) : St := stL 30 [(0, .data T13 x0)] []
def St1 (x6 : D0) (x7 : Int) (c1 c2 : D1) : St := stL 30 [(1, .ref 1 0 []), (2, .ref 2 0 []), (6, .data T12 x6), (7, .data T1 x7)] [(1, .cell T13 (.data T13 c1) false), (2, .cell T13 (.data T13 c2) false)]
noncomputable def cd0 : Code := cL (cL (cR (cL (cR (cB Tryd.f43)))))
def St2 (c1 c2 : D1) : St := stL 30 [(1, .ref 1 0 []), (2, .ref 2 0 [])] [(1, .cell T13 (.data T13 c1) false), (2, .cell T13 (.data T13 c2) false)]
def l0s {α : Type} (Nx : D0 -> Int -> D1 -> D1 -> Option α) (Xt0 : D1 -> D1 -> Option α) (x6 : D0) (x7 : Int) (c1 c2 : D1) : Option α :=
 if (decide (x7 < 136)) = true then
  if 0 <= x7 /\ x7 < (136 : Int) then
   if 0 <= (IntKind.i64.wrap (Int.tdiv x7 8)) /\ (IntKind.i64.wrap (Int.tdiv x7 8)) < (25 : Int) then
    if 0 <= (IntKind.i64.wrap (8 * (Int.tmod x7 8))) then
     if 0 <= (IntKind.i64.wrap (Int.tdiv x7 8)) /\ (IntKind.i64.wrap (Int.tdiv x7 8)) < (25 : Int) then
      Nx x6 (IntKind.i64.wrap (x7 + 1)) ((List.set c1.1 (Int.toNat (IntKind.i64.wrap (Int.tdiv x7 8))) (bxor .u64 (List.getD c1.1 (Int.toNat (IntKind.i64.wrap (Int.tdiv x7 8))) 0) (shlI .u64 (IntKind.u64.wrap (List.getD x6 (Int.toNat x7) 0)) (IntKind.i64.wrap (8 * (Int.tmod x7 8)))))), c1.2) c2
     else none
    else none
   else none
  else none
 else
  Xt0 c1 c2
theorem l0s_eq {α : Type} (k : Nat) (next : St -> Option α) (Q : Ex -> St -> Option α) (x6 : D0) (x7 : Int) (c1 c2 : D1) :
  rnd C k cd0 6 Q next (St1 x6 x7 c1 c2) = l0s (fun x6 x7 c1 c2 => next (St1 x6 x7 c1 c2)) (fun c1 c2 => Q (.exit 0) (St2 c1 c2)) x6 x7 c1 c2 := by
 have h : ∀ (D L : DT α), denJ D L Js C cd0 (lq C 6 next Q) (St1 x6 x7 c1 c2) = l0s (fun x6 x7 c1 c2 => next (St1 x6 x7 c1 c2)) (fun c1 c2 => Q (.exit 0) (St2 c1 c2)) x6 x7 c1 c2 := by
  intro D L; kernel_rfl
 have h2 := via (k := k) h
 exact h2
def l0 {α : Type} (k : Nat) (Xt0 : D1 -> D1 -> Option α) : Nat -> D0 -> Int -> D1 -> D1 -> Option α
 | 0, _, _, _, _ => none
 | n + 1, x6, x7, c1, c2 => l0s (l0 k Xt0 n) Xt0 x6 x7 c1 c2
theorem l0_eq {α : Type} (k : Nat) (Q : Ex -> St -> Option α) : ∀ (n : Nat) (x6 : D0) (x7 : Int) (c1 c2 : D1), iter (rnd C k cd0 6 Q) n (St1 x6 x7 c1 c2) = l0 k (fun c1 c2 => Q (.exit 0) (St2 c1 c2)) n x6 x7 c1 c2
 | 0, _, _, _, _ => rfl
 | n + 1, x6, x7, c1, c2 => (iter_succ _ _ _).trans ((l0s_eq k _ Q x6 x7 c1 c2).trans (congrArg (fun N => l0s N (fun c1 c2 => Q (.exit 0) (St2 c1 c2)) x6 x7 c1 c2) (by funext; exact l0_eq k Q n _ _ _ _)))
noncomputable def cd1 : Code := cR (cR (cB Tryd.f43))
def St3 (c1 c2 : D1) : St := stL 30 [(1, .ref 1 0 []), (2, .ref 2 0 [])] [(1, .cell T13 (.data T13 c1) false), (2, .cell T13 (.data T13 c2) false)]
def St4 (c2 : D1) : St := stL 30 [(2, .ref 2 0 [])] [(2, .cell T13 (.data T13 c2) false)]
def j0 {α : Type} (Rt : D1 -> Option α) (c1 c2 : D1) : Option α :=
 (keccak_Turn.run c1.1).bind fun y1 =>
 Rt (y1, (List.replicate 136 0), 0, ())
theorem j0_eq {α : Type} (k : Nat) (Q : Ex -> St -> Option α) (c1 c2 : D1) :
  (den C k) cd1 Q (St3 c1 c2) = j0 (fun c2 => Q .ret (St4 c2)) c1 c2 := by
 have h : ∀ (D L : DT α), denJ D L Js C cd1 Q (St3 c1 c2) = j0 (fun c2 => Q .ret (St4 c2)) c1 c2 := by
  intro D L; kernel_rfl
 have h2 := via (k := k) h
 exact h2
theorem a0 {α : Type} (k : Nat) (Q : Ex -> St -> Option α) (x6 : D0) (x7 : Int) (c1 c2 : D1) :
  (lp C k) cd0 (blkQ C 0 (sq (den C k) (lp C k) Js C cd1 Q)) (St1 x6 x7 c1 c2) = l0 k (fun c1 c2 => j0 (fun c2 => Q .ret (St4 c2)) c1 c2) k x6 x7 c1 c2 :=
 (lp_iter 6 (by kernel_rfl)).trans ((l0_eq k _ k x6 x7 c1 c2).trans (congrArg (fun X => l0 k X k x6 x7 c1 c2) (funext fun c1 => funext fun c2 => (Eq.trans (b := (den C k) cd1 Q (St3 c1 c2)) (by kernel_rfl) (by simp only [j0_eq])))))
def top {α : Type} (k : Nat) (Rt : D1 -> Option α) (x0 : D1) : Option α :=
 l0 k (fun c1 c2 => j0 Rt c1 c2) k x0.2.1 0 x0 ((List.replicate 25 0), (List.replicate 136 0), 0, ())
theorem top_eq {α : Type} (k : Nat) (Q : Ex -> St -> Option α) (x0 : D1) :
  (den C k) (cB Tryd.f43) Q (St0 x0) = top k (fun c2 => Q .ret (St4 c2)) x0 := by
 have h : ∀ (D L : DT α), denJ D L Js C (cB Tryd.f43) Q (St0 x0) =
    L cd0 (blkQ C 0 (sq D L Js C cd1 Q)) (St1 x0.2.1 0 x0 ((List.replicate 25 0), (List.replicate 136 0), 0, ())) := by
  intro D L; kernel_rfl
 have h2 := via (k := k) h
 refine h2.trans ?_
 simp only [a0]
 first | rfl | kernel_rfl
def run (x0 : D1) : Option D1 := top (α := List Int × List Int × Int × Unit) fuel (fun c2 => some c2) x0
def F : Fn := ⟨T14, T13, false, fun x => run x.1⟩
theorem con : Con Tryd.prog 43 F :=
 con_of (C := C) (ctx_ok (by kernel_rfl) (by kernel_rfl) (by kernel_rfl) (by kernel_rfl) ⟨.inl ⟨keccak_Turn.con, keccak_Turn.named⟩, trivial⟩) (by kernel_rfl) Tryd.func43 (c := cB Tryd.f43) (by kernel_rfl) (by kernel_rfl) F (fun x => by simp [F, spread, Tryd.ntmps43]) (fun x => (St0 x.1)) (fun x => by kernel_rfl) fun x => (top_eq fuel _ x.1).trans (by kernel_rfl)
theorem named : Named Tryd.prog 43 := named_of Tryd.func43 (by kernel_rfl) (by kernel_rfl)
end Go.Bx.keccak_soak
namespace Go.Bx.basculeref_soaked
def Js : List Nat := [4, 10, 11]
def C : Ctx := ⟨[(5, T9), (9, .str), (22, T2), (23, T4)], [], [], fnL [(13, basculeref_Turned.F)], noSh, [], invL [], [(2, [4]), (1, [2, 4]), (4, [1, 2, 4, 5]), (7, [1, 2, 4, 5, 6]), (10, [1, 2, 4, 5, 6, 7]), (6, [1, 2, 4, 5]), (9, [1, 2, 4, 5]), (18, [1, 2, 4, 5, 6, 7]), (27, [1, 2, 4, 5, 6]), (30, [2, 4])], [], [], 0, 0⟩
def St0 (x0 x1 : D0) : St := stL 34 [(0, .data T4 x0), (1, .data .str x1)] []
def St1 (x1 : D0) (x5 : Int) (c2 c4 : D0) : St := stL 34 [(1, .data .str x1), (2, .ref 2 0 []), (4, .ref 4 0 []), (5, .data T1 x5)] [(2, .cell T4 (.data T4 c2) false), (4, .cell T4 (.data T4 c4) false)]
noncomputable def cd0 : Code := cL (cL (cR (cL (cR (cB Tryd.f45)))))
def St2 (x1 : D0) (x5 x6 x7 : Int) (c2 c4 : D0) : St := stL 34 [(1, .data .str x1), (2, .ref 2 0 []), (4, .ref 4 0 []), (5, .data T1 x5), (6, .data T2 x6), (7, .data T1 x7)] [(2, .cell T4 (.data T4 c2) false), (4, .cell T4 (.data T4 c4) false)]
noncomputable def cd1 : Code := cL (cL (cR (cL (cR (cL (cL (cR (cL (cL (cR (cL (cR (cB Tryd.f45)))))))))))))
def St3 (x1 : D0) (x5 x6 : Int) (c2 c4 : D0) : St := stL 34 [(1, .data .str x1), (2, .ref 2 0 []), (4, .ref 4 0 []), (5, .data T1 x5), (6, .data T2 x6)] [(2, .cell T4 (.data T4 c2) false), (4, .cell T4 (.data T4 c4) false)]
def l1s {α : Type} (Nx : D0 -> Int -> Int -> Int -> D0 -> D0 -> Option α) (Xt2 : D0 -> Int -> Int -> D0 -> D0 -> Option α) (x1 : D0) (x5 x6 x7 : Int) (c2 c4 : D0) : Option α :=
 if (decide (x7 >= 0)) = true then
  if 0 <= (IntKind.i64.wrap (x5 + x7)) /\ (IntKind.i64.wrap (x5 + x7)) < (x1.length : Int) then
   Nx x1 x5 (IntKind.u64.wrap ((IntKind.u64.wrap (x6 * 256)) + (IntKind.u64.wrap (List.getD x1 (Int.toNat (IntKind.i64.wrap (x5 + x7))) 0)))) (IntKind.i64.wrap (x7 - 1)) c2 c4
  else none
 else
  Xt2 x1 x5 x6 c2 c4
theorem l1s_eq {α : Type} (k : Nat) (next : St -> Option α) (Q : Ex -> St -> Option α) (x1 : D0) (x5 x6 x7 : Int) (c2 c4 : D0) :
  rnd C k cd1 18 Q next (St2 x1 x5 x6 x7 c2 c4) = l1s (fun x1 x5 x6 x7 c2 c4 => next (St2 x1 x5 x6 x7 c2 c4)) (fun x1 x5 x6 c2 c4 => Q (.exit 2) (St3 x1 x5 x6 c2 c4)) x1 x5 x6 x7 c2 c4 := by
 have h : ∀ (D L : DT α), denJ D L Js C cd1 (lq C 18 next Q) (St2 x1 x5 x6 x7 c2 c4) = l1s (fun x1 x5 x6 x7 c2 c4 => next (St2 x1 x5 x6 x7 c2 c4)) (fun x1 x5 x6 c2 c4 => Q (.exit 2) (St3 x1 x5 x6 c2 c4)) x1 x5 x6 x7 c2 c4 := by
  intro D L; kernel_rfl
 have h2 := via (k := k) h
 exact h2
def l1 {α : Type} (k : Nat) (Xt2 : D0 -> Int -> Int -> D0 -> D0 -> Option α) : Nat -> D0 -> Int -> Int -> Int -> D0 -> D0 -> Option α
 | 0, _, _, _, _, _, _ => none
 | n + 1, x1, x5, x6, x7, c2, c4 => l1s (l1 k Xt2 n) Xt2 x1 x5 x6 x7 c2 c4
theorem l1_eq {α : Type} (k : Nat) (Q : Ex -> St -> Option α) : ∀ (n : Nat) (x1 : D0) (x5 x6 x7 : Int) (c2 c4 : D0), iter (rnd C k cd1 18 Q) n (St2 x1 x5 x6 x7 c2 c4) = l1 k (fun x1 x5 x6 c2 c4 => Q (.exit 2) (St3 x1 x5 x6 c2 c4)) n x1 x5 x6 x7 c2 c4
 | 0, _, _, _, _, _, _ => rfl
 | n + 1, x1, x5, x6, x7, c2, c4 => (iter_succ _ _ _).trans ((l1s_eq k _ Q x1 x5 x6 x7 c2 c4).trans (congrArg (fun N => l1s N (fun x1 x5 x6 c2 c4 => Q (.exit 2) (St3 x1 x5 x6 c2 c4)) x1 x5 x6 x7 c2 c4) (by funext; exact l1_eq k Q n _ _ _ _ _ _)))
noncomputable def cd2 : Code := cR (cR (cL (cL (cR (cL (cL (cR (cL (cR (cB Tryd.f45))))))))))
noncomputable def cd3 : Code := cR (cR (cL (cL (cR (cL (cR (cB Tryd.f45)))))))
def St4 (x1 : D0) (x5 x6 : Int) (c2 c4 : D0) : St := stL 34 [(1, .data .str x1), (2, .ref 2 0 []), (4, .ref 4 0 []), (5, .data T1 x5), (6, .data T2 x6)] [(2, .cell T4 (.data T4 c2) false), (4, .cell T4 (.data T4 c4) false)]
def St5 (x1 : D0) (x5 : Int) (c2 c4 : D0) : St := stL 34 [(1, .data .str x1), (2, .ref 2 0 []), (4, .ref 4 0 []), (5, .data T1 x5)] [(2, .cell T4 (.data T4 c2) false), (4, .cell T4 (.data T4 c4) false)]
def j1 {α : Type} (Nx : D0 -> Int -> D0 -> D0 -> Option α) (x1 : D0) (x5 : Int) (c2 c4 : D0) : Option α :=
 Nx x1 (IntKind.i64.wrap (x5 + 8)) c2 c4
theorem j1_eq {α : Type} (k : Nat) (next : St -> Option α) (Q : Ex -> St -> Option α) (x1 : D0) (x5 : Int) (c2 c4 : D0) :
  (den C k) cd3 (lq C 6 next Q) (St5 x1 x5 c2 c4) = j1 (fun x1 x5 c2 c4 => next (St1 x1 x5 c2 c4)) x1 x5 c2 c4 := by
 have h : ∀ (D L : DT α), denJ D L Js C cd3 (lq C 6 next Q) (St5 x1 x5 c2 c4) = j1 (fun x1 x5 c2 c4 => next (St1 x1 x5 c2 c4)) x1 x5 c2 c4 := by
  intro D L; kernel_rfl
 have h2 := via (k := k) h
 exact h2
def j0 {α : Type} (Nx : D0 -> Int -> D0 -> D0 -> Option α) (x1 : D0) (x5 x6 : Int) (c2 c4 : D0) : Option α :=
 if 0 <= (IntKind.i64.wrap (Int.tdiv x5 8)) /\ (IntKind.i64.wrap (Int.tdiv x5 8)) < (25 : Int) then
  if 0 <= (IntKind.i64.wrap (Int.tdiv x5 8)) /\ (IntKind.i64.wrap (Int.tdiv x5 8)) < (25 : Int) then
   j1 Nx x1 x5 (List.set c2 (Int.toNat (IntKind.i64.wrap (Int.tdiv x5 8))) (bxor .u64 (List.getD c2 (Int.toNat (IntKind.i64.wrap (Int.tdiv x5 8))) 0) x6)) c4
  else none
 else none
theorem j0_eq {α : Type} (k : Nat) (next : St -> Option α) (Q : Ex -> St -> Option α) (x1 : D0) (x5 x6 : Int) (c2 c4 : D0) :
  (den C k) cd2 (blkQ C 1 (sq (den C k) (lp C k) Js C cd3 (lq C 6 next Q))) (St4 x1 x5 x6 c2 c4) = j0 (fun x1 x5 c2 c4 => next (St1 x1 x5 c2 c4)) x1 x5 x6 c2 c4 := by
 have h : ∀ (D L : DT α), denJ D L Js C cd2 (blkQ C 1 (sq D L Js C cd3 (lq C 6 next Q))) (St4 x1 x5 x6 c2 c4) =
    if 0 <= (IntKind.i64.wrap (Int.tdiv x5 8)) /\ (IntKind.i64.wrap (Int.tdiv x5 8)) < (25 : Int) then
     if 0 <= (IntKind.i64.wrap (Int.tdiv x5 8)) /\ (IntKind.i64.wrap (Int.tdiv x5 8)) < (25 : Int) then
      D cd3 (lq C 6 next Q) (St5 x1 x5 (List.set c2 (Int.toNat (IntKind.i64.wrap (Int.tdiv x5 8))) (bxor .u64 (List.getD c2 (Int.toNat (IntKind.i64.wrap (Int.tdiv x5 8))) 0) x6)) c4)
     else none
    else none := by
  intro D L; kernel_rfl
 have h2 := via (k := k) h
 refine h2.trans ?_
 simp only [j1_eq]
 first | rfl | kernel_rfl
theorem a0 {α : Type} (k : Nat) (next : St -> Option α) (Q : Ex -> St -> Option α) (x1 : D0) (x5 x6 x7 : Int) (c2 c4 : D0) :
  (lp C k) cd1 (blkQ C 2 (sq (den C k) (lp C k) Js C cd2 (blkQ C 1 (sq (den C k) (lp C k) Js C cd3 (lq C 6 next Q))))) (St2 x1 x5 x6 x7 c2 c4) = l1 k (fun x1 x5 x6 c2 c4 => j0 (fun x1 x5 c2 c4 => next (St1 x1 x5 c2 c4)) x1 x5 x6 c2 c4) k x1 x5 x6 x7 c2 c4 :=
 (lp_iter 18 (by kernel_rfl)).trans ((l1_eq k _ k x1 x5 x6 x7 c2 c4).trans (congrArg (fun X => l1 k X k x1 x5 x6 x7 c2 c4) (funext fun x1 => funext fun x5 => funext fun x6 => funext fun c2 => funext fun c4 => (Eq.trans (b := (den C k) cd2 (blkQ C 1 (sq (den C k) (lp C k) Js C cd3 (lq C 6 next Q))) (St4 x1 x5 x6 c2 c4)) (by kernel_rfl) (by simp only [j0_eq])))))
def St6 (c2 c4 : D0) : St := stL 34 [(2, .ref 2 0 []), (4, .ref 4 0 [])] [(2, .cell T4 (.data T4 c2) false), (4, .cell T4 (.data T4 c4) false)]
def l0s {α : Type} (k : Nat) (Nx : D0 -> Int -> D0 -> D0 -> Option α) (Xt0 : D0 -> D0 -> Option α) (x1 : D0) (x5 : Int) (c2 c4 : D0) : Option α :=
 if (decide (x5 < 136)) = true then
  l1 k (fun x1 x5 x6 c2 c4 => j0 Nx x1 x5 x6 c2 c4) k x1 x5 0 7 c2 c4
 else
  Xt0 c2 c4
theorem l0s_eq {α : Type} (k : Nat) (next : St -> Option α) (Q : Ex -> St -> Option α) (x1 : D0) (x5 : Int) (c2 c4 : D0) :
  rnd C k cd0 6 Q next (St1 x1 x5 c2 c4) = l0s k (fun x1 x5 c2 c4 => next (St1 x1 x5 c2 c4)) (fun c2 c4 => Q (.exit 0) (St6 c2 c4)) x1 x5 c2 c4 := by
 have h : ∀ (D L : DT α), denJ D L Js C cd0 (lq C 6 next Q) (St1 x1 x5 c2 c4) =
    if (decide (x5 < 136)) = true then
     L cd1 (blkQ C 2 (sq D L Js C cd2 (blkQ C 1 (sq D L Js C cd3 (lq C 6 next Q))))) (St2 x1 x5 0 7 c2 c4)
    else
     Q (.exit 0) (St6 c2 c4) := by
  intro D L; kernel_rfl
 have h2 := via (k := k) h
 refine h2.trans ?_
 simp only [a0]
 first | rfl | kernel_rfl
def l0 {α : Type} (k : Nat) (Xt0 : D0 -> D0 -> Option α) : Nat -> D0 -> Int -> D0 -> D0 -> Option α
 | 0, _, _, _, _ => none
 | n + 1, x1, x5, c2, c4 => l0s k (l0 k Xt0 n) Xt0 x1 x5 c2 c4
theorem l0_eq {α : Type} (k : Nat) (Q : Ex -> St -> Option α) : ∀ (n : Nat) (x1 : D0) (x5 : Int) (c2 c4 : D0), iter (rnd C k cd0 6 Q) n (St1 x1 x5 c2 c4) = l0 k (fun c2 c4 => Q (.exit 0) (St6 c2 c4)) n x1 x5 c2 c4
 | 0, _, _, _, _ => rfl
 | n + 1, x1, x5, c2, c4 => (iter_succ _ _ _).trans ((l0s_eq k _ Q x1 x5 c2 c4).trans (congrArg (fun N => l0s k N (fun c2 c4 => Q (.exit 0) (St6 c2 c4)) x1 x5 c2 c4) (by funext; exact l0_eq k Q n _ _ _ _)))
noncomputable def cd4 : Code := cR (cR (cB Tryd.f45))
def St7 (c2 c4 : D0) : St := stL 34 [(2, .ref 2 0 []), (4, .ref 4 0 [])] [(2, .cell T4 (.data T4 c2) false), (4, .cell T4 (.data T4 c4) false)]
def St8 (c4 : D0) : St := stL 34 [(4, .ref 4 0 [])] [(4, .cell T4 (.data T4 c4) false)]
def j2 {α : Type} (Rt : D0 -> Option α) (c2 c4 : D0) : Option α :=
 (basculeref_Turned.run c2).bind fun y1 =>
 Rt y1
theorem j2_eq {α : Type} (k : Nat) (Q : Ex -> St -> Option α) (c2 c4 : D0) :
  (den C k) cd4 Q (St7 c2 c4) = j2 (fun c4 => Q .ret (St8 c4)) c2 c4 := by
 have h : ∀ (D L : DT α), denJ D L Js C cd4 Q (St7 c2 c4) = j2 (fun c4 => Q .ret (St8 c4)) c2 c4 := by
  intro D L; kernel_rfl
 have h2 := via (k := k) h
 exact h2
theorem a1 {α : Type} (k : Nat) (Q : Ex -> St -> Option α) (x1 : D0) (x5 : Int) (c2 c4 : D0) :
  (lp C k) cd0 (blkQ C 0 (sq (den C k) (lp C k) Js C cd4 Q)) (St1 x1 x5 c2 c4) = l0 k (fun c2 c4 => j2 (fun c4 => Q .ret (St8 c4)) c2 c4) k x1 x5 c2 c4 :=
 (lp_iter 6 (by kernel_rfl)).trans ((l0_eq k _ k x1 x5 c2 c4).trans (congrArg (fun X => l0 k X k x1 x5 c2 c4) (funext fun c2 => funext fun c4 => (Eq.trans (b := (den C k) cd4 Q (St7 c2 c4)) (by kernel_rfl) (by simp only [j2_eq])))))
def top {α : Type} (k : Nat) (Rt : D0 -> Option α) (x0 x1 : D0) : Option α :=
 l0 k (fun c2 c4 => j2 Rt c2 c4) k x1 0 x0 (List.replicate 25 0)
theorem top_eq {α : Type} (k : Nat) (Q : Ex -> St -> Option α) (x0 x1 : D0) :
  (den C k) (cB Tryd.f45) Q (St0 x0 x1) = top k (fun c4 => Q .ret (St8 c4)) x0 x1 := by
 have h : ∀ (D L : DT α), denJ D L Js C (cB Tryd.f45) Q (St0 x0 x1) =
    L cd0 (blkQ C 0 (sq D L Js C cd4 Q)) (St1 x1 0 x0 (List.replicate 25 0)) := by
  intro D L; kernel_rfl
 have h2 := via (k := k) h
 refine h2.trans ?_
 simp only [a1]
 first | rfl | kernel_rfl
def run (x0 x1 : D0) : Option D0 := top (α := List Int) fuel (fun c4 => some c4) x0 x1
def F : Fn := ⟨T17, T4, false, fun x => run x.1 x.2.1⟩
theorem con : Con Tryd.prog 45 F :=
 con_of (C := C) (ctx_ok (by kernel_rfl) (by kernel_rfl) (by kernel_rfl) (by kernel_rfl) ⟨.inl ⟨basculeref_Turned.con, basculeref_Turned.named⟩, trivial⟩) (by kernel_rfl) Tryd.func45 (c := cB Tryd.f45) (by kernel_rfl) (by kernel_rfl) F (fun x => by simp [F, spread, Tryd.ntmps45]) (fun x => (St0 x.1 x.2.1)) (fun x => by kernel_rfl) fun x => (top_eq fuel _ x.1 x.2.1).trans (by kernel_rfl)
theorem named : Named Tryd.prog 45 := named_of Tryd.func45 (by kernel_rfl) (by kernel_rfl)
end Go.Bx.basculeref_soaked
namespace Go.Bx.keccak_check
def Js : List Nat := [10]
def C : Ctx := ⟨[(3, T1), (5, T9), (26, T12), (28, T13), (29, T10), (30, T1)], [], [], fnL [], noSh, [], invL [], [(2, [2]), (1, []), (4, [16, 17, 18]), (12, [16, 17, 18]), (27, [])], [], [], 0, 0⟩
def St0 (x0 : D1) : St := stL 25 [(0, .data T13 x0)] []
def St1 (x2 : Int) : St := stL 25 [(2, .data T1 x2)] []
def St2 (x16l x17 x18 : Int) (c1 : D1) : St := stL 25 [(16, .view 1 [.fld 1] T9 136 x16l 136), (17, .data T1 x17), (18, .data T1 x18)] [(1, .cell T13 (.data T13 c1) false)]
noncomputable def cd0 : Code := cL (cL (cR (cL (cR (cR (cB Tryd.f42))))))
def St3 : St := stL 25 [] []
def l0s {α : Type} (Nx : Int -> Int -> Int -> D1 -> Option α) (Rt : Int -> Option α) (Xt0 : Option α) (x16l x17 x18 : Int) (c1 : D1) : Option α :=
 if (decide (x18 < x17)) = true then
  if 0 <= x18 /\ x18 < (136 - x16l) then
   if ((List.getD c1.2.1 (Int.toNat (x16l + x18)) 0) != 0) = true then
    Rt 12
   else
    Nx x16l x17 (IntKind.i64.wrap (x18 + 1)) c1
  else none
 else
  Xt0
theorem l0s_eq {α : Type} (k : Nat) (next : St -> Option α) (Q : Ex -> St -> Option α) (x16l x17 x18 : Int) (c1 : D1) :
  rnd C k cd0 12 Q next (St2 x16l x17 x18 c1) = l0s (fun x16l x17 x18 c1 => next (St2 x16l x17 x18 c1)) (fun x2 => Q .ret (St1 x2)) (Q (.exit 0) St3) x16l x17 x18 c1 := by
 have h : ∀ (D L : DT α), denJ D L Js C cd0 (lq C 12 next Q) (St2 x16l x17 x18 c1) = l0s (fun x16l x17 x18 c1 => next (St2 x16l x17 x18 c1)) (fun x2 => Q .ret (St1 x2)) (Q (.exit 0) St3) x16l x17 x18 c1 := by
  intro D L; kernel_rfl
 have h2 := via (k := k) h
 exact h2
def l0 {α : Type} (k : Nat) (Rt : Int -> Option α) (Xt0 : Option α) : Nat -> Int -> Int -> Int -> D1 -> Option α
 | 0, _, _, _, _ => none
 | n + 1, x16l, x17, x18, c1 => l0s (l0 k Rt Xt0 n) Rt Xt0 x16l x17 x18 c1
theorem l0_eq {α : Type} (k : Nat) (Q : Ex -> St -> Option α) : ∀ (n : Nat) (x16l x17 x18 : Int) (c1 : D1), iter (rnd C k cd0 12 Q) n (St2 x16l x17 x18 c1) = l0 k (fun x2 => Q .ret (St1 x2)) (Q (.exit 0) St3) n x16l x17 x18 c1
 | 0, _, _, _, _ => rfl
 | n + 1, x16l, x17, x18, c1 => (iter_succ _ _ _).trans ((l0s_eq k _ Q x16l x17 x18 c1).trans (congrArg (fun N => l0s N (fun x2 => Q .ret (St1 x2)) (Q (.exit 0) St3) x16l x17 x18 c1) (by funext; exact l0_eq k Q n _ _ _ _)))
theorem l0_congr {α : Type} (k : Nat) (Rt : Int -> Option α) (Xt0 : Option α) (Rtq : Int -> Option α) (Xt0q : Option α) (hRt : ∀ (x2 : Int), Rt x2 = Rtq x2) (hXt0 : Xt0 = Xt0q) (n : Nat) (x16l x17 x18 : Int) (c1 : D1) : l0 k Rt Xt0 n x16l x17 x18 c1 = l0 k Rtq Xt0q n x16l x17 x18 c1 := by
 obtain rfl : Rt = Rtq := by funext x2; exact hRt x2
 obtain rfl : Xt0 = Xt0q := hXt0
 rfl
noncomputable def cd1 : Code := cR (cR (cR (cB Tryd.f42)))
def St4 : St := stL 25 [] []
def j0 {α : Type} (Rt : Int -> Option α) : Option α :=
 Rt 0
theorem j0_eq {α : Type} (k : Nat) (Q : Ex -> St -> Option α) :
  (den C k) cd1 Q St4 = j0 (fun x2 => Q .ret (St1 x2)) := by
 have h : ∀ (D L : DT α), denJ D L Js C cd1 Q St4 = j0 (fun x2 => Q .ret (St1 x2)) := by
  intro D L; kernel_rfl
 have h2 := via (k := k) h
 exact h2
theorem a0 {α : Type} (k : Nat) (Q : Ex -> St -> Option α) (x16l x17 x18 : Int) (c1 : D1) :
  (lp C k) cd0 (blkQ C 0 (sq (den C k) (lp C k) Js C cd1 Q)) (St2 x16l x17 x18 c1) = l0 k (fun x2 => (fun x2 => Q .ret (St1 x2)) x2) (j0 (fun x2 => Q .ret (St1 x2))) k x16l x17 x18 c1 :=
 (lp_iter 12 (by kernel_rfl)).trans ((l0_eq k _ k x16l x17 x18 c1).trans (l0_congr k _ _ _ _ (fun x2 => (by kernel_rfl)) (Eq.trans (b := (den C k) cd1 Q St4) (by kernel_rfl) (by simp only [j0_eq])) k x16l x17 x18 c1))
def top {α : Type} (k : Nat) (Rt : Int -> Option α) (x0 : D1) : Option α :=
 if (cond (decide (x0.2.2.1 < 0)) true (decide (x0.2.2.1 >= 136))) = true then
  Rt 12
 else
  if 0 <= x0.2.2.1 /\ x0.2.2.1 <= (136 : Int) /\ (136 : Int) <= (136 : Int) then
   l0 k (fun x2 => Rt x2) (j0 Rt) k x0.2.2.1 ((cutL x0.2.1 x0.2.2.1 136).length : Int) 0 x0
  else none
theorem top_eq {α : Type} (k : Nat) (Q : Ex -> St -> Option α) (x0 : D1) :
  (den C k) (cB Tryd.f42) Q (St0 x0) = top k (fun x2 => Q .ret (St1 x2)) x0 := by
 have h : ∀ (D L : DT α), denJ D L Js C (cB Tryd.f42) Q (St0 x0) =
    if (cond (decide (x0.2.2.1 < 0)) true (decide (x0.2.2.1 >= 136))) = true then
     Q .ret (St1 12)
    else
     if 0 <= x0.2.2.1 /\ x0.2.2.1 <= (136 : Int) /\ (136 : Int) <= (136 : Int) then
      L cd0 (blkQ C 0 (sq D L Js C cd1 Q)) (St2 x0.2.2.1 ((cutL x0.2.1 x0.2.2.1 136).length : Int) 0 x0)
     else none := by
  intro D L; kernel_rfl
 have h2 := via (k := k) h
 refine h2.trans ?_
 simp only [a0]
 first | rfl | kernel_rfl
def run (x0 : D1) : Option (Int) := top (α := Int) fuel (fun x2 => some x2) x0
def F : Fn := ⟨T14, T1, false, fun x => run x.1⟩
theorem con : Con Tryd.prog 42 F :=
 con_of (C := C) (ctx_ok (by kernel_rfl) (by kernel_rfl) (by kernel_rfl) (by kernel_rfl) trivial) (by kernel_rfl) Tryd.func42 (c := cB Tryd.f42) (by kernel_rfl) (by kernel_rfl) F (fun x => by simp [F, spread, Tryd.ntmps42]) (fun x => (St0 x.1)) (fun x => by kernel_rfl) fun x => (top_eq fuel _ x.1).trans (by kernel_rfl)
theorem named : Named Tryd.prog 42 := named_of Tryd.func42 (by kernel_rfl) (by kernel_rfl)
end Go.Bx.keccak_check
namespace Go.Bx.basculeref_badSponge
def Js : List Nat := [9]
def C : Ctx := ⟨[(3, T1), (4, .bool), (5, T9), (26, T12), (28, T13)], [], [], fnL [], noSh, [], invL [], [(2, [2]), (1, []), (4, [1, 3]), (12, [1, 3]), (24, [])], [], [], 0, 0⟩
def St0 (x0 : D1) : St := stL 23 [(0, .data T13 x0)] []
def St1 (x2 : Bool) : St := stL 23 [(2, .data .bool x2)] []
def St2 (x3 : Int) (c1 : D1) : St := stL 23 [(1, .ref 1 0 []), (3, .data T1 x3)] [(1, .cell T13 (.data T13 c1) false)]
noncomputable def cd0 : Code := cL (cL (cR (cL (cR (cR (cB Tryd.f44))))))
def St3 : St := stL 23 [] []
def l0s {α : Type} (Nx : Int -> D1 -> Option α) (Rt : Bool -> Option α) (Xt0 : Option α) (x3 : Int) (c1 : D1) : Option α :=
 if (decide (x3 < 136)) = true then
  if 0 <= x3 /\ x3 < (136 : Int) then
   if ((List.getD c1.2.1 (Int.toNat x3) 0) != 0) = true then
    Rt true
   else
    Nx (IntKind.i64.wrap (x3 + 1)) c1
  else none
 else
  Xt0
theorem l0s_eq {α : Type} (k : Nat) (next : St -> Option α) (Q : Ex -> St -> Option α) (x3 : Int) (c1 : D1) :
  rnd C k cd0 12 Q next (St2 x3 c1) = l0s (fun x3 c1 => next (St2 x3 c1)) (fun x2 => Q .ret (St1 x2)) (Q (.exit 0) St3) x3 c1 := by
 have h : ∀ (D L : DT α), denJ D L Js C cd0 (lq C 12 next Q) (St2 x3 c1) = l0s (fun x3 c1 => next (St2 x3 c1)) (fun x2 => Q .ret (St1 x2)) (Q (.exit 0) St3) x3 c1 := by
  intro D L; kernel_rfl
 have h2 := via (k := k) h
 exact h2
def l0 {α : Type} (k : Nat) (Rt : Bool -> Option α) (Xt0 : Option α) : Nat -> Int -> D1 -> Option α
 | 0, _, _ => none
 | n + 1, x3, c1 => l0s (l0 k Rt Xt0 n) Rt Xt0 x3 c1
theorem l0_eq {α : Type} (k : Nat) (Q : Ex -> St -> Option α) : ∀ (n : Nat) (x3 : Int) (c1 : D1), iter (rnd C k cd0 12 Q) n (St2 x3 c1) = l0 k (fun x2 => Q .ret (St1 x2)) (Q (.exit 0) St3) n x3 c1
 | 0, _, _ => rfl
 | n + 1, x3, c1 => (iter_succ _ _ _).trans ((l0s_eq k _ Q x3 c1).trans (congrArg (fun N => l0s N (fun x2 => Q .ret (St1 x2)) (Q (.exit 0) St3) x3 c1) (by funext; exact l0_eq k Q n _ _)))
theorem l0_congr {α : Type} (k : Nat) (Rt : Bool -> Option α) (Xt0 : Option α) (Rtq : Bool -> Option α) (Xt0q : Option α) (hRt : ∀ (x2 : Bool), Rt x2 = Rtq x2) (hXt0 : Xt0 = Xt0q) (n : Nat) (x3 : Int) (c1 : D1) : l0 k Rt Xt0 n x3 c1 = l0 k Rtq Xt0q n x3 c1 := by
 obtain rfl : Rt = Rtq := by funext x2; exact hRt x2
 obtain rfl : Xt0 = Xt0q := hXt0
 rfl
noncomputable def cd1 : Code := cR (cR (cR (cB Tryd.f44)))
def St4 : St := stL 23 [] []
def j0 {α : Type} (Rt : Bool -> Option α) : Option α :=
 Rt false
theorem j0_eq {α : Type} (k : Nat) (Q : Ex -> St -> Option α) :
  (den C k) cd1 Q St4 = j0 (fun x2 => Q .ret (St1 x2)) := by
 have h : ∀ (D L : DT α), denJ D L Js C cd1 Q St4 = j0 (fun x2 => Q .ret (St1 x2)) := by
  intro D L; kernel_rfl
 have h2 := via (k := k) h
 exact h2
theorem a0 {α : Type} (k : Nat) (Q : Ex -> St -> Option α) (x3 : Int) (c1 : D1) :
  (lp C k) cd0 (blkQ C 0 (sq (den C k) (lp C k) Js C cd1 Q)) (St2 x3 c1) = l0 k (fun x2 => (fun x2 => Q .ret (St1 x2)) x2) (j0 (fun x2 => Q .ret (St1 x2))) k x3 c1 :=
 (lp_iter 12 (by kernel_rfl)).trans ((l0_eq k _ k x3 c1).trans (l0_congr k _ _ _ _ (fun x2 => (by kernel_rfl)) (Eq.trans (b := (den C k) cd1 Q St4) (by kernel_rfl) (by simp only [j0_eq])) k x3 c1))
def top {α : Type} (k : Nat) (Rt : Bool -> Option α) (x0 : D1) : Option α :=
 if (cond (decide (x0.2.2.1 < 0)) true (decide (x0.2.2.1 > 135))) = true then
  Rt true
 else
  l0 k (fun x2 => Rt x2) (j0 Rt) k x0.2.2.1 x0
theorem top_eq {α : Type} (k : Nat) (Q : Ex -> St -> Option α) (x0 : D1) :
  (den C k) (cB Tryd.f44) Q (St0 x0) = top k (fun x2 => Q .ret (St1 x2)) x0 := by
 have h : ∀ (D L : DT α), denJ D L Js C (cB Tryd.f44) Q (St0 x0) =
    if (cond (decide (x0.2.2.1 < 0)) true (decide (x0.2.2.1 > 135))) = true then
     Q .ret (St1 true)
    else
     L cd0 (blkQ C 0 (sq D L Js C cd1 Q)) (St2 x0.2.2.1 x0) := by
  intro D L; kernel_rfl
 have h2 := via (k := k) h
 refine h2.trans ?_
 simp only [a0]
 first | rfl | kernel_rfl
def run (x0 : D1) : Option (Bool) := top (α := Bool) fuel (fun x2 => some x2) x0
def F : Fn := ⟨T14, .bool, false, fun x => run x.1⟩
theorem con : Con Tryd.prog 44 F :=
 con_of (C := C) (ctx_ok (by kernel_rfl) (by kernel_rfl) (by kernel_rfl) (by kernel_rfl) trivial) (by kernel_rfl) Tryd.func44 (c := cB Tryd.f44) (by kernel_rfl) (by kernel_rfl) F (fun x => by simp [F, spread, Tryd.ntmps44]) (fun x => (St0 x.1)) (fun x => by kernel_rfl) fun x => (top_eq fuel _ x.1).trans (by kernel_rfl)
theorem named : Named Tryd.prog 44 := named_of Tryd.func44 (by kernel_rfl) (by kernel_rfl)
end Go.Bx.basculeref_badSponge
namespace Go.Bx.keccak_Add
def Js : List Nat := [12, 13]
def C : Ctx := ⟨[(3, T1), (5, T9), (26, T12), (28, T13), (29, T10), (30, T1)], [], [], fnL [(42, keccak_check.F), (43, keccak_soak.F)], noSh, [], invL [], [(2, [4, 5]), (1, [2, 4]), (4, [2, 4, 15, 16, 17]), (15, [2, 4, 15, 16, 17]), (33, [2, 4, 15, 16, 17]), (36, [2, 4])], [], [], 0, 0⟩
def St0 (x0 : D1) (x1 : D0) : St := stL 37 [(0, .data T13 x0), (1, .data T10 x1)] []
def St1 (x5 : Int) (c4 : D1) : St := stL 37 [(4, .ref 4 0 []), (5, .data T1 x5)] [(4, .cell T13 (.data T13 c4) false)]
def St2 (x15 : D0) (x16 x17 : Int) (c2 c4 : D1) : St := stL 37 [(2, .ref 2 0 []), (4, .ref 4 0 []), (15, .data T10 x15), (16, .data T1 x16), (17, .data T1 x17)] [(2, .cell T13 (.data T13 c2) false), (4, .cell T13 (.data T13 c4) false)]
noncomputable def cd0 : Code := cL (cL (cR (cL (cR (cR (cB Tryd.f14))))))
def St3 (x15 : D0) (x16 x17 : Int) (c2 c4 : D1) : St := stL 37 [(2, .ref 2 0 []), (4, .ref 4 0 []), (15, .data T10 x15), (16, .data T1 x16), (17, .data T1 x17)] [(2, .cell T13 (.data T13 c2) false), (4, .cell T13 (.data T13 c4) false)]
noncomputable def cd1 : Code := cR (cR (cR (cL (cL (cR (cL (cR (cR (cB Tryd.f14)))))))))
def j0 {α : Type} (Nx : D0 -> Int -> Int -> D1 -> D1 -> Option α) (x15 : D0) (x16 x17 : Int) (c2 c4 : D1) : Option α :=
 Nx x15 x16 (IntKind.i64.wrap (x17 + 1)) c2 c4
theorem j0_eq {α : Type} (k : Nat) (next : St -> Option α) (Q : Ex -> St -> Option α) (x15 : D0) (x16 x17 : Int) (c2 c4 : D1) :
  (den C k) cd1 (lq C 15 next Q) (St3 x15 x16 x17 c2 c4) = j0 (fun x15 x16 x17 c2 c4 => next (St2 x15 x16 x17 c2 c4)) x15 x16 x17 c2 c4 := by
 have h : ∀ (D L : DT α), denJ D L Js C cd1 (lq C 15 next Q) (St3 x15 x16 x17 c2 c4) = j0 (fun x15 x16 x17 c2 c4 => next (St2 x15 x16 x17 c2 c4)) x15 x16 x17 c2 c4 := by
  intro D L; kernel_rfl
 have h2 := via (k := k) h
 exact h2
def St4 (c2 c4 : D1) : St := stL 37 [(2, .ref 2 0 []), (4, .ref 4 0 [])] [(2, .cell T13 (.data T13 c2) false), (4, .cell T13 (.data T13 c4) false)]
def l0s {α : Type} (Nx : D0 -> Int -> Int -> D1 -> D1 -> Option α) (Xt0 : D1 -> D1 -> Option α) (x15 : D0) (x16 x17 : Int) (c2 c4 : D1) : Option α :=
 if (decide (x17 < x16)) = true then
  if 0 <= x17 /\ x17 < (x15.length : Int) then
   if 0 <= c2.2.2.1 /\ c2.2.2.1 < (136 : Int) then
    if ((IntKind.i64.wrap (c2.2.2.1 + 1)) == 136) = true then
     (keccak_soak.run (c2.1, (List.set c2.2.1 (Int.toNat c2.2.2.1) (List.getD x15 (Int.toNat x17) 0)), (IntKind.i64.wrap (c2.2.2.1 + 1)), c2.2.2.2)).bind fun y2 =>
     j0 Nx x15 x16 x17 y2 c4
    else
     j0 Nx x15 x16 x17 (c2.1, (List.set c2.2.1 (Int.toNat c2.2.2.1) (List.getD x15 (Int.toNat x17) 0)), (IntKind.i64.wrap (c2.2.2.1 + 1)), c2.2.2.2) c4
   else none
  else none
 else
  Xt0 c2 c4
theorem l0s_eq {α : Type} (k : Nat) (next : St -> Option α) (Q : Ex -> St -> Option α) (x15 : D0) (x16 x17 : Int) (c2 c4 : D1) :
  rnd C k cd0 15 Q next (St2 x15 x16 x17 c2 c4) = l0s (fun x15 x16 x17 c2 c4 => next (St2 x15 x16 x17 c2 c4)) (fun c2 c4 => Q (.exit 0) (St4 c2 c4)) x15 x16 x17 c2 c4 := by
 have h : ∀ (D L : DT α), denJ D L Js C cd0 (lq C 15 next Q) (St2 x15 x16 x17 c2 c4) =
    if (decide (x17 < x16)) = true then
     if 0 <= x17 /\ x17 < (x15.length : Int) then
      if 0 <= c2.2.2.1 /\ c2.2.2.1 < (136 : Int) then
       if ((IntKind.i64.wrap (c2.2.2.1 + 1)) == 136) = true then
        (keccak_soak.run (c2.1, (List.set c2.2.1 (Int.toNat c2.2.2.1) (List.getD x15 (Int.toNat x17) 0)), (IntKind.i64.wrap (c2.2.2.1 + 1)), c2.2.2.2)).bind fun y2 =>
        D cd1 (lq C 15 next Q) (St3 x15 x16 x17 y2 c4)
       else
        D cd1 (lq C 15 next Q) (St3 x15 x16 x17 (c2.1, (List.set c2.2.1 (Int.toNat c2.2.2.1) (List.getD x15 (Int.toNat x17) 0)), (IntKind.i64.wrap (c2.2.2.1 + 1)), c2.2.2.2) c4)
      else none
     else none
    else
     Q (.exit 0) (St4 c2 c4) := by
  intro D L; kernel_rfl
 have h2 := via (k := k) h
 refine h2.trans ?_
 simp only [j0_eq]
 first | rfl | kernel_rfl
def l0 {α : Type} (k : Nat) (Xt0 : D1 -> D1 -> Option α) : Nat -> D0 -> Int -> Int -> D1 -> D1 -> Option α
 | 0, _, _, _, _, _ => none
 | n + 1, x15, x16, x17, c2, c4 => l0s (l0 k Xt0 n) Xt0 x15 x16 x17 c2 c4
theorem l0_eq {α : Type} (k : Nat) (Q : Ex -> St -> Option α) : ∀ (n : Nat) (x15 : D0) (x16 x17 : Int) (c2 c4 : D1), iter (rnd C k cd0 15 Q) n (St2 x15 x16 x17 c2 c4) = l0 k (fun c2 c4 => Q (.exit 0) (St4 c2 c4)) n x15 x16 x17 c2 c4
 | 0, _, _, _, _, _ => rfl
 | n + 1, x15, x16, x17, c2, c4 => (iter_succ _ _ _).trans ((l0s_eq k _ Q x15 x16 x17 c2 c4).trans (congrArg (fun N => l0s N (fun c2 c4 => Q (.exit 0) (St4 c2 c4)) x15 x16 x17 c2 c4) (by funext; exact l0_eq k Q n _ _ _ _ _)))
noncomputable def cd2 : Code := cR (cR (cR (cB Tryd.f14)))
def St5 (c2 c4 : D1) : St := stL 37 [(2, .ref 2 0 []), (4, .ref 4 0 [])] [(2, .cell T13 (.data T13 c2) false), (4, .cell T13 (.data T13 c4) false)]
def j1 {α : Type} (Rt : Int -> D1 -> Option α) (c2 c4 : D1) : Option α :=
 Rt 0 c2
theorem j1_eq {α : Type} (k : Nat) (Q : Ex -> St -> Option α) (c2 c4 : D1) :
  (den C k) cd2 Q (St5 c2 c4) = j1 (fun x5 c4 => Q .ret (St1 x5 c4)) c2 c4 := by
 have h : ∀ (D L : DT α), denJ D L Js C cd2 Q (St5 c2 c4) = j1 (fun x5 c4 => Q .ret (St1 x5 c4)) c2 c4 := by
  intro D L; kernel_rfl
 have h2 := via (k := k) h
 exact h2
theorem a0 {α : Type} (k : Nat) (Q : Ex -> St -> Option α) (x15 : D0) (x16 x17 : Int) (c2 c4 : D1) :
  (lp C k) cd0 (blkQ C 0 (sq (den C k) (lp C k) Js C cd2 Q)) (St2 x15 x16 x17 c2 c4) = l0 k (fun c2 c4 => j1 (fun x5 c4 => Q .ret (St1 x5 c4)) c2 c4) k x15 x16 x17 c2 c4 :=
 (lp_iter 15 (by kernel_rfl)).trans ((l0_eq k _ k x15 x16 x17 c2 c4).trans (congrArg (fun X => l0 k X k x15 x16 x17 c2 c4) (funext fun c2 => funext fun c4 => (Eq.trans (b := (den C k) cd2 Q (St5 c2 c4)) (by kernel_rfl) (by simp only [j1_eq])))))
def top {α : Type} (k : Nat) (Rt : Int -> D1 -> Option α) (x0 : D1) (x1 : D0) : Option α :=
 (keccak_check.run x0).bind fun y1 =>
 if (y1 != 0) = true then
  Rt y1 ((List.replicate 25 0), (List.replicate 136 0), 0, ())
 else
  l0 k (fun c2 c4 => j1 Rt c2 c4) k x1 (x1.length : Int) 0 x0 ((List.replicate 25 0), (List.replicate 136 0), 0, ())
theorem top_eq {α : Type} (k : Nat) (Q : Ex -> St -> Option α) (x0 : D1) (x1 : D0) :
  (den C k) (cB Tryd.f14) Q (St0 x0 x1) = top k (fun x5 c4 => Q .ret (St1 x5 c4)) x0 x1 := by
 have h : ∀ (D L : DT α), denJ D L Js C (cB Tryd.f14) Q (St0 x0 x1) =
    (keccak_check.run x0).bind fun y1 =>
    if (y1 != 0) = true then
     Q .ret (St1 y1 ((List.replicate 25 0), (List.replicate 136 0), 0, ()))
    else
     L cd0 (blkQ C 0 (sq D L Js C cd2 Q)) (St2 x1 (x1.length : Int) 0 x0 ((List.replicate 25 0), (List.replicate 136 0), 0, ())) := by
  intro D L; kernel_rfl
 have h2 := via (k := k) h
 refine h2.trans ?_
 simp only [a0]
 first | rfl | kernel_rfl
def run (x0 : D1) (x1 : D0) : Option D2 := top (α := D1 × Int × Unit) fuel (fun x5 c4 => some (c4, x5, ())) x0 x1
def F : Fn := ⟨T15, T16, true, fun x => run x.1 x.2.1⟩
theorem con : Con Tryd.prog 14 F :=
 con_of (C := C) (ctx_ok (by kernel_rfl) (by kernel_rfl) (by kernel_rfl) (by kernel_rfl) ⟨.inl ⟨keccak_check.con, keccak_check.named⟩, ⟨.inl ⟨keccak_soak.con, keccak_soak.named⟩, trivial⟩⟩) (by kernel_rfl) Tryd.func14 (c := cB Tryd.f14) (by kernel_rfl) (by kernel_rfl) F (fun x => by simp [F, spread, Tryd.ntmps14]) (fun x => (St0 x.1 x.2.1)) (fun x => by kernel_rfl) fun x => (top_eq fuel _ x.1 x.2.1).trans (by kernel_rfl)
theorem named : Named Tryd.prog 14 := named_of Tryd.func14 (by kernel_rfl) (by kernel_rfl)
end Go.Bx.keccak_Add
namespace Go.Bx.basculeref_Soaked
def Js : List Nat := [9, 14]
def C : Ctx := ⟨[(3, T1), (5, T9), (9, .str), (23, T4), (26, T12), (28, T13), (29, T10), (30, T1)], [], [], fnL [(44, basculeref_badSponge.F), (45, basculeref_soaked.F)], noSh, [], invL [], [(2, [4, 5]), (7, [4, 9]), (10, [4, 7, 9, 10]), (1, [4, 7, 8]), (4, [4, 7, 8]), (18, [4, 7, 8]), (24, [4, 7, 8]), (30, [4, 7, 9, 10]), (39, [4, 9])], [], [], 0, 0⟩
def St0 (x0 : D1) (x1 : D0) : St := stL 52 [(0, .data T13 x0), (1, .data T10 x1)] []
def St1 (x5 : Int) (c4 : D1) : St := stL 52 [(4, .ref 4 0 []), (5, .data T1 x5)] [(4, .cell T13 (.data T13 c4) false)]
def St2 (x7 : D0) (c4 : D1) (c8 : D0) : St := stL 52 [(4, .ref 4 0 []), (7, .data .str x7), (8, .ref 8 0 [])] [(4, .cell T13 (.data T13 c4) false), (8, .cell T4 (.data T4 c8) false)]
noncomputable def cd0 : Code := cL (cL (cL (cR (cR (cR (cR (cR (cB Tryd.f15))))))))
def St3 (x7 : D0) (c4 : D1) (c8 : D0) : St := stL 52 [(4, .ref 4 0 []), (7, .data .str x7), (8, .ref 8 0 [])] [(4, .cell T13 (.data T13 c4) false), (8, .cell T4 (.data T4 c8) false)]
def l0s {α : Type} (Nx : D0 -> D1 -> D0 -> Option α) (Xt0 : D0 -> D1 -> D0 -> Option α) (x7 : D0) (c4 : D1) (c8 : D0) : Option α :=
 if (decide ((x7.length : Int) >= 136)) = true then
  if 0 <= (0 : Int) /\ (0 : Int) <= (136 : Int) /\ (136 : Int) <= (x7.length : Int) then
   (basculeref_soaked.run c8 (cutL x7 0 136)).bind fun y2 =>
   if 0 <= (136 : Int) /\ (136 : Int) <= (x7.length : Int) /\ (x7.length : Int) <= (x7.length : Int) then
    Nx (cutL x7 136 (x7.length : Int)) c4 y2
   else none
  else none
 else
  Xt0 x7 c4 c8
theorem l0s_eq {α : Type} (k : Nat) (next : St -> Option α) (Q : Ex -> St -> Option α) (x7 : D0) (c4 : D1) (c8 : D0) :
  rnd C k cd0 18 Q next (St2 x7 c4 c8) = l0s (fun x7 c4 c8 => next (St2 x7 c4 c8)) (fun x7 c4 c8 => Q (.exit 0) (St3 x7 c4 c8)) x7 c4 c8 := by
 have h : ∀ (D L : DT α), denJ D L Js C cd0 (lq C 18 next Q) (St2 x7 c4 c8) = l0s (fun x7 c4 c8 => next (St2 x7 c4 c8)) (fun x7 c4 c8 => Q (.exit 0) (St3 x7 c4 c8)) x7 c4 c8 := by
  intro D L; kernel_rfl
 have h2 := via (k := k) h
 exact h2
def l0 {α : Type} (k : Nat) (Xt0 : D0 -> D1 -> D0 -> Option α) : Nat -> D0 -> D1 -> D0 -> Option α
 | 0, _, _, _ => none
 | n + 1, x7, c4, c8 => l0s (l0 k Xt0 n) Xt0 x7 c4 c8
theorem l0_eq {α : Type} (k : Nat) (Q : Ex -> St -> Option α) : ∀ (n : Nat) (x7 : D0) (c4 : D1) (c8 : D0), iter (rnd C k cd0 18 Q) n (St2 x7 c4 c8) = l0 k (fun x7 c4 c8 => Q (.exit 0) (St3 x7 c4 c8)) n x7 c4 c8
 | 0, _, _, _ => rfl
 | n + 1, x7, c4, c8 => (iter_succ _ _ _).trans ((l0s_eq k _ Q x7 c4 c8).trans (congrArg (fun N => l0s N (fun x7 c4 c8 => Q (.exit 0) (St3 x7 c4 c8)) x7 c4 c8) (by funext; exact l0_eq k Q n _ _ _)))
noncomputable def cd1 : Code := cR (cR (cR (cR (cR (cR (cB Tryd.f15))))))
def St4 (x7 : D0) (c4 : D1) (c8 : D0) : St := stL 52 [(4, .ref 4 0 []), (7, .data .str x7), (8, .ref 8 0 [])] [(4, .cell T13 (.data T13 c4) false), (8, .cell T4 (.data T4 c8) false)]
def St5 (x7 : D0) (x10 : Int) (c4 c9 : D1) : St := stL 52 [(4, .ref 4 0 []), (7, .data .str x7), (9, .ref 9 0 []), (10, .data T1 x10)] [(4, .cell T13 (.data T13 c4) false), (9, .cell T13 (.data T13 c9) false)]
noncomputable def cd2 : Code := cL (cL (cR (cL (cR (cR (cR (cR (cR (cR (cR (cB Tryd.f15)))))))))))
def St6 (c4 c9 : D1) : St := stL 52 [(4, .ref 4 0 []), (9, .ref 9 0 [])] [(4, .cell T13 (.data T13 c4) false), (9, .cell T13 (.data T13 c9) false)]
def l1s {α : Type} (Nx : D0 -> Int -> D1 -> D1 -> Option α) (Xt2 : D1 -> D1 -> Option α) (x7 : D0) (x10 : Int) (c4 c9 : D1) : Option α :=
 if (decide (x10 < (x7.length : Int))) = true then
  if 0 <= x10 /\ x10 < (x7.length : Int) then
   if 0 <= x10 /\ x10 < (136 : Int) then
    Nx x7 (IntKind.i64.wrap (x10 + 1)) c4 (c9.1, (List.set c9.2.1 (Int.toNat x10) (List.getD x7 (Int.toNat x10) 0)), c9.2.2)
   else none
  else none
 else
  Xt2 c4 c9
theorem l1s_eq {α : Type} (k : Nat) (next : St -> Option α) (Q : Ex -> St -> Option α) (x7 : D0) (x10 : Int) (c4 c9 : D1) :
  rnd C k cd2 30 Q next (St5 x7 x10 c4 c9) = l1s (fun x7 x10 c4 c9 => next (St5 x7 x10 c4 c9)) (fun c4 c9 => Q (.exit 2) (St6 c4 c9)) x7 x10 c4 c9 := by
 have h : ∀ (D L : DT α), denJ D L Js C cd2 (lq C 30 next Q) (St5 x7 x10 c4 c9) = l1s (fun x7 x10 c4 c9 => next (St5 x7 x10 c4 c9)) (fun c4 c9 => Q (.exit 2) (St6 c4 c9)) x7 x10 c4 c9 := by
  intro D L; kernel_rfl
 have h2 := via (k := k) h
 exact h2
def l1 {α : Type} (k : Nat) (Xt2 : D1 -> D1 -> Option α) : Nat -> D0 -> Int -> D1 -> D1 -> Option α
 | 0, _, _, _, _ => none
 | n + 1, x7, x10, c4, c9 => l1s (l1 k Xt2 n) Xt2 x7 x10 c4 c9
theorem l1_eq {α : Type} (k : Nat) (Q : Ex -> St -> Option α) : ∀ (n : Nat) (x7 : D0) (x10 : Int) (c4 c9 : D1), iter (rnd C k cd2 30 Q) n (St5 x7 x10 c4 c9) = l1 k (fun c4 c9 => Q (.exit 2) (St6 c4 c9)) n x7 x10 c4 c9
 | 0, _, _, _, _ => rfl
 | n + 1, x7, x10, c4, c9 => (iter_succ _ _ _).trans ((l1s_eq k _ Q x7 x10 c4 c9).trans (congrArg (fun N => l1s N (fun c4 c9 => Q (.exit 2) (St6 c4 c9)) x7 x10 c4 c9) (by funext; exact l1_eq k Q n _ _ _ _)))
noncomputable def cd3 : Code := cR (cR (cR (cR (cR (cR (cR (cR (cB Tryd.f15))))))))
def St7 (c4 c9 : D1) : St := stL 52 [(4, .ref 4 0 []), (9, .ref 9 0 [])] [(4, .cell T13 (.data T13 c4) false), (9, .cell T13 (.data T13 c9) false)]
def j1 {α : Type} (Rt : Int -> D1 -> Option α) (c4 c9 : D1) : Option α :=
 Rt 0 c9
theorem j1_eq {α : Type} (k : Nat) (Q : Ex -> St -> Option α) (c4 c9 : D1) :
  (den C k) cd3 Q (St7 c4 c9) = j1 (fun x5 c4 => Q .ret (St1 x5 c4)) c4 c9 := by
 have h : ∀ (D L : DT α), denJ D L Js C cd3 Q (St7 c4 c9) = j1 (fun x5 c4 => Q .ret (St1 x5 c4)) c4 c9 := by
  intro D L; kernel_rfl
 have h2 := via (k := k) h
 exact h2
theorem a0 {α : Type} (k : Nat) (Q : Ex -> St -> Option α) (x7 : D0) (x10 : Int) (c4 c9 : D1) :
  (lp C k) cd2 (blkQ C 2 (sq (den C k) (lp C k) Js C cd3 Q)) (St5 x7 x10 c4 c9) = l1 k (fun c4 c9 => j1 (fun x5 c4 => Q .ret (St1 x5 c4)) c4 c9) k x7 x10 c4 c9 :=
 (lp_iter 30 (by kernel_rfl)).trans ((l1_eq k _ k x7 x10 c4 c9).trans (congrArg (fun X => l1 k X k x7 x10 c4 c9) (funext fun c4 => funext fun c9 => (Eq.trans (b := (den C k) cd3 Q (St7 c4 c9)) (by kernel_rfl) (by simp only [j1_eq])))))
def j0 {α : Type} (k : Nat) (Rt : Int -> D1 -> Option α) (x7 : D0) (c4 : D1) (c8 : D0) : Option α :=
 l1 k (fun c4 c9 => j1 Rt c4 c9) k x7 0 c4 (c8, (List.replicate 136 0), (x7.length : Int), ())
theorem j0_eq {α : Type} (k : Nat) (Q : Ex -> St -> Option α) (x7 : D0) (c4 : D1) (c8 : D0) :
  (den C k) cd1 Q (St4 x7 c4 c8) = j0 k (fun x5 c4 => Q .ret (St1 x5 c4)) x7 c4 c8 := by
 have h : ∀ (D L : DT α), denJ D L Js C cd1 Q (St4 x7 c4 c8) =
    L cd2 (blkQ C 2 (sq D L Js C cd3 Q)) (St5 x7 0 c4 (c8, (List.replicate 136 0), (x7.length : Int), ())) := by
  intro D L; kernel_rfl
 have h2 := via (k := k) h
 refine h2.trans ?_
 simp only [a0]
 first | rfl | kernel_rfl
theorem a1 {α : Type} (k : Nat) (Q : Ex -> St -> Option α) (x7 : D0) (c4 : D1) (c8 : D0) :
  (lp C k) cd0 (blkQ C 0 (sq (den C k) (lp C k) Js C cd1 Q)) (St2 x7 c4 c8) = l0 k (fun x7 c4 c8 => j0 k (fun x5 c4 => Q .ret (St1 x5 c4)) x7 c4 c8) k x7 c4 c8 :=
 (lp_iter 18 (by kernel_rfl)).trans ((l0_eq k _ k x7 c4 c8).trans (congrArg (fun X => l0 k X k x7 c4 c8) (funext fun x7 => funext fun c4 => funext fun c8 => (Eq.trans (b := (den C k) cd1 Q (St4 x7 c4 c8)) (by kernel_rfl) (by simp only [j0_eq])))))
def top {α : Type} (k : Nat) (Rt : Int -> D1 -> Option α) (x0 : D1) (x1 : D0) : Option α :=
 (basculeref_badSponge.run x0).bind fun y1 =>
 if y1 = true then
  Rt 12 ((List.replicate 25 0), (List.replicate 136 0), 0, ())
 else
  if 0 <= (0 : Int) /\ (0 : Int) <= x0.2.2.1 /\ x0.2.2.1 <= ((cutL x0.2.1 0 136).length : Int) then
   if Nat.ble ((cutL (cutL x0.2.1 0 136) 0 x0.2.2.1).length + x1.length) 9223372036854775807 = true then
    l0 k (fun x7 c4 c8 => j0 k Rt x7 c4 c8) k ((cutL (cutL x0.2.1 0 136) 0 x0.2.2.1) ++ x1) ((List.replicate 25 0), (List.replicate 136 0), 0, ()) x0.1
   else none
  else none
theorem top_eq {α : Type} (k : Nat) (Q : Ex -> St -> Option α) (x0 : D1) (x1 : D0) :
  (den C k) (cB Tryd.f15) Q (St0 x0 x1) = top k (fun x5 c4 => Q .ret (St1 x5 c4)) x0 x1 := by
 have h : ∀ (D L : DT α), denJ D L Js C (cB Tryd.f15) Q (St0 x0 x1) =
    (basculeref_badSponge.run x0).bind fun y1 =>
    if y1 = true then
     Q .ret (St1 12 ((List.replicate 25 0), (List.replicate 136 0), 0, ()))
    else
     if 0 <= (0 : Int) /\ (0 : Int) <= x0.2.2.1 /\ x0.2.2.1 <= ((cutL x0.2.1 0 136).length : Int) then
      if Nat.ble ((cutL (cutL x0.2.1 0 136) 0 x0.2.2.1).length + x1.length) 9223372036854775807 = true then
       L cd0 (blkQ C 0 (sq D L Js C cd1 Q)) (St2 ((cutL (cutL x0.2.1 0 136) 0 x0.2.2.1) ++ x1) ((List.replicate 25 0), (List.replicate 136 0), 0, ()) x0.1)
      else none
     else none := by
  intro D L; kernel_rfl
 have h2 := via (k := k) h
 refine h2.trans ?_
 simp only [a1]
 first | rfl | kernel_rfl
def run (x0 : D1) (x1 : D0) : Option D2 := top (α := D1 × Int × Unit) fuel (fun x5 c4 => some (c4, x5, ())) x0 x1
def F : Fn := ⟨T15, T16, true, fun x => run x.1 x.2.1⟩
theorem con : Con Tryd.prog 15 F :=
 con_of (C := C) (ctx_ok (by kernel_rfl) (by kernel_rfl) (by kernel_rfl) (by kernel_rfl) ⟨.inl ⟨basculeref_badSponge.con, basculeref_badSponge.named⟩, ⟨.inl ⟨basculeref_soaked.con, basculeref_soaked.named⟩, trivial⟩⟩) (by kernel_rfl) Tryd.func15 (c := cB Tryd.f15) (by kernel_rfl) (by kernel_rfl) F (fun x => by simp [F, spread, Tryd.ntmps15]) (fun x => (St0 x.1 x.2.1)) (fun x => by kernel_rfl) fun x => (top_eq fuel _ x.1 x.2.1).trans (by kernel_rfl)
theorem named : Named Tryd.prog 15 := named_of Tryd.func15 (by kernel_rfl) (by kernel_rfl)
end Go.Bx.basculeref_Soaked
namespace Go.Bx.keccak_End
def Js : List Nat := [14]
def C : Ctx := ⟨[(3, T1), (5, T9), (22, T2), (23, T4), (26, T12), (28, T13), (30, T1), (35, T18)], [], [], fnL [(42, keccak_check.F), (43, keccak_soak.F)], noSh, [], invL [], [(2, [2, 3]), (1, [2, 5]), (4, [1, 2, 5, 25]), (27, [1, 2, 5, 25]), (39, [2, 5])], [], [], 0, 0⟩
def St0 (x0 : D1) : St := stL 42 [(0, .data T13 x0)] []
def St1 (x3 : Int) (c2 : D0) : St := stL 42 [(2, .ref 2 0 []), (3, .data T1 x3)] [(2, .cell T18 (.data T18 c2) false)]
def St2 (x25 : Int) (c1 : D1) (c2 c5 : D0) : St := stL 42 [(1, .ref 1 0 []), (2, .ref 2 0 []), (5, .ref 5 0 []), (25, .data T1 x25)] [(1, .cell T13 (.data T13 c1) false), (2, .cell T18 (.data T18 c2) false), (5, .cell T18 (.data T18 c5) false)]
noncomputable def cd0 : Code := cL (cL (cR (cL (cR (cR (cR (cR (cR (cR (cB Tryd.f17))))))))))
def St3 (c2 c5 : D0) : St := stL 42 [(2, .ref 2 0 []), (5, .ref 5 0 [])] [(2, .cell T18 (.data T18 c2) false), (5, .cell T18 (.data T18 c5) false)]
def l0s {α : Type} (Nx : Int -> D1 -> D0 -> D0 -> Option α) (Xt0 : D0 -> D0 -> Option α) (x25 : Int) (c1 : D1) (c2 c5 : D0) : Option α :=
 if (decide (x25 < 32)) = true then
  if 0 <= (IntKind.i64.wrap (Int.tdiv x25 8)) /\ (IntKind.i64.wrap (Int.tdiv x25 8)) < (25 : Int) then
   if 0 <= (IntKind.i64.wrap (8 * (Int.tmod x25 8))) then
    if 0 <= x25 /\ x25 < (32 : Int) then
     Nx (IntKind.i64.wrap (x25 + 1)) c1 c2 (List.set c5 (Int.toNat x25) (IntKind.u8.wrap (shrI .u64 (List.getD c1.1 (Int.toNat (IntKind.i64.wrap (Int.tdiv x25 8))) 0) (IntKind.i64.wrap (8 * (Int.tmod x25 8))))))
    else none
   else none
  else none
 else
  Xt0 c2 c5
theorem l0s_eq {α : Type} (k : Nat) (next : St -> Option α) (Q : Ex -> St -> Option α) (x25 : Int) (c1 : D1) (c2 c5 : D0) :
  rnd C k cd0 27 Q next (St2 x25 c1 c2 c5) = l0s (fun x25 c1 c2 c5 => next (St2 x25 c1 c2 c5)) (fun c2 c5 => Q (.exit 0) (St3 c2 c5)) x25 c1 c2 c5 := by
 have h : ∀ (D L : DT α), denJ D L Js C cd0 (lq C 27 next Q) (St2 x25 c1 c2 c5) = l0s (fun x25 c1 c2 c5 => next (St2 x25 c1 c2 c5)) (fun c2 c5 => Q (.exit 0) (St3 c2 c5)) x25 c1 c2 c5 := by
  intro D L; kernel_rfl
 have h2 := via (k := k) h
 exact h2
def l0 {α : Type} (k : Nat) (Xt0 : D0 -> D0 -> Option α) : Nat -> Int -> D1 -> D0 -> D0 -> Option α
 | 0, _, _, _, _ => none
 | n + 1, x25, c1, c2, c5 => l0s (l0 k Xt0 n) Xt0 x25 c1 c2 c5
theorem l0_eq {α : Type} (k : Nat) (Q : Ex -> St -> Option α) : ∀ (n : Nat) (x25 : Int) (c1 : D1) (c2 c5 : D0), iter (rnd C k cd0 27 Q) n (St2 x25 c1 c2 c5) = l0 k (fun c2 c5 => Q (.exit 0) (St3 c2 c5)) n x25 c1 c2 c5
 | 0, _, _, _, _ => rfl
 | n + 1, x25, c1, c2, c5 => (iter_succ _ _ _).trans ((l0s_eq k _ Q x25 c1 c2 c5).trans (congrArg (fun N => l0s N (fun c2 c5 => Q (.exit 0) (St3 c2 c5)) x25 c1 c2 c5) (by funext; exact l0_eq k Q n _ _ _ _)))
noncomputable def cd1 : Code := cR (cR (cR (cR (cR (cR (cR (cB Tryd.f17)))))))
def St4 (c2 c5 : D0) : St := stL 42 [(2, .ref 2 0 []), (5, .ref 5 0 [])] [(2, .cell T18 (.data T18 c2) false), (5, .cell T18 (.data T18 c5) false)]
def j0 {α : Type} (Rt : Int -> D0 -> Option α) (c2 c5 : D0) : Option α :=
 Rt 0 c5
theorem j0_eq {α : Type} (k : Nat) (Q : Ex -> St -> Option α) (c2 c5 : D0) :
  (den C k) cd1 Q (St4 c2 c5) = j0 (fun x3 c2 => Q .ret (St1 x3 c2)) c2 c5 := by
 have h : ∀ (D L : DT α), denJ D L Js C cd1 Q (St4 c2 c5) = j0 (fun x3 c2 => Q .ret (St1 x3 c2)) c2 c5 := by
  intro D L; kernel_rfl
 have h2 := via (k := k) h
 exact h2
theorem a0 {α : Type} (k : Nat) (Q : Ex -> St -> Option α) (x25 : Int) (c1 : D1) (c2 c5 : D0) :
  (lp C k) cd0 (blkQ C 0 (sq (den C k) (lp C k) Js C cd1 Q)) (St2 x25 c1 c2 c5) = l0 k (fun c2 c5 => j0 (fun x3 c2 => Q .ret (St1 x3 c2)) c2 c5) k x25 c1 c2 c5 :=
 (lp_iter 27 (by kernel_rfl)).trans ((l0_eq k _ k x25 c1 c2 c5).trans (congrArg (fun X => l0 k X k x25 c1 c2 c5) (funext fun c2 => funext fun c5 => (Eq.trans (b := (den C k) cd1 Q (St4 c2 c5)) (by kernel_rfl) (by simp only [j0_eq])))))
def top {α : Type} (k : Nat) (Rt : Int -> D0 -> Option α) (x0 : D1) : Option α :=
 (keccak_check.run x0).bind fun y1 =>
 if (y1 != 0) = true then
  Rt y1 (List.replicate 32 0)
 else
  if 0 <= x0.2.2.1 /\ x0.2.2.1 < (136 : Int) then
   (keccak_soak.run (x0.1, (List.set (List.set x0.2.1 (Int.toNat x0.2.2.1) 1) 135 (bor .u8 (List.getD (List.set x0.2.1 (Int.toNat x0.2.2.1) 1) 135 0) 128)), x0.2.2)).bind fun y2 =>
   l0 k (fun c2 c5 => j0 Rt c2 c5) k 0 y2 (List.replicate 32 0) (List.replicate 32 0)
  else none
theorem top_eq {α : Type} (k : Nat) (Q : Ex -> St -> Option α) (x0 : D1) :
  (den C k) (cB Tryd.f17) Q (St0 x0) = top k (fun x3 c2 => Q .ret (St1 x3 c2)) x0 := by
 have h : ∀ (D L : DT α), denJ D L Js C (cB Tryd.f17) Q (St0 x0) =
    (keccak_check.run x0).bind fun y1 =>
    if (y1 != 0) = true then
     Q .ret (St1 y1 (List.replicate 32 0))
    else
     if 0 <= x0.2.2.1 /\ x0.2.2.1 < (136 : Int) then
      (keccak_soak.run (x0.1, (List.set (List.set x0.2.1 (Int.toNat x0.2.2.1) 1) 135 (bor .u8 (List.getD (List.set x0.2.1 (Int.toNat x0.2.2.1) 1) 135 0) 128)), x0.2.2)).bind fun y2 =>
      L cd0 (blkQ C 0 (sq D L Js C cd1 Q)) (St2 0 y2 (List.replicate 32 0) (List.replicate 32 0))
     else none := by
  intro D L; kernel_rfl
 have h2 := via (k := k) h
 refine h2.trans ?_
 simp only [a0]
 first | rfl | kernel_rfl
def run (x0 : D1) : Option D3 := top (α := List Int × Int × Unit) fuel (fun x3 c2 => some (c2, x3, ())) x0
def F : Fn := ⟨T14, T19, true, fun x => run x.1⟩
theorem con : Con Tryd.prog 17 F :=
 con_of (C := C) (ctx_ok (by kernel_rfl) (by kernel_rfl) (by kernel_rfl) (by kernel_rfl) ⟨.inl ⟨keccak_check.con, keccak_check.named⟩, ⟨.inl ⟨keccak_soak.con, keccak_soak.named⟩, trivial⟩⟩) (by kernel_rfl) Tryd.func17 (c := cB Tryd.f17) (by kernel_rfl) (by kernel_rfl) F (fun x => by simp [F, spread, Tryd.ntmps17]) (fun x => (St0 x.1)) (fun x => by kernel_rfl) fun x => (top_eq fuel _ x.1).trans (by kernel_rfl)
theorem named : Named Tryd.prog 17 := named_of Tryd.func17 (by kernel_rfl) (by kernel_rfl)
end Go.Bx.keccak_End
namespace Go.Bx.basculeref_Wrung
def Js : List Nat := [14]
def C : Ctx := ⟨[(3, T1), (5, T9), (9, .str), (22, T2), (23, T4), (26, T12), (28, T13), (29, T10), (30, T1), (35, T18)], [], [], fnL [(44, basculeref_badSponge.F), (45, basculeref_soaked.F)], noSh, [], invL [], [(2, [2, 3]), (1, [2, 6]), (4, [2, 5, 6, 28]), (27, [2, 5, 6, 28]), (39, [2, 6])], [], [], 0, 0⟩
def St0 (x0 : D1) : St := stL 44 [(0, .data T13 x0)] []
def St1 (x3 : Int) (c2 : D0) : St := stL 44 [(2, .ref 2 0 []), (3, .data T1 x3)] [(2, .cell T18 (.data T18 c2) false)]
def St2 (x28 : Int) (c2 c5 c6 : D0) : St := stL 44 [(2, .ref 2 0 []), (5, .ref 5 0 []), (6, .ref 6 0 []), (28, .data T1 x28)] [(2, .cell T18 (.data T18 c2) false), (5, .cell T4 (.data T4 c5) false), (6, .cell T18 (.data T18 c6) false)]
noncomputable def cd0 : Code := cL (cL (cR (cL (cR (cR (cR (cR (cR (cR (cR (cB Tryd.f18)))))))))))
def St3 (c2 c6 : D0) : St := stL 44 [(2, .ref 2 0 []), (6, .ref 6 0 [])] [(2, .cell T18 (.data T18 c2) false), (6, .cell T18 (.data T18 c6) false)]
def l0s {α : Type} (Nx : Int -> D0 -> D0 -> D0 -> Option α) (Xt0 : D0 -> D0 -> Option α) (x28 : Int) (c2 c5 c6 : D0) : Option α :=
 if (decide (x28 < 32)) = true then
  if 0 <= (IntKind.i64.wrap (Int.tdiv x28 8)) /\ (IntKind.i64.wrap (Int.tdiv x28 8)) < (25 : Int) then
   if 0 <= (IntKind.i64.wrap ((Int.tmod x28 8) * 8)) then
    if 0 <= x28 /\ x28 < (32 : Int) then
     Nx (IntKind.i64.wrap (x28 + 1)) c2 c5 (List.set c6 (Int.toNat x28) (IntKind.u8.wrap (shrI .u64 (List.getD c5 (Int.toNat (IntKind.i64.wrap (Int.tdiv x28 8))) 0) (IntKind.i64.wrap ((Int.tmod x28 8) * 8)))))
    else none
   else none
  else none
 else
  Xt0 c2 c6
theorem l0s_eq {α : Type} (k : Nat) (next : St -> Option α) (Q : Ex -> St -> Option α) (x28 : Int) (c2 c5 c6 : D0) :
  rnd C k cd0 27 Q next (St2 x28 c2 c5 c6) = l0s (fun x28 c2 c5 c6 => next (St2 x28 c2 c5 c6)) (fun c2 c6 => Q (.exit 0) (St3 c2 c6)) x28 c2 c5 c6 := by
 have h : ∀ (D L : DT α), denJ D L Js C cd0 (lq C 27 next Q) (St2 x28 c2 c5 c6) = l0s (fun x28 c2 c5 c6 => next (St2 x28 c2 c5 c6)) (fun c2 c6 => Q (.exit 0) (St3 c2 c6)) x28 c2 c5 c6 := by
  intro D L; kernel_rfl
 have h2 := via (k := k) h
 exact h2
def l0 {α : Type} (k : Nat) (Xt0 : D0 -> D0 -> Option α) : Nat -> Int -> D0 -> D0 -> D0 -> Option α
 | 0, _, _, _, _ => none
 | n + 1, x28, c2, c5, c6 => l0s (l0 k Xt0 n) Xt0 x28 c2 c5 c6
theorem l0_eq {α : Type} (k : Nat) (Q : Ex -> St -> Option α) : ∀ (n : Nat) (x28 : Int) (c2 c5 c6 : D0), iter (rnd C k cd0 27 Q) n (St2 x28 c2 c5 c6) = l0 k (fun c2 c6 => Q (.exit 0) (St3 c2 c6)) n x28 c2 c5 c6
 | 0, _, _, _, _ => rfl
 | n + 1, x28, c2, c5, c6 => (iter_succ _ _ _).trans ((l0s_eq k _ Q x28 c2 c5 c6).trans (congrArg (fun N => l0s N (fun c2 c6 => Q (.exit 0) (St3 c2 c6)) x28 c2 c5 c6) (by funext; exact l0_eq k Q n _ _ _ _)))
noncomputable def cd1 : Code := cR (cR (cR (cR (cR (cR (cR (cR (cB Tryd.f18))))))))
def St4 (c2 c6 : D0) : St := stL 44 [(2, .ref 2 0 []), (6, .ref 6 0 [])] [(2, .cell T18 (.data T18 c2) false), (6, .cell T18 (.data T18 c6) false)]
def j0 {α : Type} (Rt : Int -> D0 -> Option α) (c2 c6 : D0) : Option α :=
 Rt 0 c6
theorem j0_eq {α : Type} (k : Nat) (Q : Ex -> St -> Option α) (c2 c6 : D0) :
  (den C k) cd1 Q (St4 c2 c6) = j0 (fun x3 c2 => Q .ret (St1 x3 c2)) c2 c6 := by
 have h : ∀ (D L : DT α), denJ D L Js C cd1 Q (St4 c2 c6) = j0 (fun x3 c2 => Q .ret (St1 x3 c2)) c2 c6 := by
  intro D L; kernel_rfl
 have h2 := via (k := k) h
 exact h2
theorem a0 {α : Type} (k : Nat) (Q : Ex -> St -> Option α) (x28 : Int) (c2 c5 c6 : D0) :
  (lp C k) cd0 (blkQ C 0 (sq (den C k) (lp C k) Js C cd1 Q)) (St2 x28 c2 c5 c6) = l0 k (fun c2 c6 => j0 (fun x3 c2 => Q .ret (St1 x3 c2)) c2 c6) k x28 c2 c5 c6 :=
 (lp_iter 27 (by kernel_rfl)).trans ((l0_eq k _ k x28 c2 c5 c6).trans (congrArg (fun X => l0 k X k x28 c2 c5 c6) (funext fun c2 => funext fun c6 => (Eq.trans (b := (den C k) cd1 Q (St4 c2 c6)) (by kernel_rfl) (by simp only [j0_eq])))))
def top {α : Type} (k : Nat) (Rt : Int -> D0 -> Option α) (x0 : D1) : Option α :=
 (basculeref_badSponge.run x0).bind fun y1 =>
 if y1 = true then
  Rt 12 (List.replicate 32 0)
 else
  if 0 <= x0.2.2.1 /\ x0.2.2.1 < (136 : Int) then
   if 0 <= x0.2.2.1 /\ x0.2.2.1 < (136 : Int) then
    (basculeref_soaked.run x0.1 (cutL (List.set (List.set x0.2.1 (Int.toNat x0.2.2.1) (bxor .u8 (List.getD x0.2.1 (Int.toNat x0.2.2.1) 0) 1)) 135 (bxor .u8 (List.getD (List.set x0.2.1 (Int.toNat x0.2.2.1) (bxor .u8 (List.getD x0.2.1 (Int.toNat x0.2.2.1) 0) 1)) 135 0) 128)) 0 136)).bind fun y2 =>
    l0 k (fun c2 c6 => j0 Rt c2 c6) k 0 (List.replicate 32 0) y2 (List.replicate 32 0)
   else none
  else none
theorem top_eq {α : Type} (k : Nat) (Q : Ex -> St -> Option α) (x0 : D1) :
  (den C k) (cB Tryd.f18) Q (St0 x0) = top k (fun x3 c2 => Q .ret (St1 x3 c2)) x0 := by
 have h : ∀ (D L : DT α), denJ D L Js C (cB Tryd.f18) Q (St0 x0) =
    (basculeref_badSponge.run x0).bind fun y1 =>
    if y1 = true then
     Q .ret (St1 12 (List.replicate 32 0))
    else
     if 0 <= x0.2.2.1 /\ x0.2.2.1 < (136 : Int) then
      if 0 <= x0.2.2.1 /\ x0.2.2.1 < (136 : Int) then
       (basculeref_soaked.run x0.1 (cutL (List.set (List.set x0.2.1 (Int.toNat x0.2.2.1) (bxor .u8 (List.getD x0.2.1 (Int.toNat x0.2.2.1) 0) 1)) 135 (bxor .u8 (List.getD (List.set x0.2.1 (Int.toNat x0.2.2.1) (bxor .u8 (List.getD x0.2.1 (Int.toNat x0.2.2.1) 0) 1)) 135 0) 128)) 0 136)).bind fun y2 =>
       L cd0 (blkQ C 0 (sq D L Js C cd1 Q)) (St2 0 (List.replicate 32 0) y2 (List.replicate 32 0))
      else none
     else none := by
  intro D L; kernel_rfl
 have h2 := via (k := k) h
 refine h2.trans ?_
 simp only [a0]
 first | rfl | kernel_rfl
def run (x0 : D1) : Option D3 := top (α := List Int × Int × Unit) fuel (fun x3 c2 => some (c2, x3, ())) x0
def F : Fn := ⟨T14, T19, true, fun x => run x.1⟩
theorem con : Con Tryd.prog 18 F :=
 con_of (C := C) (ctx_ok (by kernel_rfl) (by kernel_rfl) (by kernel_rfl) (by kernel_rfl) ⟨.inl ⟨basculeref_badSponge.con, basculeref_badSponge.named⟩, ⟨.inl ⟨basculeref_soaked.con, basculeref_soaked.named⟩, trivial⟩⟩) (by kernel_rfl) Tryd.func18 (c := cB Tryd.f18) (by kernel_rfl) (by kernel_rfl) F (fun x => by simp [F, spread, Tryd.ntmps18]) (fun x => (St0 x.1)) (fun x => by kernel_rfl) fun x => (top_eq fuel _ x.1).trans (by kernel_rfl)
theorem named : Named Tryd.prog 18 := named_of Tryd.func18 (by kernel_rfl) (by kernel_rfl)
end Go.Bx.basculeref_Wrung
namespace Go.Bx.keccak_Begin
def Js : List Nat := []
def C : Ctx := ⟨[(28, T13)], [], [], fnL [], noSh, [], invL [], [(2, [0])], [], [], 0, 0⟩
def St0 : St := stL 2 [] []
def St1 (c0 : D1) : St := stL 2 [(0, .ref 0 0 [])] [(0, .cell T13 (.data T13 c0) false)]
def top {α : Type} (Rt : D1 -> Option α) : Option α :=
 Rt ((List.replicate 25 0), (List.replicate 136 0), 0, ())
theorem top_eq {α : Type} (k : Nat) (Q : Ex -> St -> Option α) :
  (den C k) (cB Tryd.f16) Q St0 = top (fun c0 => Q .ret (St1 c0)) := by
 have h : ∀ (D L : DT α), denJ D L Js C (cB Tryd.f16) Q St0 = top (fun c0 => Q .ret (St1 c0)) := by
  intro D L; kernel_rfl
 have h2 := via (k := k) h
 exact h2
def run : Option D1 := top (α := List Int × List Int × Int × Unit) (fun c0 => some c0)
def F : Fn := ⟨.unit, T13, false, fun x => run⟩
theorem con : Con Tryd.prog 16 F :=
 con_of (C := C) (ctx_ok (by kernel_rfl) (by kernel_rfl) (by kernel_rfl) (by kernel_rfl) trivial) (by kernel_rfl) Tryd.func16 (c := cB Tryd.f16) (by kernel_rfl) (by kernel_rfl) F (fun x => by simp [F, spread, Tryd.ntmps16]) (fun x => St0) (fun x => by kernel_rfl) fun x => (top_eq fuel _).trans (by kernel_rfl)
theorem named : Named Tryd.prog 16 := named_of Tryd.func16 (by kernel_rfl) (by kernel_rfl)
end Go.Bx.keccak_Begin
namespace Go.Bx.keccak_Sum
def Js : List Nat := []
def C : Ctx := ⟨[(28, T13), (29, T10), (35, T18)], [], [], fnL [(14, keccak_Add.F), (16, keccak_Begin.F), (17, keccak_End.F)], noSh, [], invL [], [(2, [2])], [], [], 0, 0⟩
def St0 (x0 : D0) : St := stL 19 [(0, .data T10 x0)] []
def St1 (c2 : D0) : St := stL 19 [(2, .ref 2 0 [])] [(2, .cell T18 (.data T18 c2) false)]
def top {α : Type} (Rt : D0 -> Option α) (x0 : D0) : Option α :=
 (keccak_Begin.run).bind fun y1 =>
 (keccak_Add.run y1 x0).bind fun y2 =>
 (keccak_End.run y2.1).bind fun y3 =>
 Rt y3.1
theorem top_eq {α : Type} (k : Nat) (Q : Ex -> St -> Option α) (x0 : D0) :
  (den C k) (cB Tryd.f19) Q (St0 x0) = top (fun c2 => Q .ret (St1 c2)) x0 := by
 have h : ∀ (D L : DT α), denJ D L Js C (cB Tryd.f19) Q (St0 x0) = top (fun c2 => Q .ret (St1 c2)) x0 := by
  intro D L; kernel_rfl
 have h2 := via (k := k) h
 exact h2
def run (x0 : D0) : Option D0 := top (α := List Int) (fun c2 => some c2) x0
def F : Fn := ⟨T20, T18, false, fun x => run x.1⟩
theorem con : Con Tryd.prog 19 F :=
 con_of (C := C) (ctx_ok (by kernel_rfl) (by kernel_rfl) (by kernel_rfl) (by kernel_rfl) ⟨.inl ⟨keccak_Add.con, keccak_Add.named⟩, ⟨.inl ⟨keccak_Begin.con, keccak_Begin.named⟩, ⟨.inl ⟨keccak_End.con, keccak_End.named⟩, trivial⟩⟩⟩) (by kernel_rfl) Tryd.func19 (c := cB Tryd.f19) (by kernel_rfl) (by kernel_rfl) F (fun x => by simp [F, spread, Tryd.ntmps19]) (fun x => (St0 x.1)) (fun x => by kernel_rfl) fun x => (top_eq fuel _ x.1).trans (by kernel_rfl)
theorem named : Named Tryd.prog 19 := named_of Tryd.func19 (by kernel_rfl) (by kernel_rfl)
end Go.Bx.keccak_Sum
namespace Go.Bx.basculeref_Hash
def Js : List Nat := []
def C : Ctx := ⟨[(9, .str), (28, T13), (29, T10), (35, T18)], [], [], fnL [(15, basculeref_Soaked.F), (18, basculeref_Wrung.F)], noSh, [], invL [], [(2, [2])], [], [], 0, 0⟩
def St0 (x0 : D0) : St := stL 20 [(0, .data .str x0)] []
def St1 (c2 : D0) : St := stL 20 [(2, .ref 2 0 [])] [(2, .cell T18 (.data T18 c2) false)]
def top {α : Type} (Rt : D0 -> Option α) (x0 : D0) : Option α :=
 (basculeref_Soaked.run ((List.replicate 25 0), (List.replicate 136 0), 0, ()) x0).bind fun y1 =>
 (basculeref_Wrung.run y1.1).bind fun y2 =>
 Rt y2.1
theorem top_eq {α : Type} (k : Nat) (Q : Ex -> St -> Option α) (x0 : D0) :
  (den C k) (cB Tryd.f20) Q (St0 x0) = top (fun c2 => Q .ret (St1 c2)) x0 := by
 have h : ∀ (D L : DT α), denJ D L Js C (cB Tryd.f20) Q (St0 x0) = top (fun c2 => Q .ret (St1 c2)) x0 := by
  intro D L; kernel_rfl
 have h2 := via (k := k) h
 exact h2
def run (x0 : D0) : Option D0 := top (α := List Int) (fun c2 => some c2) x0
def F : Fn := ⟨T21, T18, false, fun x => run x.1⟩
theorem con : Con Tryd.prog 20 F :=
 con_of (C := C) (ctx_ok (by kernel_rfl) (by kernel_rfl) (by kernel_rfl) (by kernel_rfl) ⟨.inl ⟨basculeref_Soaked.con, basculeref_Soaked.named⟩, ⟨.inl ⟨basculeref_Wrung.con, basculeref_Wrung.named⟩, trivial⟩⟩) (by kernel_rfl) Tryd.func20 (c := cB Tryd.f20) (by kernel_rfl) (by kernel_rfl) F (fun x => by simp [F, spread, Tryd.ntmps20]) (fun x => (St0 x.1)) (fun x => by kernel_rfl) fun x => (top_eq fuel _ x.1).trans (by kernel_rfl)
theorem named : Named Tryd.prog 20 := named_of Tryd.func20 (by kernel_rfl) (by kernel_rfl)
end Go.Bx.basculeref_Hash
namespace Go.Bx.paper_Bytes
def Js : List Nat := []
def C : Ctx := ⟨[(29, T10), (30, T1), (43, T23), (97, T20)], [], [], fnL [(46, paper_Check.F)], shL [(47, [.one paper_pen__body_s0.Sp])], [(15, 21)], invL [], [(2, [2, 3])], [(2, [.dat true 2 []])], [], 0, 0⟩
def St0 (x0 : D4) : St := stL 20 [(0, .data T23 x0)] []
def St1 (x2 : D0) (x3 : Int) : St := stL 20 [(2, .data T10 x2), (3, .data T1 x3)] []
def top {α : Type} (Rt : D0 -> Int -> Option α) (x0 : D4) : Option α :=
 (paper_Check.run x0).bind fun y1 =>
 if (y1 != 0) = true then
  Rt [] y1
 else
  (paper_pen__body_s0.run x0 []).bind fun y2 =>
  Rt y2.1 0
theorem top_eq {α : Type} (k : Nat) (Q : Ex -> St -> Option α) (x0 : D4) :
  (den C k) (cB Tryd.f21) Q (St0 x0) = top (fun x2 x3 => Q .ret (St1 x2 x3)) x0 := by
 have h : ∀ (D L : DT α), denJ D L Js C (cB Tryd.f21) Q (St0 x0) = top (fun x2 x3 => Q .ret (St1 x2 x3)) x0 := by
  intro D L; kernel_rfl
 have h2 := via (k := k) h
 exact h2
def run (x0 : D4) : Option D3 := top (α := List Int × Int × Unit) (fun x2 x3 => some (x2, x3, ())) x0
def F : Fn := ⟨T24, T29, true, fun x => run x.1⟩
theorem con : Con Tryd.prog 21 F :=
 con_of (C := C) (ctx_ok_sh (by kernel_rfl) (by kernel_rfl) (by kernel_rfl) (by kernel_rfl) ⟨.inl ⟨paper_Check.con, paper_Check.named⟩, trivial⟩ ⟨⟨⟨paper_pen__body_s0.sok, trivial⟩, paper_pen__body_s0.named⟩, trivial⟩) (by kernel_rfl) Tryd.func21 (c := cB Tryd.f21) (by kernel_rfl) (by kernel_rfl) F (fun x => by simp [F, spread, Tryd.ntmps21]) (fun x => (St0 x.1)) (fun x => by kernel_rfl) fun x => (top_eq fuel _ x.1).trans (by kernel_rfl)
theorem named : Named Tryd.prog 21 := named_of Tryd.func21 (by kernel_rfl) (by kernel_rfl)
end Go.Bx.paper_Bytes
namespace Go.Bx.paper_Sum
def Js : List Nat := []
def C : Ctx := ⟨[(30, T1), (35, T18), (43, T23)], [], [], fnL [(19, keccak_Sum.F), (21, paper_Bytes.F)], noSh, [], invL [], [(2, [2, 3])], [], [], 0, 0⟩
def St0 (x0 : D4) : St := stL 20 [(0, .data T23 x0)] []
def St1 (x3 : Int) (c2 : D0) : St := stL 20 [(2, .ref 2 0 []), (3, .data T1 x3)] [(2, .cell T18 (.data T18 c2) false)]
def top {α : Type} (Rt : Int -> D0 -> Option α) (x0 : D4) : Option α :=
 (paper_Bytes.run x0).bind fun y1 =>
 if (y1.2.1 != 0) = true then
  Rt y1.2.1 (List.replicate 32 0)
 else
  (keccak_Sum.run y1.1).bind fun y2 =>
  (keccak_Sum.run (cutL y2 0 32)).bind fun y3 =>
  Rt 0 y3
theorem top_eq {α : Type} (k : Nat) (Q : Ex -> St -> Option α) (x0 : D4) :
  (den C k) (cB Tryd.f22) Q (St0 x0) = top (fun x3 c2 => Q .ret (St1 x3 c2)) x0 := by
 have h : ∀ (D L : DT α), denJ D L Js C (cB Tryd.f22) Q (St0 x0) = top (fun x3 c2 => Q .ret (St1 x3 c2)) x0 := by
  intro D L; kernel_rfl
 have h2 := via (k := k) h
 exact h2
def run (x0 : D4) : Option D3 := top (α := List Int × Int × Unit) (fun x3 c2 => some (c2, x3, ())) x0
def F : Fn := ⟨T24, T19, true, fun x => run x.1⟩
theorem con : Con Tryd.prog 22 F :=
 con_of (C := C) (ctx_ok (by kernel_rfl) (by kernel_rfl) (by kernel_rfl) (by kernel_rfl) ⟨.inl ⟨keccak_Sum.con, keccak_Sum.named⟩, ⟨.inl ⟨paper_Bytes.con, paper_Bytes.named⟩, trivial⟩⟩) (by kernel_rfl) Tryd.func22 (c := cB Tryd.f22) (by kernel_rfl) (by kernel_rfl) F (fun x => by simp [F, spread, Tryd.ntmps22]) (fun x => (St0 x.1)) (fun x => by kernel_rfl) fun x => (top_eq fuel _ x.1).trans (by kernel_rfl)
theorem named : Named Tryd.prog 22 := named_of Tryd.func22 (by kernel_rfl) (by kernel_rfl)
end Go.Bx.paper_Sum
namespace Go.Bx.basculeref_BodySum
def Js : List Nat := []
def C : Ctx := ⟨[(9, .str), (29, T10), (30, T1), (35, T18), (43, T23)], [], [], fnL [(20, basculeref_Hash.F), (48, basculeref_BodyFault.F), (49, basculeref_bodyText.F)], noSh, [], invL [], [(2, [2, 3])], [], [], 0, 0⟩
def St0 (x0 : D4) : St := stL 18 [(0, .data T23 x0)] []
def St1 (x3 : Int) (c2 : D0) : St := stL 18 [(2, .ref 2 0 []), (3, .data T1 x3)] [(2, .cell T18 (.data T18 c2) false)]
def top {α : Type} (Rt : Int -> D0 -> Option α) (x0 : D4) : Option α :=
 (basculeref_BodyFault.run x0).bind fun y1 =>
 if (y1 != 0) = true then
  Rt y1 (List.replicate 32 0)
 else
  (basculeref_bodyText.run x0).bind fun y2 =>
  (basculeref_Hash.run y2).bind fun y3 =>
  (basculeref_Hash.run (cutL y3 0 32)).bind fun y4 =>
  Rt 0 y4
theorem top_eq {α : Type} (k : Nat) (Q : Ex -> St -> Option α) (x0 : D4) :
  (den C k) (cB Tryd.f24) Q (St0 x0) = top (fun x3 c2 => Q .ret (St1 x3 c2)) x0 := by
 have h : ∀ (D L : DT α), denJ D L Js C (cB Tryd.f24) Q (St0 x0) = top (fun x3 c2 => Q .ret (St1 x3 c2)) x0 := by
  intro D L; kernel_rfl
 have h2 := via (k := k) h
 exact h2
def run (x0 : D4) : Option D3 := top (α := List Int × Int × Unit) (fun x3 c2 => some (c2, x3, ())) x0
def F : Fn := ⟨T24, T19, true, fun x => run x.1⟩
theorem con : Con Tryd.prog 24 F :=
 con_of (C := C) (ctx_ok (by kernel_rfl) (by kernel_rfl) (by kernel_rfl) (by kernel_rfl) ⟨.inl ⟨basculeref_Hash.con, basculeref_Hash.named⟩, ⟨.inl ⟨basculeref_BodyFault.con, basculeref_BodyFault.named⟩, ⟨.inl ⟨basculeref_bodyText.con, basculeref_bodyText.named⟩, trivial⟩⟩⟩) (by kernel_rfl) Tryd.func24 (c := cB Tryd.f24) (by kernel_rfl) (by kernel_rfl) F (fun x => by simp [F, spread, Tryd.ntmps24]) (fun x => (St0 x.1)) (fun x => by kernel_rfl) fun x => (top_eq fuel _ x.1).trans (by kernel_rfl)
theorem named : Named Tryd.prog 24 := named_of Tryd.func24 (by kernel_rfl) (by kernel_rfl)
end Go.Bx.basculeref_BodySum
namespace Go.Bx.basculelaw_sameBytes
def Js : List Nat := []
def C : Ctx := ⟨[(4, .bool), (9, .str), (29, T10)], [], [], fnL [], noSh, [], invL [], [(2, [4])], [], [], 0, 0⟩
def St0 (x0 x1 : D0) : St := stL 10 [(0, .data T10 x0), (1, .data T10 x1)] []
def St1 (x4 : Bool) : St := stL 10 [(4, .data .bool x4)] []
def top {α : Type} (Rt : Bool -> Option α) (x0 x1 : D0) : Option α :=
 Rt (beqD .str x0 x1)
theorem top_eq {α : Type} (k : Nat) (Q : Ex -> St -> Option α) (x0 x1 : D0) :
  (den C k) (cB Tryd.f25) Q (St0 x0 x1) = top (fun x4 => Q .ret (St1 x4)) x0 x1 := by
 have h : ∀ (D L : DT α), denJ D L Js C (cB Tryd.f25) Q (St0 x0 x1) = top (fun x4 => Q .ret (St1 x4)) x0 x1 := by
  intro D L; kernel_rfl
 have h2 := via (k := k) h
 exact h2
def run (x0 x1 : D0) : Option (Bool) := top (α := Bool) (fun x4 => some x4) x0 x1
def F : Fn := ⟨T28, .bool, false, fun x => run x.1 x.2.1⟩
theorem con : Con Tryd.prog 25 F :=
 con_of (C := C) (ctx_ok (by kernel_rfl) (by kernel_rfl) (by kernel_rfl) (by kernel_rfl) trivial) (by kernel_rfl) Tryd.func25 (c := cB Tryd.f25) (by kernel_rfl) (by kernel_rfl) F (fun x => by simp [F, spread, Tryd.ntmps25]) (fun x => (St0 x.1 x.2.1)) (fun x => by kernel_rfl) fun x => (top_eq fuel _ x.1 x.2.1).trans (by kernel_rfl)
theorem named : Named Tryd.prog 25 := named_of Tryd.func25 (by kernel_rfl) (by kernel_rfl)
end Go.Bx.basculelaw_sameBytes
namespace Go.Bx.basculeref_BodyBytes
def Js : List Nat := []
def C : Ctx := ⟨[(9, .str), (29, T10), (30, T1), (43, T23)], [], [], fnL [(48, basculeref_BodyFault.F), (49, basculeref_bodyText.F)], noSh, [], invL [], [(2, [2, 3])], [(2, [.dat true 2 []])], [], 0, 0⟩
def St0 (x0 : D4) : St := stL 13 [(0, .data T23 x0)] []
def St1 (x2 : D0) (x3 : Int) : St := stL 13 [(2, .data T10 x2), (3, .data T1 x3)] []
def top {α : Type} (Rt : D0 -> Int -> Option α) (x0 : D4) : Option α :=
 (basculeref_BodyFault.run x0).bind fun y1 =>
 if (y1 != 0) = true then
  Rt [] y1
 else
  (basculeref_bodyText.run x0).bind fun y2 =>
  Rt y2 0
theorem top_eq {α : Type} (k : Nat) (Q : Ex -> St -> Option α) (x0 : D4) :
  (den C k) (cB Tryd.f23) Q (St0 x0) = top (fun x2 x3 => Q .ret (St1 x2 x3)) x0 := by
 have h : ∀ (D L : DT α), denJ D L Js C (cB Tryd.f23) Q (St0 x0) = top (fun x2 x3 => Q .ret (St1 x2 x3)) x0 := by
  intro D L; kernel_rfl
 have h2 := via (k := k) h
 exact h2
def run (x0 : D4) : Option D3 := top (α := List Int × Int × Unit) (fun x2 x3 => some (x2, x3, ())) x0
def F : Fn := ⟨T24, T29, true, fun x => run x.1⟩
theorem con : Con Tryd.prog 23 F :=
 con_of (C := C) (ctx_ok (by kernel_rfl) (by kernel_rfl) (by kernel_rfl) (by kernel_rfl) ⟨.inl ⟨basculeref_BodyFault.con, basculeref_BodyFault.named⟩, ⟨.inl ⟨basculeref_bodyText.con, basculeref_bodyText.named⟩, trivial⟩⟩) (by kernel_rfl) Tryd.func23 (c := cB Tryd.f23) (by kernel_rfl) (by kernel_rfl) F (fun x => by simp [F, spread, Tryd.ntmps23]) (fun x => (St0 x.1)) (fun x => by kernel_rfl) fun x => (top_eq fuel _ x.1).trans (by kernel_rfl)
theorem named : Named Tryd.prog 23 := named_of Tryd.func23 (by kernel_rfl) (by kernel_rfl)
end Go.Bx.basculeref_BodyBytes
namespace Go.Bx.basculelaw_BodyWrites
def Js : List Nat := []
def C : Ctx := ⟨[(4, .bool), (35, T18), (43, T23)], [], [], fnL [(21, paper_Bytes.F), (22, paper_Sum.F), (23, basculeref_BodyBytes.F), (24, basculeref_BodySum.F), (25, basculelaw_sameBytes.F)], noSh, [], invL [], [(2, [2])], [], [], 0, 0⟩
def St0 (x0 : D4) : St := stL 49 [(0, .data T23 x0)] []
def St1 (x2 : Bool) : St := stL 49 [(2, .data .bool x2)] []
def top {α : Type} (Rt : Bool -> Option α) (x0 : D4) : Option α :=
 (paper_Bytes.run x0).bind fun y1 =>
 (paper_Sum.run x0).bind fun y2 =>
 (basculeref_BodyBytes.run x0).bind fun y3 =>
 (basculeref_BodySum.run x0).bind fun y4 =>
 (basculelaw_sameBytes.run y1.1 y3.1).bind fun y5 =>
 Rt (cond (cond (cond y5 (y1.2.1 == y3.2.1) false) (beqD T18 y2.1 y4.1) false) (y2.2.1 == y4.2.1) false)
theorem top_eq {α : Type} (k : Nat) (Q : Ex -> St -> Option α) (x0 : D4) :
  (den C k) (cB Tryd.f7) Q (St0 x0) = top (fun x2 => Q .ret (St1 x2)) x0 := by
 have h : ∀ (D L : DT α), denJ D L Js C (cB Tryd.f7) Q (St0 x0) = top (fun x2 => Q .ret (St1 x2)) x0 := by
  intro D L; kernel_rfl
 have h2 := via (k := k) h
 exact h2
def run (x0 : D4) : Option (Bool) := top (α := Bool) (fun x2 => some x2) x0
def F : Fn := ⟨T24, .bool, false, fun x => run x.1⟩
theorem con : Con Tryd.prog 7 F :=
 con_of (C := C) (ctx_ok (by kernel_rfl) (by kernel_rfl) (by kernel_rfl) (by kernel_rfl) ⟨.inl ⟨paper_Bytes.con, paper_Bytes.named⟩, ⟨.inl ⟨paper_Sum.con, paper_Sum.named⟩, ⟨.inl ⟨basculeref_BodyBytes.con, basculeref_BodyBytes.named⟩, ⟨.inl ⟨basculeref_BodySum.con, basculeref_BodySum.named⟩, ⟨.inl ⟨basculelaw_sameBytes.con, basculelaw_sameBytes.named⟩, trivial⟩⟩⟩⟩⟩) (by kernel_rfl) Tryd.func7 (c := cB Tryd.f7) (by kernel_rfl) (by kernel_rfl) F (fun x => by simp [F, spread, Tryd.ntmps7]) (fun x => (St0 x.1)) (fun x => by kernel_rfl) fun x => (top_eq fuel _ x.1).trans (by kernel_rfl)
theorem named : Named Tryd.prog 7 := named_of Tryd.func7 (by kernel_rfl) (by kernel_rfl)
end Go.Bx.basculelaw_BodyWrites
