/- Go functions of this seat in their own words of Lean, each tied to its code by a contract. -/
import Derived.Test.YtbkkahkikjifkaaGreatDoorGBase
import Derived.Test.YtbkkahkikjifkaaGreatDoorFnGuardSigns1
open Go Go.Proofs Go.Bx
set_option maxRecDepth 100000
set_option linter.unusedVariables false
variable {α : Type}
namespace Go.Bx.basculeref_SignOf
def Js : List Nat := [11]
def C : Ctx := ⟨[(24, T28), (28, T43), (36, T65), (38, T66), (39, T3), (41, T4), (43, T40), (44, T1)], [], [], fnL [(12, basculeref_SameBody.F), (13, basculeref_BodySum.F), (14, basculeref_Signed.F)], noSh, [], invL [], [(2, [6, 7]), (1, [6]), (4, [3, 4, 5, 6, 13, 14, 15]), (6, [3, 4, 5, 6, 13, 14, 15]), (30, [6])], [], [], 0, 0⟩
def St0 (x0 : D12) (x1 : D19) (x2 : D0) : St := stL 40 [(0, .data T43 x0), (1, .data T66 x1), (2, .data T4 x2)] []
def St1 (x13 : D20) (x14 x15 : Int) (c3 : D12) (c4 : D19) (c5 : D0) (c6 : D5) : St := stL 40 [(3, .ref 3 0 []), (4, .ref 4 0 []), (5, .ref 5 0 []), (6, .ref 6 0 []), (13, .data T65 x13), (14, .data T1 x14), (15, .data T1 x15)] [(3, .cell T43 (.data T43 c3) false), (4, .cell T66 (.data T66 c4) false), (5, .cell T4 (.data T4 c5) false), (6, .cell T40 (.data T40 c6) false)]
noncomputable def cd0 : Code := cL (cL (cR (cL (cR (cB Tryz.f6)))))
def St2 (x7 : Int) (c6 : D5) : St := stL 40 [(6, .ref 6 0 []), (7, .data T1 x7)] [(6, .cell T40 (.data T40 c6) false)]
def St3 (c6 : D5) : St := stL 40 [(6, .ref 6 0 [])] [(6, .cell T40 (.data T40 c6) false)]
def l0s (Nx : D20 -> Int -> Int -> D12 -> D19 -> D0 -> D5 -> Option α) (Rt : Int -> D5 -> Option α) (Xt0 : D5 -> Option α) (x13 : D20) (x14 x15 : Int) (c3 : D12) (c4 : D19) (c5 : D0) (c6 : D5) : Option α :=
 if (decide (x15 < x14)) = true then
  if 0 <= x15 /\ x15 < (x13.length : Int) then
   (basculeref_SameBody.run (List.getD x13 (Int.toNat x15) (0, 0, 0, (List.replicate 32 0), 0, 0, [], ())) c5).bind fun y1 =>
   if y1 = true then
    (basculeref_BodySum.run c5).bind fun y2 =>
    if (y2.2.1 != 0) = true then
     Rt y2.2.1 ([0, 0, 0, 0], [0, 0, 0, 0], 0, ())
    else
     (basculeref_Signed.run c3 c4.1 y2.1).bind fun y3 =>
     Rt y3.2.1 y3.1
   else
    Nx x13 x14 (IntKind.i64.wrap (x15 + 1)) c3 c4 c5 c6
  else none
 else
  Xt0 c6
theorem l0s_eq (k : Nat) (next : St -> Option α) (Q : Ex -> St -> Option α) (x13 : D20) (x14 x15 : Int) (c3 : D12) (c4 : D19) (c5 : D0) (c6 : D5) :
  rnd C k cd0 6 Q next (St1 x13 x14 x15 c3 c4 c5 c6) = l0s (fun x13 x14 x15 c3 c4 c5 c6 => next (St1 x13 x14 x15 c3 c4 c5 c6)) (fun x7 c6 => Q .ret (St2 x7 c6)) (fun c6 => Q (.exit 0) (St3 c6)) x13 x14 x15 c3 c4 c5 c6 := plainly Js (by kernel_rfl)
def l0 (k : Nat) (Rt : Int -> D5 -> Option α) (Xt0 : D5 -> Option α) : Nat -> D20 -> Int -> Int -> D12 -> D19 -> D0 -> D5 -> Option α
 | 0, _, _, _, _, _, _, _ => none
 | n + 1, x13, x14, x15, c3, c4, c5, c6 => l0s (l0 k Rt Xt0 n) Rt Xt0 x13 x14 x15 c3 c4 c5 c6
theorem l0_eq (k : Nat) (Q : Ex -> St -> Option α) : ∀ (n : Nat) (x13 : D20) (x14 x15 : Int) (c3 : D12) (c4 : D19) (c5 : D0) (c6 : D5), iter (rnd C k cd0 6 Q) n (St1 x13 x14 x15 c3 c4 c5 c6) = l0 k (fun x7 c6 => Q .ret (St2 x7 c6)) (fun c6 => Q (.exit 0) (St3 c6)) n x13 x14 x15 c3 c4 c5 c6
 | 0, _, _, _, _, _, _, _ => rfl
 | n + 1, x13, x14, x15, c3, c4, c5, c6 => (iter_succ _ _ _).trans ((l0s_eq k _ Q x13 x14 x15 c3 c4 c5 c6).trans (congrArg (fun N => l0s N (fun x7 c6 => Q .ret (St2 x7 c6)) (fun c6 => Q (.exit 0) (St3 c6)) x13 x14 x15 c3 c4 c5 c6) (by funext; exact l0_eq k Q n _ _ _ _ _ _ _)))
theorem l0_congr (k : Nat) (Rt : Int -> D5 -> Option α) (Xt0 : D5 -> Option α) (Rtq : Int -> D5 -> Option α) (Xt0q : D5 -> Option α) (hRt : ∀ (x7 : Int) (c6 : D5), Rt x7 c6 = Rtq x7 c6) (hXt0 : ∀ (c6 : D5), Xt0 c6 = Xt0q c6) (n : Nat) (x13 : D20) (x14 x15 : Int) (c3 : D12) (c4 : D19) (c5 : D0) (c6 : D5) : l0 k Rt Xt0 n x13 x14 x15 c3 c4 c5 c6 = l0 k Rtq Xt0q n x13 x14 x15 c3 c4 c5 c6 := by
 obtain rfl : Rt = Rtq := by funext x7; funext c6; exact hRt x7 c6
 obtain rfl : Xt0 = Xt0q := by funext c6; exact hXt0 c6
 rfl
noncomputable def cd1 : Code := cR (cR (cB Tryz.f6))
def St4 (c6 : D5) : St := stL 40 [(6, .ref 6 0 [])] [(6, .cell T40 (.data T40 c6) false)]
def j0 (Rt : Int -> D5 -> Option α) (c6 : D5) : Option α :=
 Rt 5 ([0, 0, 0, 0], [0, 0, 0, 0], 0, ())
theorem j0_eq (k : Nat) (Q : Ex -> St -> Option α) (c6 : D5) :
  (den C k) cd1 Q (St4 c6) = j0 (fun x7 c6 => Q .ret (St2 x7 c6)) c6 := plainly Js (by kernel_rfl)
theorem a0 (k : Nat) (Q : Ex -> St -> Option α) (x13 : D20) (x14 x15 : Int) (c3 : D12) (c4 : D19) (c5 : D0) (c6 : D5) :
  (lp C k) cd0 (blkQ C 0 (sq (den C k) (lp C k) Js C cd1 Q)) (St1 x13 x14 x15 c3 c4 c5 c6) = l0 k (fun x7 c6 => (fun x7 c6 => Q .ret (St2 x7 c6)) x7 c6) (fun c6 => j0 (fun x7 c6 => Q .ret (St2 x7 c6)) c6) k x13 x14 x15 c3 c4 c5 c6 :=
 (lp_iter 6 (by kernel_rfl)).trans ((l0_eq k _ k x13 x14 x15 c3 c4 c5 c6).trans (l0_congr k _ _ _ _ (fun x7 c6 => (by kernel_rfl)) (fun c6 => (Eq.trans (b := (den C k) cd1 Q (St4 c6)) (by kernel_rfl) (by simp only [j0_eq]))) k x13 x14 x15 c3 c4 c5 c6))
def top (k : Nat) (Rt : Int -> D5 -> Option α) (x0 : D12) (x1 : D19) (x2 : D0) : Option α :=
 l0 k (fun x7 c6 => Rt x7 c6) (fun c6 => j0 Rt c6) k x1.2.2.2.2.2.1 (x1.2.2.2.2.2.1.length : Int) 0 x0 x1 x2 ([0, 0, 0, 0], [0, 0, 0, 0], 0, ())
theorem top_eq (k : Nat) (Q : Ex -> St -> Option α) (x0 : D12) (x1 : D19) (x2 : D0) :
  (den C k) (cB Tryz.f6) Q (St0 x0 x1 x2) = top k (fun x7 c6 => Q .ret (St2 x7 c6)) x0 x1 x2 := by
 have h : ∀ (D L : DT α), denJ D L Js C (cB Tryz.f6) Q (St0 x0 x1 x2) =
    L cd0 (blkQ C 0 (sq D L Js C cd1 Q)) (St1 x1.2.2.2.2.2.1 (x1.2.2.2.2.2.1.length : Int) 0 x0 x1 x2 ([0, 0, 0, 0], [0, 0, 0, 0], 0, ())) := by
  intro D L; kernel_rfl
 have h2 := via (k := k) h
 refine h2.trans ?_
 simp only [a0]
 first | rfl | kernel_rfl
def run (x0 : D12) (x1 : D19) (x2 : D0) : Option D6 := top (α := D5 × Int × Unit) fuel (fun x7 c6 => some (c6, x7, ())) x0 x1 x2
def F : Fn := ⟨T67, T64, true, fun x => run x.1 x.2.1 x.2.2.1⟩
theorem con : Con Tryz.prog 6 F /\ Named Tryz.prog 6 :=
 con_of2 (C := C) (ctx_ok (by kernel_rfl) (by kernel_rfl) (by kernel_rfl) (by kernel_rfl) ⟨.inl basculeref_SameBody.con, ⟨.inl basculeref_BodySum.con, ⟨.inl basculeref_Signed.con, trivial⟩⟩⟩) (by kernel_rfl) Tryz.func6 (by kernel_rfl) (c := cB Tryz.f6) (by kernel_rfl) (by kernel_rfl) F (fun x => by simp [F, spread, Tryz.ntmps6]) (fun x => (St0 x.1 x.2.1 x.2.2.1)) (fun x => by kernel_rfl) fun x => (top_eq fuel _ x.1 x.2.1 x.2.2.1).trans (by kernel_rfl)
end Go.Bx.basculeref_SignOf
namespace Go.Bx.basculelaw_GuardSigns
def Js : List Nat := []
def C : Ctx := ⟨[(4, .bool), (28, T43), (38, T66), (41, T4), (43, T40)], [], [], fnL [(5, guard_Sign.F), (6, basculeref_SignOf.F)], noSh, [], invL [], [(2, [6])], [], [], 0, 0⟩
def St0 (x0 : D12) (x1 : D19) (x2 : D0) : St := stL 33 [(0, .data T43 x0), (1, .data T66 x1), (2, .data T4 x2)] []
def St1 (x6 : Bool) : St := stL 33 [(6, .data .bool x6)] []
def top (Rt : Bool -> Option α) (x0 : D12) (x1 : D19) (x2 : D0) : Option α :=
 (guard_Sign.run x0 x1 x2).bind fun y1 =>
 (basculeref_SignOf.run x0 x1 x2).bind fun y2 =>
 Rt (cond (beqD T40 y1.1 y2.1) (y1.2.1 == y2.2.1) false)
theorem top_eq (k : Nat) (Q : Ex -> St -> Option α) (x0 : D12) (x1 : D19) (x2 : D0) :
  (den C k) (cB Tryz.f3) Q (St0 x0 x1 x2) = top (fun x6 => Q .ret (St1 x6)) x0 x1 x2 := plainly Js (by kernel_rfl)
def run (x0 : D12) (x1 : D19) (x2 : D0) : Option (Bool) := top (α := Bool) (fun x6 => some x6) x0 x1 x2
def F : Fn := ⟨T67, .bool, false, fun x => run x.1 x.2.1 x.2.2.1⟩
theorem con : Con Tryz.prog 3 F /\ Named Tryz.prog 3 :=
 con_of2 (C := C) (ctx_ok (by kernel_rfl) (by kernel_rfl) (by kernel_rfl) (by kernel_rfl) ⟨.inl guard_Sign.con, ⟨.inl basculeref_SignOf.con, trivial⟩⟩) (by kernel_rfl) Tryz.func3 (by kernel_rfl) (c := cB Tryz.f3) (by kernel_rfl) (by kernel_rfl) F (fun x => by simp [F, spread, Tryz.ntmps3]) (fun x => (St0 x.1 x.2.1 x.2.2.1)) (fun x => by kernel_rfl) fun x => (top_eq fuel _ x.1 x.2.1 x.2.2.1).trans (by kernel_rfl)
end Go.Bx.basculelaw_GuardSigns
