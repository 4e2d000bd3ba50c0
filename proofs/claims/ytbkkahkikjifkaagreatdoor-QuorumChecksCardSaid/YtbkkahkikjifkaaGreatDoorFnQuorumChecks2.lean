/- Go functions of this seat in their own words of Lean, each tied to its code by a contract. -/
import Derived.Test.YtbkkahkikjifkaaGreatDoorGBase
import Derived.Test.YtbkkahkikjifkaaGreatDoorFnQuorumChecks0
import Derived.Test.YtbkkahkikjifkaaGreatDoorFnQuorumChecks1
open Go Go.Proofs Go.Bx
set_option maxRecDepth 100000
set_option linter.unusedVariables false
variable {α : Type}
namespace Go.Bx.basculeref_QuorumFault
def Js : List Nat := [23]
def C : Ctx := ⟨[(3, T1), (26, T45), (28, T43), (39, T3), (43, T40), (44, T1), (48, T85), (50, T86), (51, T87), (62, T88), (66, T83)], [], [], fnL [(19, basculeref_CurveFault.F), (20, basculeref_Needed.F), (21, basculeref_Recovered.F), (22, basculeref_KeyOf.F)], noSh, [], invL [], [(2, [8]), (1, []), (4, [3, 4, 5, 6, 42, 43, 44]), (30, [3, 4, 5, 6, 42, 43, 44]), (66, [])], [], [], 0, 0⟩
def St0 (x0 : D12) (x1 : D24) (x2 : D1) (x3 : D25) : St := stL 94 [(0, .data T43 x0), (1, .data T86 x1), (2, .data T3 x2), (3, .data T87 x3)] []
def St1 (x8 : Int) : St := stL 94 [(8, .data T1 x8)] []
def St2 (x3 x42 : D25) (x43 x44 : Int) (c4 : D12) (c5 : D24) (c6 : D1) : St := stL 94 [(3, .data T87 x3), (4, .ref 4 0 []), (5, .ref 5 0 []), (6, .ref 6 0 []), (42, .data T87 x42), (43, .data T1 x43), (44, .data T1 x44)] [(4, .cell T43 (.data T43 c4) false), (5, .cell T86 (.data T86 c5) false), (6, .cell T3 (.data T3 c6) false)]
noncomputable def cd0 : Code := cL (cL (cR (cL (cR (cR (cR (cR (cR (cB Tryz.f8)))))))))
def St3 : St := stL 94 [] []
def l0s (Nx : D25 -> D25 -> Int -> Int -> D12 -> D24 -> D1 -> Option α) (Rt : Int -> Option α) (Xt0 : Option α) (x3 x42 : D25) (x43 x44 : Int) (c4 : D12) (c5 : D24) (c6 : D1) : Option α :=
 if (decide (x44 < x43)) = true then
  if 0 <= x44 /\ x44 < (x42.length : Int) then
   if (cond (decide ((List.getD x42 (Int.toNat x44) (0, ([0, 0, 0, 0], [0, 0, 0, 0], 0, ()), ())).1 < 0)) true (decide ((List.getD x42 (Int.toNat x44) (0, ([0, 0, 0, 0], [0, 0, 0, 0], 0, ()), ())).1 >= (c5.2.1.length : Int)))) = true then
    Rt 6
   else
    cond (decide (0 <= (IntKind.i64.wrap (x44 - 1)) /\ (IntKind.i64.wrap (x44 - 1)) < (x3.length : Int)) || !((decide (x44 > 0)) == true)) (
     if (cond (decide (x44 > 0)) (decide ((List.getD x42 (Int.toNat x44) (0, ([0, 0, 0, 0], [0, 0, 0, 0], 0, ()), ())).1 <= (List.getD x3 (Int.toNat (IntKind.i64.wrap (x44 - 1))) (0, ([0, 0, 0, 0], [0, 0, 0, 0], 0, ()), ())).1)) false) = true then
      Rt 3
     else
      (basculeref_Recovered.run c4 c6 (List.getD x42 (Int.toNat x44) (0, ([0, 0, 0, 0], [0, 0, 0, 0], 0, ()), ())).2.1).bind fun y3 =>
      if (y3.2.1 != 0) = true then
       Rt y3.2.1
      else
       (basculeref_KeyOf.run y3.1).bind fun y4 =>
       if 0 <= (List.getD x42 (Int.toNat x44) (0, ([0, 0, 0, 0], [0, 0, 0, 0], 0, ()), ())).1 /\ (List.getD x42 (Int.toNat x44) (0, ([0, 0, 0, 0], [0, 0, 0, 0], 0, ()), ())).1 < (c5.2.1.length : Int) then
        if (not (beqD T83 y4 (List.getD c5.2.1 (Int.toNat (List.getD x42 (Int.toNat x44) (0, ([0, 0, 0, 0], [0, 0, 0, 0], 0, ()), ())).1) (List.replicate 20 0)))) = true then
         Rt 10
        else
         Nx x3 x42 x43 (IntKind.i64.wrap (x44 + 1)) c4 c5 c6
       else none) none
  else none
 else
  Xt0
theorem l0s_eq (k : Nat) (next : St -> Option α) (Q : Ex -> St -> Option α) (x3 x42 : D25) (x43 x44 : Int) (c4 : D12) (c5 : D24) (c6 : D1) :
  rnd C k cd0 30 Q next (St2 x3 x42 x43 x44 c4 c5 c6) = l0s (fun x3 x42 x43 x44 c4 c5 c6 => next (St2 x3 x42 x43 x44 c4 c5 c6)) (fun x8 => Q .ret (St1 x8)) (Q (.exit 0) St3) x3 x42 x43 x44 c4 c5 c6 := plainly Js (by kernel_rfl)
def l0 (k : Nat) (Rt : Int -> Option α) (Xt0 : Option α) : Nat -> D25 -> D25 -> Int -> Int -> D12 -> D24 -> D1 -> Option α
 | 0, _, _, _, _, _, _, _ => none
 | n + 1, x3, x42, x43, x44, c4, c5, c6 => l0s (l0 k Rt Xt0 n) Rt Xt0 x3 x42 x43 x44 c4 c5 c6
theorem l0_eq (k : Nat) (Q : Ex -> St -> Option α) : ∀ (n : Nat) (x3 x42 : D25) (x43 x44 : Int) (c4 : D12) (c5 : D24) (c6 : D1), iter (rnd C k cd0 30 Q) n (St2 x3 x42 x43 x44 c4 c5 c6) = l0 k (fun x8 => Q .ret (St1 x8)) (Q (.exit 0) St3) n x3 x42 x43 x44 c4 c5 c6
 | 0, _, _, _, _, _, _, _ => rfl
 | n + 1, x3, x42, x43, x44, c4, c5, c6 => (iter_succ _ _ _).trans ((l0s_eq k _ Q x3 x42 x43 x44 c4 c5 c6).trans (congrArg (fun N => l0s N (fun x8 => Q .ret (St1 x8)) (Q (.exit 0) St3) x3 x42 x43 x44 c4 c5 c6) (by funext; exact l0_eq k Q n _ _ _ _ _ _ _)))
theorem l0_congr (k : Nat) (Rt : Int -> Option α) (Xt0 : Option α) (Rtq : Int -> Option α) (Xt0q : Option α) (hRt : ∀ (x8 : Int), Rt x8 = Rtq x8) (hXt0 : Xt0 = Xt0q) (n : Nat) (x3 x42 : D25) (x43 x44 : Int) (c4 : D12) (c5 : D24) (c6 : D1) : l0 k Rt Xt0 n x3 x42 x43 x44 c4 c5 c6 = l0 k Rtq Xt0q n x3 x42 x43 x44 c4 c5 c6 := by
 obtain rfl : Rt = Rtq := by funext x8; exact hRt x8
 obtain rfl : Xt0 = Xt0q := hXt0
 rfl
noncomputable def cd1 : Code := cR (cR (cR (cR (cR (cR (cB Tryz.f8))))))
def St4 : St := stL 94 [] []
def j0 (Rt : Int -> Option α) : Option α :=
 Rt 0
theorem j0_eq (k : Nat) (Q : Ex -> St -> Option α) :
  (den C k) cd1 Q St4 = j0 (fun x8 => Q .ret (St1 x8)) := plainly Js (by kernel_rfl)
theorem a0 (k : Nat) (Q : Ex -> St -> Option α) (x3 x42 : D25) (x43 x44 : Int) (c4 : D12) (c5 : D24) (c6 : D1) :
  (lp C k) cd0 (blkQ C 0 (sq (den C k) (lp C k) Js C cd1 Q)) (St2 x3 x42 x43 x44 c4 c5 c6) = l0 k (fun x8 => (fun x8 => Q .ret (St1 x8)) x8) (j0 (fun x8 => Q .ret (St1 x8))) k x3 x42 x43 x44 c4 c5 c6 :=
 (lp_iter 30 (by kernel_rfl)).trans ((l0_eq k _ k x3 x42 x43 x44 c4 c5 c6).trans (l0_congr k _ _ _ _ (fun x8 => (by kernel_rfl)) (Eq.trans (b := (den C k) cd1 Q St4) (by kernel_rfl) (by simp only [j0_eq])) k x3 x42 x43 x44 c4 c5 c6))
def top (k : Nat) (Rt : Int -> Option α) (x0 : D12) (x1 : D24) (x2 : D1) (x3 : D25) : Option α :=
 (basculeref_CurveFault.run x0).bind fun y1 =>
 if (y1 != 0) = true then
  Rt y1
 else
  if (cond ((x1.2.1.length : Int) == 0) true (decide ((x1.2.1.length : Int) > 19))) = true then
   Rt 1
  else
   (basculeref_Needed.run (x1.2.1.length : Int)).bind fun y2 =>
   if (decide ((x3.length : Int) < y2.1)) = true then
    Rt 11
   else
    l0 k (fun x8 => Rt x8) (j0 Rt) k x3 x3 (x3.length : Int) 0 x0 x1 x2
theorem top_eq (k : Nat) (Q : Ex -> St -> Option α) (x0 : D12) (x1 : D24) (x2 : D1) (x3 : D25) :
  (den C k) (cB Tryz.f8) Q (St0 x0 x1 x2 x3) = top k (fun x8 => Q .ret (St1 x8)) x0 x1 x2 x3 := by
 have h : ∀ (D L : DT α), denJ D L Js C (cB Tryz.f8) Q (St0 x0 x1 x2 x3) =
    (basculeref_CurveFault.run x0).bind fun y1 =>
    if (y1 != 0) = true then
     Q .ret (St1 y1)
    else
     if (cond ((x1.2.1.length : Int) == 0) true (decide ((x1.2.1.length : Int) > 19))) = true then
      Q .ret (St1 1)
     else
      (basculeref_Needed.run (x1.2.1.length : Int)).bind fun y2 =>
      if (decide ((x3.length : Int) < y2.1)) = true then
       Q .ret (St1 11)
      else
       L cd0 (blkQ C 0 (sq D L Js C cd1 Q)) (St2 x3 x3 (x3.length : Int) 0 x0 x1 x2) := by
  intro D L; kernel_rfl
 have h2 := via (k := k) h
 refine h2.trans ?_
 simp only [a0]
 first | rfl | kernel_rfl
def run (x0 : D12) (x1 : D24) (x2 : D1) (x3 : D25) : Option (Int) := top (α := Int) fuel (fun x8 => some x8) x0 x1 x2 x3
def F : Fn := ⟨T89, T1, false, fun x => run x.1 x.2.1 x.2.2.1 x.2.2.2.1⟩
theorem con : Con Tryz.prog 8 F /\ Named Tryz.prog 8 :=
 con_of2 (C := C) (ctx_ok (by kernel_rfl) (by kernel_rfl) (by kernel_rfl) (by kernel_rfl) ⟨.inl basculeref_CurveFault.con, ⟨.inl basculeref_Needed.con, ⟨.inl basculeref_Recovered.con, ⟨.inl basculeref_KeyOf.con, trivial⟩⟩⟩⟩) (by kernel_rfl) Tryz.func8 (by kernel_rfl) (c := cB Tryz.f8) (by kernel_rfl) (by kernel_rfl) F (fun x => by simp [F, spread, Tryz.ntmps8]) (fun x => (St0 x.1 x.2.1 x.2.2.1 x.2.2.2.1)) (fun x => by kernel_rfl) fun x => (top_eq fuel _ x.1 x.2.1 x.2.2.1 x.2.2.2.1).trans (by kernel_rfl)
end Go.Bx.basculeref_QuorumFault
namespace Go.Bx.basculelaw_QuorumChecks
def Js : List Nat := []
def C : Ctx := ⟨[(4, .bool), (28, T43), (39, T3), (50, T86), (51, T87)], [], [], fnL [(7, quorum_Check.F), (8, basculeref_QuorumFault.F)], noSh, [], invL [], [(2, [8])], [], [], 0, 0⟩
def St0 (x0 : D12) (x1 : D24) (x2 : D1) (x3 : D25) : St := stL 24 [(0, .data T43 x0), (1, .data T86 x1), (2, .data T3 x2), (3, .data T87 x3)] []
def St1 (x8 : Bool) : St := stL 24 [(8, .data .bool x8)] []
def top (Rt : Bool -> Option α) (x0 : D12) (x1 : D24) (x2 : D1) (x3 : D25) : Option α :=
 (quorum_Check.run x0 x1 x2 x3).bind fun y1 =>
 (basculeref_QuorumFault.run x0 x1 x2 x3).bind fun y2 =>
 Rt (y1 == y2)
theorem top_eq (k : Nat) (Q : Ex -> St -> Option α) (x0 : D12) (x1 : D24) (x2 : D1) (x3 : D25) :
  (den C k) (cB Tryz.f4) Q (St0 x0 x1 x2 x3) = top (fun x8 => Q .ret (St1 x8)) x0 x1 x2 x3 := plainly Js (by kernel_rfl)
def run (x0 : D12) (x1 : D24) (x2 : D1) (x3 : D25) : Option (Bool) := top (α := Bool) (fun x8 => some x8) x0 x1 x2 x3
def F : Fn := ⟨T89, .bool, false, fun x => run x.1 x.2.1 x.2.2.1 x.2.2.2.1⟩
theorem con : Con Tryz.prog 4 F /\ Named Tryz.prog 4 :=
 con_of2 (C := C) (ctx_ok (by kernel_rfl) (by kernel_rfl) (by kernel_rfl) (by kernel_rfl) ⟨.inl quorum_Check.con, ⟨.inl basculeref_QuorumFault.con, trivial⟩⟩) (by kernel_rfl) Tryz.func4 (by kernel_rfl) (c := cB Tryz.f4) (by kernel_rfl) (by kernel_rfl) F (fun x => by simp [F, spread, Tryz.ntmps4]) (fun x => (St0 x.1 x.2.1 x.2.2.1 x.2.2.2.1)) (fun x => by kernel_rfl) fun x => (top_eq fuel _ x.1 x.2.1 x.2.2.1 x.2.2.2.1).trans (by kernel_rfl)
end Go.Bx.basculelaw_QuorumChecks
