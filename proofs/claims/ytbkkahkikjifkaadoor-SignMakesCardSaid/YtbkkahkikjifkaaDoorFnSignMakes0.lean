/- Go functions of this seat in their own words of Lean, each tied to its code by a contract. -/
import Derived.Test.YtbkkahkikjifkaaDoorGBase
import Derived.Test.YtbkkahkikjifkaaDoorCxZi
open Go Go.Proofs Go.Bx
set_option maxRecDepth 100000
set_option linter.unusedVariables false
variable {α : Type}
namespace Go.Bx.basculeref_of
def Js : List Nat := [8]
def C : Ctx := ⟨[(56, T32), (119, T68)], [], [], fnL [], noSh, [], invL [], [(2, [2]), (1, [3]), (4, [3, 6, 7]), (9, [3, 6, 7]), (21, [3])], [(9, [.melt true 3 [] 16 true])], [], 0, 0⟩
def St0 (x0 : D0) : St := stL 19 [(0, .data T32 x0)] []
def St1 (x6 : D0) (x7 : Int) (c16 : D0) : St := stL 19 [(3, .app 16 0), (6, .data T32 x6), (7, .data T1 x7)] [(16, .buf T2 c16 0 true)]
noncomputable def cd0 : Code := cL (cL (cR (cL (cR (cR (cB Tryd.f66))))))
def St2 (c16 : D0) : St := stL 19 [(3, .app 16 0)] [(16, .buf T2 c16 0 true)]
def l0s {α : Type} (Nx : D0 -> Int -> D0 -> Option α) (Xt0 : D0 -> Option α) (x6 : D0) (x7 : Int) (c16 : D0) : Option α :=
 if (decide (x7 < 4)) = true then
  if 0 <= x7 /\ x7 < (4 : Int) then
   if fitB (c16.length + 2) 8 = true then
    Nx x6 (IntKind.i64.wrap (x7 + 1)) (c16 ++ [(Int.tmod (List.getD x6 (Int.toNat x7) 0) 4294967296), (IntKind.u64.wrap (Int.tdiv (List.getD x6 (Int.toNat x7) 0) 4294967296))])
   else none
  else none
 else
  Xt0 c16
theorem l0s_eq {α : Type} (k : Nat) (next : St -> Option α) (Q : Ex -> St -> Option α) (x6 : D0) (x7 : Int) (c16 : D0) :
  rnd C k cd0 9 Q next (St1 x6 x7 c16) = l0s (fun x6 x7 c16 => next (St1 x6 x7 c16)) (fun c16 => Q (.exit 0) (St2 c16)) x6 x7 c16 := by
 have h : ∀ (D L : DT α), denJ D L Js C cd0 (lq C 9 next Q) (St1 x6 x7 c16) = l0s (fun x6 x7 c16 => next (St1 x6 x7 c16)) (fun c16 => Q (.exit 0) (St2 c16)) x6 x7 c16 := by
  intro D L; kernel_rfl
 have h2 := via (k := k) h
 exact h2
def l0 {α : Type} (k : Nat) (Xt0 : D0 -> Option α) : Nat -> D0 -> Int -> D0 -> Option α
 | 0, _, _, _ => none
 | n + 1, x6, x7, c16 => l0s (l0 k Xt0 n) Xt0 x6 x7 c16
theorem l0_eq {α : Type} (k : Nat) (Q : Ex -> St -> Option α) : ∀ (n : Nat) (x6 : D0) (x7 : Int) (c16 : D0), iter (rnd C k cd0 9 Q) n (St1 x6 x7 c16) = l0 k (fun c16 => Q (.exit 0) (St2 c16)) n x6 x7 c16
 | 0, _, _, _ => rfl
 | n + 1, x6, x7, c16 => (iter_succ _ _ _).trans ((l0s_eq k _ Q x6 x7 c16).trans (congrArg (fun N => l0s N (fun c16 => Q (.exit 0) (St2 c16)) x6 x7 c16) (by funext; exact l0_eq k Q n _ _ _)))
noncomputable def cd1 : Code := cR (cR (cR (cB Tryd.f66)))
def St3 (c16 : D0) : St := stL 19 [(3, .app 16 0)] [(16, .buf T2 c16 0 true)]
def St4 (c16 : D0) : St := stL 19 [(2, .app 16 0)] [(16, .buf T2 c16 0 true)]
def j0 {α : Type} (Rt : D0 -> Option α) (c16 : D0) : Option α :=
 Rt c16
theorem j0_eq {α : Type} (k : Nat) (Q : Ex -> St -> Option α) (c16 : D0) :
  (den C k) cd1 Q (St3 c16) = j0 (fun c16 => Q .ret (St4 c16)) c16 := by
 have h : ∀ (D L : DT α), denJ D L Js C cd1 Q (St3 c16) = j0 (fun c16 => Q .ret (St4 c16)) c16 := by
  intro D L; kernel_rfl
 have h2 := via (k := k) h
 exact h2
theorem a0 {α : Type} (k : Nat) (Q : Ex -> St -> Option α) (x6 : D0) (x7 : Int) (c16 : D0) :
  (lp C k) cd0 (blkQ C 0 (sq (den C k) (lp C k) Js C cd1 Q)) (St1 x6 x7 c16) = l0 k (fun c16 => j0 (fun c16 => Q .ret (St4 c16)) c16) k x6 x7 c16 :=
 (lp_iter 9 (by kernel_rfl)).trans ((l0_eq k _ k x6 x7 c16).trans (congrArg (fun X => l0 k X k x6 x7 c16) (funext fun c16 => (Eq.trans (b := (den C k) cd1 Q (St3 c16)) (by kernel_rfl) (by simp only [j0_eq])))))
def top {α : Type} (k : Nat) (Rt : D0 -> Option α) (x0 : D0) : Option α :=
 l0 k (fun c16 => j0 Rt c16) k x0 0 []
theorem top_eq {α : Type} (k : Nat) (Q : Ex -> St -> Option α) (x0 : D0) :
  (den C k) (cB Tryd.f66) Q (St0 x0) = top k (fun c16 => Q .ret (St4 c16)) x0 := by
 have h : ∀ (D L : DT α), denJ D L Js C (cB Tryd.f66) Q (St0 x0) =
    L cd0 (blkQ C 0 (sq D L Js C cd1 Q)) (St1 x0 0 []) := by
  intro D L; kernel_rfl
 have h2 := via (k := k) h
 refine h2.trans ?_
 simp only [a0]
 first | rfl | kernel_rfl
def run (x0 : D0) : Option D0 := top (α := List Int) fuel (fun c16 => some c16) x0
def F : Fn := ⟨T35, T68, false, fun x => run x.1⟩
theorem con : Con Tryd.prog 66 F :=
 con_of (C := C) (ctx_ok (by kernel_rfl) (by kernel_rfl) (by kernel_rfl) (by kernel_rfl) trivial) (by kernel_rfl) Tryd.func66 (c := cB Tryd.f66) (by kernel_rfl) (by kernel_rfl) F (fun x => by simp [F, spread, Tryd.ntmps66]) (fun x => (St0 x.1)) (fun x => by kernel_rfl) fun x => (top_eq fuel _ x.1).trans (by kernel_rfl)
theorem named : Named Tryd.prog 66 := named_of Tryd.func66 (by kernel_rfl) (by kernel_rfl)
end Go.Bx.basculeref_of
namespace Go.Bx.basculeref_plus
def Js : List Nat := [10, 12, 13]
def C : Ctx := ⟨[(22, T2), (119, T68)], [], [], fnL [], noSh, [], invL [], [(2, [4]), (1, [5, 6]), (4, [0, 1, 5, 6, 7]), (12, [0, 1, 5, 6, 7]), (27, [0, 1, 5, 7, 8]), (33, [0, 1, 5, 7, 8]), (36, [5, 6])], [(12, [.melt true 5 [] 46 true])], [], 0, 0⟩
def St0 (x0 x1 : D0) : St := stL 53 [(0, .data T68 x0), (1, .data T68 x1)] []
def St1 (x0 x1 : D0) (x6 x7 : Int) (c46 : D0) : St := stL 53 [(0, .data T68 x0), (1, .data T68 x1), (5, .app 46 0), (6, .data T2 x6), (7, .data T1 x7)] [(46, .buf T2 c46 0 true)]
noncomputable def cd0 : Code := cL (cL (cR (cL (cR (cR (cR (cB Tryd.f106)))))))
def St2 (x0 x1 : D0) (x7 x8 : Int) (c46 : D0) : St := stL 53 [(0, .data T68 x0), (1, .data T68 x1), (5, .app 46 0), (7, .data T1 x7), (8, .data T2 x8)] [(46, .buf T2 c46 0 true)]
noncomputable def cd1 : Code := cR (cR (cL (cL (cR (cL (cR (cR (cR (cB Tryd.f106)))))))))
noncomputable def cd2 : Code := cR (cR (cL (cL (cR (cL (cL (cR (cL (cR (cR (cR (cB Tryd.f106))))))))))))
def St3 (x0 x1 : D0) (x7 x8 : Int) (c46 : D0) : St := stL 53 [(0, .data T68 x0), (1, .data T68 x1), (5, .app 46 0), (7, .data T1 x7), (8, .data T2 x8)] [(46, .buf T2 c46 0 true)]
noncomputable def cd3 : Code := cR (cR (cR (cL (cL (cR (cL (cL (cR (cL (cR (cR (cR (cB Tryd.f106)))))))))))))
def j1 {α : Type} (Nx : D0 -> D0 -> Int -> Int -> D0 -> Option α) (x0 x1 : D0) (x7 x8 : Int) (c46 : D0) : Option α :=
 if fitB (c46.length + 1) 8 = true then
  Nx x0 x1 (IntKind.u64.wrap (Int.tdiv x8 4294967296)) (IntKind.i64.wrap (x7 + 1)) (c46 ++ [(Int.tmod x8 4294967296)])
 else none
theorem j1_eq {α : Type} (k : Nat) (next : St -> Option α) (Q : Ex -> St -> Option α) (x0 x1 : D0) (x7 x8 : Int) (c46 : D0) :
  (den C k) cd3 (blkQ C 1 (sq (den C k) (lp C k) Js C cd1 (lq C 12 next Q))) (St3 x0 x1 x7 x8 c46) = j1 (fun x0 x1 x6 x7 c46 => next (St1 x0 x1 x6 x7 c46)) x0 x1 x7 x8 c46 := by
 have h : ∀ (D L : DT α), denJ D L Js C cd3 (blkQ C 1 (sq D L Js C cd1 (lq C 12 next Q))) (St3 x0 x1 x7 x8 c46) = j1 (fun x0 x1 x6 x7 c46 => next (St1 x0 x1 x6 x7 c46)) x0 x1 x7 x8 c46 := by
  intro D L; kernel_rfl
 have h2 := via (k := k) h
 exact h2
def j0 {α : Type} (Nx : D0 -> D0 -> Int -> Int -> D0 -> Option α) (x0 x1 : D0) (x7 x8 : Int) (c46 : D0) : Option α :=
 if (decide (x7 < (x1.length : Int))) = true then
  if 0 <= x7 /\ x7 < (x1.length : Int) then
   j1 Nx x0 x1 x7 (IntKind.u64.wrap (x8 + (List.getD x1 (Int.toNat x7) 0))) c46
  else none
 else
  j1 Nx x0 x1 x7 x8 c46
theorem j0_eq {α : Type} (k : Nat) (next : St -> Option α) (Q : Ex -> St -> Option α) (x0 x1 : D0) (x7 x8 : Int) (c46 : D0) :
  (den C k) cd2 (blkQ C 1 (sq (den C k) (lp C k) Js C cd1 (lq C 12 next Q))) (St2 x0 x1 x7 x8 c46) = j0 (fun x0 x1 x6 x7 c46 => next (St1 x0 x1 x6 x7 c46)) x0 x1 x7 x8 c46 := by
 have h : ∀ (D L : DT α), denJ D L Js C cd2 (blkQ C 1 (sq D L Js C cd1 (lq C 12 next Q))) (St2 x0 x1 x7 x8 c46) =
    if (decide (x7 < (x1.length : Int))) = true then
     if 0 <= x7 /\ x7 < (x1.length : Int) then
      D cd3 (blkQ C 1 (sq D L Js C cd1 (lq C 12 next Q))) (St3 x0 x1 x7 (IntKind.u64.wrap (x8 + (List.getD x1 (Int.toNat x7) 0))) c46)
     else none
    else
     D cd3 (blkQ C 1 (sq D L Js C cd1 (lq C 12 next Q))) (St3 x0 x1 x7 x8 c46) := by
  intro D L; kernel_rfl
 have h2 := via (k := k) h
 refine h2.trans ?_
 simp only [j1_eq]
 first | rfl | kernel_rfl
def St4 (x6 : Int) (c46 : D0) : St := stL 53 [(5, .app 46 0), (6, .data T2 x6)] [(46, .buf T2 c46 0 true)]
def l0s {α : Type} (Nx : D0 -> D0 -> Int -> Int -> D0 -> Option α) (Xt0 : Int -> D0 -> Option α) (x0 x1 : D0) (x6 x7 : Int) (c46 : D0) : Option α :=
 if (cond (decide (x7 < (x0.length : Int))) true (decide (x7 < (x1.length : Int)))) = true then
  if (decide (x7 < (x0.length : Int))) = true then
   if 0 <= x7 /\ x7 < (x0.length : Int) then
    j0 Nx x0 x1 x7 (IntKind.u64.wrap (x6 + (List.getD x0 (Int.toNat x7) 0))) c46
   else none
  else
   j0 Nx x0 x1 x7 x6 c46
 else
  Xt0 x6 c46
theorem l0s_eq {α : Type} (k : Nat) (next : St -> Option α) (Q : Ex -> St -> Option α) (x0 x1 : D0) (x6 x7 : Int) (c46 : D0) :
  rnd C k cd0 12 Q next (St1 x0 x1 x6 x7 c46) = l0s (fun x0 x1 x6 x7 c46 => next (St1 x0 x1 x6 x7 c46)) (fun x6 c46 => Q (.exit 0) (St4 x6 c46)) x0 x1 x6 x7 c46 := by
 have h : ∀ (D L : DT α), denJ D L Js C cd0 (lq C 12 next Q) (St1 x0 x1 x6 x7 c46) =
    if (cond (decide (x7 < (x0.length : Int))) true (decide (x7 < (x1.length : Int)))) = true then
     if (decide (x7 < (x0.length : Int))) = true then
      if 0 <= x7 /\ x7 < (x0.length : Int) then
       D cd2 (blkQ C 1 (sq D L Js C cd1 (lq C 12 next Q))) (St2 x0 x1 x7 (IntKind.u64.wrap (x6 + (List.getD x0 (Int.toNat x7) 0))) c46)
      else none
     else
      D cd2 (blkQ C 1 (sq D L Js C cd1 (lq C 12 next Q))) (St2 x0 x1 x7 x6 c46)
    else
     Q (.exit 0) (St4 x6 c46) := by
  intro D L; kernel_rfl
 have h2 := via (k := k) h
 refine h2.trans ?_
 simp only [j0_eq]
 first | rfl | kernel_rfl
def l0 {α : Type} (k : Nat) (Xt0 : Int -> D0 -> Option α) : Nat -> D0 -> D0 -> Int -> Int -> D0 -> Option α
 | 0, _, _, _, _, _ => none
 | n + 1, x0, x1, x6, x7, c46 => l0s (l0 k Xt0 n) Xt0 x0 x1 x6 x7 c46
theorem l0_eq {α : Type} (k : Nat) (Q : Ex -> St -> Option α) : ∀ (n : Nat) (x0 x1 : D0) (x6 x7 : Int) (c46 : D0), iter (rnd C k cd0 12 Q) n (St1 x0 x1 x6 x7 c46) = l0 k (fun x6 c46 => Q (.exit 0) (St4 x6 c46)) n x0 x1 x6 x7 c46
 | 0, _, _, _, _, _ => rfl
 | n + 1, x0, x1, x6, x7, c46 => (iter_succ _ _ _).trans ((l0s_eq k _ Q x0 x1 x6 x7 c46).trans (congrArg (fun N => l0s N (fun x6 c46 => Q (.exit 0) (St4 x6 c46)) x0 x1 x6 x7 c46) (by funext; exact l0_eq k Q n _ _ _ _ _)))
noncomputable def cd4 : Code := cR (cR (cR (cR (cB Tryd.f106))))
def St5 (x6 : Int) (c46 : D0) : St := stL 53 [(5, .app 46 0), (6, .data T2 x6)] [(46, .buf T2 c46 0 true)]
def St6 (c46 : D0) : St := stL 53 [(4, .app 46 0)] [(46, .buf T2 c46 0 true)]
def j2 {α : Type} (Rt : D0 -> Option α) (x6 : Int) (c46 : D0) : Option α :=
 if fitB (c46.length + 1) 8 = true then
  Rt (c46 ++ [x6])
 else none
theorem j2_eq {α : Type} (k : Nat) (Q : Ex -> St -> Option α) (x6 : Int) (c46 : D0) :
  (den C k) cd4 Q (St5 x6 c46) = j2 (fun c46 => Q .ret (St6 c46)) x6 c46 := by
 have h : ∀ (D L : DT α), denJ D L Js C cd4 Q (St5 x6 c46) = j2 (fun c46 => Q .ret (St6 c46)) x6 c46 := by
  intro D L; kernel_rfl
 have h2 := via (k := k) h
 exact h2
theorem a0 {α : Type} (k : Nat) (Q : Ex -> St -> Option α) (x0 x1 : D0) (x6 x7 : Int) (c46 : D0) :
  (lp C k) cd0 (blkQ C 0 (sq (den C k) (lp C k) Js C cd4 Q)) (St1 x0 x1 x6 x7 c46) = l0 k (fun x6 c46 => j2 (fun c46 => Q .ret (St6 c46)) x6 c46) k x0 x1 x6 x7 c46 :=
 (lp_iter 12 (by kernel_rfl)).trans ((l0_eq k _ k x0 x1 x6 x7 c46).trans (congrArg (fun X => l0 k X k x0 x1 x6 x7 c46) (funext fun x6 => funext fun c46 => (Eq.trans (b := (den C k) cd4 Q (St5 x6 c46)) (by kernel_rfl) (by simp only [j2_eq])))))
def top {α : Type} (k : Nat) (Rt : D0 -> Option α) (x0 x1 : D0) : Option α :=
 l0 k (fun x6 c46 => j2 Rt x6 c46) k x0 x1 0 0 []
theorem top_eq {α : Type} (k : Nat) (Q : Ex -> St -> Option α) (x0 x1 : D0) :
  (den C k) (cB Tryd.f106) Q (St0 x0 x1) = top k (fun c46 => Q .ret (St6 c46)) x0 x1 := by
 have h : ∀ (D L : DT α), denJ D L Js C (cB Tryd.f106) Q (St0 x0 x1) =
    L cd0 (blkQ C 0 (sq D L Js C cd4 Q)) (St1 x0 x1 0 0 []) := by
  intro D L; kernel_rfl
 have h2 := via (k := k) h
 refine h2.trans ?_
 simp only [a0]
 first | rfl | kernel_rfl
def run (x0 x1 : D0) : Option D0 := top (α := List Int) fuel (fun c46 => some c46) x0 x1
def F : Fn := ⟨T69, T68, false, fun x => run x.1 x.2.1⟩
theorem con : Con Tryd.prog 106 F :=
 con_of (C := C) (ctx_ok (by kernel_rfl) (by kernel_rfl) (by kernel_rfl) (by kernel_rfl) trivial) (by kernel_rfl) Tryd.func106 (c := cB Tryd.f106) (by kernel_rfl) (by kernel_rfl) F (fun x => by simp [F, spread, Tryd.ntmps106]) (fun x => (St0 x.1 x.2.1)) (fun x => by kernel_rfl) fun x => (top_eq fuel _ x.1 x.2.1).trans (by kernel_rfl)
theorem named : Named Tryd.prog 106 := named_of Tryd.func106 (by kernel_rfl) (by kernel_rfl)
end Go.Bx.basculeref_plus
namespace Go.Bx.basculeref_less
def Js : List Nat := [10, 14, 16]
def C : Ctx := ⟨[(22, T2), (119, T68)], [], [], fnL [], noSh, [], invL [], [(2, [4]), (1, [5]), (4, [1, 5, 6, 13, 14]), (12, [1, 5, 6, 13, 14]), (27, [1, 5, 7, 8, 13, 14]), (39, [1, 5, 6, 7, 8, 13, 14]), (45, [5])], [], [], 0, 0⟩
def St0 (x0 x1 : D0) : St := stL 49 [(0, .data T68 x0), (1, .data T68 x1)] []
def St1 (x1 : D0) (x6 x13 x14 : Int) (c11 : D0) : St := stL 49 [(1, .data T68 x1), (5, .app 11 0), (6, .data T2 x6), (13, .data T1 x13), (14, .data T1 x14)] [(11, .buf T2 c11 0 false)]
noncomputable def cd0 : Code := cL (cL (cR (cL (cR (cR (cR (cB Tryd.f104)))))))
def St2 (x1 : D0) (x7 x8 : Int) (x13 x14 : Int) (c11 : D0) : St := stL 49 [(1, .data T68 x1), (5, .app 11 0), (7, .data T1 x7), (8, .data T2 x8), (13, .data T1 x13), (14, .data T1 x14)] [(11, .buf T2 c11 0 false)]
noncomputable def cd1 : Code := cR (cR (cR (cL (cL (cR (cL (cR (cR (cR (cB Tryd.f104))))))))))
noncomputable def cd2 : Code := cR (cR (cR (cL (cL (cR (cR (cL (cL (cR (cL (cR (cR (cR (cB Tryd.f104))))))))))))))
def St3 (x1 : D0) (x6 x7 : Int) (x8 x13 x14 : Int) (c11 : D0) : St := stL 49 [(1, .data T68 x1), (5, .app 11 0), (6, .data T2 x6), (7, .data T1 x7), (8, .data T2 x8), (13, .data T1 x13), (14, .data T1 x14)] [(11, .buf T2 c11 0 false)]
noncomputable def cd3 : Code := cR (cR (cR (cR (cR (cL (cL (cR (cR (cL (cL (cR (cL (cR (cR (cR (cB Tryd.f104))))))))))))))))
def j1 {α : Type} (Nx : D0 -> Int -> Int -> Int -> D0 -> Option α) (x1 : D0) (x6 x7 : Int) (x8 x13 x14 : Int) (c11 : D0) : Option α :=
 if 0 <= x7 /\ x7 < (c11.length : Int) then
  if 0 <= x7 /\ x7 < (c11.length : Int) then
   Nx x1 x6 x13 (IntKind.i64.wrap (x14 + 1)) (List.set c11 (Int.toNat x7) (IntKind.u64.wrap ((List.getD c11 (Int.toNat x7) 0) - x8)))
  else none
 else none
theorem j1_eq {α : Type} (k : Nat) (next : St -> Option α) (Q : Ex -> St -> Option α) (x1 : D0) (x6 x7 : Int) (x8 x13 x14 : Int) (c11 : D0) :
  (den C k) cd3 (blkQ C 1 (sq (den C k) (lp C k) Js C cd1 (lq C 12 next Q))) (St3 x1 x6 x7 x8 x13 x14 c11) = j1 (fun x1 x6 x13 x14 c11 => next (St1 x1 x6 x13 x14 c11)) x1 x6 x7 x8 x13 x14 c11 := by
 have h : ∀ (D L : DT α), denJ D L Js C cd3 (blkQ C 1 (sq D L Js C cd1 (lq C 12 next Q))) (St3 x1 x6 x7 x8 x13 x14 c11) = j1 (fun x1 x6 x13 x14 c11 => next (St1 x1 x6 x13 x14 c11)) x1 x6 x7 x8 x13 x14 c11 := by
  intro D L; kernel_rfl
 have h2 := via (k := k) h
 exact h2
def j0 {α : Type} (Nx : D0 -> Int -> Int -> Int -> D0 -> Option α) (x1 : D0) (x7 x8 : Int) (x13 x14 : Int) (c11 : D0) : Option α :=
 if 0 <= x7 /\ x7 < (c11.length : Int) then
  if (decide ((List.getD c11 (Int.toNat x7) 0) < x8)) = true then
   if 0 <= x7 /\ x7 < (c11.length : Int) then
    if 0 <= x7 /\ x7 < (c11.length : Int) then
     j1 Nx x1 1 x7 x8 x13 x14 (List.set c11 (Int.toNat x7) (IntKind.u64.wrap ((List.getD c11 (Int.toNat x7) 0) + 4294967296)))
    else none
   else none
  else
   j1 Nx x1 0 x7 x8 x13 x14 c11
 else none
theorem j0_eq {α : Type} (k : Nat) (next : St -> Option α) (Q : Ex -> St -> Option α) (x1 : D0) (x7 x8 : Int) (x13 x14 : Int) (c11 : D0) :
  (den C k) cd2 (blkQ C 1 (sq (den C k) (lp C k) Js C cd1 (lq C 12 next Q))) (St2 x1 x7 x8 x13 x14 c11) = j0 (fun x1 x6 x13 x14 c11 => next (St1 x1 x6 x13 x14 c11)) x1 x7 x8 x13 x14 c11 := by
 have h : ∀ (D L : DT α), denJ D L Js C cd2 (blkQ C 1 (sq D L Js C cd1 (lq C 12 next Q))) (St2 x1 x7 x8 x13 x14 c11) =
    if 0 <= x7 /\ x7 < (c11.length : Int) then
     if (decide ((List.getD c11 (Int.toNat x7) 0) < x8)) = true then
      if 0 <= x7 /\ x7 < (c11.length : Int) then
       if 0 <= x7 /\ x7 < (c11.length : Int) then
        D cd3 (blkQ C 1 (sq D L Js C cd1 (lq C 12 next Q))) (St3 x1 1 x7 x8 x13 x14 (List.set c11 (Int.toNat x7) (IntKind.u64.wrap ((List.getD c11 (Int.toNat x7) 0) + 4294967296))))
       else none
      else none
     else
      D cd3 (blkQ C 1 (sq D L Js C cd1 (lq C 12 next Q))) (St3 x1 0 x7 x8 x13 x14 c11)
    else none := by
  intro D L; kernel_rfl
 have h2 := via (k := k) h
 refine h2.trans ?_
 simp only [j1_eq]
 first | rfl | kernel_rfl
def St4 (c11 : D0) : St := stL 49 [(5, .app 11 0)] [(11, .buf T2 c11 0 false)]
def l0s {α : Type} (Nx : D0 -> Int -> Int -> Int -> D0 -> Option α) (Xt0 : D0 -> Option α) (x1 : D0) (x6 x13 x14 : Int) (c11 : D0) : Option α :=
 if (decide (x14 < x13)) = true then
  if (decide (x14 < (x1.length : Int))) = true then
   if 0 <= x14 /\ x14 < (x1.length : Int) then
    j0 Nx x1 x14 (IntKind.u64.wrap (x6 + (List.getD x1 (Int.toNat x14) 0))) x13 x14 c11
   else none
  else
   j0 Nx x1 x14 x6 x13 x14 c11
 else
  Xt0 c11
theorem l0s_eq {α : Type} (k : Nat) (next : St -> Option α) (Q : Ex -> St -> Option α) (x1 : D0) (x6 x13 x14 : Int) (c11 : D0) :
  rnd C k cd0 12 Q next (St1 x1 x6 x13 x14 c11) = l0s (fun x1 x6 x13 x14 c11 => next (St1 x1 x6 x13 x14 c11)) (fun c11 => Q (.exit 0) (St4 c11)) x1 x6 x13 x14 c11 := by
 have h : ∀ (D L : DT α), denJ D L Js C cd0 (lq C 12 next Q) (St1 x1 x6 x13 x14 c11) =
    if (decide (x14 < x13)) = true then
     if (decide (x14 < (x1.length : Int))) = true then
      if 0 <= x14 /\ x14 < (x1.length : Int) then
       D cd2 (blkQ C 1 (sq D L Js C cd1 (lq C 12 next Q))) (St2 x1 x14 (IntKind.u64.wrap (x6 + (List.getD x1 (Int.toNat x14) 0))) x13 x14 c11)
      else none
     else
      D cd2 (blkQ C 1 (sq D L Js C cd1 (lq C 12 next Q))) (St2 x1 x14 x6 x13 x14 c11)
    else
     Q (.exit 0) (St4 c11) := by
  intro D L; kernel_rfl
 have h2 := via (k := k) h
 refine h2.trans ?_
 simp only [j0_eq]
 first | rfl | kernel_rfl
def l0 {α : Type} (k : Nat) (Xt0 : D0 -> Option α) : Nat -> D0 -> Int -> Int -> Int -> D0 -> Option α
 | 0, _, _, _, _, _ => none
 | n + 1, x1, x6, x13, x14, c11 => l0s (l0 k Xt0 n) Xt0 x1 x6 x13 x14 c11
theorem l0_eq {α : Type} (k : Nat) (Q : Ex -> St -> Option α) : ∀ (n : Nat) (x1 : D0) (x6 x13 x14 : Int) (c11 : D0), iter (rnd C k cd0 12 Q) n (St1 x1 x6 x13 x14 c11) = l0 k (fun c11 => Q (.exit 0) (St4 c11)) n x1 x6 x13 x14 c11
 | 0, _, _, _, _, _ => rfl
 | n + 1, x1, x6, x13, x14, c11 => (iter_succ _ _ _).trans ((l0s_eq k _ Q x1 x6 x13 x14 c11).trans (congrArg (fun N => l0s N (fun c11 => Q (.exit 0) (St4 c11)) x1 x6 x13 x14 c11) (by funext; exact l0_eq k Q n _ _ _ _ _)))
noncomputable def cd4 : Code := cR (cR (cR (cR (cB Tryd.f104))))
def St5 (c11 : D0) : St := stL 49 [(5, .app 11 0)] [(11, .buf T2 c11 0 false)]
def St6 (c11 : D0) : St := stL 49 [(4, .app 11 0)] [(11, .buf T2 c11 0 false)]
def j2 {α : Type} (Rt : D0 -> Option α) (c11 : D0) : Option α :=
 Rt c11
theorem j2_eq {α : Type} (k : Nat) (Q : Ex -> St -> Option α) (c11 : D0) :
  (den C k) cd4 Q (St5 c11) = j2 (fun c11 => Q .ret (St6 c11)) c11 := by
 have h : ∀ (D L : DT α), denJ D L Js C cd4 Q (St5 c11) = j2 (fun c11 => Q .ret (St6 c11)) c11 := by
  intro D L; kernel_rfl
 have h2 := via (k := k) h
 exact h2
theorem a0 {α : Type} (k : Nat) (Q : Ex -> St -> Option α) (x1 : D0) (x6 x13 x14 : Int) (c11 : D0) :
  (lp C k) cd0 (blkQ C 0 (sq (den C k) (lp C k) Js C cd4 Q)) (St1 x1 x6 x13 x14 c11) = l0 k (fun c11 => j2 (fun c11 => Q .ret (St6 c11)) c11) k x1 x6 x13 x14 c11 :=
 (lp_iter 12 (by kernel_rfl)).trans ((l0_eq k _ k x1 x6 x13 x14 c11).trans (congrArg (fun X => l0 k X k x1 x6 x13 x14 c11) (funext fun c11 => (Eq.trans (b := (den C k) cd4 Q (St5 c11)) (by kernel_rfl) (by simp only [j2_eq])))))
def top {α : Type} (k : Nat) (Rt : D0 -> Option α) (x0 x1 : D0) : Option α :=
 if (fitB (0 + x0.length) 8 && (Nat.beq 0 0 || Nat.blt 0 x0.length)) = true then
  l0 k (fun c11 => j2 Rt c11) k x1 0 (x0.length : Int) 0 x0
 else none
theorem top_eq {α : Type} (k : Nat) (Q : Ex -> St -> Option α) (x0 x1 : D0) :
  (den C k) (cB Tryd.f104) Q (St0 x0 x1) = top k (fun c11 => Q .ret (St6 c11)) x0 x1 := by
 have h : ∀ (D L : DT α), denJ D L Js C (cB Tryd.f104) Q (St0 x0 x1) =
    if (fitB (0 + x0.length) 8 && (Nat.beq 0 0 || Nat.blt 0 x0.length)) = true then
     L cd0 (blkQ C 0 (sq D L Js C cd4 Q)) (St1 x1 0 (x0.length : Int) 0 x0)
    else none := by
  intro D L; kernel_rfl
 have h2 := via (k := k) h
 refine h2.trans ?_
 simp only [a0]
 first | rfl | kernel_rfl
def run (x0 x1 : D0) : Option D0 := top (α := List Int) fuel (fun c11 => some c11) x0 x1
def F : Fn := ⟨T69, T68, false, fun x => run x.1 x.2.1⟩
theorem con : Con Tryd.prog 104 F :=
 con_of (C := C) (ctx_ok (by kernel_rfl) (by kernel_rfl) (by kernel_rfl) (by kernel_rfl) trivial) (by kernel_rfl) Tryd.func104 (c := cB Tryd.f104) (by kernel_rfl) (by kernel_rfl) F (fun x => by simp [F, spread, Tryd.ntmps104]) (fun x => (St0 x.1 x.2.1)) (fun x => by kernel_rfl) fun x => (top_eq fuel _ x.1 x.2.1).trans (by kernel_rfl)
theorem named : Named Tryd.prog 104 := named_of Tryd.func104 (by kernel_rfl) (by kernel_rfl)
end Go.Bx.basculeref_less
namespace Go.Bx.basculeref_compare
def Js : List Nat := [8, 10, 14]
def C : Ctx := ⟨[(3, T1), (22, T2), (119, T68)], [], [], fnL [], noSh, [], invL [], [(2, [4]), (1, []), (4, [0, 1, 5]), (6, [0, 1, 5]), (21, [0, 1, 5, 6, 7]), (27, [0, 1, 5, 6, 7]), (39, [])], [], [], 0, 0⟩
def St0 (x0 x1 : D0) : St := stL 40 [(0, .data T68 x0), (1, .data T68 x1)] []
def St1 (x0 x1 : D0) (x5 : Int) : St := stL 40 [(0, .data T68 x0), (1, .data T68 x1), (5, .data T1 x5)] []
noncomputable def cd0 : Code := cL (cL (cR (cL (cR (cB Tryd.f107)))))
def St2 (x0 x1 : D0) (x5 x6 x7 : Int) : St := stL 40 [(0, .data T68 x0), (1, .data T68 x1), (5, .data T1 x5), (6, .data T2 x6), (7, .data T2 x7)] []
noncomputable def cd1 : Code := cR (cR (cL (cL (cR (cL (cR (cB Tryd.f107)))))))
noncomputable def cd2 : Code := cR (cR (cL (cL (cR (cL (cL (cR (cL (cR (cB Tryd.f107))))))))))
def St3 (x0 x1 : D0) (x5 x6 x7 : Int) : St := stL 40 [(0, .data T68 x0), (1, .data T68 x1), (5, .data T1 x5), (6, .data T2 x6), (7, .data T2 x7)] []
noncomputable def cd3 : Code := cR (cR (cR (cL (cL (cR (cL (cL (cR (cL (cR (cB Tryd.f107)))))))))))
def St4 (x4 : Int) : St := stL 40 [(4, .data T1 x4)] []
def j1 {α : Type} (Nx : D0 -> D0 -> Int -> Option α) (Rt : Int -> Option α) (x0 x1 : D0) (x5 x6 x7 : Int) : Option α :=
 if (decide (x6 < x7)) = true then
  Rt (-1)
 else
  if (decide (x6 > x7)) = true then
   Rt 1
  else
   Nx x0 x1 (IntKind.i64.wrap (x5 - 1))
theorem j1_eq {α : Type} (k : Nat) (next : St -> Option α) (Q : Ex -> St -> Option α) (x0 x1 : D0) (x5 x6 x7 : Int) :
  (den C k) cd3 (blkQ C 1 (sq (den C k) (lp C k) Js C cd1 (lq C 6 next Q))) (St3 x0 x1 x5 x6 x7) = j1 (fun x0 x1 x5 => next (St1 x0 x1 x5)) (fun x4 => Q .ret (St4 x4)) x0 x1 x5 x6 x7 := by
 have h : ∀ (D L : DT α), denJ D L Js C cd3 (blkQ C 1 (sq D L Js C cd1 (lq C 6 next Q))) (St3 x0 x1 x5 x6 x7) = j1 (fun x0 x1 x5 => next (St1 x0 x1 x5)) (fun x4 => Q .ret (St4 x4)) x0 x1 x5 x6 x7 := by
  intro D L; kernel_rfl
 have h2 := via (k := k) h
 exact h2
def j0 {α : Type} (Nx : D0 -> D0 -> Int -> Option α) (Rt : Int -> Option α) (x0 x1 : D0) (x5 x6 x7 : Int) : Option α :=
 if (decide (x5 < (x1.length : Int))) = true then
  if 0 <= x5 /\ x5 < (x1.length : Int) then
   j1 Nx Rt x0 x1 x5 x6 (List.getD x1 (Int.toNat x5) 0)
  else none
 else
  j1 Nx Rt x0 x1 x5 x6 x7
theorem j0_eq {α : Type} (k : Nat) (next : St -> Option α) (Q : Ex -> St -> Option α) (x0 x1 : D0) (x5 x6 x7 : Int) :
  (den C k) cd2 (blkQ C 1 (sq (den C k) (lp C k) Js C cd1 (lq C 6 next Q))) (St2 x0 x1 x5 x6 x7) = j0 (fun x0 x1 x5 => next (St1 x0 x1 x5)) (fun x4 => Q .ret (St4 x4)) x0 x1 x5 x6 x7 := by
 have h : ∀ (D L : DT α), denJ D L Js C cd2 (blkQ C 1 (sq D L Js C cd1 (lq C 6 next Q))) (St2 x0 x1 x5 x6 x7) =
    if (decide (x5 < (x1.length : Int))) = true then
     if 0 <= x5 /\ x5 < (x1.length : Int) then
      D cd3 (blkQ C 1 (sq D L Js C cd1 (lq C 6 next Q))) (St3 x0 x1 x5 x6 (List.getD x1 (Int.toNat x5) 0))
     else none
    else
     D cd3 (blkQ C 1 (sq D L Js C cd1 (lq C 6 next Q))) (St3 x0 x1 x5 x6 x7) := by
  intro D L; kernel_rfl
 have h2 := via (k := k) h
 refine h2.trans ?_
 simp only [j1_eq]
 first | rfl | kernel_rfl
def St5 : St := stL 40 [] []
def l0s {α : Type} (Nx : D0 -> D0 -> Int -> Option α) (Rt : Int -> Option α) (Xt0 : Option α) (x0 x1 : D0) (x5 : Int) : Option α :=
 if (decide (x5 >= 0)) = true then
  if (decide (x5 < (x0.length : Int))) = true then
   if 0 <= x5 /\ x5 < (x0.length : Int) then
    j0 Nx Rt x0 x1 x5 (List.getD x0 (Int.toNat x5) 0) 0
   else none
  else
   j0 Nx Rt x0 x1 x5 0 0
 else
  Xt0
theorem l0s_eq {α : Type} (k : Nat) (next : St -> Option α) (Q : Ex -> St -> Option α) (x0 x1 : D0) (x5 : Int) :
  rnd C k cd0 6 Q next (St1 x0 x1 x5) = l0s (fun x0 x1 x5 => next (St1 x0 x1 x5)) (fun x4 => Q .ret (St4 x4)) (Q (.exit 0) St5) x0 x1 x5 := by
 have h : ∀ (D L : DT α), denJ D L Js C cd0 (lq C 6 next Q) (St1 x0 x1 x5) =
    if (decide (x5 >= 0)) = true then
     if (decide (x5 < (x0.length : Int))) = true then
      if 0 <= x5 /\ x5 < (x0.length : Int) then
       D cd2 (blkQ C 1 (sq D L Js C cd1 (lq C 6 next Q))) (St2 x0 x1 x5 (List.getD x0 (Int.toNat x5) 0) 0)
      else none
     else
      D cd2 (blkQ C 1 (sq D L Js C cd1 (lq C 6 next Q))) (St2 x0 x1 x5 0 0)
    else
     Q (.exit 0) St5 := by
  intro D L; kernel_rfl
 have h2 := via (k := k) h
 refine h2.trans ?_
 simp only [j0_eq]
 first | rfl | kernel_rfl
def l0 {α : Type} (k : Nat) (Rt : Int -> Option α) (Xt0 : Option α) : Nat -> D0 -> D0 -> Int -> Option α
 | 0, _, _, _ => none
 | n + 1, x0, x1, x5 => l0s (l0 k Rt Xt0 n) Rt Xt0 x0 x1 x5
theorem l0_eq {α : Type} (k : Nat) (Q : Ex -> St -> Option α) : ∀ (n : Nat) (x0 x1 : D0) (x5 : Int), iter (rnd C k cd0 6 Q) n (St1 x0 x1 x5) = l0 k (fun x4 => Q .ret (St4 x4)) (Q (.exit 0) St5) n x0 x1 x5
 | 0, _, _, _ => rfl
 | n + 1, x0, x1, x5 => (iter_succ _ _ _).trans ((l0s_eq k _ Q x0 x1 x5).trans (congrArg (fun N => l0s N (fun x4 => Q .ret (St4 x4)) (Q (.exit 0) St5) x0 x1 x5) (by funext; exact l0_eq k Q n _ _ _)))
theorem l0_congr {α : Type} (k : Nat) (Rt : Int -> Option α) (Xt0 : Option α) (Rtq : Int -> Option α) (Xt0q : Option α) (hRt : ∀ (x4 : Int), Rt x4 = Rtq x4) (hXt0 : Xt0 = Xt0q) (n : Nat) (x0 x1 : D0) (x5 : Int) : l0 k Rt Xt0 n x0 x1 x5 = l0 k Rtq Xt0q n x0 x1 x5 := by
 obtain rfl : Rt = Rtq := by funext x4; exact hRt x4
 obtain rfl : Xt0 = Xt0q := hXt0
 rfl
noncomputable def cd4 : Code := cR (cR (cB Tryd.f107))
def St6 : St := stL 40 [] []
def j2 {α : Type} (Rt : Int -> Option α) : Option α :=
 Rt 0
theorem j2_eq {α : Type} (k : Nat) (Q : Ex -> St -> Option α) :
  (den C k) cd4 Q St6 = j2 (fun x4 => Q .ret (St4 x4)) := by
 have h : ∀ (D L : DT α), denJ D L Js C cd4 Q St6 = j2 (fun x4 => Q .ret (St4 x4)) := by
  intro D L; kernel_rfl
 have h2 := via (k := k) h
 exact h2
theorem a0 {α : Type} (k : Nat) (Q : Ex -> St -> Option α) (x0 x1 : D0) (x5 : Int) :
  (lp C k) cd0 (blkQ C 0 (sq (den C k) (lp C k) Js C cd4 Q)) (St1 x0 x1 x5) = l0 k (fun x4 => (fun x4 => Q .ret (St4 x4)) x4) (j2 (fun x4 => Q .ret (St4 x4))) k x0 x1 x5 :=
 (lp_iter 6 (by kernel_rfl)).trans ((l0_eq k _ k x0 x1 x5).trans (l0_congr k _ _ _ _ (fun x4 => (by kernel_rfl)) (Eq.trans (b := (den C k) cd4 Q St6) (by kernel_rfl) (by simp only [j2_eq])) k x0 x1 x5))
def top {α : Type} (k : Nat) (Rt : Int -> Option α) (x0 x1 : D0) : Option α :=
 l0 k (fun x4 => Rt x4) (j2 Rt) k x0 x1 (IntKind.i64.wrap ((if (x1.length : Int) > (x0.length : Int) then (x1.length : Int) else (x0.length : Int)) - 1))
theorem top_eq {α : Type} (k : Nat) (Q : Ex -> St -> Option α) (x0 x1 : D0) :
  (den C k) (cB Tryd.f107) Q (St0 x0 x1) = top k (fun x4 => Q .ret (St4 x4)) x0 x1 := by
 have h : ∀ (D L : DT α), denJ D L Js C (cB Tryd.f107) Q (St0 x0 x1) =
    L cd0 (blkQ C 0 (sq D L Js C cd4 Q)) (St1 x0 x1 (IntKind.i64.wrap ((if (x1.length : Int) > (x0.length : Int) then (x1.length : Int) else (x0.length : Int)) - 1))) := by
  intro D L; kernel_rfl
 have h2 := via (k := k) h
 refine h2.trans ?_
 simp only [a0]
 first | rfl | kernel_rfl
def run (x0 x1 : D0) : Option (Int) := top (α := Int) fuel (fun x4 => some x4) x0 x1
def F : Fn := ⟨T69, T1, false, fun x => run x.1 x.2.1⟩
theorem con : Con Tryd.prog 107 F :=
 con_of (C := C) (ctx_ok (by kernel_rfl) (by kernel_rfl) (by kernel_rfl) (by kernel_rfl) trivial) (by kernel_rfl) Tryd.func107 (c := cB Tryd.f107) (by kernel_rfl) (by kernel_rfl) F (fun x => by simp [F, spread, Tryd.ntmps107]) (fun x => (St0 x.1 x.2.1)) (fun x => by kernel_rfl) fun x => (top_eq fuel _ x.1 x.2.1).trans (by kernel_rfl)
theorem named : Named Tryd.prog 107 := named_of Tryd.func107 (by kernel_rfl) (by kernel_rfl)
end Go.Bx.basculeref_compare
namespace Go.Bx.basculeref_wide
def Js : List Nat := [10, 11]
def C : Ctx := ⟨[(4, .bool), (22, T2), (56, T32), (119, T68)], [], [], fnL [], noSh, [], invL [], [(2, [2, 3]), (1, [2, 4, 5]), (4, [2, 4, 5, 8, 9, 10]), (12, [2, 4, 5, 8, 9, 10]), (27, [2, 4, 5, 8, 9, 10]), (30, [2, 4, 5])], [], [], 0, 0⟩
def St0 (x0 : D0) : St := stL 36 [(0, .data T68 x0)] []
def St1 (x5 : Bool) (x8 : D0) (x9 x10 : Int) (c2 c4 : D0) : St := stL 36 [(2, .ref 2 0 []), (4, .ref 4 0 []), (5, .data .bool x5), (8, .data T68 x8), (9, .data T1 x9), (10, .data T1 x10)] [(2, .cell T32 (.data T32 c2) false), (4, .cell T32 (.data T32 c4) false)]
noncomputable def cd0 : Code := cL (cL (cR (cL (cR (cR (cR (cB Tryd.f124)))))))
def St2 (x5 : Bool) (x8 : D0) (x9 x10 : Int) (c2 c4 : D0) : St := stL 36 [(2, .ref 2 0 []), (4, .ref 4 0 []), (5, .data .bool x5), (8, .data T68 x8), (9, .data T1 x9), (10, .data T1 x10)] [(2, .cell T32 (.data T32 c2) false), (4, .cell T32 (.data T32 c4) false)]
noncomputable def cd1 : Code := cR (cR (cR (cL (cL (cR (cL (cR (cR (cR (cB Tryd.f124))))))))))
def j0 {α : Type} (Nx : Bool -> D0 -> Int -> Int -> D0 -> D0 -> Option α) (x5 : Bool) (x8 : D0) (x9 x10 : Int) (c2 c4 : D0) : Option α :=
 Nx x5 x8 x9 (IntKind.i64.wrap (x10 + 1)) c2 c4
theorem j0_eq {α : Type} (k : Nat) (next : St -> Option α) (Q : Ex -> St -> Option α) (x5 : Bool) (x8 : D0) (x9 x10 : Int) (c2 c4 : D0) :
  (den C k) cd1 (lq C 12 next Q) (St2 x5 x8 x9 x10 c2 c4) = j0 (fun x5 x8 x9 x10 c2 c4 => next (St1 x5 x8 x9 x10 c2 c4)) x5 x8 x9 x10 c2 c4 := by
 have h : ∀ (D L : DT α), denJ D L Js C cd1 (lq C 12 next Q) (St2 x5 x8 x9 x10 c2 c4) = j0 (fun x5 x8 x9 x10 c2 c4 => next (St1 x5 x8 x9 x10 c2 c4)) x5 x8 x9 x10 c2 c4 := by
  intro D L; kernel_rfl
 have h2 := via (k := k) h
 exact h2
def St3 (x5 : Bool) (c2 c4 : D0) : St := stL 36 [(2, .ref 2 0 []), (4, .ref 4 0 []), (5, .data .bool x5)] [(2, .cell T32 (.data T32 c2) false), (4, .cell T32 (.data T32 c4) false)]
def l0s {α : Type} (Nx : Bool -> D0 -> Int -> Int -> D0 -> D0 -> Option α) (Xt0 : Bool -> D0 -> D0 -> Option α) (x5 : Bool) (x8 : D0) (x9 x10 : Int) (c2 c4 : D0) : Option α :=
 if (decide (x10 < x9)) = true then
  if 0 <= x10 /\ x10 < (x8.length : Int) then
   if (decide (x10 >= 8)) = true then
    j0 Nx (cond x5 true ((List.getD x8 (Int.toNat x10) 0) != 0)) x8 x9 x10 c2 c4
   else
    if 0 <= (IntKind.i64.wrap (Int.tdiv x10 2)) /\ (IntKind.i64.wrap (Int.tdiv x10 2)) < (4 : Int) then
     if 0 <= (IntKind.i64.wrap (32 * (Int.tmod x10 2))) then
      if 0 <= (IntKind.i64.wrap (Int.tdiv x10 2)) /\ (IntKind.i64.wrap (Int.tdiv x10 2)) < (4 : Int) then
       j0 Nx x5 x8 x9 x10 c2 (List.set c4 (Int.toNat (IntKind.i64.wrap (Int.tdiv x10 2))) (bor .u64 (List.getD c4 (Int.toNat (IntKind.i64.wrap (Int.tdiv x10 2))) 0) (shlI .u64 (List.getD x8 (Int.toNat x10) 0) (IntKind.i64.wrap (32 * (Int.tmod x10 2))))))
      else none
     else none
    else none
  else none
 else
  Xt0 x5 c2 c4
theorem l0s_eq {α : Type} (k : Nat) (next : St -> Option α) (Q : Ex -> St -> Option α) (x5 : Bool) (x8 : D0) (x9 x10 : Int) (c2 c4 : D0) :
  rnd C k cd0 12 Q next (St1 x5 x8 x9 x10 c2 c4) = l0s (fun x5 x8 x9 x10 c2 c4 => next (St1 x5 x8 x9 x10 c2 c4)) (fun x5 c2 c4 => Q (.exit 0) (St3 x5 c2 c4)) x5 x8 x9 x10 c2 c4 := by
 have h : ∀ (D L : DT α), denJ D L Js C cd0 (lq C 12 next Q) (St1 x5 x8 x9 x10 c2 c4) =
    if (decide (x10 < x9)) = true then
     if 0 <= x10 /\ x10 < (x8.length : Int) then
      if (decide (x10 >= 8)) = true then
       D cd1 (lq C 12 next Q) (St2 (cond x5 true ((List.getD x8 (Int.toNat x10) 0) != 0)) x8 x9 x10 c2 c4)
      else
       if 0 <= (IntKind.i64.wrap (Int.tdiv x10 2)) /\ (IntKind.i64.wrap (Int.tdiv x10 2)) < (4 : Int) then
        if 0 <= (IntKind.i64.wrap (32 * (Int.tmod x10 2))) then
         if 0 <= (IntKind.i64.wrap (Int.tdiv x10 2)) /\ (IntKind.i64.wrap (Int.tdiv x10 2)) < (4 : Int) then
          D cd1 (lq C 12 next Q) (St2 x5 x8 x9 x10 c2 (List.set c4 (Int.toNat (IntKind.i64.wrap (Int.tdiv x10 2))) (bor .u64 (List.getD c4 (Int.toNat (IntKind.i64.wrap (Int.tdiv x10 2))) 0) (shlI .u64 (List.getD x8 (Int.toNat x10) 0) (IntKind.i64.wrap (32 * (Int.tmod x10 2)))))))
         else none
        else none
       else none
     else none
    else
     Q (.exit 0) (St3 x5 c2 c4) := by
  intro D L; kernel_rfl
 have h2 := via (k := k) h
 refine h2.trans ?_
 simp only [j0_eq]
 first | rfl | kernel_rfl
def l0 {α : Type} (k : Nat) (Xt0 : Bool -> D0 -> D0 -> Option α) : Nat -> Bool -> D0 -> Int -> Int -> D0 -> D0 -> Option α
 | 0, _, _, _, _, _, _ => none
 | n + 1, x5, x8, x9, x10, c2, c4 => l0s (l0 k Xt0 n) Xt0 x5 x8 x9 x10 c2 c4
theorem l0_eq {α : Type} (k : Nat) (Q : Ex -> St -> Option α) : ∀ (n : Nat) (x5 : Bool) (x8 : D0) (x9 x10 : Int) (c2 c4 : D0), iter (rnd C k cd0 12 Q) n (St1 x5 x8 x9 x10 c2 c4) = l0 k (fun x5 c2 c4 => Q (.exit 0) (St3 x5 c2 c4)) n x5 x8 x9 x10 c2 c4
 | 0, _, _, _, _, _, _ => rfl
 | n + 1, x5, x8, x9, x10, c2, c4 => (iter_succ _ _ _).trans ((l0s_eq k _ Q x5 x8 x9 x10 c2 c4).trans (congrArg (fun N => l0s N (fun x5 c2 c4 => Q (.exit 0) (St3 x5 c2 c4)) x5 x8 x9 x10 c2 c4) (by funext; exact l0_eq k Q n _ _ _ _ _ _)))
noncomputable def cd2 : Code := cR (cR (cR (cR (cB Tryd.f124))))
def St4 (x5 : Bool) (c2 c4 : D0) : St := stL 36 [(2, .ref 2 0 []), (4, .ref 4 0 []), (5, .data .bool x5)] [(2, .cell T32 (.data T32 c2) false), (4, .cell T32 (.data T32 c4) false)]
def St5 (x3 : Bool) (c2 : D0) : St := stL 36 [(2, .ref 2 0 []), (3, .data .bool x3)] [(2, .cell T32 (.data T32 c2) false)]
def j1 {α : Type} (Rt : Bool -> D0 -> Option α) (x5 : Bool) (c2 c4 : D0) : Option α :=
 Rt x5 c4
theorem j1_eq {α : Type} (k : Nat) (Q : Ex -> St -> Option α) (x5 : Bool) (c2 c4 : D0) :
  (den C k) cd2 Q (St4 x5 c2 c4) = j1 (fun x3 c2 => Q .ret (St5 x3 c2)) x5 c2 c4 := by
 have h : ∀ (D L : DT α), denJ D L Js C cd2 Q (St4 x5 c2 c4) = j1 (fun x3 c2 => Q .ret (St5 x3 c2)) x5 c2 c4 := by
  intro D L; kernel_rfl
 have h2 := via (k := k) h
 exact h2
theorem a0 {α : Type} (k : Nat) (Q : Ex -> St -> Option α) (x5 : Bool) (x8 : D0) (x9 x10 : Int) (c2 c4 : D0) :
  (lp C k) cd0 (blkQ C 0 (sq (den C k) (lp C k) Js C cd2 Q)) (St1 x5 x8 x9 x10 c2 c4) = l0 k (fun x5 c2 c4 => j1 (fun x3 c2 => Q .ret (St5 x3 c2)) x5 c2 c4) k x5 x8 x9 x10 c2 c4 :=
 (lp_iter 12 (by kernel_rfl)).trans ((l0_eq k _ k x5 x8 x9 x10 c2 c4).trans (congrArg (fun X => l0 k X k x5 x8 x9 x10 c2 c4) (funext fun x5 => funext fun c2 => funext fun c4 => (Eq.trans (b := (den C k) cd2 Q (St4 x5 c2 c4)) (by kernel_rfl) (by simp only [j1_eq])))))
def top {α : Type} (k : Nat) (Rt : Bool -> D0 -> Option α) (x0 : D0) : Option α :=
 l0 k (fun x5 c2 c4 => j1 Rt x5 c2 c4) k false x0 (x0.length : Int) 0 [0, 0, 0, 0] [0, 0, 0, 0]
theorem top_eq {α : Type} (k : Nat) (Q : Ex -> St -> Option α) (x0 : D0) :
  (den C k) (cB Tryd.f124) Q (St0 x0) = top k (fun x3 c2 => Q .ret (St5 x3 c2)) x0 := by
 have h : ∀ (D L : DT α), denJ D L Js C (cB Tryd.f124) Q (St0 x0) =
    L cd0 (blkQ C 0 (sq D L Js C cd2 Q)) (St1 false x0 (x0.length : Int) 0 [0, 0, 0, 0] [0, 0, 0, 0]) := by
  intro D L; kernel_rfl
 have h2 := via (k := k) h
 refine h2.trans ?_
 simp only [a0]
 first | rfl | kernel_rfl
def run (x0 : D0) : Option D9 := top (α := List Int × Bool × Unit) fuel (fun x3 c2 => some (c2, x3, ())) x0
def F : Fn := ⟨T70, T39, true, fun x => run x.1⟩
theorem con : Con Tryd.prog 124 F :=
 con_of (C := C) (ctx_ok (by kernel_rfl) (by kernel_rfl) (by kernel_rfl) (by kernel_rfl) trivial) (by kernel_rfl) Tryd.func124 (c := cB Tryd.f124) (by kernel_rfl) (by kernel_rfl) F (fun x => by simp [F, spread, Tryd.ntmps124]) (fun x => (St0 x.1)) (fun x => by kernel_rfl) fun x => (top_eq fuel _ x.1).trans (by kernel_rfl)
theorem named : Named Tryd.prog 124 := named_of Tryd.func124 (by kernel_rfl) (by kernel_rfl)
end Go.Bx.basculeref_wide
namespace Go.Bx.basculeref_cut
def Js : List Nat := []
def C : Ctx := ⟨[(56, T32), (119, T68)], [], [], fnL [(124, basculeref_wide.F)], noSh, [], invL [], [(2, [2])], [], [], 0, 0⟩
def St0 (x0 : D0) : St := stL 11 [(0, .data T68 x0)] []
def St1 (c2 : D0) : St := stL 11 [(2, .ref 2 0 [])] [(2, .cell T32 (.data T32 c2) false)]
def top {α : Type} (Rt : D0 -> Option α) (x0 : D0) : Option α :=
 (basculeref_wide.run x0).bind fun y1 =>
 Rt y1.1
theorem top_eq {α : Type} (k : Nat) (Q : Ex -> St -> Option α) (x0 : D0) :
  (den C k) (cB Tryd.f101) Q (St0 x0) = top (fun c2 => Q .ret (St1 c2)) x0 := by
 have h : ∀ (D L : DT α), denJ D L Js C (cB Tryd.f101) Q (St0 x0) = top (fun c2 => Q .ret (St1 c2)) x0 := by
  intro D L; kernel_rfl
 have h2 := via (k := k) h
 exact h2
def run (x0 : D0) : Option D0 := top (α := List Int) (fun c2 => some c2) x0
def F : Fn := ⟨T70, T32, false, fun x => run x.1⟩
theorem con : Con Tryd.prog 101 F :=
 con_of (C := C) (ctx_ok (by kernel_rfl) (by kernel_rfl) (by kernel_rfl) (by kernel_rfl) ⟨.inl ⟨basculeref_wide.con, basculeref_wide.named⟩, trivial⟩) (by kernel_rfl) Tryd.func101 (c := cB Tryd.f101) (by kernel_rfl) (by kernel_rfl) F (fun x => by simp [F, spread, Tryd.ntmps101]) (fun x => (St0 x.1)) (fun x => by kernel_rfl) fun x => (top_eq fuel _ x.1).trans (by kernel_rfl)
theorem named : Named Tryd.prog 101 := named_of Tryd.func101 (by kernel_rfl) (by kernel_rfl)
end Go.Bx.basculeref_cut
namespace Go.Bx.x_add64
def run (x y c : Int) : Option (Int × Int × Unit) := add64 x y c
def F : Fn := ⟨U3, U2, true, fun x => run x.1 x.2.1 x.2.2.1⟩
theorem ext : ExtOk Tryd.prog 127 F := ext_add64 Tryd.func127 (by kernel_rfl) (by kernel_rfl) (by kernel_rfl) (by kernel_rfl)
end Go.Bx.x_add64
namespace Go.Bx.wide_Add
def Js : List Nat := [8]
def C : Ctx := ⟨[(4, .bool), (22, T2), (56, T32)], [], [], fnL [(127, x_add64.F)], noSh, [], invL [], [(2, [4, 5]), (1, [2, 4, 6]), (4, [2, 3, 4, 6, 8]), (9, [2, 3, 4, 6, 8]), (21, [2, 4, 6])], [], [], 0, 0⟩
def St0 (x0 x1 : D0) : St := stL 28 [(0, .data T32 x0), (1, .data T32 x1)] []
def St1 (x6 x8 : Int) (c2 c3 c4 : D0) : St := stL 28 [(2, .ref 2 0 []), (3, .ref 3 0 []), (4, .ref 4 0 []), (6, .data T2 x6), (8, .data T1 x8)] [(2, .cell T32 (.data T32 c2) false), (3, .cell T32 (.data T32 c3) false), (4, .cell T32 (.data T32 c4) false)]
noncomputable def cd0 : Code := cL (cL (cR (cL (cR (cR (cB Tryd.f114))))))
def St2 (x6 : Int) (c2 c4 : D0) : St := stL 28 [(2, .ref 2 0 []), (4, .ref 4 0 []), (6, .data T2 x6)] [(2, .cell T32 (.data T32 c2) false), (4, .cell T32 (.data T32 c4) false)]
def l0s {α : Type} (Nx : Int -> Int -> D0 -> D0 -> D0 -> Option α) (Xt0 : Int -> D0 -> D0 -> Option α) (x6 x8 : Int) (c2 c3 c4 : D0) : Option α :=
 if (decide (x8 < 4)) = true then
  if 0 <= x8 /\ x8 < (4 : Int) then
   if 0 <= x8 /\ x8 < (4 : Int) then
    (x_add64.run (List.getD c2 (Int.toNat x8) 0) (List.getD c3 (Int.toNat x8) 0) x6).bind fun y1 =>
    if 0 <= x8 /\ x8 < (4 : Int) then
     Nx y1.2.1 (IntKind.i64.wrap (x8 + 1)) (List.set c2 (Int.toNat x8) y1.1) c3 c4
    else none
   else none
  else none
 else
  Xt0 x6 c2 c4
theorem l0s_eq {α : Type} (k : Nat) (next : St -> Option α) (Q : Ex -> St -> Option α) (x6 x8 : Int) (c2 c3 c4 : D0) :
  rnd C k cd0 9 Q next (St1 x6 x8 c2 c3 c4) = l0s (fun x6 x8 c2 c3 c4 => next (St1 x6 x8 c2 c3 c4)) (fun x6 c2 c4 => Q (.exit 0) (St2 x6 c2 c4)) x6 x8 c2 c3 c4 := by
 have h : ∀ (D L : DT α), denJ D L Js C cd0 (lq C 9 next Q) (St1 x6 x8 c2 c3 c4) = l0s (fun x6 x8 c2 c3 c4 => next (St1 x6 x8 c2 c3 c4)) (fun x6 c2 c4 => Q (.exit 0) (St2 x6 c2 c4)) x6 x8 c2 c3 c4 := by
  intro D L; kernel_rfl
 have h2 := via (k := k) h
 exact h2
def l0 {α : Type} (k : Nat) (Xt0 : Int -> D0 -> D0 -> Option α) : Nat -> Int -> Int -> D0 -> D0 -> D0 -> Option α
 | 0, _, _, _, _, _ => none
 | n + 1, x6, x8, c2, c3, c4 => l0s (l0 k Xt0 n) Xt0 x6 x8 c2 c3 c4
theorem l0_eq {α : Type} (k : Nat) (Q : Ex -> St -> Option α) : ∀ (n : Nat) (x6 x8 : Int) (c2 c3 c4 : D0), iter (rnd C k cd0 9 Q) n (St1 x6 x8 c2 c3 c4) = l0 k (fun x6 c2 c4 => Q (.exit 0) (St2 x6 c2 c4)) n x6 x8 c2 c3 c4
 | 0, _, _, _, _, _ => rfl
 | n + 1, x6, x8, c2, c3, c4 => (iter_succ _ _ _).trans ((l0s_eq k _ Q x6 x8 c2 c3 c4).trans (congrArg (fun N => l0s N (fun x6 c2 c4 => Q (.exit 0) (St2 x6 c2 c4)) x6 x8 c2 c3 c4) (by funext; exact l0_eq k Q n _ _ _ _ _)))
noncomputable def cd1 : Code := cR (cR (cR (cB Tryd.f114)))
def St3 (x6 : Int) (c2 c4 : D0) : St := stL 28 [(2, .ref 2 0 []), (4, .ref 4 0 []), (6, .data T2 x6)] [(2, .cell T32 (.data T32 c2) false), (4, .cell T32 (.data T32 c4) false)]
def St4 (x5 : Bool) (c4 : D0) : St := stL 28 [(4, .ref 4 0 []), (5, .data .bool x5)] [(4, .cell T32 (.data T32 c4) false)]
def j0 {α : Type} (Rt : Bool -> D0 -> Option α) (x6 : Int) (c2 c4 : D0) : Option α :=
 Rt (x6 == 1) c2
theorem j0_eq {α : Type} (k : Nat) (Q : Ex -> St -> Option α) (x6 : Int) (c2 c4 : D0) :
  (den C k) cd1 Q (St3 x6 c2 c4) = j0 (fun x5 c4 => Q .ret (St4 x5 c4)) x6 c2 c4 := by
 have h : ∀ (D L : DT α), denJ D L Js C cd1 Q (St3 x6 c2 c4) = j0 (fun x5 c4 => Q .ret (St4 x5 c4)) x6 c2 c4 := by
  intro D L; kernel_rfl
 have h2 := via (k := k) h
 exact h2
theorem a0 {α : Type} (k : Nat) (Q : Ex -> St -> Option α) (x6 x8 : Int) (c2 c3 c4 : D0) :
  (lp C k) cd0 (blkQ C 0 (sq (den C k) (lp C k) Js C cd1 Q)) (St1 x6 x8 c2 c3 c4) = l0 k (fun x6 c2 c4 => j0 (fun x5 c4 => Q .ret (St4 x5 c4)) x6 c2 c4) k x6 x8 c2 c3 c4 :=
 (lp_iter 9 (by kernel_rfl)).trans ((l0_eq k _ k x6 x8 c2 c3 c4).trans (congrArg (fun X => l0 k X k x6 x8 c2 c3 c4) (funext fun x6 => funext fun c2 => funext fun c4 => (Eq.trans (b := (den C k) cd1 Q (St3 x6 c2 c4)) (by kernel_rfl) (by simp only [j0_eq])))))
def top {α : Type} (k : Nat) (Rt : Bool -> D0 -> Option α) (x0 x1 : D0) : Option α :=
 l0 k (fun x6 c2 c4 => j0 Rt x6 c2 c4) k 0 0 x0 x1 [0, 0, 0, 0]
theorem top_eq {α : Type} (k : Nat) (Q : Ex -> St -> Option α) (x0 x1 : D0) :
  (den C k) (cB Tryd.f114) Q (St0 x0 x1) = top k (fun x5 c4 => Q .ret (St4 x5 c4)) x0 x1 := by
 have h : ∀ (D L : DT α), denJ D L Js C (cB Tryd.f114) Q (St0 x0 x1) =
    L cd0 (blkQ C 0 (sq D L Js C cd1 Q)) (St1 0 0 x0 x1 [0, 0, 0, 0]) := by
  intro D L; kernel_rfl
 have h2 := via (k := k) h
 refine h2.trans ?_
 simp only [a0]
 first | rfl | kernel_rfl
def run (x0 x1 : D0) : Option D9 := top (α := List Int × Bool × Unit) fuel (fun x5 c4 => some (c4, x5, ())) x0 x1
def F : Fn := ⟨T33, T39, true, fun x => run x.1 x.2.1⟩
theorem con : Con Tryd.prog 114 F :=
 con_of (C := C) (ctx_ok (by kernel_rfl) (by kernel_rfl) (by kernel_rfl) (by kernel_rfl) ⟨.inr x_add64.ext, trivial⟩) (by kernel_rfl) Tryd.func114 (c := cB Tryd.f114) (by kernel_rfl) (by kernel_rfl) F (fun x => by simp [F, spread, Tryd.ntmps114]) (fun x => (St0 x.1 x.2.1)) (fun x => by kernel_rfl) fun x => (top_eq fuel _ x.1 x.2.1).trans (by kernel_rfl)
theorem named : Named Tryd.prog 114 := named_of Tryd.func114 (by kernel_rfl) (by kernel_rfl)
end Go.Bx.wide_Add
namespace Go.Bx.x_sub64
def run (x y c : Int) : Option (Int × Int × Unit) := sub64 x y c
def F : Fn := ⟨U3, U2, true, fun x => run x.1 x.2.1 x.2.2.1⟩
theorem ext : ExtOk Tryd.prog 121 F := ext_sub64 Tryd.func121 (by kernel_rfl) (by kernel_rfl) (by kernel_rfl) (by kernel_rfl)
end Go.Bx.x_sub64
namespace Go.Bx.wide_Sub
def Js : List Nat := [8]
def C : Ctx := ⟨[(4, .bool), (22, T2), (56, T32)], [], [], fnL [(121, x_sub64.F)], noSh, [], invL [], [(2, [4, 5]), (1, [2, 4, 6]), (4, [2, 3, 4, 6, 8]), (9, [2, 3, 4, 6, 8]), (21, [2, 4, 6])], [], [], 0, 0⟩
def St0 (x0 x1 : D0) : St := stL 28 [(0, .data T32 x0), (1, .data T32 x1)] []
def St1 (x6 x8 : Int) (c2 c3 c4 : D0) : St := stL 28 [(2, .ref 2 0 []), (3, .ref 3 0 []), (4, .ref 4 0 []), (6, .data T2 x6), (8, .data T1 x8)] [(2, .cell T32 (.data T32 c2) false), (3, .cell T32 (.data T32 c3) false), (4, .cell T32 (.data T32 c4) false)]
noncomputable def cd0 : Code := cL (cL (cR (cL (cR (cR (cB Tryd.f99))))))
def St2 (x6 : Int) (c2 c4 : D0) : St := stL 28 [(2, .ref 2 0 []), (4, .ref 4 0 []), (6, .data T2 x6)] [(2, .cell T32 (.data T32 c2) false), (4, .cell T32 (.data T32 c4) false)]
def l0s {α : Type} (Nx : Int -> Int -> D0 -> D0 -> D0 -> Option α) (Xt0 : Int -> D0 -> D0 -> Option α) (x6 x8 : Int) (c2 c3 c4 : D0) : Option α :=
 if (decide (x8 < 4)) = true then
  if 0 <= x8 /\ x8 < (4 : Int) then
   if 0 <= x8 /\ x8 < (4 : Int) then
    (x_sub64.run (List.getD c2 (Int.toNat x8) 0) (List.getD c3 (Int.toNat x8) 0) x6).bind fun y1 =>
    if 0 <= x8 /\ x8 < (4 : Int) then
     Nx y1.2.1 (IntKind.i64.wrap (x8 + 1)) (List.set c2 (Int.toNat x8) y1.1) c3 c4
    else none
   else none
  else none
 else
  Xt0 x6 c2 c4
theorem l0s_eq {α : Type} (k : Nat) (next : St -> Option α) (Q : Ex -> St -> Option α) (x6 x8 : Int) (c2 c3 c4 : D0) :
  rnd C k cd0 9 Q next (St1 x6 x8 c2 c3 c4) = l0s (fun x6 x8 c2 c3 c4 => next (St1 x6 x8 c2 c3 c4)) (fun x6 c2 c4 => Q (.exit 0) (St2 x6 c2 c4)) x6 x8 c2 c3 c4 := by
 have h : ∀ (D L : DT α), denJ D L Js C cd0 (lq C 9 next Q) (St1 x6 x8 c2 c3 c4) = l0s (fun x6 x8 c2 c3 c4 => next (St1 x6 x8 c2 c3 c4)) (fun x6 c2 c4 => Q (.exit 0) (St2 x6 c2 c4)) x6 x8 c2 c3 c4 := by
  intro D L; kernel_rfl
 have h2 := via (k := k) h
 exact h2
def l0 {α : Type} (k : Nat) (Xt0 : Int -> D0 -> D0 -> Option α) : Nat -> Int -> Int -> D0 -> D0 -> D0 -> Option α
 | 0, _, _, _, _, _ => none
 | n + 1, x6, x8, c2, c3, c4 => l0s (l0 k Xt0 n) Xt0 x6 x8 c2 c3 c4
theorem l0_eq {α : Type} (k : Nat) (Q : Ex -> St -> Option α) : ∀ (n : Nat) (x6 x8 : Int) (c2 c3 c4 : D0), iter (rnd C k cd0 9 Q) n (St1 x6 x8 c2 c3 c4) = l0 k (fun x6 c2 c4 => Q (.exit 0) (St2 x6 c2 c4)) n x6 x8 c2 c3 c4
 | 0, _, _, _, _, _ => rfl
 | n + 1, x6, x8, c2, c3, c4 => (iter_succ _ _ _).trans ((l0s_eq k _ Q x6 x8 c2 c3 c4).trans (congrArg (fun N => l0s N (fun x6 c2 c4 => Q (.exit 0) (St2 x6 c2 c4)) x6 x8 c2 c3 c4) (by funext; exact l0_eq k Q n _ _ _ _ _)))
noncomputable def cd1 : Code := cR (cR (cR (cB Tryd.f99)))
def St3 (x6 : Int) (c2 c4 : D0) : St := stL 28 [(2, .ref 2 0 []), (4, .ref 4 0 []), (6, .data T2 x6)] [(2, .cell T32 (.data T32 c2) false), (4, .cell T32 (.data T32 c4) false)]
def St4 (x5 : Bool) (c4 : D0) : St := stL 28 [(4, .ref 4 0 []), (5, .data .bool x5)] [(4, .cell T32 (.data T32 c4) false)]
def j0 {α : Type} (Rt : Bool -> D0 -> Option α) (x6 : Int) (c2 c4 : D0) : Option α :=
 Rt (x6 == 1) c2
theorem j0_eq {α : Type} (k : Nat) (Q : Ex -> St -> Option α) (x6 : Int) (c2 c4 : D0) :
  (den C k) cd1 Q (St3 x6 c2 c4) = j0 (fun x5 c4 => Q .ret (St4 x5 c4)) x6 c2 c4 := by
 have h : ∀ (D L : DT α), denJ D L Js C cd1 Q (St3 x6 c2 c4) = j0 (fun x5 c4 => Q .ret (St4 x5 c4)) x6 c2 c4 := by
  intro D L; kernel_rfl
 have h2 := via (k := k) h
 exact h2
theorem a0 {α : Type} (k : Nat) (Q : Ex -> St -> Option α) (x6 x8 : Int) (c2 c3 c4 : D0) :
  (lp C k) cd0 (blkQ C 0 (sq (den C k) (lp C k) Js C cd1 Q)) (St1 x6 x8 c2 c3 c4) = l0 k (fun x6 c2 c4 => j0 (fun x5 c4 => Q .ret (St4 x5 c4)) x6 c2 c4) k x6 x8 c2 c3 c4 :=
 (lp_iter 9 (by kernel_rfl)).trans ((l0_eq k _ k x6 x8 c2 c3 c4).trans (congrArg (fun X => l0 k X k x6 x8 c2 c3 c4) (funext fun x6 => funext fun c2 => funext fun c4 => (Eq.trans (b := (den C k) cd1 Q (St3 x6 c2 c4)) (by kernel_rfl) (by simp only [j0_eq])))))
def top {α : Type} (k : Nat) (Rt : Bool -> D0 -> Option α) (x0 x1 : D0) : Option α :=
 l0 k (fun x6 c2 c4 => j0 Rt x6 c2 c4) k 0 0 x0 x1 [0, 0, 0, 0]
theorem top_eq {α : Type} (k : Nat) (Q : Ex -> St -> Option α) (x0 x1 : D0) :
  (den C k) (cB Tryd.f99) Q (St0 x0 x1) = top k (fun x5 c4 => Q .ret (St4 x5 c4)) x0 x1 := by
 have h : ∀ (D L : DT α), denJ D L Js C (cB Tryd.f99) Q (St0 x0 x1) =
    L cd0 (blkQ C 0 (sq D L Js C cd1 Q)) (St1 0 0 x0 x1 [0, 0, 0, 0]) := by
  intro D L; kernel_rfl
 have h2 := via (k := k) h
 refine h2.trans ?_
 simp only [a0]
 first | rfl | kernel_rfl
def run (x0 x1 : D0) : Option D9 := top (α := List Int × Bool × Unit) fuel (fun x5 c4 => some (c4, x5, ())) x0 x1
def F : Fn := ⟨T33, T39, true, fun x => run x.1 x.2.1⟩
theorem con : Con Tryd.prog 99 F :=
 con_of (C := C) (ctx_ok (by kernel_rfl) (by kernel_rfl) (by kernel_rfl) (by kernel_rfl) ⟨.inr x_sub64.ext, trivial⟩) (by kernel_rfl) Tryd.func99 (c := cB Tryd.f99) (by kernel_rfl) (by kernel_rfl) F (fun x => by simp [F, spread, Tryd.ntmps99]) (fun x => (St0 x.1 x.2.1)) (fun x => by kernel_rfl) fun x => (top_eq fuel _ x.1 x.2.1).trans (by kernel_rfl)
theorem named : Named Tryd.prog 99 := named_of Tryd.func99 (by kernel_rfl) (by kernel_rfl)
end Go.Bx.wide_Sub
namespace Go.Bx.wide_Cmp
def Js : List Nat := [9]
def C : Ctx := ⟨[(3, T1), (22, T2), (56, T32)], [], [], fnL [], noSh, [], invL [], [(2, [4]), (1, []), (4, [2, 3, 5]), (7, [2, 3, 5]), (6, [2, 3, 5]), (24, [])], [], [], 0, 0⟩
def St0 (x0 x1 : D0) : St := stL 26 [(0, .data T32 x0), (1, .data T32 x1)] []
def St1 (x5 : Int) (c2 c3 : D0) : St := stL 26 [(2, .ref 2 0 []), (3, .ref 3 0 []), (5, .data T1 x5)] [(2, .cell T32 (.data T32 c2) false), (3, .cell T32 (.data T32 c3) false)]
noncomputable def cd0 : Code := cL (cL (cR (cL (cR (cB Tryd.f82)))))
def St2 (x4 : Int) : St := stL 26 [(4, .data T1 x4)] []
def St3 : St := stL 26 [] []
def l0s {α : Type} (Nx : Int -> D0 -> D0 -> Option α) (Rt : Int -> Option α) (Xt0 : Option α) (x5 : Int) (c2 c3 : D0) : Option α :=
 if (decide (x5 >= 0)) = true then
  if 0 <= x5 /\ x5 < (4 : Int) then
   if 0 <= x5 /\ x5 < (4 : Int) then
    if (decide ((List.getD c2 (Int.toNat x5) 0) < (List.getD c3 (Int.toNat x5) 0))) = true then
     Rt (-1)
    else
     if 0 <= x5 /\ x5 < (4 : Int) then
      if 0 <= x5 /\ x5 < (4 : Int) then
       if (decide ((List.getD c2 (Int.toNat x5) 0) > (List.getD c3 (Int.toNat x5) 0))) = true then
        Rt 1
       else
        Nx (IntKind.i64.wrap (x5 - 1)) c2 c3
      else none
     else none
   else none
  else none
 else
  Xt0
theorem l0s_eq {α : Type} (k : Nat) (next : St -> Option α) (Q : Ex -> St -> Option α) (x5 : Int) (c2 c3 : D0) :
  rnd C k cd0 6 Q next (St1 x5 c2 c3) = l0s (fun x5 c2 c3 => next (St1 x5 c2 c3)) (fun x4 => Q .ret (St2 x4)) (Q (.exit 0) St3) x5 c2 c3 := by
 have h : ∀ (D L : DT α), denJ D L Js C cd0 (lq C 6 next Q) (St1 x5 c2 c3) = l0s (fun x5 c2 c3 => next (St1 x5 c2 c3)) (fun x4 => Q .ret (St2 x4)) (Q (.exit 0) St3) x5 c2 c3 := by
  intro D L; kernel_rfl
 have h2 := via (k := k) h
 exact h2
def l0 {α : Type} (k : Nat) (Rt : Int -> Option α) (Xt0 : Option α) : Nat -> Int -> D0 -> D0 -> Option α
 | 0, _, _, _ => none
 | n + 1, x5, c2, c3 => l0s (l0 k Rt Xt0 n) Rt Xt0 x5 c2 c3
theorem l0_eq {α : Type} (k : Nat) (Q : Ex -> St -> Option α) : ∀ (n : Nat) (x5 : Int) (c2 c3 : D0), iter (rnd C k cd0 6 Q) n (St1 x5 c2 c3) = l0 k (fun x4 => Q .ret (St2 x4)) (Q (.exit 0) St3) n x5 c2 c3
 | 0, _, _, _ => rfl
 | n + 1, x5, c2, c3 => (iter_succ _ _ _).trans ((l0s_eq k _ Q x5 c2 c3).trans (congrArg (fun N => l0s N (fun x4 => Q .ret (St2 x4)) (Q (.exit 0) St3) x5 c2 c3) (by funext; exact l0_eq k Q n _ _ _)))
theorem l0_congr {α : Type} (k : Nat) (Rt : Int -> Option α) (Xt0 : Option α) (Rtq : Int -> Option α) (Xt0q : Option α) (hRt : ∀ (x4 : Int), Rt x4 = Rtq x4) (hXt0 : Xt0 = Xt0q) (n : Nat) (x5 : Int) (c2 c3 : D0) : l0 k Rt Xt0 n x5 c2 c3 = l0 k Rtq Xt0q n x5 c2 c3 := by
 obtain rfl : Rt = Rtq := by funext x4; exact hRt x4
 obtain rfl : Xt0 = Xt0q := hXt0
 rfl
noncomputable def cd1 : Code := cR (cR (cB Tryd.f82))
def St4 : St := stL 26 [] []
def j0 {α : Type} (Rt : Int -> Option α) : Option α :=
 Rt 0
theorem j0_eq {α : Type} (k : Nat) (Q : Ex -> St -> Option α) :
  (den C k) cd1 Q St4 = j0 (fun x4 => Q .ret (St2 x4)) := by
 have h : ∀ (D L : DT α), denJ D L Js C cd1 Q St4 = j0 (fun x4 => Q .ret (St2 x4)) := by
  intro D L; kernel_rfl
 have h2 := via (k := k) h
 exact h2
theorem a0 {α : Type} (k : Nat) (Q : Ex -> St -> Option α) (x5 : Int) (c2 c3 : D0) :
  (lp C k) cd0 (blkQ C 0 (sq (den C k) (lp C k) Js C cd1 Q)) (St1 x5 c2 c3) = l0 k (fun x4 => (fun x4 => Q .ret (St2 x4)) x4) (j0 (fun x4 => Q .ret (St2 x4))) k x5 c2 c3 :=
 (lp_iter 6 (by kernel_rfl)).trans ((l0_eq k _ k x5 c2 c3).trans (l0_congr k _ _ _ _ (fun x4 => (by kernel_rfl)) (Eq.trans (b := (den C k) cd1 Q St4) (by kernel_rfl) (by simp only [j0_eq])) k x5 c2 c3))
def top {α : Type} (k : Nat) (Rt : Int -> Option α) (x0 x1 : D0) : Option α :=
 l0 k (fun x4 => Rt x4) (j0 Rt) k 3 x0 x1
theorem top_eq {α : Type} (k : Nat) (Q : Ex -> St -> Option α) (x0 x1 : D0) :
  (den C k) (cB Tryd.f82) Q (St0 x0 x1) = top k (fun x4 => Q .ret (St2 x4)) x0 x1 := by
 have h : ∀ (D L : DT α), denJ D L Js C (cB Tryd.f82) Q (St0 x0 x1) =
    L cd0 (blkQ C 0 (sq D L Js C cd1 Q)) (St1 3 x0 x1) := by
  intro D L; kernel_rfl
 have h2 := via (k := k) h
 refine h2.trans ?_
 simp only [a0]
 first | rfl | kernel_rfl
def run (x0 x1 : D0) : Option (Int) := top (α := Int) fuel (fun x4 => some x4) x0 x1
def F : Fn := ⟨T33, T1, false, fun x => run x.1 x.2.1⟩
theorem con : Con Tryd.prog 82 F :=
 con_of (C := C) (ctx_ok (by kernel_rfl) (by kernel_rfl) (by kernel_rfl) (by kernel_rfl) trivial) (by kernel_rfl) Tryd.func82 (c := cB Tryd.f82) (by kernel_rfl) (by kernel_rfl) F (fun x => by simp [F, spread, Tryd.ntmps82]) (fun x => (St0 x.1 x.2.1)) (fun x => by kernel_rfl) fun x => (top_eq fuel _ x.1 x.2.1).trans (by kernel_rfl)
theorem named : Named Tryd.prog 82 := named_of Tryd.func82 (by kernel_rfl) (by kernel_rfl)
end Go.Bx.wide_Cmp
namespace Go.Bx.basculeref_times
def Js : List Nat := [13, 14, 15]
def C : Ctx := ⟨[(22, T2), (119, T68)], [], [], fnL [], noSh, [], invL [], [(2, [4]), (1, [5]), (4, [1, 5, 18, 19, 20]), (7, [1, 5, 6, 8, 18, 19, 20]), (10, [1, 5, 6, 7, 8, 18, 19, 20, 25, 26, 27]), (9, [1, 5, 18, 19, 20]), (21, [1, 5, 6, 7, 8, 18, 19, 20, 25, 26, 27]), (36, [1, 5, 6, 8, 18, 19, 20]), (39, [1, 5, 18, 19, 20]), (42, [5])], [], [], 0, 0⟩
def St0 (x0 x1 : D0) : St := stL 63 [(0, .data T68 x0), (1, .data T68 x1)] []
def St1 (x1 x18 : D0) (x19 x20 : Int) (c17 : D0) : St := stL 63 [(1, .data T68 x1), (5, .app 17 0), (18, .data T68 x18), (19, .data T1 x19), (20, .data T1 x20)] [(17, .buf T2 c17 0 false)]
noncomputable def cd0 : Code := cL (cL (cR (cL (cR (cR (cB Tryd.f105))))))
def St2 (x1 : D0) (x6 x7 x8 : Int) (x18 : D0) (x19 x20 : Int) (x25 : D0) (x26 x27 : Int) (c17 : D0) : St := stL 63 [(1, .data T68 x1), (5, .app 17 0), (6, .data T1 x6), (7, .data T2 x7), (8, .data T2 x8), (18, .data T68 x18), (19, .data T1 x19), (20, .data T1 x20), (25, .data T68 x25), (26, .data T1 x26), (27, .data T1 x27)] [(17, .buf T2 c17 0 false)]
noncomputable def cd1 : Code := cL (cL (cR (cL (cR (cR (cL (cL (cR (cR (cL (cL (cR (cL (cR (cR (cB Tryd.f105))))))))))))))))
def St3 (x1 : D0) (x6 x8 : Int) (x18 : D0) (x19 x20 : Int) (c17 : D0) : St := stL 63 [(1, .data T68 x1), (5, .app 17 0), (6, .data T1 x6), (8, .data T2 x8), (18, .data T68 x18), (19, .data T1 x19), (20, .data T1 x20)] [(17, .buf T2 c17 0 false)]
def l1s {α : Type} (Nx : D0 -> Int -> Int -> Int -> D0 -> Int -> Int -> D0 -> Int -> Int -> D0 -> Option α) (Xt2 : D0 -> Int -> Int -> D0 -> Int -> Int -> D0 -> Option α) (x1 : D0) (x6 x7 x8 : Int) (x18 : D0) (x19 x20 : Int) (x25 : D0) (x26 x27 : Int) (c17 : D0) : Option α :=
 if (decide (x27 < x26)) = true then
  if 0 <= x27 /\ x27 < (x25.length : Int) then
   if 0 <= (IntKind.i64.wrap (x6 + x27)) /\ (IntKind.i64.wrap (x6 + x27)) < (c17.length : Int) then
    if 0 <= (IntKind.i64.wrap (x6 + x27)) /\ (IntKind.i64.wrap (x6 + x27)) < (c17.length : Int) then
     Nx x1 x6 x7 (IntKind.u64.wrap (Int.tdiv (IntKind.u64.wrap ((IntKind.u64.wrap ((IntKind.u64.wrap (x7 * (List.getD x25 (Int.toNat x27) 0))) + (List.getD c17 (Int.toNat (IntKind.i64.wrap (x6 + x27))) 0))) + x8)) 4294967296)) x18 x19 x20 x25 x26 (IntKind.i64.wrap (x27 + 1)) (List.set c17 (Int.toNat (IntKind.i64.wrap (x6 + x27))) (Int.tmod (IntKind.u64.wrap ((IntKind.u64.wrap ((IntKind.u64.wrap (x7 * (List.getD x25 (Int.toNat x27) 0))) + (List.getD c17 (Int.toNat (IntKind.i64.wrap (x6 + x27))) 0))) + x8)) 4294967296))
    else none
   else none
  else none
 else
  Xt2 x1 x6 x8 x18 x19 x20 c17
theorem l1s_eq {α : Type} (k : Nat) (next : St -> Option α) (Q : Ex -> St -> Option α) (x1 : D0) (x6 x7 x8 : Int) (x18 : D0) (x19 x20 : Int) (x25 : D0) (x26 x27 : Int) (c17 : D0) :
  rnd C k cd1 21 Q next (St2 x1 x6 x7 x8 x18 x19 x20 x25 x26 x27 c17) = l1s (fun x1 x6 x7 x8 x18 x19 x20 x25 x26 x27 c17 => next (St2 x1 x6 x7 x8 x18 x19 x20 x25 x26 x27 c17)) (fun x1 x6 x8 x18 x19 x20 c17 => Q (.exit 2) (St3 x1 x6 x8 x18 x19 x20 c17)) x1 x6 x7 x8 x18 x19 x20 x25 x26 x27 c17 := by
 have h : ∀ (D L : DT α), denJ D L Js C cd1 (lq C 21 next Q) (St2 x1 x6 x7 x8 x18 x19 x20 x25 x26 x27 c17) = l1s (fun x1 x6 x7 x8 x18 x19 x20 x25 x26 x27 c17 => next (St2 x1 x6 x7 x8 x18 x19 x20 x25 x26 x27 c17)) (fun x1 x6 x8 x18 x19 x20 c17 => Q (.exit 2) (St3 x1 x6 x8 x18 x19 x20 c17)) x1 x6 x7 x8 x18 x19 x20 x25 x26 x27 c17 := by
  intro D L; kernel_rfl
 have h2 := via (k := k) h
 exact h2
def l1 {α : Type} (k : Nat) (Xt2 : D0 -> Int -> Int -> D0 -> Int -> Int -> D0 -> Option α) : Nat -> D0 -> Int -> Int -> Int -> D0 -> Int -> Int -> D0 -> Int -> Int -> D0 -> Option α
 | 0, _, _, _, _, _, _, _, _, _, _, _ => none
 | n + 1, x1, x6, x7, x8, x18, x19, x20, x25, x26, x27, c17 => l1s (l1 k Xt2 n) Xt2 x1 x6 x7 x8 x18 x19 x20 x25 x26 x27 c17
theorem l1_eq {α : Type} (k : Nat) (Q : Ex -> St -> Option α) : ∀ (n : Nat) (x1 : D0) (x6 x7 x8 : Int) (x18 : D0) (x19 x20 : Int) (x25 : D0) (x26 x27 : Int) (c17 : D0), iter (rnd C k cd1 21 Q) n (St2 x1 x6 x7 x8 x18 x19 x20 x25 x26 x27 c17) = l1 k (fun x1 x6 x8 x18 x19 x20 c17 => Q (.exit 2) (St3 x1 x6 x8 x18 x19 x20 c17)) n x1 x6 x7 x8 x18 x19 x20 x25 x26 x27 c17
 | 0, _, _, _, _, _, _, _, _, _, _, _ => rfl
 | n + 1, x1, x6, x7, x8, x18, x19, x20, x25, x26, x27, c17 => (iter_succ _ _ _).trans ((l1s_eq k _ Q x1 x6 x7 x8 x18 x19 x20 x25 x26 x27 c17).trans (congrArg (fun N => l1s N (fun x1 x6 x8 x18 x19 x20 c17 => Q (.exit 2) (St3 x1 x6 x8 x18 x19 x20 c17)) x1 x6 x7 x8 x18 x19 x20 x25 x26 x27 c17) (by funext; exact l1_eq k Q n _ _ _ _ _ _ _ _ _ _ _)))
noncomputable def cd2 : Code := cR (cR (cR (cL (cL (cR (cR (cL (cL (cR (cL (cR (cR (cB Tryd.f105)))))))))))))
noncomputable def cd3 : Code := cR (cR (cR (cL (cL (cR (cL (cR (cR (cB Tryd.f105)))))))))
def St4 (x1 : D0) (x6 x8 : Int) (x18 : D0) (x19 x20 : Int) (c17 : D0) : St := stL 63 [(1, .data T68 x1), (5, .app 17 0), (6, .data T1 x6), (8, .data T2 x8), (18, .data T68 x18), (19, .data T1 x19), (20, .data T1 x20)] [(17, .buf T2 c17 0 false)]
def St5 (x1 x18 : D0) (x19 x20 : Int) (c17 : D0) : St := stL 63 [(1, .data T68 x1), (5, .app 17 0), (18, .data T68 x18), (19, .data T1 x19), (20, .data T1 x20)] [(17, .buf T2 c17 0 false)]
def j1 {α : Type} (Nx : D0 -> D0 -> Int -> Int -> D0 -> Option α) (x1 x18 : D0) (x19 x20 : Int) (c17 : D0) : Option α :=
 Nx x1 x18 x19 (IntKind.i64.wrap (x20 + 1)) c17
theorem j1_eq {α : Type} (k : Nat) (next : St -> Option α) (Q : Ex -> St -> Option α) (x1 x18 : D0) (x19 x20 : Int) (c17 : D0) :
  (den C k) cd3 (lq C 9 next Q) (St5 x1 x18 x19 x20 c17) = j1 (fun x1 x18 x19 x20 c17 => next (St1 x1 x18 x19 x20 c17)) x1 x18 x19 x20 c17 := by
 have h : ∀ (D L : DT α), denJ D L Js C cd3 (lq C 9 next Q) (St5 x1 x18 x19 x20 c17) = j1 (fun x1 x18 x19 x20 c17 => next (St1 x1 x18 x19 x20 c17)) x1 x18 x19 x20 c17 := by
  intro D L; kernel_rfl
 have h2 := via (k := k) h
 exact h2
def j0 {α : Type} (Nx : D0 -> D0 -> Int -> Int -> D0 -> Option α) (x1 : D0) (x6 x8 : Int) (x18 : D0) (x19 x20 : Int) (c17 : D0) : Option α :=
 if 0 <= (IntKind.i64.wrap (x6 + (x1.length : Int))) /\ (IntKind.i64.wrap (x6 + (x1.length : Int))) < (c17.length : Int) then
  j1 Nx x1 x18 x19 x20 (List.set c17 (Int.toNat (IntKind.i64.wrap (x6 + (x1.length : Int)))) x8)
 else none
theorem j0_eq {α : Type} (k : Nat) (next : St -> Option α) (Q : Ex -> St -> Option α) (x1 : D0) (x6 x8 : Int) (x18 : D0) (x19 x20 : Int) (c17 : D0) :
  (den C k) cd2 (blkQ C 1 (sq (den C k) (lp C k) Js C cd3 (lq C 9 next Q))) (St4 x1 x6 x8 x18 x19 x20 c17) = j0 (fun x1 x18 x19 x20 c17 => next (St1 x1 x18 x19 x20 c17)) x1 x6 x8 x18 x19 x20 c17 := by
 have h : ∀ (D L : DT α), denJ D L Js C cd2 (blkQ C 1 (sq D L Js C cd3 (lq C 9 next Q))) (St4 x1 x6 x8 x18 x19 x20 c17) =
    if 0 <= (IntKind.i64.wrap (x6 + (x1.length : Int))) /\ (IntKind.i64.wrap (x6 + (x1.length : Int))) < (c17.length : Int) then
     D cd3 (lq C 9 next Q) (St5 x1 x18 x19 x20 (List.set c17 (Int.toNat (IntKind.i64.wrap (x6 + (x1.length : Int)))) x8))
    else none := by
  intro D L; kernel_rfl
 have h2 := via (k := k) h
 refine h2.trans ?_
 simp only [j1_eq]
 first | rfl | kernel_rfl
theorem a0 {α : Type} (k : Nat) (next : St -> Option α) (Q : Ex -> St -> Option α) (x1 : D0) (x6 x7 x8 : Int) (x18 : D0) (x19 x20 : Int) (x25 : D0) (x26 x27 : Int) (c17 : D0) :
  (lp C k) cd1 (blkQ C 2 (sq (den C k) (lp C k) Js C cd2 (blkQ C 1 (sq (den C k) (lp C k) Js C cd3 (lq C 9 next Q))))) (St2 x1 x6 x7 x8 x18 x19 x20 x25 x26 x27 c17) = l1 k (fun x1 x6 x8 x18 x19 x20 c17 => j0 (fun x1 x18 x19 x20 c17 => next (St1 x1 x18 x19 x20 c17)) x1 x6 x8 x18 x19 x20 c17) k x1 x6 x7 x8 x18 x19 x20 x25 x26 x27 c17 :=
 (lp_iter 21 (by kernel_rfl)).trans ((l1_eq k _ k x1 x6 x7 x8 x18 x19 x20 x25 x26 x27 c17).trans (congrArg (fun X => l1 k X k x1 x6 x7 x8 x18 x19 x20 x25 x26 x27 c17) (funext fun x1 => funext fun x6 => funext fun x8 => funext fun x18 => funext fun x19 => funext fun x20 => funext fun c17 => (Eq.trans (b := (den C k) cd2 (blkQ C 1 (sq (den C k) (lp C k) Js C cd3 (lq C 9 next Q))) (St4 x1 x6 x8 x18 x19 x20 c17)) (by kernel_rfl) (by simp only [j0_eq])))))
def St6 (c17 : D0) : St := stL 63 [(5, .app 17 0)] [(17, .buf T2 c17 0 false)]
def l0s {α : Type} (k : Nat) (Nx : D0 -> D0 -> Int -> Int -> D0 -> Option α) (Xt0 : D0 -> Option α) (x1 x18 : D0) (x19 x20 : Int) (c17 : D0) : Option α :=
 if (decide (x20 < x19)) = true then
  if 0 <= x20 /\ x20 < (x18.length : Int) then
   l1 k (fun x1 x6 x8 x18 x19 x20 c17 => j0 Nx x1 x6 x8 x18 x19 x20 c17) k x1 x20 (List.getD x18 (Int.toNat x20) 0) 0 x18 x19 x20 x1 (x1.length : Int) 0 c17
  else none
 else
  Xt0 c17
theorem l0s_eq {α : Type} (k : Nat) (next : St -> Option α) (Q : Ex -> St -> Option α) (x1 x18 : D0) (x19 x20 : Int) (c17 : D0) :
  rnd C k cd0 9 Q next (St1 x1 x18 x19 x20 c17) = l0s k (fun x1 x18 x19 x20 c17 => next (St1 x1 x18 x19 x20 c17)) (fun c17 => Q (.exit 0) (St6 c17)) x1 x18 x19 x20 c17 := by
 have h : ∀ (D L : DT α), denJ D L Js C cd0 (lq C 9 next Q) (St1 x1 x18 x19 x20 c17) =
    if (decide (x20 < x19)) = true then
     if 0 <= x20 /\ x20 < (x18.length : Int) then
      L cd1 (blkQ C 2 (sq D L Js C cd2 (blkQ C 1 (sq D L Js C cd3 (lq C 9 next Q))))) (St2 x1 x20 (List.getD x18 (Int.toNat x20) 0) 0 x18 x19 x20 x1 (x1.length : Int) 0 c17)
     else none
    else
     Q (.exit 0) (St6 c17) := by
  intro D L; kernel_rfl
 have h2 := via (k := k) h
 refine h2.trans ?_
 simp only [a0]
 first | rfl | kernel_rfl
def l0 {α : Type} (k : Nat) (Xt0 : D0 -> Option α) : Nat -> D0 -> D0 -> Int -> Int -> D0 -> Option α
 | 0, _, _, _, _, _ => none
 | n + 1, x1, x18, x19, x20, c17 => l0s k (l0 k Xt0 n) Xt0 x1 x18 x19 x20 c17
theorem l0_eq {α : Type} (k : Nat) (Q : Ex -> St -> Option α) : ∀ (n : Nat) (x1 x18 : D0) (x19 x20 : Int) (c17 : D0), iter (rnd C k cd0 9 Q) n (St1 x1 x18 x19 x20 c17) = l0 k (fun c17 => Q (.exit 0) (St6 c17)) n x1 x18 x19 x20 c17
 | 0, _, _, _, _, _ => rfl
 | n + 1, x1, x18, x19, x20, c17 => (iter_succ _ _ _).trans ((l0s_eq k _ Q x1 x18 x19 x20 c17).trans (congrArg (fun N => l0s k N (fun c17 => Q (.exit 0) (St6 c17)) x1 x18 x19 x20 c17) (by funext; exact l0_eq k Q n _ _ _ _ _)))
noncomputable def cd4 : Code := cR (cR (cR (cB Tryd.f105)))
def St7 (c17 : D0) : St := stL 63 [(5, .app 17 0)] [(17, .buf T2 c17 0 false)]
def St8 (c17 : D0) : St := stL 63 [(4, .app 17 0)] [(17, .buf T2 c17 0 false)]
def j2 {α : Type} (Rt : D0 -> Option α) (c17 : D0) : Option α :=
 Rt c17
theorem j2_eq {α : Type} (k : Nat) (Q : Ex -> St -> Option α) (c17 : D0) :
  (den C k) cd4 Q (St7 c17) = j2 (fun c17 => Q .ret (St8 c17)) c17 := by
 have h : ∀ (D L : DT α), denJ D L Js C cd4 Q (St7 c17) = j2 (fun c17 => Q .ret (St8 c17)) c17 := by
  intro D L; kernel_rfl
 have h2 := via (k := k) h
 exact h2
theorem a1 {α : Type} (k : Nat) (Q : Ex -> St -> Option α) (x1 x18 : D0) (x19 x20 : Int) (c17 : D0) :
  (lp C k) cd0 (blkQ C 0 (sq (den C k) (lp C k) Js C cd4 Q)) (St1 x1 x18 x19 x20 c17) = l0 k (fun c17 => j2 (fun c17 => Q .ret (St8 c17)) c17) k x1 x18 x19 x20 c17 :=
 (lp_iter 9 (by kernel_rfl)).trans ((l0_eq k _ k x1 x18 x19 x20 c17).trans (congrArg (fun X => l0 k X k x1 x18 x19 x20 c17) (funext fun c17 => (Eq.trans (b := (den C k) cd4 Q (St7 c17)) (by kernel_rfl) (by simp only [j2_eq])))))
def top {α : Type} (k : Nat) (Rt : D0 -> Option α) (x0 x1 : D0) : Option α :=
 if 0 <= (IntKind.i64.wrap ((x0.length : Int) + (x1.length : Int))) /\ id (IntKind.i64.wrap ((x0.length : Int) + (x1.length : Int))) = (IntKind.i64.wrap ((x0.length : Int) + (x1.length : Int))) /\ fitB (IntKind.i64.wrap ((x0.length : Int) + (x1.length : Int))).toNat 8 = true then
  l0 k (fun c17 => j2 Rt c17) k x1 x0 (x0.length : Int) 0 (List.replicate (Int.toNat (IntKind.i64.wrap ((x0.length : Int) + (x1.length : Int)))) 0)
 else none
theorem top_eq {α : Type} (k : Nat) (Q : Ex -> St -> Option α) (x0 x1 : D0) :
  (den C k) (cB Tryd.f105) Q (St0 x0 x1) = top k (fun c17 => Q .ret (St8 c17)) x0 x1 := by
 have h : ∀ (D L : DT α), denJ D L Js C (cB Tryd.f105) Q (St0 x0 x1) =
    if 0 <= (IntKind.i64.wrap ((x0.length : Int) + (x1.length : Int))) /\ id (IntKind.i64.wrap ((x0.length : Int) + (x1.length : Int))) = (IntKind.i64.wrap ((x0.length : Int) + (x1.length : Int))) /\ fitB (IntKind.i64.wrap ((x0.length : Int) + (x1.length : Int))).toNat 8 = true then
     L cd0 (blkQ C 0 (sq D L Js C cd4 Q)) (St1 x1 x0 (x0.length : Int) 0 (List.replicate (Int.toNat (IntKind.i64.wrap ((x0.length : Int) + (x1.length : Int)))) 0))
    else none := by
  intro D L; kernel_rfl
 have h2 := via (k := k) h
 refine h2.trans ?_
 simp only [a1]
 first | rfl | kernel_rfl
def run (x0 x1 : D0) : Option D0 := top (α := List Int) fuel (fun c17 => some c17) x0 x1
def F : Fn := ⟨T69, T68, false, fun x => run x.1 x.2.1⟩
theorem con : Con Tryd.prog 105 F :=
 con_of (C := C) (ctx_ok (by kernel_rfl) (by kernel_rfl) (by kernel_rfl) (by kernel_rfl) trivial) (by kernel_rfl) Tryd.func105 (c := cB Tryd.f105) (by kernel_rfl) (by kernel_rfl) F (fun x => by simp [F, spread, Tryd.ntmps105]) (fun x => (St0 x.1 x.2.1)) (fun x => by kernel_rfl) fun x => (top_eq fuel _ x.1 x.2.1).trans (by kernel_rfl)
theorem named : Named Tryd.prog 105 := named_of Tryd.func105 (by kernel_rfl) (by kernel_rfl)
end Go.Bx.basculeref_times
namespace Go.Bx.basculeref_shorn
def Js : List Nat := [4]
def C : Ctx := ⟨[(22, T2), (119, T68)], [], [], fnL [], noSh, [], invL [], [(2, [2]), (1, [0]), (4, [0]), (3, [0]), (9, [0])], [], [], 0, 0⟩
def St0 (x0 : D0) : St := stL 21 [(0, .data T68 x0)] []
def St1 (x0 : D0) : St := stL 21 [(0, .data T68 x0)] []
noncomputable def cd0 : Code := cL (cL (cL (cR (cB Tryd.f123))))
def St2 (x0 : D0) : St := stL 21 [(0, .data T68 x0)] []
def l0s {α : Type} (Nx : D0 -> Option α) (Xt0 : D0 -> Option α) (x0 : D0) : Option α :=
 cond (decide (0 <= (IntKind.i64.wrap ((x0.length : Int) - 1)) /\ (IntKind.i64.wrap ((x0.length : Int) - 1)) < (x0.length : Int)) || !((decide ((x0.length : Int) > 0)) == true)) (
  if (cond (decide ((x0.length : Int) > 0)) ((List.getD x0 (Int.toNat (IntKind.i64.wrap ((x0.length : Int) - 1))) 0) == 0) false) = true then
   if 0 <= (0 : Int) /\ (0 : Int) <= (IntKind.i64.wrap ((x0.length : Int) - 1)) /\ (IntKind.i64.wrap ((x0.length : Int) - 1)) <= (x0.length : Int) then
    Nx (cutL x0 0 (IntKind.i64.wrap ((x0.length : Int) - 1)))
   else none
  else
   Xt0 x0) none
theorem l0s_eq {α : Type} (k : Nat) (next : St -> Option α) (Q : Ex -> St -> Option α) (x0 : D0) :
  rnd C k cd0 3 Q next (St1 x0) = l0s (fun x0 => next (St1 x0)) (fun x0 => Q (.exit 0) (St2 x0)) x0 := by
 have h : ∀ (D L : DT α), denJ D L Js C cd0 (lq C 3 next Q) (St1 x0) = l0s (fun x0 => next (St1 x0)) (fun x0 => Q (.exit 0) (St2 x0)) x0 := by
  intro D L; kernel_rfl
 have h2 := via (k := k) h
 exact h2
def l0 {α : Type} (k : Nat) (Xt0 : D0 -> Option α) : Nat -> D0 -> Option α
 | 0, _ => none
 | n + 1, x0 => l0s (l0 k Xt0 n) Xt0 x0
theorem l0_eq {α : Type} (k : Nat) (Q : Ex -> St -> Option α) : ∀ (n : Nat) (x0 : D0), iter (rnd C k cd0 3 Q) n (St1 x0) = l0 k (fun x0 => Q (.exit 0) (St2 x0)) n x0
 | 0, _ => rfl
 | n + 1, x0 => (iter_succ _ _ _).trans ((l0s_eq k _ Q x0).trans (congrArg (fun N => l0s N (fun x0 => Q (.exit 0) (St2 x0)) x0) (by funext; exact l0_eq k Q n _)))
noncomputable def cd1 : Code := cR (cR (cB Tryd.f123))
def St3 (x0 : D0) : St := stL 21 [(0, .data T68 x0)] []
def St4 (x2 : D0) : St := stL 21 [(2, .data T68 x2)] []
def j0 {α : Type} (Rt : D0 -> Option α) (x0 : D0) : Option α :=
 Rt x0
theorem j0_eq {α : Type} (k : Nat) (Q : Ex -> St -> Option α) (x0 : D0) :
  (den C k) cd1 Q (St3 x0) = j0 (fun x2 => Q .ret (St4 x2)) x0 := by
 have h : ∀ (D L : DT α), denJ D L Js C cd1 Q (St3 x0) = j0 (fun x2 => Q .ret (St4 x2)) x0 := by
  intro D L; kernel_rfl
 have h2 := via (k := k) h
 exact h2
theorem a0 {α : Type} (k : Nat) (Q : Ex -> St -> Option α) (x0 : D0) :
  (lp C k) cd0 (blkQ C 0 (sq (den C k) (lp C k) Js C cd1 Q)) (St1 x0) = l0 k (fun x0 => j0 (fun x2 => Q .ret (St4 x2)) x0) k x0 :=
 (lp_iter 3 (by kernel_rfl)).trans ((l0_eq k _ k x0).trans (congrArg (fun X => l0 k X k x0) (funext fun x0 => (Eq.trans (b := (den C k) cd1 Q (St3 x0)) (by kernel_rfl) (by simp only [j0_eq])))))
def top {α : Type} (k : Nat) (Rt : D0 -> Option α) (x0 : D0) : Option α :=
 l0 k (fun x0 => j0 Rt x0) k x0
theorem top_eq {α : Type} (k : Nat) (Q : Ex -> St -> Option α) (x0 : D0) :
  (den C k) (cB Tryd.f123) Q (St0 x0) = top k (fun x2 => Q .ret (St4 x2)) x0 := by
 have h : ∀ (D L : DT α), denJ D L Js C (cB Tryd.f123) Q (St0 x0) =
    L cd0 (blkQ C 0 (sq D L Js C cd1 Q)) (St1 x0) := by
  intro D L; kernel_rfl
 have h2 := via (k := k) h
 refine h2.trans ?_
 simp only [a0]
 first | rfl | kernel_rfl
def run (x0 : D0) : Option D0 := top (α := List Int) fuel (fun x2 => some x2) x0
def F : Fn := ⟨T70, T68, false, fun x => run x.1⟩
theorem con : Con Tryd.prog 123 F :=
 con_of (C := C) (ctx_ok (by kernel_rfl) (by kernel_rfl) (by kernel_rfl) (by kernel_rfl) trivial) (by kernel_rfl) Tryd.func123 (c := cB Tryd.f123) (by kernel_rfl) (by kernel_rfl) F (fun x => by simp [F, spread, Tryd.ntmps123]) (fun x => (St0 x.1)) (fun x => by kernel_rfl) fun x => (top_eq fuel _ x.1).trans (by kernel_rfl)
theorem named : Named Tryd.prog 123 := named_of Tryd.func123 (by kernel_rfl) (by kernel_rfl)
end Go.Bx.basculeref_shorn
namespace Go.Bx.basculeref_small
def Js : List Nat := []
def C : Ctx := ⟨[(4, .bool), (22, T2), (119, T68)], [], [], fnL [(123, basculeref_shorn.F)], noSh, [], invL [], [(2, [2, 3])], [], [], 0, 0⟩
def St0 (x0 : D0) : St := stL 15 [(0, .data T68 x0)] []
def St1 (x2 : Int) (x3 : Bool) : St := stL 15 [(2, .data T2 x2), (3, .data .bool x3)] []
def top {α : Type} (Rt : Int -> Bool -> Option α) (x0 : D0) : Option α :=
 (basculeref_shorn.run x0).bind fun y1 =>
 if ((y1.length : Int) == 0) = true then
  Rt 0 true
 else
  if 0 <= (0 : Int) /\ (0 : Int) < (y1.length : Int) then
   Rt (List.getD y1 0 0) ((y1.length : Int) == 1)
  else none
theorem top_eq {α : Type} (k : Nat) (Q : Ex -> St -> Option α) (x0 : D0) :
  (den C k) (cB Tryd.f122) Q (St0 x0) = top (fun x2 x3 => Q .ret (St1 x2 x3)) x0 := by
 have h : ∀ (D L : DT α), denJ D L Js C (cB Tryd.f122) Q (St0 x0) = top (fun x2 x3 => Q .ret (St1 x2 x3)) x0 := by
  intro D L; kernel_rfl
 have h2 := via (k := k) h
 exact h2
def run (x0 : D0) : Option D19 := top (α := Int × Bool × Unit) (fun x2 x3 => some (x2, x3, ())) x0
def F : Fn := ⟨T70, T71, true, fun x => run x.1⟩
theorem con : Con Tryd.prog 122 F :=
 con_of (C := C) (ctx_ok (by kernel_rfl) (by kernel_rfl) (by kernel_rfl) (by kernel_rfl) ⟨.inl ⟨basculeref_shorn.con, basculeref_shorn.named⟩, trivial⟩) (by kernel_rfl) Tryd.func122 (c := cB Tryd.f122) (by kernel_rfl) (by kernel_rfl) F (fun x => by simp [F, spread, Tryd.ntmps122]) (fun x => (St0 x.1)) (fun x => by kernel_rfl) fun x => (top_eq fuel _ x.1).trans (by kernel_rfl)
theorem named : Named Tryd.prog 122 := named_of Tryd.func122 (by kernel_rfl) (by kernel_rfl)
end Go.Bx.basculeref_small
namespace Go.Bx.basculeref_divided
def Js : List Nat := [11, 12, 15, 23, 25]
def C : Ctx := ⟨[(22, T2), (119, T68)], [], [], fnL [(104, basculeref_less.F), (105, basculeref_times.F), (107, basculeref_compare.F), (122, basculeref_small.F), (123, basculeref_shorn.F)], noSh, [], invL [], [(2, [4, 5]), (7, [4, 5]), (10, [0, 1, 4, 5, 10]), (13, [0, 1, 4, 5, 10, 11]), (16, [0, 1, 4, 5, 10, 11, 12]), (1, [4, 8]), (4, [0, 4, 6, 8, 9]), (18, [0, 4, 6, 8, 9]), (30, [4, 8]), (33, [0, 1, 5]), (39, [0, 1, 4, 5, 10]), (42, [0, 1, 4, 5, 10]), (51, [0, 1, 4, 5, 10, 11, 12]), (66, [0, 1, 4, 5, 10, 11]), (72, [4, 5])], [(2, [.dat true 4 [], .dat true 5 []]), (39, [.dat true 5 []])], [66], 0, 0⟩
def St0 (x0 x1 : D0) : St := stL 96 [(0, .data T68 x0), (1, .data T68 x1)] []
def St1 (x0 : D0) (x6 x8 x9 : Int) (c22 : D0) : St := stL 96 [(0, .data T68 x0), (4, .app 22 0), (6, .data T2 x6), (8, .data T2 x8), (9, .data T1 x9)] [(22, .buf T2 c22 0 false)]
noncomputable def cd0 : Code := cL (cL (cR (cL (cR (cR (cL (cR (cR (cL (cR (cB Tryd.f100)))))))))))
def St2 (x8 : Int) (c22 : D0) : St := stL 96 [(4, .app 22 0), (8, .data T2 x8)] [(22, .buf T2 c22 0 false)]
def l0s {α : Type} (Nx : D0 -> Int -> Int -> Int -> D0 -> Option α) (Xt0 : Int -> D0 -> Option α) (x0 : D0) (x6 x8 x9 : Int) (c22 : D0) : Option α :=
 if (decide (x9 >= 0)) = true then
  if 0 <= x9 /\ x9 < (x0.length : Int) then
   if x6 ≠ 0 then
    if x6 ≠ 0 then
     if 0 <= x9 /\ x9 < (c22.length : Int) then
      Nx x0 x6 (Int.tmod (IntKind.u64.wrap ((IntKind.u64.wrap (x8 * 4294967296)) + (List.getD x0 (Int.toNat x9) 0))) x6) (IntKind.i64.wrap (x9 - 1)) (List.set c22 (Int.toNat x9) (IntKind.u64.wrap (Int.tdiv (IntKind.u64.wrap ((IntKind.u64.wrap (x8 * 4294967296)) + (List.getD x0 (Int.toNat x9) 0))) x6)))
     else none
    else none
   else none
  else none
 else
  Xt0 x8 c22
theorem l0s_eq {α : Type} (k : Nat) (next : St -> Option α) (Q : Ex -> St -> Option α) (x0 : D0) (x6 x8 x9 : Int) (c22 : D0) :
  rnd C k cd0 18 Q next (St1 x0 x6 x8 x9 c22) = l0s (fun x0 x6 x8 x9 c22 => next (St1 x0 x6 x8 x9 c22)) (fun x8 c22 => Q (.exit 0) (St2 x8 c22)) x0 x6 x8 x9 c22 := by
 have h : ∀ (D L : DT α), denJ D L Js C cd0 (lq C 18 next Q) (St1 x0 x6 x8 x9 c22) = l0s (fun x0 x6 x8 x9 c22 => next (St1 x0 x6 x8 x9 c22)) (fun x8 c22 => Q (.exit 0) (St2 x8 c22)) x0 x6 x8 x9 c22 := by
  intro D L; kernel_rfl
 have h2 := via (k := k) h
 exact h2
def l0 {α : Type} (k : Nat) (Xt0 : Int -> D0 -> Option α) : Nat -> D0 -> Int -> Int -> Int -> D0 -> Option α
 | 0, _, _, _, _, _ => none
 | n + 1, x0, x6, x8, x9, c22 => l0s (l0 k Xt0 n) Xt0 x0 x6 x8 x9 c22
theorem l0_eq {α : Type} (k : Nat) (Q : Ex -> St -> Option α) : ∀ (n : Nat) (x0 : D0) (x6 x8 x9 : Int) (c22 : D0), iter (rnd C k cd0 18 Q) n (St1 x0 x6 x8 x9 c22) = l0 k (fun x8 c22 => Q (.exit 0) (St2 x8 c22)) n x0 x6 x8 x9 c22
 | 0, _, _, _, _, _ => rfl
 | n + 1, x0, x6, x8, x9, c22 => (iter_succ _ _ _).trans ((l0s_eq k _ Q x0 x6 x8 x9 c22).trans (congrArg (fun N => l0s N (fun x8 c22 => Q (.exit 0) (St2 x8 c22)) x0 x6 x8 x9 c22) (by funext; exact l0_eq k Q n _ _ _ _ _)))
noncomputable def cd1 : Code := cR (cR (cR (cL (cR (cR (cL (cR (cB Tryd.f100))))))))
noncomputable def cd2 : Code := cR (cR (cB Tryd.f100))
def St3 (x8 : Int) (c22 : D0) : St := stL 96 [(4, .app 22 0), (8, .data T2 x8)] [(22, .buf T2 c22 0 false)]
def St4 (x4 x5 : D0) : St := stL 96 [(4, .data T68 x4), (5, .data T68 x5)] []
def j0 {α : Type} (Rt : D0 -> D0 -> Option α) (x8 : Int) (c22 : D0) : Option α :=
 Rt c22 [x8]
theorem j0_eq {α : Type} (k : Nat) (Q : Ex -> St -> Option α) (x8 : Int) (c22 : D0) :
  (den C k) cd1 (sq (den C k) (lp C k) Js C cd2 Q) (St3 x8 c22) = j0 (fun x4 x5 => Q .ret (St4 x4 x5)) x8 c22 := by
 have h : ∀ (D L : DT α), denJ D L Js C cd1 (sq D L Js C cd2 Q) (St3 x8 c22) = j0 (fun x4 x5 => Q .ret (St4 x4 x5)) x8 c22 := by
  intro D L; kernel_rfl
 have h2 := via (k := k) h
 exact h2
theorem a0 {α : Type} (k : Nat) (Q : Ex -> St -> Option α) (x0 : D0) (x6 x8 x9 : Int) (c22 : D0) :
  (lp C k) cd0 (blkQ C 0 (sq (den C k) (lp C k) Js C cd1 (sq (den C k) (lp C k) Js C cd2 Q))) (St1 x0 x6 x8 x9 c22) = l0 k (fun x8 c22 => j0 (fun x4 x5 => Q .ret (St4 x4 x5)) x8 c22) k x0 x6 x8 x9 c22 :=
 (lp_iter 18 (by kernel_rfl)).trans ((l0_eq k _ k x0 x6 x8 x9 c22).trans (congrArg (fun X => l0 k X k x0 x6 x8 x9 c22) (funext fun x8 => funext fun c22 => (Eq.trans (b := (den C k) cd1 (sq (den C k) (lp C k) Js C cd2 Q) (St3 x8 c22)) (by kernel_rfl) (by simp only [j0_eq])))))
def St5 (x0 x1 : D0) : St := stL 96 [(0, .data T68 x0), (1, .data T68 x1), (5, .full T2 [])] []
def St6 (x0 x1 x5 : D0) (x10 : Int) (c51 : D0) : St := stL 96 [(0, .data T68 x0), (1, .data T68 x1), (4, .app 51 0), (5, .data T68 x5), (10, .data T1 x10)] [(51, .buf T2 c51 0 false)]
noncomputable def cd3 : Code := cL (cL (cR (cL (cR (cR (cR (cB Tryd.f100)))))))
def St7 (x0 x1 : D0) (x10 x11 x12 : Int) (c51 c66 : D0) : St := stL 96 [(0, .data T68 x0), (1, .data T68 x1), (4, .app 51 0), (5, .app 66 0), (10, .data T1 x10), (11, .data T2 x11), (12, .data T2 x12)] [(51, .buf T2 c51 0 false), (66, .buf T2 c66 0 true)]
noncomputable def cd4 : Code := cL (cL (cL (cR (cR (cL (cL (cR (cL (cL (cR (cL (cR (cR (cR (cB Tryd.f100)))))))))))))))
def St8 (x0 x1 : D0) (x10 x11 : Int) (c51 c66 : D0) : St := stL 96 [(0, .data T68 x0), (1, .data T68 x1), (4, .app 51 0), (5, .app 66 0), (10, .data T1 x10), (11, .data T2 x11)] [(51, .buf T2 c51 0 false), (66, .buf T2 c66 0 true)]
def l2s {α : Type} (Nx : D0 -> D0 -> Int -> Int -> Int -> D0 -> D0 -> Option α) (Xt4 : D0 -> D0 -> Int -> Int -> D0 -> D0 -> Option α) (x0 x1 : D0) (x10 x11 x12 : Int) (c51 c66 : D0) : Option α :=
 if (decide ((IntKind.u64.wrap (x12 - x11)) > 1)) = true then
  (basculeref_times.run x1 [(IntKind.u64.wrap (Int.tdiv (IntKind.u64.wrap (x11 + x12)) 2))]).bind fun y3 =>
  (basculeref_compare.run y3 c66).bind fun y4 =>
  if (decide (y4 <= 0)) = true then
   Nx x0 x1 x10 (IntKind.u64.wrap (Int.tdiv (IntKind.u64.wrap (x11 + x12)) 2)) x12 c51 c66
  else
   Nx x0 x1 x10 x11 (IntKind.u64.wrap (Int.tdiv (IntKind.u64.wrap (x11 + x12)) 2)) c51 c66
 else
  Xt4 x0 x1 x10 x11 c51 c66
theorem l2s_eq {α : Type} (k : Nat) (next : St -> Option α) (Q : Ex -> St -> Option α) (x0 x1 : D0) (x10 x11 x12 : Int) (c51 c66 : D0) :
  rnd C k cd4 51 Q next (St7 x0 x1 x10 x11 x12 c51 c66) = l2s (fun x0 x1 x10 x11 x12 c51 c66 => next (St7 x0 x1 x10 x11 x12 c51 c66)) (fun x0 x1 x10 x11 c51 c66 => Q (.exit 4) (St8 x0 x1 x10 x11 c51 c66)) x0 x1 x10 x11 x12 c51 c66 := by
 have h : ∀ (D L : DT α), denJ D L Js C cd4 (lq C 51 next Q) (St7 x0 x1 x10 x11 x12 c51 c66) = l2s (fun x0 x1 x10 x11 x12 c51 c66 => next (St7 x0 x1 x10 x11 x12 c51 c66)) (fun x0 x1 x10 x11 c51 c66 => Q (.exit 4) (St8 x0 x1 x10 x11 c51 c66)) x0 x1 x10 x11 x12 c51 c66 := by
  intro D L; kernel_rfl
 have h2 := via (k := k) h
 exact h2
def l2 {α : Type} (k : Nat) (Xt4 : D0 -> D0 -> Int -> Int -> D0 -> D0 -> Option α) : Nat -> D0 -> D0 -> Int -> Int -> Int -> D0 -> D0 -> Option α
 | 0, _, _, _, _, _, _, _ => none
 | n + 1, x0, x1, x10, x11, x12, c51, c66 => l2s (l2 k Xt4 n) Xt4 x0 x1 x10 x11 x12 c51 c66
theorem l2_eq {α : Type} (k : Nat) (Q : Ex -> St -> Option α) : ∀ (n : Nat) (x0 x1 : D0) (x10 x11 x12 : Int) (c51 c66 : D0), iter (rnd C k cd4 51 Q) n (St7 x0 x1 x10 x11 x12 c51 c66) = l2 k (fun x0 x1 x10 x11 c51 c66 => Q (.exit 4) (St8 x0 x1 x10 x11 c51 c66)) n x0 x1 x10 x11 x12 c51 c66
 | 0, _, _, _, _, _, _, _ => rfl
 | n + 1, x0, x1, x10, x11, x12, c51, c66 => (iter_succ _ _ _).trans ((l2s_eq k _ Q x0 x1 x10 x11 x12 c51 c66).trans (congrArg (fun N => l2s N (fun x0 x1 x10 x11 c51 c66 => Q (.exit 4) (St8 x0 x1 x10 x11 c51 c66)) x0 x1 x10 x11 x12 c51 c66) (by funext; exact l2_eq k Q n _ _ _ _ _ _ _)))
noncomputable def cd5 : Code := cR (cR (cR (cL (cL (cR (cL (cL (cR (cL (cR (cR (cR (cB Tryd.f100)))))))))))))
noncomputable def cd6 : Code := cR (cR (cL (cL (cR (cL (cR (cR (cR (cB Tryd.f100)))))))))
def St9 (x0 x1 : D0) (x10 x11 : Int) (c51 c66 : D0) : St := stL 96 [(0, .data T68 x0), (1, .data T68 x1), (4, .app 51 0), (5, .app 66 0), (10, .data T1 x10), (11, .data T2 x11)] [(51, .buf T2 c51 0 false), (66, .buf T2 c66 0 true)]
def St10 (x0 x1 x5 : D0) (x10 : Int) (c51 : D0) : St := stL 96 [(0, .data T68 x0), (1, .data T68 x1), (4, .app 51 0), (5, .data T68 x5), (10, .data T1 x10)] [(51, .buf T2 c51 0 false)]
def j3 {α : Type} (Nx : D0 -> D0 -> D0 -> Int -> D0 -> Option α) (x0 x1 x5 : D0) (x10 : Int) (c51 : D0) : Option α :=
 Nx x0 x1 x5 (IntKind.i64.wrap (x10 - 1)) c51
theorem j3_eq {α : Type} (k : Nat) (next : St -> Option α) (Q : Ex -> St -> Option α) (x0 x1 x5 : D0) (x10 : Int) (c51 : D0) :
  (den C k) cd6 (lq C 39 next Q) (St10 x0 x1 x5 x10 c51) = j3 (fun x0 x1 x5 x10 c51 => next (St6 x0 x1 x5 x10 c51)) x0 x1 x5 x10 c51 := by
 have h : ∀ (D L : DT α), denJ D L Js C cd6 (lq C 39 next Q) (St10 x0 x1 x5 x10 c51) = j3 (fun x0 x1 x5 x10 c51 => next (St6 x0 x1 x5 x10 c51)) x0 x1 x5 x10 c51 := by
  intro D L; kernel_rfl
 have h2 := via (k := k) h
 exact h2
def j2 {α : Type} (Nx : D0 -> D0 -> D0 -> Int -> D0 -> Option α) (x0 x1 : D0) (x10 x11 : Int) (c51 c66 : D0) : Option α :=
 if 0 <= x10 /\ x10 < (c51.length : Int) then
  (basculeref_times.run x1 [x11]).bind fun y5 =>
  (basculeref_less.run c66 y5).bind fun y6 =>
  j3 Nx x0 x1 y6 x10 (List.set c51 (Int.toNat x10) x11)
 else none
theorem j2_eq {α : Type} (k : Nat) (next : St -> Option α) (Q : Ex -> St -> Option α) (x0 x1 : D0) (x10 x11 : Int) (c51 c66 : D0) :
  (den C k) cd5 (blkQ C 3 (sq (den C k) (lp C k) Js C cd6 (lq C 39 next Q))) (St9 x0 x1 x10 x11 c51 c66) = j2 (fun x0 x1 x5 x10 c51 => next (St6 x0 x1 x5 x10 c51)) x0 x1 x10 x11 c51 c66 := by
 have h : ∀ (D L : DT α), denJ D L Js C cd5 (blkQ C 3 (sq D L Js C cd6 (lq C 39 next Q))) (St9 x0 x1 x10 x11 c51 c66) =
    if 0 <= x10 /\ x10 < (c51.length : Int) then
     (basculeref_times.run x1 [x11]).bind fun y5 =>
     (basculeref_less.run c66 y5).bind fun y6 =>
     D cd6 (lq C 39 next Q) (St10 x0 x1 y6 x10 (List.set c51 (Int.toNat x10) x11))
    else none := by
  intro D L; kernel_rfl
 have h2 := via (k := k) h
 refine h2.trans ?_
 simp only [j3_eq]
 first | rfl | kernel_rfl
theorem a1 {α : Type} (k : Nat) (next : St -> Option α) (Q : Ex -> St -> Option α) (x0 x1 : D0) (x10 x11 x12 : Int) (c51 c66 : D0) :
  (lp C k) cd4 (blkQ C 4 (sq (den C k) (lp C k) Js C cd5 (blkQ C 3 (sq (den C k) (lp C k) Js C cd6 (lq C 39 next Q))))) (St7 x0 x1 x10 x11 x12 c51 c66) = l2 k (fun x0 x1 x10 x11 c51 c66 => j2 (fun x0 x1 x5 x10 c51 => next (St6 x0 x1 x5 x10 c51)) x0 x1 x10 x11 c51 c66) k x0 x1 x10 x11 x12 c51 c66 :=
 (lp_iter 51 (by kernel_rfl)).trans ((l2_eq k _ k x0 x1 x10 x11 x12 c51 c66).trans (congrArg (fun X => l2 k X k x0 x1 x10 x11 x12 c51 c66) (funext fun x0 => funext fun x1 => funext fun x10 => funext fun x11 => funext fun c51 => funext fun c66 => (Eq.trans (b := (den C k) cd5 (blkQ C 3 (sq (den C k) (lp C k) Js C cd6 (lq C 39 next Q))) (St9 x0 x1 x10 x11 c51 c66)) (by kernel_rfl) (by simp only [j2_eq])))))
def St11 (x5 c51 : D0) : St := stL 96 [(4, .app 51 0), (5, .data T68 x5)] [(51, .buf T2 c51 0 false)]
def l1s {α : Type} (k : Nat) (Nx : D0 -> D0 -> D0 -> Int -> D0 -> Option α) (Xt2 : D0 -> D0 -> Option α) (x0 x1 x5 : D0) (x10 : Int) (c51 : D0) : Option α :=
 if (decide (x10 >= 0)) = true then
  if 0 <= x10 /\ x10 < (x0.length : Int) then
   (basculeref_shorn.run x5).bind fun y2 =>
   if fitB (1 + y2.length) 8 = true then
    l2 k (fun x0 x1 x10 x11 c51 c66 => j2 Nx x0 x1 x10 x11 c51 c66) k x0 x1 x10 0 4294967296 c51 ([(List.getD x0 (Int.toNat x10) 0)] ++ y2)
   else none
  else none
 else
  Xt2 x5 c51
theorem l1s_eq {α : Type} (k : Nat) (next : St -> Option α) (Q : Ex -> St -> Option α) (x0 x1 x5 : D0) (x10 : Int) (c51 : D0) :
  rnd C k cd3 39 Q next (St6 x0 x1 x5 x10 c51) = l1s k (fun x0 x1 x5 x10 c51 => next (St6 x0 x1 x5 x10 c51)) (fun x5 c51 => Q (.exit 2) (St11 x5 c51)) x0 x1 x5 x10 c51 := by
 have h : ∀ (D L : DT α), denJ D L Js C cd3 (lq C 39 next Q) (St6 x0 x1 x5 x10 c51) =
    if (decide (x10 >= 0)) = true then
     if 0 <= x10 /\ x10 < (x0.length : Int) then
      (basculeref_shorn.run x5).bind fun y2 =>
      if fitB (1 + y2.length) 8 = true then
       L cd4 (blkQ C 4 (sq D L Js C cd5 (blkQ C 3 (sq D L Js C cd6 (lq C 39 next Q))))) (St7 x0 x1 x10 0 4294967296 c51 ([(List.getD x0 (Int.toNat x10) 0)] ++ y2))
      else none
     else none
    else
     Q (.exit 2) (St11 x5 c51) := by
  intro D L; kernel_rfl
 have h2 := via (k := k) h
 refine h2.trans ?_
 simp only [a1]
 first | rfl | kernel_rfl
def l1 {α : Type} (k : Nat) (Xt2 : D0 -> D0 -> Option α) : Nat -> D0 -> D0 -> D0 -> Int -> D0 -> Option α
 | 0, _, _, _, _, _ => none
 | n + 1, x0, x1, x5, x10, c51 => l1s k (l1 k Xt2 n) Xt2 x0 x1 x5 x10 c51
theorem l1_eq {α : Type} (k : Nat) (Q : Ex -> St -> Option α) : ∀ (n : Nat) (x0 x1 x5 : D0) (x10 : Int) (c51 : D0), iter (rnd C k cd3 39 Q) n (St6 x0 x1 x5 x10 c51) = l1 k (fun x5 c51 => Q (.exit 2) (St11 x5 c51)) n x0 x1 x5 x10 c51
 | 0, _, _, _, _, _ => rfl
 | n + 1, x0, x1, x5, x10, c51 => (iter_succ _ _ _).trans ((l1s_eq k _ Q x0 x1 x5 x10 c51).trans (congrArg (fun N => l1s k N (fun x5 c51 => Q (.exit 2) (St11 x5 c51)) x0 x1 x5 x10 c51) (by funext; exact l1_eq k Q n _ _ _ _ _)))
noncomputable def cd7 : Code := cR (cR (cR (cR (cB Tryd.f100))))
def St12 (x5 c51 : D0) : St := stL 96 [(4, .app 51 0), (5, .data T68 x5)] [(51, .buf T2 c51 0 false)]
def j4 {α : Type} (Rt : D0 -> D0 -> Option α) (x5 c51 : D0) : Option α :=
 Rt c51 x5
theorem j4_eq {α : Type} (k : Nat) (Q : Ex -> St -> Option α) (x5 c51 : D0) :
  (den C k) cd7 Q (St12 x5 c51) = j4 (fun x4 x5 => Q .ret (St4 x4 x5)) x5 c51 := by
 have h : ∀ (D L : DT α), denJ D L Js C cd7 Q (St12 x5 c51) = j4 (fun x4 x5 => Q .ret (St4 x4 x5)) x5 c51 := by
  intro D L; kernel_rfl
 have h2 := via (k := k) h
 exact h2
theorem a2 {α : Type} (k : Nat) (Q : Ex -> St -> Option α) (x0 x1 x5 : D0) (x10 : Int) (c51 : D0) :
  (lp C k) cd3 (blkQ C 2 (sq (den C k) (lp C k) Js C cd7 Q)) (St6 x0 x1 x5 x10 c51) = l1 k (fun x5 c51 => j4 (fun x4 x5 => Q .ret (St4 x4 x5)) x5 c51) k x0 x1 x5 x10 c51 :=
 (lp_iter 39 (by kernel_rfl)).trans ((l1_eq k _ k x0 x1 x5 x10 c51).trans (congrArg (fun X => l1 k X k x0 x1 x5 x10 c51) (funext fun x5 => funext fun c51 => (Eq.trans (b := (den C k) cd7 Q (St12 x5 c51)) (by kernel_rfl) (by simp only [j4_eq])))))
def j1 {α : Type} (k : Nat) (Rt : D0 -> D0 -> Option α) (x0 x1 : D0) : Option α :=
 if 0 <= (x0.length : Int) /\ id (x0.length : Int) = (x0.length : Int) /\ fitB (x0.length : Int).toNat 8 = true then
  l1 k (fun x5 c51 => j4 Rt x5 c51) k x0 x1 [] (IntKind.i64.wrap ((x0.length : Int) - 1)) (List.replicate (Int.toNat (x0.length : Int)) 0)
 else none
theorem j1_eq {α : Type} (k : Nat) (Q : Ex -> St -> Option α) (x0 x1 : D0) :
  (den C k) cd2 Q (St5 x0 x1) = j1 k (fun x4 x5 => Q .ret (St4 x4 x5)) x0 x1 := by
 have h : ∀ (D L : DT α), denJ D L Js C cd2 Q (St5 x0 x1) =
    if 0 <= (x0.length : Int) /\ id (x0.length : Int) = (x0.length : Int) /\ fitB (x0.length : Int).toNat 8 = true then
     L cd3 (blkQ C 2 (sq D L Js C cd7 Q)) (St6 x0 x1 [] (IntKind.i64.wrap ((x0.length : Int) - 1)) (List.replicate (Int.toNat (x0.length : Int)) 0))
    else none := by
  intro D L; kernel_rfl
 have h2 := via (k := k) h
 refine h2.trans ?_
 simp only [a2]
 first | rfl | kernel_rfl
def top {α : Type} (k : Nat) (Rt : D0 -> D0 -> Option α) (x0 x1 : D0) : Option α :=
 (basculeref_small.run x1).bind fun y1 =>
 if y1.2.1 = true then
  if 0 <= (x0.length : Int) /\ id (x0.length : Int) = (x0.length : Int) /\ fitB (x0.length : Int).toNat 8 = true then
   l0 k (fun x8 c22 => j0 Rt x8 c22) k x0 y1.1 0 (IntKind.i64.wrap ((x0.length : Int) - 1)) (List.replicate (Int.toNat (x0.length : Int)) 0)
  else none
 else
  j1 k Rt x0 x1
theorem top_eq {α : Type} (k : Nat) (Q : Ex -> St -> Option α) (x0 x1 : D0) :
  (den C k) (cB Tryd.f100) Q (St0 x0 x1) = top k (fun x4 x5 => Q .ret (St4 x4 x5)) x0 x1 := by
 have h : ∀ (D L : DT α), denJ D L Js C (cB Tryd.f100) Q (St0 x0 x1) =
    (basculeref_small.run x1).bind fun y1 =>
    if y1.2.1 = true then
     if 0 <= (x0.length : Int) /\ id (x0.length : Int) = (x0.length : Int) /\ fitB (x0.length : Int).toNat 8 = true then
      L cd0 (blkQ C 0 (sq D L Js C cd1 (sq D L Js C cd2 Q))) (St1 x0 y1.1 0 (IntKind.i64.wrap ((x0.length : Int) - 1)) (List.replicate (Int.toNat (x0.length : Int)) 0))
     else none
    else
     D cd2 Q (St5 x0 x1) := by
  intro D L; kernel_rfl
 have h2 := via (k := k) h
 refine h2.trans ?_
 simp only [a0, j1_eq]
 first | rfl | kernel_rfl
def run (x0 x1 : D0) : Option D20 := top (α := List Int × List Int × Unit) fuel (fun x4 x5 => some (x4, x5, ())) x0 x1
def F : Fn := ⟨T69, T69, true, fun x => run x.1 x.2.1⟩
theorem con : Con Tryd.prog 100 F :=
 con_of (C := C) (ctx_ok (by kernel_rfl) (by kernel_rfl) (by kernel_rfl) (by kernel_rfl) ⟨.inl ⟨basculeref_less.con, basculeref_less.named⟩, ⟨.inl ⟨basculeref_times.con, basculeref_times.named⟩, ⟨.inl ⟨basculeref_compare.con, basculeref_compare.named⟩, ⟨.inl ⟨basculeref_small.con, basculeref_small.named⟩, ⟨.inl ⟨basculeref_shorn.con, basculeref_shorn.named⟩, trivial⟩⟩⟩⟩⟩) (by kernel_rfl) Tryd.func100 (c := cB Tryd.f100) (by kernel_rfl) (by kernel_rfl) F (fun x => by simp [F, spread, Tryd.ntmps100]) (fun x => (St0 x.1 x.2.1)) (fun x => by kernel_rfl) fun x => (top_eq fuel _ x.1 x.2.1).trans (by kernel_rfl)
theorem named : Named Tryd.prog 100 := named_of Tryd.func100 (by kernel_rfl) (by kernel_rfl)
end Go.Bx.basculeref_divided
namespace Go.Bx.math_bits_Len64
def Js : List Nat := [5, 8, 11]
def C : Ctx := ⟨[(3, T1), (5, T9), (9, .str), (22, T2)], [], [], fnL [], noSh, [], invL [], [(2, [2]), (12, [0, 2]), (21, [0, 2]), (30, [0, 2])], [], [], 0, 0⟩
def St0 (x0 : Int) : St := stL 25 [(0, .data T2 x0)] []
def St1 (x0 x2 : Int) : St := stL 25 [(0, .data T2 x0), (2, .data T1 x2)] []
noncomputable def cd0 : Code := cR (cR (cB Tryd.f126))
def St2 (x0 x2 : Int) : St := stL 25 [(0, .data T2 x0), (2, .data T1 x2)] []
noncomputable def cd1 : Code := cR (cR (cR (cB Tryd.f126)))
def St3 (x0 x2 : Int) : St := stL 25 [(0, .data T2 x0), (2, .data T1 x2)] []
noncomputable def cd2 : Code := cR (cR (cR (cR (cB Tryd.f126))))
def St4 (x2 : Int) : St := stL 25 [(2, .data T1 x2)] []
def j2 {α : Type} (Rt : Int -> Option α) (x0 x2 : Int) : Option α :=
 if 0 <= (IntKind.u8.wrap x0) /\ (IntKind.u8.wrap x0) < (256 : Int) then
  Rt (IntKind.i64.wrap (x2 + (IntKind.i64.wrap (List.getD [0, 1, 2, 2, 3, 3, 3, 3, 4, 4, 4, 4, 4, 4, 4, 4, 5, 5, 5, 5, 5, 5, 5, 5, 5, 5, 5, 5, 5, 5, 5, 5, 6, 6, 6, 6, 6, 6, 6, 6, 6, 6, 6, 6, 6, 6, 6, 6, 6, 6, 6, 6, 6, 6, 6, 6, 6, 6, 6, 6, 6, 6, 6, 6, 7, 7, 7, 7, 7, 7, 7, 7, 7, 7, 7, 7, 7, 7, 7, 7, 7, 7, 7, 7, 7, 7, 7, 7, 7, 7, 7, 7, 7, 7, 7, 7, 7, 7, 7, 7, 7, 7, 7, 7, 7, 7, 7, 7, 7, 7, 7, 7, 7, 7, 7, 7, 7, 7, 7, 7, 7, 7, 7, 7, 7, 7, 7, 7, 8, 8, 8, 8, 8, 8, 8, 8, 8, 8, 8, 8, 8, 8, 8, 8, 8, 8, 8, 8, 8, 8, 8, 8, 8, 8, 8, 8, 8, 8, 8, 8, 8, 8, 8, 8, 8, 8, 8, 8, 8, 8, 8, 8, 8, 8, 8, 8, 8, 8, 8, 8, 8, 8, 8, 8, 8, 8, 8, 8, 8, 8, 8, 8, 8, 8, 8, 8, 8, 8, 8, 8, 8, 8, 8, 8, 8, 8, 8, 8, 8, 8, 8, 8, 8, 8, 8, 8, 8, 8, 8, 8, 8, 8, 8, 8, 8, 8, 8, 8, 8, 8, 8, 8, 8, 8, 8, 8, 8, 8, 8, 8, 8, 8, 8, 8, 8, 8, 8, 8, 8, 8, 8, 8, 8, 8, 8, 8] (Int.toNat (IntKind.u8.wrap x0)) 0))))
 else none
theorem j2_eq {α : Type} (k : Nat) (Q : Ex -> St -> Option α) (x0 x2 : Int) :
  (den C k) cd2 Q (St3 x0 x2) = j2 (fun x2 => Q .ret (St4 x2)) x0 x2 := by
 have h : ∀ (D L : DT α), denJ D L Js C cd2 Q (St3 x0 x2) = j2 (fun x2 => Q .ret (St4 x2)) x0 x2 := by
  intro D L; kernel_rfl
 have h2 := via (k := k) h
 exact h2
def j1 {α : Type} (Rt : Int -> Option α) (x0 x2 : Int) : Option α :=
 if (decide (x0 >= 256)) = true then
  j2 Rt (shrI .u64 x0 8) (IntKind.i64.wrap (x2 + 8))
 else
  j2 Rt x0 x2
theorem j1_eq {α : Type} (k : Nat) (Q : Ex -> St -> Option α) (x0 x2 : Int) :
  (den C k) cd1 Q (St2 x0 x2) = j1 (fun x2 => Q .ret (St4 x2)) x0 x2 := by
 have h : ∀ (D L : DT α), denJ D L Js C cd1 Q (St2 x0 x2) =
    if (decide (x0 >= 256)) = true then
     D cd2 Q (St3 (shrI .u64 x0 8) (IntKind.i64.wrap (x2 + 8)))
    else
     D cd2 Q (St3 x0 x2) := by
  intro D L; kernel_rfl
 have h2 := via (k := k) h
 refine h2.trans ?_
 simp only [j2_eq]
 first | rfl | kernel_rfl
def j0 {α : Type} (Rt : Int -> Option α) (x0 x2 : Int) : Option α :=
 if (decide (x0 >= 65536)) = true then
  j1 Rt (shrI .u64 x0 16) (IntKind.i64.wrap (x2 + 16))
 else
  j1 Rt x0 x2
theorem j0_eq {α : Type} (k : Nat) (Q : Ex -> St -> Option α) (x0 x2 : Int) :
  (den C k) cd0 Q (St1 x0 x2) = j0 (fun x2 => Q .ret (St4 x2)) x0 x2 := by
 have h : ∀ (D L : DT α), denJ D L Js C cd0 Q (St1 x0 x2) =
    if (decide (x0 >= 65536)) = true then
     D cd1 Q (St2 (shrI .u64 x0 16) (IntKind.i64.wrap (x2 + 16)))
    else
     D cd1 Q (St2 x0 x2) := by
  intro D L; kernel_rfl
 have h2 := via (k := k) h
 refine h2.trans ?_
 simp only [j1_eq]
 first | rfl | kernel_rfl
def top {α : Type} (Rt : Int -> Option α) (x0 : Int) : Option α :=
 if (decide (x0 >= 4294967296)) = true then
  j0 Rt (shrI .u64 x0 32) 32
 else
  j0 Rt x0 0
theorem top_eq {α : Type} (k : Nat) (Q : Ex -> St -> Option α) (x0 : Int) :
  (den C k) (cB Tryd.f126) Q (St0 x0) = top (fun x2 => Q .ret (St4 x2)) x0 := by
 have h : ∀ (D L : DT α), denJ D L Js C (cB Tryd.f126) Q (St0 x0) =
    if (decide (x0 >= 4294967296)) = true then
     D cd0 Q (St1 (shrI .u64 x0 32) 32)
    else
     D cd0 Q (St1 x0 0) := by
  intro D L; kernel_rfl
 have h2 := via (k := k) h
 refine h2.trans ?_
 simp only [j0_eq]
 first | rfl | kernel_rfl
def run (x0 : Int) : Option (Int) := top (α := Int) (fun x2 => some x2) x0
def F : Fn := ⟨T46, T1, false, fun x => run x.1⟩
theorem con : Con Tryd.prog 126 F :=
 con_of (C := C) (ctx_ok (by kernel_rfl) (by kernel_rfl) (by kernel_rfl) (by kernel_rfl) trivial) (by kernel_rfl) Tryd.func126 (c := cB Tryd.f126) (by kernel_rfl) (by kernel_rfl) F (fun x => by simp [F, spread, Tryd.ntmps126]) (fun x => (St0 x.1)) (fun x => by kernel_rfl) fun x => (top_eq fuel _ x.1).trans (by kernel_rfl)
theorem named : Named Tryd.prog 126 := named_of Tryd.func126 (by kernel_rfl) (by kernel_rfl)
end Go.Bx.math_bits_Len64
namespace Go.Bx.wide_length
def Js : List Nat := [8, 9]
def C : Ctx := ⟨[(3, T1), (56, T32)], [], [], fnL [(126, math_bits_Len64.F)], noSh, [], invL [], [(2, [2]), (1, [3]), (4, [3, 6, 7]), (9, [3, 6, 7]), (21, [3, 6, 7]), (24, [3])], [], [], 0, 0⟩
def St0 (x0 : D0) : St := stL 20 [(0, .data T32 x0)] []
def St1 (x3 : Int) (x6 : D0) (x7 : Int) : St := stL 20 [(3, .data T1 x3), (6, .data T32 x6), (7, .data T1 x7)] []
noncomputable def cd0 : Code := cL (cL (cR (cL (cR (cR (cB Tryd.f113))))))
def St2 (x3 : Int) (x6 : D0) (x7 : Int) : St := stL 20 [(3, .data T1 x3), (6, .data T32 x6), (7, .data T1 x7)] []
noncomputable def cd1 : Code := cR (cR (cR (cL (cL (cR (cL (cR (cR (cB Tryd.f113)))))))))
def j0 {α : Type} (Nx : Int -> D0 -> Int -> Option α) (x3 : Int) (x6 : D0) (x7 : Int) : Option α :=
 Nx x3 x6 (IntKind.i64.wrap (x7 + 1))
theorem j0_eq {α : Type} (k : Nat) (next : St -> Option α) (Q : Ex -> St -> Option α) (x3 : Int) (x6 : D0) (x7 : Int) :
  (den C k) cd1 (lq C 9 next Q) (St2 x3 x6 x7) = j0 (fun x3 x6 x7 => next (St1 x3 x6 x7)) x3 x6 x7 := by
 have h : ∀ (D L : DT α), denJ D L Js C cd1 (lq C 9 next Q) (St2 x3 x6 x7) = j0 (fun x3 x6 x7 => next (St1 x3 x6 x7)) x3 x6 x7 := by
  intro D L; kernel_rfl
 have h2 := via (k := k) h
 exact h2
def St3 (x3 : Int) : St := stL 20 [(3, .data T1 x3)] []
def l0s {α : Type} (Nx : Int -> D0 -> Int -> Option α) (Xt0 : Int -> Option α) (x3 : Int) (x6 : D0) (x7 : Int) : Option α :=
 if (decide (x7 < 4)) = true then
  if 0 <= x7 /\ x7 < (4 : Int) then
   if ((List.getD x6 (Int.toNat x7) 0) != 0) = true then
    (math_bits_Len64.run (List.getD x6 (Int.toNat x7) 0)).bind fun y1 =>
    j0 Nx (IntKind.i64.wrap ((IntKind.i64.wrap (64 * x7)) + y1)) x6 x7
   else
    j0 Nx x3 x6 x7
  else none
 else
  Xt0 x3
theorem l0s_eq {α : Type} (k : Nat) (next : St -> Option α) (Q : Ex -> St -> Option α) (x3 : Int) (x6 : D0) (x7 : Int) :
  rnd C k cd0 9 Q next (St1 x3 x6 x7) = l0s (fun x3 x6 x7 => next (St1 x3 x6 x7)) (fun x3 => Q (.exit 0) (St3 x3)) x3 x6 x7 := by
 have h : ∀ (D L : DT α), denJ D L Js C cd0 (lq C 9 next Q) (St1 x3 x6 x7) =
    if (decide (x7 < 4)) = true then
     if 0 <= x7 /\ x7 < (4 : Int) then
      if ((List.getD x6 (Int.toNat x7) 0) != 0) = true then
       (math_bits_Len64.run (List.getD x6 (Int.toNat x7) 0)).bind fun y1 =>
       D cd1 (lq C 9 next Q) (St2 (IntKind.i64.wrap ((IntKind.i64.wrap (64 * x7)) + y1)) x6 x7)
      else
       D cd1 (lq C 9 next Q) (St2 x3 x6 x7)
     else none
    else
     Q (.exit 0) (St3 x3) := by
  intro D L; kernel_rfl
 have h2 := via (k := k) h
 refine h2.trans ?_
 simp only [j0_eq]
 first | rfl | kernel_rfl
def l0 {α : Type} (k : Nat) (Xt0 : Int -> Option α) : Nat -> Int -> D0 -> Int -> Option α
 | 0, _, _, _ => none
 | n + 1, x3, x6, x7 => l0s (l0 k Xt0 n) Xt0 x3 x6 x7
theorem l0_eq {α : Type} (k : Nat) (Q : Ex -> St -> Option α) : ∀ (n : Nat) (x3 : Int) (x6 : D0) (x7 : Int), iter (rnd C k cd0 9 Q) n (St1 x3 x6 x7) = l0 k (fun x3 => Q (.exit 0) (St3 x3)) n x3 x6 x7
 | 0, _, _, _ => rfl
 | n + 1, x3, x6, x7 => (iter_succ _ _ _).trans ((l0s_eq k _ Q x3 x6 x7).trans (congrArg (fun N => l0s N (fun x3 => Q (.exit 0) (St3 x3)) x3 x6 x7) (by funext; exact l0_eq k Q n _ _ _)))
noncomputable def cd2 : Code := cR (cR (cR (cB Tryd.f113)))
def St4 (x3 : Int) : St := stL 20 [(3, .data T1 x3)] []
def St5 (x2 : Int) : St := stL 20 [(2, .data T1 x2)] []
def j1 {α : Type} (Rt : Int -> Option α) (x3 : Int) : Option α :=
 Rt x3
theorem j1_eq {α : Type} (k : Nat) (Q : Ex -> St -> Option α) (x3 : Int) :
  (den C k) cd2 Q (St4 x3) = j1 (fun x2 => Q .ret (St5 x2)) x3 := by
 have h : ∀ (D L : DT α), denJ D L Js C cd2 Q (St4 x3) = j1 (fun x2 => Q .ret (St5 x2)) x3 := by
  intro D L; kernel_rfl
 have h2 := via (k := k) h
 exact h2
theorem a0 {α : Type} (k : Nat) (Q : Ex -> St -> Option α) (x3 : Int) (x6 : D0) (x7 : Int) :
  (lp C k) cd0 (blkQ C 0 (sq (den C k) (lp C k) Js C cd2 Q)) (St1 x3 x6 x7) = l0 k (fun x3 => j1 (fun x2 => Q .ret (St5 x2)) x3) k x3 x6 x7 :=
 (lp_iter 9 (by kernel_rfl)).trans ((l0_eq k _ k x3 x6 x7).trans (congrArg (fun X => l0 k X k x3 x6 x7) (funext fun x3 => (Eq.trans (b := (den C k) cd2 Q (St4 x3)) (by kernel_rfl) (by simp only [j1_eq])))))
def top {α : Type} (k : Nat) (Rt : Int -> Option α) (x0 : D0) : Option α :=
 l0 k (fun x3 => j1 Rt x3) k 0 x0 0
theorem top_eq {α : Type} (k : Nat) (Q : Ex -> St -> Option α) (x0 : D0) :
  (den C k) (cB Tryd.f113) Q (St0 x0) = top k (fun x2 => Q .ret (St5 x2)) x0 := by
 have h : ∀ (D L : DT α), denJ D L Js C (cB Tryd.f113) Q (St0 x0) =
    L cd0 (blkQ C 0 (sq D L Js C cd2 Q)) (St1 0 x0 0) := by
  intro D L; kernel_rfl
 have h2 := via (k := k) h
 refine h2.trans ?_
 simp only [a0]
 first | rfl | kernel_rfl
def run (x0 : D0) : Option (Int) := top (α := Int) fuel (fun x2 => some x2) x0
def F : Fn := ⟨T35, T1, false, fun x => run x.1⟩
theorem con : Con Tryd.prog 113 F :=
 con_of (C := C) (ctx_ok (by kernel_rfl) (by kernel_rfl) (by kernel_rfl) (by kernel_rfl) ⟨.inl ⟨math_bits_Len64.con, math_bits_Len64.named⟩, trivial⟩) (by kernel_rfl) Tryd.func113 (c := cB Tryd.f113) (by kernel_rfl) (by kernel_rfl) F (fun x => by simp [F, spread, Tryd.ntmps113]) (fun x => (St0 x.1)) (fun x => by kernel_rfl) fun x => (top_eq fuel _ x.1).trans (by kernel_rfl)
theorem named : Named Tryd.prog 113 := named_of Tryd.func113 (by kernel_rfl) (by kernel_rfl)
end Go.Bx.wide_length
namespace Go.Bx.wide_bit
def Js : List Nat := []
def C : Ctx := ⟨[(3, T1), (22, T2), (56, T32)], [], [], fnL [], noSh, [], invL [], [(2, [4])], [], [], 0, 0⟩
def St0 (x0 : D0) (x1 : Int) : St := stL 13 [(0, .data T32 x0), (1, .data T1 x1)] []
def St1 (x4 : Int) : St := stL 13 [(4, .data T2 x4)] []
def top {α : Type} (Rt : Int -> Option α) (x0 : D0) (x1 : Int) : Option α :=
 if 0 <= (IntKind.i64.wrap (Int.tdiv x1 64)) /\ (IntKind.i64.wrap (Int.tdiv x1 64)) < (4 : Int) then
  if 0 <= (Int.tmod x1 64) then
   Rt (band .u64 (shrI .u64 (List.getD x0 (Int.toNat (IntKind.i64.wrap (Int.tdiv x1 64))) 0) (Int.tmod x1 64)) 1)
  else none
 else none
theorem top_eq {α : Type} (k : Nat) (Q : Ex -> St -> Option α) (x0 : D0) (x1 : Int) :
  (den C k) (cB Tryd.f115) Q (St0 x0 x1) = top (fun x4 => Q .ret (St1 x4)) x0 x1 := by
 have h : ∀ (D L : DT α), denJ D L Js C (cB Tryd.f115) Q (St0 x0 x1) = top (fun x4 => Q .ret (St1 x4)) x0 x1 := by
  intro D L; kernel_rfl
 have h2 := via (k := k) h
 exact h2
def run (x0 : D0) (x1 : Int) : Option (Int) := top (α := Int) (fun x4 => some x4) x0 x1
def F : Fn := ⟨T36, T2, false, fun x => run x.1 x.2.1⟩
theorem con : Con Tryd.prog 115 F :=
 con_of (C := C) (ctx_ok (by kernel_rfl) (by kernel_rfl) (by kernel_rfl) (by kernel_rfl) trivial) (by kernel_rfl) Tryd.func115 (c := cB Tryd.f115) (by kernel_rfl) (by kernel_rfl) F (fun x => by simp [F, spread, Tryd.ntmps115]) (fun x => (St0 x.1 x.2.1)) (fun x => by kernel_rfl) fun x => (top_eq fuel _ x.1 x.2.1).trans (by kernel_rfl)
theorem named : Named Tryd.prog 115 := named_of Tryd.func115 (by kernel_rfl) (by kernel_rfl)
end Go.Bx.wide_bit
namespace Go.Bx.wide_DivMod
def Js : List Nat := [6, 13]
def C : Ctx := ⟨[(22, T2), (30, T1), (56, T32)], [], [], fnL [(82, wide_Cmp.F), (99, wide_Sub.F), (113, wide_length.F), (114, wide_Add.F), (115, wide_bit.F)], noSh, [], invL [], [(2, [4, 5, 6]), (1, [4, 5]), (4, [2, 3, 4, 5, 7]), (12, [2, 3, 4, 5, 7]), (15, [2, 3, 4, 5, 7]), (36, [4, 5])], [], [], 0, 0⟩
def St0 (x0 x1 : D0) : St := stL 58 [(0, .data T32 x0), (1, .data T32 x1)] []
def St1 (x6 : Int) (c4 c5 : D0) : St := stL 58 [(4, .ref 4 0 []), (5, .ref 5 0 []), (6, .data T1 x6)] [(4, .cell T32 (.data T32 c4) false), (5, .cell T32 (.data T32 c5) false)]
def St2 (x7 : Int) (c2 c3 : D0) (c4 c5 : D0) : St := stL 58 [(2, .ref 2 0 []), (3, .ref 3 0 []), (4, .ref 4 0 []), (5, .ref 5 0 []), (7, .data T1 x7)] [(2, .cell T32 (.data T32 c2) false), (3, .cell T32 (.data T32 c3) false), (4, .cell T32 (.data T32 c4) false), (5, .cell T32 (.data T32 c5) false)]
noncomputable def cd0 : Code := cL (cL (cR (cL (cR (cR (cB Tryd.f94))))))
def St3 (x7 : Int) (c2 c3 : D0) (c4 c5 : D0) : St := stL 58 [(2, .ref 2 0 []), (3, .ref 3 0 []), (4, .ref 4 0 []), (5, .ref 5 0 []), (7, .data T1 x7)] [(2, .cell T32 (.data T32 c2) false), (3, .cell T32 (.data T32 c3) false), (4, .cell T32 (.data T32 c4) false), (5, .cell T32 (.data T32 c5) false)]
noncomputable def cd1 : Code := cR (cR (cL (cL (cR (cL (cR (cR (cB Tryd.f94))))))))
def j0 {α : Type} (Nx : Int -> D0 -> D0 -> D0 -> D0 -> Option α) (x7 : Int) (c2 c3 : D0) (c4 c5 : D0) : Option α :=
 Nx (IntKind.i64.wrap (x7 - 1)) c2 c3 c4 c5
theorem j0_eq {α : Type} (k : Nat) (next : St -> Option α) (Q : Ex -> St -> Option α) (x7 : Int) (c2 c3 : D0) (c4 c5 : D0) :
  (den C k) cd1 (lq C 12 next Q) (St3 x7 c2 c3 c4 c5) = j0 (fun x7 c2 c3 c4 c5 => next (St2 x7 c2 c3 c4 c5)) x7 c2 c3 c4 c5 := by
 have h : ∀ (D L : DT α), denJ D L Js C cd1 (lq C 12 next Q) (St3 x7 c2 c3 c4 c5) = j0 (fun x7 c2 c3 c4 c5 => next (St2 x7 c2 c3 c4 c5)) x7 c2 c3 c4 c5 := by
  intro D L; kernel_rfl
 have h2 := via (k := k) h
 exact h2
def St4 (c4 c5 : D0) : St := stL 58 [(4, .ref 4 0 []), (5, .ref 5 0 [])] [(4, .cell T32 (.data T32 c4) false), (5, .cell T32 (.data T32 c5) false)]
def l0s {α : Type} (Nx : Int -> D0 -> D0 -> D0 -> D0 -> Option α) (Xt0 : D0 -> D0 -> Option α) (x7 : Int) (c2 c3 : D0) (c4 c5 : D0) : Option α :=
 if (decide (x7 >= 0)) = true then
  (wide_Add.run c5 c5).bind fun y2 =>
  (wide_bit.run c2 x7).bind fun y3 =>
  (if (y2.2.1 == false) = true then wide_Cmp.run (List.set y2.1 0 (bor .u64 (List.getD y2.1 0 0) y3)) c3 else some 0).bind fun y4 =>
  if (cond y2.2.1 true (decide (y4 >= 0))) = true then
   (wide_Sub.run (List.set y2.1 0 (bor .u64 (List.getD y2.1 0 0) y3)) c3).bind fun y5 =>
   if 0 <= (IntKind.i64.wrap (Int.tdiv x7 64)) /\ (IntKind.i64.wrap (Int.tdiv x7 64)) < (4 : Int) then
    if 0 <= (Int.tmod x7 64) then
     if 0 <= (IntKind.i64.wrap (Int.tdiv x7 64)) /\ (IntKind.i64.wrap (Int.tdiv x7 64)) < (4 : Int) then
      j0 Nx x7 c2 c3 (List.set c4 (Int.toNat (IntKind.i64.wrap (Int.tdiv x7 64))) (bor .u64 (List.getD c4 (Int.toNat (IntKind.i64.wrap (Int.tdiv x7 64))) 0) (shlI .u64 1 (Int.tmod x7 64)))) y5.1
     else none
    else none
   else none
  else
   j0 Nx x7 c2 c3 c4 (List.set y2.1 0 (bor .u64 (List.getD y2.1 0 0) y3))
 else
  Xt0 c4 c5
theorem l0s_eq {α : Type} (k : Nat) (next : St -> Option α) (Q : Ex -> St -> Option α) (x7 : Int) (c2 c3 : D0) (c4 c5 : D0) :
  rnd C k cd0 12 Q next (St2 x7 c2 c3 c4 c5) = l0s (fun x7 c2 c3 c4 c5 => next (St2 x7 c2 c3 c4 c5)) (fun c4 c5 => Q (.exit 0) (St4 c4 c5)) x7 c2 c3 c4 c5 := by
 have h : ∀ (D L : DT α), denJ D L Js C cd0 (lq C 12 next Q) (St2 x7 c2 c3 c4 c5) =
    if (decide (x7 >= 0)) = true then
     (wide_Add.run c5 c5).bind fun y2 =>
     (wide_bit.run c2 x7).bind fun y3 =>
     (if (y2.2.1 == false) = true then wide_Cmp.run (List.set y2.1 0 (bor .u64 (List.getD y2.1 0 0) y3)) c3 else some 0).bind fun y4 =>
     if (cond y2.2.1 true (decide (y4 >= 0))) = true then
      (wide_Sub.run (List.set y2.1 0 (bor .u64 (List.getD y2.1 0 0) y3)) c3).bind fun y5 =>
      if 0 <= (IntKind.i64.wrap (Int.tdiv x7 64)) /\ (IntKind.i64.wrap (Int.tdiv x7 64)) < (4 : Int) then
       if 0 <= (Int.tmod x7 64) then
        if 0 <= (IntKind.i64.wrap (Int.tdiv x7 64)) /\ (IntKind.i64.wrap (Int.tdiv x7 64)) < (4 : Int) then
         D cd1 (lq C 12 next Q) (St3 x7 c2 c3 (List.set c4 (Int.toNat (IntKind.i64.wrap (Int.tdiv x7 64))) (bor .u64 (List.getD c4 (Int.toNat (IntKind.i64.wrap (Int.tdiv x7 64))) 0) (shlI .u64 1 (Int.tmod x7 64)))) y5.1)
        else none
       else none
      else none
     else
      D cd1 (lq C 12 next Q) (St3 x7 c2 c3 c4 (List.set y2.1 0 (bor .u64 (List.getD y2.1 0 0) y3)))
    else
     Q (.exit 0) (St4 c4 c5) := by
  intro D L; kernel_rfl
 have h2 := via (k := k) h
 refine h2.trans ?_
 simp only [j0_eq]
 first | rfl | kernel_rfl
def l0 {α : Type} (k : Nat) (Xt0 : D0 -> D0 -> Option α) : Nat -> Int -> D0 -> D0 -> D0 -> D0 -> Option α
 | 0, _, _, _, _, _ => none
 | n + 1, x7, c2, c3, c4, c5 => l0s (l0 k Xt0 n) Xt0 x7 c2 c3 c4 c5
theorem l0_eq {α : Type} (k : Nat) (Q : Ex -> St -> Option α) : ∀ (n : Nat) (x7 : Int) (c2 c3 : D0) (c4 c5 : D0), iter (rnd C k cd0 12 Q) n (St2 x7 c2 c3 c4 c5) = l0 k (fun c4 c5 => Q (.exit 0) (St4 c4 c5)) n x7 c2 c3 c4 c5
 | 0, _, _, _, _, _ => rfl
 | n + 1, x7, c2, c3, c4, c5 => (iter_succ _ _ _).trans ((l0s_eq k _ Q x7 c2 c3 c4 c5).trans (congrArg (fun N => l0s N (fun c4 c5 => Q (.exit 0) (St4 c4 c5)) x7 c2 c3 c4 c5) (by funext; exact l0_eq k Q n _ _ _ _ _)))
noncomputable def cd2 : Code := cR (cR (cR (cB Tryd.f94)))
def St5 (c4 c5 : D0) : St := stL 58 [(4, .ref 4 0 []), (5, .ref 5 0 [])] [(4, .cell T32 (.data T32 c4) false), (5, .cell T32 (.data T32 c5) false)]
def j1 {α : Type} (Rt : Int -> D0 -> D0 -> Option α) (c4 c5 : D0) : Option α :=
 Rt 0 c4 c5
theorem j1_eq {α : Type} (k : Nat) (Q : Ex -> St -> Option α) (c4 c5 : D0) :
  (den C k) cd2 Q (St5 c4 c5) = j1 (fun x6 c4 c5 => Q .ret (St1 x6 c4 c5)) c4 c5 := by
 have h : ∀ (D L : DT α), denJ D L Js C cd2 Q (St5 c4 c5) = j1 (fun x6 c4 c5 => Q .ret (St1 x6 c4 c5)) c4 c5 := by
  intro D L; kernel_rfl
 have h2 := via (k := k) h
 exact h2
theorem a0 {α : Type} (k : Nat) (Q : Ex -> St -> Option α) (x7 : Int) (c2 c3 : D0) (c4 c5 : D0) :
  (lp C k) cd0 (blkQ C 0 (sq (den C k) (lp C k) Js C cd2 Q)) (St2 x7 c2 c3 c4 c5) = l0 k (fun c4 c5 => j1 (fun x6 c4 c5 => Q .ret (St1 x6 c4 c5)) c4 c5) k x7 c2 c3 c4 c5 :=
 (lp_iter 12 (by kernel_rfl)).trans ((l0_eq k _ k x7 c2 c3 c4 c5).trans (congrArg (fun X => l0 k X k x7 c2 c3 c4 c5) (funext fun c4 => funext fun c5 => (Eq.trans (b := (den C k) cd2 Q (St5 c4 c5)) (by kernel_rfl) (by simp only [j1_eq])))))
def top {α : Type} (k : Nat) (Rt : Int -> D0 -> D0 -> Option α) (x0 x1 : D0) : Option α :=
 if (beqD T32 x1 [0, 0, 0, 0]) = true then
  Rt 7 [0, 0, 0, 0] [0, 0, 0, 0]
 else
  (wide_length.run x0).bind fun y1 =>
  l0 k (fun c4 c5 => j1 Rt c4 c5) k (IntKind.i64.wrap (y1 - 1)) x0 x1 [0, 0, 0, 0] [0, 0, 0, 0]
theorem top_eq {α : Type} (k : Nat) (Q : Ex -> St -> Option α) (x0 x1 : D0) :
  (den C k) (cB Tryd.f94) Q (St0 x0 x1) = top k (fun x6 c4 c5 => Q .ret (St1 x6 c4 c5)) x0 x1 := by
 have h : ∀ (D L : DT α), denJ D L Js C (cB Tryd.f94) Q (St0 x0 x1) =
    if (beqD T32 x1 [0, 0, 0, 0]) = true then
     Q .ret (St1 7 [0, 0, 0, 0] [0, 0, 0, 0])
    else
     (wide_length.run x0).bind fun y1 =>
     L cd0 (blkQ C 0 (sq D L Js C cd2 Q)) (St2 (IntKind.i64.wrap (y1 - 1)) x0 x1 [0, 0, 0, 0] [0, 0, 0, 0]) := by
  intro D L; kernel_rfl
 have h2 := via (k := k) h
 refine h2.trans ?_
 simp only [a0]
 first | rfl | kernel_rfl
def run (x0 x1 : D0) : Option D1 := top (α := List Int × List Int × Int × Unit) fuel (fun x6 c4 c5 => some (c4, c5, x6, ())) x0 x1
def F : Fn := ⟨T33, T47, true, fun x => run x.1 x.2.1⟩
theorem con : Con Tryd.prog 94 F :=
 con_of (C := C) (ctx_ok (by kernel_rfl) (by kernel_rfl) (by kernel_rfl) (by kernel_rfl) ⟨.inl ⟨wide_Cmp.con, wide_Cmp.named⟩, ⟨.inl ⟨wide_Sub.con, wide_Sub.named⟩, ⟨.inl ⟨wide_length.con, wide_length.named⟩, ⟨.inl ⟨wide_Add.con, wide_Add.named⟩, ⟨.inl ⟨wide_bit.con, wide_bit.named⟩, trivial⟩⟩⟩⟩⟩) (by kernel_rfl) Tryd.func94 (c := cB Tryd.f94) (by kernel_rfl) (by kernel_rfl) F (fun x => by simp [F, spread, Tryd.ntmps94]) (fun x => (St0 x.1 x.2.1)) (fun x => by kernel_rfl) fun x => (top_eq fuel _ x.1 x.2.1).trans (by kernel_rfl)
theorem named : Named Tryd.prog 94 := named_of Tryd.func94 (by kernel_rfl) (by kernel_rfl)
end Go.Bx.wide_DivMod
namespace Go.Bx.basculeref_Quotient
def Js : List Nat := []
def C : Ctx := ⟨[(30, T1), (56, T32)], [], [], fnL [(66, basculeref_of.F), (100, basculeref_divided.F), (101, basculeref_cut.F)], noSh, [], invL [], [(2, [4, 5, 6])], [], [], 0, 0⟩
def St0 (x0 x1 : D0) : St := stL 26 [(0, .data T32 x0), (1, .data T32 x1)] []
def St1 (x6 : Int) (c4 c5 : D0) : St := stL 26 [(4, .ref 4 0 []), (5, .ref 5 0 []), (6, .data T1 x6)] [(4, .cell T32 (.data T32 c4) false), (5, .cell T32 (.data T32 c5) false)]
def top {α : Type} (Rt : Int -> D0 -> D0 -> Option α) (x0 x1 : D0) : Option α :=
 if (beqD T32 x1 [0, 0, 0, 0]) = true then
  Rt 7 [0, 0, 0, 0] [0, 0, 0, 0]
 else
  (basculeref_of.run x0).bind fun y1 =>
  (basculeref_of.run x1).bind fun y2 =>
  (basculeref_divided.run y1 y2).bind fun y3 =>
  (basculeref_cut.run y3.1).bind fun y4 =>
  (basculeref_cut.run y3.2.1).bind fun y5 =>
  Rt 0 y4 y5
theorem top_eq {α : Type} (k : Nat) (Q : Ex -> St -> Option α) (x0 x1 : D0) :
  (den C k) (cB Tryd.f103) Q (St0 x0 x1) = top (fun x6 c4 c5 => Q .ret (St1 x6 c4 c5)) x0 x1 := by
 have h : ∀ (D L : DT α), denJ D L Js C (cB Tryd.f103) Q (St0 x0 x1) = top (fun x6 c4 c5 => Q .ret (St1 x6 c4 c5)) x0 x1 := by
  intro D L; kernel_rfl
 have h2 := via (k := k) h
 exact h2
def run (x0 x1 : D0) : Option D1 := top (α := List Int × List Int × Int × Unit) (fun x6 c4 c5 => some (c4, c5, x6, ())) x0 x1
def F : Fn := ⟨T33, T47, true, fun x => run x.1 x.2.1⟩
theorem con : Con Tryd.prog 103 F :=
 con_of (C := C) (ctx_ok (by kernel_rfl) (by kernel_rfl) (by kernel_rfl) (by kernel_rfl) ⟨.inl ⟨basculeref_of.con, basculeref_of.named⟩, ⟨.inl ⟨basculeref_divided.con, basculeref_divided.named⟩, ⟨.inl ⟨basculeref_cut.con, basculeref_cut.named⟩, trivial⟩⟩⟩) (by kernel_rfl) Tryd.func103 (c := cB Tryd.f103) (by kernel_rfl) (by kernel_rfl) F (fun x => by simp [F, spread, Tryd.ntmps103]) (fun x => (St0 x.1 x.2.1)) (fun x => by kernel_rfl) fun x => (top_eq fuel _ x.1 x.2.1).trans (by kernel_rfl)
theorem named : Named Tryd.prog 103 := named_of Tryd.func103 (by kernel_rfl) (by kernel_rfl)
end Go.Bx.basculeref_Quotient
namespace Go.Bx.field_add
def Js : List Nat := [5]
def C : Ctx := ⟨[(56, T32)], [], [], fnL [(82, wide_Cmp.F), (99, wide_Sub.F), (114, wide_Add.F)], noSh, [], invL [], [(2, [6]), (12, [6, 7])], [], [], 0, 0⟩
def St0 (x0 x1 x2 : D0) : St := stL 29 [(0, .data T32 x0), (1, .data T32 x1), (2, .data T32 x2)] []
def St1 (c6 c7 : D0) : St := stL 29 [(6, .ref 6 0 []), (7, .ref 7 0 [])] [(6, .cell T32 (.data T32 c6) false), (7, .cell T32 (.data T32 c7) false)]
noncomputable def cd0 : Code := cR (cR (cR (cB Tryd.f120)))
def St2 (c6 : D0) : St := stL 29 [(6, .ref 6 0 [])] [(6, .cell T32 (.data T32 c6) false)]
def j0 {α : Type} (Rt : D0 -> Option α) (c6 c7 : D0) : Option α :=
 Rt c7
theorem j0_eq {α : Type} (k : Nat) (Q : Ex -> St -> Option α) (c6 c7 : D0) :
  (den C k) cd0 Q (St1 c6 c7) = j0 (fun c6 => Q .ret (St2 c6)) c6 c7 := by
 have h : ∀ (D L : DT α), denJ D L Js C cd0 Q (St1 c6 c7) = j0 (fun c6 => Q .ret (St2 c6)) c6 c7 := by
  intro D L; kernel_rfl
 have h2 := via (k := k) h
 exact h2
def top {α : Type} (Rt : D0 -> Option α) (x0 x1 x2 : D0) : Option α :=
 (wide_Add.run x0 x1).bind fun y1 =>
 (if (y1.2.1 == false) = true then wide_Cmp.run y1.1 x2 else some 0).bind fun y2 =>
 if (cond y1.2.1 true (decide (y2 >= 0))) = true then
  (wide_Sub.run y1.1 x2).bind fun y3 =>
  j0 Rt [0, 0, 0, 0] y3.1
 else
  j0 Rt [0, 0, 0, 0] y1.1
theorem top_eq {α : Type} (k : Nat) (Q : Ex -> St -> Option α) (x0 x1 x2 : D0) :
  (den C k) (cB Tryd.f120) Q (St0 x0 x1 x2) = top (fun c6 => Q .ret (St2 c6)) x0 x1 x2 := by
 have h : ∀ (D L : DT α), denJ D L Js C (cB Tryd.f120) Q (St0 x0 x1 x2) =
    (wide_Add.run x0 x1).bind fun y1 =>
    (if (y1.2.1 == false) = true then wide_Cmp.run y1.1 x2 else some 0).bind fun y2 =>
    if (cond y1.2.1 true (decide (y2 >= 0))) = true then
     (wide_Sub.run y1.1 x2).bind fun y3 =>
     D cd0 Q (St1 [0, 0, 0, 0] y3.1)
    else
     D cd0 Q (St1 [0, 0, 0, 0] y1.1) := by
  intro D L; kernel_rfl
 have h2 := via (k := k) h
 refine h2.trans ?_
 simp only [j0_eq]
 first | rfl | kernel_rfl
def run (x0 x1 x2 : D0) : Option D0 := top (α := List Int) (fun c6 => some c6) x0 x1 x2
def F : Fn := ⟨T40, T32, false, fun x => run x.1 x.2.1 x.2.2.1⟩
theorem con : Con Tryd.prog 120 F :=
 con_of (C := C) (ctx_ok (by kernel_rfl) (by kernel_rfl) (by kernel_rfl) (by kernel_rfl) ⟨.inl ⟨wide_Cmp.con, wide_Cmp.named⟩, ⟨.inl ⟨wide_Sub.con, wide_Sub.named⟩, ⟨.inl ⟨wide_Add.con, wide_Add.named⟩, trivial⟩⟩⟩) (by kernel_rfl) Tryd.func120 (c := cB Tryd.f120) (by kernel_rfl) (by kernel_rfl) F (fun x => by simp [F, spread, Tryd.ntmps120]) (fun x => (St0 x.1 x.2.1 x.2.2.1)) (fun x => by kernel_rfl) fun x => (top_eq fuel _ x.1 x.2.1 x.2.2.1).trans (by kernel_rfl)
theorem named : Named Tryd.prog 120 := named_of Tryd.func120 (by kernel_rfl) (by kernel_rfl)
end Go.Bx.field_add
namespace Go.Bx.field_sub
def Js : List Nat := [5]
def C : Ctx := ⟨[(56, T32)], [], [], fnL [(99, wide_Sub.F), (114, wide_Add.F)], noSh, [], invL [], [(2, [6]), (12, [6, 7])], [], [], 0, 0⟩
def St0 (x0 x1 x2 : D0) : St := stL 23 [(0, .data T32 x0), (1, .data T32 x1), (2, .data T32 x2)] []
def St1 (c6 c7 : D0) : St := stL 23 [(6, .ref 6 0 []), (7, .ref 7 0 [])] [(6, .cell T32 (.data T32 c6) false), (7, .cell T32 (.data T32 c7) false)]
noncomputable def cd0 : Code := cR (cR (cR (cB Tryd.f117)))
def St2 (c6 : D0) : St := stL 23 [(6, .ref 6 0 [])] [(6, .cell T32 (.data T32 c6) false)]
def j0 {α : Type} (Rt : D0 -> Option α) (c6 c7 : D0) : Option α :=
 Rt c7
theorem j0_eq {α : Type} (k : Nat) (Q : Ex -> St -> Option α) (c6 c7 : D0) :
  (den C k) cd0 Q (St1 c6 c7) = j0 (fun c6 => Q .ret (St2 c6)) c6 c7 := by
 have h : ∀ (D L : DT α), denJ D L Js C cd0 Q (St1 c6 c7) = j0 (fun c6 => Q .ret (St2 c6)) c6 c7 := by
  intro D L; kernel_rfl
 have h2 := via (k := k) h
 exact h2
def top {α : Type} (Rt : D0 -> Option α) (x0 x1 x2 : D0) : Option α :=
 (wide_Sub.run x0 x1).bind fun y1 =>
 if y1.2.1 = true then
  (wide_Add.run y1.1 x2).bind fun y2 =>
  j0 Rt [0, 0, 0, 0] y2.1
 else
  j0 Rt [0, 0, 0, 0] y1.1
theorem top_eq {α : Type} (k : Nat) (Q : Ex -> St -> Option α) (x0 x1 x2 : D0) :
  (den C k) (cB Tryd.f117) Q (St0 x0 x1 x2) = top (fun c6 => Q .ret (St2 c6)) x0 x1 x2 := by
 have h : ∀ (D L : DT α), denJ D L Js C (cB Tryd.f117) Q (St0 x0 x1 x2) =
    (wide_Sub.run x0 x1).bind fun y1 =>
    if y1.2.1 = true then
     (wide_Add.run y1.1 x2).bind fun y2 =>
     D cd0 Q (St1 [0, 0, 0, 0] y2.1)
    else
     D cd0 Q (St1 [0, 0, 0, 0] y1.1) := by
  intro D L; kernel_rfl
 have h2 := via (k := k) h
 refine h2.trans ?_
 simp only [j0_eq]
 first | rfl | kernel_rfl
def run (x0 x1 x2 : D0) : Option D0 := top (α := List Int) (fun c6 => some c6) x0 x1 x2
def F : Fn := ⟨T40, T32, false, fun x => run x.1 x.2.1 x.2.2.1⟩
theorem con : Con Tryd.prog 117 F :=
 con_of (C := C) (ctx_ok (by kernel_rfl) (by kernel_rfl) (by kernel_rfl) (by kernel_rfl) ⟨.inl ⟨wide_Sub.con, wide_Sub.named⟩, ⟨.inl ⟨wide_Add.con, wide_Add.named⟩, trivial⟩⟩) (by kernel_rfl) Tryd.func117 (c := cB Tryd.f117) (by kernel_rfl) (by kernel_rfl) F (fun x => by simp [F, spread, Tryd.ntmps117]) (fun x => (St0 x.1 x.2.1 x.2.2.1)) (fun x => by kernel_rfl) fun x => (top_eq fuel _ x.1 x.2.1 x.2.2.1).trans (by kernel_rfl)
theorem named : Named Tryd.prog 117 := named_of Tryd.func117 (by kernel_rfl) (by kernel_rfl)
end Go.Bx.field_sub
namespace Go.Bx.field_fault
def Js : List Nat := [10]
def C : Ctx := ⟨[(30, T1), (56, T32), (72, T43)], [], [], fnL [(82, wide_Cmp.F)], noSh, [], invL [], [(2, [4]), (1, []), (4, [2, 10, 11, 12]), (12, [2, 10, 11, 12]), (27, [])], [], [], 0, 0⟩
def St0 (x0 : D0) (x1 : D7) : St := stL 21 [(0, .data T32 x0), (1, .data T43 x1)] []
def St1 (x4 : Int) : St := stL 21 [(4, .data T1 x4)] []
def St2 (x10 : D7) (x11 x12 : Int) (c2 : D0) : St := stL 21 [(2, .ref 2 0 []), (10, .data T43 x10), (11, .data T1 x11), (12, .data T1 x12)] [(2, .cell T32 (.data T32 c2) false)]
noncomputable def cd0 : Code := cL (cL (cR (cL (cR (cR (cB Tryd.f116))))))
def St3 : St := stL 21 [] []
def l0s {α : Type} (Nx : D7 -> Int -> Int -> D0 -> Option α) (Rt : Int -> Option α) (Xt0 : Option α) (x10 : D7) (x11 x12 : Int) (c2 : D0) : Option α :=
 if (decide (x12 < x11)) = true then
  if 0 <= x12 /\ x12 < (x10.length : Int) then
   (wide_Cmp.run (List.getD x10 (Int.toNat x12) [0, 0, 0, 0]) c2).bind fun y1 =>
   if (decide (y1 >= 0)) = true then
    Rt 6
   else
    Nx x10 x11 (IntKind.i64.wrap (x12 + 1)) c2
  else none
 else
  Xt0
theorem l0s_eq {α : Type} (k : Nat) (next : St -> Option α) (Q : Ex -> St -> Option α) (x10 : D7) (x11 x12 : Int) (c2 : D0) :
  rnd C k cd0 12 Q next (St2 x10 x11 x12 c2) = l0s (fun x10 x11 x12 c2 => next (St2 x10 x11 x12 c2)) (fun x4 => Q .ret (St1 x4)) (Q (.exit 0) St3) x10 x11 x12 c2 := by
 have h : ∀ (D L : DT α), denJ D L Js C cd0 (lq C 12 next Q) (St2 x10 x11 x12 c2) = l0s (fun x10 x11 x12 c2 => next (St2 x10 x11 x12 c2)) (fun x4 => Q .ret (St1 x4)) (Q (.exit 0) St3) x10 x11 x12 c2 := by
  intro D L; kernel_rfl
 have h2 := via (k := k) h
 exact h2
def l0 {α : Type} (k : Nat) (Rt : Int -> Option α) (Xt0 : Option α) : Nat -> D7 -> Int -> Int -> D0 -> Option α
 | 0, _, _, _, _ => none
 | n + 1, x10, x11, x12, c2 => l0s (l0 k Rt Xt0 n) Rt Xt0 x10 x11 x12 c2
theorem l0_eq {α : Type} (k : Nat) (Q : Ex -> St -> Option α) : ∀ (n : Nat) (x10 : D7) (x11 x12 : Int) (c2 : D0), iter (rnd C k cd0 12 Q) n (St2 x10 x11 x12 c2) = l0 k (fun x4 => Q .ret (St1 x4)) (Q (.exit 0) St3) n x10 x11 x12 c2
 | 0, _, _, _, _ => rfl
 | n + 1, x10, x11, x12, c2 => (iter_succ _ _ _).trans ((l0s_eq k _ Q x10 x11 x12 c2).trans (congrArg (fun N => l0s N (fun x4 => Q .ret (St1 x4)) (Q (.exit 0) St3) x10 x11 x12 c2) (by funext; exact l0_eq k Q n _ _ _ _)))
theorem l0_congr {α : Type} (k : Nat) (Rt : Int -> Option α) (Xt0 : Option α) (Rtq : Int -> Option α) (Xt0q : Option α) (hRt : ∀ (x4 : Int), Rt x4 = Rtq x4) (hXt0 : Xt0 = Xt0q) (n : Nat) (x10 : D7) (x11 x12 : Int) (c2 : D0) : l0 k Rt Xt0 n x10 x11 x12 c2 = l0 k Rtq Xt0q n x10 x11 x12 c2 := by
 obtain rfl : Rt = Rtq := by funext x4; exact hRt x4
 obtain rfl : Xt0 = Xt0q := hXt0
 rfl
noncomputable def cd1 : Code := cR (cR (cR (cB Tryd.f116)))
def St4 : St := stL 21 [] []
def j0 {α : Type} (Rt : Int -> Option α) : Option α :=
 Rt 0
theorem j0_eq {α : Type} (k : Nat) (Q : Ex -> St -> Option α) :
  (den C k) cd1 Q St4 = j0 (fun x4 => Q .ret (St1 x4)) := by
 have h : ∀ (D L : DT α), denJ D L Js C cd1 Q St4 = j0 (fun x4 => Q .ret (St1 x4)) := by
  intro D L; kernel_rfl
 have h2 := via (k := k) h
 exact h2
theorem a0 {α : Type} (k : Nat) (Q : Ex -> St -> Option α) (x10 : D7) (x11 x12 : Int) (c2 : D0) :
  (lp C k) cd0 (blkQ C 0 (sq (den C k) (lp C k) Js C cd1 Q)) (St2 x10 x11 x12 c2) = l0 k (fun x4 => (fun x4 => Q .ret (St1 x4)) x4) (j0 (fun x4 => Q .ret (St1 x4))) k x10 x11 x12 c2 :=
 (lp_iter 12 (by kernel_rfl)).trans ((l0_eq k _ k x10 x11 x12 c2).trans (l0_congr k _ _ _ _ (fun x4 => (by kernel_rfl)) (Eq.trans (b := (den C k) cd1 Q St4) (by kernel_rfl) (by simp only [j0_eq])) k x10 x11 x12 c2))
def top {α : Type} (k : Nat) (Rt : Int -> Option α) (x0 : D0) (x1 : D7) : Option α :=
 if (beqD T32 x0 [0, 0, 0, 0]) = true then
  Rt 7
 else
  l0 k (fun x4 => Rt x4) (j0 Rt) k x1 (x1.length : Int) 0 x0
theorem top_eq {α : Type} (k : Nat) (Q : Ex -> St -> Option α) (x0 : D0) (x1 : D7) :
  (den C k) (cB Tryd.f116) Q (St0 x0 x1) = top k (fun x4 => Q .ret (St1 x4)) x0 x1 := by
 have h : ∀ (D L : DT α), denJ D L Js C (cB Tryd.f116) Q (St0 x0 x1) =
    if (beqD T32 x0 [0, 0, 0, 0]) = true then
     Q .ret (St1 7)
    else
     L cd0 (blkQ C 0 (sq D L Js C cd1 Q)) (St2 x1 (x1.length : Int) 0 x0) := by
  intro D L; kernel_rfl
 have h2 := via (k := k) h
 refine h2.trans ?_
 simp only [a0]
 first | rfl | kernel_rfl
def run (x0 : D0) (x1 : D7) : Option (Int) := top (α := Int) fuel (fun x4 => some x4) x0 x1
def F : Fn := ⟨T44, T1, false, fun x => run x.1 x.2.1⟩
theorem con : Con Tryd.prog 116 F :=
 con_of (C := C) (ctx_ok (by kernel_rfl) (by kernel_rfl) (by kernel_rfl) (by kernel_rfl) ⟨.inl ⟨wide_Cmp.con, wide_Cmp.named⟩, trivial⟩) (by kernel_rfl) Tryd.func116 (c := cB Tryd.f116) (by kernel_rfl) (by kernel_rfl) F (fun x => by simp [F, spread, Tryd.ntmps116]) (fun x => (St0 x.1 x.2.1)) (fun x => by kernel_rfl) fun x => (top_eq fuel _ x.1 x.2.1).trans (by kernel_rfl)
theorem named : Named Tryd.prog 116 := named_of Tryd.func116 (by kernel_rfl) (by kernel_rfl)
end Go.Bx.field_fault
namespace Go.Bx.basculeref_rest
def Js : List Nat := []
def C : Ctx := ⟨[(56, T32), (119, T68)], [], [], fnL [(66, basculeref_of.F), (100, basculeref_divided.F), (101, basculeref_cut.F)], noSh, [], invL [], [(2, [4])], [], [], 0, 0⟩
def St0 (x0 x1 : D0) : St := stL 16 [(0, .data T68 x0), (1, .data T32 x1)] []
def St1 (c4 : D0) : St := stL 16 [(4, .ref 4 0 [])] [(4, .cell T32 (.data T32 c4) false)]
def top {α : Type} (Rt : D0 -> Option α) (x0 x1 : D0) : Option α :=
 (basculeref_of.run x1).bind fun y1 =>
 (basculeref_divided.run x0 y1).bind fun y2 =>
 (basculeref_cut.run y2.2.1).bind fun y3 =>
 Rt y3
theorem top_eq {α : Type} (k : Nat) (Q : Ex -> St -> Option α) (x0 x1 : D0) :
  (den C k) (cB Tryd.f65) Q (St0 x0 x1) = top (fun c4 => Q .ret (St1 c4)) x0 x1 := by
 have h : ∀ (D L : DT α), denJ D L Js C (cB Tryd.f65) Q (St0 x0 x1) = top (fun c4 => Q .ret (St1 c4)) x0 x1 := by
  intro D L; kernel_rfl
 have h2 := via (k := k) h
 exact h2
def run (x0 x1 : D0) : Option D0 := top (α := List Int) (fun c4 => some c4) x0 x1
def F : Fn := ⟨T72, T32, false, fun x => run x.1 x.2.1⟩
theorem con : Con Tryd.prog 65 F :=
 con_of (C := C) (ctx_ok (by kernel_rfl) (by kernel_rfl) (by kernel_rfl) (by kernel_rfl) ⟨.inl ⟨basculeref_of.con, basculeref_of.named⟩, ⟨.inl ⟨basculeref_divided.con, basculeref_divided.named⟩, ⟨.inl ⟨basculeref_cut.con, basculeref_cut.named⟩, trivial⟩⟩⟩) (by kernel_rfl) Tryd.func65 (c := cB Tryd.f65) (by kernel_rfl) (by kernel_rfl) F (fun x => by simp [F, spread, Tryd.ntmps65]) (fun x => (St0 x.1 x.2.1)) (fun x => by kernel_rfl) fun x => (top_eq fuel _ x.1 x.2.1).trans (by kernel_rfl)
theorem named : Named Tryd.prog 65 := named_of Tryd.func65 (by kernel_rfl) (by kernel_rfl)
end Go.Bx.basculeref_rest
namespace Go.Bx.basculeref_product
def Js : List Nat := []
def C : Ctx := ⟨[(22, T2), (56, T32)], [], [], fnL [(65, basculeref_rest.F), (66, basculeref_of.F), (105, basculeref_times.F)], noSh, [], invL [], [(2, [6])], [], [], 0, 0⟩
def St0 (x0 x1 x2 : D0) : St := stL 37 [(0, .data T32 x0), (1, .data T32 x1), (2, .data T32 x2)] []
def St1 (c6 : D0) : St := stL 37 [(6, .ref 6 0 [])] [(6, .cell T32 (.data T32 c6) false)]
def top {α : Type} (Rt : D0 -> Option α) (x0 x1 x2 : D0) : Option α :=
 if (cond ((bor .u64 (bor .u64 (List.getD x2 1 0) (List.getD x2 2 0)) (List.getD x2 3 0)) == 0) (decide ((List.getD x2 0 0) < 4294967296)) false) = true then
  if (List.getD x2 0 0) ≠ 0 then
   Rt [(Int.tmod (IntKind.u64.wrap ((List.getD x0 0 0) * (List.getD x1 0 0))) (List.getD x2 0 0)), 0, 0, 0]
  else none
 else
  (basculeref_of.run x0).bind fun y1 =>
  (basculeref_of.run x1).bind fun y2 =>
  (basculeref_times.run y1 y2).bind fun y3 =>
  (basculeref_rest.run y3 x2).bind fun y4 =>
  Rt y4
theorem top_eq {α : Type} (k : Nat) (Q : Ex -> St -> Option α) (x0 x1 x2 : D0) :
  (den C k) (cB Tryd.f72) Q (St0 x0 x1 x2) = top (fun c6 => Q .ret (St1 c6)) x0 x1 x2 := by
 have h : ∀ (D L : DT α), denJ D L Js C (cB Tryd.f72) Q (St0 x0 x1 x2) = top (fun c6 => Q .ret (St1 c6)) x0 x1 x2 := by
  intro D L; kernel_rfl
 have h2 := via (k := k) h
 exact h2
def run (x0 x1 x2 : D0) : Option D0 := top (α := List Int) (fun c6 => some c6) x0 x1 x2
def F : Fn := ⟨T40, T32, false, fun x => run x.1 x.2.1 x.2.2.1⟩
theorem con : Con Tryd.prog 72 F :=
 con_of (C := C) (ctx_ok (by kernel_rfl) (by kernel_rfl) (by kernel_rfl) (by kernel_rfl) ⟨.inl ⟨basculeref_rest.con, basculeref_rest.named⟩, ⟨.inl ⟨basculeref_of.con, basculeref_of.named⟩, ⟨.inl ⟨basculeref_times.con, basculeref_times.named⟩, trivial⟩⟩⟩) (by kernel_rfl) Tryd.func72 (c := cB Tryd.f72) (by kernel_rfl) (by kernel_rfl) F (fun x => by simp [F, spread, Tryd.ntmps72]) (fun x => (St0 x.1 x.2.1 x.2.2.1)) (fun x => by kernel_rfl) fun x => (top_eq fuel _ x.1 x.2.1 x.2.2.1).trans (by kernel_rfl)
theorem named : Named Tryd.prog 72 := named_of Tryd.func72 (by kernel_rfl) (by kernel_rfl)
end Go.Bx.basculeref_product
namespace Go.Bx.basculeref_total
def Js : List Nat := []
def C : Ctx := ⟨[(56, T32)], [], [], fnL [(65, basculeref_rest.F), (66, basculeref_of.F), (106, basculeref_plus.F)], noSh, [], invL [], [(2, [6])], [], [], 0, 0⟩
def St0 (x0 x1 x2 : D0) : St := stL 14 [(0, .data T32 x0), (1, .data T32 x1), (2, .data T32 x2)] []
def St1 (c6 : D0) : St := stL 14 [(6, .ref 6 0 [])] [(6, .cell T32 (.data T32 c6) false)]
def top {α : Type} (Rt : D0 -> Option α) (x0 x1 x2 : D0) : Option α :=
 (basculeref_of.run x0).bind fun y1 =>
 (basculeref_of.run x1).bind fun y2 =>
 (basculeref_plus.run y1 y2).bind fun y3 =>
 (basculeref_rest.run y3 x2).bind fun y4 =>
 Rt y4
theorem top_eq {α : Type} (k : Nat) (Q : Ex -> St -> Option α) (x0 x1 x2 : D0) :
  (den C k) (cB Tryd.f73) Q (St0 x0 x1 x2) = top (fun c6 => Q .ret (St1 c6)) x0 x1 x2 := by
 have h : ∀ (D L : DT α), denJ D L Js C (cB Tryd.f73) Q (St0 x0 x1 x2) = top (fun c6 => Q .ret (St1 c6)) x0 x1 x2 := by
  intro D L; kernel_rfl
 have h2 := via (k := k) h
 exact h2
def run (x0 x1 x2 : D0) : Option D0 := top (α := List Int) (fun c6 => some c6) x0 x1 x2
def F : Fn := ⟨T40, T32, false, fun x => run x.1 x.2.1 x.2.2.1⟩
theorem con : Con Tryd.prog 73 F :=
 con_of (C := C) (ctx_ok (by kernel_rfl) (by kernel_rfl) (by kernel_rfl) (by kernel_rfl) ⟨.inl ⟨basculeref_rest.con, basculeref_rest.named⟩, ⟨.inl ⟨basculeref_of.con, basculeref_of.named⟩, ⟨.inl ⟨basculeref_plus.con, basculeref_plus.named⟩, trivial⟩⟩⟩) (by kernel_rfl) Tryd.func73 (c := cB Tryd.f73) (by kernel_rfl) (by kernel_rfl) F (fun x => by simp [F, spread, Tryd.ntmps73]) (fun x => (St0 x.1 x.2.1 x.2.2.1)) (fun x => by kernel_rfl) fun x => (top_eq fuel _ x.1 x.2.1 x.2.2.1).trans (by kernel_rfl)
theorem named : Named Tryd.prog 73 := named_of Tryd.func73 (by kernel_rfl) (by kernel_rfl)
end Go.Bx.basculeref_total
namespace Go.Bx.basculeref_opposite
def Js : List Nat := []
def C : Ctx := ⟨[(56, T32)], [], [], fnL [(66, basculeref_of.F), (101, basculeref_cut.F), (104, basculeref_less.F)], noSh, [], invL [], [(2, [4])], [], [], 0, 0⟩
def St0 (x0 x1 : D0) : St := stL 15 [(0, .data T32 x0), (1, .data T32 x1)] []
def St1 (c4 : D0) : St := stL 15 [(4, .ref 4 0 [])] [(4, .cell T32 (.data T32 c4) false)]
def top {α : Type} (Rt : D0 -> Option α) (x0 x1 : D0) : Option α :=
 if (beqD T32 x0 [0, 0, 0, 0]) = true then
  Rt x0
 else
  (basculeref_of.run x1).bind fun y1 =>
  (basculeref_of.run x0).bind fun y2 =>
  (basculeref_less.run y1 y2).bind fun y3 =>
  (basculeref_cut.run y3).bind fun y4 =>
  Rt y4
theorem top_eq {α : Type} (k : Nat) (Q : Ex -> St -> Option α) (x0 x1 : D0) :
  (den C k) (cB Tryd.f74) Q (St0 x0 x1) = top (fun c4 => Q .ret (St1 c4)) x0 x1 := by
 have h : ∀ (D L : DT α), denJ D L Js C (cB Tryd.f74) Q (St0 x0 x1) = top (fun c4 => Q .ret (St1 c4)) x0 x1 := by
  intro D L; kernel_rfl
 have h2 := via (k := k) h
 exact h2
def run (x0 x1 : D0) : Option D0 := top (α := List Int) (fun c4 => some c4) x0 x1
def F : Fn := ⟨T33, T32, false, fun x => run x.1 x.2.1⟩
theorem con : Con Tryd.prog 74 F :=
 con_of (C := C) (ctx_ok (by kernel_rfl) (by kernel_rfl) (by kernel_rfl) (by kernel_rfl) ⟨.inl ⟨basculeref_of.con, basculeref_of.named⟩, ⟨.inl ⟨basculeref_cut.con, basculeref_cut.named⟩, ⟨.inl ⟨basculeref_less.con, basculeref_less.named⟩, trivial⟩⟩⟩) (by kernel_rfl) Tryd.func74 (c := cB Tryd.f74) (by kernel_rfl) (by kernel_rfl) F (fun x => by simp [F, spread, Tryd.ntmps74]) (fun x => (St0 x.1 x.2.1)) (fun x => by kernel_rfl) fun x => (top_eq fuel _ x.1 x.2.1).trans (by kernel_rfl)
theorem named : Named Tryd.prog 74 := named_of Tryd.func74 (by kernel_rfl) (by kernel_rfl)
end Go.Bx.basculeref_opposite
namespace Go.Bx.basculeref_Order
def Js : List Nat := []
def C : Ctx := ⟨[(3, T1), (56, T32)], [], [], fnL [(66, basculeref_of.F), (107, basculeref_compare.F)], noSh, [], invL [], [(2, [4])], [], [], 0, 0⟩
def St0 (x0 x1 : D0) : St := stL 10 [(0, .data T32 x0), (1, .data T32 x1)] []
def St1 (x4 : Int) : St := stL 10 [(4, .data T1 x4)] []
def top {α : Type} (Rt : Int -> Option α) (x0 x1 : D0) : Option α :=
 (basculeref_of.run x0).bind fun y1 =>
 (basculeref_of.run x1).bind fun y2 =>
 (basculeref_compare.run y1 y2).bind fun y3 =>
 Rt y3
theorem top_eq {α : Type} (k : Nat) (Q : Ex -> St -> Option α) (x0 x1 : D0) :
  (den C k) (cB Tryd.f75) Q (St0 x0 x1) = top (fun x4 => Q .ret (St1 x4)) x0 x1 := by
 have h : ∀ (D L : DT α), denJ D L Js C (cB Tryd.f75) Q (St0 x0 x1) = top (fun x4 => Q .ret (St1 x4)) x0 x1 := by
  intro D L; kernel_rfl
 have h2 := via (k := k) h
 exact h2
def run (x0 x1 : D0) : Option (Int) := top (α := Int) (fun x4 => some x4) x0 x1
def F : Fn := ⟨T33, T1, false, fun x => run x.1 x.2.1⟩
theorem con : Con Tryd.prog 75 F :=
 con_of (C := C) (ctx_ok (by kernel_rfl) (by kernel_rfl) (by kernel_rfl) (by kernel_rfl) ⟨.inl ⟨basculeref_of.con, basculeref_of.named⟩, ⟨.inl ⟨basculeref_compare.con, basculeref_compare.named⟩, trivial⟩⟩) (by kernel_rfl) Tryd.func75 (c := cB Tryd.f75) (by kernel_rfl) (by kernel_rfl) F (fun x => by simp [F, spread, Tryd.ntmps75]) (fun x => (St0 x.1 x.2.1)) (fun x => by kernel_rfl) fun x => (top_eq fuel _ x.1 x.2.1).trans (by kernel_rfl)
theorem named : Named Tryd.prog 75 := named_of Tryd.func75 (by kernel_rfl) (by kernel_rfl)
end Go.Bx.basculeref_Order
namespace Go.Bx.field_mul_1_s0
def Js : List Nat := []
def C : Ctx := ⟨[(56, T32)], [], [], fnL [(120, field_add.F)], noSh, [], invL [], [(2, [])], [], [], 3, 0⟩
def St0 (x0 : Bool) (c0 c1 c2 : D0) : St := stL 14 [(0, .data .bool x0), (1, .ref 0 0 []), (2, .ref 1 0 []), (3, .ref 2 0 [])] [(0, .cell T32 (.data T32 c0) false), (1, .cell T32 (.data T32 c1) false), (2, .cell T32 (.data T32 c2) false)]
def St1 (c0 c1 c2 : D0) : St := stL 14 [] [(0, .cell T32 (.data T32 c0) false), (1, .cell T32 (.data T32 c1) false), (2, .cell T32 (.data T32 c2) false)]
def top {α : Type} (Rt : D0 -> D0 -> D0 -> Option α) (x0 : Bool) (c0 c1 c2 : D0) : Option α :=
 (field_add.run c0 c0 c1).bind fun y1 =>
 if x0 = true then
  (field_add.run y1 c2 c1).bind fun y2 =>
  Rt y2 c1 c2
 else
  Rt y1 c1 c2
theorem top_eq {α : Type} (k : Nat) (Q : Ex -> St -> Option α) (x0 : Bool) (c0 c1 c2 : D0) :
  (den C k) (cB Tryd.f129) (endQ C Q) (St0 x0 c0 c1 c2) = top (fun c0 c1 c2 => Q .ret (St1 c0 c1 c2)) x0 c0 c1 c2 := by
 have h : ∀ (D L : DT α), denJ D L Js C (cB Tryd.f129) (endQ C Q) (St0 x0 c0 c1 c2) = top (fun c0 c1 c2 => Q .ret (St1 c0 c1 c2)) x0 c0 c1 c2 := by
  intro D L; kernel_rfl
 have h2 := via (k := k) h
 exact h2
def run (x0 : Bool) (c0 c1 c2 : D0) : Option D10 := top (α := List Int × List Int × List Int × Unit) (fun c0 c1 c2 => some (c0, c1, c2, ())) x0 c0 c1 c2
def Sp : Spec := ⟨[hD .bool, .ref 0 0 [], .ref 1 0 [], .ref 2 0 []], [(0, hC T32 (hD T32) false), (1, hC T32 (hD T32) false), (2, hC T32 (hD T32) false)], T41, .tup [], [(0, hC T32 (hD T32) false), (1, hC T32 (hD T32) false), (2, hC T32 (hD T32) false)], T40, fun x => run x.1 x.2.1 x.2.2.1 x.2.2.2.1⟩
set_option maxRecDepth 100000 in
theorem sok : SOk Tryd.prog 129 Sp.h := by
 refine sok_of_den (C := C) (ctx_ok (by kernel_rfl) (by kernel_rfl) (by kernel_rfl) (by kernel_rfl) ⟨.inl ⟨field_add.con, field_add.named⟩, trivial⟩) (by kernel_rfl) Tryd.func129 (c := cB Tryd.f129) (by kernel_rfl) (by kernel_rfl) Sp fuel (by kernel_rfl) (by kernel_rfl) ?_
 intro x r h
 rw [<- h]
 have h1 : Sp.start x Tryd.f129.ntmps = (St0 x.1 x.2.1 x.2.2.1 x.2.2.2.1) := by kernel_rfl
 rw [h1]
 refine (top_eq fuel (finS C Tryd.f129.results.toList Sp.read) x.1 x.2.1 x.2.2.1 x.2.2.2.1).trans ?_
 kernel_rfl
theorem named : Named Tryd.prog 129 := named_of Tryd.func129 (by kernel_rfl) (by kernel_rfl)
end Go.Bx.field_mul_1_s0
namespace Go.Bx.field_bits_s0
def Js : List Nat := [5, 9]
def C : Ctx := ⟨[(22, T2), (56, T32)], [], [], fnL [], shL [(129, [.one field_mul_1_s0.Sp])], [(38, 40)], invL [], [(2, []), (1, []), (4, [1, 2, 4, 5]), (7, [1, 2, 4, 5]), (10, [1, 2, 4, 5, 6]), (9, [1, 2, 4, 5]), (12, [1, 2, 4, 5]), (21, [1, 2, 4, 5, 6]), (24, [1, 2, 4, 5, 6])], [], [], 3, 0⟩
def St0 (x0 c0 : D0) (c1 c2 : D0) : St := stL 39 [(0, .data T32 x0), (1, .fn 129 [] [.ref 0 0 [], .ref 1 0 [], .ref 2 0 []])] [(0, .cell T32 (.data T32 c0) false), (1, .cell T32 (.data T32 c1) false), (2, .cell T32 (.data T32 c2) false)]
def St1 (x4 : Bool) (x5 : Int) (c0 c1 : D0) (c2 c5 : D0) : St := stL 39 [(1, .fn 129 [] [.ref 0 0 [], .ref 1 0 [], .ref 2 0 []]), (2, .ref 5 0 []), (4, .data .bool x4), (5, .data T1 x5)] [(0, .cell T32 (.data T32 c0) false), (1, .cell T32 (.data T32 c1) false), (2, .cell T32 (.data T32 c2) false), (5, .cell T32 (.data T32 c5) false)]
noncomputable def cd0 : Code := cL (cL (cR (cR (cR (cB Tryd.f128)))))
def St2 (x4 : Bool) (x5 : Int) (c0 c1 : D0) (c2 c5 : D0) : St := stL 39 [(1, .fn 129 [] [.ref 0 0 [], .ref 1 0 [], .ref 2 0 []]), (2, .ref 5 0 []), (4, .data .bool x4), (5, .data T1 x5)] [(0, .cell T32 (.data T32 c0) false), (1, .cell T32 (.data T32 c1) false), (2, .cell T32 (.data T32 c2) false), (5, .cell T32 (.data T32 c5) false)]
noncomputable def cd1 : Code := cR (cR (cL (cL (cR (cR (cR (cB Tryd.f128)))))))
def j0 {α : Type} (Nx : Bool -> Int -> D0 -> D0 -> D0 -> D0 -> Option α) (x4 : Bool) (x5 : Int) (c0 c1 : D0) (c2 c5 : D0) : Option α :=
 Nx x4 (IntKind.i64.wrap (x5 - 1)) c0 c1 c2 c5
theorem j0_eq {α : Type} (k : Nat) (next : St -> Option α) (Q : Ex -> St -> Option α) (x4 : Bool) (x5 : Int) (c0 c1 : D0) (c2 c5 : D0) :
  (den C k) cd1 (lq C 9 next Q) (St2 x4 x5 c0 c1 c2 c5) = j0 (fun x4 x5 c0 c1 c2 c5 => next (St1 x4 x5 c0 c1 c2 c5)) x4 x5 c0 c1 c2 c5 := by
 have h : ∀ (D L : DT α), denJ D L Js C cd1 (lq C 9 next Q) (St2 x4 x5 c0 c1 c2 c5) = j0 (fun x4 x5 c0 c1 c2 c5 => next (St1 x4 x5 c0 c1 c2 c5)) x4 x5 c0 c1 c2 c5 := by
  intro D L; kernel_rfl
 have h2 := via (k := k) h
 exact h2
def St3 (x4 : Bool) (x5 x6 : Int) (c0 c1 : D0) (c2 c5 : D0) : St := stL 39 [(1, .fn 129 [] [.ref 0 0 [], .ref 1 0 [], .ref 2 0 []]), (2, .ref 5 0 []), (4, .data .bool x4), (5, .data T1 x5), (6, .data T1 x6)] [(0, .cell T32 (.data T32 c0) false), (1, .cell T32 (.data T32 c1) false), (2, .cell T32 (.data T32 c2) false), (5, .cell T32 (.data T32 c5) false)]
noncomputable def cd2 : Code := cL (cL (cR (cR (cL (cL (cR (cL (cL (cR (cR (cR (cB Tryd.f128))))))))))))
def St4 (x4 : Bool) (x5 x6 : Int) (c0 c1 : D0) (c2 c5 : D0) : St := stL 39 [(1, .fn 129 [] [.ref 0 0 [], .ref 1 0 [], .ref 2 0 []]), (2, .ref 5 0 []), (4, .data .bool x4), (5, .data T1 x5), (6, .data T1 x6)] [(0, .cell T32 (.data T32 c0) false), (1, .cell T32 (.data T32 c1) false), (2, .cell T32 (.data T32 c2) false), (5, .cell T32 (.data T32 c5) false)]
noncomputable def cd3 : Code := cR (cR (cL (cL (cR (cR (cL (cL (cR (cL (cL (cR (cR (cR (cB Tryd.f128))))))))))))))
def j1 {α : Type} (Nx : Bool -> Int -> Int -> D0 -> D0 -> D0 -> D0 -> Option α) (x4 : Bool) (x5 x6 : Int) (c0 c1 : D0) (c2 c5 : D0) : Option α :=
 Nx x4 x5 (IntKind.i64.wrap (x6 - 1)) c0 c1 c2 c5
theorem j1_eq {α : Type} (k : Nat) (next : St -> Option α) (Q : Ex -> St -> Option α) (x4 : Bool) (x5 x6 : Int) (c0 c1 : D0) (c2 c5 : D0) :
  (den C k) cd3 (lq C 21 next Q) (St4 x4 x5 x6 c0 c1 c2 c5) = j1 (fun x4 x5 x6 c0 c1 c2 c5 => next (St3 x4 x5 x6 c0 c1 c2 c5)) x4 x5 x6 c0 c1 c2 c5 := by
 have h : ∀ (D L : DT α), denJ D L Js C cd3 (lq C 21 next Q) (St4 x4 x5 x6 c0 c1 c2 c5) = j1 (fun x4 x5 x6 c0 c1 c2 c5 => next (St3 x4 x5 x6 c0 c1 c2 c5)) x4 x5 x6 c0 c1 c2 c5 := by
  intro D L; kernel_rfl
 have h2 := via (k := k) h
 exact h2
def St5 (x4 : Bool) (x5 : Int) (c0 c1 : D0) (c2 c5 : D0) : St := stL 39 [(1, .fn 129 [] [.ref 0 0 [], .ref 1 0 [], .ref 2 0 []]), (2, .ref 5 0 []), (4, .data .bool x4), (5, .data T1 x5)] [(0, .cell T32 (.data T32 c0) false), (1, .cell T32 (.data T32 c1) false), (2, .cell T32 (.data T32 c2) false), (5, .cell T32 (.data T32 c5) false)]
def l1s {α : Type} (Nx : Bool -> Int -> Int -> D0 -> D0 -> D0 -> D0 -> Option α) (Xt2 : Bool -> Int -> D0 -> D0 -> D0 -> D0 -> Option α) (x4 : Bool) (x5 x6 : Int) (c0 c1 : D0) (c2 c5 : D0) : Option α :=
 if (decide (x6 >= 0)) = true then
  if 0 <= x5 /\ x5 < (4 : Int) then
   if 0 <= x6 then
    if (cond x4 true ((band .u64 (shrI .u64 (List.getD c5 (Int.toNat x5) 0) x6) 1) == 1)) = true then
     (field_mul_1_s0.run ((band .u64 (shrI .u64 (List.getD c5 (Int.toNat x5) 0) x6) 1) == 1) c0 c1 c2).bind fun y1 =>
     j1 Nx (cond x4 true ((band .u64 (shrI .u64 (List.getD c5 (Int.toNat x5) 0) x6) 1) == 1)) x5 x6 y1.1 y1.2.1 y1.2.2.1 c5
    else
     j1 Nx (cond x4 true ((band .u64 (shrI .u64 (List.getD c5 (Int.toNat x5) 0) x6) 1) == 1)) x5 x6 c0 c1 c2 c5
   else none
  else none
 else
  Xt2 x4 x5 c0 c1 c2 c5
theorem l1s_eq {α : Type} (k : Nat) (next : St -> Option α) (Q : Ex -> St -> Option α) (x4 : Bool) (x5 x6 : Int) (c0 c1 : D0) (c2 c5 : D0) :
  rnd C k cd2 21 Q next (St3 x4 x5 x6 c0 c1 c2 c5) = l1s (fun x4 x5 x6 c0 c1 c2 c5 => next (St3 x4 x5 x6 c0 c1 c2 c5)) (fun x4 x5 c0 c1 c2 c5 => Q (.exit 2) (St5 x4 x5 c0 c1 c2 c5)) x4 x5 x6 c0 c1 c2 c5 := by
 have h : ∀ (D L : DT α), denJ D L Js C cd2 (lq C 21 next Q) (St3 x4 x5 x6 c0 c1 c2 c5) =
    if (decide (x6 >= 0)) = true then
     if 0 <= x5 /\ x5 < (4 : Int) then
      if 0 <= x6 then
       if (cond x4 true ((band .u64 (shrI .u64 (List.getD c5 (Int.toNat x5) 0) x6) 1) == 1)) = true then
        (field_mul_1_s0.run ((band .u64 (shrI .u64 (List.getD c5 (Int.toNat x5) 0) x6) 1) == 1) c0 c1 c2).bind fun y1 =>
        D cd3 (lq C 21 next Q) (St4 (cond x4 true ((band .u64 (shrI .u64 (List.getD c5 (Int.toNat x5) 0) x6) 1) == 1)) x5 x6 y1.1 y1.2.1 y1.2.2.1 c5)
       else
        D cd3 (lq C 21 next Q) (St4 (cond x4 true ((band .u64 (shrI .u64 (List.getD c5 (Int.toNat x5) 0) x6) 1) == 1)) x5 x6 c0 c1 c2 c5)
      else none
     else none
    else
     Q (.exit 2) (St5 x4 x5 c0 c1 c2 c5) := by
  intro D L; kernel_rfl
 have h2 := via (k := k) h
 refine h2.trans ?_
 simp only [j1_eq]
 first | rfl | kernel_rfl
def l1 {α : Type} (k : Nat) (Xt2 : Bool -> Int -> D0 -> D0 -> D0 -> D0 -> Option α) : Nat -> Bool -> Int -> Int -> D0 -> D0 -> D0 -> D0 -> Option α
 | 0, _, _, _, _, _, _, _ => none
 | n + 1, x4, x5, x6, c0, c1, c2, c5 => l1s (l1 k Xt2 n) Xt2 x4 x5 x6 c0 c1 c2 c5
theorem l1_eq {α : Type} (k : Nat) (Q : Ex -> St -> Option α) : ∀ (n : Nat) (x4 : Bool) (x5 x6 : Int) (c0 c1 : D0) (c2 c5 : D0), iter (rnd C k cd2 21 Q) n (St3 x4 x5 x6 c0 c1 c2 c5) = l1 k (fun x4 x5 c0 c1 c2 c5 => Q (.exit 2) (St5 x4 x5 c0 c1 c2 c5)) n x4 x5 x6 c0 c1 c2 c5
 | 0, _, _, _, _, _, _, _ => rfl
 | n + 1, x4, x5, x6, c0, c1, c2, c5 => (iter_succ _ _ _).trans ((l1s_eq k _ Q x4 x5 x6 c0 c1 c2 c5).trans (congrArg (fun N => l1s N (fun x4 x5 c0 c1 c2 c5 => Q (.exit 2) (St5 x4 x5 c0 c1 c2 c5)) x4 x5 x6 c0 c1 c2 c5) (by funext; exact l1_eq k Q n _ _ _ _ _ _ _)))
theorem a0 {α : Type} (k : Nat) (next : St -> Option α) (Q : Ex -> St -> Option α) (x4 : Bool) (x5 x6 : Int) (c0 c1 : D0) (c2 c5 : D0) :
  (lp C k) cd2 (blkQ C 2 (blkQ C 1 (sq (den C k) (lp C k) Js C cd1 (lq C 9 next Q)))) (St3 x4 x5 x6 c0 c1 c2 c5) = l1 k (fun x4 x5 c0 c1 c2 c5 => j0 (fun x4 x5 c0 c1 c2 c5 => next (St1 x4 x5 c0 c1 c2 c5)) x4 x5 c0 c1 c2 c5) k x4 x5 x6 c0 c1 c2 c5 :=
 (lp_iter 21 (by kernel_rfl)).trans ((l1_eq k _ k x4 x5 x6 c0 c1 c2 c5).trans (congrArg (fun X => l1 k X k x4 x5 x6 c0 c1 c2 c5) (funext fun x4 => funext fun x5 => funext fun c0 => funext fun c1 => funext fun c2 => funext fun c5 => (Eq.trans (b := (den C k) cd1 (lq C 9 next Q) (St2 x4 x5 c0 c1 c2 c5)) (by kernel_rfl) (by simp only [j0_eq])))))
def St6 (c0 c1 c2 : D0) : St := stL 39 [] [(0, .cell T32 (.data T32 c0) false), (1, .cell T32 (.data T32 c1) false), (2, .cell T32 (.data T32 c2) false)]
def l0s {α : Type} (k : Nat) (Nx : Bool -> Int -> D0 -> D0 -> D0 -> D0 -> Option α) (Xt0 : D0 -> D0 -> D0 -> Option α) (x4 : Bool) (x5 : Int) (c0 c1 : D0) (c2 c5 : D0) : Option α :=
 if (decide (x5 >= 0)) = true then
  if 0 <= x5 /\ x5 < (4 : Int) then
   if (cond ((List.getD c5 (Int.toNat x5) 0) == 0) (not x4) false) = true then
    j0 Nx x4 x5 c0 c1 c2 c5
   else
    l1 k (fun x4 x5 c0 c1 c2 c5 => j0 Nx x4 x5 c0 c1 c2 c5) k x4 x5 63 c0 c1 c2 c5
  else none
 else
  Xt0 c0 c1 c2
theorem l0s_eq {α : Type} (k : Nat) (next : St -> Option α) (Q : Ex -> St -> Option α) (x4 : Bool) (x5 : Int) (c0 c1 : D0) (c2 c5 : D0) :
  rnd C k cd0 9 Q next (St1 x4 x5 c0 c1 c2 c5) = l0s k (fun x4 x5 c0 c1 c2 c5 => next (St1 x4 x5 c0 c1 c2 c5)) (fun c0 c1 c2 => Q (.exit 0) (St6 c0 c1 c2)) x4 x5 c0 c1 c2 c5 := by
 have h : ∀ (D L : DT α), denJ D L Js C cd0 (lq C 9 next Q) (St1 x4 x5 c0 c1 c2 c5) =
    if (decide (x5 >= 0)) = true then
     if 0 <= x5 /\ x5 < (4 : Int) then
      if (cond ((List.getD c5 (Int.toNat x5) 0) == 0) (not x4) false) = true then
       D cd1 (lq C 9 next Q) (St2 x4 x5 c0 c1 c2 c5)
      else
       L cd2 (blkQ C 2 (blkQ C 1 (sq D L Js C cd1 (lq C 9 next Q)))) (St3 x4 x5 63 c0 c1 c2 c5)
     else none
    else
     Q (.exit 0) (St6 c0 c1 c2) := by
  intro D L; kernel_rfl
 have h2 := via (k := k) h
 refine h2.trans ?_
 simp only [j0_eq, a0]
 first | rfl | kernel_rfl
def l0 {α : Type} (k : Nat) (Xt0 : D0 -> D0 -> D0 -> Option α) : Nat -> Bool -> Int -> D0 -> D0 -> D0 -> D0 -> Option α
 | 0, _, _, _, _, _, _ => none
 | n + 1, x4, x5, c0, c1, c2, c5 => l0s k (l0 k Xt0 n) Xt0 x4 x5 c0 c1 c2 c5
theorem l0_eq {α : Type} (k : Nat) (Q : Ex -> St -> Option α) : ∀ (n : Nat) (x4 : Bool) (x5 : Int) (c0 c1 : D0) (c2 c5 : D0), iter (rnd C k cd0 9 Q) n (St1 x4 x5 c0 c1 c2 c5) = l0 k (fun c0 c1 c2 => Q (.exit 0) (St6 c0 c1 c2)) n x4 x5 c0 c1 c2 c5
 | 0, _, _, _, _, _, _ => rfl
 | n + 1, x4, x5, c0, c1, c2, c5 => (iter_succ _ _ _).trans ((l0s_eq k _ Q x4 x5 c0 c1 c2 c5).trans (congrArg (fun N => l0s k N (fun c0 c1 c2 => Q (.exit 0) (St6 c0 c1 c2)) x4 x5 c0 c1 c2 c5) (by funext; exact l0_eq k Q n _ _ _ _ _ _)))
def St7 (c0 c1 c2 : D0) : St := stL 39 [] [(0, .cell T32 (.data T32 c0) false), (1, .cell T32 (.data T32 c1) false), (2, .cell T32 (.data T32 c2) false)]
theorem a1 {α : Type} (k : Nat) (Q : Ex -> St -> Option α) (x4 : Bool) (x5 : Int) (c0 c1 : D0) (c2 c5 : D0) :
  (lp C k) cd0 (blkQ C 0 (endQ C Q)) (St1 x4 x5 c0 c1 c2 c5) = l0 k (fun c0 c1 c2 => (fun c0 c1 c2 => Q .ret (St7 c0 c1 c2)) c0 c1 c2) k x4 x5 c0 c1 c2 c5 :=
 (lp_iter 9 (by kernel_rfl)).trans ((l0_eq k _ k x4 x5 c0 c1 c2 c5).trans (congrArg (fun X => l0 k X k x4 x5 c0 c1 c2 c5) (funext fun c0 => funext fun c1 => funext fun c2 => (by kernel_rfl))))
def top {α : Type} (k : Nat) (Rt : D0 -> D0 -> D0 -> Option α) (x0 c0 : D0) (c1 c2 : D0) : Option α :=
 l0 k (fun c0 c1 c2 => Rt c0 c1 c2) k false 3 c0 c1 c2 x0
theorem top_eq {α : Type} (k : Nat) (Q : Ex -> St -> Option α) (x0 c0 : D0) (c1 c2 : D0) :
  (den C k) (cB Tryd.f128) (endQ C Q) (St0 x0 c0 c1 c2) = top k (fun c0 c1 c2 => Q .ret (St7 c0 c1 c2)) x0 c0 c1 c2 := by
 have h : ∀ (D L : DT α), denJ D L Js C (cB Tryd.f128) (endQ C Q) (St0 x0 c0 c1 c2) =
    L cd0 (blkQ C 0 (endQ C Q)) (St1 false 3 c0 c1 c2 x0) := by
  intro D L; kernel_rfl
 have h2 := via (k := k) h
 refine h2.trans ?_
 simp only [a1]
 first | rfl | kernel_rfl
def run (x0 c0 : D0) (c1 c2 : D0) : Option D10 := top (α := List Int × List Int × List Int × Unit) fuel (fun c0 c1 c2 => some (c0, c1, c2, ())) x0 c0 c1 c2
def Sp : Spec := ⟨[hD T32, .fn 129 [] [.ref 0 0 [], .ref 1 0 [], .ref 2 0 []]], [(0, hC T32 (hD T32) false), (1, hC T32 (hD T32) false), (2, hC T32 (hD T32) false)], T42, .tup [], [(0, hC T32 (hD T32) false), (1, hC T32 (hD T32) false), (2, hC T32 (hD T32) false)], T40, fun x => run x.1 x.2.1 x.2.2.1 x.2.2.2.1⟩
set_option maxRecDepth 100000 in
theorem sok : SOk Tryd.prog 128 Sp.h := by
 refine sok_of_den (C := C) (ctx_ok_sh (by kernel_rfl) (by kernel_rfl) (by kernel_rfl) (by kernel_rfl) trivial ⟨⟨⟨field_mul_1_s0.sok, trivial⟩, field_mul_1_s0.named⟩, trivial⟩) (by kernel_rfl) Tryd.func128 (c := cB Tryd.f128) (by kernel_rfl) (by kernel_rfl) Sp fuel (by kernel_rfl) (by kernel_rfl) ?_
 intro x r h
 rw [<- h]
 have h1 : Sp.start x Tryd.f128.ntmps = (St0 x.1 x.2.1 x.2.2.1 x.2.2.2.1) := by kernel_rfl
 rw [h1]
 refine (top_eq fuel (finS C Tryd.f128.results.toList Sp.read) x.1 x.2.1 x.2.2.1 x.2.2.2.1).trans ?_
 kernel_rfl
theorem named : Named Tryd.prog 128 := named_of Tryd.func128 (by kernel_rfl) (by kernel_rfl)
end Go.Bx.field_bits_s0
namespace Go.Bx.field_mul
def Js : List Nat := []
def C : Ctx := ⟨[(56, T32)], [], [], fnL [], shL [(128, [.one field_bits_s0.Sp])], [(10, 13)], invL [], [(2, [6])], [], [], 0, 0⟩
def St0 (x0 x1 x2 : D0) : St := stL 12 [(0, .data T32 x0), (1, .data T32 x1), (2, .data T32 x2)] []
def St1 (c6 : D0) : St := stL 12 [(6, .ref 6 0 [])] [(6, .cell T32 (.data T32 c6) false)]
def top {α : Type} (Rt : D0 -> Option α) (x0 x1 x2 : D0) : Option α :=
 (field_bits_s0.run x1 [0, 0, 0, 0] x2 x0).bind fun y1 =>
 Rt y1.1
theorem top_eq {α : Type} (k : Nat) (Q : Ex -> St -> Option α) (x0 x1 x2 : D0) :
  (den C k) (cB Tryd.f118) Q (St0 x0 x1 x2) = top (fun c6 => Q .ret (St1 c6)) x0 x1 x2 := by
 have h : ∀ (D L : DT α), denJ D L Js C (cB Tryd.f118) Q (St0 x0 x1 x2) = top (fun c6 => Q .ret (St1 c6)) x0 x1 x2 := by
  intro D L; kernel_rfl
 have h2 := via (k := k) h
 exact h2
def run (x0 x1 x2 : D0) : Option D0 := top (α := List Int) (fun c6 => some c6) x0 x1 x2
def F : Fn := ⟨T40, T32, false, fun x => run x.1 x.2.1 x.2.2.1⟩
theorem con : Con Tryd.prog 118 F :=
 con_of (C := C) (ctx_ok_sh (by kernel_rfl) (by kernel_rfl) (by kernel_rfl) (by kernel_rfl) trivial ⟨⟨⟨field_bits_s0.sok, trivial⟩, field_bits_s0.named⟩, trivial⟩) (by kernel_rfl) Tryd.func118 (c := cB Tryd.f118) (by kernel_rfl) (by kernel_rfl) F (fun x => by simp [F, spread, Tryd.ntmps118]) (fun x => (St0 x.1 x.2.1 x.2.2.1)) (fun x => by kernel_rfl) fun x => (top_eq fuel _ x.1 x.2.1 x.2.2.1).trans (by kernel_rfl)
theorem named : Named Tryd.prog 118 := named_of Tryd.func118 (by kernel_rfl) (by kernel_rfl)
end Go.Bx.field_mul
namespace Go.Bx.field_Inv
def Js : List Nat := [12]
def C : Ctx := ⟨[(30, T1), (56, T32), (72, T43)], [], [], fnL [(94, wide_DivMod.F), (116, field_fault.F), (117, field_sub.F), (118, field_mul.F)], noSh, [], invL [], [(2, [4, 5]), (1, [4, 10, 12]), (4, [3, 4, 8, 10, 11, 12]), (18, [3, 4, 8, 10, 11, 12]), (33, [4, 10, 12])], [], [], 0, 0⟩
def St0 (x0 x1 : D0) : St := stL 66 [(0, .data T32 x0), (1, .data T32 x1)] []
def St1 (x5 : Int) (c4 : D0) : St := stL 66 [(4, .ref 4 0 []), (5, .data T1 x5)] [(4, .cell T32 (.data T32 c4) false)]
def St2 (c3 c4 : D0) (c8 c10 : D0) (c11 c12 : D0) : St := stL 66 [(3, .ref 3 0 []), (4, .ref 4 0 []), (8, .ref 8 0 []), (10, .ref 10 0 []), (11, .ref 11 0 []), (12, .ref 12 0 [])] [(3, .cell T32 (.data T32 c3) false), (4, .cell T32 (.data T32 c4) false), (8, .cell T32 (.data T32 c8) false), (10, .cell T32 (.data T32 c10) false), (11, .cell T32 (.data T32 c11) false), (12, .cell T32 (.data T32 c12) false)]
noncomputable def cd0 : Code := cL (cL (cL (cR (cR (cR (cR (cB Tryd.f95)))))))
def St3 (c4 c10 c12 : D0) : St := stL 66 [(4, .ref 4 0 []), (10, .ref 10 0 []), (12, .ref 12 0 [])] [(4, .cell T32 (.data T32 c4) false), (10, .cell T32 (.data T32 c10) false), (12, .cell T32 (.data T32 c12) false)]
def l0s {α : Type} (Nx : D0 -> D0 -> D0 -> D0 -> D0 -> D0 -> Option α) (Xt0 : D0 -> D0 -> D0 -> Option α) (c3 c4 : D0) (c8 c10 : D0) (c11 c12 : D0) : Option α :=
 if (not (beqD T32 c11 [0, 0, 0, 0])) = true then
  (wide_DivMod.run c10 c11).bind fun y3 =>
  (wide_DivMod.run y3.1 c3).bind fun y4 =>
  (field_mul.run y4.2.1 c8 c3).bind fun y5 =>
  (field_sub.run c12 y5 c3).bind fun y6 =>
  Nx c3 c4 y6 c11 y3.2.1 c8
 else
  Xt0 c4 c10 c12
theorem l0s_eq {α : Type} (k : Nat) (next : St -> Option α) (Q : Ex -> St -> Option α) (c3 c4 : D0) (c8 c10 : D0) (c11 c12 : D0) :
  rnd C k cd0 18 Q next (St2 c3 c4 c8 c10 c11 c12) = l0s (fun c3 c4 c8 c10 c11 c12 => next (St2 c3 c4 c8 c10 c11 c12)) (fun c4 c10 c12 => Q (.exit 0) (St3 c4 c10 c12)) c3 c4 c8 c10 c11 c12 := by
 have h : ∀ (D L : DT α), denJ D L Js C cd0 (lq C 18 next Q) (St2 c3 c4 c8 c10 c11 c12) = l0s (fun c3 c4 c8 c10 c11 c12 => next (St2 c3 c4 c8 c10 c11 c12)) (fun c4 c10 c12 => Q (.exit 0) (St3 c4 c10 c12)) c3 c4 c8 c10 c11 c12 := by
  intro D L; kernel_rfl
 have h2 := via (k := k) h
 exact h2
def l0 {α : Type} (k : Nat) (Xt0 : D0 -> D0 -> D0 -> Option α) : Nat -> D0 -> D0 -> D0 -> D0 -> D0 -> D0 -> Option α
 | 0, _, _, _, _, _, _ => none
 | n + 1, c3, c4, c8, c10, c11, c12 => l0s (l0 k Xt0 n) Xt0 c3 c4 c8 c10 c11 c12
theorem l0_eq {α : Type} (k : Nat) (Q : Ex -> St -> Option α) : ∀ (n : Nat) (c3 c4 : D0) (c8 c10 : D0) (c11 c12 : D0), iter (rnd C k cd0 18 Q) n (St2 c3 c4 c8 c10 c11 c12) = l0 k (fun c4 c10 c12 => Q (.exit 0) (St3 c4 c10 c12)) n c3 c4 c8 c10 c11 c12
 | 0, _, _, _, _, _, _ => rfl
 | n + 1, c3, c4, c8, c10, c11, c12 => (iter_succ _ _ _).trans ((l0s_eq k _ Q c3 c4 c8 c10 c11 c12).trans (congrArg (fun N => l0s N (fun c4 c10 c12 => Q (.exit 0) (St3 c4 c10 c12)) c3 c4 c8 c10 c11 c12) (by funext; exact l0_eq k Q n _ _ _ _ _ _)))
noncomputable def cd1 : Code := cR (cR (cR (cR (cR (cB Tryd.f95)))))
def St4 (c4 c10 c12 : D0) : St := stL 66 [(4, .ref 4 0 []), (10, .ref 10 0 []), (12, .ref 12 0 [])] [(4, .cell T32 (.data T32 c4) false), (10, .cell T32 (.data T32 c10) false), (12, .cell T32 (.data T32 c12) false)]
def j0 {α : Type} (Rt : Int -> D0 -> Option α) (c4 c10 c12 : D0) : Option α :=
 if (not (beqD T32 c10 [1, 0, 0, 0])) = true then
  Rt 5 [0, 0, 0, 0]
 else
  Rt 0 c12
theorem j0_eq {α : Type} (k : Nat) (Q : Ex -> St -> Option α) (c4 c10 c12 : D0) :
  (den C k) cd1 Q (St4 c4 c10 c12) = j0 (fun x5 c4 => Q .ret (St1 x5 c4)) c4 c10 c12 := by
 have h : ∀ (D L : DT α), denJ D L Js C cd1 Q (St4 c4 c10 c12) = j0 (fun x5 c4 => Q .ret (St1 x5 c4)) c4 c10 c12 := by
  intro D L; kernel_rfl
 have h2 := via (k := k) h
 exact h2
theorem a0 {α : Type} (k : Nat) (Q : Ex -> St -> Option α) (c3 c4 : D0) (c8 c10 : D0) (c11 c12 : D0) :
  (lp C k) cd0 (blkQ C 0 (sq (den C k) (lp C k) Js C cd1 Q)) (St2 c3 c4 c8 c10 c11 c12) = l0 k (fun c4 c10 c12 => j0 (fun x5 c4 => Q .ret (St1 x5 c4)) c4 c10 c12) k c3 c4 c8 c10 c11 c12 :=
 (lp_iter 18 (by kernel_rfl)).trans ((l0_eq k _ k c3 c4 c8 c10 c11 c12).trans (congrArg (fun X => l0 k X k c3 c4 c8 c10 c11 c12) (funext fun c4 => funext fun c10 => funext fun c12 => (Eq.trans (b := (den C k) cd1 Q (St4 c4 c10 c12)) (by kernel_rfl) (by simp only [j0_eq])))))
def top {α : Type} (k : Nat) (Rt : Int -> D0 -> Option α) (x0 x1 : D0) : Option α :=
 (field_fault.run x1 [x0]).bind fun y1 =>
 if (y1 != 0) = true then
  Rt y1 [0, 0, 0, 0]
 else
  (wide_DivMod.run [1, 0, 0, 0] x1).bind fun y2 =>
  l0 k (fun c4 c10 c12 => j0 Rt c4 c10 c12) k x1 [0, 0, 0, 0] y2.2.1 x1 x0 [0, 0, 0, 0]
theorem top_eq {α : Type} (k : Nat) (Q : Ex -> St -> Option α) (x0 x1 : D0) :
  (den C k) (cB Tryd.f95) Q (St0 x0 x1) = top k (fun x5 c4 => Q .ret (St1 x5 c4)) x0 x1 := by
 have h : ∀ (D L : DT α), denJ D L Js C (cB Tryd.f95) Q (St0 x0 x1) =
    (field_fault.run x1 [x0]).bind fun y1 =>
    if (y1 != 0) = true then
     Q .ret (St1 y1 [0, 0, 0, 0])
    else
     (wide_DivMod.run [1, 0, 0, 0] x1).bind fun y2 =>
     L cd0 (blkQ C 0 (sq D L Js C cd1 Q)) (St2 x1 [0, 0, 0, 0] y2.2.1 x1 x0 [0, 0, 0, 0]) := by
  intro D L; kernel_rfl
 have h2 := via (k := k) h
 refine h2.trans ?_
 simp only [a0]
 first | rfl | kernel_rfl
def run (x0 x1 : D0) : Option D3 := top (α := List Int × Int × Unit) fuel (fun x5 c4 => some (c4, x5, ())) x0 x1
def F : Fn := ⟨T33, T36, true, fun x => run x.1 x.2.1⟩
theorem con : Con Tryd.prog 95 F :=
 con_of (C := C) (ctx_ok (by kernel_rfl) (by kernel_rfl) (by kernel_rfl) (by kernel_rfl) ⟨.inl ⟨wide_DivMod.con, wide_DivMod.named⟩, ⟨.inl ⟨field_fault.con, field_fault.named⟩, ⟨.inl ⟨field_sub.con, field_sub.named⟩, ⟨.inl ⟨field_mul.con, field_mul.named⟩, trivial⟩⟩⟩⟩) (by kernel_rfl) Tryd.func95 (c := cB Tryd.f95) (by kernel_rfl) (by kernel_rfl) F (fun x => by simp [F, spread, Tryd.ntmps95]) (fun x => (St0 x.1 x.2.1)) (fun x => by kernel_rfl) fun x => (top_eq fuel _ x.1 x.2.1).trans (by kernel_rfl)
theorem named : Named Tryd.prog 95 := named_of Tryd.func95 (by kernel_rfl) (by kernel_rfl)
end Go.Bx.field_Inv
namespace Go.Bx.basculeref_inverse
def Js : List Nat := []
def FR (R : D0 -> D0 -> Option D9) : Fn := ⟨T33, T39, true, fun x => R x.1 x.2.1⟩
def C (R : D0 -> D0 -> Option D9) : Ctx := ⟨[(4, .bool), (56, T32), (119, T68)], [], [], fnL [(65, basculeref_rest.F), (66, basculeref_of.F), (71, FR R), (74, basculeref_opposite.F), (100, basculeref_divided.F), (103, basculeref_Quotient.F), (104, basculeref_less.F), (105, basculeref_times.F), (106, basculeref_plus.F)], noSh, [], invL [], [(2, [4, 5])], [], [], 0, 0⟩
def St0 (x0 x1 : D0) : St := stL 67 [(0, .data T32 x0), (1, .data T32 x1)] []
def St1 (x5 : Bool) (c4 : D0) : St := stL 67 [(4, .ref 4 0 []), (5, .data .bool x5)] [(4, .cell T32 (.data T32 c4) false)]
def top (R : D0 -> D0 -> Option D9) {α : Type} (Rt : Bool -> D0 -> Option α) (x0 x1 : D0) : Option α :=
 if (beqD T32 x1 [1, 0, 0, 0]) = true then
  Rt true [0, 0, 0, 0]
 else
  if (beqD T32 x0 [0, 0, 0, 0]) = true then
   Rt false [0, 0, 0, 0]
  else
   if (beqD T32 x0 [1, 0, 0, 0]) = true then
    Rt true x0
   else
    (basculeref_Quotient.run x1 x0).bind fun y1 =>
    (R y1.2.1 x0).bind fun y2 =>
    if (not y2.2.1) = true then
     Rt false [0, 0, 0, 0]
    else
     (basculeref_of.run y1.2.1).bind fun y3 =>
     (basculeref_of.run y2.1).bind fun y4 =>
     (basculeref_times.run y3 y4).bind fun y5 =>
     (basculeref_less.run y5 [1]).bind fun y6 =>
     (basculeref_of.run x0).bind fun y7 =>
     (basculeref_divided.run y6 y7).bind fun y8 =>
     (basculeref_of.run y1.1).bind fun y9 =>
     (basculeref_of.run y2.1).bind fun y10 =>
     (basculeref_times.run y9 y10).bind fun y11 =>
     (basculeref_plus.run y11 y8.1).bind fun y12 =>
     (basculeref_rest.run y12 x1).bind fun y13 =>
     (basculeref_opposite.run y13 x1).bind fun y14 =>
     Rt true y14
theorem top_eq (R : D0 -> D0 -> Option D9) {α : Type} (k : Nat) (Q : Ex -> St -> Option α) (x0 x1 : D0) :
  (den (C R) k) (cB Tryd.f71) Q (St0 x0 x1) = top R (fun x5 c4 => Q .ret (St1 x5 c4)) x0 x1 := by
 have h : ∀ (D L : DT α), denJ D L Js (C R) (cB Tryd.f71) Q (St0 x0 x1) = top R (fun x5 c4 => Q .ret (St1 x5 c4)) x0 x1 := by
  intro D L; kernel_rfl
 have h2 := via (k := k) h
 exact h2
def runN : Nat -> D0 -> D0 -> Option D9
 | 0 => fun _ _ => none
 | n + 1 => fun x0 x1 => top (runN n) (α := List Int × Bool × Unit) (fun x5 c4 => some (c4, x5, ())) x0 x1
def run (x0 x1 : D0) : Option D9 := runN fuel x0 x1
def F : Fn := FR (runN fuel)
theorem named : Named Tryd.prog 71 := named_of Tryd.func71 (by kernel_rfl) (by kernel_rfl)
set_option maxRecDepth 100000 in
theorem conN : ∀ n, Con Tryd.prog 71 (FR (runN n))
 | 0 => fun w I x r args hI h => by cases h
 | n + 1 => by
  refine con_of_den (C := C (runN n)) (ctx_ok (by kernel_rfl) (by kernel_rfl) (by kernel_rfl) (by kernel_rfl) ⟨.inl ⟨basculeref_rest.con, basculeref_rest.named⟩, ⟨.inl ⟨basculeref_of.con, basculeref_of.named⟩, ⟨.inl ⟨conN n, named⟩, ⟨.inl ⟨basculeref_opposite.con, basculeref_opposite.named⟩, ⟨.inl ⟨basculeref_divided.con, basculeref_divided.named⟩, ⟨.inl ⟨basculeref_Quotient.con, basculeref_Quotient.named⟩, ⟨.inl ⟨basculeref_less.con, basculeref_less.named⟩, ⟨.inl ⟨basculeref_times.con, basculeref_times.named⟩, ⟨.inl ⟨basculeref_plus.con, basculeref_plus.named⟩, trivial⟩⟩⟩⟩⟩⟩⟩⟩⟩) (by kernel_rfl) Tryd.func71 (c := cB Tryd.f71) (by kernel_rfl) (by kernel_rfl) (FR (runN (n + 1))) fuel (fun x => by simp [FR, spread, Tryd.ntmps71]) ?_
  intro x r h
  rw [<- h]
  have h1 : start (FR (runN (n + 1))) Tryd.f71.ntmps x = (St0 x.1 x.2.1) := by kernel_rfl
  rw [h1]
  refine (top_eq (runN n) fuel (fin (C (runN n)) Tryd.f71.results.toList (FR (runN (n + 1))).rs (FR (runN (n + 1))).multi) x.1 x.2.1).trans ?_
  kernel_rfl
theorem con : Con Tryd.prog 71 F := conN fuel
end Go.Bx.basculeref_inverse
namespace Go.Bx.field_by_s0
def Js : List Nat := []
def C : Ctx := ⟨[(56, T32), (72, T43)], [], [], fnL [(116, field_fault.F), (118, field_mul.F)], noSh, [], invL [], [(2, [8, 9])], [], [], 0, 0⟩
def St0 (x1 x2 x3 : D0) : St := stL 25 [(0, .fn 118 [] []), (1, .data T32 x1), (2, .data T32 x2), (3, .data T32 x3)] []
def St1 (x9 : Int) (c8 : D0) : St := stL 25 [(8, .ref 8 0 []), (9, .data T1 x9)] [(8, .cell T32 (.data T32 c8) false)]
def top {α : Type} (Rt : Int -> D0 -> Option α) (x1 x2 x3 : D0) : Option α :=
 (field_fault.run x3 [x1, x2]).bind fun y1 =>
 if (y1 != 0) = true then
  Rt y1 [0, 0, 0, 0]
 else
  (field_mul.run x1 x2 x3).bind fun y2 =>
  Rt 0 y2
theorem top_eq {α : Type} (k : Nat) (Q : Ex -> St -> Option α) (x1 x2 x3 : D0) :
  (den C k) (cB Tryd.f119) (endQ C Q) (St0 x1 x2 x3) = top (fun x9 c8 => Q .ret (St1 x9 c8)) x1 x2 x3 := by
 have h : ∀ (D L : DT α), denJ D L Js C (cB Tryd.f119) (endQ C Q) (St0 x1 x2 x3) = top (fun x9 c8 => Q .ret (St1 x9 c8)) x1 x2 x3 := by
  intro D L; kernel_rfl
 have h2 := via (k := k) h
 exact h2
def run (x1 x2 x3 : D0) : Option D11 := top (α := List Int × Int × List Int × Unit) (fun x9 c8 => some (c8, x9, c8, ())) x1 x2 x3
def Sp : Spec := ⟨[.fn 118 [] [], hD T32, hD T32, hD T32], [], T40, .tup [hD T32, hD T1], [(8, hC T32 (hD T32) false)], T45, fun x => run x.1 x.2.1 x.2.2.1⟩
set_option maxRecDepth 100000 in
theorem sok : SOk Tryd.prog 119 Sp.h := by
 refine sok_of_den (C := C) (ctx_ok (by kernel_rfl) (by kernel_rfl) (by kernel_rfl) (by kernel_rfl) ⟨.inl ⟨field_fault.con, field_fault.named⟩, ⟨.inl ⟨field_mul.con, field_mul.named⟩, trivial⟩⟩) (by kernel_rfl) Tryd.func119 (c := cB Tryd.f119) (by kernel_rfl) (by kernel_rfl) Sp fuel (by kernel_rfl) (by kernel_rfl) ?_
 intro x r h
 rw [<- h]
 have h1 : Sp.start x Tryd.f119.ntmps = (St0 x.1 x.2.1 x.2.2.1) := by kernel_rfl
 rw [h1]
 refine (top_eq fuel (finS C Tryd.f119.results.toList Sp.read) x.1 x.2.1 x.2.2.1).trans ?_
 kernel_rfl
theorem named : Named Tryd.prog 119 := named_of Tryd.func119 (by kernel_rfl) (by kernel_rfl)
end Go.Bx.field_by_s0
namespace Go.Bx.field_Mul
def Js : List Nat := []
def C : Ctx := ⟨[(30, T1), (56, T32)], [], [], fnL [], shL [(119, [.one field_by_s0.Sp])], [(11, 15)], invL [], [(2, [6, 7])], [], [], 0, 0⟩
def St0 (x0 x1 x2 : D0) : St := stL 14 [(0, .data T32 x0), (1, .data T32 x1), (2, .data T32 x2)] []
def St1 (x7 : Int) (c6 : D0) : St := stL 14 [(6, .ref 6 0 []), (7, .data T1 x7)] [(6, .cell T32 (.data T32 c6) false)]
def top {α : Type} (Rt : Int -> D0 -> Option α) (x0 x1 x2 : D0) : Option α :=
 (field_by_s0.run x0 x1 x2).bind fun y1 =>
 Rt y1.2.1 y1.1
theorem top_eq {α : Type} (k : Nat) (Q : Ex -> St -> Option α) (x0 x1 x2 : D0) :
  (den C k) (cB Tryd.f96) Q (St0 x0 x1 x2) = top (fun x7 c6 => Q .ret (St1 x7 c6)) x0 x1 x2 := by
 have h : ∀ (D L : DT α), denJ D L Js C (cB Tryd.f96) Q (St0 x0 x1 x2) = top (fun x7 c6 => Q .ret (St1 x7 c6)) x0 x1 x2 := by
  intro D L; kernel_rfl
 have h2 := via (k := k) h
 exact h2
def run (x0 x1 x2 : D0) : Option D3 := top (α := List Int × Int × Unit) (fun x7 c6 => some (c6, x7, ())) x0 x1 x2
def F : Fn := ⟨T40, T36, true, fun x => run x.1 x.2.1 x.2.2.1⟩
theorem con : Con Tryd.prog 96 F :=
 con_of (C := C) (ctx_ok_sh (by kernel_rfl) (by kernel_rfl) (by kernel_rfl) (by kernel_rfl) trivial ⟨⟨⟨field_by_s0.sok, trivial⟩, field_by_s0.named⟩, trivial⟩) (by kernel_rfl) Tryd.func96 (c := cB Tryd.f96) (by kernel_rfl) (by kernel_rfl) F (fun x => by simp [F, spread, Tryd.ntmps96]) (fun x => (St0 x.1 x.2.1 x.2.2.1)) (fun x => by kernel_rfl) fun x => (top_eq fuel _ x.1 x.2.1 x.2.2.1).trans (by kernel_rfl)
theorem named : Named Tryd.prog 96 := named_of Tryd.func96 (by kernel_rfl) (by kernel_rfl)
end Go.Bx.field_Mul
namespace Go.Bx.curve_ring__take_s1
def Js : List Nat := [4]
def C : Ctx := ⟨[(4, .bool), (56, T32), (137, .opq), (139, T48)], [], [], fnL [], noSh, [], invL [], [(2, [6]), (9, [4, 6])], [], [], 1, 0⟩
def St0 (x0p0 x1 : D0) (x2 : Int) (c0 : Bool) : St := stL 13 [(0, .agg T48 [.data T32 x0p0, .ref 0 0 []]), (1, .data T32 x1), (2, .data T1 x2)] [(0, .cell .bool (.data .bool c0) false)]
def St1 (c0 : Bool) (c5 c7 : D0) : St := stL 13 [(4, .ref 5 0 []), (6, .ref 7 0 [])] [(0, .cell .bool (.data .bool c0) false), (5, .cell T32 (.data T32 c5) false), (7, .cell T32 (.data T32 c7) false)]
noncomputable def cd0 : Code := cR (cR (cB Tryd.f108))
def St2 (c0 : Bool) (c7 : D0) : St := stL 13 [(6, .ref 7 0 [])] [(0, .cell .bool (.data .bool c0) false), (7, .cell T32 (.data T32 c7) false)]
def j0 {α : Type} (Rt : Bool -> D0 -> Option α) (c0 : Bool) (c5 c7 : D0) : Option α :=
 Rt c0 c5
theorem j0_eq {α : Type} (k : Nat) (Q : Ex -> St -> Option α) (c0 : Bool) (c5 c7 : D0) :
  (den C k) cd0 (endQ C Q) (St1 c0 c5 c7) = j0 (fun c0 c7 => Q .ret (St2 c0 c7)) c0 c5 c7 := by
 have h : ∀ (D L : DT α), denJ D L Js C cd0 (endQ C Q) (St1 c0 c5 c7) = j0 (fun c0 c7 => Q .ret (St2 c0 c7)) c0 c5 c7 := by
  intro D L; kernel_rfl
 have h2 := via (k := k) h
 exact h2
def top {α : Type} (Rt : Bool -> D0 -> Option α) (x0p0 x1 : D0) (x2 : Int) (c0 : Bool) : Option α :=
 if (x2 != 0) = true then
  j0 Rt true x1 [0, 0, 0, 0]
 else
  j0 Rt c0 x1 [0, 0, 0, 0]
theorem top_eq {α : Type} (k : Nat) (Q : Ex -> St -> Option α) (x0p0 x1 : D0) (x2 : Int) (c0 : Bool) :
  (den C k) (cB Tryd.f108) (endQ C Q) (St0 x0p0 x1 x2 c0) = top (fun c0 c7 => Q .ret (St2 c0 c7)) x0p0 x1 x2 c0 := by
 have h : ∀ (D L : DT α), denJ D L Js C (cB Tryd.f108) (endQ C Q) (St0 x0p0 x1 x2 c0) =
    if (x2 != 0) = true then
     D cd0 (endQ C Q) (St1 true x1 [0, 0, 0, 0])
    else
     D cd0 (endQ C Q) (St1 c0 x1 [0, 0, 0, 0]) := by
  intro D L; kernel_rfl
 have h2 := via (k := k) h
 refine h2.trans ?_
 simp only [j0_eq]
 first | rfl | kernel_rfl
def run (x0p0 x1 : D0) (x2 : Int) (c0 : Bool) : Option D15 := top (α := List Int × Bool × List Int × Unit) (fun c0 c7 => some (c7, c0, c7, ())) x0p0 x1 x2 c0
def Sp : Spec := ⟨[.agg T48 [hD T32, .ref 0 0 []], hD T32, hD T1], [(0, hC .bool (hD .bool) false)], T53, hD T32, [(0, hC .bool (hD .bool) false), (7, hC T32 (hD T32) false)], T54, fun x => run x.1 x.2.1 x.2.2.1 x.2.2.2.1⟩
set_option maxRecDepth 100000 in
theorem sok : SOk Tryd.prog 108 Sp.h := by
 refine sok_of_den (C := C) (ctx_ok (by kernel_rfl) (by kernel_rfl) (by kernel_rfl) (by kernel_rfl) trivial) (by kernel_rfl) Tryd.func108 (c := cB Tryd.f108) (by kernel_rfl) (by kernel_rfl) Sp fuel (by kernel_rfl) (by kernel_rfl) ?_
 intro x r h
 rw [<- h]
 have h1 : Sp.start x Tryd.f108.ntmps = (St0 x.1 x.2.1 x.2.2.1 x.2.2.2.1) := by kernel_rfl
 rw [h1]
 refine (top_eq fuel (finS C Tryd.f108.results.toList Sp.read) x.1 x.2.1 x.2.2.1 x.2.2.2.1).trans ?_
 kernel_rfl
theorem named : Named Tryd.prog 108 := named_of Tryd.func108 (by kernel_rfl) (by kernel_rfl)
end Go.Bx.curve_ring__take_s1
namespace Go.Bx.curve_ring__mul_s1
def Js : List Nat := []
def C : Ctx := ⟨[(56, T32), (139, T48)], [], [], fnL [(96, field_Mul.F)], shL [(108, [.one curve_ring__take_s1.Sp])], [(15, 17)], invL [], [(2, [6])], [], [], 1, 0⟩
def St0 (x0p0 x1 x2 : D0) (c0 : Bool) : St := stL 16 [(0, .agg T48 [.data T32 x0p0, .ref 0 0 []]), (1, .data T32 x1), (2, .data T32 x2)] [(0, .cell .bool (.data .bool c0) false)]
def St1 (c0 : Bool) (c7 : D0) : St := stL 16 [(6, .ref 7 0 [])] [(0, .cell .bool (.data .bool c0) false), (7, .cell T32 (.data T32 c7) false)]
def top {α : Type} (Rt : Bool -> D0 -> Option α) (x0p0 x1 x2 : D0) (c0 : Bool) : Option α :=
 (field_Mul.run x1 x2 x0p0).bind fun y1 =>
 (curve_ring__take_s1.run x0p0 y1.1 y1.2.1 c0).bind fun y2 =>
 Rt y2.2.1 y2.1
theorem top_eq {α : Type} (k : Nat) (Q : Ex -> St -> Option α) (x0p0 x1 x2 : D0) (c0 : Bool) :
  (den C k) (cB Tryd.f84) (endQ C Q) (St0 x0p0 x1 x2 c0) = top (fun c0 c7 => Q .ret (St1 c0 c7)) x0p0 x1 x2 c0 := by
 have h : ∀ (D L : DT α), denJ D L Js C (cB Tryd.f84) (endQ C Q) (St0 x0p0 x1 x2 c0) = top (fun c0 c7 => Q .ret (St1 c0 c7)) x0p0 x1 x2 c0 := by
  intro D L; kernel_rfl
 have h2 := via (k := k) h
 exact h2
def run (x0p0 x1 x2 : D0) (c0 : Bool) : Option D15 := top (α := List Int × Bool × List Int × Unit) (fun c0 c7 => some (c7, c0, c7, ())) x0p0 x1 x2 c0
def Sp : Spec := ⟨[.agg T48 [hD T32, .ref 0 0 []], hD T32, hD T32], [(0, hC .bool (hD .bool) false)], T55, hD T32, [(0, hC .bool (hD .bool) false), (7, hC T32 (hD T32) false)], T54, fun x => run x.1 x.2.1 x.2.2.1 x.2.2.2.1⟩
set_option maxRecDepth 100000 in
theorem sok : SOk Tryd.prog 84 Sp.h := by
 refine sok_of_den (C := C) (ctx_ok_sh (by kernel_rfl) (by kernel_rfl) (by kernel_rfl) (by kernel_rfl) ⟨.inl ⟨field_Mul.con, field_Mul.named⟩, trivial⟩ ⟨⟨⟨curve_ring__take_s1.sok, trivial⟩, curve_ring__take_s1.named⟩, trivial⟩) (by kernel_rfl) Tryd.func84 (c := cB Tryd.f84) (by kernel_rfl) (by kernel_rfl) Sp fuel (by kernel_rfl) (by kernel_rfl) ?_
 intro x r h
 rw [<- h]
 have h1 : Sp.start x Tryd.f84.ntmps = (St0 x.1 x.2.1 x.2.2.1 x.2.2.2.1) := by kernel_rfl
 rw [h1]
 refine (top_eq fuel (finS C Tryd.f84.results.toList Sp.read) x.1 x.2.1 x.2.2.1 x.2.2.2.1).trans ?_
 kernel_rfl
theorem named : Named Tryd.prog 84 := named_of Tryd.func84 (by kernel_rfl) (by kernel_rfl)
end Go.Bx.curve_ring__mul_s1
namespace Go.Bx.field_by_s1
def Js : List Nat := []
def C : Ctx := ⟨[(56, T32), (72, T43)], [], [], fnL [(116, field_fault.F), (120, field_add.F)], noSh, [], invL [], [(2, [8, 9])], [], [], 0, 0⟩
def St0 (x1 x2 x3 : D0) : St := stL 25 [(0, .fn 120 [] []), (1, .data T32 x1), (2, .data T32 x2), (3, .data T32 x3)] []
def St1 (x9 : Int) (c8 : D0) : St := stL 25 [(8, .ref 8 0 []), (9, .data T1 x9)] [(8, .cell T32 (.data T32 c8) false)]
def top {α : Type} (Rt : Int -> D0 -> Option α) (x1 x2 x3 : D0) : Option α :=
 (field_fault.run x3 [x1, x2]).bind fun y1 =>
 if (y1 != 0) = true then
  Rt y1 [0, 0, 0, 0]
 else
  (field_add.run x1 x2 x3).bind fun y2 =>
  Rt 0 y2
theorem top_eq {α : Type} (k : Nat) (Q : Ex -> St -> Option α) (x1 x2 x3 : D0) :
  (den C k) (cB Tryd.f119) (endQ C Q) (St0 x1 x2 x3) = top (fun x9 c8 => Q .ret (St1 x9 c8)) x1 x2 x3 := by
 have h : ∀ (D L : DT α), denJ D L Js C (cB Tryd.f119) (endQ C Q) (St0 x1 x2 x3) = top (fun x9 c8 => Q .ret (St1 x9 c8)) x1 x2 x3 := by
  intro D L; kernel_rfl
 have h2 := via (k := k) h
 exact h2
def run (x1 x2 x3 : D0) : Option D11 := top (α := List Int × Int × List Int × Unit) (fun x9 c8 => some (c8, x9, c8, ())) x1 x2 x3
def Sp : Spec := ⟨[.fn 120 [] [], hD T32, hD T32, hD T32], [], T40, .tup [hD T32, hD T1], [(8, hC T32 (hD T32) false)], T45, fun x => run x.1 x.2.1 x.2.2.1⟩
set_option maxRecDepth 100000 in
theorem sok : SOk Tryd.prog 119 Sp.h := by
 refine sok_of_den (C := C) (ctx_ok (by kernel_rfl) (by kernel_rfl) (by kernel_rfl) (by kernel_rfl) ⟨.inl ⟨field_fault.con, field_fault.named⟩, ⟨.inl ⟨field_add.con, field_add.named⟩, trivial⟩⟩) (by kernel_rfl) Tryd.func119 (c := cB Tryd.f119) (by kernel_rfl) (by kernel_rfl) Sp fuel (by kernel_rfl) (by kernel_rfl) ?_
 intro x r h
 rw [<- h]
 have h1 : Sp.start x Tryd.f119.ntmps = (St0 x.1 x.2.1 x.2.2.1) := by kernel_rfl
 rw [h1]
 refine (top_eq fuel (finS C Tryd.f119.results.toList Sp.read) x.1 x.2.1 x.2.2.1).trans ?_
 kernel_rfl
theorem named : Named Tryd.prog 119 := named_of Tryd.func119 (by kernel_rfl) (by kernel_rfl)
end Go.Bx.field_by_s1
namespace Go.Bx.field_Add
def Js : List Nat := []
def C : Ctx := ⟨[(30, T1), (56, T32)], [], [], fnL [], shL [(119, [.one field_by_s1.Sp])], [(11, 15)], invL [], [(2, [6, 7])], [], [], 0, 0⟩
def St0 (x0 x1 x2 : D0) : St := stL 14 [(0, .data T32 x0), (1, .data T32 x1), (2, .data T32 x2)] []
def St1 (x7 : Int) (c6 : D0) : St := stL 14 [(6, .ref 6 0 []), (7, .data T1 x7)] [(6, .cell T32 (.data T32 c6) false)]
def top {α : Type} (Rt : Int -> D0 -> Option α) (x0 x1 x2 : D0) : Option α :=
 (field_by_s1.run x0 x1 x2).bind fun y1 =>
 Rt y1.2.1 y1.1
theorem top_eq {α : Type} (k : Nat) (Q : Ex -> St -> Option α) (x0 x1 x2 : D0) :
  (den C k) (cB Tryd.f97) Q (St0 x0 x1 x2) = top (fun x7 c6 => Q .ret (St1 x7 c6)) x0 x1 x2 := by
 have h : ∀ (D L : DT α), denJ D L Js C (cB Tryd.f97) Q (St0 x0 x1 x2) = top (fun x7 c6 => Q .ret (St1 x7 c6)) x0 x1 x2 := by
  intro D L; kernel_rfl
 have h2 := via (k := k) h
 exact h2
def run (x0 x1 x2 : D0) : Option D3 := top (α := List Int × Int × Unit) (fun x7 c6 => some (c6, x7, ())) x0 x1 x2
def F : Fn := ⟨T40, T36, true, fun x => run x.1 x.2.1 x.2.2.1⟩
theorem con : Con Tryd.prog 97 F :=
 con_of (C := C) (ctx_ok_sh (by kernel_rfl) (by kernel_rfl) (by kernel_rfl) (by kernel_rfl) trivial ⟨⟨⟨field_by_s1.sok, trivial⟩, field_by_s1.named⟩, trivial⟩) (by kernel_rfl) Tryd.func97 (c := cB Tryd.f97) (by kernel_rfl) (by kernel_rfl) F (fun x => by simp [F, spread, Tryd.ntmps97]) (fun x => (St0 x.1 x.2.1 x.2.2.1)) (fun x => by kernel_rfl) fun x => (top_eq fuel _ x.1 x.2.1 x.2.2.1).trans (by kernel_rfl)
theorem named : Named Tryd.prog 97 := named_of Tryd.func97 (by kernel_rfl) (by kernel_rfl)
end Go.Bx.field_Add
namespace Go.Bx.curve_ring__add_s0
def Js : List Nat := []
def C : Ctx := ⟨[(56, T32), (139, T48)], [], [], fnL [(97, field_Add.F)], shL [(108, [.one curve_ring__take_s1.Sp])], [(15, 17)], invL [], [(2, [6])], [], [], 1, 0⟩
def St0 (x0p0 x1 x2 : D0) (c0 : Bool) : St := stL 16 [(0, .agg T48 [.data T32 x0p0, .ref 0 0 []]), (1, .data T32 x1), (2, .data T32 x2)] [(0, .cell .bool (.data .bool c0) false)]
def St1 (c0 : Bool) (c7 : D0) : St := stL 16 [(6, .ref 7 0 [])] [(0, .cell .bool (.data .bool c0) false), (7, .cell T32 (.data T32 c7) false)]
def top {α : Type} (Rt : Bool -> D0 -> Option α) (x0p0 x1 x2 : D0) (c0 : Bool) : Option α :=
 (field_Add.run x1 x2 x0p0).bind fun y1 =>
 (curve_ring__take_s1.run x0p0 y1.1 y1.2.1 c0).bind fun y2 =>
 Rt y2.2.1 y2.1
theorem top_eq {α : Type} (k : Nat) (Q : Ex -> St -> Option α) (x0p0 x1 x2 : D0) (c0 : Bool) :
  (den C k) (cB Tryd.f86) (endQ C Q) (St0 x0p0 x1 x2 c0) = top (fun c0 c7 => Q .ret (St1 c0 c7)) x0p0 x1 x2 c0 := by
 have h : ∀ (D L : DT α), denJ D L Js C (cB Tryd.f86) (endQ C Q) (St0 x0p0 x1 x2 c0) = top (fun c0 c7 => Q .ret (St1 c0 c7)) x0p0 x1 x2 c0 := by
  intro D L; kernel_rfl
 have h2 := via (k := k) h
 exact h2
def run (x0p0 x1 x2 : D0) (c0 : Bool) : Option D15 := top (α := List Int × Bool × List Int × Unit) (fun c0 c7 => some (c7, c0, c7, ())) x0p0 x1 x2 c0
def Sp : Spec := ⟨[.agg T48 [hD T32, .ref 0 0 []], hD T32, hD T32], [(0, hC .bool (hD .bool) false)], T55, hD T32, [(0, hC .bool (hD .bool) false), (7, hC T32 (hD T32) false)], T54, fun x => run x.1 x.2.1 x.2.2.1 x.2.2.2.1⟩
set_option maxRecDepth 100000 in
theorem sok : SOk Tryd.prog 86 Sp.h := by
 refine sok_of_den (C := C) (ctx_ok_sh (by kernel_rfl) (by kernel_rfl) (by kernel_rfl) (by kernel_rfl) ⟨.inl ⟨field_Add.con, field_Add.named⟩, trivial⟩ ⟨⟨⟨curve_ring__take_s1.sok, trivial⟩, curve_ring__take_s1.named⟩, trivial⟩) (by kernel_rfl) Tryd.func86 (c := cB Tryd.f86) (by kernel_rfl) (by kernel_rfl) Sp fuel (by kernel_rfl) (by kernel_rfl) ?_
 intro x r h
 rw [<- h]
 have h1 : Sp.start x Tryd.f86.ntmps = (St0 x.1 x.2.1 x.2.2.1 x.2.2.2.1) := by kernel_rfl
 rw [h1]
 refine (top_eq fuel (finS C Tryd.f86.results.toList Sp.read) x.1 x.2.1 x.2.2.1 x.2.2.2.1).trans ?_
 kernel_rfl
theorem named : Named Tryd.prog 86 := named_of Tryd.func86 (by kernel_rfl) (by kernel_rfl)
end Go.Bx.curve_ring__add_s0
namespace Go.Bx.field_by_s2
def Js : List Nat := []
def C : Ctx := ⟨[(56, T32), (72, T43)], [], [], fnL [(116, field_fault.F), (117, field_sub.F)], noSh, [], invL [], [(2, [8, 9])], [], [], 0, 0⟩
def St0 (x1 x2 x3 : D0) : St := stL 25 [(0, .fn 117 [] []), (1, .data T32 x1), (2, .data T32 x2), (3, .data T32 x3)] []
def St1 (x9 : Int) (c8 : D0) : St := stL 25 [(8, .ref 8 0 []), (9, .data T1 x9)] [(8, .cell T32 (.data T32 c8) false)]
def top {α : Type} (Rt : Int -> D0 -> Option α) (x1 x2 x3 : D0) : Option α :=
 (field_fault.run x3 [x1, x2]).bind fun y1 =>
 if (y1 != 0) = true then
  Rt y1 [0, 0, 0, 0]
 else
  (field_sub.run x1 x2 x3).bind fun y2 =>
  Rt 0 y2
theorem top_eq {α : Type} (k : Nat) (Q : Ex -> St -> Option α) (x1 x2 x3 : D0) :
  (den C k) (cB Tryd.f119) (endQ C Q) (St0 x1 x2 x3) = top (fun x9 c8 => Q .ret (St1 x9 c8)) x1 x2 x3 := by
 have h : ∀ (D L : DT α), denJ D L Js C (cB Tryd.f119) (endQ C Q) (St0 x1 x2 x3) = top (fun x9 c8 => Q .ret (St1 x9 c8)) x1 x2 x3 := by
  intro D L; kernel_rfl
 have h2 := via (k := k) h
 exact h2
def run (x1 x2 x3 : D0) : Option D11 := top (α := List Int × Int × List Int × Unit) (fun x9 c8 => some (c8, x9, c8, ())) x1 x2 x3
def Sp : Spec := ⟨[.fn 117 [] [], hD T32, hD T32, hD T32], [], T40, .tup [hD T32, hD T1], [(8, hC T32 (hD T32) false)], T45, fun x => run x.1 x.2.1 x.2.2.1⟩
set_option maxRecDepth 100000 in
theorem sok : SOk Tryd.prog 119 Sp.h := by
 refine sok_of_den (C := C) (ctx_ok (by kernel_rfl) (by kernel_rfl) (by kernel_rfl) (by kernel_rfl) ⟨.inl ⟨field_fault.con, field_fault.named⟩, ⟨.inl ⟨field_sub.con, field_sub.named⟩, trivial⟩⟩) (by kernel_rfl) Tryd.func119 (c := cB Tryd.f119) (by kernel_rfl) (by kernel_rfl) Sp fuel (by kernel_rfl) (by kernel_rfl) ?_
 intro x r h
 rw [<- h]
 have h1 : Sp.start x Tryd.f119.ntmps = (St0 x.1 x.2.1 x.2.2.1) := by kernel_rfl
 rw [h1]
 refine (top_eq fuel (finS C Tryd.f119.results.toList Sp.read) x.1 x.2.1 x.2.2.1).trans ?_
 kernel_rfl
theorem named : Named Tryd.prog 119 := named_of Tryd.func119 (by kernel_rfl) (by kernel_rfl)
end Go.Bx.field_by_s2
namespace Go.Bx.field_Sub
def Js : List Nat := []
def C : Ctx := ⟨[(30, T1), (56, T32)], [], [], fnL [], shL [(119, [.one field_by_s2.Sp])], [(11, 15)], invL [], [(2, [6, 7])], [], [], 0, 0⟩
def St0 (x0 x1 x2 : D0) : St := stL 14 [(0, .data T32 x0), (1, .data T32 x1), (2, .data T32 x2)] []
def St1 (x7 : Int) (c6 : D0) : St := stL 14 [(6, .ref 6 0 []), (7, .data T1 x7)] [(6, .cell T32 (.data T32 c6) false)]
def top {α : Type} (Rt : Int -> D0 -> Option α) (x0 x1 x2 : D0) : Option α :=
 (field_by_s2.run x0 x1 x2).bind fun y1 =>
 Rt y1.2.1 y1.1
theorem top_eq {α : Type} (k : Nat) (Q : Ex -> St -> Option α) (x0 x1 x2 : D0) :
  (den C k) (cB Tryd.f125) Q (St0 x0 x1 x2) = top (fun x7 c6 => Q .ret (St1 x7 c6)) x0 x1 x2 := by
 have h : ∀ (D L : DT α), denJ D L Js C (cB Tryd.f125) Q (St0 x0 x1 x2) = top (fun x7 c6 => Q .ret (St1 x7 c6)) x0 x1 x2 := by
  intro D L; kernel_rfl
 have h2 := via (k := k) h
 exact h2
def run (x0 x1 x2 : D0) : Option D3 := top (α := List Int × Int × Unit) (fun x7 c6 => some (c6, x7, ())) x0 x1 x2
def F : Fn := ⟨T40, T36, true, fun x => run x.1 x.2.1 x.2.2.1⟩
theorem con : Con Tryd.prog 125 F :=
 con_of (C := C) (ctx_ok_sh (by kernel_rfl) (by kernel_rfl) (by kernel_rfl) (by kernel_rfl) trivial ⟨⟨⟨field_by_s2.sok, trivial⟩, field_by_s2.named⟩, trivial⟩) (by kernel_rfl) Tryd.func125 (c := cB Tryd.f125) (by kernel_rfl) (by kernel_rfl) F (fun x => by simp [F, spread, Tryd.ntmps125]) (fun x => (St0 x.1 x.2.1 x.2.2.1)) (fun x => by kernel_rfl) fun x => (top_eq fuel _ x.1 x.2.1 x.2.2.1).trans (by kernel_rfl)
theorem named : Named Tryd.prog 125 := named_of Tryd.func125 (by kernel_rfl) (by kernel_rfl)
end Go.Bx.field_Sub
namespace Go.Bx.curve_ring__sub_s0
def Js : List Nat := []
def C : Ctx := ⟨[(56, T32), (139, T48)], [], [], fnL [(125, field_Sub.F)], shL [(108, [.one curve_ring__take_s1.Sp])], [(15, 17)], invL [], [(2, [6])], [], [], 1, 0⟩
def St0 (x0p0 x1 x2 : D0) (c0 : Bool) : St := stL 16 [(0, .agg T48 [.data T32 x0p0, .ref 0 0 []]), (1, .data T32 x1), (2, .data T32 x2)] [(0, .cell .bool (.data .bool c0) false)]
def St1 (c0 : Bool) (c7 : D0) : St := stL 16 [(6, .ref 7 0 [])] [(0, .cell .bool (.data .bool c0) false), (7, .cell T32 (.data T32 c7) false)]
def top {α : Type} (Rt : Bool -> D0 -> Option α) (x0p0 x1 x2 : D0) (c0 : Bool) : Option α :=
 (field_Sub.run x1 x2 x0p0).bind fun y1 =>
 (curve_ring__take_s1.run x0p0 y1.1 y1.2.1 c0).bind fun y2 =>
 Rt y2.2.1 y2.1
theorem top_eq {α : Type} (k : Nat) (Q : Ex -> St -> Option α) (x0p0 x1 x2 : D0) (c0 : Bool) :
  (den C k) (cB Tryd.f110) (endQ C Q) (St0 x0p0 x1 x2 c0) = top (fun c0 c7 => Q .ret (St1 c0 c7)) x0p0 x1 x2 c0 := by
 have h : ∀ (D L : DT α), denJ D L Js C (cB Tryd.f110) (endQ C Q) (St0 x0p0 x1 x2 c0) = top (fun c0 c7 => Q .ret (St1 c0 c7)) x0p0 x1 x2 c0 := by
  intro D L; kernel_rfl
 have h2 := via (k := k) h
 exact h2
def run (x0p0 x1 x2 : D0) (c0 : Bool) : Option D15 := top (α := List Int × Bool × List Int × Unit) (fun c0 c7 => some (c7, c0, c7, ())) x0p0 x1 x2 c0
def Sp : Spec := ⟨[.agg T48 [hD T32, .ref 0 0 []], hD T32, hD T32], [(0, hC .bool (hD .bool) false)], T55, hD T32, [(0, hC .bool (hD .bool) false), (7, hC T32 (hD T32) false)], T54, fun x => run x.1 x.2.1 x.2.2.1 x.2.2.2.1⟩
set_option maxRecDepth 100000 in
theorem sok : SOk Tryd.prog 110 Sp.h := by
 refine sok_of_den (C := C) (ctx_ok_sh (by kernel_rfl) (by kernel_rfl) (by kernel_rfl) (by kernel_rfl) ⟨.inl ⟨field_Sub.con, field_Sub.named⟩, trivial⟩ ⟨⟨⟨curve_ring__take_s1.sok, trivial⟩, curve_ring__take_s1.named⟩, trivial⟩) (by kernel_rfl) Tryd.func110 (c := cB Tryd.f110) (by kernel_rfl) (by kernel_rfl) Sp fuel (by kernel_rfl) (by kernel_rfl) ?_
 intro x r h
 rw [<- h]
 have h1 : Sp.start x Tryd.f110.ntmps = (St0 x.1 x.2.1 x.2.2.1 x.2.2.2.1) := by kernel_rfl
 rw [h1]
 refine (top_eq fuel (finS C Tryd.f110.results.toList Sp.read) x.1 x.2.1 x.2.2.1 x.2.2.2.1).trans ?_
 kernel_rfl
theorem named : Named Tryd.prog 110 := named_of Tryd.func110 (by kernel_rfl) (by kernel_rfl)
end Go.Bx.curve_ring__sub_s0
namespace Go.Bx.curve_ring__inv_s0
def Js : List Nat := []
def C : Ctx := ⟨[(56, T32), (139, T48)], [], [], fnL [(95, field_Inv.F)], shL [(108, [.one curve_ring__take_s1.Sp])], [(12, 14)], invL [], [(2, [4])], [], [], 1, 0⟩
def St0 (x0p0 x1 : D0) (c0 : Bool) : St := stL 13 [(0, .agg T48 [.data T32 x0p0, .ref 0 0 []]), (1, .data T32 x1)] [(0, .cell .bool (.data .bool c0) false)]
def St1 (c0 : Bool) (c5 : D0) : St := stL 13 [(4, .ref 5 0 [])] [(0, .cell .bool (.data .bool c0) false), (5, .cell T32 (.data T32 c5) false)]
def top {α : Type} (Rt : Bool -> D0 -> Option α) (x0p0 x1 : D0) (c0 : Bool) : Option α :=
 (field_Inv.run x1 x0p0).bind fun y1 =>
 (curve_ring__take_s1.run x0p0 y1.1 y1.2.1 c0).bind fun y2 =>
 Rt y2.2.1 y2.1
theorem top_eq {α : Type} (k : Nat) (Q : Ex -> St -> Option α) (x0p0 x1 : D0) (c0 : Bool) :
  (den C k) (cB Tryd.f111) (endQ C Q) (St0 x0p0 x1 c0) = top (fun c0 c5 => Q .ret (St1 c0 c5)) x0p0 x1 c0 := by
 have h : ∀ (D L : DT α), denJ D L Js C (cB Tryd.f111) (endQ C Q) (St0 x0p0 x1 c0) = top (fun c0 c5 => Q .ret (St1 c0 c5)) x0p0 x1 c0 := by
  intro D L; kernel_rfl
 have h2 := via (k := k) h
 exact h2
def run (x0p0 x1 : D0) (c0 : Bool) : Option D15 := top (α := List Int × Bool × List Int × Unit) (fun c0 c5 => some (c5, c0, c5, ())) x0p0 x1 c0
def Sp : Spec := ⟨[.agg T48 [hD T32, .ref 0 0 []], hD T32], [(0, hC .bool (hD .bool) false)], T52, hD T32, [(0, hC .bool (hD .bool) false), (5, hC T32 (hD T32) false)], T54, fun x => run x.1 x.2.1 x.2.2.1⟩
set_option maxRecDepth 100000 in
theorem sok : SOk Tryd.prog 111 Sp.h := by
 refine sok_of_den (C := C) (ctx_ok_sh (by kernel_rfl) (by kernel_rfl) (by kernel_rfl) (by kernel_rfl) ⟨.inl ⟨field_Inv.con, field_Inv.named⟩, trivial⟩ ⟨⟨⟨curve_ring__take_s1.sok, trivial⟩, curve_ring__take_s1.named⟩, trivial⟩) (by kernel_rfl) Tryd.func111 (c := cB Tryd.f111) (by kernel_rfl) (by kernel_rfl) Sp fuel (by kernel_rfl) (by kernel_rfl) ?_
 intro x r h
 rw [<- h]
 have h1 : Sp.start x Tryd.f111.ntmps = (St0 x.1 x.2.1 x.2.2.1) := by kernel_rfl
 rw [h1]
 refine (top_eq fuel (finS C Tryd.f111.results.toList Sp.read) x.1 x.2.1 x.2.2.1).trans ?_
 kernel_rfl
theorem named : Named Tryd.prog 111 := named_of Tryd.func111 (by kernel_rfl) (by kernel_rfl)
end Go.Bx.curve_ring__inv_s0
namespace Go.Bx.curve_ring__small_s0
def Js : List Nat := []
def C : Ctx := ⟨[(56, T32), (139, T48)], [], [], fnL [(94, wide_DivMod.F)], noSh, [], invL [], [(2, [4])], [], [], 1, 0⟩
def St0 (x0p0 : D0) (x1 : Int) (c0 : Bool) : St := stL 18 [(0, .agg T48 [.data T32 x0p0, .ref 0 0 []]), (1, .data T2 x1)] [(0, .cell .bool (.data .bool c0) false)]
def St1 (c0 : Bool) (c5 : D0) : St := stL 18 [(4, .ref 5 0 [])] [(0, .cell .bool (.data .bool c0) false), (5, .cell T32 (.data T32 c5) false)]
def top {α : Type} (Rt : Bool -> D0 -> Option α) (x0p0 : D0) (x1 : Int) (c0 : Bool) : Option α :=
 (wide_DivMod.run [x1, 0, 0, 0] x0p0).bind fun y1 =>
 Rt c0 y1.2.1
theorem top_eq {α : Type} (k : Nat) (Q : Ex -> St -> Option α) (x0p0 : D0) (x1 : Int) (c0 : Bool) :
  (den C k) (cB Tryd.f85) (endQ C Q) (St0 x0p0 x1 c0) = top (fun c0 c5 => Q .ret (St1 c0 c5)) x0p0 x1 c0 := by
 have h : ∀ (D L : DT α), denJ D L Js C (cB Tryd.f85) (endQ C Q) (St0 x0p0 x1 c0) = top (fun c0 c5 => Q .ret (St1 c0 c5)) x0p0 x1 c0 := by
  intro D L; kernel_rfl
 have h2 := via (k := k) h
 exact h2
def run (x0p0 : D0) (x1 : Int) (c0 : Bool) : Option D15 := top (α := List Int × Bool × List Int × Unit) (fun c0 c5 => some (c5, c0, c5, ())) x0p0 x1 c0
def Sp : Spec := ⟨[.agg T48 [hD T32, .ref 0 0 []], hD T2], [(0, hC .bool (hD .bool) false)], T58, hD T32, [(0, hC .bool (hD .bool) false), (5, hC T32 (hD T32) false)], T54, fun x => run x.1 x.2.1 x.2.2.1⟩
set_option maxRecDepth 100000 in
theorem sok : SOk Tryd.prog 85 Sp.h := by
 refine sok_of_den (C := C) (ctx_ok (by kernel_rfl) (by kernel_rfl) (by kernel_rfl) (by kernel_rfl) ⟨.inl ⟨wide_DivMod.con, wide_DivMod.named⟩, trivial⟩) (by kernel_rfl) Tryd.func85 (c := cB Tryd.f85) (by kernel_rfl) (by kernel_rfl) Sp fuel (by kernel_rfl) (by kernel_rfl) ?_
 intro x r h
 rw [<- h]
 have h1 : Sp.start x Tryd.f85.ntmps = (St0 x.1 x.2.1 x.2.2.1) := by kernel_rfl
 rw [h1]
 refine (top_eq fuel (finS C Tryd.f85.results.toList Sp.read) x.1 x.2.1 x.2.2.1).trans ?_
 kernel_rfl
theorem named : Named Tryd.prog 85 := named_of Tryd.func85 (by kernel_rfl) (by kernel_rfl)
end Go.Bx.curve_ring__small_s0
namespace Go.Bx.basculeref_by
def Js : List Nat := []
def C : Ctx := ⟨[(22, T2), (56, T32), (119, T68)], [], [], fnL [(65, basculeref_rest.F)], noSh, [], invL [], [(2, [4])], [], [], 0, 0⟩
def St0 (x0 : Int) (x1 : D0) : St := stL 12 [(0, .data T2 x0), (1, .data T32 x1)] []
def St1 (c4 : D0) : St := stL 12 [(4, .ref 4 0 [])] [(4, .cell T32 (.data T32 c4) false)]
def top {α : Type} (Rt : D0 -> Option α) (x0 : Int) (x1 : D0) : Option α :=
 (basculeref_rest.run [(Int.tmod x0 4294967296), (IntKind.u64.wrap (Int.tdiv x0 4294967296))] x1).bind fun y1 =>
 Rt y1
theorem top_eq {α : Type} (k : Nat) (Q : Ex -> St -> Option α) (x0 : Int) (x1 : D0) :
  (den C k) (cB Tryd.f90) Q (St0 x0 x1) = top (fun c4 => Q .ret (St1 c4)) x0 x1 := by
 have h : ∀ (D L : DT α), denJ D L Js C (cB Tryd.f90) Q (St0 x0 x1) = top (fun c4 => Q .ret (St1 c4)) x0 x1 := by
  intro D L; kernel_rfl
 have h2 := via (k := k) h
 exact h2
def run (x0 : Int) (x1 : D0) : Option D0 := top (α := List Int) (fun c4 => some c4) x0 x1
def F : Fn := ⟨T73, T32, false, fun x => run x.1 x.2.1⟩
theorem con : Con Tryd.prog 90 F :=
 con_of (C := C) (ctx_ok (by kernel_rfl) (by kernel_rfl) (by kernel_rfl) (by kernel_rfl) ⟨.inl ⟨basculeref_rest.con, basculeref_rest.named⟩, trivial⟩) (by kernel_rfl) Tryd.func90 (c := cB Tryd.f90) (by kernel_rfl) (by kernel_rfl) F (fun x => by simp [F, spread, Tryd.ntmps90]) (fun x => (St0 x.1 x.2.1)) (fun x => by kernel_rfl) fun x => (top_eq fuel _ x.1 x.2.1).trans (by kernel_rfl)
theorem named : Named Tryd.prog 90 := named_of Tryd.func90 (by kernel_rfl) (by kernel_rfl)
end Go.Bx.basculeref_by
namespace Go.Bx.basculeref_isZero
def Js : List Nat := []
def C : Ctx := ⟨[(4, .bool), (56, T32)], [], [], fnL [], noSh, [], invL [], [(2, [2])], [], [], 0, 0⟩
def St0 (x0 : D0) : St := stL 6 [(0, .data T32 x0)] []
def St1 (x2 : Bool) : St := stL 6 [(2, .data .bool x2)] []
def top {α : Type} (Rt : Bool -> Option α) (x0 : D0) : Option α :=
 Rt (beqD T32 x0 [0, 0, 0, 0])
theorem top_eq {α : Type} (k : Nat) (Q : Ex -> St -> Option α) (x0 : D0) :
  (den C k) (cB Tryd.f69) Q (St0 x0) = top (fun x2 => Q .ret (St1 x2)) x0 := by
 have h : ∀ (D L : DT α), denJ D L Js C (cB Tryd.f69) Q (St0 x0) = top (fun x2 => Q .ret (St1 x2)) x0 := by
  intro D L; kernel_rfl
 have h2 := via (k := k) h
 exact h2
def run (x0 : D0) : Option (Bool) := top (α := Bool) (fun x2 => some x2) x0
def F : Fn := ⟨T35, .bool, false, fun x => run x.1⟩
theorem con : Con Tryd.prog 69 F :=
 con_of (C := C) (ctx_ok (by kernel_rfl) (by kernel_rfl) (by kernel_rfl) (by kernel_rfl) trivial) (by kernel_rfl) Tryd.func69 (c := cB Tryd.f69) (by kernel_rfl) (by kernel_rfl) F (fun x => by simp [F, spread, Tryd.ntmps69]) (fun x => (St0 x.1)) (fun x => by kernel_rfl) fun x => (top_eq fuel _ x.1).trans (by kernel_rfl)
theorem named : Named Tryd.prog 69 := named_of Tryd.func69 (by kernel_rfl) (by kernel_rfl)
end Go.Bx.basculeref_isZero
namespace Go.Bx.basculeref_power
def Js : List Nat := [11, 12, 13]
def C : Ctx := ⟨[(56, T32), (119, T68)], [], [], fnL [(65, basculeref_rest.F), (72, basculeref_product.F)], noSh, [], invL [], [(2, [6]), (1, [6, 7]), (4, [3, 5, 6, 7, 14, 15]), (7, [3, 5, 6, 7, 14, 15]), (10, [3, 5, 6, 7, 9, 10, 14, 15]), (9, [3, 5, 6, 7, 14, 15]), (18, [3, 5, 6, 7, 9, 10, 14, 15]), (30, [3, 5, 6, 7, 9, 10, 14, 15]), (33, [3, 5, 6, 7, 14, 15]), (36, [6, 7])], [], [], 0, 0⟩
def St0 (x0 x1 x2 : D0) : St := stL 37 [(0, .data T32 x0), (1, .data T32 x1), (2, .data T32 x2)] []
def St1 (x14 : D0) (x15 : Int) (c3 c5 : D0) (c6 c7 : D0) : St := stL 37 [(3, .ref 3 0 []), (5, .ref 5 0 []), (6, .ref 6 0 []), (7, .ref 7 0 []), (14, .data T32 x14), (15, .data T1 x15)] [(3, .cell T32 (.data T32 c3) false), (5, .cell T32 (.data T32 c5) false), (6, .cell T32 (.data T32 c6) false), (7, .cell T32 (.data T32 c7) false)]
noncomputable def cd0 : Code := cL (cL (cR (cL (cR (cR (cB Tryd.f91))))))
def St2 (x9 x10 : Int) (x14 : D0) (x15 : Int) (c3 c5 : D0) (c6 c7 : D0) : St := stL 37 [(3, .ref 3 0 []), (5, .ref 5 0 []), (6, .ref 6 0 []), (7, .ref 7 0 []), (9, .data T2 x9), (10, .data T1 x10), (14, .data T32 x14), (15, .data T1 x15)] [(3, .cell T32 (.data T32 c3) false), (5, .cell T32 (.data T32 c5) false), (6, .cell T32 (.data T32 c6) false), (7, .cell T32 (.data T32 c7) false)]
noncomputable def cd1 : Code := cL (cL (cR (cR (cL (cL (cR (cR (cL (cL (cR (cL (cR (cR (cB Tryd.f91))))))))))))))
def St3 (x9 x10 : Int) (x14 : D0) (x15 : Int) (c3 c5 : D0) (c6 c7 : D0) : St := stL 37 [(3, .ref 3 0 []), (5, .ref 5 0 []), (6, .ref 6 0 []), (7, .ref 7 0 []), (9, .data T2 x9), (10, .data T1 x10), (14, .data T32 x14), (15, .data T1 x15)] [(3, .cell T32 (.data T32 c3) false), (5, .cell T32 (.data T32 c5) false), (6, .cell T32 (.data T32 c6) false), (7, .cell T32 (.data T32 c7) false)]
noncomputable def cd2 : Code := cR (cR (cL (cL (cR (cR (cL (cL (cR (cR (cL (cL (cR (cL (cR (cR (cB Tryd.f91))))))))))))))))
noncomputable def cd3 : Code := cR (cL (cL (cR (cL (cL (cR (cR (cL (cL (cR (cR (cL (cL (cR (cL (cR (cR (cB Tryd.f91))))))))))))))))))
def j0 {α : Type} (Nx : Int -> Int -> D0 -> Int -> D0 -> D0 -> D0 -> D0 -> Option α) (x9 x10 : Int) (x14 : D0) (x15 : Int) (c3 c5 : D0) (c6 c7 : D0) : Option α :=
 (basculeref_product.run c3 c3 c5).bind fun y3 =>
 Nx x9 (IntKind.i64.wrap (x10 + 1)) x14 x15 y3 c5 c6 c7
theorem j0_eq {α : Type} (k : Nat) (next : St -> Option α) (Q : Ex -> St -> Option α) (x9 x10 : Int) (x14 : D0) (x15 : Int) (c3 c5 : D0) (c6 c7 : D0) :
  (den C k) cd3 (blkQ C 3 (sq (den C k) (lp C k) Js C cd2 (lq C 18 next Q))) (St3 x9 x10 x14 x15 c3 c5 c6 c7) = j0 (fun x9 x10 x14 x15 c3 c5 c6 c7 => next (St2 x9 x10 x14 x15 c3 c5 c6 c7)) x9 x10 x14 x15 c3 c5 c6 c7 := by
 have h : ∀ (D L : DT α), denJ D L Js C cd3 (blkQ C 3 (sq D L Js C cd2 (lq C 18 next Q))) (St3 x9 x10 x14 x15 c3 c5 c6 c7) = j0 (fun x9 x10 x14 x15 c3 c5 c6 c7 => next (St2 x9 x10 x14 x15 c3 c5 c6 c7)) x9 x10 x14 x15 c3 c5 c6 c7 := by
  intro D L; kernel_rfl
 have h2 := via (k := k) h
 exact h2
def St4 (x14 : D0) (x15 : Int) (c3 c5 : D0) (c6 c7 : D0) : St := stL 37 [(3, .ref 3 0 []), (5, .ref 5 0 []), (6, .ref 6 0 []), (7, .ref 7 0 []), (14, .data T32 x14), (15, .data T1 x15)] [(3, .cell T32 (.data T32 c3) false), (5, .cell T32 (.data T32 c5) false), (6, .cell T32 (.data T32 c6) false), (7, .cell T32 (.data T32 c7) false)]
def l1s {α : Type} (Nx : Int -> Int -> D0 -> Int -> D0 -> D0 -> D0 -> D0 -> Option α) (Xt2 : D0 -> Int -> D0 -> D0 -> D0 -> D0 -> Option α) (x9 x10 : Int) (x14 : D0) (x15 : Int) (c3 c5 : D0) (c6 c7 : D0) : Option α :=
 if (decide (x10 < 64)) = true then
  if 0 <= x10 then
   if ((band .u64 (shrI .u64 x9 x10) 1) == 1) = true then
    (basculeref_product.run c7 c3 c5).bind fun y2 =>
    j0 Nx x9 x10 x14 x15 c3 c5 c6 y2
   else
    j0 Nx x9 x10 x14 x15 c3 c5 c6 c7
  else none
 else
  Xt2 x14 x15 c3 c5 c6 c7
theorem l1s_eq {α : Type} (k : Nat) (next : St -> Option α) (Q : Ex -> St -> Option α) (x9 x10 : Int) (x14 : D0) (x15 : Int) (c3 c5 : D0) (c6 c7 : D0) :
  rnd C k cd1 18 Q next (St2 x9 x10 x14 x15 c3 c5 c6 c7) = l1s (fun x9 x10 x14 x15 c3 c5 c6 c7 => next (St2 x9 x10 x14 x15 c3 c5 c6 c7)) (fun x14 x15 c3 c5 c6 c7 => Q (.exit 2) (St4 x14 x15 c3 c5 c6 c7)) x9 x10 x14 x15 c3 c5 c6 c7 := by
 have h : ∀ (D L : DT α), denJ D L Js C cd1 (lq C 18 next Q) (St2 x9 x10 x14 x15 c3 c5 c6 c7) =
    if (decide (x10 < 64)) = true then
     if 0 <= x10 then
      if ((band .u64 (shrI .u64 x9 x10) 1) == 1) = true then
       (basculeref_product.run c7 c3 c5).bind fun y2 =>
       D cd3 (blkQ C 3 (sq D L Js C cd2 (lq C 18 next Q))) (St3 x9 x10 x14 x15 c3 c5 c6 y2)
      else
       D cd3 (blkQ C 3 (sq D L Js C cd2 (lq C 18 next Q))) (St3 x9 x10 x14 x15 c3 c5 c6 c7)
     else none
    else
     Q (.exit 2) (St4 x14 x15 c3 c5 c6 c7) := by
  intro D L; kernel_rfl
 have h2 := via (k := k) h
 refine h2.trans ?_
 simp only [j0_eq]
 first | rfl | kernel_rfl
def l1 {α : Type} (k : Nat) (Xt2 : D0 -> Int -> D0 -> D0 -> D0 -> D0 -> Option α) : Nat -> Int -> Int -> D0 -> Int -> D0 -> D0 -> D0 -> D0 -> Option α
 | 0, _, _, _, _, _, _, _, _ => none
 | n + 1, x9, x10, x14, x15, c3, c5, c6, c7 => l1s (l1 k Xt2 n) Xt2 x9 x10 x14 x15 c3 c5 c6 c7
theorem l1_eq {α : Type} (k : Nat) (Q : Ex -> St -> Option α) : ∀ (n : Nat) (x9 x10 : Int) (x14 : D0) (x15 : Int) (c3 c5 : D0) (c6 c7 : D0), iter (rnd C k cd1 18 Q) n (St2 x9 x10 x14 x15 c3 c5 c6 c7) = l1 k (fun x14 x15 c3 c5 c6 c7 => Q (.exit 2) (St4 x14 x15 c3 c5 c6 c7)) n x9 x10 x14 x15 c3 c5 c6 c7
 | 0, _, _, _, _, _, _, _, _ => rfl
 | n + 1, x9, x10, x14, x15, c3, c5, c6, c7 => (iter_succ _ _ _).trans ((l1s_eq k _ Q x9 x10 x14 x15 c3 c5 c6 c7).trans (congrArg (fun N => l1s N (fun x14 x15 c3 c5 c6 c7 => Q (.exit 2) (St4 x14 x15 c3 c5 c6 c7)) x9 x10 x14 x15 c3 c5 c6 c7) (by funext; exact l1_eq k Q n _ _ _ _ _ _ _ _)))
noncomputable def cd4 : Code := cR (cR (cR (cL (cL (cR (cL (cR (cR (cB Tryd.f91)))))))))
def St5 (x14 : D0) (x15 : Int) (c3 c5 : D0) (c6 c7 : D0) : St := stL 37 [(3, .ref 3 0 []), (5, .ref 5 0 []), (6, .ref 6 0 []), (7, .ref 7 0 []), (14, .data T32 x14), (15, .data T1 x15)] [(3, .cell T32 (.data T32 c3) false), (5, .cell T32 (.data T32 c5) false), (6, .cell T32 (.data T32 c6) false), (7, .cell T32 (.data T32 c7) false)]
def j1 {α : Type} (Nx : D0 -> Int -> D0 -> D0 -> D0 -> D0 -> Option α) (x14 : D0) (x15 : Int) (c3 c5 : D0) (c6 c7 : D0) : Option α :=
 Nx x14 (IntKind.i64.wrap (x15 + 1)) c3 c5 c6 c7
theorem j1_eq {α : Type} (k : Nat) (next : St -> Option α) (Q : Ex -> St -> Option α) (x14 : D0) (x15 : Int) (c3 c5 : D0) (c6 c7 : D0) :
  (den C k) cd4 (lq C 9 next Q) (St5 x14 x15 c3 c5 c6 c7) = j1 (fun x14 x15 c3 c5 c6 c7 => next (St1 x14 x15 c3 c5 c6 c7)) x14 x15 c3 c5 c6 c7 := by
 have h : ∀ (D L : DT α), denJ D L Js C cd4 (lq C 9 next Q) (St5 x14 x15 c3 c5 c6 c7) = j1 (fun x14 x15 c3 c5 c6 c7 => next (St1 x14 x15 c3 c5 c6 c7)) x14 x15 c3 c5 c6 c7 := by
  intro D L; kernel_rfl
 have h2 := via (k := k) h
 exact h2
theorem a0 {α : Type} (k : Nat) (next : St -> Option α) (Q : Ex -> St -> Option α) (x9 x10 : Int) (x14 : D0) (x15 : Int) (c3 c5 : D0) (c6 c7 : D0) :
  (lp C k) cd1 (blkQ C 2 (blkQ C 1 (sq (den C k) (lp C k) Js C cd4 (lq C 9 next Q)))) (St2 x9 x10 x14 x15 c3 c5 c6 c7) = l1 k (fun x14 x15 c3 c5 c6 c7 => j1 (fun x14 x15 c3 c5 c6 c7 => next (St1 x14 x15 c3 c5 c6 c7)) x14 x15 c3 c5 c6 c7) k x9 x10 x14 x15 c3 c5 c6 c7 :=
 (lp_iter 18 (by kernel_rfl)).trans ((l1_eq k _ k x9 x10 x14 x15 c3 c5 c6 c7).trans (congrArg (fun X => l1 k X k x9 x10 x14 x15 c3 c5 c6 c7) (funext fun x14 => funext fun x15 => funext fun c3 => funext fun c5 => funext fun c6 => funext fun c7 => (Eq.trans (b := (den C k) cd4 (lq C 9 next Q) (St5 x14 x15 c3 c5 c6 c7)) (by kernel_rfl) (by simp only [j1_eq])))))
def St6 (c6 c7 : D0) : St := stL 37 [(6, .ref 6 0 []), (7, .ref 7 0 [])] [(6, .cell T32 (.data T32 c6) false), (7, .cell T32 (.data T32 c7) false)]
def l0s {α : Type} (k : Nat) (Nx : D0 -> Int -> D0 -> D0 -> D0 -> D0 -> Option α) (Xt0 : D0 -> D0 -> Option α) (x14 : D0) (x15 : Int) (c3 c5 : D0) (c6 c7 : D0) : Option α :=
 if (decide (x15 < 4)) = true then
  if 0 <= x15 /\ x15 < (4 : Int) then
   l1 k (fun x14 x15 c3 c5 c6 c7 => j1 Nx x14 x15 c3 c5 c6 c7) k (List.getD x14 (Int.toNat x15) 0) 0 x14 x15 c3 c5 c6 c7
  else none
 else
  Xt0 c6 c7
theorem l0s_eq {α : Type} (k : Nat) (next : St -> Option α) (Q : Ex -> St -> Option α) (x14 : D0) (x15 : Int) (c3 c5 : D0) (c6 c7 : D0) :
  rnd C k cd0 9 Q next (St1 x14 x15 c3 c5 c6 c7) = l0s k (fun x14 x15 c3 c5 c6 c7 => next (St1 x14 x15 c3 c5 c6 c7)) (fun c6 c7 => Q (.exit 0) (St6 c6 c7)) x14 x15 c3 c5 c6 c7 := by
 have h : ∀ (D L : DT α), denJ D L Js C cd0 (lq C 9 next Q) (St1 x14 x15 c3 c5 c6 c7) =
    if (decide (x15 < 4)) = true then
     if 0 <= x15 /\ x15 < (4 : Int) then
      L cd1 (blkQ C 2 (blkQ C 1 (sq D L Js C cd4 (lq C 9 next Q)))) (St2 (List.getD x14 (Int.toNat x15) 0) 0 x14 x15 c3 c5 c6 c7)
     else none
    else
     Q (.exit 0) (St6 c6 c7) := by
  intro D L; kernel_rfl
 have h2 := via (k := k) h
 refine h2.trans ?_
 simp only [a0]
 first | rfl | kernel_rfl
def l0 {α : Type} (k : Nat) (Xt0 : D0 -> D0 -> Option α) : Nat -> D0 -> Int -> D0 -> D0 -> D0 -> D0 -> Option α
 | 0, _, _, _, _, _, _ => none
 | n + 1, x14, x15, c3, c5, c6, c7 => l0s k (l0 k Xt0 n) Xt0 x14 x15 c3 c5 c6 c7
theorem l0_eq {α : Type} (k : Nat) (Q : Ex -> St -> Option α) : ∀ (n : Nat) (x14 : D0) (x15 : Int) (c3 c5 : D0) (c6 c7 : D0), iter (rnd C k cd0 9 Q) n (St1 x14 x15 c3 c5 c6 c7) = l0 k (fun c6 c7 => Q (.exit 0) (St6 c6 c7)) n x14 x15 c3 c5 c6 c7
 | 0, _, _, _, _, _, _ => rfl
 | n + 1, x14, x15, c3, c5, c6, c7 => (iter_succ _ _ _).trans ((l0s_eq k _ Q x14 x15 c3 c5 c6 c7).trans (congrArg (fun N => l0s k N (fun c6 c7 => Q (.exit 0) (St6 c6 c7)) x14 x15 c3 c5 c6 c7) (by funext; exact l0_eq k Q n _ _ _ _ _ _)))
noncomputable def cd5 : Code := cR (cR (cR (cB Tryd.f91)))
def St7 (c6 c7 : D0) : St := stL 37 [(6, .ref 6 0 []), (7, .ref 7 0 [])] [(6, .cell T32 (.data T32 c6) false), (7, .cell T32 (.data T32 c7) false)]
def St8 (c6 : D0) : St := stL 37 [(6, .ref 6 0 [])] [(6, .cell T32 (.data T32 c6) false)]
def j2 {α : Type} (Rt : D0 -> Option α) (c6 c7 : D0) : Option α :=
 Rt c7
theorem j2_eq {α : Type} (k : Nat) (Q : Ex -> St -> Option α) (c6 c7 : D0) :
  (den C k) cd5 Q (St7 c6 c7) = j2 (fun c6 => Q .ret (St8 c6)) c6 c7 := by
 have h : ∀ (D L : DT α), denJ D L Js C cd5 Q (St7 c6 c7) = j2 (fun c6 => Q .ret (St8 c6)) c6 c7 := by
  intro D L; kernel_rfl
 have h2 := via (k := k) h
 exact h2
theorem a1 {α : Type} (k : Nat) (Q : Ex -> St -> Option α) (x14 : D0) (x15 : Int) (c3 c5 : D0) (c6 c7 : D0) :
  (lp C k) cd0 (blkQ C 0 (sq (den C k) (lp C k) Js C cd5 Q)) (St1 x14 x15 c3 c5 c6 c7) = l0 k (fun c6 c7 => j2 (fun c6 => Q .ret (St8 c6)) c6 c7) k x14 x15 c3 c5 c6 c7 :=
 (lp_iter 9 (by kernel_rfl)).trans ((l0_eq k _ k x14 x15 c3 c5 c6 c7).trans (congrArg (fun X => l0 k X k x14 x15 c3 c5 c6 c7) (funext fun c6 => funext fun c7 => (Eq.trans (b := (den C k) cd5 Q (St7 c6 c7)) (by kernel_rfl) (by simp only [j2_eq])))))
def top {α : Type} (k : Nat) (Rt : D0 -> Option α) (x0 x1 x2 : D0) : Option α :=
 (basculeref_rest.run [1] x2).bind fun y1 =>
 l0 k (fun c6 c7 => j2 Rt c6 c7) k x1 0 x0 x2 [0, 0, 0, 0] y1
theorem top_eq {α : Type} (k : Nat) (Q : Ex -> St -> Option α) (x0 x1 x2 : D0) :
  (den C k) (cB Tryd.f91) Q (St0 x0 x1 x2) = top k (fun c6 => Q .ret (St8 c6)) x0 x1 x2 := by
 have h : ∀ (D L : DT α), denJ D L Js C (cB Tryd.f91) Q (St0 x0 x1 x2) =
    (basculeref_rest.run [1] x2).bind fun y1 =>
    L cd0 (blkQ C 0 (sq D L Js C cd5 Q)) (St1 x1 0 x0 x2 [0, 0, 0, 0] y1) := by
  intro D L; kernel_rfl
 have h2 := via (k := k) h
 refine h2.trans ?_
 simp only [a1]
 first | rfl | kernel_rfl
def run (x0 x1 x2 : D0) : Option D0 := top (α := List Int) fuel (fun c6 => some c6) x0 x1 x2
def F : Fn := ⟨T40, T32, false, fun x => run x.1 x.2.1 x.2.2.1⟩
theorem con : Con Tryd.prog 91 F :=
 con_of (C := C) (ctx_ok (by kernel_rfl) (by kernel_rfl) (by kernel_rfl) (by kernel_rfl) ⟨.inl ⟨basculeref_rest.con, basculeref_rest.named⟩, ⟨.inl ⟨basculeref_product.con, basculeref_product.named⟩, trivial⟩⟩) (by kernel_rfl) Tryd.func91 (c := cB Tryd.f91) (by kernel_rfl) (by kernel_rfl) F (fun x => by simp [F, spread, Tryd.ntmps91]) (fun x => (St0 x.1 x.2.1 x.2.2.1)) (fun x => by kernel_rfl) fun x => (top_eq fuel _ x.1 x.2.1 x.2.2.1).trans (by kernel_rfl)
theorem named : Named Tryd.prog 91 := named_of Tryd.func91 (by kernel_rfl) (by kernel_rfl)
end Go.Bx.basculeref_power
namespace Go.Bx.curve_ringOf_s0
def Js : List Nat := []
def C : Ctx := ⟨[(4, .bool), (56, T32), (60, T50), (139, T48)], [], [], fnL [], noSh, [], invL [], [(2, [2])], [], [], 0, 0⟩
def St0 (x0 : D13) : St := stL 7 [(0, .data T50 x0)] []
def St1 (c2p0 : D0) (c5 : Bool) : St := stL 7 [(2, .ref 2 0 [])] [(2, .cell T48 (.agg T48 [.data T32 c2p0, .ref 5 0 []]) false), (5, .cell .bool (.data .bool c5) false)]
def top {α : Type} (Rt : D0 -> Bool -> Option α) (x0 : D13) : Option α :=
 Rt x0.1 false
theorem top_eq {α : Type} (k : Nat) (Q : Ex -> St -> Option α) (x0 : D13) :
  (den C k) (cB Tryd.f83) (endQ C Q) (St0 x0) = top (fun c2p0 c5 => Q .ret (St1 c2p0 c5)) x0 := by
 have h : ∀ (D L : DT α), denJ D L Js C (cB Tryd.f83) (endQ C Q) (St0 x0) = top (fun c2p0 c5 => Q .ret (St1 c2p0 c5)) x0 := by
  intro D L; kernel_rfl
 have h2 := via (k := k) h
 exact h2
def run (x0 : D13) : Option D14 := top (α := List Int × List Int × Bool × Unit) (fun c2p0 c5 => some (c2p0, c2p0, c5, ())) x0
def Sp : Spec := ⟨[hD T50], [], T51, .agg T48 [hD T32, .ref 5 0 []], [(2, hC T48 (.agg T48 [hD T32, .ref 5 0 []]) false), (5, hC .bool (hD .bool) false)], T52, fun x => run x.1⟩
set_option maxRecDepth 100000 in
theorem sok : SOk Tryd.prog 83 Sp.h := by
 refine sok_of_den (C := C) (ctx_ok (by kernel_rfl) (by kernel_rfl) (by kernel_rfl) (by kernel_rfl) trivial) (by kernel_rfl) Tryd.func83 (c := cB Tryd.f83) (by kernel_rfl) (by kernel_rfl) Sp fuel (by kernel_rfl) (by kernel_rfl) ?_
 intro x r h
 rw [<- h]
 have h1 : Sp.start x Tryd.f83.ntmps = (St0 x.1) := by kernel_rfl
 rw [h1]
 refine (top_eq fuel (finS C Tryd.f83.results.toList Sp.read) x.1).trans ?_
 kernel_rfl
theorem named : Named Tryd.prog 83 := named_of Tryd.func83 (by kernel_rfl) (by kernel_rfl)
end Go.Bx.curve_ringOf_s0
namespace Go.Bx.curve_side_s0
def Js : List Nat := []
def C : Ctx := ⟨[(56, T32), (60, T50), (139, T48)], [], [], fnL [], shL [(84, [.one curve_ring__mul_s1.Sp]), (86, [.one curve_ring__add_s0.Sp])], [(14, 26), (15, 27), (20, 28), (21, 29), (24, 30)], invL [], [(2, [6])], [], [], 1, 0⟩
def St0 (x0 : D13) (x1p0 x2 : D0) (c0 : Bool) : St := stL 25 [(0, .data T50 x0), (1, .agg T48 [.data T32 x1p0, .ref 0 0 []]), (2, .data T32 x2)] [(0, .cell .bool (.data .bool c0) false)]
def St1 (c0 : Bool) (c7 : D0) : St := stL 25 [(6, .ref 7 0 [])] [(0, .cell .bool (.data .bool c0) false), (7, .cell T32 (.data T32 c7) false)]
def top {α : Type} (Rt : Bool -> D0 -> Option α) (x0 : D13) (x1p0 x2 : D0) (c0 : Bool) : Option α :=
 (curve_ring__mul_s1.run x1p0 x2 x2 c0).bind fun y1 =>
 (curve_ring__mul_s1.run x1p0 x2 y1.1 y1.2.1).bind fun y2 =>
 (curve_ring__mul_s1.run x1p0 x0.2.1 x2 y2.2.1).bind fun y3 =>
 (curve_ring__add_s0.run x1p0 y2.1 y3.1 y3.2.1).bind fun y4 =>
 (curve_ring__add_s0.run x1p0 y4.1 x0.2.2.1 y4.2.1).bind fun y5 =>
 Rt y5.2.1 y5.1
theorem top_eq {α : Type} (k : Nat) (Q : Ex -> St -> Option α) (x0 : D13) (x1p0 x2 : D0) (c0 : Bool) :
  (den C k) (cB Tryd.f109) (endQ C Q) (St0 x0 x1p0 x2 c0) = top (fun c0 c7 => Q .ret (St1 c0 c7)) x0 x1p0 x2 c0 := by
 have h : ∀ (D L : DT α), denJ D L Js C (cB Tryd.f109) (endQ C Q) (St0 x0 x1p0 x2 c0) = top (fun c0 c7 => Q .ret (St1 c0 c7)) x0 x1p0 x2 c0 := by
  intro D L; kernel_rfl
 have h2 := via (k := k) h
 exact h2
def run (x0 : D13) (x1p0 x2 : D0) (c0 : Bool) : Option D15 := top (α := List Int × Bool × List Int × Unit) (fun c0 c7 => some (c7, c0, c7, ())) x0 x1p0 x2 c0
def Sp : Spec := ⟨[hD T50, .agg T48 [hD T32, .ref 0 0 []], hD T32], [(0, hC .bool (hD .bool) false)], T56, hD T32, [(0, hC .bool (hD .bool) false), (7, hC T32 (hD T32) false)], T54, fun x => run x.1 x.2.1 x.2.2.1 x.2.2.2.1⟩
set_option maxRecDepth 100000 in
theorem sok : SOk Tryd.prog 109 Sp.h := by
 refine sok_of_den (C := C) (ctx_ok_sh (by kernel_rfl) (by kernel_rfl) (by kernel_rfl) (by kernel_rfl) trivial ⟨⟨⟨curve_ring__mul_s1.sok, trivial⟩, curve_ring__mul_s1.named⟩, ⟨⟨⟨curve_ring__add_s0.sok, trivial⟩, curve_ring__add_s0.named⟩, trivial⟩⟩) (by kernel_rfl) Tryd.func109 (c := cB Tryd.f109) (by kernel_rfl) (by kernel_rfl) Sp fuel (by kernel_rfl) (by kernel_rfl) ?_
 intro x r h
 rw [<- h]
 have h1 : Sp.start x Tryd.f109.ntmps = (St0 x.1 x.2.1 x.2.2.1 x.2.2.2.1) := by kernel_rfl
 rw [h1]
 refine (top_eq fuel (finS C Tryd.f109.results.toList Sp.read) x.1 x.2.1 x.2.2.1 x.2.2.2.1).trans ?_
 kernel_rfl
theorem named : Named Tryd.prog 109 := named_of Tryd.func109 (by kernel_rfl) (by kernel_rfl)
end Go.Bx.curve_side_s0
namespace Go.Bx.curve_on
def Js : List Nat := []
def C : Ctx := ⟨[(4, .bool), (56, T32), (58, T52), (60, T50), (139, T48)], [], [], fnL [(82, wide_Cmp.F)], shL [(83, [.one curve_ringOf_s0.Sp]), (84, [.one curve_ring__mul_s1.Sp]), (109, [.one curve_side_s0.Sp])], [(33, 47), (39, 49), (44, 50)], invL [], [(2, [4])], [], [], 0, 0⟩
def St0 (x0 : D13) (x1 : D14) : St := stL 46 [(0, .data T50 x0), (1, .data T52 x1)] []
def St1 (x4 : Bool) : St := stL 46 [(4, .data .bool x4)] []
def top {α : Type} (Rt : Bool -> Option α) (x0 : D13) (x1 : D14) : Option α :=
 if x1.2.2.1 = true then
  Rt (cond (beqD T32 x1.1 [0, 0, 0, 0]) (beqD T32 x1.2.1 [0, 0, 0, 0]) false)
 else
  (wide_Cmp.run x1.1 x0.1).bind fun y1 =>
  (if ((decide (y1 >= 0)) == false) = true then wide_Cmp.run x1.2.1 x0.1 else some 0).bind fun y2 =>
  if (cond (decide (y1 >= 0)) true (decide (y2 >= 0))) = true then
   Rt false
  else
   (curve_ringOf_s0.run x0).bind fun y3 =>
   (curve_ring__mul_s1.run y3.1 x1.2.1 x1.2.1 y3.2.2.1).bind fun y4 =>
   (curve_side_s0.run x0 y3.1 x1.1 y4.2.1).bind fun y5 =>
   Rt (beqD T32 y4.1 y5.1)
theorem top_eq {α : Type} (k : Nat) (Q : Ex -> St -> Option α) (x0 : D13) (x1 : D14) :
  (den C k) (cB Tryd.f87) Q (St0 x0 x1) = top (fun x4 => Q .ret (St1 x4)) x0 x1 := by
 have h : ∀ (D L : DT α), denJ D L Js C (cB Tryd.f87) Q (St0 x0 x1) = top (fun x4 => Q .ret (St1 x4)) x0 x1 := by
  intro D L; kernel_rfl
 have h2 := via (k := k) h
 exact h2
def run (x0 : D13) (x1 : D14) : Option (Bool) := top (α := Bool) (fun x4 => some x4) x0 x1
def F : Fn := ⟨T57, .bool, false, fun x => run x.1 x.2.1⟩
theorem con : Con Tryd.prog 87 F :=
 con_of (C := C) (ctx_ok_sh (by kernel_rfl) (by kernel_rfl) (by kernel_rfl) (by kernel_rfl) ⟨.inl ⟨wide_Cmp.con, wide_Cmp.named⟩, trivial⟩ ⟨⟨⟨curve_ringOf_s0.sok, trivial⟩, curve_ringOf_s0.named⟩, ⟨⟨⟨curve_ring__mul_s1.sok, trivial⟩, curve_ring__mul_s1.named⟩, ⟨⟨⟨curve_side_s0.sok, trivial⟩, curve_side_s0.named⟩, trivial⟩⟩⟩) (by kernel_rfl) Tryd.func87 (c := cB Tryd.f87) (by kernel_rfl) (by kernel_rfl) F (fun x => by simp [F, spread, Tryd.ntmps87]) (fun x => (St0 x.1 x.2.1)) (fun x => by kernel_rfl) fun x => (top_eq fuel _ x.1 x.2.1).trans (by kernel_rfl)
theorem named : Named Tryd.prog 87 := named_of Tryd.func87 (by kernel_rfl) (by kernel_rfl)
end Go.Bx.curve_on
namespace Go.Bx.curve_Check
def Js : List Nat := []
def C : Ctx := ⟨[(4, .bool), (22, T2), (30, T1), (56, T32), (58, T52), (60, T50), (139, T48)], [], [], fnL [(82, wide_Cmp.F), (87, curve_on.F)], shL [(83, [.one curve_ringOf_s0.Sp]), (84, [.one curve_ring__mul_s1.Sp]), (85, [.one curve_ring__small_s0.Sp]), (86, [.one curve_ring__add_s0.Sp])], [(42, 86), (45, 88), (54, 89), (55, 90), (56, 91), (59, 92), (65, 93), (66, 94), (70, 95)], invL [], [(2, [2])], [], [], 0, 0⟩
def St0 (x0 : D13) : St := stL 85 [(0, .data T50 x0)] []
def St1 (x2 : Int) : St := stL 85 [(2, .data T1 x2)] []
def top {α : Type} (Rt : Int -> Option α) (x0 : D13) : Option α :=
 (wide_Cmp.run x0.1 [3, 0, 0, 0]).bind fun y1 =>
 (if ((cond (decide (y1 <= 0)) true ((Int.tmod (List.getD x0.1 0 0) 4) != 3)) == false) = true then wide_Cmp.run x0.2.1 x0.1 else some 0).bind fun y2 =>
 (if ((cond (cond (decide (y1 <= 0)) true ((Int.tmod (List.getD x0.1 0 0) 4) != 3)) true (decide (y2 >= 0))) == false) = true then wide_Cmp.run x0.2.2.1 x0.1 else some 0).bind fun y3 =>
 (if ((cond (cond (cond (decide (y1 <= 0)) true ((Int.tmod (List.getD x0.1 0 0) 4) != 3)) true (decide (y2 >= 0))) true (decide (y3 >= 0))) == false) = true then wide_Cmp.run x0.2.2.2.1 [1, 0, 0, 0] else some 0).bind fun y4 =>
 if (cond (cond (cond (cond (decide (y1 <= 0)) true ((Int.tmod (List.getD x0.1 0 0) 4) != 3)) true (decide (y2 >= 0))) true (decide (y3 >= 0))) true (decide (y4 <= 0))) = true then
  Rt 16
 else
  (curve_ringOf_s0.run x0).bind fun y5 =>
  (curve_ring__small_s0.run y5.1 4 y5.2.2.1).bind fun y6 =>
  (curve_ring__mul_s1.run y5.1 x0.2.1 x0.2.1 y6.2.1).bind fun y7 =>
  (curve_ring__mul_s1.run y5.1 x0.2.1 y7.1 y7.2.1).bind fun y8 =>
  (curve_ring__mul_s1.run y5.1 y6.1 y8.1 y8.2.1).bind fun y9 =>
  (curve_ring__small_s0.run y5.1 27 y9.2.1).bind fun y10 =>
  (curve_ring__mul_s1.run y5.1 x0.2.2.1 x0.2.2.1 y10.2.1).bind fun y11 =>
  (curve_ring__mul_s1.run y5.1 y10.1 y11.1 y11.2.1).bind fun y12 =>
  (curve_ring__add_s0.run y5.1 y9.1 y12.1 y12.2.1).bind fun y13 =>
  (if ((cond (beqD T32 y13.1 [0, 0, 0, 0]) true x0.2.2.2.2.1.2.2.1) == false) = true then curve_on.run x0 x0.2.2.2.2.1 else some false).bind fun y14 =>
  if (cond (cond (beqD T32 y13.1 [0, 0, 0, 0]) true x0.2.2.2.2.1.2.2.1) true (not y14)) = true then
   Rt 16
  else
   Rt 0
theorem top_eq {α : Type} (k : Nat) (Q : Ex -> St -> Option α) (x0 : D13) :
  (den C k) (cB Tryd.f53) Q (St0 x0) = top (fun x2 => Q .ret (St1 x2)) x0 := by
 have h : ∀ (D L : DT α), denJ D L Js C (cB Tryd.f53) Q (St0 x0) = top (fun x2 => Q .ret (St1 x2)) x0 := by
  intro D L; kernel_rfl
 have h2 := via (k := k) h
 exact h2
def run (x0 : D13) : Option (Int) := top (α := Int) (fun x2 => some x2) x0
def F : Fn := ⟨T51, T1, false, fun x => run x.1⟩
theorem con : Con Tryd.prog 53 F :=
 con_of (C := C) (ctx_ok_sh (by kernel_rfl) (by kernel_rfl) (by kernel_rfl) (by kernel_rfl) ⟨.inl ⟨wide_Cmp.con, wide_Cmp.named⟩, ⟨.inl ⟨curve_on.con, curve_on.named⟩, trivial⟩⟩ ⟨⟨⟨curve_ringOf_s0.sok, trivial⟩, curve_ringOf_s0.named⟩, ⟨⟨⟨curve_ring__mul_s1.sok, trivial⟩, curve_ring__mul_s1.named⟩, ⟨⟨⟨curve_ring__small_s0.sok, trivial⟩, curve_ring__small_s0.named⟩, ⟨⟨⟨curve_ring__add_s0.sok, trivial⟩, curve_ring__add_s0.named⟩, trivial⟩⟩⟩⟩) (by kernel_rfl) Tryd.func53 (c := cB Tryd.f53) (by kernel_rfl) (by kernel_rfl) F (fun x => by simp [F, spread, Tryd.ntmps53]) (fun x => (St0 x.1)) (fun x => by kernel_rfl) fun x => (top_eq fuel _ x.1).trans (by kernel_rfl)
theorem named : Named Tryd.prog 53 := named_of Tryd.func53 (by kernel_rfl) (by kernel_rfl)
end Go.Bx.curve_Check
namespace Go.Bx.basculeref_right
def Js : List Nat := []
def C : Ctx := ⟨[(56, T32), (60, T50)], [], [], fnL [(72, basculeref_product.F), (73, basculeref_total.F)], noSh, [], invL [], [(2, [4])], [], [], 0, 0⟩
def St0 (x0 : D13) (x1 : D0) : St := stL 24 [(0, .data T50 x0), (1, .data T32 x1)] []
def St1 (c4 : D0) : St := stL 24 [(4, .ref 4 0 [])] [(4, .cell T32 (.data T32 c4) false)]
def top {α : Type} (Rt : D0 -> Option α) (x0 : D13) (x1 : D0) : Option α :=
 (basculeref_product.run x1 x1 x0.1).bind fun y1 =>
 (basculeref_total.run y1 x0.2.1 x0.1).bind fun y2 =>
 (basculeref_product.run x1 y2 x0.1).bind fun y3 =>
 (basculeref_total.run y3 x0.2.2.1 x0.1).bind fun y4 =>
 Rt y4
theorem top_eq {α : Type} (k : Nat) (Q : Ex -> St -> Option α) (x0 : D13) (x1 : D0) :
  (den C k) (cB Tryd.f112) Q (St0 x0 x1) = top (fun c4 => Q .ret (St1 c4)) x0 x1 := by
 have h : ∀ (D L : DT α), denJ D L Js C (cB Tryd.f112) Q (St0 x0 x1) = top (fun c4 => Q .ret (St1 c4)) x0 x1 := by
  intro D L; kernel_rfl
 have h2 := via (k := k) h
 exact h2
def run (x0 : D13) (x1 : D0) : Option D0 := top (α := List Int) (fun c4 => some c4) x0 x1
def F : Fn := ⟨T59, T32, false, fun x => run x.1 x.2.1⟩
theorem con : Con Tryd.prog 112 F :=
 con_of (C := C) (ctx_ok (by kernel_rfl) (by kernel_rfl) (by kernel_rfl) (by kernel_rfl) ⟨.inl ⟨basculeref_product.con, basculeref_product.named⟩, ⟨.inl ⟨basculeref_total.con, basculeref_total.named⟩, trivial⟩⟩) (by kernel_rfl) Tryd.func112 (c := cB Tryd.f112) (by kernel_rfl) (by kernel_rfl) F (fun x => by simp [F, spread, Tryd.ntmps112]) (fun x => (St0 x.1 x.2.1)) (fun x => by kernel_rfl) fun x => (top_eq fuel _ x.1 x.2.1).trans (by kernel_rfl)
theorem named : Named Tryd.prog 112 := named_of Tryd.func112 (by kernel_rfl) (by kernel_rfl)
end Go.Bx.basculeref_right
namespace Go.Bx.basculeref_isOn
def Js : List Nat := []
def C : Ctx := ⟨[(4, .bool), (56, T32), (58, T52), (60, T50)], [], [], fnL [(69, basculeref_isZero.F), (72, basculeref_product.F), (75, basculeref_Order.F), (112, basculeref_right.F)], noSh, [], invL [], [(2, [4])], [], [], 0, 0⟩
def St0 (x0 : D13) (x1 : D14) : St := stL 43 [(0, .data T50 x0), (1, .data T52 x1)] []
def St1 (x4 : Bool) : St := stL 43 [(4, .data .bool x4)] []
def top {α : Type} (Rt : Bool -> Option α) (x0 : D13) (x1 : D14) : Option α :=
 if x1.2.2.1 = true then
  (basculeref_isZero.run x1.1).bind fun y1 =>
  (if (y1 == true) = true then basculeref_isZero.run x1.2.1 else some false).bind fun y2 =>
  Rt (cond y1 y2 false)
 else
  (basculeref_Order.run x1.1 x0.1).bind fun y3 =>
  (if ((decide (y3 < 0)) == true) = true then basculeref_Order.run x1.2.1 x0.1 else some 0).bind fun y4 =>
  (if ((cond (decide (y3 < 0)) (decide (y4 < 0)) false) == true) = true then basculeref_product.run x1.2.1 x1.2.1 x0.1 else some [0, 0, 0, 0]).bind fun y5 =>
  (if ((cond (decide (y3 < 0)) (decide (y4 < 0)) false) == true) = true then basculeref_right.run x0 x1.1 else some [0, 0, 0, 0]).bind fun y6 =>
  Rt (cond (cond (decide (y3 < 0)) (decide (y4 < 0)) false) (beqD T32 y5 y6) false)
theorem top_eq {α : Type} (k : Nat) (Q : Ex -> St -> Option α) (x0 : D13) (x1 : D14) :
  (den C k) (cB Tryd.f92) Q (St0 x0 x1) = top (fun x4 => Q .ret (St1 x4)) x0 x1 := by
 have h : ∀ (D L : DT α), denJ D L Js C (cB Tryd.f92) Q (St0 x0 x1) = top (fun x4 => Q .ret (St1 x4)) x0 x1 := by
  intro D L; kernel_rfl
 have h2 := via (k := k) h
 exact h2
def run (x0 : D13) (x1 : D14) : Option (Bool) := top (α := Bool) (fun x4 => some x4) x0 x1
def F : Fn := ⟨T57, .bool, false, fun x => run x.1 x.2.1⟩
theorem con : Con Tryd.prog 92 F :=
 con_of (C := C) (ctx_ok (by kernel_rfl) (by kernel_rfl) (by kernel_rfl) (by kernel_rfl) ⟨.inl ⟨basculeref_isZero.con, basculeref_isZero.named⟩, ⟨.inl ⟨basculeref_product.con, basculeref_product.named⟩, ⟨.inl ⟨basculeref_Order.con, basculeref_Order.named⟩, ⟨.inl ⟨basculeref_right.con, basculeref_right.named⟩, trivial⟩⟩⟩⟩) (by kernel_rfl) Tryd.func92 (c := cB Tryd.f92) (by kernel_rfl) (by kernel_rfl) F (fun x => by simp [F, spread, Tryd.ntmps92]) (fun x => (St0 x.1 x.2.1)) (fun x => by kernel_rfl) fun x => (top_eq fuel _ x.1 x.2.1).trans (by kernel_rfl)
theorem named : Named Tryd.prog 92 := named_of Tryd.func92 (by kernel_rfl) (by kernel_rfl)
end Go.Bx.basculeref_isOn
namespace Go.Bx.basculeref_CurveFault
def Js : List Nat := []
def C : Ctx := ⟨[(4, .bool), (22, T2), (30, T1), (56, T32), (58, T52), (60, T50)], [], [], fnL [(69, basculeref_isZero.F), (72, basculeref_product.F), (73, basculeref_total.F), (75, basculeref_Order.F), (90, basculeref_by.F), (91, basculeref_power.F), (92, basculeref_isOn.F)], noSh, [], invL [], [(2, [2])], [], [], 0, 0⟩
def St0 (x0 : D13) : St := stL 83 [(0, .data T50 x0)] []
def St1 (x2 : Int) : St := stL 83 [(2, .data T1 x2)] []
def top {α : Type} (Rt : Int -> Option α) (x0 : D13) : Option α :=
 (basculeref_Order.run x0.1 [3, 0, 0, 0]).bind fun y1 =>
 (if ((cond (decide (y1 > 0)) ((band .u64 (List.getD x0.1 0 0) 3) == 3) false) == true) = true then basculeref_Order.run x0.2.1 x0.1 else some 0).bind fun y2 =>
 (if ((cond (cond (decide (y1 > 0)) ((band .u64 (List.getD x0.1 0 0) 3) == 3) false) (decide (y2 < 0)) false) == true) = true then basculeref_Order.run x0.2.2.1 x0.1 else some 0).bind fun y3 =>
 (if ((cond (cond (cond (decide (y1 > 0)) ((band .u64 (List.getD x0.1 0 0) 3) == 3) false) (decide (y2 < 0)) false) (decide (y3 < 0)) false) == true) = true then basculeref_Order.run x0.2.2.2.1 [1, 0, 0, 0] else some 0).bind fun y4 =>
 if (not (cond (cond (cond (cond (decide (y1 > 0)) ((band .u64 (List.getD x0.1 0 0) 3) == 3) false) (decide (y2 < 0)) false) (decide (y3 < 0)) false) (decide (y4 > 0)) false)) = true then
  Rt 16
 else
  (basculeref_by.run 4 x0.1).bind fun y5 =>
  (basculeref_power.run x0.2.1 [3, 0, 0, 0] x0.1).bind fun y6 =>
  (basculeref_product.run y5 y6 x0.1).bind fun y7 =>
  (basculeref_by.run 27 x0.1).bind fun y8 =>
  (basculeref_power.run x0.2.2.1 [2, 0, 0, 0] x0.1).bind fun y9 =>
  (basculeref_product.run y8 y9 x0.1).bind fun y10 =>
  (basculeref_total.run y7 y10 x0.1).bind fun y11 =>
  (basculeref_isZero.run y11).bind fun y12 =>
  (if ((cond y12 true x0.2.2.2.2.1.2.2.1) == false) = true then basculeref_isOn.run x0 x0.2.2.2.2.1 else some false).bind fun y13 =>
  if (cond (cond y12 true x0.2.2.2.2.1.2.2.1) true (not y13)) = true then
   Rt 16
  else
   Rt 0
theorem top_eq {α : Type} (k : Nat) (Q : Ex -> St -> Option α) (x0 : D13) :
  (den C k) (cB Tryd.f57) Q (St0 x0) = top (fun x2 => Q .ret (St1 x2)) x0 := by
 have h : ∀ (D L : DT α), denJ D L Js C (cB Tryd.f57) Q (St0 x0) = top (fun x2 => Q .ret (St1 x2)) x0 := by
  intro D L; kernel_rfl
 have h2 := via (k := k) h
 exact h2
def run (x0 : D13) : Option (Int) := top (α := Int) (fun x2 => some x2) x0
def F : Fn := ⟨T51, T1, false, fun x => run x.1⟩
theorem con : Con Tryd.prog 57 F :=
 con_of (C := C) (ctx_ok (by kernel_rfl) (by kernel_rfl) (by kernel_rfl) (by kernel_rfl) ⟨.inl ⟨basculeref_isZero.con, basculeref_isZero.named⟩, ⟨.inl ⟨basculeref_product.con, basculeref_product.named⟩, ⟨.inl ⟨basculeref_total.con, basculeref_total.named⟩, ⟨.inl ⟨basculeref_Order.con, basculeref_Order.named⟩, ⟨.inl ⟨basculeref_by.con, basculeref_by.named⟩, ⟨.inl ⟨basculeref_power.con, basculeref_power.named⟩, ⟨.inl ⟨basculeref_isOn.con, basculeref_isOn.named⟩, trivial⟩⟩⟩⟩⟩⟩⟩) (by kernel_rfl) Tryd.func57 (c := cB Tryd.f57) (by kernel_rfl) (by kernel_rfl) F (fun x => by simp [F, spread, Tryd.ntmps57]) (fun x => (St0 x.1)) (fun x => by kernel_rfl) fun x => (top_eq fuel _ x.1).trans (by kernel_rfl)
theorem named : Named Tryd.prog 57 := named_of Tryd.func57 (by kernel_rfl) (by kernel_rfl)
end Go.Bx.basculeref_CurveFault
namespace Go.Bx.sign_rest
def Js : List Nat := []
def C : Ctx := ⟨[(56, T32)], [], [], fnL [(94, wide_DivMod.F)], noSh, [], invL [], [(2, [4])], [], [], 0, 0⟩
def St0 (x0 x1 : D0) : St := stL 16 [(0, .data T32 x0), (1, .data T32 x1)] []
def St1 (c4 : D0) : St := stL 16 [(4, .ref 4 0 [])] [(4, .cell T32 (.data T32 c4) false)]
def top {α : Type} (Rt : D0 -> Option α) (x0 x1 : D0) : Option α :=
 (wide_DivMod.run x0 x1).bind fun y1 =>
 Rt y1.2.1
theorem top_eq {α : Type} (k : Nat) (Q : Ex -> St -> Option α) (x0 x1 : D0) :
  (den C k) (cB Tryd.f61) Q (St0 x0 x1) = top (fun c4 => Q .ret (St1 c4)) x0 x1 := by
 have h : ∀ (D L : DT α), denJ D L Js C (cB Tryd.f61) Q (St0 x0 x1) = top (fun c4 => Q .ret (St1 c4)) x0 x1 := by
  intro D L; kernel_rfl
 have h2 := via (k := k) h
 exact h2
def run (x0 x1 : D0) : Option D0 := top (α := List Int) (fun c4 => some c4) x0 x1
def F : Fn := ⟨T33, T32, false, fun x => run x.1 x.2.1⟩
theorem con : Con Tryd.prog 61 F :=
 con_of (C := C) (ctx_ok (by kernel_rfl) (by kernel_rfl) (by kernel_rfl) (by kernel_rfl) ⟨.inl ⟨wide_DivMod.con, wide_DivMod.named⟩, trivial⟩) (by kernel_rfl) Tryd.func61 (c := cB Tryd.f61) (by kernel_rfl) (by kernel_rfl) F (fun x => by simp [F, spread, Tryd.ntmps61]) (fun x => (St0 x.1 x.2.1)) (fun x => by kernel_rfl) fun x => (top_eq fuel _ x.1 x.2.1).trans (by kernel_rfl)
theorem named : Named Tryd.prog 61 := named_of Tryd.func61 (by kernel_rfl) (by kernel_rfl)
end Go.Bx.sign_rest
namespace Go.Bx.sign_low
def Js : List Nat := []
def C : Ctx := ⟨[(4, .bool), (56, T32), (60, T50)], [], [], fnL [(82, wide_Cmp.F), (94, wide_DivMod.F)], noSh, [], invL [], [(2, [4])], [], [], 0, 0⟩
def St0 (x0 : D13) (x1 : D0) : St := stL 20 [(0, .data T50 x0), (1, .data T32 x1)] []
def St1 (x4 : Bool) : St := stL 20 [(4, .data .bool x4)] []
def top {α : Type} (Rt : Bool -> Option α) (x0 : D13) (x1 : D0) : Option α :=
 (wide_DivMod.run x0.2.2.2.1 [2, 0, 0, 0]).bind fun y1 =>
 (wide_Cmp.run x1 y1.1).bind fun y2 =>
 Rt (decide (y2 <= 0))
theorem top_eq {α : Type} (k : Nat) (Q : Ex -> St -> Option α) (x0 : D13) (x1 : D0) :
  (den C k) (cB Tryd.f98) Q (St0 x0 x1) = top (fun x4 => Q .ret (St1 x4)) x0 x1 := by
 have h : ∀ (D L : DT α), denJ D L Js C (cB Tryd.f98) Q (St0 x0 x1) = top (fun x4 => Q .ret (St1 x4)) x0 x1 := by
  intro D L; kernel_rfl
 have h2 := via (k := k) h
 exact h2
def run (x0 : D13) (x1 : D0) : Option (Bool) := top (α := Bool) (fun x4 => some x4) x0 x1
def F : Fn := ⟨T59, .bool, false, fun x => run x.1 x.2.1⟩
theorem con : Con Tryd.prog 98 F :=
 con_of (C := C) (ctx_ok (by kernel_rfl) (by kernel_rfl) (by kernel_rfl) (by kernel_rfl) ⟨.inl ⟨wide_Cmp.con, wide_Cmp.named⟩, ⟨.inl ⟨wide_DivMod.con, wide_DivMod.named⟩, trivial⟩⟩) (by kernel_rfl) Tryd.func98 (c := cB Tryd.f98) (by kernel_rfl) (by kernel_rfl) F (fun x => by simp [F, spread, Tryd.ntmps98]) (fun x => (St0 x.1 x.2.1)) (fun x => by kernel_rfl) fun x => (top_eq fuel _ x.1 x.2.1).trans (by kernel_rfl)
theorem named : Named Tryd.prog 98 := named_of Tryd.func98 (by kernel_rfl) (by kernel_rfl)
end Go.Bx.sign_low
namespace Go.Bx.curve_add
def Js : List Nat := [14]
def C : Ctx := ⟨[(4, .bool), (56, T32), (58, T52), (60, T50), (137, .opq), (139, T48)], [], [], fnL [], shL [(83, [.one curve_ringOf_s0.Sp]), (84, [.one curve_ring__mul_s1.Sp]), (85, [.one curve_ring__small_s0.Sp]), (86, [.one curve_ring__add_s0.Sp]), (110, [.one curve_ring__sub_s0.Sp]), (111, [.one curve_ring__inv_s0.Sp])], [(21, 113), (27, 115), (33, 116), (44, 117), (57, 118), (63, 119), (64, 120), (67, 121), (73, 122), (78, 123), (79, 124), (85, 125), (88, 126), (91, 127), (99, 128), (100, 129), (103, 130)], invL [], [(2, [6, 7]), (39, [4, 5, 6, 8, 9, 10])], [], [], 0, 0⟩
def St0 (x0 : D13) (x1 x2 : D14) : St := stL 112 [(0, .data T50 x0), (1, .data T52 x1), (2, .data T52 x2)] []
def St1 (x7 : Bool) (c6 : D14) : St := stL 112 [(6, .ref 6 0 []), (7, .data .bool x7)] [(6, .cell T52 (.data T52 c6) false)]
def St2 (c4 c5 c6 : D14) (c8p0 c9 c10 : D0) (c114 : Bool) : St := stL 112 [(4, .ref 4 0 []), (5, .ref 5 0 []), (6, .ref 6 0 []), (8, .ref 8 0 []), (9, .ref 9 0 []), (10, .ref 10 0 [])] [(4, .cell T52 (.data T52 c4) false), (5, .cell T52 (.data T52 c5) false), (6, .cell T52 (.data T52 c6) false), (8, .cell T48 (.agg T48 [.data T32 c8p0, .ref 114 0 []]) false), (9, .cell T32 (.data T32 c9) false), (10, .cell T32 (.data T32 c10) false), (114, .cell .bool (.data .bool c114) false)]
noncomputable def cd0 : Code := cR (cR (cR (cR (cR (cR (cB Tryd.f89))))))
def j0 {α : Type} (Rt : Bool -> D14 -> Option α) (c4 c5 c6 : D14) (c8p0 c9 c10 : D0) (c114 : Bool) : Option α :=
 (curve_ring__inv_s0.run c8p0 c10 c114).bind fun y10 =>
 (curve_ring__mul_s1.run c8p0 c9 y10.1 y10.2.1).bind fun y11 =>
 (curve_ring__mul_s1.run c8p0 y11.1 y11.1 y11.2.1).bind fun y12 =>
 (curve_ring__sub_s0.run c8p0 y12.1 c4.1 y12.2.1).bind fun y13 =>
 (curve_ring__sub_s0.run c8p0 y13.1 c5.1 y13.2.1).bind fun y14 =>
 (curve_ring__sub_s0.run c8p0 c4.1 y14.1 y14.2.1).bind fun y15 =>
 (curve_ring__mul_s1.run c8p0 y11.1 y15.1 y15.2.1).bind fun y16 =>
 (curve_ring__sub_s0.run c8p0 y16.1 c4.2.1 y16.2.1).bind fun y17 =>
 if y17.2.1 = true then
  Rt false ([0, 0, 0, 0], [0, 0, 0, 0], false, ())
 else
  Rt true (y14.1, y17.1, false, ())
theorem j0_eq {α : Type} (k : Nat) (Q : Ex -> St -> Option α) (c4 c5 c6 : D14) (c8p0 c9 c10 : D0) (c114 : Bool) :
  (den C k) cd0 Q (St2 c4 c5 c6 c8p0 c9 c10 c114) = j0 (fun x7 c6 => Q .ret (St1 x7 c6)) c4 c5 c6 c8p0 c9 c10 c114 := by
 have h : ∀ (D L : DT α), denJ D L Js C cd0 Q (St2 c4 c5 c6 c8p0 c9 c10 c114) = j0 (fun x7 c6 => Q .ret (St1 x7 c6)) c4 c5 c6 c8p0 c9 c10 c114 := by
  intro D L; kernel_rfl
 have h2 := via (k := k) h
 exact h2
def top {α : Type} (Rt : Bool -> D14 -> Option α) (x0 : D13) (x1 x2 : D14) : Option α :=
 if x1.2.2.1 = true then
  Rt true x2
 else
  if x2.2.2.1 = true then
   Rt true x1
  else
   (curve_ringOf_s0.run x0).bind fun y1 =>
   (curve_ring__sub_s0.run y1.1 x2.2.1 x1.2.1 y1.2.2.1).bind fun y2 =>
   (curve_ring__sub_s0.run y1.1 x2.1 x1.1 y2.2.1).bind fun y3 =>
   if (beqD T32 x1.1 x2.1) = true then
    (curve_ring__add_s0.run y1.1 x1.2.1 x2.2.1 y3.2.1).bind fun y4 =>
    if (beqD T32 y4.1 [0, 0, 0, 0]) = true then
     Rt true ([0, 0, 0, 0], [0, 0, 0, 0], true, ())
    else
     if (not (beqD T32 x1.2.1 x2.2.1)) = true then
      Rt false ([0, 0, 0, 0], [0, 0, 0, 0], false, ())
     else
      (curve_ring__small_s0.run y1.1 3 y4.2.1).bind fun y5 =>
      (curve_ring__mul_s1.run y1.1 x1.1 x1.1 y5.2.1).bind fun y6 =>
      (curve_ring__mul_s1.run y1.1 y5.1 y6.1 y6.2.1).bind fun y7 =>
      (curve_ring__add_s0.run y1.1 y7.1 x0.2.1 y7.2.1).bind fun y8 =>
      (curve_ring__add_s0.run y1.1 x1.2.1 x1.2.1 y8.2.1).bind fun y9 =>
      j0 Rt x1 x2 ([0, 0, 0, 0], [0, 0, 0, 0], false, ()) y1.1 y8.1 y9.1 y9.2.1
   else
    j0 Rt x1 x2 ([0, 0, 0, 0], [0, 0, 0, 0], false, ()) y1.1 y2.1 y3.1 y3.2.1
theorem top_eq {α : Type} (k : Nat) (Q : Ex -> St -> Option α) (x0 : D13) (x1 x2 : D14) :
  (den C k) (cB Tryd.f89) Q (St0 x0 x1 x2) = top (fun x7 c6 => Q .ret (St1 x7 c6)) x0 x1 x2 := by
 have h : ∀ (D L : DT α), denJ D L Js C (cB Tryd.f89) Q (St0 x0 x1 x2) =
    if x1.2.2.1 = true then
     Q .ret (St1 true x2)
    else
     if x2.2.2.1 = true then
      Q .ret (St1 true x1)
     else
      (curve_ringOf_s0.run x0).bind fun y1 =>
      (curve_ring__sub_s0.run y1.1 x2.2.1 x1.2.1 y1.2.2.1).bind fun y2 =>
      (curve_ring__sub_s0.run y1.1 x2.1 x1.1 y2.2.1).bind fun y3 =>
      if (beqD T32 x1.1 x2.1) = true then
       (curve_ring__add_s0.run y1.1 x1.2.1 x2.2.1 y3.2.1).bind fun y4 =>
       if (beqD T32 y4.1 [0, 0, 0, 0]) = true then
        Q .ret (St1 true ([0, 0, 0, 0], [0, 0, 0, 0], true, ()))
       else
        if (not (beqD T32 x1.2.1 x2.2.1)) = true then
         Q .ret (St1 false ([0, 0, 0, 0], [0, 0, 0, 0], false, ()))
        else
         (curve_ring__small_s0.run y1.1 3 y4.2.1).bind fun y5 =>
         (curve_ring__mul_s1.run y1.1 x1.1 x1.1 y5.2.1).bind fun y6 =>
         (curve_ring__mul_s1.run y1.1 y5.1 y6.1 y6.2.1).bind fun y7 =>
         (curve_ring__add_s0.run y1.1 y7.1 x0.2.1 y7.2.1).bind fun y8 =>
         (curve_ring__add_s0.run y1.1 x1.2.1 x1.2.1 y8.2.1).bind fun y9 =>
         D cd0 Q (St2 x1 x2 ([0, 0, 0, 0], [0, 0, 0, 0], false, ()) y1.1 y8.1 y9.1 y9.2.1)
      else
       D cd0 Q (St2 x1 x2 ([0, 0, 0, 0], [0, 0, 0, 0], false, ()) y1.1 y2.1 y3.1 y3.2.1) := by
  intro D L; kernel_rfl
 have h2 := via (k := k) h
 refine h2.trans ?_
 simp only [j0_eq]
 first | rfl | kernel_rfl
def run (x0 : D13) (x1 x2 : D14) : Option D17 := top (α := D14 × Bool × Unit) (fun x7 c6 => some (c6, x7, ())) x0 x1 x2
def F : Fn := ⟨T62, T63, true, fun x => run x.1 x.2.1 x.2.2.1⟩
theorem con : Con Tryd.prog 89 F :=
 con_of (C := C) (ctx_ok_sh (by kernel_rfl) (by kernel_rfl) (by kernel_rfl) (by kernel_rfl) trivial ⟨⟨⟨curve_ringOf_s0.sok, trivial⟩, curve_ringOf_s0.named⟩, ⟨⟨⟨curve_ring__mul_s1.sok, trivial⟩, curve_ring__mul_s1.named⟩, ⟨⟨⟨curve_ring__small_s0.sok, trivial⟩, curve_ring__small_s0.named⟩, ⟨⟨⟨curve_ring__add_s0.sok, trivial⟩, curve_ring__add_s0.named⟩, ⟨⟨⟨curve_ring__sub_s0.sok, trivial⟩, curve_ring__sub_s0.named⟩, ⟨⟨⟨curve_ring__inv_s0.sok, trivial⟩, curve_ring__inv_s0.named⟩, trivial⟩⟩⟩⟩⟩⟩) (by kernel_rfl) Tryd.func89 (c := cB Tryd.f89) (by kernel_rfl) (by kernel_rfl) F (fun x => by simp [F, spread, Tryd.ntmps89]) (fun x => (St0 x.1 x.2.1 x.2.2.1)) (fun x => by kernel_rfl) fun x => (top_eq fuel _ x.1 x.2.1 x.2.2.1).trans (by kernel_rfl)
theorem named : Named Tryd.prog 89 := named_of Tryd.func89 (by kernel_rfl) (by kernel_rfl)
end Go.Bx.curve_add
