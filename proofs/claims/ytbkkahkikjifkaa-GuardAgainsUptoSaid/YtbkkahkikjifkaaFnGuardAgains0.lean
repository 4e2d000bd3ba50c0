/- Go functions of this seat in their own words of Lean, each tied to its code by a contract. -/
import Derived.Test.YtbkkahkikjifkaaGBase
open Go Go.Proofs Go.Bx
set_option maxRecDepth 100000
set_option linter.unusedVariables false
variable {α : Type}
namespace Go.Bx.basculeref_of
def Js : List Nat := [8]
def C : Ctx := ⟨[(24, T23), (84, T80)], [], [], fnL [], noSh, [], invL [], [(2, [2]), (1, [3]), (4, [3, 6, 7]), (9, [3, 6, 7]), (21, [3])], [(9, [.melt true 3 [] 16 true])], [], 0, 0⟩
def St0 (a : D4) : St := stL 19 [(0, .data T23 a)] []
def St1 (a : D4) (b : Int) (c : D4) : St := stL 19 [(3, .app 16 0), (6, .data T23 a), (7, .data T1 b)] [(16, .buf T36 c 0 true)]
noncomputable def cd0 : Code := cL (cL (cR (cL (cR (cR (cB Try.f43))))))
def St2 (a : D4) : St := stL 19 [(3, .app 16 0)] [(16, .buf T36 a 0 true)]
def l0s (Nx : D4 -> Int -> D4 -> Option α) (Xt0 : D4 -> Option α) (b : D4) (a : Int) (c : D4) : Option α :=
 if (decide (a < 4)) = true then
  if 0 <= a /\ a < (4 : Int) then
   if fitB (c.length + 2) 8 = true then
    Nx b (IntKind.i64.wrap (a + 1)) (c ++ [(Int.tmod (List.getD b (Int.toNat a) 0) 4294967296), (IntKind.u64.wrap (Int.tdiv (List.getD b (Int.toNat a) 0) 4294967296))])
   else none
  else none
 else
  Xt0 c
theorem l0s_eq (k : Nat) (next : St -> Option α) (Q : Ex -> St -> Option α) (b : D4) (c : Int) (a : D4) :
  rnd C k cd0 9 Q next (St1 b c a) = l0s (fun b c a => next (St1 b c a)) (fun a => Q (.exit 0) (St2 a)) b c a := plainly Js (by kernel_rfl)
def l0 (k : Nat) (Xt0 : D4 -> Option α) : Nat -> D4 -> Int -> D4 -> Option α
 | 0, _, _, _ => none
 | n + 1, a, b, c => l0s (l0 k Xt0 n) Xt0 a b c
theorem l0_eq (k : Nat) (Q : Ex -> St -> Option α) : ∀ (n : Nat) (b : D4) (c : Int) (a : D4), iter (rnd C k cd0 9 Q) n (St1 b c a) = l0 k (fun a => Q (.exit 0) (St2 a)) n b c a
 | 0, _, _, _ => rfl
 | n + 1, b, c, a => (iter_succ _ _ _).trans ((l0s_eq k _ Q b c a).trans (congrArg (fun N => l0s N (fun a => Q (.exit 0) (St2 a)) b c a) (by funext; exact l0_eq k Q n _ _ _)))
noncomputable def cd1 : Code := cR (cR (cR (cB Try.f43)))
def St3 (a : D4) : St := stL 19 [(3, .app 16 0)] [(16, .buf T36 a 0 true)]
def St4 (a : D4) : St := stL 19 [(2, .app 16 0)] [(16, .buf T36 a 0 true)]
def j0 (Rt : D4 -> Option α) (a : D4) : Option α :=
 Rt a
theorem j0_eq (k : Nat) (Q : Ex -> St -> Option α) (a : D4) :
  (den C k) cd1 Q (St3 a) = j0 (fun a => Q .ret (St4 a)) a := plainly Js (by kernel_rfl)
theorem a0 (k : Nat) (Q : Ex -> St -> Option α) (c : D4) (d : Int) (a : D4) :
  (lp C k) cd0 (blkQ C 0 (sq (den C k) (lp C k) Js C cd1 Q)) (St1 c d a) = l0 k (fun a => j0 (fun a => Q .ret (St4 a)) a) k c d a :=
 (lp_iter 9 (by kernel_rfl)).trans ((l0_eq k _ k c d a).trans (congrArg (fun X => l0 k X k c d a) (funext fun a => (Eq.trans (b := (den C k) cd1 Q (St3 a)) (by kernel_rfl) (by simp only [j0_eq])))))
def top (k : Nat) (Rt : D4 -> Option α) (a : D4) : Option α :=
 l0 k (fun b => j0 Rt b) k a 0 []
theorem top_eq (k : Nat) (Q : Ex -> St -> Option α) (a : D4) :
  (den C k) (cB Try.f43) Q (St0 a) = top k (fun b => Q .ret (St4 b)) a := by
 have h : ∀ (D L : DT α), denJ D L Js C (cB Try.f43) Q (St0 a) =
    L cd0 (blkQ C 0 (sq D L Js C cd1 Q)) (St1 a 0 []) := by
  intro D L; kernel_rfl
 have h2 := via (k := k) h
 refine h2.trans ?_
 simp only [a0]
 first | rfl | kernel_rfl
def run (a : D4) : Option D4 := top (α := List Int) fuel (fun b => some b) a
def F : Fn := ⟨T65, T80, false, fun x => run x.1⟩
theorem con : Con Try.prog 43 F /\ Named Try.prog 43 :=
 con_of2 (C := C) (ctx_ok (by kernel_rfl) (by kernel_rfl) (by kernel_rfl) (by kernel_rfl) trivial) (by kernel_rfl) Try.func43 (by kernel_rfl) (c := cB Try.f43) (by kernel_rfl) (by kernel_rfl) F (fun x => by simp [F, spread, Try.ntmps43]) (fun x => (St0 x.1)) (fun x => by kernel_rfl) fun x => (top_eq fuel _ x.1).trans (by kernel_rfl)
end Go.Bx.basculeref_of
namespace Go.Bx.basculeref_plus
end Go.Bx.basculeref_plus
namespace Go.Bx.basculeref_less
end Go.Bx.basculeref_less
namespace Go.Bx.basculeref_compare
def Js : List Nat := [8, 10, 14]
def C : Ctx := ⟨[(3, T1), (22, T36), (84, T80)], [], [], fnL [], noSh, [], invL [], [(2, [4]), (1, []), (4, [0, 1, 5]), (6, [0, 1, 5]), (21, [0, 1, 5, 6, 7]), (27, [0, 1, 5, 6, 7]), (39, [])], [], [], 0, 0⟩
def St0 (a b : D4) : St := stL 40 [(0, .data T80 a), (1, .data T80 b)] []
def St1 (a b : D4) (c : Int) : St := stL 40 [(0, .data T80 a), (1, .data T80 b), (5, .data T1 c)] []
noncomputable def cd0 : Code := cL (cL (cR (cL (cR (cB Try.f114)))))
def St2 (a b : D4) (c d e : Int) : St := stL 40 [(0, .data T80 a), (1, .data T80 b), (5, .data T1 c), (6, .data T36 d), (7, .data T36 e)] []
noncomputable def cd1 : Code := cR (cR (cL (cL (cR (cL (cR (cB Try.f114)))))))
noncomputable def cd2 : Code := cR (cR (cL (cL (cR (cL (cL (cR (cL (cR (cB Try.f114))))))))))
def St3 (a b : D4) (c d e : Int) : St := stL 40 [(0, .data T80 a), (1, .data T80 b), (5, .data T1 c), (6, .data T36 d), (7, .data T36 e)] []
noncomputable def cd3 : Code := cR (cR (cR (cL (cL (cR (cL (cL (cR (cL (cR (cB Try.f114)))))))))))
def St4 (a : Int) : St := stL 40 [(4, .data T1 a)] []
def j1 (Nx : D4 -> D4 -> Int -> Option α) (Rt : Int -> Option α) (c d : D4) (e a b : Int) : Option α :=
 if (decide (a < b)) = true then
  Rt (-1)
 else
  if (decide (a > b)) = true then
   Rt 1
  else
   Nx c d (IntKind.i64.wrap (e - 1))
theorem j1_eq (k : Nat) (next : St -> Option α) (Q : Ex -> St -> Option α) (a b : D4) (c d e : Int) :
  (den C k) cd3 (blkQ C 1 (sq (den C k) (lp C k) Js C cd1 (lq C 6 next Q))) (St3 a b c d e) = j1 (fun a b c => next (St1 a b c)) (fun f => Q .ret (St4 f)) a b c d e := plainly Js (by kernel_rfl)
def j0 (Nx : D4 -> D4 -> Int -> Option α) (Rt : Int -> Option α) (c b : D4) (a d e : Int) : Option α :=
 if (decide (a < (b.length : Int))) = true then
  if 0 <= a /\ a < (b.length : Int) then
   j1 Nx Rt c b a d (List.getD b (Int.toNat a) 0)
  else none
 else
  j1 Nx Rt c b a d e
theorem j0_eq (k : Nat) (next : St -> Option α) (Q : Ex -> St -> Option α) (c b : D4) (a d e : Int) :
  (den C k) cd2 (blkQ C 1 (sq (den C k) (lp C k) Js C cd1 (lq C 6 next Q))) (St2 c b a d e) = j0 (fun c b a => next (St1 c b a)) (fun f => Q .ret (St4 f)) c b a d e := by
 have h : ∀ (D L : DT α), denJ D L Js C cd2 (blkQ C 1 (sq D L Js C cd1 (lq C 6 next Q))) (St2 c b a d e) =
    if (decide (a < (b.length : Int))) = true then
     if 0 <= a /\ a < (b.length : Int) then
      D cd3 (blkQ C 1 (sq D L Js C cd1 (lq C 6 next Q))) (St3 c b a d (List.getD b (Int.toNat a) 0))
     else none
    else
     D cd3 (blkQ C 1 (sq D L Js C cd1 (lq C 6 next Q))) (St3 c b a d e) := by
  intro D L; kernel_rfl
 have h2 := via (k := k) h
 refine h2.trans ?_
 simp only [j1_eq]
 first | rfl | kernel_rfl
def St5 : St := stL 40 [] []
def l0s (Nx : D4 -> D4 -> Int -> Option α) (Rt : Int -> Option α) (Xt0 : Option α) (b c : D4) (a : Int) : Option α :=
 if (decide (a >= 0)) = true then
  if (decide (a < (b.length : Int))) = true then
   if 0 <= a /\ a < (b.length : Int) then
    j0 Nx Rt b c a (List.getD b (Int.toNat a) 0) 0
   else none
  else
   j0 Nx Rt b c a 0 0
 else
  Xt0
theorem l0s_eq (k : Nat) (next : St -> Option α) (Q : Ex -> St -> Option α) (b c : D4) (a : Int) :
  rnd C k cd0 6 Q next (St1 b c a) = l0s (fun b c a => next (St1 b c a)) (fun d => Q .ret (St4 d)) (Q (.exit 0) St5) b c a := by
 have h : ∀ (D L : DT α), denJ D L Js C cd0 (lq C 6 next Q) (St1 b c a) =
    if (decide (a >= 0)) = true then
     if (decide (a < (b.length : Int))) = true then
      if 0 <= a /\ a < (b.length : Int) then
       D cd2 (blkQ C 1 (sq D L Js C cd1 (lq C 6 next Q))) (St2 b c a (List.getD b (Int.toNat a) 0) 0)
      else none
     else
      D cd2 (blkQ C 1 (sq D L Js C cd1 (lq C 6 next Q))) (St2 b c a 0 0)
    else
     Q (.exit 0) St5 := by
  intro D L; kernel_rfl
 have h2 := via (k := k) h
 refine h2.trans ?_
 simp only [j0_eq]
 first | rfl | kernel_rfl
def l0 (k : Nat) (Rt : Int -> Option α) (Xt0 : Option α) : Nat -> D4 -> D4 -> Int -> Option α
 | 0, _, _, _ => none
 | n + 1, a, b, c => l0s (l0 k Rt Xt0 n) Rt Xt0 a b c
theorem l0_eq (k : Nat) (Q : Ex -> St -> Option α) : ∀ (n : Nat) (a b : D4) (c : Int), iter (rnd C k cd0 6 Q) n (St1 a b c) = l0 k (fun d => Q .ret (St4 d)) (Q (.exit 0) St5) n a b c
 | 0, _, _, _ => rfl
 | n + 1, a, b, c => (iter_succ _ _ _).trans ((l0s_eq k _ Q a b c).trans (congrArg (fun N => l0s N (fun d => Q .ret (St4 d)) (Q (.exit 0) St5) a b c) (by funext; exact l0_eq k Q n _ _ _)))
theorem l0_congr (k : Nat) (Rt : Int -> Option α) (Xt0 : Option α) (Rtq : Int -> Option α) (Xt0q : Option α) (hRt : ∀ (a : Int), Rt a = Rtq a) (hXt0 : Xt0 = Xt0q) (n : Nat) (b c : D4) (d : Int) : l0 k Rt Xt0 n b c d = l0 k Rtq Xt0q n b c d := by
 obtain rfl : Rt = Rtq := by funext a; exact hRt a
 obtain rfl : Xt0 = Xt0q := hXt0
 rfl
noncomputable def cd4 : Code := cR (cR (cB Try.f114))
def St6 : St := stL 40 [] []
def j2 (Rt : Int -> Option α) : Option α :=
 Rt 0
theorem j2_eq (k : Nat) (Q : Ex -> St -> Option α) :
  (den C k) cd4 Q St6 = j2 (fun a => Q .ret (St4 a)) := plainly Js (by kernel_rfl)
theorem a0 (k : Nat) (Q : Ex -> St -> Option α) (c d : D4) (e : Int) :
  (lp C k) cd0 (blkQ C 0 (sq (den C k) (lp C k) Js C cd4 Q)) (St1 c d e) = l0 k (fun a => (fun a => Q .ret (St4 a)) a) (j2 (fun a => Q .ret (St4 a))) k c d e :=
 (lp_iter 6 (by kernel_rfl)).trans ((l0_eq k _ k c d e).trans (l0_congr k _ _ _ _ (fun a => (by kernel_rfl)) (Eq.trans (b := (den C k) cd4 Q St6) (by kernel_rfl) (by simp only [j2_eq])) k c d e))
def top (k : Nat) (Rt : Int -> Option α) (a b : D4) : Option α :=
 l0 k (fun c => Rt c) (j2 Rt) k a b (IntKind.i64.wrap ((if (b.length : Int) > (a.length : Int) then (b.length : Int) else (a.length : Int)) - 1))
theorem top_eq (k : Nat) (Q : Ex -> St -> Option α) (a b : D4) :
  (den C k) (cB Try.f114) Q (St0 a b) = top k (fun c => Q .ret (St4 c)) a b := by
 have h : ∀ (D L : DT α), denJ D L Js C (cB Try.f114) Q (St0 a b) =
    L cd0 (blkQ C 0 (sq D L Js C cd4 Q)) (St1 a b (IntKind.i64.wrap ((if (b.length : Int) > (a.length : Int) then (b.length : Int) else (a.length : Int)) - 1))) := by
  intro D L; kernel_rfl
 have h2 := via (k := k) h
 refine h2.trans ?_
 simp only [a0]
 first | rfl | kernel_rfl
def run (a b : D4) : Option (Int) := top (α := Int) fuel (fun c => some c) a b
def F : Fn := ⟨T81, T1, false, fun x => run x.1 x.2.1⟩
theorem con : Con Try.prog 114 F /\ Named Try.prog 114 :=
 con_of2 (C := C) (ctx_ok (by kernel_rfl) (by kernel_rfl) (by kernel_rfl) (by kernel_rfl) trivial) (by kernel_rfl) Try.func114 (by kernel_rfl) (c := cB Try.f114) (by kernel_rfl) (by kernel_rfl) F (fun x => by simp [F, spread, Try.ntmps114]) (fun x => (St0 x.1 x.2.1)) (fun x => by kernel_rfl) fun x => (top_eq fuel _ x.1 x.2.1).trans (by kernel_rfl)
end Go.Bx.basculeref_compare
namespace Go.Bx.basculeref_big
def Js : List Nat := [8]
def C : Ctx := ⟨[(3, T1), (5, T18), (9, .str), (22, T36), (29, T16)], [], [], fnL [], noSh, [], invL [], [(2, [4]), (1, [5]), (4, [0, 5, 6, 7]), (9, [0, 5, 6, 7]), (21, [5])], [], [], 0, 0⟩
def St0 (a b : Int) : St := stL 19 [(0, .data T36 a), (1, .data T1 b)] []
def St1 (a : Int) (b : D4) (c d : Int) : St := stL 19 [(0, .data T36 a), (5, .data .str b), (6, .data T1 c), (7, .data T1 d)] []
noncomputable def cd0 : Code := cL (cL (cR (cL (cR (cR (cB Try.f26))))))
def St2 (a : D4) : St := stL 19 [(5, .data .str a)] []
def l0s (Nx : Int -> D4 -> Int -> Int -> Option α) (Xt0 : D4 -> Option α) (b : Int) (a : D4) (c d : Int) : Option α :=
 if (decide (d < c)) = true then
  if Nat.ble (1 + a.length) 9223372036854775807 = true then
   Nx (shrI .u64 b 8) ([(IntKind.u8.wrap b)] ++ a) c (IntKind.i64.wrap (d + 1))
  else none
 else
  Xt0 a
theorem l0s_eq (k : Nat) (next : St -> Option α) (Q : Ex -> St -> Option α) (b : Int) (a : D4) (c d : Int) :
  rnd C k cd0 9 Q next (St1 b a c d) = l0s (fun b a c d => next (St1 b a c d)) (fun a => Q (.exit 0) (St2 a)) b a c d := plainly Js (by kernel_rfl)
def l0 (k : Nat) (Xt0 : D4 -> Option α) : Nat -> Int -> D4 -> Int -> Int -> Option α
 | 0, _, _, _, _ => none
 | n + 1, a, b, c, d => l0s (l0 k Xt0 n) Xt0 a b c d
theorem l0_eq (k : Nat) (Q : Ex -> St -> Option α) : ∀ (n : Nat) (b : Int) (a : D4) (c d : Int), iter (rnd C k cd0 9 Q) n (St1 b a c d) = l0 k (fun a => Q (.exit 0) (St2 a)) n b a c d
 | 0, _, _, _, _ => rfl
 | n + 1, b, a, c, d => (iter_succ _ _ _).trans ((l0s_eq k _ Q b a c d).trans (congrArg (fun N => l0s N (fun a => Q (.exit 0) (St2 a)) b a c d) (by funext; exact l0_eq k Q n _ _ _ _)))
noncomputable def cd1 : Code := cR (cR (cR (cB Try.f26)))
def St3 (a : D4) : St := stL 19 [(5, .data .str a)] []
def St4 (a : D4) : St := stL 19 [(4, .data .str a)] []
def j0 (Rt : D4 -> Option α) (a : D4) : Option α :=
 Rt a
theorem j0_eq (k : Nat) (Q : Ex -> St -> Option α) (a : D4) :
  (den C k) cd1 Q (St3 a) = j0 (fun b => Q .ret (St4 b)) a := plainly Js (by kernel_rfl)
theorem a0 (k : Nat) (Q : Ex -> St -> Option α) (c : Int) (a : D4) (d e : Int) :
  (lp C k) cd0 (blkQ C 0 (sq (den C k) (lp C k) Js C cd1 Q)) (St1 c a d e) = l0 k (fun a => j0 (fun f => Q .ret (St4 f)) a) k c a d e :=
 (lp_iter 9 (by kernel_rfl)).trans ((l0_eq k _ k c a d e).trans (congrArg (fun X => l0 k X k c a d e) (funext fun a => (Eq.trans (b := (den C k) cd1 Q (St3 a)) (by kernel_rfl) (by simp only [j0_eq])))))
def top (k : Nat) (Rt : D4 -> Option α) (a b : Int) : Option α :=
 l0 k (fun c => j0 Rt c) k a [] b 0
theorem top_eq (k : Nat) (Q : Ex -> St -> Option α) (a b : Int) :
  (den C k) (cB Try.f26) Q (St0 a b) = top k (fun c => Q .ret (St4 c)) a b := by
 have h : ∀ (D L : DT α), denJ D L Js C (cB Try.f26) Q (St0 a b) =
    L cd0 (blkQ C 0 (sq D L Js C cd1 Q)) (St1 a [] b 0) := by
  intro D L; kernel_rfl
 have h2 := via (k := k) h
 refine h2.trans ?_
 simp only [a0]
 first | rfl | kernel_rfl
def run (a b : Int) : Option D4 := top (α := List Int) fuel (fun c => some c) a b
def F : Fn := ⟨T37, .str, false, fun x => run x.1 x.2.1⟩
theorem con : Con Try.prog 26 F /\ Named Try.prog 26 :=
 con_of2 (C := C) (ctx_ok (by kernel_rfl) (by kernel_rfl) (by kernel_rfl) (by kernel_rfl) trivial) (by kernel_rfl) Try.func26 (by kernel_rfl) (c := cB Try.f26) (by kernel_rfl) (by kernel_rfl) F (fun x => by simp [F, spread, Try.ntmps26]) (fun x => (St0 x.1 x.2.1)) (fun x => by kernel_rfl) fun x => (top_eq fuel _ x.1 x.2.1).trans (by kernel_rfl)
end Go.Bx.basculeref_big
namespace Go.Bx.basculeref_word
def Js : List Nat := [7]
def C : Ctx := ⟨[(5, T18), (9, .str), (38, T17)], [], [], fnL [], noSh, [], invL [], [(2, [2]), (1, [2, 3]), (4, [0, 2, 3, 4]), (9, [0, 2, 3, 4]), (18, [2, 3])], [], [], 0, 0⟩
def St0 (a : D4) : St := stL 21 [(0, .data .str a)] []
def St1 (a : D4) (b : Int) (c d : D4) : St := stL 21 [(0, .data .str a), (2, .ref 2 0 []), (3, .ref 3 0 []), (4, .data T1 b)] [(2, .cell T17 (.data T17 c) false), (3, .cell T17 (.data T17 d) false)]
noncomputable def cd0 : Code := cL (cL (cR (cL (cR (cR (cB Try.f132))))))
def St2 (a b : D4) : St := stL 21 [(2, .ref 2 0 []), (3, .ref 3 0 [])] [(2, .cell T17 (.data T17 a) false), (3, .cell T17 (.data T17 b) false)]
def l0s (Nx : D4 -> Int -> D4 -> D4 -> Option α) (Xt0 : D4 -> D4 -> Option α) (b : D4) (a : Int) (c d : D4) : Option α :=
 if (cond (decide (a < (b.length : Int))) (decide (a < 32)) false) = true then
  if 0 <= a /\ a < (b.length : Int) then
   if 0 <= a /\ a < (32 : Int) then
    Nx b (IntKind.i64.wrap (a + 1)) c (List.set d (Int.toNat a) (List.getD b (Int.toNat a) 0))
   else none
  else none
 else
  Xt0 c d
theorem l0s_eq (k : Nat) (next : St -> Option α) (Q : Ex -> St -> Option α) (c : D4) (d : Int) (a b : D4) :
  rnd C k cd0 9 Q next (St1 c d a b) = l0s (fun c d a b => next (St1 c d a b)) (fun a b => Q (.exit 0) (St2 a b)) c d a b := plainly Js (by kernel_rfl)
def l0 (k : Nat) (Xt0 : D4 -> D4 -> Option α) : Nat -> D4 -> Int -> D4 -> D4 -> Option α
 | 0, _, _, _, _ => none
 | n + 1, a, b, c, d => l0s (l0 k Xt0 n) Xt0 a b c d
theorem l0_eq (k : Nat) (Q : Ex -> St -> Option α) : ∀ (n : Nat) (c : D4) (d : Int) (a b : D4), iter (rnd C k cd0 9 Q) n (St1 c d a b) = l0 k (fun a b => Q (.exit 0) (St2 a b)) n c d a b
 | 0, _, _, _, _ => rfl
 | n + 1, c, d, a, b => (iter_succ _ _ _).trans ((l0s_eq k _ Q c d a b).trans (congrArg (fun N => l0s N (fun a b => Q (.exit 0) (St2 a b)) c d a b) (by funext; exact l0_eq k Q n _ _ _ _)))
noncomputable def cd1 : Code := cR (cR (cR (cB Try.f132)))
def St3 (a b : D4) : St := stL 21 [(2, .ref 2 0 []), (3, .ref 3 0 [])] [(2, .cell T17 (.data T17 a) false), (3, .cell T17 (.data T17 b) false)]
def St4 (a : D4) : St := stL 21 [(2, .ref 2 0 [])] [(2, .cell T17 (.data T17 a) false)]
def j0 (Rt : D4 -> Option α) (b a : D4) : Option α :=
 Rt a
theorem j0_eq (k : Nat) (Q : Ex -> St -> Option α) (a b : D4) :
  (den C k) cd1 Q (St3 a b) = j0 (fun a => Q .ret (St4 a)) a b := plainly Js (by kernel_rfl)
theorem a0 (k : Nat) (Q : Ex -> St -> Option α) (d : D4) (e : Int) (a c : D4) :
  (lp C k) cd0 (blkQ C 0 (sq (den C k) (lp C k) Js C cd1 Q)) (St1 d e a c) = l0 k (fun a c => j0 (fun a => Q .ret (St4 a)) a c) k d e a c :=
 (lp_iter 9 (by kernel_rfl)).trans ((l0_eq k _ k d e a c).trans (congrArg (fun X => l0 k X k d e a c) (funext fun a => funext fun c => (Eq.trans (b := (den C k) cd1 Q (St3 a c)) (by kernel_rfl) (by simp only [j0_eq])))))
def top (k : Nat) (Rt : D4 -> Option α) (a : D4) : Option α :=
 l0 k (fun b c => j0 Rt b c) k a 0 (List.replicate 32 0) (List.replicate 32 0)
theorem top_eq (k : Nat) (Q : Ex -> St -> Option α) (a : D4) :
  (den C k) (cB Try.f132) Q (St0 a) = top k (fun b => Q .ret (St4 b)) a := by
 have h : ∀ (D L : DT α), denJ D L Js C (cB Try.f132) Q (St0 a) =
    L cd0 (blkQ C 0 (sq D L Js C cd1 Q)) (St1 a 0 (List.replicate 32 0) (List.replicate 32 0)) := by
  intro D L; kernel_rfl
 have h2 := via (k := k) h
 refine h2.trans ?_
 simp only [a0]
 first | rfl | kernel_rfl
def run (a : D4) : Option D4 := top (α := List Int) fuel (fun b => some b) a
def F : Fn := ⟨T120, T17, false, fun x => run x.1⟩
theorem con : Con Try.prog 132 F /\ Named Try.prog 132 :=
 con_of2 (C := C) (ctx_ok (by kernel_rfl) (by kernel_rfl) (by kernel_rfl) (by kernel_rfl) trivial) (by kernel_rfl) Try.func132 (by kernel_rfl) (c := cB Try.f132) (by kernel_rfl) (by kernel_rfl) F (fun x => by simp [F, spread, Try.ntmps132]) (fun x => (St0 x.1)) (fun x => by kernel_rfl) fun x => (top_eq fuel _ x.1).trans (by kernel_rfl)
end Go.Bx.basculeref_word
namespace Go.Bx.basculeref_number
def Js : List Nat := [7]
def C : Ctx := ⟨[(3, T1), (5, T18), (9, .str), (22, T36)], [], [], fnL [], noSh, [], invL [], [(2, [2]), (1, [3]), (4, [0, 3, 4]), (9, [0, 3, 4]), (18, [3])], [], [], 0, 0⟩
def St0 (a : D4) : St := stL 20 [(0, .data .str a)] []
def St1 (a : D4) (b c : Int) : St := stL 20 [(0, .data .str a), (3, .data T36 b), (4, .data T1 c)] []
noncomputable def cd0 : Code := cL (cL (cR (cL (cR (cR (cB Try.f70))))))
def St2 (a : Int) : St := stL 20 [(3, .data T36 a)] []
def l0s (Nx : D4 -> Int -> Int -> Option α) (Xt0 : Int -> Option α) (b : D4) (c a : Int) : Option α :=
 if (decide (a < (b.length : Int))) = true then
  if 0 <= a /\ a < (b.length : Int) then
   Nx b (IntKind.u64.wrap ((IntKind.u64.wrap (c * 256)) + (IntKind.u64.wrap (List.getD b (Int.toNat a) 0)))) (IntKind.i64.wrap (a + 1))
  else none
 else
  Xt0 c
theorem l0s_eq (k : Nat) (next : St -> Option α) (Q : Ex -> St -> Option α) (b : D4) (a c : Int) :
  rnd C k cd0 9 Q next (St1 b a c) = l0s (fun b a c => next (St1 b a c)) (fun a => Q (.exit 0) (St2 a)) b a c := plainly Js (by kernel_rfl)
def l0 (k : Nat) (Xt0 : Int -> Option α) : Nat -> D4 -> Int -> Int -> Option α
 | 0, _, _, _ => none
 | n + 1, a, b, c => l0s (l0 k Xt0 n) Xt0 a b c
theorem l0_eq (k : Nat) (Q : Ex -> St -> Option α) : ∀ (n : Nat) (b : D4) (a c : Int), iter (rnd C k cd0 9 Q) n (St1 b a c) = l0 k (fun a => Q (.exit 0) (St2 a)) n b a c
 | 0, _, _, _ => rfl
 | n + 1, b, a, c => (iter_succ _ _ _).trans ((l0s_eq k _ Q b a c).trans (congrArg (fun N => l0s N (fun a => Q (.exit 0) (St2 a)) b a c) (by funext; exact l0_eq k Q n _ _ _)))
noncomputable def cd1 : Code := cR (cR (cR (cB Try.f70)))
def St3 (a : Int) : St := stL 20 [(3, .data T36 a)] []
def St4 (a : Int) : St := stL 20 [(2, .data T1 a)] []
def j0 (Rt : Int -> Option α) (a : Int) : Option α :=
 Rt (IntKind.i64.wrap a)
theorem j0_eq (k : Nat) (Q : Ex -> St -> Option α) (a : Int) :
  (den C k) cd1 Q (St3 a) = j0 (fun b => Q .ret (St4 b)) a := plainly Js (by kernel_rfl)
theorem a0 (k : Nat) (Q : Ex -> St -> Option α) (c : D4) (a d : Int) :
  (lp C k) cd0 (blkQ C 0 (sq (den C k) (lp C k) Js C cd1 Q)) (St1 c a d) = l0 k (fun a => j0 (fun e => Q .ret (St4 e)) a) k c a d :=
 (lp_iter 9 (by kernel_rfl)).trans ((l0_eq k _ k c a d).trans (congrArg (fun X => l0 k X k c a d) (funext fun a => (Eq.trans (b := (den C k) cd1 Q (St3 a)) (by kernel_rfl) (by simp only [j0_eq])))))
def top (k : Nat) (Rt : Int -> Option α) (a : D4) : Option α :=
 l0 k (fun b => j0 Rt b) k a 0 0
theorem top_eq (k : Nat) (Q : Ex -> St -> Option α) (a : D4) :
  (den C k) (cB Try.f70) Q (St0 a) = top k (fun b => Q .ret (St4 b)) a := by
 have h : ∀ (D L : DT α), denJ D L Js C (cB Try.f70) Q (St0 a) =
    L cd0 (blkQ C 0 (sq D L Js C cd1 Q)) (St1 a 0 0) := by
  intro D L; kernel_rfl
 have h2 := via (k := k) h
 refine h2.trans ?_
 simp only [a0]
 first | rfl | kernel_rfl
def run (a : D4) : Option (Int) := top (α := Int) fuel (fun b => some b) a
def F : Fn := ⟨T120, T1, false, fun x => run x.1⟩
theorem con : Con Try.prog 70 F /\ Named Try.prog 70 :=
 con_of2 (C := C) (ctx_ok (by kernel_rfl) (by kernel_rfl) (by kernel_rfl) (by kernel_rfl) trivial) (by kernel_rfl) Try.func70 (by kernel_rfl) (c := cB Try.f70) (by kernel_rfl) (by kernel_rfl) F (fun x => by simp [F, spread, Try.ntmps70]) (fun x => (St0 x.1)) (fun x => by kernel_rfl) fun x => (top_eq fuel _ x.1).trans (by kernel_rfl)
end Go.Bx.basculeref_number
namespace Go.Bx.paper_Check_1
def Js : List Nat := []
def C : Ctx := ⟨[(3, T1), (4, .bool)], [], [], fnL [], noSh, [], invL [], [(2, [4])], [], [], 0, 0⟩
def St0 (a b : Int) : St := stL 12 [(0, .data T1 a), (1, .data T1 b)] []
def St1 (a : Bool) : St := stL 12 [(4, .data .bool a)] []
def top (Rt : Bool -> Option α) (a b : Int) : Option α :=
 Rt (cond (decide (a >= 0)) (decide (a <= b)) false)
theorem top_eq (k : Nat) (Q : Ex -> St -> Option α) (a b : Int) :
  (den C k) (cB Try.f162) Q (St0 a b) = top (fun c => Q .ret (St1 c)) a b := plainly Js (by kernel_rfl)
def run (a b : Int) : Option (Bool) := top (α := Bool) (fun c => some c) a b
def F : Fn := ⟨T34, .bool, false, fun x => run x.1 x.2.1⟩
theorem con : Con Try.prog 162 F /\ Named Try.prog 162 :=
 con_of2 (C := C) (ctx_ok (by kernel_rfl) (by kernel_rfl) (by kernel_rfl) (by kernel_rfl) trivial) (by kernel_rfl) Try.func162 (by kernel_rfl) (c := cB Try.f162) (by kernel_rfl) (by kernel_rfl) F (fun x => by simp [F, spread, Try.ntmps162]) (fun x => (St0 x.1 x.2.1)) (fun x => by kernel_rfl) fun x => (top_eq fuel _ x.1 x.2.1).trans (by kernel_rfl)
end Go.Bx.paper_Check_1
namespace Go.Bx.paper_Check
def Js : List Nat := []
def C : Ctx := ⟨[(3, T1), (29, T16), (35, T1), (40, T2)], [], [], fnL [(162, paper_Check_1.F)], noSh, [], invL [], [(2, [2])], [], [], 0, 0⟩
def St0 (a : D0) : St := stL 41 [(0, .data T2 a)] []
def St1 (a : Int) : St := stL 41 [(2, .data T1 a)] []
def top (Rt : Int -> Option α) (a : D0) : Option α :=
 (paper_Check_1.run a.1 1099511627776).bind fun b =>
 (if ((not b) == false) = true then paper_Check_1.run a.2.1 4294967295 else some false).bind fun c =>
 (if ((cond (not b) true (not c)) == false) = true then paper_Check_1.run a.2.2.1 65535 else some false).bind fun d =>
 (if ((cond (cond (not b) true (not c)) true (not d)) == false) = true then paper_Check_1.run a.2.2.2.2.1 1099511627776 else some false).bind fun e =>
 (if ((cond (cond (cond (not b) true (not c)) true (not d)) true (not e)) == false) = true then paper_Check_1.run a.2.2.2.2.2.1 255 else some false).bind fun f =>
 if (cond (cond (cond (cond (not b) true (not c)) true (not d)) true (not e)) true (not f)) = true then
  Rt 6
 else
  if (decide ((a.2.2.2.2.2.2.1.length : Int) > 300)) = true then
   Rt 1
  else
   Rt 0
theorem top_eq (k : Nat) (Q : Ex -> St -> Option α) (a : D0) :
  (den C k) (cB Try.f153) Q (St0 a) = top (fun b => Q .ret (St1 b)) a := plainly Js (by kernel_rfl)
def run (a : D0) : Option (Int) := top (α := Int) (fun b => some b) a
def F : Fn := ⟨T3, T1, false, fun x => run x.1⟩
theorem con : Con Try.prog 153 F /\ Named Try.prog 153 :=
 con_of2 (C := C) (ctx_ok (by kernel_rfl) (by kernel_rfl) (by kernel_rfl) (by kernel_rfl) ⟨.inl paper_Check_1.con, trivial⟩) (by kernel_rfl) Try.func153 (by kernel_rfl) (c := cB Try.f153) (by kernel_rfl) (by kernel_rfl) F (fun x => by simp [F, spread, Try.ntmps153]) (fun x => (St0 x.1)) (fun x => by kernel_rfl) fun x => (top_eq fuel _ x.1).trans (by kernel_rfl)
end Go.Bx.paper_Check
namespace Go.Bx.basculeref_upTo
def Js : List Nat := []
def C : Ctx := ⟨[(3, T1), (4, .bool)], [], [], fnL [], noSh, [], invL [], [(2, [4])], [], [], 0, 0⟩
def St0 (a b : Int) : St := stL 12 [(0, .data T1 a), (1, .data T1 b)] []
def St1 (a : Bool) : St := stL 12 [(4, .data .bool a)] []
def top (Rt : Bool -> Option α) (a b : Int) : Option α :=
 Rt (cond (decide (0 <= a)) (decide (a <= b)) false)
theorem top_eq (k : Nat) (Q : Ex -> St -> Option α) (a b : Int) :
  (den C k) (cB Try.f149) Q (St0 a b) = top (fun c => Q .ret (St1 c)) a b := plainly Js (by kernel_rfl)
def run (a b : Int) : Option (Bool) := top (α := Bool) (fun c => some c) a b
def F : Fn := ⟨T34, .bool, false, fun x => run x.1 x.2.1⟩
theorem con : Con Try.prog 149 F /\ Named Try.prog 149 :=
 con_of2 (C := C) (ctx_ok (by kernel_rfl) (by kernel_rfl) (by kernel_rfl) (by kernel_rfl) trivial) (by kernel_rfl) Try.func149 (by kernel_rfl) (c := cB Try.f149) (by kernel_rfl) (by kernel_rfl) F (fun x => by simp [F, spread, Try.ntmps149]) (fun x => (St0 x.1 x.2.1)) (fun x => by kernel_rfl) fun x => (top_eq fuel _ x.1 x.2.1).trans (by kernel_rfl)
end Go.Bx.basculeref_upTo
namespace Go.Bx.basculeref_BodyFault
def Js : List Nat := [8]
def C : Ctx := ⟨[(3, T1), (29, T16), (35, T1), (40, T2), (176, T118), (177, T119)], [], [], fnL [(149, basculeref_upTo.F)], noSh, [], invL [], [(2, [2]), (1, [1]), (4, [1, 20, 21, 22]), (6, [1, 20, 21, 22]), (21, [1])], [], [], 0, 0⟩
def St0 (a : D0) : St := stL 37 [(0, .data T2 a)] []
def St1 (a : D21) (b c : Int) (d : D0) : St := stL 37 [(1, .ref 1 0 []), (20, .full T118 a), (21, .data T1 b), (22, .data T1 c)] [(1, .cell T2 (.data T2 d) false)]
noncomputable def cd0 : Code := cL (cL (cR (cL (cR (cB Try.f117)))))
def St2 (a : Int) : St := stL 37 [(2, .data T1 a)] []
def St3 (a : D0) : St := stL 37 [(1, .ref 1 0 [])] [(1, .cell T2 (.data T2 a) false)]
def l0s (Nx : D21 -> Int -> Int -> D0 -> Option α) (Rt : Int -> Option α) (Xt0 : D0 -> Option α) (b : D21) (c a : Int) (d : D0) : Option α :=
 if (decide (a < c)) = true then
  if 0 <= a /\ a < (b.length : Int) then
   (basculeref_upTo.run (List.getD (List.getD b (Int.toNat a) [0, 0]) 0 0) (List.getD (List.getD b (Int.toNat a) [0, 0]) 1 0)).bind fun e =>
   if (not e) = true then
    Rt 6
   else
    Nx b c (IntKind.i64.wrap (a + 1)) d
  else none
 else
  Xt0 d
theorem l0s_eq (k : Nat) (next : St -> Option α) (Q : Ex -> St -> Option α) (b : D21) (c d : Int) (a : D0) :
  rnd C k cd0 6 Q next (St1 b c d a) = l0s (fun b c d a => next (St1 b c d a)) (fun e => Q .ret (St2 e)) (fun a => Q (.exit 0) (St3 a)) b c d a := plainly Js (by kernel_rfl)
def l0 (k : Nat) (Rt : Int -> Option α) (Xt0 : D0 -> Option α) : Nat -> D21 -> Int -> Int -> D0 -> Option α
 | 0, _, _, _, _ => none
 | n + 1, a, b, c, d => l0s (l0 k Rt Xt0 n) Rt Xt0 a b c d
theorem l0_eq (k : Nat) (Q : Ex -> St -> Option α) : ∀ (n : Nat) (b : D21) (c d : Int) (a : D0), iter (rnd C k cd0 6 Q) n (St1 b c d a) = l0 k (fun e => Q .ret (St2 e)) (fun a => Q (.exit 0) (St3 a)) n b c d a
 | 0, _, _, _, _ => rfl
 | n + 1, b, c, d, a => (iter_succ _ _ _).trans ((l0s_eq k _ Q b c d a).trans (congrArg (fun N => l0s N (fun e => Q .ret (St2 e)) (fun a => Q (.exit 0) (St3 a)) b c d a) (by funext; exact l0_eq k Q n _ _ _ _)))
theorem l0_congr (k : Nat) (Rt : Int -> Option α) (Xt0 : D0 -> Option α) (Rtq : Int -> Option α) (Xt0q : D0 -> Option α) (hRt : ∀ (b : Int), Rt b = Rtq b) (hXt0 : ∀ (a : D0), Xt0 a = Xt0q a) (n : Nat) (c : D21) (d e : Int) (a : D0) : l0 k Rt Xt0 n c d e a = l0 k Rtq Xt0q n c d e a := by
 obtain rfl : Rt = Rtq := by funext b; exact hRt b
 obtain rfl : Xt0 = Xt0q := by funext a; exact hXt0 a
 rfl
noncomputable def cd1 : Code := cR (cR (cB Try.f117))
def St4 (a : D0) : St := stL 37 [(1, .ref 1 0 [])] [(1, .cell T2 (.data T2 a) false)]
def j0 (Rt : Int -> Option α) (a : D0) : Option α :=
 if (decide ((a.2.2.2.2.2.2.1.length : Int) > 300)) = true then
  Rt 1
 else
  Rt 0
theorem j0_eq (k : Nat) (Q : Ex -> St -> Option α) (a : D0) :
  (den C k) cd1 Q (St4 a) = j0 (fun b => Q .ret (St2 b)) a := plainly Js (by kernel_rfl)
theorem a0 (k : Nat) (Q : Ex -> St -> Option α) (d : D21) (e f : Int) (a : D0) :
  (lp C k) cd0 (blkQ C 0 (sq (den C k) (lp C k) Js C cd1 Q)) (St1 d e f a) = l0 k (fun c => (fun c => Q .ret (St2 c)) c) (fun a => j0 (fun c => Q .ret (St2 c)) a) k d e f a :=
 (lp_iter 6 (by kernel_rfl)).trans ((l0_eq k _ k d e f a).trans (l0_congr k _ _ _ _ (fun c => (by kernel_rfl)) (fun a => (Eq.trans (b := (den C k) cd1 Q (St4 a)) (by kernel_rfl) (by simp only [j0_eq]))) k d e f a))
def top (k : Nat) (Rt : Int -> Option α) (a : D0) : Option α :=
 l0 k (fun b => Rt b) (fun c => j0 Rt c) k [[a.1, 1099511627776], [a.2.1, 4294967295], [a.2.2.1, 65535], [a.2.2.2.2.1, 1099511627776], [a.2.2.2.2.2.1, 255]] 5 0 a
theorem top_eq (k : Nat) (Q : Ex -> St -> Option α) (a : D0) :
  (den C k) (cB Try.f117) Q (St0 a) = top k (fun b => Q .ret (St2 b)) a := by
 have h : ∀ (D L : DT α), denJ D L Js C (cB Try.f117) Q (St0 a) =
    L cd0 (blkQ C 0 (sq D L Js C cd1 Q)) (St1 [[a.1, 1099511627776], [a.2.1, 4294967295], [a.2.2.1, 65535], [a.2.2.2.2.1, 1099511627776], [a.2.2.2.2.2.1, 255]] 5 0 a) := by
  intro D L; kernel_rfl
 have h2 := via (k := k) h
 refine h2.trans ?_
 simp only [a0]
 first | rfl | kernel_rfl
def run (a : D0) : Option (Int) := top (α := Int) fuel (fun b => some b) a
def F : Fn := ⟨T3, T1, false, fun x => run x.1⟩
theorem con : Con Try.prog 117 F /\ Named Try.prog 117 :=
 con_of2 (C := C) (ctx_ok (by kernel_rfl) (by kernel_rfl) (by kernel_rfl) (by kernel_rfl) ⟨.inl basculeref_upTo.con, trivial⟩) (by kernel_rfl) Try.func117 (by kernel_rfl) (c := cB Try.f117) (by kernel_rfl) (by kernel_rfl) F (fun x => by simp [F, spread, Try.ntmps117]) (fun x => (St0 x.1)) (fun x => by kernel_rfl) fun x => (top_eq fuel _ x.1).trans (by kernel_rfl)
end Go.Bx.basculeref_BodyFault
namespace Go.Bx.paper_fault
def Js : List Nat := [12]
def C : Ctx := ⟨[(3, T1), (35, T1), (40, T2), (49, T66), (100, T125), (102, T126), (155, T127)], [], [], fnL [(153, paper_Check.F)], noSh, [], invL [], [(2, [2]), (1, [1]), (4, [1, 18, 19, 20]), (18, [1, 18, 19, 20]), (33, [1])], [], [], 0, 0⟩
def St0 (a : D50) : St := stL 48 [(0, .data T126 a)] []
def St1 (a : Int) : St := stL 48 [(2, .data T1 a)] []
def St2 (a : D51) (b c : Int) (d : D50) : St := stL 48 [(1, .ref 1 0 []), (18, .data T125 a), (19, .data T1 b), (20, .data T1 c)] [(1, .cell T126 (.data T126 d) false)]
noncomputable def cd0 : Code := cL (cL (cR (cL (cR (cR (cR (cB Try.f125)))))))
def St3 (a : D50) : St := stL 48 [(1, .ref 1 0 [])] [(1, .cell T126 (.data T126 a) false)]
def l0s (Nx : D51 -> Int -> Int -> D50 -> Option α) (Rt : Int -> Option α) (Xt0 : D50 -> Option α) (b : D51) (c a : Int) (d : D50) : Option α :=
 if (decide (a < c)) = true then
  if 0 <= a /\ a < (b.length : Int) then
   if (cond (cond (cond (decide ((List.getD b (Int.toNat a) (0, ([0, 0, 0, 0], [0, 0, 0, 0], 0, ()), ())).1 < 0)) true (decide ((List.getD b (Int.toNat a) (0, ([0, 0, 0, 0], [0, 0, 0, 0], 0, ()), ())).1 > 255))) true (decide ((List.getD b (Int.toNat a) (0, ([0, 0, 0, 0], [0, 0, 0, 0], 0, ()), ())).2.1.2.2.1 < 0))) true (decide ((List.getD b (Int.toNat a) (0, ([0, 0, 0, 0], [0, 0, 0, 0], 0, ()), ())).2.1.2.2.1 > 255))) = true then
    Rt 6
   else
    Nx b c (IntKind.i64.wrap (a + 1)) d
  else none
 else
  Xt0 d
theorem l0s_eq (k : Nat) (next : St -> Option α) (Q : Ex -> St -> Option α) (b : D51) (c d : Int) (a : D50) :
  rnd C k cd0 18 Q next (St2 b c d a) = l0s (fun b c d a => next (St2 b c d a)) (fun e => Q .ret (St1 e)) (fun a => Q (.exit 0) (St3 a)) b c d a := plainly Js (by kernel_rfl)
def l0 (k : Nat) (Rt : Int -> Option α) (Xt0 : D50 -> Option α) : Nat -> D51 -> Int -> Int -> D50 -> Option α
 | 0, _, _, _, _ => none
 | n + 1, a, b, c, d => l0s (l0 k Rt Xt0 n) Rt Xt0 a b c d
theorem l0_eq (k : Nat) (Q : Ex -> St -> Option α) : ∀ (n : Nat) (b : D51) (c d : Int) (a : D50), iter (rnd C k cd0 18 Q) n (St2 b c d a) = l0 k (fun e => Q .ret (St1 e)) (fun a => Q (.exit 0) (St3 a)) n b c d a
 | 0, _, _, _, _ => rfl
 | n + 1, b, c, d, a => (iter_succ _ _ _).trans ((l0s_eq k _ Q b c d a).trans (congrArg (fun N => l0s N (fun e => Q .ret (St1 e)) (fun a => Q (.exit 0) (St3 a)) b c d a) (by funext; exact l0_eq k Q n _ _ _ _)))
theorem l0_congr (k : Nat) (Rt : Int -> Option α) (Xt0 : D50 -> Option α) (Rtq : Int -> Option α) (Xt0q : D50 -> Option α) (hRt : ∀ (b : Int), Rt b = Rtq b) (hXt0 : ∀ (a : D50), Xt0 a = Xt0q a) (n : Nat) (c : D51) (d e : Int) (a : D50) : l0 k Rt Xt0 n c d e a = l0 k Rtq Xt0q n c d e a := by
 obtain rfl : Rt = Rtq := by funext b; exact hRt b
 obtain rfl : Xt0 = Xt0q := by funext a; exact hXt0 a
 rfl
noncomputable def cd1 : Code := cR (cR (cR (cR (cB Try.f125))))
def St4 (a : D50) : St := stL 48 [(1, .ref 1 0 [])] [(1, .cell T126 (.data T126 a) false)]
def j0 (Rt : Int -> Option α) (a : D50) : Option α :=
 (paper_Check.run a.2.2.1).bind fun b =>
 Rt b
theorem j0_eq (k : Nat) (Q : Ex -> St -> Option α) (a : D50) :
  (den C k) cd1 Q (St4 a) = j0 (fun b => Q .ret (St1 b)) a := plainly Js (by kernel_rfl)
theorem a0 (k : Nat) (Q : Ex -> St -> Option α) (d : D51) (e f : Int) (a : D50) :
  (lp C k) cd0 (blkQ C 0 (sq (den C k) (lp C k) Js C cd1 Q)) (St2 d e f a) = l0 k (fun c => (fun c => Q .ret (St1 c)) c) (fun a => j0 (fun c => Q .ret (St1 c)) a) k d e f a :=
 (lp_iter 18 (by kernel_rfl)).trans ((l0_eq k _ k d e f a).trans (l0_congr k _ _ _ _ (fun c => (by kernel_rfl)) (fun a => (Eq.trans (b := (den C k) cd1 Q (St4 a)) (by kernel_rfl) (by simp only [j0_eq]))) k d e f a))
def top (k : Nat) (Rt : Int -> Option α) (a : D50) : Option α :=
 if (cond (decide (a.1 < 0)) true (decide (a.1 > 4294967295))) = true then
  Rt 6
 else
  if (decide ((a.2.1.length : Int) > 19)) = true then
   Rt 1
  else
   l0 k (fun b => Rt b) (fun c => j0 Rt c) k a.2.1 (a.2.1.length : Int) 0 a
theorem top_eq (k : Nat) (Q : Ex -> St -> Option α) (a : D50) :
  (den C k) (cB Try.f125) Q (St0 a) = top k (fun b => Q .ret (St1 b)) a := by
 have h : ∀ (D L : DT α), denJ D L Js C (cB Try.f125) Q (St0 a) =
    if (cond (decide (a.1 < 0)) true (decide (a.1 > 4294967295))) = true then
     Q .ret (St1 6)
    else
     if (decide ((a.2.1.length : Int) > 19)) = true then
      Q .ret (St1 1)
     else
      L cd0 (blkQ C 0 (sq D L Js C cd1 Q)) (St2 a.2.1 (a.2.1.length : Int) 0 a) := by
  intro D L; kernel_rfl
 have h2 := via (k := k) h
 refine h2.trans ?_
 simp only [a0]
 first | rfl | kernel_rfl
def run (a : D50) : Option (Int) := top (α := Int) fuel (fun b => some b) a
def F : Fn := ⟨T128, T1, false, fun x => run x.1⟩
theorem con : Con Try.prog 125 F /\ Named Try.prog 125 :=
 con_of2 (C := C) (ctx_ok (by kernel_rfl) (by kernel_rfl) (by kernel_rfl) (by kernel_rfl) ⟨.inl paper_Check.con, trivial⟩) (by kernel_rfl) Try.func125 (by kernel_rfl) (c := cB Try.f125) (by kernel_rfl) (by kernel_rfl) F (fun x => by simp [F, spread, Try.ntmps125]) (fun x => (St0 x.1)) (fun x => by kernel_rfl) fun x => (top_eq fuel _ x.1).trans (by kernel_rfl)
end Go.Bx.paper_fault
namespace Go.Bx.basculeref_PaperFault
def Js : List Nat := [12]
def C : Ctx := ⟨[(3, T1), (35, T1), (40, T2), (49, T66), (100, T125), (102, T126), (155, T127)], [], [], fnL [(117, basculeref_BodyFault.F), (149, basculeref_upTo.F)], noSh, [], invL [], [(2, [2]), (1, [1]), (4, [1, 14, 15, 16]), (18, [1, 14, 15, 16]), (33, [1])], [], [], 0, 0⟩
def St0 (a : D50) : St := stL 35 [(0, .data T126 a)] []
def St1 (a : Int) : St := stL 35 [(2, .data T1 a)] []
def St2 (a : D51) (b c : Int) (d : D50) : St := stL 35 [(1, .ref 1 0 []), (14, .data T125 a), (15, .data T1 b), (16, .data T1 c)] [(1, .cell T126 (.data T126 d) false)]
noncomputable def cd0 : Code := cL (cL (cR (cL (cR (cR (cR (cB Try.f133)))))))
def St3 (a : D50) : St := stL 35 [(1, .ref 1 0 [])] [(1, .cell T126 (.data T126 a) false)]
def l0s (Nx : D51 -> Int -> Int -> D50 -> Option α) (Rt : Int -> Option α) (Xt0 : D50 -> Option α) (b : D51) (c a : Int) (d : D50) : Option α :=
 if (decide (a < c)) = true then
  if 0 <= a /\ a < (b.length : Int) then
   (basculeref_upTo.run (List.getD b (Int.toNat a) (0, ([0, 0, 0, 0], [0, 0, 0, 0], 0, ()), ())).1 255).bind fun e =>
   (if ((not e) == false) = true then basculeref_upTo.run (List.getD b (Int.toNat a) (0, ([0, 0, 0, 0], [0, 0, 0, 0], 0, ()), ())).2.1.2.2.1 255 else some false).bind fun f =>
   if (cond (not e) true (not f)) = true then
    Rt 6
   else
    Nx b c (IntKind.i64.wrap (a + 1)) d
  else none
 else
  Xt0 d
theorem l0s_eq (k : Nat) (next : St -> Option α) (Q : Ex -> St -> Option α) (b : D51) (c d : Int) (a : D50) :
  rnd C k cd0 18 Q next (St2 b c d a) = l0s (fun b c d a => next (St2 b c d a)) (fun e => Q .ret (St1 e)) (fun a => Q (.exit 0) (St3 a)) b c d a := plainly Js (by kernel_rfl)
def l0 (k : Nat) (Rt : Int -> Option α) (Xt0 : D50 -> Option α) : Nat -> D51 -> Int -> Int -> D50 -> Option α
 | 0, _, _, _, _ => none
 | n + 1, a, b, c, d => l0s (l0 k Rt Xt0 n) Rt Xt0 a b c d
theorem l0_eq (k : Nat) (Q : Ex -> St -> Option α) : ∀ (n : Nat) (b : D51) (c d : Int) (a : D50), iter (rnd C k cd0 18 Q) n (St2 b c d a) = l0 k (fun e => Q .ret (St1 e)) (fun a => Q (.exit 0) (St3 a)) n b c d a
 | 0, _, _, _, _ => rfl
 | n + 1, b, c, d, a => (iter_succ _ _ _).trans ((l0s_eq k _ Q b c d a).trans (congrArg (fun N => l0s N (fun e => Q .ret (St1 e)) (fun a => Q (.exit 0) (St3 a)) b c d a) (by funext; exact l0_eq k Q n _ _ _ _)))
theorem l0_congr (k : Nat) (Rt : Int -> Option α) (Xt0 : D50 -> Option α) (Rtq : Int -> Option α) (Xt0q : D50 -> Option α) (hRt : ∀ (b : Int), Rt b = Rtq b) (hXt0 : ∀ (a : D50), Xt0 a = Xt0q a) (n : Nat) (c : D51) (d e : Int) (a : D50) : l0 k Rt Xt0 n c d e a = l0 k Rtq Xt0q n c d e a := by
 obtain rfl : Rt = Rtq := by funext b; exact hRt b
 obtain rfl : Xt0 = Xt0q := by funext a; exact hXt0 a
 rfl
noncomputable def cd1 : Code := cR (cR (cR (cR (cB Try.f133))))
def St4 (a : D50) : St := stL 35 [(1, .ref 1 0 [])] [(1, .cell T126 (.data T126 a) false)]
def j0 (Rt : Int -> Option α) (a : D50) : Option α :=
 (basculeref_BodyFault.run a.2.2.1).bind fun b =>
 Rt b
theorem j0_eq (k : Nat) (Q : Ex -> St -> Option α) (a : D50) :
  (den C k) cd1 Q (St4 a) = j0 (fun b => Q .ret (St1 b)) a := plainly Js (by kernel_rfl)
theorem a0 (k : Nat) (Q : Ex -> St -> Option α) (d : D51) (e f : Int) (a : D50) :
  (lp C k) cd0 (blkQ C 0 (sq (den C k) (lp C k) Js C cd1 Q)) (St2 d e f a) = l0 k (fun c => (fun c => Q .ret (St1 c)) c) (fun a => j0 (fun c => Q .ret (St1 c)) a) k d e f a :=
 (lp_iter 18 (by kernel_rfl)).trans ((l0_eq k _ k d e f a).trans (l0_congr k _ _ _ _ (fun c => (by kernel_rfl)) (fun a => (Eq.trans (b := (den C k) cd1 Q (St4 a)) (by kernel_rfl) (by simp only [j0_eq]))) k d e f a))
def top (k : Nat) (Rt : Int -> Option α) (a : D50) : Option α :=
 (basculeref_upTo.run a.1 4294967295).bind fun b =>
 if (not b) = true then
  Rt 6
 else
  if (decide ((a.2.1.length : Int) > 19)) = true then
   Rt 1
  else
   l0 k (fun c => Rt c) (fun d => j0 Rt d) k a.2.1 (a.2.1.length : Int) 0 a
theorem top_eq (k : Nat) (Q : Ex -> St -> Option α) (a : D50) :
  (den C k) (cB Try.f133) Q (St0 a) = top k (fun b => Q .ret (St1 b)) a := by
 have h : ∀ (D L : DT α), denJ D L Js C (cB Try.f133) Q (St0 a) =
    (basculeref_upTo.run a.1 4294967295).bind fun c =>
    if (not c) = true then
     Q .ret (St1 6)
    else
     if (decide ((a.2.1.length : Int) > 19)) = true then
      Q .ret (St1 1)
     else
      L cd0 (blkQ C 0 (sq D L Js C cd1 Q)) (St2 a.2.1 (a.2.1.length : Int) 0 a) := by
  intro D L; kernel_rfl
 have h2 := via (k := k) h
 refine h2.trans ?_
 simp only [a0]
 first | rfl | kernel_rfl
def run (a : D50) : Option (Int) := top (α := Int) fuel (fun b => some b) a
def F : Fn := ⟨T128, T1, false, fun x => run x.1⟩
theorem con : Con Try.prog 133 F /\ Named Try.prog 133 :=
 con_of2 (C := C) (ctx_ok (by kernel_rfl) (by kernel_rfl) (by kernel_rfl) (by kernel_rfl) ⟨.inl basculeref_BodyFault.con, ⟨.inl basculeref_upTo.con, trivial⟩⟩) (by kernel_rfl) Try.func133 (by kernel_rfl) (c := cB Try.f133) (by kernel_rfl) (by kernel_rfl) F (fun x => by simp [F, spread, Try.ntmps133]) (fun x => (St0 x.1)) (fun x => by kernel_rfl) fun x => (top_eq fuel _ x.1).trans (by kernel_rfl)
end Go.Bx.basculeref_PaperFault
namespace Go.Bx.wide_From
def Js : List Nat := [9]
def C : Ctx := ⟨[(5, T18), (22, T36), (24, T23), (38, T17)], [], [], fnL [], noSh, [], invL [], [(2, [2]), (1, [2, 3]), (4, [2, 3, 7, 8]), (9, [2, 3, 7, 8]), (24, [2, 3])], [], [], 0, 0⟩
def St0 (a : D4) : St := stL 28 [(0, .data T17 a)] []
def St1 (a : D4) (b : Int) (c d : D4) : St := stL 28 [(2, .ref 2 0 []), (3, .ref 3 0 []), (7, .data T17 a), (8, .data T1 b)] [(2, .cell T23 (.data T23 c) false), (3, .cell T23 (.data T23 d) false)]
noncomputable def cd0 : Code := cL (cL (cR (cL (cR (cR (cB Try.f35))))))
def St2 (a b : D4) : St := stL 28 [(2, .ref 2 0 []), (3, .ref 3 0 [])] [(2, .cell T23 (.data T23 a) false), (3, .cell T23 (.data T23 b) false)]
def l0s (Nx : D4 -> Int -> D4 -> D4 -> Option α) (Xt0 : D4 -> D4 -> Option α) (c : D4) (a : Int) (d b : D4) : Option α :=
 if (decide (a < 32)) = true then
  if 0 <= a /\ a < (32 : Int) then
   if 0 <= (IntKind.i64.wrap (Int.tdiv (IntKind.i64.wrap (31 - a)) 8)) /\ (IntKind.i64.wrap (Int.tdiv (IntKind.i64.wrap (31 - a)) 8)) < (4 : Int) then
    if 0 <= (IntKind.i64.wrap (8 * (Int.tmod (IntKind.i64.wrap (31 - a)) 8))) then
     if 0 <= (IntKind.i64.wrap (Int.tdiv (IntKind.i64.wrap (31 - a)) 8)) /\ (IntKind.i64.wrap (Int.tdiv (IntKind.i64.wrap (31 - a)) 8)) < (4 : Int) then
      Nx c (IntKind.i64.wrap (a + 1)) d (List.set b (Int.toNat (IntKind.i64.wrap (Int.tdiv (IntKind.i64.wrap (31 - a)) 8))) (bor .u64 (List.getD b (Int.toNat (IntKind.i64.wrap (Int.tdiv (IntKind.i64.wrap (31 - a)) 8))) 0) (shlI .u64 (IntKind.u64.wrap (List.getD c (Int.toNat a) 0)) (IntKind.i64.wrap (8 * (Int.tmod (IntKind.i64.wrap (31 - a)) 8))))))
     else none
    else none
   else none
  else none
 else
  Xt0 d b
theorem l0s_eq (k : Nat) (next : St -> Option α) (Q : Ex -> St -> Option α) (c : D4) (d : Int) (a b : D4) :
  rnd C k cd0 9 Q next (St1 c d a b) = l0s (fun c d a b => next (St1 c d a b)) (fun a b => Q (.exit 0) (St2 a b)) c d a b := plainly Js (by kernel_rfl)
def l0 (k : Nat) (Xt0 : D4 -> D4 -> Option α) : Nat -> D4 -> Int -> D4 -> D4 -> Option α
 | 0, _, _, _, _ => none
 | n + 1, a, b, c, d => l0s (l0 k Xt0 n) Xt0 a b c d
theorem l0_eq (k : Nat) (Q : Ex -> St -> Option α) : ∀ (n : Nat) (c : D4) (d : Int) (a b : D4), iter (rnd C k cd0 9 Q) n (St1 c d a b) = l0 k (fun a b => Q (.exit 0) (St2 a b)) n c d a b
 | 0, _, _, _, _ => rfl
 | n + 1, c, d, a, b => (iter_succ _ _ _).trans ((l0s_eq k _ Q c d a b).trans (congrArg (fun N => l0s N (fun a b => Q (.exit 0) (St2 a b)) c d a b) (by funext; exact l0_eq k Q n _ _ _ _)))
noncomputable def cd1 : Code := cR (cR (cR (cB Try.f35)))
def St3 (a b : D4) : St := stL 28 [(2, .ref 2 0 []), (3, .ref 3 0 [])] [(2, .cell T23 (.data T23 a) false), (3, .cell T23 (.data T23 b) false)]
def St4 (a : D4) : St := stL 28 [(2, .ref 2 0 [])] [(2, .cell T23 (.data T23 a) false)]
def j0 (Rt : D4 -> Option α) (b a : D4) : Option α :=
 Rt a
theorem j0_eq (k : Nat) (Q : Ex -> St -> Option α) (a b : D4) :
  (den C k) cd1 Q (St3 a b) = j0 (fun a => Q .ret (St4 a)) a b := plainly Js (by kernel_rfl)
theorem a0 (k : Nat) (Q : Ex -> St -> Option α) (d : D4) (e : Int) (a c : D4) :
  (lp C k) cd0 (blkQ C 0 (sq (den C k) (lp C k) Js C cd1 Q)) (St1 d e a c) = l0 k (fun a c => j0 (fun a => Q .ret (St4 a)) a c) k d e a c :=
 (lp_iter 9 (by kernel_rfl)).trans ((l0_eq k _ k d e a c).trans (congrArg (fun X => l0 k X k d e a c) (funext fun a => funext fun c => (Eq.trans (b := (den C k) cd1 Q (St3 a c)) (by kernel_rfl) (by simp only [j0_eq])))))
def top (k : Nat) (Rt : D4 -> Option α) (a : D4) : Option α :=
 l0 k (fun b c => j0 Rt b c) k a 0 [0, 0, 0, 0] [0, 0, 0, 0]
theorem top_eq (k : Nat) (Q : Ex -> St -> Option α) (a : D4) :
  (den C k) (cB Try.f35) Q (St0 a) = top k (fun b => Q .ret (St4 b)) a := by
 have h : ∀ (D L : DT α), denJ D L Js C (cB Try.f35) Q (St0 a) =
    L cd0 (blkQ C 0 (sq D L Js C cd1 Q)) (St1 a 0 [0, 0, 0, 0] [0, 0, 0, 0]) := by
  intro D L; kernel_rfl
 have h2 := via (k := k) h
 refine h2.trans ?_
 simp only [a0]
 first | rfl | kernel_rfl
def run (a : D4) : Option D4 := top (α := List Int) fuel (fun b => some b) a
def F : Fn := ⟨T71, T23, false, fun x => run x.1⟩
theorem con : Con Try.prog 35 F /\ Named Try.prog 35 :=
 con_of2 (C := C) (ctx_ok (by kernel_rfl) (by kernel_rfl) (by kernel_rfl) (by kernel_rfl) trivial) (by kernel_rfl) Try.func35 (by kernel_rfl) (c := cB Try.f35) (by kernel_rfl) (by kernel_rfl) F (fun x => by simp [F, spread, Try.ntmps35]) (fun x => (St0 x.1)) (fun x => by kernel_rfl) fun x => (top_eq fuel _ x.1).trans (by kernel_rfl)
end Go.Bx.wide_From
namespace Go.Bx.basculeref_FromBytes
def Js : List Nat := [8]
def C : Ctx := ⟨[(5, T18), (22, T36), (24, T23), (38, T17)], [], [], fnL [], noSh, [], invL [], [(2, [2]), (1, [2, 3]), (4, [2, 3, 6, 7]), (9, [2, 3, 6, 7]), (21, [2, 3])], [], [], 0, 0⟩
def St0 (a : D4) : St := stL 26 [(0, .data T17 a)] []
def St1 (a : D4) (b : Int) (c d : D4) : St := stL 26 [(2, .ref 2 0 []), (3, .ref 3 0 []), (6, .data T17 a), (7, .data T1 b)] [(2, .cell T23 (.data T23 c) false), (3, .cell T23 (.data T23 d) false)]
noncomputable def cd0 : Code := cL (cL (cR (cL (cR (cR (cB Try.f44))))))
def St2 (a b : D4) : St := stL 26 [(2, .ref 2 0 []), (3, .ref 3 0 [])] [(2, .cell T23 (.data T23 a) false), (3, .cell T23 (.data T23 b) false)]
def l0s (Nx : D4 -> Int -> D4 -> D4 -> Option α) (Xt0 : D4 -> D4 -> Option α) (c : D4) (a : Int) (d b : D4) : Option α :=
 if (decide (a < 32)) = true then
  if 0 <= a /\ a < (32 : Int) then
   if 0 <= (IntKind.i64.wrap (3 - (IntKind.i64.wrap (Int.tdiv a 8)))) /\ (IntKind.i64.wrap (3 - (IntKind.i64.wrap (Int.tdiv a 8)))) < (4 : Int) then
    if 0 <= (IntKind.i64.wrap (3 - (IntKind.i64.wrap (Int.tdiv a 8)))) /\ (IntKind.i64.wrap (3 - (IntKind.i64.wrap (Int.tdiv a 8)))) < (4 : Int) then
     Nx c (IntKind.i64.wrap (a + 1)) d (List.set b (Int.toNat (IntKind.i64.wrap (3 - (IntKind.i64.wrap (Int.tdiv a 8))))) (IntKind.u64.wrap ((IntKind.u64.wrap ((List.getD b (Int.toNat (IntKind.i64.wrap (3 - (IntKind.i64.wrap (Int.tdiv a 8))))) 0) * 256)) + (IntKind.u64.wrap (List.getD c (Int.toNat a) 0)))))
    else none
   else none
  else none
 else
  Xt0 d b
theorem l0s_eq (k : Nat) (next : St -> Option α) (Q : Ex -> St -> Option α) (c : D4) (d : Int) (a b : D4) :
  rnd C k cd0 9 Q next (St1 c d a b) = l0s (fun c d a b => next (St1 c d a b)) (fun a b => Q (.exit 0) (St2 a b)) c d a b := plainly Js (by kernel_rfl)
def l0 (k : Nat) (Xt0 : D4 -> D4 -> Option α) : Nat -> D4 -> Int -> D4 -> D4 -> Option α
 | 0, _, _, _, _ => none
 | n + 1, a, b, c, d => l0s (l0 k Xt0 n) Xt0 a b c d
theorem l0_eq (k : Nat) (Q : Ex -> St -> Option α) : ∀ (n : Nat) (c : D4) (d : Int) (a b : D4), iter (rnd C k cd0 9 Q) n (St1 c d a b) = l0 k (fun a b => Q (.exit 0) (St2 a b)) n c d a b
 | 0, _, _, _, _ => rfl
 | n + 1, c, d, a, b => (iter_succ _ _ _).trans ((l0s_eq k _ Q c d a b).trans (congrArg (fun N => l0s N (fun a b => Q (.exit 0) (St2 a b)) c d a b) (by funext; exact l0_eq k Q n _ _ _ _)))
noncomputable def cd1 : Code := cR (cR (cR (cB Try.f44)))
def St3 (a b : D4) : St := stL 26 [(2, .ref 2 0 []), (3, .ref 3 0 [])] [(2, .cell T23 (.data T23 a) false), (3, .cell T23 (.data T23 b) false)]
def St4 (a : D4) : St := stL 26 [(2, .ref 2 0 [])] [(2, .cell T23 (.data T23 a) false)]
def j0 (Rt : D4 -> Option α) (b a : D4) : Option α :=
 Rt a
theorem j0_eq (k : Nat) (Q : Ex -> St -> Option α) (a b : D4) :
  (den C k) cd1 Q (St3 a b) = j0 (fun a => Q .ret (St4 a)) a b := plainly Js (by kernel_rfl)
theorem a0 (k : Nat) (Q : Ex -> St -> Option α) (d : D4) (e : Int) (a c : D4) :
  (lp C k) cd0 (blkQ C 0 (sq (den C k) (lp C k) Js C cd1 Q)) (St1 d e a c) = l0 k (fun a c => j0 (fun a => Q .ret (St4 a)) a c) k d e a c :=
 (lp_iter 9 (by kernel_rfl)).trans ((l0_eq k _ k d e a c).trans (congrArg (fun X => l0 k X k d e a c) (funext fun a => funext fun c => (Eq.trans (b := (den C k) cd1 Q (St3 a c)) (by kernel_rfl) (by simp only [j0_eq])))))
def top (k : Nat) (Rt : D4 -> Option α) (a : D4) : Option α :=
 l0 k (fun b c => j0 Rt b c) k a 0 [0, 0, 0, 0] [0, 0, 0, 0]
theorem top_eq (k : Nat) (Q : Ex -> St -> Option α) (a : D4) :
  (den C k) (cB Try.f44) Q (St0 a) = top k (fun b => Q .ret (St4 b)) a := by
 have h : ∀ (D L : DT α), denJ D L Js C (cB Try.f44) Q (St0 a) =
    L cd0 (blkQ C 0 (sq D L Js C cd1 Q)) (St1 a 0 [0, 0, 0, 0] [0, 0, 0, 0]) := by
  intro D L; kernel_rfl
 have h2 := via (k := k) h
 refine h2.trans ?_
 simp only [a0]
 first | rfl | kernel_rfl
def run (a : D4) : Option D4 := top (α := List Int) fuel (fun b => some b) a
def F : Fn := ⟨T71, T23, false, fun x => run x.1⟩
theorem con : Con Try.prog 44 F /\ Named Try.prog 44 :=
 con_of2 (C := C) (ctx_ok (by kernel_rfl) (by kernel_rfl) (by kernel_rfl) (by kernel_rfl) trivial) (by kernel_rfl) Try.func44 (by kernel_rfl) (c := cB Try.f44) (by kernel_rfl) (by kernel_rfl) F (fun x => by simp [F, spread, Try.ntmps44]) (fun x => (St0 x.1)) (fun x => by kernel_rfl) fun x => (top_eq fuel _ x.1).trans (by kernel_rfl)
end Go.Bx.basculeref_FromBytes
namespace Go.Bx.basculeref_wideOf
def Js : List Nat := []
def C : Ctx := ⟨[(9, .str), (24, T23)], [], [], fnL [(44, basculeref_FromBytes.F), (132, basculeref_word.F)], noSh, [], invL [], [(2, [2])], [], [], 0, 0⟩
def St0 (a : D4) : St := stL 6 [(0, .data .str a)] []
def St1 (a : D4) : St := stL 6 [(2, .ref 2 0 [])] [(2, .cell T23 (.data T23 a) false)]
def top (Rt : D4 -> Option α) (a : D4) : Option α :=
 (basculeref_word.run a).bind fun b =>
 (basculeref_FromBytes.run b).bind fun c =>
 Rt c
theorem top_eq (k : Nat) (Q : Ex -> St -> Option α) (a : D4) :
  (den C k) (cB Try.f131) Q (St0 a) = top (fun b => Q .ret (St1 b)) a := plainly Js (by kernel_rfl)
def run (a : D4) : Option D4 := top (α := List Int) (fun b => some b) a
def F : Fn := ⟨T120, T23, false, fun x => run x.1⟩
theorem con : Con Try.prog 131 F /\ Named Try.prog 131 :=
 con_of2 (C := C) (ctx_ok (by kernel_rfl) (by kernel_rfl) (by kernel_rfl) (by kernel_rfl) ⟨.inl basculeref_FromBytes.con, ⟨.inl basculeref_word.con, trivial⟩⟩) (by kernel_rfl) Try.func131 (by kernel_rfl) (c := cB Try.f131) (by kernel_rfl) (by kernel_rfl) F (fun x => by simp [F, spread, Try.ntmps131]) (fun x => (St0 x.1)) (fun x => by kernel_rfl) fun x => (top_eq fuel _ x.1).trans (by kernel_rfl)
end Go.Bx.basculeref_wideOf
namespace Go.Bx.paper_eye__take_s1
def Js : List Nat := []
def C : Ctx := ⟨[(4, .bool), (29, T16), (152, T129)], [], [], fnL [], noSh, [], invL [], [(2, [4])], [(2, [.dat true 4 [], .dat false 0 []])], [], 1, 0⟩
def St0 (a : Int) (b : D19) : St := stL 38 [(0, .ref 0 0 []), (1, .data T1 a)] [(0, .cell T129 (.data T129 b) false)]
def St1 (a : D4) (b : D19) : St := stL 38 [(4, .data T16 a)] [(0, .cell T129 (.data T129 b) false)]
def top (Rt : D4 -> D19 -> Option α) (a : Int) (b : D19) : Option α :=
 if (decide ((b.1.length : Int) < a)) = true then
  if 0 <= a /\ id a = a /\ fitB a.toNat 1 = true then
   Rt (List.replicate (Int.toNat a) 0) ([], false, ())
  else none
 else
  if 0 <= (0 : Int) /\ (0 : Int) <= a /\ a <= (b.1.length : Int) /\ a = a then
   if 0 <= a /\ a <= (b.1.length : Int) /\ (b.1.length : Int) <= (b.1.length : Int) then
    Rt (cutL b.1 0 a) ((cutL b.1 a (b.1.length : Int)), b.2)
   else none
  else none
theorem top_eq (k : Nat) (Q : Ex -> St -> Option α) (b : Int) (a : D19) :
  (den C k) (cB Try.f152) (endQ C Q) (St0 b a) = top (fun c a => Q .ret (St1 c a)) b a := plainly Js (by kernel_rfl)
def run (b : Int) (a : D19) : Option D52 := top (α := List Int × D19 × Unit) (fun c a => some (c, a, ())) b a
def Sp : Spec := ⟨[.ref 0 0 [], hD T1], [(0, hC T129 (hD T129) false)], T130, hD T16, [(0, hC T129 (hD T129) false)], T131, fun x => run x.1 x.2.1⟩
set_option maxRecDepth 100000 in
theorem sok : SOk Try.prog 152 Sp.h := by
 refine sok_of_den (C := C) (ctx_ok (by kernel_rfl) (by kernel_rfl) (by kernel_rfl) (by kernel_rfl) trivial) (by kernel_rfl) Try.func152 (c := cB Try.f152) (by kernel_rfl) (by kernel_rfl) Sp fuel (by kernel_rfl) (by kernel_rfl) ?_
 intro x r h
 rw [<- h]
 have h1 : Sp.start x Try.f152.ntmps = (St0 x.1 x.2.1) := by kernel_rfl
 rw [h1]
 refine (top_eq fuel (finS C Try.f152.results.toList Sp.read) x.1 x.2.1).trans ?_
 kernel_rfl
theorem named : Named Try.prog 152 := named_of Try.func152 (by kernel_rfl) (by kernel_rfl)
end Go.Bx.paper_eye__take_s1
namespace Go.Bx.paper_eye__number_s1
def Js : List Nat := [8]
def C : Ctx := ⟨[(3, T1), (5, T18), (29, T16)], [], [], fnL [], shL [(152, [.one paper_eye__take_s1.Sp])], [(10, 24)], invL [], [(2, [4]), (1, [5]), (4, [5, 10, 11, 12]), (9, [5, 10, 11, 12]), (21, [5])], [], [], 1, 0⟩
def St0 (a : Int) (b : D19) : St := stL 23 [(0, .ref 0 0 []), (1, .data T1 a)] [(0, .cell T129 (.data T129 b) false)]
def St1 (a : Int) (b : D4) (c d : Int) (e : D19) : St := stL 23 [(5, .data T1 a), (10, .data T16 b), (11, .data T1 c), (12, .data T1 d)] [(0, .cell T129 (.data T129 e) false)]
noncomputable def cd0 : Code := cL (cL (cR (cL (cR (cR (cB Try.f122))))))
def St2 (a : Int) (b : D19) : St := stL 23 [(5, .data T1 a)] [(0, .cell T129 (.data T129 b) false)]
def l0s (Nx : Int -> D4 -> Int -> Int -> D19 -> Option α) (Xt0 : Int -> D19 -> Option α) (c : Int) (b : D4) (d a : Int) (e : D19) : Option α :=
 if (decide (a < d)) = true then
  if 0 <= a /\ a < (b.length : Int) then
   Nx (bor .i64 (shlI .i64 c 8) (IntKind.i64.wrap (List.getD b (Int.toNat a) 0))) b d (IntKind.i64.wrap (a + 1)) e
  else none
 else
  Xt0 c e
theorem l0s_eq (k : Nat) (next : St -> Option α) (Q : Ex -> St -> Option α) (a : Int) (c : D4) (d e : Int) (b : D19) :
  rnd C k cd0 9 Q next (St1 a c d e b) = l0s (fun a c d e b => next (St1 a c d e b)) (fun a b => Q (.exit 0) (St2 a b)) a c d e b := plainly Js (by kernel_rfl)
def l0 (k : Nat) (Xt0 : Int -> D19 -> Option α) : Nat -> Int -> D4 -> Int -> Int -> D19 -> Option α
 | 0, _, _, _, _, _ => none
 | n + 1, a, b, c, d, e => l0s (l0 k Xt0 n) Xt0 a b c d e
theorem l0_eq (k : Nat) (Q : Ex -> St -> Option α) : ∀ (n : Nat) (a : Int) (c : D4) (d e : Int) (b : D19), iter (rnd C k cd0 9 Q) n (St1 a c d e b) = l0 k (fun a b => Q (.exit 0) (St2 a b)) n a c d e b
 | 0, _, _, _, _, _ => rfl
 | n + 1, a, c, d, e, b => (iter_succ _ _ _).trans ((l0s_eq k _ Q a c d e b).trans (congrArg (fun N => l0s N (fun a b => Q (.exit 0) (St2 a b)) a c d e b) (by funext; exact l0_eq k Q n _ _ _ _ _)))
noncomputable def cd1 : Code := cR (cR (cR (cB Try.f122)))
def St3 (a : Int) (b : D19) : St := stL 23 [(5, .data T1 a)] [(0, .cell T129 (.data T129 b) false)]
def St4 (a : Int) (b : D19) : St := stL 23 [(4, .data T1 a)] [(0, .cell T129 (.data T129 b) false)]
def j0 (Rt : Int -> D19 -> Option α) (a : Int) (b : D19) : Option α :=
 Rt a b
theorem j0_eq (k : Nat) (Q : Ex -> St -> Option α) (b : Int) (a : D19) :
  (den C k) cd1 (endQ C Q) (St3 b a) = j0 (fun c a => Q .ret (St4 c a)) b a := plainly Js (by kernel_rfl)
theorem a0 (k : Nat) (Q : Ex -> St -> Option α) (c : Int) (d : D4) (e f : Int) (a : D19) :
  (lp C k) cd0 (blkQ C 0 (sq (den C k) (lp C k) Js C cd1 (endQ C Q))) (St1 c d e f a) = l0 k (fun c a => j0 (fun g a => Q .ret (St4 g a)) c a) k c d e f a :=
 (lp_iter 9 (by kernel_rfl)).trans ((l0_eq k _ k c d e f a).trans (congrArg (fun X => l0 k X k c d e f a) (funext fun c => funext fun a => (Eq.trans (b := (den C k) cd1 (endQ C Q) (St3 c a)) (by kernel_rfl) (by simp only [j0_eq])))))
def top (k : Nat) (Rt : Int -> D19 -> Option α) (c : Int) (a : D19) : Option α :=
 (paper_eye__take_s1.run c a).bind fun b =>
 l0 k (fun d a => j0 Rt d a) k 0 b.1 (b.1.length : Int) 0 b.2.1
theorem top_eq (k : Nat) (Q : Ex -> St -> Option α) (b : Int) (a : D19) :
  (den C k) (cB Try.f122) (endQ C Q) (St0 b a) = top k (fun d a => Q .ret (St4 d a)) b a := by
 have h : ∀ (D L : DT α), denJ D L Js C (cB Try.f122) (endQ C Q) (St0 b a) =
    (paper_eye__take_s1.run b a).bind fun c =>
    L cd0 (blkQ C 0 (sq D L Js C cd1 (endQ C Q))) (St1 0 c.1 (c.1.length : Int) 0 c.2.1) := by
  intro D L; kernel_rfl
 have h2 := via (k := k) h
 refine h2.trans ?_
 simp only [a0]
 first | rfl | kernel_rfl
def run (b : Int) (a : D19) : Option D53 := top (α := Int × D19 × Unit) fuel (fun c a => some (c, a, ())) b a
def Sp : Spec := ⟨[.ref 0 0 [], hD T1], [(0, hC T129 (hD T129) false)], T130, hD T1, [(0, hC T129 (hD T129) false)], T130, fun x => run x.1 x.2.1⟩
set_option maxRecDepth 100000 in
theorem sok : SOk Try.prog 122 Sp.h := by
 refine sok_of_den (C := C) (ctx_ok_sh (by kernel_rfl) (by kernel_rfl) (by kernel_rfl) (by kernel_rfl) trivial ⟨⟨⟨paper_eye__take_s1.sok, trivial⟩, paper_eye__take_s1.named⟩, trivial⟩) (by kernel_rfl) Try.func122 (c := cB Try.f122) (by kernel_rfl) (by kernel_rfl) Sp fuel (by kernel_rfl) (by kernel_rfl) ?_
 intro x r h
 rw [<- h]
 have h1 : Sp.start x Try.f122.ntmps = (St0 x.1 x.2.1) := by kernel_rfl
 rw [h1]
 refine (top_eq fuel (finS C Try.f122.results.toList Sp.read) x.1 x.2.1).trans ?_
 kernel_rfl
theorem named : Named Try.prog 122 := named_of Try.func122 (by kernel_rfl) (by kernel_rfl)
end Go.Bx.paper_eye__number_s1
namespace Go.Bx.paper_eye__word_s0
def Js : List Nat := []
def C : Ctx := ⟨[(29, T16), (38, T17)], [], [], fnL [], shL [(152, [.one paper_eye__take_s1.Sp])], [(6, 10)], invL [], [(2, [2])], [], [], 1, 0⟩
def St0 (a : D19) : St := stL 9 [(0, .ref 0 0 [])] [(0, .cell T129 (.data T129 a) false)]
def St1 (a : D19) (b : D4) : St := stL 9 [(2, .ref 3 0 [])] [(0, .cell T129 (.data T129 a) false), (3, .cell T17 (.data T17 b) false)]
def top (Rt : D19 -> D4 -> Option α) (b : D19) : Option α :=
 (paper_eye__take_s1.run 32 b).bind fun a =>
 Rt a.2.1 (cpyL (List.replicate 32 0) 0 32 a.1)
theorem top_eq (k : Nat) (Q : Ex -> St -> Option α) (a : D19) :
  (den C k) (cB Try.f123) (endQ C Q) (St0 a) = top (fun a b => Q .ret (St1 a b)) a := plainly Js (by kernel_rfl)
def run (a : D19) : Option D54 := top (α := List Int × D19 × List Int × Unit) (fun a b => some (b, a, b, ())) a
def Sp : Spec := ⟨[.ref 0 0 []], [(0, hC T129 (hD T129) false)], T132, hD T17, [(0, hC T129 (hD T129) false), (3, hC T17 (hD T17) false)], T133, fun x => run x.1⟩
set_option maxRecDepth 100000 in
theorem sok : SOk Try.prog 123 Sp.h := by
 refine sok_of_den (C := C) (ctx_ok_sh (by kernel_rfl) (by kernel_rfl) (by kernel_rfl) (by kernel_rfl) trivial ⟨⟨⟨paper_eye__take_s1.sok, trivial⟩, paper_eye__take_s1.named⟩, trivial⟩) (by kernel_rfl) Try.func123 (c := cB Try.f123) (by kernel_rfl) (by kernel_rfl) Sp fuel (by kernel_rfl) (by kernel_rfl) ?_
 intro x r h
 rw [<- h]
 have h1 : Sp.start x Try.f123.ntmps = (St0 x.1) := by kernel_rfl
 rw [h1]
 refine (top_eq fuel (finS C Try.f123.results.toList Sp.read) x.1).trans ?_
 kernel_rfl
theorem named : Named Try.prog 123 := named_of Try.func123 (by kernel_rfl) (by kernel_rfl)
end Go.Bx.paper_eye__word_s0
namespace Go.Bx.paper_eye__body_s0
def Js : List Nat := []
def C : Ctx := ⟨[(3, T1), (29, T16), (38, T17), (40, T2), (152, T129)], [], [], fnL [], shL [(122, [.one paper_eye__number_s1.Sp]), (123, [.one paper_eye__word_s0.Sp])], [(5, 31), (8, 31), (11, 31), (14, 31), (17, 32), (20, 32)], invL [], [(2, [2])], [], [27], 1, 0⟩
def St0 (a : D19) : St := stL 30 [(0, .ref 0 0 [])] [(0, .cell T129 (.data T129 a) false)]
def St1 (a : D19) (b c d : Int) (e : D4) (f g : Int) (i : D4) : St := stL 30 [(2, .ref 3 0 [])] [(0, .cell T129 (.data T129 a) false), (3, .cell T2 (.agg T2 [.data T1 b, .data T1 c, .data T1 d, .data T17 e, .data T1 f, .data T1 g, .app 28 0]) false), (28, .buf T18 i 0 true)]
def top (Rt : D19 -> Int -> Int -> Int -> D4 -> Int -> Int -> D4 -> Option α) (g : D19) : Option α :=
 (paper_eye__number_s1.run 8 g).bind fun b =>
 (paper_eye__number_s1.run 4 b.2.1).bind fun c =>
 (paper_eye__number_s1.run 2 c.2.1).bind fun d =>
 (paper_eye__word_s0.run d.2.1).bind fun e =>
 (paper_eye__number_s1.run 8 e.2.1).bind fun f =>
 (paper_eye__number_s1.run 1 f.2.1).bind fun a =>
 if fitB (0 + a.2.1.1.length) 1 = true then
  Rt a.2.1 b.1 c.1 d.1 e.1 f.1 a.1 a.2.1.1
 else none
theorem top_eq (k : Nat) (Q : Ex -> St -> Option α) (a : D19) :
  (den C k) (cB Try.f124) (endQ C Q) (St0 a) = top (fun a b c d e f g i => Q .ret (St1 a b c d e f g i)) a := plainly Js (by kernel_rfl)
def run (a : D19) : Option D55 := top (α := Int × Int × Int × List Int × Int × Int × D19 × Int × Int × Int × List Int × Int × Int × List Int × Unit) (fun a b c d e f g i => some (b, c, d, e, f, g, a, b, c, d, e, f, g, i, ())) a
def Sp : Spec := ⟨[.ref 0 0 []], [(0, hC T129 (hD T129) false)], T132, .agg T2 [hD T1, hD T1, hD T1, hD T17, hD T1, hD T1, .app 28 0], [(0, hC T129 (hD T129) false), (3, hC T2 (.agg T2 [hD T1, hD T1, hD T1, hD T17, hD T1, hD T1, .app 28 0]) false), (28, hB T18 0 true)], T134, fun x => run x.1⟩
set_option maxRecDepth 100000 in
theorem sok : SOk Try.prog 124 Sp.h := by
 refine sok_of_den (C := C) (ctx_ok_sh (by kernel_rfl) (by kernel_rfl) (by kernel_rfl) (by kernel_rfl) trivial ⟨⟨⟨paper_eye__number_s1.sok, trivial⟩, paper_eye__number_s1.named⟩, ⟨⟨⟨paper_eye__word_s0.sok, trivial⟩, paper_eye__word_s0.named⟩, trivial⟩⟩) (by kernel_rfl) Try.func124 (c := cB Try.f124) (by kernel_rfl) (by kernel_rfl) Sp fuel (by kernel_rfl) (by kernel_rfl) ?_
 intro x r h
 rw [<- h]
 have h1 : Sp.start x Try.f124.ntmps = (St0 x.1) := by kernel_rfl
 rw [h1]
 refine (top_eq fuel (finS C Try.f124.results.toList Sp.read) x.1).trans ?_
 kernel_rfl
theorem named : Named Try.prog 124 := named_of Try.func124 (by kernel_rfl) (by kernel_rfl)
end Go.Bx.paper_eye__body_s0
namespace Go.Bx.paper_Decode
def Js : List Nat := [20]
def C : Ctx := ⟨[(3, T1), (4, .bool), (24, T23), (29, T16), (35, T1), (40, T2), (49, T66), (100, T125), (102, T126), (152, T129), (155, T127)], [], [], fnL [(35, wide_From.F), (125, paper_fault.F)], shL [(122, [.one paper_eye__number_s1.Sp]), (123, [.one paper_eye__word_s0.Sp]), (124, [.one paper_eye__body_s0.Sp])], [(14, 82), (25, 82), (28, 82), (42, 82), (45, 82), (50, 83), (55, 84), (66, 84)], invL [], [(2, [2, 3]), (1, [2, 4, 6]), (4, [2, 4, 6, 38, 39]), (33, [2, 4, 6, 38, 39]), (57, [2, 4, 6])], [(2, [.dat false 2 [1], .dat false 2 [2, 6]]), (33, [.melt false 6 [1] 62 true])], [], 0, 0⟩
def St0 (a : D4) : St := stL 81 [(0, .data T16 a)] []
def St1 (a : Int) (b : D50) : St := stL 81 [(2, .ref 2 0 []), (3, .data T1 a)] [(2, .cell T126 (.data T126 b) false)]
def St2 (a b : Int) (c d : Int) (e f : Int) (g : D4) (i j : Int) (k l : Int) (m n : Int) (o : D4) (p q : Int) (r : D19) (s : D51) : St := stL 81 [(2, .ref 2 0 []), (4, .ref 12 0 []), (6, .ref 6 0 []), (38, .data T1 a), (39, .data T1 b)] [(2, .cell T126 (.agg T126 [.data T1 c, .full T127 [], .agg T2 [.data T1 d, .data T1 e, .data T1 f, .data T17 g, .data T1 i, .data T1 j, .full T18 []]]) false), (6, .cell T126 (.agg T126 [.data T1 k, .app 62 0, .agg T2 [.data T1 l, .data T1 m, .data T1 n, .data T17 o, .data T1 p, .data T1 q, .full T18 []]]) false), (12, .cell T129 (.data T129 r) false), (62, .buf T127 s 0 true)]
noncomputable def cd0 : Code := cL (cL (cR (cL (cR (cR (cR (cR (cR (cR (cR (cR (cB Try.f62))))))))))))
def St3 (a b : Int) (c d : Int) (e : D4) (f g : Int) (i j : Int) (k l : Int) (m : D4) (n o : Int) (p : D19) (q : D51) : St := stL 81 [(2, .ref 2 0 []), (4, .ref 12 0 []), (6, .ref 6 0 [])] [(2, .cell T126 (.agg T126 [.data T1 a, .full T127 [], .agg T2 [.data T1 b, .data T1 c, .data T1 d, .data T17 e, .data T1 f, .data T1 g, .full T18 []]]) false), (6, .cell T126 (.agg T126 [.data T1 i, .app 62 0, .agg T2 [.data T1 j, .data T1 k, .data T1 l, .data T17 m, .data T1 n, .data T1 o, .full T18 []]]) false), (12, .cell T129 (.data T129 p) false), (62, .buf T127 q 0 true)]
def l0s (Nx : Int -> Int -> Int -> Int -> Int -> Int -> D4 -> Int -> Int -> Int -> Int -> Int -> Int -> D4 -> Int -> Int -> D19 -> D51 -> Option α) (Xt0 : Int -> Int -> Int -> Int -> D4 -> Int -> Int -> Int -> Int -> Int -> Int -> D4 -> Int -> Int -> D19 -> D51 -> Option α) (b c : Int) (d e : Int) (f g : Int) (i : D4) (j k : Int) (l m : Int) (n o : Int) (p : D4) (q r : Int) (s : D19) (a : D51) : Option α :=
 if (decide (c < b)) = true then
  (paper_eye__number_s1.run 1 s).bind fun t =>
  (paper_eye__word_s0.run t.2.1).bind fun u =>
  (wide_From.run u.1).bind fun x =>
  (paper_eye__word_s0.run u.2.1).bind fun v =>
  (wide_From.run v.1).bind fun y =>
  (paper_eye__number_s1.run 1 v.2.1).bind fun w =>
  if fitB (a.length + 1) 80 = true then
   Nx b (IntKind.i64.wrap (c + 1)) d e f g i j k l m n o p q r w.2.1 (a ++ [(t.1, (x, y, w.1, ()), ())])
  else none
 else
  Xt0 d e f g i j k l m n o p q r s a
theorem l0s_eq (k : Nat) (next : St -> Option α) (Q : Ex -> St -> Option α) (s t : Int) (a b : Int) (c d : Int) (e : D4) (f g : Int) (i j : Int) (l m : Int) (n : D4) (o p : Int) (q : D19) (r : D51) :
  rnd C k cd0 33 Q next (St2 s t a b c d e f g i j l m n o p q r) = l0s (fun s t a b c d e f g i j l m n o p q r => next (St2 s t a b c d e f g i j l m n o p q r)) (fun a b c d e f g i j l m n o p q r => Q (.exit 0) (St3 a b c d e f g i j l m n o p q r)) s t a b c d e f g i j l m n o p q r := plainly Js (by kernel_rfl)
def l0 (k : Nat) (Xt0 : Int -> Int -> Int -> Int -> D4 -> Int -> Int -> Int -> Int -> Int -> Int -> D4 -> Int -> Int -> D19 -> D51 -> Option α) : Nat -> Int -> Int -> Int -> Int -> Int -> Int -> D4 -> Int -> Int -> Int -> Int -> Int -> Int -> D4 -> Int -> Int -> D19 -> D51 -> Option α
 | 0, _, _, _, _, _, _, _, _, _, _, _, _, _, _, _, _, _, _ => none
 | n + 1, a, b, c, d, e, f, g, i, j, l, m, o, p, q, r, s, t, u => l0s (l0 k Xt0 n) Xt0 a b c d e f g i j l m o p q r s t u
theorem l0_eq (k : Nat) (Q : Ex -> St -> Option α) : ∀ (n : Nat) (t u : Int) (a b : Int) (c d : Int) (e : D4) (f g : Int) (i j : Int) (l m : Int) (o : D4) (p q : Int) (r : D19) (s : D51), iter (rnd C k cd0 33 Q) n (St2 t u a b c d e f g i j l m o p q r s) = l0 k (fun a b c d e f g i j l m o p q r s => Q (.exit 0) (St3 a b c d e f g i j l m o p q r s)) n t u a b c d e f g i j l m o p q r s
 | 0, _, _, _, _, _, _, _, _, _, _, _, _, _, _, _, _, _, _ => rfl
 | n + 1, t, u, a, b, c, d, e, f, g, i, j, l, m, o, p, q, r, s => (iter_succ _ _ _).trans ((l0s_eq k _ Q t u a b c d e f g i j l m o p q r s).trans (congrArg (fun N => l0s N (fun a b c d e f g i j l m o p q r s => Q (.exit 0) (St3 a b c d e f g i j l m o p q r s)) t u a b c d e f g i j l m o p q r s) (by funext; exact l0_eq k Q n _ _ _ _ _ _ _ _ _ _ _ _ _ _ _ _ _ _)))
noncomputable def cd1 : Code := cR (cR (cR (cR (cR (cR (cR (cR (cR (cB Try.f62)))))))))
def St4 (a b : Int) (c d : Int) (e : D4) (f g : Int) (i j : Int) (k l : Int) (m : D4) (n o : Int) (p : D19) (q : D51) : St := stL 81 [(2, .ref 2 0 []), (4, .ref 12 0 []), (6, .ref 6 0 [])] [(2, .cell T126 (.agg T126 [.data T1 a, .full T127 [], .agg T2 [.data T1 b, .data T1 c, .data T1 d, .data T17 e, .data T1 f, .data T1 g, .full T18 []]]) false), (6, .cell T126 (.agg T126 [.data T1 i, .app 62 0, .agg T2 [.data T1 j, .data T1 k, .data T1 l, .data T17 m, .data T1 n, .data T1 o, .full T18 []]]) false), (12, .cell T129 (.data T129 p) false), (62, .buf T127 q 0 true)]
def j0 (Rt : Int -> D50 -> Option α) (f g : Int) (i j : Int) (k : D4) (l m : Int) (b n : Int) (o p : Int) (q : D4) (r s : Int) (e : D19) (c : D51) : Option α :=
 (paper_eye__body_s0.run e).bind fun a =>
 if (not a.2.2.2.2.2.2.1.2.1) = true then
  Rt 4 (0, [], (0, 0, 0, (List.replicate 32 0), 0, 0, [], ()), ())
 else
  (paper_fault.run (b, c, (a.1, a.2.1, a.2.2.1, a.2.2.2.1, a.2.2.2.2.1, a.2.2.2.2.2.1, a.2.2.2.2.2.2.2.2.2.2.2.2.2.1, ()), ())).bind fun d =>
  if (d != 0) = true then
   Rt d (0, [], (0, 0, 0, (List.replicate 32 0), 0, 0, [], ()), ())
  else
   Rt 0 (b, c, (a.1, a.2.1, a.2.2.1, a.2.2.2.1, a.2.2.2.2.1, a.2.2.2.2.2.1, a.2.2.2.2.2.2.2.2.2.2.2.2.2.1, ()), ())
theorem j0_eq (k : Nat) (Q : Ex -> St -> Option α) (a b : Int) (c d : Int) (e : D4) (f g : Int) (i j : Int) (l m : Int) (n : D4) (o p : Int) (q : D19) (r : D51) :
  (den C k) cd1 Q (St4 a b c d e f g i j l m n o p q r) = j0 (fun s t => Q .ret (St1 s t)) a b c d e f g i j l m n o p q r := plainly Js (by kernel_rfl)
theorem a0 (k : Nat) (Q : Ex -> St -> Option α) (t u : Int) (a c : Int) (d e : Int) (f : D4) (g i : Int) (j l : Int) (m n : Int) (o : D4) (p q : Int) (r : D19) (s : D51) :
  (lp C k) cd0 (blkQ C 0 (sq (den C k) (lp C k) Js C cd1 Q)) (St2 t u a c d e f g i j l m n o p q r s) = l0 k (fun a c d e f g i j l m n o p q r s => j0 (fun v w => Q .ret (St1 v w)) a c d e f g i j l m n o p q r s) k t u a c d e f g i j l m n o p q r s :=
 (lp_iter 33 (by kernel_rfl)).trans ((l0_eq k _ k t u a c d e f g i j l m n o p q r s).trans (congrArg (fun X => l0 k X k t u a c d e f g i j l m n o p q r s) (funext fun a => funext fun c => funext fun d => funext fun e => funext fun f => funext fun g => funext fun i => funext fun j => funext fun l => funext fun m => funext fun n => funext fun o => funext fun p => funext fun q => funext fun r => funext fun s => (Eq.trans (b := (den C k) cd1 Q (St4 a c d e f g i j l m n o p q r s)) (by kernel_rfl) (by simp only [j0_eq])))))
def top (k : Nat) (Rt : Int -> D50 -> Option α) (d : D4) : Option α :=
 (paper_eye__number_s1.run 1 (d, true, ())).bind fun b =>
 if (cond b.2.1.2.1 (b.1 != 1) false) = true then
  Rt 3 (0, [], (0, 0, 0, (List.replicate 32 0), 0, 0, [], ()), ())
 else
  (paper_eye__number_s1.run 4 b.2.1).bind fun c =>
  (paper_eye__number_s1.run 1 c.2.1).bind fun a =>
  if (cond a.2.1.2.1 (decide (a.1 > 19)) false) = true then
   Rt 1 (0, [], (0, 0, 0, (List.replicate 32 0), 0, 0, [], ()), ())
  else
   l0 k (fun e f g i j l m n o p q r s t u v => j0 Rt e f g i j l m n o p q r s t u v) k a.1 0 0 0 0 0 (List.replicate 32 0) 0 0 c.1 0 0 0 (List.replicate 32 0) 0 0 a.2.1 []
theorem top_eq (k : Nat) (Q : Ex -> St -> Option α) (a : D4) :
  (den C k) (cB Try.f62) Q (St0 a) = top k (fun e f => Q .ret (St1 e f)) a := by
 have h : ∀ (D L : DT α), denJ D L Js C (cB Try.f62) Q (St0 a) =
    (paper_eye__number_s1.run 1 (a, true, ())).bind fun c =>
    if (cond c.2.1.2.1 (c.1 != 1) false) = true then
     Q .ret (St1 3 (0, [], (0, 0, 0, (List.replicate 32 0), 0, 0, [], ()), ()))
    else
     (paper_eye__number_s1.run 4 c.2.1).bind fun d =>
     (paper_eye__number_s1.run 1 d.2.1).bind fun b =>
     if (cond b.2.1.2.1 (decide (b.1 > 19)) false) = true then
      Q .ret (St1 1 (0, [], (0, 0, 0, (List.replicate 32 0), 0, 0, [], ()), ()))
     else
      L cd0 (blkQ C 0 (sq D L Js C cd1 Q)) (St2 b.1 0 0 0 0 0 (List.replicate 32 0) 0 0 d.1 0 0 0 (List.replicate 32 0) 0 0 b.2.1 []) := by
  intro D L; kernel_rfl
 have h2 := via (k := k) h
 refine h2.trans ?_
 simp only [a0]
 first | rfl | kernel_rfl
def run (a : D4) : Option D56 := top (α := D50 × Int × Unit) fuel (fun b c => some (c, b, ())) a
def F : Fn := ⟨T25, T135, true, fun x => run x.1⟩
theorem con : Con Try.prog 62 F /\ Named Try.prog 62 :=
 con_of2 (C := C) (ctx_ok_sh (by kernel_rfl) (by kernel_rfl) (by kernel_rfl) (by kernel_rfl) ⟨.inl wide_From.con, ⟨.inl paper_fault.con, trivial⟩⟩ ⟨⟨⟨paper_eye__number_s1.sok, trivial⟩, paper_eye__number_s1.named⟩, ⟨⟨⟨paper_eye__word_s0.sok, trivial⟩, paper_eye__word_s0.named⟩, ⟨⟨⟨paper_eye__body_s0.sok, trivial⟩, paper_eye__body_s0.named⟩, trivial⟩⟩⟩) (by kernel_rfl) Try.func62 (by kernel_rfl) (c := cB Try.f62) (by kernel_rfl) (by kernel_rfl) F (fun x => by simp [F, spread, Try.ntmps62]) (fun x => (St0 x.1)) (fun x => by kernel_rfl) fun x => (top_eq fuel _ x.1).trans (by kernel_rfl)
end Go.Bx.paper_Decode
namespace Go.Bx.basculeref_PaperOf
def Js : List Nat := [21]
def C : Ctx := ⟨[(3, T1), (5, T18), (9, .str), (29, T16), (35, T1), (40, T2), (49, T66), (100, T125), (102, T126), (155, T127)], [], [], fnL [(70, basculeref_number.F), (131, basculeref_wideOf.F), (132, basculeref_word.F), (133, basculeref_PaperFault.F)], noSh, [], invL [], [(2, [2, 3]), (1, [2, 4, 6]), (4, [2, 4, 6, 41, 42]), (48, [2, 4, 6, 41, 42]), (60, [2, 4, 6])], [(2, [.dat false 2 []]), (48, [.melt false 6 [1] 61 true])], [], 0, 0⟩
def St0 (a : D4) : St := stL 96 [(0, .data T16 a)] []
def St1 (a : Int) (b : D50) : St := stL 96 [(2, .ref 2 0 []), (3, .data T1 a)] [(2, .cell T126 (.data T126 b) false)]
def St2 (a : D4) (b c : Int) (d e : Int) (f g : Int) (i : D4) (j k : Int) (l m : Int) (n o : Int) (p : D4) (q r : Int) (s : D51) : St := stL 96 [(2, .ref 2 0 []), (4, .data .str a), (6, .ref 6 0 []), (41, .data T1 b), (42, .data T1 c)] [(2, .cell T126 (.agg T126 [.data T1 d, .full T127 [], .agg T2 [.data T1 e, .data T1 f, .data T1 g, .data T17 i, .data T1 j, .data T1 k, .full T18 []]]) false), (6, .cell T126 (.agg T126 [.data T1 l, .app 61 0, .agg T2 [.data T1 m, .data T1 n, .data T1 o, .data T17 p, .data T1 q, .data T1 r, .full T18 []]]) false), (61, .buf T127 s 0 true)]
noncomputable def cd0 : Code := cL (cL (cR (cL (cR (cR (cR (cR (cR (cR (cR (cR (cR (cR (cB Try.f69))))))))))))))
def St3 (a : D4) (b c : Int) (d e : Int) (f : D4) (g i : Int) (j k : Int) (l m : Int) (n : D4) (o p : Int) (q : D51) : St := stL 96 [(2, .ref 2 0 []), (4, .data .str a), (6, .ref 6 0 [])] [(2, .cell T126 (.agg T126 [.data T1 b, .full T127 [], .agg T2 [.data T1 c, .data T1 d, .data T1 e, .data T17 f, .data T1 g, .data T1 i, .full T18 []]]) false), (6, .cell T126 (.agg T126 [.data T1 j, .app 61 0, .agg T2 [.data T1 k, .data T1 l, .data T1 m, .data T17 n, .data T1 o, .data T1 p, .full T18 []]]) false), (61, .buf T127 q 0 true)]
def l0s (Nx : D4 -> Int -> Int -> Int -> Int -> Int -> Int -> D4 -> Int -> Int -> Int -> Int -> Int -> Int -> D4 -> Int -> Int -> D51 -> Option α) (Xt0 : D4 -> Int -> Int -> Int -> Int -> D4 -> Int -> Int -> Int -> Int -> Int -> Int -> D4 -> Int -> Int -> D51 -> Option α) (a : D4) (c d : Int) (e f : Int) (g i : Int) (j : D4) (k l : Int) (m n : Int) (o p : Int) (q : D4) (r s : Int) (b : D51) : Option α :=
 if (decide (d < c)) = true then
  if 0 <= (0 : Int) /\ (0 : Int) < (a.length : Int) then
   if 0 <= (1 : Int) /\ (1 : Int) <= (33 : Int) /\ (33 : Int) <= (a.length : Int) then
    (basculeref_wideOf.run (cutL a 1 33)).bind fun t =>
    if 0 <= (33 : Int) /\ (33 : Int) <= (65 : Int) /\ (65 : Int) <= (a.length : Int) then
     (basculeref_wideOf.run (cutL a 33 65)).bind fun u =>
     if 0 <= (65 : Int) /\ (65 : Int) < (a.length : Int) then
      if fitB (b.length + 1) 80 = true then
       if 0 <= (66 : Int) /\ (66 : Int) <= (a.length : Int) /\ (a.length : Int) <= (a.length : Int) then
        Nx (cutL a 66 (a.length : Int)) c (IntKind.i64.wrap (d + 1)) e f g i j k l m n o p q r s (b ++ [((IntKind.i64.wrap (List.getD a 0 0)), (t, u, (IntKind.i64.wrap (List.getD a 65 0)), ()), ())])
       else none
      else none
     else none
    else none
   else none
  else none
 else
  Xt0 a e f g i j k l m n o p q r s b
theorem l0s_eq (k : Nat) (next : St -> Option α) (Q : Ex -> St -> Option α) (a : D4) (s t : Int) (b c : Int) (d e : Int) (f : D4) (g i : Int) (j l : Int) (m n : Int) (o : D4) (p q : Int) (r : D51) :
  rnd C k cd0 48 Q next (St2 a s t b c d e f g i j l m n o p q r) = l0s (fun a s t b c d e f g i j l m n o p q r => next (St2 a s t b c d e f g i j l m n o p q r)) (fun a b c d e f g i j l m n o p q r => Q (.exit 0) (St3 a b c d e f g i j l m n o p q r)) a s t b c d e f g i j l m n o p q r := plainly Js (by kernel_rfl)
def l0 (k : Nat) (Xt0 : D4 -> Int -> Int -> Int -> Int -> D4 -> Int -> Int -> Int -> Int -> Int -> Int -> D4 -> Int -> Int -> D51 -> Option α) : Nat -> D4 -> Int -> Int -> Int -> Int -> Int -> Int -> D4 -> Int -> Int -> Int -> Int -> Int -> Int -> D4 -> Int -> Int -> D51 -> Option α
 | 0, _, _, _, _, _, _, _, _, _, _, _, _, _, _, _, _, _, _ => none
 | n + 1, a, b, c, d, e, f, g, i, j, l, m, o, p, q, r, s, t, u => l0s (l0 k Xt0 n) Xt0 a b c d e f g i j l m o p q r s t u
theorem l0_eq (k : Nat) (Q : Ex -> St -> Option α) : ∀ (n : Nat) (a : D4) (t u : Int) (b c : Int) (d e : Int) (f : D4) (g i : Int) (j l : Int) (m o : Int) (p : D4) (q r : Int) (s : D51), iter (rnd C k cd0 48 Q) n (St2 a t u b c d e f g i j l m o p q r s) = l0 k (fun a b c d e f g i j l m o p q r s => Q (.exit 0) (St3 a b c d e f g i j l m o p q r s)) n a t u b c d e f g i j l m o p q r s
 | 0, _, _, _, _, _, _, _, _, _, _, _, _, _, _, _, _, _, _ => rfl
 | n + 1, a, t, u, b, c, d, e, f, g, i, j, l, m, o, p, q, r, s => (iter_succ _ _ _).trans ((l0s_eq k _ Q a t u b c d e f g i j l m o p q r s).trans (congrArg (fun N => l0s N (fun a b c d e f g i j l m o p q r s => Q (.exit 0) (St3 a b c d e f g i j l m o p q r s)) a t u b c d e f g i j l m o p q r s) (by funext; exact l0_eq k Q n _ _ _ _ _ _ _ _ _ _ _ _ _ _ _ _ _ _)))
noncomputable def cd1 : Code := cR (cR (cR (cR (cR (cR (cR (cR (cR (cR (cR (cB Try.f69)))))))))))
def St4 (a : D4) (b c : Int) (d e : Int) (f : D4) (g i : Int) (j k : Int) (l m : Int) (n : D4) (o p : Int) (q : D51) : St := stL 96 [(2, .ref 2 0 []), (4, .data .str a), (6, .ref 6 0 [])] [(2, .cell T126 (.agg T126 [.data T1 b, .full T127 [], .agg T2 [.data T1 c, .data T1 d, .data T1 e, .data T17 f, .data T1 g, .data T1 i, .full T18 []]]) false), (6, .cell T126 (.agg T126 [.data T1 j, .app 61 0, .agg T2 [.data T1 k, .data T1 l, .data T1 m, .data T17 n, .data T1 o, .data T1 p, .full T18 []]]) false), (61, .buf T127 q 0 true)]
def j0 (Rt : Int -> D50 -> Option α) (a : D4) (k l : Int) (m n : Int) (o : D4) (p q : Int) (b r : Int) (s t : Int) (u : D4) (v w : Int) (c : D51) : Option α :=
 if 0 <= (0 : Int) /\ (0 : Int) <= (8 : Int) /\ (8 : Int) <= (a.length : Int) then
  (basculeref_number.run (cutL a 0 8)).bind fun d =>
  if 0 <= (8 : Int) /\ (8 : Int) <= (12 : Int) /\ (12 : Int) <= (a.length : Int) then
   (basculeref_number.run (cutL a 8 12)).bind fun e =>
   if 0 <= (12 : Int) /\ (12 : Int) <= (14 : Int) /\ (14 : Int) <= (a.length : Int) then
    (basculeref_number.run (cutL a 12 14)).bind fun f =>
    if 0 <= (14 : Int) /\ (14 : Int) <= (46 : Int) /\ (46 : Int) <= (a.length : Int) then
     (basculeref_word.run (cutL a 14 46)).bind fun g =>
     if 0 <= (46 : Int) /\ (46 : Int) <= (54 : Int) /\ (54 : Int) <= (a.length : Int) then
      (basculeref_number.run (cutL a 46 54)).bind fun i =>
      if 0 <= (54 : Int) /\ (54 : Int) < (a.length : Int) then
       if 0 <= (55 : Int) /\ (55 : Int) <= (a.length : Int) /\ (a.length : Int) <= (a.length : Int) then
        (basculeref_PaperFault.run (b, c, (d, e, f, g, i, (IntKind.i64.wrap (List.getD a 54 0)), (cutL a 55 (a.length : Int)), ()), ())).bind fun j =>
        if (j != 0) = true then
         Rt j (0, [], (0, 0, 0, (List.replicate 32 0), 0, 0, [], ()), ())
        else
         Rt 0 (b, c, (d, e, f, g, i, (IntKind.i64.wrap (List.getD a 54 0)), (cutL a 55 (a.length : Int)), ()), ())
       else none
      else none
     else none
    else none
   else none
  else none
 else none
theorem j0_eq (k : Nat) (Q : Ex -> St -> Option α) (a : D4) (b c : Int) (d e : Int) (f : D4) (g i : Int) (j l : Int) (m n : Int) (o : D4) (p q : Int) (r : D51) :
  (den C k) cd1 Q (St4 a b c d e f g i j l m n o p q r) = j0 (fun s t => Q .ret (St1 s t)) a b c d e f g i j l m n o p q r := plainly Js (by kernel_rfl)
theorem a0 (k : Nat) (Q : Ex -> St -> Option α) (a : D4) (t u : Int) (c d : Int) (e f : Int) (g : D4) (i j : Int) (l m : Int) (n o : Int) (p : D4) (q r : Int) (s : D51) :
  (lp C k) cd0 (blkQ C 0 (sq (den C k) (lp C k) Js C cd1 Q)) (St2 a t u c d e f g i j l m n o p q r s) = l0 k (fun a c d e f g i j l m n o p q r s => j0 (fun v w => Q .ret (St1 v w)) a c d e f g i j l m n o p q r s) k a t u c d e f g i j l m n o p q r s :=
 (lp_iter 48 (by kernel_rfl)).trans ((l0_eq k _ k a t u c d e f g i j l m n o p q r s).trans (congrArg (fun X => l0 k X k a t u c d e f g i j l m n o p q r s) (funext fun a => funext fun c => funext fun d => funext fun e => funext fun f => funext fun g => funext fun i => funext fun j => funext fun l => funext fun m => funext fun n => funext fun o => funext fun p => funext fun q => funext fun r => funext fun s => (Eq.trans (b := (den C k) cd1 Q (St4 a c d e f g i j l m n o p q r s)) (by kernel_rfl) (by simp only [j0_eq])))))
def top (k : Nat) (Rt : Int -> D50 -> Option α) (a : D4) : Option α :=
 if (beqD .str a []) = true then
  Rt 4 (0, [], (0, 0, 0, (List.replicate 32 0), 0, 0, [], ()), ())
 else
  if 0 <= (0 : Int) /\ (0 : Int) < (a.length : Int) then
   if ((List.getD a 0 0) != 1) = true then
    Rt 3 (0, [], (0, 0, 0, (List.replicate 32 0), 0, 0, [], ()), ())
   else
    if (decide ((a.length : Int) < 6)) = true then
     Rt 4 (0, [], (0, 0, 0, (List.replicate 32 0), 0, 0, [], ()), ())
    else
     if 0 <= (5 : Int) /\ (5 : Int) < (a.length : Int) then
      if (decide ((IntKind.i64.wrap (List.getD a 5 0)) > 19)) = true then
       Rt 1 (0, [], (0, 0, 0, (List.replicate 32 0), 0, 0, [], ()), ())
      else
       if (decide ((a.length : Int) < (IntKind.i64.wrap ((IntKind.i64.wrap (6 + (IntKind.i64.wrap (66 * (IntKind.i64.wrap (List.getD a 5 0)))))) + 55)))) = true then
        Rt 4 (0, [], (0, 0, 0, (List.replicate 32 0), 0, 0, [], ()), ())
       else
        if 0 <= (1 : Int) /\ (1 : Int) <= (5 : Int) /\ (5 : Int) <= (a.length : Int) then
         (basculeref_number.run (cutL a 1 5)).bind fun b =>
         if 0 <= (6 : Int) /\ (6 : Int) <= (a.length : Int) /\ (a.length : Int) <= (a.length : Int) then
          l0 k (fun c d e f g i j l m n o p q r s t => j0 Rt c d e f g i j l m n o p q r s t) k (cutL a 6 (a.length : Int)) (IntKind.i64.wrap (List.getD a 5 0)) 0 0 0 0 0 (List.replicate 32 0) 0 0 b 0 0 0 (List.replicate 32 0) 0 0 []
         else none
        else none
     else none
  else none
theorem top_eq (k : Nat) (Q : Ex -> St -> Option α) (a : D4) :
  (den C k) (cB Try.f69) Q (St0 a) = top k (fun b c => Q .ret (St1 b c)) a := by
 have h : ∀ (D L : DT α), denJ D L Js C (cB Try.f69) Q (St0 a) =
    if (beqD .str a []) = true then
     Q .ret (St1 4 (0, [], (0, 0, 0, (List.replicate 32 0), 0, 0, [], ()), ()))
    else
     if 0 <= (0 : Int) /\ (0 : Int) < (a.length : Int) then
      if ((List.getD a 0 0) != 1) = true then
       Q .ret (St1 3 (0, [], (0, 0, 0, (List.replicate 32 0), 0, 0, [], ()), ()))
      else
       if (decide ((a.length : Int) < 6)) = true then
        Q .ret (St1 4 (0, [], (0, 0, 0, (List.replicate 32 0), 0, 0, [], ()), ()))
       else
        if 0 <= (5 : Int) /\ (5 : Int) < (a.length : Int) then
         if (decide ((IntKind.i64.wrap (List.getD a 5 0)) > 19)) = true then
          Q .ret (St1 1 (0, [], (0, 0, 0, (List.replicate 32 0), 0, 0, [], ()), ()))
         else
          if (decide ((a.length : Int) < (IntKind.i64.wrap ((IntKind.i64.wrap (6 + (IntKind.i64.wrap (66 * (IntKind.i64.wrap (List.getD a 5 0)))))) + 55)))) = true then
           Q .ret (St1 4 (0, [], (0, 0, 0, (List.replicate 32 0), 0, 0, [], ()), ()))
          else
           if 0 <= (1 : Int) /\ (1 : Int) <= (5 : Int) /\ (5 : Int) <= (a.length : Int) then
            (basculeref_number.run (cutL a 1 5)).bind fun d =>
            if 0 <= (6 : Int) /\ (6 : Int) <= (a.length : Int) /\ (a.length : Int) <= (a.length : Int) then
             L cd0 (blkQ C 0 (sq D L Js C cd1 Q)) (St2 (cutL a 6 (a.length : Int)) (IntKind.i64.wrap (List.getD a 5 0)) 0 0 0 0 0 (List.replicate 32 0) 0 0 d 0 0 0 (List.replicate 32 0) 0 0 [])
            else none
           else none
        else none
     else none := by
  intro D L; kernel_rfl
 have h2 := via (k := k) h
 refine h2.trans ?_
 simp only [a0]
 first | rfl | kernel_rfl
def run (a : D4) : Option D56 := top (α := D50 × Int × Unit) fuel (fun b c => some (c, b, ())) a
def F : Fn := ⟨T25, T135, true, fun x => run x.1⟩
theorem con : Con Try.prog 69 F /\ Named Try.prog 69 :=
 con_of2 (C := C) (ctx_ok (by kernel_rfl) (by kernel_rfl) (by kernel_rfl) (by kernel_rfl) ⟨.inl basculeref_number.con, ⟨.inl basculeref_wideOf.con, ⟨.inl basculeref_word.con, ⟨.inl basculeref_PaperFault.con, trivial⟩⟩⟩⟩) (by kernel_rfl) Try.func69 (by kernel_rfl) (c := cB Try.f69) (by kernel_rfl) (by kernel_rfl) F (fun x => by simp [F, spread, Try.ntmps69]) (fun x => (St0 x.1)) (fun x => by kernel_rfl) fun x => (top_eq fuel _ x.1).trans (by kernel_rfl)
end Go.Bx.basculeref_PaperOf
namespace Go.Bx.log_tail
def Js : List Nat := [8]
def C : Ctx := ⟨[(5, T18), (29, T16)], [], [], fnL [], noSh, [], invL [], [(2, [2]), (1, [3]), (4, [3, 6, 7, 8]), (9, [3, 6, 7, 8]), (21, [3])], [], [], 0, 0⟩
def St0 (a : D4) : St := stL 17 [(0, .data T16 a)] []
def St1 (a : Int) (b : D4) (c d : Int) : St := stL 17 [(3, .data T18 a), (6, .data T16 b), (7, .data T1 c), (8, .data T1 d)] []
noncomputable def cd0 : Code := cL (cL (cR (cL (cR (cR (cB Try.f121))))))
def St2 (a : Int) : St := stL 17 [(3, .data T18 a)] []
def l0s (Nx : Int -> D4 -> Int -> Int -> Option α) (Xt0 : Int -> Option α) (c : Int) (b : D4) (d a : Int) : Option α :=
 if (decide (a < d)) = true then
  if 0 <= a /\ a < (b.length : Int) then
   Nx (IntKind.u8.wrap (c + (List.getD b (Int.toNat a) 0))) b d (IntKind.i64.wrap (a + 1))
  else none
 else
  Xt0 c
theorem l0s_eq (k : Nat) (next : St -> Option α) (Q : Ex -> St -> Option α) (a : Int) (b : D4) (c d : Int) :
  rnd C k cd0 9 Q next (St1 a b c d) = l0s (fun a b c d => next (St1 a b c d)) (fun a => Q (.exit 0) (St2 a)) a b c d := plainly Js (by kernel_rfl)
def l0 (k : Nat) (Xt0 : Int -> Option α) : Nat -> Int -> D4 -> Int -> Int -> Option α
 | 0, _, _, _, _ => none
 | n + 1, a, b, c, d => l0s (l0 k Xt0 n) Xt0 a b c d
theorem l0_eq (k : Nat) (Q : Ex -> St -> Option α) : ∀ (n : Nat) (a : Int) (b : D4) (c d : Int), iter (rnd C k cd0 9 Q) n (St1 a b c d) = l0 k (fun a => Q (.exit 0) (St2 a)) n a b c d
 | 0, _, _, _, _ => rfl
 | n + 1, a, b, c, d => (iter_succ _ _ _).trans ((l0s_eq k _ Q a b c d).trans (congrArg (fun N => l0s N (fun a => Q (.exit 0) (St2 a)) a b c d) (by funext; exact l0_eq k Q n _ _ _ _)))
noncomputable def cd1 : Code := cR (cR (cR (cB Try.f121)))
def St3 (a : Int) : St := stL 17 [(3, .data T18 a)] []
def St4 (a : Int) : St := stL 17 [(2, .data T18 a)] []
def j0 (Rt : Int -> Option α) (a : Int) : Option α :=
 Rt a
theorem j0_eq (k : Nat) (Q : Ex -> St -> Option α) (a : Int) :
  (den C k) cd1 Q (St3 a) = j0 (fun b => Q .ret (St4 b)) a := plainly Js (by kernel_rfl)
theorem a0 (k : Nat) (Q : Ex -> St -> Option α) (a : Int) (c : D4) (d e : Int) :
  (lp C k) cd0 (blkQ C 0 (sq (den C k) (lp C k) Js C cd1 Q)) (St1 a c d e) = l0 k (fun a => j0 (fun f => Q .ret (St4 f)) a) k a c d e :=
 (lp_iter 9 (by kernel_rfl)).trans ((l0_eq k _ k a c d e).trans (congrArg (fun X => l0 k X k a c d e) (funext fun a => (Eq.trans (b := (den C k) cd1 Q (St3 a)) (by kernel_rfl) (by simp only [j0_eq])))))
def top (k : Nat) (Rt : Int -> Option α) (a : D4) : Option α :=
 l0 k (fun b => j0 Rt b) k 0 a (a.length : Int) 0
theorem top_eq (k : Nat) (Q : Ex -> St -> Option α) (a : D4) :
  (den C k) (cB Try.f121) Q (St0 a) = top k (fun b => Q .ret (St4 b)) a := by
 have h : ∀ (D L : DT α), denJ D L Js C (cB Try.f121) Q (St0 a) =
    L cd0 (blkQ C 0 (sq D L Js C cd1 Q)) (St1 0 a (a.length : Int) 0) := by
  intro D L; kernel_rfl
 have h2 := via (k := k) h
 refine h2.trans ?_
 simp only [a0]
 first | rfl | kernel_rfl
def run (a : D4) : Option (Int) := top (α := Int) fuel (fun b => some b) a
def F : Fn := ⟨T25, T18, false, fun x => run x.1⟩
theorem con : Con Try.prog 121 F /\ Named Try.prog 121 :=
 con_of2 (C := C) (ctx_ok (by kernel_rfl) (by kernel_rfl) (by kernel_rfl) (by kernel_rfl) trivial) (by kernel_rfl) Try.func121 (by kernel_rfl) (c := cB Try.f121) (by kernel_rfl) (by kernel_rfl) F (fun x => by simp [F, spread, Try.ntmps121]) (fun x => (St0 x.1)) (fun x => by kernel_rfl) fun x => (top_eq fuel _ x.1).trans (by kernel_rfl)
end Go.Bx.log_tail
namespace Go.Bx.basculeref_logText
def Js : List Nat := [8]
def C : Ctx := ⟨[(3, T1), (5, T18), (9, .str), (22, T36), (29, T16)], [], [], fnL [(26, basculeref_big.F)], noSh, [], invL [], [(2, [2]), (1, [0, 3]), (4, [0, 3, 6, 7, 8]), (9, [0, 3, 6, 7, 8]), (21, [0, 3])], [], [], 0, 0⟩
def St0 (a : D4) : St := stL 28 [(0, .data T16 a)] []
def St1 (a : D4) (b : Int) (c : D4) (d e : Int) : St := stL 28 [(0, .data T16 a), (3, .data T1 b), (6, .data T16 c), (7, .data T1 d), (8, .data T1 e)] []
noncomputable def cd0 : Code := cL (cL (cR (cL (cR (cR (cB Try.f130))))))
def St2 (a : D4) (b : Int) : St := stL 28 [(0, .data T16 a), (3, .data T1 b)] []
def l0s (Nx : D4 -> Int -> D4 -> Int -> Int -> Option α) (Xt0 : D4 -> Int -> Option α) (c : D4) (d : Int) (b : D4) (e a : Int) : Option α :=
 if (decide (a < e)) = true then
  if 0 <= a /\ a < (b.length : Int) then
   Nx c (IntKind.i64.wrap (d + (IntKind.i64.wrap (List.getD b (Int.toNat a) 0)))) b e (IntKind.i64.wrap (a + 1))
  else none
 else
  Xt0 c d
theorem l0s_eq (k : Nat) (next : St -> Option α) (Q : Ex -> St -> Option α) (a : D4) (b : Int) (c : D4) (d e : Int) :
  rnd C k cd0 9 Q next (St1 a b c d e) = l0s (fun a b c d e => next (St1 a b c d e)) (fun a b => Q (.exit 0) (St2 a b)) a b c d e := plainly Js (by kernel_rfl)
def l0 (k : Nat) (Xt0 : D4 -> Int -> Option α) : Nat -> D4 -> Int -> D4 -> Int -> Int -> Option α
 | 0, _, _, _, _, _ => none
 | n + 1, a, b, c, d, e => l0s (l0 k Xt0 n) Xt0 a b c d e
theorem l0_eq (k : Nat) (Q : Ex -> St -> Option α) : ∀ (n : Nat) (a : D4) (b : Int) (c : D4) (d e : Int), iter (rnd C k cd0 9 Q) n (St1 a b c d e) = l0 k (fun a b => Q (.exit 0) (St2 a b)) n a b c d e
 | 0, _, _, _, _, _ => rfl
 | n + 1, a, b, c, d, e => (iter_succ _ _ _).trans ((l0s_eq k _ Q a b c d e).trans (congrArg (fun N => l0s N (fun a b => Q (.exit 0) (St2 a b)) a b c d e) (by funext; exact l0_eq k Q n _ _ _ _ _)))
noncomputable def cd1 : Code := cR (cR (cR (cB Try.f130)))
def St3 (a : D4) (b : Int) : St := stL 28 [(0, .data T16 a), (3, .data T1 b)] []
def St4 (a : D4) : St := stL 28 [(2, .data .str a)] []
def j0 (Rt : D4 -> Option α) (a : D4) (d : Int) : Option α :=
 (basculeref_big.run (IntKind.u64.wrap (a.length : Int)) 2).bind fun b =>
 if Nat.ble (b.length + a.length) 9223372036854775807 = true then
  (basculeref_big.run (IntKind.u64.wrap d) 1).bind fun c =>
  if Nat.ble ((b ++ a).length + c.length) 9223372036854775807 = true then
   Rt ((b ++ a) ++ c)
  else none
 else none
theorem j0_eq (k : Nat) (Q : Ex -> St -> Option α) (a : D4) (b : Int) :
  (den C k) cd1 Q (St3 a b) = j0 (fun c => Q .ret (St4 c)) a b := plainly Js (by kernel_rfl)
theorem a0 (k : Nat) (Q : Ex -> St -> Option α) (a : D4) (c : Int) (d : D4) (e f : Int) :
  (lp C k) cd0 (blkQ C 0 (sq (den C k) (lp C k) Js C cd1 Q)) (St1 a c d e f) = l0 k (fun a c => j0 (fun g => Q .ret (St4 g)) a c) k a c d e f :=
 (lp_iter 9 (by kernel_rfl)).trans ((l0_eq k _ k a c d e f).trans (congrArg (fun X => l0 k X k a c d e f) (funext fun a => funext fun c => (Eq.trans (b := (den C k) cd1 Q (St3 a c)) (by kernel_rfl) (by simp only [j0_eq])))))
def top (k : Nat) (Rt : D4 -> Option α) (a : D4) : Option α :=
 l0 k (fun a b => j0 Rt a b) k a 0 a (a.length : Int) 0
theorem top_eq (k : Nat) (Q : Ex -> St -> Option α) (a : D4) :
  (den C k) (cB Try.f130) Q (St0 a) = top k (fun b => Q .ret (St4 b)) a := by
 have h : ∀ (D L : DT α), denJ D L Js C (cB Try.f130) Q (St0 a) =
    L cd0 (blkQ C 0 (sq D L Js C cd1 Q)) (St1 a 0 a (a.length : Int) 0) := by
  intro D L; kernel_rfl
 have h2 := via (k := k) h
 refine h2.trans ?_
 simp only [a0]
 first | rfl | kernel_rfl
def run (a : D4) : Option D4 := top (α := List Int) fuel (fun b => some b) a
def F : Fn := ⟨T25, .str, false, fun x => run x.1⟩
theorem con : Con Try.prog 130 F /\ Named Try.prog 130 :=
 con_of2 (C := C) (ctx_ok (by kernel_rfl) (by kernel_rfl) (by kernel_rfl) (by kernel_rfl) ⟨.inl basculeref_big.con, trivial⟩) (by kernel_rfl) Try.func130 (by kernel_rfl) (c := cB Try.f130) (by kernel_rfl) (by kernel_rfl) F (fun x => by simp [F, spread, Try.ntmps130]) (fun x => (St0 x.1)) (fun x => by kernel_rfl) fun x => (top_eq fuel _ x.1).trans (by kernel_rfl)
end Go.Bx.basculeref_logText
namespace Go.Bx.log_Open
def Js : List Nat := [12]
def C : Ctx := ⟨[(3, T1), (5, T18), (29, T16), (31, T21), (96, T123)], [], [], fnL [(121, log_tail.F)], noSh, [], invL [], [(2, [2, 3]), (1, [5, 6]), (4, [4, 5, 6]), (7, [4, 5, 6, 7]), (12, [4, 5, 6]), (33, [5, 6])], [(12, [.melt true 6 [] 72 true])], [11, 70], 0, 0⟩
def St0 (a : D9) : St := stL 79 [(0, .data T21 a)] []
def St1 (a : Int) (b : D4) (c : D21) : St := stL 79 [(4, .app 11 0), (5, .data T1 a), (6, .app 72 0)] [(11, .buf T18 b 0 true), (72, .buf T16 c 0 true)]
noncomputable def cd0 : Code := cL (cL (cL (cR (cR (cR (cR (cL (cR (cB Try.f61)))))))))
def St2 (a : Int) (b : D21) : St := stL 79 [(5, .data T1 a), (6, .app 72 0)] [(72, .buf T16 b 0 true)]
def l0s (Nx : Int -> D4 -> D21 -> Option α) (Xt0 : Int -> D21 -> Option α) (a : Int) (b : D4) (c : D21) : Option α :=
 if (decide ((IntKind.i64.wrap ((b.length : Int) - a)) >= 3)) = true then
  if 0 <= a /\ a < (b.length : Int) then
   if 0 <= (IntKind.i64.wrap (a + 1)) /\ (IntKind.i64.wrap (a + 1)) < (b.length : Int) then
    if (decide ((bor .i64 (shlI .i64 (IntKind.i64.wrap (List.getD b (Int.toNat a) 0)) 8) (IntKind.i64.wrap (List.getD b (Int.toNat (IntKind.i64.wrap (a + 1))) 0))) > 200)) = true then
     if (decide ((bor .i64 (shlI .i64 (IntKind.i64.wrap (List.getD b (Int.toNat a) 0)) 8) (IntKind.i64.wrap (List.getD b (Int.toNat (IntKind.i64.wrap (a + 1))) 0))) > 200)) = true then
      Xt0 a c
     else
      if 0 <= (IntKind.i64.wrap (a + 2)) /\ (IntKind.i64.wrap (a + 2)) <= (IntKind.i64.wrap ((IntKind.i64.wrap (a + 2)) + (bor .i64 (shlI .i64 (IntKind.i64.wrap (List.getD b (Int.toNat a) 0)) 8) (IntKind.i64.wrap (List.getD b (Int.toNat (IntKind.i64.wrap (a + 1))) 0))))) /\ (IntKind.i64.wrap ((IntKind.i64.wrap (a + 2)) + (bor .i64 (shlI .i64 (IntKind.i64.wrap (List.getD b (Int.toNat a) 0)) 8) (IntKind.i64.wrap (List.getD b (Int.toNat (IntKind.i64.wrap (a + 1))) 0))))) <= (b.length : Int) then
       if fitB (0 + (cutL b (IntKind.i64.wrap (a + 2)) (IntKind.i64.wrap ((IntKind.i64.wrap (a + 2)) + (bor .i64 (shlI .i64 (IntKind.i64.wrap (List.getD b (Int.toNat a) 0)) 8) (IntKind.i64.wrap (List.getD b (Int.toNat (IntKind.i64.wrap (a + 1))) 0)))))).length) 1 = true then
        if fitB (c.length + 1) 24 = true then
         Nx (IntKind.i64.wrap (a + (IntKind.i64.wrap ((bor .i64 (shlI .i64 (IntKind.i64.wrap (List.getD b (Int.toNat a) 0)) 8) (IntKind.i64.wrap (List.getD b (Int.toNat (IntKind.i64.wrap (a + 1))) 0))) + 3)))) b (c ++ [(cutL b (IntKind.i64.wrap (a + 2)) (IntKind.i64.wrap ((IntKind.i64.wrap (a + 2)) + (bor .i64 (shlI .i64 (IntKind.i64.wrap (List.getD b (Int.toNat a) 0)) 8) (IntKind.i64.wrap (List.getD b (Int.toNat (IntKind.i64.wrap (a + 1))) 0))))))])
        else none
       else none
      else none
    else
     if (decide ((IntKind.i64.wrap ((b.length : Int) - a)) < (IntKind.i64.wrap ((bor .i64 (shlI .i64 (IntKind.i64.wrap (List.getD b (Int.toNat a) 0)) 8) (IntKind.i64.wrap (List.getD b (Int.toNat (IntKind.i64.wrap (a + 1))) 0))) + 3)))) = true then
      if (decide ((IntKind.i64.wrap ((b.length : Int) - a)) < (IntKind.i64.wrap ((bor .i64 (shlI .i64 (IntKind.i64.wrap (List.getD b (Int.toNat a) 0)) 8) (IntKind.i64.wrap (List.getD b (Int.toNat (IntKind.i64.wrap (a + 1))) 0))) + 3)))) = true then
       Xt0 a c
      else
       if 0 <= (IntKind.i64.wrap (a + 2)) /\ (IntKind.i64.wrap (a + 2)) <= (IntKind.i64.wrap ((IntKind.i64.wrap (a + 2)) + (bor .i64 (shlI .i64 (IntKind.i64.wrap (List.getD b (Int.toNat a) 0)) 8) (IntKind.i64.wrap (List.getD b (Int.toNat (IntKind.i64.wrap (a + 1))) 0))))) /\ (IntKind.i64.wrap ((IntKind.i64.wrap (a + 2)) + (bor .i64 (shlI .i64 (IntKind.i64.wrap (List.getD b (Int.toNat a) 0)) 8) (IntKind.i64.wrap (List.getD b (Int.toNat (IntKind.i64.wrap (a + 1))) 0))))) <= (b.length : Int) then
        if fitB (0 + (cutL b (IntKind.i64.wrap (a + 2)) (IntKind.i64.wrap ((IntKind.i64.wrap (a + 2)) + (bor .i64 (shlI .i64 (IntKind.i64.wrap (List.getD b (Int.toNat a) 0)) 8) (IntKind.i64.wrap (List.getD b (Int.toNat (IntKind.i64.wrap (a + 1))) 0)))))).length) 1 = true then
         if fitB (c.length + 1) 24 = true then
          Nx (IntKind.i64.wrap (a + (IntKind.i64.wrap ((bor .i64 (shlI .i64 (IntKind.i64.wrap (List.getD b (Int.toNat a) 0)) 8) (IntKind.i64.wrap (List.getD b (Int.toNat (IntKind.i64.wrap (a + 1))) 0))) + 3)))) b (c ++ [(cutL b (IntKind.i64.wrap (a + 2)) (IntKind.i64.wrap ((IntKind.i64.wrap (a + 2)) + (bor .i64 (shlI .i64 (IntKind.i64.wrap (List.getD b (Int.toNat a) 0)) 8) (IntKind.i64.wrap (List.getD b (Int.toNat (IntKind.i64.wrap (a + 1))) 0))))))])
         else none
        else none
       else none
     else
      if 0 <= (IntKind.i64.wrap (a + 2)) /\ (IntKind.i64.wrap (a + 2)) <= (IntKind.i64.wrap ((IntKind.i64.wrap (a + 2)) + (bor .i64 (shlI .i64 (IntKind.i64.wrap (List.getD b (Int.toNat a) 0)) 8) (IntKind.i64.wrap (List.getD b (Int.toNat (IntKind.i64.wrap (a + 1))) 0))))) /\ (IntKind.i64.wrap ((IntKind.i64.wrap (a + 2)) + (bor .i64 (shlI .i64 (IntKind.i64.wrap (List.getD b (Int.toNat a) 0)) 8) (IntKind.i64.wrap (List.getD b (Int.toNat (IntKind.i64.wrap (a + 1))) 0))))) <= (b.length : Int) then
       (log_tail.run (cutL b (IntKind.i64.wrap (a + 2)) (IntKind.i64.wrap ((IntKind.i64.wrap (a + 2)) + (bor .i64 (shlI .i64 (IntKind.i64.wrap (List.getD b (Int.toNat a) 0)) 8) (IntKind.i64.wrap (List.getD b (Int.toNat (IntKind.i64.wrap (a + 1))) 0))))))).bind fun d =>
       if 0 <= (IntKind.i64.wrap ((IntKind.i64.wrap (a + 2)) + (bor .i64 (shlI .i64 (IntKind.i64.wrap (List.getD b (Int.toNat a) 0)) 8) (IntKind.i64.wrap (List.getD b (Int.toNat (IntKind.i64.wrap (a + 1))) 0))))) /\ (IntKind.i64.wrap ((IntKind.i64.wrap (a + 2)) + (bor .i64 (shlI .i64 (IntKind.i64.wrap (List.getD b (Int.toNat a) 0)) 8) (IntKind.i64.wrap (List.getD b (Int.toNat (IntKind.i64.wrap (a + 1))) 0))))) < (b.length : Int) then
        if (d != (List.getD b (Int.toNat (IntKind.i64.wrap ((IntKind.i64.wrap (a + 2)) + (bor .i64 (shlI .i64 (IntKind.i64.wrap (List.getD b (Int.toNat a) 0)) 8) (IntKind.i64.wrap (List.getD b (Int.toNat (IntKind.i64.wrap (a + 1))) 0)))))) 0)) = true then
         Xt0 a c
        else
         if 0 <= (IntKind.i64.wrap (a + 2)) /\ (IntKind.i64.wrap (a + 2)) <= (IntKind.i64.wrap ((IntKind.i64.wrap (a + 2)) + (bor .i64 (shlI .i64 (IntKind.i64.wrap (List.getD b (Int.toNat a) 0)) 8) (IntKind.i64.wrap (List.getD b (Int.toNat (IntKind.i64.wrap (a + 1))) 0))))) /\ (IntKind.i64.wrap ((IntKind.i64.wrap (a + 2)) + (bor .i64 (shlI .i64 (IntKind.i64.wrap (List.getD b (Int.toNat a) 0)) 8) (IntKind.i64.wrap (List.getD b (Int.toNat (IntKind.i64.wrap (a + 1))) 0))))) <= (b.length : Int) then
          if fitB (0 + (cutL b (IntKind.i64.wrap (a + 2)) (IntKind.i64.wrap ((IntKind.i64.wrap (a + 2)) + (bor .i64 (shlI .i64 (IntKind.i64.wrap (List.getD b (Int.toNat a) 0)) 8) (IntKind.i64.wrap (List.getD b (Int.toNat (IntKind.i64.wrap (a + 1))) 0)))))).length) 1 = true then
           if fitB (c.length + 1) 24 = true then
            Nx (IntKind.i64.wrap (a + (IntKind.i64.wrap ((bor .i64 (shlI .i64 (IntKind.i64.wrap (List.getD b (Int.toNat a) 0)) 8) (IntKind.i64.wrap (List.getD b (Int.toNat (IntKind.i64.wrap (a + 1))) 0))) + 3)))) b (c ++ [(cutL b (IntKind.i64.wrap (a + 2)) (IntKind.i64.wrap ((IntKind.i64.wrap (a + 2)) + (bor .i64 (shlI .i64 (IntKind.i64.wrap (List.getD b (Int.toNat a) 0)) 8) (IntKind.i64.wrap (List.getD b (Int.toNat (IntKind.i64.wrap (a + 1))) 0))))))])
           else none
          else none
         else none
       else none
      else none
   else none
  else none
 else
  Xt0 a c
theorem l0s_eq (k : Nat) (next : St -> Option α) (Q : Ex -> St -> Option α) (a : Int) (c : D4) (b : D21) :
  rnd C k cd0 12 Q next (St1 a c b) = l0s (fun a c b => next (St1 a c b)) (fun a b => Q (.exit 0) (St2 a b)) a c b := plainly Js (by kernel_rfl)
def l0 (k : Nat) (Xt0 : Int -> D21 -> Option α) : Nat -> Int -> D4 -> D21 -> Option α
 | 0, _, _, _ => none
 | n + 1, a, b, c => l0s (l0 k Xt0 n) Xt0 a b c
theorem l0_eq (k : Nat) (Q : Ex -> St -> Option α) : ∀ (n : Nat) (a : Int) (c : D4) (b : D21), iter (rnd C k cd0 12 Q) n (St1 a c b) = l0 k (fun a b => Q (.exit 0) (St2 a b)) n a c b
 | 0, _, _, _ => rfl
 | n + 1, a, c, b => (iter_succ _ _ _).trans ((l0s_eq k _ Q a c b).trans (congrArg (fun N => l0s N (fun a b => Q (.exit 0) (St2 a b)) a c b) (by funext; exact l0_eq k Q n _ _ _)))
noncomputable def cd1 : Code := cR (cR (cR (cR (cR (cL (cR (cB Try.f61)))))))
def St3 (a : Int) (b : D21) : St := stL 79 [(5, .data T1 a), (6, .app 72 0)] [(72, .buf T16 b 0 true)]
def St4 (a : Int) (b : D21) : St := stL 79 [(2, .app 72 0), (3, .data T1 a)] [(72, .buf T16 b 0 true)]
def j0 (Rt : Int -> D21 -> Option α) (a : Int) (b : D21) : Option α :=
 Rt a b
theorem j0_eq (k : Nat) (Q : Ex -> St -> Option α) (b : Int) (a : D21) :
  (den C k) cd1 Q (St3 b a) = j0 (fun c a => Q .ret (St4 c a)) b a := plainly Js (by kernel_rfl)
theorem a0 (k : Nat) (Q : Ex -> St -> Option α) (c : Int) (d : D4) (a : D21) :
  (lp C k) cd0 (blkQ C 0 (sq (den C k) (lp C k) Js C cd1 Q)) (St1 c d a) = l0 k (fun c a => j0 (fun e a => Q .ret (St4 e a)) c a) k c d a :=
 (lp_iter 12 (by kernel_rfl)).trans ((l0_eq k _ k c d a).trans (congrArg (fun X => l0 k X k c d a) (funext fun c => funext fun a => (Eq.trans (b := (den C k) cd1 Q (St3 c a)) (by kernel_rfl) (by simp only [j0_eq])))))
def top (k : Nat) (Rt : Int -> D21 -> Option α) (a : D9) : Option α :=
 if fitB (0 + a.1.length) 1 = true then
  if fitB (a.1.length + a.2.1.length) 1 = true then
   l0 k (fun b c => j0 Rt b c) k 0 (a.1 ++ a.2.1) []
  else none
 else none
theorem top_eq (k : Nat) (Q : Ex -> St -> Option α) (a : D9) :
  (den C k) (cB Try.f61) Q (St0 a) = top k (fun b c => Q .ret (St4 b c)) a := by
 have h : ∀ (D L : DT α), denJ D L Js C (cB Try.f61) Q (St0 a) =
    if fitB (0 + a.1.length) 1 = true then
     if fitB (a.1.length + a.2.1.length) 1 = true then
      L cd0 (blkQ C 0 (sq D L Js C cd1 Q)) (St1 0 (a.1 ++ a.2.1) [])
     else none
    else none := by
  intro D L; kernel_rfl
 have h2 := via (k := k) h
 refine h2.trans ?_
 simp only [a0]
 first | rfl | kernel_rfl
def run (a : D9) : Option D49 := top (α := List D4 × Int × Unit) fuel (fun b c => some (c, b, ())) a
def F : Fn := ⟨T28, T124, true, fun x => run x.1⟩
theorem con : Con Try.prog 61 F /\ Named Try.prog 61 :=
 con_of2 (C := C) (ctx_ok (by kernel_rfl) (by kernel_rfl) (by kernel_rfl) (by kernel_rfl) ⟨.inl log_tail.con, trivial⟩) (by kernel_rfl) Try.func61 (by kernel_rfl) (c := cB Try.f61) (by kernel_rfl) (by kernel_rfl) F (fun x => by simp [F, spread, Try.ntmps61]) (fun x => (St0 x.1)) (fun x => by kernel_rfl) fun x => (top_eq fuel _ x.1).trans (by kernel_rfl)
end Go.Bx.log_Open
namespace Go.Bx.log_Mend
def Js : List Nat := []
def C : Ctx := ⟨[(29, T16), (31, T21), (35, T1)], [], [], fnL [(61, log_Open.F)], noSh, [], invL [], [(2, [2, 3])], [(2, [.dat false 2 [0]])], [21], 0, 0⟩
def St0 (a : D9) : St := stL 23 [(0, .data T21 a)] []
def St1 (a : Int) (b : D4) : St := stL 23 [(2, .ref 2 0 []), (3, .data T1 a)] [(2, .cell T21 (.agg T21 [.data T16 b, .full T18 []]) false)]
def top (Rt : Int -> D4 -> Option α) (a : D9) : Option α :=
 if (decide ((a.2.1.length : Int) > 0)) = true then
  Rt 12 []
 else
  (log_Open.run a).bind fun b =>
  if 0 <= (0 : Int) /\ (0 : Int) <= b.2.1 /\ b.2.1 <= (a.1.length : Int) then
   if fitB (0 + (cutL a.1 0 b.2.1).length) 1 = true then
    Rt 0 (cutL a.1 0 b.2.1)
   else none
  else none
theorem top_eq (k : Nat) (Q : Ex -> St -> Option α) (a : D9) :
  (den C k) (cB Try.f60) Q (St0 a) = top (fun b c => Q .ret (St1 b c)) a := plainly Js (by kernel_rfl)
def run (a : D9) : Option D10 := top (α := D9 × Int × Unit) (fun b c => some ((c, [], ()), b, ())) a
def F : Fn := ⟨T28, T27, true, fun x => run x.1⟩
theorem con : Con Try.prog 60 F /\ Named Try.prog 60 :=
 con_of2 (C := C) (ctx_ok (by kernel_rfl) (by kernel_rfl) (by kernel_rfl) (by kernel_rfl) ⟨.inl log_Open.con, trivial⟩) (by kernel_rfl) Try.func60 (by kernel_rfl) (c := cB Try.f60) (by kernel_rfl) (by kernel_rfl) F (fun x => by simp [F, spread, Try.ntmps60]) (fun x => (St0 x.1)) (fun x => by kernel_rfl) fun x => (top_eq fuel _ x.1).trans (by kernel_rfl)
end Go.Bx.log_Mend
namespace Go.Bx.basculeref_LogRecords
def Js : List Nat := [11]
def C : Ctx := ⟨[(3, T1), (9, .str), (29, T16), (31, T21), (96, T123)], [], [], fnL [(70, basculeref_number.F), (130, basculeref_logText.F)], noSh, [], invL [], [(2, [2, 3]), (1, [4, 5, 6]), (4, [4, 5, 6]), (12, [4, 5, 6]), (30, [4, 5, 6])], [(12, [.melt true 6 [] 48 true])], [], 0, 0⟩
def St0 (a : D9) : St := stL 58 [(0, .data T21 a)] []
def St1 (a : D4) (b : Int) (c : D21) : St := stL 58 [(4, .data .str a), (5, .data T1 b), (6, .app 48 0)] [(48, .buf T16 c 0 true)]
noncomputable def cd0 : Code := cL (cL (cL (cR (cR (cR (cR (cB Try.f68)))))))
def St2 (a : D4) (b : Int) (c : D21) : St := stL 58 [(4, .data .str a), (5, .data T1 b), (6, .app 48 0)] [(48, .buf T16 c 0 true)]
def l0s (Nx : D4 -> Int -> D21 -> Option α) (Xt0 : D4 -> Int -> D21 -> Option α) (a : D4) (d : Int) (c : D21) : Option α :=
 if (decide ((a.length : Int) >= 3)) = true then
  if 0 <= (0 : Int) /\ (0 : Int) <= (2 : Int) /\ (2 : Int) <= (a.length : Int) then
   (basculeref_number.run (cutL a 0 2)).bind fun b =>
   if (cond (decide (b > 200)) true (decide ((IntKind.i64.wrap (b + 3)) > (a.length : Int)))) = true then
    Xt0 a d c
   else
    if 0 <= (2 : Int) /\ (2 : Int) <= (IntKind.i64.wrap (2 + b)) /\ (IntKind.i64.wrap (2 + b)) <= (a.length : Int) then
     (basculeref_logText.run (cutL a 2 (IntKind.i64.wrap (2 + b)))).bind fun e =>
     if 0 <= (0 : Int) /\ (0 : Int) <= (IntKind.i64.wrap (b + 3)) /\ (IntKind.i64.wrap (b + 3)) <= (a.length : Int) then
      if (not (beqD .str e (cutL a 0 (IntKind.i64.wrap (b + 3))))) = true then
       Xt0 a d c
      else
       if fitB (c.length + 1) 24 = true then
        if 0 <= (IntKind.i64.wrap (b + 3)) /\ (IntKind.i64.wrap (b + 3)) <= (a.length : Int) /\ (a.length : Int) <= (a.length : Int) then
         Nx (cutL a (IntKind.i64.wrap (b + 3)) (a.length : Int)) d (c ++ [(cutL a 2 (IntKind.i64.wrap (2 + b)))])
        else none
       else none
     else none
    else none
  else none
 else
  Xt0 a d c
theorem l0s_eq (k : Nat) (next : St -> Option α) (Q : Ex -> St -> Option α) (a : D4) (b : Int) (c : D21) :
  rnd C k cd0 12 Q next (St1 a b c) = l0s (fun a b c => next (St1 a b c)) (fun a b c => Q (.exit 0) (St2 a b c)) a b c := plainly Js (by kernel_rfl)
def l0 (k : Nat) (Xt0 : D4 -> Int -> D21 -> Option α) : Nat -> D4 -> Int -> D21 -> Option α
 | 0, _, _, _ => none
 | n + 1, a, b, c => l0s (l0 k Xt0 n) Xt0 a b c
theorem l0_eq (k : Nat) (Q : Ex -> St -> Option α) : ∀ (n : Nat) (a : D4) (b : Int) (c : D21), iter (rnd C k cd0 12 Q) n (St1 a b c) = l0 k (fun a b c => Q (.exit 0) (St2 a b c)) n a b c
 | 0, _, _, _ => rfl
 | n + 1, a, b, c => (iter_succ _ _ _).trans ((l0s_eq k _ Q a b c).trans (congrArg (fun N => l0s N (fun a b c => Q (.exit 0) (St2 a b c)) a b c) (by funext; exact l0_eq k Q n _ _ _)))
noncomputable def cd1 : Code := cR (cR (cR (cR (cR (cB Try.f68)))))
def St3 (a : D4) (b : Int) (c : D21) : St := stL 58 [(4, .data .str a), (5, .data T1 b), (6, .app 48 0)] [(48, .buf T16 c 0 true)]
def St4 (a : Int) (b : D21) : St := stL 58 [(2, .app 48 0), (3, .data T1 a)] [(48, .buf T16 b 0 true)]
def j0 (Rt : Int -> D21 -> Option α) (a : D4) (b : Int) (c : D21) : Option α :=
 Rt (IntKind.i64.wrap (b - (a.length : Int))) c
theorem j0_eq (k : Nat) (Q : Ex -> St -> Option α) (b : D4) (c : Int) (a : D21) :
  (den C k) cd1 Q (St3 b c a) = j0 (fun d a => Q .ret (St4 d a)) b c a := plainly Js (by kernel_rfl)
theorem a0 (k : Nat) (Q : Ex -> St -> Option α) (c : D4) (d : Int) (a : D21) :
  (lp C k) cd0 (blkQ C 0 (sq (den C k) (lp C k) Js C cd1 Q)) (St1 c d a) = l0 k (fun c d a => j0 (fun e a => Q .ret (St4 e a)) c d a) k c d a :=
 (lp_iter 12 (by kernel_rfl)).trans ((l0_eq k _ k c d a).trans (congrArg (fun X => l0 k X k c d a) (funext fun c => funext fun d => funext fun a => (Eq.trans (b := (den C k) cd1 Q (St3 c d a)) (by kernel_rfl) (by simp only [j0_eq])))))
def top (k : Nat) (Rt : Int -> D21 -> Option α) (a : D9) : Option α :=
 if Nat.ble (a.1.length + a.2.1.length) 9223372036854775807 = true then
  l0 k (fun b c d => j0 Rt b c d) k (a.1 ++ a.2.1) ((a.1 ++ a.2.1).length : Int) []
 else none
theorem top_eq (k : Nat) (Q : Ex -> St -> Option α) (a : D9) :
  (den C k) (cB Try.f68) Q (St0 a) = top k (fun b c => Q .ret (St4 b c)) a := by
 have h : ∀ (D L : DT α), denJ D L Js C (cB Try.f68) Q (St0 a) =
    if Nat.ble (a.1.length + a.2.1.length) 9223372036854775807 = true then
     L cd0 (blkQ C 0 (sq D L Js C cd1 Q)) (St1 (a.1 ++ a.2.1) ((a.1 ++ a.2.1).length : Int) [])
    else none := by
  intro D L; kernel_rfl
 have h2 := via (k := k) h
 refine h2.trans ?_
 simp only [a0]
 first | rfl | kernel_rfl
def run (a : D9) : Option D49 := top (α := List D4 × Int × Unit) fuel (fun b c => some (c, b, ())) a
def F : Fn := ⟨T28, T124, true, fun x => run x.1⟩
theorem con : Con Try.prog 68 F /\ Named Try.prog 68 :=
 con_of2 (C := C) (ctx_ok (by kernel_rfl) (by kernel_rfl) (by kernel_rfl) (by kernel_rfl) ⟨.inl basculeref_number.con, ⟨.inl basculeref_logText.con, trivial⟩⟩) (by kernel_rfl) Try.func68 (by kernel_rfl) (c := cB Try.f68) (by kernel_rfl) (by kernel_rfl) F (fun x => by simp [F, spread, Try.ntmps68]) (fun x => (St0 x.1)) (fun x => by kernel_rfl) fun x => (top_eq fuel _ x.1).trans (by kernel_rfl)
end Go.Bx.basculeref_LogRecords
namespace Go.Bx.basculeref_LogMended
def Js : List Nat := []
def C : Ctx := ⟨[(9, .str), (29, T16), (31, T21), (35, T1)], [], [], fnL [(68, basculeref_LogRecords.F)], noSh, [], invL [], [(2, [2, 3])], [(2, [.dat false 2 [0]])], [], 0, 0⟩
def St0 (a : D9) : St := stL 23 [(0, .data T21 a)] []
def St1 (a : Int) (b : D4) : St := stL 23 [(2, .ref 2 0 []), (3, .data T1 a)] [(2, .cell T21 (.agg T21 [.data T16 b, .full T18 []]) false)]
def top (Rt : Int -> D4 -> Option α) (a : D9) : Option α :=
 if (decide ((a.2.1.length : Int) > 0)) = true then
  Rt 12 []
 else
  (basculeref_LogRecords.run a).bind fun b =>
  if 0 <= (0 : Int) /\ (0 : Int) <= b.2.1 /\ b.2.1 <= (a.1.length : Int) then
   Rt 0 (cutL a.1 0 b.2.1)
  else none
theorem top_eq (k : Nat) (Q : Ex -> St -> Option α) (a : D9) :
  (den C k) (cB Try.f67) Q (St0 a) = top (fun b c => Q .ret (St1 b c)) a := plainly Js (by kernel_rfl)
def run (a : D9) : Option D10 := top (α := D9 × Int × Unit) (fun b c => some ((c, [], ()), b, ())) a
def F : Fn := ⟨T28, T27, true, fun x => run x.1⟩
theorem con : Con Try.prog 67 F /\ Named Try.prog 67 :=
 con_of2 (C := C) (ctx_ok (by kernel_rfl) (by kernel_rfl) (by kernel_rfl) (by kernel_rfl) ⟨.inl basculeref_LogRecords.con, trivial⟩) (by kernel_rfl) Try.func67 (by kernel_rfl) (c := cB Try.f67) (by kernel_rfl) (by kernel_rfl) F (fun x => by simp [F, spread, Try.ntmps67]) (fun x => (St0 x.1)) (fun x => by kernel_rfl) fun x => (top_eq fuel _ x.1).trans (by kernel_rfl)
end Go.Bx.basculeref_LogMended
namespace Go.Bx.gate_value
def Js : List Nat := []
def C : Ctx := ⟨[(3, T1), (4, .bool)], [], [], fnL [], noSh, [], invL [], [(2, [2])], [], [], 0, 0⟩
def St0 (a : Int) : St := stL 9 [(0, .data T1 a)] []
def St1 (a : Bool) : St := stL 9 [(2, .data .bool a)] []
def top (Rt : Bool -> Option α) (a : Int) : Option α :=
 Rt (cond (decide (a >= 0)) (decide (a <= 1073741824)) false)
theorem top_eq (k : Nat) (Q : Ex -> St -> Option α) (a : Int) :
  (den C k) (cB Try.f151) Q (St0 a) = top (fun b => Q .ret (St1 b)) a := plainly Js (by kernel_rfl)
def run (a : Int) : Option (Bool) := top (α := Bool) (fun b => some b) a
def F : Fn := ⟨T4, .bool, false, fun x => run x.1⟩
theorem con : Con Try.prog 151 F /\ Named Try.prog 151 :=
 con_of2 (C := C) (ctx_ok (by kernel_rfl) (by kernel_rfl) (by kernel_rfl) (by kernel_rfl) trivial) (by kernel_rfl) Try.func151 (by kernel_rfl) (c := cB Try.f151) (by kernel_rfl) (by kernel_rfl) F (fun x => by simp [F, spread, Try.ntmps151]) (fun x => (St0 x.1)) (fun x => by kernel_rfl) fun x => (top_eq fuel _ x.1).trans (by kernel_rfl)
end Go.Bx.gate_value
namespace Go.Bx.gate_Check
def Js : List Nat := [10, 20, 21]
def C : Ctx := ⟨[(3, T1), (25, T5), (26, T6), (28, T7), (35, T1), (165, T8)], [], [], fnL [(151, gate_value.F)], noSh, [], invL [], [(2, [2]), (7, [3]), (10, [1, 3, 5, 54, 55, 56]), (13, [1, 3, 5, 54, 55, 56]), (16, [1, 3, 5, 7, 54, 55, 56, 91, 92, 93]), (1, [1, 3]), (4, [1, 3, 28]), (15, [1, 3, 28]), (27, [1, 3]), (33, [1, 3, 5, 54, 55, 56]), (45, [1, 3, 5, 7, 54, 55, 56, 91, 92, 93]), (57, [1, 3, 5, 54, 55, 56]), (60, [3])], [], [50], 0, 0⟩
def St0 (a : D1) : St := stL 109 [(0, .data T7 a)] []
def St1 (a : Int) : St := stL 109 [(2, .data T1 a)] []
def St2 (a : Bool) (b : Int) (c : D1) : St := stL 109 [(1, .ref 1 0 []), (3, .data .bool a), (28, .data T1 b)] [(1, .cell T7 (.data T7 c) false)]
noncomputable def cd0 : Code := cL (cL (cR (cL (cR (cR (cR (cB Try.f120)))))))
def St3 (a : Bool) (b : D1) : St := stL 109 [(1, .ref 1 0 []), (3, .data .bool a)] [(1, .cell T7 (.data T7 b) false)]
def l0s (Nx : Bool -> Int -> D1 -> Option α) (Xt0 : Bool -> D1 -> Option α) (b : Bool) (a : Int) (c : D1) : Option α :=
 if (decide (a < 3)) = true then
  cond (decide (0 <= a /\ a < (3 : Int)) || !(b == true)) (
   (if (b == true) = true then gate_value.run (List.getD c.1 (Int.toNat a) 0) else some false).bind fun d =>
   cond (decide (0 <= a /\ a < (3 : Int)) || !((cond b d false) == true)) (
    (if ((cond b d false) == true) = true then gate_value.run (List.getD c.2.1 (Int.toNat a) 0) else some false).bind fun e =>
    Nx (cond (cond b d false) e false) (IntKind.i64.wrap (a + 1)) c) none) none
 else
  Xt0 b c
theorem l0s_eq (k : Nat) (next : St -> Option α) (Q : Ex -> St -> Option α) (a : Bool) (c : Int) (b : D1) :
  rnd C k cd0 15 Q next (St2 a c b) = l0s (fun a c b => next (St2 a c b)) (fun a b => Q (.exit 0) (St3 a b)) a c b := plainly Js (by kernel_rfl)
def l0 (k : Nat) (Xt0 : Bool -> D1 -> Option α) : Nat -> Bool -> Int -> D1 -> Option α
 | 0, _, _, _ => none
 | n + 1, a, b, c => l0s (l0 k Xt0 n) Xt0 a b c
theorem l0_eq (k : Nat) (Q : Ex -> St -> Option α) : ∀ (n : Nat) (a : Bool) (c : Int) (b : D1), iter (rnd C k cd0 15 Q) n (St2 a c b) = l0 k (fun a b => Q (.exit 0) (St3 a b)) n a c b
 | 0, _, _, _ => rfl
 | n + 1, a, c, b => (iter_succ _ _ _).trans ((l0s_eq k _ Q a c b).trans (congrArg (fun N => l0s N (fun a b => Q (.exit 0) (St3 a b)) a c b) (by funext; exact l0_eq k Q n _ _ _)))
noncomputable def cd1 : Code := cR (cR (cR (cR (cB Try.f120))))
def St4 (a : Bool) (b : D1) : St := stL 109 [(1, .ref 1 0 []), (3, .data .bool a)] [(1, .cell T7 (.data T7 b) false)]
def St5 (a : Bool) (b c : Int) (d : D1) (e : D2) : St := stL 109 [(1, .ref 1 0 []), (3, .data .bool a), (5, .app 50 0), (54, .app 50 0), (55, .data T1 b), (56, .data T1 c)] [(1, .cell T7 (.data T7 d) false), (50, .buf T8 e 0 true)]
noncomputable def cd2 : Code := cL (cL (cR (cL (cR (cR (cR (cR (cR (cB Try.f120)))))))))
def St6 (a : Bool) (b c : Int) (d : D2) (e f : Int) (g : D1) (i : D3) (j : D2) : St := stL 109 [(1, .ref 1 0 []), (3, .data .bool a), (5, .app 50 0), (7, .ref 7 0 []), (54, .app 50 0), (55, .data T1 b), (56, .data T1 c), (91, .data T6 d), (92, .data T1 e), (93, .data T1 f)] [(1, .cell T7 (.data T7 g) false), (7, .cell T8 (.data T8 i) false), (50, .buf T8 j 0 true)]
noncomputable def cd3 : Code := cL (cL (cR (cR (cR (cL (cL (cR (cR (cL (cL (cR (cL (cR (cR (cR (cR (cR (cB Try.f120))))))))))))))))))
def St7 (a : Bool) (b c : Int) (d : D1) (e : D2) : St := stL 109 [(1, .ref 1 0 []), (3, .data .bool a), (5, .app 50 0), (54, .app 50 0), (55, .data T1 b), (56, .data T1 c)] [(1, .cell T7 (.data T7 d) false), (50, .buf T8 e 0 true)]
def l2s (Nx : Bool -> Int -> Int -> D2 -> Int -> Int -> D1 -> D3 -> D2 -> Option α) (Xt4 : Bool -> Int -> Int -> D1 -> D2 -> Option α) (c : Bool) (d e : Int) (b : D2) (f a : Int) (g : D1) (i : D3) (j : D2) : Option α :=
 if (decide (a < f)) = true then
  if 0 <= a /\ a < (b.length : Int) then
   Nx (cond c (i.1 != (List.getD b (Int.toNat a) (0, 0, 0, 0, ())).1) false) d e b f (IntKind.i64.wrap (a + 1)) g i j
  else none
 else
  Xt4 c d e g j
theorem l2s_eq (k : Nat) (next : St -> Option α) (Q : Ex -> St -> Option α) (a : Bool) (b c : Int) (f : D2) (g i : Int) (d : D1) (j : D3) (e : D2) :
  rnd C k cd3 45 Q next (St6 a b c f g i d j e) = l2s (fun a b c f g i d j e => next (St6 a b c f g i d j e)) (fun a b c d e => Q (.exit 4) (St7 a b c d e)) a b c f g i d j e := plainly Js (by kernel_rfl)
def l2 (k : Nat) (Xt4 : Bool -> Int -> Int -> D1 -> D2 -> Option α) : Nat -> Bool -> Int -> Int -> D2 -> Int -> Int -> D1 -> D3 -> D2 -> Option α
 | 0, _, _, _, _, _, _, _, _, _ => none
 | n + 1, a, b, c, d, e, f, g, i, j => l2s (l2 k Xt4 n) Xt4 a b c d e f g i j
theorem l2_eq (k : Nat) (Q : Ex -> St -> Option α) : ∀ (n : Nat) (a : Bool) (b c : Int) (f : D2) (g i : Int) (d : D1) (j : D3) (e : D2), iter (rnd C k cd3 45 Q) n (St6 a b c f g i d j e) = l2 k (fun a b c d e => Q (.exit 4) (St7 a b c d e)) n a b c f g i d j e
 | 0, _, _, _, _, _, _, _, _, _ => rfl
 | n + 1, a, b, c, f, g, i, d, j, e => (iter_succ _ _ _).trans ((l2s_eq k _ Q a b c f g i d j e).trans (congrArg (fun N => l2s N (fun a b c d e => Q (.exit 4) (St7 a b c d e)) a b c f g i d j e) (by funext; exact l2_eq k Q n _ _ _ _ _ _ _ _ _)))
noncomputable def cd4 : Code := cR (cR (cR (cL (cL (cR (cL (cR (cR (cR (cR (cR (cB Try.f120))))))))))))
def St8 (a : Bool) (b c : Int) (d : D1) (e : D2) : St := stL 109 [(1, .ref 1 0 []), (3, .data .bool a), (5, .app 50 0), (54, .app 50 0), (55, .data T1 b), (56, .data T1 c)] [(1, .cell T7 (.data T7 d) false), (50, .buf T8 e 0 true)]
def j1 (Nx : Bool -> Int -> Int -> D1 -> D2 -> Option α) (a : Bool) (b c : Int) (d : D1) (e : D2) : Option α :=
 Nx a b (IntKind.i64.wrap (c + 1)) d e
theorem j1_eq (k : Nat) (next : St -> Option α) (Q : Ex -> St -> Option α) (a : Bool) (b c : Int) (d : D1) (e : D2) :
  (den C k) cd4 (lq C 33 next Q) (St8 a b c d e) = j1 (fun a b c d e => next (St5 a b c d e)) a b c d e := plainly Js (by kernel_rfl)
theorem a0 (k : Nat) (next : St -> Option α) (Q : Ex -> St -> Option α) (a : Bool) (c d : Int) (g : D2) (i j : Int) (e : D1) (l : D3) (f : D2) :
  (lp C k) cd3 (blkQ C 4 (blkQ C 3 (sq (den C k) (lp C k) Js C cd4 (lq C 33 next Q)))) (St6 a c d g i j e l f) = l2 k (fun a c d e f => j1 (fun a c d e f => next (St5 a c d e f)) a c d e f) k a c d g i j e l f :=
 (lp_iter 45 (by kernel_rfl)).trans ((l2_eq k _ k a c d g i j e l f).trans (congrArg (fun X => l2 k X k a c d g i j e l f) (funext fun a => funext fun c => funext fun d => funext fun e => funext fun f => (Eq.trans (b := (den C k) cd4 (lq C 33 next Q) (St8 a c d e f)) (by kernel_rfl) (by simp only [j1_eq])))))
def St9 (a : Bool) : St := stL 109 [(3, .data .bool a)] []
def l1s (k : Nat) (Nx : Bool -> Int -> Int -> D1 -> D2 -> Option α) (Xt2 : Bool -> Option α) (c : Bool) (d a : Int) (e : D1) (b : D2) : Option α :=
 if (decide (a < d)) = true then
  if 0 <= a /\ a < (b.length : Int) then
   (if (c == true) = true then gate_value.run (List.getD b (Int.toNat a) (0, 0, 0, 0, ())).2.1 else some false).bind fun f =>
   if 0 <= (0 : Int) /\ (0 : Int) <= a /\ a <= (b.length : Int) then
    l2 k (fun c d a e b => j1 Nx c d a e b) k (cond (cond (cond (cond (cond c f false) (decide ((List.getD b (Int.toNat a) (0, 0, 0, 0, ())).2.2.1 >= 0)) false) (decide ((List.getD b (Int.toNat a) (0, 0, 0, 0, ())).2.2.1 < 3)) false) (decide ((List.getD b (Int.toNat a) (0, 0, 0, 0, ())).2.2.2.1 >= 0)) false) (decide ((List.getD b (Int.toNat a) (0, 0, 0, 0, ())).2.2.2.1 <= e.2.2.1)) false) d a (cutL b 0 a) ((cutL b 0 a).length : Int) 0 e (List.getD b (Int.toNat a) (0, 0, 0, 0, ())) b
   else none
  else none
 else
  Xt2 c
theorem l1s_eq (k : Nat) (next : St -> Option α) (Q : Ex -> St -> Option α) (c : Bool) (d a : Int) (e : D1) (b : D2) :
  rnd C k cd2 33 Q next (St5 c d a e b) = l1s k (fun c d a e b => next (St5 c d a e b)) (fun c => Q (.exit 2) (St9 c)) c d a e b := by
 have h : ∀ (D L : DT α), denJ D L Js C cd2 (lq C 33 next Q) (St5 c d a e b) =
    if (decide (a < d)) = true then
     if 0 <= a /\ a < (b.length : Int) then
      (if (c == true) = true then gate_value.run (List.getD b (Int.toNat a) (0, 0, 0, 0, ())).2.1 else some false).bind fun f =>
      if 0 <= (0 : Int) /\ (0 : Int) <= a /\ a <= (b.length : Int) then
       L cd3 (blkQ C 4 (blkQ C 3 (sq D L Js C cd4 (lq C 33 next Q)))) (St6 (cond (cond (cond (cond (cond c f false) (decide ((List.getD b (Int.toNat a) (0, 0, 0, 0, ())).2.2.1 >= 0)) false) (decide ((List.getD b (Int.toNat a) (0, 0, 0, 0, ())).2.2.1 < 3)) false) (decide ((List.getD b (Int.toNat a) (0, 0, 0, 0, ())).2.2.2.1 >= 0)) false) (decide ((List.getD b (Int.toNat a) (0, 0, 0, 0, ())).2.2.2.1 <= e.2.2.1)) false) d a (cutL b 0 a) ((cutL b 0 a).length : Int) 0 e (List.getD b (Int.toNat a) (0, 0, 0, 0, ())) b)
      else none
     else none
    else
     Q (.exit 2) (St9 c) := by
  intro D L; kernel_rfl
 have h2 := via (k := k) h
 refine h2.trans ?_
 simp only [a0]
 first | rfl | kernel_rfl
def l1 (k : Nat) (Xt2 : Bool -> Option α) : Nat -> Bool -> Int -> Int -> D1 -> D2 -> Option α
 | 0, _, _, _, _, _ => none
 | n + 1, a, b, c, d, e => l1s k (l1 k Xt2 n) Xt2 a b c d e
theorem l1_eq (k : Nat) (Q : Ex -> St -> Option α) : ∀ (n : Nat) (a : Bool) (b c : Int) (d : D1) (e : D2), iter (rnd C k cd2 33 Q) n (St5 a b c d e) = l1 k (fun a => Q (.exit 2) (St9 a)) n a b c d e
 | 0, _, _, _, _, _ => rfl
 | n + 1, a, b, c, d, e => (iter_succ _ _ _).trans ((l1s_eq k _ Q a b c d e).trans (congrArg (fun N => l1s k N (fun a => Q (.exit 2) (St9 a)) a b c d e) (by funext; exact l1_eq k Q n _ _ _ _ _)))
noncomputable def cd5 : Code := cR (cR (cR (cR (cR (cR (cB Try.f120))))))
def St10 (a : Bool) : St := stL 109 [(3, .data .bool a)] []
def j2 (Rt : Int -> Option α) (a : Bool) : Option α :=
 if (not a) = true then
  Rt 12
 else
  Rt 0
theorem j2_eq (k : Nat) (Q : Ex -> St -> Option α) (a : Bool) :
  (den C k) cd5 Q (St10 a) = j2 (fun b => Q .ret (St1 b)) a := plainly Js (by kernel_rfl)
theorem a1 (k : Nat) (Q : Ex -> St -> Option α) (a : Bool) (c d : Int) (e : D1) (f : D2) :
  (lp C k) cd2 (blkQ C 2 (sq (den C k) (lp C k) Js C cd5 Q)) (St5 a c d e f) = l1 k (fun a => j2 (fun g => Q .ret (St1 g)) a) k a c d e f :=
 (lp_iter 33 (by kernel_rfl)).trans ((l1_eq k _ k a c d e f).trans (congrArg (fun X => l1 k X k a c d e f) (funext fun a => (Eq.trans (b := (den C k) cd5 Q (St10 a)) (by kernel_rfl) (by simp only [j2_eq])))))
def j0 (k : Nat) (Rt : Int -> Option α) (b : Bool) (a : D1) : Option α :=
 if fitB (0 + a.2.2.2.1.length) 32 = true then
  if fitB (a.2.2.2.1.length + a.2.2.2.2.1.length) 32 = true then
   l1 k (fun b => j2 Rt b) k b ((a.2.2.2.1 ++ a.2.2.2.2.1).length : Int) 0 a (a.2.2.2.1 ++ a.2.2.2.2.1)
  else none
 else none
theorem j0_eq (k : Nat) (Q : Ex -> St -> Option α) (b : Bool) (a : D1) :
  (den C k) cd1 Q (St4 b a) = j0 k (fun c => Q .ret (St1 c)) b a := by
 have h : ∀ (D L : DT α), denJ D L Js C cd1 Q (St4 b a) =
    if fitB (0 + a.2.2.2.1.length) 32 = true then
     if fitB (a.2.2.2.1.length + a.2.2.2.2.1.length) 32 = true then
      L cd2 (blkQ C 2 (sq D L Js C cd5 Q)) (St5 b ((a.2.2.2.1 ++ a.2.2.2.2.1).length : Int) 0 a (a.2.2.2.1 ++ a.2.2.2.2.1))
     else none
    else none := by
  intro D L; kernel_rfl
 have h2 := via (k := k) h
 refine h2.trans ?_
 simp only [a1]
 first | rfl | kernel_rfl
theorem a2 (k : Nat) (Q : Ex -> St -> Option α) (a : Bool) (d : Int) (c : D1) :
  (lp C k) cd0 (blkQ C 0 (sq (den C k) (lp C k) Js C cd1 Q)) (St2 a d c) = l0 k (fun a c => j0 k (fun e => Q .ret (St1 e)) a c) k a d c :=
 (lp_iter 15 (by kernel_rfl)).trans ((l0_eq k _ k a d c).trans (congrArg (fun X => l0 k X k a d c) (funext fun a => funext fun c => (Eq.trans (b := (den C k) cd1 Q (St4 a c)) (by kernel_rfl) (by simp only [j0_eq])))))
def top (k : Nat) (Rt : Int -> Option α) (a : D1) : Option α :=
 if (cond (decide ((a.2.2.2.1.length : Int) > 40)) true (decide ((a.2.2.2.2.1.length : Int) > 40))) = true then
  Rt 1
 else
  l0 k (fun b c => j0 k Rt b c) k (cond (decide (a.2.2.1 >= 0)) (decide (a.2.2.1 <= 1099511627776)) false) 0 a
theorem top_eq (k : Nat) (Q : Ex -> St -> Option α) (a : D1) :
  (den C k) (cB Try.f120) Q (St0 a) = top k (fun b => Q .ret (St1 b)) a := by
 have h : ∀ (D L : DT α), denJ D L Js C (cB Try.f120) Q (St0 a) =
    if (cond (decide ((a.2.2.2.1.length : Int) > 40)) true (decide ((a.2.2.2.2.1.length : Int) > 40))) = true then
     Q .ret (St1 1)
    else
     L cd0 (blkQ C 0 (sq D L Js C cd1 Q)) (St2 (cond (decide (a.2.2.1 >= 0)) (decide (a.2.2.1 <= 1099511627776)) false) 0 a) := by
  intro D L; kernel_rfl
 have h2 := via (k := k) h
 refine h2.trans ?_
 simp only [a2]
 first | rfl | kernel_rfl
def run (a : D1) : Option (Int) := top (α := Int) fuel (fun b => some b) a
def F : Fn := ⟨T9, T1, false, fun x => run x.1⟩
theorem con : Con Try.prog 120 F /\ Named Try.prog 120 :=
 con_of2 (C := C) (ctx_ok (by kernel_rfl) (by kernel_rfl) (by kernel_rfl) (by kernel_rfl) ⟨.inl gate_value.con, trivial⟩) (by kernel_rfl) Try.func120 (by kernel_rfl) (c := cB Try.f120) (by kernel_rfl) (by kernel_rfl) F (fun x => by simp [F, spread, Try.ntmps120]) (fun x => (St0 x.1)) (fun x => by kernel_rfl) fun x => (top_eq fuel _ x.1).trans (by kernel_rfl)
end Go.Bx.gate_Check
namespace Go.Bx.basculeref_GateFault
def Js : List Nat := [10, 22, 23]
def C : Ctx := ⟨[(3, T1), (25, T5), (26, T6), (28, T7), (35, T1), (165, T8), (188, T35)], [], [(187, (3, 3))], fnL [(149, basculeref_upTo.F)], noSh, [], invL [], [(2, [2]), (7, [3, 5, 6]), (10, [1, 3, 5, 6, 48, 49, 50]), (13, [1, 3, 5, 6, 48, 49, 50]), (16, [1, 3, 5, 6, 48, 49, 50, 54, 55, 56]), (1, [1, 3]), (4, [1, 3, 24]), (15, [1, 3, 24]), (27, [1, 3]), (36, [1, 3, 5, 6, 48, 49, 50]), (45, [1, 3, 5, 6, 48, 49, 50, 54, 55, 56]), (63, [1, 3, 5, 6, 48, 49, 50]), (66, [3, 5, 6])], [], [], 0, 0⟩
def St0 (a : D1) : St := stL 95 [(0, .data T7 a)] []
def St1 (a : Int) : St := stL 95 [(2, .data T1 a)] []
def St2 (a : Bool) (b : Int) (c : D1) : St := stL 95 [(1, .ref 1 0 []), (3, .data .bool a), (24, .data T1 b)] [(1, .cell T7 (.data T7 c) false)]
noncomputable def cd0 : Code := cL (cL (cR (cL (cR (cR (cR (cB Try.f129)))))))
def St3 (a : Bool) (b : D1) : St := stL 95 [(1, .ref 1 0 []), (3, .data .bool a)] [(1, .cell T7 (.data T7 b) false)]
def l0s (Nx : Bool -> Int -> D1 -> Option α) (Xt0 : Bool -> D1 -> Option α) (b : Bool) (a : Int) (c : D1) : Option α :=
 if (decide (a < 3)) = true then
  cond (decide (0 <= a /\ a < (3 : Int)) || !(b == true)) (
   (if (b == true) = true then basculeref_upTo.run (List.getD c.1 (Int.toNat a) 0) 1073741824 else some false).bind fun d =>
   cond (decide (0 <= a /\ a < (3 : Int)) || !((cond b d false) == true)) (
    (if ((cond b d false) == true) = true then basculeref_upTo.run (List.getD c.2.1 (Int.toNat a) 0) 1073741824 else some false).bind fun e =>
    Nx (cond (cond b d false) e false) (IntKind.i64.wrap (a + 1)) c) none) none
 else
  Xt0 b c
theorem l0s_eq (k : Nat) (next : St -> Option α) (Q : Ex -> St -> Option α) (a : Bool) (c : Int) (b : D1) :
  rnd C k cd0 15 Q next (St2 a c b) = l0s (fun a c b => next (St2 a c b)) (fun a b => Q (.exit 0) (St3 a b)) a c b := plainly Js (by kernel_rfl)
def l0 (k : Nat) (Xt0 : Bool -> D1 -> Option α) : Nat -> Bool -> Int -> D1 -> Option α
 | 0, _, _, _ => none
 | n + 1, a, b, c => l0s (l0 k Xt0 n) Xt0 a b c
theorem l0_eq (k : Nat) (Q : Ex -> St -> Option α) : ∀ (n : Nat) (a : Bool) (c : Int) (b : D1), iter (rnd C k cd0 15 Q) n (St2 a c b) = l0 k (fun a b => Q (.exit 0) (St3 a b)) n a c b
 | 0, _, _, _ => rfl
 | n + 1, a, c, b => (iter_succ _ _ _).trans ((l0s_eq k _ Q a c b).trans (congrArg (fun N => l0s N (fun a b => Q (.exit 0) (St3 a b)) a c b) (by funext; exact l0_eq k Q n _ _ _)))
noncomputable def cd1 : Code := cR (cR (cR (cR (cB Try.f129))))
def St4 (a : Bool) (b : D1) : St := stL 95 [(1, .ref 1 0 []), (3, .data .bool a)] [(1, .cell T7 (.data T7 b) false)]
def St5 (a : Bool) (b : Int) (c : D16) (d e : Int) (f : D1) (g : D17) : St := stL 95 [(1, .ref 1 0 []), (3, .data .bool a), (5, .map 43), (6, .data T1 b), (48, .full T6 c), (49, .data T1 d), (50, .data T1 e)] [(1, .cell T7 (.data T7 f) false), (43, .map T1 T1 g)]
noncomputable def cd2 : Code := cL (cL (cR (cL (cR (cR (cR (cR (cR (cR (cB Try.f129))))))))))
def St6 (a : Bool) (b : Int) (c : D16) (d e : Int) (f : D2) (g i : Int) (j : D1) (k : D17) : St := stL 95 [(1, .ref 1 0 []), (3, .data .bool a), (5, .map 43), (6, .data T1 b), (48, .full T6 c), (49, .data T1 d), (50, .data T1 e), (54, .data T6 f), (55, .data T1 g), (56, .data T1 i)] [(1, .cell T7 (.data T7 j) false), (43, .map T1 T1 k)]
noncomputable def cd3 : Code := cL (cL (cR (cR (cL (cL (cR (cR (cL (cL (cR (cL (cR (cR (cR (cR (cR (cR (cB Try.f129))))))))))))))))))
def St7 (a : Bool) (b : Int) (c : D16) (d e : Int) (f : D1) (g : D17) : St := stL 95 [(1, .ref 1 0 []), (3, .data .bool a), (5, .map 43), (6, .data T1 b), (48, .full T6 c), (49, .data T1 d), (50, .data T1 e)] [(1, .cell T7 (.data T7 f) false), (43, .map T1 T1 g)]
def l2s (Nx : Bool -> Int -> D16 -> Int -> Int -> D2 -> Int -> Int -> D1 -> D17 -> Option α) (Xt4 : Bool -> Int -> D16 -> Int -> Int -> D1 -> D17 -> Option α) (c : Bool) (g : Int) (i : D16) (j k : Int) (b : D2) (l a : Int) (d : D1) (e : D17) : Option α :=
 if (decide (a < l)) = true then
  if 0 <= a /\ a < (b.length : Int) then
   (if (c == true) = true then basculeref_upTo.run (List.getD b (Int.toNat a) (0, 0, 0, 0, ())).2.1 1073741824 else some false).bind fun f =>
   (if ((cond c f false) == true) = true then basculeref_upTo.run (List.getD b (Int.toNat a) (0, 0, 0, 0, ())).2.2.1 2 else some false).bind fun m =>
   (if ((cond (cond c f false) m false) == true) = true then basculeref_upTo.run (List.getD b (Int.toNat a) (0, 0, 0, 0, ())).2.2.2.1 d.2.2.1 else some false).bind fun n =>
   Nx (cond (cond (cond c f false) m false) n false) (IntKind.i64.wrap (g + 1)) i j k b l (IntKind.i64.wrap (a + 1)) d (setM (beqD T1) (List.getD b (Int.toNat a) (0, 0, 0, 0, ())).1 (IntKind.i64.wrap ((getM (beqD T1) (List.getD b (Int.toNat a) (0, 0, 0, 0, ())).1 0 e) + 1)) e)
  else none
 else
  Xt4 c g i j k d e
theorem l2s_eq (k : Nat) (next : St -> Option α) (Q : Ex -> St -> Option α) (a : Bool) (b : Int) (c : D16) (d e : Int) (i : D2) (j l : Int) (f : D1) (g : D17) :
  rnd C k cd3 45 Q next (St6 a b c d e i j l f g) = l2s (fun a b c d e i j l f g => next (St6 a b c d e i j l f g)) (fun a b c d e f g => Q (.exit 4) (St7 a b c d e f g)) a b c d e i j l f g := plainly Js (by kernel_rfl)
def l2 (k : Nat) (Xt4 : Bool -> Int -> D16 -> Int -> Int -> D1 -> D17 -> Option α) : Nat -> Bool -> Int -> D16 -> Int -> Int -> D2 -> Int -> Int -> D1 -> D17 -> Option α
 | 0, _, _, _, _, _, _, _, _, _, _ => none
 | n + 1, a, b, c, d, e, f, g, i, j, l => l2s (l2 k Xt4 n) Xt4 a b c d e f g i j l
theorem l2_eq (k : Nat) (Q : Ex -> St -> Option α) : ∀ (n : Nat) (a : Bool) (b : Int) (c : D16) (d e : Int) (i : D2) (j l : Int) (f : D1) (g : D17), iter (rnd C k cd3 45 Q) n (St6 a b c d e i j l f g) = l2 k (fun a b c d e f g => Q (.exit 4) (St7 a b c d e f g)) n a b c d e i j l f g
 | 0, _, _, _, _, _, _, _, _, _, _ => rfl
 | n + 1, a, b, c, d, e, i, j, l, f, g => (iter_succ _ _ _).trans ((l2s_eq k _ Q a b c d e i j l f g).trans (congrArg (fun N => l2s N (fun a b c d e f g => Q (.exit 4) (St7 a b c d e f g)) a b c d e i j l f g) (by funext; exact l2_eq k Q n _ _ _ _ _ _ _ _ _ _)))
noncomputable def cd4 : Code := cR (cR (cR (cL (cL (cR (cL (cR (cR (cR (cR (cR (cR (cB Try.f129)))))))))))))
def St8 (a : Bool) (b : Int) (c : D16) (d e : Int) (f : D1) (g : D17) : St := stL 95 [(1, .ref 1 0 []), (3, .data .bool a), (5, .map 43), (6, .data T1 b), (48, .full T6 c), (49, .data T1 d), (50, .data T1 e)] [(1, .cell T7 (.data T7 f) false), (43, .map T1 T1 g)]
def j1 (Nx : Bool -> Int -> D16 -> Int -> Int -> D1 -> D17 -> Option α) (a : Bool) (b : Int) (c : D16) (d e : Int) (f : D1) (g : D17) : Option α :=
 Nx a b c d (IntKind.i64.wrap (e + 1)) f g
theorem j1_eq (k : Nat) (next : St -> Option α) (Q : Ex -> St -> Option α) (a : Bool) (b : Int) (c : D16) (d e : Int) (f : D1) (g : D17) :
  (den C k) cd4 (lq C 36 next Q) (St8 a b c d e f g) = j1 (fun a b c d e f g => next (St5 a b c d e f g)) a b c d e f g := plainly Js (by kernel_rfl)
theorem a0 (k : Nat) (next : St -> Option α) (Q : Ex -> St -> Option α) (a : Bool) (c : Int) (d : D16) (e f : Int) (j : D2) (l m : Int) (g : D1) (i : D17) :
  (lp C k) cd3 (blkQ C 4 (blkQ C 3 (sq (den C k) (lp C k) Js C cd4 (lq C 36 next Q)))) (St6 a c d e f j l m g i) = l2 k (fun a c d e f g i => j1 (fun a c d e f g i => next (St5 a c d e f g i)) a c d e f g i) k a c d e f j l m g i :=
 (lp_iter 45 (by kernel_rfl)).trans ((l2_eq k _ k a c d e f j l m g i).trans (congrArg (fun X => l2 k X k a c d e f j l m g i) (funext fun a => funext fun c => funext fun d => funext fun e => funext fun f => funext fun g => funext fun i => (Eq.trans (b := (den C k) cd4 (lq C 36 next Q) (St8 a c d e f g i)) (by kernel_rfl) (by simp only [j1_eq])))))
def St9 (a : Bool) (b : Int) (c : D17) : St := stL 95 [(3, .data .bool a), (5, .map 43), (6, .data T1 b)] [(43, .map T1 T1 c)]
def l1s (k : Nat) (Nx : Bool -> Int -> D16 -> Int -> Int -> D1 -> D17 -> Option α) (Xt2 : Bool -> Int -> D17 -> Option α) (c : Bool) (d : Int) (b : D16) (e a : Int) (g : D1) (f : D17) : Option α :=
 if (decide (a < e)) = true then
  if 0 <= a /\ a < (b.length : Int) then
   l2 k (fun c d b e a g f => j1 Nx c d b e a g f) k c d b e a (List.getD b (Int.toNat a) []) ((List.getD b (Int.toNat a) []).length : Int) 0 g f
  else none
 else
  Xt2 c d f
theorem l1s_eq (k : Nat) (next : St -> Option α) (Q : Ex -> St -> Option α) (b : Bool) (c : Int) (d : D16) (f a : Int) (g : D1) (e : D17) :
  rnd C k cd2 36 Q next (St5 b c d f a g e) = l1s k (fun b c d f a g e => next (St5 b c d f a g e)) (fun b c e => Q (.exit 2) (St9 b c e)) b c d f a g e := by
 have h : ∀ (D L : DT α), denJ D L Js C cd2 (lq C 36 next Q) (St5 b c d f a g e) =
    if (decide (a < f)) = true then
     if 0 <= a /\ a < (d.length : Int) then
      L cd3 (blkQ C 4 (blkQ C 3 (sq D L Js C cd4 (lq C 36 next Q)))) (St6 b c d f a (List.getD d (Int.toNat a) []) ((List.getD d (Int.toNat a) []).length : Int) 0 g e)
     else none
    else
     Q (.exit 2) (St9 b c e) := by
  intro D L; kernel_rfl
 have h2 := via (k := k) h
 refine h2.trans ?_
 simp only [a0]
 first | rfl | kernel_rfl
def l1 (k : Nat) (Xt2 : Bool -> Int -> D17 -> Option α) : Nat -> Bool -> Int -> D16 -> Int -> Int -> D1 -> D17 -> Option α
 | 0, _, _, _, _, _, _, _ => none
 | n + 1, a, b, c, d, e, f, g => l1s k (l1 k Xt2 n) Xt2 a b c d e f g
theorem l1_eq (k : Nat) (Q : Ex -> St -> Option α) : ∀ (n : Nat) (a : Bool) (b : Int) (d : D16) (e f : Int) (g : D1) (c : D17), iter (rnd C k cd2 36 Q) n (St5 a b d e f g c) = l1 k (fun a b c => Q (.exit 2) (St9 a b c)) n a b d e f g c
 | 0, _, _, _, _, _, _, _ => rfl
 | n + 1, a, b, d, e, f, g, c => (iter_succ _ _ _).trans ((l1s_eq k _ Q a b d e f g c).trans (congrArg (fun N => l1s k N (fun a b c => Q (.exit 2) (St9 a b c)) a b d e f g c) (by funext; exact l1_eq k Q n _ _ _ _ _ _ _)))
noncomputable def cd5 : Code := cR (cR (cR (cR (cR (cR (cR (cB Try.f129)))))))
def St10 (a : Bool) (b : Int) (c : D17) : St := stL 95 [(3, .data .bool a), (5, .map 43), (6, .data T1 b)] [(43, .map T1 T1 c)]
def j2 (Rt : Int -> Option α) (a : Bool) (c : Int) (b : D17) : Option α :=
 cond (decide (Nat.ble b.length 9223372036854775807 = true) || !((not a) == false)) (
  if (cond (not a) true ((b.length : Int) != c)) = true then
   Rt 12
  else
   Rt 0) none
theorem j2_eq (k : Nat) (Q : Ex -> St -> Option α) (a : Bool) (b : Int) (c : D17) :
  (den C k) cd5 Q (St10 a b c) = j2 (fun d => Q .ret (St1 d)) a b c := plainly Js (by kernel_rfl)
theorem a1 (k : Nat) (Q : Ex -> St -> Option α) (a : Bool) (c : Int) (e : D16) (f g : Int) (i : D1) (d : D17) :
  (lp C k) cd2 (blkQ C 2 (sq (den C k) (lp C k) Js C cd5 Q)) (St5 a c e f g i d) = l1 k (fun a c d => j2 (fun j => Q .ret (St1 j)) a c d) k a c e f g i d :=
 (lp_iter 36 (by kernel_rfl)).trans ((l1_eq k _ k a c e f g i d).trans (congrArg (fun X => l1 k X k a c e f g i d) (funext fun a => funext fun c => funext fun d => (Eq.trans (b := (den C k) cd5 Q (St10 a c d)) (by kernel_rfl) (by simp only [j2_eq])))))
def j0 (k : Nat) (Rt : Int -> Option α) (a : Bool) (b : D1) : Option α :=
 l1 k (fun a c d => j2 Rt a c d) k a 0 [b.2.2.2.1, b.2.2.2.2.1] 2 0 b []
theorem j0_eq (k : Nat) (Q : Ex -> St -> Option α) (b : Bool) (a : D1) :
  (den C k) cd1 Q (St4 b a) = j0 k (fun c => Q .ret (St1 c)) b a := by
 have h : ∀ (D L : DT α), denJ D L Js C cd1 Q (St4 b a) =
    L cd2 (blkQ C 2 (sq D L Js C cd5 Q)) (St5 b 0 [a.2.2.2.1, a.2.2.2.2.1] 2 0 a []) := by
  intro D L; kernel_rfl
 have h2 := via (k := k) h
 refine h2.trans ?_
 simp only [a1]
 first | rfl | kernel_rfl
theorem a2 (k : Nat) (Q : Ex -> St -> Option α) (a : Bool) (d : Int) (c : D1) :
  (lp C k) cd0 (blkQ C 0 (sq (den C k) (lp C k) Js C cd1 Q)) (St2 a d c) = l0 k (fun a c => j0 k (fun e => Q .ret (St1 e)) a c) k a d c :=
 (lp_iter 15 (by kernel_rfl)).trans ((l0_eq k _ k a d c).trans (congrArg (fun X => l0 k X k a d c) (funext fun a => funext fun c => (Eq.trans (b := (den C k) cd1 Q (St4 a c)) (by kernel_rfl) (by simp only [j0_eq])))))
def top (k : Nat) (Rt : Int -> Option α) (a : D1) : Option α :=
 if (cond (decide ((a.2.2.2.1.length : Int) > 40)) true (decide ((a.2.2.2.2.1.length : Int) > 40))) = true then
  Rt 1
 else
  (basculeref_upTo.run a.2.2.1 1099511627776).bind fun b =>
  l0 k (fun c d => j0 k Rt c d) k b 0 a
theorem top_eq (k : Nat) (Q : Ex -> St -> Option α) (a : D1) :
  (den C k) (cB Try.f129) Q (St0 a) = top k (fun b => Q .ret (St1 b)) a := by
 have h : ∀ (D L : DT α), denJ D L Js C (cB Try.f129) Q (St0 a) =
    if (cond (decide ((a.2.2.2.1.length : Int) > 40)) true (decide ((a.2.2.2.2.1.length : Int) > 40))) = true then
     Q .ret (St1 1)
    else
     (basculeref_upTo.run a.2.2.1 1099511627776).bind fun c =>
     L cd0 (blkQ C 0 (sq D L Js C cd1 Q)) (St2 c 0 a) := by
  intro D L; kernel_rfl
 have h2 := via (k := k) h
 refine h2.trans ?_
 simp only [a2]
 first | rfl | kernel_rfl
def run (a : D1) : Option (Int) := top (α := Int) fuel (fun b => some b) a
def F : Fn := ⟨T9, T1, false, fun x => run x.1⟩
theorem con : Con Try.prog 129 F /\ Named Try.prog 129 :=
 con_of2 (C := C) (ctx_ok (by kernel_rfl) (by kernel_rfl) (by kernel_rfl) (by kernel_rfl) ⟨.inl basculeref_upTo.con, trivial⟩) (by kernel_rfl) Try.func129 (by kernel_rfl) (c := cB Try.f129) (by kernel_rfl) (by kernel_rfl) F (fun x => by simp [F, spread, Try.ntmps129]) (fun x => (St0 x.1)) (fun x => by kernel_rfl) fun x => (top_eq fuel _ x.1).trans (by kernel_rfl)
end Go.Bx.basculeref_GateFault
namespace Go.Bx.gate_used
def Js : List Nat := [8, 9]
def C : Ctx := ⟨[(3, T1), (26, T6), (28, T7), (165, T8)], [], [], fnL [], noSh, [], invL [], [(2, [4]), (1, [5]), (4, [1, 2, 5, 9, 10, 11]), (9, [1, 2, 5, 9, 10, 11]), (21, [1, 2, 5, 9, 10, 11]), (24, [5])], [], [], 0, 0⟩
def St0 (a : D1) (b : Int) : St := stL 33 [(0, .data T7 a), (1, .data T1 b)] []
def St1 (a b : Int) (c : D2) (d e : Int) (f : D1) : St := stL 33 [(1, .data T1 a), (2, .ref 2 0 []), (5, .data T1 b), (9, .data T6 c), (10, .data T1 d), (11, .data T1 e)] [(2, .cell T7 (.data T7 f) false)]
noncomputable def cd0 : Code := cL (cL (cR (cL (cR (cR (cB Try.f156))))))
def St2 (a b : Int) (c : D2) (d e : Int) (f : D1) : St := stL 33 [(1, .data T1 a), (2, .ref 2 0 []), (5, .data T1 b), (9, .data T6 c), (10, .data T1 d), (11, .data T1 e)] [(2, .cell T7 (.data T7 f) false)]
noncomputable def cd1 : Code := cR (cR (cR (cL (cL (cR (cL (cR (cR (cB Try.f156)))))))))
def j0 (Nx : Int -> Int -> D2 -> Int -> Int -> D1 -> Option α) (a b : Int) (c : D2) (d e : Int) (f : D1) : Option α :=
 Nx a b c d (IntKind.i64.wrap (e + 1)) f
theorem j0_eq (k : Nat) (next : St -> Option α) (Q : Ex -> St -> Option α) (a b : Int) (c : D2) (d e : Int) (f : D1) :
  (den C k) cd1 (lq C 9 next Q) (St2 a b c d e f) = j0 (fun a b c d e f => next (St1 a b c d e f)) a b c d e f := plainly Js (by kernel_rfl)
def St3 (a : Int) : St := stL 33 [(5, .data T1 a)] []
def l0s (Nx : Int -> Int -> D2 -> Int -> Int -> D1 -> Option α) (Xt0 : Int -> Option α) (c d : Int) (b : D2) (e a : Int) (f : D1) : Option α :=
 if (decide (a < e)) = true then
  if 0 <= a /\ a < (b.length : Int) then
   if (cond ((List.getD b (Int.toNat a) (0, 0, 0, 0, ())).2.2.1 == c) (decide ((IntKind.i64.wrap (f.2.2.1 - (List.getD b (Int.toNat a) (0, 0, 0, 0, ())).2.2.2.1)) < 24)) false) = true then
    j0 Nx c (IntKind.i64.wrap (d + (List.getD b (Int.toNat a) (0, 0, 0, 0, ())).2.1)) b e a f
   else
    j0 Nx c d b e a f
  else none
 else
  Xt0 d
theorem l0s_eq (k : Nat) (next : St -> Option α) (Q : Ex -> St -> Option α) (d c : Int) (b : D2) (e a : Int) (f : D1) :
  rnd C k cd0 9 Q next (St1 d c b e a f) = l0s (fun d c b e a f => next (St1 d c b e a f)) (fun c => Q (.exit 0) (St3 c)) d c b e a f := by
 have h : ∀ (D L : DT α), denJ D L Js C cd0 (lq C 9 next Q) (St1 d c b e a f) =
    if (decide (a < e)) = true then
     if 0 <= a /\ a < (b.length : Int) then
      if (cond ((List.getD b (Int.toNat a) (0, 0, 0, 0, ())).2.2.1 == d) (decide ((IntKind.i64.wrap (f.2.2.1 - (List.getD b (Int.toNat a) (0, 0, 0, 0, ())).2.2.2.1)) < 24)) false) = true then
       D cd1 (lq C 9 next Q) (St2 d (IntKind.i64.wrap (c + (List.getD b (Int.toNat a) (0, 0, 0, 0, ())).2.1)) b e a f)
      else
       D cd1 (lq C 9 next Q) (St2 d c b e a f)
     else none
    else
     Q (.exit 0) (St3 c) := by
  intro D L; kernel_rfl
 have h2 := via (k := k) h
 refine h2.trans ?_
 simp only [j0_eq]
 first | rfl | kernel_rfl
def l0 (k : Nat) (Xt0 : Int -> Option α) : Nat -> Int -> Int -> D2 -> Int -> Int -> D1 -> Option α
 | 0, _, _, _, _, _, _ => none
 | n + 1, a, b, c, d, e, f => l0s (l0 k Xt0 n) Xt0 a b c d e f
theorem l0_eq (k : Nat) (Q : Ex -> St -> Option α) : ∀ (n : Nat) (b a : Int) (c : D2) (d e : Int) (f : D1), iter (rnd C k cd0 9 Q) n (St1 b a c d e f) = l0 k (fun a => Q (.exit 0) (St3 a)) n b a c d e f
 | 0, _, _, _, _, _, _ => rfl
 | n + 1, b, a, c, d, e, f => (iter_succ _ _ _).trans ((l0s_eq k _ Q b a c d e f).trans (congrArg (fun N => l0s N (fun a => Q (.exit 0) (St3 a)) b a c d e f) (by funext; exact l0_eq k Q n _ _ _ _ _ _)))
noncomputable def cd2 : Code := cR (cR (cR (cB Try.f156)))
def St4 (a : Int) : St := stL 33 [(5, .data T1 a)] []
def St5 (a : Int) : St := stL 33 [(4, .data T1 a)] []
def j1 (Rt : Int -> Option α) (a : Int) : Option α :=
 Rt a
theorem j1_eq (k : Nat) (Q : Ex -> St -> Option α) (a : Int) :
  (den C k) cd2 Q (St4 a) = j1 (fun b => Q .ret (St5 b)) a := plainly Js (by kernel_rfl)
theorem a0 (k : Nat) (Q : Ex -> St -> Option α) (c a : Int) (d : D2) (e f : Int) (g : D1) :
  (lp C k) cd0 (blkQ C 0 (sq (den C k) (lp C k) Js C cd2 Q)) (St1 c a d e f g) = l0 k (fun a => j1 (fun i => Q .ret (St5 i)) a) k c a d e f g :=
 (lp_iter 9 (by kernel_rfl)).trans ((l0_eq k _ k c a d e f g).trans (congrArg (fun X => l0 k X k c a d e f g) (funext fun a => (Eq.trans (b := (den C k) cd2 Q (St4 a)) (by kernel_rfl) (by simp only [j1_eq])))))
def top (k : Nat) (Rt : Int -> Option α) (a : D1) (b : Int) : Option α :=
 l0 k (fun c => j1 Rt c) k b 0 a.2.2.2.1 (a.2.2.2.1.length : Int) 0 a
theorem top_eq (k : Nat) (Q : Ex -> St -> Option α) (a : D1) (b : Int) :
  (den C k) (cB Try.f156) Q (St0 a b) = top k (fun c => Q .ret (St5 c)) a b := by
 have h : ∀ (D L : DT α), denJ D L Js C (cB Try.f156) Q (St0 a b) =
    L cd0 (blkQ C 0 (sq D L Js C cd2 Q)) (St1 b 0 a.2.2.2.1 (a.2.2.2.1.length : Int) 0 a) := by
  intro D L; kernel_rfl
 have h2 := via (k := k) h
 refine h2.trans ?_
 simp only [a0]
 first | rfl | kernel_rfl
def run (a : D1) (b : Int) : Option (Int) := top (α := Int) fuel (fun c => some c) a b
def F : Fn := ⟨T10, T1, false, fun x => run x.1 x.2.1⟩
theorem con : Con Try.prog 156 F /\ Named Try.prog 156 :=
 con_of2 (C := C) (ctx_ok (by kernel_rfl) (by kernel_rfl) (by kernel_rfl) (by kernel_rfl) trivial) (by kernel_rfl) Try.func156 (by kernel_rfl) (c := cB Try.f156) (by kernel_rfl) (by kernel_rfl) F (fun x => by simp [F, spread, Try.ntmps156]) (fun x => (St0 x.1 x.2.1)) (fun x => by kernel_rfl) fun x => (top_eq fuel _ x.1 x.2.1).trans (by kernel_rfl)
end Go.Bx.gate_used
namespace Go.Bx.gate_fits
def Js : List Nat := []
def C : Ctx := ⟨[(3, T1), (4, .bool), (25, T5), (26, T6), (28, T7), (165, T8)], [], [], fnL [(156, gate_used.F)], noSh, [], invL [], [(2, [4])], [], [], 0, 0⟩
def St0 (a : D1) (b : D3) : St := stL 34 [(0, .data T7 a), (1, .data T8 b)] []
def St1 (a : Bool) : St := stL 34 [(4, .data .bool a)] []
def top (Rt : Bool -> Option α) (b : D1) (a : D3) : Option α :=
 if 0 <= a.2.2.1 /\ a.2.2.1 < (3 : Int) then
  (if ((decide (a.2.1 < (List.getD b.2.1 (Int.toNat a.2.2.1) 0))) == true) = true then gate_used.run b a.2.2.1 else some 0).bind fun c =>
  cond (decide (0 <= a.2.2.1 /\ a.2.2.1 < (3 : Int)) || !((decide (a.2.1 < (List.getD b.2.1 (Int.toNat a.2.2.1) 0))) == true)) (
   Rt (cond (cond (decide (a.2.1 < (List.getD b.2.1 (Int.toNat a.2.2.1) 0))) (decide ((IntKind.i64.wrap (c + a.2.1)) <= (List.getD b.1 (Int.toNat a.2.2.1) 0))) false) (decide ((b.2.2.2.1.length : Int) < 40)) false)) none
 else none
theorem top_eq (k : Nat) (Q : Ex -> St -> Option α) (a : D1) (b : D3) :
  (den C k) (cB Try.f134) Q (St0 a b) = top (fun c => Q .ret (St1 c)) a b := plainly Js (by kernel_rfl)
def run (a : D1) (b : D3) : Option (Bool) := top (α := Bool) (fun c => some c) a b
def F : Fn := ⟨T11, .bool, false, fun x => run x.1 x.2.1⟩
theorem con : Con Try.prog 134 F /\ Named Try.prog 134 :=
 con_of2 (C := C) (ctx_ok (by kernel_rfl) (by kernel_rfl) (by kernel_rfl) (by kernel_rfl) ⟨.inl gate_used.con, trivial⟩) (by kernel_rfl) Try.func134 (by kernel_rfl) (c := cB Try.f134) (by kernel_rfl) (by kernel_rfl) F (fun x => by simp [F, spread, Try.ntmps134]) (fun x => (St0 x.1 x.2.1)) (fun x => by kernel_rfl) fun x => (top_eq fuel _ x.1 x.2.1).trans (by kernel_rfl)
end Go.Bx.gate_fits
namespace Go.Bx.basculeref_passes
def Js : List Nat := [8, 9]
def C : Ctx := ⟨[(3, T1), (4, .bool), (25, T5), (26, T6), (28, T7), (165, T8)], [], [], fnL [], noSh, [], invL [], [(2, [4]), (1, [2, 3, 5]), (4, [2, 3, 5, 11, 12, 13]), (9, [2, 3, 5, 11, 12, 13]), (21, [2, 3, 5, 11, 12, 13]), (24, [2, 3, 5])], [], [], 0, 0⟩
def St0 (a : D1) (b : D3) : St := stL 58 [(0, .data T7 a), (1, .data T8 b)] []
def St1 (a : Int) (b : D2) (c d : Int) (e : D1) (f : D3) : St := stL 58 [(2, .ref 2 0 []), (3, .ref 3 0 []), (5, .data T1 a), (11, .data T6 b), (12, .data T1 c), (13, .data T1 d)] [(2, .cell T7 (.data T7 e) false), (3, .cell T8 (.data T8 f) false)]
noncomputable def cd0 : Code := cL (cL (cR (cL (cR (cR (cB Try.f135))))))
def St2 (a : Int) (b : D2) (c d : Int) (e : D1) (f : D3) : St := stL 58 [(2, .ref 2 0 []), (3, .ref 3 0 []), (5, .data T1 a), (11, .data T6 b), (12, .data T1 c), (13, .data T1 d)] [(2, .cell T7 (.data T7 e) false), (3, .cell T8 (.data T8 f) false)]
noncomputable def cd1 : Code := cR (cR (cR (cL (cL (cR (cL (cR (cR (cB Try.f135)))))))))
def j0 (Nx : Int -> D2 -> Int -> Int -> D1 -> D3 -> Option α) (a : Int) (b : D2) (c d : Int) (e : D1) (f : D3) : Option α :=
 Nx a b c (IntKind.i64.wrap (d + 1)) e f
theorem j0_eq (k : Nat) (next : St -> Option α) (Q : Ex -> St -> Option α) (a : Int) (b : D2) (c d : Int) (e : D1) (f : D3) :
  (den C k) cd1 (lq C 9 next Q) (St2 a b c d e f) = j0 (fun a b c d e f => next (St1 a b c d e f)) a b c d e f := plainly Js (by kernel_rfl)
def St3 (a : Int) (b : D1) (c : D3) : St := stL 58 [(2, .ref 2 0 []), (3, .ref 3 0 []), (5, .data T1 a)] [(2, .cell T7 (.data T7 b) false), (3, .cell T8 (.data T8 c) false)]
def l0s (Nx : Int -> D2 -> Int -> Int -> D1 -> D3 -> Option α) (Xt0 : Int -> D1 -> D3 -> Option α) (e : Int) (b : D2) (f a : Int) (c : D1) (d : D3) : Option α :=
 if (decide (a < f)) = true then
  if 0 <= a /\ a < (b.length : Int) then
   if (cond ((List.getD b (Int.toNat a) (0, 0, 0, 0, ())).2.2.1 == d.2.2.1) (decide ((IntKind.i64.wrap ((List.getD b (Int.toNat a) (0, 0, 0, 0, ())).2.2.2.1 + 24)) > c.2.2.1)) false) = true then
    j0 Nx (IntKind.i64.wrap (e + (List.getD b (Int.toNat a) (0, 0, 0, 0, ())).2.1)) b f a c d
   else
    j0 Nx e b f a c d
  else none
 else
  Xt0 e c d
theorem l0s_eq (k : Nat) (next : St -> Option α) (Q : Ex -> St -> Option α) (e : Int) (b : D2) (f a : Int) (c : D1) (d : D3) :
  rnd C k cd0 9 Q next (St1 e b f a c d) = l0s (fun e b f a c d => next (St1 e b f a c d)) (fun e c d => Q (.exit 0) (St3 e c d)) e b f a c d := by
 have h : ∀ (D L : DT α), denJ D L Js C cd0 (lq C 9 next Q) (St1 e b f a c d) =
    if (decide (a < f)) = true then
     if 0 <= a /\ a < (b.length : Int) then
      if (cond ((List.getD b (Int.toNat a) (0, 0, 0, 0, ())).2.2.1 == d.2.2.1) (decide ((IntKind.i64.wrap ((List.getD b (Int.toNat a) (0, 0, 0, 0, ())).2.2.2.1 + 24)) > c.2.2.1)) false) = true then
       D cd1 (lq C 9 next Q) (St2 (IntKind.i64.wrap (e + (List.getD b (Int.toNat a) (0, 0, 0, 0, ())).2.1)) b f a c d)
      else
       D cd1 (lq C 9 next Q) (St2 e b f a c d)
     else none
    else
     Q (.exit 0) (St3 e c d) := by
  intro D L; kernel_rfl
 have h2 := via (k := k) h
 refine h2.trans ?_
 simp only [j0_eq]
 first | rfl | kernel_rfl
def l0 (k : Nat) (Xt0 : Int -> D1 -> D3 -> Option α) : Nat -> Int -> D2 -> Int -> Int -> D1 -> D3 -> Option α
 | 0, _, _, _, _, _, _ => none
 | n + 1, a, b, c, d, e, f => l0s (l0 k Xt0 n) Xt0 a b c d e f
theorem l0_eq (k : Nat) (Q : Ex -> St -> Option α) : ∀ (n : Nat) (a : Int) (d : D2) (e f : Int) (b : D1) (c : D3), iter (rnd C k cd0 9 Q) n (St1 a d e f b c) = l0 k (fun a b c => Q (.exit 0) (St3 a b c)) n a d e f b c
 | 0, _, _, _, _, _, _ => rfl
 | n + 1, a, d, e, f, b, c => (iter_succ _ _ _).trans ((l0s_eq k _ Q a d e f b c).trans (congrArg (fun N => l0s N (fun a b c => Q (.exit 0) (St3 a b c)) a d e f b c) (by funext; exact l0_eq k Q n _ _ _ _ _ _)))
noncomputable def cd2 : Code := cR (cR (cR (cB Try.f135)))
def St4 (a : Int) (b : D1) (c : D3) : St := stL 58 [(2, .ref 2 0 []), (3, .ref 3 0 []), (5, .data T1 a)] [(2, .cell T7 (.data T7 b) false), (3, .cell T8 (.data T8 c) false)]
def St5 (a : Bool) : St := stL 58 [(4, .data .bool a)] []
def j1 (Rt : Bool -> Option α) (c : Int) (b : D1) (a : D3) : Option α :=
 if 0 <= a.2.2.1 /\ a.2.2.1 < (3 : Int) then
  cond (decide (0 <= a.2.2.1 /\ a.2.2.1 < (3 : Int)) || !((decide (a.2.1 < (List.getD b.2.1 (Int.toNat a.2.2.1) 0))) == true)) (
   Rt (cond (cond (decide (a.2.1 < (List.getD b.2.1 (Int.toNat a.2.2.1) 0))) (decide (c <= (List.getD b.1 (Int.toNat a.2.2.1) 0))) false) (decide ((b.2.2.2.1.length : Int) < 40)) false)) none
 else none
theorem j1_eq (k : Nat) (Q : Ex -> St -> Option α) (a : Int) (b : D1) (c : D3) :
  (den C k) cd2 Q (St4 a b c) = j1 (fun d => Q .ret (St5 d)) a b c := plainly Js (by kernel_rfl)
theorem a0 (k : Nat) (Q : Ex -> St -> Option α) (a : Int) (e : D2) (f g : Int) (c : D1) (d : D3) :
  (lp C k) cd0 (blkQ C 0 (sq (den C k) (lp C k) Js C cd2 Q)) (St1 a e f g c d) = l0 k (fun a c d => j1 (fun i => Q .ret (St5 i)) a c d) k a e f g c d :=
 (lp_iter 9 (by kernel_rfl)).trans ((l0_eq k _ k a e f g c d).trans (congrArg (fun X => l0 k X k a e f g c d) (funext fun a => funext fun c => funext fun d => (Eq.trans (b := (den C k) cd2 Q (St4 a c d)) (by kernel_rfl) (by simp only [j1_eq])))))
def top (k : Nat) (Rt : Bool -> Option α) (a : D1) (b : D3) : Option α :=
 l0 k (fun c d e => j1 Rt c d e) k b.2.1 a.2.2.2.1 (a.2.2.2.1.length : Int) 0 a b
theorem top_eq (k : Nat) (Q : Ex -> St -> Option α) (a : D1) (b : D3) :
  (den C k) (cB Try.f135) Q (St0 a b) = top k (fun c => Q .ret (St5 c)) a b := by
 have h : ∀ (D L : DT α), denJ D L Js C (cB Try.f135) Q (St0 a b) =
    L cd0 (blkQ C 0 (sq D L Js C cd2 Q)) (St1 b.2.1 a.2.2.2.1 (a.2.2.2.1.length : Int) 0 a b) := by
  intro D L; kernel_rfl
 have h2 := via (k := k) h
 refine h2.trans ?_
 simp only [a0]
 first | rfl | kernel_rfl
def run (a : D1) (b : D3) : Option (Bool) := top (α := Bool) fuel (fun c => some c) a b
def F : Fn := ⟨T11, .bool, false, fun x => run x.1 x.2.1⟩
theorem con : Con Try.prog 135 F /\ Named Try.prog 135 :=
 con_of2 (C := C) (ctx_ok (by kernel_rfl) (by kernel_rfl) (by kernel_rfl) (by kernel_rfl) trivial) (by kernel_rfl) Try.func135 (by kernel_rfl) (c := cB Try.f135) (by kernel_rfl) (by kernel_rfl) F (fun x => by simp [F, spread, Try.ntmps135]) (fun x => (St0 x.1 x.2.1)) (fun x => by kernel_rfl) fun x => (top_eq fuel _ x.1 x.2.1).trans (by kernel_rfl)
end Go.Bx.basculeref_passes
namespace Go.Bx.basculelaw_sameQueue
def Js : List Nat := [10]
def C : Ctx := ⟨[(4, .bool), (26, T6), (165, T8)], [], [], fnL [], noSh, [], invL [], [(2, [4]), (1, []), (4, [0, 1, 12, 13]), (12, [0, 1, 12, 13]), (27, [])], [], [], 0, 0⟩
def St0 (a b : D2) : St := stL 26 [(0, .data T6 a), (1, .data T6 b)] []
def St1 (a : Bool) : St := stL 26 [(4, .data .bool a)] []
def St2 (a b : D2) (c d : Int) : St := stL 26 [(0, .data T6 a), (1, .data T6 b), (12, .data T1 c), (13, .data T1 d)] []
noncomputable def cd0 : Code := cL (cL (cR (cL (cR (cR (cB Try.f79))))))
def St3 : St := stL 26 [] []
def l0s (Nx : D2 -> D2 -> Int -> Int -> Option α) (Rt : Bool -> Option α) (Xt0 : Option α) (b c : D2) (d a : Int) : Option α :=
 if (decide (a < d)) = true then
  if 0 <= a /\ a < (b.length : Int) then
   if 0 <= a /\ a < (c.length : Int) then
    if (not (beqD T8 (List.getD b (Int.toNat a) (0, 0, 0, 0, ())) (List.getD c (Int.toNat a) (0, 0, 0, 0, ())))) = true then
     Rt false
    else
     Nx b c d (IntKind.i64.wrap (a + 1))
   else none
  else none
 else
  Xt0
theorem l0s_eq (k : Nat) (next : St -> Option α) (Q : Ex -> St -> Option α) (a b : D2) (c d : Int) :
  rnd C k cd0 12 Q next (St2 a b c d) = l0s (fun a b c d => next (St2 a b c d)) (fun e => Q .ret (St1 e)) (Q (.exit 0) St3) a b c d := plainly Js (by kernel_rfl)
def l0 (k : Nat) (Rt : Bool -> Option α) (Xt0 : Option α) : Nat -> D2 -> D2 -> Int -> Int -> Option α
 | 0, _, _, _, _ => none
 | n + 1, a, b, c, d => l0s (l0 k Rt Xt0 n) Rt Xt0 a b c d
theorem l0_eq (k : Nat) (Q : Ex -> St -> Option α) : ∀ (n : Nat) (a b : D2) (c d : Int), iter (rnd C k cd0 12 Q) n (St2 a b c d) = l0 k (fun e => Q .ret (St1 e)) (Q (.exit 0) St3) n a b c d
 | 0, _, _, _, _ => rfl
 | n + 1, a, b, c, d => (iter_succ _ _ _).trans ((l0s_eq k _ Q a b c d).trans (congrArg (fun N => l0s N (fun e => Q .ret (St1 e)) (Q (.exit 0) St3) a b c d) (by funext; exact l0_eq k Q n _ _ _ _)))
theorem l0_congr (k : Nat) (Rt : Bool -> Option α) (Xt0 : Option α) (Rtq : Bool -> Option α) (Xt0q : Option α) (hRt : ∀ (a : Bool), Rt a = Rtq a) (hXt0 : Xt0 = Xt0q) (n : Nat) (b c : D2) (d e : Int) : l0 k Rt Xt0 n b c d e = l0 k Rtq Xt0q n b c d e := by
 obtain rfl : Rt = Rtq := by funext a; exact hRt a
 obtain rfl : Xt0 = Xt0q := hXt0
 rfl
noncomputable def cd1 : Code := cR (cR (cR (cB Try.f79)))
def St4 : St := stL 26 [] []
def j0 (Rt : Bool -> Option α) : Option α :=
 Rt true
theorem j0_eq (k : Nat) (Q : Ex -> St -> Option α) :
  (den C k) cd1 Q St4 = j0 (fun a => Q .ret (St1 a)) := plainly Js (by kernel_rfl)
theorem a0 (k : Nat) (Q : Ex -> St -> Option α) (c d : D2) (e f : Int) :
  (lp C k) cd0 (blkQ C 0 (sq (den C k) (lp C k) Js C cd1 Q)) (St2 c d e f) = l0 k (fun a => (fun a => Q .ret (St1 a)) a) (j0 (fun a => Q .ret (St1 a))) k c d e f :=
 (lp_iter 12 (by kernel_rfl)).trans ((l0_eq k _ k c d e f).trans (l0_congr k _ _ _ _ (fun a => (by kernel_rfl)) (Eq.trans (b := (den C k) cd1 Q St4) (by kernel_rfl) (by simp only [j0_eq])) k c d e f))
def top (k : Nat) (Rt : Bool -> Option α) (a b : D2) : Option α :=
 if ((a.length : Int) != (b.length : Int)) = true then
  Rt false
 else
  l0 k (fun c => Rt c) (j0 Rt) k a b (a.length : Int) 0
theorem top_eq (k : Nat) (Q : Ex -> St -> Option α) (a b : D2) :
  (den C k) (cB Try.f79) Q (St0 a b) = top k (fun c => Q .ret (St1 c)) a b := by
 have h : ∀ (D L : DT α), denJ D L Js C (cB Try.f79) Q (St0 a b) =
    if ((a.length : Int) != (b.length : Int)) = true then
     Q .ret (St1 false)
    else
     L cd0 (blkQ C 0 (sq D L Js C cd1 Q)) (St2 a b (a.length : Int) 0) := by
  intro D L; kernel_rfl
 have h2 := via (k := k) h
 refine h2.trans ?_
 simp only [a0]
 first | rfl | kernel_rfl
def run (a b : D2) : Option (Bool) := top (α := Bool) fuel (fun c => some c) a b
def F : Fn := ⟨T40, .bool, false, fun x => run x.1 x.2.1⟩
theorem con : Con Try.prog 79 F /\ Named Try.prog 79 :=
 con_of2 (C := C) (ctx_ok (by kernel_rfl) (by kernel_rfl) (by kernel_rfl) (by kernel_rfl) trivial) (by kernel_rfl) Try.func79 (by kernel_rfl) (c := cB Try.f79) (by kernel_rfl) (by kernel_rfl) F (fun x => by simp [F, spread, Try.ntmps79]) (fun x => (St0 x.1 x.2.1)) (fun x => by kernel_rfl) fun x => (top_eq fuel _ x.1 x.2.1).trans (by kernel_rfl)
end Go.Bx.basculelaw_sameQueue
namespace Go.Bx.basculelaw_sameGate
def Js : List Nat := []
def C : Ctx := ⟨[(3, T1), (4, .bool), (25, T5), (26, T6), (28, T7)], [], [], fnL [(79, basculelaw_sameQueue.F)], noSh, [], invL [], [(2, [4])], [], [], 0, 0⟩
def St0 (a b : D1) : St := stL 38 [(0, .data T7 a), (1, .data T7 b)] []
def St1 (a : Bool) : St := stL 38 [(4, .data .bool a)] []
def top (Rt : Bool -> Option α) (a b : D1) : Option α :=
 (if ((cond (cond (beqD T5 a.1 b.1) (beqD T5 a.2.1 b.2.1) false) (a.2.2.1 == b.2.2.1) false) == true) = true then basculelaw_sameQueue.run a.2.2.2.1 b.2.2.2.1 else some false).bind fun c =>
 (if ((cond (cond (cond (beqD T5 a.1 b.1) (beqD T5 a.2.1 b.2.1) false) (a.2.2.1 == b.2.2.1) false) c false) == true) = true then basculelaw_sameQueue.run a.2.2.2.2.1 b.2.2.2.2.1 else some false).bind fun d =>
 Rt (cond (cond (cond (cond (beqD T5 a.1 b.1) (beqD T5 a.2.1 b.2.1) false) (a.2.2.1 == b.2.2.1) false) c false) d false)
theorem top_eq (k : Nat) (Q : Ex -> St -> Option α) (a b : D1) :
  (den C k) (cB Try.f27) Q (St0 a b) = top (fun c => Q .ret (St1 c)) a b := plainly Js (by kernel_rfl)
def run (a b : D1) : Option (Bool) := top (α := Bool) (fun c => some c) a b
def F : Fn := ⟨T41, .bool, false, fun x => run x.1 x.2.1⟩
theorem con : Con Try.prog 27 F /\ Named Try.prog 27 :=
 con_of2 (C := C) (ctx_ok (by kernel_rfl) (by kernel_rfl) (by kernel_rfl) (by kernel_rfl) ⟨.inl basculelaw_sameQueue.con, trivial⟩) (by kernel_rfl) Try.func27 (by kernel_rfl) (c := cB Try.f27) (by kernel_rfl) (by kernel_rfl) F (fun x => by simp [F, spread, Try.ntmps27]) (fun x => (St0 x.1 x.2.1)) (fun x => by kernel_rfl) fun x => (top_eq fuel _ x.1 x.2.1).trans (by kernel_rfl)
end Go.Bx.basculelaw_sameGate
namespace Go.Bx.basculelaw_sameBytes
def Js : List Nat := []
def C : Ctx := ⟨[(4, .bool), (9, .str), (29, T16)], [], [], fnL [], noSh, [], invL [], [(2, [4])], [], [], 0, 0⟩
def St0 (a b : D4) : St := stL 10 [(0, .data T16 a), (1, .data T16 b)] []
def St1 (a : Bool) : St := stL 10 [(4, .data .bool a)] []
def top (Rt : Bool -> Option α) (a b : D4) : Option α :=
 Rt (beqD .str a b)
theorem top_eq (k : Nat) (Q : Ex -> St -> Option α) (a b : D4) :
  (den C k) (cB Try.f80) Q (St0 a b) = top (fun c => Q .ret (St1 c)) a b := plainly Js (by kernel_rfl)
def run (a b : D4) : Option (Bool) := top (α := Bool) (fun c => some c) a b
def F : Fn := ⟨T21, .bool, false, fun x => run x.1 x.2.1⟩
theorem con : Con Try.prog 80 F /\ Named Try.prog 80 :=
 con_of2 (C := C) (ctx_ok (by kernel_rfl) (by kernel_rfl) (by kernel_rfl) (by kernel_rfl) trivial) (by kernel_rfl) Try.func80 (by kernel_rfl) (c := cB Try.f80) (by kernel_rfl) (by kernel_rfl) F (fun x => by simp [F, spread, Try.ntmps80]) (fun x => (St0 x.1 x.2.1)) (fun x => by kernel_rfl) fun x => (top_eq fuel _ x.1 x.2.1).trans (by kernel_rfl)
end Go.Bx.basculelaw_sameBytes
namespace Go.Bx.basculeref_SameBody
def Js : List Nat := []
def C : Ctx := ⟨[(3, T1), (4, .bool), (9, .str), (29, T16), (38, T17), (40, T2)], [], [], fnL [], noSh, [], invL [], [(2, [4])], [], [], 0, 0⟩
def St0 (a b : D0) : St := stL 54 [(0, .data T2 a), (1, .data T2 b)] []
def St1 (a : Bool) : St := stL 54 [(4, .data .bool a)] []
def top (Rt : Bool -> Option α) (a b : D0) : Option α :=
 Rt (cond (cond (cond (cond (cond (cond (a.1 == b.1) (a.2.1 == b.2.1) false) (a.2.2.1 == b.2.2.1) false) (beqD T17 a.2.2.2.1 b.2.2.2.1) false) (a.2.2.2.2.1 == b.2.2.2.2.1) false) (a.2.2.2.2.2.1 == b.2.2.2.2.2.1) false) (beqD .str a.2.2.2.2.2.2.1 b.2.2.2.2.2.2.1) false)
theorem top_eq (k : Nat) (Q : Ex -> St -> Option α) (a b : D0) :
  (den C k) (cB Try.f81) Q (St0 a b) = top (fun c => Q .ret (St1 c)) a b := plainly Js (by kernel_rfl)
def run (a b : D0) : Option (Bool) := top (α := Bool) (fun c => some c) a b
def F : Fn := ⟨T43, .bool, false, fun x => run x.1 x.2.1⟩
theorem con : Con Try.prog 81 F /\ Named Try.prog 81 :=
 con_of2 (C := C) (ctx_ok (by kernel_rfl) (by kernel_rfl) (by kernel_rfl) (by kernel_rfl) trivial) (by kernel_rfl) Try.func81 (by kernel_rfl) (c := cB Try.f81) (by kernel_rfl) (by kernel_rfl) F (fun x => by simp [F, spread, Try.ntmps81]) (fun x => (St0 x.1 x.2.1)) (fun x => by kernel_rfl) fun x => (top_eq fuel _ x.1 x.2.1).trans (by kernel_rfl)
end Go.Bx.basculeref_SameBody
namespace Go.Bx.basculelaw_sameLog
def Js : List Nat := []
def C : Ctx := ⟨[(4, .bool), (29, T16), (31, T21)], [], [], fnL [(80, basculelaw_sameBytes.F)], noSh, [], invL [], [(2, [4])], [], [], 0, 0⟩
def St0 (a b : D9) : St := stL 17 [(0, .data T21 a), (1, .data T21 b)] []
def St1 (a : Bool) : St := stL 17 [(4, .data .bool a)] []
def top (Rt : Bool -> Option α) (a b : D9) : Option α :=
 (basculelaw_sameBytes.run a.1 b.1).bind fun c =>
 (if (c == true) = true then basculelaw_sameBytes.run a.2.1 b.2.1 else some false).bind fun d =>
 Rt (cond c d false)
theorem top_eq (k : Nat) (Q : Ex -> St -> Option α) (a b : D9) :
  (den C k) (cB Try.f28) Q (St0 a b) = top (fun c => Q .ret (St1 c)) a b := plainly Js (by kernel_rfl)
def run (a b : D9) : Option (Bool) := top (α := Bool) (fun c => some c) a b
def F : Fn := ⟨T42, .bool, false, fun x => run x.1 x.2.1⟩
theorem con : Con Try.prog 28 F /\ Named Try.prog 28 :=
 con_of2 (C := C) (ctx_ok (by kernel_rfl) (by kernel_rfl) (by kernel_rfl) (by kernel_rfl) ⟨.inl basculelaw_sameBytes.con, trivial⟩) (by kernel_rfl) Try.func28 (by kernel_rfl) (c := cB Try.f28) (by kernel_rfl) (by kernel_rfl) F (fun x => by simp [F, spread, Try.ntmps28]) (fun x => (St0 x.1 x.2.1)) (fun x => by kernel_rfl) fun x => (top_eq fuel _ x.1 x.2.1).trans (by kernel_rfl)
end Go.Bx.basculelaw_sameLog
namespace Go.Bx.basculelaw_sameBodies
def Js : List Nat := [10]
def C : Ctx := ⟨[(4, .bool), (32, T19), (40, T2)], [], [], fnL [(81, basculeref_SameBody.F)], noSh, [], invL [], [(2, [4]), (1, []), (4, [0, 1, 12, 13]), (12, [0, 1, 12, 13]), (27, [])], [], [], 0, 0⟩
def St0 (a b : D7) : St := stL 27 [(0, .data T19 a), (1, .data T19 b)] []
def St1 (a : Bool) : St := stL 27 [(4, .data .bool a)] []
def St2 (a b : D7) (c d : Int) : St := stL 27 [(0, .data T19 a), (1, .data T19 b), (12, .data T1 c), (13, .data T1 d)] []
noncomputable def cd0 : Code := cL (cL (cR (cL (cR (cR (cB Try.f29))))))
def St3 : St := stL 27 [] []
def l0s (Nx : D7 -> D7 -> Int -> Int -> Option α) (Rt : Bool -> Option α) (Xt0 : Option α) (b c : D7) (d a : Int) : Option α :=
 if (decide (a < d)) = true then
  if 0 <= a /\ a < (b.length : Int) then
   if 0 <= a /\ a < (c.length : Int) then
    (basculeref_SameBody.run (List.getD b (Int.toNat a) (0, 0, 0, (List.replicate 32 0), 0, 0, [], ())) (List.getD c (Int.toNat a) (0, 0, 0, (List.replicate 32 0), 0, 0, [], ()))).bind fun e =>
    if (not e) = true then
     Rt false
    else
     Nx b c d (IntKind.i64.wrap (a + 1))
   else none
  else none
 else
  Xt0
theorem l0s_eq (k : Nat) (next : St -> Option α) (Q : Ex -> St -> Option α) (a b : D7) (c d : Int) :
  rnd C k cd0 12 Q next (St2 a b c d) = l0s (fun a b c d => next (St2 a b c d)) (fun e => Q .ret (St1 e)) (Q (.exit 0) St3) a b c d := plainly Js (by kernel_rfl)
def l0 (k : Nat) (Rt : Bool -> Option α) (Xt0 : Option α) : Nat -> D7 -> D7 -> Int -> Int -> Option α
 | 0, _, _, _, _ => none
 | n + 1, a, b, c, d => l0s (l0 k Rt Xt0 n) Rt Xt0 a b c d
theorem l0_eq (k : Nat) (Q : Ex -> St -> Option α) : ∀ (n : Nat) (a b : D7) (c d : Int), iter (rnd C k cd0 12 Q) n (St2 a b c d) = l0 k (fun e => Q .ret (St1 e)) (Q (.exit 0) St3) n a b c d
 | 0, _, _, _, _ => rfl
 | n + 1, a, b, c, d => (iter_succ _ _ _).trans ((l0s_eq k _ Q a b c d).trans (congrArg (fun N => l0s N (fun e => Q .ret (St1 e)) (Q (.exit 0) St3) a b c d) (by funext; exact l0_eq k Q n _ _ _ _)))
theorem l0_congr (k : Nat) (Rt : Bool -> Option α) (Xt0 : Option α) (Rtq : Bool -> Option α) (Xt0q : Option α) (hRt : ∀ (a : Bool), Rt a = Rtq a) (hXt0 : Xt0 = Xt0q) (n : Nat) (b c : D7) (d e : Int) : l0 k Rt Xt0 n b c d e = l0 k Rtq Xt0q n b c d e := by
 obtain rfl : Rt = Rtq := by funext a; exact hRt a
 obtain rfl : Xt0 = Xt0q := hXt0
 rfl
noncomputable def cd1 : Code := cR (cR (cR (cB Try.f29)))
def St4 : St := stL 27 [] []
def j0 (Rt : Bool -> Option α) : Option α :=
 Rt true
theorem j0_eq (k : Nat) (Q : Ex -> St -> Option α) :
  (den C k) cd1 Q St4 = j0 (fun a => Q .ret (St1 a)) := plainly Js (by kernel_rfl)
theorem a0 (k : Nat) (Q : Ex -> St -> Option α) (c d : D7) (e f : Int) :
  (lp C k) cd0 (blkQ C 0 (sq (den C k) (lp C k) Js C cd1 Q)) (St2 c d e f) = l0 k (fun a => (fun a => Q .ret (St1 a)) a) (j0 (fun a => Q .ret (St1 a))) k c d e f :=
 (lp_iter 12 (by kernel_rfl)).trans ((l0_eq k _ k c d e f).trans (l0_congr k _ _ _ _ (fun a => (by kernel_rfl)) (Eq.trans (b := (den C k) cd1 Q St4) (by kernel_rfl) (by simp only [j0_eq])) k c d e f))
def top (k : Nat) (Rt : Bool -> Option α) (a b : D7) : Option α :=
 if ((a.length : Int) != (b.length : Int)) = true then
  Rt false
 else
  l0 k (fun c => Rt c) (j0 Rt) k a b (a.length : Int) 0
theorem top_eq (k : Nat) (Q : Ex -> St -> Option α) (a b : D7) :
  (den C k) (cB Try.f29) Q (St0 a b) = top k (fun c => Q .ret (St1 c)) a b := by
 have h : ∀ (D L : DT α), denJ D L Js C (cB Try.f29) Q (St0 a b) =
    if ((a.length : Int) != (b.length : Int)) = true then
     Q .ret (St1 false)
    else
     L cd0 (blkQ C 0 (sq D L Js C cd1 Q)) (St2 a b (a.length : Int) 0) := by
  intro D L; kernel_rfl
 have h2 := via (k := k) h
 refine h2.trans ?_
 simp only [a0]
 first | rfl | kernel_rfl
def run (a b : D7) : Option (Bool) := top (α := Bool) fuel (fun c => some c) a b
def F : Fn := ⟨T44, .bool, false, fun x => run x.1 x.2.1⟩
theorem con : Con Try.prog 29 F /\ Named Try.prog 29 :=
 con_of2 (C := C) (ctx_ok (by kernel_rfl) (by kernel_rfl) (by kernel_rfl) (by kernel_rfl) ⟨.inl basculeref_SameBody.con, trivial⟩) (by kernel_rfl) Try.func29 (by kernel_rfl) (c := cB Try.f29) (by kernel_rfl) (by kernel_rfl) F (fun x => by simp [F, spread, Try.ntmps29]) (fun x => (St0 x.1 x.2.1)) (fun x => by kernel_rfl) fun x => (top_eq fuel _ x.1 x.2.1).trans (by kernel_rfl)
end Go.Bx.basculelaw_sameBodies
namespace Go.Bx.basculelaw_sameGuard
def Js : List Nat := []
def C : Ctx := ⟨[(4, .bool), (24, T23), (28, T7), (31, T21), (32, T19), (34, T22)], [], [], fnL [(27, basculelaw_sameGate.F), (28, basculelaw_sameLog.F), (29, basculelaw_sameBodies.F)], noSh, [], invL [], [(2, [4])], [], [], 0, 0⟩
def St0 (a b : D8) : St := stL 45 [(0, .data T22 a), (1, .data T22 b)] []
def St1 (a : Bool) : St := stL 45 [(4, .data .bool a)] []
def top (Rt : Bool -> Option α) (a b : D8) : Option α :=
 (if ((beqD T23 a.1 b.1) == true) = true then basculelaw_sameGate.run a.2.1 b.2.1 else some false).bind fun c =>
 (if ((cond (beqD T23 a.1 b.1) c false) == true) = true then basculelaw_sameGate.run a.2.2.1 b.2.2.1 else some false).bind fun d =>
 (if ((cond (cond (beqD T23 a.1 b.1) c false) d false) == true) = true then basculelaw_sameLog.run a.2.2.2.1 b.2.2.2.1 else some false).bind fun e =>
 (if ((cond (cond (cond (beqD T23 a.1 b.1) c false) d false) e false) == true) = true then basculelaw_sameBodies.run a.2.2.2.2.1 b.2.2.2.2.1 else some false).bind fun f =>
 (if ((cond (cond (cond (cond (beqD T23 a.1 b.1) c false) d false) e false) f false) == true) = true then basculelaw_sameBodies.run a.2.2.2.2.2.1 b.2.2.2.2.2.1 else some false).bind fun g =>
 Rt (cond (cond (cond (cond (cond (beqD T23 a.1 b.1) c false) d false) e false) f false) g false)
theorem top_eq (k : Nat) (Q : Ex -> St -> Option α) (a b : D8) :
  (den C k) (cB Try.f11) Q (St0 a b) = top (fun c => Q .ret (St1 c)) a b := plainly Js (by kernel_rfl)
def run (a b : D8) : Option (Bool) := top (α := Bool) (fun c => some c) a b
def F : Fn := ⟨T45, .bool, false, fun x => run x.1 x.2.1⟩
theorem con : Con Try.prog 11 F /\ Named Try.prog 11 :=
 con_of2 (C := C) (ctx_ok (by kernel_rfl) (by kernel_rfl) (by kernel_rfl) (by kernel_rfl) ⟨.inl basculelaw_sameGate.con, ⟨.inl basculelaw_sameLog.con, ⟨.inl basculelaw_sameBodies.con, trivial⟩⟩⟩) (by kernel_rfl) Try.func11 (by kernel_rfl) (c := cB Try.f11) (by kernel_rfl) (by kernel_rfl) F (fun x => by simp [F, spread, Try.ntmps11]) (fun x => (St0 x.1 x.2.1)) (fun x => by kernel_rfl) fun x => (top_eq fuel _ x.1 x.2.1).trans (by kernel_rfl)
end Go.Bx.basculelaw_sameGuard
namespace Go.Bx.guard_Id
def Js : List Nat := []
def C : Ctx := ⟨[(3, T1), (40, T2)], [], [], fnL [], noSh, [], invL [], [(2, [2])], [], [], 0, 0⟩
def St0 (a : D0) : St := stL 9 [(0, .data T2 a)] []
def St1 (a : Int) : St := stL 9 [(2, .data T1 a)] []
def top (Rt : Int -> Option α) (a : D0) : Option α :=
 Rt (IntKind.i64.wrap ((IntKind.i64.wrap (a.2.2.1 * 256)) + a.2.2.2.2.1))
theorem top_eq (k : Nat) (Q : Ex -> St -> Option α) (a : D0) :
  (den C k) (cB Try.f64) Q (St0 a) = top (fun b => Q .ret (St1 b)) a := plainly Js (by kernel_rfl)
def run (a : D0) : Option (Int) := top (α := Int) (fun b => some b) a
def F : Fn := ⟨T3, T1, false, fun x => run x.1⟩
theorem con : Con Try.prog 64 F /\ Named Try.prog 64 :=
 con_of2 (C := C) (ctx_ok (by kernel_rfl) (by kernel_rfl) (by kernel_rfl) (by kernel_rfl) trivial) (by kernel_rfl) Try.func64 (by kernel_rfl) (c := cB Try.f64) (by kernel_rfl) (by kernel_rfl) F (fun x => by simp [F, spread, Try.ntmps64]) (fun x => (St0 x.1)) (fun x => by kernel_rfl) fun x => (top_eq fuel _ x.1).trans (by kernel_rfl)
end Go.Bx.guard_Id
namespace Go.Bx.basculeref_IdOf
def Js : List Nat := []
def C : Ctx := ⟨[(3, T1), (40, T2)], [], [], fnL [], noSh, [], invL [], [(2, [2])], [], [], 0, 0⟩
def St0 (a : D0) : St := stL 9 [(0, .data T2 a)] []
def St1 (a : Int) : St := stL 9 [(2, .data T1 a)] []
def top (Rt : Int -> Option α) (a : D0) : Option α :=
 Rt (IntKind.i64.wrap ((IntKind.i64.wrap (256 * a.2.2.1)) + a.2.2.2.2.1))
theorem top_eq (k : Nat) (Q : Ex -> St -> Option α) (a : D0) :
  (den C k) (cB Try.f10) Q (St0 a) = top (fun b => Q .ret (St1 b)) a := plainly Js (by kernel_rfl)
def run (a : D0) : Option (Int) := top (α := Int) (fun b => some b) a
def F : Fn := ⟨T3, T1, false, fun x => run x.1⟩
theorem con : Con Try.prog 10 F /\ Named Try.prog 10 :=
 con_of2 (C := C) (ctx_ok (by kernel_rfl) (by kernel_rfl) (by kernel_rfl) (by kernel_rfl) trivial) (by kernel_rfl) Try.func10 (by kernel_rfl) (c := cB Try.f10) (by kernel_rfl) (by kernel_rfl) F (fun x => by simp [F, spread, Try.ntmps10]) (fun x => (St0 x.1)) (fun x => by kernel_rfl) fun x => (top_eq fuel _ x.1).trans (by kernel_rfl)
end Go.Bx.basculeref_IdOf
namespace Go.Bx.basculeref_Ticked
def Js : List Nat := [13, 14, 24, 25]
def C : Ctx := ⟨[(3, T1), (25, T5), (26, T6), (28, T7), (35, T1), (107, T12), (165, T8)], [], [], fnL [(129, basculeref_GateFault.F), (135, basculeref_passes.F)], noSh, [], invL [], [(2, [4, 5, 6]), (7, [4, 8, 11]), (10, [4, 8, 11, 65, 66, 67]), (1, [2, 4, 8]), (4, [2, 4, 8, 45, 46, 47]), (24, [2, 4, 8, 45, 46, 47]), (36, [2, 4, 8, 45, 46, 47]), (39, [2, 4, 8]), (45, [4, 8, 11, 65, 66, 67]), (69, [4, 8, 11, 65, 66, 67]), (72, [4, 8, 11])], [(2, [.dat true 5 [], .dat false 4 [3], .dat false 4 [4]]), (24, [.melt false 8 [3] 61 true]), (45, [.melt false 8 [4] 89 true, .melt true 11 [] 95 true]), (69, [.melt true 11 [] 95 true])], [], 0, 0⟩
def St0 (a : D1) (b : Int) : St := stL 115 [(0, .data T7 a), (1, .data T1 b)] []
def St1 (a : D4) (b : Int) (c : D1) : St := stL 115 [(4, .ref 4 0 []), (5, .data T12 a), (6, .data T1 b)] [(4, .cell T7 (.data T7 c) false)]
def St2 (a : D2) (b c : Int) (d : D1) (e f : D4) (g : Int) (i j : D4) (k : Int) (l : D2) : St := stL 115 [(2, .ref 2 0 []), (4, .ref 4 0 []), (8, .ref 8 0 []), (45, .data T6 a), (46, .data T1 b), (47, .data T1 c)] [(2, .cell T7 (.data T7 d) false), (4, .cell T7 (.agg T7 [.data T5 e, .data T5 f, .data T1 g, .full T8 [], .full T8 []]) false), (8, .cell T7 (.agg T7 [.data T5 i, .data T5 j, .data T1 k, .app 61 0, .full T8 []]) false), (61, .buf T8 l 0 true)]
noncomputable def cd0 : Code := cL (cL (cR (cL (cR (cR (cR (cR (cB Try.f76))))))))
def St3 (a : D2) (b c : Int) (d : D1) (e f : D4) (g : Int) (i j : D4) (k : Int) (l : D2) : St := stL 115 [(2, .ref 2 0 []), (4, .ref 4 0 []), (8, .ref 8 0 []), (45, .data T6 a), (46, .data T1 b), (47, .data T1 c)] [(2, .cell T7 (.data T7 d) false), (4, .cell T7 (.agg T7 [.data T5 e, .data T5 f, .data T1 g, .full T8 [], .full T8 []]) false), (8, .cell T7 (.agg T7 [.data T5 i, .data T5 j, .data T1 k, .app 61 0, .full T8 []]) false), (61, .buf T8 l 0 true)]
noncomputable def cd1 : Code := cR (cR (cR (cL (cL (cR (cL (cR (cR (cR (cR (cB Try.f76)))))))))))
def j0 (Nx : D2 -> Int -> Int -> D1 -> D4 -> D4 -> Int -> D4 -> D4 -> Int -> D2 -> Option α) (a : D2) (b c : Int) (d : D1) (e f : D4) (g : Int) (i j : D4) (k : Int) (l : D2) : Option α :=
 Nx a b (IntKind.i64.wrap (c + 1)) d e f g i j k l
theorem j0_eq (k : Nat) (next : St -> Option α) (Q : Ex -> St -> Option α) (a : D2) (b c : Int) (d : D1) (e f : D4) (g : Int) (i j : D4) (l : Int) (m : D2) :
  (den C k) cd1 (lq C 24 next Q) (St3 a b c d e f g i j l m) = j0 (fun a b c d e f g i j l m => next (St2 a b c d e f g i j l m)) a b c d e f g i j l m := plainly Js (by kernel_rfl)
def St4 (a : D1) (b c : D4) (d : Int) (e f : D4) (g : Int) (i : D2) : St := stL 115 [(2, .ref 2 0 []), (4, .ref 4 0 []), (8, .ref 8 0 [])] [(2, .cell T7 (.data T7 a) false), (4, .cell T7 (.agg T7 [.data T5 b, .data T5 c, .data T1 d, .full T8 [], .full T8 []]) false), (8, .cell T7 (.agg T7 [.data T5 e, .data T5 f, .data T1 g, .app 61 0, .full T8 []]) false), (61, .buf T8 i 0 true)]
def l0s (Nx : D2 -> Int -> Int -> D1 -> D4 -> D4 -> Int -> D4 -> D4 -> Int -> D2 -> Option α) (Xt0 : D1 -> D4 -> D4 -> Int -> D4 -> D4 -> Int -> D2 -> Option α) (b : D2) (e a : Int) (f : D1) (g i : D4) (j : Int) (k l : D4) (c : Int) (d : D2) : Option α :=
 if (decide (a < e)) = true then
  if 0 <= a /\ a < (b.length : Int) then
   if (decide ((IntKind.i64.wrap ((List.getD b (Int.toNat a) (0, 0, 0, 0, ())).2.2.2.1 + 24)) > c)) = true then
    if fitB (d.length + 1) 32 = true then
     j0 Nx b e a f g i j k l c (d ++ [(List.getD b (Int.toNat a) (0, 0, 0, 0, ()))])
    else none
   else
    j0 Nx b e a f g i j k l c d
  else none
 else
  Xt0 f g i j k l c d
theorem l0s_eq (k : Nat) (next : St -> Option α) (Q : Ex -> St -> Option α) (d : D2) (m a : Int) (e : D1) (f g : D4) (i : Int) (j l : D4) (b : Int) (c : D2) :
  rnd C k cd0 24 Q next (St2 d m a e f g i j l b c) = l0s (fun d m a e f g i j l b c => next (St2 d m a e f g i j l b c)) (fun e f g i j l b c => Q (.exit 0) (St4 e f g i j l b c)) d m a e f g i j l b c := by
 have h : ∀ (D L : DT α), denJ D L Js C cd0 (lq C 24 next Q) (St2 d m a e f g i j l b c) =
    if (decide (a < m)) = true then
     if 0 <= a /\ a < (d.length : Int) then
      if (decide ((IntKind.i64.wrap ((List.getD d (Int.toNat a) (0, 0, 0, 0, ())).2.2.2.1 + 24)) > b)) = true then
       if fitB (c.length + 1) 32 = true then
        D cd1 (lq C 24 next Q) (St3 d m a e f g i j l b (c ++ [(List.getD d (Int.toNat a) (0, 0, 0, 0, ()))]))
       else none
      else
       D cd1 (lq C 24 next Q) (St3 d m a e f g i j l b c)
     else none
    else
     Q (.exit 0) (St4 e f g i j l b c) := by
  intro D L; kernel_rfl
 have h2 := via (k := k) h
 refine h2.trans ?_
 simp only [j0_eq]
 first | rfl | kernel_rfl
def l0 (k : Nat) (Xt0 : D1 -> D4 -> D4 -> Int -> D4 -> D4 -> Int -> D2 -> Option α) : Nat -> D2 -> Int -> Int -> D1 -> D4 -> D4 -> Int -> D4 -> D4 -> Int -> D2 -> Option α
 | 0, _, _, _, _, _, _, _, _, _, _, _ => none
 | n + 1, a, b, c, d, e, f, g, i, j, l, m => l0s (l0 k Xt0 n) Xt0 a b c d e f g i j l m
theorem l0_eq (k : Nat) (Q : Ex -> St -> Option α) : ∀ (n : Nat) (j : D2) (l m : Int) (a : D1) (b c : D4) (d : Int) (e f : D4) (g : Int) (i : D2), iter (rnd C k cd0 24 Q) n (St2 j l m a b c d e f g i) = l0 k (fun a b c d e f g i => Q (.exit 0) (St4 a b c d e f g i)) n j l m a b c d e f g i
 | 0, _, _, _, _, _, _, _, _, _, _, _ => rfl
 | n + 1, j, l, m, a, b, c, d, e, f, g, i => (iter_succ _ _ _).trans ((l0s_eq k _ Q j l m a b c d e f g i).trans (congrArg (fun N => l0s N (fun a b c d e f g i => Q (.exit 0) (St4 a b c d e f g i)) j l m a b c d e f g i) (by funext; exact l0_eq k Q n _ _ _ _ _ _ _ _ _ _ _)))
noncomputable def cd2 : Code := cR (cR (cR (cR (cR (cB Try.f76)))))
def St5 (a : D1) (b c : D4) (d : Int) (e f : D4) (g : Int) (i : D2) : St := stL 115 [(2, .ref 2 0 []), (4, .ref 4 0 []), (8, .ref 8 0 [])] [(2, .cell T7 (.data T7 a) false), (4, .cell T7 (.agg T7 [.data T5 b, .data T5 c, .data T1 d, .full T8 [], .full T8 []]) false), (8, .cell T7 (.agg T7 [.data T5 e, .data T5 f, .data T1 g, .app 61 0, .full T8 []]) false), (61, .buf T8 i 0 true)]
def St6 (a : D2) (b c : Int) (d e : D4) (f : Int) (g i : D4) (j : Int) (k l : D2) (m : D4) : St := stL 115 [(4, .ref 4 0 []), (8, .ref 8 0 []), (11, .app 95 0), (65, .data T6 a), (66, .data T1 b), (67, .data T1 c)] [(4, .cell T7 (.agg T7 [.data T5 d, .data T5 e, .data T1 f, .full T8 [], .full T8 []]) false), (8, .cell T7 (.agg T7 [.data T5 g, .data T5 i, .data T1 j, .app 61 0, .app 89 0]) false), (61, .buf T8 k 0 true), (89, .buf T8 l 0 true), (95, .buf T1 m 0 true)]
noncomputable def cd3 : Code := cL (cL (cR (cL (cR (cR (cR (cR (cR (cR (cB Try.f76))))))))))
def St7 (a : D2) (b c : Int) (d e : D4) (f : Int) (g i : D4) (j : Int) (k l : D2) (m : D4) : St := stL 115 [(4, .ref 4 0 []), (8, .ref 8 0 []), (11, .app 95 0), (65, .data T6 a), (66, .data T1 b), (67, .data T1 c)] [(4, .cell T7 (.agg T7 [.data T5 d, .data T5 e, .data T1 f, .full T8 [], .full T8 []]) false), (8, .cell T7 (.agg T7 [.data T5 g, .data T5 i, .data T1 j, .app 61 0, .app 89 0]) false), (61, .buf T8 k 0 true), (89, .buf T8 l 0 true), (95, .buf T1 m 0 true)]
noncomputable def cd4 : Code := cR (cR (cR (cL (cL (cR (cL (cR (cR (cR (cR (cR (cR (cB Try.f76)))))))))))))
def j2 (Nx : D2 -> Int -> Int -> D4 -> D4 -> Int -> D4 -> D4 -> Int -> D2 -> D2 -> D4 -> Option α) (a : D2) (b c : Int) (d e : D4) (f : Int) (g i : D4) (j : Int) (k l : D2) (m : D4) : Option α :=
 Nx a b (IntKind.i64.wrap (c + 1)) d e f g i j k l m
theorem j2_eq (k : Nat) (next : St -> Option α) (Q : Ex -> St -> Option α) (a : D2) (b c : Int) (d e : D4) (f : Int) (g i : D4) (j : Int) (l m : D2) (n : D4) :
  (den C k) cd4 (lq C 45 next Q) (St7 a b c d e f g i j l m n) = j2 (fun a b c d e f g i j l m n => next (St6 a b c d e f g i j l m n)) a b c d e f g i j l m n := plainly Js (by kernel_rfl)
def St8 (a b : D4) (c : Int) (d e : D4) (f : Int) (g i : D2) (j : D4) : St := stL 115 [(4, .ref 4 0 []), (8, .ref 8 0 []), (11, .app 95 0)] [(4, .cell T7 (.agg T7 [.data T5 a, .data T5 b, .data T1 c, .full T8 [], .full T8 []]) false), (8, .cell T7 (.agg T7 [.data T5 d, .data T5 e, .data T1 f, .app 61 0, .app 89 0]) false), (61, .buf T8 g 0 true), (89, .buf T8 i 0 true), (95, .buf T1 j 0 true)]
def l1s (Nx : D2 -> Int -> Int -> D4 -> D4 -> Int -> D4 -> D4 -> Int -> D2 -> D2 -> D4 -> Option α) (Xt2 : D4 -> D4 -> Int -> D4 -> D4 -> Int -> D2 -> D2 -> D4 -> Option α) (b : D2) (j a : Int) (k l : D4) (m : Int) (f g : D4) (c : Int) (d e : D2) (i : D4) : Option α :=
 if (decide (a < j)) = true then
  if 0 <= a /\ a < (b.length : Int) then
   (if ((not (decide ((IntKind.i64.wrap ((List.getD b (Int.toNat a) (0, 0, 0, 0, ())).2.2.2.1 + 24)) <= c))) == true) = true then basculeref_passes.run (f, g, c, d, e, ()) (List.getD b (Int.toNat a) (0, 0, 0, 0, ())) else some false).bind fun n =>
   if (cond (not (decide ((IntKind.i64.wrap ((List.getD b (Int.toNat a) (0, 0, 0, 0, ())).2.2.2.1 + 24)) <= c))) (not n) false) = true then
    if fitB (e.length + 1) 32 = true then
     j2 Nx b j a k l m f g c d (e ++ [(List.getD b (Int.toNat a) (0, 0, 0, 0, ()))]) i
    else none
   else
    if fitB (i.length + 1) 8 = true then
     if (not (decide ((IntKind.i64.wrap ((List.getD b (Int.toNat a) (0, 0, 0, 0, ())).2.2.2.1 + 24)) <= c))) = true then
      if fitB (d.length + 1) 32 = true then
       j2 Nx b j a k l m f g c (d ++ [((List.getD b (Int.toNat a) (0, 0, 0, 0, ())).1, (List.getD b (Int.toNat a) (0, 0, 0, 0, ())).2.1, (List.getD b (Int.toNat a) (0, 0, 0, 0, ())).2.2.1, c, ())]) e (i ++ [(List.getD b (Int.toNat a) (0, 0, 0, 0, ())).1])
      else none
     else
      j2 Nx b j a k l m f g c d e (i ++ [(List.getD b (Int.toNat a) (0, 0, 0, 0, ())).1])
    else none
  else none
 else
  Xt2 k l m f g c d e i
theorem l1s_eq (k : Nat) (next : St -> Option α) (Q : Ex -> St -> Option α) (b : D2) (n a : Int) (j l : D4) (m : Int) (f g : D4) (c : Int) (d e : D2) (i : D4) :
  rnd C k cd3 45 Q next (St6 b n a j l m f g c d e i) = l1s (fun b n a j l m f g c d e i => next (St6 b n a j l m f g c d e i)) (fun j l m f g c d e i => Q (.exit 2) (St8 j l m f g c d e i)) b n a j l m f g c d e i := by
 have h : ∀ (D L : DT α), denJ D L Js C cd3 (lq C 45 next Q) (St6 b n a j l m f g c d e i) =
    if (decide (a < n)) = true then
     if 0 <= a /\ a < (b.length : Int) then
      (if ((not (decide ((IntKind.i64.wrap ((List.getD b (Int.toNat a) (0, 0, 0, 0, ())).2.2.2.1 + 24)) <= c))) == true) = true then basculeref_passes.run (f, g, c, d, e, ()) (List.getD b (Int.toNat a) (0, 0, 0, 0, ())) else some false).bind fun o =>
      if (cond (not (decide ((IntKind.i64.wrap ((List.getD b (Int.toNat a) (0, 0, 0, 0, ())).2.2.2.1 + 24)) <= c))) (not o) false) = true then
       if fitB (e.length + 1) 32 = true then
        D cd4 (lq C 45 next Q) (St7 b n a j l m f g c d (e ++ [(List.getD b (Int.toNat a) (0, 0, 0, 0, ()))]) i)
       else none
      else
       if fitB (i.length + 1) 8 = true then
        if (not (decide ((IntKind.i64.wrap ((List.getD b (Int.toNat a) (0, 0, 0, 0, ())).2.2.2.1 + 24)) <= c))) = true then
         if fitB (d.length + 1) 32 = true then
          D cd4 (lq C 45 next Q) (St7 b n a j l m f g c (d ++ [((List.getD b (Int.toNat a) (0, 0, 0, 0, ())).1, (List.getD b (Int.toNat a) (0, 0, 0, 0, ())).2.1, (List.getD b (Int.toNat a) (0, 0, 0, 0, ())).2.2.1, c, ())]) e (i ++ [(List.getD b (Int.toNat a) (0, 0, 0, 0, ())).1]))
         else none
        else
         D cd4 (lq C 45 next Q) (St7 b n a j l m f g c d e (i ++ [(List.getD b (Int.toNat a) (0, 0, 0, 0, ())).1]))
       else none
     else none
    else
     Q (.exit 2) (St8 j l m f g c d e i) := by
  intro D L; kernel_rfl
 have h2 := via (k := k) h
 refine h2.trans ?_
 simp only [j2_eq]
 first | rfl | kernel_rfl
def l1 (k : Nat) (Xt2 : D4 -> D4 -> Int -> D4 -> D4 -> Int -> D2 -> D2 -> D4 -> Option α) : Nat -> D2 -> Int -> Int -> D4 -> D4 -> Int -> D4 -> D4 -> Int -> D2 -> D2 -> D4 -> Option α
 | 0, _, _, _, _, _, _, _, _, _, _, _, _ => none
 | n + 1, a, b, c, d, e, f, g, i, j, l, m, o => l1s (l1 k Xt2 n) Xt2 a b c d e f g i j l m o
theorem l1_eq (k : Nat) (Q : Ex -> St -> Option α) : ∀ (n : Nat) (l : D2) (m o : Int) (a b : D4) (c : Int) (d e : D4) (f : Int) (g i : D2) (j : D4), iter (rnd C k cd3 45 Q) n (St6 l m o a b c d e f g i j) = l1 k (fun a b c d e f g i j => Q (.exit 2) (St8 a b c d e f g i j)) n l m o a b c d e f g i j
 | 0, _, _, _, _, _, _, _, _, _, _, _, _ => rfl
 | n + 1, l, m, o, a, b, c, d, e, f, g, i, j => (iter_succ _ _ _).trans ((l1s_eq k _ Q l m o a b c d e f g i j).trans (congrArg (fun N => l1s N (fun a b c d e f g i j => Q (.exit 2) (St8 a b c d e f g i j)) l m o a b c d e f g i j) (by funext; exact l1_eq k Q n _ _ _ _ _ _ _ _ _ _ _ _)))
noncomputable def cd5 : Code := cR (cR (cR (cR (cR (cR (cR (cB Try.f76)))))))
def St9 (a b : D4) (c : Int) (d e : D4) (f : Int) (g i : D2) (j : D4) : St := stL 115 [(4, .ref 4 0 []), (8, .ref 8 0 []), (11, .app 95 0)] [(4, .cell T7 (.agg T7 [.data T5 a, .data T5 b, .data T1 c, .full T8 [], .full T8 []]) false), (8, .cell T7 (.agg T7 [.data T5 d, .data T5 e, .data T1 f, .app 61 0, .app 89 0]) false), (61, .buf T8 g 0 true), (89, .buf T8 i 0 true), (95, .buf T1 j 0 true)]
def j3 (Rt : D4 -> Int -> D1 -> Option α) (g i : D4) (j : Int) (a b : D4) (c : Int) (d e : D2) (f : D4) : Option α :=
 Rt f 0 (a, b, c, d, e, ())
theorem j3_eq (k : Nat) (Q : Ex -> St -> Option α) (a b : D4) (c : Int) (d e : D4) (f : Int) (g i : D2) (j : D4) :
  (den C k) cd5 Q (St9 a b c d e f g i j) = j3 (fun l m n => Q .ret (St1 l m n)) a b c d e f g i j := plainly Js (by kernel_rfl)
theorem a0 (k : Nat) (Q : Ex -> St -> Option α) (m : D2) (n o : Int) (a c : D4) (d : Int) (e f : D4) (g : Int) (i j : D2) (l : D4) :
  (lp C k) cd3 (blkQ C 2 (sq (den C k) (lp C k) Js C cd5 Q)) (St6 m n o a c d e f g i j l) = l1 k (fun a c d e f g i j l => j3 (fun p q r => Q .ret (St1 p q r)) a c d e f g i j l) k m n o a c d e f g i j l :=
 (lp_iter 45 (by kernel_rfl)).trans ((l1_eq k _ k m n o a c d e f g i j l).trans (congrArg (fun X => l1 k X k m n o a c d e f g i j l) (funext fun a => funext fun c => funext fun d => funext fun e => funext fun f => funext fun g => funext fun i => funext fun j => funext fun l => (Eq.trans (b := (den C k) cd5 Q (St9 a c d e f g i j l)) (by kernel_rfl) (by simp only [j3_eq])))))
def j1 (k : Nat) (Rt : D4 -> Int -> D1 -> Option α) (i : D1) (a b : D4) (c : Int) (d e : D4) (f : Int) (g : D2) : Option α :=
 l1 k (fun a b c d e f g j l => j3 Rt a b c d e f g j l) k i.2.2.2.2.1 (i.2.2.2.2.1.length : Int) 0 a b c d e f g [] []
theorem j1_eq (k : Nat) (Q : Ex -> St -> Option α) (a : D1) (b c : D4) (d : Int) (e f : D4) (g : Int) (i : D2) :
  (den C k) cd2 Q (St5 a b c d e f g i) = j1 k (fun j l m => Q .ret (St1 j l m)) a b c d e f g i := by
 have h : ∀ (D L : DT α), denJ D L Js C cd2 Q (St5 a b c d e f g i) =
    L cd3 (blkQ C 2 (sq D L Js C cd5 Q)) (St6 a.2.2.2.2.1 (a.2.2.2.2.1.length : Int) 0 b c d e f g i [] []) := by
  intro D L; kernel_rfl
 have h2 := via (k := k) h
 refine h2.trans ?_
 simp only [a0]
 first | rfl | kernel_rfl
theorem a1 (k : Nat) (Q : Ex -> St -> Option α) (l : D2) (m n : Int) (a : D1) (c d : D4) (e : Int) (f g : D4) (i : Int) (j : D2) :
  (lp C k) cd0 (blkQ C 0 (sq (den C k) (lp C k) Js C cd2 Q)) (St2 l m n a c d e f g i j) = l0 k (fun a c d e f g i j => j1 k (fun o p q => Q .ret (St1 o p q)) a c d e f g i j) k l m n a c d e f g i j :=
 (lp_iter 24 (by kernel_rfl)).trans ((l0_eq k _ k l m n a c d e f g i j).trans (congrArg (fun X => l0 k X k l m n a c d e f g i j) (funext fun a => funext fun c => funext fun d => funext fun e => funext fun f => funext fun g => funext fun i => funext fun j => (Eq.trans (b := (den C k) cd2 Q (St5 a c d e f g i j)) (by kernel_rfl) (by simp only [j1_eq])))))
def top (k : Nat) (Rt : D4 -> Int -> D1 -> Option α) (a : D1) (b : Int) : Option α :=
 (basculeref_GateFault.run a).bind fun c =>
 if (c != 0) = true then
  Rt [] c ([0, 0, 0], [0, 0, 0], 0, [], [], ())
 else
  if (cond (cond (decide (b < 1)) true (decide (b > 1000))) true (decide (a.2.2.1 > (IntKind.i64.wrap (1099511627776 - b))))) = true then
   Rt [] 6 ([0, 0, 0], [0, 0, 0], 0, [], [], ())
  else
   l0 k (fun d e f g i j l m => j1 k Rt d e f g i j l m) k a.2.2.2.1 (a.2.2.2.1.length : Int) 0 a [0, 0, 0] [0, 0, 0] 0 a.1 a.2.1 (IntKind.i64.wrap (a.2.2.1 + b)) []
theorem top_eq (k : Nat) (Q : Ex -> St -> Option α) (a : D1) (b : Int) :
  (den C k) (cB Try.f76) Q (St0 a b) = top k (fun d e f => Q .ret (St1 d e f)) a b := by
 have h : ∀ (D L : DT α), denJ D L Js C (cB Try.f76) Q (St0 a b) =
    (basculeref_GateFault.run a).bind fun c =>
    if (c != 0) = true then
     Q .ret (St1 [] c ([0, 0, 0], [0, 0, 0], 0, [], [], ()))
    else
     if (cond (cond (decide (b < 1)) true (decide (b > 1000))) true (decide (a.2.2.1 > (IntKind.i64.wrap (1099511627776 - b))))) = true then
      Q .ret (St1 [] 6 ([0, 0, 0], [0, 0, 0], 0, [], [], ()))
     else
      L cd0 (blkQ C 0 (sq D L Js C cd2 Q)) (St2 a.2.2.2.1 (a.2.2.2.1.length : Int) 0 a [0, 0, 0] [0, 0, 0] 0 a.1 a.2.1 (IntKind.i64.wrap (a.2.2.1 + b)) []) := by
  intro D L; kernel_rfl
 have h2 := via (k := k) h
 refine h2.trans ?_
 simp only [a1]
 first | rfl | kernel_rfl
def run (a : D1) (b : Int) : Option D5 := top (α := D1 × List Int × Int × Unit) fuel (fun c d e => some (e, c, d, ())) a b
def F : Fn := ⟨T10, T13, true, fun x => run x.1 x.2.1⟩
theorem con : Con Try.prog 76 F /\ Named Try.prog 76 :=
 con_of2 (C := C) (ctx_ok (by kernel_rfl) (by kernel_rfl) (by kernel_rfl) (by kernel_rfl) ⟨.inl basculeref_GateFault.con, ⟨.inl basculeref_passes.con, trivial⟩⟩) (by kernel_rfl) Try.func76 (by kernel_rfl) (c := cB Try.f76) (by kernel_rfl) (by kernel_rfl) F (fun x => by simp [F, spread, Try.ntmps76]) (fun x => (St0 x.1 x.2.1)) (fun x => by kernel_rfl) fun x => (top_eq fuel _ x.1 x.2.1).trans (by kernel_rfl)
end Go.Bx.basculeref_Ticked
