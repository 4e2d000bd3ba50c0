/- Go functions of this seat in their own words of Lean, each tied to its code by a contract. -/
import Derived.Test.YtbkkahkikjifkaaGBase
import Derived.Test.YtbkkahkikjifkaaFnGuardAgains0
import Derived.Test.YtbkkahkikjifkaaFnGuardAgains1
open Go Go.Proofs Go.Bx
set_option maxRecDepth 100000
set_option linter.unusedVariables false
variable {α : Type}
namespace Go.Bx.basculeref_meets
def Js : List Nat := [10, 17]
def C : Ctx := ⟨[(3, T1), (4, .bool), (28, T7), (32, T19), (34, T22), (40, T2)], [], [], fnL [(10, basculeref_IdOf.F), (117, basculeref_BodyFault.F), (118, basculeref_Offered.F), (119, basculeref_WorthOf.F)], noSh, [], invL [], [(2, [4, 5]), (1, [2, 3, 4]), (4, [2, 3, 4, 31, 32, 33]), (12, [2, 3, 4, 31, 32, 33]), (27, [2, 3, 4]), (48, [2, 4])], [(2, [.dat false 4 []]), (48, [.dat false 2 []])], [28, 66, 74], 0, 0⟩
def St0 (a : D8) (b : D0) : St := stL 80 [(0, .data T22 a), (1, .data T2 b)] []
def St1 (a : Bool) (b : D8) : St := stL 80 [(4, .ref 4 0 []), (5, .data .bool a)] [(4, .cell T22 (.data T22 b) false)]
def St2 (a b : Int) (c : D8) (d : D0) (e f g : D4) (i : Int) (j k : D4) (l : Int) (m : D7) : St := stL 80 [(2, .ref 2 0 []), (3, .ref 3 0 []), (4, .ref 4 0 []), (31, .app 28 0), (32, .data T1 a), (33, .data T1 b)] [(2, .cell T22 (.data T22 c) false), (3, .cell T2 (.data T2 d) false), (4, .cell T22 (.agg T22 [.data T23 e, .agg T7 [.data T5 f, .data T5 g, .data T1 i, .full T8 [], .full T8 []], .agg T7 [.data T5 j, .data T5 k, .data T1 l, .full T8 [], .full T8 []], .agg T21 [.full T18 [], .full T18 []], .full T2 [], .full T2 []]) false), (28, .buf T2 m 0 true)]
noncomputable def cd0 : Code := cL (cL (cR (cL (cR (cR (cB Try.f57))))))
def St3 (a : D8) (b : D0) (c d e : D4) (f : Int) (g i : D4) (j : Int) : St := stL 80 [(2, .ref 2 0 []), (3, .ref 3 0 []), (4, .ref 4 0 [])] [(2, .cell T22 (.data T22 a) false), (3, .cell T2 (.data T2 b) false), (4, .cell T22 (.agg T22 [.data T23 c, .agg T7 [.data T5 d, .data T5 e, .data T1 f, .full T8 [], .full T8 []], .agg T7 [.data T5 g, .data T5 i, .data T1 j, .full T8 [], .full T8 []], .agg T21 [.full T18 [], .full T18 []], .full T2 [], .full T2 []]) false)]
def l0s (Nx : Int -> Int -> D8 -> D0 -> D4 -> D4 -> D4 -> Int -> D4 -> D4 -> Int -> D7 -> Option α) (Rt : Bool -> D8 -> Option α) (Xt0 : D8 -> D0 -> D4 -> D4 -> D4 -> Int -> D4 -> D4 -> Int -> Option α) (e a : Int) (b : D8) (c : D0) (f g i : D4) (j : Int) (k l : D4) (m : Int) (d : D7) : Option α :=
 if (decide (a < e)) = true then
  if 0 <= a /\ a < (d.length : Int) then
   (basculeref_IdOf.run (List.getD d (Int.toNat a) (0, 0, 0, (List.replicate 32 0), 0, 0, [], ()))).bind fun n =>
   (basculeref_IdOf.run c).bind fun o =>
   if (n == o) = true then
    Rt false b
   else
    Nx e (IntKind.i64.wrap (a + 1)) b c f g i j k l m d
  else none
 else
  Xt0 b c f g i j k l m
theorem l0s_eq (k : Nat) (next : St -> Option α) (Q : Ex -> St -> Option α) (l m : Int) (a : D8) (b : D0) (c d e : D4) (f : Int) (g i : D4) (j : Int) (n : D7) :
  rnd C k cd0 12 Q next (St2 l m a b c d e f g i j n) = l0s (fun l m a b c d e f g i j n => next (St2 l m a b c d e f g i j n)) (fun o p => Q .ret (St1 o p)) (fun a b c d e f g i j => Q (.exit 0) (St3 a b c d e f g i j)) l m a b c d e f g i j n := plainly Js (by kernel_rfl)
def l0 (k : Nat) (Rt : Bool -> D8 -> Option α) (Xt0 : D8 -> D0 -> D4 -> D4 -> D4 -> Int -> D4 -> D4 -> Int -> Option α) : Nat -> Int -> Int -> D8 -> D0 -> D4 -> D4 -> D4 -> Int -> D4 -> D4 -> Int -> D7 -> Option α
 | 0, _, _, _, _, _, _, _, _, _, _, _, _ => none
 | n + 1, a, b, c, d, e, f, g, i, j, l, m, o => l0s (l0 k Rt Xt0 n) Rt Xt0 a b c d e f g i j l m o
theorem l0_eq (k : Nat) (Q : Ex -> St -> Option α) : ∀ (n : Nat) (l m : Int) (a : D8) (b : D0) (c d e : D4) (f : Int) (g i : D4) (j : Int) (o : D7), iter (rnd C k cd0 12 Q) n (St2 l m a b c d e f g i j o) = l0 k (fun p q => Q .ret (St1 p q)) (fun a b c d e f g i j => Q (.exit 0) (St3 a b c d e f g i j)) n l m a b c d e f g i j o
 | 0, _, _, _, _, _, _, _, _, _, _, _, _ => rfl
 | n + 1, l, m, a, b, c, d, e, f, g, i, j, o => (iter_succ _ _ _).trans ((l0s_eq k _ Q l m a b c d e f g i j o).trans (congrArg (fun N => l0s N (fun p q => Q .ret (St1 p q)) (fun a b c d e f g i j => Q (.exit 0) (St3 a b c d e f g i j)) l m a b c d e f g i j o) (by funext; exact l0_eq k Q n _ _ _ _ _ _ _ _ _ _ _ _)))
theorem l0_congr (k : Nat) (Rt : Bool -> D8 -> Option α) (Xt0 : D8 -> D0 -> D4 -> D4 -> D4 -> Int -> D4 -> D4 -> Int -> Option α) (Rtq : Bool -> D8 -> Option α) (Xt0q : D8 -> D0 -> D4 -> D4 -> D4 -> Int -> D4 -> D4 -> Int -> Option α) (hRt : ∀ (l : Bool) (m : D8), Rt l m = Rtq l m) (hXt0 : ∀ (a : D8) (b : D0) (c d e : D4) (f : Int) (g i : D4) (j : Int), Xt0 a b c d e f g i j = Xt0q a b c d e f g i j) (n : Nat) (o p : Int) (a : D8) (b : D0) (c d e : D4) (f : Int) (g i : D4) (j : Int) (q : D7) : l0 k Rt Xt0 n o p a b c d e f g i j q = l0 k Rtq Xt0q n o p a b c d e f g i j q := by
 obtain rfl : Rt = Rtq := by funext l; funext m; exact hRt l m
 obtain rfl : Xt0 = Xt0q := by funext a; funext b; funext c; funext d; funext e; funext f; funext g; funext i; funext j; exact hXt0 a b c d e f g i j
 rfl
noncomputable def cd1 : Code := cR (cR (cR (cB Try.f57)))
def St4 (a : D8) (b : D0) (c d e : D4) (f : Int) (g i : D4) (j : Int) : St := stL 80 [(2, .ref 2 0 []), (3, .ref 3 0 []), (4, .ref 4 0 [])] [(2, .cell T22 (.data T22 a) false), (3, .cell T2 (.data T2 b) false), (4, .cell T22 (.agg T22 [.data T23 c, .agg T7 [.data T5 d, .data T5 e, .data T1 f, .full T8 [], .full T8 []], .agg T7 [.data T5 g, .data T5 i, .data T1 j, .full T8 [], .full T8 []], .agg T21 [.full T18 [], .full T18 []], .full T2 [], .full T2 []]) false)]
def St5 (a : D8) (b c d : D4) (e : Int) (f g : D4) (i : Int) : St := stL 80 [(2, .ref 2 0 []), (4, .ref 4 0 [])] [(2, .cell T22 (.data T22 a) false), (4, .cell T22 (.agg T22 [.data T23 b, .agg T7 [.data T5 c, .data T5 d, .data T1 e, .full T8 [], .full T8 []], .agg T7 [.data T5 f, .data T5 g, .data T1 i, .full T8 [], .full T8 []], .agg T21 [.full T18 [], .full T18 []], .full T2 [], .full T2 []]) false)]
noncomputable def cd2 : Code := cR (cR (cR (cR (cR (cR (cR (cB Try.f57)))))))
def j1 (Rt : Bool -> D8 -> Option α) (a : D8) (b c d : D4) (e : Int) (f g : D4) (i : Int) : Option α :=
 Rt true a
theorem j1_eq (k : Nat) (Q : Ex -> St -> Option α) (a : D8) (b c d : D4) (e : Int) (f g : D4) (i : Int) :
  (den C k) cd2 Q (St5 a b c d e f g i) = j1 (fun j l => Q .ret (St1 j l)) a b c d e f g i := plainly Js (by kernel_rfl)
def j0 (Rt : Bool -> D8 -> Option α) (a : D8) (b : D0) (d e f : D4) (g : Int) (i j : D4) (k : Int) : Option α :=
 (basculeref_IdOf.run b).bind fun l =>
 (basculeref_WorthOf.run b).bind fun m =>
 (basculeref_Offered.run a.2.2.1 l m b.2.2.1).bind fun c =>
 if (c.2.2.1 != 0) = true then
  Rt false a
 else
  if c.2.1 = true then
   if fitB (0 + a.2.2.2.2.2.1.length) 96 = true then
    if fitB (a.2.2.2.2.2.1.length + 1) 96 = true then
     j1 Rt (a.1, a.2.1, c.1, a.2.2.2.1, a.2.2.2.2.1, (a.2.2.2.2.2.1 ++ [b]), ()) d e f g i j k
    else none
   else none
  else
   if fitB (0 + a.2.2.2.2.1.length) 96 = true then
    if fitB (a.2.2.2.2.1.length + 1) 96 = true then
     j1 Rt (a.1, a.2.1, c.1, a.2.2.2.1, (a.2.2.2.2.1 ++ [b]), a.2.2.2.2.2.1, ()) d e f g i j k
    else none
   else none
theorem j0_eq (k : Nat) (Q : Ex -> St -> Option α) (a : D8) (b : D0) (c d e : D4) (f : Int) (g i : D4) (j : Int) :
  (den C k) cd1 Q (St4 a b c d e f g i j) = j0 (fun m n => Q .ret (St1 m n)) a b c d e f g i j := by
 have h : ∀ (D L : DT α), denJ D L Js C cd1 Q (St4 a b c d e f g i j) =
    (basculeref_IdOf.run b).bind fun o =>
    (basculeref_WorthOf.run b).bind fun p =>
    (basculeref_Offered.run a.2.2.1 o p b.2.2.1).bind fun l =>
    if (l.2.2.1 != 0) = true then
     Q .ret (St1 false a)
    else
     if l.2.1 = true then
      if fitB (0 + a.2.2.2.2.2.1.length) 96 = true then
       if fitB (a.2.2.2.2.2.1.length + 1) 96 = true then
        D cd2 Q (St5 (a.1, a.2.1, l.1, a.2.2.2.1, a.2.2.2.2.1, (a.2.2.2.2.2.1 ++ [b]), ()) c d e f g i j)
       else none
      else none
     else
      if fitB (0 + a.2.2.2.2.1.length) 96 = true then
       if fitB (a.2.2.2.2.1.length + 1) 96 = true then
        D cd2 Q (St5 (a.1, a.2.1, l.1, a.2.2.2.1, (a.2.2.2.2.1 ++ [b]), a.2.2.2.2.2.1, ()) c d e f g i j)
       else none
      else none := by
  intro D L; kernel_rfl
 have h2 := via (k := k) h
 refine h2.trans ?_
 simp only [j1_eq]
 first | rfl | kernel_rfl
theorem a0 (k : Nat) (Q : Ex -> St -> Option α) (o p : Int) (a : D8) (c : D0) (d e f : D4) (g : Int) (i j : D4) (l : Int) (q : D7) :
  (lp C k) cd0 (blkQ C 0 (sq (den C k) (lp C k) Js C cd1 Q)) (St2 o p a c d e f g i j l q) = l0 k (fun m n => (fun m n => Q .ret (St1 m n)) m n) (fun a c d e f g i j l => j0 (fun m n => Q .ret (St1 m n)) a c d e f g i j l) k o p a c d e f g i j l q :=
 (lp_iter 12 (by kernel_rfl)).trans ((l0_eq k _ k o p a c d e f g i j l q).trans (l0_congr k _ _ _ _ (fun m n => (by kernel_rfl)) (fun a c d e f g i j l => (Eq.trans (b := (den C k) cd1 Q (St4 a c d e f g i j l)) (by kernel_rfl) (by simp only [j0_eq]))) k o p a c d e f g i j l q))
def top (k : Nat) (Rt : Bool -> D8 -> Option α) (a : D8) (b : D0) : Option α :=
 (basculeref_BodyFault.run b).bind fun c =>
 if (cond (cond (c != 0) true (decide (b.2.2.1 >= 3))) true (decide (b.2.2.2.2.1 >= 256))) = true then
  Rt false a
 else
  if fitB (0 + a.2.2.2.2.2.1.length) 96 = true then
   if fitB (a.2.2.2.2.2.1.length + a.2.2.2.2.1.length) 96 = true then
    l0 k (fun d e => Rt d e) (fun f g i j l m n o p => j0 Rt f g i j l m n o p) k ((a.2.2.2.2.2.1 ++ a.2.2.2.2.1).length : Int) 0 a b [0, 0, 0, 0] [0, 0, 0] [0, 0, 0] 0 [0, 0, 0] [0, 0, 0] 0 (a.2.2.2.2.2.1 ++ a.2.2.2.2.1)
   else none
  else none
theorem top_eq (k : Nat) (Q : Ex -> St -> Option α) (a : D8) (b : D0) :
  (den C k) (cB Try.f57) Q (St0 a b) = top k (fun c d => Q .ret (St1 c d)) a b := by
 have h : ∀ (D L : DT α), denJ D L Js C (cB Try.f57) Q (St0 a b) =
    (basculeref_BodyFault.run b).bind fun e =>
    if (cond (cond (e != 0) true (decide (b.2.2.1 >= 3))) true (decide (b.2.2.2.2.1 >= 256))) = true then
     Q .ret (St1 false a)
    else
     if fitB (0 + a.2.2.2.2.2.1.length) 96 = true then
      if fitB (a.2.2.2.2.2.1.length + a.2.2.2.2.1.length) 96 = true then
       L cd0 (blkQ C 0 (sq D L Js C cd1 Q)) (St2 ((a.2.2.2.2.2.1 ++ a.2.2.2.2.1).length : Int) 0 a b [0, 0, 0, 0] [0, 0, 0] [0, 0, 0] 0 [0, 0, 0] [0, 0, 0] 0 (a.2.2.2.2.2.1 ++ a.2.2.2.2.1))
      else none
     else none := by
  intro D L; kernel_rfl
 have h2 := via (k := k) h
 refine h2.trans ?_
 simp only [a0]
 first | rfl | kernel_rfl
def run (a : D8) (b : D0) : Option D18 := top (α := D8 × Bool × Unit) fuel (fun c d => some (d, c, ())) a b
def F : Fn := ⟨T116, T39, true, fun x => run x.1 x.2.1⟩
theorem con : Con Try.prog 57 F /\ Named Try.prog 57 :=
 con_of2 (C := C) (ctx_ok (by kernel_rfl) (by kernel_rfl) (by kernel_rfl) (by kernel_rfl) ⟨.inl basculeref_IdOf.con, ⟨.inl basculeref_BodyFault.con, ⟨.inl basculeref_Offered.con, ⟨.inl basculeref_WorthOf.con, trivial⟩⟩⟩⟩) (by kernel_rfl) Try.func57 (by kernel_rfl) (c := cB Try.f57) (by kernel_rfl) (by kernel_rfl) F (fun x => by simp [F, spread, Try.ntmps57]) (fun x => (St0 x.1 x.2.1)) (fun x => by kernel_rfl) fun x => (top_eq fuel _ x.1 x.2.1).trans (by kernel_rfl)
end Go.Bx.basculeref_meets
namespace Go.Bx.guard_body
def Js : List Nat := []
def C : Ctx := ⟨[(29, T16), (40, T2)], [], [], fnL [], noSh, [], invL [], [(2, [2])], [], [6], 0, 0⟩
def St0 (a : D0) : St := stL 9 [(0, .data T2 a)] []
def St1 (a b c : Int) (d : D4) (e f : Int) (g : D4) : St := stL 9 [(2, .ref 2 0 [])] [(2, .cell T2 (.agg T2 [.data T1 a, .data T1 b, .data T1 c, .data T17 d, .data T1 e, .data T1 f, .app 6 0]) false), (6, .buf T18 g 0 true)]
def top (Rt : Int -> Int -> Int -> D4 -> Int -> Int -> D4 -> Option α) (a : D0) : Option α :=
 if fitB (0 + a.2.2.2.2.2.2.1.length) 1 = true then
  Rt a.1 a.2.1 a.2.2.1 a.2.2.2.1 a.2.2.2.2.1 a.2.2.2.2.2.1 a.2.2.2.2.2.2.1
 else none
theorem top_eq (k : Nat) (Q : Ex -> St -> Option α) (a : D0) :
  (den C k) (cB Try.f128) Q (St0 a) = top (fun b c d e f g i => Q .ret (St1 b c d e f g i)) a := plainly Js (by kernel_rfl)
def run (a : D0) : Option D0 := top (α := Int × Int × Int × List Int × Int × Int × List Int × Unit) (fun b c d e f g i => some (b, c, d, e, f, g, i, ())) a
def F : Fn := ⟨T3, T2, false, fun x => run x.1⟩
theorem con : Con Try.prog 128 F /\ Named Try.prog 128 :=
 con_of2 (C := C) (ctx_ok (by kernel_rfl) (by kernel_rfl) (by kernel_rfl) (by kernel_rfl) trivial) (by kernel_rfl) Try.func128 (by kernel_rfl) (c := cB Try.f128) (by kernel_rfl) (by kernel_rfl) F (fun x => by simp [F, spread, Try.ntmps128]) (fun x => (St0 x.1)) (fun x => by kernel_rfl) fun x => (top_eq fuel _ x.1).trans (by kernel_rfl)
end Go.Bx.guard_body
namespace Go.Bx.guard_met_s2
def Js : List Nat := [9]
def C : Ctx := ⟨[(3, T1), (28, T7), (32, T19), (34, T22), (40, T2)], [], [], fnL [(64, guard_Id.F), (126, gate_Offer.F), (127, guard_Worth.F), (128, guard_body.F)], noSh, [], invL [], [(2, [4, 5]), (24, [2, 4])], [], [], 6, 0⟩
def St0 (a b c : D4) (d : Int) (e : D1) (f : D0) (g i : D2) (j k : D4) (l m : D7) : St := stL 44 [(0, .agg T22 [.data T23 a, .agg T7 [.data T5 b, .data T5 c, .data T1 d, .app 0 0, .app 1 0], .data T7 e, .agg T21 [.app 2 0, .app 3 0], .app 4 0, .app 5 0]), (1, .data T2 f)] [(0, .buf T8 g 0 true), (1, .buf T8 i 0 true), (2, .buf T18 j 0 true), (3, .buf T18 k 0 true), (4, .buf T2 l 0 true), (5, .buf T2 m 0 true)]
def St1 (a : Int) (b c : D2) (d e : D4) (f g : D7) (i j k : D4) (l : Int) (m : D1) : St := stL 44 [(4, .ref 10 0 []), (5, .data T1 a)] [(0, .buf T8 b 1 true), (1, .buf T8 c 1 true), (2, .buf T18 d 1 true), (3, .buf T18 e 1 true), (4, .buf T2 f 1 true), (5, .buf T2 g 1 true), (10, .cell T22 (.agg T22 [.data T23 i, .agg T7 [.data T5 j, .data T5 k, .data T1 l, .app 0 1, .app 1 1], .data T7 m, .agg T21 [.app 2 1, .app 3 1], .app 4 1, .app 5 1]) false)]
def St2 (a b : D2) (c d : D4) (e f : D7) (g i j : D4) (k : Int) (l : D1) (m n o : D4) (p : Int) (q r : D4) (s : Int) : St := stL 44 [(2, .ref 8 0 []), (4, .ref 10 0 [])] [(0, .buf T8 a 1 true), (1, .buf T8 b 1 true), (2, .buf T18 c 1 true), (3, .buf T18 d 1 true), (4, .buf T2 e 1 true), (5, .buf T2 f 1 true), (8, .cell T22 (.agg T22 [.data T23 g, .agg T7 [.data T5 i, .data T5 j, .data T1 k, .app 0 1, .app 1 1], .data T7 l, .agg T21 [.app 2 1, .app 3 1], .app 4 1, .app 5 1]) false), (10, .cell T22 (.agg T22 [.data T23 m, .agg T7 [.data T5 n, .data T5 o, .data T1 p, .full T8 [], .full T8 []], .agg T7 [.data T5 q, .data T5 r, .data T1 s, .full T8 [], .full T8 []], .agg T21 [.full T18 [], .full T18 []], .full T2 [], .full T2 []]) false)]
noncomputable def cd0 : Code := cR (cR (cR (cR (cR (cB Try.f65)))))
def j0 (Rt : Int -> D2 -> D2 -> D4 -> D4 -> D7 -> D7 -> D4 -> D4 -> D4 -> Int -> D1 -> Option α) (a b : D2) (c d : D4) (e f : D7) (g i j : D4) (k : Int) (l : D1) (m n o : D4) (p : Int) (q r : D4) (s : Int) : Option α :=
 Rt 0 a b c d e f g i j k l
theorem j0_eq (k : Nat) (Q : Ex -> St -> Option α) (a b : D2) (c d : D4) (e f : D7) (m n o : D4) (p : Int) (q : D1) (g i j : D4) (l : Int) (r s : D4) (t : Int) :
  (den C k) cd0 (endQ C Q) (St2 a b c d e f m n o p q g i j l r s t) = j0 (fun u a b c d e f g i j l v => Q .ret (St1 u a b c d e f g i j l v)) a b c d e f m n o p q g i j l r s t := plainly Js (by kernel_rfl)
def top (Rt : Int -> D2 -> D2 -> D4 -> D4 -> D7 -> D7 -> D4 -> D4 -> D4 -> Int -> D1 -> Option α) (e f g : D4) (i : Int) (n : D1) (a : D0) (j k : D2) (l m : D4) (c d : D7) : Option α :=
 (guard_Id.run a).bind fun o =>
 (guard_Worth.run a).bind fun p =>
 (gate_Offer.run n o p a.2.2.1).bind fun b =>
 if (b.2.2.1 != 0) = true then
  Rt b.2.2.1 j k l m c d e f g i n
 else
  if b.2.1 = true then
   (guard_body.run a).bind fun q =>
   if fitB (d.length + 1) 96 = true then
    j0 Rt j k l m c (d ++ [q]) e f g i b.1 [0, 0, 0, 0] [0, 0, 0] [0, 0, 0] 0 [0, 0, 0] [0, 0, 0] 0
   else none
  else
   (guard_body.run a).bind fun r =>
   if fitB (c.length + 1) 96 = true then
    j0 Rt j k l m (c ++ [r]) d e f g i b.1 [0, 0, 0, 0] [0, 0, 0] [0, 0, 0] 0 [0, 0, 0] [0, 0, 0] 0
   else none
theorem top_eq (k : Nat) (Q : Ex -> St -> Option α) (i j l : D4) (m : Int) (n : D1) (c : D0) (d e : D2) (f g : D4) (a b : D7) :
  (den C k) (cB Try.f65) (endQ C Q) (St0 i j l m n c d e f g a b) = top (fun p d e f g a b q r s t u => Q .ret (St1 p d e f g a b q r s t u)) i j l m n c d e f g a b := by
 have h : ∀ (D L : DT α), denJ D L Js C (cB Try.f65) (endQ C Q) (St0 i j l m n c d e f g a b) =
    (guard_Id.run c).bind fun v =>
    (guard_Worth.run c).bind fun w =>
    (gate_Offer.run n v w c.2.2.1).bind fun o =>
    if (o.2.2.1 != 0) = true then
     Q .ret (St1 o.2.2.1 d e f g a b i j l m n)
    else
     if o.2.1 = true then
      (guard_body.run c).bind fun x =>
      if fitB (b.length + 1) 96 = true then
       D cd0 (endQ C Q) (St2 d e f g a (b ++ [x]) i j l m o.1 [0, 0, 0, 0] [0, 0, 0] [0, 0, 0] 0 [0, 0, 0] [0, 0, 0] 0)
      else none
     else
      (guard_body.run c).bind fun y =>
      if fitB (a.length + 1) 96 = true then
       D cd0 (endQ C Q) (St2 d e f g (a ++ [y]) b i j l m o.1 [0, 0, 0, 0] [0, 0, 0] [0, 0, 0] 0 [0, 0, 0] [0, 0, 0] 0)
      else none := by
  intro D L; kernel_rfl
 have h2 := via (k := k) h
 refine h2.trans ?_
 simp only [j0_eq]
 first | rfl | kernel_rfl
def run (m n o : D4) (p : Int) (q : D1) (r : D0) (a b : D2) (c d : D4) (e f : D7) : Option D59 := top (α := List Int × List Int × List Int × Int × D1 × Int × D2 × D2 × List Int × List Int × D7 × D7 × List Int × List Int × List Int × Int × D1 × Unit) (fun s a b c d e f g i j k l => some (g, i, j, k, l, s, a, b, c, d, e, f, g, i, j, k, l, ())) m n o p q r a b c d e f
def Sp : Spec := ⟨[.agg T22 [hD T23, .agg T7 [hD T5, hD T5, hD T1, .app 0 0, .app 1 0], hD T7, .agg T21 [.app 2 0, .app 3 0], .app 4 0, .app 5 0], hD T2], [(0, hB T8 0 true), (1, hB T8 0 true), (2, hB T18 0 true), (3, hB T18 0 true), (4, hB T2 0 true), (5, hB T2 0 true)], T140, .tup [.agg T22 [hD T23, .agg T7 [hD T5, hD T5, hD T1, .app 0 1, .app 1 1], hD T7, .agg T21 [.app 2 1, .app 3 1], .app 4 1, .app 5 1], hD T1], [(0, hB T8 1 true), (1, hB T8 1 true), (2, hB T18 1 true), (3, hB T18 1 true), (4, hB T2 1 true), (5, hB T2 1 true), (10, hC T22 (.agg T22 [hD T23, .agg T7 [hD T5, hD T5, hD T1, .app 0 1, .app 1 1], hD T7, .agg T21 [.app 2 1, .app 3 1], .app 4 1, .app 5 1]) false)], T141, fun x => run x.1 x.2.1 x.2.2.1 x.2.2.2.1 x.2.2.2.2.1 x.2.2.2.2.2.1 x.2.2.2.2.2.2.1 x.2.2.2.2.2.2.2.1 x.2.2.2.2.2.2.2.2.1 x.2.2.2.2.2.2.2.2.2.1 x.2.2.2.2.2.2.2.2.2.2.1 x.2.2.2.2.2.2.2.2.2.2.2.1⟩
set_option maxRecDepth 100000 in
theorem sok : SOk Try.prog 65 Sp.h := by
 refine sok_of_den (C := C) (ctx_ok (by kernel_rfl) (by kernel_rfl) (by kernel_rfl) (by kernel_rfl) ⟨.inl guard_Id.con, ⟨.inl gate_Offer.con, ⟨.inl guard_Worth.con, ⟨.inl guard_body.con, trivial⟩⟩⟩⟩) (by kernel_rfl) Try.func65 (c := cB Try.f65) (by kernel_rfl) (by kernel_rfl) Sp fuel (by kernel_rfl) (by kernel_rfl) ?_
 intro x r h
 rw [<- h]
 have h1 : Sp.start x Try.f65.ntmps = (St0 x.1 x.2.1 x.2.2.1 x.2.2.2.1 x.2.2.2.2.1 x.2.2.2.2.2.1 x.2.2.2.2.2.2.1 x.2.2.2.2.2.2.2.1 x.2.2.2.2.2.2.2.2.1 x.2.2.2.2.2.2.2.2.2.1 x.2.2.2.2.2.2.2.2.2.2.1 x.2.2.2.2.2.2.2.2.2.2.2.1) := by kernel_rfl
 rw [h1]
 refine (top_eq fuel (finS C Try.f65.results.toList Sp.read) x.1 x.2.1 x.2.2.1 x.2.2.2.1 x.2.2.2.2.1 x.2.2.2.2.2.1 x.2.2.2.2.2.2.1 x.2.2.2.2.2.2.2.1 x.2.2.2.2.2.2.2.2.1 x.2.2.2.2.2.2.2.2.2.1 x.2.2.2.2.2.2.2.2.2.2.1 x.2.2.2.2.2.2.2.2.2.2.2.1).trans ?_
 kernel_rfl
theorem named : Named Try.prog 65 := named_of Try.func65 (by kernel_rfl) (by kernel_rfl)
end Go.Bx.guard_met_s2
namespace Go.Bx.guard_fresh_1
def Js : List Nat := []
def C : Ctx := ⟨[(26, T6)], [], [], fnL [], noSh, [], invL [], [(2, [2])], [], [5], 0, 0⟩
def St0 (a : D2) : St := stL 6 [(0, .data T6 a)] []
def St1 (a : D2) : St := stL 6 [(2, .app 5 0)] [(5, .buf T8 a 0 true)]
def top (Rt : D2 -> Option α) (a : D2) : Option α :=
 if fitB (0 + a.length) 32 = true then
  Rt a
 else none
theorem top_eq (k : Nat) (Q : Ex -> St -> Option α) (a : D2) :
  (den C k) (cB Try.f72) Q (St0 a) = top (fun b => Q .ret (St1 b)) a := plainly Js (by kernel_rfl)
def run (a : D2) : Option D2 := top (α := List D3) (fun b => some b) a
def F : Fn := ⟨T15, T6, false, fun x => run x.1⟩
theorem con : Con Try.prog 72 F /\ Named Try.prog 72 :=
 con_of2 (C := C) (ctx_ok (by kernel_rfl) (by kernel_rfl) (by kernel_rfl) (by kernel_rfl) trivial) (by kernel_rfl) Try.func72 (by kernel_rfl) (c := cB Try.f72) (by kernel_rfl) (by kernel_rfl) F (fun x => by simp [F, spread, Try.ntmps72]) (fun x => (St0 x.1)) (fun x => by kernel_rfl) fun x => (top_eq fuel _ x.1).trans (by kernel_rfl)
end Go.Bx.guard_fresh_1
namespace Go.Bx.guard_bodies
def Js : List Nat := [8]
def C : Ctx := ⟨[(32, T19), (40, T2)], [], [], fnL [(128, guard_body.F)], noSh, [], invL [], [(2, [2]), (1, [3]), (4, [3, 6, 7, 8]), (9, [3, 6, 7, 8]), (21, [3])], [(9, [.melt true 3 [] 16 true])], [], 0, 0⟩
def St0 (a : D7) : St := stL 19 [(0, .data T19 a)] []
def St1 (a : D7) (b c : Int) (d : D7) : St := stL 19 [(3, .app 16 0), (6, .data T19 a), (7, .data T1 b), (8, .data T1 c)] [(16, .buf T2 d 0 true)]
noncomputable def cd0 : Code := cL (cL (cR (cL (cR (cR (cB Try.f73))))))
def St2 (a : D7) : St := stL 19 [(3, .app 16 0)] [(16, .buf T2 a 0 true)]
def l0s (Nx : D7 -> Int -> Int -> D7 -> Option α) (Xt0 : D7 -> Option α) (b : D7) (d a : Int) (c : D7) : Option α :=
 if (decide (a < d)) = true then
  if 0 <= a /\ a < (b.length : Int) then
   (guard_body.run (List.getD b (Int.toNat a) (0, 0, 0, (List.replicate 32 0), 0, 0, [], ()))).bind fun e =>
   if fitB (c.length + 1) 96 = true then
    Nx b d (IntKind.i64.wrap (a + 1)) (c ++ [e])
   else none
  else none
 else
  Xt0 c
theorem l0s_eq (k : Nat) (next : St -> Option α) (Q : Ex -> St -> Option α) (b : D7) (c d : Int) (a : D7) :
  rnd C k cd0 9 Q next (St1 b c d a) = l0s (fun b c d a => next (St1 b c d a)) (fun a => Q (.exit 0) (St2 a)) b c d a := plainly Js (by kernel_rfl)
def l0 (k : Nat) (Xt0 : D7 -> Option α) : Nat -> D7 -> Int -> Int -> D7 -> Option α
 | 0, _, _, _, _ => none
 | n + 1, a, b, c, d => l0s (l0 k Xt0 n) Xt0 a b c d
theorem l0_eq (k : Nat) (Q : Ex -> St -> Option α) : ∀ (n : Nat) (b : D7) (c d : Int) (a : D7), iter (rnd C k cd0 9 Q) n (St1 b c d a) = l0 k (fun a => Q (.exit 0) (St2 a)) n b c d a
 | 0, _, _, _, _ => rfl
 | n + 1, b, c, d, a => (iter_succ _ _ _).trans ((l0s_eq k _ Q b c d a).trans (congrArg (fun N => l0s N (fun a => Q (.exit 0) (St2 a)) b c d a) (by funext; exact l0_eq k Q n _ _ _ _)))
noncomputable def cd1 : Code := cR (cR (cR (cB Try.f73)))
def St3 (a : D7) : St := stL 19 [(3, .app 16 0)] [(16, .buf T2 a 0 true)]
def St4 (a : D7) : St := stL 19 [(2, .app 16 0)] [(16, .buf T2 a 0 true)]
def j0 (Rt : D7 -> Option α) (a : D7) : Option α :=
 Rt a
theorem j0_eq (k : Nat) (Q : Ex -> St -> Option α) (a : D7) :
  (den C k) cd1 Q (St3 a) = j0 (fun a => Q .ret (St4 a)) a := plainly Js (by kernel_rfl)
theorem a0 (k : Nat) (Q : Ex -> St -> Option α) (c : D7) (d e : Int) (a : D7) :
  (lp C k) cd0 (blkQ C 0 (sq (den C k) (lp C k) Js C cd1 Q)) (St1 c d e a) = l0 k (fun a => j0 (fun a => Q .ret (St4 a)) a) k c d e a :=
 (lp_iter 9 (by kernel_rfl)).trans ((l0_eq k _ k c d e a).trans (congrArg (fun X => l0 k X k c d e a) (funext fun a => (Eq.trans (b := (den C k) cd1 Q (St3 a)) (by kernel_rfl) (by simp only [j0_eq])))))
def top (k : Nat) (Rt : D7 -> Option α) (a : D7) : Option α :=
 l0 k (fun b => j0 Rt b) k a (a.length : Int) 0 []
theorem top_eq (k : Nat) (Q : Ex -> St -> Option α) (a : D7) :
  (den C k) (cB Try.f73) Q (St0 a) = top k (fun b => Q .ret (St4 b)) a := by
 have h : ∀ (D L : DT α), denJ D L Js C (cB Try.f73) Q (St0 a) =
    L cd0 (blkQ C 0 (sq D L Js C cd1 Q)) (St1 a (a.length : Int) 0 []) := by
  intro D L; kernel_rfl
 have h2 := via (k := k) h
 refine h2.trans ?_
 simp only [a0]
 first | rfl | kernel_rfl
def run (a : D7) : Option D7 := top (α := List D0) fuel (fun b => some b) a
def F : Fn := ⟨T20, T19, false, fun x => run x.1⟩
theorem con : Con Try.prog 73 F /\ Named Try.prog 73 :=
 con_of2 (C := C) (ctx_ok (by kernel_rfl) (by kernel_rfl) (by kernel_rfl) (by kernel_rfl) ⟨.inl guard_body.con, trivial⟩) (by kernel_rfl) Try.func73 (by kernel_rfl) (c := cB Try.f73) (by kernel_rfl) (by kernel_rfl) F (fun x => by simp [F, spread, Try.ntmps73]) (fun x => (St0 x.1)) (fun x => by kernel_rfl) fun x => (top_eq fuel _ x.1).trans (by kernel_rfl)
end Go.Bx.guard_bodies
namespace Go.Bx.guard_fresh
def Js : List Nat := []
def C : Ctx := ⟨[(26, T6), (28, T7), (29, T16), (31, T21), (32, T19), (34, T22)], [], [], fnL [(72, guard_fresh_1.F), (73, guard_bodies.F)], noSh, [], invL [], [(2, [2])], [], [36, 41], 0, 0⟩
def St0 (a : D8) : St := stL 53 [(0, .data T22 a)] []
def St1 (a : D4) (b c : D1) (d e : D7) (f g : D4) : St := stL 53 [(2, .ref 2 0 [])] [(2, .cell T22 (.agg T22 [.data T23 a, .data T7 b, .data T7 c, .agg T21 [.app 36 0, .app 41 0], .data T19 d, .data T19 e]) false), (36, .buf T18 f 0 true), (41, .buf T18 g 0 true)]
def top (Rt : D4 -> D1 -> D1 -> D7 -> D7 -> D4 -> D4 -> Option α) (a : D8) : Option α :=
 (guard_fresh_1.run a.2.1.2.2.2.1).bind fun b =>
 (guard_fresh_1.run a.2.1.2.2.2.2.1).bind fun c =>
 (guard_fresh_1.run a.2.2.1.2.2.2.1).bind fun d =>
 (guard_fresh_1.run a.2.2.1.2.2.2.2.1).bind fun e =>
 if fitB (0 + a.2.2.2.1.1.length) 1 = true then
  if fitB (0 + a.2.2.2.1.2.1.length) 1 = true then
   (guard_bodies.run a.2.2.2.2.1).bind fun f =>
   (guard_bodies.run a.2.2.2.2.2.1).bind fun g =>
   Rt a.1 (a.2.1.1, a.2.1.2.1, a.2.1.2.2.1, b, c, a.2.1.2.2.2.2.2) (a.2.2.1.1, a.2.2.1.2.1, a.2.2.1.2.2.1, d, e, a.2.2.1.2.2.2.2.2) f g a.2.2.2.1.1 a.2.2.2.1.2.1
  else none
 else none
theorem top_eq (k : Nat) (Q : Ex -> St -> Option α) (a : D8) :
  (den C k) (cB Try.f21) Q (St0 a) = top (fun b c d e f g i => Q .ret (St1 b c d e f g i)) a := plainly Js (by kernel_rfl)
def run (a : D8) : Option D8 := top (α := List Int × D1 × D1 × D9 × List D0 × List D0 × Unit) (fun b c d e f g i => some (b, c, d, (g, i, ()), e, f, ())) a
def F : Fn := ⟨T24, T22, false, fun x => run x.1⟩
theorem con : Con Try.prog 21 F /\ Named Try.prog 21 :=
 con_of2 (C := C) (ctx_ok (by kernel_rfl) (by kernel_rfl) (by kernel_rfl) (by kernel_rfl) ⟨.inl guard_fresh_1.con, ⟨.inl guard_bodies.con, trivial⟩⟩) (by kernel_rfl) Try.func21 (by kernel_rfl) (c := cB Try.f21) (by kernel_rfl) (by kernel_rfl) F (fun x => by simp [F, spread, Try.ntmps21]) (fun x => (St0 x.1)) (fun x => by kernel_rfl) fun x => (top_eq fuel _ x.1).trans (by kernel_rfl)
end Go.Bx.guard_fresh
namespace Go.Bx.guard_bodies_s1
def Js : List Nat := [8]
def C : Ctx := ⟨[(32, T19), (40, T2)], [], [], fnL [(128, guard_body.F)], noSh, [], invL [], [(2, [2]), (1, [3]), (4, [3, 6, 7, 8]), (9, [3, 6, 7, 8]), (21, [3])], [(9, [.melt true 3 [] 16 true])], [], 0, 0⟩
def St0 (a : D7) : St := stL 19 [(0, .full T2 a)] []
def St1 (a : D7) (b c : Int) (d : D7) : St := stL 19 [(3, .app 16 0), (6, .full T2 a), (7, .data T1 b), (8, .data T1 c)] [(16, .buf T2 d 0 true)]
noncomputable def cd0 : Code := cL (cL (cR (cL (cR (cR (cB Try.f73))))))
def St2 (a : D7) : St := stL 19 [(3, .app 16 0)] [(16, .buf T2 a 0 true)]
def l0s (Nx : D7 -> Int -> Int -> D7 -> Option α) (Xt0 : D7 -> Option α) (b : D7) (d a : Int) (c : D7) : Option α :=
 if (decide (a < d)) = true then
  if 0 <= a /\ a < (b.length : Int) then
   (guard_body.run (List.getD b (Int.toNat a) (0, 0, 0, (List.replicate 32 0), 0, 0, [], ()))).bind fun e =>
   if fitB (c.length + 1) 96 = true then
    Nx b d (IntKind.i64.wrap (a + 1)) (c ++ [e])
   else none
  else none
 else
  Xt0 c
theorem l0s_eq (k : Nat) (next : St -> Option α) (Q : Ex -> St -> Option α) (b : D7) (c d : Int) (a : D7) :
  rnd C k cd0 9 Q next (St1 b c d a) = l0s (fun b c d a => next (St1 b c d a)) (fun a => Q (.exit 0) (St2 a)) b c d a := plainly Js (by kernel_rfl)
def l0 (k : Nat) (Xt0 : D7 -> Option α) : Nat -> D7 -> Int -> Int -> D7 -> Option α
 | 0, _, _, _, _ => none
 | n + 1, a, b, c, d => l0s (l0 k Xt0 n) Xt0 a b c d
theorem l0_eq (k : Nat) (Q : Ex -> St -> Option α) : ∀ (n : Nat) (b : D7) (c d : Int) (a : D7), iter (rnd C k cd0 9 Q) n (St1 b c d a) = l0 k (fun a => Q (.exit 0) (St2 a)) n b c d a
 | 0, _, _, _, _ => rfl
 | n + 1, b, c, d, a => (iter_succ _ _ _).trans ((l0s_eq k _ Q b c d a).trans (congrArg (fun N => l0s N (fun a => Q (.exit 0) (St2 a)) b c d a) (by funext; exact l0_eq k Q n _ _ _ _)))
noncomputable def cd1 : Code := cR (cR (cR (cB Try.f73)))
def St3 (a : D7) : St := stL 19 [(3, .app 16 0)] [(16, .buf T2 a 0 true)]
def St4 (a : D7) : St := stL 19 [(2, .app 16 0)] [(16, .buf T2 a 0 true)]
def j0 (Rt : D7 -> Option α) (a : D7) : Option α :=
 Rt a
theorem j0_eq (k : Nat) (Q : Ex -> St -> Option α) (a : D7) :
  (den C k) cd1 (endQ C Q) (St3 a) = j0 (fun a => Q .ret (St4 a)) a := plainly Js (by kernel_rfl)
theorem a0 (k : Nat) (Q : Ex -> St -> Option α) (c : D7) (d e : Int) (a : D7) :
  (lp C k) cd0 (blkQ C 0 (sq (den C k) (lp C k) Js C cd1 (endQ C Q))) (St1 c d e a) = l0 k (fun a => j0 (fun a => Q .ret (St4 a)) a) k c d e a :=
 (lp_iter 9 (by kernel_rfl)).trans ((l0_eq k _ k c d e a).trans (congrArg (fun X => l0 k X k c d e a) (funext fun a => (Eq.trans (b := (den C k) cd1 (endQ C Q) (St3 a)) (by kernel_rfl) (by simp only [j0_eq])))))
def top (k : Nat) (Rt : D7 -> Option α) (a : D7) : Option α :=
 l0 k (fun b => j0 Rt b) k a (a.length : Int) 0 []
theorem top_eq (k : Nat) (Q : Ex -> St -> Option α) (a : D7) :
  (den C k) (cB Try.f73) (endQ C Q) (St0 a) = top k (fun b => Q .ret (St4 b)) a := by
 have h : ∀ (D L : DT α), denJ D L Js C (cB Try.f73) (endQ C Q) (St0 a) =
    L cd0 (blkQ C 0 (sq D L Js C cd1 (endQ C Q))) (St1 a (a.length : Int) 0 []) := by
  intro D L; kernel_rfl
 have h2 := via (k := k) h
 refine h2.trans ?_
 simp only [a0]
 first | rfl | kernel_rfl
def run (a : D7) : Option D13 := top (α := D7 × Unit) fuel (fun b => some (b, ())) a
def Sp : Spec := ⟨[hF T2], [], T20, .app 16 0, [(16, hB T2 0 true)], T20, fun x => run x.1⟩
set_option maxRecDepth 100000 in
theorem sok : SOk Try.prog 73 Sp.h := by
 refine sok_of_den (C := C) (ctx_ok (by kernel_rfl) (by kernel_rfl) (by kernel_rfl) (by kernel_rfl) ⟨.inl guard_body.con, trivial⟩) (by kernel_rfl) Try.func73 (c := cB Try.f73) (by kernel_rfl) (by kernel_rfl) Sp fuel (by kernel_rfl) (by kernel_rfl) ?_
 intro x r h
 rw [<- h]
 have h1 : Sp.start x Try.f73.ntmps = (St0 x.1) := by kernel_rfl
 rw [h1]
 refine (top_eq fuel (finS C Try.f73.results.toList Sp.read) x.1).trans ?_
 kernel_rfl
theorem named : Named Try.prog 73 := named_of Try.func73 (by kernel_rfl) (by kernel_rfl)
end Go.Bx.guard_bodies_s1
namespace Go.Bx.guard_fresh_1_s0
def Js : List Nat := []
def C : Ctx := ⟨[(26, T6)], [], [], fnL [], noSh, [], invL [], [(2, [2])], [], [5], 0, 0⟩
def St0 (a : D2) : St := stL 6 [(0, .data T6 a)] []
def St1 (a : D2) : St := stL 6 [(2, .app 5 0)] [(5, .buf T8 a 0 true)]
def top (Rt : D2 -> Option α) (a : D2) : Option α :=
 if fitB (0 + a.length) 32 = true then
  Rt a
 else none
theorem top_eq (k : Nat) (Q : Ex -> St -> Option α) (a : D2) :
  (den C k) (cB Try.f72) (endQ C Q) (St0 a) = top (fun b => Q .ret (St1 b)) a := plainly Js (by kernel_rfl)
def run (a : D2) : Option D12 := top (α := D2 × Unit) (fun b => some (b, ())) a
def Sp : Spec := ⟨[hD T6], [], T15, .app 5 0, [(5, hB T8 0 true)], T15, fun x => run x.1⟩
set_option maxRecDepth 100000 in
theorem sok : SOk Try.prog 72 Sp.h := by
 refine sok_of_den (C := C) (ctx_ok (by kernel_rfl) (by kernel_rfl) (by kernel_rfl) (by kernel_rfl) trivial) (by kernel_rfl) Try.func72 (c := cB Try.f72) (by kernel_rfl) (by kernel_rfl) Sp fuel (by kernel_rfl) (by kernel_rfl) ?_
 intro x r h
 rw [<- h]
 have h1 : Sp.start x Try.f72.ntmps = (St0 x.1) := by kernel_rfl
 rw [h1]
 refine (top_eq fuel (finS C Try.f72.results.toList Sp.read) x.1).trans ?_
 kernel_rfl
theorem named : Named Try.prog 72 := named_of Try.func72 (by kernel_rfl) (by kernel_rfl)
end Go.Bx.guard_fresh_1_s0
namespace Go.Bx.guard_fresh_s1
def Js : List Nat := []
def C : Ctx := ⟨[(26, T6), (28, T7), (29, T16), (31, T21), (32, T19), (34, T22)], [], [], fnL [], shL [(72, [.one guard_fresh_1_s0.Sp]), (73, [.one guard_bodies_s1.Sp])], [(8, 54), (13, 55), (22, 56), (27, 57), (46, 58), (49, 59)], invL [], [(2, [2])], [], [36, 41], 0, 0⟩
def St0 (a : D4) (b c : D1) (d e : D4) (f g : D7) : St := stL 53 [(0, .agg T22 [.data T23 a, .data T7 b, .data T7 c, .agg T21 [.full T18 d, .full T18 e], .full T2 f, .full T2 g])] []
def St1 (a b c : D4) (d : Int) (e f : D4) (g : Int) (i j : D4) (k l : D2) (m n : D2) (o p : D7) : St := stL 53 [(2, .ref 2 0 [])] [(2, .cell T22 (.agg T22 [.data T23 a, .agg T7 [.data T5 b, .data T5 c, .data T1 d, .app 54 0, .app 55 0], .agg T7 [.data T5 e, .data T5 f, .data T1 g, .app 56 0, .app 57 0], .agg T21 [.app 36 0, .app 41 0], .app 58 0, .app 59 0]) false), (36, .buf T18 i 0 true), (41, .buf T18 j 0 true), (54, .buf T8 k 0 true), (55, .buf T8 l 0 true), (56, .buf T8 m 0 true), (57, .buf T8 n 0 true), (58, .buf T2 o 0 true), (59, .buf T2 p 0 true)]
def top (Rt : D4 -> D4 -> D4 -> Int -> D4 -> D4 -> Int -> D4 -> D4 -> D2 -> D2 -> D2 -> D2 -> D7 -> D7 -> Option α) (e : D4) (a b : D1) (c d : D4) (f g : D7) : Option α :=
 (guard_fresh_1_s0.run a.2.2.2.1).bind fun i =>
 (guard_fresh_1_s0.run a.2.2.2.2.1).bind fun j =>
 (guard_fresh_1_s0.run b.2.2.2.1).bind fun k =>
 (guard_fresh_1_s0.run b.2.2.2.2.1).bind fun l =>
 if fitB (0 + c.length) 1 = true then
  if fitB (0 + d.length) 1 = true then
   (guard_bodies_s1.run f).bind fun m =>
   (guard_bodies_s1.run g).bind fun n =>
   Rt e a.1 a.2.1 a.2.2.1 b.1 b.2.1 b.2.2.1 c d i.1 j.1 k.1 l.1 m.1 n.1
  else none
 else none
theorem top_eq (k : Nat) (Q : Ex -> St -> Option α) (a : D4) (b c : D1) (d e : D4) (f g : D7) :
  (den C k) (cB Try.f21) (endQ C Q) (St0 a b c d e f g) = top (fun i j l m n o p q r s t u v w x => Q .ret (St1 i j l m n o p q r s t u v w x)) a b c d e f g := plainly Js (by kernel_rfl)
def run (i : D4) (j k : D1) (l m : D4) (n o : D7) : Option D14 := top (α := List Int × List Int × List Int × Int × List Int × List Int × Int × List Int × List Int × List Int × Int × List Int × List Int × Int × List Int × List Int × D2 × D2 × D2 × D2 × D7 × D7 × Unit) (fun a b c d e f g p q r s t u v w => some (a, b, c, d, e, f, g, a, b, c, d, e, f, g, p, q, r, s, t, u, v, w, ())) i j k l m n o
def Sp : Spec := ⟨[.agg T22 [hD T23, hD T7, hD T7, .agg T21 [hF T18, hF T18], hF T2, hF T2]], [], T136, .agg T22 [hD T23, .agg T7 [hD T5, hD T5, hD T1, .app 54 0, .app 55 0], .agg T7 [hD T5, hD T5, hD T1, .app 56 0, .app 57 0], .agg T21 [.app 36 0, .app 41 0], .app 58 0, .app 59 0], [(2, hC T22 (.agg T22 [hD T23, .agg T7 [hD T5, hD T5, hD T1, .app 54 0, .app 55 0], .agg T7 [hD T5, hD T5, hD T1, .app 56 0, .app 57 0], .agg T21 [.app 36 0, .app 41 0], .app 58 0, .app 59 0]) false), (36, hB T18 0 true), (41, hB T18 0 true), (54, hB T8 0 true), (55, hB T8 0 true), (56, hB T8 0 true), (57, hB T8 0 true), (58, hB T2 0 true), (59, hB T2 0 true)], T31, fun x => run x.1 x.2.1 x.2.2.1 x.2.2.2.1 x.2.2.2.2.1 x.2.2.2.2.2.1 x.2.2.2.2.2.2.1⟩
set_option maxRecDepth 100000 in
theorem sok : SOk Try.prog 21 Sp.h := by
 refine sok_of_den (C := C) (ctx_ok_sh (by kernel_rfl) (by kernel_rfl) (by kernel_rfl) (by kernel_rfl) trivial ⟨⟨⟨guard_fresh_1_s0.sok, trivial⟩, guard_fresh_1_s0.named⟩, ⟨⟨⟨guard_bodies_s1.sok, trivial⟩, guard_bodies_s1.named⟩, trivial⟩⟩) (by kernel_rfl) Try.func21 (c := cB Try.f21) (by kernel_rfl) (by kernel_rfl) Sp fuel (by kernel_rfl) (by kernel_rfl) ?_
 intro x r h
 rw [<- h]
 have h1 : Sp.start x Try.f21.ntmps = (St0 x.1 x.2.1 x.2.2.1 x.2.2.2.1 x.2.2.2.2.1 x.2.2.2.2.2.1 x.2.2.2.2.2.2.1) := by kernel_rfl
 rw [h1]
 refine (top_eq fuel (finS C Try.f21.results.toList Sp.read) x.1 x.2.1 x.2.2.1 x.2.2.2.1 x.2.2.2.2.1 x.2.2.2.2.2.1 x.2.2.2.2.2.2.1).trans ?_
 kernel_rfl
theorem named : Named Try.prog 21 := named_of Try.func21 (by kernel_rfl) (by kernel_rfl)
end Go.Bx.guard_fresh_s1
namespace Go.Bx.guard_Begin_s0
def Js : List Nat := []
def C : Ctx := ⟨[(24, T23), (28, T7), (34, T22)], [], [], fnL [(120, gate_Check.F)], shL [(21, [.one guard_fresh_s1.Sp])], [(17, 19)], invL [], [(2, [4, 5])], [(2, [.melt false 4 [1, 3] 22 true, .melt false 4 [1, 4] 23 true, .melt false 4 [2, 3] 24 true, .melt false 4 [2, 4] 25 true, .melt false 4 [3, 0] 20 true, .melt false 4 [3, 1] 21 true, .melt false 4 [4] 26 true, .melt false 4 [5] 27 true])], [], 0, 0⟩
def St0 (a : D4) (b : D1) : St := stL 18 [(0, .data T23 a), (1, .data T7 b)] []
def St1 (a : Int) (b c d : D4) (e : Int) (f g : D4) (i : Int) (j k : D4) (l m : D2) (n o : D2) (p q : D7) : St := stL 18 [(4, .ref 4 0 []), (5, .data T1 a)] [(4, .cell T22 (.agg T22 [.data T23 b, .agg T7 [.data T5 c, .data T5 d, .data T1 e, .app 22 0, .app 23 0], .agg T7 [.data T5 f, .data T5 g, .data T1 i, .app 24 0, .app 25 0], .agg T21 [.app 20 0, .app 21 0], .app 26 0, .app 27 0]) false), (20, .buf T18 j 0 true), (21, .buf T18 k 0 true), (22, .buf T8 l 0 true), (23, .buf T8 m 0 true), (24, .buf T8 n 0 true), (25, .buf T8 o 0 true), (26, .buf T2 p 0 true), (27, .buf T2 q 0 true)]
def top (Rt : Int -> D4 -> D4 -> D4 -> Int -> D4 -> D4 -> Int -> D4 -> D4 -> D2 -> D2 -> D2 -> D2 -> D7 -> D7 -> Option α) (d : D4) (b : D1) : Option α :=
 (gate_Check.run b).bind fun c =>
 if (c != 0) = true then
  Rt c [0, 0, 0, 0] [0, 0, 0] [0, 0, 0] 0 [0, 0, 0] [0, 0, 0] 0 [] [] [] [] [] [] [] []
 else
  (guard_fresh_s1.run d b b [] [] [] []).bind fun a =>
  Rt 0 a.1 a.2.1 a.2.2.1 a.2.2.2.1 a.2.2.2.2.1 a.2.2.2.2.2.1 a.2.2.2.2.2.2.1 a.2.2.2.2.2.2.2.2.2.2.2.2.2.2.1 a.2.2.2.2.2.2.2.2.2.2.2.2.2.2.2.1 a.2.2.2.2.2.2.2.2.2.2.2.2.2.2.2.2.1 a.2.2.2.2.2.2.2.2.2.2.2.2.2.2.2.2.2.1 a.2.2.2.2.2.2.2.2.2.2.2.2.2.2.2.2.2.2.1 a.2.2.2.2.2.2.2.2.2.2.2.2.2.2.2.2.2.2.2.1 a.2.2.2.2.2.2.2.2.2.2.2.2.2.2.2.2.2.2.2.2.1 a.2.2.2.2.2.2.2.2.2.2.2.2.2.2.2.2.2.2.2.2.2.1
theorem top_eq (k : Nat) (Q : Ex -> St -> Option α) (a : D4) (b : D1) :
  (den C k) (cB Try.f59) (endQ C Q) (St0 a b) = top (fun c d e f g i j l m n o p q r s t => Q .ret (St1 c d e f g i j l m n o p q r s t)) a b := plainly Js (by kernel_rfl)
def run (i : D4) (j : D1) : Option D57 := top (α := List Int × List Int × List Int × Int × List Int × List Int × Int × Int × List Int × List Int × List Int × Int × List Int × List Int × Int × List Int × List Int × D2 × D2 × D2 × D2 × D7 × D7 × Unit) (fun k a b c d e f g l m n o p q r s => some (a, b, c, d, e, f, g, k, a, b, c, d, e, f, g, l, m, n, o, p, q, r, s, ())) i j
def Sp : Spec := ⟨[hD T23, hD T7], [], T122, .tup [.agg T22 [hD T23, .agg T7 [hD T5, hD T5, hD T1, .app 22 0, .app 23 0], .agg T7 [hD T5, hD T5, hD T1, .app 24 0, .app 25 0], .agg T21 [.app 20 0, .app 21 0], .app 26 0, .app 27 0], hD T1], [(4, hC T22 (.agg T22 [hD T23, .agg T7 [hD T5, hD T5, hD T1, .app 22 0, .app 23 0], .agg T7 [hD T5, hD T5, hD T1, .app 24 0, .app 25 0], .agg T21 [.app 20 0, .app 21 0], .app 26 0, .app 27 0]) false), (20, hB T18 0 true), (21, hB T18 0 true), (22, hB T8 0 true), (23, hB T8 0 true), (24, hB T8 0 true), (25, hB T8 0 true), (26, hB T2 0 true), (27, hB T2 0 true)], T137, fun x => run x.1 x.2.1⟩
set_option maxRecDepth 100000 in
theorem sok : SOk Try.prog 59 Sp.h := by
 refine sok_of_den (C := C) (ctx_ok_sh (by kernel_rfl) (by kernel_rfl) (by kernel_rfl) (by kernel_rfl) ⟨.inl gate_Check.con, trivial⟩ ⟨⟨⟨guard_fresh_s1.sok, trivial⟩, guard_fresh_s1.named⟩, trivial⟩) (by kernel_rfl) Try.func59 (c := cB Try.f59) (by kernel_rfl) (by kernel_rfl) Sp fuel (by kernel_rfl) (by kernel_rfl) ?_
 intro x r h
 rw [<- h]
 have h1 : Sp.start x Try.f59.ntmps = (St0 x.1 x.2.1) := by kernel_rfl
 rw [h1]
 refine (top_eq fuel (finS C Try.f59.results.toList Sp.read) x.1 x.2.1).trans ?_
 kernel_rfl
theorem named : Named Try.prog 59 := named_of Try.func59 (by kernel_rfl) (by kernel_rfl)
end Go.Bx.guard_Begin_s0
namespace Go.Bx.guard_Again
def Js : List Nat := [20, 23]
def C : Ctx := ⟨[(3, T1), (5, T18), (24, T23), (28, T7), (29, T16), (31, T21), (34, T22), (35, T1), (40, T2), (96, T123), (102, T126)], [], [], fnL [(21, guard_fresh.F), (60, log_Mend.F), (61, log_Open.F), (62, paper_Decode.F), (63, guard_knows.F), (64, guard_Id.F)], shL [(20, [.one guard_passed_s2.Sp]), (59, [.one guard_Begin_s0.Sp]), (65, [.one guard_met_s2.Sp])], [(19, 127), (68, 136), (115, 138)], invL [], [(2, [6, 7]), (1, [5, 6, 8]), (4, [5, 6, 8, 40, 41, 42]), (7, [5, 6, 8, 9, 40, 41, 42]), (27, [5, 6, 8, 40, 41, 42]), (57, [5, 6, 8, 9, 40, 41, 42]), (66, [5, 6, 8])], [(2, [.dat false 6 []]), (27, [.tid [5, 6, 8, 40, 41, 42], .dat false 8 [2], .name false 8 [4] 9105]), (57, [.tid [5, 6, 8, 9, 40, 41, 42], .name false 8 [4] 9105])], [85], 0, 0⟩
def St0 (a : D4) (b : D1) (c : D9) : St := stL 126 [(0, .data T23 a), (1, .data T7 b), (2, .data T21 c)] []
def St1 (a : Int) (b : D8) : St := stL 126 [(6, .ref 6 0 []), (7, .data T1 a)] [(6, .cell T22 (.data T22 b) false)]
def St2 (a : D21) (b c : Int) (d : D9) (e f g : D4) (i : Int) (j k : D4) (l : Int) (m n o : D4) (p : Int) (q : D1) (r s : D4) (t u : D2) (v w : D7) : St := stL 126 [(5, .ref 5 0 []), (6, .ref 6 0 []), (8, .ref 8 0 []), (40, .data T123 a), (41, .data T1 b), (42, .data T1 c)] [(5, .cell T21 (.data T21 d) false), (6, .cell T22 (.agg T22 [.data T23 e, .agg T7 [.data T5 f, .data T5 g, .data T1 i, .full T8 [], .full T8 []], .agg T7 [.data T5 j, .data T5 k, .data T1 l, .full T8 [], .full T8 []], .agg T21 [.full T18 [], .full T18 []], .full T2 [], .full T2 []]) false), (8, .cell T22 (.agg T22 [.data T23 m, .agg T7 [.data T5 n, .data T5 o, .data T1 p, .app 130 0, .app 131 0], .data T7 q, .agg T21 [.app 128 0, .app 129 0], .app 9105 0, .app 135 0]) false), (128, .buf T18 r 0 true), (129, .buf T18 s 0 true), (130, .buf T8 t 0 true), (131, .buf T8 u 0 true), (135, .buf T2 v 0 true), (9105, .buf T2 w 0 true)]
noncomputable def cd0 : Code := cL (cL (cR (cL (cR (cR (cR (cR (cR (cR (cB Try.f18))))))))))
def St3 (a : Int) (b : D21) (c d : Int) (e : D9) (f g i : D4) (j : Int) (k l : D4) (m : Int) (n o p : D4) (q : Int) (r : D1) (s t : D4) (u v : D2) (w x : D7) : St := stL 126 [(5, .ref 5 0 []), (6, .ref 6 0 []), (8, .ref 8 0 []), (9, .data T1 a), (40, .data T123 b), (41, .data T1 c), (42, .data T1 d)] [(5, .cell T21 (.data T21 e) false), (6, .cell T22 (.agg T22 [.data T23 f, .agg T7 [.data T5 g, .data T5 i, .data T1 j, .full T8 [], .full T8 []], .agg T7 [.data T5 k, .data T5 l, .data T1 m, .full T8 [], .full T8 []], .agg T21 [.full T18 [], .full T18 []], .full T2 [], .full T2 []]) false), (8, .cell T22 (.agg T22 [.data T23 n, .agg T7 [.data T5 o, .data T5 p, .data T1 q, .app 130 0, .app 131 0], .data T7 r, .agg T21 [.app 128 0, .app 129 0], .app 9105 0, .app 135 0]) false), (128, .buf T18 s 0 true), (129, .buf T18 t 0 true), (130, .buf T8 u 0 true), (131, .buf T8 v 0 true), (135, .buf T2 w 0 true), (9105, .buf T2 x 0 true)]
noncomputable def cd1 : Code := cR (cR (cR (cL (cL (cR (cL (cR (cR (cR (cR (cR (cR (cB Try.f18)))))))))))))
noncomputable def cd2 : Code := cR (cR (cL (cL (cR (cR (cL (cL (cR (cL (cR (cR (cR (cR (cR (cR (cB Try.f18))))))))))))))))
def j0 (Nx : D21 -> Int -> Int -> D9 -> D4 -> D4 -> D4 -> Int -> D4 -> D4 -> Int -> D4 -> D4 -> D4 -> Int -> D1 -> D4 -> D4 -> D2 -> D2 -> D7 -> D7 -> Option α) (Rt : Int -> D8 -> Option α) (a : Int) (b : D21) (c d : Int) (e : D9) (f g i : D4) (j : Int) (k l : D4) (m : Int) (n o p : D4) (q : Int) (r : D1) (s t : D4) (u v : D2) (w x : D7) : Option α :=
 if (a != 0) = true then
  Rt 12 ([0, 0, 0, 0], ([0, 0, 0], [0, 0, 0], 0, [], [], ()), ([0, 0, 0], [0, 0, 0], 0, [], [], ()), ([], [], ()), [], [], ())
 else
  Nx b c (IntKind.i64.wrap (d + 1)) e f g i j k l m n o p q r s t u v w x
theorem j0_eq (k : Nat) (next : St -> Option α) (Q : Ex -> St -> Option α) (y : Int) (a : D21) (b c : Int) (d : D9) (e f g : D4) (i : Int) (j l : D4) (m : Int) (n o p : D4) (q : Int) (r : D1) (s t : D4) (u v : D2) (w x : D7) :
  (den C k) cd2 (blkQ C 1 (sq (den C k) (lp C k) Js C cd1 (lq C 27 next Q))) (St3 y a b c d e f g i j l m n o p q r s t u v w x) = j0 (fun a b c d e f g i j l m n o p q r s t u v w x => next (St2 a b c d e f g i j l m n o p q r s t u v w x)) (fun z A => Q .ret (St1 z A)) y a b c d e f g i j l m n o p q r s t u v w x := plainly Js (by kernel_rfl)
def St4 (a : D9) (b c d : D4) (e : Int) (f g : D4) (i : Int) (j k l : D4) (m : Int) (n : D1) (o p : D4) (q r : D2) (s t : D7) : St := stL 126 [(5, .ref 5 0 []), (6, .ref 6 0 []), (8, .ref 8 0 [])] [(5, .cell T21 (.data T21 a) false), (6, .cell T22 (.agg T22 [.data T23 b, .agg T7 [.data T5 c, .data T5 d, .data T1 e, .full T8 [], .full T8 []], .agg T7 [.data T5 f, .data T5 g, .data T1 i, .full T8 [], .full T8 []], .agg T21 [.full T18 [], .full T18 []], .full T2 [], .full T2 []]) false), (8, .cell T22 (.agg T22 [.data T23 j, .agg T7 [.data T5 k, .data T5 l, .data T1 m, .app 130 0, .app 131 0], .data T7 n, .agg T21 [.app 128 0, .app 129 0], .app 9105 0, .app 135 0]) false), (128, .buf T18 o 0 true), (129, .buf T18 p 0 true), (130, .buf T8 q 0 true), (131, .buf T8 r 0 true), (135, .buf T2 s 0 true), (9105, .buf T2 t 0 true)]
def l0s (Nx : D21 -> Int -> Int -> D9 -> D4 -> D4 -> D4 -> Int -> D4 -> D4 -> Int -> D4 -> D4 -> D4 -> Int -> D1 -> D4 -> D4 -> D2 -> D2 -> D7 -> D7 -> Option α) (Rt : Int -> D8 -> Option α) (Xt0 : D9 -> D4 -> D4 -> D4 -> Int -> D4 -> D4 -> Int -> D4 -> D4 -> D4 -> Int -> D1 -> D4 -> D4 -> D2 -> D2 -> D7 -> D7 -> Option α) (b : D21) (r a : Int) (s : D9) (t u v : D4) (w : Int) (x y : D4) (z : Int) (f g i : D4) (j : Int) (k : D1) (l m : D4) (n o : D2) (p q : D7) : Option α :=
 if (decide (a < r)) = true then
  if 0 <= a /\ a < (b.length : Int) then
   cond (decide (0 <= (0 : Int) /\ (0 : Int) < ((List.getD b (Int.toNat a) []).length : Int)) || !((((List.getD b (Int.toNat a) []).length : Int) == 3) == true)) (
    if (cond (((List.getD b (Int.toNat a) []).length : Int) == 3) ((List.getD (List.getD b (Int.toNat a) []) 0 0) == 2) false) = true then
     if 0 <= (1 : Int) /\ (1 : Int) < ((List.getD b (Int.toNat a) []).length : Int) then
      if 0 <= (2 : Int) /\ (2 : Int) < ((List.getD b (Int.toNat a) []).length : Int) then
       (guard_passed_s2.run f g i j k (bor .i64 (shlI .i64 (IntKind.i64.wrap (List.getD (List.getD b (Int.toNat a) []) 1 0)) 8) (IntKind.i64.wrap (List.getD (List.getD b (Int.toNat a) []) 2 0))) n o l m q p).bind fun c =>
       j0 Nx Rt c.2.2.2.2.2.1 b r a s t u v w x y z c.1 c.2.1 c.2.2.1 c.2.2.2.1 c.2.2.2.2.1 c.2.2.2.2.2.2.2.2.1 c.2.2.2.2.2.2.2.2.2.1 c.2.2.2.2.2.2.1 c.2.2.2.2.2.2.2.1 c.2.2.2.2.2.2.2.2.2.2.2.1 c.2.2.2.2.2.2.2.2.2.2.2.2.2.2.2.2.2.1
      else none
     else none
    else
     cond (decide (0 <= (0 : Int) /\ (0 : Int) < ((List.getD b (Int.toNat a) []).length : Int)) || !((decide (((List.getD b (Int.toNat a) []).length : Int) > 0)) == true)) (
      if (cond (decide (((List.getD b (Int.toNat a) []).length : Int) > 0)) ((List.getD (List.getD b (Int.toNat a) []) 0 0) == 1) false) = true then
       if 0 <= (1 : Int) /\ (1 : Int) <= ((List.getD b (Int.toNat a) []).length : Int) /\ ((List.getD b (Int.toNat a) []).length : Int) <= ((List.getD b (Int.toNat a) []).length : Int) then
        if fitB (6 + (cutL (List.getD b (Int.toNat a) []) 1 ((List.getD b (Int.toNat a) []).length : Int)).length) 1 = true then
         (paper_Decode.run ([1, 0, 0, 0, 0, 0] ++ (cutL (List.getD b (Int.toNat a) []) 1 ((List.getD b (Int.toNat a) []).length : Int)))).bind fun e =>
         (if ((cond (cond (e.2.1 != 0) true (decide (e.1.2.2.1.2.2.1 >= 3))) true (decide (e.1.2.2.1.2.2.2.2.1 >= 256))) == false) = true then guard_Id.run e.1.2.2.1 else some 0).bind fun A =>
         (if ((cond (cond (e.2.1 != 0) true (decide (e.1.2.2.1.2.2.1 >= 3))) true (decide (e.1.2.2.1.2.2.2.2.1 >= 256))) == false) = true then guard_knows.run (f, (g, i, j, n, o, ()), k, (l, m, ()), q, p, ()) A else some false).bind fun B =>
         if (cond (cond (cond (e.2.1 != 0) true (decide (e.1.2.2.1.2.2.1 >= 3))) true (decide (e.1.2.2.1.2.2.2.2.1 >= 256))) true B) = true then
          Rt 12 ([0, 0, 0, 0], ([0, 0, 0], [0, 0, 0], 0, [], [], ()), ([0, 0, 0], [0, 0, 0], 0, [], [], ()), ([], [], ()), [], [], ())
         else
          (guard_met_s2.run f g i j k e.1.2.2.1 n o l m q p).bind fun d =>
          j0 Nx Rt d.2.2.2.2.2.1 b r a s t u v w x y z d.1 d.2.1 d.2.2.1 d.2.2.2.1 d.2.2.2.2.1 d.2.2.2.2.2.2.2.2.1 d.2.2.2.2.2.2.2.2.2.1 d.2.2.2.2.2.2.1 d.2.2.2.2.2.2.2.1 d.2.2.2.2.2.2.2.2.2.2.2.1 d.2.2.2.2.2.2.2.2.2.2.1
        else none
       else none
      else
       j0 Nx Rt 12 b r a s t u v w x y z f g i j k l m n o p q) none) none
  else none
 else
  Xt0 s t u v w x y z f g i j k l m n o p q
theorem l0s_eq (k : Nat) (next : St -> Option α) (Q : Ex -> St -> Option α) (b : D21) (A a : Int) (r : D9) (s t u : D4) (v : Int) (w x : D4) (y : Int) (c d e : D4) (f : Int) (g : D1) (i j : D4) (l m : D2) (n o : D7) :
  rnd C k cd0 27 Q next (St2 b A a r s t u v w x y c d e f g i j l m n o) = l0s (fun b A a r s t u v w x y c d e f g i j l m n o => next (St2 b A a r s t u v w x y c d e f g i j l m n o)) (fun B E => Q .ret (St1 B E)) (fun r s t u v w x y c d e f g i j l m n o => Q (.exit 0) (St4 r s t u v w x y c d e f g i j l m n o)) b A a r s t u v w x y c d e f g i j l m n o := by
 have h : ∀ (D L : DT α), denJ D L Js C cd0 (lq C 27 next Q) (St2 b A a r s t u v w x y c d e f g i j l m n o) =
    if (decide (a < A)) = true then
     if 0 <= a /\ a < (b.length : Int) then
      cond (decide (0 <= (0 : Int) /\ (0 : Int) < ((List.getD b (Int.toNat a) []).length : Int)) || !((((List.getD b (Int.toNat a) []).length : Int) == 3) == true)) (
       if (cond (((List.getD b (Int.toNat a) []).length : Int) == 3) ((List.getD (List.getD b (Int.toNat a) []) 0 0) == 2) false) = true then
        if 0 <= (1 : Int) /\ (1 : Int) < ((List.getD b (Int.toNat a) []).length : Int) then
         if 0 <= (2 : Int) /\ (2 : Int) < ((List.getD b (Int.toNat a) []).length : Int) then
          (guard_passed_s2.run c d e f g (bor .i64 (shlI .i64 (IntKind.i64.wrap (List.getD (List.getD b (Int.toNat a) []) 1 0)) 8) (IntKind.i64.wrap (List.getD (List.getD b (Int.toNat a) []) 2 0))) l m i j o n).bind fun p =>
          D cd2 (blkQ C 1 (sq D L Js C cd1 (lq C 27 next Q))) (St3 p.2.2.2.2.2.1 b A a r s t u v w x y p.1 p.2.1 p.2.2.1 p.2.2.2.1 p.2.2.2.2.1 p.2.2.2.2.2.2.2.2.1 p.2.2.2.2.2.2.2.2.2.1 p.2.2.2.2.2.2.1 p.2.2.2.2.2.2.2.1 p.2.2.2.2.2.2.2.2.2.2.2.1 p.2.2.2.2.2.2.2.2.2.2.2.2.2.2.2.2.2.1)
         else none
        else none
       else
        cond (decide (0 <= (0 : Int) /\ (0 : Int) < ((List.getD b (Int.toNat a) []).length : Int)) || !((decide (((List.getD b (Int.toNat a) []).length : Int) > 0)) == true)) (
         if (cond (decide (((List.getD b (Int.toNat a) []).length : Int) > 0)) ((List.getD (List.getD b (Int.toNat a) []) 0 0) == 1) false) = true then
          if 0 <= (1 : Int) /\ (1 : Int) <= ((List.getD b (Int.toNat a) []).length : Int) /\ ((List.getD b (Int.toNat a) []).length : Int) <= ((List.getD b (Int.toNat a) []).length : Int) then
           if fitB (6 + (cutL (List.getD b (Int.toNat a) []) 1 ((List.getD b (Int.toNat a) []).length : Int)).length) 1 = true then
            (paper_Decode.run ([1, 0, 0, 0, 0, 0] ++ (cutL (List.getD b (Int.toNat a) []) 1 ((List.getD b (Int.toNat a) []).length : Int)))).bind fun z =>
            (if ((cond (cond (z.2.1 != 0) true (decide (z.1.2.2.1.2.2.1 >= 3))) true (decide (z.1.2.2.1.2.2.2.2.1 >= 256))) == false) = true then guard_Id.run z.1.2.2.1 else some 0).bind fun G =>
            (if ((cond (cond (z.2.1 != 0) true (decide (z.1.2.2.1.2.2.1 >= 3))) true (decide (z.1.2.2.1.2.2.2.2.1 >= 256))) == false) = true then guard_knows.run (c, (d, e, f, l, m, ()), g, (i, j, ()), o, n, ()) G else some false).bind fun H =>
            if (cond (cond (cond (z.2.1 != 0) true (decide (z.1.2.2.1.2.2.1 >= 3))) true (decide (z.1.2.2.1.2.2.2.2.1 >= 256))) true H) = true then
             Q .ret (St1 12 ([0, 0, 0, 0], ([0, 0, 0], [0, 0, 0], 0, [], [], ()), ([0, 0, 0], [0, 0, 0], 0, [], [], ()), ([], [], ()), [], [], ()))
            else
             (guard_met_s2.run c d e f g z.1.2.2.1 l m i j o n).bind fun q =>
             D cd2 (blkQ C 1 (sq D L Js C cd1 (lq C 27 next Q))) (St3 q.2.2.2.2.2.1 b A a r s t u v w x y q.1 q.2.1 q.2.2.1 q.2.2.2.1 q.2.2.2.2.1 q.2.2.2.2.2.2.2.2.1 q.2.2.2.2.2.2.2.2.2.1 q.2.2.2.2.2.2.1 q.2.2.2.2.2.2.2.1 q.2.2.2.2.2.2.2.2.2.2.2.1 q.2.2.2.2.2.2.2.2.2.2.1)
           else none
          else none
         else
          D cd2 (blkQ C 1 (sq D L Js C cd1 (lq C 27 next Q))) (St3 12 b A a r s t u v w x y c d e f g i j l m n o)) none) none
     else none
    else
     Q (.exit 0) (St4 r s t u v w x y c d e f g i j l m n o) := by
  intro D L; kernel_rfl
 have h2 := via (k := k) h
 refine h2.trans ?_
 simp only [j0_eq]
 first | rfl | kernel_rfl
def l0 (k : Nat) (Rt : Int -> D8 -> Option α) (Xt0 : D9 -> D4 -> D4 -> D4 -> Int -> D4 -> D4 -> Int -> D4 -> D4 -> D4 -> Int -> D1 -> D4 -> D4 -> D2 -> D2 -> D7 -> D7 -> Option α) : Nat -> D21 -> Int -> Int -> D9 -> D4 -> D4 -> D4 -> Int -> D4 -> D4 -> Int -> D4 -> D4 -> D4 -> Int -> D1 -> D4 -> D4 -> D2 -> D2 -> D7 -> D7 -> Option α
 | 0, _, _, _, _, _, _, _, _, _, _, _, _, _, _, _, _, _, _, _, _, _, _ => none
 | n + 1, a, b, c, d, e, f, g, i, j, l, m, o, p, q, r, s, t, u, v, w, x, y => l0s (l0 k Rt Xt0 n) Rt Xt0 a b c d e f g i j l m o p q r s t u v w x y
theorem l0_eq (k : Nat) (Q : Ex -> St -> Option α) : ∀ (n : Nat) (w : D21) (x y : Int) (a : D9) (b c d : D4) (e : Int) (f g : D4) (i : Int) (j l m : D4) (o : Int) (p : D1) (q r : D4) (s t : D2) (u v : D7), iter (rnd C k cd0 27 Q) n (St2 w x y a b c d e f g i j l m o p q r s t u v) = l0 k (fun z A => Q .ret (St1 z A)) (fun a b c d e f g i j l m o p q r s t u v => Q (.exit 0) (St4 a b c d e f g i j l m o p q r s t u v)) n w x y a b c d e f g i j l m o p q r s t u v
 | 0, _, _, _, _, _, _, _, _, _, _, _, _, _, _, _, _, _, _, _, _, _, _ => rfl
 | n + 1, w, x, y, a, b, c, d, e, f, g, i, j, l, m, o, p, q, r, s, t, u, v => (iter_succ _ _ _).trans ((l0s_eq k _ Q w x y a b c d e f g i j l m o p q r s t u v).trans (congrArg (fun N => l0s N (fun z A => Q .ret (St1 z A)) (fun a b c d e f g i j l m o p q r s t u v => Q (.exit 0) (St4 a b c d e f g i j l m o p q r s t u v)) w x y a b c d e f g i j l m o p q r s t u v) (by funext; exact l0_eq k Q n _ _ _ _ _ _ _ _ _ _ _ _ _ _ _ _ _ _ _ _ _ _)))
theorem l0_congr (k : Nat) (Rt : Int -> D8 -> Option α) (Xt0 : D9 -> D4 -> D4 -> D4 -> Int -> D4 -> D4 -> Int -> D4 -> D4 -> D4 -> Int -> D1 -> D4 -> D4 -> D2 -> D2 -> D7 -> D7 -> Option α) (Rtq : Int -> D8 -> Option α) (Xt0q : D9 -> D4 -> D4 -> D4 -> Int -> D4 -> D4 -> Int -> D4 -> D4 -> D4 -> Int -> D1 -> D4 -> D4 -> D2 -> D2 -> D7 -> D7 -> Option α) (hRt : ∀ (w : Int) (x : D8), Rt w x = Rtq w x) (hXt0 : ∀ (a : D9) (b c d : D4) (e : Int) (f g : D4) (i : Int) (j l m : D4) (o : Int) (p : D1) (q r : D4) (s t : D2) (u v : D7), Xt0 a b c d e f g i j l m o p q r s t u v = Xt0q a b c d e f g i j l m o p q r s t u v) (n : Nat) (y : D21) (z A : Int) (a : D9) (b c d : D4) (e : Int) (f g : D4) (i : Int) (j l m : D4) (o : Int) (p : D1) (q r : D4) (s t : D2) (u v : D7) : l0 k Rt Xt0 n y z A a b c d e f g i j l m o p q r s t u v = l0 k Rtq Xt0q n y z A a b c d e f g i j l m o p q r s t u v := by
 obtain rfl : Rt = Rtq := by funext w; funext x; exact hRt w x
 obtain rfl : Xt0 = Xt0q := by funext a; funext b; funext c; funext d; funext e; funext f; funext g; funext i; funext j; funext l; funext m; funext o; funext p; funext q; funext r; funext s; funext t; funext u; funext v; exact hXt0 a b c d e f g i j l m o p q r s t u v
 rfl
noncomputable def cd3 : Code := cR (cR (cR (cR (cR (cR (cR (cB Try.f18)))))))
def St5 (a : D9) (b c d : D4) (e : Int) (f g : D4) (i : Int) (j k l : D4) (m : Int) (n : D1) (o p : D4) (q r : D2) (s t : D7) : St := stL 126 [(5, .ref 5 0 []), (6, .ref 6 0 []), (8, .ref 8 0 [])] [(5, .cell T21 (.data T21 a) false), (6, .cell T22 (.agg T22 [.data T23 b, .agg T7 [.data T5 c, .data T5 d, .data T1 e, .full T8 [], .full T8 []], .agg T7 [.data T5 f, .data T5 g, .data T1 i, .full T8 [], .full T8 []], .agg T21 [.full T18 [], .full T18 []], .full T2 [], .full T2 []]) false), (8, .cell T22 (.agg T22 [.data T23 j, .agg T7 [.data T5 k, .data T5 l, .data T1 m, .app 130 0, .app 131 0], .data T7 n, .agg T21 [.app 128 0, .app 129 0], .app 9105 0, .app 135 0]) false), (128, .buf T18 o 0 true), (129, .buf T18 p 0 true), (130, .buf T8 q 0 true), (131, .buf T8 r 0 true), (135, .buf T2 s 0 true), (9105, .buf T2 t 0 true)]
def j1 (Rt : Int -> D8 -> Option α) (a : D9) (m n o : D4) (p : Int) (q r : D4) (s : Int) (b c d : D4) (e : Int) (f : D1) (t u : D4) (g i : D2) (j k : D7) : Option α :=
 (guard_fresh.run (b, (c, d, e, g, i, ()), f, a, k, j, ())).bind fun l =>
 Rt 0 l
theorem j1_eq (k : Nat) (Q : Ex -> St -> Option α) (a : D9) (b c d : D4) (e : Int) (f g : D4) (i : Int) (j l m : D4) (n : Int) (o : D1) (p q : D4) (r s : D2) (t u : D7) :
  (den C k) cd3 Q (St5 a b c d e f g i j l m n o p q r s t u) = j1 (fun v w => Q .ret (St1 v w)) a b c d e f g i j l m n o p q r s t u := plainly Js (by kernel_rfl)
theorem a0 (k : Nat) (Q : Ex -> St -> Option α) (y : D21) (z A : Int) (a : D9) (c d e : D4) (f : Int) (g i : D4) (j : Int) (l m n : D4) (o : Int) (p : D1) (q r : D4) (s t : D2) (u v : D7) :
  (lp C k) cd0 (blkQ C 0 (sq (den C k) (lp C k) Js C cd3 Q)) (St2 y z A a c d e f g i j l m n o p q r s t u v) = l0 k (fun w x => (fun w x => Q .ret (St1 w x)) w x) (fun a c d e f g i j l m n o p q r s t u v => j1 (fun w x => Q .ret (St1 w x)) a c d e f g i j l m n o p q r s t u v) k y z A a c d e f g i j l m n o p q r s t u v :=
 (lp_iter 27 (by kernel_rfl)).trans ((l0_eq k _ k y z A a c d e f g i j l m n o p q r s t u v).trans (l0_congr k _ _ _ _ (fun w x => (by kernel_rfl)) (fun a c d e f g i j l m n o p q r s t u v => (Eq.trans (b := (den C k) cd3 Q (St5 a c d e f g i j l m n o p q r s t u v)) (by kernel_rfl) (by simp only [j1_eq]))) k y z A a c d e f g i j l m n o p q r s t u v))
def top (k : Nat) (Rt : Int -> D8 -> Option α) (d : D4) (e : D1) (f : D9) : Option α :=
 (guard_Begin_s0.run d e).bind fun a =>
 if (a.2.2.2.2.2.2.2.1 != 0) = true then
  Rt a.2.2.2.2.2.2.2.1 ([0, 0, 0, 0], ([0, 0, 0], [0, 0, 0], 0, [], [], ()), ([0, 0, 0], [0, 0, 0], 0, [], [], ()), ([], [], ()), [], [], ())
 else
  (log_Mend.run f).bind fun b =>
  if (b.2.1 != 0) = true then
   Rt b.2.1 ([0, 0, 0, 0], ([0, 0, 0], [0, 0, 0], 0, [], [], ()), ([0, 0, 0], [0, 0, 0], 0, [], [], ()), ([], [], ()), [], [], ())
  else
   (log_Open.run b.1).bind fun c =>
   l0 k (fun g i => Rt g i) (fun j l m n o p q r s t u v w x y z A B D => j1 Rt j l m n o p q r s t u v w x y z A B D) k c.1 (c.1.length : Int) 0 b.1 [0, 0, 0, 0] [0, 0, 0] [0, 0, 0] 0 [0, 0, 0] [0, 0, 0] 0 a.1 a.2.1 a.2.2.1 a.2.2.2.1 (a.2.2.2.2.1, a.2.2.2.2.2.1, a.2.2.2.2.2.2.1, a.2.2.2.2.2.2.2.2.2.2.2.2.2.2.2.2.2.2.2.1, a.2.2.2.2.2.2.2.2.2.2.2.2.2.2.2.2.2.2.2.2.1, ()) a.2.2.2.2.2.2.2.2.2.2.2.2.2.2.2.1 a.2.2.2.2.2.2.2.2.2.2.2.2.2.2.2.2.1 a.2.2.2.2.2.2.2.2.2.2.2.2.2.2.2.2.2.1 a.2.2.2.2.2.2.2.2.2.2.2.2.2.2.2.2.2.2.1 a.2.2.2.2.2.2.2.2.2.2.2.2.2.2.2.2.2.2.2.2.2.2.1 a.2.2.2.2.2.2.2.2.2.2.2.2.2.2.2.2.2.2.2.2.2.1
theorem top_eq (k : Nat) (Q : Ex -> St -> Option α) (b : D4) (c : D1) (d : D9) :
  (den C k) (cB Try.f18) Q (St0 b c d) = top k (fun g i => Q .ret (St1 g i)) b c d := by
 have h : ∀ (D L : DT α), denJ D L Js C (cB Try.f18) Q (St0 b c d) =
    (guard_Begin_s0.run b c).bind fun a =>
    if (a.2.2.2.2.2.2.2.1 != 0) = true then
     Q .ret (St1 a.2.2.2.2.2.2.2.1 ([0, 0, 0, 0], ([0, 0, 0], [0, 0, 0], 0, [], [], ()), ([0, 0, 0], [0, 0, 0], 0, [], [], ()), ([], [], ()), [], [], ()))
    else
     (log_Mend.run d).bind fun e =>
     if (e.2.1 != 0) = true then
      Q .ret (St1 e.2.1 ([0, 0, 0, 0], ([0, 0, 0], [0, 0, 0], 0, [], [], ()), ([0, 0, 0], [0, 0, 0], 0, [], [], ()), ([], [], ()), [], [], ()))
     else
      (log_Open.run e.1).bind fun f =>
      L cd0 (blkQ C 0 (sq D L Js C cd3 Q)) (St2 f.1 (f.1.length : Int) 0 e.1 [0, 0, 0, 0] [0, 0, 0] [0, 0, 0] 0 [0, 0, 0] [0, 0, 0] 0 a.1 a.2.1 a.2.2.1 a.2.2.2.1 (a.2.2.2.2.1, a.2.2.2.2.2.1, a.2.2.2.2.2.2.1, a.2.2.2.2.2.2.2.2.2.2.2.2.2.2.2.2.2.2.2.1, a.2.2.2.2.2.2.2.2.2.2.2.2.2.2.2.2.2.2.2.2.1, ()) a.2.2.2.2.2.2.2.2.2.2.2.2.2.2.2.1 a.2.2.2.2.2.2.2.2.2.2.2.2.2.2.2.2.1 a.2.2.2.2.2.2.2.2.2.2.2.2.2.2.2.2.2.1 a.2.2.2.2.2.2.2.2.2.2.2.2.2.2.2.2.2.2.1 a.2.2.2.2.2.2.2.2.2.2.2.2.2.2.2.2.2.2.2.2.2.2.1 a.2.2.2.2.2.2.2.2.2.2.2.2.2.2.2.2.2.2.2.2.2.1) := by
  intro D L; kernel_rfl
 have h2 := via (k := k) h
 refine h2.trans ?_
 simp only [a0]
 first | rfl | kernel_rfl
def run (a : D4) (b : D1) (c : D9) : Option D11 := top (α := D8 × Int × Unit) fuel (fun d e => some (e, d, ())) a b c
def F : Fn := ⟨T142, T30, true, fun x => run x.1 x.2.1 x.2.2.1⟩
theorem con : Con Try.prog 18 F /\ Named Try.prog 18 :=
 con_of2 (C := C) (ctx_ok_sh (by kernel_rfl) (by kernel_rfl) (by kernel_rfl) (by kernel_rfl) ⟨.inl guard_fresh.con, ⟨.inl log_Mend.con, ⟨.inl log_Open.con, ⟨.inl paper_Decode.con, ⟨.inl guard_knows.con, ⟨.inl guard_Id.con, trivial⟩⟩⟩⟩⟩⟩ ⟨⟨⟨guard_passed_s2.sok, trivial⟩, guard_passed_s2.named⟩, ⟨⟨⟨guard_Begin_s0.sok, trivial⟩, guard_Begin_s0.named⟩, ⟨⟨⟨guard_met_s2.sok, trivial⟩, guard_met_s2.named⟩, trivial⟩⟩⟩) (by kernel_rfl) Try.func18 (by kernel_rfl) (c := cB Try.f18) (by kernel_rfl) (by kernel_rfl) F (fun x => by simp [F, spread, Try.ntmps18]) (fun x => (St0 x.1 x.2.1 x.2.2.1)) (fun x => by kernel_rfl) fun x => (top_eq fuel _ x.1 x.2.1 x.2.2.1).trans (by kernel_rfl)
end Go.Bx.guard_Again
namespace Go.Bx.basculeref_GuardBegun
def Js : List Nat := []
def C : Ctx := ⟨[(24, T23), (28, T7), (34, T22), (35, T1)], [], [], fnL [(129, basculeref_GateFault.F)], noSh, [], invL [], [(2, [4, 5])], [(2, [.dat false 4 [1], .dat false 4 [2]])], [], 0, 0⟩
def St0 (a : D4) (b : D1) : St := stL 17 [(0, .data T23 a), (1, .data T7 b)] []
def St1 (a : Int) (b : D4) (c d : D1) : St := stL 17 [(4, .ref 4 0 []), (5, .data T1 a)] [(4, .cell T22 (.agg T22 [.data T23 b, .data T7 c, .data T7 d, .agg T21 [.full T18 [], .full T18 []], .full T2 [], .full T2 []]) false)]
def top (Rt : Int -> D4 -> D1 -> D1 -> Option α) (c : D4) (a : D1) : Option α :=
 (basculeref_GateFault.run a).bind fun b =>
 if (b != 0) = true then
  Rt b [0, 0, 0, 0] ([0, 0, 0], [0, 0, 0], 0, [], [], ()) ([0, 0, 0], [0, 0, 0], 0, [], [], ())
 else
  Rt 0 c a a
theorem top_eq (k : Nat) (Q : Ex -> St -> Option α) (a : D4) (b : D1) :
  (den C k) (cB Try.f66) Q (St0 a b) = top (fun c d e f => Q .ret (St1 c d e f)) a b := plainly Js (by kernel_rfl)
def run (a : D4) (b : D1) : Option D11 := top (α := D8 × Int × Unit) (fun c d e f => some ((d, e, f, ([], [], ()), [], [], ()), c, ())) a b
def F : Fn := ⟨T122, T30, true, fun x => run x.1 x.2.1⟩
theorem con : Con Try.prog 66 F /\ Named Try.prog 66 :=
 con_of2 (C := C) (ctx_ok (by kernel_rfl) (by kernel_rfl) (by kernel_rfl) (by kernel_rfl) ⟨.inl basculeref_GateFault.con, trivial⟩) (by kernel_rfl) Try.func66 (by kernel_rfl) (c := cB Try.f66) (by kernel_rfl) (by kernel_rfl) F (fun x => by simp [F, spread, Try.ntmps66]) (fun x => (St0 x.1 x.2.1)) (fun x => by kernel_rfl) fun x => (top_eq fuel _ x.1 x.2.1).trans (by kernel_rfl)
end Go.Bx.basculeref_GuardBegun
namespace Go.Bx.basculeref_GuardAgain
def Js : List Nat := [20, 23]
def C : Ctx := ⟨[(5, T18), (9, .str), (24, T23), (28, T7), (29, T16), (31, T21), (34, T22), (35, T1), (40, T2), (96, T123), (102, T126)], [], [], fnL [(24, basculeref_waits.F), (57, basculeref_meets.F), (66, basculeref_GuardBegun.F), (67, basculeref_LogMended.F), (68, basculeref_LogRecords.F), (69, basculeref_PaperOf.F), (70, basculeref_number.F)], noSh, [], invL [], [(2, [6, 7]), (1, [5, 6, 8]), (4, [5, 6, 8, 43, 44, 45]), (7, [5, 6, 8, 14, 43, 44, 45]), (27, [5, 6, 8, 43, 44, 45]), (57, [5, 6, 8, 14, 43, 44, 45]), (66, [5, 6, 8])], [(2, [.dat false 6 []])], [], 0, 0⟩
def St0 (a : D4) (b : D1) (c : D9) : St := stL 106 [(0, .data T23 a), (1, .data T7 b), (2, .data T21 c)] []
def St1 (a : Int) (b : D8) : St := stL 106 [(6, .ref 6 0 []), (7, .data T1 a)] [(6, .cell T22 (.data T22 b) false)]
def St2 (a : D21) (b c : Int) (d : D9) (e f g : D4) (i : Int) (j k : D4) (l : Int) (m : D8) : St := stL 106 [(5, .ref 5 0 []), (6, .ref 6 0 []), (8, .ref 8 0 []), (43, .data T123 a), (44, .data T1 b), (45, .data T1 c)] [(5, .cell T21 (.data T21 d) false), (6, .cell T22 (.agg T22 [.data T23 e, .agg T7 [.data T5 f, .data T5 g, .data T1 i, .full T8 [], .full T8 []], .agg T7 [.data T5 j, .data T5 k, .data T1 l, .full T8 [], .full T8 []], .agg T21 [.full T18 [], .full T18 []], .full T2 [], .full T2 []]) false), (8, .cell T22 (.data T22 m) false)]
noncomputable def cd0 : Code := cL (cL (cR (cL (cR (cR (cR (cR (cR (cR (cB Try.f19))))))))))
def St3 (a : Bool) (b : D21) (c d : Int) (e : D9) (f g i : D4) (j : Int) (k l : D4) (m : Int) (n : D8) : St := stL 106 [(5, .ref 5 0 []), (6, .ref 6 0 []), (8, .ref 8 0 []), (14, .data .bool a), (43, .data T123 b), (44, .data T1 c), (45, .data T1 d)] [(5, .cell T21 (.data T21 e) false), (6, .cell T22 (.agg T22 [.data T23 f, .agg T7 [.data T5 g, .data T5 i, .data T1 j, .full T8 [], .full T8 []], .agg T7 [.data T5 k, .data T5 l, .data T1 m, .full T8 [], .full T8 []], .agg T21 [.full T18 [], .full T18 []], .full T2 [], .full T2 []]) false), (8, .cell T22 (.data T22 n) false)]
noncomputable def cd1 : Code := cR (cR (cR (cL (cL (cR (cL (cR (cR (cR (cR (cR (cR (cB Try.f19)))))))))))))
noncomputable def cd2 : Code := cR (cR (cR (cL (cL (cR (cR (cL (cL (cR (cL (cR (cR (cR (cR (cR (cR (cB Try.f19)))))))))))))))))
def j0 (Nx : D21 -> Int -> Int -> D9 -> D4 -> D4 -> D4 -> Int -> D4 -> D4 -> Int -> D8 -> Option α) (Rt : Int -> D8 -> Option α) (a : Bool) (b : D21) (c d : Int) (e : D9) (f g i : D4) (j : Int) (k l : D4) (m : Int) (n : D8) : Option α :=
 if (not a) = true then
  Rt 12 ([0, 0, 0, 0], ([0, 0, 0], [0, 0, 0], 0, [], [], ()), ([0, 0, 0], [0, 0, 0], 0, [], [], ()), ([], [], ()), [], [], ())
 else
  Nx b c (IntKind.i64.wrap (d + 1)) e f g i j k l m n
theorem j0_eq (k : Nat) (next : St -> Option α) (Q : Ex -> St -> Option α) (o : Bool) (a : D21) (b c : Int) (d : D9) (e f g : D4) (i : Int) (j l : D4) (m : Int) (n : D8) :
  (den C k) cd2 (blkQ C 1 (sq (den C k) (lp C k) Js C cd1 (lq C 27 next Q))) (St3 o a b c d e f g i j l m n) = j0 (fun a b c d e f g i j l m n => next (St2 a b c d e f g i j l m n)) (fun p q => Q .ret (St1 p q)) o a b c d e f g i j l m n := plainly Js (by kernel_rfl)
def St4 (a : D9) (b c d : D4) (e : Int) (f g : D4) (i : Int) (j : D8) : St := stL 106 [(5, .ref 5 0 []), (6, .ref 6 0 []), (8, .ref 8 0 [])] [(5, .cell T21 (.data T21 a) false), (6, .cell T22 (.agg T22 [.data T23 b, .agg T7 [.data T5 c, .data T5 d, .data T1 e, .full T8 [], .full T8 []], .agg T7 [.data T5 f, .data T5 g, .data T1 i, .full T8 [], .full T8 []], .agg T21 [.full T18 [], .full T18 []], .full T2 [], .full T2 []]) false), (8, .cell T22 (.data T22 j) false)]
def l0s (Nx : D21 -> Int -> Int -> D9 -> D4 -> D4 -> D4 -> Int -> D4 -> D4 -> Int -> D8 -> Option α) (Rt : Int -> D8 -> Option α) (Xt0 : D9 -> D4 -> D4 -> D4 -> Int -> D4 -> D4 -> Int -> D8 -> Option α) (b : D21) (c a : Int) (d : D9) (e f g : D4) (i : Int) (j k : D4) (l : Int) (m : D8) : Option α :=
 if (decide (a < c)) = true then
  if 0 <= a /\ a < (b.length : Int) then
   cond (decide (0 <= (0 : Int) /\ (0 : Int) < ((List.getD b (Int.toNat a) []).length : Int)) || !((decide (((List.getD b (Int.toNat a) []).length : Int) > 0)) == true)) (
    if (cond (decide (((List.getD b (Int.toNat a) []).length : Int) > 0)) ((List.getD (List.getD b (Int.toNat a) []) 0 0) == 1) false) = true then
     if 0 <= (1 : Int) /\ (1 : Int) <= ((List.getD b (Int.toNat a) []).length : Int) /\ ((List.getD b (Int.toNat a) []).length : Int) <= ((List.getD b (Int.toNat a) []).length : Int) then
      if Nat.ble (6 + (cutL (List.getD b (Int.toNat a) []) 1 ((List.getD b (Int.toNat a) []).length : Int)).length) 9223372036854775807 = true then
       (basculeref_PaperOf.run ([1, 0, 0, 0, 0, 0] ++ (cutL (List.getD b (Int.toNat a) []) 1 ((List.getD b (Int.toNat a) []).length : Int)))).bind fun n =>
       if (n.2.1 == 0) = true then
        (basculeref_meets.run m n.1.2.2.1).bind fun o =>
        j0 Nx Rt o.2.1 b c a d e f g i j k l o.1
       else
        j0 Nx Rt false b c a d e f g i j k l m
      else none
     else none
    else
     cond (decide (0 <= (0 : Int) /\ (0 : Int) < ((List.getD b (Int.toNat a) []).length : Int)) || !((((List.getD b (Int.toNat a) []).length : Int) == 3) == true)) (
      if (cond (((List.getD b (Int.toNat a) []).length : Int) == 3) ((List.getD (List.getD b (Int.toNat a) []) 0 0) == 2) false) = true then
       if 0 <= (1 : Int) /\ (1 : Int) <= ((List.getD b (Int.toNat a) []).length : Int) /\ ((List.getD b (Int.toNat a) []).length : Int) <= ((List.getD b (Int.toNat a) []).length : Int) then
        (basculeref_number.run (cutL (List.getD b (Int.toNat a) []) 1 ((List.getD b (Int.toNat a) []).length : Int))).bind fun q =>
        (basculeref_waits.run m q).bind fun p =>
        j0 Nx Rt (p.2.1 == 0) b c a d e f g i j k l p.1
       else none
      else
       j0 Nx Rt false b c a d e f g i j k l m) none) none
  else none
 else
  Xt0 d e f g i j k l m
theorem l0s_eq (k : Nat) (next : St -> Option α) (Q : Ex -> St -> Option α) (b : D21) (n a : Int) (c : D9) (d e f : D4) (g : Int) (i j : D4) (l : Int) (m : D8) :
  rnd C k cd0 27 Q next (St2 b n a c d e f g i j l m) = l0s (fun b n a c d e f g i j l m => next (St2 b n a c d e f g i j l m)) (fun r s => Q .ret (St1 r s)) (fun c d e f g i j l m => Q (.exit 0) (St4 c d e f g i j l m)) b n a c d e f g i j l m := by
 have h : ∀ (D L : DT α), denJ D L Js C cd0 (lq C 27 next Q) (St2 b n a c d e f g i j l m) =
    if (decide (a < n)) = true then
     if 0 <= a /\ a < (b.length : Int) then
      cond (decide (0 <= (0 : Int) /\ (0 : Int) < ((List.getD b (Int.toNat a) []).length : Int)) || !((decide (((List.getD b (Int.toNat a) []).length : Int) > 0)) == true)) (
       if (cond (decide (((List.getD b (Int.toNat a) []).length : Int) > 0)) ((List.getD (List.getD b (Int.toNat a) []) 0 0) == 1) false) = true then
        if 0 <= (1 : Int) /\ (1 : Int) <= ((List.getD b (Int.toNat a) []).length : Int) /\ ((List.getD b (Int.toNat a) []).length : Int) <= ((List.getD b (Int.toNat a) []).length : Int) then
         if Nat.ble (6 + (cutL (List.getD b (Int.toNat a) []) 1 ((List.getD b (Int.toNat a) []).length : Int)).length) 9223372036854775807 = true then
          (basculeref_PaperOf.run ([1, 0, 0, 0, 0, 0] ++ (cutL (List.getD b (Int.toNat a) []) 1 ((List.getD b (Int.toNat a) []).length : Int)))).bind fun o =>
          if (o.2.1 == 0) = true then
           (basculeref_meets.run m o.1.2.2.1).bind fun p =>
           D cd2 (blkQ C 1 (sq D L Js C cd1 (lq C 27 next Q))) (St3 p.2.1 b n a c d e f g i j l p.1)
          else
           D cd2 (blkQ C 1 (sq D L Js C cd1 (lq C 27 next Q))) (St3 false b n a c d e f g i j l m)
         else none
        else none
       else
        cond (decide (0 <= (0 : Int) /\ (0 : Int) < ((List.getD b (Int.toNat a) []).length : Int)) || !((((List.getD b (Int.toNat a) []).length : Int) == 3) == true)) (
         if (cond (((List.getD b (Int.toNat a) []).length : Int) == 3) ((List.getD (List.getD b (Int.toNat a) []) 0 0) == 2) false) = true then
          if 0 <= (1 : Int) /\ (1 : Int) <= ((List.getD b (Int.toNat a) []).length : Int) /\ ((List.getD b (Int.toNat a) []).length : Int) <= ((List.getD b (Int.toNat a) []).length : Int) then
           (basculeref_number.run (cutL (List.getD b (Int.toNat a) []) 1 ((List.getD b (Int.toNat a) []).length : Int))).bind fun t =>
           (basculeref_waits.run m t).bind fun q =>
           D cd2 (blkQ C 1 (sq D L Js C cd1 (lq C 27 next Q))) (St3 (q.2.1 == 0) b n a c d e f g i j l q.1)
          else none
         else
          D cd2 (blkQ C 1 (sq D L Js C cd1 (lq C 27 next Q))) (St3 false b n a c d e f g i j l m)) none) none
     else none
    else
     Q (.exit 0) (St4 c d e f g i j l m) := by
  intro D L; kernel_rfl
 have h2 := via (k := k) h
 refine h2.trans ?_
 simp only [j0_eq]
 first | rfl | kernel_rfl
def l0 (k : Nat) (Rt : Int -> D8 -> Option α) (Xt0 : D9 -> D4 -> D4 -> D4 -> Int -> D4 -> D4 -> Int -> D8 -> Option α) : Nat -> D21 -> Int -> Int -> D9 -> D4 -> D4 -> D4 -> Int -> D4 -> D4 -> Int -> D8 -> Option α
 | 0, _, _, _, _, _, _, _, _, _, _, _, _ => none
 | n + 1, a, b, c, d, e, f, g, i, j, l, m, o => l0s (l0 k Rt Xt0 n) Rt Xt0 a b c d e f g i j l m o
theorem l0_eq (k : Nat) (Q : Ex -> St -> Option α) : ∀ (n : Nat) (l : D21) (m o : Int) (a : D9) (b c d : D4) (e : Int) (f g : D4) (i : Int) (j : D8), iter (rnd C k cd0 27 Q) n (St2 l m o a b c d e f g i j) = l0 k (fun p q => Q .ret (St1 p q)) (fun a b c d e f g i j => Q (.exit 0) (St4 a b c d e f g i j)) n l m o a b c d e f g i j
 | 0, _, _, _, _, _, _, _, _, _, _, _, _ => rfl
 | n + 1, l, m, o, a, b, c, d, e, f, g, i, j => (iter_succ _ _ _).trans ((l0s_eq k _ Q l m o a b c d e f g i j).trans (congrArg (fun N => l0s N (fun p q => Q .ret (St1 p q)) (fun a b c d e f g i j => Q (.exit 0) (St4 a b c d e f g i j)) l m o a b c d e f g i j) (by funext; exact l0_eq k Q n _ _ _ _ _ _ _ _ _ _ _ _)))
theorem l0_congr (k : Nat) (Rt : Int -> D8 -> Option α) (Xt0 : D9 -> D4 -> D4 -> D4 -> Int -> D4 -> D4 -> Int -> D8 -> Option α) (Rtq : Int -> D8 -> Option α) (Xt0q : D9 -> D4 -> D4 -> D4 -> Int -> D4 -> D4 -> Int -> D8 -> Option α) (hRt : ∀ (l : Int) (m : D8), Rt l m = Rtq l m) (hXt0 : ∀ (a : D9) (b c d : D4) (e : Int) (f g : D4) (i : Int) (j : D8), Xt0 a b c d e f g i j = Xt0q a b c d e f g i j) (n : Nat) (o : D21) (p q : Int) (a : D9) (b c d : D4) (e : Int) (f g : D4) (i : Int) (j : D8) : l0 k Rt Xt0 n o p q a b c d e f g i j = l0 k Rtq Xt0q n o p q a b c d e f g i j := by
 obtain rfl : Rt = Rtq := by funext l; funext m; exact hRt l m
 obtain rfl : Xt0 = Xt0q := by funext a; funext b; funext c; funext d; funext e; funext f; funext g; funext i; funext j; exact hXt0 a b c d e f g i j
 rfl
noncomputable def cd3 : Code := cR (cR (cR (cR (cR (cR (cR (cB Try.f19)))))))
def St5 (a : D9) (b c d : D4) (e : Int) (f g : D4) (i : Int) (j : D8) : St := stL 106 [(5, .ref 5 0 []), (6, .ref 6 0 []), (8, .ref 8 0 [])] [(5, .cell T21 (.data T21 a) false), (6, .cell T22 (.agg T22 [.data T23 b, .agg T7 [.data T5 c, .data T5 d, .data T1 e, .full T8 [], .full T8 []], .agg T7 [.data T5 f, .data T5 g, .data T1 i, .full T8 [], .full T8 []], .agg T21 [.full T18 [], .full T18 []], .full T2 [], .full T2 []]) false), (8, .cell T22 (.data T22 j) false)]
def j1 (Rt : Int -> D8 -> Option α) (b : D9) (c d e : D4) (f : Int) (g i : D4) (j : Int) (a : D8) : Option α :=
 Rt 0 (a.1, a.2.1, a.2.2.1, b, a.2.2.2.2)
theorem j1_eq (k : Nat) (Q : Ex -> St -> Option α) (a : D9) (b c d : D4) (e : Int) (f g : D4) (i : Int) (j : D8) :
  (den C k) cd3 Q (St5 a b c d e f g i j) = j1 (fun l m => Q .ret (St1 l m)) a b c d e f g i j := plainly Js (by kernel_rfl)
theorem a0 (k : Nat) (Q : Ex -> St -> Option α) (o : D21) (p q : Int) (a : D9) (c d e : D4) (f : Int) (g i : D4) (j : Int) (l : D8) :
  (lp C k) cd0 (blkQ C 0 (sq (den C k) (lp C k) Js C cd3 Q)) (St2 o p q a c d e f g i j l) = l0 k (fun m n => (fun m n => Q .ret (St1 m n)) m n) (fun a c d e f g i j l => j1 (fun m n => Q .ret (St1 m n)) a c d e f g i j l) k o p q a c d e f g i j l :=
 (lp_iter 27 (by kernel_rfl)).trans ((l0_eq k _ k o p q a c d e f g i j l).trans (l0_congr k _ _ _ _ (fun m n => (by kernel_rfl)) (fun a c d e f g i j l => (Eq.trans (b := (den C k) cd3 Q (St5 a c d e f g i j l)) (by kernel_rfl) (by simp only [j1_eq]))) k o p q a c d e f g i j l))
def top (k : Nat) (Rt : Int -> D8 -> Option α) (d : D4) (e : D1) (f : D9) : Option α :=
 (basculeref_GuardBegun.run d e).bind fun b =>
 if (b.2.1 != 0) = true then
  Rt b.2.1 ([0, 0, 0, 0], ([0, 0, 0], [0, 0, 0], 0, [], [], ()), ([0, 0, 0], [0, 0, 0], 0, [], [], ()), ([], [], ()), [], [], ())
 else
  (basculeref_LogMended.run f).bind fun a =>
  if (a.2.1 != 0) = true then
   Rt a.2.1 ([0, 0, 0, 0], ([0, 0, 0], [0, 0, 0], 0, [], [], ()), ([0, 0, 0], [0, 0, 0], 0, [], [], ()), ([], [], ()), [], [], ())
  else
   (basculeref_LogRecords.run a.1).bind fun c =>
   l0 k (fun g i => Rt g i) (fun j l m n o p q r s => j1 Rt j l m n o p q r s) k c.1 (c.1.length : Int) 0 a.1 [0, 0, 0, 0] [0, 0, 0] [0, 0, 0] 0 [0, 0, 0] [0, 0, 0] 0 b.1
theorem top_eq (k : Nat) (Q : Ex -> St -> Option α) (a : D4) (b : D1) (c : D9) :
  (den C k) (cB Try.f19) Q (St0 a b c) = top k (fun g i => Q .ret (St1 g i)) a b c := by
 have h : ∀ (D L : DT α), denJ D L Js C (cB Try.f19) Q (St0 a b c) =
    (basculeref_GuardBegun.run a b).bind fun e =>
    if (e.2.1 != 0) = true then
     Q .ret (St1 e.2.1 ([0, 0, 0, 0], ([0, 0, 0], [0, 0, 0], 0, [], [], ()), ([0, 0, 0], [0, 0, 0], 0, [], [], ()), ([], [], ()), [], [], ()))
    else
     (basculeref_LogMended.run c).bind fun d =>
     if (d.2.1 != 0) = true then
      Q .ret (St1 d.2.1 ([0, 0, 0, 0], ([0, 0, 0], [0, 0, 0], 0, [], [], ()), ([0, 0, 0], [0, 0, 0], 0, [], [], ()), ([], [], ()), [], [], ()))
     else
      (basculeref_LogRecords.run d.1).bind fun f =>
      L cd0 (blkQ C 0 (sq D L Js C cd3 Q)) (St2 f.1 (f.1.length : Int) 0 d.1 [0, 0, 0, 0] [0, 0, 0] [0, 0, 0] 0 [0, 0, 0] [0, 0, 0] 0 e.1) := by
  intro D L; kernel_rfl
 have h2 := via (k := k) h
 refine h2.trans ?_
 simp only [a0]
 first | rfl | kernel_rfl
def run (a : D4) (b : D1) (c : D9) : Option D11 := top (α := D8 × Int × Unit) fuel (fun d e => some (e, d, ())) a b c
def F : Fn := ⟨T142, T30, true, fun x => run x.1 x.2.1 x.2.2.1⟩
theorem con : Con Try.prog 19 F /\ Named Try.prog 19 :=
 con_of2 (C := C) (ctx_ok (by kernel_rfl) (by kernel_rfl) (by kernel_rfl) (by kernel_rfl) ⟨.inl basculeref_waits.con, ⟨.inl basculeref_meets.con, ⟨.inl basculeref_GuardBegun.con, ⟨.inl basculeref_LogMended.con, ⟨.inl basculeref_LogRecords.con, ⟨.inl basculeref_PaperOf.con, ⟨.inl basculeref_number.con, trivial⟩⟩⟩⟩⟩⟩⟩) (by kernel_rfl) Try.func19 (by kernel_rfl) (c := cB Try.f19) (by kernel_rfl) (by kernel_rfl) F (fun x => by simp [F, spread, Try.ntmps19]) (fun x => (St0 x.1 x.2.1 x.2.2.1)) (fun x => by kernel_rfl) fun x => (top_eq fuel _ x.1 x.2.1 x.2.2.1).trans (by kernel_rfl)
end Go.Bx.basculeref_GuardAgain
namespace Go.Bx.basculelaw_GuardAgains
def Js : List Nat := []
def C : Ctx := ⟨[(4, .bool), (24, T23), (28, T7), (31, T21), (34, T22)], [], [], fnL [(11, basculelaw_sameGuard.F), (18, guard_Again.F), (19, basculeref_GuardAgain.F)], noSh, [], invL [], [(2, [6])], [], [], 0, 0⟩
def St0 (a : D4) (b : D1) (c : D9) : St := stL 33 [(0, .data T23 a), (1, .data T7 b), (2, .data T21 c)] []
def St1 (a : Bool) : St := stL 33 [(6, .data .bool a)] []
def top (Rt : Bool -> Option α) (a : D4) (b : D1) (c : D9) : Option α :=
 (guard_Again.run a b c).bind fun d =>
 (basculeref_GuardAgain.run a b c).bind fun e =>
 (basculelaw_sameGuard.run d.1 e.1).bind fun f =>
 Rt (cond f (d.2.1 == e.2.1) false)
theorem top_eq (k : Nat) (Q : Ex -> St -> Option α) (a : D4) (b : D1) (c : D9) :
  (den C k) (cB Try.f7) Q (St0 a b c) = top (fun d => Q .ret (St1 d)) a b c := plainly Js (by kernel_rfl)
def run (a : D4) (b : D1) (c : D9) : Option (Bool) := top (α := Bool) (fun d => some d) a b c
def F : Fn := ⟨T142, .bool, false, fun x => run x.1 x.2.1 x.2.2.1⟩
theorem con : Con Try.prog 7 F /\ Named Try.prog 7 :=
 con_of2 (C := C) (ctx_ok (by kernel_rfl) (by kernel_rfl) (by kernel_rfl) (by kernel_rfl) ⟨.inl basculelaw_sameGuard.con, ⟨.inl guard_Again.con, ⟨.inl basculeref_GuardAgain.con, trivial⟩⟩⟩) (by kernel_rfl) Try.func7 (by kernel_rfl) (c := cB Try.f7) (by kernel_rfl) (by kernel_rfl) F (fun x => by simp [F, spread, Try.ntmps7]) (fun x => (St0 x.1 x.2.1 x.2.2.1)) (fun x => by kernel_rfl) fun x => (top_eq fuel _ x.1 x.2.1 x.2.2.1).trans (by kernel_rfl)
end Go.Bx.basculelaw_GuardAgains
