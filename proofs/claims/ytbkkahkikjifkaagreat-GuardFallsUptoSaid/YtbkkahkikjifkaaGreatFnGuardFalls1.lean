/- Go functions of this seat in their own words of Lean, each tied to its code by a contract. -/
import Derived.Test.YtbkkahkikjifkaaGreatGBase
import Derived.Test.YtbkkahkikjifkaaGreatFnGuardFalls0
open Go Go.Proofs Go.Bx
set_option maxRecDepth 100000
set_option linter.unusedVariables false
variable {α : Type}
namespace Go.Bx.gate_Tick
def Js : List Nat:=[15,16,27,28]
def C : Ctx:=⟨[(3,T1),(26,T20),(28,T21),(38,T1),(93,T66),(112,T22)],[],[],fnL [(57,gate_Check.F),(75,gate_fits.F)],noSh,[],invL [],[(2,[4,5,6]),(7,[2,4,12]),(10,[2,4,12,65,66,67]),(13,[2,4,12,65,66,67]),(1,[2,4,9]),(4,[2,4,9,46,47,48]),(30,[2,4,9,46,47,48]),(42,[2,4,9,46,47,48]),(45,[2,4,9]),(51,[2,4,12,65,66,67]),(78,[2,4,12,65,66,67]),(81,[2,4,12])],[(2,[.dat true 5 [],.dat false 4 [3],.dat false 4 [4]]),(30,[.melt false 2 [3] 62 true]),(51,[.melt true 12 [] 88 true,.melt false 2 [4] 75 true]),(78,[.melt false 2 [4] 75 true])],[],0,0⟩
def St0 (a : D8) (b : Int) : St:=stL 110 [(0,.data T21 a),(1,.data T1 b)] []
def St1 (a : D1) (b : Int) (c : D8) : St:=stL 110 [(4,.ref 4 0 []),(5,.data T66 a),(6,.data T1 b)] [(4,.cell T21 (.data T21 c) false)]
def St2 (a b : D9) (c d : Int) (e f : D1) (g : Int) (i j : D1) (k : Int) (l : D9) : St:=stL 110 [(2,.ref 2 0 []),(4,.ref 4 0 []),(9,.data T20 a),(46,.data T20 b),(47,.data T1 c),(48,.data T1 d)] [(2,.cell T21 (.agg T21 [.data T19 e,.data T19 f,.data T1 g,.app 62 0,.full T22 []]) false),(4,.cell T21 (.agg T21 [.data T19 i,.data T19 j,.data T1 k,.full T22 [],.full T22 []]) false),(62,.buf T22 l 0 true)]
noncomputable def cd0 : Code:=cL (cL (cR (cL (cR (cR (cR (cR (cR (cR (cB Tryz.f58))))))))))
def St3 (a b : D9) (c d : Int) (e f : D1) (g : Int) (i j : D1) (k : Int) (l : D9) : St:=stL 110 [(2,.ref 2 0 []),(4,.ref 4 0 []),(9,.data T20 a),(46,.data T20 b),(47,.data T1 c),(48,.data T1 d)] [(2,.cell T21 (.agg T21 [.data T19 e,.data T19 f,.data T1 g,.app 62 0,.full T22 []]) false),(4,.cell T21 (.agg T21 [.data T19 i,.data T19 j,.data T1 k,.full T22 [],.full T22 []]) false),(62,.buf T22 l 0 true)]
noncomputable def cd1 : Code:=cR (cR (cR (cL (cL (cR (cL (cR (cR (cR (cR (cR (cR (cB Tryz.f58)))))))))))))
def j0 (Nx : D9->D9->Int->Int->D1->D1->Int->D1->D1->Int->D9->Option α) (a b : D9) (c d : Int) (e f : D1) (g : Int) (i j : D1) (k : Int) (l : D9) : Option α :=
 Nx a b c (IntKind.i64.wrap (d + 1)) e f g i j k l
theorem j0_eq (k : Nat) (next : St->Option α) (Q : Ex->St->Option α) (a b : D9) (c d : Int) (e f : D1) (g : Int) (i j : D1) (l : Int) (m : D9) :
  (den C k) cd1 (lq C 30 next Q) (St3 a b c d e f g i j l m) = j0 (fun a b c d e f g i j l m=>next (St2 a b c d e f g i j l m)) a b c d e f g i j l m:=plainly Js (by kernel_rfl)
def St4 (a : D9) (b c : D1) (d : Int) (e f : D1) (g : Int) (i : D9) : St:=stL 110 [(2,.ref 2 0 []),(4,.ref 4 0 []),(9,.data T20 a)] [(2,.cell T21 (.agg T21 [.data T19 b,.data T19 c,.data T1 d,.app 62 0,.full T22 []]) false),(4,.cell T21 (.agg T21 [.data T19 e,.data T19 f,.data T1 g,.full T22 [],.full T22 []]) false),(62,.buf T22 i 0 true)]
def l0s (Nx : D9->D9->Int->Int->D1->D1->Int->D1->D1->Int->D9->Option α) (Xt0 : D9->D1->D1->Int->D1->D1->Int->D9->Option α) (e b : D9) (f a : Int) (g i : D1) (c : Int) (j k : D1) (l : Int) (d : D9) : Option α :=
 if (decide (a < f)) = true then
  if 0 <= a /\ a < (b.length : Int) then
   if (decide ((IntKind.i64.wrap (c - (List.getD b (Int.toNat a) (0,0,0,0,())).2.2.2.1)) < 24)) = true then
    if fitB (d.length + 1) 32 = true then
     j0 Nx e b f a g i c j k l (d ++ [(List.getD b (Int.toNat a) (0,0,0,0,()))])
    else none
   else
    j0 Nx e b f a g i c j k l d
  else none
 else
  Xt0 e g i c j k l d
theorem l0s_eq (k : Nat) (next : St->Option α) (Q : Ex->St->Option α) (d e : D9) (m a : Int) (f g : D1) (b : Int) (i j : D1) (l : Int) (c : D9) :
  rnd C k cd0 30 Q next (St2 d e m a f g b i j l c) = l0s (fun d e m a f g b i j l c=>next (St2 d e m a f g b i j l c)) (fun d f g b i j l c=>Q (.exit 0) (St4 d f g b i j l c)) d e m a f g b i j l c:=by
 have h : ∀ (D L : DT α),denJ D L Js C cd0 (lq C 30 next Q) (St2 d e m a f g b i j l c) =
    if (decide (a < m)) = true then
     if 0 <= a /\ a < (e.length : Int) then
      if (decide ((IntKind.i64.wrap (b - (List.getD e (Int.toNat a) (0,0,0,0,())).2.2.2.1)) < 24)) = true then
       if fitB (c.length + 1) 32 = true then
        D cd1 (lq C 30 next Q) (St3 d e m a f g b i j l (c ++ [(List.getD e (Int.toNat a) (0,0,0,0,()))]))
       else none
      else
       D cd1 (lq C 30 next Q) (St3 d e m a f g b i j l c)
     else none
    else
     Q (.exit 0) (St4 d f g b i j l c):=by
  intro D L; kernel_rfl
 have h2:=via (k:=k) h
 refine h2.trans ?_
 simp only [j0_eq]
 first | rfl | kernel_rfl
def l0 (k : Nat) (Xt0 : D9->D1->D1->Int->D1->D1->Int->D9->Option α) : Nat->D9->D9->Int->Int->D1->D1->Int->D1->D1->Int->D9->Option α
 | 0,_,_,_,_,_,_,_,_,_,_,_=>none
 | n + 1,a,b,c,d,e,f,g,i,j,l,m=>l0s (l0 k Xt0 n) Xt0 a b c d e f g i j l m
theorem l0_eq (k : Nat) (Q : Ex->St->Option α) : ∀ (n : Nat) (a j : D9) (l m : Int) (b c : D1) (d : Int) (e f : D1) (g : Int) (i : D9),iter (rnd C k cd0 30 Q) n (St2 a j l m b c d e f g i) = l0 k (fun a b c d e f g i=>Q (.exit 0) (St4 a b c d e f g i)) n a j l m b c d e f g i
 | 0,_,_,_,_,_,_,_,_,_,_,_=>rfl
 | n + 1,a,j,l,m,b,c,d,e,f,g,i=>(iter_succ _ _ _).trans ((l0s_eq k _ Q a j l m b c d e f g i).trans (congrArg (fun N=>l0s N (fun a b c d e f g i=>Q (.exit 0) (St4 a b c d e f g i)) a j l m b c d e f g i) (by funext; exact l0_eq k Q n _ _ _ _ _ _ _ _ _ _ _)))
noncomputable def cd2 : Code:=cR (cR (cR (cR (cR (cR (cR (cB Tryz.f58)))))))
def St5 (a : D9) (b c : D1) (d : Int) (e f : D1) (g : Int) (i : D9) : St:=stL 110 [(2,.ref 2 0 []),(4,.ref 4 0 []),(9,.data T20 a)] [(2,.cell T21 (.agg T21 [.data T19 b,.data T19 c,.data T1 d,.app 62 0,.full T22 []]) false),(4,.cell T21 (.agg T21 [.data T19 e,.data T19 f,.data T1 g,.full T22 [],.full T22 []]) false),(62,.buf T22 i 0 true)]
def St6 (a : D9) (b c : Int) (d e : D1) (f : Int) (g i : D1) (j : Int) (k l : D9) (m : D1) : St:=stL 110 [(2,.ref 2 0 []),(4,.ref 4 0 []),(12,.app 88 0),(65,.data T20 a),(66,.data T1 b),(67,.data T1 c)] [(2,.cell T21 (.agg T21 [.data T19 d,.data T19 e,.data T1 f,.app 62 0,.app 75 0]) false),(4,.cell T21 (.agg T21 [.data T19 g,.data T19 i,.data T1 j,.full T22 [],.full T22 []]) false),(62,.buf T22 k 0 true),(75,.buf T22 l 0 true),(88,.buf T1 m 0 true)]
noncomputable def cd3 : Code:=cL (cL (cR (cL (cR (cR (cR (cR (cR (cR (cR (cR (cB Tryz.f58))))))))))))
def St7 (a : D9) (b c : Int) (d e : D1) (f : Int) (g i : D1) (j : Int) (k l : D9) (m : D1) : St:=stL 110 [(2,.ref 2 0 []),(4,.ref 4 0 []),(12,.app 88 0),(65,.data T20 a),(66,.data T1 b),(67,.data T1 c)] [(2,.cell T21 (.agg T21 [.data T19 d,.data T19 e,.data T1 f,.app 62 0,.app 75 0]) false),(4,.cell T21 (.agg T21 [.data T19 g,.data T19 i,.data T1 j,.full T22 [],.full T22 []]) false),(62,.buf T22 k 0 true),(75,.buf T22 l 0 true),(88,.buf T1 m 0 true)]
noncomputable def cd4 : Code:=cR (cR (cR (cL (cL (cR (cL (cR (cR (cR (cR (cR (cR (cR (cR (cB Tryz.f58)))))))))))))))
def j2 (Nx : D9->Int->Int->D1->D1->Int->D1->D1->Int->D9->D9->D1->Option α) (a : D9) (b c : Int) (d e : D1) (f : Int) (g i : D1) (j : Int) (k l : D9) (m : D1) : Option α :=
 Nx a b (IntKind.i64.wrap (c + 1)) d e f g i j k l m
theorem j2_eq (k : Nat) (next : St->Option α) (Q : Ex->St->Option α) (a : D9) (b c : Int) (d e : D1) (f : Int) (g i : D1) (j : Int) (l m : D9) (n : D1) :
  (den C k) cd4 (lq C 51 next Q) (St7 a b c d e f g i j l m n) = j2 (fun a b c d e f g i j l m n=>next (St6 a b c d e f g i j l m n)) a b c d e f g i j l m n:=plainly Js (by kernel_rfl)
def St8 (a b : D1) (c : Int) (d e : D1) (f : Int) (g i : D9) (j : D1) : St:=stL 110 [(2,.ref 2 0 []),(4,.ref 4 0 []),(12,.app 88 0)] [(2,.cell T21 (.agg T21 [.data T19 a,.data T19 b,.data T1 c,.app 62 0,.app 75 0]) false),(4,.cell T21 (.agg T21 [.data T19 d,.data T19 e,.data T1 f,.full T22 [],.full T22 []]) false),(62,.buf T22 g 0 true),(75,.buf T22 i 0 true),(88,.buf T1 j 0 true)]
def l1s (Nx : D9->Int->Int->D1->D1->Int->D1->D1->Int->D9->D9->D1->Option α) (Xt2 : D1->D1->Int->D1->D1->Int->D9->D9->D1->Option α) (b : D9) (j a : Int) (g i : D1) (c : Int) (k l : D1) (m : Int) (d e : D9) (f : D1) : Option α :=
 if (decide (a < j)) = true then
  if 0 <= a /\ a < (b.length : Int) then
   if (decide ((IntKind.i64.wrap (c - (List.getD b (Int.toNat a) (0,0,0,0,())).2.2.2.1)) >= 24)) = true then
    if fitB (f.length + 1) 8 = true then
     j2 Nx b j a g i c k l m d e (f ++ [(List.getD b (Int.toNat a) (0,0,0,0,())).1])
    else none
   else
    (gate_fits.run (g,i,c,d,e,()) (List.getD b (Int.toNat a) (0,0,0,0,()))).bind fun n =>
    if n = true then
     if fitB (d.length + 1) 32 = true then
      if fitB (f.length + 1) 8 = true then
       j2 Nx b j a g i c k l m (d ++ [((List.getD b (Int.toNat a) (0,0,0,0,())).1,(List.getD b (Int.toNat a) (0,0,0,0,())).2.1,(List.getD b (Int.toNat a) (0,0,0,0,())).2.2.1,c,(List.getD b (Int.toNat a) (0,0,0,0,())).2.2.2.2)]) e (f ++ [(List.getD b (Int.toNat a) (0,0,0,0,())).1])
      else none
     else none
    else
     if fitB (e.length + 1) 32 = true then
      j2 Nx b j a g i c k l m d (e ++ [(List.getD b (Int.toNat a) (0,0,0,0,()))]) f
     else none
  else none
 else
  Xt2 g i c k l m d e f
theorem l1s_eq (k : Nat) (next : St->Option α) (Q : Ex->St->Option α) (b : D9) (n a : Int) (g i : D1) (c : Int) (j l : D1) (m : Int) (d e : D9) (f : D1) :
  rnd C k cd3 51 Q next (St6 b n a g i c j l m d e f) = l1s (fun b n a g i c j l m d e f=>next (St6 b n a g i c j l m d e f)) (fun g i c j l m d e f=>Q (.exit 2) (St8 g i c j l m d e f)) b n a g i c j l m d e f:=by
 have h : ∀ (D L : DT α),denJ D L Js C cd3 (lq C 51 next Q) (St6 b n a g i c j l m d e f) =
    if (decide (a < n)) = true then
     if 0 <= a /\ a < (b.length : Int) then
      if (decide ((IntKind.i64.wrap (c - (List.getD b (Int.toNat a) (0,0,0,0,())).2.2.2.1)) >= 24)) = true then
       if fitB (f.length + 1) 8 = true then
        D cd4 (lq C 51 next Q) (St7 b n a g i c j l m d e (f ++ [(List.getD b (Int.toNat a) (0,0,0,0,())).1]))
       else none
      else
       (gate_fits.run (g,i,c,d,e,()) (List.getD b (Int.toNat a) (0,0,0,0,()))).bind fun o =>
       if o = true then
        if fitB (d.length + 1) 32 = true then
         if fitB (f.length + 1) 8 = true then
          D cd4 (lq C 51 next Q) (St7 b n a g i c j l m (d ++ [((List.getD b (Int.toNat a) (0,0,0,0,())).1,(List.getD b (Int.toNat a) (0,0,0,0,())).2.1,(List.getD b (Int.toNat a) (0,0,0,0,())).2.2.1,c,(List.getD b (Int.toNat a) (0,0,0,0,())).2.2.2.2)]) e (f ++ [(List.getD b (Int.toNat a) (0,0,0,0,())).1]))
         else none
        else none
       else
        if fitB (e.length + 1) 32 = true then
         D cd4 (lq C 51 next Q) (St7 b n a g i c j l m d (e ++ [(List.getD b (Int.toNat a) (0,0,0,0,()))]) f)
        else none
     else none
    else
     Q (.exit 2) (St8 g i c j l m d e f):=by
  intro D L; kernel_rfl
 have h2:=via (k:=k) h
 refine h2.trans ?_
 simp only [j2_eq]
 first | rfl | kernel_rfl
def l1 (k : Nat) (Xt2 : D1->D1->Int->D1->D1->Int->D9->D9->D1->Option α) : Nat->D9->Int->Int->D1->D1->Int->D1->D1->Int->D9->D9->D1->Option α
 | 0,_,_,_,_,_,_,_,_,_,_,_,_=>none
 | n + 1,a,b,c,d,e,f,g,i,j,l,m,o=>l1s (l1 k Xt2 n) Xt2 a b c d e f g i j l m o
theorem l1_eq (k : Nat) (Q : Ex->St->Option α) : ∀ (n : Nat) (l : D9) (m o : Int) (a b : D1) (c : Int) (d e : D1) (f : Int) (g i : D9) (j : D1),iter (rnd C k cd3 51 Q) n (St6 l m o a b c d e f g i j) = l1 k (fun a b c d e f g i j=>Q (.exit 2) (St8 a b c d e f g i j)) n l m o a b c d e f g i j
 | 0,_,_,_,_,_,_,_,_,_,_,_,_=>rfl
 | n + 1,l,m,o,a,b,c,d,e,f,g,i,j=>(iter_succ _ _ _).trans ((l1s_eq k _ Q l m o a b c d e f g i j).trans (congrArg (fun N=>l1s N (fun a b c d e f g i j=>Q (.exit 2) (St8 a b c d e f g i j)) l m o a b c d e f g i j) (by funext; exact l1_eq k Q n _ _ _ _ _ _ _ _ _ _ _ _)))
noncomputable def cd5 : Code:=cR (cR (cR (cR (cR (cR (cR (cR (cR (cB Tryz.f58)))))))))
def St9 (a b : D1) (c : Int) (d e : D1) (f : Int) (g i : D9) (j : D1) : St:=stL 110 [(2,.ref 2 0 []),(4,.ref 4 0 []),(12,.app 88 0)] [(2,.cell T21 (.agg T21 [.data T19 a,.data T19 b,.data T1 c,.app 62 0,.app 75 0]) false),(4,.cell T21 (.agg T21 [.data T19 d,.data T19 e,.data T1 f,.full T22 [],.full T22 []]) false),(62,.buf T22 g 0 true),(75,.buf T22 i 0 true),(88,.buf T1 j 0 true)]
def j3 (Rt : D1->Int->D8->Option α) (a b : D1) (c : Int) (g i : D1) (j : Int) (d e : D9) (f : D1) : Option α :=
 Rt f 0 (a,b,c,d,e,())
theorem j3_eq (k : Nat) (Q : Ex->St->Option α) (a b : D1) (c : Int) (d e : D1) (f : Int) (g i : D9) (j : D1) :
  (den C k) cd5 Q (St9 a b c d e f g i j) = j3 (fun l m n=>Q .ret (St1 l m n)) a b c d e f g i j:=plainly Js (by kernel_rfl)
theorem a0 (k : Nat) (Q : Ex->St->Option α) (m : D9) (n o : Int) (a c : D1) (d : Int) (e f : D1) (g : Int) (i j : D9) (l : D1) :
  (lp C k) cd3 (blkQ C 2 (sq (den C k) (lp C k) Js C cd5 Q)) (St6 m n o a c d e f g i j l) = l1 k (fun a c d e f g i j l=>j3 (fun p q r=>Q .ret (St1 p q r)) a c d e f g i j l) k m n o a c d e f g i j l :=
 (lp_iter 51 (by kernel_rfl)).trans ((l1_eq k _ k m n o a c d e f g i j l).trans (congrArg (fun X=>l1 k X k m n o a c d e f g i j l) (funext fun a=>funext fun c=>funext fun d=>funext fun e=>funext fun f=>funext fun g=>funext fun i=>funext fun j=>funext fun l=>(Eq.trans (b:=(den C k) cd5 Q (St9 a c d e f g i j l)) (by kernel_rfl) (by simp only [j3_eq])))))
def j1 (k : Nat) (Rt : D1->Int->D8->Option α) (i : D9) (a b : D1) (c : Int) (d e : D1) (f : Int) (g : D9) : Option α :=
 l1 k (fun a b c d e f g j l=>j3 Rt a b c d e f g j l) k i (i.length : Int) 0 a b c d e f g [] []
theorem j1_eq (k : Nat) (Q : Ex->St->Option α) (a : D9) (b c : D1) (d : Int) (e f : D1) (g : Int) (i : D9) :
  (den C k) cd2 Q (St5 a b c d e f g i) = j1 k (fun j l m=>Q .ret (St1 j l m)) a b c d e f g i:=by
 have h : ∀ (D L : DT α),denJ D L Js C cd2 Q (St5 a b c d e f g i) =
    L cd3 (blkQ C 2 (sq D L Js C cd5 Q)) (St6 a (a.length : Int) 0 b c d e f g i [] []):=by
  intro D L; kernel_rfl
 have h2:=via (k:=k) h
 refine h2.trans ?_
 simp only [a0]
 first | rfl | kernel_rfl
theorem a1 (k : Nat) (Q : Ex->St->Option α) (a l : D9) (m n : Int) (c d : D1) (e : Int) (f g : D1) (i : Int) (j : D9) :
  (lp C k) cd0 (blkQ C 0 (sq (den C k) (lp C k) Js C cd2 Q)) (St2 a l m n c d e f g i j) = l0 k (fun a c d e f g i j=>j1 k (fun o p q=>Q .ret (St1 o p q)) a c d e f g i j) k a l m n c d e f g i j :=
 (lp_iter 30 (by kernel_rfl)).trans ((l0_eq k _ k a l m n c d e f g i j).trans (congrArg (fun X=>l0 k X k a l m n c d e f g i j) (funext fun a=>funext fun c=>funext fun d=>funext fun e=>funext fun f=>funext fun g=>funext fun i=>funext fun j=>(Eq.trans (b:=(den C k) cd2 Q (St5 a c d e f g i j)) (by kernel_rfl) (by simp only [j1_eq])))))
def top (k : Nat) (Rt : D1->Int->D8->Option α) (a : D8) (b : Int) : Option α :=
 (gate_Check.run a).bind fun c =>
 if (c != 0) = true then
  Rt [] c ([0,0,0],[0,0,0],0,[],[],())
 else
  if (cond (cond (decide (b < 1)) true (decide (b > 1000))) true (decide ((IntKind.i64.wrap (a.2.2.1 + b)) > 1099511627776))) = true then
   Rt [] 6 ([0,0,0],[0,0,0],0,[],[],())
  else
   l0 k (fun d e f g i j l m=>j1 k Rt d e f g i j l m) k a.2.2.2.2.1 a.2.2.2.1 (a.2.2.2.1.length : Int) 0 a.1 a.2.1 (IntKind.i64.wrap (a.2.2.1 + b)) [0,0,0] [0,0,0] 0 []
theorem top_eq (k : Nat) (Q : Ex->St->Option α) (a : D8) (b : Int) :
  (den C k) (cB Tryz.f58) Q (St0 a b) = top k (fun d e f=>Q .ret (St1 d e f)) a b:=by
 have h : ∀ (D L : DT α),denJ D L Js C (cB Tryz.f58) Q (St0 a b) =
    (gate_Check.run a).bind fun c =>
    if (c != 0) = true then
     Q .ret (St1 [] c ([0,0,0],[0,0,0],0,[],[],()))
    else
     if (cond (cond (decide (b < 1)) true (decide (b > 1000))) true (decide ((IntKind.i64.wrap (a.2.2.1 + b)) > 1099511627776))) = true then
      Q .ret (St1 [] 6 ([0,0,0],[0,0,0],0,[],[],()))
     else
      L cd0 (blkQ C 0 (sq D L Js C cd2 Q)) (St2 a.2.2.2.2.1 a.2.2.2.1 (a.2.2.2.1.length : Int) 0 a.1 a.2.1 (IntKind.i64.wrap (a.2.2.1 + b)) [0,0,0] [0,0,0] 0 []):=by
  intro D L; kernel_rfl
 have h2:=via (k:=k) h
 refine h2.trans ?_
 simp only [a1]
 first | rfl | kernel_rfl
def run (a : D8) (b : Int) : Option D33:=top (α:=D8 × List Int × Int × Unit) fuel (fun c d e=>some (e,c,d,())) a b
def F : Fn:=⟨T24,T67,true,fun x=>run x.1 x.2.1⟩
theorem con : Con Tryz.prog 58 F /\ Named Tryz.prog 58 :=
 con_of2 (C:=C) (ctx_ok (by kernel_rfl) (by kernel_rfl) (by kernel_rfl) (by kernel_rfl) ⟨.inl gate_Check.con,⟨.inl gate_fits.con,trivial⟩⟩) (by kernel_rfl) Tryz.func58 (by kernel_rfl) (c:=cB Tryz.f58) (by kernel_rfl) (by kernel_rfl) F (fun x=>by simp [F,spread,Tryz.ntmps58]) (fun x=>(St0 x.1 x.2.1)) (fun x=>by kernel_rfl) fun x=>(top_eq fuel _ x.1 x.2.1).trans (by kernel_rfl)
end Go.Bx.gate_Tick
namespace Go.Bx.guard_passed_s2
def Js : List Nat:=[16,17]
def C : Ctx:=⟨[(3,T1),(28,T21),(32,T14),(34,T15),(37,T4),(93,T66)],[],[],fnL [(22,guard_Id.F),(58,gate_Tick.F)],noSh,[],invL [],[(2,[4,5]),(1,[2,4]),(4,[2,4,27,28,29]),(7,[2,4,27,28,29]),(10,[2,4,10,27,28,29,34,35,36]),(18,[2,4,27,28,29]),(27,[2,4,10,27,28,29,34,35,36]),(45,[2,4,27,28,29]),(48,[2,4])],[(2,[.tid [4,5],.name false 10 [4] 10305]),(7,[.tid [2,4,27,28,29],.name false 8 [4] 9105]),(18,[.tid [2,4,27,28,29],.name false 8 [4] 9105])],[61],6,0⟩
def St0 (a b c : D1) (d : Int) (e : D8) (f : Int) (g i : D9) (j k : D1) (l m : D7) : St:=stL 66 [(0,.agg T15 [.data T30 a,.agg T21 [.data T19 b,.data T19 c,.data T1 d,.app 0 0,.app 1 0],.data T21 e,.agg T11 [.app 2 0,.app 3 0],.app 4 0,.app 5 0]),(1,.data T1 f)] [(0,.buf T22 g 0 true),(1,.buf T22 i 0 true),(2,.buf T6 j 0 true),(3,.buf T6 k 0 true),(4,.buf T4 l 0 true),(5,.buf T4 m 0 true)]
def St1 (a : Int) (b c : D9) (d e : D1) (f g : D7) (i j k : D1) (l : Int) (m : D8) (n : D7) : St:=stL 66 [(4,.ref 10 0 []),(5,.data T1 a)] [(0,.buf T22 b 1 true),(1,.buf T22 c 1 true),(2,.buf T6 d 1 true),(3,.buf T6 e 1 true),(4,.buf T4 f 1 true),(5,.buf T4 g 1 true),(10,.cell T15 (.agg T15 [.data T30 i,.agg T21 [.data T19 j,.data T19 k,.data T1 l,.app 0 1,.app 1 1],.data T21 m,.agg T11 [.app 2 1,.app 3 1],.app 10311 0,.app 5 1]) false),(10311,.buf T4 n 0 true)]
def St2 (a : D1) (b c : Int) (d e : D9) (f g : D1) (i j : D7) (k l m : D1) (n : Int) (o : D8) (p q r : D1) (s : Int) (t u : D1) (v : Int) (w : D7) : St:=stL 66 [(2,.ref 8 0 []),(4,.ref 10 0 []),(27,.data T66 a),(28,.data T1 b),(29,.data T1 c)] [(0,.buf T22 d 1 true),(1,.buf T22 e 1 true),(2,.buf T6 f 1 true),(3,.buf T6 g 1 true),(4,.buf T4 i 1 true),(5,.buf T4 j 1 true),(8,.cell T15 (.agg T15 [.data T30 k,.agg T21 [.data T19 l,.data T19 m,.data T1 n,.app 0 1,.app 1 1],.data T21 o,.agg T11 [.app 2 1,.app 3 1],.app 9111 0,.app 5 1]) false),(10,.cell T15 (.agg T15 [.data T30 p,.agg T21 [.data T19 q,.data T19 r,.data T1 s,.full T22 [],.full T22 []],.agg T21 [.data T19 t,.data T19 u,.data T1 v,.full T22 [],.full T22 []],.agg T11 [.full T6 [],.full T6 []],.full T4 [],.full T4 []]) false),(9111,.buf T4 w 0 true)]
noncomputable def cd0 : Code:=cL (cL (cR (cL (cR (cR (cR (cR (cB Tryz.f31))))))))
def St3 (a : Int) (b : D1) (c d : Int) (e f : Int) (g i : D9) (j k : D1) (l m : D7) (n o p : D1) (q : Int) (r : D8) (s t u : D1) (v : Int) (w x : D1) (y : Int) (z : D7) : St:=stL 66 [(2,.ref 8 0 []),(4,.ref 10 0 []),(10,.data T1 a),(27,.data T66 b),(28,.data T1 c),(29,.data T1 d),(34,.app 9111 0),(35,.data T1 e),(36,.data T1 f)] [(0,.buf T22 g 1 true),(1,.buf T22 i 1 true),(2,.buf T6 j 1 true),(3,.buf T6 k 1 true),(4,.buf T4 l 1 true),(5,.buf T4 m 1 true),(8,.cell T15 (.agg T15 [.data T30 n,.agg T21 [.data T19 o,.data T19 p,.data T1 q,.app 0 1,.app 1 1],.data T21 r,.agg T11 [.app 2 1,.app 3 1],.app 9111 0,.app 5 1]) false),(10,.cell T15 (.agg T15 [.data T30 s,.agg T21 [.data T19 t,.data T19 u,.data T1 v,.full T22 [],.full T22 []],.agg T21 [.data T19 w,.data T19 x,.data T1 y,.full T22 [],.full T22 []],.agg T11 [.full T6 [],.full T6 []],.full T4 [],.full T4 []]) false),(9111,.buf T4 z 0 true)]
noncomputable def cd1 : Code:=cL (cL (cR (cR (cL (cL (cR (cR (cL (cL (cR (cL (cR (cR (cR (cR (cB Tryz.f31))))))))))))))))
def St4 (a : D1) (b c : Int) (d e : D9) (f g : D1) (i j : D7) (k l m : D1) (n : Int) (o : D8) (p q r : D1) (s : Int) (t u : D1) (v : Int) (w : D7) : St:=stL 66 [(2,.ref 8 0 []),(4,.ref 10 0 []),(27,.data T66 a),(28,.data T1 b),(29,.data T1 c)] [(0,.buf T22 d 1 true),(1,.buf T22 e 1 true),(2,.buf T6 f 1 true),(3,.buf T6 g 1 true),(4,.buf T4 i 1 true),(5,.buf T4 j 1 true),(8,.cell T15 (.agg T15 [.data T30 k,.agg T21 [.data T19 l,.data T19 m,.data T1 n,.app 0 1,.app 1 1],.data T21 o,.agg T11 [.app 2 1,.app 3 1],.app 9111 0,.app 5 1]) false),(10,.cell T15 (.agg T15 [.data T30 p,.agg T21 [.data T19 q,.data T19 r,.data T1 s,.full T22 [],.full T22 []],.agg T21 [.data T19 t,.data T19 u,.data T1 v,.full T22 [],.full T22 []],.agg T11 [.full T6 [],.full T6 []],.full T4 [],.full T4 []]) false),(9111,.buf T4 w 0 true)]
def l1s (Nx : Int->D1->Int->Int->Int->Int->D9->D9->D1->D1->D7->D7->D1->D1->D1->Int->D8->D1->D1->D1->Int->D1->D1->Int->D7->Option α) (Xt2 : D1->Int->Int->D9->D9->D1->D1->D7->D7->D1->D1->D1->Int->D8->D1->D1->D1->Int->D1->D1->Int->D7->Option α) (y : Int) (d : D1) (e f : Int) (z a : Int) (g i : D9) (j k : D1) (l c : D7) (m n o : D1) (p : Int) (q : D8) (r s t : D1) (u : Int) (v w : D1) (x : Int) (b : D7) : Option α :=
 if (decide (a < z)) = true then
  if 0 <= a /\ a < (b.length : Int) then
   (guard_Id.run (List.getD b (Int.toNat a) (0,0,0,(List.replicate 32 0),0,0,[],()))).bind fun A =>
   if (A == y) = true then
    if fitB (c.length + 1) 96 = true then
     if 0 <= (0 : Int) /\ (0 : Int) <= a /\ a <= (b.length : Int) /\ a = a then
      if 0 <= (IntKind.i64.wrap (a + 1)) /\ (IntKind.i64.wrap (a + 1)) <= (b.length : Int) /\ (b.length : Int) <= (b.length : Int) then
       if fitB ((cutL b 0 a).length + (cutL b (IntKind.i64.wrap (a + 1)) (b.length : Int)).length) 96 = true then
        Xt2 d e f g i j k l (c ++ [(List.getD b (Int.toNat a) (0,0,0,(List.replicate 32 0),0,0,[],()))]) m n o p q r s t u v w x ((cutL b 0 a) ++ (cutL b (IntKind.i64.wrap (a + 1)) (b.length : Int)))
       else none
      else none
     else none
    else none
   else
    Nx y d e f z (IntKind.i64.wrap (a + 1)) g i j k l c m n o p q r s t u v w x b
  else none
 else
  Xt2 d e f g i j k l c m n o p q r s t u v w x b
theorem l1s_eq (k : Nat) (next : St->Option α) (Q : Ex->St->Option α) (y : Int) (a : D1) (b c : Int) (z A : Int) (d e : D9) (f g : D1) (i j : D7) (l m n : D1) (o : Int) (p : D8) (q r s : D1) (t : Int) (u v : D1) (w : Int) (x : D7) :
  rnd C k cd1 27 Q next (St3 y a b c z A d e f g i j l m n o p q r s t u v w x) = l1s (fun y a b c z A d e f g i j l m n o p q r s t u v w x=>next (St3 y a b c z A d e f g i j l m n o p q r s t u v w x)) (fun a b c d e f g i j l m n o p q r s t u v w x=>Q (.exit 2) (St4 a b c d e f g i j l m n o p q r s t u v w x)) y a b c z A d e f g i j l m n o p q r s t u v w x:=plainly Js (by kernel_rfl)
def l1 (k : Nat) (Xt2 : D1->Int->Int->D9->D9->D1->D1->D7->D7->D1->D1->D1->Int->D8->D1->D1->D1->Int->D1->D1->Int->D7->Option α) : Nat->Int->D1->Int->Int->Int->Int->D9->D9->D1->D1->D7->D7->D1->D1->D1->Int->D8->D1->D1->D1->Int->D1->D1->Int->D7->Option α
 | 0,_,_,_,_,_,_,_,_,_,_,_,_,_,_,_,_,_,_,_,_,_,_,_,_,_=>none
 | n + 1,a,b,c,d,e,f,g,i,j,l,m,o,p,q,r,s,t,u,v,w,x,y,z,A,B=>l1s (l1 k Xt2 n) Xt2 a b c d e f g i j l m o p q r s t u v w x y z A B
theorem l1_eq (k : Nat) (Q : Ex->St->Option α) : ∀ (n : Nat) (z : Int) (a : D1) (b c : Int) (A B : Int) (d e : D9) (f g : D1) (i j : D7) (l m o : D1) (p : Int) (q : D8) (r s t : D1) (u : Int) (v w : D1) (x : Int) (y : D7),iter (rnd C k cd1 27 Q) n (St3 z a b c A B d e f g i j l m o p q r s t u v w x y) = l1 k (fun a b c d e f g i j l m o p q r s t u v w x y=>Q (.exit 2) (St4 a b c d e f g i j l m o p q r s t u v w x y)) n z a b c A B d e f g i j l m o p q r s t u v w x y
 | 0,_,_,_,_,_,_,_,_,_,_,_,_,_,_,_,_,_,_,_,_,_,_,_,_,_=>rfl
 | n + 1,z,a,b,c,A,B,d,e,f,g,i,j,l,m,o,p,q,r,s,t,u,v,w,x,y=>(iter_succ _ _ _).trans ((l1s_eq k _ Q z a b c A B d e f g i j l m o p q r s t u v w x y).trans (congrArg (fun N=>l1s N (fun a b c d e f g i j l m o p q r s t u v w x y=>Q (.exit 2) (St4 a b c d e f g i j l m o p q r s t u v w x y)) z a b c A B d e f g i j l m o p q r s t u v w x y) (by funext; exact l1_eq k Q n _ _ _ _ _ _ _ _ _ _ _ _ _ _ _ _ _ _ _ _ _ _ _ _ _)))
noncomputable def cd2 : Code:=cR (cR (cR (cL (cL (cR (cL (cR (cR (cR (cR (cB Tryz.f31)))))))))))
def St5 (a : D1) (b c : Int) (d e : D9) (f g : D1) (i j : D7) (k l m : D1) (n : Int) (o : D8) (p q r : D1) (s : Int) (t u : D1) (v : Int) (w : D7) : St:=stL 66 [(2,.ref 8 0 []),(4,.ref 10 0 []),(27,.data T66 a),(28,.data T1 b),(29,.data T1 c)] [(0,.buf T22 d 1 true),(1,.buf T22 e 1 true),(2,.buf T6 f 1 true),(3,.buf T6 g 1 true),(4,.buf T4 i 1 true),(5,.buf T4 j 1 true),(8,.cell T15 (.agg T15 [.data T30 k,.agg T21 [.data T19 l,.data T19 m,.data T1 n,.app 0 1,.app 1 1],.data T21 o,.agg T11 [.app 2 1,.app 3 1],.app 9111 0,.app 5 1]) false),(10,.cell T15 (.agg T15 [.data T30 p,.agg T21 [.data T19 q,.data T19 r,.data T1 s,.full T22 [],.full T22 []],.agg T21 [.data T19 t,.data T19 u,.data T1 v,.full T22 [],.full T22 []],.agg T11 [.full T6 [],.full T6 []],.full T4 [],.full T4 []]) false),(9111,.buf T4 w 0 true)]
def j0 (Nx : D1->Int->Int->D9->D9->D1->D1->D7->D7->D1->D1->D1->Int->D8->D1->D1->D1->Int->D1->D1->Int->D7->Option α) (a : D1) (b c : Int) (d e : D9) (f g : D1) (i j : D7) (k l m : D1) (n : Int) (o : D8) (p q r : D1) (s : Int) (t u : D1) (v : Int) (w : D7) : Option α :=
 Nx a b (IntKind.i64.wrap (c + 1)) d e f g i j k l m n o p q r s t u v w
theorem j0_eq (k : Nat) (next : St->Option α) (Q : Ex->St->Option α) (a : D1) (b c : Int) (d e : D9) (f g : D1) (i j : D7) (l m n : D1) (o : Int) (p : D8) (q r s : D1) (t : Int) (u v : D1) (w : Int) (x : D7) :
  (den C k) cd2 (lq C 18 next Q) (St5 a b c d e f g i j l m n o p q r s t u v w x) = j0 (fun a b c d e f g i j l m n o p q r s t u v w x=>next (St2 a b c d e f g i j l m n o p q r s t u v w x)) a b c d e f g i j l m n o p q r s t u v w x:=plainly Js (by kernel_rfl)
theorem a0 (k : Nat) (next : St->Option α) (Q : Ex->St->Option α) (z : Int) (a : D1) (c d : Int) (A B : Int) (e f : D9) (g i : D1) (j l : D7) (m n o : D1) (p : Int) (q : D8) (r s t : D1) (u : Int) (v w : D1) (x : Int) (y : D7) :
  (lp C k) cd1 (blkQ C 2 (blkQ C 1 (sq (den C k) (lp C k) Js C cd2 (lq C 18 next Q)))) (St3 z a c d A B e f g i j l m n o p q r s t u v w x y) = l1 k (fun a c d e f g i j l m n o p q r s t u v w x y=>j0 (fun a c d e f g i j l m n o p q r s t u v w x y=>next (St2 a c d e f g i j l m n o p q r s t u v w x y)) a c d e f g i j l m n o p q r s t u v w x y) k z a c d A B e f g i j l m n o p q r s t u v w x y :=
 (lp_iter 27 (by kernel_rfl)).trans ((l1_eq k _ k z a c d A B e f g i j l m n o p q r s t u v w x y).trans (congrArg (fun X=>l1 k X k z a c d A B e f g i j l m n o p q r s t u v w x y) (funext fun a=>funext fun c=>funext fun d=>funext fun e=>funext fun f=>funext fun g=>funext fun i=>funext fun j=>funext fun l=>funext fun m=>funext fun n=>funext fun o=>funext fun p=>funext fun q=>funext fun r=>funext fun s=>funext fun t=>funext fun u=>funext fun v=>funext fun w=>funext fun x=>funext fun y=>(Eq.trans (b:=(den C k) cd2 (lq C 18 next Q) (St5 a c d e f g i j l m n o p q r s t u v w x y)) (by kernel_rfl) (by simp only [j0_eq])))))
def St6 (a b : D9) (c d : D1) (e f : D7) (g i j : D1) (k : Int) (l : D8) (m n o : D1) (p : Int) (q r : D1) (s : Int) (t : D7) : St:=stL 66 [(2,.ref 8 0 []),(4,.ref 10 0 [])] [(0,.buf T22 a 1 true),(1,.buf T22 b 1 true),(2,.buf T6 c 1 true),(3,.buf T6 d 1 true),(4,.buf T4 e 1 true),(5,.buf T4 f 1 true),(8,.cell T15 (.agg T15 [.data T30 g,.agg T21 [.data T19 i,.data T19 j,.data T1 k,.app 0 1,.app 1 1],.data T21 l,.agg T11 [.app 2 1,.app 3 1],.app 9111 0,.app 5 1]) false),(10,.cell T15 (.agg T15 [.data T30 m,.agg T21 [.data T19 n,.data T19 o,.data T1 p,.full T22 [],.full T22 []],.agg T21 [.data T19 q,.data T19 r,.data T1 s,.full T22 [],.full T22 []],.agg T11 [.full T6 [],.full T6 []],.full T4 [],.full T4 []]) false),(9111,.buf T4 t 0 true)]
def l0s (k : Nat) (Nx : D1->Int->Int->D9->D9->D1->D1->D7->D7->D1->D1->D1->Int->D8->D1->D1->D1->Int->D1->D1->Int->D7->Option α) (Xt0 : D9->D9->D1->D1->D7->D7->D1->D1->D1->Int->D8->D1->D1->D1->Int->D1->D1->Int->D7->Option α) (b : D1) (d a : Int) (e f : D9) (g i : D1) (j l : D7) (m n o : D1) (p : Int) (q : D8) (r s t : D1) (u : Int) (v w : D1) (x : Int) (c : D7) : Option α :=
 if (decide (a < d)) = true then
  if 0 <= a /\ a < (b.length : Int) then
   l1 k (fun b d a e f g i j l m n o p q r s t u v w x c=>j0 Nx b d a e f g i j l m n o p q r s t u v w x c) k (List.getD b (Int.toNat a) 0) b d a (c.length : Int) 0 e f g i j l m n o p q r s t u v w x c
  else none
 else
  Xt0 e f g i j l m n o p q r s t u v w x c
theorem l0s_eq (k : Nat) (next : St->Option α) (Q : Ex->St->Option α) (w : D1) (x a : Int) (c d : D9) (e f : D1) (g i : D7) (j l m : D1) (n : Int) (o : D8) (p q r : D1) (s : Int) (t u : D1) (v : Int) (b : D7) :
  rnd C k cd0 18 Q next (St2 w x a c d e f g i j l m n o p q r s t u v b) = l0s k (fun w x a c d e f g i j l m n o p q r s t u v b=>next (St2 w x a c d e f g i j l m n o p q r s t u v b)) (fun c d e f g i j l m n o p q r s t u v b=>Q (.exit 0) (St6 c d e f g i j l m n o p q r s t u v b)) w x a c d e f g i j l m n o p q r s t u v b:=by
 have h : ∀ (D L : DT α),denJ D L Js C cd0 (lq C 18 next Q) (St2 w x a c d e f g i j l m n o p q r s t u v b) =
    if (decide (a < x)) = true then
     if 0 <= a /\ a < (w.length : Int) then
      L cd1 (blkQ C 2 (blkQ C 1 (sq D L Js C cd2 (lq C 18 next Q)))) (St3 (List.getD w (Int.toNat a) 0) w x a (b.length : Int) 0 c d e f g i j l m n o p q r s t u v b)
     else none
    else
     Q (.exit 0) (St6 c d e f g i j l m n o p q r s t u v b):=by
  intro D L; kernel_rfl
 have h2:=via (k:=k) h
 refine h2.trans ?_
 simp only [a0]
 first | rfl | kernel_rfl
def l0 (k : Nat) (Xt0 : D9->D9->D1->D1->D7->D7->D1->D1->D1->Int->D8->D1->D1->D1->Int->D1->D1->Int->D7->Option α) : Nat->D1->Int->Int->D9->D9->D1->D1->D7->D7->D1->D1->D1->Int->D8->D1->D1->D1->Int->D1->D1->Int->D7->Option α
 | 0,_,_,_,_,_,_,_,_,_,_,_,_,_,_,_,_,_,_,_,_,_,_=>none
 | n + 1,a,b,c,d,e,f,g,i,j,l,m,o,p,q,r,s,t,u,v,w,x,y=>l0s k (l0 k Xt0 n) Xt0 a b c d e f g i j l m o p q r s t u v w x y
theorem l0_eq (k : Nat) (Q : Ex->St->Option α) : ∀ (n : Nat) (w : D1) (x y : Int) (a b : D9) (c d : D1) (e f : D7) (g i j : D1) (l : Int) (m : D8) (o p q : D1) (r : Int) (s t : D1) (u : Int) (v : D7),iter (rnd C k cd0 18 Q) n (St2 w x y a b c d e f g i j l m o p q r s t u v) = l0 k (fun a b c d e f g i j l m o p q r s t u v=>Q (.exit 0) (St6 a b c d e f g i j l m o p q r s t u v)) n w x y a b c d e f g i j l m o p q r s t u v
 | 0,_,_,_,_,_,_,_,_,_,_,_,_,_,_,_,_,_,_,_,_,_,_=>rfl
 | n + 1,w,x,y,a,b,c,d,e,f,g,i,j,l,m,o,p,q,r,s,t,u,v=>(iter_succ _ _ _).trans ((l0s_eq k _ Q w x y a b c d e f g i j l m o p q r s t u v).trans (congrArg (fun N=>l0s k N (fun a b c d e f g i j l m o p q r s t u v=>Q (.exit 0) (St6 a b c d e f g i j l m o p q r s t u v)) w x y a b c d e f g i j l m o p q r s t u v) (by funext; exact l0_eq k Q n _ _ _ _ _ _ _ _ _ _ _ _ _ _ _ _ _ _ _ _ _ _)))
noncomputable def cd3 : Code:=cR (cR (cR (cR (cR (cB Tryz.f31)))))
def St7 (a b : D9) (c d : D1) (e f : D7) (g i j : D1) (k : Int) (l : D8) (m n o : D1) (p : Int) (q r : D1) (s : Int) (t : D7) : St:=stL 66 [(2,.ref 8 0 []),(4,.ref 10 0 [])] [(0,.buf T22 a 1 true),(1,.buf T22 b 1 true),(2,.buf T6 c 1 true),(3,.buf T6 d 1 true),(4,.buf T4 e 1 true),(5,.buf T4 f 1 true),(8,.cell T15 (.agg T15 [.data T30 g,.agg T21 [.data T19 i,.data T19 j,.data T1 k,.app 0 1,.app 1 1],.data T21 l,.agg T11 [.app 2 1,.app 3 1],.app 9111 0,.app 5 1]) false),(10,.cell T15 (.agg T15 [.data T30 m,.agg T21 [.data T19 n,.data T19 o,.data T1 p,.full T22 [],.full T22 []],.agg T21 [.data T19 q,.data T19 r,.data T1 s,.full T22 [],.full T22 []],.agg T11 [.full T6 [],.full T6 []],.full T4 [],.full T4 []]) false),(9111,.buf T4 t 0 true)]
def j1 (Rt : Int->D9->D9->D1->D1->D7->D7->D1->D1->D1->Int->D8->D7->Option α) (a b : D9) (c d : D1) (e f : D7) (g i j : D1) (k : Int) (l : D8) (n o p : D1) (q : Int) (r s : D1) (t : Int) (m : D7) : Option α :=
 Rt 0 a b c d e f g i j k l m
theorem j1_eq (k : Nat) (Q : Ex->St->Option α) (a b : D9) (c d : D1) (e f : D7) (m n o : D1) (p : Int) (q : D8) (g i j : D1) (l : Int) (r s : D1) (t : Int) (u : D7) :
  (den C k) cd3 (endQ C Q) (St7 a b c d e f m n o p q g i j l r s t u) = j1 (fun v a b c d e f g i j l w x=>Q .ret (St1 v a b c d e f g i j l w x)) a b c d e f m n o p q g i j l r s t u:=plainly Js (by kernel_rfl)
theorem a1 (k : Nat) (Q : Ex->St->Option α) (w : D1) (x y : Int) (a c : D9) (d e : D1) (f g : D7) (n o p : D1) (q : Int) (r : D8) (i j l : D1) (m : Int) (s t : D1) (u : Int) (v : D7) :
  (lp C k) cd0 (blkQ C 0 (sq (den C k) (lp C k) Js C cd3 (endQ C Q))) (St2 w x y a c d e f g n o p q r i j l m s t u v) = l0 k (fun a c d e f g n o p q r i j l m s t u v=>j1 (fun z a c d e f g i j l m A B=>Q .ret (St1 z a c d e f g i j l m A B)) a c d e f g n o p q r i j l m s t u v) k w x y a c d e f g n o p q r i j l m s t u v :=
 (lp_iter 18 (by kernel_rfl)).trans ((l0_eq k _ k w x y a c d e f g n o p q r i j l m s t u v).trans (congrArg (fun X=>l0 k X k w x y a c d e f g n o p q r i j l m s t u v) (funext fun a=>funext fun c=>funext fun d=>funext fun e=>funext fun f=>funext fun g=>funext fun n=>funext fun o=>funext fun p=>funext fun q=>funext fun r=>funext fun i=>funext fun j=>funext fun l=>funext fun m=>funext fun s=>funext fun t=>funext fun u=>funext fun v=>(Eq.trans (b:=(den C k) cd3 (endQ C Q) (St7 a c d e f g n o p q r i j l m s t u v)) (by kernel_rfl) (by simp only [j1_eq])))))
def top (k : Nat) (Rt : Int->D9->D9->D1->D1->D7->D7->D1->D1->D1->Int->D8->D7->Option α) (i j l : D1) (m : Int) (n : D8) (o : Int) (b c : D9) (d e : D1) (f g : D7) : Option α :=
 (gate_Tick.run n o).bind fun a =>
 if (a.2.2.1 != 0) = true then
  Rt a.2.2.1 b c d e [] g i j l m n f
 else
  l0 k (fun b c d e f g p q r s t u v w x y z A B=>j1 Rt b c d e f g p q r s t u v w x y z A B) k a.2.1 (a.2.1.length : Int) 0 b c d e [] g i j l m a.1 [0,0,0,0] [0,0,0] [0,0,0] 0 [0,0,0] [0,0,0] 0 f
theorem top_eq (k : Nat) (Q : Ex->St->Option α) (g i j : D1) (l : Int) (m : D8) (o : Int) (a b : D9) (c d : D1) (e f : D7) :
  (den C k) (cB Tryz.f31) (endQ C Q) (St0 g i j l m o a b c d e f) = top k (fun p a b c d e f q r s t u v=>Q .ret (St1 p a b c d e f q r s t u v)) g i j l m o a b c d e f:=by
 have h : ∀ (D L : DT α),denJ D L Js C (cB Tryz.f31) (endQ C Q) (St0 g i j l m o a b c d e f) =
    (gate_Tick.run m o).bind fun n =>
    if (n.2.2.1 != 0) = true then
     Q .ret (St1 n.2.2.1 a b c d [] f g i j l m e)
    else
     L cd0 (blkQ C 0 (sq D L Js C cd3 (endQ C Q))) (St2 n.2.1 (n.2.1.length : Int) 0 a b c d [] f g i j l n.1 [0,0,0,0] [0,0,0] [0,0,0] 0 [0,0,0] [0,0,0] 0 e):=by
  intro D L; kernel_rfl
 have h2:=via (k:=k) h
 refine h2.trans ?_
 simp only [a1]
 first | rfl | kernel_rfl
def run (m n o : D1) (p : Int) (q : D8) (r : Int) (a b : D9) (c d : D1) (e f : D7) : Option D45:=top (α:=List Int × List Int × List Int × Int × D8 × Int × D9 × D9 × List Int × List Int × D7 × D7 × List Int × List Int × List Int × Int × D8 × D7 × Unit) fuel (fun s a b c d e f g i j k l t=>some (g,i,j,k,l,s,a,b,c,d,e,f,g,i,j,k,l,t,())) m n o p q r a b c d e f
def Sp : Spec:=⟨[.agg T15 [hD T30,.agg T21 [hD T19,hD T19,hD T1,.app 0 0,.app 1 0],hD T21,.agg T11 [.app 2 0,.app 3 0],.app 4 0,.app 5 0],hD T1],[(0,hB T22 0 true),(1,hB T22 0 true),(2,hB T6 0 true),(3,hB T6 0 true),(4,hB T4 0 true),(5,hB T4 0 true)],T85,.tup [.agg T15 [hD T30,.agg T21 [hD T19,hD T19,hD T1,.app 0 1,.app 1 1],hD T21,.agg T11 [.app 2 1,.app 3 1],.app 10311 0,.app 5 1],hD T1],[(0,hB T22 1 true),(1,hB T22 1 true),(2,hB T6 1 true),(3,hB T6 1 true),(4,hB T4 1 true),(5,hB T4 1 true),(10,hC T15 (.agg T15 [hD T30,.agg T21 [hD T19,hD T19,hD T1,.app 0 1,.app 1 1],hD T21,.agg T11 [.app 2 1,.app 3 1],.app 10311 0,.app 5 1]) false),(10311,hB T4 0 true)],T86,fun x=>run x.1 x.2.1 x.2.2.1 x.2.2.2.1 x.2.2.2.2.1 x.2.2.2.2.2.1 x.2.2.2.2.2.2.1 x.2.2.2.2.2.2.2.1 x.2.2.2.2.2.2.2.2.1 x.2.2.2.2.2.2.2.2.2.1 x.2.2.2.2.2.2.2.2.2.2.1 x.2.2.2.2.2.2.2.2.2.2.2.1⟩
set_option maxRecDepth 100000 in
theorem sok : SOk Tryz.prog 31 Sp.h:=by
 refine sok_of_den (C:=C) (ctx_ok (by kernel_rfl) (by kernel_rfl) (by kernel_rfl) (by kernel_rfl) ⟨.inl guard_Id.con,⟨.inl gate_Tick.con,trivial⟩⟩) (by kernel_rfl) Tryz.func31 (c:=cB Tryz.f31) (by kernel_rfl) (by kernel_rfl) Sp fuel (by kernel_rfl) (by kernel_rfl) ?_
 intro x r h
 rw [<- h]
 have h1 : Sp.start x Tryz.f31.ntmps = (St0 x.1 x.2.1 x.2.2.1 x.2.2.2.1 x.2.2.2.2.1 x.2.2.2.2.2.1 x.2.2.2.2.2.2.1 x.2.2.2.2.2.2.2.1 x.2.2.2.2.2.2.2.2.1 x.2.2.2.2.2.2.2.2.2.1 x.2.2.2.2.2.2.2.2.2.2.1 x.2.2.2.2.2.2.2.2.2.2.2.1):=by kernel_rfl
 rw [h1]
 refine (top_eq fuel (finS C Tryz.f31.results.toList Sp.read) x.1 x.2.1 x.2.2.1 x.2.2.2.1 x.2.2.2.2.1 x.2.2.2.2.2.1 x.2.2.2.2.2.2.1 x.2.2.2.2.2.2.2.1 x.2.2.2.2.2.2.2.2.1 x.2.2.2.2.2.2.2.2.2.1 x.2.2.2.2.2.2.2.2.2.2.1 x.2.2.2.2.2.2.2.2.2.2.2.1).trans ?_
 kernel_rfl
theorem named : Named Tryz.prog 31:=named_of Tryz.func31 (by kernel_rfl) (by kernel_rfl)
end Go.Bx.guard_passed_s2
namespace Go.Bx.gate_fresh_s0
def Js : List Nat:=[]
def C : Ctx:=⟨[(26,T20),(28,T21)],[],[],fnL [],noSh,[],invL [],[(2,[2])],[],[6,10],0,0⟩
def St0 (a : D8) : St:=stL 14 [(0,.data T21 a)] []
def St1 (a b : D1) (c : Int) (d e : D9) : St:=stL 14 [(2,.ref 2 0 [])] [(2,.cell T21 (.agg T21 [.data T19 a,.data T19 b,.data T1 c,.app 6 0,.app 10 0]) false),(6,.buf T22 d 0 true),(10,.buf T22 e 0 true)]
def top (Rt : D1->D1->Int->D9->D9->Option α) (a : D8) : Option α :=
 if fitB (0 + a.2.2.2.1.length) 32 = true then
  if fitB (0 + a.2.2.2.2.1.length) 32 = true then
   Rt a.1 a.2.1 a.2.2.1 a.2.2.2.1 a.2.2.2.2.1
  else none
 else none
theorem top_eq (k : Nat) (Q : Ex->St->Option α) (a : D8) :
  (den C k) (cB Tryz.f74) (endQ C Q) (St0 a) = top (fun b c d e f=>Q .ret (St1 b c d e f)) a:=plainly Js (by kernel_rfl)
def run (d : D8) : Option D11:=top (α:=List Int × List Int × Int × List Int × List Int × Int × D9 × D9 × Unit) (fun a b c e f=>some (a,b,c,a,b,c,e,f,())) d
def Sp : Spec:=⟨[hD T21],[],T23,.agg T21 [hD T19,hD T19,hD T1,.app 6 0,.app 10 0],[(2,hC T21 (.agg T21 [hD T19,hD T19,hD T1,.app 6 0,.app 10 0]) false),(6,hB T22 0 true),(10,hB T22 0 true)],T26,fun x=>run x.1⟩
set_option maxRecDepth 100000 in
theorem sok : SOk Tryz.prog 74 Sp.h:=by
 refine sok_of_den (C:=C) (ctx_ok (by kernel_rfl) (by kernel_rfl) (by kernel_rfl) (by kernel_rfl) trivial) (by kernel_rfl) Tryz.func74 (c:=cB Tryz.f74) (by kernel_rfl) (by kernel_rfl) Sp fuel (by kernel_rfl) (by kernel_rfl) ?_
 intro x r h
 rw [<- h]
 have h1 : Sp.start x Tryz.f74.ntmps = (St0 x.1):=by kernel_rfl
 rw [h1]
 refine (top_eq fuel (finS C Tryz.f74.results.toList Sp.read) x.1).trans ?_
 kernel_rfl
theorem named : Named Tryz.prog 74:=named_of Tryz.func74 (by kernel_rfl) (by kernel_rfl)
end Go.Bx.gate_fresh_s0
namespace Go.Bx.gate_Offer
def Js : List Nat:=[16,17]
def C : Ctx:=⟨[(3,T1),(4,.bool),(26,T20),(28,T21),(38,T1),(112,T22),(123,T27)],[],[],fnL [(57,gate_Check.F),(73,gate_value.F),(75,gate_fits.F)],shL [(74,[.one gate_fresh_s0.Sp])],[(63,87)],invL [],[(2,[8,9,10]),(1,[1,2,3,4,8]),(4,[1,2,3,4,8,39,40]),(7,[1,2,3,4,8,39,40]),(10,[1,2,3,4,8,39,40,43,44,45]),(21,[1,2,3,4,8,39,40]),(30,[1,2,3,4,8,39,40,43,44,45]),(45,[1,2,3,4,8,39,40]),(48,[1,2,3,4,8])],[(2,[.dat false 8 [3],.dat false 8 [4]])],[],0,0⟩
def St0 (a : D8) (b c d : Int) : St:=stL 86 [(0,.data T21 a),(1,.data T1 b),(2,.data T1 c),(3,.data T1 d)] []
def St1 (a : Bool) (b : Int) (c : D8) : St:=stL 86 [(8,.ref 8 0 []),(9,.data .bool a),(10,.data T1 b)] [(8,.cell T21 (.data T21 c) false)]
def St2 (a b c : Int) (d : D12) (e : Int) (f : D8) (g i : D1) (j : Int) : St:=stL 86 [(1,.data T1 a),(2,.data T1 b),(3,.data T1 c),(4,.ref 4 0 []),(8,.ref 8 0 []),(39,.data T27 d),(40,.data T1 e)] [(4,.cell T21 (.data T21 f) false),(8,.cell T21 (.agg T21 [.data T19 g,.data T19 i,.data T1 j,.full T22 [],.full T22 []]) false)]
noncomputable def cd0 : Code:=cL (cL (cR (cL (cR (cR (cR (cB Tryz.f49)))))))
def St3 (a b c : Int) (d : D12) (e : Int) (f : D9) (g i : Int) (j : D8) (k l : D1) (m : Int) : St:=stL 86 [(1,.data T1 a),(2,.data T1 b),(3,.data T1 c),(4,.ref 4 0 []),(8,.ref 8 0 []),(39,.data T27 d),(40,.data T1 e),(43,.data T20 f),(44,.data T1 g),(45,.data T1 i)] [(4,.cell T21 (.data T21 j) false),(8,.cell T21 (.agg T21 [.data T19 k,.data T19 l,.data T1 m,.full T22 [],.full T22 []]) false)]
noncomputable def cd1 : Code:=cL (cL (cR (cR (cL (cL (cR (cR (cL (cL (cR (cL (cR (cR (cR (cB Tryz.f49)))))))))))))))
def St4 (a b c : Int) (d : D12) (e : Int) (f : D8) (g i : D1) (j : Int) : St:=stL 86 [(1,.data T1 a),(2,.data T1 b),(3,.data T1 c),(4,.ref 4 0 []),(8,.ref 8 0 []),(39,.data T27 d),(40,.data T1 e)] [(4,.cell T21 (.data T21 f) false),(8,.cell T21 (.agg T21 [.data T19 g,.data T19 i,.data T1 j,.full T22 [],.full T22 []]) false)]
def l1s (Nx : Int->Int->Int->D12->Int->D9->Int->Int->D8->D1->D1->Int->Option α) (Rt : Bool->Int->D8->Option α) (Xt2 : Int->Int->Int->D12->Int->D8->D1->D1->Int->Option α) (b d e : Int) (f : D12) (g : Int) (c : D9) (i a : Int) (j : D8) (k l : D1) (m : Int) : Option α :=
 if (decide (a < i)) = true then
  if 0 <= a /\ a < (c.length : Int) then
   if ((List.getD c (Int.toNat a) (0,0,0,0,())).1 == b) = true then
    Rt false 8 ([0,0,0],[0,0,0],0,[],[],())
   else
    Nx b d e f g c i (IntKind.i64.wrap (a + 1)) j k l m
  else none
 else
  Xt2 b d e f g j k l m
theorem l1s_eq (k : Nat) (next : St->Option α) (Q : Ex->St->Option α) (a b c : Int) (d : D12) (e : Int) (l : D9) (m n : Int) (f : D8) (g i : D1) (j : Int) :
  rnd C k cd1 30 Q next (St3 a b c d e l m n f g i j) = l1s (fun a b c d e l m n f g i j=>next (St3 a b c d e l m n f g i j)) (fun o p q=>Q .ret (St1 o p q)) (fun a b c d e f g i j=>Q (.exit 2) (St4 a b c d e f g i j)) a b c d e l m n f g i j:=plainly Js (by kernel_rfl)
def l1 (k : Nat) (Rt : Bool->Int->D8->Option α) (Xt2 : Int->Int->Int->D12->Int->D8->D1->D1->Int->Option α) : Nat->Int->Int->Int->D12->Int->D9->Int->Int->D8->D1->D1->Int->Option α
 | 0,_,_,_,_,_,_,_,_,_,_,_,_=>none
 | n + 1,a,b,c,d,e,f,g,i,j,l,m,o=>l1s (l1 k Rt Xt2 n) Rt Xt2 a b c d e f g i j l m o
theorem l1_eq (k : Nat) (Q : Ex->St->Option α) : ∀ (n : Nat) (a b c : Int) (d : D12) (e : Int) (l : D9) (m o : Int) (f : D8) (g i : D1) (j : Int),iter (rnd C k cd1 30 Q) n (St3 a b c d e l m o f g i j) = l1 k (fun p q r=>Q .ret (St1 p q r)) (fun a b c d e f g i j=>Q (.exit 2) (St4 a b c d e f g i j)) n a b c d e l m o f g i j
 | 0,_,_,_,_,_,_,_,_,_,_,_,_=>rfl
 | n + 1,a,b,c,d,e,l,m,o,f,g,i,j=>(iter_succ _ _ _).trans ((l1s_eq k _ Q a b c d e l m o f g i j).trans (congrArg (fun N=>l1s N (fun p q r=>Q .ret (St1 p q r)) (fun a b c d e f g i j=>Q (.exit 2) (St4 a b c d e f g i j)) a b c d e l m o f g i j) (by funext; exact l1_eq k Q n _ _ _ _ _ _ _ _ _ _ _ _)))
theorem l1_congr (k : Nat) (Rt : Bool->Int->D8->Option α) (Xt2 : Int->Int->Int->D12->Int->D8->D1->D1->Int->Option α) (Rtq : Bool->Int->D8->Option α) (Xt2q : Int->Int->Int->D12->Int->D8->D1->D1->Int->Option α) (hRt : ∀ (l : Bool) (m : Int) (o : D8),Rt l m o = Rtq l m o) (hXt2 : ∀ (a b c : Int) (d : D12) (e : Int) (f : D8) (g i : D1) (j : Int),Xt2 a b c d e f g i j = Xt2q a b c d e f g i j) (n : Nat) (a b c : Int) (d : D12) (e : Int) (p : D9) (q r : Int) (f : D8) (g i : D1) (j : Int) : l1 k Rt Xt2 n a b c d e p q r f g i j = l1 k Rtq Xt2q n a b c d e p q r f g i j:=by
 obtain rfl : Rt = Rtq:=by funext l; funext m; funext o; exact hRt l m o
 obtain rfl : Xt2 = Xt2q:=by funext a; funext b; funext c; funext d; funext e; funext f; funext g; funext i; funext j; exact hXt2 a b c d e f g i j
 rfl
noncomputable def cd2 : Code:=cR (cR (cR (cL (cL (cR (cL (cR (cR (cR (cB Tryz.f49))))))))))
def St5 (a b c : Int) (d : D12) (e : Int) (f : D8) (g i : D1) (j : Int) : St:=stL 86 [(1,.data T1 a),(2,.data T1 b),(3,.data T1 c),(4,.ref 4 0 []),(8,.ref 8 0 []),(39,.data T27 d),(40,.data T1 e)] [(4,.cell T21 (.data T21 f) false),(8,.cell T21 (.agg T21 [.data T19 g,.data T19 i,.data T1 j,.full T22 [],.full T22 []]) false)]
def j0 (Nx : Int->Int->Int->D12->Int->D8->D1->D1->Int->Option α) (a b c : Int) (d : D12) (e : Int) (f : D8) (g i : D1) (j : Int) : Option α :=
 Nx a b c d (IntKind.i64.wrap (e + 1)) f g i j
theorem j0_eq (k : Nat) (next : St->Option α) (Q : Ex->St->Option α) (a b c : Int) (d : D12) (e : Int) (f : D8) (g i : D1) (j : Int) :
  (den C k) cd2 (lq C 21 next Q) (St5 a b c d e f g i j) = j0 (fun a b c d e f g i j=>next (St2 a b c d e f g i j)) a b c d e f g i j:=plainly Js (by kernel_rfl)
theorem a0 (k : Nat) (next : St->Option α) (Q : Ex->St->Option α) (a c d : Int) (e : D12) (f : Int) (m : D9) (n o : Int) (g : D8) (i j : D1) (l : Int) :
  (lp C k) cd1 (blkQ C 2 (blkQ C 1 (sq (den C k) (lp C k) Js C cd2 (lq C 21 next Q)))) (St3 a c d e f m n o g i j l) = l1 k (fun p q r=>(fun p q r=>Q .ret (St1 p q r)) p q r) (fun a c d e f g i j l=>j0 (fun a c d e f g i j l=>next (St2 a c d e f g i j l)) a c d e f g i j l) k a c d e f m n o g i j l :=
 (lp_iter 30 (by kernel_rfl)).trans ((l1_eq k _ k a c d e f m n o g i j l).trans (l1_congr k _ _ _ _ (fun p q r=>(by kernel_rfl)) (fun a c d e f g i j l=>(Eq.trans (b:=(den C k) cd2 (lq C 21 next Q) (St5 a c d e f g i j l)) (by kernel_rfl) (by simp only [j0_eq]))) k a c d e f m n o g i j l))
def St6 (a b c : Int) (d : D8) (e f : D1) (g : Int) : St:=stL 86 [(1,.data T1 a),(2,.data T1 b),(3,.data T1 c),(4,.ref 4 0 []),(8,.ref 8 0 [])] [(4,.cell T21 (.data T21 d) false),(8,.cell T21 (.agg T21 [.data T19 e,.data T19 f,.data T1 g,.full T22 [],.full T22 []]) false)]
def l0s (k : Nat) (Nx : Int->Int->Int->D12->Int->D8->D1->D1->Int->Option α) (Rt : Bool->Int->D8->Option α) (Xt0 : Int->Int->Int->D8->D1->D1->Int->Option α) (c d e : Int) (b : D12) (a : Int) (f : D8) (g i : D1) (j : Int) : Option α :=
 if (decide (a < 2)) = true then
  if 0 <= a /\ a < (2 : Int) then
   l1 k (fun l m n=>Rt l m n) (fun c d e b a f g i j=>j0 Nx c d e b a f g i j) k c d e b a (List.getD b (Int.toNat a) []) ((List.getD b (Int.toNat a) []).length : Int) 0 f g i j
  else none
 else
  Xt0 c d e f g i j
theorem l0s_eq (k : Nat) (next : St->Option α) (Q : Ex->St->Option α) (b c d : Int) (j : D12) (a : Int) (e : D8) (f g : D1) (i : Int) :
  rnd C k cd0 21 Q next (St2 b c d j a e f g i) = l0s k (fun b c d j a e f g i=>next (St2 b c d j a e f g i)) (fun l m n=>Q .ret (St1 l m n)) (fun b c d e f g i=>Q (.exit 0) (St6 b c d e f g i)) b c d j a e f g i:=by
 have h : ∀ (D L : DT α),denJ D L Js C cd0 (lq C 21 next Q) (St2 b c d j a e f g i) =
    if (decide (a < 2)) = true then
     if 0 <= a /\ a < (2 : Int) then
      L cd1 (blkQ C 2 (blkQ C 1 (sq D L Js C cd2 (lq C 21 next Q)))) (St3 b c d j a (List.getD j (Int.toNat a) []) ((List.getD j (Int.toNat a) []).length : Int) 0 e f g i)
     else none
    else
     Q (.exit 0) (St6 b c d e f g i):=by
  intro D L; kernel_rfl
 have h2:=via (k:=k) h
 refine h2.trans ?_
 simp only [a0]
 first | rfl | kernel_rfl
def l0 (k : Nat) (Rt : Bool->Int->D8->Option α) (Xt0 : Int->Int->Int->D8->D1->D1->Int->Option α) : Nat->Int->Int->Int->D12->Int->D8->D1->D1->Int->Option α
 | 0,_,_,_,_,_,_,_,_,_=>none
 | n + 1,a,b,c,d,e,f,g,i,j=>l0s k (l0 k Rt Xt0 n) Rt Xt0 a b c d e f g i j
theorem l0_eq (k : Nat) (Q : Ex->St->Option α) : ∀ (n : Nat) (a b c : Int) (i : D12) (j : Int) (d : D8) (e f : D1) (g : Int),iter (rnd C k cd0 21 Q) n (St2 a b c i j d e f g) = l0 k (fun l m o=>Q .ret (St1 l m o)) (fun a b c d e f g=>Q (.exit 0) (St6 a b c d e f g)) n a b c i j d e f g
 | 0,_,_,_,_,_,_,_,_,_=>rfl
 | n + 1,a,b,c,i,j,d,e,f,g=>(iter_succ _ _ _).trans ((l0s_eq k _ Q a b c i j d e f g).trans (congrArg (fun N=>l0s k N (fun l m o=>Q .ret (St1 l m o)) (fun a b c d e f g=>Q (.exit 0) (St6 a b c d e f g)) a b c i j d e f g) (by funext; exact l0_eq k Q n _ _ _ _ _ _ _ _ _)))
theorem l0_congr (k : Nat) (Rt : Bool->Int->D8->Option α) (Xt0 : Int->Int->Int->D8->D1->D1->Int->Option α) (Rtq : Bool->Int->D8->Option α) (Xt0q : Int->Int->Int->D8->D1->D1->Int->Option α) (hRt : ∀ (i : Bool) (j : Int) (l : D8),Rt i j l = Rtq i j l) (hXt0 : ∀ (a b c : Int) (d : D8) (e f : D1) (g : Int),Xt0 a b c d e f g = Xt0q a b c d e f g) (n : Nat) (a b c : Int) (m : D12) (o : Int) (d : D8) (e f : D1) (g : Int) : l0 k Rt Xt0 n a b c m o d e f g = l0 k Rtq Xt0q n a b c m o d e f g:=by
 obtain rfl : Rt = Rtq:=by funext i; funext j; funext l; exact hRt i j l
 obtain rfl : Xt0 = Xt0q:=by funext a; funext b; funext c; funext d; funext e; funext f; funext g; exact hXt0 a b c d e f g
 rfl
noncomputable def cd3 : Code:=cR (cR (cR (cR (cB Tryz.f49))))
def St7 (a b c : Int) (d : D8) (e f : D1) (g : Int) : St:=stL 86 [(1,.data T1 a),(2,.data T1 b),(3,.data T1 c),(4,.ref 4 0 []),(8,.ref 8 0 [])] [(4,.cell T21 (.data T21 d) false),(8,.cell T21 (.agg T21 [.data T19 e,.data T19 f,.data T1 g,.full T22 [],.full T22 []]) false)]
def j1 (Rt : Bool->Int->D8->Option α) (c d e : Int) (b : D8) (g i : D1) (j : Int) : Option α :=
 (gate_fresh_s0.run b).bind fun a =>
 (gate_fits.run (a.1,a.2.1,a.2.2.1,a.2.2.2.2.2.2.1,a.2.2.2.2.2.2.2.1,()) (c,d,e,b.2.2.1,())).bind fun f =>
 if f = true then
  if fitB (a.2.2.2.2.2.2.1.length + 1) 32 = true then
   Rt true 0 (a.1,a.2.1,a.2.2.1,(a.2.2.2.2.2.2.1 ++ [(c,d,e,b.2.2.1,())]),a.2.2.2.2.2.2.2.1,())
  else none
 else
  if ((a.2.2.2.2.2.2.2.1.length : Int) == 40) = true then
   Rt false 9 ([0,0,0],[0,0,0],0,[],[],())
  else
   if fitB (a.2.2.2.2.2.2.2.1.length + 1) 32 = true then
    Rt false 0 (a.1,a.2.1,a.2.2.1,a.2.2.2.2.2.2.1,(a.2.2.2.2.2.2.2.1 ++ [(c,d,e,b.2.2.1,())]),())
   else none
theorem j1_eq (k : Nat) (Q : Ex->St->Option α) (a b c : Int) (d : D8) (e f : D1) (g : Int) :
  (den C k) cd3 Q (St7 a b c d e f g) = j1 (fun i j l=>Q .ret (St1 i j l)) a b c d e f g:=plainly Js (by kernel_rfl)
theorem a1 (k : Nat) (Q : Ex->St->Option α) (a c d : Int) (n : D12) (o : Int) (e : D8) (f g : D1) (i : Int) :
  (lp C k) cd0 (blkQ C 0 (sq (den C k) (lp C k) Js C cd3 Q)) (St2 a c d n o e f g i) = l0 k (fun j l m=>(fun j l m=>Q .ret (St1 j l m)) j l m) (fun a c d e f g i=>j1 (fun j l m=>Q .ret (St1 j l m)) a c d e f g i) k a c d n o e f g i :=
 (lp_iter 21 (by kernel_rfl)).trans ((l0_eq k _ k a c d n o e f g i).trans (l0_congr k _ _ _ _ (fun j l m=>(by kernel_rfl)) (fun a c d e f g i=>(Eq.trans (b:=(den C k) cd3 Q (St7 a c d e f g i)) (by kernel_rfl) (by simp only [j1_eq]))) k a c d n o e f g i))
def top (k : Nat) (Rt : Bool->Int->D8->Option α) (b : D8) (d c a : Int) : Option α :=
 (gate_Check.run b).bind fun e =>
 if (e != 0) = true then
  Rt false e ([0,0,0],[0,0,0],0,[],[],())
 else
  (gate_value.run c).bind fun f =>
  if (cond (cond (not f) true (decide (a < 0))) true (decide (a >= 3))) = true then
   Rt false 6 ([0,0,0],[0,0,0],0,[],[],())
  else
   l0 k (fun g i j=>Rt g i j) (fun d c a l m n o=>j1 Rt d c a l m n o) k d c a [b.2.2.2.1,b.2.2.2.2.1] 0 b [0,0,0] [0,0,0] 0
theorem top_eq (k : Nat) (Q : Ex->St->Option α) (a : D8) (d c b : Int) :
  (den C k) (cB Tryz.f49) Q (St0 a d c b) = top k (fun f g i=>Q .ret (St1 f g i)) a d c b:=by
 have h : ∀ (D L : DT α),denJ D L Js C (cB Tryz.f49) Q (St0 a d c b) =
    (gate_Check.run a).bind fun e =>
    if (e != 0) = true then
     Q .ret (St1 false e ([0,0,0],[0,0,0],0,[],[],()))
    else
     (gate_value.run c).bind fun j =>
     if (cond (cond (not j) true (decide (b < 0))) true (decide (b >= 3))) = true then
      Q .ret (St1 false 6 ([0,0,0],[0,0,0],0,[],[],()))
     else
      L cd0 (blkQ C 0 (sq D L Js C cd3 Q)) (St2 d c b [a.2.2.2.1,a.2.2.2.2.1] 0 a [0,0,0] [0,0,0] 0):=by
  intro D L; kernel_rfl
 have h2:=via (k:=k) h
 refine h2.trans ?_
 simp only [a1]
 first | rfl | kernel_rfl
def run (a : D8) (b c d : Int) : Option D13:=top (α:=D8 × Bool × Int × Unit) fuel (fun e f g=>some (g,e,f,())) a b c d
def F : Fn:=⟨T28,T29,true,fun x=>run x.1 x.2.1 x.2.2.1 x.2.2.2.1⟩
theorem con : Con Tryz.prog 49 F /\ Named Tryz.prog 49 :=
 con_of2 (C:=C) (ctx_ok_sh (by kernel_rfl) (by kernel_rfl) (by kernel_rfl) (by kernel_rfl) ⟨.inl gate_Check.con,⟨.inl gate_value.con,⟨.inl gate_fits.con,trivial⟩⟩⟩ ⟨⟨⟨gate_fresh_s0.sok,trivial⟩,gate_fresh_s0.named⟩,trivial⟩) (by kernel_rfl) Tryz.func49 (by kernel_rfl) (c:=cB Tryz.f49) (by kernel_rfl) (by kernel_rfl) F (fun x=>by simp [F,spread,Tryz.ntmps49]) (fun x=>(St0 x.1 x.2.1 x.2.2.1 x.2.2.2.1)) (fun x=>by kernel_rfl) fun x=>(top_eq fuel _ x.1 x.2.1 x.2.2.1 x.2.2.2.1).trans (by kernel_rfl)
end Go.Bx.gate_Offer
namespace Go.Bx.basculeref_Offered
def Js : List Nat:=[13]
def C : Ctx:=⟨[(3,T1),(4,.bool),(26,T20),(28,T21),(38,T1),(112,T22)],[],[],fnL [(64,basculeref_upTo.F),(65,basculeref_GateFault.F),(66,basculeref_passes.F)],noSh,[],invL [],[(2,[8,9,10]),(1,[1,2,3,4,8]),(4,[1,2,3,4,8,36,37,38]),(21,[1,2,3,4,8,36,37,38]),(36,[1,2,3,4,8])],[(2,[.dat false 8 []])],[33,60,74],0,0⟩
def St0 (a : D8) (b c d : Int) : St:=stL 80 [(0,.data T21 a),(1,.data T1 b),(2,.data T1 c),(3,.data T1 d)] []
def St1 (a : Bool) (b : Int) (c : D8) : St:=stL 80 [(8,.ref 8 0 []),(9,.data .bool a),(10,.data T1 b)] [(8,.cell T21 (.data T21 c) false)]
def St2 (a b : Int) (c d e : Int) (f : D8) (g i : D1) (j : Int) (k : D9) : St:=stL 80 [(1,.data T1 a),(2,.data T1 b),(3,.data T1 c),(4,.ref 4 0 []),(8,.ref 8 0 []),(36,.app 33 0),(37,.data T1 d),(38,.data T1 e)] [(4,.cell T21 (.data T21 f) false),(8,.cell T21 (.agg T21 [.data T19 g,.data T19 i,.data T1 j,.full T22 [],.full T22 []]) false),(33,.buf T22 k 0 true)]
noncomputable def cd0 : Code:=cL (cL (cR (cL (cR (cR (cR (cB Tryz.f35)))))))
def St3 (a b c : Int) (d : D8) (e f : D1) (g : Int) : St:=stL 80 [(1,.data T1 a),(2,.data T1 b),(3,.data T1 c),(4,.ref 4 0 []),(8,.ref 8 0 [])] [(4,.cell T21 (.data T21 d) false),(8,.cell T21 (.agg T21 [.data T19 e,.data T19 f,.data T1 g,.full T22 [],.full T22 []]) false)]
def l0s (Nx : Int->Int->Int->Int->Int->D8->D1->D1->Int->D9->Option α) (Rt : Bool->Int->D8->Option α) (Xt0 : Int->Int->Int->D8->D1->D1->Int->Option α) (b d : Int) (e f a : Int) (g : D8) (i j : D1) (k : Int) (c : D9) : Option α :=
 if (decide (a < f)) = true then
  if 0 <= a /\ a < (c.length : Int) then
   if ((List.getD c (Int.toNat a) (0,0,0,0,())).1 == b) = true then
    Rt false 8 ([0,0,0],[0,0,0],0,[],[],())
   else
    Nx b d e f (IntKind.i64.wrap (a + 1)) g i j k c
  else none
 else
  Xt0 b d e g i j k
theorem l0s_eq (k : Nat) (next : St->Option α) (Q : Ex->St->Option α) (a b : Int) (c i j : Int) (d : D8) (e f : D1) (g : Int) (l : D9) :
  rnd C k cd0 21 Q next (St2 a b c i j d e f g l) = l0s (fun a b c i j d e f g l=>next (St2 a b c i j d e f g l)) (fun m n o=>Q .ret (St1 m n o)) (fun a b c d e f g=>Q (.exit 0) (St3 a b c d e f g)) a b c i j d e f g l:=plainly Js (by kernel_rfl)
def l0 (k : Nat) (Rt : Bool->Int->D8->Option α) (Xt0 : Int->Int->Int->D8->D1->D1->Int->Option α) : Nat->Int->Int->Int->Int->Int->D8->D1->D1->Int->D9->Option α
 | 0,_,_,_,_,_,_,_,_,_,_=>none
 | n + 1,a,b,c,d,e,f,g,i,j,l=>l0s (l0 k Rt Xt0 n) Rt Xt0 a b c d e f g i j l
theorem l0_eq (k : Nat) (Q : Ex->St->Option α) : ∀ (n : Nat) (a b : Int) (c i j : Int) (d : D8) (e f : D1) (g : Int) (l : D9),iter (rnd C k cd0 21 Q) n (St2 a b c i j d e f g l) = l0 k (fun m o p=>Q .ret (St1 m o p)) (fun a b c d e f g=>Q (.exit 0) (St3 a b c d e f g)) n a b c i j d e f g l
 | 0,_,_,_,_,_,_,_,_,_,_=>rfl
 | n + 1,a,b,c,i,j,d,e,f,g,l=>(iter_succ _ _ _).trans ((l0s_eq k _ Q a b c i j d e f g l).trans (congrArg (fun N=>l0s N (fun m o p=>Q .ret (St1 m o p)) (fun a b c d e f g=>Q (.exit 0) (St3 a b c d e f g)) a b c i j d e f g l) (by funext; exact l0_eq k Q n _ _ _ _ _ _ _ _ _ _)))
theorem l0_congr (k : Nat) (Rt : Bool->Int->D8->Option α) (Xt0 : Int->Int->Int->D8->D1->D1->Int->Option α) (Rtq : Bool->Int->D8->Option α) (Xt0q : Int->Int->Int->D8->D1->D1->Int->Option α) (hRt : ∀ (i : Bool) (j : Int) (l : D8),Rt i j l = Rtq i j l) (hXt0 : ∀ (a b c : Int) (d : D8) (e f : D1) (g : Int),Xt0 a b c d e f g = Xt0q a b c d e f g) (n : Nat) (a b : Int) (c m o : Int) (d : D8) (e f : D1) (g : Int) (p : D9) : l0 k Rt Xt0 n a b c m o d e f g p = l0 k Rtq Xt0q n a b c m o d e f g p:=by
 obtain rfl : Rt = Rtq:=by funext i; funext j; funext l; exact hRt i j l
 obtain rfl : Xt0 = Xt0q:=by funext a; funext b; funext c; funext d; funext e; funext f; funext g; exact hXt0 a b c d e f g
 rfl
noncomputable def cd1 : Code:=cR (cR (cR (cR (cB Tryz.f35))))
def St4 (a b c : Int) (d : D8) (e f : D1) (g : Int) : St:=stL 80 [(1,.data T1 a),(2,.data T1 b),(3,.data T1 c),(4,.ref 4 0 []),(8,.ref 8 0 [])] [(4,.cell T21 (.data T21 d) false),(8,.cell T21 (.agg T21 [.data T19 e,.data T19 f,.data T1 g,.full T22 [],.full T22 []]) false)]
def j0 (Rt : Bool->Int->D8->Option α) (b c d : Int) (a : D8) (f g : D1) (i : Int) : Option α :=
 (basculeref_passes.run a (b,c,d,a.2.2.1,())).bind fun e =>
 if e = true then
  if fitB (0 + a.2.2.2.1.length) 32 = true then
   if fitB (a.2.2.2.1.length + 1) 32 = true then
    Rt true 0 (a.1,a.2.1,a.2.2.1,(a.2.2.2.1 ++ [(b,c,d,a.2.2.1,())]),a.2.2.2.2.1,())
   else none
  else none
 else
  if (decide ((a.2.2.2.2.1.length : Int) >= 40)) = true then
   Rt false 9 ([0,0,0],[0,0,0],0,[],[],())
  else
   if fitB (0 + a.2.2.2.2.1.length) 32 = true then
    if fitB (a.2.2.2.2.1.length + 1) 32 = true then
     Rt false 0 (a.1,a.2.1,a.2.2.1,a.2.2.2.1,(a.2.2.2.2.1 ++ [(b,c,d,a.2.2.1,())]),())
    else none
   else none
theorem j0_eq (k : Nat) (Q : Ex->St->Option α) (a b c : Int) (d : D8) (e f : D1) (g : Int) :
  (den C k) cd1 Q (St4 a b c d e f g) = j0 (fun i j l=>Q .ret (St1 i j l)) a b c d e f g:=plainly Js (by kernel_rfl)
theorem a0 (k : Nat) (Q : Ex->St->Option α) (a c : Int) (d n o : Int) (e : D8) (f g : D1) (i : Int) (p : D9) :
  (lp C k) cd0 (blkQ C 0 (sq (den C k) (lp C k) Js C cd1 Q)) (St2 a c d n o e f g i p) = l0 k (fun j l m=>(fun j l m=>Q .ret (St1 j l m)) j l m) (fun a c d e f g i=>j0 (fun j l m=>Q .ret (St1 j l m)) a c d e f g i) k a c d n o e f g i p :=
 (lp_iter 21 (by kernel_rfl)).trans ((l0_eq k _ k a c d n o e f g i p).trans (l0_congr k _ _ _ _ (fun j l m=>(by kernel_rfl)) (fun a c d e f g i=>(Eq.trans (b:=(den C k) cd1 Q (St4 a c d e f g i)) (by kernel_rfl) (by simp only [j0_eq]))) k a c d n o e f g i p))
def top (k : Nat) (Rt : Bool->Int->D8->Option α) (a : D8) (d b c : Int) : Option α :=
 (basculeref_GateFault.run a).bind fun e =>
 if (e != 0) = true then
  Rt false e ([0,0,0],[0,0,0],0,[],[],())
 else
  (basculeref_upTo.run b 1073741824).bind fun f =>
  (if ((not f) == false) = true then basculeref_upTo.run c 2 else some false).bind fun g =>
  if (cond (not f) true (not g)) = true then
   Rt false 6 ([0,0,0],[0,0,0],0,[],[],())
  else
   if fitB (0 + a.2.2.2.1.length) 32 = true then
    if fitB (a.2.2.2.1.length + a.2.2.2.2.1.length) 32 = true then
     l0 k (fun i j l=>Rt i j l) (fun d b c m n o p=>j0 Rt d b c m n o p) k d b c ((a.2.2.2.1 ++ a.2.2.2.2.1).length : Int) 0 a [0,0,0] [0,0,0] 0 (a.2.2.2.1 ++ a.2.2.2.2.1)
    else none
   else none
theorem top_eq (k : Nat) (Q : Ex->St->Option α) (a : D8) (d b c : Int) :
  (den C k) (cB Tryz.f35) Q (St0 a d b c) = top k (fun g i j=>Q .ret (St1 g i j)) a d b c:=by
 have h : ∀ (D L : DT α),denJ D L Js C (cB Tryz.f35) Q (St0 a d b c) =
    (basculeref_GateFault.run a).bind fun e =>
    if (e != 0) = true then
     Q .ret (St1 false e ([0,0,0],[0,0,0],0,[],[],()))
    else
     (basculeref_upTo.run b 1073741824).bind fun f =>
     (if ((not f) == false) = true then basculeref_upTo.run c 2 else some false).bind fun l =>
     if (cond (not f) true (not l)) = true then
      Q .ret (St1 false 6 ([0,0,0],[0,0,0],0,[],[],()))
     else
      if fitB (0 + a.2.2.2.1.length) 32 = true then
       if fitB (a.2.2.2.1.length + a.2.2.2.2.1.length) 32 = true then
        L cd0 (blkQ C 0 (sq D L Js C cd1 Q)) (St2 d b c ((a.2.2.2.1 ++ a.2.2.2.2.1).length : Int) 0 a [0,0,0] [0,0,0] 0 (a.2.2.2.1 ++ a.2.2.2.2.1))
       else none
      else none:=by
  intro D L; kernel_rfl
 have h2:=via (k:=k) h
 refine h2.trans ?_
 simp only [a0]
 first | rfl | kernel_rfl
def run (a : D8) (b c d : Int) : Option D13:=top (α:=D8 × Bool × Int × Unit) fuel (fun e f g=>some (g,e,f,())) a b c d
def F : Fn:=⟨T28,T29,true,fun x=>run x.1 x.2.1 x.2.2.1 x.2.2.2.1⟩
theorem con : Con Tryz.prog 35 F /\ Named Tryz.prog 35 :=
 con_of2 (C:=C) (ctx_ok (by kernel_rfl) (by kernel_rfl) (by kernel_rfl) (by kernel_rfl) ⟨.inl basculeref_upTo.con,⟨.inl basculeref_GateFault.con,⟨.inl basculeref_passes.con,trivial⟩⟩⟩) (by kernel_rfl) Tryz.func35 (by kernel_rfl) (c:=cB Tryz.f35) (by kernel_rfl) (by kernel_rfl) F (fun x=>by simp [F,spread,Tryz.ntmps35]) (fun x=>(St0 x.1 x.2.1 x.2.2.1 x.2.2.2.1)) (fun x=>by kernel_rfl) fun x=>(top_eq fuel _ x.1 x.2.1 x.2.2.1 x.2.2.2.1).trans (by kernel_rfl)
end Go.Bx.basculeref_Offered
namespace Go.Bx.wide_Cmp
def Js : List Nat:=[9]
def C : Ctx:=⟨[(3,T1),(22,T37),(24,T30)],[],[],fnL [],noSh,[],invL [],[(2,[4]),(1,[]),(4,[2,3,5]),(7,[2,3,5]),(6,[2,3,5]),(24,[])],[],[],0,0⟩
def St0 (a b : D1) : St:=stL 26 [(0,.data T30 a),(1,.data T30 b)] []
def St1 (a : Int) (b c : D1) : St:=stL 26 [(2,.ref 2 0 []),(3,.ref 3 0 []),(5,.data T1 a)] [(2,.cell T30 (.data T30 b) false),(3,.cell T30 (.data T30 c) false)]
noncomputable def cd0 : Code:=cL (cL (cR (cL (cR (cB Tryz.f113)))))
def St2 (a : Int) : St:=stL 26 [(4,.data T1 a)] []
def St3 : St:=stL 26 [] []
def l0s (Nx : Int->D1->D1->Option α) (Rt : Int->Option α) (Xt0 : Option α) (a : Int) (b c : D1) : Option α :=
 if (decide (a >= 0)) = true then
  if 0 <= a /\ a < (4 : Int) then
   if 0 <= a /\ a < (4 : Int) then
    if (decide ((List.getD b (Int.toNat a) 0) < (List.getD c (Int.toNat a) 0))) = true then
     Rt (-1)
    else
     if 0 <= a /\ a < (4 : Int) then
      if 0 <= a /\ a < (4 : Int) then
       if (decide ((List.getD b (Int.toNat a) 0) > (List.getD c (Int.toNat a) 0))) = true then
        Rt 1
       else
        Nx (IntKind.i64.wrap (a - 1)) b c
      else none
     else none
   else none
  else none
 else
  Xt0
theorem l0s_eq (k : Nat) (next : St->Option α) (Q : Ex->St->Option α) (a : Int) (b c : D1) :
  rnd C k cd0 6 Q next (St1 a b c) = l0s (fun a b c=>next (St1 a b c)) (fun d=>Q .ret (St2 d)) (Q (.exit 0) St3) a b c:=plainly Js (by kernel_rfl)
def l0 (k : Nat) (Rt : Int->Option α) (Xt0 : Option α) : Nat->Int->D1->D1->Option α
 | 0,_,_,_=>none
 | n + 1,a,b,c=>l0s (l0 k Rt Xt0 n) Rt Xt0 a b c
theorem l0_eq (k : Nat) (Q : Ex->St->Option α) : ∀ (n : Nat) (a : Int) (b c : D1),iter (rnd C k cd0 6 Q) n (St1 a b c) = l0 k (fun d=>Q .ret (St2 d)) (Q (.exit 0) St3) n a b c
 | 0,_,_,_=>rfl
 | n + 1,a,b,c=>(iter_succ _ _ _).trans ((l0s_eq k _ Q a b c).trans (congrArg (fun N=>l0s N (fun d=>Q .ret (St2 d)) (Q (.exit 0) St3) a b c) (by funext; exact l0_eq k Q n _ _ _)))
theorem l0_congr (k : Nat) (Rt : Int->Option α) (Xt0 : Option α) (Rtq : Int->Option α) (Xt0q : Option α) (hRt : ∀ (a : Int),Rt a = Rtq a) (hXt0 : Xt0 = Xt0q) (n : Nat) (b : Int) (c d : D1) : l0 k Rt Xt0 n b c d = l0 k Rtq Xt0q n b c d:=by
 obtain rfl : Rt = Rtq:=by funext a; exact hRt a
 obtain rfl : Xt0 = Xt0q:=hXt0
 rfl
noncomputable def cd1 : Code:=cR (cR (cB Tryz.f113))
def St4 : St:=stL 26 [] []
def j0 (Rt : Int->Option α) : Option α :=
 Rt 0
theorem j0_eq (k : Nat) (Q : Ex->St->Option α) :
  (den C k) cd1 Q St4 = j0 (fun a=>Q .ret (St2 a)):=plainly Js (by kernel_rfl)
theorem a0 (k : Nat) (Q : Ex->St->Option α) (c : Int) (d e : D1) :
  (lp C k) cd0 (blkQ C 0 (sq (den C k) (lp C k) Js C cd1 Q)) (St1 c d e) = l0 k (fun a=>(fun a=>Q .ret (St2 a)) a) (j0 (fun a=>Q .ret (St2 a))) k c d e :=
 (lp_iter 6 (by kernel_rfl)).trans ((l0_eq k _ k c d e).trans (l0_congr k _ _ _ _ (fun a=>(by kernel_rfl)) (Eq.trans (b:=(den C k) cd1 Q St4) (by kernel_rfl) (by simp only [j0_eq])) k c d e))
def top (k : Nat) (Rt : Int->Option α) (a b : D1) : Option α :=
 l0 k (fun c=>Rt c) (j0 Rt) k 3 a b
theorem top_eq (k : Nat) (Q : Ex->St->Option α) (a b : D1) :
  (den C k) (cB Tryz.f113) Q (St0 a b) = top k (fun c=>Q .ret (St2 c)) a b:=by
 have h : ∀ (D L : DT α),denJ D L Js C (cB Tryz.f113) Q (St0 a b) =
    L cd0 (blkQ C 0 (sq D L Js C cd1 Q)) (St1 3 a b):=by
  intro D L; kernel_rfl
 have h2:=via (k:=k) h
 refine h2.trans ?_
 simp only [a0]
 first | rfl | kernel_rfl
def run (a b : D1) : Option (Int):=top (α:=Int) fuel (fun c=>some c) a b
def F : Fn:=⟨T38,T1,false,fun x=>run x.1 x.2.1⟩
theorem con : Con Tryz.prog 113 F /\ Named Tryz.prog 113 :=
 con_of2 (C:=C) (ctx_ok (by kernel_rfl) (by kernel_rfl) (by kernel_rfl) (by kernel_rfl) trivial) (by kernel_rfl) Tryz.func113 (by kernel_rfl) (c:=cB Tryz.f113) (by kernel_rfl) (by kernel_rfl) F (fun x=>by simp [F,spread,Tryz.ntmps113]) (fun x=>(St0 x.1 x.2.1)) (fun x=>by kernel_rfl) fun x=>(top_eq fuel _ x.1 x.2.1).trans (by kernel_rfl)
end Go.Bx.wide_Cmp
namespace Go.Bx.load_same
def Js : List Nat:=[]
def C : Ctx:=⟨[(3,T1),(4,.bool),(9,.str),(24,T30),(29,T3),(35,T12),(114,T31),(116,T32)],[],[],fnL [],noSh,[],invL [],[(2,[4])],[],[],0,0⟩
def St0 (a b : D14) : St:=stL 93 [(0,.data T32 a),(1,.data T32 b)] []
def St1 (a : Bool) : St:=stL 93 [(4,.data .bool a)] []
def top (Rt : Bool->Option α) (a b : D14) : Option α :=
 Rt (cond (cond (cond (cond (cond (cond (cond (cond (cond (cond (cond (a.1 == b.1) (beqD T30 a.2.1 b.2.1) false) (beqD T30 a.2.2.1 b.2.2.1) false) (beqD T12 a.2.2.2.1 b.2.2.2.1) false) (a.2.2.2.2.1 == b.2.2.2.2.1) false) (beqD T12 a.2.2.2.2.2.1 b.2.2.2.2.2.1) false) (a.2.2.2.2.2.2.1 == b.2.2.2.2.2.2.1) false) (a.2.2.2.2.2.2.2.1 == b.2.2.2.2.2.2.2.1) false) (beqD .str a.2.2.2.2.2.2.2.2.1 b.2.2.2.2.2.2.2.2.1) false) (a.2.2.2.2.2.2.2.2.2.2.1 == b.2.2.2.2.2.2.2.2.2.2.1) false) (beqD .str a.2.2.2.2.2.2.2.2.2.1 b.2.2.2.2.2.2.2.2.2.1) false) ((a.2.2.2.2.2.2.2.2.2.2.2.1.length : Int) == (b.2.2.2.2.2.2.2.2.2.2.2.1.length : Int)) false)
theorem top_eq (k : Nat) (Q : Ex->St->Option α) (a b : D14) :
  (den C k) (cB Tryz.f91) Q (St0 a b) = top (fun c=>Q .ret (St1 c)) a b:=plainly Js (by kernel_rfl)
def run (a b : D14) : Option (Bool):=top (α:=Bool) (fun c=>some c) a b
def F : Fn:=⟨T33,.bool,false,fun x=>run x.1 x.2.1⟩
theorem con : Con Tryz.prog 91 F /\ Named Tryz.prog 91 :=
 con_of2 (C:=C) (ctx_ok (by kernel_rfl) (by kernel_rfl) (by kernel_rfl) (by kernel_rfl) trivial) (by kernel_rfl) Tryz.func91 (by kernel_rfl) (c:=cB Tryz.f91) (by kernel_rfl) (by kernel_rfl) F (fun x=>by simp [F,spread,Tryz.ntmps91]) (fun x=>(St0 x.1 x.2.1)) (fun x=>by kernel_rfl) fun x=>(top_eq fuel _ x.1 x.2.1).trans (by kernel_rfl)
end Go.Bx.load_same
namespace Go.Bx.load_transfer__bare
def Js : List Nat:=[]
def C : Ctx:=⟨[(3,T1),(24,T30),(29,T3),(35,T12),(116,T32),(147,T34)],[],[],fnL [],noSh,[],invL [],[(2,[4])],[],[],0,0⟩
def St0 (a : D15) (b : D14) : St:=stL 22 [(0,.data T34 a),(1,.data T32 b)] []
def St1 (a : Int) (b c d : D1) (e : Int) (f : D1) (g i : Int) (j k : D1) (l : Int) : St:=stL 22 [(4,.ref 4 0 [])] [(4,.cell T32 (.agg T32 [.data T1 a,.data T30 b,.data T30 c,.data T12 d,.data T1 e,.data T12 f,.data T1 g,.data T1 i,.data .str j,.data T3 k,.data T1 l,.full T35 []]) false)]
def top (Rt : Int->D1->D1->D1->Int->D1->Int->Int->D1->D1->Int->Option α) (b : D15) (a : D14) : Option α :=
 Rt a.1 a.2.1 a.2.2.1 a.2.2.2.1 a.2.2.2.2.1 a.2.2.2.2.2.1 a.2.2.2.2.2.2.1 0 [] a.2.2.2.2.2.2.2.2.2.1 0
theorem top_eq (k : Nat) (Q : Ex->St->Option α) (a : D15) (b : D14) :
  (den C k) (cB Tryz.f108) Q (St0 a b) = top (fun c d e f g i j l m n o=>Q .ret (St1 c d e f g i j l m n o)) a b:=plainly Js (by kernel_rfl)
def run (a : D15) (b : D14) : Option D14:=top (α:=Int × List Int × List Int × List Int × Int × List Int × Int × Int × List Int × List Int × Int × List D1 × Unit) (fun c d e f g i j k l m n=>some (c,d,e,f,g,i,j,k,l,m,n,[],())) a b
def F : Fn:=⟨T36,T32,false,fun x=>run x.1 x.2.1⟩
theorem con : Con Tryz.prog 108 F /\ Named Tryz.prog 108 :=
 con_of2 (C:=C) (ctx_ok (by kernel_rfl) (by kernel_rfl) (by kernel_rfl) (by kernel_rfl) trivial) (by kernel_rfl) Tryz.func108 (by kernel_rfl) (c:=cB Tryz.f108) (by kernel_rfl) (by kernel_rfl) F (fun x=>by simp [F,spread,Tryz.ntmps108]) (fun x=>(St0 x.1 x.2.1)) (fun x=>by kernel_rfl) fun x=>(top_eq fuel _ x.1 x.2.1).trans (by kernel_rfl)
end Go.Bx.load_transfer__bare
namespace Go.Bx.load_small
def Js : List Nat:=[]
def C : Ctx:=⟨[(3,T1),(4,.bool)],[],[],fnL [],noSh,[],invL [],[(2,[4])],[],[],0,0⟩
def St0 (a b : Int) : St:=stL 12 [(0,.data T1 a),(1,.data T1 b)] []
def St1 (a : Bool) : St:=stL 12 [(4,.data .bool a)] []
def top (Rt : Bool->Option α) (a b : Int) : Option α :=
 Rt (cond (decide (a >= 0)) (decide (a <= b)) false)
theorem top_eq (k : Nat) (Q : Ex->St->Option α) (a b : Int) :
  (den C k) (cB Tryz.f112) Q (St0 a b) = top (fun c=>Q .ret (St1 c)) a b:=plainly Js (by kernel_rfl)
def run (a b : Int) : Option (Bool):=top (α:=Bool) (fun c=>some c) a b
def F : Fn:=⟨T2,.bool,false,fun x=>run x.1 x.2.1⟩
theorem con : Con Tryz.prog 112 F /\ Named Tryz.prog 112 :=
 con_of2 (C:=C) (ctx_ok (by kernel_rfl) (by kernel_rfl) (by kernel_rfl) (by kernel_rfl) trivial) (by kernel_rfl) Tryz.func112 (by kernel_rfl) (c:=cB Tryz.f112) (by kernel_rfl) (by kernel_rfl) F (fun x=>by simp [F,spread,Tryz.ntmps112]) (fun x=>(St0 x.1 x.2.1)) (fun x=>by kernel_rfl) fun x=>(top_eq fuel _ x.1 x.2.1).trans (by kernel_rfl)
end Go.Bx.load_small
namespace Go.Bx.load_transfer__check
def Js : List Nat:=[]
def C : Ctx:=⟨[(3,T1),(4,.bool),(24,T30),(29,T3),(116,T32),(147,T34)],[],[],fnL [(112,load_small.F),(113,wide_Cmp.F)],noSh,[],invL [],[(2,[4])],[],[],0,0⟩
def St0 (a : D15) (b : D14) : St:=stL 42 [(0,.data T34 a),(1,.data T32 b)] []
def St1 (a : Bool) : St:=stL 42 [(4,.data .bool a)] []
def top (Rt : Bool->Option α) (c : D15) (a : D14) : Option α :=
 (load_small.run a.2.2.2.2.1 65535).bind fun b =>
 (if (b == true) = true then load_small.run a.2.2.2.2.2.2.1 65535 else some false).bind fun d =>
 (if ((cond b d false) == true) = true then wide_Cmp.run a.2.2.1 a.2.1 else some 0).bind fun e =>
 Rt (cond (cond (cond b d false) (decide (e <= 0)) false) (cond (cond c.1 (decide ((a.2.2.2.2.2.2.2.2.2.1.length : Int) <= 100)) false) true (cond (not c.1) ((a.2.2.2.2.2.2.2.2.2.1.length : Int) == 0) false)) false)
theorem top_eq (k : Nat) (Q : Ex->St->Option α) (a : D15) (b : D14) :
  (den C k) (cB Tryz.f109) Q (St0 a b) = top (fun c=>Q .ret (St1 c)) a b:=plainly Js (by kernel_rfl)
def run (a : D15) (b : D14) : Option (Bool):=top (α:=Bool) (fun c=>some c) a b
def F : Fn:=⟨T36,.bool,false,fun x=>run x.1 x.2.1⟩
theorem con : Con Tryz.prog 109 F /\ Named Tryz.prog 109 :=
 con_of2 (C:=C) (ctx_ok (by kernel_rfl) (by kernel_rfl) (by kernel_rfl) (by kernel_rfl) ⟨.inl load_small.con,⟨.inl wide_Cmp.con,trivial⟩⟩) (by kernel_rfl) Tryz.func109 (by kernel_rfl) (c:=cB Tryz.f109) (by kernel_rfl) (by kernel_rfl) F (fun x=>by simp [F,spread,Tryz.ntmps109]) (fun x=>(St0 x.1 x.2.1)) (fun x=>by kernel_rfl) fun x=>(top_eq fuel _ x.1 x.2.1).trans (by kernel_rfl)
end Go.Bx.load_transfer__check
namespace Go.Bx.load_meta__bare
def Js : List Nat:=[]
def C : Ctx:=⟨[(3,T1),(9,.str),(35,T12),(116,T32),(149,.unit)],[],[],fnL [],noSh,[],invL [],[(2,[4])],[],[],0,0⟩
def St0 (a : Unit) (b : D14) : St:=stL 16 [(0,.data .unit a),(1,.data T32 b)] []
def St1 (a : Int) (b c d : D1) (e : Int) (f : D1) (g i : Int) (j : D1) (k : Int) : St:=stL 16 [(4,.ref 4 0 [])] [(4,.cell T32 (.agg T32 [.data T1 a,.data T30 b,.data T30 c,.data T12 d,.data T1 e,.data T12 f,.data T1 g,.data T1 i,.data .str j,.full T6 [],.data T1 k,.full T35 []]) false)]
def top (Rt : Int->D1->D1->D1->Int->D1->Int->Int->D1->Int->Option α) (b : Unit) (a : D14) : Option α :=
 Rt a.1 [0,0,0,0] [0,0,0,0] a.2.2.2.1 a.2.2.2.2.1 (List.replicate 32 0) 0 a.2.2.2.2.2.2.2.1 a.2.2.2.2.2.2.2.2.1 0
theorem top_eq (k : Nat) (Q : Ex->St->Option α) (a : Unit) (b : D14) :
  (den C k) (cB Tryz.f115) Q (St0 a b) = top (fun c d e f g i j l m n=>Q .ret (St1 c d e f g i j l m n)) a b:=plainly Js (by kernel_rfl)
def run (a : Unit) (b : D14) : Option D14:=top (α:=Int × List Int × List Int × List Int × Int × List Int × Int × Int × List Int × List Int × Int × List D1 × Unit) (fun c d e f g i j k l m=>some (c,d,e,f,g,i,j,k,l,[],m,[],())) a b
def F : Fn:=⟨T39,T32,false,fun x=>run x.1 x.2.1⟩
theorem con : Con Tryz.prog 115 F /\ Named Tryz.prog 115 :=
 con_of2 (C:=C) (ctx_ok (by kernel_rfl) (by kernel_rfl) (by kernel_rfl) (by kernel_rfl) trivial) (by kernel_rfl) Tryz.func115 (by kernel_rfl) (c:=cB Tryz.f115) (by kernel_rfl) (by kernel_rfl) F (fun x=>by simp [F,spread,Tryz.ntmps115]) (fun x=>(St0 x.1 x.2.1)) (fun x=>by kernel_rfl) fun x=>(top_eq fuel _ x.1 x.2.1).trans (by kernel_rfl)
end Go.Bx.load_meta__bare
namespace Go.Bx.load_meta__check
def Js : List Nat:=[8]
def C : Ctx:=⟨[(3,T1),(4,.bool),(5,T6),(9,.str),(29,T3),(116,T32),(149,.unit)],[],[],fnL [(112,load_small.F)],noSh,[],invL [],[(2,[4]),(1,[5]),(4,[5,24,25,26]),(9,[5,24,25,26]),(21,[5])],[],[],0,0⟩
def St0 (a : Unit) (b : D14) : St:=stL 37 [(0,.data .unit a),(1,.data T32 b)] []
def St1 (a : Bool) (b : D1) (c d : Int) : St:=stL 37 [(5,.data .bool a),(24,.data T3 b),(25,.data T1 c),(26,.data T1 d)] []
noncomputable def cd0 : Code:=cL (cL (cR (cL (cR (cR (cB Tryz.f116))))))
def St2 (a : Bool) : St:=stL 37 [(5,.data .bool a)] []
def l0s (Nx : Bool->D1->Int->Int->Option α) (Xt0 : Bool->Option α) (c : Bool) (b : D1) (d a : Int) : Option α :=
 if (decide (a < d)) = true then
  if 0 <= a /\ a < (b.length : Int) then
   Nx (cond c ((List.getD b (Int.toNat a) 0) != 0) false) b d (IntKind.i64.wrap (a + 1))
  else none
 else
  Xt0 c
theorem l0s_eq (k : Nat) (next : St->Option α) (Q : Ex->St->Option α) (a : Bool) (b : D1) (c d : Int) :
  rnd C k cd0 9 Q next (St1 a b c d) = l0s (fun a b c d=>next (St1 a b c d)) (fun a=>Q (.exit 0) (St2 a)) a b c d:=plainly Js (by kernel_rfl)
def l0 (k : Nat) (Xt0 : Bool->Option α) : Nat->Bool->D1->Int->Int->Option α
 | 0,_,_,_,_=>none
 | n + 1,a,b,c,d=>l0s (l0 k Xt0 n) Xt0 a b c d
theorem l0_eq (k : Nat) (Q : Ex->St->Option α) : ∀ (n : Nat) (a : Bool) (b : D1) (c d : Int),iter (rnd C k cd0 9 Q) n (St1 a b c d) = l0 k (fun a=>Q (.exit 0) (St2 a)) n a b c d
 | 0,_,_,_,_=>rfl
 | n + 1,a,b,c,d=>(iter_succ _ _ _).trans ((l0s_eq k _ Q a b c d).trans (congrArg (fun N=>l0s N (fun a=>Q (.exit 0) (St2 a)) a b c d) (by funext; exact l0_eq k Q n _ _ _ _)))
noncomputable def cd1 : Code:=cR (cR (cR (cB Tryz.f116)))
def St3 (a : Bool) : St:=stL 37 [(5,.data .bool a)] []
def St4 (a : Bool) : St:=stL 37 [(4,.data .bool a)] []
def j0 (Rt : Bool->Option α) (a : Bool) : Option α :=
 Rt a
theorem j0_eq (k : Nat) (Q : Ex->St->Option α) (a : Bool) :
  (den C k) cd1 Q (St3 a) = j0 (fun b=>Q .ret (St4 b)) a:=plainly Js (by kernel_rfl)
theorem a0 (k : Nat) (Q : Ex->St->Option α) (a : Bool) (c : D1) (d e : Int) :
  (lp C k) cd0 (blkQ C 0 (sq (den C k) (lp C k) Js C cd1 Q)) (St1 a c d e) = l0 k (fun a=>j0 (fun f=>Q .ret (St4 f)) a) k a c d e :=
 (lp_iter 9 (by kernel_rfl)).trans ((l0_eq k _ k a c d e).trans (congrArg (fun X=>l0 k X k a c d e) (funext fun a=>(Eq.trans (b:=(den C k) cd1 Q (St3 a)) (by kernel_rfl) (by simp only [j0_eq])))))
def top (k : Nat) (Rt : Bool->Option α) (e : Unit) (a : D14) : Option α :=
 (load_small.run a.2.2.2.2.1 65535).bind fun b =>
 (if (b == true) = true then load_small.run a.2.2.2.2.2.2.2.1 77 else some false).bind fun c =>
 l0 k (fun d=>j0 Rt d) k (cond (cond b c false) (decide ((a.2.2.2.2.2.2.2.2.1.length : Int) <= 32)) false) a.2.2.2.2.2.2.2.2.1 (a.2.2.2.2.2.2.2.2.1.length : Int) 0
theorem top_eq (k : Nat) (Q : Ex->St->Option α) (b : Unit) (a : D14) :
  (den C k) (cB Tryz.f116) Q (St0 b a) = top k (fun d=>Q .ret (St4 d)) b a:=by
 have h : ∀ (D L : DT α),denJ D L Js C (cB Tryz.f116) Q (St0 b a) =
    (load_small.run a.2.2.2.2.1 65535).bind fun c =>
    (if (c == true) = true then load_small.run a.2.2.2.2.2.2.2.1 77 else some false).bind fun e =>
    L cd0 (blkQ C 0 (sq D L Js C cd1 Q)) (St1 (cond (cond c e false) (decide ((a.2.2.2.2.2.2.2.2.1.length : Int) <= 32)) false) a.2.2.2.2.2.2.2.2.1 (a.2.2.2.2.2.2.2.2.1.length : Int) 0):=by
  intro D L; kernel_rfl
 have h2:=via (k:=k) h
 refine h2.trans ?_
 simp only [a0]
 first | rfl | kernel_rfl
def run (a : Unit) (b : D14) : Option (Bool):=top (α:=Bool) fuel (fun c=>some c) a b
def F : Fn:=⟨T39,.bool,false,fun x=>run x.1 x.2.1⟩
theorem con : Con Tryz.prog 116 F /\ Named Tryz.prog 116 :=
 con_of2 (C:=C) (ctx_ok (by kernel_rfl) (by kernel_rfl) (by kernel_rfl) (by kernel_rfl) ⟨.inl load_small.con,trivial⟩) (by kernel_rfl) Tryz.func116 (by kernel_rfl) (c:=cB Tryz.f116) (by kernel_rfl) (by kernel_rfl) F (fun x=>by simp [F,spread,Tryz.ntmps116]) (fun x=>(St0 x.1 x.2.1)) (fun x=>by kernel_rfl) fun x=>(top_eq fuel _ x.1 x.2.1).trans (by kernel_rfl)
end Go.Bx.load_meta__check
namespace Go.Bx.load_turn__bare
def Js : List Nat:=[]
def C : Ctx:=⟨[(3,T1),(114,T31),(116,T32),(150,.unit)],[],[],fnL [],noSh,[],invL [],[(2,[4])],[],[],0,0⟩
def St0 (a : Unit) (b : D14) : St:=stL 12 [(0,.data .unit a),(1,.data T32 b)] []
def St1 (a : Int) (b c d : D1) (e : Int) (f : D1) (g i : Int) (j : D1) (k : Int) (l : D16) : St:=stL 12 [(4,.ref 4 0 [])] [(4,.cell T32 (.agg T32 [.data T1 a,.data T30 b,.data T30 c,.data T12 d,.data T1 e,.data T12 f,.data T1 g,.data T1 i,.data .str j,.full T6 [],.data T1 k,.data T31 l]) false)]
def top (Rt : Int->D1->D1->D1->Int->D1->Int->Int->D1->Int->D16->Option α) (b : Unit) (a : D14) : Option α :=
 Rt a.1 [0,0,0,0] [0,0,0,0] (List.replicate 32 0) 0 (List.replicate 32 0) 0 0 [] a.2.2.2.2.2.2.2.2.2.2.1 a.2.2.2.2.2.2.2.2.2.2.2.1
theorem top_eq (k : Nat) (Q : Ex->St->Option α) (a : Unit) (b : D14) :
  (den C k) (cB Tryz.f119) Q (St0 a b) = top (fun c d e f g i j l m n o=>Q .ret (St1 c d e f g i j l m n o)) a b:=plainly Js (by kernel_rfl)
def run (a : Unit) (b : D14) : Option D14:=top (α:=Int × List Int × List Int × List Int × Int × List Int × Int × Int × List Int × List Int × Int × List D1 × Unit) (fun c d e f g i j k l m n=>some (c,d,e,f,g,i,j,k,l,[],m,n,())) a b
def F : Fn:=⟨T39,T32,false,fun x=>run x.1 x.2.1⟩
theorem con : Con Tryz.prog 119 F /\ Named Tryz.prog 119 :=
 con_of2 (C:=C) (ctx_ok (by kernel_rfl) (by kernel_rfl) (by kernel_rfl) (by kernel_rfl) trivial) (by kernel_rfl) Tryz.func119 (by kernel_rfl) (c:=cB Tryz.f119) (by kernel_rfl) (by kernel_rfl) F (fun x=>by simp [F,spread,Tryz.ntmps119]) (fun x=>(St0 x.1 x.2.1)) (fun x=>by kernel_rfl) fun x=>(top_eq fuel _ x.1 x.2.1).trans (by kernel_rfl)
end Go.Bx.load_turn__bare
namespace Go.Bx.load_turn__check
def Js : List Nat:=[]
def C : Ctx:=⟨[(3,T1),(4,.bool),(114,T31),(116,T32),(150,.unit)],[],[],fnL [(112,load_small.F)],noSh,[],invL [],[(2,[4])],[],[],0,0⟩
def St0 (a : Unit) (b : D14) : St:=stL 20 [(0,.data .unit a),(1,.data T32 b)] []
def St1 (a : Bool) : St:=stL 20 [(4,.data .bool a)] []
def top (Rt : Bool->Option α) (c : Unit) (a : D14) : Option α :=
 (load_small.run a.2.2.2.2.2.2.2.2.2.2.1 4294967295).bind fun b =>
 Rt (cond (cond b (decide ((a.2.2.2.2.2.2.2.2.2.2.2.1.length : Int) >= 1)) false) (decide ((a.2.2.2.2.2.2.2.2.2.2.2.1.length : Int) <= 19)) false)
theorem top_eq (k : Nat) (Q : Ex->St->Option α) (a : Unit) (b : D14) :
  (den C k) (cB Tryz.f120) Q (St0 a b) = top (fun c=>Q .ret (St1 c)) a b:=plainly Js (by kernel_rfl)
def run (a : Unit) (b : D14) : Option (Bool):=top (α:=Bool) (fun c=>some c) a b
def F : Fn:=⟨T39,.bool,false,fun x=>run x.1 x.2.1⟩
theorem con : Con Tryz.prog 120 F /\ Named Tryz.prog 120 :=
 con_of2 (C:=C) (ctx_ok (by kernel_rfl) (by kernel_rfl) (by kernel_rfl) (by kernel_rfl) ⟨.inl load_small.con,trivial⟩) (by kernel_rfl) Tryz.func120 (by kernel_rfl) (c:=cB Tryz.f120) (by kernel_rfl) (by kernel_rfl) F (fun x=>by simp [F,spread,Tryz.ntmps120]) (fun x=>(St0 x.1 x.2.1)) (fun x=>by kernel_rfl) fun x=>(top_eq fuel _ x.1 x.2.1).trans (by kernel_rfl)
end Go.Bx.load_turn__check
namespace Go.Bx.load_kindOf_s0
def Js : List Nat:=[5]
def C : Ctx:=⟨[(147,T34),(149,.unit),(150,.unit)],[],[],fnL [],noSh,[],invL [],[(2,[2,3]),(1,[]),(20,[0,4,5])],[],[],0,0⟩
def St0 (a : Int) : St:=stL 20 [(0,.data T1 a)] []
def St1 (a b : Int) (c : Bool) : St:=stL 20 [(0,.data T1 a),(4,.data T1 b),(5,.data .bool c)] []
noncomputable def cd0 : Code:=cR (cR (cB Tryz.f86))
noncomputable def cd1 : Code:=cR (cL (cR (cL (cR (cB Tryz.f86)))))
def St2 (x2y : D15) (a : Bool) : St:=stL 20 [(2,.ifc 147 (.data T34 x2y)),(3,.data .bool a)] []
def St3 (x2y : Unit) (a : Bool) : St:=stL 20 [(2,.ifc 149 (.data .unit x2y)),(3,.data .bool a)] []
def St4 (x2y : Unit) (a : Bool) : St:=stL 20 [(2,.ifc 150 (.data .unit x2y)),(3,.data .bool a)] []
def St5 (a : Bool) : St:=stL 20 [(3,.data .bool a)] []
def j0 (Rt0 : D15->Bool->Option α) (Rt1 : Unit->Bool->Option α) (Rt2 : Unit->Bool->Option α) (Rt3 : Bool->Option α) (b a : Int) (c : Bool) : Option α :=
 if c = true then
  Rt0 ((b == 3),()) true
 else
  if (a == 2) = true then
   Rt1 () true
  else
   if (a == 4) = true then
    Rt2 () true
   else
    Rt3 false
theorem j0_eq (k : Nat) (Q : Ex->St->Option α) (b c : Int) (d : Bool) :
  (den C k) cd1 (blkQ C 0 (sq (den C k) (lp C k) Js C cd0 (endQ C Q))) (St1 b c d) = j0 (fun x2y a=>Q .ret (St2 x2y a)) (fun x2y a=>Q .ret (St3 x2y a)) (fun x2y a=>Q .ret (St4 x2y a)) (fun a=>Q .ret (St5 a)) b c d:=plainly Js (by kernel_rfl)
def top (Rt0 : D15->Bool->Option α) (Rt1 : Unit->Bool->Option α) (Rt2 : Unit->Bool->Option α) (Rt3 : Bool->Option α) (a : Int) : Option α :=
 if (a == 1) = true then
  j0 Rt0 Rt1 Rt2 Rt3 a a (a == 1)
 else
  j0 Rt0 Rt1 Rt2 Rt3 a a (a == 3)
theorem top_eq (k : Nat) (Q : Ex->St->Option α) (a : Int) :
  (den C k) (cB Tryz.f86) (endQ C Q) (St0 a) = top (fun x2y b=>Q .ret (St2 x2y b)) (fun x2y b=>Q .ret (St3 x2y b)) (fun x2y b=>Q .ret (St4 x2y b)) (fun b=>Q .ret (St5 b)) a:=by
 have h : ∀ (D L : DT α),denJ D L Js C (cB Tryz.f86) (endQ C Q) (St0 a) =
    if (a == 1) = true then
     D cd1 (blkQ C 0 (sq D L Js C cd0 (endQ C Q))) (St1 a a (a == 1))
    else
     D cd1 (blkQ C 0 (sq D L Js C cd0 (endQ C Q))) (St1 a a (a == 3)):=by
  intro D L; kernel_rfl
 have h2:=via (k:=k) h
 refine h2.trans ?_
 simp only [j0_eq]
 first | rfl | kernel_rfl
def run (b : Int) : Option (D17 ⊕ (D18 ⊕ (D18 ⊕ (D15 ⊕ (Empty))))):=top (α:=D17 ⊕ (D18 ⊕ (D18 ⊕ (D15 ⊕ (Empty))))) (fun x2y a=>some (.inl (x2y,a,()))) (fun x2y a=>some (.inr (.inl (x2y,a,())))) (fun x2y a=>some (.inr (.inr (.inl (x2y,a,()))))) (fun a=>some (.inr (.inr (.inr (.inl (a,())))))) b
def Sp : SpecA:=⟨[hD T1],[],T18,[⟨.tup [.ifc 147 (hD T34),hD .bool],[],T40⟩,⟨.tup [.ifc 149 (hD .unit),hD .bool],[],T41⟩,⟨.tup [.ifc 150 (hD .unit),hD .bool],[],T41⟩,⟨.tup [.any,hD .bool],[],T34⟩],fun x=>run x.1⟩
set_option maxRecDepth 100000 in
theorem sok : SOk Tryz.prog 86 Sp.h:=by
 refine sok_of_denA (C:=C) (ctx_ok (by kernel_rfl) (by kernel_rfl) (by kernel_rfl) (by kernel_rfl) trivial) (by kernel_rfl) Tryz.func86 (c:=cB Tryz.f86) (by kernel_rfl) (by kernel_rfl) Sp fuel (by kernel_rfl) (by kernel_rfl) ?_
 intro x r h
 rw [<- h]
 have h1 : Sp.start x Tryz.f86.ntmps = (St0 x.1):=by kernel_rfl
 rw [h1]
 refine (top_eq fuel (finS C Tryz.f86.results.toList Sp.read) x.1).trans ?_
 kernel_rfl
theorem named : Named Tryz.prog 86:=named_of Tryz.func86 (by kernel_rfl) (by kernel_rfl)
end Go.Bx.load_kindOf_s0
namespace Go.Bx.load_Check
def Js : List Nat:=[]
def C : Ctx := ⟨[(3, T1), (38, T1), (116, T32)], [], [], fnL [(91, load_same.F), (108, load_transfer__bare.F), (109, load_transfer__check.F), (115, load_meta__bare.F), (116, load_meta__check.F), (119, load_turn__bare.F), (120, load_turn__check.F)], shL [(86, [.alt load_kindOf_s0.Sp])], [(8, 26)], invL [(147, [("bascule/load.bare", 108), ("bascule/load.check", 109)]), (149, [("bascule/load.bare", 115), ("bascule/load.check", 116)]), (150, [("bascule/load.bare", 119), ("bascule/load.check", 120)])], [(2, [2])], [], [], 0, 0⟩
def St0 (a : D14) : St:=stL 25 [(0,.data T32 a)] []
def St1 (a : Int) : St:=stL 25 [(2,.data T1 a)] []
def top (Rt : Int->Option α) (a : D14) : Option α :=
 (load_kindOf_s0.run a.1).bind fun j=>(Sum.elim (fun b =>
  if (not b.2.1) = true then
   Rt 2
  else
   (load_transfer__check.run b.1 a).bind fun c =>
   (if ((not c) == false) = true then load_transfer__bare.run b.1 a else some (0,[0,0,0,0],[0,0,0,0],(List.replicate 32 0),0,(List.replicate 32 0),0,0,[],[],0,[],())).bind fun k =>
   (if ((not c) == false) = true then load_same.run a k else some false).bind fun l =>
   if (cond (not c) true (not l)) = true then
    Rt 3
   else
    Rt 0) (Sum.elim (fun d =>
  if (not d.2.1) = true then
   Rt 2
  else
   (load_meta__check.run d.1 a).bind fun f =>
   (if ((not f) == false) = true then load_meta__bare.run d.1 a else some (0,[0,0,0,0],[0,0,0,0],(List.replicate 32 0),0,(List.replicate 32 0),0,0,[],[],0,[],())).bind fun m =>
   (if ((not f) == false) = true then load_same.run a m else some false).bind fun n =>
   if (cond (not f) true (not n)) = true then
    Rt 3
   else
    Rt 0) (Sum.elim (fun g =>
  if (not g.2.1) = true then
   Rt 2
  else
   (load_turn__check.run g.1 a).bind fun i =>
   (if ((not i) == false) = true then load_turn__bare.run g.1 a else some (0,[0,0,0,0],[0,0,0,0],(List.replicate 32 0),0,(List.replicate 32 0),0,0,[],[],0,[],())).bind fun o =>
   (if ((not i) == false) = true then load_same.run a o else some false).bind fun p =>
   if (cond (not i) true (not p)) = true then
    Rt 3
   else
    Rt 0) (Sum.elim (fun q =>
  if (not q.1) = true then
   Rt 2
  else
   none) (fun e=>e.elim))))) j
theorem top_eq (k : Nat) (Q : Ex->St->Option α) (a : D14) :
  (den C k) (cB Tryz.f87) Q (St0 a) = top (fun b=>Q .ret (St1 b)) a:=plainly Js (by kernel_rfl)
def run (a : D14) : Option (Int):=top (α:=Int) (fun b=>some b) a
def F : Fn:=⟨T42,T1,false,fun x=>run x.1⟩
theorem con : Con Tryz.prog 87 F /\ Named Tryz.prog 87 :=
 con_of2 (C:=C) (ctx_ok_sh (by kernel_rfl) (by kernel_rfl) (by kernel_rfl) (by kernel_rfl) ⟨.inl load_same.con,⟨.inl load_transfer__bare.con,⟨.inl load_transfer__check.con,⟨.inl load_meta__bare.con,⟨.inl load_meta__check.con,⟨.inl load_turn__bare.con,⟨.inl load_turn__check.con,trivial⟩⟩⟩⟩⟩⟩⟩ ⟨⟨⟨load_kindOf_s0.sok,trivial⟩,load_kindOf_s0.named⟩,trivial⟩) (by kernel_rfl) Tryz.func87 (by kernel_rfl) (c:=cB Tryz.f87) (by kernel_rfl) (by kernel_rfl) F (fun x=>by simp [F,spread,Tryz.ntmps87]) (fun x=>(St0 x.1)) (fun x=>by kernel_rfl) fun x=>(top_eq fuel _ x.1).trans (by kernel_rfl)
end Go.Bx.load_Check
namespace Go.Bx.basculeref_Order
def Js : List Nat:=[]
def C : Ctx:=⟨[(3,T1),(24,T30)],[],[],fnL [(82,basculeref_compare.F),(83,basculeref_of.F)],noSh,[],invL [],[(2,[4])],[],[],0,0⟩
def St0 (a b : D1) : St:=stL 10 [(0,.data T30 a),(1,.data T30 b)] []
def St1 (a : Int) : St:=stL 10 [(4,.data T1 a)] []
def top (Rt : Int->Option α) (a b : D1) : Option α :=
 (basculeref_of.run a).bind fun c =>
 (basculeref_of.run b).bind fun d =>
 (basculeref_compare.run c d).bind fun e =>
 Rt e
theorem top_eq (k : Nat) (Q : Ex->St->Option α) (a b : D1) :
  (den C k) (cB Tryz.f68) Q (St0 a b) = top (fun c=>Q .ret (St1 c)) a b:=plainly Js (by kernel_rfl)
def run (a b : D1) : Option (Int):=top (α:=Int) (fun c=>some c) a b
def F : Fn:=⟨T38,T1,false,fun x=>run x.1 x.2.1⟩
theorem con : Con Tryz.prog 68 F /\ Named Tryz.prog 68 :=
 con_of2 (C:=C) (ctx_ok (by kernel_rfl) (by kernel_rfl) (by kernel_rfl) (by kernel_rfl) ⟨.inl basculeref_compare.con,⟨.inl basculeref_of.con,trivial⟩⟩) (by kernel_rfl) Tryz.func68 (by kernel_rfl) (c:=cB Tryz.f68) (by kernel_rfl) (by kernel_rfl) F (fun x=>by simp [F,spread,Tryz.ntmps68]) (fun x=>(St0 x.1 x.2.1)) (fun x=>by kernel_rfl) fun x=>(top_eq fuel _ x.1 x.2.1).trans (by kernel_rfl)
end Go.Bx.basculeref_Order
namespace Go.Bx.basculeref_only
def Js : List Nat:=[5]
def C : Ctx:=⟨[(3,T1),(4,.bool),(9,.str),(24,T30),(29,T3),(35,T12),(114,T31),(116,T32)],[],[],fnL [],noSh,[],invL [],[(2,[2,3]),(1,[2]),(20,[1,2,5,6])],[(2,[.dat false 2 [9],.dat false 2 []])],[],0,0⟩
def St0 (a : D14) : St:=stL 49 [(0,.data T32 a)] []
def St1 (a : Int) (b : Bool) (c : D14) (d : Int) (e f g : D1) (i : Int) (j : D1) (k l : Int) (m : D1) (n : Int) : St:=stL 49 [(1,.ref 1 0 []),(2,.ref 2 0 []),(5,.data T1 a),(6,.data .bool b)] [(1,.cell T32 (.data T32 c) false),(2,.cell T32 (.agg T32 [.data T1 d,.data T30 e,.data T30 f,.data T12 g,.data T1 i,.data T12 j,.data T1 k,.data T1 l,.data .str m,.full T6 [],.data T1 n,.full T35 []]) false)]
noncomputable def cd0 : Code:=cR (cR (cB Tryz.f88))
noncomputable def cd1 : Code:=cR (cL (cR (cL (cR (cB Tryz.f88)))))
def St2 (a : Bool) (b : D14) : St:=stL 49 [(2,.ref 2 0 []),(3,.data .bool a)] [(2,.cell T32 (.data T32 b) false)]
def j0 (Rt : Bool->D14->Option α) (b : Int) (c : Bool) (a : D14) (d : Int) (e f g : D1) (i : Int) (j : D1) (k l : Int) (m : D1) (n : Int) : Option α :=
 if c = true then
  Rt true (a.1,a.2.1,a.2.2.1,a.2.2.2.1,a.2.2.2.2.1,a.2.2.2.2.2.1,a.2.2.2.2.2.2.1,0,[],a.2.2.2.2.2.2.2.2.2.1,0,[],())
 else
  if (b == 2) = true then
   Rt true (a.1,[0,0,0,0],[0,0,0,0],a.2.2.2.1,a.2.2.2.2.1,(List.replicate 32 0),0,a.2.2.2.2.2.2.2.1,a.2.2.2.2.2.2.2.2.1,[],0,[],())
  else
   if (b == 4) = true then
    Rt true (a.1,[0,0,0,0],[0,0,0,0],(List.replicate 32 0),0,(List.replicate 32 0),0,0,[],[],a.2.2.2.2.2.2.2.2.2.2.1,a.2.2.2.2.2.2.2.2.2.2.2.1,())
   else
    Rt false (0,[0,0,0,0],[0,0,0,0],(List.replicate 32 0),0,(List.replicate 32 0),0,0,[],[],0,[],())
theorem j0_eq (k : Nat) (Q : Ex->St->Option α) (a : Int) (b : Bool) (c : D14) (d : Int) (e f g : D1) (i : Int) (j : D1) (l m : Int) (n : D1) (o : Int) :
  (den C k) cd1 (blkQ C 0 (sq (den C k) (lp C k) Js C cd0 Q)) (St1 a b c d e f g i j l m n o) = j0 (fun p q=>Q .ret (St2 p q)) a b c d e f g i j l m n o:=plainly Js (by kernel_rfl)
def top (Rt : Bool->D14->Option α) (a : D14) : Option α :=
 if (a.1 == 1) = true then
  j0 Rt a.1 (a.1 == 1) a 0 [0,0,0,0] [0,0,0,0] (List.replicate 32 0) 0 (List.replicate 32 0) 0 0 [] 0
 else
  j0 Rt a.1 (a.1 == 3) a 0 [0,0,0,0] [0,0,0,0] (List.replicate 32 0) 0 (List.replicate 32 0) 0 0 [] 0
theorem top_eq (k : Nat) (Q : Ex->St->Option α) (a : D14) :
  (den C k) (cB Tryz.f88) Q (St0 a) = top (fun b c=>Q .ret (St2 b c)) a:=by
 have h : ∀ (D L : DT α),denJ D L Js C (cB Tryz.f88) Q (St0 a) =
    if (a.1 == 1) = true then
     D cd1 (blkQ C 0 (sq D L Js C cd0 Q)) (St1 a.1 (a.1 == 1) a 0 [0,0,0,0] [0,0,0,0] (List.replicate 32 0) 0 (List.replicate 32 0) 0 0 [] 0)
    else
     D cd1 (blkQ C 0 (sq D L Js C cd0 Q)) (St1 a.1 (a.1 == 3) a 0 [0,0,0,0] [0,0,0,0] (List.replicate 32 0) 0 (List.replicate 32 0) 0 0 [] 0):=by
  intro D L; kernel_rfl
 have h2:=via (k:=k) h
 refine h2.trans ?_
 simp only [j0_eq]
 first | rfl | kernel_rfl
def run (a : D14) : Option D48:=top (α:=D14 × Bool × Unit) (fun b c=>some (c,b,())) a
def F : Fn:=⟨T42,T98,true,fun x=>run x.1⟩
theorem con : Con Tryz.prog 88 F /\ Named Tryz.prog 88 :=
 con_of2 (C:=C) (ctx_ok (by kernel_rfl) (by kernel_rfl) (by kernel_rfl) (by kernel_rfl) trivial) (by kernel_rfl) Tryz.func88 (by kernel_rfl) (c:=cB Tryz.f88) (by kernel_rfl) (by kernel_rfl) F (fun x=>by simp [F,spread,Tryz.ntmps88]) (fun x=>(St0 x.1)) (fun x=>by kernel_rfl) fun x=>(top_eq fuel _ x.1).trans (by kernel_rfl)
end Go.Bx.basculeref_only
namespace Go.Bx.basculeref_SameLoad
def Js : List Nat:=[10]
def C : Ctx:=⟨[(3,T1),(4,.bool),(9,.str),(24,T30),(29,T3),(35,T12),(114,T31),(116,T32),(131,T35)],[],[],fnL [],noSh,[],invL [],[(2,[4]),(1,[2,3]),(4,[2,3,24,25]),(12,[2,3,24,25]),(27,[2,3])],[],[],0,0⟩
def St0 (a b : D14) : St:=stL 108 [(0,.data T32 a),(1,.data T32 b)] []
def St1 (a : Bool) : St:=stL 108 [(4,.data .bool a)] []
def St2 (a b : Int) (c d : D14) : St:=stL 108 [(2,.ref 2 0 []),(3,.ref 3 0 []),(24,.data T1 a),(25,.data T1 b)] [(2,.cell T32 (.data T32 c) false),(3,.cell T32 (.data T32 d) false)]
noncomputable def cd0 : Code:=cL (cL (cR (cL (cR (cR (cB Tryz.f89))))))
def St3 (a b : D14) : St:=stL 108 [(2,.ref 2 0 []),(3,.ref 3 0 [])] [(2,.cell T32 (.data T32 a) false),(3,.cell T32 (.data T32 b) false)]
def l0s (Nx : Int->Int->D14->D14->Option α) (Rt : Bool->Option α) (Xt0 : D14->D14->Option α) (d a : Int) (b c : D14) : Option α :=
 if (decide (a < d)) = true then
  if 0 <= a /\ a < (b.2.2.2.2.2.2.2.2.2.2.2.1.length : Int) then
   if 0 <= a /\ a < (c.2.2.2.2.2.2.2.2.2.2.2.1.length : Int) then
    if (not (beqD T35 (List.getD b.2.2.2.2.2.2.2.2.2.2.2.1 (Int.toNat a) (List.replicate 20 0)) (List.getD c.2.2.2.2.2.2.2.2.2.2.2.1 (Int.toNat a) (List.replicate 20 0)))) = true then
     Rt false
    else
     Nx d (IntKind.i64.wrap (a + 1)) b c
   else none
  else none
 else
  Xt0 b c
theorem l0s_eq (k : Nat) (next : St->Option α) (Q : Ex->St->Option α) (c d : Int) (a b : D14) :
  rnd C k cd0 12 Q next (St2 c d a b) = l0s (fun c d a b=>next (St2 c d a b)) (fun e=>Q .ret (St1 e)) (fun a b=>Q (.exit 0) (St3 a b)) c d a b:=plainly Js (by kernel_rfl)
def l0 (k : Nat) (Rt : Bool->Option α) (Xt0 : D14->D14->Option α) : Nat->Int->Int->D14->D14->Option α
 | 0,_,_,_,_=>none
 | n + 1,a,b,c,d=>l0s (l0 k Rt Xt0 n) Rt Xt0 a b c d
theorem l0_eq (k : Nat) (Q : Ex->St->Option α) : ∀ (n : Nat) (c d : Int) (a b : D14),iter (rnd C k cd0 12 Q) n (St2 c d a b) = l0 k (fun e=>Q .ret (St1 e)) (fun a b=>Q (.exit 0) (St3 a b)) n c d a b
 | 0,_,_,_,_=>rfl
 | n + 1,c,d,a,b=>(iter_succ _ _ _).trans ((l0s_eq k _ Q c d a b).trans (congrArg (fun N=>l0s N (fun e=>Q .ret (St1 e)) (fun a b=>Q (.exit 0) (St3 a b)) c d a b) (by funext; exact l0_eq k Q n _ _ _ _)))
theorem l0_congr (k : Nat) (Rt : Bool->Option α) (Xt0 : D14->D14->Option α) (Rtq : Bool->Option α) (Xt0q : D14->D14->Option α) (hRt : ∀ (c : Bool),Rt c = Rtq c) (hXt0 : ∀ (a b : D14),Xt0 a b = Xt0q a b) (n : Nat) (d e : Int) (a b : D14) : l0 k Rt Xt0 n d e a b = l0 k Rtq Xt0q n d e a b:=by
 obtain rfl : Rt = Rtq:=by funext c; exact hRt c
 obtain rfl : Xt0 = Xt0q:=by funext a; funext b; exact hXt0 a b
 rfl
noncomputable def cd1 : Code:=cR (cR (cR (cB Tryz.f89)))
def St4 (a b : D14) : St:=stL 108 [(2,.ref 2 0 []),(3,.ref 3 0 [])] [(2,.cell T32 (.data T32 a) false),(3,.cell T32 (.data T32 b) false)]
def j0 (Rt : Bool->Option α) (a b : D14) : Option α :=
 Rt (cond (cond (cond (cond (cond (cond (cond (cond (cond (a.1 == b.1) (beqD T30 a.2.1 b.2.1) false) (beqD T30 a.2.2.1 b.2.2.1) false) (beqD T12 a.2.2.2.1 b.2.2.2.1) false) (a.2.2.2.2.1 == b.2.2.2.2.1) false) (beqD T12 a.2.2.2.2.2.1 b.2.2.2.2.2.1) false) (a.2.2.2.2.2.2.1 == b.2.2.2.2.2.2.1) false) (a.2.2.2.2.2.2.2.1 == b.2.2.2.2.2.2.2.1) false) (beqD .str a.2.2.2.2.2.2.2.2.1 b.2.2.2.2.2.2.2.2.1) false) (a.2.2.2.2.2.2.2.2.2.2.1 == b.2.2.2.2.2.2.2.2.2.2.1) false)
theorem j0_eq (k : Nat) (Q : Ex->St->Option α) (a b : D14) :
  (den C k) cd1 Q (St4 a b) = j0 (fun c=>Q .ret (St1 c)) a b:=plainly Js (by kernel_rfl)
theorem a0 (k : Nat) (Q : Ex->St->Option α) (e f : Int) (a c : D14) :
  (lp C k) cd0 (blkQ C 0 (sq (den C k) (lp C k) Js C cd1 Q)) (St2 e f a c) = l0 k (fun d=>(fun d=>Q .ret (St1 d)) d) (fun a c=>j0 (fun d=>Q .ret (St1 d)) a c) k e f a c :=
 (lp_iter 12 (by kernel_rfl)).trans ((l0_eq k _ k e f a c).trans (l0_congr k _ _ _ _ (fun d=>(by kernel_rfl)) (fun a c=>(Eq.trans (b:=(den C k) cd1 Q (St4 a c)) (by kernel_rfl) (by simp only [j0_eq]))) k e f a c))
def top (k : Nat) (Rt : Bool->Option α) (a b : D14) : Option α :=
 if (cond ((a.2.2.2.2.2.2.2.2.2.2.2.1.length : Int) != (b.2.2.2.2.2.2.2.2.2.2.2.1.length : Int)) true (not (beqD .str a.2.2.2.2.2.2.2.2.2.1 b.2.2.2.2.2.2.2.2.2.1))) = true then
  Rt false
 else
  l0 k (fun c=>Rt c) (fun d e=>j0 Rt d e) k (a.2.2.2.2.2.2.2.2.2.2.2.1.length : Int) 0 a b
theorem top_eq (k : Nat) (Q : Ex->St->Option α) (a b : D14) :
  (den C k) (cB Tryz.f89) Q (St0 a b) = top k (fun c=>Q .ret (St1 c)) a b:=by
 have h : ∀ (D L : DT α),denJ D L Js C (cB Tryz.f89) Q (St0 a b) =
    if (cond ((a.2.2.2.2.2.2.2.2.2.2.2.1.length : Int) != (b.2.2.2.2.2.2.2.2.2.2.2.1.length : Int)) true (not (beqD .str a.2.2.2.2.2.2.2.2.2.1 b.2.2.2.2.2.2.2.2.2.1))) = true then
     Q .ret (St1 false)
    else
     L cd0 (blkQ C 0 (sq D L Js C cd1 Q)) (St2 (a.2.2.2.2.2.2.2.2.2.2.2.1.length : Int) 0 a b):=by
  intro D L; kernel_rfl
 have h2:=via (k:=k) h
 refine h2.trans ?_
 simp only [a0]
 first | rfl | kernel_rfl
def run (a b : D14) : Option (Bool):=top (α:=Bool) fuel (fun c=>some c) a b
def F : Fn:=⟨T33,.bool,false,fun x=>run x.1 x.2.1⟩
theorem con : Con Tryz.prog 89 F /\ Named Tryz.prog 89 :=
 con_of2 (C:=C) (ctx_ok (by kernel_rfl) (by kernel_rfl) (by kernel_rfl) (by kernel_rfl) trivial) (by kernel_rfl) Tryz.func89 (by kernel_rfl) (c:=cB Tryz.f89) (by kernel_rfl) (by kernel_rfl) F (fun x=>by simp [F,spread,Tryz.ntmps89]) (fun x=>(St0 x.1 x.2.1)) (fun x=>by kernel_rfl) fun x=>(top_eq fuel _ x.1 x.2.1).trans (by kernel_rfl)
end Go.Bx.basculeref_SameLoad
namespace Go.Bx.basculeref_hasNought
def Js : List Nat:=[7]
def C : Ctx:=⟨[(4,.bool),(9,.str)],[],[],fnL [],noSh,[],invL [],[(2,[2]),(1,[]),(4,[0,3]),(6,[0,3]),(18,[])],[],[],0,0⟩
def St0 (a : D1) : St:=stL 14 [(0,.data .str a)] []
def St1 (a : D1) (b : Int) : St:=stL 14 [(0,.data .str a),(3,.data T1 b)] []
noncomputable def cd0 : Code:=cL (cL (cR (cL (cR (cB Tryz.f90)))))
def St2 (a : Bool) : St:=stL 14 [(2,.data .bool a)] []
def St3 : St:=stL 14 [] []
def l0s (Nx : D1->Int->Option α) (Rt : Bool->Option α) (Xt0 : Option α) (b : D1) (a : Int) : Option α :=
 if (decide (a < (b.length : Int))) = true then
  if 0 <= a /\ a < (b.length : Int) then
   if ((List.getD b (Int.toNat a) 0) == 0) = true then
    Rt true
   else
    Nx b (IntKind.i64.wrap (a + 1))
  else none
 else
  Xt0
theorem l0s_eq (k : Nat) (next : St->Option α) (Q : Ex->St->Option α) (a : D1) (b : Int) :
  rnd C k cd0 6 Q next (St1 a b) = l0s (fun a b=>next (St1 a b)) (fun c=>Q .ret (St2 c)) (Q (.exit 0) St3) a b:=plainly Js (by kernel_rfl)
def l0 (k : Nat) (Rt : Bool->Option α) (Xt0 : Option α) : Nat->D1->Int->Option α
 | 0,_,_=>none
 | n + 1,a,b=>l0s (l0 k Rt Xt0 n) Rt Xt0 a b
theorem l0_eq (k : Nat) (Q : Ex->St->Option α) : ∀ (n : Nat) (a : D1) (b : Int),iter (rnd C k cd0 6 Q) n (St1 a b) = l0 k (fun c=>Q .ret (St2 c)) (Q (.exit 0) St3) n a b
 | 0,_,_=>rfl
 | n + 1,a,b=>(iter_succ _ _ _).trans ((l0s_eq k _ Q a b).trans (congrArg (fun N=>l0s N (fun c=>Q .ret (St2 c)) (Q (.exit 0) St3) a b) (by funext; exact l0_eq k Q n _ _)))
theorem l0_congr (k : Nat) (Rt : Bool->Option α) (Xt0 : Option α) (Rtq : Bool->Option α) (Xt0q : Option α) (hRt : ∀ (a : Bool),Rt a = Rtq a) (hXt0 : Xt0 = Xt0q) (n : Nat) (b : D1) (c : Int) : l0 k Rt Xt0 n b c = l0 k Rtq Xt0q n b c:=by
 obtain rfl : Rt = Rtq:=by funext a; exact hRt a
 obtain rfl : Xt0 = Xt0q:=hXt0
 rfl
noncomputable def cd1 : Code:=cR (cR (cB Tryz.f90))
def St4 : St:=stL 14 [] []
def j0 (Rt : Bool->Option α) : Option α :=
 Rt false
theorem j0_eq (k : Nat) (Q : Ex->St->Option α) :
  (den C k) cd1 Q St4 = j0 (fun a=>Q .ret (St2 a)):=plainly Js (by kernel_rfl)
theorem a0 (k : Nat) (Q : Ex->St->Option α) (c : D1) (d : Int) :
  (lp C k) cd0 (blkQ C 0 (sq (den C k) (lp C k) Js C cd1 Q)) (St1 c d) = l0 k (fun a=>(fun a=>Q .ret (St2 a)) a) (j0 (fun a=>Q .ret (St2 a))) k c d :=
 (lp_iter 6 (by kernel_rfl)).trans ((l0_eq k _ k c d).trans (l0_congr k _ _ _ _ (fun a=>(by kernel_rfl)) (Eq.trans (b:=(den C k) cd1 Q St4) (by kernel_rfl) (by simp only [j0_eq])) k c d))
def top (k : Nat) (Rt : Bool->Option α) (a : D1) : Option α :=
 l0 k (fun b=>Rt b) (j0 Rt) k a 0
theorem top_eq (k : Nat) (Q : Ex->St->Option α) (a : D1) :
  (den C k) (cB Tryz.f90) Q (St0 a) = top k (fun b=>Q .ret (St2 b)) a:=by
 have h : ∀ (D L : DT α),denJ D L Js C (cB Tryz.f90) Q (St0 a) =
    L cd0 (blkQ C 0 (sq D L Js C cd1 Q)) (St1 a 0):=by
  intro D L; kernel_rfl
 have h2:=via (k:=k) h
 refine h2.trans ?_
 simp only [a0]
 first | rfl | kernel_rfl
def run (a : D1) : Option (Bool):=top (α:=Bool) fuel (fun b=>some b) a
def F : Fn:=⟨T94,.bool,false,fun x=>run x.1⟩
theorem con : Con Tryz.prog 90 F /\ Named Tryz.prog 90 :=
 con_of2 (C:=C) (ctx_ok (by kernel_rfl) (by kernel_rfl) (by kernel_rfl) (by kernel_rfl) trivial) (by kernel_rfl) Tryz.func90 (by kernel_rfl) (c:=cB Tryz.f90) (by kernel_rfl) (by kernel_rfl) F (fun x=>by simp [F,spread,Tryz.ntmps90]) (fun x=>(St0 x.1)) (fun x=>by kernel_rfl) fun x=>(top_eq fuel _ x.1).trans (by kernel_rfl)
end Go.Bx.basculeref_hasNought
namespace Go.Bx.basculeref_LoadFault
def Js : List Nat:=[9,14]
def C : Ctx:=⟨[(3,T1),(9,.str),(24,T30),(29,T3),(38,T1),(114,T31),(116,T32)],[],[],fnL [(64,basculeref_upTo.F),(68,basculeref_Order.F),(88,basculeref_only.F),(89,basculeref_SameLoad.F),(90,basculeref_hasNought.F)],noSh,[],invL [],[(2,[2]),(1,[4]),(32,[1,4,16,17]),(39,[4])],[],[],0,0⟩
def St0 (a : D14) : St:=stL 103 [(0,.data T32 a)] []
def St1 (a : Int) : St:=stL 103 [(2,.data T1 a)] []
def St2 (a : Bool) (b : Int) (c : Bool) (d : D14) : St:=stL 103 [(1,.ref 1 0 []),(4,.data .bool a),(16,.data T1 b),(17,.data .bool c)] [(1,.cell T32 (.data T32 d) false)]
noncomputable def cd0 : Code:=cR (cR (cR (cR (cR (cB Tryz.f81)))))
noncomputable def cd1 : Code:=cR (cL (cR (cL (cR (cR (cR (cR (cB Tryz.f81))))))))
def St3 (a : Bool) : St:=stL 103 [(4,.data .bool a)] []
def j1 (Rt : Int->Option α) (a : Bool) : Option α :=
 if (not a) = true then
  Rt 3
 else
  Rt 0
theorem j1_eq (k : Nat) (Q : Ex->St->Option α) (a : Bool) :
  (den C k) cd0 Q (St3 a) = j1 (fun b=>Q .ret (St1 b)) a:=plainly Js (by kernel_rfl)
def j0 (Rt : Int->Option α) (b : Bool) (e : Int) (i : Bool) (a : D14) : Option α :=
 if i = true then
  (if (b == true) = true then basculeref_upTo.run a.2.2.2.2.1 65535 else some false).bind fun c =>
  (if ((cond b c false) == true) = true then basculeref_upTo.run a.2.2.2.2.2.2.1 65535 else some false).bind fun f =>
  (if ((cond (cond b c false) f false) == true) = true then basculeref_Order.run a.2.2.1 a.2.1 else some 0).bind fun j =>
  j1 Rt (cond (cond (cond (cond (cond b c false) f false) (decide (j <= 0)) false) (decide ((a.2.2.2.2.2.2.2.2.2.1.length : Int) <= 100)) false) (cond (a.1 == 3) true ((a.2.2.2.2.2.2.2.2.2.1.length : Int) == 0)) false)
 else
  if (e == 2) = true then
   (if (b == true) = true then basculeref_upTo.run a.2.2.2.2.1 65535 else some false).bind fun d =>
   (if ((cond b d false) == true) = true then basculeref_upTo.run a.2.2.2.2.2.2.2.1 77 else some false).bind fun g =>
   (if ((cond (cond (cond b d false) g false) (decide ((a.2.2.2.2.2.2.2.2.1.length : Int) <= 32)) false) == true) = true then basculeref_hasNought.run a.2.2.2.2.2.2.2.2.1 else some false).bind fun k =>
   j1 Rt (cond (cond (cond (cond b d false) g false) (decide ((a.2.2.2.2.2.2.2.2.1.length : Int) <= 32)) false) (not k) false)
  else
   if (e == 4) = true then
    (if (b == true) = true then basculeref_upTo.run a.2.2.2.2.2.2.2.2.2.2.1 4294967295 else some false).bind fun l =>
    j1 Rt (cond (cond (cond b l false) (decide ((a.2.2.2.2.2.2.2.2.2.2.2.1.length : Int) > 0)) false) (decide ((a.2.2.2.2.2.2.2.2.2.2.2.1.length : Int) <= 19)) false)
   else
    j1 Rt b
theorem j0_eq (k : Nat) (Q : Ex->St->Option α) (b : Bool) (c : Int) (d : Bool) (a : D14) :
  (den C k) cd1 (blkQ C 0 (sq (den C k) (lp C k) Js C cd0 Q)) (St2 b c d a) = j0 (fun j=>Q .ret (St1 j)) b c d a:=by
 have h : ∀ (D L : DT α),denJ D L Js C cd1 (blkQ C 0 (sq D L Js C cd0 Q)) (St2 b c d a) =
    if d = true then
     (if (b == true) = true then basculeref_upTo.run a.2.2.2.2.1 65535 else some false).bind fun e =>
     (if ((cond b e false) == true) = true then basculeref_upTo.run a.2.2.2.2.2.2.1 65535 else some false).bind fun g =>
     (if ((cond (cond b e false) g false) == true) = true then basculeref_Order.run a.2.2.1 a.2.1 else some 0).bind fun l =>
     D cd0 Q (St3 (cond (cond (cond (cond (cond b e false) g false) (decide (l <= 0)) false) (decide ((a.2.2.2.2.2.2.2.2.2.1.length : Int) <= 100)) false) (cond (a.1 == 3) true ((a.2.2.2.2.2.2.2.2.2.1.length : Int) == 0)) false))
    else
     if (c == 2) = true then
      (if (b == true) = true then basculeref_upTo.run a.2.2.2.2.1 65535 else some false).bind fun f =>
      (if ((cond b f false) == true) = true then basculeref_upTo.run a.2.2.2.2.2.2.2.1 77 else some false).bind fun i =>
      (if ((cond (cond (cond b f false) i false) (decide ((a.2.2.2.2.2.2.2.2.1.length : Int) <= 32)) false) == true) = true then basculeref_hasNought.run a.2.2.2.2.2.2.2.2.1 else some false).bind fun m =>
      D cd0 Q (St3 (cond (cond (cond (cond b f false) i false) (decide ((a.2.2.2.2.2.2.2.2.1.length : Int) <= 32)) false) (not m) false))
     else
      if (c == 4) = true then
       (if (b == true) = true then basculeref_upTo.run a.2.2.2.2.2.2.2.2.2.2.1 4294967295 else some false).bind fun n =>
       D cd0 Q (St3 (cond (cond (cond b n false) (decide ((a.2.2.2.2.2.2.2.2.2.2.2.1.length : Int) > 0)) false) (decide ((a.2.2.2.2.2.2.2.2.2.2.2.1.length : Int) <= 19)) false))
      else
       D cd0 Q (St3 b):=by
  intro D L; kernel_rfl
 have h2:=via (k:=k) h
 refine h2.trans ?_
 simp only [j1_eq]
 first | rfl | kernel_rfl
def top (Rt : Int->Option α) (a : D14) : Option α :=
 (basculeref_only.run a).bind fun b =>
 if (not b.2.1) = true then
  Rt 2
 else
  (basculeref_SameLoad.run a b.1).bind fun c =>
  if (a.1 == 1) = true then
   j0 Rt c a.1 (a.1 == 1) a
  else
   j0 Rt c a.1 (a.1 == 3) a
theorem top_eq (k : Nat) (Q : Ex->St->Option α) (a : D14) :
  (den C k) (cB Tryz.f81) Q (St0 a) = top (fun d=>Q .ret (St1 d)) a:=by
 have h : ∀ (D L : DT α),denJ D L Js C (cB Tryz.f81) Q (St0 a) =
    (basculeref_only.run a).bind fun b =>
    if (not b.2.1) = true then
     Q .ret (St1 2)
    else
     (basculeref_SameLoad.run a b.1).bind fun c =>
     if (a.1 == 1) = true then
      D cd1 (blkQ C 0 (sq D L Js C cd0 Q)) (St2 c a.1 (a.1 == 1) a)
     else
      D cd1 (blkQ C 0 (sq D L Js C cd0 Q)) (St2 c a.1 (a.1 == 3) a):=by
  intro D L; kernel_rfl
 have h2:=via (k:=k) h
 refine h2.trans ?_
 simp only [j0_eq]
 first | rfl | kernel_rfl
def run (a : D14) : Option (Int):=top (α:=Int) (fun b=>some b) a
def F : Fn:=⟨T42,T1,false,fun x=>run x.1⟩
theorem con : Con Tryz.prog 81 F /\ Named Tryz.prog 81 :=
 con_of2 (C:=C) (ctx_ok (by kernel_rfl) (by kernel_rfl) (by kernel_rfl) (by kernel_rfl) ⟨.inl basculeref_upTo.con,⟨.inl basculeref_Order.con,⟨.inl basculeref_only.con,⟨.inl basculeref_SameLoad.con,⟨.inl basculeref_hasNought.con,trivial⟩⟩⟩⟩⟩) (by kernel_rfl) Tryz.func81 (by kernel_rfl) (c:=cB Tryz.f81) (by kernel_rfl) (by kernel_rfl) F (fun x=>by simp [F,spread,Tryz.ntmps81]) (fun x=>(St0 x.1)) (fun x=>by kernel_rfl) fun x=>(top_eq fuel _ x.1).trans (by kernel_rfl)
end Go.Bx.basculeref_LoadFault
namespace Go.Bx.load_word
def Js : List Nat:=[]
def C : Ctx:=⟨[(29,T3),(35,T12)],[],[],fnL [],noSh,[],invL [],[(2,[2])],[],[],0,0⟩
def St0 (a : D1) : St:=stL 8 [(0,.data T3 a)] []
def St1 (a : D1) : St:=stL 8 [(2,.ref 2 0 [])] [(2,.cell T12 (.data T12 a) false)]
def top (Rt : D1->Option α) (a : D1) : Option α :=
 Rt (cpyL (List.replicate 32 0) 0 32 a)
theorem top_eq (k : Nat) (Q : Ex->St->Option α) (a : D1) :
  (den C k) (cB Tryz.f114) Q (St0 a) = top (fun b=>Q .ret (St1 b)) a:=plainly Js (by kernel_rfl)
def run (a : D1) : Option D1:=top (α:=List Int) (fun b=>some b) a
def F : Fn:=⟨T7,T12,false,fun x=>run x.1⟩
theorem con : Con Tryz.prog 114 F /\ Named Tryz.prog 114 :=
 con_of2 (C:=C) (ctx_ok (by kernel_rfl) (by kernel_rfl) (by kernel_rfl) (by kernel_rfl) trivial) (by kernel_rfl) Tryz.func114 (by kernel_rfl) (c:=cB Tryz.f114) (by kernel_rfl) (by kernel_rfl) F (fun x=>by simp [F,spread,Tryz.ntmps114]) (fun x=>(St0 x.1)) (fun x=>by kernel_rfl) fun x=>(top_eq fuel _ x.1).trans (by kernel_rfl)
end Go.Bx.load_word
namespace Go.Bx.load_transfer__get
def Js : List Nat:=[]
def C : Ctx:=⟨[(3,T1),(5,T6),(29,T3),(38,T1),(116,T32),(147,T34)],[],[],fnL [(60,wide_From.F),(114,load_word.F)],noSh,[],invL [],[(2,[4,5])],[(2,[.dat false 4 [9]])],[47],0,0⟩
def St0 (a : D15) (b : D1) : St:=stL 49 [(0,.data T34 a),(1,.data T3 b)] []
def St1 (a b : Int) (c d e : D1) (f : Int) (g : D1) (i j : Int) (k l : D1) (m : Int) : St:=stL 49 [(4,.ref 4 0 []),(5,.data T1 a)] [(4,.cell T32 (.agg T32 [.data T1 b,.data T30 c,.data T30 d,.data T12 e,.data T1 f,.data T12 g,.data T1 i,.data T1 j,.data .str k,.data T3 l,.data T1 m,.full T35 []]) false)]
def top (Rt : Int->Int->D1->D1->D1->Int->D1->Int->Int->D1->D1->Int->Option α) (i : D15) (a : D1) : Option α :=
 if (decide ((a.length : Int) < 132)) = true then
  Rt 4 0 [0,0,0,0] [0,0,0,0] (List.replicate 32 0) 0 (List.replicate 32 0) 0 0 [] [] 0
 else
  if 0 <= (0 : Int) /\ (0 : Int) <= (32 : Int) /\ (32 : Int) <= (a.length : Int) then
   (load_word.run (cutL a 0 32)).bind fun b =>
   (wide_From.run b).bind fun c =>
   if 0 <= (32 : Int) /\ (32 : Int) <= (64 : Int) /\ (64 : Int) <= (a.length : Int) then
    (load_word.run (cutL a 32 64)).bind fun d =>
    if 0 <= (64 : Int) /\ (64 : Int) < (a.length : Int) then
     if 0 <= (65 : Int) /\ (65 : Int) < (a.length : Int) then
      if 0 <= (66 : Int) /\ (66 : Int) <= (98 : Int) /\ (98 : Int) <= (a.length : Int) then
       (load_word.run (cutL a 66 98)).bind fun e =>
       if 0 <= (98 : Int) /\ (98 : Int) < (a.length : Int) then
        if 0 <= (99 : Int) /\ (99 : Int) < (a.length : Int) then
         if 0 <= (100 : Int) /\ (100 : Int) <= (132 : Int) /\ (132 : Int) <= (a.length : Int) then
          (load_word.run (cutL a 100 132)).bind fun f =>
          (wide_From.run f).bind fun g =>
          if 0 <= (132 : Int) /\ (132 : Int) <= (a.length : Int) /\ (a.length : Int) <= (a.length : Int) then
           if fitB (0 + (cutL a 132 (a.length : Int)).length) 1 = true then
            Rt 0 0 c g d (bor .i64 (shlI .i64 (IntKind.i64.wrap (List.getD a 64 0)) 8) (IntKind.i64.wrap (List.getD a 65 0))) e (bor .i64 (shlI .i64 (IntKind.i64.wrap (List.getD a 98 0)) 8) (IntKind.i64.wrap (List.getD a 99 0))) 0 [] (cutL a 132 (a.length : Int)) 0
           else none
          else none
         else none
        else none
       else none
      else none
     else none
    else none
   else none
  else none
theorem top_eq (k : Nat) (Q : Ex->St->Option α) (a : D15) (b : D1) :
  (den C k) (cB Tryz.f110) Q (St0 a b) = top (fun c d e f g i j l m n o p=>Q .ret (St1 c d e f g i j l m n o p)) a b:=plainly Js (by kernel_rfl)
def run (a : D15) (b : D1) : Option D19:=top (α:=D14 × Int × Unit) (fun c d e f g i j k l m n o=>some ((d,e,f,g,i,j,k,l,m,n,o,[],()),c,())) a b
def F : Fn:=⟨T44,T45,true,fun x=>run x.1 x.2.1⟩
theorem con : Con Tryz.prog 110 F /\ Named Tryz.prog 110 :=
 con_of2 (C:=C) (ctx_ok (by kernel_rfl) (by kernel_rfl) (by kernel_rfl) (by kernel_rfl) ⟨.inl wide_From.con,⟨.inl load_word.con,trivial⟩⟩) (by kernel_rfl) Tryz.func110 (by kernel_rfl) (c:=cB Tryz.f110) (by kernel_rfl) (by kernel_rfl) F (fun x=>by simp [F,spread,Tryz.ntmps110]) (fun x=>(St0 x.1 x.2.1)) (fun x=>by kernel_rfl) fun x=>(top_eq fuel _ x.1 x.2.1).trans (by kernel_rfl)
end Go.Bx.load_transfer__get
namespace Go.Bx.load_meta__get
def Js : List Nat:=[9]
def C : Ctx:=⟨[(3,T1),(5,T6),(9,.str),(29,T3),(38,T1),(116,T32),(149,.unit)],[],[],fnL [(114,load_word.F)],noSh,[],invL [],[(2,[4,5]),(1,[1,4,6]),(4,[1,4,6]),(18,[1,4,6]),(24,[1,4,6])],[],[],0,0⟩
def St0 (a : Unit) (b : D1) : St:=stL 49 [(0,.data .unit a),(1,.data T3 b)] []
def St1 (a b : Int) (c d e : D1) (f : Int) (g : D1) (i j : Int) (k : D1) (l : Int) : St:=stL 49 [(4,.ref 4 0 []),(5,.data T1 a)] [(4,.cell T32 (.agg T32 [.data T1 b,.data T30 c,.data T30 d,.data T12 e,.data T1 f,.data T12 g,.data T1 i,.data T1 j,.data .str k,.full T6 [],.data T1 l,.full T35 []]) false)]
def St2 (a : D1) (b c : Int) (d e f : D1) (g : Int) (i : D1) (j k : Int) (l : D1) (m : Int) : St:=stL 49 [(1,.data T3 a),(4,.ref 4 0 []),(6,.data T1 b)] [(4,.cell T32 (.agg T32 [.data T1 c,.data T30 d,.data T30 e,.data T12 f,.data T1 g,.data T12 i,.data T1 j,.data T1 k,.data .str l,.full T6 [],.data T1 m,.full T35 []]) false)]
noncomputable def cd0 : Code:=cL (cL (cL (cR (cR (cR (cR (cB Tryz.f117)))))))
def St3 (a : D1) (b c : Int) (d e f : D1) (g : Int) (i : D1) (j k : Int) (l : D1) (m : Int) : St:=stL 49 [(1,.data T3 a),(4,.ref 4 0 []),(6,.data T1 b)] [(4,.cell T32 (.agg T32 [.data T1 c,.data T30 d,.data T30 e,.data T12 f,.data T1 g,.data T12 i,.data T1 j,.data T1 k,.data .str l,.full T6 [],.data T1 m,.full T35 []]) false)]
def l0s (Nx : D1->Int->Int->D1->D1->D1->Int->D1->Int->Int->D1->Int->Option α) (Xt0 : D1->Int->Int->D1->D1->D1->Int->D1->Int->Int->D1->Int->Option α) (b : D1) (a c : Int) (d e f : D1) (g : Int) (i : D1) (j k : Int) (l : D1) (m : Int) : Option α :=
 cond (decide (0 <= (IntKind.i64.wrap (a - 1)) /\ (IntKind.i64.wrap (a - 1)) < (b.length : Int)) || !((decide (a > 35)) == true)) (
  if (cond (decide (a > 35)) ((List.getD b (Int.toNat (IntKind.i64.wrap (a - 1))) 0) == 0) false) = true then
   Nx b (IntKind.i64.wrap (a - 1)) c d e f g i j k l m
  else
   Xt0 b a c d e f g i j k l m) none
theorem l0s_eq (k : Nat) (next : St->Option α) (Q : Ex->St->Option α) (a : D1) (b c : Int) (d e f : D1) (g : Int) (i : D1) (j l : Int) (m : D1) (n : Int) :
  rnd C k cd0 18 Q next (St2 a b c d e f g i j l m n) = l0s (fun a b c d e f g i j l m n=>next (St2 a b c d e f g i j l m n)) (fun a b c d e f g i j l m n=>Q (.exit 0) (St3 a b c d e f g i j l m n)) a b c d e f g i j l m n:=plainly Js (by kernel_rfl)
def l0 (k : Nat) (Xt0 : D1->Int->Int->D1->D1->D1->Int->D1->Int->Int->D1->Int->Option α) : Nat->D1->Int->Int->D1->D1->D1->Int->D1->Int->Int->D1->Int->Option α
 | 0,_,_,_,_,_,_,_,_,_,_,_,_=>none
 | n + 1,a,b,c,d,e,f,g,i,j,l,m,o=>l0s (l0 k Xt0 n) Xt0 a b c d e f g i j l m o
theorem l0_eq (k : Nat) (Q : Ex->St->Option α) : ∀ (n : Nat) (a : D1) (b c : Int) (d e f : D1) (g : Int) (i : D1) (j l : Int) (m : D1) (o : Int),iter (rnd C k cd0 18 Q) n (St2 a b c d e f g i j l m o) = l0 k (fun a b c d e f g i j l m o=>Q (.exit 0) (St3 a b c d e f g i j l m o)) n a b c d e f g i j l m o
 | 0,_,_,_,_,_,_,_,_,_,_,_,_=>rfl
 | n + 1,a,b,c,d,e,f,g,i,j,l,m,o=>(iter_succ _ _ _).trans ((l0s_eq k _ Q a b c d e f g i j l m o).trans (congrArg (fun N=>l0s N (fun a b c d e f g i j l m o=>Q (.exit 0) (St3 a b c d e f g i j l m o)) a b c d e f g i j l m o) (by funext; exact l0_eq k Q n _ _ _ _ _ _ _ _ _ _ _ _)))
noncomputable def cd1 : Code:=cR (cR (cR (cR (cR (cB Tryz.f117)))))
def St4 (a : D1) (b c : Int) (d e f : D1) (g : Int) (i : D1) (j k : Int) (l : D1) (m : Int) : St:=stL 49 [(1,.data T3 a),(4,.ref 4 0 []),(6,.data T1 b)] [(4,.cell T32 (.agg T32 [.data T1 c,.data T30 d,.data T30 e,.data T12 f,.data T1 g,.data T12 i,.data T1 j,.data T1 k,.data .str l,.full T6 [],.data T1 m,.full T35 []]) false)]
def j0 (Rt : Int->Int->D1->D1->D1->Int->D1->Int->Int->D1->Int->Option α) (a : D1) (b d : Int) (e f g : D1) (i : Int) (j : D1) (k l : Int) (m : D1) (n : Int) : Option α :=
 if 0 <= (0 : Int) /\ (0 : Int) <= (32 : Int) /\ (32 : Int) <= (a.length : Int) then
  (load_word.run (cutL a 0 32)).bind fun c =>
  if 0 <= (32 : Int) /\ (32 : Int) < (a.length : Int) then
   if 0 <= (33 : Int) /\ (33 : Int) < (a.length : Int) then
    if 0 <= (34 : Int) /\ (34 : Int) < (a.length : Int) then
     if 0 <= (35 : Int) /\ (35 : Int) <= b /\ b <= (a.length : Int) then
      Rt 0 0 [0,0,0,0] [0,0,0,0] c (bor .i64 (shlI .i64 (IntKind.i64.wrap (List.getD a 32 0)) 8) (IntKind.i64.wrap (List.getD a 33 0))) (List.replicate 32 0) 0 (IntKind.i64.wrap (List.getD a 34 0)) (cutL a 35 b) 0
     else none
    else none
   else none
  else none
 else none
theorem j0_eq (k : Nat) (Q : Ex->St->Option α) (m : D1) (n a : Int) (b c d : D1) (e : Int) (f : D1) (g i : Int) (j : D1) (l : Int) :
  (den C k) cd1 Q (St4 m n a b c d e f g i j l) = j0 (fun o a b c d e f g i j l=>Q .ret (St1 o a b c d e f g i j l)) m n a b c d e f g i j l:=plainly Js (by kernel_rfl)
theorem a0 (k : Nat) (Q : Ex->St->Option α) (n : D1) (o a : Int) (c d e : D1) (f : Int) (g : D1) (i j : Int) (l : D1) (m : Int) :
  (lp C k) cd0 (blkQ C 0 (sq (den C k) (lp C k) Js C cd1 Q)) (St2 n o a c d e f g i j l m) = l0 k (fun n o a c d e f g i j l m=>j0 (fun p a c d e f g i j l m=>Q .ret (St1 p a c d e f g i j l m)) n o a c d e f g i j l m) k n o a c d e f g i j l m :=
 (lp_iter 18 (by kernel_rfl)).trans ((l0_eq k _ k n o a c d e f g i j l m).trans (congrArg (fun X=>l0 k X k n o a c d e f g i j l m) (funext fun n=>funext fun o=>funext fun a=>funext fun c=>funext fun d=>funext fun e=>funext fun f=>funext fun g=>funext fun i=>funext fun j=>funext fun l=>funext fun m=>(Eq.trans (b:=(den C k) cd1 Q (St4 n o a c d e f g i j l m)) (by kernel_rfl) (by simp only [j0_eq])))))
def top (k : Nat) (Rt : Int->Int->D1->D1->D1->Int->D1->Int->Int->D1->Int->Option α) (o : Unit) (a : D1) : Option α :=
 if (decide ((a.length : Int) < 67)) = true then
  Rt 4 0 [0,0,0,0] [0,0,0,0] (List.replicate 32 0) 0 (List.replicate 32 0) 0 0 [] 0
 else
  if (decide ((a.length : Int) > 67)) = true then
   Rt 3 0 [0,0,0,0] [0,0,0,0] (List.replicate 32 0) 0 (List.replicate 32 0) 0 0 [] 0
  else
   l0 k (fun a b c d e f g i j l m n=>j0 Rt a b c d e f g i j l m n) k a 67 0 [0,0,0,0] [0,0,0,0] (List.replicate 32 0) 0 (List.replicate 32 0) 0 0 [] 0
theorem top_eq (k : Nat) (Q : Ex->St->Option α) (b : Unit) (a : D1) :
  (den C k) (cB Tryz.f117) Q (St0 b a) = top k (fun c d e f g i j l m n o=>Q .ret (St1 c d e f g i j l m n o)) b a:=by
 have h : ∀ (D L : DT α),denJ D L Js C (cB Tryz.f117) Q (St0 b a) =
    if (decide ((a.length : Int) < 67)) = true then
     Q .ret (St1 4 0 [0,0,0,0] [0,0,0,0] (List.replicate 32 0) 0 (List.replicate 32 0) 0 0 [] 0)
    else
     if (decide ((a.length : Int) > 67)) = true then
      Q .ret (St1 3 0 [0,0,0,0] [0,0,0,0] (List.replicate 32 0) 0 (List.replicate 32 0) 0 0 [] 0)
     else
      L cd0 (blkQ C 0 (sq D L Js C cd1 Q)) (St2 a 67 0 [0,0,0,0] [0,0,0,0] (List.replicate 32 0) 0 (List.replicate 32 0) 0 0 [] 0):=by
  intro D L; kernel_rfl
 have h2:=via (k:=k) h
 refine h2.trans ?_
 simp only [a0]
 first | rfl | kernel_rfl
def run (a : Unit) (b : D1) : Option D19:=top (α:=D14 × Int × Unit) fuel (fun c d e f g i j k l m n=>some ((d,e,f,g,i,j,k,l,m,[],n,[],()),c,())) a b
def F : Fn:=⟨T46,T45,true,fun x=>run x.1 x.2.1⟩
theorem con : Con Tryz.prog 117 F /\ Named Tryz.prog 117 :=
 con_of2 (C:=C) (ctx_ok (by kernel_rfl) (by kernel_rfl) (by kernel_rfl) (by kernel_rfl) ⟨.inl load_word.con,trivial⟩) (by kernel_rfl) Tryz.func117 (by kernel_rfl) (c:=cB Tryz.f117) (by kernel_rfl) (by kernel_rfl) F (fun x=>by simp [F,spread,Tryz.ntmps117]) (fun x=>(St0 x.1 x.2.1)) (fun x=>by kernel_rfl) fun x=>(top_eq fuel _ x.1 x.2.1).trans (by kernel_rfl)
end Go.Bx.load_meta__get
namespace Go.Bx.load_turn__get
def Js : List Nat:=[15]
def C : Ctx:=⟨[(3,T1),(5,T6),(29,T3),(38,T1),(114,T31),(116,T32),(131,T35),(150,.unit)],[],[],fnL [],noSh,[],invL [],[(2,[4,5]),(1,[4,6]),(4,[1,4,6,59,60]),(24,[1,4,6,59,60]),(42,[4,6])],[(2,[.dat false 4 [11]]),(24,[.melt false 6 [11] 74 true])],[],0,0⟩
def St0 (a : Unit) (b : D1) : St:=stL 78 [(0,.data .unit a),(1,.data T3 b)] []
def St1 (a b : Int) (c d e : D1) (f : Int) (g : D1) (i j : Int) (k : D1) (l : Int) (m : D16) : St:=stL 78 [(4,.ref 4 0 []),(5,.data T1 a)] [(4,.cell T32 (.agg T32 [.data T1 b,.data T30 c,.data T30 d,.data T12 e,.data T1 f,.data T12 g,.data T1 i,.data T1 j,.data .str k,.full T6 [],.data T1 l,.data T31 m]) false)]
def St2 (a : D1) (b c d : Int) (e f g : D1) (i : Int) (j : D1) (k l : Int) (m : D1) (n o : Int) (p q r : D1) (s : Int) (t : D1) (u v : Int) (w : D1) (x : Int) (y : D16) : St:=stL 78 [(1,.data T3 a),(4,.ref 4 0 []),(6,.ref 6 0 []),(59,.data T1 b),(60,.data T1 c)] [(4,.cell T32 (.agg T32 [.data T1 d,.data T30 e,.data T30 f,.data T12 g,.data T1 i,.data T12 j,.data T1 k,.data T1 l,.data .str m,.full T6 [],.data T1 n,.full T35 []]) false),(6,.cell T32 (.agg T32 [.data T1 o,.data T30 p,.data T30 q,.data T12 r,.data T1 s,.data T12 t,.data T1 u,.data T1 v,.data .str w,.full T6 [],.data T1 x,.app 74 0]) false),(74,.buf T35 y 0 true)]
noncomputable def cd0 : Code:=cL (cL (cR (cL (cR (cR (cR (cR (cR (cB Tryz.f121)))))))))
def St3 (a : Int) (b c d : D1) (e : Int) (f : D1) (g i : Int) (j : D1) (k l : Int) (m n o : D1) (p : Int) (q : D1) (r s : Int) (t : D1) (u : Int) (v : D16) : St:=stL 78 [(4,.ref 4 0 []),(6,.ref 6 0 [])] [(4,.cell T32 (.agg T32 [.data T1 a,.data T30 b,.data T30 c,.data T12 d,.data T1 e,.data T12 f,.data T1 g,.data T1 i,.data .str j,.full T6 [],.data T1 k,.full T35 []]) false),(6,.cell T32 (.agg T32 [.data T1 l,.data T30 m,.data T30 n,.data T12 o,.data T1 p,.data T12 q,.data T1 r,.data T1 s,.data .str t,.full T6 [],.data T1 u,.app 74 0]) false),(74,.buf T35 v 0 true)]
def l0s (Nx : D1->Int->Int->Int->D1->D1->D1->Int->D1->Int->Int->D1->Int->Int->D1->D1->D1->Int->D1->Int->Int->D1->Int->D16->Option α) (Xt0 : Int->D1->D1->D1->Int->D1->Int->Int->D1->Int->Int->D1->D1->D1->Int->D1->Int->Int->D1->Int->D16->Option α) (a : D1) (d b e : Int) (f g i : D1) (j : Int) (k : D1) (l m : Int) (n : D1) (o p : Int) (q r s : D1) (t : Int) (u : D1) (v w : Int) (x : D1) (y : Int) (c : D16) : Option α :=
 if (decide (b < d)) = true then
  if 0 <= (IntKind.i64.wrap (5 + (IntKind.i64.wrap (20 * b)))) /\ (IntKind.i64.wrap (5 + (IntKind.i64.wrap (20 * b)))) <= (a.length : Int) /\ (a.length : Int) <= (a.length : Int) then
   if fitB (c.length + 1) 20 = true then
    Nx a d (IntKind.i64.wrap (b + 1)) e f g i j k l m n o p q r s t u v w x y (c ++ [(cpyL (List.replicate 20 0) 0 20 (cutL a (IntKind.i64.wrap (5 + (IntKind.i64.wrap (20 * b)))) (a.length : Int)))])
   else none
  else none
 else
  Xt0 e f g i j k l m n o p q r s t u v w x y c
theorem l0s_eq (k : Nat) (next : St->Option α) (Q : Ex->St->Option α) (x : D1) (y z a : Int) (b c d : D1) (e : Int) (f : D1) (g i : Int) (j : D1) (l m : Int) (n o p : D1) (q : Int) (r : D1) (s t : Int) (u : D1) (v : Int) (w : D16) :
  rnd C k cd0 24 Q next (St2 x y z a b c d e f g i j l m n o p q r s t u v w) = l0s (fun x y z a b c d e f g i j l m n o p q r s t u v w=>next (St2 x y z a b c d e f g i j l m n o p q r s t u v w)) (fun a b c d e f g i j l m n o p q r s t u v w=>Q (.exit 0) (St3 a b c d e f g i j l m n o p q r s t u v w)) x y z a b c d e f g i j l m n o p q r s t u v w:=plainly Js (by kernel_rfl)
def l0 (k : Nat) (Xt0 : Int->D1->D1->D1->Int->D1->Int->Int->D1->Int->Int->D1->D1->D1->Int->D1->Int->Int->D1->Int->D16->Option α) : Nat->D1->Int->Int->Int->D1->D1->D1->Int->D1->Int->Int->D1->Int->Int->D1->D1->D1->Int->D1->Int->Int->D1->Int->D16->Option α
 | 0,_,_,_,_,_,_,_,_,_,_,_,_,_,_,_,_,_,_,_,_,_,_,_,_=>none
 | n + 1,a,b,c,d,e,f,g,i,j,l,m,o,p,q,r,s,t,u,v,w,x,y,z,A=>l0s (l0 k Xt0 n) Xt0 a b c d e f g i j l m o p q r s t u v w x y z A
theorem l0_eq (k : Nat) (Q : Ex->St->Option α) : ∀ (n : Nat) (y : D1) (z A a : Int) (b c d : D1) (e : Int) (f : D1) (g i : Int) (j : D1) (l m : Int) (o p q : D1) (r : Int) (s : D1) (t u : Int) (v : D1) (w : Int) (x : D16),iter (rnd C k cd0 24 Q) n (St2 y z A a b c d e f g i j l m o p q r s t u v w x) = l0 k (fun a b c d e f g i j l m o p q r s t u v w x=>Q (.exit 0) (St3 a b c d e f g i j l m o p q r s t u v w x)) n y z A a b c d e f g i j l m o p q r s t u v w x
 | 0,_,_,_,_,_,_,_,_,_,_,_,_,_,_,_,_,_,_,_,_,_,_,_,_=>rfl
 | n + 1,y,z,A,a,b,c,d,e,f,g,i,j,l,m,o,p,q,r,s,t,u,v,w,x=>(iter_succ _ _ _).trans ((l0s_eq k _ Q y z A a b c d e f g i j l m o p q r s t u v w x).trans (congrArg (fun N=>l0s N (fun a b c d e f g i j l m o p q r s t u v w x=>Q (.exit 0) (St3 a b c d e f g i j l m o p q r s t u v w x)) y z A a b c d e f g i j l m o p q r s t u v w x) (by funext; exact l0_eq k Q n _ _ _ _ _ _ _ _ _ _ _ _ _ _ _ _ _ _ _ _ _ _ _ _)))
noncomputable def cd1 : Code:=cR (cR (cR (cR (cR (cR (cB Tryz.f121))))))
def St4 (a : Int) (b c d : D1) (e : Int) (f : D1) (g i : Int) (j : D1) (k l : Int) (m n o : D1) (p : Int) (q : D1) (r s : Int) (t : D1) (u : Int) (v : D16) : St:=stL 78 [(4,.ref 4 0 []),(6,.ref 6 0 [])] [(4,.cell T32 (.agg T32 [.data T1 a,.data T30 b,.data T30 c,.data T12 d,.data T1 e,.data T12 f,.data T1 g,.data T1 i,.data .str j,.full T6 [],.data T1 k,.full T35 []]) false),(6,.cell T32 (.agg T32 [.data T1 l,.data T30 m,.data T30 n,.data T12 o,.data T1 p,.data T12 q,.data T1 r,.data T1 s,.data .str t,.full T6 [],.data T1 u,.app 74 0]) false),(74,.buf T35 v 0 true)]
def j0 (Rt : Int->Int->D1->D1->D1->Int->D1->Int->Int->D1->Int->D16->Option α) (m : Int) (n o p : D1) (q : Int) (r : D1) (s t : Int) (u : D1) (v a : Int) (b c d : D1) (e : Int) (f : D1) (g i : Int) (j : D1) (k : Int) (l : D16) : Option α :=
 Rt 0 a b c d e f g i j k l
theorem j0_eq (k : Nat) (Q : Ex->St->Option α) (a : Int) (b c d : D1) (e : Int) (f : D1) (g i : Int) (j : D1) (l m : Int) (n o p : D1) (q : Int) (r : D1) (s t : Int) (u : D1) (v : Int) (w : D16) :
  (den C k) cd1 Q (St4 a b c d e f g i j l m n o p q r s t u v w) = j0 (fun x a b c d e f g i j l y=>Q .ret (St1 x a b c d e f g i j l y)) a b c d e f g i j l m n o p q r s t u v w:=plainly Js (by kernel_rfl)
theorem a0 (k : Nat) (Q : Ex->St->Option α) (y : D1) (z A a : Int) (c d e : D1) (f : Int) (g : D1) (i j : Int) (l : D1) (m n : Int) (o p q : D1) (r : Int) (s : D1) (t u : Int) (v : D1) (w : Int) (x : D16) :
  (lp C k) cd0 (blkQ C 0 (sq (den C k) (lp C k) Js C cd1 Q)) (St2 y z A a c d e f g i j l m n o p q r s t u v w x) = l0 k (fun a c d e f g i j l m n o p q r s t u v w x=>j0 (fun B a c d e f g i j l m D=>Q .ret (St1 B a c d e f g i j l m D)) a c d e f g i j l m n o p q r s t u v w x) k y z A a c d e f g i j l m n o p q r s t u v w x :=
 (lp_iter 24 (by kernel_rfl)).trans ((l0_eq k _ k y z A a c d e f g i j l m n o p q r s t u v w x).trans (congrArg (fun X=>l0 k X k y z A a c d e f g i j l m n o p q r s t u v w x) (funext fun a=>funext fun c=>funext fun d=>funext fun e=>funext fun f=>funext fun g=>funext fun i=>funext fun j=>funext fun l=>funext fun m=>funext fun n=>funext fun o=>funext fun p=>funext fun q=>funext fun r=>funext fun s=>funext fun t=>funext fun u=>funext fun v=>funext fun w=>funext fun x=>(Eq.trans (b:=(den C k) cd1 Q (St4 a c d e f g i j l m n o p q r s t u v w x)) (by kernel_rfl) (by simp only [j0_eq])))))
def top (k : Nat) (Rt : Int->Int->D1->D1->D1->Int->D1->Int->Int->D1->Int->D16->Option α) (y : Unit) (a : D1) : Option α :=
 cond (decide (0 <= (4 : Int) /\ (4 : Int) < (a.length : Int)) || !((decide ((a.length : Int) < 5)) == false)) (
  if (cond (decide ((a.length : Int) < 5)) true (decide ((a.length : Int) < (IntKind.i64.wrap (5 + (IntKind.i64.wrap (20 * (IntKind.i64.wrap (List.getD a 4 0))))))))) = true then
   Rt 4 0 [0,0,0,0] [0,0,0,0] (List.replicate 32 0) 0 (List.replicate 32 0) 0 0 [] 0 []
  else
   if 0 <= (0 : Int) /\ (0 : Int) < (a.length : Int) then
    if 0 <= (1 : Int) /\ (1 : Int) < (a.length : Int) then
     if 0 <= (2 : Int) /\ (2 : Int) < (a.length : Int) then
      if 0 <= (3 : Int) /\ (3 : Int) < (a.length : Int) then
       if 0 <= (4 : Int) /\ (4 : Int) < (a.length : Int) then
        if (decide ((a.length : Int) > (IntKind.i64.wrap (5 + (IntKind.i64.wrap (20 * (IntKind.i64.wrap (List.getD a 4 0)))))))) = true then
         Rt 3 0 [0,0,0,0] [0,0,0,0] (List.replicate 32 0) 0 (List.replicate 32 0) 0 0 [] 0 []
        else
         l0 k (fun b c d e f g i j l m n o p q r s t u v w x=>j0 Rt b c d e f g i j l m n o p q r s t u v w x) k a (IntKind.i64.wrap (List.getD a 4 0)) 0 0 [0,0,0,0] [0,0,0,0] (List.replicate 32 0) 0 (List.replicate 32 0) 0 0 [] 0 0 [0,0,0,0] [0,0,0,0] (List.replicate 32 0) 0 (List.replicate 32 0) 0 0 [] (bor .i64 (bor .i64 (bor .i64 (shlI .i64 (IntKind.i64.wrap (List.getD a 0 0)) 24) (shlI .i64 (IntKind.i64.wrap (List.getD a 1 0)) 16)) (shlI .i64 (IntKind.i64.wrap (List.getD a 2 0)) 8)) (IntKind.i64.wrap (List.getD a 3 0))) []
       else none
      else none
     else none
    else none
   else none) none
theorem top_eq (k : Nat) (Q : Ex->St->Option α) (b : Unit) (a : D1) :
  (den C k) (cB Tryz.f121) Q (St0 b a) = top k (fun c d e f g i j l m n o p=>Q .ret (St1 c d e f g i j l m n o p)) b a:=by
 have h : ∀ (D L : DT α),denJ D L Js C (cB Tryz.f121) Q (St0 b a) =
    cond (decide (0 <= (4 : Int) /\ (4 : Int) < (a.length : Int)) || !((decide ((a.length : Int) < 5)) == false)) (
     if (cond (decide ((a.length : Int) < 5)) true (decide ((a.length : Int) < (IntKind.i64.wrap (5 + (IntKind.i64.wrap (20 * (IntKind.i64.wrap (List.getD a 4 0))))))))) = true then
      Q .ret (St1 4 0 [0,0,0,0] [0,0,0,0] (List.replicate 32 0) 0 (List.replicate 32 0) 0 0 [] 0 [])
     else
      if 0 <= (0 : Int) /\ (0 : Int) < (a.length : Int) then
       if 0 <= (1 : Int) /\ (1 : Int) < (a.length : Int) then
        if 0 <= (2 : Int) /\ (2 : Int) < (a.length : Int) then
         if 0 <= (3 : Int) /\ (3 : Int) < (a.length : Int) then
          if 0 <= (4 : Int) /\ (4 : Int) < (a.length : Int) then
           if (decide ((a.length : Int) > (IntKind.i64.wrap (5 + (IntKind.i64.wrap (20 * (IntKind.i64.wrap (List.getD a 4 0)))))))) = true then
            Q .ret (St1 3 0 [0,0,0,0] [0,0,0,0] (List.replicate 32 0) 0 (List.replicate 32 0) 0 0 [] 0 [])
           else
            L cd0 (blkQ C 0 (sq D L Js C cd1 Q)) (St2 a (IntKind.i64.wrap (List.getD a 4 0)) 0 0 [0,0,0,0] [0,0,0,0] (List.replicate 32 0) 0 (List.replicate 32 0) 0 0 [] 0 0 [0,0,0,0] [0,0,0,0] (List.replicate 32 0) 0 (List.replicate 32 0) 0 0 [] (bor .i64 (bor .i64 (bor .i64 (shlI .i64 (IntKind.i64.wrap (List.getD a 0 0)) 24) (shlI .i64 (IntKind.i64.wrap (List.getD a 1 0)) 16)) (shlI .i64 (IntKind.i64.wrap (List.getD a 2 0)) 8)) (IntKind.i64.wrap (List.getD a 3 0))) [])
          else none
         else none
        else none
       else none
      else none) none:=by
  intro D L; kernel_rfl
 have h2:=via (k:=k) h
 refine h2.trans ?_
 simp only [a0]
 first | rfl | kernel_rfl
def run (a : Unit) (b : D1) : Option D19:=top (α:=D14 × Int × Unit) fuel (fun c d e f g i j k l m n o=>some ((d,e,f,g,i,j,k,l,m,[],n,o,()),c,())) a b
def F : Fn:=⟨T46,T45,true,fun x=>run x.1 x.2.1⟩
theorem con : Con Tryz.prog 121 F /\ Named Tryz.prog 121 :=
 con_of2 (C:=C) (ctx_ok (by kernel_rfl) (by kernel_rfl) (by kernel_rfl) (by kernel_rfl) trivial) (by kernel_rfl) Tryz.func121 (by kernel_rfl) (c:=cB Tryz.f121) (by kernel_rfl) (by kernel_rfl) F (fun x=>by simp [F,spread,Tryz.ntmps121]) (fun x=>(St0 x.1 x.2.1)) (fun x=>by kernel_rfl) fun x=>(top_eq fuel _ x.1 x.2.1).trans (by kernel_rfl)
end Go.Bx.load_turn__get
namespace Go.Bx.load_Decode
def Js : List Nat:=[]
def C : Ctx := ⟨[(3, T1), (5, T6), (29, T3), (38, T1), (116, T32)], [], [], fnL [(87, load_Check.F), (110, load_transfer__get.F), (117, load_meta__get.F), (121, load_turn__get.F)], shL [(86, [.alt load_kindOf_s0.Sp])], [(17, 48)], invL [(147, [("bascule/load.get", 110)]), (149, [("bascule/load.get", 117)]), (150, [("bascule/load.get", 121)])], [(2, [2, 3])], [(2, [.dat false 2 []])], [], 0, 0⟩
def St0 (a : D1) : St:=stL 47 [(0,.data T3 a)] []
def St1 (a : Int) (b : D14) : St:=stL 47 [(2,.ref 2 0 []),(3,.data T1 a)] [(2,.cell T32 (.data T32 b) false)]
def top (Rt : Int->D14->Option α) (a : D1) : Option α :=
 if ((a.length : Int) == 0) = true then
  Rt 4 (0,[0,0,0,0],[0,0,0,0],(List.replicate 32 0),0,(List.replicate 32 0),0,0,[],[],0,[],())
 else
  if 0 <= (0 : Int) /\ (0 : Int) < (a.length : Int) then
   (load_kindOf_s0.run (IntKind.i64.wrap (List.getD a 0 0))).bind fun j=>(Sum.elim (fun f =>
    if (not f.2.1) = true then
     Rt 2 (0,[0,0,0,0],[0,0,0,0],(List.replicate 32 0),0,(List.replicate 32 0),0,0,[],[],0,[],())
    else
     if 0 <= (1 : Int) /\ (1 : Int) <= (a.length : Int) /\ (a.length : Int) <= (a.length : Int) then
      (load_transfer__get.run f.1 (cutL a 1 (a.length : Int))).bind fun b =>
      if (b.2.1 != 0) = true then
       Rt b.2.1 (0,[0,0,0,0],[0,0,0,0],(List.replicate 32 0),0,(List.replicate 32 0),0,0,[],[],0,[],())
      else
       if 0 <= (0 : Int) /\ (0 : Int) < (a.length : Int) then
        (load_Check.run ((IntKind.i64.wrap (List.getD a 0 0)),b.1.2)).bind fun k =>
        if (k != 0) = true then
         Rt 3 (0,[0,0,0,0],[0,0,0,0],(List.replicate 32 0),0,(List.replicate 32 0),0,0,[],[],0,[],())
        else
         Rt 0 ((IntKind.i64.wrap (List.getD a 0 0)),b.1.2)
       else none
     else none) (Sum.elim (fun g =>
    if (not g.2.1) = true then
     Rt 2 (0,[0,0,0,0],[0,0,0,0],(List.replicate 32 0),0,(List.replicate 32 0),0,0,[],[],0,[],())
    else
     if 0 <= (1 : Int) /\ (1 : Int) <= (a.length : Int) /\ (a.length : Int) <= (a.length : Int) then
      (load_meta__get.run g.1 (cutL a 1 (a.length : Int))).bind fun c =>
      if (c.2.1 != 0) = true then
       Rt c.2.1 (0,[0,0,0,0],[0,0,0,0],(List.replicate 32 0),0,(List.replicate 32 0),0,0,[],[],0,[],())
      else
       if 0 <= (0 : Int) /\ (0 : Int) < (a.length : Int) then
        (load_Check.run ((IntKind.i64.wrap (List.getD a 0 0)),c.1.2)).bind fun l =>
        if (l != 0) = true then
         Rt 3 (0,[0,0,0,0],[0,0,0,0],(List.replicate 32 0),0,(List.replicate 32 0),0,0,[],[],0,[],())
        else
         Rt 0 ((IntKind.i64.wrap (List.getD a 0 0)),c.1.2)
       else none
     else none) (Sum.elim (fun i =>
    if (not i.2.1) = true then
     Rt 2 (0,[0,0,0,0],[0,0,0,0],(List.replicate 32 0),0,(List.replicate 32 0),0,0,[],[],0,[],())
    else
     if 0 <= (1 : Int) /\ (1 : Int) <= (a.length : Int) /\ (a.length : Int) <= (a.length : Int) then
      (load_turn__get.run i.1 (cutL a 1 (a.length : Int))).bind fun d =>
      if (d.2.1 != 0) = true then
       Rt d.2.1 (0,[0,0,0,0],[0,0,0,0],(List.replicate 32 0),0,(List.replicate 32 0),0,0,[],[],0,[],())
      else
       if 0 <= (0 : Int) /\ (0 : Int) < (a.length : Int) then
        (load_Check.run ((IntKind.i64.wrap (List.getD a 0 0)),d.1.2)).bind fun m =>
        if (m != 0) = true then
         Rt 3 (0,[0,0,0,0],[0,0,0,0],(List.replicate 32 0),0,(List.replicate 32 0),0,0,[],[],0,[],())
        else
         Rt 0 ((IntKind.i64.wrap (List.getD a 0 0)),d.1.2)
       else none
     else none) (Sum.elim (fun n =>
    if (not n.1) = true then
     Rt 2 (0,[0,0,0,0],[0,0,0,0],(List.replicate 32 0),0,(List.replicate 32 0),0,0,[],[],0,[],())
    else
     if 0 <= (1 : Int) /\ (1 : Int) <= (a.length : Int) /\ (a.length : Int) <= (a.length : Int) then
      none
     else none) (fun e=>e.elim))))) j
  else none
theorem top_eq (k : Nat) (Q : Ex->St->Option α) (a : D1) :
  (den C k) (cB Tryz.f76) Q (St0 a) = top (fun b c=>Q .ret (St1 b c)) a:=plainly Js (by kernel_rfl)
def run (a : D1) : Option D19:=top (α:=D14 × Int × Unit) (fun b c=>some (c,b,())) a
def F : Fn:=⟨T7,T45,true,fun x=>run x.1⟩
theorem con : Con Tryz.prog 76 F /\ Named Tryz.prog 76 :=
 con_of2 (C:=C) (ctx_ok_sh (by kernel_rfl) (by kernel_rfl) (by kernel_rfl) (by kernel_rfl) ⟨.inl load_Check.con,⟨.inl load_transfer__get.con,⟨.inl load_meta__get.con,⟨.inl load_turn__get.con,trivial⟩⟩⟩⟩ ⟨⟨⟨load_kindOf_s0.sok,trivial⟩,load_kindOf_s0.named⟩,trivial⟩) (by kernel_rfl) Tryz.func76 (by kernel_rfl) (c:=cB Tryz.f76) (by kernel_rfl) (by kernel_rfl) F (fun x=>by simp [F,spread,Tryz.ntmps76]) (fun x=>(St0 x.1)) (fun x=>by kernel_rfl) fun x=>(top_eq fuel _ x.1).trans (by kernel_rfl)
end Go.Bx.load_Decode
namespace Go.Bx.basculeref_LoadOf
def Js : List Nat:=[11,22,35]
def C : Ctx:=⟨[(3,T1),(5,T6),(9,.str),(24,T30),(29,T3),(35,T12),(38,T1),(114,T31),(116,T32),(131,T35)],[],[],fnL [(45,basculeref_number.F),(69,basculeref_wideOf.F),(70,basculeref_word.F),(81,basculeref_LoadFault.F)],noSh,[],invL [],[(2,[2,3]),(1,[2,5]),(4,[2,4,5,6]),(7,[2,4,5,6]),(10,[2,5]),(13,[2,4,5]),(38,[2,4,5,20,22]),(57,[2,4,5,6]),(63,[2,4,5,6]),(87,[2,4,5]),(102,[2,5])],[(2,[.dat false 2 [9],.dat false 2 [11]]),(87,[.melt false 5 [11] 140 true]),(102,[.dat false 5 [9],.melt false 5 [11] 140 true])],[],0,0⟩
def St0 (a : D1) : St:=stL 147 [(0,.data T3 a)] []
def St1 (a : Int) (b : D14) : St:=stL 147 [(2,.ref 2 0 []),(3,.data T1 a)] [(2,.cell T32 (.data T32 b) false)]
def St2 (a : D1) (b : Int) (c : Bool) (d : Int) (e f g : D1) (i : Int) (j : D1) (k l : Int) (m : D1) (n o : Int) (p q r : D1) (s : Int) (t : D1) (u v : Int) (w : D1) (x : Int) : St:=stL 147 [(2,.ref 2 0 []),(4,.data .str a),(5,.ref 5 0 []),(20,.data T1 b),(22,.data .bool c)] [(2,.cell T32 (.agg T32 [.data T1 d,.data T30 e,.data T30 f,.data T12 g,.data T1 i,.data T12 j,.data T1 k,.data T1 l,.data .str m,.full T6 [],.data T1 n,.full T35 []]) false),(5,.cell T32 (.agg T32 [.data T1 o,.data T30 p,.data T30 q,.data T12 r,.data T1 s,.data T12 t,.data T1 u,.data T1 v,.data .str w,.full T6 [],.data T1 x,.full T35 []]) false)]
noncomputable def cd0 : Code:=cR (cR (cR (cR (cR (cR (cB Tryz.f67))))))
noncomputable def cd1 : Code:=cR (cL (cR (cL (cR (cR (cR (cR (cR (cB Tryz.f67)))))))))
def St3 (a : Int) (b c d : D1) (e : Int) (f : D1) (g i : Int) (j : D1) (k l : Int) (m n o : D1) (p : Int) (q : D1) (r s : Int) (t u : D1) (v : Int) (w : D16) : St:=stL 147 [(2,.ref 2 0 []),(5,.ref 5 0 [])] [(2,.cell T32 (.agg T32 [.data T1 a,.data T30 b,.data T30 c,.data T12 d,.data T1 e,.data T12 f,.data T1 g,.data T1 i,.data .str j,.full T6 [],.data T1 k,.full T35 []]) false),(5,.cell T32 (.agg T32 [.data T1 l,.data T30 m,.data T30 n,.data T12 o,.data T1 p,.data T12 q,.data T1 r,.data T1 s,.data .str t,.data T3 u,.data T1 v,.app 140 0]) false),(140,.buf T35 w 0 true)]
def j1 (Rt : Int->D14->Option α) (o : Int) (p q r : D1) (s : Int) (t : D1) (u v : Int) (w : D1) (x a : Int) (b c d : D1) (e : Int) (f : D1) (g i : Int) (j k : D1) (l : Int) (m : D16) : Option α :=
 (basculeref_LoadFault.run (a,b,c,d,e,f,g,i,j,k,l,m,())).bind fun n =>
 if (n != 0) = true then
  Rt 3 (0,[0,0,0,0],[0,0,0,0],(List.replicate 32 0),0,(List.replicate 32 0),0,0,[],[],0,[],())
 else
  Rt 0 (a,b,c,d,e,f,g,i,j,k,l,m,())
theorem j1_eq (k : Nat) (Q : Ex->St->Option α) (a : Int) (b c d : D1) (e : Int) (f : D1) (g i : Int) (j : D1) (l m : Int) (n o p : D1) (q : Int) (r : D1) (s t : Int) (u v : D1) (w : Int) (x : D16) :
  (den C k) cd0 Q (St3 a b c d e f g i j l m n o p q r s t u v w x) = j1 (fun y z=>Q .ret (St1 y z)) a b c d e f g i j l m n o p q r s t u v w x:=plainly Js (by kernel_rfl)
def St4 (a b : D1) (c : Int) (d e f : D1) (g : Int) (i : D1) (j k : Int) (l : D1) (m n : Int) (o p q : D1) (r : Int) (s : D1) (t u : Int) (v : D1) (w : Int) : St:=stL 147 [(2,.ref 2 0 []),(4,.data .str a),(5,.ref 5 0 []),(6,.data .str b)] [(2,.cell T32 (.agg T32 [.data T1 c,.data T30 d,.data T30 e,.data T12 f,.data T1 g,.data T12 i,.data T1 j,.data T1 k,.data .str l,.full T6 [],.data T1 m,.full T35 []]) false),(5,.cell T32 (.agg T32 [.data T1 n,.data T30 o,.data T30 p,.data T12 q,.data T1 r,.data T12 s,.data T1 t,.data T1 u,.data .str v,.full T6 [],.data T1 w,.full T35 []]) false)]
noncomputable def cd2 : Code:=cL (cL (cL (cR (cR (cR (cL (cR (cR (cR (cL (cR (cL (cR (cR (cR (cR (cR (cB Tryz.f67))))))))))))))))))
def St5 (a b : D1) (c : Int) (d e f : D1) (g : Int) (i : D1) (j k : Int) (l : D1) (m n : Int) (o p q : D1) (r : Int) (s : D1) (t u : Int) (v : D1) (w : Int) : St:=stL 147 [(2,.ref 2 0 []),(4,.data .str a),(5,.ref 5 0 []),(6,.data .str b)] [(2,.cell T32 (.agg T32 [.data T1 c,.data T30 d,.data T30 e,.data T12 f,.data T1 g,.data T12 i,.data T1 j,.data T1 k,.data .str l,.full T6 [],.data T1 m,.full T35 []]) false),(5,.cell T32 (.agg T32 [.data T1 n,.data T30 o,.data T30 p,.data T12 q,.data T1 r,.data T12 s,.data T1 t,.data T1 u,.data .str v,.full T6 [],.data T1 w,.full T35 []]) false)]
def l0s (Nx : D1->D1->Int->D1->D1->D1->Int->D1->Int->Int->D1->Int->Int->D1->D1->D1->Int->D1->Int->Int->D1->Int->Option α) (Xt1 : D1->D1->Int->D1->D1->D1->Int->D1->Int->Int->D1->Int->Int->D1->D1->D1->Int->D1->Int->Int->D1->Int->Option α) (b a : D1) (c : Int) (d e f : D1) (g : Int) (i : D1) (j k : Int) (l : D1) (m n : Int) (o p q : D1) (r : Int) (s : D1) (t u : Int) (v : D1) (w : Int) : Option α :=
 cond (decide (0 <= (IntKind.i64.wrap ((a.length : Int) - 1)) /\ (IntKind.i64.wrap ((a.length : Int) - 1)) < (a.length : Int)) || !((not (beqD .str a [])) == true)) (
  if (cond (not (beqD .str a [])) ((List.getD a (Int.toNat (IntKind.i64.wrap ((a.length : Int) - 1))) 0) == 0) false) = true then
   if 0 <= (0 : Int) /\ (0 : Int) <= (IntKind.i64.wrap ((a.length : Int) - 1)) /\ (IntKind.i64.wrap ((a.length : Int) - 1)) <= (a.length : Int) then
    Nx b (cutL a 0 (IntKind.i64.wrap ((a.length : Int) - 1))) c d e f g i j k l m n o p q r s t u v w
   else none
  else
   Xt1 b a c d e f g i j k l m n o p q r s t u v w) none
theorem l0s_eq (k : Nat) (next : St->Option α) (Q : Ex->St->Option α) (a b : D1) (c : Int) (d e f : D1) (g : Int) (i : D1) (j l : Int) (m : D1) (n o : Int) (p q r : D1) (s : Int) (t : D1) (u v : Int) (w : D1) (x : Int) :
  rnd C k cd2 57 Q next (St4 a b c d e f g i j l m n o p q r s t u v w x) = l0s (fun a b c d e f g i j l m n o p q r s t u v w x=>next (St4 a b c d e f g i j l m n o p q r s t u v w x)) (fun a b c d e f g i j l m n o p q r s t u v w x=>Q (.exit 1) (St5 a b c d e f g i j l m n o p q r s t u v w x)) a b c d e f g i j l m n o p q r s t u v w x:=plainly Js (by kernel_rfl)
def l0 (k : Nat) (Xt1 : D1->D1->Int->D1->D1->D1->Int->D1->Int->Int->D1->Int->Int->D1->D1->D1->Int->D1->Int->Int->D1->Int->Option α) : Nat->D1->D1->Int->D1->D1->D1->Int->D1->Int->Int->D1->Int->Int->D1->D1->D1->Int->D1->Int->Int->D1->Int->Option α
 | 0,_,_,_,_,_,_,_,_,_,_,_,_,_,_,_,_,_,_,_,_,_,_=>none
 | n + 1,a,b,c,d,e,f,g,i,j,l,m,o,p,q,r,s,t,u,v,w,x,y=>l0s (l0 k Xt1 n) Xt1 a b c d e f g i j l m o p q r s t u v w x y
theorem l0_eq (k : Nat) (Q : Ex->St->Option α) : ∀ (n : Nat) (a b : D1) (c : Int) (d e f : D1) (g : Int) (i : D1) (j l : Int) (m : D1) (o p : Int) (q r s : D1) (t : Int) (u : D1) (v w : Int) (x : D1) (y : Int),iter (rnd C k cd2 57 Q) n (St4 a b c d e f g i j l m o p q r s t u v w x y) = l0 k (fun a b c d e f g i j l m o p q r s t u v w x y=>Q (.exit 1) (St5 a b c d e f g i j l m o p q r s t u v w x y)) n a b c d e f g i j l m o p q r s t u v w x y
 | 0,_,_,_,_,_,_,_,_,_,_,_,_,_,_,_,_,_,_,_,_,_,_=>rfl
 | n + 1,a,b,c,d,e,f,g,i,j,l,m,o,p,q,r,s,t,u,v,w,x,y=>(iter_succ _ _ _).trans ((l0s_eq k _ Q a b c d e f g i j l m o p q r s t u v w x y).trans (congrArg (fun N=>l0s N (fun a b c d e f g i j l m o p q r s t u v w x y=>Q (.exit 1) (St5 a b c d e f g i j l m o p q r s t u v w x y)) a b c d e f g i j l m o p q r s t u v w x y) (by funext; exact l0_eq k Q n _ _ _ _ _ _ _ _ _ _ _ _ _ _ _ _ _ _ _ _ _ _)))
noncomputable def cd3 : Code:=cR (cR (cR (cR (cL (cR (cR (cR (cL (cR (cL (cR (cR (cR (cR (cR (cB Tryz.f67))))))))))))))))
def St6 (a b : D1) (c : Int) (d e f : D1) (g : Int) (i : D1) (j k : Int) (l : D1) (m n : Int) (o p q : D1) (r : Int) (s : D1) (t u : Int) (v : D1) (w : Int) : St:=stL 147 [(2,.ref 2 0 []),(4,.data .str a),(5,.ref 5 0 []),(6,.data .str b)] [(2,.cell T32 (.agg T32 [.data T1 c,.data T30 d,.data T30 e,.data T12 f,.data T1 g,.data T12 i,.data T1 j,.data T1 k,.data .str l,.full T6 [],.data T1 m,.full T35 []]) false),(5,.cell T32 (.agg T32 [.data T1 n,.data T30 o,.data T30 p,.data T12 q,.data T1 r,.data T12 s,.data T1 t,.data T1 u,.data .str v,.full T6 [],.data T1 w,.full T35 []]) false)]
def j2 (Rt : Int->D14->Option α) (a b : D1) (c : Int) (d e f : D1) (g : Int) (i : D1) (j k : Int) (l : D1) (m n : Int) (o p v : D1) (w : Int) (q : D1) (r x : Int) (y : D1) (s : Int) : Option α :=
 if 0 <= (0 : Int) /\ (0 : Int) <= (32 : Int) /\ (32 : Int) <= (a.length : Int) then
  (basculeref_word.run (cutL a 0 32)).bind fun t =>
  if 0 <= (32 : Int) /\ (32 : Int) <= (34 : Int) /\ (34 : Int) <= (a.length : Int) then
   (basculeref_number.run (cutL a 32 34)).bind fun u =>
   if 0 <= (34 : Int) /\ (34 : Int) < (a.length : Int) then
    j1 Rt c d e f g i j k l m n o p t u q r (IntKind.i64.wrap (List.getD a 34 0)) b [] s []
   else none
  else none
 else none
theorem j2_eq (k : Nat) (Q : Ex->St->Option α) (a b : D1) (c : Int) (d e f : D1) (g : Int) (i : D1) (j l : Int) (m : D1) (n o : Int) (p q u : D1) (v : Int) (r : D1) (s w : Int) (x : D1) (t : Int) :
  (den C k) cd3 (blkQ C 0 (sq (den C k) (lp C k) Js C cd0 Q)) (St6 a b c d e f g i j l m n o p q u v r s w x t) = j2 (fun y z=>Q .ret (St1 y z)) a b c d e f g i j l m n o p q u v r s w x t:=by
 have h : ∀ (D L : DT α),denJ D L Js C cd3 (blkQ C 0 (sq D L Js C cd0 Q)) (St6 a b c d e f g i j l m n o p q u v r s w x t) =
    if 0 <= (0 : Int) /\ (0 : Int) <= (32 : Int) /\ (32 : Int) <= (a.length : Int) then
     (basculeref_word.run (cutL a 0 32)).bind fun A =>
     if 0 <= (32 : Int) /\ (32 : Int) <= (34 : Int) /\ (34 : Int) <= (a.length : Int) then
      (basculeref_number.run (cutL a 32 34)).bind fun B =>
      if 0 <= (34 : Int) /\ (34 : Int) < (a.length : Int) then
       D cd0 Q (St3 c d e f g i j l m n o p q A B r s (IntKind.i64.wrap (List.getD a 34 0)) b [] t [])
      else none
     else none
    else none:=by
  intro D L; kernel_rfl
 have h2:=via (k:=k) h
 refine h2.trans ?_
 simp only [j1_eq]
 first | rfl | kernel_rfl
theorem a0 (k : Nat) (Q : Ex->St->Option α) (a c : D1) (d : Int) (e f g : D1) (i : Int) (j : D1) (l m : Int) (n : D1) (o p : Int) (q r s : D1) (t : Int) (u : D1) (v w : Int) (x : D1) (y : Int) :
  (lp C k) cd2 (blkQ C 1 (sq (den C k) (lp C k) Js C cd3 (blkQ C 0 (sq (den C k) (lp C k) Js C cd0 Q)))) (St4 a c d e f g i j l m n o p q r s t u v w x y) = l0 k (fun a c d e f g i j l m n o p q r s t u v w x y=>j2 (fun z A=>Q .ret (St1 z A)) a c d e f g i j l m n o p q r s t u v w x y) k a c d e f g i j l m n o p q r s t u v w x y :=
 (lp_iter 57 (by kernel_rfl)).trans ((l0_eq k _ k a c d e f g i j l m n o p q r s t u v w x y).trans (congrArg (fun X=>l0 k X k a c d e f g i j l m n o p q r s t u v w x y) (funext fun a=>funext fun c=>funext fun d=>funext fun e=>funext fun f=>funext fun g=>funext fun i=>funext fun j=>funext fun l=>funext fun m=>funext fun n=>funext fun o=>funext fun p=>funext fun q=>funext fun r=>funext fun s=>funext fun t=>funext fun u=>funext fun v=>funext fun w=>funext fun x=>funext fun y=>(Eq.trans (b:=(den C k) cd3 (blkQ C 0 (sq (den C k) (lp C k) Js C cd0 Q)) (St6 a c d e f g i j l m n o p q r s t u v w x y)) (by kernel_rfl) (by simp only [j2_eq])))))
def St7 (a : D1) (b : Int) (c d e : D1) (f : Int) (g : D1) (i j : Int) (k : D1) (l m : Int) (n o p : D1) (q : Int) (r : D1) (s t : Int) (u : D1) (v : Int) (w : D16) : St:=stL 147 [(2,.ref 2 0 []),(4,.data .str a),(5,.ref 5 0 [])] [(2,.cell T32 (.agg T32 [.data T1 b,.data T30 c,.data T30 d,.data T12 e,.data T1 f,.data T12 g,.data T1 i,.data T1 j,.data .str k,.full T6 [],.data T1 l,.full T35 []]) false),(5,.cell T32 (.agg T32 [.data T1 m,.data T30 n,.data T30 o,.data T12 p,.data T1 q,.data T12 r,.data T1 s,.data T1 t,.data .str u,.full T6 [],.data T1 v,.app 140 0]) false),(140,.buf T35 w 0 true)]
noncomputable def cd4 : Code:=cL (cL (cR (cR (cR (cR (cL (cR (cR (cR (cR (cR (cL (cR (cL (cR (cR (cR (cR (cR (cB Tryz.f67))))))))))))))))))))
def St8 (a : Int) (b c d : D1) (e : Int) (f : D1) (g i : Int) (j : D1) (k l : Int) (m n o : D1) (p : Int) (q : D1) (r s : Int) (t : D1) (u : Int) (v : D16) : St:=stL 147 [(2,.ref 2 0 []),(5,.ref 5 0 [])] [(2,.cell T32 (.agg T32 [.data T1 a,.data T30 b,.data T30 c,.data T12 d,.data T1 e,.data T12 f,.data T1 g,.data T1 i,.data .str j,.full T6 [],.data T1 k,.full T35 []]) false),(5,.cell T32 (.agg T32 [.data T1 l,.data T30 m,.data T30 n,.data T12 o,.data T1 p,.data T12 q,.data T1 r,.data T1 s,.data .str t,.full T6 [],.data T1 u,.app 140 0]) false),(140,.buf T35 v 0 true)]
def l1s (Nx : D1->Int->D1->D1->D1->Int->D1->Int->Int->D1->Int->Int->D1->D1->D1->Int->D1->Int->Int->D1->Int->D16->Option α) (Xt3 : Int->D1->D1->D1->Int->D1->Int->Int->D1->Int->Int->D1->D1->D1->Int->D1->Int->Int->D1->Int->D16->Option α) (a : D1) (c : Int) (d e f : D1) (g : Int) (i : D1) (j k : Int) (l : D1) (m n : Int) (o p q : D1) (r : Int) (s : D1) (t u : Int) (v : D1) (w : Int) (b : D16) : Option α :=
 if (not (beqD .str a [])) = true then
  if fitB (b.length + 1) 20 = true then
   if 0 <= (20 : Int) /\ (20 : Int) <= (a.length : Int) /\ (a.length : Int) <= (a.length : Int) then
    Nx (cutL a 20 (a.length : Int)) c d e f g i j k l m n o p q r s t u v w (b ++ [(cpyL (List.replicate 20 0) 0 20 a)])
   else none
  else none
 else
  Xt3 c d e f g i j k l m n o p q r s t u v w b
theorem l1s_eq (k : Nat) (next : St->Option α) (Q : Ex->St->Option α) (x : D1) (a : Int) (b c d : D1) (e : Int) (f : D1) (g i : Int) (j : D1) (l m : Int) (n o p : D1) (q : Int) (r : D1) (s t : Int) (u : D1) (v : Int) (w : D16) :
  rnd C k cd4 87 Q next (St7 x a b c d e f g i j l m n o p q r s t u v w) = l1s (fun x a b c d e f g i j l m n o p q r s t u v w=>next (St7 x a b c d e f g i j l m n o p q r s t u v w)) (fun a b c d e f g i j l m n o p q r s t u v w=>Q (.exit 3) (St8 a b c d e f g i j l m n o p q r s t u v w)) x a b c d e f g i j l m n o p q r s t u v w:=plainly Js (by kernel_rfl)
def l1 (k : Nat) (Xt3 : Int->D1->D1->D1->Int->D1->Int->Int->D1->Int->Int->D1->D1->D1->Int->D1->Int->Int->D1->Int->D16->Option α) : Nat->D1->Int->D1->D1->D1->Int->D1->Int->Int->D1->Int->Int->D1->D1->D1->Int->D1->Int->Int->D1->Int->D16->Option α
 | 0,_,_,_,_,_,_,_,_,_,_,_,_,_,_,_,_,_,_,_,_,_,_=>none
 | n + 1,a,b,c,d,e,f,g,i,j,l,m,o,p,q,r,s,t,u,v,w,x,y=>l1s (l1 k Xt3 n) Xt3 a b c d e f g i j l m o p q r s t u v w x y
theorem l1_eq (k : Nat) (Q : Ex->St->Option α) : ∀ (n : Nat) (y : D1) (a : Int) (b c d : D1) (e : Int) (f : D1) (g i : Int) (j : D1) (l m : Int) (o p q : D1) (r : Int) (s : D1) (t u : Int) (v : D1) (w : Int) (x : D16),iter (rnd C k cd4 87 Q) n (St7 y a b c d e f g i j l m o p q r s t u v w x) = l1 k (fun a b c d e f g i j l m o p q r s t u v w x=>Q (.exit 3) (St8 a b c d e f g i j l m o p q r s t u v w x)) n y a b c d e f g i j l m o p q r s t u v w x
 | 0,_,_,_,_,_,_,_,_,_,_,_,_,_,_,_,_,_,_,_,_,_,_=>rfl
 | n + 1,y,a,b,c,d,e,f,g,i,j,l,m,o,p,q,r,s,t,u,v,w,x=>(iter_succ _ _ _).trans ((l1s_eq k _ Q y a b c d e f g i j l m o p q r s t u v w x).trans (congrArg (fun N=>l1s N (fun a b c d e f g i j l m o p q r s t u v w x=>Q (.exit 3) (St8 a b c d e f g i j l m o p q r s t u v w x)) y a b c d e f g i j l m o p q r s t u v w x) (by funext; exact l1_eq k Q n _ _ _ _ _ _ _ _ _ _ _ _ _ _ _ _ _ _ _ _ _ _)))
theorem a1 (k : Nat) (Q : Ex->St->Option α) (y : D1) (a : Int) (c d e : D1) (f : Int) (g : D1) (i j : Int) (l : D1) (m n : Int) (o p q : D1) (r : Int) (s : D1) (t u : Int) (v : D1) (w : Int) (x : D16) :
  (lp C k) cd4 (blkQ C 3 (blkQ C 0 (sq (den C k) (lp C k) Js C cd0 Q))) (St7 y a c d e f g i j l m n o p q r s t u v w x) = l1 k (fun a c d e f g i j l m n o p q r s t u v w x=>j1 (fun z A=>Q .ret (St1 z A)) a c d e f g i j l m n o p q r s t u v [] w x) k y a c d e f g i j l m n o p q r s t u v w x :=
 (lp_iter 87 (by kernel_rfl)).trans ((l1_eq k _ k y a c d e f g i j l m n o p q r s t u v w x).trans (congrArg (fun X=>l1 k X k y a c d e f g i j l m n o p q r s t u v w x) (funext fun a=>funext fun c=>funext fun d=>funext fun e=>funext fun f=>funext fun g=>funext fun i=>funext fun j=>funext fun l=>funext fun m=>funext fun n=>funext fun o=>funext fun p=>funext fun q=>funext fun r=>funext fun s=>funext fun t=>funext fun u=>funext fun v=>funext fun w=>funext fun x=>(Eq.trans (b:=(den C k) cd0 Q (St3 a c d e f g i j l m n o p q r s t u v [] w x)) (by kernel_rfl) (by simp only [j1_eq])))))
def j0 (k : Nat) (Rt : Int->D14->Option α) (a : D1) (x : Int) (y : Bool) (b : Int) (c d e : D1) (f : Int) (g : D1) (i j : Int) (l : D1) (m n : Int) (q r s : D1) (t : Int) (u : D1) (v o : Int) (p : D1) (w : Int) : Option α :=
 if y = true then
  if (decide ((a.length : Int) < 132)) = true then
   Rt 4 (0,[0,0,0,0],[0,0,0,0],(List.replicate 32 0),0,(List.replicate 32 0),0,0,[],[],0,[],())
  else
   if 0 <= (0 : Int) /\ (0 : Int) <= (32 : Int) /\ (32 : Int) <= (a.length : Int) then
    (basculeref_wideOf.run (cutL a 0 32)).bind fun z =>
    if 0 <= (32 : Int) /\ (32 : Int) <= (64 : Int) /\ (64 : Int) <= (a.length : Int) then
     (basculeref_word.run (cutL a 32 64)).bind fun A =>
     if 0 <= (64 : Int) /\ (64 : Int) <= (66 : Int) /\ (66 : Int) <= (a.length : Int) then
      (basculeref_number.run (cutL a 64 66)).bind fun B =>
      if 0 <= (66 : Int) /\ (66 : Int) <= (98 : Int) /\ (98 : Int) <= (a.length : Int) then
       (basculeref_word.run (cutL a 66 98)).bind fun D =>
       if 0 <= (98 : Int) /\ (98 : Int) <= (100 : Int) /\ (100 : Int) <= (a.length : Int) then
        (basculeref_number.run (cutL a 98 100)).bind fun E =>
        if 0 <= (100 : Int) /\ (100 : Int) <= (132 : Int) /\ (132 : Int) <= (a.length : Int) then
         (basculeref_wideOf.run (cutL a 100 132)).bind fun G =>
         if 0 <= (132 : Int) /\ (132 : Int) <= (a.length : Int) /\ (a.length : Int) <= (a.length : Int) then
          j1 Rt b c d e f g i j l m n z G A B D E o p (cutL a 132 (a.length : Int)) w []
         else none
        else none
       else none
      else none
     else none
    else none
   else none
 else
  if (x == 2) = true then
   if (decide ((a.length : Int) < 67)) = true then
    Rt 4 (0,[0,0,0,0],[0,0,0,0],(List.replicate 32 0),0,(List.replicate 32 0),0,0,[],[],0,[],())
   else
    if (decide ((a.length : Int) > 67)) = true then
     Rt 3 (0,[0,0,0,0],[0,0,0,0],(List.replicate 32 0),0,(List.replicate 32 0),0,0,[],[],0,[],())
    else
     if 0 <= (35 : Int) /\ (35 : Int) <= (a.length : Int) /\ (a.length : Int) <= (a.length : Int) then
      l0 k (fun a H b c d e f g i j l m n q r s t u v o p w=>j2 Rt a H b c d e f g i j l m n q r s t u v o p w) k a (cutL a 35 (a.length : Int)) b c d e f g i j l m n q r s t u v o p w
     else none
  else
   if (x == 4) = true then
    cond (decide (0 <= (4 : Int) /\ (4 : Int) < (a.length : Int)) || !((decide ((a.length : Int) < 5)) == false)) (
     if (cond (decide ((a.length : Int) < 5)) true (decide ((a.length : Int) < (IntKind.i64.wrap (5 + (IntKind.i64.wrap (20 * (IntKind.i64.wrap (List.getD a 4 0))))))))) = true then
      Rt 4 (0,[0,0,0,0],[0,0,0,0],(List.replicate 32 0),0,(List.replicate 32 0),0,0,[],[],0,[],())
     else
      if 0 <= (4 : Int) /\ (4 : Int) < (a.length : Int) then
       if (decide ((a.length : Int) > (IntKind.i64.wrap (5 + (IntKind.i64.wrap (20 * (IntKind.i64.wrap (List.getD a 4 0)))))))) = true then
        Rt 3 (0,[0,0,0,0],[0,0,0,0],(List.replicate 32 0),0,(List.replicate 32 0),0,0,[],[],0,[],())
       else
        if 0 <= (0 : Int) /\ (0 : Int) <= (4 : Int) /\ (4 : Int) <= (a.length : Int) then
         (basculeref_number.run (cutL a 0 4)).bind fun I =>
         if 0 <= (5 : Int) /\ (5 : Int) <= (a.length : Int) /\ (a.length : Int) <= (a.length : Int) then
          l1 k (fun b c d e f g i j l m n q r s t u v o p w J=>j1 Rt b c d e f g i j l m n q r s t u v o p [] w J) k (cutL a 5 (a.length : Int)) b c d e f g i j l m n q r s t u v o p I []
         else none
        else none
      else none) none
   else
    Rt 2 (0,[0,0,0,0],[0,0,0,0],(List.replicate 32 0),0,(List.replicate 32 0),0,0,[],[],0,[],())
theorem j0_eq (k : Nat) (Q : Ex->St->Option α) (a : D1) (q : Int) (y : Bool) (b : Int) (c d e : D1) (f : Int) (g : D1) (i j : Int) (l : D1) (m n : Int) (r s t : D1) (u : Int) (v : D1) (w o : Int) (p : D1) (x : Int) :
  (den C k) cd1 (blkQ C 0 (sq (den C k) (lp C k) Js C cd0 Q)) (St2 a q y b c d e f g i j l m n r s t u v w o p x) = j0 k (fun z A=>Q .ret (St1 z A)) a q y b c d e f g i j l m n r s t u v w o p x:=by
 have h : ∀ (D L : DT α),denJ D L Js C cd1 (blkQ C 0 (sq D L Js C cd0 Q)) (St2 a q y b c d e f g i j l m n r s t u v w o p x) =
    if y = true then
     if (decide ((a.length : Int) < 132)) = true then
      Q .ret (St1 4 (0,[0,0,0,0],[0,0,0,0],(List.replicate 32 0),0,(List.replicate 32 0),0,0,[],[],0,[],()))
     else
      if 0 <= (0 : Int) /\ (0 : Int) <= (32 : Int) /\ (32 : Int) <= (a.length : Int) then
       (basculeref_wideOf.run (cutL a 0 32)).bind fun B =>
       if 0 <= (32 : Int) /\ (32 : Int) <= (64 : Int) /\ (64 : Int) <= (a.length : Int) then
        (basculeref_word.run (cutL a 32 64)).bind fun E =>
        if 0 <= (64 : Int) /\ (64 : Int) <= (66 : Int) /\ (66 : Int) <= (a.length : Int) then
         (basculeref_number.run (cutL a 64 66)).bind fun G =>
         if 0 <= (66 : Int) /\ (66 : Int) <= (98 : Int) /\ (98 : Int) <= (a.length : Int) then
          (basculeref_word.run (cutL a 66 98)).bind fun H =>
          if 0 <= (98 : Int) /\ (98 : Int) <= (100 : Int) /\ (100 : Int) <= (a.length : Int) then
           (basculeref_number.run (cutL a 98 100)).bind fun I =>
           if 0 <= (100 : Int) /\ (100 : Int) <= (132 : Int) /\ (132 : Int) <= (a.length : Int) then
            (basculeref_wideOf.run (cutL a 100 132)).bind fun J =>
            if 0 <= (132 : Int) /\ (132 : Int) <= (a.length : Int) /\ (a.length : Int) <= (a.length : Int) then
             D cd0 Q (St3 b c d e f g i j l m n B J E G H I o p (cutL a 132 (a.length : Int)) x [])
            else none
           else none
          else none
         else none
        else none
       else none
      else none
    else
     if (q == 2) = true then
      if (decide ((a.length : Int) < 67)) = true then
       Q .ret (St1 4 (0,[0,0,0,0],[0,0,0,0],(List.replicate 32 0),0,(List.replicate 32 0),0,0,[],[],0,[],()))
      else
       if (decide ((a.length : Int) > 67)) = true then
        Q .ret (St1 3 (0,[0,0,0,0],[0,0,0,0],(List.replicate 32 0),0,(List.replicate 32 0),0,0,[],[],0,[],()))
       else
        if 0 <= (35 : Int) /\ (35 : Int) <= (a.length : Int) /\ (a.length : Int) <= (a.length : Int) then
         L cd2 (blkQ C 1 (sq D L Js C cd3 (blkQ C 0 (sq D L Js C cd0 Q)))) (St4 a (cutL a 35 (a.length : Int)) b c d e f g i j l m n r s t u v w o p x)
        else none
     else
      if (q == 4) = true then
       cond (decide (0 <= (4 : Int) /\ (4 : Int) < (a.length : Int)) || !((decide ((a.length : Int) < 5)) == false)) (
        if (cond (decide ((a.length : Int) < 5)) true (decide ((a.length : Int) < (IntKind.i64.wrap (5 + (IntKind.i64.wrap (20 * (IntKind.i64.wrap (List.getD a 4 0))))))))) = true then
         Q .ret (St1 4 (0,[0,0,0,0],[0,0,0,0],(List.replicate 32 0),0,(List.replicate 32 0),0,0,[],[],0,[],()))
        else
         if 0 <= (4 : Int) /\ (4 : Int) < (a.length : Int) then
          if (decide ((a.length : Int) > (IntKind.i64.wrap (5 + (IntKind.i64.wrap (20 * (IntKind.i64.wrap (List.getD a 4 0)))))))) = true then
           Q .ret (St1 3 (0,[0,0,0,0],[0,0,0,0],(List.replicate 32 0),0,(List.replicate 32 0),0,0,[],[],0,[],()))
          else
           if 0 <= (0 : Int) /\ (0 : Int) <= (4 : Int) /\ (4 : Int) <= (a.length : Int) then
            (basculeref_number.run (cutL a 0 4)).bind fun K =>
            if 0 <= (5 : Int) /\ (5 : Int) <= (a.length : Int) /\ (a.length : Int) <= (a.length : Int) then
             L cd4 (blkQ C 3 (blkQ C 0 (sq D L Js C cd0 Q))) (St7 (cutL a 5 (a.length : Int)) b c d e f g i j l m n r s t u v w o p K [])
            else none
           else none
         else none) none
      else
       Q .ret (St1 2 (0,[0,0,0,0],[0,0,0,0],(List.replicate 32 0),0,(List.replicate 32 0),0,0,[],[],0,[],())):=by
  intro D L; kernel_rfl
 have h2:=via (k:=k) h
 refine h2.trans ?_
 simp only [j1_eq,a0,a1]
 first | rfl | kernel_rfl
def top (k : Nat) (Rt : Int->D14->Option α) (a : D1) : Option α :=
 if (beqD .str a []) = true then
  Rt 4 (0,[0,0,0,0],[0,0,0,0],(List.replicate 32 0),0,(List.replicate 32 0),0,0,[],[],0,[],())
 else
  if 0 <= (0 : Int) /\ (0 : Int) < (a.length : Int) then
   if 0 <= (1 : Int) /\ (1 : Int) <= (a.length : Int) /\ (a.length : Int) <= (a.length : Int) then
    if ((IntKind.i64.wrap (List.getD a 0 0)) == 1) = true then
     j0 k Rt (cutL a 1 (a.length : Int)) (IntKind.i64.wrap (List.getD a 0 0)) ((IntKind.i64.wrap (List.getD a 0 0)) == 1) 0 [0,0,0,0] [0,0,0,0] (List.replicate 32 0) 0 (List.replicate 32 0) 0 0 [] 0 (IntKind.i64.wrap (List.getD a 0 0)) [0,0,0,0] [0,0,0,0] (List.replicate 32 0) 0 (List.replicate 32 0) 0 0 [] 0
    else
     j0 k Rt (cutL a 1 (a.length : Int)) (IntKind.i64.wrap (List.getD a 0 0)) ((IntKind.i64.wrap (List.getD a 0 0)) == 3) 0 [0,0,0,0] [0,0,0,0] (List.replicate 32 0) 0 (List.replicate 32 0) 0 0 [] 0 (IntKind.i64.wrap (List.getD a 0 0)) [0,0,0,0] [0,0,0,0] (List.replicate 32 0) 0 (List.replicate 32 0) 0 0 [] 0
   else none
  else none
theorem top_eq (k : Nat) (Q : Ex->St->Option α) (a : D1) :
  (den C k) (cB Tryz.f67) Q (St0 a) = top k (fun b c=>Q .ret (St1 b c)) a:=by
 have h : ∀ (D L : DT α),denJ D L Js C (cB Tryz.f67) Q (St0 a) =
    if (beqD .str a []) = true then
     Q .ret (St1 4 (0,[0,0,0,0],[0,0,0,0],(List.replicate 32 0),0,(List.replicate 32 0),0,0,[],[],0,[],()))
    else
     if 0 <= (0 : Int) /\ (0 : Int) < (a.length : Int) then
      if 0 <= (1 : Int) /\ (1 : Int) <= (a.length : Int) /\ (a.length : Int) <= (a.length : Int) then
       if ((IntKind.i64.wrap (List.getD a 0 0)) == 1) = true then
        D cd1 (blkQ C 0 (sq D L Js C cd0 Q)) (St2 (cutL a 1 (a.length : Int)) (IntKind.i64.wrap (List.getD a 0 0)) ((IntKind.i64.wrap (List.getD a 0 0)) == 1) 0 [0,0,0,0] [0,0,0,0] (List.replicate 32 0) 0 (List.replicate 32 0) 0 0 [] 0 (IntKind.i64.wrap (List.getD a 0 0)) [0,0,0,0] [0,0,0,0] (List.replicate 32 0) 0 (List.replicate 32 0) 0 0 [] 0)
       else
        D cd1 (blkQ C 0 (sq D L Js C cd0 Q)) (St2 (cutL a 1 (a.length : Int)) (IntKind.i64.wrap (List.getD a 0 0)) ((IntKind.i64.wrap (List.getD a 0 0)) == 3) 0 [0,0,0,0] [0,0,0,0] (List.replicate 32 0) 0 (List.replicate 32 0) 0 0 [] 0 (IntKind.i64.wrap (List.getD a 0 0)) [0,0,0,0] [0,0,0,0] (List.replicate 32 0) 0 (List.replicate 32 0) 0 0 [] 0)
      else none
     else none:=by
  intro D L; kernel_rfl
 have h2:=via (k:=k) h
 refine h2.trans ?_
 simp only [j0_eq]
 first | rfl | kernel_rfl
def run (a : D1) : Option D19:=top (α:=D14 × Int × Unit) fuel (fun b c=>some (c,b,())) a
def F : Fn:=⟨T7,T45,true,fun x=>run x.1⟩
theorem con : Con Tryz.prog 67 F /\ Named Tryz.prog 67 :=
 con_of2 (C:=C) (ctx_ok (by kernel_rfl) (by kernel_rfl) (by kernel_rfl) (by kernel_rfl) ⟨.inl basculeref_number.con,⟨.inl basculeref_wideOf.con,⟨.inl basculeref_word.con,⟨.inl basculeref_LoadFault.con,trivial⟩⟩⟩⟩) (by kernel_rfl) Tryz.func67 (by kernel_rfl) (c:=cB Tryz.f67) (by kernel_rfl) (by kernel_rfl) F (fun x=>by simp [F,spread,Tryz.ntmps67]) (fun x=>(St0 x.1)) (fun x=>by kernel_rfl) fun x=>(top_eq fuel _ x.1).trans (by kernel_rfl)
end Go.Bx.basculeref_LoadOf
namespace Go.Bx.guard_Worth
def Js : List Nat:=[]
def C : Ctx:=⟨[(3,T1),(22,T37),(24,T30),(29,T3),(37,T4),(116,T32)],[],[],fnL [(76,load_Decode.F)],noSh,[],invL [],[(2,[2])],[],[],0,0⟩
def St0 (a : D0) : St:=stL 43 [(0,.data T4 a)] []
def St1 (a : Int) : St:=stL 43 [(2,.data T1 a)] []
def top (Rt : Int->Option α) (b : D0) : Option α :=
 (load_Decode.run b.2.2.2.2.2.2.1).bind fun a =>
 if (cond (a.2.1 != 0) true (cond (a.1.1 != 1) (a.1.1 != 3) false)) = true then
  Rt 0
 else
  if (cond ((bor .u64 (bor .u64 (List.getD a.1.2.1 1 0) (List.getD a.1.2.1 2 0)) (List.getD a.1.2.1 3 0)) != 0) true (decide ((List.getD a.1.2.1 0 0) > 1073741824))) = true then
   Rt 1073741824
  else
   Rt (IntKind.i64.wrap (List.getD a.1.2.1 0 0))
theorem top_eq (k : Nat) (Q : Ex->St->Option α) (a : D0) :
  (den C k) (cB Tryz.f50) Q (St0 a) = top (fun b=>Q .ret (St1 b)) a:=plainly Js (by kernel_rfl)
def run (a : D0) : Option (Int):=top (α:=Int) (fun b=>some b) a
def F : Fn:=⟨T5,T1,false,fun x=>run x.1⟩
theorem con : Con Tryz.prog 50 F /\ Named Tryz.prog 50 :=
 con_of2 (C:=C) (ctx_ok (by kernel_rfl) (by kernel_rfl) (by kernel_rfl) (by kernel_rfl) ⟨.inl load_Decode.con,trivial⟩) (by kernel_rfl) Tryz.func50 (by kernel_rfl) (c:=cB Tryz.f50) (by kernel_rfl) (by kernel_rfl) F (fun x=>by simp [F,spread,Tryz.ntmps50]) (fun x=>(St0 x.1)) (fun x=>by kernel_rfl) fun x=>(top_eq fuel _ x.1).trans (by kernel_rfl)
end Go.Bx.guard_Worth
namespace Go.Bx.basculeref_WorthOf
def Js : List Nat:=[]
def C : Ctx:=⟨[(3,T1),(22,T37),(24,T30),(29,T3),(37,T4),(116,T32)],[],[],fnL [(67,basculeref_LoadOf.F),(68,basculeref_Order.F)],noSh,[],invL [],[(2,[2])],[],[],0,0⟩
def St0 (a : D0) : St:=stL 32 [(0,.data T4 a)] []
def St1 (a : Int) : St:=stL 32 [(2,.data T1 a)] []
def top (Rt : Int->Option α) (b : D0) : Option α :=
 (basculeref_LoadOf.run b.2.2.2.2.2.2.1).bind fun a =>
 if (cond (cond (a.2.1 != 0) true (a.1.1 == 2)) true (a.1.1 == 4)) = true then
  Rt 0
 else
  (basculeref_Order.run a.1.2.1 [1073741824,0,0,0]).bind fun c =>
  if (decide (c > 0)) = true then
   Rt 1073741824
  else
   Rt (IntKind.i64.wrap (List.getD a.1.2.1 0 0))
theorem top_eq (k : Nat) (Q : Ex->St->Option α) (a : D0) :
  (den C k) (cB Tryz.f36) Q (St0 a) = top (fun b=>Q .ret (St1 b)) a:=plainly Js (by kernel_rfl)
def run (a : D0) : Option (Int):=top (α:=Int) (fun b=>some b) a
def F : Fn:=⟨T5,T1,false,fun x=>run x.1⟩
theorem con : Con Tryz.prog 36 F /\ Named Tryz.prog 36 :=
 con_of2 (C:=C) (ctx_ok (by kernel_rfl) (by kernel_rfl) (by kernel_rfl) (by kernel_rfl) ⟨.inl basculeref_LoadOf.con,⟨.inl basculeref_Order.con,trivial⟩⟩) (by kernel_rfl) Tryz.func36 (by kernel_rfl) (c:=cB Tryz.f36) (by kernel_rfl) (by kernel_rfl) F (fun x=>by simp [F,spread,Tryz.ntmps36]) (fun x=>(St0 x.1)) (fun x=>by kernel_rfl) fun x=>(top_eq fuel _ x.1).trans (by kernel_rfl)
end Go.Bx.basculeref_WorthOf
namespace Go.Bx.guard_knows
def Js : List Nat:=[11,12]
def C : Ctx:=⟨[(3,T1),(4,.bool),(32,T14),(34,T15),(37,T4),(84,T16)],[],[],fnL [(22,guard_Id.F)],noSh,[],invL [],[(2,[4]),(1,[]),(4,[1,13,14]),(7,[1,13,14]),(10,[1,13,14,17,18,19]),(6,[1,13,14]),(15,[1,13,14,17,18,19]),(30,[1,13,14]),(33,[])],[],[],0,0⟩
def St0 (a : D5) (b : Int) : St:=stL 29 [(0,.data T15 a),(1,.data T1 b)] []
def St1 (a : Int) (b : D6) (c : Int) : St:=stL 29 [(1,.data T1 a),(13,.data T16 b),(14,.data T1 c)] []
noncomputable def cd0 : Code:=cL (cL (cR (cL (cR (cB Tryz.f21)))))
def St2 (a : Int) (b : D6) (c : Int) (d : D7) (e f : Int) : St:=stL 29 [(1,.data T1 a),(13,.data T16 b),(14,.data T1 c),(17,.data T14 d),(18,.data T1 e),(19,.data T1 f)] []
noncomputable def cd1 : Code:=cL (cL (cR (cR (cL (cL (cR (cR (cL (cL (cR (cL (cR (cB Tryz.f21)))))))))))))
def St3 (a : Bool) : St:=stL 29 [(4,.data .bool a)] []
def St4 (a : Int) (b : D6) (c : Int) : St:=stL 29 [(1,.data T1 a),(13,.data T16 b),(14,.data T1 c)] []
def l1s (Nx : Int->D6->Int->D7->Int->Int->Option α) (Rt : Bool->Option α) (Xt2 : Int->D6->Int->Option α) (b : Int) (d : D6) (e : Int) (c : D7) (f a : Int) : Option α :=
 if (decide (a < f)) = true then
  if 0 <= a /\ a < (c.length : Int) then
   (guard_Id.run (List.getD c (Int.toNat a) (0,0,0,(List.replicate 32 0),0,0,[],()))).bind fun g =>
   if (g == b) = true then
    Rt true
   else
    Nx b d e c f (IntKind.i64.wrap (a + 1))
  else none
 else
  Xt2 b d e
theorem l1s_eq (k : Nat) (next : St->Option α) (Q : Ex->St->Option α) (a : Int) (b : D6) (c : Int) (d : D7) (e f : Int) :
  rnd C k cd1 15 Q next (St2 a b c d e f) = l1s (fun a b c d e f=>next (St2 a b c d e f)) (fun g=>Q .ret (St3 g)) (fun a b c=>Q (.exit 2) (St4 a b c)) a b c d e f:=plainly Js (by kernel_rfl)
def l1 (k : Nat) (Rt : Bool->Option α) (Xt2 : Int->D6->Int->Option α) : Nat->Int->D6->Int->D7->Int->Int->Option α
 | 0,_,_,_,_,_,_=>none
 | n + 1,a,b,c,d,e,f=>l1s (l1 k Rt Xt2 n) Rt Xt2 a b c d e f
theorem l1_eq (k : Nat) (Q : Ex->St->Option α) : ∀ (n : Nat) (a : Int) (b : D6) (c : Int) (d : D7) (e f : Int),iter (rnd C k cd1 15 Q) n (St2 a b c d e f) = l1 k (fun g=>Q .ret (St3 g)) (fun a b c=>Q (.exit 2) (St4 a b c)) n a b c d e f
 | 0,_,_,_,_,_,_=>rfl
 | n + 1,a,b,c,d,e,f=>(iter_succ _ _ _).trans ((l1s_eq k _ Q a b c d e f).trans (congrArg (fun N=>l1s N (fun g=>Q .ret (St3 g)) (fun a b c=>Q (.exit 2) (St4 a b c)) a b c d e f) (by funext; exact l1_eq k Q n _ _ _ _ _ _)))
theorem l1_congr (k : Nat) (Rt : Bool->Option α) (Xt2 : Int->D6->Int->Option α) (Rtq : Bool->Option α) (Xt2q : Int->D6->Int->Option α) (hRt : ∀ (d : Bool),Rt d = Rtq d) (hXt2 : ∀ (a : Int) (b : D6) (c : Int),Xt2 a b c = Xt2q a b c) (n : Nat) (a : Int) (b : D6) (c : Int) (e : D7) (f g : Int) : l1 k Rt Xt2 n a b c e f g = l1 k Rtq Xt2q n a b c e f g:=by
 obtain rfl : Rt = Rtq:=by funext d; exact hRt d
 obtain rfl : Xt2 = Xt2q:=by funext a; funext b; funext c; exact hXt2 a b c
 rfl
noncomputable def cd2 : Code:=cR (cR (cR (cL (cL (cR (cL (cR (cB Tryz.f21))))))))
def St5 (a : Int) (b : D6) (c : Int) : St:=stL 29 [(1,.data T1 a),(13,.data T16 b),(14,.data T1 c)] []
def j0 (Nx : Int->D6->Int->Option α) (a : Int) (b : D6) (c : Int) : Option α :=
 Nx a b (IntKind.i64.wrap (c + 1))
theorem j0_eq (k : Nat) (next : St->Option α) (Q : Ex->St->Option α) (a : Int) (b : D6) (c : Int) :
  (den C k) cd2 (lq C 6 next Q) (St5 a b c) = j0 (fun a b c=>next (St1 a b c)) a b c:=plainly Js (by kernel_rfl)
theorem a0 (k : Nat) (next : St->Option α) (Q : Ex->St->Option α) (a : Int) (c : D6) (d : Int) (e : D7) (f g : Int) :
  (lp C k) cd1 (blkQ C 2 (blkQ C 1 (sq (den C k) (lp C k) Js C cd2 (lq C 6 next Q)))) (St2 a c d e f g) = l1 k (fun i=>(fun i=>Q .ret (St3 i)) i) (fun a c d=>j0 (fun a c d=>next (St1 a c d)) a c d) k a c d e f g :=
 (lp_iter 15 (by kernel_rfl)).trans ((l1_eq k _ k a c d e f g).trans (l1_congr k _ _ _ _ (fun i=>(by kernel_rfl)) (fun a c d=>(Eq.trans (b:=(den C k) cd2 (lq C 6 next Q) (St5 a c d)) (by kernel_rfl) (by simp only [j0_eq]))) k a c d e f g))
def St6 : St:=stL 29 [] []
def l0s (k : Nat) (Nx : Int->D6->Int->Option α) (Rt : Bool->Option α) (Xt0 : Option α) (c : Int) (b : D6) (a : Int) : Option α :=
 if (decide (a < 2)) = true then
  if 0 <= a /\ a < (2 : Int) then
   l1 k (fun d=>Rt d) (fun c b a=>j0 Nx c b a) k c b a (List.getD b (Int.toNat a) []) ((List.getD b (Int.toNat a) []).length : Int) 0
  else none
 else
  Xt0
theorem l0s_eq (k : Nat) (next : St->Option α) (Q : Ex->St->Option α) (c : Int) (b : D6) (a : Int) :
  rnd C k cd0 6 Q next (St1 c b a) = l0s k (fun c b a=>next (St1 c b a)) (fun d=>Q .ret (St3 d)) (Q (.exit 0) St6) c b a:=by
 have h : ∀ (D L : DT α),denJ D L Js C cd0 (lq C 6 next Q) (St1 c b a) =
    if (decide (a < 2)) = true then
     if 0 <= a /\ a < (2 : Int) then
      L cd1 (blkQ C 2 (blkQ C 1 (sq D L Js C cd2 (lq C 6 next Q)))) (St2 c b a (List.getD b (Int.toNat a) []) ((List.getD b (Int.toNat a) []).length : Int) 0)
     else none
    else
     Q (.exit 0) St6:=by
  intro D L; kernel_rfl
 have h2:=via (k:=k) h
 refine h2.trans ?_
 simp only [a0]
 first | rfl | kernel_rfl
def l0 (k : Nat) (Rt : Bool->Option α) (Xt0 : Option α) : Nat->Int->D6->Int->Option α
 | 0,_,_,_=>none
 | n + 1,a,b,c=>l0s k (l0 k Rt Xt0 n) Rt Xt0 a b c
theorem l0_eq (k : Nat) (Q : Ex->St->Option α) : ∀ (n : Nat) (a : Int) (b : D6) (c : Int),iter (rnd C k cd0 6 Q) n (St1 a b c) = l0 k (fun d=>Q .ret (St3 d)) (Q (.exit 0) St6) n a b c
 | 0,_,_,_=>rfl
 | n + 1,a,b,c=>(iter_succ _ _ _).trans ((l0s_eq k _ Q a b c).trans (congrArg (fun N=>l0s k N (fun d=>Q .ret (St3 d)) (Q (.exit 0) St6) a b c) (by funext; exact l0_eq k Q n _ _ _)))
theorem l0_congr (k : Nat) (Rt : Bool->Option α) (Xt0 : Option α) (Rtq : Bool->Option α) (Xt0q : Option α) (hRt : ∀ (a : Bool),Rt a = Rtq a) (hXt0 : Xt0 = Xt0q) (n : Nat) (b : Int) (c : D6) (d : Int) : l0 k Rt Xt0 n b c d = l0 k Rtq Xt0q n b c d:=by
 obtain rfl : Rt = Rtq:=by funext a; exact hRt a
 obtain rfl : Xt0 = Xt0q:=hXt0
 rfl
noncomputable def cd3 : Code:=cR (cR (cB Tryz.f21))
def St7 : St:=stL 29 [] []
def j1 (Rt : Bool->Option α) : Option α :=
 Rt false
theorem j1_eq (k : Nat) (Q : Ex->St->Option α) :
  (den C k) cd3 Q St7 = j1 (fun a=>Q .ret (St3 a)):=plainly Js (by kernel_rfl)
theorem a1 (k : Nat) (Q : Ex->St->Option α) (c : Int) (d : D6) (e : Int) :
  (lp C k) cd0 (blkQ C 0 (sq (den C k) (lp C k) Js C cd3 Q)) (St1 c d e) = l0 k (fun a=>(fun a=>Q .ret (St3 a)) a) (j1 (fun a=>Q .ret (St3 a))) k c d e :=
 (lp_iter 6 (by kernel_rfl)).trans ((l0_eq k _ k c d e).trans (l0_congr k _ _ _ _ (fun a=>(by kernel_rfl)) (Eq.trans (b:=(den C k) cd3 Q St7) (by kernel_rfl) (by simp only [j1_eq])) k c d e))
def top (k : Nat) (Rt : Bool->Option α) (a : D5) (b : Int) : Option α :=
 l0 k (fun c=>Rt c) (j1 Rt) k b [a.2.2.2.2.2.1,a.2.2.2.2.1] 0
theorem top_eq (k : Nat) (Q : Ex->St->Option α) (a : D5) (b : Int) :
  (den C k) (cB Tryz.f21) Q (St0 a b) = top k (fun c=>Q .ret (St3 c)) a b:=by
 have h : ∀ (D L : DT α),denJ D L Js C (cB Tryz.f21) Q (St0 a b) =
    L cd0 (blkQ C 0 (sq D L Js C cd3 Q)) (St1 b [a.2.2.2.2.2.1,a.2.2.2.2.1] 0):=by
  intro D L; kernel_rfl
 have h2:=via (k:=k) h
 refine h2.trans ?_
 simp only [a1]
 first | rfl | kernel_rfl
def run (a : D5) (b : Int) : Option (Bool):=top (α:=Bool) fuel (fun c=>some c) a b
def F : Fn:=⟨T17,.bool,false,fun x=>run x.1 x.2.1⟩
theorem con : Con Tryz.prog 21 F /\ Named Tryz.prog 21 :=
 con_of2 (C:=C) (ctx_ok (by kernel_rfl) (by kernel_rfl) (by kernel_rfl) (by kernel_rfl) ⟨.inl guard_Id.con,trivial⟩) (by kernel_rfl) Tryz.func21 (by kernel_rfl) (c:=cB Tryz.f21) (by kernel_rfl) (by kernel_rfl) F (fun x=>by simp [F,spread,Tryz.ntmps21]) (fun x=>(St0 x.1 x.2.1)) (fun x=>by kernel_rfl) fun x=>(top_eq fuel _ x.1 x.2.1).trans (by kernel_rfl)
end Go.Bx.guard_knows
namespace Go.Bx.basculeref_meets
def Js : List Nat:=[10,17]
def C : Ctx:=⟨[(3,T1),(4,.bool),(28,T21),(32,T14),(34,T15),(37,T4)],[],[],fnL [(33,basculeref_BodyFault.F),(34,basculeref_IdOf.F),(35,basculeref_Offered.F),(36,basculeref_WorthOf.F)],noSh,[],invL [],[(2,[4,5]),(1,[2,3,4]),(4,[2,3,4,31,32,33]),(12,[2,3,4,31,32,33]),(27,[2,3,4]),(48,[2,4])],[(2,[.dat false 4 []]),(48,[.dat false 2 []])],[28,66,74],0,0⟩
def St0 (a : D5) (b : D0) : St:=stL 80 [(0,.data T15 a),(1,.data T4 b)] []
def St1 (a : Bool) (b : D5) : St:=stL 80 [(4,.ref 4 0 []),(5,.data .bool a)] [(4,.cell T15 (.data T15 b) false)]
def St2 (a b : Int) (c : D5) (d : D0) (e f g : D1) (i : Int) (j k : D1) (l : Int) (m : D7) : St:=stL 80 [(2,.ref 2 0 []),(3,.ref 3 0 []),(4,.ref 4 0 []),(31,.app 28 0),(32,.data T1 a),(33,.data T1 b)] [(2,.cell T15 (.data T15 c) false),(3,.cell T4 (.data T4 d) false),(4,.cell T15 (.agg T15 [.data T30 e,.agg T21 [.data T19 f,.data T19 g,.data T1 i,.full T22 [],.full T22 []],.agg T21 [.data T19 j,.data T19 k,.data T1 l,.full T22 [],.full T22 []],.agg T11 [.full T6 [],.full T6 []],.full T4 [],.full T4 []]) false),(28,.buf T4 m 0 true)]
noncomputable def cd0 : Code:=cL (cL (cR (cL (cR (cR (cB Tryz.f12))))))
def St3 (a : D5) (b : D0) (c d e : D1) (f : Int) (g i : D1) (j : Int) : St:=stL 80 [(2,.ref 2 0 []),(3,.ref 3 0 []),(4,.ref 4 0 [])] [(2,.cell T15 (.data T15 a) false),(3,.cell T4 (.data T4 b) false),(4,.cell T15 (.agg T15 [.data T30 c,.agg T21 [.data T19 d,.data T19 e,.data T1 f,.full T22 [],.full T22 []],.agg T21 [.data T19 g,.data T19 i,.data T1 j,.full T22 [],.full T22 []],.agg T11 [.full T6 [],.full T6 []],.full T4 [],.full T4 []]) false)]
def l0s (Nx : Int->Int->D5->D0->D1->D1->D1->Int->D1->D1->Int->D7->Option α) (Rt : Bool->D5->Option α) (Xt0 : D5->D0->D1->D1->D1->Int->D1->D1->Int->Option α) (e a : Int) (b : D5) (c : D0) (f g i : D1) (j : Int) (k l : D1) (m : Int) (d : D7) : Option α :=
 if (decide (a < e)) = true then
  if 0 <= a /\ a < (d.length : Int) then
   (basculeref_IdOf.run (List.getD d (Int.toNat a) (0,0,0,(List.replicate 32 0),0,0,[],()))).bind fun n =>
   (basculeref_IdOf.run c).bind fun o =>
   if (n == o) = true then
    Rt false b
   else
    Nx e (IntKind.i64.wrap (a + 1)) b c f g i j k l m d
  else none
 else
  Xt0 b c f g i j k l m
theorem l0s_eq (k : Nat) (next : St->Option α) (Q : Ex->St->Option α) (l m : Int) (a : D5) (b : D0) (c d e : D1) (f : Int) (g i : D1) (j : Int) (n : D7) :
  rnd C k cd0 12 Q next (St2 l m a b c d e f g i j n) = l0s (fun l m a b c d e f g i j n=>next (St2 l m a b c d e f g i j n)) (fun o p=>Q .ret (St1 o p)) (fun a b c d e f g i j=>Q (.exit 0) (St3 a b c d e f g i j)) l m a b c d e f g i j n:=plainly Js (by kernel_rfl)
def l0 (k : Nat) (Rt : Bool->D5->Option α) (Xt0 : D5->D0->D1->D1->D1->Int->D1->D1->Int->Option α) : Nat->Int->Int->D5->D0->D1->D1->D1->Int->D1->D1->Int->D7->Option α
 | 0,_,_,_,_,_,_,_,_,_,_,_,_=>none
 | n + 1,a,b,c,d,e,f,g,i,j,l,m,o=>l0s (l0 k Rt Xt0 n) Rt Xt0 a b c d e f g i j l m o
theorem l0_eq (k : Nat) (Q : Ex->St->Option α) : ∀ (n : Nat) (l m : Int) (a : D5) (b : D0) (c d e : D1) (f : Int) (g i : D1) (j : Int) (o : D7),iter (rnd C k cd0 12 Q) n (St2 l m a b c d e f g i j o) = l0 k (fun p q=>Q .ret (St1 p q)) (fun a b c d e f g i j=>Q (.exit 0) (St3 a b c d e f g i j)) n l m a b c d e f g i j o
 | 0,_,_,_,_,_,_,_,_,_,_,_,_=>rfl
 | n + 1,l,m,a,b,c,d,e,f,g,i,j,o=>(iter_succ _ _ _).trans ((l0s_eq k _ Q l m a b c d e f g i j o).trans (congrArg (fun N=>l0s N (fun p q=>Q .ret (St1 p q)) (fun a b c d e f g i j=>Q (.exit 0) (St3 a b c d e f g i j)) l m a b c d e f g i j o) (by funext; exact l0_eq k Q n _ _ _ _ _ _ _ _ _ _ _ _)))
theorem l0_congr (k : Nat) (Rt : Bool->D5->Option α) (Xt0 : D5->D0->D1->D1->D1->Int->D1->D1->Int->Option α) (Rtq : Bool->D5->Option α) (Xt0q : D5->D0->D1->D1->D1->Int->D1->D1->Int->Option α) (hRt : ∀ (l : Bool) (m : D5),Rt l m = Rtq l m) (hXt0 : ∀ (a : D5) (b : D0) (c d e : D1) (f : Int) (g i : D1) (j : Int),Xt0 a b c d e f g i j = Xt0q a b c d e f g i j) (n : Nat) (o p : Int) (a : D5) (b : D0) (c d e : D1) (f : Int) (g i : D1) (j : Int) (q : D7) : l0 k Rt Xt0 n o p a b c d e f g i j q = l0 k Rtq Xt0q n o p a b c d e f g i j q:=by
 obtain rfl : Rt = Rtq:=by funext l; funext m; exact hRt l m
 obtain rfl : Xt0 = Xt0q:=by funext a; funext b; funext c; funext d; funext e; funext f; funext g; funext i; funext j; exact hXt0 a b c d e f g i j
 rfl
noncomputable def cd1 : Code:=cR (cR (cR (cB Tryz.f12)))
def St4 (a : D5) (b : D0) (c d e : D1) (f : Int) (g i : D1) (j : Int) : St:=stL 80 [(2,.ref 2 0 []),(3,.ref 3 0 []),(4,.ref 4 0 [])] [(2,.cell T15 (.data T15 a) false),(3,.cell T4 (.data T4 b) false),(4,.cell T15 (.agg T15 [.data T30 c,.agg T21 [.data T19 d,.data T19 e,.data T1 f,.full T22 [],.full T22 []],.agg T21 [.data T19 g,.data T19 i,.data T1 j,.full T22 [],.full T22 []],.agg T11 [.full T6 [],.full T6 []],.full T4 [],.full T4 []]) false)]
def St5 (a : D5) (b c d : D1) (e : Int) (f g : D1) (i : Int) : St:=stL 80 [(2,.ref 2 0 []),(4,.ref 4 0 [])] [(2,.cell T15 (.data T15 a) false),(4,.cell T15 (.agg T15 [.data T30 b,.agg T21 [.data T19 c,.data T19 d,.data T1 e,.full T22 [],.full T22 []],.agg T21 [.data T19 f,.data T19 g,.data T1 i,.full T22 [],.full T22 []],.agg T11 [.full T6 [],.full T6 []],.full T4 [],.full T4 []]) false)]
noncomputable def cd2 : Code:=cR (cR (cR (cR (cR (cR (cR (cB Tryz.f12)))))))
def j1 (Rt : Bool->D5->Option α) (a : D5) (b c d : D1) (e : Int) (f g : D1) (i : Int) : Option α :=
 Rt true a
theorem j1_eq (k : Nat) (Q : Ex->St->Option α) (a : D5) (b c d : D1) (e : Int) (f g : D1) (i : Int) :
  (den C k) cd2 Q (St5 a b c d e f g i) = j1 (fun j l=>Q .ret (St1 j l)) a b c d e f g i:=plainly Js (by kernel_rfl)
def j0 (Rt : Bool->D5->Option α) (a : D5) (b : D0) (d e f : D1) (g : Int) (i j : D1) (k : Int) : Option α :=
 (basculeref_IdOf.run b).bind fun l =>
 (basculeref_WorthOf.run b).bind fun m =>
 (basculeref_Offered.run a.2.2.1 l m b.2.2.1).bind fun c =>
 if (c.2.2.1 != 0) = true then
  Rt false a
 else
  if c.2.1 = true then
   if fitB (0 + a.2.2.2.2.2.1.length) 96 = true then
    if fitB (a.2.2.2.2.2.1.length + 1) 96 = true then
     j1 Rt (a.1,a.2.1,c.1,a.2.2.2.1,a.2.2.2.2.1,(a.2.2.2.2.2.1 ++ [b]),()) d e f g i j k
    else none
   else none
  else
   if fitB (0 + a.2.2.2.2.1.length) 96 = true then
    if fitB (a.2.2.2.2.1.length + 1) 96 = true then
     j1 Rt (a.1,a.2.1,c.1,a.2.2.2.1,(a.2.2.2.2.1 ++ [b]),a.2.2.2.2.2.1,()) d e f g i j k
    else none
   else none
theorem j0_eq (k : Nat) (Q : Ex->St->Option α) (a : D5) (b : D0) (c d e : D1) (f : Int) (g i : D1) (j : Int) :
  (den C k) cd1 Q (St4 a b c d e f g i j) = j0 (fun m n=>Q .ret (St1 m n)) a b c d e f g i j:=by
 have h : ∀ (D L : DT α),denJ D L Js C cd1 Q (St4 a b c d e f g i j) =
    (basculeref_IdOf.run b).bind fun o =>
    (basculeref_WorthOf.run b).bind fun p =>
    (basculeref_Offered.run a.2.2.1 o p b.2.2.1).bind fun l =>
    if (l.2.2.1 != 0) = true then
     Q .ret (St1 false a)
    else
     if l.2.1 = true then
      if fitB (0 + a.2.2.2.2.2.1.length) 96 = true then
       if fitB (a.2.2.2.2.2.1.length + 1) 96 = true then
        D cd2 Q (St5 (a.1,a.2.1,l.1,a.2.2.2.1,a.2.2.2.2.1,(a.2.2.2.2.2.1 ++ [b]),()) c d e f g i j)
       else none
      else none
     else
      if fitB (0 + a.2.2.2.2.1.length) 96 = true then
       if fitB (a.2.2.2.2.1.length + 1) 96 = true then
        D cd2 Q (St5 (a.1,a.2.1,l.1,a.2.2.2.1,(a.2.2.2.2.1 ++ [b]),a.2.2.2.2.2.1,()) c d e f g i j)
       else none
      else none:=by
  intro D L; kernel_rfl
 have h2:=via (k:=k) h
 refine h2.trans ?_
 simp only [j1_eq]
 first | rfl | kernel_rfl
theorem a0 (k : Nat) (Q : Ex->St->Option α) (o p : Int) (a : D5) (c : D0) (d e f : D1) (g : Int) (i j : D1) (l : Int) (q : D7) :
  (lp C k) cd0 (blkQ C 0 (sq (den C k) (lp C k) Js C cd1 Q)) (St2 o p a c d e f g i j l q) = l0 k (fun m n=>(fun m n=>Q .ret (St1 m n)) m n) (fun a c d e f g i j l=>j0 (fun m n=>Q .ret (St1 m n)) a c d e f g i j l) k o p a c d e f g i j l q :=
 (lp_iter 12 (by kernel_rfl)).trans ((l0_eq k _ k o p a c d e f g i j l q).trans (l0_congr k _ _ _ _ (fun m n=>(by kernel_rfl)) (fun a c d e f g i j l=>(Eq.trans (b:=(den C k) cd1 Q (St4 a c d e f g i j l)) (by kernel_rfl) (by simp only [j0_eq]))) k o p a c d e f g i j l q))
def top (k : Nat) (Rt : Bool->D5->Option α) (a : D5) (b : D0) : Option α :=
 (basculeref_BodyFault.run b).bind fun c =>
 if (cond (cond (c != 0) true (decide (b.2.2.1 >= 3))) true (decide (b.2.2.2.2.1 >= 256))) = true then
  Rt false a
 else
  if fitB (0 + a.2.2.2.2.2.1.length) 96 = true then
   if fitB (a.2.2.2.2.2.1.length + a.2.2.2.2.1.length) 96 = true then
    l0 k (fun d e=>Rt d e) (fun f g i j l m n o p=>j0 Rt f g i j l m n o p) k ((a.2.2.2.2.2.1 ++ a.2.2.2.2.1).length : Int) 0 a b [0,0,0,0] [0,0,0] [0,0,0] 0 [0,0,0] [0,0,0] 0 (a.2.2.2.2.2.1 ++ a.2.2.2.2.1)
   else none
  else none
theorem top_eq (k : Nat) (Q : Ex->St->Option α) (a : D5) (b : D0) :
  (den C k) (cB Tryz.f12) Q (St0 a b) = top k (fun c d=>Q .ret (St1 c d)) a b:=by
 have h : ∀ (D L : DT α),denJ D L Js C (cB Tryz.f12) Q (St0 a b) =
    (basculeref_BodyFault.run b).bind fun e =>
    if (cond (cond (e != 0) true (decide (b.2.2.1 >= 3))) true (decide (b.2.2.2.2.1 >= 256))) = true then
     Q .ret (St1 false a)
    else
     if fitB (0 + a.2.2.2.2.2.1.length) 96 = true then
      if fitB (a.2.2.2.2.2.1.length + a.2.2.2.2.1.length) 96 = true then
       L cd0 (blkQ C 0 (sq D L Js C cd1 Q)) (St2 ((a.2.2.2.2.2.1 ++ a.2.2.2.2.1).length : Int) 0 a b [0,0,0,0] [0,0,0] [0,0,0] 0 [0,0,0] [0,0,0] 0 (a.2.2.2.2.2.1 ++ a.2.2.2.2.1))
      else none
     else none:=by
  intro D L; kernel_rfl
 have h2:=via (k:=k) h
 refine h2.trans ?_
 simp only [a0]
 first | rfl | kernel_rfl
def run (a : D5) (b : D0) : Option D31:=top (α:=D5 × Bool × Unit) fuel (fun c d=>some (d,c,())) a b
def F : Fn:=⟨T61,T62,true,fun x=>run x.1 x.2.1⟩
theorem con : Con Tryz.prog 12 F /\ Named Tryz.prog 12 :=
 con_of2 (C:=C) (ctx_ok (by kernel_rfl) (by kernel_rfl) (by kernel_rfl) (by kernel_rfl) ⟨.inl basculeref_BodyFault.con,⟨.inl basculeref_IdOf.con,⟨.inl basculeref_Offered.con,⟨.inl basculeref_WorthOf.con,trivial⟩⟩⟩⟩) (by kernel_rfl) Tryz.func12 (by kernel_rfl) (c:=cB Tryz.f12) (by kernel_rfl) (by kernel_rfl) F (fun x=>by simp [F,spread,Tryz.ntmps12]) (fun x=>(St0 x.1 x.2.1)) (fun x=>by kernel_rfl) fun x=>(top_eq fuel _ x.1 x.2.1).trans (by kernel_rfl)
end Go.Bx.basculeref_meets
namespace Go.Bx.guard_body
def Js : List Nat:=[]
def C : Ctx:=⟨[(29,T3),(37,T4)],[],[],fnL [],noSh,[],invL [],[(2,[2])],[],[6],0,0⟩
def St0 (a : D0) : St:=stL 9 [(0,.data T4 a)] []
def St1 (a b c : Int) (d : D1) (e f : Int) (g : D1) : St:=stL 9 [(2,.ref 2 0 [])] [(2,.cell T4 (.agg T4 [.data T1 a,.data T1 b,.data T1 c,.data T12 d,.data T1 e,.data T1 f,.app 6 0]) false),(6,.buf T6 g 0 true)]
def top (Rt : Int->Int->Int->D1->Int->Int->D1->Option α) (a : D0) : Option α :=
 if fitB (0 + a.2.2.2.2.2.2.1.length) 1 = true then
  Rt a.1 a.2.1 a.2.2.1 a.2.2.2.1 a.2.2.2.2.1 a.2.2.2.2.2.1 a.2.2.2.2.2.2.1
 else none
theorem top_eq (k : Nat) (Q : Ex->St->Option α) (a : D0) :
  (den C k) (cB Tryz.f51) Q (St0 a) = top (fun b c d e f g i=>Q .ret (St1 b c d e f g i)) a:=plainly Js (by kernel_rfl)
def run (a : D0) : Option D0:=top (α:=Int × Int × Int × List Int × Int × Int × List Int × Unit) (fun b c d e f g i=>some (b,c,d,e,f,g,i,())) a
def F : Fn:=⟨T5,T4,false,fun x=>run x.1⟩
theorem con : Con Tryz.prog 51 F /\ Named Tryz.prog 51 :=
 con_of2 (C:=C) (ctx_ok (by kernel_rfl) (by kernel_rfl) (by kernel_rfl) (by kernel_rfl) trivial) (by kernel_rfl) Tryz.func51 (by kernel_rfl) (c:=cB Tryz.f51) (by kernel_rfl) (by kernel_rfl) F (fun x=>by simp [F,spread,Tryz.ntmps51]) (fun x=>(St0 x.1)) (fun x=>by kernel_rfl) fun x=>(top_eq fuel _ x.1).trans (by kernel_rfl)
end Go.Bx.guard_body
namespace Go.Bx.guard_met_s2
def Js : List Nat:=[9]
def C : Ctx:=⟨[(3,T1),(28,T21),(32,T14),(34,T15),(37,T4)],[],[],fnL [(22,guard_Id.F),(49,gate_Offer.F),(50,guard_Worth.F),(51,guard_body.F)],noSh,[],invL [],[(2,[4,5]),(24,[2,4])],[],[],6,0⟩
def St0 (a b c : D1) (d : Int) (e : D8) (f : D0) (g i : D9) (j k : D1) (l m : D7) : St:=stL 44 [(0,.agg T15 [.data T30 a,.agg T21 [.data T19 b,.data T19 c,.data T1 d,.app 0 0,.app 1 0],.data T21 e,.agg T11 [.app 2 0,.app 3 0],.app 4 0,.app 5 0]),(1,.data T4 f)] [(0,.buf T22 g 0 true),(1,.buf T22 i 0 true),(2,.buf T6 j 0 true),(3,.buf T6 k 0 true),(4,.buf T4 l 0 true),(5,.buf T4 m 0 true)]
def St1 (a : Int) (b c : D9) (d e : D1) (f g : D7) (i j k : D1) (l : Int) (m : D8) : St:=stL 44 [(4,.ref 10 0 []),(5,.data T1 a)] [(0,.buf T22 b 1 true),(1,.buf T22 c 1 true),(2,.buf T6 d 1 true),(3,.buf T6 e 1 true),(4,.buf T4 f 1 true),(5,.buf T4 g 1 true),(10,.cell T15 (.agg T15 [.data T30 i,.agg T21 [.data T19 j,.data T19 k,.data T1 l,.app 0 1,.app 1 1],.data T21 m,.agg T11 [.app 2 1,.app 3 1],.app 4 1,.app 5 1]) false)]
def St2 (a b : D9) (c d : D1) (e f : D7) (g i j : D1) (k : Int) (l : D8) (m n o : D1) (p : Int) (q r : D1) (s : Int) : St:=stL 44 [(2,.ref 8 0 []),(4,.ref 10 0 [])] [(0,.buf T22 a 1 true),(1,.buf T22 b 1 true),(2,.buf T6 c 1 true),(3,.buf T6 d 1 true),(4,.buf T4 e 1 true),(5,.buf T4 f 1 true),(8,.cell T15 (.agg T15 [.data T30 g,.agg T21 [.data T19 i,.data T19 j,.data T1 k,.app 0 1,.app 1 1],.data T21 l,.agg T11 [.app 2 1,.app 3 1],.app 4 1,.app 5 1]) false),(10,.cell T15 (.agg T15 [.data T30 m,.agg T21 [.data T19 n,.data T19 o,.data T1 p,.full T22 [],.full T22 []],.agg T21 [.data T19 q,.data T19 r,.data T1 s,.full T22 [],.full T22 []],.agg T11 [.full T6 [],.full T6 []],.full T4 [],.full T4 []]) false)]
noncomputable def cd0 : Code:=cR (cR (cR (cR (cR (cB Tryz.f23)))))
def j0 (Rt : Int->D9->D9->D1->D1->D7->D7->D1->D1->D1->Int->D8->Option α) (a b : D9) (c d : D1) (e f : D7) (g i j : D1) (k : Int) (l : D8) (m n o : D1) (p : Int) (q r : D1) (s : Int) : Option α :=
 Rt 0 a b c d e f g i j k l
theorem j0_eq (k : Nat) (Q : Ex->St->Option α) (a b : D9) (c d : D1) (e f : D7) (m n o : D1) (p : Int) (q : D8) (g i j : D1) (l : Int) (r s : D1) (t : Int) :
  (den C k) cd0 (endQ C Q) (St2 a b c d e f m n o p q g i j l r s t) = j0 (fun u a b c d e f g i j l v=>Q .ret (St1 u a b c d e f g i j l v)) a b c d e f m n o p q g i j l r s t:=plainly Js (by kernel_rfl)
def top (Rt : Int->D9->D9->D1->D1->D7->D7->D1->D1->D1->Int->D8->Option α) (e f g : D1) (i : Int) (n : D8) (a : D0) (j k : D9) (l m : D1) (c d : D7) : Option α :=
 (guard_Id.run a).bind fun o =>
 (guard_Worth.run a).bind fun p =>
 (gate_Offer.run n o p a.2.2.1).bind fun b =>
 if (b.2.2.1 != 0) = true then
  Rt b.2.2.1 j k l m c d e f g i n
 else
  if b.2.1 = true then
   (guard_body.run a).bind fun q =>
   if fitB (d.length + 1) 96 = true then
    j0 Rt j k l m c (d ++ [q]) e f g i b.1 [0,0,0,0] [0,0,0] [0,0,0] 0 [0,0,0] [0,0,0] 0
   else none
  else
   (guard_body.run a).bind fun r =>
   if fitB (c.length + 1) 96 = true then
    j0 Rt j k l m (c ++ [r]) d e f g i b.1 [0,0,0,0] [0,0,0] [0,0,0] 0 [0,0,0] [0,0,0] 0
   else none
theorem top_eq (k : Nat) (Q : Ex->St->Option α) (i j l : D1) (m : Int) (n : D8) (c : D0) (d e : D9) (f g : D1) (a b : D7) :
  (den C k) (cB Tryz.f23) (endQ C Q) (St0 i j l m n c d e f g a b) = top (fun p d e f g a b q r s t u=>Q .ret (St1 p d e f g a b q r s t u)) i j l m n c d e f g a b:=by
 have h : ∀ (D L : DT α),denJ D L Js C (cB Tryz.f23) (endQ C Q) (St0 i j l m n c d e f g a b) =
    (guard_Id.run c).bind fun v =>
    (guard_Worth.run c).bind fun w =>
    (gate_Offer.run n v w c.2.2.1).bind fun o =>
    if (o.2.2.1 != 0) = true then
     Q .ret (St1 o.2.2.1 d e f g a b i j l m n)
    else
     if o.2.1 = true then
      (guard_body.run c).bind fun x =>
      if fitB (b.length + 1) 96 = true then
       D cd0 (endQ C Q) (St2 d e f g a (b ++ [x]) i j l m o.1 [0,0,0,0] [0,0,0] [0,0,0] 0 [0,0,0] [0,0,0] 0)
      else none
     else
      (guard_body.run c).bind fun y =>
      if fitB (a.length + 1) 96 = true then
       D cd0 (endQ C Q) (St2 d e f g (a ++ [y]) b i j l m o.1 [0,0,0,0] [0,0,0] [0,0,0] 0 [0,0,0] [0,0,0] 0)
      else none:=by
  intro D L; kernel_rfl
 have h2:=via (k:=k) h
 refine h2.trans ?_
 simp only [j0_eq]
 first | rfl | kernel_rfl
def run (m n o : D1) (p : Int) (q : D8) (r : D0) (a b : D9) (c d : D1) (e f : D7) : Option D46:=top (α:=List Int × List Int × List Int × Int × D8 × Int × D9 × D9 × List Int × List Int × D7 × D7 × List Int × List Int × List Int × Int × D8 × Unit) (fun s a b c d e f g i j k l=>some (g,i,j,k,l,s,a,b,c,d,e,f,g,i,j,k,l,())) m n o p q r a b c d e f
def Sp : Spec:=⟨[.agg T15 [hD T30,.agg T21 [hD T19,hD T19,hD T1,.app 0 0,.app 1 0],hD T21,.agg T11 [.app 2 0,.app 3 0],.app 4 0,.app 5 0],hD T4],[(0,hB T22 0 true),(1,hB T22 0 true),(2,hB T6 0 true),(3,hB T6 0 true),(4,hB T4 0 true),(5,hB T4 0 true)],T87,.tup [.agg T15 [hD T30,.agg T21 [hD T19,hD T19,hD T1,.app 0 1,.app 1 1],hD T21,.agg T11 [.app 2 1,.app 3 1],.app 4 1,.app 5 1],hD T1],[(0,hB T22 1 true),(1,hB T22 1 true),(2,hB T6 1 true),(3,hB T6 1 true),(4,hB T4 1 true),(5,hB T4 1 true),(10,hC T15 (.agg T15 [hD T30,.agg T21 [hD T19,hD T19,hD T1,.app 0 1,.app 1 1],hD T21,.agg T11 [.app 2 1,.app 3 1],.app 4 1,.app 5 1]) false)],T88,fun x=>run x.1 x.2.1 x.2.2.1 x.2.2.2.1 x.2.2.2.2.1 x.2.2.2.2.2.1 x.2.2.2.2.2.2.1 x.2.2.2.2.2.2.2.1 x.2.2.2.2.2.2.2.2.1 x.2.2.2.2.2.2.2.2.2.1 x.2.2.2.2.2.2.2.2.2.2.1 x.2.2.2.2.2.2.2.2.2.2.2.1⟩
set_option maxRecDepth 100000 in
theorem sok : SOk Tryz.prog 23 Sp.h:=by
 refine sok_of_den (C:=C) (ctx_ok (by kernel_rfl) (by kernel_rfl) (by kernel_rfl) (by kernel_rfl) ⟨.inl guard_Id.con,⟨.inl gate_Offer.con,⟨.inl guard_Worth.con,⟨.inl guard_body.con,trivial⟩⟩⟩⟩) (by kernel_rfl) Tryz.func23 (c:=cB Tryz.f23) (by kernel_rfl) (by kernel_rfl) Sp fuel (by kernel_rfl) (by kernel_rfl) ?_
 intro x r h
 rw [<- h]
 have h1 : Sp.start x Tryz.f23.ntmps = (St0 x.1 x.2.1 x.2.2.1 x.2.2.2.1 x.2.2.2.2.1 x.2.2.2.2.2.1 x.2.2.2.2.2.2.1 x.2.2.2.2.2.2.2.1 x.2.2.2.2.2.2.2.2.1 x.2.2.2.2.2.2.2.2.2.1 x.2.2.2.2.2.2.2.2.2.2.1 x.2.2.2.2.2.2.2.2.2.2.2.1):=by kernel_rfl
 rw [h1]
 refine (top_eq fuel (finS C Tryz.f23.results.toList Sp.read) x.1 x.2.1 x.2.2.1 x.2.2.2.1 x.2.2.2.2.1 x.2.2.2.2.2.1 x.2.2.2.2.2.2.1 x.2.2.2.2.2.2.2.1 x.2.2.2.2.2.2.2.2.1 x.2.2.2.2.2.2.2.2.2.1 x.2.2.2.2.2.2.2.2.2.2.1 x.2.2.2.2.2.2.2.2.2.2.2.1).trans ?_
 kernel_rfl
theorem named : Named Tryz.prog 23:=named_of Tryz.func23 (by kernel_rfl) (by kernel_rfl)
end Go.Bx.guard_met_s2
