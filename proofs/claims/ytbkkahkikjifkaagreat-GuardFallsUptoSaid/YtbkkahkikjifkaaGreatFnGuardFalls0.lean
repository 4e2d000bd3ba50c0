/- Go functions of this seat in their own words of Lean, each tied to its code by a contract. -/
import Derived.Test.YtbkkahkikjifkaaGreatGBase
open Go Go.Proofs Go.Bx
set_option maxRecDepth 100000
set_option linter.unusedVariables false
variable {α : Type}
namespace Go.Bx.basculeref_of
def Js : List Nat:=[8]
def C : Ctx:=⟨[(24,T30),(135,T95)],[],[],fnL [],noSh,[],invL [],[(2,[2]),(1,[3]),(4,[3,6,7]),(9,[3,6,7]),(21,[3])],[(9,[.melt true 3 [] 16 true])],[],0,0⟩
def St0 (a : D1) : St:=stL 19 [(0,.data T30 a)] []
def St1 (a : D1) (b : Int) (c : D1) : St:=stL 19 [(3,.app 16 0),(6,.data T30 a),(7,.data T1 b)] [(16,.buf T37 c 0 true)]
noncomputable def cd0 : Code:=cL (cL (cR (cL (cR (cR (cB Tryz.f83))))))
def St2 (a : D1) : St:=stL 19 [(3,.app 16 0)] [(16,.buf T37 a 0 true)]
def l0s (Nx : D1->Int->D1->Option α) (Xt0 : D1->Option α) (b : D1) (a : Int) (c : D1) : Option α :=
 if (decide (a < 4)) = true then
  if 0 <= a /\ a < (4 : Int) then
   if fitB (c.length + 2) 8 = true then
    Nx b (IntKind.i64.wrap (a + 1)) (c ++ [(Int.tmod (List.getD b (Int.toNat a) 0) 4294967296),(IntKind.u64.wrap (Int.tdiv (List.getD b (Int.toNat a) 0) 4294967296))])
   else none
  else none
 else
  Xt0 c
theorem l0s_eq (k : Nat) (next : St->Option α) (Q : Ex->St->Option α) (b : D1) (c : Int) (a : D1) :
  rnd C k cd0 9 Q next (St1 b c a) = l0s (fun b c a=>next (St1 b c a)) (fun a=>Q (.exit 0) (St2 a)) b c a:=plainly Js (by kernel_rfl)
def l0 (k : Nat) (Xt0 : D1->Option α) : Nat->D1->Int->D1->Option α
 | 0,_,_,_=>none
 | n + 1,a,b,c=>l0s (l0 k Xt0 n) Xt0 a b c
theorem l0_eq (k : Nat) (Q : Ex->St->Option α) : ∀ (n : Nat) (b : D1) (c : Int) (a : D1),iter (rnd C k cd0 9 Q) n (St1 b c a) = l0 k (fun a=>Q (.exit 0) (St2 a)) n b c a
 | 0,_,_,_=>rfl
 | n + 1,b,c,a=>(iter_succ _ _ _).trans ((l0s_eq k _ Q b c a).trans (congrArg (fun N=>l0s N (fun a=>Q (.exit 0) (St2 a)) b c a) (by funext; exact l0_eq k Q n _ _ _)))
noncomputable def cd1 : Code:=cR (cR (cR (cB Tryz.f83)))
def St3 (a : D1) : St:=stL 19 [(3,.app 16 0)] [(16,.buf T37 a 0 true)]
def St4 (a : D1) : St:=stL 19 [(2,.app 16 0)] [(16,.buf T37 a 0 true)]
def j0 (Rt : D1->Option α) (a : D1) : Option α :=
 Rt a
theorem j0_eq (k : Nat) (Q : Ex->St->Option α) (a : D1) :
  (den C k) cd1 Q (St3 a) = j0 (fun a=>Q .ret (St4 a)) a:=plainly Js (by kernel_rfl)
theorem a0 (k : Nat) (Q : Ex->St->Option α) (c : D1) (d : Int) (a : D1) :
  (lp C k) cd0 (blkQ C 0 (sq (den C k) (lp C k) Js C cd1 Q)) (St1 c d a) = l0 k (fun a=>j0 (fun a=>Q .ret (St4 a)) a) k c d a :=
 (lp_iter 9 (by kernel_rfl)).trans ((l0_eq k _ k c d a).trans (congrArg (fun X=>l0 k X k c d a) (funext fun a=>(Eq.trans (b:=(den C k) cd1 Q (St3 a)) (by kernel_rfl) (by simp only [j0_eq])))))
def top (k : Nat) (Rt : D1->Option α) (a : D1) : Option α :=
 l0 k (fun b=>j0 Rt b) k a 0 []
theorem top_eq (k : Nat) (Q : Ex->St->Option α) (a : D1) :
  (den C k) (cB Tryz.f83) Q (St0 a) = top k (fun b=>Q .ret (St4 b)) a:=by
 have h : ∀ (D L : DT α),denJ D L Js C (cB Tryz.f83) Q (St0 a) =
    L cd0 (blkQ C 0 (sq D L Js C cd1 Q)) (St1 a 0 []):=by
  intro D L; kernel_rfl
 have h2:=via (k:=k) h
 refine h2.trans ?_
 simp only [a0]
 first | rfl | kernel_rfl
def run (a : D1) : Option D1:=top (α:=List Int) fuel (fun b=>some b) a
def F : Fn:=⟨T97,T95,false,fun x=>run x.1⟩
theorem con : Con Tryz.prog 83 F /\ Named Tryz.prog 83 :=
 con_of2 (C:=C) (ctx_ok (by kernel_rfl) (by kernel_rfl) (by kernel_rfl) (by kernel_rfl) trivial) (by kernel_rfl) Tryz.func83 (by kernel_rfl) (c:=cB Tryz.f83) (by kernel_rfl) (by kernel_rfl) F (fun x=>by simp [F,spread,Tryz.ntmps83]) (fun x=>(St0 x.1)) (fun x=>by kernel_rfl) fun x=>(top_eq fuel _ x.1).trans (by kernel_rfl)
end Go.Bx.basculeref_of
namespace Go.Bx.basculeref_compare
def Js : List Nat:=[8,10,14]
def C : Ctx:=⟨[(3,T1),(22,T37),(135,T95)],[],[],fnL [],noSh,[],invL [],[(2,[4]),(1,[]),(4,[0,1,5]),(6,[0,1,5]),(21,[0,1,5,6,7]),(27,[0,1,5,6,7]),(39,[])],[],[],0,0⟩
def St0 (a b : D1) : St:=stL 40 [(0,.data T95 a),(1,.data T95 b)] []
def St1 (a b : D1) (c : Int) : St:=stL 40 [(0,.data T95 a),(1,.data T95 b),(5,.data T1 c)] []
noncomputable def cd0 : Code:=cL (cL (cR (cL (cR (cB Tryz.f82)))))
def St2 (a b : D1) (c d e : Int) : St:=stL 40 [(0,.data T95 a),(1,.data T95 b),(5,.data T1 c),(6,.data T37 d),(7,.data T37 e)] []
noncomputable def cd1 : Code:=cR (cR (cL (cL (cR (cL (cR (cB Tryz.f82)))))))
noncomputable def cd2 : Code:=cR (cR (cL (cL (cR (cL (cL (cR (cL (cR (cB Tryz.f82))))))))))
def St3 (a b : D1) (c d e : Int) : St:=stL 40 [(0,.data T95 a),(1,.data T95 b),(5,.data T1 c),(6,.data T37 d),(7,.data T37 e)] []
noncomputable def cd3 : Code:=cR (cR (cR (cL (cL (cR (cL (cL (cR (cL (cR (cB Tryz.f82)))))))))))
def St4 (a : Int) : St:=stL 40 [(4,.data T1 a)] []
def j1 (Nx : D1->D1->Int->Option α) (Rt : Int->Option α) (c d : D1) (e a b : Int) : Option α :=
 if (decide (a < b)) = true then
  Rt (-1)
 else
  if (decide (a > b)) = true then
   Rt 1
  else
   Nx c d (IntKind.i64.wrap (e - 1))
theorem j1_eq (k : Nat) (next : St->Option α) (Q : Ex->St->Option α) (a b : D1) (c d e : Int) :
  (den C k) cd3 (blkQ C 1 (sq (den C k) (lp C k) Js C cd1 (lq C 6 next Q))) (St3 a b c d e) = j1 (fun a b c=>next (St1 a b c)) (fun f=>Q .ret (St4 f)) a b c d e:=plainly Js (by kernel_rfl)
def j0 (Nx : D1->D1->Int->Option α) (Rt : Int->Option α) (c b : D1) (a d e : Int) : Option α :=
 if (decide (a < (b.length : Int))) = true then
  if 0 <= a /\ a < (b.length : Int) then
   j1 Nx Rt c b a d (List.getD b (Int.toNat a) 0)
  else none
 else
  j1 Nx Rt c b a d e
theorem j0_eq (k : Nat) (next : St->Option α) (Q : Ex->St->Option α) (c b : D1) (a d e : Int) :
  (den C k) cd2 (blkQ C 1 (sq (den C k) (lp C k) Js C cd1 (lq C 6 next Q))) (St2 c b a d e) = j0 (fun c b a=>next (St1 c b a)) (fun f=>Q .ret (St4 f)) c b a d e:=by
 have h : ∀ (D L : DT α),denJ D L Js C cd2 (blkQ C 1 (sq D L Js C cd1 (lq C 6 next Q))) (St2 c b a d e) =
    if (decide (a < (b.length : Int))) = true then
     if 0 <= a /\ a < (b.length : Int) then
      D cd3 (blkQ C 1 (sq D L Js C cd1 (lq C 6 next Q))) (St3 c b a d (List.getD b (Int.toNat a) 0))
     else none
    else
     D cd3 (blkQ C 1 (sq D L Js C cd1 (lq C 6 next Q))) (St3 c b a d e):=by
  intro D L; kernel_rfl
 have h2:=via (k:=k) h
 refine h2.trans ?_
 simp only [j1_eq]
 first | rfl | kernel_rfl
def St5 : St:=stL 40 [] []
def l0s (Nx : D1->D1->Int->Option α) (Rt : Int->Option α) (Xt0 : Option α) (b c : D1) (a : Int) : Option α :=
 if (decide (a >= 0)) = true then
  if (decide (a < (b.length : Int))) = true then
   if 0 <= a /\ a < (b.length : Int) then
    j0 Nx Rt b c a (List.getD b (Int.toNat a) 0) 0
   else none
  else
   j0 Nx Rt b c a 0 0
 else
  Xt0
theorem l0s_eq (k : Nat) (next : St->Option α) (Q : Ex->St->Option α) (b c : D1) (a : Int) :
  rnd C k cd0 6 Q next (St1 b c a) = l0s (fun b c a=>next (St1 b c a)) (fun d=>Q .ret (St4 d)) (Q (.exit 0) St5) b c a:=by
 have h : ∀ (D L : DT α),denJ D L Js C cd0 (lq C 6 next Q) (St1 b c a) =
    if (decide (a >= 0)) = true then
     if (decide (a < (b.length : Int))) = true then
      if 0 <= a /\ a < (b.length : Int) then
       D cd2 (blkQ C 1 (sq D L Js C cd1 (lq C 6 next Q))) (St2 b c a (List.getD b (Int.toNat a) 0) 0)
      else none
     else
      D cd2 (blkQ C 1 (sq D L Js C cd1 (lq C 6 next Q))) (St2 b c a 0 0)
    else
     Q (.exit 0) St5:=by
  intro D L; kernel_rfl
 have h2:=via (k:=k) h
 refine h2.trans ?_
 simp only [j0_eq]
 first | rfl | kernel_rfl
def l0 (k : Nat) (Rt : Int->Option α) (Xt0 : Option α) : Nat->D1->D1->Int->Option α
 | 0,_,_,_=>none
 | n + 1,a,b,c=>l0s (l0 k Rt Xt0 n) Rt Xt0 a b c
theorem l0_eq (k : Nat) (Q : Ex->St->Option α) : ∀ (n : Nat) (a b : D1) (c : Int),iter (rnd C k cd0 6 Q) n (St1 a b c) = l0 k (fun d=>Q .ret (St4 d)) (Q (.exit 0) St5) n a b c
 | 0,_,_,_=>rfl
 | n + 1,a,b,c=>(iter_succ _ _ _).trans ((l0s_eq k _ Q a b c).trans (congrArg (fun N=>l0s N (fun d=>Q .ret (St4 d)) (Q (.exit 0) St5) a b c) (by funext; exact l0_eq k Q n _ _ _)))
theorem l0_congr (k : Nat) (Rt : Int->Option α) (Xt0 : Option α) (Rtq : Int->Option α) (Xt0q : Option α) (hRt : ∀ (a : Int),Rt a = Rtq a) (hXt0 : Xt0 = Xt0q) (n : Nat) (b c : D1) (d : Int) : l0 k Rt Xt0 n b c d = l0 k Rtq Xt0q n b c d:=by
 obtain rfl : Rt = Rtq:=by funext a; exact hRt a
 obtain rfl : Xt0 = Xt0q:=hXt0
 rfl
noncomputable def cd4 : Code:=cR (cR (cB Tryz.f82))
def St6 : St:=stL 40 [] []
def j2 (Rt : Int->Option α) : Option α :=
 Rt 0
theorem j2_eq (k : Nat) (Q : Ex->St->Option α) :
  (den C k) cd4 Q St6 = j2 (fun a=>Q .ret (St4 a)):=plainly Js (by kernel_rfl)
theorem a0 (k : Nat) (Q : Ex->St->Option α) (c d : D1) (e : Int) :
  (lp C k) cd0 (blkQ C 0 (sq (den C k) (lp C k) Js C cd4 Q)) (St1 c d e) = l0 k (fun a=>(fun a=>Q .ret (St4 a)) a) (j2 (fun a=>Q .ret (St4 a))) k c d e :=
 (lp_iter 6 (by kernel_rfl)).trans ((l0_eq k _ k c d e).trans (l0_congr k _ _ _ _ (fun a=>(by kernel_rfl)) (Eq.trans (b:=(den C k) cd4 Q St6) (by kernel_rfl) (by simp only [j2_eq])) k c d e))
def top (k : Nat) (Rt : Int->Option α) (a b : D1) : Option α :=
 l0 k (fun c=>Rt c) (j2 Rt) k a b (IntKind.i64.wrap ((if (b.length : Int) > (a.length : Int) then (b.length : Int) else (a.length : Int)) - 1))
theorem top_eq (k : Nat) (Q : Ex->St->Option α) (a b : D1) :
  (den C k) (cB Tryz.f82) Q (St0 a b) = top k (fun c=>Q .ret (St4 c)) a b:=by
 have h : ∀ (D L : DT α),denJ D L Js C (cB Tryz.f82) Q (St0 a b) =
    L cd0 (blkQ C 0 (sq D L Js C cd4 Q)) (St1 a b (IntKind.i64.wrap ((if (b.length : Int) > (a.length : Int) then (b.length : Int) else (a.length : Int)) - 1))):=by
  intro D L; kernel_rfl
 have h2:=via (k:=k) h
 refine h2.trans ?_
 simp only [a0]
 first | rfl | kernel_rfl
def run (a b : D1) : Option (Int):=top (α:=Int) fuel (fun c=>some c) a b
def F : Fn:=⟨T96,T1,false,fun x=>run x.1 x.2.1⟩
theorem con : Con Tryz.prog 82 F /\ Named Tryz.prog 82 :=
 con_of2 (C:=C) (ctx_ok (by kernel_rfl) (by kernel_rfl) (by kernel_rfl) (by kernel_rfl) trivial) (by kernel_rfl) Tryz.func82 (by kernel_rfl) (c:=cB Tryz.f82) (by kernel_rfl) (by kernel_rfl) F (fun x=>by simp [F,spread,Tryz.ntmps82]) (fun x=>(St0 x.1 x.2.1)) (fun x=>by kernel_rfl) fun x=>(top_eq fuel _ x.1 x.2.1).trans (by kernel_rfl)
end Go.Bx.basculeref_compare
namespace Go.Bx.basculeref_big
def Js : List Nat:=[8]
def C : Ctx:=⟨[(3,T1),(5,T6),(9,.str),(22,T37),(29,T3)],[],[],fnL [],noSh,[],invL [],[(2,[4]),(1,[5]),(4,[0,5,6,7]),(9,[0,5,6,7]),(21,[5])],[],[],0,0⟩
def St0 (a b : Int) : St:=stL 19 [(0,.data T37 a),(1,.data T1 b)] []
def St1 (a : Int) (b : D1) (c d : Int) : St:=stL 19 [(0,.data T37 a),(5,.data .str b),(6,.data T1 c),(7,.data T1 d)] []
noncomputable def cd0 : Code:=cL (cL (cR (cL (cR (cR (cB Tryz.f38))))))
def St2 (a : D1) : St:=stL 19 [(5,.data .str a)] []
def l0s (Nx : Int->D1->Int->Int->Option α) (Xt0 : D1->Option α) (b : Int) (a : D1) (c d : Int) : Option α :=
 if (decide (d < c)) = true then
  if Nat.ble (1 + a.length) 9223372036854775807 = true then
   Nx (shrI .u64 b 8) ([(IntKind.u8.wrap b)] ++ a) c (IntKind.i64.wrap (d + 1))
  else none
 else
  Xt0 a
theorem l0s_eq (k : Nat) (next : St->Option α) (Q : Ex->St->Option α) (b : Int) (a : D1) (c d : Int) :
  rnd C k cd0 9 Q next (St1 b a c d) = l0s (fun b a c d=>next (St1 b a c d)) (fun a=>Q (.exit 0) (St2 a)) b a c d:=plainly Js (by kernel_rfl)
def l0 (k : Nat) (Xt0 : D1->Option α) : Nat->Int->D1->Int->Int->Option α
 | 0,_,_,_,_=>none
 | n + 1,a,b,c,d=>l0s (l0 k Xt0 n) Xt0 a b c d
theorem l0_eq (k : Nat) (Q : Ex->St->Option α) : ∀ (n : Nat) (b : Int) (a : D1) (c d : Int),iter (rnd C k cd0 9 Q) n (St1 b a c d) = l0 k (fun a=>Q (.exit 0) (St2 a)) n b a c d
 | 0,_,_,_,_=>rfl
 | n + 1,b,a,c,d=>(iter_succ _ _ _).trans ((l0s_eq k _ Q b a c d).trans (congrArg (fun N=>l0s N (fun a=>Q (.exit 0) (St2 a)) b a c d) (by funext; exact l0_eq k Q n _ _ _ _)))
noncomputable def cd1 : Code:=cR (cR (cR (cB Tryz.f38)))
def St3 (a : D1) : St:=stL 19 [(5,.data .str a)] []
def St4 (a : D1) : St:=stL 19 [(4,.data .str a)] []
def j0 (Rt : D1->Option α) (a : D1) : Option α :=
 Rt a
theorem j0_eq (k : Nat) (Q : Ex->St->Option α) (a : D1) :
  (den C k) cd1 Q (St3 a) = j0 (fun b=>Q .ret (St4 b)) a:=plainly Js (by kernel_rfl)
theorem a0 (k : Nat) (Q : Ex->St->Option α) (c : Int) (a : D1) (d e : Int) :
  (lp C k) cd0 (blkQ C 0 (sq (den C k) (lp C k) Js C cd1 Q)) (St1 c a d e) = l0 k (fun a=>j0 (fun f=>Q .ret (St4 f)) a) k c a d e :=
 (lp_iter 9 (by kernel_rfl)).trans ((l0_eq k _ k c a d e).trans (congrArg (fun X=>l0 k X k c a d e) (funext fun a=>(Eq.trans (b:=(den C k) cd1 Q (St3 a)) (by kernel_rfl) (by simp only [j0_eq])))))
def top (k : Nat) (Rt : D1->Option α) (a b : Int) : Option α :=
 l0 k (fun c=>j0 Rt c) k a [] b 0
theorem top_eq (k : Nat) (Q : Ex->St->Option α) (a b : Int) :
  (den C k) (cB Tryz.f38) Q (St0 a b) = top k (fun c=>Q .ret (St4 c)) a b:=by
 have h : ∀ (D L : DT α),denJ D L Js C (cB Tryz.f38) Q (St0 a b) =
    L cd0 (blkQ C 0 (sq D L Js C cd1 Q)) (St1 a [] b 0):=by
  intro D L; kernel_rfl
 have h2:=via (k:=k) h
 refine h2.trans ?_
 simp only [a0]
 first | rfl | kernel_rfl
def run (a b : Int) : Option D1:=top (α:=List Int) fuel (fun c=>some c) a b
def F : Fn:=⟨T99,.str,false,fun x=>run x.1 x.2.1⟩
theorem con : Con Tryz.prog 38 F /\ Named Tryz.prog 38 :=
 con_of2 (C:=C) (ctx_ok (by kernel_rfl) (by kernel_rfl) (by kernel_rfl) (by kernel_rfl) trivial) (by kernel_rfl) Tryz.func38 (by kernel_rfl) (c:=cB Tryz.f38) (by kernel_rfl) (by kernel_rfl) F (fun x=>by simp [F,spread,Tryz.ntmps38]) (fun x=>(St0 x.1 x.2.1)) (fun x=>by kernel_rfl) fun x=>(top_eq fuel _ x.1 x.2.1).trans (by kernel_rfl)
end Go.Bx.basculeref_big
namespace Go.Bx.basculeref_word
def Js : List Nat:=[7]
def C : Ctx:=⟨[(5,T6),(9,.str),(35,T12)],[],[],fnL [],noSh,[],invL [],[(2,[2]),(1,[2,3]),(4,[0,2,3,4]),(9,[0,2,3,4]),(18,[2,3])],[],[],0,0⟩
def St0 (a : D1) : St:=stL 21 [(0,.data .str a)] []
def St1 (a : D1) (b : Int) (c d : D1) : St:=stL 21 [(0,.data .str a),(2,.ref 2 0 []),(3,.ref 3 0 []),(4,.data T1 b)] [(2,.cell T12 (.data T12 c) false),(3,.cell T12 (.data T12 d) false)]
noncomputable def cd0 : Code:=cL (cL (cR (cL (cR (cR (cB Tryz.f70))))))
def St2 (a b : D1) : St:=stL 21 [(2,.ref 2 0 []),(3,.ref 3 0 [])] [(2,.cell T12 (.data T12 a) false),(3,.cell T12 (.data T12 b) false)]
def l0s (Nx : D1->Int->D1->D1->Option α) (Xt0 : D1->D1->Option α) (b : D1) (a : Int) (c d : D1) : Option α :=
 if (cond (decide (a < (b.length : Int))) (decide (a < 32)) false) = true then
  if 0 <= a /\ a < (b.length : Int) then
   if 0 <= a /\ a < (32 : Int) then
    Nx b (IntKind.i64.wrap (a + 1)) c (List.set d (Int.toNat a) (List.getD b (Int.toNat a) 0))
   else none
  else none
 else
  Xt0 c d
theorem l0s_eq (k : Nat) (next : St->Option α) (Q : Ex->St->Option α) (c : D1) (d : Int) (a b : D1) :
  rnd C k cd0 9 Q next (St1 c d a b) = l0s (fun c d a b=>next (St1 c d a b)) (fun a b=>Q (.exit 0) (St2 a b)) c d a b:=plainly Js (by kernel_rfl)
def l0 (k : Nat) (Xt0 : D1->D1->Option α) : Nat->D1->Int->D1->D1->Option α
 | 0,_,_,_,_=>none
 | n + 1,a,b,c,d=>l0s (l0 k Xt0 n) Xt0 a b c d
theorem l0_eq (k : Nat) (Q : Ex->St->Option α) : ∀ (n : Nat) (c : D1) (d : Int) (a b : D1),iter (rnd C k cd0 9 Q) n (St1 c d a b) = l0 k (fun a b=>Q (.exit 0) (St2 a b)) n c d a b
 | 0,_,_,_,_=>rfl
 | n + 1,c,d,a,b=>(iter_succ _ _ _).trans ((l0s_eq k _ Q c d a b).trans (congrArg (fun N=>l0s N (fun a b=>Q (.exit 0) (St2 a b)) c d a b) (by funext; exact l0_eq k Q n _ _ _ _)))
noncomputable def cd1 : Code:=cR (cR (cR (cB Tryz.f70)))
def St3 (a b : D1) : St:=stL 21 [(2,.ref 2 0 []),(3,.ref 3 0 [])] [(2,.cell T12 (.data T12 a) false),(3,.cell T12 (.data T12 b) false)]
def St4 (a : D1) : St:=stL 21 [(2,.ref 2 0 [])] [(2,.cell T12 (.data T12 a) false)]
def j0 (Rt : D1->Option α) (b a : D1) : Option α :=
 Rt a
theorem j0_eq (k : Nat) (Q : Ex->St->Option α) (a b : D1) :
  (den C k) cd1 Q (St3 a b) = j0 (fun a=>Q .ret (St4 a)) a b:=plainly Js (by kernel_rfl)
theorem a0 (k : Nat) (Q : Ex->St->Option α) (d : D1) (e : Int) (a c : D1) :
  (lp C k) cd0 (blkQ C 0 (sq (den C k) (lp C k) Js C cd1 Q)) (St1 d e a c) = l0 k (fun a c=>j0 (fun a=>Q .ret (St4 a)) a c) k d e a c :=
 (lp_iter 9 (by kernel_rfl)).trans ((l0_eq k _ k d e a c).trans (congrArg (fun X=>l0 k X k d e a c) (funext fun a=>funext fun c=>(Eq.trans (b:=(den C k) cd1 Q (St3 a c)) (by kernel_rfl) (by simp only [j0_eq])))))
def top (k : Nat) (Rt : D1->Option α) (a : D1) : Option α :=
 l0 k (fun b c=>j0 Rt b c) k a 0 (List.replicate 32 0) (List.replicate 32 0)
theorem top_eq (k : Nat) (Q : Ex->St->Option α) (a : D1) :
  (den C k) (cB Tryz.f70) Q (St0 a) = top k (fun b=>Q .ret (St4 b)) a:=by
 have h : ∀ (D L : DT α),denJ D L Js C (cB Tryz.f70) Q (St0 a) =
    L cd0 (blkQ C 0 (sq D L Js C cd1 Q)) (St1 a 0 (List.replicate 32 0) (List.replicate 32 0)):=by
  intro D L; kernel_rfl
 have h2:=via (k:=k) h
 refine h2.trans ?_
 simp only [a0]
 first | rfl | kernel_rfl
def run (a : D1) : Option D1:=top (α:=List Int) fuel (fun b=>some b) a
def F : Fn:=⟨T94,T12,false,fun x=>run x.1⟩
theorem con : Con Tryz.prog 70 F /\ Named Tryz.prog 70 :=
 con_of2 (C:=C) (ctx_ok (by kernel_rfl) (by kernel_rfl) (by kernel_rfl) (by kernel_rfl) trivial) (by kernel_rfl) Tryz.func70 (by kernel_rfl) (c:=cB Tryz.f70) (by kernel_rfl) (by kernel_rfl) F (fun x=>by simp [F,spread,Tryz.ntmps70]) (fun x=>(St0 x.1)) (fun x=>by kernel_rfl) fun x=>(top_eq fuel _ x.1).trans (by kernel_rfl)
end Go.Bx.basculeref_word
namespace Go.Bx.basculeref_number
def Js : List Nat:=[7]
def C : Ctx:=⟨[(3,T1),(5,T6),(9,.str),(22,T37)],[],[],fnL [],noSh,[],invL [],[(2,[2]),(1,[3]),(4,[0,3,4]),(9,[0,3,4]),(18,[3])],[],[],0,0⟩
def St0 (a : D1) : St:=stL 20 [(0,.data .str a)] []
def St1 (a : D1) (b c : Int) : St:=stL 20 [(0,.data .str a),(3,.data T37 b),(4,.data T1 c)] []
noncomputable def cd0 : Code:=cL (cL (cR (cL (cR (cR (cB Tryz.f45))))))
def St2 (a : Int) : St:=stL 20 [(3,.data T37 a)] []
def l0s (Nx : D1->Int->Int->Option α) (Xt0 : Int->Option α) (b : D1) (c a : Int) : Option α :=
 if (decide (a < (b.length : Int))) = true then
  if 0 <= a /\ a < (b.length : Int) then
   Nx b (IntKind.u64.wrap ((IntKind.u64.wrap (c * 256)) + (IntKind.u64.wrap (List.getD b (Int.toNat a) 0)))) (IntKind.i64.wrap (a + 1))
  else none
 else
  Xt0 c
theorem l0s_eq (k : Nat) (next : St->Option α) (Q : Ex->St->Option α) (b : D1) (a c : Int) :
  rnd C k cd0 9 Q next (St1 b a c) = l0s (fun b a c=>next (St1 b a c)) (fun a=>Q (.exit 0) (St2 a)) b a c:=plainly Js (by kernel_rfl)
def l0 (k : Nat) (Xt0 : Int->Option α) : Nat->D1->Int->Int->Option α
 | 0,_,_,_=>none
 | n + 1,a,b,c=>l0s (l0 k Xt0 n) Xt0 a b c
theorem l0_eq (k : Nat) (Q : Ex->St->Option α) : ∀ (n : Nat) (b : D1) (a c : Int),iter (rnd C k cd0 9 Q) n (St1 b a c) = l0 k (fun a=>Q (.exit 0) (St2 a)) n b a c
 | 0,_,_,_=>rfl
 | n + 1,b,a,c=>(iter_succ _ _ _).trans ((l0s_eq k _ Q b a c).trans (congrArg (fun N=>l0s N (fun a=>Q (.exit 0) (St2 a)) b a c) (by funext; exact l0_eq k Q n _ _ _)))
noncomputable def cd1 : Code:=cR (cR (cR (cB Tryz.f45)))
def St3 (a : Int) : St:=stL 20 [(3,.data T37 a)] []
def St4 (a : Int) : St:=stL 20 [(2,.data T1 a)] []
def j0 (Rt : Int->Option α) (a : Int) : Option α :=
 Rt (IntKind.i64.wrap a)
theorem j0_eq (k : Nat) (Q : Ex->St->Option α) (a : Int) :
  (den C k) cd1 Q (St3 a) = j0 (fun b=>Q .ret (St4 b)) a:=plainly Js (by kernel_rfl)
theorem a0 (k : Nat) (Q : Ex->St->Option α) (c : D1) (a d : Int) :
  (lp C k) cd0 (blkQ C 0 (sq (den C k) (lp C k) Js C cd1 Q)) (St1 c a d) = l0 k (fun a=>j0 (fun e=>Q .ret (St4 e)) a) k c a d :=
 (lp_iter 9 (by kernel_rfl)).trans ((l0_eq k _ k c a d).trans (congrArg (fun X=>l0 k X k c a d) (funext fun a=>(Eq.trans (b:=(den C k) cd1 Q (St3 a)) (by kernel_rfl) (by simp only [j0_eq])))))
def top (k : Nat) (Rt : Int->Option α) (a : D1) : Option α :=
 l0 k (fun b=>j0 Rt b) k a 0 0
theorem top_eq (k : Nat) (Q : Ex->St->Option α) (a : D1) :
  (den C k) (cB Tryz.f45) Q (St0 a) = top k (fun b=>Q .ret (St4 b)) a:=by
 have h : ∀ (D L : DT α),denJ D L Js C (cB Tryz.f45) Q (St0 a) =
    L cd0 (blkQ C 0 (sq D L Js C cd1 Q)) (St1 a 0 0):=by
  intro D L; kernel_rfl
 have h2:=via (k:=k) h
 refine h2.trans ?_
 simp only [a0]
 first | rfl | kernel_rfl
def run (a : D1) : Option (Int):=top (α:=Int) fuel (fun b=>some b) a
def F : Fn:=⟨T94,T1,false,fun x=>run x.1⟩
theorem con : Con Tryz.prog 45 F /\ Named Tryz.prog 45 :=
 con_of2 (C:=C) (ctx_ok (by kernel_rfl) (by kernel_rfl) (by kernel_rfl) (by kernel_rfl) trivial) (by kernel_rfl) Tryz.func45 (by kernel_rfl) (c:=cB Tryz.f45) (by kernel_rfl) (by kernel_rfl) F (fun x=>by simp [F,spread,Tryz.ntmps45]) (fun x=>(St0 x.1)) (fun x=>by kernel_rfl) fun x=>(top_eq fuel _ x.1).trans (by kernel_rfl)
end Go.Bx.basculeref_number
namespace Go.Bx.paper_Check_1
def Js : List Nat:=[]
def C : Ctx:=⟨[(3,T1),(4,.bool)],[],[],fnL [],noSh,[],invL [],[(2,[4])],[],[],0,0⟩
def St0 (a b : Int) : St:=stL 12 [(0,.data T1 a),(1,.data T1 b)] []
def St1 (a : Bool) : St:=stL 12 [(4,.data .bool a)] []
def top (Rt : Bool->Option α) (a b : Int) : Option α :=
 Rt (cond (decide (a >= 0)) (decide (a <= b)) false)
theorem top_eq (k : Nat) (Q : Ex->St->Option α) (a b : Int) :
  (den C k) (cB Tryz.f77) Q (St0 a b) = top (fun c=>Q .ret (St1 c)) a b:=plainly Js (by kernel_rfl)
def run (a b : Int) : Option (Bool):=top (α:=Bool) (fun c=>some c) a b
def F : Fn:=⟨T2,.bool,false,fun x=>run x.1 x.2.1⟩
theorem con : Con Tryz.prog 77 F /\ Named Tryz.prog 77 :=
 con_of2 (C:=C) (ctx_ok (by kernel_rfl) (by kernel_rfl) (by kernel_rfl) (by kernel_rfl) trivial) (by kernel_rfl) Tryz.func77 (by kernel_rfl) (c:=cB Tryz.f77) (by kernel_rfl) (by kernel_rfl) F (fun x=>by simp [F,spread,Tryz.ntmps77]) (fun x=>(St0 x.1 x.2.1)) (fun x=>by kernel_rfl) fun x=>(top_eq fuel _ x.1 x.2.1).trans (by kernel_rfl)
end Go.Bx.paper_Check_1
namespace Go.Bx.paper_Check
def Js : List Nat:=[]
def C : Ctx:=⟨[(3,T1),(29,T3),(37,T4),(38,T1)],[],[],fnL [(77,paper_Check_1.F)],noSh,[],invL [],[(2,[2])],[],[],0,0⟩
def St0 (a : D0) : St:=stL 41 [(0,.data T4 a)] []
def St1 (a : Int) : St:=stL 41 [(2,.data T1 a)] []
def top (Rt : Int->Option α) (a : D0) : Option α :=
 (paper_Check_1.run a.1 1099511627776).bind fun b =>
 (if ((not b) == false) = true then paper_Check_1.run a.2.1 4294967295 else some false).bind fun c =>
 (if ((cond (not b) true (not c)) == false) = true then paper_Check_1.run a.2.2.1 65535 else some false).bind fun d =>
 (if ((cond (cond (not b) true (not c)) true (not d)) == false) = true then paper_Check_1.run a.2.2.2.2.1 1099511627776 else some false).bind fun e =>
 (if ((cond (cond (cond (not b) true (not c)) true (not d)) true (not e)) == false) = true then paper_Check_1.run a.2.2.2.2.2.1 255 else some false).bind fun f =>
 if (cond (cond (cond (cond (not b) true (not c)) true (not d)) true (not e)) true (not f)) = true then
  Rt 6
 else
  if (decide ((a.2.2.2.2.2.2.1.length : Int) > 300)) = true then
   Rt 1
  else
   Rt 0
theorem top_eq (k : Nat) (Q : Ex->St->Option α) (a : D0) :
  (den C k) (cB Tryz.f55) Q (St0 a) = top (fun b=>Q .ret (St1 b)) a:=plainly Js (by kernel_rfl)
def run (a : D0) : Option (Int):=top (α:=Int) (fun b=>some b) a
def F : Fn:=⟨T5,T1,false,fun x=>run x.1⟩
theorem con : Con Tryz.prog 55 F /\ Named Tryz.prog 55 :=
 con_of2 (C:=C) (ctx_ok (by kernel_rfl) (by kernel_rfl) (by kernel_rfl) (by kernel_rfl) ⟨.inl paper_Check_1.con,trivial⟩) (by kernel_rfl) Tryz.func55 (by kernel_rfl) (c:=cB Tryz.f55) (by kernel_rfl) (by kernel_rfl) F (fun x=>by simp [F,spread,Tryz.ntmps55]) (fun x=>(St0 x.1)) (fun x=>by kernel_rfl) fun x=>(top_eq fuel _ x.1).trans (by kernel_rfl)
end Go.Bx.paper_Check
namespace Go.Bx.basculeref_upTo
def Js : List Nat:=[]
def C : Ctx:=⟨[(3,T1),(4,.bool)],[],[],fnL [],noSh,[],invL [],[(2,[4])],[],[],0,0⟩
def St0 (a b : Int) : St:=stL 12 [(0,.data T1 a),(1,.data T1 b)] []
def St1 (a : Bool) : St:=stL 12 [(4,.data .bool a)] []
def top (Rt : Bool->Option α) (a b : Int) : Option α :=
 Rt (cond (decide (0 <= a)) (decide (a <= b)) false)
theorem top_eq (k : Nat) (Q : Ex->St->Option α) (a b : Int) :
  (den C k) (cB Tryz.f64) Q (St0 a b) = top (fun c=>Q .ret (St1 c)) a b:=plainly Js (by kernel_rfl)
def run (a b : Int) : Option (Bool):=top (α:=Bool) (fun c=>some c) a b
def F : Fn:=⟨T2,.bool,false,fun x=>run x.1 x.2.1⟩
theorem con : Con Tryz.prog 64 F /\ Named Tryz.prog 64 :=
 con_of2 (C:=C) (ctx_ok (by kernel_rfl) (by kernel_rfl) (by kernel_rfl) (by kernel_rfl) trivial) (by kernel_rfl) Tryz.func64 (by kernel_rfl) (c:=cB Tryz.f64) (by kernel_rfl) (by kernel_rfl) F (fun x=>by simp [F,spread,Tryz.ntmps64]) (fun x=>(St0 x.1 x.2.1)) (fun x=>by kernel_rfl) fun x=>(top_eq fuel _ x.1 x.2.1).trans (by kernel_rfl)
end Go.Bx.basculeref_upTo
namespace Go.Bx.basculeref_BodyFault
def Js : List Nat:=[8]
def C : Ctx:=⟨[(3,T1),(29,T3),(37,T4),(38,T1),(108,T91),(109,T92)],[],[],fnL [(64,basculeref_upTo.F)],noSh,[],invL [],[(2,[2]),(1,[1]),(4,[1,20,21,22]),(6,[1,20,21,22]),(21,[1])],[],[],0,0⟩
def St0 (a : D0) : St:=stL 37 [(0,.data T4 a)] []
def St1 (a : D16) (b c : Int) (d : D0) : St:=stL 37 [(1,.ref 1 0 []),(20,.full T91 a),(21,.data T1 b),(22,.data T1 c)] [(1,.cell T4 (.data T4 d) false)]
noncomputable def cd0 : Code:=cL (cL (cR (cL (cR (cB Tryz.f33)))))
def St2 (a : Int) : St:=stL 37 [(2,.data T1 a)] []
def St3 (a : D0) : St:=stL 37 [(1,.ref 1 0 [])] [(1,.cell T4 (.data T4 a) false)]
def l0s (Nx : D16->Int->Int->D0->Option α) (Rt : Int->Option α) (Xt0 : D0->Option α) (b : D16) (c a : Int) (d : D0) : Option α :=
 if (decide (a < c)) = true then
  if 0 <= a /\ a < (b.length : Int) then
   (basculeref_upTo.run (List.getD (List.getD b (Int.toNat a) [0,0]) 0 0) (List.getD (List.getD b (Int.toNat a) [0,0]) 1 0)).bind fun e =>
   if (not e) = true then
    Rt 6
   else
    Nx b c (IntKind.i64.wrap (a + 1)) d
  else none
 else
  Xt0 d
theorem l0s_eq (k : Nat) (next : St->Option α) (Q : Ex->St->Option α) (b : D16) (c d : Int) (a : D0) :
  rnd C k cd0 6 Q next (St1 b c d a) = l0s (fun b c d a=>next (St1 b c d a)) (fun e=>Q .ret (St2 e)) (fun a=>Q (.exit 0) (St3 a)) b c d a:=plainly Js (by kernel_rfl)
def l0 (k : Nat) (Rt : Int->Option α) (Xt0 : D0->Option α) : Nat->D16->Int->Int->D0->Option α
 | 0,_,_,_,_=>none
 | n + 1,a,b,c,d=>l0s (l0 k Rt Xt0 n) Rt Xt0 a b c d
theorem l0_eq (k : Nat) (Q : Ex->St->Option α) : ∀ (n : Nat) (b : D16) (c d : Int) (a : D0),iter (rnd C k cd0 6 Q) n (St1 b c d a) = l0 k (fun e=>Q .ret (St2 e)) (fun a=>Q (.exit 0) (St3 a)) n b c d a
 | 0,_,_,_,_=>rfl
 | n + 1,b,c,d,a=>(iter_succ _ _ _).trans ((l0s_eq k _ Q b c d a).trans (congrArg (fun N=>l0s N (fun e=>Q .ret (St2 e)) (fun a=>Q (.exit 0) (St3 a)) b c d a) (by funext; exact l0_eq k Q n _ _ _ _)))
theorem l0_congr (k : Nat) (Rt : Int->Option α) (Xt0 : D0->Option α) (Rtq : Int->Option α) (Xt0q : D0->Option α) (hRt : ∀ (b : Int),Rt b = Rtq b) (hXt0 : ∀ (a : D0),Xt0 a = Xt0q a) (n : Nat) (c : D16) (d e : Int) (a : D0) : l0 k Rt Xt0 n c d e a = l0 k Rtq Xt0q n c d e a:=by
 obtain rfl : Rt = Rtq:=by funext b; exact hRt b
 obtain rfl : Xt0 = Xt0q:=by funext a; exact hXt0 a
 rfl
noncomputable def cd1 : Code:=cR (cR (cB Tryz.f33))
def St4 (a : D0) : St:=stL 37 [(1,.ref 1 0 [])] [(1,.cell T4 (.data T4 a) false)]
def j0 (Rt : Int->Option α) (a : D0) : Option α :=
 if (decide ((a.2.2.2.2.2.2.1.length : Int) > 300)) = true then
  Rt 1
 else
  Rt 0
theorem j0_eq (k : Nat) (Q : Ex->St->Option α) (a : D0) :
  (den C k) cd1 Q (St4 a) = j0 (fun b=>Q .ret (St2 b)) a:=plainly Js (by kernel_rfl)
theorem a0 (k : Nat) (Q : Ex->St->Option α) (d : D16) (e f : Int) (a : D0) :
  (lp C k) cd0 (blkQ C 0 (sq (den C k) (lp C k) Js C cd1 Q)) (St1 d e f a) = l0 k (fun c=>(fun c=>Q .ret (St2 c)) c) (fun a=>j0 (fun c=>Q .ret (St2 c)) a) k d e f a :=
 (lp_iter 6 (by kernel_rfl)).trans ((l0_eq k _ k d e f a).trans (l0_congr k _ _ _ _ (fun c=>(by kernel_rfl)) (fun a=>(Eq.trans (b:=(den C k) cd1 Q (St4 a)) (by kernel_rfl) (by simp only [j0_eq]))) k d e f a))
def top (k : Nat) (Rt : Int->Option α) (a : D0) : Option α :=
 l0 k (fun b=>Rt b) (fun c=>j0 Rt c) k [[a.1,1099511627776],[a.2.1,4294967295],[a.2.2.1,65535],[a.2.2.2.2.1,1099511627776],[a.2.2.2.2.2.1,255]] 5 0 a
theorem top_eq (k : Nat) (Q : Ex->St->Option α) (a : D0) :
  (den C k) (cB Tryz.f33) Q (St0 a) = top k (fun b=>Q .ret (St2 b)) a:=by
 have h : ∀ (D L : DT α),denJ D L Js C (cB Tryz.f33) Q (St0 a) =
    L cd0 (blkQ C 0 (sq D L Js C cd1 Q)) (St1 [[a.1,1099511627776],[a.2.1,4294967295],[a.2.2.1,65535],[a.2.2.2.2.1,1099511627776],[a.2.2.2.2.2.1,255]] 5 0 a):=by
  intro D L; kernel_rfl
 have h2:=via (k:=k) h
 refine h2.trans ?_
 simp only [a0]
 first | rfl | kernel_rfl
def run (a : D0) : Option (Int):=top (α:=Int) fuel (fun b=>some b) a
def F : Fn:=⟨T5,T1,false,fun x=>run x.1⟩
theorem con : Con Tryz.prog 33 F /\ Named Tryz.prog 33 :=
 con_of2 (C:=C) (ctx_ok (by kernel_rfl) (by kernel_rfl) (by kernel_rfl) (by kernel_rfl) ⟨.inl basculeref_upTo.con,trivial⟩) (by kernel_rfl) Tryz.func33 (by kernel_rfl) (c:=cB Tryz.f33) (by kernel_rfl) (by kernel_rfl) F (fun x=>by simp [F,spread,Tryz.ntmps33]) (fun x=>(St0 x.1)) (fun x=>by kernel_rfl) fun x=>(top_eq fuel _ x.1).trans (by kernel_rfl)
end Go.Bx.basculeref_BodyFault
namespace Go.Bx.paper_fault
def Js : List Nat:=[12]
def C : Ctx:=⟨[(3,T1),(37,T4),(38,T1),(69,T69),(71,T70),(101,T71),(103,T72)],[],[],fnL [(55,paper_Check.F)],noSh,[],invL [],[(2,[2]),(1,[1]),(4,[1,18,19,20]),(18,[1,18,19,20]),(33,[1])],[],[],0,0⟩
def St0 (a : D35) : St:=stL 48 [(0,.data T70 a)] []
def St1 (a : Int) : St:=stL 48 [(2,.data T1 a)] []
def St2 (a : D36) (b c : Int) (d : D35) : St:=stL 48 [(1,.ref 1 0 []),(18,.data T69 a),(19,.data T1 b),(20,.data T1 c)] [(1,.cell T70 (.data T70 d) false)]
noncomputable def cd0 : Code:=cL (cL (cR (cL (cR (cR (cR (cB Tryz.f63)))))))
def St3 (a : D35) : St:=stL 48 [(1,.ref 1 0 [])] [(1,.cell T70 (.data T70 a) false)]
def l0s (Nx : D36->Int->Int->D35->Option α) (Rt : Int->Option α) (Xt0 : D35->Option α) (b : D36) (c a : Int) (d : D35) : Option α :=
 if (decide (a < c)) = true then
  if 0 <= a /\ a < (b.length : Int) then
   if (cond (cond (cond (decide ((List.getD b (Int.toNat a) (0,([0,0,0,0],[0,0,0,0],0,()),())).1 < 0)) true (decide ((List.getD b (Int.toNat a) (0,([0,0,0,0],[0,0,0,0],0,()),())).1 > 255))) true (decide ((List.getD b (Int.toNat a) (0,([0,0,0,0],[0,0,0,0],0,()),())).2.1.2.2.1 < 0))) true (decide ((List.getD b (Int.toNat a) (0,([0,0,0,0],[0,0,0,0],0,()),())).2.1.2.2.1 > 255))) = true then
    Rt 6
   else
    Nx b c (IntKind.i64.wrap (a + 1)) d
  else none
 else
  Xt0 d
theorem l0s_eq (k : Nat) (next : St->Option α) (Q : Ex->St->Option α) (b : D36) (c d : Int) (a : D35) :
  rnd C k cd0 18 Q next (St2 b c d a) = l0s (fun b c d a=>next (St2 b c d a)) (fun e=>Q .ret (St1 e)) (fun a=>Q (.exit 0) (St3 a)) b c d a:=plainly Js (by kernel_rfl)
def l0 (k : Nat) (Rt : Int->Option α) (Xt0 : D35->Option α) : Nat->D36->Int->Int->D35->Option α
 | 0,_,_,_,_=>none
 | n + 1,a,b,c,d=>l0s (l0 k Rt Xt0 n) Rt Xt0 a b c d
theorem l0_eq (k : Nat) (Q : Ex->St->Option α) : ∀ (n : Nat) (b : D36) (c d : Int) (a : D35),iter (rnd C k cd0 18 Q) n (St2 b c d a) = l0 k (fun e=>Q .ret (St1 e)) (fun a=>Q (.exit 0) (St3 a)) n b c d a
 | 0,_,_,_,_=>rfl
 | n + 1,b,c,d,a=>(iter_succ _ _ _).trans ((l0s_eq k _ Q b c d a).trans (congrArg (fun N=>l0s N (fun e=>Q .ret (St1 e)) (fun a=>Q (.exit 0) (St3 a)) b c d a) (by funext; exact l0_eq k Q n _ _ _ _)))
theorem l0_congr (k : Nat) (Rt : Int->Option α) (Xt0 : D35->Option α) (Rtq : Int->Option α) (Xt0q : D35->Option α) (hRt : ∀ (b : Int),Rt b = Rtq b) (hXt0 : ∀ (a : D35),Xt0 a = Xt0q a) (n : Nat) (c : D36) (d e : Int) (a : D35) : l0 k Rt Xt0 n c d e a = l0 k Rtq Xt0q n c d e a:=by
 obtain rfl : Rt = Rtq:=by funext b; exact hRt b
 obtain rfl : Xt0 = Xt0q:=by funext a; exact hXt0 a
 rfl
noncomputable def cd1 : Code:=cR (cR (cR (cR (cB Tryz.f63))))
def St4 (a : D35) : St:=stL 48 [(1,.ref 1 0 [])] [(1,.cell T70 (.data T70 a) false)]
def j0 (Rt : Int->Option α) (a : D35) : Option α :=
 (paper_Check.run a.2.2.1).bind fun b =>
 Rt b
theorem j0_eq (k : Nat) (Q : Ex->St->Option α) (a : D35) :
  (den C k) cd1 Q (St4 a) = j0 (fun b=>Q .ret (St1 b)) a:=plainly Js (by kernel_rfl)
theorem a0 (k : Nat) (Q : Ex->St->Option α) (d : D36) (e f : Int) (a : D35) :
  (lp C k) cd0 (blkQ C 0 (sq (den C k) (lp C k) Js C cd1 Q)) (St2 d e f a) = l0 k (fun c=>(fun c=>Q .ret (St1 c)) c) (fun a=>j0 (fun c=>Q .ret (St1 c)) a) k d e f a :=
 (lp_iter 18 (by kernel_rfl)).trans ((l0_eq k _ k d e f a).trans (l0_congr k _ _ _ _ (fun c=>(by kernel_rfl)) (fun a=>(Eq.trans (b:=(den C k) cd1 Q (St4 a)) (by kernel_rfl) (by simp only [j0_eq]))) k d e f a))
def top (k : Nat) (Rt : Int->Option α) (a : D35) : Option α :=
 if (cond (decide (a.1 < 0)) true (decide (a.1 > 4294967295))) = true then
  Rt 6
 else
  if (decide ((a.2.1.length : Int) > 19)) = true then
   Rt 1
  else
   l0 k (fun b=>Rt b) (fun c=>j0 Rt c) k a.2.1 (a.2.1.length : Int) 0 a
theorem top_eq (k : Nat) (Q : Ex->St->Option α) (a : D35) :
  (den C k) (cB Tryz.f63) Q (St0 a) = top k (fun b=>Q .ret (St1 b)) a:=by
 have h : ∀ (D L : DT α),denJ D L Js C (cB Tryz.f63) Q (St0 a) =
    if (cond (decide (a.1 < 0)) true (decide (a.1 > 4294967295))) = true then
     Q .ret (St1 6)
    else
     if (decide ((a.2.1.length : Int) > 19)) = true then
      Q .ret (St1 1)
     else
      L cd0 (blkQ C 0 (sq D L Js C cd1 Q)) (St2 a.2.1 (a.2.1.length : Int) 0 a):=by
  intro D L; kernel_rfl
 have h2:=via (k:=k) h
 refine h2.trans ?_
 simp only [a0]
 first | rfl | kernel_rfl
def run (a : D35) : Option (Int):=top (α:=Int) fuel (fun b=>some b) a
def F : Fn:=⟨T73,T1,false,fun x=>run x.1⟩
theorem con : Con Tryz.prog 63 F /\ Named Tryz.prog 63 :=
 con_of2 (C:=C) (ctx_ok (by kernel_rfl) (by kernel_rfl) (by kernel_rfl) (by kernel_rfl) ⟨.inl paper_Check.con,trivial⟩) (by kernel_rfl) Tryz.func63 (by kernel_rfl) (c:=cB Tryz.f63) (by kernel_rfl) (by kernel_rfl) F (fun x=>by simp [F,spread,Tryz.ntmps63]) (fun x=>(St0 x.1)) (fun x=>by kernel_rfl) fun x=>(top_eq fuel _ x.1).trans (by kernel_rfl)
end Go.Bx.paper_fault
namespace Go.Bx.basculeref_PaperFault
def Js : List Nat:=[12]
def C : Ctx:=⟨[(3,T1),(37,T4),(38,T1),(69,T69),(71,T70),(101,T71),(103,T72)],[],[],fnL [(33,basculeref_BodyFault.F),(64,basculeref_upTo.F)],noSh,[],invL [],[(2,[2]),(1,[1]),(4,[1,14,15,16]),(18,[1,14,15,16]),(33,[1])],[],[],0,0⟩
def St0 (a : D35) : St:=stL 35 [(0,.data T70 a)] []
def St1 (a : Int) : St:=stL 35 [(2,.data T1 a)] []
def St2 (a : D36) (b c : Int) (d : D35) : St:=stL 35 [(1,.ref 1 0 []),(14,.data T69 a),(15,.data T1 b),(16,.data T1 c)] [(1,.cell T70 (.data T70 d) false)]
noncomputable def cd0 : Code:=cL (cL (cR (cL (cR (cR (cR (cB Tryz.f71)))))))
def St3 (a : D35) : St:=stL 35 [(1,.ref 1 0 [])] [(1,.cell T70 (.data T70 a) false)]
def l0s (Nx : D36->Int->Int->D35->Option α) (Rt : Int->Option α) (Xt0 : D35->Option α) (b : D36) (c a : Int) (d : D35) : Option α :=
 if (decide (a < c)) = true then
  if 0 <= a /\ a < (b.length : Int) then
   (basculeref_upTo.run (List.getD b (Int.toNat a) (0,([0,0,0,0],[0,0,0,0],0,()),())).1 255).bind fun e =>
   (if ((not e) == false) = true then basculeref_upTo.run (List.getD b (Int.toNat a) (0,([0,0,0,0],[0,0,0,0],0,()),())).2.1.2.2.1 255 else some false).bind fun f =>
   if (cond (not e) true (not f)) = true then
    Rt 6
   else
    Nx b c (IntKind.i64.wrap (a + 1)) d
  else none
 else
  Xt0 d
theorem l0s_eq (k : Nat) (next : St->Option α) (Q : Ex->St->Option α) (b : D36) (c d : Int) (a : D35) :
  rnd C k cd0 18 Q next (St2 b c d a) = l0s (fun b c d a=>next (St2 b c d a)) (fun e=>Q .ret (St1 e)) (fun a=>Q (.exit 0) (St3 a)) b c d a:=plainly Js (by kernel_rfl)
def l0 (k : Nat) (Rt : Int->Option α) (Xt0 : D35->Option α) : Nat->D36->Int->Int->D35->Option α
 | 0,_,_,_,_=>none
 | n + 1,a,b,c,d=>l0s (l0 k Rt Xt0 n) Rt Xt0 a b c d
theorem l0_eq (k : Nat) (Q : Ex->St->Option α) : ∀ (n : Nat) (b : D36) (c d : Int) (a : D35),iter (rnd C k cd0 18 Q) n (St2 b c d a) = l0 k (fun e=>Q .ret (St1 e)) (fun a=>Q (.exit 0) (St3 a)) n b c d a
 | 0,_,_,_,_=>rfl
 | n + 1,b,c,d,a=>(iter_succ _ _ _).trans ((l0s_eq k _ Q b c d a).trans (congrArg (fun N=>l0s N (fun e=>Q .ret (St1 e)) (fun a=>Q (.exit 0) (St3 a)) b c d a) (by funext; exact l0_eq k Q n _ _ _ _)))
theorem l0_congr (k : Nat) (Rt : Int->Option α) (Xt0 : D35->Option α) (Rtq : Int->Option α) (Xt0q : D35->Option α) (hRt : ∀ (b : Int),Rt b = Rtq b) (hXt0 : ∀ (a : D35),Xt0 a = Xt0q a) (n : Nat) (c : D36) (d e : Int) (a : D35) : l0 k Rt Xt0 n c d e a = l0 k Rtq Xt0q n c d e a:=by
 obtain rfl : Rt = Rtq:=by funext b; exact hRt b
 obtain rfl : Xt0 = Xt0q:=by funext a; exact hXt0 a
 rfl
noncomputable def cd1 : Code:=cR (cR (cR (cR (cB Tryz.f71))))
def St4 (a : D35) : St:=stL 35 [(1,.ref 1 0 [])] [(1,.cell T70 (.data T70 a) false)]
def j0 (Rt : Int->Option α) (a : D35) : Option α :=
 (basculeref_BodyFault.run a.2.2.1).bind fun b =>
 Rt b
theorem j0_eq (k : Nat) (Q : Ex->St->Option α) (a : D35) :
  (den C k) cd1 Q (St4 a) = j0 (fun b=>Q .ret (St1 b)) a:=plainly Js (by kernel_rfl)
theorem a0 (k : Nat) (Q : Ex->St->Option α) (d : D36) (e f : Int) (a : D35) :
  (lp C k) cd0 (blkQ C 0 (sq (den C k) (lp C k) Js C cd1 Q)) (St2 d e f a) = l0 k (fun c=>(fun c=>Q .ret (St1 c)) c) (fun a=>j0 (fun c=>Q .ret (St1 c)) a) k d e f a :=
 (lp_iter 18 (by kernel_rfl)).trans ((l0_eq k _ k d e f a).trans (l0_congr k _ _ _ _ (fun c=>(by kernel_rfl)) (fun a=>(Eq.trans (b:=(den C k) cd1 Q (St4 a)) (by kernel_rfl) (by simp only [j0_eq]))) k d e f a))
def top (k : Nat) (Rt : Int->Option α) (a : D35) : Option α :=
 (basculeref_upTo.run a.1 4294967295).bind fun b =>
 if (not b) = true then
  Rt 6
 else
  if (decide ((a.2.1.length : Int) > 19)) = true then
   Rt 1
  else
   l0 k (fun c=>Rt c) (fun d=>j0 Rt d) k a.2.1 (a.2.1.length : Int) 0 a
theorem top_eq (k : Nat) (Q : Ex->St->Option α) (a : D35) :
  (den C k) (cB Tryz.f71) Q (St0 a) = top k (fun b=>Q .ret (St1 b)) a:=by
 have h : ∀ (D L : DT α),denJ D L Js C (cB Tryz.f71) Q (St0 a) =
    (basculeref_upTo.run a.1 4294967295).bind fun c =>
    if (not c) = true then
     Q .ret (St1 6)
    else
     if (decide ((a.2.1.length : Int) > 19)) = true then
      Q .ret (St1 1)
     else
      L cd0 (blkQ C 0 (sq D L Js C cd1 Q)) (St2 a.2.1 (a.2.1.length : Int) 0 a):=by
  intro D L; kernel_rfl
 have h2:=via (k:=k) h
 refine h2.trans ?_
 simp only [a0]
 first | rfl | kernel_rfl
def run (a : D35) : Option (Int):=top (α:=Int) fuel (fun b=>some b) a
def F : Fn:=⟨T73,T1,false,fun x=>run x.1⟩
theorem con : Con Tryz.prog 71 F /\ Named Tryz.prog 71 :=
 con_of2 (C:=C) (ctx_ok (by kernel_rfl) (by kernel_rfl) (by kernel_rfl) (by kernel_rfl) ⟨.inl basculeref_BodyFault.con,⟨.inl basculeref_upTo.con,trivial⟩⟩) (by kernel_rfl) Tryz.func71 (by kernel_rfl) (c:=cB Tryz.f71) (by kernel_rfl) (by kernel_rfl) F (fun x=>by simp [F,spread,Tryz.ntmps71]) (fun x=>(St0 x.1)) (fun x=>by kernel_rfl) fun x=>(top_eq fuel _ x.1).trans (by kernel_rfl)
end Go.Bx.basculeref_PaperFault
namespace Go.Bx.wide_From
def Js : List Nat:=[9]
def C : Ctx:=⟨[(5,T6),(22,T37),(24,T30),(35,T12)],[],[],fnL [],noSh,[],invL [],[(2,[2]),(1,[2,3]),(4,[2,3,7,8]),(9,[2,3,7,8]),(24,[2,3])],[],[],0,0⟩
def St0 (a : D1) : St:=stL 28 [(0,.data T12 a)] []
def St1 (a : D1) (b : Int) (c d : D1) : St:=stL 28 [(2,.ref 2 0 []),(3,.ref 3 0 []),(7,.data T12 a),(8,.data T1 b)] [(2,.cell T30 (.data T30 c) false),(3,.cell T30 (.data T30 d) false)]
noncomputable def cd0 : Code:=cL (cL (cR (cL (cR (cR (cB Tryz.f60))))))
def St2 (a b : D1) : St:=stL 28 [(2,.ref 2 0 []),(3,.ref 3 0 [])] [(2,.cell T30 (.data T30 a) false),(3,.cell T30 (.data T30 b) false)]
def l0s (Nx : D1->Int->D1->D1->Option α) (Xt0 : D1->D1->Option α) (c : D1) (a : Int) (d b : D1) : Option α :=
 if (decide (a < 32)) = true then
  if 0 <= a /\ a < (32 : Int) then
   if 0 <= (IntKind.i64.wrap (Int.tdiv (IntKind.i64.wrap (31 - a)) 8)) /\ (IntKind.i64.wrap (Int.tdiv (IntKind.i64.wrap (31 - a)) 8)) < (4 : Int) then
    if 0 <= (IntKind.i64.wrap (8 * (Int.tmod (IntKind.i64.wrap (31 - a)) 8))) then
     if 0 <= (IntKind.i64.wrap (Int.tdiv (IntKind.i64.wrap (31 - a)) 8)) /\ (IntKind.i64.wrap (Int.tdiv (IntKind.i64.wrap (31 - a)) 8)) < (4 : Int) then
      Nx c (IntKind.i64.wrap (a + 1)) d (List.set b (Int.toNat (IntKind.i64.wrap (Int.tdiv (IntKind.i64.wrap (31 - a)) 8))) (bor .u64 (List.getD b (Int.toNat (IntKind.i64.wrap (Int.tdiv (IntKind.i64.wrap (31 - a)) 8))) 0) (shlI .u64 (IntKind.u64.wrap (List.getD c (Int.toNat a) 0)) (IntKind.i64.wrap (8 * (Int.tmod (IntKind.i64.wrap (31 - a)) 8))))))
     else none
    else none
   else none
  else none
 else
  Xt0 d b
theorem l0s_eq (k : Nat) (next : St->Option α) (Q : Ex->St->Option α) (c : D1) (d : Int) (a b : D1) :
  rnd C k cd0 9 Q next (St1 c d a b) = l0s (fun c d a b=>next (St1 c d a b)) (fun a b=>Q (.exit 0) (St2 a b)) c d a b:=plainly Js (by kernel_rfl)
def l0 (k : Nat) (Xt0 : D1->D1->Option α) : Nat->D1->Int->D1->D1->Option α
 | 0,_,_,_,_=>none
 | n + 1,a,b,c,d=>l0s (l0 k Xt0 n) Xt0 a b c d
theorem l0_eq (k : Nat) (Q : Ex->St->Option α) : ∀ (n : Nat) (c : D1) (d : Int) (a b : D1),iter (rnd C k cd0 9 Q) n (St1 c d a b) = l0 k (fun a b=>Q (.exit 0) (St2 a b)) n c d a b
 | 0,_,_,_,_=>rfl
 | n + 1,c,d,a,b=>(iter_succ _ _ _).trans ((l0s_eq k _ Q c d a b).trans (congrArg (fun N=>l0s N (fun a b=>Q (.exit 0) (St2 a b)) c d a b) (by funext; exact l0_eq k Q n _ _ _ _)))
noncomputable def cd1 : Code:=cR (cR (cR (cB Tryz.f60)))
def St3 (a b : D1) : St:=stL 28 [(2,.ref 2 0 []),(3,.ref 3 0 [])] [(2,.cell T30 (.data T30 a) false),(3,.cell T30 (.data T30 b) false)]
def St4 (a : D1) : St:=stL 28 [(2,.ref 2 0 [])] [(2,.cell T30 (.data T30 a) false)]
def j0 (Rt : D1->Option α) (b a : D1) : Option α :=
 Rt a
theorem j0_eq (k : Nat) (Q : Ex->St->Option α) (a b : D1) :
  (den C k) cd1 Q (St3 a b) = j0 (fun a=>Q .ret (St4 a)) a b:=plainly Js (by kernel_rfl)
theorem a0 (k : Nat) (Q : Ex->St->Option α) (d : D1) (e : Int) (a c : D1) :
  (lp C k) cd0 (blkQ C 0 (sq (den C k) (lp C k) Js C cd1 Q)) (St1 d e a c) = l0 k (fun a c=>j0 (fun a=>Q .ret (St4 a)) a c) k d e a c :=
 (lp_iter 9 (by kernel_rfl)).trans ((l0_eq k _ k d e a c).trans (congrArg (fun X=>l0 k X k d e a c) (funext fun a=>funext fun c=>(Eq.trans (b:=(den C k) cd1 Q (St3 a c)) (by kernel_rfl) (by simp only [j0_eq])))))
def top (k : Nat) (Rt : D1->Option α) (a : D1) : Option α :=
 l0 k (fun b c=>j0 Rt b c) k a 0 [0,0,0,0] [0,0,0,0]
theorem top_eq (k : Nat) (Q : Ex->St->Option α) (a : D1) :
  (den C k) (cB Tryz.f60) Q (St0 a) = top k (fun b=>Q .ret (St4 b)) a:=by
 have h : ∀ (D L : DT α),denJ D L Js C (cB Tryz.f60) Q (St0 a) =
    L cd0 (blkQ C 0 (sq D L Js C cd1 Q)) (St1 a 0 [0,0,0,0] [0,0,0,0]):=by
  intro D L; kernel_rfl
 have h2:=via (k:=k) h
 refine h2.trans ?_
 simp only [a0]
 first | rfl | kernel_rfl
def run (a : D1) : Option D1:=top (α:=List Int) fuel (fun b=>some b) a
def F : Fn:=⟨T43,T30,false,fun x=>run x.1⟩
theorem con : Con Tryz.prog 60 F /\ Named Tryz.prog 60 :=
 con_of2 (C:=C) (ctx_ok (by kernel_rfl) (by kernel_rfl) (by kernel_rfl) (by kernel_rfl) trivial) (by kernel_rfl) Tryz.func60 (by kernel_rfl) (c:=cB Tryz.f60) (by kernel_rfl) (by kernel_rfl) F (fun x=>by simp [F,spread,Tryz.ntmps60]) (fun x=>(St0 x.1)) (fun x=>by kernel_rfl) fun x=>(top_eq fuel _ x.1).trans (by kernel_rfl)
end Go.Bx.wide_From
namespace Go.Bx.basculeref_FromBytes
def Js : List Nat:=[8]
def C : Ctx:=⟨[(5,T6),(22,T37),(24,T30),(35,T12)],[],[],fnL [],noSh,[],invL [],[(2,[2]),(1,[2,3]),(4,[2,3,6,7]),(9,[2,3,6,7]),(21,[2,3])],[],[],0,0⟩
def St0 (a : D1) : St:=stL 26 [(0,.data T12 a)] []
def St1 (a : D1) (b : Int) (c d : D1) : St:=stL 26 [(2,.ref 2 0 []),(3,.ref 3 0 []),(6,.data T12 a),(7,.data T1 b)] [(2,.cell T30 (.data T30 c) false),(3,.cell T30 (.data T30 d) false)]
noncomputable def cd0 : Code:=cL (cL (cR (cL (cR (cR (cB Tryz.f84))))))
def St2 (a b : D1) : St:=stL 26 [(2,.ref 2 0 []),(3,.ref 3 0 [])] [(2,.cell T30 (.data T30 a) false),(3,.cell T30 (.data T30 b) false)]
def l0s (Nx : D1->Int->D1->D1->Option α) (Xt0 : D1->D1->Option α) (c : D1) (a : Int) (d b : D1) : Option α :=
 if (decide (a < 32)) = true then
  if 0 <= a /\ a < (32 : Int) then
   if 0 <= (IntKind.i64.wrap (3 - (IntKind.i64.wrap (Int.tdiv a 8)))) /\ (IntKind.i64.wrap (3 - (IntKind.i64.wrap (Int.tdiv a 8)))) < (4 : Int) then
    if 0 <= (IntKind.i64.wrap (3 - (IntKind.i64.wrap (Int.tdiv a 8)))) /\ (IntKind.i64.wrap (3 - (IntKind.i64.wrap (Int.tdiv a 8)))) < (4 : Int) then
     Nx c (IntKind.i64.wrap (a + 1)) d (List.set b (Int.toNat (IntKind.i64.wrap (3 - (IntKind.i64.wrap (Int.tdiv a 8))))) (IntKind.u64.wrap ((IntKind.u64.wrap ((List.getD b (Int.toNat (IntKind.i64.wrap (3 - (IntKind.i64.wrap (Int.tdiv a 8))))) 0) * 256)) + (IntKind.u64.wrap (List.getD c (Int.toNat a) 0)))))
    else none
   else none
  else none
 else
  Xt0 d b
theorem l0s_eq (k : Nat) (next : St->Option α) (Q : Ex->St->Option α) (c : D1) (d : Int) (a b : D1) :
  rnd C k cd0 9 Q next (St1 c d a b) = l0s (fun c d a b=>next (St1 c d a b)) (fun a b=>Q (.exit 0) (St2 a b)) c d a b:=plainly Js (by kernel_rfl)
def l0 (k : Nat) (Xt0 : D1->D1->Option α) : Nat->D1->Int->D1->D1->Option α
 | 0,_,_,_,_=>none
 | n + 1,a,b,c,d=>l0s (l0 k Xt0 n) Xt0 a b c d
theorem l0_eq (k : Nat) (Q : Ex->St->Option α) : ∀ (n : Nat) (c : D1) (d : Int) (a b : D1),iter (rnd C k cd0 9 Q) n (St1 c d a b) = l0 k (fun a b=>Q (.exit 0) (St2 a b)) n c d a b
 | 0,_,_,_,_=>rfl
 | n + 1,c,d,a,b=>(iter_succ _ _ _).trans ((l0s_eq k _ Q c d a b).trans (congrArg (fun N=>l0s N (fun a b=>Q (.exit 0) (St2 a b)) c d a b) (by funext; exact l0_eq k Q n _ _ _ _)))
noncomputable def cd1 : Code:=cR (cR (cR (cB Tryz.f84)))
def St3 (a b : D1) : St:=stL 26 [(2,.ref 2 0 []),(3,.ref 3 0 [])] [(2,.cell T30 (.data T30 a) false),(3,.cell T30 (.data T30 b) false)]
def St4 (a : D1) : St:=stL 26 [(2,.ref 2 0 [])] [(2,.cell T30 (.data T30 a) false)]
def j0 (Rt : D1->Option α) (b a : D1) : Option α :=
 Rt a
theorem j0_eq (k : Nat) (Q : Ex->St->Option α) (a b : D1) :
  (den C k) cd1 Q (St3 a b) = j0 (fun a=>Q .ret (St4 a)) a b:=plainly Js (by kernel_rfl)
theorem a0 (k : Nat) (Q : Ex->St->Option α) (d : D1) (e : Int) (a c : D1) :
  (lp C k) cd0 (blkQ C 0 (sq (den C k) (lp C k) Js C cd1 Q)) (St1 d e a c) = l0 k (fun a c=>j0 (fun a=>Q .ret (St4 a)) a c) k d e a c :=
 (lp_iter 9 (by kernel_rfl)).trans ((l0_eq k _ k d e a c).trans (congrArg (fun X=>l0 k X k d e a c) (funext fun a=>funext fun c=>(Eq.trans (b:=(den C k) cd1 Q (St3 a c)) (by kernel_rfl) (by simp only [j0_eq])))))
def top (k : Nat) (Rt : D1->Option α) (a : D1) : Option α :=
 l0 k (fun b c=>j0 Rt b c) k a 0 [0,0,0,0] [0,0,0,0]
theorem top_eq (k : Nat) (Q : Ex->St->Option α) (a : D1) :
  (den C k) (cB Tryz.f84) Q (St0 a) = top k (fun b=>Q .ret (St4 b)) a:=by
 have h : ∀ (D L : DT α),denJ D L Js C (cB Tryz.f84) Q (St0 a) =
    L cd0 (blkQ C 0 (sq D L Js C cd1 Q)) (St1 a 0 [0,0,0,0] [0,0,0,0]):=by
  intro D L; kernel_rfl
 have h2:=via (k:=k) h
 refine h2.trans ?_
 simp only [a0]
 first | rfl | kernel_rfl
def run (a : D1) : Option D1:=top (α:=List Int) fuel (fun b=>some b) a
def F : Fn:=⟨T43,T30,false,fun x=>run x.1⟩
theorem con : Con Tryz.prog 84 F /\ Named Tryz.prog 84 :=
 con_of2 (C:=C) (ctx_ok (by kernel_rfl) (by kernel_rfl) (by kernel_rfl) (by kernel_rfl) trivial) (by kernel_rfl) Tryz.func84 (by kernel_rfl) (c:=cB Tryz.f84) (by kernel_rfl) (by kernel_rfl) F (fun x=>by simp [F,spread,Tryz.ntmps84]) (fun x=>(St0 x.1)) (fun x=>by kernel_rfl) fun x=>(top_eq fuel _ x.1).trans (by kernel_rfl)
end Go.Bx.basculeref_FromBytes
namespace Go.Bx.basculeref_wideOf
def Js : List Nat:=[]
def C : Ctx:=⟨[(9,.str),(24,T30)],[],[],fnL [(70,basculeref_word.F),(84,basculeref_FromBytes.F)],noSh,[],invL [],[(2,[2])],[],[],0,0⟩
def St0 (a : D1) : St:=stL 6 [(0,.data .str a)] []
def St1 (a : D1) : St:=stL 6 [(2,.ref 2 0 [])] [(2,.cell T30 (.data T30 a) false)]
def top (Rt : D1->Option α) (a : D1) : Option α :=
 (basculeref_word.run a).bind fun b =>
 (basculeref_FromBytes.run b).bind fun c =>
 Rt c
theorem top_eq (k : Nat) (Q : Ex->St->Option α) (a : D1) :
  (den C k) (cB Tryz.f69) Q (St0 a) = top (fun b=>Q .ret (St1 b)) a:=plainly Js (by kernel_rfl)
def run (a : D1) : Option D1:=top (α:=List Int) (fun b=>some b) a
def F : Fn:=⟨T94,T30,false,fun x=>run x.1⟩
theorem con : Con Tryz.prog 69 F /\ Named Tryz.prog 69 :=
 con_of2 (C:=C) (ctx_ok (by kernel_rfl) (by kernel_rfl) (by kernel_rfl) (by kernel_rfl) ⟨.inl basculeref_word.con,⟨.inl basculeref_FromBytes.con,trivial⟩⟩) (by kernel_rfl) Tryz.func69 (by kernel_rfl) (c:=cB Tryz.f69) (by kernel_rfl) (by kernel_rfl) F (fun x=>by simp [F,spread,Tryz.ntmps69]) (fun x=>(St0 x.1)) (fun x=>by kernel_rfl) fun x=>(top_eq fuel _ x.1).trans (by kernel_rfl)
end Go.Bx.basculeref_wideOf
namespace Go.Bx.paper_eye__take_s1
def Js : List Nat:=[]
def C : Ctx:=⟨[(4,.bool),(29,T3),(98,T74)],[],[],fnL [],noSh,[],invL [],[(2,[4])],[(2,[.dat true 4 [],.dat false 0 []])],[],1,0⟩
def St0 (a : Int) (b : D37) : St:=stL 38 [(0,.ref 0 0 []),(1,.data T1 a)] [(0,.cell T74 (.data T74 b) false)]
def St1 (a : D1) (b : D37) : St:=stL 38 [(4,.data T3 a)] [(0,.cell T74 (.data T74 b) false)]
def top (Rt : D1->D37->Option α) (a : Int) (b : D37) : Option α :=
 if (decide ((b.1.length : Int) < a)) = true then
  if 0 <= a /\ id a = a /\ fitB a.toNat 1 = true then
   Rt (List.replicate (Int.toNat a) 0) ([],false,())
  else none
 else
  if 0 <= (0 : Int) /\ (0 : Int) <= a /\ a <= (b.1.length : Int) /\ a = a then
   if 0 <= a /\ a <= (b.1.length : Int) /\ (b.1.length : Int) <= (b.1.length : Int) then
    Rt (cutL b.1 0 a) ((cutL b.1 a (b.1.length : Int)),b.2)
   else none
  else none
theorem top_eq (k : Nat) (Q : Ex->St->Option α) (b : Int) (a : D37) :
  (den C k) (cB Tryz.f80) (endQ C Q) (St0 b a) = top (fun c a=>Q .ret (St1 c a)) b a:=plainly Js (by kernel_rfl)
def run (b : Int) (a : D37) : Option D38:=top (α:=List Int × D37 × Unit) (fun c a=>some (c,a,())) b a
def Sp : Spec:=⟨[.ref 0 0 [],hD T1],[(0,hC T74 (hD T74) false)],T75,hD T3,[(0,hC T74 (hD T74) false)],T76,fun x=>run x.1 x.2.1⟩
set_option maxRecDepth 100000 in
theorem sok : SOk Tryz.prog 80 Sp.h:=by
 refine sok_of_den (C:=C) (ctx_ok (by kernel_rfl) (by kernel_rfl) (by kernel_rfl) (by kernel_rfl) trivial) (by kernel_rfl) Tryz.func80 (c:=cB Tryz.f80) (by kernel_rfl) (by kernel_rfl) Sp fuel (by kernel_rfl) (by kernel_rfl) ?_
 intro x r h
 rw [<- h]
 have h1 : Sp.start x Tryz.f80.ntmps = (St0 x.1 x.2.1):=by kernel_rfl
 rw [h1]
 refine (top_eq fuel (finS C Tryz.f80.results.toList Sp.read) x.1 x.2.1).trans ?_
 kernel_rfl
theorem named : Named Tryz.prog 80:=named_of Tryz.func80 (by kernel_rfl) (by kernel_rfl)
end Go.Bx.paper_eye__take_s1
namespace Go.Bx.paper_eye__number_s1
def Js : List Nat:=[8]
def C : Ctx:=⟨[(3,T1),(5,T6),(29,T3)],[],[],fnL [],shL [(80,[.one paper_eye__take_s1.Sp])],[(10,24)],invL [],[(2,[4]),(1,[5]),(4,[5,10,11,12]),(9,[5,10,11,12]),(21,[5])],[],[],1,0⟩
def St0 (a : Int) (b : D37) : St:=stL 23 [(0,.ref 0 0 []),(1,.data T1 a)] [(0,.cell T74 (.data T74 b) false)]
def St1 (a : Int) (b : D1) (c d : Int) (e : D37) : St:=stL 23 [(5,.data T1 a),(10,.data T3 b),(11,.data T1 c),(12,.data T1 d)] [(0,.cell T74 (.data T74 e) false)]
noncomputable def cd0 : Code:=cL (cL (cR (cL (cR (cR (cB Tryz.f59))))))
def St2 (a : Int) (b : D37) : St:=stL 23 [(5,.data T1 a)] [(0,.cell T74 (.data T74 b) false)]
def l0s (Nx : Int->D1->Int->Int->D37->Option α) (Xt0 : Int->D37->Option α) (c : Int) (b : D1) (d a : Int) (e : D37) : Option α :=
 if (decide (a < d)) = true then
  if 0 <= a /\ a < (b.length : Int) then
   Nx (bor .i64 (shlI .i64 c 8) (IntKind.i64.wrap (List.getD b (Int.toNat a) 0))) b d (IntKind.i64.wrap (a + 1)) e
  else none
 else
  Xt0 c e
theorem l0s_eq (k : Nat) (next : St->Option α) (Q : Ex->St->Option α) (a : Int) (c : D1) (d e : Int) (b : D37) :
  rnd C k cd0 9 Q next (St1 a c d e b) = l0s (fun a c d e b=>next (St1 a c d e b)) (fun a b=>Q (.exit 0) (St2 a b)) a c d e b:=plainly Js (by kernel_rfl)
def l0 (k : Nat) (Xt0 : Int->D37->Option α) : Nat->Int->D1->Int->Int->D37->Option α
 | 0,_,_,_,_,_=>none
 | n + 1,a,b,c,d,e=>l0s (l0 k Xt0 n) Xt0 a b c d e
theorem l0_eq (k : Nat) (Q : Ex->St->Option α) : ∀ (n : Nat) (a : Int) (c : D1) (d e : Int) (b : D37),iter (rnd C k cd0 9 Q) n (St1 a c d e b) = l0 k (fun a b=>Q (.exit 0) (St2 a b)) n a c d e b
 | 0,_,_,_,_,_=>rfl
 | n + 1,a,c,d,e,b=>(iter_succ _ _ _).trans ((l0s_eq k _ Q a c d e b).trans (congrArg (fun N=>l0s N (fun a b=>Q (.exit 0) (St2 a b)) a c d e b) (by funext; exact l0_eq k Q n _ _ _ _ _)))
noncomputable def cd1 : Code:=cR (cR (cR (cB Tryz.f59)))
def St3 (a : Int) (b : D37) : St:=stL 23 [(5,.data T1 a)] [(0,.cell T74 (.data T74 b) false)]
def St4 (a : Int) (b : D37) : St:=stL 23 [(4,.data T1 a)] [(0,.cell T74 (.data T74 b) false)]
def j0 (Rt : Int->D37->Option α) (a : Int) (b : D37) : Option α :=
 Rt a b
theorem j0_eq (k : Nat) (Q : Ex->St->Option α) (b : Int) (a : D37) :
  (den C k) cd1 (endQ C Q) (St3 b a) = j0 (fun c a=>Q .ret (St4 c a)) b a:=plainly Js (by kernel_rfl)
theorem a0 (k : Nat) (Q : Ex->St->Option α) (c : Int) (d : D1) (e f : Int) (a : D37) :
  (lp C k) cd0 (blkQ C 0 (sq (den C k) (lp C k) Js C cd1 (endQ C Q))) (St1 c d e f a) = l0 k (fun c a=>j0 (fun g a=>Q .ret (St4 g a)) c a) k c d e f a :=
 (lp_iter 9 (by kernel_rfl)).trans ((l0_eq k _ k c d e f a).trans (congrArg (fun X=>l0 k X k c d e f a) (funext fun c=>funext fun a=>(Eq.trans (b:=(den C k) cd1 (endQ C Q) (St3 c a)) (by kernel_rfl) (by simp only [j0_eq])))))
def top (k : Nat) (Rt : Int->D37->Option α) (c : Int) (a : D37) : Option α :=
 (paper_eye__take_s1.run c a).bind fun b =>
 l0 k (fun d a=>j0 Rt d a) k 0 b.1 (b.1.length : Int) 0 b.2.1
theorem top_eq (k : Nat) (Q : Ex->St->Option α) (b : Int) (a : D37) :
  (den C k) (cB Tryz.f59) (endQ C Q) (St0 b a) = top k (fun d a=>Q .ret (St4 d a)) b a:=by
 have h : ∀ (D L : DT α),denJ D L Js C (cB Tryz.f59) (endQ C Q) (St0 b a) =
    (paper_eye__take_s1.run b a).bind fun c =>
    L cd0 (blkQ C 0 (sq D L Js C cd1 (endQ C Q))) (St1 0 c.1 (c.1.length : Int) 0 c.2.1):=by
  intro D L; kernel_rfl
 have h2:=via (k:=k) h
 refine h2.trans ?_
 simp only [a0]
 first | rfl | kernel_rfl
def run (b : Int) (a : D37) : Option D39:=top (α:=Int × D37 × Unit) fuel (fun c a=>some (c,a,())) b a
def Sp : Spec:=⟨[.ref 0 0 [],hD T1],[(0,hC T74 (hD T74) false)],T75,hD T1,[(0,hC T74 (hD T74) false)],T75,fun x=>run x.1 x.2.1⟩
set_option maxRecDepth 100000 in
theorem sok : SOk Tryz.prog 59 Sp.h:=by
 refine sok_of_den (C:=C) (ctx_ok_sh (by kernel_rfl) (by kernel_rfl) (by kernel_rfl) (by kernel_rfl) trivial ⟨⟨⟨paper_eye__take_s1.sok,trivial⟩,paper_eye__take_s1.named⟩,trivial⟩) (by kernel_rfl) Tryz.func59 (c:=cB Tryz.f59) (by kernel_rfl) (by kernel_rfl) Sp fuel (by kernel_rfl) (by kernel_rfl) ?_
 intro x r h
 rw [<- h]
 have h1 : Sp.start x Tryz.f59.ntmps = (St0 x.1 x.2.1):=by kernel_rfl
 rw [h1]
 refine (top_eq fuel (finS C Tryz.f59.results.toList Sp.read) x.1 x.2.1).trans ?_
 kernel_rfl
theorem named : Named Tryz.prog 59:=named_of Tryz.func59 (by kernel_rfl) (by kernel_rfl)
end Go.Bx.paper_eye__number_s1
namespace Go.Bx.paper_eye__word_s0
def Js : List Nat:=[]
def C : Ctx:=⟨[(29,T3),(35,T12)],[],[],fnL [],shL [(80,[.one paper_eye__take_s1.Sp])],[(6,10)],invL [],[(2,[2])],[],[],1,0⟩
def St0 (a : D37) : St:=stL 9 [(0,.ref 0 0 [])] [(0,.cell T74 (.data T74 a) false)]
def St1 (a : D37) (b : D1) : St:=stL 9 [(2,.ref 3 0 [])] [(0,.cell T74 (.data T74 a) false),(3,.cell T12 (.data T12 b) false)]
def top (Rt : D37->D1->Option α) (b : D37) : Option α :=
 (paper_eye__take_s1.run 32 b).bind fun a =>
 Rt a.2.1 (cpyL (List.replicate 32 0) 0 32 a.1)
theorem top_eq (k : Nat) (Q : Ex->St->Option α) (a : D37) :
  (den C k) (cB Tryz.f61) (endQ C Q) (St0 a) = top (fun a b=>Q .ret (St1 a b)) a:=plainly Js (by kernel_rfl)
def run (a : D37) : Option D40:=top (α:=List Int × D37 × List Int × Unit) (fun a b=>some (b,a,b,())) a
def Sp : Spec:=⟨[.ref 0 0 []],[(0,hC T74 (hD T74) false)],T77,hD T12,[(0,hC T74 (hD T74) false),(3,hC T12 (hD T12) false)],T78,fun x=>run x.1⟩
set_option maxRecDepth 100000 in
theorem sok : SOk Tryz.prog 61 Sp.h:=by
 refine sok_of_den (C:=C) (ctx_ok_sh (by kernel_rfl) (by kernel_rfl) (by kernel_rfl) (by kernel_rfl) trivial ⟨⟨⟨paper_eye__take_s1.sok,trivial⟩,paper_eye__take_s1.named⟩,trivial⟩) (by kernel_rfl) Tryz.func61 (c:=cB Tryz.f61) (by kernel_rfl) (by kernel_rfl) Sp fuel (by kernel_rfl) (by kernel_rfl) ?_
 intro x r h
 rw [<- h]
 have h1 : Sp.start x Tryz.f61.ntmps = (St0 x.1):=by kernel_rfl
 rw [h1]
 refine (top_eq fuel (finS C Tryz.f61.results.toList Sp.read) x.1).trans ?_
 kernel_rfl
theorem named : Named Tryz.prog 61:=named_of Tryz.func61 (by kernel_rfl) (by kernel_rfl)
end Go.Bx.paper_eye__word_s0
namespace Go.Bx.paper_eye__body_s0
def Js : List Nat:=[]
def C : Ctx:=⟨[(3,T1),(29,T3),(35,T12),(37,T4),(98,T74)],[],[],fnL [],shL [(59,[.one paper_eye__number_s1.Sp]),(61,[.one paper_eye__word_s0.Sp])],[(5,31),(8,31),(11,31),(14,31),(17,32),(20,32)],invL [],[(2,[2])],[],[27],1,0⟩
def St0 (a : D37) : St:=stL 30 [(0,.ref 0 0 [])] [(0,.cell T74 (.data T74 a) false)]
def St1 (a : D37) (b c d : Int) (e : D1) (f g : Int) (i : D1) : St:=stL 30 [(2,.ref 3 0 [])] [(0,.cell T74 (.data T74 a) false),(3,.cell T4 (.agg T4 [.data T1 b,.data T1 c,.data T1 d,.data T12 e,.data T1 f,.data T1 g,.app 28 0]) false),(28,.buf T6 i 0 true)]
def top (Rt : D37->Int->Int->Int->D1->Int->Int->D1->Option α) (g : D37) : Option α :=
 (paper_eye__number_s1.run 8 g).bind fun b =>
 (paper_eye__number_s1.run 4 b.2.1).bind fun c =>
 (paper_eye__number_s1.run 2 c.2.1).bind fun d =>
 (paper_eye__word_s0.run d.2.1).bind fun e =>
 (paper_eye__number_s1.run 8 e.2.1).bind fun f =>
 (paper_eye__number_s1.run 1 f.2.1).bind fun a =>
 if fitB (0 + a.2.1.1.length) 1 = true then
  Rt a.2.1 b.1 c.1 d.1 e.1 f.1 a.1 a.2.1.1
 else none
theorem top_eq (k : Nat) (Q : Ex->St->Option α) (a : D37) :
  (den C k) (cB Tryz.f62) (endQ C Q) (St0 a) = top (fun a b c d e f g i=>Q .ret (St1 a b c d e f g i)) a:=plainly Js (by kernel_rfl)
def run (a : D37) : Option D41:=top (α:=Int × Int × Int × List Int × Int × Int × D37 × Int × Int × Int × List Int × Int × Int × List Int × Unit) (fun a b c d e f g i=>some (b,c,d,e,f,g,a,b,c,d,e,f,g,i,())) a
def Sp : Spec:=⟨[.ref 0 0 []],[(0,hC T74 (hD T74) false)],T77,.agg T4 [hD T1,hD T1,hD T1,hD T12,hD T1,hD T1,.app 28 0],[(0,hC T74 (hD T74) false),(3,hC T4 (.agg T4 [hD T1,hD T1,hD T1,hD T12,hD T1,hD T1,.app 28 0]) false),(28,hB T6 0 true)],T79,fun x=>run x.1⟩
set_option maxRecDepth 100000 in
theorem sok : SOk Tryz.prog 62 Sp.h:=by
 refine sok_of_den (C:=C) (ctx_ok_sh (by kernel_rfl) (by kernel_rfl) (by kernel_rfl) (by kernel_rfl) trivial ⟨⟨⟨paper_eye__number_s1.sok,trivial⟩,paper_eye__number_s1.named⟩,⟨⟨⟨paper_eye__word_s0.sok,trivial⟩,paper_eye__word_s0.named⟩,trivial⟩⟩) (by kernel_rfl) Tryz.func62 (c:=cB Tryz.f62) (by kernel_rfl) (by kernel_rfl) Sp fuel (by kernel_rfl) (by kernel_rfl) ?_
 intro x r h
 rw [<- h]
 have h1 : Sp.start x Tryz.f62.ntmps = (St0 x.1):=by kernel_rfl
 rw [h1]
 refine (top_eq fuel (finS C Tryz.f62.results.toList Sp.read) x.1).trans ?_
 kernel_rfl
theorem named : Named Tryz.prog 62:=named_of Tryz.func62 (by kernel_rfl) (by kernel_rfl)
end Go.Bx.paper_eye__body_s0
namespace Go.Bx.paper_Decode
def Js : List Nat:=[20]
def C : Ctx:=⟨[(3,T1),(4,.bool),(24,T30),(29,T3),(37,T4),(38,T1),(69,T69),(71,T70),(98,T74),(101,T71),(103,T72)],[],[],fnL [(60,wide_From.F),(63,paper_fault.F)],shL [(59,[.one paper_eye__number_s1.Sp]),(61,[.one paper_eye__word_s0.Sp]),(62,[.one paper_eye__body_s0.Sp])],[(14,82),(25,82),(28,82),(42,82),(45,82),(50,83),(55,84),(66,84)],invL [],[(2,[2,3]),(1,[2,4,6]),(4,[2,4,6,38,39]),(33,[2,4,6,38,39]),(57,[2,4,6])],[(2,[.dat false 2 [1],.dat false 2 [2,6]]),(33,[.melt false 6 [1] 62 true])],[],0,0⟩
def St0 (a : D1) : St:=stL 81 [(0,.data T3 a)] []
def St1 (a : Int) (b : D35) : St:=stL 81 [(2,.ref 2 0 []),(3,.data T1 a)] [(2,.cell T70 (.data T70 b) false)]
def St2 (a b : Int) (c d : Int) (e f : Int) (g : D1) (i j : Int) (k l : Int) (m n : Int) (o : D1) (p q : Int) (r : D37) (s : D36) : St:=stL 81 [(2,.ref 2 0 []),(4,.ref 12 0 []),(6,.ref 6 0 []),(38,.data T1 a),(39,.data T1 b)] [(2,.cell T70 (.agg T70 [.data T1 c,.full T72 [],.agg T4 [.data T1 d,.data T1 e,.data T1 f,.data T12 g,.data T1 i,.data T1 j,.full T6 []]]) false),(6,.cell T70 (.agg T70 [.data T1 k,.app 62 0,.agg T4 [.data T1 l,.data T1 m,.data T1 n,.data T12 o,.data T1 p,.data T1 q,.full T6 []]]) false),(12,.cell T74 (.data T74 r) false),(62,.buf T72 s 0 true)]
noncomputable def cd0 : Code:=cL (cL (cR (cL (cR (cR (cR (cR (cR (cR (cR (cR (cB Tryz.f32))))))))))))
def St3 (a b : Int) (c d : Int) (e : D1) (f g : Int) (i j : Int) (k l : Int) (m : D1) (n o : Int) (p : D37) (q : D36) : St:=stL 81 [(2,.ref 2 0 []),(4,.ref 12 0 []),(6,.ref 6 0 [])] [(2,.cell T70 (.agg T70 [.data T1 a,.full T72 [],.agg T4 [.data T1 b,.data T1 c,.data T1 d,.data T12 e,.data T1 f,.data T1 g,.full T6 []]]) false),(6,.cell T70 (.agg T70 [.data T1 i,.app 62 0,.agg T4 [.data T1 j,.data T1 k,.data T1 l,.data T12 m,.data T1 n,.data T1 o,.full T6 []]]) false),(12,.cell T74 (.data T74 p) false),(62,.buf T72 q 0 true)]
def l0s (Nx : Int->Int->Int->Int->Int->Int->D1->Int->Int->Int->Int->Int->Int->D1->Int->Int->D37->D36->Option α) (Xt0 : Int->Int->Int->Int->D1->Int->Int->Int->Int->Int->Int->D1->Int->Int->D37->D36->Option α) (b c : Int) (d e : Int) (f g : Int) (i : D1) (j k : Int) (l m : Int) (n o : Int) (p : D1) (q r : Int) (s : D37) (a : D36) : Option α :=
 if (decide (c < b)) = true then
  (paper_eye__number_s1.run 1 s).bind fun t =>
  (paper_eye__word_s0.run t.2.1).bind fun u =>
  (wide_From.run u.1).bind fun x =>
  (paper_eye__word_s0.run u.2.1).bind fun v =>
  (wide_From.run v.1).bind fun y =>
  (paper_eye__number_s1.run 1 v.2.1).bind fun w =>
  if fitB (a.length + 1) 80 = true then
   Nx b (IntKind.i64.wrap (c + 1)) d e f g i j k l m n o p q r w.2.1 (a ++ [(t.1,(x,y,w.1,()),())])
  else none
 else
  Xt0 d e f g i j k l m n o p q r s a
theorem l0s_eq (k : Nat) (next : St->Option α) (Q : Ex->St->Option α) (s t : Int) (a b : Int) (c d : Int) (e : D1) (f g : Int) (i j : Int) (l m : Int) (n : D1) (o p : Int) (q : D37) (r : D36) :
  rnd C k cd0 33 Q next (St2 s t a b c d e f g i j l m n o p q r) = l0s (fun s t a b c d e f g i j l m n o p q r=>next (St2 s t a b c d e f g i j l m n o p q r)) (fun a b c d e f g i j l m n o p q r=>Q (.exit 0) (St3 a b c d e f g i j l m n o p q r)) s t a b c d e f g i j l m n o p q r:=plainly Js (by kernel_rfl)
def l0 (k : Nat) (Xt0 : Int->Int->Int->Int->D1->Int->Int->Int->Int->Int->Int->D1->Int->Int->D37->D36->Option α) : Nat->Int->Int->Int->Int->Int->Int->D1->Int->Int->Int->Int->Int->Int->D1->Int->Int->D37->D36->Option α
 | 0,_,_,_,_,_,_,_,_,_,_,_,_,_,_,_,_,_,_=>none
 | n + 1,a,b,c,d,e,f,g,i,j,l,m,o,p,q,r,s,t,u=>l0s (l0 k Xt0 n) Xt0 a b c d e f g i j l m o p q r s t u
theorem l0_eq (k : Nat) (Q : Ex->St->Option α) : ∀ (n : Nat) (t u : Int) (a b : Int) (c d : Int) (e : D1) (f g : Int) (i j : Int) (l m : Int) (o : D1) (p q : Int) (r : D37) (s : D36),iter (rnd C k cd0 33 Q) n (St2 t u a b c d e f g i j l m o p q r s) = l0 k (fun a b c d e f g i j l m o p q r s=>Q (.exit 0) (St3 a b c d e f g i j l m o p q r s)) n t u a b c d e f g i j l m o p q r s
 | 0,_,_,_,_,_,_,_,_,_,_,_,_,_,_,_,_,_,_=>rfl
 | n + 1,t,u,a,b,c,d,e,f,g,i,j,l,m,o,p,q,r,s=>(iter_succ _ _ _).trans ((l0s_eq k _ Q t u a b c d e f g i j l m o p q r s).trans (congrArg (fun N=>l0s N (fun a b c d e f g i j l m o p q r s=>Q (.exit 0) (St3 a b c d e f g i j l m o p q r s)) t u a b c d e f g i j l m o p q r s) (by funext; exact l0_eq k Q n _ _ _ _ _ _ _ _ _ _ _ _ _ _ _ _ _ _)))
noncomputable def cd1 : Code:=cR (cR (cR (cR (cR (cR (cR (cR (cR (cB Tryz.f32)))))))))
def St4 (a b : Int) (c d : Int) (e : D1) (f g : Int) (i j : Int) (k l : Int) (m : D1) (n o : Int) (p : D37) (q : D36) : St:=stL 81 [(2,.ref 2 0 []),(4,.ref 12 0 []),(6,.ref 6 0 [])] [(2,.cell T70 (.agg T70 [.data T1 a,.full T72 [],.agg T4 [.data T1 b,.data T1 c,.data T1 d,.data T12 e,.data T1 f,.data T1 g,.full T6 []]]) false),(6,.cell T70 (.agg T70 [.data T1 i,.app 62 0,.agg T4 [.data T1 j,.data T1 k,.data T1 l,.data T12 m,.data T1 n,.data T1 o,.full T6 []]]) false),(12,.cell T74 (.data T74 p) false),(62,.buf T72 q 0 true)]
def j0 (Rt : Int->D35->Option α) (f g : Int) (i j : Int) (k : D1) (l m : Int) (b n : Int) (o p : Int) (q : D1) (r s : Int) (e : D37) (c : D36) : Option α :=
 (paper_eye__body_s0.run e).bind fun a =>
 if (not a.2.2.2.2.2.2.1.2.1) = true then
  Rt 4 (0,[],(0,0,0,(List.replicate 32 0),0,0,[],()),())
 else
  (paper_fault.run (b,c,(a.1,a.2.1,a.2.2.1,a.2.2.2.1,a.2.2.2.2.1,a.2.2.2.2.2.1,a.2.2.2.2.2.2.2.2.2.2.2.2.2.1,()),())).bind fun d =>
  if (d != 0) = true then
   Rt d (0,[],(0,0,0,(List.replicate 32 0),0,0,[],()),())
  else
   Rt 0 (b,c,(a.1,a.2.1,a.2.2.1,a.2.2.2.1,a.2.2.2.2.1,a.2.2.2.2.2.1,a.2.2.2.2.2.2.2.2.2.2.2.2.2.1,()),())
theorem j0_eq (k : Nat) (Q : Ex->St->Option α) (a b : Int) (c d : Int) (e : D1) (f g : Int) (i j : Int) (l m : Int) (n : D1) (o p : Int) (q : D37) (r : D36) :
  (den C k) cd1 Q (St4 a b c d e f g i j l m n o p q r) = j0 (fun s t=>Q .ret (St1 s t)) a b c d e f g i j l m n o p q r:=plainly Js (by kernel_rfl)
theorem a0 (k : Nat) (Q : Ex->St->Option α) (t u : Int) (a c : Int) (d e : Int) (f : D1) (g i : Int) (j l : Int) (m n : Int) (o : D1) (p q : Int) (r : D37) (s : D36) :
  (lp C k) cd0 (blkQ C 0 (sq (den C k) (lp C k) Js C cd1 Q)) (St2 t u a c d e f g i j l m n o p q r s) = l0 k (fun a c d e f g i j l m n o p q r s=>j0 (fun v w=>Q .ret (St1 v w)) a c d e f g i j l m n o p q r s) k t u a c d e f g i j l m n o p q r s :=
 (lp_iter 33 (by kernel_rfl)).trans ((l0_eq k _ k t u a c d e f g i j l m n o p q r s).trans (congrArg (fun X=>l0 k X k t u a c d e f g i j l m n o p q r s) (funext fun a=>funext fun c=>funext fun d=>funext fun e=>funext fun f=>funext fun g=>funext fun i=>funext fun j=>funext fun l=>funext fun m=>funext fun n=>funext fun o=>funext fun p=>funext fun q=>funext fun r=>funext fun s=>(Eq.trans (b:=(den C k) cd1 Q (St4 a c d e f g i j l m n o p q r s)) (by kernel_rfl) (by simp only [j0_eq])))))
def top (k : Nat) (Rt : Int->D35->Option α) (d : D1) : Option α :=
 (paper_eye__number_s1.run 1 (d,true,())).bind fun b =>
 if (cond b.2.1.2.1 (b.1 != 1) false) = true then
  Rt 3 (0,[],(0,0,0,(List.replicate 32 0),0,0,[],()),())
 else
  (paper_eye__number_s1.run 4 b.2.1).bind fun c =>
  (paper_eye__number_s1.run 1 c.2.1).bind fun a =>
  if (cond a.2.1.2.1 (decide (a.1 > 19)) false) = true then
   Rt 1 (0,[],(0,0,0,(List.replicate 32 0),0,0,[],()),())
  else
   l0 k (fun e f g i j l m n o p q r s t u v=>j0 Rt e f g i j l m n o p q r s t u v) k a.1 0 0 0 0 0 (List.replicate 32 0) 0 0 c.1 0 0 0 (List.replicate 32 0) 0 0 a.2.1 []
theorem top_eq (k : Nat) (Q : Ex->St->Option α) (a : D1) :
  (den C k) (cB Tryz.f32) Q (St0 a) = top k (fun e f=>Q .ret (St1 e f)) a:=by
 have h : ∀ (D L : DT α),denJ D L Js C (cB Tryz.f32) Q (St0 a) =
    (paper_eye__number_s1.run 1 (a,true,())).bind fun c =>
    if (cond c.2.1.2.1 (c.1 != 1) false) = true then
     Q .ret (St1 3 (0,[],(0,0,0,(List.replicate 32 0),0,0,[],()),()))
    else
     (paper_eye__number_s1.run 4 c.2.1).bind fun d =>
     (paper_eye__number_s1.run 1 d.2.1).bind fun b =>
     if (cond b.2.1.2.1 (decide (b.1 > 19)) false) = true then
      Q .ret (St1 1 (0,[],(0,0,0,(List.replicate 32 0),0,0,[],()),()))
     else
      L cd0 (blkQ C 0 (sq D L Js C cd1 Q)) (St2 b.1 0 0 0 0 0 (List.replicate 32 0) 0 0 d.1 0 0 0 (List.replicate 32 0) 0 0 b.2.1 []):=by
  intro D L; kernel_rfl
 have h2:=via (k:=k) h
 refine h2.trans ?_
 simp only [a0]
 first | rfl | kernel_rfl
def run (a : D1) : Option D42:=top (α:=D35 × Int × Unit) fuel (fun b c=>some (c,b,())) a
def F : Fn:=⟨T7,T80,true,fun x=>run x.1⟩
theorem con : Con Tryz.prog 32 F /\ Named Tryz.prog 32 :=
 con_of2 (C:=C) (ctx_ok_sh (by kernel_rfl) (by kernel_rfl) (by kernel_rfl) (by kernel_rfl) ⟨.inl wide_From.con,⟨.inl paper_fault.con,trivial⟩⟩ ⟨⟨⟨paper_eye__number_s1.sok,trivial⟩,paper_eye__number_s1.named⟩,⟨⟨⟨paper_eye__word_s0.sok,trivial⟩,paper_eye__word_s0.named⟩,⟨⟨⟨paper_eye__body_s0.sok,trivial⟩,paper_eye__body_s0.named⟩,trivial⟩⟩⟩) (by kernel_rfl) Tryz.func32 (by kernel_rfl) (c:=cB Tryz.f32) (by kernel_rfl) (by kernel_rfl) F (fun x=>by simp [F,spread,Tryz.ntmps32]) (fun x=>(St0 x.1)) (fun x=>by kernel_rfl) fun x=>(top_eq fuel _ x.1).trans (by kernel_rfl)
end Go.Bx.paper_Decode
namespace Go.Bx.basculeref_PaperOf
def Js : List Nat:=[21]
def C : Ctx:=⟨[(3,T1),(5,T6),(9,.str),(29,T3),(37,T4),(38,T1),(69,T69),(71,T70),(101,T71),(103,T72)],[],[],fnL [(45,basculeref_number.F),(69,basculeref_wideOf.F),(70,basculeref_word.F),(71,basculeref_PaperFault.F)],noSh,[],invL [],[(2,[2,3]),(1,[2,4,6]),(4,[2,4,6,41,42]),(48,[2,4,6,41,42]),(60,[2,4,6])],[(2,[.dat false 2 []]),(48,[.melt false 6 [1] 61 true])],[],0,0⟩
def St0 (a : D1) : St:=stL 96 [(0,.data T3 a)] []
def St1 (a : Int) (b : D35) : St:=stL 96 [(2,.ref 2 0 []),(3,.data T1 a)] [(2,.cell T70 (.data T70 b) false)]
def St2 (a : D1) (b c : Int) (d e : Int) (f g : Int) (i : D1) (j k : Int) (l m : Int) (n o : Int) (p : D1) (q r : Int) (s : D36) : St:=stL 96 [(2,.ref 2 0 []),(4,.data .str a),(6,.ref 6 0 []),(41,.data T1 b),(42,.data T1 c)] [(2,.cell T70 (.agg T70 [.data T1 d,.full T72 [],.agg T4 [.data T1 e,.data T1 f,.data T1 g,.data T12 i,.data T1 j,.data T1 k,.full T6 []]]) false),(6,.cell T70 (.agg T70 [.data T1 l,.app 61 0,.agg T4 [.data T1 m,.data T1 n,.data T1 o,.data T12 p,.data T1 q,.data T1 r,.full T6 []]]) false),(61,.buf T72 s 0 true)]
noncomputable def cd0 : Code:=cL (cL (cR (cL (cR (cR (cR (cR (cR (cR (cR (cR (cR (cR (cB Tryz.f43))))))))))))))
def St3 (a : D1) (b c : Int) (d e : Int) (f : D1) (g i : Int) (j k : Int) (l m : Int) (n : D1) (o p : Int) (q : D36) : St:=stL 96 [(2,.ref 2 0 []),(4,.data .str a),(6,.ref 6 0 [])] [(2,.cell T70 (.agg T70 [.data T1 b,.full T72 [],.agg T4 [.data T1 c,.data T1 d,.data T1 e,.data T12 f,.data T1 g,.data T1 i,.full T6 []]]) false),(6,.cell T70 (.agg T70 [.data T1 j,.app 61 0,.agg T4 [.data T1 k,.data T1 l,.data T1 m,.data T12 n,.data T1 o,.data T1 p,.full T6 []]]) false),(61,.buf T72 q 0 true)]
def l0s (Nx : D1->Int->Int->Int->Int->Int->Int->D1->Int->Int->Int->Int->Int->Int->D1->Int->Int->D36->Option α) (Xt0 : D1->Int->Int->Int->Int->D1->Int->Int->Int->Int->Int->Int->D1->Int->Int->D36->Option α) (a : D1) (c d : Int) (e f : Int) (g i : Int) (j : D1) (k l : Int) (m n : Int) (o p : Int) (q : D1) (r s : Int) (b : D36) : Option α :=
 if (decide (d < c)) = true then
  if 0 <= (0 : Int) /\ (0 : Int) < (a.length : Int) then
   if 0 <= (1 : Int) /\ (1 : Int) <= (33 : Int) /\ (33 : Int) <= (a.length : Int) then
    (basculeref_wideOf.run (cutL a 1 33)).bind fun t =>
    if 0 <= (33 : Int) /\ (33 : Int) <= (65 : Int) /\ (65 : Int) <= (a.length : Int) then
     (basculeref_wideOf.run (cutL a 33 65)).bind fun u =>
     if 0 <= (65 : Int) /\ (65 : Int) < (a.length : Int) then
      if fitB (b.length + 1) 80 = true then
       if 0 <= (66 : Int) /\ (66 : Int) <= (a.length : Int) /\ (a.length : Int) <= (a.length : Int) then
        Nx (cutL a 66 (a.length : Int)) c (IntKind.i64.wrap (d + 1)) e f g i j k l m n o p q r s (b ++ [((IntKind.i64.wrap (List.getD a 0 0)),(t,u,(IntKind.i64.wrap (List.getD a 65 0)),()),())])
       else none
      else none
     else none
    else none
   else none
  else none
 else
  Xt0 a e f g i j k l m n o p q r s b
theorem l0s_eq (k : Nat) (next : St->Option α) (Q : Ex->St->Option α) (a : D1) (s t : Int) (b c : Int) (d e : Int) (f : D1) (g i : Int) (j l : Int) (m n : Int) (o : D1) (p q : Int) (r : D36) :
  rnd C k cd0 48 Q next (St2 a s t b c d e f g i j l m n o p q r) = l0s (fun a s t b c d e f g i j l m n o p q r=>next (St2 a s t b c d e f g i j l m n o p q r)) (fun a b c d e f g i j l m n o p q r=>Q (.exit 0) (St3 a b c d e f g i j l m n o p q r)) a s t b c d e f g i j l m n o p q r:=plainly Js (by kernel_rfl)
def l0 (k : Nat) (Xt0 : D1->Int->Int->Int->Int->D1->Int->Int->Int->Int->Int->Int->D1->Int->Int->D36->Option α) : Nat->D1->Int->Int->Int->Int->Int->Int->D1->Int->Int->Int->Int->Int->Int->D1->Int->Int->D36->Option α
 | 0,_,_,_,_,_,_,_,_,_,_,_,_,_,_,_,_,_,_=>none
 | n + 1,a,b,c,d,e,f,g,i,j,l,m,o,p,q,r,s,t,u=>l0s (l0 k Xt0 n) Xt0 a b c d e f g i j l m o p q r s t u
theorem l0_eq (k : Nat) (Q : Ex->St->Option α) : ∀ (n : Nat) (a : D1) (t u : Int) (b c : Int) (d e : Int) (f : D1) (g i : Int) (j l : Int) (m o : Int) (p : D1) (q r : Int) (s : D36),iter (rnd C k cd0 48 Q) n (St2 a t u b c d e f g i j l m o p q r s) = l0 k (fun a b c d e f g i j l m o p q r s=>Q (.exit 0) (St3 a b c d e f g i j l m o p q r s)) n a t u b c d e f g i j l m o p q r s
 | 0,_,_,_,_,_,_,_,_,_,_,_,_,_,_,_,_,_,_=>rfl
 | n + 1,a,t,u,b,c,d,e,f,g,i,j,l,m,o,p,q,r,s=>(iter_succ _ _ _).trans ((l0s_eq k _ Q a t u b c d e f g i j l m o p q r s).trans (congrArg (fun N=>l0s N (fun a b c d e f g i j l m o p q r s=>Q (.exit 0) (St3 a b c d e f g i j l m o p q r s)) a t u b c d e f g i j l m o p q r s) (by funext; exact l0_eq k Q n _ _ _ _ _ _ _ _ _ _ _ _ _ _ _ _ _ _)))
noncomputable def cd1 : Code:=cR (cR (cR (cR (cR (cR (cR (cR (cR (cR (cR (cB Tryz.f43)))))))))))
def St4 (a : D1) (b c : Int) (d e : Int) (f : D1) (g i : Int) (j k : Int) (l m : Int) (n : D1) (o p : Int) (q : D36) : St:=stL 96 [(2,.ref 2 0 []),(4,.data .str a),(6,.ref 6 0 [])] [(2,.cell T70 (.agg T70 [.data T1 b,.full T72 [],.agg T4 [.data T1 c,.data T1 d,.data T1 e,.data T12 f,.data T1 g,.data T1 i,.full T6 []]]) false),(6,.cell T70 (.agg T70 [.data T1 j,.app 61 0,.agg T4 [.data T1 k,.data T1 l,.data T1 m,.data T12 n,.data T1 o,.data T1 p,.full T6 []]]) false),(61,.buf T72 q 0 true)]
def j0 (Rt : Int->D35->Option α) (a : D1) (k l : Int) (m n : Int) (o : D1) (p q : Int) (b r : Int) (s t : Int) (u : D1) (v w : Int) (c : D36) : Option α :=
 if 0 <= (0 : Int) /\ (0 : Int) <= (8 : Int) /\ (8 : Int) <= (a.length : Int) then
  (basculeref_number.run (cutL a 0 8)).bind fun d =>
  if 0 <= (8 : Int) /\ (8 : Int) <= (12 : Int) /\ (12 : Int) <= (a.length : Int) then
   (basculeref_number.run (cutL a 8 12)).bind fun e =>
   if 0 <= (12 : Int) /\ (12 : Int) <= (14 : Int) /\ (14 : Int) <= (a.length : Int) then
    (basculeref_number.run (cutL a 12 14)).bind fun f =>
    if 0 <= (14 : Int) /\ (14 : Int) <= (46 : Int) /\ (46 : Int) <= (a.length : Int) then
     (basculeref_word.run (cutL a 14 46)).bind fun g =>
     if 0 <= (46 : Int) /\ (46 : Int) <= (54 : Int) /\ (54 : Int) <= (a.length : Int) then
      (basculeref_number.run (cutL a 46 54)).bind fun i =>
      if 0 <= (54 : Int) /\ (54 : Int) < (a.length : Int) then
       if 0 <= (55 : Int) /\ (55 : Int) <= (a.length : Int) /\ (a.length : Int) <= (a.length : Int) then
        (basculeref_PaperFault.run (b,c,(d,e,f,g,i,(IntKind.i64.wrap (List.getD a 54 0)),(cutL a 55 (a.length : Int)),()),())).bind fun j =>
        if (j != 0) = true then
         Rt j (0,[],(0,0,0,(List.replicate 32 0),0,0,[],()),())
        else
         Rt 0 (b,c,(d,e,f,g,i,(IntKind.i64.wrap (List.getD a 54 0)),(cutL a 55 (a.length : Int)),()),())
       else none
      else none
     else none
    else none
   else none
  else none
 else none
theorem j0_eq (k : Nat) (Q : Ex->St->Option α) (a : D1) (b c : Int) (d e : Int) (f : D1) (g i : Int) (j l : Int) (m n : Int) (o : D1) (p q : Int) (r : D36) :
  (den C k) cd1 Q (St4 a b c d e f g i j l m n o p q r) = j0 (fun s t=>Q .ret (St1 s t)) a b c d e f g i j l m n o p q r:=plainly Js (by kernel_rfl)
theorem a0 (k : Nat) (Q : Ex->St->Option α) (a : D1) (t u : Int) (c d : Int) (e f : Int) (g : D1) (i j : Int) (l m : Int) (n o : Int) (p : D1) (q r : Int) (s : D36) :
  (lp C k) cd0 (blkQ C 0 (sq (den C k) (lp C k) Js C cd1 Q)) (St2 a t u c d e f g i j l m n o p q r s) = l0 k (fun a c d e f g i j l m n o p q r s=>j0 (fun v w=>Q .ret (St1 v w)) a c d e f g i j l m n o p q r s) k a t u c d e f g i j l m n o p q r s :=
 (lp_iter 48 (by kernel_rfl)).trans ((l0_eq k _ k a t u c d e f g i j l m n o p q r s).trans (congrArg (fun X=>l0 k X k a t u c d e f g i j l m n o p q r s) (funext fun a=>funext fun c=>funext fun d=>funext fun e=>funext fun f=>funext fun g=>funext fun i=>funext fun j=>funext fun l=>funext fun m=>funext fun n=>funext fun o=>funext fun p=>funext fun q=>funext fun r=>funext fun s=>(Eq.trans (b:=(den C k) cd1 Q (St4 a c d e f g i j l m n o p q r s)) (by kernel_rfl) (by simp only [j0_eq])))))
def top (k : Nat) (Rt : Int->D35->Option α) (a : D1) : Option α :=
 if (beqD .str a []) = true then
  Rt 4 (0,[],(0,0,0,(List.replicate 32 0),0,0,[],()),())
 else
  if 0 <= (0 : Int) /\ (0 : Int) < (a.length : Int) then
   if ((List.getD a 0 0) != 1) = true then
    Rt 3 (0,[],(0,0,0,(List.replicate 32 0),0,0,[],()),())
   else
    if (decide ((a.length : Int) < 6)) = true then
     Rt 4 (0,[],(0,0,0,(List.replicate 32 0),0,0,[],()),())
    else
     if 0 <= (5 : Int) /\ (5 : Int) < (a.length : Int) then
      if (decide ((IntKind.i64.wrap (List.getD a 5 0)) > 19)) = true then
       Rt 1 (0,[],(0,0,0,(List.replicate 32 0),0,0,[],()),())
      else
       if (decide ((a.length : Int) < (IntKind.i64.wrap ((IntKind.i64.wrap (6 + (IntKind.i64.wrap (66 * (IntKind.i64.wrap (List.getD a 5 0)))))) + 55)))) = true then
        Rt 4 (0,[],(0,0,0,(List.replicate 32 0),0,0,[],()),())
       else
        if 0 <= (1 : Int) /\ (1 : Int) <= (5 : Int) /\ (5 : Int) <= (a.length : Int) then
         (basculeref_number.run (cutL a 1 5)).bind fun b =>
         if 0 <= (6 : Int) /\ (6 : Int) <= (a.length : Int) /\ (a.length : Int) <= (a.length : Int) then
          l0 k (fun c d e f g i j l m n o p q r s t=>j0 Rt c d e f g i j l m n o p q r s t) k (cutL a 6 (a.length : Int)) (IntKind.i64.wrap (List.getD a 5 0)) 0 0 0 0 0 (List.replicate 32 0) 0 0 b 0 0 0 (List.replicate 32 0) 0 0 []
         else none
        else none
     else none
  else none
theorem top_eq (k : Nat) (Q : Ex->St->Option α) (a : D1) :
  (den C k) (cB Tryz.f43) Q (St0 a) = top k (fun b c=>Q .ret (St1 b c)) a:=by
 have h : ∀ (D L : DT α),denJ D L Js C (cB Tryz.f43) Q (St0 a) =
    if (beqD .str a []) = true then
     Q .ret (St1 4 (0,[],(0,0,0,(List.replicate 32 0),0,0,[],()),()))
    else
     if 0 <= (0 : Int) /\ (0 : Int) < (a.length : Int) then
      if ((List.getD a 0 0) != 1) = true then
       Q .ret (St1 3 (0,[],(0,0,0,(List.replicate 32 0),0,0,[],()),()))
      else
       if (decide ((a.length : Int) < 6)) = true then
        Q .ret (St1 4 (0,[],(0,0,0,(List.replicate 32 0),0,0,[],()),()))
       else
        if 0 <= (5 : Int) /\ (5 : Int) < (a.length : Int) then
         if (decide ((IntKind.i64.wrap (List.getD a 5 0)) > 19)) = true then
          Q .ret (St1 1 (0,[],(0,0,0,(List.replicate 32 0),0,0,[],()),()))
         else
          if (decide ((a.length : Int) < (IntKind.i64.wrap ((IntKind.i64.wrap (6 + (IntKind.i64.wrap (66 * (IntKind.i64.wrap (List.getD a 5 0)))))) + 55)))) = true then
           Q .ret (St1 4 (0,[],(0,0,0,(List.replicate 32 0),0,0,[],()),()))
          else
           if 0 <= (1 : Int) /\ (1 : Int) <= (5 : Int) /\ (5 : Int) <= (a.length : Int) then
            (basculeref_number.run (cutL a 1 5)).bind fun d =>
            if 0 <= (6 : Int) /\ (6 : Int) <= (a.length : Int) /\ (a.length : Int) <= (a.length : Int) then
             L cd0 (blkQ C 0 (sq D L Js C cd1 Q)) (St2 (cutL a 6 (a.length : Int)) (IntKind.i64.wrap (List.getD a 5 0)) 0 0 0 0 0 (List.replicate 32 0) 0 0 d 0 0 0 (List.replicate 32 0) 0 0 [])
            else none
           else none
        else none
     else none:=by
  intro D L; kernel_rfl
 have h2:=via (k:=k) h
 refine h2.trans ?_
 simp only [a0]
 first | rfl | kernel_rfl
def run (a : D1) : Option D42:=top (α:=D35 × Int × Unit) fuel (fun b c=>some (c,b,())) a
def F : Fn:=⟨T7,T80,true,fun x=>run x.1⟩
theorem con : Con Tryz.prog 43 F /\ Named Tryz.prog 43 :=
 con_of2 (C:=C) (ctx_ok (by kernel_rfl) (by kernel_rfl) (by kernel_rfl) (by kernel_rfl) ⟨.inl basculeref_number.con,⟨.inl basculeref_wideOf.con,⟨.inl basculeref_word.con,⟨.inl basculeref_PaperFault.con,trivial⟩⟩⟩⟩) (by kernel_rfl) Tryz.func43 (by kernel_rfl) (c:=cB Tryz.f43) (by kernel_rfl) (by kernel_rfl) F (fun x=>by simp [F,spread,Tryz.ntmps43]) (fun x=>(St0 x.1)) (fun x=>by kernel_rfl) fun x=>(top_eq fuel _ x.1).trans (by kernel_rfl)
end Go.Bx.basculeref_PaperOf
namespace Go.Bx.log_tail
def Js : List Nat:=[8]
def C : Ctx:=⟨[(5,T6),(29,T3)],[],[],fnL [],noSh,[],invL [],[(2,[2]),(1,[3]),(4,[3,6,7,8]),(9,[3,6,7,8]),(21,[3])],[],[],0,0⟩
def St0 (a : D1) : St:=stL 17 [(0,.data T3 a)] []
def St1 (a : Int) (b : D1) (c d : Int) : St:=stL 17 [(3,.data T6 a),(6,.data T3 b),(7,.data T1 c),(8,.data T1 d)] []
noncomputable def cd0 : Code:=cL (cL (cR (cL (cR (cR (cB Tryz.f27))))))
def St2 (a : Int) : St:=stL 17 [(3,.data T6 a)] []
def l0s (Nx : Int->D1->Int->Int->Option α) (Xt0 : Int->Option α) (c : Int) (b : D1) (d a : Int) : Option α :=
 if (decide (a < d)) = true then
  if 0 <= a /\ a < (b.length : Int) then
   Nx (IntKind.u8.wrap (c + (List.getD b (Int.toNat a) 0))) b d (IntKind.i64.wrap (a + 1))
  else none
 else
  Xt0 c
theorem l0s_eq (k : Nat) (next : St->Option α) (Q : Ex->St->Option α) (a : Int) (b : D1) (c d : Int) :
  rnd C k cd0 9 Q next (St1 a b c d) = l0s (fun a b c d=>next (St1 a b c d)) (fun a=>Q (.exit 0) (St2 a)) a b c d:=plainly Js (by kernel_rfl)
def l0 (k : Nat) (Xt0 : Int->Option α) : Nat->Int->D1->Int->Int->Option α
 | 0,_,_,_,_=>none
 | n + 1,a,b,c,d=>l0s (l0 k Xt0 n) Xt0 a b c d
theorem l0_eq (k : Nat) (Q : Ex->St->Option α) : ∀ (n : Nat) (a : Int) (b : D1) (c d : Int),iter (rnd C k cd0 9 Q) n (St1 a b c d) = l0 k (fun a=>Q (.exit 0) (St2 a)) n a b c d
 | 0,_,_,_,_=>rfl
 | n + 1,a,b,c,d=>(iter_succ _ _ _).trans ((l0s_eq k _ Q a b c d).trans (congrArg (fun N=>l0s N (fun a=>Q (.exit 0) (St2 a)) a b c d) (by funext; exact l0_eq k Q n _ _ _ _)))
noncomputable def cd1 : Code:=cR (cR (cR (cB Tryz.f27)))
def St3 (a : Int) : St:=stL 17 [(3,.data T6 a)] []
def St4 (a : Int) : St:=stL 17 [(2,.data T6 a)] []
def j0 (Rt : Int->Option α) (a : Int) : Option α :=
 Rt a
theorem j0_eq (k : Nat) (Q : Ex->St->Option α) (a : Int) :
  (den C k) cd1 Q (St3 a) = j0 (fun b=>Q .ret (St4 b)) a:=plainly Js (by kernel_rfl)
theorem a0 (k : Nat) (Q : Ex->St->Option α) (a : Int) (c : D1) (d e : Int) :
  (lp C k) cd0 (blkQ C 0 (sq (den C k) (lp C k) Js C cd1 Q)) (St1 a c d e) = l0 k (fun a=>j0 (fun f=>Q .ret (St4 f)) a) k a c d e :=
 (lp_iter 9 (by kernel_rfl)).trans ((l0_eq k _ k a c d e).trans (congrArg (fun X=>l0 k X k a c d e) (funext fun a=>(Eq.trans (b:=(den C k) cd1 Q (St3 a)) (by kernel_rfl) (by simp only [j0_eq])))))
def top (k : Nat) (Rt : Int->Option α) (a : D1) : Option α :=
 l0 k (fun b=>j0 Rt b) k 0 a (a.length : Int) 0
theorem top_eq (k : Nat) (Q : Ex->St->Option α) (a : D1) :
  (den C k) (cB Tryz.f27) Q (St0 a) = top k (fun b=>Q .ret (St4 b)) a:=by
 have h : ∀ (D L : DT α),denJ D L Js C (cB Tryz.f27) Q (St0 a) =
    L cd0 (blkQ C 0 (sq D L Js C cd1 Q)) (St1 0 a (a.length : Int) 0):=by
  intro D L; kernel_rfl
 have h2:=via (k:=k) h
 refine h2.trans ?_
 simp only [a0]
 first | rfl | kernel_rfl
def run (a : D1) : Option (Int):=top (α:=Int) fuel (fun b=>some b) a
def F : Fn:=⟨T7,T6,false,fun x=>run x.1⟩
theorem con : Con Tryz.prog 27 F /\ Named Tryz.prog 27 :=
 con_of2 (C:=C) (ctx_ok (by kernel_rfl) (by kernel_rfl) (by kernel_rfl) (by kernel_rfl) trivial) (by kernel_rfl) Tryz.func27 (by kernel_rfl) (c:=cB Tryz.f27) (by kernel_rfl) (by kernel_rfl) F (fun x=>by simp [F,spread,Tryz.ntmps27]) (fun x=>(St0 x.1)) (fun x=>by kernel_rfl) fun x=>(top_eq fuel _ x.1).trans (by kernel_rfl)
end Go.Bx.log_tail
namespace Go.Bx.basculeref_logText
def Js : List Nat:=[8]
def C : Ctx:=⟨[(3,T1),(5,T6),(9,.str),(22,T37),(29,T3)],[],[],fnL [(38,basculeref_big.F)],noSh,[],invL [],[(2,[2]),(1,[0,3]),(4,[0,3,6,7,8]),(9,[0,3,6,7,8]),(21,[0,3])],[],[],0,0⟩
def St0 (a : D1) : St:=stL 28 [(0,.data T3 a)] []
def St1 (a : D1) (b : Int) (c : D1) (d e : Int) : St:=stL 28 [(0,.data T3 a),(3,.data T1 b),(6,.data T3 c),(7,.data T1 d),(8,.data T1 e)] []
noncomputable def cd0 : Code:=cL (cL (cR (cL (cR (cR (cB Tryz.f39))))))
def St2 (a : D1) (b : Int) : St:=stL 28 [(0,.data T3 a),(3,.data T1 b)] []
def l0s (Nx : D1->Int->D1->Int->Int->Option α) (Xt0 : D1->Int->Option α) (c : D1) (d : Int) (b : D1) (e a : Int) : Option α :=
 if (decide (a < e)) = true then
  if 0 <= a /\ a < (b.length : Int) then
   Nx c (IntKind.i64.wrap (d + (IntKind.i64.wrap (List.getD b (Int.toNat a) 0)))) b e (IntKind.i64.wrap (a + 1))
  else none
 else
  Xt0 c d
theorem l0s_eq (k : Nat) (next : St->Option α) (Q : Ex->St->Option α) (a : D1) (b : Int) (c : D1) (d e : Int) :
  rnd C k cd0 9 Q next (St1 a b c d e) = l0s (fun a b c d e=>next (St1 a b c d e)) (fun a b=>Q (.exit 0) (St2 a b)) a b c d e:=plainly Js (by kernel_rfl)
def l0 (k : Nat) (Xt0 : D1->Int->Option α) : Nat->D1->Int->D1->Int->Int->Option α
 | 0,_,_,_,_,_=>none
 | n + 1,a,b,c,d,e=>l0s (l0 k Xt0 n) Xt0 a b c d e
theorem l0_eq (k : Nat) (Q : Ex->St->Option α) : ∀ (n : Nat) (a : D1) (b : Int) (c : D1) (d e : Int),iter (rnd C k cd0 9 Q) n (St1 a b c d e) = l0 k (fun a b=>Q (.exit 0) (St2 a b)) n a b c d e
 | 0,_,_,_,_,_=>rfl
 | n + 1,a,b,c,d,e=>(iter_succ _ _ _).trans ((l0s_eq k _ Q a b c d e).trans (congrArg (fun N=>l0s N (fun a b=>Q (.exit 0) (St2 a b)) a b c d e) (by funext; exact l0_eq k Q n _ _ _ _ _)))
noncomputable def cd1 : Code:=cR (cR (cR (cB Tryz.f39)))
def St3 (a : D1) (b : Int) : St:=stL 28 [(0,.data T3 a),(3,.data T1 b)] []
def St4 (a : D1) : St:=stL 28 [(2,.data .str a)] []
def j0 (Rt : D1->Option α) (a : D1) (d : Int) : Option α :=
 (basculeref_big.run (IntKind.u64.wrap (a.length : Int)) 2).bind fun b =>
 if Nat.ble (b.length + a.length) 9223372036854775807 = true then
  (basculeref_big.run (IntKind.u64.wrap d) 1).bind fun c =>
  if Nat.ble ((b ++ a).length + c.length) 9223372036854775807 = true then
   Rt ((b ++ a) ++ c)
  else none
 else none
theorem j0_eq (k : Nat) (Q : Ex->St->Option α) (a : D1) (b : Int) :
  (den C k) cd1 Q (St3 a b) = j0 (fun c=>Q .ret (St4 c)) a b:=plainly Js (by kernel_rfl)
theorem a0 (k : Nat) (Q : Ex->St->Option α) (a : D1) (c : Int) (d : D1) (e f : Int) :
  (lp C k) cd0 (blkQ C 0 (sq (den C k) (lp C k) Js C cd1 Q)) (St1 a c d e f) = l0 k (fun a c=>j0 (fun g=>Q .ret (St4 g)) a c) k a c d e f :=
 (lp_iter 9 (by kernel_rfl)).trans ((l0_eq k _ k a c d e f).trans (congrArg (fun X=>l0 k X k a c d e f) (funext fun a=>funext fun c=>(Eq.trans (b:=(den C k) cd1 Q (St3 a c)) (by kernel_rfl) (by simp only [j0_eq])))))
def top (k : Nat) (Rt : D1->Option α) (a : D1) : Option α :=
 l0 k (fun a b=>j0 Rt a b) k a 0 a (a.length : Int) 0
theorem top_eq (k : Nat) (Q : Ex->St->Option α) (a : D1) :
  (den C k) (cB Tryz.f39) Q (St0 a) = top k (fun b=>Q .ret (St4 b)) a:=by
 have h : ∀ (D L : DT α),denJ D L Js C (cB Tryz.f39) Q (St0 a) =
    L cd0 (blkQ C 0 (sq D L Js C cd1 Q)) (St1 a 0 a (a.length : Int) 0):=by
  intro D L; kernel_rfl
 have h2:=via (k:=k) h
 refine h2.trans ?_
 simp only [a0]
 first | rfl | kernel_rfl
def run (a : D1) : Option D1:=top (α:=List Int) fuel (fun b=>some b) a
def F : Fn:=⟨T7,.str,false,fun x=>run x.1⟩
theorem con : Con Tryz.prog 39 F /\ Named Tryz.prog 39 :=
 con_of2 (C:=C) (ctx_ok (by kernel_rfl) (by kernel_rfl) (by kernel_rfl) (by kernel_rfl) ⟨.inl basculeref_big.con,trivial⟩) (by kernel_rfl) Tryz.func39 (by kernel_rfl) (c:=cB Tryz.f39) (by kernel_rfl) (by kernel_rfl) F (fun x=>by simp [F,spread,Tryz.ntmps39]) (fun x=>(St0 x.1)) (fun x=>by kernel_rfl) fun x=>(top_eq fuel _ x.1).trans (by kernel_rfl)
end Go.Bx.basculeref_logText
namespace Go.Bx.log_Open
def Js : List Nat:=[12]
def C : Ctx:=⟨[(3,T1),(5,T6),(29,T3),(31,T11),(65,T64)],[],[],fnL [(27,log_tail.F)],noSh,[],invL [],[(2,[2,3]),(1,[5,6]),(4,[4,5,6]),(7,[4,5,6,7]),(12,[4,5,6]),(33,[5,6])],[(12,[.melt true 6 [] 72 true])],[11,70],0,0⟩
def St0 (a : D23) : St:=stL 79 [(0,.data T11 a)] []
def St1 (a : Int) (b : D1) (c : D16) : St:=stL 79 [(4,.app 11 0),(5,.data T1 a),(6,.app 72 0)] [(11,.buf T6 b 0 true),(72,.buf T3 c 0 true)]
noncomputable def cd0 : Code:=cL (cL (cL (cR (cR (cR (cR (cL (cR (cB Tryz.f30)))))))))
def St2 (a : Int) (b : D16) : St:=stL 79 [(5,.data T1 a),(6,.app 72 0)] [(72,.buf T3 b 0 true)]
def l0s (Nx : Int->D1->D16->Option α) (Xt0 : Int->D16->Option α) (a : Int) (b : D1) (c : D16) : Option α :=
 if (decide ((IntKind.i64.wrap ((b.length : Int) - a)) >= 3)) = true then
  if 0 <= a /\ a < (b.length : Int) then
   if 0 <= (IntKind.i64.wrap (a + 1)) /\ (IntKind.i64.wrap (a + 1)) < (b.length : Int) then
    if (decide ((bor .i64 (shlI .i64 (IntKind.i64.wrap (List.getD b (Int.toNat a) 0)) 8) (IntKind.i64.wrap (List.getD b (Int.toNat (IntKind.i64.wrap (a + 1))) 0))) > 200)) = true then
     if (decide ((bor .i64 (shlI .i64 (IntKind.i64.wrap (List.getD b (Int.toNat a) 0)) 8) (IntKind.i64.wrap (List.getD b (Int.toNat (IntKind.i64.wrap (a + 1))) 0))) > 200)) = true then
      Xt0 a c
     else
      if 0 <= (IntKind.i64.wrap (a + 2)) /\ (IntKind.i64.wrap (a + 2)) <= (IntKind.i64.wrap ((IntKind.i64.wrap (a + 2)) + (bor .i64 (shlI .i64 (IntKind.i64.wrap (List.getD b (Int.toNat a) 0)) 8) (IntKind.i64.wrap (List.getD b (Int.toNat (IntKind.i64.wrap (a + 1))) 0))))) /\ (IntKind.i64.wrap ((IntKind.i64.wrap (a + 2)) + (bor .i64 (shlI .i64 (IntKind.i64.wrap (List.getD b (Int.toNat a) 0)) 8) (IntKind.i64.wrap (List.getD b (Int.toNat (IntKind.i64.wrap (a + 1))) 0))))) <= (b.length : Int) then
       if fitB (0 + (cutL b (IntKind.i64.wrap (a + 2)) (IntKind.i64.wrap ((IntKind.i64.wrap (a + 2)) + (bor .i64 (shlI .i64 (IntKind.i64.wrap (List.getD b (Int.toNat a) 0)) 8) (IntKind.i64.wrap (List.getD b (Int.toNat (IntKind.i64.wrap (a + 1))) 0)))))).length) 1 = true then
        if fitB (c.length + 1) 24 = true then
         Nx (IntKind.i64.wrap (a + (IntKind.i64.wrap ((bor .i64 (shlI .i64 (IntKind.i64.wrap (List.getD b (Int.toNat a) 0)) 8) (IntKind.i64.wrap (List.getD b (Int.toNat (IntKind.i64.wrap (a + 1))) 0))) + 3)))) b (c ++ [(cutL b (IntKind.i64.wrap (a + 2)) (IntKind.i64.wrap ((IntKind.i64.wrap (a + 2)) + (bor .i64 (shlI .i64 (IntKind.i64.wrap (List.getD b (Int.toNat a) 0)) 8) (IntKind.i64.wrap (List.getD b (Int.toNat (IntKind.i64.wrap (a + 1))) 0))))))])
        else none
       else none
      else none
    else
     if (decide ((IntKind.i64.wrap ((b.length : Int) - a)) < (IntKind.i64.wrap ((bor .i64 (shlI .i64 (IntKind.i64.wrap (List.getD b (Int.toNat a) 0)) 8) (IntKind.i64.wrap (List.getD b (Int.toNat (IntKind.i64.wrap (a + 1))) 0))) + 3)))) = true then
      if (decide ((IntKind.i64.wrap ((b.length : Int) - a)) < (IntKind.i64.wrap ((bor .i64 (shlI .i64 (IntKind.i64.wrap (List.getD b (Int.toNat a) 0)) 8) (IntKind.i64.wrap (List.getD b (Int.toNat (IntKind.i64.wrap (a + 1))) 0))) + 3)))) = true then
       Xt0 a c
      else
       if 0 <= (IntKind.i64.wrap (a + 2)) /\ (IntKind.i64.wrap (a + 2)) <= (IntKind.i64.wrap ((IntKind.i64.wrap (a + 2)) + (bor .i64 (shlI .i64 (IntKind.i64.wrap (List.getD b (Int.toNat a) 0)) 8) (IntKind.i64.wrap (List.getD b (Int.toNat (IntKind.i64.wrap (a + 1))) 0))))) /\ (IntKind.i64.wrap ((IntKind.i64.wrap (a + 2)) + (bor .i64 (shlI .i64 (IntKind.i64.wrap (List.getD b (Int.toNat a) 0)) 8) (IntKind.i64.wrap (List.getD b (Int.toNat (IntKind.i64.wrap (a + 1))) 0))))) <= (b.length : Int) then
        if fitB (0 + (cutL b (IntKind.i64.wrap (a + 2)) (IntKind.i64.wrap ((IntKind.i64.wrap (a + 2)) + (bor .i64 (shlI .i64 (IntKind.i64.wrap (List.getD b (Int.toNat a) 0)) 8) (IntKind.i64.wrap (List.getD b (Int.toNat (IntKind.i64.wrap (a + 1))) 0)))))).length) 1 = true then
         if fitB (c.length + 1) 24 = true then
          Nx (IntKind.i64.wrap (a + (IntKind.i64.wrap ((bor .i64 (shlI .i64 (IntKind.i64.wrap (List.getD b (Int.toNat a) 0)) 8) (IntKind.i64.wrap (List.getD b (Int.toNat (IntKind.i64.wrap (a + 1))) 0))) + 3)))) b (c ++ [(cutL b (IntKind.i64.wrap (a + 2)) (IntKind.i64.wrap ((IntKind.i64.wrap (a + 2)) + (bor .i64 (shlI .i64 (IntKind.i64.wrap (List.getD b (Int.toNat a) 0)) 8) (IntKind.i64.wrap (List.getD b (Int.toNat (IntKind.i64.wrap (a + 1))) 0))))))])
         else none
        else none
       else none
     else
      if 0 <= (IntKind.i64.wrap (a + 2)) /\ (IntKind.i64.wrap (a + 2)) <= (IntKind.i64.wrap ((IntKind.i64.wrap (a + 2)) + (bor .i64 (shlI .i64 (IntKind.i64.wrap (List.getD b (Int.toNat a) 0)) 8) (IntKind.i64.wrap (List.getD b (Int.toNat (IntKind.i64.wrap (a + 1))) 0))))) /\ (IntKind.i64.wrap ((IntKind.i64.wrap (a + 2)) + (bor .i64 (shlI .i64 (IntKind.i64.wrap (List.getD b (Int.toNat a) 0)) 8) (IntKind.i64.wrap (List.getD b (Int.toNat (IntKind.i64.wrap (a + 1))) 0))))) <= (b.length : Int) then
       (log_tail.run (cutL b (IntKind.i64.wrap (a + 2)) (IntKind.i64.wrap ((IntKind.i64.wrap (a + 2)) + (bor .i64 (shlI .i64 (IntKind.i64.wrap (List.getD b (Int.toNat a) 0)) 8) (IntKind.i64.wrap (List.getD b (Int.toNat (IntKind.i64.wrap (a + 1))) 0))))))).bind fun d =>
       if 0 <= (IntKind.i64.wrap ((IntKind.i64.wrap (a + 2)) + (bor .i64 (shlI .i64 (IntKind.i64.wrap (List.getD b (Int.toNat a) 0)) 8) (IntKind.i64.wrap (List.getD b (Int.toNat (IntKind.i64.wrap (a + 1))) 0))))) /\ (IntKind.i64.wrap ((IntKind.i64.wrap (a + 2)) + (bor .i64 (shlI .i64 (IntKind.i64.wrap (List.getD b (Int.toNat a) 0)) 8) (IntKind.i64.wrap (List.getD b (Int.toNat (IntKind.i64.wrap (a + 1))) 0))))) < (b.length : Int) then
        if (d != (List.getD b (Int.toNat (IntKind.i64.wrap ((IntKind.i64.wrap (a + 2)) + (bor .i64 (shlI .i64 (IntKind.i64.wrap (List.getD b (Int.toNat a) 0)) 8) (IntKind.i64.wrap (List.getD b (Int.toNat (IntKind.i64.wrap (a + 1))) 0)))))) 0)) = true then
         Xt0 a c
        else
         if 0 <= (IntKind.i64.wrap (a + 2)) /\ (IntKind.i64.wrap (a + 2)) <= (IntKind.i64.wrap ((IntKind.i64.wrap (a + 2)) + (bor .i64 (shlI .i64 (IntKind.i64.wrap (List.getD b (Int.toNat a) 0)) 8) (IntKind.i64.wrap (List.getD b (Int.toNat (IntKind.i64.wrap (a + 1))) 0))))) /\ (IntKind.i64.wrap ((IntKind.i64.wrap (a + 2)) + (bor .i64 (shlI .i64 (IntKind.i64.wrap (List.getD b (Int.toNat a) 0)) 8) (IntKind.i64.wrap (List.getD b (Int.toNat (IntKind.i64.wrap (a + 1))) 0))))) <= (b.length : Int) then
          if fitB (0 + (cutL b (IntKind.i64.wrap (a + 2)) (IntKind.i64.wrap ((IntKind.i64.wrap (a + 2)) + (bor .i64 (shlI .i64 (IntKind.i64.wrap (List.getD b (Int.toNat a) 0)) 8) (IntKind.i64.wrap (List.getD b (Int.toNat (IntKind.i64.wrap (a + 1))) 0)))))).length) 1 = true then
           if fitB (c.length + 1) 24 = true then
            Nx (IntKind.i64.wrap (a + (IntKind.i64.wrap ((bor .i64 (shlI .i64 (IntKind.i64.wrap (List.getD b (Int.toNat a) 0)) 8) (IntKind.i64.wrap (List.getD b (Int.toNat (IntKind.i64.wrap (a + 1))) 0))) + 3)))) b (c ++ [(cutL b (IntKind.i64.wrap (a + 2)) (IntKind.i64.wrap ((IntKind.i64.wrap (a + 2)) + (bor .i64 (shlI .i64 (IntKind.i64.wrap (List.getD b (Int.toNat a) 0)) 8) (IntKind.i64.wrap (List.getD b (Int.toNat (IntKind.i64.wrap (a + 1))) 0))))))])
           else none
          else none
         else none
       else none
      else none
   else none
  else none
 else
  Xt0 a c
theorem l0s_eq (k : Nat) (next : St->Option α) (Q : Ex->St->Option α) (a : Int) (c : D1) (b : D16) :
  rnd C k cd0 12 Q next (St1 a c b) = l0s (fun a c b=>next (St1 a c b)) (fun a b=>Q (.exit 0) (St2 a b)) a c b:=plainly Js (by kernel_rfl)
def l0 (k : Nat) (Xt0 : Int->D16->Option α) : Nat->Int->D1->D16->Option α
 | 0,_,_,_=>none
 | n + 1,a,b,c=>l0s (l0 k Xt0 n) Xt0 a b c
theorem l0_eq (k : Nat) (Q : Ex->St->Option α) : ∀ (n : Nat) (a : Int) (c : D1) (b : D16),iter (rnd C k cd0 12 Q) n (St1 a c b) = l0 k (fun a b=>Q (.exit 0) (St2 a b)) n a c b
 | 0,_,_,_=>rfl
 | n + 1,a,c,b=>(iter_succ _ _ _).trans ((l0s_eq k _ Q a c b).trans (congrArg (fun N=>l0s N (fun a b=>Q (.exit 0) (St2 a b)) a c b) (by funext; exact l0_eq k Q n _ _ _)))
noncomputable def cd1 : Code:=cR (cR (cR (cR (cR (cL (cR (cB Tryz.f30)))))))
def St3 (a : Int) (b : D16) : St:=stL 79 [(5,.data T1 a),(6,.app 72 0)] [(72,.buf T3 b 0 true)]
def St4 (a : Int) (b : D16) : St:=stL 79 [(2,.app 72 0),(3,.data T1 a)] [(72,.buf T3 b 0 true)]
def j0 (Rt : Int->D16->Option α) (a : Int) (b : D16) : Option α :=
 Rt a b
theorem j0_eq (k : Nat) (Q : Ex->St->Option α) (b : Int) (a : D16) :
  (den C k) cd1 Q (St3 b a) = j0 (fun c a=>Q .ret (St4 c a)) b a:=plainly Js (by kernel_rfl)
theorem a0 (k : Nat) (Q : Ex->St->Option α) (c : Int) (d : D1) (a : D16) :
  (lp C k) cd0 (blkQ C 0 (sq (den C k) (lp C k) Js C cd1 Q)) (St1 c d a) = l0 k (fun c a=>j0 (fun e a=>Q .ret (St4 e a)) c a) k c d a :=
 (lp_iter 12 (by kernel_rfl)).trans ((l0_eq k _ k c d a).trans (congrArg (fun X=>l0 k X k c d a) (funext fun c=>funext fun a=>(Eq.trans (b:=(den C k) cd1 Q (St3 c a)) (by kernel_rfl) (by simp only [j0_eq])))))
def top (k : Nat) (Rt : Int->D16->Option α) (a : D23) : Option α :=
 if fitB (0 + a.1.length) 1 = true then
  if fitB (a.1.length + a.2.1.length) 1 = true then
   l0 k (fun b c=>j0 Rt b c) k 0 (a.1 ++ a.2.1) []
  else none
 else none
theorem top_eq (k : Nat) (Q : Ex->St->Option α) (a : D23) :
  (den C k) (cB Tryz.f30) Q (St0 a) = top k (fun b c=>Q .ret (St4 b c)) a:=by
 have h : ∀ (D L : DT α),denJ D L Js C (cB Tryz.f30) Q (St0 a) =
    if fitB (0 + a.1.length) 1 = true then
     if fitB (a.1.length + a.2.1.length) 1 = true then
      L cd0 (blkQ C 0 (sq D L Js C cd1 Q)) (St1 0 (a.1 ++ a.2.1) [])
     else none
    else none:=by
  intro D L; kernel_rfl
 have h2:=via (k:=k) h
 refine h2.trans ?_
 simp only [a0]
 first | rfl | kernel_rfl
def run (a : D23) : Option D32:=top (α:=List D1 × Int × Unit) fuel (fun b c=>some (c,b,())) a
def F : Fn:=⟨T55,T65,true,fun x=>run x.1⟩
theorem con : Con Tryz.prog 30 F /\ Named Tryz.prog 30 :=
 con_of2 (C:=C) (ctx_ok (by kernel_rfl) (by kernel_rfl) (by kernel_rfl) (by kernel_rfl) ⟨.inl log_tail.con,trivial⟩) (by kernel_rfl) Tryz.func30 (by kernel_rfl) (c:=cB Tryz.f30) (by kernel_rfl) (by kernel_rfl) F (fun x=>by simp [F,spread,Tryz.ntmps30]) (fun x=>(St0 x.1)) (fun x=>by kernel_rfl) fun x=>(top_eq fuel _ x.1).trans (by kernel_rfl)
end Go.Bx.log_Open
namespace Go.Bx.log_Mend
def Js : List Nat:=[]
def C : Ctx:=⟨[(29,T3),(31,T11),(38,T1)],[],[],fnL [(30,log_Open.F)],noSh,[],invL [],[(2,[2,3])],[(2,[.dat false 2 [0]])],[21],0,0⟩
def St0 (a : D23) : St:=stL 23 [(0,.data T11 a)] []
def St1 (a : Int) (b : D1) : St:=stL 23 [(2,.ref 2 0 []),(3,.data T1 a)] [(2,.cell T11 (.agg T11 [.data T3 b,.full T6 []]) false)]
def top (Rt : Int->D1->Option α) (a : D23) : Option α :=
 if (decide ((a.2.1.length : Int) > 0)) = true then
  Rt 12 []
 else
  (log_Open.run a).bind fun b =>
  if 0 <= (0 : Int) /\ (0 : Int) <= b.2.1 /\ b.2.1 <= (a.1.length : Int) then
   if fitB (0 + (cutL a.1 0 b.2.1).length) 1 = true then
    Rt 0 (cutL a.1 0 b.2.1)
   else none
  else none
theorem top_eq (k : Nat) (Q : Ex->St->Option α) (a : D23) :
  (den C k) (cB Tryz.f29) Q (St0 a) = top (fun b c=>Q .ret (St1 b c)) a:=plainly Js (by kernel_rfl)
def run (a : D23) : Option D24:=top (α:=D23 × Int × Unit) (fun b c=>some ((c,[],()),b,())) a
def F : Fn:=⟨T55,T54,true,fun x=>run x.1⟩
theorem con : Con Tryz.prog 29 F /\ Named Tryz.prog 29 :=
 con_of2 (C:=C) (ctx_ok (by kernel_rfl) (by kernel_rfl) (by kernel_rfl) (by kernel_rfl) ⟨.inl log_Open.con,trivial⟩) (by kernel_rfl) Tryz.func29 (by kernel_rfl) (c:=cB Tryz.f29) (by kernel_rfl) (by kernel_rfl) F (fun x=>by simp [F,spread,Tryz.ntmps29]) (fun x=>(St0 x.1)) (fun x=>by kernel_rfl) fun x=>(top_eq fuel _ x.1).trans (by kernel_rfl)
end Go.Bx.log_Mend
namespace Go.Bx.basculeref_LogRecords
def Js : List Nat:=[11]
def C : Ctx:=⟨[(3,T1),(9,.str),(29,T3),(31,T11),(65,T64)],[],[],fnL [(39,basculeref_logText.F),(45,basculeref_number.F)],noSh,[],invL [],[(2,[2,3]),(1,[4,5,6]),(4,[4,5,6]),(12,[4,5,6]),(30,[4,5,6])],[(12,[.melt true 6 [] 48 true])],[],0,0⟩
def St0 (a : D23) : St:=stL 58 [(0,.data T11 a)] []
def St1 (a : D1) (b : Int) (c : D16) : St:=stL 58 [(4,.data .str a),(5,.data T1 b),(6,.app 48 0)] [(48,.buf T3 c 0 true)]
noncomputable def cd0 : Code:=cL (cL (cL (cR (cR (cR (cR (cB Tryz.f42)))))))
def St2 (a : D1) (b : Int) (c : D16) : St:=stL 58 [(4,.data .str a),(5,.data T1 b),(6,.app 48 0)] [(48,.buf T3 c 0 true)]
def l0s (Nx : D1->Int->D16->Option α) (Xt0 : D1->Int->D16->Option α) (a : D1) (d : Int) (c : D16) : Option α :=
 if (decide ((a.length : Int) >= 3)) = true then
  if 0 <= (0 : Int) /\ (0 : Int) <= (2 : Int) /\ (2 : Int) <= (a.length : Int) then
   (basculeref_number.run (cutL a 0 2)).bind fun b =>
   if (cond (decide (b > 200)) true (decide ((IntKind.i64.wrap (b + 3)) > (a.length : Int)))) = true then
    Xt0 a d c
   else
    if 0 <= (2 : Int) /\ (2 : Int) <= (IntKind.i64.wrap (2 + b)) /\ (IntKind.i64.wrap (2 + b)) <= (a.length : Int) then
     (basculeref_logText.run (cutL a 2 (IntKind.i64.wrap (2 + b)))).bind fun e =>
     if 0 <= (0 : Int) /\ (0 : Int) <= (IntKind.i64.wrap (b + 3)) /\ (IntKind.i64.wrap (b + 3)) <= (a.length : Int) then
      if (not (beqD .str e (cutL a 0 (IntKind.i64.wrap (b + 3))))) = true then
       Xt0 a d c
      else
       if fitB (c.length + 1) 24 = true then
        if 0 <= (IntKind.i64.wrap (b + 3)) /\ (IntKind.i64.wrap (b + 3)) <= (a.length : Int) /\ (a.length : Int) <= (a.length : Int) then
         Nx (cutL a (IntKind.i64.wrap (b + 3)) (a.length : Int)) d (c ++ [(cutL a 2 (IntKind.i64.wrap (2 + b)))])
        else none
       else none
     else none
    else none
  else none
 else
  Xt0 a d c
theorem l0s_eq (k : Nat) (next : St->Option α) (Q : Ex->St->Option α) (a : D1) (b : Int) (c : D16) :
  rnd C k cd0 12 Q next (St1 a b c) = l0s (fun a b c=>next (St1 a b c)) (fun a b c=>Q (.exit 0) (St2 a b c)) a b c:=plainly Js (by kernel_rfl)
def l0 (k : Nat) (Xt0 : D1->Int->D16->Option α) : Nat->D1->Int->D16->Option α
 | 0,_,_,_=>none
 | n + 1,a,b,c=>l0s (l0 k Xt0 n) Xt0 a b c
theorem l0_eq (k : Nat) (Q : Ex->St->Option α) : ∀ (n : Nat) (a : D1) (b : Int) (c : D16),iter (rnd C k cd0 12 Q) n (St1 a b c) = l0 k (fun a b c=>Q (.exit 0) (St2 a b c)) n a b c
 | 0,_,_,_=>rfl
 | n + 1,a,b,c=>(iter_succ _ _ _).trans ((l0s_eq k _ Q a b c).trans (congrArg (fun N=>l0s N (fun a b c=>Q (.exit 0) (St2 a b c)) a b c) (by funext; exact l0_eq k Q n _ _ _)))
noncomputable def cd1 : Code:=cR (cR (cR (cR (cR (cB Tryz.f42)))))
def St3 (a : D1) (b : Int) (c : D16) : St:=stL 58 [(4,.data .str a),(5,.data T1 b),(6,.app 48 0)] [(48,.buf T3 c 0 true)]
def St4 (a : Int) (b : D16) : St:=stL 58 [(2,.app 48 0),(3,.data T1 a)] [(48,.buf T3 b 0 true)]
def j0 (Rt : Int->D16->Option α) (a : D1) (b : Int) (c : D16) : Option α :=
 Rt (IntKind.i64.wrap (b - (a.length : Int))) c
theorem j0_eq (k : Nat) (Q : Ex->St->Option α) (b : D1) (c : Int) (a : D16) :
  (den C k) cd1 Q (St3 b c a) = j0 (fun d a=>Q .ret (St4 d a)) b c a:=plainly Js (by kernel_rfl)
theorem a0 (k : Nat) (Q : Ex->St->Option α) (c : D1) (d : Int) (a : D16) :
  (lp C k) cd0 (blkQ C 0 (sq (den C k) (lp C k) Js C cd1 Q)) (St1 c d a) = l0 k (fun c d a=>j0 (fun e a=>Q .ret (St4 e a)) c d a) k c d a :=
 (lp_iter 12 (by kernel_rfl)).trans ((l0_eq k _ k c d a).trans (congrArg (fun X=>l0 k X k c d a) (funext fun c=>funext fun d=>funext fun a=>(Eq.trans (b:=(den C k) cd1 Q (St3 c d a)) (by kernel_rfl) (by simp only [j0_eq])))))
def top (k : Nat) (Rt : Int->D16->Option α) (a : D23) : Option α :=
 if Nat.ble (a.1.length + a.2.1.length) 9223372036854775807 = true then
  l0 k (fun b c d=>j0 Rt b c d) k (a.1 ++ a.2.1) ((a.1 ++ a.2.1).length : Int) []
 else none
theorem top_eq (k : Nat) (Q : Ex->St->Option α) (a : D23) :
  (den C k) (cB Tryz.f42) Q (St0 a) = top k (fun b c=>Q .ret (St4 b c)) a:=by
 have h : ∀ (D L : DT α),denJ D L Js C (cB Tryz.f42) Q (St0 a) =
    if Nat.ble (a.1.length + a.2.1.length) 9223372036854775807 = true then
     L cd0 (blkQ C 0 (sq D L Js C cd1 Q)) (St1 (a.1 ++ a.2.1) ((a.1 ++ a.2.1).length : Int) [])
    else none:=by
  intro D L; kernel_rfl
 have h2:=via (k:=k) h
 refine h2.trans ?_
 simp only [a0]
 first | rfl | kernel_rfl
def run (a : D23) : Option D32:=top (α:=List D1 × Int × Unit) fuel (fun b c=>some (c,b,())) a
def F : Fn:=⟨T55,T65,true,fun x=>run x.1⟩
theorem con : Con Tryz.prog 42 F /\ Named Tryz.prog 42 :=
 con_of2 (C:=C) (ctx_ok (by kernel_rfl) (by kernel_rfl) (by kernel_rfl) (by kernel_rfl) ⟨.inl basculeref_logText.con,⟨.inl basculeref_number.con,trivial⟩⟩) (by kernel_rfl) Tryz.func42 (by kernel_rfl) (c:=cB Tryz.f42) (by kernel_rfl) (by kernel_rfl) F (fun x=>by simp [F,spread,Tryz.ntmps42]) (fun x=>(St0 x.1)) (fun x=>by kernel_rfl) fun x=>(top_eq fuel _ x.1).trans (by kernel_rfl)
end Go.Bx.basculeref_LogRecords
namespace Go.Bx.basculeref_LogMended
def Js : List Nat:=[]
def C : Ctx:=⟨[(9,.str),(29,T3),(31,T11),(38,T1)],[],[],fnL [(42,basculeref_LogRecords.F)],noSh,[],invL [],[(2,[2,3])],[(2,[.dat false 2 [0]])],[],0,0⟩
def St0 (a : D23) : St:=stL 23 [(0,.data T11 a)] []
def St1 (a : Int) (b : D1) : St:=stL 23 [(2,.ref 2 0 []),(3,.data T1 a)] [(2,.cell T11 (.agg T11 [.data T3 b,.full T6 []]) false)]
def top (Rt : Int->D1->Option α) (a : D23) : Option α :=
 if (decide ((a.2.1.length : Int) > 0)) = true then
  Rt 12 []
 else
  (basculeref_LogRecords.run a).bind fun b =>
  if 0 <= (0 : Int) /\ (0 : Int) <= b.2.1 /\ b.2.1 <= (a.1.length : Int) then
   Rt 0 (cutL a.1 0 b.2.1)
  else none
theorem top_eq (k : Nat) (Q : Ex->St->Option α) (a : D23) :
  (den C k) (cB Tryz.f41) Q (St0 a) = top (fun b c=>Q .ret (St1 b c)) a:=plainly Js (by kernel_rfl)
def run (a : D23) : Option D24:=top (α:=D23 × Int × Unit) (fun b c=>some ((c,[],()),b,())) a
def F : Fn:=⟨T55,T54,true,fun x=>run x.1⟩
theorem con : Con Tryz.prog 41 F /\ Named Tryz.prog 41 :=
 con_of2 (C:=C) (ctx_ok (by kernel_rfl) (by kernel_rfl) (by kernel_rfl) (by kernel_rfl) ⟨.inl basculeref_LogRecords.con,trivial⟩) (by kernel_rfl) Tryz.func41 (by kernel_rfl) (c:=cB Tryz.f41) (by kernel_rfl) (by kernel_rfl) F (fun x=>by simp [F,spread,Tryz.ntmps41]) (fun x=>(St0 x.1)) (fun x=>by kernel_rfl) fun x=>(top_eq fuel _ x.1).trans (by kernel_rfl)
end Go.Bx.basculeref_LogMended
namespace Go.Bx.gate_value
def Js : List Nat:=[]
def C : Ctx:=⟨[(3,T1),(4,.bool)],[],[],fnL [],noSh,[],invL [],[(2,[2])],[],[],0,0⟩
def St0 (a : Int) : St:=stL 9 [(0,.data T1 a)] []
def St1 (a : Bool) : St:=stL 9 [(2,.data .bool a)] []
def top (Rt : Bool->Option α) (a : Int) : Option α :=
 Rt (cond (decide (a >= 0)) (decide (a <= 1073741824)) false)
theorem top_eq (k : Nat) (Q : Ex->St->Option α) (a : Int) :
  (den C k) (cB Tryz.f73) Q (St0 a) = top (fun b=>Q .ret (St1 b)) a:=plainly Js (by kernel_rfl)
def run (a : Int) : Option (Bool):=top (α:=Bool) (fun b=>some b) a
def F : Fn:=⟨T18,.bool,false,fun x=>run x.1⟩
theorem con : Con Tryz.prog 73 F /\ Named Tryz.prog 73 :=
 con_of2 (C:=C) (ctx_ok (by kernel_rfl) (by kernel_rfl) (by kernel_rfl) (by kernel_rfl) trivial) (by kernel_rfl) Tryz.func73 (by kernel_rfl) (c:=cB Tryz.f73) (by kernel_rfl) (by kernel_rfl) F (fun x=>by simp [F,spread,Tryz.ntmps73]) (fun x=>(St0 x.1)) (fun x=>by kernel_rfl) fun x=>(top_eq fuel _ x.1).trans (by kernel_rfl)
end Go.Bx.gate_value
namespace Go.Bx.gate_Check
def Js : List Nat:=[10,20,21]
def C : Ctx:=⟨[(3,T1),(25,T19),(26,T20),(28,T21),(38,T1),(112,T22)],[],[],fnL [(73,gate_value.F)],noSh,[],invL [],[(2,[2]),(7,[3]),(10,[1,3,5,54,55,56]),(13,[1,3,5,54,55,56]),(16,[1,3,5,7,54,55,56,91,92,93]),(1,[1,3]),(4,[1,3,28]),(15,[1,3,28]),(27,[1,3]),(33,[1,3,5,54,55,56]),(45,[1,3,5,7,54,55,56,91,92,93]),(57,[1,3,5,54,55,56]),(60,[3])],[],[50],0,0⟩
def St0 (a : D8) : St:=stL 109 [(0,.data T21 a)] []
def St1 (a : Int) : St:=stL 109 [(2,.data T1 a)] []
def St2 (a : Bool) (b : Int) (c : D8) : St:=stL 109 [(1,.ref 1 0 []),(3,.data .bool a),(28,.data T1 b)] [(1,.cell T21 (.data T21 c) false)]
noncomputable def cd0 : Code:=cL (cL (cR (cL (cR (cR (cR (cB Tryz.f57)))))))
def St3 (a : Bool) (b : D8) : St:=stL 109 [(1,.ref 1 0 []),(3,.data .bool a)] [(1,.cell T21 (.data T21 b) false)]
def l0s (Nx : Bool->Int->D8->Option α) (Xt0 : Bool->D8->Option α) (b : Bool) (a : Int) (c : D8) : Option α :=
 if (decide (a < 3)) = true then
  cond (decide (0 <= a /\ a < (3 : Int)) || !(b == true)) (
   (if (b == true) = true then gate_value.run (List.getD c.1 (Int.toNat a) 0) else some false).bind fun d =>
   cond (decide (0 <= a /\ a < (3 : Int)) || !((cond b d false) == true)) (
    (if ((cond b d false) == true) = true then gate_value.run (List.getD c.2.1 (Int.toNat a) 0) else some false).bind fun e =>
    Nx (cond (cond b d false) e false) (IntKind.i64.wrap (a + 1)) c) none) none
 else
  Xt0 b c
theorem l0s_eq (k : Nat) (next : St->Option α) (Q : Ex->St->Option α) (a : Bool) (c : Int) (b : D8) :
  rnd C k cd0 15 Q next (St2 a c b) = l0s (fun a c b=>next (St2 a c b)) (fun a b=>Q (.exit 0) (St3 a b)) a c b:=plainly Js (by kernel_rfl)
def l0 (k : Nat) (Xt0 : Bool->D8->Option α) : Nat->Bool->Int->D8->Option α
 | 0,_,_,_=>none
 | n + 1,a,b,c=>l0s (l0 k Xt0 n) Xt0 a b c
theorem l0_eq (k : Nat) (Q : Ex->St->Option α) : ∀ (n : Nat) (a : Bool) (c : Int) (b : D8),iter (rnd C k cd0 15 Q) n (St2 a c b) = l0 k (fun a b=>Q (.exit 0) (St3 a b)) n a c b
 | 0,_,_,_=>rfl
 | n + 1,a,c,b=>(iter_succ _ _ _).trans ((l0s_eq k _ Q a c b).trans (congrArg (fun N=>l0s N (fun a b=>Q (.exit 0) (St3 a b)) a c b) (by funext; exact l0_eq k Q n _ _ _)))
noncomputable def cd1 : Code:=cR (cR (cR (cR (cB Tryz.f57))))
def St4 (a : Bool) (b : D8) : St:=stL 109 [(1,.ref 1 0 []),(3,.data .bool a)] [(1,.cell T21 (.data T21 b) false)]
def St5 (a : Bool) (b c : Int) (d : D8) (e : D9) : St:=stL 109 [(1,.ref 1 0 []),(3,.data .bool a),(5,.app 50 0),(54,.app 50 0),(55,.data T1 b),(56,.data T1 c)] [(1,.cell T21 (.data T21 d) false),(50,.buf T22 e 0 true)]
noncomputable def cd2 : Code:=cL (cL (cR (cL (cR (cR (cR (cR (cR (cB Tryz.f57)))))))))
def St6 (a : Bool) (b c : Int) (d : D9) (e f : Int) (g : D8) (i : D10) (j : D9) : St:=stL 109 [(1,.ref 1 0 []),(3,.data .bool a),(5,.app 50 0),(7,.ref 7 0 []),(54,.app 50 0),(55,.data T1 b),(56,.data T1 c),(91,.data T20 d),(92,.data T1 e),(93,.data T1 f)] [(1,.cell T21 (.data T21 g) false),(7,.cell T22 (.data T22 i) false),(50,.buf T22 j 0 true)]
noncomputable def cd3 : Code:=cL (cL (cR (cR (cR (cL (cL (cR (cR (cL (cL (cR (cL (cR (cR (cR (cR (cR (cB Tryz.f57))))))))))))))))))
def St7 (a : Bool) (b c : Int) (d : D8) (e : D9) : St:=stL 109 [(1,.ref 1 0 []),(3,.data .bool a),(5,.app 50 0),(54,.app 50 0),(55,.data T1 b),(56,.data T1 c)] [(1,.cell T21 (.data T21 d) false),(50,.buf T22 e 0 true)]
def l2s (Nx : Bool->Int->Int->D9->Int->Int->D8->D10->D9->Option α) (Xt4 : Bool->Int->Int->D8->D9->Option α) (c : Bool) (d e : Int) (b : D9) (f a : Int) (g : D8) (i : D10) (j : D9) : Option α :=
 if (decide (a < f)) = true then
  if 0 <= a /\ a < (b.length : Int) then
   Nx (cond c (i.1 != (List.getD b (Int.toNat a) (0,0,0,0,())).1) false) d e b f (IntKind.i64.wrap (a + 1)) g i j
  else none
 else
  Xt4 c d e g j
theorem l2s_eq (k : Nat) (next : St->Option α) (Q : Ex->St->Option α) (a : Bool) (b c : Int) (f : D9) (g i : Int) (d : D8) (j : D10) (e : D9) :
  rnd C k cd3 45 Q next (St6 a b c f g i d j e) = l2s (fun a b c f g i d j e=>next (St6 a b c f g i d j e)) (fun a b c d e=>Q (.exit 4) (St7 a b c d e)) a b c f g i d j e:=plainly Js (by kernel_rfl)
def l2 (k : Nat) (Xt4 : Bool->Int->Int->D8->D9->Option α) : Nat->Bool->Int->Int->D9->Int->Int->D8->D10->D9->Option α
 | 0,_,_,_,_,_,_,_,_,_=>none
 | n + 1,a,b,c,d,e,f,g,i,j=>l2s (l2 k Xt4 n) Xt4 a b c d e f g i j
theorem l2_eq (k : Nat) (Q : Ex->St->Option α) : ∀ (n : Nat) (a : Bool) (b c : Int) (f : D9) (g i : Int) (d : D8) (j : D10) (e : D9),iter (rnd C k cd3 45 Q) n (St6 a b c f g i d j e) = l2 k (fun a b c d e=>Q (.exit 4) (St7 a b c d e)) n a b c f g i d j e
 | 0,_,_,_,_,_,_,_,_,_=>rfl
 | n + 1,a,b,c,f,g,i,d,j,e=>(iter_succ _ _ _).trans ((l2s_eq k _ Q a b c f g i d j e).trans (congrArg (fun N=>l2s N (fun a b c d e=>Q (.exit 4) (St7 a b c d e)) a b c f g i d j e) (by funext; exact l2_eq k Q n _ _ _ _ _ _ _ _ _)))
noncomputable def cd4 : Code:=cR (cR (cR (cL (cL (cR (cL (cR (cR (cR (cR (cR (cB Tryz.f57))))))))))))
def St8 (a : Bool) (b c : Int) (d : D8) (e : D9) : St:=stL 109 [(1,.ref 1 0 []),(3,.data .bool a),(5,.app 50 0),(54,.app 50 0),(55,.data T1 b),(56,.data T1 c)] [(1,.cell T21 (.data T21 d) false),(50,.buf T22 e 0 true)]
def j1 (Nx : Bool->Int->Int->D8->D9->Option α) (a : Bool) (b c : Int) (d : D8) (e : D9) : Option α :=
 Nx a b (IntKind.i64.wrap (c + 1)) d e
theorem j1_eq (k : Nat) (next : St->Option α) (Q : Ex->St->Option α) (a : Bool) (b c : Int) (d : D8) (e : D9) :
  (den C k) cd4 (lq C 33 next Q) (St8 a b c d e) = j1 (fun a b c d e=>next (St5 a b c d e)) a b c d e:=plainly Js (by kernel_rfl)
theorem a0 (k : Nat) (next : St->Option α) (Q : Ex->St->Option α) (a : Bool) (c d : Int) (g : D9) (i j : Int) (e : D8) (l : D10) (f : D9) :
  (lp C k) cd3 (blkQ C 4 (blkQ C 3 (sq (den C k) (lp C k) Js C cd4 (lq C 33 next Q)))) (St6 a c d g i j e l f) = l2 k (fun a c d e f=>j1 (fun a c d e f=>next (St5 a c d e f)) a c d e f) k a c d g i j e l f :=
 (lp_iter 45 (by kernel_rfl)).trans ((l2_eq k _ k a c d g i j e l f).trans (congrArg (fun X=>l2 k X k a c d g i j e l f) (funext fun a=>funext fun c=>funext fun d=>funext fun e=>funext fun f=>(Eq.trans (b:=(den C k) cd4 (lq C 33 next Q) (St8 a c d e f)) (by kernel_rfl) (by simp only [j1_eq])))))
def St9 (a : Bool) : St:=stL 109 [(3,.data .bool a)] []
def l1s (k : Nat) (Nx : Bool->Int->Int->D8->D9->Option α) (Xt2 : Bool->Option α) (c : Bool) (d a : Int) (e : D8) (b : D9) : Option α :=
 if (decide (a < d)) = true then
  if 0 <= a /\ a < (b.length : Int) then
   (if (c == true) = true then gate_value.run (List.getD b (Int.toNat a) (0,0,0,0,())).2.1 else some false).bind fun f =>
   if 0 <= (0 : Int) /\ (0 : Int) <= a /\ a <= (b.length : Int) then
    l2 k (fun c d a e b=>j1 Nx c d a e b) k (cond (cond (cond (cond (cond c f false) (decide ((List.getD b (Int.toNat a) (0,0,0,0,())).2.2.1 >= 0)) false) (decide ((List.getD b (Int.toNat a) (0,0,0,0,())).2.2.1 < 3)) false) (decide ((List.getD b (Int.toNat a) (0,0,0,0,())).2.2.2.1 >= 0)) false) (decide ((List.getD b (Int.toNat a) (0,0,0,0,())).2.2.2.1 <= e.2.2.1)) false) d a (cutL b 0 a) ((cutL b 0 a).length : Int) 0 e (List.getD b (Int.toNat a) (0,0,0,0,())) b
   else none
  else none
 else
  Xt2 c
theorem l1s_eq (k : Nat) (next : St->Option α) (Q : Ex->St->Option α) (c : Bool) (d a : Int) (e : D8) (b : D9) :
  rnd C k cd2 33 Q next (St5 c d a e b) = l1s k (fun c d a e b=>next (St5 c d a e b)) (fun c=>Q (.exit 2) (St9 c)) c d a e b:=by
 have h : ∀ (D L : DT α),denJ D L Js C cd2 (lq C 33 next Q) (St5 c d a e b) =
    if (decide (a < d)) = true then
     if 0 <= a /\ a < (b.length : Int) then
      (if (c == true) = true then gate_value.run (List.getD b (Int.toNat a) (0,0,0,0,())).2.1 else some false).bind fun f =>
      if 0 <= (0 : Int) /\ (0 : Int) <= a /\ a <= (b.length : Int) then
       L cd3 (blkQ C 4 (blkQ C 3 (sq D L Js C cd4 (lq C 33 next Q)))) (St6 (cond (cond (cond (cond (cond c f false) (decide ((List.getD b (Int.toNat a) (0,0,0,0,())).2.2.1 >= 0)) false) (decide ((List.getD b (Int.toNat a) (0,0,0,0,())).2.2.1 < 3)) false) (decide ((List.getD b (Int.toNat a) (0,0,0,0,())).2.2.2.1 >= 0)) false) (decide ((List.getD b (Int.toNat a) (0,0,0,0,())).2.2.2.1 <= e.2.2.1)) false) d a (cutL b 0 a) ((cutL b 0 a).length : Int) 0 e (List.getD b (Int.toNat a) (0,0,0,0,())) b)
      else none
     else none
    else
     Q (.exit 2) (St9 c):=by
  intro D L; kernel_rfl
 have h2:=via (k:=k) h
 refine h2.trans ?_
 simp only [a0]
 first | rfl | kernel_rfl
def l1 (k : Nat) (Xt2 : Bool->Option α) : Nat->Bool->Int->Int->D8->D9->Option α
 | 0,_,_,_,_,_=>none
 | n + 1,a,b,c,d,e=>l1s k (l1 k Xt2 n) Xt2 a b c d e
theorem l1_eq (k : Nat) (Q : Ex->St->Option α) : ∀ (n : Nat) (a : Bool) (b c : Int) (d : D8) (e : D9),iter (rnd C k cd2 33 Q) n (St5 a b c d e) = l1 k (fun a=>Q (.exit 2) (St9 a)) n a b c d e
 | 0,_,_,_,_,_=>rfl
 | n + 1,a,b,c,d,e=>(iter_succ _ _ _).trans ((l1s_eq k _ Q a b c d e).trans (congrArg (fun N=>l1s k N (fun a=>Q (.exit 2) (St9 a)) a b c d e) (by funext; exact l1_eq k Q n _ _ _ _ _)))
noncomputable def cd5 : Code:=cR (cR (cR (cR (cR (cR (cB Tryz.f57))))))
def St10 (a : Bool) : St:=stL 109 [(3,.data .bool a)] []
def j2 (Rt : Int->Option α) (a : Bool) : Option α :=
 if (not a) = true then
  Rt 12
 else
  Rt 0
theorem j2_eq (k : Nat) (Q : Ex->St->Option α) (a : Bool) :
  (den C k) cd5 Q (St10 a) = j2 (fun b=>Q .ret (St1 b)) a:=plainly Js (by kernel_rfl)
theorem a1 (k : Nat) (Q : Ex->St->Option α) (a : Bool) (c d : Int) (e : D8) (f : D9) :
  (lp C k) cd2 (blkQ C 2 (sq (den C k) (lp C k) Js C cd5 Q)) (St5 a c d e f) = l1 k (fun a=>j2 (fun g=>Q .ret (St1 g)) a) k a c d e f :=
 (lp_iter 33 (by kernel_rfl)).trans ((l1_eq k _ k a c d e f).trans (congrArg (fun X=>l1 k X k a c d e f) (funext fun a=>(Eq.trans (b:=(den C k) cd5 Q (St10 a)) (by kernel_rfl) (by simp only [j2_eq])))))
def j0 (k : Nat) (Rt : Int->Option α) (b : Bool) (a : D8) : Option α :=
 if fitB (0 + a.2.2.2.1.length) 32 = true then
  if fitB (a.2.2.2.1.length + a.2.2.2.2.1.length) 32 = true then
   l1 k (fun b=>j2 Rt b) k b ((a.2.2.2.1 ++ a.2.2.2.2.1).length : Int) 0 a (a.2.2.2.1 ++ a.2.2.2.2.1)
  else none
 else none
theorem j0_eq (k : Nat) (Q : Ex->St->Option α) (b : Bool) (a : D8) :
  (den C k) cd1 Q (St4 b a) = j0 k (fun c=>Q .ret (St1 c)) b a:=by
 have h : ∀ (D L : DT α),denJ D L Js C cd1 Q (St4 b a) =
    if fitB (0 + a.2.2.2.1.length) 32 = true then
     if fitB (a.2.2.2.1.length + a.2.2.2.2.1.length) 32 = true then
      L cd2 (blkQ C 2 (sq D L Js C cd5 Q)) (St5 b ((a.2.2.2.1 ++ a.2.2.2.2.1).length : Int) 0 a (a.2.2.2.1 ++ a.2.2.2.2.1))
     else none
    else none:=by
  intro D L; kernel_rfl
 have h2:=via (k:=k) h
 refine h2.trans ?_
 simp only [a1]
 first | rfl | kernel_rfl
theorem a2 (k : Nat) (Q : Ex->St->Option α) (a : Bool) (d : Int) (c : D8) :
  (lp C k) cd0 (blkQ C 0 (sq (den C k) (lp C k) Js C cd1 Q)) (St2 a d c) = l0 k (fun a c=>j0 k (fun e=>Q .ret (St1 e)) a c) k a d c :=
 (lp_iter 15 (by kernel_rfl)).trans ((l0_eq k _ k a d c).trans (congrArg (fun X=>l0 k X k a d c) (funext fun a=>funext fun c=>(Eq.trans (b:=(den C k) cd1 Q (St4 a c)) (by kernel_rfl) (by simp only [j0_eq])))))
def top (k : Nat) (Rt : Int->Option α) (a : D8) : Option α :=
 if (cond (decide ((a.2.2.2.1.length : Int) > 40)) true (decide ((a.2.2.2.2.1.length : Int) > 40))) = true then
  Rt 1
 else
  l0 k (fun b c=>j0 k Rt b c) k (cond (decide (a.2.2.1 >= 0)) (decide (a.2.2.1 <= 1099511627776)) false) 0 a
theorem top_eq (k : Nat) (Q : Ex->St->Option α) (a : D8) :
  (den C k) (cB Tryz.f57) Q (St0 a) = top k (fun b=>Q .ret (St1 b)) a:=by
 have h : ∀ (D L : DT α),denJ D L Js C (cB Tryz.f57) Q (St0 a) =
    if (cond (decide ((a.2.2.2.1.length : Int) > 40)) true (decide ((a.2.2.2.2.1.length : Int) > 40))) = true then
     Q .ret (St1 1)
    else
     L cd0 (blkQ C 0 (sq D L Js C cd1 Q)) (St2 (cond (decide (a.2.2.1 >= 0)) (decide (a.2.2.1 <= 1099511627776)) false) 0 a):=by
  intro D L; kernel_rfl
 have h2:=via (k:=k) h
 refine h2.trans ?_
 simp only [a2]
 first | rfl | kernel_rfl
def run (a : D8) : Option (Int):=top (α:=Int) fuel (fun b=>some b) a
def F : Fn:=⟨T23,T1,false,fun x=>run x.1⟩
theorem con : Con Tryz.prog 57 F /\ Named Tryz.prog 57 :=
 con_of2 (C:=C) (ctx_ok (by kernel_rfl) (by kernel_rfl) (by kernel_rfl) (by kernel_rfl) ⟨.inl gate_value.con,trivial⟩) (by kernel_rfl) Tryz.func57 (by kernel_rfl) (c:=cB Tryz.f57) (by kernel_rfl) (by kernel_rfl) F (fun x=>by simp [F,spread,Tryz.ntmps57]) (fun x=>(St0 x.1)) (fun x=>by kernel_rfl) fun x=>(top_eq fuel _ x.1).trans (by kernel_rfl)
end Go.Bx.gate_Check
namespace Go.Bx.basculeref_GateFault
def Js : List Nat:=[10,22,23]
def C : Ctx:=⟨[(3,T1),(25,T19),(26,T20),(28,T21),(38,T1),(112,T22),(129,T93)],[],[(128,(3,3))],fnL [(64,basculeref_upTo.F)],noSh,[],invL [],[(2,[2]),(7,[3,5,6]),(10,[1,3,5,6,48,49,50]),(13,[1,3,5,6,48,49,50]),(16,[1,3,5,6,48,49,50,54,55,56]),(1,[1,3]),(4,[1,3,24]),(15,[1,3,24]),(27,[1,3]),(36,[1,3,5,6,48,49,50]),(45,[1,3,5,6,48,49,50,54,55,56]),(63,[1,3,5,6,48,49,50]),(66,[3,5,6])],[],[],0,0⟩
def St0 (a : D8) : St:=stL 95 [(0,.data T21 a)] []
def St1 (a : Int) : St:=stL 95 [(2,.data T1 a)] []
def St2 (a : Bool) (b : Int) (c : D8) : St:=stL 95 [(1,.ref 1 0 []),(3,.data .bool a),(24,.data T1 b)] [(1,.cell T21 (.data T21 c) false)]
noncomputable def cd0 : Code:=cL (cL (cR (cL (cR (cR (cR (cB Tryz.f65)))))))
def St3 (a : Bool) (b : D8) : St:=stL 95 [(1,.ref 1 0 []),(3,.data .bool a)] [(1,.cell T21 (.data T21 b) false)]
def l0s (Nx : Bool->Int->D8->Option α) (Xt0 : Bool->D8->Option α) (b : Bool) (a : Int) (c : D8) : Option α :=
 if (decide (a < 3)) = true then
  cond (decide (0 <= a /\ a < (3 : Int)) || !(b == true)) (
   (if (b == true) = true then basculeref_upTo.run (List.getD c.1 (Int.toNat a) 0) 1073741824 else some false).bind fun d =>
   cond (decide (0 <= a /\ a < (3 : Int)) || !((cond b d false) == true)) (
    (if ((cond b d false) == true) = true then basculeref_upTo.run (List.getD c.2.1 (Int.toNat a) 0) 1073741824 else some false).bind fun e =>
    Nx (cond (cond b d false) e false) (IntKind.i64.wrap (a + 1)) c) none) none
 else
  Xt0 b c
theorem l0s_eq (k : Nat) (next : St->Option α) (Q : Ex->St->Option α) (a : Bool) (c : Int) (b : D8) :
  rnd C k cd0 15 Q next (St2 a c b) = l0s (fun a c b=>next (St2 a c b)) (fun a b=>Q (.exit 0) (St3 a b)) a c b:=plainly Js (by kernel_rfl)
def l0 (k : Nat) (Xt0 : Bool->D8->Option α) : Nat->Bool->Int->D8->Option α
 | 0,_,_,_=>none
 | n + 1,a,b,c=>l0s (l0 k Xt0 n) Xt0 a b c
theorem l0_eq (k : Nat) (Q : Ex->St->Option α) : ∀ (n : Nat) (a : Bool) (c : Int) (b : D8),iter (rnd C k cd0 15 Q) n (St2 a c b) = l0 k (fun a b=>Q (.exit 0) (St3 a b)) n a c b
 | 0,_,_,_=>rfl
 | n + 1,a,c,b=>(iter_succ _ _ _).trans ((l0s_eq k _ Q a c b).trans (congrArg (fun N=>l0s N (fun a b=>Q (.exit 0) (St3 a b)) a c b) (by funext; exact l0_eq k Q n _ _ _)))
noncomputable def cd1 : Code:=cR (cR (cR (cR (cB Tryz.f65))))
def St4 (a : Bool) (b : D8) : St:=stL 95 [(1,.ref 1 0 []),(3,.data .bool a)] [(1,.cell T21 (.data T21 b) false)]
def St5 (a : Bool) (b : Int) (c : D12) (d e : Int) (f : D8) (g : D47) : St:=stL 95 [(1,.ref 1 0 []),(3,.data .bool a),(5,.map 43),(6,.data T1 b),(48,.full T20 c),(49,.data T1 d),(50,.data T1 e)] [(1,.cell T21 (.data T21 f) false),(43,.map T1 T1 g)]
noncomputable def cd2 : Code:=cL (cL (cR (cL (cR (cR (cR (cR (cR (cR (cB Tryz.f65))))))))))
def St6 (a : Bool) (b : Int) (c : D12) (d e : Int) (f : D9) (g i : Int) (j : D8) (k : D47) : St:=stL 95 [(1,.ref 1 0 []),(3,.data .bool a),(5,.map 43),(6,.data T1 b),(48,.full T20 c),(49,.data T1 d),(50,.data T1 e),(54,.data T20 f),(55,.data T1 g),(56,.data T1 i)] [(1,.cell T21 (.data T21 j) false),(43,.map T1 T1 k)]
noncomputable def cd3 : Code:=cL (cL (cR (cR (cL (cL (cR (cR (cL (cL (cR (cL (cR (cR (cR (cR (cR (cR (cB Tryz.f65))))))))))))))))))
def St7 (a : Bool) (b : Int) (c : D12) (d e : Int) (f : D8) (g : D47) : St:=stL 95 [(1,.ref 1 0 []),(3,.data .bool a),(5,.map 43),(6,.data T1 b),(48,.full T20 c),(49,.data T1 d),(50,.data T1 e)] [(1,.cell T21 (.data T21 f) false),(43,.map T1 T1 g)]
def l2s (Nx : Bool->Int->D12->Int->Int->D9->Int->Int->D8->D47->Option α) (Xt4 : Bool->Int->D12->Int->Int->D8->D47->Option α) (c : Bool) (g : Int) (i : D12) (j k : Int) (b : D9) (l a : Int) (d : D8) (e : D47) : Option α :=
 if (decide (a < l)) = true then
  if 0 <= a /\ a < (b.length : Int) then
   (if (c == true) = true then basculeref_upTo.run (List.getD b (Int.toNat a) (0,0,0,0,())).2.1 1073741824 else some false).bind fun f =>
   (if ((cond c f false) == true) = true then basculeref_upTo.run (List.getD b (Int.toNat a) (0,0,0,0,())).2.2.1 2 else some false).bind fun m =>
   (if ((cond (cond c f false) m false) == true) = true then basculeref_upTo.run (List.getD b (Int.toNat a) (0,0,0,0,())).2.2.2.1 d.2.2.1 else some false).bind fun n =>
   Nx (cond (cond (cond c f false) m false) n false) (IntKind.i64.wrap (g + 1)) i j k b l (IntKind.i64.wrap (a + 1)) d (setM (beqD T1) (List.getD b (Int.toNat a) (0,0,0,0,())).1 (IntKind.i64.wrap ((getM (beqD T1) (List.getD b (Int.toNat a) (0,0,0,0,())).1 0 e) + 1)) e)
  else none
 else
  Xt4 c g i j k d e
theorem l2s_eq (k : Nat) (next : St->Option α) (Q : Ex->St->Option α) (a : Bool) (b : Int) (c : D12) (d e : Int) (i : D9) (j l : Int) (f : D8) (g : D47) :
  rnd C k cd3 45 Q next (St6 a b c d e i j l f g) = l2s (fun a b c d e i j l f g=>next (St6 a b c d e i j l f g)) (fun a b c d e f g=>Q (.exit 4) (St7 a b c d e f g)) a b c d e i j l f g:=plainly Js (by kernel_rfl)
def l2 (k : Nat) (Xt4 : Bool->Int->D12->Int->Int->D8->D47->Option α) : Nat->Bool->Int->D12->Int->Int->D9->Int->Int->D8->D47->Option α
 | 0,_,_,_,_,_,_,_,_,_,_=>none
 | n + 1,a,b,c,d,e,f,g,i,j,l=>l2s (l2 k Xt4 n) Xt4 a b c d e f g i j l
theorem l2_eq (k : Nat) (Q : Ex->St->Option α) : ∀ (n : Nat) (a : Bool) (b : Int) (c : D12) (d e : Int) (i : D9) (j l : Int) (f : D8) (g : D47),iter (rnd C k cd3 45 Q) n (St6 a b c d e i j l f g) = l2 k (fun a b c d e f g=>Q (.exit 4) (St7 a b c d e f g)) n a b c d e i j l f g
 | 0,_,_,_,_,_,_,_,_,_,_=>rfl
 | n + 1,a,b,c,d,e,i,j,l,f,g=>(iter_succ _ _ _).trans ((l2s_eq k _ Q a b c d e i j l f g).trans (congrArg (fun N=>l2s N (fun a b c d e f g=>Q (.exit 4) (St7 a b c d e f g)) a b c d e i j l f g) (by funext; exact l2_eq k Q n _ _ _ _ _ _ _ _ _ _)))
noncomputable def cd4 : Code:=cR (cR (cR (cL (cL (cR (cL (cR (cR (cR (cR (cR (cR (cB Tryz.f65)))))))))))))
def St8 (a : Bool) (b : Int) (c : D12) (d e : Int) (f : D8) (g : D47) : St:=stL 95 [(1,.ref 1 0 []),(3,.data .bool a),(5,.map 43),(6,.data T1 b),(48,.full T20 c),(49,.data T1 d),(50,.data T1 e)] [(1,.cell T21 (.data T21 f) false),(43,.map T1 T1 g)]
def j1 (Nx : Bool->Int->D12->Int->Int->D8->D47->Option α) (a : Bool) (b : Int) (c : D12) (d e : Int) (f : D8) (g : D47) : Option α :=
 Nx a b c d (IntKind.i64.wrap (e + 1)) f g
theorem j1_eq (k : Nat) (next : St->Option α) (Q : Ex->St->Option α) (a : Bool) (b : Int) (c : D12) (d e : Int) (f : D8) (g : D47) :
  (den C k) cd4 (lq C 36 next Q) (St8 a b c d e f g) = j1 (fun a b c d e f g=>next (St5 a b c d e f g)) a b c d e f g:=plainly Js (by kernel_rfl)
theorem a0 (k : Nat) (next : St->Option α) (Q : Ex->St->Option α) (a : Bool) (c : Int) (d : D12) (e f : Int) (j : D9) (l m : Int) (g : D8) (i : D47) :
  (lp C k) cd3 (blkQ C 4 (blkQ C 3 (sq (den C k) (lp C k) Js C cd4 (lq C 36 next Q)))) (St6 a c d e f j l m g i) = l2 k (fun a c d e f g i=>j1 (fun a c d e f g i=>next (St5 a c d e f g i)) a c d e f g i) k a c d e f j l m g i :=
 (lp_iter 45 (by kernel_rfl)).trans ((l2_eq k _ k a c d e f j l m g i).trans (congrArg (fun X=>l2 k X k a c d e f j l m g i) (funext fun a=>funext fun c=>funext fun d=>funext fun e=>funext fun f=>funext fun g=>funext fun i=>(Eq.trans (b:=(den C k) cd4 (lq C 36 next Q) (St8 a c d e f g i)) (by kernel_rfl) (by simp only [j1_eq])))))
def St9 (a : Bool) (b : Int) (c : D47) : St:=stL 95 [(3,.data .bool a),(5,.map 43),(6,.data T1 b)] [(43,.map T1 T1 c)]
def l1s (k : Nat) (Nx : Bool->Int->D12->Int->Int->D8->D47->Option α) (Xt2 : Bool->Int->D47->Option α) (c : Bool) (d : Int) (b : D12) (e a : Int) (g : D8) (f : D47) : Option α :=
 if (decide (a < e)) = true then
  if 0 <= a /\ a < (b.length : Int) then
   l2 k (fun c d b e a g f=>j1 Nx c d b e a g f) k c d b e a (List.getD b (Int.toNat a) []) ((List.getD b (Int.toNat a) []).length : Int) 0 g f
  else none
 else
  Xt2 c d f
theorem l1s_eq (k : Nat) (next : St->Option α) (Q : Ex->St->Option α) (b : Bool) (c : Int) (d : D12) (f a : Int) (g : D8) (e : D47) :
  rnd C k cd2 36 Q next (St5 b c d f a g e) = l1s k (fun b c d f a g e=>next (St5 b c d f a g e)) (fun b c e=>Q (.exit 2) (St9 b c e)) b c d f a g e:=by
 have h : ∀ (D L : DT α),denJ D L Js C cd2 (lq C 36 next Q) (St5 b c d f a g e) =
    if (decide (a < f)) = true then
     if 0 <= a /\ a < (d.length : Int) then
      L cd3 (blkQ C 4 (blkQ C 3 (sq D L Js C cd4 (lq C 36 next Q)))) (St6 b c d f a (List.getD d (Int.toNat a) []) ((List.getD d (Int.toNat a) []).length : Int) 0 g e)
     else none
    else
     Q (.exit 2) (St9 b c e):=by
  intro D L; kernel_rfl
 have h2:=via (k:=k) h
 refine h2.trans ?_
 simp only [a0]
 first | rfl | kernel_rfl
def l1 (k : Nat) (Xt2 : Bool->Int->D47->Option α) : Nat->Bool->Int->D12->Int->Int->D8->D47->Option α
 | 0,_,_,_,_,_,_,_=>none
 | n + 1,a,b,c,d,e,f,g=>l1s k (l1 k Xt2 n) Xt2 a b c d e f g
theorem l1_eq (k : Nat) (Q : Ex->St->Option α) : ∀ (n : Nat) (a : Bool) (b : Int) (d : D12) (e f : Int) (g : D8) (c : D47),iter (rnd C k cd2 36 Q) n (St5 a b d e f g c) = l1 k (fun a b c=>Q (.exit 2) (St9 a b c)) n a b d e f g c
 | 0,_,_,_,_,_,_,_=>rfl
 | n + 1,a,b,d,e,f,g,c=>(iter_succ _ _ _).trans ((l1s_eq k _ Q a b d e f g c).trans (congrArg (fun N=>l1s k N (fun a b c=>Q (.exit 2) (St9 a b c)) a b d e f g c) (by funext; exact l1_eq k Q n _ _ _ _ _ _ _)))
noncomputable def cd5 : Code:=cR (cR (cR (cR (cR (cR (cR (cB Tryz.f65)))))))
def St10 (a : Bool) (b : Int) (c : D47) : St:=stL 95 [(3,.data .bool a),(5,.map 43),(6,.data T1 b)] [(43,.map T1 T1 c)]
def j2 (Rt : Int->Option α) (a : Bool) (c : Int) (b : D47) : Option α :=
 cond (decide (Nat.ble b.length 9223372036854775807 = true) || !((not a) == false)) (
  if (cond (not a) true ((b.length : Int) != c)) = true then
   Rt 12
  else
   Rt 0) none
theorem j2_eq (k : Nat) (Q : Ex->St->Option α) (a : Bool) (b : Int) (c : D47) :
  (den C k) cd5 Q (St10 a b c) = j2 (fun d=>Q .ret (St1 d)) a b c:=plainly Js (by kernel_rfl)
theorem a1 (k : Nat) (Q : Ex->St->Option α) (a : Bool) (c : Int) (e : D12) (f g : Int) (i : D8) (d : D47) :
  (lp C k) cd2 (blkQ C 2 (sq (den C k) (lp C k) Js C cd5 Q)) (St5 a c e f g i d) = l1 k (fun a c d=>j2 (fun j=>Q .ret (St1 j)) a c d) k a c e f g i d :=
 (lp_iter 36 (by kernel_rfl)).trans ((l1_eq k _ k a c e f g i d).trans (congrArg (fun X=>l1 k X k a c e f g i d) (funext fun a=>funext fun c=>funext fun d=>(Eq.trans (b:=(den C k) cd5 Q (St10 a c d)) (by kernel_rfl) (by simp only [j2_eq])))))
def j0 (k : Nat) (Rt : Int->Option α) (a : Bool) (b : D8) : Option α :=
 l1 k (fun a c d=>j2 Rt a c d) k a 0 [b.2.2.2.1,b.2.2.2.2.1] 2 0 b []
theorem j0_eq (k : Nat) (Q : Ex->St->Option α) (b : Bool) (a : D8) :
  (den C k) cd1 Q (St4 b a) = j0 k (fun c=>Q .ret (St1 c)) b a:=by
 have h : ∀ (D L : DT α),denJ D L Js C cd1 Q (St4 b a) =
    L cd2 (blkQ C 2 (sq D L Js C cd5 Q)) (St5 b 0 [a.2.2.2.1,a.2.2.2.2.1] 2 0 a []):=by
  intro D L; kernel_rfl
 have h2:=via (k:=k) h
 refine h2.trans ?_
 simp only [a1]
 first | rfl | kernel_rfl
theorem a2 (k : Nat) (Q : Ex->St->Option α) (a : Bool) (d : Int) (c : D8) :
  (lp C k) cd0 (blkQ C 0 (sq (den C k) (lp C k) Js C cd1 Q)) (St2 a d c) = l0 k (fun a c=>j0 k (fun e=>Q .ret (St1 e)) a c) k a d c :=
 (lp_iter 15 (by kernel_rfl)).trans ((l0_eq k _ k a d c).trans (congrArg (fun X=>l0 k X k a d c) (funext fun a=>funext fun c=>(Eq.trans (b:=(den C k) cd1 Q (St4 a c)) (by kernel_rfl) (by simp only [j0_eq])))))
def top (k : Nat) (Rt : Int->Option α) (a : D8) : Option α :=
 if (cond (decide ((a.2.2.2.1.length : Int) > 40)) true (decide ((a.2.2.2.2.1.length : Int) > 40))) = true then
  Rt 1
 else
  (basculeref_upTo.run a.2.2.1 1099511627776).bind fun b =>
  l0 k (fun c d=>j0 k Rt c d) k b 0 a
theorem top_eq (k : Nat) (Q : Ex->St->Option α) (a : D8) :
  (den C k) (cB Tryz.f65) Q (St0 a) = top k (fun b=>Q .ret (St1 b)) a:=by
 have h : ∀ (D L : DT α),denJ D L Js C (cB Tryz.f65) Q (St0 a) =
    if (cond (decide ((a.2.2.2.1.length : Int) > 40)) true (decide ((a.2.2.2.2.1.length : Int) > 40))) = true then
     Q .ret (St1 1)
    else
     (basculeref_upTo.run a.2.2.1 1099511627776).bind fun c =>
     L cd0 (blkQ C 0 (sq D L Js C cd1 Q)) (St2 c 0 a):=by
  intro D L; kernel_rfl
 have h2:=via (k:=k) h
 refine h2.trans ?_
 simp only [a2]
 first | rfl | kernel_rfl
def run (a : D8) : Option (Int):=top (α:=Int) fuel (fun b=>some b) a
def F : Fn:=⟨T23,T1,false,fun x=>run x.1⟩
theorem con : Con Tryz.prog 65 F /\ Named Tryz.prog 65 :=
 con_of2 (C:=C) (ctx_ok (by kernel_rfl) (by kernel_rfl) (by kernel_rfl) (by kernel_rfl) ⟨.inl basculeref_upTo.con,trivial⟩) (by kernel_rfl) Tryz.func65 (by kernel_rfl) (c:=cB Tryz.f65) (by kernel_rfl) (by kernel_rfl) F (fun x=>by simp [F,spread,Tryz.ntmps65]) (fun x=>(St0 x.1)) (fun x=>by kernel_rfl) fun x=>(top_eq fuel _ x.1).trans (by kernel_rfl)
end Go.Bx.basculeref_GateFault
namespace Go.Bx.gate_used
def Js : List Nat:=[8,9]
def C : Ctx:=⟨[(3,T1),(26,T20),(28,T21),(112,T22)],[],[],fnL [],noSh,[],invL [],[(2,[4]),(1,[5]),(4,[1,2,5,9,10,11]),(9,[1,2,5,9,10,11]),(21,[1,2,5,9,10,11]),(24,[5])],[],[],0,0⟩
def St0 (a : D8) (b : Int) : St:=stL 33 [(0,.data T21 a),(1,.data T1 b)] []
def St1 (a b : Int) (c : D9) (d e : Int) (f : D8) : St:=stL 33 [(1,.data T1 a),(2,.ref 2 0 []),(5,.data T1 b),(9,.data T20 c),(10,.data T1 d),(11,.data T1 e)] [(2,.cell T21 (.data T21 f) false)]
noncomputable def cd0 : Code:=cL (cL (cR (cL (cR (cR (cB Tryz.f85))))))
def St2 (a b : Int) (c : D9) (d e : Int) (f : D8) : St:=stL 33 [(1,.data T1 a),(2,.ref 2 0 []),(5,.data T1 b),(9,.data T20 c),(10,.data T1 d),(11,.data T1 e)] [(2,.cell T21 (.data T21 f) false)]
noncomputable def cd1 : Code:=cR (cR (cR (cL (cL (cR (cL (cR (cR (cB Tryz.f85)))))))))
def j0 (Nx : Int->Int->D9->Int->Int->D8->Option α) (a b : Int) (c : D9) (d e : Int) (f : D8) : Option α :=
 Nx a b c d (IntKind.i64.wrap (e + 1)) f
theorem j0_eq (k : Nat) (next : St->Option α) (Q : Ex->St->Option α) (a b : Int) (c : D9) (d e : Int) (f : D8) :
  (den C k) cd1 (lq C 9 next Q) (St2 a b c d e f) = j0 (fun a b c d e f=>next (St1 a b c d e f)) a b c d e f:=plainly Js (by kernel_rfl)
def St3 (a : Int) : St:=stL 33 [(5,.data T1 a)] []
def l0s (Nx : Int->Int->D9->Int->Int->D8->Option α) (Xt0 : Int->Option α) (c d : Int) (b : D9) (e a : Int) (f : D8) : Option α :=
 if (decide (a < e)) = true then
  if 0 <= a /\ a < (b.length : Int) then
   if (cond ((List.getD b (Int.toNat a) (0,0,0,0,())).2.2.1 == c) (decide ((IntKind.i64.wrap (f.2.2.1 - (List.getD b (Int.toNat a) (0,0,0,0,())).2.2.2.1)) < 24)) false) = true then
    j0 Nx c (IntKind.i64.wrap (d + (List.getD b (Int.toNat a) (0,0,0,0,())).2.1)) b e a f
   else
    j0 Nx c d b e a f
  else none
 else
  Xt0 d
theorem l0s_eq (k : Nat) (next : St->Option α) (Q : Ex->St->Option α) (d c : Int) (b : D9) (e a : Int) (f : D8) :
  rnd C k cd0 9 Q next (St1 d c b e a f) = l0s (fun d c b e a f=>next (St1 d c b e a f)) (fun c=>Q (.exit 0) (St3 c)) d c b e a f:=by
 have h : ∀ (D L : DT α),denJ D L Js C cd0 (lq C 9 next Q) (St1 d c b e a f) =
    if (decide (a < e)) = true then
     if 0 <= a /\ a < (b.length : Int) then
      if (cond ((List.getD b (Int.toNat a) (0,0,0,0,())).2.2.1 == d) (decide ((IntKind.i64.wrap (f.2.2.1 - (List.getD b (Int.toNat a) (0,0,0,0,())).2.2.2.1)) < 24)) false) = true then
       D cd1 (lq C 9 next Q) (St2 d (IntKind.i64.wrap (c + (List.getD b (Int.toNat a) (0,0,0,0,())).2.1)) b e a f)
      else
       D cd1 (lq C 9 next Q) (St2 d c b e a f)
     else none
    else
     Q (.exit 0) (St3 c):=by
  intro D L; kernel_rfl
 have h2:=via (k:=k) h
 refine h2.trans ?_
 simp only [j0_eq]
 first | rfl | kernel_rfl
def l0 (k : Nat) (Xt0 : Int->Option α) : Nat->Int->Int->D9->Int->Int->D8->Option α
 | 0,_,_,_,_,_,_=>none
 | n + 1,a,b,c,d,e,f=>l0s (l0 k Xt0 n) Xt0 a b c d e f
theorem l0_eq (k : Nat) (Q : Ex->St->Option α) : ∀ (n : Nat) (b a : Int) (c : D9) (d e : Int) (f : D8),iter (rnd C k cd0 9 Q) n (St1 b a c d e f) = l0 k (fun a=>Q (.exit 0) (St3 a)) n b a c d e f
 | 0,_,_,_,_,_,_=>rfl
 | n + 1,b,a,c,d,e,f=>(iter_succ _ _ _).trans ((l0s_eq k _ Q b a c d e f).trans (congrArg (fun N=>l0s N (fun a=>Q (.exit 0) (St3 a)) b a c d e f) (by funext; exact l0_eq k Q n _ _ _ _ _ _)))
noncomputable def cd2 : Code:=cR (cR (cR (cB Tryz.f85)))
def St4 (a : Int) : St:=stL 33 [(5,.data T1 a)] []
def St5 (a : Int) : St:=stL 33 [(4,.data T1 a)] []
def j1 (Rt : Int->Option α) (a : Int) : Option α :=
 Rt a
theorem j1_eq (k : Nat) (Q : Ex->St->Option α) (a : Int) :
  (den C k) cd2 Q (St4 a) = j1 (fun b=>Q .ret (St5 b)) a:=plainly Js (by kernel_rfl)
theorem a0 (k : Nat) (Q : Ex->St->Option α) (c a : Int) (d : D9) (e f : Int) (g : D8) :
  (lp C k) cd0 (blkQ C 0 (sq (den C k) (lp C k) Js C cd2 Q)) (St1 c a d e f g) = l0 k (fun a=>j1 (fun i=>Q .ret (St5 i)) a) k c a d e f g :=
 (lp_iter 9 (by kernel_rfl)).trans ((l0_eq k _ k c a d e f g).trans (congrArg (fun X=>l0 k X k c a d e f g) (funext fun a=>(Eq.trans (b:=(den C k) cd2 Q (St4 a)) (by kernel_rfl) (by simp only [j1_eq])))))
def top (k : Nat) (Rt : Int->Option α) (a : D8) (b : Int) : Option α :=
 l0 k (fun c=>j1 Rt c) k b 0 a.2.2.2.1 (a.2.2.2.1.length : Int) 0 a
theorem top_eq (k : Nat) (Q : Ex->St->Option α) (a : D8) (b : Int) :
  (den C k) (cB Tryz.f85) Q (St0 a b) = top k (fun c=>Q .ret (St5 c)) a b:=by
 have h : ∀ (D L : DT α),denJ D L Js C (cB Tryz.f85) Q (St0 a b) =
    L cd0 (blkQ C 0 (sq D L Js C cd2 Q)) (St1 b 0 a.2.2.2.1 (a.2.2.2.1.length : Int) 0 a):=by
  intro D L; kernel_rfl
 have h2:=via (k:=k) h
 refine h2.trans ?_
 simp only [a0]
 first | rfl | kernel_rfl
def run (a : D8) (b : Int) : Option (Int):=top (α:=Int) fuel (fun c=>some c) a b
def F : Fn:=⟨T24,T1,false,fun x=>run x.1 x.2.1⟩
theorem con : Con Tryz.prog 85 F /\ Named Tryz.prog 85 :=
 con_of2 (C:=C) (ctx_ok (by kernel_rfl) (by kernel_rfl) (by kernel_rfl) (by kernel_rfl) trivial) (by kernel_rfl) Tryz.func85 (by kernel_rfl) (c:=cB Tryz.f85) (by kernel_rfl) (by kernel_rfl) F (fun x=>by simp [F,spread,Tryz.ntmps85]) (fun x=>(St0 x.1 x.2.1)) (fun x=>by kernel_rfl) fun x=>(top_eq fuel _ x.1 x.2.1).trans (by kernel_rfl)
end Go.Bx.gate_used
namespace Go.Bx.gate_fits
def Js : List Nat:=[]
def C : Ctx:=⟨[(3,T1),(4,.bool),(25,T19),(26,T20),(28,T21),(112,T22)],[],[],fnL [(85,gate_used.F)],noSh,[],invL [],[(2,[4])],[],[],0,0⟩
def St0 (a : D8) (b : D10) : St:=stL 34 [(0,.data T21 a),(1,.data T22 b)] []
def St1 (a : Bool) : St:=stL 34 [(4,.data .bool a)] []
def top (Rt : Bool->Option α) (b : D8) (a : D10) : Option α :=
 if 0 <= a.2.2.1 /\ a.2.2.1 < (3 : Int) then
  (if ((decide (a.2.1 < (List.getD b.2.1 (Int.toNat a.2.2.1) 0))) == true) = true then gate_used.run b a.2.2.1 else some 0).bind fun c =>
  cond (decide (0 <= a.2.2.1 /\ a.2.2.1 < (3 : Int)) || !((decide (a.2.1 < (List.getD b.2.1 (Int.toNat a.2.2.1) 0))) == true)) (
   Rt (cond (cond (decide (a.2.1 < (List.getD b.2.1 (Int.toNat a.2.2.1) 0))) (decide ((IntKind.i64.wrap (c + a.2.1)) <= (List.getD b.1 (Int.toNat a.2.2.1) 0))) false) (decide ((b.2.2.2.1.length : Int) < 40)) false)) none
 else none
theorem top_eq (k : Nat) (Q : Ex->St->Option α) (a : D8) (b : D10) :
  (den C k) (cB Tryz.f75) Q (St0 a b) = top (fun c=>Q .ret (St1 c)) a b:=plainly Js (by kernel_rfl)
def run (a : D8) (b : D10) : Option (Bool):=top (α:=Bool) (fun c=>some c) a b
def F : Fn:=⟨T25,.bool,false,fun x=>run x.1 x.2.1⟩
theorem con : Con Tryz.prog 75 F /\ Named Tryz.prog 75 :=
 con_of2 (C:=C) (ctx_ok (by kernel_rfl) (by kernel_rfl) (by kernel_rfl) (by kernel_rfl) ⟨.inl gate_used.con,trivial⟩) (by kernel_rfl) Tryz.func75 (by kernel_rfl) (c:=cB Tryz.f75) (by kernel_rfl) (by kernel_rfl) F (fun x=>by simp [F,spread,Tryz.ntmps75]) (fun x=>(St0 x.1 x.2.1)) (fun x=>by kernel_rfl) fun x=>(top_eq fuel _ x.1 x.2.1).trans (by kernel_rfl)
end Go.Bx.gate_fits
namespace Go.Bx.basculeref_passes
def Js : List Nat:=[8,9]
def C : Ctx:=⟨[(3,T1),(4,.bool),(25,T19),(26,T20),(28,T21),(112,T22)],[],[],fnL [],noSh,[],invL [],[(2,[4]),(1,[2,3,5]),(4,[2,3,5,11,12,13]),(9,[2,3,5,11,12,13]),(21,[2,3,5,11,12,13]),(24,[2,3,5])],[],[],0,0⟩
def St0 (a : D8) (b : D10) : St:=stL 58 [(0,.data T21 a),(1,.data T22 b)] []
def St1 (a : Int) (b : D9) (c d : Int) (e : D8) (f : D10) : St:=stL 58 [(2,.ref 2 0 []),(3,.ref 3 0 []),(5,.data T1 a),(11,.data T20 b),(12,.data T1 c),(13,.data T1 d)] [(2,.cell T21 (.data T21 e) false),(3,.cell T22 (.data T22 f) false)]
noncomputable def cd0 : Code:=cL (cL (cR (cL (cR (cR (cB Tryz.f66))))))
def St2 (a : Int) (b : D9) (c d : Int) (e : D8) (f : D10) : St:=stL 58 [(2,.ref 2 0 []),(3,.ref 3 0 []),(5,.data T1 a),(11,.data T20 b),(12,.data T1 c),(13,.data T1 d)] [(2,.cell T21 (.data T21 e) false),(3,.cell T22 (.data T22 f) false)]
noncomputable def cd1 : Code:=cR (cR (cR (cL (cL (cR (cL (cR (cR (cB Tryz.f66)))))))))
def j0 (Nx : Int->D9->Int->Int->D8->D10->Option α) (a : Int) (b : D9) (c d : Int) (e : D8) (f : D10) : Option α :=
 Nx a b c (IntKind.i64.wrap (d + 1)) e f
theorem j0_eq (k : Nat) (next : St->Option α) (Q : Ex->St->Option α) (a : Int) (b : D9) (c d : Int) (e : D8) (f : D10) :
  (den C k) cd1 (lq C 9 next Q) (St2 a b c d e f) = j0 (fun a b c d e f=>next (St1 a b c d e f)) a b c d e f:=plainly Js (by kernel_rfl)
def St3 (a : Int) (b : D8) (c : D10) : St:=stL 58 [(2,.ref 2 0 []),(3,.ref 3 0 []),(5,.data T1 a)] [(2,.cell T21 (.data T21 b) false),(3,.cell T22 (.data T22 c) false)]
def l0s (Nx : Int->D9->Int->Int->D8->D10->Option α) (Xt0 : Int->D8->D10->Option α) (e : Int) (b : D9) (f a : Int) (c : D8) (d : D10) : Option α :=
 if (decide (a < f)) = true then
  if 0 <= a /\ a < (b.length : Int) then
   if (cond ((List.getD b (Int.toNat a) (0,0,0,0,())).2.2.1 == d.2.2.1) (decide ((IntKind.i64.wrap ((List.getD b (Int.toNat a) (0,0,0,0,())).2.2.2.1 + 24)) > c.2.2.1)) false) = true then
    j0 Nx (IntKind.i64.wrap (e + (List.getD b (Int.toNat a) (0,0,0,0,())).2.1)) b f a c d
   else
    j0 Nx e b f a c d
  else none
 else
  Xt0 e c d
theorem l0s_eq (k : Nat) (next : St->Option α) (Q : Ex->St->Option α) (e : Int) (b : D9) (f a : Int) (c : D8) (d : D10) :
  rnd C k cd0 9 Q next (St1 e b f a c d) = l0s (fun e b f a c d=>next (St1 e b f a c d)) (fun e c d=>Q (.exit 0) (St3 e c d)) e b f a c d:=by
 have h : ∀ (D L : DT α),denJ D L Js C cd0 (lq C 9 next Q) (St1 e b f a c d) =
    if (decide (a < f)) = true then
     if 0 <= a /\ a < (b.length : Int) then
      if (cond ((List.getD b (Int.toNat a) (0,0,0,0,())).2.2.1 == d.2.2.1) (decide ((IntKind.i64.wrap ((List.getD b (Int.toNat a) (0,0,0,0,())).2.2.2.1 + 24)) > c.2.2.1)) false) = true then
       D cd1 (lq C 9 next Q) (St2 (IntKind.i64.wrap (e + (List.getD b (Int.toNat a) (0,0,0,0,())).2.1)) b f a c d)
      else
       D cd1 (lq C 9 next Q) (St2 e b f a c d)
     else none
    else
     Q (.exit 0) (St3 e c d):=by
  intro D L; kernel_rfl
 have h2:=via (k:=k) h
 refine h2.trans ?_
 simp only [j0_eq]
 first | rfl | kernel_rfl
def l0 (k : Nat) (Xt0 : Int->D8->D10->Option α) : Nat->Int->D9->Int->Int->D8->D10->Option α
 | 0,_,_,_,_,_,_=>none
 | n + 1,a,b,c,d,e,f=>l0s (l0 k Xt0 n) Xt0 a b c d e f
theorem l0_eq (k : Nat) (Q : Ex->St->Option α) : ∀ (n : Nat) (a : Int) (d : D9) (e f : Int) (b : D8) (c : D10),iter (rnd C k cd0 9 Q) n (St1 a d e f b c) = l0 k (fun a b c=>Q (.exit 0) (St3 a b c)) n a d e f b c
 | 0,_,_,_,_,_,_=>rfl
 | n + 1,a,d,e,f,b,c=>(iter_succ _ _ _).trans ((l0s_eq k _ Q a d e f b c).trans (congrArg (fun N=>l0s N (fun a b c=>Q (.exit 0) (St3 a b c)) a d e f b c) (by funext; exact l0_eq k Q n _ _ _ _ _ _)))
noncomputable def cd2 : Code:=cR (cR (cR (cB Tryz.f66)))
def St4 (a : Int) (b : D8) (c : D10) : St:=stL 58 [(2,.ref 2 0 []),(3,.ref 3 0 []),(5,.data T1 a)] [(2,.cell T21 (.data T21 b) false),(3,.cell T22 (.data T22 c) false)]
def St5 (a : Bool) : St:=stL 58 [(4,.data .bool a)] []
def j1 (Rt : Bool->Option α) (c : Int) (b : D8) (a : D10) : Option α :=
 if 0 <= a.2.2.1 /\ a.2.2.1 < (3 : Int) then
  cond (decide (0 <= a.2.2.1 /\ a.2.2.1 < (3 : Int)) || !((decide (a.2.1 < (List.getD b.2.1 (Int.toNat a.2.2.1) 0))) == true)) (
   Rt (cond (cond (decide (a.2.1 < (List.getD b.2.1 (Int.toNat a.2.2.1) 0))) (decide (c <= (List.getD b.1 (Int.toNat a.2.2.1) 0))) false) (decide ((b.2.2.2.1.length : Int) < 40)) false)) none
 else none
theorem j1_eq (k : Nat) (Q : Ex->St->Option α) (a : Int) (b : D8) (c : D10) :
  (den C k) cd2 Q (St4 a b c) = j1 (fun d=>Q .ret (St5 d)) a b c:=plainly Js (by kernel_rfl)
theorem a0 (k : Nat) (Q : Ex->St->Option α) (a : Int) (e : D9) (f g : Int) (c : D8) (d : D10) :
  (lp C k) cd0 (blkQ C 0 (sq (den C k) (lp C k) Js C cd2 Q)) (St1 a e f g c d) = l0 k (fun a c d=>j1 (fun i=>Q .ret (St5 i)) a c d) k a e f g c d :=
 (lp_iter 9 (by kernel_rfl)).trans ((l0_eq k _ k a e f g c d).trans (congrArg (fun X=>l0 k X k a e f g c d) (funext fun a=>funext fun c=>funext fun d=>(Eq.trans (b:=(den C k) cd2 Q (St4 a c d)) (by kernel_rfl) (by simp only [j1_eq])))))
def top (k : Nat) (Rt : Bool->Option α) (a : D8) (b : D10) : Option α :=
 l0 k (fun c d e=>j1 Rt c d e) k b.2.1 a.2.2.2.1 (a.2.2.2.1.length : Int) 0 a b
theorem top_eq (k : Nat) (Q : Ex->St->Option α) (a : D8) (b : D10) :
  (den C k) (cB Tryz.f66) Q (St0 a b) = top k (fun c=>Q .ret (St5 c)) a b:=by
 have h : ∀ (D L : DT α),denJ D L Js C (cB Tryz.f66) Q (St0 a b) =
    L cd0 (blkQ C 0 (sq D L Js C cd2 Q)) (St1 b.2.1 a.2.2.2.1 (a.2.2.2.1.length : Int) 0 a b):=by
  intro D L; kernel_rfl
 have h2:=via (k:=k) h
 refine h2.trans ?_
 simp only [a0]
 first | rfl | kernel_rfl
def run (a : D8) (b : D10) : Option (Bool):=top (α:=Bool) fuel (fun c=>some c) a b
def F : Fn:=⟨T25,.bool,false,fun x=>run x.1 x.2.1⟩
theorem con : Con Tryz.prog 66 F /\ Named Tryz.prog 66 :=
 con_of2 (C:=C) (ctx_ok (by kernel_rfl) (by kernel_rfl) (by kernel_rfl) (by kernel_rfl) trivial) (by kernel_rfl) Tryz.func66 (by kernel_rfl) (c:=cB Tryz.f66) (by kernel_rfl) (by kernel_rfl) F (fun x=>by simp [F,spread,Tryz.ntmps66]) (fun x=>(St0 x.1 x.2.1)) (fun x=>by kernel_rfl) fun x=>(top_eq fuel _ x.1 x.2.1).trans (by kernel_rfl)
end Go.Bx.basculeref_passes
namespace Go.Bx.basculelaw_sameQueue
def Js : List Nat:=[10]
def C : Ctx:=⟨[(4,.bool),(26,T20),(112,T22)],[],[],fnL [],noSh,[],invL [],[(2,[4]),(1,[]),(4,[0,1,12,13]),(12,[0,1,12,13]),(27,[])],[],[],0,0⟩
def St0 (a b : D9) : St:=stL 26 [(0,.data T20 a),(1,.data T20 b)] []
def St1 (a : Bool) : St:=stL 26 [(4,.data .bool a)] []
def St2 (a b : D9) (c d : Int) : St:=stL 26 [(0,.data T20 a),(1,.data T20 b),(12,.data T1 c),(13,.data T1 d)] []
noncomputable def cd0 : Code:=cL (cL (cR (cL (cR (cR (cB Tryz.f46))))))
def St3 : St:=stL 26 [] []
def l0s (Nx : D9->D9->Int->Int->Option α) (Rt : Bool->Option α) (Xt0 : Option α) (b c : D9) (d a : Int) : Option α :=
 if (decide (a < d)) = true then
  if 0 <= a /\ a < (b.length : Int) then
   if 0 <= a /\ a < (c.length : Int) then
    if (not (beqD T22 (List.getD b (Int.toNat a) (0,0,0,0,())) (List.getD c (Int.toNat a) (0,0,0,0,())))) = true then
     Rt false
    else
     Nx b c d (IntKind.i64.wrap (a + 1))
   else none
  else none
 else
  Xt0
theorem l0s_eq (k : Nat) (next : St->Option α) (Q : Ex->St->Option α) (a b : D9) (c d : Int) :
  rnd C k cd0 12 Q next (St2 a b c d) = l0s (fun a b c d=>next (St2 a b c d)) (fun e=>Q .ret (St1 e)) (Q (.exit 0) St3) a b c d:=plainly Js (by kernel_rfl)
def l0 (k : Nat) (Rt : Bool->Option α) (Xt0 : Option α) : Nat->D9->D9->Int->Int->Option α
 | 0,_,_,_,_=>none
 | n + 1,a,b,c,d=>l0s (l0 k Rt Xt0 n) Rt Xt0 a b c d
theorem l0_eq (k : Nat) (Q : Ex->St->Option α) : ∀ (n : Nat) (a b : D9) (c d : Int),iter (rnd C k cd0 12 Q) n (St2 a b c d) = l0 k (fun e=>Q .ret (St1 e)) (Q (.exit 0) St3) n a b c d
 | 0,_,_,_,_=>rfl
 | n + 1,a,b,c,d=>(iter_succ _ _ _).trans ((l0s_eq k _ Q a b c d).trans (congrArg (fun N=>l0s N (fun e=>Q .ret (St1 e)) (Q (.exit 0) St3) a b c d) (by funext; exact l0_eq k Q n _ _ _ _)))
theorem l0_congr (k : Nat) (Rt : Bool->Option α) (Xt0 : Option α) (Rtq : Bool->Option α) (Xt0q : Option α) (hRt : ∀ (a : Bool),Rt a = Rtq a) (hXt0 : Xt0 = Xt0q) (n : Nat) (b c : D9) (d e : Int) : l0 k Rt Xt0 n b c d e = l0 k Rtq Xt0q n b c d e:=by
 obtain rfl : Rt = Rtq:=by funext a; exact hRt a
 obtain rfl : Xt0 = Xt0q:=hXt0
 rfl
noncomputable def cd1 : Code:=cR (cR (cR (cB Tryz.f46)))
def St4 : St:=stL 26 [] []
def j0 (Rt : Bool->Option α) : Option α :=
 Rt true
theorem j0_eq (k : Nat) (Q : Ex->St->Option α) :
  (den C k) cd1 Q St4 = j0 (fun a=>Q .ret (St1 a)):=plainly Js (by kernel_rfl)
theorem a0 (k : Nat) (Q : Ex->St->Option α) (c d : D9) (e f : Int) :
  (lp C k) cd0 (blkQ C 0 (sq (den C k) (lp C k) Js C cd1 Q)) (St2 c d e f) = l0 k (fun a=>(fun a=>Q .ret (St1 a)) a) (j0 (fun a=>Q .ret (St1 a))) k c d e f :=
 (lp_iter 12 (by kernel_rfl)).trans ((l0_eq k _ k c d e f).trans (l0_congr k _ _ _ _ (fun a=>(by kernel_rfl)) (Eq.trans (b:=(den C k) cd1 Q St4) (by kernel_rfl) (by simp only [j0_eq])) k c d e f))
def top (k : Nat) (Rt : Bool->Option α) (a b : D9) : Option α :=
 if ((a.length : Int) != (b.length : Int)) = true then
  Rt false
 else
  l0 k (fun c=>Rt c) (j0 Rt) k a b (a.length : Int) 0
theorem top_eq (k : Nat) (Q : Ex->St->Option α) (a b : D9) :
  (den C k) (cB Tryz.f46) Q (St0 a b) = top k (fun c=>Q .ret (St1 c)) a b:=by
 have h : ∀ (D L : DT α),denJ D L Js C (cB Tryz.f46) Q (St0 a b) =
    if ((a.length : Int) != (b.length : Int)) = true then
     Q .ret (St1 false)
    else
     L cd0 (blkQ C 0 (sq D L Js C cd1 Q)) (St2 a b (a.length : Int) 0):=by
  intro D L; kernel_rfl
 have h2:=via (k:=k) h
 refine h2.trans ?_
 simp only [a0]
 first | rfl | kernel_rfl
def run (a b : D9) : Option (Bool):=top (α:=Bool) fuel (fun c=>some c) a b
def F : Fn:=⟨T101,.bool,false,fun x=>run x.1 x.2.1⟩
theorem con : Con Tryz.prog 46 F /\ Named Tryz.prog 46 :=
 con_of2 (C:=C) (ctx_ok (by kernel_rfl) (by kernel_rfl) (by kernel_rfl) (by kernel_rfl) trivial) (by kernel_rfl) Tryz.func46 (by kernel_rfl) (c:=cB Tryz.f46) (by kernel_rfl) (by kernel_rfl) F (fun x=>by simp [F,spread,Tryz.ntmps46]) (fun x=>(St0 x.1 x.2.1)) (fun x=>by kernel_rfl) fun x=>(top_eq fuel _ x.1 x.2.1).trans (by kernel_rfl)
end Go.Bx.basculelaw_sameQueue
namespace Go.Bx.basculelaw_sameGate
def Js : List Nat:=[]
def C : Ctx:=⟨[(3,T1),(4,.bool),(25,T19),(26,T20),(28,T21)],[],[],fnL [(46,basculelaw_sameQueue.F)],noSh,[],invL [],[(2,[4])],[],[],0,0⟩
def St0 (a b : D8) : St:=stL 38 [(0,.data T21 a),(1,.data T21 b)] []
def St1 (a : Bool) : St:=stL 38 [(4,.data .bool a)] []
def top (Rt : Bool->Option α) (a b : D8) : Option α :=
 (if ((cond (cond (beqD T19 a.1 b.1) (beqD T19 a.2.1 b.2.1) false) (a.2.2.1 == b.2.2.1) false) == true) = true then basculelaw_sameQueue.run a.2.2.2.1 b.2.2.2.1 else some false).bind fun c =>
 (if ((cond (cond (cond (beqD T19 a.1 b.1) (beqD T19 a.2.1 b.2.1) false) (a.2.2.1 == b.2.2.1) false) c false) == true) = true then basculelaw_sameQueue.run a.2.2.2.2.1 b.2.2.2.2.1 else some false).bind fun d =>
 Rt (cond (cond (cond (cond (beqD T19 a.1 b.1) (beqD T19 a.2.1 b.2.1) false) (a.2.2.1 == b.2.2.1) false) c false) d false)
theorem top_eq (k : Nat) (Q : Ex->St->Option α) (a b : D8) :
  (den C k) (cB Tryz.f18) Q (St0 a b) = top (fun c=>Q .ret (St1 c)) a b:=plainly Js (by kernel_rfl)
def run (a b : D8) : Option (Bool):=top (α:=Bool) (fun c=>some c) a b
def F : Fn:=⟨T102,.bool,false,fun x=>run x.1 x.2.1⟩
theorem con : Con Tryz.prog 18 F /\ Named Tryz.prog 18 :=
 con_of2 (C:=C) (ctx_ok (by kernel_rfl) (by kernel_rfl) (by kernel_rfl) (by kernel_rfl) ⟨.inl basculelaw_sameQueue.con,trivial⟩) (by kernel_rfl) Tryz.func18 (by kernel_rfl) (c:=cB Tryz.f18) (by kernel_rfl) (by kernel_rfl) F (fun x=>by simp [F,spread,Tryz.ntmps18]) (fun x=>(St0 x.1 x.2.1)) (fun x=>by kernel_rfl) fun x=>(top_eq fuel _ x.1 x.2.1).trans (by kernel_rfl)
end Go.Bx.basculelaw_sameGate
namespace Go.Bx.basculelaw_sameBytes
def Js : List Nat:=[]
def C : Ctx:=⟨[(4,.bool),(9,.str),(29,T3)],[],[],fnL [],noSh,[],invL [],[(2,[4])],[],[],0,0⟩
def St0 (a b : D1) : St:=stL 10 [(0,.data T3 a),(1,.data T3 b)] []
def St1 (a : Bool) : St:=stL 10 [(4,.data .bool a)] []
def top (Rt : Bool->Option α) (a b : D1) : Option α :=
 Rt (beqD .str a b)
theorem top_eq (k : Nat) (Q : Ex->St->Option α) (a b : D1) :
  (den C k) (cB Tryz.f47) Q (St0 a b) = top (fun c=>Q .ret (St1 c)) a b:=plainly Js (by kernel_rfl)
def run (a b : D1) : Option (Bool):=top (α:=Bool) (fun c=>some c) a b
def F : Fn:=⟨T11,.bool,false,fun x=>run x.1 x.2.1⟩
theorem con : Con Tryz.prog 47 F /\ Named Tryz.prog 47 :=
 con_of2 (C:=C) (ctx_ok (by kernel_rfl) (by kernel_rfl) (by kernel_rfl) (by kernel_rfl) trivial) (by kernel_rfl) Tryz.func47 (by kernel_rfl) (c:=cB Tryz.f47) (by kernel_rfl) (by kernel_rfl) F (fun x=>by simp [F,spread,Tryz.ntmps47]) (fun x=>(St0 x.1 x.2.1)) (fun x=>by kernel_rfl) fun x=>(top_eq fuel _ x.1 x.2.1).trans (by kernel_rfl)
end Go.Bx.basculelaw_sameBytes
namespace Go.Bx.basculeref_SameBody
def Js : List Nat:=[]
def C : Ctx:=⟨[(3,T1),(4,.bool),(9,.str),(29,T3),(35,T12),(37,T4)],[],[],fnL [],noSh,[],invL [],[(2,[4])],[],[],0,0⟩
def St0 (a b : D0) : St:=stL 54 [(0,.data T4 a),(1,.data T4 b)] []
def St1 (a : Bool) : St:=stL 54 [(4,.data .bool a)] []
def top (Rt : Bool->Option α) (a b : D0) : Option α :=
 Rt (cond (cond (cond (cond (cond (cond (a.1 == b.1) (a.2.1 == b.2.1) false) (a.2.2.1 == b.2.2.1) false) (beqD T12 a.2.2.2.1 b.2.2.2.1) false) (a.2.2.2.2.1 == b.2.2.2.2.1) false) (a.2.2.2.2.2.1 == b.2.2.2.2.2.1) false) (beqD .str a.2.2.2.2.2.2.1 b.2.2.2.2.2.2.1) false)
theorem top_eq (k : Nat) (Q : Ex->St->Option α) (a b : D0) :
  (den C k) (cB Tryz.f48) Q (St0 a b) = top (fun c=>Q .ret (St1 c)) a b:=plainly Js (by kernel_rfl)
def run (a b : D0) : Option (Bool):=top (α:=Bool) (fun c=>some c) a b
def F : Fn:=⟨T104,.bool,false,fun x=>run x.1 x.2.1⟩
theorem con : Con Tryz.prog 48 F /\ Named Tryz.prog 48 :=
 con_of2 (C:=C) (ctx_ok (by kernel_rfl) (by kernel_rfl) (by kernel_rfl) (by kernel_rfl) trivial) (by kernel_rfl) Tryz.func48 (by kernel_rfl) (c:=cB Tryz.f48) (by kernel_rfl) (by kernel_rfl) F (fun x=>by simp [F,spread,Tryz.ntmps48]) (fun x=>(St0 x.1 x.2.1)) (fun x=>by kernel_rfl) fun x=>(top_eq fuel _ x.1 x.2.1).trans (by kernel_rfl)
end Go.Bx.basculeref_SameBody
namespace Go.Bx.basculelaw_sameLog
def Js : List Nat:=[]
def C : Ctx:=⟨[(4,.bool),(29,T3),(31,T11)],[],[],fnL [(47,basculelaw_sameBytes.F)],noSh,[],invL [],[(2,[4])],[],[],0,0⟩
def St0 (a b : D23) : St:=stL 17 [(0,.data T11 a),(1,.data T11 b)] []
def St1 (a : Bool) : St:=stL 17 [(4,.data .bool a)] []
def top (Rt : Bool->Option α) (a b : D23) : Option α :=
 (basculelaw_sameBytes.run a.1 b.1).bind fun c =>
 (if (c == true) = true then basculelaw_sameBytes.run a.2.1 b.2.1 else some false).bind fun d =>
 Rt (cond c d false)
theorem top_eq (k : Nat) (Q : Ex->St->Option α) (a b : D23) :
  (den C k) (cB Tryz.f19) Q (St0 a b) = top (fun c=>Q .ret (St1 c)) a b:=plainly Js (by kernel_rfl)
def run (a b : D23) : Option (Bool):=top (α:=Bool) (fun c=>some c) a b
def F : Fn:=⟨T103,.bool,false,fun x=>run x.1 x.2.1⟩
theorem con : Con Tryz.prog 19 F /\ Named Tryz.prog 19 :=
 con_of2 (C:=C) (ctx_ok (by kernel_rfl) (by kernel_rfl) (by kernel_rfl) (by kernel_rfl) ⟨.inl basculelaw_sameBytes.con,trivial⟩) (by kernel_rfl) Tryz.func19 (by kernel_rfl) (c:=cB Tryz.f19) (by kernel_rfl) (by kernel_rfl) F (fun x=>by simp [F,spread,Tryz.ntmps19]) (fun x=>(St0 x.1 x.2.1)) (fun x=>by kernel_rfl) fun x=>(top_eq fuel _ x.1 x.2.1).trans (by kernel_rfl)
end Go.Bx.basculelaw_sameLog
namespace Go.Bx.basculelaw_sameBodies
def Js : List Nat:=[10]
def C : Ctx:=⟨[(4,.bool),(32,T14),(37,T4)],[],[],fnL [(48,basculeref_SameBody.F)],noSh,[],invL [],[(2,[4]),(1,[]),(4,[0,1,12,13]),(12,[0,1,12,13]),(27,[])],[],[],0,0⟩
def St0 (a b : D7) : St:=stL 27 [(0,.data T14 a),(1,.data T14 b)] []
def St1 (a : Bool) : St:=stL 27 [(4,.data .bool a)] []
def St2 (a b : D7) (c d : Int) : St:=stL 27 [(0,.data T14 a),(1,.data T14 b),(12,.data T1 c),(13,.data T1 d)] []
noncomputable def cd0 : Code:=cL (cL (cR (cL (cR (cR (cB Tryz.f20))))))
def St3 : St:=stL 27 [] []
def l0s (Nx : D7->D7->Int->Int->Option α) (Rt : Bool->Option α) (Xt0 : Option α) (b c : D7) (d a : Int) : Option α :=
 if (decide (a < d)) = true then
  if 0 <= a /\ a < (b.length : Int) then
   if 0 <= a /\ a < (c.length : Int) then
    (basculeref_SameBody.run (List.getD b (Int.toNat a) (0,0,0,(List.replicate 32 0),0,0,[],())) (List.getD c (Int.toNat a) (0,0,0,(List.replicate 32 0),0,0,[],()))).bind fun e =>
    if (not e) = true then
     Rt false
    else
     Nx b c d (IntKind.i64.wrap (a + 1))
   else none
  else none
 else
  Xt0
theorem l0s_eq (k : Nat) (next : St->Option α) (Q : Ex->St->Option α) (a b : D7) (c d : Int) :
  rnd C k cd0 12 Q next (St2 a b c d) = l0s (fun a b c d=>next (St2 a b c d)) (fun e=>Q .ret (St1 e)) (Q (.exit 0) St3) a b c d:=plainly Js (by kernel_rfl)
def l0 (k : Nat) (Rt : Bool->Option α) (Xt0 : Option α) : Nat->D7->D7->Int->Int->Option α
 | 0,_,_,_,_=>none
 | n + 1,a,b,c,d=>l0s (l0 k Rt Xt0 n) Rt Xt0 a b c d
theorem l0_eq (k : Nat) (Q : Ex->St->Option α) : ∀ (n : Nat) (a b : D7) (c d : Int),iter (rnd C k cd0 12 Q) n (St2 a b c d) = l0 k (fun e=>Q .ret (St1 e)) (Q (.exit 0) St3) n a b c d
 | 0,_,_,_,_=>rfl
 | n + 1,a,b,c,d=>(iter_succ _ _ _).trans ((l0s_eq k _ Q a b c d).trans (congrArg (fun N=>l0s N (fun e=>Q .ret (St1 e)) (Q (.exit 0) St3) a b c d) (by funext; exact l0_eq k Q n _ _ _ _)))
theorem l0_congr (k : Nat) (Rt : Bool->Option α) (Xt0 : Option α) (Rtq : Bool->Option α) (Xt0q : Option α) (hRt : ∀ (a : Bool),Rt a = Rtq a) (hXt0 : Xt0 = Xt0q) (n : Nat) (b c : D7) (d e : Int) : l0 k Rt Xt0 n b c d e = l0 k Rtq Xt0q n b c d e:=by
 obtain rfl : Rt = Rtq:=by funext a; exact hRt a
 obtain rfl : Xt0 = Xt0q:=hXt0
 rfl
noncomputable def cd1 : Code:=cR (cR (cR (cB Tryz.f20)))
def St4 : St:=stL 27 [] []
def j0 (Rt : Bool->Option α) : Option α :=
 Rt true
theorem j0_eq (k : Nat) (Q : Ex->St->Option α) :
  (den C k) cd1 Q St4 = j0 (fun a=>Q .ret (St1 a)):=plainly Js (by kernel_rfl)
theorem a0 (k : Nat) (Q : Ex->St->Option α) (c d : D7) (e f : Int) :
  (lp C k) cd0 (blkQ C 0 (sq (den C k) (lp C k) Js C cd1 Q)) (St2 c d e f) = l0 k (fun a=>(fun a=>Q .ret (St1 a)) a) (j0 (fun a=>Q .ret (St1 a))) k c d e f :=
 (lp_iter 12 (by kernel_rfl)).trans ((l0_eq k _ k c d e f).trans (l0_congr k _ _ _ _ (fun a=>(by kernel_rfl)) (Eq.trans (b:=(den C k) cd1 Q St4) (by kernel_rfl) (by simp only [j0_eq])) k c d e f))
def top (k : Nat) (Rt : Bool->Option α) (a b : D7) : Option α :=
 if ((a.length : Int) != (b.length : Int)) = true then
  Rt false
 else
  l0 k (fun c=>Rt c) (j0 Rt) k a b (a.length : Int) 0
theorem top_eq (k : Nat) (Q : Ex->St->Option α) (a b : D7) :
  (den C k) (cB Tryz.f20) Q (St0 a b) = top k (fun c=>Q .ret (St1 c)) a b:=by
 have h : ∀ (D L : DT α),denJ D L Js C (cB Tryz.f20) Q (St0 a b) =
    if ((a.length : Int) != (b.length : Int)) = true then
     Q .ret (St1 false)
    else
     L cd0 (blkQ C 0 (sq D L Js C cd1 Q)) (St2 a b (a.length : Int) 0):=by
  intro D L; kernel_rfl
 have h2:=via (k:=k) h
 refine h2.trans ?_
 simp only [a0]
 first | rfl | kernel_rfl
def run (a b : D7) : Option (Bool):=top (α:=Bool) fuel (fun c=>some c) a b
def F : Fn:=⟨T105,.bool,false,fun x=>run x.1 x.2.1⟩
theorem con : Con Tryz.prog 20 F /\ Named Tryz.prog 20 :=
 con_of2 (C:=C) (ctx_ok (by kernel_rfl) (by kernel_rfl) (by kernel_rfl) (by kernel_rfl) ⟨.inl basculeref_SameBody.con,trivial⟩) (by kernel_rfl) Tryz.func20 (by kernel_rfl) (c:=cB Tryz.f20) (by kernel_rfl) (by kernel_rfl) F (fun x=>by simp [F,spread,Tryz.ntmps20]) (fun x=>(St0 x.1 x.2.1)) (fun x=>by kernel_rfl) fun x=>(top_eq fuel _ x.1 x.2.1).trans (by kernel_rfl)
end Go.Bx.basculelaw_sameBodies
namespace Go.Bx.basculelaw_sameGuard
def Js : List Nat:=[]
def C : Ctx:=⟨[(4,.bool),(24,T30),(28,T21),(31,T11),(32,T14),(34,T15)],[],[],fnL [(18,basculelaw_sameGate.F),(19,basculelaw_sameLog.F),(20,basculelaw_sameBodies.F)],noSh,[],invL [],[(2,[4])],[],[],0,0⟩
def St0 (a b : D5) : St:=stL 45 [(0,.data T15 a),(1,.data T15 b)] []
def St1 (a : Bool) : St:=stL 45 [(4,.data .bool a)] []
def top (Rt : Bool->Option α) (a b : D5) : Option α :=
 (if ((beqD T30 a.1 b.1) == true) = true then basculelaw_sameGate.run a.2.1 b.2.1 else some false).bind fun c =>
 (if ((cond (beqD T30 a.1 b.1) c false) == true) = true then basculelaw_sameGate.run a.2.2.1 b.2.2.1 else some false).bind fun d =>
 (if ((cond (cond (beqD T30 a.1 b.1) c false) d false) == true) = true then basculelaw_sameLog.run a.2.2.2.1 b.2.2.2.1 else some false).bind fun e =>
 (if ((cond (cond (cond (beqD T30 a.1 b.1) c false) d false) e false) == true) = true then basculelaw_sameBodies.run a.2.2.2.2.1 b.2.2.2.2.1 else some false).bind fun f =>
 (if ((cond (cond (cond (cond (beqD T30 a.1 b.1) c false) d false) e false) f false) == true) = true then basculelaw_sameBodies.run a.2.2.2.2.2.1 b.2.2.2.2.2.1 else some false).bind fun g =>
 Rt (cond (cond (cond (cond (cond (beqD T30 a.1 b.1) c false) d false) e false) f false) g false)
theorem top_eq (k : Nat) (Q : Ex->St->Option α) (a b : D5) :
  (den C k) (cB Tryz.f6) Q (St0 a b) = top (fun c=>Q .ret (St1 c)) a b:=plainly Js (by kernel_rfl)
def run (a b : D5) : Option (Bool):=top (α:=Bool) (fun c=>some c) a b
def F : Fn:=⟨T106,.bool,false,fun x=>run x.1 x.2.1⟩
theorem con : Con Tryz.prog 6 F /\ Named Tryz.prog 6 :=
 con_of2 (C:=C) (ctx_ok (by kernel_rfl) (by kernel_rfl) (by kernel_rfl) (by kernel_rfl) ⟨.inl basculelaw_sameGate.con,⟨.inl basculelaw_sameLog.con,⟨.inl basculelaw_sameBodies.con,trivial⟩⟩⟩) (by kernel_rfl) Tryz.func6 (by kernel_rfl) (c:=cB Tryz.f6) (by kernel_rfl) (by kernel_rfl) F (fun x=>by simp [F,spread,Tryz.ntmps6]) (fun x=>(St0 x.1 x.2.1)) (fun x=>by kernel_rfl) fun x=>(top_eq fuel _ x.1 x.2.1).trans (by kernel_rfl)
end Go.Bx.basculelaw_sameGuard
namespace Go.Bx.guard_Id
def Js : List Nat:=[]
def C : Ctx:=⟨[(3,T1),(37,T4)],[],[],fnL [],noSh,[],invL [],[(2,[2])],[],[],0,0⟩
def St0 (a : D0) : St:=stL 9 [(0,.data T4 a)] []
def St1 (a : Int) : St:=stL 9 [(2,.data T1 a)] []
def top (Rt : Int->Option α) (a : D0) : Option α :=
 Rt (IntKind.i64.wrap ((IntKind.i64.wrap (a.2.2.1 * 256)) + a.2.2.2.2.1))
theorem top_eq (k : Nat) (Q : Ex->St->Option α) (a : D0) :
  (den C k) (cB Tryz.f22) Q (St0 a) = top (fun b=>Q .ret (St1 b)) a:=plainly Js (by kernel_rfl)
def run (a : D0) : Option (Int):=top (α:=Int) (fun b=>some b) a
def F : Fn:=⟨T5,T1,false,fun x=>run x.1⟩
theorem con : Con Tryz.prog 22 F /\ Named Tryz.prog 22 :=
 con_of2 (C:=C) (ctx_ok (by kernel_rfl) (by kernel_rfl) (by kernel_rfl) (by kernel_rfl) trivial) (by kernel_rfl) Tryz.func22 (by kernel_rfl) (c:=cB Tryz.f22) (by kernel_rfl) (by kernel_rfl) F (fun x=>by simp [F,spread,Tryz.ntmps22]) (fun x=>(St0 x.1)) (fun x=>by kernel_rfl) fun x=>(top_eq fuel _ x.1).trans (by kernel_rfl)
end Go.Bx.guard_Id
namespace Go.Bx.basculeref_IdOf
def Js : List Nat:=[]
def C : Ctx:=⟨[(3,T1),(37,T4)],[],[],fnL [],noSh,[],invL [],[(2,[2])],[],[],0,0⟩
def St0 (a : D0) : St:=stL 9 [(0,.data T4 a)] []
def St1 (a : Int) : St:=stL 9 [(2,.data T1 a)] []
def top (Rt : Int->Option α) (a : D0) : Option α :=
 Rt (IntKind.i64.wrap ((IntKind.i64.wrap (256 * a.2.2.1)) + a.2.2.2.2.1))
theorem top_eq (k : Nat) (Q : Ex->St->Option α) (a : D0) :
  (den C k) (cB Tryz.f34) Q (St0 a) = top (fun b=>Q .ret (St1 b)) a:=plainly Js (by kernel_rfl)
def run (a : D0) : Option (Int):=top (α:=Int) (fun b=>some b) a
def F : Fn:=⟨T5,T1,false,fun x=>run x.1⟩
theorem con : Con Tryz.prog 34 F /\ Named Tryz.prog 34 :=
 con_of2 (C:=C) (ctx_ok (by kernel_rfl) (by kernel_rfl) (by kernel_rfl) (by kernel_rfl) trivial) (by kernel_rfl) Tryz.func34 (by kernel_rfl) (c:=cB Tryz.f34) (by kernel_rfl) (by kernel_rfl) F (fun x=>by simp [F,spread,Tryz.ntmps34]) (fun x=>(St0 x.1)) (fun x=>by kernel_rfl) fun x=>(top_eq fuel _ x.1).trans (by kernel_rfl)
end Go.Bx.basculeref_IdOf
namespace Go.Bx.basculeref_Ticked
def Js : List Nat:=[13,14,24,25]
def C : Ctx:=⟨[(3,T1),(25,T19),(26,T20),(28,T21),(38,T1),(93,T66),(112,T22)],[],[],fnL [(65,basculeref_GateFault.F),(66,basculeref_passes.F)],noSh,[],invL [],[(2,[4,5,6]),(7,[4,8,11]),(10,[4,8,11,65,66,67]),(1,[2,4,8]),(4,[2,4,8,45,46,47]),(24,[2,4,8,45,46,47]),(36,[2,4,8,45,46,47]),(39,[2,4,8]),(45,[4,8,11,65,66,67]),(69,[4,8,11,65,66,67]),(72,[4,8,11])],[(2,[.dat true 5 [],.dat false 4 [3],.dat false 4 [4]]),(24,[.melt false 8 [3] 61 true]),(45,[.melt false 8 [4] 89 true,.melt true 11 [] 95 true]),(69,[.melt true 11 [] 95 true])],[],0,0⟩
def St0 (a : D8) (b : Int) : St:=stL 115 [(0,.data T21 a),(1,.data T1 b)] []
def St1 (a : D1) (b : Int) (c : D8) : St:=stL 115 [(4,.ref 4 0 []),(5,.data T66 a),(6,.data T1 b)] [(4,.cell T21 (.data T21 c) false)]
def St2 (a : D9) (b c : Int) (d : D8) (e f : D1) (g : Int) (i j : D1) (k : Int) (l : D9) : St:=stL 115 [(2,.ref 2 0 []),(4,.ref 4 0 []),(8,.ref 8 0 []),(45,.data T20 a),(46,.data T1 b),(47,.data T1 c)] [(2,.cell T21 (.data T21 d) false),(4,.cell T21 (.agg T21 [.data T19 e,.data T19 f,.data T1 g,.full T22 [],.full T22 []]) false),(8,.cell T21 (.agg T21 [.data T19 i,.data T19 j,.data T1 k,.app 61 0,.full T22 []]) false),(61,.buf T22 l 0 true)]
noncomputable def cd0 : Code:=cL (cL (cR (cL (cR (cR (cR (cR (cB Tryz.f72))))))))
def St3 (a : D9) (b c : Int) (d : D8) (e f : D1) (g : Int) (i j : D1) (k : Int) (l : D9) : St:=stL 115 [(2,.ref 2 0 []),(4,.ref 4 0 []),(8,.ref 8 0 []),(45,.data T20 a),(46,.data T1 b),(47,.data T1 c)] [(2,.cell T21 (.data T21 d) false),(4,.cell T21 (.agg T21 [.data T19 e,.data T19 f,.data T1 g,.full T22 [],.full T22 []]) false),(8,.cell T21 (.agg T21 [.data T19 i,.data T19 j,.data T1 k,.app 61 0,.full T22 []]) false),(61,.buf T22 l 0 true)]
noncomputable def cd1 : Code:=cR (cR (cR (cL (cL (cR (cL (cR (cR (cR (cR (cB Tryz.f72)))))))))))
def j0 (Nx : D9->Int->Int->D8->D1->D1->Int->D1->D1->Int->D9->Option α) (a : D9) (b c : Int) (d : D8) (e f : D1) (g : Int) (i j : D1) (k : Int) (l : D9) : Option α :=
 Nx a b (IntKind.i64.wrap (c + 1)) d e f g i j k l
theorem j0_eq (k : Nat) (next : St->Option α) (Q : Ex->St->Option α) (a : D9) (b c : Int) (d : D8) (e f : D1) (g : Int) (i j : D1) (l : Int) (m : D9) :
  (den C k) cd1 (lq C 24 next Q) (St3 a b c d e f g i j l m) = j0 (fun a b c d e f g i j l m=>next (St2 a b c d e f g i j l m)) a b c d e f g i j l m:=plainly Js (by kernel_rfl)
def St4 (a : D8) (b c : D1) (d : Int) (e f : D1) (g : Int) (i : D9) : St:=stL 115 [(2,.ref 2 0 []),(4,.ref 4 0 []),(8,.ref 8 0 [])] [(2,.cell T21 (.data T21 a) false),(4,.cell T21 (.agg T21 [.data T19 b,.data T19 c,.data T1 d,.full T22 [],.full T22 []]) false),(8,.cell T21 (.agg T21 [.data T19 e,.data T19 f,.data T1 g,.app 61 0,.full T22 []]) false),(61,.buf T22 i 0 true)]
def l0s (Nx : D9->Int->Int->D8->D1->D1->Int->D1->D1->Int->D9->Option α) (Xt0 : D8->D1->D1->Int->D1->D1->Int->D9->Option α) (b : D9) (e a : Int) (f : D8) (g i : D1) (j : Int) (k l : D1) (c : Int) (d : D9) : Option α :=
 if (decide (a < e)) = true then
  if 0 <= a /\ a < (b.length : Int) then
   if (decide ((IntKind.i64.wrap ((List.getD b (Int.toNat a) (0,0,0,0,())).2.2.2.1 + 24)) > c)) = true then
    if fitB (d.length + 1) 32 = true then
     j0 Nx b e a f g i j k l c (d ++ [(List.getD b (Int.toNat a) (0,0,0,0,()))])
    else none
   else
    j0 Nx b e a f g i j k l c d
  else none
 else
  Xt0 f g i j k l c d
theorem l0s_eq (k : Nat) (next : St->Option α) (Q : Ex->St->Option α) (d : D9) (m a : Int) (e : D8) (f g : D1) (i : Int) (j l : D1) (b : Int) (c : D9) :
  rnd C k cd0 24 Q next (St2 d m a e f g i j l b c) = l0s (fun d m a e f g i j l b c=>next (St2 d m a e f g i j l b c)) (fun e f g i j l b c=>Q (.exit 0) (St4 e f g i j l b c)) d m a e f g i j l b c:=by
 have h : ∀ (D L : DT α),denJ D L Js C cd0 (lq C 24 next Q) (St2 d m a e f g i j l b c) =
    if (decide (a < m)) = true then
     if 0 <= a /\ a < (d.length : Int) then
      if (decide ((IntKind.i64.wrap ((List.getD d (Int.toNat a) (0,0,0,0,())).2.2.2.1 + 24)) > b)) = true then
       if fitB (c.length + 1) 32 = true then
        D cd1 (lq C 24 next Q) (St3 d m a e f g i j l b (c ++ [(List.getD d (Int.toNat a) (0,0,0,0,()))]))
       else none
      else
       D cd1 (lq C 24 next Q) (St3 d m a e f g i j l b c)
     else none
    else
     Q (.exit 0) (St4 e f g i j l b c):=by
  intro D L; kernel_rfl
 have h2:=via (k:=k) h
 refine h2.trans ?_
 simp only [j0_eq]
 first | rfl | kernel_rfl
def l0 (k : Nat) (Xt0 : D8->D1->D1->Int->D1->D1->Int->D9->Option α) : Nat->D9->Int->Int->D8->D1->D1->Int->D1->D1->Int->D9->Option α
 | 0,_,_,_,_,_,_,_,_,_,_,_=>none
 | n + 1,a,b,c,d,e,f,g,i,j,l,m=>l0s (l0 k Xt0 n) Xt0 a b c d e f g i j l m
theorem l0_eq (k : Nat) (Q : Ex->St->Option α) : ∀ (n : Nat) (j : D9) (l m : Int) (a : D8) (b c : D1) (d : Int) (e f : D1) (g : Int) (i : D9),iter (rnd C k cd0 24 Q) n (St2 j l m a b c d e f g i) = l0 k (fun a b c d e f g i=>Q (.exit 0) (St4 a b c d e f g i)) n j l m a b c d e f g i
 | 0,_,_,_,_,_,_,_,_,_,_,_=>rfl
 | n + 1,j,l,m,a,b,c,d,e,f,g,i=>(iter_succ _ _ _).trans ((l0s_eq k _ Q j l m a b c d e f g i).trans (congrArg (fun N=>l0s N (fun a b c d e f g i=>Q (.exit 0) (St4 a b c d e f g i)) j l m a b c d e f g i) (by funext; exact l0_eq k Q n _ _ _ _ _ _ _ _ _ _ _)))
noncomputable def cd2 : Code:=cR (cR (cR (cR (cR (cB Tryz.f72)))))
def St5 (a : D8) (b c : D1) (d : Int) (e f : D1) (g : Int) (i : D9) : St:=stL 115 [(2,.ref 2 0 []),(4,.ref 4 0 []),(8,.ref 8 0 [])] [(2,.cell T21 (.data T21 a) false),(4,.cell T21 (.agg T21 [.data T19 b,.data T19 c,.data T1 d,.full T22 [],.full T22 []]) false),(8,.cell T21 (.agg T21 [.data T19 e,.data T19 f,.data T1 g,.app 61 0,.full T22 []]) false),(61,.buf T22 i 0 true)]
def St6 (a : D9) (b c : Int) (d e : D1) (f : Int) (g i : D1) (j : Int) (k l : D9) (m : D1) : St:=stL 115 [(4,.ref 4 0 []),(8,.ref 8 0 []),(11,.app 95 0),(65,.data T20 a),(66,.data T1 b),(67,.data T1 c)] [(4,.cell T21 (.agg T21 [.data T19 d,.data T19 e,.data T1 f,.full T22 [],.full T22 []]) false),(8,.cell T21 (.agg T21 [.data T19 g,.data T19 i,.data T1 j,.app 61 0,.app 89 0]) false),(61,.buf T22 k 0 true),(89,.buf T22 l 0 true),(95,.buf T1 m 0 true)]
noncomputable def cd3 : Code:=cL (cL (cR (cL (cR (cR (cR (cR (cR (cR (cB Tryz.f72))))))))))
def St7 (a : D9) (b c : Int) (d e : D1) (f : Int) (g i : D1) (j : Int) (k l : D9) (m : D1) : St:=stL 115 [(4,.ref 4 0 []),(8,.ref 8 0 []),(11,.app 95 0),(65,.data T20 a),(66,.data T1 b),(67,.data T1 c)] [(4,.cell T21 (.agg T21 [.data T19 d,.data T19 e,.data T1 f,.full T22 [],.full T22 []]) false),(8,.cell T21 (.agg T21 [.data T19 g,.data T19 i,.data T1 j,.app 61 0,.app 89 0]) false),(61,.buf T22 k 0 true),(89,.buf T22 l 0 true),(95,.buf T1 m 0 true)]
noncomputable def cd4 : Code:=cR (cR (cR (cL (cL (cR (cL (cR (cR (cR (cR (cR (cR (cB Tryz.f72)))))))))))))
def j2 (Nx : D9->Int->Int->D1->D1->Int->D1->D1->Int->D9->D9->D1->Option α) (a : D9) (b c : Int) (d e : D1) (f : Int) (g i : D1) (j : Int) (k l : D9) (m : D1) : Option α :=
 Nx a b (IntKind.i64.wrap (c + 1)) d e f g i j k l m
theorem j2_eq (k : Nat) (next : St->Option α) (Q : Ex->St->Option α) (a : D9) (b c : Int) (d e : D1) (f : Int) (g i : D1) (j : Int) (l m : D9) (n : D1) :
  (den C k) cd4 (lq C 45 next Q) (St7 a b c d e f g i j l m n) = j2 (fun a b c d e f g i j l m n=>next (St6 a b c d e f g i j l m n)) a b c d e f g i j l m n:=plainly Js (by kernel_rfl)
def St8 (a b : D1) (c : Int) (d e : D1) (f : Int) (g i : D9) (j : D1) : St:=stL 115 [(4,.ref 4 0 []),(8,.ref 8 0 []),(11,.app 95 0)] [(4,.cell T21 (.agg T21 [.data T19 a,.data T19 b,.data T1 c,.full T22 [],.full T22 []]) false),(8,.cell T21 (.agg T21 [.data T19 d,.data T19 e,.data T1 f,.app 61 0,.app 89 0]) false),(61,.buf T22 g 0 true),(89,.buf T22 i 0 true),(95,.buf T1 j 0 true)]
def l1s (Nx : D9->Int->Int->D1->D1->Int->D1->D1->Int->D9->D9->D1->Option α) (Xt2 : D1->D1->Int->D1->D1->Int->D9->D9->D1->Option α) (b : D9) (j a : Int) (k l : D1) (m : Int) (f g : D1) (c : Int) (d e : D9) (i : D1) : Option α :=
 if (decide (a < j)) = true then
  if 0 <= a /\ a < (b.length : Int) then
   (if ((not (decide ((IntKind.i64.wrap ((List.getD b (Int.toNat a) (0,0,0,0,())).2.2.2.1 + 24)) <= c))) == true) = true then basculeref_passes.run (f,g,c,d,e,()) (List.getD b (Int.toNat a) (0,0,0,0,())) else some false).bind fun n =>
   if (cond (not (decide ((IntKind.i64.wrap ((List.getD b (Int.toNat a) (0,0,0,0,())).2.2.2.1 + 24)) <= c))) (not n) false) = true then
    if fitB (e.length + 1) 32 = true then
     j2 Nx b j a k l m f g c d (e ++ [(List.getD b (Int.toNat a) (0,0,0,0,()))]) i
    else none
   else
    if fitB (i.length + 1) 8 = true then
     if (not (decide ((IntKind.i64.wrap ((List.getD b (Int.toNat a) (0,0,0,0,())).2.2.2.1 + 24)) <= c))) = true then
      if fitB (d.length + 1) 32 = true then
       j2 Nx b j a k l m f g c (d ++ [((List.getD b (Int.toNat a) (0,0,0,0,())).1,(List.getD b (Int.toNat a) (0,0,0,0,())).2.1,(List.getD b (Int.toNat a) (0,0,0,0,())).2.2.1,c,())]) e (i ++ [(List.getD b (Int.toNat a) (0,0,0,0,())).1])
      else none
     else
      j2 Nx b j a k l m f g c d e (i ++ [(List.getD b (Int.toNat a) (0,0,0,0,())).1])
    else none
  else none
 else
  Xt2 k l m f g c d e i
theorem l1s_eq (k : Nat) (next : St->Option α) (Q : Ex->St->Option α) (b : D9) (n a : Int) (j l : D1) (m : Int) (f g : D1) (c : Int) (d e : D9) (i : D1) :
  rnd C k cd3 45 Q next (St6 b n a j l m f g c d e i) = l1s (fun b n a j l m f g c d e i=>next (St6 b n a j l m f g c d e i)) (fun j l m f g c d e i=>Q (.exit 2) (St8 j l m f g c d e i)) b n a j l m f g c d e i:=by
 have h : ∀ (D L : DT α),denJ D L Js C cd3 (lq C 45 next Q) (St6 b n a j l m f g c d e i) =
    if (decide (a < n)) = true then
     if 0 <= a /\ a < (b.length : Int) then
      (if ((not (decide ((IntKind.i64.wrap ((List.getD b (Int.toNat a) (0,0,0,0,())).2.2.2.1 + 24)) <= c))) == true) = true then basculeref_passes.run (f,g,c,d,e,()) (List.getD b (Int.toNat a) (0,0,0,0,())) else some false).bind fun o =>
      if (cond (not (decide ((IntKind.i64.wrap ((List.getD b (Int.toNat a) (0,0,0,0,())).2.2.2.1 + 24)) <= c))) (not o) false) = true then
       if fitB (e.length + 1) 32 = true then
        D cd4 (lq C 45 next Q) (St7 b n a j l m f g c d (e ++ [(List.getD b (Int.toNat a) (0,0,0,0,()))]) i)
       else none
      else
       if fitB (i.length + 1) 8 = true then
        if (not (decide ((IntKind.i64.wrap ((List.getD b (Int.toNat a) (0,0,0,0,())).2.2.2.1 + 24)) <= c))) = true then
         if fitB (d.length + 1) 32 = true then
          D cd4 (lq C 45 next Q) (St7 b n a j l m f g c (d ++ [((List.getD b (Int.toNat a) (0,0,0,0,())).1,(List.getD b (Int.toNat a) (0,0,0,0,())).2.1,(List.getD b (Int.toNat a) (0,0,0,0,())).2.2.1,c,())]) e (i ++ [(List.getD b (Int.toNat a) (0,0,0,0,())).1]))
         else none
        else
         D cd4 (lq C 45 next Q) (St7 b n a j l m f g c d e (i ++ [(List.getD b (Int.toNat a) (0,0,0,0,())).1]))
       else none
     else none
    else
     Q (.exit 2) (St8 j l m f g c d e i):=by
  intro D L; kernel_rfl
 have h2:=via (k:=k) h
 refine h2.trans ?_
 simp only [j2_eq]
 first | rfl | kernel_rfl
def l1 (k : Nat) (Xt2 : D1->D1->Int->D1->D1->Int->D9->D9->D1->Option α) : Nat->D9->Int->Int->D1->D1->Int->D1->D1->Int->D9->D9->D1->Option α
 | 0,_,_,_,_,_,_,_,_,_,_,_,_=>none
 | n + 1,a,b,c,d,e,f,g,i,j,l,m,o=>l1s (l1 k Xt2 n) Xt2 a b c d e f g i j l m o
theorem l1_eq (k : Nat) (Q : Ex->St->Option α) : ∀ (n : Nat) (l : D9) (m o : Int) (a b : D1) (c : Int) (d e : D1) (f : Int) (g i : D9) (j : D1),iter (rnd C k cd3 45 Q) n (St6 l m o a b c d e f g i j) = l1 k (fun a b c d e f g i j=>Q (.exit 2) (St8 a b c d e f g i j)) n l m o a b c d e f g i j
 | 0,_,_,_,_,_,_,_,_,_,_,_,_=>rfl
 | n + 1,l,m,o,a,b,c,d,e,f,g,i,j=>(iter_succ _ _ _).trans ((l1s_eq k _ Q l m o a b c d e f g i j).trans (congrArg (fun N=>l1s N (fun a b c d e f g i j=>Q (.exit 2) (St8 a b c d e f g i j)) l m o a b c d e f g i j) (by funext; exact l1_eq k Q n _ _ _ _ _ _ _ _ _ _ _ _)))
noncomputable def cd5 : Code:=cR (cR (cR (cR (cR (cR (cR (cB Tryz.f72)))))))
def St9 (a b : D1) (c : Int) (d e : D1) (f : Int) (g i : D9) (j : D1) : St:=stL 115 [(4,.ref 4 0 []),(8,.ref 8 0 []),(11,.app 95 0)] [(4,.cell T21 (.agg T21 [.data T19 a,.data T19 b,.data T1 c,.full T22 [],.full T22 []]) false),(8,.cell T21 (.agg T21 [.data T19 d,.data T19 e,.data T1 f,.app 61 0,.app 89 0]) false),(61,.buf T22 g 0 true),(89,.buf T22 i 0 true),(95,.buf T1 j 0 true)]
def j3 (Rt : D1->Int->D8->Option α) (g i : D1) (j : Int) (a b : D1) (c : Int) (d e : D9) (f : D1) : Option α :=
 Rt f 0 (a,b,c,d,e,())
theorem j3_eq (k : Nat) (Q : Ex->St->Option α) (a b : D1) (c : Int) (d e : D1) (f : Int) (g i : D9) (j : D1) :
  (den C k) cd5 Q (St9 a b c d e f g i j) = j3 (fun l m n=>Q .ret (St1 l m n)) a b c d e f g i j:=plainly Js (by kernel_rfl)
theorem a0 (k : Nat) (Q : Ex->St->Option α) (m : D9) (n o : Int) (a c : D1) (d : Int) (e f : D1) (g : Int) (i j : D9) (l : D1) :
  (lp C k) cd3 (blkQ C 2 (sq (den C k) (lp C k) Js C cd5 Q)) (St6 m n o a c d e f g i j l) = l1 k (fun a c d e f g i j l=>j3 (fun p q r=>Q .ret (St1 p q r)) a c d e f g i j l) k m n o a c d e f g i j l :=
 (lp_iter 45 (by kernel_rfl)).trans ((l1_eq k _ k m n o a c d e f g i j l).trans (congrArg (fun X=>l1 k X k m n o a c d e f g i j l) (funext fun a=>funext fun c=>funext fun d=>funext fun e=>funext fun f=>funext fun g=>funext fun i=>funext fun j=>funext fun l=>(Eq.trans (b:=(den C k) cd5 Q (St9 a c d e f g i j l)) (by kernel_rfl) (by simp only [j3_eq])))))
def j1 (k : Nat) (Rt : D1->Int->D8->Option α) (i : D8) (a b : D1) (c : Int) (d e : D1) (f : Int) (g : D9) : Option α :=
 l1 k (fun a b c d e f g j l=>j3 Rt a b c d e f g j l) k i.2.2.2.2.1 (i.2.2.2.2.1.length : Int) 0 a b c d e f g [] []
theorem j1_eq (k : Nat) (Q : Ex->St->Option α) (a : D8) (b c : D1) (d : Int) (e f : D1) (g : Int) (i : D9) :
  (den C k) cd2 Q (St5 a b c d e f g i) = j1 k (fun j l m=>Q .ret (St1 j l m)) a b c d e f g i:=by
 have h : ∀ (D L : DT α),denJ D L Js C cd2 Q (St5 a b c d e f g i) =
    L cd3 (blkQ C 2 (sq D L Js C cd5 Q)) (St6 a.2.2.2.2.1 (a.2.2.2.2.1.length : Int) 0 b c d e f g i [] []):=by
  intro D L; kernel_rfl
 have h2:=via (k:=k) h
 refine h2.trans ?_
 simp only [a0]
 first | rfl | kernel_rfl
theorem a1 (k : Nat) (Q : Ex->St->Option α) (l : D9) (m n : Int) (a : D8) (c d : D1) (e : Int) (f g : D1) (i : Int) (j : D9) :
  (lp C k) cd0 (blkQ C 0 (sq (den C k) (lp C k) Js C cd2 Q)) (St2 l m n a c d e f g i j) = l0 k (fun a c d e f g i j=>j1 k (fun o p q=>Q .ret (St1 o p q)) a c d e f g i j) k l m n a c d e f g i j :=
 (lp_iter 24 (by kernel_rfl)).trans ((l0_eq k _ k l m n a c d e f g i j).trans (congrArg (fun X=>l0 k X k l m n a c d e f g i j) (funext fun a=>funext fun c=>funext fun d=>funext fun e=>funext fun f=>funext fun g=>funext fun i=>funext fun j=>(Eq.trans (b:=(den C k) cd2 Q (St5 a c d e f g i j)) (by kernel_rfl) (by simp only [j1_eq])))))
def top (k : Nat) (Rt : D1->Int->D8->Option α) (a : D8) (b : Int) : Option α :=
 (basculeref_GateFault.run a).bind fun c =>
 if (c != 0) = true then
  Rt [] c ([0,0,0],[0,0,0],0,[],[],())
 else
  if (cond (cond (decide (b < 1)) true (decide (b > 1000))) true (decide (a.2.2.1 > (IntKind.i64.wrap (1099511627776 - b))))) = true then
   Rt [] 6 ([0,0,0],[0,0,0],0,[],[],())
  else
   l0 k (fun d e f g i j l m=>j1 k Rt d e f g i j l m) k a.2.2.2.1 (a.2.2.2.1.length : Int) 0 a [0,0,0] [0,0,0] 0 a.1 a.2.1 (IntKind.i64.wrap (a.2.2.1 + b)) []
theorem top_eq (k : Nat) (Q : Ex->St->Option α) (a : D8) (b : Int) :
  (den C k) (cB Tryz.f72) Q (St0 a b) = top k (fun d e f=>Q .ret (St1 d e f)) a b:=by
 have h : ∀ (D L : DT α),denJ D L Js C (cB Tryz.f72) Q (St0 a b) =
    (basculeref_GateFault.run a).bind fun c =>
    if (c != 0) = true then
     Q .ret (St1 [] c ([0,0,0],[0,0,0],0,[],[],()))
    else
     if (cond (cond (decide (b < 1)) true (decide (b > 1000))) true (decide (a.2.2.1 > (IntKind.i64.wrap (1099511627776 - b))))) = true then
      Q .ret (St1 [] 6 ([0,0,0],[0,0,0],0,[],[],()))
     else
      L cd0 (blkQ C 0 (sq D L Js C cd2 Q)) (St2 a.2.2.2.1 (a.2.2.2.1.length : Int) 0 a [0,0,0] [0,0,0] 0 a.1 a.2.1 (IntKind.i64.wrap (a.2.2.1 + b)) []):=by
  intro D L; kernel_rfl
 have h2:=via (k:=k) h
 refine h2.trans ?_
 simp only [a1]
 first | rfl | kernel_rfl
def run (a : D8) (b : Int) : Option D33:=top (α:=D8 × List Int × Int × Unit) fuel (fun c d e=>some (e,c,d,())) a b
def F : Fn:=⟨T24,T67,true,fun x=>run x.1 x.2.1⟩
theorem con : Con Tryz.prog 72 F /\ Named Tryz.prog 72 :=
 con_of2 (C:=C) (ctx_ok (by kernel_rfl) (by kernel_rfl) (by kernel_rfl) (by kernel_rfl) ⟨.inl basculeref_GateFault.con,⟨.inl basculeref_passes.con,trivial⟩⟩) (by kernel_rfl) Tryz.func72 (by kernel_rfl) (c:=cB Tryz.f72) (by kernel_rfl) (by kernel_rfl) F (fun x=>by simp [F,spread,Tryz.ntmps72]) (fun x=>(St0 x.1 x.2.1)) (fun x=>by kernel_rfl) fun x=>(top_eq fuel _ x.1 x.2.1).trans (by kernel_rfl)
end Go.Bx.basculeref_Ticked
namespace Go.Bx.basculeref_waits
def Js : List Nat:=[17,18,19,20]
def C : Ctx:=⟨[(3,T1),(28,T21),(32,T14),(34,T15),(37,T4),(38,T1),(93,T66)],[],[],fnL [(34,basculeref_IdOf.F),(72,basculeref_Ticked.F)],noSh,[],invL [],[(2,[4,5]),(1,[2,4,9]),(4,[2,4,9,33,34,35]),(7,[2,4,9,12,33,34,35]),(10,[2,4,9,11,12,33,34,35,40,41,42]),(21,[2,4,9,33,34,35]),(33,[2,4,9,11,12,33,34,35,40,41,42]),(48,[2,4,9,11,12,33,34,35,40,41,42]),(51,[2,4,9,12,33,34,35]),(54,[2,4,9,33,34,35]),(57,[2,4,9])],[(2,[.dat false 4 []]),(21,[.dat false 2 []]),(33,[.melt true 12 [] 57 true]),(48,[.melt true 12 [] 57 true])],[32],0,0⟩
def St0 (a : D5) (b : Int) : St:=stL 65 [(0,.data T15 a),(1,.data T1 b)] []
def St1 (a : Int) (b : D5) : St:=stL 65 [(4,.ref 4 0 []),(5,.data T1 a)] [(4,.cell T15 (.data T15 b) false)]
def St2 (a : D1) (b c : Int) (d : D5) (e f g : D1) (i : Int) (j k : D1) (l : Int) (m : D7) : St:=stL 65 [(2,.ref 2 0 []),(4,.ref 4 0 []),(9,.app 32 0),(33,.data T66 a),(34,.data T1 b),(35,.data T1 c)] [(2,.cell T15 (.data T15 d) false),(4,.cell T15 (.agg T15 [.data T30 e,.agg T21 [.data T19 f,.data T19 g,.data T1 i,.full T22 [],.full T22 []],.agg T21 [.data T19 j,.data T19 k,.data T1 l,.full T22 [],.full T22 []],.agg T11 [.full T6 [],.full T6 []],.full T4 [],.full T4 []]) false),(32,.buf T4 m 0 true)]
noncomputable def cd0 : Code:=cL (cL (cR (cL (cR (cR (cR (cR (cR (cB Tryz.f44)))))))))
def St3 (a : Int) (b : D1) (c d : Int) (e : D7) (f g : Int) (i : D5) (j k l : D1) (m : Int) (n o : D1) (p : Int) (q r : D7) : St:=stL 65 [(2,.ref 2 0 []),(4,.ref 4 0 []),(9,.app 32 0),(11,.data T1 a),(12,.app 57 0),(33,.data T66 b),(34,.data T1 c),(35,.data T1 d),(40,.data T14 e),(41,.data T1 f),(42,.data T1 g)] [(2,.cell T15 (.data T15 i) false),(4,.cell T15 (.agg T15 [.data T30 j,.agg T21 [.data T19 k,.data T19 l,.data T1 m,.full T22 [],.full T22 []],.agg T21 [.data T19 n,.data T19 o,.data T1 p,.full T22 [],.full T22 []],.agg T11 [.full T6 [],.full T6 []],.full T4 [],.full T4 []]) false),(32,.buf T4 q 0 true),(57,.buf T4 r 0 true)]
noncomputable def cd1 : Code:=cL (cL (cR (cL (cR (cR (cL (cL (cR (cR (cL (cL (cR (cL (cR (cR (cR (cR (cR (cB Tryz.f44)))))))))))))))))))
def St4 (a : Int) (b : D1) (c d : Int) (e : D7) (f g : Int) (i : D5) (j k l : D1) (m : Int) (n o : D1) (p : Int) (q r : D7) : St:=stL 65 [(2,.ref 2 0 []),(4,.ref 4 0 []),(9,.app 32 0),(11,.data T1 a),(12,.app 57 0),(33,.data T66 b),(34,.data T1 c),(35,.data T1 d),(40,.data T14 e),(41,.data T1 f),(42,.data T1 g)] [(2,.cell T15 (.data T15 i) false),(4,.cell T15 (.agg T15 [.data T30 j,.agg T21 [.data T19 k,.data T19 l,.data T1 m,.full T22 [],.full T22 []],.agg T21 [.data T19 n,.data T19 o,.data T1 p,.full T22 [],.full T22 []],.agg T11 [.full T6 [],.full T6 []],.full T4 [],.full T4 []]) false),(32,.buf T4 q 0 true),(57,.buf T4 r 0 true)]
noncomputable def cd2 : Code:=cR (cR (cR (cL (cL (cR (cL (cR (cR (cL (cL (cR (cR (cL (cL (cR (cL (cR (cR (cR (cR (cR (cB Tryz.f44))))))))))))))))))))))
def j0 (Nx : Int->D1->Int->Int->D7->Int->Int->D5->D1->D1->D1->Int->D1->D1->Int->D7->D7->Option α) (a : Int) (b : D1) (c d : Int) (e : D7) (f g : Int) (i : D5) (j k l : D1) (m : Int) (n o : D1) (p : Int) (q r : D7) : Option α :=
 Nx a b c d e f (IntKind.i64.wrap (g + 1)) i j k l m n o p q r
theorem j0_eq (k : Nat) (next : St->Option α) (Q : Ex->St->Option α) (a : Int) (b : D1) (c d : Int) (e : D7) (f g : Int) (i : D5) (j l m : D1) (n : Int) (o p : D1) (q : Int) (r s : D7) :
  (den C k) cd2 (lq C 33 next Q) (St4 a b c d e f g i j l m n o p q r s) = j0 (fun a b c d e f g i j l m n o p q r s=>next (St3 a b c d e f g i j l m n o p q r s)) a b c d e f g i j l m n o p q r s:=plainly Js (by kernel_rfl)
def St5 (a : D1) (b c : Int) (d : D5) (e f g : D1) (i : Int) (j k : D1) (l : Int) (m n : D7) : St:=stL 65 [(2,.ref 2 0 []),(4,.ref 4 0 []),(9,.app 32 0),(12,.app 57 0),(33,.data T66 a),(34,.data T1 b),(35,.data T1 c)] [(2,.cell T15 (.data T15 d) false),(4,.cell T15 (.agg T15 [.data T30 e,.agg T21 [.data T19 f,.data T19 g,.data T1 i,.full T22 [],.full T22 []],.agg T21 [.data T19 j,.data T19 k,.data T1 l,.full T22 [],.full T22 []],.agg T11 [.full T6 [],.full T6 []],.full T4 [],.full T4 []]) false),(32,.buf T4 m 0 true),(57,.buf T4 n 0 true)]
def l1s (Nx : Int->D1->Int->Int->D7->Int->Int->D5->D1->D1->D1->Int->D1->D1->Int->D7->D7->Option α) (Xt2 : D1->Int->Int->D5->D1->D1->D1->Int->D1->D1->Int->D7->D7->Option α) (e : Int) (f : D1) (g i : Int) (b : D7) (j a : Int) (k : D5) (l m n : D1) (o : Int) (p q : D1) (r : Int) (c d : D7) : Option α :=
 if (decide (a < j)) = true then
  if 0 <= a /\ a < (b.length : Int) then
   (basculeref_IdOf.run (List.getD b (Int.toNat a) (0,0,0,(List.replicate 32 0),0,0,[],()))).bind fun s =>
   if (s == e) = true then
    if fitB (c.length + 1) 96 = true then
     j0 Nx e f g i b j a k l m n o p q r (c ++ [(List.getD b (Int.toNat a) (0,0,0,(List.replicate 32 0),0,0,[],()))]) d
    else none
   else
    if fitB (d.length + 1) 96 = true then
     j0 Nx e f g i b j a k l m n o p q r c (d ++ [(List.getD b (Int.toNat a) (0,0,0,(List.replicate 32 0),0,0,[],()))])
    else none
  else none
 else
  Xt2 f g i k l m n o p q r c d
theorem l1s_eq (k : Nat) (next : St->Option α) (Q : Ex->St->Option α) (r : Int) (e : D1) (f g : Int) (b : D7) (s a : Int) (i : D5) (j l m : D1) (n : Int) (o p : D1) (q : Int) (c d : D7) :
  rnd C k cd1 33 Q next (St3 r e f g b s a i j l m n o p q c d) = l1s (fun r e f g b s a i j l m n o p q c d=>next (St3 r e f g b s a i j l m n o p q c d)) (fun e f g i j l m n o p q c d=>Q (.exit 2) (St5 e f g i j l m n o p q c d)) r e f g b s a i j l m n o p q c d:=by
 have h : ∀ (D L : DT α),denJ D L Js C cd1 (lq C 33 next Q) (St3 r e f g b s a i j l m n o p q c d) =
    if (decide (a < s)) = true then
     if 0 <= a /\ a < (b.length : Int) then
      (basculeref_IdOf.run (List.getD b (Int.toNat a) (0,0,0,(List.replicate 32 0),0,0,[],()))).bind fun t =>
      if (t == r) = true then
       if fitB (c.length + 1) 96 = true then
        D cd2 (lq C 33 next Q) (St4 r e f g b s a i j l m n o p q (c ++ [(List.getD b (Int.toNat a) (0,0,0,(List.replicate 32 0),0,0,[],()))]) d)
       else none
      else
       if fitB (d.length + 1) 96 = true then
        D cd2 (lq C 33 next Q) (St4 r e f g b s a i j l m n o p q c (d ++ [(List.getD b (Int.toNat a) (0,0,0,(List.replicate 32 0),0,0,[],()))]))
       else none
     else none
    else
     Q (.exit 2) (St5 e f g i j l m n o p q c d):=by
  intro D L; kernel_rfl
 have h2:=via (k:=k) h
 refine h2.trans ?_
 simp only [j0_eq]
 first | rfl | kernel_rfl
def l1 (k : Nat) (Xt2 : D1->Int->Int->D5->D1->D1->D1->Int->D1->D1->Int->D7->D7->Option α) : Nat->Int->D1->Int->Int->D7->Int->Int->D5->D1->D1->D1->Int->D1->D1->Int->D7->D7->Option α
 | 0,_,_,_,_,_,_,_,_,_,_,_,_,_,_,_,_,_=>none
 | n + 1,a,b,c,d,e,f,g,i,j,l,m,o,p,q,r,s,t=>l1s (l1 k Xt2 n) Xt2 a b c d e f g i j l m o p q r s t
theorem l1_eq (k : Nat) (Q : Ex->St->Option α) : ∀ (n : Nat) (q : Int) (a : D1) (b c : Int) (r : D7) (s t : Int) (d : D5) (e f g : D1) (i : Int) (j l : D1) (m : Int) (o p : D7),iter (rnd C k cd1 33 Q) n (St3 q a b c r s t d e f g i j l m o p) = l1 k (fun a b c d e f g i j l m o p=>Q (.exit 2) (St5 a b c d e f g i j l m o p)) n q a b c r s t d e f g i j l m o p
 | 0,_,_,_,_,_,_,_,_,_,_,_,_,_,_,_,_,_=>rfl
 | n + 1,q,a,b,c,r,s,t,d,e,f,g,i,j,l,m,o,p=>(iter_succ _ _ _).trans ((l1s_eq k _ Q q a b c r s t d e f g i j l m o p).trans (congrArg (fun N=>l1s N (fun a b c d e f g i j l m o p=>Q (.exit 2) (St5 a b c d e f g i j l m o p)) q a b c r s t d e f g i j l m o p) (by funext; exact l1_eq k Q n _ _ _ _ _ _ _ _ _ _ _ _ _ _ _ _ _)))
noncomputable def cd3 : Code:=cR (cR (cR (cL (cL (cR (cR (cL (cL (cR (cL (cR (cR (cR (cR (cR (cB Tryz.f44))))))))))))))))
noncomputable def cd4 : Code:=cR (cR (cR (cL (cL (cR (cL (cR (cR (cR (cR (cR (cB Tryz.f44))))))))))))
def St6 (a : D1) (b c : Int) (d : D5) (e f g : D1) (i : Int) (j k : D1) (l : Int) (m n : D7) : St:=stL 65 [(2,.ref 2 0 []),(4,.ref 4 0 []),(9,.app 32 0),(12,.app 57 0),(33,.data T66 a),(34,.data T1 b),(35,.data T1 c)] [(2,.cell T15 (.data T15 d) false),(4,.cell T15 (.agg T15 [.data T30 e,.agg T21 [.data T19 f,.data T19 g,.data T1 i,.full T22 [],.full T22 []],.agg T21 [.data T19 j,.data T19 k,.data T1 l,.full T22 [],.full T22 []],.agg T11 [.full T6 [],.full T6 []],.full T4 [],.full T4 []]) false),(32,.buf T4 m 0 true),(57,.buf T4 n 0 true)]
def St7 (a : D1) (b c : Int) (d : D1) (e f : D8) (g : D23) (i : D7) (j k l : D1) (m : Int) (n o : D1) (p : Int) (q r : D7) : St:=stL 65 [(2,.ref 2 0 []),(4,.ref 4 0 []),(9,.app 32 0),(33,.data T66 a),(34,.data T1 b),(35,.data T1 c)] [(2,.cell T15 (.agg T15 [.data T30 d,.data T21 e,.data T21 f,.data T11 g,.app 57 0,.data T14 i]) false),(4,.cell T15 (.agg T15 [.data T30 j,.agg T21 [.data T19 k,.data T19 l,.data T1 m,.full T22 [],.full T22 []],.agg T21 [.data T19 n,.data T19 o,.data T1 p,.full T22 [],.full T22 []],.agg T11 [.full T6 [],.full T6 []],.full T4 [],.full T4 []]) false),(32,.buf T4 q 0 true),(57,.buf T4 r 0 true)]
def j2 (Nx : D1->Int->Int->D5->D1->D1->D1->Int->D1->D1->Int->D7->Option α) (a : D1) (b c : Int) (d : D1) (e f : D8) (g : D23) (i : D7) (j k l : D1) (m : Int) (n o : D1) (p : Int) (q r : D7) : Option α :=
 Nx a b (IntKind.i64.wrap (c + 1)) (d,e,f,g,r,i,()) j k l m n o p q
theorem j2_eq (k : Nat) (next : St->Option α) (Q : Ex->St->Option α) (a : D1) (b c : Int) (n : D1) (o p : D8) (q : D23) (r : D7) (d e f : D1) (g : Int) (i j : D1) (l : Int) (m s : D7) :
  (den C k) cd4 (lq C 21 next Q) (St7 a b c n o p q r d e f g i j l m s) = j2 (fun a b c t d e f g i j l m=>next (St2 a b c t d e f g i j l m)) a b c n o p q r d e f g i j l m s:=plainly Js (by kernel_rfl)
def j1 (Nx : D1->Int->Int->D5->D1->D1->D1->Int->D1->D1->Int->D7->Option α) (b : D1) (c d : Int) (a : D5) (e f g : D1) (i : Int) (j k : D1) (l : Int) (m n : D7) : Option α :=
 j2 Nx b c d a.1 a.2.1 a.2.2.1 a.2.2.2.1 a.2.2.2.2.2.1 e f g i j k l m n
theorem j1_eq (k : Nat) (next : St->Option α) (Q : Ex->St->Option α) (b : D1) (c d : Int) (a : D5) (e f g : D1) (i : Int) (j l : D1) (m : Int) (n o : D7) :
  (den C k) cd3 (blkQ C 1 (sq (den C k) (lp C k) Js C cd4 (lq C 21 next Q))) (St6 b c d a e f g i j l m n o) = j1 (fun b c d a e f g i j l m n=>next (St2 b c d a e f g i j l m n)) b c d a e f g i j l m n o:=by
 have h : ∀ (D L : DT α),denJ D L Js C cd3 (blkQ C 1 (sq D L Js C cd4 (lq C 21 next Q))) (St6 b c d a e f g i j l m n o) =
    D cd4 (lq C 21 next Q) (St7 b c d a.1 a.2.1 a.2.2.1 a.2.2.2.1 a.2.2.2.2.2.1 e f g i j l m n o):=by
  intro D L; kernel_rfl
 have h2:=via (k:=k) h
 refine h2.trans ?_
 simp only [j2_eq]
 first | rfl | kernel_rfl
theorem a0 (k : Nat) (next : St->Option α) (Q : Ex->St->Option α) (q : Int) (a : D1) (c d : Int) (r : D7) (s t : Int) (e : D5) (f g i : D1) (j : Int) (l m : D1) (n : Int) (o p : D7) :
  (lp C k) cd1 (blkQ C 2 (sq (den C k) (lp C k) Js C cd3 (blkQ C 1 (sq (den C k) (lp C k) Js C cd4 (lq C 21 next Q))))) (St3 q a c d r s t e f g i j l m n o p) = l1 k (fun a c d e f g i j l m n o p=>j1 (fun a c d e f g i j l m n o=>next (St2 a c d e f g i j l m n o)) a c d e f g i j l m n o p) k q a c d r s t e f g i j l m n o p :=
 (lp_iter 33 (by kernel_rfl)).trans ((l1_eq k _ k q a c d r s t e f g i j l m n o p).trans (congrArg (fun X=>l1 k X k q a c d r s t e f g i j l m n o p) (funext fun a=>funext fun c=>funext fun d=>funext fun e=>funext fun f=>funext fun g=>funext fun i=>funext fun j=>funext fun l=>funext fun m=>funext fun n=>funext fun o=>funext fun p=>(Eq.trans (b:=(den C k) cd3 (blkQ C 1 (sq (den C k) (lp C k) Js C cd4 (lq C 21 next Q))) (St6 a c d e f g i j l m n o p)) (by kernel_rfl) (by simp only [j1_eq])))))
def St8 (a : D5) (b c d : D1) (e : Int) (f g : D1) (i : Int) (j : D7) : St:=stL 65 [(2,.ref 2 0 []),(4,.ref 4 0 []),(9,.app 32 0)] [(2,.cell T15 (.data T15 a) false),(4,.cell T15 (.agg T15 [.data T30 b,.agg T21 [.data T19 c,.data T19 d,.data T1 e,.full T22 [],.full T22 []],.agg T21 [.data T19 f,.data T19 g,.data T1 i,.full T22 [],.full T22 []],.agg T11 [.full T6 [],.full T6 []],.full T4 [],.full T4 []]) false),(32,.buf T4 j 0 true)]
def l0s (k : Nat) (Nx : D1->Int->Int->D5->D1->D1->D1->Int->D1->D1->Int->D7->Option α) (Xt0 : D5->D1->D1->D1->Int->D1->D1->Int->D7->Option α) (c : D1) (d a : Int) (b : D5) (e f g : D1) (i : Int) (j l : D1) (m : Int) (n : D7) : Option α :=
 if (decide (a < d)) = true then
  if 0 <= a /\ a < (c.length : Int) then
   l1 k (fun c d a b e f g i j l m n o=>j1 Nx c d a b e f g i j l m n o) k (List.getD c (Int.toNat a) 0) c d a b.2.2.2.2.1 (b.2.2.2.2.1.length : Int) 0 b e f g i j l m n []
  else none
 else
  Xt0 b e f g i j l m n
theorem l0s_eq (k : Nat) (next : St->Option α) (Q : Ex->St->Option α) (m : D1) (n b : Int) (a : D5) (c d e : D1) (f : Int) (g i : D1) (j : Int) (l : D7) :
  rnd C k cd0 21 Q next (St2 m n b a c d e f g i j l) = l0s k (fun m n b a c d e f g i j l=>next (St2 m n b a c d e f g i j l)) (fun a c d e f g i j l=>Q (.exit 0) (St8 a c d e f g i j l)) m n b a c d e f g i j l:=by
 have h : ∀ (D L : DT α),denJ D L Js C cd0 (lq C 21 next Q) (St2 m n b a c d e f g i j l) =
    if (decide (b < n)) = true then
     if 0 <= b /\ b < (m.length : Int) then
      L cd1 (blkQ C 2 (sq D L Js C cd3 (blkQ C 1 (sq D L Js C cd4 (lq C 21 next Q))))) (St3 (List.getD m (Int.toNat b) 0) m n b a.2.2.2.2.1 (a.2.2.2.2.1.length : Int) 0 a c d e f g i j l [])
     else none
    else
     Q (.exit 0) (St8 a c d e f g i j l):=by
  intro D L; kernel_rfl
 have h2:=via (k:=k) h
 refine h2.trans ?_
 simp only [a0]
 first | rfl | kernel_rfl
def l0 (k : Nat) (Xt0 : D5->D1->D1->D1->Int->D1->D1->Int->D7->Option α) : Nat->D1->Int->Int->D5->D1->D1->D1->Int->D1->D1->Int->D7->Option α
 | 0,_,_,_,_,_,_,_,_,_,_,_,_=>none
 | n + 1,a,b,c,d,e,f,g,i,j,l,m,o=>l0s k (l0 k Xt0 n) Xt0 a b c d e f g i j l m o
theorem l0_eq (k : Nat) (Q : Ex->St->Option α) : ∀ (n : Nat) (l : D1) (m o : Int) (a : D5) (b c d : D1) (e : Int) (f g : D1) (i : Int) (j : D7),iter (rnd C k cd0 21 Q) n (St2 l m o a b c d e f g i j) = l0 k (fun a b c d e f g i j=>Q (.exit 0) (St8 a b c d e f g i j)) n l m o a b c d e f g i j
 | 0,_,_,_,_,_,_,_,_,_,_,_,_=>rfl
 | n + 1,l,m,o,a,b,c,d,e,f,g,i,j=>(iter_succ _ _ _).trans ((l0s_eq k _ Q l m o a b c d e f g i j).trans (congrArg (fun N=>l0s k N (fun a b c d e f g i j=>Q (.exit 0) (St8 a b c d e f g i j)) l m o a b c d e f g i j) (by funext; exact l0_eq k Q n _ _ _ _ _ _ _ _ _ _ _ _)))
noncomputable def cd5 : Code:=cR (cR (cR (cR (cR (cR (cB Tryz.f44))))))
def St9 (a : D5) (b c d : D1) (e : Int) (f g : D1) (i : Int) (j : D7) : St:=stL 65 [(2,.ref 2 0 []),(4,.ref 4 0 []),(9,.app 32 0)] [(2,.cell T15 (.data T15 a) false),(4,.cell T15 (.agg T15 [.data T30 b,.agg T21 [.data T19 c,.data T19 d,.data T1 e,.full T22 [],.full T22 []],.agg T21 [.data T19 f,.data T19 g,.data T1 i,.full T22 [],.full T22 []],.agg T11 [.full T6 [],.full T6 []],.full T4 [],.full T4 []]) false),(32,.buf T4 j 0 true)]
def j3 (Rt : Int->D5->Option α) (a : D5) (c d e : D1) (f : Int) (g i : D1) (j : Int) (b : D7) : Option α :=
 Rt 0 (a.1,a.2.1,a.2.2.1,a.2.2.2.1,a.2.2.2.2.1,b,())
theorem j3_eq (k : Nat) (Q : Ex->St->Option α) (a : D5) (b c d : D1) (e : Int) (f g : D1) (i : Int) (j : D7) :
  (den C k) cd5 Q (St9 a b c d e f g i j) = j3 (fun l m=>Q .ret (St1 l m)) a b c d e f g i j:=plainly Js (by kernel_rfl)
theorem a1 (k : Nat) (Q : Ex->St->Option α) (m : D1) (n o : Int) (a : D5) (c d e : D1) (f : Int) (g i : D1) (j : Int) (l : D7) :
  (lp C k) cd0 (blkQ C 0 (sq (den C k) (lp C k) Js C cd5 Q)) (St2 m n o a c d e f g i j l) = l0 k (fun a c d e f g i j l=>j3 (fun p q=>Q .ret (St1 p q)) a c d e f g i j l) k m n o a c d e f g i j l :=
 (lp_iter 21 (by kernel_rfl)).trans ((l0_eq k _ k m n o a c d e f g i j l).trans (congrArg (fun X=>l0 k X k m n o a c d e f g i j l) (funext fun a=>funext fun c=>funext fun d=>funext fun e=>funext fun f=>funext fun g=>funext fun i=>funext fun j=>funext fun l=>(Eq.trans (b:=(den C k) cd5 Q (St9 a c d e f g i j l)) (by kernel_rfl) (by simp only [j3_eq])))))
def top (k : Nat) (Rt : Int->D5->Option α) (a : D5) (c : Int) : Option α :=
 (basculeref_Ticked.run a.2.2.1 c).bind fun b =>
 if (b.2.2.1 != 0) = true then
  Rt b.2.2.1 a
 else
  if fitB (0 + a.2.2.2.2.2.1.length) 96 = true then
   l0 k (fun d e f g i j l m n=>j3 Rt d e f g i j l m n) k b.2.1 (b.2.1.length : Int) 0 (a.1,a.2.1,b.1,a.2.2.2) [0,0,0,0] [0,0,0] [0,0,0] 0 [0,0,0] [0,0,0] 0 a.2.2.2.2.2.1
  else none
theorem top_eq (k : Nat) (Q : Ex->St->Option α) (a : D5) (c : Int) :
  (den C k) (cB Tryz.f44) Q (St0 a c) = top k (fun d e=>Q .ret (St1 d e)) a c:=by
 have h : ∀ (D L : DT α),denJ D L Js C (cB Tryz.f44) Q (St0 a c) =
    (basculeref_Ticked.run a.2.2.1 c).bind fun b =>
    if (b.2.2.1 != 0) = true then
     Q .ret (St1 b.2.2.1 a)
    else
     if fitB (0 + a.2.2.2.2.2.1.length) 96 = true then
      L cd0 (blkQ C 0 (sq D L Js C cd5 Q)) (St2 b.2.1 (b.2.1.length : Int) 0 (a.1,a.2.1,b.1,a.2.2.2) [0,0,0,0] [0,0,0] [0,0,0] 0 [0,0,0] [0,0,0] 0 a.2.2.2.2.2.1)
     else none:=by
  intro D L; kernel_rfl
 have h2:=via (k:=k) h
 refine h2.trans ?_
 simp only [a1]
 first | rfl | kernel_rfl
def run (a : D5) (b : Int) : Option D25:=top (α:=D5 × Int × Unit) fuel (fun c d=>some (d,c,())) a b
def F : Fn:=⟨T17,T17,true,fun x=>run x.1 x.2.1⟩
theorem con : Con Tryz.prog 44 F /\ Named Tryz.prog 44 :=
 con_of2 (C:=C) (ctx_ok (by kernel_rfl) (by kernel_rfl) (by kernel_rfl) (by kernel_rfl) ⟨.inl basculeref_IdOf.con,⟨.inl basculeref_Ticked.con,trivial⟩⟩) (by kernel_rfl) Tryz.func44 (by kernel_rfl) (c:=cB Tryz.f44) (by kernel_rfl) (by kernel_rfl) F (fun x=>by simp [F,spread,Tryz.ntmps44]) (fun x=>(St0 x.1 x.2.1)) (fun x=>by kernel_rfl) fun x=>(top_eq fuel _ x.1 x.2.1).trans (by kernel_rfl)
end Go.Bx.basculeref_waits
