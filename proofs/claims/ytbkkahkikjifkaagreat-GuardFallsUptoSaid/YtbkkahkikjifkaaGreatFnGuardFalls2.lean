/- Go functions of this seat in their own words of Lean, each tied to its code by a contract. -/
import Derived.Test.YtbkkahkikjifkaaGreatGBase
import Derived.Test.YtbkkahkikjifkaaGreatFnGuardFalls1
import Derived.Test.YtbkkahkikjifkaaGreatFnGuardFalls0
open Go Go.Proofs Go.Bx
set_option maxRecDepth 100000
set_option linter.unusedVariables false
variable {α : Type}
namespace Go.Bx.guard_fresh_1
def Js : List Nat:=[]
def C : Ctx:=⟨[(26,T20)],[],[],fnL [],noSh,[],invL [],[(2,[2])],[],[5],0,0⟩
def St0 (a : D9) : St:=stL 6 [(0,.data T20 a)] []
def St1 (a : D9) : St:=stL 6 [(2,.app 5 0)] [(5,.buf T22 a 0 true)]
def top (Rt : D9->Option α) (a : D9) : Option α :=
 if fitB (0 + a.length) 32 = true then
  Rt a
 else none
theorem top_eq (k : Nat) (Q : Ex->St->Option α) (a : D9) :
  (den C k) (cB Tryz.f52) Q (St0 a) = top (fun b=>Q .ret (St1 b)) a:=plainly Js (by kernel_rfl)
def run (a : D9) : Option D9:=top (α:=List D10) (fun b=>some b) a
def F : Fn:=⟨T50,T20,false,fun x=>run x.1⟩
theorem con : Con Tryz.prog 52 F /\ Named Tryz.prog 52 :=
 con_of2 (C:=C) (ctx_ok (by kernel_rfl) (by kernel_rfl) (by kernel_rfl) (by kernel_rfl) trivial) (by kernel_rfl) Tryz.func52 (by kernel_rfl) (c:=cB Tryz.f52) (by kernel_rfl) (by kernel_rfl) F (fun x=>by simp [F,spread,Tryz.ntmps52]) (fun x=>(St0 x.1)) (fun x=>by kernel_rfl) fun x=>(top_eq fuel _ x.1).trans (by kernel_rfl)
end Go.Bx.guard_fresh_1
namespace Go.Bx.guard_bodies
def Js : List Nat:=[8]
def C : Ctx:=⟨[(32,T14),(37,T4)],[],[],fnL [(51,guard_body.F)],noSh,[],invL [],[(2,[2]),(1,[3]),(4,[3,6,7,8]),(9,[3,6,7,8]),(21,[3])],[(9,[.melt true 3 [] 16 true])],[],0,0⟩
def St0 (a : D7) : St:=stL 19 [(0,.data T14 a)] []
def St1 (a : D7) (b c : Int) (d : D7) : St:=stL 19 [(3,.app 16 0),(6,.data T14 a),(7,.data T1 b),(8,.data T1 c)] [(16,.buf T4 d 0 true)]
noncomputable def cd0 : Code:=cL (cL (cR (cL (cR (cR (cB Tryz.f53))))))
def St2 (a : D7) : St:=stL 19 [(3,.app 16 0)] [(16,.buf T4 a 0 true)]
def l0s (Nx : D7->Int->Int->D7->Option α) (Xt0 : D7->Option α) (b : D7) (d a : Int) (c : D7) : Option α :=
 if (decide (a < d)) = true then
  if 0 <= a /\ a < (b.length : Int) then
   (guard_body.run (List.getD b (Int.toNat a) (0,0,0,(List.replicate 32 0),0,0,[],()))).bind fun e =>
   if fitB (c.length + 1) 96 = true then
    Nx b d (IntKind.i64.wrap (a + 1)) (c ++ [e])
   else none
  else none
 else
  Xt0 c
theorem l0s_eq (k : Nat) (next : St->Option α) (Q : Ex->St->Option α) (b : D7) (c d : Int) (a : D7) :
  rnd C k cd0 9 Q next (St1 b c d a) = l0s (fun b c d a=>next (St1 b c d a)) (fun a=>Q (.exit 0) (St2 a)) b c d a:=plainly Js (by kernel_rfl)
def l0 (k : Nat) (Xt0 : D7->Option α) : Nat->D7->Int->Int->D7->Option α
 | 0,_,_,_,_=>none
 | n + 1,a,b,c,d=>l0s (l0 k Xt0 n) Xt0 a b c d
theorem l0_eq (k : Nat) (Q : Ex->St->Option α) : ∀ (n : Nat) (b : D7) (c d : Int) (a : D7),iter (rnd C k cd0 9 Q) n (St1 b c d a) = l0 k (fun a=>Q (.exit 0) (St2 a)) n b c d a
 | 0,_,_,_,_=>rfl
 | n + 1,b,c,d,a=>(iter_succ _ _ _).trans ((l0s_eq k _ Q b c d a).trans (congrArg (fun N=>l0s N (fun a=>Q (.exit 0) (St2 a)) b c d a) (by funext; exact l0_eq k Q n _ _ _ _)))
noncomputable def cd1 : Code:=cR (cR (cR (cB Tryz.f53)))
def St3 (a : D7) : St:=stL 19 [(3,.app 16 0)] [(16,.buf T4 a 0 true)]
def St4 (a : D7) : St:=stL 19 [(2,.app 16 0)] [(16,.buf T4 a 0 true)]
def j0 (Rt : D7->Option α) (a : D7) : Option α :=
 Rt a
theorem j0_eq (k : Nat) (Q : Ex->St->Option α) (a : D7) :
  (den C k) cd1 Q (St3 a) = j0 (fun a=>Q .ret (St4 a)) a:=plainly Js (by kernel_rfl)
theorem a0 (k : Nat) (Q : Ex->St->Option α) (c : D7) (d e : Int) (a : D7) :
  (lp C k) cd0 (blkQ C 0 (sq (den C k) (lp C k) Js C cd1 Q)) (St1 c d e a) = l0 k (fun a=>j0 (fun a=>Q .ret (St4 a)) a) k c d e a :=
 (lp_iter 9 (by kernel_rfl)).trans ((l0_eq k _ k c d e a).trans (congrArg (fun X=>l0 k X k c d e a) (funext fun a=>(Eq.trans (b:=(den C k) cd1 Q (St3 a)) (by kernel_rfl) (by simp only [j0_eq])))))
def top (k : Nat) (Rt : D7->Option α) (a : D7) : Option α :=
 l0 k (fun b=>j0 Rt b) k a (a.length : Int) 0 []
theorem top_eq (k : Nat) (Q : Ex->St->Option α) (a : D7) :
  (den C k) (cB Tryz.f53) Q (St0 a) = top k (fun b=>Q .ret (St4 b)) a:=by
 have h : ∀ (D L : DT α),denJ D L Js C (cB Tryz.f53) Q (St0 a) =
    L cd0 (blkQ C 0 (sq D L Js C cd1 Q)) (St1 a (a.length : Int) 0 []):=by
  intro D L; kernel_rfl
 have h2:=via (k:=k) h
 refine h2.trans ?_
 simp only [a0]
 first | rfl | kernel_rfl
def run (a : D7) : Option D7:=top (α:=List D0) fuel (fun b=>some b) a
def F : Fn:=⟨T51,T14,false,fun x=>run x.1⟩
theorem con : Con Tryz.prog 53 F /\ Named Tryz.prog 53 :=
 con_of2 (C:=C) (ctx_ok (by kernel_rfl) (by kernel_rfl) (by kernel_rfl) (by kernel_rfl) ⟨.inl guard_body.con,trivial⟩) (by kernel_rfl) Tryz.func53 (by kernel_rfl) (c:=cB Tryz.f53) (by kernel_rfl) (by kernel_rfl) F (fun x=>by simp [F,spread,Tryz.ntmps53]) (fun x=>(St0 x.1)) (fun x=>by kernel_rfl) fun x=>(top_eq fuel _ x.1).trans (by kernel_rfl)
end Go.Bx.guard_bodies
namespace Go.Bx.guard_fresh
def Js : List Nat:=[]
def C : Ctx:=⟨[(26,T20),(28,T21),(29,T3),(31,T11),(32,T14),(34,T15)],[],[],fnL [(52,guard_fresh_1.F),(53,guard_bodies.F)],noSh,[],invL [],[(2,[2])],[],[36,41],0,0⟩
def St0 (a : D5) : St:=stL 53 [(0,.data T15 a)] []
def St1 (a : D1) (b c : D8) (d e : D7) (f g : D1) : St:=stL 53 [(2,.ref 2 0 [])] [(2,.cell T15 (.agg T15 [.data T30 a,.data T21 b,.data T21 c,.agg T11 [.app 36 0,.app 41 0],.data T14 d,.data T14 e]) false),(36,.buf T6 f 0 true),(41,.buf T6 g 0 true)]
def top (Rt : D1->D8->D8->D7->D7->D1->D1->Option α) (a : D5) : Option α :=
 (guard_fresh_1.run a.2.1.2.2.2.1).bind fun b =>
 (guard_fresh_1.run a.2.1.2.2.2.2.1).bind fun c =>
 (guard_fresh_1.run a.2.2.1.2.2.2.1).bind fun d =>
 (guard_fresh_1.run a.2.2.1.2.2.2.2.1).bind fun e =>
 if fitB (0 + a.2.2.2.1.1.length) 1 = true then
  if fitB (0 + a.2.2.2.1.2.1.length) 1 = true then
   (guard_bodies.run a.2.2.2.2.1).bind fun f =>
   (guard_bodies.run a.2.2.2.2.2.1).bind fun g =>
   Rt a.1 (a.2.1.1,a.2.1.2.1,a.2.1.2.2.1,b,c,a.2.1.2.2.2.2.2) (a.2.2.1.1,a.2.2.1.2.1,a.2.2.1.2.2.1,d,e,a.2.2.1.2.2.2.2.2) f g a.2.2.2.1.1 a.2.2.2.1.2.1
  else none
 else none
theorem top_eq (k : Nat) (Q : Ex->St->Option α) (a : D5) :
  (den C k) (cB Tryz.f24) Q (St0 a) = top (fun b c d e f g i=>Q .ret (St1 b c d e f g i)) a:=plainly Js (by kernel_rfl)
def run (a : D5) : Option D5:=top (α:=List Int × D8 × D8 × D23 × List D0 × List D0 × Unit) (fun b c d e f g i=>some (b,c,d,(g,i,()),e,f,())) a
def F : Fn:=⟨T52,T15,false,fun x=>run x.1⟩
theorem con : Con Tryz.prog 24 F /\ Named Tryz.prog 24 :=
 con_of2 (C:=C) (ctx_ok (by kernel_rfl) (by kernel_rfl) (by kernel_rfl) (by kernel_rfl) ⟨.inl guard_fresh_1.con,⟨.inl guard_bodies.con,trivial⟩⟩) (by kernel_rfl) Tryz.func24 (by kernel_rfl) (c:=cB Tryz.f24) (by kernel_rfl) (by kernel_rfl) F (fun x=>by simp [F,spread,Tryz.ntmps24]) (fun x=>(St0 x.1)) (fun x=>by kernel_rfl) fun x=>(top_eq fuel _ x.1).trans (by kernel_rfl)
end Go.Bx.guard_fresh
namespace Go.Bx.guard_bodies_s1
def Js : List Nat:=[8]
def C : Ctx:=⟨[(32,T14),(37,T4)],[],[],fnL [(51,guard_body.F)],noSh,[],invL [],[(2,[2]),(1,[3]),(4,[3,6,7,8]),(9,[3,6,7,8]),(21,[3])],[(9,[.melt true 3 [] 16 true])],[],0,0⟩
def St0 (a : D7) : St:=stL 19 [(0,.full T4 a)] []
def St1 (a : D7) (b c : Int) (d : D7) : St:=stL 19 [(3,.app 16 0),(6,.full T4 a),(7,.data T1 b),(8,.data T1 c)] [(16,.buf T4 d 0 true)]
noncomputable def cd0 : Code:=cL (cL (cR (cL (cR (cR (cB Tryz.f53))))))
def St2 (a : D7) : St:=stL 19 [(3,.app 16 0)] [(16,.buf T4 a 0 true)]
def l0s (Nx : D7->Int->Int->D7->Option α) (Xt0 : D7->Option α) (b : D7) (d a : Int) (c : D7) : Option α :=
 if (decide (a < d)) = true then
  if 0 <= a /\ a < (b.length : Int) then
   (guard_body.run (List.getD b (Int.toNat a) (0,0,0,(List.replicate 32 0),0,0,[],()))).bind fun e =>
   if fitB (c.length + 1) 96 = true then
    Nx b d (IntKind.i64.wrap (a + 1)) (c ++ [e])
   else none
  else none
 else
  Xt0 c
theorem l0s_eq (k : Nat) (next : St->Option α) (Q : Ex->St->Option α) (b : D7) (c d : Int) (a : D7) :
  rnd C k cd0 9 Q next (St1 b c d a) = l0s (fun b c d a=>next (St1 b c d a)) (fun a=>Q (.exit 0) (St2 a)) b c d a:=plainly Js (by kernel_rfl)
def l0 (k : Nat) (Xt0 : D7->Option α) : Nat->D7->Int->Int->D7->Option α
 | 0,_,_,_,_=>none
 | n + 1,a,b,c,d=>l0s (l0 k Xt0 n) Xt0 a b c d
theorem l0_eq (k : Nat) (Q : Ex->St->Option α) : ∀ (n : Nat) (b : D7) (c d : Int) (a : D7),iter (rnd C k cd0 9 Q) n (St1 b c d a) = l0 k (fun a=>Q (.exit 0) (St2 a)) n b c d a
 | 0,_,_,_,_=>rfl
 | n + 1,b,c,d,a=>(iter_succ _ _ _).trans ((l0s_eq k _ Q b c d a).trans (congrArg (fun N=>l0s N (fun a=>Q (.exit 0) (St2 a)) b c d a) (by funext; exact l0_eq k Q n _ _ _ _)))
noncomputable def cd1 : Code:=cR (cR (cR (cB Tryz.f53)))
def St3 (a : D7) : St:=stL 19 [(3,.app 16 0)] [(16,.buf T4 a 0 true)]
def St4 (a : D7) : St:=stL 19 [(2,.app 16 0)] [(16,.buf T4 a 0 true)]
def j0 (Rt : D7->Option α) (a : D7) : Option α :=
 Rt a
theorem j0_eq (k : Nat) (Q : Ex->St->Option α) (a : D7) :
  (den C k) cd1 (endQ C Q) (St3 a) = j0 (fun a=>Q .ret (St4 a)) a:=plainly Js (by kernel_rfl)
theorem a0 (k : Nat) (Q : Ex->St->Option α) (c : D7) (d e : Int) (a : D7) :
  (lp C k) cd0 (blkQ C 0 (sq (den C k) (lp C k) Js C cd1 (endQ C Q))) (St1 c d e a) = l0 k (fun a=>j0 (fun a=>Q .ret (St4 a)) a) k c d e a :=
 (lp_iter 9 (by kernel_rfl)).trans ((l0_eq k _ k c d e a).trans (congrArg (fun X=>l0 k X k c d e a) (funext fun a=>(Eq.trans (b:=(den C k) cd1 (endQ C Q) (St3 a)) (by kernel_rfl) (by simp only [j0_eq])))))
def top (k : Nat) (Rt : D7->Option α) (a : D7) : Option α :=
 l0 k (fun b=>j0 Rt b) k a (a.length : Int) 0 []
theorem top_eq (k : Nat) (Q : Ex->St->Option α) (a : D7) :
  (den C k) (cB Tryz.f53) (endQ C Q) (St0 a) = top k (fun b=>Q .ret (St4 b)) a:=by
 have h : ∀ (D L : DT α),denJ D L Js C (cB Tryz.f53) (endQ C Q) (St0 a) =
    L cd0 (blkQ C 0 (sq D L Js C cd1 (endQ C Q))) (St1 a (a.length : Int) 0 []):=by
  intro D L; kernel_rfl
 have h2:=via (k:=k) h
 refine h2.trans ?_
 simp only [a0]
 first | rfl | kernel_rfl
def run (a : D7) : Option D28:=top (α:=D7 × Unit) fuel (fun b=>some (b,())) a
def Sp : Spec:=⟨[hF T4],[],T51,.app 16 0,[(16,hB T4 0 true)],T51,fun x=>run x.1⟩
set_option maxRecDepth 100000 in
theorem sok : SOk Tryz.prog 53 Sp.h:=by
 refine sok_of_den (C:=C) (ctx_ok (by kernel_rfl) (by kernel_rfl) (by kernel_rfl) (by kernel_rfl) ⟨.inl guard_body.con,trivial⟩) (by kernel_rfl) Tryz.func53 (c:=cB Tryz.f53) (by kernel_rfl) (by kernel_rfl) Sp fuel (by kernel_rfl) (by kernel_rfl) ?_
 intro x r h
 rw [<- h]
 have h1 : Sp.start x Tryz.f53.ntmps = (St0 x.1):=by kernel_rfl
 rw [h1]
 refine (top_eq fuel (finS C Tryz.f53.results.toList Sp.read) x.1).trans ?_
 kernel_rfl
theorem named : Named Tryz.prog 53:=named_of Tryz.func53 (by kernel_rfl) (by kernel_rfl)
end Go.Bx.guard_bodies_s1
namespace Go.Bx.guard_fresh_1_s0
def Js : List Nat:=[]
def C : Ctx:=⟨[(26,T20)],[],[],fnL [],noSh,[],invL [],[(2,[2])],[],[5],0,0⟩
def St0 (a : D9) : St:=stL 6 [(0,.data T20 a)] []
def St1 (a : D9) : St:=stL 6 [(2,.app 5 0)] [(5,.buf T22 a 0 true)]
def top (Rt : D9->Option α) (a : D9) : Option α :=
 if fitB (0 + a.length) 32 = true then
  Rt a
 else none
theorem top_eq (k : Nat) (Q : Ex->St->Option α) (a : D9) :
  (den C k) (cB Tryz.f52) (endQ C Q) (St0 a) = top (fun b=>Q .ret (St1 b)) a:=plainly Js (by kernel_rfl)
def run (a : D9) : Option D27:=top (α:=D9 × Unit) (fun b=>some (b,())) a
def Sp : Spec:=⟨[hD T20],[],T50,.app 5 0,[(5,hB T22 0 true)],T50,fun x=>run x.1⟩
set_option maxRecDepth 100000 in
theorem sok : SOk Tryz.prog 52 Sp.h:=by
 refine sok_of_den (C:=C) (ctx_ok (by kernel_rfl) (by kernel_rfl) (by kernel_rfl) (by kernel_rfl) trivial) (by kernel_rfl) Tryz.func52 (c:=cB Tryz.f52) (by kernel_rfl) (by kernel_rfl) Sp fuel (by kernel_rfl) (by kernel_rfl) ?_
 intro x r h
 rw [<- h]
 have h1 : Sp.start x Tryz.f52.ntmps = (St0 x.1):=by kernel_rfl
 rw [h1]
 refine (top_eq fuel (finS C Tryz.f52.results.toList Sp.read) x.1).trans ?_
 kernel_rfl
theorem named : Named Tryz.prog 52:=named_of Tryz.func52 (by kernel_rfl) (by kernel_rfl)
end Go.Bx.guard_fresh_1_s0
namespace Go.Bx.guard_fresh_s1
def Js : List Nat:=[]
def C : Ctx:=⟨[(26,T20),(28,T21),(29,T3),(31,T11),(32,T14),(34,T15)],[],[],fnL [],shL [(52,[.one guard_fresh_1_s0.Sp]),(53,[.one guard_bodies_s1.Sp])],[(8,54),(13,55),(22,56),(27,57),(46,58),(49,59)],invL [],[(2,[2])],[],[36,41],0,0⟩
def St0 (a : D1) (b c : D8) (d e : D1) (f g : D7) : St:=stL 53 [(0,.agg T15 [.data T30 a,.data T21 b,.data T21 c,.agg T11 [.full T6 d,.full T6 e],.full T4 f,.full T4 g])] []
def St1 (a b c : D1) (d : Int) (e f : D1) (g : Int) (i j : D1) (k l : D9) (m n : D9) (o p : D7) : St:=stL 53 [(2,.ref 2 0 [])] [(2,.cell T15 (.agg T15 [.data T30 a,.agg T21 [.data T19 b,.data T19 c,.data T1 d,.app 54 0,.app 55 0],.agg T21 [.data T19 e,.data T19 f,.data T1 g,.app 56 0,.app 57 0],.agg T11 [.app 36 0,.app 41 0],.app 58 0,.app 59 0]) false),(36,.buf T6 i 0 true),(41,.buf T6 j 0 true),(54,.buf T22 k 0 true),(55,.buf T22 l 0 true),(56,.buf T22 m 0 true),(57,.buf T22 n 0 true),(58,.buf T4 o 0 true),(59,.buf T4 p 0 true)]
def top (Rt : D1->D1->D1->Int->D1->D1->Int->D1->D1->D9->D9->D9->D9->D7->D7->Option α) (e : D1) (a b : D8) (c d : D1) (f g : D7) : Option α :=
 (guard_fresh_1_s0.run a.2.2.2.1).bind fun i =>
 (guard_fresh_1_s0.run a.2.2.2.2.1).bind fun j =>
 (guard_fresh_1_s0.run b.2.2.2.1).bind fun k =>
 (guard_fresh_1_s0.run b.2.2.2.2.1).bind fun l =>
 if fitB (0 + c.length) 1 = true then
  if fitB (0 + d.length) 1 = true then
   (guard_bodies_s1.run f).bind fun m =>
   (guard_bodies_s1.run g).bind fun n =>
   Rt e a.1 a.2.1 a.2.2.1 b.1 b.2.1 b.2.2.1 c d i.1 j.1 k.1 l.1 m.1 n.1
  else none
 else none
theorem top_eq (k : Nat) (Q : Ex->St->Option α) (a : D1) (b c : D8) (d e : D1) (f g : D7) :
  (den C k) (cB Tryz.f24) (endQ C Q) (St0 a b c d e f g) = top (fun i j l m n o p q r s t u v w x=>Q .ret (St1 i j l m n o p q r s t u v w x)) a b c d e f g:=plainly Js (by kernel_rfl)
def run (i : D1) (j k : D8) (l m : D1) (n o : D7) : Option D29:=top (α:=List Int × List Int × List Int × Int × List Int × List Int × Int × List Int × List Int × List Int × Int × List Int × List Int × Int × List Int × List Int × D9 × D9 × D9 × D9 × D7 × D7 × Unit) (fun a b c d e f g p q r s t u v w=>some (a,b,c,d,e,f,g,a,b,c,d,e,f,g,p,q,r,s,t,u,v,w,())) i j k l m n o
def Sp : Spec:=⟨[.agg T15 [hD T30,hD T21,hD T21,.agg T11 [hF T6,hF T6],hF T4,hF T4]],[],T81,.agg T15 [hD T30,.agg T21 [hD T19,hD T19,hD T1,.app 54 0,.app 55 0],.agg T21 [hD T19,hD T19,hD T1,.app 56 0,.app 57 0],.agg T11 [.app 36 0,.app 41 0],.app 58 0,.app 59 0],[(2,hC T15 (.agg T15 [hD T30,.agg T21 [hD T19,hD T19,hD T1,.app 54 0,.app 55 0],.agg T21 [hD T19,hD T19,hD T1,.app 56 0,.app 57 0],.agg T11 [.app 36 0,.app 41 0],.app 58 0,.app 59 0]) false),(36,hB T6 0 true),(41,hB T6 0 true),(54,hB T22 0 true),(55,hB T22 0 true),(56,hB T22 0 true),(57,hB T22 0 true),(58,hB T4 0 true),(59,hB T4 0 true)],T58,fun x=>run x.1 x.2.1 x.2.2.1 x.2.2.2.1 x.2.2.2.2.1 x.2.2.2.2.2.1 x.2.2.2.2.2.2.1⟩
set_option maxRecDepth 100000 in
theorem sok : SOk Tryz.prog 24 Sp.h:=by
 refine sok_of_den (C:=C) (ctx_ok_sh (by kernel_rfl) (by kernel_rfl) (by kernel_rfl) (by kernel_rfl) trivial ⟨⟨⟨guard_fresh_1_s0.sok,trivial⟩,guard_fresh_1_s0.named⟩,⟨⟨⟨guard_bodies_s1.sok,trivial⟩,guard_bodies_s1.named⟩,trivial⟩⟩) (by kernel_rfl) Tryz.func24 (c:=cB Tryz.f24) (by kernel_rfl) (by kernel_rfl) Sp fuel (by kernel_rfl) (by kernel_rfl) ?_
 intro x r h
 rw [<- h]
 have h1 : Sp.start x Tryz.f24.ntmps = (St0 x.1 x.2.1 x.2.2.1 x.2.2.2.1 x.2.2.2.2.1 x.2.2.2.2.2.1 x.2.2.2.2.2.2.1):=by kernel_rfl
 rw [h1]
 refine (top_eq fuel (finS C Tryz.f24.results.toList Sp.read) x.1 x.2.1 x.2.2.1 x.2.2.2.1 x.2.2.2.2.1 x.2.2.2.2.2.1 x.2.2.2.2.2.2.1).trans ?_
 kernel_rfl
theorem named : Named Tryz.prog 24:=named_of Tryz.func24 (by kernel_rfl) (by kernel_rfl)
end Go.Bx.guard_fresh_s1
namespace Go.Bx.guard_Begin_s0
def Js : List Nat:=[]
def C : Ctx:=⟨[(24,T30),(28,T21),(34,T15)],[],[],fnL [(57,gate_Check.F)],shL [(24,[.one guard_fresh_s1.Sp])],[(17,19)],invL [],[(2,[4,5])],[(2,[.melt false 4 [1,3] 22 true,.melt false 4 [1,4] 23 true,.melt false 4 [2,3] 24 true,.melt false 4 [2,4] 25 true,.melt false 4 [3,0] 20 true,.melt false 4 [3,1] 21 true,.melt false 4 [4] 26 true,.melt false 4 [5] 27 true])],[],0,0⟩
def St0 (a : D1) (b : D8) : St:=stL 18 [(0,.data T30 a),(1,.data T21 b)] []
def St1 (a : Int) (b c d : D1) (e : Int) (f g : D1) (i : Int) (j k : D1) (l m : D9) (n o : D9) (p q : D7) : St:=stL 18 [(4,.ref 4 0 []),(5,.data T1 a)] [(4,.cell T15 (.agg T15 [.data T30 b,.agg T21 [.data T19 c,.data T19 d,.data T1 e,.app 22 0,.app 23 0],.agg T21 [.data T19 f,.data T19 g,.data T1 i,.app 24 0,.app 25 0],.agg T11 [.app 20 0,.app 21 0],.app 26 0,.app 27 0]) false),(20,.buf T6 j 0 true),(21,.buf T6 k 0 true),(22,.buf T22 l 0 true),(23,.buf T22 m 0 true),(24,.buf T22 n 0 true),(25,.buf T22 o 0 true),(26,.buf T4 p 0 true),(27,.buf T4 q 0 true)]
def top (Rt : Int->D1->D1->D1->Int->D1->D1->Int->D1->D1->D9->D9->D9->D9->D7->D7->Option α) (d : D1) (b : D8) : Option α :=
 (gate_Check.run b).bind fun c =>
 if (c != 0) = true then
  Rt c [0,0,0,0] [0,0,0] [0,0,0] 0 [0,0,0] [0,0,0] 0 [] [] [] [] [] [] [] []
 else
  (guard_fresh_s1.run d b b [] [] [] []).bind fun a =>
  Rt 0 a.1 a.2.1 a.2.2.1 a.2.2.2.1 a.2.2.2.2.1 a.2.2.2.2.2.1 a.2.2.2.2.2.2.1 a.2.2.2.2.2.2.2.2.2.2.2.2.2.2.1 a.2.2.2.2.2.2.2.2.2.2.2.2.2.2.2.1 a.2.2.2.2.2.2.2.2.2.2.2.2.2.2.2.2.1 a.2.2.2.2.2.2.2.2.2.2.2.2.2.2.2.2.2.1 a.2.2.2.2.2.2.2.2.2.2.2.2.2.2.2.2.2.2.1 a.2.2.2.2.2.2.2.2.2.2.2.2.2.2.2.2.2.2.2.1 a.2.2.2.2.2.2.2.2.2.2.2.2.2.2.2.2.2.2.2.2.1 a.2.2.2.2.2.2.2.2.2.2.2.2.2.2.2.2.2.2.2.2.2.1
theorem top_eq (k : Nat) (Q : Ex->St->Option α) (a : D1) (b : D8) :
  (den C k) (cB Tryz.f28) (endQ C Q) (St0 a b) = top (fun c d e f g i j l m n o p q r s t=>Q .ret (St1 c d e f g i j l m n o p q r s t)) a b:=plainly Js (by kernel_rfl)
def run (i : D1) (j : D8) : Option D43:=top (α:=List Int × List Int × List Int × Int × List Int × List Int × Int × Int × List Int × List Int × List Int × Int × List Int × List Int × Int × List Int × List Int × D9 × D9 × D9 × D9 × D7 × D7 × Unit) (fun k a b c d e f g l m n o p q r s=>some (a,b,c,d,e,f,g,k,a,b,c,d,e,f,g,l,m,n,o,p,q,r,s,())) i j
def Sp : Spec:=⟨[hD T30,hD T21],[],T63,.tup [.agg T15 [hD T30,.agg T21 [hD T19,hD T19,hD T1,.app 22 0,.app 23 0],.agg T21 [hD T19,hD T19,hD T1,.app 24 0,.app 25 0],.agg T11 [.app 20 0,.app 21 0],.app 26 0,.app 27 0],hD T1],[(4,hC T15 (.agg T15 [hD T30,.agg T21 [hD T19,hD T19,hD T1,.app 22 0,.app 23 0],.agg T21 [hD T19,hD T19,hD T1,.app 24 0,.app 25 0],.agg T11 [.app 20 0,.app 21 0],.app 26 0,.app 27 0]) false),(20,hB T6 0 true),(21,hB T6 0 true),(22,hB T22 0 true),(23,hB T22 0 true),(24,hB T22 0 true),(25,hB T22 0 true),(26,hB T4 0 true),(27,hB T4 0 true)],T82,fun x=>run x.1 x.2.1⟩
set_option maxRecDepth 100000 in
theorem sok : SOk Tryz.prog 28 Sp.h:=by
 refine sok_of_den (C:=C) (ctx_ok_sh (by kernel_rfl) (by kernel_rfl) (by kernel_rfl) (by kernel_rfl) ⟨.inl gate_Check.con,trivial⟩ ⟨⟨⟨guard_fresh_s1.sok,trivial⟩,guard_fresh_s1.named⟩,trivial⟩) (by kernel_rfl) Tryz.func28 (c:=cB Tryz.f28) (by kernel_rfl) (by kernel_rfl) Sp fuel (by kernel_rfl) (by kernel_rfl) ?_
 intro x r h
 rw [<- h]
 have h1 : Sp.start x Tryz.f28.ntmps = (St0 x.1 x.2.1):=by kernel_rfl
 rw [h1]
 refine (top_eq fuel (finS C Tryz.f28.results.toList Sp.read) x.1 x.2.1).trans ?_
 kernel_rfl
theorem named : Named Tryz.prog 28:=named_of Tryz.func28 (by kernel_rfl) (by kernel_rfl)
end Go.Bx.guard_Begin_s0
namespace Go.Bx.guard_Again
def Js : List Nat:=[20,23]
def C : Ctx:=⟨[(3,T1),(5,T6),(24,T30),(28,T21),(29,T3),(31,T11),(34,T15),(37,T4),(38,T1),(65,T64),(71,T70)],[],[],fnL [(21,guard_knows.F),(22,guard_Id.F),(24,guard_fresh.F),(29,log_Mend.F),(30,log_Open.F),(32,paper_Decode.F)],shL [(23,[.one guard_met_s2.Sp]),(28,[.one guard_Begin_s0.Sp]),(31,[.one guard_passed_s2.Sp])],[(19,127),(68,136),(115,138)],invL [],[(2,[6,7]),(1,[5,6,8]),(4,[5,6,8,40,41,42]),(7,[5,6,8,9,40,41,42]),(27,[5,6,8,40,41,42]),(57,[5,6,8,9,40,41,42]),(66,[5,6,8])],[(2,[.dat false 6 []]),(27,[.tid [5,6,8,40,41,42],.dat false 8 [2],.name false 8 [4] 9105]),(57,[.tid [5,6,8,9,40,41,42],.name false 8 [4] 9105])],[85],0,0⟩
def St0 (a : D1) (b : D8) (c : D23) : St:=stL 126 [(0,.data T30 a),(1,.data T21 b),(2,.data T11 c)] []
def St1 (a : Int) (b : D5) : St:=stL 126 [(6,.ref 6 0 []),(7,.data T1 a)] [(6,.cell T15 (.data T15 b) false)]
def St2 (a : D16) (b c : Int) (d : D23) (e f g : D1) (i : Int) (j k : D1) (l : Int) (m n o : D1) (p : Int) (q : D8) (r s : D1) (t u : D9) (v w : D7) : St:=stL 126 [(5,.ref 5 0 []),(6,.ref 6 0 []),(8,.ref 8 0 []),(40,.data T64 a),(41,.data T1 b),(42,.data T1 c)] [(5,.cell T11 (.data T11 d) false),(6,.cell T15 (.agg T15 [.data T30 e,.agg T21 [.data T19 f,.data T19 g,.data T1 i,.full T22 [],.full T22 []],.agg T21 [.data T19 j,.data T19 k,.data T1 l,.full T22 [],.full T22 []],.agg T11 [.full T6 [],.full T6 []],.full T4 [],.full T4 []]) false),(8,.cell T15 (.agg T15 [.data T30 m,.agg T21 [.data T19 n,.data T19 o,.data T1 p,.app 130 0,.app 131 0],.data T21 q,.agg T11 [.app 128 0,.app 129 0],.app 9105 0,.app 135 0]) false),(128,.buf T6 r 0 true),(129,.buf T6 s 0 true),(130,.buf T22 t 0 true),(131,.buf T22 u 0 true),(135,.buf T4 v 0 true),(9105,.buf T4 w 0 true)]
noncomputable def cd0 : Code:=cL (cL (cR (cL (cR (cR (cR (cR (cR (cR (cB Tryz.f11))))))))))
def St3 (a : Int) (b : D16) (c d : Int) (e : D23) (f g i : D1) (j : Int) (k l : D1) (m : Int) (n o p : D1) (q : Int) (r : D8) (s t : D1) (u v : D9) (w x : D7) : St:=stL 126 [(5,.ref 5 0 []),(6,.ref 6 0 []),(8,.ref 8 0 []),(9,.data T1 a),(40,.data T64 b),(41,.data T1 c),(42,.data T1 d)] [(5,.cell T11 (.data T11 e) false),(6,.cell T15 (.agg T15 [.data T30 f,.agg T21 [.data T19 g,.data T19 i,.data T1 j,.full T22 [],.full T22 []],.agg T21 [.data T19 k,.data T19 l,.data T1 m,.full T22 [],.full T22 []],.agg T11 [.full T6 [],.full T6 []],.full T4 [],.full T4 []]) false),(8,.cell T15 (.agg T15 [.data T30 n,.agg T21 [.data T19 o,.data T19 p,.data T1 q,.app 130 0,.app 131 0],.data T21 r,.agg T11 [.app 128 0,.app 129 0],.app 9105 0,.app 135 0]) false),(128,.buf T6 s 0 true),(129,.buf T6 t 0 true),(130,.buf T22 u 0 true),(131,.buf T22 v 0 true),(135,.buf T4 w 0 true),(9105,.buf T4 x 0 true)]
noncomputable def cd1 : Code:=cR (cR (cR (cL (cL (cR (cL (cR (cR (cR (cR (cR (cR (cB Tryz.f11)))))))))))))
noncomputable def cd2 : Code:=cR (cR (cL (cL (cR (cR (cL (cL (cR (cL (cR (cR (cR (cR (cR (cR (cB Tryz.f11))))))))))))))))
def j0 (Nx : D16->Int->Int->D23->D1->D1->D1->Int->D1->D1->Int->D1->D1->D1->Int->D8->D1->D1->D9->D9->D7->D7->Option α) (Rt : Int->D5->Option α) (a : Int) (b : D16) (c d : Int) (e : D23) (f g i : D1) (j : Int) (k l : D1) (m : Int) (n o p : D1) (q : Int) (r : D8) (s t : D1) (u v : D9) (w x : D7) : Option α :=
 if (a != 0) = true then
  Rt 12 ([0,0,0,0],([0,0,0],[0,0,0],0,[],[],()),([0,0,0],[0,0,0],0,[],[],()),([],[],()),[],[],())
 else
  Nx b c (IntKind.i64.wrap (d + 1)) e f g i j k l m n o p q r s t u v w x
theorem j0_eq (k : Nat) (next : St->Option α) (Q : Ex->St->Option α) (y : Int) (a : D16) (b c : Int) (d : D23) (e f g : D1) (i : Int) (j l : D1) (m : Int) (n o p : D1) (q : Int) (r : D8) (s t : D1) (u v : D9) (w x : D7) :
  (den C k) cd2 (blkQ C 1 (sq (den C k) (lp C k) Js C cd1 (lq C 27 next Q))) (St3 y a b c d e f g i j l m n o p q r s t u v w x) = j0 (fun a b c d e f g i j l m n o p q r s t u v w x=>next (St2 a b c d e f g i j l m n o p q r s t u v w x)) (fun z A=>Q .ret (St1 z A)) y a b c d e f g i j l m n o p q r s t u v w x:=plainly Js (by kernel_rfl)
def St4 (a : D23) (b c d : D1) (e : Int) (f g : D1) (i : Int) (j k l : D1) (m : Int) (n : D8) (o p : D1) (q r : D9) (s t : D7) : St:=stL 126 [(5,.ref 5 0 []),(6,.ref 6 0 []),(8,.ref 8 0 [])] [(5,.cell T11 (.data T11 a) false),(6,.cell T15 (.agg T15 [.data T30 b,.agg T21 [.data T19 c,.data T19 d,.data T1 e,.full T22 [],.full T22 []],.agg T21 [.data T19 f,.data T19 g,.data T1 i,.full T22 [],.full T22 []],.agg T11 [.full T6 [],.full T6 []],.full T4 [],.full T4 []]) false),(8,.cell T15 (.agg T15 [.data T30 j,.agg T21 [.data T19 k,.data T19 l,.data T1 m,.app 130 0,.app 131 0],.data T21 n,.agg T11 [.app 128 0,.app 129 0],.app 9105 0,.app 135 0]) false),(128,.buf T6 o 0 true),(129,.buf T6 p 0 true),(130,.buf T22 q 0 true),(131,.buf T22 r 0 true),(135,.buf T4 s 0 true),(9105,.buf T4 t 0 true)]
def l0s (Nx : D16->Int->Int->D23->D1->D1->D1->Int->D1->D1->Int->D1->D1->D1->Int->D8->D1->D1->D9->D9->D7->D7->Option α) (Rt : Int->D5->Option α) (Xt0 : D23->D1->D1->D1->Int->D1->D1->Int->D1->D1->D1->Int->D8->D1->D1->D9->D9->D7->D7->Option α) (b : D16) (r a : Int) (s : D23) (t u v : D1) (w : Int) (x y : D1) (z : Int) (f g i : D1) (j : Int) (k : D8) (l m : D1) (n o : D9) (p q : D7) : Option α :=
 if (decide (a < r)) = true then
  if 0 <= a /\ a < (b.length : Int) then
   cond (decide (0 <= (0 : Int) /\ (0 : Int) < ((List.getD b (Int.toNat a) []).length : Int)) || !((((List.getD b (Int.toNat a) []).length : Int) == 3) == true)) (
    if (cond (((List.getD b (Int.toNat a) []).length : Int) == 3) ((List.getD (List.getD b (Int.toNat a) []) 0 0) == 2) false) = true then
     if 0 <= (1 : Int) /\ (1 : Int) < ((List.getD b (Int.toNat a) []).length : Int) then
      if 0 <= (2 : Int) /\ (2 : Int) < ((List.getD b (Int.toNat a) []).length : Int) then
       (guard_passed_s2.run f g i j k (bor .i64 (shlI .i64 (IntKind.i64.wrap (List.getD (List.getD b (Int.toNat a) []) 1 0)) 8) (IntKind.i64.wrap (List.getD (List.getD b (Int.toNat a) []) 2 0))) n o l m q p).bind fun c =>
       j0 Nx Rt c.2.2.2.2.2.1 b r a s t u v w x y z c.1 c.2.1 c.2.2.1 c.2.2.2.1 c.2.2.2.2.1 c.2.2.2.2.2.2.2.2.1 c.2.2.2.2.2.2.2.2.2.1 c.2.2.2.2.2.2.1 c.2.2.2.2.2.2.2.1 c.2.2.2.2.2.2.2.2.2.2.2.1 c.2.2.2.2.2.2.2.2.2.2.2.2.2.2.2.2.2.1
      else none
     else none
    else
     cond (decide (0 <= (0 : Int) /\ (0 : Int) < ((List.getD b (Int.toNat a) []).length : Int)) || !((decide (((List.getD b (Int.toNat a) []).length : Int) > 0)) == true)) (
      if (cond (decide (((List.getD b (Int.toNat a) []).length : Int) > 0)) ((List.getD (List.getD b (Int.toNat a) []) 0 0) == 1) false) = true then
       if 0 <= (1 : Int) /\ (1 : Int) <= ((List.getD b (Int.toNat a) []).length : Int) /\ ((List.getD b (Int.toNat a) []).length : Int) <= ((List.getD b (Int.toNat a) []).length : Int) then
        if fitB (6 + (cutL (List.getD b (Int.toNat a) []) 1 ((List.getD b (Int.toNat a) []).length : Int)).length) 1 = true then
         (paper_Decode.run ([1,0,0,0,0,0] ++ (cutL (List.getD b (Int.toNat a) []) 1 ((List.getD b (Int.toNat a) []).length : Int)))).bind fun e =>
         (if ((cond (cond (e.2.1 != 0) true (decide (e.1.2.2.1.2.2.1 >= 3))) true (decide (e.1.2.2.1.2.2.2.2.1 >= 256))) == false) = true then guard_Id.run e.1.2.2.1 else some 0).bind fun A =>
         (if ((cond (cond (e.2.1 != 0) true (decide (e.1.2.2.1.2.2.1 >= 3))) true (decide (e.1.2.2.1.2.2.2.2.1 >= 256))) == false) = true then guard_knows.run (f,(g,i,j,n,o,()),k,(l,m,()),q,p,()) A else some false).bind fun B =>
         if (cond (cond (cond (e.2.1 != 0) true (decide (e.1.2.2.1.2.2.1 >= 3))) true (decide (e.1.2.2.1.2.2.2.2.1 >= 256))) true B) = true then
          Rt 12 ([0,0,0,0],([0,0,0],[0,0,0],0,[],[],()),([0,0,0],[0,0,0],0,[],[],()),([],[],()),[],[],())
         else
          (guard_met_s2.run f g i j k e.1.2.2.1 n o l m q p).bind fun d =>
          j0 Nx Rt d.2.2.2.2.2.1 b r a s t u v w x y z d.1 d.2.1 d.2.2.1 d.2.2.2.1 d.2.2.2.2.1 d.2.2.2.2.2.2.2.2.1 d.2.2.2.2.2.2.2.2.2.1 d.2.2.2.2.2.2.1 d.2.2.2.2.2.2.2.1 d.2.2.2.2.2.2.2.2.2.2.2.1 d.2.2.2.2.2.2.2.2.2.2.1
        else none
       else none
      else
       j0 Nx Rt 12 b r a s t u v w x y z f g i j k l m n o p q) none) none
  else none
 else
  Xt0 s t u v w x y z f g i j k l m n o p q
theorem l0s_eq (k : Nat) (next : St->Option α) (Q : Ex->St->Option α) (b : D16) (A a : Int) (r : D23) (s t u : D1) (v : Int) (w x : D1) (y : Int) (c d e : D1) (f : Int) (g : D8) (i j : D1) (l m : D9) (n o : D7) :
  rnd C k cd0 27 Q next (St2 b A a r s t u v w x y c d e f g i j l m n o) = l0s (fun b A a r s t u v w x y c d e f g i j l m n o=>next (St2 b A a r s t u v w x y c d e f g i j l m n o)) (fun B E=>Q .ret (St1 B E)) (fun r s t u v w x y c d e f g i j l m n o=>Q (.exit 0) (St4 r s t u v w x y c d e f g i j l m n o)) b A a r s t u v w x y c d e f g i j l m n o:=by
 have h : ∀ (D L : DT α),denJ D L Js C cd0 (lq C 27 next Q) (St2 b A a r s t u v w x y c d e f g i j l m n o) =
    if (decide (a < A)) = true then
     if 0 <= a /\ a < (b.length : Int) then
      cond (decide (0 <= (0 : Int) /\ (0 : Int) < ((List.getD b (Int.toNat a) []).length : Int)) || !((((List.getD b (Int.toNat a) []).length : Int) == 3) == true)) (
       if (cond (((List.getD b (Int.toNat a) []).length : Int) == 3) ((List.getD (List.getD b (Int.toNat a) []) 0 0) == 2) false) = true then
        if 0 <= (1 : Int) /\ (1 : Int) < ((List.getD b (Int.toNat a) []).length : Int) then
         if 0 <= (2 : Int) /\ (2 : Int) < ((List.getD b (Int.toNat a) []).length : Int) then
          (guard_passed_s2.run c d e f g (bor .i64 (shlI .i64 (IntKind.i64.wrap (List.getD (List.getD b (Int.toNat a) []) 1 0)) 8) (IntKind.i64.wrap (List.getD (List.getD b (Int.toNat a) []) 2 0))) l m i j o n).bind fun p =>
          D cd2 (blkQ C 1 (sq D L Js C cd1 (lq C 27 next Q))) (St3 p.2.2.2.2.2.1 b A a r s t u v w x y p.1 p.2.1 p.2.2.1 p.2.2.2.1 p.2.2.2.2.1 p.2.2.2.2.2.2.2.2.1 p.2.2.2.2.2.2.2.2.2.1 p.2.2.2.2.2.2.1 p.2.2.2.2.2.2.2.1 p.2.2.2.2.2.2.2.2.2.2.2.1 p.2.2.2.2.2.2.2.2.2.2.2.2.2.2.2.2.2.1)
         else none
        else none
       else
        cond (decide (0 <= (0 : Int) /\ (0 : Int) < ((List.getD b (Int.toNat a) []).length : Int)) || !((decide (((List.getD b (Int.toNat a) []).length : Int) > 0)) == true)) (
         if (cond (decide (((List.getD b (Int.toNat a) []).length : Int) > 0)) ((List.getD (List.getD b (Int.toNat a) []) 0 0) == 1) false) = true then
          if 0 <= (1 : Int) /\ (1 : Int) <= ((List.getD b (Int.toNat a) []).length : Int) /\ ((List.getD b (Int.toNat a) []).length : Int) <= ((List.getD b (Int.toNat a) []).length : Int) then
           if fitB (6 + (cutL (List.getD b (Int.toNat a) []) 1 ((List.getD b (Int.toNat a) []).length : Int)).length) 1 = true then
            (paper_Decode.run ([1,0,0,0,0,0] ++ (cutL (List.getD b (Int.toNat a) []) 1 ((List.getD b (Int.toNat a) []).length : Int)))).bind fun z =>
            (if ((cond (cond (z.2.1 != 0) true (decide (z.1.2.2.1.2.2.1 >= 3))) true (decide (z.1.2.2.1.2.2.2.2.1 >= 256))) == false) = true then guard_Id.run z.1.2.2.1 else some 0).bind fun G =>
            (if ((cond (cond (z.2.1 != 0) true (decide (z.1.2.2.1.2.2.1 >= 3))) true (decide (z.1.2.2.1.2.2.2.2.1 >= 256))) == false) = true then guard_knows.run (c,(d,e,f,l,m,()),g,(i,j,()),o,n,()) G else some false).bind fun H =>
            if (cond (cond (cond (z.2.1 != 0) true (decide (z.1.2.2.1.2.2.1 >= 3))) true (decide (z.1.2.2.1.2.2.2.2.1 >= 256))) true H) = true then
             Q .ret (St1 12 ([0,0,0,0],([0,0,0],[0,0,0],0,[],[],()),([0,0,0],[0,0,0],0,[],[],()),([],[],()),[],[],()))
            else
             (guard_met_s2.run c d e f g z.1.2.2.1 l m i j o n).bind fun q =>
             D cd2 (blkQ C 1 (sq D L Js C cd1 (lq C 27 next Q))) (St3 q.2.2.2.2.2.1 b A a r s t u v w x y q.1 q.2.1 q.2.2.1 q.2.2.2.1 q.2.2.2.2.1 q.2.2.2.2.2.2.2.2.1 q.2.2.2.2.2.2.2.2.2.1 q.2.2.2.2.2.2.1 q.2.2.2.2.2.2.2.1 q.2.2.2.2.2.2.2.2.2.2.2.1 q.2.2.2.2.2.2.2.2.2.2.1)
           else none
          else none
         else
          D cd2 (blkQ C 1 (sq D L Js C cd1 (lq C 27 next Q))) (St3 12 b A a r s t u v w x y c d e f g i j l m n o)) none) none
     else none
    else
     Q (.exit 0) (St4 r s t u v w x y c d e f g i j l m n o):=by
  intro D L; kernel_rfl
 have h2:=via (k:=k) h
 refine h2.trans ?_
 simp only [j0_eq]
 first | rfl | kernel_rfl
def l0 (k : Nat) (Rt : Int->D5->Option α) (Xt0 : D23->D1->D1->D1->Int->D1->D1->Int->D1->D1->D1->Int->D8->D1->D1->D9->D9->D7->D7->Option α) : Nat->D16->Int->Int->D23->D1->D1->D1->Int->D1->D1->Int->D1->D1->D1->Int->D8->D1->D1->D9->D9->D7->D7->Option α
 | 0,_,_,_,_,_,_,_,_,_,_,_,_,_,_,_,_,_,_,_,_,_,_=>none
 | n + 1,a,b,c,d,e,f,g,i,j,l,m,o,p,q,r,s,t,u,v,w,x,y=>l0s (l0 k Rt Xt0 n) Rt Xt0 a b c d e f g i j l m o p q r s t u v w x y
theorem l0_eq (k : Nat) (Q : Ex->St->Option α) : ∀ (n : Nat) (w : D16) (x y : Int) (a : D23) (b c d : D1) (e : Int) (f g : D1) (i : Int) (j l m : D1) (o : Int) (p : D8) (q r : D1) (s t : D9) (u v : D7),iter (rnd C k cd0 27 Q) n (St2 w x y a b c d e f g i j l m o p q r s t u v) = l0 k (fun z A=>Q .ret (St1 z A)) (fun a b c d e f g i j l m o p q r s t u v=>Q (.exit 0) (St4 a b c d e f g i j l m o p q r s t u v)) n w x y a b c d e f g i j l m o p q r s t u v
 | 0,_,_,_,_,_,_,_,_,_,_,_,_,_,_,_,_,_,_,_,_,_,_=>rfl
 | n + 1,w,x,y,a,b,c,d,e,f,g,i,j,l,m,o,p,q,r,s,t,u,v=>(iter_succ _ _ _).trans ((l0s_eq k _ Q w x y a b c d e f g i j l m o p q r s t u v).trans (congrArg (fun N=>l0s N (fun z A=>Q .ret (St1 z A)) (fun a b c d e f g i j l m o p q r s t u v=>Q (.exit 0) (St4 a b c d e f g i j l m o p q r s t u v)) w x y a b c d e f g i j l m o p q r s t u v) (by funext; exact l0_eq k Q n _ _ _ _ _ _ _ _ _ _ _ _ _ _ _ _ _ _ _ _ _ _)))
theorem l0_congr (k : Nat) (Rt : Int->D5->Option α) (Xt0 : D23->D1->D1->D1->Int->D1->D1->Int->D1->D1->D1->Int->D8->D1->D1->D9->D9->D7->D7->Option α) (Rtq : Int->D5->Option α) (Xt0q : D23->D1->D1->D1->Int->D1->D1->Int->D1->D1->D1->Int->D8->D1->D1->D9->D9->D7->D7->Option α) (hRt : ∀ (w : Int) (x : D5),Rt w x = Rtq w x) (hXt0 : ∀ (a : D23) (b c d : D1) (e : Int) (f g : D1) (i : Int) (j l m : D1) (o : Int) (p : D8) (q r : D1) (s t : D9) (u v : D7),Xt0 a b c d e f g i j l m o p q r s t u v = Xt0q a b c d e f g i j l m o p q r s t u v) (n : Nat) (y : D16) (z A : Int) (a : D23) (b c d : D1) (e : Int) (f g : D1) (i : Int) (j l m : D1) (o : Int) (p : D8) (q r : D1) (s t : D9) (u v : D7) : l0 k Rt Xt0 n y z A a b c d e f g i j l m o p q r s t u v = l0 k Rtq Xt0q n y z A a b c d e f g i j l m o p q r s t u v:=by
 obtain rfl : Rt = Rtq:=by funext w; funext x; exact hRt w x
 obtain rfl : Xt0 = Xt0q:=by funext a; funext b; funext c; funext d; funext e; funext f; funext g; funext i; funext j; funext l; funext m; funext o; funext p; funext q; funext r; funext s; funext t; funext u; funext v; exact hXt0 a b c d e f g i j l m o p q r s t u v
 rfl
noncomputable def cd3 : Code:=cR (cR (cR (cR (cR (cR (cR (cB Tryz.f11)))))))
def St5 (a : D23) (b c d : D1) (e : Int) (f g : D1) (i : Int) (j k l : D1) (m : Int) (n : D8) (o p : D1) (q r : D9) (s t : D7) : St:=stL 126 [(5,.ref 5 0 []),(6,.ref 6 0 []),(8,.ref 8 0 [])] [(5,.cell T11 (.data T11 a) false),(6,.cell T15 (.agg T15 [.data T30 b,.agg T21 [.data T19 c,.data T19 d,.data T1 e,.full T22 [],.full T22 []],.agg T21 [.data T19 f,.data T19 g,.data T1 i,.full T22 [],.full T22 []],.agg T11 [.full T6 [],.full T6 []],.full T4 [],.full T4 []]) false),(8,.cell T15 (.agg T15 [.data T30 j,.agg T21 [.data T19 k,.data T19 l,.data T1 m,.app 130 0,.app 131 0],.data T21 n,.agg T11 [.app 128 0,.app 129 0],.app 9105 0,.app 135 0]) false),(128,.buf T6 o 0 true),(129,.buf T6 p 0 true),(130,.buf T22 q 0 true),(131,.buf T22 r 0 true),(135,.buf T4 s 0 true),(9105,.buf T4 t 0 true)]
def j1 (Rt : Int->D5->Option α) (a : D23) (m n o : D1) (p : Int) (q r : D1) (s : Int) (b c d : D1) (e : Int) (f : D8) (t u : D1) (g i : D9) (j k : D7) : Option α :=
 (guard_fresh.run (b,(c,d,e,g,i,()),f,a,k,j,())).bind fun l =>
 Rt 0 l
theorem j1_eq (k : Nat) (Q : Ex->St->Option α) (a : D23) (b c d : D1) (e : Int) (f g : D1) (i : Int) (j l m : D1) (n : Int) (o : D8) (p q : D1) (r s : D9) (t u : D7) :
  (den C k) cd3 Q (St5 a b c d e f g i j l m n o p q r s t u) = j1 (fun v w=>Q .ret (St1 v w)) a b c d e f g i j l m n o p q r s t u:=plainly Js (by kernel_rfl)
theorem a0 (k : Nat) (Q : Ex->St->Option α) (y : D16) (z A : Int) (a : D23) (c d e : D1) (f : Int) (g i : D1) (j : Int) (l m n : D1) (o : Int) (p : D8) (q r : D1) (s t : D9) (u v : D7) :
  (lp C k) cd0 (blkQ C 0 (sq (den C k) (lp C k) Js C cd3 Q)) (St2 y z A a c d e f g i j l m n o p q r s t u v) = l0 k (fun w x=>(fun w x=>Q .ret (St1 w x)) w x) (fun a c d e f g i j l m n o p q r s t u v=>j1 (fun w x=>Q .ret (St1 w x)) a c d e f g i j l m n o p q r s t u v) k y z A a c d e f g i j l m n o p q r s t u v :=
 (lp_iter 27 (by kernel_rfl)).trans ((l0_eq k _ k y z A a c d e f g i j l m n o p q r s t u v).trans (l0_congr k _ _ _ _ (fun w x=>(by kernel_rfl)) (fun a c d e f g i j l m n o p q r s t u v=>(Eq.trans (b:=(den C k) cd3 Q (St5 a c d e f g i j l m n o p q r s t u v)) (by kernel_rfl) (by simp only [j1_eq]))) k y z A a c d e f g i j l m n o p q r s t u v))
def top (k : Nat) (Rt : Int->D5->Option α) (d : D1) (e : D8) (f : D23) : Option α :=
 (guard_Begin_s0.run d e).bind fun a =>
 if (a.2.2.2.2.2.2.2.1 != 0) = true then
  Rt a.2.2.2.2.2.2.2.1 ([0,0,0,0],([0,0,0],[0,0,0],0,[],[],()),([0,0,0],[0,0,0],0,[],[],()),([],[],()),[],[],())
 else
  (log_Mend.run f).bind fun b =>
  if (b.2.1 != 0) = true then
   Rt b.2.1 ([0,0,0,0],([0,0,0],[0,0,0],0,[],[],()),([0,0,0],[0,0,0],0,[],[],()),([],[],()),[],[],())
  else
   (log_Open.run b.1).bind fun c =>
   l0 k (fun g i=>Rt g i) (fun j l m n o p q r s t u v w x y z A B D=>j1 Rt j l m n o p q r s t u v w x y z A B D) k c.1 (c.1.length : Int) 0 b.1 [0,0,0,0] [0,0,0] [0,0,0] 0 [0,0,0] [0,0,0] 0 a.1 a.2.1 a.2.2.1 a.2.2.2.1 (a.2.2.2.2.1,a.2.2.2.2.2.1,a.2.2.2.2.2.2.1,a.2.2.2.2.2.2.2.2.2.2.2.2.2.2.2.2.2.2.2.1,a.2.2.2.2.2.2.2.2.2.2.2.2.2.2.2.2.2.2.2.2.1,()) a.2.2.2.2.2.2.2.2.2.2.2.2.2.2.2.1 a.2.2.2.2.2.2.2.2.2.2.2.2.2.2.2.2.1 a.2.2.2.2.2.2.2.2.2.2.2.2.2.2.2.2.2.1 a.2.2.2.2.2.2.2.2.2.2.2.2.2.2.2.2.2.2.1 a.2.2.2.2.2.2.2.2.2.2.2.2.2.2.2.2.2.2.2.2.2.2.1 a.2.2.2.2.2.2.2.2.2.2.2.2.2.2.2.2.2.2.2.2.2.1
theorem top_eq (k : Nat) (Q : Ex->St->Option α) (b : D1) (c : D8) (d : D23) :
  (den C k) (cB Tryz.f11) Q (St0 b c d) = top k (fun g i=>Q .ret (St1 g i)) b c d:=by
 have h : ∀ (D L : DT α),denJ D L Js C (cB Tryz.f11) Q (St0 b c d) =
    (guard_Begin_s0.run b c).bind fun a =>
    if (a.2.2.2.2.2.2.2.1 != 0) = true then
     Q .ret (St1 a.2.2.2.2.2.2.2.1 ([0,0,0,0],([0,0,0],[0,0,0],0,[],[],()),([0,0,0],[0,0,0],0,[],[],()),([],[],()),[],[],()))
    else
     (log_Mend.run d).bind fun e =>
     if (e.2.1 != 0) = true then
      Q .ret (St1 e.2.1 ([0,0,0,0],([0,0,0],[0,0,0],0,[],[],()),([0,0,0],[0,0,0],0,[],[],()),([],[],()),[],[],()))
     else
      (log_Open.run e.1).bind fun f =>
      L cd0 (blkQ C 0 (sq D L Js C cd3 Q)) (St2 f.1 (f.1.length : Int) 0 e.1 [0,0,0,0] [0,0,0] [0,0,0] 0 [0,0,0] [0,0,0] 0 a.1 a.2.1 a.2.2.1 a.2.2.2.1 (a.2.2.2.2.1,a.2.2.2.2.2.1,a.2.2.2.2.2.2.1,a.2.2.2.2.2.2.2.2.2.2.2.2.2.2.2.2.2.2.2.1,a.2.2.2.2.2.2.2.2.2.2.2.2.2.2.2.2.2.2.2.2.1,()) a.2.2.2.2.2.2.2.2.2.2.2.2.2.2.2.1 a.2.2.2.2.2.2.2.2.2.2.2.2.2.2.2.2.1 a.2.2.2.2.2.2.2.2.2.2.2.2.2.2.2.2.2.1 a.2.2.2.2.2.2.2.2.2.2.2.2.2.2.2.2.2.2.1 a.2.2.2.2.2.2.2.2.2.2.2.2.2.2.2.2.2.2.2.2.2.2.1 a.2.2.2.2.2.2.2.2.2.2.2.2.2.2.2.2.2.2.2.2.2.1):=by
  intro D L; kernel_rfl
 have h2:=via (k:=k) h
 refine h2.trans ?_
 simp only [a0]
 first | rfl | kernel_rfl
def run (a : D1) (b : D8) (c : D23) : Option D25:=top (α:=D5 × Int × Unit) fuel (fun d e=>some (e,d,())) a b c
def F : Fn:=⟨T89,T17,true,fun x=>run x.1 x.2.1 x.2.2.1⟩
theorem con : Con Tryz.prog 11 F /\ Named Tryz.prog 11 :=
 con_of2 (C:=C) (ctx_ok_sh (by kernel_rfl) (by kernel_rfl) (by kernel_rfl) (by kernel_rfl) ⟨.inl guard_knows.con,⟨.inl guard_Id.con,⟨.inl guard_fresh.con,⟨.inl log_Mend.con,⟨.inl log_Open.con,⟨.inl paper_Decode.con,trivial⟩⟩⟩⟩⟩⟩ ⟨⟨⟨guard_met_s2.sok,trivial⟩,guard_met_s2.named⟩,⟨⟨⟨guard_Begin_s0.sok,trivial⟩,guard_Begin_s0.named⟩,⟨⟨⟨guard_passed_s2.sok,trivial⟩,guard_passed_s2.named⟩,trivial⟩⟩⟩) (by kernel_rfl) Tryz.func11 (by kernel_rfl) (c:=cB Tryz.f11) (by kernel_rfl) (by kernel_rfl) F (fun x=>by simp [F,spread,Tryz.ntmps11]) (fun x=>(St0 x.1 x.2.1 x.2.2.1)) (fun x=>by kernel_rfl) fun x=>(top_eq fuel _ x.1 x.2.1 x.2.2.1).trans (by kernel_rfl)
end Go.Bx.guard_Again
namespace Go.Bx.basculeref_GuardBegun
def Js : List Nat:=[]
def C : Ctx:=⟨[(24,T30),(28,T21),(34,T15),(38,T1)],[],[],fnL [(65,basculeref_GateFault.F)],noSh,[],invL [],[(2,[4,5])],[(2,[.dat false 4 [1],.dat false 4 [2]])],[],0,0⟩
def St0 (a : D1) (b : D8) : St:=stL 17 [(0,.data T30 a),(1,.data T21 b)] []
def St1 (a : Int) (b : D1) (c d : D8) : St:=stL 17 [(4,.ref 4 0 []),(5,.data T1 a)] [(4,.cell T15 (.agg T15 [.data T30 b,.data T21 c,.data T21 d,.agg T11 [.full T6 [],.full T6 []],.full T4 [],.full T4 []]) false)]
def top (Rt : Int->D1->D8->D8->Option α) (c : D1) (a : D8) : Option α :=
 (basculeref_GateFault.run a).bind fun b =>
 if (b != 0) = true then
  Rt b [0,0,0,0] ([0,0,0],[0,0,0],0,[],[],()) ([0,0,0],[0,0,0],0,[],[],())
 else
  Rt 0 c a a
theorem top_eq (k : Nat) (Q : Ex->St->Option α) (a : D1) (b : D8) :
  (den C k) (cB Tryz.f40) Q (St0 a b) = top (fun c d e f=>Q .ret (St1 c d e f)) a b:=plainly Js (by kernel_rfl)
def run (a : D1) (b : D8) : Option D25:=top (α:=D5 × Int × Unit) (fun c d e f=>some ((d,e,f,([],[],()),[],[],()),c,())) a b
def F : Fn:=⟨T63,T17,true,fun x=>run x.1 x.2.1⟩
theorem con : Con Tryz.prog 40 F /\ Named Tryz.prog 40 :=
 con_of2 (C:=C) (ctx_ok (by kernel_rfl) (by kernel_rfl) (by kernel_rfl) (by kernel_rfl) ⟨.inl basculeref_GateFault.con,trivial⟩) (by kernel_rfl) Tryz.func40 (by kernel_rfl) (c:=cB Tryz.f40) (by kernel_rfl) (by kernel_rfl) F (fun x=>by simp [F,spread,Tryz.ntmps40]) (fun x=>(St0 x.1 x.2.1)) (fun x=>by kernel_rfl) fun x=>(top_eq fuel _ x.1 x.2.1).trans (by kernel_rfl)
end Go.Bx.basculeref_GuardBegun
namespace Go.Bx.basculeref_GuardAgain
def Js : List Nat:=[20,23]
def C : Ctx:=⟨[(5,T6),(9,.str),(24,T30),(28,T21),(29,T3),(31,T11),(34,T15),(37,T4),(38,T1),(65,T64),(71,T70)],[],[],fnL [(12,basculeref_meets.F),(40,basculeref_GuardBegun.F),(41,basculeref_LogMended.F),(42,basculeref_LogRecords.F),(43,basculeref_PaperOf.F),(44,basculeref_waits.F),(45,basculeref_number.F)],noSh,[],invL [],[(2,[6,7]),(1,[5,6,8]),(4,[5,6,8,43,44,45]),(7,[5,6,8,14,43,44,45]),(27,[5,6,8,43,44,45]),(57,[5,6,8,14,43,44,45]),(66,[5,6,8])],[(2,[.dat false 6 []])],[],0,0⟩
def St0 (a : D1) (b : D8) (c : D23) : St:=stL 106 [(0,.data T30 a),(1,.data T21 b),(2,.data T11 c)] []
def St1 (a : Int) (b : D5) : St:=stL 106 [(6,.ref 6 0 []),(7,.data T1 a)] [(6,.cell T15 (.data T15 b) false)]
def St2 (a : D16) (b c : Int) (d : D23) (e f g : D1) (i : Int) (j k : D1) (l : Int) (m : D5) : St:=stL 106 [(5,.ref 5 0 []),(6,.ref 6 0 []),(8,.ref 8 0 []),(43,.data T64 a),(44,.data T1 b),(45,.data T1 c)] [(5,.cell T11 (.data T11 d) false),(6,.cell T15 (.agg T15 [.data T30 e,.agg T21 [.data T19 f,.data T19 g,.data T1 i,.full T22 [],.full T22 []],.agg T21 [.data T19 j,.data T19 k,.data T1 l,.full T22 [],.full T22 []],.agg T11 [.full T6 [],.full T6 []],.full T4 [],.full T4 []]) false),(8,.cell T15 (.data T15 m) false)]
noncomputable def cd0 : Code:=cL (cL (cR (cL (cR (cR (cR (cR (cR (cR (cB Tryz.f17))))))))))
def St3 (a : Bool) (b : D16) (c d : Int) (e : D23) (f g i : D1) (j : Int) (k l : D1) (m : Int) (n : D5) : St:=stL 106 [(5,.ref 5 0 []),(6,.ref 6 0 []),(8,.ref 8 0 []),(14,.data .bool a),(43,.data T64 b),(44,.data T1 c),(45,.data T1 d)] [(5,.cell T11 (.data T11 e) false),(6,.cell T15 (.agg T15 [.data T30 f,.agg T21 [.data T19 g,.data T19 i,.data T1 j,.full T22 [],.full T22 []],.agg T21 [.data T19 k,.data T19 l,.data T1 m,.full T22 [],.full T22 []],.agg T11 [.full T6 [],.full T6 []],.full T4 [],.full T4 []]) false),(8,.cell T15 (.data T15 n) false)]
noncomputable def cd1 : Code:=cR (cR (cR (cL (cL (cR (cL (cR (cR (cR (cR (cR (cR (cB Tryz.f17)))))))))))))
noncomputable def cd2 : Code:=cR (cR (cR (cL (cL (cR (cR (cL (cL (cR (cL (cR (cR (cR (cR (cR (cR (cB Tryz.f17)))))))))))))))))
def j0 (Nx : D16->Int->Int->D23->D1->D1->D1->Int->D1->D1->Int->D5->Option α) (Rt : Int->D5->Option α) (a : Bool) (b : D16) (c d : Int) (e : D23) (f g i : D1) (j : Int) (k l : D1) (m : Int) (n : D5) : Option α :=
 if (not a) = true then
  Rt 12 ([0,0,0,0],([0,0,0],[0,0,0],0,[],[],()),([0,0,0],[0,0,0],0,[],[],()),([],[],()),[],[],())
 else
  Nx b c (IntKind.i64.wrap (d + 1)) e f g i j k l m n
theorem j0_eq (k : Nat) (next : St->Option α) (Q : Ex->St->Option α) (o : Bool) (a : D16) (b c : Int) (d : D23) (e f g : D1) (i : Int) (j l : D1) (m : Int) (n : D5) :
  (den C k) cd2 (blkQ C 1 (sq (den C k) (lp C k) Js C cd1 (lq C 27 next Q))) (St3 o a b c d e f g i j l m n) = j0 (fun a b c d e f g i j l m n=>next (St2 a b c d e f g i j l m n)) (fun p q=>Q .ret (St1 p q)) o a b c d e f g i j l m n:=plainly Js (by kernel_rfl)
def St4 (a : D23) (b c d : D1) (e : Int) (f g : D1) (i : Int) (j : D5) : St:=stL 106 [(5,.ref 5 0 []),(6,.ref 6 0 []),(8,.ref 8 0 [])] [(5,.cell T11 (.data T11 a) false),(6,.cell T15 (.agg T15 [.data T30 b,.agg T21 [.data T19 c,.data T19 d,.data T1 e,.full T22 [],.full T22 []],.agg T21 [.data T19 f,.data T19 g,.data T1 i,.full T22 [],.full T22 []],.agg T11 [.full T6 [],.full T6 []],.full T4 [],.full T4 []]) false),(8,.cell T15 (.data T15 j) false)]
def l0s (Nx : D16->Int->Int->D23->D1->D1->D1->Int->D1->D1->Int->D5->Option α) (Rt : Int->D5->Option α) (Xt0 : D23->D1->D1->D1->Int->D1->D1->Int->D5->Option α) (b : D16) (c a : Int) (d : D23) (e f g : D1) (i : Int) (j k : D1) (l : Int) (m : D5) : Option α :=
 if (decide (a < c)) = true then
  if 0 <= a /\ a < (b.length : Int) then
   cond (decide (0 <= (0 : Int) /\ (0 : Int) < ((List.getD b (Int.toNat a) []).length : Int)) || !((decide (((List.getD b (Int.toNat a) []).length : Int) > 0)) == true)) (
    if (cond (decide (((List.getD b (Int.toNat a) []).length : Int) > 0)) ((List.getD (List.getD b (Int.toNat a) []) 0 0) == 1) false) = true then
     if 0 <= (1 : Int) /\ (1 : Int) <= ((List.getD b (Int.toNat a) []).length : Int) /\ ((List.getD b (Int.toNat a) []).length : Int) <= ((List.getD b (Int.toNat a) []).length : Int) then
      if Nat.ble (6 + (cutL (List.getD b (Int.toNat a) []) 1 ((List.getD b (Int.toNat a) []).length : Int)).length) 9223372036854775807 = true then
       (basculeref_PaperOf.run ([1,0,0,0,0,0] ++ (cutL (List.getD b (Int.toNat a) []) 1 ((List.getD b (Int.toNat a) []).length : Int)))).bind fun n =>
       if (n.2.1 == 0) = true then
        (basculeref_meets.run m n.1.2.2.1).bind fun o =>
        j0 Nx Rt o.2.1 b c a d e f g i j k l o.1
       else
        j0 Nx Rt false b c a d e f g i j k l m
      else none
     else none
    else
     cond (decide (0 <= (0 : Int) /\ (0 : Int) < ((List.getD b (Int.toNat a) []).length : Int)) || !((((List.getD b (Int.toNat a) []).length : Int) == 3) == true)) (
      if (cond (((List.getD b (Int.toNat a) []).length : Int) == 3) ((List.getD (List.getD b (Int.toNat a) []) 0 0) == 2) false) = true then
       if 0 <= (1 : Int) /\ (1 : Int) <= ((List.getD b (Int.toNat a) []).length : Int) /\ ((List.getD b (Int.toNat a) []).length : Int) <= ((List.getD b (Int.toNat a) []).length : Int) then
        (basculeref_number.run (cutL (List.getD b (Int.toNat a) []) 1 ((List.getD b (Int.toNat a) []).length : Int))).bind fun q =>
        (basculeref_waits.run m q).bind fun p =>
        j0 Nx Rt (p.2.1 == 0) b c a d e f g i j k l p.1
       else none
      else
       j0 Nx Rt false b c a d e f g i j k l m) none) none
  else none
 else
  Xt0 d e f g i j k l m
theorem l0s_eq (k : Nat) (next : St->Option α) (Q : Ex->St->Option α) (b : D16) (n a : Int) (c : D23) (d e f : D1) (g : Int) (i j : D1) (l : Int) (m : D5) :
  rnd C k cd0 27 Q next (St2 b n a c d e f g i j l m) = l0s (fun b n a c d e f g i j l m=>next (St2 b n a c d e f g i j l m)) (fun r s=>Q .ret (St1 r s)) (fun c d e f g i j l m=>Q (.exit 0) (St4 c d e f g i j l m)) b n a c d e f g i j l m:=by
 have h : ∀ (D L : DT α),denJ D L Js C cd0 (lq C 27 next Q) (St2 b n a c d e f g i j l m) =
    if (decide (a < n)) = true then
     if 0 <= a /\ a < (b.length : Int) then
      cond (decide (0 <= (0 : Int) /\ (0 : Int) < ((List.getD b (Int.toNat a) []).length : Int)) || !((decide (((List.getD b (Int.toNat a) []).length : Int) > 0)) == true)) (
       if (cond (decide (((List.getD b (Int.toNat a) []).length : Int) > 0)) ((List.getD (List.getD b (Int.toNat a) []) 0 0) == 1) false) = true then
        if 0 <= (1 : Int) /\ (1 : Int) <= ((List.getD b (Int.toNat a) []).length : Int) /\ ((List.getD b (Int.toNat a) []).length : Int) <= ((List.getD b (Int.toNat a) []).length : Int) then
         if Nat.ble (6 + (cutL (List.getD b (Int.toNat a) []) 1 ((List.getD b (Int.toNat a) []).length : Int)).length) 9223372036854775807 = true then
          (basculeref_PaperOf.run ([1,0,0,0,0,0] ++ (cutL (List.getD b (Int.toNat a) []) 1 ((List.getD b (Int.toNat a) []).length : Int)))).bind fun o =>
          if (o.2.1 == 0) = true then
           (basculeref_meets.run m o.1.2.2.1).bind fun p =>
           D cd2 (blkQ C 1 (sq D L Js C cd1 (lq C 27 next Q))) (St3 p.2.1 b n a c d e f g i j l p.1)
          else
           D cd2 (blkQ C 1 (sq D L Js C cd1 (lq C 27 next Q))) (St3 false b n a c d e f g i j l m)
         else none
        else none
       else
        cond (decide (0 <= (0 : Int) /\ (0 : Int) < ((List.getD b (Int.toNat a) []).length : Int)) || !((((List.getD b (Int.toNat a) []).length : Int) == 3) == true)) (
         if (cond (((List.getD b (Int.toNat a) []).length : Int) == 3) ((List.getD (List.getD b (Int.toNat a) []) 0 0) == 2) false) = true then
          if 0 <= (1 : Int) /\ (1 : Int) <= ((List.getD b (Int.toNat a) []).length : Int) /\ ((List.getD b (Int.toNat a) []).length : Int) <= ((List.getD b (Int.toNat a) []).length : Int) then
           (basculeref_number.run (cutL (List.getD b (Int.toNat a) []) 1 ((List.getD b (Int.toNat a) []).length : Int))).bind fun t =>
           (basculeref_waits.run m t).bind fun q =>
           D cd2 (blkQ C 1 (sq D L Js C cd1 (lq C 27 next Q))) (St3 (q.2.1 == 0) b n a c d e f g i j l q.1)
          else none
         else
          D cd2 (blkQ C 1 (sq D L Js C cd1 (lq C 27 next Q))) (St3 false b n a c d e f g i j l m)) none) none
     else none
    else
     Q (.exit 0) (St4 c d e f g i j l m):=by
  intro D L; kernel_rfl
 have h2:=via (k:=k) h
 refine h2.trans ?_
 simp only [j0_eq]
 first | rfl | kernel_rfl
def l0 (k : Nat) (Rt : Int->D5->Option α) (Xt0 : D23->D1->D1->D1->Int->D1->D1->Int->D5->Option α) : Nat->D16->Int->Int->D23->D1->D1->D1->Int->D1->D1->Int->D5->Option α
 | 0,_,_,_,_,_,_,_,_,_,_,_,_=>none
 | n + 1,a,b,c,d,e,f,g,i,j,l,m,o=>l0s (l0 k Rt Xt0 n) Rt Xt0 a b c d e f g i j l m o
theorem l0_eq (k : Nat) (Q : Ex->St->Option α) : ∀ (n : Nat) (l : D16) (m o : Int) (a : D23) (b c d : D1) (e : Int) (f g : D1) (i : Int) (j : D5),iter (rnd C k cd0 27 Q) n (St2 l m o a b c d e f g i j) = l0 k (fun p q=>Q .ret (St1 p q)) (fun a b c d e f g i j=>Q (.exit 0) (St4 a b c d e f g i j)) n l m o a b c d e f g i j
 | 0,_,_,_,_,_,_,_,_,_,_,_,_=>rfl
 | n + 1,l,m,o,a,b,c,d,e,f,g,i,j=>(iter_succ _ _ _).trans ((l0s_eq k _ Q l m o a b c d e f g i j).trans (congrArg (fun N=>l0s N (fun p q=>Q .ret (St1 p q)) (fun a b c d e f g i j=>Q (.exit 0) (St4 a b c d e f g i j)) l m o a b c d e f g i j) (by funext; exact l0_eq k Q n _ _ _ _ _ _ _ _ _ _ _ _)))
theorem l0_congr (k : Nat) (Rt : Int->D5->Option α) (Xt0 : D23->D1->D1->D1->Int->D1->D1->Int->D5->Option α) (Rtq : Int->D5->Option α) (Xt0q : D23->D1->D1->D1->Int->D1->D1->Int->D5->Option α) (hRt : ∀ (l : Int) (m : D5),Rt l m = Rtq l m) (hXt0 : ∀ (a : D23) (b c d : D1) (e : Int) (f g : D1) (i : Int) (j : D5),Xt0 a b c d e f g i j = Xt0q a b c d e f g i j) (n : Nat) (o : D16) (p q : Int) (a : D23) (b c d : D1) (e : Int) (f g : D1) (i : Int) (j : D5) : l0 k Rt Xt0 n o p q a b c d e f g i j = l0 k Rtq Xt0q n o p q a b c d e f g i j:=by
 obtain rfl : Rt = Rtq:=by funext l; funext m; exact hRt l m
 obtain rfl : Xt0 = Xt0q:=by funext a; funext b; funext c; funext d; funext e; funext f; funext g; funext i; funext j; exact hXt0 a b c d e f g i j
 rfl
noncomputable def cd3 : Code:=cR (cR (cR (cR (cR (cR (cR (cB Tryz.f17)))))))
def St5 (a : D23) (b c d : D1) (e : Int) (f g : D1) (i : Int) (j : D5) : St:=stL 106 [(5,.ref 5 0 []),(6,.ref 6 0 []),(8,.ref 8 0 [])] [(5,.cell T11 (.data T11 a) false),(6,.cell T15 (.agg T15 [.data T30 b,.agg T21 [.data T19 c,.data T19 d,.data T1 e,.full T22 [],.full T22 []],.agg T21 [.data T19 f,.data T19 g,.data T1 i,.full T22 [],.full T22 []],.agg T11 [.full T6 [],.full T6 []],.full T4 [],.full T4 []]) false),(8,.cell T15 (.data T15 j) false)]
def j1 (Rt : Int->D5->Option α) (b : D23) (c d e : D1) (f : Int) (g i : D1) (j : Int) (a : D5) : Option α :=
 Rt 0 (a.1,a.2.1,a.2.2.1,b,a.2.2.2.2)
theorem j1_eq (k : Nat) (Q : Ex->St->Option α) (a : D23) (b c d : D1) (e : Int) (f g : D1) (i : Int) (j : D5) :
  (den C k) cd3 Q (St5 a b c d e f g i j) = j1 (fun l m=>Q .ret (St1 l m)) a b c d e f g i j:=plainly Js (by kernel_rfl)
theorem a0 (k : Nat) (Q : Ex->St->Option α) (o : D16) (p q : Int) (a : D23) (c d e : D1) (f : Int) (g i : D1) (j : Int) (l : D5) :
  (lp C k) cd0 (blkQ C 0 (sq (den C k) (lp C k) Js C cd3 Q)) (St2 o p q a c d e f g i j l) = l0 k (fun m n=>(fun m n=>Q .ret (St1 m n)) m n) (fun a c d e f g i j l=>j1 (fun m n=>Q .ret (St1 m n)) a c d e f g i j l) k o p q a c d e f g i j l :=
 (lp_iter 27 (by kernel_rfl)).trans ((l0_eq k _ k o p q a c d e f g i j l).trans (l0_congr k _ _ _ _ (fun m n=>(by kernel_rfl)) (fun a c d e f g i j l=>(Eq.trans (b:=(den C k) cd3 Q (St5 a c d e f g i j l)) (by kernel_rfl) (by simp only [j1_eq]))) k o p q a c d e f g i j l))
def top (k : Nat) (Rt : Int->D5->Option α) (d : D1) (e : D8) (f : D23) : Option α :=
 (basculeref_GuardBegun.run d e).bind fun b =>
 if (b.2.1 != 0) = true then
  Rt b.2.1 ([0,0,0,0],([0,0,0],[0,0,0],0,[],[],()),([0,0,0],[0,0,0],0,[],[],()),([],[],()),[],[],())
 else
  (basculeref_LogMended.run f).bind fun a =>
  if (a.2.1 != 0) = true then
   Rt a.2.1 ([0,0,0,0],([0,0,0],[0,0,0],0,[],[],()),([0,0,0],[0,0,0],0,[],[],()),([],[],()),[],[],())
  else
   (basculeref_LogRecords.run a.1).bind fun c =>
   l0 k (fun g i=>Rt g i) (fun j l m n o p q r s=>j1 Rt j l m n o p q r s) k c.1 (c.1.length : Int) 0 a.1 [0,0,0,0] [0,0,0] [0,0,0] 0 [0,0,0] [0,0,0] 0 b.1
theorem top_eq (k : Nat) (Q : Ex->St->Option α) (a : D1) (b : D8) (c : D23) :
  (den C k) (cB Tryz.f17) Q (St0 a b c) = top k (fun g i=>Q .ret (St1 g i)) a b c:=by
 have h : ∀ (D L : DT α),denJ D L Js C (cB Tryz.f17) Q (St0 a b c) =
    (basculeref_GuardBegun.run a b).bind fun e =>
    if (e.2.1 != 0) = true then
     Q .ret (St1 e.2.1 ([0,0,0,0],([0,0,0],[0,0,0],0,[],[],()),([0,0,0],[0,0,0],0,[],[],()),([],[],()),[],[],()))
    else
     (basculeref_LogMended.run c).bind fun d =>
     if (d.2.1 != 0) = true then
      Q .ret (St1 d.2.1 ([0,0,0,0],([0,0,0],[0,0,0],0,[],[],()),([0,0,0],[0,0,0],0,[],[],()),([],[],()),[],[],()))
     else
      (basculeref_LogRecords.run d.1).bind fun f =>
      L cd0 (blkQ C 0 (sq D L Js C cd3 Q)) (St2 f.1 (f.1.length : Int) 0 d.1 [0,0,0,0] [0,0,0] [0,0,0] 0 [0,0,0] [0,0,0] 0 e.1):=by
  intro D L; kernel_rfl
 have h2:=via (k:=k) h
 refine h2.trans ?_
 simp only [a0]
 first | rfl | kernel_rfl
def run (a : D1) (b : D8) (c : D23) : Option D25:=top (α:=D5 × Int × Unit) fuel (fun d e=>some (e,d,())) a b c
def F : Fn:=⟨T89,T17,true,fun x=>run x.1 x.2.1 x.2.2.1⟩
theorem con : Con Tryz.prog 17 F /\ Named Tryz.prog 17 :=
 con_of2 (C:=C) (ctx_ok (by kernel_rfl) (by kernel_rfl) (by kernel_rfl) (by kernel_rfl) ⟨.inl basculeref_meets.con,⟨.inl basculeref_GuardBegun.con,⟨.inl basculeref_LogMended.con,⟨.inl basculeref_LogRecords.con,⟨.inl basculeref_PaperOf.con,⟨.inl basculeref_waits.con,⟨.inl basculeref_number.con,trivial⟩⟩⟩⟩⟩⟩⟩) (by kernel_rfl) Tryz.func17 (by kernel_rfl) (c:=cB Tryz.f17) (by kernel_rfl) (by kernel_rfl) F (fun x=>by simp [F,spread,Tryz.ntmps17]) (fun x=>(St0 x.1 x.2.1 x.2.2.1)) (fun x=>by kernel_rfl) fun x=>(top_eq fuel _ x.1 x.2.1 x.2.2.1).trans (by kernel_rfl)
end Go.Bx.basculeref_GuardAgain
namespace Go.Bx.guard_bodies_s0
def Js : List Nat:=[8]
def C : Ctx:=⟨[(32,T14),(37,T4)],[],[],fnL [(51,guard_body.F)],noSh,[],invL [],[(2,[2]),(1,[3]),(4,[3,6,7,8]),(9,[3,6,7,8]),(21,[3])],[(9,[.melt true 3 [] 16 true])],[],0,0⟩
def St0 (a : D7) : St:=stL 19 [(0,.data T14 a)] []
def St1 (a : D7) (b c : Int) (d : D7) : St:=stL 19 [(3,.app 16 0),(6,.data T14 a),(7,.data T1 b),(8,.data T1 c)] [(16,.buf T4 d 0 true)]
noncomputable def cd0 : Code:=cL (cL (cR (cL (cR (cR (cB Tryz.f53))))))
def St2 (a : D7) : St:=stL 19 [(3,.app 16 0)] [(16,.buf T4 a 0 true)]
def l0s (Nx : D7->Int->Int->D7->Option α) (Xt0 : D7->Option α) (b : D7) (d a : Int) (c : D7) : Option α :=
 if (decide (a < d)) = true then
  if 0 <= a /\ a < (b.length : Int) then
   (guard_body.run (List.getD b (Int.toNat a) (0,0,0,(List.replicate 32 0),0,0,[],()))).bind fun e =>
   if fitB (c.length + 1) 96 = true then
    Nx b d (IntKind.i64.wrap (a + 1)) (c ++ [e])
   else none
  else none
 else
  Xt0 c
theorem l0s_eq (k : Nat) (next : St->Option α) (Q : Ex->St->Option α) (b : D7) (c d : Int) (a : D7) :
  rnd C k cd0 9 Q next (St1 b c d a) = l0s (fun b c d a=>next (St1 b c d a)) (fun a=>Q (.exit 0) (St2 a)) b c d a:=plainly Js (by kernel_rfl)
def l0 (k : Nat) (Xt0 : D7->Option α) : Nat->D7->Int->Int->D7->Option α
 | 0,_,_,_,_=>none
 | n + 1,a,b,c,d=>l0s (l0 k Xt0 n) Xt0 a b c d
theorem l0_eq (k : Nat) (Q : Ex->St->Option α) : ∀ (n : Nat) (b : D7) (c d : Int) (a : D7),iter (rnd C k cd0 9 Q) n (St1 b c d a) = l0 k (fun a=>Q (.exit 0) (St2 a)) n b c d a
 | 0,_,_,_,_=>rfl
 | n + 1,b,c,d,a=>(iter_succ _ _ _).trans ((l0s_eq k _ Q b c d a).trans (congrArg (fun N=>l0s N (fun a=>Q (.exit 0) (St2 a)) b c d a) (by funext; exact l0_eq k Q n _ _ _ _)))
noncomputable def cd1 : Code:=cR (cR (cR (cB Tryz.f53)))
def St3 (a : D7) : St:=stL 19 [(3,.app 16 0)] [(16,.buf T4 a 0 true)]
def St4 (a : D7) : St:=stL 19 [(2,.app 16 0)] [(16,.buf T4 a 0 true)]
def j0 (Rt : D7->Option α) (a : D7) : Option α :=
 Rt a
theorem j0_eq (k : Nat) (Q : Ex->St->Option α) (a : D7) :
  (den C k) cd1 (endQ C Q) (St3 a) = j0 (fun a=>Q .ret (St4 a)) a:=plainly Js (by kernel_rfl)
theorem a0 (k : Nat) (Q : Ex->St->Option α) (c : D7) (d e : Int) (a : D7) :
  (lp C k) cd0 (blkQ C 0 (sq (den C k) (lp C k) Js C cd1 (endQ C Q))) (St1 c d e a) = l0 k (fun a=>j0 (fun a=>Q .ret (St4 a)) a) k c d e a :=
 (lp_iter 9 (by kernel_rfl)).trans ((l0_eq k _ k c d e a).trans (congrArg (fun X=>l0 k X k c d e a) (funext fun a=>(Eq.trans (b:=(den C k) cd1 (endQ C Q) (St3 a)) (by kernel_rfl) (by simp only [j0_eq])))))
def top (k : Nat) (Rt : D7->Option α) (a : D7) : Option α :=
 l0 k (fun b=>j0 Rt b) k a (a.length : Int) 0 []
theorem top_eq (k : Nat) (Q : Ex->St->Option α) (a : D7) :
  (den C k) (cB Tryz.f53) (endQ C Q) (St0 a) = top k (fun b=>Q .ret (St4 b)) a:=by
 have h : ∀ (D L : DT α),denJ D L Js C (cB Tryz.f53) (endQ C Q) (St0 a) =
    L cd0 (blkQ C 0 (sq D L Js C cd1 (endQ C Q))) (St1 a (a.length : Int) 0 []):=by
  intro D L; kernel_rfl
 have h2:=via (k:=k) h
 refine h2.trans ?_
 simp only [a0]
 first | rfl | kernel_rfl
def run (a : D7) : Option D28:=top (α:=D7 × Unit) fuel (fun b=>some (b,())) a
def Sp : Spec:=⟨[hD T14],[],T51,.app 16 0,[(16,hB T4 0 true)],T51,fun x=>run x.1⟩
set_option maxRecDepth 100000 in
theorem sok : SOk Tryz.prog 53 Sp.h:=by
 refine sok_of_den (C:=C) (ctx_ok (by kernel_rfl) (by kernel_rfl) (by kernel_rfl) (by kernel_rfl) ⟨.inl guard_body.con,trivial⟩) (by kernel_rfl) Tryz.func53 (c:=cB Tryz.f53) (by kernel_rfl) (by kernel_rfl) Sp fuel (by kernel_rfl) (by kernel_rfl) ?_
 intro x r h
 rw [<- h]
 have h1 : Sp.start x Tryz.f53.ntmps = (St0 x.1):=by kernel_rfl
 rw [h1]
 refine (top_eq fuel (finS C Tryz.f53.results.toList Sp.read) x.1).trans ?_
 kernel_rfl
theorem named : Named Tryz.prog 53:=named_of Tryz.func53 (by kernel_rfl) (by kernel_rfl)
end Go.Bx.guard_bodies_s0
namespace Go.Bx.guard_fresh_s0
def Js : List Nat:=[]
def C : Ctx:=⟨[(26,T20),(28,T21),(29,T3),(31,T11),(32,T14),(34,T15)],[],[],fnL [],shL [(52,[.one guard_fresh_1_s0.Sp]),(53,[.one guard_bodies_s0.Sp])],[(8,54),(13,55),(22,56),(27,57),(46,58),(49,59)],invL [],[(2,[2])],[],[36,41],0,0⟩
def St0 (a : D5) : St:=stL 53 [(0,.data T15 a)] []
def St1 (a b c : D1) (d : Int) (e f : D1) (g : Int) (i j : D1) (k l : D9) (m n : D9) (o p : D7) : St:=stL 53 [(2,.ref 2 0 [])] [(2,.cell T15 (.agg T15 [.data T30 a,.agg T21 [.data T19 b,.data T19 c,.data T1 d,.app 54 0,.app 55 0],.agg T21 [.data T19 e,.data T19 f,.data T1 g,.app 56 0,.app 57 0],.agg T11 [.app 36 0,.app 41 0],.app 58 0,.app 59 0]) false),(36,.buf T6 i 0 true),(41,.buf T6 j 0 true),(54,.buf T22 k 0 true),(55,.buf T22 l 0 true),(56,.buf T22 m 0 true),(57,.buf T22 n 0 true),(58,.buf T4 o 0 true),(59,.buf T4 p 0 true)]
def top (Rt : D1->D1->D1->Int->D1->D1->Int->D1->D1->D9->D9->D9->D9->D7->D7->Option α) (a : D5) : Option α :=
 (guard_fresh_1_s0.run a.2.1.2.2.2.1).bind fun b =>
 (guard_fresh_1_s0.run a.2.1.2.2.2.2.1).bind fun c =>
 (guard_fresh_1_s0.run a.2.2.1.2.2.2.1).bind fun d =>
 (guard_fresh_1_s0.run a.2.2.1.2.2.2.2.1).bind fun e =>
 if fitB (0 + a.2.2.2.1.1.length) 1 = true then
  if fitB (0 + a.2.2.2.1.2.1.length) 1 = true then
   (guard_bodies_s0.run a.2.2.2.2.1).bind fun f =>
   (guard_bodies_s0.run a.2.2.2.2.2.1).bind fun g =>
   Rt a.1 a.2.1.1 a.2.1.2.1 a.2.1.2.2.1 a.2.2.1.1 a.2.2.1.2.1 a.2.2.1.2.2.1 a.2.2.2.1.1 a.2.2.2.1.2.1 b.1 c.1 d.1 e.1 f.1 g.1
  else none
 else none
theorem top_eq (k : Nat) (Q : Ex->St->Option α) (a : D5) :
  (den C k) (cB Tryz.f24) (endQ C Q) (St0 a) = top (fun b c d e f g i j l m n o p q r=>Q .ret (St1 b c d e f g i j l m n o p q r)) a:=plainly Js (by kernel_rfl)
def run (i : D5) : Option D29:=top (α:=List Int × List Int × List Int × Int × List Int × List Int × Int × List Int × List Int × List Int × Int × List Int × List Int × Int × List Int × List Int × D9 × D9 × D9 × D9 × D7 × D7 × Unit) (fun a b c d e f g j k l m n o p q=>some (a,b,c,d,e,f,g,a,b,c,d,e,f,g,j,k,l,m,n,o,p,q,())) i
def Sp : Spec:=⟨[hD T15],[],T52,.agg T15 [hD T30,.agg T21 [hD T19,hD T19,hD T1,.app 54 0,.app 55 0],.agg T21 [hD T19,hD T19,hD T1,.app 56 0,.app 57 0],.agg T11 [.app 36 0,.app 41 0],.app 58 0,.app 59 0],[(2,hC T15 (.agg T15 [hD T30,.agg T21 [hD T19,hD T19,hD T1,.app 54 0,.app 55 0],.agg T21 [hD T19,hD T19,hD T1,.app 56 0,.app 57 0],.agg T11 [.app 36 0,.app 41 0],.app 58 0,.app 59 0]) false),(36,hB T6 0 true),(41,hB T6 0 true),(54,hB T22 0 true),(55,hB T22 0 true),(56,hB T22 0 true),(57,hB T22 0 true),(58,hB T4 0 true),(59,hB T4 0 true)],T58,fun x=>run x.1⟩
set_option maxRecDepth 100000 in
theorem sok : SOk Tryz.prog 24 Sp.h:=by
 refine sok_of_den (C:=C) (ctx_ok_sh (by kernel_rfl) (by kernel_rfl) (by kernel_rfl) (by kernel_rfl) trivial ⟨⟨⟨guard_fresh_1_s0.sok,trivial⟩,guard_fresh_1_s0.named⟩,⟨⟨⟨guard_bodies_s0.sok,trivial⟩,guard_bodies_s0.named⟩,trivial⟩⟩) (by kernel_rfl) Tryz.func24 (c:=cB Tryz.f24) (by kernel_rfl) (by kernel_rfl) Sp fuel (by kernel_rfl) (by kernel_rfl) ?_
 intro x r h
 rw [<- h]
 have h1 : Sp.start x Tryz.f24.ntmps = (St0 x.1):=by kernel_rfl
 rw [h1]
 refine (top_eq fuel (finS C Tryz.f24.results.toList Sp.read) x.1).trans ?_
 kernel_rfl
theorem named : Named Tryz.prog 24:=named_of Tryz.func24 (by kernel_rfl) (by kernel_rfl)
end Go.Bx.guard_fresh_s0
namespace Go.Bx.paper_pen__number_s1
def Js : List Nat:=[]
def C : Ctx:=⟨[(3,T1),(5,T6),(29,T3),(90,T7)],[],[],fnL [],noSh,[],invL [],[(2,[]),(1,[]),(4,[0,1,6]),(3,[0,1,6])],[(3,[.melt false 0 [0] 24 true])],[],1,0⟩
def St0 (a b : Int) (c : D1) : St:=stL 27 [(0,.ref 0 0 []),(1,.data T1 a),(2,.data T1 b)] [(0,.cell T7 (.agg T7 [.full T6 c]) false)]
def St1 (a b : Int) (c : D1) : St:=stL 27 [(0,.ref 0 0 []),(1,.data T1 a),(6,.data T1 b)] [(0,.cell T7 (.agg T7 [.app 25 0]) false),(25,.buf T6 c 0 true)]
noncomputable def cd0 : Code:=cL (cL (cR (cB Tryz.f78)))
def St2 (a : D1) : St:=stL 27 [] [(0,.cell T7 (.agg T7 [.app 25 0]) false),(25,.buf T6 a 0 true)]
def l0s (Nx : Int->Int->D1->Option α) (Xt0 : D1->Option α) (c a : Int) (b : D1) : Option α :=
 if (decide (a >= 0)) = true then
  if 0 <= (IntKind.i64.wrap (8 * a)) then
   if fitB (b.length + 1) 1 = true then
    Nx c (IntKind.i64.wrap (a - 1)) (b ++ [(IntKind.u8.wrap (shrI .i64 c (IntKind.i64.wrap (8 * a))))])
   else none
  else none
 else
  Xt0 b
theorem l0s_eq (k : Nat) (next : St->Option α) (Q : Ex->St->Option α) (b c : Int) (a : D1) :
  rnd C k cd0 3 Q next (St1 b c a) = l0s (fun b c a=>next (St1 b c a)) (fun a=>Q (.exit 0) (St2 a)) b c a:=plainly Js (by kernel_rfl)
def l0 (k : Nat) (Xt0 : D1->Option α) : Nat->Int->Int->D1->Option α
 | 0,_,_,_=>none
 | n + 1,a,b,c=>l0s (l0 k Xt0 n) Xt0 a b c
theorem l0_eq (k : Nat) (Q : Ex->St->Option α) : ∀ (n : Nat) (b c : Int) (a : D1),iter (rnd C k cd0 3 Q) n (St1 b c a) = l0 k (fun a=>Q (.exit 0) (St2 a)) n b c a
 | 0,_,_,_=>rfl
 | n + 1,b,c,a=>(iter_succ _ _ _).trans ((l0s_eq k _ Q b c a).trans (congrArg (fun N=>l0s N (fun a=>Q (.exit 0) (St2 a)) b c a) (by funext; exact l0_eq k Q n _ _ _)))
def St3 (a : D1) : St:=stL 27 [] [(0,.cell T7 (.agg T7 [.app 25 0]) false),(25,.buf T6 a 0 true)]
theorem a0 (k : Nat) (Q : Ex->St->Option α) (b c : Int) (a : D1) :
  (lp C k) cd0 (blkQ C 0 (endQ C Q)) (St1 b c a) = l0 k (fun a=>(fun a=>Q .ret (St3 a)) a) k b c a :=
 (lp_iter 3 (by kernel_rfl)).trans ((l0_eq k _ k b c a).trans (congrArg (fun X=>l0 k X k b c a) (funext fun a=>(by kernel_rfl))))
def top (k : Nat) (Rt : D1->Option α) (a b : Int) (c : D1) : Option α :=
 l0 k (fun d=>Rt d) k a (IntKind.i64.wrap (b - 1)) c
theorem top_eq (k : Nat) (Q : Ex->St->Option α) (a b : Int) (c : D1) :
  (den C k) (cB Tryz.f78) (endQ C Q) (St0 a b c) = top k (fun d=>Q .ret (St3 d)) a b c:=by
 have h : ∀ (D L : DT α),denJ D L Js C (cB Tryz.f78) (endQ C Q) (St0 a b c) =
    L cd0 (blkQ C 0 (endQ C Q)) (St1 a (IntKind.i64.wrap (b - 1)) c):=by
  intro D L; kernel_rfl
 have h2:=via (k:=k) h
 refine h2.trans ?_
 simp only [a0]
 first | rfl | kernel_rfl
def run (a b : Int) (c : D1) : Option D2:=top (α:=List Int × Unit) fuel (fun d=>some (d,())) a b c
def Sp : Spec:=⟨[.ref 0 0 [],hD T1,hD T1],[(0,hC T7 (.agg T7 [hF T6]) false)],T8,.tup [],[(0,hC T7 (.agg T7 [.app 25 0]) false),(25,hB T6 0 true)],T7,fun x=>run x.1 x.2.1 x.2.2.1⟩
set_option maxRecDepth 100000 in
theorem sok : SOk Tryz.prog 78 Sp.h:=by
 refine sok_of_den (C:=C) (ctx_ok (by kernel_rfl) (by kernel_rfl) (by kernel_rfl) (by kernel_rfl) trivial) (by kernel_rfl) Tryz.func78 (c:=cB Tryz.f78) (by kernel_rfl) (by kernel_rfl) Sp fuel (by kernel_rfl) (by kernel_rfl) ?_
 intro x r h
 rw [<- h]
 have h1 : Sp.start x Tryz.f78.ntmps = (St0 x.1 x.2.1 x.2.2.1):=by kernel_rfl
 rw [h1]
 refine (top_eq fuel (finS C Tryz.f78.results.toList Sp.read) x.1 x.2.1 x.2.2.1).trans ?_
 kernel_rfl
theorem named : Named Tryz.prog 78:=named_of Tryz.func78 (by kernel_rfl) (by kernel_rfl)
end Go.Bx.paper_pen__number_s1
namespace Go.Bx.paper_pen__number_s2
def Js : List Nat:=[]
def C : Ctx:=⟨[(3,T1),(5,T6),(29,T3),(90,T7)],[],[],fnL [],noSh,[],invL [],[(2,[]),(1,[]),(4,[0,1,6]),(3,[0,1,6])],[],[],2,0⟩
def St0 (a b : Int) (c : D1) : St:=stL 27 [(0,.ref 0 0 []),(1,.data T1 a),(2,.data T1 b)] [(0,.cell T7 (.agg T7 [.app 1 0]) false),(1,.buf T6 c 0 true)]
def St1 (a b : Int) (c : D1) : St:=stL 27 [(0,.ref 0 0 []),(1,.data T1 a),(6,.data T1 b)] [(0,.cell T7 (.agg T7 [.app 1 1]) false),(1,.buf T6 c 1 true)]
noncomputable def cd0 : Code:=cL (cL (cR (cB Tryz.f78)))
def St2 (a : D1) : St:=stL 27 [] [(0,.cell T7 (.agg T7 [.app 1 1]) false),(1,.buf T6 a 1 true)]
def l0s (Nx : Int->Int->D1->Option α) (Xt0 : D1->Option α) (c a : Int) (b : D1) : Option α :=
 if (decide (a >= 0)) = true then
  if 0 <= (IntKind.i64.wrap (8 * a)) then
   if fitB (b.length + 1) 1 = true then
    Nx c (IntKind.i64.wrap (a - 1)) (b ++ [(IntKind.u8.wrap (shrI .i64 c (IntKind.i64.wrap (8 * a))))])
   else none
  else none
 else
  Xt0 b
theorem l0s_eq (k : Nat) (next : St->Option α) (Q : Ex->St->Option α) (b c : Int) (a : D1) :
  rnd C k cd0 3 Q next (St1 b c a) = l0s (fun b c a=>next (St1 b c a)) (fun a=>Q (.exit 0) (St2 a)) b c a:=plainly Js (by kernel_rfl)
def l0 (k : Nat) (Xt0 : D1->Option α) : Nat->Int->Int->D1->Option α
 | 0,_,_,_=>none
 | n + 1,a,b,c=>l0s (l0 k Xt0 n) Xt0 a b c
theorem l0_eq (k : Nat) (Q : Ex->St->Option α) : ∀ (n : Nat) (b c : Int) (a : D1),iter (rnd C k cd0 3 Q) n (St1 b c a) = l0 k (fun a=>Q (.exit 0) (St2 a)) n b c a
 | 0,_,_,_=>rfl
 | n + 1,b,c,a=>(iter_succ _ _ _).trans ((l0s_eq k _ Q b c a).trans (congrArg (fun N=>l0s N (fun a=>Q (.exit 0) (St2 a)) b c a) (by funext; exact l0_eq k Q n _ _ _)))
def St3 (a : D1) : St:=stL 27 [] [(0,.cell T7 (.agg T7 [.app 1 1]) false),(1,.buf T6 a 1 true)]
theorem a0 (k : Nat) (Q : Ex->St->Option α) (b c : Int) (a : D1) :
  (lp C k) cd0 (blkQ C 0 (endQ C Q)) (St1 b c a) = l0 k (fun a=>(fun a=>Q .ret (St3 a)) a) k b c a :=
 (lp_iter 3 (by kernel_rfl)).trans ((l0_eq k _ k b c a).trans (congrArg (fun X=>l0 k X k b c a) (funext fun a=>(by kernel_rfl))))
def top (k : Nat) (Rt : D1->Option α) (b c : Int) (a : D1) : Option α :=
 l0 k (fun a=>Rt a) k b (IntKind.i64.wrap (c - 1)) a
theorem top_eq (k : Nat) (Q : Ex->St->Option α) (b c : Int) (a : D1) :
  (den C k) (cB Tryz.f78) (endQ C Q) (St0 b c a) = top k (fun a=>Q .ret (St3 a)) b c a:=by
 have h : ∀ (D L : DT α),denJ D L Js C (cB Tryz.f78) (endQ C Q) (St0 b c a) =
    L cd0 (blkQ C 0 (endQ C Q)) (St1 b (IntKind.i64.wrap (c - 1)) a):=by
  intro D L; kernel_rfl
 have h2:=via (k:=k) h
 refine h2.trans ?_
 simp only [a0]
 first | rfl | kernel_rfl
def run (b c : Int) (a : D1) : Option D2:=top (α:=List Int × Unit) fuel (fun a=>some (a,())) b c a
def Sp : Spec:=⟨[.ref 0 0 [],hD T1,hD T1],[(0,hC T7 (.agg T7 [.app 1 0]) false),(1,hB T6 0 true)],T8,.tup [],[(0,hC T7 (.agg T7 [.app 1 1]) false),(1,hB T6 1 true)],T7,fun x=>run x.1 x.2.1 x.2.2.1⟩
set_option maxRecDepth 100000 in
theorem sok : SOk Tryz.prog 78 Sp.h:=by
 refine sok_of_den (C:=C) (ctx_ok (by kernel_rfl) (by kernel_rfl) (by kernel_rfl) (by kernel_rfl) trivial) (by kernel_rfl) Tryz.func78 (c:=cB Tryz.f78) (by kernel_rfl) (by kernel_rfl) Sp fuel (by kernel_rfl) (by kernel_rfl) ?_
 intro x r h
 rw [<- h]
 have h1 : Sp.start x Tryz.f78.ntmps = (St0 x.1 x.2.1 x.2.2.1):=by kernel_rfl
 rw [h1]
 refine (top_eq fuel (finS C Tryz.f78.results.toList Sp.read) x.1 x.2.1 x.2.2.1).trans ?_
 kernel_rfl
end Go.Bx.paper_pen__number_s2
namespace Go.Bx.paper_pen__bytes_s0
def Js : List Nat:=[]
def C : Ctx:=⟨[(29,T3),(90,T7)],[],[],fnL [],noSh,[],invL [],[(2,[])],[],[],3,0⟩
def St0 (x1l x1h : Int) (a : D0) (b : D1) : St:=stL 13 [(0,.ref 0 0 []),(1,.view 1 [.fld 3] T6 32 x1l x1h)] [(0,.cell T7 (.agg T7 [.app 2 0]) false),(1,.cell T4 (.data T4 a) false),(2,.buf T6 b 0 true)]
def St1 (a : D0) (b : D1) : St:=stL 13 [] [(0,.cell T7 (.agg T7 [.app 2 1]) false),(1,.cell T4 (.data T4 a) false),(2,.buf T6 b 1 true)]
def top (Rt : D0->D1->Option α) (x1l x1h : Int) (a : D0) (b : D1) : Option α :=
 if fitB (b.length + (cutL a.2.2.2.1 x1l x1h).length) 1 = true then
  Rt a (b ++ (cutL a.2.2.2.1 x1l x1h))
 else none
theorem top_eq (k : Nat) (Q : Ex->St->Option α) (x1l x1h : Int) (a : D0) (b : D1) :
  (den C k) (cB Tryz.f79) (endQ C Q) (St0 x1l x1h a b) = top (fun a b=>Q .ret (St1 a b)) x1l x1h a b:=plainly Js (by kernel_rfl)
def run (x1l x1h : Int) (a : D0) (b : D1) : Option D3:=top (α:=D0 × List Int × Unit) (fun a b=>some (a,b,())) x1l x1h a b
def Sp : Spec:=⟨[.ref 0 0 [],hW 1 [.fld 3] T6 32],[(0,hC T7 (.agg T7 [.app 2 0]) false),(1,hC T4 (hD T4) false),(2,hB T6 0 true)],T9,.tup [],[(0,hC T7 (.agg T7 [.app 2 1]) false),(1,hC T4 (hD T4) false),(2,hB T6 1 true)],T10,fun x=>run x.1 x.2.1 x.2.2.1 x.2.2.2.1⟩
set_option maxRecDepth 100000 in
theorem sok : SOk Tryz.prog 79 Sp.h:=by
 refine sok_of_den (C:=C) (ctx_ok (by kernel_rfl) (by kernel_rfl) (by kernel_rfl) (by kernel_rfl) trivial) (by kernel_rfl) Tryz.func79 (c:=cB Tryz.f79) (by kernel_rfl) (by kernel_rfl) Sp fuel (by kernel_rfl) (by kernel_rfl) ?_
 intro x r h
 rw [<- h]
 have h1 : Sp.start x Tryz.f79.ntmps = (St0 x.1 x.2.1 x.2.2.1 x.2.2.2.1):=by kernel_rfl
 rw [h1]
 refine (top_eq fuel (finS C Tryz.f79.results.toList Sp.read) x.1 x.2.1 x.2.2.1 x.2.2.2.1).trans ?_
 kernel_rfl
theorem named : Named Tryz.prog 79:=named_of Tryz.func79 (by kernel_rfl) (by kernel_rfl)
end Go.Bx.paper_pen__bytes_s0
namespace Go.Bx.paper_pen__bytes_s1
def Js : List Nat:=[]
def C : Ctx:=⟨[(29,T3),(90,T7)],[],[],fnL [],noSh,[],invL [],[(2,[])],[],[],2,0⟩
def St0 (a b : D1) : St:=stL 13 [(0,.ref 0 0 []),(1,.data T3 a)] [(0,.cell T7 (.agg T7 [.app 1 0]) false),(1,.buf T6 b 0 true)]
def St1 (a : D1) : St:=stL 13 [] [(0,.cell T7 (.agg T7 [.app 1 1]) false),(1,.buf T6 a 1 true)]
def top (Rt : D1->Option α) (a b : D1) : Option α :=
 if fitB (b.length + a.length) 1 = true then
  Rt (b ++ a)
 else none
theorem top_eq (k : Nat) (Q : Ex->St->Option α) (b a : D1) :
  (den C k) (cB Tryz.f79) (endQ C Q) (St0 b a) = top (fun a=>Q .ret (St1 a)) b a:=plainly Js (by kernel_rfl)
def run (b a : D1) : Option D2:=top (α:=List Int × Unit) (fun a=>some (a,())) b a
def Sp : Spec:=⟨[.ref 0 0 [],hD T3],[(0,hC T7 (.agg T7 [.app 1 0]) false),(1,hB T6 0 true)],T11,.tup [],[(0,hC T7 (.agg T7 [.app 1 1]) false),(1,hB T6 1 true)],T7,fun x=>run x.1 x.2.1⟩
set_option maxRecDepth 100000 in
theorem sok : SOk Tryz.prog 79 Sp.h:=by
 refine sok_of_den (C:=C) (ctx_ok (by kernel_rfl) (by kernel_rfl) (by kernel_rfl) (by kernel_rfl) trivial) (by kernel_rfl) Tryz.func79 (c:=cB Tryz.f79) (by kernel_rfl) (by kernel_rfl) Sp fuel (by kernel_rfl) (by kernel_rfl) ?_
 intro x r h
 rw [<- h]
 have h1 : Sp.start x Tryz.f79.ntmps = (St0 x.1 x.2.1):=by kernel_rfl
 rw [h1]
 refine (top_eq fuel (finS C Tryz.f79.results.toList Sp.read) x.1 x.2.1).trans ?_
 kernel_rfl
end Go.Bx.paper_pen__bytes_s1
namespace Go.Bx.paper_pen__body_s0
def Js : List Nat:=[]
def C : Ctx:=⟨[(3,T1),(29,T3),(35,T12),(37,T4)],[],[],fnL [],shL [(78,[.one paper_pen__number_s1.Sp,.one paper_pen__number_s2.Sp]),(79,[.one paper_pen__bytes_s0.Sp,.one paper_pen__bytes_s1.Sp])],[(7,33),(11,34),(15,34),(19,34),(23,34),(27,34),(31,34)],invL [],[(2,[])],[],[],1,0⟩
def St0 (a : D0) (b : D1) : St:=stL 32 [(0,.ref 0 0 []),(1,.data T4 a)] [(0,.cell T7 (.agg T7 [.full T6 b]) false)]
def St1 (a : D1) : St:=stL 32 [] [(0,.cell T7 (.agg T7 [.app 34 0]) false),(34,.buf T6 a 0 true)]
def top (Rt : D1->Option α) (a : D0) (c : D1) : Option α :=
 (paper_pen__number_s1.run a.1 8 c).bind fun d =>
 (paper_pen__number_s2.run a.2.1 4 d.1).bind fun e =>
 (paper_pen__number_s2.run a.2.2.1 2 e.1).bind fun f =>
 (paper_pen__bytes_s0.run 0 32 a f.1).bind fun b =>
 (paper_pen__number_s2.run b.1.2.2.2.2.1 8 b.2.1).bind fun g =>
 (paper_pen__number_s2.run b.1.2.2.2.2.2.1 1 g.1).bind fun i =>
 (paper_pen__bytes_s1.run b.1.2.2.2.2.2.2.1 i.1).bind fun j =>
 Rt j.1
theorem top_eq (k : Nat) (Q : Ex->St->Option α) (a : D0) (b : D1) :
  (den C k) (cB Tryz.f56) (endQ C Q) (St0 a b) = top (fun c=>Q .ret (St1 c)) a b:=plainly Js (by kernel_rfl)
def run (a : D0) (b : D1) : Option D2:=top (α:=List Int × Unit) (fun c=>some (c,())) a b
def Sp : Spec:=⟨[.ref 0 0 [],hD T4],[(0,hC T7 (.agg T7 [hF T6]) false)],T10,.tup [],[(0,hC T7 (.agg T7 [.app 34 0]) false),(34,hB T6 0 true)],T7,fun x=>run x.1 x.2.1⟩
set_option maxRecDepth 100000 in
theorem sok : SOk Tryz.prog 56 Sp.h:=by
 refine sok_of_den (C:=C) (ctx_ok_sh (by kernel_rfl) (by kernel_rfl) (by kernel_rfl) (by kernel_rfl) trivial ⟨⟨⟨paper_pen__number_s1.sok,⟨paper_pen__number_s2.sok,trivial⟩⟩,paper_pen__number_s1.named⟩,⟨⟨⟨paper_pen__bytes_s0.sok,⟨paper_pen__bytes_s1.sok,trivial⟩⟩,paper_pen__bytes_s0.named⟩,trivial⟩⟩) (by kernel_rfl) Tryz.func56 (c:=cB Tryz.f56) (by kernel_rfl) (by kernel_rfl) Sp fuel (by kernel_rfl) (by kernel_rfl) ?_
 intro x r h
 rw [<- h]
 have h1 : Sp.start x Tryz.f56.ntmps = (St0 x.1 x.2.1):=by kernel_rfl
 rw [h1]
 refine (top_eq fuel (finS C Tryz.f56.results.toList Sp.read) x.1 x.2.1).trans ?_
 kernel_rfl
theorem named : Named Tryz.prog 56:=named_of Tryz.func56 (by kernel_rfl) (by kernel_rfl)
end Go.Bx.paper_pen__body_s0
namespace Go.Bx.basculeref_bodyText
def Js : List Nat:=[]
def C : Ctx:=⟨[(3,T1),(9,.str),(22,T37),(29,T3),(35,T12),(37,T4)],[],[],fnL [(38,basculeref_big.F)],noSh,[],invL [],[(2,[2])],[],[],0,0⟩
def St0 (a : D0) : St:=stL 35 [(0,.data T4 a)] []
def St1 (a : D1) : St:=stL 35 [(2,.data .str a)] []
def top (Rt : D1->Option α) (a : D0) : Option α :=
 (basculeref_big.run (IntKind.u64.wrap a.1) 8).bind fun b =>
 (basculeref_big.run (IntKind.u64.wrap a.2.1) 4).bind fun c =>
 if Nat.ble (b.length + c.length) 9223372036854775807 = true then
  (basculeref_big.run (IntKind.u64.wrap a.2.2.1) 2).bind fun d =>
  if Nat.ble ((b ++ c).length + d.length) 9223372036854775807 = true then
   if Nat.ble (((b ++ c) ++ d).length + (cutL a.2.2.2.1 0 32).length) 9223372036854775807 = true then
    (basculeref_big.run (IntKind.u64.wrap a.2.2.2.2.1) 8).bind fun e =>
    if Nat.ble ((((b ++ c) ++ d) ++ (cutL a.2.2.2.1 0 32)).length + e.length) 9223372036854775807 = true then
     (basculeref_big.run (IntKind.u64.wrap a.2.2.2.2.2.1) 1).bind fun f =>
     if Nat.ble (((((b ++ c) ++ d) ++ (cutL a.2.2.2.1 0 32)) ++ e).length + f.length) 9223372036854775807 = true then
      if Nat.ble ((((((b ++ c) ++ d) ++ (cutL a.2.2.2.1 0 32)) ++ e) ++ f).length + a.2.2.2.2.2.2.1.length) 9223372036854775807 = true then
       Rt ((((((b ++ c) ++ d) ++ (cutL a.2.2.2.1 0 32)) ++ e) ++ f) ++ a.2.2.2.2.2.2.1)
      else none
     else none
    else none
   else none
  else none
 else none
theorem top_eq (k : Nat) (Q : Ex->St->Option α) (a : D0) :
  (den C k) (cB Tryz.f14) Q (St0 a) = top (fun b=>Q .ret (St1 b)) a:=plainly Js (by kernel_rfl)
def run (a : D0) : Option D1:=top (α:=List Int) (fun b=>some b) a
def F : Fn:=⟨T5,.str,false,fun x=>run x.1⟩
theorem con : Con Tryz.prog 14 F /\ Named Tryz.prog 14 :=
 con_of2 (C:=C) (ctx_ok (by kernel_rfl) (by kernel_rfl) (by kernel_rfl) (by kernel_rfl) ⟨.inl basculeref_big.con,trivial⟩) (by kernel_rfl) Tryz.func14 (by kernel_rfl) (c:=cB Tryz.f14) (by kernel_rfl) (by kernel_rfl) F (fun x=>by simp [F,spread,Tryz.ntmps14]) (fun x=>(St0 x.1)) (fun x=>by kernel_rfl) fun x=>(top_eq fuel _ x.1).trans (by kernel_rfl)
end Go.Bx.basculeref_bodyText
namespace Go.Bx.paper_Bytes
def Js : List Nat:=[]
def C : Ctx:=⟨[(29,T3),(37,T4),(38,T1),(90,T7)],[],[],fnL [(55,paper_Check.F)],shL [(56,[.one paper_pen__body_s0.Sp])],[(15,21)],invL [],[(2,[2,3])],[(2,[.dat true 2 []])],[],0,0⟩
def St0 (a : D0) : St:=stL 20 [(0,.data T4 a)] []
def St1 (a : D1) (b : Int) : St:=stL 20 [(2,.data T3 a),(3,.data T1 b)] []
def top (Rt : D1->Int->Option α) (a : D0) : Option α :=
 (paper_Check.run a).bind fun b =>
 if (b != 0) = true then
  Rt [] b
 else
  (paper_pen__body_s0.run a []).bind fun c =>
  Rt c.1 0
theorem top_eq (k : Nat) (Q : Ex->St->Option α) (a : D0) :
  (den C k) (cB Tryz.f26) Q (St0 a) = top (fun b c=>Q .ret (St1 b c)) a:=plainly Js (by kernel_rfl)
def run (a : D0) : Option D4:=top (α:=List Int × Int × Unit) (fun b c=>some (b,c,())) a
def F : Fn:=⟨T5,T13,true,fun x=>run x.1⟩
theorem con : Con Tryz.prog 26 F /\ Named Tryz.prog 26 :=
 con_of2 (C:=C) (ctx_ok_sh (by kernel_rfl) (by kernel_rfl) (by kernel_rfl) (by kernel_rfl) ⟨.inl paper_Check.con,trivial⟩ ⟨⟨⟨paper_pen__body_s0.sok,trivial⟩,paper_pen__body_s0.named⟩,trivial⟩) (by kernel_rfl) Tryz.func26 (by kernel_rfl) (c:=cB Tryz.f26) (by kernel_rfl) (by kernel_rfl) F (fun x=>by simp [F,spread,Tryz.ntmps26]) (fun x=>(St0 x.1)) (fun x=>by kernel_rfl) fun x=>(top_eq fuel _ x.1).trans (by kernel_rfl)
end Go.Bx.paper_Bytes
namespace Go.Bx.log_Append
def Js : List Nat:=[]
def C : Ctx:=⟨[(3,T1),(5,T6),(29,T3),(31,T11),(38,T1)],[],[],fnL [(27,log_tail.F)],noSh,[],invL [],[(2,[4,5])],[(2,[.dat false 4 [0],.dat false 4 [1]])],[44,52,56],0,0⟩
def St0 (a : D23) (b : D1) : St:=stL 60 [(0,.data T11 a),(1,.data T3 b)] []
def St1 (a : Int) (b : D23) : St:=stL 60 [(4,.ref 4 0 []),(5,.data T1 a)] [(4,.cell T11 (.data T11 b) false)]
def top (Rt : Int->D23->Option α) (b : D23) (a : D1) : Option α :=
 if (cond (decide ((b.1.length : Int) > 9000)) true (decide ((b.2.1.length : Int) > 9000))) = true then
  Rt 12 ([],[],())
 else
  if (decide ((a.length : Int) > 200)) = true then
   Rt 1 ([],[],())
  else
   if (decide ((IntKind.i64.wrap ((IntKind.i64.wrap ((IntKind.i64.wrap ((b.1.length : Int) + (b.2.1.length : Int))) + (a.length : Int))) + 3)) > 9000)) = true then
    Rt 9 ([],[],())
   else
    if fitB (2 + a.length) 1 = true then
     (log_tail.run a).bind fun c =>
     if fitB (([(IntKind.u8.wrap (shrI .i64 (a.length : Int) 8)),(IntKind.u8.wrap (a.length : Int))] ++ a).length + 1) 1 = true then
      if fitB (0 + b.1.length) 1 = true then
       if fitB (0 + b.2.1.length) 1 = true then
        if fitB (b.2.1.length + (([(IntKind.u8.wrap (shrI .i64 (a.length : Int) 8)),(IntKind.u8.wrap (a.length : Int))] ++ a) ++ [c]).length) 1 = true then
         Rt 0 (b.1,(b.2.1 ++ (([(IntKind.u8.wrap (shrI .i64 (a.length : Int) 8)),(IntKind.u8.wrap (a.length : Int))] ++ a) ++ [c])),())
        else none
       else none
      else none
     else none
    else none
theorem top_eq (k : Nat) (Q : Ex->St->Option α) (a : D23) (b : D1) :
  (den C k) (cB Tryz.f9) Q (St0 a b) = top (fun c d=>Q .ret (St1 c d)) a b:=plainly Js (by kernel_rfl)
def run (a : D23) (b : D1) : Option D24:=top (α:=D23 × Int × Unit) (fun c d=>some (d,c,())) a b
def F : Fn:=⟨T53,T54,true,fun x=>run x.1 x.2.1⟩
theorem con : Con Tryz.prog 9 F /\ Named Tryz.prog 9 :=
 con_of2 (C:=C) (ctx_ok (by kernel_rfl) (by kernel_rfl) (by kernel_rfl) (by kernel_rfl) ⟨.inl log_tail.con,trivial⟩) (by kernel_rfl) Tryz.func9 (by kernel_rfl) (c:=cB Tryz.f9) (by kernel_rfl) (by kernel_rfl) F (fun x=>by simp [F,spread,Tryz.ntmps9]) (fun x=>(St0 x.1 x.2.1)) (fun x=>by kernel_rfl) fun x=>(top_eq fuel _ x.1 x.2.1).trans (by kernel_rfl)
end Go.Bx.log_Append
namespace Go.Bx.basculeref_LogAppended
def Js : List Nat:=[]
def C : Ctx:=⟨[(9,.str),(29,T3),(31,T11),(38,T1)],[],[],fnL [(39,basculeref_logText.F)],noSh,[],invL [],[(2,[4,5])],[(2,[.dat false 4 []])],[],0,0⟩
def St0 (a : D23) (b : D1) : St:=stL 41 [(0,.data T11 a),(1,.data T3 b)] []
def St1 (a : Int) (b : D23) : St:=stL 41 [(4,.ref 4 0 []),(5,.data T1 a)] [(4,.cell T11 (.data T11 b) false)]
def top (Rt : Int->D23->Option α) (a : D23) (c : D1) : Option α :=
 if (cond (decide ((a.1.length : Int) > 9000)) true (decide ((a.2.1.length : Int) > 9000))) = true then
  Rt 12 ([],[],())
 else
  if (decide ((c.length : Int) > 200)) = true then
   Rt 1 ([],[],())
  else
   (basculeref_logText.run c).bind fun b =>
   if Nat.ble (a.2.1.length + b.length) 9223372036854775807 = true then
    if (decide ((IntKind.i64.wrap ((a.1.length : Int) + ((a.2.1 ++ b).length : Int))) > 9000)) = true then
     Rt 9 ([],[],())
    else
     Rt 0 (a.1,(a.2.1 ++ b),())
   else none
theorem top_eq (k : Nat) (Q : Ex->St->Option α) (a : D23) (b : D1) :
  (den C k) (cB Tryz.f15) Q (St0 a b) = top (fun c d=>Q .ret (St1 c d)) a b:=plainly Js (by kernel_rfl)
def run (a : D23) (b : D1) : Option D24:=top (α:=D23 × Int × Unit) (fun c d=>some (d,c,())) a b
def F : Fn:=⟨T53,T54,true,fun x=>run x.1 x.2.1⟩
theorem con : Con Tryz.prog 15 F /\ Named Tryz.prog 15 :=
 con_of2 (C:=C) (ctx_ok (by kernel_rfl) (by kernel_rfl) (by kernel_rfl) (by kernel_rfl) ⟨.inl basculeref_logText.con,trivial⟩) (by kernel_rfl) Tryz.func15 (by kernel_rfl) (c:=cB Tryz.f15) (by kernel_rfl) (by kernel_rfl) F (fun x=>by simp [F,spread,Tryz.ntmps15]) (fun x=>(St0 x.1 x.2.1)) (fun x=>by kernel_rfl) fun x=>(top_eq fuel _ x.1 x.2.1).trans (by kernel_rfl)
end Go.Bx.basculeref_LogAppended
namespace Go.Bx.log_Sync
def Js : List Nat:=[]
def C : Ctx:=⟨[(29,T3),(31,T11)],[],[],fnL [],noSh,[],invL [],[(2,[2])],[],[6],0,0⟩
def St0 (a : D23) : St:=stL 11 [(0,.data T11 a)] []
def St1 (a : D1) : St:=stL 11 [(2,.ref 2 0 [])] [(2,.cell T11 (.agg T11 [.app 6 0,.full T6 []]) false),(6,.buf T6 a 0 true)]
def top (Rt : D1->Option α) (a : D23) : Option α :=
 if fitB (0 + a.1.length) 1 = true then
  if fitB (a.1.length + a.2.1.length) 1 = true then
   Rt (a.1 ++ a.2.1)
  else none
 else none
theorem top_eq (k : Nat) (Q : Ex->St->Option α) (a : D23) :
  (den C k) (cB Tryz.f54) Q (St0 a) = top (fun b=>Q .ret (St1 b)) a:=plainly Js (by kernel_rfl)
def run (a : D23) : Option D23:=top (α:=List Int × List Int × Unit) (fun b=>some (b,[],())) a
def F : Fn:=⟨T55,T11,false,fun x=>run x.1⟩
theorem con : Con Tryz.prog 54 F /\ Named Tryz.prog 54 :=
 con_of2 (C:=C) (ctx_ok (by kernel_rfl) (by kernel_rfl) (by kernel_rfl) (by kernel_rfl) trivial) (by kernel_rfl) Tryz.func54 (by kernel_rfl) (c:=cB Tryz.f54) (by kernel_rfl) (by kernel_rfl) F (fun x=>by simp [F,spread,Tryz.ntmps54]) (fun x=>(St0 x.1)) (fun x=>by kernel_rfl) fun x=>(top_eq fuel _ x.1).trans (by kernel_rfl)
end Go.Bx.log_Sync
namespace Go.Bx.guard_kept
def Js : List Nat:=[]
def C : Ctx:=⟨[(29,T3),(31,T11),(34,T15),(38,T1)],[],[],fnL [(9,log_Append.F),(54,log_Sync.F)],noSh,[],invL [],[(2,[4,5])],[],[],0,0⟩
def St0 (a : D5) (b : D1) : St:=stL 23 [(0,.data T15 a),(1,.data T3 b)] []
def St1 (a : Int) (b : D5) : St:=stL 23 [(4,.ref 4 0 []),(5,.data T1 a)] [(4,.cell T15 (.data T15 b) false)]
def top (Rt : Int->D5->Option α) (a : D5) (c : D1) : Option α :=
 (log_Append.run a.2.2.2.1 c).bind fun b =>
 if (b.2.1 != 0) = true then
  Rt b.2.1 a
 else
  (log_Sync.run b.1).bind fun d =>
  Rt 0 (a.1,a.2.1,a.2.2.1,d,a.2.2.2.2)
theorem top_eq (k : Nat) (Q : Ex->St->Option α) (a : D5) (b : D1) :
  (den C k) (cB Tryz.f25) Q (St0 a b) = top (fun c d=>Q .ret (St1 c d)) a b:=plainly Js (by kernel_rfl)
def run (a : D5) (b : D1) : Option D25:=top (α:=D5 × Int × Unit) (fun c d=>some (d,c,())) a b
def F : Fn:=⟨T56,T17,true,fun x=>run x.1 x.2.1⟩
theorem con : Con Tryz.prog 25 F /\ Named Tryz.prog 25 :=
 con_of2 (C:=C) (ctx_ok (by kernel_rfl) (by kernel_rfl) (by kernel_rfl) (by kernel_rfl) ⟨.inl log_Append.con,⟨.inl log_Sync.con,trivial⟩⟩) (by kernel_rfl) Tryz.func25 (by kernel_rfl) (c:=cB Tryz.f25) (by kernel_rfl) (by kernel_rfl) F (fun x=>by simp [F,spread,Tryz.ntmps25]) (fun x=>(St0 x.1 x.2.1)) (fun x=>by kernel_rfl) fun x=>(top_eq fuel _ x.1 x.2.1).trans (by kernel_rfl)
end Go.Bx.guard_kept
namespace Go.Bx.guard_meeting_s0
def Js : List Nat:=[]
def C : Ctx:=⟨[(29,T3),(37,T4)],[],[],fnL [(26,paper_Bytes.F)],noSh,[],invL [],[(2,[2,3])],[],[13],0,0⟩
def St0 (a : D0) : St:=stL 15 [(0,.data T4 a)] []
def St1 (a : Int) (b : D1) : St:=stL 15 [(2,.app 13 0),(3,.data T1 a)] [(13,.buf T6 b 0 true)]
def top (Rt : Int->D1->Option α) (b : D0) : Option α :=
 (paper_Bytes.run b).bind fun a =>
 if fitB (1 + a.1.length) 1 = true then
  Rt a.2.1 ([1] ++ a.1)
 else none
theorem top_eq (k : Nat) (Q : Ex->St->Option α) (a : D0) :
  (den C k) (cB Tryz.f8) (endQ C Q) (St0 a) = top (fun b c=>Q .ret (St1 b c)) a:=plainly Js (by kernel_rfl)
def run (a : D0) : Option D26:=top (α:=Int × List Int × Unit) (fun b c=>some (b,c,())) a
def Sp : Spec:=⟨[hD T4],[],T5,.tup [.app 13 0,hD T1],[(13,hB T6 0 true)],T57,fun x=>run x.1⟩
set_option maxRecDepth 100000 in
theorem sok : SOk Tryz.prog 8 Sp.h:=by
 refine sok_of_den (C:=C) (ctx_ok (by kernel_rfl) (by kernel_rfl) (by kernel_rfl) (by kernel_rfl) ⟨.inl paper_Bytes.con,trivial⟩) (by kernel_rfl) Tryz.func8 (c:=cB Tryz.f8) (by kernel_rfl) (by kernel_rfl) Sp fuel (by kernel_rfl) (by kernel_rfl) ?_
 intro x r h
 rw [<- h]
 have h1 : Sp.start x Tryz.f8.ntmps = (St0 x.1):=by kernel_rfl
 rw [h1]
 refine (top_eq fuel (finS C Tryz.f8.results.toList Sp.read) x.1).trans ?_
 kernel_rfl
theorem named : Named Tryz.prog 8:=named_of Tryz.func8 (by kernel_rfl) (by kernel_rfl)
end Go.Bx.guard_meeting_s0
namespace Go.Bx.guard_met_s1
def Js : List Nat:=[9]
def C : Ctx:=⟨[(3,T1),(28,T21),(32,T14),(34,T15),(37,T4)],[],[],fnL [(22,guard_Id.F),(49,gate_Offer.F),(50,guard_Worth.F),(51,guard_body.F)],noSh,[],invL [],[(2,[4,5]),(24,[2,4])],[(2,[.dat false 12 [2]])],[],8,0⟩
def St0 (a b c : D1) (d : Int) (e f : D1) (g : Int) (i : D0) (j k : D9) (l m : D9) (n o : D1) (p q : D7) : St:=stL 44 [(0,.agg T15 [.data T30 a,.agg T21 [.data T19 b,.data T19 c,.data T1 d,.app 0 0,.app 1 0],.agg T21 [.data T19 e,.data T19 f,.data T1 g,.app 2 0,.app 3 0],.agg T11 [.app 4 0,.app 5 0],.app 6 0,.app 7 0]),(1,.data T4 i)] [(0,.buf T22 j 0 true),(1,.buf T22 k 0 true),(2,.buf T22 l 0 true),(3,.buf T22 m 0 true),(4,.buf T6 n 0 true),(5,.buf T6 o 0 true),(6,.buf T4 p 0 true),(7,.buf T4 q 0 true)]
def St1 (a : Int) (b c : D9) (d e : D9) (f g : D1) (i j : D7) (k l m : D1) (n : Int) (o : D8) : St:=stL 44 [(4,.ref 12 0 []),(5,.data T1 a)] [(0,.buf T22 b 1 true),(1,.buf T22 c 1 true),(2,.buf T22 d 1 true),(3,.buf T22 e 1 true),(4,.buf T6 f 1 true),(5,.buf T6 g 1 true),(6,.buf T4 i 1 true),(7,.buf T4 j 1 true),(12,.cell T15 (.agg T15 [.data T30 k,.agg T21 [.data T19 l,.data T19 m,.data T1 n,.app 0 1,.app 1 1],.data T21 o,.agg T11 [.app 4 1,.app 5 1],.app 6 1,.app 7 1]) false)]
def St2 (a b : D9) (c d : D9) (e f : D1) (g i : D7) (j k l : D1) (m : Int) (n : D8) (o p q : D1) (r : Int) (s t : D1) (u : Int) : St:=stL 44 [(2,.ref 10 0 []),(4,.ref 12 0 [])] [(0,.buf T22 a 1 true),(1,.buf T22 b 1 true),(2,.buf T22 c 1 true),(3,.buf T22 d 1 true),(4,.buf T6 e 1 true),(5,.buf T6 f 1 true),(6,.buf T4 g 1 true),(7,.buf T4 i 1 true),(10,.cell T15 (.agg T15 [.data T30 j,.agg T21 [.data T19 k,.data T19 l,.data T1 m,.app 0 1,.app 1 1],.data T21 n,.agg T11 [.app 4 1,.app 5 1],.app 6 1,.app 7 1]) false),(12,.cell T15 (.agg T15 [.data T30 o,.agg T21 [.data T19 p,.data T19 q,.data T1 r,.full T22 [],.full T22 []],.agg T21 [.data T19 s,.data T19 t,.data T1 u,.full T22 [],.full T22 []],.agg T11 [.full T6 [],.full T6 []],.full T4 [],.full T4 []]) false)]
noncomputable def cd0 : Code:=cR (cR (cR (cR (cR (cB Tryz.f23)))))
def j0 (Rt : Int->D9->D9->D9->D9->D1->D1->D7->D7->D1->D1->D1->Int->D8->Option α) (a b : D9) (c d : D9) (e f : D1) (g i : D7) (j k l : D1) (m : Int) (n : D8) (o p q : D1) (r : Int) (s t : D1) (u : Int) : Option α :=
 Rt 0 a b c d e f g i j k l m n
theorem j0_eq (k : Nat) (Q : Ex->St->Option α) (a b : D9) (c d : D9) (e f : D1) (g i : D7) (o p q : D1) (r : Int) (s : D8) (j l m : D1) (n : Int) (t u : D1) (v : Int) :
  (den C k) cd0 (endQ C Q) (St2 a b c d e f g i o p q r s j l m n t u v) = j0 (fun w a b c d e f g i j l m n x=>Q .ret (St1 w a b c d e f g i j l m n x)) a b c d e f g i o p q r s j l m n t u v:=plainly Js (by kernel_rfl)
def top (Rt : Int->D9->D9->D9->D9->D1->D1->D7->D7->D1->D1->D1->Int->D8->Option α) (g i j : D1) (k : Int) (p q : D1) (r : Int) (a : D0) (l m : D9) (b c : D9) (n o : D1) (e f : D7) : Option α :=
 (guard_Id.run a).bind fun s =>
 (guard_Worth.run a).bind fun t =>
 (gate_Offer.run (p,q,r,b,c,()) s t a.2.2.1).bind fun d =>
 if (d.2.2.1 != 0) = true then
  Rt d.2.2.1 l m b c n o e f g i j k (p,q,r,b,c,())
 else
  if d.2.1 = true then
   (guard_body.run a).bind fun u =>
   if fitB (f.length + 1) 96 = true then
    j0 Rt l m b c n o e (f ++ [u]) g i j k d.1 [0,0,0,0] [0,0,0] [0,0,0] 0 [0,0,0] [0,0,0] 0
   else none
  else
   (guard_body.run a).bind fun v =>
   if fitB (e.length + 1) 96 = true then
    j0 Rt l m b c n o (e ++ [v]) f g i j k d.1 [0,0,0,0] [0,0,0] [0,0,0] 0 [0,0,0] [0,0,0] 0
   else none
theorem top_eq (k : Nat) (Q : Ex->St->Option α) (l m n : D1) (o : Int) (p q : D1) (r : Int) (e : D0) (f g : D9) (a b : D9) (i j : D1) (c d : D7) :
  (den C k) (cB Tryz.f23) (endQ C Q) (St0 l m n o p q r e f g a b i j c d) = top (fun t f g a b i j c d u v w x y=>Q .ret (St1 t f g a b i j c d u v w x y)) l m n o p q r e f g a b i j c d:=by
 have h : ∀ (D L : DT α),denJ D L Js C (cB Tryz.f23) (endQ C Q) (St0 l m n o p q r e f g a b i j c d) =
    (guard_Id.run e).bind fun z =>
    (guard_Worth.run e).bind fun A =>
    (gate_Offer.run (p,q,r,a,b,()) z A e.2.2.1).bind fun s =>
    if (s.2.2.1 != 0) = true then
     Q .ret (St1 s.2.2.1 f g a b i j c d l m n o (p,q,r,a,b,()))
    else
     if s.2.1 = true then
      (guard_body.run e).bind fun B =>
      if fitB (d.length + 1) 96 = true then
       D cd0 (endQ C Q) (St2 f g a b i j c (d ++ [B]) l m n o s.1 [0,0,0,0] [0,0,0] [0,0,0] 0 [0,0,0] [0,0,0] 0)
      else none
     else
      (guard_body.run e).bind fun E =>
      if fitB (c.length + 1) 96 = true then
       D cd0 (endQ C Q) (St2 f g a b i j (c ++ [E]) d l m n o s.1 [0,0,0,0] [0,0,0] [0,0,0] 0 [0,0,0] [0,0,0] 0)
      else none:=by
  intro D L; kernel_rfl
 have h2:=via (k:=k) h
 refine h2.trans ?_
 simp only [j0_eq]
 first | rfl | kernel_rfl
def run (o p q : D1) (r : Int) (s t : D1) (u : Int) (v : D0) (a b : D9) (c d : D9) (e f : D1) (g i : D7) : Option D30:=top (α:=List Int × List Int × List Int × Int × D8 × Int × D9 × D9 × D9 × D9 × List Int × List Int × D7 × D7 × List Int × List Int × List Int × Int × D8 × Unit) (fun w a b c d e f g i j k l m n=>some (j,k,l,m,n,w,a,b,c,d,e,f,g,i,j,k,l,m,n,())) o p q r s t u v a b c d e f g i
def Sp : Spec:=⟨[.agg T15 [hD T30,.agg T21 [hD T19,hD T19,hD T1,.app 0 0,.app 1 0],.agg T21 [hD T19,hD T19,hD T1,.app 2 0,.app 3 0],.agg T11 [.app 4 0,.app 5 0],.app 6 0,.app 7 0],hD T4],[(0,hB T22 0 true),(1,hB T22 0 true),(2,hB T22 0 true),(3,hB T22 0 true),(4,hB T6 0 true),(5,hB T6 0 true),(6,hB T4 0 true),(7,hB T4 0 true)],T59,.tup [.agg T15 [hD T30,.agg T21 [hD T19,hD T19,hD T1,.app 0 1,.app 1 1],hD T21,.agg T11 [.app 4 1,.app 5 1],.app 6 1,.app 7 1],hD T1],[(0,hB T22 1 true),(1,hB T22 1 true),(2,hB T22 1 true),(3,hB T22 1 true),(4,hB T6 1 true),(5,hB T6 1 true),(6,hB T4 1 true),(7,hB T4 1 true),(12,hC T15 (.agg T15 [hD T30,.agg T21 [hD T19,hD T19,hD T1,.app 0 1,.app 1 1],hD T21,.agg T11 [.app 4 1,.app 5 1],.app 6 1,.app 7 1]) false)],T60,fun x=>run x.1 x.2.1 x.2.2.1 x.2.2.2.1 x.2.2.2.2.1 x.2.2.2.2.2.1 x.2.2.2.2.2.2.1 x.2.2.2.2.2.2.2.1 x.2.2.2.2.2.2.2.2.1 x.2.2.2.2.2.2.2.2.2.1 x.2.2.2.2.2.2.2.2.2.2.1 x.2.2.2.2.2.2.2.2.2.2.2.1 x.2.2.2.2.2.2.2.2.2.2.2.2.1 x.2.2.2.2.2.2.2.2.2.2.2.2.2.1 x.2.2.2.2.2.2.2.2.2.2.2.2.2.2.1 x.2.2.2.2.2.2.2.2.2.2.2.2.2.2.2.1⟩
set_option maxRecDepth 100000 in
theorem sok : SOk Tryz.prog 23 Sp.h:=by
 refine sok_of_den (C:=C) (ctx_ok (by kernel_rfl) (by kernel_rfl) (by kernel_rfl) (by kernel_rfl) ⟨.inl guard_Id.con,⟨.inl gate_Offer.con,⟨.inl guard_Worth.con,⟨.inl guard_body.con,trivial⟩⟩⟩⟩) (by kernel_rfl) Tryz.func23 (c:=cB Tryz.f23) (by kernel_rfl) (by kernel_rfl) Sp fuel (by kernel_rfl) (by kernel_rfl) ?_
 intro x r h
 rw [<- h]
 have h1 : Sp.start x Tryz.f23.ntmps = (St0 x.1 x.2.1 x.2.2.1 x.2.2.2.1 x.2.2.2.2.1 x.2.2.2.2.2.1 x.2.2.2.2.2.2.1 x.2.2.2.2.2.2.2.1 x.2.2.2.2.2.2.2.2.1 x.2.2.2.2.2.2.2.2.2.1 x.2.2.2.2.2.2.2.2.2.2.1 x.2.2.2.2.2.2.2.2.2.2.2.1 x.2.2.2.2.2.2.2.2.2.2.2.2.1 x.2.2.2.2.2.2.2.2.2.2.2.2.2.1 x.2.2.2.2.2.2.2.2.2.2.2.2.2.2.1 x.2.2.2.2.2.2.2.2.2.2.2.2.2.2.2.1):=by kernel_rfl
 rw [h1]
 refine (top_eq fuel (finS C Tryz.f23.results.toList Sp.read) x.1 x.2.1 x.2.2.1 x.2.2.2.1 x.2.2.2.2.1 x.2.2.2.2.2.1 x.2.2.2.2.2.2.1 x.2.2.2.2.2.2.2.1 x.2.2.2.2.2.2.2.2.1 x.2.2.2.2.2.2.2.2.2.1 x.2.2.2.2.2.2.2.2.2.2.1 x.2.2.2.2.2.2.2.2.2.2.2.1 x.2.2.2.2.2.2.2.2.2.2.2.2.1 x.2.2.2.2.2.2.2.2.2.2.2.2.2.1 x.2.2.2.2.2.2.2.2.2.2.2.2.2.2.1 x.2.2.2.2.2.2.2.2.2.2.2.2.2.2.2.1).trans ?_
 kernel_rfl
theorem named : Named Tryz.prog 23:=named_of Tryz.func23 (by kernel_rfl) (by kernel_rfl)
end Go.Bx.guard_met_s1
namespace Go.Bx.guard_meet
def Js : List Nat:=[]
def C : Ctx:=⟨[(3,T1),(4,.bool),(34,T15),(37,T4)],[],[],fnL [(21,guard_knows.F),(22,guard_Id.F),(25,guard_kept.F)],shL [(8,[.one guard_meeting_s0.Sp]),(23,[.one guard_met_s1.Sp]),(24,[.one guard_fresh_s0.Sp])],[(11,54),(35,55),(37,64)],invL [],[(2,[4,5])],[],[],0,0⟩
def St0 (a : D5) (b : D0) : St:=stL 53 [(0,.data T15 a),(1,.data T4 b)] []
def St1 (a : Bool) (b : D5) : St:=stL 53 [(4,.ref 4 0 []),(5,.data .bool a)] [(4,.cell T15 (.data T15 b) false)]
def top (Rt : Bool->D5->Option α) (d : D5) (c : D0) : Option α :=
 (guard_meeting_s0.run c).bind fun e =>
 (if ((cond (cond (e.1 != 0) true (decide (c.2.2.1 >= 3))) true (decide (c.2.2.2.2.1 >= 256))) == false) = true then guard_Id.run c else some 0).bind fun g =>
 (if ((cond (cond (e.1 != 0) true (decide (c.2.2.1 >= 3))) true (decide (c.2.2.2.2.1 >= 256))) == false) = true then guard_knows.run d g else some false).bind fun i =>
 if (cond (cond (cond (e.1 != 0) true (decide (c.2.2.1 >= 3))) true (decide (c.2.2.2.2.1 >= 256))) true i) = true then
  Rt false d
 else
  (guard_fresh_s0.run d).bind fun a =>
  (guard_met_s1.run a.1 a.2.1 a.2.2.1 a.2.2.2.1 a.2.2.2.2.1 a.2.2.2.2.2.1 a.2.2.2.2.2.2.1 c a.2.2.2.2.2.2.2.2.2.2.2.2.2.2.2.2.1 a.2.2.2.2.2.2.2.2.2.2.2.2.2.2.2.2.2.1 a.2.2.2.2.2.2.2.2.2.2.2.2.2.2.2.2.2.2.1 a.2.2.2.2.2.2.2.2.2.2.2.2.2.2.2.2.2.2.2.1 a.2.2.2.2.2.2.2.2.2.2.2.2.2.2.1 a.2.2.2.2.2.2.2.2.2.2.2.2.2.2.2.1 a.2.2.2.2.2.2.2.2.2.2.2.2.2.2.2.2.2.2.2.2.1 a.2.2.2.2.2.2.2.2.2.2.2.2.2.2.2.2.2.2.2.2.2.1).bind fun b =>
  if (b.2.2.2.2.2.1 != 0) = true then
   Rt false d
  else
   (guard_kept.run (b.1,(b.2.1,b.2.2.1,b.2.2.2.1,b.2.2.2.2.2.2.1,b.2.2.2.2.2.2.2.1,()),b.2.2.2.2.1,(b.2.2.2.2.2.2.2.2.2.2.1,b.2.2.2.2.2.2.2.2.2.2.2.1,()),b.2.2.2.2.2.2.2.2.2.2.2.2.1,b.2.2.2.2.2.2.2.2.2.2.2.2.2.1,()) e.2.1).bind fun f =>
   if (f.2.1 != 0) = true then
    Rt false d
   else
    Rt true f.1
theorem top_eq (k : Nat) (Q : Ex->St->Option α) (a : D5) (b : D0) :
  (den C k) (cB Tryz.f7) Q (St0 a b) = top (fun c d=>Q .ret (St1 c d)) a b:=plainly Js (by kernel_rfl)
def run (a : D5) (b : D0) : Option D31:=top (α:=D5 × Bool × Unit) (fun c d=>some (d,c,())) a b
def F : Fn:=⟨T61,T62,true,fun x=>run x.1 x.2.1⟩
theorem con : Con Tryz.prog 7 F /\ Named Tryz.prog 7 :=
 con_of2 (C:=C) (ctx_ok_sh (by kernel_rfl) (by kernel_rfl) (by kernel_rfl) (by kernel_rfl) ⟨.inl guard_knows.con,⟨.inl guard_Id.con,⟨.inl guard_kept.con,trivial⟩⟩⟩ ⟨⟨⟨guard_meeting_s0.sok,trivial⟩,guard_meeting_s0.named⟩,⟨⟨⟨guard_met_s1.sok,trivial⟩,guard_met_s1.named⟩,⟨⟨⟨guard_fresh_s0.sok,trivial⟩,guard_fresh_s0.named⟩,trivial⟩⟩⟩) (by kernel_rfl) Tryz.func7 (by kernel_rfl) (c:=cB Tryz.f7) (by kernel_rfl) (by kernel_rfl) F (fun x=>by simp [F,spread,Tryz.ntmps7]) (fun x=>(St0 x.1 x.2.1)) (fun x=>by kernel_rfl) fun x=>(top_eq fuel _ x.1 x.2.1).trans (by kernel_rfl)
end Go.Bx.guard_meet
namespace Go.Bx.basculeref_LogSynced
def Js : List Nat:=[]
def C : Ctx:=⟨[(9,.str),(29,T3),(31,T11)],[],[],fnL [],noSh,[],invL [],[(2,[2])],[],[],0,0⟩
def St0 (a : D23) : St:=stL 12 [(0,.data T11 a)] []
def St1 (a : D1) : St:=stL 12 [(2,.ref 2 0 [])] [(2,.cell T11 (.agg T11 [.data T3 a,.full T6 []]) false)]
def top (Rt : D1->Option α) (a : D23) : Option α :=
 if Nat.ble (a.1.length + a.2.1.length) 9223372036854775807 = true then
  Rt (a.1 ++ a.2.1)
 else none
theorem top_eq (k : Nat) (Q : Ex->St->Option α) (a : D23) :
  (den C k) (cB Tryz.f37) Q (St0 a) = top (fun b=>Q .ret (St1 b)) a:=plainly Js (by kernel_rfl)
def run (a : D23) : Option D23:=top (α:=List Int × List Int × Unit) (fun b=>some (b,[],())) a
def F : Fn:=⟨T55,T11,false,fun x=>run x.1⟩
theorem con : Con Tryz.prog 37 F /\ Named Tryz.prog 37 :=
 con_of2 (C:=C) (ctx_ok (by kernel_rfl) (by kernel_rfl) (by kernel_rfl) (by kernel_rfl) trivial) (by kernel_rfl) Tryz.func37 (by kernel_rfl) (c:=cB Tryz.f37) (by kernel_rfl) (by kernel_rfl) F (fun x=>by simp [F,spread,Tryz.ntmps37]) (fun x=>(St0 x.1)) (fun x=>by kernel_rfl) fun x=>(top_eq fuel _ x.1).trans (by kernel_rfl)
end Go.Bx.basculeref_LogSynced
namespace Go.Bx.basculeref_logged
def Js : List Nat:=[]
def C : Ctx:=⟨[(4,.bool),(9,.str),(29,T3),(31,T11),(34,T15)],[],[],fnL [(15,basculeref_LogAppended.F),(37,basculeref_LogSynced.F)],noSh,[],invL [],[(2,[4,5])],[],[],0,0⟩
def St0 (a : D5) (b : D1) : St:=stL 23 [(0,.data T15 a),(1,.data .str b)] []
def St1 (a : Bool) (b : D5) : St:=stL 23 [(4,.ref 4 0 []),(5,.data .bool a)] [(4,.cell T15 (.data T15 b) false)]
def top (Rt : Bool->D5->Option α) (a : D5) (c : D1) : Option α :=
 (basculeref_LogAppended.run a.2.2.2.1 c).bind fun b =>
 if (b.2.1 != 0) = true then
  Rt false a
 else
  (basculeref_LogSynced.run b.1).bind fun d =>
  Rt true (a.1,a.2.1,a.2.2.1,d,a.2.2.2.2)
theorem top_eq (k : Nat) (Q : Ex->St->Option α) (a : D5) (b : D1) :
  (den C k) (cB Tryz.f13) Q (St0 a b) = top (fun c d=>Q .ret (St1 c d)) a b:=plainly Js (by kernel_rfl)
def run (a : D5) (b : D1) : Option D31:=top (α:=D5 × Bool × Unit) (fun c d=>some (d,c,())) a b
def F : Fn:=⟨T100,T62,true,fun x=>run x.1 x.2.1⟩
theorem con : Con Tryz.prog 13 F /\ Named Tryz.prog 13 :=
 con_of2 (C:=C) (ctx_ok (by kernel_rfl) (by kernel_rfl) (by kernel_rfl) (by kernel_rfl) ⟨.inl basculeref_LogAppended.con,⟨.inl basculeref_LogSynced.con,trivial⟩⟩) (by kernel_rfl) Tryz.func13 (by kernel_rfl) (c:=cB Tryz.f13) (by kernel_rfl) (by kernel_rfl) F (fun x=>by simp [F,spread,Tryz.ntmps13]) (fun x=>(St0 x.1 x.2.1)) (fun x=>by kernel_rfl) fun x=>(top_eq fuel _ x.1 x.2.1).trans (by kernel_rfl)
end Go.Bx.basculeref_logged
namespace Go.Bx.guard_meeting
def Js : List Nat:=[]
def C : Ctx:=⟨[(29,T3),(37,T4),(38,T1)],[],[],fnL [(26,paper_Bytes.F)],noSh,[],invL [],[(2,[2,3])],[],[13],0,0⟩
def St0 (a : D0) : St:=stL 15 [(0,.data T4 a)] []
def St1 (a : Int) (b : D1) : St:=stL 15 [(2,.app 13 0),(3,.data T1 a)] [(13,.buf T6 b 0 true)]
def top (Rt : Int->D1->Option α) (b : D0) : Option α :=
 (paper_Bytes.run b).bind fun a =>
 if fitB (1 + a.1.length) 1 = true then
  Rt a.2.1 ([1] ++ a.1)
 else none
theorem top_eq (k : Nat) (Q : Ex->St->Option α) (a : D0) :
  (den C k) (cB Tryz.f8) Q (St0 a) = top (fun b c=>Q .ret (St1 b c)) a:=plainly Js (by kernel_rfl)
def run (a : D0) : Option D4:=top (α:=List Int × Int × Unit) (fun b c=>some (c,b,())) a
def F : Fn:=⟨T5,T13,true,fun x=>run x.1⟩
theorem con : Con Tryz.prog 8 F /\ Named Tryz.prog 8 :=
 con_of2 (C:=C) (ctx_ok (by kernel_rfl) (by kernel_rfl) (by kernel_rfl) (by kernel_rfl) ⟨.inl paper_Bytes.con,trivial⟩) (by kernel_rfl) Tryz.func8 (by kernel_rfl) (c:=cB Tryz.f8) (by kernel_rfl) (by kernel_rfl) F (fun x=>by simp [F,spread,Tryz.ntmps8]) (fun x=>(St0 x.1)) (fun x=>by kernel_rfl) fun x=>(top_eq fuel _ x.1).trans (by kernel_rfl)
end Go.Bx.guard_meeting
namespace Go.Bx.log_Crash
def Js : List Nat:=[]
def C : Ctx:=⟨[(3,T1),(29,T3),(31,T11),(38,T1)],[],[],fnL [],noSh,[],invL [],[(2,[4,5])],[(2,[.dat false 4 [0]])],[19],0,0⟩
def St0 (a : D23) (b : Int) : St:=stL 26 [(0,.data T11 a),(1,.data T1 b)] []
def St1 (a : Int) (b : D1) : St:=stL 26 [(4,.ref 4 0 []),(5,.data T1 a)] [(4,.cell T11 (.agg T11 [.data T3 b,.full T6 []]) false)]
def top (Rt : Int->D1->Option α) (a : D23) (b : Int) : Option α :=
 if (cond (decide (b < 0)) true (decide (b > (a.2.1.length : Int)))) = true then
  Rt 6 []
 else
  if fitB (0 + a.1.length) 1 = true then
   if 0 <= (0 : Int) /\ (0 : Int) <= b /\ b <= (a.2.1.length : Int) then
    if fitB (a.1.length + (cutL a.2.1 0 b).length) 1 = true then
     Rt 0 (a.1 ++ (cutL a.2.1 0 b))
    else none
   else none
  else none
theorem top_eq (k : Nat) (Q : Ex->St->Option α) (a : D23) (b : Int) :
  (den C k) (cB Tryz.f10) Q (St0 a b) = top (fun c d=>Q .ret (St1 c d)) a b:=plainly Js (by kernel_rfl)
def run (a : D23) (b : Int) : Option D24:=top (α:=D23 × Int × Unit) (fun c d=>some ((d,[],()),c,())) a b
def F : Fn:=⟨T54,T54,true,fun x=>run x.1 x.2.1⟩
theorem con : Con Tryz.prog 10 F /\ Named Tryz.prog 10 :=
 con_of2 (C:=C) (ctx_ok (by kernel_rfl) (by kernel_rfl) (by kernel_rfl) (by kernel_rfl) trivial) (by kernel_rfl) Tryz.func10 (by kernel_rfl) (c:=cB Tryz.f10) (by kernel_rfl) (by kernel_rfl) F (fun x=>by simp [F,spread,Tryz.ntmps10]) (fun x=>(St0 x.1 x.2.1)) (fun x=>by kernel_rfl) fun x=>(top_eq fuel _ x.1 x.2.1).trans (by kernel_rfl)
end Go.Bx.log_Crash
namespace Go.Bx.guard_Fall
def Js : List Nat:=[7]
def C : Ctx:=⟨[(3,T1),(24,T30),(28,T21),(29,T3),(31,T11),(34,T15),(37,T4),(38,T1)],[],[],fnL [(7,guard_meet.F),(8,guard_meeting.F),(9,log_Append.F),(10,log_Crash.F),(11,guard_Again.F)],noSh,[],invL [],[(2,[6,7]),(18,[2,3,6,8])],[(2,[.dat false 6 []])],[],0,0⟩
def St0 (a : D5) (b : D0) (c : Int) : St:=stL 62 [(0,.data T15 a),(1,.data T4 b),(2,.data T1 c)] []
def St1 (a : Int) (b : D5) (c d e : D1) (f : Int) (g i : D1) (j : Int) (k : D23) : St:=stL 62 [(2,.data T1 a),(3,.ref 3 0 []),(6,.ref 6 0 []),(8,.ref 8 0 [])] [(3,.cell T15 (.data T15 b) false),(6,.cell T15 (.agg T15 [.data T30 c,.agg T21 [.data T19 d,.data T19 e,.data T1 f,.full T22 [],.full T22 []],.agg T21 [.data T19 g,.data T19 i,.data T1 j,.full T22 [],.full T22 []],.agg T11 [.full T6 [],.full T6 []],.full T4 [],.full T4 []]) false),(8,.cell T11 (.data T11 k) false)]
noncomputable def cd0 : Code:=cR (cR (cR (cB Tryz.f4)))
def St2 (a : Int) (b : D5) : St:=stL 62 [(6,.ref 6 0 []),(7,.data T1 a)] [(6,.cell T15 (.data T15 b) false)]
def j0 (Rt : Int->D5->Option α) (a : Int) (d : D5) (f g i : D1) (j : Int) (k l : D1) (m : Int) (b : D23) : Option α :=
 (log_Crash.run b (if (b.2.1.length : Int) < (if 0 > a then 0 else a) then (b.2.1.length : Int) else (if 0 > a then 0 else a))).bind fun c =>
 if (c.2.1 != 0) = true then
  Rt c.2.1 ([0,0,0,0],([0,0,0],[0,0,0],0,[],[],()),([0,0,0],[0,0,0],0,[],[],()),([],[],()),[],[],())
 else
  (guard_Again.run d.1 d.2.1 c.1).bind fun e =>
  Rt e.2.1 e.1
theorem j0_eq (k : Nat) (Q : Ex->St->Option α) (a : Int) (b : D5) (c d e : D1) (f : Int) (g i : D1) (j : Int) (l : D23) :
  (den C k) cd0 Q (St1 a b c d e f g i j l) = j0 (fun m n=>Q .ret (St2 m n)) a b c d e f g i j l:=plainly Js (by kernel_rfl)
def top (Rt : Int->D5->Option α) (a : D5) (b : D0) (c : Int) : Option α :=
 (guard_meet.run a b).bind fun d =>
 if d.2.1 = true then
  (guard_meeting.run b).bind fun e =>
  (log_Append.run (a.2.2.2.1.1,a.2.2.2.1.2.1,()) e.1).bind fun f =>
  j0 Rt c a [0,0,0,0] [0,0,0] [0,0,0] 0 [0,0,0] [0,0,0] 0 f.1
 else
  j0 Rt c a [0,0,0,0] [0,0,0] [0,0,0] 0 [0,0,0] [0,0,0] 0 (a.2.2.2.1.1,a.2.2.2.1.2.1,())
theorem top_eq (k : Nat) (Q : Ex->St->Option α) (a : D5) (b : D0) (c : Int) :
  (den C k) (cB Tryz.f4) Q (St0 a b c) = top (fun d e=>Q .ret (St2 d e)) a b c:=by
 have h : ∀ (D L : DT α),denJ D L Js C (cB Tryz.f4) Q (St0 a b c) =
    (guard_meet.run a b).bind fun f =>
    if f.2.1 = true then
     (guard_meeting.run b).bind fun g =>
     (log_Append.run (a.2.2.2.1.1,a.2.2.2.1.2.1,()) g.1).bind fun i =>
     D cd0 Q (St1 c a [0,0,0,0] [0,0,0] [0,0,0] 0 [0,0,0] [0,0,0] 0 i.1)
    else
     D cd0 Q (St1 c a [0,0,0,0] [0,0,0] [0,0,0] 0 [0,0,0] [0,0,0] 0 (a.2.2.2.1.1,a.2.2.2.1.2.1,())):=by
  intro D L; kernel_rfl
 have h2:=via (k:=k) h
 refine h2.trans ?_
 simp only [j0_eq]
 first | rfl | kernel_rfl
def run (a : D5) (b : D0) (c : Int) : Option D25:=top (α:=D5 × Int × Unit) (fun d e=>some (e,d,())) a b c
def F : Fn:=⟨T90,T17,true,fun x=>run x.1 x.2.1 x.2.2.1⟩
theorem con : Con Tryz.prog 4 F /\ Named Tryz.prog 4 :=
 con_of2 (C:=C) (ctx_ok (by kernel_rfl) (by kernel_rfl) (by kernel_rfl) (by kernel_rfl) ⟨.inl guard_meet.con,⟨.inl guard_meeting.con,⟨.inl log_Append.con,⟨.inl log_Crash.con,⟨.inl guard_Again.con,trivial⟩⟩⟩⟩⟩) (by kernel_rfl) Tryz.func4 (by kernel_rfl) (c:=cB Tryz.f4) (by kernel_rfl) (by kernel_rfl) F (fun x=>by simp [F,spread,Tryz.ntmps4]) (fun x=>(St0 x.1 x.2.1 x.2.2.1)) (fun x=>by kernel_rfl) fun x=>(top_eq fuel _ x.1 x.2.1 x.2.2.1).trans (by kernel_rfl)
end Go.Bx.guard_Fall
namespace Go.Bx.basculeref_LogFallen
def Js : List Nat:=[]
def C : Ctx:=⟨[(3,T1),(9,.str),(29,T3),(31,T11),(38,T1)],[],[],fnL [],noSh,[],invL [],[(2,[4,5])],[(2,[.dat false 4 [0]])],[],0,0⟩
def St0 (a : D23) (b : Int) : St:=stL 27 [(0,.data T11 a),(1,.data T1 b)] []
def St1 (a : Int) (b : D1) : St:=stL 27 [(4,.ref 4 0 []),(5,.data T1 a)] [(4,.cell T11 (.agg T11 [.data T3 b,.full T6 []]) false)]
def top (Rt : Int->D1->Option α) (a : D23) (b : Int) : Option α :=
 if (cond (decide (b < 0)) true (decide (b > (a.2.1.length : Int)))) = true then
  Rt 6 []
 else
  if 0 <= (0 : Int) /\ (0 : Int) <= b /\ b <= (a.2.1.length : Int) then
   if Nat.ble (a.1.length + (cutL a.2.1 0 b).length) 9223372036854775807 = true then
    Rt 0 (a.1 ++ (cutL a.2.1 0 b))
   else none
  else none
theorem top_eq (k : Nat) (Q : Ex->St->Option α) (a : D23) (b : Int) :
  (den C k) (cB Tryz.f16) Q (St0 a b) = top (fun c d=>Q .ret (St1 c d)) a b:=plainly Js (by kernel_rfl)
def run (a : D23) (b : Int) : Option D24:=top (α:=D23 × Int × Unit) (fun c d=>some ((d,[],()),c,())) a b
def F : Fn:=⟨T54,T54,true,fun x=>run x.1 x.2.1⟩
theorem con : Con Tryz.prog 16 F /\ Named Tryz.prog 16 :=
 con_of2 (C:=C) (ctx_ok (by kernel_rfl) (by kernel_rfl) (by kernel_rfl) (by kernel_rfl) trivial) (by kernel_rfl) Tryz.func16 (by kernel_rfl) (c:=cB Tryz.f16) (by kernel_rfl) (by kernel_rfl) F (fun x=>by simp [F,spread,Tryz.ntmps16]) (fun x=>(St0 x.1 x.2.1)) (fun x=>by kernel_rfl) fun x=>(top_eq fuel _ x.1 x.2.1).trans (by kernel_rfl)
end Go.Bx.basculeref_LogFallen
namespace Go.Bx.basculeref_GuardFell
def Js : List Nat:=[8]
def C : Ctx:=⟨[(3,T1),(9,.str),(24,T30),(28,T21),(29,T3),(31,T11),(34,T15),(37,T4),(38,T1)],[],[],fnL [(12,basculeref_meets.F),(13,basculeref_logged.F),(14,basculeref_bodyText.F),(15,basculeref_LogAppended.F),(16,basculeref_LogFallen.F),(17,basculeref_GuardAgain.F)],noSh,[],invL [],[(2,[6,7]),(21,[2,3,6,8])],[(2,[.dat false 6 []])],[],0,0⟩
def St0 (a : D5) (b : D0) (c : Int) : St:=stL 64 [(0,.data T15 a),(1,.data T4 b),(2,.data T1 c)] []
def St1 (a : Int) (b : D5) (c d e : D1) (f : Int) (g i : D1) (j : Int) (k : D23) : St:=stL 64 [(2,.data T1 a),(3,.ref 3 0 []),(6,.ref 6 0 []),(8,.ref 8 0 [])] [(3,.cell T15 (.data T15 b) false),(6,.cell T15 (.agg T15 [.data T30 c,.agg T21 [.data T19 d,.data T19 e,.data T1 f,.full T22 [],.full T22 []],.agg T21 [.data T19 g,.data T19 i,.data T1 j,.full T22 [],.full T22 []],.agg T11 [.full T6 [],.full T6 []],.full T4 [],.full T4 []]) false),(8,.cell T11 (.data T11 k) false)]
noncomputable def cd0 : Code:=cR (cR (cR (cB Tryz.f5)))
def St2 (a : Int) (b : D5) : St:=stL 64 [(6,.ref 6 0 []),(7,.data T1 a)] [(6,.cell T15 (.data T15 b) false)]
def j0 (Rt : Int->D5->Option α) (a : Int) (d : D5) (f g i : D1) (j : Int) (k l : D1) (m : Int) (b : D23) : Option α :=
 (basculeref_LogFallen.run b (if (b.2.1.length : Int) < (if a > 0 then a else 0) then (b.2.1.length : Int) else (if a > 0 then a else 0))).bind fun c =>
 if (c.2.1 != 0) = true then
  Rt c.2.1 ([0,0,0,0],([0,0,0],[0,0,0],0,[],[],()),([0,0,0],[0,0,0],0,[],[],()),([],[],()),[],[],())
 else
  (basculeref_GuardAgain.run d.1 d.2.1 c.1).bind fun e =>
  Rt e.2.1 e.1
theorem j0_eq (k : Nat) (Q : Ex->St->Option α) (a : Int) (b : D5) (c d e : D1) (f : Int) (g i : D1) (j : Int) (l : D23) :
  (den C k) cd0 Q (St1 a b c d e f g i j l) = j0 (fun m n=>Q .ret (St2 m n)) a b c d e f g i j l:=plainly Js (by kernel_rfl)
def top (Rt : Int->D5->Option α) (a : D5) (b : D0) (c : Int) : Option α :=
 (basculeref_meets.run a b).bind fun d =>
 if d.2.1 = true then
  (basculeref_bodyText.run b).bind fun e =>
  if Nat.ble (1 + e.length) 9223372036854775807 = true then
   (basculeref_logged.run d.1 ([1] ++ e)).bind fun g =>
   if g.2.1 = true then
    (basculeref_bodyText.run b).bind fun f =>
    if Nat.ble (1 + f.length) 9223372036854775807 = true then
     (basculeref_LogAppended.run a.2.2.2.1 ([1] ++ f)).bind fun i =>
     j0 Rt c a [0,0,0,0] [0,0,0] [0,0,0] 0 [0,0,0] [0,0,0] 0 i.1
    else none
   else
    j0 Rt c a [0,0,0,0] [0,0,0] [0,0,0] 0 [0,0,0] [0,0,0] 0 a.2.2.2.1
  else none
 else
  j0 Rt c a [0,0,0,0] [0,0,0] [0,0,0] 0 [0,0,0] [0,0,0] 0 a.2.2.2.1
theorem top_eq (k : Nat) (Q : Ex->St->Option α) (a : D5) (b : D0) (c : Int) :
  (den C k) (cB Tryz.f5) Q (St0 a b c) = top (fun g i=>Q .ret (St2 g i)) a b c:=by
 have h : ∀ (D L : DT α),denJ D L Js C (cB Tryz.f5) Q (St0 a b c) =
    (basculeref_meets.run a b).bind fun d =>
    if d.2.1 = true then
     (basculeref_bodyText.run b).bind fun e =>
     if Nat.ble (1 + e.length) 9223372036854775807 = true then
      (basculeref_logged.run d.1 ([1] ++ e)).bind fun j =>
      if j.2.1 = true then
       (basculeref_bodyText.run b).bind fun f =>
       if Nat.ble (1 + f.length) 9223372036854775807 = true then
        (basculeref_LogAppended.run a.2.2.2.1 ([1] ++ f)).bind fun l =>
        D cd0 Q (St1 c a [0,0,0,0] [0,0,0] [0,0,0] 0 [0,0,0] [0,0,0] 0 l.1)
       else none
      else
       D cd0 Q (St1 c a [0,0,0,0] [0,0,0] [0,0,0] 0 [0,0,0] [0,0,0] 0 a.2.2.2.1)
     else none
    else
     D cd0 Q (St1 c a [0,0,0,0] [0,0,0] [0,0,0] 0 [0,0,0] [0,0,0] 0 a.2.2.2.1):=by
  intro D L; kernel_rfl
 have h2:=via (k:=k) h
 refine h2.trans ?_
 simp only [j0_eq]
 first | rfl | kernel_rfl
def run (a : D5) (b : D0) (c : Int) : Option D25:=top (α:=D5 × Int × Unit) (fun d e=>some (e,d,())) a b c
def F : Fn:=⟨T90,T17,true,fun x=>run x.1 x.2.1 x.2.2.1⟩
theorem con : Con Tryz.prog 5 F /\ Named Tryz.prog 5 :=
 con_of2 (C:=C) (ctx_ok (by kernel_rfl) (by kernel_rfl) (by kernel_rfl) (by kernel_rfl) ⟨.inl basculeref_meets.con,⟨.inl basculeref_logged.con,⟨.inl basculeref_bodyText.con,⟨.inl basculeref_LogAppended.con,⟨.inl basculeref_LogFallen.con,⟨.inl basculeref_GuardAgain.con,trivial⟩⟩⟩⟩⟩⟩) (by kernel_rfl) Tryz.func5 (by kernel_rfl) (c:=cB Tryz.f5) (by kernel_rfl) (by kernel_rfl) F (fun x=>by simp [F,spread,Tryz.ntmps5]) (fun x=>(St0 x.1 x.2.1 x.2.2.1)) (fun x=>by kernel_rfl) fun x=>(top_eq fuel _ x.1 x.2.1 x.2.2.1).trans (by kernel_rfl)
end Go.Bx.basculeref_GuardFell
namespace Go.Bx.basculelaw_GuardFalls
def Js : List Nat:=[]
def C : Ctx:=⟨[(3,T1),(4,.bool),(34,T15),(37,T4)],[],[],fnL [(4,guard_Fall.F),(5,basculeref_GuardFell.F),(6,basculelaw_sameGuard.F)],noSh,[],invL [],[(2,[6])],[],[],0,0⟩
def St0 (a : D5) (b : D0) (c : Int) : St:=stL 33 [(0,.data T15 a),(1,.data T4 b),(2,.data T1 c)] []
def St1 (a : Bool) : St:=stL 33 [(6,.data .bool a)] []
def top (Rt : Bool->Option α) (a : D5) (b : D0) (c : Int) : Option α :=
 (guard_Fall.run a b c).bind fun d =>
 (basculeref_GuardFell.run a b c).bind fun e =>
 (basculelaw_sameGuard.run d.1 e.1).bind fun f =>
 Rt (cond f (d.2.1 == e.2.1) false)
theorem top_eq (k : Nat) (Q : Ex->St->Option α) (a : D5) (b : D0) (c : Int) :
  (den C k) (cB Tryz.f3) Q (St0 a b c) = top (fun d=>Q .ret (St1 d)) a b c:=plainly Js (by kernel_rfl)
def run (a : D5) (b : D0) (c : Int) : Option (Bool):=top (α:=Bool) (fun d=>some d) a b c
def F : Fn:=⟨T90,.bool,false,fun x=>run x.1 x.2.1 x.2.2.1⟩
theorem con : Con Tryz.prog 3 F /\ Named Tryz.prog 3 :=
 con_of2 (C:=C) (ctx_ok (by kernel_rfl) (by kernel_rfl) (by kernel_rfl) (by kernel_rfl) ⟨.inl guard_Fall.con,⟨.inl basculeref_GuardFell.con,⟨.inl basculelaw_sameGuard.con,trivial⟩⟩⟩) (by kernel_rfl) Tryz.func3 (by kernel_rfl) (c:=cB Tryz.f3) (by kernel_rfl) (by kernel_rfl) F (fun x=>by simp [F,spread,Tryz.ntmps3]) (fun x=>(St0 x.1 x.2.1 x.2.2.1)) (fun x=>by kernel_rfl) fun x=>(top_eq fuel _ x.1 x.2.1 x.2.2.1).trans (by kernel_rfl)
end Go.Bx.basculelaw_GuardFalls
