/- Go functions of this seat in their own words of Lean, each tied to its code by a contract. -/
import Derived.Test.YtbfaahaoefngoaaGreatDoorGBase
import Derived.Test.YtbfaahaoefngoaaGreatDoorFnWorldPosts0
open Int (tdiv tmod)
open List (replicate)
open Nat (ble)
open Go Go.Proofs Go.Bx
open Go.IntKind (wrap)
set_option maxHeartbeats 4000000
set_option maxRecDepth 100000
set_option linter.unusedVariables false
variable {α:Type}
namespace Go.Bx.eb
def S1:Px:=⟨39,[(1,.fn 234 [] [.ref 0 0 [],.ref 1 0 [],.ref 2 0 []]),st 2 5,sd 4 .bool,sd 5 T2],[sc 0 T1,sc 1 T1,sc 2 T1,sc 5 T1]⟩
def j0(Nx:Kj α):Kj α:=fun a b c d e f=>Nx a (wrap .i64 (b-1)) c d e f
def S2:Px:=⟨39,[(1,.fn 234 [] [.ref 0 0 [],.ref 1 0 [],.ref 2 0 []]),st 2 5,sd 4 .bool,sd 5 T2,sd 6 T2],[sc 0 T1,sc 1 T1,sc 2 T1,sc 5 T1]⟩
def j1(Nx:Cs α):Cs α:=fun a b c d e f g=>Nx a b (wrap .i64 (c-1)) d e f g
def ly(Nx:Cs α)(Xt2:Kj α):Cs α:=fun d a b e f g c=>ite (decide (b>=0)) (ite (0<=a/\a<(4:Int)) (ite (0<=b) (ite (cond d true ((cS .u64 (fS .u64 (c.getD a.toNat 0) b) 1)==1)) ((hU.run ((cS .u64 (fS .u64 (c.getD a.toNat 0) b) 1)==1) e f g).bind fun h=>j1 Nx (cond d true ((cS .u64 (fS .u64 (c.getD a.toNat 0) b) 1)==1)) a b h.1 h.2.1 h.2.2.1 c) (j1 Nx (cond d true ((cS .u64 (fS .u64 (c.getD a.toNat 0) b) 1)==1)) a b e f g c)) none) none) (Xt2 d a e f g c)
def l1(k:Nat)(Xt2:Kj α):Nat->Cs α
 |0=>kz (S:=S2)
 |n+1=>ly (l1 k Xt2 n) Xt2
def S3:Px:=⟨39,[],[sc 0 T1,sc 1 T1,sc 2 T1]⟩
def aR(k:Nat)(Nx:Kj α)(Xt0:wG α):Kj α:=fun b a c d e f=>ite (decide (a>=0)) (ite (0<=a/\a<(4:Int)) (ite (cond ((f.getD a.toNat 0)==0) (not b) false) (j0 Nx b a c d e f) (l1 k (j0 Nx) k b a 63 c d e f)) none) (Xt0 c d e)
def l0(k:Nat)(Xt0:wG α):Nat->Kj α
 |0=>kz (S:=S1)
 |n+1=>aR k (l0 k Xt0 n) Xt0
def top(k:Nat)(Rt:wG α)(a b:D0)(c d:D0):Option α:=l0 k Rt k false 3 b c d a
def run:=top fuel (fun a b c=>some (a,b,c,()))
def Sp:Spec:=tE [hD T1,.fn 234 [] [.ref 0 0 [],.ref 1 0 [],.ref 2 0 []]] [(0,hC T1 (hD T1) false),(1,hC T1 (hD T1) false),(2,hC T1 (hD T1) false)] [T1,T1,T1,T1] (.tup []) [(0,hC T1 (hD T1) false),(1,hC T1 (hD T1) false),(2,hC T1 (hD T1) false)] [T1,T1,T1] run
def w1(k:Nat)(Nx:K S2 α)(Xt2:K S1 α):List (Nat×dQ α):=[(36,.j S2 (j1 Nx))]
def w0(k:Nat)(Nx:K S1 α)(Xt0:K S3 α):List (Nat×dQ α):=[(20,.j S1 (j0 Nx)),(85,.l S2 (l1 k (j0 Nx)) fun n=>w1 k (l1 k (j0 Nx) n) (j0 Nx))]
def w(k:Nat)(Rt:K S3 α):List (Nat×dQ α):=[(37,.l S1 (l0 k Rt) fun n=>w0 k (l0 k Rt n) Rt)]
noncomputable def s:Sf:=sn 233 Sp ⟨Tryz.f233,[5,9],[],[hU.s],[(38,40)],[(2,0,0),(1,0,0),(4,27,1),(7,27,1),(10,59,1),(9,27,1),(12,27,1),(21,59,1),(24,59,1)],[],[],3⟩ S3 top ri w bV Tryz.func233
end Go.Bx.eb
namespace Go.Bx.jy
def S1:Px:=⟨12,[sr 6],[sc 6 T1]⟩
def top(Rt:gh α)(a b c:D0):Option α:=(eb.run b [0,0,0,0] c a).bind fun d=>Rt d.1
def run:=top (fun a=>some a)
def F:Fn:=fo [T1,T1,T1] T1 run
noncomputable def c:Cf:=cn 206 F ⟨Tryz.f206,[],[],[eb.s],[(10,13)],[(2,1,6)],[],[],0⟩ S1 (fun _=>top) (fun a=>some a) e0 bV Tryz.func206
end Go.Bx.jy
namespace Go.Bx.ic
def S1:Px:=⟨66,[sr 4,sd 5 T2],[sc 4 T1]⟩
def S2:Px:=⟨66,[sr 3,sr 4,sr 8,sr 10,sr 11,sr 12],[sc 3 T1,sc 4 T1,sc 8 T1,sc 10 T1,sc 11 T1,sc 12 T1]⟩
def S3:Px:=⟨66,[sr 4,sr 10,sr 12],[sc 4 T1,sc 10 T1,sc 12 T1]⟩
def aR(Nx:Sq α)(Xt0:wG α):Sq α:=fun a c d e b f=>ite (not (az T1 b [0,0,0,0])) ((bZ.run e b).bind fun g=>(bZ.run g.1 a).bind fun h=>(jy.run h.2.1 d a).bind fun i=>(lX.run f i a).bind fun j=>Nx a c j b g.2.1 d) (Xt0 c e f)
def l0(k:Nat)(Xt0:wG α):Nat->Sq α
 |0=>kz (S:=S2)
 |n+1=>aR (l0 k Xt0 n) Xt0
def j0(Rt:kn α):wG α:=fun c a b=>ite (not (az T1 a [1,0,0,0])) (Rt 5 [0,0,0,0]) (Rt 0 b)
def top(k:Nat)(Rt:kn α)(b a:D0):Option α:=(dt.run a [b]).bind fun c=>ite (c !=0) (Rt c [0,0,0,0]) ((bZ.run [1,0,0,0] a).bind fun d=>l0 k (j0 Rt) k a [0,0,0,0] d.2.1 a b [0,0,0,0])
def run:=top fuel (fun a b=>some (b,a,()))
def F:Fn:=fm [T1,T1] [T1,T2] run
def w(k:Nat)(Rt:K S1 α):List (Nat×dQ α):=[(48,.j S3 (j0 Rt)),(73,.l S2 (l0 k (j0 Rt)) fun _=>[])]
noncomputable def c:Cf:=cn 217 F ⟨Tryz.f217,[12],[bZ.c,jy.c,dt.c,lX.c],[],[],[(2,3,4),(1,321,4),(4,931,3),(18,931,3),(33,321,4)],[],[],0⟩ S1 top (fun a b=>some (b,a,())) w bV Tryz.func217
end Go.Bx.ic
namespace Go.Bx.d9
def Js:List Nat:=[]
def FR(R:D0->D0->Option FI):Fn:=⟨WZ,W0,true,fun x=>R x.1 x.2.1⟩
def C(R:D0->D0->Option FI):Ctx:=⟨[(4,.bool),(24,T1),(196,lI)],[],[],Sl [(135,aJ.F),(136,ay.F),(143,cN.F),(182,cb.F),(183,aI.F),(190,au.F),(193,aN.F),(229,FR R),(231,aZ.F)],SZ,[],Gv [],[(2,[4,5])],[],[],0,0⟩
def PT(a b:D0):St:=Q7 67 [(0,.data T1 a),(1,.data T1 b)] []
def MB(a:Bool)(b:D0):St:=Q7 67 [(4,.ref 4 0 []),(5,.data .bool a)] [(4,.cell T1 (.data T1 b) false)]
def top(R:D0->D0->Option FI)(Rt:Bool->D0->Option α)(a b:D0):Option α:=
 if(az T1 b [1,0,0,0])=true then
  Rt true [0,0,0,0]
 else
  if(az T1 a [0,0,0,0])=true then
   Rt false [0,0,0,0]
  else
   if(az T1 a [1,0,0,0])=true then
    Rt true a
   else
    (cN.run b a).bind fun c=>
    (R c.2.1 a).bind fun d=>
    if(not d.2.1)=true then
     Rt false [0,0,0,0]
    else
     (ay.run c.2.1).bind fun e=>
     (ay.run d.1).bind fun f=>
     (aI.run e f).bind fun g=>
     (au.run g [1]).bind fun h=>
     (ay.run a).bind fun i=>
     (aN.run h i).bind fun j=>
     (ay.run c.1).bind fun k=>
     (ay.run d.1).bind fun l=>
     (aI.run k l).bind fun m=>
     (aJ.run m j.1).bind fun n=>
     (cb.run n b).bind fun o=>
     (aZ.run o b).bind fun p=>
     Rt true p
theorem B1(R:D0->D0->Option FI)(k:Nat)(Q:Ex->St->Option α)(a b:D0):
  (den (C R) k) (cB Tryz.f229) Q (PT a b)=top R (fun c d=>Q .ret (MB c d)) a b:=zY Js (by kernel_rfl)
def runN:Nat->D0->D0->Option FI
 |0=>fun _ _=>none
 |n+1=>fun a b=>top (runN n) (α:=List Int×Bool×Unit) (fun c d=>some (d,c,())) a b
def run(a b:D0):Option FI:=runN fuel a b
def F:Fn:=FR (runN fuel)
theorem named:oJ Tryz.prog 229:=qt Tryz.func229 (by kernel_rfl) (by kernel_rfl)
set_option maxRecDepth 100000 in
theorem Uf:∀n,MI Tryz.prog 229 (FR (runN n))
 |0=>fun w I x r args hI h=>by cases h
 |n+1=>by
  refine vj (C:=C (runN n)) (Ii (by kernel_rfl) (by kernel_rfl) (by kernel_rfl) (by kernel_rfl) ⟨aJ.c.ok,⟨ay.c.ok,⟨cN.c.ok,⟨cb.c.ok,⟨aI.c.ok,⟨au.c.ok,⟨aN.c.ok,⟨.inl ⟨Uf n,named⟩,⟨aZ.c.ok,trivial⟩⟩⟩⟩⟩⟩⟩⟩⟩) (by kernel_rfl) Tryz.func229 (c:=cB Tryz.f229) (by kernel_rfl) (by kernel_rfl) (FR (runN (n+1))) fuel (fun x=>by rw[oc];exact Nat.le_of_ble_eq_true (by kernel_rfl)) ?_;intro x r h;rw[<-h];have h1:start (FR (runN (n+1))) Tryz.f229.ntmps x=(PT x.1 x.2.1):=by kernel_rfl
  rw[h1];refine(B1 (runN n) fuel (fin (C (runN n)) Tryz.f229.results.toList (FR (runN (n+1))).rs (FR (runN (n+1))).multi) x.1 x.2.1).trans ?_
  kernel_rfl
theorem VI:MI Tryz.prog 229 F/\oJ Tryz.prog 229:=⟨Uf fuel,named⟩
noncomputable def c:Cf:=co 229 F VI
end Go.Bx.d9
namespace Go.Bx.nA
def S1:Px:=⟨25,[sr 8,sd 9 T2],[sc 8 T1]⟩
def top(Rt:kn α)(a b c:D0):Option α:=(dt.run c [a,b]).bind fun d=>ite (d !=0) (Rt d [0,0,0,0]) ((jy.run a b c).bind fun e=>Rt 0 e)
def run:=top (fun b a=>some (a,b,a,()))
def Sp:Spec:=tE [.fn 206 [] [],hD T1,hD T1,hD T1] [] [T1,T1,T1] (.tup [hD T1,hD T2]) [(8,hC T1 (hD T1) false)] [T1,T2,T1] run
noncomputable def s:Sf:=sn 205 Sp ⟨Tryz.f205,[],[jy.c,dt.c],[],[],[(2,3,8)],[],[],0⟩ S1 (fun _=>top) (fun b a=>some (a,b,a,())) e0 bV Tryz.func205
end Go.Bx.nA
namespace Go.Bx.kT
def S1:Px:=⟨14,[sr 6,sd 7 T2],[sc 6 T1]⟩
def top(Rt:kn α)(b c d:D0):Option α:=(nA.run b c d).bind fun a=>Rt a.2.1 a.1
def run:=top (fun a b=>some (b,a,()))
def F:Fn:=fm [T1,T1,T1] [T1,T2] run
noncomputable def c:Cf:=cn 155 F ⟨Tryz.f155,[],[],[nA.s],[(11,15)],[(2,3,6)],[],[],0⟩ S1 (fun _=>top) (fun a b=>some (b,a,())) e0 bV Tryz.func155
end Go.Bx.kT
namespace Go.Bx.cf
def S1:Px:=⟨13,[st 4 5,st 6 7],[sc 0 .bool,sc 5 T1,sc 7 T1]⟩
def S2:Px:=⟨13,[st 6 7],[sc 0 .bool,sc 7 T1]⟩
def j0(Rt:HV α):Qo α:=fun a b c=>Rt a b
def top(Rt:HV α)(d a:D0)(b:Int)(c:Bool):Option α:=ite (b !=0) (j0 Rt true a [0,0,0,0]) (j0 Rt c a [0,0,0,0])
def run:=top (fun b a=>some (a,b,a,()))
def Sp:Spec:=tE [TA,hD T1,hD T2] [(0,hC .bool (hD .bool) false)] [T1,T1,T2,.bool] (hD T1) [(0,hC .bool (hD .bool) false),(7,hC T1 (hD T1) false)] [T1,.bool,T1] run
def w(k:Nat)(Rt:K S2 α):List (Nat×dQ α):=[(16,.j S1 (j0 Rt))]
noncomputable def s:Sf:=sn 154 Sp ⟨Tryz.f154,[4],[],[],[],[(2,1,6),(9,5,4)],[],[],1⟩ S2 (fun _=>top) (fun b a=>some (a,b,a,())) w bV Tryz.func154
end Go.Bx.cf
namespace Go.Bx.aV
def S1:Px:=⟨16,[st 6 7],[sc 0 .bool,sc 7 T1]⟩
def top(Rt:HV α)(a d e:D0)(f:Bool):Option α:=(kT.run d e a).bind fun b=>(cf.run a b.1 b.2.1 f).bind fun c=>Rt c.2.1 c.1
def run:=top (fun b a=>some (a,b,a,()))
def Sp:Spec:=tE [TA,hD T1,hD T1] [(0,hC .bool (hD .bool) false)] [T1,T1,T1,.bool] (hD T1) [(0,hC .bool (hD .bool) false),(7,hC T1 (hD T1) false)] [T1,.bool,T1] run
noncomputable def s:Sf:=sn 90 Sp ⟨Tryz.f90,[],[kT.c],[cf.s],[(15,17)],[(2,1,6)],[],[],1⟩ S1 (fun _=>top) (fun b a=>some (a,b,a,())) e0 bV Tryz.func90
end Go.Bx.aV
namespace Go.Bx.nB
def S1:Px:=⟨25,[sr 8,sd 9 T2],[sc 8 T1]⟩
def top(Rt:kn α)(a b c:D0):Option α:=(dt.run c [a,b]).bind fun d=>ite (d !=0) (Rt d [0,0,0,0]) ((kV.run a b c).bind fun e=>Rt 0 e)
def run:=top (fun b a=>some (a,b,a,()))
def Sp:Spec:=tE [.fn 207 [] [],hD T1,hD T1,hD T1] [] [T1,T1,T1] (.tup [hD T1,hD T2]) [(8,hC T1 (hD T1) false)] [T1,T2,T1] run
noncomputable def s:Sf:=sn 205 Sp ⟨Tryz.f205,[],[kV.c,dt.c],[],[],[(2,3,8)],[],[],0⟩ S1 (fun _=>top) (fun b a=>some (a,b,a,())) e0 bV Tryz.func205
end Go.Bx.nB
namespace Go.Bx.oh
def S1:Px:=⟨14,[sr 6,sd 7 T2],[sc 6 T1]⟩
def top(Rt:kn α)(b c d:D0):Option α:=(nB.run b c d).bind fun a=>Rt a.2.1 a.1
def run:=top (fun a b=>some (b,a,()))
def F:Fn:=fm [T1,T1,T1] [T1,T2] run
noncomputable def c:Cf:=cn 156 F ⟨Tryz.f156,[],[],[nB.s],[(11,15)],[(2,3,6)],[],[],0⟩ S1 (fun _=>top) (fun a b=>some (b,a,())) e0 bV Tryz.func156
end Go.Bx.oh
namespace Go.Bx.cI
def S1:Px:=⟨16,[st 6 7],[sc 0 .bool,sc 7 T1]⟩
def top(Rt:HV α)(a d e:D0)(f:Bool):Option α:=(oh.run d e a).bind fun b=>(cf.run a b.1 b.2.1 f).bind fun c=>Rt c.2.1 c.1
def run:=top (fun b a=>some (a,b,a,()))
def Sp:Spec:=tE [TA,hD T1,hD T1] [(0,hC .bool (hD .bool) false)] [T1,T1,T1,.bool] (hD T1) [(0,hC .bool (hD .bool) false),(7,hC T1 (hD T1) false)] [T1,.bool,T1] run
noncomputable def s:Sf:=sn 92 Sp ⟨Tryz.f92,[],[oh.c],[cf.s],[(15,17)],[(2,1,6)],[],[],1⟩ S1 (fun _=>top) (fun b a=>some (a,b,a,())) e0 bV Tryz.func92
end Go.Bx.cI
namespace Go.Bx.nC
def S1:Px:=⟨25,[sr 8,sd 9 T2],[sc 8 T1]⟩
def top(Rt:kn α)(a b c:D0):Option α:=(dt.run c [a,b]).bind fun d=>ite (d !=0) (Rt d [0,0,0,0]) ((lX.run a b c).bind fun e=>Rt 0 e)
def run:=top (fun b a=>some (a,b,a,()))
def Sp:Spec:=tE [.fn 240 [] [],hD T1,hD T1,hD T1] [] [T1,T1,T1] (.tup [hD T1,hD T2]) [(8,hC T1 (hD T1) false)] [T1,T2,T1] run
noncomputable def s:Sf:=sn 205 Sp ⟨Tryz.f205,[],[dt.c,lX.c],[],[],[(2,3,8)],[],[],0⟩ S1 (fun _=>top) (fun b a=>some (a,b,a,())) e0 bV Tryz.func205
end Go.Bx.nC
namespace Go.Bx.kU
def S1:Px:=⟨14,[sr 6,sd 7 T2],[sc 6 T1]⟩
def top(Rt:kn α)(b c d:D0):Option α:=(nC.run b c d).bind fun a=>Rt a.2.1 a.1
def run:=top (fun a b=>some (b,a,()))
def F:Fn:=fm [T1,T1,T1] [T1,T2] run
noncomputable def c:Cf:=cn 219 F ⟨Tryz.f219,[],[],[nC.s],[(11,15)],[(2,3,6)],[],[],0⟩ S1 (fun _=>top) (fun a b=>some (b,a,())) e0 bV Tryz.func219
end Go.Bx.kU
namespace Go.Bx.dH
def S1:Px:=⟨16,[st 6 7],[sc 0 .bool,sc 7 T1]⟩
def top(Rt:HV α)(a d e:D0)(f:Bool):Option α:=(kU.run d e a).bind fun b=>(cf.run a b.1 b.2.1 f).bind fun c=>Rt c.2.1 c.1
def run:=top (fun b a=>some (a,b,a,()))
def Sp:Spec:=tE [TA,hD T1,hD T1] [(0,hC .bool (hD .bool) false)] [T1,T1,T1,.bool] (hD T1) [(0,hC .bool (hD .bool) false),(7,hC T1 (hD T1) false)] [T1,.bool,T1] run
noncomputable def s:Sf:=sn 208 Sp ⟨Tryz.f208,[],[kU.c],[cf.s],[(15,17)],[(2,1,6)],[],[],1⟩ S1 (fun _=>top) (fun b a=>some (a,b,a,())) e0 bV Tryz.func208
end Go.Bx.dH
namespace Go.Bx.gK
def S1:Px:=⟨13,[st 4 5],[sc 0 .bool,sc 5 T1]⟩
def top(Rt:HV α)(a d:D0)(e:Bool):Option α:=(ic.run d a).bind fun b=>(cf.run a b.1 b.2.1 e).bind fun c=>Rt c.2.1 c.1
def run:=top (fun b a=>some (a,b,a,()))
def Sp:Spec:=tE [TA,hD T1] [(0,hC .bool (hD .bool) false)] [T1,T1,.bool] (hD T1) [(0,hC .bool (hD .bool) false),(5,hC T1 (hD T1) false)] [T1,.bool,T1] run
noncomputable def s:Sf:=sn 209 Sp ⟨Tryz.f209,[],[ic.c],[cf.s],[(12,14)],[(2,1,4)],[],[],1⟩ S1 (fun _=>top) (fun b a=>some (a,b,a,())) e0 bV Tryz.func209
end Go.Bx.gK
namespace Go.Bx.dW
def S1:Px:=⟨18,[st 4 5],[sc 0 .bool,sc 5 T1]⟩
def top(Rt:HV α)(a:D0)(b:Int)(c:Bool):Option α:=(bZ.run [b,0,0,0] a).bind fun d=>Rt c d.2.1
def run:=top (fun b a=>some (a,b,a,()))
def Sp:Spec:=tE [TA,hD T4] [(0,hC .bool (hD .bool) false)] [T1,T4,.bool] (hD T1) [(0,hC .bool (hD .bool) false),(5,hC T1 (hD T1) false)] [T1,.bool,T1] run
noncomputable def s:Sf:=sn 91 Sp ⟨Tryz.f91,[],[bZ.c],[],[],[(2,1,4)],[],[],1⟩ S1 (fun _=>top) (fun b a=>some (a,b,a,())) e0 bV Tryz.func91
end Go.Bx.dW
namespace Go.Bx.gU
def S1:Px:=⟨12,[sr 4],[sc 4 T1]⟩
def top(Rt:gh α)(a:Int)(b:D0):Option α:=(cb.run [(tmod a 4294967296),(wrap .u64 (tdiv a 4294967296))] b).bind fun c=>Rt c
def run:=top (fun a=>some a)
def F:Fn:=fo [T4,T1] T1 run
noncomputable def c:Cf:=cn 124 F ⟨Tryz.f124,[],[cb.c],[],[],[(2,1,4)],[],[],0⟩ S1 (fun _=>top) (fun a=>some a) e0 bV Tryz.func124
end Go.Bx.gU
namespace Go.Bx.bB
def S1:Px:=⟨37,[sr 3,sr 5,sr 6,sr 7,sd 14 T1,sd 15 T2],[sc 3 T1,sc 5 T1,sc 6 T1,sc 7 T1]⟩
def S2:Px:=⟨37,[sr 3,sr 5,sr 6,sr 7,sd 9 T4,sd 10 T2,sd 14 T1,sd 15 T2],[sc 3 T1,sc 5 T1,sc 6 T1,sc 7 T1]⟩
def j0(Nx:GN α):GN α:=fun c d e f a b g h=>(aO.run a a b).bind fun i=>Nx c (wrap .i64 (d+1)) e f i b g h
def ly(Nx:GN α)(Xt2:xP α):GN α:=fun d a e f b c g h=>ite (decide (a<64)) (ite (0<=a) (ite ((cS .u64 (fS .u64 d a) 1)==1) ((aO.run h b c).bind fun i=>j0 Nx d a e f b c g i) (j0 Nx d a e f b c g h)) none) (Xt2 e f b c g h)
def l1(k:Nat)(Xt2:xP α):Nat->GN α
 |0=>kz (S:=S2)
 |n+1=>ly (l1 k Xt2 n) Xt2
def j1(Nx:xP α):xP α:=fun a b c d e f=>Nx a (wrap .i64 (b+1)) c d e f
def S3:Px:=⟨37,[sr 6,sr 7],[sc 6 T1,sc 7 T1]⟩
def aR(k:Nat)(Nx:xP α)(Xt0:lP α):xP α:=fun b a e f c d=>ite (decide (a<4)) (ite (0<=a/\a<(4:Int)) (l1 k (j1 Nx) k (b.getD a.toNat 0) 0 b a e f c d) none) (Xt0 c d)
def l0(k:Nat)(Xt0:lP α):Nat->xP α
 |0=>kz (S:=S1)
 |n+1=>aR k (l0 k Xt0 n) Xt0
def S4:Px:=⟨37,[sr 6],[sc 6 T1]⟩
def j2(Rt:gh α):lP α:=fun b a=>Rt a
def top(k:Nat)(Rt:gh α)(b c a:D0):Option α:=(cb.run [1] a).bind fun d=>l0 k (j2 Rt) k c 0 b a [0,0,0,0] d
def run:=top fuel (fun a=>some a)
def F:Fn:=fo [T1,T1,T1] T1 run
def w1(k:Nat)(Nx:K S2 α)(Xt2:K S1 α):List (Nat×dQ α):=[(44,.j S2 (j0 Nx))]
def w0(k:Nat)(Nx:K S1 α)(Xt0:K S3 α):List (Nat×dQ α):=[(48,.j S1 (j1 Nx)),(73,.l S2 (l1 k (j1 Nx)) fun n=>w1 k (l1 k (j1 Nx) n) (j1 Nx))]
def w(k:Nat)(Rt:K S4 α):List (Nat×dQ α):=[(52,.j S3 (j2 Rt)),(37,.l S1 (l0 k (j2 Rt)) fun n=>w0 k (l0 k (j2 Rt) n) (j2 Rt))]
noncomputable def c:Cf:=cn 125 F ⟨Tryz.f125,[11,12,13],[aO.c,cb.c],[],[],[(2,1,6),(1,3,6),(4,6173,3),(7,6173,3),(10,6365,3),(9,6173,3),(18,6365,3),(30,6365,3),(33,6173,3),(36,3,6)],[],[],0⟩ S4 top (fun a=>some a) w bV Tryz.func125
end Go.Bx.bB
namespace Go.Bx.cC
def S1:Px:=⟨7,[sr 2],[se 2 T5 (Wo),sc 5 .bool]⟩
def top(Rt:Xa α)(a:D3):Option α:=Rt a.1 false
def run:=top (fun a b=>some (a,a,b,()))
def Sp:Spec:=tE [hD T6] [] [T6] (Wo) [(2,hC T5 (Wo) false),(5,hC .bool (hD .bool) false)] [T1,T1,.bool] run
noncomputable def s:Sf:=sn 89 Sp ⟨Tryz.f89,[],[],[],[],[(2,1,2)],[],[],0⟩ S1 (fun _=>top) (fun a b=>some (a,a,b,())) e0 bV Tryz.func89
end Go.Bx.cC
namespace Go.Bx.iI
def S1:Px:=⟨25,[st 6 7],[sc 0 .bool,sc 7 T1]⟩
def top(Rt:HV α)(c:D3)(a b:D0)(i:Bool):Option α:=(aV.run a b b i).bind fun d=>(aV.run a b d.1 d.2.1).bind fun e=>(aV.run a c.2.1 b e.2.1).bind fun f=>(cI.run a e.1 f.1 f.2.1).bind fun g=>(cI.run a g.1 c.2.2.1 g.2.1).bind fun h=>Rt h.2.1 h.1
def run:=top (fun b a=>some (a,b,a,()))
def Sp:Spec:=tE [hD T6,TA,hD T1] [(0,hC .bool (hD .bool) false)] [T6,T1,T1,.bool] (hD T1) [(0,hC .bool (hD .bool) false),(7,hC T1 (hD T1) false)] [T1,.bool,T1] run
noncomputable def s:Sf:=sn 157 Sp ⟨Tryz.f157,[],[],[aV.s,cI.s],[(14,26),(15,27),(20,28),(21,29),(24,30)],[(2,1,6)],[],[],1⟩ S1 (fun _=>top) (fun b a=>some (a,b,a,())) e0 bV Tryz.func157
end Go.Bx.iI
namespace Go.Bx.lB
def S1:Px:=⟨46,[sd 4 .bool],[]⟩
def top(Rt:eJ α)(b:D3)(a:D4):Option α:=ite a.2.2.1 (Rt (cond (az T1 a.1 [0,0,0,0]) (az T1 a.2.1 [0,0,0,0]) false)) ((cQ.run a.1 b.1).bind fun d=>(if((decide (d>=0))==false)=true then cQ.run a.2.1 b.1 else some 0).bind fun f=>ite (cond (decide (d>=0)) true (decide (f>=0))) (Rt false) ((cC.run b).bind fun c=>(aV.run c.1 a.2.1 a.2.1 c.2.2.1).bind fun e=>(iI.run b c.1 a.1 e.2.1).bind fun g=>Rt (az T1 e.1 g.1)))
def run:=top (fun a=>some a)
def F:Fn:=fo [T6,T7] .bool run
noncomputable def c:Cf:=cn 93 F ⟨Tryz.f93,[],[cQ.c],[cC.s,aV.s,iI.s],[(33,47),(39,49),(44,50)],[(2,1,4)],[],[],0⟩ S1 (fun _=>top) (fun a=>some a) e0 bV Tryz.func93
end Go.Bx.lB
namespace Go.Bx.eV
def S1:Px:=⟨85,[sd 2 T2],[]⟩
def top(Rt:gf α)(a:D3):Option α:=(cQ.run a.1 [3,0,0,0]).bind fun c=>(if((cond (decide (c<=0)) true ((tmod (a.1.getD 0 0) 4) !=3))==false)=true then cQ.run a.2.1 a.1 else some 0).bind fun d=>(if((cond (cond (decide (c<=0)) true ((tmod (a.1.getD 0 0) 4) !=3)) true (decide (d>=0)))==false)=true then cQ.run a.2.2.1 a.1 else some 0).bind fun e=>(if((cond (cond (cond (decide (c<=0)) true ((tmod (a.1.getD 0 0) 4) !=3)) true (decide (d>=0))) true (decide (e>=0)))==false)=true then cQ.run a.2.2.2.1 [1,0,0,0]else some 0).bind fun n=>ite (cond (cond (cond (cond (decide (c<=0)) true ((tmod (a.1.getD 0 0) 4) !=3)) true (decide (d>=0))) true (decide (e>=0))) true (decide (n<=0))) (Rt 16) ((cC.run a).bind fun b=>(dW.run b.1 4 b.2.2.1).bind fun f=>(aV.run b.1 a.2.1 a.2.1 f.2.1).bind fun g=>(aV.run b.1 a.2.1 g.1 g.2.1).bind fun h=>(aV.run b.1 f.1 h.1 h.2.1).bind fun i=>(dW.run b.1 27 i.2.1).bind fun j=>(aV.run b.1 a.2.2.1 a.2.2.1 j.2.1).bind fun k=>(aV.run b.1 j.1 k.1 k.2.1).bind fun l=>(cI.run b.1 i.1 l.1 l.2.1).bind fun m=>(if((cond (az T1 m.1 [0,0,0,0]) true a.2.2.2.2.1.2.2.1)==false)=true then lB.run a a.2.2.2.2.1 else some false).bind fun o=>ite (cond (cond (az T1 m.1 [0,0,0,0]) true a.2.2.2.2.1.2.2.1) true (not o)) (Rt 16) (Rt 0))
def run:=top (fun a=>some a)
def F:Fn:=fo [T6] T2 run
noncomputable def c:Cf:=cn 36 F ⟨Tryz.f36,[],[cQ.c,lB.c],[cC.s,aV.s,dW.s,cI.s],[(42,86),(45,88),(54,89),(55,90),(56,91),(59,92),(65,93),(66,94),(70,95)],[(2,1,2)],[],[],0⟩ S1 (fun _=>top) (fun a=>some a) e0 bV Tryz.func36
end Go.Bx.eV
namespace Go.Bx.fZ
def S1:Px:=⟨24,[sr 4],[sc 4 T1]⟩
def top(Rt:gh α)(a:D3)(b:D0):Option α:=(aO.run b b a.1).bind fun c=>(bH.run c a.2.1 a.1).bind fun d=>(aO.run b d a.1).bind fun e=>(bH.run e a.2.2.1 a.1).bind fun f=>Rt f
def run:=top (fun a=>some a)
def F:Fn:=fo [T6,T1] T1 run
noncomputable def c:Cf:=cn 184 F ⟨Tryz.f184,[],[bH.c,aO.c],[],[],[(2,1,4)],[],[],0⟩ S1 (fun _=>top) (fun a=>some a) e0 bV Tryz.func184
end Go.Bx.fZ
namespace Go.Bx.ft
def S1:Px:=⟨43,[sd 4 .bool],[]⟩
def top(Rt:eJ α)(b:D3)(a:D4):Option α:=ite a.2.2.1 ((aE.run a.1).bind fun e=>(if(e==true)=true then aE.run a.2.1 else some false).bind fun f=>Rt (cond e f false)) ((aH.run a.1 b.1).bind fun c=>(if((decide (c<0))==true)=true then aH.run a.2.1 b.1 else some 0).bind fun d=>(if((cond (decide (c<0)) (decide (d<0)) false)==true)=true then aO.run a.2.1 a.2.1 b.1 else some [0,0,0,0]).bind fun g=>(if((cond (decide (c<0)) (decide (d<0)) false)==true)=true then fZ.run b a.1 else some [0,0,0,0]).bind fun h=>Rt (cond (cond (decide (c<0)) (decide (d<0)) false) (az T1 g h) false))
def run:=top (fun a=>some a)
def F:Fn:=fo [T6,T7] .bool run
noncomputable def c:Cf:=cn 126 F ⟨Tryz.f126,[],[aE.c,aH.c,aO.c,fZ.c],[],[],[(2,1,4)],[],[],0⟩ S1 (fun _=>top) (fun a=>some a) e0 bV Tryz.func126
end Go.Bx.ft
namespace Go.Bx.bz
def S1:Px:=⟨83,[sd 2 T2],[]⟩
def top(Rt:gf α)(a:D3):Option α:=(aH.run a.1 [3,0,0,0]).bind fun b=>(if((cond (decide (b>0)) ((cS .u64 (a.1.getD 0 0) 3)==3) false)==true)=true then aH.run a.2.1 a.1 else some 0).bind fun c=>(if((cond (cond (decide (b>0)) ((cS .u64 (a.1.getD 0 0) 3)==3) false) (decide (c<0)) false)==true)=true then aH.run a.2.2.1 a.1 else some 0).bind fun d=>(if((cond (cond (cond (decide (b>0)) ((cS .u64 (a.1.getD 0 0) 3)==3) false) (decide (c<0)) false) (decide (d<0)) false)==true)=true then aH.run a.2.2.2.1 [1,0,0,0]else some 0).bind fun f=>ite (not (cond (cond (cond (cond (decide (b>0)) ((cS .u64 (a.1.getD 0 0) 3)==3) false) (decide (c<0)) false) (decide (d<0)) false) (decide (f>0)) false)) (Rt 16) ((gU.run 4 a.1).bind fun g=>(bB.run a.2.1 [3,0,0,0] a.1).bind fun h=>(aO.run g h a.1).bind fun i=>(gU.run 27 a.1).bind fun j=>(bB.run a.2.2.1 [2,0,0,0] a.1).bind fun k=>(aO.run j k a.1).bind fun l=>(bH.run i l a.1).bind fun m=>(aE.run m).bind fun e=>(if((cond e true a.2.2.2.2.1.2.2.1)==false)=true then ft.run a a.2.2.2.2.1 else some false).bind fun n=>ite (cond (cond e true a.2.2.2.2.1.2.2.1) true (not n)) (Rt 16) (Rt 0))
def run:=top (fun a=>some a)
def F:Fn:=fo [T6] T2 run
noncomputable def c:Cf:=cn 60 F ⟨Tryz.f60,[],[aE.c,aH.c,bH.c,aO.c,gU.c,bB.c,ft.c],[],[],[(2,1,2)],[],[],0⟩ S1 (fun _=>top) (fun a=>some a) e0 bV Tryz.func60
end Go.Bx.bz
namespace Go.Bx.iN
def S1:Px:=⟨112,[sr 6,sd 7 .bool],[sc 6 T7]⟩
def S2:Px:=⟨112,[sr 4,sr 5,sr 6,sr 8,sr 9,sr 10],[sc 4 T7,sc 5 T7,sc 6 T7,se 8 T5 (XC),sc 9 T1,sc 10 T1,sc 114 .bool]⟩
def j0(Rt:zC α):VO α:=fun c k o a l m n=>(gK.run a m n).bind fun e=>(aV.run a l e.1 e.2.1).bind fun b=>(aV.run a b.1 b.1 b.2.1).bind fun f=>(dH.run a f.1 c.1 f.2.1).bind fun g=>(dH.run a g.1 k.1 g.2.1).bind fun d=>(dH.run a c.1 d.1 d.2.1).bind fun h=>(aV.run a b.1 h.1 h.2.1).bind fun i=>(dH.run a i.1 c.2.1 i.2.1).bind fun j=>ite j.2.1 (Rt false nM) (Rt true (d.1,j.1,false,()))
def top(Rt:zC α)(e:D3)(a c:D4):Option α:=ite a.2.2.1 (Rt true c) (ite c.2.2.1 (Rt true a) ((cC.run e).bind fun b=>(dH.run b.1 c.2.1 a.2.1 b.2.2.1).bind fun f=>(dH.run b.1 c.1 a.1 f.2.1).bind fun d=>ite (az T1 a.1 c.1) ((cI.run b.1 a.2.1 c.2.1 d.2.1).bind fun g=>ite (az T1 g.1 [0,0,0,0]) (Rt true ([0,0,0,0],[0,0,0,0],true,())) (ite (not (az T1 a.2.1 c.2.1)) (Rt false nM) ((dW.run b.1 3 g.2.1).bind fun h=>(aV.run b.1 a.1 a.1 h.2.1).bind fun i=>(aV.run b.1 h.1 i.1 i.2.1).bind fun j=>(cI.run b.1 j.1 e.2.1 j.2.1).bind fun k=>(cI.run b.1 a.2.1 a.2.1 k.2.1).bind fun l=>j0 Rt a c nM b.1 k.1 l.1 l.2.1))) (j0 Rt a c nM b.1 f.1 d.1 d.2.1)))
def run:=top (fun a b=>some (b,a,()))
def F:Fn:=fm [T6,T7,T7] [T7,.bool] run
def w(k:Nat)(Rt:K S1 α):List (Nat×dQ α):=[(56,.j S2 (j0 Rt))]
noncomputable def c:Cf:=cn 159 F ⟨Tryz.f159,[14],[],[cC.s,aV.s,dW.s,cI.s,dH.s,gK.s],[(21,113),(27,115),(33,116),(44,117),(57,118),(63,119),(64,120),(67,121),(73,122),(78,123),(79,124),(85,125),(88,126),(91,127),(99,128),(100,129),(103,130)],[(2,3,6),(39,119,4)],[],[],0⟩ S1 (fun _=>top) (fun a b=>some (b,a,())) w bV Tryz.func159
end Go.Bx.iN
namespace Go.Bx.cu
def S1:Px:=⟨145,[sr 6,sd 7 .bool],[sc 6 T7]⟩
def S2:Px:=⟨145,[sr 3,sr 4,sr 5,sr 6,sr 8,sr 9],[sc 3 T6,sc 4 T7,sc 5 T7,sc 6 T7,sc 8 T1,sc 9 T1]⟩
def j0(Rt:zC α):Uy α:=fun a b f q g h=>(d9.run h a.1).bind fun d=>ite (not d.2.1) (Rt false nM) ((aO.run g d.1 a.1).bind fun c=>(aO.run c c a.1).bind fun i=>(bH.run b.1 f.1 a.1).bind fun j=>(aZ.run j a.1).bind fun k=>(bH.run i k a.1).bind fun e=>(aZ.run e a.1).bind fun l=>(bH.run b.1 l a.1).bind fun m=>(aO.run c m a.1).bind fun n=>(aZ.run b.2.1 a.1).bind fun o=>(bH.run n o a.1).bind fun p=>Rt true (e,p,false,()))
def top(Rt:zC α)(b:D3)(a c:D4):Option α:=ite a.2.2.1 (Rt true c) (ite c.2.2.1 (Rt true a) ((if((az T1 a.1 c.1)==true)=true then bH.run a.2.1 c.2.1 b.1 else some [0,0,0,0]).bind fun d=>(if((az T1 a.1 c.1)==true)=true then aE.run d else some false).bind fun e=>ite (cond (az T1 a.1 c.1) e false) (Rt true ([0,0,0,0],[0,0,0,0],true,())) ((aZ.run a.2.1 b.1).bind fun f=>(bH.run c.2.1 f b.1).bind fun g=>(aZ.run a.1 b.1).bind fun h=>(bH.run c.1 h b.1).bind fun i=>ite (az T7 a c) ((gU.run 3 b.1).bind fun j=>(aO.run a.1 a.1 b.1).bind fun k=>(aO.run j k b.1).bind fun l=>(bH.run l b.2.1 b.1).bind fun m=>(bH.run a.2.1 a.2.1 b.1).bind fun n=>j0 Rt b a c nM m n) (j0 Rt b a c nM g i))))
def run:=top (fun a b=>some (b,a,()))
def F:Fn:=fm [T6,T7,T7] [T7,.bool] run
def w(k:Nat)(Rt:K S1 α):List (Nat×dQ α):=[(52,.j S2 (j0 Rt))]
noncomputable def c:Cf:=cn 222 F ⟨Tryz.f222,[13],[aE.c,bH.c,aO.c,gU.c,d9.c,aZ.c],[],[],[(2,3,6),(1,15,3),(36,111,3)],[],[],0⟩ S1 (fun _=>top) (fun a b=>some (b,a,())) w bV Tryz.func222
end Go.Bx.cu
namespace Go.Bx.eH
def S1:Px:=⟨24,[sd 4 T2],[]⟩
def S2:Px:=⟨24,[sr 2,sd 13 T8,sd 14 T2,sd 15 T2],[sc 2 T6]⟩
def S3:Px:=⟨24,[],[]⟩
def aR(Nx:So α)(Rt:gf α)(Xt0:Option α):So α:=fun b c a d=>ite (decide (a<c)) (ite (0<=a/\a<(b.length:Int)) ((lB.run d (b.getD a.toNat nM)).bind fun e=>ite (not e) (Rt 16) (Nx b c (wrap .i64 (a+1)) d)) none) (Xt0)
def l0(k:Nat)(Rt:gf α)(Xt0:Option α):Nat->So α
 |0=>kz (S:=S2)
 |n+1=>aR (l0 k Rt Xt0 n) Rt Xt0
def j0(Rt:gf α):Option α:=Rt 0
def top(k:Nat)(Rt:gf α)(a:D3)(b:D5):Option α:=(eV.run a).bind fun c=>ite (c !=0) (Rt c) (l0 k Rt (j0 Rt) k b (b.length:Int) 0 a)
def run:=top fuel (fun a=>some a)
def F:Fn:=fo [T6,T8] T2 run
def w(k:Nat)(Rt:K S1 α):List (Nat×dQ α):=[(44,.j S3 (j0 Rt)),(61,.l S2 (l0 k Rt (j0 Rt)) fun _=>[])]
noncomputable def c:Cf:=cn 158 F ⟨Tryz.f158,[11],[eV.c,lB.c],[],[],[(2,1,4),(1,0,0),(4,14337,2),(15,14337,2),(30,0,0)],[],[],0⟩ S1 top (fun a=>some a) w bV Tryz.func158
end Go.Bx.eH
namespace Go.Bx.eI
def S1:Px:=⟨58,[sr 6,sd 7 T2],[sc 6 T7]⟩
def S2:Px:=⟨58,[sr 3,sr 4,sr 5,sr 6,sr 9,sd 10 .bool,sd 11 T2],[sc 3 T6,sc 4 T1,sc 5 T7,sc 6 T7,sc 9 T7]⟩
def j0(Nx:Ol α):Ol α:=fun a b c d e f g=>Nx a (wrap .i64 (b-1)) c d e f g
def S3:Px:=⟨58,[sr 6,sr 9,sd 10 .bool],[sc 6 T7,sc 9 T7]⟩
def aR(Nx:Ol α)(Xt0:Sr α):Ol α:=fun h a c d e f g=>ite (cond (decide (a>=0)) h false) ((iN.run c g g).bind fun b=>cond (decide (0<=(wrap .i64 (tdiv a 64))/\(wrap .i64 (tdiv a 64))<(4:Int))|| !(b.2.1==true)) (cond (decide (0<=(tmod a 64))|| !(b.2.1==true)) (ite (cond b.2.1 ((cS .u64 (fS .u64 (d.getD (wrap .i64 (tdiv a 64)).toNat 0) (tmod a 64)) 1)==1) false) ((iN.run c b.1 e).bind fun i=>j0 Nx i.2.1 a c d e f i.1) (j0 Nx b.2.1 a c d e f b.1)) none) none) (Xt0 h f g)
def l0(k:Nat)(Xt0:Sr α):Nat->Ol α
 |0=>kz (S:=S2)
 |n+1=>aR (l0 k Xt0 n) Xt0
def j1(Rt:rT α):Sr α:=fun a c b=>ite (not a) (Rt 16 nM) (Rt 0 b)
def top(k:Nat)(Rt:rT α)(a:D3)(d:D0)(b:D4):Option α:=(eH.run a [b]).bind fun c=>ite (c !=0) (Rt c nM) (l0 k (j1 Rt) k true 255 a d b nM ([0,0,0,0],[0,0,0,0],true,()))
def run:=top fuel (fun a b=>some (b,a,()))
def F:Fn:=fm [T6,T1,T7] [T7,T2] run
def w0(k:Nat)(Nx:K S2 α)(Xt0:K S3 α):List (Nat×dQ α):=[(32,.j S2 (j0 Nx))]
def w(k:Nat)(Rt:K S1 α):List (Nat×dQ α):=[(48,.j S3 (j1 Rt)),(73,.l S2 (l0 k (j1 Rt)) fun n=>w0 k (l0 k (j1 Rt) n) (j1 Rt))]
noncomputable def c:Cf:=cn 95 F ⟨Tryz.f95,[8,12],[eH.c,iN.c],[],[],[(2,3,6),(1,25,6),(4,463,3),(18,463,3),(21,463,3),(33,25,6)],[],[],0⟩ S1 top (fun a b=>some (b,a,())) w bV Tryz.func95
end Go.Bx.eI
namespace Go.Bx.aT
def S1:Px:=⟨51,[sr 3,sr 4,sr 5,sr 6,sr 8,sd 9 T2],[sc 3 T6,sc 4 T1,sc 5 T7,sc 6 T7,sc 8 T7]⟩
def S2:Px:=⟨51,[sr 3,sr 4,sr 5,sr 6,sr 8,sd 9 T2,sd 10 T2],[sc 3 T6,sc 4 T1,sc 5 T7,sc 6 T7,sc 8 T7]⟩
def S3:Px:=⟨51,[sr 3,sr 4,sr 5,sr 6,sr 8,sd 9 T2,sd 10 T2,sr 11,sd 12 .bool],[sc 3 T6,sc 4 T1,sc 5 T7,sc 6 T7,sc 8 T7,sc 11 T7]⟩
def S4:Px:=⟨51,[sr 6,sd 7 .bool],[sc 6 T7]⟩
def j0(Nx:Kg α)(Rt:zC α):Uz α:=fun a b c d e f g i h=>ite (not c) (Rt false nM) (Nx a (wrap .i64 (b-1)) d e f g h)
def ly(Nx:Kg α)(Rt:zC α)(Xt2:A9 α):Kg α:=fun a c d f g h e=>ite (decide (c>=0)) ((cu.run d e e).bind fun b=>cond (decide (0<=a/\a<(4:Int))|| !(b.2.1==true)) (cond (decide (0<=c)|| !(b.2.1==true)) (ite (cond b.2.1 ((cS .u64 (f.getD a.toNat 0) (fD .u64 1 c)) !=0) false) ((cu.run d b.1 g).bind fun i=>j0 Nx Rt a c i.2.1 d f g h e i.1) (j0 Nx Rt a c b.2.1 d f g h e b.1)) none) none) (Xt2 a d f g h e)
def l1(k:Nat)(Rt:zC α)(Xt2:A9 α):Nat->Kg α
 |0=>kz (S:=S2)
 |n+1=>ly (l1 k Rt Xt2 n) Rt Xt2
def j1(Nx:A9 α):A9 α:=fun a b c d e f=>Nx (wrap .i64 (a-1)) b c d e f
def S5:Px:=⟨51,[sr 6,sr 8],[sc 6 T7,sc 8 T7]⟩
def aR(k:Nat)(Nx:A9 α)(Rt:zC α)(Xt0:NJ α):A9 α:=fun a d e f b c=>ite (decide (a>=0)) (l1 k Rt (j1 Nx) k a 63 d e f b c) (Xt0 b c)
def l0(k:Nat)(Rt:zC α)(Xt0:NJ α):Nat->A9 α
 |0=>kz (S:=S1)
 |n+1=>aR k (l0 k Rt Xt0 n) Rt Xt0
def j2(Rt:zC α):NJ α:=fun b a=>Rt true a
def top(k:Nat)(Rt:zC α)(a:D3)(b:D0)(c:D4):Option α:=l0 k Rt (j2 Rt) k 3 a b c nM ([0,0,0,0],[0,0,0,0],true,())
def run:=top fuel (fun a b=>some (b,a,()))
def F:Fn:=fm [T6,T1,T7] [T7,.bool] run
def w1(k:Nat)(Nx:K S2 α)(Rt:K S4 α)(Xt2:K S1 α):List (Nat×dQ α):=[(48,.j S3 (j0 Nx Rt))]
def w0(k:Nat)(Nx:K S1 α)(Rt:K S4 α)(Xt0:K S5 α):List (Nat×dQ α):=[(20,.j S1 (j1 Nx)),(73,.l S2 (l1 k Rt (j1 Nx)) fun n=>w1 k (l1 k Rt (j1 Nx) n) Rt (j1 Nx))]
def w(k:Nat)(Rt:K S4 α):List (Nat×dQ α):=[(60,.j S5 (j2 Rt)),(37,.l S1 (l0 k Rt (j2 Rt)) fun n=>w0 k (l0 k Rt (j2 Rt) n) Rt (j2 Rt))]
noncomputable def c:Cf:=cn 186 F ⟨Tryz.f186,[5,12,15],[cu.c],[],[],[(2,3,6),(1,5,6),(4,111,3),(7,111,3),(10,239,3),(9,111,3),(12,111,3),(18,239,3),(33,1007,3),(42,5,6)],[],[],0⟩ S4 top (fun a b=>some (b,a,())) w bV Tryz.func186
end Go.Bx.aT
namespace Go.Bx.og
def S1:Px:=⟨31,[sr 6,sd 7 T2],[sc 6 T7]⟩
def top(Rt:rT α)(a:D3)(b c:D4):Option α:=(eH.run a [b,c]).bind fun d=>ite (d !=0) (Rt d nM) ((iN.run a b c).bind fun e=>ite (not e.2.1) (Rt 16 nM) (Rt 0 e.1))
def run:=top (fun a b=>some (b,a,()))
def F:Fn:=fm [T6,T7,T7] [T7,T2] run
noncomputable def c:Cf:=cn 241 F ⟨Tryz.f241,[],[eH.c,iN.c],[],[],[(2,3,6)],[],[],0⟩ S1 (fun _=>top) (fun a b=>some (b,a,())) e0 bV Tryz.func241
end Go.Bx.og
namespace Go.Bx.oE
def S1:Px:=⟨43,[sr 10,sd 11 T2],[sc 10 T7]⟩
def top(Rt:rT α)(a:D3)(e:D0)(f:D4)(g:D0)(h:D4):Option α:=(eI.run a e f).bind fun b=>ite (b.2.1 !=0) (Rt b.2.1 nM) ((eI.run a g h).bind fun c=>ite (c.2.1 !=0) (Rt c.2.1 nM) ((og.run a b.1 c.1).bind fun d=>Rt d.2.1 d.1))
def run:=top (fun a b=>some (b,a,()))
def F:Fn:=fm [T6,T1,T7,T1,T7] [T7,T2] run
noncomputable def c:Cf:=cn 220 F ⟨Tryz.f220,[],[eI.c,og.c],[],[],[(2,3,10)],[],[],0⟩ S1 (fun _=>top) (fun a b=>some (b,a,())) e0 bV Tryz.func220
end Go.Bx.oE
namespace Go.Bx.i9
def S1:Px:=⟨43,[sr 10,sd 11 .bool],[sc 10 T7]⟩
def top(Rt:zC α)(a:D3)(e:D0)(f:D4)(g:D0)(h:D4):Option α:=(aT.run a e f).bind fun b=>(aT.run a g h).bind fun c=>ite (cond (not b.2.1) true (not c.2.1)) (Rt false nM) ((cu.run a b.1 c.1).bind fun d=>Rt d.2.1 d.1)
def run:=top (fun a b=>some (b,a,()))
def F:Fn:=fm [T6,T1,T7,T1,T7] [T7,.bool] run
noncomputable def c:Cf:=cn 230 F ⟨Tryz.f230,[],[aT.c,cu.c],[],[],[(2,3,10)],[],[],0⟩ S1 (fun _=>top) (fun a b=>some (b,a,())) e0 bV Tryz.func230
end Go.Bx.i9
namespace Go.Bx.hO
def S1:Px:=⟨14,[],[sc 0 T1,sc 1 T1,sc 2 T1]⟩
def top(Rt:wG α)(e:Bool)(c a b:D0):Option α:=(jy.run c c a).bind fun d=>ite e ((jy.run d b a).bind fun f=>Rt f a b) (Rt d a b)
def run:=top (fun a b c=>some (a,b,c,()))
def Sp:Spec:=tE [hD .bool,.ref 0 0 [],.ref 1 0 [],.ref 2 0 []] [(0,hC T1 (hD T1) false),(1,hC T1 (hD T1) false),(2,hC T1 (hD T1) false)] [.bool,T1,T1,T1] (.tup []) [(0,hC T1 (hD T1) false),(1,hC T1 (hD T1) false),(2,hC T1 (hD T1) false)] [T1,T1,T1] run
noncomputable def s:Sf:=sn 244 Sp ⟨Tryz.f244,[],[jy.c],[],[],[(2,0,0)],[],[],3⟩ S1 (fun _=>top) ri e0 bV Tryz.func244
end Go.Bx.hO
namespace Go.Bx.dK
def S1:Px:=⟨39,[(1,.fn 244 [] [.ref 0 0 [],.ref 1 0 [],.ref 2 0 []]),st 2 5,sd 4 .bool,sd 5 T2],[sc 0 T1,sc 1 T1,sc 2 T1,sc 5 T1]⟩
def j0(Nx:Kj α):Kj α:=fun a b c d e f=>Nx a (wrap .i64 (b-1)) c d e f
def S2:Px:=⟨39,[(1,.fn 244 [] [.ref 0 0 [],.ref 1 0 [],.ref 2 0 []]),st 2 5,sd 4 .bool,sd 5 T2,sd 6 T2],[sc 0 T1,sc 1 T1,sc 2 T1,sc 5 T1]⟩
def j1(Nx:Cs α):Cs α:=fun a b c d e f g=>Nx a b (wrap .i64 (c-1)) d e f g
def ly(Nx:Cs α)(Xt2:Kj α):Cs α:=fun d a b e f g c=>ite (decide (b>=0)) (ite (0<=a/\a<(4:Int)) (ite (0<=b) (ite (cond d true ((cS .u64 (fS .u64 (c.getD a.toNat 0) b) 1)==1)) ((hO.run ((cS .u64 (fS .u64 (c.getD a.toNat 0) b) 1)==1) e f g).bind fun h=>j1 Nx (cond d true ((cS .u64 (fS .u64 (c.getD a.toNat 0) b) 1)==1)) a b h.1 h.2.1 h.2.2.1 c) (j1 Nx (cond d true ((cS .u64 (fS .u64 (c.getD a.toNat 0) b) 1)==1)) a b e f g c)) none) none) (Xt2 d a e f g c)
def l1(k:Nat)(Xt2:Kj α):Nat->Cs α
 |0=>kz (S:=S2)
 |n+1=>ly (l1 k Xt2 n) Xt2
def S3:Px:=⟨39,[],[sc 0 T1,sc 1 T1,sc 2 T1]⟩
def aR(k:Nat)(Nx:Kj α)(Xt0:wG α):Kj α:=fun b a c d e f=>ite (decide (a>=0)) (ite (0<=a/\a<(4:Int)) (ite (cond ((f.getD a.toNat 0)==0) (not b) false) (j0 Nx b a c d e f) (l1 k (j0 Nx) k b a 63 c d e f)) none) (Xt0 c d e)
def l0(k:Nat)(Xt0:wG α):Nat->Kj α
 |0=>kz (S:=S1)
 |n+1=>aR k (l0 k Xt0 n) Xt0
def top(k:Nat)(Rt:wG α)(a b:D0)(c d:D0):Option α:=l0 k Rt k false 3 b c d a
def run:=top fuel (fun a b c=>some (a,b,c,()))
def Sp:Spec:=tE [hD T1,.fn 244 [] [.ref 0 0 [],.ref 1 0 [],.ref 2 0 []]] [(0,hC T1 (hD T1) false),(1,hC T1 (hD T1) false),(2,hC T1 (hD T1) false)] [T1,T1,T1,T1] (.tup []) [(0,hC T1 (hD T1) false),(1,hC T1 (hD T1) false),(2,hC T1 (hD T1) false)] [T1,T1,T1] run
def w1(k:Nat)(Nx:K S2 α)(Xt2:K S1 α):List (Nat×dQ α):=[(36,.j S2 (j1 Nx))]
def w0(k:Nat)(Nx:K S1 α)(Xt0:K S3 α):List (Nat×dQ α):=[(20,.j S1 (j0 Nx)),(85,.l S2 (l1 k (j0 Nx)) fun n=>w1 k (l1 k (j0 Nx) n) (j0 Nx))]
def w(k:Nat)(Rt:K S3 α):List (Nat×dQ α):=[(37,.l S1 (l0 k Rt) fun n=>w0 k (l0 k Rt n) Rt)]
noncomputable def s:Sf:=sn 233 Sp ⟨Tryz.f233,[5,9],[],[hO.s],[(38,40)],[(2,0,0),(1,0,0),(4,27,1),(7,27,1),(10,59,1),(9,27,1),(12,27,1),(21,59,1),(24,59,1)],[],[],3⟩ S3 top ri w bV Tryz.func233
end Go.Bx.dK
namespace Go.Bx.om
def S1:Px:=⟨31,[sr 6,sd 7 T2],[sc 6 T1]⟩
def top(Rt:kn α)(b d a:D0):Option α:=(dt.run a [b]).bind fun c=>ite (c !=0) (Rt c [0,0,0,0]) ((bZ.run [1,0,0,0] a).bind fun e=>(dK.run d e.2.1 a b).bind fun f=>Rt 0 f.1)
def run:=top (fun a b=>some (b,a,()))
def F:Fn:=fm [T1,T1,T1] [T1,T2] run
noncomputable def c:Cf:=cn 239 F ⟨Tryz.f239,[],[bZ.c,dt.c],[dK.s],[(29,32)],[(2,3,6)],[],[],0⟩ S1 (fun _=>top) (fun a b=>some (b,a,())) e0 bV Tryz.func239
end Go.Bx.om
namespace Go.Bx.iT
def S1:Px:=⟨88,[sr 6,sd 7 T2],[sc 6 T7]⟩
def S2:Px:=⟨88,[sd 2 .bool,sr 3,sr 4,sr 6,sr 13],[sc 3 T6,sc 4 T1,sc 6 T7,sc 13 T1]⟩
def j0(Rt:rT α):Rz α:=fun b d c f a=>(if((not (az .bool ((tmod (a.getD 0 0) 2)==1) b))==false)=true then lB.run d (c,a,false,())else some false).bind fun e=>ite (cond (not (az .bool ((tmod (a.getD 0 0) 2)==1) b)) true (not e)) (Rt 16 nM) (Rt 0 (c,a,false,()))
def top(Rt:rT α)(a:D3)(b:D0)(d:Bool):Option α:=(eV.run a).bind fun f=>ite (f !=0) (Rt f nM) ((cQ.run b a.1).bind fun i=>ite (decide (i>=0)) (Rt 6 nM) ((cC.run a).bind fun e=>(bZ.run a.1 [4,0,0,0]).bind fun j=>(gb.run j.1 [1,0,0,0]).bind fun k=>(iI.run a e.1 b e.2.2.1).bind fun g=>(om.run g.1 k.1 a.1).bind fun h=>(cf.run e.1 h.1 h.2.1 g.2.1).bind fun c=>ite (not (az .bool ((tmod (c.1.getD 0 0) 2)==1) d)) (ite (not (az T1 c.1 [0,0,0,0])) ((gE.run a.1 c.1).bind fun l=>j0 Rt d a b nM l.1) (j0 Rt d a b nM c.1)) (j0 Rt d a b nM c.1)))
def run:=top (fun a b=>some (b,a,()))
def F:Fn:=fm [T6,T1,.bool] [T7,T2] run
def w(k:Nat)(Rt:K S1 α):List (Nat×dQ α):=[(56,.j S2 (j0 Rt))]
noncomputable def c:Cf:=cn 216 F ⟨Tryz.f216,[14],[eV.c,cQ.c,lB.c,gb.c,gE.c,bZ.c,om.c],[cC.s,cf.s,iI.s],[(28,89),(47,91),(54,92)],[(2,3,6),(39,2071,2)],[],[],0⟩ S1 (fun _=>top) (fun a b=>some (b,a,())) w bV Tryz.func216
end Go.Bx.iT
namespace Go.Bx.dD
def S1:Px:=⟨82,[sr 6,sd 7 T2],[sc 6 T7]⟩
def S2:Px:=⟨82,[sd 2 .bool,sr 3,sr 4,sr 6,sr 12],[sc 3 T6,sc 4 T1,sc 6 T7,sc 12 T1]⟩
def S3:Px:=⟨82,[sd 2 .bool,sr 3,sr 4,sr 6,sr 15,sd 59 T2],[sc 3 T6,sc 4 T1,sc 6 T7,sc 15 T1]⟩
def S4:Px:=⟨82,[sr 6],[sc 6 T7]⟩
def aR(Nx:Oa α)(Rt:rT α)(Xt0:Ob α):Oa α:=fun b e c d f a=>ite (decide (e<2)) ((if((az .bool ((cS .u64 (a.getD 0 0) 1)==1) b)==true)=true then ft.run c (d,a,false,())else some false).bind fun g=>ite (cond (az .bool ((cS .u64 (a.getD 0 0) 1)==1) b) g false) (Rt 0 (d,a,false,())) ((aZ.run a c.1).bind fun h=>Nx b (wrap .i64 (e+1)) c d f h)) (Xt0 f)
def l0(k:Nat)(Rt:rT α)(Xt0:Ob α):Nat->Oa α
 |0=>kz (S:=S3)
 |n+1=>aR (l0 k Rt Xt0 n) Rt Xt0
def j1(Rt:rT α):Ob α:=fun a=>Rt 16 nM
def j0(k:Nat)(Rt:rT α):Rz α:=fun c a b d e=>(fZ.run a b).bind fun f=>(bB.run f e a.1).bind fun g=>l0 k Rt (j1 Rt) k c 0 a b d g
def top(k:Nat)(Rt:rT α)(a:D3)(b:D0)(c:Bool):Option α:=(bz.run a).bind fun d=>ite (d !=0) (Rt d nM) ((aH.run b a.1).bind fun f=>ite (decide (f>=0)) (Rt 6 nM) ((ay.run a.1).bind fun g=>(aJ.run g [1]).bind fun h=>(aU.run h).bind fun e=>(aH.run e.1 a.1).bind fun i=>(cN.run e.1 [4,0,0,0]).bind fun j=>ite (decide (i<0)) (j0 k Rt c a b nM [0,0,0,4611686018427387904]) (j0 k Rt c a b nM j.1)))
def run:=top fuel (fun a b=>some (b,a,()))
def F:Fn:=fm [T6,T1,.bool] [T7,T2] run
def w(k:Nat)(Rt:K S1 α):List (Nat×dQ α):=[(80,.j S4 (j1 Rt)),(157,.l S3 (l0 k Rt (j1 Rt)) fun _=>[]),(48,.j S2 (j0 k Rt))]
noncomputable def c:Cf:=cn 228 F ⟨Tryz.f228,[12,20],[bz.c,aH.c,bB.c,ft.c,aJ.c,ay.c,cN.c,fZ.c,aU.c,aZ.c],[],[],[(2,3,6),(1,1,6),(4,144115188075864087,2),(33,1047,2),(39,144115188075864087,2),(57,1,6)],[],[],0⟩ S1 top (fun a b=>some (b,a,())) w bV Tryz.func228
end Go.Bx.dD
namespace Go.Bx.jh
def S1:Px:=⟨15,[sd 4 .bool],[]⟩
def top(Rt:eJ α)(b:D3)(a:D0):Option α:=(if((not (az T1 a [0,0,0,0]))==true)=true then cQ.run a b.2.2.2.1 else some 0).bind fun c=>Rt (cond (not (az T1 a [0,0,0,0])) (decide (c<0)) false)
def run:=top (fun a=>some a)
def F:Fn:=fo [T6,T1] .bool run
noncomputable def c:Cf:=cn 94 F ⟨Tryz.f94,[],[cQ.c],[],[],[(2,1,4)],[],[],0⟩ S1 (fun _=>top) (fun a=>some a) e0 bV Tryz.func94
end Go.Bx.jh
namespace Go.Bx.dj
def S1:Px:=⟨15,[sd 4 .bool],[]⟩
def top(Rt:eJ α)(c:D3)(a:D0):Option α:=(aE.run a).bind fun b=>(if((not b)==true)=true then aH.run a c.2.2.2.1 else some 0).bind fun d=>Rt (cond (not b) (decide (d<0)) false)
def run:=top (fun a=>some a)
def F:Fn:=fo [T6,T1] .bool run
noncomputable def c:Cf:=cn 127 F ⟨Tryz.f127,[],[aE.c,aH.c],[],[],[(2,1,4)],[],[],0⟩ S1 (fun _=>top) (fun a=>some a) e0 bV Tryz.func127
end Go.Bx.dj
namespace Go.Bx.oD
def S1:Px:=⟨16,[sr 4],[sc 4 T1]⟩
def top(Rt:gh α)(a b:D0):Option α:=(bZ.run a b).bind fun c=>Rt c.2.1
def run:=top (fun a=>some a)
def F:Fn:=fo [T1,T1] T1 run
noncomputable def c:Cf:=cn 218 F ⟨Tryz.f218,[],[bZ.c],[],[],[(2,1,4)],[],[],0⟩ S1 (fun _=>top) (fun a=>some a) e0 bV Tryz.func218
end Go.Bx.oD
namespace Go.Bx.qD
def S1:Px:=⟨20,[sd 4 .bool],[]⟩
def top(Rt:eJ α)(a:D3)(b:D0):Option α:=(bZ.run a.2.2.2.1 [2,0,0,0]).bind fun c=>(cQ.run b c.1).bind fun d=>Rt (decide (d<=0))
def run:=top (fun a=>some a)
def F:Fn:=fo [T6,T1] .bool run
noncomputable def c:Cf:=cn 238 F ⟨Tryz.f238,[],[cQ.c,bZ.c],[],[],[(2,1,4)],[],[],0⟩ S1 (fun _=>top) (fun a=>some a) e0 bV Tryz.func238
end Go.Bx.qD
namespace Go.Bx.mc
def S1:Px:=⟨31,[sd 4 .bool],[]⟩
def top(Rt:eJ α)(b:D3)(a:D6):Option α:=(jh.run b a.1).bind fun c=>(if(c==true)=true then jh.run b a.2.1 else some false).bind fun d=>(if((cond c d false)==true)=true then qD.run b a.2.1 else some false).bind fun e=>Rt (cond (cond (cond (cond c d false) e false) (decide (a.2.2.1>=0)) false) (decide (a.2.2.1<=3)) false)
def run:=top (fun a=>some a)
def F:Fn:=fo [T6,R5] .bool run
noncomputable def c:Cf:=cn 215 F ⟨Tryz.f215,[],[jh.c,qD.c],[],[],[(2,1,4)],[],[],0⟩ S1 (fun _=>top) (fun a=>some a) e0 bV Tryz.func215
end Go.Bx.mc
namespace Go.Bx.fY
def S1:Px:=⟨36,[sd 4 .bool],[]⟩
def top(Rt:eJ α)(c:D3)(a:D6):Option α:=(dj.run c a.1).bind fun b=>(if(b==true)=true then dj.run c a.2.1 else some false).bind fun d=>(if((cond b d false)==true)=true then aZ.run a.2.1 c.2.2.2.1 else some [0,0,0,0]).bind fun e=>(if((cond b d false)==true)=true then aH.run a.2.1 e else some 0).bind fun f=>Rt (cond (cond (cond (cond b d false) (decide (f<=0)) false) (decide (a.2.2.1>=0)) false) (decide (a.2.2.1<4)) false)
def run:=top (fun a=>some a)
def F:Fn:=fo [T6,R5] .bool run
noncomputable def c:Cf:=cn 227 F ⟨Tryz.f227,[],[aH.c,dj.c,aZ.c],[],[],[(2,1,4)],[],[],0⟩ S1 (fun _=>top) (fun a=>some a) e0 bV Tryz.func227
end Go.Bx.fY
namespace Go.Bx.jg
def S1:Px:=⟨122,[sr 6,sd 7 T2],[sc 6 T7]⟩
def S2:Px:=⟨122,[sr 3,sr 4,sr 5,sr 6,sr 9,sd 10 .bool],[sc 3 T6,sc 4 T9,sc 5 R5,sc 6 T7,sc 9 T1]⟩
def j0(Rt:rT α):Up α:=fun e a h c o f=>(if(e==false)=true then cQ.run f a.1 else some 0).bind fun i=>ite (cond e true (decide (i>=0))) (Rt 10 nM) ((iT.run a f ((tmod c.2.2.1 2)==1)).bind fun g=>ite (g.2.1 !=0) (Rt 10 nM) ((ic.run c.1 a.2.2.2.1).bind fun d=>ite (d.2.1 !=0) (Rt 16 nM) ((kT.run c.2.1 d.1 a.2.2.2.1).bind fun j=>(iQ.run h).bind fun k=>(oD.run k a.2.2.2.1).bind fun l=>(kT.run l d.1 a.2.2.2.1).bind fun m=>(kU.run [0,0,0,0] m.1 a.2.2.2.1).bind fun n=>(oE.run a j.1 g.1 n.1 a.2.2.2.2.1).bind fun b=>ite (b.2.1 !=0) (Rt b.2.1 nM) (ite b.1.2.2.1 (Rt 10 nM) (Rt 0 b.1)))))
def top(Rt:rT α)(b:D3)(c:D0)(a:D6):Option α:=(eV.run b).bind fun d=>ite (d !=0) (Rt d nM) ((mc.run b a).bind fun f=>ite (not f) (Rt 10 nM) (ite (decide (a.2.2.1>=2)) ((gb.run a.1 b.2.2.2.1).bind fun e=>j0 Rt e.2.1 b c a nM e.1) (j0 Rt false b c a nM a.1)))
def run:=top (fun a b=>some (b,a,()))
def F:Fn:=fm [T6,T9,R5] [T7,T2] run
def w(k:Nat)(Rt:K S1 α):List (Nat×dQ α):=[(40,.j S2 (j0 Rt))]
noncomputable def c:Cf:=cn 178 F ⟨Tryz.f178,[10],[eV.c,cQ.c,gb.c,kT.c,iQ.c,mc.c,iT.c,ic.c,oD.c,kU.c,oE.c],[],[],[(2,3,6),(27,207,3)],[],[],0⟩ S1 (fun _=>top) (fun a b=>some (b,a,())) w bV Tryz.func178
end Go.Bx.jg
namespace Go.Bx.eG
def S1:Px:=⟨111,[sr 6,sd 7 T2],[sc 6 T7]⟩
def S2:Px:=⟨111,[sr 3,sr 4,sr 5,sr 6,sd 9 lI],[sc 3 T6,sc 4 T9,sc 5 R5,sc 6 T7]⟩
def j0(Rt:rT α):UJ α:=fun g a h c p=>(aU.run g).bind fun b=>(if(b.2.1==false)=true then aH.run b.1 a.1 else some 0).bind fun i=>ite (cond b.2.1 true (decide (i>=0))) (Rt 10 nM) ((dD.run a b.1 ((cS .i64 c.2.2.1 1)==1)).bind fun f=>ite (f.2.1 !=0) (Rt 10 nM) ((d9.run c.1 a.2.2.2.1).bind fun d=>ite (not d.2.1) (Rt 16 nM) ((aO.run c.2.1 d.1 a.2.2.2.1).bind fun j=>(dp.run h).bind fun k=>(ay.run k).bind fun l=>(cb.run l a.2.2.2.1).bind fun m=>(aO.run m d.1 a.2.2.2.1).bind fun n=>(aZ.run n a.2.2.2.1).bind fun o=>(i9.run a j f.1 o a.2.2.2.2.1).bind fun e=>ite (not e.2.1) (Rt 16 nM) (ite e.1.2.2.1 (Rt 10 nM) (Rt 0 e.1)))))
def top(Rt:rT α)(a:D3)(c:D0)(b:D6):Option α:=(bz.run a).bind fun d=>ite (d !=0) (Rt d nM) ((fY.run a b).bind fun f=>ite (not f) (Rt 10 nM) ((ay.run b.1).bind fun e=>ite (decide (b.2.2.1>1)) ((ay.run a.2.2.2.1).bind fun g=>(aJ.run e g).bind fun h=>j0 Rt h a c b nM) (j0 Rt e a c b nM)))
def run:=top (fun a b=>some (b,a,()))
def F:Fn:=fm [T6,T9,R5] [T7,T2] run
def w(k:Nat)(Rt:K S1 α):List (Nat×dQ α):=[(40,.j S2 (j0 Rt))]
noncomputable def c:Cf:=cn 199 F ⟨Tryz.f199,[10],[bz.c,aH.c,aO.c,aJ.c,ay.c,cb.c,aU.c,dp.c,fY.c,dD.c,d9.c,i9.c,aZ.c],[],[],[(2,3,6),(27,79,3)],[],[],0⟩ S1 (fun _=>top) (fun a b=>some (b,a,())) w bV Tryz.func199
end Go.Bx.eG
namespace Go.Bx.eK
def S1:Px:=⟨17,[sd 4 T4],[]⟩
def top(Rt:gf α)(b a:Int):Option α:=ite (0<=(cS .u64 (wrap .u64 a) 63)) (ite (0<=(wrap .u64 (64-(cS .u64 (wrap .u64 a) 63)))) (Rt (jP .u64 (fD .u64 b (cS .u64 (wrap .u64 a) 63)) (fS .u64 b (wrap .u64 (64-(cS .u64 (wrap .u64 a) 63)))))) none) none
def run:=top (fun a=>some a)
def F:Fn:=fo [T4,T2] T4 run
noncomputable def c:Cf:=cn 243 F ⟨Tryz.f243,[],[],[],[],[(2,1,4)],[],[],0⟩ S1 (fun _=>top) (fun a=>some a) e0 bV Tryz.func243
end Go.Bx.eK
namespace Go.Bx.dY
def S1:Px:=⟨111,[sr 1,sr 2,sd 16 Ro,sd 17 T2],[sc 1 mh,sc 2 mh]⟩
def S2:Px:=⟨111,[sr 1,sr 2,sd 4 T4,sr 5,sd 16 Ro,sd 17 T2,sd 20 mh,sd 21 T2],[sc 1 mh,sc 2 mh,sc 5 PU]⟩
def S3:Px:=⟨111,[sr 1,sr 2,sd 4 T4,sr 5,sd 16 Ro,sd 17 T2],[sc 1 mh,sc 2 mh,sc 5 PU]⟩
def ly(Nx:Ss α)(Xt2:Lv α):Ss α:=fun c d e f a g h b=>ite (decide (a<25)) (ite (0<=a/\a<(25:Int)) (ite (0<=(tmod a 5)/\(tmod a 5)<(5:Int)) (ite (0<=(tmod a 5)/\(tmod a 5)<(5:Int)) (Nx c d e f (wrap .i64 (a+1)) g h (b.set (tmod a 5).toNat (ag .u64 (b.getD (tmod a 5).toNat 0) (f.getD a.toNat 0)))) none) none) none) (Xt2 c d e g h b)
def l1(k:Nat)(Xt2:Lv α):Nat->Ss α
 |0=>kz (S:=S2)
 |n+1=>ly (l1 k Xt2 n) Xt2
def S4:Px:=⟨111,[sr 1,sr 2,sd 4 T4,sr 5,sr 8,sd 16 Ro,sd 17 T2,sd 33 T2],[sc 1 mh,sc 2 mh,sc 5 PU,sc 8 mh]⟩
def S5:Px:=⟨111,[sr 1,sr 2,sd 4 T4,sr 8,sd 16 Ro,sd 17 T2],[sc 1 mh,sc 2 mh,sc 8 mh]⟩
def vw(Nx:Su α)(Xt4:Lv α):Su α:=fun d e f a b g c h=>ite (decide (a<25)) (ite (0<=a/\a<(25:Int)) (ite (0<=(tmod (wrap .i64 ((tmod a 5)+4)) 5)/\(tmod (wrap .i64 ((tmod a 5)+4)) 5)<(5:Int)) (ite (0<=(tmod (wrap .i64 ((tmod a 5)+1)) 5)/\(tmod (wrap .i64 ((tmod a 5)+1)) 5)<(5:Int)) ((eK.run (c.getD (tmod (wrap .i64 ((tmod a 5)+1)) 5).toNat 0) 1).bind fun i=>ite (0<=a/\a<(25:Int)) ((eK.run (ag .u64 (ag .u64 (b.getD a.toNat 0) (c.getD (tmod (wrap .i64 ((tmod a 5)+4)) 5).toNat 0)) i) (AR.getD a.toNat 0)).bind fun j=>ite (0<=(wrap .i64 ((wrap .i64 (tdiv a 5))+(wrap .i64 (5*(tmod (wrap .i64 ((wrap .i64 (2*(tmod a 5)))+(wrap .i64 (3*(wrap .i64 (tdiv a 5)))))) 5)))))/\(wrap .i64 ((wrap .i64 (tdiv a 5))+(wrap .i64 (5*(tmod (wrap .i64 ((wrap .i64 (2*(tmod a 5)))+(wrap .i64 (3*(wrap .i64 (tdiv a 5)))))) 5)))))<(25:Int)) (Nx d e f (wrap .i64 (a+1)) b g c (h.set (wrap .i64 ((wrap .i64 (tdiv a 5))+(wrap .i64 (5*(tmod (wrap .i64 ((wrap .i64 (2*(tmod a 5)))+(wrap .i64 (3*(wrap .i64 (tdiv a 5)))))) 5))))).toNat j)) none) none) none) none) none) (Xt4 d e f b g h)
def l2(k:Nat)(Xt4:Lv α):Nat->Su α
 |0=>kz (S:=S4)
 |n+1=>vw (l2 k Xt4 n) Xt4
def S6:Px:=⟨111,[sr 1,sr 2,sd 4 T4,sr 8,sd 16 Ro,sd 17 T2,sd 72 T2],[sc 1 mh,sc 2 mh,sc 8 mh]⟩
def S7:Px:=⟨111,[sr 1,sr 2,sd 4 T4,sd 16 Ro,sd 17 T2],[sc 1 mh,sc 2 mh]⟩
def VZ(Nx:Sv α)(Xt6:Sw α):Sv α:=fun c d e a f g b=>ite (decide (a<25)) (ite (0<=a/\a<(25:Int)) (ite (0<=(wrap .i64 ((tmod (wrap .i64 ((tmod a 5)+1)) 5)+(wrap .i64 (5*(wrap .i64 (tdiv a 5))))))/\(wrap .i64 ((tmod (wrap .i64 ((tmod a 5)+1)) 5)+(wrap .i64 (5*(wrap .i64 (tdiv a 5))))))<(25:Int)) (ite (0<=(wrap .i64 ((tmod (wrap .i64 ((tmod a 5)+2)) 5)+(wrap .i64 (5*(wrap .i64 (tdiv a 5))))))/\(wrap .i64 ((tmod (wrap .i64 ((tmod a 5)+2)) 5)+(wrap .i64 (5*(wrap .i64 (tdiv a 5))))))<(25:Int)) (ite (0<=a/\a<(25:Int)) (Nx c d e (wrap .i64 (a+1)) (f.set a.toNat (ag .u64 (b.getD a.toNat 0) (cS .u64 (ag .u64 18446744073709551615 (b.getD (wrap .i64 ((tmod (wrap .i64 ((tmod a 5)+1)) 5)+(wrap .i64 (5*(wrap .i64 (tdiv a 5)))))).toNat 0)) (b.getD (wrap .i64 ((tmod (wrap .i64 ((tmod a 5)+2)) 5)+(wrap .i64 (5*(wrap .i64 (tdiv a 5)))))).toNat 0)))) g b) none) none) none) none) (Xt6 c d e f g)
def l3(k:Nat)(Xt6:Sw α):Nat->Sv α
 |0=>kz (S:=S6)
 |n+1=>VZ (l3 k Xt6 n) Xt6
def j3(Nx:oX α):oX α:=fun a b c d=>Nx a (wrap .i64 (b+1)) c d
def j2(Nx:oX α):Sw α:=fun b c d a e=>j3 Nx c d (a.set 0 (ag .u64 (a.getD 0 0) b)) e
def j1(k:Nat)(Nx:oX α):Lv α:=fun a b c d e f=>l3 k (j2 Nx) k a b c 0 d e f
def j0(k:Nat)(Nx:oX α):Lv α:=fun a b c d e f=>l2 k (j1 k Nx) k a b c 0 d e f (replicate 25 0)
def S8:Px:=⟨111,[sr 1,sr 2],[sc 1 mh,sc 2 mh]⟩
def aR(k:Nat)(Nx:oX α)(Xt0:lP α):oX α:=fun c a b d=>ite (decide (a<24)) (ite (0<=a/\a<(24:Int)) (l1 k (j0 k Nx) k (c.getD a.toNat 0) c a b 0 b d [0,0,0,0,0]) none) (Xt0 b d)
def l0(k:Nat)(Xt0:lP α):Nat->oX α
 |0=>kz (S:=S1)
 |n+1=>aR k (l0 k Xt0 n) Xt0
def S9:Px:=⟨111,[sr 2],[sc 2 mh]⟩
def j4(Rt:gh α):lP α:=fun a b=>Rt a
def top(k:Nat)(Rt:gh α)(a:D0):Option α:=l0 k (j4 Rt) k ek 0 a (replicate 25 0)
def run:=top fuel (fun a=>some a)
def F:Fn:=fo [mh] mh run
def w0(k:Nat)(Nx:K S1 α)(Xt0:K S8 α):List (Nat×dQ α):=[(104,.j S1 (j3 Nx)),(100,.j S7 (j2 Nx)),(229,.l S6 (l3 k (j2 Nx)) fun _=>[]),(76,.j S5 (j1 k Nx)),(145,.l S4 (l2 k (j1 k Nx)) fun _=>[]),(44,.j S3 (j0 k Nx)),(73,.l S2 (l1 k (j0 k Nx)) fun _=>[])]
def w(k:Nat)(Rt:K S9 α):List (Nat×dQ α):=[(108,.j S8 (j4 Rt)),(25,.l S1 (l0 k (j4 Rt)) fun n=>w0 k (l0 k (j4 Rt) n) (j4 Rt))]
noncomputable def c:Cf:=cn 235 F ⟨Tryz.f235,[11,19,25,26,27],[eK.c],[],[],[(2,1,2),(1,3,1),(4,98307,1),(19,98315,1),(22,2361183241434822705291,1),(13,98443,1),(16,4295065755,1),(7,98331,1),(10,1671195,1),(6,98307,1),(18,1671195,1),(30,98331,1),(36,4295065755,1),(54,98443,1),(57,2361183241434822705291,1),(72,98315,1),(75,98307,1),(78,3,1)],[],[],0⟩ S9 top (fun a=>some a) w bV Tryz.func235
end Go.Bx.dY
namespace Go.Bx.aG
def SV:List Int:=[48,48,48,48,48,48,48,48,48,48,48,48,48,48,48,49,48,48,48,48,48,48,48,48,48,48,48,48,56,48,56,50,56,48,48,48,48,48,48,48,48,48,48,48,56,48,56,97,56,48,48,48,48,48,48,48,56,48,48,48,56,48,48,48,48,48,48,48,48,48,48,48,48,48,48,48,56,48,56,98,48,48,48,48,48,48,48,48,56,48,48,48,48,48,48,49,56,48,48,48,48,48,48,48,56,48,48,48,56,48,56,49,56,48,48,48,48,48,48,48,48,48,48,48,56,48,48,57,48,48,48,48,48,48,48,48,48,48,48,48,48,48,56,97,48,48,48,48,48,48,48,48,48,48,48,48,48,48,56,56,48,48,48,48,48,48,48,48,56,48,48,48,56,48,48,57,48,48,48,48,48,48,48,48,56,48,48,48,48,48,48,97,48,48,48,48,48,48,48,48,56,48,48,48,56,48,56,98,56,48,48,48,48,48,48,48,48,48,48,48,48,48,56,98,56,48,48,48,48,48,48,48,48,48,48,48,56,48,56,57,56,48,48,48,48,48,48,48,48,48,48,48,56,48,48,51,56,48,48,48,48,48,48,48,48,48,48,48,56,48,48,50,56,48,48,48,48,48,48,48,48,48,48,48,48,48,56,48,48,48,48,48,48,48,48,48,48,48,48,48,56,48,48,97,56,48,48,48,48,48,48,48,56,48,48,48,48,48,48,97,56,48,48,48,48,48,48,48,56,48,48,48,56,48,56,49,56,48,48,48,48,48,48,48,48,48,48,48,56,48,56,48,48,48,48,48,48,48,48,48,56,48,48,48,48,48,48,49,56,48,48,48,48,48,48,48,56,48,48,48,56,48,48,56]
def S1:Px:=⟨34,[sd 3 T4,sd 13 mO,sd 14 T2,sd 15 T2],[]⟩
def S2:Px:=⟨34,[sd 3 T4,sd 6 T4,sd 13 mO,sd 14 T2,sd 15 T2],[]⟩
def j0(Nx:qo α):UA α:=fun a b c d e=>Nx (wrap .u64 ((wrap .u64 (a*16))+b)) c d (wrap .i64 (e+1))
def S3:Px:=⟨34,[sd 3 T4],[]⟩
def aR(Nx:qo α)(Xt0:gf α):qo α:=fun c b d a=>ite (decide (a<d)) (ite (0<=a/\a<(b.length:Int)) (ite (decide ((b.getD a.toNat 0)>=97)) (j0 Nx c (wrap .u64 ((wrap .u64 (wrap .u8 ((b.getD a.toNat 0)-97)))+10)) b d a) (j0 Nx c (wrap .u64 (wrap .u8 ((b.getD a.toNat 0)-48))) b d a)) none) (Xt0 c)
def l0(k:Nat)(Xt0:gf α):Nat->qo α
 |0=>kz (S:=S1)
 |n+1=>aR (l0 k Xt0 n) Xt0
def S4:Px:=⟨34,[sd 2 T4],[]⟩
def j1(Rt:gf α):gf α:=fun a=>Rt a
def top(k:Nat)(Rt:gf α)(a:Int):Option α:=ite (0<=(wrap .i64 (16*a))/\(wrap .i64 (16*a))<=(wrap .i64 ((wrap .i64 (16*a))+16))/\(wrap .i64 ((wrap .i64 (16*a))+16))<=(SV.length:Int)) (l0 k (j1 Rt) k 0 (aA SV (wrap .i64 (16*a)) (wrap .i64 ((wrap .i64 (16*a))+16))) ((aA SV (wrap .i64 (16*a)) (wrap .i64 ((wrap .i64 (16*a))+16))).length:Int) 0) none
def run:=top fuel (fun a=>some a)
def F:Fn:=fo [T2] T4 run
def w0(k:Nat)(Nx:K S1 α)(Xt0:K S3 α):List (Nat×dQ α):=[(36,.j S2 (j0 Nx))]
def w(k:Nat)(Rt:K S4 α):List (Nat×dQ α):=[(44,.j S3 (j1 Rt)),(37,.l S1 (l0 k (j1 Rt)) fun n=>w0 k (l0 k (j1 Rt) n) (j1 Rt))]
noncomputable def c:Cf:=cn 245 F ⟨Tryz.f245,[9,11],[],[],[],[(2,1,2),(1,1,3),(4,7169,3),(9,7169,3),(24,7177,3),(30,1,3)],[],[],0⟩ S4 top (fun a=>some a) w bV Tryz.func245
end Go.Bx.aG
namespace Go.Bx.bw
def S1:Px:=⟨164,[sr 1,sr 2,sd 16 T2],[sc 1 mh,sc 2 mh]⟩
def S2:Px:=⟨164,[sr 1,sr 2,sd 3 T2,sr 4,sd 16 T2,sd 19 T2],[sc 1 mh,sc 2 mh,sc 4 PU]⟩
def S3:Px:=⟨164,[sr 1,sr 2,sd 3 T2,sr 4,sd 16 T2],[sc 1 mh,sc 2 mh,sc 4 PU]⟩
def ly(Nx:uF α)(Xt2:Qq α):uF α:=fun c d a b e f=>ite (decide (a<5)) (ite (0<=a/\a<(25:Int)) (ite (0<=(wrap .i64 (a+5))/\(wrap .i64 (a+5))<(25:Int)) (ite (0<=(wrap .i64 (a+10))/\(wrap .i64 (a+10))<(25:Int)) (ite (0<=(wrap .i64 (a+15))/\(wrap .i64 (a+15))<(25:Int)) (ite (0<=(wrap .i64 (a+20))/\(wrap .i64 (a+20))<(25:Int)) (ite (0<=a/\a<(5:Int)) (Nx c d (wrap .i64 (a+1)) b e (f.set a.toNat (ag .u64 (ag .u64 (ag .u64 (ag .u64 (b.getD a.toNat 0) (b.getD (wrap .i64 (a+5)).toNat 0)) (b.getD (wrap .i64 (a+10)).toNat 0)) (b.getD (wrap .i64 (a+15)).toNat 0)) (b.getD (wrap .i64 (a+20)).toNat 0)))) none) none) none) none) none) none) (Xt2 c d b e f)
def l1(k:Nat)(Xt2:Qq α):Nat->uF α
 |0=>kz (S:=S2)
 |n+1=>ly (l1 k Xt2 n) Xt2
def S4:Px:=⟨164,[sr 1,sr 2,sd 3 T2,sr 4,sd 16 T2,sd 48 T2],[sc 1 mh,sc 2 mh,sc 4 PU]⟩
def S5:Px:=⟨164,[sr 1,sr 2,sd 3 T2,sr 4,sd 6 T2,sd 7 T4,sd 8 T2,sd 16 T2,sd 48 T2],[sc 1 mh,sc 2 mh,sc 4 PU]⟩
def VZ(Nx:NK α)(Xt6:uF α):NK α:=fun d b e a f g c h i=>ite (decide (a<25)) (ite (0<=(wrap .i64 (b+a))/\(wrap .i64 (b+a))<(25:Int)) (ite (0<=(wrap .i64 (b+a))/\(wrap .i64 (b+a))<(25:Int)) (Nx d b e (wrap .i64 (a+5)) f g (c.set (wrap .i64 (b+a)).toNat (ag .u64 (c.getD (wrap .i64 (b+a)).toNat 0) e)) h i) none) none) (Xt6 d f g c h i)
def l3(k:Nat)(Xt6:uF α):Nat->NK α
 |0=>kz (S:=S5)
 |n+1=>VZ (l3 k Xt6 n) Xt6
def j1(Nx:uF α):uF α:=fun a b c d e f=>Nx a b (wrap .i64 (c+1)) d e f
def S6:Px:=⟨164,[sr 1,sr 2,sd 3 T2,sd 16 T2],[sc 1 mh,sc 2 mh]⟩
def vw(k:Nat)(Nx:uF α)(Xt4:zE α):uF α:=fun c d a e f b=>ite (decide (a<5)) (ite (0<=(tmod (wrap .i64 (a+4)) 5)/\(tmod (wrap .i64 (a+4)) 5)<(5:Int)) (ite (0<=(tmod (wrap .i64 (a+1)) 5)/\(tmod (wrap .i64 (a+1)) 5)<(5:Int)) ((eK.run (b.getD (tmod (wrap .i64 (a+1)) 5).toNat 0) 1).bind fun g=>l3 k (j1 Nx) k c a (ag .u64 (b.getD (tmod (wrap .i64 (a+4)) 5).toNat 0) g) 0 d a e f b) none) none) (Xt4 c d e f)
def l2(k:Nat)(Xt4:zE α):Nat->uF α
 |0=>kz (S:=S4)
 |n+1=>vw k (l2 k Xt4 n) Xt4
def S7:Px:=⟨164,[sr 1,sr 2,sd 3 T2,sd 9 T2,sd 10 T2,sd 11 T4,sd 16 T2,sd 78 T2],[sc 1 mh,sc 2 mh]⟩
def Xi(Nx:NL α)(Xt8:zE α):NL α:=fun e b a h f c d g=>ite (decide (c<24)) (ite (0<=(wrap .i64 (a+(wrap .i64 (5*(tmod (wrap .i64 ((wrap .i64 (2*b))+(wrap .i64 (3*a)))) 5)))))/\(wrap .i64 (a+(wrap .i64 (5*(tmod (wrap .i64 ((wrap .i64 (2*b))+(wrap .i64 (3*a)))) 5)))))<(25:Int)) ((eK.run h (wrap .i64 (tdiv (wrap .i64 ((wrap .i64 (c+1))*(wrap .i64 (c+2)))) 2))).bind fun i=>ite (0<=(wrap .i64 (a+(wrap .i64 (5*(tmod (wrap .i64 ((wrap .i64 (2*b))+(wrap .i64 (3*a)))) 5)))))/\(wrap .i64 (a+(wrap .i64 (5*(tmod (wrap .i64 ((wrap .i64 (2*b))+(wrap .i64 (3*a)))) 5)))))<(25:Int)) (Nx e a (tmod (wrap .i64 ((wrap .i64 (2*b))+(wrap .i64 (3*a)))) 5) (d.getD (wrap .i64 (a+(wrap .i64 (5*(tmod (wrap .i64 ((wrap .i64 (2*b))+(wrap .i64 (3*a)))) 5))))).toNat 0) f (wrap .i64 (c+1)) (d.set (wrap .i64 (a+(wrap .i64 (5*(tmod (wrap .i64 ((wrap .i64 (2*b))+(wrap .i64 (3*a)))) 5))))).toNat i) g) none) none) (Xt8 e f d g)
def l4(k:Nat)(Xt8:zE α):Nat->NL α
 |0=>kz (S:=S7)
 |n+1=>Xi (l4 k Xt8 n) Xt8
def S8:Px:=⟨164,[sr 1,sr 2,sd 3 T2,sd 13 T2,sd 16 T2],[sc 1 mh,sc 2 mh]⟩
def S9:Px:=⟨164,[sr 1,sr 2,sd 3 T2,sd 13 T2,sr 14,sd 16 T2,sd 132 T2],[sc 1 mh,sc 2 mh,sc 14 PU]⟩
def Xk(Nx:NM α)(Xt12:Ba α):NM α:=fun d b e a f g c=>ite (decide (a<5)) (ite (0<=a/\a<(5:Int)) (ite (0<=(tmod (wrap .i64 (a+1)) 5)/\(tmod (wrap .i64 (a+1)) 5)<(5:Int)) (ite (0<=(tmod (wrap .i64 (a+2)) 5)/\(tmod (wrap .i64 (a+2)) 5)<(5:Int)) (ite (0<=(wrap .i64 (b+a))/\(wrap .i64 (b+a))<(25:Int)) (Nx d b e (wrap .i64 (a+1)) (f.set (wrap .i64 (b+a)).toNat (ag .u64 (c.getD a.toNat 0) (cS .u64 (ag .u64 18446744073709551615 (c.getD (tmod (wrap .i64 (a+1)) 5).toNat 0)) (c.getD (tmod (wrap .i64 (a+2)) 5).toNat 0)))) g c) none) none) none) none) (Xt12 d b e f g)
def l6(k:Nat)(Xt12:Ba α):Nat->NM α
 |0=>kz (S:=S9)
 |n+1=>Xk (l6 k Xt12 n) Xt12
def j4(Nx:Ba α):Ba α:=fun a b c d e=>Nx a (wrap .i64 (b+5)) c d e
def Xj(k:Nat)(Nx:Ba α)(Xt10:zE α):Ba α:=fun c a d b e=>ite (decide (a<25)) (ite (0<=a/\a<(25:Int)) (ite (0<=(wrap .i64 (a+1))/\(wrap .i64 (a+1))<(25:Int)) (ite (0<=(wrap .i64 (a+2))/\(wrap .i64 (a+2))<(25:Int)) (ite (0<=(wrap .i64 (a+3))/\(wrap .i64 (a+3))<(25:Int)) (ite (0<=(wrap .i64 (a+4))/\(wrap .i64 (a+4))<(25:Int)) (l6 k (j4 Nx) k c a d 0 b e [(b.getD a.toNat 0),(b.getD (wrap .i64 (a+1)).toNat 0),(b.getD (wrap .i64 (a+2)).toNat 0),(b.getD (wrap .i64 (a+3)).toNat 0),(b.getD (wrap .i64 (a+4)).toNat 0)]) none) none) none) none) none) (Xt10 c d b e)
def l5(k:Nat)(Xt10:zE α):Nat->Ba α
 |0=>kz (S:=S8)
 |n+1=>Xj k (l5 k Xt10 n) Xt10
def j6(Nx:vv α):vv α:=fun a b c=>Nx (wrap .i64 (a+1)) b c
def j5(Nx:vv α):zE α:=fun b c a d=>(aG.run b).bind fun e=>j6 Nx c (a.set 0 (ag .u64 (a.getD 0 0) e)) d
def j3(k:Nat)(Nx:vv α):zE α:=fun a b c d=>l5 k (j5 Nx) k a 0 b c d
def j2(k:Nat)(Nx:vv α):zE α:=fun b c a d=>l4 k (j3 k Nx) k b 1 0 (a.getD 1 0) c 0 a d
def j0(k:Nat)(Nx:vv α):Qq α:=fun a b c d e=>l2 k (j2 k Nx) k a b 0 c d e
def WI:Px:=⟨164,[sr 1,sr 2],[sc 1 mh,sc 2 mh]⟩
def aR(k:Nat)(Nx:vv α)(Xt0:lP α):vv α:=fun a b c=>ite (decide (a<24)) (l1 k (j0 k Nx) k a a 0 b c [0,0,0,0,0]) (Xt0 b c)
def l0(k:Nat)(Xt0:lP α):Nat->vv α
 |0=>kz (S:=S1)
 |n+1=>aR k (l0 k Xt0 n) Xt0
def WJ:Px:=⟨164,[sr 2],[sc 2 mh]⟩
def j7(Rt:gh α):lP α:=fun a b=>Rt a
def top(k:Nat)(Rt:gh α)(a:D0):Option α:=l0 k (j7 Rt) k 0 a (replicate 25 0)
def run:=top fuel (fun a=>some a)
def F:Fn:=fo [mh] mh run
def w2(k:Nat)(Nx:K S4 α)(Xt4:K S6 α):List (Nat×dQ α):=[(76,.j S4 (j1 Nx)),(181,.l S5 (l3 k (j1 Nx)) fun _=>[])]
def w5(k:Nat)(Nx:K S8 α)(Xt10:K S6 α):List (Nat×dQ α):=[(116,.j S8 (j4 Nx)),(373,.l S9 (l6 k (j4 Nx)) fun _=>[])]
def w0(k:Nat)(Nx:K S1 α)(Xt0:K WI α):List (Nat×dQ α):=[(148,.j S1 (j6 Nx)),(144,.j S6 (j5 Nx)),(325,.l S8 (l5 k (j5 Nx)) fun n=>w5 k (l5 k (j5 Nx) n) (j5 Nx)),(108,.j S6 (j3 k Nx)),(253,.l S7 (l4 k (j3 k Nx)) fun _=>[]),(80,.j S6 (j2 k Nx)),(133,.l S4 (l2 k (j2 k Nx)) fun n=>w2 k (l2 k (j2 k Nx) n) (j2 k Nx)),(44,.j S3 (j0 k Nx)),(73,.l S2 (l1 k (j0 k Nx)) fun _=>[])]
def w(k:Nat)(Rt:K WJ α):List (Nat×dQ α):=[(152,.j WI (j7 Rt)),(25,.l S1 (l0 k (j7 Rt)) fun n=>w0 k (l0 k (j7 Rt) n) (j7 Rt))]
noncomputable def c:Cf:=cn 242 F ⟨Tryz.f242,[11,19,20,27,29,36,37,38],[eK.c,aG.c],[],[],[(2,1,2),(1,3,1),(4,32771,1),(31,32775,1),(34,36871,1),(37,36871,1),(40,2722258935367507707706996859454145736711,1),(25,32775,1),(28,151115727451828646872839,1),(13,32775,1),(16,140737488388111,1),(19,140737488388111,1),(22,140737488388335,1),(7,32783,1),(10,294927,1),(6,32771,1),(18,294927,1),(30,32783,1),(33,140737488388111,1),(45,140737488388335,1),(54,140737488388111,1),(57,32775,1),(63,151115727451828646872839,1),(78,32775,1),(81,36871,1),(84,36871,1),(93,2722258935367507707706996859454145736711,1),(105,32775,1),(108,32771,1),(111,3,1)],[],[],0⟩ WJ top (fun a=>some a) w bV Tryz.func242
end Go.Bx.bw
namespace Go.Bx.eW
def S1:Px:=⟨30,[sr 1,sr 2,sd 6 VB,sd 7 T2],[sc 1 tI,sc 2 tI]⟩
def S2:Px:=⟨30,[sr 1,sr 2],[sc 1 tI,sc 2 tI]⟩
def aR(Nx:Lx α)(Xt0:E1 α):Lx α:=fun c a b d=>ite (decide (a<136)) (ite (0<=a/\a<(136:Int)) (ite (0<=(wrap .i64 (tdiv a 8))/\(wrap .i64 (tdiv a 8))<(25:Int)) (ite (0<=(wrap .i64 (8*(tmod a 8)))) (ite (0<=(wrap .i64 (tdiv a 8))/\(wrap .i64 (tdiv a 8))<(25:Int)) (Nx c (wrap .i64 (a+1)) ((b.1.set (wrap .i64 (tdiv a 8)).toNat (ag .u64 (b.1.getD (wrap .i64 (tdiv a 8)).toNat 0) (fD .u64 (wrap .u64 (c.getD a.toNat 0)) (wrap .i64 (8*(tmod a 8)))))),b.2) d) none) none) none) none) (Xt0 b d)
def l0(k:Nat)(Xt0:E1 α):Nat->Lx α
 |0=>kz (S:=S1)
 |n+1=>aR (l0 k Xt0 n) Xt0
def S3:Px:=⟨30,[sr 2],[sc 2 tI]⟩
def j0(Rt:Sx α):E1 α:=fun a c=>(dY.run a.1).bind fun b=>Rt (b,(replicate 136 0),0,())
def top(k:Nat)(Rt:Sx α)(a:D6):Option α:=l0 k (j0 Rt) k a.2.1 0 a ((replicate 25 0),(replicate 136 0),0,())
def run:=top fuel (fun a=>some a)
def F:Fn:=fo [tI] tI run
def w(k:Nat)(Rt:K S3 α):List (Nat×dQ α):=[(28,.j S2 (j0 Rt)),(25,.l S1 (l0 k (j0 Rt)) fun _=>[])]
noncomputable def c:Cf:=cn 211 F ⟨Tryz.f211,[7],[dY.c],[],[],[(2,1,2),(1,3,1),(4,99,1),(6,99,1),(18,3,1)],[],[],0⟩ S3 top (fun a=>some a) w bV Tryz.func211
end Go.Bx.eW
namespace Go.Bx.bj
def S1:Px:=⟨34,[sd 1 .str,sr 2,sr 4,sd 5 T2],[sc 2 mh,sc 4 mh]⟩
def S2:Px:=⟨34,[sd 1 .str,sr 2,sr 4,sd 5 T2,sd 6 T4,sd 7 T2],[sc 2 mh,sc 4 mh]⟩
def S3:Px:=⟨34,[sd 1 .str,sr 2,sr 4,sd 5 T2,sd 6 T4],[sc 2 mh,sc 4 mh]⟩
def ly(Nx:NN α)(Xt2:NO α):NN α:=fun c a d b e f=>ite (decide (b>=0)) (ite (0<=(wrap .i64 (a+b))/\(wrap .i64 (a+b))<(c.length:Int)) (Nx c a (wrap .u64 ((wrap .u64 (d*256))+(wrap .u64 (c.getD (wrap .i64 (a+b)).toNat 0)))) (wrap .i64 (b-1)) e f) none) (Xt2 c a d e f)
def l1(k:Nat)(Xt2:NO α):Nat->NN α
 |0=>kz (S:=S2)
 |n+1=>ly (l1 k Xt2 n) Xt2
def j1(Nx:oX α):oX α:=fun a b c d=>Nx a (wrap .i64 (b+8)) c d
def j0(Nx:oX α):NO α:=fun c a d b e=>ite (0<=(wrap .i64 (tdiv a 8))/\(wrap .i64 (tdiv a 8))<(25:Int)) (ite (0<=(wrap .i64 (tdiv a 8))/\(wrap .i64 (tdiv a 8))<(25:Int)) (j1 Nx c a (b.set (wrap .i64 (tdiv a 8)).toNat (ag .u64 (b.getD (wrap .i64 (tdiv a 8)).toNat 0) d)) e) none) none
def S4:Px:=⟨34,[sr 2,sr 4],[sc 2 mh,sc 4 mh]⟩
def aR(k:Nat)(Nx:oX α)(Xt0:lP α):oX α:=fun d a b c=>ite (decide (a<136)) (l1 k (j0 Nx) k d a 0 7 b c) (Xt0 b c)
def l0(k:Nat)(Xt0:lP α):Nat->oX α
 |0=>kz (S:=S1)
 |n+1=>aR k (l0 k Xt0 n) Xt0
def S5:Px:=⟨34,[sr 4],[sc 4 mh]⟩
def j2(Rt:gh α):lP α:=fun a c=>(bw.run a).bind fun b=>Rt b
def top(k:Nat)(Rt:gh α)(a b:D0):Option α:=l0 k (j2 Rt) k b 0 a (replicate 25 0)
def run:=top fuel (fun a=>some a)
def F:Fn:=fo [mh,.str] mh run
def w0(k:Nat)(Nx:K S1 α)(Xt0:K S4 α):List (Nat×dQ α):=[(16,.j S1 (j1 Nx)),(40,.j S3 (j0 Nx)),(73,.l S2 (l1 k (j0 Nx)) fun _=>[])]
def w(k:Nat)(Rt:K S5 α):List (Nat×dQ α):=[(44,.j S4 (j2 Rt)),(25,.l S1 (l0 k (j2 Rt)) fun n=>w0 k (l0 k (j2 Rt) n) (j2 Rt))]
noncomputable def c:Cf:=cn 224 F ⟨Tryz.f224,[4,10,11],[bw.c],[],[],[(2,1,4),(1,5,2),(4,27,1),(7,59,1),(10,123,1),(6,27,1),(9,27,1),(18,123,1),(27,59,1),(30,5,2)],[],[],0⟩ S5 top (fun a=>some a) w bV Tryz.func224
end Go.Bx.bj
namespace Go.Bx.fb
def Js:List Nat:=[10]
def C:Ctx:=⟨[(3,T2),(5,rS),(53,T2),(66,mO),(214,VB),(216,tI)],[],[],Sl [],SZ,[],Gv [],[(2,[2]),(1,[]),(4,[16,17,18]),(12,[16,17,18]),(27,[])],[],[],0,0⟩
def PT(a:D6):St:=Q7 25 [(0,.data tI a)] []
def MB(a:Int):St:=Q7 25 [(2,.data T2 a)] []
def TY(x16l a b:Int)(c:D6):St:=Q7 25 [(16,.view 1 [.fld 1] rS 136 x16l 136),(17,.data T2 a),(18,.data T2 b)] [(1,.cell tI (.data tI c) false)]
noncomputable def Vl:Code:=cL (cL (cR (cL (cR (cR (cB Tryz.f210))))))
def VA:St:=Q7 25 [] []
def aR(Nx:Int->Int->Int->D6->Option α)(Rt:Int->Option α)(Xt0:Option α)(x16l b a:Int)(c:D6):Option α:=
 if(decide (a<b))=true then
  if 0<=a/\a<(136-x16l)then
   if((List.getD c.2.1 (Int.toNat (x16l+a)) 0) !=0)=true then
    Rt 12
   else
    Nx x16l b (IntKind.i64.wrap (a+1)) c
  else none
 else
  Xt0
theorem SR(k:Nat)(next:St->Option α)(Q:Ex->St->Option α)(x16l a b:Int)(c:D6):
  V4 C k Vl 12 Q next (TY x16l a b c)=aR (fun x16l a b c=>next (TY x16l a b c)) (fun d=>Q .ret (MB d)) (Q (.exit 0) VA) x16l a b c:=zY Js (by kernel_rfl)
def l0(k:Nat)(Rt:Int->Option α)(Xt0:Option α):Nat->Int->Int->Int->D6->Option α
 |0,_,_,_,_=>none
 |n+1,x16l,a,b,c=>aR (l0 k Rt Xt0 n) Rt Xt0 x16l a b c
theorem RF(k:Nat)(Q:Ex->St->Option α):∀(n:Nat)(x16l a b:Int)(c:D6),iter (V4 C k Vl 12 Q) n (TY x16l a b c)=l0 k (fun d=>Q .ret (MB d)) (Q (.exit 0) VA) n x16l a b c
 |0,_,_,_,_=>rfl
 |n+1,x16l,a,b,c=>(Lt _ _ _).trans ((SR k _ Q x16l a b c).trans (congrArg (fun N=>aR N (fun d=>Q .ret (MB d)) (Q (.exit 0) VA) x16l a b c) (by funext;exact RF k Q n _ _ _ _)))
theorem Ov(k:Nat)(Rt:Int->Option α)(Xt0:Option α)(Rtq:Int->Option α)(Xt0q:Option α)(hRt:∀(a:Int),Rt a=Rtq a)(hXt0:Xt0=Xt0q)(n:Nat)(x16l b c:Int)(d:D6):l0 k Rt Xt0 n x16l b c d=l0 k Rtq Xt0q n x16l b c d:=by
 obtain rfl:Rt=Rtq:=by funext a;exact hRt a
 obtain rfl:Xt0=Xt0q:=hXt0;rfl
noncomputable def Vm:Code:=cR (cR (cR (cB Tryz.f210)))
def WK:St:=Q7 25 [] []
def j0(Rt:Int->Option α):Option α:=
 Rt 0
theorem Un(k:Nat)(Q:Ex->St->Option α):
  (den C k) Vm Q WK=j0 (fun a=>Q .ret (MB a)):=zY Js (by kernel_rfl)
theorem a0(k:Nat)(Q:Ex->St->Option α)(x16l c d:Int)(e:D6):
  (lp C k) Vl (Ao C 0 (sq (den C k) (lp C k) Js C Vm Q)) (TY x16l c d e)=l0 k (fun a=>(fun a=>Q .ret (MB a)) a) (j0 (fun a=>Q .ret (MB a))) k x16l c d e:=
 (Qy 12 (by kernel_rfl)).trans ((RF k _ k x16l c d e).trans (Ov k _ _ _ _ (fun a=>(by kernel_rfl)) (Eq.trans (b:=(den C k) Vm Q WK) (by kernel_rfl) (by simp only[Un])) k x16l c d e))
def top(k:Nat)(Rt:Int->Option α)(a:D6):Option α:=
 if(cond (decide (a.2.2.1<0)) true (decide (a.2.2.1>=136)))=true then
  Rt 12
 else
  if 0<=a.2.2.1/\a.2.2.1<=(136:Int)/\(136:Int)<=(136:Int)then
   l0 k (fun b=>Rt b) (j0 Rt) k a.2.2.1 ((aA a.2.1 a.2.2.1 136).length:Int) 0 a
  else none
theorem B1(k:Nat)(Q:Ex->St->Option α)(a:D6):
  (den C k) (cB Tryz.f210) Q (PT a)=top k (fun b=>Q .ret (MB b)) a:=by
 have h:∀(D L:DT α),sH D L Js C (cB Tryz.f210) Q (PT a)=
    if(cond (decide (a.2.2.1<0)) true (decide (a.2.2.1>=136)))=true then
     Q .ret (MB 12)
    else
     if 0<=a.2.2.1/\a.2.2.1<=(136:Int)/\(136:Int)<=(136:Int)then
      L Vl (Ao C 0 (sq D L Js C Vm Q)) (TY a.2.2.1 ((aA a.2.1 a.2.2.1 136).length:Int) 0 a)
     else none:=by
  intro D L;kernel_rfl
 have h2:=via (k:=k) h;refine h2.trans ?_;simp only[a0]
 first|rfl|kernel_rfl
def run(a:D6):Option (Int):=top (α:=Int) fuel (fun b=>some b) a
def F:Fn:=⟨WY,T2,false,fun x=>run x.1⟩
theorem VI:MI Tryz.prog 210 F/\oJ Tryz.prog 210:=
 P7 (C:=C) (Ii (by kernel_rfl) (by kernel_rfl) (by kernel_rfl) (by kernel_rfl) trivial) (by kernel_rfl) Tryz.func210 (by kernel_rfl) (c:=cB Tryz.f210) (by kernel_rfl) (by kernel_rfl) F (fun x=>by rw[oc];exact Nat.le_of_ble_eq_true (by kernel_rfl)) (fun x=>(PT x.1)) (fun x=>by kernel_rfl) fun x=>(B1 fuel _ x.1).trans (by kernel_rfl)
noncomputable def c:Cf:=co 210 F VI
end Go.Bx.fb
namespace Go.Bx.bR
def S1:Px:=⟨23,[sd 2 .bool],[]⟩
def S2:Px:=⟨23,[sr 1,sd 3 T2],[sc 1 tI]⟩
def S3:Px:=⟨23,[],[]⟩
def aR(Nx:GJ α)(Rt:eJ α)(Xt0:Option α):GJ α:=fun a b=>ite (decide (a<136)) (ite (0<=a/\a<(136:Int)) (ite ((b.2.1.getD a.toNat 0) !=0) (Rt true) (Nx (wrap .i64 (a+1)) b)) none) (Xt0)
def l0(k:Nat)(Rt:eJ α)(Xt0:Option α):Nat->GJ α
 |0=>kz (S:=S2)
 |n+1=>aR (l0 k Rt Xt0 n) Rt Xt0
def j0(Rt:eJ α):Option α:=Rt false
def top(k:Nat)(Rt:eJ α)(a:D6):Option α:=ite (cond (decide (a.2.2.1<0)) true (decide (a.2.2.1>135))) (Rt true) (l0 k Rt (j0 Rt) k a.2.2.1 a)
def run:=top fuel (fun a=>some a)
def F:Fn:=fo [tI] .bool run
def w(k:Nat)(Rt:K S1 α):List (Nat×dQ α):=[(36,.j S3 (j0 Rt)),(49,.l S2 (l0 k Rt (j0 Rt)) fun _=>[])]
noncomputable def c:Cf:=cn 223 F ⟨Tryz.f223,[9],[],[],[],[(2,1,2),(1,0,0),(4,5,1),(12,5,1),(24,0,0)],[],[],0⟩ S1 top (fun a=>some a) w bV Tryz.func223
end Go.Bx.bR
namespace Go.Bx.gg
def S1:Px:=⟨37,[sr 4,sd 5 T2],[sc 4 tI]⟩
def S2:Px:=⟨37,[sr 2,sr 4,sd 15 mO,sd 16 T2,sd 17 T2],[sc 2 tI,sc 4 tI]⟩
def j0(Nx:On α):On α:=fun a b c d e=>Nx a b (wrap .i64 (c+1)) d e
def S3:Px:=⟨37,[sr 2,sr 4],[sc 2 tI,sc 4 tI]⟩
def aR(Nx:On α)(Xt0:E1 α):On α:=fun c d b a e=>ite (decide (b<d)) (ite (0<=b/\b<(c.length:Int)) (ite (0<=a.2.2.1/\a.2.2.1<(136:Int)) (ite ((wrap .i64 (a.2.2.1+1))==136) ((eW.run (a.1,(a.2.1.set a.2.2.1.toNat (c.getD b.toNat 0)),(wrap .i64 (a.2.2.1+1)),a.2.2.2)).bind fun f=>j0 Nx c d b f e) (j0 Nx c d b (a.1,(a.2.1.set a.2.2.1.toNat (c.getD b.toNat 0)),(wrap .i64 (a.2.2.1+1)),a.2.2.2) e)) none) none) (Xt0 a e)
def l0(k:Nat)(Xt0:E1 α):Nat->On α
 |0=>kz (S:=S2)
 |n+1=>aR (l0 k Xt0 n) Xt0
def j1(Rt:GJ α):E1 α:=fun a b=>Rt 0 a
def top(k:Nat)(Rt:GJ α)(a:D6)(b:D0):Option α:=(fb.run a).bind fun c=>ite (c !=0) (Rt c ((replicate 25 0),(replicate 136 0),0,())) (l0 k (j1 Rt) k b (b.length:Int) 0 a ((replicate 25 0),(replicate 136 0),0,()))
def run:=top fuel (fun a b=>some (b,a,()))
def F:Fn:=fm [tI,mO] [tI,T2] run
def w0(k:Nat)(Nx:K S2 α)(Xt0:K S3 α):List (Nat×dQ α):=[(48,.j S2 (j0 Nx))]
def w(k:Nat)(Rt:K S1 α):List (Nat×dQ α):=[(52,.j S3 (j1 Rt)),(61,.l S2 (l0 k (j1 Rt)) fun n=>w0 k (l0 k (j1 Rt) n) (j1 Rt))]
noncomputable def c:Cf:=cn 160 F ⟨Tryz.f160,[12,13],[fb.c,eW.c],[],[],[(2,3,4),(1,5,2),(4,57349,2),(15,57349,2),(33,57349,2),(36,5,2)],[],[],0⟩ S1 top (fun a b=>some (b,a,())) w bV Tryz.func160
end Go.Bx.gg
namespace Go.Bx.bQ
def S1:Px:=⟨52,[sr 4,sd 5 T2],[sc 4 tI]⟩
def S2:Px:=⟨52,[sr 4,sd 7 .str,sr 8],[sc 4 tI,sc 8 mh]⟩
def aR(Nx:Dp α)(Xt0:Dp α):Dp α:=fun a b c=>ite (decide ((a.length:Int)>=136)) (ite (0<=(0:Int)/\(0:Int)<=(136:Int)/\(136:Int)<=(a.length:Int)) ((bj.run c (aA a 0 136)).bind fun d=>ite (0<=(136:Int)/\(136:Int)<=(a.length:Int)/\(a.length:Int)<=(a.length:Int)) (Nx (aA a 136 (a.length:Int)) b d) none) none) (Xt0 a b c)
def l0(k:Nat)(Xt0:Dp α):Nat->Dp α
 |0=>kz (S:=S2)
 |n+1=>aR (l0 k Xt0 n) Xt0
def S3:Px:=⟨52,[sr 4,sd 7 .str,sr 9,sd 10 T2],[sc 4 tI,sc 9 tI]⟩
def S4:Px:=⟨52,[sr 4,sr 9],[sc 4 tI,sc 9 tI]⟩
def ly(Nx:Lx α)(Xt2:E1 α):Lx α:=fun b a d c=>ite (decide (a<(b.length:Int))) (ite (0<=a/\a<(b.length:Int)) (ite (0<=a/\a<(136:Int)) (Nx b (wrap .i64 (a+1)) d (c.1,(c.2.1.set a.toNat (b.getD a.toNat 0)),c.2.2)) none) none) (Xt2 d c)
def l1(k:Nat)(Xt2:E1 α):Nat->Lx α
 |0=>kz (S:=S3)
 |n+1=>ly (l1 k Xt2 n) Xt2
def j1(Rt:GJ α):E1 α:=fun b a=>Rt 0 a
def j0(k:Nat)(Rt:GJ α):Dp α:=fun a b c=>l1 k (j1 Rt) k a 0 b (c,(replicate 136 0),(a.length:Int),())
def top(k:Nat)(Rt:GJ α)(a:D6)(b:D0):Option α:=(bR.run a).bind fun c=>ite c (Rt 12 ((replicate 25 0),(replicate 136 0),0,())) (ite (0<=(0:Int)/\(0:Int)<=a.2.2.1/\a.2.2.1<=((aA a.2.1 0 136).length:Int)) (ite (ble ((aA (aA a.2.1 0 136) 0 a.2.2.1).length+b.length) 9223372036854775807=true) (l0 k (j0 k Rt) k ((aA (aA a.2.1 0 136) 0 a.2.2.1)++b) ((replicate 25 0),(replicate 136 0),0,()) a.1) none) none)
def run:=top fuel (fun a b=>some (b,a,()))
def F:Fn:=fm [tI,mO] [tI,T2] run
def w(k:Nat)(Rt:K S1 α):List (Nat×dQ α):=[(56,.j S4 (j1 Rt)),(121,.l S3 (l1 k (j1 Rt)) fun _=>[]),(36,.j S2 (j0 k Rt)),(73,.l S2 (l0 k (j0 k Rt)) fun _=>[])]
noncomputable def c:Cf:=cn 187 F ⟨Tryz.f187,[9,14],[bR.c,bj.c],[],[],[(2,3,4),(7,33,4),(10,105,4),(1,25,4),(4,25,4),(18,25,4),(24,25,4),(30,105,4),(39,33,4)],[],[],0⟩ S1 top (fun a b=>some (b,a,())) w bV Tryz.func187
end Go.Bx.bQ
namespace Go.Bx.gL
def S1:Px:=⟨42,[sr 2,sd 3 T2],[sc 2 T9]⟩
def S2:Px:=⟨42,[sr 1,sr 2,sr 5,sd 25 T2],[sc 1 tI,sc 2 T9,sc 5 T9]⟩
def S3:Px:=⟨42,[sr 2,sr 5],[sc 2 T9,sc 5 T9]⟩
def aR(Nx:Sy α)(Xt0:lP α):Sy α:=fun a b c d=>ite (decide (a<32)) (ite (0<=(wrap .i64 (tdiv a 8))/\(wrap .i64 (tdiv a 8))<(25:Int)) (ite (0<=(wrap .i64 (8*(tmod a 8)))) (ite (0<=a/\a<(32:Int)) (Nx (wrap .i64 (a+1)) b c (d.set a.toNat (wrap .u8 (fS .u64 (b.1.getD (wrap .i64 (tdiv a 8)).toNat 0) (wrap .i64 (8*(tmod a 8))))))) none) none) none) (Xt0 c d)
def l0(k:Nat)(Xt0:lP α):Nat->Sy α
 |0=>kz (S:=S2)
 |n+1=>aR (l0 k Xt0 n) Xt0
def j0(Rt:kn α):lP α:=fun b a=>Rt 0 a
def top(k:Nat)(Rt:kn α)(a:D6):Option α:=(fb.run a).bind fun b=>ite (b !=0) (Rt b (replicate 32 0)) (ite (0<=a.2.2.1/\a.2.2.1<(136:Int)) ((eW.run (a.1,((a.2.1.set a.2.2.1.toNat 1).set 135 (jP .u8 ((a.2.1.set a.2.2.1.toNat 1).getD 135 0) 128)),a.2.2)).bind fun c=>l0 k (j0 Rt) k 0 c (replicate 32 0) (replicate 32 0)) none)
def run:=top fuel (fun a b=>some (b,a,()))
def F:Fn:=fm [tI] [T9,T2] run
def w(k:Nat)(Rt:K S1 α):List (Nat×dQ α):=[(56,.j S3 (j0 Rt)),(109,.l S2 (l0 k (j0 Rt)) fun _=>[])]
noncomputable def c:Cf:=cn 162 F ⟨Tryz.f162,[14],[fb.c,eW.c],[],[],[(2,3,2),(1,9,2),(4,16777235,1),(27,16777235,1),(39,9,2)],[],[],0⟩ S1 top (fun a b=>some (b,a,())) w bV Tryz.func162
end Go.Bx.gL
namespace Go.Bx.dv
def S1:Px:=⟨44,[sr 2,sd 3 T2],[sc 2 T9]⟩
def S2:Px:=⟨44,[sr 2,sr 5,sr 6,sd 28 T2],[sc 2 T9,sc 5 mh,sc 6 T9]⟩
def S3:Px:=⟨44,[sr 2,sr 6],[sc 2 T9,sc 6 T9]⟩
def aR(Nx:E0 α)(Xt0:lP α):E0 α:=fun a b c d=>ite (decide (a<32)) (ite (0<=(wrap .i64 (tdiv a 8))/\(wrap .i64 (tdiv a 8))<(25:Int)) (ite (0<=(wrap .i64 ((tmod a 8)*8))) (ite (0<=a/\a<(32:Int)) (Nx (wrap .i64 (a+1)) b c (d.set a.toNat (wrap .u8 (fS .u64 (c.getD (wrap .i64 (tdiv a 8)).toNat 0) (wrap .i64 ((tmod a 8)*8)))))) none) none) none) (Xt0 b d)
def l0(k:Nat)(Xt0:lP α):Nat->E0 α
 |0=>kz (S:=S2)
 |n+1=>aR (l0 k Xt0 n) Xt0
def j0(Rt:kn α):lP α:=fun b a=>Rt 0 a
def top(k:Nat)(Rt:kn α)(a:D6):Option α:=(bR.run a).bind fun b=>ite b (Rt 12 (replicate 32 0)) (ite (0<=a.2.2.1/\a.2.2.1<(136:Int)) (ite (0<=a.2.2.1/\a.2.2.1<(136:Int)) ((bj.run a.1 (aA ((a.2.1.set a.2.2.1.toNat (ag .u8 (a.2.1.getD a.2.2.1.toNat 0) 1)).set 135 (ag .u8 ((a.2.1.set a.2.2.1.toNat (ag .u8 (a.2.1.getD a.2.2.1.toNat 0) 1)).getD 135 0) 128)) 0 136)).bind fun c=>l0 k (j0 Rt) k 0 (replicate 32 0) c (replicate 32 0)) none) none)
def run:=top fuel (fun a b=>some (b,a,()))
def F:Fn:=fm [tI] [T9,T2] run
def w(k:Nat)(Rt:K S1 α):List (Nat×dQ α):=[(56,.j S3 (j0 Rt)),(109,.l S2 (l0 k (j0 Rt)) fun _=>[])]
noncomputable def c:Cf:=cn 188 F ⟨Tryz.f188,[14],[bR.c,bj.c],[],[],[(2,3,2),(1,17,2),(4,67108889,2),(27,67108889,2),(39,17,2)],[],[],0⟩ S1 top (fun a b=>some (b,a,())) w bV Tryz.func188
end Go.Bx.dv
namespace Go.Bx.mC
def S1:Px:=⟨2,[sr 0],[sc 0 tI]⟩
def top(Rt:Sx α):Option α:=Rt ((replicate 25 0),(replicate 136 0),0,())
def run:=top (fun a=>some a)
def F:Fn:=fo [] tI run
noncomputable def c:Cf:=cn 161 F ⟨Tryz.f161,[],[],[],[],[(2,1,0)],[],[],0⟩ S1 (fun _=>top) (fun a=>some a) e0 bV Tryz.func161
end Go.Bx.mC
namespace Go.Bx.jR
def S1:Px:=⟨19,[sr 2],[sc 2 T9]⟩
def top(Rt:gh α)(a:D0):Option α:=(mC.run).bind fun b=>(gg.run b a).bind fun c=>(gL.run c.1).bind fun d=>Rt d.1
def run:=top (fun a=>some a)
def F:Fn:=fo [mO] T9 run
noncomputable def c:Cf:=cn 97 F ⟨Tryz.f97,[],[gg.c,mC.c,gL.c],[],[],[(2,1,2)],[],[],0⟩ S1 (fun _=>top) (fun a=>some a) e0 bV Tryz.func97
end Go.Bx.jR
namespace Go.Bx.fJ
def S1:Px:=⟨20,[sr 2],[sc 2 T9]⟩
def top(Rt:gh α)(a:D0):Option α:=(bQ.run ((replicate 25 0),(replicate 136 0),0,()) a).bind fun b=>(dv.run b.1).bind fun c=>Rt c.1
def run:=top (fun a=>some a)
def F:Fn:=fo [.str] T9 run
noncomputable def c:Cf:=cn 129 F ⟨Tryz.f129,[],[bQ.c,dv.c],[],[],[(2,1,2)],[],[],0⟩ S1 (fun _=>top) (fun a=>some a) e0 bV Tryz.func129
end Go.Bx.fJ
namespace Go.Bx.kL
def S1:Px:=⟨21,[sr 2],[sc 2 tJ]⟩
def top(Rt:gh α)(b:D4):Option α:=(jV.run b.1).bind fun c=>(jV.run b.2.1).bind fun a=>ite ((32:Int)=(32:Int)/\(eF ((aA c 0 32).length+(aA a 0 32).length) 1&&Nat.blt 0 (aA a 0 32).length)=true) ((jR.run ((aA c 0 32)++(aA a 0 32))).bind fun d=>Rt (Au (replicate 20 0) 0 20 (aA d 12 32))) none
def run:=top (fun a=>some a)
def F:Fn:=fo [T7] tJ run
noncomputable def c:Cf:=cn 38 F ⟨Tryz.f38,[],[jV.c,jR.c],[],[],[(2,1,2)],[],[],0⟩ S1 (fun _=>top) (fun a=>some a) e0 bV Tryz.func38
end Go.Bx.kL
namespace Go.Bx.cT
def S1:Px:=⟨25,[sr 2,sr 3,sr 4,sd 14 T2],[sc 2 tJ,sc 3 T9,sc 4 tJ]⟩
def S2:Px:=⟨25,[sr 2,sr 4],[sc 2 tJ,sc 4 tJ]⟩
def aR(Nx:E0 α)(Xt0:lP α):E0 α:=fun a b c d=>ite (decide (a<20)) (ite (0<=(wrap .i64 (12+a))/\(wrap .i64 (12+a))<(32:Int)) (ite (0<=a/\a<(20:Int)) (Nx (wrap .i64 (a+1)) b c (d.set a.toNat (c.getD (wrap .i64 (12+a)).toNat 0))) none) none) (Xt0 b d)
def l0(k:Nat)(Xt0:lP α):Nat->E0 α
 |0=>kz (S:=S1)
 |n+1=>aR (l0 k Xt0 n) Xt0
def S3:Px:=⟨25,[sr 2],[sc 2 tJ]⟩
def j0(Rt:gh α):lP α:=fun b a=>Rt a
def top(k:Nat)(Rt:gh α)(a:D4):Option α:=(fv.run a.1).bind fun b=>(fv.run a.2.1).bind fun c=>ite (ble (b.length+c.length) 9223372036854775807=true) ((fJ.run (b++c)).bind fun d=>l0 k (j0 Rt) k 0 Ci d Ci) none
def run:=top fuel (fun a=>some a)
def F:Fn:=fo [T7] tJ run
def w(k:Nat)(Rt:K S3 α):List (Nat×dQ α):=[(36,.j S2 (j0 Rt)),(49,.l S1 (l0 k (j0 Rt)) fun _=>[])]
noncomputable def c:Cf:=cn 62 F ⟨Tryz.f62,[9],[fJ.c,fv.c],[],[],[(2,1,2),(1,5,2),(4,4103,2),(12,4103,2),(24,5,2)],[],[],0⟩ S3 top (fun a=>some a) w bV Tryz.func62
end Go.Bx.cT
namespace Go.Bx.l8
def S1:Px:=⟨14,[sd 2 T2,sd 3 T2],[]⟩
def top(Rt:xO α)(a:Int):Option α:=ite (cond (decide (a<0)) true (decide (a>19))) (Rt 0 6) (Rt (wrap .i64 ((wrap .i64 (tdiv (wrap .i64 (2*a)) 3))+1)) 0)
def run:=top (fun a b=>some (a,b,()))
def F:Fn:=fm [T2] [T2,T2] run
noncomputable def c:Cf:=cn 177 F ⟨Tryz.f177,[],[],[],[],[(2,3,2)],[],[],0⟩ S1 (fun _=>top) ri e0 bV Tryz.func177
end Go.Bx.l8
namespace Go.Bx.dU
def S1:Px:=⟨19,[sd 2 T2,sd 3 T2],[]⟩
def S2:Px:=⟨19,[sd 0 T2,sd 4 T2],[]⟩
def S3:Px:=⟨19,[sd 4 T2],[]⟩
def aR(Nx:xO α)(Xt0:gf α):xO α:=fun b a=>ite (decide ((wrap .i64 (3*a))<=(wrap .i64 (2*b)))) (Nx b (wrap .i64 (a+1))) (Xt0 a)
def l0(k:Nat)(Xt0:gf α):Nat->xO α
 |0=>kz (S:=S2)
 |n+1=>aR (l0 k Xt0 n) Xt0
def j0(Rt:xO α):gf α:=fun a=>Rt a 0
def top(k:Nat)(Rt:xO α)(a:Int):Option α:=ite (cond (decide (a<0)) true (decide (a>19))) (Rt 0 6) (l0 k (j0 Rt) k a 0)
def run:=top fuel (fun a b=>some (a,b,()))
def F:Fn:=fm [T2] [T2,T2] run
def w(k:Nat)(Rt:K S1 α):List (Nat×dQ α):=[(28,.j S3 (j0 Rt)),(49,.l S2 (l0 k (j0 Rt)) fun _=>[])]
noncomputable def c:Cf:=cn 198 F ⟨Tryz.f198,[7],[],[],[],[(2,3,2),(1,1,4),(4,17,0),(12,17,0),(18,1,4)],[],[],0⟩ S1 top ri w bV Tryz.func198
end Go.Bx.dU
namespace Go.Bx.fM
def S1:Px:=⟨85,[sd 8 T2],[]⟩
def S2:Px:=⟨85,[sr 4,sr 5,sr 6,sd 10 T2,sd 13 T2,sd 41 Rq,sd 42 T2,sd 43 T2],[sc 4 T6,sc 5 jq,sc 6 T9]⟩
def S3:Px:=⟨85,[],[]⟩
def aR(Nx:Nu α)(Rt:gf α)(Xt0:Option α):Nu α:=fun e i b f a g c h=>ite (decide (a<f)) (ite (0<=a/\a<(b.length:Int)) (ite (cond (decide ((b.getD a.toNat Cj).1<0)) true (decide ((b.getD a.toNat Cj).1>=e))) (Rt 6) (ite (decide ((b.getD a.toNat Cj).1<=i)) (Rt 3) ((jg.run g h (b.getD a.toNat Cj).2.1).bind fun d=>ite (d.2.1 !=0) (Rt d.2.1) ((kL.run d.1).bind fun j=>ite (0<=(b.getD a.toNat Cj).1/\(b.getD a.toNat Cj).1<(c.2.1.length:Int)) (ite (not (az tJ j (c.2.1.getD (b.getD a.toNat Cj).1.toNat Ci))) (Rt 10) (Nx e (b.getD a.toNat Cj).1 b f (wrap .i64 (a+1)) g c h)) none)))) none) (Xt0)
def l0(k:Nat)(Rt:gf α)(Xt0:Option α):Nat->Nu α
 |0=>kz (S:=S2)
 |n+1=>aR (l0 k Rt Xt0 n) Rt Xt0
def j0(Rt:gf α):Option α:=Rt 0
def top(k:Nat)(Rt:gf α)(c:D3)(a:R2)(e:D0)(b:PE):Option α:=(eV.run c).bind fun d=>ite (d !=0) (Rt d) (ite (cond (decide ((a.2.1.length:Int)<1)) true (decide ((a.2.1.length:Int)>19))) (Rt 1) ((l8.run (a.2.1.length:Int)).bind fun f=>ite (decide ((b.length:Int)<f.1)) (Rt 11) (l0 k Rt (j0 Rt) k (a.2.1.length:Int) (-1) b (b.length:Int) 0 c a e)))
def run:=top fuel (fun a=>some a)
def F:Fn:=fo [T6,jq,T9,Rq] T2 run
def w(k:Nat)(Rt:K S1 α):List (Nat×dQ α):=[(104,.j S3 (j0 Rt)),(145,.l S2 (l0 k Rt (j0 Rt)) fun _=>[])]
noncomputable def c:Cf:=cn 113 F ⟨Tryz.f113,[26],[eV.c,kL.c,l8.c,jg.c],[],[],[(2,1,8),(1,0,0),(4,962072674887,4),(7,962072676423,4),(36,962072674887,4),(75,0,0)],[],[],0⟩ S1 top (fun a=>some a) w bV Tryz.func113
end Go.Bx.fM
namespace Go.Bx.ca
def S1:Px:=⟨94,[sd 8 T2],[]⟩
def S2:Px:=⟨94,[sd 3 Rq,sr 4,sr 5,sr 6,sd 42 Rq,sd 43 T2,sd 44 T2],[sc 4 T6,sc 5 jq,sc 6 T9]⟩
def S3:Px:=⟨94,[],[]⟩
def aR(Nx:Oc α)(Rt:gf α)(Xt0:Option α):Oc α:=fun d b f a g c h=>ite (decide (a<f)) (ite (0<=a/\a<(b.length:Int)) (ite (cond (decide ((b.getD a.toNat Cj).1<0)) true (decide ((b.getD a.toNat Cj).1>=(c.2.1.length:Int)))) (Rt 6) (cond (decide (0<=(wrap .i64 (a-1))/\(wrap .i64 (a-1))<(d.length:Int))|| !((decide (a>0))==true)) (ite (cond (decide (a>0)) (decide ((b.getD a.toNat Cj).1<=(d.getD (wrap .i64 (a-1)).toNat Cj).1)) false) (Rt 3) ((eG.run g h (b.getD a.toNat Cj).2.1).bind fun e=>ite (e.2.1 !=0) (Rt e.2.1) ((cT.run e.1).bind fun i=>ite (0<=(b.getD a.toNat Cj).1/\(b.getD a.toNat Cj).1<(c.2.1.length:Int)) (ite (not (az tJ i (c.2.1.getD (b.getD a.toNat Cj).1.toNat Ci))) (Rt 10) (Nx d b f (wrap .i64 (a+1)) g c h)) none))) none)) none) (Xt0)
def l0(k:Nat)(Rt:gf α)(Xt0:Option α):Nat->Oc α
 |0=>kz (S:=S2)
 |n+1=>aR (l0 k Rt Xt0 n) Rt Xt0
def j0(Rt:gf α):Option α:=Rt 0
def top(k:Nat)(Rt:gf α)(c:D3)(a:R2)(e:D0)(b:PE):Option α:=(bz.run c).bind fun d=>ite (d !=0) (Rt d) (ite (cond ((a.2.1.length:Int)==0) true (decide ((a.2.1.length:Int)>19))) (Rt 1) ((dU.run (a.2.1.length:Int)).bind fun f=>ite (decide ((b.length:Int)<f.1)) (Rt 11) (l0 k Rt (j0 Rt) k b b (b.length:Int) 0 c a e)))
def run:=top fuel (fun a=>some a)
def F:Fn:=fo [T6,jq,T9,Rq] T2 run
def w(k:Nat)(Rt:K S1 α):List (Nat×dQ α):=[(92,.j S3 (j0 Rt)),(121,.l S2 (l0 k Rt (j0 Rt)) fun _=>[])]
noncomputable def c:Cf:=cn 147 F ⟨Tryz.f147,[23],[bz.c,cT.c,dU.c,eG.c],[],[],[(2,1,8),(1,0,0),(4,3848290697231,3),(30,3848290697231,3),(66,0,0)],[],[],0⟩ S1 top (fun a=>some a) w bV Tryz.func147
end Go.Bx.ca
namespace Go.Bx.cD
def S1:Px:=⟨27,[sr 0,sd 1 T2,sd 6 T2],[se 0 so (.agg so [.app 25 0]),sz 25 rS 0]⟩
def S2:Px:=⟨27,[],[se 0 so (.agg so [.app 25 0]),sz 25 rS 0]⟩
def aR(Nx:Dj α)(Xt0:gh α):Dj α:=fun c a b=>ite (decide (a>=0)) (ite (0<=(wrap .i64 (8*a))) (ite (eF (b.length+1) 1=true) (Nx c (wrap .i64 (a-1)) (b++[(wrap .u8 (fS .i64 c (wrap .i64 (8*a))))])) none) none) (Xt0 b)
def l0(k:Nat)(Xt0:gh α):Nat->Dj α
 |0=>kz (S:=S1)
 |n+1=>aR (l0 k Xt0 n) Xt0
def top(k:Nat)(Rt:gh α)(a b:Int)(c:D0):Option α:=l0 k Rt k a (wrap .i64 (b-1)) c
def run:=top fuel (fun a=>some (a,()))
def Sp:Spec:=tE [.ref 0 0 [],hD T2,hD T2] [(0,hC so (.agg so [hF rS]) false)] [T2,T2,mO] (.tup []) [(0,hC so (.agg so [.app 25 0]) false),(25,hB rS 0 true)] [mO] run
def w(k:Nat)(Rt:K S2 α):List (Nat×dQ α):=[(13,.l S1 (l0 k Rt) fun _=>[])]
noncomputable def s:Sf:=sn 236 Sp ⟨Tryz.f236,[],[],[],[],[(2,0,0),(1,0,0),(4,67,0),(3,67,0)],[(3,[.melt false 0 [0] 24 true])],[],1⟩ S2 top ri w bV Tryz.func236
end Go.Bx.cD
namespace Go.Bx.bp
def S1:Px:=⟨27,[sr 0,sd 1 T2,sd 6 T2],[se 0 so (.agg so [.app 1 1]),sz 1 rS 1]⟩
def S2:Px:=⟨27,[],[se 0 so (.agg so [.app 1 1]),sz 1 rS 1]⟩
def aR(Nx:Dj α)(Xt0:gh α):Dj α:=fun c a b=>ite (decide (a>=0)) (ite (0<=(wrap .i64 (8*a))) (ite (eF (b.length+1) 1=true) (Nx c (wrap .i64 (a-1)) (b++[(wrap .u8 (fS .i64 c (wrap .i64 (8*a))))])) none) none) (Xt0 b)
def l0(k:Nat)(Xt0:gh α):Nat->Dj α
 |0=>kz (S:=S1)
 |n+1=>aR (l0 k Xt0 n) Xt0
def top(k:Nat)(Rt:gh α)(a b:Int)(c:D0):Option α:=l0 k Rt k a (wrap .i64 (b-1)) c
def run:=top fuel (fun a=>some (a,()))
def Sp:Spec:=tE [.ref 0 0 [],hD T2,hD T2] [(0,hC so (.agg so [.app 1 0]) false),(1,hB rS 0 true)] [T2,T2,mO] (.tup []) [(0,hC so (.agg so [.app 1 1]) false),(1,hB rS 1 true)] [mO] run
def w(k:Nat)(Rt:K S2 α):List (Nat×dQ α):=[(13,.l S1 (l0 k Rt) fun _=>[])]
noncomputable def s:Sf:=sn 236 Sp ⟨Tryz.f236,[],[],[],[],[(2,0,0),(1,0,0),(4,67,0),(3,67,0)],[],[],2⟩ S2 top ri w bV Tryz.func236
end Go.Bx.bp
namespace Go.Bx.iz
def S1:Px:=⟨13,[],[se 0 so (.agg so [.app 2 1]),sc 1 i7,sz 2 rS 1]⟩
def top(Rt:Uo α)(x1l x1h:Int)(a:FE)(b:D0):Option α:=ite (eF (b.length+(aA a.2.2.2.1 x1l x1h).length) 1=true) (Rt a (b++(aA a.2.2.2.1 x1l x1h))) none
def run:=top (fun a b=>some (a,b,()))
def Sp:Spec:=tE [.ref 0 0 [],hW 1 [.fld 3] rS 32] [(0,hC so (.agg so [.app 2 0]) false),(1,hC i7 (hD i7) false),(2,hB rS 0 true)] [T2,T2,i7,mO] (.tup []) [(0,hC so (.agg so [.app 2 1]) false),(1,hC i7 (hD i7) false),(2,hB rS 1 true)] [i7,mO] run
noncomputable def s:Sf:=sn 237 Sp ⟨Tryz.f237,[],[],[],[],[(2,0,0)],[],[],3⟩ S1 (fun _=>top) ri e0 bV Tryz.func237
end Go.Bx.iz
namespace Go.Bx.iA
def S1:Px:=⟨13,[],[se 0 so (.agg so [.app 1 1]),sz 1 rS 1]⟩
def top(Rt:gh α)(a b:D0):Option α:=ite (eF (b.length+a.length) 1=true) (Rt (b++a)) none
def run:=top (fun a=>some (a,()))
def Sp:Spec:=tE [.ref 0 0 [],hD mO] [(0,hC so (.agg so [.app 1 0]) false),(1,hB rS 0 true)] [mO,mO] (.tup []) [(0,hC so (.agg so [.app 1 1]) false),(1,hB rS 1 true)] [mO] run
noncomputable def s:Sf:=sn 237 Sp ⟨Tryz.f237,[],[],[],[],[(2,0,0)],[],[],2⟩ S1 (fun _=>top) ri e0 bV Tryz.func237
end Go.Bx.iA
namespace Go.Bx.gQ
def S1:Px:=⟨32,[],[se 0 so (.agg so [.app 34 0]),sz 34 rS 0]⟩
def top(Rt:gh α)(a:FE)(c:D0):Option α:=(cD.run a.1 8 c).bind fun d=>(bp.run a.2.1 4 d.1).bind fun e=>(bp.run a.2.2.1 2 e.1).bind fun f=>(iz.run 0 32 a f.1).bind fun b=>(bp.run b.1.2.2.2.2.1 8 b.2.1).bind fun g=>(bp.run b.1.2.2.2.2.2.1 1 g.1).bind fun h=>(iA.run b.1.2.2.2.2.2.2.1 h.1).bind fun i=>Rt i.1
def run:=top (fun a=>some (a,()))
def Sp:Spec:=tE [.ref 0 0 [],hD i7] [(0,hC so (.agg so [hF rS]) false)] [i7,mO] (.tup []) [(0,hC so (.agg so [.app 34 0]) false),(34,hB rS 0 true)] [mO] run
noncomputable def s:Sf:=sn 214 Sp ⟨Tryz.f214,[],[],[cD.s,bp.s,iz.s,iA.s],[(7,33),(11,34),(15,34),(19,34),(23,34),(27,34),(31,34)],[(2,0,0)],[],[],1⟩ S1 (fun _=>top) ri e0 bV Tryz.func214
end Go.Bx.gQ
namespace Go.Bx.gn
def S1:Px:=⟨35,[sd 2 .str],[]⟩
def top(Rt:gh α)(a:FE):Option α:=(aD.run (wrap .u64 a.1) 8).bind fun b=>(aD.run (wrap .u64 a.2.1) 4).bind fun c=>ite (ble (b.length+c.length) 9223372036854775807=true) ((aD.run (wrap .u64 a.2.2.1) 2).bind fun d=>ite (ble ((b++c).length+d.length) 9223372036854775807=true) (ite (ble (((b++c)++d).length+(aA a.2.2.2.1 0 32).length) 9223372036854775807=true) ((aD.run (wrap .u64 a.2.2.2.2.1) 8).bind fun e=>ite (ble ((((b++c)++d)++(aA a.2.2.2.1 0 32)).length+e.length) 9223372036854775807=true) ((aD.run (wrap .u64 a.2.2.2.2.2.1) 1).bind fun f=>ite (ble (((((b++c)++d)++(aA a.2.2.2.1 0 32))++e).length+f.length) 9223372036854775807=true) (ite (ble ((((((b++c)++d)++(aA a.2.2.2.1 0 32))++e)++f).length+a.2.2.2.2.2.2.1.length) 9223372036854775807=true) (Rt ((((((b++c)++d)++(aA a.2.2.2.1 0 32))++e)++f)++a.2.2.2.2.2.2.1)) none) none) none) none) none) none
def run:=top (fun a=>some a)
def F:Fn:=fo [i7] .str run
noncomputable def c:Cf:=cn 197 F ⟨Tryz.f197,[],[aD.c],[],[],[(2,1,2)],[],[],0⟩ S1 (fun _=>top) (fun a=>some a) e0 bV Tryz.func197
end Go.Bx.gn
namespace Go.Bx.l7
def S1:Px:=⟨20,[sd 2 mO,sd 3 T2],[]⟩
def top(Rt:E3 α)(a:FE):Option α:=(iJ.run a).bind fun b=>ite (b !=0) (Rt [] b) ((gQ.run a []).bind fun c=>Rt c.1 0)
def run:=top (fun a b=>some (a,b,()))
def F:Fn:=fm [i7] [mO,T2] run
noncomputable def c:Cf:=cn 176 F ⟨Tryz.f176,[],[iJ.c],[gQ.s],[(15,21)],[(2,3,2)],[(2,[.dat true 2 []])],[],0⟩ S1 (fun _=>top) ri e0 bV Tryz.func176
end Go.Bx.l7
namespace Go.Bx.oz
def S1:Px:=⟨20,[sr 2,sd 3 T2],[sc 2 T9]⟩
def top(Rt:kn α)(b:FE):Option α:=(l7.run b).bind fun a=>ite (a.2.1 !=0) (Rt a.2.1 (replicate 32 0)) ((jR.run a.1).bind fun c=>(jR.run (aA c 0 32)).bind fun d=>Rt 0 d)
def run:=top (fun a b=>some (b,a,()))
def F:Fn:=fm [i7] [T9,T2] run
noncomputable def c:Cf:=cn 112 F ⟨Tryz.f112,[],[jR.c,l7.c],[],[],[(2,3,2)],[],[],0⟩ S1 (fun _=>top) (fun a b=>some (b,a,())) e0 bV Tryz.func112
end Go.Bx.oz
namespace Go.Bx.gG
def S1:Px:=⟨18,[sr 2,sd 3 T2],[sc 2 T9]⟩
def top(Rt:kn α)(a:FE):Option α:=(cA.run a).bind fun b=>ite (b !=0) (Rt b (replicate 32 0)) ((gn.run a).bind fun c=>(fJ.run c).bind fun d=>(fJ.run (aA d 0 32)).bind fun e=>Rt 0 e)
def run:=top (fun a b=>some (b,a,()))
def F:Fn:=fm [i7] [T9,T2] run
noncomputable def c:Cf:=cn 146 F ⟨Tryz.f146,[],[cA.c,fJ.c,gn.c],[],[],[(2,3,2)],[],[],0⟩ S1 (fun _=>top) (fun a b=>some (b,a,())) e0 bV Tryz.func146
end Go.Bx.gG
namespace Go.Bx.gS
def S1:Px:=⟨80,[st 4 8,st 5 9,sd 6 T2],[se 0 pw (rX),sz 1 jq 1,sb 2 lV 1,sz 3 i7 1,sc 8 i7,sc 9 jI]⟩
def top(Rt:Ut α)(n:D0)(e b:Int)(f:D1)(g:Int)(c:D3)(d:D8)(h:rR)(i:xh):Option α:=(fL.run n).bind fun a=>ite (a.2.1 !=0) (Rt a.2.1 e b f g c d h i tG (0,[0,0,0,0],[0,0,0,0],(replicate 32 0),0,(replicate 32 0),0,0,[],[],0,[],())) ((oC.run d a.1.1 b).bind fun j=>ite (j.2.1 !=0) (Rt j.2.1 e b f g c d h i tG (0,[0,0,0,0],[0,0,0,0],(replicate 32 0),0,(replicate 32 0),0,0,[],[],0,[],())) ((oz.run a.1.2.2.1).bind fun k=>ite (k.2.1 !=0) (Rt k.2.1 e b f g c d h i tG (0,[0,0,0,0],[0,0,0,0],(replicate 32 0),0,(replicate 32 0),0,0,[],[],0,[],())) ((fM.run c j.1 k.1 a.1.2.1).bind fun l=>ite (l !=0) (Rt l e b f g c d h i tG (0,[0,0,0,0],[0,0,0,0],(replicate 32 0),0,(replicate 32 0),0,0,[],[],0,[],())) ((kI.run a.1.2.2.1.2.2.2.2.2.2.1).bind fun m=>Rt m.2.1 e b f g c d h i a.1.2.2.1 m.1))))
def run:=top (fun c d e f g h i j k a b=>some (a,b,c,d,e,f,g,h,i,j,k,a,b,()))
def Sp:Spec:=tE [.ref 0 0 [],hD mO] [(0,hC pw (HO) false),(1,hB jq 0 true),(2,hB lV 0 false),(3,hB i7 0 true)] [mO,T2,T2,su,T2,T6,mi,tK,uY] (.tup [hD i7,hD jI,hD T2]) [(0,hC pw (rX) false),(1,hB jq 1 true),(2,hB lV 1 false),(3,hB i7 1 true),(8,hC i7 (hD i7) false),(9,hC jI (hD jI) false)] [i7,jI,T2,T2,T2,su,T2,T6,mi,tK,uY,i7,jI] run
noncomputable def s:Sf:=sn 54 Sp ⟨Tryz.f54,[],[fL.c,oC.c,oz.c,fM.c,kI.c],[],[],[(2,7,4)],[(2,[.dat false 8 [],.dat false 9 []])],[],4⟩ S1 (fun _=>top) (fun d e f g h i j k l a b=>some (a,b,d,e,f,g,h,i,j,k,l,a,b,())) e0 bV Tryz.func54
end Go.Bx.gS
namespace Go.Bx.fW
def S1:Px:=⟨77,[sr 6,sr 7,sd 8 T2],[sc 6 i7,sc 7 jI]⟩
def top(Rt:UM α)(g:D3)(e:pJ)(h:D0):Option α:=(cX.run h).bind fun a=>ite (a.2.1 !=0) (Rt a.2.1 tG (0,[0,0,0,0],[0,0,0,0],(replicate 32 0),0,(replicate 32 0),0,0,[],[],0,[],())) ((gI.run e.2.2.1 a.1.1 e.2.1).bind fun b=>ite (b.2.1 !=0) (Rt b.2.1 tG (0,[0,0,0,0],[0,0,0,0],(replicate 32 0),0,(replicate 32 0),0,0,[],[],0,[],())) ((gG.run a.1.2.2.1).bind fun c=>ite (c.2.1 !=0) (Rt c.2.1 tG (0,[0,0,0,0],[0,0,0,0],(replicate 32 0),0,(replicate 32 0),0,0,[],[],0,[],())) ((ca.run g b.1 c.1 a.1.2.1).bind fun f=>ite (f !=0) (Rt f tG (0,[0,0,0,0],[0,0,0,0],(replicate 32 0),0,(replicate 32 0),0,0,[],[],0,[],())) ((aW.run a.1.2.2.1.2.2.2.2.2.2.1).bind fun d=>ite (d.2.1 !=0) (Rt d.2.1 tG (0,[0,0,0,0],[0,0,0,0],(replicate 32 0),0,(replicate 32 0),0,0,[],[],0,[],())) (Rt 0 a.1.2.2.1 d.1)))))
def run:=top (fun a b c=>some (b,c,a,()))
def F:Fn:=fm [T6,fT,mO] [i7,jI,T2] run
noncomputable def c:Cf:=cn 81 F ⟨Tryz.f81,[],[cX.c,gI.c,gG.c,ca.c,aW.c],[],[],[(2,7,6)],[(2,[.dat false 6 [],.dat false 7 []])],[],0⟩ S1 (fun _=>top) (fun a b d=>some (b,d,a,())) e0 bV Tryz.func81
end Go.Bx.fW
namespace Go.Bx.la
def S1:Px:=⟨69,[sd 6 mi,sd 7 T2],[]⟩
def top(Rt:Qs α)(a:D8)(d:D1)(c:Int):Option α:=(cc.run a).bind fun e=>ite (e !=0) (Rt [] e) ((dN.run d).bind fun f=>ite (f !=0) (Rt [] f) (cond (decide (0<=(wrap .i64 ((a.length:Int)-2))/\(wrap .i64 ((a.length:Int)-2))<(a.length:Int))|| !((decide ((a.length:Int)>1))==true)) (ite (cond (cond (decide (c<1)) true (decide (c>1099511627776))) true (cond (decide ((a.length:Int)>1)) (decide ((wrap .i64 (c+24))<(a.getD (wrap .i64 ((a.length:Int)-2)).toNat (0,[],0,())).2.2.1)) false)) (Rt [] 6) (ite ((a.length:Int)==8) (Rt [] 9) (ite (0<=(0:Int)/\(0:Int)<=(a.length:Int)/\(a.length:Int)<=(a.length:Int)/\(a.length:Int)=(a.length:Int)) (ite (eF ((aA a 0 (a.length:Int)).length+1) 40=true) ((fw.run ((aA a 0 (a.length:Int))++[((a.length:Int),d,0,())])).bind fun b=>ite (0<=(wrap .i64 ((a.length:Int)-1))/\(wrap .i64 ((a.length:Int)-1))<(b.2.1.length:Int)) (Rt (b.2.1.set (wrap .i64 ((a.length:Int)-1)).toNat ((b.2.1.getD (wrap .i64 ((a.length:Int)-1)).toNat (0,[],0,())).1,(b.2.1.getD (wrap .i64 ((a.length:Int)-1)).toNat (0,[],0,())).2.1,(wrap .i64 (c+24)),(b.2.1.getD (wrap .i64 ((a.length:Int)-1)).toNat (0,[],0,())).2.2.2)) 0) none) none) none))) none))
def run:=top (fun a b=>some (a,b,()))
def F:Fn:=fm [mi,uX,T2] [mi,T2] run
noncomputable def c:Cf:=cn 116 F ⟨Tryz.f116,[],[cc.c,dN.c],[fw.s],[(59,70)],[(2,3,6)],[(2,[.dat true 6 []])],[58],0⟩ S1 (fun _=>top) ri e0 bV Tryz.func116
end Go.Bx.la
namespace Go.Bx.fG
def S1:Px:=⟨63,[sd 6 mi,sd 7 T2],[]⟩
def top(Rt:Qs α)(a:D8)(c:D1)(b:Int):Option α:=(bD.run a).bind fun d=>ite (d !=0) (Rt [] d) ((bx.run c).bind fun e=>ite (e !=0) (Rt [] e) (cond (decide (0<=(wrap .i64 ((a.length:Int)-2))/\(wrap .i64 ((a.length:Int)-2))<(a.length:Int))|| !((decide ((a.length:Int)>1))==true)) (ite (cond (cond (decide (b<1)) true (decide (b>1099511627776))) true (cond (decide ((a.length:Int)>1)) (decide ((a.getD (wrap .i64 ((a.length:Int)-2)).toNat (0,[],0,())).2.2.1>(wrap .i64 (b+24)))) false)) (Rt [] 6) (ite ((a.length:Int)==8) (Rt [] 9) (ite ((eF (0+a.length) 40&&(Nat.beq 0 0||Nat.blt 0 a.length))=true) (ite (0<=(wrap .i64 ((a.length:Int)-1))/\(wrap .i64 ((a.length:Int)-1))<(a.length:Int)) (ite (eF ((a.set (wrap .i64 ((a.length:Int)-1)).toNat ((a.getD (wrap .i64 ((a.length:Int)-1)).toNat (0,[],0,())).1,(a.getD (wrap .i64 ((a.length:Int)-1)).toNat (0,[],0,())).2.1,(wrap .i64 (b+24)),(a.getD (wrap .i64 ((a.length:Int)-1)).toNat (0,[],0,())).2.2.2)).length+1) 40=true) (Rt ((a.set (wrap .i64 ((a.length:Int)-1)).toNat ((a.getD (wrap .i64 ((a.length:Int)-1)).toNat (0,[],0,())).1,(a.getD (wrap .i64 ((a.length:Int)-1)).toNat (0,[],0,())).2.1,(wrap .i64 (b+24)),(a.getD (wrap .i64 ((a.length:Int)-1)).toNat (0,[],0,())).2.2.2))++[((a.length:Int),c,0,())]) 0) none) none) none))) none))
def run:=top (fun a b=>some (a,b,()))
def F:Fn:=fm [mi,uX,T2] [mi,T2] run
noncomputable def c:Cf:=cn 83 F ⟨Tryz.f83,[],[bD.c,bx.c],[],[],[(2,3,6)],[(2,[.dat true 6 []])],[],0⟩ S1 (fun _=>top) ri e0 bV Tryz.func83
end Go.Bx.fG
namespace Go.Bx.eA
def S1:Px:=⟨23,[sr 1,(3,.app 20 0),sd 5 T2],[sc 1 T1,sz 20 T2 0]⟩
def j0(Nx:vv α):vv α:=fun a b c=>Nx (wrap .i64 (a+1)) b c
def S2:Px:=⟨23,[(3,.app 20 0)],[sz 20 T2 0]⟩
def aR(Nx:vv α)(Xt0:gh α):vv α:=fun a c b=>ite (decide (a<256)) (ite (0<=(wrap .i64 (tdiv a 64))/\(wrap .i64 (tdiv a 64))<(4:Int)) (ite (0<=(tmod a 64)) (ite ((cS .u64 (c.getD (wrap .i64 (tdiv a 64)).toNat 0) (fD .u64 1 (tmod a 64))) !=0) (ite (eF (b.length+1) 8=true) (j0 Nx a c (b++[a])) none) (j0 Nx a c b)) none) none) (Xt0 b)
def l0(k:Nat)(Xt0:gh α):Nat->vv α
 |0=>kz (S:=S1)
 |n+1=>aR (l0 k Xt0 n) Xt0
def S3:Px:=⟨23,[(2,.app 20 0)],[sz 20 T2 0]⟩
def j1(Rt:gh α):gh α:=fun a=>Rt a
def top(k:Nat)(Rt:gh α)(a:D0):Option α:=l0 k (j1 Rt) k 0 a []
def run:=top fuel (fun a=>some a)
def F:Fn:=fo [T1] Ey run
def w0(k:Nat)(Nx:K S1 α)(Xt0:K S2 α):List (Nat×dQ α):=[(32,.j S1 (j0 Nx))]
def w(k:Nat)(Rt:K S3 α):List (Nat×dQ α):=[(36,.j S2 (j1 Rt)),(37,.l S1 (l0 k (j1 Rt)) fun n=>w0 k (l0 k (j1 Rt) n) (j1 Rt))]
noncomputable def c:Cf:=cn 200 F ⟨Tryz.f200,[8,9],[],[],[],[(2,1,2),(1,1,3),(4,21,1),(9,21,1),(21,21,1),(24,1,3)],[(9,[.melt true 3 [] 20 true])],[],0⟩ S3 top (fun a=>some a) w bV Tryz.func200
end Go.Bx.eA
namespace Go.Bx.dS
def S1:Px:=⟨25,[sd 4 .bool,sd 5 T2],[]⟩
def S2:Px:=⟨25,[sd 1 T2,sd 15 Ey,sd 16 T2,sd 17 T2],[]⟩
def S3:Px:=⟨25,[],[]⟩
def aR(Nx:qo α)(Rt:GD α)(Xt0:Option α):qo α:=fun c b d a=>ite (decide (a<d)) (ite (0<=a/\a<(b.length:Int)) (ite ((b.getD a.toNat 0)==c) (Rt true 0) (Nx c b d (wrap .i64 (a+1)))) none) (Xt0)
def l0(k:Nat)(Rt:GD α)(Xt0:Option α):Nat->qo α
 |0=>kz (S:=S2)
 |n+1=>aR (l0 k Rt Xt0 n) Rt Xt0
def j0(Rt:GD α):Option α:=Rt false 0
def top(k:Nat)(Rt:GD α)(c:D0)(a:Int):Option α:=ite (cond (decide (a<0)) true (decide (a>255))) (Rt false 6) ((eA.run c).bind fun b=>l0 k Rt (j0 Rt) k a b (b.length:Int) 0)
def run:=top fuel (fun a b=>some (a,b,()))
def F:Fn:=fm [T1,T2] [.bool,T2] run
def w(k:Nat)(Rt:K S1 α):List (Nat×dQ α):=[(40,.j S3 (j0 Rt)),(49,.l S2 (l0 k Rt (j0 Rt)) fun _=>[])]
noncomputable def c:Cf:=cn 149 F ⟨Tryz.f149,[10],[eA.c],[],[],[(2,3,4),(1,0,0),(4,114689,1),(12,114689,1),(27,0,0)],[],[],0⟩ S1 top ri w bV Tryz.func149
end Go.Bx.dS
namespace Go.Bx.fV
def S1:Px:=⟨30,[sr 4,sd 5 T2],[sc 4 T1]⟩
def top(Rt:kn α)(b:D0)(a:Int):Option α:=(dS.run b a).bind fun c=>ite (c.2.1 !=0) (Rt c.2.1 [0,0,0,0]) (ite c.1 (Rt 8 [0,0,0,0]) (ite (0<=(wrap .i64 (tdiv a 64))/\(wrap .i64 (tdiv a 64))<(4:Int)) (ite (0<=(tmod a 64)) (ite (0<=(wrap .i64 (tdiv a 64))/\(wrap .i64 (tdiv a 64))<(4:Int)) (Rt 0 (b.set (wrap .i64 (tdiv a 64)).toNat (wrap .u64 ((b.getD (wrap .i64 (tdiv a 64)).toNat 0)+(fD .u64 1 (tmod a 64)))))) none) none) none))
def run:=top (fun a b=>some (b,a,()))
def F:Fn:=fm [T1,T2] [T1,T2] run
noncomputable def c:Cf:=cn 84 F ⟨Tryz.f84,[],[dS.c],[],[],[(2,3,4)],[],[],0⟩ S1 (fun _=>top) (fun a b=>some (b,a,())) e0 bV Tryz.func84
end Go.Bx.fV
namespace Go.Bx.nJ
def S1:Px:=⟨9,[sd 2 .bool],[]⟩
def top(Rt:eJ α)(a:Int):Option α:=Rt (cond (decide (a>=0)) (decide (a<256)) false)
def run:=top (fun a=>some a)
def F:Fn:=fo [T2] .bool run
noncomputable def c:Cf:=cn 179 F ⟨Tryz.f179,[],[],[],[],[(2,1,2)],[],[],0⟩ S1 (fun _=>top) (fun a=>some a) e0 bV Tryz.func179
end Go.Bx.nJ
namespace Go.Bx.qw
def S1:Px:=⟨18,[sd 4 .bool,sd 5 T2],[]⟩
def top(Rt:GD α)(b:D0)(a:Int):Option α:=(nJ.run a).bind fun c=>ite (not c) (Rt false 6) (ite (0<=(wrap .i64 (tdiv a 64))/\(wrap .i64 (tdiv a 64))<(4:Int)) (ite (0<=(tmod a 64)) (Rt ((cS .u64 (fS .u64 (b.getD (wrap .i64 (tdiv a 64)).toNat 0) (tmod a 64)) 1)==1) 0) none) none)
def run:=top (fun a b=>some (a,b,()))
def F:Fn:=fm [T1,T2] [.bool,T2] run
noncomputable def c:Cf:=cn 117 F ⟨Tryz.f117,[],[nJ.c],[],[],[(2,3,4)],[],[],0⟩ S1 (fun _=>top) ri e0 bV Tryz.func117
end Go.Bx.qw
namespace Go.Bx.ki
def S1:Px:=⟨30,[sr 4,sd 5 T2],[sc 4 T1]⟩
def top(Rt:kn α)(b:D0)(a:Int):Option α:=(qw.run b a).bind fun c=>ite (c.2.1 !=0) (Rt c.2.1 [0,0,0,0]) (ite c.1 (Rt 8 [0,0,0,0]) (ite (0<=(wrap .i64 (tdiv a 64))/\(wrap .i64 (tdiv a 64))<(4:Int)) (ite (0<=(tmod a 64)) (ite (0<=(wrap .i64 (tdiv a 64))/\(wrap .i64 (tdiv a 64))<(4:Int)) (Rt 0 (b.set (wrap .i64 (tdiv a 64)).toNat (jP .u64 (b.getD (wrap .i64 (tdiv a 64)).toNat 0) (fD .u64 1 (tmod a 64))))) none) none) none))
def run:=top (fun a b=>some (b,a,()))
def F:Fn:=fm [T1,T2] [T1,T2] run
noncomputable def c:Cf:=cn 56 F ⟨Tryz.f56,[],[qw.c],[],[],[(2,3,4)],[],[],0⟩ S1 (fun _=>top) (fun a b=>some (b,a,())) e0 bV Tryz.func56
end Go.Bx.ki
namespace Go.Bx.rl
def S1:Px:=⟨4,[sr 0],[sc 0 T9]⟩
def top(Rt:gh α):Option α:=Rt ((replicate 32 0).set 0 7)
def run:=top (fun a=>some a)
def F:Fn:=fo [] T9 run
noncomputable def c:Cf:=cn 115 F ⟨Tryz.f115,[],[],[],[],[(2,1,0)],[],[],0⟩ S1 (fun _=>top) (fun a=>some a) e0 bV Tryz.func115
end Go.Bx.rl
namespace Go.Bx.kP
def S1:Px:=⟨2,[sr 0],[sc 0 T9]⟩
def top(Rt:gh α):Option α:=(bd.run [7]).bind fun a=>Rt a
def run:=top (fun a=>some a)
def F:Fn:=fo [] T9 run
noncomputable def c:Cf:=cn 82 F ⟨Tryz.f82,[],[bd.c],[],[],[(2,1,0)],[],[],0⟩ S1 (fun _=>top) (fun a=>some a) e0 bV Tryz.func82
end Go.Bx.kP
namespace Go.Bx.eP
def S1:Px:=⟨51,[sd 6 T2],[se 0 pw (Pv),sz 1 jq 1,sb 2 lV 1,sz 3 i7 1]⟩
def S2:Px:=⟨51,[sd 8 T2],[se 0 pw (Pv),sz 1 jq 1,sb 2 lV 1,sz 3 i7 1]⟩
def j0(Rt:Ke α):Ke α:=fun a b c d e f g h i j=>Rt a b c d e f g h i j
def top(Rt:Ke α)(j:FE)(k:tH)(c b:Int)(d:D1)(e:Int)(f:D3)(a:D8)(g:rR)(h:xh):Option α:=(if((j.2.2.1 !=0)==false)=true then rl.run else some (replicate 32 0)).bind fun l=>ite (cond (j.2.2.1 !=0) true (not (az T9 j.2.2.2.1 l))) (Rt 5 c b a d e f a g h) (ite (k.2.2.2.2.2.2.2.2.2.2.1 !=(a.length:Int)) (Rt 6 c b a d e f a g h) ((la.run a k.2.2.2.2.2.2.2.2.2.2.2.1 b).bind fun i=>ite (i.2.1==0) (j0 Rt i.2.1 c b i.1 d e f a g h) (j0 Rt i.2.1 c b a d e f a g h)))
def run:=top (fun a b c d e f g h i j=>some (a,b,c,d,e,f,g,h,i,j,()))
def Sp:Spec:=tE [.ref 0 0 [],hD i7,hD jI] [(0,hC pw (HO) false),(1,hB jq 0 true),(2,hB lV 0 false),(3,hB i7 0 true)] [i7,jI,T2,T2,su,T2,T6,mi,tK,uY] (hD T2) [(0,hC pw (Pv) false),(1,hB jq 1 true),(2,hB lV 1 false),(3,hB i7 1 true)] [T2,T2,T2,mi,su,T2,T6,mi,tK,uY] run
def w(k:Nat)(Rt:K S1 α):List (Nat×dQ α):=[(36,.j S2 (j0 Rt))]
noncomputable def s:Sf:=sn 55 Sp ⟨Tryz.f55,[9],[rl.c,la.c],[],[],[(2,1,6),(24,1,8)],[(2,[.dat false 0 [0,2]]),(24,[.dat false 0 [0,2]])],[],4⟩ S1 (fun _=>top) ri w bV Tryz.func55
end Go.Bx.eP
namespace Go.Bx.ee
def S1:Px:=⟨48,[sd 6 T2],[se 0 pw (rX),sz 1 jq 1,sb 2 lV 1,sz 3 i7 1]⟩
def top(Rt:uE α)(m:FE)(c:tH)(d f:Int)(g:D1)(h:Int)(i:D3)(j:D8)(k:rR)(l:xh):Option α:=ite (c.2.2.2.2.1 !=m.2.2.1) (Rt 5 d f g h i j k l) ((bF.run c.2.2.2.1 c.2.2.2.2.1 d f g h i j k l).bind fun n=>(Sum.elim (fun b=>Rt 8 b.2.1 b.2.2.1 b.2.2.2.1 b.2.2.2.2.1 b.2.2.2.2.2.1 b.2.2.2.2.2.2.1 b.2.2.2.2.2.2.2.1 b.2.2.2.2.2.2.2.2.1) (Sum.elim (fun a=>ite ((a.2.2.2.2.2.2.1.length:Int)==4) (Rt 9 a.1 a.2.1 a.2.2.1 a.2.2.2.1 a.2.2.2.2.1 a.2.2.2.2.2.1 a.2.2.2.2.2.2.1 a.2.2.2.2.2.2.2.1) (ite (eF (a.2.2.2.2.2.2.1.length+1) 104=true) (Rt 0 a.1 a.2.1 a.2.2.1 a.2.2.2.1 a.2.2.2.2.1 a.2.2.2.2.2.1 (a.2.2.2.2.2.2.1++[(c.2.2.2.1,c.2.2.2.2.1,(if 8<c.2.2.2.2.2.2.2.1 then 8 else c.2.2.2.2.2.2.2.1),([0,0,0,0],[],()),())]) a.2.2.2.2.2.2.2.1) none)) (fun e=>e.elim))) n)
def run:=top (fun a b c d e f g h i=>some (a,b,c,d,e,f,g,h,i,()))
def Sp:Spec:=tE [.ref 0 0 [],hD i7,hD jI] [(0,hC pw (HO) false),(1,hB jq 0 true),(2,hB lV 0 false),(3,hB i7 0 true)] [i7,jI,T2,T2,su,T2,T6,mi,tK,uY] (hD T2) [(0,hC pw (rX) false),(1,hB jq 1 true),(2,hB lV 1 false),(3,hB i7 1 true)] [T2,T2,T2,su,T2,T6,mi,tK,uY] run
noncomputable def s:Sf:=sn 57 Sp ⟨Tryz.f57,[],[],[bF.s],[(19,49)],[(2,1,6),(1,33,0)],[],[],4⟩ S1 (fun _=>top) ri e0 bV Tryz.func57
end Go.Bx.ee
namespace Go.Bx.eO
def S1:Px:=⟨94,[sd 4 T2],[se 0 pw (Pv),sz 1 jq 1,sb 2 lV 1,sz 3 i7 1]⟩
def top(Rt:Ke α)(f:PG)(h i:Int)(j:D1)(k:Int)(l:D3)(m:D8)(n:rR)(o:xh):Option α:=(gS.run f.2.2.2.2.2.2.2.2.2.1 h i j k l m n o).bind fun a=>ite (a.2.2.1 !=0) (Rt a.2.2.1 a.2.2.2.1 a.2.2.2.2.1 a.2.2.2.2.2.2.2.2.1 a.2.2.2.2.2.1 a.2.2.2.2.2.2.1 a.2.2.2.2.2.2.2.1 a.2.2.2.2.2.2.2.2.1 a.2.2.2.2.2.2.2.2.2.1 a.2.2.2.2.2.2.2.2.2.2.1) (ite (a.2.1.1==4) ((eP.run a.1 a.2.1 a.2.2.2.1 a.2.2.2.2.1 a.2.2.2.2.2.1 a.2.2.2.2.2.2.1 a.2.2.2.2.2.2.2.1 a.2.2.2.2.2.2.2.2.1 a.2.2.2.2.2.2.2.2.2.1 a.2.2.2.2.2.2.2.2.2.2.1).bind fun b=>Rt b.1 b.2.1 b.2.2.1 b.2.2.2.1 b.2.2.2.2.1 b.2.2.2.2.2.1 b.2.2.2.2.2.2.1 b.2.2.2.2.2.2.2.1 b.2.2.2.2.2.2.2.2.1 b.2.2.2.2.2.2.2.2.2.1) ((iU.run a.1.2.2.1).bind fun g=>(if((cond (not g) true (a.1.2.2.1==a.2.2.2.1))==false)=true then eM.run a.1.2.2.1 else some (replicate 32 0)).bind fun p=>ite (cond (cond (not g) true (a.1.2.2.1==a.2.2.2.1)) true (not (az T9 a.1.2.2.2.1 p))) (Rt 5 a.2.2.2.1 a.2.2.2.2.1 a.2.2.2.2.2.2.2.2.1 a.2.2.2.2.2.1 a.2.2.2.2.2.2.1 a.2.2.2.2.2.2.2.1 a.2.2.2.2.2.2.2.2.1 a.2.2.2.2.2.2.2.2.2.1 a.2.2.2.2.2.2.2.2.2.2.1) (ite (0<=a.1.2.2.1/\a.1.2.2.1<(3:Int)) ((ki.run (a.2.2.2.2.2.1.getD a.1.2.2.1.toNat [0,0,0,0]) a.1.2.2.2.2.1).bind fun e=>ite (e.2.1 !=0) (Rt e.2.1 a.2.2.2.1 a.2.2.2.2.1 a.2.2.2.2.2.2.2.2.1 a.2.2.2.2.2.1 a.2.2.2.2.2.2.1 a.2.2.2.2.2.2.2.1 a.2.2.2.2.2.2.2.2.1 a.2.2.2.2.2.2.2.2.2.1 a.2.2.2.2.2.2.2.2.2.2.1) (ite (0<=a.1.2.2.1/\a.1.2.2.1<(3:Int)) (ite (a.2.1.1==2) ((ee.run a.1 a.2.1 a.2.2.2.1 a.2.2.2.2.1 (a.2.2.2.2.2.1.set a.1.2.2.1.toNat e.1) a.2.2.2.2.2.2.1 a.2.2.2.2.2.2.2.1 a.2.2.2.2.2.2.2.2.1 a.2.2.2.2.2.2.2.2.2.1 a.2.2.2.2.2.2.2.2.2.2.1).bind fun c=>Rt c.1 c.2.1 c.2.2.1 c.2.2.2.2.2.2.1 c.2.2.2.1 c.2.2.2.2.1 c.2.2.2.2.2.1 c.2.2.2.2.2.2.1 c.2.2.2.2.2.2.2.1 c.2.2.2.2.2.2.2.2.1) (ite (a.2.1.2.2.2.2.2.2.1 !=a.2.2.2.1) (Rt 6 a.2.2.2.1 a.2.2.2.2.1 a.2.2.2.2.2.2.2.2.1 (a.2.2.2.2.2.1.set a.1.2.2.1.toNat e.1) a.2.2.2.2.2.2.1 a.2.2.2.2.2.2.2.1 a.2.2.2.2.2.2.2.2.1 a.2.2.2.2.2.2.2.2.2.1 a.2.2.2.2.2.2.2.2.2.2.1) ((fc.run a.2.1 f.2.1 a.2.2.2.1 a.2.2.2.2.1 (a.2.2.2.2.2.1.set a.1.2.2.1.toNat e.1) a.2.2.2.2.2.2.1 a.2.2.2.2.2.2.2.1 a.2.2.2.2.2.2.2.2.1 a.2.2.2.2.2.2.2.2.2.1 a.2.2.2.2.2.2.2.2.2.2.1).bind fun d=>Rt d.1 d.2.1 d.2.2.1 d.2.2.2.2.2.2.1 d.2.2.2.1 d.2.2.2.2.1 d.2.2.2.2.2.1 d.2.2.2.2.2.2.1 d.2.2.2.2.2.2.2.1 d.2.2.2.2.2.2.2.2.1))) none)) none)))
def run:=top (fun a b c d e f g h i j=>some (a,b,c,d,e,f,g,h,i,j,()))
def Sp:Spec:=tE [.ref 0 0 [],hD KY] [(0,hC pw (HO) false),(1,hB jq 0 true),(2,hB lV 0 false),(3,hB i7 0 true)] [KY,T2,T2,su,T2,T6,mi,tK,uY] (hD T2) [(0,hC pw (Pv) false),(1,hB jq 1 true),(2,hB lV 1 false),(3,hB i7 1 true)] [T2,T2,T2,mi,su,T2,T6,mi,tK,uY] run
noncomputable def s:Sf:=sn 21 Sp ⟨Tryz.f21,[],[iU.c,eM.c,ki.c],[gS.s,eP.s,ee.s,fc.s],[(13,95),(26,97),(80,97),(93,97)],[(2,1,4)],[(2,[.dat false 0 [0,2]])],[],4⟩ S1 (fun _=>top) ri e0 bV Tryz.func21
end Go.Bx.eO
namespace Go.Bx.iM
def S1:Px:=⟨166,[sr 6,sd 7 T2],[sc 6 fT]⟩
def top(Rt:sQ α)(h:D3)(a:pJ)(f:PG):Option α:=(fW.run h a f.2.2.2.2.2.2.2.2.2.1).bind fun b=>ite (b.2.2.1 !=0) (Rt b.2.2.1 a) (ite (b.2.1.1==4) ((if((b.1.2.2.1 !=0)==false)=true then kP.run else some Vg).bind fun i=>ite (cond (b.1.2.2.1 !=0) true (not (az T9 b.1.2.2.2.1 i))) (Rt 5 a) (ite (b.2.1.2.2.2.2.2.2.2.2.2.2.1 !=(a.2.2.1.length:Int)) (Rt 6 a) ((fG.run a.2.2.1 b.2.1.2.2.2.2.2.2.2.2.2.2.2.1 a.2.1).bind fun d=>ite (d.2.1 !=0) (Rt d.2.1 a) (Rt 0 (a.1,a.2.1,d.1,a.2.2.2))))) ((dG.run b.1.2.2.1).bind fun g=>(if((cond (not g) true (b.1.2.2.1==a.1))==false)=true then dR.run b.1.2.2.1 else some Vg).bind fun j=>ite (cond (cond (not g) true (b.1.2.2.1==a.1)) true (not (az T9 b.1.2.2.2.1 j))) (Rt 5 a) (ite (0<=b.1.2.2.1/\b.1.2.2.1<(3:Int)) ((fV.run (a.2.2.2.2.1.getD b.1.2.2.1.toNat [0,0,0,0]) b.1.2.2.2.2.1).bind fun c=>ite (c.2.1 !=0) (Rt c.2.1 a) (ite (0<=b.1.2.2.1/\b.1.2.2.1<(3:Int)) (ite (b.2.1.1==2) (ite (b.2.1.2.2.2.2.1 !=b.1.2.2.1) (Rt 5 a) ((bK.run a b.2.1.2.2.2.1 b.2.1.2.2.2.2.1).bind fun k=>ite (decide (k>=0)) (Rt 8 a) (ite (decide ((a.2.2.2.1.length:Int)>=4)) (Rt 9 a) (ite (eF (0+a.2.2.2.1.length) 104=true) (ite (eF (a.2.2.2.1.length+1) 104=true) (Rt 0 (a.1,a.2.1,a.2.2.1,(a.2.2.2.1++[(b.2.1.2.2.2.1,b.2.1.2.2.2.2.1,(if b.2.1.2.2.2.2.2.2.2.1<8 then b.2.1.2.2.2.2.2.2.2.1 else 8),([0,0,0,0],[],()),())]),(a.2.2.2.2.1.set b.1.2.2.1.toNat c.1),a.2.2.2.2.2.1,a.2.2.2.2.2.2.1,())) none) none)))) (ite (b.2.1.2.2.2.2.2.2.1 !=a.1) (Rt 6 a) ((bG.run (a.1,a.2.1,a.2.2.1,a.2.2.2.1,(a.2.2.2.2.1.set b.1.2.2.1.toNat c.1),a.2.2.2.2.2) b.2.1 f.2.1).bind fun e=>ite (e.2.1 !=0) (Rt e.2.1 a) (Rt 0 e.1)))) none)) none)))
def run:=top (fun a b=>some (b,a,()))
def F:Fn:=fm [T6,fT,KY] [fT,T2] run
noncomputable def c:Cf:=cn 30 F ⟨Tryz.f30,[],[bK.c,dG.c,dR.c,fW.c,kP.c,fG.c,fV.c,bG.c],[],[],[(2,3,6),(1,1061,4)],[(2,[.dat false 6 []])],[134],0⟩ S1 (fun _=>top) (fun a b=>some (b,a,())) e0 bV Tryz.func30
end Go.Bx.iM
namespace Go.Bx.uK
open Go.Bx.bM (aR l0 ly l1 vw l2 j2 j1 j0 top run)
def S1:Px:=⟨68,[sr 1,sr 2,(3,.app 27 0),sd 13 mi,sd 14 T2,sd 15 T2],[sc 1 fT,se 2 fT (xi),sz 27 jq 0]⟩
def S2:Px:=⟨68,[sr 1,sr 2,(3,.app 27 0)],[sc 1 fT,se 2 fT (xi),sz 27 jq 0]⟩
def S3:Px:=⟨68,[sr 1,sr 2,(3,.app 27 0),(6,.app 46 0),sd 30 tK,sd 31 T2,sd 32 T2],[sc 1 fT,se 2 fT (xi),sz 27 jq 0,sb 46 lV 0]⟩
def S4:Px:=⟨68,[sr 1,sr 2,(3,.app 27 0),(6,.app 46 0)],[sc 1 fT,se 2 fT (xi),sz 27 jq 0,sb 46 lV 0]⟩
def S5:Px:=⟨68,[sr 1,sr 2,(3,.app 27 0),(6,.app 46 0),(9,.app 59 0),sd 49 uY,sd 50 T2,sd 51 T2],[sc 1 fT,se 2 fT (xi),sz 27 jq 0,sb 46 lV 0,sz 59 i7 0]⟩
def S6:Px:=⟨68,[sr 1,sr 2,(3,.app 27 0),(6,.app 46 0),(9,.app 59 0)],[sc 1 fT,se 2 fT (xi),sz 27 jq 0,sb 46 lV 0,sz 59 i7 0]⟩
def S7:Px:=⟨68,[sr 2],[se 2 fT (TE),sz 27 jq 0,sb 46 lV 0,sz 59 i7 0]⟩
def Sp:Spec:=tE [hD fT] [] [fT] (TE) [(2,hC fT (TE) false),(27,hB jq 0 true),(46,hB lV 0 false),(59,hB i7 0 true)] [T2,T2,su,T2,T2,T2,su,T2,mi,tK,uY] run
def w(k:Nat)(Rt:K S7 α):List (Nat×dQ α):=[(88,.j S6 (j2 Rt)),(205,.l S5 (l2 k (j2 Rt)) fun _=>[]),(64,.j S4 (j1 k Rt)),(121,.l S3 (l1 k (j1 k Rt)) fun _=>[]),(36,.j S2 (j0 k Rt)),(37,.l S1 (l0 k (j0 k Rt)) fun _=>[])]
noncomputable def s:Sf:=sn 19 Sp ⟨Tryz.f19,[9,16,22],[k8.c],[],[],[(2,1,2),(13,295,1),(16,1970324836974887,1),(7,39,1),(10,3758096423,1),(1,7,1),(4,28679,1),(9,28679,1),(24,7,1),(30,3758096423,1),(45,39,1),(51,1970324836974887,1),(63,295,1)],[(9,[.melt true 3 [] 27 true]),(30,[.melt true 6 [] 46 false]),(51,[.melt true 9 [] 59 true])],[22,40],0⟩ S7 top (fun a b d e f g h=>some (a,b,d,e,a,b,d,e,f,g,h,())) w bV Tryz.func19
end Go.Bx.uK
namespace Go.Bx.n8
def S1:Px:=⟨104,[sr 6,sd 7 T2],[sc 6 fT]⟩
def S2:Px:=⟨104,[sr 4,sr 6,st 9 22,sd 10 T2],[sc 4 fT,se 6 fT (xi),se 22 pw (Wy),sb 107 lV 0,sz 108 i7 0]⟩
def j0(Rt:sQ α):Uv α:=fun b c k l m n d e f g h o i j=>ite (b !=0) ((bM.run c).bind fun a=>Rt b (a.1,a.2.1,a.2.2.2.2.2.2.2.2.1,a.2.2.2.2.2.2.2.2.2.1,a.2.2.1,a.2.2.2.1,a.2.2.2.2.2.2.2.2.2.2.1,())) (Rt 0 (d,e,f,i,g,h,j,()))
def top(Rt:sQ α)(j:D3)(d:pJ)(b:PG):Option α:=(cE.run d).bind fun k=>ite (k !=0) (Rt k rY) ((bM.run d).bind fun a=>ite (b.1==1) ((bL.run b a.1 a.2.1 a.2.2.1 a.2.2.2.1 j a.2.2.2.2.2.2.2.2.1 a.2.2.2.2.2.2.2.2.2.1 a.2.2.2.2.2.2.2.2.2.2.1).bind fun f=>j0 Rt f.1 d 0 0 [[0,0,0,0],[0,0,0,0],[0,0,0,0]] 0 f.2.1 f.2.2.1 f.2.2.2.2.2.2.1 f.2.2.2.1 f.2.2.2.2.1 f.2.2.2.2.2.1 f.2.2.2.2.2.2.2.1 f.2.2.2.2.2.2.2.2.1) (ite (b.1==2) ((eO.run b a.1 a.2.1 a.2.2.1 a.2.2.2.1 j a.2.2.2.2.2.2.2.2.1 a.2.2.2.2.2.2.2.2.2.1 a.2.2.2.2.2.2.2.2.2.2.1).bind fun g=>j0 Rt g.1 d 0 0 [[0,0,0,0],[0,0,0,0],[0,0,0,0]] 0 g.2.1 g.2.2.1 g.2.2.2.1 g.2.2.2.2.1 g.2.2.2.2.2.1 g.2.2.2.2.2.2.1 g.2.2.2.2.2.2.2.2.1 g.2.2.2.2.2.2.2.2.2.1) (ite (b.1==3) ((bF.run b.2.2.1 a.1 a.1 a.2.1 a.2.2.1 a.2.2.2.1 j a.2.2.2.2.2.2.2.2.1 a.2.2.2.2.2.2.2.2.2.1 a.2.2.2.2.2.2.2.2.2.2.1).bind fun l=>(Sum.elim (fun c=>(dJ.run 2 [0,0,0,0] [0,0,0,0] b.2.2.1 c.2.1 (replicate 32 0) 0 (c.2.2.2.2.2.2.2.1.getD c.1.toNat iX).2.2.1 [] [] 0 [] c.2.1 c.2.2.1 c.2.2.2.1 c.2.2.2.2.1 c.2.2.2.2.2.1 c.2.2.2.2.2.2.1 c.2.2.2.2.2.2.2.1 c.2.2.2.2.2.2.2.2.1).bind fun h=>j0 Rt h.1 d 0 0 [[0,0,0,0],[0,0,0,0],[0,0,0,0]] 0 h.2.1 h.2.2.1 h.2.2.2.2.2.2.1 h.2.2.2.1 h.2.2.2.2.1 h.2.2.2.2.2.1 h.2.2.2.2.2.2.2.1 h.2.2.2.2.2.2.2.2.1) (Sum.elim (fun i=>j0 Rt 5 d 0 0 [[0,0,0,0],[0,0,0,0],[0,0,0,0]] 0 i.1 i.2.1 i.2.2.2.2.2.1 i.2.2.1 i.2.2.2.1 i.2.2.2.2.1 i.2.2.2.2.2.2.1 i.2.2.2.2.2.2.2.1) (fun e=>e.elim))) l) (ite (b.1==4) (ite (cond (cond (decide (b.2.2.2.2.2.2.2.2.1>=1)) (decide (b.2.2.2.2.2.2.2.2.1<=1000)) false) (decide ((wrap .i64 (a.2.1+b.2.2.2.2.2.2.2.2.1))<=1099511627776)) false) (j0 Rt 0 d 0 0 [[0,0,0,0],[0,0,0,0],[0,0,0,0]] 0 a.1 (wrap .i64 (a.2.1+b.2.2.2.2.2.2.2.2.1)) a.2.2.2.2.2.2.2.2.1 a.2.2.1 a.2.2.2.1 j a.2.2.2.2.2.2.2.2.2.1 a.2.2.2.2.2.2.2.2.2.2.1) (j0 Rt 6 d 0 0 [[0,0,0,0],[0,0,0,0],[0,0,0,0]] 0 a.1 a.2.1 a.2.2.2.2.2.2.2.2.1 a.2.2.1 a.2.2.2.1 j a.2.2.2.2.2.2.2.2.2.1 a.2.2.2.2.2.2.2.2.2.2.1)) (j0 Rt 2 d 0 0 [[0,0,0,0],[0,0,0,0],[0,0,0,0]] 0 a.1 a.2.1 a.2.2.2.2.2.2.2.2.1 a.2.2.1 a.2.2.2.1 j a.2.2.2.2.2.2.2.2.2.1 a.2.2.2.2.2.2.2.2.2.2.1)))))
def run:=top (fun a b=>some (b,a,()))
def F:Fn:=fm [T6,fT,KY] [fT,T2] run
def w(k:Nat)(Rt:K S1 α):List (Nat×dQ α):=[(84,.j S2 (j0 Rt))]
noncomputable def c:Cf:=cn 9 F ⟨Tryz.f9,[21],[cE.c],[uK.s,bM.s,bL.s,eO.s,bF.s,dJ.s],[(19,105),(29,109),(34,113),(45,113),(61,113),(98,109)],[(2,3,6),(1,101,4),(60,101,4)],[(2,[.dat false 6 [2],.dat false 6 [3],.dat false 6 [6]]),(60,[.dat false 22 [0,2]])],[],0⟩ S1 (fun _=>top) (fun a b=>some (b,a,())) w bV Tryz.func9
end Go.Bx.n8
namespace Go.Bx.ik
def S1:Px:=⟨94,[sr 6,sd 7 T2],[sc 6 fT]⟩
def top(Rt:sQ α)(h:D3)(a:pJ)(b:PG):Option α:=(aj.run a).bind fun e=>ite (e !=0) (Rt e rY) (ite (b.1==1) ((fu.run a b).bind fun d=>ite (d.2.1 !=0) (Rt d.2.1 a) (Rt 0 d.1)) (ite (b.1==2) ((iM.run h a b).bind fun f=>Rt f.2.1 f.1) (ite (b.1==3) ((bK.run a b.2.2.1 a.1).bind fun c=>ite (decide (c<0)) (Rt 5 a) (ite (0<=c/\c<(a.2.2.2.1.length:Int)) ((gq.run a (2,[0,0,0,0],[0,0,0,0],b.2.2.1,a.1,Vg,0,(a.2.2.2.1.getD c.toNat iX).2.2.1,[],[],0,[],())).bind fun g=>Rt g.2.1 g.1) none)) (ite (b.1==4) (ite (cond (cond (decide (b.2.2.2.2.2.2.2.2.1<1)) true (decide (b.2.2.2.2.2.2.2.2.1>1000))) true (decide ((wrap .i64 (a.2.1+b.2.2.2.2.2.2.2.2.1))>1099511627776))) (Rt 6 a) (Rt 0 (a.1,(wrap .i64 (a.2.1+b.2.2.2.2.2.2.2.2.1)),a.2.2))) (Rt 2 a)))))
def run:=top (fun a b=>some (b,a,()))
def F:Fn:=fm [T6,fT,KY] [fT,T2] run
noncomputable def c:Cf:=cn 12 F ⟨Tryz.f12,[],[aj.c,fu.c,iM.c,bK.c,gq.c],[],[],[(2,3,6),(1,5,4)],[(2,[.dat false 6 []])],[],0⟩ S1 (fun _=>top) (fun a b=>some (b,a,())) e0 bV Tryz.func12
end Go.Bx.ik
namespace Go.Bx.ef
def S1:Px:=⟨68,[sr 1,sr 2,(3,.app 27 0),sd 13 mi,sd 14 T2,sd 15 T2],[sc 1 fT,se 2 fT (xi),sz 27 jq 0]⟩
def S2:Px:=⟨68,[sr 1,sr 2,(3,.app 27 0)],[sc 1 fT,se 2 fT (xi),sz 27 jq 0]⟩
def aR(Nx:LD α)(Xt0:LF α):LD α:=fun b d a e f g h i c=>ite (decide (a<d)) (ite (0<=a/\a<(b.length:Int)) (ite (eF (0+(b.getD a.toNat (0,[],0,())).2.1.length) 20=true) (ite (eF (c.length+1) 40=true) (Nx b d (wrap .i64 (a+1)) e f g h i (c++[((b.getD a.toNat (0,[],0,())).1,(b.getD a.toNat (0,[],0,())).2.1,(b.getD a.toNat (0,[],0,())).2.2.1,())])) none) none) none) (Xt0 e f g h i c)
def l0(k:Nat)(Xt0:LF α):Nat->LD α
 |0=>kz (S:=S1)
 |n+1=>aR (l0 k Xt0 n) Xt0
def S3:Px:=⟨68,[sr 1,sr 2,(3,.app 27 0),(6,.app 46 0),sd 30 tK,sd 31 T2,sd 32 T2],[sc 1 fT,se 2 fT (xi),sz 27 jq 0,sz 46 lV 0]⟩
def S4:Px:=⟨68,[sr 1,sr 2,(3,.app 27 0),(6,.app 46 0)],[sc 1 fT,se 2 fT (xi),sz 27 jq 0,sz 46 lV 0]⟩
def ly(Nx:LG α)(Xt2:LH α):LG α:=fun b d a e f g h i j c=>ite (decide (a<d)) (ite (0<=a/\a<(b.length:Int)) (ite (eF (0+(b.getD a.toNat iX).2.2.2.1.2.1.length) 64=true) (ite (eF (c.length+1) 104=true) (Nx b d (wrap .i64 (a+1)) e f g h i j (c++[((b.getD a.toNat iX).1,(b.getD a.toNat iX).2.1,(b.getD a.toNat iX).2.2.1,((b.getD a.toNat iX).2.2.2.1.1,(b.getD a.toNat iX).2.2.2.1.2.1,()),())])) none) none) none) (Xt2 e f g h i j c)
def l1(k:Nat)(Xt2:LH α):Nat->LG α
 |0=>kz (S:=S3)
 |n+1=>ly (l1 k Xt2 n) Xt2
def S5:Px:=⟨68,[sr 1,sr 2,(3,.app 27 0),(6,.app 46 0),(9,.app 59 0),sd 49 uY,sd 50 T2,sd 51 T2],[sc 1 fT,se 2 fT (xi),sz 27 jq 0,sz 46 lV 0,sz 59 i7 0]⟩
def S6:Px:=⟨68,[sr 1,sr 2,(3,.app 27 0),(6,.app 46 0),(9,.app 59 0)],[sc 1 fT,se 2 fT (xi),sz 27 jq 0,sz 46 lV 0,sz 59 i7 0]⟩
def vw(Nx:LI α)(Xt4:LJ α):LI α:=fun b d a e f g h i j k c=>ite (decide (a<d)) (ite (0<=a/\a<(b.length:Int)) ((k8.run (b.getD a.toNat tG)).bind fun l=>ite (eF (c.length+1) 96=true) (Nx b d (wrap .i64 (a+1)) e f g h i j k (c++[l])) none) none) (Xt4 e f g h i j k c)
def l2(k:Nat)(Xt4:LJ α):Nat->LI α
 |0=>kz (S:=S5)
 |n+1=>vw (l2 k Xt4 n) Xt4
def S7:Px:=⟨68,[sr 2],[se 2 fT (TE),sz 27 jq 0,sz 46 lV 0,sz 59 i7 0]⟩
def j2(Rt:GL α):LJ α:=fun a e f g h b c d=>Rt a.1 a.2.1 a.2.2.2.2.1 a.2.2.2.2.2.1 b c d
def j1(k:Nat)(Rt:GL α):LH α:=fun a b c d e f g=>l2 k (j2 Rt) k a.2.2.2.2.2.2.1 (a.2.2.2.2.2.2.1.length:Int) 0 a b c d e f g []
def j0(k:Nat)(Rt:GL α):LF α:=fun a b c d e f=>l1 k (j1 k Rt) k a.2.2.2.1 (a.2.2.2.1.length:Int) 0 a b c d e f []
def top(k:Nat)(Rt:GL α)(a:pJ):Option α:=l0 k (j0 k Rt) k a.2.2.1 (a.2.2.1.length:Int) 0 a 0 0 [[0,0,0,0],[0,0,0,0],[0,0,0,0]] 0 []
def run:=top fuel (fun a b c d e f g=>some (a,b,e,f,c,d,g,()))
def F:Fn:=fo [fT] fT run
def w(k:Nat)(Rt:K S7 α):List (Nat×dQ α):=[(88,.j S6 (j2 Rt)),(205,.l S5 (l2 k (j2 Rt)) fun _=>[]),(64,.j S4 (j1 k Rt)),(121,.l S3 (l1 k (j1 k Rt)) fun _=>[]),(36,.j S2 (j0 k Rt)),(37,.l S1 (l0 k (j0 k Rt)) fun _=>[])]
noncomputable def c:Cf:=cn 19 F ⟨Tryz.f19,[9,16,22],[k8.c],[],[],[(2,1,2),(13,295,1),(16,1970324836974887,1),(7,39,1),(10,3758096423,1),(1,7,1),(4,28679,1),(9,28679,1),(24,7,1),(30,3758096423,1),(45,39,1),(51,1970324836974887,1),(63,295,1)],[(9,[.melt true 3 [] 27 true]),(30,[.melt true 6 [] 46 true]),(51,[.melt true 9 [] 59 true])],[22,40],0⟩ S7 top (fun a b d e f g h=>some (a,b,f,g,d,e,h,())) w bV Tryz.func19
end Go.Bx.ef
namespace Go.Bx.pd
def S1:Px:=⟨14,[sd 2 mi,sd 3 T2],[]⟩
def top(Rt:Qs α)(a:D1):Option α:=(dN.run a).bind fun b=>ite (b !=0) (Rt [] b) ((gk.run [(0,a,0,())]).bind fun c=>Rt c 0)
def run:=top (fun a b=>some (a,b,()))
def F:Fn:=fm [uX] [mi,T2] run
noncomputable def c:Cf:=cn 39 F ⟨Tryz.f39,[],[dN.c,gk.c],[],[],[(2,3,2)],[(2,[.dat true 2 []])],[],0⟩ S1 (fun _=>top) ri e0 bV Tryz.func39
end Go.Bx.pd
namespace Go.Bx.gR
def S1:Px:=⟨47,[sr 6,sd 7 T2],[sc 6 fT]⟩
def S2:Px:=⟨47,[sd 0 T2,sr 6,sr 10,sd 28 tK,sd 29 T2,sd 30 T2],[se 6 fT (xi),sc 10 fT]⟩
def S3:Px:=⟨47,[sr 6,sr 10],[se 6 fT (xi),sc 10 fT]⟩
def aR(Nx:SE α)(Rt:sQ α)(Xt0:SF α):SE α:=fun c b d a e f g h i=>ite (decide (a<d)) (ite (0<=a/\a<(b.length:Int)) (ite ((b.getD a.toNat iX).2.1 !=c) (Rt 12 (0,0,[],[],[[0,0,0,0],[0,0,0,0],[0,0,0,0]],0,[],())) (Nx c b d (wrap .i64 (a+1)) e f g h i)) none) (Xt0 e f g h i)
def l0(k:Nat)(Rt:sQ α)(Xt0:SF α):Nat->SE α
 |0=>kz (S:=S2)
 |n+1=>aR (l0 k Rt Xt0 n) Rt Xt0
def j0(Rt:sQ α):SF α:=fun c d e f a=>(cE.run a).bind fun b=>ite (b !=0) (Rt b (0,0,[],[],[[0,0,0,0],[0,0,0,0],[0,0,0,0]],0,[],())) (Rt 0 a)
def top(k:Nat)(Rt:sQ α)(c:Int)(d:D1)(a:rR):Option α:=(pd.run d).bind fun b=>ite (b.2.1 !=0) (Rt b.2.1 (0,0,[],[],[[0,0,0,0],[0,0,0,0],[0,0,0,0]],0,[],())) ((ef.run (c,1,b.1,a,[[0,0,0,0],[0,0,0,0],[0,0,0,0]],0,[],())).bind fun e=>l0 k Rt (j0 Rt) k c a (a.length:Int) 0 0 0 [[0,0,0,0],[0,0,0,0],[0,0,0,0]] 0 e)
def run:=top fuel (fun a b=>some (b,a,()))
def F:Fn:=fm [T2,uX,tK] [fT,T2] run
def w(k:Nat)(Rt:K S1 α):List (Nat×dQ α):=[(48,.j S3 (j0 Rt)),(73,.l S2 (l0 k Rt (j0 Rt)) fun _=>[])]
noncomputable def c:Cf:=cn 15 F ⟨Tryz.f15,[12],[cE.c,ef.c,pd.c],[],[],[(2,3,6),(1,17,6),(4,1879049281,0),(18,1879049281,0),(33,17,6)],[(2,[.dat false 6 []])],[],0⟩ S1 top (fun a b=>some (b,a,())) w bV Tryz.func15
end Go.Bx.gR
namespace Go.Bx.gY
def S1:Px:=⟨13,[sd 2 mi,sd 3 T2],[]⟩
def top(Rt:Qs α)(a:D1):Option α:=(bx.run a).bind fun b=>ite (b !=0) (Rt [] b) (Rt [(0,a,0,())] 0)
def run:=top (fun a b=>some (a,b,()))
def F:Fn:=fm [uX] [mi,T2] run
noncomputable def c:Cf:=cn 63 F ⟨Tryz.f63,[],[bx.c],[],[],[(2,3,2)],[(2,[.dat true 2 []])],[],0⟩ S1 (fun _=>top) ri e0 bV Tryz.func63
end Go.Bx.gY
namespace Go.Bx.bP
def S1:Px:=⟨44,[sr 6,sd 7 T2],[se 6 fT (TD)]⟩
def S2:Px:=⟨44,[sd 0 T2,sr 6,sd 9 T2,sr 10,sd 28 tK,sd 29 T2,sd 30 T2],[se 6 fT (xi),se 10 fT (TD)]⟩
def j0(Nx:GH α):GH α:=fun a b c d e f g h i j k l m n o=>Nx a b c d (wrap .i64 (e+1)) f g h i j k l m n o
def S3:Px:=⟨44,[sr 6,sd 9 T2,sr 10],[se 6 fT (xi),se 10 fT (TD)]⟩
def aR(Nx:GH α)(Xt0:NW α):GH α:=fun c o b d a e f g h i j k l m n=>ite (decide (a<d)) (ite (0<=a/\a<(b.length:Int)) (ite ((b.getD a.toNat iX).2.1 !=c) (j0 Nx c 12 b d a e f g h i j k l m n) (j0 Nx c o b d a e f g h i j k l m n)) none) (Xt0 o e f g h i j k l m n)
def l0(k:Nat)(Xt0:NW α):Nat->GH α
 |0=>kz (S:=S2)
 |n+1=>aR (l0 k Xt0 n) Xt0
def j1(Rt:RD α):NW α:=fun a h i j k b c d e f g=>ite (a !=0) (Rt a 0 0 [] [] [[0,0,0,0],[0,0,0,0],[0,0,0,0]] 0) (Rt 0 b c d e f g)
def top(k:Nat)(Rt:RD α)(c:Int)(d:D1)(a:rR):Option α:=(gY.run d).bind fun b=>ite (b.2.1 !=0) (Rt b.2.1 0 0 [] [] [[0,0,0,0],[0,0,0,0],[0,0,0,0]] 0) ((aj.run (c,1,b.1,a,[[0,0,0,0],[0,0,0,0],[0,0,0,0]],0,[],())).bind fun e=>l0 k (j1 Rt) k c e a (a.length:Int) 0 0 0 [[0,0,0,0],[0,0,0,0],[0,0,0,0]] 0 c 1 b.1 a [[0,0,0,0],[0,0,0,0],[0,0,0,0]] 0)
def run:=top (α:=pJ×Int×Unit) fuel (fun a b c d e f g=>some ((b,c,d,e,f,g,[],()),a,()))
def F:Fn:=fm [T2,uX,tK] [fT,T2] run
def w0(k:Nat)(Nx:K S2 α)(Xt0:K S3 α):List (Nat×dQ α):=[(48,.j S2 (j0 Nx))]
def w(k:Nat)(Rt:K S1 α):List (Nat×dQ α):=[(52,.j S3 (j1 Rt)),(85,.l S2 (l0 k (j1 Rt)) fun n=>w0 k (l0 k (j1 Rt) n) (j1 Rt))]
noncomputable def c:Cf:=cn 25 F ⟨Tryz.f25,[12,13],[aj.c,gY.c],[],[],[(2,3,6),(1,25,6),(4,1879049793,0),(21,1879049793,0),(33,1879049793,0),(36,25,6)],[(2,[.dat false 6 [2],.dat false 6 [3]])],[],0⟩ S1 top (fun a b d e f g h=>some ((b,d,e,f,g,h,[],()),a,())) w bV Tryz.func25
end Go.Bx.bP
namespace Go.Bx.mY
def S1:Px:=⟨25,[sr 4,sd 5 T2],[sc 4 T7]⟩
def top(Rt:rT α)(a:D3)(b:D0):Option α:=(eV.run a).bind fun c=>ite (c !=0) (Rt c nM) ((jh.run a b).bind fun e=>ite (not e) (Rt 6 nM) ((eI.run a b a.2.2.2.2.1).bind fun d=>Rt d.2.1 d.1))
def run:=top (fun a b=>some (b,a,()))
def F:Fn:=fm [T6,T1] [T7,T2] run
noncomputable def c:Cf:=cn 37 F ⟨Tryz.f37,[],[eV.c,jh.c,eI.c],[],[],[(2,3,4)],[],[],0⟩ S1 (fun _=>top) (fun a b=>some (b,a,())) e0 bV Tryz.func37
end Go.Bx.mY
namespace Go.Bx.iR
def S1:Px:=⟨14,[sd 4 T2],[]⟩
def top(Rt:gf α)(a:D3)(c:D4):Option α:=(bz.run a).bind fun b=>(if((b !=0)==false)=true then ft.run a c else some false).bind fun d=>ite (cond (b !=0) true (not d)) (Rt 16) (Rt 0)
def run:=top (fun a=>some a)
def F:Fn:=fo [T6,T7] T2 run
noncomputable def c:Cf:=cn 185 F ⟨Tryz.f185,[],[bz.c,ft.c],[],[],[(2,1,4)],[],[],0⟩ S1 (fun _=>top) (fun a=>some a) e0 bV Tryz.func185
end Go.Bx.iR
namespace Go.Bx.gC
def S1:Px:=⟨26,[sr 6,sd 7 T2],[sc 6 T7]⟩
def top(Rt:rT α)(a:D3)(d:D0)(b:D4):Option α:=(iR.run a b).bind fun e=>ite (e !=0) (Rt 16 nM) ((aT.run a d b).bind fun c=>ite (not c.2.1) (Rt 16 nM) (Rt 0 c.1))
def run:=top (fun a b=>some (b,a,()))
def F:Fn:=fm [T6,T1,T7] [T7,T2] run
noncomputable def c:Cf:=cn 128 F ⟨Tryz.f128,[],[iR.c,aT.c],[],[],[(2,3,6)],[],[],0⟩ S1 (fun _=>top) (fun a b=>some (b,a,())) e0 bV Tryz.func128
end Go.Bx.gC
namespace Go.Bx.gH
def S1:Px:=⟨25,[sr 4,sd 5 T2],[sc 4 T7]⟩
def top(Rt:rT α)(a:D3)(b:D0):Option α:=(bz.run a).bind fun c=>ite (c !=0) (Rt c nM) ((dj.run a b).bind fun e=>ite (not e) (Rt 6 nM) ((gC.run a b a.2.2.2.2.1).bind fun d=>Rt d.2.1 d.1))
def run:=top (fun a b=>some (b,a,()))
def F:Fn:=fm [T6,T1] [T7,T2] run
noncomputable def c:Cf:=cn 61 F ⟨Tryz.f61,[],[bz.c,dj.c,gC.c],[],[],[(2,3,4)],[],[],0⟩ S1 (fun _=>top) (fun a b=>some (b,a,())) e0 bV Tryz.func61
end Go.Bx.gH
namespace Go.Bx.iu
def S1:Px:=⟨50,[sd 2 uX,sd 3 T2],[]⟩
def S2:Px:=⟨50,[sr 1,(5,.app 47 0),sd 27 T3,sd 28 T2,sd 29 T2],[sc 1 FF,sz 47 tJ 0]⟩
def S3:Px:=⟨50,[(5,.app 47 0)],[sz 47 tJ 0]⟩
def aR(Nx:Ly α)(Rt:GK α)(Xt0:Lz α):Ly α:=fun b e a f c=>ite (decide (a<e)) (ite (0<=a/\a<(b.length:Int)) ((mY.run f.1 (b.getD a.toNat [0,0,0,0])).bind fun d=>ite (d.2.1 !=0) (Rt [] d.2.1) ((kL.run d.1).bind fun g=>ite (eF (c.length+1) 20=true) (Nx b e (wrap .i64 (a+1)) f (c++[g])) none)) none) (Xt0 c)
def l0(k:Nat)(Rt:GK α)(Xt0:Lz α):Nat->Ly α
 |0=>kz (S:=S2)
 |n+1=>aR (l0 k Rt Xt0 n) Rt Xt0
def j0(Rt:GK α):Lz α:=fun a=>Rt a 0
def top(k:Nat)(Rt:GK α)(a:D7):Option α:=(eV.run a.1).bind fun b=>ite (b !=0) (Rt [] b) (ite (cond (decide ((a.2.1.length:Int)<1)) true (decide ((a.2.1.length:Int)>7))) (Rt [] 1) (l0 k Rt (j0 Rt) k a.2.1 (a.2.1.length:Int) 0 a []))
def run:=top fuel (fun a b=>some (a,b,()))
def F:Fn:=fm [FF] [uX,T2] run
def w(k:Nat)(Rt:K S1 α):List (Nat×dQ α):=[(64,.j S3 (j0 Rt)),(97,.l S2 (l0 k Rt (j0 Rt)) fun _=>[])]
noncomputable def c:Cf:=cn 14 F ⟨Tryz.f14,[16],[eV.c,mY.c,kL.c],[],[],[(2,3,2),(1,1,5),(4,469762065,1),(24,469762065,1),(45,1,5)],[(2,[.dat true 2 []]),(24,[.melt true 5 [] 47 true])],[],0⟩ S1 top ri w bV Tryz.func14
end Go.Bx.iu
namespace Go.Bx.dC
def S1:Px:=⟨50,[sd 2 uX,sd 3 T2],[]⟩
def S2:Px:=⟨50,[sr 1,(5,.app 47 0),sd 27 T3,sd 28 T2,sd 29 T2],[sc 1 FF,sz 47 tJ 0]⟩
def S3:Px:=⟨50,[(5,.app 47 0)],[sz 47 tJ 0]⟩
def aR(Nx:Ly α)(Rt:GK α)(Xt0:Lz α):Ly α:=fun b e a f c=>ite (decide (a<e)) (ite (0<=a/\a<(b.length:Int)) ((gH.run f.1 (b.getD a.toNat [0,0,0,0])).bind fun d=>ite (d.2.1 !=0) (Rt [] d.2.1) ((cT.run d.1).bind fun g=>ite (eF (c.length+1) 20=true) (Nx b e (wrap .i64 (a+1)) f (c++[g])) none)) none) (Xt0 c)
def l0(k:Nat)(Rt:GK α)(Xt0:Lz α):Nat->Ly α
 |0=>kz (S:=S2)
 |n+1=>aR (l0 k Rt Xt0 n) Rt Xt0
def j0(Rt:GK α):Lz α:=fun a=>Rt a 0
def top(k:Nat)(Rt:GK α)(a:D7):Option α:=(bz.run a.1).bind fun b=>ite (b !=0) (Rt [] b) (ite (cond ((a.2.1.length:Int)==0) true (decide ((a.2.1.length:Int)>7))) (Rt [] 1) (l0 k Rt (j0 Rt) k a.2.1 (a.2.1.length:Int) 0 a []))
def run:=top fuel (fun a b=>some (a,b,()))
def F:Fn:=fm [FF] [uX,T2] run
def w(k:Nat)(Rt:K S1 α):List (Nat×dQ α):=[(64,.j S3 (j0 Rt)),(97,.l S2 (l0 k Rt (j0 Rt)) fun _=>[])]
noncomputable def c:Cf:=cn 24 F ⟨Tryz.f24,[16],[bz.c,gH.c,cT.c],[],[],[(2,3,2),(1,1,5),(4,469762065,1),(24,469762065,1),(45,1,5)],[(2,[.dat true 2 []]),(24,[.melt true 5 [] 47 true])],[],0⟩ S1 top ri w bV Tryz.func24
end Go.Bx.dC
namespace Go.Bx.gr
def S1:Px:=⟨41,[sr 2,sd 3 T2],[sc 2 ug]⟩
def S2:Px:=⟨41,[sr 1,sr 2,sr 4,sd 5 uX,sd 19 T2],[sc 1 FF,sc 2 ug,sc 4 ug]⟩
def S3:Px:=⟨41,[sr 2,sr 4],[sc 2 ug,sc 4 ug]⟩
def aR(Nx:SG α)(Rt:zD α)(Xt0:E2 α):SG α:=fun c a d e f=>ite (decide (a<3)) (ite (0<=a/\a<(3:Int)) ((gR.run a c (d.2.2.2.2.1.getD a.toNat [])).bind fun b=>ite (b.2.1 !=0) (Rt b.2.1 [rY,rY,rY]) (ite (0<=a/\a<(3:Int)) (Nx c (wrap .i64 (a+1)) d e (f.set a.toNat b.1)) none)) none) (Xt0 e f)
def l0(k:Nat)(Rt:zD α)(Xt0:E2 α):Nat->SG α
 |0=>kz (S:=S2)
 |n+1=>aR (l0 k Rt Xt0 n) Rt Xt0
def j0(Rt:zD α):E2 α:=fun b a=>Rt 0 a
def top(k:Nat)(Rt:zD α)(b:D7):Option α:=(iu.run b).bind fun a=>ite (a.2.1 !=0) (Rt a.2.1 [rY,rY,rY]) (l0 k Rt (j0 Rt) k a.1 0 b [rY,rY,rY] [rY,rY,rY])
def run:=top fuel (fun a b=>some (b,a,()))
def F:Fn:=fm [FF] [ug,T2] run
def w(k:Nat)(Rt:K S1 α):List (Nat×dQ α):=[(56,.j S3 (j0 Rt)),(73,.l S2 (l0 k Rt (j0 Rt)) fun _=>[])]
noncomputable def c:Cf:=cn 7 F ⟨Tryz.f7,[14],[iu.c,gR.c],[],[],[(2,3,2),(1,5,2),(4,262171,1),(18,262171,1),(39,5,2)],[],[],0⟩ S1 top (fun a b=>some (b,a,())) w bV Tryz.func7
end Go.Bx.gr
namespace Go.Bx.cp
def S1:Px:=⟨41,[sd 2 R6,sd 3 T2],[]⟩
def S2:Px:=⟨41,[sd 4 uX,(6,.app 38 0),sd 20 WM,sd 21 T2],[sz 38 fT 0]⟩
def S3:Px:=⟨41,[(6,.app 38 0)],[sz 38 fT 0]⟩
def aR(Nx:NX α)(Rt:Kh α)(Xt0:NY α):NX α:=fun d e a b=>ite (decide (a<3)) (ite (0<=a/\a<(3:Int)) ((bP.run a d (e.getD a.toNat [])).bind fun c=>ite (c.2.1 !=0) (Rt [] c.2.1) (ite (eF (b.length+1) 192=true) (Nx d e (wrap .i64 (a+1)) (b++[c.1])) none)) none) (Xt0 b)
def l0(k:Nat)(Rt:Kh α)(Xt0:NY α):Nat->NX α
 |0=>kz (S:=S2)
 |n+1=>aR (l0 k Rt Xt0 n) Rt Xt0
def j0(Rt:Kh α):NY α:=fun a=>Rt a 0
def top(k:Nat)(Rt:Kh α)(b:D7):Option α:=(dC.run b).bind fun a=>ite (a.2.1 !=0) (Rt [] a.2.1) (l0 k Rt (j0 Rt) k a.1 b.2.2.2.2.1 0 [])
def run:=top fuel (fun a b=>some (a,b,()))
def F:Fn:=fm [FF] [R6,T2] run
def w(k:Nat)(Rt:K S1 α):List (Nat×dQ α):=[(56,.j S3 (j0 Rt)),(73,.l S2 (l0 k Rt (j0 Rt)) fun _=>[])]
noncomputable def c:Cf:=cn 10 F ⟨Tryz.f10,[14],[dC.c,bP.c],[],[],[(2,3,2),(1,1,6),(4,196613,4),(18,196613,4),(39,1,6)],[(2,[.dat true 2 []]),(18,[.melt true 6 [] 38 true])],[],0⟩ S1 top ri w bV Tryz.func10
end Go.Bx.cp
namespace Go.Bx.fP
def S1:Px:=⟨19,[sd 1 T2,sd 2 T2,sr 3],[sc 3 xm]⟩
def S2:Px:=⟨19,[sd 1 T2,sd 2 T2],[]⟩
def aR(Nx:GM α)(Xt0:xO α):GM α:=fun a b c=>ite (decide (a>b)) (ite (0<=a/\a<(c.1.length:Int)) (Nx (c.1.getD a.toNat (0,0,[],())).1 b c) none) (Xt0 a b)
def l0(k:Nat)(Xt0:xO α):Nat->GM α
 |0=>kz (S:=S1)
 |n+1=>aR (l0 k Xt0 n) Xt0
def S3:Px:=⟨19,[sd 6 .bool],[]⟩
def j0(Rt:eJ α):xO α:=fun a b=>Rt (a==b)
def top(k:Nat)(Rt:eJ α)(a:vN)(b c:Int):Option α:=l0 k (j0 Rt) k b c a
def run:=top fuel (fun a=>some a)
def F:Fn:=fo [xm,T2,T2] .bool run
def w(k:Nat)(Rt:K S3 α):List (Nat×dQ α):=[(16,.j S2 (j0 Rt)),(13,.l S1 (l0 k (j0 Rt)) fun _=>[])]
noncomputable def c:Cf:=cn 100 F ⟨Tryz.f100,[4],[],[],[],[(2,1,6),(1,3,1),(4,7,1),(3,7,1),(9,3,1)],[],[],0⟩ S3 top (fun a=>some a) w bV Tryz.func100
end Go.Bx.fP
namespace Go.Bx.iO
def S1:Px:=⟨35,[sr 1,sd 3 T2,sd 9 TM,sd 10 T2,sd 11 T2],[sc 1 xm]⟩
def j0(Nx:Oq α):Oq α:=fun a b c d e=>Nx a b c (wrap .i64 (d+1)) e
def S2:Px:=⟨35,[sd 3 T2],[]⟩
def aR(Nx:Oq α)(Xt0:gf α):Oq α:=fun c d e a b=>ite (decide (a<e)) (ite (0<=a/\a<(d.length:Int)) ((fP.run b a b.2.2.1).bind fun f=>cond (decide (0<=c/\c<(b.1.length:Int))|| !(f==true)) (ite (cond f (decide ((d.getD a.toNat (0,0,[],())).2.1>(b.1.getD c.toNat (0,0,[],())).2.1)) false) (j0 Nx a d e a b) (j0 Nx c d e a b)) none) none) (Xt0 c)
def l0(k:Nat)(Xt0:gf α):Nat->Oq α
 |0=>kz (S:=S1)
 |n+1=>aR (l0 k Xt0 n) Xt0
def S3:Px:=⟨35,[sd 2 T2],[]⟩
def j1(Rt:gf α):gf α:=fun a=>Rt a
def top(k:Nat)(Rt:gf α)(a:vN):Option α:=l0 k (j1 Rt) k a.2.2.1 a.1 (a.1.length:Int) 0 a
def run:=top fuel (fun a=>some a)
def F:Fn:=fo [xm] T2 run
def w0(k:Nat)(Nx:K S1 α)(Xt0:K S2 α):List (Nat×dQ α):=[(32,.j S1 (j0 Nx))]
def w(k:Nat)(Rt:K S3 α):List (Nat×dQ α):=[(36,.j S2 (j1 Rt)),(37,.l S1 (l0 k (j1 Rt)) fun n=>w0 k (l0 k (j1 Rt) n) (j1 Rt))]
noncomputable def c:Cf:=cn 40 F ⟨Tryz.f40,[8,9],[fP.c],[],[],[(2,1,2),(1,1,3),(4,1797,1),(9,1797,1),(21,1797,1),(24,1,3)],[],[],0⟩ S3 top (fun a=>some a) w bV Tryz.func40
end Go.Bx.iO
namespace Go.Bx.fO
def S1:Px:=⟨93,[sd 2 T2],[]⟩
def S2:Px:=⟨93,[sr 1,sd 16 TM,sd 17 T2,sd 18 T2],[sc 1 xm]⟩
def S3:Px:=⟨93,[sr 1],[sc 1 xm]⟩
def aR(Nx:IF α)(Rt:gf α)(Xt0:LK α):IF α:=fun b d a c=>ite (decide (a<d)) (ite (0<=a/\a<(b.length:Int)) (ite (decide (((b.getD a.toNat (0,0,[],())).2.2.1.length:Int)>6)) (Rt 1) (ite (cond (a==0) (cond (cond ((b.getD a.toNat (0,0,[],())).1 !=(-1)) true ((b.getD a.toNat (0,0,[],())).2.1 !=0)) true (decide (((b.getD a.toNat (0,0,[],())).2.2.1.length:Int)>0))) false) (Rt 12) (cond (decide (0<=(b.getD a.toNat (0,0,[],())).1/\(b.getD a.toNat (0,0,[],())).1<(c.1.length:Int))|| !((cond (decide ((b.getD a.toNat (0,0,[],())).1<0)) true (decide ((b.getD a.toNat (0,0,[],())).1>=a)))==false)) (ite (cond (decide (a>0)) (cond (cond (decide ((b.getD a.toNat (0,0,[],())).1<0)) true (decide ((b.getD a.toNat (0,0,[],())).1>=a))) true ((b.getD a.toNat (0,0,[],())).2.1 !=(wrap .i64 ((c.1.getD (b.getD a.toNat (0,0,[],())).1.toNat (0,0,[],())).2.1+1)))) false) (Rt 12) (Nx b d (wrap .i64 (a+1)) c)) none))) none) (Xt0 c)
def l0(k:Nat)(Rt:gf α)(Xt0:LK α):Nat->IF α
 |0=>kz (S:=S2)
 |n+1=>aR (l0 k Rt Xt0 n) Rt Xt0
def j0(Rt:gf α):LK α:=fun a=>(if((cond (decide (a.2.2.1<0)) true (decide (a.2.2.1>=(a.1.length:Int))))==false)=true then iO.run a else some 0).bind fun b=>ite (cond (cond (decide (a.2.2.1<0)) true (decide (a.2.2.1>=(a.1.length:Int)))) true (a.2.1 !=b)) (Rt 12) (Rt 0)
def top(k:Nat)(Rt:gf α)(a:vN):Option α:=ite (cond (decide ((a.1.length:Int)<1)) true (decide ((a.1.length:Int)>40))) (Rt 1) (l0 k Rt (j0 Rt) k a.1 (a.1.length:Int) 0 a)
def run:=top fuel (fun a=>some a)
def F:Fn:=fo [xm] T2 run
def w(k:Nat)(Rt:K S1 α):List (Nat×dQ α):=[(56,.j S3 (j0 Rt)),(49,.l S2 (l0 k Rt (j0 Rt)) fun _=>[])]
noncomputable def c:Cf:=cn 16 F ⟨Tryz.f16,[14],[iO.c],[],[],[(2,1,2),(1,1,1),(4,229377,1),(7,229377,1),(12,229377,1),(39,1,1)],[],[],0⟩ S1 top (fun a=>some a) w bV Tryz.func16
end Go.Bx.fO
namespace Go.Bx.iP
def S1:Px:=⟨21,[sr 2,sd 5 Ey,sd 6 T2],[sc 2 xm]⟩
def S2:Px:=⟨21,[sd 5 Ey],[]⟩
def aR(Nx:SH α)(Xt0:gh α):SH α:=fun b a c=>ite (decide (a>=0)) (ite (eF (1+b.length) 8=true) (ite (0<=a/\a<(c.1.length:Int)) (Nx ([a]++b) (c.1.getD a.toNat (0,0,[],())).1 c) none) none) (Xt0 b)
def l0(k:Nat)(Xt0:gh α):Nat->SH α
 |0=>kz (S:=S1)
 |n+1=>aR (l0 k Xt0 n) Xt0
def S3:Px:=⟨21,[sd 4 Ey],[]⟩
def j0(Rt:gh α):gh α:=fun a=>Rt a
def top(k:Nat)(Rt:gh α)(a:vN)(b:Int):Option α:=l0 k (j0 Rt) k [] b a
def run:=top fuel (fun a=>some a)
def F:Fn:=fo [xm,T2] Ey run
def w(k:Nat)(Rt:K S3 α):List (Nat×dQ α):=[(28,.j S2 (j0 Rt)),(37,.l S1 (l0 k (j0 Rt)) fun _=>[])]
noncomputable def c:Cf:=cn 17 F ⟨Tryz.f17,[7],[],[],[],[(2,1,4),(1,1,5),(4,25,2),(9,25,2),(18,1,5)],[(9,[.dat true 5 []])],[19],0⟩ S3 top (fun a=>some a) w bV Tryz.func17
end Go.Bx.iP
namespace Go.Bx.cj
def Js:List Nat:=[]
def TL(R:vN->Int->Option TK):Spec:=⟨[hD xm,hD T2],[],W1,.app 19 0,[(19,hB T2 0 true)],W2,fun x=>R x.1 x.2.1⟩
def C(R:vN->Int->Option TK):Ctx:=⟨[(3,T2),(38,TM),(40,xm),(59,Ey),(64,WN)],[],[],Sl [],U1 [(27,[.one (TL R)])],[(14,19)],Gv [],[(2,[4])],[(2,[.melt true 4 [] 19 true])],[],0,0⟩
def PT(a:vN)(b:Int):St:=Q7 18 [(0,.data xm a),(1,.data T2 b)] []
def MB(a:D0):St:=Q7 18 [(4,.app 19 0)] [(19,.buf T2 a 0 true)]
def top(R:vN->Int->Option TK)(Rt:D0->Option α)(b:vN)(a:Int):Option α:=
 if(decide (a<0))=true then
  Rt []
 else
  if 0<=a/\a<(b.1.length:Int)then
   (R b (List.getD b.1 (Int.toNat a) (0,0,[],())).1).bind fun c=>
   if eF (c.1.length+1) 8=true then
    Rt (c.1++[a])
   else none
  else none
theorem B1(R:vN->Int->Option TK)(k:Nat)(Q:Ex->St->Option α)(a:vN)(b:Int):
  (den (C R) k) (cB Tryz.f27) (sJ (C R) Q) (PT a b)=top R (fun c=>Q .ret (MB c)) a b:=zY Js (by kernel_rfl)
def runN:Nat->vN->Int->Option TK
 |0=>fun _ _=>none
 |n+1=>fun a b=>top (runN n) (α:=List Int×Unit) (fun c=>some (c,())) a b
def run(a:vN)(b:Int):Option TK:=runN fuel a b
def Sp:Spec:=TL (runN fuel)
theorem named:oJ Tryz.prog 27:=qt Tryz.func27 (by kernel_rfl) (by kernel_rfl)
set_option maxRecDepth 100000 in
theorem U6:∀n,JF Tryz.prog 27 (TL (runN n)).h
 |0=>Pj fun _=>rfl
 |n+1=>by
  refine BV (C:=C (runN n)) (CW (by kernel_rfl) (by kernel_rfl) (by kernel_rfl) (by kernel_rfl) trivial ⟨⟨⟨U6 n,trivial⟩,named⟩,trivial⟩) (by kernel_rfl) Tryz.func27 (c:=cB Tryz.f27) (by kernel_rfl) (by kernel_rfl) (TL (runN (n+1))) fuel (by kernel_rfl) (by kernel_rfl) ?_;intro x r h;rw[<-h];have h1:(TL (runN (n+1))).start x Tryz.f27.ntmps=(PT x.1 x.2.1):=by kernel_rfl
  rw[h1];refine(B1 (runN n) fuel (xE (C (runN n)) Tryz.f27.results.toList (TL (runN (n+1))).read) x.1 x.2.1).trans ?_
  kernel_rfl
theorem XB:JF Tryz.prog 27 Sp.h:=U6 fuel
noncomputable def s:Sf:=⟨27,.one Sp,XB,named⟩
end Go.Bx.cj
namespace Go.Bx.eC
def S1:Px:=⟨18,[sd 4 Ey],[]⟩
def top(Rt:gh α)(b:vN)(a:Int):Option α:=ite (decide (a<0)) (Rt []) (ite (0<=a/\a<(b.1.length:Int)) ((cj.run b (b.1.getD a.toNat (0,0,[],())).1).bind fun c=>ite (eF (c.1.length+1) 8=true) (Rt (c.1++[a])) none) none)
def run:=top (fun a=>some a)
def F:Fn:=fo [xm,T2] Ey run
noncomputable def c:Cf:=cn 27 F ⟨Tryz.f27,[],[],[cj.s],[(14,19)],[(2,1,4)],[(2,[.dat true 4 []])],[],0⟩ S1 (fun _=>top) (fun a=>some a) e0 bV Tryz.func27
end Go.Bx.eC
namespace Go.Bx.cd
def S1:Px:=⟨21,[sd 2 T2,sd 11 Ey,sd 12 T2,sd 13 T2],[]⟩
def S2:Px:=⟨21,[sd 6 .bool],[]⟩
def S3:Px:=⟨21,[],[]⟩
def aR(Nx:qo α)(Rt:eJ α)(Xt0:Option α):qo α:=fun c b d a=>ite (decide (a<d)) (ite (0<=a/\a<(b.length:Int)) (ite ((b.getD a.toNat 0)==c) (Rt true) (Nx c b d (wrap .i64 (a+1)))) none) (Xt0)
def l0(k:Nat)(Rt:eJ α)(Xt0:Option α):Nat->qo α
 |0=>kz (S:=S1)
 |n+1=>aR (l0 k Rt Xt0 n) Rt Xt0
def j0(Rt:eJ α):Option α:=Rt false
def top(k:Nat)(Rt:eJ α)(b:vN)(c d:Int):Option α:=(eC.run b c).bind fun a=>l0 k Rt (j0 Rt) k d a (a.length:Int) 0
def run:=top fuel (fun a=>some a)
def F:Fn:=fo [xm,T2,T2] .bool run
def w(k:Nat)(Rt:K S2 α):List (Nat×dQ α):=[(32,.j S3 (j0 Rt)),(25,.l S1 (l0 k Rt (j0 Rt)) fun _=>[])]
noncomputable def c:Cf:=cn 132 F ⟨Tryz.f132,[8],[eC.c],[],[],[(2,1,6),(1,0,0),(4,3585,2),(6,3585,2),(21,0,0)],[],[],0⟩ S2 top (fun a=>some a) w bV Tryz.func132
end Go.Bx.cd
namespace Go.Bx.cU
def S1:Px:=⟨39,[sr 1,sd 3 T2,sd 4 T2],[sc 1 xm]⟩
def j0(Nx:GM α):GM α:=fun a b c=>Nx a (wrap .i64 (b-1)) c
def S2:Px:=⟨39,[sd 3 T2],[]⟩
def aR(Nx:GM α)(Xt0:gf α):GM α:=fun a b c=>ite (decide (b>=0)) ((cd.run c b c.2.2.1).bind fun d=>cond (decide (0<=b/\b<(c.1.length:Int))|| !((decide (a<0))==false)) (cond (decide (0<=a/\a<(c.1.length:Int))|| !((decide (a<0))==false)) (ite (cond d (cond (decide (a<0)) true (decide ((c.1.getD b.toNat (0,0,[],())).2.1>=(c.1.getD a.toNat (0,0,[],())).2.1))) false) (j0 Nx b b c) (j0 Nx a b c)) none) none) (Xt0 a)
def l0(k:Nat)(Xt0:gf α):Nat->GM α
 |0=>kz (S:=S1)
 |n+1=>aR (l0 k Xt0 n) Xt0
def S3:Px:=⟨39,[sd 2 T2],[]⟩
def j1(Rt:gf α):gf α:=fun a=>Rt a
def top(k:Nat)(Rt:gf α)(a:vN):Option α:=l0 k (j1 Rt) k (-1) (wrap .i64 ((a.1.length:Int)-1)) a
def run:=top fuel (fun a=>some a)
def F:Fn:=fo [xm] T2 run
def w0(k:Nat)(Nx:K S1 α)(Xt0:K S2 α):List (Nat×dQ α):=[(20,.j S1 (j0 Nx))]
def w(k:Nat)(Rt:K S3 α):List (Nat×dQ α):=[(32,.j S2 (j1 Rt)),(37,.l S1 (l0 k (j1 Rt)) fun n=>w0 k (l0 k (j1 Rt) n) (j1 Rt))]
noncomputable def c:Cf:=cn 64 F ⟨Tryz.f64,[5,8],[cd.c],[],[],[(2,1,2),(1,1,3),(4,13,1),(9,13,1),(12,13,1),(21,1,3)],[],[],0⟩ S3 top (fun a=>some a) w bV Tryz.func64
end Go.Bx.cU
namespace Go.Bx.bE
def S1:Px:=⟨87,[sd 2 T2],[]⟩
def S2:Px:=⟨87,[sr 1,sd 17 TM,sd 18 T2,sd 19 T2],[sc 1 xm]⟩
def S3:Px:=⟨87,[sr 1,sd 5 .bool,sd 17 TM,sd 18 T2,sd 19 T2],[sc 1 xm]⟩
def j0(Nx:IF α)(Rt:gf α):UB α:=fun a b c d e=>ite (not a) (Rt 12) (Nx b c (wrap .i64 (d+1)) e)
def S4:Px:=⟨87,[sr 1],[sc 1 xm]⟩
def aR(Nx:IF α)(Rt:gf α)(Xt0:LK α):IF α:=fun b d a c=>ite (decide (a<d)) (ite (0<=a/\a<(b.length:Int)) (ite (decide (((b.getD a.toNat (0,0,[],())).2.2.1.length:Int)>6)) (Rt 1) (ite (decide (a>0)) (cond (decide (0<=(b.getD a.toNat (0,0,[],())).1/\(b.getD a.toNat (0,0,[],())).1<(c.1.length:Int))|| !((cond (decide ((b.getD a.toNat (0,0,[],())).1>=0)) (decide ((b.getD a.toNat (0,0,[],())).1<a)) false)==true)) (j0 Nx Rt (cond (cond (decide ((b.getD a.toNat (0,0,[],())).1>=0)) (decide ((b.getD a.toNat (0,0,[],())).1<a)) false) ((b.getD a.toNat (0,0,[],())).2.1==(wrap .i64 ((c.1.getD (b.getD a.toNat (0,0,[],())).1.toNat (0,0,[],())).2.1+1))) false) b d a c) none) (j0 Nx Rt (cond (cond ((b.getD a.toNat (0,0,[],())).1==(-1)) ((b.getD a.toNat (0,0,[],())).2.1==0) false) (((b.getD a.toNat (0,0,[],())).2.2.1.length:Int)==0) false) b d a c))) none) (Xt0 c)
def l0(k:Nat)(Rt:gf α)(Xt0:LK α):Nat->IF α
 |0=>kz (S:=S2)
 |n+1=>aR (l0 k Rt Xt0 n) Rt Xt0
def j1(Rt:gf α):LK α:=fun a=>(if((cond (decide (a.2.2.1<0)) true (decide (a.2.2.1>=(a.1.length:Int))))==false)=true then cU.run a else some 0).bind fun b=>ite (cond (cond (decide (a.2.2.1<0)) true (decide (a.2.2.1>=(a.1.length:Int)))) true (a.2.1 !=b)) (Rt 12) (Rt 0)
def top(k:Nat)(Rt:gf α)(a:vN):Option α:=ite (cond ((a.1.length:Int)==0) true (decide ((a.1.length:Int)>40))) (Rt 1) (l0 k Rt (j1 Rt) k a.1 (a.1.length:Int) 0 a)
def run:=top fuel (fun a=>some a)
def F:Fn:=fo [xm] T2 run
def w0(k:Nat)(Nx:K S2 α)(Rt:K S1 α)(Xt0:K S4 α):List (Nat×dQ α):=[(48,.j S3 (j0 Nx Rt))]
def w(k:Nat)(Rt:K S1 α):List (Nat×dQ α):=[(60,.j S4 (j1 Rt)),(49,.l S2 (l0 k Rt (j1 Rt)) fun n=>w0 k (l0 k Rt (j1 Rt) n) Rt (j1 Rt))]
noncomputable def c:Cf:=cn 26 F ⟨Tryz.f26,[12,15],[cU.c],[],[],[(2,1,2),(1,1,1),(4,458753,1),(12,458753,1),(33,458769,1),(42,1,1)],[],[],0⟩ S1 top (fun a=>some a) w bV Tryz.func26
end Go.Bx.bE
namespace Go.Bx.oq
def S1:Px:=⟨21,[sd 4 Ey,sd 5 T2],[]⟩
def top(Rt:E3 α)(a:vN)(c:Bool):Option α:=(fO.run a).bind fun b=>ite (b !=0) (Rt [] b) (ite c ((iP.run a a.2.2.1).bind fun d=>Rt d 0) ((iP.run a a.2.1).bind fun e=>Rt e 0))
def run:=top (fun a b=>some (a,b,()))
def F:Fn:=fm [xm,.bool] [Ey,T2] run
noncomputable def c:Cf:=cn 8 F ⟨Tryz.f8,[],[fO.c,iP.c],[],[],[(2,3,4)],[(2,[.dat true 4 []])],[],0⟩ S1 (fun _=>top) ri e0 bV Tryz.func8
end Go.Bx.oq
namespace Go.Bx.ib
def S1:Px:=⟨21,[sd 4 Ey,sd 5 T2],[]⟩
def top(Rt:E3 α)(a:vN)(c:Bool):Option α:=(bE.run a).bind fun b=>ite (b !=0) (Rt [] b) (ite c ((eC.run a a.2.2.1).bind fun d=>Rt d 0) ((eC.run a a.2.1).bind fun e=>Rt e 0))
def run:=top (fun a b=>some (a,b,()))
def F:Fn:=fm [xm,.bool] [Ey,T2] run
noncomputable def c:Cf:=cn 11 F ⟨Tryz.f11,[],[bE.c,eC.c],[],[],[(2,3,4)],[(2,[.dat true 4 []])],[],0⟩ S1 (fun _=>top) ri e0 bV Tryz.func11
end Go.Bx.ib
namespace Go.Bx.bN
def S1:Px:=⟨76,[sr 6,sd 7 T2],[sc 6 ug]⟩
def S2:Px:=⟨76,[sd 2 .bool,sr 3,sr 6,sr 8,sd 28 Rr,sd 29 T2],[sc 3 FF,sc 6 ug,sc 8 ug]⟩
def S3:Px:=⟨76,[sd 2 .bool,sr 3,sr 6,sr 8,sd 10 T2,sr 11,sd 28 Rr,sd 29 T2,sd 43 Ey,sd 44 T2,sd 45 T2],[sc 3 FF,sc 6 ug,sc 8 ug,sc 11 xm]⟩
def S4:Px:=⟨76,[sd 2 .bool,sr 3,sr 6,sr 8,sd 10 T2,sr 11,sd 28 Rr,sd 29 T2,sd 43 Ey,sd 44 T2,sd 45 T2,sd 54 VD,sd 55 T2,sd 56 T2],[sc 3 FF,sc 6 ug,sc 8 ug,sc 11 xm]⟩
def vw(Nx:NB α)(Xt4:A7 α):NB α:=fun f a g h i j k c l b d m e n=>ite (decide (b<l)) (ite (0<=b/\b<(c.length:Int)) (ite (0<=a/\a<(3:Int)) ((n8.run d.1 (e.getD a.toNat rY) (c.getD b.toNat WT)).bind fun o=>ite (0<=a/\a<(3:Int)) (Nx f a g h i j k c l (wrap .i64 (b+1)) d m (e.set a.toNat o.1) n) none) none) none) (Xt4 f a g h i j k d m e n)
def l2(k:Nat)(Xt4:A7 α):Nat->NB α
 |0=>kz (S:=S4)
 |n+1=>vw (l2 k Xt4 n) Xt4
def j0(Nx:A7 α):A7 α:=fun a b c d e f g h i j k=>Nx a b c d e f (wrap .i64 (g+1)) h i j k
def ly(k:Nat)(Nx:A7 α)(Xt2:A8 α):A7 α:=fun d l e f b g a h i j c=>ite (decide (a<g)) (ite (0<=a/\a<(b.length:Int)) (ite (0<=(b.getD a.toNat 0)/\(b.getD a.toNat 0)<(c.1.length:Int)) (l2 k (j0 Nx) k d l e f b g a (c.1.getD (b.getD a.toNat 0).toNat (0,0,[],())).2.2.1 ((c.1.getD (b.getD a.toNat 0).toNat (0,0,[],())).2.2.1.length:Int) 0 h i j c) none) none) (Xt2 d e f h i j)
def l1(k:Nat)(Xt2:A8 α):Nat->A7 α
 |0=>kz (S:=S3)
 |n+1=>ly k (l1 k Xt2 n) Xt2
def j1(Nx:A8 α):A8 α:=fun a b c d e f=>Nx a b (wrap .i64 (c+1)) d e f
def S5:Px:=⟨76,[sr 6,sr 8],[sc 6 ug,sc 8 ug]⟩
def aR(k:Nat)(Nx:A8 α)(Rt:zD α)(Xt0:E2 α):A8 α:=fun d c a g e f=>ite (decide (a<3)) (ite (0<=a/\a<(3:Int)) ((oq.run (c.getD a.toNat ([],0,0,())) d).bind fun b=>ite (b.2.1 !=0) (Rt b.2.1 [rY,rY,rY]) (l1 k (j1 Nx) k d a c a b.1 (b.1.length:Int) 0 g e f (c.getD a.toNat ([],0,0,())))) none) (Xt0 e f)
def l0(k:Nat)(Rt:zD α)(Xt0:E2 α):Nat->A8 α
 |0=>kz (S:=S2)
 |n+1=>aR k (l0 k Rt Xt0 n) Rt Xt0
def j2(Rt:zD α):E2 α:=fun b a=>Rt 0 a
def top(k:Nat)(Rt:zD α)(b:D7)(c:Vx)(d:Bool):Option α:=(gr.run b).bind fun a=>ite (a.2.1 !=0) (Rt a.2.1 a.1) (l0 k Rt (j2 Rt) k d c.1 0 b [rY,rY,rY] a.1)
def run:=top fuel (fun a b=>some (b,a,()))
def F:Fn:=fm [FF,Vk,.bool] [ug,T2] run
def w1(k:Nat)(Nx:K S3 α)(Xt2:K S2 α):List (Nat×dQ α):=[(76,.j S3 (j0 Nx)),(169,.l S4 (l2 k (j0 Nx)) fun _=>[])]
def w0(k:Nat)(Nx:K S2 α)(Rt:K S1 α)(Xt0:K S5 α):List (Nat×dQ α):=[(80,.j S2 (j1 Nx)),(133,.l S3 (l1 k (j1 Nx)) fun n=>w1 k (l1 k (j1 Nx) n) (j1 Nx))]
def w(k:Nat)(Rt:K S1 α):List (Nat×dQ α):=[(84,.j S5 (j2 Rt)),(61,.l S2 (l0 k Rt (j2 Rt)) fun n=>w0 k (l0 k Rt (j2 Rt) n) Rt (j2 Rt))]
noncomputable def c:Cf:=cn 4 F ⟨Tryz.f4,[19,20,21],[gr.c,oq.c,n8.c],[],[],[(2,3,6),(1,5,6),(4,201326675,2),(7,201326675,2),(10,15393364116307,2),(13,15393364116307,2),(16,31540590755709779,2),(15,201326675,2),(33,15393364116307,2),(42,31540590755709779,2),(54,15393364116307,2),(57,201326675,2),(60,5,6)],[],[],0⟩ S1 top (fun a b=>some (b,a,())) w bV Tryz.func4
end Go.Bx.bN
namespace Go.Bx.aq
def S1:Px:=⟨86,[sr 6,sd 7 T2],[sc 6 ug]⟩
def S2:Px:=⟨86,[sd 2 .bool,sr 3,sr 6,sd 8 R6,sr 10,sd 32 Rr,sd 33 T2],[sc 3 FF,sc 6 ug,sc 10 ug]⟩
def S3:Px:=⟨86,[sd 2 .bool,sr 3,sr 6,sd 8 R6,sr 10,sd 11 T2,sr 12,sr 15,sd 32 Rr,sd 33 T2,sd 51 Ey,sd 52 T2,sd 53 T2],[sc 3 FF,sc 6 ug,sc 10 ug,sc 12 xm,sc 15 fT]⟩
def S4:Px:=⟨86,[sd 2 .bool,sr 3,sr 6,sd 8 R6,sr 10,sd 11 T2,sr 12,sr 15,sd 32 Rr,sd 33 T2,sd 51 Ey,sd 52 T2,sd 53 T2,sd 62 VD,sd 63 T2,sd 64 T2],[sc 3 FF,sc 6 ug,sc 10 ug,sc 12 xm,sc 15 fT]⟩
def j0(Nx:GI α):GI α:=fun a b c d e f g h i j k l m n o p=>Nx a b c d e f g h i j (wrap .i64 (k+1)) l m n o p
def vw(Nx:GI α)(Xt4:Bb α):GI α:=fun d e f g h i j k b l a c m n o p=>ite (decide (a<l)) (ite (0<=a/\a<(b.length:Int)) ((ik.run c.1 p (b.getD a.toNat WT)).bind fun q=>ite (q.2.1==0) (j0 Nx d e f g h i j k b l a c m n o q.1) (j0 Nx d e f g h i j k b l a c m n o p)) none) (Xt4 d e f g h i j k c m n o p)
def l2(k:Nat)(Xt4:Bb α):Nat->GI α
 |0=>kz (S:=S4)
 |n+1=>vw (l2 k Xt4 n) Xt4
def j1(Nx:Bb α):Bb α:=fun a b c d e f g h i j k l m=>Nx a b c d e f g (wrap .i64 (h+1)) i j k l m
def S5:Px:=⟨86,[sd 2 .bool,sr 3,sr 6,sd 8 R6,sr 10,sd 11 T2,sr 15,sd 32 Rr,sd 33 T2],[sc 3 FF,sc 6 ug,sc 10 ug,sc 15 fT]⟩
def ly(k:Nat)(Nx:Bb α)(Xt2:Of α):Bb α:=fun d e f g h b i a j l m c n=>ite (decide (a<i)) (ite (0<=a/\a<(b.length:Int)) (ite (0<=(b.getD a.toNat 0)/\(b.getD a.toNat 0)<(c.1.length:Int)) (l2 k (j1 Nx) k d e f g h b i a (c.1.getD (b.getD a.toNat 0).toNat (0,0,[],())).2.2.1 ((c.1.getD (b.getD a.toNat 0).toNat (0,0,[],())).2.2.1.length:Int) 0 j l m c n) none) none) (Xt2 d e f g h j l m n)
def l1(k:Nat)(Xt2:Of α):Nat->Bb α
 |0=>kz (S:=S3)
 |n+1=>ly k (l1 k Xt2 n) Xt2
def j3(Nx:Ds α):Ds α:=fun a b c d e f g=>Nx a b c (wrap .i64 (d+1)) e f g
def j2(Nx:Ds α):Of α:=fun b c a d e f g h i=>ite (0<=a/\a<(3:Int)) (j3 Nx b c d e f g (h.set a.toNat i)) none
def S6:Px:=⟨86,[sr 6,sr 10],[sc 6 ug,sc 10 ug]⟩
def aR(k:Nat)(Nx:Ds α)(Rt:zD α)(Xt0:E2 α):Ds α:=fun e c d a h f g=>ite (decide (a<3)) (ite (0<=a/\a<(3:Int)) ((ib.run (d.getD a.toNat ([],0,0,())) e).bind fun b=>ite (b.2.1 !=0) (Rt b.2.1 [rY,rY,rY]) (ite (0<=a/\a<(c.length:Int)) (l1 k (j2 Nx) k e c a d a b.1 (b.1.length:Int) 0 h f g (d.getD a.toNat ([],0,0,())) (c.getD a.toNat rY)) none)) none) (Xt0 f g)
def l0(k:Nat)(Rt:zD α)(Xt0:E2 α):Nat->Ds α
 |0=>kz (S:=S2)
 |n+1=>aR k (l0 k Rt Xt0 n) Rt Xt0
def j4(Rt:zD α):E2 α:=fun b a=>Rt 0 a
def top(k:Nat)(Rt:zD α)(b:D7)(c:Vx)(d:Bool):Option α:=(cp.run b).bind fun a=>ite (a.2.1 !=0) (Rt a.2.1 [rY,rY,rY]) (l0 k Rt (j4 Rt) k d a.1 c.1 0 b [rY,rY,rY] [rY,rY,rY])
def run:=top fuel (fun a b=>some (b,a,()))
def F:Fn:=fm [FF,Vk,.bool] [ug,T2] run
def w2(k:Nat)(Nx:K S4 α)(Xt4:K S3 α):List (Nat×dQ α):=[(88,.j S4 (j0 Nx))]
def w1(k:Nat)(Nx:K S3 α)(Xt2:K S5 α):List (Nat×dQ α):=[(92,.j S3 (j1 Nx)),(193,.l S4 (l2 k (j1 Nx)) fun n=>w2 k (l2 k (j1 Nx) n) (j1 Nx))]
def w0(k:Nat)(Nx:K S2 α)(Rt:K S1 α)(Xt0:K S6 α):List (Nat×dQ α):=[(100,.j S2 (j3 Nx)),(96,.j S5 (j2 Nx)),(157,.l S3 (l1 k (j2 Nx)) fun n=>w1 k (l1 k (j2 Nx) n) (j2 Nx))]
def w(k:Nat)(Rt:K S1 α):List (Nat×dQ α):=[(104,.j S6 (j4 Rt)),(73,.l S2 (l0 k Rt (j4 Rt)) fun n=>w0 k (l0 k Rt (j4 Rt) n) Rt (j4 Rt))]
noncomputable def c:Cf:=cn 5 F ⟨Tryz.f5,[22,23,24,25,26],[cp.c,ib.c,ik.c],[],[],[(2,3,6),(1,17,6),(4,3221225811,2),(7,3221234515,2),(10,3940652895184723,2),(13,3940652895184723,2),(16,8074391185143113555,2),(18,3221225811,2),(39,3940652895184723,2),(48,8074391185143113555,2),(63,8074391185143113555,2),(66,3940652895184723,2),(69,3221234515,2),(72,3221225811,2),(75,17,6)],[],[],0⟩ S1 top (fun a b=>some (b,a,())) w bV Tryz.func5
end Go.Bx.aq
namespace Go.Bx.gm
def S1:Px:=⟨54,[sd 4 .bool],[]⟩
def top(Rt:eJ α)(a b:FE):Option α:=Rt (cond (cond (cond (cond (cond (cond (a.1==b.1) (a.2.1==b.2.1) false) (a.2.2.1==b.2.2.1) false) (az T9 a.2.2.2.1 b.2.2.2.1) false) (a.2.2.2.2.1==b.2.2.2.2.1) false) (a.2.2.2.2.2.1==b.2.2.2.2.2.1) false) (az .str a.2.2.2.2.2.2.1 b.2.2.2.2.2.2.1) false)
def run:=top (fun a=>some a)
def F:Fn:=fo [i7,i7] .bool run
noncomputable def c:Cf:=cn 88 F ⟨Tryz.f88,[],[],[],[],[(2,1,4)],[],[],0⟩ S1 (fun _=>top) (fun a=>some a) e0 bV Tryz.func88
end Go.Bx.gm
namespace Go.Bx.cF
def S1:Px:=⟨27,[sd 4 .bool],[]⟩
def S2:Px:=⟨27,[sd 0 uY,sd 1 uY,sd 12 T2,sd 13 T2],[]⟩
def S3:Px:=⟨27,[],[]⟩
def aR(Nx:Oi α)(Rt:eJ α)(Xt0:Option α):Oi α:=fun b c d a=>ite (decide (a<d)) (ite (0<=a/\a<(b.length:Int)) (ite (0<=a/\a<(c.length:Int)) ((gm.run (b.getD a.toNat tG) (c.getD a.toNat tG)).bind fun e=>ite (not e) (Rt false) (Nx b c d (wrap .i64 (a+1)))) none) none) (Xt0)
def l0(k:Nat)(Rt:eJ α)(Xt0:Option α):Nat->Oi α
 |0=>kz (S:=S2)
 |n+1=>aR (l0 k Rt Xt0 n) Rt Xt0
def j0(Rt:eJ α):Option α:=Rt true
def top(k:Nat)(Rt:eJ α)(a b:xh):Option α:=ite ((a.length:Int) !=(b.length:Int)) (Rt false) (l0 k Rt (j0 Rt) k a b (a.length:Int) 0)
def run:=top fuel (fun a=>some a)
def F:Fn:=fo [uY,uY] .bool run
def w(k:Nat)(Rt:K S1 α):List (Nat×dQ α):=[(40,.j S3 (j0 Rt)),(49,.l S2 (l0 k Rt (j0 Rt)) fun _=>[])]
noncomputable def c:Cf:=cn 35 F ⟨Tryz.f35,[10],[gm.c],[],[],[(2,1,4),(1,0,0),(4,12291,0),(12,12291,0),(27,0,0)],[],[],0⟩ S1 top (fun a=>some a) w bV Tryz.func35
end Go.Bx.cF
namespace Go.Bx.bI
def S1:Px:=⟨99,[sd 4 .bool],[]⟩
def S2:Px:=⟨99,[sr 2,sr 3,sd 45 T2,sd 46 T2],[sc 2 fT,sc 3 fT]⟩
def S3:Px:=⟨99,[sr 2,sr 3],[sc 2 fT,sc 3 fT]⟩
def aR(Nx:Oj α)(Rt:eJ α)(Xt0:Ok α):Oj α:=fun d a b c=>ite (decide (a<d)) (ite (0<=a/\a<(b.2.2.2.1.length:Int)) (ite (0<=a/\a<(c.2.2.2.1.length:Int)) ((if((cond (cond (not (az T9 (b.2.2.2.1.getD a.toNat iX).1 (c.2.2.2.1.getD a.toNat iX).1)) true ((b.2.2.2.1.getD a.toNat iX).2.1 !=(c.2.2.2.1.getD a.toNat iX).2.1)) true ((b.2.2.2.1.getD a.toNat iX).2.2.1 !=(c.2.2.2.1.getD a.toNat iX).2.2.1))==false)=true then cJ.run (b.2.2.2.1.getD a.toNat iX).2.2.2.1 (c.2.2.2.1.getD a.toNat iX).2.2.2.1 else some false).bind fun e=>ite (cond (cond (cond (not (az T9 (b.2.2.2.1.getD a.toNat iX).1 (c.2.2.2.1.getD a.toNat iX).1)) true ((b.2.2.2.1.getD a.toNat iX).2.1 !=(c.2.2.2.1.getD a.toNat iX).2.1)) true ((b.2.2.2.1.getD a.toNat iX).2.2.1 !=(c.2.2.2.1.getD a.toNat iX).2.2.1)) true (not e)) (Rt false) (Nx d (wrap .i64 (a+1)) b c)) none) none) (Xt0 b c)
def l0(k:Nat)(Rt:eJ α)(Xt0:Ok α):Nat->Oj α
 |0=>kz (S:=S2)
 |n+1=>aR (l0 k Rt Xt0 n) Rt Xt0
def j0(Rt:eJ α):Ok α:=fun a b=>(cM.run a.2.2.1 b.2.2.1).bind fun c=>(if(c==true)=true then cF.run a.2.2.2.2.2.2.1 b.2.2.2.2.2.2.1 else some false).bind fun d=>Rt (cond c d false)
def top(k:Nat)(Rt:eJ α)(a b:pJ):Option α:=ite (cond (cond (cond (cond (a.1 !=b.1) true (a.2.1 !=b.2.1)) true (not (az su a.2.2.2.2.1 b.2.2.2.2.1))) true (a.2.2.2.2.2.1 !=b.2.2.2.2.2.1)) true ((a.2.2.2.1.length:Int) !=(b.2.2.2.1.length:Int))) (Rt false) (l0 k Rt (j0 Rt) k (a.2.2.2.1.length:Int) 0 a b)
def run:=top fuel (fun a=>some a)
def F:Fn:=fo [fT,fT] .bool run
def w(k:Nat)(Rt:K S1 α):List (Nat×dQ α):=[(44,.j S3 (j0 Rt)),(49,.l S2 (l0 k Rt (j0 Rt)) fun _=>[])]
noncomputable def c:Cf:=cn 13 F ⟨Tryz.f13,[11],[cJ.c,cM.c,cF.c],[],[],[(2,1,4),(1,3,2),(4,26388279066627,2),(12,26388279066627,2),(30,3,2)],[],[],0⟩ S1 top (fun a=>some a) w bV Tryz.func13
end Go.Bx.bI
namespace Go.Bx.cw
def S1:Px:=⟨18,[sr 2,sr 3,sd 6 T2],[sc 2 ug,sc 3 ug]⟩
def S2:Px:=⟨18,[sd 4 .bool],[]⟩
def S3:Px:=⟨18,[],[]⟩
def aR(Nx:Om α)(Rt:eJ α)(Xt0:Option α):Om α:=fun a b c=>ite (decide (a<3)) (ite (0<=a/\a<(3:Int)) (ite (0<=a/\a<(3:Int)) ((bI.run (b.getD a.toNat rY) (c.getD a.toNat rY)).bind fun d=>ite (not d) (Rt false) (Nx (wrap .i64 (a+1)) b c)) none) none) (Xt0)
def l0(k:Nat)(Rt:eJ α)(Xt0:Option α):Nat->Om α
 |0=>kz (S:=S1)
 |n+1=>aR (l0 k Rt Xt0 n) Rt Xt0
def j0(Rt:eJ α):Option α:=Rt true
def top(k:Nat)(Rt:eJ α)(a b:vM):Option α:=l0 k Rt (j0 Rt) k 0 a b
def run:=top fuel (fun a=>some a)
def F:Fn:=fo [ug,ug] .bool run
def w(k:Nat)(Rt:K S2 α):List (Nat×dQ α):=[(32,.j S3 (j0 Rt)),(25,.l S1 (l0 k Rt (j0 Rt)) fun _=>[])]
noncomputable def c:Cf:=cn 6 F ⟨Tryz.f6,[8],[bI.c],[],[],[(2,1,4),(1,0,0),(4,19,2),(6,19,2),(21,0,0)],[],[],0⟩ S2 top (fun a=>some a) w bV Tryz.func6
end Go.Bx.cw
namespace Go.Bx.ej
def S1:Px:=⟨33,[sd 6 .bool],[]⟩
def top(Rt:eJ α)(a:D7)(b:Vx)(c:Bool):Option α:=(bN.run a b c).bind fun d=>(aq.run a b c).bind fun e=>(cw.run d.1 e.1).bind fun f=>Rt (cond f (d.2.1==e.2.1) false)
def run:=top (fun a=>some a)
def F:Fn:=fo [FF,Vk,.bool] .bool run
noncomputable def c:Cf:=cn 3 F ⟨Tryz.f3,[],[bN.c,aq.c,cw.c],[],[],[(2,1,6)],[],[],0⟩ S1 (fun _=>top) (fun a=>some a) e0 bV Tryz.func3
end Go.Bx.ej
