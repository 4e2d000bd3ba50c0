/- Go functions of this seat in their own words of Lean, each tied to its code by a contract. -/
import Derived.Test.YtbfaahaoefngoaaGreatDoorGBase
import Derived.Test.YtbfaahaoefngoaaGreatDoorCxZi
import Derived.Test.YtbfaahaoefngoaaGreatDoorCxZj
open Int (tdiv tmod)
open List (replicate)
open Nat (beq ble blt)
open Go Go.Proofs Go.Bx
open Go.IntKind (wrap)
set_option maxHeartbeats 4000000
set_option maxRecDepth 100000
set_option linter.unusedVariables false
variable {α:Type}
namespace Go.Bx.ay
def S1:Px:=⟨19,[(3,.app 16 0),sd 6 T1,sd 7 T2],[sz 16 T4 0]⟩
def S2:Px:=⟨19,[(3,.app 16 0)],[sz 16 T4 0]⟩
def aR(Nx:Dm α)(Xt0:gh α):Dm α:=fun b a c=>ite (decide (a<4)) (ite (0<=a/\a<(4:Int)) (ite (eF (c.length+2) 8=true) (Nx b (wrap .i64 (a+1)) (c++[(tmod (b.getD a.toNat 0) 4294967296),(wrap .u64 (tdiv (b.getD a.toNat 0) 4294967296))])) none) none) (Xt0 c)
def l0(k:Nat)(Xt0:gh α):Nat->Dm α
 |0=>kz (S:=S1)
 |n+1=>aR (l0 k Xt0 n) Xt0
def S3:Px:=⟨19,[(2,.app 16 0)],[sz 16 T4 0]⟩
def j0(Rt:gh α):gh α:=fun a=>Rt a
def top(k:Nat)(Rt:gh α)(a:D0):Option α:=l0 k (j0 Rt) k a 0 []
def run:=top fuel (fun a=>some a)
def F:Fn:=fo [T1] lI run
def w(k:Nat)(Rt:K S3 α):List (Nat×dQ α):=[(32,.j S2 (j0 Rt)),(37,.l S1 (l0 k (j0 Rt)) fun _=>[])]
noncomputable def c:Cf:=cn 136 F ⟨Tryz.f136,[8],[],[],[],[(2,1,2),(1,1,3),(4,25,3),(9,25,3),(21,1,3)],[(9,[.melt true 3 [] 16 true])],[],0⟩ S3 top (fun a=>some a) w bV Tryz.func136
end Go.Bx.ay
namespace Go.Bx.bc
def S1:Px:=⟨40,[sd 0 lI,sd 1 lI,sd 5 T2],[]⟩
def S2:Px:=⟨40,[sd 0 lI,sd 1 lI,sd 5 T2,sd 6 T4,sd 7 T4],[]⟩
def S3:Px:=⟨40,[sd 4 T2],[]⟩
def j1(Nx:GF α)(Rt:gf α):RC α:=fun c d e a b=>ite (decide (a<b)) (Rt (-1)) (ite (decide (a>b)) (Rt 1) (Nx c d (wrap .i64 (e-1))))
def j0(Nx:GF α)(Rt:gf α):RC α:=fun c b a d e=>ite (decide (a<(b.length:Int))) (ite (0<=a/\a<(b.length:Int)) (j1 Nx Rt c b a d (b.getD a.toNat 0)) none) (j1 Nx Rt c b a d e)
def S4:Px:=⟨40,[],[]⟩
def aR(Nx:GF α)(Rt:gf α)(Xt0:Option α):GF α:=fun b c a=>ite (decide (a>=0)) (ite (decide (a<(b.length:Int))) (ite (0<=a/\a<(b.length:Int)) (j0 Nx Rt b c a (b.getD a.toNat 0) 0) none) (j0 Nx Rt b c a 0 0)) (Xt0)
def l0(k:Nat)(Rt:gf α)(Xt0:Option α):Nat->GF α
 |0=>kz (S:=S1)
 |n+1=>aR (l0 k Rt Xt0 n) Rt Xt0
def j2(Rt:gf α):Option α:=Rt 0
def top(k:Nat)(Rt:gf α)(a b:D0):Option α:=l0 k Rt (j2 Rt) k a b (wrap .i64 ((if(b.length:Int)>(a.length:Int)then(b.length:Int)else(a.length:Int))-1))
def run:=top fuel (fun a=>some a)
def F:Fn:=fo [lI,lI] T2 run
def w0(k:Nat)(Nx:K S1 α)(Rt:K S3 α)(Xt0:K S4 α):List (Nat×dQ α):=[(40,.j S2 (j1 Nx Rt)),(32,.j S2 (j0 Nx Rt))]
def w(k:Nat)(Rt:K S3 α):List (Nat×dQ α):=[(56,.j S4 (j2 Rt)),(25,.l S1 (l0 k Rt (j2 Rt)) fun n=>w0 k (l0 k Rt (j2 Rt) n) Rt (j2 Rt))]
noncomputable def c:Cf:=cn 137 F ⟨Tryz.f137,[8,10,14],[],[],[],[(2,1,4),(1,0,0),(4,35,0),(6,35,0),(21,227,0),(27,227,0),(39,0,0)],[],[],0⟩ S3 top (fun a=>some a) w bV Tryz.func137
end Go.Bx.bc
namespace Go.Bx.aJ
def S1:Px:=⟨53,[sd 0 lI,sd 1 lI,(5,.app 46 0),sd 6 T4,sd 7 T2],[sz 46 T4 0]⟩
def S2:Px:=⟨53,[sd 0 lI,sd 1 lI,(5,.app 46 0),sd 7 T2,sd 8 T4],[sz 46 T4 0]⟩
def j1(Nx:qn α):qn α:=fun c d e a b=>ite (eF (b.length+1) 8=true) (Nx c d (wrap .u64 (tdiv a 4294967296)) (wrap .i64 (e+1)) (b++[(tmod a 4294967296)])) none
def j0(Nx:qn α):qn α:=fun c b a d e=>ite (decide (a<(b.length:Int))) (ite (0<=a/\a<(b.length:Int)) (j1 Nx c b a (wrap .u64 (d+(b.getD a.toNat 0))) e) none) (j1 Nx c b a d e)
def S3:Px:=⟨53,[(5,.app 46 0),sd 6 T4],[sz 46 T4 0]⟩
def aR(Nx:qn α)(Xt0:kn α):qn α:=fun b c d a e=>ite (cond (decide (a<(b.length:Int))) true (decide (a<(c.length:Int)))) (ite (decide (a<(b.length:Int))) (ite (0<=a/\a<(b.length:Int)) (j0 Nx b c a (wrap .u64 (d+(b.getD a.toNat 0))) e) none) (j0 Nx b c a d e)) (Xt0 d e)
def l0(k:Nat)(Xt0:kn α):Nat->qn α
 |0=>kz (S:=S1)
 |n+1=>aR (l0 k Xt0 n) Xt0
def S4:Px:=⟨53,[(4,.app 46 0)],[sz 46 T4 0]⟩
def j2(Rt:gh α):kn α:=fun b a=>ite (eF (a.length+1) 8=true) (Rt (a++[b])) none
def top(k:Nat)(Rt:gh α)(a b:D0):Option α:=l0 k (j2 Rt) k a b 0 0 []
def run:=top fuel (fun a=>some a)
def F:Fn:=fo [lI,lI] lI run
def w0(k:Nat)(Nx:K S1 α)(Xt0:K S3 α):List (Nat×dQ α):=[(48,.j S2 (j1 Nx)),(40,.j S2 (j0 Nx))]
def w(k:Nat)(Rt:K S4 α):List (Nat×dQ α):=[(52,.j S3 (j2 Rt)),(49,.l S1 (l0 k (j2 Rt)) fun n=>w0 k (l0 k (j2 Rt) n) (j2 Rt))]
noncomputable def c:Cf:=cn 135 F ⟨Tryz.f135,[10,12,13],[],[],[],[(2,1,4),(1,3,5),(4,227,0),(12,227,0),(27,419,0),(33,419,0),(36,3,5)],[(12,[.melt true 5 [] 46 true])],[],0⟩ S4 top (fun a=>some a) w bV Tryz.func135
end Go.Bx.aJ
namespace Go.Bx.au
def S1:Px:=⟨49,[sd 1 lI,(5,.app 11 0),sd 6 T4,sd 13 T2,sd 14 T2],[sb 11 T4 0]⟩
def S2:Px:=⟨49,[sd 1 lI,(5,.app 11 0),sd 7 T2,sd 8 T4,sd 13 T2,sd 14 T2],[sb 11 T4 0]⟩
def S3:Px:=⟨49,[sd 1 lI,(5,.app 11 0),sd 6 T4,sd 7 T2,sd 8 T4,sd 13 T2,sd 14 T2],[sb 11 T4 0]⟩
def j1(Nx:yL α):Uw α:=fun c d a e f g b=>ite (0<=a/\a<(b.length:Int)) (ite (0<=a/\a<(b.length:Int)) (Nx c d f (wrap .i64 (g+1)) (b.set a.toNat (wrap .u64 ((b.getD a.toNat 0)-e)))) none) none
def j0(Nx:yL α):Ux α:=fun d a c e f b=>ite (0<=a/\a<(b.length:Int)) (ite (decide ((b.getD a.toNat 0)<c)) (ite (0<=a/\a<(b.length:Int)) (ite (0<=a/\a<(b.length:Int)) (j1 Nx d 1 a c e f (b.set a.toNat (wrap .u64 ((b.getD a.toNat 0)+4294967296)))) none) none) (j1 Nx d 0 a c e f b)) none
def S4:Px:=⟨49,[(5,.app 11 0)],[sb 11 T4 0]⟩
def aR(Nx:yL α)(Xt0:gh α):yL α:=fun b e c a d=>ite (decide (a<c)) (ite (decide (a<(b.length:Int))) (ite (0<=a/\a<(b.length:Int)) (j0 Nx b a (wrap .u64 (e+(b.getD a.toNat 0))) c a d) none) (j0 Nx b a e c a d)) (Xt0 d)
def l0(k:Nat)(Xt0:gh α):Nat->yL α
 |0=>kz (S:=S1)
 |n+1=>aR (l0 k Xt0 n) Xt0
def S5:Px:=⟨49,[(4,.app 11 0)],[sb 11 T4 0]⟩
def j2(Rt:gh α):gh α:=fun a=>Rt a
def top(k:Nat)(Rt:gh α)(a b:D0):Option α:=ite ((eF (0+a.length) 8&&(beq 0 0||blt 0 a.length))=true) (l0 k (j2 Rt) k b 0 (a.length:Int) 0 a) none
def run:=top fuel (fun a=>some a)
def F:Fn:=fo [lI,lI] lI run
def w0(k:Nat)(Nx:K S1 α)(Xt0:K S4 α):List (Nat×dQ α):=[(56,.j S3 (j1 Nx)),(40,.j S2 (j0 Nx))]
def w(k:Nat)(Rt:K S5 α):List (Nat×dQ α):=[(64,.j S4 (j2 Rt)),(49,.l S1 (l0 k (j2 Rt)) fun n=>w0 k (l0 k (j2 Rt) n) (j2 Rt))]
noncomputable def c:Cf:=cn 190 F ⟨Tryz.f190,[10,14,16],[],[],[],[(2,1,4),(1,1,5),(4,12337,1),(12,12337,1),(27,12497,1),(39,12529,1),(45,1,5)],[],[],0⟩ S5 top (fun a=>some a) w bV Tryz.func190
end Go.Bx.au
namespace Go.Bx.aU
def S1:Px:=⟨36,[sr 2,sr 4,sd 5 .bool,sd 8 lI,sd 9 T2,sd 10 T2],[sc 2 T1,sc 4 T1]⟩
def j0(Nx:GG α):GG α:=fun a b c d e f=>Nx a b c (wrap .i64 (d+1)) e f
def S2:Px:=⟨36,[sr 2,sr 4,sd 5 .bool],[sc 2 T1,sc 4 T1]⟩
def aR(Nx:GG α)(Xt0:Qo α):GG α:=fun d b e a f c=>ite (decide (a<e)) (ite (0<=a/\a<(b.length:Int)) (ite (decide (a>=8)) (j0 Nx (cond d true ((b.getD a.toNat 0) !=0)) b e a f c) (ite (0<=(wrap .i64 (tdiv a 2))/\(wrap .i64 (tdiv a 2))<(4:Int)) (ite (0<=(wrap .i64 (32*(tmod a 2)))) (ite (0<=(wrap .i64 (tdiv a 2))/\(wrap .i64 (tdiv a 2))<(4:Int)) (j0 Nx d b e a f (c.set (wrap .i64 (tdiv a 2)).toNat (jP .u64 (c.getD (wrap .i64 (tdiv a 2)).toNat 0) (fD .u64 (b.getD a.toNat 0) (wrap .i64 (32*(tmod a 2))))))) none) none) none)) none) (Xt0 d f c)
def l0(k:Nat)(Xt0:Qo α):Nat->GG α
 |0=>kz (S:=S1)
 |n+1=>aR (l0 k Xt0 n) Xt0
def S3:Px:=⟨36,[sr 2,sd 3 .bool],[sc 2 T1]⟩
def j1(Rt:HV α):Qo α:=fun a c b=>Rt a b
def top(k:Nat)(Rt:HV α)(a:D0):Option α:=l0 k (j1 Rt) k false a (a.length:Int) 0 [0,0,0,0] [0,0,0,0]
def run:=top fuel (fun a b=>some (b,a,()))
def F:Fn:=fm [lI] [T1,.bool] run
def w0(k:Nat)(Nx:K S1 α)(Xt0:K S2 α):List (Nat×dQ α):=[(40,.j S1 (j0 Nx))]
def w(k:Nat)(Rt:K S3 α):List (Nat×dQ α):=[(44,.j S2 (j1 Rt)),(49,.l S1 (l0 k (j1 Rt)) fun n=>w0 k (l0 k (j1 Rt) n) (j1 Rt))]
noncomputable def c:Cf:=cn 201 F ⟨Tryz.f201,[10,11],[],[],[],[(2,3,2),(1,13,2),(4,461,2),(12,461,2),(27,461,2),(30,13,2)],[],[],0⟩ S3 top (fun a b=>some (b,a,())) w bV Tryz.func201
end Go.Bx.aU
namespace Go.Bx.cG
def S1:Px:=⟨11,[sr 2],[sc 2 T1]⟩
def top(Rt:gh α)(a:D0):Option α:=(aU.run a).bind fun b=>Rt b.1
def run:=top (fun a=>some a)
def F:Fn:=fo [lI] T1 run
noncomputable def c:Cf:=cn 189 F ⟨Tryz.f189,[],[aU.c],[],[],[(2,1,2)],[],[],0⟩ S1 (fun _=>top) (fun a=>some a) e0 bV Tryz.func189
end Go.Bx.cG
namespace Go.Bx.mM
def run(x y c:Int):Option (Int×Int×Unit):=JJ x y c
def F:Fn:=⟨U3,U2,true,fun x=>run x.1 x.2.1 x.2.2.1⟩
theorem ext:vO Tryz.prog 164 F:=Li Tryz.func164 (by kernel_rfl) (by kernel_rfl) (by kernel_rfl) (by kernel_rfl)
noncomputable def c:Cf:=ce 164 F ext
end Go.Bx.mM
namespace Go.Bx.gb
def S1:Px:=⟨28,[sr 2,sr 3,sr 4,sd 6 T4,sd 8 T2],[sc 2 T1,sc 3 T1,sc 4 T1]⟩
def S2:Px:=⟨28,[sr 2,sr 4,sd 6 T4],[sc 2 T1,sc 4 T1]⟩
def aR(Nx:Qq α)(Xt0:vv α):Qq α:=fun c a b d e=>ite (decide (a<4)) (ite (0<=a/\a<(4:Int)) (ite (0<=a/\a<(4:Int)) ((mM.run (b.getD a.toNat 0) (d.getD a.toNat 0) c).bind fun f=>ite (0<=a/\a<(4:Int)) (Nx f.2.1 (wrap .i64 (a+1)) (b.set a.toNat f.1) d e) none) none) none) (Xt0 c b e)
def l0(k:Nat)(Xt0:vv α):Nat->Qq α
 |0=>kz (S:=S1)
 |n+1=>aR (l0 k Xt0 n) Xt0
def S3:Px:=⟨28,[sr 4,sd 5 .bool],[sc 4 T1]⟩
def j0(Rt:HV α):vv α:=fun a b c=>Rt (a==1) b
def top(k:Nat)(Rt:HV α)(a b:D0):Option α:=l0 k (j0 Rt) k 0 0 a b [0,0,0,0]
def run:=top fuel (fun a b=>some (b,a,()))
def F:Fn:=fm [T1,T1] [T1,.bool] run
def w(k:Nat)(Rt:K S3 α):List (Nat×dQ α):=[(32,.j S2 (j0 Rt)),(37,.l S1 (l0 k (j0 Rt)) fun _=>[])]
noncomputable def c:Cf:=cn 102 F ⟨Tryz.f102,[8],[mM.c],[],[],[(2,3,4),(1,21,2),(4,87,2),(9,87,2),(21,21,2)],[],[],0⟩ S3 top (fun a b=>some (b,a,())) w bV Tryz.func102
end Go.Bx.gb
namespace Go.Bx.pH
def run(x y c:Int):Option (Int×Int×Unit):=KM x y c
def F:Fn:=⟨U3,U2,true,fun x=>run x.1 x.2.1 x.2.2.1⟩
theorem ext:vO Tryz.prog 166 F:=Lj Tryz.func166 (by kernel_rfl) (by kernel_rfl) (by kernel_rfl) (by kernel_rfl)
noncomputable def c:Cf:=ce 166 F ext
end Go.Bx.pH
namespace Go.Bx.gE
def S1:Px:=⟨28,[sr 2,sr 3,sr 4,sd 6 T4,sd 8 T2],[sc 2 T1,sc 3 T1,sc 4 T1]⟩
def S2:Px:=⟨28,[sr 2,sr 4,sd 6 T4],[sc 2 T1,sc 4 T1]⟩
def aR(Nx:Qq α)(Xt0:vv α):Qq α:=fun c a b d e=>ite (decide (a<4)) (ite (0<=a/\a<(4:Int)) (ite (0<=a/\a<(4:Int)) ((pH.run (b.getD a.toNat 0) (d.getD a.toNat 0) c).bind fun f=>ite (0<=a/\a<(4:Int)) (Nx f.2.1 (wrap .i64 (a+1)) (b.set a.toNat f.1) d e) none) none) none) (Xt0 c b e)
def l0(k:Nat)(Xt0:vv α):Nat->Qq α
 |0=>kz (S:=S1)
 |n+1=>aR (l0 k Xt0 n) Xt0
def S3:Px:=⟨28,[sr 4,sd 5 .bool],[sc 4 T1]⟩
def j0(Rt:HV α):vv α:=fun a b c=>Rt (a==1) b
def top(k:Nat)(Rt:HV α)(a b:D0):Option α:=l0 k (j0 Rt) k 0 0 a b [0,0,0,0]
def run:=top fuel (fun a b=>some (b,a,()))
def F:Fn:=fm [T1,T1] [T1,.bool] run
def w(k:Nat)(Rt:K S3 α):List (Nat×dQ α):=[(32,.j S2 (j0 Rt)),(37,.l S1 (l0 k (j0 Rt)) fun _=>[])]
noncomputable def c:Cf:=cn 105 F ⟨Tryz.f105,[8],[pH.c],[],[],[(2,3,4),(1,21,2),(4,87,2),(9,87,2),(21,21,2)],[],[],0⟩ S3 top (fun a b=>some (b,a,())) w bV Tryz.func105
end Go.Bx.gE
namespace Go.Bx.ct
def S0:Px:=⟨21,[sd 0 lI],[]⟩
def aR(Nx:gh α)(Xt0:gh α):gh α:=fun a=>cond (decide (0<=(wrap .i64 ((a.length:Int)-1))/\(wrap .i64 ((a.length:Int)-1))<(a.length:Int))|| !((decide ((a.length:Int)>0))==true)) (ite (cond (decide ((a.length:Int)>0)) ((a.getD (wrap .i64 ((a.length:Int)-1)).toNat 0)==0) false) (ite (0<=(0:Int)/\(0:Int)<=(wrap .i64 ((a.length:Int)-1))/\(wrap .i64 ((a.length:Int)-1))<=(a.length:Int)) (Nx (aA a 0 (wrap .i64 ((a.length:Int)-1)))) none) (Xt0 a)) none
def l0(k:Nat)(Xt0:gh α):Nat->gh α
 |0=>kz (S:=S0)
 |n+1=>aR (l0 k Xt0 n) Xt0
def S1:Px:=⟨21,[sd 2 lI],[]⟩
def j0(Rt:gh α):gh α:=fun a=>Rt a
def top(k:Nat)(Rt:gh α)(a:D0):Option α:=l0 k (j0 Rt) k a
def run:=top fuel (fun a=>some a)
def F:Fn:=fo [lI] lI run
def w(k:Nat)(Rt:K S1 α):List (Nat×dQ α):=[(16,.j S0 (j0 Rt)),(13,.l S0 (l0 k (j0 Rt)) fun _=>[])]
noncomputable def c:Cf:=cn 134 F ⟨Tryz.f134,[4],[],[],[],[(2,1,2),(1,1,0),(4,1,0),(3,1,0),(9,1,0)],[],[],0⟩ S1 top (fun a=>some a) w bV Tryz.func134
end Go.Bx.ct
namespace Go.Bx.qJ
def run(x y:List Int):Option Int:=some (pn x y)
def F:Fn:=⟨BB,.int .i64,false,fun x=>run x.1 x.2.1⟩
theorem ext:vO Tryz.prog 163 F:=F8 Tryz.func163 (by kernel_rfl) (by kernel_rfl) (by kernel_rfl) (by kernel_rfl)
noncomputable def c:Cf:=ce 163 F ext
end Go.Bx.qJ
namespace Go.Bx.gV
def S1:Px:=⟨8,[sd 4 T2],[]⟩
def top(Rt:gf α)(a b:D0):Option α:=(qJ.run a b).bind fun c=>Rt c
def run:=top (fun a=>some a)
def F:Fn:=fo [mO,mO] T2 run
noncomputable def c:Cf:=cn 101 F ⟨Tryz.f101,[],[qJ.c],[],[],[(2,1,4)],[],[],0⟩ S1 (fun _=>top) (fun a=>some a) e0 bV Tryz.func101
end Go.Bx.gV
namespace Go.Bx.cY
def S1:Px:=⟨55,[sd 2 T2],[]⟩
def S2:Px:=⟨55,[sr 1,sr 3,sd 13 R4,sd 14 T2,sd 15 T2],[sc 1 lA,sc 3 T1]⟩
def S3:Px:=⟨55,[sr 1,sr 3],[sc 1 lA,sc 3 T1]⟩
def aR(Nx:LB α)(Rt:gf α)(Xt0:SA α):LB α:=fun b d a c e=>ite (decide (a<d)) (ite (0<=a/\a<(b.length:Int)) (cond (decide (0<=(wrap .i64 (a-1))/\(wrap .i64 (a-1))<(c.2.1.length:Int))|| !((decide (a>0))==true)) ((if((decide (a>0))==true)=true then gV.run (aA (c.2.1.getD (wrap .i64 (a-1)).toNat HS).1 0 32) (aA (b.getD a.toNat HS).1 0 32)else some 0).bind fun g=>ite (cond (az T1 (b.getD a.toNat HS).2.1 [0,0,0,0]) true (cond (decide (a>0)) (decide (g>=0)) false)) (Rt 12) ((gb.run e (b.getD a.toNat HS).2.1).bind fun f=>ite f.2.1 (Rt 12) (Nx b d (wrap .i64 (a+1)) c f.1))) none) none) (Xt0 c e)
def l0(k:Nat)(Rt:gf α)(Xt0:SA α):Nat->LB α
 |0=>kz (S:=S2)
 |n+1=>aR (l0 k Rt Xt0 n) Rt Xt0
def j0(Rt:gf α):SA α:=fun a b=>ite (not (az T1 b a.1)) (Rt 12) (Rt 0)
def top(k:Nat)(Rt:gf α)(a:rH):Option α:=ite (decide ((a.2.1.length:Int)>40)) (Rt 1) (l0 k Rt (j0 Rt) k a.2.1 (a.2.1.length:Int) 0 a [0,0,0,0])
def run:=top fuel (fun a=>some a)
def F:Fn:=fo [lA] T2 run
def w(k:Nat)(Rt:K S1 α):List (Nat×dQ α):=[(60,.j S3 (j0 Rt)),(61,.l S2 (l0 k Rt (j0 Rt)) fun _=>[])]
noncomputable def c:Cf:=cn 43 F ⟨Tryz.f43,[15],[gV.c,gb.c],[],[],[(2,1,2),(1,5,1),(4,28677,1),(15,28677,1),(42,5,1)],[],[],0⟩ S1 top (fun a=>some a) w bV Tryz.func43
end Go.Bx.cY
namespace Go.Bx.aE
def S1:Px:=⟨6,[sd 2 .bool],[]⟩
def top(Rt:eJ α)(a:D0):Option α:=Rt (az T1 a [0,0,0,0])
def run:=top (fun a=>some a)
def F:Fn:=fo [T1] .bool run
noncomputable def c:Cf:=cn 71 F ⟨Tryz.f71,[],[],[],[],[(2,1,2)],[],[],0⟩ S1 (fun _=>top) (fun a=>some a) e0 bV Tryz.func71
end Go.Bx.aE
namespace Go.Bx.e9
def S1:Px:=⟨10,[sd 4 .bool],[]⟩
def top(Rt:eJ α)(a b:D0):Option α:=Rt (nk (aA a 0 32) (aA b 0 32))
def run:=top (fun a=>some a)
def F:Fn:=fo [T9,T9] .bool run
noncomputable def c:Cf:=cn 133 F ⟨Tryz.f133,[],[],[],[],[(2,1,4)],[],[],0⟩ S1 (fun _=>top) (fun a=>some a) e0 bV Tryz.func133
end Go.Bx.e9
namespace Go.Bx.aS
def S1:Px:=⟨59,[sd 2 T2],[]⟩
def S2:Px:=⟨59,[sr 1,sd 3 lI,sd 4 .bool,sd 12 R4,sd 13 T2,sd 14 T2],[sc 1 lA]⟩
def S3:Px:=⟨59,[sr 1,sd 3 lI,sd 4 .bool],[sc 1 lA]⟩
def aR(Nx:NR α)(Xt0:NS α):NR α:=fun e d b f a c=>ite (decide (a<f)) (ite (0<=a/\a<(b.length:Int)) ((if(d==true)=true then aE.run (b.getD a.toNat HS).2.1 else some false).bind fun g=>cond (decide (0<=(wrap .i64 (a-1))/\(wrap .i64 (a-1))<(c.2.1.length:Int))|| !((a==0)==false)) ((if((a==0)==false)=true then e9.run (c.2.1.getD (wrap .i64 (a-1)).toNat HS).1 (b.getD a.toNat HS).1 else some false).bind fun h=>(ay.run (b.getD a.toNat HS).2.1).bind fun i=>(aJ.run e i).bind fun j=>(ct.run j).bind fun k=>Nx k (cond (cond d (not g) false) (cond (a==0) true h) false) b f (wrap .i64 (a+1)) c) none) none) (Xt0 e d c)
def l0(k:Nat)(Xt0:NS α):Nat->NR α
 |0=>kz (S:=S2)
 |n+1=>aR (l0 k Xt0 n) Xt0
def j0(Rt:gf α):NS α:=fun b a c=>(if((not a)==false)=true then ay.run c.1 else some []).bind fun d=>(if((not a)==false)=true then bc.run b d else some 0).bind fun e=>ite (cond (not a) true (e !=0)) (Rt 12) (Rt 0)
def top(k:Nat)(Rt:gf α)(a:rH):Option α:=ite (decide ((a.2.1.length:Int)>40)) (Rt 1) (l0 k (j0 Rt) k [] true a.2.1 (a.2.1.length:Int) 0 a)
def run:=top fuel (fun a=>some a)
def F:Fn:=fo [lA] T2 run
def w(k:Nat)(Rt:K S1 α):List (Nat×dQ α):=[(48,.j S3 (j0 Rt)),(73,.l S2 (l0 k (j0 Rt)) fun _=>[])]
noncomputable def c:Cf:=cn 68 F ⟨Tryz.f68,[12],[aE.c,e9.c,ct.c,aJ.c,ay.c,bc.c],[],[],[(2,1,2),(1,13,1),(4,14349,1),(18,14349,1),(33,13,1)],[(18,[.dat true 3 []])],[],0⟩ S1 top (fun a=>some a) w bV Tryz.func68
end Go.Bx.aS
namespace Go.Bx.dN
def S1:Px:=⟨35,[sd 2 T2],[]⟩
def S2:Px:=⟨35,[sd 0 uX,sd 15 uX,sd 16 T2,sd 17 T2],[]⟩
def S3:Px:=⟨35,[sd 0 uX,sr 4,sd 15 uX,sd 16 T2,sd 17 T2,sd 24 uX,sd 25 T2,sd 26 T2],[sc 4 tJ]⟩
def ly(Nx:Sz α)(Rt:gf α)(Xt2:Ct α):Sz α:=fun c d e f b g a h=>ite (decide (a<g)) (ite (0<=a/\a<(b.length:Int)) (ite (az tJ h (b.getD a.toNat Ci)) (Rt 8) (Nx c d e f b g (wrap .i64 (a+1)) h)) none) (Xt2 c d e f)
def l1(k:Nat)(Rt:gf α)(Xt2:Ct α):Nat->Sz α
 |0=>kz (S:=S3)
 |n+1=>ly (l1 k Rt Xt2 n) Rt Xt2
def j0(Nx:Ct α):Ct α:=fun a b c d=>Nx a b c (wrap .i64 (d+1))
def S4:Px:=⟨35,[],[]⟩
def aR(k:Nat)(Nx:Ct α)(Rt:gf α)(Xt0:Option α):Ct α:=fun b c d a=>ite (decide (a<d)) (ite (0<=a/\a<(c.length:Int)) (ite (0<=(0:Int)/\(0:Int)<=a/\a<=(b.length:Int)) (l1 k Rt (j0 Nx) k b c d a (aA b 0 a) ((aA b 0 a).length:Int) 0 (c.getD a.toNat Ci)) none) none) (Xt0)
def l0(k:Nat)(Rt:gf α)(Xt0:Option α):Nat->Ct α
 |0=>kz (S:=S2)
 |n+1=>aR k (l0 k Rt Xt0 n) Rt Xt0
def j1(Rt:gf α):Option α:=Rt 0
def top(k:Nat)(Rt:gf α)(a:D1):Option α:=ite (cond (decide ((a.length:Int)<1)) true (decide ((a.length:Int)>19))) (Rt 1) (l0 k Rt (j1 Rt) k a a (a.length:Int) 0)
def run:=top fuel (fun a=>some a)
def F:Fn:=fo [uX] T2 run
def w0(k:Nat)(Nx:K S2 α)(Rt:K S1 α)(Xt0:K S4 α):List (Nat×dQ α):=[(52,.j S2 (j0 Nx)),(85,.l S3 (l1 k Rt (j0 Nx)) fun _=>[])]
def w(k:Nat)(Rt:K S1 α):List (Nat×dQ α):=[(56,.j S4 (j1 Rt)),(49,.l S2 (l0 k Rt (j1 Rt)) fun n=>w0 k (l0 k Rt (j1 Rt) n) Rt (j1 Rt))]
noncomputable def c:Cf:=cn 98 F ⟨Tryz.f98,[13,14],[],[],[],[(2,1,2),(1,0,0),(4,229377,0),(7,229377,0),(10,117669905,0),(12,229377,0),(21,117669905,0),(36,229377,0),(39,0,0)],[],[],0⟩ S1 top (fun a=>some a) w bV Tryz.func98
end Go.Bx.dN
namespace Go.Bx.bx
def S1:Px:=⟨33,[sd 2 T2],[]⟩
def S2:Px:=⟨33,[sd 0 uX,(3,.map 14),sd 15 uX,sd 16 T2,sd 17 T2],[(14,.map tJ T2 [])]⟩
def S3:Px:=⟨33,[sd 0 uX,(3,.map 14)],[(14,.map tJ T2 [])]⟩
def aR(Nx:NP α)(Xt0:NQ α):NP α:=fun d b e a c=>ite (decide (a<e)) (ite (0<=a/\a<(b.length:Int)) (ite (blt c.length 9223372036854775807=true) (ite (0<=(((eU (az tJ) (b.getD a.toNat Ci) c):Nat):Int)/\(((eU (az tJ) (b.getD a.toNat Ci) c):Nat):Int)<((pK (az tJ) (b.getD a.toNat Ci) 0 c).length:Int)) (Nx d b e (wrap .i64 (a+1)) (rV (pK (az tJ) (b.getD a.toNat Ci) 0 c) (((eU (az tJ) (b.getD a.toNat Ci) c):Nat):Int).toNat (wrap .i64 ((getM (az tJ) (b.getD a.toNat Ci) 0 c)+1)))) none) none) none) (Xt0 d c)
def l0(k:Nat)(Xt0:NQ α):Nat->NP α
 |0=>kz (S:=S2)
 |n+1=>aR (l0 k Xt0 n) Xt0
def j0(Rt:gf α):NQ α:=fun b a=>ite (ble a.length 9223372036854775807=true) (ite (decide ((a.length:Int)<(b.length:Int))) (Rt 8) (Rt 0)) none
def top(k:Nat)(Rt:gf α)(a:D1):Option α:=ite (cond ((a.length:Int)==0) true (decide ((a.length:Int)>19))) (Rt 1) (l0 k (j0 Rt) k a a (a.length:Int) 0 [])
def run:=top fuel (fun a=>some a)
def F:Fn:=fo [uX] T2 run
def w(k:Nat)(Rt:K S1 α):List (Nat×dQ α):=[(40,.j S3 (j0 Rt)),(61,.l S2 (l0 k (j0 Rt)) fun _=>[])]
noncomputable def c:Cf:=cn 131 F ⟨Tryz.f131,[10],[],[],[],[(2,1,2),(1,9,0),(4,229385,0),(15,229385,0),(27,9,0)],[],[],0⟩ S1 top (fun a=>some a) w bV Tryz.func131
end Go.Bx.bx
namespace Go.Bx.cc
def S1:Px:=⟨62,[sd 2 T2],[]⟩
def S2:Px:=⟨62,[sd 0 mi,sd 3 T2,sd 15 mi,sd 16 T2,sd 17 T2],[]⟩
def S3:Px:=⟨62,[],[]⟩
def aR(Nx:LA α)(Rt:gf α)(Xt0:Option α):LA α:=fun c f b d a=>ite (decide (a<d)) (ite (0<=a/\a<(b.length:Int)) ((dN.run (b.getD a.toNat (0,[],0,())).2.1).bind fun e=>ite (e !=0) (Rt e) (ite (cond (cond (cond ((b.getD a.toNat (0,[],0,())).1 !=a) true (not (az .bool (a==(wrap .i64 ((c.length:Int)-1))) ((b.getD a.toNat (0,[],0,())).2.2.1==0)))) true (cond ((b.getD a.toNat (0,[],0,())).2.2.1 !=0) (decide ((b.getD a.toNat (0,[],0,())).2.2.1<f)) false)) true (decide ((b.getD a.toNat (0,[],0,())).2.2.1>1099511627800))) (Rt 12) (Nx c (b.getD a.toNat (0,[],0,())).2.2.1 b d (wrap .i64 (a+1))))) none) (Xt0)
def l0(k:Nat)(Rt:gf α)(Xt0:Option α):Nat->LA α
 |0=>kz (S:=S2)
 |n+1=>aR (l0 k Rt Xt0 n) Rt Xt0
def j0(Rt:gf α):Option α:=Rt 0
def top(k:Nat)(Rt:gf α)(a:D8):Option α:=ite (cond (decide ((a.length:Int)<1)) true (decide ((a.length:Int)>8))) (Rt 1) (l0 k Rt (j0 Rt) k a 0 a (a.length:Int) 0)
def run:=top fuel (fun a=>some a)
def F:Fn:=fo [mi] T2 run
def w(k:Nat)(Rt:K S1 α):List (Nat×dQ α):=[(60,.j S3 (j0 Rt)),(61,.l S2 (l0 k Rt (j0 Rt)) fun _=>[])]
noncomputable def c:Cf:=cn 42 F ⟨Tryz.f42,[15],[dN.c],[],[],[(2,1,2),(1,0,0),(4,229385,0),(15,229385,0),(42,0,0)],[],[],0⟩ S1 top (fun a=>some a) w bV Tryz.func42
end Go.Bx.cc
namespace Go.Bx.bD
def S1:Px:=⟨69,[sd 2 T2],[]⟩
def S2:Px:=⟨69,[sd 0 mi,sd 3 T2,sd 16 mi,sd 17 T2,sd 18 T2],[]⟩
def S3:Px:=⟨69,[],[]⟩
def aR(Nx:LA α)(Rt:gf α)(Xt0:Option α):LA α:=fun c f b d a=>ite (decide (a<d)) (ite (0<=a/\a<(b.length:Int)) ((bx.run (b.getD a.toNat (0,[],0,())).2.1).bind fun e=>ite (e !=0) (Rt e) (ite (cond (cond ((b.getD a.toNat (0,[],0,())).1 !=a) true (cond ((wrap .i64 (a+1))==(c.length:Int)) ((b.getD a.toNat (0,[],0,())).2.2.1 !=0) false)) true (cond (not ((wrap .i64 (a+1))==(c.length:Int))) (cond (cond (decide ((b.getD a.toNat (0,[],0,())).2.2.1<1)) true (decide ((b.getD a.toNat (0,[],0,())).2.2.1<f))) true (decide ((b.getD a.toNat (0,[],0,())).2.2.1>1099511627800))) false)) (Rt 12) (Nx c (b.getD a.toNat (0,[],0,())).2.2.1 b d (wrap .i64 (a+1))))) none) (Xt0)
def l0(k:Nat)(Rt:gf α)(Xt0:Option α):Nat->LA α
 |0=>kz (S:=S2)
 |n+1=>aR (l0 k Rt Xt0 n) Rt Xt0
def j0(Rt:gf α):Option α:=Rt 0
def top(k:Nat)(Rt:gf α)(a:D8):Option α:=ite (cond ((a.length:Int)==0) true (decide ((a.length:Int)>8))) (Rt 1) (l0 k Rt (j0 Rt) k a 0 a (a.length:Int) 0)
def run:=top fuel (fun a=>some a)
def F:Fn:=fo [mi] T2 run
def w(k:Nat)(Rt:K S1 α):List (Nat×dQ α):=[(64,.j S3 (j0 Rt)),(61,.l S2 (l0 k Rt (j0 Rt)) fun _=>[])]
noncomputable def c:Cf:=cn 67 F ⟨Tryz.f67,[16],[bx.c],[],[],[(2,1,2),(1,0,0),(4,458761,0),(15,458761,0),(45,0,0)],[],[],0⟩ S1 top (fun a=>some a) w bV Tryz.func67
end Go.Bx.bD
namespace Go.Bx.gk
def S1:Px:=⟨23,[(3,.app 20 0),sd 6 mi,sd 7 T2,sd 8 T2],[sz 20 jq 0]⟩
def S2:Px:=⟨23,[(3,.app 20 0)],[sz 20 jq 0]⟩
def aR(Nx:SD α)(Xt0:Oo α):SD α:=fun b d a c=>ite (decide (a<d)) (ite (0<=a/\a<(b.length:Int)) (ite (eF (0+(b.getD a.toNat (0,[],0,())).2.1.length) 20=true) (ite (eF (c.length+1) 40=true) (Nx b d (wrap .i64 (a+1)) (c++[((b.getD a.toNat (0,[],0,())).1,(b.getD a.toNat (0,[],0,())).2.1,(b.getD a.toNat (0,[],0,())).2.2.1,())])) none) none) none) (Xt0 c)
def l0(k:Nat)(Xt0:Oo α):Nat->SD α
 |0=>kz (S:=S1)
 |n+1=>aR (l0 k Xt0 n) Xt0
def S3:Px:=⟨23,[(2,.app 20 0)],[sz 20 jq 0]⟩
def j0(Rt:Oo α):Oo α:=fun a=>Rt a
def top(k:Nat)(Rt:Oo α)(a:D8):Option α:=l0 k (j0 Rt) k a (a.length:Int) 0 []
def run:=top fuel (fun a=>some a)
def F:Fn:=fo [mi] mi run
def w(k:Nat)(Rt:K S3 α):List (Nat×dQ α):=[(36,.j S2 (j0 Rt)),(37,.l S1 (l0 k (j0 Rt)) fun _=>[])]
noncomputable def c:Cf:=cn 99 F ⟨Tryz.f99,[9],[],[],[],[(2,1,2),(1,1,3),(4,57,3),(9,57,3),(24,1,3)],[(9,[.melt true 3 [] 20 true])],[15],0⟩ S3 top (fun a=>some a) w bV Tryz.func99
end Go.Bx.gk
namespace Go.Bx.cK
def S1:Px:=⟨26,[sd 4 .bool],[]⟩
def S2:Px:=⟨26,[sd 0 uX,sd 1 uX,sd 12 T2,sd 13 T2],[]⟩
def S3:Px:=⟨26,[],[]⟩
def aR(Nx:Ct α)(Rt:eJ α)(Xt0:Option α):Ct α:=fun b c d a=>ite (decide (a<d)) (ite (0<=a/\a<(b.length:Int)) (ite (0<=a/\a<(c.length:Int)) (ite (not (az tJ (b.getD a.toNat Ci) (c.getD a.toNat Ci))) (Rt false) (Nx b c d (wrap .i64 (a+1)))) none) none) (Xt0)
def l0(k:Nat)(Rt:eJ α)(Xt0:Option α):Nat->Ct α
 |0=>kz (S:=S2)
 |n+1=>aR (l0 k Rt Xt0 n) Rt Xt0
def j0(Rt:eJ α):Option α:=Rt true
def top(k:Nat)(Rt:eJ α)(a b:D1):Option α:=ite ((a.length:Int) !=(b.length:Int)) (Rt false) (l0 k Rt (j0 Rt) k a b (a.length:Int) 0)
def run:=top fuel (fun a=>some a)
def F:Fn:=fo [uX,uX] .bool run
def w(k:Nat)(Rt:K S1 α):List (Nat×dQ α):=[(40,.j S3 (j0 Rt)),(49,.l S2 (l0 k Rt (j0 Rt)) fun _=>[])]
noncomputable def c:Cf:=cn 153 F ⟨Tryz.f153,[10],[],[],[],[(2,1,4),(1,0,0),(4,12291,0),(12,12291,0),(27,0,0)],[],[],0⟩ S1 top (fun a=>some a) w bV Tryz.func153
end Go.Bx.cK
namespace Go.Bx.gF
def S1:Px:=⟨24,[sd 4 .bool],[]⟩
def top(Rt:eJ α)(a b:R2):Option α:=(if((cond (a.1==b.1) (a.2.2.1==b.2.2.1) false)==true)=true then cK.run a.2.1 b.2.1 else some false).bind fun c=>Rt (cond (cond (a.1==b.1) (a.2.2.1==b.2.2.1) false) c false)
def run:=top (fun a=>some a)
def F:Fn:=fo [jq,jq] .bool run
noncomputable def c:Cf:=cn 87 F ⟨Tryz.f87,[],[cK.c],[],[],[(2,1,4)],[],[],0⟩ S1 (fun _=>top) (fun a=>some a) e0 bV Tryz.func87
end Go.Bx.gF
namespace Go.Bx.cM
def S1:Px:=⟨27,[sd 4 .bool],[]⟩
def S2:Px:=⟨27,[sd 0 mi,sd 1 mi,sd 12 T2,sd 13 T2],[]⟩
def S3:Px:=⟨27,[],[]⟩
def aR(Nx:Oh α)(Rt:eJ α)(Xt0:Option α):Oh α:=fun b c d a=>ite (decide (a<d)) (ite (0<=a/\a<(b.length:Int)) (ite (0<=a/\a<(c.length:Int)) ((gF.run (b.getD a.toNat (0,[],0,())) (c.getD a.toNat (0,[],0,()))).bind fun e=>ite (not e) (Rt false) (Nx b c d (wrap .i64 (a+1)))) none) none) (Xt0)
def l0(k:Nat)(Rt:eJ α)(Xt0:Option α):Nat->Oh α
 |0=>kz (S:=S2)
 |n+1=>aR (l0 k Rt Xt0 n) Rt Xt0
def j0(Rt:eJ α):Option α:=Rt true
def top(k:Nat)(Rt:eJ α)(a b:D8):Option α:=ite ((a.length:Int) !=(b.length:Int)) (Rt false) (l0 k Rt (j0 Rt) k a b (a.length:Int) 0)
def run:=top fuel (fun a=>some a)
def F:Fn:=fo [mi,mi] .bool run
def w(k:Nat)(Rt:K S1 α):List (Nat×dQ α):=[(40,.j S3 (j0 Rt)),(49,.l S2 (l0 k Rt (j0 Rt)) fun _=>[])]
noncomputable def c:Cf:=cn 34 F ⟨Tryz.f34,[10],[gF.c],[],[],[(2,1,4),(1,0,0),(4,12291,0),(12,12291,0),(27,0,0)],[],[],0⟩ S1 top (fun a=>some a) w bV Tryz.func34
end Go.Bx.cM
namespace Go.Bx.bA
def S1:Px:=⟨12,[sd 4 .bool],[]⟩
def top(Rt:eJ α)(a b:Int):Option α:=Rt (cond (decide (0<=a)) (decide (a<=b)) false)
def run:=top (fun a=>some a)
def F:Fn:=fo [T2,T2] .bool run
noncomputable def c:Cf:=cn 66 F ⟨Tryz.f66,[],[],[],[],[(2,1,4)],[],[],0⟩ S1 (fun _=>top) (fun a=>some a) e0 bV Tryz.func66
end Go.Bx.bA
namespace Go.Bx.iK
def S1:Px:=⟨12,[sd 4 .bool],[]⟩
def top(Rt:eJ α)(a b:Int):Option α:=Rt (cond (decide (a>=0)) (decide (a<=b)) false)
def run:=top (fun a=>some a)
def F:Fn:=fo [T2,T2] .bool run
noncomputable def c:Cf:=cn 103 F ⟨Tryz.f103,[],[],[],[],[(2,1,4)],[],[],0⟩ S1 (fun _=>top) (fun a=>some a) e0 bV Tryz.func103
end Go.Bx.iK
namespace Go.Bx.iJ
def S1:Px:=⟨41,[sd 2 T2],[]⟩
def top(Rt:gf α)(a:FE):Option α:=(iK.run a.1 1099511627776).bind fun b=>(if((not b)==false)=true then iK.run a.2.1 4294967295 else some false).bind fun c=>(if((cond (not b) true (not c))==false)=true then iK.run a.2.2.1 65535 else some false).bind fun d=>(if((cond (cond (not b) true (not c)) true (not d))==false)=true then iK.run a.2.2.2.2.1 1099511627776 else some false).bind fun e=>(if((cond (cond (cond (not b) true (not c)) true (not d)) true (not e))==false)=true then iK.run a.2.2.2.2.2.1 255 else some false).bind fun f=>ite (cond (cond (cond (cond (not b) true (not c)) true (not d)) true (not e)) true (not f)) (Rt 6) (ite (decide ((a.2.2.2.2.2.2.1.length:Int)>300)) (Rt 1) (Rt 0))
def run:=top (fun a=>some a)
def F:Fn:=fo [i7] T2 run
noncomputable def c:Cf:=cn 44 F ⟨Tryz.f44,[],[iK.c],[],[],[(2,1,2)],[],[],0⟩ S1 (fun _=>top) (fun a=>some a) e0 bV Tryz.func44
end Go.Bx.iJ
namespace Go.Bx.cA
def S1:Px:=⟨37,[sr 1,(20,hF WL),sd 21 T2,sd 22 T2],[sc 1 i7]⟩
def S2:Px:=⟨37,[sd 2 T2],[]⟩
def S3:Px:=⟨37,[sr 1],[sc 1 i7]⟩
def aR(Nx:NT α)(Rt:gf α)(Xt0:NU α):NT α:=fun b c a d=>ite (decide (a<c)) (ite (0<=a/\a<(b.length:Int)) ((bA.run ((b.getD a.toNat [0,0]).getD 0 0) ((b.getD a.toNat [0,0]).getD 1 0)).bind fun e=>ite (not e) (Rt 6) (Nx b c (wrap .i64 (a+1)) d)) none) (Xt0 d)
def l0(k:Nat)(Rt:gf α)(Xt0:NU α):Nat->NT α
 |0=>kz (S:=S1)
 |n+1=>aR (l0 k Rt Xt0 n) Rt Xt0
def j0(Rt:gf α):NU α:=fun a=>ite (decide ((a.2.2.2.2.2.2.1.length:Int)>300)) (Rt 1) (Rt 0)
def top(k:Nat)(Rt:gf α)(a:FE):Option α:=l0 k Rt (j0 Rt) k [[a.1,1099511627776],[a.2.1,4294967295],[a.2.2.1,65535],[a.2.2.2.2.1,1099511627776],[a.2.2.2.2.2.1,255]] 5 0 a
def run:=top fuel (fun a=>some a)
def F:Fn:=fo [i7] T2 run
def w(k:Nat)(Rt:K S2 α):List (Nat×dQ α):=[(32,.j S3 (j0 Rt)),(25,.l S1 (l0 k Rt (j0 Rt)) fun _=>[])]
noncomputable def c:Cf:=cn 69 F ⟨Tryz.f69,[8],[bA.c],[],[],[(2,1,2),(1,1,1),(4,3670017,1),(6,3670017,1),(21,1,1)],[],[],0⟩ S2 top (fun a=>some a) w bV Tryz.func69
end Go.Bx.cA
namespace Go.Bx.iU
def S1:Px:=⟨9,[sd 2 .bool],[]⟩
def top(Rt:eJ α)(a:Int):Option α:=Rt (cond (decide (a>=0)) (decide (a<3)) false)
def run:=top (fun a=>some a)
def F:Fn:=fo [T2] .bool run
noncomputable def c:Cf:=cn 41 F ⟨Tryz.f41,[],[],[],[],[(2,1,2)],[],[],0⟩ S1 (fun _=>top) (fun a=>some a) e0 bV Tryz.func41
end Go.Bx.iU
namespace Go.Bx.eM
def S1:Px:=⟨9,[sr 2],[sc 2 T9]⟩
def top(Rt:gh α)(a:Int):Option α:=Rt (((replicate 32 0).set 0 176).set 31 (wrap .u8 a))
def run:=top (fun a=>some a)
def F:Fn:=fo [T2] T9 run
noncomputable def c:Cf:=cn 45 F ⟨Tryz.f45,[],[],[],[],[(2,1,2)],[],[],0⟩ S1 (fun _=>top) (fun a=>some a) e0 bV Tryz.func45
end Go.Bx.eM
namespace Go.Bx.cE
def S1:Px:=⟨156,[sd 2 T2],[]⟩
def S2:Px:=⟨156,[sr 1,sd 3 .bool,sd 51 tK,sd 52 T2,sd 53 T2],[sc 1 fT]⟩
def S3:Px:=⟨156,[sr 1,sd 3 .bool,sr 5,sd 51 tK,sd 52 T2,sd 53 T2,sd 95 tK,sd 96 T2,sd 97 T2],[sc 1 fT,sc 5 lV]⟩
def ly(Nx:SB α)(Xt2:IE α):SB α:=fun d e f g b h a i c=>ite (decide (a<h)) (ite (0<=a/\a<(b.length:Int)) (Nx (cond d (cond (not (az T9 c.1 (b.getD a.toNat iX).1)) true (c.2.1 !=(b.getD a.toNat iX).2.1)) false) e f g b h (wrap .i64 (a+1)) i c) none) (Xt2 d e f g i)
def l1(k:Nat)(Xt2:IE α):Nat->SB α
 |0=>kz (S:=S3)
 |n+1=>ly (l1 k Xt2 n) Xt2
def j0(Nx:IE α):IE α:=fun a b c d e=>Nx a b c (wrap .i64 (d+1)) e
def S4:Px:=⟨156,[sr 1,sd 3 .bool],[sc 1 fT]⟩
def aR(k:Nat)(Nx:IE α)(Xt0:LC α):IE α:=fun d b e a c=>ite (decide (a<e)) (ite (0<=a/\a<(b.length:Int)) ((if(d==true)=true then iU.run (b.getD a.toNat iX).2.1 else some false).bind fun f=>(if((cond d f false)==true)=true then cY.run (b.getD a.toNat iX).2.2.2.1 else some 0).bind fun g=>ite (0<=(0:Int)/\(0:Int)<=a/\a<=(c.2.2.2.1.length:Int)) (l1 k (j0 Nx) k (cond (cond (cond (cond (cond d f false) (g==0) false) (decide ((b.getD a.toNat iX).2.2.1>=0)) false) (decide ((b.getD a.toNat iX).2.2.1<78)) false) (cond ((b.getD a.toNat iX).2.1==c.1) true (decide ((b.getD a.toNat iX).2.2.1<=8))) false) b e a (aA c.2.2.2.1 0 a) ((aA c.2.2.2.1 0 a).length:Int) 0 c (b.getD a.toNat iX)) none) none) (Xt0 d c)
def l0(k:Nat)(Xt0:LC α):Nat->IE α
 |0=>kz (S:=S2)
 |n+1=>aR k (l0 k Xt0 n) Xt0
def S5:Px:=⟨156,[sr 1,sd 3 .bool,sd 119 uY,sd 120 T2,sd 121 T2],[sc 1 fT]⟩
def S6:Px:=⟨156,[sd 3 .bool],[]⟩
def vw(Nx:SC α)(Xt4:eJ α):SC α:=fun c b e a d=>ite (decide (a<e)) (ite (0<=a/\a<(b.length:Int)) ((if(c==true)=true then iJ.run (b.getD a.toNat tG)else some 0).bind fun f=>(if((cond (cond (cond c (f==0) false) ((b.getD a.toNat tG).2.2.2.2.1==a) false) ((b.getD a.toNat tG).2.2.1==d.1) false)==true)=true then eM.run d.1 else some (replicate 32 0)).bind fun g=>Nx (cond (cond (cond (cond c (f==0) false) ((b.getD a.toNat tG).2.2.2.2.1==a) false) ((b.getD a.toNat tG).2.2.1==d.1) false) (az T9 (b.getD a.toNat tG).2.2.2.1 g) false) b e (wrap .i64 (a+1)) d) none) (Xt4 c)
def l2(k:Nat)(Xt4:eJ α):Nat->SC α
 |0=>kz (S:=S5)
 |n+1=>vw (l2 k Xt4 n) Xt4
def j2(Rt:gf α):eJ α:=fun a=>ite (not a) (Rt 12) (Rt 0)
def j1(k:Nat)(Rt:gf α):LC α:=fun b a=>l2 k (j2 Rt) k b a.2.2.2.2.2.2.1 (a.2.2.2.2.2.2.1.length:Int) 0 a
def top(k:Nat)(Rt:gf α)(a:pJ):Option α:=(iU.run a.1).bind fun b=>(if((cond (cond b (decide (a.2.1>=1)) false) (decide (a.2.1<=1099511627776)) false)==true)=true then cc.run a.2.2.1 else some 0).bind fun c=>ite (not (cond (cond (cond (cond (cond (cond b (decide (a.2.1>=1)) false) (decide (a.2.1<=1099511627776)) false) (c==0) false) (decide ((a.2.2.2.1.length:Int)<=4)) false) (a.2.2.2.2.2.1==(a.2.2.2.2.2.2.1.length:Int)) false) (decide (a.2.2.2.2.2.1<=256)) false)) (Rt 12) (l0 k (j1 k Rt) k (cond (cond (cond (cond (cond (cond b (decide (a.2.1>=1)) false) (decide (a.2.1<=1099511627776)) false) (c==0) false) (decide ((a.2.2.2.1.length:Int)<=4)) false) (a.2.2.2.2.2.1==(a.2.2.2.2.2.2.1.length:Int)) false) (decide (a.2.2.2.2.2.1<=256)) false) a.2.2.2.1 (a.2.2.2.1.length:Int) 0 a)
def run:=top fuel (fun a=>some a)
def F:Fn:=fo [fT] T2 run
def w0(k:Nat)(Nx:K S2 α)(Xt0:K S4 α):List (Nat×dQ α):=[(56,.j S2 (j0 Nx)),(109,.l S3 (l1 k (j0 Nx)) fun _=>[])]
def w(k:Nat)(Rt:K S1 α):List (Nat×dQ α):=[(80,.j S6 (j2 Rt)),(181,.l S5 (l2 k (j2 Rt)) fun _=>[]),(60,.j S4 (j1 k Rt)),(61,.l S2 (l0 k (j1 k Rt)) fun n=>w0 k (l0 k (j1 k Rt) n) (j1 k Rt))]
noncomputable def c:Cf:=cn 18 F ⟨Tryz.f18,[14,15,20],[iU.c,cc.c,cY.c,iJ.c,eM.c],[],[],[(2,1,2),(13,1,3),(16,2326148992623602777581662355490603013,1),(1,5,1),(4,7881299347898373,1),(7,7881299347898373,1),(10,138649284399970472088049811477,1),(15,7881299347898373,1),(27,138649284399970472088049811477,1),(39,7881299347898373,1),(42,5,1),(45,2326148992623602777581662355490603013,1),(57,1,3)],[],[],0⟩ S1 top (fun a=>some a) w bV Tryz.func18
end Go.Bx.cE
namespace Go.Bx.dG
def S1:Px:=⟨5,[sd 2 .bool],[]⟩
def top(Rt:eJ α)(a:Int):Option α:=(bA.run a 2).bind fun b=>Rt b
def run:=top (fun a=>some a)
def F:Fn:=fo [T2] .bool run
noncomputable def c:Cf:=cn 65 F ⟨Tryz.f65,[],[bA.c],[],[],[(2,1,2)],[],[],0⟩ S1 (fun _=>top) (fun a=>some a) e0 bV Tryz.func65
end Go.Bx.dG
namespace Go.Bx.bd
def S1:Px:=⟨21,[sd 0 .str,sr 2,sr 3,sd 4 T2],[sc 2 T9,sc 3 T9]⟩
def S2:Px:=⟨21,[sr 2,sr 3],[sc 2 T9,sc 3 T9]⟩
def aR(Nx:oX α)(Xt0:lP α):oX α:=fun b a c d=>ite (cond (decide (a<(b.length:Int))) (decide (a<32)) false) (ite (0<=a/\a<(b.length:Int)) (ite (0<=a/\a<(32:Int)) (Nx b (wrap .i64 (a+1)) c (d.set a.toNat (b.getD a.toNat 0))) none) none) (Xt0 c d)
def l0(k:Nat)(Xt0:lP α):Nat->oX α
 |0=>kz (S:=S1)
 |n+1=>aR (l0 k Xt0 n) Xt0
def S3:Px:=⟨21,[sr 2],[sc 2 T9]⟩
def j0(Rt:gh α):lP α:=fun b a=>Rt a
def top(k:Nat)(Rt:gh α)(a:D0):Option α:=l0 k (j0 Rt) k a 0 (replicate 32 0) (replicate 32 0)
def run:=top fuel (fun a=>some a)
def F:Fn:=fo [.str] T9 run
def w(k:Nat)(Rt:K S3 α):List (Nat×dQ α):=[(28,.j S2 (j0 Rt)),(37,.l S1 (l0 k (j0 Rt)) fun _=>[])]
noncomputable def c:Cf:=cn 138 F ⟨Tryz.f138,[7],[],[],[],[(2,1,2),(1,3,2),(4,29,0),(9,29,0),(18,3,2)],[],[],0⟩ S3 top (fun a=>some a) w bV Tryz.func138
end Go.Bx.bd
namespace Go.Bx.dR
def S1:Px:=⟨9,[sr 2],[sc 2 T9]⟩
def top(Rt:gh α)(a:Int):Option α:=(bd.run [176]).bind fun b=>Rt (b.set 31 (wrap .u8 a))
def run:=top (fun a=>some a)
def F:Fn:=fo [T2] T9 run
noncomputable def c:Cf:=cn 70 F ⟨Tryz.f70,[],[bd.c],[],[],[(2,1,2)],[],[],0⟩ S1 (fun _=>top) (fun a=>some a) e0 bV Tryz.func70
end Go.Bx.dR
namespace Go.Bx.aj
def S1:Px:=⟨154,[sr 1,sd 3 .bool,sd 4 T2],[sc 1 fT]⟩
def S2:Px:=⟨154,[sr 1,sd 3 .bool,sd 4 T2,sr 5,sd 6 T2],[sc 1 fT,sc 5 lV]⟩
def ly(Nx:NV α)(Xt2:uG α):NV α:=fun d e a b c=>ite (decide (a<e)) (cond (decide (0<=a/\a<(b.2.2.2.1.length:Int))|| !(d==true)) (cond (decide (0<=a/\a<(b.2.2.2.1.length:Int))|| !((az T9 (b.2.2.2.1.getD a.toNat iX).1 c.1)==true)) (Nx (cond d (not (cond (az T9 (b.2.2.2.1.getD a.toNat iX).1 c.1) ((b.2.2.2.1.getD a.toNat iX).2.1==c.2.1) false)) false) e (wrap .i64 (a+1)) b c) none) none) (Xt2 d e b)
def l1(k:Nat)(Xt2:uG α):Nat->NV α
 |0=>kz (S:=S2)
 |n+1=>ly (l1 k Xt2 n) Xt2
def j0(Nx:uG α):uG α:=fun a b c=>Nx a (wrap .i64 (b+1)) c
def S3:Px:=⟨154,[sr 1,sd 3 .bool],[sc 1 fT]⟩
def aR(k:Nat)(Nx:uG α)(Xt0:LC α):uG α:=fun d b a=>ite (cond d (decide (b<(a.2.2.2.1.length:Int))) false) (ite (0<=b/\b<(a.2.2.2.1.length:Int)) ((dG.run (a.2.2.2.1.getD b.toNat iX).2.1).bind fun c=>(if(c==true)=true then aS.run (a.2.2.2.1.getD b.toNat iX).2.2.2.1 else some 0).bind fun e=>(if((cond c (e==0) false)==true)=true then bA.run (a.2.2.2.1.getD b.toNat iX).2.2.1 77 else some false).bind fun f=>l1 k (j0 Nx) k (cond (cond (cond c (e==0) false) f false) (cond ((a.2.2.2.1.getD b.toNat iX).2.1==a.1) true (decide ((a.2.2.2.1.getD b.toNat iX).2.2.1<=8))) false) b 0 a (a.2.2.2.1.getD b.toNat iX)) none) (Xt0 d a)
def l0(k:Nat)(Xt0:LC α):Nat->uG α
 |0=>kz (S:=S1)
 |n+1=>aR k (l0 k Xt0 n) Xt0
def S4:Px:=⟨154,[sr 1,sd 3 .bool,sd 7 T2],[sc 1 fT]⟩
def S5:Px:=⟨154,[sd 3 .bool],[]⟩
def vw(Nx:uG α)(Xt4:eJ α):uG α:=fun c a b=>ite (cond c (decide (a<(b.2.2.2.2.2.2.1.length:Int))) false) (ite (0<=a/\a<(b.2.2.2.2.2.2.1.length:Int)) ((cA.run (b.2.2.2.2.2.2.1.getD a.toNat tG)).bind fun d=>(if((cond (cond (d==0) ((b.2.2.2.2.2.2.1.getD a.toNat tG).2.2.2.2.1==a) false) ((b.2.2.2.2.2.2.1.getD a.toNat tG).2.2.1==b.1) false)==true)=true then dR.run b.1 else some (replicate 32 0)).bind fun e=>Nx (cond (cond (cond (d==0) ((b.2.2.2.2.2.2.1.getD a.toNat tG).2.2.2.2.1==a) false) ((b.2.2.2.2.2.2.1.getD a.toNat tG).2.2.1==b.1) false) (az T9 (b.2.2.2.2.2.2.1.getD a.toNat tG).2.2.2.1 e) false) (wrap .i64 (a+1)) b) none) (Xt4 c)
def l2(k:Nat)(Xt4:eJ α):Nat->uG α
 |0=>kz (S:=S4)
 |n+1=>vw (l2 k Xt4 n) Xt4
def S6:Px:=⟨154,[sd 2 T2],[]⟩
def j2(Rt:gf α):eJ α:=fun a=>ite (not a) (Rt 12) (Rt 0)
def j1(k:Nat)(Rt:gf α):LC α:=fun a b=>l2 k (j2 Rt) k a 0 b
def top(k:Nat)(Rt:gf α)(a:pJ):Option α:=(dG.run a.1).bind fun b=>(if(b==true)=true then bA.run (wrap .i64 (a.2.1-1)) 1099511627775 else some false).bind fun c=>(if((cond b c false)==true)=true then bD.run a.2.2.1 else some 0).bind fun d=>l0 k (j1 k Rt) k (cond (cond (cond (cond (cond b c false) (d==0) false) (decide ((a.2.2.2.1.length:Int)<=4)) false) ((a.2.2.2.2.2.2.1.length:Int)==a.2.2.2.2.2.1) false) (decide (a.2.2.2.2.2.1<=256)) false) 0 a
def run:=top fuel (fun a=>some a)
def F:Fn:=fo [fT] T2 run
def w0(k:Nat)(Nx:K S1 α)(Xt0:K S3 α):List (Nat×dQ α):=[(20,.j S1 (j0 Nx)),(97,.l S2 (l1 k (j0 Nx)) fun _=>[])]
def w(k:Nat)(Rt:K S6 α):List (Nat×dQ α):=[(68,.j S5 (j2 Rt)),(145,.l S4 (l2 k (j2 Rt)) fun _=>[]),(48,.j S3 (j1 k Rt)),(37,.l S1 (l0 k (j1 k Rt)) fun n=>w0 k (l0 k (j1 k Rt) n) (j1 k Rt))]
noncomputable def c:Cf:=cn 28 F ⟨Tryz.f28,[5,12,17],[dG.c,bA.c,bD.c,aS.c,cA.c,dR.c],[],[],[(2,1,2),(13,1,3),(16,69,1),(1,5,1),(4,13,1),(7,13,1),(10,61,1),(9,13,1),(12,13,1),(24,61,1),(33,5,1),(36,69,1),(48,1,3)],[],[],0⟩ S6 top (fun a=>some a) w bV Tryz.func28
end Go.Bx.aj
namespace Go.Bx.aD
def S1:Px:=⟨19,[sd 0 T4,sd 5 .str,sd 6 T2,sd 7 T2],[]⟩
def S2:Px:=⟨19,[sd 5 .str],[]⟩
def aR(Nx:qo α)(Xt0:gh α):qo α:=fun b a c d=>ite (decide (d<c)) (ite (ble (1+a.length) 9223372036854775807=true) (Nx (fS .u64 b 8) ([(wrap .u8 b)]++a) c (wrap .i64 (d+1))) none) (Xt0 a)
def l0(k:Nat)(Xt0:gh α):Nat->qo α
 |0=>kz (S:=S1)
 |n+1=>aR (l0 k Xt0 n) Xt0
def S3:Px:=⟨19,[sd 4 .str],[]⟩
def j0(Rt:gh α):gh α:=fun a=>Rt a
def top(k:Nat)(Rt:gh α)(a b:Int):Option α:=l0 k (j0 Rt) k a [] b 0
def run:=top fuel (fun a=>some a)
def F:Fn:=fo [T4,T2] .str run
def w(k:Nat)(Rt:K S3 α):List (Nat×dQ α):=[(32,.j S2 (j0 Rt)),(37,.l S1 (l0 k (j0 Rt)) fun _=>[])]
noncomputable def c:Cf:=cn 152 F ⟨Tryz.f152,[8],[],[],[],[(2,1,4),(1,1,5),(4,225,0),(9,225,0),(21,1,5)],[],[],0⟩ S3 top (fun a=>some a) w bV Tryz.func152
end Go.Bx.aD
namespace Go.Bx.bf
def S1:Px:=⟨20,[sd 0 .str,sd 3 T4,sd 4 T2],[]⟩
def S2:Px:=⟨20,[sd 3 T4],[]⟩
def aR(Nx:N7 α)(Xt0:gf α):N7 α:=fun b c a=>ite (decide (a<(b.length:Int))) (ite (0<=a/\a<(b.length:Int)) (Nx b (wrap .u64 ((wrap .u64 (c*256))+(wrap .u64 (b.getD a.toNat 0)))) (wrap .i64 (a+1))) none) (Xt0 c)
def l0(k:Nat)(Xt0:gf α):Nat->N7 α
 |0=>kz (S:=S1)
 |n+1=>aR (l0 k Xt0 n) Xt0
def S3:Px:=⟨20,[sd 2 T2],[]⟩
def j0(Rt:gf α):gf α:=fun a=>Rt (wrap .i64 a)
def top(k:Nat)(Rt:gf α)(a:D0):Option α:=l0 k (j0 Rt) k a 0 0
def run:=top fuel (fun a=>some a)
def F:Fn:=fo [.str] T2 run
def w(k:Nat)(Rt:K S3 α):List (Nat×dQ α):=[(28,.j S2 (j0 Rt)),(37,.l S1 (l0 k (j0 Rt)) fun _=>[])]
noncomputable def c:Cf:=cn 194 F ⟨Tryz.f194,[7],[],[],[],[(2,1,2),(1,1,3),(4,25,0),(9,25,0),(18,1,3)],[],[],0⟩ S3 top (fun a=>some a) w bV Tryz.func194
end Go.Bx.bf
namespace Go.Bx.cQ
def S1:Px:=⟨26,[sr 2,sr 3,sd 5 T2],[sc 2 T1,sc 3 T1]⟩
def S2:Px:=⟨26,[sd 4 T2],[]⟩
def S3:Px:=⟨26,[],[]⟩
def aR(Nx:vv α)(Rt:gf α)(Xt0:Option α):vv α:=fun a b c=>ite (decide (a>=0)) (ite (0<=a/\a<(4:Int)) (ite (0<=a/\a<(4:Int)) (ite (decide ((b.getD a.toNat 0)<(c.getD a.toNat 0))) (Rt (-1)) (ite (0<=a/\a<(4:Int)) (ite (0<=a/\a<(4:Int)) (ite (decide ((b.getD a.toNat 0)>(c.getD a.toNat 0))) (Rt 1) (Nx (wrap .i64 (a-1)) b c)) none) none)) none) none) (Xt0)
def l0(k:Nat)(Rt:gf α)(Xt0:Option α):Nat->vv α
 |0=>kz (S:=S1)
 |n+1=>aR (l0 k Rt Xt0 n) Rt Xt0
def j0(Rt:gf α):Option α:=Rt 0
def top(k:Nat)(Rt:gf α)(a b:D0):Option α:=l0 k Rt (j0 Rt) k 3 a b
def run:=top fuel (fun a=>some a)
def F:Fn:=fo [T1,T1] T2 run
def w(k:Nat)(Rt:K S2 α):List (Nat×dQ α):=[(36,.j S3 (j0 Rt)),(25,.l S1 (l0 k Rt (j0 Rt)) fun _=>[])]
noncomputable def c:Cf:=cn 47 F ⟨Tryz.f47,[9],[],[],[],[(2,1,4),(1,0,0),(4,11,2),(7,11,2),(6,11,2),(24,0,0)],[],[],0⟩ S2 top (fun a=>some a) w bV Tryz.func47
end Go.Bx.cQ
namespace Go.Bx.ig
def S1:Px:=⟨93,[sd 4 .bool],[]⟩
def top(Rt:eJ α)(a b:tH):Option α:=Rt (cond (cond (cond (cond (cond (cond (cond (cond (cond (cond (cond (a.1==b.1) (az T1 a.2.1 b.2.1) false) (az T1 a.2.2.1 b.2.2.1) false) (az T9 a.2.2.2.1 b.2.2.2.1) false) (a.2.2.2.2.1==b.2.2.2.2.1) false) (az T9 a.2.2.2.2.2.1 b.2.2.2.2.2.1) false) (a.2.2.2.2.2.2.1==b.2.2.2.2.2.2.1) false) (a.2.2.2.2.2.2.2.1==b.2.2.2.2.2.2.2.1) false) (az .str a.2.2.2.2.2.2.2.2.1 b.2.2.2.2.2.2.2.2.1) false) (a.2.2.2.2.2.2.2.2.2.2.1==b.2.2.2.2.2.2.2.2.2.2.1) false) (az .str a.2.2.2.2.2.2.2.2.2.1 b.2.2.2.2.2.2.2.2.2.1) false) ((a.2.2.2.2.2.2.2.2.2.2.2.1.length:Int)==(b.2.2.2.2.2.2.2.2.2.2.2.1.length:Int)) false)
def run:=top (fun a=>some a)
def F:Fn:=fo [jI,jI] .bool run
noncomputable def c:Cf:=cn 181 F ⟨Tryz.f181,[],[],[],[],[(2,1,4)],[],[],0⟩ S1 (fun _=>top) (fun a=>some a) e0 bV Tryz.func181
end Go.Bx.ig
namespace Go.Bx.iy
def S1:Px:=⟨22,[sr 4],[se 4 jI (WQ)]⟩
def top(Rt:VQ α)(b:PQ)(a:tH):Option α:=Rt a.1 a.2.1 a.2.2.1 a.2.2.2.1 a.2.2.2.2.1 a.2.2.2.2.2.1 a.2.2.2.2.2.2.1 0 [] a.2.2.2.2.2.2.2.2.2.1 0
def run:=top (α:=Int×List Int×List Int×List Int×Int×List Int×Int×Int×List Int×List Int×Int×List D0×Unit) (fun a b c d e f g h i j k=>some (a,b,c,d,e,f,g,h,i,j,k,[],()))
def F:Fn:=fo [Rp,jI] jI run
noncomputable def c:Cf:=cn 262 F ⟨Tryz.f262,[],[],[],[],[(2,1,4)],[],[],0⟩ S1 (fun _=>top) (fun a b d e f g h i j k l=>some (a,b,d,e,f,g,h,i,j,k,l,[],())) e0 bV Tryz.func262
end Go.Bx.iy
namespace Go.Bx.iq
def S1:Px:=⟨12,[sd 4 .bool],[]⟩
def top(Rt:eJ α)(a b:Int):Option α:=Rt (cond (decide (a>=0)) (decide (a<=b)) false)
def run:=top (fun a=>some a)
def F:Fn:=fo [T2,T2] .bool run
noncomputable def c:Cf:=cn 266 F ⟨Tryz.f266,[],[],[],[],[(2,1,4)],[],[],0⟩ S1 (fun _=>top) (fun a=>some a) e0 bV Tryz.func266
end Go.Bx.iq
namespace Go.Bx.hZ
def S1:Px:=⟨42,[sd 4 .bool],[]⟩
def top(Rt:eJ α)(c:PQ)(a:tH):Option α:=(iq.run a.2.2.2.2.1 65535).bind fun b=>(if(b==true)=true then iq.run a.2.2.2.2.2.2.1 65535 else some false).bind fun d=>(if((cond b d false)==true)=true then cQ.run a.2.2.1 a.2.1 else some 0).bind fun e=>Rt (cond (cond (cond b d false) (decide (e<=0)) false) (cond (cond c.1 (decide ((a.2.2.2.2.2.2.2.2.2.1.length:Int)<=100)) false) true (cond (not c.1) ((a.2.2.2.2.2.2.2.2.2.1.length:Int)==0) false)) false)
def run:=top (fun a=>some a)
def F:Fn:=fo [Rp,jI] .bool run
noncomputable def c:Cf:=cn 263 F ⟨Tryz.f263,[],[cQ.c,iq.c],[],[],[(2,1,4)],[],[],0⟩ S1 (fun _=>top) (fun a=>some a) e0 bV Tryz.func263
end Go.Bx.hZ
namespace Go.Bx.kc
def S1:Px:=⟨16,[sr 4],[se 4 jI (ME)]⟩
def top(Rt:VR α)(b:Unit)(a:tH):Option α:=Rt a.1 [0,0,0,0] [0,0,0,0] a.2.2.2.1 a.2.2.2.2.1 (replicate 32 0) 0 a.2.2.2.2.2.2.2.1 a.2.2.2.2.2.2.2.2.1 0
def run:=top (α:=Int×List Int×List Int×List Int×Int×List Int×Int×Int×List Int×List Int×Int×List D0×Unit) (fun a b c d e f g h i j=>some (a,b,c,d,e,f,g,h,i,[],j,[],()))
def F:Fn:=fo [.unit,jI] jI run
noncomputable def c:Cf:=cn 270 F ⟨Tryz.f270,[],[],[],[],[(2,1,4)],[],[],0⟩ S1 (fun _=>top) (fun a b d e f g h i j k=>some (a,b,d,e,f,g,h,i,j,[],k,[],())) e0 bV Tryz.func270
end Go.Bx.kc
namespace Go.Bx.dM
def S1:Px:=⟨37,[sd 5 .bool,sd 24 mO,sd 25 T2,sd 26 T2],[]⟩
def S2:Px:=⟨37,[sd 5 .bool],[]⟩
def aR(Nx:SI α)(Xt0:eJ α):SI α:=fun c b d a=>ite (decide (a<d)) (ite (0<=a/\a<(b.length:Int)) (Nx (cond c ((b.getD a.toNat 0) !=0) false) b d (wrap .i64 (a+1))) none) (Xt0 c)
def l0(k:Nat)(Xt0:eJ α):Nat->SI α
 |0=>kz (S:=S1)
 |n+1=>aR (l0 k Xt0 n) Xt0
def S3:Px:=⟨37,[sd 4 .bool],[]⟩
def j0(Rt:eJ α):eJ α:=fun a=>Rt a
def top(k:Nat)(Rt:eJ α)(d:Unit)(a:tH):Option α:=(iq.run a.2.2.2.2.1 65535).bind fun b=>(if(b==true)=true then iq.run a.2.2.2.2.2.2.2.1 77 else some false).bind fun c=>l0 k (j0 Rt) k (cond (cond b c false) (decide ((a.2.2.2.2.2.2.2.2.1.length:Int)<=32)) false) a.2.2.2.2.2.2.2.2.1 (a.2.2.2.2.2.2.2.2.1.length:Int) 0
def run:=top fuel (fun a=>some a)
def F:Fn:=fo [.unit,jI] .bool run
def w(k:Nat)(Rt:K S3 α):List (Nat×dQ α):=[(32,.j S2 (j0 Rt)),(37,.l S1 (l0 k (j0 Rt)) fun _=>[])]
noncomputable def c:Cf:=cn 271 F ⟨Tryz.f271,[8],[iq.c],[],[],[(2,1,4),(1,1,5),(4,3670017,5),(9,3670017,5),(21,1,5)],[],[],0⟩ S3 top (fun a=>some a) w bV Tryz.func271
end Go.Bx.dM
namespace Go.Bx.ke
def S1:Px:=⟨12,[sr 4],[se 4 jI (WR)]⟩
def top(Rt:VS α)(b:Unit)(a:tH):Option α:=Rt a.1 [0,0,0,0] [0,0,0,0] (replicate 32 0) 0 (replicate 32 0) 0 0 [] a.2.2.2.2.2.2.2.2.2.2.1 a.2.2.2.2.2.2.2.2.2.2.2.1
def run:=top (α:=Int×List Int×List Int×List Int×Int×List Int×Int×Int×List Int×List Int×Int×List D0×Unit) (fun a b c d e f g h i j k=>some (a,b,c,d,e,f,g,h,i,[],j,k,()))
def F:Fn:=fo [.unit,jI] jI run
noncomputable def c:Cf:=cn 274 F ⟨Tryz.f274,[],[],[],[],[(2,1,4)],[],[],0⟩ S1 (fun _=>top) (fun a b d e f g h i j k l=>some (a,b,d,e,f,g,h,i,j,[],k,l,())) e0 bV Tryz.func274
end Go.Bx.ke
namespace Go.Bx.jB
def S1:Px:=⟨20,[sd 4 .bool],[]⟩
def top(Rt:eJ α)(c:Unit)(a:tH):Option α:=(iq.run a.2.2.2.2.2.2.2.2.2.2.1 4294967295).bind fun b=>Rt (cond (cond b (decide ((a.2.2.2.2.2.2.2.2.2.2.2.1.length:Int)>=1)) false) (decide ((a.2.2.2.2.2.2.2.2.2.2.2.1.length:Int)<=19)) false)
def run:=top (fun a=>some a)
def F:Fn:=fo [.unit,jI] .bool run
noncomputable def c:Cf:=cn 275 F ⟨Tryz.f275,[],[iq.c],[],[],[(2,1,4)],[],[],0⟩ S1 (fun _=>top) (fun a=>some a) e0 bV Tryz.func275
end Go.Bx.jB
namespace Go.Bx.cH
def S1:Px:=⟨20,[sd 0 T2,sd 4 T2,sd 5 .bool],[]⟩
def S2:Px:=⟨20,[(2,.ifc 249 (hD Rp)),sd 3 .bool],[]⟩
def S3:Px:=⟨20,[(2,.ifc 251 (hD .unit)),sd 3 .bool],[]⟩
def S4:Px:=⟨20,[(2,.ifc 252 (hD .unit)),sd 3 .bool],[]⟩
def S5:Px:=⟨20,[sd 3 .bool],[]⟩
def j0(Rt0:SJ α)(Rt1:LL α)(Rt2:LL α)(Rt3:eJ α):VT α:=fun b a c=>ite c (Rt0 ((b==3),()) true) (ite (a==2) (Rt1 () true) (ite (a==4) (Rt2 () true) (Rt3 false)))
def top(Rt0:SJ α)(Rt1:LL α)(Rt2:LL α)(Rt3:eJ α)(a:Int):Option α:=ite (a==1) (j0 Rt0 Rt1 Rt2 Rt3 a a (a==1)) (j0 Rt0 Rt1 Rt2 Rt3 a a (a==3))
def a0:SJ (Vi⊕(Rj⊕(Rj⊕(PQ⊕(Empty))))):=fun x2y a=>some (.inl (x2y,a,()))
def a1:LL (Vi⊕(Rj⊕(Rj⊕(PQ⊕(Empty))))):=fun x2y a=>some (.inr (.inl (x2y,a,())))
def a2:LL (Vi⊕(Rj⊕(Rj⊕(PQ⊕(Empty))))):=fun x2y a=>some (.inr (.inr (.inl (x2y,a,()))))
def a3:eJ (Vi⊕(Rj⊕(Rj⊕(PQ⊕(Empty))))):=fun a=>some (.inr (.inr (.inr (.inl (a,())))))
def run:=top a0 a1 a2 a3
def Sp:oK:=WS [hD T2] [] [T2] [⟨.tup [.ifc 249 (hD Rp),hD .bool],[],tu [Rp,.bool]⟩,⟨.tup [.ifc 251 (hD .unit),hD .bool],[],tu [.unit,.bool]⟩,⟨.tup [.ifc 252 (hD .unit),hD .bool],[],tu [.unit,.bool]⟩,⟨.tup [.any,hD .bool],[],tu [.bool]⟩] run
def w(k:Nat)(Rt0:K S2 α)(Rt1:K S3 α)(Rt2:K S4 α)(Rt3:K S5 α):List (Nat×dQ α):=[(20,.j S1 (j0 Rt0 Rt1 Rt2 Rt3))]
noncomputable def s:Sf:=sa 121 Sp ⟨Tryz.f121,[5],[],[],[],[(2,3,2),(1,0,0),(20,49,0)],[],[],0⟩ (fun _=>top a0 a1 a2 a3) [⟨S2,a0⟩,⟨S3,a1⟩,⟨S4,a2⟩,⟨S5,a3⟩] (fun k=>w k a0 a1 a2 a3) bV Tryz.func121
end Go.Bx.cH
namespace Go.Bx.cZ
def S1:Px:=⟨25,[sd 2 T2],[]⟩
def top(Rt:gf α)(a:tH):Option α:=(cH.run a.1).bind fun i=>(Sum.elim (fun b=>ite (not b.2.1) (Rt 2) ((hZ.run b.1 a).bind fun c=>(if((not c)==false)=true then iy.run b.1 a else some (0,[0,0,0,0],[0,0,0,0],(replicate 32 0),0,(replicate 32 0),0,0,[],[],0,[],())).bind fun j=>(if((not c)==false)=true then ig.run a j else some false).bind fun k=>ite (cond (not c) true (not k)) (Rt 3) (Rt 0))) (Sum.elim (fun d=>ite (not d.2.1) (Rt 2) ((dM.run d.1 a).bind fun f=>(if((not f)==false)=true then kc.run d.1 a else some (0,[0,0,0,0],[0,0,0,0],(replicate 32 0),0,(replicate 32 0),0,0,[],[],0,[],())).bind fun l=>(if((not f)==false)=true then ig.run a l else some false).bind fun m=>ite (cond (not f) true (not m)) (Rt 3) (Rt 0))) (Sum.elim (fun g=>ite (not g.2.1) (Rt 2) ((jB.run g.1 a).bind fun h=>(if((not h)==false)=true then ke.run g.1 a else some (0,[0,0,0,0],[0,0,0,0],(replicate 32 0),0,(replicate 32 0),0,0,[],[],0,[],())).bind fun n=>(if((not h)==false)=true then ig.run a n else some false).bind fun o=>ite (cond (not h) true (not o)) (Rt 3) (Rt 0))) (Sum.elim (fun p=>ite (not p.1) (Rt 2) (none)) (fun e=>e.elim))))) i
def run:=top (fun a=>some a)
def F:Fn:=fo [jI] T2 run
noncomputable def c:Cf:=cn 120 F ⟨Tryz.f120,[],[ig.c,iy.c,hZ.c,kc.c,dM.c,ke.c,jB.c],[cH.s],[(8,26)],[(2,1,2)],[],[],0⟩ S1 (fun _=>top) (fun a=>some a) e0 bV Tryz.func120
end Go.Bx.cZ
namespace Go.Bx.aH
def S1:Px:=⟨10,[sd 4 T2],[]⟩
def top(Rt:gf α)(a b:D0):Option α:=(ay.run a).bind fun c=>(ay.run b).bind fun d=>(bc.run c d).bind fun e=>Rt e
def run:=top (fun a=>some a)
def F:Fn:=fo [T1,T1] T2 run
noncomputable def c:Cf:=cn 72 F ⟨Tryz.f72,[],[ay.c,bc.c],[],[],[(2,1,4)],[],[],0⟩ S1 (fun _=>top) (fun a=>some a) e0 bV Tryz.func72
end Go.Bx.aH
namespace Go.Bx.en
def S1:Px:=⟨49,[sr 1,sr 2,sd 5 T2,sd 6 .bool],[sc 1 jI,se 2 jI (ME)]⟩
def S2:Px:=⟨49,[sr 2,sd 3 .bool],[sc 2 jI]⟩
def j0(Rt:RE α):UC α:=fun b c a d e f g h i j k l m=>ite c (Rt true (a.1,a.2.1,a.2.2.1,a.2.2.2.1,a.2.2.2.2.1,a.2.2.2.2.2.1,a.2.2.2.2.2.2.1,0,[],a.2.2.2.2.2.2.2.2.2.1,0,[],())) (ite (b==2) (Rt true (a.1,[0,0,0,0],[0,0,0,0],a.2.2.2.1,a.2.2.2.2.1,(replicate 32 0),0,a.2.2.2.2.2.2.2.1,a.2.2.2.2.2.2.2.2.1,[],0,[],())) (ite (b==4) (Rt true (a.1,[0,0,0,0],[0,0,0,0],(replicate 32 0),0,(replicate 32 0),0,0,[],[],a.2.2.2.2.2.2.2.2.2.2.1,a.2.2.2.2.2.2.2.2.2.2.2.1,())) (Rt false (0,[0,0,0,0],[0,0,0,0],(replicate 32 0),0,(replicate 32 0),0,0,[],[],0,[],()))))
def top(Rt:RE α)(a:tH):Option α:=ite (a.1==1) (j0 Rt a.1 (a.1==1) a 0 [0,0,0,0] [0,0,0,0] (replicate 32 0) 0 (replicate 32 0) 0 0 [] 0) (j0 Rt a.1 (a.1==3) a 0 [0,0,0,0] [0,0,0,0] (replicate 32 0) 0 (replicate 32 0) 0 0 [] 0)
def run:=top (fun a b=>some (b,a,()))
def F:Fn:=fm [jI] [jI,.bool] run
def w(k:Nat)(Rt:K S2 α):List (Nat×dQ α):=[(20,.j S1 (j0 Rt))]
noncomputable def c:Cf:=cn 202 F ⟨Tryz.f202,[5],[],[],[],[(2,3,2),(1,1,2),(20,51,1)],[(2,[.dat false 2 [9],.dat false 2 []])],[],0⟩ S2 (fun _=>top) (fun a b=>some (b,a,())) w bV Tryz.func202
end Go.Bx.en
namespace Go.Bx.aL
def S1:Px:=⟨108,[sd 4 .bool],[]⟩
def S2:Px:=⟨108,[sr 2,sr 3,sd 24 T2,sd 25 T2],[sc 2 jI,sc 3 jI]⟩
def S3:Px:=⟨108,[sr 2,sr 3],[sc 2 jI,sc 3 jI]⟩
def aR(Nx:N0 α)(Rt:eJ α)(Xt0:N1 α):N0 α:=fun d a b c=>ite (decide (a<d)) (ite (0<=a/\a<(b.2.2.2.2.2.2.2.2.2.2.2.1.length:Int)) (ite (0<=a/\a<(c.2.2.2.2.2.2.2.2.2.2.2.1.length:Int)) (ite (not (az tJ (b.2.2.2.2.2.2.2.2.2.2.2.1.getD a.toNat Ci) (c.2.2.2.2.2.2.2.2.2.2.2.1.getD a.toNat Ci))) (Rt false) (Nx d (wrap .i64 (a+1)) b c)) none) none) (Xt0 b c)
def l0(k:Nat)(Rt:eJ α)(Xt0:N1 α):Nat->N0 α
 |0=>kz (S:=S2)
 |n+1=>aR (l0 k Rt Xt0 n) Rt Xt0
def j0(Rt:eJ α):N1 α:=fun a b=>Rt (cond (cond (cond (cond (cond (cond (cond (cond (cond (a.1==b.1) (az T1 a.2.1 b.2.1) false) (az T1 a.2.2.1 b.2.2.1) false) (az T9 a.2.2.2.1 b.2.2.2.1) false) (a.2.2.2.2.1==b.2.2.2.2.1) false) (az T9 a.2.2.2.2.2.1 b.2.2.2.2.2.1) false) (a.2.2.2.2.2.2.1==b.2.2.2.2.2.2.1) false) (a.2.2.2.2.2.2.2.1==b.2.2.2.2.2.2.2.1) false) (az .str a.2.2.2.2.2.2.2.2.1 b.2.2.2.2.2.2.2.2.1) false) (a.2.2.2.2.2.2.2.2.2.2.1==b.2.2.2.2.2.2.2.2.2.2.1) false)
def top(k:Nat)(Rt:eJ α)(a b:tH):Option α:=ite (cond ((a.2.2.2.2.2.2.2.2.2.2.2.1.length:Int) !=(b.2.2.2.2.2.2.2.2.2.2.2.1.length:Int)) true (not (az .str a.2.2.2.2.2.2.2.2.2.1 b.2.2.2.2.2.2.2.2.2.1))) (Rt false) (l0 k Rt (j0 Rt) k (a.2.2.2.2.2.2.2.2.2.2.2.1.length:Int) 0 a b)
def run:=top fuel (fun a=>some a)
def F:Fn:=fo [jI,jI] .bool run
def w(k:Nat)(Rt:K S1 α):List (Nat×dQ α):=[(40,.j S3 (j0 Rt)),(49,.l S2 (l0 k Rt (j0 Rt)) fun _=>[])]
noncomputable def c:Cf:=cn 203 F ⟨Tryz.f203,[10],[],[],[],[(2,1,4),(1,3,2),(4,12582915,2),(12,12582915,2),(27,3,2)],[],[],0⟩ S1 top (fun a=>some a) w bV Tryz.func203
end Go.Bx.aL
namespace Go.Bx.cg
def S1:Px:=⟨14,[sd 0 .str,sd 3 T2],[]⟩
def S2:Px:=⟨14,[sd 2 .bool],[]⟩
def S3:Px:=⟨14,[],[]⟩
def aR(Nx:E3 α)(Rt:eJ α)(Xt0:Option α):E3 α:=fun b a=>ite (decide (a<(b.length:Int))) (ite (0<=a/\a<(b.length:Int)) (ite ((b.getD a.toNat 0)==0) (Rt true) (Nx b (wrap .i64 (a+1)))) none) (Xt0)
def l0(k:Nat)(Rt:eJ α)(Xt0:Option α):Nat->E3 α
 |0=>kz (S:=S1)
 |n+1=>aR (l0 k Rt Xt0 n) Rt Xt0
def j0(Rt:eJ α):Option α:=Rt false
def top(k:Nat)(Rt:eJ α)(a:D0):Option α:=l0 k Rt (j0 Rt) k a 0
def run:=top fuel (fun a=>some a)
def F:Fn:=fo [.str] .bool run
def w(k:Nat)(Rt:K S2 α):List (Nat×dQ α):=[(28,.j S3 (j0 Rt)),(25,.l S1 (l0 k Rt (j0 Rt)) fun _=>[])]
noncomputable def c:Cf:=cn 204 F ⟨Tryz.f204,[7],[],[],[],[(2,1,2),(1,0,0),(4,9,0),(6,9,0),(18,0,0)],[],[],0⟩ S2 top (fun a=>some a) w bV Tryz.func204
end Go.Bx.cg
namespace Go.Bx.ak
def S1:Px:=⟨103,[sd 2 T2],[]⟩
def S2:Px:=⟨103,[sr 1,sd 4 .bool,sd 16 T2,sd 17 .bool],[sc 1 jI]⟩
def S3:Px:=⟨103,[sd 4 .bool],[]⟩
def j1(Rt:gf α):eJ α:=fun a=>ite (not a) (Rt 3) (Rt 0)
def j0(Rt:gf α):UD α:=fun b e h a=>ite h ((if(b==true)=true then bA.run a.2.2.2.2.1 65535 else some false).bind fun c=>(if((cond b c false)==true)=true then bA.run a.2.2.2.2.2.2.1 65535 else some false).bind fun f=>(if((cond (cond b c false) f false)==true)=true then aH.run a.2.2.1 a.2.1 else some 0).bind fun i=>j1 Rt (cond (cond (cond (cond (cond b c false) f false) (decide (i<=0)) false) (decide ((a.2.2.2.2.2.2.2.2.2.1.length:Int)<=100)) false) (cond (a.1==3) true ((a.2.2.2.2.2.2.2.2.2.1.length:Int)==0)) false)) (ite (e==2) ((if(b==true)=true then bA.run a.2.2.2.2.1 65535 else some false).bind fun d=>(if((cond b d false)==true)=true then bA.run a.2.2.2.2.2.2.2.1 77 else some false).bind fun g=>(if((cond (cond (cond b d false) g false) (decide ((a.2.2.2.2.2.2.2.2.1.length:Int)<=32)) false)==true)=true then cg.run a.2.2.2.2.2.2.2.2.1 else some false).bind fun j=>j1 Rt (cond (cond (cond (cond b d false) g false) (decide ((a.2.2.2.2.2.2.2.2.1.length:Int)<=32)) false) (not j) false)) (ite (e==4) ((if(b==true)=true then bA.run a.2.2.2.2.2.2.2.2.2.2.1 4294967295 else some false).bind fun k=>j1 Rt (cond (cond (cond b k false) (decide ((a.2.2.2.2.2.2.2.2.2.2.2.1.length:Int)>0)) false) (decide ((a.2.2.2.2.2.2.2.2.2.2.2.1.length:Int)<=19)) false)) (j1 Rt b)))
def top(Rt:gf α)(a:tH):Option α:=(en.run a).bind fun b=>ite (not b.2.1) (Rt 2) ((aL.run a b.1).bind fun c=>ite (a.1==1) (j0 Rt c a.1 (a.1==1) a) (j0 Rt c a.1 (a.1==3) a))
def run:=top (fun a=>some a)
def F:Fn:=fo [jI] T2 run
def w(k:Nat)(Rt:K S1 α):List (Nat×dQ α):=[(56,.j S3 (j1 Rt)),(36,.j S2 (j0 Rt))]
noncomputable def c:Cf:=cn 151 F ⟨Tryz.f151,[9,14],[bA.c,aH.c,en.c,aL.c,cg.c],[],[],[(2,1,2),(1,1,4),(32,98313,1),(39,1,4)],[],[],0⟩ S1 (fun _=>top) (fun a=>some a) w bV Tryz.func151
end Go.Bx.ak
namespace Go.Bx.jV
def S1:Px:=⟨22,[sr 1,sr 2,sr 3,sd 5 T2],[sc 1 T1,sc 2 T9,sc 3 T9]⟩
def S2:Px:=⟨22,[sr 2,sr 3],[sc 2 T9,sc 3 T9]⟩
def aR(Nx:E0 α)(Xt0:lP α):E0 α:=fun a b c d=>ite (decide (a<32)) (ite (0<=(wrap .i64 (tdiv a 8))/\(wrap .i64 (tdiv a 8))<(4:Int)) (ite (0<=(wrap .i64 (8*(tmod a 8)))) (ite (0<=(wrap .i64 (31-a))/\(wrap .i64 (31-a))<(32:Int)) (Nx (wrap .i64 (a+1)) b c (d.set (wrap .i64 (31-a)).toNat (wrap .u8 (fS .u64 (b.getD (wrap .i64 (tdiv a 8)).toNat 0) (wrap .i64 (8*(tmod a 8))))))) none) none) none) (Xt0 c d)
def l0(k:Nat)(Xt0:lP α):Nat->E0 α
 |0=>kz (S:=S1)
 |n+1=>aR (l0 k Xt0 n) Xt0
def S3:Px:=⟨22,[sr 2],[sc 2 T9]⟩
def j0(Rt:gh α):lP α:=fun b a=>Rt a
def top(k:Nat)(Rt:gh α)(a:D0):Option α:=l0 k (j0 Rt) k 0 a (replicate 32 0) (replicate 32 0)
def run:=top fuel (fun a=>some a)
def F:Fn:=fo [T1] T9 run
def w(k:Nat)(Rt:K S3 α):List (Nat×dQ α):=[(32,.j S2 (j0 Rt)),(37,.l S1 (l0 k (j0 Rt)) fun _=>[])]
noncomputable def c:Cf:=cn 96 F ⟨Tryz.f96,[8],[],[],[],[(2,1,2),(1,3,2),(4,23,1),(9,23,1),(21,3,2)],[],[],0⟩ S3 top (fun a=>some a) w bV Tryz.func96
end Go.Bx.jV
namespace Go.Bx.fv
def S1:Px:=⟨18,[sd 2 .str],[]⟩
def top(Rt:gh α)(a:D0):Option α:=(aD.run (a.getD 3 0) 8).bind fun b=>(aD.run (a.getD 2 0) 8).bind fun c=>ite (ble (b.length+c.length) 9223372036854775807=true) ((aD.run (a.getD 1 0) 8).bind fun d=>ite (ble ((b++c).length+d.length) 9223372036854775807=true) ((aD.run (a.getD 0 0) 8).bind fun e=>ite (ble (((b++c)++d).length+e.length) 9223372036854775807=true) (Rt (((b++c)++d)++e)) none) none) none
def run:=top (fun a=>some a)
def F:Fn:=fo [T1] .str run
noncomputable def c:Cf:=cn 130 F ⟨Tryz.f130,[],[aD.c],[],[],[(2,1,2)],[],[],0⟩ S1 (fun _=>top) (fun a=>some a) e0 bV Tryz.func130
end Go.Bx.fv
namespace Go.Bx.ie
def S1:Px:=⟨17,[(3,.app 14 0),sd 6 VC,sd 7 T2,sd 8 T2],[sz 14 rS 0]⟩
def S2:Px:=⟨17,[(3,.app 14 0)],[sz 14 rS 0]⟩
def aR(Nx:Qp α)(Xt0:gh α):Qp α:=fun b d a c=>ite (decide (a<d)) (ite (0<=a/\a<(b.length:Int)) (ite (eF (c.length+(b.getD a.toNat []).length) 1=true) (Nx b d (wrap .i64 (a+1)) (c++(b.getD a.toNat []))) none) none) (Xt0 c)
def l0(k:Nat)(Xt0:gh α):Nat->Qp α
 |0=>kz (S:=S1)
 |n+1=>aR (l0 k Xt0 n) Xt0
def S3:Px:=⟨17,[(2,.app 14 0)],[sz 14 rS 0]⟩
def j0(Rt:gh α):gh α:=fun a=>Rt a
def top(k:Nat)(Rt:gh α)(a:D1):Option α:=l0 k (j0 Rt) k a (a.length:Int) 0 []
def run:=top fuel (fun a=>some a)
def F:Fn:=fo [VC] mO run
def w(k:Nat)(Rt:K S3 α):List (Nat×dQ α):=[(32,.j S2 (j0 Rt)),(37,.l S1 (l0 k (j0 Rt)) fun _=>[])]
noncomputable def c:Cf:=cn 268 F ⟨Tryz.f268,[8],[],[],[],[(2,1,2),(1,1,3),(4,57,3),(9,57,3),(21,1,3)],[(9,[.melt true 3 [] 14 true])],[],0⟩ S3 top (fun a=>some a) w bV Tryz.func268
end Go.Bx.ie
namespace Go.Bx.mD
def S1:Px:=⟨9,[(2,hF rS)],[]⟩
def top(Rt:gh α)(a:Int):Option α:=Rt [(wrap .u8 (fS .i64 a 8)),(wrap .u8 a)]
def run:=top (fun a=>some a)
def F:Fn:=fo [T2] mO run
noncomputable def c:Cf:=cn 269 F ⟨Tryz.f269,[],[],[],[],[(2,1,2)],[],[],0⟩ S1 (fun _=>top) (fun a=>some a) e0 bV Tryz.func269
end Go.Bx.mD
namespace Go.Bx.gN
def S1:Px:=⟨29,[sd 4 mO],[]⟩
def top(Rt:gh α)(g:PQ)(a:tH):Option α:=(jV.run a.2.1).bind fun b=>(jV.run a.2.2.1).bind fun c=>(mD.run a.2.2.2.2.1).bind fun d=>(mD.run a.2.2.2.2.2.2.1).bind fun e=>(ie.run [(aA b 0 32),(aA a.2.2.2.1 0 32),d,(aA a.2.2.2.2.2.1 0 32),e,(aA c 0 32),a.2.2.2.2.2.2.2.2.2.1]).bind fun f=>Rt f
def run:=top (fun a=>some a)
def F:Fn:=fo [Rp,jI] mO run
noncomputable def c:Cf:=cn 265 F ⟨Tryz.f265,[],[jV.c,ie.c,mD.c],[],[],[(2,1,4)],[],[],0⟩ S1 (fun _=>top) (fun a=>some a) e0 bV Tryz.func265
end Go.Bx.gN
namespace Go.Bx.gO
def S1:Px:=⟨8,[sr 2],[sc 2 T9]⟩
def top(Rt:gh α)(a:D0):Option α:=Rt (Au (replicate 32 0) 0 32 a)
def run:=top (fun a=>some a)
def F:Fn:=fo [mO] T9 run
noncomputable def c:Cf:=cn 267 F ⟨Tryz.f267,[],[],[],[],[(2,1,2)],[],[],0⟩ S1 (fun _=>top) (fun a=>some a) e0 bV Tryz.func267
end Go.Bx.gO
namespace Go.Bx.jA
def S1:Px:=⟨22,[sd 4 mO],[]⟩
def top(Rt:gh α)(e:Unit)(a:tH):Option α:=(gO.run a.2.2.2.2.2.2.2.2.1).bind fun b=>(mD.run a.2.2.2.2.1).bind fun c=>(ie.run [(aA a.2.2.2.1 0 32),c,[(wrap .u8 a.2.2.2.2.2.2.2.1)],(aA b 0 32)]).bind fun d=>Rt d
def run:=top (fun a=>some a)
def F:Fn:=fo [.unit,jI] mO run
noncomputable def c:Cf:=cn 273 F ⟨Tryz.f273,[],[gO.c,ie.c,mD.c],[],[],[(2,1,4)],[],[],0⟩ S1 (fun _=>top) (fun a=>some a) e0 bV Tryz.func273
end Go.Bx.jA
namespace Go.Bx.fh
def S1:Px:=⟨40,[(5,.app 37 0),sd 29 uX,sd 30 T2,sd 31 T2],[sz 37 rS 0]⟩
def S2:Px:=⟨40,[(5,.app 37 0)],[sz 37 rS 0]⟩
def aR(Nx:Qp α)(Xt0:gh α):Qp α:=fun b d a c=>ite (decide (a<d)) (ite (0<=a/\a<(b.length:Int)) (ite (eF (c.length+(aA (b.getD a.toNat Ci) 0 20).length) 1=true) (Nx b d (wrap .i64 (a+1)) (c++(aA (b.getD a.toNat Ci) 0 20))) none) none) (Xt0 c)
def l0(k:Nat)(Xt0:gh α):Nat->Qp α
 |0=>kz (S:=S1)
 |n+1=>aR (l0 k Xt0 n) Xt0
def S3:Px:=⟨40,[(4,.app 37 0)],[sz 37 rS 0]⟩
def j0(Rt:gh α):gh α:=fun a=>Rt a
def top(k:Nat)(Rt:gh α)(b:Unit)(a:tH):Option α:=l0 k (j0 Rt) k a.2.2.2.2.2.2.2.2.2.2.2.1 (a.2.2.2.2.2.2.2.2.2.2.2.1.length:Int) 0 [(wrap .u8 (fS .i64 a.2.2.2.2.2.2.2.2.2.2.1 24)),(wrap .u8 (fS .i64 a.2.2.2.2.2.2.2.2.2.2.1 16)),(wrap .u8 (fS .i64 a.2.2.2.2.2.2.2.2.2.2.1 8)),(wrap .u8 a.2.2.2.2.2.2.2.2.2.2.1),(wrap .u8 (a.2.2.2.2.2.2.2.2.2.2.2.1.length:Int))]
def run:=top fuel (fun a=>some a)
def F:Fn:=fo [.unit,jI] mO run
def w(k:Nat)(Rt:K S3 α):List (Nat×dQ α):=[(32,.j S2 (j0 Rt)),(37,.l S1 (l0 k (j0 Rt)) fun _=>[])]
noncomputable def c:Cf:=cn 277 F ⟨Tryz.f277,[8],[],[],[],[(2,1,4),(1,1,5),(4,117440513,5),(9,117440513,5),(21,1,5)],[(9,[.melt true 5 [] 37 true])],[],0⟩ S3 top (fun a=>some a) w bV Tryz.func277
end Go.Bx.fh
namespace Go.Bx.du
def S1:Px:=⟨26,[sd 2 mO,sd 3 T2],[]⟩
def top(Rt:E3 α)(a:tH):Option α:=(cZ.run a).bind fun b=>ite (b !=0) (Rt [] b) ((cH.run a.1).bind fun g=>(Sum.elim (fun h=>(gN.run h.1 a).bind fun c=>ite (eF (1+c.length) 1=true) (Rt ([(wrap .u8 a.1)]++c) 0) none) (Sum.elim (fun i=>(jA.run i.1 a).bind fun d=>ite (eF (1+d.length) 1=true) (Rt ([(wrap .u8 a.1)]++d) 0) none) (Sum.elim (fun j=>(fh.run j.1 a).bind fun f=>ite (eF (1+f.length) 1=true) (Rt ([(wrap .u8 a.1)]++f) 0) none) (Sum.elim (fun k=>none) (fun e=>e.elim))))) g)
def run:=top (fun a b=>some (a,b,()))
def F:Fn:=fm [jI] [mO,T2] run
noncomputable def c:Cf:=cn 59 F ⟨Tryz.f59,[],[cZ.c,gN.c,jA.c,fh.c],[cH.s],[(15,27)],[(2,3,2)],[(2,[.dat true 2 []])],[25],0⟩ S1 (fun _=>top) ri e0 bV Tryz.func59
end Go.Bx.du
namespace Go.Bx.aF
def S1:Px:=⟨102,[sd 2 mO,sd 3 T2],[]⟩
def S2:Px:=⟨102,[sd 5 .str],[]⟩
def j0(Rt:E3 α):gh α:=fun a=>Rt a 0
def S3:Px:=⟨102,[sd 5 .str,sd 89 uX,sd 90 T2,sd 91 T2],[]⟩
def aR(Nx:N2 α)(Xt1:gh α):N2 α:=fun c b d a=>ite (decide (a<d)) (ite (0<=a/\a<(b.length:Int)) (ite (ble (c.length+(aA (b.getD a.toNat Ci) 0 20).length) 9223372036854775807=true) (Nx (c++(aA (b.getD a.toNat Ci) 0 20)) b d (wrap .i64 (a+1))) none) none) (Xt1 c)
def l0(k:Nat)(Xt1:gh α):Nat->N2 α
 |0=>kz (S:=S3)
 |n+1=>aR (l0 k Xt1 n) Xt1
def top(k:Nat)(Rt:E3 α)(a:tH):Option α:=(ak.run a).bind fun m=>ite (m !=0) (Rt [] m) ((aD.run (wrap .u64 a.1) 1).bind fun d=>ite (a.1==2) ((bd.run a.2.2.2.2.2.2.2.2.1).bind fun i=>(aD.run (wrap .u64 a.2.2.2.2.1) 2).bind fun e=>ite (ble ((aA a.2.2.2.1 0 32).length+e.length) 9223372036854775807=true) ((aD.run (wrap .u64 a.2.2.2.2.2.2.2.1) 1).bind fun g=>ite (ble (((aA a.2.2.2.1 0 32)++e).length+g.length) 9223372036854775807=true) (ite (ble ((((aA a.2.2.2.1 0 32)++e)++g).length+(aA i 0 32).length) 9223372036854775807=true) (ite (ble (d.length+((((aA a.2.2.2.1 0 32)++e)++g)++(aA i 0 32)).length) 9223372036854775807=true) (j0 Rt (d++((((aA a.2.2.2.1 0 32)++e)++g)++(aA i 0 32)))) none) none) none) none) (ite (a.1==4) ((aD.run (wrap .u64 a.2.2.2.2.2.2.2.2.2.2.1) 4).bind fun j=>(aD.run (wrap .u64 (a.2.2.2.2.2.2.2.2.2.2.2.1.length:Int)) 1).bind fun l=>ite (ble (j.length+l.length) 9223372036854775807=true) (ite (ble (d.length+(j++l).length) 9223372036854775807=true) (l0 k (j0 Rt) k (d++(j++l)) a.2.2.2.2.2.2.2.2.2.2.2.1 (a.2.2.2.2.2.2.2.2.2.2.2.1.length:Int) 0) none) none) ((fv.run a.2.1).bind fun b=>ite (ble (b.length+(aA a.2.2.2.1 0 32).length) 9223372036854775807=true) ((aD.run (wrap .u64 a.2.2.2.2.1) 2).bind fun c=>ite (ble ((b++(aA a.2.2.2.1 0 32)).length+c.length) 9223372036854775807=true) (ite (ble (((b++(aA a.2.2.2.1 0 32))++c).length+(aA a.2.2.2.2.2.1 0 32).length) 9223372036854775807=true) ((aD.run (wrap .u64 a.2.2.2.2.2.2.1) 2).bind fun f=>ite (ble ((((b++(aA a.2.2.2.1 0 32))++c)++(aA a.2.2.2.2.2.1 0 32)).length+f.length) 9223372036854775807=true) ((fv.run a.2.2.1).bind fun h=>ite (ble (((((b++(aA a.2.2.2.1 0 32))++c)++(aA a.2.2.2.2.2.1 0 32))++f).length+h.length) 9223372036854775807=true) (ite (ble ((((((b++(aA a.2.2.2.1 0 32))++c)++(aA a.2.2.2.2.2.1 0 32))++f)++h).length+a.2.2.2.2.2.2.2.2.2.1.length) 9223372036854775807=true) (ite (ble (d.length+((((((b++(aA a.2.2.2.1 0 32))++c)++(aA a.2.2.2.2.2.1 0 32))++f)++h)++a.2.2.2.2.2.2.2.2.2.1).length) 9223372036854775807=true) (j0 Rt (d++((((((b++(aA a.2.2.2.1 0 32))++c)++(aA a.2.2.2.2.2.1 0 32))++f)++h)++a.2.2.2.2.2.2.2.2.2.1))) none) none) none) none) none) none) none)))
def run:=top fuel (fun a b=>some (a,b,()))
def F:Fn:=fm [jI] [mO,T2] run
def w(k:Nat)(Rt:K S1 α):List (Nat×dQ α):=[(72,.j S2 (j0 Rt)),(157,.l S3 (l0 k (j0 Rt)) fun _=>[])]
noncomputable def c:Cf:=cn 86 F ⟨Tryz.f86,[18],[fv.c,bd.c,ak.c,aD.c],[],[],[(2,3,2),(1,1,5),(4,1,5),(7,135399691796838467567091713,5),(39,135399691796838467567091713,5),(51,1,5)],[(2,[.dat true 2 []])],[],0⟩ S1 top ri w bV Tryz.func86
end Go.Bx.aF
namespace Go.Bx.k8
def S1:Px:=⟨9,[sr 2],[se 2 i7 (XD),sz 6 rS 0]⟩
def top(Rt:VP α)(a:FE):Option α:=ite (eF (0+a.2.2.2.2.2.2.1.length) 1=true) (Rt a.1 a.2.1 a.2.2.1 a.2.2.2.1 a.2.2.2.2.1 a.2.2.2.2.2.1 a.2.2.2.2.2.2.1) none
def run:=top (fun a b c d e f g=>some (a,b,c,d,e,f,g,()))
def F:Fn:=fo [i7] i7 run
noncomputable def c:Cf:=cn 46 F ⟨Tryz.f46,[],[],[],[],[(2,1,2)],[],[6],0⟩ S1 (fun _=>top) (fun a b d e f g h=>some (a,b,d,e,f,g,h,())) e0 bV Tryz.func46
end Go.Bx.k8
namespace Go.Bx.bM
def S1:Px:=⟨68,[sr 1,sr 2,(3,.app 27 0),sd 13 mi,sd 14 T2,sd 15 T2],[sc 1 fT,se 2 fT (xi),sz 27 jq 0]⟩
def S2:Px:=⟨68,[sr 1,sr 2,(3,.app 27 0)],[sc 1 fT,se 2 fT (xi),sz 27 jq 0]⟩
def aR(Nx:LD α)(Xt0:LF α):LD α:=fun b d a e f g h i c=>ite (decide (a<d)) (ite (0<=a/\a<(b.length:Int)) (ite (eF (0+(b.getD a.toNat (0,[],0,())).2.1.length) 20=true) (ite (eF (c.length+1) 40=true) (Nx b d (wrap .i64 (a+1)) e f g h i (c++[((b.getD a.toNat (0,[],0,())).1,(b.getD a.toNat (0,[],0,())).2.1,(b.getD a.toNat (0,[],0,())).2.2.1,())])) none) none) none) (Xt0 e f g h i c)
def l0(k:Nat)(Xt0:LF α):Nat->LD α
 |0=>kz (S:=S1)
 |n+1=>aR (l0 k Xt0 n) Xt0
def S3:Px:=⟨68,[sr 1,sr 2,(3,.app 27 0),(6,.app 46 0),sd 30 tK,sd 31 T2,sd 32 T2],[sc 1 fT,se 2 fT (xi),sz 27 jq 0,sz 46 lV 0]⟩
def S4:Px:=⟨68,[sr 1,sr 2,(3,.app 27 0),(6,.app 46 0)],[sc 1 fT,se 2 fT (xi),sz 27 jq 0,sz 46 lV 0]⟩
def ly(Nx:LG α)(Xt2:LH α):LG α:=fun b d a e f g h i j c=>ite (decide (a<d)) (ite (0<=a/\a<(b.length:Int)) (ite (eF (0+(b.getD a.toNat iX).2.2.2.1.2.1.length) 64=true) (ite (eF (c.length+1) 104=true) (Nx b d (wrap .i64 (a+1)) e f g h i j (c++[((b.getD a.toNat iX).1,(b.getD a.toNat iX).2.1,(b.getD a.toNat iX).2.2.1,((b.getD a.toNat iX).2.2.2.1.1,(b.getD a.toNat iX).2.2.2.1.2.1,()),())])) none) none) none) (Xt2 e f g h i j c)
def l1(k:Nat)(Xt2:LH α):Nat->LG α
 |0=>kz (S:=S3)
 |n+1=>ly (l1 k Xt2 n) Xt2
def S5:Px:=⟨68,[sr 1,sr 2,(3,.app 27 0),(6,.app 46 0),(9,.app 59 0),sd 49 uY,sd 50 T2,sd 51 T2],[sc 1 fT,se 2 fT (xi),sz 27 jq 0,sz 46 lV 0,sz 59 i7 0]⟩
def S6:Px:=⟨68,[sr 1,sr 2,(3,.app 27 0),(6,.app 46 0),(9,.app 59 0)],[sc 1 fT,se 2 fT (xi),sz 27 jq 0,sz 46 lV 0,sz 59 i7 0]⟩
def vw(Nx:LI α)(Xt4:LJ α):LI α:=fun b d a e f g h i j k c=>ite (decide (a<d)) (ite (0<=a/\a<(b.length:Int)) ((k8.run (b.getD a.toNat tG)).bind fun l=>ite (eF (c.length+1) 96=true) (Nx b d (wrap .i64 (a+1)) e f g h i j k (c++[l])) none) none) (Xt4 e f g h i j k c)
def l2(k:Nat)(Xt4:LJ α):Nat->LI α
 |0=>kz (S:=S5)
 |n+1=>vw (l2 k Xt4 n) Xt4
def S7:Px:=⟨68,[sr 2],[se 2 fT (TE),sz 27 jq 0,sz 46 lV 0,sz 59 i7 0]⟩
def j2(Rt:GL α):LJ α:=fun a e f g h b c d=>Rt a.1 a.2.1 a.2.2.2.2.1 a.2.2.2.2.2.1 b c d
def j1(k:Nat)(Rt:GL α):LH α:=fun a b c d e f g=>l2 k (j2 Rt) k a.2.2.2.2.2.2.1 (a.2.2.2.2.2.2.1.length:Int) 0 a b c d e f g []
def j0(k:Nat)(Rt:GL α):LF α:=fun a b c d e f=>l1 k (j1 k Rt) k a.2.2.2.1 (a.2.2.2.1.length:Int) 0 a b c d e f []
def top(k:Nat)(Rt:GL α)(a:pJ):Option α:=l0 k (j0 k Rt) k a.2.2.1 (a.2.2.1.length:Int) 0 a 0 0 [[0,0,0,0],[0,0,0,0],[0,0,0,0]] 0 []
def run:=top fuel (fun a b c d e f g=>some (a,b,c,d,a,b,c,d,e,f,g,()))
def Sp:Spec:=tE [hD fT] [] [fT] (TE) [(2,hC fT (TE) false),(27,hB jq 0 true),(46,hB lV 0 true),(59,hB i7 0 true)] [T2,T2,su,T2,T2,T2,su,T2,mi,tK,uY] run
def w(k:Nat)(Rt:K S7 α):List (Nat×dQ α):=[(88,.j S6 (j2 Rt)),(205,.l S5 (l2 k (j2 Rt)) fun _=>[]),(64,.j S4 (j1 k Rt)),(121,.l S3 (l1 k (j1 k Rt)) fun _=>[]),(36,.j S2 (j0 k Rt)),(37,.l S1 (l0 k (j0 k Rt)) fun _=>[])]
noncomputable def s:Sf:=sn 19 Sp ⟨Tryz.f19,[9,16,22],[k8.c],[],[],[(2,1,2),(13,295,1),(16,1970324836974887,1),(7,39,1),(10,3758096423,1),(1,7,1),(4,28679,1),(9,28679,1),(24,7,1),(30,3758096423,1),(45,39,1),(51,1970324836974887,1),(63,295,1)],[(9,[.melt true 3 [] 27 true]),(30,[.melt true 6 [] 46 true]),(51,[.melt true 9 [] 59 true])],[22,40],0⟩ S7 top (fun a b d e f g h=>some (a,b,d,e,a,b,d,e,f,g,h,())) w bV Tryz.func19
end Go.Bx.bM
namespace Go.Bx.bF
def S1:Px:=⟨49,[sr 0,sd 2 T2,st 4 8,sd 13 T2,sd 14 T2],[se 0 pw (rX),sz 1 jq 1,sb 2 lV 1,sz 3 i7 1,sc 8 T9]⟩
def S2:Px:=⟨49,[(6,.ref 2 1 [.idx 0])],[se 0 pw (rX),sz 1 jq 1,sb 2 lV 1,sz 3 i7 1]⟩
def S3:Px:=⟨49,[],[se 0 pw (rX),sz 1 jq 1,sb 2 lV 1,sz 3 i7 1]⟩
def aR(Nx:NA α)(Rt:uE α)(Xt0:Dl α):NA α:=fun k l a c d e f g h b i j=>ite (decide (a<l)) (ite (0<=a/\a<(b.length:Int)) (cond (decide (0<=a/\a<(b.length:Int))|| !((az T9 (b.getD a.toNat iX).1 j)==true)) (ite (cond (az T9 (b.getD a.toNat iX).1 j) ((b.getD a.toNat iX).2.1==k) false) (ite (0<=a/\a<(b.length:Int)) (Rt a c d e f g h b i) none) (Nx k l (wrap .i64 (a+1)) c d e f g h b i j)) none) none) (Xt0 c d e f g h b i)
def l0(k:Nat)(Rt:uE α)(Xt0:Dl α):Nat->NA α
 |0=>kz (S:=S1)
 |n+1=>aR (l0 k Rt Xt0 n) Rt Xt0
def S4:Px:=⟨49,[(6,.nilp)],[se 0 pw (rX),sz 1 jq 1,sb 2 lV 1,sz 3 i7 1]⟩
def j0(Rt1:Dl α):Dl α:=fun a b c d e f g h=>Rt1 a b c d e f g h
def top(k:Nat)(Rt0:uE α)(Rt1:Dl α)(b:D0)(c d e:Int)(f:D1)(g:Int)(h:D3)(i:D8)(a:rR)(j:xh):Option α:=l0 k Rt0 (j0 Rt1) k c (a.length:Int) 0 d e f g h i a j b
def a0:uE (WE⊕(WD⊕(Empty))):=fun x6i0 a b c d e f g h=>some (.inl (x6i0,a,b,c,d,e,f,g,h,()))
def a1:Dl (WE⊕(WD⊕(Empty))):=fun a b c d e f g h=>some (.inr (.inl (a,b,c,d,e,f,g,h,())))
def run:=top fuel a0 a1
def Sp:oK:=WS [.ref 0 0 [],hD T9,hD T2] [(0,hC pw (HO) false),(1,hB jq 0 true),(2,hB lV 0 false),(3,hB i7 0 true)] [T9,T2,T2,T2,su,T2,T6,mi,tK,uY] [⟨.ref 2 1 [.idx 0],[(0,hC pw (rX) false),(1,hB jq 1 true),(2,hB lV 1 false),(3,hB i7 1 true)],tu [T2,T2,T2,su,T2,T6,mi,tK,uY]⟩,⟨.nilp,[(0,hC pw (rX) false),(1,hB jq 1 true),(2,hB lV 1 false),(3,hB i7 1 true)],tu [T2,T2,su,T2,T6,mi,tK,uY]⟩] run
def w(k:Nat)(Rt0:K S2 α)(Rt1:K S4 α):List (Nat×dQ α):=[(32,.j S3 (j0 Rt1)),(25,.l S1 (l0 k Rt0 (j0 Rt1)) fun _=>[])]
noncomputable def s:Sf:=sa 22 Sp ⟨Tryz.f22,[8],[],[],[],[(2,1,6),(1,0,0),(4,24597,0),(6,24597,0),(21,0,0)],[],[],4⟩ (fun k=>top k a0 a1) [⟨S2,a0⟩,⟨S4,a1⟩] (fun k=>w k a0 a1) bV Tryz.func22
end Go.Bx.bF
namespace Go.Bx.bK
def S1:Px:=⟨29,[sd 2 T2,sr 4,sd 10 tK,sd 11 T2,sd 12 T2],[sc 4 T9]⟩
def S2:Px:=⟨29,[sd 6 T2],[]⟩
def S3:Px:=⟨29,[],[]⟩
def aR(Nx:NZ α)(Rt:gf α)(Xt0:Option α):NZ α:=fun c b d a e=>ite (decide (a<d)) (ite (0<=a/\a<(b.length:Int)) (ite (cond (az T9 (b.getD a.toNat iX).1 e) ((b.getD a.toNat iX).2.1==c) false) (Rt a) (Nx c b d (wrap .i64 (a+1)) e)) none) (Xt0)
def l0(k:Nat)(Rt:gf α)(Xt0:Option α):Nat->NZ α
 |0=>kz (S:=S1)
 |n+1=>aR (l0 k Rt Xt0 n) Rt Xt0
def j0(Rt:gf α):Option α:=Rt (-1)
def top(k:Nat)(Rt:gf α)(a:pJ)(b:D0)(c:Int):Option α:=l0 k Rt (j0 Rt) k c a.2.2.2.1 (a.2.2.2.1.length:Int) 0 b
def run:=top fuel (fun a=>some a)
def F:Fn:=fo [fT,T9,T2] T2 run
def w(k:Nat)(Rt:K S2 α):List (Nat×dQ α):=[(32,.j S3 (j0 Rt)),(25,.l S1 (l0 k Rt (j0 Rt)) fun _=>[])]
noncomputable def c:Cf:=cn 31 F ⟨Tryz.f31,[8],[],[],[],[(2,1,6),(1,0,0),(4,1797,2),(6,1797,2),(21,0,0)],[],[],0⟩ S2 top (fun a=>some a) w bV Tryz.func31
end Go.Bx.bK
namespace Go.Bx.dJ
def S1:Px:=⟨64,[sd 4 T2],[se 0 pw (rX),sz 1 jq 1,sb 2 lV 1,sz 3 i7 1]⟩
def top(Rt:uE α)(j:Int)(k l m:D0)(n:Int)(o:D0)(p q:Int)(r s:D0)(t:Int)(u:D1)(a c:Int)(e:D1)(b:Int)(f:D3)(g:D8)(h:rR)(d:xh):Option α:=(du.run (j,k,l,m,n,o,p,q,r,s,t,u,())).bind fun i=>ite (i.2.1 !=0) (Rt i.2.1 a c e b f g h d) (ite (b==256) (Rt 9 a c e b f g h d) ((eM.run a).bind fun v=>ite (eF (d.length+1) 96=true) (Rt 0 a c e (wrap .i64 (b+1)) f g h (d++[(c,0,a,v,b,1,i.1,())])) none))
def run:=top (fun a b c d e f g h i=>some (a,b,c,d,e,f,g,h,i,()))
def Sp:Spec:=tE [.ref 0 0 [],Ws] [(0,hC pw (HO) false),(1,hB jq 0 true),(2,hB lV 0 false),(3,hB i7 0 true)] [T2,T1,T1,T9,T2,T9,T2,T2,.str,mO,T2,uX,T2,T2,su,T2,T6,mi,tK,uY] (hD T2) [(0,hC pw (rX) false),(1,hB jq 1 true),(2,hB lV 1 false),(3,hB i7 1 true)] [T2,T2,T2,su,T2,T6,mi,tK,uY] run
noncomputable def s:Sf:=sn 23 Sp ⟨Tryz.f23,[],[eM.c,du.c],[],[],[(2,1,4)],[],[],4⟩ S1 (fun _=>top) ri e0 bV Tryz.func23
end Go.Bx.dJ
namespace Go.Bx.gq
def S1:Px:=⟨44,[sr 4,sd 5 T2],[sc 4 fT]⟩
def top(Rt:sQ α)(a:pJ)(c:tH):Option α:=(aF.run c).bind fun b=>ite (b.2.1 !=0) (Rt b.2.1 a) (ite (decide (a.2.2.2.2.2.1>=256)) (Rt 9 a) (ite (eF (0+a.2.2.2.2.2.2.1.length) 96=true) ((dR.run a.1).bind fun d=>ite (eF (a.2.2.2.2.2.2.1.length+1) 96=true) (Rt 0 (a.1,a.2.1,a.2.2.1,a.2.2.2.1,a.2.2.2.2.1,(wrap .i64 (a.2.2.2.2.2.1+1)),(a.2.2.2.2.2.2.1++[(a.2.1,0,a.1,d,a.2.2.2.2.2.1,1,b.1,())]),())) none) none))
def run:=top (fun a b=>some (b,a,()))
def F:Fn:=fm [fT,jI] [fT,T2] run
noncomputable def c:Cf:=cn 32 F ⟨Tryz.f32,[],[dR.c,aF.c],[],[],[(2,3,4)],[(2,[.dat false 4 []])],[24],0⟩ S1 (fun _=>top) (fun a b=>some (b,a,())) e0 bV Tryz.func32
end Go.Bx.gq
namespace Go.Bx.gJ
def S1:Px:=⟨30,[sr 2,sr 3,sd 10 R4,sd 11 T2,sd 12 T2],[sc 2 lA,sc 3 T9]⟩
def S2:Px:=⟨30,[sd 4 T2,sd 5 .bool],[]⟩
def S3:Px:=⟨30,[sr 2],[sc 2 lA]⟩
def aR(Nx:LB α)(Rt:Ot α)(Xt0:SL α):LB α:=fun b c a d e=>ite (decide (a<c)) (ite (0<=a/\a<(b.length:Int)) ((gV.run (aA (b.getD a.toNat HS).1 0 32) (aA e 0 32)).bind fun f=>ite (decide (f>=0)) (Rt a (f==0)) (Nx b c (wrap .i64 (a+1)) d e)) none) (Xt0 d)
def l0(k:Nat)(Rt:Ot α)(Xt0:SL α):Nat->LB α
 |0=>kz (S:=S1)
 |n+1=>aR (l0 k Rt Xt0 n) Rt Xt0
def j0(Rt:Ot α):SL α:=fun a=>Rt (a.2.1.length:Int) false
def top(k:Nat)(Rt:Ot α)(a:rH)(b:D0):Option α:=l0 k Rt (j0 Rt) k a.2.1 (a.2.1.length:Int) 0 a b
def run:=top fuel (fun a b=>some (a,b,()))
def F:Fn:=fm [lA,T9] [T2,.bool] run
def w(k:Nat)(Rt:K S2 α):List (Nat×dQ α):=[(36,.j S3 (j0 Rt)),(25,.l S1 (l0 k Rt (j0 Rt)) fun _=>[])]
noncomputable def c:Cf:=cn 167 F ⟨Tryz.f167,[9],[gV.c],[],[],[(2,3,4),(1,1,2),(4,1795,2),(6,1795,2),(24,1,2)],[],[],0⟩ S2 top ri w bV Tryz.func167
end Go.Bx.gJ
namespace Go.Bx.nc
def S1:Px:=⟨21,[sr 4],[sc 4 T1]⟩
def top(Rt:gh α)(b:rH)(c:D0):Option α:=(gJ.run b c).bind fun a=>ite a.2.1 (ite (0<=a.1/\a.1<(b.2.1.length:Int)) (Rt (b.2.1.getD a.1.toNat HS).2.1) none) (Rt [0,0,0,0])
def run:=top (fun a=>some a)
def F:Fn:=fo [lA,T9] T1 run
noncomputable def c:Cf:=cn 106 F ⟨Tryz.f106,[],[gJ.c],[],[],[(2,1,4)],[],[],0⟩ S1 (fun _=>top) (fun a=>some a) e0 bV Tryz.func106
end Go.Bx.nc
namespace Go.Bx.jc
def S1:Px:=⟨42,[sr 3,sr 6,sd 7 T2,sd 8 .bool,(9,.app 21 0)],[sc 3 lA,se 6 lA (TR),sz 21 MC 0]⟩
def S2:Px:=⟨42,[sr 3,sr 6,sd 7 T2,(9,.app 21 0)],[sc 3 lA,se 6 lA (TR),sz 21 MC 0]⟩
def S3:Px:=⟨42,[sr 6],[se 6 lA (Wp),sz 21 MC 0]⟩
def j1(Rt:LM α):VU α:=fun b a d c=>ite (0<=b/\b<=(a.2.1.length:Int)/\(a.2.1.length:Int)<=(a.2.1.length:Int)) (ite (eF (c.length+(aA a.2.1 b (a.2.1.length:Int)).length) 64=true) (Rt a.1 (c++(aA a.2.1 b (a.2.1.length:Int)))) none) none
def j0(Rt:LM α):VV α:=fun a e b c d=>ite e (j1 Rt (wrap .i64 (a+1)) b c d) (j1 Rt a b c d)
def top(Rt:LM α)(b:rH)(c d:D0):Option α:=(gJ.run b c).bind fun a=>ite (0<=(0:Int)/\(0:Int)<=a.1/\a.1<=(b.2.1.length:Int)) (ite (eF (0+(aA b.2.1 0 a.1).length) 64=true) (ite (not (az T1 d [0,0,0,0])) (ite (eF ((aA b.2.1 0 a.1).length+1) 64=true) (j0 Rt a.1 a.2.1 b [0,0,0,0] ((aA b.2.1 0 a.1)++[(c,d,())])) none) (j0 Rt a.1 a.2.1 b [0,0,0,0] (aA b.2.1 0 a.1))) none) none
def run:=top (fun a b=>some (a,b,()))
def F:Fn:=fo [lA,T9,T1] lA run
def w(k:Nat)(Rt:K S3 α):List (Nat×dQ α):=[(32,.j S2 (j1 Rt)),(24,.j S1 (j0 Rt))]
noncomputable def c:Cf:=cn 107 F ⟨Tryz.f107,[6,8],[gJ.c],[],[],[(2,1,6),(15,121,3),(21,89,3)],[],[21],0⟩ S3 (fun _=>top) (fun a b=>some (a,b,())) w bV Tryz.func107
end Go.Bx.jc
namespace Go.Bx.bU
def S1:Px:=⟨56,[sr 3,sr 4,sr 5,sr 6,(7,.app 34 0),sd 8 .bool,sd 14 R4,sd 15 T2,sd 16 T2],[sc 3 lA,sc 4 T9,sc 5 T1,se 6 lA (TR),sz 34 MC 0]⟩
def S2:Px:=⟨56,[sr 3,sr 4,sr 5,sr 6,(7,.app 34 0),sd 8 .bool,sr 10,sd 14 R4,sd 15 T2,sd 16 T2],[sc 3 lA,sc 4 T9,sc 5 T1,se 6 lA (TR),sc 10 MC,sz 34 MC 0]⟩
def j1(Nx:Dq α):Dq α:=fun a b c d e f g h i=>Nx a b c (wrap .i64 (d+1)) e f g h i
def j0(Nx:Dq α):UE α:=fun c d e f g a h i j b=>ite (not (az T9 j.1 a)) (ite (eF (b.length+1) 64=true) (j1 Nx c d e f g a h i (b++[j])) none) (j1 Nx c d e f g a h i b)
def S3:Px:=⟨56,[sr 3,sr 4,sr 5,sr 6,(7,.app 34 0),sd 8 .bool],[sc 3 lA,sc 4 T9,sc 5 T1,se 6 lA (TR),sz 34 MC 0]⟩
def aR(Nx:Dq α)(Xt0:N6 α):Dq α:=fun d b g a h c e i f=>ite (decide (a<g)) (ite (0<=a/\a<(b.length:Int)) ((if((not d)==true)=true then e9.run (b.getD a.toNat HS).1 c else some false).bind fun j=>ite (cond (not d) (not j) false) (ite (eF (f.length+1) 64=true) (j0 Nx true b g a h c e i (b.getD a.toNat HS) (f++[(c,e,())])) none) (j0 Nx d b g a h c e i (b.getD a.toNat HS) f)) none) (Xt0 d h c e i f)
def l0(k:Nat)(Xt0:N6 α):Nat->Dq α
 |0=>kz (S:=S1)
 |n+1=>aR (l0 k Xt0 n) Xt0
def S4:Px:=⟨56,[sr 3,sr 6,(7,.app 34 0)],[sc 3 lA,se 6 lA (TR),sz 34 MC 0]⟩
def S5:Px:=⟨56,[sr 6],[se 6 lA (Wz),sz 34 MC 0]⟩
def j3(Rt:LM α):UF α:=fun a c b=>Rt a.1 b
def j2(Rt:LM α):N6 α:=fun d b e f c a=>ite (not d) (ite (eF (a.length+1) 64=true) (j3 Rt b c (a++[(e,f,())])) none) (j3 Rt b c a)
def top(k:Nat)(Rt:LM α)(a:rH)(c b:D0):Option α:=(aE.run b).bind fun d=>l0 k (j2 Rt) k d a.2.1 (a.2.1.length:Int) 0 a c b [0,0,0,0] []
def run:=top fuel (fun a b=>some (a,b,()))
def F:Fn:=fo [lA,T9,T1] lA run
def w0(k:Nat)(Nx:K S1 α)(Xt0:K S3 α):List (Nat×dQ α):=[(44,.j S1 (j1 Nx)),(36,.j S2 (j0 Nx))]
def w(k:Nat)(Rt:K S5 α):List (Nat×dQ α):=[(56,.j S4 (j3 Rt)),(48,.j S3 (j2 Rt)),(49,.l S1 (l0 k (j2 Rt)) fun n=>w0 k (l0 k (j2 Rt) n) (j2 Rt))]
noncomputable def c:Cf:=cn 140 F ⟨Tryz.f140,[9,11,12,14],[aE.c,e9.c],[],[],[(2,1,6),(1,63,3),(4,14399,3),(12,14399,3),(24,14527,3),(30,14399,3),(33,63,3),(39,25,3)],[(12,[.melt true 7 [] 34 true])],[],0⟩ S5 top (fun a b=>some (a,b,())) w bV Tryz.func140
end Go.Bx.bU
namespace Go.Bx.cO
def S1:Px:=⟨22,[sr 3,sr 4,sd 8 R4,sd 9 T2,sd 10 T2],[sc 3 T9,sc 4 T1]⟩
def S2:Px:=⟨22,[sr 4],[sc 4 T1]⟩
def aR(Nx:N5 α)(Rt:gh α)(Xt0:gh α):N5 α:=fun b c a d e=>ite (decide (a<c)) (ite (0<=a/\a<(b.length:Int)) (ite (az T9 (b.getD a.toNat HS).1 d) (Rt (b.getD a.toNat HS).2.1) (Nx b c (wrap .i64 (a+1)) d e)) none) (Xt0 e)
def l0(k:Nat)(Rt:gh α)(Xt0:gh α):Nat->N5 α
 |0=>kz (S:=S1)
 |n+1=>aR (l0 k Rt Xt0 n) Rt Xt0
def j0(Rt:gh α):gh α:=fun a=>Rt [0,0,0,0]
def top(k:Nat)(Rt:gh α)(a:rH)(b:D0):Option α:=l0 k Rt (j0 Rt) k a.2.1 (a.2.1.length:Int) 0 b [0,0,0,0]
def run:=top fuel (fun a=>some a)
def F:Fn:=fo [lA,T9] T1 run
def w(k:Nat)(Rt:K S2 α):List (Nat×dQ α):=[(32,.j S2 (j0 Rt)),(25,.l S1 (l0 k Rt (j0 Rt)) fun _=>[])]
noncomputable def c:Cf:=cn 78 F ⟨Tryz.f78,[8],[],[],[],[(2,1,4),(1,1,4),(4,227,3),(6,227,3),(21,1,4)],[],[],0⟩ S2 top (fun a=>some a) w bV Tryz.func78
end Go.Bx.cO
namespace Go.Bx.gZ
def S1:Px:=⟨14,[sr 4,sd 5 .bool],[sc 4 T1]⟩
def top(Rt:HV α)(b c:D0):Option α:=(ay.run b).bind fun d=>(ay.run c).bind fun e=>(aJ.run d e).bind fun f=>(aU.run f).bind fun a=>Rt a.2.1 a.1
def run:=top (fun a b=>some (b,a,()))
def F:Fn:=fm [T1,T1] [T1,.bool] run
noncomputable def c:Cf:=cn 191 F ⟨Tryz.f191,[],[aJ.c,ay.c,aU.c],[],[],[(2,3,4)],[],[],0⟩ S1 (fun _=>top) (fun a b=>some (b,a,())) e0 bV Tryz.func191
end Go.Bx.gZ
namespace Go.Bx.cV
def S1:Px:=⟨30,[sr 4,sd 5 .bool],[sc 4 T1]⟩
def top(Rt:HV α)(c d:D0):Option α:=(ay.run c).bind fun a=>(ay.run d).bind fun b=>(bc.run a b).bind fun e=>ite (decide (e>=0)) ((au.run a b).bind fun f=>(cG.run f).bind fun g=>Rt false g) ((aJ.run a [0,0,0,0,0,0,0,0,1]).bind fun h=>(au.run h b).bind fun i=>(cG.run i).bind fun j=>Rt true j)
def run:=top (fun a b=>some (b,a,()))
def F:Fn:=fm [T1,T1] [T1,.bool] run
noncomputable def c:Cf:=cn 139 F ⟨Tryz.f139,[],[aJ.c,ay.c,bc.c,cG.c,au.c],[],[],[(2,3,4)],[],[],0⟩ S1 (fun _=>top) (fun a b=>some (b,a,())) e0 bV Tryz.func139
end Go.Bx.cV
namespace Go.Bx.lJ
def S1:Px:=⟨10,[sr 2,sd 3 T2],[sc 2 lA]⟩
def top(Rt:IG α)(a:rH):Option α:=ite (decide ((a.2.1.length:Int)>40)) (Rt 9 ([0,0,0,0],[],())) (Rt 0 a)
def run:=top (fun a b=>some (b,a,()))
def F:Fn:=fm [lA] [lA,T2] run
noncomputable def c:Cf:=cn 165 F ⟨Tryz.f165,[],[],[],[],[(2,3,2)],[(2,[.dat false 2 []])],[],0⟩ S1 (fun _=>top) (fun a b=>some (b,a,())) e0 bV Tryz.func165
end Go.Bx.lJ
namespace Go.Bx.jv
def S1:Px:=⟨46,[sr 6,sd 7 T2],[sc 6 lA]⟩
def top(Rt:IG α)(a:rH)(b c:D0):Option α:=(cY.run a).bind fun d=>ite (d !=0) (Rt d ([0,0,0,0],[],())) ((gb.run a.1 c).bind fun e=>ite e.2.1 (Rt 13 ([0,0,0,0],[],())) ((nc.run a b).bind fun g=>(gb.run g c).bind fun h=>(jc.run a b h.1).bind fun i=>(lJ.run (e.1,i.2)).bind fun f=>Rt f.2.1 f.1))
def run:=top (fun a b=>some (b,a,()))
def F:Fn:=fm [lA,T9,T1] [lA,T2] run
noncomputable def c:Cf:=cn 104 F ⟨Tryz.f104,[],[cY.c,gb.c,nc.c,jc.c,lJ.c],[],[],[(2,3,6)],[(2,[.dat false 6 []])],[],0⟩ S1 (fun _=>top) (fun a b=>some (b,a,())) e0 bV Tryz.func104
end Go.Bx.jv
namespace Go.Bx.ju
def S1:Px:=⟨40,[sr 6,sd 7 T2],[sc 6 lA]⟩
def top(Rt:IG α)(a:rH)(b c:D0):Option α:=(cY.run a).bind fun d=>ite (d !=0) (Rt d ([0,0,0,0],[],())) ((nc.run a b).bind fun g=>(gE.run g c).bind fun e=>ite e.2.1 (Rt 13 ([0,0,0,0],[],())) ((jc.run a b e.1).bind fun f=>(gE.run f.1 c).bind fun h=>Rt 0 (h.1,f.2)))
def run:=top (fun a b=>some (b,a,()))
def F:Fn:=fm [lA,T9,T1] [lA,T2] run
noncomputable def c:Cf:=cn 51 F ⟨Tryz.f51,[],[cY.c,gE.c,nc.c,jc.c],[],[],[(2,3,6)],[(2,[.dat false 6 []])],[],0⟩ S1 (fun _=>top) (fun a b=>some (b,a,())) e0 bV Tryz.func51
end Go.Bx.ju
namespace Go.Bx.eB
def S1:Px:=⟨49,[sr 6,sd 7 T2],[sc 6 lA]⟩
def top(Rt:IG α)(a:rH)(b c:D0):Option α:=(aS.run a).bind fun d=>ite (d !=0) (Rt d ([0,0,0,0],[],())) ((gZ.run a.1 c).bind fun e=>ite e.2.1 (Rt 13 ([0,0,0,0],[],())) ((cO.run a b).bind fun g=>(gZ.run g c).bind fun h=>(bU.run a b h.1).bind fun f=>ite (decide ((f.2.1.length:Int)>40)) (Rt 9 ([0,0,0,0],[],())) (Rt 0 (e.1,f.2))))
def run:=top (fun a b=>some (b,a,()))
def F:Fn:=fm [lA,T9,T1] [lA,T2] run
noncomputable def c:Cf:=cn 141 F ⟨Tryz.f141,[],[aS.c,cO.c,bU.c,gZ.c],[],[],[(2,3,6)],[(2,[.dat false 6 []])],[],0⟩ S1 (fun _=>top) (fun a b=>some (b,a,())) e0 bV Tryz.func141
end Go.Bx.eB
namespace Go.Bx.fU
def S1:Px:=⟨41,[sr 6,sd 7 T2],[sc 6 lA]⟩
def top(Rt:IG α)(a:rH)(b c:D0):Option α:=(aS.run a).bind fun d=>ite (d !=0) (Rt d ([0,0,0,0],[],())) ((cO.run a b).bind fun f=>(cV.run f c).bind fun e=>ite e.2.1 (Rt 13 ([0,0,0,0],[],())) ((bU.run a b e.1).bind fun g=>(cV.run a.1 c).bind fun h=>Rt 0 (h.1,g.2)))
def run:=top (fun a b=>some (b,a,()))
def F:Fn:=fm [lA,T9,T1] [lA,T2] run
noncomputable def c:Cf:=cn 75 F ⟨Tryz.f75,[],[aS.c,cO.c,cV.c,bU.c],[],[],[(2,3,6)],[(2,[.dat false 6 []])],[],0⟩ S1 (fun _=>top) (fun a b=>some (b,a,())) e0 bV Tryz.func75
end Go.Bx.fU
namespace Go.Bx.cJ
def S1:Px:=⟨38,[sd 4 .bool],[]⟩
def S2:Px:=⟨38,[sr 2,sr 3,sd 22 T2,sd 23 T2],[sc 2 lA,sc 3 lA]⟩
def S3:Px:=⟨38,[],[]⟩
def aR(Nx:Og α)(Rt:eJ α)(Xt0:Option α):Og α:=fun d a b c=>ite (decide (a<d)) (ite (0<=a/\a<(b.2.1.length:Int)) (ite (0<=a/\a<(c.2.1.length:Int)) (ite (not (az MC (b.2.1.getD a.toNat HS) (c.2.1.getD a.toNat HS))) (Rt false) (Nx d (wrap .i64 (a+1)) b c)) none) none) (Xt0)
def l0(k:Nat)(Rt:eJ α)(Xt0:Option α):Nat->Og α
 |0=>kz (S:=S2)
 |n+1=>aR (l0 k Rt Xt0 n) Rt Xt0
def j0(Rt:eJ α):Option α:=Rt true
def top(k:Nat)(Rt:eJ α)(a b:rH):Option α:=ite (cond (not (az T1 a.1 b.1)) true ((a.2.1.length:Int) !=(b.2.1.length:Int))) (Rt false) (l0 k Rt (j0 Rt) k (a.2.1.length:Int) 0 a b)
def run:=top fuel (fun a=>some a)
def F:Fn:=fo [lA,lA] .bool run
def w(k:Nat)(Rt:K S1 α):List (Nat×dQ α):=[(40,.j S3 (j0 Rt)),(49,.l S2 (l0 k Rt (j0 Rt)) fun _=>[])]
noncomputable def c:Cf:=cn 33 F ⟨Tryz.f33,[10],[],[],[],[(2,1,4),(1,0,0),(4,3145731,2),(12,3145731,2),(27,0,0)],[],[],0⟩ S1 top (fun a=>some a) w bV Tryz.func33
end Go.Bx.cJ
namespace Go.Bx.jx
def S1:Px:=⟨29,[sr 8,sd 9 T2],[sc 8 lA]⟩
def top(Rt:IG α)(d:rH)(e f b:D0):Option α:=(ju.run d e b).bind fun a=>ite (a.2.1 !=0) (Rt a.2.1 ([0,0,0,0],[],())) ((jv.run a.1 f b).bind fun c=>Rt c.2.1 c.1)
def run:=top (fun a b=>some (b,a,()))
def F:Fn:=fm [lA,T9,T9,T1] [lA,T2] run
noncomputable def c:Cf:=cn 50 F ⟨Tryz.f50,[],[ju.c,jv.c],[],[],[(2,3,8)],[(2,[.dat false 8 []])],[],0⟩ S1 (fun _=>top) (fun a b=>some (b,a,())) e0 bV Tryz.func50
end Go.Bx.jx
namespace Go.Bx.eT
def S1:Px:=⟨29,[sr 8,sd 9 T2],[sc 8 lA]⟩
def top(Rt:IG α)(d:rH)(e f b:D0):Option α:=(fU.run d e b).bind fun a=>ite (a.2.1 !=0) (Rt a.2.1 ([0,0,0,0],[],())) ((eB.run a.1 f b).bind fun c=>Rt c.2.1 c.1)
def run:=top (fun a b=>some (b,a,()))
def F:Fn:=fm [lA,T9,T9,T1] [lA,T2] run
noncomputable def c:Cf:=cn 76 F ⟨Tryz.f76,[],[fU.c,eB.c],[],[],[(2,3,8)],[(2,[.dat false 8 []])],[],0⟩ S1 (fun _=>top) (fun a b=>some (b,a,())) e0 bV Tryz.func76
end Go.Bx.eT
namespace Go.Bx.aI
def S1:Px:=⟨63,[sd 1 lI,(5,.app 17 0),sd 18 lI,sd 19 T2,sd 20 T2],[sb 17 T4 0]⟩
def S2:Px:=⟨63,[sd 1 lI,(5,.app 17 0),sd 6 T2,sd 7 T4,sd 8 T4,sd 18 lI,sd 19 T2,sd 20 T2,sd 25 lI,sd 26 T2,sd 27 T2],[sb 17 T4 0]⟩
def S3:Px:=⟨63,[sd 1 lI,(5,.app 17 0),sd 6 T2,sd 8 T4,sd 18 lI,sd 19 T2,sd 20 T2],[sb 17 T4 0]⟩
def ly(Nx:ND α)(Xt2:NF α):ND α:=fun g b e f h i j d k a c=>ite (decide (a<k)) (ite (0<=a/\a<(d.length:Int)) (ite (0<=(wrap .i64 (b+a))/\(wrap .i64 (b+a))<(c.length:Int)) (ite (0<=(wrap .i64 (b+a))/\(wrap .i64 (b+a))<(c.length:Int)) (Nx g b e (wrap .u64 (tdiv (wrap .u64 ((wrap .u64 ((wrap .u64 (e*(d.getD a.toNat 0)))+(c.getD (wrap .i64 (b+a)).toNat 0)))+f)) 4294967296)) h i j d k (wrap .i64 (a+1)) (c.set (wrap .i64 (b+a)).toNat (tmod (wrap .u64 ((wrap .u64 ((wrap .u64 (e*(d.getD a.toNat 0)))+(c.getD (wrap .i64 (b+a)).toNat 0)))+f)) 4294967296))) none) none) none) (Xt2 g b f h i j c)
def l1(k:Nat)(Xt2:NF α):Nat->ND α
 |0=>kz (S:=S2)
 |n+1=>ly (l1 k Xt2 n) Xt2
def j1(Nx:qn α):qn α:=fun a b c d e=>Nx a b c (wrap .i64 (d+1)) e
def j0(Nx:qn α):NF α:=fun a b d e f g c=>ite (0<=(wrap .i64 (b+(a.length:Int)))/\(wrap .i64 (b+(a.length:Int)))<(c.length:Int)) (j1 Nx a e f g (c.set (wrap .i64 (b+(a.length:Int))).toNat d)) none
def S4:Px:=⟨63,[(5,.app 17 0)],[sb 17 T4 0]⟩
def aR(k:Nat)(Nx:qn α)(Xt0:gh α):qn α:=fun b c d a e=>ite (decide (a<d)) (ite (0<=a/\a<(c.length:Int)) (l1 k (j0 Nx) k b a (c.getD a.toNat 0) 0 c d a b (b.length:Int) 0 e) none) (Xt0 e)
def l0(k:Nat)(Xt0:gh α):Nat->qn α
 |0=>kz (S:=S1)
 |n+1=>aR k (l0 k Xt0 n) Xt0
def S5:Px:=⟨63,[(4,.app 17 0)],[sb 17 T4 0]⟩
def j2(Rt:gh α):gh α:=fun a=>Rt a
def top(k:Nat)(Rt:gh α)(a b:D0):Option α:=ite (0<=(wrap .i64 ((a.length:Int)+(b.length:Int)))/\id (wrap .i64 ((a.length:Int)+(b.length:Int)))=(wrap .i64 ((a.length:Int)+(b.length:Int)))/\eF (wrap .i64 ((a.length:Int)+(b.length:Int))).toNat 8=true) (l0 k (j2 Rt) k b a (a.length:Int) 0 (replicate (wrap .i64 ((a.length:Int)+(b.length:Int))).toNat 0)) none
def run:=top fuel (fun a=>some a)
def F:Fn:=fo [lI,lI] lI run
def w0(k:Nat)(Nx:K S1 α)(Xt0:K S4 α):List (Nat×dQ α):=[(56,.j S1 (j1 Nx)),(52,.j S3 (j0 Nx)),(85,.l S2 (l1 k (j0 Nx)) fun _=>[])]
def w(k:Nat)(Rt:K S5 α):List (Nat×dQ α):=[(60,.j S4 (j2 Rt)),(37,.l S1 (l0 k (j2 Rt)) fun n=>w0 k (l0 k (j2 Rt) n) (j2 Rt))]
noncomputable def c:Cf:=cn 183 F ⟨Tryz.f183,[13,14,15],[],[],[],[(2,1,4),(1,1,5),(4,917521,1),(7,917681,1),(10,118358257,1),(9,917521,1),(21,118358257,1),(36,917681,1),(39,917521,1),(42,1,5)],[],[],0⟩ S5 top (fun a=>some a) w bV Tryz.func183
end Go.Bx.aI
namespace Go.Bx.jd
def S1:Px:=⟨51,[sd 4 T4,sd 5 T4],[]⟩
def top(Rt:xO α)(a b:Int):Option α:=Rt (wrap .u64 ((wrap .u64 ((wrap .u64 ((fS .u64 a 32)*(fS .u64 b 32)))+(fS .u64 (wrap .u64 ((wrap .u64 ((fS .u64 a 32)*(cS .u64 b 4294967295)))+(fS .u64 (wrap .u64 ((cS .u64 a 4294967295)*(cS .u64 b 4294967295))) 32))) 32)))+(fS .u64 (wrap .u64 ((cS .u64 (wrap .u64 ((wrap .u64 ((fS .u64 a 32)*(cS .u64 b 4294967295)))+(fS .u64 (wrap .u64 ((cS .u64 a 4294967295)*(cS .u64 b 4294967295))) 32))) 4294967295)+(wrap .u64 ((cS .u64 a 4294967295)*(fS .u64 b 32))))) 32))) (wrap .u64 (a*b))
def run:=top (fun a b=>some (a,b,()))
def F:Fn:=fm [T4,T4] [T4,T4] run
noncomputable def c:Cf:=cn 221 F ⟨Tryz.f221,[],[],[],[],[(2,3,4)],[],[],0⟩ S1 (fun _=>top) ri e0 bV Tryz.func221
end Go.Bx.jd
namespace Go.Bx.fq
def S1:Px:=⟨82,[sr 3,sr 4,sr 5,sr 6,sd 15 T1,sd 16 T2],[sc 3 T1,sc 4 T1,sc 5 T1,sc 6 TZ]⟩
def S2:Px:=⟨82,[sr 3,sr 4,sr 5,sr 6,sd 7 T2,sd 8 T4,sd 9 T4,sd 15 T1,sd 16 T2,sd 20 T1,sd 21 T2],[sc 3 T1,sc 4 T1,sc 5 T1,sc 6 TZ]⟩
def S3:Px:=⟨82,[sr 3,sr 4,sr 5,sr 6,sd 7 T2,sd 9 T4,sd 15 T1,sd 16 T2],[sc 3 T1,sc 4 T1,sc 5 T1,sc 6 TZ]⟩
def ly(Nx:SK α)(Xt2:GN α):SK α:=fun b d e f g h a i j k c=>ite (decide (a<4)) (ite (0<=a/\a<(4:Int)) ((jd.run d (h.getD a.toNat 0)).bind fun l=>ite (0<=(wrap .i64 (b+a))/\(wrap .i64 (b+a))<(8:Int)) ((mM.run l.2.1 (c.getD (wrap .i64 (b+a)).toNat 0) 0).bind fun m=>(mM.run m.1 e 0).bind fun n=>ite (0<=(wrap .i64 (b+a))/\(wrap .i64 (b+a))<(8:Int)) (Nx b d (wrap .u64 ((wrap .u64 (l.1+m.2.1))+n.2.1)) f g h (wrap .i64 (a+1)) i j k (c.set (wrap .i64 (b+a)).toNat n.1)) none) none) none) (Xt2 b e f g i j k c)
def l1(k:Nat)(Xt2:GN α):Nat->SK α
 |0=>kz (S:=S2)
 |n+1=>ly (l1 k Xt2 n) Xt2
def j1(Nx:xP α):xP α:=fun a b c d e f=>Nx a (wrap .i64 (b+1)) c d e f
def j0(Nx:xP α):GN α:=fun a b c d e f g h=>ite (0<=(wrap .i64 (a+4))/\(wrap .i64 (a+4))<(8:Int)) (j1 Nx c d e f g (h.set (wrap .i64 (a+4)).toNat b)) none
def S4:Px:=⟨82,[sr 4,sr 5,sr 6],[sc 4 T1,sc 5 T1,sc 6 TZ]⟩
def aR(k:Nat)(Nx:xP α)(Xt0:wG α):xP α:=fun b a c d e f=>ite (decide (a<4)) (ite (0<=a/\a<(4:Int)) (l1 k (j0 Nx) k a (b.getD a.toNat 0) 0 b a c 0 c d e f) none) (Xt0 d e f)
def l0(k:Nat)(Xt0:wG α):Nat->xP α
 |0=>kz (S:=S1)
 |n+1=>aR k (l0 k Xt0 n) Xt0
def S5:Px:=⟨82,[sr 4,sr 5],[sc 4 T1,sc 5 T1]⟩
def j2(Rt:lP α):wG α:=fun b c a=>Rt [(a.getD 0 0),(a.getD 1 0),(a.getD 2 0),(a.getD 3 0)] [(a.getD 4 0),(a.getD 5 0),(a.getD 6 0),(a.getD 7 0)]
def top(k:Nat)(Rt:lP α)(a b:D0):Option α:=l0 k (j2 Rt) k a 0 b [0,0,0,0] [0,0,0,0] [0,0,0,0,0,0,0,0]
def run:=top fuel (fun a b=>some (a,b,()))
def F:Fn:=fm [T1,T1] [T1,T1] run
def w0(k:Nat)(Nx:K S1 α)(Xt0:K S4 α):List (Nat×dQ α):=[(68,.j S1 (j1 Nx)),(64,.j S3 (j0 Nx)),(85,.l S2 (l1 k (j0 Nx)) fun _=>[])]
def w(k:Nat)(Rt:K S5 α):List (Nat×dQ α):=[(72,.j S4 (j2 Rt)),(37,.l S1 (l0 k (j2 Rt)) fun n=>w0 k (l0 k (j2 Rt) n) (j2 Rt))]
noncomputable def c:Cf:=cn 180 F ⟨Tryz.f180,[16,17,18],[mM.c,jd.c],[],[],[(2,3,4),(1,7,4),(4,12303,3),(7,12383,3),(10,405631,3),(9,12303,3),(21,405631,3),(45,12383,3),(48,12303,3),(51,7,4)],[],[],0⟩ S5 top ri w bV Tryz.func180
end Go.Bx.fq
namespace Go.Bx.lG
def S1:Px:=⟨24,[sr 2,sd 3 T2],[sc 2 T1]⟩
def S2:Px:=⟨24,[sr 2,sr 4,sd 13 T2,sd 14 T2],[sc 2 T1,sc 4 T1]⟩
def S3:Px:=⟨24,[sr 2,sr 4],[sc 2 T1,sc 4 T1]⟩
def aR(Nx:zE α)(Xt0:lP α):zE α:=fun a b c d=>ite (decide (b<a)) ((fq.run d [10,0,0,0]).bind fun e=>Nx a (wrap .i64 (b+1)) c e.1) (Xt0 c d)
def l0(k:Nat)(Xt0:lP α):Nat->zE α
 |0=>kz (S:=S2)
 |n+1=>aR (l0 k Xt0 n) Xt0
def j0(Rt:kn α):lP α:=fun b a=>Rt 0 a
def top(k:Nat)(Rt:kn α)(a:Int):Option α:=ite (cond (decide (a<0)) true (decide (a>=78))) (Rt 6 [0,0,0,0]) (l0 k (j0 Rt) k a 0 [0,0,0,0] [1,0,0,0])
def run:=top fuel (fun a b=>some (b,a,()))
def F:Fn:=fm [T2] [T1,T2] run
def w(k:Nat)(Rt:K S1 α):List (Nat×dQ α):=[(36,.j S3 (j0 Rt)),(61,.l S2 (l0 k (j0 Rt)) fun _=>[])]
noncomputable def c:Cf:=cn 168 F ⟨Tryz.f168,[9],[fq.c],[],[],[(2,3,2),(1,5,2),(4,6149,2),(15,6149,2),(24,5,2)],[],[],0⟩ S1 top (fun a b=>some (b,a,())) w bV Tryz.func168
end Go.Bx.lG
namespace Go.Bx.bq
def S1:Px:=⟨60,[sr 2,sd 3 T2],[sc 2 T1]⟩
def S2:Px:=⟨60,[sd 0 .str,sr 2,sd 4 lI,sd 5 T2],[sc 2 T1]⟩
def S3:Px:=⟨60,[sr 2,sd 4 lI],[sc 2 T1]⟩
def aR(Nx:N3 α)(Rt:kn α)(Xt0:lP α):N3 α:=fun b c a d=>ite (decide (a<(b.length:Int))) (ite (0<=a/\a<(b.length:Int)) (cond (decide (0<=a/\a<(b.length:Int))|| !((decide ((b.getD a.toNat 0)<48))==false)) (ite (cond (decide ((b.getD a.toNat 0)<48)) true (decide ((b.getD a.toNat 0)>57))) (Rt 3 [0,0,0,0]) ((aI.run c [10]).bind fun e=>ite (0<=a/\a<(b.length:Int)) ((aJ.run e [(wrap .u64 (wrap .u8 ((b.getD a.toNat 0)-48)))]).bind fun f=>(ct.run f).bind fun g=>Nx b g (wrap .i64 (a+1)) d) none)) none) none) (Xt0 c d)
def l0(k:Nat)(Rt:kn α)(Xt0:lP α):Nat->N3 α
 |0=>kz (S:=S2)
 |n+1=>aR (l0 k Rt Xt0 n) Rt Xt0
def j0(Rt:kn α):lP α:=fun b c=>(aU.run b).bind fun a=>ite a.2.1 (Rt 6 [0,0,0,0]) (Rt 0 a.1)
def top(k:Nat)(Rt:kn α)(a:D0):Option α:=ite (decide ((a.length:Int)>78)) (Rt 1 [0,0,0,0]) (cond (decide (0<=(0:Int)/\(0:Int)<(a.length:Int))|| !((az .str a [])==false)) (ite (cond (az .str a []) true (cond ((a.getD 0 0)==48) (not (az .str a [48])) false)) (Rt 3 [0,0,0,0]) (l0 k Rt (j0 Rt) k a [] 0 [0,0,0,0])) none)
def run:=top fuel (fun a b=>some (b,a,()))
def F:Fn:=fm [.str] [T1,T2] run
def w(k:Nat)(Rt:K S1 α):List (Nat×dQ α):=[(52,.j S3 (j0 Rt)),(85,.l S2 (l0 k Rt (j0 Rt)) fun _=>[])]
noncomputable def c:Cf:=cn 192 F ⟨Tryz.f192,[13],[ct.c,aJ.c,aI.c,aU.c],[],[],[(2,3,2),(1,5,2),(4,53,0),(21,53,0),(36,5,2)],[(21,[.dat true 4 []])],[],0⟩ S1 top (fun a b=>some (b,a,())) w bV Tryz.func192
end Go.Bx.bq
namespace Go.Bx.dL
def S1:Px:=⟨22,[sr 2,sd 3 T2],[sc 2 T1]⟩
def S2:Px:=⟨22,[sr 2,sd 4 .str,sd 12 T2,sd 13 T2],[sc 2 T1]⟩
def S3:Px:=⟨22,[sr 2,sd 4 .str],[sc 2 T1]⟩
def aR(Nx:N4 α)(Xt0:lP α):N4 α:=fun a b c d=>ite (decide (c<b)) (ite (ble (a.length+1) 9223372036854775807=true) (Nx (a++[48]) b (wrap .i64 (c+1)) d) none) (Xt0 a d)
def l0(k:Nat)(Xt0:lP α):Nat->N4 α
 |0=>kz (S:=S2)
 |n+1=>aR (l0 k Xt0 n) Xt0
def j0(Rt:kn α):lP α:=fun b c=>(bq.run b).bind fun a=>Rt a.2.1 a.1
def top(k:Nat)(Rt:kn α)(a:Int):Option α:=ite (cond (decide (a<0)) true (decide (a>77))) (Rt 6 [0,0,0,0]) (l0 k (j0 Rt) k [49] a 0 [0,0,0,0])
def run:=top fuel (fun a b=>some (b,a,()))
def F:Fn:=fm [T2] [T1,T2] run
def w(k:Nat)(Rt:K S1 α):List (Nat×dQ α):=[(36,.j S3 (j0 Rt)),(61,.l S2 (l0 k (j0 Rt)) fun _=>[])]
noncomputable def c:Cf:=cn 142 F ⟨Tryz.f142,[9],[bq.c],[],[],[(2,3,2),(1,5,2),(4,3077,2),(15,3077,2),(24,5,2)],[],[],0⟩ S1 top (fun a b=>some (b,a,())) w bV Tryz.func142
end Go.Bx.dL
namespace Go.Bx.jf
def S1:Px:=⟨17,[sr 2,sd 3 T2],[sc 2 T1]⟩
def top(Rt:kn α)(a:Int):Option α:=ite (cond (decide (a<0)) true (decide (a>=78))) (Rt 6 [0,0,0,0]) ((lG.run (if 0>(wrap .i64 (a-8))then 0 else(wrap .i64 (a-8)))).bind fun b=>Rt b.2.1 b.1)
def run:=top (fun a b=>some (b,a,()))
def F:Fn:=fm [T2] [T1,T2] run
noncomputable def c:Cf:=cn 108 F ⟨Tryz.f108,[],[lG.c],[],[],[(2,3,2)],[],[],0⟩ S1 (fun _=>top) (fun a b=>some (b,a,())) e0 bV Tryz.func108
end Go.Bx.jf
namespace Go.Bx.nI
def S1:Px:=⟨30,[sr 4,sd 5 T2],[sc 4 T1]⟩
def top(Rt:kn α)(c:D0)(d:Int):Option α:=(jf.run d).bind fun a=>ite (a.2.1 !=0) (Rt a.2.1 [0,0,0,0]) ((fq.run c a.1).bind fun b=>ite (not (az T1 b.2.1 [0,0,0,0])) (Rt 13 [0,0,0,0]) (Rt 0 b.1))
def run:=top (fun a b=>some (b,a,()))
def F:Fn:=fm [T1,T2] [T1,T2] run
noncomputable def c:Cf:=cn 118 F ⟨Tryz.f118,[],[jf.c,fq.c],[],[],[(2,3,4)],[],[],0⟩ S1 (fun _=>top) (fun a b=>some (b,a,())) e0 bV Tryz.func118
end Go.Bx.nI
namespace Go.Bx.fE
def S1:Px:=⟨36,[sr 4,sd 5 T2],[sc 4 T1]⟩
def top(Rt:kn α)(c:D0)(a:Int):Option α:=ite (cond (decide (a<0)) true (decide (a>77))) (Rt 6 [0,0,0,0]) ((dL.run (if(wrap .i64 (a-8))>0 then(wrap .i64 (a-8))else 0)).bind fun d=>(ay.run c).bind fun e=>(ay.run d.1).bind fun f=>(aI.run e f).bind fun g=>(aU.run g).bind fun b=>ite b.2.1 (Rt 13 [0,0,0,0]) (Rt 0 b.1))
def run:=top (fun a b=>some (b,a,()))
def F:Fn:=fm [T1,T2] [T1,T2] run
noncomputable def c:Cf:=cn 150 F ⟨Tryz.f150,[],[ay.c,dL.c,aI.c,aU.c],[],[],[(2,3,4)],[],[],0⟩ S1 (fun _=>top) (fun a b=>some (b,a,())) e0 bV Tryz.func150
end Go.Bx.fE
namespace Go.Bx.iL
def S1:Px:=⟨15,[sd 2 T4,sd 3 .bool],[]⟩
def top(Rt:Ot α)(b:D0):Option α:=(ct.run b).bind fun a=>ite ((a.length:Int)==0) (Rt 0 true) (ite (0<=(0:Int)/\(0:Int)<(a.length:Int)) (Rt (a.getD 0 0) ((a.length:Int)==1)) none)
def run:=top (fun a b=>some (a,b,()))
def F:Fn:=fm [lI] [T4,.bool] run
noncomputable def c:Cf:=cn 225 F ⟨Tryz.f225,[],[ct.c],[],[],[(2,3,2)],[],[],0⟩ S1 (fun _=>top) ri e0 bV Tryz.func225
end Go.Bx.iL
namespace Go.Bx.aN
def S1:Px:=⟨96,[sd 0 lI,(4,.app 22 0),sd 6 T4,sd 8 T4,sd 9 T2],[sb 22 T4 0]⟩
def S2:Px:=⟨96,[(4,.app 22 0),sd 8 T4],[sb 22 T4 0]⟩
def aR(Nx:yL α)(Xt0:kn α):yL α:=fun c b d a e=>ite (decide (a>=0)) (ite (0<=a/\a<(c.length:Int)) (ite (b≠0) (ite (b≠0) (ite (0<=a/\a<(e.length:Int)) (Nx c b (tmod (wrap .u64 ((wrap .u64 (d*4294967296))+(c.getD a.toNat 0))) b) (wrap .i64 (a-1)) (e.set a.toNat (wrap .u64 (tdiv (wrap .u64 ((wrap .u64 (d*4294967296))+(c.getD a.toNat 0))) b)))) none) none) none) none) (Xt0 d e)
def l0(k:Nat)(Xt0:kn α):Nat->yL α
 |0=>kz (S:=S1)
 |n+1=>aR (l0 k Xt0 n) Xt0
def S3:Px:=⟨96,[sd 4 lI,sd 5 lI],[]⟩
def j0(Rt:lP α):kn α:=fun a b=>Rt b [a]
def S4:Px:=⟨96,[sd 0 lI,sd 1 lI,(5,hN T4)],[]⟩
def S5:Px:=⟨96,[sd 0 lI,sd 1 lI,(4,.app 51 0),sd 5 lI,sd 10 T2],[sb 51 T4 0]⟩
def S6:Px:=⟨96,[sd 0 lI,sd 1 lI,(4,.app 51 0),(5,.app 66 0),sd 10 T2,sd 11 T4,sd 12 T4],[sb 51 T4 0,sz 66 T4 0]⟩
def S7:Px:=⟨96,[sd 0 lI,sd 1 lI,(4,.app 51 0),(5,.app 66 0),sd 10 T2,sd 11 T4],[sb 51 T4 0,sz 66 T4 0]⟩
def vw(Nx:NG α)(Xt4:NH α):NG α:=fun e c f a b g d=>ite (decide ((wrap .u64 (b-a))>1)) ((aI.run c [(wrap .u64 (tdiv (wrap .u64 (a+b)) 2))]).bind fun h=>(bc.run h d).bind fun i=>ite (decide (i<=0)) (Nx e c f (wrap .u64 (tdiv (wrap .u64 (a+b)) 2)) b g d) (Nx e c f a (wrap .u64 (tdiv (wrap .u64 (a+b)) 2)) g d)) (Xt4 e c f a g d)
def l2(k:Nat)(Xt4:NH α):Nat->NG α
 |0=>kz (S:=S6)
 |n+1=>vw (l2 k Xt4 n) Xt4
def j3(Nx:Dn α):Dn α:=fun a b c d e=>Nx a b c (wrap .i64 (d-1)) e
def j2(Nx:Dn α):NH α:=fun e b a c d f=>ite (0<=a/\a<(d.length:Int)) ((aI.run b [c]).bind fun g=>(au.run f g).bind fun h=>j3 Nx e b h a (d.set a.toNat c)) none
def S8:Px:=⟨96,[(4,.app 51 0),sd 5 lI],[sb 51 T4 0]⟩
def ly(k:Nat)(Nx:Dn α)(Xt2:lP α):Dn α:=fun b f c a d=>ite (decide (a>=0)) (ite (0<=a/\a<(b.length:Int)) ((ct.run c).bind fun e=>ite (eF (1+e.length) 8=true) (l2 k (j2 Nx) k b f a 0 4294967296 d ([(b.getD a.toNat 0)]++e)) none) none) (Xt2 c d)
def l1(k:Nat)(Xt2:lP α):Nat->Dn α
 |0=>kz (S:=S5)
 |n+1=>ly k (l1 k Xt2 n) Xt2
def j4(Rt:lP α):lP α:=fun a b=>Rt b a
def j1(k:Nat)(Rt:lP α):lP α:=fun a b=>ite (0<=(a.length:Int)/\id (a.length:Int)=(a.length:Int)/\eF (a.length:Int).toNat 8=true) (l1 k (j4 Rt) k a b [] (wrap .i64 ((a.length:Int)-1)) (replicate (a.length:Int).toNat 0)) none
def top(k:Nat)(Rt:lP α)(a b:D0):Option α:=(iL.run b).bind fun c=>ite c.2.1 (ite (0<=(a.length:Int)/\id (a.length:Int)=(a.length:Int)/\eF (a.length:Int).toNat 8=true) (l0 k (j0 Rt) k a c.1 0 (wrap .i64 ((a.length:Int)-1)) (replicate (a.length:Int).toNat 0)) none) (j1 k Rt a b)
def run:=top fuel (fun a b=>some (a,b,()))
def F:Fn:=fm [lI,lI] [lI,lI] run
def w1(k:Nat)(Nx:K S5 α)(Xt2:K S8 α):List (Nat×dQ α):=[(60,.j S5 (j3 Nx)),(92,.j S7 (j2 Nx)),(205,.l S6 (l2 k (j2 Nx)) fun _=>[])]
def w(k:Nat)(Rt:K S3 α):List (Nat×dQ α):=[(44,.j S2 (j0 Rt)),(73,.l S1 (l0 k (j0 Rt)) fun _=>[]),(100,.j S8 (j4 Rt)),(157,.l S5 (l1 k (j4 Rt)) fun n=>w1 k (l1 k (j4 Rt) n) (j4 Rt)),(48,.j S4 (j1 k Rt))]
noncomputable def c:Cf:=cn 193 F ⟨Tryz.f193,[11,12,15,23,25],[ct.c,bc.c,aI.c,au.c,iL.c],[],[],[(2,3,4),(7,3,4),(10,1075,0),(13,3123,0),(16,7219,0),(1,17,4),(4,849,0),(18,849,0),(30,17,4),(33,35,0),(39,1075,0),(42,1075,0),(51,7219,0),(66,3123,0),(72,3,4)],[(2,[.dat true 4 [],.dat true 5 []]),(39,[.dat true 5 []])],[66],0⟩ S3 top ri w bV Tryz.func193
end Go.Bx.aN
namespace Go.Bx.eo
def S1:Px:=⟨25,[sd 0 T4,sd 2 T2],[]⟩
def S2:Px:=⟨25,[sd 2 T2],[]⟩
def j2(Rt:gf α):xO α:=fun a b=>ite (0<=(wrap .u8 a)/\(wrap .u8 a)<(256:Int)) (Rt (wrap .i64 (b+(wrap .i64 ([0,1,2,2,3,3,3,3,4,4,4,4,4,4,4,4,5,5,5,5,5,5,5,5,5,5,5,5,5,5,5,5,6,6,6,6,6,6,6,6,6,6,6,6,6,6,6,6,6,6,6,6,6,6,6,6,6,6,6,6,6,6,6,6,7,7,7,7,7,7,7,7,7,7,7,7,7,7,7,7,7,7,7,7,7,7,7,7,7,7,7,7,7,7,7,7,7,7,7,7,7,7,7,7,7,7,7,7,7,7,7,7,7,7,7,7,7,7,7,7,7,7,7,7,7,7,7,7,8,8,8,8,8,8,8,8,8,8,8,8,8,8,8,8,8,8,8,8,8,8,8,8,8,8,8,8,8,8,8,8,8,8,8,8,8,8,8,8,8,8,8,8,8,8,8,8,8,8,8,8,8,8,8,8,8,8,8,8,8,8,8,8,8,8,8,8,8,8,8,8,8,8,8,8,8,8,8,8,8,8,8,8,8,8,8,8,8,8,8,8,8,8,8,8,8,8,8,8,8,8,8,8,8,8,8,8,8,8,8,8,8,8,8,8,8,8,8,8,8,8,8,8,8,8,8,8].getD (wrap .u8 a).toNat 0))))) none
def j1(Rt:gf α):xO α:=fun a b=>ite (decide (a>=256)) (j2 Rt (fS .u64 a 8) (wrap .i64 (b+8))) (j2 Rt a b)
def j0(Rt:gf α):xO α:=fun a b=>ite (decide (a>=65536)) (j1 Rt (fS .u64 a 16) (wrap .i64 (b+16))) (j1 Rt a b)
def top(Rt:gf α)(a:Int):Option α:=ite (decide (a>=4294967296)) (j0 Rt (fS .u64 a 32) 32) (j0 Rt a 0)
def run:=top (fun a=>some a)
def F:Fn:=fo [T4] T2 run
def w(k:Nat)(Rt:K S2 α):List (Nat×dQ α):=[(44,.j S1 (j2 Rt)),(32,.j S1 (j1 Rt)),(20,.j S1 (j0 Rt))]
noncomputable def c:Cf:=cn 212 F ⟨Tryz.f212,[5,8,11],[],[],[],[(2,1,2),(12,5,0),(21,5,0),(30,5,0)],[],[],0⟩ S2 (fun _=>top) (fun a=>some a) w bV Tryz.func212
end Go.Bx.eo
namespace Go.Bx.h9
def S1:Px:=⟨20,[sd 3 T2,sd 6 T1,sd 7 T2],[]⟩
def j0(Nx:NC α):NC α:=fun a b c=>Nx a b (wrap .i64 (c+1))
def S2:Px:=⟨20,[sd 3 T2],[]⟩
def aR(Nx:NC α)(Xt0:gf α):NC α:=fun c b a=>ite (decide (a<4)) (ite (0<=a/\a<(4:Int)) (ite ((b.getD a.toNat 0) !=0) ((eo.run (b.getD a.toNat 0)).bind fun d=>j0 Nx (wrap .i64 ((wrap .i64 (64*a))+d)) b a) (j0 Nx c b a)) none) (Xt0 c)
def l0(k:Nat)(Xt0:gf α):Nat->NC α
 |0=>kz (S:=S1)
 |n+1=>aR (l0 k Xt0 n) Xt0
def S3:Px:=⟨20,[sd 2 T2],[]⟩
def j1(Rt:gf α):gf α:=fun a=>Rt a
def top(k:Nat)(Rt:gf α)(a:D0):Option α:=l0 k (j1 Rt) k 0 a 0
def run:=top fuel (fun a=>some a)
def F:Fn:=fo [T1] T2 run
def w0(k:Nat)(Nx:K S1 α)(Xt0:K S2 α):List (Nat×dQ α):=[(32,.j S1 (j0 Nx))]
def w(k:Nat)(Rt:K S3 α):List (Nat×dQ α):=[(36,.j S2 (j1 Rt)),(37,.l S1 (l0 k (j1 Rt)) fun n=>w0 k (l0 k (j1 Rt) n) (j1 Rt))]
noncomputable def c:Cf:=cn 169 F ⟨Tryz.f169,[8,9],[eo.c],[],[],[(2,1,2),(1,1,3),(4,25,3),(9,25,3),(21,25,3),(24,1,3)],[],[],0⟩ S3 top (fun a=>some a) w bV Tryz.func169
end Go.Bx.h9
namespace Go.Bx.qG
def S1:Px:=⟨13,[sd 4 T4],[]⟩
def top(Rt:gf α)(b:D0)(a:Int):Option α:=ite (0<=(wrap .i64 (tdiv a 64))/\(wrap .i64 (tdiv a 64))<(4:Int)) (ite (0<=(tmod a 64)) (Rt (cS .u64 (fS .u64 (b.getD (wrap .i64 (tdiv a 64)).toNat 0) (tmod a 64)) 1)) none) none
def run:=top (fun a=>some a)
def F:Fn:=fo [T1,T2] T4 run
noncomputable def c:Cf:=cn 170 F ⟨Tryz.f170,[],[],[],[],[(2,1,4)],[],[],0⟩ S1 (fun _=>top) (fun a=>some a) e0 bV Tryz.func170
end Go.Bx.qG
namespace Go.Bx.bZ
def S1:Px:=⟨58,[sr 4,sr 5,sd 6 T2],[sc 4 T1,sc 5 T1]⟩
def S2:Px:=⟨58,[sr 2,sr 3,sr 4,sr 5,sd 7 T2],[sc 2 T1,sc 3 T1,sc 4 T1,sc 5 T1]⟩
def j0(Nx:NI α):NI α:=fun a b c d e=>Nx (wrap .i64 (a-1)) b c d e
def S3:Px:=⟨58,[sr 4,sr 5],[sc 4 T1,sc 5 T1]⟩
def aR(Nx:NI α)(Xt0:lP α):NI α:=fun a e c d f=>ite (decide (a>=0)) ((gb.run f f).bind fun b=>(qG.run e a).bind fun g=>(if(b.2.1==false)=true then cQ.run (b.1.set 0 (jP .u64 (b.1.getD 0 0) g)) c else some 0).bind fun h=>ite (cond b.2.1 true (decide (h>=0))) ((gE.run (b.1.set 0 (jP .u64 (b.1.getD 0 0) g)) c).bind fun i=>ite (0<=(wrap .i64 (tdiv a 64))/\(wrap .i64 (tdiv a 64))<(4:Int)) (ite (0<=(tmod a 64)) (ite (0<=(wrap .i64 (tdiv a 64))/\(wrap .i64 (tdiv a 64))<(4:Int)) (j0 Nx a e c (d.set (wrap .i64 (tdiv a 64)).toNat (jP .u64 (d.getD (wrap .i64 (tdiv a 64)).toNat 0) (fD .u64 1 (tmod a 64)))) i.1) none) none) none) (j0 Nx a e c d (b.1.set 0 (jP .u64 (b.1.getD 0 0) g)))) (Xt0 d f)
def l0(k:Nat)(Xt0:lP α):Nat->NI α
 |0=>kz (S:=S2)
 |n+1=>aR (l0 k Xt0 n) Xt0
def j1(Rt:vv α):lP α:=fun a b=>Rt 0 a b
def top(k:Nat)(Rt:vv α)(a b:D0):Option α:=ite (az T1 b [0,0,0,0]) (Rt 7 [0,0,0,0] [0,0,0,0]) ((h9.run a).bind fun c=>l0 k (j1 Rt) k (wrap .i64 (c-1)) a b [0,0,0,0] [0,0,0,0])
def run:=top fuel (fun a b c=>some (b,c,a,()))
def F:Fn:=fm [T1,T1] [T1,T1,T2] run
def w0(k:Nat)(Nx:K S2 α)(Xt0:K S3 α):List (Nat×dQ α):=[(24,.j S2 (j0 Nx))]
def w(k:Nat)(Rt:K S1 α):List (Nat×dQ α):=[(52,.j S3 (j1 Rt)),(49,.l S2 (l0 k (j1 Rt)) fun n=>w0 k (l0 k (j1 Rt) n) (j1 Rt))]
noncomputable def c:Cf:=cn 109 F ⟨Tryz.f109,[6,13],[cQ.c,gb.c,gE.c,h9.c,qG.c],[],[],[(2,7,4),(1,3,4),(4,47,2),(12,47,2),(15,47,2),(36,3,4)],[],[],0⟩ S1 top (fun a b d=>some (b,d,a,())) w bV Tryz.func109
end Go.Bx.bZ
namespace Go.Bx.cN
def S1:Px:=⟨26,[sr 4,sr 5,sd 6 T2],[sc 4 T1,sc 5 T1]⟩
def top(Rt:vv α)(c a:D0):Option α:=ite (az T1 a [0,0,0,0]) (Rt 7 [0,0,0,0] [0,0,0,0]) ((ay.run c).bind fun d=>(ay.run a).bind fun e=>(aN.run d e).bind fun b=>(cG.run b.1).bind fun f=>(cG.run b.2.1).bind fun g=>Rt 0 f g)
def run:=top (fun a b c=>some (b,c,a,()))
def F:Fn:=fm [T1,T1] [T1,T1,T2] run
noncomputable def c:Cf:=cn 143 F ⟨Tryz.f143,[],[ay.c,cG.c,aN.c],[],[],[(2,7,4)],[],[],0⟩ S1 (fun _=>top) (fun a b d=>some (b,d,a,())) e0 bV Tryz.func143
end Go.Bx.cN
namespace Go.Bx.jl
def S1:Px:=⟨24,[sr 4,sr 5,sd 6 T2],[sc 4 T1,sc 5 T1]⟩
def top(Rt:vv α)(c:D0)(d:Int):Option α:=(jf.run d).bind fun a=>ite (a.2.1 !=0) (Rt a.2.1 [0,0,0,0] [0,0,0,0]) ((bZ.run c a.1).bind fun b=>Rt b.2.2.1 b.1 b.2.1)
def run:=top (fun a b c=>some (b,c,a,()))
def F:Fn:=fm [T1,T2] [T1,T1,T2] run
noncomputable def c:Cf:=cn 53 F ⟨Tryz.f53,[],[jf.c,bZ.c],[],[],[(2,7,4)],[],[],0⟩ S1 (fun _=>top) (fun a b d=>some (b,d,a,())) e0 bV Tryz.func53
end Go.Bx.jl
namespace Go.Bx.d8
def S1:Px:=⟨30,[sr 4,sr 5,sd 6 T2],[sc 4 T1,sc 5 T1]⟩
def top(Rt:vv α)(c:D0)(a:Int):Option α:=ite (cond (decide (a<0)) true (decide (a>77))) (Rt 6 [0,0,0,0] [0,0,0,0]) ((dL.run (if(wrap .i64 (a-8))>0 then(wrap .i64 (a-8))else 0)).bind fun d=>(cN.run c d.1).bind fun b=>Rt b.2.2.1 b.1 b.2.1)
def run:=top (fun a b c=>some (b,c,a,()))
def F:Fn:=fm [T1,T2] [T1,T1,T2] run
noncomputable def c:Cf:=cn 77 F ⟨Tryz.f77,[],[dL.c,cN.c],[],[],[(2,7,4)],[],[],0⟩ S1 (fun _=>top) (fun a b d=>some (b,d,a,())) e0 bV Tryz.func77
end Go.Bx.d8
namespace Go.Bx.kV
def S1:Px:=⟨29,[sr 6,sr 7],[sc 6 T1,sc 7 T1]⟩
def S2:Px:=⟨29,[sr 6],[sc 6 T1]⟩
def j0(Rt:gh α):lP α:=fun b a=>Rt a
def top(Rt:gh α)(c d b:D0):Option α:=(gb.run c d).bind fun a=>(if(a.2.1==false)=true then cQ.run a.1 b else some 0).bind fun e=>ite (cond a.2.1 true (decide (e>=0))) ((gE.run a.1 b).bind fun f=>j0 Rt [0,0,0,0] f.1) (j0 Rt [0,0,0,0] a.1)
def run:=top (fun a=>some a)
def F:Fn:=fo [T1,T1,T1] T1 run
def w(k:Nat)(Rt:K S2 α):List (Nat×dQ α):=[(20,.j S1 (j0 Rt))]
noncomputable def c:Cf:=cn 207 F ⟨Tryz.f207,[5],[cQ.c,gb.c,gE.c],[],[],[(2,1,6),(12,3,6)],[],[],0⟩ S2 (fun _=>top) (fun a=>some a) w bV Tryz.func207
end Go.Bx.kV
namespace Go.Bx.lX
def S1:Px:=⟨23,[sr 6,sr 7],[sc 6 T1,sc 7 T1]⟩
def S2:Px:=⟨23,[sr 6],[sc 6 T1]⟩
def j0(Rt:gh α):lP α:=fun b a=>Rt a
def top(Rt:gh α)(b c d:D0):Option α:=(gE.run b c).bind fun a=>ite a.2.1 ((gb.run a.1 d).bind fun e=>j0 Rt [0,0,0,0] e.1) (j0 Rt [0,0,0,0] a.1)
def run:=top (fun a=>some a)
def F:Fn:=fo [T1,T1,T1] T1 run
def w(k:Nat)(Rt:K S2 α):List (Nat×dQ α):=[(20,.j S1 (j0 Rt))]
noncomputable def c:Cf:=cn 240 F ⟨Tryz.f240,[5],[gb.c,gE.c],[],[],[(2,1,6),(12,3,6)],[],[],0⟩ S2 (fun _=>top) (fun a=>some a) w bV Tryz.func240
end Go.Bx.lX
namespace Go.Bx.dt
def S1:Px:=⟨21,[sd 4 T2],[]⟩
def S2:Px:=⟨21,[sr 2,sd 10 T3,sd 11 T2,sd 12 T2],[sc 2 T1]⟩
def S3:Px:=⟨21,[],[]⟩
def aR(Nx:Qp α)(Rt:gf α)(Xt0:Option α):Qp α:=fun b c a d=>ite (decide (a<c)) (ite (0<=a/\a<(b.length:Int)) ((cQ.run (b.getD a.toNat [0,0,0,0]) d).bind fun e=>ite (decide (e>=0)) (Rt 6) (Nx b c (wrap .i64 (a+1)) d)) none) (Xt0)
def l0(k:Nat)(Rt:gf α)(Xt0:Option α):Nat->Qp α
 |0=>kz (S:=S2)
 |n+1=>aR (l0 k Rt Xt0 n) Rt Xt0
def j0(Rt:gf α):Option α:=Rt 0
def top(k:Nat)(Rt:gf α)(a:D0)(b:D1):Option α:=ite (az T1 a [0,0,0,0]) (Rt 7) (l0 k Rt (j0 Rt) k b (b.length:Int) 0 a)
def run:=top fuel (fun a=>some a)
def F:Fn:=fo [T1,T3] T2 run
def w(k:Nat)(Rt:K S1 α):List (Nat×dQ α):=[(40,.j S3 (j0 Rt)),(49,.l S2 (l0 k Rt (j0 Rt)) fun _=>[])]
noncomputable def c:Cf:=cn 232 F ⟨Tryz.f232,[10],[cQ.c],[],[],[(2,1,4),(1,0,0),(4,1793,2),(12,1793,2),(27,0,0)],[],[],0⟩ S1 top (fun a=>some a) w bV Tryz.func232
end Go.Bx.dt
namespace Go.Bx.cb
def S1:Px:=⟨16,[sr 4],[sc 4 T1]⟩
def top(Rt:gh α)(a b:D0):Option α:=(ay.run b).bind fun c=>(aN.run a c).bind fun d=>(cG.run d.2.1).bind fun e=>Rt e
def run:=top (fun a=>some a)
def F:Fn:=fo [lI,T1] T1 run
noncomputable def c:Cf:=cn 182 F ⟨Tryz.f182,[],[ay.c,cG.c,aN.c],[],[],[(2,1,4)],[],[],0⟩ S1 (fun _=>top) (fun a=>some a) e0 bV Tryz.func182
end Go.Bx.cb
namespace Go.Bx.aO
def S1:Px:=⟨37,[sr 6],[sc 6 T1]⟩
def top(Rt:gh α)(b c a:D0):Option α:=ite (cond ((jP .u64 (jP .u64 (a.getD 1 0) (a.getD 2 0)) (a.getD 3 0))==0) (decide ((a.getD 0 0)<4294967296)) false) (ite ((a.getD 0 0)≠0) (Rt [(tmod (wrap .u64 ((b.getD 0 0)*(c.getD 0 0))) (a.getD 0 0)),0,0,0]) none) ((ay.run b).bind fun d=>(ay.run c).bind fun e=>(aI.run d e).bind fun f=>(cb.run f a).bind fun g=>Rt g)
def run:=top (fun a=>some a)
def F:Fn:=fo [T1,T1,T1] T1 run
noncomputable def c:Cf:=cn 123 F ⟨Tryz.f123,[],[ay.c,cb.c,aI.c],[],[],[(2,1,6)],[],[],0⟩ S1 (fun _=>top) (fun a=>some a) e0 bV Tryz.func123
end Go.Bx.aO
namespace Go.Bx.bH
def S1:Px:=⟨14,[sr 6],[sc 6 T1]⟩
def top(Rt:gh α)(a b c:D0):Option α:=(ay.run a).bind fun d=>(ay.run b).bind fun e=>(aJ.run d e).bind fun f=>(cb.run f c).bind fun g=>Rt g
def run:=top (fun a=>some a)
def F:Fn:=fo [T1,T1,T1] T1 run
noncomputable def c:Cf:=cn 122 F ⟨Tryz.f122,[],[aJ.c,ay.c,cb.c],[],[],[(2,1,6)],[],[],0⟩ S1 (fun _=>top) (fun a=>some a) e0 bV Tryz.func122
end Go.Bx.bH
namespace Go.Bx.aZ
def S1:Px:=⟨15,[sr 4],[sc 4 T1]⟩
def top(Rt:gh α)(a b:D0):Option α:=ite (az T1 a [0,0,0,0]) (Rt a) ((ay.run b).bind fun c=>(ay.run a).bind fun d=>(au.run c d).bind fun e=>(cG.run e).bind fun f=>Rt f)
def run:=top (fun a=>some a)
def F:Fn:=fo [T1,T1] T1 run
noncomputable def c:Cf:=cn 231 F ⟨Tryz.f231,[],[ay.c,cG.c,au.c],[],[],[(2,1,4)],[],[],0⟩ S1 (fun _=>top) (fun a=>some a) e0 bV Tryz.func231
end Go.Bx.aZ
namespace Go.Bx.jT
def S1:Px:=⟨10,[sr 0,sr 1,sd 3 T2],[sc 0 T9,sc 1 T9]⟩
def S2:Px:=⟨10,[sr 0,sr 1],[sc 0 T9,sc 1 T9]⟩
def aR(Nx:vv α)(Xt0:lP α):vv α:=fun a b c=>ite (decide (a<32)) (ite (0<=a/\a<(32:Int)) (Nx (wrap .i64 (a+1)) b (c.set a.toNat 255)) none) (Xt0 b c)
def l0(k:Nat)(Xt0:lP α):Nat->vv α
 |0=>kz (S:=S1)
 |n+1=>aR (l0 k Xt0 n) Xt0
def S3:Px:=⟨10,[sr 0],[sc 0 T9]⟩
def j0(Rt:gh α):lP α:=fun b a=>Rt a
def top(k:Nat)(Rt:gh α):Option α:=l0 k (j0 Rt) k 0 (replicate 32 0) (replicate 32 0)
def run:=top fuel (fun a=>some a)
def F:Fn:=fo [] T9 run
def w(k:Nat)(Rt:K S3 α):List (Nat×dQ α):=[(32,.j S2 (j0 Rt)),(37,.l S1 (l0 k (j0 Rt)) fun _=>[])]
noncomputable def c:Cf:=cn 48 F ⟨Tryz.f48,[8],[],[],[],[(2,1,0),(1,3,0),(4,11,0),(9,11,0),(21,3,0)],[],[],0⟩ S3 top (fun a=>some a) w bV Tryz.func48
end Go.Bx.jT
namespace Go.Bx.fX
def S1:Px:=⟨9,[sr 0,sd 1 .str,sd 2 T2],[sc 0 T9]⟩
def S2:Px:=⟨9,[sr 0,sd 1 .str],[sc 0 T9]⟩
def aR(Nx:Dm α)(Xt0:lP α):Dm α:=fun a b c=>ite (decide (b<32)) (ite (ble (a.length+1) 9223372036854775807=true) (Nx (a++[255]) (wrap .i64 (b+1)) c) none) (Xt0 a c)
def l0(k:Nat)(Xt0:lP α):Nat->Dm α
 |0=>kz (S:=S1)
 |n+1=>aR (l0 k Xt0 n) Xt0
def S3:Px:=⟨9,[sr 0],[sc 0 T9]⟩
def j0(Rt:gh α):lP α:=fun a c=>(bd.run a).bind fun b=>Rt b
def top(k:Nat)(Rt:gh α):Option α:=l0 k (j0 Rt) k [] 0 (replicate 32 0)
def run:=top fuel (fun a=>some a)
def F:Fn:=fo [] T9 run
def w(k:Nat)(Rt:K S3 α):List (Nat×dQ α):=[(28,.j S2 (j0 Rt)),(37,.l S1 (l0 k (j0 Rt)) fun _=>[])]
noncomputable def c:Cf:=cn 73 F ⟨Tryz.f73,[7],[bd.c],[],[],[(2,1,0),(1,3,0),(4,7,0),(9,7,0),(18,3,0)],[],[],0⟩ S3 top (fun a=>some a) w bV Tryz.func73
end Go.Bx.fX
namespace Go.Bx.lR
def S1:Px:=⟨38,[sr 4,sd 5 T2],[sc 4 T1]⟩
def top(Rt:kn α)(b:D0)(c:Int):Option α:=(jl.run b c).bind fun a=>ite (a.2.2.1 !=0) (Rt a.2.2.1 [0,0,0,0]) (ite (not (az T1 a.2.1 [0,0,0,0])) (Rt 14 [0,0,0,0]) (ite ((jP .u64 (jP .u64 (a.1.getD 1 0) (a.1.getD 2 0)) (a.1.getD 3 0)) !=0) (Rt 13 [0,0,0,0]) (Rt 0 a.1)))
def run:=top (fun a b=>some (b,a,()))
def F:Fn:=fm [T1,T2] [T1,T2] run
noncomputable def c:Cf:=cn 49 F ⟨Tryz.f49,[],[jl.c],[],[],[(2,3,4),(1,5,4)],[],[],0⟩ S1 (fun _=>top) (fun a b=>some (b,a,())) e0 bV Tryz.func49
end Go.Bx.lR
namespace Go.Bx.ja
def S1:Px:=⟨16,[sd 2 .bool],[]⟩
def top(Rt:eJ α)(a:D0):Option α:=Rt (cond (cond ((a.getD 1 0) !=0) true ((a.getD 2 0) !=0)) true ((a.getD 3 0) !=0))
def run:=top (fun a=>some a)
def F:Fn:=fo [T1] .bool run
noncomputable def c:Cf:=cn 79 F ⟨Tryz.f79,[],[],[],[],[(2,1,2)],[],[],0⟩ S1 (fun _=>top) (fun a=>some a) e0 bV Tryz.func79
end Go.Bx.ja
namespace Go.Bx.fN
def S1:Px:=⟨28,[sr 4,sd 5 T2],[sc 4 T1]⟩
def top(Rt:kn α)(b:D0)(c:Int):Option α:=(d8.run b c).bind fun a=>ite (a.2.2.1 !=0) (Rt a.2.2.1 [0,0,0,0]) ((aE.run a.2.1).bind fun d=>ite (not d) (Rt 14 [0,0,0,0]) ((ja.run a.1).bind fun e=>ite e (Rt 13 [0,0,0,0]) (Rt 0 a.1)))
def run:=top (fun a b=>some (b,a,()))
def F:Fn:=fm [T1,T2] [T1,T2] run
noncomputable def c:Cf:=cn 74 F ⟨Tryz.f74,[],[aE.c,d8.c,ja.c],[],[],[(2,3,4)],[],[],0⟩ S1 (fun _=>top) (fun a b=>some (b,a,())) e0 bV Tryz.func74
end Go.Bx.fN
namespace Go.Bx.tT
def S1:Px:=⟨16,[sr 4,sd 5 T2],[sc 4 T1]⟩
def top(Rt:kn α)(a:rH)(c:D0):Option α:=(cY.run a).bind fun b=>ite (b !=0) (Rt b [0,0,0,0]) ((nc.run a c).bind fun d=>Rt 0 d)
def run:=top (fun a b=>some (b,a,()))
def F:Fn:=fm [lA,T9] [T1,T2] run
noncomputable def c:Cf:=cn 52 F ⟨Tryz.f52,[],[cY.c,nc.c],[],[],[(2,3,4)],[],[],0⟩ S1 (fun _=>top) (fun a b=>some (b,a,())) e0 bV Tryz.func52
end Go.Bx.tT
namespace Go.Bx.bL
def S1:Px:=⟨178,[sd 4 T2],[se 0 pw (rX),sz 1 jq 1,sb 2 lV 1,sz 3 i7 1]⟩
def S2:Px:=⟨178,[sr 0,st 3 7,(5,.ref 2 1 [.idx 0]),st 6 10,sd 7 T2,st 8 12],[se 0 pw (rX),sz 1 jq 1,sb 2 lV 1,sz 3 i7 1,sc 7 KY,sc 10 T1,sc 12 T1]⟩
def S3:Px:=⟨178,[sr 0,st 3 7,st 6 10,st 8 12],[se 0 pw (rX),sz 1 jq 1,sb 2 lV 1,sz 3 i7 1,sc 7 KY,sc 10 T1,sc 12 T1]⟩
def j1(Rt:uE α):Ur α:=fun c d e f g h i j b k l=>(dJ.run 1 k l b.2.2.1 b.2.2.2.1 b.2.2.2.2.2.2.1 b.2.2.2.2.2.2.2.1 0 [] [] 0 [] c d e f g h i j).bind fun a=>Rt a.1 a.2.1 a.2.2.1 a.2.2.2.1 a.2.2.2.2.1 a.2.2.2.2.2.1 a.2.2.2.2.2.2.1 a.2.2.2.2.2.2.2.1 a.2.2.2.2.2.2.2.2.1
def j0(Rt:uE α):Us α:=fun x5i0 j b c d e f g a h k l m=>ite (j !=0) (Rt j b c d e f g a h) (ite ((a.getD x5i0.toNat iX).2.1==b) ((jT.run).bind fun n=>(tT.run (a.getD x5i0.toNat iX).2.2.2.1 n).bind fun o=>(jl.run o.1 (a.getD x5i0.toNat iX).2.2.1).bind fun i=>ite ((jP .u64 (jP .u64 (i.1.getD 1 0) (i.1.getD 2 0)) (i.1.getD 3 0)) !=0) (Rt 9 b c d e f g a h) (j1 Rt b c d e f g a h k l m)) (j1 Rt b c d e f g a h k l m))
def top(Rt:uE α)(b:PG)(j k:Int)(l:D1)(m:Int)(n:D3)(o:D8)(p:rR)(q:xh):Option α:=(bF.run b.2.2.1 b.2.2.2.1 j k l m n o p q).bind fun r=>(Sum.elim (fun a=>(iU.run b.2.2.2.2.2.2.2.1).bind fun s=>ite (cond (not s) true (b.2.2.2.2.2.2.2.1==a.2.1)) (Rt 6 a.2.1 a.2.2.1 a.2.2.2.1 a.2.2.2.2.1 a.2.2.2.2.2.1 a.2.2.2.2.2.2.1 a.2.2.2.2.2.2.2.1 a.2.2.2.2.2.2.2.2.1) ((cQ.run b.2.2.2.2.2.1 b.2.2.2.2.1).bind fun g=>(if((cond (decide (g>0)) true (az T1 b.2.2.2.2.1 [0,0,0,0]))==false)=true then jT.run else some (replicate 32 0)).bind fun t=>ite (cond (cond (decide (g>0)) true (az T1 b.2.2.2.2.1 [0,0,0,0])) true (az T9 b.2.1 t)) (Rt 13 a.2.1 a.2.2.1 a.2.2.2.1 a.2.2.2.2.1 a.2.2.2.2.2.1 a.2.2.2.2.2.2.1 a.2.2.2.2.2.2.2.1 a.2.2.2.2.2.2.2.2.1) ((lR.run b.2.2.2.2.1 (a.2.2.2.2.2.2.2.1.getD a.1.toNat iX).2.2.1).bind fun d=>ite (d.2.1 !=0) (Rt d.2.1 a.2.1 a.2.2.1 a.2.2.2.1 a.2.2.2.2.1 a.2.2.2.2.2.1 a.2.2.2.2.2.2.1 a.2.2.2.2.2.2.2.1 a.2.2.2.2.2.2.2.2.1) ((lR.run b.2.2.2.2.2.1 (a.2.2.2.2.2.2.2.1.getD a.1.toNat iX).2.2.1).bind fun f=>ite (f.2.1 !=0) (Rt f.2.1 a.2.1 a.2.2.1 a.2.2.2.1 a.2.2.2.2.1 a.2.2.2.2.2.1 a.2.2.2.2.2.2.1 a.2.2.2.2.2.2.2.1 a.2.2.2.2.2.2.2.2.1) (ite ((a.2.2.2.2.2.2.2.1.getD a.1.toNat iX).2.1==a.2.1) ((jT.run).bind fun u=>(jx.run (a.2.2.2.2.2.2.2.1.getD a.1.toNat iX).2.2.2.1 b.2.1 u b.2.2.2.2.1).bind fun h=>j0 Rt a.1 h.2.1 a.2.1 a.2.2.1 a.2.2.2.1 a.2.2.2.2.1 a.2.2.2.2.2.1 a.2.2.2.2.2.2.1 (a.2.2.2.2.2.2.2.1.set a.1.toNat ((a.2.2.2.2.2.2.2.1.getD a.1.toNat iX).1,(a.2.2.2.2.2.2.2.1.getD a.1.toNat iX).2.1,(a.2.2.2.2.2.2.2.1.getD a.1.toNat iX).2.2.1,h.1,(a.2.2.2.2.2.2.2.1.getD a.1.toNat iX).2.2.2.2)) a.2.2.2.2.2.2.2.2.1 b d.1 f.1) ((ju.run (a.2.2.2.2.2.2.2.1.getD a.1.toNat iX).2.2.2.1 b.2.1 b.2.2.2.2.1).bind fun i=>j0 Rt a.1 i.2.1 a.2.1 a.2.2.1 a.2.2.2.1 a.2.2.2.2.1 a.2.2.2.2.2.1 a.2.2.2.2.2.2.1 (a.2.2.2.2.2.2.2.1.set a.1.toNat ((a.2.2.2.2.2.2.2.1.getD a.1.toNat iX).1,(a.2.2.2.2.2.2.2.1.getD a.1.toNat iX).2.1,(a.2.2.2.2.2.2.2.1.getD a.1.toNat iX).2.2.1,i.1,(a.2.2.2.2.2.2.2.1.getD a.1.toNat iX).2.2.2.2)) a.2.2.2.2.2.2.2.2.1 b d.1 f.1)))))) (Sum.elim (fun c=>Rt 5 c.1 c.2.1 c.2.2.1 c.2.2.2.1 c.2.2.2.2.1 c.2.2.2.2.2.1 c.2.2.2.2.2.2.1 c.2.2.2.2.2.2.2.1) (fun e=>e.elim))) r
def run:=top (fun a b c d e f g h i=>some (a,b,c,d,e,f,g,h,i,()))
def Sp:Spec:=tE [.ref 0 0 [],hD KY] [(0,hC pw (HO) false),(1,hB jq 0 true),(2,hB lV 0 false),(3,hB i7 0 true)] [KY,T2,T2,su,T2,T6,mi,tK,uY] (hD T2) [(0,hC pw (rX) false),(1,hB jq 1 true),(2,hB lV 1 false),(3,hB i7 1 true)] [T2,T2,T2,su,T2,T6,mi,tK,uY] run
def w(k:Nat)(Rt:K S1 α):List (Nat×dQ α):=[(100,.j S3 (j1 Rt)),(72,.j S2 (j0 Rt))]
noncomputable def s:Sf:=sn 20 Sp ⟨Tryz.f20,[18,25],[iU.c,cQ.c,jT.c,lR.c,jx.c,ju.c,tT.c,jl.c],[bF.s,dJ.s],[(19,179),(177,179)],[(2,1,4),(1,41,0),(51,489,0),(72,329,0)],[],[],4⟩ S1 (fun _=>top) ri w bV Tryz.func20
end Go.Bx.bL
namespace Go.Bx.fg
def S1:Px:=⟨19,[sr 6],[se 6 fT (WA),sb 10 lV 0]⟩
def top(Rt:UG α)(a:pJ)(b:Int)(c:rH):Option α:=ite ((eF (0+a.2.2.2.1.length) 104&&(beq 0 0||blt 0 a.2.2.2.1.length))=true) (ite (0<=b/\b<(a.2.2.2.1.length:Int)) (Rt a.1 a.2.1 a.2.2.1 a.2.2.2.2.1 a.2.2.2.2.2.1 a.2.2.2.2.2.2.1 (a.2.2.2.1.set b.toNat ((a.2.2.2.1.getD b.toNat iX).1,(a.2.2.2.1.getD b.toNat iX).2.1,(a.2.2.2.1.getD b.toNat iX).2.2.1,c,(a.2.2.2.1.getD b.toNat iX).2.2.2.2))) none) none
def run:=top (fun a b c d e f g=>some (a,b,c,g,d,e,f,()))
def F:Fn:=fo [fT,T2,lA] fT run
noncomputable def c:Cf:=cn 80 F ⟨Tryz.f80,[],[],[],[],[(2,1,6)],[],[],0⟩ S1 (fun _=>top) (fun a b d e f g h=>some (a,b,d,h,e,f,g,())) e0 bV Tryz.func80
end Go.Bx.fg
namespace Go.Bx.fu
def S1:Px:=⟨149,[sr 4,sd 5 T2],[sc 4 fT]⟩
def S2:Px:=⟨149,[sr 2,sr 3,sr 4,sd 6 T2,sr 7,sr 8,sd 9 T2,sr 10,sr 11],[sc 2 fT,sc 3 KY,se 4 fT (xi),sc 7 lV,sc 8 T1,sc 10 T1,sc 11 lA]⟩
def S3:Px:=⟨149,[sr 2,sr 3,sr 4,sd 6 T2,sr 8,sr 10,sr 11],[sc 2 fT,sc 3 KY,se 4 fT (xi),sc 8 T1,sc 10 T1,sc 11 lA]⟩
def j1(Rt:sQ α):UH α:=fun c d a i j k l e f g=>(fg.run d c g).bind fun h=>(gq.run h (1,e,f,a.2.2.1,a.2.2.2.1,a.2.2.2.2.2.2.1,a.2.2.2.2.2.2.2.1,0,[],[],0,[],())).bind fun b=>Rt b.2.1 b.1
def j0(Rt:sQ α):UI α:=fun c d a e f g h i j k l b=>ite (d !=0) (Rt d a) (ite (j.2.1==a.1) ((fX.run).bind fun m=>(cO.run b m).bind fun n=>(d8.run n j.2.2.1).bind fun o=>(ja.run o.1).bind fun p=>ite p (Rt 9 a) (j1 Rt c a e f g h i k l b)) (j1 Rt c a e f g h i k l b))
def top(Rt:sQ α)(a:pJ)(b:PG):Option α:=(bK.run a b.2.2.1 b.2.2.2.1).bind fun c=>ite (decide (c<0)) (Rt 5 a) ((dG.run b.2.2.2.2.2.2.2.1).bind fun j=>ite (cond (not j) true (b.2.2.2.2.2.2.2.1==a.1)) (Rt 6 a) ((aE.run b.2.2.2.2.1).bind fun f=>(if(f==false)=true then aH.run b.2.2.2.2.1 b.2.2.2.2.2.1 else some 0).bind fun g=>(if((cond f true (decide (g<0)))==false)=true then fX.run else some (replicate 32 0)).bind fun k=>ite (cond (cond f true (decide (g<0))) true (az T9 b.2.1 k)) (Rt 13 a) (ite (0<=c/\c<(a.2.2.2.1.length:Int)) ((fN.run b.2.2.2.2.1 (a.2.2.2.1.getD c.toNat iX).2.2.1).bind fun d=>ite (d.2.1 !=0) (Rt d.2.1 a) ((fN.run b.2.2.2.2.2.1 (a.2.2.2.1.getD c.toNat iX).2.2.1).bind fun e=>ite (e.2.1 !=0) (Rt e.2.1 a) ((fU.run (a.2.2.2.1.getD c.toNat iX).2.2.2.1 b.2.1 b.2.2.2.2.1).bind fun h=>ite ((a.2.2.2.1.getD c.toNat iX).2.1==a.1) ((fX.run).bind fun l=>(eT.run (a.2.2.2.1.getD c.toNat iX).2.2.2.1 b.2.1 l b.2.2.2.2.1).bind fun i=>j0 Rt c i.2.1 a b 0 0 [[0,0,0,0],[0,0,0,0],[0,0,0,0]] 0 (a.2.2.2.1.getD c.toNat iX) d.1 e.1 i.1) (j0 Rt c h.2.1 a b 0 0 [[0,0,0,0],[0,0,0,0],[0,0,0,0]] 0 (a.2.2.2.1.getD c.toNat iX) d.1 e.1 h.1)))) none)))
def run:=top (fun a b=>some (b,a,()))
def F:Fn:=fm [fT,KY] [fT,T2] run
def w(k:Nat)(Rt:K S1 α):List (Nat×dQ α):=[(100,.j S3 (j1 Rt)),(76,.j S2 (j0 Rt))]
noncomputable def c:Cf:=cn 29 F ⟨Tryz.f29,[19,25],[bK.c,gq.c,dG.c,aE.c,aH.c,fX.c,fN.c,fU.c,eT.c,d8.c,cO.c,ja.c,fg.c],[],[],[(2,3,4),(54,1015,2),(72,855,2)],[],[],0⟩ S1 (fun _=>top) (fun a b=>some (b,a,())) w bV Tryz.func29
end Go.Bx.fu
namespace Go.Bx.bJ
def S1:Px:=⟨47,[st 2 0,st 7 13,sd 8 T2],[se 0 .opq (.ref 2 1 [.idx 0]),se 1 .opq (.ref 3 0 []),sb 2 lV 1,se 3 pw (Rd),sz 4 jq 1,sz 5 i7 1,sc 13 lA]⟩
def S2:Px:=⟨47,[sd 8 T2],[se 0 .opq (.ref 2 1 [.idx 0]),se 1 .opq (.ref 3 0 []),sb 2 lV 1,se 3 pw (Rd),sz 4 jq 1,sz 5 i7 1]⟩
def S3:Px:=⟨47,[sd 6 T2],[se 0 .opq (.ref 2 1 [.idx 0]),se 1 .opq (.ref 3 0 []),sb 2 lV 1,se 3 pw (Rd),sz 4 jq 1,sz 5 i7 1]⟩
def j1(Rt:Kf α):Kf α:=fun a c0i0 b c d e f g h i=>Rt a c0i0 b c d e f g h i
def j0(Rt:Kf α):Uu α:=fun b c0i0 a c d e f g h i j=>ite (b==0) (j1 Rt b c0i0 (a.set c0i0.toNat ((a.getD c0i0.toNat iX).1,(a.getD c0i0.toNat iX).2.1,(a.getD c0i0.toNat iX).2.2.1,j,(a.getD c0i0.toNat iX).2.2.2.2)) c d e f g h i) (j1 Rt b c0i0 a c d e f g h i)
def top(Rt:Kf α)(c d:D0)(c0i0:Int)(a:rR)(b e:Int)(f:D1)(g:Int)(h:D3)(i:D8)(j:xh):Option α:=(jv.run (a.getD c0i0.toNat iX).2.2.2.1 c d).bind fun k=>ite ((a.getD c0i0.toNat iX).2.1==b) ((jT.run).bind fun m=>(jx.run (a.getD c0i0.toNat iX).2.2.2.1 m c d).bind fun l=>j0 Rt l.2.1 c0i0 a b e f g h i j l.1) (j0 Rt k.2.1 c0i0 a b e f g h i j k.1)
def run:=top (fun a c0i0 b c d e f g h i=>some (a,c0i0,b,c,d,e,f,g,h,i,()))
def Sp:Spec:=tE [hD T9,hD T1,.ref 0 0 [],.ref 1 0 []] [(0,hC .opq (.ref 2 0 [.idx 0]) false),(1,hC .opq (.ref 3 0 []) false),(2,hB lV 0 false),(3,hC pw (Wv) false),(4,hB jq 0 true),(5,hB i7 0 true)] [T9,T1,T2,tK,T2,T2,su,T2,T6,mi,uY] (hD T2) [(0,hC .opq (.ref 2 1 [.idx 0]) false),(1,hC .opq (.ref 3 0 []) false),(2,hB lV 1 false),(3,hC pw (Rd) false),(4,hB jq 1 true),(5,hB i7 1 true)] [T2,T2,tK,T2,T2,su,T2,T6,mi,uY] run
def w(k:Nat)(Rt:K S3 α):List (Nat×dQ α):=[(28,.j S2 (j1 Rt)),(20,.j S1 (j0 Rt))]
noncomputable def s:Sf:=sn 119 Sp ⟨Tryz.f119,[5,7],[jT.c,jx.c,jv.c],[],[],[(2,1,6),(12,97,2),(18,1,8)],[],[],6⟩ S3 (fun _=>top) ri w bV Tryz.func119
end Go.Bx.bJ
namespace Go.Bx.fc
def S1:Px:=⟨68,[sd 6 T2],[se 0 pw (rX),sz 1 jq 1,sb 2 lV 1,sz 3 i7 1]⟩
def top(Rt:uE α)(f:tH)(i:D0)(j k:Int)(l:D1)(m:Int)(n:D3)(o:D8)(p:rR)(q:xh):Option α:=(bF.run f.2.2.2.1 f.2.2.2.2.1 j k l m n o p q).bind fun r=>(Sum.elim (fun a=>(nI.run f.2.1 (a.2.2.2.2.2.2.2.1.getD a.1.toNat iX).2.2.1).bind fun h=>ite (h.2.1 !=0) (Rt h.2.1 a.2.1 a.2.2.1 a.2.2.2.1 a.2.2.2.2.1 a.2.2.2.2.2.1 a.2.2.2.2.2.2.1 a.2.2.2.2.2.2.2.1 a.2.2.2.2.2.2.2.2.1) ((nI.run f.2.2.1 (a.2.2.2.2.2.2.2.1.getD a.1.toNat iX).2.2.1).bind fun g=>ite (g.2.1 !=0) (Rt g.2.1 a.2.1 a.2.2.1 a.2.2.2.1 a.2.2.2.2.1 a.2.2.2.2.2.1 a.2.2.2.2.2.2.1 a.2.2.2.2.2.2.2.1 a.2.2.2.2.2.2.2.2.1) ((gE.run h.1 g.1).bind fun s=>(bJ.run f.2.2.2.2.2.1 s.1 a.1 a.2.2.2.2.2.2.2.1 a.2.1 a.2.2.1 a.2.2.2.1 a.2.2.2.2.1 a.2.2.2.2.2.1 a.2.2.2.2.2.2.1 a.2.2.2.2.2.2.2.2.1).bind fun b=>ite (b.1 !=0) (Rt b.1 b.2.2.2.1 b.2.2.2.2.1 b.2.2.2.2.2.1 b.2.2.2.2.2.2.1 b.2.2.2.2.2.2.2.1 b.2.2.2.2.2.2.2.2.1 b.2.2.1 b.2.2.2.2.2.2.2.2.2.1) ((bJ.run i g.1 b.2.1 b.2.2.1 b.2.2.2.1 b.2.2.2.2.1 b.2.2.2.2.2.1 b.2.2.2.2.2.2.1 b.2.2.2.2.2.2.2.1 b.2.2.2.2.2.2.2.2.1 b.2.2.2.2.2.2.2.2.2.1).bind fun c=>Rt c.1 c.2.2.2.1 c.2.2.2.2.1 c.2.2.2.2.2.1 c.2.2.2.2.2.2.1 c.2.2.2.2.2.2.2.1 c.2.2.2.2.2.2.2.2.1 c.2.2.1 c.2.2.2.2.2.2.2.2.2.1)))) (Sum.elim (fun d=>Rt 5 d.1 d.2.1 d.2.2.1 d.2.2.2.1 d.2.2.2.2.1 d.2.2.2.2.2.1 d.2.2.2.2.2.2.1 d.2.2.2.2.2.2.2.1) (fun e=>e.elim))) r
def run:=top (fun a b c d e f g h i=>some (a,b,c,d,e,f,g,h,i,()))
def Sp:Spec:=tE [.ref 0 0 [],hD jI,hD T9] [(0,hC pw (HO) false),(1,hB jq 0 true),(2,hB lV 0 false),(3,hB i7 0 true)] [jI,T9,T2,T2,su,T2,T6,mi,tK,uY] (hD T2) [(0,hC pw (rX) false),(1,hB jq 1 true),(2,hB lV 1 false),(3,hB i7 1 true)] [T2,T2,T2,su,T2,T6,mi,tK,uY] run
noncomputable def s:Sf:=sn 58 Sp ⟨Tryz.f58,[],[gE.c,nI.c],[bF.s,bJ.s],[(20,69),(60,69),(67,69)],[(2,1,6)],[],[],4⟩ S1 (fun _=>top) ri e0 bV Tryz.func58
end Go.Bx.fc
namespace Go.Bx.bG
def S1:Px:=⟨110,[sr 6,sd 7 T2],[sc 6 fT]⟩
def S2:Px:=⟨110,[sr 3,sr 6,sd 8 T2,sr 9,sr 12,sr 14,sr 16,(68,hF T9),sd 69 T2,sd 70 T2],[sc 3 fT,se 6 fT (xi),sc 9 lV,sc 12 T1,sc 14 T1,sc 16 lA]⟩
def S3:Px:=⟨110,[sr 3,sr 6,sd 8 T2,sr 9,sd 11 T2,sr 12,sr 14,sr 16,(68,hF T9),sd 69 T2,sd 70 T2],[sc 3 fT,se 6 fT (xi),sc 9 lV,sc 12 T1,sc 14 T1,sc 16 lA]⟩
def j0(Nx:Ki α)(Rt:sQ α):UN α:=fun c a d e f b g h i j k l m n=>ite (a !=0) (Rt a b) (Nx c d e (wrap .i64 (f+1)) b g h i j k l m n)
def S4:Px:=⟨110,[sr 3,sr 6,sd 8 T2,sr 16],[sc 3 fT,se 6 fT (xi),sc 16 lA]⟩
def aR(Nx:Ki α)(Rt:sQ α)(Xt0:Oe α):Ki α:=fun f b g a c h i j k l d e m=>ite (decide (a<g)) (ite (0<=a/\a<(b.length:Int)) (ite (0<=a/\a<(2:Int)) (ite (l.2.1==c.1) ((fX.run).bind fun p=>(eT.run m p (b.getD a.toNat Vg) ([e,d].getD a.toNat [0,0,0,0])).bind fun n=>j0 Nx Rt f n.2.1 b g a c h i j k l d e n.1) ((eB.run m (b.getD a.toNat Vg) ([e,d].getD a.toNat [0,0,0,0])).bind fun o=>j0 Nx Rt f o.2.1 b g a c h i j k l d e o.1)) none) none) (Xt0 f c h i j k m)
def l0(k:Nat)(Rt:sQ α)(Xt0:Oe α):Nat->Ki α
 |0=>kz (S:=S2)
 |n+1=>aR (l0 k Rt Xt0 n) Rt Xt0
def j1(Rt:sQ α):Oe α:=fun a b e f g h c=>(fg.run b a c).bind fun d=>Rt 0 d
def top(k:Nat)(Rt:sQ α)(a:pJ)(c:tH)(f:D0):Option α:=(bK.run a c.2.2.2.1 c.2.2.2.2.1).bind fun b=>ite (decide (b<0)) (Rt 5 a) (ite (0<=b/\b<(a.2.2.2.1.length:Int)) ((fE.run c.2.1 (a.2.2.2.1.getD b.toNat iX).2.2.1).bind fun e=>(fE.run c.2.2.1 (a.2.2.2.1.getD b.toNat iX).2.2.1).bind fun d=>ite (cond (e.2.1 !=0) true (d.2.1 !=0)) (Rt 13 a) ((cV.run e.1 d.1).bind fun g=>l0 k Rt (j1 Rt) k b [c.2.2.2.2.2.1,f] 2 0 a 0 0 [[0,0,0,0],[0,0,0,0],[0,0,0,0]] 0 (a.2.2.2.1.getD b.toNat iX) d.1 g.1 (a.2.2.2.1.getD b.toNat iX).2.2.2.1)) none)
def run:=top fuel (fun a b=>some (b,a,()))
def F:Fn:=fm [fT,jI,T9] [fT,T2] run
def w0(k:Nat)(Nx:K S2 α)(Rt:K S1 α)(Xt0:K S4 α):List (Nat×dQ α):=[(76,.j S3 (j0 Nx Rt))]
def w(k:Nat)(Rt:K S1 α):List (Nat×dQ α):=[(88,.j S4 (j1 Rt)),(145,.l S2 (l0 k Rt (j1 Rt)) fun n=>w0 k (l0 k Rt (j1 Rt) n) Rt (j1 Rt))]
noncomputable def c:Cf:=cn 85 F ⟨Tryz.f85,[19,22],[bK.c,fX.c,eT.c,fg.c,cV.c,eB.c,fE.c],[],[],[(2,3,6),(1,8233,3),(4,258254417031933733481,3),(36,258254417031933733481,3),(54,258254417031933733737,3),(63,8233,3)],[],[],0⟩ S1 top (fun a b=>some (b,a,())) w bV Tryz.func85
end Go.Bx.bG
namespace Go.Bx.ga
def S1:Px:=⟨48,[sd 2 T2],[]⟩
def S2:Px:=⟨48,[sr 1,sd 18 Rq,sd 19 T2,sd 20 T2],[sc 1 Cc]⟩
def S3:Px:=⟨48,[sr 1],[sc 1 Cc]⟩
def aR(Nx:LN α)(Rt:gf α)(Xt0:LO α):LN α:=fun b c a d=>ite (decide (a<c)) (ite (0<=a/\a<(b.length:Int)) (ite (cond (cond (cond (decide ((b.getD a.toNat Cj).1<0)) true (decide ((b.getD a.toNat Cj).1>255))) true (decide ((b.getD a.toNat Cj).2.1.2.2.1<0))) true (decide ((b.getD a.toNat Cj).2.1.2.2.1>255))) (Rt 6) (Nx b c (wrap .i64 (a+1)) d)) none) (Xt0 d)
def l0(k:Nat)(Rt:gf α)(Xt0:LO α):Nat->LN α
 |0=>kz (S:=S2)
 |n+1=>aR (l0 k Rt Xt0 n) Rt Xt0
def j0(Rt:gf α):LO α:=fun a=>(iJ.run a.2.2.1).bind fun b=>Rt b
def top(k:Nat)(Rt:gf α)(a:TV):Option α:=ite (cond (decide (a.1<0)) true (decide (a.1>4294967295))) (Rt 6) (ite (decide ((a.2.1.length:Int)>19)) (Rt 1) (l0 k Rt (j0 Rt) k a.2.1 (a.2.1.length:Int) 0 a))
def run:=top fuel (fun a=>some a)
def F:Fn:=fo [Cc] T2 run
def w(k:Nat)(Rt:K S1 α):List (Nat×dQ α):=[(48,.j S3 (j0 Rt)),(73,.l S2 (l0 k Rt (j0 Rt)) fun _=>[])]
noncomputable def c:Cf:=cn 175 F ⟨Tryz.f175,[12],[iJ.c],[],[],[(2,1,2),(1,1,1),(4,917505,1),(18,917505,1),(33,1,1)],[],[],0⟩ S1 top (fun a=>some a) w bV Tryz.func175
end Go.Bx.ga
namespace Go.Bx.bT
def S1:Px:=⟨35,[sd 2 T2],[]⟩
def S2:Px:=⟨35,[sr 1,sd 14 Rq,sd 15 T2,sd 16 T2],[sc 1 Cc]⟩
def S3:Px:=⟨35,[sr 1],[sc 1 Cc]⟩
def aR(Nx:LN α)(Rt:gf α)(Xt0:LO α):LN α:=fun b c a d=>ite (decide (a<c)) (ite (0<=a/\a<(b.length:Int)) ((bA.run (b.getD a.toNat Cj).1 255).bind fun e=>(if((not e)==false)=true then bA.run (b.getD a.toNat Cj).2.1.2.2.1 255 else some false).bind fun f=>ite (cond (not e) true (not f)) (Rt 6) (Nx b c (wrap .i64 (a+1)) d)) none) (Xt0 d)
def l0(k:Nat)(Rt:gf α)(Xt0:LO α):Nat->LN α
 |0=>kz (S:=S2)
 |n+1=>aR (l0 k Rt Xt0 n) Rt Xt0
def j0(Rt:gf α):LO α:=fun a=>(cA.run a.2.2.1).bind fun b=>Rt b
def top(k:Nat)(Rt:gf α)(a:TV):Option α:=(bA.run a.1 4294967295).bind fun b=>ite (not b) (Rt 6) (ite (decide ((a.2.1.length:Int)>19)) (Rt 1) (l0 k Rt (j0 Rt) k a.2.1 (a.2.1.length:Int) 0 a))
def run:=top fuel (fun a=>some a)
def F:Fn:=fo [Cc] T2 run
def w(k:Nat)(Rt:K S1 α):List (Nat×dQ α):=[(48,.j S3 (j0 Rt)),(73,.l S2 (l0 k Rt (j0 Rt)) fun _=>[])]
noncomputable def c:Cf:=cn 196 F ⟨Tryz.f196,[12],[bA.c,cA.c],[],[],[(2,1,2),(1,1,1),(4,57345,1),(18,57345,1),(33,1,1)],[],[],0⟩ S1 top (fun a=>some a) w bV Tryz.func196
end Go.Bx.bT
namespace Go.Bx.iQ
def S1:Px:=⟨28,[sr 2,sr 3,sd 7 T9,sd 8 T2],[sc 2 T1,sc 3 T1]⟩
def S2:Px:=⟨28,[sr 2,sr 3],[sc 2 T1,sc 3 T1]⟩
def aR(Nx:oX α)(Xt0:lP α):oX α:=fun c a d b=>ite (decide (a<32)) (ite (0<=a/\a<(32:Int)) (ite (0<=(wrap .i64 (tdiv (wrap .i64 (31-a)) 8))/\(wrap .i64 (tdiv (wrap .i64 (31-a)) 8))<(4:Int)) (ite (0<=(wrap .i64 (8*(tmod (wrap .i64 (31-a)) 8)))) (ite (0<=(wrap .i64 (tdiv (wrap .i64 (31-a)) 8))/\(wrap .i64 (tdiv (wrap .i64 (31-a)) 8))<(4:Int)) (Nx c (wrap .i64 (a+1)) d (b.set (wrap .i64 (tdiv (wrap .i64 (31-a)) 8)).toNat (jP .u64 (b.getD (wrap .i64 (tdiv (wrap .i64 (31-a)) 8)).toNat 0) (fD .u64 (wrap .u64 (c.getD a.toNat 0)) (wrap .i64 (8*(tmod (wrap .i64 (31-a)) 8))))))) none) none) none) none) (Xt0 d b)
def l0(k:Nat)(Xt0:lP α):Nat->oX α
 |0=>kz (S:=S1)
 |n+1=>aR (l0 k Xt0 n) Xt0
def S3:Px:=⟨28,[sr 2],[sc 2 T1]⟩
def j0(Rt:gh α):lP α:=fun b a=>Rt a
def top(k:Nat)(Rt:gh α)(a:D0):Option α:=l0 k (j0 Rt) k a 0 [0,0,0,0] [0,0,0,0]
def run:=top fuel (fun a=>some a)
def F:Fn:=fo [T9] T1 run
def w(k:Nat)(Rt:K S3 α):List (Nat×dQ α):=[(36,.j S2 (j0 Rt)),(37,.l S1 (l0 k (j0 Rt)) fun _=>[])]
noncomputable def c:Cf:=cn 172 F ⟨Tryz.f172,[9],[],[],[],[(2,1,2),(1,3,2),(4,99,2),(9,99,2),(24,3,2)],[],[],0⟩ S3 top (fun a=>some a) w bV Tryz.func172
end Go.Bx.iQ
namespace Go.Bx.dp
def S1:Px:=⟨26,[sr 2,sr 3,sd 6 T9,sd 7 T2],[sc 2 T1,sc 3 T1]⟩
def S2:Px:=⟨26,[sr 2,sr 3],[sc 2 T1,sc 3 T1]⟩
def aR(Nx:oX α)(Xt0:lP α):oX α:=fun c a d b=>ite (decide (a<32)) (ite (0<=a/\a<(32:Int)) (ite (0<=(wrap .i64 (3-(wrap .i64 (tdiv a 8))))/\(wrap .i64 (3-(wrap .i64 (tdiv a 8))))<(4:Int)) (ite (0<=(wrap .i64 (3-(wrap .i64 (tdiv a 8))))/\(wrap .i64 (3-(wrap .i64 (tdiv a 8))))<(4:Int)) (Nx c (wrap .i64 (a+1)) d (b.set (wrap .i64 (3-(wrap .i64 (tdiv a 8)))).toNat (wrap .u64 ((wrap .u64 ((b.getD (wrap .i64 (3-(wrap .i64 (tdiv a 8)))).toNat 0)*256))+(wrap .u64 (c.getD a.toNat 0)))))) none) none) none) (Xt0 d b)
def l0(k:Nat)(Xt0:lP α):Nat->oX α
 |0=>kz (S:=S1)
 |n+1=>aR (l0 k Xt0 n) Xt0
def S3:Px:=⟨26,[sr 2],[sc 2 T1]⟩
def j0(Rt:gh α):lP α:=fun b a=>Rt a
def top(k:Nat)(Rt:gh α)(a:D0):Option α:=l0 k (j0 Rt) k a 0 [0,0,0,0] [0,0,0,0]
def run:=top fuel (fun a=>some a)
def F:Fn:=fo [T9] T1 run
def w(k:Nat)(Rt:K S3 α):List (Nat×dQ α):=[(32,.j S2 (j0 Rt)),(37,.l S1 (l0 k (j0 Rt)) fun _=>[])]
noncomputable def c:Cf:=cn 226 F ⟨Tryz.f226,[8],[],[],[],[(2,1,2),(1,3,2),(4,51,2),(9,51,2),(21,3,2)],[],[],0⟩ S3 top (fun a=>some a) w bV Tryz.func226
end Go.Bx.dp
namespace Go.Bx.eD
def S1:Px:=⟨6,[sr 2],[sc 2 T1]⟩
def top(Rt:gh α)(a:D0):Option α:=(bd.run a).bind fun b=>(dp.run b).bind fun c=>Rt c
def run:=top (fun a=>some a)
def F:Fn:=fo [.str] T1 run
noncomputable def c:Cf:=cn 195 F ⟨Tryz.f195,[],[bd.c,dp.c],[],[],[(2,1,2)],[],[],0⟩ S1 (fun _=>top) (fun a=>some a) e0 bV Tryz.func195
end Go.Bx.eD
namespace Go.Bx.fj
def S1:Px:=⟨38,[sd 4 mO],[sc 0 uh]⟩
def top(Rt:VW α)(a:Int)(b:FI):Option α:=ite (decide ((b.1.length:Int)<a)) (ite (0<=a/\id a=a/\eF a.toNat 1=true) (Rt (replicate a.toNat 0) ([],false,())) none) (ite (0<=(0:Int)/\(0:Int)<=a/\a<=(b.1.length:Int)/\a=a) (ite (0<=a/\a<=(b.1.length:Int)/\(b.1.length:Int)<=(b.1.length:Int)) (Rt (aA b.1 0 a) ((aA b.1 a (b.1.length:Int)),b.2)) none) none)
def run:=top (fun a b=>some (a,b,()))
def Sp:Spec:=tE [.ref 0 0 [],hD T2] [(0,hC uh (hD uh) false)] [T2,uh] (hD mO) [(0,hC uh (hD uh) false)] [mO,uh] run
noncomputable def s:Sf:=sn 213 Sp ⟨Tryz.f213,[],[],[],[],[(2,1,4)],[(2,[.dat true 4 [],.dat false 0 []])],[],1⟩ S1 (fun _=>top) ri e0 bV Tryz.func213
end Go.Bx.fj
namespace Go.Bx.aC
def S1:Px:=⟨23,[sd 5 T2,sd 10 mO,sd 11 T2,sd 12 T2],[sc 0 uh]⟩
def S2:Px:=⟨23,[sd 5 T2],[sc 0 uh]⟩
def aR(Nx:SM α)(Xt0:Ou α):SM α:=fun c b d a e=>ite (decide (a<d)) (ite (0<=a/\a<(b.length:Int)) (Nx (jP .i64 (fD .i64 c 8) (wrap .i64 (b.getD a.toNat 0))) b d (wrap .i64 (a+1)) e) none) (Xt0 c e)
def l0(k:Nat)(Xt0:Ou α):Nat->SM α
 |0=>kz (S:=S1)
 |n+1=>aR (l0 k Xt0 n) Xt0
def S3:Px:=⟨23,[sd 4 T2],[sc 0 uh]⟩
def j0(Rt:Ou α):Ou α:=fun a b=>Rt a b
def top(k:Nat)(Rt:Ou α)(b:Int)(c:FI):Option α:=(fj.run b c).bind fun a=>l0 k (j0 Rt) k 0 a.1 (a.1.length:Int) 0 a.2.1
def run:=top fuel (fun a b=>some (a,b,()))
def Sp:Spec:=tE [.ref 0 0 [],hD T2] [(0,hC uh (hD uh) false)] [T2,uh] (hD T2) [(0,hC uh (hD uh) false)] [T2,uh] run
def w(k:Nat)(Rt:K S3 α):List (Nat×dQ α):=[(32,.j S2 (j0 Rt)),(37,.l S1 (l0 k (j0 Rt)) fun _=>[])]
noncomputable def s:Sf:=sn 171 Sp ⟨Tryz.f171,[8],[],[fj.s],[(10,24)],[(2,1,4),(1,1,5),(4,225,5),(9,225,5),(21,1,5)],[],[],1⟩ S3 top ri w bV Tryz.func171
end Go.Bx.aC
namespace Go.Bx.eL
def S1:Px:=⟨9,[st 2 3],[sc 0 uh,sc 3 T9]⟩
def top(Rt:VX α)(b:FI):Option α:=(fj.run 32 b).bind fun a=>Rt a.2.1 (Au (replicate 32 0) 0 32 a.1)
def run:=top (fun b a=>some (a,b,a,()))
def Sp:Spec:=tE [.ref 0 0 []] [(0,hC uh (hD uh) false)] [uh] (hD T9) [(0,hC uh (hD uh) false),(3,hC T9 (hD T9) false)] [T9,uh,T9] run
noncomputable def s:Sf:=sn 173 Sp ⟨Tryz.f173,[],[],[fj.s],[(6,10)],[(2,1,2)],[],[],1⟩ S1 (fun _=>top) (fun b a=>some (a,b,a,())) e0 bV Tryz.func173
end Go.Bx.eL
namespace Go.Bx.gP
def S1:Px:=⟨30,[st 2 3],[sc 0 uh,se 3 i7 (TC),sz 28 rS 0]⟩
def top(Rt:VY α)(g:FI):Option α:=(aC.run 8 g).bind fun b=>(aC.run 4 b.2.1).bind fun c=>(aC.run 2 c.2.1).bind fun d=>(eL.run d.2.1).bind fun e=>(aC.run 8 e.2.1).bind fun f=>(aC.run 1 f.2.1).bind fun a=>ite (eF (0+a.2.1.1.length) 1=true) (Rt a.2.1 b.1 c.1 d.1 e.1 f.1 a.1 a.2.1.1) none
def run:=top (fun g a b c d e f h=>some (a,b,c,d,e,f,g,a,b,c,d,e,f,h,()))
def Sp:Spec:=tE [.ref 0 0 []] [(0,hC uh (hD uh) false)] [uh] (TC) [(0,hC uh (hD uh) false),(3,hC i7 (TC) false),(28,hB rS 0 true)] [T2,T2,T2,T9,T2,T2,uh,T2,T2,T2,T9,T2,T2,mO] run
noncomputable def s:Sf:=sn 174 Sp ⟨Tryz.f174,[],[],[aC.s,eL.s],[(5,31),(8,31),(11,31),(14,31),(17,32),(20,32)],[(2,1,2)],[],[27],1⟩ S1 (fun _=>top) (fun g a b c d e f h=>some (a,b,c,d,e,f,g,a,b,c,d,e,f,h,())) e0 bV Tryz.func174
end Go.Bx.gP
namespace Go.Bx.fL
def S1:Px:=⟨81,[sr 2,sd 3 T2],[sc 2 Cc]⟩
def S2:Px:=⟨81,[sr 2,st 4 12,sr 6,sd 38 T2,sd 39 T2],[se 2 Cc (Rc),se 6 Cc (Vc),sc 12 uh,sz 62 TN 0]⟩
def S3:Px:=⟨81,[sr 2,st 4 12,sr 6],[se 2 Cc (Rc),se 6 Cc (Vc),sc 12 uh,sz 62 TN 0]⟩
def aR(Nx:SP α)(Xt0:SQ α):SP α:=fun b c d e f g h i j k l m n o p q r a=>ite (decide (c<b)) ((aC.run 1 r).bind fun s=>(eL.run s.2.1).bind fun t=>(iQ.run t.1).bind fun w=>(eL.run t.2.1).bind fun u=>(iQ.run u.1).bind fun x=>(aC.run 1 u.2.1).bind fun v=>ite (eF (a.length+1) 80=true) (Nx b (wrap .i64 (c+1)) d e f g h i j k l m n o p q v.2.1 (a++[(s.1,(w,x,v.1,()),())])) none) (Xt0 d e f g h i j k l m n o p q r a)
def l0(k:Nat)(Xt0:SQ α):Nat->SP α
 |0=>kz (S:=S2)
 |n+1=>aR (l0 k Xt0 n) Xt0
def j0(Rt:Kd α):SQ α:=fun f g h i j k l b m n o p q r e c=>(gP.run e).bind fun a=>ite (not a.2.2.2.2.2.2.1.2.1) (Rt 4 (0,[],tG,())) ((ga.run (b,c,(a.1,a.2.1,a.2.2.1,a.2.2.2.1,a.2.2.2.2.1,a.2.2.2.2.2.1,a.2.2.2.2.2.2.2.2.2.2.2.2.2.1,()),())).bind fun d=>ite (d !=0) (Rt d (0,[],tG,())) (Rt 0 (b,c,(a.1,a.2.1,a.2.2.1,a.2.2.2.1,a.2.2.2.2.1,a.2.2.2.2.2.1,a.2.2.2.2.2.2.2.2.2.2.2.2.2.1,()),())))
def top(k:Nat)(Rt:Kd α)(d:D0):Option α:=(aC.run 1 (d,true,())).bind fun b=>ite (cond b.2.1.2.1 (b.1 !=1) false) (Rt 3 (0,[],tG,())) ((aC.run 4 b.2.1).bind fun c=>(aC.run 1 c.2.1).bind fun a=>ite (cond a.2.1.2.1 (decide (a.1>19)) false) (Rt 1 (0,[],tG,())) (l0 k (j0 Rt) k a.1 0 0 0 0 0 (replicate 32 0) 0 0 c.1 0 0 0 (replicate 32 0) 0 0 a.2.1 []))
def run:=top fuel (fun a b=>some (b,a,()))
def F:Fn:=fm [mO] [Cc,T2] run
def w(k:Nat)(Rt:K S1 α):List (Nat×dQ α):=[(80,.j S3 (j0 Rt)),(133,.l S2 (l0 k (j0 Rt)) fun _=>[])]
noncomputable def c:Cf:=cn 110 F ⟨Tryz.f110,[20],[iQ.c,ga.c],[aC.s,eL.s,gP.s],[(14,82),(25,82),(28,82),(42,82),(45,82),(50,83),(55,84),(66,84)],[(2,3,2),(1,21,2),(4,206158430229,2),(33,206158430229,2),(57,21,2)],[(2,[.dat false 2 [1],.dat false 2 [2,6]]),(33,[.melt false 6 [1] 62 true])],[],0⟩ S1 top (fun a b=>some (b,a,())) w bV Tryz.func110
end Go.Bx.fL
namespace Go.Bx.cX
def S1:Px:=⟨96,[sr 2,sd 3 T2],[sc 2 Cc]⟩
def S2:Px:=⟨96,[sr 2,sd 4 .str,sr 6,sd 41 T2,sd 42 T2],[se 2 Cc (Rc),se 6 Cc (Ve),sz 61 TN 0]⟩
def S3:Px:=⟨96,[sr 2,sd 4 .str,sr 6],[se 2 Cc (Rc),se 6 Cc (Ve),sz 61 TN 0]⟩
def aR(Nx:N8 α)(Xt0:N9 α):N8 α:=fun a c d e f g h i j k l m n o p q r b=>ite (decide (d<c)) (ite (0<=(0:Int)/\(0:Int)<(a.length:Int)) (ite (0<=(1:Int)/\(1:Int)<=(33:Int)/\(33:Int)<=(a.length:Int)) ((eD.run (aA a 1 33)).bind fun s=>ite (0<=(33:Int)/\(33:Int)<=(65:Int)/\(65:Int)<=(a.length:Int)) ((eD.run (aA a 33 65)).bind fun t=>ite (0<=(65:Int)/\(65:Int)<(a.length:Int)) (ite (eF (b.length+1) 80=true) (ite (0<=(66:Int)/\(66:Int)<=(a.length:Int)/\(a.length:Int)<=(a.length:Int)) (Nx (aA a 66 (a.length:Int)) c (wrap .i64 (d+1)) e f g h i j k l m n o p q r (b++[((wrap .i64 (a.getD 0 0)),(s,t,(wrap .i64 (a.getD 65 0)),()),())])) none) none) none) none) none) none) (Xt0 a e f g h i j k l m n o p q r b)
def l0(k:Nat)(Xt0:N9 α):Nat->N8 α
 |0=>kz (S:=S2)
 |n+1=>aR (l0 k Xt0 n) Xt0
def j0(Rt:Kd α):N9 α:=fun a j k l m n o p b q r s t u v c=>ite (0<=(0:Int)/\(0:Int)<=(8:Int)/\(8:Int)<=(a.length:Int)) ((bf.run (aA a 0 8)).bind fun d=>ite (0<=(8:Int)/\(8:Int)<=(12:Int)/\(12:Int)<=(a.length:Int)) ((bf.run (aA a 8 12)).bind fun e=>ite (0<=(12:Int)/\(12:Int)<=(14:Int)/\(14:Int)<=(a.length:Int)) ((bf.run (aA a 12 14)).bind fun f=>ite (0<=(14:Int)/\(14:Int)<=(46:Int)/\(46:Int)<=(a.length:Int)) ((bd.run (aA a 14 46)).bind fun g=>ite (0<=(46:Int)/\(46:Int)<=(54:Int)/\(54:Int)<=(a.length:Int)) ((bf.run (aA a 46 54)).bind fun h=>ite (0<=(54:Int)/\(54:Int)<(a.length:Int)) (ite (0<=(55:Int)/\(55:Int)<=(a.length:Int)/\(a.length:Int)<=(a.length:Int)) ((bT.run (b,c,(d,e,f,g,h,(wrap .i64 (a.getD 54 0)),(aA a 55 (a.length:Int)),()),())).bind fun i=>ite (i !=0) (Rt i (0,[],tG,())) (Rt 0 (b,c,(d,e,f,g,h,(wrap .i64 (a.getD 54 0)),(aA a 55 (a.length:Int)),()),()))) none) none) none) none) none) none) none
def top(k:Nat)(Rt:Kd α)(a:D0):Option α:=ite (az .str a []) (Rt 4 (0,[],tG,())) (ite (0<=(0:Int)/\(0:Int)<(a.length:Int)) (ite ((a.getD 0 0) !=1) (Rt 3 (0,[],tG,())) (ite (decide ((a.length:Int)<6)) (Rt 4 (0,[],tG,())) (ite (0<=(5:Int)/\(5:Int)<(a.length:Int)) (ite (decide ((wrap .i64 (a.getD 5 0))>19)) (Rt 1 (0,[],tG,())) (ite (decide ((a.length:Int)<(wrap .i64 ((wrap .i64 (6+(wrap .i64 (66*(wrap .i64 (a.getD 5 0))))))+55)))) (Rt 4 (0,[],tG,())) (ite (0<=(1:Int)/\(1:Int)<=(5:Int)/\(5:Int)<=(a.length:Int)) ((bf.run (aA a 1 5)).bind fun b=>ite (0<=(6:Int)/\(6:Int)<=(a.length:Int)/\(a.length:Int)<=(a.length:Int)) (l0 k (j0 Rt) k (aA a 6 (a.length:Int)) (wrap .i64 (a.getD 5 0)) 0 0 0 0 0 (replicate 32 0) 0 0 b 0 0 0 (replicate 32 0) 0 0 []) none) none))) none))) none)
def run:=top fuel (fun a b=>some (b,a,()))
def F:Fn:=fm [mO] [Cc,T2] run
def w(k:Nat)(Rt:K S1 α):List (Nat×dQ α):=[(84,.j S3 (j0 Rt)),(193,.l S2 (l0 k (j0 Rt)) fun _=>[])]
noncomputable def c:Cf:=cn 144 F ⟨Tryz.f144,[21],[bd.c,bf.c,eD.c,bT.c],[],[],[(2,3,2),(1,21,2),(4,1649267441685,2),(48,1649267441685,2),(60,21,2)],[(2,[.dat false 2 []]),(48,[.melt false 6 [1] 61 true])],[],0⟩ S1 top (fun a b=>some (b,a,())) w bV Tryz.func144
end Go.Bx.cX
namespace Go.Bx.gM
def S1:Px:=⟨49,[sr 4,sd 5 T2],[se 4 jI (WQ)]⟩
def top(Rt:Uq α)(h:PQ)(a:D0):Option α:=ite (decide ((a.length:Int)<132)) (Rt 4 0 [0,0,0,0] [0,0,0,0] (replicate 32 0) 0 (replicate 32 0) 0 0 [] [] 0) (ite (0<=(0:Int)/\(0:Int)<=(32:Int)/\(32:Int)<=(a.length:Int)) ((gO.run (aA a 0 32)).bind fun b=>(iQ.run b).bind fun c=>ite (0<=(32:Int)/\(32:Int)<=(64:Int)/\(64:Int)<=(a.length:Int)) ((gO.run (aA a 32 64)).bind fun d=>ite (0<=(64:Int)/\(64:Int)<(a.length:Int)) (ite (0<=(65:Int)/\(65:Int)<(a.length:Int)) (ite (0<=(66:Int)/\(66:Int)<=(98:Int)/\(98:Int)<=(a.length:Int)) ((gO.run (aA a 66 98)).bind fun e=>ite (0<=(98:Int)/\(98:Int)<(a.length:Int)) (ite (0<=(99:Int)/\(99:Int)<(a.length:Int)) (ite (0<=(100:Int)/\(100:Int)<=(132:Int)/\(132:Int)<=(a.length:Int)) ((gO.run (aA a 100 132)).bind fun f=>(iQ.run f).bind fun g=>ite (0<=(132:Int)/\(132:Int)<=(a.length:Int)/\(a.length:Int)<=(a.length:Int)) (ite (eF (0+(aA a 132 (a.length:Int)).length) 1=true) (Rt 0 0 c g d (jP .i64 (fD .i64 (wrap .i64 (a.getD 64 0)) 8) (wrap .i64 (a.getD 65 0))) e (jP .i64 (fD .i64 (wrap .i64 (a.getD 98 0)) 8) (wrap .i64 (a.getD 99 0))) 0 [] (aA a 132 (a.length:Int)) 0) none) none) none) none) none) none) none) none) none) none)
def run:=top (α:=tH×Int×Unit) (fun a b c d e f g h i j k l=>some ((b,c,d,e,f,g,h,i,j,k,l,[],()),a,()))
def F:Fn:=fm [Rp,mO] [jI,T2] run
noncomputable def c:Cf:=cn 264 F ⟨Tryz.f264,[],[iQ.c,gO.c],[],[],[(2,3,4)],[(2,[.dat false 4 [9]])],[47],0⟩ S1 (fun _=>top) (fun a b d e f g h i j k l m=>some ((b,d,e,f,g,h,i,j,k,l,m,[],()),a,())) e0 bV Tryz.func264
end Go.Bx.gM
namespace Go.Bx.eR
def S1:Px:=⟨49,[sr 4,sd 5 T2],[se 4 jI (ME)]⟩
def S2:Px:=⟨49,[sd 1 mO,sr 4,sd 6 T2],[se 4 jI (ME)]⟩
def aR(Nx:Dk α)(Xt0:Dk α):Dk α:=fun b a c d e f g h i j k l=>cond (decide (0<=(wrap .i64 (a-1))/\(wrap .i64 (a-1))<(b.length:Int))|| !((decide (a>35))==true)) (ite (cond (decide (a>35)) ((b.getD (wrap .i64 (a-1)).toNat 0)==0) false) (Nx b (wrap .i64 (a-1)) c d e f g h i j k l) (Xt0 b a c d e f g h i j k l)) none
def l0(k:Nat)(Xt0:Dk α):Nat->Dk α
 |0=>kz (S:=S2)
 |n+1=>aR (l0 k Xt0 n) Xt0
def j0(Rt:RA α):Dk α:=fun a b d e f g h i j k l m=>ite (0<=(0:Int)/\(0:Int)<=(32:Int)/\(32:Int)<=(a.length:Int)) ((gO.run (aA a 0 32)).bind fun c=>ite (0<=(32:Int)/\(32:Int)<(a.length:Int)) (ite (0<=(33:Int)/\(33:Int)<(a.length:Int)) (ite (0<=(34:Int)/\(34:Int)<(a.length:Int)) (ite (0<=(35:Int)/\(35:Int)<=b/\b<=(a.length:Int)) (Rt 0 0 [0,0,0,0] [0,0,0,0] c (jP .i64 (fD .i64 (wrap .i64 (a.getD 32 0)) 8) (wrap .i64 (a.getD 33 0))) (replicate 32 0) 0 (wrap .i64 (a.getD 34 0)) (aA a 35 b) 0) none) none) none) none) none
def top(k:Nat)(Rt:RA α)(b:Unit)(a:D0):Option α:=ite (decide ((a.length:Int)<67)) (Rt 4 0 [0,0,0,0] [0,0,0,0] (replicate 32 0) 0 (replicate 32 0) 0 0 [] 0) (ite (decide ((a.length:Int)>67)) (Rt 3 0 [0,0,0,0] [0,0,0,0] (replicate 32 0) 0 (replicate 32 0) 0 0 [] 0) (l0 k (j0 Rt) k a 67 0 [0,0,0,0] [0,0,0,0] (replicate 32 0) 0 (replicate 32 0) 0 0 [] 0))
def run:=top (α:=tH×Int×Unit) fuel (fun a b c d e f g h i j k=>some ((b,c,d,e,f,g,h,i,j,[],k,[],()),a,()))
def F:Fn:=fm [.unit,mO] [jI,T2] run
def w(k:Nat)(Rt:K S1 α):List (Nat×dQ α):=[(36,.j S2 (j0 Rt)),(73,.l S2 (l0 k (j0 Rt)) fun _=>[])]
noncomputable def c:Cf:=cn 272 F ⟨Tryz.f272,[9],[gO.c],[],[],[(2,3,4),(1,41,1),(4,41,1),(18,41,1),(24,41,1)],[],[],0⟩ S1 top (fun a b d e f g h i j k l=>some ((b,d,e,f,g,h,i,j,k,[],l,[],()),a,())) w bV Tryz.func272
end Go.Bx.eR
namespace Go.Bx.eS
def S1:Px:=⟨78,[sr 4,sd 5 T2],[se 4 jI (WR)]⟩
def S2:Px:=⟨78,[sd 1 mO,sr 4,sr 6,sd 59 T2,sd 60 T2],[se 4 jI (ME),se 6 jI (Vd),sz 74 tJ 0]⟩
def S3:Px:=⟨78,[sr 4,sr 6],[se 4 jI (ME),se 6 jI (Vd),sz 74 tJ 0]⟩
def aR(Nx:Nv α)(Xt0:GA α):Nv α:=fun a d b e f g h i j k l m n o p q r s t u v w x c=>ite (decide (b<d)) (ite (0<=(wrap .i64 (5+(wrap .i64 (20*b))))/\(wrap .i64 (5+(wrap .i64 (20*b))))<=(a.length:Int)/\(a.length:Int)<=(a.length:Int)) (ite (eF (c.length+1) 20=true) (Nx a d (wrap .i64 (b+1)) e f g h i j k l m n o p q r s t u v w x (c++[(Au Ci 0 20 (aA a (wrap .i64 (5+(wrap .i64 (20*b)))) (a.length:Int)))])) none) none) (Xt0 e f g h i j k l m n o p q r s t u v w x c)
def l0(k:Nat)(Xt0:GA α):Nat->Nv α
 |0=>kz (S:=S2)
 |n+1=>aR (l0 k Xt0 n) Xt0
def j0(Rt:RB α):GA α:=fun l m n o p q r s t u a b c d e f g h i j k=>Rt 0 a b c d e f g h i j k
def top(k:Nat)(Rt:RB α)(b:Unit)(a:D0):Option α:=cond (decide (0<=(4:Int)/\(4:Int)<(a.length:Int))|| !((decide ((a.length:Int)<5))==false)) (ite (cond (decide ((a.length:Int)<5)) true (decide ((a.length:Int)<(wrap .i64 (5+(wrap .i64 (20*(wrap .i64 (a.getD 4 0))))))))) (Rt 4 0 [0,0,0,0] [0,0,0,0] (replicate 32 0) 0 (replicate 32 0) 0 0 [] 0 []) (ite (0<=(0:Int)/\(0:Int)<(a.length:Int)) (ite (0<=(1:Int)/\(1:Int)<(a.length:Int)) (ite (0<=(2:Int)/\(2:Int)<(a.length:Int)) (ite (0<=(3:Int)/\(3:Int)<(a.length:Int)) (ite (0<=(4:Int)/\(4:Int)<(a.length:Int)) (ite (decide ((a.length:Int)>(wrap .i64 (5+(wrap .i64 (20*(wrap .i64 (a.getD 4 0)))))))) (Rt 3 0 [0,0,0,0] [0,0,0,0] (replicate 32 0) 0 (replicate 32 0) 0 0 [] 0 []) (l0 k (j0 Rt) k a (wrap .i64 (a.getD 4 0)) 0 0 [0,0,0,0] [0,0,0,0] (replicate 32 0) 0 (replicate 32 0) 0 0 [] 0 0 [0,0,0,0] [0,0,0,0] (replicate 32 0) 0 (replicate 32 0) 0 0 [] (jP .i64 (jP .i64 (jP .i64 (fD .i64 (wrap .i64 (a.getD 0 0)) 24) (fD .i64 (wrap .i64 (a.getD 1 0)) 16)) (fD .i64 (wrap .i64 (a.getD 2 0)) 8)) (wrap .i64 (a.getD 3 0))) [])) none) none) none) none) none)) none
def run:=top (α:=tH×Int×Unit) fuel (fun a b c d e f g h i j k l=>some ((b,c,d,e,f,g,h,i,j,[],k,l,()),a,()))
def F:Fn:=fm [.unit,mO] [jI,T2] run
def w(k:Nat)(Rt:K S1 α):List (Nat×dQ α):=[(60,.j S3 (j0 Rt)),(97,.l S2 (l0 k (j0 Rt)) fun _=>[])]
noncomputable def c:Cf:=cn 276 F ⟨Tryz.f276,[15],[],[],[],[(2,3,4),(1,5,4),(4,864691128455135273,1),(24,864691128455135273,1),(42,5,4)],[(2,[.dat false 4 [11]]),(24,[.melt false 6 [11] 74 true])],[],0⟩ S1 top (fun a b d e f g h i j k l m=>some ((b,d,e,f,g,h,i,j,k,[],l,m,()),a,())) w bV Tryz.func276
end Go.Bx.eS
namespace Go.Bx.kI
def S1:Px:=⟨47,[sr 2,sd 3 T2],[sc 2 jI]⟩
def top(Rt:GB α)(a:D0):Option α:=ite ((a.length:Int)==0) (Rt 4 (0,[0,0,0,0],[0,0,0,0],(replicate 32 0),0,(replicate 32 0),0,0,[],[],0,[],())) (ite (0<=(0:Int)/\(0:Int)<(a.length:Int)) ((cH.run (wrap .i64 (a.getD 0 0))).bind fun i=>(Sum.elim (fun f=>ite (not f.2.1) (Rt 2 (0,[0,0,0,0],[0,0,0,0],(replicate 32 0),0,(replicate 32 0),0,0,[],[],0,[],())) (ite (0<=(1:Int)/\(1:Int)<=(a.length:Int)/\(a.length:Int)<=(a.length:Int)) ((gM.run f.1 (aA a 1 (a.length:Int))).bind fun b=>ite (b.2.1 !=0) (Rt b.2.1 (0,[0,0,0,0],[0,0,0,0],(replicate 32 0),0,(replicate 32 0),0,0,[],[],0,[],())) (ite (0<=(0:Int)/\(0:Int)<(a.length:Int)) ((cZ.run ((wrap .i64 (a.getD 0 0)),b.1.2)).bind fun j=>ite (j !=0) (Rt 3 (0,[0,0,0,0],[0,0,0,0],(replicate 32 0),0,(replicate 32 0),0,0,[],[],0,[],())) (Rt 0 ((wrap .i64 (a.getD 0 0)),b.1.2))) none)) none)) (Sum.elim (fun g=>ite (not g.2.1) (Rt 2 (0,[0,0,0,0],[0,0,0,0],(replicate 32 0),0,(replicate 32 0),0,0,[],[],0,[],())) (ite (0<=(1:Int)/\(1:Int)<=(a.length:Int)/\(a.length:Int)<=(a.length:Int)) ((eR.run g.1 (aA a 1 (a.length:Int))).bind fun c=>ite (c.2.1 !=0) (Rt c.2.1 (0,[0,0,0,0],[0,0,0,0],(replicate 32 0),0,(replicate 32 0),0,0,[],[],0,[],())) (ite (0<=(0:Int)/\(0:Int)<(a.length:Int)) ((cZ.run ((wrap .i64 (a.getD 0 0)),c.1.2)).bind fun k=>ite (k !=0) (Rt 3 (0,[0,0,0,0],[0,0,0,0],(replicate 32 0),0,(replicate 32 0),0,0,[],[],0,[],())) (Rt 0 ((wrap .i64 (a.getD 0 0)),c.1.2))) none)) none)) (Sum.elim (fun h=>ite (not h.2.1) (Rt 2 (0,[0,0,0,0],[0,0,0,0],(replicate 32 0),0,(replicate 32 0),0,0,[],[],0,[],())) (ite (0<=(1:Int)/\(1:Int)<=(a.length:Int)/\(a.length:Int)<=(a.length:Int)) ((eS.run h.1 (aA a 1 (a.length:Int))).bind fun d=>ite (d.2.1 !=0) (Rt d.2.1 (0,[0,0,0,0],[0,0,0,0],(replicate 32 0),0,(replicate 32 0),0,0,[],[],0,[],())) (ite (0<=(0:Int)/\(0:Int)<(a.length:Int)) ((cZ.run ((wrap .i64 (a.getD 0 0)),d.1.2)).bind fun l=>ite (l !=0) (Rt 3 (0,[0,0,0,0],[0,0,0,0],(replicate 32 0),0,(replicate 32 0),0,0,[],[],0,[],())) (Rt 0 ((wrap .i64 (a.getD 0 0)),d.1.2))) none)) none)) (Sum.elim (fun m=>ite (not m.1) (Rt 2 (0,[0,0,0,0],[0,0,0,0],(replicate 32 0),0,(replicate 32 0),0,0,[],[],0,[],())) (ite (0<=(1:Int)/\(1:Int)<=(a.length:Int)/\(a.length:Int)<=(a.length:Int)) (none) none)) (fun e=>e.elim))))) i) none)
def run:=top (fun a b=>some (b,a,()))
def F:Fn:=fm [mO] [jI,T2] run
noncomputable def c:Cf:=cn 114 F ⟨Tryz.f114,[],[cZ.c,gM.c,eR.c,eS.c],[cH.s],[(17,48)],[(2,3,2)],[(2,[.dat false 2 []])],[],0⟩ S1 (fun _=>top) (fun a b=>some (b,a,())) e0 bV Tryz.func114
end Go.Bx.kI
namespace Go.Bx.aW
def S1:Px:=⟨147,[sr 2,sd 3 T2],[sc 2 jI]⟩
def S2:Px:=⟨147,[sr 2,sd 4 .str,sr 5,sd 20 T2,sd 22 .bool],[se 2 jI (ME),se 5 jI (ME)]⟩
def S3:Px:=⟨147,[sr 2,sr 5],[se 2 jI (ME),se 5 jI (WC),sz 140 tJ 0]⟩
def j1(Rt:GB α):UK α:=fun n o p q r s t u v w a b c d e f g h i j k l=>(ak.run (a,b,c,d,e,f,g,h,i,j,k,l,())).bind fun m=>ite (m !=0) (Rt 3 (0,[0,0,0,0],[0,0,0,0],(replicate 32 0),0,(replicate 32 0),0,0,[],[],0,[],())) (Rt 0 (a,b,c,d,e,f,g,h,i,j,k,l,()))
def S4:Px:=⟨147,[sr 2,sd 4 .str,sr 5,sd 6 .str],[se 2 jI (ME),se 5 jI (ME)]⟩
def aR(Nx:Dr α)(Xt1:Dr α):Dr α:=fun b a c d e f g h i j k l m n o p q r s t u v=>cond (decide (0<=(wrap .i64 ((a.length:Int)-1))/\(wrap .i64 ((a.length:Int)-1))<(a.length:Int))|| !((not (az .str a []))==true)) (ite (cond (not (az .str a [])) ((a.getD (wrap .i64 ((a.length:Int)-1)).toNat 0)==0) false) (ite (0<=(0:Int)/\(0:Int)<=(wrap .i64 ((a.length:Int)-1))/\(wrap .i64 ((a.length:Int)-1))<=(a.length:Int)) (Nx b (aA a 0 (wrap .i64 ((a.length:Int)-1))) c d e f g h i j k l m n o p q r s t u v) none) (Xt1 b a c d e f g h i j k l m n o p q r s t u v)) none
def l0(k:Nat)(Xt1:Dr α):Nat->Dr α
 |0=>kz (S:=S4)
 |n+1=>aR (l0 k Xt1 n) Xt1
def j2(Rt:GB α):Dr α:=fun a b c d e f g h i j k l m n o u v p q w x r=>ite (0<=(0:Int)/\(0:Int)<=(32:Int)/\(32:Int)<=(a.length:Int)) ((bd.run (aA a 0 32)).bind fun s=>ite (0<=(32:Int)/\(32:Int)<=(34:Int)/\(34:Int)<=(a.length:Int)) ((bf.run (aA a 32 34)).bind fun t=>ite (0<=(34:Int)/\(34:Int)<(a.length:Int)) (j1 Rt c d e f g h i j k l m n o s t p q (wrap .i64 (a.getD 34 0)) b [] r []) none) none) none
def S5:Px:=⟨147,[sr 2,sd 4 .str,sr 5],[se 2 jI (ME),se 5 jI (WB),sz 140 tJ 0]⟩
def ly(Nx:Od α)(Xt3:GA α):Od α:=fun a c d e f g h i j k l m n o p q r s t u v b=>ite (not (az .str a [])) (ite (eF (b.length+1) 20=true) (ite (0<=(20:Int)/\(20:Int)<=(a.length:Int)/\(a.length:Int)<=(a.length:Int)) (Nx (aA a 20 (a.length:Int)) c d e f g h i j k l m n o p q r s t u v (b++[(Au Ci 0 20 a)])) none) none) (Xt3 c d e f g h i j k l m n o p q r s t u v b)
def l1(k:Nat)(Xt3:GA α):Nat->Od α
 |0=>kz (S:=S5)
 |n+1=>ly (l1 k Xt3 n) Xt3
def j0(k:Nat)(Rt:GB α):UL α:=fun a w x b c d e f g h i j l m p q r s t u n o v=>ite x (ite (decide ((a.length:Int)<132)) (Rt 4 (0,[0,0,0,0],[0,0,0,0],(replicate 32 0),0,(replicate 32 0),0,0,[],[],0,[],())) (ite (0<=(0:Int)/\(0:Int)<=(32:Int)/\(32:Int)<=(a.length:Int)) ((eD.run (aA a 0 32)).bind fun y=>ite (0<=(32:Int)/\(32:Int)<=(64:Int)/\(64:Int)<=(a.length:Int)) ((bd.run (aA a 32 64)).bind fun z=>ite (0<=(64:Int)/\(64:Int)<=(66:Int)/\(66:Int)<=(a.length:Int)) ((bf.run (aA a 64 66)).bind fun A=>ite (0<=(66:Int)/\(66:Int)<=(98:Int)/\(98:Int)<=(a.length:Int)) ((bd.run (aA a 66 98)).bind fun B=>ite (0<=(98:Int)/\(98:Int)<=(100:Int)/\(100:Int)<=(a.length:Int)) ((bf.run (aA a 98 100)).bind fun C=>ite (0<=(100:Int)/\(100:Int)<=(132:Int)/\(132:Int)<=(a.length:Int)) ((eD.run (aA a 100 132)).bind fun D=>ite (0<=(132:Int)/\(132:Int)<=(a.length:Int)/\(a.length:Int)<=(a.length:Int)) (j1 Rt b c d e f g h i j l m y D z A B C n o (aA a 132 (a.length:Int)) v []) none) none) none) none) none) none) none)) (ite (w==2) (ite (decide ((a.length:Int)<67)) (Rt 4 (0,[0,0,0,0],[0,0,0,0],(replicate 32 0),0,(replicate 32 0),0,0,[],[],0,[],())) (ite (decide ((a.length:Int)>67)) (Rt 3 (0,[0,0,0,0],[0,0,0,0],(replicate 32 0),0,(replicate 32 0),0,0,[],[],0,[],())) (ite (0<=(35:Int)/\(35:Int)<=(a.length:Int)/\(a.length:Int)<=(a.length:Int)) (l0 k (j2 Rt) k a (aA a 35 (a.length:Int)) b c d e f g h i j l m p q r s t u n o v) none))) (ite (w==4) (cond (decide (0<=(4:Int)/\(4:Int)<(a.length:Int))|| !((decide ((a.length:Int)<5))==false)) (ite (cond (decide ((a.length:Int)<5)) true (decide ((a.length:Int)<(wrap .i64 (5+(wrap .i64 (20*(wrap .i64 (a.getD 4 0))))))))) (Rt 4 (0,[0,0,0,0],[0,0,0,0],(replicate 32 0),0,(replicate 32 0),0,0,[],[],0,[],())) (ite (0<=(4:Int)/\(4:Int)<(a.length:Int)) (ite (decide ((a.length:Int)>(wrap .i64 (5+(wrap .i64 (20*(wrap .i64 (a.getD 4 0)))))))) (Rt 3 (0,[0,0,0,0],[0,0,0,0],(replicate 32 0),0,(replicate 32 0),0,0,[],[],0,[],())) (ite (0<=(0:Int)/\(0:Int)<=(4:Int)/\(4:Int)<=(a.length:Int)) ((bf.run (aA a 0 4)).bind fun E=>ite (0<=(5:Int)/\(5:Int)<=(a.length:Int)/\(a.length:Int)<=(a.length:Int)) (l1 k (fun b c d e f g h i j l m p q r s t u n o v F=>j1 Rt b c d e f g h i j l m p q r s t u n o [] v F) k (aA a 5 (a.length:Int)) b c d e f g h i j l m p q r s t u n o E []) none) none)) none)) none) (Rt 2 (0,[0,0,0,0],[0,0,0,0],(replicate 32 0),0,(replicate 32 0),0,0,[],[],0,[],()))))
def top(k:Nat)(Rt:GB α)(a:D0):Option α:=ite (az .str a []) (Rt 4 (0,[0,0,0,0],[0,0,0,0],(replicate 32 0),0,(replicate 32 0),0,0,[],[],0,[],())) (ite (0<=(0:Int)/\(0:Int)<(a.length:Int)) (ite (0<=(1:Int)/\(1:Int)<=(a.length:Int)/\(a.length:Int)<=(a.length:Int)) (ite ((wrap .i64 (a.getD 0 0))==1) (j0 k Rt (aA a 1 (a.length:Int)) (wrap .i64 (a.getD 0 0)) ((wrap .i64 (a.getD 0 0))==1) 0 [0,0,0,0] [0,0,0,0] (replicate 32 0) 0 (replicate 32 0) 0 0 [] 0 (wrap .i64 (a.getD 0 0)) [0,0,0,0] [0,0,0,0] (replicate 32 0) 0 (replicate 32 0) 0 0 [] 0) (j0 k Rt (aA a 1 (a.length:Int)) (wrap .i64 (a.getD 0 0)) ((wrap .i64 (a.getD 0 0))==3) 0 [0,0,0,0] [0,0,0,0] (replicate 32 0) 0 (replicate 32 0) 0 0 [] 0 (wrap .i64 (a.getD 0 0)) [0,0,0,0] [0,0,0,0] (replicate 32 0) 0 (replicate 32 0) 0 0 [] 0)) none) none)
def run:=top fuel (fun a b=>some (b,a,()))
def F:Fn:=fm [mO] [jI,T2] run
def w(k:Nat)(Rt:K S1 α):List (Nat×dQ α):=[(140,.j S3 (j1 Rt)),(88,.j S4 (j2 Rt)),(229,.l S4 (l0 k (j2 Rt)) fun _=>[]),(349,.l S5 (l1 k (fun a b c d e f g h i m n o p q r s t u v x y=>j1 Rt a b c d e f g h i m n o p q r s t u v [] x y)) fun _=>[]),(44,.j S2 (j0 k Rt))]
noncomputable def c:Cf:=cn 148 F ⟨Tryz.f148,[11,22,35],[bd.c,ak.c,bf.c,eD.c],[],[],[(2,3,2),(1,9,2),(4,29,2),(7,29,2),(10,9,2),(13,13,2),(38,1310733,2),(57,29,2),(63,29,2),(87,13,2),(102,9,2)],[(2,[.dat false 2 [9],.dat false 2 [11]]),(87,[.melt false 5 [11] 140 true]),(102,[.dat false 5 [9],.melt false 5 [11] 140 true])],[],0⟩ S1 top (fun a b=>some (b,a,())) w bV Tryz.func148
end Go.Bx.aW
namespace Go.Bx.fw
def S1:Px:=⟨23,[(3,.app 21 0),(6,.app 0 1),sd 7 T2,sd 8 T2],[sz 0 jq 1,sb 21 jq 0]⟩
def S2:Px:=⟨23,[(3,.app 21 0)],[sz 0 jq 1,sb 21 jq 0]⟩
def aR(Nx:Ny α)(Xt0:GC α):Ny α:=fun d a b c=>ite (decide (a<d)) (ite (0<=a/\a<(b.length:Int)) (ite ((eF (0+(b.getD a.toNat (0,[],0,())).2.1.length) 20&&(beq 0 0||blt 0 (b.getD a.toNat (0,[],0,())).2.1.length))=true) (ite (eF (c.length+1) 40=true) (Nx d (wrap .i64 (a+1)) b (c++[((b.getD a.toNat (0,[],0,())).1,(b.getD a.toNat (0,[],0,())).2.1,(b.getD a.toNat (0,[],0,())).2.2.1,())])) none) none) none) (Xt0 b c)
def l0(k:Nat)(Xt0:GC α):Nat->Ny α
 |0=>kz (S:=S1)
 |n+1=>aR (l0 k Xt0 n) Xt0
def S3:Px:=⟨23,[(2,.app 21 0)],[sz 0 jq 1,sb 21 jq 0]⟩
def j0(Rt:GC α):GC α:=fun a b=>Rt a b
def top(k:Nat)(Rt:GC α)(a:D8):Option α:=l0 k (j0 Rt) k (a.length:Int) 0 a []
def run:=top fuel (fun a b=>some (a,b,()))
def Sp:Spec:=tE [.app 0 0] [(0,hB jq 0 true)] [mi] (.app 21 0) [(0,hB jq 1 true),(21,hB jq 0 false)] [mi,mi] run
def w(k:Nat)(Rt:K S3 α):List (Nat×dQ α):=[(36,.j S2 (j0 Rt)),(37,.l S1 (l0 k (j0 Rt)) fun _=>[])]
noncomputable def s:Sf:=sn 99 Sp ⟨Tryz.f99,[9],[],[],[],[(2,1,2),(1,1,3),(4,57,3),(9,57,3),(24,1,3)],[(9,[.melt true 3 [] 20 false])],[],1⟩ S3 top ri w bV Tryz.func99
end Go.Bx.fw
namespace Go.Bx.oC
def S1:Px:=⟨44,[sr 6,sd 7 T2],[sc 6 jq]⟩
def top(Rt:Ry α)(b:D8)(a e:Int):Option α:=(cc.run b).bind fun d=>ite (d !=0) (Rt d (0,[],0,())) (ite (cond (decide (a<0)) true (decide (a>=(b.length:Int)))) (Rt 5 (0,[],0,())) (ite (0<=a/\a<=(wrap .i64 (a+1))/\(wrap .i64 (a+1))<=(b.length:Int)) ((gk.run (aA b a (wrap .i64 (a+1)))).bind fun c=>ite (0<=(0:Int)/\(0:Int)<(c.length:Int)) (ite (cond ((c.getD 0 (0,[],0,())).2.2.1 !=0) (decide (e>=(c.getD 0 (0,[],0,())).2.2.1)) false) (Rt 15 (0,[],0,())) (Rt 0 (c.getD 0 (0,[],0,())))) none) none))
def run:=top (fun a b=>some (b,a,()))
def F:Fn:=fm [mi,T2,T2] [jq,T2] run
noncomputable def c:Cf:=cn 111 F ⟨Tryz.f111,[],[cc.c,gk.c],[],[],[(2,3,6)],[(2,[.dat false 6 []])],[],0⟩ S1 (fun _=>top) (fun a b=>some (b,a,())) e0 bV Tryz.func111
end Go.Bx.oC
namespace Go.Bx.gI
def S1:Px:=⟨44,[sr 6,sd 7 T2],[sc 6 jq]⟩
def top(Rt:Ry α)(b:D8)(a d:Int):Option α:=(bD.run b).bind fun c=>ite (c !=0) (Rt c (0,[],0,())) (ite (cond (decide (a<0)) true (decide (a>=(b.length:Int)))) (Rt 5 (0,[],0,())) (ite (0<=a/\a<(b.length:Int)) (cond (decide (0<=a/\a<(b.length:Int))|| !(((b.getD a.toNat (0,[],0,())).2.2.1 !=0)==true)) (ite (cond ((b.getD a.toNat (0,[],0,())).2.2.1 !=0) (decide ((b.getD a.toNat (0,[],0,())).2.2.1<=d)) false) (Rt 15 (0,[],0,())) (ite (0<=a/\a<(b.length:Int)) (Rt 0 (b.getD a.toNat (0,[],0,()))) none)) none) none))
def run:=top (fun a b=>some (b,a,()))
def F:Fn:=fm [mi,T2,T2] [jq,T2] run
noncomputable def c:Cf:=cn 145 F ⟨Tryz.f145,[],[bD.c],[],[],[(2,3,6)],[(2,[.dat false 6 []])],[],0⟩ S1 (fun _=>top) (fun a b=>some (b,a,())) e0 bV Tryz.func145
end Go.Bx.gI
namespace Go.Bx.hU
def S1:Px:=⟨14,[],[sc 0 T1,sc 1 T1,sc 2 T1]⟩
def top(Rt:wG α)(e:Bool)(c a b:D0):Option α:=(kV.run c c a).bind fun d=>ite e ((kV.run d b a).bind fun f=>Rt f a b) (Rt d a b)
def run:=top (fun a b c=>some (a,b,c,()))
def Sp:Spec:=tE [hD .bool,.ref 0 0 [],.ref 1 0 [],.ref 2 0 []] [(0,hC T1 (hD T1) false),(1,hC T1 (hD T1) false),(2,hC T1 (hD T1) false)] [.bool,T1,T1,T1] (.tup []) [(0,hC T1 (hD T1) false),(1,hC T1 (hD T1) false),(2,hC T1 (hD T1) false)] [T1,T1,T1] run
noncomputable def s:Sf:=sn 234 Sp ⟨Tryz.f234,[],[kV.c],[],[],[(2,0,0)],[],[],3⟩ S1 (fun _=>top) ri e0 bV Tryz.func234
end Go.Bx.hU
