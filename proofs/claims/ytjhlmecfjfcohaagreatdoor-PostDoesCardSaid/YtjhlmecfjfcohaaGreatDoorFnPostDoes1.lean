/- Go functions of this seat in their own words of Lean, each tied to its code by a contract. -/
import Derived.Test.YtjhlmecfjfcohaaGreatDoorGBase
import Derived.Test.YtjhlmecfjfcohaaGreatDoorFnPostDoes0
import Derived.Test.YtjhlmecfjfcohaaGreatDoorCxZj
open Int (tdiv tmod)
open List (replicate)
open Nat (ble blt)
open Go Go.Proofs Go.Bx
open Go.IntKind (wrap)
set_option maxHeartbeats 4000000
set_option maxRecDepth 100000
set_option linter.unusedVariables false
variable {α : Type}
namespace Go.Bx.bH
def S1 : Px:=⟨52,[sr 4,sd 5 T1],[sc 4 sk]⟩
def S2 : Px:=⟨52,[sr 4,sd 7 .str,sr 8],[sc 4 sk,sc 8 ln]⟩
def bq (Nx : BO α) (Xt0 : BO α) : BO α:=fun a b c=>ite (decide ((a.length : Int) >= 136)) (ite (0 <= (0 : Int) /\ (0 : Int) <= (136 : Int) /\ (136 : Int) <= (a.length : Int)) ((bc.run c (ay a 0 136)).bind fun d=>ite (0 <= (136 : Int) /\ (136 : Int) <= (a.length : Int) /\ (a.length : Int) <= (a.length : Int)) (Nx (ay a 136 (a.length : Int)) b d) none) none) (Xt0 a b c)
def l0 (k : Nat) (Xt0 : BO α) : Nat->BO α
 | 0=>kz (S:=S2)
 | n + 1=>bq (l0 k Xt0 n) Xt0
def S3 : Px:=⟨52,[sr 4,sd 7 .str,sr 9,sd 10 T1],[sc 4 sk,sc 9 sk]⟩
def S4 : Px:=⟨52,[sr 4,sr 9],[sc 4 sk,sc 9 sk]⟩
def me (Nx : J7 α) (Xt2 : CK α) : J7 α:=fun b a d c=>ite (decide (a < (b.length : Int))) (ite (0 <= a /\ a < (b.length : Int)) (ite (0 <= a /\ a < (136 : Int)) (Nx b (wrap .i64 (a + 1)) d (c.1,(c.2.1.set a.toNat (b.getD a.toNat 0)),c.2.2)) none) none) (Xt2 d c)
def l1 (k : Nat) (Xt2 : CK α) : Nat->J7 α
 | 0=>kz (S:=S3)
 | n + 1=>me (l1 k Xt2 n) Xt2
def j1 (Rt : Ec α) : CK α:=fun b a=>Rt 0 a
def j0 (k : Nat) (Rt : Ec α) : BO α:=fun a b c=>l1 k (j1 Rt) k a 0 b (c,(replicate 136 0),(a.length : Int),())
def top (k : Nat) (Rt : Ec α) (a : qW) (b : D1) : Option α:=(bI.run a).bind fun c=>ite c (Rt 12 ((replicate 25 0),(replicate 136 0),0,())) (ite (0 <= (0 : Int) /\ (0 : Int) <= a.2.2.1 /\ a.2.2.1 <= ((ay a.2.1 0 136).length : Int)) (ite (ble ((ay (ay a.2.1 0 136) 0 a.2.2.1).length + b.length) 9223372036854775807 = true) (l0 k (j0 k Rt) k ((ay (ay a.2.1 0 136) 0 a.2.2.1) ++ b) ((replicate 25 0),(replicate 136 0),0,()) a.1) none) none)
def run:=top fuel (fun a b=>some (b,a,()))
def F : Fn:=fm [sk,T5] [sk,T1] run
def w (k : Nat) (Rt : K S1 α) : List (Nat × ee α):=[(56,.j S4 (j1 Rt)),(121,.l S3 (l1 k (j1 Rt)) fun _=>[]),(36,.j S2 (j0 k Rt)),(73,.l S2 (l0 k (j0 k Rt)) fun _=>[])]
noncomputable def c : Cf:=cn 174 F ⟨Tryz.f174,[9,14],[bI.c,bc.c],[],[],[(2,3,4),(7,33,4),(10,105,4),(1,25,4),(4,25,4),(18,25,4),(24,25,4),(30,105,4),(39,33,4)],[],[],0⟩ S1 top (fun a b=>some (b,a,())) w bY Tryz.func174
end Go.Bx.bH
namespace Go.Bx.fY
def S1 : Px:=⟨42,[sr 2,sd 3 T1],[sc 2 eb]⟩
def S2 : Px:=⟨42,[sr 1,sr 2,sr 5,sd 25 T1],[sc 1 sk,sc 2 eb,sc 5 eb]⟩
def S3 : Px:=⟨42,[sr 2,sr 5],[sc 2 eb,sc 5 eb]⟩
def bq (Nx : Qu α) (Xt0 : ff α) : Qu α:=fun a b c d=>ite (decide (a < 32)) (ite (0 <= (wrap .i64 (tdiv a 8)) /\ (wrap .i64 (tdiv a 8)) < (25 : Int)) (ite (0 <= (wrap .i64 (8 * (tmod a 8)))) (ite (0 <= a /\ a < (32 : Int)) (Nx (wrap .i64 (a + 1)) b c (d.set a.toNat (wrap .u8 (fh .u64 (b.1.getD (wrap .i64 (tdiv a 8)).toNat 0) (wrap .i64 (8 * (tmod a 8))))))) none) none) none) (Xt0 c d)
def l0 (k : Nat) (Xt0 : ff α) : Nat->Qu α
 | 0=>kz (S:=S2)
 | n + 1=>bq (l0 k Xt0 n) Xt0
def j0 (Rt : jJ α) : ff α:=fun b a=>Rt 0 a
def top (k : Nat) (Rt : jJ α) (a : qW) : Option α:=(ek.run a).bind fun b=>ite (b != 0) (Rt b (replicate 32 0)) (ite (0 <= a.2.2.1 /\ a.2.2.1 < (136 : Int)) ((d9.run (a.1,((a.2.1.set a.2.2.1.toNat 1).set 135 (jq .u8 ((a.2.1.set a.2.2.1.toNat 1).getD 135 0) 128)),a.2.2)).bind fun c=>l0 k (j0 Rt) k 0 c (replicate 32 0) (replicate 32 0)) none)
def run:=top fuel (fun a b=>some (b,a,()))
def F : Fn:=fm [sk] [eb,T1] run
def w (k : Nat) (Rt : K S1 α) : List (Nat × ee α):=[(56,.j S3 (j0 Rt)),(109,.l S2 (l0 k (j0 Rt)) fun _=>[])]
noncomputable def c : Cf:=cn 157 F ⟨Tryz.f157,[14],[ek.c,d9.c],[],[],[(2,3,2),(1,9,2),(4,16777235,1),(27,16777235,1),(39,9,2)],[],[],0⟩ S1 top (fun a b=>some (b,a,())) w bY Tryz.func157
end Go.Bx.fY
namespace Go.Bx.cV
def S1 : Px:=⟨44,[sr 2,sd 3 T1],[sc 2 eb]⟩
def S2 : Px:=⟨44,[sr 2,sr 5,sr 6,sd 28 T1],[sc 2 eb,sc 5 ln,sc 6 eb]⟩
def S3 : Px:=⟨44,[sr 2,sr 6],[sc 2 eb,sc 6 eb]⟩
def bq (Nx : Dx α) (Xt0 : ff α) : Dx α:=fun a b c d=>ite (decide (a < 32)) (ite (0 <= (wrap .i64 (tdiv a 8)) /\ (wrap .i64 (tdiv a 8)) < (25 : Int)) (ite (0 <= (wrap .i64 ((tmod a 8) * 8))) (ite (0 <= a /\ a < (32 : Int)) (Nx (wrap .i64 (a + 1)) b c (d.set a.toNat (wrap .u8 (fh .u64 (c.getD (wrap .i64 (tdiv a 8)).toNat 0) (wrap .i64 ((tmod a 8) * 8)))))) none) none) none) (Xt0 b d)
def l0 (k : Nat) (Xt0 : ff α) : Nat->Dx α
 | 0=>kz (S:=S2)
 | n + 1=>bq (l0 k Xt0 n) Xt0
def j0 (Rt : jJ α) : ff α:=fun b a=>Rt 0 a
def top (k : Nat) (Rt : jJ α) (a : qW) : Option α:=(bI.run a).bind fun b=>ite b (Rt 12 (replicate 32 0)) (ite (0 <= a.2.2.1 /\ a.2.2.1 < (136 : Int)) (ite (0 <= a.2.2.1 /\ a.2.2.1 < (136 : Int)) ((bc.run a.1 (ay ((a.2.1.set a.2.2.1.toNat (ae .u8 (a.2.1.getD a.2.2.1.toNat 0) 1)).set 135 (ae .u8 ((a.2.1.set a.2.2.1.toNat (ae .u8 (a.2.1.getD a.2.2.1.toNat 0) 1)).getD 135 0) 128)) 0 136)).bind fun c=>l0 k (j0 Rt) k 0 (replicate 32 0) c (replicate 32 0)) none) none)
def run:=top fuel (fun a b=>some (b,a,()))
def F : Fn:=fm [sk] [eb,T1] run
def w (k : Nat) (Rt : K S1 α) : List (Nat × ee α):=[(56,.j S3 (j0 Rt)),(109,.l S2 (l0 k (j0 Rt)) fun _=>[])]
noncomputable def c : Cf:=cn 175 F ⟨Tryz.f175,[14],[bI.c,bc.c],[],[],[(2,3,2),(1,17,2),(4,67108889,2),(27,67108889,2),(39,17,2)],[],[],0⟩ S1 top (fun a b=>some (b,a,())) w bY Tryz.func175
end Go.Bx.cV
namespace Go.Bx.lK
def S1 : Px:=⟨2,[sr 0],[sc 0 sk]⟩
def top (Rt : Qf α) : Option α:=Rt ((replicate 25 0),(replicate 136 0),0,())
def run:=top (fun a=>some a)
def F : Fn:=fo [] sk run
noncomputable def c : Cf:=cn 156 F ⟨Tryz.f156,[],[],[],[],[(2,1,0)],[],[],0⟩ S1 (fun _=>top) (fun a=>some a) e0 bY Tryz.func156
end Go.Bx.lK
namespace Go.Bx.jh
def S1 : Px:=⟨19,[sr 2],[sc 2 eb]⟩
def top (Rt : cf α) (a : D1) : Option α:=(lK.run).bind fun b=>(fD.run b a).bind fun c=>(fY.run c.1).bind fun d=>Rt d.1
def run:=top (fun a=>some a)
def F : Fn:=fo [T5] eb run
noncomputable def c : Cf:=cn 124 F ⟨Tryz.f124,[],[fD.c,lK.c,fY.c],[],[],[(2,1,2)],[],[],0⟩ S1 (fun _=>top) (fun a=>some a) e0 bY Tryz.func124
end Go.Bx.jh
namespace Go.Bx.fb
def S1 : Px:=⟨20,[sr 2],[sc 2 eb]⟩
def top (Rt : cf α) (a : D1) : Option α:=(bH.run ((replicate 25 0),(replicate 136 0),0,()) a).bind fun b=>(cV.run b.1).bind fun c=>Rt c.1
def run:=top (fun a=>some a)
def F : Fn:=fo [.str] eb run
noncomputable def c : Cf:=cn 140 F ⟨Tryz.f140,[],[bH.c,cV.c],[],[],[(2,1,2)],[],[],0⟩ S1 (fun _=>top) (fun a=>some a) e0 bY Tryz.func140
end Go.Bx.fb
namespace Go.Bx.jg
def S1 : Px:=⟨22,[sr 1,sr 2,sr 3,sd 5 T1],[sc 1 T6,sc 2 eb,sc 3 eb]⟩
def S2 : Px:=⟨22,[sr 2,sr 3],[sc 2 eb,sc 3 eb]⟩
def bq (Nx : Dx α) (Xt0 : ff α) : Dx α:=fun a b c d=>ite (decide (a < 32)) (ite (0 <= (wrap .i64 (tdiv a 8)) /\ (wrap .i64 (tdiv a 8)) < (4 : Int)) (ite (0 <= (wrap .i64 (8 * (tmod a 8)))) (ite (0 <= (wrap .i64 (31 - a)) /\ (wrap .i64 (31 - a)) < (32 : Int)) (Nx (wrap .i64 (a + 1)) b c (d.set (wrap .i64 (31 - a)).toNat (wrap .u8 (fh .u64 (b.getD (wrap .i64 (tdiv a 8)).toNat 0) (wrap .i64 (8 * (tmod a 8))))))) none) none) none) (Xt0 c d)
def l0 (k : Nat) (Xt0 : ff α) : Nat->Dx α
 | 0=>kz (S:=S1)
 | n + 1=>bq (l0 k Xt0 n) Xt0
def S3 : Px:=⟨22,[sr 2],[sc 2 eb]⟩
def j0 (Rt : cf α) : ff α:=fun b a=>Rt a
def top (k : Nat) (Rt : cf α) (a : D1) : Option α:=l0 k (j0 Rt) k 0 a (replicate 32 0) (replicate 32 0)
def run:=top fuel (fun a=>some a)
def F : Fn:=fo [T6] eb run
def w (k : Nat) (Rt : K S3 α) : List (Nat × ee α):=[(32,.j S2 (j0 Rt)),(37,.l S1 (l0 k (j0 Rt)) fun _=>[])]
noncomputable def c : Cf:=cn 170 F ⟨Tryz.f170,[8],[],[],[],[(2,1,2),(1,3,2),(4,23,1),(9,23,1),(21,3,2)],[],[],0⟩ S3 top (fun a=>some a) w bY Tryz.func170
end Go.Bx.jg
namespace Go.Bx.eJ
def S1 : Px:=⟨18,[sd 2 .str],[]⟩
def top (Rt : cf α) (a : D1) : Option α:=(aA.run (a.getD 3 0) 8).bind fun b=>(aA.run (a.getD 2 0) 8).bind fun c=>ite (ble (b.length + c.length) 9223372036854775807 = true) ((aA.run (a.getD 1 0) 8).bind fun d=>ite (ble ((b ++ c).length + d.length) 9223372036854775807 = true) ((aA.run (a.getD 0 0) 8).bind fun e=>ite (ble (((b ++ c) ++ d).length + e.length) 9223372036854775807 = true) (Rt (((b ++ c) ++ d) ++ e)) none) none) none
def run:=top (fun a=>some a)
def F : Fn:=fo [T6] .str run
noncomputable def c : Cf:=cn 107 F ⟨Tryz.f107,[],[aA.c],[],[],[(2,1,2)],[],[],0⟩ S1 (fun _=>top) (fun a=>some a) e0 bY Tryz.func107
end Go.Bx.eJ
namespace Go.Bx.lU
def S1 : Px:=⟨21,[sr 2],[sc 2 T3]⟩
def top (Rt : cf α) (b : oQ) : Option α:=(jg.run b.1).bind fun c=>(jg.run b.2.1).bind fun a=>ite ((32 : Int) = (32 : Int) /\ (eL ((ay c 0 32).length + (ay a 0 32).length) 1 && blt 0 (ay a 0 32).length) = true) ((jh.run ((ay c 0 32) ++ (ay a 0 32))).bind fun d=>Rt (zp yC 0 20 (ay d 12 32))) none
def run:=top (fun a=>some a)
def F : Fn:=fo [ki] T3 run
noncomputable def c : Cf:=cn 128 F ⟨Tryz.f128,[],[jh.c,jg.c],[],[],[(2,1,2)],[],[],0⟩ S1 (fun _=>top) (fun a=>some a) e0 bY Tryz.func128
end Go.Bx.lU
namespace Go.Bx.dj
def S1 : Px:=⟨25,[sr 2,sr 3,sr 4,sd 14 T1],[sc 2 T3,sc 3 eb,sc 4 T3]⟩
def S2 : Px:=⟨25,[sr 2,sr 4],[sc 2 T3,sc 4 T3]⟩
def bq (Nx : Dx α) (Xt0 : ff α) : Dx α:=fun a b c d=>ite (decide (a < 20)) (ite (0 <= (wrap .i64 (12 + a)) /\ (wrap .i64 (12 + a)) < (32 : Int)) (ite (0 <= a /\ a < (20 : Int)) (Nx (wrap .i64 (a + 1)) b c (d.set a.toNat (c.getD (wrap .i64 (12 + a)).toNat 0))) none) none) (Xt0 b d)
def l0 (k : Nat) (Xt0 : ff α) : Nat->Dx α
 | 0=>kz (S:=S1)
 | n + 1=>bq (l0 k Xt0 n) Xt0
def S3 : Px:=⟨25,[sr 2],[sc 2 T3]⟩
def j0 (Rt : cf α) : ff α:=fun b a=>Rt a
def top (k : Nat) (Rt : cf α) (a : oQ) : Option α:=(eJ.run a.1).bind fun b=>(eJ.run a.2.1).bind fun c=>ite (ble (b.length + c.length) 9223372036854775807 = true) ((fb.run (b ++ c)).bind fun d=>l0 k (j0 Rt) k 0 yC d yC) none
def run:=top fuel (fun a=>some a)
def F : Fn:=fo [ki] T3 run
def w (k : Nat) (Rt : K S3 α) : List (Nat × ee α):=[(36,.j S2 (j0 Rt)),(49,.l S1 (l0 k (j0 Rt)) fun _=>[])]
noncomputable def c : Cf:=cn 145 F ⟨Tryz.f145,[9],[eJ.c,fb.c],[],[],[(2,1,2),(1,5,2),(4,4103,2),(12,4103,2),(24,5,2)],[],[],0⟩ S3 top (fun a=>some a) w bY Tryz.func145
end Go.Bx.dj
namespace Go.Bx.lf
def S1 : Px:=⟨14,[sd 2 T1,sd 3 T1],[]⟩
def top (Rt : Am α) (a : Int) : Option α:=ite (cond (decide (a < 0)) true (decide (a > 19))) (Rt 0 6) (Rt (wrap .i64 ((wrap .i64 (tdiv (wrap .i64 (2 * a)) 3)) + 1)) 0)
def run:=top (fun a b=>some (a,b,()))
def F : Fn:=fm [T1] [T1,T1] run
noncomputable def c : Cf:=cn 126 F ⟨Tryz.f126,[],[],[],[],[(2,3,2)],[],[],0⟩ S1 (fun _=>top) ri e0 bY Tryz.func126
end Go.Bx.lf
namespace Go.Bx.dA
def S1 : Px:=⟨19,[sd 2 T1,sd 3 T1],[]⟩
def S2 : Px:=⟨19,[sd 0 T1,sd 4 T1],[]⟩
def S3 : Px:=⟨19,[sd 4 T1],[]⟩
def bq (Nx : Am α) (Xt0 : gI α) : Am α:=fun b a=>ite (decide ((wrap .i64 (3 * a)) <= (wrap .i64 (2 * b)))) (Nx b (wrap .i64 (a + 1))) (Xt0 a)
def l0 (k : Nat) (Xt0 : gI α) : Nat->Am α
 | 0=>kz (S:=S2)
 | n + 1=>bq (l0 k Xt0 n) Xt0
def j0 (Rt : Am α) : gI α:=fun a=>Rt a 0
def top (k : Nat) (Rt : Am α) (a : Int) : Option α:=ite (cond (decide (a < 0)) true (decide (a > 19))) (Rt 0 6) (l0 k (j0 Rt) k a 0)
def run:=top fuel (fun a b=>some (a,b,()))
def F : Fn:=fm [T1] [T1,T1] run
def w (k : Nat) (Rt : K S1 α) : List (Nat × ee α):=[(28,.j S3 (j0 Rt)),(49,.l S2 (l0 k (j0 Rt)) fun _=>[])]
noncomputable def c : Cf:=cn 143 F ⟨Tryz.f143,[7],[],[],[],[(2,3,2),(1,1,4),(4,17,0),(12,17,0),(18,1,4)],[],[],0⟩ S1 top ri w bY Tryz.func143
end Go.Bx.dA
namespace Go.Bx.e9
def S1 : Px:=⟨85,[sd 8 T1],[]⟩
def S2 : Px:=⟨85,[sr 4,sr 5,sr 6,sd 10 T1,sd 13 T1,sd 41 Pa,sd 42 T1,sd 43 T1],[sc 4 jk,sc 5 jn,sc 6 eb]⟩
def S3 : Px:=⟨85,[],[]⟩
def bq (Nx : Qw α) (Rt : gI α) (Xt0 : Option α) : Qw α:=fun e i b f a g c h=>ite (decide (a < f)) (ite (0 <= a /\ a < (b.length : Int)) (ite (cond (decide ((b.getD a.toNat Ai).1 < 0)) true (decide ((b.getD a.toNat Ai).1 >= e))) (Rt 6) (ite (decide ((b.getD a.toNat Ai).1 <= i)) (Rt 3) ((iG.run g h (b.getD a.toNat Ai).2.1).bind fun d=>ite (d.2.1 != 0) (Rt d.2.1) ((lU.run d.1).bind fun j=>ite (0 <= (b.getD a.toNat Ai).1 /\ (b.getD a.toNat Ai).1 < (c.2.1.length : Int)) (ite (not (ax T3 j (c.2.1.getD (b.getD a.toNat Ai).1.toNat yC))) (Rt 10) (Nx e (b.getD a.toNat Ai).1 b f (wrap .i64 (a + 1)) g c h)) none)))) none) (Xt0)
def l0 (k : Nat) (Rt : gI α) (Xt0 : Option α) : Nat->Qw α
 | 0=>kz (S:=S2)
 | n + 1=>bq (l0 k Rt Xt0 n) Rt Xt0
def j0 (Rt : gI α) : Option α:=Rt 0
def top (k : Nat) (Rt : gI α) (c : iu) (a : QJ) (e : D1) (b : M6) : Option α:=(fK.run c).bind fun d=>ite (d != 0) (Rt d) (ite (cond (decide ((a.2.1.length : Int) < 1)) true (decide ((a.2.1.length : Int) > 19))) (Rt 1) ((lf.run (a.2.1.length : Int)).bind fun f=>ite (decide ((b.length : Int) < f.1)) (Rt 11) (l0 k Rt (j0 Rt) k (a.2.1.length : Int) (-1) b (b.length : Int) 0 c a e)))
def run:=top fuel (fun a=>some a)
def F : Fn:=fo [jk,jn,eb,Pa] T1 run
def w (k : Nat) (Rt : K S1 α) : List (Nat × ee α):=[(104,.j S3 (j0 Rt)),(145,.l S2 (l0 k Rt (j0 Rt)) fun _=>[])]
noncomputable def c : Cf:=cn 77 F ⟨Tryz.f77,[26],[fK.c,lf.c,iG.c,lU.c],[],[],[(2,1,8),(1,0,0),(4,962072674887,4),(7,962072676423,4),(36,962072674887,4),(75,0,0)],[],[],0⟩ S1 top (fun a=>some a) w bY Tryz.func77
end Go.Bx.e9
namespace Go.Bx.bO
def S1 : Px:=⟨94,[sd 8 T1],[]⟩
def S2 : Px:=⟨94,[sd 3 Pa,sr 4,sr 5,sr 6,sd 42 Pa,sd 43 T1,sd 44 T1],[sc 4 jk,sc 5 jn,sc 6 eb]⟩
def S3 : Px:=⟨94,[],[]⟩
def bq (Nx : KU α) (Rt : gI α) (Xt0 : Option α) : KU α:=fun d b f a g c h=>ite (decide (a < f)) (ite (0 <= a /\ a < (b.length : Int)) (ite (cond (decide ((b.getD a.toNat Ai).1 < 0)) true (decide ((b.getD a.toNat Ai).1 >= (c.2.1.length : Int)))) (Rt 6) (cond (decide (0 <= (wrap .i64 (a - 1)) /\ (wrap .i64 (a - 1)) < (d.length : Int)) || !((decide (a > 0)) == true)) (ite (cond (decide (a > 0)) (decide ((b.getD a.toNat Ai).1 <= (d.getD (wrap .i64 (a - 1)).toNat Ai).1)) false) (Rt 3) ((dR.run g h (b.getD a.toNat Ai).2.1).bind fun e=>ite (e.2.1 != 0) (Rt e.2.1) ((dj.run e.1).bind fun i=>ite (0 <= (b.getD a.toNat Ai).1 /\ (b.getD a.toNat Ai).1 < (c.2.1.length : Int)) (ite (not (ax T3 i (c.2.1.getD (b.getD a.toNat Ai).1.toNat yC))) (Rt 10) (Nx d b f (wrap .i64 (a + 1)) g c h)) none))) none)) none) (Xt0)
def l0 (k : Nat) (Rt : gI α) (Xt0 : Option α) : Nat->KU α
 | 0=>kz (S:=S2)
 | n + 1=>bq (l0 k Rt Xt0 n) Rt Xt0
def j0 (Rt : gI α) : Option α:=Rt 0
def top (k : Nat) (Rt : gI α) (c : iu) (a : QJ) (e : D1) (b : M6) : Option α:=(cH.run c).bind fun d=>ite (d != 0) (Rt d) (ite (cond ((a.2.1.length : Int) == 0) true (decide ((a.2.1.length : Int) > 19))) (Rt 1) ((dA.run (a.2.1.length : Int)).bind fun f=>ite (decide ((b.length : Int) < f.1)) (Rt 11) (l0 k Rt (j0 Rt) k b b (b.length : Int) 0 c a e)))
def run:=top fuel (fun a=>some a)
def F : Fn:=fo [jk,jn,eb,Pa] T1 run
def w (k : Nat) (Rt : K S1 α) : List (Nat × ee α):=[(92,.j S3 (j0 Rt)),(121,.l S2 (l0 k Rt (j0 Rt)) fun _=>[])]
noncomputable def c : Cf:=cn 101 F ⟨Tryz.f101,[23],[cH.c,dA.c,dR.c,dj.c],[],[],[(2,1,8),(1,0,0),(4,3848290697231,3),(30,3848290697231,3),(66,0,0)],[],[],0⟩ S1 top (fun a=>some a) w bY Tryz.func101
end Go.Bx.bO
namespace Go.Bx.ca
def S1 : Px:=⟨27,[sr 0,sd 1 T1,sd 6 T1],[se 0 rz (.agg rz [.app 25 0]),sz 25 qF 0]⟩
def S2 : Px:=⟨27,[],[se 0 rz (.agg rz [.app 25 0]),sz 25 qF 0]⟩
def bq (Nx : JJ α) (Xt0 : cf α) : JJ α:=fun c a b=>ite (decide (a >= 0)) (ite (0 <= (wrap .i64 (8 * a))) (ite (eL (b.length + 1) 1 = true) (Nx c (wrap .i64 (a - 1)) (b ++ [(wrap .u8 (fh .i64 c (wrap .i64 (8 * a))))])) none) none) (Xt0 b)
def l0 (k : Nat) (Xt0 : cf α) : Nat->JJ α
 | 0=>kz (S:=S1)
 | n + 1=>bq (l0 k Xt0 n) Xt0
def top (k : Nat) (Rt : cf α) (a b : Int) (c : D1) : Option α:=l0 k Rt k a (wrap .i64 (b - 1)) c
def run:=top fuel (fun a=>some (a,()))
def Sp : Spec:=re [.ref 0 0 [],hD T1,hD T1] [(0,hC rz (.agg rz [hF qF]) false)] [T1,T1,T5] (.tup []) [(0,hC rz (.agg rz [.app 25 0]) false),(25,hB qF 0 true)] [T5] run
def w (k : Nat) (Rt : K S2 α) : List (Nat × ee α):=[(13,.l S1 (l0 k Rt) fun _=>[])]
noncomputable def s : Sf:=sn 187 Sp ⟨Tryz.f187,[],[],[],[],[(2,0,0),(1,0,0),(4,67,0),(3,67,0)],[(3,[.melt false 0 [0] 24 true])],[],1⟩ S2 top ri w bY Tryz.func187
end Go.Bx.ca
namespace Go.Bx.bf
def S1 : Px:=⟨27,[sr 0,sd 1 T1,sd 6 T1],[se 0 rz (.agg rz [.app 1 1]),sz 1 qF 1]⟩
def S2 : Px:=⟨27,[],[se 0 rz (.agg rz [.app 1 1]),sz 1 qF 1]⟩
def bq (Nx : JJ α) (Xt0 : cf α) : JJ α:=fun c a b=>ite (decide (a >= 0)) (ite (0 <= (wrap .i64 (8 * a))) (ite (eL (b.length + 1) 1 = true) (Nx c (wrap .i64 (a - 1)) (b ++ [(wrap .u8 (fh .i64 c (wrap .i64 (8 * a))))])) none) none) (Xt0 b)
def l0 (k : Nat) (Xt0 : cf α) : Nat->JJ α
 | 0=>kz (S:=S1)
 | n + 1=>bq (l0 k Xt0 n) Xt0
def top (k : Nat) (Rt : cf α) (a b : Int) (c : D1) : Option α:=l0 k Rt k a (wrap .i64 (b - 1)) c
def run:=top fuel (fun a=>some (a,()))
def Sp : Spec:=re [.ref 0 0 [],hD T1,hD T1] [(0,hC rz (.agg rz [.app 1 0]) false),(1,hB qF 0 true)] [T1,T1,T5] (.tup []) [(0,hC rz (.agg rz [.app 1 1]) false),(1,hB qF 1 true)] [T5] run
def w (k : Nat) (Rt : K S2 α) : List (Nat × ee α):=[(13,.l S1 (l0 k Rt) fun _=>[])]
noncomputable def s : Sf:=sn 187 Sp ⟨Tryz.f187,[],[],[],[],[(2,0,0),(1,0,0),(4,67,0),(3,67,0)],[],[],2⟩ S2 top ri w bY Tryz.func187
end Go.Bx.bf
namespace Go.Bx.gO
def S1 : Px:=⟨13,[],[se 0 rz (.agg rz [.app 2 1]),sc 1 iF,sz 2 qF 1]⟩
def top (Rt : SC α) (x1l x1h : Int) (a : D5) (b : D1) : Option α:=ite (eL (b.length + (ay a.2.2.2.1 x1l x1h).length) 1 = true) (Rt a (b ++ (ay a.2.2.2.1 x1l x1h))) none
def run:=top (fun a b=>some (a,b,()))
def Sp : Spec:=re [.ref 0 0 [],hW 1 [.fld 3] qF 32] [(0,hC rz (.agg rz [.app 2 0]) false),(1,hC iF (hD iF) false),(2,hB qF 0 true)] [T1,T1,iF,T5] (.tup []) [(0,hC rz (.agg rz [.app 2 1]) false),(1,hC iF (hD iF) false),(2,hB qF 1 true)] [iF,T5] run
noncomputable def s : Sf:=sn 188 Sp ⟨Tryz.f188,[],[],[],[],[(2,0,0)],[],[],3⟩ S1 (fun _=>top) ri e0 bY Tryz.func188
end Go.Bx.gO
namespace Go.Bx.gQ
def S1 : Px:=⟨13,[],[se 0 rz (.agg rz [.app 1 1]),sz 1 qF 1]⟩
def top (Rt : cf α) (a b : D1) : Option α:=ite (eL (b.length + a.length) 1 = true) (Rt (b ++ a)) none
def run:=top (fun a=>some (a,()))
def Sp : Spec:=re [.ref 0 0 [],hD T5] [(0,hC rz (.agg rz [.app 1 0]) false),(1,hB qF 0 true)] [T5,T5] (.tup []) [(0,hC rz (.agg rz [.app 1 1]) false),(1,hB qF 1 true)] [T5] run
noncomputable def s : Sf:=sn 188 Sp ⟨Tryz.f188,[],[],[],[],[(2,0,0)],[],[],2⟩ S1 (fun _=>top) ri e0 bY Tryz.func188
end Go.Bx.gQ
namespace Go.Bx.gf
def S1 : Px:=⟨32,[],[se 0 rz (.agg rz [.app 34 0]),sz 34 qF 0]⟩
def top (Rt : cf α) (a : D5) (c : D1) : Option α:=(ca.run a.1 8 c).bind fun d=>(bf.run a.2.1 4 d.1).bind fun e=>(bf.run a.2.2.1 2 e.1).bind fun f=>(gO.run 0 32 a f.1).bind fun b=>(bf.run b.1.2.2.2.2.1 8 b.2.1).bind fun g=>(bf.run b.1.2.2.2.2.2.1 1 g.1).bind fun h=>(gQ.run b.1.2.2.2.2.2.2.1 h.1).bind fun i=>Rt i.1
def run:=top (fun a=>some (a,()))
def Sp : Spec:=re [.ref 0 0 [],hD iF] [(0,hC rz (.agg rz [hF qF]) false)] [iF,T5] (.tup []) [(0,hC rz (.agg rz [.app 34 0]) false),(34,hB qF 0 true)] [T5] run
noncomputable def s : Sf:=sn 154 Sp ⟨Tryz.f154,[],[],[ca.s,bf.s,gO.s,gQ.s],[(7,33),(11,34),(15,34),(19,34),(23,34),(27,34),(31,34)],[(2,0,0)],[],[],1⟩ S1 (fun _=>top) ri e0 bY Tryz.func154
end Go.Bx.gf
namespace Go.Bx.fG
def S1 : Px:=⟨35,[sd 2 .str],[]⟩
def top (Rt : cf α) (a : D5) : Option α:=(aA.run (wrap .u64 a.1) 8).bind fun b=>(aA.run (wrap .u64 a.2.1) 4).bind fun c=>ite (ble (b.length + c.length) 9223372036854775807 = true) ((aA.run (wrap .u64 a.2.2.1) 2).bind fun d=>ite (ble ((b ++ c).length + d.length) 9223372036854775807 = true) (ite (ble (((b ++ c) ++ d).length + (ay a.2.2.2.1 0 32).length) 9223372036854775807 = true) ((aA.run (wrap .u64 a.2.2.2.2.1) 8).bind fun e=>ite (ble ((((b ++ c) ++ d) ++ (ay a.2.2.2.1 0 32)).length + e.length) 9223372036854775807 = true) ((aA.run (wrap .u64 a.2.2.2.2.2.1) 1).bind fun f=>ite (ble (((((b ++ c) ++ d) ++ (ay a.2.2.2.1 0 32)) ++ e).length + f.length) 9223372036854775807 = true) (ite (ble ((((((b ++ c) ++ d) ++ (ay a.2.2.2.1 0 32)) ++ e) ++ f).length + a.2.2.2.2.2.2.1.length) 9223372036854775807 = true) (Rt ((((((b ++ c) ++ d) ++ (ay a.2.2.2.1 0 32)) ++ e) ++ f) ++ a.2.2.2.2.2.2.1)) none) none) none) none) none) none
def run:=top (fun a=>some a)
def F : Fn:=fo [iF] .str run
noncomputable def c : Cf:=cn 141 F ⟨Tryz.f141,[],[aA.c],[],[],[(2,1,2)],[],[],0⟩ S1 (fun _=>top) (fun a=>some a) e0 bY Tryz.func141
end Go.Bx.fG
namespace Go.Bx.ld
def S1 : Px:=⟨20,[sd 2 T5,sd 3 T1],[]⟩
def top (Rt : GI α) (a : D5) : Option α:=(hO.run a).bind fun b=>ite (b != 0) (Rt [] b) ((gf.run a []).bind fun c=>Rt c.1 0)
def run:=top (fun a b=>some (a,b,()))
def F : Fn:=fm [iF] [T5,T1] run
noncomputable def c : Cf:=cn 123 F ⟨Tryz.f123,[],[hO.c],[gf.s],[(15,21)],[(2,3,2)],[(2,[.dat true 2 []])],[],0⟩ S1 (fun _=>top) ri e0 bY Tryz.func123
end Go.Bx.ld
namespace Go.Bx.nB
def S1 : Px:=⟨20,[sr 2,sd 3 T1],[sc 2 eb]⟩
def top (Rt : jJ α) (b : D5) : Option α:=(ld.run b).bind fun a=>ite (a.2.1 != 0) (Rt a.2.1 (replicate 32 0)) ((jh.run a.1).bind fun c=>(jh.run (ay c 0 32)).bind fun d=>Rt 0 d)
def run:=top (fun a b=>some (b,a,()))
def F : Fn:=fm [iF] [eb,T1] run
noncomputable def c : Cf:=cn 76 F ⟨Tryz.f76,[],[ld.c,jh.c],[],[],[(2,3,2)],[],[],0⟩ S1 (fun _=>top) (fun a b=>some (b,a,())) e0 bY Tryz.func76
end Go.Bx.nB
namespace Go.Bx.gh
def S1 : Px:=⟨18,[sr 2,sd 3 T1],[sc 2 eb]⟩
def top (Rt : jJ α) (a : D5) : Option α:=(cb.run a).bind fun b=>ite (b != 0) (Rt b (replicate 32 0)) ((fG.run a).bind fun c=>(fb.run c).bind fun d=>(fb.run (ay d 0 32)).bind fun e=>Rt 0 e)
def run:=top (fun a b=>some (b,a,()))
def F : Fn:=fm [iF] [eb,T1] run
noncomputable def c : Cf:=cn 100 F ⟨Tryz.f100,[],[cb.c,fb.c,fG.c],[],[],[(2,3,2)],[],[],0⟩ S1 (fun _=>top) (fun a b=>some (b,a,())) e0 bY Tryz.func100
end Go.Bx.gh
namespace Go.Bx.o6
def run (x y : List Int) : Option Int:=some (n7 x y)
def F : Fn:=⟨BB,.int .i64,false,fun x=>run x.1 x.2.1⟩
theorem ext : uC Tryz.prog 109 F:=Fi Tryz.func109 (by kernel_rfl) (by kernel_rfl) (by kernel_rfl) (by kernel_rfl)
noncomputable def c : Cf:=ce 109 F ext
end Go.Bx.o6
namespace Go.Bx.gm
def S1 : Px:=⟨8,[sd 4 T1],[]⟩
def top (Rt : gI α) (a b : D1) : Option α:=(o6.run a b).bind fun c=>Rt c
def run:=top (fun a=>some a)
def F : Fn:=fo [T5,T5] T1 run
noncomputable def c : Cf:=cn 65 F ⟨Tryz.f65,[],[o6.c],[],[],[(2,1,4)],[],[],0⟩ S1 (fun _=>top) (fun a=>some a) e0 bY Tryz.func65
end Go.Bx.gm
namespace Go.Bx.cI
def S1 : Px:=⟨55,[sd 2 T1],[]⟩
def S2 : Px:=⟨55,[sr 1,sr 3,sd 13 T9,sd 14 T1,sd 15 T1],[sc 1 T8,sc 3 T6]⟩
def S3 : Px:=⟨55,[sr 1,sr 3],[sc 1 T8,sc 3 T6]⟩
def bq (Nx : QF α) (Rt : gI α) (Xt0 : TC α) : QF α:=fun b d a c e=>ite (decide (a < d)) (ite (0 <= a /\ a < (b.length : Int)) (cond (decide (0 <= (wrap .i64 (a - 1)) /\ (wrap .i64 (a - 1)) < (c.2.1.length : Int)) || !((decide (a > 0)) == true)) ((if ((decide (a > 0)) == true) = true then gm.run (ay (c.2.1.getD (wrap .i64 (a - 1)).toNat Fx).1 0 32) (ay (b.getD a.toNat Fx).1 0 32) else some 0).bind fun g=>ite (cond (ax T6 (b.getD a.toNat Fx).2.1 [0,0,0,0]) true (cond (decide (a > 0)) (decide (g >= 0)) false)) (Rt 12) ((fy.run e (b.getD a.toNat Fx).2.1).bind fun f=>ite f.2.1 (Rt 12) (Nx b d (wrap .i64 (a + 1)) c f.1))) none) none) (Xt0 c e)
def l0 (k : Nat) (Rt : gI α) (Xt0 : TC α) : Nat->QF α
 | 0=>kz (S:=S2)
 | n + 1=>bq (l0 k Rt Xt0 n) Rt Xt0
def j0 (Rt : gI α) : TC α:=fun a b=>ite (not (ax T6 b a.1)) (Rt 12) (Rt 0)
def top (k : Nat) (Rt : gI α) (a : D4) : Option α:=ite (decide ((a.2.1.length : Int) > 40)) (Rt 1) (l0 k Rt (j0 Rt) k a.2.1 (a.2.1.length : Int) 0 a [0,0,0,0])
def run:=top fuel (fun a=>some a)
def F : Fn:=fo [T8] T1 run
def w (k : Nat) (Rt : K S1 α) : List (Nat × ee α):=[(60,.j S3 (j0 Rt)),(61,.l S2 (l0 k Rt (j0 Rt)) fun _=>[])]
noncomputable def c : Cf:=cn 23 F ⟨Tryz.f23,[15],[gm.c,fy.c],[],[],[(2,1,2),(1,5,1),(4,28677,1),(15,28677,1),(42,5,1)],[],[],0⟩ S1 top (fun a=>some a) w bY Tryz.func23
end Go.Bx.cI
namespace Go.Bx.ej
def S1 : Px:=⟨10,[sd 4 .bool],[]⟩
def top (Rt : kF α) (a b : D1) : Option α:=Rt (mB (ay a 0 32) (ay b 0 32))
def run:=top (fun a=>some a)
def F : Fn:=fo [eb,eb] .bool run
noncomputable def c : Cf:=cn 87 F ⟨Tryz.f87,[],[],[],[],[(2,1,4)],[],[],0⟩ S1 (fun _=>top) (fun a=>some a) e0 bY Tryz.func87
end Go.Bx.ej
namespace Go.Bx.aP
def S1 : Px:=⟨59,[sd 2 T1],[]⟩
def S2 : Px:=⟨59,[sr 1,sd 3 kN,sd 4 .bool,sd 12 T9,sd 13 T1,sd 14 T1],[sc 1 T8]⟩
def S3 : Px:=⟨59,[sr 1,sd 3 kN,sd 4 .bool],[sc 1 T8]⟩
def bq (Nx : Ko α) (Xt0 : KZ α) : Ko α:=fun e d b f a c=>ite (decide (a < f)) (ite (0 <= a /\ a < (b.length : Int)) ((if (d == true) = true then aB.run (b.getD a.toNat Fx).2.1 else some false).bind fun g=>cond (decide (0 <= (wrap .i64 (a - 1)) /\ (wrap .i64 (a - 1)) < (c.2.1.length : Int)) || !((a == 0) == false)) ((if ((a == 0) == false) = true then ej.run (c.2.1.getD (wrap .i64 (a - 1)).toNat Fx).1 (b.getD a.toNat Fx).1 else some false).bind fun h=>(aw.run (b.getD a.toNat Fx).2.1).bind fun i=>(aH.run e i).bind fun j=>(bU.run j).bind fun k=>Nx k (cond (cond d (not g) false) (cond (a == 0) true h) false) b f (wrap .i64 (a + 1)) c) none) none) (Xt0 e d c)
def l0 (k : Nat) (Xt0 : KZ α) : Nat->Ko α
 | 0=>kz (S:=S2)
 | n + 1=>bq (l0 k Xt0 n) Xt0
def j0 (Rt : gI α) : KZ α:=fun b a c=>(if ((not a) == false) = true then aw.run c.1 else some []).bind fun d=>(if ((not a) == false) = true then aX.run b d else some 0).bind fun e=>ite (cond (not a) true (e != 0)) (Rt 12) (Rt 0)
def top (k : Nat) (Rt : gI α) (a : D4) : Option α:=ite (decide ((a.2.1.length : Int) > 40)) (Rt 1) (l0 k (j0 Rt) k [] true a.2.1 (a.2.1.length : Int) 0 a)
def run:=top fuel (fun a=>some a)
def F : Fn:=fo [T8] T1 run
def w (k : Nat) (Rt : K S1 α) : List (Nat × ee α):=[(48,.j S3 (j0 Rt)),(73,.l S2 (l0 k (j0 Rt)) fun _=>[])]
noncomputable def c : Cf:=cn 43 F ⟨Tryz.f43,[12],[aB.c,ej.c,bU.c,aH.c,aw.c,aX.c],[],[],[(2,1,2),(1,13,1),(4,14349,1),(18,14349,1),(33,13,1)],[(18,[.dat true 3 []])],[],0⟩ S1 top (fun a=>some a) w bY Tryz.func43
end Go.Bx.aP
namespace Go.Bx.ic
def S1 : Px:=⟨9,[sd 2 .bool],[]⟩
def top (Rt : kF α) (a : Int) : Option α:=Rt (cond (decide (a >= 0)) (decide (a < 3)) false)
def run:=top (fun a=>some a)
def F : Fn:=fo [T1] .bool run
noncomputable def c : Cf:=cn 21 F ⟨Tryz.f21,[],[],[],[],[(2,1,2)],[],[],0⟩ S1 (fun _=>top) (fun a=>some a) e0 bY Tryz.func21
end Go.Bx.ic
namespace Go.Bx.gV
def S1 : Px:=⟨9,[sr 2],[sc 2 eb]⟩
def top (Rt : cf α) (a : Int) : Option α:=Rt (((replicate 32 0).set 0 176).set 31 (wrap .u8 a))
def run:=top (fun a=>some a)
def F : Fn:=fo [T1] eb run
noncomputable def c : Cf:=cn 25 F ⟨Tryz.f25,[],[],[],[],[(2,1,2)],[],[],0⟩ S1 (fun _=>top) (fun a=>some a) e0 bY Tryz.func25
end Go.Bx.gV
namespace Go.Bx.cu
def S1 : Px:=⟨156,[sd 2 T1],[]⟩
def S2 : Px:=⟨156,[sr 1,sd 3 .bool,sd 51 xp,sd 52 T1,sd 53 T1],[sc 1 gC]⟩
def S3 : Px:=⟨156,[sr 1,sd 3 .bool,sr 5,sd 51 xp,sd 52 T1,sd 53 T1,sd 95 xp,sd 96 T1,sd 97 T1],[sc 1 gC,sc 5 lk]⟩
def me (Nx : Qe α) (Xt2 : G4 α) : Qe α:=fun d e f g b h a i c=>ite (decide (a < h)) (ite (0 <= a /\ a < (b.length : Int)) (Nx (cond d (cond (not (ax eb c.1 (b.getD a.toNat iN).1)) true (c.2.1 != (b.getD a.toNat iN).2.1)) false) e f g b h (wrap .i64 (a + 1)) i c) none) (Xt2 d e f g i)
def l1 (k : Nat) (Xt2 : G4 α) : Nat->Qe α
 | 0=>kz (S:=S3)
 | n + 1=>me (l1 k Xt2 n) Xt2
def j0 (Nx : G4 α) : G4 α:=fun a b c d e=>Nx a b c (wrap .i64 (d + 1)) e
def S4 : Px:=⟨156,[sr 1,sd 3 .bool],[sc 1 gC]⟩
def bq (k : Nat) (Nx : G4 α) (Xt0 : JD α) : G4 α:=fun d b e a c=>ite (decide (a < e)) (ite (0 <= a /\ a < (b.length : Int)) ((if (d == true) = true then ic.run (b.getD a.toNat iN).2.1 else some false).bind fun f=>(if ((cond d f false) == true) = true then cI.run (b.getD a.toNat iN).2.2.2.1 else some 0).bind fun g=>ite (0 <= (0 : Int) /\ (0 : Int) <= a /\ a <= (c.2.2.2.1.length : Int)) (l1 k (j0 Nx) k (cond (cond (cond (cond (cond d f false) (g == 0) false) (decide ((b.getD a.toNat iN).2.2.1 >= 0)) false) (decide ((b.getD a.toNat iN).2.2.1 < 78)) false) (cond ((b.getD a.toNat iN).2.1 == c.1) true (decide ((b.getD a.toNat iN).2.2.1 <= 8))) false) b e a (ay c.2.2.2.1 0 a) ((ay c.2.2.2.1 0 a).length : Int) 0 c (b.getD a.toNat iN)) none) none) (Xt0 d c)
def l0 (k : Nat) (Xt0 : JD α) : Nat->G4 α
 | 0=>kz (S:=S2)
 | n + 1=>bq k (l0 k Xt0 n) Xt0
def S5 : Px:=⟨156,[sr 1,sd 3 .bool,sd 119 vT,sd 120 T1,sd 121 T1],[sc 1 gC]⟩
def S6 : Px:=⟨156,[sd 3 .bool],[]⟩
def BR (Nx : QA α) (Xt4 : kF α) : QA α:=fun c b e a d=>ite (decide (a < e)) (ite (0 <= a /\ a < (b.length : Int)) ((if (c == true) = true then hO.run (b.getD a.toNat rT) else some 0).bind fun f=>(if ((cond (cond (cond c (f == 0) false) ((b.getD a.toNat rT).2.2.2.2.1 == a) false) ((b.getD a.toNat rT).2.2.1 == d.1) false) == true) = true then gV.run d.1 else some (replicate 32 0)).bind fun g=>Nx (cond (cond (cond (cond c (f == 0) false) ((b.getD a.toNat rT).2.2.2.2.1 == a) false) ((b.getD a.toNat rT).2.2.1 == d.1) false) (ax eb (b.getD a.toNat rT).2.2.2.1 g) false) b e (wrap .i64 (a + 1)) d) none) (Xt4 c)
def l2 (k : Nat) (Xt4 : kF α) : Nat->QA α
 | 0=>kz (S:=S5)
 | n + 1=>BR (l2 k Xt4 n) Xt4
def j2 (Rt : gI α) : kF α:=fun a=>ite (not a) (Rt 12) (Rt 0)
def j1 (k : Nat) (Rt : gI α) : JD α:=fun b a=>l2 k (j2 Rt) k b a.2.2.2.2.2.2.1 (a.2.2.2.2.2.2.1.length : Int) 0 a
def top (k : Nat) (Rt : gI α) (a : D7) : Option α:=(ic.run a.1).bind fun b=>(if ((cond (cond b (decide (a.2.1 >= 1)) false) (decide (a.2.1 <= 1099511627776)) false) == true) = true then eS.run a.2.2.1 else some 0).bind fun c=>ite (not (cond (cond (cond (cond (cond (cond b (decide (a.2.1 >= 1)) false) (decide (a.2.1 <= 1099511627776)) false) (c == 0) false) (decide ((a.2.2.2.1.length : Int) <= 4)) false) (a.2.2.2.2.2.1 == (a.2.2.2.2.2.2.1.length : Int)) false) (decide (a.2.2.2.2.2.1 <= 256)) false)) (Rt 12) (l0 k (j1 k Rt) k (cond (cond (cond (cond (cond (cond b (decide (a.2.1 >= 1)) false) (decide (a.2.1 <= 1099511627776)) false) (c == 0) false) (decide ((a.2.2.2.1.length : Int) <= 4)) false) (a.2.2.2.2.2.1 == (a.2.2.2.2.2.2.1.length : Int)) false) (decide (a.2.2.2.2.2.1 <= 256)) false) a.2.2.2.1 (a.2.2.2.1.length : Int) 0 a)
def run:=top fuel (fun a=>some a)
def F : Fn:=fo [gC] T1 run
def w0 (k : Nat) (Nx : K S2 α) (Xt0 : K S4 α) : List (Nat × ee α):=[(56,.j S2 (j0 Nx)),(109,.l S3 (l1 k (j0 Nx)) fun _=>[])]
def w (k : Nat) (Rt : K S1 α) : List (Nat × ee α):=[(80,.j S6 (j2 Rt)),(181,.l S5 (l2 k (j2 Rt)) fun _=>[]),(60,.j S4 (j1 k Rt)),(61,.l S2 (l0 k (j1 k Rt)) fun n=>w0 k (l0 k (j1 k Rt) n) (j1 k Rt))]
noncomputable def c : Cf:=cn 7 F ⟨Tryz.f7,[14,15,20],[ic.c,eS.c,cI.c,hO.c,gV.c],[],[],[(2,1,2),(13,1,3),(16,2326148992623602777581662355490603013,1),(1,5,1),(4,7881299347898373,1),(7,7881299347898373,1),(10,138649284399970472088049811477,1),(15,7881299347898373,1),(27,138649284399970472088049811477,1),(39,7881299347898373,1),(42,5,1),(45,2326148992623602777581662355490603013,1),(57,1,3)],[],[],0⟩ S1 top (fun a=>some a) w bY Tryz.func7
end Go.Bx.cu
namespace Go.Bx.cX
def S1 : Px:=⟨5,[sd 2 .bool],[]⟩
def top (Rt : kF α) (a : Int) : Option α:=(bu.run a 2).bind fun b=>Rt b
def run:=top (fun a=>some a)
def F : Fn:=fo [T1] .bool run
noncomputable def c : Cf:=cn 40 F ⟨Tryz.f40,[],[bu.c],[],[],[(2,1,2)],[],[],0⟩ S1 (fun _=>top) (fun a=>some a) e0 bY Tryz.func40
end Go.Bx.cX
namespace Go.Bx.dv
def S1 : Px:=⟨9,[sr 2],[sc 2 eb]⟩
def top (Rt : cf α) (a : Int) : Option α:=(aY.run [176]).bind fun b=>Rt (b.set 31 (wrap .u8 a))
def run:=top (fun a=>some a)
def F : Fn:=fo [T1] eb run
noncomputable def c : Cf:=cn 45 F ⟨Tryz.f45,[],[aY.c],[],[],[(2,1,2)],[],[],0⟩ S1 (fun _=>top) (fun a=>some a) e0 bY Tryz.func45
end Go.Bx.dv
namespace Go.Bx.ai
def S1 : Px:=⟨154,[sr 1,sd 3 .bool,sd 4 T1],[sc 1 gC]⟩
def S2 : Px:=⟨154,[sr 1,sd 3 .bool,sd 4 T1,sr 5,sd 6 T1],[sc 1 gC,sc 5 lk]⟩
def me (Nx : KO α) (Xt2 : sI α) : KO α:=fun d e a b c=>ite (decide (a < e)) (cond (decide (0 <= a /\ a < (b.2.2.2.1.length : Int)) || !(d == true)) (cond (decide (0 <= a /\ a < (b.2.2.2.1.length : Int)) || !((ax eb (b.2.2.2.1.getD a.toNat iN).1 c.1) == true)) (Nx (cond d (not (cond (ax eb (b.2.2.2.1.getD a.toNat iN).1 c.1) ((b.2.2.2.1.getD a.toNat iN).2.1 == c.2.1) false)) false) e (wrap .i64 (a + 1)) b c) none) none) (Xt2 d e b)
def l1 (k : Nat) (Xt2 : sI α) : Nat->KO α
 | 0=>kz (S:=S2)
 | n + 1=>me (l1 k Xt2 n) Xt2
def j0 (Nx : sI α) : sI α:=fun a b c=>Nx a (wrap .i64 (b + 1)) c
def S3 : Px:=⟨154,[sr 1,sd 3 .bool],[sc 1 gC]⟩
def bq (k : Nat) (Nx : sI α) (Xt0 : JD α) : sI α:=fun d b a=>ite (cond d (decide (b < (a.2.2.2.1.length : Int))) false) (ite (0 <= b /\ b < (a.2.2.2.1.length : Int)) ((cX.run (a.2.2.2.1.getD b.toNat iN).2.1).bind fun c=>(if (c == true) = true then aP.run (a.2.2.2.1.getD b.toNat iN).2.2.2.1 else some 0).bind fun e=>(if ((cond c (e == 0) false) == true) = true then bu.run (a.2.2.2.1.getD b.toNat iN).2.2.1 77 else some false).bind fun f=>l1 k (j0 Nx) k (cond (cond (cond c (e == 0) false) f false) (cond ((a.2.2.2.1.getD b.toNat iN).2.1 == a.1) true (decide ((a.2.2.2.1.getD b.toNat iN).2.2.1 <= 8))) false) b 0 a (a.2.2.2.1.getD b.toNat iN)) none) (Xt0 d a)
def l0 (k : Nat) (Xt0 : JD α) : Nat->sI α
 | 0=>kz (S:=S1)
 | n + 1=>bq k (l0 k Xt0 n) Xt0
def S4 : Px:=⟨154,[sr 1,sd 3 .bool,sd 7 T1],[sc 1 gC]⟩
def S5 : Px:=⟨154,[sd 3 .bool],[]⟩
def BR (Nx : sI α) (Xt4 : kF α) : sI α:=fun c a b=>ite (cond c (decide (a < (b.2.2.2.2.2.2.1.length : Int))) false) (ite (0 <= a /\ a < (b.2.2.2.2.2.2.1.length : Int)) ((cb.run (b.2.2.2.2.2.2.1.getD a.toNat rT)).bind fun d=>(if ((cond (cond (d == 0) ((b.2.2.2.2.2.2.1.getD a.toNat rT).2.2.2.2.1 == a) false) ((b.2.2.2.2.2.2.1.getD a.toNat rT).2.2.1 == b.1) false) == true) = true then dv.run b.1 else some (replicate 32 0)).bind fun e=>Nx (cond (cond (cond (d == 0) ((b.2.2.2.2.2.2.1.getD a.toNat rT).2.2.2.2.1 == a) false) ((b.2.2.2.2.2.2.1.getD a.toNat rT).2.2.1 == b.1) false) (ax eb (b.2.2.2.2.2.2.1.getD a.toNat rT).2.2.2.1 e) false) (wrap .i64 (a + 1)) b) none) (Xt4 c)
def l2 (k : Nat) (Xt4 : kF α) : Nat->sI α
 | 0=>kz (S:=S4)
 | n + 1=>BR (l2 k Xt4 n) Xt4
def S6 : Px:=⟨154,[sd 2 T1],[]⟩
def j2 (Rt : gI α) : kF α:=fun a=>ite (not a) (Rt 12) (Rt 0)
def j1 (k : Nat) (Rt : gI α) : JD α:=fun a b=>l2 k (j2 Rt) k a 0 b
def top (k : Nat) (Rt : gI α) (a : D7) : Option α:=(cX.run a.1).bind fun b=>(if (b == true) = true then bu.run (wrap .i64 (a.2.1 - 1)) 1099511627775 else some false).bind fun c=>(if ((cond b c false) == true) = true then bz.run a.2.2.1 else some 0).bind fun d=>l0 k (j1 k Rt) k (cond (cond (cond (cond (cond b c false) (d == 0) false) (decide ((a.2.2.2.1.length : Int) <= 4)) false) ((a.2.2.2.2.2.2.1.length : Int) == a.2.2.2.2.2.1) false) (decide (a.2.2.2.2.2.1 <= 256)) false) 0 a
def run:=top fuel (fun a=>some a)
def F : Fn:=fo [gC] T1 run
def w0 (k : Nat) (Nx : K S1 α) (Xt0 : K S3 α) : List (Nat × ee α):=[(20,.j S1 (j0 Nx)),(97,.l S2 (l1 k (j0 Nx)) fun _=>[])]
def w (k : Nat) (Rt : K S6 α) : List (Nat × ee α):=[(68,.j S5 (j2 Rt)),(145,.l S4 (l2 k (j2 Rt)) fun _=>[]),(48,.j S3 (j1 k Rt)),(37,.l S1 (l0 k (j1 k Rt)) fun n=>w0 k (l0 k (j1 k Rt) n) (j1 k Rt))]
noncomputable def c : Cf:=cn 13 F ⟨Tryz.f13,[5,12,17],[cX.c,bu.c,bz.c,aP.c,cb.c,dv.c],[],[],[(2,1,2),(13,1,3),(16,69,1),(1,5,1),(4,13,1),(7,13,1),(10,61,1),(9,13,1),(12,13,1),(24,61,1),(33,5,1),(36,69,1),(48,1,3)],[],[],0⟩ S6 top (fun a=>some a) w bY Tryz.func13
end Go.Bx.ai
namespace Go.Bx.ga
def S1 : Px:=⟨80,[st 4 8,st 5 9,sd 6 T1],[se 0 lQ (xz),sz 1 jn 1,sb 2 lk 1,sz 3 iF 1,sc 8 iF,sc 9 jb]⟩
def top (Rt : RC α) (n : D1) (e b : Int) (f : D0) (g : Int) (c : iu) (d : D2) (h : D6) (i : D9) : Option α:=(fc.run n).bind fun a=>ite (a.2.1 != 0) (Rt a.2.1 e b f g c d h i rT (0,[0,0,0,0],[0,0,0,0],(replicate 32 0),0,(replicate 32 0),0,0,[],[],0,[],())) ((nc.run d a.1.1 b).bind fun j=>ite (j.2.1 != 0) (Rt j.2.1 e b f g c d h i rT (0,[0,0,0,0],[0,0,0,0],(replicate 32 0),0,(replicate 32 0),0,0,[],[],0,[],())) ((nB.run a.1.2.2.1).bind fun k=>ite (k.2.1 != 0) (Rt k.2.1 e b f g c d h i rT (0,[0,0,0,0],[0,0,0,0],(replicate 32 0),0,(replicate 32 0),0,0,[],[],0,[],())) ((e9.run c j.1 k.1 a.1.2.1).bind fun l=>ite (l != 0) (Rt l e b f g c d h i rT (0,[0,0,0,0],[0,0,0,0],(replicate 32 0),0,(replicate 32 0),0,0,[],[],0,[],())) ((jU.run a.1.2.2.1.2.2.2.2.2.2.1).bind fun m=>Rt m.2.1 e b f g c d h i a.1.2.2.1 m.1))))
def run:=top (fun c d e f g h i j k a b=>some (a,b,c,d,e,f,g,h,i,j,k,a,b,()))
def Sp : Spec:=re [.ref 0 0 [],hD T5] [(0,hC lQ (Hb) false),(1,hB jn 0 true),(2,hB lk 0 false),(3,hB iF 0 true)] [T5,T1,T1,pz,T1,jk,T4,xp,vT] (.tup [hD iF,hD jb,hD T1]) [(0,hC lQ (xz) false),(1,hB jn 1 true),(2,hB lk 1 false),(3,hB iF 1 true),(8,hC iF (hD iF) false),(9,hC jb (hD jb) false)] [iF,jb,T1,T1,T1,pz,T1,jk,T4,xp,vT,iF,jb] run
noncomputable def s : Sf:=sn 34 Sp ⟨Tryz.f34,[],[fc.c,nc.c,nB.c,e9.c,jU.c],[],[],[(2,7,4)],[(2,[.dat false 8 [],.dat false 9 []])],[],4⟩ S1 (fun _=>top) (fun d e f g h i j k l a b=>some (a,b,d,e,f,g,h,i,j,k,l,a,b,())) e0 bY Tryz.func34
end Go.Bx.ga
namespace Go.Bx.fv
def S1 : Px:=⟨77,[sr 6,sr 7,sd 8 T1],[sc 6 iF,sc 7 jb]⟩
def top (Rt : QU α) (g : iu) (e : D7) (h : D1) : Option α:=(cJ.run h).bind fun a=>ite (a.2.1 != 0) (Rt a.2.1 rT (0,[0,0,0,0],[0,0,0,0],(replicate 32 0),0,(replicate 32 0),0,0,[],[],0,[],())) ((fV.run e.2.2.1 a.1.1 e.2.1).bind fun b=>ite (b.2.1 != 0) (Rt b.2.1 rT (0,[0,0,0,0],[0,0,0,0],(replicate 32 0),0,(replicate 32 0),0,0,[],[],0,[],())) ((gh.run a.1.2.2.1).bind fun c=>ite (c.2.1 != 0) (Rt c.2.1 rT (0,[0,0,0,0],[0,0,0,0],(replicate 32 0),0,(replicate 32 0),0,0,[],[],0,[],())) ((bO.run g b.1 c.1 a.1.2.1).bind fun f=>ite (f != 0) (Rt f rT (0,[0,0,0,0],[0,0,0,0],(replicate 32 0),0,(replicate 32 0),0,0,[],[],0,[],())) ((aS.run a.1.2.2.1.2.2.2.2.2.2.1).bind fun d=>ite (d.2.1 != 0) (Rt d.2.1 rT (0,[0,0,0,0],[0,0,0,0],(replicate 32 0),0,(replicate 32 0),0,0,[],[],0,[],())) (Rt 0 a.1.2.2.1 d.1)))))
def run:=top (fun a b c=>some (b,c,a,()))
def F : Fn:=fm [jk,gC,T5] [iF,jb,T1] run
noncomputable def c : Cf:=cn 56 F ⟨Tryz.f56,[],[cJ.c,fV.c,gh.c,bO.c,aS.c],[],[],[(2,7,6)],[(2,[.dat false 6 [],.dat false 7 []])],[],0⟩ S1 (fun _=>top) (fun a b d=>some (b,d,a,())) e0 bY Tryz.func56
end Go.Bx.fv
namespace Go.Bx.gD
def S1 : Px:=⟨17,[(3,.app 14 0),sd 6 SF,sd 7 T1,sd 8 T1],[sz 14 qF 0]⟩
def S2 : Px:=⟨17,[(3,.app 14 0)],[sz 14 qF 0]⟩
def bq (Nx : CI α) (Xt0 : cf α) : CI α:=fun b d a c=>ite (decide (a < d)) (ite (0 <= a /\ a < (b.length : Int)) (ite (eL (c.length + (b.getD a.toNat []).length) 1 = true) (Nx b d (wrap .i64 (a + 1)) (c ++ (b.getD a.toNat []))) none) none) (Xt0 c)
def l0 (k : Nat) (Xt0 : cf α) : Nat->CI α
 | 0=>kz (S:=S1)
 | n + 1=>bq (l0 k Xt0 n) Xt0
def S3 : Px:=⟨17,[(2,.app 14 0)],[sz 14 qF 0]⟩
def j0 (Rt : cf α) : cf α:=fun a=>Rt a
def top (k : Nat) (Rt : cf α) (a : D0) : Option α:=l0 k (j0 Rt) k a (a.length : Int) 0 []
def run:=top fuel (fun a=>some a)
def F : Fn:=fo [SF] T5 run
def w (k : Nat) (Rt : K S3 α) : List (Nat × ee α):=[(32,.j S2 (j0 Rt)),(37,.l S1 (l0 k (j0 Rt)) fun _=>[])]
noncomputable def c : Cf:=cn 243 F ⟨Tryz.f243,[8],[],[],[],[(2,1,2),(1,1,3),(4,57,3),(9,57,3),(21,1,3)],[(9,[.melt true 3 [] 14 true])],[],0⟩ S3 top (fun a=>some a) w bY Tryz.func243
end Go.Bx.gD
namespace Go.Bx.lH
def S1 : Px:=⟨9,[(2,hF qF)],[]⟩
def top (Rt : cf α) (a : Int) : Option α:=Rt [(wrap .u8 (fh .i64 a 8)),(wrap .u8 a)]
def run:=top (fun a=>some a)
def F : Fn:=fo [T1] T5 run
noncomputable def c : Cf:=cn 244 F ⟨Tryz.f244,[],[],[],[],[(2,1,2)],[],[],0⟩ S1 (fun _=>top) (fun a=>some a) e0 bY Tryz.func244
end Go.Bx.lH
namespace Go.Bx.fZ
def S1 : Px:=⟨29,[sd 4 T5],[]⟩
def top (Rt : cf α) (g : NR) (a : rM) : Option α:=(jg.run a.2.1).bind fun b=>(jg.run a.2.2.1).bind fun c=>(lH.run a.2.2.2.2.1).bind fun d=>(lH.run a.2.2.2.2.2.2.1).bind fun e=>(gD.run [(ay b 0 32),(ay a.2.2.2.1 0 32),d,(ay a.2.2.2.2.2.1 0 32),e,(ay c 0 32),a.2.2.2.2.2.2.2.2.2.1]).bind fun f=>Rt f
def run:=top (fun a=>some a)
def F : Fn:=fo [NU,jb] T5 run
noncomputable def c : Cf:=cn 240 F ⟨Tryz.f240,[],[jg.c,gD.c,lH.c],[],[],[(2,1,4)],[],[],0⟩ S1 (fun _=>top) (fun a=>some a) e0 bY Tryz.func240
end Go.Bx.fZ
namespace Go.Bx.iP
def S1 : Px:=⟨22,[sd 4 T5],[]⟩
def top (Rt : cf α) (e : Unit) (a : rM) : Option α:=(fR.run a.2.2.2.2.2.2.2.2.1).bind fun b=>(lH.run a.2.2.2.2.1).bind fun c=>(gD.run [(ay a.2.2.2.1 0 32),c,[(wrap .u8 a.2.2.2.2.2.2.2.1)],(ay b 0 32)]).bind fun d=>Rt d
def run:=top (fun a=>some a)
def F : Fn:=fo [.unit,jb] T5 run
noncomputable def c : Cf:=cn 248 F ⟨Tryz.f248,[],[fR.c,gD.c,lH.c],[],[],[(2,1,4)],[],[],0⟩ S1 (fun _=>top) (fun a=>some a) e0 bY Tryz.func248
end Go.Bx.iP
namespace Go.Bx.eF
def S1 : Px:=⟨40,[(5,.app 37 0),sd 29 T2,sd 30 T1,sd 31 T1],[sz 37 qF 0]⟩
def S2 : Px:=⟨40,[(5,.app 37 0)],[sz 37 qF 0]⟩
def bq (Nx : CI α) (Xt0 : cf α) : CI α:=fun b d a c=>ite (decide (a < d)) (ite (0 <= a /\ a < (b.length : Int)) (ite (eL (c.length + (ay (b.getD a.toNat yC) 0 20).length) 1 = true) (Nx b d (wrap .i64 (a + 1)) (c ++ (ay (b.getD a.toNat yC) 0 20))) none) none) (Xt0 c)
def l0 (k : Nat) (Xt0 : cf α) : Nat->CI α
 | 0=>kz (S:=S1)
 | n + 1=>bq (l0 k Xt0 n) Xt0
def S3 : Px:=⟨40,[(4,.app 37 0)],[sz 37 qF 0]⟩
def j0 (Rt : cf α) : cf α:=fun a=>Rt a
def top (k : Nat) (Rt : cf α) (b : Unit) (a : rM) : Option α:=l0 k (j0 Rt) k a.2.2.2.2.2.2.2.2.2.2.2.1 (a.2.2.2.2.2.2.2.2.2.2.2.1.length : Int) 0 [(wrap .u8 (fh .i64 a.2.2.2.2.2.2.2.2.2.2.1 24)),(wrap .u8 (fh .i64 a.2.2.2.2.2.2.2.2.2.2.1 16)),(wrap .u8 (fh .i64 a.2.2.2.2.2.2.2.2.2.2.1 8)),(wrap .u8 a.2.2.2.2.2.2.2.2.2.2.1),(wrap .u8 (a.2.2.2.2.2.2.2.2.2.2.2.1.length : Int))]
def run:=top fuel (fun a=>some a)
def F : Fn:=fo [.unit,jb] T5 run
def w (k : Nat) (Rt : K S3 α) : List (Nat × ee α):=[(32,.j S2 (j0 Rt)),(37,.l S1 (l0 k (j0 Rt)) fun _=>[])]
noncomputable def c : Cf:=cn 252 F ⟨Tryz.f252,[8],[],[],[],[(2,1,4),(1,1,5),(4,117440513,5),(9,117440513,5),(21,1,5)],[(9,[.melt true 5 [] 37 true])],[],0⟩ S3 top (fun a=>some a) w bY Tryz.func252
end Go.Bx.eF
namespace Go.Bx.fp
def S1 : Px:=⟨26,[sd 2 T5,sd 3 T1],[]⟩
def top (Rt : GI α) (a : rM) : Option α:=(cQ.run a).bind fun b=>ite (b != 0) (Rt [] b) ((cw.run a.1).bind fun g=>(Sum.elim (fun h=>(fZ.run h.1 a).bind fun c=>ite (eL (1 + c.length) 1 = true) (Rt ([(wrap .u8 a.1)] ++ c) 0) none) (Sum.elim (fun i=>(iP.run i.1 a).bind fun d=>ite (eL (1 + d.length) 1 = true) (Rt ([(wrap .u8 a.1)] ++ d) 0) none) (Sum.elim (fun j=>(eF.run j.1 a).bind fun f=>ite (eL (1 + f.length) 1 = true) (Rt ([(wrap .u8 a.1)] ++ f) 0) none) (Sum.elim (fun k=>none) (fun e=>e.elim))))) g)
def run:=top (fun a b=>some (a,b,()))
def F : Fn:=fm [jb] [T5,T1] run
noncomputable def c : Cf:=cn 39 F ⟨Tryz.f39,[],[cQ.c,fZ.c,iP.c,eF.c],[cw.s],[(15,27)],[(2,3,2)],[(2,[.dat true 2 []])],[25],0⟩ S1 (fun _=>top) ri e0 bY Tryz.func39
end Go.Bx.fp
namespace Go.Bx.aC
def S1 : Px:=⟨102,[sd 2 T5,sd 3 T1],[]⟩
def S2 : Px:=⟨102,[sd 5 .str],[]⟩
def j0 (Rt : GI α) : cf α:=fun a=>Rt a 0
def S3 : Px:=⟨102,[sd 5 .str,sd 89 T2,sd 90 T1,sd 91 T1],[]⟩
def bq (Nx : LH α) (Xt1 : cf α) : LH α:=fun c b d a=>ite (decide (a < d)) (ite (0 <= a /\ a < (b.length : Int)) (ite (ble (c.length + (ay (b.getD a.toNat yC) 0 20).length) 9223372036854775807 = true) (Nx (c ++ (ay (b.getD a.toNat yC) 0 20)) b d (wrap .i64 (a + 1))) none) none) (Xt1 c)
def l0 (k : Nat) (Xt1 : cf α) : Nat->LH α
 | 0=>kz (S:=S3)
 | n + 1=>bq (l0 k Xt1 n) Xt1
def top (k : Nat) (Rt : GI α) (a : rM) : Option α:=(aj.run a).bind fun m=>ite (m != 0) (Rt [] m) ((aA.run (wrap .u64 a.1) 1).bind fun d=>ite (a.1 == 2) ((aY.run a.2.2.2.2.2.2.2.2.1).bind fun i=>(aA.run (wrap .u64 a.2.2.2.2.1) 2).bind fun e=>ite (ble ((ay a.2.2.2.1 0 32).length + e.length) 9223372036854775807 = true) ((aA.run (wrap .u64 a.2.2.2.2.2.2.2.1) 1).bind fun g=>ite (ble (((ay a.2.2.2.1 0 32) ++ e).length + g.length) 9223372036854775807 = true) (ite (ble ((((ay a.2.2.2.1 0 32) ++ e) ++ g).length + (ay i 0 32).length) 9223372036854775807 = true) (ite (ble (d.length + ((((ay a.2.2.2.1 0 32) ++ e) ++ g) ++ (ay i 0 32)).length) 9223372036854775807 = true) (j0 Rt (d ++ ((((ay a.2.2.2.1 0 32) ++ e) ++ g) ++ (ay i 0 32)))) none) none) none) none) (ite (a.1 == 4) ((aA.run (wrap .u64 a.2.2.2.2.2.2.2.2.2.2.1) 4).bind fun j=>(aA.run (wrap .u64 (a.2.2.2.2.2.2.2.2.2.2.2.1.length : Int)) 1).bind fun l=>ite (ble (j.length + l.length) 9223372036854775807 = true) (ite (ble (d.length + (j ++ l).length) 9223372036854775807 = true) (l0 k (j0 Rt) k (d ++ (j ++ l)) a.2.2.2.2.2.2.2.2.2.2.2.1 (a.2.2.2.2.2.2.2.2.2.2.2.1.length : Int) 0) none) none) ((eJ.run a.2.1).bind fun b=>ite (ble (b.length + (ay a.2.2.2.1 0 32).length) 9223372036854775807 = true) ((aA.run (wrap .u64 a.2.2.2.2.1) 2).bind fun c=>ite (ble ((b ++ (ay a.2.2.2.1 0 32)).length + c.length) 9223372036854775807 = true) (ite (ble (((b ++ (ay a.2.2.2.1 0 32)) ++ c).length + (ay a.2.2.2.2.2.1 0 32).length) 9223372036854775807 = true) ((aA.run (wrap .u64 a.2.2.2.2.2.2.1) 2).bind fun f=>ite (ble ((((b ++ (ay a.2.2.2.1 0 32)) ++ c) ++ (ay a.2.2.2.2.2.1 0 32)).length + f.length) 9223372036854775807 = true) ((eJ.run a.2.2.1).bind fun h=>ite (ble (((((b ++ (ay a.2.2.2.1 0 32)) ++ c) ++ (ay a.2.2.2.2.2.1 0 32)) ++ f).length + h.length) 9223372036854775807 = true) (ite (ble ((((((b ++ (ay a.2.2.2.1 0 32)) ++ c) ++ (ay a.2.2.2.2.2.1 0 32)) ++ f) ++ h).length + a.2.2.2.2.2.2.2.2.2.1.length) 9223372036854775807 = true) (ite (ble (d.length + ((((((b ++ (ay a.2.2.2.1 0 32)) ++ c) ++ (ay a.2.2.2.2.2.1 0 32)) ++ f) ++ h) ++ a.2.2.2.2.2.2.2.2.2.1).length) 9223372036854775807 = true) (j0 Rt (d ++ ((((((b ++ (ay a.2.2.2.1 0 32)) ++ c) ++ (ay a.2.2.2.2.2.1 0 32)) ++ f) ++ h) ++ a.2.2.2.2.2.2.2.2.2.1))) none) none) none) none) none) none) none)))
def run:=top fuel (fun a b=>some (a,b,()))
def F : Fn:=fm [jb] [T5,T1] run
def w (k : Nat) (Rt : K S1 α) : List (Nat × ee α):=[(72,.j S2 (j0 Rt)),(157,.l S3 (l0 k (j0 Rt)) fun _=>[])]
noncomputable def c : Cf:=cn 61 F ⟨Tryz.f61,[18],[aY.c,aj.c,aA.c,eJ.c],[],[],[(2,3,2),(1,1,5),(4,1,5),(7,135399691796838467567091713,5),(39,135399691796838467567091713,5),(51,1,5)],[(2,[.dat true 2 []])],[],0⟩ S1 top ri w bY Tryz.func61
end Go.Bx.aC
namespace Go.Bx.mb
def S1 : Px:=⟨9,[sr 2],[se 2 iF (TZ),sz 6 qF 0]⟩
def top (Rt : Si α) (a : D5) : Option α:=ite (eL (0 + a.2.2.2.2.2.2.1.length) 1 = true) (Rt a.1 a.2.1 a.2.2.1 a.2.2.2.1 a.2.2.2.2.1 a.2.2.2.2.2.1 a.2.2.2.2.2.2.1) none
def run:=top (fun a b c d e f g=>some (a,b,c,d,e,f,g,()))
def F : Fn:=fo [iF] iF run
noncomputable def c : Cf:=cn 26 F ⟨Tryz.f26,[],[],[],[],[(2,1,2)],[],[6],0⟩ S1 (fun _=>top) (fun a b d e f g h=>some (a,b,d,e,f,g,h,())) e0 bY Tryz.func26
end Go.Bx.mb
namespace Go.Bx.bF
def S1 : Px:=⟨68,[sr 1,sr 2,(3,.app 27 0),sd 13 T4,sd 14 T1,sd 15 T1],[sc 1 gC,se 2 gC (DH),sz 27 jn 0]⟩
def S2 : Px:=⟨68,[sr 1,sr 2,(3,.app 27 0)],[sc 1 gC,se 2 gC (DH),sz 27 jn 0]⟩
def bq (Nx : PI α) (Xt0 : Qo α) : PI α:=fun b d a e f g h i c=>ite (decide (a < d)) (ite (0 <= a /\ a < (b.length : Int)) (ite (eL (0 + (b.getD a.toNat (0,[],0,())).2.1.length) 20 = true) (ite (eL (c.length + 1) 40 = true) (Nx b d (wrap .i64 (a + 1)) e f g h i (c ++ [((b.getD a.toNat (0,[],0,())).1,(b.getD a.toNat (0,[],0,())).2.1,(b.getD a.toNat (0,[],0,())).2.2.1,())])) none) none) none) (Xt0 e f g h i c)
def l0 (k : Nat) (Xt0 : Qo α) : Nat->PI α
 | 0=>kz (S:=S1)
 | n + 1=>bq (l0 k Xt0 n) Xt0
def S3 : Px:=⟨68,[sr 1,sr 2,(3,.app 27 0),(6,.app 46 0),sd 30 xp,sd 31 T1,sd 32 T1],[sc 1 gC,se 2 gC (DH),sz 27 jn 0,sz 46 lk 0]⟩
def S4 : Px:=⟨68,[sr 1,sr 2,(3,.app 27 0),(6,.app 46 0)],[sc 1 gC,se 2 gC (DH),sz 27 jn 0,sz 46 lk 0]⟩
def me (Nx : Pp α) (Xt2 : Pj α) : Pp α:=fun b d a e f g h i j c=>ite (decide (a < d)) (ite (0 <= a /\ a < (b.length : Int)) (ite (eL (0 + (b.getD a.toNat iN).2.2.2.1.2.1.length) 64 = true) (ite (eL (c.length + 1) 104 = true) (Nx b d (wrap .i64 (a + 1)) e f g h i j (c ++ [((b.getD a.toNat iN).1,(b.getD a.toNat iN).2.1,(b.getD a.toNat iN).2.2.1,((b.getD a.toNat iN).2.2.2.1.1,(b.getD a.toNat iN).2.2.2.1.2.1,()),())])) none) none) none) (Xt2 e f g h i j c)
def l1 (k : Nat) (Xt2 : Pj α) : Nat->Pp α
 | 0=>kz (S:=S3)
 | n + 1=>me (l1 k Xt2 n) Xt2
def S5 : Px:=⟨68,[sr 1,sr 2,(3,.app 27 0),(6,.app 46 0),(9,.app 59 0),sd 49 vT,sd 50 T1,sd 51 T1],[sc 1 gC,se 2 gC (DH),sz 27 jn 0,sz 46 lk 0,sz 59 iF 0]⟩
def S6 : Px:=⟨68,[sr 1,sr 2,(3,.app 27 0),(6,.app 46 0),(9,.app 59 0)],[sc 1 gC,se 2 gC (DH),sz 27 jn 0,sz 46 lk 0,sz 59 iF 0]⟩
def BR (Nx : Qi α) (Xt4 : PQ α) : Qi α:=fun b d a e f g h i j k c=>ite (decide (a < d)) (ite (0 <= a /\ a < (b.length : Int)) ((mb.run (b.getD a.toNat rT)).bind fun l=>ite (eL (c.length + 1) 96 = true) (Nx b d (wrap .i64 (a + 1)) e f g h i j k (c ++ [l])) none) none) (Xt4 e f g h i j k c)
def l2 (k : Nat) (Xt4 : PQ α) : Nat->Qi α
 | 0=>kz (S:=S5)
 | n + 1=>BR (l2 k Xt4 n) Xt4
def S7 : Px:=⟨68,[sr 2],[se 2 gC (QL),sz 27 jn 0,sz 46 lk 0,sz 59 iF 0]⟩
def j2 (Rt : N8 α) : PQ α:=fun a e f g h b c d=>Rt a.1 a.2.1 a.2.2.2.2.1 a.2.2.2.2.2.1 b c d
def j1 (k : Nat) (Rt : N8 α) : Pj α:=fun a b c d e f g=>l2 k (j2 Rt) k a.2.2.2.2.2.2.1 (a.2.2.2.2.2.2.1.length : Int) 0 a b c d e f g []
def j0 (k : Nat) (Rt : N8 α) : Qo α:=fun a b c d e f=>l1 k (j1 k Rt) k a.2.2.2.1 (a.2.2.2.1.length : Int) 0 a b c d e f []
def top (k : Nat) (Rt : N8 α) (a : D7) : Option α:=l0 k (j0 k Rt) k a.2.2.1 (a.2.2.1.length : Int) 0 a 0 0 [[0,0,0,0],[0,0,0,0],[0,0,0,0]] 0 []
def run:=top fuel (fun a b c d e f g=>some (a,b,c,d,a,b,c,d,e,f,g,()))
def Sp : Spec:=re [hD gC] [] [gC] (QL) [(2,hC gC (QL) false),(27,hB jn 0 true),(46,hB lk 0 true),(59,hB iF 0 true)] [T1,T1,pz,T1,T1,T1,pz,T1,T4,xp,vT] run
def w (k : Nat) (Rt : K S7 α) : List (Nat × ee α):=[(88,.j S6 (j2 Rt)),(205,.l S5 (l2 k (j2 Rt)) fun _=>[]),(64,.j S4 (j1 k Rt)),(121,.l S3 (l1 k (j1 k Rt)) fun _=>[]),(36,.j S2 (j0 k Rt)),(37,.l S1 (l0 k (j0 k Rt)) fun _=>[])]
noncomputable def s : Sf:=sn 8 Sp ⟨Tryz.f8,[9,16,22],[mb.c],[],[],[(2,1,2),(13,295,1),(16,1970324836974887,1),(7,39,1),(10,3758096423,1),(1,7,1),(4,28679,1),(9,28679,1),(24,7,1),(30,3758096423,1),(45,39,1),(51,1970324836974887,1),(63,295,1)],[(9,[.melt true 3 [] 27 true]),(30,[.melt true 6 [] 46 true]),(51,[.melt true 9 [] 59 true])],[22,40],0⟩ S7 top (fun a b d e f g h=>some (a,b,d,e,a,b,d,e,f,g,h,())) w bY Tryz.func8
end Go.Bx.bF
namespace Go.Bx.bx
def Js : List Nat:=[8]
def C : Ctx:=⟨[(3,T1),(30,xp),(35,gC),(36,eb),(49,lQ),(58,lk)],[],[],Pc [],KA,[],CE [],[(2,[6]),(1,[]),(4,[0,2,4,13,14]),(6,[0,2,4,13,14]),(21,[])],[],[],4,0⟩
def HW (a : D1) (b c d : Int) (e : D0) (f : Int) (g : iu) (h : D2) (i : D6) (j : D9) : St:=BQ 49 [(0,.ref 0 0 []),(1,.data eb a),(2,.data T1 b)] [(0,.cell lQ (.agg lQ [.agg gC [.data T1 c,.data T1 d,.app 1 0,.app 2 0,.data pz e,.data T1 f,.app 3 0],.data jk g]) false),(1,.buf jn h 0 true),(2,.buf lk i 0 false),(3,.buf iF j 0 true)]
def AQ (a b : Int) (c d e : Int) (f : D0) (g : Int) (h : iu) (i : D2) (j : D6) (k : D9) (l : D1) : St:=BQ 49 [(0,.ref 0 0 []),(2,.data T1 a),(4,.ref 8 0 []),(13,.data T1 b),(14,.data T1 c)] [(0,.cell lQ (.agg lQ [.agg gC [.data T1 d,.data T1 e,.app 1 1,.app 2 1,.data pz f,.data T1 g,.app 3 1],.data jk h]) false),(1,.buf jn i 1 true),(2,.buf lk j 1 false),(3,.buf iF k 1 true),(8,.cell eb (.data eb l) false)]
noncomputable def IQ : Code:=cL (cL (cR (cL (cR (cB Tryz.f11)))))
def Kf (x6i0 a b : Int) (c : D0) (d : Int) (e : iu) (f : D2) (g : D6) (h : D9) : St:=BQ 49 [(6,.ref 2 1 [.idx x6i0])] [(0,.cell lQ (.agg lQ [.agg gC [.data T1 a,.data T1 b,.app 1 1,.app 2 1,.data pz c,.data T1 d,.app 3 1],.data jk e]) false),(1,.buf jn f 1 true),(2,.buf lk g 1 false),(3,.buf iF h 1 true)]
def M9 (a b : Int) (c : D0) (d : Int) (e : iu) (f : D2) (g : D6) (h : D9) : St:=BQ 49 [] [(0,.cell lQ (.agg lQ [.agg gC [.data T1 a,.data T1 b,.app 1 1,.app 2 1,.data pz c,.data T1 d,.app 3 1],.data jk e]) false),(1,.buf jn f 1 true),(2,.buf lk g 1 false),(3,.buf iF h 1 true)]
def bq (Nx : Int->Int->Int->Int->Int->D0->Int->iu->D2->D6->D9->D1->Option α) (Rt : Int->Int->Int->D0->Int->iu->D2->D6->D9->Option α) (Xt0 : Int->Int->D0->Int->iu->D2->D6->D9->Option α) (k l : Int) (a c d : Int) (e : D0) (f : Int) (g : iu) (h : D2) (b : D6) (i : D9) (j : D1) : Option α :=
 if (decide (a < l)) = true then
  if 0 <= a /\ a < (b.length : Int) then
   cond (decide (0 <= a /\ a < (b.length : Int)) || !((ax eb (List.getD b (Int.toNat a) iN).1 j) == true)) (
    if (cond (ax eb (List.getD b (Int.toNat a) iN).1 j) ((List.getD b (Int.toNat a) iN).2.1 == k) false) = true then
     if 0 <= a /\ a < (b.length : Int) then
      Rt a c d e f g h b i
     else none
    else
     Nx k l (IntKind.i64.wrap (a + 1)) c d e f g h b i j) none
  else none
 else
  Xt0 c d e f g h b i
theorem F4 (k : Nat) (next : St->Option α) (Q : Ex->St->Option α) (i j : Int) (l a b : Int) (c : D0) (d : Int) (e : iu) (f : D2) (g : D6) (h : D9) (m : D1) :
  Rh C k IQ 6 Q next (AQ i j l a b c d e f g h m) = bq (fun i j l a b c d e f g h m=>next (AQ i j l a b c d e f g h m)) (fun x6i0 a b c d e f g h=>Q .ret (Kf x6i0 a b c d e f g h)) (fun a b c d e f g h=>Q (.exit 0) (M9 a b c d e f g h)) i j l a b c d e f g h m:=rZ Js (by kernel_rfl)
def l0 (k : Nat) (Rt : Int->Int->Int->D0->Int->iu->D2->D6->D9->Option α) (Xt0 : Int->Int->D0->Int->iu->D2->D6->D9->Option α) : Nat->Int->Int->Int->Int->Int->D0->Int->iu->D2->D6->D9->D1->Option α
 | 0,_,_,_,_,_,_,_,_,_,_,_,_=>none
 | n + 1,a,b,c,d,e,f,g,h,i,j,l,m=>bq (l0 k Rt Xt0 n) Rt Xt0 a b c d e f g h i j l m
theorem Fj (k : Nat) (Q : Ex->St->Option α) : ∀ (n : Nat) (i j : Int) (l a b : Int) (c : D0) (d : Int) (e : iu) (f : D2) (g : D6) (h : D9) (m : D1),iter (Rh C k IQ 6 Q) n (AQ i j l a b c d e f g h m) = l0 k (fun x6i0 a b c d e f g h=>Q .ret (Kf x6i0 a b c d e f g h)) (fun a b c d e f g h=>Q (.exit 0) (M9 a b c d e f g h)) n i j l a b c d e f g h m
 | 0,_,_,_,_,_,_,_,_,_,_,_,_=>rfl
 | n + 1,i,j,l,a,b,c,d,e,f,g,h,m=>(Cq _ _ _).trans ((F4 k _ Q i j l a b c d e f g h m).trans (congrArg (fun N=>bq N (fun x6i0 a b c d e f g h=>Q .ret (Kf x6i0 a b c d e f g h)) (fun a b c d e f g h=>Q (.exit 0) (M9 a b c d e f g h)) i j l a b c d e f g h m) (by funext; exact Fj k Q n _ _ _ _ _ _ _ _ _ _ _ _)))
theorem yq (k : Nat) (Rt : Int->Int->Int->D0->Int->iu->D2->D6->D9->Option α) (Xt0 : Int->Int->D0->Int->iu->D2->D6->D9->Option α) (Rtq : Int->Int->Int->D0->Int->iu->D2->D6->D9->Option α) (Xt0q : Int->Int->D0->Int->iu->D2->D6->D9->Option α) (hRt : ∀ (x6i0 a b : Int) (c : D0) (d : Int) (e : iu) (f : D2) (g : D6) (h : D9),Rt x6i0 a b c d e f g h = Rtq x6i0 a b c d e f g h) (hXt0 : ∀ (a b : Int) (c : D0) (d : Int) (e : iu) (f : D2) (g : D6) (h : D9),Xt0 a b c d e f g h = Xt0q a b c d e f g h) (n : Nat) (i j : Int) (l a b : Int) (c : D0) (d : Int) (e : iu) (f : D2) (g : D6) (h : D9) (m : D1) : l0 k Rt Xt0 n i j l a b c d e f g h m = l0 k Rtq Xt0q n i j l a b c d e f g h m:=by
 obtain rfl : Rt = Rtq:=by funext x6i0; funext a; funext b; funext c; funext d; funext e; funext f; funext g; funext h; exact hRt x6i0 a b c d e f g h
 obtain rfl : Xt0 = Xt0q:=by funext a; funext b; funext c; funext d; funext e; funext f; funext g; funext h; exact hXt0 a b c d e f g h
 rfl
noncomputable def IL : Code:=cR (cR (cB Tryz.f11))
def ON (x6i0 a b : Int) (c : D0) (d : Int) (e : iu) (f : D2) (g : D6) (h : D9) : St:=BQ 49 [(6,.ref 2 1 [.idx x6i0])] [(0,.cell lQ (.agg lQ [.agg gC [.data T1 a,.data T1 b,.app 1 1,.app 2 1,.data pz c,.data T1 d,.app 3 1],.data jk e]) false),(1,.buf jn f 1 true),(2,.buf lk g 1 false),(3,.buf iF h 1 true)]
def Rc (a b : Int) (c : D0) (d : Int) (e : iu) (f : D2) (g : D6) (h : D9) : St:=BQ 49 [] [(0,.cell lQ (.agg lQ [.agg gC [.data T1 a,.data T1 b,.app 1 1,.app 2 1,.data pz c,.data T1 d,.app 3 1],.data jk e]) false),(1,.buf jn f 1 true),(2,.buf lk g 1 false),(3,.buf iF h 1 true)]
def Tc (a b : Int) (c : D0) (d : Int) (e : iu) (f : D2) (g : D6) (h : D9) : St:=BQ 49 [(6,.nilp)] [(0,.cell lQ (.agg lQ [.agg gC [.data T1 a,.data T1 b,.app 1 1,.app 2 1,.data pz c,.data T1 d,.app 3 1],.data jk e]) false),(1,.buf jn f 1 true),(2,.buf lk g 1 false),(3,.buf iF h 1 true)]
def j0 (Rt1 : Int->Int->D0->Int->iu->D2->D6->D9->Option α) (a b : Int) (c : D0) (d : Int) (e : iu) (f : D2) (g : D6) (h : D9) : Option α :=
 Rt1 a b c d e f g h
theorem DR (k : Nat) (Q : Ex->St->Option α) (a b : Int) (c : D0) (d : Int) (e : iu) (f : D2) (g : D6) (h : D9) :
  (den C k) IL (oD C Q) (Rc a b c d e f g h) = j0 (fun a b c d e f g h=>Q .ret (Tc a b c d e f g h)) a b c d e f g h:=rZ Js (by kernel_rfl)
theorem a0 (k : Nat) (Q : Ex->St->Option α) (j l : Int) (m a c : Int) (d : D0) (e : Int) (f : iu) (g : D2) (h : D6) (i : D9) (n : D1) :
  (lp C k) IQ (sE C 0 (sq (den C k) (lp C k) Js C IL (oD C Q))) (AQ j l m a c d e f g h i n) = l0 k (fun x6i0 a c d e f g h i=>(fun x6i0 a c d e f g h i=>Q .ret (ON x6i0 a c d e f g h i)) x6i0 a c d e f g h i) (fun a c d e f g h i=>j0 (fun a c d e f g h i=>Q .ret (Tc a c d e f g h i)) a c d e f g h i) k j l m a c d e f g h i n :=
 (H2 6 (by kernel_rfl)).trans ((Fj k _ k j l m a c d e f g h i n).trans (yq k _ _ _ _ (fun x6i0 a c d e f g h i=>(by kernel_rfl)) (fun a c d e f g h i=>(Eq.trans (b:=(den C k) IL (oD C Q) (Rc a c d e f g h i)) (by kernel_rfl) (by simp only [DR]))) k j l m a c d e f g h i n))
def top (k : Nat) (Rt0 : Int->Int->Int->D0->Int->iu->D2->D6->D9->Option α) (Rt1 : Int->Int->D0->Int->iu->D2->D6->D9->Option α) (i : D1) (j b c : Int) (d : D0) (e : Int) (f : iu) (g : D2) (a : D6) (h : D9) : Option α :=
 l0 k (fun x6i0 b c d e f g a h=>Rt0 x6i0 b c d e f g a h) (fun b c d e f g a h=>j0 Rt1 b c d e f g a h) k j (a.length : Int) 0 b c d e f g a h i
theorem tG (k : Nat) (Q : Ex->St->Option α) (j : D1) (l b c : Int) (d : D0) (e : Int) (f : iu) (g : D2) (a : D6) (i : D9) :
  (den C k) (cB Tryz.f11) (oD C Q) (HW j l b c d e f g a i) = top k (fun x6i0 b c d e f g a i=>Q .ret (ON x6i0 b c d e f g a i)) (fun b c d e f g a i=>Q .ret (Tc b c d e f g a i)) j l b c d e f g a i:=by
 have h : ∀ (D L : DT α),pL D L Js C (cB Tryz.f11) (oD C Q) (HW j l b c d e f g a i) =
    L IQ (sE C 0 (sq D L Js C IL (oD C Q))) (AQ l (a.length : Int) 0 b c d e f g a i j):=by
  intro D L; kernel_rfl
 have h2:=via (k:=k) h
 refine h2.trans ?_
 simp only [a0]
 first | rfl | kernel_rfl
def run (i : D1) (j a b : Int) (c : D0) (d : Int) (e : iu) (f : D2) (g : D6) (h : D9) : Option (TP ⊕ (TM ⊕ (Empty))):=top (α:=TP ⊕ (TM ⊕ (Empty))) fuel (fun x6i0 a b c d e f g h=>some (.inl (x6i0,a,b,c,d,e,f,g,h,()))) (fun a b c d e f g h=>some (.inr (.inl (a,b,c,d,e,f,g,h,())))) i j a b c d e f g h
def Sp : qC:=⟨[.ref 0 0 [],hD eb,hD T1],[(0,hC lQ (.agg lQ [.agg gC [hD T1,hD T1,.app 1 0,.app 2 0,hD pz,hD T1,.app 3 0],hD jk]) false),(1,hB jn 0 true),(2,hB lk 0 false),(3,hB iF 0 true)],UB,[⟨.ref 2 1 [.idx 0],[(0,hC lQ (.agg lQ [.agg gC [hD T1,hD T1,.app 1 1,.app 2 1,hD pz,hD T1,.app 3 1],hD jk]) false),(1,hB jn 1 true),(2,hB lk 1 false),(3,hB iF 1 true)],UG⟩,⟨.nilp,[(0,hC lQ (.agg lQ [.agg gC [hD T1,hD T1,.app 1 1,.app 2 1,hD pz,hD T1,.app 3 1],hD jk]) false),(1,hB jn 1 true),(2,hB lk 1 false),(3,hB iF 1 true)],UK⟩],fun x=>run x.1 x.2.1 x.2.2.1 x.2.2.2.1 x.2.2.2.2.1 x.2.2.2.2.2.1 x.2.2.2.2.2.2.1 x.2.2.2.2.2.2.2.1 x.2.2.2.2.2.2.2.2.1 x.2.2.2.2.2.2.2.2.2.1⟩
set_option maxRecDepth 100000 in
theorem Ta : Kd Tryz.prog 11 Sp.h:=by
 refine w7 (C:=C) (yV (by kernel_rfl) (by kernel_rfl) (by kernel_rfl) (by kernel_rfl) trivial) (by kernel_rfl) Tryz.func11 (c:=cB Tryz.f11) (by kernel_rfl) (by kernel_rfl) Sp fuel (by kernel_rfl) (by kernel_rfl) ?_
 intro x r h
 rw [<- h]
 have h1 : Sp.start x Tryz.f11.ntmps = (HW x.1 x.2.1 x.2.2.1 x.2.2.2.1 x.2.2.2.2.1 x.2.2.2.2.2.1 x.2.2.2.2.2.2.1 x.2.2.2.2.2.2.2.1 x.2.2.2.2.2.2.2.2.1 x.2.2.2.2.2.2.2.2.2.1):=by kernel_rfl
 rw [h1]
 refine (tG fuel (Au C Tryz.f11.results.toList Sp.read) x.1 x.2.1 x.2.2.1 x.2.2.2.1 x.2.2.2.2.1 x.2.2.2.2.2.1 x.2.2.2.2.2.2.1 x.2.2.2.2.2.2.2.1 x.2.2.2.2.2.2.2.2.1 x.2.2.2.2.2.2.2.2.2.1).trans ?_
 kernel_rfl
theorem named : mW Tryz.prog 11:=oY Tryz.func11 (by kernel_rfl) (by kernel_rfl)
noncomputable def s : Sf:=⟨11,.alt Sp,Ta,named⟩
end Go.Bx.bx
namespace Go.Bx.bD
def S1 : Px:=⟨29,[sd 2 T1,sr 4,sd 10 xp,sd 11 T1,sd 12 T1],[sc 4 eb]⟩
def S2 : Px:=⟨29,[sd 6 T1],[]⟩
def S3 : Px:=⟨29,[],[]⟩
def bq (Nx : Kh α) (Rt : gI α) (Xt0 : Option α) : Kh α:=fun c b d a e=>ite (decide (a < d)) (ite (0 <= a /\ a < (b.length : Int)) (ite (cond (ax eb (b.getD a.toNat iN).1 e) ((b.getD a.toNat iN).2.1 == c) false) (Rt a) (Nx c b d (wrap .i64 (a + 1)) e)) none) (Xt0)
def l0 (k : Nat) (Rt : gI α) (Xt0 : Option α) : Nat->Kh α
 | 0=>kz (S:=S1)
 | n + 1=>bq (l0 k Rt Xt0 n) Rt Xt0
def j0 (Rt : gI α) : Option α:=Rt (-1)
def top (k : Nat) (Rt : gI α) (a : D7) (b : D1) (c : Int) : Option α:=l0 k Rt (j0 Rt) k c a.2.2.2.1 (a.2.2.2.1.length : Int) 0 b
def run:=top fuel (fun a=>some a)
def F : Fn:=fo [gC,eb,T1] T1 run
def w (k : Nat) (Rt : K S2 α) : List (Nat × ee α):=[(32,.j S3 (j0 Rt)),(25,.l S1 (l0 k Rt (j0 Rt)) fun _=>[])]
noncomputable def c : Cf:=cn 16 F ⟨Tryz.f16,[8],[],[],[],[(2,1,6),(1,0,0),(4,1797,2),(6,1797,2),(21,0,0)],[],[],0⟩ S2 top (fun a=>some a) w bY Tryz.func16
end Go.Bx.bD
namespace Go.Bx.eG
def S1 : Px:=⟨64,[sd 4 T1],[se 0 lQ (xz),sz 1 jn 1,sb 2 lk 1,sz 3 iF 1]⟩
def top (Rt : A8 α) (j : Int) (k l m : D1) (n : Int) (o : D1) (p q : Int) (r s : D1) (t : Int) (u : D0) (a c : Int) (e : D0) (b : Int) (f : iu) (g : D2) (h : D6) (d : D9) : Option α:=(fp.run (j,k,l,m,n,o,p,q,r,s,t,u,())).bind fun i=>ite (i.2.1 != 0) (Rt i.2.1 a c e b f g h d) (ite (b == 256) (Rt 9 a c e b f g h d) ((gV.run a).bind fun v=>ite (eL (d.length + 1) 96 = true) (Rt 0 a c e (wrap .i64 (b + 1)) f g h (d ++ [(c,0,a,v,b,1,i.1,())])) none))
def run:=top (fun a b c d e f g h i=>some (a,b,c,d,e,f,g,h,i,()))
def Sp : Spec:=re [.ref 0 0 [],SW] [(0,hC lQ (Hb) false),(1,hB jn 0 true),(2,hB lk 0 false),(3,hB iF 0 true)] [T1,T6,T6,eb,T1,eb,T1,T1,.str,T5,T1,T2,T1,T1,pz,T1,jk,T4,xp,vT] (hD T1) [(0,hC lQ (xz) false),(1,hB jn 1 true),(2,hB lk 1 false),(3,hB iF 1 true)] [T1,T1,T1,pz,T1,jk,T4,xp,vT] run
noncomputable def s : Sf:=sn 12 Sp ⟨Tryz.f12,[],[gV.c,fp.c],[],[],[(2,1,4)],[],[],4⟩ S1 (fun _=>top) ri e0 bY Tryz.func12
end Go.Bx.eG
namespace Go.Bx.fJ
def S1 : Px:=⟨44,[sr 4,sd 5 T1],[sc 4 gC]⟩
def top (Rt : pB α) (a : D7) (c : rM) : Option α:=(aC.run c).bind fun b=>ite (b.2.1 != 0) (Rt b.2.1 a) (ite (decide (a.2.2.2.2.2.1 >= 256)) (Rt 9 a) (ite (eL (0 + a.2.2.2.2.2.2.1.length) 96 = true) ((dv.run a.1).bind fun d=>ite (eL (a.2.2.2.2.2.2.1.length + 1) 96 = true) (Rt 0 (a.1,a.2.1,a.2.2.1,a.2.2.2.1,a.2.2.2.2.1,(wrap .i64 (a.2.2.2.2.2.1 + 1)),(a.2.2.2.2.2.2.1 ++ [(a.2.1,0,a.1,d,a.2.2.2.2.2.1,1,b.1,())]),())) none) none))
def run:=top (fun a b=>some (b,a,()))
def F : Fn:=fm [gC,jb] [gC,T1] run
noncomputable def c : Cf:=cn 17 F ⟨Tryz.f17,[],[dv.c,aC.c],[],[],[(2,3,4)],[(2,[.dat false 4 []])],[24],0⟩ S1 (fun _=>top) (fun a b=>some (b,a,())) e0 bY Tryz.func17
end Go.Bx.fJ
namespace Go.Bx.gb
def S1 : Px:=⟨30,[sr 2,sr 3,sd 10 T9,sd 11 T1,sd 12 T1],[sc 2 T8,sc 3 eb]⟩
def S2 : Px:=⟨30,[sd 4 T1,sd 5 .bool],[]⟩
def S3 : Px:=⟨30,[sr 2],[sc 2 T8]⟩
def bq (Nx : QF α) (Rt : L3 α) (Xt0 : Qk α) : QF α:=fun b c a d e=>ite (decide (a < c)) (ite (0 <= a /\ a < (b.length : Int)) ((gm.run (ay (b.getD a.toNat Fx).1 0 32) (ay e 0 32)).bind fun f=>ite (decide (f >= 0)) (Rt a (f == 0)) (Nx b c (wrap .i64 (a + 1)) d e)) none) (Xt0 d)
def l0 (k : Nat) (Rt : L3 α) (Xt0 : Qk α) : Nat->QF α
 | 0=>kz (S:=S1)
 | n + 1=>bq (l0 k Rt Xt0 n) Rt Xt0
def j0 (Rt : L3 α) : Qk α:=fun a=>Rt (a.2.1.length : Int) false
def top (k : Nat) (Rt : L3 α) (a : D4) (b : D1) : Option α:=l0 k Rt (j0 Rt) k a.2.1 (a.2.1.length : Int) 0 a b
def run:=top fuel (fun a b=>some (a,b,()))
def F : Fn:=fm [T8,eb] [T1,.bool] run
def w (k : Nat) (Rt : K S2 α) : List (Nat × ee α):=[(36,.j S3 (j0 Rt)),(25,.l S1 (l0 k Rt (j0 Rt)) fun _=>[])]
noncomputable def c : Cf:=cn 113 F ⟨Tryz.f113,[9],[gm.c],[],[],[(2,3,4),(1,1,2),(4,1795,2),(6,1795,2),(24,1,2)],[],[],0⟩ S2 top ri w bY Tryz.func113
end Go.Bx.gb
namespace Go.Bx.mi
def S1 : Px:=⟨21,[sr 4],[sc 4 T6]⟩
def top (Rt : cf α) (b : D4) (c : D1) : Option α:=(gb.run b c).bind fun a=>ite a.2.1 (ite (0 <= a.1 /\ a.1 < (b.2.1.length : Int)) (Rt (b.2.1.getD a.1.toNat Fx).2.1) none) (Rt [0,0,0,0])
def run:=top (fun a=>some a)
def F : Fn:=fo [T8,eb] T6 run
noncomputable def c : Cf:=cn 70 F ⟨Tryz.f70,[],[gb.c],[],[],[(2,1,4)],[],[],0⟩ S1 (fun _=>top) (fun a=>some a) e0 bY Tryz.func70
end Go.Bx.mi
namespace Go.Bx.iB
def S1 : Px:=⟨42,[sr 3,sr 6,sd 7 T1,sd 8 .bool,(9,.app 21 0)],[sc 3 T8,se 6 T8 (QG),sz 21 Kb 0]⟩
def S2 : Px:=⟨42,[sr 3,sr 6,sd 7 T1,(9,.app 21 0)],[sc 3 T8,se 6 T8 (QG),sz 21 Kb 0]⟩
def S3 : Px:=⟨42,[sr 6],[se 6 T8 (Uy),sz 21 Kb 0]⟩
def j1 (Rt : J8 α) : SX α:=fun b a d c=>ite (0 <= b /\ b <= (a.2.1.length : Int) /\ (a.2.1.length : Int) <= (a.2.1.length : Int)) (ite (eL (c.length + (ay a.2.1 b (a.2.1.length : Int)).length) 64 = true) (Rt a.1 (c ++ (ay a.2.1 b (a.2.1.length : Int)))) none) none
def j0 (Rt : J8 α) : TA α:=fun a e b c d=>ite e (j1 Rt (wrap .i64 (a + 1)) b c d) (j1 Rt a b c d)
def top (Rt : J8 α) (b : D4) (c d : D1) : Option α:=(gb.run b c).bind fun a=>ite (0 <= (0 : Int) /\ (0 : Int) <= a.1 /\ a.1 <= (b.2.1.length : Int)) (ite (eL (0 + (ay b.2.1 0 a.1).length) 64 = true) (ite (not (ax T6 d [0,0,0,0])) (ite (eL ((ay b.2.1 0 a.1).length + 1) 64 = true) (j0 Rt a.1 a.2.1 b [0,0,0,0] ((ay b.2.1 0 a.1) ++ [(c,d,())])) none) (j0 Rt a.1 a.2.1 b [0,0,0,0] (ay b.2.1 0 a.1))) none) none
def run:=top (fun a b=>some (a,b,()))
def F : Fn:=fo [T8,eb,T6] T8 run
def w (k : Nat) (Rt : K S3 α) : List (Nat × ee α):=[(32,.j S2 (j1 Rt)),(24,.j S1 (j0 Rt))]
noncomputable def c : Cf:=cn 71 F ⟨Tryz.f71,[6,8],[gb.c],[],[],[(2,1,6),(15,121,3),(21,89,3)],[],[21],0⟩ S3 (fun _=>top) (fun a b=>some (a,b,())) w bY Tryz.func71
end Go.Bx.iB
namespace Go.Bx.bK
def S1 : Px:=⟨56,[sr 3,sr 4,sr 5,sr 6,(7,.app 34 0),sd 8 .bool,sd 14 T9,sd 15 T1,sd 16 T1],[sc 3 T8,sc 4 eb,sc 5 T6,se 6 T8 (QG),sz 34 Kb 0]⟩
def S2 : Px:=⟨56,[sr 3,sr 4,sr 5,sr 6,(7,.app 34 0),sd 8 .bool,sr 10,sd 14 T9,sd 15 T1,sd 16 T1],[sc 3 T8,sc 4 eb,sc 5 T6,se 6 T8 (QG),sc 10 Kb,sz 34 Kb 0]⟩
def j1 (Nx : AW α) : AW α:=fun a b c d e f g h i=>Nx a b c (wrap .i64 (d + 1)) e f g h i
def j0 (Nx : AW α) : RQ α:=fun c d e f g a h i j b=>ite (not (ax eb j.1 a)) (ite (eL (b.length + 1) 64 = true) (j1 Nx c d e f g a h i (b ++ [j])) none) (j1 Nx c d e f g a h i b)
def S3 : Px:=⟨56,[sr 3,sr 4,sr 5,sr 6,(7,.app 34 0),sd 8 .bool],[sc 3 T8,sc 4 eb,sc 5 T6,se 6 T8 (QG),sz 34 Kb 0]⟩
def bq (Nx : AW α) (Xt0 : Mc α) : AW α:=fun d b g a h c e i f=>ite (decide (a < g)) (ite (0 <= a /\ a < (b.length : Int)) ((if ((not d) == true) = true then ej.run (b.getD a.toNat Fx).1 c else some false).bind fun j=>ite (cond (not d) (not j) false) (ite (eL (f.length + 1) 64 = true) (j0 Nx true b g a h c e i (b.getD a.toNat Fx) (f ++ [(c,e,())])) none) (j0 Nx d b g a h c e i (b.getD a.toNat Fx) f)) none) (Xt0 d h c e i f)
def l0 (k : Nat) (Xt0 : Mc α) : Nat->AW α
 | 0=>kz (S:=S1)
 | n + 1=>bq (l0 k Xt0 n) Xt0
def S4 : Px:=⟨56,[sr 3,sr 6,(7,.app 34 0)],[sc 3 T8,se 6 T8 (QG),sz 34 Kb 0]⟩
def S5 : Px:=⟨56,[sr 6],[se 6 T8 (SG),sz 34 Kb 0]⟩
def j3 (Rt : J8 α) : Rm α:=fun a c b=>Rt a.1 b
def j2 (Rt : J8 α) : Mc α:=fun d b e f c a=>ite (not d) (ite (eL (a.length + 1) 64 = true) (j3 Rt b c (a ++ [(e,f,())])) none) (j3 Rt b c a)
def top (k : Nat) (Rt : J8 α) (a : D4) (c b : D1) : Option α:=(aB.run b).bind fun d=>l0 k (j2 Rt) k d a.2.1 (a.2.1.length : Int) 0 a c b [0,0,0,0] []
def run:=top fuel (fun a b=>some (a,b,()))
def F : Fn:=fo [T8,eb,T6] T8 run
def w0 (k : Nat) (Nx : K S1 α) (Xt0 : K S3 α) : List (Nat × ee α):=[(44,.j S1 (j1 Nx)),(36,.j S2 (j0 Nx))]
def w (k : Nat) (Rt : K S5 α) : List (Nat × ee α):=[(56,.j S4 (j3 Rt)),(48,.j S3 (j2 Rt)),(49,.l S1 (l0 k (j2 Rt)) fun n=>w0 k (l0 k (j2 Rt) n) (j2 Rt))]
noncomputable def c : Cf:=cn 94 F ⟨Tryz.f94,[9,11,12,14],[aB.c,ej.c],[],[],[(2,1,6),(1,63,3),(4,14399,3),(12,14399,3),(24,14527,3),(30,14399,3),(33,63,3),(39,25,3)],[(12,[.melt true 7 [] 34 true])],[],0⟩ S5 top (fun a b=>some (a,b,())) w bY Tryz.func94
end Go.Bx.bK
namespace Go.Bx.cq
def S1 : Px:=⟨22,[sr 3,sr 4,sd 8 T9,sd 9 T1,sd 10 T1],[sc 3 eb,sc 4 T6]⟩
def S2 : Px:=⟨22,[sr 4],[sc 4 T6]⟩
def bq (Nx : Mt α) (Rt : cf α) (Xt0 : cf α) : Mt α:=fun b c a d e=>ite (decide (a < c)) (ite (0 <= a /\ a < (b.length : Int)) (ite (ax eb (b.getD a.toNat Fx).1 d) (Rt (b.getD a.toNat Fx).2.1) (Nx b c (wrap .i64 (a + 1)) d e)) none) (Xt0 e)
def l0 (k : Nat) (Rt : cf α) (Xt0 : cf α) : Nat->Mt α
 | 0=>kz (S:=S1)
 | n + 1=>bq (l0 k Rt Xt0 n) Rt Xt0
def j0 (Rt : cf α) : cf α:=fun a=>Rt [0,0,0,0]
def top (k : Nat) (Rt : cf α) (a : D4) (b : D1) : Option α:=l0 k Rt (j0 Rt) k a.2.1 (a.2.1.length : Int) 0 b [0,0,0,0]
def run:=top fuel (fun a=>some a)
def F : Fn:=fo [T8,eb] T6 run
def w (k : Nat) (Rt : K S2 α) : List (Nat × ee α):=[(32,.j S2 (j0 Rt)),(25,.l S1 (l0 k Rt (j0 Rt)) fun _=>[])]
noncomputable def c : Cf:=cn 53 F ⟨Tryz.f53,[8],[],[],[],[(2,1,4),(1,1,4),(4,227,3),(6,227,3),(21,1,4)],[],[],0⟩ S2 top (fun a=>some a) w bY Tryz.func53
end Go.Bx.cq
namespace Go.Bx.gy
def S1 : Px:=⟨14,[sr 4,sd 5 .bool],[sc 4 T6]⟩
def top (Rt : FK α) (b c : D1) : Option α:=(aw.run b).bind fun d=>(aw.run c).bind fun e=>(aH.run d e).bind fun f=>(aQ.run f).bind fun a=>Rt a.2.1 a.1
def run:=top (fun a b=>some (b,a,()))
def F : Fn:=fm [T6,T6] [T6,.bool] run
noncomputable def c : Cf:=cn 134 F ⟨Tryz.f134,[],[aH.c,aw.c,aQ.c],[],[],[(2,3,4)],[],[],0⟩ S1 (fun _=>top) (fun a b=>some (b,a,())) e0 bY Tryz.func134
end Go.Bx.gy
namespace Go.Bx.cG
def S1 : Px:=⟨30,[sr 4,sd 5 .bool],[sc 4 T6]⟩
def top (Rt : FK α) (c d : D1) : Option α:=(aw.run c).bind fun a=>(aw.run d).bind fun b=>(aX.run a b).bind fun e=>ite (decide (e >= 0)) ((an.run a b).bind fun f=>(cd.run f).bind fun g=>Rt false g) ((aH.run a [0,0,0,0,0,0,0,0,1]).bind fun h=>(an.run h b).bind fun i=>(cd.run i).bind fun j=>Rt true j)
def run:=top (fun a b=>some (b,a,()))
def F : Fn:=fm [T6,T6] [T6,.bool] run
noncomputable def c : Cf:=cn 93 F ⟨Tryz.f93,[],[aH.c,aw.c,aX.c,cd.c,an.c],[],[],[(2,3,4)],[],[],0⟩ S1 (fun _=>top) (fun a b=>some (b,a,())) e0 bY Tryz.func93
end Go.Bx.cG
namespace Go.Bx.kP
def S1 : Px:=⟨10,[sr 2,sd 3 T1],[sc 2 T8]⟩
def top (Rt : GC α) (a : D4) : Option α:=ite (decide ((a.2.1.length : Int) > 40)) (Rt 9 ([0,0,0,0],[],())) (Rt 0 a)
def run:=top (fun a b=>some (b,a,()))
def F : Fn:=fm [T8] [T8,T1] run
noncomputable def c : Cf:=cn 111 F ⟨Tryz.f111,[],[],[],[],[(2,3,2)],[(2,[.dat false 2 []])],[],0⟩ S1 (fun _=>top) (fun a b=>some (b,a,())) e0 bY Tryz.func111
end Go.Bx.kP
namespace Go.Bx.i9
def S1 : Px:=⟨46,[sr 6,sd 7 T1],[sc 6 T8]⟩
def top (Rt : GC α) (a : D4) (b c : D1) : Option α:=(cI.run a).bind fun d=>ite (d != 0) (Rt d ([0,0,0,0],[],())) ((fy.run a.1 c).bind fun e=>ite e.2.1 (Rt 13 ([0,0,0,0],[],())) ((mi.run a b).bind fun g=>(fy.run g c).bind fun h=>(iB.run a b h.1).bind fun i=>(kP.run (e.1,i.2)).bind fun f=>Rt f.2.1 f.1))
def run:=top (fun a b=>some (b,a,()))
def F : Fn:=fm [T8,eb,T6] [T8,T1] run
noncomputable def c : Cf:=cn 68 F ⟨Tryz.f68,[],[cI.c,fy.c,mi.c,iB.c,kP.c],[],[],[(2,3,6)],[(2,[.dat false 6 []])],[],0⟩ S1 (fun _=>top) (fun a b=>some (b,a,())) e0 bY Tryz.func68
end Go.Bx.i9
namespace Go.Bx.kZ
def S1 : Px:=⟨40,[sr 6,sd 7 T1],[sc 6 T8]⟩
def top (Rt : GC α) (a : D4) (b c : D1) : Option α:=(cI.run a).bind fun d=>ite (d != 0) (Rt d ([0,0,0,0],[],())) ((mi.run a b).bind fun g=>(fO.run g c).bind fun e=>ite e.2.1 (Rt 13 ([0,0,0,0],[],())) ((iB.run a b e.1).bind fun f=>(fO.run f.1 c).bind fun h=>Rt 0 (h.1,f.2)))
def run:=top (fun a b=>some (b,a,()))
def F : Fn:=fm [T8,eb,T6] [T8,T1] run
noncomputable def c : Cf:=cn 31 F ⟨Tryz.f31,[],[cI.c,fO.c,mi.c,iB.c],[],[],[(2,3,6)],[(2,[.dat false 6 []])],[],0⟩ S1 (fun _=>top) (fun a b=>some (b,a,())) e0 bY Tryz.func31
end Go.Bx.kZ
namespace Go.Bx.dO
def S1 : Px:=⟨49,[sr 6,sd 7 T1],[sc 6 T8]⟩
def top (Rt : GC α) (a : D4) (b c : D1) : Option α:=(aP.run a).bind fun d=>ite (d != 0) (Rt d ([0,0,0,0],[],())) ((gy.run a.1 c).bind fun e=>ite e.2.1 (Rt 13 ([0,0,0,0],[],())) ((cq.run a b).bind fun g=>(gy.run g c).bind fun h=>(bK.run a b h.1).bind fun f=>ite (decide ((f.2.1.length : Int) > 40)) (Rt 9 ([0,0,0,0],[],())) (Rt 0 (e.1,f.2))))
def run:=top (fun a b=>some (b,a,()))
def F : Fn:=fm [T8,eb,T6] [T8,T1] run
noncomputable def c : Cf:=cn 95 F ⟨Tryz.f95,[],[aP.c,cq.c,bK.c,gy.c],[],[],[(2,3,6)],[(2,[.dat false 6 []])],[],0⟩ S1 (fun _=>top) (fun a b=>some (b,a,())) e0 bY Tryz.func95
end Go.Bx.dO
namespace Go.Bx.fx
def S1 : Px:=⟨41,[sr 6,sd 7 T1],[sc 6 T8]⟩
def top (Rt : GC α) (a : D4) (b c : D1) : Option α:=(aP.run a).bind fun d=>ite (d != 0) (Rt d ([0,0,0,0],[],())) ((cq.run a b).bind fun f=>(cG.run f c).bind fun e=>ite e.2.1 (Rt 13 ([0,0,0,0],[],())) ((bK.run a b e.1).bind fun g=>(cG.run a.1 c).bind fun h=>Rt 0 (h.1,g.2)))
def run:=top (fun a b=>some (b,a,()))
def F : Fn:=fm [T8,eb,T6] [T8,T1] run
noncomputable def c : Cf:=cn 50 F ⟨Tryz.f50,[],[aP.c,cq.c,cG.c,bK.c],[],[],[(2,3,6)],[(2,[.dat false 6 []])],[],0⟩ S1 (fun _=>top) (fun a b=>some (b,a,())) e0 bY Tryz.func50
end Go.Bx.fx
namespace Go.Bx.cp
def S1 : Px:=⟨38,[sd 4 .bool],[]⟩
def S2 : Px:=⟨38,[sr 2,sr 3,sd 22 T1,sd 23 T1],[sc 2 T8,sc 3 T8]⟩
def S3 : Px:=⟨38,[],[]⟩
def bq (Nx : Mx α) (Rt : kF α) (Xt0 : Option α) : Mx α:=fun d a b c=>ite (decide (a < d)) (ite (0 <= a /\ a < (b.2.1.length : Int)) (ite (0 <= a /\ a < (c.2.1.length : Int)) (ite (not (ax Kb (b.2.1.getD a.toNat Fx) (c.2.1.getD a.toNat Fx))) (Rt false) (Nx d (wrap .i64 (a + 1)) b c)) none) none) (Xt0)
def l0 (k : Nat) (Rt : kF α) (Xt0 : Option α) : Nat->Mx α
 | 0=>kz (S:=S2)
 | n + 1=>bq (l0 k Rt Xt0 n) Rt Xt0
def j0 (Rt : kF α) : Option α:=Rt true
def top (k : Nat) (Rt : kF α) (a b : D4) : Option α:=ite (cond (not (ax T6 a.1 b.1)) true ((a.2.1.length : Int) != (b.2.1.length : Int))) (Rt false) (l0 k Rt (j0 Rt) k (a.2.1.length : Int) 0 a b)
def run:=top fuel (fun a=>some a)
def F : Fn:=fo [T8,T8] .bool run
def w (k : Nat) (Rt : K S1 α) : List (Nat × ee α):=[(40,.j S3 (j0 Rt)),(49,.l S2 (l0 k Rt (j0 Rt)) fun _=>[])]
noncomputable def c : Cf:=cn 18 F ⟨Tryz.f18,[10],[],[],[],[(2,1,4),(1,0,0),(4,3145731,2),(12,3145731,2),(27,0,0)],[],[],0⟩ S1 top (fun a=>some a) w bY Tryz.func18
end Go.Bx.cp
namespace Go.Bx.iR
def S1 : Px:=⟨29,[sr 8,sd 9 T1],[sc 8 T8]⟩
def top (Rt : GC α) (d : D4) (e f b : D1) : Option α:=(kZ.run d e b).bind fun a=>ite (a.2.1 != 0) (Rt a.2.1 ([0,0,0,0],[],())) ((i9.run a.1 f b).bind fun c=>Rt c.2.1 c.1)
def run:=top (fun a b=>some (b,a,()))
def F : Fn:=fm [T8,eb,eb,T6] [T8,T1] run
noncomputable def c : Cf:=cn 30 F ⟨Tryz.f30,[],[kZ.c,i9.c],[],[],[(2,3,8)],[(2,[.dat false 8 []])],[],0⟩ S1 (fun _=>top) (fun a b=>some (b,a,())) e0 bY Tryz.func30
end Go.Bx.iR
namespace Go.Bx.d8
def S1 : Px:=⟨29,[sr 8,sd 9 T1],[sc 8 T8]⟩
def top (Rt : GC α) (d : D4) (e f b : D1) : Option α:=(fx.run d e b).bind fun a=>ite (a.2.1 != 0) (Rt a.2.1 ([0,0,0,0],[],())) ((dO.run a.1 f b).bind fun c=>Rt c.2.1 c.1)
def run:=top (fun a b=>some (b,a,()))
def F : Fn:=fm [T8,eb,eb,T6] [T8,T1] run
noncomputable def c : Cf:=cn 51 F ⟨Tryz.f51,[],[fx.c,dO.c],[],[],[(2,3,8)],[(2,[.dat false 8 []])],[],0⟩ S1 (fun _=>top) (fun a b=>some (b,a,())) e0 bY Tryz.func51
end Go.Bx.d8
namespace Go.Bx.iA
def S1 : Px:=⟨51,[sd 4 T7,sd 5 T7],[]⟩
def top (Rt : Am α) (a b : Int) : Option α:=Rt (wrap .u64 ((wrap .u64 ((wrap .u64 ((fh .u64 a 32) * (fh .u64 b 32))) + (fh .u64 (wrap .u64 ((wrap .u64 ((fh .u64 a 32) * (cF .u64 b 4294967295))) + (fh .u64 (wrap .u64 ((cF .u64 a 4294967295) * (cF .u64 b 4294967295))) 32))) 32))) + (fh .u64 (wrap .u64 ((cF .u64 (wrap .u64 ((wrap .u64 ((fh .u64 a 32) * (cF .u64 b 4294967295))) + (fh .u64 (wrap .u64 ((cF .u64 a 4294967295) * (cF .u64 b 4294967295))) 32))) 4294967295) + (wrap .u64 ((cF .u64 a 4294967295) * (fh .u64 b 32))))) 32))) (wrap .u64 (a * b))
def run:=top (fun a b=>some (a,b,()))
def F : Fn:=fm [T7,T7] [T7,T7] run
noncomputable def c : Cf:=cn 171 F ⟨Tryz.f171,[],[],[],[],[(2,3,4)],[],[],0⟩ S1 (fun _=>top) ri e0 bY Tryz.func171
end Go.Bx.iA
namespace Go.Bx.eC
def S1 : Px:=⟨82,[sr 3,sr 4,sr 5,sr 6,sd 15 T6,sd 16 T1],[sc 3 T6,sc 4 T6,sc 5 T6,sc 6 Rx]⟩
def S2 : Px:=⟨82,[sr 3,sr 4,sr 5,sr 6,sd 7 T1,sd 8 T7,sd 9 T7,sd 15 T6,sd 16 T1,sd 20 T6,sd 21 T1],[sc 3 T6,sc 4 T6,sc 5 T6,sc 6 Rx]⟩
def S3 : Px:=⟨82,[sr 3,sr 4,sr 5,sr 6,sd 7 T1,sd 9 T7,sd 15 T6,sd 16 T1],[sc 3 T6,sc 4 T6,sc 5 T6,sc 6 Rx]⟩
def me (Nx : PK α) (Xt2 : Fh α) : PK α:=fun b d e f g h a i j k c=>ite (decide (a < 4)) (ite (0 <= a /\ a < (4 : Int)) ((iA.run d (h.getD a.toNat 0)).bind fun l=>ite (0 <= (wrap .i64 (b + a)) /\ (wrap .i64 (b + a)) < (8 : Int)) ((lF.run l.2.1 (c.getD (wrap .i64 (b + a)).toNat 0) 0).bind fun m=>(lF.run m.1 e 0).bind fun n=>ite (0 <= (wrap .i64 (b + a)) /\ (wrap .i64 (b + a)) < (8 : Int)) (Nx b d (wrap .u64 ((wrap .u64 (l.1 + m.2.1)) + n.2.1)) f g h (wrap .i64 (a + 1)) i j k (c.set (wrap .i64 (b + a)).toNat n.1)) none) none) none) (Xt2 b e f g i j k c)
def l1 (k : Nat) (Xt2 : Fh α) : Nat->PK α
 | 0=>kz (S:=S2)
 | n + 1=>me (l1 k Xt2 n) Xt2
def j1 (Nx : vA α) : vA α:=fun a b c d e f=>Nx a (wrap .i64 (b + 1)) c d e f
def j0 (Nx : vA α) : Fh α:=fun a b c d e f g h=>ite (0 <= (wrap .i64 (a + 4)) /\ (wrap .i64 (a + 4)) < (8 : Int)) (j1 Nx c d e f g (h.set (wrap .i64 (a + 4)).toNat b)) none
def S4 : Px:=⟨82,[sr 4,sr 5,sr 6],[sc 4 T6,sc 5 T6,sc 6 Rx]⟩
def bq (k : Nat) (Nx : vA α) (Xt0 : uD α) : vA α:=fun b a c d e f=>ite (decide (a < 4)) (ite (0 <= a /\ a < (4 : Int)) (l1 k (j0 Nx) k a (b.getD a.toNat 0) 0 b a c 0 c d e f) none) (Xt0 d e f)
def l0 (k : Nat) (Xt0 : uD α) : Nat->vA α
 | 0=>kz (S:=S1)
 | n + 1=>bq k (l0 k Xt0 n) Xt0
def S5 : Px:=⟨82,[sr 4,sr 5],[sc 4 T6,sc 5 T6]⟩
def j2 (Rt : ff α) : uD α:=fun b c a=>Rt [(a.getD 0 0),(a.getD 1 0),(a.getD 2 0),(a.getD 3 0)] [(a.getD 4 0),(a.getD 5 0),(a.getD 6 0),(a.getD 7 0)]
def top (k : Nat) (Rt : ff α) (a b : D1) : Option α:=l0 k (j2 Rt) k a 0 b [0,0,0,0] [0,0,0,0] [0,0,0,0,0,0,0,0]
def run:=top fuel (fun a b=>some (a,b,()))
def F : Fn:=fm [T6,T6] [T6,T6] run
def w0 (k : Nat) (Nx : K S1 α) (Xt0 : K S4 α) : List (Nat × ee α):=[(68,.j S1 (j1 Nx)),(64,.j S3 (j0 Nx)),(85,.l S2 (l1 k (j0 Nx)) fun _=>[])]
def w (k : Nat) (Rt : K S5 α) : List (Nat × ee α):=[(72,.j S4 (j2 Rt)),(37,.l S1 (l0 k (j2 Rt)) fun n=>w0 k (l0 k (j2 Rt) n) (j2 Rt))]
noncomputable def c : Cf:=cn 130 F ⟨Tryz.f130,[16,17,18],[lF.c,iA.c],[],[],[(2,3,4),(1,7,4),(4,12303,3),(7,12383,3),(10,405631,3),(9,12303,3),(21,405631,3),(45,12383,3),(48,12303,3),(51,7,4)],[],[],0⟩ S5 top ri w bY Tryz.func130
end Go.Bx.eC
namespace Go.Bx.kJ
def S1 : Px:=⟨24,[sr 2,sd 3 T1],[sc 2 T6]⟩
def S2 : Px:=⟨24,[sr 2,sr 4,sd 13 T1,sd 14 T1],[sc 2 T6,sc 4 T6]⟩
def S3 : Px:=⟨24,[sr 2,sr 4],[sc 2 T6,sc 4 T6]⟩
def bq (Nx : xD α) (Xt0 : ff α) : xD α:=fun a b c d=>ite (decide (b < a)) ((eC.run d [10,0,0,0]).bind fun e=>Nx a (wrap .i64 (b + 1)) c e.1) (Xt0 c d)
def l0 (k : Nat) (Xt0 : ff α) : Nat->xD α
 | 0=>kz (S:=S2)
 | n + 1=>bq (l0 k Xt0 n) Xt0
def j0 (Rt : jJ α) : ff α:=fun b a=>Rt 0 a
def top (k : Nat) (Rt : jJ α) (a : Int) : Option α:=ite (cond (decide (a < 0)) true (decide (a >= 78))) (Rt 6 [0,0,0,0]) (l0 k (j0 Rt) k a 0 [0,0,0,0] [1,0,0,0])
def run:=top fuel (fun a b=>some (b,a,()))
def F : Fn:=fm [T1] [T6,T1] run
def w (k : Nat) (Rt : K S1 α) : List (Nat × ee α):=[(36,.j S3 (j0 Rt)),(61,.l S2 (l0 k (j0 Rt)) fun _=>[])]
noncomputable def c : Cf:=cn 114 F ⟨Tryz.f114,[9],[eC.c],[],[],[(2,3,2),(1,5,2),(4,6149,2),(15,6149,2),(24,5,2)],[],[],0⟩ S1 top (fun a b=>some (b,a,())) w bY Tryz.func114
end Go.Bx.kJ
namespace Go.Bx.bn
def S1 : Px:=⟨60,[sr 2,sd 3 T1],[sc 2 T6]⟩
def S2 : Px:=⟨60,[sd 0 .str,sr 2,sd 4 kN,sd 5 T1],[sc 2 T6]⟩
def S3 : Px:=⟨60,[sr 2,sd 4 kN],[sc 2 T6]⟩
def bq (Nx : Kw α) (Rt : jJ α) (Xt0 : ff α) : Kw α:=fun b c a d=>ite (decide (a < (b.length : Int))) (ite (0 <= a /\ a < (b.length : Int)) (cond (decide (0 <= a /\ a < (b.length : Int)) || !((decide ((b.getD a.toNat 0) < 48)) == false)) (ite (cond (decide ((b.getD a.toNat 0) < 48)) true (decide ((b.getD a.toNat 0) > 57))) (Rt 3 [0,0,0,0]) ((aE.run c [10]).bind fun e=>ite (0 <= a /\ a < (b.length : Int)) ((aH.run e [(wrap .u64 (wrap .u8 ((b.getD a.toNat 0) - 48)))]).bind fun f=>(bU.run f).bind fun g=>Nx b g (wrap .i64 (a + 1)) d) none)) none) none) (Xt0 c d)
def l0 (k : Nat) (Rt : jJ α) (Xt0 : ff α) : Nat->Kw α
 | 0=>kz (S:=S2)
 | n + 1=>bq (l0 k Rt Xt0 n) Rt Xt0
def j0 (Rt : jJ α) : ff α:=fun b c=>(aQ.run b).bind fun a=>ite a.2.1 (Rt 6 [0,0,0,0]) (Rt 0 a.1)
def top (k : Nat) (Rt : jJ α) (a : D1) : Option α:=ite (decide ((a.length : Int) > 78)) (Rt 1 [0,0,0,0]) (cond (decide (0 <= (0 : Int) /\ (0 : Int) < (a.length : Int)) || !((ax .str a []) == false)) (ite (cond (ax .str a []) true (cond ((a.getD 0 0) == 48) (not (ax .str a [48])) false)) (Rt 3 [0,0,0,0]) (l0 k Rt (j0 Rt) k a [] 0 [0,0,0,0])) none)
def run:=top fuel (fun a b=>some (b,a,()))
def F : Fn:=fm [.str] [T6,T1] run
def w (k : Nat) (Rt : K S1 α) : List (Nat × ee α):=[(52,.j S3 (j0 Rt)),(85,.l S2 (l0 k Rt (j0 Rt)) fun _=>[])]
noncomputable def c : Cf:=cn 135 F ⟨Tryz.f135,[13],[bU.c,aH.c,aQ.c,aE.c],[],[],[(2,3,2),(1,5,2),(4,53,0),(21,53,0),(36,5,2)],[(21,[.dat true 4 []])],[],0⟩ S1 top (fun a b=>some (b,a,())) w bY Tryz.func135
end Go.Bx.bn
namespace Go.Bx.dk
def S1 : Px:=⟨22,[sr 2,sd 3 T1],[sc 2 T6]⟩
def S2 : Px:=⟨22,[sr 2,sd 4 .str,sd 12 T1,sd 13 T1],[sc 2 T6]⟩
def S3 : Px:=⟨22,[sr 2,sd 4 .str],[sc 2 T6]⟩
def bq (Nx : MR α) (Xt0 : ff α) : MR α:=fun a b c d=>ite (decide (c < b)) (ite (ble (a.length + 1) 9223372036854775807 = true) (Nx (a ++ [48]) b (wrap .i64 (c + 1)) d) none) (Xt0 a d)
def l0 (k : Nat) (Xt0 : ff α) : Nat->MR α
 | 0=>kz (S:=S2)
 | n + 1=>bq (l0 k Xt0 n) Xt0
def j0 (Rt : jJ α) : ff α:=fun b c=>(bn.run b).bind fun a=>Rt a.2.1 a.1
def top (k : Nat) (Rt : jJ α) (a : Int) : Option α:=ite (cond (decide (a < 0)) true (decide (a > 77))) (Rt 6 [0,0,0,0]) (l0 k (j0 Rt) k [49] a 0 [0,0,0,0])
def run:=top fuel (fun a b=>some (b,a,()))
def F : Fn:=fm [T1] [T6,T1] run
def w (k : Nat) (Rt : K S1 α) : List (Nat × ee α):=[(36,.j S3 (j0 Rt)),(61,.l S2 (l0 k (j0 Rt)) fun _=>[])]
noncomputable def c : Cf:=cn 96 F ⟨Tryz.f96,[9],[bn.c],[],[],[(2,3,2),(1,5,2),(4,3077,2),(15,3077,2),(24,5,2)],[],[],0⟩ S1 top (fun a b=>some (b,a,())) w bY Tryz.func96
end Go.Bx.dk
namespace Go.Bx.iC
def S1 : Px:=⟨17,[sr 2,sd 3 T1],[sc 2 T6]⟩
def top (Rt : jJ α) (a : Int) : Option α:=ite (cond (decide (a < 0)) true (decide (a >= 78))) (Rt 6 [0,0,0,0]) ((kJ.run (if 0 > (wrap .i64 (a - 8)) then 0 else (wrap .i64 (a - 8)))).bind fun b=>Rt b.2.1 b.1)
def run:=top (fun a b=>some (b,a,()))
def F : Fn:=fm [T1] [T6,T1] run
noncomputable def c : Cf:=cn 72 F ⟨Tryz.f72,[],[kJ.c],[],[],[(2,3,2)],[],[],0⟩ S1 (fun _=>top) (fun a b=>some (b,a,())) e0 bY Tryz.func72
end Go.Bx.iC
namespace Go.Bx.mu
def S1 : Px:=⟨30,[sr 4,sd 5 T1],[sc 4 T6]⟩
def top (Rt : jJ α) (c : D1) (d : Int) : Option α:=(iC.run d).bind fun a=>ite (a.2.1 != 0) (Rt a.2.1 [0,0,0,0]) ((eC.run c a.1).bind fun b=>ite (not (ax T6 b.2.1 [0,0,0,0])) (Rt 13 [0,0,0,0]) (Rt 0 b.1))
def run:=top (fun a b=>some (b,a,()))
def F : Fn:=fm [T6,T1] [T6,T1] run
noncomputable def c : Cf:=cn 82 F ⟨Tryz.f82,[],[iC.c,eC.c],[],[],[(2,3,4)],[],[],0⟩ S1 (fun _=>top) (fun a b=>some (b,a,())) e0 bY Tryz.func82
end Go.Bx.mu
namespace Go.Bx.eU
def S1 : Px:=⟨36,[sr 4,sd 5 T1],[sc 4 T6]⟩
def top (Rt : jJ α) (c : D1) (a : Int) : Option α:=ite (cond (decide (a < 0)) true (decide (a > 77))) (Rt 6 [0,0,0,0]) ((dk.run (if (wrap .i64 (a - 8)) > 0 then (wrap .i64 (a - 8)) else 0)).bind fun d=>(aw.run c).bind fun e=>(aw.run d.1).bind fun f=>(aE.run e f).bind fun g=>(aQ.run g).bind fun b=>ite b.2.1 (Rt 13 [0,0,0,0]) (Rt 0 b.1))
def run:=top (fun a b=>some (b,a,()))
def F : Fn:=fm [T6,T1] [T6,T1] run
noncomputable def c : Cf:=cn 104 F ⟨Tryz.f104,[],[aw.c,dk.c,aQ.c,aE.c],[],[],[(2,3,4)],[],[],0⟩ S1 (fun _=>top) (fun a b=>some (b,a,())) e0 bY Tryz.func104
end Go.Bx.eU
namespace Go.Bx.iJ
def S1 : Px:=⟨24,[sr 4,sr 5,sd 6 T1],[sc 4 T6,sc 5 T6]⟩
def top (Rt : tL α) (c : D1) (d : Int) : Option α:=(iC.run d).bind fun a=>ite (a.2.1 != 0) (Rt a.2.1 [0,0,0,0] [0,0,0,0]) ((bL.run c a.1).bind fun b=>Rt b.2.2.1 b.1 b.2.1)
def run:=top (fun a b c=>some (b,c,a,()))
def F : Fn:=fm [T6,T1] [T6,T6,T1] run
noncomputable def c : Cf:=cn 33 F ⟨Tryz.f33,[],[iC.c,bL.c],[],[],[(2,7,4)],[],[],0⟩ S1 (fun _=>top) (fun a b d=>some (b,d,a,())) e0 bY Tryz.func33
end Go.Bx.iJ
namespace Go.Bx.dG
def S1 : Px:=⟨30,[sr 4,sr 5,sd 6 T1],[sc 4 T6,sc 5 T6]⟩
def top (Rt : tL α) (c : D1) (a : Int) : Option α:=ite (cond (decide (a < 0)) true (decide (a > 77))) (Rt 6 [0,0,0,0] [0,0,0,0]) ((dk.run (if (wrap .i64 (a - 8)) > 0 then (wrap .i64 (a - 8)) else 0)).bind fun d=>(cj.run c d.1).bind fun b=>Rt b.2.2.1 b.1 b.2.1)
def run:=top (fun a b c=>some (b,c,a,()))
def F : Fn:=fm [T6,T1] [T6,T6,T1] run
noncomputable def c : Cf:=cn 52 F ⟨Tryz.f52,[],[dk.c,cj.c],[],[],[(2,7,4)],[],[],0⟩ S1 (fun _=>top) (fun a b d=>some (b,d,a,())) e0 bY Tryz.func52
end Go.Bx.dG
namespace Go.Bx.j8
def S1 : Px:=⟨10,[sr 0,sr 1,sd 3 T1],[sc 0 eb,sc 1 eb]⟩
def S2 : Px:=⟨10,[sr 0,sr 1],[sc 0 eb,sc 1 eb]⟩
def bq (Nx : tL α) (Xt0 : ff α) : tL α:=fun a b c=>ite (decide (a < 32)) (ite (0 <= a /\ a < (32 : Int)) (Nx (wrap .i64 (a + 1)) b (c.set a.toNat 255)) none) (Xt0 b c)
def l0 (k : Nat) (Xt0 : ff α) : Nat->tL α
 | 0=>kz (S:=S1)
 | n + 1=>bq (l0 k Xt0 n) Xt0
def S3 : Px:=⟨10,[sr 0],[sc 0 eb]⟩
def j0 (Rt : cf α) : ff α:=fun b a=>Rt a
def top (k : Nat) (Rt : cf α) : Option α:=l0 k (j0 Rt) k 0 (replicate 32 0) (replicate 32 0)
def run:=top fuel (fun a=>some a)
def F : Fn:=fo [] eb run
def w (k : Nat) (Rt : K S3 α) : List (Nat × ee α):=[(32,.j S2 (j0 Rt)),(37,.l S1 (l0 k (j0 Rt)) fun _=>[])]
noncomputable def c : Cf:=cn 28 F ⟨Tryz.f28,[8],[],[],[],[(2,1,0),(1,3,0),(4,11,0),(9,11,0),(21,3,0)],[],[],0⟩ S3 top (fun a=>some a) w bY Tryz.func28
end Go.Bx.j8
namespace Go.Bx.ft
def S1 : Px:=⟨9,[sr 0,sd 1 .str,sd 2 T1],[sc 0 eb]⟩
def S2 : Px:=⟨9,[sr 0,sd 1 .str],[sc 0 eb]⟩
def bq (Nx : Bh α) (Xt0 : ff α) : Bh α:=fun a b c=>ite (decide (b < 32)) (ite (ble (a.length + 1) 9223372036854775807 = true) (Nx (a ++ [255]) (wrap .i64 (b + 1)) c) none) (Xt0 a c)
def l0 (k : Nat) (Xt0 : ff α) : Nat->Bh α
 | 0=>kz (S:=S1)
 | n + 1=>bq (l0 k Xt0 n) Xt0
def S3 : Px:=⟨9,[sr 0],[sc 0 eb]⟩
def j0 (Rt : cf α) : ff α:=fun a c=>(aY.run a).bind fun b=>Rt b
def top (k : Nat) (Rt : cf α) : Option α:=l0 k (j0 Rt) k [] 0 (replicate 32 0)
def run:=top fuel (fun a=>some a)
def F : Fn:=fo [] eb run
def w (k : Nat) (Rt : K S3 α) : List (Nat × ee α):=[(28,.j S2 (j0 Rt)),(37,.l S1 (l0 k (j0 Rt)) fun _=>[])]
noncomputable def c : Cf:=cn 48 F ⟨Tryz.f48,[7],[aY.c],[],[],[(2,1,0),(1,3,0),(4,7,0),(9,7,0),(18,3,0)],[],[],0⟩ S3 top (fun a=>some a) w bY Tryz.func48
end Go.Bx.ft
namespace Go.Bx.kM
def S1 : Px:=⟨38,[sr 4,sd 5 T1],[sc 4 T6]⟩
def top (Rt : jJ α) (b : D1) (c : Int) : Option α:=(iJ.run b c).bind fun a=>ite (a.2.2.1 != 0) (Rt a.2.2.1 [0,0,0,0]) (ite (not (ax T6 a.2.1 [0,0,0,0])) (Rt 14 [0,0,0,0]) (ite ((jq .u64 (jq .u64 (a.1.getD 1 0) (a.1.getD 2 0)) (a.1.getD 3 0)) != 0) (Rt 13 [0,0,0,0]) (Rt 0 a.1)))
def run:=top (fun a b=>some (b,a,()))
def F : Fn:=fm [T6,T1] [T6,T1] run
noncomputable def c : Cf:=cn 29 F ⟨Tryz.f29,[],[iJ.c],[],[],[(2,3,4),(1,5,4)],[],[],0⟩ S1 (fun _=>top) (fun a b=>some (b,a,())) e0 bY Tryz.func29
end Go.Bx.kM
namespace Go.Bx.iy
def S1 : Px:=⟨16,[sd 2 .bool],[]⟩
def top (Rt : kF α) (a : D1) : Option α:=Rt (cond (cond ((a.getD 1 0) != 0) true ((a.getD 2 0) != 0)) true ((a.getD 3 0) != 0))
def run:=top (fun a=>some a)
def F : Fn:=fo [T6] .bool run
noncomputable def c : Cf:=cn 54 F ⟨Tryz.f54,[],[],[],[],[(2,1,2)],[],[],0⟩ S1 (fun _=>top) (fun a=>some a) e0 bY Tryz.func54
end Go.Bx.iy
namespace Go.Bx.fg
def S1 : Px:=⟨28,[sr 4,sd 5 T1],[sc 4 T6]⟩
def top (Rt : jJ α) (b : D1) (c : Int) : Option α:=(dG.run b c).bind fun a=>ite (a.2.2.1 != 0) (Rt a.2.2.1 [0,0,0,0]) ((aB.run a.2.1).bind fun d=>ite (not d) (Rt 14 [0,0,0,0]) ((iy.run a.1).bind fun e=>ite e (Rt 13 [0,0,0,0]) (Rt 0 a.1)))
def run:=top (fun a b=>some (b,a,()))
def F : Fn:=fm [T6,T1] [T6,T1] run
noncomputable def c : Cf:=cn 49 F ⟨Tryz.f49,[],[aB.c,dG.c,iy.c],[],[],[(2,3,4)],[],[],0⟩ S1 (fun _=>top) (fun a b=>some (b,a,())) e0 bY Tryz.func49
end Go.Bx.fg
namespace Go.Bx.rV
def S1 : Px:=⟨16,[sr 4,sd 5 T1],[sc 4 T6]⟩
def top (Rt : jJ α) (a : D4) (c : D1) : Option α:=(cI.run a).bind fun b=>ite (b != 0) (Rt b [0,0,0,0]) ((mi.run a c).bind fun d=>Rt 0 d)
def run:=top (fun a b=>some (b,a,()))
def F : Fn:=fm [T8,eb] [T6,T1] run
noncomputable def c : Cf:=cn 32 F ⟨Tryz.f32,[],[cI.c,mi.c],[],[],[(2,3,4)],[],[],0⟩ S1 (fun _=>top) (fun a b=>some (b,a,())) e0 bY Tryz.func32
end Go.Bx.rV
namespace Go.Bx.dC
def S1 : Px:=⟨178,[sd 4 T1],[se 0 lQ (xz),sz 1 jn 1,sb 2 lk 1,sz 3 iF 1]⟩
def S2 : Px:=⟨178,[sr 0,st 3 7,(5,.ref 2 1 [.idx 0]),st 6 10,sd 7 T1,st 8 12],[se 0 lQ (xz),sz 1 jn 1,sb 2 lk 1,sz 3 iF 1,sc 7 Ix,sc 10 T6,sc 12 T6]⟩
def S3 : Px:=⟨178,[sr 0,st 3 7,st 6 10,st 8 12],[se 0 lQ (xz),sz 1 jn 1,sb 2 lk 1,sz 3 iF 1,sc 7 Ix,sc 10 T6,sc 12 T6]⟩
def j1 (Rt : A8 α) : Q3 α:=fun c d e f g h i j b k l=>(eG.run 1 k l b.2.2.1 b.2.2.2.1 b.2.2.2.2.2.2.1 b.2.2.2.2.2.2.2.1 0 [] [] 0 [] c d e f g h i j).bind fun a=>Rt a.1 a.2.1 a.2.2.1 a.2.2.2.1 a.2.2.2.2.1 a.2.2.2.2.2.1 a.2.2.2.2.2.2.1 a.2.2.2.2.2.2.2.1 a.2.2.2.2.2.2.2.2.1
def j0 (Rt : A8 α) : Rv α:=fun x5i0 j b c d e f g a h k l m=>ite (j != 0) (Rt j b c d e f g a h) (ite ((a.getD x5i0.toNat iN).2.1 == b) ((j8.run).bind fun n=>(rV.run (a.getD x5i0.toNat iN).2.2.2.1 n).bind fun o=>(iJ.run o.1 (a.getD x5i0.toNat iN).2.2.1).bind fun i=>ite ((jq .u64 (jq .u64 (i.1.getD 1 0) (i.1.getD 2 0)) (i.1.getD 3 0)) != 0) (Rt 9 b c d e f g a h) (j1 Rt b c d e f g a h k l m)) (j1 Rt b c d e f g a h k l m))
def top (Rt : A8 α) (b : Mh) (j k : Int) (l : D0) (m : Int) (n : iu) (o : D2) (p : D6) (q : D9) : Option α:=(bx.run b.2.2.1 b.2.2.2.1 j k l m n o p q).bind fun r=>(Sum.elim (fun a=>(ic.run b.2.2.2.2.2.2.2.1).bind fun s=>ite (cond (not s) true (b.2.2.2.2.2.2.2.1 == a.2.1)) (Rt 6 a.2.1 a.2.2.1 a.2.2.2.1 a.2.2.2.2.1 a.2.2.2.2.2.1 a.2.2.2.2.2.2.1 a.2.2.2.2.2.2.2.1 a.2.2.2.2.2.2.2.2.1) ((cD.run b.2.2.2.2.2.1 b.2.2.2.2.1).bind fun g=>(if ((cond (decide (g > 0)) true (ax T6 b.2.2.2.2.1 [0,0,0,0])) == false) = true then j8.run else some (replicate 32 0)).bind fun t=>ite (cond (cond (decide (g > 0)) true (ax T6 b.2.2.2.2.1 [0,0,0,0])) true (ax eb b.2.1 t)) (Rt 13 a.2.1 a.2.2.1 a.2.2.2.1 a.2.2.2.2.1 a.2.2.2.2.2.1 a.2.2.2.2.2.2.1 a.2.2.2.2.2.2.2.1 a.2.2.2.2.2.2.2.2.1) ((kM.run b.2.2.2.2.1 (a.2.2.2.2.2.2.2.1.getD a.1.toNat iN).2.2.1).bind fun d=>ite (d.2.1 != 0) (Rt d.2.1 a.2.1 a.2.2.1 a.2.2.2.1 a.2.2.2.2.1 a.2.2.2.2.2.1 a.2.2.2.2.2.2.1 a.2.2.2.2.2.2.2.1 a.2.2.2.2.2.2.2.2.1) ((kM.run b.2.2.2.2.2.1 (a.2.2.2.2.2.2.2.1.getD a.1.toNat iN).2.2.1).bind fun f=>ite (f.2.1 != 0) (Rt f.2.1 a.2.1 a.2.2.1 a.2.2.2.1 a.2.2.2.2.1 a.2.2.2.2.2.1 a.2.2.2.2.2.2.1 a.2.2.2.2.2.2.2.1 a.2.2.2.2.2.2.2.2.1) (ite ((a.2.2.2.2.2.2.2.1.getD a.1.toNat iN).2.1 == a.2.1) ((j8.run).bind fun u=>(iR.run (a.2.2.2.2.2.2.2.1.getD a.1.toNat iN).2.2.2.1 b.2.1 u b.2.2.2.2.1).bind fun h=>j0 Rt a.1 h.2.1 a.2.1 a.2.2.1 a.2.2.2.1 a.2.2.2.2.1 a.2.2.2.2.2.1 a.2.2.2.2.2.2.1 (a.2.2.2.2.2.2.2.1.set a.1.toNat ((a.2.2.2.2.2.2.2.1.getD a.1.toNat iN).1,(a.2.2.2.2.2.2.2.1.getD a.1.toNat iN).2.1,(a.2.2.2.2.2.2.2.1.getD a.1.toNat iN).2.2.1,h.1,(a.2.2.2.2.2.2.2.1.getD a.1.toNat iN).2.2.2.2)) a.2.2.2.2.2.2.2.2.1 b d.1 f.1) ((kZ.run (a.2.2.2.2.2.2.2.1.getD a.1.toNat iN).2.2.2.1 b.2.1 b.2.2.2.2.1).bind fun i=>j0 Rt a.1 i.2.1 a.2.1 a.2.2.1 a.2.2.2.1 a.2.2.2.2.1 a.2.2.2.2.2.1 a.2.2.2.2.2.2.1 (a.2.2.2.2.2.2.2.1.set a.1.toNat ((a.2.2.2.2.2.2.2.1.getD a.1.toNat iN).1,(a.2.2.2.2.2.2.2.1.getD a.1.toNat iN).2.1,(a.2.2.2.2.2.2.2.1.getD a.1.toNat iN).2.2.1,i.1,(a.2.2.2.2.2.2.2.1.getD a.1.toNat iN).2.2.2.2)) a.2.2.2.2.2.2.2.2.1 b d.1 f.1)))))) (Sum.elim (fun c=>Rt 5 c.1 c.2.1 c.2.2.1 c.2.2.2.1 c.2.2.2.2.1 c.2.2.2.2.2.1 c.2.2.2.2.2.2.1 c.2.2.2.2.2.2.2.1) (fun e=>e.elim))) r
def run:=top (fun a b c d e f g h i=>some (a,b,c,d,e,f,g,h,i,()))
def Sp : Spec:=re [.ref 0 0 [],hD Ix] [(0,hC lQ (Hb) false),(1,hB jn 0 true),(2,hB lk 0 false),(3,hB iF 0 true)] [Ix,T1,T1,pz,T1,jk,T4,xp,vT] (hD T1) [(0,hC lQ (xz) false),(1,hB jn 1 true),(2,hB lk 1 false),(3,hB iF 1 true)] [T1,T1,T1,pz,T1,jk,T4,xp,vT] run
def w (k : Nat) (Rt : K S1 α) : List (Nat × ee α):=[(100,.j S3 (j1 Rt)),(72,.j S2 (j0 Rt))]
noncomputable def s : Sf:=sn 9 Sp ⟨Tryz.f9,[18,25],[ic.c,cD.c,j8.c,kM.c,iR.c,kZ.c,rV.c,iJ.c],[bx.s,eG.s],[(19,179),(177,179)],[(2,1,4),(1,41,0),(51,489,0),(72,329,0)],[],[],4⟩ S1 (fun _=>top) ri w bY Tryz.func9
end Go.Bx.dC
namespace Go.Bx.eE
def S1 : Px:=⟨19,[sr 6],[se 6 gC (Tv),sb 10 lk 0]⟩
def top (Rt : RA α) (a : D7) (b : Int) (c : D4) : Option α:=ite ((eL (0 + a.2.2.2.1.length) 104 && (Nat.beq 0 0 || blt 0 a.2.2.2.1.length)) = true) (ite (0 <= b /\ b < (a.2.2.2.1.length : Int)) (Rt a.1 a.2.1 a.2.2.1 a.2.2.2.2.1 a.2.2.2.2.2.1 a.2.2.2.2.2.2.1 (a.2.2.2.1.set b.toNat ((a.2.2.2.1.getD b.toNat iN).1,(a.2.2.2.1.getD b.toNat iN).2.1,(a.2.2.2.1.getD b.toNat iN).2.2.1,c,(a.2.2.2.1.getD b.toNat iN).2.2.2.2))) none) none
def run:=top (fun a b c d e f g=>some (a,b,c,g,d,e,f,()))
def F : Fn:=fo [gC,T1,T8] gC run
noncomputable def c : Cf:=cn 55 F ⟨Tryz.f55,[],[],[],[],[(2,1,6)],[],[],0⟩ S1 (fun _=>top) (fun a b d e f g h=>some (a,b,d,h,e,f,g,())) e0 bY Tryz.func55
end Go.Bx.eE
namespace Go.Bx.eK
def S1 : Px:=⟨149,[sr 4,sd 5 T1],[sc 4 gC]⟩
def S2 : Px:=⟨149,[sr 2,sr 3,sr 4,sd 6 T1,sr 7,sr 8,sd 9 T1,sr 10,sr 11],[sc 2 gC,sc 3 Ix,se 4 gC (DH),sc 7 lk,sc 8 T6,sc 10 T6,sc 11 T8]⟩
def S3 : Px:=⟨149,[sr 2,sr 3,sr 4,sd 6 T1,sr 8,sr 10,sr 11],[sc 2 gC,sc 3 Ix,se 4 gC (DH),sc 8 T6,sc 10 T6,sc 11 T8]⟩
def j1 (Rt : pB α) : QS α:=fun c d a i j k l e f g=>(eE.run d c g).bind fun h=>(fJ.run h (1,e,f,a.2.2.1,a.2.2.2.1,a.2.2.2.2.2.2.1,a.2.2.2.2.2.2.2.1,0,[],[],0,[],())).bind fun b=>Rt b.2.1 b.1
def j0 (Rt : pB α) : RH α:=fun c d a e f g h i j k l b=>ite (d != 0) (Rt d a) (ite (j.2.1 == a.1) ((ft.run).bind fun m=>(cq.run b m).bind fun n=>(dG.run n j.2.2.1).bind fun o=>(iy.run o.1).bind fun p=>ite p (Rt 9 a) (j1 Rt c a e f g h i k l b)) (j1 Rt c a e f g h i k l b))
def top (Rt : pB α) (a : D7) (b : Mh) : Option α:=(bD.run a b.2.2.1 b.2.2.2.1).bind fun c=>ite (decide (c < 0)) (Rt 5 a) ((cX.run b.2.2.2.2.2.2.2.1).bind fun j=>ite (cond (not j) true (b.2.2.2.2.2.2.2.1 == a.1)) (Rt 6 a) ((aB.run b.2.2.2.2.1).bind fun f=>(if (f == false) = true then aF.run b.2.2.2.2.1 b.2.2.2.2.2.1 else some 0).bind fun g=>(if ((cond f true (decide (g < 0))) == false) = true then ft.run else some (replicate 32 0)).bind fun k=>ite (cond (cond f true (decide (g < 0))) true (ax eb b.2.1 k)) (Rt 13 a) (ite (0 <= c /\ c < (a.2.2.2.1.length : Int)) ((fg.run b.2.2.2.2.1 (a.2.2.2.1.getD c.toNat iN).2.2.1).bind fun d=>ite (d.2.1 != 0) (Rt d.2.1 a) ((fg.run b.2.2.2.2.2.1 (a.2.2.2.1.getD c.toNat iN).2.2.1).bind fun e=>ite (e.2.1 != 0) (Rt e.2.1 a) ((fx.run (a.2.2.2.1.getD c.toNat iN).2.2.2.1 b.2.1 b.2.2.2.2.1).bind fun h=>ite ((a.2.2.2.1.getD c.toNat iN).2.1 == a.1) ((ft.run).bind fun l=>(d8.run (a.2.2.2.1.getD c.toNat iN).2.2.2.1 b.2.1 l b.2.2.2.2.1).bind fun i=>j0 Rt c i.2.1 a b 0 0 [[0,0,0,0],[0,0,0,0],[0,0,0,0]] 0 (a.2.2.2.1.getD c.toNat iN) d.1 e.1 i.1) (j0 Rt c h.2.1 a b 0 0 [[0,0,0,0],[0,0,0,0],[0,0,0,0]] 0 (a.2.2.2.1.getD c.toNat iN) d.1 e.1 h.1)))) none)))
def run:=top (fun a b=>some (b,a,()))
def F : Fn:=fm [gC,Ix] [gC,T1] run
def w (k : Nat) (Rt : K S1 α) : List (Nat × ee α):=[(100,.j S3 (j1 Rt)),(76,.j S2 (j0 Rt))]
noncomputable def c : Cf:=cn 14 F ⟨Tryz.f14,[19,25],[bD.c,fJ.c,cX.c,aB.c,aF.c,ft.c,fg.c,fx.c,d8.c,dG.c,cq.c,iy.c,eE.c],[],[],[(2,3,4),(54,1015,2),(72,855,2)],[],[],0⟩ S1 (fun _=>top) (fun a b=>some (b,a,())) w bY Tryz.func14
end Go.Bx.eK
namespace Go.Bx.di
def S1 : Px:=⟨47,[st 2 0,st 7 13,sd 8 T1],[se 0 .opq (.ref 2 1 [.idx 0]),se 1 .opq (.ref 3 0 []),sb 2 lk 1,se 3 lQ (N6),sz 4 jn 1,sz 5 iF 1,sc 13 T8]⟩
def S2 : Px:=⟨47,[sd 8 T1],[se 0 .opq (.ref 2 1 [.idx 0]),se 1 .opq (.ref 3 0 []),sb 2 lk 1,se 3 lQ (N6),sz 4 jn 1,sz 5 iF 1]⟩
def S3 : Px:=⟨47,[sd 6 T1],[se 0 .opq (.ref 2 1 [.idx 0]),se 1 .opq (.ref 3 0 []),sb 2 lk 1,se 3 lQ (N6),sz 4 jn 1,sz 5 iF 1]⟩
def j1 (Rt : Iw α) : Iw α:=fun a c0i0 b c d e f g h i=>Rt a c0i0 b c d e f g h i
def j0 (Rt : Iw α) : Q9 α:=fun b c0i0 a c d e f g h i j=>ite (b == 0) (j1 Rt b c0i0 (a.set c0i0.toNat ((a.getD c0i0.toNat iN).1,(a.getD c0i0.toNat iN).2.1,(a.getD c0i0.toNat iN).2.2.1,j,(a.getD c0i0.toNat iN).2.2.2.2)) c d e f g h i) (j1 Rt b c0i0 a c d e f g h i)
def top (Rt : Iw α) (c d : D1) (c0i0 : Int) (a : D6) (b e : Int) (f : D0) (g : Int) (h : iu) (i : D2) (j : D9) : Option α:=(i9.run (a.getD c0i0.toNat iN).2.2.2.1 c d).bind fun k=>ite ((a.getD c0i0.toNat iN).2.1 == b) ((j8.run).bind fun m=>(iR.run (a.getD c0i0.toNat iN).2.2.2.1 m c d).bind fun l=>j0 Rt l.2.1 c0i0 a b e f g h i j l.1) (j0 Rt k.2.1 c0i0 a b e f g h i j k.1)
def run:=top (fun a c0i0 b c d e f g h i=>some (a,c0i0,b,c,d,e,f,g,h,i,()))
def Sp : Spec:=re [hD eb,hD T6,.ref 0 0 [],.ref 1 0 []] [(0,hC .opq (.ref 2 0 [.idx 0]) false),(1,hC .opq (.ref 3 0 []) false),(2,hB lk 0 false),(3,hC lQ (SR) false),(4,hB jn 0 true),(5,hB iF 0 true)] [eb,T6,T1,xp,T1,T1,pz,T1,jk,T4,vT] (hD T1) [(0,hC .opq (.ref 2 1 [.idx 0]) false),(1,hC .opq (.ref 3 0 []) false),(2,hB lk 1 false),(3,hC lQ (N6) false),(4,hB jn 1 true),(5,hB iF 1 true)] [T1,T1,xp,T1,T1,pz,T1,jk,T4,vT] run
def w (k : Nat) (Rt : K S3 α) : List (Nat × ee α):=[(28,.j S2 (j1 Rt)),(20,.j S1 (j0 Rt))]
noncomputable def s : Sf:=sn 83 Sp ⟨Tryz.f83,[5,7],[j8.c,iR.c,i9.c],[],[],[(2,1,6),(12,97,2),(18,1,8)],[],[],6⟩ S3 (fun _=>top) ri w bY Tryz.func83
end Go.Bx.di
namespace Go.Bx.gE
def S1 : Px:=⟨68,[sd 6 T1],[se 0 lQ (xz),sz 1 jn 1,sb 2 lk 1,sz 3 iF 1]⟩
def top (Rt : A8 α) (f : rM) (i : D1) (j k : Int) (l : D0) (m : Int) (n : iu) (o : D2) (p : D6) (q : D9) : Option α:=(bx.run f.2.2.2.1 f.2.2.2.2.1 j k l m n o p q).bind fun r=>(Sum.elim (fun a=>(mu.run f.2.1 (a.2.2.2.2.2.2.2.1.getD a.1.toNat iN).2.2.1).bind fun h=>ite (h.2.1 != 0) (Rt h.2.1 a.2.1 a.2.2.1 a.2.2.2.1 a.2.2.2.2.1 a.2.2.2.2.2.1 a.2.2.2.2.2.2.1 a.2.2.2.2.2.2.2.1 a.2.2.2.2.2.2.2.2.1) ((mu.run f.2.2.1 (a.2.2.2.2.2.2.2.1.getD a.1.toNat iN).2.2.1).bind fun g=>ite (g.2.1 != 0) (Rt g.2.1 a.2.1 a.2.2.1 a.2.2.2.1 a.2.2.2.2.1 a.2.2.2.2.2.1 a.2.2.2.2.2.2.1 a.2.2.2.2.2.2.2.1 a.2.2.2.2.2.2.2.2.1) ((fO.run h.1 g.1).bind fun s=>(di.run f.2.2.2.2.2.1 s.1 a.1 a.2.2.2.2.2.2.2.1 a.2.1 a.2.2.1 a.2.2.2.1 a.2.2.2.2.1 a.2.2.2.2.2.1 a.2.2.2.2.2.2.1 a.2.2.2.2.2.2.2.2.1).bind fun b=>ite (b.1 != 0) (Rt b.1 b.2.2.2.1 b.2.2.2.2.1 b.2.2.2.2.2.1 b.2.2.2.2.2.2.1 b.2.2.2.2.2.2.2.1 b.2.2.2.2.2.2.2.2.1 b.2.2.1 b.2.2.2.2.2.2.2.2.2.1) ((di.run i g.1 b.2.1 b.2.2.1 b.2.2.2.1 b.2.2.2.2.1 b.2.2.2.2.2.1 b.2.2.2.2.2.2.1 b.2.2.2.2.2.2.2.1 b.2.2.2.2.2.2.2.2.1 b.2.2.2.2.2.2.2.2.2.1).bind fun c=>Rt c.1 c.2.2.2.1 c.2.2.2.2.1 c.2.2.2.2.2.1 c.2.2.2.2.2.2.1 c.2.2.2.2.2.2.2.1 c.2.2.2.2.2.2.2.2.1 c.2.2.1 c.2.2.2.2.2.2.2.2.2.1)))) (Sum.elim (fun d=>Rt 5 d.1 d.2.1 d.2.2.1 d.2.2.2.1 d.2.2.2.2.1 d.2.2.2.2.2.1 d.2.2.2.2.2.2.1 d.2.2.2.2.2.2.2.1) (fun e=>e.elim))) r
def run:=top (fun a b c d e f g h i=>some (a,b,c,d,e,f,g,h,i,()))
def Sp : Spec:=re [.ref 0 0 [],hD jb,hD eb] [(0,hC lQ (Hb) false),(1,hB jn 0 true),(2,hB lk 0 false),(3,hB iF 0 true)] [jb,eb,T1,T1,pz,T1,jk,T4,xp,vT] (hD T1) [(0,hC lQ (xz) false),(1,hB jn 1 true),(2,hB lk 1 false),(3,hB iF 1 true)] [T1,T1,T1,pz,T1,jk,T4,xp,vT] run
noncomputable def s : Sf:=sn 38 Sp ⟨Tryz.f38,[],[fO.c,mu.c],[bx.s,di.s],[(20,69),(60,69),(67,69)],[(2,1,6)],[],[],4⟩ S1 (fun _=>top) ri e0 bY Tryz.func38
end Go.Bx.gE
namespace Go.Bx.bB
def S1 : Px:=⟨110,[sr 6,sd 7 T1],[sc 6 gC]⟩
def S2 : Px:=⟨110,[sr 3,sr 6,sd 8 T1,sr 9,sr 12,sr 14,sr 16,(68,hF eb),sd 69 T1,sd 70 T1],[sc 3 gC,se 6 gC (DH),sc 9 lk,sc 12 T6,sc 14 T6,sc 16 T8]⟩
def S3 : Px:=⟨110,[sr 3,sr 6,sd 8 T1,sr 9,sd 11 T1,sr 12,sr 14,sr 16,(68,hF eb),sd 69 T1,sd 70 T1],[sc 3 gC,se 6 gC (DH),sc 9 lk,sc 12 T6,sc 14 T6,sc 16 T8]⟩
def j0 (Nx : HV α) (Rt : pB α) : QQ α:=fun c a d e f b g h i j k l m n=>ite (a != 0) (Rt a b) (Nx c d e (wrap .i64 (f + 1)) b g h i j k l m n)
def S4 : Px:=⟨110,[sr 3,sr 6,sd 8 T1,sr 16],[sc 3 gC,se 6 gC (DH),sc 16 T8]⟩
def bq (Nx : HV α) (Rt : pB α) (Xt0 : LR α) : HV α:=fun f b g a c h i j k l d e m=>ite (decide (a < g)) (ite (0 <= a /\ a < (b.length : Int)) (ite (0 <= a /\ a < (2 : Int)) (ite (l.2.1 == c.1) ((ft.run).bind fun p=>(d8.run m p (b.getD a.toNat RF) ([e,d].getD a.toNat [0,0,0,0])).bind fun n=>j0 Nx Rt f n.2.1 b g a c h i j k l d e n.1) ((dO.run m (b.getD a.toNat RF) ([e,d].getD a.toNat [0,0,0,0])).bind fun o=>j0 Nx Rt f o.2.1 b g a c h i j k l d e o.1)) none) none) (Xt0 f c h i j k m)
def l0 (k : Nat) (Rt : pB α) (Xt0 : LR α) : Nat->HV α
 | 0=>kz (S:=S2)
 | n + 1=>bq (l0 k Rt Xt0 n) Rt Xt0
def j1 (Rt : pB α) : LR α:=fun a b e f g h c=>(eE.run b a c).bind fun d=>Rt 0 d
def top (k : Nat) (Rt : pB α) (a : D7) (c : rM) (f : D1) : Option α:=(bD.run a c.2.2.2.1 c.2.2.2.2.1).bind fun b=>ite (decide (b < 0)) (Rt 5 a) (ite (0 <= b /\ b < (a.2.2.2.1.length : Int)) ((eU.run c.2.1 (a.2.2.2.1.getD b.toNat iN).2.2.1).bind fun e=>(eU.run c.2.2.1 (a.2.2.2.1.getD b.toNat iN).2.2.1).bind fun d=>ite (cond (e.2.1 != 0) true (d.2.1 != 0)) (Rt 13 a) ((cG.run e.1 d.1).bind fun g=>l0 k Rt (j1 Rt) k b [c.2.2.2.2.2.1,f] 2 0 a 0 0 [[0,0,0,0],[0,0,0,0],[0,0,0,0]] 0 (a.2.2.2.1.getD b.toNat iN) d.1 g.1 (a.2.2.2.1.getD b.toNat iN).2.2.2.1)) none)
def run:=top fuel (fun a b=>some (b,a,()))
def F : Fn:=fm [gC,jb,eb] [gC,T1] run
def w0 (k : Nat) (Nx : K S2 α) (Rt : K S1 α) (Xt0 : K S4 α) : List (Nat × ee α):=[(76,.j S3 (j0 Nx Rt))]
def w (k : Nat) (Rt : K S1 α) : List (Nat × ee α):=[(88,.j S4 (j1 Rt)),(145,.l S2 (l0 k Rt (j1 Rt)) fun n=>w0 k (l0 k Rt (j1 Rt) n) Rt (j1 Rt))]
noncomputable def c : Cf:=cn 60 F ⟨Tryz.f60,[19,22],[bD.c,ft.c,d8.c,eE.c,cG.c,dO.c,eU.c],[],[],[(2,3,6),(1,8233,3),(4,258254417031933733481,3),(36,258254417031933733481,3),(54,258254417031933733737,3),(63,8233,3)],[],[],0⟩ S1 top (fun a b=>some (b,a,())) w bY Tryz.func60
end Go.Bx.bB
namespace Go.Bx.ng
def S1 : Px:=⟨69,[sd 6 T4,sd 7 T1],[]⟩
def top (Rt : Q2 α) (a : D2) (d : D0) (c : Int) : Option α:=(eS.run a).bind fun e=>ite (e != 0) (Rt [] e) ((dK.run d).bind fun f=>ite (f != 0) (Rt [] f) (cond (decide (0 <= (wrap .i64 ((a.length : Int) - 2)) /\ (wrap .i64 ((a.length : Int) - 2)) < (a.length : Int)) || !((decide ((a.length : Int) > 1)) == true)) (ite (cond (cond (decide (c < 1)) true (decide (c > 1099511627776))) true (cond (decide ((a.length : Int) > 1)) (decide ((wrap .i64 (c + 24)) < (a.getD (wrap .i64 ((a.length : Int) - 2)).toNat (0,[],0,())).2.2.1)) false)) (Rt [] 6) (ite ((a.length : Int) == 8) (Rt [] 9) (ite (0 <= (0 : Int) /\ (0 : Int) <= (a.length : Int) /\ (a.length : Int) <= (a.length : Int) /\ (a.length : Int) = (a.length : Int)) (ite (eL ((ay a 0 (a.length : Int)).length + 1) 40 = true) ((eI.run ((ay a 0 (a.length : Int)) ++ [((a.length : Int),d,0,())])).bind fun b=>ite (0 <= (wrap .i64 ((a.length : Int) - 1)) /\ (wrap .i64 ((a.length : Int) - 1)) < (b.2.1.length : Int)) (Rt (b.2.1.set (wrap .i64 ((a.length : Int) - 1)).toNat ((b.2.1.getD (wrap .i64 ((a.length : Int) - 1)).toNat (0,[],0,())).1,(b.2.1.getD (wrap .i64 ((a.length : Int) - 1)).toNat (0,[],0,())).2.1,(wrap .i64 (c + 24)),(b.2.1.getD (wrap .i64 ((a.length : Int) - 1)).toNat (0,[],0,())).2.2.2)) 0) none) none) none))) none))
def run:=top (fun a b=>some (a,b,()))
def F : Fn:=fm [T4,T2,T1] [T4,T1] run
noncomputable def c : Cf:=cn 80 F ⟨Tryz.f80,[],[eS.c,dK.c],[eI.s],[(59,70)],[(2,3,6)],[(2,[.dat true 6 []])],[58],0⟩ S1 (fun _=>top) ri e0 bY Tryz.func80
end Go.Bx.ng
namespace Go.Bx.eV
def S1 : Px:=⟨63,[sd 6 T4,sd 7 T1],[]⟩
def top (Rt : Q2 α) (a : D2) (c : D0) (b : Int) : Option α:=(bz.run a).bind fun d=>ite (d != 0) (Rt [] d) ((bE.run c).bind fun e=>ite (e != 0) (Rt [] e) (cond (decide (0 <= (wrap .i64 ((a.length : Int) - 2)) /\ (wrap .i64 ((a.length : Int) - 2)) < (a.length : Int)) || !((decide ((a.length : Int) > 1)) == true)) (ite (cond (cond (decide (b < 1)) true (decide (b > 1099511627776))) true (cond (decide ((a.length : Int) > 1)) (decide ((a.getD (wrap .i64 ((a.length : Int) - 2)).toNat (0,[],0,())).2.2.1 > (wrap .i64 (b + 24)))) false)) (Rt [] 6) (ite ((a.length : Int) == 8) (Rt [] 9) (ite ((eL (0 + a.length) 40 && (Nat.beq 0 0 || blt 0 a.length)) = true) (ite (0 <= (wrap .i64 ((a.length : Int) - 1)) /\ (wrap .i64 ((a.length : Int) - 1)) < (a.length : Int)) (ite (eL ((a.set (wrap .i64 ((a.length : Int) - 1)).toNat ((a.getD (wrap .i64 ((a.length : Int) - 1)).toNat (0,[],0,())).1,(a.getD (wrap .i64 ((a.length : Int) - 1)).toNat (0,[],0,())).2.1,(wrap .i64 (b + 24)),(a.getD (wrap .i64 ((a.length : Int) - 1)).toNat (0,[],0,())).2.2.2)).length + 1) 40 = true) (Rt ((a.set (wrap .i64 ((a.length : Int) - 1)).toNat ((a.getD (wrap .i64 ((a.length : Int) - 1)).toNat (0,[],0,())).1,(a.getD (wrap .i64 ((a.length : Int) - 1)).toNat (0,[],0,())).2.1,(wrap .i64 (b + 24)),(a.getD (wrap .i64 ((a.length : Int) - 1)).toNat (0,[],0,())).2.2.2)) ++ [((a.length : Int),c,0,())]) 0) none) none) none))) none))
def run:=top (fun a b=>some (a,b,()))
def F : Fn:=fm [T4,T2,T1] [T4,T1] run
noncomputable def c : Cf:=cn 58 F ⟨Tryz.f58,[],[bz.c,bE.c],[],[],[(2,3,6)],[(2,[.dat true 6 []])],[],0⟩ S1 (fun _=>top) ri e0 bY Tryz.func58
end Go.Bx.eV
namespace Go.Bx.dM
def S1 : Px:=⟨23,[sr 1,(3,.app 20 0),sd 5 T1],[sc 1 T6,sz 20 T1 0]⟩
def j0 (Nx : tL α) : tL α:=fun a b c=>Nx (wrap .i64 (a + 1)) b c
def S2 : Px:=⟨23,[(3,.app 20 0)],[sz 20 T1 0]⟩
def bq (Nx : tL α) (Xt0 : cf α) : tL α:=fun a c b=>ite (decide (a < 256)) (ite (0 <= (wrap .i64 (tdiv a 64)) /\ (wrap .i64 (tdiv a 64)) < (4 : Int)) (ite (0 <= (tmod a 64)) (ite ((cF .u64 (c.getD (wrap .i64 (tdiv a 64)).toNat 0) (eR .u64 1 (tmod a 64))) != 0) (ite (eL (b.length + 1) 8 = true) (j0 Nx a c (b ++ [a])) none) (j0 Nx a c b)) none) none) (Xt0 b)
def l0 (k : Nat) (Xt0 : cf α) : Nat->tL α
 | 0=>kz (S:=S1)
 | n + 1=>bq (l0 k Xt0 n) Xt0
def S3 : Px:=⟨23,[(2,.app 20 0)],[sz 20 T1 0]⟩
def j1 (Rt : cf α) : cf α:=fun a=>Rt a
def top (k : Nat) (Rt : cf α) (a : D1) : Option α:=l0 k (j1 Rt) k 0 a []
def run:=top fuel (fun a=>some a)
def F : Fn:=fo [T6] SU run
def w0 (k : Nat) (Nx : K S1 α) (Xt0 : K S2 α) : List (Nat × ee α):=[(32,.j S1 (j0 Nx))]
def w (k : Nat) (Rt : K S3 α) : List (Nat × ee α):=[(36,.j S2 (j1 Rt)),(37,.l S1 (l0 k (j1 Rt)) fun n=>w0 k (l0 k (j1 Rt) n) (j1 Rt))]
noncomputable def c : Cf:=cn 146 F ⟨Tryz.f146,[8,9],[],[],[],[(2,1,2),(1,1,3),(4,21,1),(9,21,1),(21,21,1),(24,1,3)],[(9,[.melt true 3 [] 20 true])],[],0⟩ S3 top (fun a=>some a) w bY Tryz.func146
end Go.Bx.dM
namespace Go.Bx.dp
def S1 : Px:=⟨25,[sd 4 .bool,sd 5 T1],[]⟩
def S2 : Px:=⟨25,[sd 1 T1,sd 15 SU,sd 16 T1,sd 17 T1],[]⟩
def S3 : Px:=⟨25,[],[]⟩
def bq (Nx : sP α) (Rt : Kn α) (Xt0 : Option α) : sP α:=fun c b d a=>ite (decide (a < d)) (ite (0 <= a /\ a < (b.length : Int)) (ite ((b.getD a.toNat 0) == c) (Rt true 0) (Nx c b d (wrap .i64 (a + 1)))) none) (Xt0)
def l0 (k : Nat) (Rt : Kn α) (Xt0 : Option α) : Nat->sP α
 | 0=>kz (S:=S2)
 | n + 1=>bq (l0 k Rt Xt0 n) Rt Xt0
def j0 (Rt : Kn α) : Option α:=Rt false 0
def top (k : Nat) (Rt : Kn α) (c : D1) (a : Int) : Option α:=ite (cond (decide (a < 0)) true (decide (a > 255))) (Rt false 6) ((dM.run c).bind fun b=>l0 k Rt (j0 Rt) k a b (b.length : Int) 0)
def run:=top fuel (fun a b=>some (a,b,()))
def F : Fn:=fm [T6,T1] [.bool,T1] run
def w (k : Nat) (Rt : K S1 α) : List (Nat × ee α):=[(40,.j S3 (j0 Rt)),(49,.l S2 (l0 k Rt (j0 Rt)) fun _=>[])]
noncomputable def c : Cf:=cn 103 F ⟨Tryz.f103,[10],[dM.c],[],[],[(2,3,4),(1,0,0),(4,114689,1),(12,114689,1),(27,0,0)],[],[],0⟩ S1 top ri w bY Tryz.func103
end Go.Bx.dp
namespace Go.Bx.fq
def S1 : Px:=⟨30,[sr 4,sd 5 T1],[sc 4 T6]⟩
def top (Rt : jJ α) (b : D1) (a : Int) : Option α:=(dp.run b a).bind fun c=>ite (c.2.1 != 0) (Rt c.2.1 [0,0,0,0]) (ite c.1 (Rt 8 [0,0,0,0]) (ite (0 <= (wrap .i64 (tdiv a 64)) /\ (wrap .i64 (tdiv a 64)) < (4 : Int)) (ite (0 <= (tmod a 64)) (ite (0 <= (wrap .i64 (tdiv a 64)) /\ (wrap .i64 (tdiv a 64)) < (4 : Int)) (Rt 0 (b.set (wrap .i64 (tdiv a 64)).toNat (wrap .u64 ((b.getD (wrap .i64 (tdiv a 64)).toNat 0) + (eR .u64 1 (tmod a 64)))))) none) none) none))
def run:=top (fun a b=>some (b,a,()))
def F : Fn:=fm [T6,T1] [T6,T1] run
noncomputable def c : Cf:=cn 59 F ⟨Tryz.f59,[],[dp.c],[],[],[(2,3,4)],[],[],0⟩ S1 (fun _=>top) (fun a b=>some (b,a,())) e0 bY Tryz.func59
end Go.Bx.fq
namespace Go.Bx.mL
def S1 : Px:=⟨9,[sd 2 .bool],[]⟩
def top (Rt : kF α) (a : Int) : Option α:=Rt (cond (decide (a >= 0)) (decide (a < 256)) false)
def run:=top (fun a=>some a)
def F : Fn:=fo [T1] .bool run
noncomputable def c : Cf:=cn 129 F ⟨Tryz.f129,[],[],[],[],[(2,1,2)],[],[],0⟩ S1 (fun _=>top) (fun a=>some a) e0 bY Tryz.func129
end Go.Bx.mL
namespace Go.Bx.oU
def S1 : Px:=⟨18,[sd 4 .bool,sd 5 T1],[]⟩
def top (Rt : Kn α) (b : D1) (a : Int) : Option α:=(mL.run a).bind fun c=>ite (not c) (Rt false 6) (ite (0 <= (wrap .i64 (tdiv a 64)) /\ (wrap .i64 (tdiv a 64)) < (4 : Int)) (ite (0 <= (tmod a 64)) (Rt ((cF .u64 (fh .u64 (b.getD (wrap .i64 (tdiv a 64)).toNat 0) (tmod a 64)) 1) == 1) 0) none) none)
def run:=top (fun a b=>some (a,b,()))
def F : Fn:=fm [T6,T1] [.bool,T1] run
noncomputable def c : Cf:=cn 81 F ⟨Tryz.f81,[],[mL.c],[],[],[(2,3,4)],[],[],0⟩ S1 (fun _=>top) ri e0 bY Tryz.func81
end Go.Bx.oU
namespace Go.Bx.l9
def S1 : Px:=⟨30,[sr 4,sd 5 T1],[sc 4 T6]⟩
def top (Rt : jJ α) (b : D1) (a : Int) : Option α:=(oU.run b a).bind fun c=>ite (c.2.1 != 0) (Rt c.2.1 [0,0,0,0]) (ite c.1 (Rt 8 [0,0,0,0]) (ite (0 <= (wrap .i64 (tdiv a 64)) /\ (wrap .i64 (tdiv a 64)) < (4 : Int)) (ite (0 <= (tmod a 64)) (ite (0 <= (wrap .i64 (tdiv a 64)) /\ (wrap .i64 (tdiv a 64)) < (4 : Int)) (Rt 0 (b.set (wrap .i64 (tdiv a 64)).toNat (jq .u64 (b.getD (wrap .i64 (tdiv a 64)).toNat 0) (eR .u64 1 (tmod a 64))))) none) none) none))
def run:=top (fun a b=>some (b,a,()))
def F : Fn:=fm [T6,T1] [T6,T1] run
noncomputable def c : Cf:=cn 36 F ⟨Tryz.f36,[],[oU.c],[],[],[(2,3,4)],[],[],0⟩ S1 (fun _=>top) (fun a b=>some (b,a,())) e0 bY Tryz.func36
end Go.Bx.l9
namespace Go.Bx.pZ
def S1 : Px:=⟨4,[sr 0],[sc 0 eb]⟩
def top (Rt : cf α) : Option α:=Rt ((replicate 32 0).set 0 7)
def run:=top (fun a=>some a)
def F : Fn:=fo [] eb run
noncomputable def c : Cf:=cn 79 F ⟨Tryz.f79,[],[],[],[],[(2,1,0)],[],[],0⟩ S1 (fun _=>top) (fun a=>some a) e0 bY Tryz.func79
end Go.Bx.pZ
namespace Go.Bx.kg
def S1 : Px:=⟨2,[sr 0],[sc 0 eb]⟩
def top (Rt : cf α) : Option α:=(aY.run [7]).bind fun a=>Rt a
def run:=top (fun a=>some a)
def F : Fn:=fo [] eb run
noncomputable def c : Cf:=cn 57 F ⟨Tryz.f57,[],[aY.c],[],[],[(2,1,0)],[],[],0⟩ S1 (fun _=>top) (fun a=>some a) e0 bY Tryz.func57
end Go.Bx.kg
namespace Go.Bx.fU
def S1 : Px:=⟨51,[sd 6 T1],[se 0 lQ (KI),sz 1 jn 1,sb 2 lk 1,sz 3 iF 1]⟩
def S2 : Px:=⟨51,[sd 8 T1],[se 0 lQ (KI),sz 1 jn 1,sb 2 lk 1,sz 3 iF 1]⟩
def j0 (Rt : H5 α) : H5 α:=fun a b c d e f g h i j=>Rt a b c d e f g h i j
def top (Rt : H5 α) (j : D5) (k : rM) (c b : Int) (d : D0) (e : Int) (f : iu) (a : D2) (g : D6) (h : D9) : Option α:=(if ((j.2.2.1 != 0) == false) = true then pZ.run else some (replicate 32 0)).bind fun l=>ite (cond (j.2.2.1 != 0) true (not (ax eb j.2.2.2.1 l))) (Rt 5 c b a d e f a g h) (ite (k.2.2.2.2.2.2.2.2.2.2.1 != (a.length : Int)) (Rt 6 c b a d e f a g h) ((ng.run a k.2.2.2.2.2.2.2.2.2.2.2.1 b).bind fun i=>ite (i.2.1 == 0) (j0 Rt i.2.1 c b i.1 d e f a g h) (j0 Rt i.2.1 c b a d e f a g h)))
def run:=top (fun a b c d e f g h i j=>some (a,b,c,d,e,f,g,h,i,j,()))
def Sp : Spec:=re [.ref 0 0 [],hD iF,hD jb] [(0,hC lQ (Hb) false),(1,hB jn 0 true),(2,hB lk 0 false),(3,hB iF 0 true)] [iF,jb,T1,T1,pz,T1,jk,T4,xp,vT] (hD T1) [(0,hC lQ (KI) false),(1,hB jn 1 true),(2,hB lk 1 false),(3,hB iF 1 true)] [T1,T1,T1,T4,pz,T1,jk,T4,xp,vT] run
def w (k : Nat) (Rt : K S1 α) : List (Nat × ee α):=[(36,.j S2 (j0 Rt))]
noncomputable def s : Sf:=sn 35 Sp ⟨Tryz.f35,[9],[pZ.c,ng.c],[],[],[(2,1,6),(24,1,8)],[(2,[.dat false 0 [0,2]]),(24,[.dat false 0 [0,2]])],[],4⟩ S1 (fun _=>top) ri w bY Tryz.func35
end Go.Bx.fU
namespace Go.Bx.ie
def S1 : Px:=⟨48,[sd 6 T1],[se 0 lQ (xz),sz 1 jn 1,sb 2 lk 1,sz 3 iF 1]⟩
def top (Rt : A8 α) (m : D5) (c : rM) (d f : Int) (g : D0) (h : Int) (i : iu) (j : D2) (k : D6) (l : D9) : Option α:=ite (c.2.2.2.2.1 != m.2.2.1) (Rt 5 d f g h i j k l) ((bx.run c.2.2.2.1 c.2.2.2.2.1 d f g h i j k l).bind fun n=>(Sum.elim (fun b=>Rt 8 b.2.1 b.2.2.1 b.2.2.2.1 b.2.2.2.2.1 b.2.2.2.2.2.1 b.2.2.2.2.2.2.1 b.2.2.2.2.2.2.2.1 b.2.2.2.2.2.2.2.2.1) (Sum.elim (fun a=>ite ((a.2.2.2.2.2.2.1.length : Int) == 4) (Rt 9 a.1 a.2.1 a.2.2.1 a.2.2.2.1 a.2.2.2.2.1 a.2.2.2.2.2.1 a.2.2.2.2.2.2.1 a.2.2.2.2.2.2.2.1) (ite (eL (a.2.2.2.2.2.2.1.length + 1) 104 = true) (Rt 0 a.1 a.2.1 a.2.2.1 a.2.2.2.1 a.2.2.2.2.1 a.2.2.2.2.2.1 (a.2.2.2.2.2.2.1 ++ [(c.2.2.2.1,c.2.2.2.2.1,(if 8 < c.2.2.2.2.2.2.2.1 then 8 else c.2.2.2.2.2.2.2.1),([0,0,0,0],[],()),())]) a.2.2.2.2.2.2.2.1) none)) (fun e=>e.elim))) n)
def run:=top (fun a b c d e f g h i=>some (a,b,c,d,e,f,g,h,i,()))
def Sp : Spec:=re [.ref 0 0 [],hD iF,hD jb] [(0,hC lQ (Hb) false),(1,hB jn 0 true),(2,hB lk 0 false),(3,hB iF 0 true)] [iF,jb,T1,T1,pz,T1,jk,T4,xp,vT] (hD T1) [(0,hC lQ (xz) false),(1,hB jn 1 true),(2,hB lk 1 false),(3,hB iF 1 true)] [T1,T1,T1,pz,T1,jk,T4,xp,vT] run
noncomputable def s : Sf:=sn 37 Sp ⟨Tryz.f37,[],[],[bx.s],[(19,49)],[(2,1,6),(1,33,0)],[],[],4⟩ S1 (fun _=>top) ri e0 bY Tryz.func37
end Go.Bx.ie
namespace Go.Bx.fW
def S1 : Px:=⟨94,[sd 4 T1],[se 0 lQ (KI),sz 1 jn 1,sb 2 lk 1,sz 3 iF 1]⟩
def top (Rt : H5 α) (f : Mh) (h i : Int) (j : D0) (k : Int) (l : iu) (m : D2) (n : D6) (o : D9) : Option α:=(ga.run f.2.2.2.2.2.2.2.2.2.1 h i j k l m n o).bind fun a=>ite (a.2.2.1 != 0) (Rt a.2.2.1 a.2.2.2.1 a.2.2.2.2.1 a.2.2.2.2.2.2.2.2.1 a.2.2.2.2.2.1 a.2.2.2.2.2.2.1 a.2.2.2.2.2.2.2.1 a.2.2.2.2.2.2.2.2.1 a.2.2.2.2.2.2.2.2.2.1 a.2.2.2.2.2.2.2.2.2.2.1) (ite (a.2.1.1 == 4) ((fU.run a.1 a.2.1 a.2.2.2.1 a.2.2.2.2.1 a.2.2.2.2.2.1 a.2.2.2.2.2.2.1 a.2.2.2.2.2.2.2.1 a.2.2.2.2.2.2.2.2.1 a.2.2.2.2.2.2.2.2.2.1 a.2.2.2.2.2.2.2.2.2.2.1).bind fun b=>Rt b.1 b.2.1 b.2.2.1 b.2.2.2.1 b.2.2.2.2.1 b.2.2.2.2.2.1 b.2.2.2.2.2.2.1 b.2.2.2.2.2.2.2.1 b.2.2.2.2.2.2.2.2.1 b.2.2.2.2.2.2.2.2.2.1) ((ic.run a.1.2.2.1).bind fun g=>(if ((cond (not g) true (a.1.2.2.1 == a.2.2.2.1)) == false) = true then gV.run a.1.2.2.1 else some (replicate 32 0)).bind fun p=>ite (cond (cond (not g) true (a.1.2.2.1 == a.2.2.2.1)) true (not (ax eb a.1.2.2.2.1 p))) (Rt 5 a.2.2.2.1 a.2.2.2.2.1 a.2.2.2.2.2.2.2.2.1 a.2.2.2.2.2.1 a.2.2.2.2.2.2.1 a.2.2.2.2.2.2.2.1 a.2.2.2.2.2.2.2.2.1 a.2.2.2.2.2.2.2.2.2.1 a.2.2.2.2.2.2.2.2.2.2.1) (ite (0 <= a.1.2.2.1 /\ a.1.2.2.1 < (3 : Int)) ((l9.run (a.2.2.2.2.2.1.getD a.1.2.2.1.toNat [0,0,0,0]) a.1.2.2.2.2.1).bind fun e=>ite (e.2.1 != 0) (Rt e.2.1 a.2.2.2.1 a.2.2.2.2.1 a.2.2.2.2.2.2.2.2.1 a.2.2.2.2.2.1 a.2.2.2.2.2.2.1 a.2.2.2.2.2.2.2.1 a.2.2.2.2.2.2.2.2.1 a.2.2.2.2.2.2.2.2.2.1 a.2.2.2.2.2.2.2.2.2.2.1) (ite (0 <= a.1.2.2.1 /\ a.1.2.2.1 < (3 : Int)) (ite (a.2.1.1 == 2) ((ie.run a.1 a.2.1 a.2.2.2.1 a.2.2.2.2.1 (a.2.2.2.2.2.1.set a.1.2.2.1.toNat e.1) a.2.2.2.2.2.2.1 a.2.2.2.2.2.2.2.1 a.2.2.2.2.2.2.2.2.1 a.2.2.2.2.2.2.2.2.2.1 a.2.2.2.2.2.2.2.2.2.2.1).bind fun c=>Rt c.1 c.2.1 c.2.2.1 c.2.2.2.2.2.2.1 c.2.2.2.1 c.2.2.2.2.1 c.2.2.2.2.2.1 c.2.2.2.2.2.2.1 c.2.2.2.2.2.2.2.1 c.2.2.2.2.2.2.2.2.1) (ite (a.2.1.2.2.2.2.2.2.1 != a.2.2.2.1) (Rt 6 a.2.2.2.1 a.2.2.2.2.1 a.2.2.2.2.2.2.2.2.1 (a.2.2.2.2.2.1.set a.1.2.2.1.toNat e.1) a.2.2.2.2.2.2.1 a.2.2.2.2.2.2.2.1 a.2.2.2.2.2.2.2.2.1 a.2.2.2.2.2.2.2.2.2.1 a.2.2.2.2.2.2.2.2.2.2.1) ((gE.run a.2.1 f.2.1 a.2.2.2.1 a.2.2.2.2.1 (a.2.2.2.2.2.1.set a.1.2.2.1.toNat e.1) a.2.2.2.2.2.2.1 a.2.2.2.2.2.2.2.1 a.2.2.2.2.2.2.2.2.1 a.2.2.2.2.2.2.2.2.2.1 a.2.2.2.2.2.2.2.2.2.2.1).bind fun d=>Rt d.1 d.2.1 d.2.2.1 d.2.2.2.2.2.2.1 d.2.2.2.1 d.2.2.2.2.1 d.2.2.2.2.2.1 d.2.2.2.2.2.2.1 d.2.2.2.2.2.2.2.1 d.2.2.2.2.2.2.2.2.1))) none)) none)))
def run:=top (fun a b c d e f g h i j=>some (a,b,c,d,e,f,g,h,i,j,()))
def Sp : Spec:=re [.ref 0 0 [],hD Ix] [(0,hC lQ (Hb) false),(1,hB jn 0 true),(2,hB lk 0 false),(3,hB iF 0 true)] [Ix,T1,T1,pz,T1,jk,T4,xp,vT] (hD T1) [(0,hC lQ (KI) false),(1,hB jn 1 true),(2,hB lk 1 false),(3,hB iF 1 true)] [T1,T1,T1,T4,pz,T1,jk,T4,xp,vT] run
noncomputable def s : Sf:=sn 10 Sp ⟨Tryz.f10,[],[ic.c,gV.c,l9.c],[ga.s,fU.s,ie.s,gE.s],[(13,95),(26,97),(80,97),(93,97)],[(2,1,4)],[(2,[.dat false 0 [0,2]])],[],4⟩ S1 (fun _=>top) ri e0 bY Tryz.func10
end Go.Bx.fW
namespace Go.Bx.h9
def S1 : Px:=⟨166,[sr 6,sd 7 T1],[sc 6 gC]⟩
def top (Rt : pB α) (h : iu) (a : D7) (f : Mh) : Option α:=(fv.run h a f.2.2.2.2.2.2.2.2.2.1).bind fun b=>ite (b.2.2.1 != 0) (Rt b.2.2.1 a) (ite (b.2.1.1 == 4) ((if ((b.1.2.2.1 != 0) == false) = true then kg.run else some RF).bind fun i=>ite (cond (b.1.2.2.1 != 0) true (not (ax eb b.1.2.2.2.1 i))) (Rt 5 a) (ite (b.2.1.2.2.2.2.2.2.2.2.2.2.1 != (a.2.2.1.length : Int)) (Rt 6 a) ((eV.run a.2.2.1 b.2.1.2.2.2.2.2.2.2.2.2.2.2.1 a.2.1).bind fun d=>ite (d.2.1 != 0) (Rt d.2.1 a) (Rt 0 (a.1,a.2.1,d.1,a.2.2.2))))) ((cX.run b.1.2.2.1).bind fun g=>(if ((cond (not g) true (b.1.2.2.1 == a.1)) == false) = true then dv.run b.1.2.2.1 else some RF).bind fun j=>ite (cond (cond (not g) true (b.1.2.2.1 == a.1)) true (not (ax eb b.1.2.2.2.1 j))) (Rt 5 a) (ite (0 <= b.1.2.2.1 /\ b.1.2.2.1 < (3 : Int)) ((fq.run (a.2.2.2.2.1.getD b.1.2.2.1.toNat [0,0,0,0]) b.1.2.2.2.2.1).bind fun c=>ite (c.2.1 != 0) (Rt c.2.1 a) (ite (0 <= b.1.2.2.1 /\ b.1.2.2.1 < (3 : Int)) (ite (b.2.1.1 == 2) (ite (b.2.1.2.2.2.2.1 != b.1.2.2.1) (Rt 5 a) ((bD.run a b.2.1.2.2.2.1 b.2.1.2.2.2.2.1).bind fun k=>ite (decide (k >= 0)) (Rt 8 a) (ite (decide ((a.2.2.2.1.length : Int) >= 4)) (Rt 9 a) (ite (eL (0 + a.2.2.2.1.length) 104 = true) (ite (eL (a.2.2.2.1.length + 1) 104 = true) (Rt 0 (a.1,a.2.1,a.2.2.1,(a.2.2.2.1 ++ [(b.2.1.2.2.2.1,b.2.1.2.2.2.2.1,(if b.2.1.2.2.2.2.2.2.2.1 < 8 then b.2.1.2.2.2.2.2.2.2.1 else 8),([0,0,0,0],[],()),())]),(a.2.2.2.2.1.set b.1.2.2.1.toNat c.1),a.2.2.2.2.2.1,a.2.2.2.2.2.2.1,())) none) none)))) (ite (b.2.1.2.2.2.2.2.2.1 != a.1) (Rt 6 a) ((bB.run (a.1,a.2.1,a.2.2.1,a.2.2.2.1,(a.2.2.2.2.1.set b.1.2.2.1.toNat c.1),a.2.2.2.2.2) b.2.1 f.2.1).bind fun e=>ite (e.2.1 != 0) (Rt e.2.1 a) (Rt 0 e.1)))) none)) none)))
def run:=top (fun a b=>some (b,a,()))
def F : Fn:=fm [jk,gC,Ix] [gC,T1] run
noncomputable def c : Cf:=cn 15 F ⟨Tryz.f15,[],[bD.c,cX.c,dv.c,fv.c,kg.c,eV.c,fq.c,bB.c],[],[],[(2,3,6),(1,1061,4)],[(2,[.dat false 6 []])],[134],0⟩ S1 (fun _=>top) (fun a b=>some (b,a,())) e0 bY Tryz.func15
end Go.Bx.h9
namespace Go.Bx.fF
def S1 : Px:=⟨54,[sd 4 .bool],[]⟩
def top (Rt : kF α) (a b : D5) : Option α:=Rt (cond (cond (cond (cond (cond (cond (a.1 == b.1) (a.2.1 == b.2.1) false) (a.2.2.1 == b.2.2.1) false) (ax eb a.2.2.2.1 b.2.2.2.1) false) (a.2.2.2.2.1 == b.2.2.2.2.1) false) (a.2.2.2.2.2.1 == b.2.2.2.2.2.1) false) (ax .str a.2.2.2.2.2.2.1 b.2.2.2.2.2.2.1) false)
def run:=top (fun a=>some a)
def F : Fn:=fo [iF,iF] .bool run
noncomputable def c : Cf:=cn 63 F ⟨Tryz.f63,[],[],[],[],[(2,1,4)],[],[],0⟩ S1 (fun _=>top) (fun a=>some a) e0 bY Tryz.func63
end Go.Bx.fF
namespace Go.Bx.cc
def S1 : Px:=⟨27,[sd 4 .bool],[]⟩
def S2 : Px:=⟨27,[sd 0 vT,sd 1 vT,sd 12 T1,sd 13 T1],[]⟩
def S3 : Px:=⟨27,[],[]⟩
def bq (Nx : K8 α) (Rt : kF α) (Xt0 : Option α) : K8 α:=fun b c d a=>ite (decide (a < d)) (ite (0 <= a /\ a < (b.length : Int)) (ite (0 <= a /\ a < (c.length : Int)) ((fF.run (b.getD a.toNat rT) (c.getD a.toNat rT)).bind fun e=>ite (not e) (Rt false) (Nx b c d (wrap .i64 (a + 1)))) none) none) (Xt0)
def l0 (k : Nat) (Rt : kF α) (Xt0 : Option α) : Nat->K8 α
 | 0=>kz (S:=S2)
 | n + 1=>bq (l0 k Rt Xt0 n) Rt Xt0
def j0 (Rt : kF α) : Option α:=Rt true
def top (k : Nat) (Rt : kF α) (a b : D9) : Option α:=ite ((a.length : Int) != (b.length : Int)) (Rt false) (l0 k Rt (j0 Rt) k a b (a.length : Int) 0)
def run:=top fuel (fun a=>some a)
def F : Fn:=fo [vT,vT] .bool run
def w (k : Nat) (Rt : K S1 α) : List (Nat × ee α):=[(40,.j S3 (j0 Rt)),(49,.l S2 (l0 k Rt (j0 Rt)) fun _=>[])]
noncomputable def c : Cf:=cn 20 F ⟨Tryz.f20,[10],[fF.c],[],[],[(2,1,4),(1,0,0),(4,12291,0),(12,12291,0),(27,0,0)],[],[],0⟩ S1 top (fun a=>some a) w bY Tryz.func20
end Go.Bx.cc
namespace Go.Bx.bV
def S1 : Px:=⟨99,[sd 4 .bool],[]⟩
def S2 : Px:=⟨99,[sr 2,sr 3,sd 45 T1,sd 46 T1],[sc 2 gC,sc 3 gC]⟩
def S3 : Px:=⟨99,[sr 2,sr 3],[sc 2 gC,sc 3 gC]⟩
def bq (Nx : Km α) (Rt : kF α) (Xt0 : LO α) : Km α:=fun d a b c=>ite (decide (a < d)) (ite (0 <= a /\ a < (b.2.2.2.1.length : Int)) (ite (0 <= a /\ a < (c.2.2.2.1.length : Int)) ((if ((cond (cond (not (ax eb (b.2.2.2.1.getD a.toNat iN).1 (c.2.2.2.1.getD a.toNat iN).1)) true ((b.2.2.2.1.getD a.toNat iN).2.1 != (c.2.2.2.1.getD a.toNat iN).2.1)) true ((b.2.2.2.1.getD a.toNat iN).2.2.1 != (c.2.2.2.1.getD a.toNat iN).2.2.1)) == false) = true then cp.run (b.2.2.2.1.getD a.toNat iN).2.2.2.1 (c.2.2.2.1.getD a.toNat iN).2.2.2.1 else some false).bind fun e=>ite (cond (cond (cond (not (ax eb (b.2.2.2.1.getD a.toNat iN).1 (c.2.2.2.1.getD a.toNat iN).1)) true ((b.2.2.2.1.getD a.toNat iN).2.1 != (c.2.2.2.1.getD a.toNat iN).2.1)) true ((b.2.2.2.1.getD a.toNat iN).2.2.1 != (c.2.2.2.1.getD a.toNat iN).2.2.1)) true (not e)) (Rt false) (Nx d (wrap .i64 (a + 1)) b c)) none) none) (Xt0 b c)
def l0 (k : Nat) (Rt : kF α) (Xt0 : LO α) : Nat->Km α
 | 0=>kz (S:=S2)
 | n + 1=>bq (l0 k Rt Xt0 n) Rt Xt0
def j0 (Rt : kF α) : LO α:=fun a b=>(ck.run a.2.2.1 b.2.2.1).bind fun c=>(if (c == true) = true then cc.run a.2.2.2.2.2.2.1 b.2.2.2.2.2.2.1 else some false).bind fun d=>Rt (cond c d false)
def top (k : Nat) (Rt : kF α) (a b : D7) : Option α:=ite (cond (cond (cond (cond (a.1 != b.1) true (a.2.1 != b.2.1)) true (not (ax pz a.2.2.2.2.1 b.2.2.2.2.1))) true (a.2.2.2.2.2.1 != b.2.2.2.2.2.1)) true ((a.2.2.2.1.length : Int) != (b.2.2.2.1.length : Int))) (Rt false) (l0 k Rt (j0 Rt) k (a.2.2.2.1.length : Int) 0 a b)
def run:=top fuel (fun a=>some a)
def F : Fn:=fo [gC,gC] .bool run
def w (k : Nat) (Rt : K S1 α) : List (Nat × ee α):=[(44,.j S3 (j0 Rt)),(49,.l S2 (l0 k Rt (j0 Rt)) fun _=>[])]
noncomputable def c : Cf:=cn 6 F ⟨Tryz.f6,[11],[cp.c,ck.c,cc.c],[],[],[(2,1,4),(1,3,2),(4,26388279066627,2),(12,26388279066627,2),(30,3,2)],[],[],0⟩ S1 top (fun a=>some a) w bY Tryz.func6
end Go.Bx.bV
namespace Go.Bx.sS
open Go.Bx.bF (bq l0 me l1 BR l2 j2 j1 j0 top run)
def S1 : Px:=⟨68,[sr 1,sr 2,(3,.app 27 0),sd 13 T4,sd 14 T1,sd 15 T1],[sc 1 gC,se 2 gC (DH),sz 27 jn 0]⟩
def S2 : Px:=⟨68,[sr 1,sr 2,(3,.app 27 0)],[sc 1 gC,se 2 gC (DH),sz 27 jn 0]⟩
def S3 : Px:=⟨68,[sr 1,sr 2,(3,.app 27 0),(6,.app 46 0),sd 30 xp,sd 31 T1,sd 32 T1],[sc 1 gC,se 2 gC (DH),sz 27 jn 0,sb 46 lk 0]⟩
def S4 : Px:=⟨68,[sr 1,sr 2,(3,.app 27 0),(6,.app 46 0)],[sc 1 gC,se 2 gC (DH),sz 27 jn 0,sb 46 lk 0]⟩
def S5 : Px:=⟨68,[sr 1,sr 2,(3,.app 27 0),(6,.app 46 0),(9,.app 59 0),sd 49 vT,sd 50 T1,sd 51 T1],[sc 1 gC,se 2 gC (DH),sz 27 jn 0,sb 46 lk 0,sz 59 iF 0]⟩
def S6 : Px:=⟨68,[sr 1,sr 2,(3,.app 27 0),(6,.app 46 0),(9,.app 59 0)],[sc 1 gC,se 2 gC (DH),sz 27 jn 0,sb 46 lk 0,sz 59 iF 0]⟩
def S7 : Px:=⟨68,[sr 2],[se 2 gC (QL),sz 27 jn 0,sb 46 lk 0,sz 59 iF 0]⟩
def Sp : Spec:=re [hD gC] [] [gC] (QL) [(2,hC gC (QL) false),(27,hB jn 0 true),(46,hB lk 0 false),(59,hB iF 0 true)] [T1,T1,pz,T1,T1,T1,pz,T1,T4,xp,vT] run
def w (k : Nat) (Rt : K S7 α) : List (Nat × ee α):=[(88,.j S6 (j2 Rt)),(205,.l S5 (l2 k (j2 Rt)) fun _=>[]),(64,.j S4 (j1 k Rt)),(121,.l S3 (l1 k (j1 k Rt)) fun _=>[]),(36,.j S2 (j0 k Rt)),(37,.l S1 (l0 k (j0 k Rt)) fun _=>[])]
noncomputable def s : Sf:=sn 8 Sp ⟨Tryz.f8,[9,16,22],[mb.c],[],[],[(2,1,2),(13,295,1),(16,1970324836974887,1),(7,39,1),(10,3758096423,1),(1,7,1),(4,28679,1),(9,28679,1),(24,7,1),(30,3758096423,1),(45,39,1),(51,1970324836974887,1),(63,295,1)],[(9,[.melt true 3 [] 27 true]),(30,[.melt true 6 [] 46 false]),(51,[.melt true 9 [] 59 true])],[22,40],0⟩ S7 top (fun a b d e f g h=>some (a,b,d,e,a,b,d,e,f,g,h,())) w bY Tryz.func8
end Go.Bx.sS
namespace Go.Bx.oe
def S1 : Px:=⟨104,[sr 6,sd 7 T1],[sc 6 gC]⟩
def S2 : Px:=⟨104,[sr 4,sr 6,st 9 22,sd 10 T1],[sc 4 gC,se 6 gC (DH),se 22 lQ (Tq),sb 107 lk 0,sz 108 iF 0]⟩
def j0 (Rt : pB α) : Rz α:=fun b c k l m n d e f g h o i j=>ite (b != 0) ((bF.run c).bind fun a=>Rt b (a.1,a.2.1,a.2.2.2.2.2.2.2.2.1,a.2.2.2.2.2.2.2.2.2.1,a.2.2.1,a.2.2.2.1,a.2.2.2.2.2.2.2.2.2.2.1,())) (Rt 0 (d,e,f,i,g,h,j,()))
def top (Rt : pB α) (j : iu) (d : D7) (b : Mh) : Option α:=(cu.run d).bind fun k=>ite (k != 0) (Rt k (0,0,[],[],[[0,0,0,0],[0,0,0,0],[0,0,0,0]],0,[],())) ((bF.run d).bind fun a=>ite (b.1 == 1) ((dC.run b a.1 a.2.1 a.2.2.1 a.2.2.2.1 j a.2.2.2.2.2.2.2.2.1 a.2.2.2.2.2.2.2.2.2.1 a.2.2.2.2.2.2.2.2.2.2.1).bind fun f=>j0 Rt f.1 d 0 0 [[0,0,0,0],[0,0,0,0],[0,0,0,0]] 0 f.2.1 f.2.2.1 f.2.2.2.2.2.2.1 f.2.2.2.1 f.2.2.2.2.1 f.2.2.2.2.2.1 f.2.2.2.2.2.2.2.1 f.2.2.2.2.2.2.2.2.1) (ite (b.1 == 2) ((fW.run b a.1 a.2.1 a.2.2.1 a.2.2.2.1 j a.2.2.2.2.2.2.2.2.1 a.2.2.2.2.2.2.2.2.2.1 a.2.2.2.2.2.2.2.2.2.2.1).bind fun g=>j0 Rt g.1 d 0 0 [[0,0,0,0],[0,0,0,0],[0,0,0,0]] 0 g.2.1 g.2.2.1 g.2.2.2.1 g.2.2.2.2.1 g.2.2.2.2.2.1 g.2.2.2.2.2.2.1 g.2.2.2.2.2.2.2.2.1 g.2.2.2.2.2.2.2.2.2.1) (ite (b.1 == 3) ((bx.run b.2.2.1 a.1 a.1 a.2.1 a.2.2.1 a.2.2.2.1 j a.2.2.2.2.2.2.2.2.1 a.2.2.2.2.2.2.2.2.2.1 a.2.2.2.2.2.2.2.2.2.2.1).bind fun l=>(Sum.elim (fun c=>(eG.run 2 [0,0,0,0] [0,0,0,0] b.2.2.1 c.2.1 (replicate 32 0) 0 (c.2.2.2.2.2.2.2.1.getD c.1.toNat iN).2.2.1 [] [] 0 [] c.2.1 c.2.2.1 c.2.2.2.1 c.2.2.2.2.1 c.2.2.2.2.2.1 c.2.2.2.2.2.2.1 c.2.2.2.2.2.2.2.1 c.2.2.2.2.2.2.2.2.1).bind fun h=>j0 Rt h.1 d 0 0 [[0,0,0,0],[0,0,0,0],[0,0,0,0]] 0 h.2.1 h.2.2.1 h.2.2.2.2.2.2.1 h.2.2.2.1 h.2.2.2.2.1 h.2.2.2.2.2.1 h.2.2.2.2.2.2.2.1 h.2.2.2.2.2.2.2.2.1) (Sum.elim (fun i=>j0 Rt 5 d 0 0 [[0,0,0,0],[0,0,0,0],[0,0,0,0]] 0 i.1 i.2.1 i.2.2.2.2.2.1 i.2.2.1 i.2.2.2.1 i.2.2.2.2.1 i.2.2.2.2.2.2.1 i.2.2.2.2.2.2.2.1) (fun e=>e.elim))) l) (ite (b.1 == 4) (ite (cond (cond (decide (b.2.2.2.2.2.2.2.2.1 >= 1)) (decide (b.2.2.2.2.2.2.2.2.1 <= 1000)) false) (decide ((wrap .i64 (a.2.1 + b.2.2.2.2.2.2.2.2.1)) <= 1099511627776)) false) (j0 Rt 0 d 0 0 [[0,0,0,0],[0,0,0,0],[0,0,0,0]] 0 a.1 (wrap .i64 (a.2.1 + b.2.2.2.2.2.2.2.2.1)) a.2.2.2.2.2.2.2.2.1 a.2.2.1 a.2.2.2.1 j a.2.2.2.2.2.2.2.2.2.1 a.2.2.2.2.2.2.2.2.2.2.1) (j0 Rt 6 d 0 0 [[0,0,0,0],[0,0,0,0],[0,0,0,0]] 0 a.1 a.2.1 a.2.2.2.2.2.2.2.2.1 a.2.2.1 a.2.2.2.1 j a.2.2.2.2.2.2.2.2.2.1 a.2.2.2.2.2.2.2.2.2.2.1)) (j0 Rt 2 d 0 0 [[0,0,0,0],[0,0,0,0],[0,0,0,0]] 0 a.1 a.2.1 a.2.2.2.2.2.2.2.2.1 a.2.2.1 a.2.2.2.1 j a.2.2.2.2.2.2.2.2.2.1 a.2.2.2.2.2.2.2.2.2.2.1)))))
def run:=top (fun a b=>some (b,a,()))
def F : Fn:=fm [jk,gC,Ix] [gC,T1] run
def w (k : Nat) (Rt : K S1 α) : List (Nat × ee α):=[(84,.j S2 (j0 Rt))]
noncomputable def c : Cf:=cn 4 F ⟨Tryz.f4,[21],[cu.c],[sS.s,bF.s,dC.s,fW.s,bx.s,eG.s],[(19,105),(29,109),(34,113),(45,113),(61,113),(98,109)],[(2,3,6),(1,101,4),(60,101,4)],[(2,[.dat false 6 [2],.dat false 6 [3],.dat false 6 [6]]),(60,[.dat false 22 [0,2]])],[],0⟩ S1 (fun _=>top) (fun a b=>some (b,a,())) w bY Tryz.func4
end Go.Bx.oe
namespace Go.Bx.iw
def S1 : Px:=⟨94,[sr 6,sd 7 T1],[sc 6 gC]⟩
def top (Rt : pB α) (h : iu) (a : D7) (b : Mh) : Option α:=(ai.run a).bind fun e=>ite (e != 0) (Rt e (0,0,[],[],[[0,0,0,0],[0,0,0,0],[0,0,0,0]],0,[],())) (ite (b.1 == 1) ((eK.run a b).bind fun d=>ite (d.2.1 != 0) (Rt d.2.1 a) (Rt 0 d.1)) (ite (b.1 == 2) ((h9.run h a b).bind fun f=>Rt f.2.1 f.1) (ite (b.1 == 3) ((bD.run a b.2.2.1 a.1).bind fun c=>ite (decide (c < 0)) (Rt 5 a) (ite (0 <= c /\ c < (a.2.2.2.1.length : Int)) ((fJ.run a (2,[0,0,0,0],[0,0,0,0],b.2.2.1,a.1,RF,0,(a.2.2.2.1.getD c.toNat iN).2.2.1,[],[],0,[],())).bind fun g=>Rt g.2.1 g.1) none)) (ite (b.1 == 4) (ite (cond (cond (decide (b.2.2.2.2.2.2.2.2.1 < 1)) true (decide (b.2.2.2.2.2.2.2.2.1 > 1000))) true (decide ((wrap .i64 (a.2.1 + b.2.2.2.2.2.2.2.2.1)) > 1099511627776))) (Rt 6 a) (Rt 0 (a.1,(wrap .i64 (a.2.1 + b.2.2.2.2.2.2.2.2.1)),a.2.2))) (Rt 2 a)))))
def run:=top (fun a b=>some (b,a,()))
def F : Fn:=fm [jk,gC,Ix] [gC,T1] run
noncomputable def c : Cf:=cn 5 F ⟨Tryz.f5,[],[ai.c,eK.c,h9.c,bD.c,fJ.c],[],[],[(2,3,6),(1,5,4)],[(2,[.dat false 6 []])],[],0⟩ S1 (fun _=>top) (fun a b=>some (b,a,())) e0 bY Tryz.func5
end Go.Bx.iw
namespace Go.Bx.fH
def S1 : Px:=⟨33,[sd 6 .bool],[]⟩
def top (Rt : kF α) (a : iu) (b : D7) (c : Mh) : Option α:=(oe.run a b c).bind fun d=>(iw.run a b c).bind fun e=>(bV.run d.1 e.1).bind fun f=>Rt (cond f (d.2.1 == e.2.1) false)
def run:=top (fun a=>some a)
def F : Fn:=fo [jk,gC,Ix] .bool run
noncomputable def c : Cf:=cn 3 F ⟨Tryz.f3,[],[oe.c,iw.c,bV.c],[],[],[(2,1,6)],[],[],0⟩ S1 (fun _=>top) (fun a=>some a) e0 bY Tryz.func3
end Go.Bx.fH
