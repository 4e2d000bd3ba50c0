/- Go functions of this seat in their own words of Lean, each tied to its code by a contract. -/
import Derived.Test.YtjhlmecfjfcohaaGreatDoorGBase
import Derived.Test.YtjhlmecfjfcohaaGreatDoorCxZi
open Int (tdiv tmod)
open List (replicate)
open Nat (blt)
open Go Go.Proofs Go.Bx
open Go.IntKind (wrap)
set_option maxHeartbeats 4000000
set_option maxRecDepth 100000
set_option linter.unusedVariables false
variable {α : Type}
namespace Go.Bx.aw
def S1 : Px:=⟨19,[(3,.app 16 0),sd 6 T6,sd 7 T1],[sz 16 T7 0]⟩
def S2 : Px:=⟨19,[(3,.app 16 0)],[sz 16 T7 0]⟩
def bq (Nx : Bh α) (Xt0 : cf α) : Bh α:=fun b a c=>ite (decide (a < 4)) (ite (0 <= a /\ a < (4 : Int)) (ite (eL (c.length + 2) 8 = true) (Nx b (wrap .i64 (a + 1)) (c ++ [(tmod (b.getD a.toNat 0) 4294967296),(wrap .u64 (tdiv (b.getD a.toNat 0) 4294967296))])) none) none) (Xt0 c)
def l0 (k : Nat) (Xt0 : cf α) : Nat->Bh α
 | 0=>kz (S:=S1)
 | n + 1=>bq (l0 k Xt0 n) Xt0
def S3 : Px:=⟨19,[(2,.app 16 0)],[sz 16 T7 0]⟩
def j0 (Rt : cf α) : cf α:=fun a=>Rt a
def top (k : Nat) (Rt : cf α) (a : D1) : Option α:=l0 k (j0 Rt) k a 0 []
def run:=top fuel (fun a=>some a)
def F : Fn:=fo [T6] kN run
def w (k : Nat) (Rt : K S3 α) : List (Nat × ee α):=[(32,.j S2 (j0 Rt)),(37,.l S1 (l0 k (j0 Rt)) fun _=>[])]
noncomputable def c : Cf:=cn 90 F ⟨Tryz.f90,[8],[],[],[],[(2,1,2),(1,1,3),(4,25,3),(9,25,3),(21,1,3)],[(9,[.melt true 3 [] 16 true])],[],0⟩ S3 top (fun a=>some a) w bY Tryz.func90
end Go.Bx.aw
namespace Go.Bx.aX
def S1 : Px:=⟨40,[sd 0 kN,sd 1 kN,sd 5 T1],[]⟩
def S2 : Px:=⟨40,[sd 0 kN,sd 1 kN,sd 5 T1,sd 6 T7,sd 7 T7],[]⟩
def S3 : Px:=⟨40,[sd 4 T1],[]⟩
def j1 (Nx : EF α) (Rt : gI α) : O4 α:=fun c d e a b=>ite (decide (a < b)) (Rt (-1)) (ite (decide (a > b)) (Rt 1) (Nx c d (wrap .i64 (e - 1))))
def j0 (Nx : EF α) (Rt : gI α) : O4 α:=fun c b a d e=>ite (decide (a < (b.length : Int))) (ite (0 <= a /\ a < (b.length : Int)) (j1 Nx Rt c b a d (b.getD a.toNat 0)) none) (j1 Nx Rt c b a d e)
def S4 : Px:=⟨40,[],[]⟩
def bq (Nx : EF α) (Rt : gI α) (Xt0 : Option α) : EF α:=fun b c a=>ite (decide (a >= 0)) (ite (decide (a < (b.length : Int))) (ite (0 <= a /\ a < (b.length : Int)) (j0 Nx Rt b c a (b.getD a.toNat 0) 0) none) (j0 Nx Rt b c a 0 0)) (Xt0)
def l0 (k : Nat) (Rt : gI α) (Xt0 : Option α) : Nat->EF α
 | 0=>kz (S:=S1)
 | n + 1=>bq (l0 k Rt Xt0 n) Rt Xt0
def j2 (Rt : gI α) : Option α:=Rt 0
def top (k : Nat) (Rt : gI α) (a b : D1) : Option α:=l0 k Rt (j2 Rt) k a b (wrap .i64 ((if (b.length : Int) > (a.length : Int) then (b.length : Int) else (a.length : Int)) - 1))
def run:=top fuel (fun a=>some a)
def F : Fn:=fo [kN,kN] T1 run
def w0 (k : Nat) (Nx : K S1 α) (Rt : K S3 α) (Xt0 : K S4 α) : List (Nat × ee α):=[(40,.j S2 (j1 Nx Rt)),(32,.j S2 (j0 Nx Rt))]
def w (k : Nat) (Rt : K S3 α) : List (Nat × ee α):=[(56,.j S4 (j2 Rt)),(25,.l S1 (l0 k Rt (j2 Rt)) fun n=>w0 k (l0 k Rt (j2 Rt) n) Rt (j2 Rt))]
noncomputable def c : Cf:=cn 91 F ⟨Tryz.f91,[8,10,14],[],[],[],[(2,1,4),(1,0,0),(4,35,0),(6,35,0),(21,227,0),(27,227,0),(39,0,0)],[],[],0⟩ S3 top (fun a=>some a) w bY Tryz.func91
end Go.Bx.aX
namespace Go.Bx.aA
def S1 : Px:=⟨19,[sd 0 T7,sd 5 .str,sd 6 T1,sd 7 T1],[]⟩
def S2 : Px:=⟨19,[sd 5 .str],[]⟩
def bq (Nx : sP α) (Xt0 : cf α) : sP α:=fun b a c d=>ite (decide (d < c)) (ite (Nat.ble (1 + a.length) 9223372036854775807 = true) (Nx (fh .u64 b 8) ([(wrap .u8 b)] ++ a) c (wrap .i64 (d + 1))) none) (Xt0 a)
def l0 (k : Nat) (Xt0 : cf α) : Nat->sP α
 | 0=>kz (S:=S1)
 | n + 1=>bq (l0 k Xt0 n) Xt0
def S3 : Px:=⟨19,[sd 4 .str],[]⟩
def j0 (Rt : cf α) : cf α:=fun a=>Rt a
def top (k : Nat) (Rt : cf α) (a b : Int) : Option α:=l0 k (j0 Rt) k a [] b 0
def run:=top fuel (fun a=>some a)
def F : Fn:=fo [T7,T1] .str run
def w (k : Nat) (Rt : K S3 α) : List (Nat × ee α):=[(32,.j S2 (j0 Rt)),(37,.l S1 (l0 k (j0 Rt)) fun _=>[])]
noncomputable def c : Cf:=cn 106 F ⟨Tryz.f106,[8],[],[],[],[(2,1,4),(1,1,5),(4,225,0),(9,225,0),(21,1,5)],[],[],0⟩ S3 top (fun a=>some a) w bY Tryz.func106
end Go.Bx.aA
namespace Go.Bx.aY
def S1 : Px:=⟨21,[sd 0 .str,sr 2,sr 3,sd 4 T1],[sc 2 eb,sc 3 eb]⟩
def S2 : Px:=⟨21,[sr 2,sr 3],[sc 2 eb,sc 3 eb]⟩
def bq (Nx : nQ α) (Xt0 : ff α) : nQ α:=fun b a c d=>ite (cond (decide (a < (b.length : Int))) (decide (a < 32)) false) (ite (0 <= a /\ a < (b.length : Int)) (ite (0 <= a /\ a < (32 : Int)) (Nx b (wrap .i64 (a + 1)) c (d.set a.toNat (b.getD a.toNat 0))) none) none) (Xt0 c d)
def l0 (k : Nat) (Xt0 : ff α) : Nat->nQ α
 | 0=>kz (S:=S1)
 | n + 1=>bq (l0 k Xt0 n) Xt0
def S3 : Px:=⟨21,[sr 2],[sc 2 eb]⟩
def j0 (Rt : cf α) : ff α:=fun b a=>Rt a
def top (k : Nat) (Rt : cf α) (a : D1) : Option α:=l0 k (j0 Rt) k a 0 (replicate 32 0) (replicate 32 0)
def run:=top fuel (fun a=>some a)
def F : Fn:=fo [.str] eb run
def w (k : Nat) (Rt : K S3 α) : List (Nat × ee α):=[(28,.j S2 (j0 Rt)),(37,.l S1 (l0 k (j0 Rt)) fun _=>[])]
noncomputable def c : Cf:=cn 92 F ⟨Tryz.f92,[7],[],[],[],[(2,1,2),(1,3,2),(4,29,0),(9,29,0),(18,3,2)],[],[],0⟩ S3 top (fun a=>some a) w bY Tryz.func92
end Go.Bx.aY
namespace Go.Bx.bd
def S1 : Px:=⟨20,[sd 0 .str,sd 3 T7,sd 4 T1],[]⟩
def S2 : Px:=⟨20,[sd 3 T7],[]⟩
def bq (Nx : Lq α) (Xt0 : gI α) : Lq α:=fun b c a=>ite (decide (a < (b.length : Int))) (ite (0 <= a /\ a < (b.length : Int)) (Nx b (wrap .u64 ((wrap .u64 (c * 256)) + (wrap .u64 (b.getD a.toNat 0)))) (wrap .i64 (a + 1))) none) (Xt0 c)
def l0 (k : Nat) (Xt0 : gI α) : Nat->Lq α
 | 0=>kz (S:=S1)
 | n + 1=>bq (l0 k Xt0 n) Xt0
def S3 : Px:=⟨20,[sd 2 T1],[]⟩
def j0 (Rt : gI α) : gI α:=fun a=>Rt (wrap .i64 a)
def top (k : Nat) (Rt : gI α) (a : D1) : Option α:=l0 k (j0 Rt) k a 0 0
def run:=top fuel (fun a=>some a)
def F : Fn:=fo [.str] T1 run
def w (k : Nat) (Rt : K S3 α) : List (Nat × ee α):=[(28,.j S2 (j0 Rt)),(37,.l S1 (l0 k (j0 Rt)) fun _=>[])]
noncomputable def c : Cf:=cn 137 F ⟨Tryz.f137,[7],[],[],[],[(2,1,2),(1,1,3),(4,25,0),(9,25,0),(18,1,3)],[],[],0⟩ S3 top (fun a=>some a) w bY Tryz.func137
end Go.Bx.bd
namespace Go.Bx.hJ
def S1 : Px:=⟨12,[sd 4 .bool],[]⟩
def top (Rt : kF α) (a b : Int) : Option α:=Rt (cond (decide (a >= 0)) (decide (a <= b)) false)
def run:=top (fun a=>some a)
def F : Fn:=fo [T1,T1] .bool run
noncomputable def c : Cf:=cn 67 F ⟨Tryz.f67,[],[],[],[],[(2,1,4)],[],[],0⟩ S1 (fun _=>top) (fun a=>some a) e0 bY Tryz.func67
end Go.Bx.hJ
namespace Go.Bx.hO
def S1 : Px:=⟨41,[sd 2 T1],[]⟩
def top (Rt : gI α) (a : D5) : Option α:=(hJ.run a.1 1099511627776).bind fun b=>(if ((not b) == false) = true then hJ.run a.2.1 4294967295 else some false).bind fun c=>(if ((cond (not b) true (not c)) == false) = true then hJ.run a.2.2.1 65535 else some false).bind fun d=>(if ((cond (cond (not b) true (not c)) true (not d)) == false) = true then hJ.run a.2.2.2.2.1 1099511627776 else some false).bind fun e=>(if ((cond (cond (cond (not b) true (not c)) true (not d)) true (not e)) == false) = true then hJ.run a.2.2.2.2.2.1 255 else some false).bind fun f=>ite (cond (cond (cond (cond (not b) true (not c)) true (not d)) true (not e)) true (not f)) (Rt 6) (ite (decide ((a.2.2.2.2.2.2.1.length : Int) > 300)) (Rt 1) (Rt 0))
def run:=top (fun a=>some a)
def F : Fn:=fo [iF] T1 run
noncomputable def c : Cf:=cn 24 F ⟨Tryz.f24,[],[hJ.c],[],[],[(2,1,2)],[],[],0⟩ S1 (fun _=>top) (fun a=>some a) e0 bY Tryz.func24
end Go.Bx.hO
namespace Go.Bx.bu
def S1 : Px:=⟨12,[sd 4 .bool],[]⟩
def top (Rt : kF α) (a b : Int) : Option α:=Rt (cond (decide (0 <= a)) (decide (a <= b)) false)
def run:=top (fun a=>some a)
def F : Fn:=fo [T1,T1] .bool run
noncomputable def c : Cf:=cn 41 F ⟨Tryz.f41,[],[],[],[],[(2,1,4)],[],[],0⟩ S1 (fun _=>top) (fun a=>some a) e0 bY Tryz.func41
end Go.Bx.bu
namespace Go.Bx.cb
def S1 : Px:=⟨37,[sr 1,(20,hF TS),sd 21 T1,sd 22 T1],[sc 1 iF]⟩
def S2 : Px:=⟨37,[sd 2 T1],[]⟩
def S3 : Px:=⟨37,[sr 1],[sc 1 iF]⟩
def bq (Nx : LU α) (Rt : gI α) (Xt0 : Mz α) : LU α:=fun b c a d=>ite (decide (a < c)) (ite (0 <= a /\ a < (b.length : Int)) ((bu.run ((b.getD a.toNat [0,0]).getD 0 0) ((b.getD a.toNat [0,0]).getD 1 0)).bind fun e=>ite (not e) (Rt 6) (Nx b c (wrap .i64 (a + 1)) d)) none) (Xt0 d)
def l0 (k : Nat) (Rt : gI α) (Xt0 : Mz α) : Nat->LU α
 | 0=>kz (S:=S1)
 | n + 1=>bq (l0 k Rt Xt0 n) Rt Xt0
def j0 (Rt : gI α) : Mz α:=fun a=>ite (decide ((a.2.2.2.2.2.2.1.length : Int) > 300)) (Rt 1) (Rt 0)
def top (k : Nat) (Rt : gI α) (a : D5) : Option α:=l0 k Rt (j0 Rt) k [[a.1,1099511627776],[a.2.1,4294967295],[a.2.2.1,65535],[a.2.2.2.2.1,1099511627776],[a.2.2.2.2.2.1,255]] 5 0 a
def run:=top fuel (fun a=>some a)
def F : Fn:=fo [iF] T1 run
def w (k : Nat) (Rt : K S2 α) : List (Nat × ee α):=[(32,.j S3 (j0 Rt)),(25,.l S1 (l0 k Rt (j0 Rt)) fun _=>[])]
noncomputable def c : Cf:=cn 44 F ⟨Tryz.f44,[8],[bu.c],[],[],[(2,1,2),(1,1,1),(4,3670017,1),(6,3670017,1),(21,1,1)],[],[],0⟩ S2 top (fun a=>some a) w bY Tryz.func44
end Go.Bx.cb
namespace Go.Bx.fu
def S1 : Px:=⟨48,[sd 2 T1],[]⟩
def S2 : Px:=⟨48,[sr 1,sd 18 Pa,sd 19 T1,sd 20 T1],[sc 1 Ah]⟩
def S3 : Px:=⟨48,[sr 1],[sc 1 Ah]⟩
def bq (Nx : JO α) (Rt : gI α) (Xt0 : II α) : JO α:=fun b c a d=>ite (decide (a < c)) (ite (0 <= a /\ a < (b.length : Int)) (ite (cond (cond (cond (decide ((b.getD a.toNat Ai).1 < 0)) true (decide ((b.getD a.toNat Ai).1 > 255))) true (decide ((b.getD a.toNat Ai).2.1.2.2.1 < 0))) true (decide ((b.getD a.toNat Ai).2.1.2.2.1 > 255))) (Rt 6) (Nx b c (wrap .i64 (a + 1)) d)) none) (Xt0 d)
def l0 (k : Nat) (Rt : gI α) (Xt0 : II α) : Nat->JO α
 | 0=>kz (S:=S2)
 | n + 1=>bq (l0 k Rt Xt0 n) Rt Xt0
def j0 (Rt : gI α) : II α:=fun a=>(hO.run a.2.2.1).bind fun b=>Rt b
def top (k : Nat) (Rt : gI α) (a : QY) : Option α:=ite (cond (decide (a.1 < 0)) true (decide (a.1 > 4294967295))) (Rt 6) (ite (decide ((a.2.1.length : Int) > 19)) (Rt 1) (l0 k Rt (j0 Rt) k a.2.1 (a.2.1.length : Int) 0 a))
def run:=top fuel (fun a=>some a)
def F : Fn:=fo [Ah] T1 run
def w (k : Nat) (Rt : K S1 α) : List (Nat × ee α):=[(48,.j S3 (j0 Rt)),(73,.l S2 (l0 k Rt (j0 Rt)) fun _=>[])]
noncomputable def c : Cf:=cn 121 F ⟨Tryz.f121,[12],[hO.c],[],[],[(2,1,2),(1,1,1),(4,917505,1),(18,917505,1),(33,1,1)],[],[],0⟩ S1 top (fun a=>some a) w bY Tryz.func121
end Go.Bx.fu
namespace Go.Bx.bJ
def S1 : Px:=⟨35,[sd 2 T1],[]⟩
def S2 : Px:=⟨35,[sr 1,sd 14 Pa,sd 15 T1,sd 16 T1],[sc 1 Ah]⟩
def S3 : Px:=⟨35,[sr 1],[sc 1 Ah]⟩
def bq (Nx : JO α) (Rt : gI α) (Xt0 : II α) : JO α:=fun b c a d=>ite (decide (a < c)) (ite (0 <= a /\ a < (b.length : Int)) ((bu.run (b.getD a.toNat Ai).1 255).bind fun e=>(if ((not e) == false) = true then bu.run (b.getD a.toNat Ai).2.1.2.2.1 255 else some false).bind fun f=>ite (cond (not e) true (not f)) (Rt 6) (Nx b c (wrap .i64 (a + 1)) d)) none) (Xt0 d)
def l0 (k : Nat) (Rt : gI α) (Xt0 : II α) : Nat->JO α
 | 0=>kz (S:=S2)
 | n + 1=>bq (l0 k Rt Xt0 n) Rt Xt0
def j0 (Rt : gI α) : II α:=fun a=>(cb.run a.2.2.1).bind fun b=>Rt b
def top (k : Nat) (Rt : gI α) (a : QY) : Option α:=(bu.run a.1 4294967295).bind fun b=>ite (not b) (Rt 6) (ite (decide ((a.2.1.length : Int) > 19)) (Rt 1) (l0 k Rt (j0 Rt) k a.2.1 (a.2.1.length : Int) 0 a))
def run:=top fuel (fun a=>some a)
def F : Fn:=fo [Ah] T1 run
def w (k : Nat) (Rt : K S1 α) : List (Nat × ee α):=[(48,.j S3 (j0 Rt)),(73,.l S2 (l0 k Rt (j0 Rt)) fun _=>[])]
noncomputable def c : Cf:=cn 139 F ⟨Tryz.f139,[12],[bu.c,cb.c],[],[],[(2,1,2),(1,1,1),(4,57345,1),(18,57345,1),(33,1,1)],[],[],0⟩ S1 top (fun a=>some a) w bY Tryz.func139
end Go.Bx.bJ
namespace Go.Bx.ia
def S1 : Px:=⟨28,[sr 2,sr 3,sd 7 eb,sd 8 T1],[sc 2 T6,sc 3 T6]⟩
def S2 : Px:=⟨28,[sr 2,sr 3],[sc 2 T6,sc 3 T6]⟩
def bq (Nx : nQ α) (Xt0 : ff α) : nQ α:=fun c a d b=>ite (decide (a < 32)) (ite (0 <= a /\ a < (32 : Int)) (ite (0 <= (wrap .i64 (tdiv (wrap .i64 (31 - a)) 8)) /\ (wrap .i64 (tdiv (wrap .i64 (31 - a)) 8)) < (4 : Int)) (ite (0 <= (wrap .i64 (8 * (tmod (wrap .i64 (31 - a)) 8)))) (ite (0 <= (wrap .i64 (tdiv (wrap .i64 (31 - a)) 8)) /\ (wrap .i64 (tdiv (wrap .i64 (31 - a)) 8)) < (4 : Int)) (Nx c (wrap .i64 (a + 1)) d (b.set (wrap .i64 (tdiv (wrap .i64 (31 - a)) 8)).toNat (jq .u64 (b.getD (wrap .i64 (tdiv (wrap .i64 (31 - a)) 8)).toNat 0) (eR .u64 (wrap .u64 (c.getD a.toNat 0)) (wrap .i64 (8 * (tmod (wrap .i64 (31 - a)) 8))))))) none) none) none) none) (Xt0 d b)
def l0 (k : Nat) (Xt0 : ff α) : Nat->nQ α
 | 0=>kz (S:=S1)
 | n + 1=>bq (l0 k Xt0 n) Xt0
def S3 : Px:=⟨28,[sr 2],[sc 2 T6]⟩
def j0 (Rt : cf α) : ff α:=fun b a=>Rt a
def top (k : Nat) (Rt : cf α) (a : D1) : Option α:=l0 k (j0 Rt) k a 0 [0,0,0,0] [0,0,0,0]
def run:=top fuel (fun a=>some a)
def F : Fn:=fo [eb] T6 run
def w (k : Nat) (Rt : K S3 α) : List (Nat × ee α):=[(36,.j S2 (j0 Rt)),(37,.l S1 (l0 k (j0 Rt)) fun _=>[])]
noncomputable def c : Cf:=cn 118 F ⟨Tryz.f118,[9],[],[],[],[(2,1,2),(1,3,2),(4,99,2),(9,99,2),(24,3,2)],[],[],0⟩ S3 top (fun a=>some a) w bY Tryz.func118
end Go.Bx.ia
namespace Go.Bx.cS
def S1 : Px:=⟨26,[sr 2,sr 3,sd 6 eb,sd 7 T1],[sc 2 T6,sc 3 T6]⟩
def S2 : Px:=⟨26,[sr 2,sr 3],[sc 2 T6,sc 3 T6]⟩
def bq (Nx : nQ α) (Xt0 : ff α) : nQ α:=fun c a d b=>ite (decide (a < 32)) (ite (0 <= a /\ a < (32 : Int)) (ite (0 <= (wrap .i64 (3 - (wrap .i64 (tdiv a 8)))) /\ (wrap .i64 (3 - (wrap .i64 (tdiv a 8)))) < (4 : Int)) (ite (0 <= (wrap .i64 (3 - (wrap .i64 (tdiv a 8)))) /\ (wrap .i64 (3 - (wrap .i64 (tdiv a 8)))) < (4 : Int)) (Nx c (wrap .i64 (a + 1)) d (b.set (wrap .i64 (3 - (wrap .i64 (tdiv a 8)))).toNat (wrap .u64 ((wrap .u64 ((b.getD (wrap .i64 (3 - (wrap .i64 (tdiv a 8)))).toNat 0) * 256)) + (wrap .u64 (c.getD a.toNat 0)))))) none) none) none) (Xt0 d b)
def l0 (k : Nat) (Xt0 : ff α) : Nat->nQ α
 | 0=>kz (S:=S1)
 | n + 1=>bq (l0 k Xt0 n) Xt0
def S3 : Px:=⟨26,[sr 2],[sc 2 T6]⟩
def j0 (Rt : cf α) : ff α:=fun b a=>Rt a
def top (k : Nat) (Rt : cf α) (a : D1) : Option α:=l0 k (j0 Rt) k a 0 [0,0,0,0] [0,0,0,0]
def run:=top fuel (fun a=>some a)
def F : Fn:=fo [eb] T6 run
def w (k : Nat) (Rt : K S3 α) : List (Nat × ee α):=[(32,.j S2 (j0 Rt)),(37,.l S1 (l0 k (j0 Rt)) fun _=>[])]
noncomputable def c : Cf:=cn 173 F ⟨Tryz.f173,[8],[],[],[],[(2,1,2),(1,3,2),(4,51,2),(9,51,2),(21,3,2)],[],[],0⟩ S3 top (fun a=>some a) w bY Tryz.func173
end Go.Bx.cS
namespace Go.Bx.dN
def S1 : Px:=⟨6,[sr 2],[sc 2 T6]⟩
def top (Rt : cf α) (a : D1) : Option α:=(aY.run a).bind fun b=>(cS.run b).bind fun c=>Rt c
def run:=top (fun a=>some a)
def F : Fn:=fo [.str] T6 run
noncomputable def c : Cf:=cn 138 F ⟨Tryz.f138,[],[aY.c,cS.c],[],[],[(2,1,2)],[],[],0⟩ S1 (fun _=>top) (fun a=>some a) e0 bY Tryz.func138
end Go.Bx.dN
namespace Go.Bx.eB
def S1 : Px:=⟨38,[sd 4 T5],[sc 0 sG]⟩
def top (Rt : Sc α) (a : Int) (b : EJ) : Option α:=ite (decide ((b.1.length : Int) < a)) (ite (0 <= a /\ id a = a /\ eL a.toNat 1 = true) (Rt (replicate a.toNat 0) ([],false,())) none) (ite (0 <= (0 : Int) /\ (0 : Int) <= a /\ a <= (b.1.length : Int) /\ a = a) (ite (0 <= a /\ a <= (b.1.length : Int) /\ (b.1.length : Int) <= (b.1.length : Int)) (Rt (ay b.1 0 a) ((ay b.1 a (b.1.length : Int)),b.2)) none) none)
def run:=top (fun a b=>some (a,b,()))
def Sp : Spec:=re [.ref 0 0 [],hD T1] [(0,hC sG (hD sG) false)] [T1,sG] (hD T5) [(0,hC sG (hD sG) false)] [T5,sG] run
noncomputable def s : Sf:=sn 153 Sp ⟨Tryz.f153,[],[],[],[],[(2,1,4)],[(2,[.dat true 4 [],.dat false 0 []])],[],1⟩ S1 (fun _=>top) ri e0 bY Tryz.func153
end Go.Bx.eB
namespace Go.Bx.az
def S1 : Px:=⟨23,[sd 5 T1,sd 10 T5,sd 11 T1,sd 12 T1],[sc 0 sG]⟩
def S2 : Px:=⟨23,[sd 5 T1],[sc 0 sG]⟩
def bq (Nx : Ql α) (Xt0 : Lr α) : Ql α:=fun c b d a e=>ite (decide (a < d)) (ite (0 <= a /\ a < (b.length : Int)) (Nx (jq .i64 (eR .i64 c 8) (wrap .i64 (b.getD a.toNat 0))) b d (wrap .i64 (a + 1)) e) none) (Xt0 c e)
def l0 (k : Nat) (Xt0 : Lr α) : Nat->Ql α
 | 0=>kz (S:=S1)
 | n + 1=>bq (l0 k Xt0 n) Xt0
def S3 : Px:=⟨23,[sd 4 T1],[sc 0 sG]⟩
def j0 (Rt : Lr α) : Lr α:=fun a b=>Rt a b
def top (k : Nat) (Rt : Lr α) (b : Int) (c : EJ) : Option α:=(eB.run b c).bind fun a=>l0 k (j0 Rt) k 0 a.1 (a.1.length : Int) 0 a.2.1
def run:=top fuel (fun a b=>some (a,b,()))
def Sp : Spec:=re [.ref 0 0 [],hD T1] [(0,hC sG (hD sG) false)] [T1,sG] (hD T1) [(0,hC sG (hD sG) false)] [T1,sG] run
def w (k : Nat) (Rt : K S3 α) : List (Nat × ee α):=[(32,.j S2 (j0 Rt)),(37,.l S1 (l0 k (j0 Rt)) fun _=>[])]
noncomputable def s : Sf:=sn 117 Sp ⟨Tryz.f117,[8],[],[eB.s],[(10,24)],[(2,1,4),(1,1,5),(4,225,5),(9,225,5),(21,1,5)],[],[],1⟩ S3 top ri w bY Tryz.func117
end Go.Bx.az
namespace Go.Bx.dV
def S1 : Px:=⟨9,[st 2 3],[sc 0 sG,sc 3 eb]⟩
def top (Rt : Sr α) (b : EJ) : Option α:=(eB.run 32 b).bind fun a=>Rt a.2.1 (zp (replicate 32 0) 0 32 a.1)
def run:=top (fun b a=>some (a,b,a,()))
def Sp : Spec:=re [.ref 0 0 []] [(0,hC sG (hD sG) false)] [sG] (hD eb) [(0,hC sG (hD sG) false),(3,hC eb (hD eb) false)] [eb,sG,eb] run
noncomputable def s : Sf:=sn 119 Sp ⟨Tryz.f119,[],[],[eB.s],[(6,10)],[(2,1,2)],[],[],1⟩ S1 (fun _=>top) (fun b a=>some (a,b,a,())) e0 bY Tryz.func119
end Go.Bx.dV
namespace Go.Bx.gg
def S1 : Px:=⟨30,[st 2 3],[sc 0 sG,se 3 iF (P0),sz 28 qF 0]⟩
def top (Rt : SD α) (g : EJ) : Option α:=(az.run 8 g).bind fun b=>(az.run 4 b.2.1).bind fun c=>(az.run 2 c.2.1).bind fun d=>(dV.run d.2.1).bind fun e=>(az.run 8 e.2.1).bind fun f=>(az.run 1 f.2.1).bind fun a=>ite (eL (0 + a.2.1.1.length) 1 = true) (Rt a.2.1 b.1 c.1 d.1 e.1 f.1 a.1 a.2.1.1) none
def run:=top (fun g a b c d e f h=>some (a,b,c,d,e,f,g,a,b,c,d,e,f,h,()))
def Sp : Spec:=re [.ref 0 0 []] [(0,hC sG (hD sG) false)] [sG] (P0) [(0,hC sG (hD sG) false),(3,hC iF (P0) false),(28,hB qF 0 true)] [T1,T1,T1,eb,T1,T1,sG,T1,T1,T1,eb,T1,T1,T5] run
noncomputable def s : Sf:=sn 120 Sp ⟨Tryz.f120,[],[],[az.s,dV.s],[(5,31),(8,31),(11,31),(14,31),(17,32),(20,32)],[(2,1,2)],[],[27],1⟩ S1 (fun _=>top) (fun g a b c d e f h=>some (a,b,c,d,e,f,g,a,b,c,d,e,f,h,())) e0 bY Tryz.func120
end Go.Bx.gg
namespace Go.Bx.fc
def S1 : Px:=⟨81,[sr 2,sd 3 T1],[sc 2 Ah]⟩
def S2 : Px:=⟨81,[sr 2,st 4 12,sr 6,sd 38 T1,sd 39 T1],[se 2 Ah (NX),se 6 Ah (Q4),sc 12 sG,sz 62 QH 0]⟩
def S3 : Px:=⟨81,[sr 2,st 4 12,sr 6],[se 2 Ah (NX),se 6 Ah (Q4),sc 12 sG,sz 62 QH 0]⟩
def bq (Nx : P6 α) (Xt0 : P8 α) : P6 α:=fun b c d e f g h i j k l m n o p q r a=>ite (decide (c < b)) ((az.run 1 r).bind fun s=>(dV.run s.2.1).bind fun t=>(ia.run t.1).bind fun w=>(dV.run t.2.1).bind fun u=>(ia.run u.1).bind fun x=>(az.run 1 u.2.1).bind fun v=>ite (eL (a.length + 1) 80 = true) (Nx b (wrap .i64 (c + 1)) d e f g h i j k l m n o p q v.2.1 (a ++ [(s.1,(w,x,v.1,()),())])) none) (Xt0 d e f g h i j k l m n o p q r a)
def l0 (k : Nat) (Xt0 : P8 α) : Nat->P6 α
 | 0=>kz (S:=S2)
 | n + 1=>bq (l0 k Xt0 n) Xt0
def j0 (Rt : NT α) : P8 α:=fun f g h i j k l b m n o p q r e c=>(gg.run e).bind fun a=>ite (not a.2.2.2.2.2.2.1.2.1) (Rt 4 (0,[],rT,())) ((fu.run (b,c,(a.1,a.2.1,a.2.2.1,a.2.2.2.1,a.2.2.2.2.1,a.2.2.2.2.2.1,a.2.2.2.2.2.2.2.2.2.2.2.2.2.1,()),())).bind fun d=>ite (d != 0) (Rt d (0,[],rT,())) (Rt 0 (b,c,(a.1,a.2.1,a.2.2.1,a.2.2.2.1,a.2.2.2.2.1,a.2.2.2.2.2.1,a.2.2.2.2.2.2.2.2.2.2.2.2.2.1,()),())))
def top (k : Nat) (Rt : NT α) (d : D1) : Option α:=(az.run 1 (d,true,())).bind fun b=>ite (cond b.2.1.2.1 (b.1 != 1) false) (Rt 3 (0,[],rT,())) ((az.run 4 b.2.1).bind fun c=>(az.run 1 c.2.1).bind fun a=>ite (cond a.2.1.2.1 (decide (a.1 > 19)) false) (Rt 1 (0,[],rT,())) (l0 k (j0 Rt) k a.1 0 0 0 0 0 (replicate 32 0) 0 0 c.1 0 0 0 (replicate 32 0) 0 0 a.2.1 []))
def run:=top fuel (fun a b=>some (b,a,()))
def F : Fn:=fm [T5] [Ah,T1] run
def w (k : Nat) (Rt : K S1 α) : List (Nat × ee α):=[(80,.j S3 (j0 Rt)),(133,.l S2 (l0 k (j0 Rt)) fun _=>[])]
noncomputable def c : Cf:=cn 74 F ⟨Tryz.f74,[20],[ia.c,fu.c],[az.s,dV.s,gg.s],[(14,82),(25,82),(28,82),(42,82),(45,82),(50,83),(55,84),(66,84)],[(2,3,2),(1,21,2),(4,206158430229,2),(33,206158430229,2),(57,21,2)],[(2,[.dat false 2 [1],.dat false 2 [2,6]]),(33,[.melt false 6 [1] 62 true])],[],0⟩ S1 top (fun a b=>some (b,a,())) w bY Tryz.func74
end Go.Bx.fc
namespace Go.Bx.cJ
def S1 : Px:=⟨96,[sr 2,sd 3 T1],[sc 2 Ah]⟩
def S2 : Px:=⟨96,[sr 2,sd 4 .str,sr 6,sd 41 T1,sd 42 T1],[se 2 Ah (NX),se 6 Ah (QR),sz 61 QH 0]⟩
def S3 : Px:=⟨96,[sr 2,sd 4 .str,sr 6],[se 2 Ah (NX),se 6 Ah (QR),sz 61 QH 0]⟩
def bq (Nx : La α) (Xt0 : Ms α) : La α:=fun a c d e f g h i j k l m n o p q r b=>ite (decide (d < c)) (ite (0 <= (0 : Int) /\ (0 : Int) < (a.length : Int)) (ite (0 <= (1 : Int) /\ (1 : Int) <= (33 : Int) /\ (33 : Int) <= (a.length : Int)) ((dN.run (ay a 1 33)).bind fun s=>ite (0 <= (33 : Int) /\ (33 : Int) <= (65 : Int) /\ (65 : Int) <= (a.length : Int)) ((dN.run (ay a 33 65)).bind fun t=>ite (0 <= (65 : Int) /\ (65 : Int) < (a.length : Int)) (ite (eL (b.length + 1) 80 = true) (ite (0 <= (66 : Int) /\ (66 : Int) <= (a.length : Int) /\ (a.length : Int) <= (a.length : Int)) (Nx (ay a 66 (a.length : Int)) c (wrap .i64 (d + 1)) e f g h i j k l m n o p q r (b ++ [((wrap .i64 (a.getD 0 0)),(s,t,(wrap .i64 (a.getD 65 0)),()),())])) none) none) none) none) none) none) (Xt0 a e f g h i j k l m n o p q r b)
def l0 (k : Nat) (Xt0 : Ms α) : Nat->La α
 | 0=>kz (S:=S2)
 | n + 1=>bq (l0 k Xt0 n) Xt0
def j0 (Rt : NT α) : Ms α:=fun a j k l m n o p b q r s t u v c=>ite (0 <= (0 : Int) /\ (0 : Int) <= (8 : Int) /\ (8 : Int) <= (a.length : Int)) ((bd.run (ay a 0 8)).bind fun d=>ite (0 <= (8 : Int) /\ (8 : Int) <= (12 : Int) /\ (12 : Int) <= (a.length : Int)) ((bd.run (ay a 8 12)).bind fun e=>ite (0 <= (12 : Int) /\ (12 : Int) <= (14 : Int) /\ (14 : Int) <= (a.length : Int)) ((bd.run (ay a 12 14)).bind fun f=>ite (0 <= (14 : Int) /\ (14 : Int) <= (46 : Int) /\ (46 : Int) <= (a.length : Int)) ((aY.run (ay a 14 46)).bind fun g=>ite (0 <= (46 : Int) /\ (46 : Int) <= (54 : Int) /\ (54 : Int) <= (a.length : Int)) ((bd.run (ay a 46 54)).bind fun h=>ite (0 <= (54 : Int) /\ (54 : Int) < (a.length : Int)) (ite (0 <= (55 : Int) /\ (55 : Int) <= (a.length : Int) /\ (a.length : Int) <= (a.length : Int)) ((bJ.run (b,c,(d,e,f,g,h,(wrap .i64 (a.getD 54 0)),(ay a 55 (a.length : Int)),()),())).bind fun i=>ite (i != 0) (Rt i (0,[],rT,())) (Rt 0 (b,c,(d,e,f,g,h,(wrap .i64 (a.getD 54 0)),(ay a 55 (a.length : Int)),()),()))) none) none) none) none) none) none) none
def top (k : Nat) (Rt : NT α) (a : D1) : Option α:=ite (ax .str a []) (Rt 4 (0,[],rT,())) (ite (0 <= (0 : Int) /\ (0 : Int) < (a.length : Int)) (ite ((a.getD 0 0) != 1) (Rt 3 (0,[],rT,())) (ite (decide ((a.length : Int) < 6)) (Rt 4 (0,[],rT,())) (ite (0 <= (5 : Int) /\ (5 : Int) < (a.length : Int)) (ite (decide ((wrap .i64 (a.getD 5 0)) > 19)) (Rt 1 (0,[],rT,())) (ite (decide ((a.length : Int) < (wrap .i64 ((wrap .i64 (6 + (wrap .i64 (66 * (wrap .i64 (a.getD 5 0)))))) + 55)))) (Rt 4 (0,[],rT,())) (ite (0 <= (1 : Int) /\ (1 : Int) <= (5 : Int) /\ (5 : Int) <= (a.length : Int)) ((bd.run (ay a 1 5)).bind fun b=>ite (0 <= (6 : Int) /\ (6 : Int) <= (a.length : Int) /\ (a.length : Int) <= (a.length : Int)) (l0 k (j0 Rt) k (ay a 6 (a.length : Int)) (wrap .i64 (a.getD 5 0)) 0 0 0 0 0 (replicate 32 0) 0 0 b 0 0 0 (replicate 32 0) 0 0 []) none) none))) none))) none)
def run:=top fuel (fun a b=>some (b,a,()))
def F : Fn:=fm [T5] [Ah,T1] run
def w (k : Nat) (Rt : K S1 α) : List (Nat × ee α):=[(84,.j S3 (j0 Rt)),(193,.l S2 (l0 k (j0 Rt)) fun _=>[])]
noncomputable def c : Cf:=cn 98 F ⟨Tryz.f98,[21],[aY.c,bd.c,dN.c,bJ.c],[],[],[(2,3,2),(1,21,2),(4,1649267441685,2),(48,1649267441685,2),(60,21,2)],[(2,[.dat false 2 []]),(48,[.melt false 6 [1] 61 true])],[],0⟩ S1 top (fun a b=>some (b,a,())) w bY Tryz.func98
end Go.Bx.cJ
namespace Go.Bx.cD
def S1 : Px:=⟨26,[sr 2,sr 3,sd 5 T1],[sc 2 T6,sc 3 T6]⟩
def S2 : Px:=⟨26,[sd 4 T1],[]⟩
def S3 : Px:=⟨26,[],[]⟩
def bq (Nx : tL α) (Rt : gI α) (Xt0 : Option α) : tL α:=fun a b c=>ite (decide (a >= 0)) (ite (0 <= a /\ a < (4 : Int)) (ite (0 <= a /\ a < (4 : Int)) (ite (decide ((b.getD a.toNat 0) < (c.getD a.toNat 0))) (Rt (-1)) (ite (0 <= a /\ a < (4 : Int)) (ite (0 <= a /\ a < (4 : Int)) (ite (decide ((b.getD a.toNat 0) > (c.getD a.toNat 0))) (Rt 1) (Nx (wrap .i64 (a - 1)) b c)) none) none)) none) none) (Xt0)
def l0 (k : Nat) (Rt : gI α) (Xt0 : Option α) : Nat->tL α
 | 0=>kz (S:=S1)
 | n + 1=>bq (l0 k Rt Xt0 n) Rt Xt0
def j0 (Rt : gI α) : Option α:=Rt 0
def top (k : Nat) (Rt : gI α) (a b : D1) : Option α:=l0 k Rt (j0 Rt) k 3 a b
def run:=top fuel (fun a=>some a)
def F : Fn:=fo [T6,T6] T1 run
def w (k : Nat) (Rt : K S2 α) : List (Nat × ee α):=[(36,.j S3 (j0 Rt)),(25,.l S1 (l0 k Rt (j0 Rt)) fun _=>[])]
noncomputable def c : Cf:=cn 27 F ⟨Tryz.f27,[9],[],[],[],[(2,1,4),(1,0,0),(4,11,2),(7,11,2),(6,11,2),(24,0,0)],[],[],0⟩ S2 top (fun a=>some a) w bY Tryz.func27
end Go.Bx.cD
namespace Go.Bx.gG
def S1 : Px:=⟨93,[sd 4 .bool],[]⟩
def top (Rt : kF α) (a b : rM) : Option α:=Rt (cond (cond (cond (cond (cond (cond (cond (cond (cond (cond (cond (a.1 == b.1) (ax T6 a.2.1 b.2.1) false) (ax T6 a.2.2.1 b.2.2.1) false) (ax eb a.2.2.2.1 b.2.2.2.1) false) (a.2.2.2.2.1 == b.2.2.2.2.1) false) (ax eb a.2.2.2.2.2.1 b.2.2.2.2.2.1) false) (a.2.2.2.2.2.2.1 == b.2.2.2.2.2.2.1) false) (a.2.2.2.2.2.2.2.1 == b.2.2.2.2.2.2.2.1) false) (ax .str a.2.2.2.2.2.2.2.2.1 b.2.2.2.2.2.2.2.2.1) false) (a.2.2.2.2.2.2.2.2.2.2.1 == b.2.2.2.2.2.2.2.2.2.2.1) false) (ax .str a.2.2.2.2.2.2.2.2.2.1 b.2.2.2.2.2.2.2.2.2.1) false) ((a.2.2.2.2.2.2.2.2.2.2.2.1.length : Int) == (b.2.2.2.2.2.2.2.2.2.2.2.1.length : Int)) false)
def run:=top (fun a=>some a)
def F : Fn:=fo [jb,jb] .bool run
noncomputable def c : Cf:=cn 131 F ⟨Tryz.f131,[],[],[],[],[(2,1,4)],[],[],0⟩ S1 (fun _=>top) (fun a=>some a) e0 bY Tryz.func131
end Go.Bx.gG
namespace Go.Bx.gT
def S1 : Px:=⟨22,[sr 4],[se 4 jb (TQ)]⟩
def top (Rt : Tk α) (b : NR) (a : rM) : Option α:=Rt a.1 a.2.1 a.2.2.1 a.2.2.2.1 a.2.2.2.2.1 a.2.2.2.2.2.1 a.2.2.2.2.2.2.1 0 [] a.2.2.2.2.2.2.2.2.2.1 0
def run:=top (α:=Int × List Int × List Int × List Int × Int × List Int × Int × Int × List Int × List Int × Int × List D1 × Unit) (fun a b c d e f g h i j k=>some (a,b,c,d,e,f,g,h,i,j,k,[],()))
def F : Fn:=fo [NU,jb] jb run
noncomputable def c : Cf:=cn 237 F ⟨Tryz.f237,[],[],[],[],[(2,1,4)],[],[],0⟩ S1 (fun _=>top) (fun a b d e f g h i j k l=>some (a,b,d,e,f,g,h,i,j,k,l,[],())) e0 bY Tryz.func237
end Go.Bx.gT
namespace Go.Bx.gL
def S1 : Px:=⟨12,[sd 4 .bool],[]⟩
def top (Rt : kF α) (a b : Int) : Option α:=Rt (cond (decide (a >= 0)) (decide (a <= b)) false)
def run:=top (fun a=>some a)
def F : Fn:=fo [T1,T1] .bool run
noncomputable def c : Cf:=cn 241 F ⟨Tryz.f241,[],[],[],[],[(2,1,4)],[],[],0⟩ S1 (fun _=>top) (fun a=>some a) e0 bY Tryz.func241
end Go.Bx.gL
namespace Go.Bx.gB
def S1 : Px:=⟨42,[sd 4 .bool],[]⟩
def top (Rt : kF α) (c : NR) (a : rM) : Option α:=(gL.run a.2.2.2.2.1 65535).bind fun b=>(if (b == true) = true then gL.run a.2.2.2.2.2.2.1 65535 else some false).bind fun d=>(if ((cond b d false) == true) = true then cD.run a.2.2.1 a.2.1 else some 0).bind fun e=>Rt (cond (cond (cond b d false) (decide (e <= 0)) false) (cond (cond c.1 (decide ((a.2.2.2.2.2.2.2.2.2.1.length : Int) <= 100)) false) true (cond (not c.1) ((a.2.2.2.2.2.2.2.2.2.1.length : Int) == 0) false)) false)
def run:=top (fun a=>some a)
def F : Fn:=fo [NU,jb] .bool run
noncomputable def c : Cf:=cn 238 F ⟨Tryz.f238,[],[cD.c,gL.c],[],[],[(2,1,4)],[],[],0⟩ S1 (fun _=>top) (fun a=>some a) e0 bY Tryz.func238
end Go.Bx.gB
namespace Go.Bx.jE
def S1 : Px:=⟨16,[sr 4],[se 4 jb (Ke)]⟩
def top (Rt : Tx α) (b : Unit) (a : rM) : Option α:=Rt a.1 [0,0,0,0] [0,0,0,0] a.2.2.2.1 a.2.2.2.2.1 (replicate 32 0) 0 a.2.2.2.2.2.2.2.1 a.2.2.2.2.2.2.2.2.1 0
def run:=top (α:=Int × List Int × List Int × List Int × Int × List Int × Int × Int × List Int × List Int × Int × List D1 × Unit) (fun a b c d e f g h i j=>some (a,b,c,d,e,f,g,h,i,[],j,[],()))
def F : Fn:=fo [.unit,jb] jb run
noncomputable def c : Cf:=cn 245 F ⟨Tryz.f245,[],[],[],[],[(2,1,4)],[],[],0⟩ S1 (fun _=>top) (fun a b d e f g h i j k=>some (a,b,d,e,f,g,h,i,j,[],k,[],())) e0 bY Tryz.func245
end Go.Bx.jE
namespace Go.Bx.dn
def S1 : Px:=⟨37,[sd 5 .bool,sd 24 T5,sd 25 T1,sd 26 T1],[]⟩
def S2 : Px:=⟨37,[sd 5 .bool],[]⟩
def bq (Nx : PH α) (Xt0 : kF α) : PH α:=fun c b d a=>ite (decide (a < d)) (ite (0 <= a /\ a < (b.length : Int)) (Nx (cond c ((b.getD a.toNat 0) != 0) false) b d (wrap .i64 (a + 1))) none) (Xt0 c)
def l0 (k : Nat) (Xt0 : kF α) : Nat->PH α
 | 0=>kz (S:=S1)
 | n + 1=>bq (l0 k Xt0 n) Xt0
def S3 : Px:=⟨37,[sd 4 .bool],[]⟩
def j0 (Rt : kF α) : kF α:=fun a=>Rt a
def top (k : Nat) (Rt : kF α) (d : Unit) (a : rM) : Option α:=(gL.run a.2.2.2.2.1 65535).bind fun b=>(if (b == true) = true then gL.run a.2.2.2.2.2.2.2.1 77 else some false).bind fun c=>l0 k (j0 Rt) k (cond (cond b c false) (decide ((a.2.2.2.2.2.2.2.2.1.length : Int) <= 32)) false) a.2.2.2.2.2.2.2.2.1 (a.2.2.2.2.2.2.2.2.1.length : Int) 0
def run:=top fuel (fun a=>some a)
def F : Fn:=fo [.unit,jb] .bool run
def w (k : Nat) (Rt : K S3 α) : List (Nat × ee α):=[(32,.j S2 (j0 Rt)),(37,.l S1 (l0 k (j0 Rt)) fun _=>[])]
noncomputable def c : Cf:=cn 246 F ⟨Tryz.f246,[8],[gL.c],[],[],[(2,1,4),(1,1,5),(4,3670017,5),(9,3670017,5),(21,1,5)],[],[],0⟩ S3 top (fun a=>some a) w bY Tryz.func246
end Go.Bx.dn
namespace Go.Bx.jx
def S1 : Px:=⟨12,[sr 4],[se 4 jb (TN)]⟩
def top (Rt : Sm α) (b : Unit) (a : rM) : Option α:=Rt a.1 [0,0,0,0] [0,0,0,0] (replicate 32 0) 0 (replicate 32 0) 0 0 [] a.2.2.2.2.2.2.2.2.2.2.1 a.2.2.2.2.2.2.2.2.2.2.2.1
def run:=top (α:=Int × List Int × List Int × List Int × Int × List Int × Int × Int × List Int × List Int × Int × List D1 × Unit) (fun a b c d e f g h i j k=>some (a,b,c,d,e,f,g,h,i,[],j,k,()))
def F : Fn:=fo [.unit,jb] jb run
noncomputable def c : Cf:=cn 249 F ⟨Tryz.f249,[],[],[],[],[(2,1,4)],[],[],0⟩ S1 (fun _=>top) (fun a b d e f g h i j k l=>some (a,b,d,e,f,g,h,i,j,[],k,l,())) e0 bY Tryz.func249
end Go.Bx.jx
namespace Go.Bx.iZ
def S1 : Px:=⟨20,[sd 4 .bool],[]⟩
def top (Rt : kF α) (c : Unit) (a : rM) : Option α:=(gL.run a.2.2.2.2.2.2.2.2.2.2.1 4294967295).bind fun b=>Rt (cond (cond b (decide ((a.2.2.2.2.2.2.2.2.2.2.2.1.length : Int) >= 1)) false) (decide ((a.2.2.2.2.2.2.2.2.2.2.2.1.length : Int) <= 19)) false)
def run:=top (fun a=>some a)
def F : Fn:=fo [.unit,jb] .bool run
noncomputable def c : Cf:=cn 250 F ⟨Tryz.f250,[],[gL.c],[],[],[(2,1,4)],[],[],0⟩ S1 (fun _=>top) (fun a=>some a) e0 bY Tryz.func250
end Go.Bx.iZ
namespace Go.Bx.cw
def Js : List Nat:=[5]
def C : Ctx:=⟨[(185,NU),(187,.unit),(188,.unit)],[],[],Pc [],KA,[],CE [],[(2,[2,3]),(1,[]),(20,[0,4,5])],[],[],0,0⟩
def HW (a : Int) : St:=BQ 20 [(0,.data T1 a)] []
def AQ (a b : Int) (c : Bool) : St:=BQ 20 [(0,.data T1 a),(4,.data T1 b),(5,.data .bool c)] []
noncomputable def IQ : Code:=cR (cR (cB Tryz.f85))
noncomputable def IL : Code:=cR (cL (cR (cL (cR (cB Tryz.f85)))))
def Kf (x2y : NR) (a : Bool) : St:=BQ 20 [(2,.ifc 185 (.data NU x2y)),(3,.data .bool a)] []
def M9 (x2y : Unit) (a : Bool) : St:=BQ 20 [(2,.ifc 187 (.data .unit x2y)),(3,.data .bool a)] []
def ON (x2y : Unit) (a : Bool) : St:=BQ 20 [(2,.ifc 188 (.data .unit x2y)),(3,.data .bool a)] []
def Rc (a : Bool) : St:=BQ 20 [(3,.data .bool a)] []
def j0 (Rt0 : NR->Bool->Option α) (Rt1 : Unit->Bool->Option α) (Rt2 : Unit->Bool->Option α) (Rt3 : Bool->Option α) (b a : Int) (c : Bool) : Option α :=
 if c = true then
  Rt0 ((b == 3),()) true
 else
  if (a == 2) = true then
   Rt1 () true
  else
   if (a == 4) = true then
    Rt2 () true
   else
    Rt3 false
theorem DR (k : Nat) (Q : Ex->St->Option α) (b c : Int) (d : Bool) :
  (den C k) IL (sE C 0 (sq (den C k) (lp C k) Js C IQ (oD C Q))) (AQ b c d) = j0 (fun x2y a=>Q .ret (Kf x2y a)) (fun x2y a=>Q .ret (M9 x2y a)) (fun x2y a=>Q .ret (ON x2y a)) (fun a=>Q .ret (Rc a)) b c d:=rZ Js (by kernel_rfl)
def top (Rt0 : NR->Bool->Option α) (Rt1 : Unit->Bool->Option α) (Rt2 : Unit->Bool->Option α) (Rt3 : Bool->Option α) (a : Int) : Option α :=
 if (a == 1) = true then
  j0 Rt0 Rt1 Rt2 Rt3 a a (a == 1)
 else
  j0 Rt0 Rt1 Rt2 Rt3 a a (a == 3)
theorem tG (k : Nat) (Q : Ex->St->Option α) (a : Int) :
  (den C k) (cB Tryz.f85) (oD C Q) (HW a) = top (fun x2y b=>Q .ret (Kf x2y b)) (fun x2y b=>Q .ret (M9 x2y b)) (fun x2y b=>Q .ret (ON x2y b)) (fun b=>Q .ret (Rc b)) a:=by
 have h : ∀ (D L : DT α),pL D L Js C (cB Tryz.f85) (oD C Q) (HW a) =
    if (a == 1) = true then
     D IL (sE C 0 (sq D L Js C IQ (oD C Q))) (AQ a a (a == 1))
    else
     D IL (sE C 0 (sq D L Js C IQ (oD C Q))) (AQ a a (a == 3)):=by
  intro D L; kernel_rfl
 have h2:=via (k:=k) h
 refine h2.trans ?_
 simp only [DR]
 first | rfl | kernel_rfl
def run (b : Int) : Option (TI ⊕ (R9 ⊕ (R9 ⊕ (NR ⊕ (Empty))))):=top (α:=TI ⊕ (R9 ⊕ (R9 ⊕ (NR ⊕ (Empty))))) (fun x2y a=>some (.inl (x2y,a,()))) (fun x2y a=>some (.inr (.inl (x2y,a,())))) (fun x2y a=>some (.inr (.inr (.inl (x2y,a,()))))) (fun a=>some (.inr (.inr (.inr (.inl (a,())))))) b
def Sp : qC:=⟨[hD T1],[],TU,[⟨.tup [.ifc 185 (hD NU),hD .bool],[],Ua⟩,⟨.tup [.ifc 187 (hD .unit),hD .bool],[],TT⟩,⟨.tup [.ifc 188 (hD .unit),hD .bool],[],TT⟩,⟨.tup [.any,hD .bool],[],NU⟩],fun x=>run x.1⟩
set_option maxRecDepth 100000 in
theorem Ta : Kd Tryz.prog 85 Sp.h:=by
 refine w7 (C:=C) (yV (by kernel_rfl) (by kernel_rfl) (by kernel_rfl) (by kernel_rfl) trivial) (by kernel_rfl) Tryz.func85 (c:=cB Tryz.f85) (by kernel_rfl) (by kernel_rfl) Sp fuel (by kernel_rfl) (by kernel_rfl) ?_
 intro x r h
 rw [<- h]
 have h1 : Sp.start x Tryz.f85.ntmps = (HW x.1):=by kernel_rfl
 rw [h1]
 refine (tG fuel (Au C Tryz.f85.results.toList Sp.read) x.1).trans ?_
 kernel_rfl
theorem named : mW Tryz.prog 85:=oY Tryz.func85 (by kernel_rfl) (by kernel_rfl)
noncomputable def s : Sf:=⟨85,.alt Sp,Ta,named⟩
end Go.Bx.cw
namespace Go.Bx.cQ
def S1 : Px:=⟨25,[sd 2 T1],[]⟩
def top (Rt : gI α) (a : rM) : Option α:=(cw.run a.1).bind fun i=>(Sum.elim (fun b=>ite (not b.2.1) (Rt 2) ((gB.run b.1 a).bind fun c=>(if ((not c) == false) = true then gT.run b.1 a else some (0,[0,0,0,0],[0,0,0,0],(replicate 32 0),0,(replicate 32 0),0,0,[],[],0,[],())).bind fun j=>(if ((not c) == false) = true then gG.run a j else some false).bind fun k=>ite (cond (not c) true (not k)) (Rt 3) (Rt 0))) (Sum.elim (fun d=>ite (not d.2.1) (Rt 2) ((dn.run d.1 a).bind fun f=>(if ((not f) == false) = true then jE.run d.1 a else some (0,[0,0,0,0],[0,0,0,0],(replicate 32 0),0,(replicate 32 0),0,0,[],[],0,[],())).bind fun l=>(if ((not f) == false) = true then gG.run a l else some false).bind fun m=>ite (cond (not f) true (not m)) (Rt 3) (Rt 0))) (Sum.elim (fun g=>ite (not g.2.1) (Rt 2) ((iZ.run g.1 a).bind fun h=>(if ((not h) == false) = true then jx.run g.1 a else some (0,[0,0,0,0],[0,0,0,0],(replicate 32 0),0,(replicate 32 0),0,0,[],[],0,[],())).bind fun n=>(if ((not h) == false) = true then gG.run a n else some false).bind fun o=>ite (cond (not h) true (not o)) (Rt 3) (Rt 0))) (Sum.elim (fun p=>ite (not p.1) (Rt 2) (none)) (fun e=>e.elim))))) i
def run:=top (fun a=>some a)
def F : Fn:=fo [jb] T1 run
noncomputable def c : Cf:=cn 84 F ⟨Tryz.f84,[],[gG.c,gT.c,gB.c,jE.c,dn.c,jx.c,iZ.c],[cw.s],[(8,26)],[(2,1,2)],[],[],0⟩ S1 (fun _=>top) (fun a=>some a) e0 bY Tryz.func84
end Go.Bx.cQ
namespace Go.Bx.aF
def S1 : Px:=⟨10,[sd 4 T1],[]⟩
def top (Rt : gI α) (a b : D1) : Option α:=(aw.run a).bind fun c=>(aw.run b).bind fun d=>(aX.run c d).bind fun e=>Rt e
def run:=top (fun a=>some a)
def F : Fn:=fo [T6,T6] T1 run
noncomputable def c : Cf:=cn 47 F ⟨Tryz.f47,[],[aw.c,aX.c],[],[],[(2,1,4)],[],[],0⟩ S1 (fun _=>top) (fun a=>some a) e0 bY Tryz.func47
end Go.Bx.aF
namespace Go.Bx.dI
def S1 : Px:=⟨49,[sr 1,sr 2,sd 5 T1,sd 6 .bool],[sc 1 jb,se 2 jb (Ke)]⟩
def S2 : Px:=⟨49,[sr 2,sd 3 .bool],[sc 2 jb]⟩
def j0 (Rt : Pb α) : RG α:=fun b c a d e f g h i j k l m=>ite c (Rt true (a.1,a.2.1,a.2.2.1,a.2.2.2.1,a.2.2.2.2.1,a.2.2.2.2.2.1,a.2.2.2.2.2.2.1,0,[],a.2.2.2.2.2.2.2.2.2.1,0,[],())) (ite (b == 2) (Rt true (a.1,[0,0,0,0],[0,0,0,0],a.2.2.2.1,a.2.2.2.2.1,(replicate 32 0),0,a.2.2.2.2.2.2.2.1,a.2.2.2.2.2.2.2.2.1,[],0,[],())) (ite (b == 4) (Rt true (a.1,[0,0,0,0],[0,0,0,0],(replicate 32 0),0,(replicate 32 0),0,0,[],[],a.2.2.2.2.2.2.2.2.2.2.1,a.2.2.2.2.2.2.2.2.2.2.2.1,())) (Rt false (0,[0,0,0,0],[0,0,0,0],(replicate 32 0),0,(replicate 32 0),0,0,[],[],0,[],()))))
def top (Rt : Pb α) (a : rM) : Option α:=ite (a.1 == 1) (j0 Rt a.1 (a.1 == 1) a 0 [0,0,0,0] [0,0,0,0] (replicate 32 0) 0 (replicate 32 0) 0 0 [] 0) (j0 Rt a.1 (a.1 == 3) a 0 [0,0,0,0] [0,0,0,0] (replicate 32 0) 0 (replicate 32 0) 0 0 [] 0)
def run:=top (fun a b=>some (b,a,()))
def F : Fn:=fm [jb] [jb,.bool] run
def w (k : Nat) (Rt : K S2 α) : List (Nat × ee α):=[(20,.j S1 (j0 Rt))]
noncomputable def c : Cf:=cn 149 F ⟨Tryz.f149,[5],[],[],[],[(2,3,2),(1,1,2),(20,51,1)],[(2,[.dat false 2 [9],.dat false 2 []])],[],0⟩ S2 (fun _=>top) (fun a b=>some (b,a,())) w bY Tryz.func149
end Go.Bx.dI
namespace Go.Bx.aI
def S1 : Px:=⟨108,[sd 4 .bool],[]⟩
def S2 : Px:=⟨108,[sr 2,sr 3,sd 24 T1,sd 25 T1],[sc 2 jb,sc 3 jb]⟩
def S3 : Px:=⟨108,[sr 2,sr 3],[sc 2 jb,sc 3 jb]⟩
def bq (Nx : L2 α) (Rt : kF α) (Xt0 : Ku α) : L2 α:=fun d a b c=>ite (decide (a < d)) (ite (0 <= a /\ a < (b.2.2.2.2.2.2.2.2.2.2.2.1.length : Int)) (ite (0 <= a /\ a < (c.2.2.2.2.2.2.2.2.2.2.2.1.length : Int)) (ite (not (ax T3 (b.2.2.2.2.2.2.2.2.2.2.2.1.getD a.toNat yC) (c.2.2.2.2.2.2.2.2.2.2.2.1.getD a.toNat yC))) (Rt false) (Nx d (wrap .i64 (a + 1)) b c)) none) none) (Xt0 b c)
def l0 (k : Nat) (Rt : kF α) (Xt0 : Ku α) : Nat->L2 α
 | 0=>kz (S:=S2)
 | n + 1=>bq (l0 k Rt Xt0 n) Rt Xt0
def j0 (Rt : kF α) : Ku α:=fun a b=>Rt (cond (cond (cond (cond (cond (cond (cond (cond (cond (a.1 == b.1) (ax T6 a.2.1 b.2.1) false) (ax T6 a.2.2.1 b.2.2.1) false) (ax eb a.2.2.2.1 b.2.2.2.1) false) (a.2.2.2.2.1 == b.2.2.2.2.1) false) (ax eb a.2.2.2.2.2.1 b.2.2.2.2.2.1) false) (a.2.2.2.2.2.2.1 == b.2.2.2.2.2.2.1) false) (a.2.2.2.2.2.2.2.1 == b.2.2.2.2.2.2.2.1) false) (ax .str a.2.2.2.2.2.2.2.2.1 b.2.2.2.2.2.2.2.2.1) false) (a.2.2.2.2.2.2.2.2.2.2.1 == b.2.2.2.2.2.2.2.2.2.2.1) false)
def top (k : Nat) (Rt : kF α) (a b : rM) : Option α:=ite (cond ((a.2.2.2.2.2.2.2.2.2.2.2.1.length : Int) != (b.2.2.2.2.2.2.2.2.2.2.2.1.length : Int)) true (not (ax .str a.2.2.2.2.2.2.2.2.2.1 b.2.2.2.2.2.2.2.2.2.1))) (Rt false) (l0 k Rt (j0 Rt) k (a.2.2.2.2.2.2.2.2.2.2.2.1.length : Int) 0 a b)
def run:=top fuel (fun a=>some a)
def F : Fn:=fo [jb,jb] .bool run
def w (k : Nat) (Rt : K S1 α) : List (Nat × ee α):=[(40,.j S3 (j0 Rt)),(49,.l S2 (l0 k Rt (j0 Rt)) fun _=>[])]
noncomputable def c : Cf:=cn 150 F ⟨Tryz.f150,[10],[],[],[],[(2,1,4),(1,3,2),(4,12582915,2),(12,12582915,2),(27,3,2)],[],[],0⟩ S1 top (fun a=>some a) w bY Tryz.func150
end Go.Bx.aI
namespace Go.Bx.bQ
def S1 : Px:=⟨14,[sd 0 .str,sd 3 T1],[]⟩
def S2 : Px:=⟨14,[sd 2 .bool],[]⟩
def S3 : Px:=⟨14,[],[]⟩
def bq (Nx : GI α) (Rt : kF α) (Xt0 : Option α) : GI α:=fun b a=>ite (decide (a < (b.length : Int))) (ite (0 <= a /\ a < (b.length : Int)) (ite ((b.getD a.toNat 0) == 0) (Rt true) (Nx b (wrap .i64 (a + 1)))) none) (Xt0)
def l0 (k : Nat) (Rt : kF α) (Xt0 : Option α) : Nat->GI α
 | 0=>kz (S:=S1)
 | n + 1=>bq (l0 k Rt Xt0 n) Rt Xt0
def j0 (Rt : kF α) : Option α:=Rt false
def top (k : Nat) (Rt : kF α) (a : D1) : Option α:=l0 k Rt (j0 Rt) k a 0
def run:=top fuel (fun a=>some a)
def F : Fn:=fo [.str] .bool run
def w (k : Nat) (Rt : K S2 α) : List (Nat × ee α):=[(28,.j S3 (j0 Rt)),(25,.l S1 (l0 k Rt (j0 Rt)) fun _=>[])]
noncomputable def c : Cf:=cn 151 F ⟨Tryz.f151,[7],[],[],[],[(2,1,2),(1,0,0),(4,9,0),(6,9,0),(18,0,0)],[],[],0⟩ S2 top (fun a=>some a) w bY Tryz.func151
end Go.Bx.bQ
namespace Go.Bx.aj
def S1 : Px:=⟨103,[sd 2 T1],[]⟩
def S2 : Px:=⟨103,[sr 1,sd 4 .bool,sd 16 T1,sd 17 .bool],[sc 1 jb]⟩
def S3 : Px:=⟨103,[sd 4 .bool],[]⟩
def j1 (Rt : gI α) : kF α:=fun a=>ite (not a) (Rt 3) (Rt 0)
def j0 (Rt : gI α) : RB α:=fun b e h a=>ite h ((if (b == true) = true then bu.run a.2.2.2.2.1 65535 else some false).bind fun c=>(if ((cond b c false) == true) = true then bu.run a.2.2.2.2.2.2.1 65535 else some false).bind fun f=>(if ((cond (cond b c false) f false) == true) = true then aF.run a.2.2.1 a.2.1 else some 0).bind fun i=>j1 Rt (cond (cond (cond (cond (cond b c false) f false) (decide (i <= 0)) false) (decide ((a.2.2.2.2.2.2.2.2.2.1.length : Int) <= 100)) false) (cond (a.1 == 3) true ((a.2.2.2.2.2.2.2.2.2.1.length : Int) == 0)) false)) (ite (e == 2) ((if (b == true) = true then bu.run a.2.2.2.2.1 65535 else some false).bind fun d=>(if ((cond b d false) == true) = true then bu.run a.2.2.2.2.2.2.2.1 77 else some false).bind fun g=>(if ((cond (cond (cond b d false) g false) (decide ((a.2.2.2.2.2.2.2.2.1.length : Int) <= 32)) false) == true) = true then bQ.run a.2.2.2.2.2.2.2.2.1 else some false).bind fun j=>j1 Rt (cond (cond (cond (cond b d false) g false) (decide ((a.2.2.2.2.2.2.2.2.1.length : Int) <= 32)) false) (not j) false)) (ite (e == 4) ((if (b == true) = true then bu.run a.2.2.2.2.2.2.2.2.2.2.1 4294967295 else some false).bind fun k=>j1 Rt (cond (cond (cond b k false) (decide ((a.2.2.2.2.2.2.2.2.2.2.2.1.length : Int) > 0)) false) (decide ((a.2.2.2.2.2.2.2.2.2.2.2.1.length : Int) <= 19)) false)) (j1 Rt b)))
def top (Rt : gI α) (a : rM) : Option α:=(dI.run a).bind fun b=>ite (not b.2.1) (Rt 2) ((aI.run a b.1).bind fun c=>ite (a.1 == 1) (j0 Rt c a.1 (a.1 == 1) a) (j0 Rt c a.1 (a.1 == 3) a))
def run:=top (fun a=>some a)
def F : Fn:=fo [jb] T1 run
def w (k : Nat) (Rt : K S1 α) : List (Nat × ee α):=[(56,.j S3 (j1 Rt)),(36,.j S2 (j0 Rt))]
noncomputable def c : Cf:=cn 105 F ⟨Tryz.f105,[9,14],[bu.c,aF.c,dI.c,aI.c,bQ.c],[],[],[(2,1,2),(1,1,4),(32,98313,1),(39,1,4)],[],[],0⟩ S1 (fun _=>top) (fun a=>some a) w bY Tryz.func105
end Go.Bx.aj
namespace Go.Bx.fR
def S1 : Px:=⟨8,[sr 2],[sc 2 eb]⟩
def top (Rt : cf α) (a : D1) : Option α:=Rt (zp (replicate 32 0) 0 32 a)
def run:=top (fun a=>some a)
def F : Fn:=fo [T5] eb run
noncomputable def c : Cf:=cn 242 F ⟨Tryz.f242,[],[],[],[],[(2,1,2)],[],[],0⟩ S1 (fun _=>top) (fun a=>some a) e0 bY Tryz.func242
end Go.Bx.fR
namespace Go.Bx.fS
def S1 : Px:=⟨49,[sr 4,sd 5 T1],[se 4 jb (TQ)]⟩
def top (Rt : SE α) (h : NR) (a : D1) : Option α:=ite (decide ((a.length : Int) < 132)) (Rt 4 0 [0,0,0,0] [0,0,0,0] (replicate 32 0) 0 (replicate 32 0) 0 0 [] [] 0) (ite (0 <= (0 : Int) /\ (0 : Int) <= (32 : Int) /\ (32 : Int) <= (a.length : Int)) ((fR.run (ay a 0 32)).bind fun b=>(ia.run b).bind fun c=>ite (0 <= (32 : Int) /\ (32 : Int) <= (64 : Int) /\ (64 : Int) <= (a.length : Int)) ((fR.run (ay a 32 64)).bind fun d=>ite (0 <= (64 : Int) /\ (64 : Int) < (a.length : Int)) (ite (0 <= (65 : Int) /\ (65 : Int) < (a.length : Int)) (ite (0 <= (66 : Int) /\ (66 : Int) <= (98 : Int) /\ (98 : Int) <= (a.length : Int)) ((fR.run (ay a 66 98)).bind fun e=>ite (0 <= (98 : Int) /\ (98 : Int) < (a.length : Int)) (ite (0 <= (99 : Int) /\ (99 : Int) < (a.length : Int)) (ite (0 <= (100 : Int) /\ (100 : Int) <= (132 : Int) /\ (132 : Int) <= (a.length : Int)) ((fR.run (ay a 100 132)).bind fun f=>(ia.run f).bind fun g=>ite (0 <= (132 : Int) /\ (132 : Int) <= (a.length : Int) /\ (a.length : Int) <= (a.length : Int)) (ite (eL (0 + (ay a 132 (a.length : Int)).length) 1 = true) (Rt 0 0 c g d (jq .i64 (eR .i64 (wrap .i64 (a.getD 64 0)) 8) (wrap .i64 (a.getD 65 0))) e (jq .i64 (eR .i64 (wrap .i64 (a.getD 98 0)) 8) (wrap .i64 (a.getD 99 0))) 0 [] (ay a 132 (a.length : Int)) 0) none) none) none) none) none) none) none) none) none) none)
def run:=top (α:=rM × Int × Unit) (fun a b c d e f g h i j k l=>some ((b,c,d,e,f,g,h,i,j,k,l,[],()),a,()))
def F : Fn:=fm [NU,T5] [jb,T1] run
noncomputable def c : Cf:=cn 239 F ⟨Tryz.f239,[],[ia.c,fR.c],[],[],[(2,3,4)],[(2,[.dat false 4 [9]])],[47],0⟩ S1 (fun _=>top) (fun a b d e f g h i j k l m=>some ((b,d,e,f,g,h,i,j,k,l,m,[],()),a,())) e0 bY Tryz.func239
end Go.Bx.fS
namespace Go.Bx.dX
def S1 : Px:=⟨49,[sr 4,sd 5 T1],[se 4 jb (Ke)]⟩
def S2 : Px:=⟨49,[sd 1 T5,sr 4,sd 6 T1],[se 4 jb (Ke)]⟩
def bq (Nx : IH α) (Xt0 : IH α) : IH α:=fun b a c d e f g h i j k l=>cond (decide (0 <= (wrap .i64 (a - 1)) /\ (wrap .i64 (a - 1)) < (b.length : Int)) || !((decide (a > 35)) == true)) (ite (cond (decide (a > 35)) ((b.getD (wrap .i64 (a - 1)).toNat 0) == 0) false) (Nx b (wrap .i64 (a - 1)) c d e f g h i j k l) (Xt0 b a c d e f g h i j k l)) none
def l0 (k : Nat) (Xt0 : IH α) : Nat->IH α
 | 0=>kz (S:=S2)
 | n + 1=>bq (l0 k Xt0 n) Xt0
def j0 (Rt : Rk α) : IH α:=fun a b d e f g h i j k l m=>ite (0 <= (0 : Int) /\ (0 : Int) <= (32 : Int) /\ (32 : Int) <= (a.length : Int)) ((fR.run (ay a 0 32)).bind fun c=>ite (0 <= (32 : Int) /\ (32 : Int) < (a.length : Int)) (ite (0 <= (33 : Int) /\ (33 : Int) < (a.length : Int)) (ite (0 <= (34 : Int) /\ (34 : Int) < (a.length : Int)) (ite (0 <= (35 : Int) /\ (35 : Int) <= b /\ b <= (a.length : Int)) (Rt 0 0 [0,0,0,0] [0,0,0,0] c (jq .i64 (eR .i64 (wrap .i64 (a.getD 32 0)) 8) (wrap .i64 (a.getD 33 0))) (replicate 32 0) 0 (wrap .i64 (a.getD 34 0)) (ay a 35 b) 0) none) none) none) none) none
def top (k : Nat) (Rt : Rk α) (b : Unit) (a : D1) : Option α:=ite (decide ((a.length : Int) < 67)) (Rt 4 0 [0,0,0,0] [0,0,0,0] (replicate 32 0) 0 (replicate 32 0) 0 0 [] 0) (ite (decide ((a.length : Int) > 67)) (Rt 3 0 [0,0,0,0] [0,0,0,0] (replicate 32 0) 0 (replicate 32 0) 0 0 [] 0) (l0 k (j0 Rt) k a 67 0 [0,0,0,0] [0,0,0,0] (replicate 32 0) 0 (replicate 32 0) 0 0 [] 0))
def run:=top (α:=rM × Int × Unit) fuel (fun a b c d e f g h i j k=>some ((b,c,d,e,f,g,h,i,j,[],k,[],()),a,()))
def F : Fn:=fm [.unit,T5] [jb,T1] run
def w (k : Nat) (Rt : K S1 α) : List (Nat × ee α):=[(36,.j S2 (j0 Rt)),(73,.l S2 (l0 k (j0 Rt)) fun _=>[])]
noncomputable def c : Cf:=cn 247 F ⟨Tryz.f247,[9],[fR.c],[],[],[(2,3,4),(1,41,1),(4,41,1),(18,41,1),(24,41,1)],[],[],0⟩ S1 top (fun a b d e f g h i j k l=>some ((b,d,e,f,g,h,i,j,k,[],l,[],()),a,())) w bY Tryz.func247
end Go.Bx.dX
namespace Go.Bx.dY
def S1 : Px:=⟨78,[sr 4,sd 5 T1],[se 4 jb (TN)]⟩
def S2 : Px:=⟨78,[sd 1 T5,sr 4,sr 6,sd 59 T1,sd 60 T1],[se 4 jb (Ke),se 6 jb (Rq),sz 74 T3 0]⟩
def S3 : Px:=⟨78,[sr 4,sr 6],[se 4 jb (Ke),se 6 jb (Rq),sz 74 T3 0]⟩
def bq (Nx : Qt α) (Xt0 : L1 α) : Qt α:=fun a d b e f g h i j k l m n o p q r s t u v w x c=>ite (decide (b < d)) (ite (0 <= (wrap .i64 (5 + (wrap .i64 (20 * b)))) /\ (wrap .i64 (5 + (wrap .i64 (20 * b)))) <= (a.length : Int) /\ (a.length : Int) <= (a.length : Int)) (ite (eL (c.length + 1) 20 = true) (Nx a d (wrap .i64 (b + 1)) e f g h i j k l m n o p q r s t u v w x (c ++ [(zp yC 0 20 (ay a (wrap .i64 (5 + (wrap .i64 (20 * b)))) (a.length : Int)))])) none) none) (Xt0 e f g h i j k l m n o p q r s t u v w x c)
def l0 (k : Nat) (Xt0 : L1 α) : Nat->Qt α
 | 0=>kz (S:=S2)
 | n + 1=>bq (l0 k Xt0 n) Xt0
def j0 (Rt : QP α) : L1 α:=fun l m n o p q r s t u a b c d e f g h i j k=>Rt 0 a b c d e f g h i j k
def top (k : Nat) (Rt : QP α) (b : Unit) (a : D1) : Option α:=cond (decide (0 <= (4 : Int) /\ (4 : Int) < (a.length : Int)) || !((decide ((a.length : Int) < 5)) == false)) (ite (cond (decide ((a.length : Int) < 5)) true (decide ((a.length : Int) < (wrap .i64 (5 + (wrap .i64 (20 * (wrap .i64 (a.getD 4 0))))))))) (Rt 4 0 [0,0,0,0] [0,0,0,0] (replicate 32 0) 0 (replicate 32 0) 0 0 [] 0 []) (ite (0 <= (0 : Int) /\ (0 : Int) < (a.length : Int)) (ite (0 <= (1 : Int) /\ (1 : Int) < (a.length : Int)) (ite (0 <= (2 : Int) /\ (2 : Int) < (a.length : Int)) (ite (0 <= (3 : Int) /\ (3 : Int) < (a.length : Int)) (ite (0 <= (4 : Int) /\ (4 : Int) < (a.length : Int)) (ite (decide ((a.length : Int) > (wrap .i64 (5 + (wrap .i64 (20 * (wrap .i64 (a.getD 4 0)))))))) (Rt 3 0 [0,0,0,0] [0,0,0,0] (replicate 32 0) 0 (replicate 32 0) 0 0 [] 0 []) (l0 k (j0 Rt) k a (wrap .i64 (a.getD 4 0)) 0 0 [0,0,0,0] [0,0,0,0] (replicate 32 0) 0 (replicate 32 0) 0 0 [] 0 0 [0,0,0,0] [0,0,0,0] (replicate 32 0) 0 (replicate 32 0) 0 0 [] (jq .i64 (jq .i64 (jq .i64 (eR .i64 (wrap .i64 (a.getD 0 0)) 24) (eR .i64 (wrap .i64 (a.getD 1 0)) 16)) (eR .i64 (wrap .i64 (a.getD 2 0)) 8)) (wrap .i64 (a.getD 3 0))) [])) none) none) none) none) none)) none
def run:=top (α:=rM × Int × Unit) fuel (fun a b c d e f g h i j k l=>some ((b,c,d,e,f,g,h,i,j,[],k,l,()),a,()))
def F : Fn:=fm [.unit,T5] [jb,T1] run
def w (k : Nat) (Rt : K S1 α) : List (Nat × ee α):=[(60,.j S3 (j0 Rt)),(97,.l S2 (l0 k (j0 Rt)) fun _=>[])]
noncomputable def c : Cf:=cn 251 F ⟨Tryz.f251,[15],[],[],[],[(2,3,4),(1,5,4),(4,864691128455135273,1),(24,864691128455135273,1),(42,5,4)],[(2,[.dat false 4 [11]]),(24,[.melt false 6 [11] 74 true])],[],0⟩ S1 top (fun a b d e f g h i j k l m=>some ((b,d,e,f,g,h,i,j,k,[],l,m,()),a,())) w bY Tryz.func251
end Go.Bx.dY
namespace Go.Bx.jU
def S1 : Px:=⟨47,[sr 2,sd 3 T1],[sc 2 jb]⟩
def top (Rt : LM α) (a : D1) : Option α:=ite ((a.length : Int) == 0) (Rt 4 (0,[0,0,0,0],[0,0,0,0],(replicate 32 0),0,(replicate 32 0),0,0,[],[],0,[],())) (ite (0 <= (0 : Int) /\ (0 : Int) < (a.length : Int)) ((cw.run (wrap .i64 (a.getD 0 0))).bind fun i=>(Sum.elim (fun f=>ite (not f.2.1) (Rt 2 (0,[0,0,0,0],[0,0,0,0],(replicate 32 0),0,(replicate 32 0),0,0,[],[],0,[],())) (ite (0 <= (1 : Int) /\ (1 : Int) <= (a.length : Int) /\ (a.length : Int) <= (a.length : Int)) ((fS.run f.1 (ay a 1 (a.length : Int))).bind fun b=>ite (b.2.1 != 0) (Rt b.2.1 (0,[0,0,0,0],[0,0,0,0],(replicate 32 0),0,(replicate 32 0),0,0,[],[],0,[],())) (ite (0 <= (0 : Int) /\ (0 : Int) < (a.length : Int)) ((cQ.run ((wrap .i64 (a.getD 0 0)),b.1.2)).bind fun j=>ite (j != 0) (Rt 3 (0,[0,0,0,0],[0,0,0,0],(replicate 32 0),0,(replicate 32 0),0,0,[],[],0,[],())) (Rt 0 ((wrap .i64 (a.getD 0 0)),b.1.2))) none)) none)) (Sum.elim (fun g=>ite (not g.2.1) (Rt 2 (0,[0,0,0,0],[0,0,0,0],(replicate 32 0),0,(replicate 32 0),0,0,[],[],0,[],())) (ite (0 <= (1 : Int) /\ (1 : Int) <= (a.length : Int) /\ (a.length : Int) <= (a.length : Int)) ((dX.run g.1 (ay a 1 (a.length : Int))).bind fun c=>ite (c.2.1 != 0) (Rt c.2.1 (0,[0,0,0,0],[0,0,0,0],(replicate 32 0),0,(replicate 32 0),0,0,[],[],0,[],())) (ite (0 <= (0 : Int) /\ (0 : Int) < (a.length : Int)) ((cQ.run ((wrap .i64 (a.getD 0 0)),c.1.2)).bind fun k=>ite (k != 0) (Rt 3 (0,[0,0,0,0],[0,0,0,0],(replicate 32 0),0,(replicate 32 0),0,0,[],[],0,[],())) (Rt 0 ((wrap .i64 (a.getD 0 0)),c.1.2))) none)) none)) (Sum.elim (fun h=>ite (not h.2.1) (Rt 2 (0,[0,0,0,0],[0,0,0,0],(replicate 32 0),0,(replicate 32 0),0,0,[],[],0,[],())) (ite (0 <= (1 : Int) /\ (1 : Int) <= (a.length : Int) /\ (a.length : Int) <= (a.length : Int)) ((dY.run h.1 (ay a 1 (a.length : Int))).bind fun d=>ite (d.2.1 != 0) (Rt d.2.1 (0,[0,0,0,0],[0,0,0,0],(replicate 32 0),0,(replicate 32 0),0,0,[],[],0,[],())) (ite (0 <= (0 : Int) /\ (0 : Int) < (a.length : Int)) ((cQ.run ((wrap .i64 (a.getD 0 0)),d.1.2)).bind fun l=>ite (l != 0) (Rt 3 (0,[0,0,0,0],[0,0,0,0],(replicate 32 0),0,(replicate 32 0),0,0,[],[],0,[],())) (Rt 0 ((wrap .i64 (a.getD 0 0)),d.1.2))) none)) none)) (Sum.elim (fun m=>ite (not m.1) (Rt 2 (0,[0,0,0,0],[0,0,0,0],(replicate 32 0),0,(replicate 32 0),0,0,[],[],0,[],())) (ite (0 <= (1 : Int) /\ (1 : Int) <= (a.length : Int) /\ (a.length : Int) <= (a.length : Int)) (none) none)) (fun e=>e.elim))))) i) none)
def run:=top (fun a b=>some (b,a,()))
def F : Fn:=fm [T5] [jb,T1] run
noncomputable def c : Cf:=cn 78 F ⟨Tryz.f78,[],[cQ.c,fS.c,dX.c,dY.c],[cw.s],[(17,48)],[(2,3,2)],[(2,[.dat false 2 []])],[],0⟩ S1 (fun _=>top) (fun a b=>some (b,a,())) e0 bY Tryz.func78
end Go.Bx.jU
namespace Go.Bx.aS
def S1 : Px:=⟨147,[sr 2,sd 3 T1],[sc 2 jb]⟩
def S2 : Px:=⟨147,[sr 2,sd 4 .str,sr 5,sd 20 T1,sd 22 .bool],[se 2 jb (Ke),se 5 jb (Ke)]⟩
def S3 : Px:=⟨147,[sr 2,sr 5],[se 2 jb (Ke),se 5 jb (Th),sz 140 T3 0]⟩
def j1 (Rt : LM α) : RI α:=fun n o p q r s t u v w a b c d e f g h i j k l=>(aj.run (a,b,c,d,e,f,g,h,i,j,k,l,())).bind fun m=>ite (m != 0) (Rt 3 (0,[0,0,0,0],[0,0,0,0],(replicate 32 0),0,(replicate 32 0),0,0,[],[],0,[],())) (Rt 0 (a,b,c,d,e,f,g,h,i,j,k,l,()))
def S4 : Px:=⟨147,[sr 2,sd 4 .str,sr 5,sd 6 .str],[se 2 jb (Ke),se 5 jb (Ke)]⟩
def bq (Nx : A1 α) (Xt1 : A1 α) : A1 α:=fun b a c d e f g h i j k l m n o p q r s t u v=>cond (decide (0 <= (wrap .i64 ((a.length : Int) - 1)) /\ (wrap .i64 ((a.length : Int) - 1)) < (a.length : Int)) || !((not (ax .str a [])) == true)) (ite (cond (not (ax .str a [])) ((a.getD (wrap .i64 ((a.length : Int) - 1)).toNat 0) == 0) false) (ite (0 <= (0 : Int) /\ (0 : Int) <= (wrap .i64 ((a.length : Int) - 1)) /\ (wrap .i64 ((a.length : Int) - 1)) <= (a.length : Int)) (Nx b (ay a 0 (wrap .i64 ((a.length : Int) - 1))) c d e f g h i j k l m n o p q r s t u v) none) (Xt1 b a c d e f g h i j k l m n o p q r s t u v)) none
def l0 (k : Nat) (Xt1 : A1 α) : Nat->A1 α
 | 0=>kz (S:=S4)
 | n + 1=>bq (l0 k Xt1 n) Xt1
def j2 (Rt : LM α) : A1 α:=fun a b c d e f g h i j k l m n o u v p q w x r=>ite (0 <= (0 : Int) /\ (0 : Int) <= (32 : Int) /\ (32 : Int) <= (a.length : Int)) ((aY.run (ay a 0 32)).bind fun s=>ite (0 <= (32 : Int) /\ (32 : Int) <= (34 : Int) /\ (34 : Int) <= (a.length : Int)) ((bd.run (ay a 32 34)).bind fun t=>ite (0 <= (34 : Int) /\ (34 : Int) < (a.length : Int)) (j1 Rt c d e f g h i j k l m n o s t p q (wrap .i64 (a.getD 34 0)) b [] r []) none) none) none
def S5 : Px:=⟨147,[sr 2,sd 4 .str,sr 5],[se 2 jb (Ke),se 5 jb (Tj),sz 140 T3 0]⟩
def me (Nx : Ma α) (Xt3 : L1 α) : Ma α:=fun a c d e f g h i j k l m n o p q r s t u v b=>ite (not (ax .str a [])) (ite (eL (b.length + 1) 20 = true) (ite (0 <= (20 : Int) /\ (20 : Int) <= (a.length : Int) /\ (a.length : Int) <= (a.length : Int)) (Nx (ay a 20 (a.length : Int)) c d e f g h i j k l m n o p q r s t u v (b ++ [(zp yC 0 20 a)])) none) none) (Xt3 c d e f g h i j k l m n o p q r s t u v b)
def l1 (k : Nat) (Xt3 : L1 α) : Nat->Ma α
 | 0=>kz (S:=S5)
 | n + 1=>me (l1 k Xt3 n) Xt3
def j0 (k : Nat) (Rt : LM α) : Q8 α:=fun a w x b c d e f g h i j l m p q r s t u n o v=>ite x (ite (decide ((a.length : Int) < 132)) (Rt 4 (0,[0,0,0,0],[0,0,0,0],(replicate 32 0),0,(replicate 32 0),0,0,[],[],0,[],())) (ite (0 <= (0 : Int) /\ (0 : Int) <= (32 : Int) /\ (32 : Int) <= (a.length : Int)) ((dN.run (ay a 0 32)).bind fun y=>ite (0 <= (32 : Int) /\ (32 : Int) <= (64 : Int) /\ (64 : Int) <= (a.length : Int)) ((aY.run (ay a 32 64)).bind fun z=>ite (0 <= (64 : Int) /\ (64 : Int) <= (66 : Int) /\ (66 : Int) <= (a.length : Int)) ((bd.run (ay a 64 66)).bind fun A=>ite (0 <= (66 : Int) /\ (66 : Int) <= (98 : Int) /\ (98 : Int) <= (a.length : Int)) ((aY.run (ay a 66 98)).bind fun B=>ite (0 <= (98 : Int) /\ (98 : Int) <= (100 : Int) /\ (100 : Int) <= (a.length : Int)) ((bd.run (ay a 98 100)).bind fun C=>ite (0 <= (100 : Int) /\ (100 : Int) <= (132 : Int) /\ (132 : Int) <= (a.length : Int)) ((dN.run (ay a 100 132)).bind fun D=>ite (0 <= (132 : Int) /\ (132 : Int) <= (a.length : Int) /\ (a.length : Int) <= (a.length : Int)) (j1 Rt b c d e f g h i j l m y D z A B C n o (ay a 132 (a.length : Int)) v []) none) none) none) none) none) none) none)) (ite (w == 2) (ite (decide ((a.length : Int) < 67)) (Rt 4 (0,[0,0,0,0],[0,0,0,0],(replicate 32 0),0,(replicate 32 0),0,0,[],[],0,[],())) (ite (decide ((a.length : Int) > 67)) (Rt 3 (0,[0,0,0,0],[0,0,0,0],(replicate 32 0),0,(replicate 32 0),0,0,[],[],0,[],())) (ite (0 <= (35 : Int) /\ (35 : Int) <= (a.length : Int) /\ (a.length : Int) <= (a.length : Int)) (l0 k (j2 Rt) k a (ay a 35 (a.length : Int)) b c d e f g h i j l m p q r s t u n o v) none))) (ite (w == 4) (cond (decide (0 <= (4 : Int) /\ (4 : Int) < (a.length : Int)) || !((decide ((a.length : Int) < 5)) == false)) (ite (cond (decide ((a.length : Int) < 5)) true (decide ((a.length : Int) < (wrap .i64 (5 + (wrap .i64 (20 * (wrap .i64 (a.getD 4 0))))))))) (Rt 4 (0,[0,0,0,0],[0,0,0,0],(replicate 32 0),0,(replicate 32 0),0,0,[],[],0,[],())) (ite (0 <= (4 : Int) /\ (4 : Int) < (a.length : Int)) (ite (decide ((a.length : Int) > (wrap .i64 (5 + (wrap .i64 (20 * (wrap .i64 (a.getD 4 0)))))))) (Rt 3 (0,[0,0,0,0],[0,0,0,0],(replicate 32 0),0,(replicate 32 0),0,0,[],[],0,[],())) (ite (0 <= (0 : Int) /\ (0 : Int) <= (4 : Int) /\ (4 : Int) <= (a.length : Int)) ((bd.run (ay a 0 4)).bind fun E=>ite (0 <= (5 : Int) /\ (5 : Int) <= (a.length : Int) /\ (a.length : Int) <= (a.length : Int)) (l1 k (fun b c d e f g h i j l m p q r s t u n o v F=>j1 Rt b c d e f g h i j l m p q r s t u n o [] v F) k (ay a 5 (a.length : Int)) b c d e f g h i j l m p q r s t u n o E []) none) none)) none)) none) (Rt 2 (0,[0,0,0,0],[0,0,0,0],(replicate 32 0),0,(replicate 32 0),0,0,[],[],0,[],()))))
def top (k : Nat) (Rt : LM α) (a : D1) : Option α:=ite (ax .str a []) (Rt 4 (0,[0,0,0,0],[0,0,0,0],(replicate 32 0),0,(replicate 32 0),0,0,[],[],0,[],())) (ite (0 <= (0 : Int) /\ (0 : Int) < (a.length : Int)) (ite (0 <= (1 : Int) /\ (1 : Int) <= (a.length : Int) /\ (a.length : Int) <= (a.length : Int)) (ite ((wrap .i64 (a.getD 0 0)) == 1) (j0 k Rt (ay a 1 (a.length : Int)) (wrap .i64 (a.getD 0 0)) ((wrap .i64 (a.getD 0 0)) == 1) 0 [0,0,0,0] [0,0,0,0] (replicate 32 0) 0 (replicate 32 0) 0 0 [] 0 (wrap .i64 (a.getD 0 0)) [0,0,0,0] [0,0,0,0] (replicate 32 0) 0 (replicate 32 0) 0 0 [] 0) (j0 k Rt (ay a 1 (a.length : Int)) (wrap .i64 (a.getD 0 0)) ((wrap .i64 (a.getD 0 0)) == 3) 0 [0,0,0,0] [0,0,0,0] (replicate 32 0) 0 (replicate 32 0) 0 0 [] 0 (wrap .i64 (a.getD 0 0)) [0,0,0,0] [0,0,0,0] (replicate 32 0) 0 (replicate 32 0) 0 0 [] 0)) none) none)
def run:=top fuel (fun a b=>some (b,a,()))
def F : Fn:=fm [T5] [jb,T1] run
def w (k : Nat) (Rt : K S1 α) : List (Nat × ee α):=[(140,.j S3 (j1 Rt)),(88,.j S4 (j2 Rt)),(229,.l S4 (l0 k (j2 Rt)) fun _=>[]),(349,.l S5 (l1 k (fun a b c d e f g h i m n o p q r s t u v x y=>j1 Rt a b c d e f g h i m n o p q r s t u v [] x y)) fun _=>[]),(44,.j S2 (j0 k Rt))]
noncomputable def c : Cf:=cn 102 F ⟨Tryz.f102,[11,22,35],[aY.c,aj.c,bd.c,dN.c],[],[],[(2,3,2),(1,9,2),(4,29,2),(7,29,2),(10,9,2),(13,13,2),(38,1310733,2),(57,29,2),(63,29,2),(87,13,2),(102,9,2)],[(2,[.dat false 2 [9],.dat false 2 [11]]),(87,[.melt false 5 [11] 140 true]),(102,[.dat false 5 [9],.melt false 5 [11] 140 true])],[],0⟩ S1 top (fun a b=>some (b,a,())) w bY Tryz.func102
end Go.Bx.aS
namespace Go.Bx.dK
def S1 : Px:=⟨35,[sd 2 T1],[]⟩
def S2 : Px:=⟨35,[sd 0 T2,sd 15 T2,sd 16 T1,sd 17 T1],[]⟩
def S3 : Px:=⟨35,[sd 0 T2,sr 4,sd 15 T2,sd 16 T1,sd 17 T1,sd 24 T2,sd 25 T1,sd 26 T1],[sc 4 T3]⟩
def me (Nx : SJ α) (Rt : gI α) (Xt2 : Nc α) : SJ α:=fun c d e f b g a h=>ite (decide (a < g)) (ite (0 <= a /\ a < (b.length : Int)) (ite (ax T3 h (b.getD a.toNat yC)) (Rt 8) (Nx c d e f b g (wrap .i64 (a + 1)) h)) none) (Xt2 c d e f)
def l1 (k : Nat) (Rt : gI α) (Xt2 : Nc α) : Nat->SJ α
 | 0=>kz (S:=S3)
 | n + 1=>me (l1 k Rt Xt2 n) Rt Xt2
def j0 (Nx : Nc α) : Nc α:=fun a b c d=>Nx a b c (wrap .i64 (d + 1))
def S4 : Px:=⟨35,[],[]⟩
def bq (k : Nat) (Nx : Nc α) (Rt : gI α) (Xt0 : Option α) : Nc α:=fun b c d a=>ite (decide (a < d)) (ite (0 <= a /\ a < (c.length : Int)) (ite (0 <= (0 : Int) /\ (0 : Int) <= a /\ a <= (b.length : Int)) (l1 k Rt (j0 Nx) k b c d a (ay b 0 a) ((ay b 0 a).length : Int) 0 (c.getD a.toNat yC)) none) none) (Xt0)
def l0 (k : Nat) (Rt : gI α) (Xt0 : Option α) : Nat->Nc α
 | 0=>kz (S:=S2)
 | n + 1=>bq k (l0 k Rt Xt0 n) Rt Xt0
def j1 (Rt : gI α) : Option α:=Rt 0
def top (k : Nat) (Rt : gI α) (a : D0) : Option α:=ite (cond (decide ((a.length : Int) < 1)) true (decide ((a.length : Int) > 19))) (Rt 1) (l0 k Rt (j1 Rt) k a a (a.length : Int) 0)
def run:=top fuel (fun a=>some a)
def F : Fn:=fo [T2] T1 run
def w0 (k : Nat) (Nx : K S2 α) (Rt : K S1 α) (Xt0 : K S4 α) : List (Nat × ee α):=[(52,.j S2 (j0 Nx)),(85,.l S3 (l1 k Rt (j0 Nx)) fun _=>[])]
def w (k : Nat) (Rt : K S1 α) : List (Nat × ee α):=[(56,.j S4 (j1 Rt)),(49,.l S2 (l0 k Rt (j1 Rt)) fun n=>w0 k (l0 k Rt (j1 Rt) n) Rt (j1 Rt))]
noncomputable def c : Cf:=cn 64 F ⟨Tryz.f64,[13,14],[],[],[],[(2,1,2),(1,0,0),(4,229377,0),(7,229377,0),(10,117669905,0),(12,229377,0),(21,117669905,0),(36,229377,0),(39,0,0)],[],[],0⟩ S1 top (fun a=>some a) w bY Tryz.func64
end Go.Bx.dK
namespace Go.Bx.bE
def S1 : Px:=⟨33,[sd 2 T1],[]⟩
def S2 : Px:=⟨33,[sd 0 T2,(3,.map 14),sd 15 T2,sd 16 T1,sd 17 T1],[(14,.map T3 T1 [])]⟩
def S3 : Px:=⟨33,[sd 0 T2,(3,.map 14)],[(14,.map T3 T1 [])]⟩
def bq (Nx : LW α) (Xt0 : KL α) : LW α:=fun d b e a c=>ite (decide (a < e)) (ite (0 <= a /\ a < (b.length : Int)) (ite (blt c.length 9223372036854775807 = true) (ite (0 <= (((dZ (ax T3) (b.getD a.toNat yC) c) : Nat) : Int) /\ (((dZ (ax T3) (b.getD a.toNat yC) c) : Nat) : Int) < ((oT (ax T3) (b.getD a.toNat yC) 0 c).length : Int)) (Nx d b e (wrap .i64 (a + 1)) (qE (oT (ax T3) (b.getD a.toNat yC) 0 c) (((dZ (ax T3) (b.getD a.toNat yC) c) : Nat) : Int).toNat (wrap .i64 ((getM (ax T3) (b.getD a.toNat yC) 0 c) + 1)))) none) none) none) (Xt0 d c)
def l0 (k : Nat) (Xt0 : KL α) : Nat->LW α
 | 0=>kz (S:=S2)
 | n + 1=>bq (l0 k Xt0 n) Xt0
def j0 (Rt : gI α) : KL α:=fun b a=>ite (Nat.ble a.length 9223372036854775807 = true) (ite (decide ((a.length : Int) < (b.length : Int))) (Rt 8) (Rt 0)) none
def top (k : Nat) (Rt : gI α) (a : D0) : Option α:=ite (cond ((a.length : Int) == 0) true (decide ((a.length : Int) > 19))) (Rt 1) (l0 k (j0 Rt) k a a (a.length : Int) 0 [])
def run:=top fuel (fun a=>some a)
def F : Fn:=fo [T2] T1 run
def w (k : Nat) (Rt : K S1 α) : List (Nat × ee α):=[(40,.j S3 (j0 Rt)),(61,.l S2 (l0 k (j0 Rt)) fun _=>[])]
noncomputable def c : Cf:=cn 86 F ⟨Tryz.f86,[10],[],[],[],[(2,1,2),(1,9,0),(4,229385,0),(15,229385,0),(27,9,0)],[],[],0⟩ S1 top (fun a=>some a) w bY Tryz.func86
end Go.Bx.bE
namespace Go.Bx.eS
def S1 : Px:=⟨62,[sd 2 T1],[]⟩
def S2 : Px:=⟨62,[sd 0 T4,sd 3 T1,sd 15 T4,sd 16 T1,sd 17 T1],[]⟩
def S3 : Px:=⟨62,[],[]⟩
def bq (Nx : QI α) (Rt : gI α) (Xt0 : Option α) : QI α:=fun c f b d a=>ite (decide (a < d)) (ite (0 <= a /\ a < (b.length : Int)) ((dK.run (b.getD a.toNat (0,[],0,())).2.1).bind fun e=>ite (e != 0) (Rt e) (ite (cond (cond (cond ((b.getD a.toNat (0,[],0,())).1 != a) true (not (ax .bool (a == (wrap .i64 ((c.length : Int) - 1))) ((b.getD a.toNat (0,[],0,())).2.2.1 == 0)))) true (cond ((b.getD a.toNat (0,[],0,())).2.2.1 != 0) (decide ((b.getD a.toNat (0,[],0,())).2.2.1 < f)) false)) true (decide ((b.getD a.toNat (0,[],0,())).2.2.1 > 1099511627800))) (Rt 12) (Nx c (b.getD a.toNat (0,[],0,())).2.2.1 b d (wrap .i64 (a + 1))))) none) (Xt0)
def l0 (k : Nat) (Rt : gI α) (Xt0 : Option α) : Nat->QI α
 | 0=>kz (S:=S2)
 | n + 1=>bq (l0 k Rt Xt0 n) Rt Xt0
def j0 (Rt : gI α) : Option α:=Rt 0
def top (k : Nat) (Rt : gI α) (a : D2) : Option α:=ite (cond (decide ((a.length : Int) < 1)) true (decide ((a.length : Int) > 8))) (Rt 1) (l0 k Rt (j0 Rt) k a 0 a (a.length : Int) 0)
def run:=top fuel (fun a=>some a)
def F : Fn:=fo [T4] T1 run
def w (k : Nat) (Rt : K S1 α) : List (Nat × ee α):=[(60,.j S3 (j0 Rt)),(61,.l S2 (l0 k Rt (j0 Rt)) fun _=>[])]
noncomputable def c : Cf:=cn 22 F ⟨Tryz.f22,[15],[dK.c],[],[],[(2,1,2),(1,0,0),(4,229385,0),(15,229385,0),(42,0,0)],[],[],0⟩ S1 top (fun a=>some a) w bY Tryz.func22
end Go.Bx.eS
namespace Go.Bx.bz
def S1 : Px:=⟨69,[sd 2 T1],[]⟩
def S2 : Px:=⟨69,[sd 0 T4,sd 3 T1,sd 16 T4,sd 17 T1,sd 18 T1],[]⟩
def S3 : Px:=⟨69,[],[]⟩
def bq (Nx : QI α) (Rt : gI α) (Xt0 : Option α) : QI α:=fun c f b d a=>ite (decide (a < d)) (ite (0 <= a /\ a < (b.length : Int)) ((bE.run (b.getD a.toNat (0,[],0,())).2.1).bind fun e=>ite (e != 0) (Rt e) (ite (cond (cond ((b.getD a.toNat (0,[],0,())).1 != a) true (cond ((wrap .i64 (a + 1)) == (c.length : Int)) ((b.getD a.toNat (0,[],0,())).2.2.1 != 0) false)) true (cond (not ((wrap .i64 (a + 1)) == (c.length : Int))) (cond (cond (decide ((b.getD a.toNat (0,[],0,())).2.2.1 < 1)) true (decide ((b.getD a.toNat (0,[],0,())).2.2.1 < f))) true (decide ((b.getD a.toNat (0,[],0,())).2.2.1 > 1099511627800))) false)) (Rt 12) (Nx c (b.getD a.toNat (0,[],0,())).2.2.1 b d (wrap .i64 (a + 1))))) none) (Xt0)
def l0 (k : Nat) (Rt : gI α) (Xt0 : Option α) : Nat->QI α
 | 0=>kz (S:=S2)
 | n + 1=>bq (l0 k Rt Xt0 n) Rt Xt0
def j0 (Rt : gI α) : Option α:=Rt 0
def top (k : Nat) (Rt : gI α) (a : D2) : Option α:=ite (cond ((a.length : Int) == 0) true (decide ((a.length : Int) > 8))) (Rt 1) (l0 k Rt (j0 Rt) k a 0 a (a.length : Int) 0)
def run:=top fuel (fun a=>some a)
def F : Fn:=fo [T4] T1 run
def w (k : Nat) (Rt : K S1 α) : List (Nat × ee α):=[(64,.j S3 (j0 Rt)),(61,.l S2 (l0 k Rt (j0 Rt)) fun _=>[])]
noncomputable def c : Cf:=cn 42 F ⟨Tryz.f42,[16],[bE.c],[],[],[(2,1,2),(1,0,0),(4,458761,0),(15,458761,0),(45,0,0)],[],[],0⟩ S1 top (fun a=>some a) w bY Tryz.func42
end Go.Bx.bz
namespace Go.Bx.gJ
def S1 : Px:=⟨23,[(3,.app 20 0),sd 6 T4,sd 7 T1,sd 8 T1],[sz 20 jn 0]⟩
def S2 : Px:=⟨23,[(3,.app 20 0)],[sz 20 jn 0]⟩
def bq (Nx : PY α) (Xt0 : KB α) : PY α:=fun b d a c=>ite (decide (a < d)) (ite (0 <= a /\ a < (b.length : Int)) (ite (eL (0 + (b.getD a.toNat (0,[],0,())).2.1.length) 20 = true) (ite (eL (c.length + 1) 40 = true) (Nx b d (wrap .i64 (a + 1)) (c ++ [((b.getD a.toNat (0,[],0,())).1,(b.getD a.toNat (0,[],0,())).2.1,(b.getD a.toNat (0,[],0,())).2.2.1,())])) none) none) none) (Xt0 c)
def l0 (k : Nat) (Xt0 : KB α) : Nat->PY α
 | 0=>kz (S:=S1)
 | n + 1=>bq (l0 k Xt0 n) Xt0
def S3 : Px:=⟨23,[(2,.app 20 0)],[sz 20 jn 0]⟩
def j0 (Rt : KB α) : KB α:=fun a=>Rt a
def top (k : Nat) (Rt : KB α) (a : D2) : Option α:=l0 k (j0 Rt) k a (a.length : Int) 0 []
def run:=top fuel (fun a=>some a)
def F : Fn:=fo [T4] T4 run
def w (k : Nat) (Rt : K S3 α) : List (Nat × ee α):=[(36,.j S2 (j0 Rt)),(37,.l S1 (l0 k (j0 Rt)) fun _=>[])]
noncomputable def c : Cf:=cn 122 F ⟨Tryz.f122,[9],[],[],[],[(2,1,2),(1,1,3),(4,57,3),(9,57,3),(24,1,3)],[(9,[.melt true 3 [] 20 true])],[15],0⟩ S3 top (fun a=>some a) w bY Tryz.func122
end Go.Bx.gJ
namespace Go.Bx.ct
def S1 : Px:=⟨26,[sd 4 .bool],[]⟩
def S2 : Px:=⟨26,[sd 0 T2,sd 1 T2,sd 12 T1,sd 13 T1],[]⟩
def S3 : Px:=⟨26,[],[]⟩
def bq (Nx : Nc α) (Rt : kF α) (Xt0 : Option α) : Nc α:=fun b c d a=>ite (decide (a < d)) (ite (0 <= a /\ a < (b.length : Int)) (ite (0 <= a /\ a < (c.length : Int)) (ite (not (ax T3 (b.getD a.toNat yC) (c.getD a.toNat yC))) (Rt false) (Nx b c d (wrap .i64 (a + 1)))) none) none) (Xt0)
def l0 (k : Nat) (Rt : kF α) (Xt0 : Option α) : Nat->Nc α
 | 0=>kz (S:=S2)
 | n + 1=>bq (l0 k Rt Xt0 n) Rt Xt0
def j0 (Rt : kF α) : Option α:=Rt true
def top (k : Nat) (Rt : kF α) (a b : D0) : Option α:=ite ((a.length : Int) != (b.length : Int)) (Rt false) (l0 k Rt (j0 Rt) k a b (a.length : Int) 0)
def run:=top fuel (fun a=>some a)
def F : Fn:=fo [T2,T2] .bool run
def w (k : Nat) (Rt : K S1 α) : List (Nat × ee α):=[(40,.j S3 (j0 Rt)),(49,.l S2 (l0 k Rt (j0 Rt)) fun _=>[])]
noncomputable def c : Cf:=cn 108 F ⟨Tryz.f108,[10],[],[],[],[(2,1,4),(1,0,0),(4,12291,0),(12,12291,0),(27,0,0)],[],[],0⟩ S1 top (fun a=>some a) w bY Tryz.func108
end Go.Bx.ct
namespace Go.Bx.fT
def S1 : Px:=⟨24,[sd 4 .bool],[]⟩
def top (Rt : kF α) (a b : QJ) : Option α:=(if ((cond (a.1 == b.1) (a.2.2.1 == b.2.2.1) false) == true) = true then ct.run a.2.1 b.2.1 else some false).bind fun c=>Rt (cond (cond (a.1 == b.1) (a.2.2.1 == b.2.2.1) false) c false)
def run:=top (fun a=>some a)
def F : Fn:=fo [jn,jn] .bool run
noncomputable def c : Cf:=cn 62 F ⟨Tryz.f62,[],[ct.c],[],[],[(2,1,4)],[],[],0⟩ S1 (fun _=>top) (fun a=>some a) e0 bY Tryz.func62
end Go.Bx.fT
namespace Go.Bx.ck
def S1 : Px:=⟨27,[sd 4 .bool],[]⟩
def S2 : Px:=⟨27,[sd 0 T4,sd 1 T4,sd 12 T1,sd 13 T1],[]⟩
def S3 : Px:=⟨27,[],[]⟩
def bq (Nx : Ki α) (Rt : kF α) (Xt0 : Option α) : Ki α:=fun b c d a=>ite (decide (a < d)) (ite (0 <= a /\ a < (b.length : Int)) (ite (0 <= a /\ a < (c.length : Int)) ((fT.run (b.getD a.toNat (0,[],0,())) (c.getD a.toNat (0,[],0,()))).bind fun e=>ite (not e) (Rt false) (Nx b c d (wrap .i64 (a + 1)))) none) none) (Xt0)
def l0 (k : Nat) (Rt : kF α) (Xt0 : Option α) : Nat->Ki α
 | 0=>kz (S:=S2)
 | n + 1=>bq (l0 k Rt Xt0 n) Rt Xt0
def j0 (Rt : kF α) : Option α:=Rt true
def top (k : Nat) (Rt : kF α) (a b : D2) : Option α:=ite ((a.length : Int) != (b.length : Int)) (Rt false) (l0 k Rt (j0 Rt) k a b (a.length : Int) 0)
def run:=top fuel (fun a=>some a)
def F : Fn:=fo [T4,T4] .bool run
def w (k : Nat) (Rt : K S1 α) : List (Nat × ee α):=[(40,.j S3 (j0 Rt)),(49,.l S2 (l0 k Rt (j0 Rt)) fun _=>[])]
noncomputable def c : Cf:=cn 19 F ⟨Tryz.f19,[10],[fT.c],[],[],[(2,1,4),(1,0,0),(4,12291,0),(12,12291,0),(27,0,0)],[],[],0⟩ S1 top (fun a=>some a) w bY Tryz.func19
end Go.Bx.ck
namespace Go.Bx.eI
def S1 : Px:=⟨23,[(3,.app 21 0),(6,.app 0 1),sd 7 T1,sd 8 T1],[sz 0 jn 1,sb 21 jn 0]⟩
def S2 : Px:=⟨23,[(3,.app 21 0)],[sz 0 jn 1,sb 21 jn 0]⟩
def bq (Nx : PF α) (Xt0 : Lt α) : PF α:=fun d a b c=>ite (decide (a < d)) (ite (0 <= a /\ a < (b.length : Int)) (ite ((eL (0 + (b.getD a.toNat (0,[],0,())).2.1.length) 20 && (Nat.beq 0 0 || blt 0 (b.getD a.toNat (0,[],0,())).2.1.length)) = true) (ite (eL (c.length + 1) 40 = true) (Nx d (wrap .i64 (a + 1)) b (c ++ [((b.getD a.toNat (0,[],0,())).1,(b.getD a.toNat (0,[],0,())).2.1,(b.getD a.toNat (0,[],0,())).2.2.1,())])) none) none) none) (Xt0 b c)
def l0 (k : Nat) (Xt0 : Lt α) : Nat->PF α
 | 0=>kz (S:=S1)
 | n + 1=>bq (l0 k Xt0 n) Xt0
def S3 : Px:=⟨23,[(2,.app 21 0)],[sz 0 jn 1,sb 21 jn 0]⟩
def j0 (Rt : Lt α) : Lt α:=fun a b=>Rt a b
def top (k : Nat) (Rt : Lt α) (a : D2) : Option α:=l0 k (j0 Rt) k (a.length : Int) 0 a []
def run:=top fuel (fun a b=>some (a,b,()))
def Sp : Spec:=re [.app 0 0] [(0,hB jn 0 true)] [T4] (.app 21 0) [(0,hB jn 1 true),(21,hB jn 0 false)] [T4,T4] run
def w (k : Nat) (Rt : K S3 α) : List (Nat × ee α):=[(36,.j S2 (j0 Rt)),(37,.l S1 (l0 k (j0 Rt)) fun _=>[])]
noncomputable def s : Sf:=sn 122 Sp ⟨Tryz.f122,[9],[],[],[],[(2,1,2),(1,1,3),(4,57,3),(9,57,3),(24,1,3)],[(9,[.melt true 3 [] 20 false])],[],1⟩ S3 top ri w bY Tryz.func122
end Go.Bx.eI
namespace Go.Bx.nc
def S1 : Px:=⟨44,[sr 6,sd 7 T1],[sc 6 jn]⟩
def top (Rt : RN α) (b : D2) (a e : Int) : Option α:=(eS.run b).bind fun d=>ite (d != 0) (Rt d (0,[],0,())) (ite (cond (decide (a < 0)) true (decide (a >= (b.length : Int)))) (Rt 5 (0,[],0,())) (ite (0 <= a /\ a <= (wrap .i64 (a + 1)) /\ (wrap .i64 (a + 1)) <= (b.length : Int)) ((gJ.run (ay b a (wrap .i64 (a + 1)))).bind fun c=>ite (0 <= (0 : Int) /\ (0 : Int) < (c.length : Int)) (ite (cond ((c.getD 0 (0,[],0,())).2.2.1 != 0) (decide (e >= (c.getD 0 (0,[],0,())).2.2.1)) false) (Rt 15 (0,[],0,())) (Rt 0 (c.getD 0 (0,[],0,())))) none) none))
def run:=top (fun a b=>some (b,a,()))
def F : Fn:=fm [T4,T1,T1] [jn,T1] run
noncomputable def c : Cf:=cn 75 F ⟨Tryz.f75,[],[eS.c,gJ.c],[],[],[(2,3,6)],[(2,[.dat false 6 []])],[],0⟩ S1 (fun _=>top) (fun a b=>some (b,a,())) e0 bY Tryz.func75
end Go.Bx.nc
namespace Go.Bx.fV
def S1 : Px:=⟨44,[sr 6,sd 7 T1],[sc 6 jn]⟩
def top (Rt : RN α) (b : D2) (a d : Int) : Option α:=(bz.run b).bind fun c=>ite (c != 0) (Rt c (0,[],0,())) (ite (cond (decide (a < 0)) true (decide (a >= (b.length : Int)))) (Rt 5 (0,[],0,())) (ite (0 <= a /\ a < (b.length : Int)) (cond (decide (0 <= a /\ a < (b.length : Int)) || !(((b.getD a.toNat (0,[],0,())).2.2.1 != 0) == true)) (ite (cond ((b.getD a.toNat (0,[],0,())).2.2.1 != 0) (decide ((b.getD a.toNat (0,[],0,())).2.2.1 <= d)) false) (Rt 15 (0,[],0,())) (ite (0 <= a /\ a < (b.length : Int)) (Rt 0 (b.getD a.toNat (0,[],0,()))) none)) none) none))
def run:=top (fun a b=>some (b,a,()))
def F : Fn:=fm [T4,T1,T1] [jn,T1] run
noncomputable def c : Cf:=cn 99 F ⟨Tryz.f99,[],[bz.c],[],[],[(2,3,6)],[(2,[.dat false 6 []])],[],0⟩ S1 (fun _=>top) (fun a b=>some (b,a,())) e0 bY Tryz.func99
end Go.Bx.fV
namespace Go.Bx.aH
def S1 : Px:=⟨53,[sd 0 kN,sd 1 kN,(5,.app 46 0),sd 6 T7,sd 7 T1],[sz 46 T7 0]⟩
def S2 : Px:=⟨53,[sd 0 kN,sd 1 kN,(5,.app 46 0),sd 7 T1,sd 8 T7],[sz 46 T7 0]⟩
def j1 (Nx : oX α) : oX α:=fun c d e a b=>ite (eL (b.length + 1) 8 = true) (Nx c d (wrap .u64 (tdiv a 4294967296)) (wrap .i64 (e + 1)) (b ++ [(tmod a 4294967296)])) none
def j0 (Nx : oX α) : oX α:=fun c b a d e=>ite (decide (a < (b.length : Int))) (ite (0 <= a /\ a < (b.length : Int)) (j1 Nx c b a (wrap .u64 (d + (b.getD a.toNat 0))) e) none) (j1 Nx c b a d e)
def S3 : Px:=⟨53,[(5,.app 46 0),sd 6 T7],[sz 46 T7 0]⟩
def bq (Nx : oX α) (Xt0 : jJ α) : oX α:=fun b c d a e=>ite (cond (decide (a < (b.length : Int))) true (decide (a < (c.length : Int)))) (ite (decide (a < (b.length : Int))) (ite (0 <= a /\ a < (b.length : Int)) (j0 Nx b c a (wrap .u64 (d + (b.getD a.toNat 0))) e) none) (j0 Nx b c a d e)) (Xt0 d e)
def l0 (k : Nat) (Xt0 : jJ α) : Nat->oX α
 | 0=>kz (S:=S1)
 | n + 1=>bq (l0 k Xt0 n) Xt0
def S4 : Px:=⟨53,[(4,.app 46 0)],[sz 46 T7 0]⟩
def j2 (Rt : cf α) : jJ α:=fun b a=>ite (eL (a.length + 1) 8 = true) (Rt (a ++ [b])) none
def top (k : Nat) (Rt : cf α) (a b : D1) : Option α:=l0 k (j2 Rt) k a b 0 0 []
def run:=top fuel (fun a=>some a)
def F : Fn:=fo [kN,kN] kN run
def w0 (k : Nat) (Nx : K S1 α) (Xt0 : K S3 α) : List (Nat × ee α):=[(48,.j S2 (j1 Nx)),(40,.j S2 (j0 Nx))]
def w (k : Nat) (Rt : K S4 α) : List (Nat × ee α):=[(52,.j S3 (j2 Rt)),(49,.l S1 (l0 k (j2 Rt)) fun n=>w0 k (l0 k (j2 Rt) n) (j2 Rt))]
noncomputable def c : Cf:=cn 89 F ⟨Tryz.f89,[10,12,13],[],[],[],[(2,1,4),(1,3,5),(4,227,0),(12,227,0),(27,419,0),(33,419,0),(36,3,5)],[(12,[.melt true 5 [] 46 true])],[],0⟩ S4 top (fun a=>some a) w bY Tryz.func89
end Go.Bx.aH
namespace Go.Bx.an
def S1 : Px:=⟨49,[sd 1 kN,(5,.app 11 0),sd 6 T7,sd 13 T1,sd 14 T1],[sb 11 T7 0]⟩
def S2 : Px:=⟨49,[sd 1 kN,(5,.app 11 0),sd 7 T1,sd 8 T7,sd 13 T1,sd 14 T1],[sb 11 T7 0]⟩
def S3 : Px:=⟨49,[sd 1 kN,(5,.app 11 0),sd 6 T7,sd 7 T1,sd 8 T7,sd 13 T1,sd 14 T1],[sb 11 T7 0]⟩
def j1 (Nx : xc α) : QX α:=fun c d a e f g b=>ite (0 <= a /\ a < (b.length : Int)) (ite (0 <= a /\ a < (b.length : Int)) (Nx c d f (wrap .i64 (g + 1)) (b.set a.toNat (wrap .u64 ((b.getD a.toNat 0) - e)))) none) none
def j0 (Nx : xc α) : QN α:=fun d a c e f b=>ite (0 <= a /\ a < (b.length : Int)) (ite (decide ((b.getD a.toNat 0) < c)) (ite (0 <= a /\ a < (b.length : Int)) (ite (0 <= a /\ a < (b.length : Int)) (j1 Nx d 1 a c e f (b.set a.toNat (wrap .u64 ((b.getD a.toNat 0) + 4294967296)))) none) none) (j1 Nx d 0 a c e f b)) none
def S4 : Px:=⟨49,[(5,.app 11 0)],[sb 11 T7 0]⟩
def bq (Nx : xc α) (Xt0 : cf α) : xc α:=fun b e c a d=>ite (decide (a < c)) (ite (decide (a < (b.length : Int))) (ite (0 <= a /\ a < (b.length : Int)) (j0 Nx b a (wrap .u64 (e + (b.getD a.toNat 0))) c a d) none) (j0 Nx b a e c a d)) (Xt0 d)
def l0 (k : Nat) (Xt0 : cf α) : Nat->xc α
 | 0=>kz (S:=S1)
 | n + 1=>bq (l0 k Xt0 n) Xt0
def S5 : Px:=⟨49,[(4,.app 11 0)],[sb 11 T7 0]⟩
def j2 (Rt : cf α) : cf α:=fun a=>Rt a
def top (k : Nat) (Rt : cf α) (a b : D1) : Option α:=ite ((eL (0 + a.length) 8 && (Nat.beq 0 0 || blt 0 a.length)) = true) (l0 k (j2 Rt) k b 0 (a.length : Int) 0 a) none
def run:=top fuel (fun a=>some a)
def F : Fn:=fo [kN,kN] kN run
def w0 (k : Nat) (Nx : K S1 α) (Xt0 : K S4 α) : List (Nat × ee α):=[(56,.j S3 (j1 Nx)),(40,.j S2 (j0 Nx))]
def w (k : Nat) (Rt : K S5 α) : List (Nat × ee α):=[(64,.j S4 (j2 Rt)),(49,.l S1 (l0 k (j2 Rt)) fun n=>w0 k (l0 k (j2 Rt) n) (j2 Rt))]
noncomputable def c : Cf:=cn 133 F ⟨Tryz.f133,[10,14,16],[],[],[],[(2,1,4),(1,1,5),(4,12337,1),(12,12337,1),(27,12497,1),(39,12529,1),(45,1,5)],[],[],0⟩ S5 top (fun a=>some a) w bY Tryz.func133
end Go.Bx.an
namespace Go.Bx.aQ
def S1 : Px:=⟨36,[sr 2,sr 4,sd 5 .bool,sd 8 kN,sd 9 T1,sd 10 T1],[sc 2 T6,sc 4 T6]⟩
def j0 (Nx : DV α) : DV α:=fun a b c d e f=>Nx a b c (wrap .i64 (d + 1)) e f
def S2 : Px:=⟨36,[sr 2,sr 4,sd 5 .bool],[sc 2 T6,sc 4 T6]⟩
def bq (Nx : DV α) (Xt0 : OE α) : DV α:=fun d b e a f c=>ite (decide (a < e)) (ite (0 <= a /\ a < (b.length : Int)) (ite (decide (a >= 8)) (j0 Nx (cond d true ((b.getD a.toNat 0) != 0)) b e a f c) (ite (0 <= (wrap .i64 (tdiv a 2)) /\ (wrap .i64 (tdiv a 2)) < (4 : Int)) (ite (0 <= (wrap .i64 (32 * (tmod a 2)))) (ite (0 <= (wrap .i64 (tdiv a 2)) /\ (wrap .i64 (tdiv a 2)) < (4 : Int)) (j0 Nx d b e a f (c.set (wrap .i64 (tdiv a 2)).toNat (jq .u64 (c.getD (wrap .i64 (tdiv a 2)).toNat 0) (eR .u64 (b.getD a.toNat 0) (wrap .i64 (32 * (tmod a 2))))))) none) none) none)) none) (Xt0 d f c)
def l0 (k : Nat) (Xt0 : OE α) : Nat->DV α
 | 0=>kz (S:=S1)
 | n + 1=>bq (l0 k Xt0 n) Xt0
def S3 : Px:=⟨36,[sr 2,sd 3 .bool],[sc 2 T6]⟩
def j1 (Rt : FK α) : OE α:=fun a c b=>Rt a b
def top (k : Nat) (Rt : FK α) (a : D1) : Option α:=l0 k (j1 Rt) k false a (a.length : Int) 0 [0,0,0,0] [0,0,0,0]
def run:=top fuel (fun a b=>some (b,a,()))
def F : Fn:=fm [kN] [T6,.bool] run
def w0 (k : Nat) (Nx : K S1 α) (Xt0 : K S2 α) : List (Nat × ee α):=[(40,.j S1 (j0 Nx))]
def w (k : Nat) (Rt : K S3 α) : List (Nat × ee α):=[(44,.j S2 (j1 Rt)),(49,.l S1 (l0 k (j1 Rt)) fun n=>w0 k (l0 k (j1 Rt) n) (j1 Rt))]
noncomputable def c : Cf:=cn 147 F ⟨Tryz.f147,[10,11],[],[],[],[(2,3,2),(1,13,2),(4,461,2),(12,461,2),(27,461,2),(30,13,2)],[],[],0⟩ S3 top (fun a b=>some (b,a,())) w bY Tryz.func147
end Go.Bx.aQ
namespace Go.Bx.cd
def S1 : Px:=⟨11,[sr 2],[sc 2 T6]⟩
def top (Rt : cf α) (a : D1) : Option α:=(aQ.run a).bind fun b=>Rt b.1
def run:=top (fun a=>some a)
def F : Fn:=fo [kN] T6 run
noncomputable def c : Cf:=cn 132 F ⟨Tryz.f132,[],[aQ.c],[],[],[(2,1,2)],[],[],0⟩ S1 (fun _=>top) (fun a=>some a) e0 bY Tryz.func132
end Go.Bx.cd
namespace Go.Bx.lF
def run (x y c : Int) : Option (Int × Int × Unit):=Is x y c
def F : Fn:=⟨U3,U2,true,fun x=>run x.1 x.2.1 x.2.2.1⟩
theorem ext : uC Tryz.prog 110 F:=JR Tryz.func110 (by kernel_rfl) (by kernel_rfl) (by kernel_rfl) (by kernel_rfl)
noncomputable def c : Cf:=ce 110 F ext
end Go.Bx.lF
namespace Go.Bx.fy
def S1 : Px:=⟨28,[sr 2,sr 3,sr 4,sd 6 T7,sd 8 T1],[sc 2 T6,sc 3 T6,sc 4 T6]⟩
def S2 : Px:=⟨28,[sr 2,sr 4,sd 6 T7],[sc 2 T6,sc 4 T6]⟩
def bq (Nx : NC α) (Xt0 : tL α) : NC α:=fun c a b d e=>ite (decide (a < 4)) (ite (0 <= a /\ a < (4 : Int)) (ite (0 <= a /\ a < (4 : Int)) ((lF.run (b.getD a.toNat 0) (d.getD a.toNat 0) c).bind fun f=>ite (0 <= a /\ a < (4 : Int)) (Nx f.2.1 (wrap .i64 (a + 1)) (b.set a.toNat f.1) d e) none) none) none) (Xt0 c b e)
def l0 (k : Nat) (Xt0 : tL α) : Nat->NC α
 | 0=>kz (S:=S1)
 | n + 1=>bq (l0 k Xt0 n) Xt0
def S3 : Px:=⟨28,[sr 4,sd 5 .bool],[sc 4 T6]⟩
def j0 (Rt : FK α) : tL α:=fun a b c=>Rt (a == 1) b
def top (k : Nat) (Rt : FK α) (a b : D1) : Option α:=l0 k (j0 Rt) k 0 0 a b [0,0,0,0]
def run:=top fuel (fun a b=>some (b,a,()))
def F : Fn:=fm [T6,T6] [T6,.bool] run
def w (k : Nat) (Rt : K S3 α) : List (Nat × ee α):=[(32,.j S2 (j0 Rt)),(37,.l S1 (l0 k (j0 Rt)) fun _=>[])]
noncomputable def c : Cf:=cn 66 F ⟨Tryz.f66,[8],[lF.c],[],[],[(2,3,4),(1,21,2),(4,87,2),(9,87,2),(21,21,2)],[],[],0⟩ S3 top (fun a b=>some (b,a,())) w bY Tryz.func66
end Go.Bx.fy
namespace Go.Bx.ow
def run (x y c : Int) : Option (Int × Int × Unit):=H8 x y c
def F : Fn:=⟨U3,U2,true,fun x=>run x.1 x.2.1 x.2.2.1⟩
theorem ext : uC Tryz.prog 112 F:=JX Tryz.func112 (by kernel_rfl) (by kernel_rfl) (by kernel_rfl) (by kernel_rfl)
noncomputable def c : Cf:=ce 112 F ext
end Go.Bx.ow
namespace Go.Bx.fO
def S1 : Px:=⟨28,[sr 2,sr 3,sr 4,sd 6 T7,sd 8 T1],[sc 2 T6,sc 3 T6,sc 4 T6]⟩
def S2 : Px:=⟨28,[sr 2,sr 4,sd 6 T7],[sc 2 T6,sc 4 T6]⟩
def bq (Nx : NC α) (Xt0 : tL α) : NC α:=fun c a b d e=>ite (decide (a < 4)) (ite (0 <= a /\ a < (4 : Int)) (ite (0 <= a /\ a < (4 : Int)) ((ow.run (b.getD a.toNat 0) (d.getD a.toNat 0) c).bind fun f=>ite (0 <= a /\ a < (4 : Int)) (Nx f.2.1 (wrap .i64 (a + 1)) (b.set a.toNat f.1) d e) none) none) none) (Xt0 c b e)
def l0 (k : Nat) (Xt0 : tL α) : Nat->NC α
 | 0=>kz (S:=S1)
 | n + 1=>bq (l0 k Xt0 n) Xt0
def S3 : Px:=⟨28,[sr 4,sd 5 .bool],[sc 4 T6]⟩
def j0 (Rt : FK α) : tL α:=fun a b c=>Rt (a == 1) b
def top (k : Nat) (Rt : FK α) (a b : D1) : Option α:=l0 k (j0 Rt) k 0 0 a b [0,0,0,0]
def run:=top fuel (fun a b=>some (b,a,()))
def F : Fn:=fm [T6,T6] [T6,.bool] run
def w (k : Nat) (Rt : K S3 α) : List (Nat × ee α):=[(32,.j S2 (j0 Rt)),(37,.l S1 (l0 k (j0 Rt)) fun _=>[])]
noncomputable def c : Cf:=cn 69 F ⟨Tryz.f69,[8],[ow.c],[],[],[(2,3,4),(1,21,2),(4,87,2),(9,87,2),(21,21,2)],[],[],0⟩ S3 top (fun a b=>some (b,a,())) w bY Tryz.func69
end Go.Bx.fO
namespace Go.Bx.aE
def S1 : Px:=⟨63,[sd 1 kN,(5,.app 17 0),sd 18 kN,sd 19 T1,sd 20 T1],[sb 17 T7 0]⟩
def S2 : Px:=⟨63,[sd 1 kN,(5,.app 17 0),sd 6 T1,sd 7 T7,sd 8 T7,sd 18 kN,sd 19 T1,sd 20 T1,sd 25 kN,sd 26 T1,sd 27 T1],[sb 17 T7 0]⟩
def S3 : Px:=⟨63,[sd 1 kN,(5,.app 17 0),sd 6 T1,sd 8 T7,sd 18 kN,sd 19 T1,sd 20 T1],[sb 17 T7 0]⟩
def me (Nx : Kg α) (Xt2 : Kv α) : Kg α:=fun g b e f h i j d k a c=>ite (decide (a < k)) (ite (0 <= a /\ a < (d.length : Int)) (ite (0 <= (wrap .i64 (b + a)) /\ (wrap .i64 (b + a)) < (c.length : Int)) (ite (0 <= (wrap .i64 (b + a)) /\ (wrap .i64 (b + a)) < (c.length : Int)) (Nx g b e (wrap .u64 (tdiv (wrap .u64 ((wrap .u64 ((wrap .u64 (e * (d.getD a.toNat 0))) + (c.getD (wrap .i64 (b + a)).toNat 0))) + f)) 4294967296)) h i j d k (wrap .i64 (a + 1)) (c.set (wrap .i64 (b + a)).toNat (tmod (wrap .u64 ((wrap .u64 ((wrap .u64 (e * (d.getD a.toNat 0))) + (c.getD (wrap .i64 (b + a)).toNat 0))) + f)) 4294967296))) none) none) none) (Xt2 g b f h i j c)
def l1 (k : Nat) (Xt2 : Kv α) : Nat->Kg α
 | 0=>kz (S:=S2)
 | n + 1=>me (l1 k Xt2 n) Xt2
def j1 (Nx : oX α) : oX α:=fun a b c d e=>Nx a b c (wrap .i64 (d + 1)) e
def j0 (Nx : oX α) : Kv α:=fun a b d e f g c=>ite (0 <= (wrap .i64 (b + (a.length : Int))) /\ (wrap .i64 (b + (a.length : Int))) < (c.length : Int)) (j1 Nx a e f g (c.set (wrap .i64 (b + (a.length : Int))).toNat d)) none
def S4 : Px:=⟨63,[(5,.app 17 0)],[sb 17 T7 0]⟩
def bq (k : Nat) (Nx : oX α) (Xt0 : cf α) : oX α:=fun b c d a e=>ite (decide (a < d)) (ite (0 <= a /\ a < (c.length : Int)) (l1 k (j0 Nx) k b a (c.getD a.toNat 0) 0 c d a b (b.length : Int) 0 e) none) (Xt0 e)
def l0 (k : Nat) (Xt0 : cf α) : Nat->oX α
 | 0=>kz (S:=S1)
 | n + 1=>bq k (l0 k Xt0 n) Xt0
def S5 : Px:=⟨63,[(4,.app 17 0)],[sb 17 T7 0]⟩
def j2 (Rt : cf α) : cf α:=fun a=>Rt a
def top (k : Nat) (Rt : cf α) (a b : D1) : Option α:=ite (0 <= (wrap .i64 ((a.length : Int) + (b.length : Int))) /\ id (wrap .i64 ((a.length : Int) + (b.length : Int))) = (wrap .i64 ((a.length : Int) + (b.length : Int))) /\ eL (wrap .i64 ((a.length : Int) + (b.length : Int))).toNat 8 = true) (l0 k (j2 Rt) k b a (a.length : Int) 0 (replicate (wrap .i64 ((a.length : Int) + (b.length : Int))).toNat 0)) none
def run:=top fuel (fun a=>some a)
def F : Fn:=fo [kN,kN] kN run
def w0 (k : Nat) (Nx : K S1 α) (Xt0 : K S4 α) : List (Nat × ee α):=[(56,.j S1 (j1 Nx)),(52,.j S3 (j0 Nx)),(85,.l S2 (l1 k (j0 Nx)) fun _=>[])]
def w (k : Nat) (Rt : K S5 α) : List (Nat × ee α):=[(60,.j S4 (j2 Rt)),(37,.l S1 (l0 k (j2 Rt)) fun n=>w0 k (l0 k (j2 Rt) n) (j2 Rt))]
noncomputable def c : Cf:=cn 148 F ⟨Tryz.f148,[13,14,15],[],[],[],[(2,1,4),(1,1,5),(4,917521,1),(7,917681,1),(10,118358257,1),(9,917521,1),(21,118358257,1),(36,917681,1),(39,917521,1),(42,1,5)],[],[],0⟩ S5 top (fun a=>some a) w bY Tryz.func148
end Go.Bx.aE
namespace Go.Bx.bU
def S0 : Px:=⟨21,[sd 0 kN],[]⟩
def bq (Nx : cf α) (Xt0 : cf α) : cf α:=fun a=>cond (decide (0 <= (wrap .i64 ((a.length : Int) - 1)) /\ (wrap .i64 ((a.length : Int) - 1)) < (a.length : Int)) || !((decide ((a.length : Int) > 0)) == true)) (ite (cond (decide ((a.length : Int) > 0)) ((a.getD (wrap .i64 ((a.length : Int) - 1)).toNat 0) == 0) false) (ite (0 <= (0 : Int) /\ (0 : Int) <= (wrap .i64 ((a.length : Int) - 1)) /\ (wrap .i64 ((a.length : Int) - 1)) <= (a.length : Int)) (Nx (ay a 0 (wrap .i64 ((a.length : Int) - 1)))) none) (Xt0 a)) none
def l0 (k : Nat) (Xt0 : cf α) : Nat->cf α
 | 0=>kz (S:=S0)
 | n + 1=>bq (l0 k Xt0 n) Xt0
def S1 : Px:=⟨21,[sd 2 kN],[]⟩
def j0 (Rt : cf α) : cf α:=fun a=>Rt a
def top (k : Nat) (Rt : cf α) (a : D1) : Option α:=l0 k (j0 Rt) k a
def run:=top fuel (fun a=>some a)
def F : Fn:=fo [kN] kN run
def w (k : Nat) (Rt : K S1 α) : List (Nat × ee α):=[(16,.j S0 (j0 Rt)),(13,.l S0 (l0 k (j0 Rt)) fun _=>[])]
noncomputable def c : Cf:=cn 88 F ⟨Tryz.f88,[4],[],[],[],[(2,1,2),(1,1,0),(4,1,0),(3,1,0),(9,1,0)],[],[],0⟩ S1 top (fun a=>some a) w bY Tryz.func88
end Go.Bx.bU
namespace Go.Bx.ib
def S1 : Px:=⟨15,[sd 2 T7,sd 3 .bool],[]⟩
def top (Rt : L3 α) (b : D1) : Option α:=(bU.run b).bind fun a=>ite ((a.length : Int) == 0) (Rt 0 true) (ite (0 <= (0 : Int) /\ (0 : Int) < (a.length : Int)) (Rt (a.getD 0 0) ((a.length : Int) == 1)) none)
def run:=top (fun a b=>some (a,b,()))
def F : Fn:=fm [kN] [T7,.bool] run
noncomputable def c : Cf:=cn 172 F ⟨Tryz.f172,[],[bU.c],[],[],[(2,3,2)],[],[],0⟩ S1 (fun _=>top) ri e0 bY Tryz.func172
end Go.Bx.ib
namespace Go.Bx.aK
def S1 : Px:=⟨96,[sd 0 kN,(4,.app 22 0),sd 6 T7,sd 8 T7,sd 9 T1],[sb 22 T7 0]⟩
def S2 : Px:=⟨96,[(4,.app 22 0),sd 8 T7],[sb 22 T7 0]⟩
def bq (Nx : xc α) (Xt0 : jJ α) : xc α:=fun c b d a e=>ite (decide (a >= 0)) (ite (0 <= a /\ a < (c.length : Int)) (ite (b ≠ 0) (ite (b ≠ 0) (ite (0 <= a /\ a < (e.length : Int)) (Nx c b (tmod (wrap .u64 ((wrap .u64 (d * 4294967296)) + (c.getD a.toNat 0))) b) (wrap .i64 (a - 1)) (e.set a.toNat (wrap .u64 (tdiv (wrap .u64 ((wrap .u64 (d * 4294967296)) + (c.getD a.toNat 0))) b)))) none) none) none) none) (Xt0 d e)
def l0 (k : Nat) (Xt0 : jJ α) : Nat->xc α
 | 0=>kz (S:=S1)
 | n + 1=>bq (l0 k Xt0 n) Xt0
def S3 : Px:=⟨96,[sd 4 kN,sd 5 kN],[]⟩
def j0 (Rt : ff α) : jJ α:=fun a b=>Rt b [a]
def S4 : Px:=⟨96,[sd 0 kN,sd 1 kN,(5,hN T7)],[]⟩
def S5 : Px:=⟨96,[sd 0 kN,sd 1 kN,(4,.app 51 0),sd 5 kN,sd 10 T1],[sb 51 T7 0]⟩
def S6 : Px:=⟨96,[sd 0 kN,sd 1 kN,(4,.app 51 0),(5,.app 66 0),sd 10 T1,sd 11 T7,sd 12 T7],[sb 51 T7 0,sz 66 T7 0]⟩
def S7 : Px:=⟨96,[sd 0 kN,sd 1 kN,(4,.app 51 0),(5,.app 66 0),sd 10 T1,sd 11 T7],[sb 51 T7 0,sz 66 T7 0]⟩
def BR (Nx : LZ α) (Xt4 : Lz α) : LZ α:=fun e c f a b g d=>ite (decide ((wrap .u64 (b - a)) > 1)) ((aE.run c [(wrap .u64 (tdiv (wrap .u64 (a + b)) 2))]).bind fun h=>(aX.run h d).bind fun i=>ite (decide (i <= 0)) (Nx e c f (wrap .u64 (tdiv (wrap .u64 (a + b)) 2)) b g d) (Nx e c f a (wrap .u64 (tdiv (wrap .u64 (a + b)) 2)) g d)) (Xt4 e c f a g d)
def l2 (k : Nat) (Xt4 : Lz α) : Nat->LZ α
 | 0=>kz (S:=S6)
 | n + 1=>BR (l2 k Xt4 n) Xt4
def j3 (Nx : BU α) : BU α:=fun a b c d e=>Nx a b c (wrap .i64 (d - 1)) e
def j2 (Nx : BU α) : Lz α:=fun e b a c d f=>ite (0 <= a /\ a < (d.length : Int)) ((aE.run b [c]).bind fun g=>(an.run f g).bind fun h=>j3 Nx e b h a (d.set a.toNat c)) none
def S8 : Px:=⟨96,[(4,.app 51 0),sd 5 kN],[sb 51 T7 0]⟩
def me (k : Nat) (Nx : BU α) (Xt2 : ff α) : BU α:=fun b f c a d=>ite (decide (a >= 0)) (ite (0 <= a /\ a < (b.length : Int)) ((bU.run c).bind fun e=>ite (eL (1 + e.length) 8 = true) (l2 k (j2 Nx) k b f a 0 4294967296 d ([(b.getD a.toNat 0)] ++ e)) none) none) (Xt2 c d)
def l1 (k : Nat) (Xt2 : ff α) : Nat->BU α
 | 0=>kz (S:=S5)
 | n + 1=>me k (l1 k Xt2 n) Xt2
def j4 (Rt : ff α) : ff α:=fun a b=>Rt b a
def j1 (k : Nat) (Rt : ff α) : ff α:=fun a b=>ite (0 <= (a.length : Int) /\ id (a.length : Int) = (a.length : Int) /\ eL (a.length : Int).toNat 8 = true) (l1 k (j4 Rt) k a b [] (wrap .i64 ((a.length : Int) - 1)) (replicate (a.length : Int).toNat 0)) none
def top (k : Nat) (Rt : ff α) (a b : D1) : Option α:=(ib.run b).bind fun c=>ite c.2.1 (ite (0 <= (a.length : Int) /\ id (a.length : Int) = (a.length : Int) /\ eL (a.length : Int).toNat 8 = true) (l0 k (j0 Rt) k a c.1 0 (wrap .i64 ((a.length : Int) - 1)) (replicate (a.length : Int).toNat 0)) none) (j1 k Rt a b)
def run:=top fuel (fun a b=>some (a,b,()))
def F : Fn:=fm [kN,kN] [kN,kN] run
def w1 (k : Nat) (Nx : K S5 α) (Xt2 : K S8 α) : List (Nat × ee α):=[(60,.j S5 (j3 Nx)),(92,.j S7 (j2 Nx)),(205,.l S6 (l2 k (j2 Nx)) fun _=>[])]
def w (k : Nat) (Rt : K S3 α) : List (Nat × ee α):=[(44,.j S2 (j0 Rt)),(73,.l S1 (l0 k (j0 Rt)) fun _=>[]),(100,.j S8 (j4 Rt)),(157,.l S5 (l1 k (j4 Rt)) fun n=>w1 k (l1 k (j4 Rt) n) (j4 Rt)),(48,.j S4 (j1 k Rt))]
noncomputable def c : Cf:=cn 136 F ⟨Tryz.f136,[11,12,15,23,25],[bU.c,aX.c,an.c,aE.c,ib.c],[],[],[(2,3,4),(7,3,4),(10,1075,0),(13,3123,0),(16,7219,0),(1,17,4),(4,849,0),(18,849,0),(30,17,4),(33,35,0),(39,1075,0),(42,1075,0),(51,7219,0),(66,3123,0),(72,3,4)],[(2,[.dat true 4 [],.dat true 5 []]),(39,[.dat true 5 []])],[66],0⟩ S3 top ri w bY Tryz.func136
end Go.Bx.aK
namespace Go.Bx.dJ
def S1 : Px:=⟨25,[sd 0 T7,sd 2 T1],[]⟩
def S2 : Px:=⟨25,[sd 2 T1],[]⟩
def j2 (Rt : gI α) : Am α:=fun a b=>ite (0 <= (wrap .u8 a) /\ (wrap .u8 a) < (256 : Int)) (Rt (wrap .i64 (b + (wrap .i64 ([0,1,2,2,3,3,3,3,4,4,4,4,4,4,4,4,5,5,5,5,5,5,5,5,5,5,5,5,5,5,5,5,6,6,6,6,6,6,6,6,6,6,6,6,6,6,6,6,6,6,6,6,6,6,6,6,6,6,6,6,6,6,6,6,7,7,7,7,7,7,7,7,7,7,7,7,7,7,7,7,7,7,7,7,7,7,7,7,7,7,7,7,7,7,7,7,7,7,7,7,7,7,7,7,7,7,7,7,7,7,7,7,7,7,7,7,7,7,7,7,7,7,7,7,7,7,7,7,8,8,8,8,8,8,8,8,8,8,8,8,8,8,8,8,8,8,8,8,8,8,8,8,8,8,8,8,8,8,8,8,8,8,8,8,8,8,8,8,8,8,8,8,8,8,8,8,8,8,8,8,8,8,8,8,8,8,8,8,8,8,8,8,8,8,8,8,8,8,8,8,8,8,8,8,8,8,8,8,8,8,8,8,8,8,8,8,8,8,8,8,8,8,8,8,8,8,8,8,8,8,8,8,8,8,8,8,8,8,8,8,8,8,8,8,8,8,8,8,8,8,8,8,8,8,8,8].getD (wrap .u8 a).toNat 0))))) none
def j1 (Rt : gI α) : Am α:=fun a b=>ite (decide (a >= 256)) (j2 Rt (fh .u64 a 8) (wrap .i64 (b + 8))) (j2 Rt a b)
def j0 (Rt : gI α) : Am α:=fun a b=>ite (decide (a >= 65536)) (j1 Rt (fh .u64 a 16) (wrap .i64 (b + 16))) (j1 Rt a b)
def top (Rt : gI α) (a : Int) : Option α:=ite (decide (a >= 4294967296)) (j0 Rt (fh .u64 a 32) 32) (j0 Rt a 0)
def run:=top (fun a=>some a)
def F : Fn:=fo [T7] T1 run
def w (k : Nat) (Rt : K S2 α) : List (Nat × ee α):=[(44,.j S1 (j2 Rt)),(32,.j S1 (j1 Rt)),(20,.j S1 (j0 Rt))]
noncomputable def c : Cf:=cn 152 F ⟨Tryz.f152,[5,8,11],[],[],[],[(2,1,2),(12,5,0),(21,5,0),(30,5,0)],[],[],0⟩ S2 (fun _=>top) (fun a=>some a) w bY Tryz.func152
end Go.Bx.dJ
namespace Go.Bx.gp
def S1 : Px:=⟨20,[sd 3 T1,sd 6 T6,sd 7 T1],[]⟩
def j0 (Nx : Ll α) : Ll α:=fun a b c=>Nx a b (wrap .i64 (c + 1))
def S2 : Px:=⟨20,[sd 3 T1],[]⟩
def bq (Nx : Ll α) (Xt0 : gI α) : Ll α:=fun c b a=>ite (decide (a < 4)) (ite (0 <= a /\ a < (4 : Int)) (ite ((b.getD a.toNat 0) != 0) ((dJ.run (b.getD a.toNat 0)).bind fun d=>j0 Nx (wrap .i64 ((wrap .i64 (64 * a)) + d)) b a) (j0 Nx c b a)) none) (Xt0 c)
def l0 (k : Nat) (Xt0 : gI α) : Nat->Ll α
 | 0=>kz (S:=S1)
 | n + 1=>bq (l0 k Xt0 n) Xt0
def S3 : Px:=⟨20,[sd 2 T1],[]⟩
def j1 (Rt : gI α) : gI α:=fun a=>Rt a
def top (k : Nat) (Rt : gI α) (a : D1) : Option α:=l0 k (j1 Rt) k 0 a 0
def run:=top fuel (fun a=>some a)
def F : Fn:=fo [T6] T1 run
def w0 (k : Nat) (Nx : K S1 α) (Xt0 : K S2 α) : List (Nat × ee α):=[(32,.j S1 (j0 Nx))]
def w (k : Nat) (Rt : K S3 α) : List (Nat × ee α):=[(36,.j S2 (j1 Rt)),(37,.l S1 (l0 k (j1 Rt)) fun n=>w0 k (l0 k (j1 Rt) n) (j1 Rt))]
noncomputable def c : Cf:=cn 115 F ⟨Tryz.f115,[8,9],[dJ.c],[],[],[(2,1,2),(1,1,3),(4,25,3),(9,25,3),(21,25,3),(24,1,3)],[],[],0⟩ S3 top (fun a=>some a) w bY Tryz.func115
end Go.Bx.gp
namespace Go.Bx.pc
def S1 : Px:=⟨13,[sd 4 T7],[]⟩
def top (Rt : gI α) (b : D1) (a : Int) : Option α:=ite (0 <= (wrap .i64 (tdiv a 64)) /\ (wrap .i64 (tdiv a 64)) < (4 : Int)) (ite (0 <= (tmod a 64)) (Rt (cF .u64 (fh .u64 (b.getD (wrap .i64 (tdiv a 64)).toNat 0) (tmod a 64)) 1)) none) none
def run:=top (fun a=>some a)
def F : Fn:=fo [T6,T1] T7 run
noncomputable def c : Cf:=cn 116 F ⟨Tryz.f116,[],[],[],[],[(2,1,4)],[],[],0⟩ S1 (fun _=>top) (fun a=>some a) e0 bY Tryz.func116
end Go.Bx.pc
namespace Go.Bx.bL
def S1 : Px:=⟨58,[sr 4,sr 5,sd 6 T1],[sc 4 T6,sc 5 T6]⟩
def S2 : Px:=⟨58,[sr 2,sr 3,sr 4,sr 5,sd 7 T1],[sc 2 T6,sc 3 T6,sc 4 T6,sc 5 T6]⟩
def j0 (Nx : Lu α) : Lu α:=fun a b c d e=>Nx (wrap .i64 (a - 1)) b c d e
def S3 : Px:=⟨58,[sr 4,sr 5],[sc 4 T6,sc 5 T6]⟩
def bq (Nx : Lu α) (Xt0 : ff α) : Lu α:=fun a e c d f=>ite (decide (a >= 0)) ((fy.run f f).bind fun b=>(pc.run e a).bind fun g=>(if (b.2.1 == false) = true then cD.run (b.1.set 0 (jq .u64 (b.1.getD 0 0) g)) c else some 0).bind fun h=>ite (cond b.2.1 true (decide (h >= 0))) ((fO.run (b.1.set 0 (jq .u64 (b.1.getD 0 0) g)) c).bind fun i=>ite (0 <= (wrap .i64 (tdiv a 64)) /\ (wrap .i64 (tdiv a 64)) < (4 : Int)) (ite (0 <= (tmod a 64)) (ite (0 <= (wrap .i64 (tdiv a 64)) /\ (wrap .i64 (tdiv a 64)) < (4 : Int)) (j0 Nx a e c (d.set (wrap .i64 (tdiv a 64)).toNat (jq .u64 (d.getD (wrap .i64 (tdiv a 64)).toNat 0) (eR .u64 1 (tmod a 64)))) i.1) none) none) none) (j0 Nx a e c d (b.1.set 0 (jq .u64 (b.1.getD 0 0) g)))) (Xt0 d f)
def l0 (k : Nat) (Xt0 : ff α) : Nat->Lu α
 | 0=>kz (S:=S2)
 | n + 1=>bq (l0 k Xt0 n) Xt0
def j1 (Rt : tL α) : ff α:=fun a b=>Rt 0 a b
def top (k : Nat) (Rt : tL α) (a b : D1) : Option α:=ite (ax T6 b [0,0,0,0]) (Rt 7 [0,0,0,0] [0,0,0,0]) ((gp.run a).bind fun c=>l0 k (j1 Rt) k (wrap .i64 (c - 1)) a b [0,0,0,0] [0,0,0,0])
def run:=top fuel (fun a b c=>some (b,c,a,()))
def F : Fn:=fm [T6,T6] [T6,T6,T1] run
def w0 (k : Nat) (Nx : K S2 α) (Xt0 : K S3 α) : List (Nat × ee α):=[(24,.j S2 (j0 Nx))]
def w (k : Nat) (Rt : K S1 α) : List (Nat × ee α):=[(52,.j S3 (j1 Rt)),(49,.l S2 (l0 k (j1 Rt)) fun n=>w0 k (l0 k (j1 Rt) n) (j1 Rt))]
noncomputable def c : Cf:=cn 73 F ⟨Tryz.f73,[6,13],[cD.c,fy.c,fO.c,gp.c,pc.c],[],[],[(2,7,4),(1,3,4),(4,47,2),(12,47,2),(15,47,2),(36,3,4)],[],[],0⟩ S1 top (fun a b d=>some (b,d,a,())) w bY Tryz.func73
end Go.Bx.bL
namespace Go.Bx.cj
def S1 : Px:=⟨26,[sr 4,sr 5,sd 6 T1],[sc 4 T6,sc 5 T6]⟩
def top (Rt : tL α) (c a : D1) : Option α:=ite (ax T6 a [0,0,0,0]) (Rt 7 [0,0,0,0] [0,0,0,0]) ((aw.run c).bind fun d=>(aw.run a).bind fun e=>(aK.run d e).bind fun b=>(cd.run b.1).bind fun f=>(cd.run b.2.1).bind fun g=>Rt 0 f g)
def run:=top (fun a b c=>some (b,c,a,()))
def F : Fn:=fm [T6,T6] [T6,T6,T1] run
noncomputable def c : Cf:=cn 97 F ⟨Tryz.f97,[],[aw.c,cd.c,aK.c],[],[],[(2,7,4)],[],[],0⟩ S1 (fun _=>top) (fun a b d=>some (b,d,a,())) e0 bY Tryz.func97
end Go.Bx.cj
namespace Go.Bx.kf
def S1 : Px:=⟨29,[sr 6,sr 7],[sc 6 T6,sc 7 T6]⟩
def S2 : Px:=⟨29,[sr 6],[sc 6 T6]⟩
def j0 (Rt : cf α) : ff α:=fun b a=>Rt a
def top (Rt : cf α) (c d b : D1) : Option α:=(fy.run c d).bind fun a=>(if (a.2.1 == false) = true then cD.run a.1 b else some 0).bind fun e=>ite (cond a.2.1 true (decide (e >= 0))) ((fO.run a.1 b).bind fun f=>j0 Rt [0,0,0,0] f.1) (j0 Rt [0,0,0,0] a.1)
def run:=top (fun a=>some a)
def F : Fn:=fo [T6,T6,T6] T6 run
def w (k : Nat) (Rt : K S2 α) : List (Nat × ee α):=[(20,.j S1 (j0 Rt))]
noncomputable def c : Cf:=cn 210 F ⟨Tryz.f210,[5],[cD.c,fy.c,fO.c],[],[],[(2,1,6),(12,3,6)],[],[],0⟩ S2 (fun _=>top) (fun a=>some a) w bY Tryz.func210
end Go.Bx.kf
namespace Go.Bx.lh
def S1 : Px:=⟨23,[sr 6,sr 7],[sc 6 T6,sc 7 T6]⟩
def S2 : Px:=⟨23,[sr 6],[sc 6 T6]⟩
def j0 (Rt : cf α) : ff α:=fun b a=>Rt a
def top (Rt : cf α) (b c d : D1) : Option α:=(fO.run b c).bind fun a=>ite a.2.1 ((fy.run a.1 d).bind fun e=>j0 Rt [0,0,0,0] e.1) (j0 Rt [0,0,0,0] a.1)
def run:=top (fun a=>some a)
def F : Fn:=fo [T6,T6,T6] T6 run
def w (k : Nat) (Rt : K S2 α) : List (Nat × ee α):=[(20,.j S1 (j0 Rt))]
noncomputable def c : Cf:=cn 198 F ⟨Tryz.f198,[5],[fy.c,fO.c],[],[],[(2,1,6),(12,3,6)],[],[],0⟩ S2 (fun _=>top) (fun a=>some a) w bY Tryz.func198
end Go.Bx.lh
namespace Go.Bx.cT
def S1 : Px:=⟨21,[sd 4 T1],[]⟩
def S2 : Px:=⟨21,[sr 2,sd 10 Sl,sd 11 T1,sd 12 T1],[sc 2 T6]⟩
def S3 : Px:=⟨21,[],[]⟩
def bq (Nx : CI α) (Rt : gI α) (Xt0 : Option α) : CI α:=fun b c a d=>ite (decide (a < c)) (ite (0 <= a /\ a < (b.length : Int)) ((cD.run (b.getD a.toNat [0,0,0,0]) d).bind fun e=>ite (decide (e >= 0)) (Rt 6) (Nx b c (wrap .i64 (a + 1)) d)) none) (Xt0)
def l0 (k : Nat) (Rt : gI α) (Xt0 : Option α) : Nat->CI α
 | 0=>kz (S:=S2)
 | n + 1=>bq (l0 k Rt Xt0 n) Rt Xt0
def j0 (Rt : gI α) : Option α:=Rt 0
def top (k : Nat) (Rt : gI α) (a : D1) (b : D0) : Option α:=ite (ax T6 a [0,0,0,0]) (Rt 7) (l0 k Rt (j0 Rt) k b (b.length : Int) 0 a)
def run:=top fuel (fun a=>some a)
def F : Fn:=fo [T6,Sl] T1 run
def w (k : Nat) (Rt : K S1 α) : List (Nat × ee α):=[(40,.j S3 (j0 Rt)),(49,.l S2 (l0 k Rt (j0 Rt)) fun _=>[])]
noncomputable def c : Cf:=cn 197 F ⟨Tryz.f197,[10],[cD.c],[],[],[(2,1,4),(1,0,0),(4,1793,2),(12,1793,2),(27,0,0)],[],[],0⟩ S1 top (fun a=>some a) w bY Tryz.func197
end Go.Bx.cT
namespace Go.Bx.bN
def S1 : Px:=⟨16,[sr 4],[sc 4 T6]⟩
def top (Rt : cf α) (a b : D1) : Option α:=(aw.run b).bind fun c=>(aK.run a c).bind fun d=>(cd.run d.2.1).bind fun e=>Rt e
def run:=top (fun a=>some a)
def F : Fn:=fo [kN,T6] T6 run
noncomputable def c : Cf:=cn 186 F ⟨Tryz.f186,[],[aw.c,cd.c,aK.c],[],[],[(2,1,4)],[],[],0⟩ S1 (fun _=>top) (fun a=>some a) e0 bY Tryz.func186
end Go.Bx.bN
namespace Go.Bx.aJ
def S1 : Px:=⟨37,[sr 6],[sc 6 T6]⟩
def top (Rt : cf α) (b c a : D1) : Option α:=ite (cond ((jq .u64 (jq .u64 (a.getD 1 0) (a.getD 2 0)) (a.getD 3 0)) == 0) (decide ((a.getD 0 0) < 4294967296)) false) (ite ((a.getD 0 0) ≠ 0) (Rt [(tmod (wrap .u64 ((b.getD 0 0) * (c.getD 0 0))) (a.getD 0 0)),0,0,0]) none) ((aw.run b).bind fun d=>(aw.run c).bind fun e=>(aE.run d e).bind fun f=>(bN.run f a).bind fun g=>Rt g)
def run:=top (fun a=>some a)
def F : Fn:=fo [T6,T6,T6] T6 run
noncomputable def c : Cf:=cn 177 F ⟨Tryz.f177,[],[aw.c,aE.c,bN.c],[],[],[(2,1,6)],[],[],0⟩ S1 (fun _=>top) (fun a=>some a) e0 bY Tryz.func177
end Go.Bx.aJ
namespace Go.Bx.bC
def S1 : Px:=⟨14,[sr 6],[sc 6 T6]⟩
def top (Rt : cf α) (a b c : D1) : Option α:=(aw.run a).bind fun d=>(aw.run b).bind fun e=>(aH.run d e).bind fun f=>(bN.run f c).bind fun g=>Rt g
def run:=top (fun a=>some a)
def F : Fn:=fo [T6,T6,T6] T6 run
noncomputable def c : Cf:=cn 176 F ⟨Tryz.f176,[],[aH.c,aw.c,bN.c],[],[],[(2,1,6)],[],[],0⟩ S1 (fun _=>top) (fun a=>some a) e0 bY Tryz.func176
end Go.Bx.bC
namespace Go.Bx.aW
def S1 : Px:=⟨15,[sr 4],[sc 4 T6]⟩
def top (Rt : cf α) (a b : D1) : Option α:=ite (ax T6 a [0,0,0,0]) (Rt a) ((aw.run b).bind fun c=>(aw.run a).bind fun d=>(an.run c d).bind fun e=>(cd.run e).bind fun f=>Rt f)
def run:=top (fun a=>some a)
def F : Fn:=fo [T6,T6] T6 run
noncomputable def c : Cf:=cn 185 F ⟨Tryz.f185,[],[aw.c,cd.c,an.c],[],[],[(2,1,4)],[],[],0⟩ S1 (fun _=>top) (fun a=>some a) e0 bY Tryz.func185
end Go.Bx.aW
namespace Go.Bx.gr
def S1 : Px:=⟨14,[],[sc 0 T6,sc 1 T6,sc 2 T6]⟩
def top (Rt : uD α) (e : Bool) (c a b : D1) : Option α:=(kf.run c c a).bind fun d=>ite e ((kf.run d b a).bind fun f=>Rt f a b) (Rt d a b)
def run:=top (fun a b c=>some (a,b,c,()))
def Sp : Spec:=re [hD .bool,.ref 0 0 [],.ref 1 0 [],.ref 2 0 []] [(0,hC T6 (hD T6) false),(1,hC T6 (hD T6) false),(2,hC T6 (hD T6) false)] [.bool,T6,T6,T6] (.tup []) [(0,hC T6 (hD T6) false),(1,hC T6 (hD T6) false),(2,hC T6 (hD T6) false)] [T6,T6,T6] run
noncomputable def s : Sf:=sn 213 Sp ⟨Tryz.f213,[],[kf.c],[],[],[(2,0,0)],[],[],3⟩ S1 (fun _=>top) ri e0 bY Tryz.func213
end Go.Bx.gr
namespace Go.Bx.dE
def S1 : Px:=⟨39,[(1,.fn 213 [] [.ref 0 0 [],.ref 1 0 [],.ref 2 0 []]),st 2 5,sd 4 .bool,sd 5 T1],[sc 0 T6,sc 1 T6,sc 2 T6,sc 5 T6]⟩
def j0 (Nx : uP α) : uP α:=fun a b c d e f=>Nx a (wrap .i64 (b - 1)) c d e f
def S2 : Px:=⟨39,[(1,.fn 213 [] [.ref 0 0 [],.ref 1 0 [],.ref 2 0 []]),st 2 5,sd 4 .bool,sd 5 T1,sd 6 T1],[sc 0 T6,sc 1 T6,sc 2 T6,sc 5 T6]⟩
def j1 (Nx : Ax α) : Ax α:=fun a b c d e f g=>Nx a b (wrap .i64 (c - 1)) d e f g
def me (Nx : Ax α) (Xt2 : uP α) : Ax α:=fun d a b e f g c=>ite (decide (b >= 0)) (ite (0 <= a /\ a < (4 : Int)) (ite (0 <= b) (ite (cond d true ((cF .u64 (fh .u64 (c.getD a.toNat 0) b) 1) == 1)) ((gr.run ((cF .u64 (fh .u64 (c.getD a.toNat 0) b) 1) == 1) e f g).bind fun h=>j1 Nx (cond d true ((cF .u64 (fh .u64 (c.getD a.toNat 0) b) 1) == 1)) a b h.1 h.2.1 h.2.2.1 c) (j1 Nx (cond d true ((cF .u64 (fh .u64 (c.getD a.toNat 0) b) 1) == 1)) a b e f g c)) none) none) (Xt2 d a e f g c)
def l1 (k : Nat) (Xt2 : uP α) : Nat->Ax α
 | 0=>kz (S:=S2)
 | n + 1=>me (l1 k Xt2 n) Xt2
def S3 : Px:=⟨39,[],[sc 0 T6,sc 1 T6,sc 2 T6]⟩
def bq (k : Nat) (Nx : uP α) (Xt0 : uD α) : uP α:=fun b a c d e f=>ite (decide (a >= 0)) (ite (0 <= a /\ a < (4 : Int)) (ite (cond ((f.getD a.toNat 0) == 0) (not b) false) (j0 Nx b a c d e f) (l1 k (j0 Nx) k b a 63 c d e f)) none) (Xt0 c d e)
def l0 (k : Nat) (Xt0 : uD α) : Nat->uP α
 | 0=>kz (S:=S1)
 | n + 1=>bq k (l0 k Xt0 n) Xt0
def top (k : Nat) (Rt : uD α) (a b : D1) (c d : D1) : Option α:=l0 k Rt k false 3 b c d a
def run:=top fuel (fun a b c=>some (a,b,c,()))
def Sp : Spec:=re [hD T6,.fn 213 [] [.ref 0 0 [],.ref 1 0 [],.ref 2 0 []]] [(0,hC T6 (hD T6) false),(1,hC T6 (hD T6) false),(2,hC T6 (hD T6) false)] [T6,T6,T6,T6] (.tup []) [(0,hC T6 (hD T6) false),(1,hC T6 (hD T6) false),(2,hC T6 (hD T6) false)] [T6,T6,T6] run
def w1 (k : Nat) (Nx : K S2 α) (Xt2 : K S1 α) : List (Nat × ee α):=[(36,.j S2 (j1 Nx))]
def w0 (k : Nat) (Nx : K S1 α) (Xt0 : K S3 α) : List (Nat × ee α):=[(20,.j S1 (j0 Nx)),(85,.l S2 (l1 k (j0 Nx)) fun n=>w1 k (l1 k (j0 Nx) n) (j0 Nx))]
def w (k : Nat) (Rt : K S3 α) : List (Nat × ee α):=[(37,.l S1 (l0 k Rt) fun n=>w0 k (l0 k Rt n) Rt)]
noncomputable def s : Sf:=sn 211 Sp ⟨Tryz.f211,[5,9],[],[gr.s],[(38,40)],[(2,0,0),(1,0,0),(4,27,1),(7,27,1),(10,59,1),(9,27,1),(12,27,1),(21,59,1),(24,59,1)],[],[],3⟩ S3 top ri w bY Tryz.func211
end Go.Bx.dE
namespace Go.Bx.iV
def S1 : Px:=⟨12,[sr 6],[sc 6 T6]⟩
def top (Rt : cf α) (a b c : D1) : Option α:=(dE.run b [0,0,0,0] c a).bind fun d=>Rt d.1
def run:=top (fun a=>some a)
def F : Fn:=fo [T6,T6,T6] T6 run
noncomputable def c : Cf:=cn 199 F ⟨Tryz.f199,[],[],[dE.s],[(10,13)],[(2,1,6)],[],[],0⟩ S1 (fun _=>top) (fun a=>some a) e0 bY Tryz.func199
end Go.Bx.iV
namespace Go.Bx.gH
def S1 : Px:=⟨66,[sr 4,sd 5 T1],[sc 4 T6]⟩
def S2 : Px:=⟨66,[sr 3,sr 4,sr 8,sr 10,sr 11,sr 12],[sc 3 T6,sc 4 T6,sc 8 T6,sc 10 T6,sc 11 T6,sc 12 T6]⟩
def S3 : Px:=⟨66,[sr 4,sr 10,sr 12],[sc 4 T6,sc 10 T6,sc 12 T6]⟩
def bq (Nx : Qs α) (Xt0 : uD α) : Qs α:=fun a c d e b f=>ite (not (ax T6 b [0,0,0,0])) ((bL.run e b).bind fun g=>(bL.run g.1 a).bind fun h=>(iV.run h.2.1 d a).bind fun i=>(lh.run f i a).bind fun j=>Nx a c j b g.2.1 d) (Xt0 c e f)
def l0 (k : Nat) (Xt0 : uD α) : Nat->Qs α
 | 0=>kz (S:=S2)
 | n + 1=>bq (l0 k Xt0 n) Xt0
def j0 (Rt : jJ α) : uD α:=fun c a b=>ite (not (ax T6 a [1,0,0,0])) (Rt 5 [0,0,0,0]) (Rt 0 b)
def top (k : Nat) (Rt : jJ α) (b a : D1) : Option α:=(cT.run a [b]).bind fun c=>ite (c != 0) (Rt c [0,0,0,0]) ((bL.run [1,0,0,0] a).bind fun d=>l0 k (j0 Rt) k a [0,0,0,0] d.2.1 a b [0,0,0,0])
def run:=top fuel (fun a b=>some (b,a,()))
def F : Fn:=fm [T6,T6] [T6,T1] run
def w (k : Nat) (Rt : K S1 α) : List (Nat × ee α):=[(48,.j S3 (j0 Rt)),(73,.l S2 (l0 k (j0 Rt)) fun _=>[])]
noncomputable def c : Cf:=cn 165 F ⟨Tryz.f165,[12],[bL.c,cT.c,lh.c,iV.c],[],[],[(2,3,4),(1,321,4),(4,931,3),(18,931,3),(33,321,4)],[],[],0⟩ S1 top (fun a b=>some (b,a,())) w bY Tryz.func165
end Go.Bx.gH
namespace Go.Bx.dD
def Js : List Nat:=[]
def FR (R : D1->D1->Option EJ) : Fn:=⟨Ud,Uf,true,fun x=>R x.1 x.2.1⟩
def C (R : D1->D1->Option EJ) : Ctx:=⟨[(4,.bool),(24,T6),(136,kN)],[],[],Pc [(89,aH.F),(90,aw.F),(97,cj.F),(133,an.F),(136,aK.F),(148,aE.F),(183,FR R),(185,aW.F),(186,bN.F)],KA,[],CE [],[(2,[4,5])],[],[],0,0⟩
def HW (a b : D1) : St:=BQ 67 [(0,.data T6 a),(1,.data T6 b)] []
def AQ (a : Bool) (b : D1) : St:=BQ 67 [(4,.ref 4 0 []),(5,.data .bool a)] [(4,.cell T6 (.data T6 b) false)]
def top (R : D1->D1->Option EJ) (Rt : Bool->D1->Option α) (a b : D1) : Option α :=
 if (ax T6 b [1,0,0,0]) = true then
  Rt true [0,0,0,0]
 else
  if (ax T6 a [0,0,0,0]) = true then
   Rt false [0,0,0,0]
  else
   if (ax T6 a [1,0,0,0]) = true then
    Rt true a
   else
    (cj.run b a).bind fun c =>
    (R c.2.1 a).bind fun d =>
    if (not d.2.1) = true then
     Rt false [0,0,0,0]
    else
     (aw.run c.2.1).bind fun e =>
     (aw.run d.1).bind fun f =>
     (aE.run e f).bind fun g =>
     (an.run g [1]).bind fun h =>
     (aw.run a).bind fun i =>
     (aK.run h i).bind fun j =>
     (aw.run c.1).bind fun k =>
     (aw.run d.1).bind fun l =>
     (aE.run k l).bind fun m =>
     (aH.run m j.1).bind fun n =>
     (bN.run n b).bind fun o =>
     (aW.run o b).bind fun p =>
     Rt true p
theorem tG (R : D1->D1->Option EJ) (k : Nat) (Q : Ex->St->Option α) (a b : D1) :
  (den (C R) k) (cB Tryz.f183) Q (HW a b) = top R (fun c d=>Q .ret (AQ c d)) a b:=rZ Js (by kernel_rfl)
def runN : Nat->D1->D1->Option EJ
 | 0=>fun _ _=>none
 | n + 1=>fun a b=>top (runN n) (α:=List Int × Bool × Unit) (fun c d=>some (d,c,())) a b
def run (a b : D1) : Option EJ:=runN fuel a b
def F : Fn:=FR (runN fuel)
theorem named : mW Tryz.prog 183:=oY Tryz.func183 (by kernel_rfl) (by kernel_rfl)
set_option maxRecDepth 100000 in
theorem Rf : ∀ n,Kp Tryz.prog 183 (FR (runN n))
 | 0=>fun w I x r args hI h=>by cases h
 | n + 1=>by
  refine tR (C:=C (runN n)) (yV (by kernel_rfl) (by kernel_rfl) (by kernel_rfl) (by kernel_rfl) ⟨aH.c.ok,⟨aw.c.ok,⟨cj.c.ok,⟨an.c.ok,⟨aK.c.ok,⟨aE.c.ok,⟨.inl ⟨Rf n,named⟩,⟨aW.c.ok,⟨bN.c.ok,trivial⟩⟩⟩⟩⟩⟩⟩⟩⟩) (by kernel_rfl) Tryz.func183 (c:=cB Tryz.f183) (by kernel_rfl) (by kernel_rfl) (FR (runN (n + 1))) fuel (fun x=>by rw [nb]; exact Nat.le_of_ble_eq_true (by kernel_rfl)) ?_
  intro x r h
  rw [<- h]
  have h1 : start (FR (runN (n + 1))) Tryz.f183.ntmps x = (HW x.1 x.2.1):=by kernel_rfl
  rw [h1]
  refine (tG (runN n) fuel (fin (C (runN n)) Tryz.f183.results.toList (FR (runN (n + 1))).rs (FR (runN (n + 1))).multi) x.1 x.2.1).trans ?_
  kernel_rfl
theorem Sg : Kp Tryz.prog 183 F /\ mW Tryz.prog 183:=⟨Rf fuel,named⟩
noncomputable def c : Cf:=co 183 F Sg
end Go.Bx.dD
namespace Go.Bx.mF
def S1 : Px:=⟨25,[sr 8,sd 9 T1],[sc 8 T6]⟩
def top (Rt : jJ α) (a b c : D1) : Option α:=(cT.run c [a,b]).bind fun d=>ite (d != 0) (Rt d [0,0,0,0]) ((iV.run a b c).bind fun e=>Rt 0 e)
def run:=top (fun b a=>some (a,b,a,()))
def Sp : Spec:=re [.fn 199 [] [],hD T6,hD T6,hD T6] [] [T6,T6,T6] (.tup [hD T6,hD T1]) [(8,hC T6 (hD T6) false)] [T6,T1,T6] run
noncomputable def s : Sf:=sn 200 Sp ⟨Tryz.f200,[],[cT.c,iV.c],[],[],[(2,3,8)],[],[],0⟩ S1 (fun _=>top) (fun b a=>some (a,b,a,())) e0 bY Tryz.func200
end Go.Bx.mF
namespace Go.Bx.ke
def S1 : Px:=⟨14,[sr 6,sd 7 T1],[sc 6 T6]⟩
def top (Rt : jJ α) (b c d : D1) : Option α:=(mF.run b c d).bind fun a=>Rt a.2.1 a.1
def run:=top (fun a b=>some (b,a,()))
def F : Fn:=fm [T6,T6,T6] [T6,T1] run
noncomputable def c : Cf:=cn 166 F ⟨Tryz.f166,[],[],[mF.s],[(11,15)],[(2,3,6)],[],[],0⟩ S1 (fun _=>top) (fun a b=>some (b,a,())) e0 bY Tryz.func166
end Go.Bx.ke
namespace Go.Bx.bP
def S1 : Px:=⟨13,[st 4 5,st 6 7],[sc 0 .bool,sc 5 T6,sc 7 T6]⟩
def S2 : Px:=⟨13,[st 6 7],[sc 0 .bool,sc 7 T6]⟩
def j0 (Rt : FK α) : OE α:=fun a b c=>Rt a b
def top (Rt : FK α) (d a : D1) (b : Int) (c : Bool) : Option α:=ite (b != 0) (j0 Rt true a [0,0,0,0]) (j0 Rt c a [0,0,0,0])
def run:=top (fun b a=>some (a,b,a,()))
def Sp : Spec:=re [GX,hD T6,hD T1] [(0,hC .bool (hD .bool) false)] [T6,T6,T1,.bool] (hD T6) [(0,hC .bool (hD .bool) false),(7,hC T6 (hD T6) false)] [T6,.bool,T6] run
def w (k : Nat) (Rt : K S2 α) : List (Nat × ee α):=[(16,.j S1 (j0 Rt))]
noncomputable def s : Sf:=sn 191 Sp ⟨Tryz.f191,[4],[],[],[],[(2,1,6),(9,5,4)],[],[],1⟩ S2 (fun _=>top) (fun b a=>some (a,b,a,())) w bY Tryz.func191
end Go.Bx.bP
namespace Go.Bx.aR
def S1 : Px:=⟨16,[st 6 7],[sc 0 .bool,sc 7 T6]⟩
def top (Rt : FK α) (a d e : D1) (f : Bool) : Option α:=(ke.run d e a).bind fun b=>(bP.run a b.1 b.2.1 f).bind fun c=>Rt c.2.1 c.1
def run:=top (fun b a=>some (a,b,a,()))
def Sp : Spec:=re [GX,hD T6,hD T6] [(0,hC .bool (hD .bool) false)] [T6,T6,T6,.bool] (hD T6) [(0,hC .bool (hD .bool) false),(7,hC T6 (hD T6) false)] [T6,.bool,T6] run
noncomputable def s : Sf:=sn 159 Sp ⟨Tryz.f159,[],[ke.c],[bP.s],[(15,17)],[(2,1,6)],[],[],1⟩ S1 (fun _=>top) (fun b a=>some (a,b,a,())) e0 bY Tryz.func159
end Go.Bx.aR
namespace Go.Bx.mH
def S1 : Px:=⟨25,[sr 8,sd 9 T1],[sc 8 T6]⟩
def top (Rt : jJ α) (a b c : D1) : Option α:=(cT.run c [a,b]).bind fun d=>ite (d != 0) (Rt d [0,0,0,0]) ((kf.run a b c).bind fun e=>Rt 0 e)
def run:=top (fun b a=>some (a,b,a,()))
def Sp : Spec:=re [.fn 210 [] [],hD T6,hD T6,hD T6] [] [T6,T6,T6] (.tup [hD T6,hD T1]) [(8,hC T6 (hD T6) false)] [T6,T1,T6] run
noncomputable def s : Sf:=sn 200 Sp ⟨Tryz.f200,[],[cT.c,kf.c],[],[],[(2,3,8)],[],[],0⟩ S1 (fun _=>top) (fun b a=>some (a,b,a,())) e0 bY Tryz.func200
end Go.Bx.mH
namespace Go.Bx.np
def S1 : Px:=⟨14,[sr 6,sd 7 T1],[sc 6 T6]⟩
def top (Rt : jJ α) (b c d : D1) : Option α:=(mH.run b c d).bind fun a=>Rt a.2.1 a.1
def run:=top (fun a b=>some (b,a,()))
def F : Fn:=fm [T6,T6,T6] [T6,T1] run
noncomputable def c : Cf:=cn 192 F ⟨Tryz.f192,[],[],[mH.s],[(11,15)],[(2,3,6)],[],[],0⟩ S1 (fun _=>top) (fun a b=>some (b,a,())) e0 bY Tryz.func192
end Go.Bx.np
namespace Go.Bx.cg
def S1 : Px:=⟨16,[st 6 7],[sc 0 .bool,sc 7 T6]⟩
def top (Rt : FK α) (a d e : D1) (f : Bool) : Option α:=(np.run d e a).bind fun b=>(bP.run a b.1 b.2.1 f).bind fun c=>Rt c.2.1 c.1
def run:=top (fun b a=>some (a,b,a,()))
def Sp : Spec:=re [GX,hD T6,hD T6] [(0,hC .bool (hD .bool) false)] [T6,T6,T6,.bool] (hD T6) [(0,hC .bool (hD .bool) false),(7,hC T6 (hD T6) false)] [T6,.bool,T6] run
noncomputable def s : Sf:=sn 161 Sp ⟨Tryz.f161,[],[np.c],[bP.s],[(15,17)],[(2,1,6)],[],[],1⟩ S1 (fun _=>top) (fun b a=>some (a,b,a,())) e0 bY Tryz.func161
end Go.Bx.cg
namespace Go.Bx.my
def S1 : Px:=⟨25,[sr 8,sd 9 T1],[sc 8 T6]⟩
def top (Rt : jJ α) (a b c : D1) : Option α:=(cT.run c [a,b]).bind fun d=>ite (d != 0) (Rt d [0,0,0,0]) ((lh.run a b c).bind fun e=>Rt 0 e)
def run:=top (fun b a=>some (a,b,a,()))
def Sp : Spec:=re [.fn 198 [] [],hD T6,hD T6,hD T6] [] [T6,T6,T6] (.tup [hD T6,hD T1]) [(8,hC T6 (hD T6) false)] [T6,T1,T6] run
noncomputable def s : Sf:=sn 200 Sp ⟨Tryz.f200,[],[cT.c,lh.c],[],[],[(2,3,8)],[],[],0⟩ S1 (fun _=>top) (fun b a=>some (a,b,a,())) e0 bY Tryz.func200
end Go.Bx.my
namespace Go.Bx.km
def S1 : Px:=⟨14,[sr 6,sd 7 T1],[sc 6 T6]⟩
def top (Rt : jJ α) (b c d : D1) : Option α:=(my.run b c d).bind fun a=>Rt a.2.1 a.1
def run:=top (fun a b=>some (b,a,()))
def F : Fn:=fm [T6,T6,T6] [T6,T1] run
noncomputable def c : Cf:=cn 168 F ⟨Tryz.f168,[],[],[my.s],[(11,15)],[(2,3,6)],[],[],0⟩ S1 (fun _=>top) (fun a b=>some (b,a,())) e0 bY Tryz.func168
end Go.Bx.km
namespace Go.Bx.cZ
def S1 : Px:=⟨16,[st 6 7],[sc 0 .bool,sc 7 T6]⟩
def top (Rt : FK α) (a d e : D1) (f : Bool) : Option α:=(km.run d e a).bind fun b=>(bP.run a b.1 b.2.1 f).bind fun c=>Rt c.2.1 c.1
def run:=top (fun b a=>some (a,b,a,()))
def Sp : Spec:=re [GX,hD T6,hD T6] [(0,hC .bool (hD .bool) false)] [T6,T6,T6,.bool] (hD T6) [(0,hC .bool (hD .bool) false),(7,hC T6 (hD T6) false)] [T6,.bool,T6] run
noncomputable def s : Sf:=sn 218 Sp ⟨Tryz.f218,[],[km.c],[bP.s],[(15,17)],[(2,1,6)],[],[],1⟩ S1 (fun _=>top) (fun b a=>some (a,b,a,())) e0 bY Tryz.func218
end Go.Bx.cZ
namespace Go.Bx.fX
def S1 : Px:=⟨13,[st 4 5],[sc 0 .bool,sc 5 T6]⟩
def top (Rt : FK α) (a d : D1) (e : Bool) : Option α:=(gH.run d a).bind fun b=>(bP.run a b.1 b.2.1 e).bind fun c=>Rt c.2.1 c.1
def run:=top (fun b a=>some (a,b,a,()))
def Sp : Spec:=re [GX,hD T6] [(0,hC .bool (hD .bool) false)] [T6,T6,.bool] (hD T6) [(0,hC .bool (hD .bool) false),(5,hC T6 (hD T6) false)] [T6,.bool,T6] run
noncomputable def s : Sf:=sn 219 Sp ⟨Tryz.f219,[],[gH.c],[bP.s],[(12,14)],[(2,1,4)],[],[],1⟩ S1 (fun _=>top) (fun b a=>some (a,b,a,())) e0 bY Tryz.func219
end Go.Bx.fX
namespace Go.Bx.dz
def S1 : Px:=⟨18,[st 4 5],[sc 0 .bool,sc 5 T6]⟩
def top (Rt : FK α) (a : D1) (b : Int) (c : Bool) : Option α:=(bL.run [b,0,0,0] a).bind fun d=>Rt c d.2.1
def run:=top (fun b a=>some (a,b,a,()))
def Sp : Spec:=re [GX,hD T7] [(0,hC .bool (hD .bool) false)] [T6,T7,.bool] (hD T6) [(0,hC .bool (hD .bool) false),(5,hC T6 (hD T6) false)] [T6,.bool,T6] run
noncomputable def s : Sf:=sn 160 Sp ⟨Tryz.f160,[],[bL.c],[],[],[(2,1,4)],[],[],1⟩ S1 (fun _=>top) (fun b a=>some (a,b,a,())) e0 bY Tryz.func160
end Go.Bx.dz
namespace Go.Bx.gk
def S1 : Px:=⟨12,[sr 4],[sc 4 T6]⟩
def top (Rt : cf α) (a : Int) (b : D1) : Option α:=(bN.run [(tmod a 4294967296),(wrap .u64 (tdiv a 4294967296))] b).bind fun c=>Rt c
def run:=top (fun a=>some a)
def F : Fn:=fo [T7,T6] T6 run
noncomputable def c : Cf:=cn 178 F ⟨Tryz.f178,[],[bN.c],[],[],[(2,1,4)],[],[],0⟩ S1 (fun _=>top) (fun a=>some a) e0 bY Tryz.func178
end Go.Bx.gk
namespace Go.Bx.aB
def S1 : Px:=⟨6,[sd 2 .bool],[]⟩
def top (Rt : kF α) (a : D1) : Option α:=Rt (ax T6 a [0,0,0,0])
def run:=top (fun a=>some a)
def F : Fn:=fo [T6] .bool run
noncomputable def c : Cf:=cn 46 F ⟨Tryz.f46,[],[],[],[],[(2,1,2)],[],[],0⟩ S1 (fun _=>top) (fun a=>some a) e0 bY Tryz.func46
end Go.Bx.aB
namespace Go.Bx.bw
def S1 : Px:=⟨37,[sr 3,sr 5,sr 6,sr 7,sd 14 T6,sd 15 T1],[sc 3 T6,sc 5 T6,sc 6 T6,sc 7 T6]⟩
def S2 : Px:=⟨37,[sr 3,sr 5,sr 6,sr 7,sd 9 T7,sd 10 T1,sd 14 T6,sd 15 T1],[sc 3 T6,sc 5 T6,sc 6 T6,sc 7 T6]⟩
def j0 (Nx : Fh α) : Fh α:=fun c d e f a b g h=>(aJ.run a a b).bind fun i=>Nx c (wrap .i64 (d + 1)) e f i b g h
def me (Nx : Fh α) (Xt2 : vA α) : Fh α:=fun d a e f b c g h=>ite (decide (a < 64)) (ite (0 <= a) (ite ((cF .u64 (fh .u64 d a) 1) == 1) ((aJ.run h b c).bind fun i=>j0 Nx d a e f b c g i) (j0 Nx d a e f b c g h)) none) (Xt2 e f b c g h)
def l1 (k : Nat) (Xt2 : vA α) : Nat->Fh α
 | 0=>kz (S:=S2)
 | n + 1=>me (l1 k Xt2 n) Xt2
def j1 (Nx : vA α) : vA α:=fun a b c d e f=>Nx a (wrap .i64 (b + 1)) c d e f
def S3 : Px:=⟨37,[sr 6,sr 7],[sc 6 T6,sc 7 T6]⟩
def bq (k : Nat) (Nx : vA α) (Xt0 : ff α) : vA α:=fun b a e f c d=>ite (decide (a < 4)) (ite (0 <= a /\ a < (4 : Int)) (l1 k (j1 Nx) k (b.getD a.toNat 0) 0 b a e f c d) none) (Xt0 c d)
def l0 (k : Nat) (Xt0 : ff α) : Nat->vA α
 | 0=>kz (S:=S1)
 | n + 1=>bq k (l0 k Xt0 n) Xt0
def S4 : Px:=⟨37,[sr 6],[sc 6 T6]⟩
def j2 (Rt : cf α) : ff α:=fun b a=>Rt a
def top (k : Nat) (Rt : cf α) (b c a : D1) : Option α:=(bN.run [1] a).bind fun d=>l0 k (j2 Rt) k c 0 b a [0,0,0,0] d
def run:=top fuel (fun a=>some a)
def F : Fn:=fo [T6,T6,T6] T6 run
def w1 (k : Nat) (Nx : K S2 α) (Xt2 : K S1 α) : List (Nat × ee α):=[(44,.j S2 (j0 Nx))]
def w0 (k : Nat) (Nx : K S1 α) (Xt0 : K S3 α) : List (Nat × ee α):=[(48,.j S1 (j1 Nx)),(73,.l S2 (l1 k (j1 Nx)) fun n=>w1 k (l1 k (j1 Nx) n) (j1 Nx))]
def w (k : Nat) (Rt : K S4 α) : List (Nat × ee α):=[(52,.j S3 (j2 Rt)),(37,.l S1 (l0 k (j2 Rt)) fun n=>w0 k (l0 k (j2 Rt) n) (j2 Rt))]
noncomputable def c : Cf:=cn 179 F ⟨Tryz.f179,[11,12,13],[aJ.c,bN.c],[],[],[(2,1,6),(1,3,6),(4,6173,3),(7,6173,3),(10,6365,3),(9,6173,3),(18,6365,3),(30,6365,3),(33,6173,3),(36,3,6)],[],[],0⟩ S4 top (fun a=>some a) w bY Tryz.func179
end Go.Bx.bw
namespace Go.Bx.bZ
def S1 : Px:=⟨7,[sr 2],[se 2 PU (Qg),sc 5 .bool]⟩
def top (Rt : TE α) (a : iu) : Option α:=Rt a.1 false
def run:=top (fun a b=>some (a,a,b,()))
def Sp : Spec:=re [hD jk] [] [jk] (Qg) [(2,hC PU (Qg) false),(5,hC .bool (hD .bool) false)] [T6,T6,.bool] run
noncomputable def s : Sf:=sn 158 Sp ⟨Tryz.f158,[],[],[],[],[(2,1,2)],[],[],0⟩ S1 (fun _=>top) (fun a b=>some (a,a,b,())) e0 bY Tryz.func158
end Go.Bx.bZ
namespace Go.Bx.hU
def S1 : Px:=⟨25,[st 6 7],[sc 0 .bool,sc 7 T6]⟩
def top (Rt : FK α) (c : iu) (a b : D1) (i : Bool) : Option α:=(aR.run a b b i).bind fun d=>(aR.run a b d.1 d.2.1).bind fun e=>(aR.run a c.2.1 b e.2.1).bind fun f=>(cg.run a e.1 f.1 f.2.1).bind fun g=>(cg.run a g.1 c.2.2.1 g.2.1).bind fun h=>Rt h.2.1 h.1
def run:=top (fun b a=>some (a,b,a,()))
def Sp : Spec:=re [hD jk,GX,hD T6] [(0,hC .bool (hD .bool) false)] [jk,T6,T6,.bool] (hD T6) [(0,hC .bool (hD .bool) false),(7,hC T6 (hD T6) false)] [T6,.bool,T6] run
noncomputable def s : Sf:=sn 193 Sp ⟨Tryz.f193,[],[],[aR.s,cg.s],[(14,26),(15,27),(20,28),(21,29),(24,30)],[(2,1,6)],[],[],1⟩ S1 (fun _=>top) (fun b a=>some (a,b,a,())) e0 bY Tryz.func193
end Go.Bx.hU
namespace Go.Bx.kH
def S1 : Px:=⟨46,[sd 4 .bool],[]⟩
def top (Rt : kF α) (b : iu) (a : oQ) : Option α:=ite a.2.2.1 (Rt (cond (ax T6 a.1 [0,0,0,0]) (ax T6 a.2.1 [0,0,0,0]) false)) ((cD.run a.1 b.1).bind fun d=>(if ((decide (d >= 0)) == false) = true then cD.run a.2.1 b.1 else some 0).bind fun f=>ite (cond (decide (d >= 0)) true (decide (f >= 0))) (Rt false) ((bZ.run b).bind fun c=>(aR.run c.1 a.2.1 a.2.1 c.2.2.1).bind fun e=>(hU.run b c.1 a.1 e.2.1).bind fun g=>Rt (ax T6 e.1 g.1)))
def run:=top (fun a=>some a)
def F : Fn:=fo [jk,ki] .bool run
noncomputable def c : Cf:=cn 162 F ⟨Tryz.f162,[],[cD.c],[bZ.s,aR.s,hU.s],[(33,47),(39,49),(44,50)],[(2,1,4)],[],[],0⟩ S1 (fun _=>top) (fun a=>some a) e0 bY Tryz.func162
end Go.Bx.kH
namespace Go.Bx.fK
def S1 : Px:=⟨85,[sd 2 T1],[]⟩
def top (Rt : gI α) (a : iu) : Option α:=(cD.run a.1 [3,0,0,0]).bind fun c=>(if ((cond (decide (c <= 0)) true ((tmod (a.1.getD 0 0) 4) != 3)) == false) = true then cD.run a.2.1 a.1 else some 0).bind fun d=>(if ((cond (cond (decide (c <= 0)) true ((tmod (a.1.getD 0 0) 4) != 3)) true (decide (d >= 0))) == false) = true then cD.run a.2.2.1 a.1 else some 0).bind fun e=>(if ((cond (cond (cond (decide (c <= 0)) true ((tmod (a.1.getD 0 0) 4) != 3)) true (decide (d >= 0))) true (decide (e >= 0))) == false) = true then cD.run a.2.2.2.1 [1,0,0,0] else some 0).bind fun n=>ite (cond (cond (cond (cond (decide (c <= 0)) true ((tmod (a.1.getD 0 0) 4) != 3)) true (decide (d >= 0))) true (decide (e >= 0))) true (decide (n <= 0))) (Rt 16) ((bZ.run a).bind fun b=>(dz.run b.1 4 b.2.2.1).bind fun f=>(aR.run b.1 a.2.1 a.2.1 f.2.1).bind fun g=>(aR.run b.1 a.2.1 g.1 g.2.1).bind fun h=>(aR.run b.1 f.1 h.1 h.2.1).bind fun i=>(dz.run b.1 27 i.2.1).bind fun j=>(aR.run b.1 a.2.2.1 a.2.2.1 j.2.1).bind fun k=>(aR.run b.1 j.1 k.1 k.2.1).bind fun l=>(cg.run b.1 i.1 l.1 l.2.1).bind fun m=>(if ((cond (ax T6 m.1 [0,0,0,0]) true a.2.2.2.2.1.2.2.1) == false) = true then kH.run a a.2.2.2.2.1 else some false).bind fun o=>ite (cond (cond (ax T6 m.1 [0,0,0,0]) true a.2.2.2.2.1.2.2.1) true (not o)) (Rt 16) (Rt 0))
def run:=top (fun a=>some a)
def F : Fn:=fo [jk] T1 run
noncomputable def c : Cf:=cn 125 F ⟨Tryz.f125,[],[cD.c,kH.c],[bZ.s,aR.s,dz.s,cg.s],[(42,86),(45,88),(54,89),(55,90),(56,91),(59,92),(65,93),(66,94),(70,95)],[(2,1,2)],[],[],0⟩ S1 (fun _=>top) (fun a=>some a) e0 bY Tryz.func125
end Go.Bx.fK
namespace Go.Bx.fl
def S1 : Px:=⟨24,[sr 4],[sc 4 T6]⟩
def top (Rt : cf α) (a : iu) (b : D1) : Option α:=(aJ.run b b a.1).bind fun c=>(bC.run c a.2.1 a.1).bind fun d=>(aJ.run b d a.1).bind fun e=>(bC.run e a.2.2.1 a.1).bind fun f=>Rt f
def run:=top (fun a=>some a)
def F : Fn:=fo [jk,T6] T6 run
noncomputable def c : Cf:=cn 205 F ⟨Tryz.f205,[],[bC.c,aJ.c],[],[],[(2,1,4)],[],[],0⟩ S1 (fun _=>top) (fun a=>some a) e0 bY Tryz.func205
end Go.Bx.fl
namespace Go.Bx.fL
def S1 : Px:=⟨43,[sd 4 .bool],[]⟩
def top (Rt : kF α) (b : iu) (a : oQ) : Option α:=ite a.2.2.1 ((aB.run a.1).bind fun e=>(if (e == true) = true then aB.run a.2.1 else some false).bind fun f=>Rt (cond e f false)) ((aF.run a.1 b.1).bind fun c=>(if ((decide (c < 0)) == true) = true then aF.run a.2.1 b.1 else some 0).bind fun d=>(if ((cond (decide (c < 0)) (decide (d < 0)) false) == true) = true then aJ.run a.2.1 a.2.1 b.1 else some [0,0,0,0]).bind fun g=>(if ((cond (decide (c < 0)) (decide (d < 0)) false) == true) = true then fl.run b a.1 else some [0,0,0,0]).bind fun h=>Rt (cond (cond (decide (c < 0)) (decide (d < 0)) false) (ax T6 g h) false))
def run:=top (fun a=>some a)
def F : Fn:=fo [jk,ki] .bool run
noncomputable def c : Cf:=cn 180 F ⟨Tryz.f180,[],[aB.c,aF.c,aJ.c,fl.c],[],[],[(2,1,4)],[],[],0⟩ S1 (fun _=>top) (fun a=>some a) e0 bY Tryz.func180
end Go.Bx.fL
namespace Go.Bx.cH
def S1 : Px:=⟨83,[sd 2 T1],[]⟩
def top (Rt : gI α) (a : iu) : Option α:=(aF.run a.1 [3,0,0,0]).bind fun b=>(if ((cond (decide (b > 0)) ((cF .u64 (a.1.getD 0 0) 3) == 3) false) == true) = true then aF.run a.2.1 a.1 else some 0).bind fun c=>(if ((cond (cond (decide (b > 0)) ((cF .u64 (a.1.getD 0 0) 3) == 3) false) (decide (c < 0)) false) == true) = true then aF.run a.2.2.1 a.1 else some 0).bind fun d=>(if ((cond (cond (cond (decide (b > 0)) ((cF .u64 (a.1.getD 0 0) 3) == 3) false) (decide (c < 0)) false) (decide (d < 0)) false) == true) = true then aF.run a.2.2.2.1 [1,0,0,0] else some 0).bind fun f=>ite (not (cond (cond (cond (cond (decide (b > 0)) ((cF .u64 (a.1.getD 0 0) 3) == 3) false) (decide (c < 0)) false) (decide (d < 0)) false) (decide (f > 0)) false)) (Rt 16) ((gk.run 4 a.1).bind fun g=>(bw.run a.2.1 [3,0,0,0] a.1).bind fun h=>(aJ.run g h a.1).bind fun i=>(gk.run 27 a.1).bind fun j=>(bw.run a.2.2.1 [2,0,0,0] a.1).bind fun k=>(aJ.run j k a.1).bind fun l=>(bC.run i l a.1).bind fun m=>(aB.run m).bind fun e=>(if ((cond e true a.2.2.2.2.1.2.2.1) == false) = true then fL.run a a.2.2.2.2.1 else some false).bind fun n=>ite (cond (cond e true a.2.2.2.2.1.2.2.1) true (not n)) (Rt 16) (Rt 0))
def run:=top (fun a=>some a)
def F : Fn:=fo [jk] T1 run
noncomputable def c : Cf:=cn 142 F ⟨Tryz.f142,[],[aB.c,aF.c,bC.c,aJ.c,gk.c,bw.c,fL.c],[],[],[(2,1,2)],[],[],0⟩ S1 (fun _=>top) (fun a=>some a) e0 bY Tryz.func142
end Go.Bx.cH
namespace Go.Bx.hZ
def S1 : Px:=⟨112,[sr 6,sd 7 .bool],[sc 6 ki]⟩
def S2 : Px:=⟨112,[sr 4,sr 5,sr 6,sr 8,sr 9,sr 10],[sc 4 ki,sc 5 ki,sc 6 ki,se 8 PU (SA),sc 9 T6,sc 10 T6,sc 114 .bool]⟩
def j0 (Rt : xG α) : Sq α:=fun c k o a l m n=>(fX.run a m n).bind fun e=>(aR.run a l e.1 e.2.1).bind fun b=>(aR.run a b.1 b.1 b.2.1).bind fun f=>(cZ.run a f.1 c.1 f.2.1).bind fun g=>(cZ.run a g.1 k.1 g.2.1).bind fun d=>(cZ.run a c.1 d.1 d.2.1).bind fun h=>(aR.run a b.1 h.1 h.2.1).bind fun i=>(cZ.run a i.1 c.2.1 i.2.1).bind fun j=>ite j.2.1 (Rt false pq) (Rt true (d.1,j.1,false,()))
def top (Rt : xG α) (e : iu) (a c : oQ) : Option α:=ite a.2.2.1 (Rt true c) (ite c.2.2.1 (Rt true a) ((bZ.run e).bind fun b=>(cZ.run b.1 c.2.1 a.2.1 b.2.2.1).bind fun f=>(cZ.run b.1 c.1 a.1 f.2.1).bind fun d=>ite (ax T6 a.1 c.1) ((cg.run b.1 a.2.1 c.2.1 d.2.1).bind fun g=>ite (ax T6 g.1 [0,0,0,0]) (Rt true ([0,0,0,0],[0,0,0,0],true,())) (ite (not (ax T6 a.2.1 c.2.1)) (Rt false pq) ((dz.run b.1 3 g.2.1).bind fun h=>(aR.run b.1 a.1 a.1 h.2.1).bind fun i=>(aR.run b.1 h.1 i.1 i.2.1).bind fun j=>(cg.run b.1 j.1 e.2.1 j.2.1).bind fun k=>(cg.run b.1 a.2.1 a.2.1 k.2.1).bind fun l=>j0 Rt a c pq b.1 k.1 l.1 l.2.1))) (j0 Rt a c pq b.1 f.1 d.1 d.2.1)))
def run:=top (fun a b=>some (b,a,()))
def F : Fn:=fm [jk,ki,ki] [ki,.bool] run
def w (k : Nat) (Rt : K S1 α) : List (Nat × ee α):=[(56,.j S2 (j0 Rt))]
noncomputable def c : Cf:=cn 215 F ⟨Tryz.f215,[14],[],[bZ.s,aR.s,dz.s,cg.s,cZ.s,fX.s],[(21,113),(27,115),(33,116),(44,117),(57,118),(63,119),(64,120),(67,121),(73,122),(78,123),(79,124),(85,125),(88,126),(91,127),(99,128),(100,129),(103,130)],[(2,3,6),(39,119,4)],[],[],0⟩ S1 (fun _=>top) (fun a b=>some (b,a,())) w bY Tryz.func215
end Go.Bx.hZ
namespace Go.Bx.bT
def S1 : Px:=⟨145,[sr 6,sd 7 .bool],[sc 6 ki]⟩
def S2 : Px:=⟨145,[sr 3,sr 4,sr 5,sr 6,sr 8,sr 9],[sc 3 jk,sc 4 ki,sc 5 ki,sc 6 ki,sc 8 T6,sc 9 T6]⟩
def j0 (Rt : xG α) : QV α:=fun a b f q g h=>(dD.run h a.1).bind fun d=>ite (not d.2.1) (Rt false pq) ((aJ.run g d.1 a.1).bind fun c=>(aJ.run c c a.1).bind fun i=>(bC.run b.1 f.1 a.1).bind fun j=>(aW.run j a.1).bind fun k=>(bC.run i k a.1).bind fun e=>(aW.run e a.1).bind fun l=>(bC.run b.1 l a.1).bind fun m=>(aJ.run c m a.1).bind fun n=>(aW.run b.2.1 a.1).bind fun o=>(bC.run n o a.1).bind fun p=>Rt true (e,p,false,()))
def top (Rt : xG α) (b : iu) (a c : oQ) : Option α:=ite a.2.2.1 (Rt true c) (ite c.2.2.1 (Rt true a) ((if ((ax T6 a.1 c.1) == true) = true then bC.run a.2.1 c.2.1 b.1 else some [0,0,0,0]).bind fun d=>(if ((ax T6 a.1 c.1) == true) = true then aB.run d else some false).bind fun e=>ite (cond (ax T6 a.1 c.1) e false) (Rt true ([0,0,0,0],[0,0,0,0],true,())) ((aW.run a.2.1 b.1).bind fun f=>(bC.run c.2.1 f b.1).bind fun g=>(aW.run a.1 b.1).bind fun h=>(bC.run c.1 h b.1).bind fun i=>ite (ax ki a c) ((gk.run 3 b.1).bind fun j=>(aJ.run a.1 a.1 b.1).bind fun k=>(aJ.run j k b.1).bind fun l=>(bC.run l b.2.1 b.1).bind fun m=>(bC.run a.2.1 a.2.1 b.1).bind fun n=>j0 Rt b a c pq m n) (j0 Rt b a c pq g i))))
def run:=top (fun a b=>some (b,a,()))
def F : Fn:=fm [jk,ki,ki] [ki,.bool] run
def w (k : Nat) (Rt : K S1 α) : List (Nat × ee α):=[(52,.j S2 (j0 Rt))]
noncomputable def c : Cf:=cn 208 F ⟨Tryz.f208,[13],[aB.c,bC.c,aJ.c,gk.c,dD.c,aW.c],[],[],[(2,3,6),(1,15,3),(36,111,3)],[],[],0⟩ S1 (fun _=>top) (fun a b=>some (b,a,())) w bY Tryz.func208
end Go.Bx.bT
namespace Go.Bx.dQ
def S1 : Px:=⟨24,[sd 4 T1],[]⟩
def S2 : Px:=⟨24,[sr 2,sd 13 SN,sd 14 T1,sd 15 T1],[sc 2 jk]⟩
def S3 : Px:=⟨24,[],[]⟩
def bq (Nx : PJ α) (Rt : gI α) (Xt0 : Option α) : PJ α:=fun b c a d=>ite (decide (a < c)) (ite (0 <= a /\ a < (b.length : Int)) ((kH.run d (b.getD a.toNat pq)).bind fun e=>ite (not e) (Rt 16) (Nx b c (wrap .i64 (a + 1)) d)) none) (Xt0)
def l0 (k : Nat) (Rt : gI α) (Xt0 : Option α) : Nat->PJ α
 | 0=>kz (S:=S2)
 | n + 1=>bq (l0 k Rt Xt0 n) Rt Xt0
def j0 (Rt : gI α) : Option α:=Rt 0
def top (k : Nat) (Rt : gI α) (a : iu) (b : TR) : Option α:=(fK.run a).bind fun c=>ite (c != 0) (Rt c) (l0 k Rt (j0 Rt) k b (b.length : Int) 0 a)
def run:=top fuel (fun a=>some a)
def F : Fn:=fo [jk,SN] T1 run
def w (k : Nat) (Rt : K S1 α) : List (Nat × ee α):=[(44,.j S3 (j0 Rt)),(61,.l S2 (l0 k Rt (j0 Rt)) fun _=>[])]
noncomputable def c : Cf:=cn 214 F ⟨Tryz.f214,[11],[fK.c,kH.c],[],[],[(2,1,4),(1,0,0),(4,14337,2),(15,14337,2),(30,0,0)],[],[],0⟩ S1 top (fun a=>some a) w bY Tryz.func214
end Go.Bx.dQ
namespace Go.Bx.eD
def S1 : Px:=⟨58,[sr 6,sd 7 T1],[sc 6 ki]⟩
def S2 : Px:=⟨58,[sr 3,sr 4,sr 5,sr 6,sr 9,sd 10 .bool,sd 11 T1],[sc 3 jk,sc 4 T6,sc 5 ki,sc 6 ki,sc 9 ki]⟩
def j0 (Nx : LB α) : LB α:=fun a b c d e f g=>Nx a (wrap .i64 (b - 1)) c d e f g
def S3 : Px:=⟨58,[sr 6,sr 9,sd 10 .bool],[sc 6 ki,sc 9 ki]⟩
def bq (Nx : LB α) (Xt0 : Pq α) : LB α:=fun h a c d e f g=>ite (cond (decide (a >= 0)) h false) ((hZ.run c g g).bind fun b=>cond (decide (0 <= (wrap .i64 (tdiv a 64)) /\ (wrap .i64 (tdiv a 64)) < (4 : Int)) || !(b.2.1 == true)) (cond (decide (0 <= (tmod a 64)) || !(b.2.1 == true)) (ite (cond b.2.1 ((cF .u64 (fh .u64 (d.getD (wrap .i64 (tdiv a 64)).toNat 0) (tmod a 64)) 1) == 1) false) ((hZ.run c b.1 e).bind fun i=>j0 Nx i.2.1 a c d e f i.1) (j0 Nx b.2.1 a c d e f b.1)) none) none) (Xt0 h f g)
def l0 (k : Nat) (Xt0 : Pq α) : Nat->LB α
 | 0=>kz (S:=S2)
 | n + 1=>bq (l0 k Xt0 n) Xt0
def j1 (Rt : tz α) : Pq α:=fun a c b=>ite (not a) (Rt 16 pq) (Rt 0 b)
def top (k : Nat) (Rt : tz α) (a : iu) (d : D1) (b : oQ) : Option α:=(dQ.run a [b]).bind fun c=>ite (c != 0) (Rt c pq) (l0 k (j1 Rt) k true 255 a d b pq ([0,0,0,0],[0,0,0,0],true,()))
def run:=top fuel (fun a b=>some (b,a,()))
def F : Fn:=fm [jk,T6,ki] [ki,T1] run
def w0 (k : Nat) (Nx : K S2 α) (Xt0 : K S3 α) : List (Nat × ee α):=[(32,.j S2 (j0 Nx))]
def w (k : Nat) (Rt : K S1 α) : List (Nat × ee α):=[(48,.j S3 (j1 Rt)),(73,.l S2 (l0 k (j1 Rt)) fun n=>w0 k (l0 k (j1 Rt) n) (j1 Rt))]
noncomputable def c : Cf:=cn 201 F ⟨Tryz.f201,[8,12],[dQ.c,hZ.c],[],[],[(2,3,6),(1,25,6),(4,463,3),(18,463,3),(21,463,3),(33,25,6)],[],[],0⟩ S1 top (fun a b=>some (b,a,())) w bY Tryz.func201
end Go.Bx.eD
namespace Go.Bx.aZ
def S1 : Px:=⟨51,[sr 3,sr 4,sr 5,sr 6,sr 8,sd 9 T1],[sc 3 jk,sc 4 T6,sc 5 ki,sc 6 ki,sc 8 ki]⟩
def S2 : Px:=⟨51,[sr 3,sr 4,sr 5,sr 6,sr 8,sd 9 T1,sd 10 T1],[sc 3 jk,sc 4 T6,sc 5 ki,sc 6 ki,sc 8 ki]⟩
def S3 : Px:=⟨51,[sr 3,sr 4,sr 5,sr 6,sr 8,sd 9 T1,sd 10 T1,sr 11,sd 12 .bool],[sc 3 jk,sc 4 T6,sc 5 ki,sc 6 ki,sc 8 ki,sc 11 ki]⟩
def S4 : Px:=⟨51,[sr 6,sd 7 .bool],[sc 6 ki]⟩
def j0 (Nx : Il α) (Rt : xG α) : QM α:=fun a b c d e f g i h=>ite (not c) (Rt false pq) (Nx a (wrap .i64 (b - 1)) d e f g h)
def me (Nx : Il α) (Rt : xG α) (Xt2 : zP α) : Il α:=fun a c d f g h e=>ite (decide (c >= 0)) ((bT.run d e e).bind fun b=>cond (decide (0 <= a /\ a < (4 : Int)) || !(b.2.1 == true)) (cond (decide (0 <= c) || !(b.2.1 == true)) (ite (cond b.2.1 ((cF .u64 (f.getD a.toNat 0) (eR .u64 1 c)) != 0) false) ((bT.run d b.1 g).bind fun i=>j0 Nx Rt a c i.2.1 d f g h e i.1) (j0 Nx Rt a c b.2.1 d f g h e b.1)) none) none) (Xt2 a d f g h e)
def l1 (k : Nat) (Rt : xG α) (Xt2 : zP α) : Nat->Il α
 | 0=>kz (S:=S2)
 | n + 1=>me (l1 k Rt Xt2 n) Rt Xt2
def j1 (Nx : zP α) : zP α:=fun a b c d e f=>Nx (wrap .i64 (a - 1)) b c d e f
def S5 : Px:=⟨51,[sr 6,sr 8],[sc 6 ki,sc 8 ki]⟩
def bq (k : Nat) (Nx : zP α) (Rt : xG α) (Xt0 : MN α) : zP α:=fun a d e f b c=>ite (decide (a >= 0)) (l1 k Rt (j1 Nx) k a 63 d e f b c) (Xt0 b c)
def l0 (k : Nat) (Rt : xG α) (Xt0 : MN α) : Nat->zP α
 | 0=>kz (S:=S1)
 | n + 1=>bq k (l0 k Rt Xt0 n) Rt Xt0
def j2 (Rt : xG α) : MN α:=fun b a=>Rt true a
def top (k : Nat) (Rt : xG α) (a : iu) (b : D1) (c : oQ) : Option α:=l0 k Rt (j2 Rt) k 3 a b c pq ([0,0,0,0],[0,0,0,0],true,())
def run:=top fuel (fun a b=>some (b,a,()))
def F : Fn:=fm [jk,T6,ki] [ki,.bool] run
def w1 (k : Nat) (Nx : K S2 α) (Rt : K S4 α) (Xt2 : K S1 α) : List (Nat × ee α):=[(48,.j S3 (j0 Nx Rt))]
def w0 (k : Nat) (Nx : K S1 α) (Rt : K S4 α) (Xt0 : K S5 α) : List (Nat × ee α):=[(20,.j S1 (j1 Nx)),(73,.l S2 (l1 k Rt (j1 Nx)) fun n=>w1 k (l1 k Rt (j1 Nx) n) Rt (j1 Nx))]
def w (k : Nat) (Rt : K S4 α) : List (Nat × ee α):=[(60,.j S5 (j2 Rt)),(37,.l S1 (l0 k Rt (j2 Rt)) fun n=>w0 k (l0 k Rt (j2 Rt) n) Rt (j2 Rt))]
noncomputable def c : Cf:=cn 207 F ⟨Tryz.f207,[5,12,15],[bT.c],[],[],[(2,3,6),(1,5,6),(4,111,3),(7,111,3),(10,239,3),(9,111,3),(12,111,3),(18,239,3),(33,1007,3),(42,5,6)],[],[],0⟩ S4 top (fun a b=>some (b,a,())) w bY Tryz.func207
end Go.Bx.aZ
namespace Go.Bx.nr
def S1 : Px:=⟨31,[sr 6,sd 7 T1],[sc 6 ki]⟩
def top (Rt : tz α) (a : iu) (b c : oQ) : Option α:=(dQ.run a [b,c]).bind fun d=>ite (d != 0) (Rt d pq) ((hZ.run a b c).bind fun e=>ite (not e.2.1) (Rt 16 pq) (Rt 0 e.1))
def run:=top (fun a b=>some (b,a,()))
def F : Fn:=fm [jk,ki,ki] [ki,T1] run
noncomputable def c : Cf:=cn 202 F ⟨Tryz.f202,[],[dQ.c,hZ.c],[],[],[(2,3,6)],[],[],0⟩ S1 (fun _=>top) (fun a b=>some (b,a,())) e0 bY Tryz.func202
end Go.Bx.nr
namespace Go.Bx.ni
def S1 : Px:=⟨43,[sr 10,sd 11 T1],[sc 10 ki]⟩
def top (Rt : tz α) (a : iu) (e : D1) (f : oQ) (g : D1) (h : oQ) : Option α:=(eD.run a e f).bind fun b=>ite (b.2.1 != 0) (Rt b.2.1 pq) ((eD.run a g h).bind fun c=>ite (c.2.1 != 0) (Rt c.2.1 pq) ((nr.run a b.1 c.1).bind fun d=>Rt d.2.1 d.1))
def run:=top (fun a b=>some (b,a,()))
def F : Fn:=fm [jk,T6,ki,T6,ki] [ki,T1] run
noncomputable def c : Cf:=cn 169 F ⟨Tryz.f169,[],[eD.c,nr.c],[],[],[(2,3,10)],[],[],0⟩ S1 (fun _=>top) (fun a b=>some (b,a,())) e0 bY Tryz.func169
end Go.Bx.ni
namespace Go.Bx.iz
def S1 : Px:=⟨43,[sr 10,sd 11 .bool],[sc 10 ki]⟩
def top (Rt : xG α) (a : iu) (e : D1) (f : oQ) (g : D1) (h : oQ) : Option α:=(aZ.run a e f).bind fun b=>(aZ.run a g h).bind fun c=>ite (cond (not b.2.1) true (not c.2.1)) (Rt false pq) ((bT.run a b.1 c.1).bind fun d=>Rt d.2.1 d.1)
def run:=top (fun a b=>some (b,a,()))
def F : Fn:=fm [jk,T6,ki,T6,ki] [ki,.bool] run
noncomputable def c : Cf:=cn 184 F ⟨Tryz.f184,[],[aZ.c,bT.c],[],[],[(2,3,10)],[],[],0⟩ S1 (fun _=>top) (fun a b=>some (b,a,())) e0 bY Tryz.func184
end Go.Bx.iz
namespace Go.Bx.gw
def S1 : Px:=⟨14,[],[sc 0 T6,sc 1 T6,sc 2 T6]⟩
def top (Rt : uD α) (e : Bool) (c a b : D1) : Option α:=(iV.run c c a).bind fun d=>ite e ((iV.run d b a).bind fun f=>Rt f a b) (Rt d a b)
def run:=top (fun a b c=>some (a,b,c,()))
def Sp : Spec:=re [hD .bool,.ref 0 0 [],.ref 1 0 [],.ref 2 0 []] [(0,hC T6 (hD T6) false),(1,hC T6 (hD T6) false),(2,hC T6 (hD T6) false)] [.bool,T6,T6,T6] (.tup []) [(0,hC T6 (hD T6) false),(1,hC T6 (hD T6) false),(2,hC T6 (hD T6) false)] [T6,T6,T6] run
noncomputable def s : Sf:=sn 212 Sp ⟨Tryz.f212,[],[iV.c],[],[],[(2,0,0)],[],[],3⟩ S1 (fun _=>top) ri e0 bY Tryz.func212
end Go.Bx.gw
namespace Go.Bx.dh
def S1 : Px:=⟨39,[(1,.fn 212 [] [.ref 0 0 [],.ref 1 0 [],.ref 2 0 []]),st 2 5,sd 4 .bool,sd 5 T1],[sc 0 T6,sc 1 T6,sc 2 T6,sc 5 T6]⟩
def j0 (Nx : uP α) : uP α:=fun a b c d e f=>Nx a (wrap .i64 (b - 1)) c d e f
def S2 : Px:=⟨39,[(1,.fn 212 [] [.ref 0 0 [],.ref 1 0 [],.ref 2 0 []]),st 2 5,sd 4 .bool,sd 5 T1,sd 6 T1],[sc 0 T6,sc 1 T6,sc 2 T6,sc 5 T6]⟩
def j1 (Nx : Ax α) : Ax α:=fun a b c d e f g=>Nx a b (wrap .i64 (c - 1)) d e f g
def me (Nx : Ax α) (Xt2 : uP α) : Ax α:=fun d a b e f g c=>ite (decide (b >= 0)) (ite (0 <= a /\ a < (4 : Int)) (ite (0 <= b) (ite (cond d true ((cF .u64 (fh .u64 (c.getD a.toNat 0) b) 1) == 1)) ((gw.run ((cF .u64 (fh .u64 (c.getD a.toNat 0) b) 1) == 1) e f g).bind fun h=>j1 Nx (cond d true ((cF .u64 (fh .u64 (c.getD a.toNat 0) b) 1) == 1)) a b h.1 h.2.1 h.2.2.1 c) (j1 Nx (cond d true ((cF .u64 (fh .u64 (c.getD a.toNat 0) b) 1) == 1)) a b e f g c)) none) none) (Xt2 d a e f g c)
def l1 (k : Nat) (Xt2 : uP α) : Nat->Ax α
 | 0=>kz (S:=S2)
 | n + 1=>me (l1 k Xt2 n) Xt2
def S3 : Px:=⟨39,[],[sc 0 T6,sc 1 T6,sc 2 T6]⟩
def bq (k : Nat) (Nx : uP α) (Xt0 : uD α) : uP α:=fun b a c d e f=>ite (decide (a >= 0)) (ite (0 <= a /\ a < (4 : Int)) (ite (cond ((f.getD a.toNat 0) == 0) (not b) false) (j0 Nx b a c d e f) (l1 k (j0 Nx) k b a 63 c d e f)) none) (Xt0 c d e)
def l0 (k : Nat) (Xt0 : uD α) : Nat->uP α
 | 0=>kz (S:=S1)
 | n + 1=>bq k (l0 k Xt0 n) Xt0
def top (k : Nat) (Rt : uD α) (a b : D1) (c d : D1) : Option α:=l0 k Rt k false 3 b c d a
def run:=top fuel (fun a b c=>some (a,b,c,()))
def Sp : Spec:=re [hD T6,.fn 212 [] [.ref 0 0 [],.ref 1 0 [],.ref 2 0 []]] [(0,hC T6 (hD T6) false),(1,hC T6 (hD T6) false),(2,hC T6 (hD T6) false)] [T6,T6,T6,T6] (.tup []) [(0,hC T6 (hD T6) false),(1,hC T6 (hD T6) false),(2,hC T6 (hD T6) false)] [T6,T6,T6] run
def w1 (k : Nat) (Nx : K S2 α) (Xt2 : K S1 α) : List (Nat × ee α):=[(36,.j S2 (j1 Nx))]
def w0 (k : Nat) (Nx : K S1 α) (Xt0 : K S3 α) : List (Nat × ee α):=[(20,.j S1 (j0 Nx)),(85,.l S2 (l1 k (j0 Nx)) fun n=>w1 k (l1 k (j0 Nx) n) (j0 Nx))]
def w (k : Nat) (Rt : K S3 α) : List (Nat × ee α):=[(37,.l S1 (l0 k Rt) fun n=>w0 k (l0 k Rt n) Rt)]
noncomputable def s : Sf:=sn 211 Sp ⟨Tryz.f211,[5,9],[],[gw.s],[(38,40)],[(2,0,0),(1,0,0),(4,27,1),(7,27,1),(10,59,1),(9,27,1),(12,27,1),(21,59,1),(24,59,1)],[],[],3⟩ S3 top ri w bY Tryz.func211
end Go.Bx.dh
namespace Go.Bx.nC
def S1 : Px:=⟨31,[sr 6,sd 7 T1],[sc 6 T6]⟩
def top (Rt : jJ α) (b d a : D1) : Option α:=(cT.run a [b]).bind fun c=>ite (c != 0) (Rt c [0,0,0,0]) ((bL.run [1,0,0,0] a).bind fun e=>(dh.run d e.2.1 a b).bind fun f=>Rt 0 f.1)
def run:=top (fun a b=>some (b,a,()))
def F : Fn:=fm [T6,T6,T6] [T6,T1] run
noncomputable def c : Cf:=cn 196 F ⟨Tryz.f196,[],[bL.c,cT.c],[dh.s],[(29,32)],[(2,3,6)],[],[],0⟩ S1 (fun _=>top) (fun a b=>some (b,a,())) e0 bY Tryz.func196
end Go.Bx.nC
namespace Go.Bx.ig
def S1 : Px:=⟨88,[sr 6,sd 7 T1],[sc 6 ki]⟩
def S2 : Px:=⟨88,[sd 2 .bool,sr 3,sr 4,sr 6,sr 13],[sc 3 jk,sc 4 T6,sc 6 ki,sc 13 T6]⟩
def j0 (Rt : tz α) : Re α:=fun b d c f a=>(if ((not (ax .bool ((tmod (a.getD 0 0) 2) == 1) b)) == false) = true then kH.run d (c,a,false,()) else some false).bind fun e=>ite (cond (not (ax .bool ((tmod (a.getD 0 0) 2) == 1) b)) true (not e)) (Rt 16 ([0,0,0,0],[0,0,0,0],false,())) (Rt 0 (c,a,false,()))
def top (Rt : tz α) (a : iu) (b : D1) (d : Bool) : Option α:=(fK.run a).bind fun f=>ite (f != 0) (Rt f ([0,0,0,0],[0,0,0,0],false,())) ((cD.run b a.1).bind fun i=>ite (decide (i >= 0)) (Rt 6 ([0,0,0,0],[0,0,0,0],false,())) ((bZ.run a).bind fun e=>(bL.run a.1 [4,0,0,0]).bind fun j=>(fy.run j.1 [1,0,0,0]).bind fun k=>(hU.run a e.1 b e.2.2.1).bind fun g=>(nC.run g.1 k.1 a.1).bind fun h=>(bP.run e.1 h.1 h.2.1 g.2.1).bind fun c=>ite (not (ax .bool ((tmod (c.1.getD 0 0) 2) == 1) d)) (ite (not (ax T6 c.1 [0,0,0,0])) ((fO.run a.1 c.1).bind fun l=>j0 Rt d a b ([0,0,0,0],[0,0,0,0],false,()) l.1) (j0 Rt d a b ([0,0,0,0],[0,0,0,0],false,()) c.1)) (j0 Rt d a b ([0,0,0,0],[0,0,0,0],false,()) c.1)))
def run:=top (fun a b=>some (b,a,()))
def F : Fn:=fm [jk,T6,.bool] [ki,T1] run
def w (k : Nat) (Rt : K S1 α) : List (Nat × ee α):=[(56,.j S2 (j0 Rt))]
noncomputable def c : Cf:=cn 164 F ⟨Tryz.f164,[14],[cD.c,fy.c,fO.c,bL.c,fK.c,kH.c,nC.c],[bZ.s,bP.s,hU.s],[(28,89),(47,91),(54,92)],[(2,3,6),(39,2071,2)],[],[],0⟩ S1 (fun _=>top) (fun a b=>some (b,a,())) w bY Tryz.func164
end Go.Bx.ig
namespace Go.Bx.cW
def S1 : Px:=⟨82,[sr 6,sd 7 T1],[sc 6 ki]⟩
def S2 : Px:=⟨82,[sd 2 .bool,sr 3,sr 4,sr 6,sr 12],[sc 3 jk,sc 4 T6,sc 6 ki,sc 12 T6]⟩
def S3 : Px:=⟨82,[sd 2 .bool,sr 3,sr 4,sr 6,sr 15,sd 59 T1],[sc 3 jk,sc 4 T6,sc 6 ki,sc 15 T6]⟩
def S4 : Px:=⟨82,[sr 6],[sc 6 ki]⟩
def bq (Nx : My α) (Rt : tz α) (Xt0 : Lm α) : My α:=fun b e c d f a=>ite (decide (e < 2)) ((if ((ax .bool ((cF .u64 (a.getD 0 0) 1) == 1) b) == true) = true then fL.run c (d,a,false,()) else some false).bind fun g=>ite (cond (ax .bool ((cF .u64 (a.getD 0 0) 1) == 1) b) g false) (Rt 0 (d,a,false,())) ((aW.run a c.1).bind fun h=>Nx b (wrap .i64 (e + 1)) c d f h)) (Xt0 f)
def l0 (k : Nat) (Rt : tz α) (Xt0 : Lm α) : Nat->My α
 | 0=>kz (S:=S3)
 | n + 1=>bq (l0 k Rt Xt0 n) Rt Xt0
def j1 (Rt : tz α) : Lm α:=fun a=>Rt 16 pq
def j0 (k : Nat) (Rt : tz α) : Re α:=fun c a b d e=>(fl.run a b).bind fun f=>(bw.run f e a.1).bind fun g=>l0 k Rt (j1 Rt) k c 0 a b d g
def top (k : Nat) (Rt : tz α) (a : iu) (b : D1) (c : Bool) : Option α:=(cH.run a).bind fun d=>ite (d != 0) (Rt d pq) ((aF.run b a.1).bind fun f=>ite (decide (f >= 0)) (Rt 6 pq) ((aw.run a.1).bind fun g=>(aH.run g [1]).bind fun h=>(aQ.run h).bind fun e=>(aF.run e.1 a.1).bind fun i=>(cj.run e.1 [4,0,0,0]).bind fun j=>ite (decide (i < 0)) (j0 k Rt c a b pq [0,0,0,4611686018427387904]) (j0 k Rt c a b pq j.1)))
def run:=top fuel (fun a b=>some (b,a,()))
def F : Fn:=fm [jk,T6,.bool] [ki,T1] run
def w (k : Nat) (Rt : K S1 α) : List (Nat × ee α):=[(80,.j S4 (j1 Rt)),(157,.l S3 (l0 k Rt (j1 Rt)) fun _=>[]),(48,.j S2 (j0 k Rt))]
noncomputable def c : Cf:=cn 182 F ⟨Tryz.f182,[12,20],[aF.c,aH.c,aw.c,cj.c,cH.c,aQ.c,bw.c,fL.c,aW.c,fl.c],[],[],[(2,3,6),(1,1,6),(4,144115188075864087,2),(33,1047,2),(39,144115188075864087,2),(57,1,6)],[],[],0⟩ S1 top (fun a b=>some (b,a,())) w bY Tryz.func182
end Go.Bx.cW
namespace Go.Bx.jV
def S1 : Px:=⟨15,[sd 4 .bool],[]⟩
def top (Rt : kF α) (b : iu) (a : D1) : Option α:=(if ((not (ax T6 a [0,0,0,0])) == true) = true then cD.run a b.2.2.2.1 else some 0).bind fun c=>Rt (cond (not (ax T6 a [0,0,0,0])) (decide (c < 0)) false)
def run:=top (fun a=>some a)
def F : Fn:=fo [jk,T6] .bool run
noncomputable def c : Cf:=cn 194 F ⟨Tryz.f194,[],[cD.c],[],[],[(2,1,4)],[],[],0⟩ S1 (fun _=>top) (fun a=>some a) e0 bY Tryz.func194
end Go.Bx.jV
namespace Go.Bx.dS
def S1 : Px:=⟨15,[sd 4 .bool],[]⟩
def top (Rt : kF α) (c : iu) (a : D1) : Option α:=(aB.run a).bind fun b=>(if ((not b) == true) = true then aF.run a c.2.2.2.1 else some 0).bind fun d=>Rt (cond (not b) (decide (d < 0)) false)
def run:=top (fun a=>some a)
def F : Fn:=fo [jk,T6] .bool run
noncomputable def c : Cf:=cn 206 F ⟨Tryz.f206,[],[aB.c,aF.c],[],[],[(2,1,4)],[],[],0⟩ S1 (fun _=>top) (fun a=>some a) e0 bY Tryz.func206
end Go.Bx.dS
namespace Go.Bx.nk
def S1 : Px:=⟨16,[sr 4],[sc 4 T6]⟩
def top (Rt : cf α) (a b : D1) : Option α:=(bL.run a b).bind fun c=>Rt c.2.1
def run:=top (fun a=>some a)
def F : Fn:=fo [T6,T6] T6 run
noncomputable def c : Cf:=cn 167 F ⟨Tryz.f167,[],[bL.c],[],[],[(2,1,4)],[],[],0⟩ S1 (fun _=>top) (fun a=>some a) e0 bY Tryz.func167
end Go.Bx.nk
namespace Go.Bx.pj
def S1 : Px:=⟨20,[sd 4 .bool],[]⟩
def top (Rt : kF α) (a : iu) (b : D1) : Option α:=(bL.run a.2.2.2.1 [2,0,0,0]).bind fun c=>(cD.run b c.1).bind fun d=>Rt (decide (d <= 0))
def run:=top (fun a=>some a)
def F : Fn:=fo [jk,T6] .bool run
noncomputable def c : Cf:=cn 195 F ⟨Tryz.f195,[],[cD.c,bL.c],[],[],[(2,1,4)],[],[],0⟩ S1 (fun _=>top) (fun a=>some a) e0 bY Tryz.func195
end Go.Bx.pj
namespace Go.Bx.kY
def S1 : Px:=⟨31,[sd 4 .bool],[]⟩
def top (Rt : kF α) (b : iu) (a : qW) : Option α:=(jV.run b a.1).bind fun c=>(if (c == true) = true then jV.run b a.2.1 else some false).bind fun d=>(if ((cond c d false) == true) = true then pj.run b a.2.1 else some false).bind fun e=>Rt (cond (cond (cond (cond c d false) e false) (decide (a.2.2.1 >= 0)) false) (decide (a.2.2.1 <= 3)) false)
def run:=top (fun a=>some a)
def F : Fn:=fo [jk,Pk] .bool run
noncomputable def c : Cf:=cn 163 F ⟨Tryz.f163,[],[jV.c,pj.c],[],[],[(2,1,4)],[],[],0⟩ S1 (fun _=>top) (fun a=>some a) e0 bY Tryz.func163
end Go.Bx.kY
namespace Go.Bx.fw
def S1 : Px:=⟨36,[sd 4 .bool],[]⟩
def top (Rt : kF α) (c : iu) (a : qW) : Option α:=(dS.run c a.1).bind fun b=>(if (b == true) = true then dS.run c a.2.1 else some false).bind fun d=>(if ((cond b d false) == true) = true then aW.run a.2.1 c.2.2.2.1 else some [0,0,0,0]).bind fun e=>(if ((cond b d false) == true) = true then aF.run a.2.1 e else some 0).bind fun f=>Rt (cond (cond (cond (cond b d false) (decide (f <= 0)) false) (decide (a.2.2.1 >= 0)) false) (decide (a.2.2.1 < 4)) false)
def run:=top (fun a=>some a)
def F : Fn:=fo [jk,Pk] .bool run
noncomputable def c : Cf:=cn 181 F ⟨Tryz.f181,[],[aF.c,aW.c,dS.c],[],[],[(2,1,4)],[],[],0⟩ S1 (fun _=>top) (fun a=>some a) e0 bY Tryz.func181
end Go.Bx.fw
namespace Go.Bx.iG
def S1 : Px:=⟨122,[sr 6,sd 7 T1],[sc 6 ki]⟩
def S2 : Px:=⟨122,[sr 3,sr 4,sr 5,sr 6,sr 9,sd 10 .bool],[sc 3 jk,sc 4 eb,sc 5 Pk,sc 6 ki,sc 9 T6]⟩
def j0 (Rt : tz α) : Ss α:=fun e a h c o f=>(if (e == false) = true then cD.run f a.1 else some 0).bind fun i=>ite (cond e true (decide (i >= 0))) (Rt 10 pq) ((ig.run a f ((tmod c.2.2.1 2) == 1)).bind fun g=>ite (g.2.1 != 0) (Rt 10 pq) ((gH.run c.1 a.2.2.2.1).bind fun d=>ite (d.2.1 != 0) (Rt 16 pq) ((ke.run c.2.1 d.1 a.2.2.2.1).bind fun j=>(ia.run h).bind fun k=>(nk.run k a.2.2.2.1).bind fun l=>(ke.run l d.1 a.2.2.2.1).bind fun m=>(km.run [0,0,0,0] m.1 a.2.2.2.1).bind fun n=>(ni.run a j.1 g.1 n.1 a.2.2.2.2.1).bind fun b=>ite (b.2.1 != 0) (Rt b.2.1 pq) (ite b.1.2.2.1 (Rt 10 pq) (Rt 0 b.1)))))
def top (Rt : tz α) (b : iu) (c : D1) (a : qW) : Option α:=(fK.run b).bind fun d=>ite (d != 0) (Rt d pq) ((kY.run b a).bind fun f=>ite (not f) (Rt 10 pq) (ite (decide (a.2.2.1 >= 2)) ((fy.run a.1 b.2.2.2.1).bind fun e=>j0 Rt e.2.1 b c a pq e.1) (j0 Rt false b c a pq a.1)))
def run:=top (fun a b=>some (b,a,()))
def F : Fn:=fm [jk,eb,Pk] [ki,T1] run
def w (k : Nat) (Rt : K S1 α) : List (Nat × ee α):=[(40,.j S2 (j0 Rt))]
noncomputable def c : Cf:=cn 127 F ⟨Tryz.f127,[10],[cD.c,fy.c,ia.c,fK.c,kY.c,ig.c,gH.c,ke.c,nk.c,km.c,ni.c],[],[],[(2,3,6),(27,207,3)],[],[],0⟩ S1 (fun _=>top) (fun a b=>some (b,a,())) w bY Tryz.func127
end Go.Bx.iG
namespace Go.Bx.dR
def S1 : Px:=⟨111,[sr 6,sd 7 T1],[sc 6 ki]⟩
def S2 : Px:=⟨111,[sr 3,sr 4,sr 5,sr 6,sd 9 kN],[sc 3 jk,sc 4 eb,sc 5 Pk,sc 6 ki]⟩
def j0 (Rt : tz α) : Rl α:=fun g a h c p=>(aQ.run g).bind fun b=>(if (b.2.1 == false) = true then aF.run b.1 a.1 else some 0).bind fun i=>ite (cond b.2.1 true (decide (i >= 0))) (Rt 10 pq) ((cW.run a b.1 ((cF .i64 c.2.2.1 1) == 1)).bind fun f=>ite (f.2.1 != 0) (Rt 10 pq) ((dD.run c.1 a.2.2.2.1).bind fun d=>ite (not d.2.1) (Rt 16 pq) ((aJ.run c.2.1 d.1 a.2.2.2.1).bind fun j=>(cS.run h).bind fun k=>(aw.run k).bind fun l=>(bN.run l a.2.2.2.1).bind fun m=>(aJ.run m d.1 a.2.2.2.1).bind fun n=>(aW.run n a.2.2.2.1).bind fun o=>(iz.run a j f.1 o a.2.2.2.2.1).bind fun e=>ite (not e.2.1) (Rt 16 pq) (ite e.1.2.2.1 (Rt 10 pq) (Rt 0 e.1)))))
def top (Rt : tz α) (a : iu) (c : D1) (b : qW) : Option α:=(cH.run a).bind fun d=>ite (d != 0) (Rt d pq) ((fw.run a b).bind fun f=>ite (not f) (Rt 10 pq) ((aw.run b.1).bind fun e=>ite (decide (b.2.2.1 > 1)) ((aw.run a.2.2.2.1).bind fun g=>(aH.run e g).bind fun h=>j0 Rt h a c b pq) (j0 Rt e a c b pq)))
def run:=top (fun a b=>some (b,a,()))
def F : Fn:=fm [jk,eb,Pk] [ki,T1] run
def w (k : Nat) (Rt : K S1 α) : List (Nat × ee α):=[(40,.j S2 (j0 Rt))]
noncomputable def c : Cf:=cn 144 F ⟨Tryz.f144,[10],[aF.c,aH.c,aw.c,cH.c,aQ.c,cS.c,aJ.c,fw.c,cW.c,dD.c,iz.c,aW.c,bN.c],[],[],[(2,3,6),(27,79,3)],[],[],0⟩ S1 (fun _=>top) (fun a b=>some (b,a,())) w bY Tryz.func144
end Go.Bx.dR
namespace Go.Bx.dU
def S1 : Px:=⟨17,[sd 4 T7],[]⟩
def top (Rt : gI α) (b a : Int) : Option α:=ite (0 <= (cF .u64 (wrap .u64 a) 63)) (ite (0 <= (wrap .u64 (64 - (cF .u64 (wrap .u64 a) 63)))) (Rt (jq .u64 (eR .u64 b (cF .u64 (wrap .u64 a) 63)) (fh .u64 b (wrap .u64 (64 - (cF .u64 (wrap .u64 a) 63)))))) none) none
def run:=top (fun a=>some a)
def F : Fn:=fo [T7,T1] T7 run
noncomputable def c : Cf:=cn 217 F ⟨Tryz.f217,[],[],[],[],[(2,1,4)],[],[],0⟩ S1 (fun _=>top) (fun a=>some a) e0 bY Tryz.func217
end Go.Bx.dU
namespace Go.Bx.du
def S1 : Px:=⟨111,[sr 1,sr 2,sd 16 O6,sd 17 T1],[sc 1 ln,sc 2 ln]⟩
def S2 : Px:=⟨111,[sr 1,sr 2,sd 4 T7,sr 5,sd 16 O6,sd 17 T1,sd 20 ln,sd 21 T1],[sc 1 ln,sc 2 ln,sc 5 Od]⟩
def S3 : Px:=⟨111,[sr 1,sr 2,sd 4 T7,sr 5,sd 16 O6,sd 17 T1],[sc 1 ln,sc 2 ln,sc 5 Od]⟩
def me (Nx : P4 α) (Xt2 : IM α) : P4 α:=fun c d e f a g h b=>ite (decide (a < 25)) (ite (0 <= a /\ a < (25 : Int)) (ite (0 <= (tmod a 5) /\ (tmod a 5) < (5 : Int)) (ite (0 <= (tmod a 5) /\ (tmod a 5) < (5 : Int)) (Nx c d e f (wrap .i64 (a + 1)) g h (b.set (tmod a 5).toNat (ae .u64 (b.getD (tmod a 5).toNat 0) (f.getD a.toNat 0)))) none) none) none) (Xt2 c d e g h b)
def l1 (k : Nat) (Xt2 : IM α) : Nat->P4 α
 | 0=>kz (S:=S2)
 | n + 1=>me (l1 k Xt2 n) Xt2
def S4 : Px:=⟨111,[sr 1,sr 2,sd 4 T7,sr 5,sr 8,sd 16 O6,sd 17 T1,sd 33 T1],[sc 1 ln,sc 2 ln,sc 5 Od,sc 8 ln]⟩
def S5 : Px:=⟨111,[sr 1,sr 2,sd 4 T7,sr 8,sd 16 O6,sd 17 T1],[sc 1 ln,sc 2 ln,sc 8 ln]⟩
def BR (Nx : PD α) (Xt4 : IM α) : PD α:=fun d e f a b g c h=>ite (decide (a < 25)) (ite (0 <= a /\ a < (25 : Int)) (ite (0 <= (tmod (wrap .i64 ((tmod a 5) + 4)) 5) /\ (tmod (wrap .i64 ((tmod a 5) + 4)) 5) < (5 : Int)) (ite (0 <= (tmod (wrap .i64 ((tmod a 5) + 1)) 5) /\ (tmod (wrap .i64 ((tmod a 5) + 1)) 5) < (5 : Int)) ((dU.run (c.getD (tmod (wrap .i64 ((tmod a 5) + 1)) 5).toNat 0) 1).bind fun i=>ite (0 <= a /\ a < (25 : Int)) ((dU.run (ae .u64 (ae .u64 (b.getD a.toNat 0) (c.getD (tmod (wrap .i64 ((tmod a 5) + 4)) 5).toNat 0)) i) (zA.getD a.toNat 0)).bind fun j=>ite (0 <= (wrap .i64 ((wrap .i64 (tdiv a 5)) + (wrap .i64 (5 * (tmod (wrap .i64 ((wrap .i64 (2 * (tmod a 5))) + (wrap .i64 (3 * (wrap .i64 (tdiv a 5)))))) 5))))) /\ (wrap .i64 ((wrap .i64 (tdiv a 5)) + (wrap .i64 (5 * (tmod (wrap .i64 ((wrap .i64 (2 * (tmod a 5))) + (wrap .i64 (3 * (wrap .i64 (tdiv a 5)))))) 5))))) < (25 : Int)) (Nx d e f (wrap .i64 (a + 1)) b g c (h.set (wrap .i64 ((wrap .i64 (tdiv a 5)) + (wrap .i64 (5 * (tmod (wrap .i64 ((wrap .i64 (2 * (tmod a 5))) + (wrap .i64 (3 * (wrap .i64 (tdiv a 5)))))) 5))))).toNat j)) none) none) none) none) none) (Xt4 d e f b g h)
def l2 (k : Nat) (Xt4 : IM α) : Nat->PD α
 | 0=>kz (S:=S4)
 | n + 1=>BR (l2 k Xt4 n) Xt4
def S6 : Px:=⟨111,[sr 1,sr 2,sd 4 T7,sr 8,sd 16 O6,sd 17 T1,sd 72 T1],[sc 1 ln,sc 2 ln,sc 8 ln]⟩
def S7 : Px:=⟨111,[sr 1,sr 2,sd 4 T7,sd 16 O6,sd 17 T1],[sc 1 ln,sc 2 ln]⟩
def Tw (Nx : Qb α) (Xt6 : Qh α) : Qb α:=fun c d e a f g b=>ite (decide (a < 25)) (ite (0 <= a /\ a < (25 : Int)) (ite (0 <= (wrap .i64 ((tmod (wrap .i64 ((tmod a 5) + 1)) 5) + (wrap .i64 (5 * (wrap .i64 (tdiv a 5)))))) /\ (wrap .i64 ((tmod (wrap .i64 ((tmod a 5) + 1)) 5) + (wrap .i64 (5 * (wrap .i64 (tdiv a 5)))))) < (25 : Int)) (ite (0 <= (wrap .i64 ((tmod (wrap .i64 ((tmod a 5) + 2)) 5) + (wrap .i64 (5 * (wrap .i64 (tdiv a 5)))))) /\ (wrap .i64 ((tmod (wrap .i64 ((tmod a 5) + 2)) 5) + (wrap .i64 (5 * (wrap .i64 (tdiv a 5)))))) < (25 : Int)) (ite (0 <= a /\ a < (25 : Int)) (Nx c d e (wrap .i64 (a + 1)) (f.set a.toNat (ae .u64 (b.getD a.toNat 0) (cF .u64 (ae .u64 18446744073709551615 (b.getD (wrap .i64 ((tmod (wrap .i64 ((tmod a 5) + 1)) 5) + (wrap .i64 (5 * (wrap .i64 (tdiv a 5)))))).toNat 0)) (b.getD (wrap .i64 ((tmod (wrap .i64 ((tmod a 5) + 2)) 5) + (wrap .i64 (5 * (wrap .i64 (tdiv a 5)))))).toNat 0)))) g b) none) none) none) none) (Xt6 c d e f g)
def l3 (k : Nat) (Xt6 : Qh α) : Nat->Qb α
 | 0=>kz (S:=S6)
 | n + 1=>Tw (l3 k Xt6 n) Xt6
def j3 (Nx : nQ α) : nQ α:=fun a b c d=>Nx a (wrap .i64 (b + 1)) c d
def j2 (Nx : nQ α) : Qh α:=fun b c d a e=>j3 Nx c d (a.set 0 (ae .u64 (a.getD 0 0) b)) e
def j1 (k : Nat) (Nx : nQ α) : IM α:=fun a b c d e f=>l3 k (j2 Nx) k a b c 0 d e f
def j0 (k : Nat) (Nx : nQ α) : IM α:=fun a b c d e f=>l2 k (j1 k Nx) k a b c 0 d e f (replicate 25 0)
def S8 : Px:=⟨111,[sr 1,sr 2],[sc 1 ln,sc 2 ln]⟩
def bq (k : Nat) (Nx : nQ α) (Xt0 : ff α) : nQ α:=fun c a b d=>ite (decide (a < 24)) (ite (0 <= a /\ a < (24 : Int)) (l1 k (j0 k Nx) k (c.getD a.toNat 0) c a b 0 b d [0,0,0,0,0]) none) (Xt0 b d)
def l0 (k : Nat) (Xt0 : ff α) : Nat->nQ α
 | 0=>kz (S:=S1)
 | n + 1=>bq k (l0 k Xt0 n) Xt0
def S9 : Px:=⟨111,[sr 2],[sc 2 ln]⟩
def j4 (Rt : cf α) : ff α:=fun a b=>Rt a
def top (k : Nat) (Rt : cf α) (a : D1) : Option α:=l0 k (j4 Rt) k dH 0 a (replicate 25 0)
def run:=top fuel (fun a=>some a)
def F : Fn:=fo [ln] ln run
def w0 (k : Nat) (Nx : K S1 α) (Xt0 : K S8 α) : List (Nat × ee α):=[(104,.j S1 (j3 Nx)),(100,.j S7 (j2 Nx)),(229,.l S6 (l3 k (j2 Nx)) fun _=>[]),(76,.j S5 (j1 k Nx)),(145,.l S4 (l2 k (j1 k Nx)) fun _=>[]),(44,.j S3 (j0 k Nx)),(73,.l S2 (l1 k (j0 k Nx)) fun _=>[])]
def w (k : Nat) (Rt : K S9 α) : List (Nat × ee α):=[(108,.j S8 (j4 Rt)),(25,.l S1 (l0 k (j4 Rt)) fun n=>w0 k (l0 k (j4 Rt) n) (j4 Rt))]
noncomputable def c : Cf:=cn 209 F ⟨Tryz.f209,[11,19,25,26,27],[dU.c],[],[],[(2,1,2),(1,3,1),(4,98307,1),(19,98315,1),(22,2361183241434822705291,1),(13,98443,1),(16,4295065755,1),(7,98331,1),(10,1671195,1),(6,98307,1),(18,1671195,1),(30,98331,1),(36,4295065755,1),(54,98443,1),(57,2361183241434822705291,1),(72,98315,1),(75,98307,1),(78,3,1)],[],[],0⟩ S9 top (fun a=>some a) w bY Tryz.func209
end Go.Bx.du
namespace Go.Bx.aD
def Qy : List Int:=[48,48,48,48,48,48,48,48,48,48,48,48,48,48,48,49,48,48,48,48,48,48,48,48,48,48,48,48,56,48,56,50,56,48,48,48,48,48,48,48,48,48,48,48,56,48,56,97,56,48,48,48,48,48,48,48,56,48,48,48,56,48,48,48,48,48,48,48,48,48,48,48,48,48,48,48,56,48,56,98,48,48,48,48,48,48,48,48,56,48,48,48,48,48,48,49,56,48,48,48,48,48,48,48,56,48,48,48,56,48,56,49,56,48,48,48,48,48,48,48,48,48,48,48,56,48,48,57,48,48,48,48,48,48,48,48,48,48,48,48,48,48,56,97,48,48,48,48,48,48,48,48,48,48,48,48,48,48,56,56,48,48,48,48,48,48,48,48,56,48,48,48,56,48,48,57,48,48,48,48,48,48,48,48,56,48,48,48,48,48,48,97,48,48,48,48,48,48,48,48,56,48,48,48,56,48,56,98,56,48,48,48,48,48,48,48,48,48,48,48,48,48,56,98,56,48,48,48,48,48,48,48,48,48,48,48,56,48,56,57,56,48,48,48,48,48,48,48,48,48,48,48,56,48,48,51,56,48,48,48,48,48,48,48,48,48,48,48,56,48,48,50,56,48,48,48,48,48,48,48,48,48,48,48,48,48,56,48,48,48,48,48,48,48,48,48,48,48,48,48,56,48,48,97,56,48,48,48,48,48,48,48,56,48,48,48,48,48,48,97,56,48,48,48,48,48,48,48,56,48,48,48,56,48,56,49,56,48,48,48,48,48,48,48,48,48,48,48,56,48,56,48,48,48,48,48,48,48,48,48,56,48,48,48,48,48,48,49,56,48,48,48,48,48,48,48,56,48,48,48,56,48,48,56]
def S1 : Px:=⟨34,[sd 3 T7,sd 13 T5,sd 14 T1,sd 15 T1],[]⟩
def S2 : Px:=⟨34,[sd 3 T7,sd 6 T7,sd 13 T5,sd 14 T1,sd 15 T1],[]⟩
def j0 (Nx : sP α) : QT α:=fun a b c d e=>Nx (wrap .u64 ((wrap .u64 (a * 16)) + b)) c d (wrap .i64 (e + 1))
def S3 : Px:=⟨34,[sd 3 T7],[]⟩
def bq (Nx : sP α) (Xt0 : gI α) : sP α:=fun c b d a=>ite (decide (a < d)) (ite (0 <= a /\ a < (b.length : Int)) (ite (decide ((b.getD a.toNat 0) >= 97)) (j0 Nx c (wrap .u64 ((wrap .u64 (wrap .u8 ((b.getD a.toNat 0) - 97))) + 10)) b d a) (j0 Nx c (wrap .u64 (wrap .u8 ((b.getD a.toNat 0) - 48))) b d a)) none) (Xt0 c)
def l0 (k : Nat) (Xt0 : gI α) : Nat->sP α
 | 0=>kz (S:=S1)
 | n + 1=>bq (l0 k Xt0 n) Xt0
def S4 : Px:=⟨34,[sd 2 T7],[]⟩
def j1 (Rt : gI α) : gI α:=fun a=>Rt a
def top (k : Nat) (Rt : gI α) (a : Int) : Option α:=ite (0 <= (wrap .i64 (16 * a)) /\ (wrap .i64 (16 * a)) <= (wrap .i64 ((wrap .i64 (16 * a)) + 16)) /\ (wrap .i64 ((wrap .i64 (16 * a)) + 16)) <= (Qy.length : Int)) (l0 k (j1 Rt) k 0 (ay Qy (wrap .i64 (16 * a)) (wrap .i64 ((wrap .i64 (16 * a)) + 16))) ((ay Qy (wrap .i64 (16 * a)) (wrap .i64 ((wrap .i64 (16 * a)) + 16))).length : Int) 0) none
def run:=top fuel (fun a=>some a)
def F : Fn:=fo [T1] T7 run
def w0 (k : Nat) (Nx : K S1 α) (Xt0 : K S3 α) : List (Nat × ee α):=[(36,.j S2 (j0 Nx))]
def w (k : Nat) (Rt : K S4 α) : List (Nat × ee α):=[(44,.j S3 (j1 Rt)),(37,.l S1 (l0 k (j1 Rt)) fun n=>w0 k (l0 k (j1 Rt) n) (j1 Rt))]
noncomputable def c : Cf:=cn 220 F ⟨Tryz.f220,[9,11],[],[],[],[(2,1,2),(1,1,3),(4,7169,3),(9,7169,3),(24,7177,3),(30,1,3)],[],[],0⟩ S4 top (fun a=>some a) w bY Tryz.func220
end Go.Bx.aD
namespace Go.Bx.bp
def S1 : Px:=⟨164,[sr 1,sr 2,sd 16 T1],[sc 1 ln,sc 2 ln]⟩
def S2 : Px:=⟨164,[sr 1,sr 2,sd 3 T1,sr 4,sd 16 T1,sd 19 T1],[sc 1 ln,sc 2 ln,sc 4 Od]⟩
def S3 : Px:=⟨164,[sr 1,sr 2,sd 3 T1,sr 4,sd 16 T1],[sc 1 ln,sc 2 ln,sc 4 Od]⟩
def me (Nx : sQ α) (Xt2 : NC α) : sQ α:=fun c d a b e f=>ite (decide (a < 5)) (ite (0 <= a /\ a < (25 : Int)) (ite (0 <= (wrap .i64 (a + 5)) /\ (wrap .i64 (a + 5)) < (25 : Int)) (ite (0 <= (wrap .i64 (a + 10)) /\ (wrap .i64 (a + 10)) < (25 : Int)) (ite (0 <= (wrap .i64 (a + 15)) /\ (wrap .i64 (a + 15)) < (25 : Int)) (ite (0 <= (wrap .i64 (a + 20)) /\ (wrap .i64 (a + 20)) < (25 : Int)) (ite (0 <= a /\ a < (5 : Int)) (Nx c d (wrap .i64 (a + 1)) b e (f.set a.toNat (ae .u64 (ae .u64 (ae .u64 (ae .u64 (b.getD a.toNat 0) (b.getD (wrap .i64 (a + 5)).toNat 0)) (b.getD (wrap .i64 (a + 10)).toNat 0)) (b.getD (wrap .i64 (a + 15)).toNat 0)) (b.getD (wrap .i64 (a + 20)).toNat 0)))) none) none) none) none) none) none) (Xt2 c d b e f)
def l1 (k : Nat) (Xt2 : NC α) : Nat->sQ α
 | 0=>kz (S:=S2)
 | n + 1=>me (l1 k Xt2 n) Xt2
def S4 : Px:=⟨164,[sr 1,sr 2,sd 3 T1,sr 4,sd 16 T1,sd 48 T1],[sc 1 ln,sc 2 ln,sc 4 Od]⟩
def S5 : Px:=⟨164,[sr 1,sr 2,sd 3 T1,sr 4,sd 6 T1,sd 7 T7,sd 8 T1,sd 16 T1,sd 48 T1],[sc 1 ln,sc 2 ln,sc 4 Od]⟩
def Tw (Nx : KR α) (Xt6 : sQ α) : KR α:=fun d b e a f g c h i=>ite (decide (a < 25)) (ite (0 <= (wrap .i64 (b + a)) /\ (wrap .i64 (b + a)) < (25 : Int)) (ite (0 <= (wrap .i64 (b + a)) /\ (wrap .i64 (b + a)) < (25 : Int)) (Nx d b e (wrap .i64 (a + 5)) f g (c.set (wrap .i64 (b + a)).toNat (ae .u64 (c.getD (wrap .i64 (b + a)).toNat 0) e)) h i) none) none) (Xt6 d f g c h i)
def l3 (k : Nat) (Xt6 : sQ α) : Nat->KR α
 | 0=>kz (S:=S5)
 | n + 1=>Tw (l3 k Xt6 n) Xt6
def j1 (Nx : sQ α) : sQ α:=fun a b c d e f=>Nx a b (wrap .i64 (c + 1)) d e f
def S6 : Px:=⟨164,[sr 1,sr 2,sd 3 T1,sd 16 T1],[sc 1 ln,sc 2 ln]⟩
def BR (k : Nat) (Nx : sQ α) (Xt4 : xD α) : sQ α:=fun c d a e f b=>ite (decide (a < 5)) (ite (0 <= (tmod (wrap .i64 (a + 4)) 5) /\ (tmod (wrap .i64 (a + 4)) 5) < (5 : Int)) (ite (0 <= (tmod (wrap .i64 (a + 1)) 5) /\ (tmod (wrap .i64 (a + 1)) 5) < (5 : Int)) ((dU.run (b.getD (tmod (wrap .i64 (a + 1)) 5).toNat 0) 1).bind fun g=>l3 k (j1 Nx) k c a (ae .u64 (b.getD (tmod (wrap .i64 (a + 4)) 5).toNat 0) g) 0 d a e f b) none) none) (Xt4 c d e f)
def l2 (k : Nat) (Xt4 : xD α) : Nat->sQ α
 | 0=>kz (S:=S4)
 | n + 1=>BR k (l2 k Xt4 n) Xt4
def S7 : Px:=⟨164,[sr 1,sr 2,sd 3 T1,sd 9 T1,sd 10 T1,sd 11 T7,sd 16 T1,sd 78 T1],[sc 1 ln,sc 2 ln]⟩
def Ub (Nx : K1 α) (Xt8 : xD α) : K1 α:=fun e b a h f c d g=>ite (decide (c < 24)) (ite (0 <= (wrap .i64 (a + (wrap .i64 (5 * (tmod (wrap .i64 ((wrap .i64 (2 * b)) + (wrap .i64 (3 * a)))) 5))))) /\ (wrap .i64 (a + (wrap .i64 (5 * (tmod (wrap .i64 ((wrap .i64 (2 * b)) + (wrap .i64 (3 * a)))) 5))))) < (25 : Int)) ((dU.run h (wrap .i64 (tdiv (wrap .i64 ((wrap .i64 (c + 1)) * (wrap .i64 (c + 2)))) 2))).bind fun i=>ite (0 <= (wrap .i64 (a + (wrap .i64 (5 * (tmod (wrap .i64 ((wrap .i64 (2 * b)) + (wrap .i64 (3 * a)))) 5))))) /\ (wrap .i64 (a + (wrap .i64 (5 * (tmod (wrap .i64 ((wrap .i64 (2 * b)) + (wrap .i64 (3 * a)))) 5))))) < (25 : Int)) (Nx e a (tmod (wrap .i64 ((wrap .i64 (2 * b)) + (wrap .i64 (3 * a)))) 5) (d.getD (wrap .i64 (a + (wrap .i64 (5 * (tmod (wrap .i64 ((wrap .i64 (2 * b)) + (wrap .i64 (3 * a)))) 5))))).toNat 0) f (wrap .i64 (c + 1)) (d.set (wrap .i64 (a + (wrap .i64 (5 * (tmod (wrap .i64 ((wrap .i64 (2 * b)) + (wrap .i64 (3 * a)))) 5))))).toNat i) g) none) none) (Xt8 e f d g)
def l4 (k : Nat) (Xt8 : xD α) : Nat->K1 α
 | 0=>kz (S:=S7)
 | n + 1=>Ub (l4 k Xt8 n) Xt8
def S8 : Px:=⟨164,[sr 1,sr 2,sd 3 T1,sd 13 T1,sd 16 T1],[sc 1 ln,sc 2 ln]⟩
def S9 : Px:=⟨164,[sr 1,sr 2,sd 3 T1,sd 13 T1,sr 14,sd 16 T1,sd 132 T1],[sc 1 ln,sc 2 ln,sc 14 Od]⟩
def UD (Nx : LK α) (Xt12 : zY α) : LK α:=fun d b e a f g c=>ite (decide (a < 5)) (ite (0 <= a /\ a < (5 : Int)) (ite (0 <= (tmod (wrap .i64 (a + 1)) 5) /\ (tmod (wrap .i64 (a + 1)) 5) < (5 : Int)) (ite (0 <= (tmod (wrap .i64 (a + 2)) 5) /\ (tmod (wrap .i64 (a + 2)) 5) < (5 : Int)) (ite (0 <= (wrap .i64 (b + a)) /\ (wrap .i64 (b + a)) < (25 : Int)) (Nx d b e (wrap .i64 (a + 1)) (f.set (wrap .i64 (b + a)).toNat (ae .u64 (c.getD a.toNat 0) (cF .u64 (ae .u64 18446744073709551615 (c.getD (tmod (wrap .i64 (a + 1)) 5).toNat 0)) (c.getD (tmod (wrap .i64 (a + 2)) 5).toNat 0)))) g c) none) none) none) none) (Xt12 d b e f g)
def l6 (k : Nat) (Xt12 : zY α) : Nat->LK α
 | 0=>kz (S:=S9)
 | n + 1=>UD (l6 k Xt12 n) Xt12
def j4 (Nx : zY α) : zY α:=fun a b c d e=>Nx a (wrap .i64 (b + 5)) c d e
def Uj (k : Nat) (Nx : zY α) (Xt10 : xD α) : zY α:=fun c a d b e=>ite (decide (a < 25)) (ite (0 <= a /\ a < (25 : Int)) (ite (0 <= (wrap .i64 (a + 1)) /\ (wrap .i64 (a + 1)) < (25 : Int)) (ite (0 <= (wrap .i64 (a + 2)) /\ (wrap .i64 (a + 2)) < (25 : Int)) (ite (0 <= (wrap .i64 (a + 3)) /\ (wrap .i64 (a + 3)) < (25 : Int)) (ite (0 <= (wrap .i64 (a + 4)) /\ (wrap .i64 (a + 4)) < (25 : Int)) (l6 k (j4 Nx) k c a d 0 b e [(b.getD a.toNat 0),(b.getD (wrap .i64 (a + 1)).toNat 0),(b.getD (wrap .i64 (a + 2)).toNat 0),(b.getD (wrap .i64 (a + 3)).toNat 0),(b.getD (wrap .i64 (a + 4)).toNat 0)]) none) none) none) none) none) (Xt10 c d b e)
def l5 (k : Nat) (Xt10 : xD α) : Nat->zY α
 | 0=>kz (S:=S8)
 | n + 1=>Uj k (l5 k Xt10 n) Xt10
def j6 (Nx : tL α) : tL α:=fun a b c=>Nx (wrap .i64 (a + 1)) b c
def j5 (Nx : tL α) : xD α:=fun b c a d=>(aD.run b).bind fun e=>j6 Nx c (a.set 0 (ae .u64 (a.getD 0 0) e)) d
def j3 (k : Nat) (Nx : tL α) : xD α:=fun a b c d=>l5 k (j5 Nx) k a 0 b c d
def j2 (k : Nat) (Nx : tL α) : xD α:=fun b c a d=>l4 k (j3 k Nx) k b 1 0 (a.getD 1 0) c 0 a d
def j0 (k : Nat) (Nx : tL α) : NC α:=fun a b c d e=>l2 k (j2 k Nx) k a b 0 c d e
def TJ : Px:=⟨164,[sr 1,sr 2],[sc 1 ln,sc 2 ln]⟩
def bq (k : Nat) (Nx : tL α) (Xt0 : ff α) : tL α:=fun a b c=>ite (decide (a < 24)) (l1 k (j0 k Nx) k a a 0 b c [0,0,0,0,0]) (Xt0 b c)
def l0 (k : Nat) (Xt0 : ff α) : Nat->tL α
 | 0=>kz (S:=S1)
 | n + 1=>bq k (l0 k Xt0 n) Xt0
def TH : Px:=⟨164,[sr 2],[sc 2 ln]⟩
def j7 (Rt : cf α) : ff α:=fun a b=>Rt a
def top (k : Nat) (Rt : cf α) (a : D1) : Option α:=l0 k (j7 Rt) k 0 a (replicate 25 0)
def run:=top fuel (fun a=>some a)
def F : Fn:=fo [ln] ln run
def w2 (k : Nat) (Nx : K S4 α) (Xt4 : K S6 α) : List (Nat × ee α):=[(76,.j S4 (j1 Nx)),(181,.l S5 (l3 k (j1 Nx)) fun _=>[])]
def w5 (k : Nat) (Nx : K S8 α) (Xt10 : K S6 α) : List (Nat × ee α):=[(116,.j S8 (j4 Nx)),(373,.l S9 (l6 k (j4 Nx)) fun _=>[])]
def w0 (k : Nat) (Nx : K S1 α) (Xt0 : K TJ α) : List (Nat × ee α):=[(148,.j S1 (j6 Nx)),(144,.j S6 (j5 Nx)),(325,.l S8 (l5 k (j5 Nx)) fun n=>w5 k (l5 k (j5 Nx) n) (j5 Nx)),(108,.j S6 (j3 k Nx)),(253,.l S7 (l4 k (j3 k Nx)) fun _=>[]),(80,.j S6 (j2 k Nx)),(133,.l S4 (l2 k (j2 k Nx)) fun n=>w2 k (l2 k (j2 k Nx) n) (j2 k Nx)),(44,.j S3 (j0 k Nx)),(73,.l S2 (l1 k (j0 k Nx)) fun _=>[])]
def w (k : Nat) (Rt : K TH α) : List (Nat × ee α):=[(152,.j TJ (j7 Rt)),(25,.l S1 (l0 k (j7 Rt)) fun n=>w0 k (l0 k (j7 Rt) n) (j7 Rt))]
noncomputable def c : Cf:=cn 216 F ⟨Tryz.f216,[11,19,20,27,29,36,37,38],[dU.c,aD.c],[],[],[(2,1,2),(1,3,1),(4,32771,1),(31,32775,1),(34,36871,1),(37,36871,1),(40,2722258935367507707706996859454145736711,1),(25,32775,1),(28,151115727451828646872839,1),(13,32775,1),(16,140737488388111,1),(19,140737488388111,1),(22,140737488388335,1),(7,32783,1),(10,294927,1),(6,32771,1),(18,294927,1),(30,32783,1),(33,140737488388111,1),(45,140737488388335,1),(54,140737488388111,1),(57,32775,1),(63,151115727451828646872839,1),(78,32775,1),(81,36871,1),(84,36871,1),(93,2722258935367507707706996859454145736711,1),(105,32775,1),(108,32771,1),(111,3,1)],[],[],0⟩ TH top (fun a=>some a) w bY Tryz.func216
end Go.Bx.bp
namespace Go.Bx.d9
def S1 : Px:=⟨30,[sr 1,sr 2,sd 6 SK,sd 7 T1],[sc 1 sk,sc 2 sk]⟩
def S2 : Px:=⟨30,[sr 1,sr 2],[sc 1 sk,sc 2 sk]⟩
def bq (Nx : J7 α) (Xt0 : CK α) : J7 α:=fun c a b d=>ite (decide (a < 136)) (ite (0 <= a /\ a < (136 : Int)) (ite (0 <= (wrap .i64 (tdiv a 8)) /\ (wrap .i64 (tdiv a 8)) < (25 : Int)) (ite (0 <= (wrap .i64 (8 * (tmod a 8)))) (ite (0 <= (wrap .i64 (tdiv a 8)) /\ (wrap .i64 (tdiv a 8)) < (25 : Int)) (Nx c (wrap .i64 (a + 1)) ((b.1.set (wrap .i64 (tdiv a 8)).toNat (ae .u64 (b.1.getD (wrap .i64 (tdiv a 8)).toNat 0) (eR .u64 (wrap .u64 (c.getD a.toNat 0)) (wrap .i64 (8 * (tmod a 8)))))),b.2) d) none) none) none) none) (Xt0 b d)
def l0 (k : Nat) (Xt0 : CK α) : Nat->J7 α
 | 0=>kz (S:=S1)
 | n + 1=>bq (l0 k Xt0 n) Xt0
def S3 : Px:=⟨30,[sr 2],[sc 2 sk]⟩
def j0 (Rt : Qf α) : CK α:=fun a c=>(du.run a.1).bind fun b=>Rt (b,(replicate 136 0),0,())
def top (k : Nat) (Rt : Qf α) (a : qW) : Option α:=l0 k (j0 Rt) k a.2.1 0 a ((replicate 25 0),(replicate 136 0),0,())
def run:=top fuel (fun a=>some a)
def F : Fn:=fo [sk] sk run
def w (k : Nat) (Rt : K S3 α) : List (Nat × ee α):=[(28,.j S2 (j0 Rt)),(25,.l S1 (l0 k (j0 Rt)) fun _=>[])]
noncomputable def c : Cf:=cn 190 F ⟨Tryz.f190,[7],[du.c],[],[],[(2,1,2),(1,3,1),(4,99,1),(6,99,1),(18,3,1)],[],[],0⟩ S3 top (fun a=>some a) w bY Tryz.func190
end Go.Bx.d9
namespace Go.Bx.bc
def S1 : Px:=⟨34,[sd 1 .str,sr 2,sr 4,sd 5 T1],[sc 2 ln,sc 4 ln]⟩
def S2 : Px:=⟨34,[sd 1 .str,sr 2,sr 4,sd 5 T1,sd 6 T7,sd 7 T1],[sc 2 ln,sc 4 ln]⟩
def S3 : Px:=⟨34,[sd 1 .str,sr 2,sr 4,sd 5 T1,sd 6 T7],[sc 2 ln,sc 4 ln]⟩
def me (Nx : MJ α) (Xt2 : Me α) : MJ α:=fun c a d b e f=>ite (decide (b >= 0)) (ite (0 <= (wrap .i64 (a + b)) /\ (wrap .i64 (a + b)) < (c.length : Int)) (Nx c a (wrap .u64 ((wrap .u64 (d * 256)) + (wrap .u64 (c.getD (wrap .i64 (a + b)).toNat 0)))) (wrap .i64 (b - 1)) e f) none) (Xt2 c a d e f)
def l1 (k : Nat) (Xt2 : Me α) : Nat->MJ α
 | 0=>kz (S:=S2)
 | n + 1=>me (l1 k Xt2 n) Xt2
def j1 (Nx : nQ α) : nQ α:=fun a b c d=>Nx a (wrap .i64 (b + 8)) c d
def j0 (Nx : nQ α) : Me α:=fun c a d b e=>ite (0 <= (wrap .i64 (tdiv a 8)) /\ (wrap .i64 (tdiv a 8)) < (25 : Int)) (ite (0 <= (wrap .i64 (tdiv a 8)) /\ (wrap .i64 (tdiv a 8)) < (25 : Int)) (j1 Nx c a (b.set (wrap .i64 (tdiv a 8)).toNat (ae .u64 (b.getD (wrap .i64 (tdiv a 8)).toNat 0) d)) e) none) none
def S4 : Px:=⟨34,[sr 2,sr 4],[sc 2 ln,sc 4 ln]⟩
def bq (k : Nat) (Nx : nQ α) (Xt0 : ff α) : nQ α:=fun d a b c=>ite (decide (a < 136)) (l1 k (j0 Nx) k d a 0 7 b c) (Xt0 b c)
def l0 (k : Nat) (Xt0 : ff α) : Nat->nQ α
 | 0=>kz (S:=S1)
 | n + 1=>bq k (l0 k Xt0 n) Xt0
def S5 : Px:=⟨34,[sr 4],[sc 4 ln]⟩
def j2 (Rt : cf α) : ff α:=fun a c=>(bp.run a).bind fun b=>Rt b
def top (k : Nat) (Rt : cf α) (a b : D1) : Option α:=l0 k (j2 Rt) k b 0 a (replicate 25 0)
def run:=top fuel (fun a=>some a)
def F : Fn:=fo [ln,.str] ln run
def w0 (k : Nat) (Nx : K S1 α) (Xt0 : K S4 α) : List (Nat × ee α):=[(16,.j S1 (j1 Nx)),(40,.j S3 (j0 Nx)),(73,.l S2 (l1 k (j0 Nx)) fun _=>[])]
def w (k : Nat) (Rt : K S5 α) : List (Nat × ee α):=[(44,.j S4 (j2 Rt)),(25,.l S1 (l0 k (j2 Rt)) fun n=>w0 k (l0 k (j2 Rt) n) (j2 Rt))]
noncomputable def c : Cf:=cn 204 F ⟨Tryz.f204,[4,10,11],[bp.c],[],[],[(2,1,4),(1,5,2),(4,27,1),(7,59,1),(10,123,1),(6,27,1),(9,27,1),(18,123,1),(27,59,1),(30,5,2)],[],[],0⟩ S5 top (fun a=>some a) w bY Tryz.func204
end Go.Bx.bc
namespace Go.Bx.ek
def Js : List Nat:=[10]
def C : Ctx:=⟨[(3,T1),(5,qF),(37,T5),(40,T1),(211,SK),(213,sk)],[],[],Pc [],KA,[],CE [],[(2,[2]),(1,[]),(4,[16,17,18]),(12,[16,17,18]),(27,[])],[],[],0,0⟩
def HW (a : qW) : St:=BQ 25 [(0,.data sk a)] []
def AQ (a : Int) : St:=BQ 25 [(2,.data T1 a)] []
def Kf (x16l a b : Int) (c : qW) : St:=BQ 25 [(16,.view 1 [.fld 1] qF 136 x16l 136),(17,.data T1 a),(18,.data T1 b)] [(1,.cell sk (.data sk c) false)]
noncomputable def IQ : Code:=cL (cL (cR (cL (cR (cR (cB Tryz.f189))))))
def M9 : St:=BQ 25 [] []
def bq (Nx : Int->Int->Int->qW->Option α) (Rt : Int->Option α) (Xt0 : Option α) (x16l b a : Int) (c : qW) : Option α :=
 if (decide (a < b)) = true then
  if 0 <= a /\ a < (136 - x16l) then
   if ((List.getD c.2.1 (Int.toNat (x16l + a)) 0) != 0) = true then
    Rt 12
   else
    Nx x16l b (IntKind.i64.wrap (a + 1)) c
  else none
 else
  Xt0
theorem F4 (k : Nat) (next : St->Option α) (Q : Ex->St->Option α) (x16l a b : Int) (c : qW) :
  Rh C k IQ 12 Q next (Kf x16l a b c) = bq (fun x16l a b c=>next (Kf x16l a b c)) (fun d=>Q .ret (AQ d)) (Q (.exit 0) M9) x16l a b c:=rZ Js (by kernel_rfl)
def l0 (k : Nat) (Rt : Int->Option α) (Xt0 : Option α) : Nat->Int->Int->Int->qW->Option α
 | 0,_,_,_,_=>none
 | n + 1,x16l,a,b,c=>bq (l0 k Rt Xt0 n) Rt Xt0 x16l a b c
theorem Fj (k : Nat) (Q : Ex->St->Option α) : ∀ (n : Nat) (x16l a b : Int) (c : qW),iter (Rh C k IQ 12 Q) n (Kf x16l a b c) = l0 k (fun d=>Q .ret (AQ d)) (Q (.exit 0) M9) n x16l a b c
 | 0,_,_,_,_=>rfl
 | n + 1,x16l,a,b,c=>(Cq _ _ _).trans ((F4 k _ Q x16l a b c).trans (congrArg (fun N=>bq N (fun d=>Q .ret (AQ d)) (Q (.exit 0) M9) x16l a b c) (by funext; exact Fj k Q n _ _ _ _)))
theorem yq (k : Nat) (Rt : Int->Option α) (Xt0 : Option α) (Rtq : Int->Option α) (Xt0q : Option α) (hRt : ∀ (a : Int),Rt a = Rtq a) (hXt0 : Xt0 = Xt0q) (n : Nat) (x16l b c : Int) (d : qW) : l0 k Rt Xt0 n x16l b c d = l0 k Rtq Xt0q n x16l b c d:=by
 obtain rfl : Rt = Rtq:=by funext a; exact hRt a
 obtain rfl : Xt0 = Xt0q:=hXt0
 rfl
noncomputable def IL : Code:=cR (cR (cR (cB Tryz.f189)))
def ON : St:=BQ 25 [] []
def j0 (Rt : Int->Option α) : Option α :=
 Rt 0
theorem DR (k : Nat) (Q : Ex->St->Option α) :
  (den C k) IL Q ON = j0 (fun a=>Q .ret (AQ a)):=rZ Js (by kernel_rfl)
theorem a0 (k : Nat) (Q : Ex->St->Option α) (x16l c d : Int) (e : qW) :
  (lp C k) IQ (sE C 0 (sq (den C k) (lp C k) Js C IL Q)) (Kf x16l c d e) = l0 k (fun a=>(fun a=>Q .ret (AQ a)) a) (j0 (fun a=>Q .ret (AQ a))) k x16l c d e :=
 (H2 12 (by kernel_rfl)).trans ((Fj k _ k x16l c d e).trans (yq k _ _ _ _ (fun a=>(by kernel_rfl)) (Eq.trans (b:=(den C k) IL Q ON) (by kernel_rfl) (by simp only [DR])) k x16l c d e))
def top (k : Nat) (Rt : Int->Option α) (a : qW) : Option α :=
 if (cond (decide (a.2.2.1 < 0)) true (decide (a.2.2.1 >= 136))) = true then
  Rt 12
 else
  if 0 <= a.2.2.1 /\ a.2.2.1 <= (136 : Int) /\ (136 : Int) <= (136 : Int) then
   l0 k (fun b=>Rt b) (j0 Rt) k a.2.2.1 ((ay a.2.1 a.2.2.1 136).length : Int) 0 a
  else none
theorem tG (k : Nat) (Q : Ex->St->Option α) (a : qW) :
  (den C k) (cB Tryz.f189) Q (HW a) = top k (fun b=>Q .ret (AQ b)) a:=by
 have h : ∀ (D L : DT α),pL D L Js C (cB Tryz.f189) Q (HW a) =
    if (cond (decide (a.2.2.1 < 0)) true (decide (a.2.2.1 >= 136))) = true then
     Q .ret (AQ 12)
    else
     if 0 <= a.2.2.1 /\ a.2.2.1 <= (136 : Int) /\ (136 : Int) <= (136 : Int) then
      L IQ (sE C 0 (sq D L Js C IL Q)) (Kf a.2.2.1 ((ay a.2.1 a.2.2.1 136).length : Int) 0 a)
     else none:=by
  intro D L; kernel_rfl
 have h2:=via (k:=k) h
 refine h2.trans ?_
 simp only [a0]
 first | rfl | kernel_rfl
def run (a : qW) : Option (Int):=top (α:=Int) fuel (fun b=>some b) a
def F : Fn:=⟨TW,T1,false,fun x=>run x.1⟩
theorem Sg : Kp Tryz.prog 189 F /\ mW Tryz.prog 189 :=
 Nd (C:=C) (yV (by kernel_rfl) (by kernel_rfl) (by kernel_rfl) (by kernel_rfl) trivial) (by kernel_rfl) Tryz.func189 (by kernel_rfl) (c:=cB Tryz.f189) (by kernel_rfl) (by kernel_rfl) F (fun x=>by rw [nb]; exact Nat.le_of_ble_eq_true (by kernel_rfl)) (fun x=>(HW x.1)) (fun x=>by kernel_rfl) fun x=>(tG fuel _ x.1).trans (by kernel_rfl)
noncomputable def c : Cf:=co 189 F Sg
end Go.Bx.ek
namespace Go.Bx.bI
def S1 : Px:=⟨23,[sd 2 .bool],[]⟩
def S2 : Px:=⟨23,[sr 1,sd 3 T1],[sc 1 sk]⟩
def S3 : Px:=⟨23,[],[]⟩
def bq (Nx : Ec α) (Rt : kF α) (Xt0 : Option α) : Ec α:=fun a b=>ite (decide (a < 136)) (ite (0 <= a /\ a < (136 : Int)) (ite ((b.2.1.getD a.toNat 0) != 0) (Rt true) (Nx (wrap .i64 (a + 1)) b)) none) (Xt0)
def l0 (k : Nat) (Rt : kF α) (Xt0 : Option α) : Nat->Ec α
 | 0=>kz (S:=S2)
 | n + 1=>bq (l0 k Rt Xt0 n) Rt Xt0
def j0 (Rt : kF α) : Option α:=Rt false
def top (k : Nat) (Rt : kF α) (a : qW) : Option α:=ite (cond (decide (a.2.2.1 < 0)) true (decide (a.2.2.1 > 135))) (Rt true) (l0 k Rt (j0 Rt) k a.2.2.1 a)
def run:=top fuel (fun a=>some a)
def F : Fn:=fo [sk] .bool run
def w (k : Nat) (Rt : K S1 α) : List (Nat × ee α):=[(36,.j S3 (j0 Rt)),(49,.l S2 (l0 k Rt (j0 Rt)) fun _=>[])]
noncomputable def c : Cf:=cn 203 F ⟨Tryz.f203,[9],[],[],[],[(2,1,2),(1,0,0),(4,5,1),(12,5,1),(24,0,0)],[],[],0⟩ S1 top (fun a=>some a) w bY Tryz.func203
end Go.Bx.bI
namespace Go.Bx.fD
def S1 : Px:=⟨37,[sr 4,sd 5 T1],[sc 4 sk]⟩
def S2 : Px:=⟨37,[sr 2,sr 4,sd 15 T5,sd 16 T1,sd 17 T1],[sc 2 sk,sc 4 sk]⟩
def j0 (Nx : MS α) : MS α:=fun a b c d e=>Nx a b (wrap .i64 (c + 1)) d e
def S3 : Px:=⟨37,[sr 2,sr 4],[sc 2 sk,sc 4 sk]⟩
def bq (Nx : MS α) (Xt0 : CK α) : MS α:=fun c d b a e=>ite (decide (b < d)) (ite (0 <= b /\ b < (c.length : Int)) (ite (0 <= a.2.2.1 /\ a.2.2.1 < (136 : Int)) (ite ((wrap .i64 (a.2.2.1 + 1)) == 136) ((d9.run (a.1,(a.2.1.set a.2.2.1.toNat (c.getD b.toNat 0)),(wrap .i64 (a.2.2.1 + 1)),a.2.2.2)).bind fun f=>j0 Nx c d b f e) (j0 Nx c d b (a.1,(a.2.1.set a.2.2.1.toNat (c.getD b.toNat 0)),(wrap .i64 (a.2.2.1 + 1)),a.2.2.2) e)) none) none) (Xt0 a e)
def l0 (k : Nat) (Xt0 : CK α) : Nat->MS α
 | 0=>kz (S:=S2)
 | n + 1=>bq (l0 k Xt0 n) Xt0
def j1 (Rt : Ec α) : CK α:=fun a b=>Rt 0 a
def top (k : Nat) (Rt : Ec α) (a : qW) (b : D1) : Option α:=(ek.run a).bind fun c=>ite (c != 0) (Rt c ((replicate 25 0),(replicate 136 0),0,())) (l0 k (j1 Rt) k b (b.length : Int) 0 a ((replicate 25 0),(replicate 136 0),0,()))
def run:=top fuel (fun a b=>some (b,a,()))
def F : Fn:=fm [sk,T5] [sk,T1] run
def w0 (k : Nat) (Nx : K S2 α) (Xt0 : K S3 α) : List (Nat × ee α):=[(48,.j S2 (j0 Nx))]
def w (k : Nat) (Rt : K S1 α) : List (Nat × ee α):=[(52,.j S3 (j1 Rt)),(61,.l S2 (l0 k (j1 Rt)) fun n=>w0 k (l0 k (j1 Rt) n) (j1 Rt))]
noncomputable def c : Cf:=cn 155 F ⟨Tryz.f155,[12,13],[ek.c,d9.c],[],[],[(2,3,4),(1,5,2),(4,57349,2),(15,57349,2),(33,57349,2),(36,5,2)],[],[],0⟩ S1 top (fun a b=>some (b,a,())) w bY Tryz.func155
end Go.Bx.fD
