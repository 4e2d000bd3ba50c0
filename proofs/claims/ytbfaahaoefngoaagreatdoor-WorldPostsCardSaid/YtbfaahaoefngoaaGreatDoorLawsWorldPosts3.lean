/- Laws about functions of plain data, in plain Lean. -/
import Derived.Test.YtbfaahaoefngoaaGreatDoorLawsWorldPosts1
import Derived.Test.YtbfaahaoefngoaaGreatDoorLawsWorldPosts2
import Derived.Test.YtbfaahaoefngoaaGreatDoorFnWorldPosts0
import Derived.Test.YtbfaahaoefngoaaGreatDoorLawsWorldPosts0
open Bool (and_eq_true)
open Int (toNat)
open List (getElem_mem length_drop length_set replicate)
open Nat (zero_add)
open Option (bind_some)
set_option maxRecDepth 100000
set_option linter.unusedVariables false
set_option linter.unusedSimpArgs false
namespace Go.Bx
open Go
def xf:List Int:=replicate 32 255
theorem rD:jT.run=some xf:=by kernel_rfl
theorem Ad:fX.run=some xf:=by kernel_rfl
theorem mJ:xf.length=32/\∀b∈xf,0<=b/\b<=255:=⟨rfl,fun b hb=>by
 have:=List.eq_of_mem_replicate hb;omega⟩
theorem Qx{l:List Int}(hl:l.length=4)(dl:aM ah l):(jP .u64 (jP .u64 (l.getD 1 0) (l.getD 2 0)) (l.getD 3 0) !=0)=(cond (cond (l.getD 1 0 !=0) true (l.getD 2 0 !=0)) true (l.getD 3 0 !=0)):=by obtain⟨a,b,c,d,rfl⟩:=fF hl;have h1:=dl b (by simp);have h2:=dl c (by simp);have h3:=dl d (by simp);obtain⟨k1,k2⟩:=vY h1 h2;obtain⟨k3,k4⟩:=vY k1 h3;grind
theorem GU{l:List Int}(hl:l.length=4)(dl:aM ah l):ja.run l=some (jP .u64 (jP .u64 (l.getD 1 0) (l.getD 2 0)) (l.getD 3 0) !=0):=by rw[Qx hl dl];rfl
theorem qP{l:List Int}(hl:l.length=4)(dl:aM ah l)(n:Int):∃r:List Int×Int×Unit,lR.run l n=some r/\fN.run l n=some r/\r.1.length=4/\aM ah r.1:=by
 obtain⟨r,e1,e2,n1,d1⟩:=xB hl dl n;unfold lR.run lR.top fN.run fN.top;rw[e1,e2];simp only[bind_some];by_cases h0:(r.2.2.1 !=0)=true
 ·rw[if_pos h0,if_pos h0];exact⟨_,rfl,rfl,rfl,Z4.1⟩
 ·rw[if_neg h0,if_neg h0,show aE.run r.2.1=some (az (.arr 4 (.int .u64)) r.2.1 [0,0,0,0]) from rfl,bind_some];by_cases h1:(!(az (.arr 4 (.int .u64)) r.2.1 [0,0,0,0]))=true
  ·rw[if_pos h1,if_pos h1];exact⟨_,rfl,rfl,rfl,Z4.1⟩
  ·rw[if_neg h1,if_neg h1,GU n1 d1,bind_some];by_cases h2:(jP .u64 (jP .u64 (r.1.getD 1 0) (r.1.getD 2 0)) (r.1.getD 3 0) !=0)=true
   ·rw[if_pos h2];exact⟨_,rfl,rfl,rfl,Z4.1⟩
   grind
theorem oB{l:List bu}(h:∀a∈l,a.2.2.2.1.2.1.length<=41)(i:Nat)(a:bu)(ha:a.2.2.2.1.2.1.length<=41):∀b∈l.set i a,b.2.2.2.1.2.1.length<=41:=fun b hb=>by grind
theorem Hx(p:dB)(i:Nat)(hi:i<p.2.2.2.1.length)(hl:p.2.2.2.1.length<=4)(c:ff):fg.run p (i:Int) c=some (p.1,p.2.1,p.2.2.1,p.2.2.2.1.set i ((p.2.2.2.1.getD i A0).1,(p.2.2.2.1.getD i A0).2.1,(p.2.2.2.1.getD i A0).2.2.1,c,(p.2.2.2.1.getD i A0).2.2.2.2),p.2.2.2.2.1,p.2.2.2.2.2.1,p.2.2.2.2.2.2.1,()):=by unfold fg.run fg.top;rw[aK (by omega) (by omega),if_pos (by simp),if_pos (by omega),ae]
theorem Kq(c:ff)(hc:fB c)(hg:iS c=true)(hl:c.2.1.length<=40){w:List Int}(hw:w.length=32):tT.run c w=some (jL w c.2.1,0,()):=by unfold tT.run tT.top;rw[kF _ hc,if_neg (by omega),if_pos hg,bind_some,if_neg (by decide),nu _ hc hl (mF hg) hw];rfl
abbrev Vz:Type:=Int×Int×Int×List (List Int)×Int×(List Int×List Int×List Int×List Int×(List Int×List Int×Bool×Unit)×Unit)×List fx×List bu×List dP×Unit
def SO(ch now:Int)(sn:List (List Int))(cv:List Int×List Int×List Int×List Int×(List Int×List Int×Bool×Unit)×Unit)(z:List fx)(A:Option Vz)(B:Option (dB×Int×Unit)):Prop:=
 ∃(e nx':Int)(l':List bu)(st':List dP)(q:dB),A=some (e,ch,now,sn,nx',cv,z,l',st',())/\B=some (q,e,())/\(e=0->q=(ch,now,z,l',sn,nx',st',()))/\l'.length<=4/\(∀a∈l',a.2.2.2.1.2.1.length<=41)/\st'.length<=257
theorem Me(cv:_)(ch now nx kd hm tc hr:Int)(z:List fx)(l:List bu)(sn:List (List Int))(st:List dP)(wh tk am fe to pp:List Int)(ok:Ae (ch,now,z,l,sn,nx,st,()))(hw:∀a∈l,fB a.2.2.2.1)
  (hwh:wh.length=32/\∀b∈wh,0<=b/\b<=255) (htk:tk.length=32) (hto:to.length=32) (ha:am.length=4/\aM ah am) (hf:fe.length=4/\aM ah fe):
  SO ch now sn cv z (bL.run (kd,wh,tk,hm,am,fe,to,tc,hr,pp,()) ch now sn nx cv z l st) (fu.run (ch,now,z,l,sn,nx,st,()) (kd,wh,tk,hm,am,fe,to,tc,hr,pp,())):=by
 have al:l.length<=4:=ok.al;have sl:st.length<=256:=ok.sl;have hnx:nx=(st.length:Int):=ok.nx;have aa:∀a∈l,a.2.2.2.1.2.1.length<=41:=fun a h=>by have:=(ok.aa a h).1;omega
 unfold bL.run bL.top fu.run fu.top;rw[qN _ _ _ _ _ _ _ _ _ _ al,vT _ _ _ al];simp only[bind_some];have out0:∀(e:Int)(m:List bu),m.length<=4->(∀a∈m,a.2.2.2.1.2.1.length<=41)->e≠0->SO ch now sn cv z (some (e,ch,now,sn,nx,cv,z,m,st,())) (some ((ch,now,z,l,sn,nx,st,()),e,())):=
  fun e m m1 m2 he=>⟨e,nx,m,st,_,rfl,rfl,fun h=>absurd h he,m1,m2,by omega⟩
 have out:∀e:Int,e≠0->SO ch now sn cv z (some (e,ch,now,sn,nx,cv,z,l,st,())) (some ((ch,now,z,l,sn,nx,st,()),e,())):=fun e he=>out0 e l al aa he;cases hA:fA tk hm l 0 with
 |none=>exact out 5 (by decide)
 |some i=>
  have hi:=CY hA;rw[zero_add]at hi;have hm':l.getD i A0∈l:=by rw[getD_eq hi.2];exact getElem_mem hi.2
  have hc:=hw _ hm';have ha40:(l.getD i A0).2.2.2.1.2.1.length<=40:=(ok.aa _ hm').1;simp only[Sum.elim_inl];rw[oe,pB,if_neg (show¬(decide ((i:Int)<0))=true by rw[decide_eq_true_eq];omega)];simp only[bind_some];by_cases h1:(cond (!(dV tc)) true (tc==ch))=true
  ·rw[if_pos h1,if_pos h1];exact out 6 (by decide)
  ·rw[if_neg h1,if_neg h1,nL hf.1 ha.1 hf.2 ha.2,show aE.run am=some (az (.arr 4 (.int .u64)) am [0,0,0,0]) from rfl];simp only[bind_some];obtain⟨o,o1,o2⟩:∃o,aH.run am fe=some o/\decide ((if val ah fe<val ah am then(-1:Int)else if val ah fe>val ah am then 1 else 0)>0)=decide (o<0):=by
    obtain⟨c,c1,c2⟩:=tS ha.1 hf.1 ha.2 hf.2;rw[nL ha.1 hf.1 ha.2 hf.2]at c1;grind
   rw[o2,o1];generalize az (.arr 4 (.int .u64)) am [0,0,0,0]=zb;cases zb with
   |true=>
    have:cond (decide (o<0)) true true=true:=by cases decide (o<0)<;>rfl
    rw[this];exact out 13 (by decide)
   |false=>
    by_cases ho:o<0
    ·rw[decide_eq_true ho];simp only[BEq.rfl,if_true,bind_some,cond_true];rw[decide_eq_true ho];exact out 13 (by decide)
    ·rw[decide_eq_false ho];simp only[BEq.rfl,if_true,bind_some,cond_true,cond_false];rw[decide_eq_false ho,rD,Ad];simp only[BEq.rfl,if_true,bind_some,cond_true,cond_false];by_cases h2:az (.arr 32 (.int .u8)) wh xf=true
     ·rw[if_pos h2,if_pos h2];exact out 13 (by decide)
     ·rw[if_neg h2,if_neg h2,if_pos (show 0<=(i:Int)/\(i:Int)<(l.length:Int) by omega),ae];obtain⟨r1,r1p,r1r,n1,d1⟩:=qP ha.1 ha.2 (l.getD i A0).2.2.1;obtain⟨r2,r2p,r2r,n2,d2⟩:=qP hf.1 hf.2 (l.getD i A0).2.2.1;rw[r1p,r1r];simp only[bind_some];by_cases h3:(r1.2.1 !=0)=true
      ·rw[if_pos h3,if_pos h3];exact out _ (by simpa using h3)
      ·rw[if_neg h3,if_neg h3,r2p,r2r];simp only[bind_some];by_cases h4:(r2.2.1 !=0)=true
       ·rw[if_pos h4,if_pos h4];exact out _ (by simpa using h4)
       ·rw[if_neg h4,if_neg h4];obtain⟨b,b1,b2,bg⟩:=tR _ hc hwh ha;rw[b2];simp only[bind_some];have fin:∀C:ff,C.2.1.length<=41->SO ch now sn cv z
          (bL.j1 (fun x4 c0p0p0 c0p0p1 c0p0p4 c0p0p5 c0p1 c1 c2 c3=>some (x4,c0p0p0,c0p0p1,c0p0p4,c0p0p5,c0p1,c1,c2,c3,())) ch now sn nx cv z (l.set i ((l.getD i A0).1,(l.getD i A0).2.1,(l.getD i A0).2.2.1,C,(l.getD i A0).2.2.2.2)) st (kd,wh,tk,hm,am,fe,to,tc,hr,pp,()) r1.1 r2.1)
          (fu.j1 (fun x5 c4=>some (c4,x5,())) (i:Int) (ch,now,z,l,sn,nx,st,()) (kd,wh,tk,hm,am,fe,to,tc,hr,pp,()) 0 0 [[0,0,0,0],[0,0,0,0],[0,0,0,0]] 0 r1.1 r2.1 C):=by
         intro C hC;unfold bL.j1 fu.j1;rw[Hx (ch,now,z,l,sn,nx,st,()) i hi.2 al C];obtain⟨e,nx',st',t1,t2,t3,_⟩:=yj 1 hm tc 0 r1.1 r2.1 tk to ⟨n1,d1⟩ ⟨n2,d2⟩ htk hto ch now nx sn cv z (l.set i ((l.getD i A0).1,(l.getD i A0).2.1,(l.getD i A0).2.2.1,C,(l.getD i A0).2.2.2.2)) st sl hnx;rw[t1,bind_some,bind_some,t2];exact⟨e,nx',_,st',_,rfl,rfl,fun _=>rfl,by rw[length_set];exact al,oB aa i _ hC,t3⟩
        have hset:∀C:bu,(l.set i C).getD i A0=C:=fun C=>by grind[getD_eq]
        by_cases h5:((l.getD i A0).2.1==ch)=true
        ·rw[if_pos h5,if_pos h5];obtain⟨m,m1,m2,mg⟩:=tZ _ hc hwh mJ ha;rw[m1,m2];simp only[bind_some];unfold bL.j0 fu.j0;by_cases h6:(m.2.1 !=0)=true
         ·rw[if_pos h6,if_pos h6];exact out0 _ _ (by rw[length_set];exact al) (oB aa i _ mg.2) (by simpa using h6)
         ·obtain⟨g1,g2⟩:=xU _ hc hwh mJ ha m1 (by simpa using h6);rw[if_neg h6,if_neg h6,ae,hset,if_pos h5,if_pos h5,rD,Ad];simp only[bind_some];rw[Kq _ mg.1 g1 g2 mJ.1,AV _ g2];simp only[bind_some];obtain⟨k1,k2⟩:=oT xf m.1.2.1 mg.1.2.2;obtain⟨r3,r3p,r3r,n3,d3⟩:=xB k1 k2 (l.getD i A0).2.2.1;rw[r3p,r3r];simp only[bind_some];rw[GU n3 d3];simp only[bind_some];by_cases h7:(jP .u64 (jP .u64 (r3.1.getD 1 0) (r3.1.getD 2 0)) (r3.1.getD 3 0) !=0)=true
          ·rw[if_pos h7,if_pos h7];exact out0 _ _ (by rw[length_set];exact al) (oB aa i _ mg.2) (by decide)
          ·rw[if_neg h7,if_neg h7];exact fin _ mg.2
        ·rw[if_neg h5,if_neg h5,b1];simp only[bind_some];unfold bL.j0 fu.j0;by_cases h6:(b.2.1 !=0)=true
         ·rw[if_pos h6,if_pos h6];exact out0 _ _ (by rw[length_set];exact al) (oB aa i _ bg.2) (by simpa using h6)
         ·rw[if_neg h6,if_neg h6,ae,hset,if_neg h5,if_neg h5];exact fin _ bg.2
theorem Ab{l:List Int}(l1:l.length=4)(d1:aM ah l)(x:Int):∃w,nI.run l x=some (w,KQ (val ah l) x,())/\fE.run l x=some (w,KQ (val ah l) x,())/\w.length=4/\aM ah w:=by obtain⟨w1,e1,n1,d1',v1⟩:=Pd l1 d1 x;obtain⟨w2,e2,n2,d2',v2⟩:=Je l1 d1 x;grind[jG]
abbrev PO:Type:=List Int×List Int×List Int×List Int×(List Int×List Int×Bool×Unit)×Unit
def wc(a:bu)(C:ff):bu:=(a.1,a.2.1,a.2.2.1,C,a.2.2.2.2)
theorem t8(ch now nx:Int)(sn:List (List Int))(cv:PO)(z:List fx)(l:List bu)(st:List dP)(i:Nat){to n:List Int}(hc:fB (l.getD i A0).2.2.2.1)
  (hto:to.length=32/\∀b∈to,0<=b/\b<=255) (hn:n.length=4/\aM ah n):
  ∃r:ff×Int×Unit,vP r/\bJ.run to n (i:Int) l ch now sn nx cv z st=some (r.2.1,(i:Int),(if r.2.1=0 then l.set i (wc (l.getD i A0) r.1)else l),ch,now,sn,nx,cv,z,st,())/\
   (if((l.getD i A0).2.1==ch)=true then eT.run (l.getD i A0).2.2.2.1 xf to n=some r else eB.run (l.getD i A0).2.2.2.1 to n=some r):=by
 obtain⟨m,m1,m2,mg⟩:=tY _ hc hto hn;unfold bJ.run bJ.top;rw[ae,m1];simp only[bind_some];have fin:∀r:ff×Int×Unit,bJ.j0 (fun x6 c0i0 c2 c3p0p0 c3p0p1 c3p0p4 c3p0p5 c3p1 c4 c5=>some (x6,c0i0,c2,c3p0p0,c3p0p1,c3p0p4,c3p0p5,c3p1,c4,c5,())) r.2.1 (i:Int) l ch now sn nx cv z st r.1=some (r.2.1,(i:Int),(if r.2.1=0 then l.set i (wc (l.getD i A0) r.1)else l),ch,now,sn,nx,cv,z,st,()):=fun r=>by
  unfold bJ.j0 bJ.j1;rw[ae];by_cases h:r.2.1=0
  ·rw[if_pos (by simpa using h),if_pos h];rfl
  grind
 by_cases h:((l.getD i A0).2.1==ch)=true
 ·obtain⟨v,v1,v2,vg⟩:=tZ _ hc mJ hto hn;rw[if_pos h,rD];simp only[bind_some];rw[v1];simp only[bind_some];exact⟨v,vg,fin v,by rw[if_pos h];exact v2⟩
 ·rw[if_neg h];exact⟨m,mg,fin m,by rw[if_neg h];exact m2⟩
theorem Pu(v:Int){x:Int}(h:0<=x/\x<78):KQ v x=0\/KQ v x=13:=by unfold KQ;omega
theorem Hj(ch now nx kd hm tc de ix:Int)(sn:List (List Int))(cv:PO)(z:List fx)(l:List bu)(st:List dP)(am fe tk to sy da wh:List Int)(ks:List (List Int))(al:l.length<=4)(aa:∀a∈l,a.2.2.2.1.2.1.length<=40/\0<=a.2.2.1/\a.2.2.1<78)(hw:∀a∈l,fB a.2.2.2.1)
  (ha:am.length=4/\aM ah am) (hf:fe.length=4/\aM ah fe) (hto:to.length=32/\∀b∈to,0<=b/\b<=255) (hwh:wh.length=32/\∀b∈wh,0<=b/\b<=255):
  ∃(e:Int)(l':List bu)(q:dB),fc.run (kd,am,fe,tk,hm,to,tc,de,sy,da,ix,ks,()) wh ch now sn nx cv z l st=some (e,ch,now,sn,nx,cv,z,l',st,())/\
   bG.run (ch,now,z,l,sn,nx,st,()) (kd,am,fe,tk,hm,to,tc,de,sy,da,ix,ks,()) wh=some (q,e,())/\(e=0->q=(ch,now,z,l',sn,nx,st,()))/\l'.length<=4/\(∀a∈l',a.2.2.2.1.2.1.length<=41):=by
 have ab:∀a∈l,a.2.2.2.1.2.1.length<=41:=fun a h=>by have:=(aa a h).1;omega
 unfold fc.run fc.top bG.run bG.top;rw[qN _ _ _ _ _ _ _ _ _ _ al,vT _ _ _ al];simp only[bind_some];cases hA:fA tk hm l 0 with
 |none=>exact⟨5,l,_,rfl,rfl,(fun h=>by cases h),al,ab⟩
 |some i=>
  have hi:=CY hA;rw[zero_add]at hi;have hm':l.getD i A0∈l:=by rw[getD_eq hi.2];exact getElem_mem hi.2
  have hc:=hw _ hm';obtain⟨_,dd⟩:=aa _ hm';simp only[Sum.elim_inl];obtain⟨u,u1,u2,un,ud⟩:=Ab ha.1 ha.2 (l.getD i A0).2.2.1;obtain⟨v,v1,v2,vn,vd⟩:=Ab hf.1 hf.2 (l.getD i A0).2.2.1;rw[if_neg (show¬(decide ((i:Int)<0))=true by rw[decide_eq_true_eq];omega),if_pos (show 0<=(i:Int)/\(i:Int)<(l.length:Int) by omega),ae,u1,u2];simp only[bind_some];rw[v2];simp only[bind_some];rcases Pu (val ah am) dd with hu|hu
  ·rw[hu,if_neg (by decide),v1];simp only[bind_some];rcases Pu (val ah fe) dd with hv|hv
   ·rw[hv,if_neg (by decide),if_neg (by decide)];obtain⟨s,o,s1,s2,sn',sd,_⟩:=oF un vn ud vd;rw[s1,s2];simp only[bind_some];obtain⟨r,rg,rp,rr⟩:=t8 ch now nx sn cv z l st i hc hto ⟨sn',sd⟩;rw[rp];simp only[bind_some];have two:∀K n,bG.l0 (α:=dB×Int×Unit) K (fun x7 c6=>some (c6,x7,())) (bG.j1 fun x7 c6=>some (c6,x7,())) (n+3) (i:Int) [to,wh] 2 0 (ch,now,z,l,sn,nx,st,()) 0 0 [[0,0,0,0],[0,0,0,0],[0,0,0,0]] 0 (l.getD i A0) v s (l.getD i A0).2.2.2.1=
      bG.j0 (bG.l0 K (fun x7 c6=>some (c6,x7,())) (bG.j1 fun x7 c6=>some (c6,x7,())) (n+2)) (fun x7 c6=>some (c6,x7,())) (i:Int) r.2.1 [to,wh] 2 0 (ch,now,z,l,sn,nx,st,()) 0 0 [[0,0,0,0],[0,0,0,0],[0,0,0,0]] 0 (l.getD i A0) v s r.1:=by
     intro K n;simp only[bG.l0,bG.aR];rw[if_pos (by decide),if_pos ⟨by omega,by simp⟩,if_pos (by decide),Ad];simp only[bind_some];by_cases h:((l.getD i A0).2.1==ch)=true
     ·rw[if_pos h]at rr⊢;rw[show [to,wh].getD (toNat 0) (replicate 32 0)=to from rfl,show [s,v].getD (toNat 0) [0,0,0,0]=s from rfl,rr];rfl
     ·rw[if_neg h]at rr⊢;rw[show [to,wh].getD (toNat 0) (replicate 32 0)=to from rfl,show [s,v].getD (toNat 0) [0,0,0,0]=s from rfl,rr];rfl
    obtain⟨k,hk⟩:∃k,fuel=k+3:=⟨fuel-3,by rw[ai]⟩
    rw[hk,two,<-hk];unfold bG.j0;by_cases h6:r.2.1=0
    ·have h6':¬((r.2.1 !=0)=true):=by simpa using h6
     rw[if_neg h6',if_neg h6',if_pos h6];have hset:(l.set i (wc (l.getD i A0) r.1)).getD i A0=wc (l.getD i A0) r.1:=by grind
     obtain⟨t,tg,tp,tr⟩:=t8 ch now nx sn cv z (l.set i (wc (l.getD i A0) r.1)) st i (to:=wh) (n:=v) (by rw[hset];exact rg.1) hwh ⟨vn,vd⟩;rw[hset]at tp tr;rw[tp];simp only[bind_some];have one:∀n,bG.l0 (α:=dB×Int×Unit) fuel (fun x7 c6=>some (c6,x7,())) (bG.j1 fun x7 c6=>some (c6,x7,())) (n+2) (i:Int) [to,wh] 2 (IntKind.i64.wrap (0+1)) (ch,now,z,l,sn,nx,st,()) 0 0 [[0,0,0,0],[0,0,0,0],[0,0,0,0]] 0 (l.getD i A0) v s r.1=
       if t.2.1=0 then(bG.j1 fun x7 c6=>some (c6,x7,())) (i:Int) (ch,now,z,l,sn,nx,st,()) 0 0 [[0,0,0,0],[0,0,0,0],[0,0,0,0]] 0 t.1 else some ((ch,now,z,l,sn,nx,st,()),t.2.1,()):=by
      intro n;rw[show IntKind.i64.wrap (0+1)=1 from rfl];simp only[bG.l0,bG.aR];rw[if_pos (by decide),if_pos ⟨by omega,by simp⟩,if_pos (by decide),Ad];simp only[bind_some];have fin:∀N,bG.j0 (α:=dB×Int×Unit) N (fun x7 c6=>some (c6,x7,())) (i:Int) t.2.1 [to,wh] 2 1 (ch,now,z,l,sn,nx,st,()) 0 0 [[0,0,0,0],[0,0,0,0],[0,0,0,0]] 0 (l.getD i A0) v s t.1=if t.2.1=0 then N (i:Int) [to,wh] 2 2 (ch,now,z,l,sn,nx,st,()) 0 0 [[0,0,0,0],[0,0,0,0],[0,0,0,0]] 0 (l.getD i A0) v s t.1 else some ((ch,now,z,l,sn,nx,st,()),t.2.1,()):=fun N=>by
       unfold bG.j0;by_cases h:t.2.1=0
       ·rw[if_neg (by simpa using h),if_pos h];rfl
       grind
      by_cases h:((l.getD i A0).2.1==ch)=true
      ·rw[if_pos (show((wc (l.getD i A0) r.1).2.1==ch)=true from h)]at tr;rw[if_pos h,show [to,wh].getD (toNat 1) (replicate 32 0)=wh from rfl,show [s,v].getD (toNat 1) [0,0,0,0]=v from rfl,show eT.run r.1 xf wh v=some t from tr];simp only[bind_some];rw[fin];rfl
      ·rw[if_neg (show¬((wc (l.getD i A0) r.1).2.1==ch)=true from h)]at tr;rw[if_neg h,show [to,wh].getD (toNat 1) (replicate 32 0)=wh from rfl,show [s,v].getD (toNat 1) [0,0,0,0]=v from rfl,show eB.run r.1 wh v=some t from tr];simp only[bind_some];rw[fin];rfl
     rw[one];by_cases h7:t.2.1=0
     ·rw[if_pos h7,if_pos h7];unfold bG.j1;rw[Hx (ch,now,z,l,sn,nx,st,()) i hi.2 al t.1,h7,List.set_set];exact⟨0,_,_,rfl,rfl,fun _=>rfl,by rw[length_set];exact al,oB ab i _ tg.2⟩
     ·rw[if_neg h7,if_neg h7];exact⟨_,_,_,rfl,rfl,fun h=>absurd h h7,by rw[length_set];exact al,oB ab i _ rg.2⟩
    ·have h6':(r.2.1 !=0)=true:=by simpa using h6
     rw[if_pos h6',if_pos h6',if_neg h6];exact⟨_,_,_,rfl,rfl,fun h=>absurd h h6,al,ab⟩
   ·rw[hv];exact⟨13,l,_,rfl,rfl,(fun h=>by cases h),al,ab⟩
  ·rw[hu];exact⟨13,l,_,rfl,rfl,(fun h=>by cases h),al,ab⟩
theorem Em{w n:List Int}(hw:w.length=32):∀(R:List eZ),(jL w R=[0,0,0,0]->n=[0,0,0,0])->JH R->(∀x∈R,x.1.length=32)->(ia w n R).length<=R.length
 |[],h,_,_=>by simp[ia,ins,h rfl]
 |a::R,h,hs,hl=>by
  simp only[ia];simp only[jL]at h;split
  ·rename_i hb;rw[if_neg (fun e=>by rw[e,qX]at hb;cases hb)]at h;simpa using Em hw R h hs.2 fun x hx=>hl x (List.mem_cons_of_mem a hx)
  ·rename_i hb;have hb:nk a.1 w=false:=by simpa using hb
   split
   ·unfold ins;split<;>simp
   ·rename_i hne;rw[if_neg hne]at h;rw[h (wz w R (later w hs hb (by rw[hl a (by simp),hw])))];simp[ins]
theorem K9(c:ff)(hc:fB c){w n:List Int}(hw:w.length=32/\∀b∈w,0<=b/\b<=255)(hn:n.length=4/\aM ah n){r}(h:ju.run c w n=some r)(h0:r.2.1=0):iS r.1=true/\r.1.2.1.length<=40:=by
 unfold ju.run ju.top at h;rw[kF _ hc]at h;simp only[bind_some]at h;by_cases h40:c.2.1.length>40
 ·grind
 ·rw[if_neg h40]at h;by_cases hg:iS c=true
  ·rw[if_pos hg,if_neg (by decide),nu _ hc (by omega) (mF hg) hw.1]at h;simp only[bind_some]at h;obtain⟨k1,k2⟩:=oT w c.2.1 hc.2.2;obtain⟨r1,o1,e1,_,n1,d1,v1,f1⟩:=oF k1 hn.1 k2 hn.2;rw[e1]at h;simp only[bind_some]at h;by_cases ho:o1=true
   ·grind
   ·rw[if_neg ho,ng c hc (by omega) hw.1]at h;simp only[bind_some]at h;obtain⟨r2,o2,g1,_,n2,d2,v2,_⟩:=oF hc.1 hn.1 hc.2.1 hn.2;rw[g1]at h;simp only[bind_some]at h;cases h;have hs:=mF hg;have hl:∀x∈c.2.1,x.1.length=32:=fun x hx=>(hc.2.2 x hx).1;have hgi:=(iD c).1 hg;have ht:=B3 c.2.1 c.2.1 [] rfl;rw[List.length_nil,hgi.2]at ht;obtain⟨q1,q2,q3⟩:=EX (w:=w) c.2.1 hc.2.2;have hp:=(dA dO hn.2).1;have hb1:=(dA dO hc.2.1)
    have hb2:=(dA dO k2)
    have hnz:=xW c.2.1 c.2.1 [] rfl hgi.1;have hnz2:Nz (ia w r1 c.2.1):=fun x hx=>by
     rcases uc hx with h|⟨rfl,h⟩
     ·exact hnz x h
     ·exact h
    refine⟨(iD _).2 ⟨I3 _ hnz2 (yn hw.1 _ hs hl) _ [] rfl,?_⟩,?_⟩
    ·have:=B3 (ia w r1 c.2.1) (ia w r1 c.2.1) [] rfl;have:=BU (n:=r1) hw.1 c.2.1 hs hl;have hlt:val ah n<=val ah (jL w c.2.1):=by
      grind
     have v1':val ah r1=val ah (jL w c.2.1)-val ah n:=by rw[v1];exact Int.emod_eq_of_lt (by omega) (by have e4:ah^4=aB:=rfl;rw[hc.1]at hb1;rw[k1]at hb2;omega)
     have v2':val ah r2=val ah c.1-val ah n:=by rw[v2];exact Int.emod_eq_of_lt (by omega) (by have e4:ah^4=aB:=rfl;rw[hc.1]at hb1;rw[k1]at hb2;omega)
     grind
    ·have:=Em (n:=r1) hw.1 c.2.1 (fun e0=>by
      refine jG n1 rfl d1 (by intro b hb;simp at hb;subst hb;decide) ?_;have z0:val ah [0,0,0,0]=0:=rfl;have:=(dA dO d1).1;rw[e0,z0]at v1 f1;have:val ah n=0:=by grind
      rw[v1,this,z0];rfl) hs hl
     show(ia w r1 c.2.1).length<=40;omega
  grind
theorem yw{ch:Int}:∀{l P Q:List bu},(∀a,P.all (sI a)=Q.all (sI a))->ky ch l P=ky ch l Q
 |[],_,_,_=>rfl
 |a::R,P,Q,h=>by simp only[ky,h a];rw[yw (P:=P++[a]) (Q:=Q++[a]) fun b=>by simp only[List.all_append,h b]]
theorem CP{ch:Int}{C:ff}(hC:lW C=0):∀{l P Q:List bu}(i:Nat),(∀a,P.all (sI a)=Q.all (sI a))->ky ch l P=true->ky ch (l.set i ((l.getD i A0).1,(l.getD i A0).2.1,(l.getD i A0).2.2.1,C,())) Q=true
 |[],_,_,_,_,_=>rfl
 |a::R,P,Q,0,hq,h=>by
  simp only[ky,and_eq_true,List.set_cons_zero,List.getD_cons_zero]at h⊢;refine⟨⟨?_,?_⟩,?_⟩
  ·have:=h.1.1;simp only[K1,and_eq_true,beq_iff_eq]at this⊢;grind
  ·rw[<-hq];exact h.1.2
  ·rw[<-h.2];exact(yw fun b=>by simp only[List.all_append,hq b];rfl).symm
 |a::R,P,Q,i+1,hq,h=>by
  simp only[ky,and_eq_true,List.set_cons_succ,List.getD_cons_succ]at h⊢;refine⟨⟨h.1.1,?_⟩,CP hC i ?_ h.2⟩
  ·rw[<-hq];exact h.1.2
  ·intro b;simp[List.all_append,hq]
def AG(ch:Int)(l:List bu):Prop:=ky ch l []=true/\∀a∈l,fB a.2.2.2.1
theorem MF{ch:Int}{C:ff}(hC:lW C=0)(hk:fB C){l:List bu}(i:Nat)(h:AG ch l):AG ch (l.set i ((l.getD i A0).1,(l.getD i A0).2.1,(l.getD i A0).2.2.1,C,())):=
 ⟨CP hC i (fun _=>rfl) h.1,fun a ha=>by
  rcases List.mem_or_eq_of_mem_set ha with h'|rfl
  ·exact h.2 a h'
  ·exact hk⟩
theorem qR{C:ff}(h:iS C=true/\C.2.1.length<=40):lW C=0:=by unfold lW;rw[if_neg (by omega),if_pos h.1]
theorem Bz(ch now nx:Int)(sn:List (List Int))(cv:PO)(z:List fx)(l:List bu)(st:List dP)(i:Nat){to n:List Int}(hc:fB (l.getD i A0).2.2.2.1)
  (hto:to.length=32/\∀b∈to,0<=b/\b<=255) (hn:n.length=4/\aM ah n) (hA:AG ch l) {r} (h:bJ.run to n (i:Int) l ch now sn nx cv z st=some r) (h0:r.1=0):
  AG ch r.2.2.1/\r.2.2.1.length=l.length:=by
 obtain⟨m,m1,m2,mg⟩:=tY _ hc hto hn;unfold bJ.run bJ.top at h;rw[ae,m1]at h;simp only[bind_some]at h;have fin:∀r:ff×Int×Unit,bJ.j0 (fun x6 c0i0 c2 c3p0p0 c3p0p1 c3p0p4 c3p0p5 c3p1 c4 c5=>some (x6,c0i0,c2,c3p0p0,c3p0p1,c3p0p4,c3p0p5,c3p1,c4,c5,())) r.2.1 (i:Int) l ch now sn nx cv z st r.1=some (r.2.1,(i:Int),(if r.2.1=0 then l.set i (wc (l.getD i A0) r.1)else l),ch,now,sn,nx,cv,z,st,()):=fun r=>by
  unfold bJ.j0 bJ.j1;rw[ae];by_cases h:r.2.1=0
  ·rw[if_pos (by simpa using h),if_pos h];rfl
  grind
 have done:∀v:ff×Int×Unit,(v.2.1=0->lW v.1=0/\fB v.1)->some (v.2.1,(i:Int),(if v.2.1=0 then l.set i (wc (l.getD i A0) v.1)else l),ch,now,sn,nx,cv,z,st,())=some r->AG ch r.2.2.1/\r.2.2.1.length=l.length:=fun v hv hr=>by cases hr;have hz:v.2.1=0:=h0;rw[if_pos hz];exact⟨MF (hv hz).1 (hv hz).2 i hA,length_set⟩
 by_cases hb:((l.getD i A0).2.1==ch)=true
 ·obtain⟨v,v1,v2,vg⟩:=tZ _ hc mJ hto hn;rw[if_pos hb,rD]at h;simp only[bind_some]at h;rw[v1]at h;simp only[bind_some]at h;exact done v (fun hz=>⟨qR (xU _ hc mJ hto hn v1 hz),vg.1⟩) ((fin v).symm.trans h)
 ·rw[if_neg hb]at h;exact done m (fun hz=>⟨qR (DB _ hc hto hn m1 hz),mg.1⟩) ((fin m).symm.trans h)
theorem L7(ch now nx kd hm tc de ix:Int)(sn:List (List Int))(cv:PO)(z:List fx)(l:List bu)(st:List dP)(am fe tk to sy da wh:List Int)(ks:List (List Int))(al:l.length<=4)(aa:∀a∈l,a.2.2.2.1.2.1.length<=40/\0<=a.2.2.1/\a.2.2.1<78)(hw:∀a∈l,fB a.2.2.2.1)
  (ha:am.length=4/\aM ah am) (hf:fe.length=4/\aM ah fe) (hto:to.length=32/\∀b∈to,0<=b/\b<=255) (hwh:wh.length=32/\∀b∈wh,0<=b/\b<=255) (hA:AG ch l)
  {r} (h:fc.run (kd,am,fe,tk,hm,to,tc,de,sy,da,ix,ks,()) wh ch now sn nx cv z l st=some r) (h0:r.1=0):
  AG ch r.2.2.2.2.2.2.2.1/\r.2.2.2.2.2.2.2.1.length=l.length:=by
 unfold fc.run fc.top at h;rw[qN _ _ _ _ _ _ _ _ _ _ al]at h;simp only[bind_some]at h;cases hF:fA tk hm l 0 with
 |none=>simp only[hF,Sum.elim_inl,Sum.elim_inr]at h;cases h;exact absurd h0 (show¬((5:Int)=0) by decide)
 |some i=>
  have hi:=CY hF;rw[zero_add]at hi;have hm':l.getD i A0∈l:=by rw[getD_eq hi.2];exact getElem_mem hi.2
  have hc:=hw _ hm';simp only[hF,Sum.elim_inl]at h;obtain⟨u,u1,u2,un,ud⟩:=Ab ha.1 ha.2 (l.getD i A0).2.2.1;obtain⟨v,v1,v2,vn,vd⟩:=Ab hf.1 hf.2 (l.getD i A0).2.2.1;rw[ae,u1]at h;simp only[bind_some]at h;split at h
  ·rename_i hq;cases h;exact absurd h0 (by simpa using hq)
  ·rw[v1]at h;simp only[bind_some]at h;split at h
   ·rename_i hq;cases h;exact absurd h0 (by simpa using hq)
   ·obtain⟨s,o,s1,s2,sn',sd,_⟩:=oF un vn ud vd;rw[s1]at h;simp only[bind_some]at h;obtain⟨r1,rg,rp,rr⟩:=t8 ch now nx sn cv z l st i hc hto ⟨sn',sd⟩;rw[rp]at h;simp only[bind_some]at h;split at h
    ·rename_i hq;cases h;exact absurd h0 (by simpa using hq)
    ·rename_i hq;have hz:r1.2.1=0:=by simpa using hq
     obtain⟨k1,k2⟩:=Bz ch now nx sn cv z l st i hc hto ⟨sn',sd⟩ hA rp hz;rw[if_pos hz]at h k1 k2;have hset:(l.set i (wc (l.getD i A0) r1.1)).getD i A0=wc (l.getD i A0) r1.1:=by grind
     have hc2:fB ((l.set i (wc (l.getD i A0) r1.1)).getD i A0).2.2.2.1:=by rw[hset];exact rg.1
     obtain⟨t,tg,tp,tr⟩:=t8 ch now nx sn cv z (l.set i (wc (l.getD i A0) r1.1)) st i (to:=wh) (n:=v) hc2 hwh ⟨vn,vd⟩;rw[tp]at h;simp only[bind_some]at h;cases h;obtain⟨q1,q2⟩:=Bz ch now nx sn cv z _ st i hc2 hwh ⟨vn,vd⟩ k1 tp h0;exact⟨q1,q2.trans k2⟩
theorem Qc(kd:Int)(am fe tk:List Int)(ho:Int)(to:List Int)(tc de:Int)(hk:kd=1\/kd=2\/kd=3)(ha:am.length=4/\aM ah am)(hf:fe.length=4/\aM ah fe)(htk:tk.length=32)(hto:to.length=32):
  ∃r,du.run (kd,am,fe,tk,ho,to,tc,de,[],[],0,[],())=some r/\r.1.length<=300:=by
 obtain⟨c,c1,c2⟩:=tS hf.1 ha.1 hf.2 ha.2;have bad:∀e:Int,e≠0->cZ.run (kd,am,fe,tk,ho,to,tc,de,[],[],0,[],())=some e->
   ∃r,du.run (kd,am,fe,tk,ho,to,tc,de,[],[],0,[],())=some r/\r.1.length<=300:=fun e he h1=>by
  refine⟨([],e,()),?_,by simp⟩;unfold du.run du.top;rw[h1,bind_some,if_pos (by simpa using he)]
 by_cases h13:kd=1\/kd=3
 ·have e1:=zL kd am fe tk ho to tc de [] [] 0 [] h13 c1;cases lC:QF kd ho tc de [] [] 0 [] c with
  |false=>rw[lC]at e1;exact bad 3 (by decide) e1
  |true=>rw[lC,if_pos rfl]at e1;obtain⟨b1,b2,b3⟩:=OQ lC;unfold du.run du.top;rw[e1,bind_some,if_neg (by decide),ni kd h13,bind_some,Sum.elim_inl,RN _ _ _ _ _ _ _ _ _ _ _ _ _ ha.1 hf.1 htk hto b3,bind_some,if_pos (sF (by simp[Ib,gW,eQ];omega)),p9];refine⟨_,rfl,?_⟩;simp[Ib,gW,eQ];omega
 ·have h2:kd=2:=by omega
  subst h2;have e1:=EF am fe tk ho to tc de [] [] 0 [] (by simp);cases lC:RJ am fe ho to tc de [] [] 0 []with
  |false=>rw[lC]at e1;exact bad 3 (by decide) e1
  |true=>rw[lC,if_pos rfl]at e1;obtain⟨b1,b2,b3⟩:=OO lC;unfold du.run du.top;rw[e1,bind_some,if_neg (by decide),tX,bind_some,Sum.elim_inr,Sum.elim_inl,RM _ _ _ _ _ _ _ _ _ _ _ _ _ htk b3,bind_some,if_pos (sF (by simp[Ia,rk _ b3,eQ];omega)),p9];refine⟨_,rfl,?_⟩;simp[Ia,rk _ b3,eQ];omega
theorem xa{ch:Int}{e:List Int}{b:dP}:∀{l:List dP}{i:Nat},lF ch e l i=true->TQ ch e ((i+l.length:Nat):Int) b=true->lF ch e (l++[b]) i=true
 |[],i,_,h=>by simpa[lF]using h
 |a::R,i,h,hb=>by simp only[lF,and_eq_true,List.cons_append]at h⊢;exact⟨h.1,xa h.2 (by rw[<-hb];congr 2;simp;omega)⟩
theorem B0(kd ho tc de:Int)(am fe tk to:List Int)(hk:kd=1\/kd=2\/kd=3)(ha:am.length=4/\aM ah am)(hf:fe.length=4/\aM ah fe)(htk:tk.length=32)(hto:to.length=32)(ch now nx:Int)(sn:List (List Int))(cv:_)(z:List fx)(l:List bu)(st:List dP)(hs:st.length<=256)(hn:nx=(st.length:Int))
  (hch:dV ch=true) (hnow:1<=now/\now<=1099511627776) (hS:∀m,eM.run ch=some m->lF ch m st 0=true) {r} (h:dJ.run kd am fe tk ho to tc de [] [] 0 [] ch now sn nx cv z l st=some r) (h0:r.1=0):
  r.2.2.2.2.1=(r.2.2.2.2.2.2.2.2.1.length:Int)/\r.2.2.2.2.2.2.2.2.1.length<=256/\∀m,eM.run ch=some m->lF ch m r.2.2.2.2.2.2.2.2.1 0=true:=by
 obtain⟨q,e1,e2⟩:=Qc kd am fe tk ho to tc de hk ha hf htk hto;obtain⟨m,m1,m2⟩:=kQ ch;unfold dJ.run dJ.top at h;rw[e1]at h;simp only[bind_some]at h;by_cases hq:(q.2.1 !=0)=true
 ·rw[if_pos hq]at h;cases h;exact absurd h0 (by simpa using hq)
 ·rw[if_neg hq]at h;by_cases h1:nx=256
  ·rw[if_pos (by simpa using h1)]at h;cases h;exact absurd h0 (show¬((9:Int)=0) by decide)
  ·rw[if_neg (by simpa using h1),m1,bind_some,if_pos (aK (by omega) (by omega))]at h;cases h;have hw:IntKind.i64.wrap (nx+1)=nx+1:=wrap_i64 (by omega) (by omega);refine⟨?_,?_,fun n hm=>?_⟩
   ·show IntKind.i64.wrap (nx+1)=((st++[_]).length:Int)
    rw[hw,hn];simp
   ·show(st++[_]).length<=256;simp;omega
   ·rw[m1]at hm;cases hm;refine xa (hS m m1) ?_;simp only[dV,and_eq_true,decide_eq_true_eq]at hch;have hb:u5 (now,0,ch,m,nx,1,q.1,())=true:=by
     simp only[u5,and_eq_true,wC];omega
    have hl:¬q.1.length>300:=by omega
    simp only[TQ,kA,hb,if_true,if_neg hl,and_eq_true,beq_iff_eq];exact⟨⟨⟨trivial,by omega⟩,trivial⟩,cP _ _ rfl⟩
theorem Jk(cv:PO)(ch now nx kd hm tc hr:Int)(z:List fx)(l:List bu)(sn:List (List Int))(st:List dP)(wh tk am fe to pp:List Int)(al:l.length<=4)(sl:st.length<=256)(hnx:nx=(st.length:Int))(hw:∀a∈l,fB a.2.2.2.1)
  (hwh:wh.length=32/\∀b∈wh,0<=b/\b<=255) (htk:tk.length=32) (hto:to.length=32) (ha:am.length=4/\aM ah am) (hf:fe.length=4/\aM ah fe)
  (hch:dV ch=true) (hnow:1<=now/\now<=1099511627776) (hS:∀m,eM.run ch=some m->lF ch m st 0=true) (hA:AG ch l)
  {r} (h:bL.run (kd,wh,tk,hm,am,fe,to,tc,hr,pp,()) ch now sn nx cv z l st=some r) (h0:r.1=0):
  (AG ch r.2.2.2.2.2.2.2.1/\r.2.2.2.2.2.2.2.1.length<=4)/\r.2.2.2.2.1=(r.2.2.2.2.2.2.2.2.1.length:Int)/\r.2.2.2.2.2.2.2.2.1.length<=256/\∀m,eM.run ch=some m->lF ch m r.2.2.2.2.2.2.2.2.1 0=true:=by
 unfold bL.run bL.top at h;rw[qN _ _ _ _ _ _ _ _ _ _ al]at h;simp only[bind_some]at h;cases hF:fA tk hm l 0 with
 |none=>simp only[hF,Sum.elim_inl,Sum.elim_inr]at h;cases h;exact absurd h0 (show¬((5:Int)=0) by decide)
 |some i=>
  have hi:=CY hF;rw[zero_add]at hi;have hm':l.getD i A0∈l:=by rw[getD_eq hi.2];exact getElem_mem hi.2
  have hc:=hw _ hm';have hset:∀C:bu,(l.set i C).getD i A0=C:=fun C=>by grind[getD_eq]
  simp only[hF,Sum.elim_inl,oe,bind_some]at h;split at h
  ·cases h;exact absurd h0 (show¬((6:Int)=0) by decide)
  ·obtain⟨y5,h5⟩:∃y,cQ.run fe am=some y:=⟨_,nL hf.1 ha.1 hf.2 ha.2⟩
   rw[h5]at h;simp only[bind_some]at h;obtain⟨y6,h6⟩:∃y,(if((cond (decide (y5>0)) true (az (.arr 4 (.int .u64)) am [0,0,0,0]))==false)=true then jT.run else some (replicate 32 0))=some y:=by
    generalize cond (decide (y5>0)) true (az (.arr 4 (.int .u64)) am [0,0,0,0])=c;cases c
    ·exact⟨_,rD⟩
    ·exact⟨_,rfl⟩
   rw[h6]at h;simp only[bind_some]at h;split at h
   ·cases h;exact absurd h0 (show¬((13:Int)=0) by decide)
   ·rw[ae]at h;obtain⟨r1,r1p,r1r,n1,d1⟩:=qP ha.1 ha.2 (l.getD i A0).2.2.1;obtain⟨r2,r2p,r2r,n2,d2⟩:=qP hf.1 hf.2 (l.getD i A0).2.2.1;rw[r1p]at h;simp only[bind_some]at h;split at h
    ·rename_i hq;cases h;exact absurd h0 (by simpa using hq)
    ·rw[r2p]at h;simp only[bind_some]at h;split at h
     ·rename_i hq;cases h;exact absurd h0 (by simpa using hq)
     ·have fin:∀C:ff,lW C=0->fB C->(bL.j1 (fun x4 c0p0p0 c0p0p1 c0p0p4 c0p0p5 c0p1 c1 c2 c3=>some (x4,c0p0p0,c0p0p1,c0p0p4,c0p0p5,c0p1,c1,c2,c3,())) ch now sn nx cv z (l.set i ((l.getD i A0).1,(l.getD i A0).2.1,(l.getD i A0).2.2.1,C,(l.getD i A0).2.2.2.2)) st (kd,wh,tk,hm,am,fe,to,tc,hr,pp,()) r1.1 r2.1)=some r->(AG ch r.2.2.2.2.2.2.2.1/\r.2.2.2.2.2.2.2.1.length<=4)/\r.2.2.2.2.1=(r.2.2.2.2.2.2.2.2.1.length:Int)/\r.2.2.2.2.2.2.2.2.1.length<=256/\∀m,eM.run ch=some m->lF ch m r.2.2.2.2.2.2.2.2.1 0=true:=by
       intro C hC hK h;unfold bL.j1 at h;obtain⟨e,nx',st',t1,t2,t3,_⟩:=yj 1 hm tc 0 r1.1 r2.1 tk to ⟨n1,d1⟩ ⟨n2,d2⟩ htk hto ch now nx sn cv z (l.set i ((l.getD i A0).1,(l.getD i A0).2.1,(l.getD i A0).2.2.1,C,(l.getD i A0).2.2.2.2)) st sl hnx;rw[t1,bind_some]at h;cases h;have tk2:=B0 1 hm tc 0 r1.1 r2.1 tk to (.inl rfl) ⟨n1,d1⟩ ⟨n2,d2⟩ htk hto ch now nx sn cv z _ st sl hnx hch hnow hS t1 h0;exact⟨⟨MF hC hK i hA,by show(l.set i _).length<=4;rw[length_set];exact al⟩,tk2⟩
      split at h
      ·rename_i h5;obtain⟨m,m1,m2,mg⟩:=tZ _ hc hwh mJ ha;rw[rD]at h;simp only[bind_some]at h;rw[m1]at h;simp only[bind_some]at h;unfold bL.j0 at h;split at h
       ·rename_i hq;cases h;exact absurd h0 (by simpa using hq)
       ·rename_i hq;have g:=xU _ hc hwh mJ ha m1 (by simpa using hq);rw[ae,hset,if_pos h5,rD]at h;simp only[bind_some]at h;rw[Kq _ mg.1 g.1 g.2 mJ.1]at h;simp only[bind_some]at h;obtain⟨k1,k2⟩:=oT xf m.1.2.1 mg.1.2.2;obtain⟨r3,r3p,r3r,n3,d3⟩:=xB k1 k2 (l.getD i A0).2.2.1;rw[r3p]at h;simp only[bind_some]at h;split at h
        ·cases h;exact absurd h0 (show¬((9:Int)=0) by decide)
        ·exact fin _ (qR g) mg.1 h
      ·rename_i h5;obtain⟨b,b1,b2,bg⟩:=tR _ hc hwh ha;rw[b1]at h;simp only[bind_some]at h;unfold bL.j0 at h;split at h
       ·rename_i hq;cases h;exact absurd h0 (by simpa using hq)
       ·rename_i hq;rw[ae,hset,if_neg h5]at h;exact fin _ (qR (K9 _ hc hwh ha b1 (by simpa using hq))) bg.1 h
abbrev qb:Type:=Int×(List Int×List Int×Int×Unit)×Unit
abbrev nP:Type:=Int×List qb×dP×Unit
def rz(s:qb):Bool:=me s.1 255&&me s.2.1.2.2.1 255
def pR(x:nP):Int:=if me x.1 4294967295=true then(if x.2.1.length>19 then 1 else if x.2.1.all rz=true then kA x.2.2.1 else 6)else 6
theorem Q3(a b:Int):cond (cond (cond (decide (a<0)) true (decide (a>255))) true (decide (b<0))) true (decide (b>255))= !(me a 255&&me b 255):=by simp only[bS,me,ck];grind
theorem yY{α:Type}(Rt:Int->Option α)(Xt:nP->Option α)(K:Nat)(x:nP)(l:List qb)(hl:l.length<=1000):∀(R P:List qb)(n:Nat),R.length<n->l=P++R->
  ga.l0 K Rt Xt n l (l.length:Int) (P.length:Int) x=if R.all rz=true then Xt x else Rt 6
 |R,P,0,h,_=>by omega
 |[],P,n+1,h,hc=>by simp_all[ga.l0,ga.aR]
 |y::R,P,n+1,h,hc=>by
  have hlen:l.length=P.length+(R.length+1):=by rw[hc];simp
  simp only[ga.l0,ga.aR];have hg:l.getD P.length (0,([0,0,0,0],[0,0,0,0],0,()),())=y:=by rw[hc];exact dk _ _ _ _
  rw[if_pos (dT (by omega)),if_pos (by omega),ax (by omega),ae,hg,Q3];have ih:=yY Rt Xt K x l hl R (P++[y]) n (by simpa using h) (by simp[hc]);rw[List.length_append]at ih;rw[show(me y.1 255&&me y.2.1.2.2.1 255)=rz y from rfl,List.all_cons];grind
theorem zF(x:nP):ga.run x=some (pR x):=by
 unfold ga.run ga.top pR;have h1:cond (decide (x.1<0)) true (decide (x.1>4294967295))= !me x.1 4294967295:=by simp only[bS,me,ck];grind
 rw[h1,IK _ 19 19 rfl];cases me x.1 4294967295 with
 |false=>rfl
 |true=>
  rw[if_neg (by decide),if_pos rfl];by_cases h:x.2.1.length>19
  ·rw[if_pos (by simpa using h),if_pos h]
  ·rw[if_neg (by simpa using h),if_neg h];refine(yY (fun x2=>some x2) (fun c1=>ga.j0 (fun x2=>some x2) c1) fuel x x.2.1 (by omega) x.2.1 [] fuel (by rw[ai];omega) rfl).trans ?_;unfold ga.j0;rw[u6];cases x.2.1.all rz<;>rfl
theorem wP{α:Type}(Rt:Int->Option α)(Xt:nP->Option α)(K:Nat)(x:nP)(l:List qb)(hl:l.length<=1000):∀(R P:List qb)(n:Nat),R.length<n->l=P++R->
  bT.l0 K Rt Xt n l (l.length:Int) (P.length:Int) x=if R.all rz=true then Xt x else Rt 6
 |R,P,0,h,_=>by omega
 |[],P,n+1,h,hc=>by simp_all[bT.l0,bT.aR]
 |y::R,P,n+1,h,hc=>by
  have hlen:l.length=P.length+(R.length+1):=by rw[hc];simp
  have hc1:∀a m:Int,bA.run a m=some (me a m):=fun a m=>rfl;simp only[bT.l0,bT.aR];have hg:l.getD P.length (0,([0,0,0,0],[0,0,0,0],0,()),())=y:=by rw[hc];exact dk _ _ _ _
  rw[if_pos (dT (by omega)),if_pos (by omega),ax (by omega),ae,hg];have ih:=wP Rt Xt K x l hl R (P++[y]) n (by simpa using h) (by simp[hc]);rw[List.length_append]at ih;rw[List.all_cons,hc1,bind_some,hc1,show rz y=(me y.1 255&&me y.2.1.2.2.1 255) from rfl];grind
theorem xX(x:nP):bT.run x=some (pR x):=by
 have hc1:∀a m:Int,bA.run a m=some (me a m):=fun a m=>rfl;unfold bT.run bT.top pR;rw[hc1,bind_some,IK _ 19 19 rfl];cases me x.1 4294967295 with
 |false=>rfl
 |true=>
  rw[if_neg (by decide),if_pos rfl];by_cases h:x.2.1.length>19
  ·rw[if_pos (by simpa using h),if_pos h]
  ·rw[if_neg (by simpa using h),if_neg h];refine(wP (fun x2=>some x2) (fun c1=>bT.j0 (fun x2=>some x2) c1) fuel x x.2.1 (by omega) x.2.1 [] fuel (by rw[ai];omega) rfl).trans ?_;unfold bT.j0;rw[u7];cases x.2.1.all rz<;>rfl
theorem L5{x:nP}(h:pR x=0):(0<=x.1/\x.1<=4294967295)/\x.2.1.length<=19/\(∀s∈x.2.1,(0<=s.1/\s.1<=255)/\(0<=s.2.1.2.2.1/\s.2.1.2.2.1<=255))/\kA x.2.2.1=0:=by
 unfold pR at h;by_cases h1:me x.1 4294967295=true
 ·rw[if_pos h1]at h;by_cases h2:x.2.1.length>19
  ·omega
  ·rw[if_neg h2]at h;by_cases h3:x.2.1.all rz=true
   ·rw[if_pos h3]at h;refine⟨wC.1 h1,by omega,fun s hs=>?_,h⟩;have:=List.all_eq_true.1 h3 s hs;simp_all[rz,wC]
   grind
 grind
end Go.Bx
namespace Go.Bx.Rk
open Go Go.Bx
def TP(b0 b1 b2 b3 b4 b5 b6 b7:Int):Int:=(jP .u64 (jP .u64 (jP .u64 (jP .u64 (jP .u64 (jP .u64 (jP .u64 (jP .u64 0 (fD .u64 (IntKind.u64.wrap b0) 56)) (fD .u64 (IntKind.u64.wrap b1) 48)) (fD .u64 (IntKind.u64.wrap b2) 40)) (fD .u64 (IntKind.u64.wrap b3) 32)) (fD .u64 (IntKind.u64.wrap b4) 24)) (fD .u64 (IntKind.u64.wrap b5) 16)) (fD .u64 (IntKind.u64.wrap b6) 8)) (fD .u64 (IntKind.u64.wrap b7) 0))
def Fy(b0 b1 b2 b3 b4 b5 b6 b7:Int):Int:=(IntKind.u64.wrap ((IntKind.u64.wrap ((IntKind.u64.wrap ((IntKind.u64.wrap ((IntKind.u64.wrap ((IntKind.u64.wrap ((IntKind.u64.wrap ((IntKind.u64.wrap ((IntKind.u64.wrap ((IntKind.u64.wrap ((IntKind.u64.wrap ((IntKind.u64.wrap ((IntKind.u64.wrap ((IntKind.u64.wrap ((IntKind.u64.wrap ((IntKind.u64.wrap (0*256))+(IntKind.u64.wrap b0)))*256))+(IntKind.u64.wrap b1)))*256))+(IntKind.u64.wrap b2)))*256))+(IntKind.u64.wrap b3)))*256))+(IntKind.u64.wrap b4)))*256))+(IntKind.u64.wrap b5)))*256))+(IntKind.u64.wrap b6)))*256))+(IntKind.u64.wrap b7)))
theorem XE(a0 a1 a2 a3 a4 a5 a6 a7 a8 a9 a10 a11 a12 a13 a14 a15 a16 a17 a18 a19 a20 a21 a22 a23 a24 a25 a26 a27 a28 a29 a30 a31:Int):iQ.run [a0,a1,a2,a3,a4,a5,a6,a7,a8,a9,a10,a11,a12,a13,a14,a15,a16,a17,a18,a19,a20,a21,a22,a23,a24,a25,a26,a27,a28,a29,a30,a31]=some [TP a24 a25 a26 a27 a28 a29 a30 a31,TP a16 a17 a18 a19 a20 a21 a22 a23,TP a8 a9 a10 a11 a12 a13 a14 a15,TP a0 a1 a2 a3 a4 a5 a6 a7]:=by kernel_rfl
theorem XF(a0 a1 a2 a3 a4 a5 a6 a7 a8 a9 a10 a11 a12 a13 a14 a15 a16 a17 a18 a19 a20 a21 a22 a23 a24 a25 a26 a27 a28 a29 a30 a31:Int):dp.run [a0,a1,a2,a3,a4,a5,a6,a7,a8,a9,a10,a11,a12,a13,a14,a15,a16,a17,a18,a19,a20,a21,a22,a23,a24,a25,a26,a27,a28,a29,a30,a31]=some [Fy a24 a25 a26 a27 a28 a29 a30 a31,Fy a16 a17 a18 a19 a20 a21 a22 a23,Fy a8 a9 a10 a11 a12 a13 a14 a15,Fy a0 a1 a2 a3 a4 a5 a6 a7]:=by kernel_rfl
theorem vX(i a b:Nat)(hb:b<2^i)(hx:2^i*a+b<2^64):jP .u64 ((2^i*a:Nat):Int) ((b:Nat):Int)=((2^i*a+b:Nat):Int):=by
 have h1:2^i*a<2^64:=by omega
 have h2:b<2^64:=by omega
 show IntKind.u64.wrap (((BitVec.ofInt 64 ((2^i*a:Nat):Int)|||BitVec.ofInt 64 ((b:Nat):Int)).toNat:Nat):Int)=_;rw[BitVec.toNat_or];have e1:(BitVec.ofInt 64 ((2^i*a:Nat):Int)).toNat=2^i*a:=by rw[BitVec.ofInt_natCast,BitVec.toNat_ofNat,Nat.mod_eq_of_lt h1]
 grind[Nat.two_pow_add_eq_or_of_lt,aY]
theorem pD(s:Nat)(p q:Int)(hp:p=2^(s+8))(hq:q=2^s)(hs:s<=56){A b:Int}(hA:0<=A)(hb:0<=b/\b<256)(hlt:A*p+b*q<18446744073709551616):
  jP .u64 (A*p) (fD .u64 (IntKind.u64.wrap b) s)=A*p+b*q:=by
 obtain⟨a,rfl⟩:=Int.eq_ofNat_of_zero_le hA;obtain⟨c,rfl⟩:=Int.eq_ofNat_of_zero_le hb.1;have hc:c<256:=by omega
 have hshl:fD .u64 (IntKind.u64.wrap (c:Int)) s=((c*2^s:Nat):Int):=by unfold fD;rw[aY (x:=(c:Int)) (by omega) (by omega)];rw[show min ((s:Nat):Int).toNat IntKind.u64.bits=s by simp[IntKind.bits];omega];have h56:(2:Nat)^s<=2^56:=Nat.pow_le_pow_right (by omega) hs;have hm:c*2^s<=255*2^56:=Nat.mul_le_mul (by omega) h56;grind[aY]
 have e1:(a:Int)*p=((2^(s+8)*a:Nat):Int):=by rw[hp];push_cast;rw[Int.mul_comm]
 have e2:(c:Int)*q=((c*2^s:Nat):Int):=by rw[hq];push_cast;rfl
 rw[e1,e2]at hlt;rw[hshl,e1,e2,vX (s+8) a (c*2^s) (by rw[Nat.pow_add,Nat.mul_comm];exact Nat.mul_lt_mul_of_pos_left hc (Nat.pow_pos (by omega))) (by omega)]
 push_cast;rfl
theorem Fc{b0 b1 b2 b3 b4 b5 b6 b7:Int}(h0:0<=b0/\b0<256)(h1:0<=b1/\b1<256)(h2:0<=b2/\b2<256)(h3:0<=b3/\b3<256)(h4:0<=b4/\b4<256)(h5:0<=b5/\b5<256)(h6:0<=b6/\b6<256)(h7:0<=b7/\b7<256):TP b0 b1 b2 b3 b4 b5 b6 b7=Fy b0 b1 b2 b3 b4 b5 b6 b7:=by
 unfold TP Fy;have e0:jP .u64 0 (fD .u64 (IntKind.u64.wrap b0) 56)=b0*72057594037927936:=by have:=pD 56 18446744073709551616 72057594037927936 rfl rfl (by omega) (A:=0) (b:=b0) (by omega) h0 (by omega);grind
 have e1:jP .u64 (b0*72057594037927936) (fD .u64 (IntKind.u64.wrap b1) 48)=(b0*256+b1)*281474976710656:=by have:=pD 48 72057594037927936 281474976710656 rfl rfl (by omega) (A:=b0) (b:=b1) (by omega) h1 (by omega);grind
 have e2:jP .u64 ((b0*256+b1)*281474976710656) (fD .u64 (IntKind.u64.wrap b2) 40)=((b0*256+b1)*256+b2)*1099511627776:=by have:=pD 40 281474976710656 1099511627776 rfl rfl (by omega) (A:=(b0*256+b1)) (b:=b2) (by omega) h2 (by omega);grind
 have e3:jP .u64 (((b0*256+b1)*256+b2)*1099511627776) (fD .u64 (IntKind.u64.wrap b3) 32)=(((b0*256+b1)*256+b2)*256+b3)*4294967296:=by have:=pD 32 1099511627776 4294967296 rfl rfl (by omega) (A:=((b0*256+b1)*256+b2)) (b:=b3) (by omega) h3 (by omega);grind
 have e4:jP .u64 ((((b0*256+b1)*256+b2)*256+b3)*4294967296) (fD .u64 (IntKind.u64.wrap b4) 24)=((((b0*256+b1)*256+b2)*256+b3)*256+b4)*16777216:=by have:=pD 24 4294967296 16777216 rfl rfl (by omega) (A:=(((b0*256+b1)*256+b2)*256+b3)) (b:=b4) (by omega) h4 (by omega);grind
 have e5:jP .u64 (((((b0*256+b1)*256+b2)*256+b3)*256+b4)*16777216) (fD .u64 (IntKind.u64.wrap b5) 16)=(((((b0*256+b1)*256+b2)*256+b3)*256+b4)*256+b5)*65536:=by have:=pD 16 16777216 65536 rfl rfl (by omega) (A:=((((b0*256+b1)*256+b2)*256+b3)*256+b4)) (b:=b5) (by omega) h5 (by omega);grind
 have e6:jP .u64 ((((((b0*256+b1)*256+b2)*256+b3)*256+b4)*256+b5)*65536) (fD .u64 (IntKind.u64.wrap b6) 8)=((((((b0*256+b1)*256+b2)*256+b3)*256+b4)*256+b5)*256+b6)*256:=by have:=pD 8 65536 256 rfl rfl (by omega) (A:=(((((b0*256+b1)*256+b2)*256+b3)*256+b4)*256+b5)) (b:=b6) (by omega) h6 (by omega);grind
 have e7:jP .u64 (((((((b0*256+b1)*256+b2)*256+b3)*256+b4)*256+b5)*256+b6)*256) (fD .u64 (IntKind.u64.wrap b7) 0)=(((((((b0*256+b1)*256+b2)*256+b3)*256+b4)*256+b5)*256+b6)*256+b7)*1:=by have:=pD 0 256 1 rfl rfl (by omega) (A:=((((((b0*256+b1)*256+b2)*256+b3)*256+b4)*256+b5)*256+b6)) (b:=b7) (by omega) h7 (by omega);grind
 rw[e0,e1,e2,e3,e4,e5,e6,e7];have f0:IntKind.u64.wrap ((IntKind.u64.wrap (0*256))+(IntKind.u64.wrap b0))=b0:=by grind[aY]
 have f1:IntKind.u64.wrap ((IntKind.u64.wrap (b0*256))+(IntKind.u64.wrap b1))=(b0*256+b1):=by grind[aY]
 have f2:IntKind.u64.wrap ((IntKind.u64.wrap ((b0*256+b1)*256))+(IntKind.u64.wrap b2))=((b0*256+b1)*256+b2):=by grind[aY]
 have f3:IntKind.u64.wrap ((IntKind.u64.wrap (((b0*256+b1)*256+b2)*256))+(IntKind.u64.wrap b3))=(((b0*256+b1)*256+b2)*256+b3):=by grind[aY]
 have f4:IntKind.u64.wrap ((IntKind.u64.wrap ((((b0*256+b1)*256+b2)*256+b3)*256))+(IntKind.u64.wrap b4))=((((b0*256+b1)*256+b2)*256+b3)*256+b4):=by grind[aY]
 have f5:IntKind.u64.wrap ((IntKind.u64.wrap (((((b0*256+b1)*256+b2)*256+b3)*256+b4)*256))+(IntKind.u64.wrap b5))=(((((b0*256+b1)*256+b2)*256+b3)*256+b4)*256+b5):=by grind[aY]
 have f6:IntKind.u64.wrap ((IntKind.u64.wrap ((((((b0*256+b1)*256+b2)*256+b3)*256+b4)*256+b5)*256))+(IntKind.u64.wrap b6))=((((((b0*256+b1)*256+b2)*256+b3)*256+b4)*256+b5)*256+b6):=by grind[aY]
 have f7:IntKind.u64.wrap ((IntKind.u64.wrap (((((((b0*256+b1)*256+b2)*256+b3)*256+b4)*256+b5)*256+b6)*256))+(IntKind.u64.wrap b7))=(((((((b0*256+b1)*256+b2)*256+b3)*256+b4)*256+b5)*256+b6)*256+b7):=by grind[aY]
 simp_all
theorem bn{α:Type}{l:List α}{n:Nat}(h:l.length=n+1):∃a t,l=a::t/\t.length=n:=by
 cases l with
 |nil=>simp at h
 |cons a t=>exact⟨a,t,rfl,by simpa using h⟩
theorem xc(b0 b1 b2 b3 b4 b5 b6 b7:Int):0<=Fy b0 b1 b2 b3 b4 b5 b6 b7/\Fy b0 b1 b2 b3 b4 b5 b6 b7<ah:=by grind[mL,Fy]
theorem C8(y:List Int)(hy:y.length=32)(hb:∀b∈y,0<=b/\b<256):∃r,iQ.run y=some r/\dp.run y=some r/\r.length=4/\aM ah r:=by
 obtain⟨a0,y0,e_0,hy0⟩:=bn hy;subst e_0;obtain⟨a1,y1,e_1,hy1⟩:=bn hy0;subst e_1;obtain⟨a2,y2,e_2,hy2⟩:=bn hy1;subst e_2;obtain⟨a3,y3,e_3,hy3⟩:=bn hy2;subst e_3;obtain⟨a4,y4,e_4,hy4⟩:=bn hy3;subst e_4;obtain⟨a5,y5,e_5,hy5⟩:=bn hy4;subst e_5;obtain⟨a6,y6,e_6,hy6⟩:=bn hy5;subst e_6;obtain⟨a7,y7,e_7,hy7⟩:=bn hy6;subst e_7;obtain⟨a8,y8,e_8,hy8⟩:=bn hy7;subst e_8;obtain⟨a9,y9,e_9,hy9⟩:=bn hy8;subst e_9;obtain⟨a10,y10,e_10,hy10⟩:=bn hy9;subst e_10;obtain⟨a11,y11,e_11,hy11⟩:=bn hy10;subst e_11;obtain⟨a12,y12,e_12,hy12⟩:=bn hy11;subst e_12;obtain⟨a13,y13,e_13,hy13⟩:=bn hy12;subst e_13;obtain⟨a14,y14,e_14,hy14⟩:=bn hy13;subst e_14;obtain⟨a15,y15,e_15,hy15⟩:=bn hy14;subst e_15;obtain⟨a16,y16,e_16,hy16⟩:=bn hy15;subst e_16;obtain⟨a17,y17,e_17,hy17⟩:=bn hy16;subst e_17;obtain⟨a18,y18,e_18,hy18⟩:=bn hy17;subst e_18;obtain⟨a19,y19,e_19,hy19⟩:=bn hy18;subst e_19;obtain⟨a20,y20,e_20,hy20⟩:=bn hy19;subst e_20;obtain⟨a21,y21,e_21,hy21⟩:=bn hy20;subst e_21;obtain⟨a22,y22,e_22,hy22⟩:=bn hy21;subst e_22;obtain⟨a23,y23,e_23,hy23⟩:=bn hy22;subst e_23;obtain⟨a24,y24,e_24,hy24⟩:=bn hy23;subst e_24;obtain⟨a25,y25,e_25,hy25⟩:=bn hy24;subst e_25;obtain⟨a26,y26,e_26,hy26⟩:=bn hy25;subst e_26;obtain⟨a27,y27,e_27,hy27⟩:=bn hy26;subst e_27;obtain⟨a28,y28,e_28,hy28⟩:=bn hy27;subst e_28;obtain⟨a29,y29,e_29,hy29⟩:=bn hy28;subst e_29;obtain⟨a30,y30,e_30,hy30⟩:=bn hy29;subst e_30;obtain⟨a31,y31,e_31,hy31⟩:=bn hy30;subst e_31;have e_y:=List.eq_nil_of_length_eq_zero hy31;subst e_y;have ha0:=hb a0 (by simp);have ha1:=hb a1 (by simp);have ha2:=hb a2 (by simp);have ha3:=hb a3 (by simp);have ha4:=hb a4 (by simp);have ha5:=hb a5 (by simp);have ha6:=hb a6 (by simp);have ha7:=hb a7 (by simp);have ha8:=hb a8 (by simp);have ha9:=hb a9 (by simp);have ha10:=hb a10 (by simp);have ha11:=hb a11 (by simp);have ha12:=hb a12 (by simp);have ha13:=hb a13 (by simp);have ha14:=hb a14 (by simp);have ha15:=hb a15 (by simp);have ha16:=hb a16 (by simp);have ha17:=hb a17 (by simp);have ha18:=hb a18 (by simp);have ha19:=hb a19 (by simp);have ha20:=hb a20 (by simp);have ha21:=hb a21 (by simp);have ha22:=hb a22 (by simp);have ha23:=hb a23 (by simp);have ha24:=hb a24 (by simp);have ha25:=hb a25 (by simp);have ha26:=hb a26 (by simp);have ha27:=hb a27 (by simp);have ha28:=hb a28 (by simp);have ha29:=hb a29 (by simp);have ha30:=hb a30 (by simp);have ha31:=hb a31 (by simp);have s0:=Fc ha0 ha1 ha2 ha3 ha4 ha5 ha6 ha7;have s1:=Fc ha8 ha9 ha10 ha11 ha12 ha13 ha14 ha15;have s2:=Fc ha16 ha17 ha18 ha19 ha20 ha21 ha22 ha23;have s3:=Fc ha24 ha25 ha26 ha27 ha28 ha29 ha30 ha31;refine⟨_,XE _ _ _ _ _ _ _ _ _ _ _ _ _ _ _ _ _ _ _ _ _ _ _ _ _ _ _ _ _ _ _ _,?_,rfl,?_⟩
 ·grind[XF]
 ·rw[s0,s1,s2,s3];exact dz.2 ⟨xc _ _ _ _ _ _ _ _,dz.2 ⟨xc _ _ _ _ _ _ _ _,dz.2 ⟨xc _ _ _ _ _ _ _ _,dz.2 ⟨xc _ _ _ _ _ _ _ _,iv⟩⟩⟩⟩
end Go.Bx.Rk
namespace Go.Bx
open Go
def wid(y:List Int):List Int:=(dp.run y).getD [0,0,0,0]
theorem qm(y:List Int)(hy:y.length=32)(hb:∀b∈y,0<=b/\b<256):iQ.run y=some (wid y)/\dp.run y=some (wid y):=by grind[wid,Rk.C8]
theorem mK(y:List Int)(hy:y.length=32)(hb:∀b∈y,0<=b/\b<256):(wid y).length=4/\aM ah (wid y):=by grind[wid,Rk.C8]
theorem o8(l:List Int)(h:l.length=32):pad l=l:=by simp[pad,h]
theorem rE(y:List Int)(hy:y.length=32)(hb:∀b∈y,0<=b/\b<256):eD.run y=some (wid y):=by unfold eD.run eD.top;rw[qH y (by omega),o8 y hy,bind_some,(qm y hy hb).2,bind_some]
def L3(l:List Int):Int:=l.foldl (fun a b=>a*256+b) 0
def jC(l:List Int):Int:=IntKind.i64.wrap (L3 l)
theorem AW(x:Int):IntKind.i64.wrap x=(x+9223372036854775808)%18446744073709551616-9223372036854775808:=by
 simp only[IntKind.wrap,IntKind.bits,IntKind.signed];simp
 try omega
theorem OT(N b:Int)(hb:0<=b/\b<256):jP .i64 (fD .i64 (IntKind.i64.wrap N) 8) b=IntKind.i64.wrap (N*256+b):=by
 unfold jP fD;have e8:(2:Int)^(min (8:Int).toNat IntKind.i64.bits)=256:=rfl;rw[e8];obtain⟨c,rfl⟩:=Int.eq_ofNat_of_zero_le hb.1;have hc:c<256:=by omega
 obtain⟨m,hm⟩:=Int.eq_ofNat_of_zero_le (show 0<=N%72057594037927936 by omega);have hm2:m<72057594037927936:=by omega
 have h1:(BitVec.ofInt IntKind.i64.bits (IntKind.i64.wrap (IntKind.i64.wrap N*256))).toNat=2^8*m:=by rw[BitVec.toNat_ofInt,show(2^IntKind.i64.bits:Nat)=18446744073709551616 from rfl];grind[AW]
 have h2:(BitVec.ofInt IntKind.i64.bits ((c:Nat):Int)).toNat=c:=by rw[BitVec.toNat_ofInt,show(2^IntKind.i64.bits:Nat)=18446744073709551616 from rfl];omega
 rw[BitVec.toNat_or,h1,h2,<-Nat.two_pow_add_eq_or_of_lt (by omega:c<2^8)];grind[AW]
def gy(l:List Int):Prop:=∀b∈l,0<=b/\b<256
theorem G7{α:Type}(Xt:Int->Option α)(K:Nat)(l:List Int)(hl:l.length<=1000)(hb:gy l):∀(R P:List Int)(n:Nat)(x:Int),R.length<n->l=P++R->
  bf.l0 K Xt n l (IntKind.u64.wrap x) (P.length:Int)=Xt (IntKind.u64.wrap (R.foldl (fun a b=>a*256+b) x))
 |R,P,0,x,h,_=>by omega
 |[],P,n+1,x,h,hc=>by simp_all[bf.l0,bf.aR]
 |y::R,P,n+1,x,h,hc=>by
  have hlen:l.length=P.length+(R.length+1):=by rw[hc];simp
  simp only[bf.l0,bf.aR];have hg:l.getD P.length 0=y:=by rw[hc];exact dk _ _ _ _
  have hy:=hb y (by rw[hc];simp);rw[if_pos (dT (by omega)),if_pos (by omega),ax (by omega),ae,hg];have e:IntKind.u64.wrap ((IntKind.u64.wrap ((IntKind.u64.wrap x)*256))+(IntKind.u64.wrap y))=IntKind.u64.wrap (x*256+y):=by grind[mL]
  rw[e];have ih:=G7 Xt K l hl hb R (P++[y]) n (x*256+y) (by simpa using h) (by simp[hc]);grind
theorem jU(l:List Int)(hl:l.length<=1000)(hb:gy l):bf.run l=some (jC l):=by unfold bf.run bf.top;have:=G7 (fun x3=>bf.j0 (fun x2=>some x2) x3) fuel l hl hb l [] fuel 0 (by rw[ai];omega) rfl;rw[show IntKind.u64.wrap 0=0 from rfl]at this;refine Eq.trans this ?_;grind[mL,AW,bf.j0,jC,L3]
theorem F9{α:Type}(Xt:Int->(List Int×Bool×Unit)->Option α)(K:Nat)(c0:List Int×Bool×Unit)(l:List Int)(hl:l.length<=1000)(hb:∀b∈l,0<=b/\b<256):∀(R P:List Int)(n:Nat)(x:Int),R.length<n->l=P++R->
  aC.l0 K Xt n (IntKind.i64.wrap x) l (l.length:Int) (P.length:Int) c0=Xt (IntKind.i64.wrap (R.foldl (fun a b=>a*256+b) x)) c0
 |R,P,0,x,h,_=>by omega
 |[],P,n+1,x,h,hc=>by simp_all[aC.l0,aC.aR]
 |y::R,P,n+1,x,h,hc=>by
  have hlen:l.length=P.length+(R.length+1):=by rw[hc];simp
  simp only[aC.l0,aC.aR];have hg:l.getD P.length 0=y:=by rw[hc];exact dk _ _ _ _
  have hy:=hb y (by rw[hc];simp);rw[if_pos (dT (by omega)),if_pos (by omega),ax (by omega),ae,hg,wrap_i64 (x:=y) (by omega) (by omega),OT x y hy];have ih:=F9 Xt K c0 l hl hb R (P++[y]) n (x*256+y) (by simpa using h) (by simp[hc]);grind
abbrev gp:Type:=List Int×Bool×Unit
def kj(n:Nat)(s:gp):List Int×gp:=if s.1.length<n then(replicate n 0,([],false,()))else(s.1.take n,(s.1.drop n,s.2))
theorem HJ(n:Nat)(hn:n<=1000)(s:gp):fj.run (n:Int) s=some ((kj n s).1,(kj n s).2,()):=by
 unfold fj.run fj.top kj;by_cases h:s.1.length<n
 ·rw[if_pos (dT (by omega)),if_pos ⟨by omega,rfl,aK (by omega) (by omega)⟩,if_pos h];rfl
 simp_all[if_neg,aA,List.take_of_length_le]
theorem mG(n:Nat)(s:gp):(kj n s).1.length=n:=by unfold kj;grind
theorem nK(n:Nat){s:gp}(h:gy s.1):gy (kj n s).1/\gy (kj n s).2.1:=by
 unfold kj;by_cases hn:s.1.length<n
 ·rw[if_pos hn];refine⟨fun b hb=>?_,fun b hb=>by simp at hb⟩;grind
 ·rw[if_neg hn];exact⟨fun b hb=>h b (List.mem_of_mem_take hb),fun b hb=>h b (List.mem_of_mem_drop hb)⟩
theorem re(n:Nat)(hn:n<=1000)(s:gp)(h:gy s.1):aC.run (n:Int) s=some (jC (kj n s).1,(kj n s).2,()):=by unfold aC.run aC.top;rw[HJ n hn s,bind_some];have:=F9 (fun x5 c0=>aC.j0 (fun x4 c0=>some (x4,c0,())) x5 c0) fuel (kj n s).2 (kj n s).1 (by rw[mG];omega) (nK n h).1 (kj n s).1 [] fuel 0 (by rw[ai,mG];omega) rfl;rw[show IntKind.i64.wrap 0=0 from rfl]at this;exact this
theorem sK(s:gp):eL.run s=some ((kj 32 s).1,(kj 32 s).2,(kj 32 s).1,()):=by unfold eL.run eL.top;have:=HJ 32 (by omega) s;rw[show((32:Nat):Int)=32 from rfl]at this;rw[this,bind_some,EG _ (Nat.le_of_eq (mG _ _)),o8 _ (mG _ _)]
def xg(N:Nat)(s t:gp):Prop:=(s.1.length<N->t=([],false,()))/\(N<=s.1.length->t=(s.1.drop N,s.2))
theorem ld(n:Nat)(s:gp):xg n s (kj n s).2:=by
 unfold kj;constructor
 ·grind
 grind
theorem xg.trans{a b:Nat}{s t u:gp}(h:xg a s t)(g:xg b t u):xg (a+b) s u:=by grind[xg,List.drop_drop]
theorem xg.qe{n:Nat}{s t:gp}(h:xg n s t)(b:gy s.1):gy t.1:=by
 by_cases hn:s.1.length<n
 ·rw[h.1 hn];intro x hx;simp at hx
 ·rw[h.2 (by omega)];exact fun x hx=>b x (List.mem_of_mem_drop hx)
theorem xg.len{n:Nat}{s t:gp}(h:xg n s t):t.1.length<=s.1.length:=by
 by_cases hn:s.1.length<n
 ·rw[h.1 hn];simp
 ·rw[h.2 (by omega)];simp
def Pe(s:gp):gp:=(kj 1 s).2
def Pf(s:gp):gp:=(kj 32 (Pe s)).2
def QY(s:gp):gp:=(kj 32 (Pf s)).2
def QZ(s:gp):gp:=(kj 1 (QY s)).2
theorem Fu(s:gp):xg 1 s (Pe s):=ld 1 s
theorem Fv(s:gp):xg 33 s (Pf s):=(Fu s).trans (ld 32 (Pe s))
theorem KE(s:gp):xg 65 s (QY s):=(Fv s).trans (ld 32 (Pf s))
theorem Fw(s:gp):xg 66 s (QZ s):=(KE s).trans (ld 1 (QY s))
def BR(s:gp):qb:=(jC (kj 1 s).1,(wid (kj 32 (Pe s)).1,wid (kj 32 (Pf s)).1,jC (kj 1 (QY s)).1,()),())
def iG:Nat->gp->List qb×gp
 |0,s=>([],s)
 |m+1,s=>(BR s::(iG m (QZ s)).1,(iG m (QZ s)).2)
theorem pE:∀(m:Nat)(s:gp),xg (66*m) s (iG m s).2
 |0,s=>⟨fun h=>by omega,fun _=>by simp[iG]⟩
 |m+1,s=>by have:=(Fw s).trans (pE m (QZ s));rw[show 66*(m+1)=66+66*m by omega];exact this
def RS(s:gp):gp:=(kj 8 s).2
def RT(s:gp):gp:=(kj 4 (RS s)).2
def Q6(s:gp):gp:=(kj 2 (RT s)).2
def RU(s:gp):gp:=(kj 32 (Q6 s)).2
def RV(s:gp):gp:=(kj 8 (RU s)).2
def HG(s:gp):gp:=(kj 1 (RV s)).2
def j9(s:gp):dP:=(jC (kj 8 s).1,jC (kj 4 (RS s)).1,jC (kj 2 (RT s)).1,(kj 32 (Q6 s)).1,jC (kj 8 (RU s)).1,jC (kj 1 (RV s)).1,(HG s).1,())
theorem KH(s:gp):xg 8 s (RS s):=ld 8 s
theorem KI(s:gp):xg 12 s (RT s):=(KH s).trans (ld 4 (RS s))
theorem KJ(s:gp):xg 14 s (Q6 s):=(KI s).trans (ld 2 (RT s))
theorem KK(s:gp):xg 46 s (RU s):=(KJ s).trans (ld 32 (Q6 s))
theorem KL(s:gp):xg 54 s (RV s):=(KK s).trans (ld 8 (RU s))
theorem Fx(s:gp):xg 55 s (HG s):=(KL s).trans (ld 1 (RV s))
theorem Cw(s:gp)(h:gy s.1):(aC.run 1 s=some (jC (kj 1 s).1,(kj 1 s).2,())/\aC.run 2 s=some (jC (kj 2 s).1,(kj 2 s).2,()))/\(aC.run 4 s=some (jC (kj 4 s).1,(kj 4 s).2,())/\aC.run 8 s=some (jC (kj 8 s).1,(kj 8 s).2,())):=
 ⟨⟨re 1 (by omega) s h,re 2 (by omega) s h⟩,re 4 (by omega) s h,re 8 (by omega) s h⟩
theorem Ga(s:gp)(hb:gy s.1)(hl:s.1.length<=140737488351232):gP.run s=some ((j9 s).1,(j9 s).2.1,(j9 s).2.2.1,(j9 s).2.2.2.1,(j9 s).2.2.2.2.1,(j9 s).2.2.2.2.2.1,HG s,
  (j9 s).1,(j9 s).2.1,(j9 s).2.2.1,(j9 s).2.2.2.1,(j9 s).2.2.2.2.1,(j9 s).2.2.2.2.2.1,(HG s).1,()):=by
 have a6:=(Fx s).len;unfold gP.run gP.top;rw[(Cw s hb).2.2,bind_some];simp only[];rw[show(kj 8 s).2=RS s from rfl,(Cw _ ((KH s).qe hb)).2.1,bind_some];simp only[];rw[show(kj 4 (RS s)).2=RT s from rfl,(Cw _ ((KI s).qe hb)).1.2,bind_some];simp only[];rw[show(kj 2 (RT s)).2=Q6 s from rfl,sK,bind_some];simp only[];rw[show(kj 32 (Q6 s)).2=RU s from rfl,(Cw _ ((KK s).qe hb)).2.2,bind_some];simp only[];rw[show(kj 8 (RU s)).2=RV s from rfl,(Cw _ ((KL s).qe hb)).1.1,bind_some];simp only[];rw[show(kj 1 (RV s)).2=HG s from rfl,if_pos (zQ (show(0+(HG s).1.length)*1<=140737488355328 by omega) (show 0+(HG s).1.length<=140737488355328 by omega))];simp only[j9]
theorem F2{α:Type}(Xt:Int->Int->Int->Int->List Int->Int->Int->Int->Int->Int->Int->List Int->Int->Int->gp->List qb->Option α)(K:Nat)
  (a1 a2 a3 a4:Int) (a5:List Int) (a6 a7 a8 a9 a10 a11:Int) (a12:List Int) (a13 a14:Int) (N:Nat) (hN:N<=255):∀(m i n:Nat)(s:gp)(c:List qb),m<n->i+m=N->c.length=i->gy s.1->
  fL.l0 K Xt n (N:Int) (i:Int) a1 a2 a3 a4 a5 a6 a7 a8 a9 a10 a11 a12 a13 a14 s c=Xt a1 a2 a3 a4 a5 a6 a7 a8 a9 a10 a11 a12 a13 a14 (iG m s).2 (c++(iG m s).1)
 |m,i,0,s,c,h,_,_,_=>by omega
 |0,i,n+1,s,c,h,hi,hc,hb=>by simp_all[fL.l0,fL.aR,iG]
 |m+1,i,n+1,s,c,h,hi,hc,hb=>by simp only[fL.l0,fL.aR];have w1:=qm _ (mG 32 (Pe s)) (nK 32 ((Fu s).qe hb)).1;have w2:=qm _ (mG 32 (Pf s)) (nK 32 ((Fv s).qe hb)).1;rw[if_pos (dT (by omega)),(Cw s hb).1.1,bind_some];simp only[];rw[show(kj 1 s).2=Pe s from rfl,sK,bind_some];simp only[];rw[show(kj 32 (Pe s)).2=Pf s from rfl,w1.1,bind_some,sK,bind_some];simp only[];rw[show(kj 32 (Pf s)).2=QY s from rfl,w2.1,bind_some,(Cw _ ((KE s).qe hb)).1.1,bind_some,if_pos (aK (by omega) (by omega)),ax (by omega)];simp only[];rw[show(kj 1 (QY s)).2=QZ s from rfl,show(jC (kj 1 s).1,(wid (kj 32 (Pe s)).1,wid (kj 32 (Pf s)).1,jC (kj 1 (QY s)).1,()),())=BR s from rfl];refine(F2 Xt K a1 a2 a3 a4 a5 a6 a7 a8 a9 a10 a11 a12 a13 a14 N hN m (i+1) n (QZ s) (c++[BR s]) (by omega) (by omega) (by simp;omega) ((Fw s).qe hb)).trans ?_;grind[iG]
abbrev KV:nP:=(0,[],(0,0,0,replicate 32 0,0,0,[],()),())
def JW(b:List Int):gp:=(kj 1 (b,true,())).2
def PJ(b:List Int):gp:=(kj 4 (JW b)).2
def Il(b:List Int):gp:=(kj 1 (PJ b)).2
theorem zN(b:List Int):xg 1 (b,true,()) (JW b):=ld 1 _
theorem zO(b:List Int):xg 5 (b,true,()) (PJ b):=(zN b).trans (ld 4 (JW b))
theorem qS(b:List Int):xg 6 (b,true,()) (Il b):=(zO b).trans (ld 1 (PJ b))
def vV(b:List Int):Int:=jC (kj 1 (b,true,())).1
def sV(b:List Int):Int:=jC (kj 4 (JW b)).1
def nV(b:List Int):Int:=jC (kj 1 (PJ b)).1
def G1(b:List Int):List qb:=(iG (nV b).toNat (Il b)).1
def yD(b:List Int):gp:=(iG (nV b).toNat (Il b)).2
def pV(b:List Int):nP:=(sV b,G1 b,j9 (yD b),())
def zw(b:List Int):nP×Int×Unit:=
 if(JW b).2.1=true/\vV b≠1 then(KV,3,())
 else if(Il b).2.1=true/\nV b>19 then(KV,1,())
 else if(HG (yD b)).2.1=true then(if pR (pV b)=0 then(pV b,0,())else(KV,pR (pV b),()))
 else(KV,4,())
theorem RI(l:List Int)(h:l.length=1)(hb:gy l):0<=jC l/\jC l<=255/\jC l=l.getD 0 0:=by obtain⟨x,t,rfl,ht⟩:=Rk.bn (n:=0) h;have:=List.eq_nil_of_length_eq_zero ht;subst this;have hx:=hb x (by simp);grind[wrap_i64,jC,L3]
theorem Ik(b:List Int)(hb:gy b)(hl:b.length<=140737488351232):fL.run b=some (zw b):=by
 have hb0:gy ((b,true,()):gp).1:=hb;have hd1:=(zN b).qe hb0;have hd2:=(zO b).qe hb0;have hd3:=(qS b).qe hb0;unfold fL.run fL.top zw;rw[(Cw (b,true,()) hb0).1.1,bind_some];simp only[ck];rw[show(kj 1 (b,true,())).2=JW b from rfl,show jC (kj 1 (b,true,())).1=vV b from rfl];by_cases c1:(JW b).2.1=true/\vV b≠1
 ·grind
 ·rw[if_neg (fun hh=>c1 (by rw[and_eq_true]at hh;exact⟨hh.1,by simpa using hh.2⟩)),if_neg c1];rw[(Cw _ hd1).2.1,bind_some];simp only[];rw[show(kj 4 (JW b)).2=PJ b from rfl,show jC (kj 4 (JW b)).1=sV b from rfl,(Cw _ hd2).1.1,bind_some];simp only[];obtain⟨n1,n2,_⟩:=RI _ (mG 1 (PJ b)) (nK 1 hd2).1;rw[show(kj 1 (PJ b)).2=Il b from rfl,show jC (kj 1 (PJ b)).1=nV b from rfl]at*;by_cases c2:(Il b).2.1=true/\nV b>19
  ·grind
  ·rw[if_neg (fun hh=>c2 (by rw[and_eq_true]at hh;exact⟨hh.1,by simpa using hh.2⟩)),if_neg c2];obtain⟨N,hN⟩:=Int.eq_ofNat_of_zero_le n1;have hN':(nV b).toNat=N:=by rw[hN];rfl
   have a4:xg (6+66*N) (b,true,()) (yD b):=by have:=(qS b).trans (pE N (Il b));grind[yD]
   rw[hN];refine(F2 _ fuel 0 0 0 0 (replicate 32 0) 0 0 _ 0 0 0 (replicate 32 0) 0 0 N (by omega) N 0 fuel _ [] (by rw[ai];omega) (by omega) rfl hd3).trans ?_;unfold fL.j0;rw[show(iG N (Il b)).2=yD b by unfold yD;rw[hN'],show(iG N (Il b)).1=G1 b by unfold G1;rw[hN'],List.nil_append];rw[Ga _ (a4.qe hb0) (Nat.le_trans a4.len hl),bind_some];simp only[];by_cases c3:(HG (yD b)).2.1=true
   ·rw[if_neg (by rw[c3];decide),if_pos c3];rw[show(sV b,G1 b,((j9 (yD b)).1,(j9 (yD b)).2.1,(j9 (yD b)).2.2.1,(j9 (yD b)).2.2.2.1,(j9 (yD b)).2.2.2.2.1,(j9 (yD b)).2.2.2.2.2.1,(HG (yD b)).1,()),())=pV b by simp only[pV,j9],zF,bind_some];grind
   grind
theorem fk{n:Nat}{l:List Int}{u:Bool×Unit}(h:n<=l.length):kj n (l,u)=(l.take n,(l.drop n,u)):=by simp_all[if_neg,kj]
theorem km(l:List Int)(a b:Nat):aA l (a:Int) (b:Int)=(l.drop a).take (b-a):=by simp[aA]
theorem Bp{l:List Int}{n:Nat}(h:n<l.length)(hb:gy l):jC ((l.drop n).take 1)=IntKind.i64.wrap (l.getD n 0):=by
 have e:(l.drop n).take 1=[l.getD n 0]:=by grind[List.drop_eq_getElem_cons]
 simp_all[jC,L3]
theorem Jm{l:List Int}{u:Bool×Unit}(h:66<=l.length)(hb:gy l):BR (l,u)=(IntKind.i64.wrap (l.getD 0 0),(wid (aA l 1 33),wid (aA l 33 65),IntKind.i64.wrap (l.getD 65 0),()),())/\QZ (l,u)=(l.drop 66,u):=by
 have e1:Pe (l,u)=(l.drop 1,u):=by unfold Pe;rw[fk (by omega)]
 have e2:Pf (l,u)=(l.drop 33,u):=by unfold Pf;rw[e1,fk (by rw[length_drop];omega)];simp
 have e3:QY (l,u)=(l.drop 65,u):=by unfold QY;rw[e2,fk (by rw[length_drop];omega)];simp
 have e4:QZ (l,u)=(l.drop 66,u):=by unfold QZ;rw[e3,fk (by rw[length_drop];omega)];simp
 refine⟨?_,e4⟩;have c1:aA l 1 33=(l.drop 1).take 32:=km l 1 33;have c2:aA l 33 65=(l.drop 33).take 32:=km l 33 65;unfold BR;rw[e1,e2,e3,fk (by omega),fk (by rw[length_drop];omega),fk (by rw[length_drop];omega),fk (by rw[length_drop];omega)];have n0:=Bp (n:=0) (l:=l) (by omega) hb;grind[Bp]
theorem H8{l:List Int}{u:Bool×Unit}(h:55<=l.length)(hb:gy l):j9 (l,u)=(jC (aA l 0 8),jC (aA l 8 12),jC (aA l 12 14),aA l 14 46,jC (aA l 46 54),IntKind.i64.wrap (l.getD 54 0),aA l 55 (l.length:Int),())/\HG (l,u)=(l.drop 55,u):=by
 have e1:RS (l,u)=(l.drop 8,u):=by unfold RS;rw[fk (by omega)]
 have e2:RT (l,u)=(l.drop 12,u):=by unfold RT;rw[e1,fk (by rw[length_drop];omega)];simp
 have e3:Q6 (l,u)=(l.drop 14,u):=by unfold Q6;rw[e2,fk (by rw[length_drop];omega)];simp
 have e4:RU (l,u)=(l.drop 46,u):=by unfold RU;rw[e3,fk (by rw[length_drop];omega)];simp
 have e5:RV (l,u)=(l.drop 54,u):=by unfold RV;rw[e4,fk (by rw[length_drop];omega)];simp
 have e6:HG (l,u)=(l.drop 55,u):=by unfold HG;rw[e5,fk (by rw[length_drop];omega)];simp
 refine⟨?_,e6⟩;have c1:aA l 0 8=l.take 8:=km l 0 8;have c2:aA l 8 12=(l.drop 8).take 4:=km l 8 12;have c3:aA l 12 14=(l.drop 12).take 2:=km l 12 14;have c4:aA l 14 46=(l.drop 14).take 32:=km l 14 46;have c5:aA l 46 54=(l.drop 46).take 8:=km l 46 54;have c6:aA l 55 (l.length:Int)=l.drop 55:=by grind[List.take_of_length_le,km]
 unfold j9;rw[e1,e2,e3,e4,e5,e6,fk (by omega),fk (by rw[length_drop];omega),fk (by rw[length_drop];omega),fk (by rw[length_drop];omega),fk (by rw[length_drop];omega),fk (by rw[length_drop];omega)];grind[Bp]
theorem kg{l:List Int}(h:gy l)(n:Nat):gy (l.drop n):=fun b hb=>h b (List.mem_of_mem_drop hb)
theorem mZ{l:List Int}(h:gy l)(n:Nat):gy (l.take n):=fun b hb=>h b (List.mem_of_mem_take hb)
theorem Kr{α:Type}(Xt:List Int->Int->Int->Int->Int->List Int->Int->Int->Int->Int->Int->Int->List Int->Int->Int->List qb->Option α)(K:Nat)
  (a1 a2 a3 a4:Int) (a5:List Int) (a6 a7 a8 a9 a10 a11:Int) (a12:List Int) (a13 a14:Int) (N:Nat) (hN:N<=255):∀(m i n:Nat)(l:List Int)(c:List qb),m<n->i+m=N->c.length=i->gy l->66*m<=l.length->
  cX.l0 K Xt n l (N:Int) (i:Int) a1 a2 a3 a4 a5 a6 a7 a8 a9 a10 a11 a12 a13 a14 c=Xt (l.drop (66*m)) a1 a2 a3 a4 a5 a6 a7 a8 a9 a10 a11 a12 a13 a14 (c++(iG m (l,true,())).1)
 |m,i,0,l,c,h,_,_,_,_=>by omega
 |0,i,n+1,l,c,h,hi,hc,hb,hl=>by simp_all[cX.l0,cX.aR,iG]
 |m+1,i,n+1,l,c,h,hi,hc,hb,hl=>by
  simp only[cX.l0,cX.aR];obtain⟨v1,v2⟩:=Jm (u:=(true,())) (show 66<=l.length by omega) hb;have c1:aA l 1 33=(l.drop 1).take 32:=km l 1 33;have c2:aA l 33 65=(l.drop 33).take 32:=km l 33 65;have c6:aA l 66 (l.length:Int)=l.drop 66:=by grind[List.take_of_length_le,km]
  have w1:=rE (aA l 1 33) (by rw[c1];simp;omega) (by rw[c1];exact mZ (kg hb 1) 32);have w2:=rE (aA l 33 65) (by rw[c2];simp;omega) (by rw[c2];exact mZ (kg hb 33) 32);rw[if_pos (dT (by omega)),if_pos (by omega),if_pos (by omega),w1,bind_some,if_pos (by omega),w2,bind_some,if_pos (by omega),if_pos (aK (by omega) (by omega)),if_pos (by omega),ax (by omega),<-v1,c6];refine(Kr Xt K a1 a2 a3 a4 a5 a6 a7 a8 a9 a10 a11 a12 a13 a14 N hN m (i+1) n (l.drop 66) (c++[BR (l,true,())]) (by omega) (by omega) (by simp;omega) (kg hb 66) (by simp;omega)).trans ?_;grind[iG,List.drop_drop]
theorem Ta(b:List Int)(hb:gy b)(hl:b.length<=140737488351232):cX.run b=some (zw b):=by
 have dead:∀N:Nat,b.length<N->∀s,xg N (b,true,()) s->s=([],false,()):=fun N h s g=>g.1 h;have hN0:∃N:Nat,nV b=N:=by obtain⟨n1,n2,_⟩:=RI _ (mG 1 (PJ b)) (nK 1 ((zO b).qe hb)).1;exact Int.eq_ofNat_of_zero_le n1
 obtain⟨N,hN⟩:=hN0;have hN':(nV b).toNat=N:=by rw[hN];rfl
 have a4:xg (6+66*N) (b,true,()) (yD b):=by have:=(qS b).trans (pE N (Il b));grind[yD]
 have a5:xg (6+66*N+55) (b,true,()) (HG (yD b)):=a4.trans (Fx _);unfold cX.run cX.top zw;by_cases h0:b.length=0
 ·have hbe:b=[]:=List.eq_nil_of_length_eq_zero h0;rw[if_pos (by rw[hbe];rfl)];have d1:=dead 1 (by omega) _ (zN b);have d3:=dead 6 (by omega) _ (qS b);grind
 ·rw[if_neg (by rw[j8 .str _ _ rfl];intro hh;exact h0 (by rw[hh];rfl)),if_pos (by omega)];have hv:vV b=b.getD 0 0/\(JW b).2.1=true:=by
   unfold vV JW;rw[fk (by omega)];refine⟨?_,rfl⟩;have:=Bp (n:=0) (l:=b) (by omega) hb;rw[List.drop_zero]at this;refine this.trans ?_;have hx:=hb (b.getD 0 0) (by rw[getD_eq (by omega)];exact getElem_mem _);grind[wrap_i64]
  rw[hv.2,hv.1];by_cases h1:b.getD 0 0=1
  ·rw[if_neg (by rw[h1];decide),if_neg (show¬(true=true/\b.getD 0 0≠1) from fun hh=>hh.2 h1)];by_cases h6:b.length<6
   ·have d3:=dead 6 (by omega) _ (qS b);grind
   ·have e3:Il b=(b.drop 6,true,()):=(qS b).2 (by show 6<=b.length;omega);have e2:PJ b=(b.drop 5,true,()):=(zO b).2 (by show 5<=b.length;omega);have e1:JW b=(b.drop 1,true,()):=(zN b).2 (by show 1<=b.length;omega);have hn:nV b=IntKind.i64.wrap (b.getD 5 0):=by
     grind[fk,nV,Bp]
    rw[if_neg (dF (by omega)),if_pos (by omega),<-hn,e3];by_cases h19:nV b>19
    ·grind
    ·rw[if_neg (show¬(decide (nV b>19)=true) by simpa using h19),if_neg (show¬((((b.drop 6),true,()):gp).2.1=true/\nV b>19) from fun hh=>h19 hh.2),hN];have hN19:N<=19:=by omega
     rw[wrap_i64 (x:=66*(N:Int)) (by omega) (by omega),wrap_i64 (x:=6+66*(N:Int)) (by omega) (by omega),wrap_i64 (x:=6+66*(N:Int)+55) (by omega) (by omega)];by_cases hs:b.length<6+66*N+55
     ·grind
     ·have e4:yD b=(b.drop (6+66*N),true,()):=a4.2 (by show _<=b.length;omega);have e6:HG (yD b)=(b.drop (6+66*N+55),true,()):=a5.2 (by show _<=b.length;omega);have c1:aA b 1 5=(b.drop 1).take 4:=km b 1 5;have c6:aA b 6 (b.length:Int)=b.drop 6:=by
       grind[List.take_of_length_le,km]
      have hsV:jC (aA b 1 5)=sV b:=by grind[fk,sV]
      have hG:(iG N (b.drop 6,true,())).1=G1 b:=by unfold G1;rw[hN',e3]
      have hlen:(b.drop (6+66*N)).length=b.length-(6+66*N):=length_drop;obtain⟨y1,_⟩:=H8 (l:=b.drop (6+66*N)) (u:=(true,())) (by omega) (kg hb _);rw[if_neg (dF (by omega)),if_pos (by omega),jU _ (by rw[c1];simp;omega) (by rw[c1];exact mZ (kg hb 1) 4),bind_some,if_pos (by omega),c6,hsV];refine(Kr _ fuel 0 0 0 0 (replicate 32 0) 0 0 _ 0 0 0 (replicate 32 0) 0 0 N (by omega) N 0 fuel (b.drop 6) [] (by rw[ai];omega) (by omega) rfl (kg hb 6) (by simp;omega)).trans ?_;rw[List.drop_drop,List.nil_append,hG];unfold cX.j0;have hby:=kg hb (6+66*N);generalize hq:b.drop (6+66*N)=q at*;have k1:aA q 0 8=q.take 8:=km q 0 8;have k2:aA q 8 12=(q.drop 8).take 4:=km q 8 12;have k3:aA q 12 14=(q.drop 12).take 2:=km q 12 14;have k4:aA q 14 46=(q.drop 14).take 32:=km q 14 46;have k5:aA q 46 54=(q.drop 46).take 8:=km q 46 54;have kw:(aA q 14 46).length=32:=by rw[k4];simp;omega
      rw[if_pos (by omega),jU _ (by rw[k1];simp;omega) (by rw[k1];exact mZ hby 8),bind_some,
       if_pos (by omega),jU _ (by rw[k2];simp;omega) (by rw[k2];exact mZ (kg hby 8) 4),bind_some,
       if_pos (by omega),jU _ (by rw[k3];simp;omega) (by rw[k3];exact mZ (kg hby 12) 2),bind_some,
       if_pos (by omega),qH _ (by omega),o8 _ kw,bind_some,
       if_pos (by omega),jU _ (by rw[k5];simp;omega) (by rw[k5];exact mZ (kg hby 46) 8),bind_some,
       if_pos (by omega),if_pos (by omega),<-y1,<-e4]
      rw[show(sV b,G1 b,j9 (yD b),())=pV b from rfl,xX,bind_some,e6];grind
  grind
theorem M5(b:List Int):(zw b).1.2.1.length<=19:=by
 unfold zw;by_cases c1:(JW b).2.1=true/\vV b≠1
 ·grind
 ·rw[if_neg c1];by_cases c2:(Il b).2.1=true/\nV b>19
  ·grind
  ·rw[if_neg c2];by_cases c3:(HG (yD b)).2.1=true
   ·rw[if_pos c3];by_cases c4:pR (pV b)=0
    ·simp_all[L5]
    grind
   grind
end Go.Bx
