/- Laws about functions of plain data, in plain Lean. -/
import Derived.Test.YtbfaahaoefngoaaGreatDoorLawsWorldPosts4
import Derived.Test.YtbfaahaoefngoaaGreatDoorLawsWorldPosts3
import Derived.Test.YtbfaahaoefngoaaGreatDoorFnWorldPosts1
import Derived.Test.YtbfaahaoefngoaaGreatDoorLawsWorldPosts6
import Derived.Test.YtbfaahaoefngoaaGreatDoorLawsWorldPosts5
import Derived.Test.YtbfaahaoefngoaaGreatDoorLawsWorldPosts0
open Bool (and_eq_true false_eq_true or_eq_true)
open List (length_append length_set mem_append replicate)
open Nat (lt_or_ge)
open Option (bind_some)
set_option maxRecDepth 100000
set_option linter.unusedVariables false
set_option linter.unusedSimpArgs false
namespace Go.Bx
open Go
theorem vS{ch:Int}{b:bu}:∀{l P:List bu},ky ch l P=true->K1 ch b=true->(P++l).all (sI b)=true->ky ch (l++[b]) P=true
 |[],P,_,hb,hd=>by rw[List.append_nil]at hd;simp[ky,hb,hd]
 |a::R,P,h,hb,hd=>by simp only[ky,and_eq_true,List.cons_append]at h⊢;exact⟨h.1,vS h.2 hb (by simpa using hd)⟩
theorem JZ{t:List Int}{h:Int}{b:bu}(hb:b.1=t/\b.2.1=h):∀{R:List bu}{i:Nat},fA t h R i=none->R.all (sI b)=true
 |[],_,_=>rfl
 |a::R,i,hn=>by
  simp only[fA]at hn;split at hn
  ·cases hn
  ·rename_i hq;rw[List.all_cons,JZ hb hn,Bool.and_true];unfold sI;rw[hb.1,hb.2];rw[Bool.not_eq_true'];grind[JQ]
theorem IH{b:_}{x:_}{ch now nx:Int}{sn:List (List Int)}{cv:PO}{z:List fx}{l:List bu}{st:List dP}(al:l.length<=4)(hA:AG ch l)(hh:dV x.2.2.2.2.1=true)(hd:0<=x.2.2.2.2.2.2.2.1)
  {r} (h:ee.run b x ch now sn nx cv z l st=some r) (h0:r.1=0):
  AG ch r.2.2.2.2.2.2.2.1/\r.2.2.2.2.2.2.2.1.length<=4/\r.2.2.2.2.2.2.1=z/\r.2.2.2.1=sn:=by
 unfold ee.run ee.top at h;split at h
 ·cases h;exact absurd h0 (show¬((5:Int)=0) by decide)
 ·rw[qN _ _ _ _ _ _ _ _ _ _ al]at h;simp only[bind_some]at h;cases hF:fA x.2.2.2.1 x.2.2.2.2.1 l 0 with
  |some i=>simp only[hF,Sum.elim_inl,Sum.elim_inr]at h;cases h;exact absurd h0 (show¬((8:Int)=0) by decide)
  |none=>
   simp only[hF,Sum.elim_inl,Sum.elim_inr]at h;split at h
   ·cases h;exact absurd h0 (show¬((9:Int)=0) by decide)
   ·rename_i h4;have h4:l.length≠4:=by
     intro e;rw[e]at h4;exact h4 rfl
    rw[if_pos (aK (by omega) (by omega))]at h;cases h;refine⟨⟨vS hA.1 ?_ ?_,fun a ha=>?_⟩,by show(l++[_]).length<=4;simp;omega,rfl,rfl⟩
    ·have hz:lW ([0,0,0,0],[],())=0:=by decide
     simp only[K1,hh,hz,and_eq_true,or_eq_true,decide_eq_true_eq,beq_self_eq_true,true_and];split<;>refine⟨⟨by omega,by omega⟩,.inr (by omega)⟩
    ·rw[List.nil_append];exact JZ ⟨rfl,rfl⟩ hF
    ·rcases List.mem_append.1 ha with h|h
     ·exact hA.2 a h
     ·simp only[List.mem_singleton]at h;subst h;exact⟨rfl,uj.2,fun h hh=>by cases hh⟩
def SN(sn:List (List Int)):Prop:=sn.length=3/\∀c∈sn,c.length=4/\∀y∈c,pq .u64 y=true
theorem To{sn:List (List Int)}(h:SN sn){c:List Int}(hc:c.length=4/\∀y∈c,pq .u64 y=true)(i:Nat):SN (sn.set i c):=
 ⟨by rw[length_set];exact h.1,fun d hd=>by
  rcases List.mem_or_eq_of_mem_set hd with h'|rfl
  ·exact h.2 d h'
  ·exact hc⟩
theorem Qz{c:List Int}{n:Int}(hc:c.length=4)(hr:∀y∈c,pq .u64 y=true){r}(h:ki.run c n=some r):r.1.length=4/\∀y∈r.1,pq .u64 y=true:=by
 have hz:([0,0,0,0]:List Int).length=4/\∀y∈([0,0,0,0]:List Int),pq .u64 y=true:=by decide
 unfold ki.run ki.top at h;rw[Hu c hc hr]at h;simp only[bind_some]at h
 repeat' split at h
 all_goals first
  |(cases h;exact hz)
  |(cases h;exact⟨by rw[length_set];exact hc,fun y hy=>(List.mem_or_eq_of_mem_set hy).elim (hr y) fun e=>by rw[e];unfold jP;rw[n6,mL];omega⟩)
  |cases h
section
variable {P A B N x y:Int}{f:Bool}(b1:0<=P/\P<aB)(b2:0<=A/\A<aB)(b3:0<=B/\B<aB)(b4:0<=N/\N<aB)(b5:0<=x/\x<aB)(b6:0<=y/\y<aB)
include b1 b2 b3 b4 b5 b6
theorem Jt(ch now nx kd hm tc hr:Int)(z:List fx)(l:List bu)(sn:List (List Int))(st:List dP)(wh tk am fe to pp:List Int)(ok:Ae (ch,now,z,l,sn,nx,st,()))(hw:∀a∈l,fB a.2.2.2.1)
  (hsn:SN sn) (hwh:wh.length=32/\∀b∈wh,0<=b/\b<=255) (hb:gy pp) (hl:pp.length<=140737488351232) (hz:cc.run z=some 0) (hA:AG ch l)
  {r} (h:eO.run (kd,wh,tk,hm,am,fe,to,tc,hr,pp,()) ch now sn nx (mk P,mk A,mk B,mk N,(mk x,mk y,f,()),()) z l st=some r) (h0:r.1=0):
  cc.run r.2.2.2.1=some 0/\AG ch r.2.2.2.2.2.2.2.2.1/\r.2.2.2.2.2.2.2.2.1.length<=4/\SN r.2.2.2.2.1:=by
 have al:l.length<=4:=ok.al;unfold eO.run eO.top at h;obtain⟨D,E,L,M,e0,e1,e2,e3⟩:=DV (f:=f) b1 b2 b3 b4 b5 b6 pp hb hl ch now nx sn z l st;rw[e1]at h;clear e1 e2;generalize (mk P,mk A,mk B,mk N,(mk x,mk y,f,()),())=cv at h;simp only[bind_some]at h;split at h
 ·rename_i hq;cases h;exact absurd h0 (by simpa using hq)
 ·rename_i hq;have hq0:e0=0:=by simpa using hq
  obtain⟨rfl,rfl,o1,o2,o3,o4,hd⟩:=e3 hq0;split at h
  ·unfold eP.run eP.top at h;cases hc:(E.2.2.1 !=0)with
   |true=>rw[hc]at h;cases h;exact absurd h0 (show¬((5:Int)=0) by decide)
   |false=>
    rw[hc]at h;simp only[BEq.rfl,if_true,cond_false]at h;rw[Kw]at h;simp only[bind_some]at h;split at h
    ·cases h;exact absurd h0 (show¬((5:Int)=0) by decide)
    ·split at h
     ·cases h;exact absurd h0 (show¬((6:Int)=0) by decide)
     ·obtain⟨r,r1,r2,r3,r4⟩:=tB z M.2.2.2.2.2.2.2.2.2.2.2.1 now;rw[r1]at h;simp only[bind_some]at h;unfold eP.j0 at h;by_cases h5:r.2.1=0
      ·rw[if_pos (by simpa using h5)]at h;cases h;exact⟨Ju r1 h5,hA,al,hsn⟩
      ·rw[if_neg (by simpa using h5)]at h;cases h;exact absurd h0 h5
  ·rw[oe]at h;simp only[bind_some]at h;cases hc:(cond (!(dV E.2.2.1)) true (E.2.2.1==ch))with
   |true=>rw[hc]at h;cases h;exact absurd h0 (show¬((5:Int)=0) by decide)
   |false=>
    have hcb:dV E.2.2.1=true:=by grind
    have hch:0<=E.2.2.1/\E.2.2.1<3:=by unfold dV at hcb;grind
    obtain⟨m,m1,m2⟩:=kQ E.2.2.1;rw[hc]at h;simp only[BEq.rfl,if_true,cond_false]at h;rw[m1]at h;simp only[bind_some]at h;split at h
    ·cases h;exact absurd h0 (show¬((5:Int)=0) by decide)
    ·try rw[if_pos hch]at h
     have hel:sn.getD E.2.2.1.toNat [0,0,0,0]∈sn:=by have h3:=hsn.1;rw[getD_eq (by omega)];exact List.getElem_mem _
     obtain⟨k1,r,k2⟩:=Dz (sn.getD E.2.2.1.toNat [0,0,0,0]) E.2.2.2.2.1 (hsn.2 _ hel).1 (hsn.2 _ hel).2;have hS:SN (sn.set E.2.2.1.toNat r.1):=To hsn (Qz (hsn.2 _ hel).1 (hsn.2 _ hel).2 k2) _;rw[k2]at h;simp only[bind_some]at h;split at h
     ·rename_i hq;cases h;exact absurd h0 (by simpa using hq)
     ·split at h
      ·by_cases h6:(M.2.2.2.2.1 !=E.2.2.1)=true
       ·unfold ee.run ee.top at h;rw[if_pos h6]at h;cases h;exact absurd h0 (show¬((5:Int)=0) by decide)
       ·have hh:dV M.2.2.2.2.1=true:=by
         have:M.2.2.2.2.1=E.2.2.1:=by simpa using h6
         rw[this];exact hcb
        rw[Option.bind_eq_some_iff]at h;obtain⟨w,w1,w2⟩:=h;cases w2;obtain⟨p1,p2,p3,p4⟩:=IH al hA hh hd w1 h0;exact⟨by show cc.run w.2.2.2.2.2.2.1=some 0;rw[p3];exact hz,p1,p2,by show SN w.2.2.2.1;rw[p4];exact hS⟩
      ·split at h
       ·cases h;exact absurd h0 (show¬((6:Int)=0) by decide)
       ·obtain⟨k0,am2,fe2,tk2,hm2,to2,tc2,de2,sy2,da2,ix2,ks2,u⟩:=M;have ht:to2.length=32/\∀b∈to2,0<=b/\b<=255:=⟨o3,fun b hb=>by have:=o4 b hb;omega⟩
        obtain⟨e,l',q,p1,_⟩:=Hj ch now nx k0 hm2 tc2 de2 ix2 (sn.set E.2.2.1.toNat r.1) cv z l st am2 fe2 tk2 to2 sy2 da2 wh ks2 al ok.aa hw o1 o2 ht hwh;have pk:=fun h0=>L7 ch now nx k0 hm2 tc2 de2 ix2 (sn.set E.2.2.1.toNat r.1) cv z l st am2 fe2 tk2 to2 sy2 da2 wh ks2 al ok.aa hw o1 o2 ht hwh hA p1 h0;rw[p1]at h;simp only[bind_some]at h;cases h;obtain⟨q1,q2⟩:=pk h0;exact⟨hz,q1,by show l'.length<=4;have:l'.length=l.length:=q2;omega,hS⟩
end
end Go.Bx
namespace Go.Bx
open Go Go.Bx.Rg
structure PF(p:dB):Prop where
 f:vQ p
 w:∀a∈p.2.2.2.1,fB a.2.2.2.1
 s:SN p.2.2.2.2.1
section
variable {P A B N x y:Int}{f:Bool}(b1:0<=P/\P<aB)(b2:0<=A/\A<aB)(b3:0<=B/\B<aB)(b4:0<=N/\N<aB)(b5:0<=x/\x<aB)(b6:0<=y/\y<aB)
include b1 b2 b3 b4 b5 b6
theorem P9(ch now nx kd hm tc hr:Int)(z:List fx)(l:List bu)(sn:List (List Int))(st:List dP)(wh tk am fe to pp:List Int)(hp:PF (ch,now,z,l,sn,nx,st,()))(hhr:-9223372036854775808<=hr/\hr<=9223372036854775807)
  (hwh:wh.length=32/\∀b∈wh,0<=b/\b<=255) (htk:tk.length=32) (hto:to.length=32) (ha:am.length=4/\aM ah am) (hf:fe.length=4/\aM ah fe) (hb:gy pp) (hl:pp.length<=140737488351232):
  ∃(q:dB)(e:Int),n8.run (mk P,mk A,mk B,mk N,(mk x,mk y,f,()),()) (ch,now,z,l,sn,nx,st,()) (kd,wh,tk,hm,am,fe,to,tc,hr,pp,())=some (q,e,())/\
   ik.run (mk P,mk A,mk B,mk N,(mk x,mk y,f,()),()) (ch,now,z,l,sn,nx,st,()) (kd,wh,tk,hm,am,fe,to,tc,hr,pp,())=some (q,e,())/\PF q/\(e≠0->q=(ch,now,z,l,sn,nx,st,())):=by
 have hw:=hp.w;have hsn:SN sn:=hp.s;have hn:1<=now/\now<=1099511627776:=hp.f.nw;have ok:=J6 hp.f;have hA:AG ch l:=⟨hp.f.aa,hw⟩
 have hz:cc.run z=some 0:=hp.f.st;have hS:=hp.f.sn;have hch:dV ch=true:=hp.f.ch;have al:l.length<=4:=hp.f.al;have sl:st.length<=256:=hp.f.sl;have hx:nx=(st.length:Int):=hp.f.nx;obtain⟨e0,c1,c2,c3⟩:=Hk (ch,now,z,l,sn,nx,st,()) (show-9223372036854775808<=now/\now<=9223372036854775807 by omega) hw;have h0:=c3.2 hp.f;subst h0;unfold n8.run n8.top ik.run ik.top;rw[c1,c2];simp only[bind_some];rw[if_neg (show¬(((0:Int) !=0)=true) by decide),if_neg (show¬(((0:Int) !=0)=true) by decide),J3 _ ok];simp only[bind_some];have hj:∀(e a1 a2:Int)(a3:List fx)(a4:List (List Int))(a5:Int)(a6:_)(a7:List bu)(a8:List dP),n8.j0 (fun x7 c6=>some (c6,x7,())) e (ch,now,z,l,sn,nx,st,()) 0 0 [[0,0,0,0],[0,0,0,0],[0,0,0,0]] 0 a1 a2 a3 a4 a5 a6 a7 a8=some ((if e=0 then(a1,a2,a3,a7,a4,a5,a8,())else(ch,now,z,l,sn,nx,st,()):dB),e,()):=fun e a1 a2 a3 a4 a5 a6 a7 a8=>by
  unfold n8.j0;by_cases h:e=0
  ·grind
  simp_all[J3]
 by_cases k1:(kd==1)=true
 ·rw[if_pos k1,if_pos k1];obtain⟨e,nx',l',st',q,p1,p2,p3,p4,p5,p6⟩:=Me (mk P,mk A,mk B,mk N,(mk x,mk y,f,()),()) ch now nx kd hm tc hr z l sn st wh tk am fe to pp ok hw hwh htk hto ha hf;have sk:=Jk _ ch now nx kd hm tc hr z l sn st wh tk am fe to pp al sl hx hw hwh htk hto ha hf hch hn hS hA p1;rw[p1,p2];simp only[bind_some];rw[hj];by_cases h:e=0
  ·rw[if_pos h,if_neg (show¬((e !=0)=true) by simpa using h),p3 h,h];obtain⟨⟨s1,s2⟩,s3,s4,s5⟩:=sk h;exact⟨_,_,rfl,rfl,⟨⟨hch,hn,hz,s2,s3,s4,s1.1,s5⟩,s1.2,hsn⟩,fun h=>absurd rfl h⟩
  ·rw[if_neg h,if_pos (show(e !=0)=true by simpa using h)];exact⟨_,_,rfl,rfl,hp,fun _=>rfl⟩
 ·rw[if_neg k1,if_neg k1];by_cases k2:(kd==2)=true
  ·rw[if_pos k2,if_pos k2];obtain⟨e,z',sn',l',q,p1,p2,p3,p4,p5,p6,p7,p8⟩:=Mr (f:=f) b1 b2 b3 b4 b5 b6 ch now nx kd hm tc hr z l sn st wh tk am fe to pp ok hw hsn hwh hb hl;have tkp:=Jt (f:=f) b1 b2 b3 b4 b5 b6 ch now nx kd hm tc hr z l sn st wh tk am fe to pp ok hw hsn hwh hb hl hz hA p1;rw[p1,p2];simp only[bind_some];rw[hj];by_cases h:e=0
   ·rw[if_pos h,p3 h];obtain⟨s1,s2,s3,s4⟩:=tkp h;exact⟨_,_,rfl,rfl,⟨⟨hch,hn,s1,s3,hx,sl,s2.1,hS⟩,s2.2,s4⟩,fun h'=>absurd h h'⟩
   ·rw[if_neg h,p4 h];exact⟨_,_,rfl,rfl,hp,fun _=>rfl⟩
  ·rw[if_neg k2,if_neg k2];by_cases k3:(kd==3)=true
   ·rw[if_pos k3,if_pos k3,qN _ _ _ _ _ _ _ _ _ _ al,vT _ _ _ al];simp only[bind_some];cases hF:fA tk ch l 0 with
    |none=>simp only[Sum.elim_inl,Sum.elim_inr];rw[hj,if_pos (show decide ((-1:Int)<0)=true by decide)];exact⟨_,_,rfl,rfl,hp,fun _=>rfl⟩
    |some i=>
     have hi:=CY hF;rw[Nat.zero_add]at hi;simp only[Sum.elim_inl];rw[if_neg (show¬(decide ((i:Int)<0))=true by rw[decide_eq_true_eq];omega),if_pos (show 0<=(i:Int)/\(i:Int)<(l.length:Int) by omega),ae];obtain⟨e,nx',st',t1,t2,t3,t4⟩:=yj 2 ch 0 (l.getD i A0).2.2.1 [0,0,0,0] [0,0,0,0] tk (replicate 32 0) uj uj htk rfl ch now nx sn (mk P,mk A,mk B,mk N,(mk x,mk y,f,()),()) z l st sl hx;have tl:=B0 2 ch 0 (l.getD i A0).2.2.1 [0,0,0,0] [0,0,0,0] tk (replicate 32 0) (.inr (.inl rfl)) uj uj htk rfl ch now nx sn (mk P,mk A,mk B,mk N,(mk x,mk y,f,()),()) z l st sl hx hch hn hS t1;rw[t1,t2];simp only[bind_some];rw[hj];by_cases h:e=0
     ·rw[if_pos h];obtain⟨s1,s2,s3⟩:=tl h;exact⟨_,_,rfl,rfl,⟨⟨hch,hn,hz,al,s1,s2,hA.1,s3⟩,hw,hsn⟩,fun h'=>absurd h h'⟩
     ·obtain⟨rfl,rfl⟩:=t4 h;rw[if_neg h];exact⟨_,_,rfl,rfl,hp,fun _=>rfl⟩
   ·rw[if_neg k3,if_neg k3];by_cases k4:(kd==4)=true
    ·rw[if_pos k4,if_pos k4];by_cases h:1<=hr/\hr<=1000/\now+hr<=1099511627776
     ·have hw2:IntKind.i64.wrap (now+hr)=now+hr:=wrap_i64 (by omega) (by omega);rw[hw2];rw[if_pos (by simp only[ck,and_eq_true,decide_eq_true_eq];omega),if_neg (by simp only[bS,or_eq_true,decide_eq_true_eq];omega),hj];exact⟨_,_,rfl,rfl,⟨⟨hch,⟨by show 1<=now+hr;omega,by show now+hr<=1099511627776;omega⟩,hz,al,hx,sl,hA.1,hS⟩,hw,hsn⟩,fun h=>absurd rfl h⟩
     ·have hc:¬(cond (cond (decide (hr>=1)) (decide (hr<=1000)) false) (decide (IntKind.i64.wrap (now+hr)<=1099511627776)) false)=true:=by
       simp only[ck,and_eq_true,decide_eq_true_eq];grind[wrap_i64]
      have hd:(cond (cond (decide (hr<1)) true (decide (hr>1000))) true (decide (IntKind.i64.wrap (now+hr)>1099511627776)))=true:=by grind
      rw[if_neg hc,if_pos hd,hj];exact⟨_,_,rfl,rfl,hp,fun _=>rfl⟩
    ·rw[if_neg k4,if_neg k4,hj];exact⟨_,_,rfl,rfl,hp,fun _=>rfl⟩
end
end Go.Bx
namespace Go.Bx
open Go
abbrev C3:List (List Int):=[[0,0,0,0],[0,0,0,0],[0,0,0,0]]
abbrev P0:dB:=(0,0,[],[],C3,0,[],())
theorem TU:SN C3:=by unfold SN;decide
theorem yZ{α:Type}(Xt:dB->Int->Int->List (List Int)->Int->List fx->Option α)(K:Nat)(c1:dB)(a b d:Int)(e:List (List Int))(l:List fx)(hl:l.length<=1000)(hs:∀s∈l,s.2.1.length<=1000):∀(R P:List fx)(n:Nat),R.length<n->l=P++R->
  ef.l0 K Xt n l (l.length:Int) (P.length:Int) c1 a b e d P=Xt c1 a b e d l
 |R,P,0,h,_=>by omega
 |[],P,n+1,h,hc=>by
  simp only[ef.l0,ef.aR];have:l.length=P.length:=by rw[hc];simp
  rw[if_neg (by rw[decide_eq_true_eq];omega)];rw[hc,List.append_nil]
 |y::R,P,n+1,h,hc=>by
  have hlen:l.length=P.length+(R.length+1):=by rw[hc];simp
  have hg:l.getD P.length (0,[],0,())=y:=by rw[hc];exact dk _ _ _ _
  have hy:=hs y (by rw[hc];simp);simp only[ef.l0,ef.aR];rw[if_pos (by rw[decide_eq_true_eq];omega),if_pos (by omega),ae,hg,if_pos (aK (by omega) (by omega)),if_pos (aK (by omega) (by omega)),ax (by omega)];have ih:=yZ Xt K c1 a b d e l hl hs R (P++[y]) n (by simpa using h) (by simp[hc]);rw[length_append]at ih;exact ih
theorem uJ{α:Type}(Xt:dB->Int->Int->List (List Int)->Int->List fx->List bu->Option α)(K:Nat)(c1:dB)(a b d:Int)(e:List (List Int))(z:List fx)(l:List bu)(hl:l.length*104<=140737488351232)(hs:∀s∈l,s.2.2.2.1.2.1.length*64<=140737488351232):∀(R P:List bu)(n:Nat),R.length<n->l=P++R->
  ef.l1 K Xt n l (l.length:Int) (P.length:Int) c1 a b e d z P=Xt c1 a b e d z l
 |R,P,0,h,_=>by omega
 |[],P,n+1,h,hc=>by
  simp only[ef.l1,ef.ly];have:l.length=P.length:=by rw[hc];simp
  rw[if_neg (by rw[decide_eq_true_eq];omega)];rw[hc,List.append_nil]
 |y::R,P,n+1,h,hc=>by
  have hlen:l.length=P.length+(R.length+1):=by rw[hc];simp
  have hg:l.getD P.length A0=y:=by rw[hc];exact dk _ _ _ _
  have hy:=hs y (by rw[hc];simp);simp only[ef.l1,ef.ly];rw[if_pos (by rw[decide_eq_true_eq];omega),if_pos (by omega),ae,hg,if_pos (zQ (by omega) (by omega)),if_pos (zQ (by omega) (by omega)),ax (by omega)];have ih:=uJ Xt K c1 a b d e z l hl hs R (P++[y]) n (by simpa using h) (by simp[hc]);rw[length_append]at ih;exact ih
theorem I6(p:dB)(hb:p.2.2.2.2.2.2.1=[])(h1:p.2.2.1.length<=1000)(h2:∀s∈p.2.2.1,s.2.1.length<=1000)(h3:p.2.2.2.1.length*104<=140737488351232)(h4:∀s∈p.2.2.2.1,s.2.2.2.1.2.1.length*64<=140737488351232):ef.run p=some p:=by
 unfold ef.run ef.top;refine(yZ _ fuel p 0 0 0 C3 p.2.2.1 h1 h2 p.2.2.1 [] fuel (by rw[ai];omega) rfl).trans ?_;unfold ef.j0;refine(uJ _ fuel p 0 0 0 C3 p.2.2.1 p.2.2.2.1 h3 h4 p.2.2.2.1 [] fuel (by rw[ai];omega) rfl).trans ?_;unfold ef.j1;rw[hb];obtain⟨k,hk⟩:∃k,fuel=k+1:=⟨fuel-1,by rw[ai]⟩
 rw[hk];simp only[ef.l2,ef.vw];rw[show(([]:List dP).length:Int)=0 from rfl,show decide ((0:Int)<0)=false from rfl,if_neg (by decide)];unfold ef.j2;rw[<-hb]
theorem Dd{α:Type}(Rt:Int->dB->Option α)(Xt:Int->Int->List (List Int)->Int->dB->Option α)(K:Nat)(at_:Int)(a b d:Int)(e:List (List Int))(c:dB)(l:List bu)(hl:l.length<=4000000000000):∀(R P:List bu)(n:Nat),R.length<n->l=P++R->
  gR.l0 K Rt Xt n at_ l (l.length:Int) (P.length:Int) a b e d c=if R.all (fun x=>x.2.1==at_)=true then Xt a b e d c else Rt 12 P0
 |R,P,0,h,_=>by omega
 |[],P,n+1,h,hc=>by
  simp only[gR.l0,gR.aR];have:l.length=P.length:=by rw[hc];simp
  rw[if_neg (by rw[decide_eq_true_eq];omega)];rfl
 |y::R,P,n+1,h,hc=>by
  have hlen:l.length=P.length+(R.length+1):=by rw[hc];simp
  have hg:l.getD P.length A0=y:=by rw[hc];exact dk _ _ _ _
  simp only[gR.l0,gR.aR];rw[if_pos (by rw[decide_eq_true_eq];omega),if_pos (by omega),ae,hg,ax (by omega),List.all_cons];have ih:=Dd Rt Xt K at_ a b d e c l hl R (P++[y]) n (by simpa using h) (by simp[hc]);rw[length_append]at ih;by_cases hh:y.2.1=at_
  ·rw[if_neg (by simpa using hh),show(y.2.1==at_)=true by simpa using hh,Bool.true_and];exact ih
  ·rw[if_pos (by simpa using hh),show(y.2.1==at_)=false by simpa using hh,Bool.false_and,if_neg (by decide)]
theorem Gr{α:Type}(Xt:Int->Int->Int->List (List Int)->Int->Int->Int->List fx->List bu->List (List Int)->Int->Option α)(K:Nat)(at_:Int)(a b d:Int)(e:List (List Int))(q0 q1:Int)(q2:List fx)(q3:List bu)(q4:List (List Int))(q5:Int)(l:List bu)(hl:l.length<=4000000000000):∀(R P:List bu)(n:Nat)(x:Int),R.length<n->l=P++R->
  bP.l0 K Xt n at_ x l (l.length:Int) (P.length:Int) a b e d q0 q1 q2 q3 q4 q5=Xt (if R.all (fun x=>x.2.1==at_)=true then x else 12) a b e d q0 q1 q2 q3 q4 q5
 |R,P,0,x,h,_=>by omega
 |[],P,n+1,x,h,hc=>by
  simp only[bP.l0,bP.aR];have:l.length=P.length:=by rw[hc];simp
  rw[if_neg (by rw[decide_eq_true_eq];omega)];rfl
 |y::R,P,n+1,x,h,hc=>by
  have hlen:l.length=P.length+(R.length+1):=by rw[hc];simp
  have hg:l.getD P.length A0=y:=by rw[hc];exact dk _ _ _ _
  simp only[bP.l0,bP.aR];rw[if_pos (by rw[decide_eq_true_eq];omega),if_pos (by omega),ae,hg,List.all_cons];unfold bP.j0;rw[ax (by omega)];have ih:=fun x=>Gr Xt K at_ a b d e q0 q1 q2 q3 q4 q5 l hl R (P++[y]) n x (by simpa using h) (by simp[hc]);simp only[length_append,List.length_singleton]at ih;by_cases hh:y.2.1=at_
  ·rw[if_neg (by simpa using hh),show(y.2.1==at_)=true by simpa using hh,Bool.true_and];exact ih x
  ·rw[if_pos (by simpa using hh),show(y.2.1==at_)=false by simpa using hh,Bool.false_and,if_neg (by decide)];refine(ih 12).trans ?_;simp only[ite_self]
theorem H6(at_:Int)(ks:List (List Int))(l:List bu)(h3:l.length*104<=140737488351232)(h4:∀s∈l,s.2.2.2.1.2.1.length*64<=140737488351232)(hw:∀a∈l,fB a.2.2.2.1):
  ∃(p:dB)(e:Int),gR.run at_ ks l=some (p,e,())/\bP.run at_ ks l=some (p,e,())/\(e≠0->p=P0)/\(e=0->PF p):=by
 unfold gR.run gR.top bP.run bP.top pd.run pd.top gY.run gY.top;rw[sP,xM];simp only[bind_some];by_cases hk:oW ks=0
 ·have hl:=(wF hk).2;rw[hk,if_neg (by decide),if_neg (by decide),C7 _ (by simp) (fun s hs=>by simp at hs;subst hs;show List.length ks<=1000;omega)];simp only[bind_some,show((0:Int) !=0)=false from rfl,false_eq_true,if_false];rw[I6 (at_,1,[(0,ks,0,())],l,C3,0,[],()) rfl (by simp) (fun s hs=>by simp at hs;subst hs;show List.length ks<=1000;omega) h3 h4,bind_some];obtain⟨e,p1,p2,p3⟩:=Hk (at_,1,[(0,ks,0,())],l,C3,0,[],()) (show-9223372036854775808<=(1:Int)/\(1:Int)<=9223372036854775807 by decide) hw;rw[p2,bind_some];have a1:=Dd (fun x7 c6=>some (c6,x7,())) (fun c6p0 c6p1 c6p4 c6p5 c10=>gR.j0 (fun x7 c6=>some (c6,x7,())) c6p0 c6p1 c6p4 c6p5 c10) fuel at_ 0 0 0 C3 (at_,1,[(0,ks,0,())],l,C3,0,[],()) l (by omega) l [] fuel (by rw[ai];omega) rfl;rw[show((([]:List bu).length:Nat):Int)=0 from rfl]at a1;rw[a1];have a2:=Gr (fun x9 c6p0 c6p1 c6p4 c6p5 c10p0 c10p1 c10p2 c10p3 c10p4 c10p5=>bP.j1 (fun(x7:Int)(c6p0:Int)(c6p1:Int)(c6p2:List fx)(c6p3:List bu)(c6p4:List (List Int))(c6p5:Int)=>some (((c6p0,c6p1,c6p2,c6p3,c6p4,c6p5,[],()):dB),x7,())) x9 c6p0 c6p1 c6p4 c6p5 c10p0 c10p1 c10p2 c10p3 c10p4 c10p5) fuel at_ 0 0 0 C3 at_ 1 [(0,ks,0,())] l C3 0 l (by omega) l [] fuel e (by rw[ai];omega) rfl;rw[show((([]:List bu).length:Nat):Int)=0 from rfl]at a2;rw[a2];unfold gR.j0 bP.j1;rw[p1,bind_some];cases l.all (fun x=>x.2.1==at_)with
  |false=>exact⟨P0,12,rfl,rfl,fun _=>rfl,fun h=>by cases h⟩
  |true=>
   simp only[if_true];by_cases he:e=0
   ·rw[if_neg (by simpa using he)];exact⟨_,0,rfl,rfl,fun h=>absurd rfl h,fun _=>⟨p3.1 he,hw,TU⟩⟩
   ·rw[if_pos (by simpa using he)];exact⟨P0,e,rfl,rfl,fun _=>rfl,fun h=>absurd h he⟩
 ·rw[if_pos (by simpa using hk),if_pos (by simpa using hk)];simp only[bind_some];rw[if_pos (by simpa using hk),if_pos (by simpa using hk)];exact⟨P0,oW ks,rfl,rfl,fun _=>rfl,fun h=>absurd h hk⟩
end Go.Bx
namespace Go.Bx
open Go Go.Bx.Rg
theorem I8{P A B N x y D:Int}{f:Bool}(b1:0<=P/\P<aB)(b2:0<=A/\A<aB)(b3:0<=B/\B<aB)(b4:0<=N/\N<aB)(b5:0<=x/\x<aB)(b6:0<=y/\y<aB)(hD:0<=D/\D<aB):
  ∃(s:jW)(e:Int),mY.run (mk P,mk A,mk B,mk N,(mk x,mk y,f,()),()) (mk D)=some (s,e,())/\gH.run (mk P,mk A,mk B,mk N,(mk x,mk y,f,()),()) (mk D)=some (s,e,())/\TX s:=by
 obtain⟨e1,e2⟩:=lK f b1 b2 b3 b4 b5 b6;obtain⟨s1,s2⟩:=tn (mk P) (mk A) (mk B) (mk x,mk y,f,()) hD b4;unfold mY.run mY.top gH.run gH.top;rw[e1,e2];simp only[bind_some];rcases tU P A B N x y f with h0|h0
 ·rw[h0,s1,s2];simp only[bind_some,bne_self_eq_false,false_eq_true,if_false];cases BN D N with
  |false=>exact⟨HY,6,rfl,rfl,tF⟩
  |true=>
   simp only[Bool.not_true,false_eq_true,if_false];obtain⟨o1,_,_⟩:=xy h0;obtain⟨s,t,e,ok,m1,m2,m3,m4⟩:=xV b1 b2 b3 b4 b5 b6 h0 (dI D) b5 b6 o1;obtain⟨g1,g2,g3,g4⟩:=qg h0;obtain⟨_,o2⟩:=kZ ⟨by omega,b1.2⟩ ⟨b2.1,g3⟩ ⟨b3.1,g4⟩ (mk N) (mk x,mk y,f,()) f b5 b6;unfold gC.run gC.top iR.run iR.top;rw[e2];simp only[bind_some];rw[h0,o2,o1,m1,m2];cases ok with
   |true=>obtain⟨rfl,rfl,m5,_⟩:=m3 rfl;exact⟨_,_,rfl,rfl,O0 m5⟩
   |false=>obtain⟨rfl,rfl⟩:=m4 rfl;exact⟨_,_,rfl,rfl,tF⟩
 ·rw[h0];exact⟨HY,16,rfl,rfl,tF⟩
theorem B7{P A B N x y:Int}{f:Bool}(b1:0<=P/\P<aB)(b2:0<=A/\A<aB)(b3:0<=B/\B<aB)(b4:0<=N/\N<aB)(b5:0<=x/\x<aB)(b6:0<=y/\y<aB)(S:_)(hS:S.1=(mk P,mk A,mk B,mk N,(mk x,mk y,f,()),()))(K:Nat)
  (l:List (List Int)) (hl:l.length<=7) (hw:∀d∈l,W4 d):∀(R Q:List (List Int))(n:Nat)(c:List (List Int)),R.length<n->l=Q++R->c.length=Q.length->
  ∃r e,iu.l0 K (fun x2 x3=>some (x2,x3,())) (fun c47=>iu.j0 (fun x2 x3=>some (x2,x3,())) c47) n l (l.length:Int) (Q.length:Int) S c=some (r,e,())/\
   dC.l0 K (fun x2 x3=>some (x2,x3,())) (fun c47=>dC.j0 (fun x2 x3=>some (x2,x3,())) c47) n l (l.length:Int) (Q.length:Int) S c=some (r,e,())/\r.length<=7
 |R,Q,0,c,h,_,_=>by omega
 |[],Q,n+1,c,h,hc,hcl=>by
  simp only[iu.l0,iu.aR,dC.l0,dC.aR];have:l.length=Q.length:=by rw[hc];simp
  rw[if_neg (by rw[decide_eq_true_eq];omega),if_neg (by rw[decide_eq_true_eq];omega)];exact⟨c,0,rfl,rfl,by omega⟩
 |d::R,Q,n+1,c,h,hc,hcl=>by
  have hlen:l.length=Q.length+(R.length+1):=by rw[hc];simp
  have hd:W4 d:=hw d (by rw[hc];simp);have hg:l.getD Q.length [0,0,0,0]=d:=by rw[hc];exact dk _ _ _ _
  simp only[iu.l0,iu.aR,dC.l0,dC.aR];obtain⟨s,e,e1,e2,e3⟩:=I8 (f:=f) (D:=val ah d) b1 b2 b3 b4 b5 b6 hd.bound;rw[<-o6 hd]at e1 e2;rw[if_pos (by rw[decide_eq_true_eq];omega),if_pos (by omega),if_pos (by rw[decide_eq_true_eq];omega),if_pos (by omega),ae,hg,hS,e1,e2];simp only[bind_some];by_cases he:e=0
  ·subst he;simp only[bne_self_eq_false,false_eq_true,if_false];obtain⟨k1,k2⟩:=Gy s.2.2.1 e3.1.1 e3.2.1;rw[show(s.1,s.2.1,s.2.2.1,())=s from rfl]at k1 k2;rw[k1,k2];simp only[bind_some];rw[if_pos (aK (by omega) (by omega)),if_pos (aK (by omega) (by omega)),ax (by omega)];have ih:=B7 b1 b2 b3 b4 b5 b6 S hS K l hl hw R (Q++[d]) n (c++[keyOf s.1 s.2.1]) (by simpa using h) (by simp[hc]) (by simp[hcl]);rw[length_append]at ih;exact ih
  ·rw[if_pos (by simpa using he),if_pos (by simpa using he)];exact⟨[],e,rfl,rfl,by simp⟩
theorem Lu{P A B N x y:Int}{f:Bool}(b1:0<=P/\P<aB)(b2:0<=A/\A<aB)(b3:0<=B/\B<aB)(b4:0<=N/\N<aB)(b5:0<=x/\x<aB)(b6:0<=y/\y<aB)(S:_)(hcv:S.1=(mk P,mk A,mk B,mk N,(mk x,mk y,f,()),()))(hs:∀d∈S.2.1,W4 d):
  ∃r e,iu.run S=some (r,e,())/\dC.run S=some (r,e,())/\r.length<=7:=by
 obtain⟨e1,e2⟩:=lK f b1 b2 b3 b4 b5 b6;unfold iu.run iu.top dC.run dC.top;rw[hcv,e1,e2];simp only[bind_some,bS];rcases tU P A B N x y f with h0|h0
 ·rw[h0];simp only[bne_self_eq_false,false_eq_true,if_false];by_cases hl:1<=S.2.1.length/\S.2.1.length<=7
  ·rw[if_neg (by simp only[or_eq_true,decide_eq_true_eq];omega),if_neg (by simp only[or_eq_true,beq_iff_eq,decide_eq_true_eq];omega)];exact B7 b1 b2 b3 b4 b5 b6 S hcv fuel S.2.1 hl.2 hs S.2.1 [] fuel [] (by rw[ai];omega) rfl rfl
  ·rw[if_pos (by simp only[or_eq_true,decide_eq_true_eq];omega),if_pos (by simp only[or_eq_true,beq_iff_eq,decide_eq_true_eq];omega)];exact⟨[],1,rfl,rfl,by simp⟩
 ·rw[h0];exact⟨[],16,rfl,rfl,by simp⟩
def PN(l:List bu):Prop:=l.length*104<=140737488351232/\(∀s∈l,s.2.2.2.1.2.1.length*64<=140737488351232)/\∀a∈l,fB a.2.2.2.1
theorem wy{α:Type}{l:List α}{i:Nat}{d:α}(h:i<l.length):l.getD i d∈l:=by rw[getD_eq h];exact List.getElem_mem h
theorem KC{α:Type}(Q:List α)(a b:α)(m:Nat):(Q++replicate (m+1) a).set Q.length b=(Q++[b])++replicate m a:=by rw[List.set_append_right _ _ (Nat.le_refl _),Nat.sub_self,List.replicate_succ,List.set_cons_zero,List.append_assoc];rfl
theorem AL{S:_}(K:Nat)(ks:List (List Int)){A:List (List bu)}(hS:S.2.2.2.2.1=A)(hA:A.length=3)(ha:∀l∈A,PN l)(Z:List dB):∀(m:Nat)(Q:List dB)(n:Nat),m<n->Q.length+m=3->(∀p∈Q,PF p)->
  ∃r l e,gr.l0 K (fun x3 c2=>some (c2,x3,())) (fun c2 c4=>gr.j0 (fun x3 c2=>some (c2,x3,())) c2 c4) n ks (Q.length:Int) S Z (Q++replicate m P0)=some (r,e,())/\
   cp.l0 K (fun x2 x3=>some (x2,x3,())) (fun c=>cp.j0 (fun x2 x3=>some (x2,x3,())) c) n ks A (Q.length:Int) Q=some (l,e,())/\(e≠0->r=[P0,P0,P0])/\(e=0->r=l/\l.length=3/\∀p∈l,PF p)
 |m,Q,0,h,_,_=>by omega
 |0,Q,n+1,h,hq,hp=>by simp only[gr.l0,gr.aR,cp.l0,cp.aR];rw[if_neg (by rw[decide_eq_true_eq];omega),if_neg (by rw[decide_eq_true_eq];omega)];exact⟨_,_,0,rfl,rfl,fun h=>absurd rfl h,fun _=>⟨by simp,by omega,hp⟩⟩
 |m+1,Q,n+1,h,hq,hp=>by
  obtain⟨g1,g2,g3⟩:=ha _ (wy (l:=A) (i:=Q.length) (d:=[]) (by omega));obtain⟨p,e,p1,p2,p3,p4⟩:=H6 (Q.length:Int) ks (A.getD Q.length []) g1 g2 g3;simp only[gr.l0,gr.aR,cp.l0,cp.aR];rw[if_pos (by rw[decide_eq_true_eq];omega),if_pos (by omega),if_pos (by rw[decide_eq_true_eq];omega),if_pos (by omega),ae,hS,p1,p2];simp only[bind_some];by_cases he:e=0
  ·rw[if_neg (by simpa using he),if_pos (by omega),if_neg (by simpa using he),if_pos (aK (by omega) (by omega)),ax (by omega),KC];have ih:=AL K ks hS hA ha Z m (Q++[p]) n (by omega) (by simp;omega) (fun q hq'=>by
    rcases List.mem_append.1 hq' with h|h
    ·exact hp q h
    ·simp only[List.mem_singleton]at h;subst h;exact p4 he)
   rw[length_append]at ih;exact ih
  ·rw[if_pos (by simpa using he),if_pos (by simpa using he)];exact⟨_,_,e,rfl,rfl,fun _=>rfl,fun h=>absurd h he⟩
theorem Is{P A B N x y:Int}{f:Bool}(b1:0<=P/\P<aB)(b2:0<=A/\A<aB)(b3:0<=B/\B<aB)(b4:0<=N/\N<aB)(b5:0<=x/\x<aB)(b6:0<=y/\y<aB)(S:_)(hcv:S.1=(mk P,mk A,mk B,mk N,(mk x,mk y,f,()),()))(hs:∀d∈S.2.1,W4 d)(hA:S.2.2.2.2.1.length=3)(ha:∀l∈S.2.2.2.2.1,PN l):
  ∃r l e,gr.run S=some (r,e,())/\cp.run S=some (l,e,())/\(e≠0->r=[P0,P0,P0])/\(e=0->r=l/\l.length=3/\∀p∈l,PF p):=by
 obtain⟨ks,e,k1,k2,k3⟩:=Lu b1 b2 b3 b4 b5 b6 S hcv hs;unfold gr.run gr.top cp.run cp.top;rw[k1,k2];simp only[bind_some];by_cases he:e=0
 ·rw[if_neg (by simpa using he),if_neg (by simpa using he)];exact AL fuel ks rfl hA ha [P0,P0,P0] 3 [] fuel (by rw[ai];omega) rfl (by simp)
 ·rw[if_pos (by simpa using he),if_pos (by simpa using he)];exact⟨_,_,e,rfl,rfl,fun _=>rfl,fun h=>absurd h he⟩
end Go.Bx
namespace Go.Bx
open Go
abbrev yp:Type:=Int×List Int×List Int×Int×List Int×List Int×List Int×Int×Int×List Int×Unit
abbrev TT:Type:=Int×Int×List yp×Unit
abbrev gB:Type:=List TT×Int×Int×Unit
abbrev RZ:TT:=(0,0,[],())
def par(t:gB)(i:Nat):Int:=(t.1.getD i RZ).1
def md(t:gB)(i:Nat):Int:=(t.1.getD i RZ).2.1
def Vt(t:gB):Prop:=∀i,i<t.1.length->(i=0->par t i=-1)/\(0<i->0<=par t i/\par t i<(i:Int))
theorem Vt.low{t:gB}(h:Vt t){i:Nat}(hi:i<t.1.length):-1<=par t i/\par t i<(i:Int):=by
 by_cases h0:i=0
 ·have:=(h i hi).1 h0;omega
 ·have:=(h i hi).2 (by omega);omega
theorem chain{t:gB}(hV:Vt t)(hl:t.1.length<=50):∀(n:Nat)(b:Int),n<=100->b<(n:Int)->b<(t.1.length:Int)->-1<=b->
  ∃l:List Int,l.length<=n/\(∀x∈l,0<=x/\x<=b)/\(∀N,n<N->cj.runN N t b=some (l,()))/\
   (∀(α:Type)(k:Nat)(Xt:List Int->Option α)(N:Nat)(acc:List Int),n<N->acc.length+n<=200->iP.l0 k Xt N acc b t=Xt (l++acc))/\
   (∀(α:Type)(k:Nat)(Xt:Int->Int->Option α)(N:Nat)(root:Int),n<N->0<=root->∃c,fP.l0 k Xt N b root t=Xt c root/\(c=root↔root∈l))
 |n,b=>by
  intro h100 hn hb h0;by_cases hneg:b<0
  ·refine⟨[],by simp,by simp,fun N hN=>?_,fun α k Xt N acc hN ha=>?_,fun α k Xt N root hN hr=>⟨b,?_,?_⟩⟩
   ·obtain⟨N,rfl⟩:∃M,N=M+1:=⟨N-1,by omega⟩
    simp only[cj.runN,cj.top];rw[if_pos (by rw[decide_eq_true_eq];exact hneg)]
   ·obtain⟨N,rfl⟩:∃M,N=M+1:=⟨N-1,by omega⟩
    simp only[iP.l0,iP.aR];rw[if_neg (by rw[decide_eq_true_eq];omega)];simp
   ·obtain⟨N,rfl⟩:∃M,N=M+1:=⟨N-1,by omega⟩
    simp only[fP.l0,fP.aR];rw[if_neg (by rw[decide_eq_true_eq];omega)]
   ·simp;omega
  ·obtain⟨i,rfl⟩:∃i:Nat,b=(i:Int):=⟨b.toNat,by omega⟩
   have hi:i<t.1.length:=by omega
   obtain⟨p1,p2⟩:=hV.low hi;have hpar:(List.getD t.1 i (0,0,[],())).1=par t i:=rfl;cases n with
   |zero=>omega
   |succ n=>
    obtain⟨l,q1,q2,q3,q4,q5⟩:=chain hV hl n (par t i) (by omega) (by omega) (by omega) p1;refine⟨l++[(i:Int)],by simp;omega,fun x hx=>?_,fun N hN=>?_,fun α k Xt N acc hN ha=>?_,fun α k Xt N root hN hr=>?_⟩
    ·rcases List.mem_append.1 hx with hx|hx
     ·have:=q2 x hx;omega
     ·simp at hx;omega
    ·obtain⟨N,rfl⟩:∃M,N=M+1:=⟨N-1,by omega⟩
     simp only[cj.runN,cj.top];rw[if_neg (by rw[decide_eq_true_eq];omega),if_pos (by omega),ae,hpar,q3 N (by omega),bind_some,if_pos (aK (by show l.length+1<=_;omega) (by omega))]
    ·obtain⟨N,rfl⟩:∃M,N=M+1:=⟨N-1,by omega⟩
     simp only[iP.l0,iP.aR];rw[if_pos (by rw[decide_eq_true_eq];omega),if_pos (aK (by omega) (by omega)),if_pos (by omega),ae,hpar,q4 α k Xt N ([(i:Int)]++acc) (by omega) (by simp;omega)];simp
    ·obtain⟨N,rfl⟩:∃M,N=M+1:=⟨N-1,by omega⟩
     simp only[fP.l0,fP.aR];by_cases hc:(i:Int)>root
     ·rw[if_pos (by rw[decide_eq_true_eq];exact hc),if_pos (by omega),ae,hpar];obtain⟨c,c1,c2⟩:=q5 α k Xt N root (by omega) hr;refine⟨c,c1,?_⟩;rw[c2,mem_append];constructor
      ·exact .inl
      ·rintro(h|h)
       ·exact h
       ·simp at h;omega
     ·rw[if_neg (by rw[decide_eq_true_eq];exact hc)];refine⟨i,rfl,?_⟩;rw[mem_append];constructor
      ·rintro rfl;exact .inr (by simp)
      ·rintro(h|h)
       ·have:=q2 root h;omega
       ·simp at h;omega
theorem Gq{α:Type}(k:Nat)(Rt:Bool->Option α)(Xt:Option α)(root:Int)(l:List Int)(hl:l.length<=1000):∀(R P:List Int)(n:Nat),R.length<n->l=P++R->
  cd.l0 k Rt Xt n root l (l.length:Int) (P.length:Int)=if root∈R then Rt true else Xt
 |R,P,0,h,_=>by omega
 |[],P,n+1,h,hc=>by
  simp only[cd.l0,cd.aR];have:l.length=P.length:=by rw[hc];simp
  rw[if_neg (by rw[decide_eq_true_eq];omega),if_neg (by simp)]
 |a::R,P,n+1,h,hc=>by
  have hlen:l.length=P.length+(R.length+1):=by rw[hc];simp
  simp only[cd.l0,cd.aR];have hg:l.getD P.length 0=a:=by rw[hc];exact kG _ _ _ _
  rw[if_pos (by rw[decide_eq_true_eq];omega),if_pos (by omega),ax (by omega),ae,hg];have ih:=Gq k Rt Xt root l hl R (P++[a]) n (by simpa using h) (by simp[hc]);rw[length_append]at ih;by_cases he:a=root
  ·rw[if_pos (by simp[he]),if_pos (by simp[he])]
  ·rw[if_neg (by simpa using he)];refine Eq.trans ih ?_;by_cases hr:root∈R
   ·rw[if_pos hr,if_pos (List.mem_cons_of_mem _ hr)]
   ·rw[if_neg hr,if_neg (by simp only[List.mem_cons,not_or];exact⟨fun e=>he e.symm,hr⟩)]
theorem xQ{t:gB}(hV:Vt t)(hl:t.1.length<=50){b:Int}(hb:b<(t.1.length:Int))(h0:-1<=b):
  ∃l:List Int,l.length<=51/\iP.run t b=some l/\eC.run t b=some l/\(∀root,0<=root->fP.run t b root=some (decide (root∈l))/\cd.run t b root=some (decide (root∈l)))/\(∀x∈l,0<=x/\x<=b)/\(0<=b->b∈l):=by
 obtain⟨l,q1,q2,q3,q4,q5⟩:=chain hV hl 51 b (by omega) (by omega) hb h0;have hline:∀(N:Nat),51<N->iP.l0 N (fun(x5:List Int)=>iP.j0 (fun(x4:List Int)=>some x4) x5) N [] b t=some l:=fun N hN=>by rw[q4 (List Int) N _ N [] hN (by simp)];unfold iP.j0;simp
 have hto:eC.run t b=some l:=by
  unfold eC.run eC.top cj.run;have:=fun N(hN:51<N)=>q3 (N+1) (by omega);have h1:=this fuel (by rw[ai];omega);simp only[cj.runN,cj.top]at h1;by_cases hneg:b<0
  ·rw[if_pos (by rw[decide_eq_true_eq];exact hneg)]at h1⊢;simp only[Option.some.injEq,Prod.mk.injEq,and_true]at h1;rw[h1]
  ·rw[if_neg (by rw[decide_eq_true_eq];exact hneg),if_pos (by omega)]at h1⊢;obtain⟨y,y1,y2⟩:=Option.bind_eq_some_iff.1 h1;rw[y1,bind_some];split at y2
   ·rename_i hf;rw[if_pos hf];simp only[Option.some.injEq,Prod.mk.injEq,and_true]at y2;rw[y2]
   ·cases y2
 refine⟨l,q1,hline fuel (by rw[ai];omega),hto,fun root hr=>⟨?_,?_⟩,q2,fun h0b=>?_⟩
 ·unfold fP.run fP.top;have:=fun N(hN:51<N)=>q5 Bool N (fun(x1:Int)(x2:Int)=>fP.j0 (fun(x6:Bool)=>some x6) x1 x2) N root hN hr;obtain⟨c,c1,c2⟩:=this fuel (by rw[ai];omega);refine Eq.trans c1 ?_;unfold fP.j0;congr 1;rw[Bool.eq_iff_iff,beq_iff_eq,decide_eq_true_eq];exact c2
 ·unfold cd.run cd.top;rw[hto,bind_some];have:=fun N(hN:l.length<N)=>Gq N (fun(x6:Bool)=>some x6) (cd.j0 fun(x6:Bool)=>some x6) root l (by omega) l [] N hN rfl;refine Eq.trans (this fuel (by rw[ai];omega)) ?_;unfold cd.j0;by_cases hr:root∈l
  ·rw[if_pos hr,decide_eq_true hr]
  ·rw[if_neg hr,decide_eq_false hr]
 ·
  have h1:=q3 52 (by omega);simp only[cj.runN,cj.top]at h1;rw[if_neg (by rw[decide_eq_true_eq];omega),if_pos (by omega)]at h1;obtain⟨y,y1,y2⟩:=Option.bind_eq_some_iff.1 h1;split at y2
  ·simp only[Option.some.injEq,Prod.mk.injEq,and_true]at y2;rw[<-y2];simp
  ·cases y2
def pl(t:gB)(root:Int)(i:Nat):Bool:=(fP.run t (i:Int) root).getD false
theorem kZ{t:gB}(hV:Vt t)(hl:t.1.length<=50){root:Int}(hr:0<=root){i:Nat}(hi:i<t.1.length):
  fP.run t (i:Int) root=some (pl t root i)/\cd.run t (i:Int) root=some (pl t root i)/\((i:Int)<root->pl t root i=false)/\((i:Int)=root->pl t root i=true):=by
 obtain⟨l,_,_,_,l4,l5,l6⟩:=xQ hV hl (b:=(i:Int)) (by omega) (by omega);obtain⟨a1,a2⟩:=l4 root hr;have e:pl t root i=decide (root∈l):=by unfold pl;rw[a1];rfl
 rw[e];refine⟨a1,a2,fun h=>?_,fun h=>?_⟩
 ·rw[decide_eq_false_iff_not];intro hm;have:=l5 root hm;omega
 ·rw[decide_eq_true_eq,<-h];exact l6 (by omega)
structure MH(t:gB)(S:Nat->Bool)(n p:Nat):Prop where
 lt:p<n
 on:S p=true
 all:∀i,i<n->S i=true->md t i<=md t p
 first:∀i,i<p->S i=true->md t i<md t p
theorem MH.one{t:gB}{S:Nat->Bool}{n p q:Nat}(h:MH t S n p)(g:MH t S n q):p=q:=by
 rcases Nat.lt_trichotomy p q with c|c|c
 ·have h1:=g.first p c h.on;have h2:=h.all q g.lt g.on;omega
 ·exact c
 ·have h1:=h.first q c g.on;have h2:=g.all p h.lt h.on;omega
theorem xu{α:Type}(k:Nat)(Xt:Int->Option α){t:gB}(hV:Vt t)(hl:t.1.length<=50){F:Nat}(hF:t.2.2.1=(F:Int))(hFl:F<t.1.length):
  ∀(n m i p:Nat),i+m=t.1.length->m<n->p<t.1.length->pl t (F:Int) p=true->(∀j,j<i->pl t (F:Int) j=true->md t j<=md t p)->(∀j,j<p->pl t (F:Int) j=true->md t j<md t p)->
  ∃q:Nat,iO.l0 k Xt n (p:Int) t.1 (t.1.length:Int) (i:Int) t=Xt (q:Int)/\MH t (pl t (F:Int)) t.1.length q
 |0,m,i,p,_,h,_,_,_,_=>by omega
 |n+1,0,i,p,hi,h,hp,hon,ha,hf=>by refine⟨p,?_,hp,hon,fun j hj=>ha j (by omega),hf⟩;simp only[iO.l0,iO.aR];rw[if_neg (by rw[decide_eq_true_eq];omega)]
 |n+1,m+1,i,p,hi,h,hp,hon,ha,hf=>by
  have hil:i<t.1.length:=by omega
  simp only[iO.l0,iO.aR];rw[if_pos (by rw[decide_eq_true_eq];omega),if_pos (by omega),hF,(kZ hV hl (root:=(F:Int)) (by omega) hil).1,bind_some,ae,ae];have g1:(decide (0<=(p:Int)/\(p:Int)<(t.1.length:Int))|| !(pl t (F:Int) i==true))=true:=by rw[or_eq_true];left;rw[decide_eq_true_eq];omega
  rw[g1];simp only[cond_true];unfold iO.j0;rw[ax (by omega)];have hi':(List.getD t.1 i (0,0,[],())).2.1=md t i:=rfl;have hp':(List.getD t.1 p (0,0,[],())).2.1=md t p:=rfl;rw[hi',hp'];by_cases hc:pl t (F:Int) i=true/\md t i>md t p
  ·rw[if_pos (by rw[hc.1];simpa using hc.2)];refine xu k Xt hV hl hF hFl n m (i+1) i (by omega) (by omega) hil hc.1 (fun j hj hs=>?_) (fun j hj hs=>?_)
   ·rcases lt_or_ge j i with hji|hji
    ·have:=ha j hji hs;omega
    ·have:j=i:=by omega
     subst this;omega
   ·have:=ha j hj hs;omega
  ·rw[if_neg (by
    intro hh;cases ho:pl t (F:Int) i with
    |false=>rw[ho]at hh;simp at hh
    |true=>rw[ho]at hh;exact hc ⟨ho,by simpa using hh⟩)]
   refine xu k Xt hV hl hF hFl n m (i+1) p (by omega) (by omega) hp hon (fun j hj hs=>?_) hf;rcases lt_or_ge j i with hji|hji
   ·exact ha j hji hs
   ·have:j=i:=by omega
    subst this;have:¬(md t j>md t p):=fun h=>hc ⟨hs,h⟩;omega
theorem nr{α:Type}(k:Nat)(Xt:Int->Option α){t:gB}(hV:Vt t)(hl:t.1.length<=50){F:Nat}(hF:t.2.2.1=(F:Int))(hFl:F<t.1.length):
  ∀(n i:Nat)(x:Int),i<n->i<=t.1.length->((x=-1/\∀j,i<=j->j<t.1.length->pl t (F:Int) j=false)\/∃p:Nat,x=(p:Int)/\i<=p/\p<t.1.length/\pl t (F:Int) p=true/\(∀j,i<=j->j<t.1.length->pl t (F:Int) j=true->md t j<=md t p)/\(∀j,i<=j->j<p->pl t (F:Int) j=true->md t j<md t p))->
  ∃q:Nat,cU.l0 k Xt n x ((i:Int)-1) t=Xt (q:Int)/\MH t (pl t (F:Int)) t.1.length q
 |0,i,x,h,_,_=>by omega
 |n+1,0,x,h,hi,hx=>by
  simp only[cU.l0,cU.aR];rw[if_neg (by simp)];rcases hx with ⟨_,hno⟩|⟨p,rfl,_,h2,h3,h4,h5⟩
  ·have:=hno F (by omega) hFl;rw[(kZ hV hl (root:=(F:Int)) (by omega) hFl).2.2.2 rfl]at this;cases this
  ·exact⟨p,rfl,h2,h3,fun j hj=>h4 j (by omega) hj,fun j hj=>h5 j (by omega) hj⟩
 |n+1,i+1,x,h,hi,hx=>by
  have hil:i<t.1.length:=by omega
  simp only[cU.l0,cU.aR];have ei:((i+1:Nat):Int)-1=(i:Int):=by omega
  rw[ei,if_pos (by rw[decide_eq_true_eq];omega),hF,(kZ hV hl (root:=(F:Int)) (by omega) hil).2.1,bind_some,ae];have ew:IntKind.i64.wrap ((i:Int)-1)=(i:Int)-1:=wrap_i64 (by omega) (by omega);have hi':(List.getD t.1 i (0,0,[],())).2.1=md t i:=rfl;have g1:(decide (0<=(i:Int)/\(i:Int)<(t.1.length:Int))|| !(decide (x<0)==false))=true:=by rw[or_eq_true];left;rw[decide_eq_true_eq];omega
  have g2:(decide (0<=x/\x<(t.1.length:Int))|| !(decide (x<0)==false))=true:=by
   rcases hx with ⟨rfl,_⟩|⟨p,rfl,_,h2,_⟩
   ·rfl
   ·rw[or_eq_true];left;rw[decide_eq_true_eq];omega
  rw[g1,g2];simp only[cond_true];unfold cU.j0;rw[ew,hi'];rcases hx with ⟨rfl,hno⟩|⟨p,rfl,h1,h2,h3,h4,h5⟩
  ·have d1:decide ((-1:Int)<0)=true:=rfl;rw[d1];simp only[cond_true];cases ho:pl t (F:Int) i with
   |true=>
    rw[if_pos (by rfl)];refine nr k Xt hV hl hF hFl n i (i:Int) (by omega) (by omega) (.inr ⟨i,rfl,by omega,hil,ho,fun j hj hjl hs=>?_,fun j hj hji=>by omega⟩);rcases lt_or_ge i j with hji|hji
    ·rw[hno j (by omega) hjl]at hs;cases hs
    ·have:j=i:=by omega
     subst this;exact Int.le_refl _
   |false=>
    rw[if_neg (by simp)];refine nr k Xt hV hl hF hFl n i (-1) (by omega) (by omega) (.inl ⟨rfl,fun j hj hjl=>?_⟩);rcases lt_or_ge i j with hji|hji
    ·exact hno j (by omega) hjl
    ·have:j=i:=by omega
     subst this;exact ho
  ·have d1:decide ((p:Int)<0)=false:=by rw[decide_eq_false_iff_not];omega
   have hp':(List.getD t.1 p (0,0,[],())).2.1=md t p:=rfl;rw[d1,ae,hp'];simp only[cond_false];by_cases hc:pl t (F:Int) i=true/\md t i>=md t p
   ·rw[if_pos (by rw[hc.1];simpa using hc.2)];refine nr k Xt hV hl hF hFl n i (i:Int) (by omega) (by omega) (.inr ⟨i,rfl,by omega,hil,hc.1,fun j hj hjl hs=>?_,fun j hj hji=>by omega⟩);rcases lt_or_ge i j with hji|hji
    ·have:=h4 j (by omega) hjl hs;omega
    ·have:j=i:=by omega
     subst this;exact Int.le_refl _
   ·rw[if_neg (by
     intro hh;cases ho:pl t (F:Int) i with
     |false=>rw[ho]at hh;simp at hh
     |true=>rw[ho]at hh;exact hc ⟨ho,by simpa using hh⟩)]
    refine nr k Xt hV hl hF hFl n i (p:Int) (by omega) (by omega) (.inr ⟨p,rfl,by omega,h2,h3,fun j hj hjl hs=>?_,fun j hj hjp hs=>?_⟩)
    ·rcases lt_or_ge i j with hji|hji
     ·exact h4 j (by omega) hjl hs
     ·have:j=i:=by omega
      subst this;have:¬(md t j>=md t p):=fun h=>hc ⟨hs,h⟩;omega
    ·rcases lt_or_ge i j with hji|hji
     ·exact h5 j (by omega) hjp hs
     ·have:j=i:=by omega
      subst this;have:¬(md t j>=md t p):=fun h=>hc ⟨hs,h⟩;omega
theorem K4{t:gB}(hV:Vt t)(hl:t.1.length<=50)(h0:0<=t.2.2.1)(h1:t.2.2.1<(t.1.length:Int)):∃q:Nat,iO.run t=some (q:Int)/\cU.run t=some (q:Int)/\q<t.1.length:=by
 obtain⟨F,hF⟩:∃F:Nat,t.2.2.1=(F:Int):=⟨t.2.2.1.toNat,by omega⟩
 have hFl:F<t.1.length:=by omega
 have hon:∀j,j<t.1.length->j<F->pl t (F:Int) j=false:=fun j hj hjF=>(kZ hV hl (root:=(F:Int)) (by omega) hj).2.2.1 (by omega);have a:=fun N(hN:t.1.length<N)=>xu N (fun(x3:Int)=>iO.j1 (fun(x2:Int)=>some x2) x3) hV hl hF hFl N t.1.length 0 F (by omega) hN hFl ((kZ hV hl (root:=(F:Int)) (by omega) hFl).2.2.2 rfl) (fun j hj=>by omega) (fun j hj hs=>by rw[hon j (by omega) hj]at hs;cases hs);have b:=fun N(hN:t.1.length<N)=>nr N (fun(x3:Int)=>cU.j1 (fun(x2:Int)=>some x2) x3) hV hl hF hFl N t.1.length (-1) hN (Nat.le_refl _) (.inl ⟨rfl,fun j hj hjl=>by omega⟩);obtain⟨q,q1,q2⟩:=a fuel (by rw[ai];omega);obtain⟨p,p1,p2⟩:=b fuel (by rw[ai];omega);have e:=q2.one p2;subst e;refine⟨q,?_,?_,q2.lt⟩
 ·unfold iO.run iO.top;rw[hF];exact q1
 ·unfold cU.run cU.top;have ew:IntKind.i64.wrap ((t.1.length:Int)-1)=(t.1.length:Int)-1:=wrap_i64 (by omega) (by omega);rw[ew];exact p1
def ku(t:gB)(i:Nat):Nat:=(t.1.getD i RZ).2.2.1.length
def okB(t:gB)(i:Nat):Prop:=if i=0 then par t i=-1/\md t i=0/\ku t i=0 else(0<=par t i/\par t i<(i:Int))/\md t i=IntKind.i64.wrap (md t (par t i).toNat+1)
instance(t:gB)(i:Nat):Decidable (okB t i):=by unfold okB;exact inferInstance
def xx(t:gB)(i:Nat):Int:=if ku t i>6 then 1 else if okB t i then 0 else 12
theorem Ig{α:Type}(k:Nat)(Rt:Int->Option α)(Xt:gB->Option α)(t:gB)(hl:t.1.length<=50)(n i:Nat)(hi:i<t.1.length):
  fO.l0 k Rt Xt (n+1) t.1 (t.1.length:Int) (i:Int) t=if xx t i=0 then fO.l0 k Rt Xt n t.1 (t.1.length:Int) ((i+1:Nat):Int) t else Rt (xx t i):=by
 simp only[fO.l0,fO.aR];rw[if_pos (by rw[decide_eq_true_eq];omega),if_pos (by omega),ax (by omega),ae];have e1:(List.getD t.1 i (0,0,[],())).1=par t i:=rfl;have e2:(List.getD t.1 i (0,0,[],())).2.1=md t i:=rfl;have e3:(List.getD t.1 i (0,0,[],())).2.2.1.length=ku t i:=rfl;have e4:(List.getD t.1 (par t i).toNat (0,0,[],())).2.1=md t (par t i).toNat:=rfl;rw[e1,e2,e3,e4];unfold xx;by_cases hA:ku t i>6
 ·rw[if_pos (by rw[decide_eq_true_eq];omega),if_pos hA,if_neg (by omega)]
 ·rw[if_neg (by rw[decide_eq_true_eq];omega),if_neg hA];by_cases h0:i=0
  ·subst h0;have lC:okB t 0↔par t 0=-1/\md t 0=0/\ku t 0=0:=by unfold okB;rw[if_pos rfl]
   by_cases hB:par t 0=-1/\md t 0=0/\ku t 0=0
   ·obtain⟨b1,b2,b3⟩:=hB;rw[if_pos (lC.2 ⟨b1,b2,b3⟩),if_pos rfl,b1,b2,b3];rfl
   ·rw[if_neg (fun h=>hB (lC.1 h)),if_neg (show¬((12:Int)=0) by decide)];have hc:cond (((0:Nat):Int)==0) (cond (cond (par t 0 !=-1) true (md t 0 !=0)) true (decide ((ku t 0:Int)>0))) false=true:=by
     have g1:(((0:Nat):Int)==0)=true:=rfl;rw[g1];simp only[cond_true];cases h1:par t 0 !=-1 with
     |true=>rfl
     |false=>
      cases h2:md t 0 !=0 with
      |true=>rfl
      |false=>
       simp only[cond_false];rw[decide_eq_true_eq];have q1:par t 0=-1:=by simpa using h1
       have q2:md t 0=0:=by simpa using h2
       have:ku t 0≠0:=fun e=>hB ⟨q1,q2,e⟩;omega
    rw[if_pos hc]
  ·have lC:okB t i↔(0<=par t i/\par t i<(i:Int))/\md t i=IntKind.i64.wrap (md t (par t i).toNat+1):=by unfold okB;rw[if_neg h0]
   have g1:((i:Int)==0)=false:=by rw[beq_eq_false_iff_ne];omega
   have g2:decide ((i:Int)>0)=true:=by rw[decide_eq_true_eq];omega
   rw[g1,g2];simp only[cond_false,cond_true];rw[if_neg (by simp)];by_cases hp:0<=par t i/\par t i<(i:Int)
   ·have d1:decide (par t i<0)=false:=by rw[decide_eq_false_iff_not];omega
    have d2:decide (par t i>=(i:Int))=false:=by rw[decide_eq_false_iff_not];omega
    have d3:decide (0<=par t i/\par t i<(t.1.length:Int))=true:=by rw[decide_eq_true_eq];omega
    rw[d1,d2,d3];simp only[cond_false,Bool.true_or,cond_true];by_cases hh:md t i=IntKind.i64.wrap (md t (par t i).toNat+1)
    ·rw[if_neg (by simpa using hh),if_pos (lC.2 ⟨hp,hh⟩),if_pos rfl]
    ·rw[if_pos (by simpa using hh),if_neg (fun h=>hh (lC.1 h).2),if_neg (by omega)]
   ·have d1:cond (decide (par t i<0)) true (decide (par t i>=(i:Int)))=true:=by
     cases hd:decide (par t i<0)with
     |true=>rfl
     |false=>simp only[cond_false];rw[decide_eq_true_eq];rw[decide_eq_false_iff_not]at hd;omega
    rw[d1];have d2:(decide (0<=par t i/\par t i<(t.1.length:Int))|| !(true==false))=true:=by simp
    rw[d2];simp only[cond_true];rw[if_pos trivial,if_neg (fun h=>hp (lC.1 h).1),if_neg (by omega)]
theorem Ir{α:Type}(k:Nat)(Rt:Int->Option α)(Xt:gB->Option α)(t:gB)(hl:t.1.length<=50)(n i:Nat)(hi:i<t.1.length):
  bE.l0 k Rt Xt (n+1) t.1 (t.1.length:Int) (i:Int) t=if xx t i=0 then bE.l0 k Rt Xt n t.1 (t.1.length:Int) ((i+1:Nat):Int) t else Rt (xx t i):=by
 simp only[bE.l0,bE.aR];unfold bE.j0;rw[if_pos (by rw[decide_eq_true_eq];omega),if_pos (by omega),ax (by omega),ae];have e1:(List.getD t.1 i (0,0,[],())).1=par t i:=rfl;have e2:(List.getD t.1 i (0,0,[],())).2.1=md t i:=rfl;have e3:(List.getD t.1 i (0,0,[],())).2.2.1.length=ku t i:=rfl;have e4:(List.getD t.1 (par t i).toNat (0,0,[],())).2.1=md t (par t i).toNat:=rfl;rw[e1,e2,e3,e4];unfold xx;by_cases hA:ku t i>6
 ·rw[if_pos (by rw[decide_eq_true_eq];omega),if_pos hA,if_neg (by omega)]
 ·rw[if_neg (by rw[decide_eq_true_eq];omega),if_neg hA];by_cases h0:i=0
  ·subst h0;have lC:okB t 0↔par t 0=-1/\md t 0=0/\ku t 0=0:=by unfold okB;rw[if_pos rfl]
   rw[if_neg (by simp)];by_cases hB:par t 0=-1/\md t 0=0/\ku t 0=0
   ·obtain⟨b1,b2,b3⟩:=hB;rw[if_pos (lC.2 ⟨b1,b2,b3⟩),if_pos rfl,b1,b2,b3];rfl
   ·rw[if_neg (fun h=>hB (lC.1 h)),if_neg (show¬((12:Int)=0) by decide)];have hc:cond (cond (par t 0==-1) (md t 0==0) false) ((ku t 0:Int)==0) false=false:=by
     cases h1:par t 0==-1 with
     |false=>rfl
     |true=>
      cases h2:md t 0==0 with
      |false=>rfl
      |true=>
       simp only[cond_true];rw[beq_eq_false_iff_ne];have q1:par t 0=-1:=by simpa using h1
       have q2:md t 0=0:=by simpa using h2
       have:ku t 0≠0:=fun e=>hB ⟨q1,q2,e⟩;omega
    rw[hc];rfl
  ·have lC:okB t i↔(0<=par t i/\par t i<(i:Int))/\md t i=IntKind.i64.wrap (md t (par t i).toNat+1):=by unfold okB;rw[if_neg h0]
   rw[if_pos (by rw[decide_eq_true_eq];omega)];by_cases hp:0<=par t i/\par t i<(i:Int)
   ·have d1:decide (par t i>=0)=true:=by rw[decide_eq_true_eq];omega
    have d2:decide (par t i<(i:Int))=true:=by rw[decide_eq_true_eq];omega
    have d3:decide (0<=par t i/\par t i<(t.1.length:Int))=true:=by rw[decide_eq_true_eq];omega
    rw[d1,d2,d3];simp only[Bool.true_or,cond_true];by_cases hh:md t i=IntKind.i64.wrap (md t (par t i).toNat+1)
    ·rw[if_neg (by simpa using hh),if_pos (lC.2 ⟨hp,hh⟩),if_pos rfl]
    ·rw[if_pos (by simpa using hh),if_neg (fun h=>hh (lC.1 h).2),if_neg (by omega)]
   ·have d1:cond (decide (par t i>=0)) (decide (par t i<(i:Int))) false=false:=by
     cases hd:decide (par t i>=0)with
     |false=>rfl
     |true=>simp only[cond_true];rw[decide_eq_false_iff_not];rw[decide_eq_true_eq]at hd;omega
    rw[d1];have d2:(decide (0<=par t i/\par t i<(t.1.length:Int))|| !(false==true))=true:=by simp
    rw[d2];simp only[cond_true,cond_false];rw[if_pos (by rfl),if_neg (fun h=>hp (lC.1 h).1),if_neg (by omega)]
def xr(t:gB):Nat->Nat->Int
 |0,_=>0
 |m+1,i=>if xx t i=0 then xr t m (i+1)else xx t i
theorem yA{α:Type}(k:Nat)(Rt:Int->Option α)(Xt:gB->Option α)(t:gB)(hl:t.1.length<=50):∀(m n i:Nat),i+m=t.1.length->m<n->
  fO.l0 k Rt Xt n t.1 (t.1.length:Int) (i:Int) t=if xr t m i=0 then Xt t else Rt (xr t m i)
 |m,0,i,_,h=>by omega
 |0,n+1,i,hi,h=>by simp only[fO.l0,fO.aR,xr];rw[if_neg (by rw[decide_eq_true_eq];omega),if_pos trivial]
 |m+1,n+1,i,hi,h=>by
  rw[Ig k Rt Xt t hl n i (by omega)];simp only[xr];by_cases hb:xx t i=0
  ·simp only[if_pos hb];exact yA k Rt Xt t hl m n (i+1) (by omega) (by omega)
  ·simp only[if_neg hb]
theorem yF{α:Type}(k:Nat)(Rt:Int->Option α)(Xt:gB->Option α)(t:gB)(hl:t.1.length<=50):∀(m n i:Nat),i+m=t.1.length->m<n->
  bE.l0 k Rt Xt n t.1 (t.1.length:Int) (i:Int) t=if xr t m i=0 then Xt t else Rt (xr t m i)
 |m,0,i,_,h=>by omega
 |0,n+1,i,hi,h=>by simp only[bE.l0,bE.aR,xr];rw[if_neg (by rw[decide_eq_true_eq];omega),if_pos trivial]
 |m+1,n+1,i,hi,h=>by
  rw[Ir k Rt Xt t hl n i (by omega)];simp only[xr];by_cases hb:xx t i=0
  ·simp only[if_pos hb];exact yF k Rt Xt t hl m n (i+1) (by omega) (by omega)
  ·simp only[if_neg hb]
theorem CL{t:gB}:∀(m i:Nat),xr t m i=0->∀j,i<=j->j<i+m->xx t j=0
 |0,i,_,j,h1,h2=>by omega
 |m+1,i,h,j,h1,h2=>by
  simp only[xr]at h;by_cases hb:xx t i=0
  ·rw[if_pos hb]at h;by_cases hj:j=i
   ·rw[hj];exact hb
   ·exact CL m (i+1) h j (by omega) (by omega)
  ·rw[if_neg hb]at h;exact absurd h hb
theorem Vf{t:gB}(h:xr t t.1.length 0=0):Vt t/\∀i,i<t.1.length->ku t i<=6:=by
 have key:∀i,i<t.1.length->ku t i<=6/\okB t i:=fun i hi=>by
  have:=CL _ _ h i (by omega) (by omega);unfold xx at this;by_cases hA:ku t i>6
  ·rw[if_pos hA]at this;omega
  ·rw[if_neg hA]at this;by_cases hk:okB t i
   ·exact⟨by omega,hk⟩
   ·rw[if_neg hk]at this;omega
 refine⟨fun i hi=>?_,fun i hi=>(key i hi).1⟩;have hk:=(key i hi).2;unfold okB at hk;by_cases h0:i=0
 ·rw[if_pos h0]at hk;exact⟨fun _=>hk.1,fun h=>by omega⟩
 ·rw[if_neg h0]at hk;exact⟨fun h=>absurd h h0,fun _=>hk.1⟩
structure MK(t:gB):Prop where
 one:1<=t.1.length
 len:t.1.length<=40
 vt:Vt t
 calls:∀i,i<t.1.length->ku t i<=6
 fin:0<=t.2.2.1/\t.2.2.1<(t.1.length:Int)
 best:0<=t.2.1/\t.2.1<(t.1.length:Int)
theorem Mt(t:gB):∃e,fO.run t=some e/\bE.run t=some e/\(e=0->MK t):=by
 unfold fO.run fO.top bE.run bE.top;by_cases hs:t.1.length<1\/t.1.length>40
 ·have c1:cond (decide ((t.1.length:Int)<1)) true (decide ((t.1.length:Int)>40))=true:=by rw[bS,or_eq_true,decide_eq_true_eq,decide_eq_true_eq];omega
  have c2:cond ((t.1.length:Int)==0) true (decide ((t.1.length:Int)>40))=true:=by rw[bS,or_eq_true,beq_iff_eq,decide_eq_true_eq];omega
  rw[c1,c2];exact⟨1,rfl,rfl,fun h=>by omega⟩
 ·have c1:cond (decide ((t.1.length:Int)<1)) true (decide ((t.1.length:Int)>40))=false:=by rw[bS,Bool.or_eq_false_iff,decide_eq_false_iff_not,decide_eq_false_iff_not];omega
  have c2:cond ((t.1.length:Int)==0) true (decide ((t.1.length:Int)>40))=false:=by rw[bS,Bool.or_eq_false_iff,beq_eq_false_iff_ne,decide_eq_false_iff_not];omega
  rw[c1,c2,if_neg (by simp),if_neg (by simp)];have a:=fun N(hN:t.1.length<N)=>yA N (fun(x2:Int)=>some x2) (fun(c1:gB)=>fO.j0 (fun(x2:Int)=>some x2) c1) t (by omega) t.1.length N 0 (by omega) hN;have b:=fun N(hN:t.1.length<N)=>yF N (fun(x2:Int)=>some x2) (fun(c1:gB)=>bE.j1 (fun(x2:Int)=>some x2) c1) t (by omega) t.1.length N 0 (by omega) hN;have a:=a fuel (by rw[ai];omega);have b:=b fuel (by rw[ai];omega);by_cases hE:xr t t.1.length 0=0
  ·rw[if_pos hE]at a b;obtain⟨hV,hcl⟩:=Vf hE;unfold fO.j0 at a;unfold bE.j1 at b;by_cases hf:0<=t.2.2.1/\t.2.2.1<(t.1.length:Int)
   ·obtain⟨q,q1,q2,q3⟩:=K4 hV (by omega) hf.1 hf.2;have d:cond (decide (t.2.2.1<0)) true (decide (t.2.2.1>=(t.1.length:Int)))=false:=by rw[bS,Bool.or_eq_false_iff,decide_eq_false_iff_not,decide_eq_false_iff_not];omega
    rw[d,if_pos (show(false==false)=true from rfl),q1,bind_some]at a;rw[d,if_pos (show(false==false)=true from rfl),q2,bind_some]at b;simp only[cond_false]at a b;by_cases hb:t.2.1=(q:Int)
    ·rw[if_neg (by simpa using hb)]at a b;exact⟨0,a,b,fun _=>⟨by omega,by omega,hV,hcl,hf,by omega⟩⟩
    ·rw[if_pos (by simpa using hb)]at a b;exact⟨12,a,b,fun h=>by omega⟩
   ·have d:cond (decide (t.2.2.1<0)) true (decide (t.2.2.1>=(t.1.length:Int)))=true:=by rw[bS,or_eq_true,decide_eq_true_eq,decide_eq_true_eq];omega
    rw[d]at a b;exact⟨12,a,b,fun h=>by omega⟩
  ·rw[if_neg hE]at a b;exact⟨_,a,b,fun h=>absurd h hE⟩
end Go.Bx
namespace Go.Bx
open Go Go.Bx.Rg
theorem IL(t:gB)(f:Bool):∃l e,oq.run t f=some (l,e,())/\ib.run t f=some (l,e,())/\(e=0->l.length<=51/\MK t/\∀b∈l,0<=b/\b<(t.1.length:Int)):=by
 obtain⟨e,e1,e2,e3⟩:=Mt t;unfold oq.run oq.top ib.run ib.top;rw[e1,e2];simp only[bind_some];by_cases he:e=0
 ·subst he;have g:=e3 rfl;obtain⟨l1,a1,a2,a3,_,a4,_⟩:=xQ g.vt (by have:=g.len;omega) (b:=t.2.2.1) g.fin.2 (by have:=g.fin;omega);obtain⟨l2,b1,b2,b3,_,b4,_⟩:=xQ g.vt (by have:=g.len;omega) (b:=t.2.1) g.best.2 (by have:=g.best;omega);rw[a2,a3,b2,b3];simp only[bind_some];cases f with
  |true=>exact⟨l1,0,rfl,rfl,fun _=>⟨by omega,g,fun b hb=>by have:=a4 b hb;have:=g.fin;omega⟩⟩
  |false=>exact⟨l2,0,rfl,rfl,fun _=>⟨by omega,g,fun b hb=>by have:=b4 b hb;have:=g.best;omega⟩⟩
 ·have hn:(e !=0)=true:=by simpa using he
  simp only[if_pos hn];exact⟨_,_,rfl,rfl,fun h=>absurd h he⟩
abbrev WU:yp:=(0,(replicate 32 0),(replicate 32 0),0,[0,0,0,0],[0,0,0,0],(replicate 32 0),0,0,[],())
structure CF(c:yp):Prop where
 h:-9223372036854775808<=c.2.2.2.2.2.2.2.2.1/\c.2.2.2.2.2.2.2.2.1<=9223372036854775807
 w:c.2.1.length=32/\∀b∈c.2.1,0<=b/\b<=255
 t:c.2.2.1.length=32
 o:c.2.2.2.2.2.2.1.length=32
 a:W4 c.2.2.2.2.1
 f:W4 c.2.2.2.2.2.1
 b:gy c.2.2.2.2.2.2.2.2.2.1
 l:c.2.2.2.2.2.2.2.2.2.1.length<=140737488351232
abbrev Vy:Type:=PO×List (List Int)×Int×(List Int×List Int×Int×List (Int×Int×Int×Int×Unit)×List (Int×Int×Int×Int×Unit)×Unit)×List (List bu)×Unit
section
variable {P A B N x y:Int}{f:Bool}(b1:0<=P/\P<aB)(b2:0<=A/\A<aB)(b3:0<=B/\B<aB)(b4:0<=N/\N<aB)(b5:0<=x/\x<aB)(b6:0<=y/\y<aB){S:Vy}(hcv:S.1=(mk P,mk A,mk B,mk N,(mk x,mk y,f,()),()))
include b1 b2 b3 b4 b5 b6 hcv
theorem M8(p:dB)(c:yp)(hp:PF p)(hc:CF c):∃(q:dB)(e:Int),n8.run S.1 p c=some (q,e,())/\ik.run S.1 p c=some (q,e,())/\PF q/\(e≠0->q=p):=by rw[hcv];exact P9 b1 b2 b3 b4 b5 b6 p.1 p.2.1 p.2.2.2.2.2.1 c.1 c.2.2.2.1 c.2.2.2.2.2.2.2.1 c.2.2.2.2.2.2.2.2.1 p.2.2.1 p.2.2.2.1 p.2.2.2.2.1 p.2.2.2.2.2.2.1 c.2.1 c.2.2.1 c.2.2.2.2.1 c.2.2.2.2.2.1 c.2.2.2.2.2.2.1 c.2.2.2.2.2.2.2.2.2.1 hp hc.h hc.w hc.t hc.o hc.a hc.f hc.b hc.l
theorem Ar{α:Type}(K:Nat)(Xt Xu:_)(x2:Bool)(i:Nat)(hi:i<3)(x28:_)(x29:Int)(x43:List Int)(x44 x45:Int)(c6:List dB)(c11:gB)(z8:List dB)(c10:List dB)(cs:List yp)(hl:cs.length<=1000)(hc:∀c∈cs,CF c):
  ∀(R Q:List yp)(n:Nat)(p:dB)(c8:List dB),R.length<n->cs=Q++R->c8.length=3->c8.getD i P0=p->PF p->
  ∃q,PF q/\bN.l2 (α:=α) K Xt n x2 (i:Int) x28 x29 x43 x44 x45 cs (cs.length:Int) (Q.length:Int) S c6 c8 c11=Xt x2 (i:Int) x28 x29 x43 x44 x45 S c6 (c8.set i q) c11/\
   aq.l2 (α:=α) K Xu n x2 z8 (i:Int) x28 x29 x43 x44 x45 cs (cs.length:Int) (Q.length:Int) S c6 c10 c11 p=Xu x2 z8 (i:Int) x28 x29 x43 x44 x45 S c6 c10 c11 q
 |R,Q,0,p,c8,h,_,_,_,_=>by omega
 |[],Q,n+1,p,c8,h,hq,h8,hg,hp=>by
  have:cs.length=Q.length:=by rw[hq];simp
  simp only[bN.l2,bN.vw,aq.l2,aq.vw];rw[if_neg (by rw[decide_eq_true_eq];omega),if_neg (by rw[decide_eq_true_eq];omega)];refine⟨p,hp,?_,rfl⟩;rw[<-hg,getD_eq (by omega),List.set_getElem_self]
 |c::R,Q,n+1,p,c8,h,hq,h8,hg,hp=>by
  have hlen:cs.length=Q.length+(R.length+1):=by rw[hq];simp
  have hgc:cs.getD Q.length WU=c:=by rw[hq];exact dk _ _ _ _
  obtain⟨q,e,k1,k2,k3,k4⟩:=M8 b1 b2 b3 b4 b5 b6 hcv p c hp (hc c (by rw[hq];simp));simp only[bN.l2,bN.vw,aq.l2,aq.vw];rw[if_pos (by rw[decide_eq_true_eq];omega),if_pos (by omega),if_pos (by omega),if_pos (by rw[decide_eq_true_eq];omega),if_pos (by omega),ae,ae,hgc,hg,k1,k2];simp only[bind_some];rw[if_pos (by omega)];have hq2:(if(e==0)=true then aq.j0 (aq.l2 K Xu n) x2 z8 (i:Int) x28 x29 x43 x44 x45 cs (cs.length:Int) (Q.length:Int) S c6 c10 c11 q else aq.j0 (aq.l2 K Xu n) x2 z8 (i:Int) x28 x29 x43 x44 x45 cs (cs.length:Int) (Q.length:Int) S c6 c10 c11 p)=aq.j0 (aq.l2 K Xu n) x2 z8 (i:Int) x28 x29 x43 x44 x45 cs (cs.length:Int) (Q.length:Int) S c6 c10 c11 q:=by
   by_cases he:e=0
   ·rw[if_pos (by simpa using he)]
   ·rw[if_neg (by simpa using he),k4 he]
  rw[hq2];unfold aq.j0;rw[ax (by omega)];obtain⟨r,r1,r2,r3⟩:=Ar K Xt Xu x2 i hi x28 x29 x43 x44 x45 c6 c11 z8 c10 cs hl hc R (Q++[c]) n q (c8.set i q) (by simpa using h) (by simp[hq]) (by rw[length_set];exact h8) (by rw[getD_eq (by rw[length_set];omega)];simp) k3;rw[length_append]at r2 r3;rw[List.set_set]at r2;exact⟨r,r1,r2,r3⟩
theorem yx{α:Type}(K:Nat)(hK:1000<K)(Xt Xu:_)(x2:Bool)(i:Nat)(hi:i<3)(x28:_)(x29:Int)(c6:List dB)(t:gB)(ht:MK t)(hc:∀b∈t.1,∀c∈b.2.2.1,CF c)(z8:List dB)(c10:List dB)(ln:List Int)(hl:ln.length<=51)(hb:∀b∈ln,0<=b/\b<(t.1.length:Int)):
  ∀(R Q:List Int)(n:Nat)(p:dB)(c8:List dB),R.length<n->ln=Q++R->c8.length=3->c8.getD i P0=p->PF p->
  ∃q,PF q/\bN.l1 (α:=α) K Xt n x2 (i:Int) x28 x29 ln (ln.length:Int) (Q.length:Int) S c6 c8 t=Xt x2 x28 x29 S c6 (c8.set i q)/\
   aq.l1 (α:=α) K Xu n x2 z8 (i:Int) x28 x29 ln (ln.length:Int) (Q.length:Int) S c6 c10 t p=Xu x2 z8 (i:Int) x28 x29 S c6 c10 q
 |R,Q,0,p,c8,h,_,_,_,_=>by omega
 |[],Q,n+1,p,c8,h,hq,h8,hg,hp=>by
  have:ln.length=Q.length:=by rw[hq];simp
  simp only[bN.l1,bN.ly,aq.l1,aq.ly];rw[if_neg (by rw[decide_eq_true_eq];omega),if_neg (by rw[decide_eq_true_eq];omega)];refine⟨p,hp,?_,rfl⟩;rw[<-hg,getD_eq (by omega),List.set_getElem_self]
 |b::R,Q,n+1,p,c8,h,hq,h8,hg,hp=>by
  have hlen:ln.length=Q.length+(R.length+1):=by rw[hq];simp
  have hgb:ln.getD Q.length 0=b:=by rw[hq];exact dk _ _ _ _
  obtain⟨m1,m2⟩:=hb b (by rw[hq];simp);obtain⟨j,rfl⟩:∃j:Nat,b=(j:Int):=⟨b.toNat,by omega⟩
  have hn:(t.1.getD j RZ).2.2.1.length<=6:=ht.calls j (by omega);simp only[bN.l1,bN.ly,aq.l1,aq.ly];rw[if_pos (by rw[decide_eq_true_eq];omega),if_pos (by omega),ae,hgb,if_pos ⟨m1,m2⟩,if_pos (by rw[decide_eq_true_eq];omega),if_pos (by omega),if_pos ⟨m1,m2⟩,ae];obtain⟨q,q1,q2,q3⟩:=Ar b1 b2 b3 b4 b5 b6 hcv K (bN.j0 (bN.l1 K Xt n)) (aq.j1 (aq.l1 K Xu n)) x2 i hi x28 x29 ln (ln.length:Int) (Q.length:Int) c6 t z8 c10 (t.1.getD j RZ).2.2.1 (by omega) (hc _ (wy (l:=t.1) (i:=j) (d:=RZ) (by omega))) (t.1.getD j RZ).2.2.1 [] K p c8 (by omega) rfl h8 hg hp;rw[show((([]:List yp).length:Nat):Int)=0 from rfl]at q2 q3;rw[q2,q3];unfold bN.j0 aq.j1;rw[ax (by omega)];obtain⟨r,r1,r2,r3⟩:=yx K hK Xt Xu x2 i hi x28 x29 c6 t ht hc z8 c10 ln hl hb R (Q++[(j:Int)]) n q (c8.set i q) (by simpa using h) (by simp[hq]) (by rw[length_set];exact h8) (by rw[getD_eq (by rw[length_set];omega)];simp) q1;rw[length_append]at r2 r3;rw[List.set_set]at r2;exact⟨r,r1,r2,r3⟩
theorem BC(K:Nat)(hK:1000<K)(x2:Bool)(T:List gB)(hT:T.length=3)(hc:∀t∈T,∀b∈t.1,∀c∈b.2.2.1,CF c)(Z:List dB)(z8:List dB)(hz:z8.length=3)(hz8:∀p∈z8,PF p):
  ∀(m:Nat)(Q:List dB)(n:Nat),m<n->Q.length+m=3->(∀p∈Q,PF p)->
  ∃r e,bN.l0 K (fun x7 c6=>some (c6,x7,())) (fun c6 c8=>bN.j2 (fun x7 c6=>some (c6,x7,())) c6 c8) n x2 T (Q.length:Int) S Z (Q++z8.drop Q.length)=some (r,e,())/\
   aq.l0 K (fun x7 c6=>some (c6,x7,())) (fun c6 c8=>aq.j4 (fun x7 c6=>some (c6,x7,())) c6 c8) n x2 z8 T (Q.length:Int) S Z (Q++replicate m P0)=some (r,e,())/\(r=[P0,P0,P0]\/r.length=3/\∀p∈r,PF p)
 |m,Q,0,h,_,_=>by omega
 |0,Q,n+1,h,hq,hp=>by simp only[bN.l0,bN.aR,aq.l0,aq.aR];rw[if_neg (by rw[decide_eq_true_eq];omega),if_neg (by rw[decide_eq_true_eq];omega),List.drop_eq_nil_of_le (by omega)];exact⟨Q,0,by simp[bN.j2],by simp[aq.j4],.inr ⟨by omega,hp⟩⟩
 |m+1,Q,n+1,h,hq,hp=>by
  have htm:=wy (l:=T) (i:=Q.length) (d:=(([],0,0,()):gB)) (by omega);obtain⟨l,e,l1,l2,l3⟩:=IL (T.getD Q.length ([],0,0,())) x2;have hzm:=wy (l:=z8) (i:=Q.length) (d:=P0) (by omega);simp only[bN.l0,bN.aR,aq.l0,aq.aR];rw[if_pos (by rw[decide_eq_true_eq];omega),if_pos (by omega),if_pos (by rw[decide_eq_true_eq];omega),if_pos (by omega),ae,l1,l2];simp only[bind_some];by_cases he:e=0
  ·obtain⟨g1,g2,g3⟩:=l3 he;rw[if_neg (by simpa using he),if_neg (by simpa using he),if_pos (by omega)];have hd:Q++z8.drop Q.length=Q++z8.getD Q.length P0::z8.drop (Q.length+1):=by rw[List.drop_eq_getElem_cons (by omega),getD_eq (by omega)]
   obtain⟨q,q1,q2,q3⟩:=yx b1 b2 b3 b4 b5 b6 hcv K hK (bN.j1 (bN.l0 K (fun x7 c6=>some (c6,x7,())) (fun c6 c8=>bN.j2 (fun x7 c6=>some (c6,x7,())) c6 c8) n)) (aq.j2 (aq.l0 K (fun x7 c6=>some (c6,x7,())) (fun c6 c8=>aq.j4 (fun x7 c6=>some (c6,x7,())) c6 c8) n)) x2 Q.length (by omega) T (Q.length:Int) Z _ g2 (hc _ htm) z8 (Q++replicate (m+1) P0) l g1 g3 l [] K (z8.getD Q.length P0) (Q++z8.drop Q.length) (by omega) rfl (by simp;omega) (by rw[hd];exact dk _ _ _ _) (hz8 _ hzm);rw[show((([]:List Int).length:Nat):Int)=0 from rfl]at q2 q3;rw[q2,q3];unfold bN.j1 aq.j2 aq.j3;rw[if_pos (by omega),ax (by omega),ae,KC,hd,List.set_append_right _ _ (Nat.le_refl _),Nat.sub_self,List.set_cons_zero];have ih:=BC K hK x2 T hT hc Z z8 hz hz8 m (Q++[q]) n (by omega) (by simp;omega) (fun p hp'=>by
    rcases List.mem_append.1 hp' with h|h
    ·exact hp p h
    ·simp only[List.mem_singleton]at h;subst h;exact q1)
   rw[length_append,List.append_assoc]at ih;exact ih
  ·rw[if_pos (by simpa using he),if_pos (by simpa using he)];exact⟨_,e,rfl,rfl,.inl rfl⟩
theorem I9(hs:∀d∈S.2.1,W4 d)(hA:S.2.2.2.2.1.length=3)(ha:∀l∈S.2.2.2.2.1,PN l)(W:_)(hT:W.1.length=3)(hc:∀t∈W.1,∀b∈t.1,∀c∈b.2.2.1,CF c)(fl:Bool):
  ∃r e,bN.run S W fl=some (r,e,())/\aq.run S W fl=some (r,e,())/\(r=[P0,P0,P0]\/r.length=3/\∀p∈r,PF p):=by
 obtain⟨r,l,e,k1,k2,k3,k4⟩:=Is b1 b2 b3 b4 b5 b6 S hcv hs hA ha;unfold bN.run bN.top aq.run aq.top;rw[k1,k2];simp only[bind_some];by_cases he:e=0
 ·obtain⟨rfl,g2,g3⟩:=k4 he;rw[if_neg (by simpa using he),if_neg (by simpa using he)];exact BC b1 b2 b3 b4 b5 b6 hcv fuel (by rw[ai];omega) fl W.1 hT hc [P0,P0,P0] r g2 g3 3 [] fuel (by rw[ai];omega) rfl (by simp)
 ·rw[if_pos (by simpa using he),if_pos (by simpa using he),k3 he];exact⟨_,e,rfl,rfl,.inl rfl⟩
end
end Go.Bx
namespace Go.Bx
open Go
theorem uO{α:Type}(Rt:Bool->Option α)(Xt:Option α)(K:Nat)(c:ff)(hl:c.2.1.length<=4000000000000000):∀(R P:List eZ)(n:Nat),R.length<n->c.2.1=P++R->
  cJ.l0 K Rt Xt n (c.2.1.length:Int) (P.length:Int) c c=Xt
 |R,P,0,h,_=>by omega
 |[],P,n+1,h,hc=>by simp_all[cJ.l0,cJ.aR]
 |y::R,P,n+1,h,hc=>by
  have hlen:c.2.1.length=P.length+(R.length+1):=by rw[hc];simp
  simp only[cJ.l0,cJ.aR];rw[if_pos (dT (by omega)),if_pos (by omega),if_pos (by omega),ax (by omega),cP _ _ rfl,if_neg (by simp)];have ih:=uO Rt Xt K c hl R (P++[y]) n (by simpa using h) (by simp[hc]);grind
theorem CC(c:ff)(hl:c.2.1.length<=4000000000000000):cJ.run c c=some true:=by unfold cJ.run cJ.top;rw[cP _ _ rfl,if_neg (by simp[bS])];exact uO (fun x4=>some x4) (cJ.j0 fun x4=>some x4) fuel c hl c.2.1 [] fuel (by rw[ai];omega) rfl
theorem uS{α:Type}(Rt:Bool->Option α)(Xt:dB->dB->Option α)(K:Nat)(p:dB)(hl:p.2.2.2.1.length<=4000000000000)(hc:∀a∈p.2.2.2.1,a.2.2.2.1.2.1.length<=4000000000000000):∀(R P:List bu)(n:Nat),R.length<n->p.2.2.2.1=P++R->
  bI.l0 K Rt Xt n (p.2.2.2.1.length:Int) (P.length:Int) p p=Xt p p
 |R,P,0,h,_=>by omega
 |[],P,n+1,h,hq=>by simp_all[bI.l0,bI.aR]
 |y::R,P,n+1,h,hq=>by
  have hlen:p.2.2.2.1.length=P.length+(R.length+1):=by rw[hq];simp
  have hg:p.2.2.2.1.getD P.length A0=y:=by rw[hq];exact dk _ _ _ _
  simp only[bI.l0,bI.aR];rw[if_pos (dT (by omega)),if_pos (by omega),if_pos (by omega),ax (by omega),ae,hg,cP _ _ rfl,CC _ (hc y (by rw[hq];simp))];simp only[bne_self_eq_false,Bool.not_true,bS,Bool.or_self,BEq.rfl,if_true,bind_some,false_eq_true,if_false];have ih:=uS Rt Xt K p hl hc R (P++[y]) n (by simpa using h) (by simp[hq]);grind
theorem CB(b:dP):gm.run b b=some true:=by unfold gm.run gm.top;simp only[BEq.rfl,cP (.arr 32 (.int .u8)) _ rfl,cP .str _ rfl,cond_true]
theorem rQ{α:Type}(Rt:Bool->Option α)(Xt:Option α)(K:Nat)(l:List dP)(hl:l.length<=4000000000000):∀(R P:List dP)(n:Nat),R.length<n->l=P++R->
  cF.l0 K Rt Xt n l l (l.length:Int) (P.length:Int)=Xt
 |R,P,0,h,_=>by omega
 |[],P,n+1,h,hc=>by simp_all[cF.l0,cF.aR]
 |y::R,P,n+1,h,hc=>by
  have hlen:l.length=P.length+(R.length+1):=by rw[hc];simp
  simp only[cF.l0,cF.aR];rw[if_pos (dT (by omega)),if_pos (by omega),if_pos (by omega),CB,bind_some,ax (by omega),if_neg (by simp)];have ih:=rQ Rt Xt K l hl R (P++[y]) n (by simpa using h) (by simp[hc]);grind
theorem zH(l:List dP)(hl:l.length<=4000000000000):cF.run l l=some true:=by unfold cF.run cF.top;rw[if_neg (by simp)];refine(rQ _ _ fuel l hl l [] fuel (by rw[ai];omega) rfl).trans ?_;rfl
theorem uT(p:dB)(hl:p.2.2.2.1.length<=4000000000000)(hc:∀a∈p.2.2.2.1,a.2.2.2.1.2.1.length<=4000000000000000)(hs:p.2.2.1.length<=4000000000)(hs2:∀s∈p.2.2.1,s.2.1.length<=4000000000)(hb:p.2.2.2.2.2.2.1.length<=4000000000000):bI.run p p=some true:=by unfold bI.run bI.top;rw[cP _ _ rfl];simp only[bne_self_eq_false,Bool.not_true,bS,Bool.or_self,false_eq_true,if_false];refine(uS (fun x4=>some x4) (fun c2 c3=>bI.j0 (fun x4=>some x4) c2 c3) fuel p hl hc p.2.2.2.1 [] fuel (by rw[ai];omega) rfl).trans ?_;grind[CG,zH,bI.j0]
end Go.Bx
namespace Go.Bx
open Go Go.Bx.Rg
theorem QU{p:dB}(h:PF p):bI.run p p=some true:=by have ok:=J6 h.f;exact uT p (by have:=ok.al;omega) (fun a ha=>by have:=(ok.aa a ha).1;omega) (by have:=ok.sets;omega) (fun s hs=>by have:=ok.sets.2.2 s hs;omega) (by have:=ok.sl;omega)
theorem Fq:bI.run P0 P0=some true:=uT P0 (by decide) (by simp) (by decide) (by simp) (by decide)
theorem CE(r:List dB)(h:r=[P0,P0,P0]\/r.length=3/\∀p∈r,PF p):cw.run r r=some true:=by
 have hl:∀i,i<3->bI.run (r.getD i P0) (r.getD i P0)=some true:=fun i hi=>by
  rcases h with rfl|⟨h3,hp⟩
  ·match i,hi with
   |0,_=>exact Fq
   |1,_=>exact Fq
   |2,_=>exact Fq
  ·exact QU (hp _ (wy (by omega)))
 have loop:∀(m i n:Nat),m<n->i+m=3->cw.l0 fuel (fun x4=>some x4) (cw.j0 fun x4=>some x4) n (i:Int) r r=some true:=by
  intro m;induction m with
  |zero=>
   intro i n hn hi;obtain⟨n,rfl⟩:∃k,n=k+1:=⟨n-1,by omega⟩
   simp only[cw.l0,cw.aR];rw[if_neg (by rw[decide_eq_true_eq];omega)];rfl
  |succ m ih=>
   intro i n hn hi;obtain⟨n,rfl⟩:∃k,n=k+1:=⟨n-1,by omega⟩
   simp only[cw.l0,cw.aR];rw[if_pos (by rw[decide_eq_true_eq];omega),if_pos (by omega),if_pos (by omega),ae,hl i (by omega)];simp only[bind_some,Bool.not_true,false_eq_true,if_false];rw[ax (by omega)];exact ih (i+1) n (by omega) (by omega)
 unfold cw.run cw.top;exact loop 3 0 fuel (by rw[ai];omega) rfl
abbrev R0:Ty:=.pair (.int .i64) (.pair (.arr 32 (.int .u8)) (.pair (.arr 32 (.int .u8)) (.pair (.int .i64) (.pair Ck (.pair Ck (.pair (.arr 32 (.int .u8)) (.pair (.int .i64) (.pair (.int .i64) (.pair (.sl (.int .u8)) .unit)))))))))
theorem La{c:yp}(h:Fit rm R0 c):CF c:=by
 obtain⟨_,hx2,hx3,_,hx5,hx6,hx7,_,hx9,hx10,_⟩:=h;exact⟨Qj.1 hx9,JA hx2,hx3.1,hx7.1,hJ hx5,hJ hx6,fun b hb=>by have:=IA.1 (hx10.2.2 b hb);omega,by
  have:=hx10.1;unfold rm at this;simp only[Ty.bytes,IntKind.bits,reachBytes]at this;omega⟩
theorem Bc(x:ej.F.ps.den)(h:Fit rm ej.F.ps x):ej.run x.1 x.2.1 x.2.2.1=some true:=by
 obtain⟨S,W,fl,⟨⟩⟩:=x;obtain⟨hS,hW,_⟩:=h;obtain⟨hc,⟨_,_,hs⟩,_,_,⟨hA,ha⟩,_⟩:=hS;obtain⟨⟨hT,ht⟩,_⟩:=hW;obtain⟨P,A,B,N,x,y,f,hcv,b1,b2,b3,b4,b5,b6⟩:=Si S.1 hc;have g1:∀l∈S.2.2.2.2.1,PN l:=fun l hl=>by
  have h4:=ha l hl;refine⟨h4.1,fun a ha=>?_,fun a ha=>?_⟩
  ·obtain⟨_,_,_,⟨_,h5,_⟩,_⟩:=h4.2.2 a ha;exact h5.1
  ·obtain⟨_,_,_,h5,_⟩:=h4.2.2 a ha;exact FY h5
 have g2:∀t∈W.1,∀b∈t.1,∀c∈b.2.2.1,CF c:=fun t h1 b h2 c h3=>by obtain⟨⟨_,_,h4⟩,_⟩:=ht t h1;obtain⟨_,_,⟨_,_,h5⟩,_⟩:=h4 b h2;exact La (h5 c h3)
 obtain⟨r,e,r1,r2,r3⟩:=I9 b1 b2 b3 b4 b5 b6 hcv (fun d hd=>hJ (hs d hd)) hA g1 W hT g2 fl;show ej.run S W fl=some true;unfold ej.run ej.top;rw[r1,r2];simp only[bind_some];rw[CE r r3,bind_some];simp
end Go.Bx
