/- Laws about functions of plain data, in plain Lean. -/
import Derived.Test.YtbfaahaoefngoaaGreatDoorLawsWorldPosts4
import Derived.Test.YtbfaahaoefngoaaGreatDoorFnWorldPosts1
import Derived.Test.YtbfaahaoefngoaaGreatDoorLawsWorldPosts0
import Derived.Test.YtbfaahaoefngoaaGreatDoorLawsWorldPosts2
import Derived.Test.YtbfaahaoefngoaaGreatDoorLawsWorldPosts3
open Bool (false_eq_true)
open Int (emod_emod tmod)
open Option (bind_some)
set_option maxRecDepth 100000
set_option linter.unusedVariables false
set_option linter.unusedSimpArgs false
namespace Go.Bx.Rg
open Go Go.Bx
def jO(P:Int)(s:jW):Prop:=∃(x y:Int)(f:Bool),s=(mk x,mk y,f,())/\(0<=x/\x<P)/\(0<=y/\y<P)
abbrev HY:jW:=([0,0,0,0],[0,0,0,0],false,())
theorem JC{P:Int}(hP:1<P/\P<aB)(f:Bool):jO P ([0,0,0,0],[0,0,0,0],f,()):=⟨0,0,f,by rw[mk_zero],by omega,by omega⟩
theorem RL{P A B x y:Int}{f:Bool}(hP:1<P/\P<aB)(h:pl P A B x y f=true)(hx:0<=x/\x<aB)(hy:0<=y/\y<aB):jO P (mk x,mk y,f,()):=by refine⟨x,y,f,rfl,?_⟩;unfold pl at h;grind
section
variable {P A B:Int}(hP:1<P/\P<aB)(hA:0<=A/\A<P)(hB:0<=B/\B<P)(Nw:List Int)(bs:jW)
include hP
theorem vH{x1 y1 x2 y2 u d:Int}(f1 f2:Bool)(hx1:0<=x1/\x1<P)(hy1:0<=y1/\y1<P)(hx2:0<=x2/\x2<P)(hy2:0<=y2/\y2<P)(hu:0<=u/\u<P)(hd:0<=d/\d<P)(Aw Bw:List Int):
  ∃(s:jW)(ok:Bool),iN.j0 (fun x7 c6=>some (c6,x7,())) (mk x1,mk y1,f1,()) (mk x2,mk y2,f2,()) HY (mk P) (mk u) (mk d) false=some (s,ok,())/\
   cu.j0 (fun x7 c6=>some (c6,x7,())) (mk P,Aw,Bw,Nw,bs,()) (mk x1,mk y1,f1,()) (mk x2,mk y2,f2,()) HY (mk u) (mk d)=some (s,ok,())/\jO P s/\(d=0->ok=false)/\(ok=false->s=HY)/\(ok=true->∃v X Y:Int,s=(mk X,mk Y,false,())/\(0<=X/\X<P)/\(0<=Y/\Y<P)/\d*v%P=1%P/\X=((u*v%P*(u*v%P)%P-x1)%P-x2)%P/\Y=(u*v%P*((x1-X)%P)%P-y1)%P):=by
 have m:=yQ hP;obtain⟨v,ok,w,hv,e1,e2,e3,e4,e5⟩:=VN hP false hd;unfold iN.j0 cu.j0;rw[e1,e2];simp only[bind_some];rw[Bh hP _ hu hv,bind_some];simp only[];rw[Bh hP _ (m _) (m _),bind_some];simp only[];rw[Mn hP _ (m _) hx1,bind_some];simp only[];rw[Mn hP _ (m _) hx2,bind_some];simp only[];rw[Mn hP _ hx1 (m _),bind_some];simp only[];rw[Bh hP _ (m _) (m _),bind_some];simp only[];rw[Mn hP _ (m _) hy1,bind_some];simp only[];cases ok with
 |false=>refine⟨HY,false,by rw[if_pos (by rfl)],by rw[if_pos (by rfl)],JC hP _,fun _=>rfl,fun _=>rfl,fun h=>absurd h (by decide)⟩
 |true=>
  have hw:=e3 rfl;subst hw;rw[if_neg (by decide),if_neg (by decide),kJ hP hu hv,bind_some,kJ hP (m _) (m _),bind_some,mI hP hx1 hx2,bind_some,jD hP (m _),bind_some,mI hP (m _) (m _),bind_some,jD hP (m _),bind_some,
   mI hP hx1 (m _),bind_some,kJ hP (m _) (m _),bind_some,jD hP hy1,bind_some,mI hP (m _) (m _),bind_some]
  refine⟨_,true,rfl,?_,⟨_,_,_,rfl,m _,m _⟩,fun h0=>absurd (e4 h0) (by decide),fun h=>absurd h (by decide),fun _=>⟨v,_,_,rfl,m _,m _,e5 rfl,rfl,rfl⟩⟩;have hx:(u*v%P*(u*v%P)%P+-((x1+x2)%P)%P)%P=((u*v%P*(u*v%P)%P-x1)%P-x2)%P:=by grind[Ts,UR]
  rw[hx];generalize ((u*v%P*(u*v%P)%P-x1)%P-x2)%P=X;have hy:(u*v%P*((x1+-X%P)%P)%P+-y1%P)%P=(u*v%P*((x1-X)%P)%P-y1)%P:=by grind[Ts,UR]
  rw[hy]
include hA
def si(P A B:Int)(s:jW):Prop:=pl P A B (val ah s.1) (val ah s.2.1) s.2.2.1=true
omit hP hA in
theorem vk{a b:Int}(h:a%P=b%P):P∣a-b:=Int.dvd_of_emod_eq_zero (Int.emod_eq_emod_iff_emod_sub_eq_zero.1 h)
omit hP hA in
theorem EH{x1 y1:Int}(h:si P A B ((mk x1,mk y1,false,()):jW))(hx1:0<=x1/\x1<P)(hy1:0<=y1/\y1<P)(hP:1<P/\P<aB):P∣Ch.Ij A B x1-y1*y1:=by unfold si pl at h;simp only[false_eq_true,if_false]at h;rw[mk_val (n:=x1) ⟨hx1.1,by omega⟩,mk_val (n:=y1) ⟨hy1.1,by omega⟩]at h;simp only[Bool.and_eq_true,decide_eq_true_eq]at h;exact vk h.2.symm
omit hA in
theorem RK{x1 y1 x2 u d:Int}{s:jW}(h1:P∣Ch.Ij A B x1-y1*y1)(hs:∃v X Y:Int,s=(mk X,mk Y,false,())/\(0<=X/\X<P)/\(0<=Y/\Y<P)/\d*v%P=1%P/\X=((u*v%P*(u*v%P)%P-x1)%P-x2)%P/\Y=(u*v%P*((x1-X)%P)%P-y1)%P)
  (ha:∀v,d*v%P=1%P->P∣Ch.PI A x1 y1 x2 (u*v%P)):si P A B s:=by
 obtain⟨v,X,Y,rfl,hX,hY,hv,eX,eY⟩:=hs;have hX':P∣X-(u*v%P*(u*v%P)-x1-x2):=vk (by rw[eX];simp only[U7,emod_emod]);have hY':P∣Y-(u*v%P*(x1-X)-y1):=vk (by rw[eY];simp only[U7,mulR,emod_emod]);have:=Ch.Tt h1 (ha v hv) hX' hY';unfold si pl;simp only[false_eq_true,if_false];rw[mk_val (n:=X) ⟨hX.1,by omega⟩,mk_val (n:=Y) ⟨hY.1,by omega⟩];simp only[Bool.and_eq_true,decide_eq_true_eq];exact⟨⟨hX.2,hY.2⟩,(Int.emod_eq_emod_iff_emod_sub_eq_zero.2 (Int.emod_eq_zero_of_dvd this)).symm⟩
theorem Ag{p q:jW}(hp:jO P p)(hq:jO P q):
  ∃(s:jW)(ok:Bool),iN.run (mk P,mk A,mk B,Nw,bs,()) p q=some (s,ok,())/\cu.run (mk P,mk A,mk B,Nw,bs,()) p q=some (s,ok,())/\jO P s/\(si P A B p->si P A B q->ok=true->si P A B s):=by
 have m:=yQ hP;obtain⟨x1,y1,f1,rfl,hx1,hy1⟩:=hp;obtain⟨x2,y2,f2,rfl,hx2,hy2⟩:=hq;unfold iN.run iN.top cu.run cu.top;cases f1 with
 |true=>exact⟨_,true,rfl,rfl,⟨x2,y2,f2,rfl,hx2,hy2⟩,fun _ h _=>h⟩
 |false=>
  cases f2 with
  |true=>exact⟨_,true,rfl,rfl,⟨x1,y1,false,rfl,hx1,hy1⟩,fun h _ _=>h⟩
  |false=>
   simp only[false_eq_true,if_false];unfold cC.run cC.top;rw[bind_some];simp only[];rw[Mn hP _ hy2 hy1,bind_some];simp only[];rw[Mn hP _ hx2 hx1,bind_some];simp only[];have eq:az (.pair (.arr 4 (.int .u64)) (.pair (.arr 4 (.int .u64)) (.pair .bool .unit))) ((mk x1,mk y1,false,()):jW) (mk x2,mk y2,false,())=(decide (x1=x2)&&decide (y1=y2)):=by rw[Bool.eq_iff_iff,j8 _ _ _ rfl,Bool.and_eq_true,decide_eq_true_eq,decide_eq_true_eq,<-mk_inj (a:=x1) (b:=x2) ⟨hx1.1,by omega⟩ ⟨hx2.1,by omega⟩,<-mk_inj (a:=y1) (b:=y2) ⟨hy1.1,by omega⟩ ⟨hy2.1,by omega⟩];grind
   rw[VK hP hx1 hx2,VK hP hy1 hy2,eq];have eu:(y2+-y1%P)%P=(y2-y1)%P:=by rw[mS];rfl
   have ed:(x2+-x1%P)%P=(x2-x1)%P:=by rw[mS];rfl
   by_cases hxe:x1=x2
   ·subst hxe;simp only[decide_true,BEq.rfl,if_true];rw[ui hP _ hy1 hy2,bind_some];simp only[];rw[mI hP hy1 hy2,bind_some,J8 hP (m _),bind_some,KU hP (m _)];by_cases hz:(y1+y2)%P=0
    ·simp only[hz,decide_true,if_true,cond_true];exact⟨_,true,rfl,rfl,JC hP _,fun _ _ _=>by simp[si,pl,val]⟩
    ·simp only[hz,decide_false,false_eq_true,if_false,cond_true,Bool.true_and];rw[jD hP hy1,bind_some,mI hP hy2 (m _),bind_some,jD hP hx1,bind_some,mI hP hx1 (m _),bind_some,eu,ed];by_cases hye:y1=y2
     ·subst hye;simp only[decide_true,Bool.not_true,false_eq_true,if_false,if_true];rw[Jo hP _ (show(0:Int)<=3/\(3:Int)<18446744073709551616 by decide),bind_some];simp only[];rw[Bh hP _ hx1 hx1,bind_some];simp only[];rw[Bh hP _ (m _) (m _),bind_some];simp only[];rw[ui hP _ (m _) hA,bind_some];simp only[];rw[ui hP _ hy1 hy1,bind_some];simp only[];rw[VG hP (show(0:Int)<=3/\(3:Int)<4294967296 by decide),bind_some,kJ hP hx1 hx1,bind_some,kJ hP (m _) (m _),bind_some,mI hP (m _) hA,bind_some,mI hP hy1 hy1,bind_some];obtain⟨s,ok,k1,k2,k3,_,_,k6⟩:=vH hP Nw bs false false hx1 hy1 hx1 hy1 (m (3%P*(x1*x1%P)%P+A)) (m (y1+y1)) (mk A) (mk B);refine⟨s,ok,k1,k2,k3,fun h1 _ hk=>?_⟩;refine RK hP (EH h1 hx1 hy1 hP) (k6 hk) fun v hv=>?_;rw[mulL]at hv;refine Ch.PW (u:=v) (by rw[Int.mul_comm]at hv;rw[Int.mul_comm];exact vk hv) (vk ?_);simp only[mulL,mulR,R8,emod_emod]
     ·simp only[hye,decide_false,Bool.not_false,if_true,false_eq_true,if_false];obtain⟨s,ok,k1,k2,k3,k4,k5,_⟩:=vH hP Nw bs false false hx1 hy1 hx1 hy2 (m (y2-y1)) (m (x1-x1)) (mk A) (mk B);have h0:=k4 (by rw[Int.sub_self];exact Int.zero_emod _);have hs:=k5 h0;subst h0;subst hs;exact⟨HY,false,rfl,k2,k3,fun _ _ h=>absurd h (by decide)⟩
   ·simp only[hxe,decide_false,false_eq_true,if_false,cond_false,Bool.false_and,show(false==true)=false from rfl,bind_some];rw[jD hP hy1,bind_some,mI hP hy2 (m _),bind_some,jD hP hx1,bind_some,mI hP hx2 (m _),bind_some,eu,ed];obtain⟨s,ok,k1,k2,k3,_,_,k6⟩:=vH hP Nw bs false false hx1 hy1 hx2 hy2 (m (y2-y1)) (m (x2-x1)) (mk A) (mk B);refine⟨s,ok,k1,k2,k3,fun h1 h2 hk=>?_⟩;refine RK hP (EH h1 hx1 hy1 hP) (k6 hk) fun v hv=>?_;rw[mulL]at hv;exact Ch.Sa (y2:=y2) (u:=v) (EH h1 hx1 hy1 hP) (EH h2 hx2 hy2 hP) (vk hv) (vk (by simp only[mulL,emod_emod]))
end
end Go.Bx.Rg
namespace Go.Bx
open Go Go.Bx.Rg
abbrev TW:Ty:=.pair Ck (.pair Ck (.pair .bool .unit))
abbrev Vv:Ty:=.pair Ck (.pair Ck (.pair Ck (.pair Ck (.pair TW .unit))))
theorem Td(p:jW)(h:Fit rm TW p):∃x y f,p=(mk x,mk y,f,())/\(0<=x/\x<aB)/\(0<=y/\y<aB):=by obtain⟨a,b,f,u⟩:=p;obtain⟨h1,h2,_⟩:=h;have w1:W4 a:=hJ h1;have w2:W4 b:=hJ h2;exact⟨_,_,f,by rw[<-o6 w1,<-o6 w2],w1.bound,w2.bound⟩
theorem Si(c:TI)(h:Fit rm Vv c):∃P A B N x y f,c=(mk P,mk A,mk B,mk N,(mk x,mk y,f,()),())/\(0<=P/\P<aB)/\(0<=A/\A<aB)/\(0<=B/\B<aB)/\(0<=N/\N<aB)/\(0<=x/\x<aB)/\(0<=y/\y<aB):=by obtain⟨p,a,b,n,q,u⟩:=c;obtain⟨h1,h2,h3,h4,h5,_⟩:=h;have w1:W4 p:=hJ h1;have w2:W4 a:=hJ h2;have w3:W4 b:=hJ h3;have w4:W4 n:=hJ h4;obtain⟨x,y,f,rfl,b1,b2⟩:=Td q h5;exact⟨_,_,_,_,x,y,f,by rw[<-o6 w1,<-o6 w2,<-o6 w3,<-o6 w4],w1.bound,w2.bound,w3.bound,w4.bound,b1,b2⟩
def mS(c:TI)(p q:jW):jW×Bool:=match iN.run c p q with
 |some (s,ok,_)=>(s,ok)
 |none=>(HY,false)
def K5(k:List Int)(i:Nat):Bool:=(k.getD (i/64) 0).toNat.testBit (i%64)
def tx(c:TI)(k:List Int)(p:jW)(i:Nat)(o:jW):Option jW:=
 if(mS c o o).2=true then
  if K5 k i=true then(if(mS c (mS c o o).1 p).2=true then some (mS c (mS c o o).1 p).1 else none)else some (mS c o o).1
 else none
def runM(c:TI)(k:List Int)(p:jW):Nat->Nat->jW->Option jW
 |0,_,o=>some o
 |d+1,b,o=>(tx c k p (b+d) o).bind (runM c k p d b)
theorem BK(c:TI)(k:List Int)(p:jW)(a b:Nat):∀(d:Nat)(o:jW),runM c k p (a+d) b o=(runM c k p d (b+a) o).bind (runM c k p a b)
 |0,o=>rfl
 |d+1,o=>by
  show(tx c k p (b+(a+d)) o).bind (runM c k p (a+d) b)=((tx c k p (b+a+d) o).bind (runM c k p d (b+a))).bind (runM c k p a b);rw[show b+(a+d)=b+a+d by omega];cases tx c k p (b+a+d) o with
  |none=>rfl
  |some s=>exact BK c k p a b d s
section
variable {P A B:Int}(hP:1<P/\P<aB)(hA:0<=A/\A<P)(Nw:List Int)(bs:jW)
include hP hA
theorem oL{p q:jW}(hp:jO P p)(hq:jO P q):iN.run (mk P,mk A,mk B,Nw,bs,()) p q=some ((mS (mk P,mk A,mk B,Nw,bs,()) p q).1,(mS (mk P,mk A,mk B,Nw,bs,()) p q).2,())/\
  cu.run (mk P,mk A,mk B,Nw,bs,()) p q=some ((mS (mk P,mk A,mk B,Nw,bs,()) p q).1,(mS (mk P,mk A,mk B,Nw,bs,()) p q).2,())/\jO P (mS (mk P,mk A,mk B,Nw,bs,()) p q).1:=by
 obtain⟨s,ok,t1,t2,t3,_⟩:=Ag hP hA (B:=B) Nw bs hp hq;unfold mS;rw[t1,t2];exact⟨rfl,rfl,t3⟩
theorem Q8{k:List Int}{p o s:jW}(hp:jO P p)(ho:jO P o)(i:Nat)(h:tx (mk P,mk A,mk B,Nw,bs,()) k p i o=some s):jO P s:=by obtain⟨_,_,t3⟩:=oL hP hA (B:=B) Nw bs ho ho;obtain⟨_,_,t4⟩:=oL hP hA (B:=B) Nw bs t3 hp;grind[tx]
theorem DE{α:Type}(Xt:Bool->jW->jW->Option α)(K:Nat)(k:List Int)(hk:W4 k)(p z:jW)(hp:jO P p):∀(d n:Nat)(o:jW),d<n->d<=256->jO P o->
  ∃ok r,eI.l0 K Xt n true ((d:Int)-1) (mk P,mk A,mk B,Nw,bs,()) k p z o=Xt ok z r/\(∀s,runM (mk P,mk A,mk B,Nw,bs,()) k p d 0 o=some s->ok=true/\r=s)/\(runM (mk P,mk A,mk B,Nw,bs,()) k p d 0 o=none->ok=false)
 |d,0,o,h,_,_=>by omega
 |0,n+1,o,h,_,ho=>by simp only[eI.l0,eI.aR];rw[show decide (((0:Nat):Int)-1>=0)=false from rfl,cond_false,if_neg (by decide)];exact⟨true,o,rfl,fun s hs=>by cases hs;exact⟨rfl,rfl⟩,fun hn=>by cases hn⟩
 |d+1,n+1,o,h,hd,ho=>by
  obtain⟨t1,_,t3⟩:=oL hP hA (B:=B) Nw bs ho ho;obtain⟨t4,_,t6⟩:=oL hP hA (B:=B) Nw bs t3 hp;simp only[eI.l0,eI.aR];have e0:((d+1:Nat):Int)-1=(d:Int):=by omega
  rw[e0,show decide ((d:Int)>=0)=true by rw[decide_eq_true_eq];omega,cond_true,if_pos rfl,t1,bind_some];have e1:IntKind.i64.wrap (Int.tdiv (d:Int) 64)=((d/64:Nat):Int):=kH (x:=d) (c:=64) (by omega);have e2:tmod (d:Int) 64=((d%64:Nat):Int):=mH d 64;have e3:decide (0<=((d/64:Nat):Int)/\((d/64:Nat):Int)<4)=true:=by rw[decide_eq_true_eq];omega
  have e4:decide (0<=((d%64:Nat):Int))=true:=by rw[decide_eq_true_eq];omega
  have hw:=di dO hk.2 (d/64);have hbit:(cS .u64 (fS .u64 (k.getD (d/64) 0) ((d%64:Nat):Int)) 1==1)=K5 k d:=by
   unfold K5;obtain⟨X,hX⟩:=Int.eq_ofNat_of_zero_le hw.1;have hX2:X<18446744073709551616:=by have:=hw.2;unfold ah at this;omega
   rw[hX,oa (Nat.mod_lt _ (by decide))];have:=jZ (X:=X>>>(d%64)) (Y:=1) (Nat.lt_of_le_of_lt (Nat.shiftRight_le _ _) hX2) (by decide);rw[show((1:Nat):Int)=1 from rfl]at this;rw[this,show((X:Nat):Int).toNat=X from rfl,<-zk];grind
  simp only[e1,e2,e3,e4,Bool.true_or,cond_true,ae,hbit,ck];unfold runM;rw[Nat.zero_add];have ih:=fun o ho=>DE Xt K k hk p z hp d n o (by omega) (by omega) ho;have stop:∀o,∃r,eI.l0 K Xt n false ((d:Int)-1) (mk P,mk A,mk B,Nw,bs,()) k p z o=Xt false z r:=fun o=>by
   obtain⟨n,rfl⟩:∃m,n=m+1:=⟨n-1,by omega⟩
   simp only[eI.l0,eI.aR];rw[if_neg (by cases decide ((d:Int)-1>=0)<;>decide)];exact⟨o,rfl⟩
  unfold eI.j0;rw[wrap_i64 (x:=(d:Int)-1) (by omega) (by omega)];unfold tx;cases hk1:(mS (mk P,mk A,mk B,Nw,bs,()) o o).2 with
  |false=>
   simp only[Bool.false_and,false_eq_true,if_false,Option.bind_none];obtain⟨r,hr⟩:=stop (mS (mk P,mk A,mk B,Nw,bs,()) o o).1;refine⟨false,r,hr,?_,?_⟩
   ·intro s hs;cases hs
   ·intro _;rfl
  |true=>
   simp only[Bool.true_and,if_true];cases hb:K5 k d with
   |false=>simp only[false_eq_true,if_false,bind_some];exact ih _ t3
   |true=>
    simp only[if_true,t4,bind_some];cases hk2:(mS (mk P,mk A,mk B,Nw,bs,()) (mS (mk P,mk A,mk B,Nw,bs,()) o o).1 p).2 with
    |false=>
     simp only[false_eq_true,if_false,Option.bind_none];obtain⟨r,hr⟩:=stop (mS (mk P,mk A,mk B,Nw,bs,()) (mS (mk P,mk A,mk B,Nw,bs,()) o o).1 p).1;refine⟨false,r,hr,?_,?_⟩
     ·intro s hs;cases hs
     ·intro _;rfl
    |true=>simp only[if_true,bind_some];exact ih _ t6
theorem yV{α:Type}(Rt:Bool->jW->Option α)(Xt:Int->TI->List Int->jW->jW->jW->Option α)(K:Nat)(k:List Int)(hk:W4 k)(p z:jW)(hp:jO P p)(w:Nat)(hw4:w<4):∀(d n:Nat)(o:jW),d<n->d<=64->jO P o->
  (∃s,runM (mk P,mk A,mk B,Nw,bs,()) k p d (64*w) o=some s/\jO P s/\aT.l1 K Rt Xt n (w:Int) ((d:Int)-1) (mk P,mk A,mk B,Nw,bs,()) k p z o=Xt (w:Int) (mk P,mk A,mk B,Nw,bs,()) k p z s)\/
  (runM (mk P,mk A,mk B,Nw,bs,()) k p d (64*w) o=none/\aT.l1 K Rt Xt n (w:Int) ((d:Int)-1) (mk P,mk A,mk B,Nw,bs,()) k p z o=Rt false HY)
 |d,0,o,h,_,_=>by omega
 |0,n+1,o,h,_,ho=>by simp only[aT.l1,aT.ly];rw[show decide (((0:Nat):Int)-1>=0)=false from rfl,if_neg (by decide)];exact .inl ⟨o,rfl,ho,rfl⟩
 |d+1,n+1,o,h,hd,ho=>by
  obtain⟨_,t1,t3⟩:=oL hP hA (B:=B) Nw bs ho ho;obtain⟨_,t4,t6⟩:=oL hP hA (B:=B) Nw bs t3 hp;simp only[aT.l1,aT.ly];have e0:((d+1:Nat):Int)-1=(d:Int):=by omega
  rw[e0,show decide ((d:Int)>=0)=true by rw[decide_eq_true_eq];omega,if_pos rfl,t1,bind_some];have e3:decide (0<=(w:Int)/\(w:Int)<4)=true:=by rw[decide_eq_true_eq];omega
  have e4:decide (0<=(d:Int))=true:=by rw[decide_eq_true_eq];omega
  have hwd:=di dO hk.2 w;have hbit:(cS .u64 (k.getD w 0) (fD .u64 1 (d:Int)) !=0)=K5 k (64*w+d):=by
   unfold K5;rw[show(64*w+d)/64=w by omega,show(64*w+d)%64=d by omega];obtain⟨X,hX⟩:=Int.eq_ofNat_of_zero_le hwd.1;have hX2:X<18446744073709551616:=by have:=hwd.2;unfold ah at this;omega
   rw[hX,tt (by omega),jZ hX2 (lU (by omega)),show((X:Nat):Int).toNat=X from rfl,<-qL];grind
  simp only[e3,e4,Bool.true_or,cond_true,ae,hbit,ck];unfold runM;have ih:=fun o ho=>yV Rt Xt K k hk p z hp w hw4 d n o (by omega) (by omega) ho;unfold aT.j0;rw[wrap_i64 (x:=(d:Int)-1) (by omega) (by omega)];unfold tx;grind
theorem yW{α:Type}(Rt:Bool->jW->Option α)(Xt:jW->jW->Option α)(K:Nat)(hK:64<K)(k:List Int)(hk:W4 k)(p z:jW)(hp:jO P p):∀(w n:Nat)(o:jW),w<n->w<=4->jO P o->
  (∃s,runM (mk P,mk A,mk B,Nw,bs,()) k p (64*w) 0 o=some s/\jO P s/\aT.l0 K Rt Xt n ((w:Int)-1) (mk P,mk A,mk B,Nw,bs,()) k p z o=Xt z s)\/
  (runM (mk P,mk A,mk B,Nw,bs,()) k p (64*w) 0 o=none/\aT.l0 K Rt Xt n ((w:Int)-1) (mk P,mk A,mk B,Nw,bs,()) k p z o=Rt false HY)
 |w,0,o,h,_,_=>by omega
 |0,n+1,o,h,_,ho=>by simp only[aT.l0,aT.aR];rw[show decide (((0:Nat):Int)-1>=0)=false from rfl,if_neg (by decide)];exact .inl ⟨o,rfl,ho,rfl⟩
 |w+1,n+1,o,h,hw,ho=>by
  simp only[aT.l0,aT.aR];have e0:((w+1:Nat):Int)-1=(w:Int):=by omega
  rw[e0,show decide ((w:Int)>=0)=true by rw[decide_eq_true_eq];omega,if_pos rfl];rw[show 64*(w+1)=64*w+64 by omega,BK,Nat.zero_add];rcases yV hP hA Nw bs Rt (fun x9 c3 c4 c5 c6 c8=>aT.j1 (aT.l0 K Rt Xt n) x9 c3 c4 c5 c6 c8) K k hk p z hp w (by omega) 64 K o hK (by omega) ho with ⟨s,h1,h2,h3⟩|⟨h1,h3⟩
  ·rw[h1,bind_some];have h3:=h3;rw[show((64:Nat):Int)-1=63 from rfl]at h3;rw[h3];unfold aT.j1;rw[wrap_i64 (x:=(w:Int)-1) (by omega) (by omega)];exact yW Rt Xt K hK k hk p z hp w n s (by omega) (by omega) h2
  grind
theorem R9{p q:jW}(hp:jO P p)(hq:jO P q)(h1:si P A B p)(h2:si P A B q)(hk:(mS (mk P,mk A,mk B,Nw,bs,()) p q).2=true):si P A B (mS (mk P,mk A,mk B,Nw,bs,()) p q).1:=by obtain⟨s,ok,t1,t2,t3,t4⟩:=Ag hP hA (B:=B) Nw bs hp hq;grind[mS]
theorem Q9{k:List Int}{p o s:jW}(hp:jO P p)(ho:jO P o)(h1:si P A B p)(h2:si P A B o)(i:Nat)(h:tx (mk P,mk A,mk B,Nw,bs,()) k p i o=some s):si P A B s:=by obtain⟨_,_,t3⟩:=oL hP hA (B:=B) Nw bs ho ho;grind[tx,R9]
theorem Pc{k:List Int}{p:jW}(hp:jO P p)(h1:si P A B p):∀(d b:Nat)(o s:jW),jO P o->si P A B o->runM (mk P,mk A,mk B,Nw,bs,()) k p d b o=some s->jO P s/\si P A B s
 |0,b,o,s,h2,h3,h=>by cases h;exact⟨h2,h3⟩
 |d+1,b,o,s,h2,h3,h=>by
  unfold runM at h;cases hs:tx (mk P,mk A,mk B,Nw,bs,()) k p (b+d) o with
  |none=>rw[hs]at h;cases h
  |some t=>rw[hs]at h;exact Pc hp h1 d b t s (Q8 hP hA (B:=B) Nw bs hp h2 _ hs) (Q9 hP hA (B:=B) Nw bs hp h2 h1 h3 _ hs) h
end
theorem xV{P A B N x y:Int}{f:Bool}{k:List Int}{px py:Int}{pf:Bool}(b1:0<=P/\P<aB)(b2:0<=A/\A<aB)(b3:0<=B/\B<aB)(b4:0<=N/\N<aB)(b5:0<=x/\x<aB)(b6:0<=y/\y<aB)
  (h0:mq P A B N x y f=0) (hk:W4 k) (p1:0<=px/\px<aB) (p2:0<=py/\py<aB) (hp':pl P A B px py pf=true):
  ∃(s t:jW)(e:Int)(ok:Bool),eI.run (mk P,mk A,mk B,mk N,(mk x,mk y,f,()),()) k (mk px,mk py,pf,())=some (s,e,())/\aT.run (mk P,mk A,mk B,mk N,(mk x,mk y,f,()),()) k (mk px,mk py,pf,())=some (t,ok,())/\
   (ok=true->e=0/\t=s/\jO P s/\si P A B s)/\(ok=false->e=16/\s=HY):=by
 obtain⟨e1,e2⟩:=lK f b1 b2 b3 b4 b5 b6;obtain⟨g1,g2,g3,g4⟩:=qg h0;have hM:1<P/\P<aB:=⟨by omega,b1.2⟩
 obtain⟨o1,o2⟩:=kZ hM ⟨b2.1,g3⟩ ⟨b3.1,g4⟩ (mk N) (mk x,mk y,f,()) pf p1 p2;have hfl:∀Rt:Int->Option Int,eH.l0 fuel Rt (eH.j0 Rt) fuel [(mk px,mk py,pf,())] ((([(mk px,mk py,pf,())]:List jW).length:Nat):Int) 0 (mk P,mk A,mk B,mk N,(mk x,mk y,f,()),())=if pl P A B px py pf=true then Rt 0 else Rt 16:=by
  intro Rt;obtain⟨q,hq⟩:∃q,fuel=q+2:=⟨fuel-2,by rw[ai]⟩
  rw[hq];simp only[eH.l0,eH.aR,eH.j0];have s1:(decide ((0:Int)<(([(mk px,mk py,pf,())]:List jW).length:Int)))=true:=rfl;have s2:(decide ((1:Int)<(([(mk px,mk py,pf,())]:List jW).length:Int)))=false:=rfl;have r1:(0:Int)<=0/\(0:Int)<(([(mk px,mk py,pf,())]:List jW).length:Int):=by simp
  have w1:IntKind.i64.wrap (0+1)=1:=rfl;grind
 have hpo:=RL hM hp' p1 p2;have hpv:si P A B ((mk px,mk py,pf,()):jW):=by grind[mk_val,si]
 have hfar:jO P ([0,0,0,0],[0,0,0,0],true,()):=JC hM true;have hfv:si P A B ([0,0,0,0],[0,0,0,0],true,()):=by simp[si,pl,val]
 unfold eI.run eI.top eH.run eH.top;rw[e1];simp only[bind_some];rw[h0,if_neg (by decide),hfl,hp'];simp only[if_true,bind_some,show((0:Int) !=0)=false from rfl,false_eq_true,if_false,BEq.rfl,Bool.not_true,cond_false];unfold aT.run aT.top;obtain⟨ok,r,m1,m2,m3⟩:=DE hM ⟨b2.1,g3⟩ (B:=B) (mk N) (mk x,mk y,f,()) (fun x10 c6 c9=>eI.j1 (fun x7 c6=>some (c6,x7,())) x10 c6 c9) fuel k hk (mk px,mk py,pf,()) HY hpo 256 fuel ([0,0,0,0],[0,0,0,0],true,()) (by rw[ai];omega) (by omega) hfar;rw[show((256:Nat):Int)-1=255 from rfl]at m1;rw[m1];rcases yW hM ⟨b2.1,g3⟩ (B:=B) (mk N) (mk x,mk y,f,()) (fun x7 c6=>some (c6,x7,())) (fun c6 c8=>aT.j2 (fun x7 c6=>some (c6,x7,())) c6 c8) fuel (by rw[ai];omega) k hk (mk px,mk py,pf,()) HY hpo 4 fuel ([0,0,0,0],[0,0,0,0],true,()) (by rw[ai];omega) (by omega) hfar with ⟨s,h1,h2,h3⟩|⟨h1,h3⟩
 ·rw[show((4:Nat):Int)-1=3 from rfl]at h3;rw[h3];obtain⟨rfl,rfl⟩:=m2 s h1;exact⟨_,_,_,_,rfl,rfl,fun _=>⟨rfl,rfl,Pc hM ⟨b2.1,g3⟩ (B:=B) (mk N) (mk x,mk y,f,()) hpo hpv _ _ _ _ hfar hfv h1⟩,fun h=>absurd h (by decide)⟩
 ·rw[show((4:Nat):Int)-1=3 from rfl]at h3;rw[h3];have:=m3 h1;subst this;exact⟨_,_,_,_,rfl,rfl,fun h=>absurd h (by decide),fun _=>⟨rfl,rfl⟩⟩
theorem xy{P A B N x y:Int}{f:Bool}(h:mq P A B N x y f=0):pl P A B x y f=true/\f=false/\1<N:=by
 unfold mq at h;split at h
 ·rename_i hg;split at h
  ·omega
  ·rename_i h2;simp only[Bool.or_eq_true,Bool.not_eq_true',not_or,Bool.not_eq_true,Bool.not_eq_false]at h2;unfold Gp at hg;grind
 omega
def TX(s:jW):Prop:=W4 s.1/\W4 s.2.1
theorem O0{P:Int}{s:jW}(h:jO P s):TX s:=by obtain⟨x,y,f,rfl,_,_⟩:=h;exact⟨dI _,dI _⟩
theorem tF:TX HY:=⟨W4.zero,W4.zero⟩
theorem zX{P A B X Y:Int}{F:Bool}(hX:0<=X/\X<aB)(hY:0<=Y/\Y<aB)(h:si P A B ((mk X,mk Y,F,()):jW)):pl P A B X Y F=true:=by grind[mk_val,si]
section
variable {P A B N x y:Int}{f:Bool}(b1:0<=P/\P<aB)(b2:0<=A/\A<aB)(b3:0<=B/\B<aB)(b4:0<=N/\N<aB)(b5:0<=x/\x<aB)(b6:0<=y/\y<aB)(h0:mq P A B N x y f=0)
include b1 b2 b3 b4 b5 b6 h0
theorem MP{p q:jW}(hp:jO P p)(hq:jO P q)(vp:si P A B p)(vq:si P A B q):
  ∃(s t:jW)(e:Int)(ok:Bool),og.run (mk P,mk A,mk B,mk N,(mk x,mk y,f,()),()) p q=some (s,e,())/\cu.run (mk P,mk A,mk B,mk N,(mk x,mk y,f,()),()) p q=some (t,ok,())/\
   (ok=true->e=0/\t=s/\jO P s/\si P A B s)/\(ok=false->e=16):=by
 obtain⟨e1,e2⟩:=lK f b1 b2 b3 b4 b5 b6;obtain⟨g1,g2,g3,g4⟩:=qg h0;have hM:1<P/\P<aB:=⟨by omega,b1.2⟩
 obtain⟨s,ok,t1,t2,t3,t4⟩:=Ag hM ⟨b2.1,g3⟩ (B:=B) (mk N) (mk x,mk y,f,()) hp hq;obtain⟨px,py,pf,rfl,p1,p2⟩:=hp;obtain⟨qx,qy,qf,rfl,q1,q2⟩:=hq;have p1':0<=px/\px<aB:=⟨p1.1,by omega⟩
 have p2':0<=py/\py<aB:=⟨p2.1,by omega⟩
 have q1':0<=qx/\qx<aB:=⟨q1.1,by omega⟩
 have q2':0<=qy/\qy<aB:=⟨q2.1,by omega⟩
 obtain⟨o1,_⟩:=kZ hM ⟨b2.1,g3⟩ ⟨b3.1,g4⟩ (mk N) (mk x,mk y,f,()) pf p1' p2';obtain⟨o3,_⟩:=kZ hM ⟨b2.1,g3⟩ ⟨b3.1,g4⟩ (mk N) (mk x,mk y,f,()) qf q1' q2';unfold og.run og.top eH.run eH.top;rw[e1];simp only[bind_some];obtain⟨k,hk⟩:∃k,fuel=k+3:=⟨fuel-3,by rw[ai]⟩
 rw[h0,hk];simp only[eH.l0,eH.aR,eH.j0];have s1:(decide ((0:Int)<(([(mk px,mk py,pf,()),(mk qx,mk qy,qf,())]:List jW).length:Int)))=true:=rfl;have s2:(decide ((1:Int)<(([(mk px,mk py,pf,()),(mk qx,mk qy,qf,())]:List jW).length:Int)))=true:=rfl;have s3:(decide ((2:Int)<(([(mk px,mk py,pf,()),(mk qx,mk qy,qf,())]:List jW).length:Int)))=false:=rfl;have r1:(0:Int)<=0/\(0:Int)<(([(mk px,mk py,pf,()),(mk qx,mk qy,qf,())]:List jW).length:Int):=by simp
 have r2:(0:Int)<=1/\(1:Int)<(([(mk px,mk py,pf,()),(mk qx,mk qy,qf,())]:List jW).length:Int):=by simp
 have w1:IntKind.i64.wrap (0+1)=1:=rfl;have w2:IntKind.i64.wrap (1+1)=2:=rfl;have d1:([(mk px,mk py,pf,()),(mk qx,mk qy,qf,())]:List jW).getD (Int.toNat 0) ([0,0,0,0],[0,0,0,0],false,())=(mk px,mk py,pf,()):=rfl;have d2:([(mk px,mk py,pf,()),(mk qx,mk qy,qf,())]:List jW).getD (Int.toNat 1) ([0,0,0,0],[0,0,0,0],false,())=(mk qx,mk qy,qf,()):=rfl;rw[w1,w2,s1,s2,s3,d1,d2,if_pos r1,if_pos r2,o1,o3,zX p1' p2' vp,zX q1' q2' vq];simp only[show((0:Int) !=0)=false from rfl,BEq.rfl,if_true,if_false,false_eq_true,bind_some,Bool.not_true];rw[t1,t2];cases ok with
 |false=>exact⟨_,_,_,_,rfl,rfl,fun h=>absurd h (by decide),fun _=>rfl⟩
 |true=>exact⟨_,_,_,_,rfl,rfl,fun _=>⟨rfl,rfl,t3,t4 vp vq rfl⟩,fun h=>absurd h (by decide)⟩
theorem Mo{u v:Int}{p q:jW}(hp:jO P p)(hq:jO P q)(vp:si P A B p)(vq:si P A B q):
  ∃(s t:jW)(e:Int)(ok:Bool),oE.run (mk P,mk A,mk B,mk N,(mk x,mk y,f,()),()) (mk u) p (mk v) q=some (s,e,())/\i9.run (mk P,mk A,mk B,mk N,(mk x,mk y,f,()),()) (mk u) p (mk v) q=some (t,ok,())/\
   (ok=true->e=0/\t=s/\jO P s/\si P A B s)/\(ok=false->e=16):=by
 have hp':=hp;have hq':=hq;obtain⟨px,py,pf,rfl,p1,p2⟩:=hp';obtain⟨qx,qy,qf,rfl,q1,q2⟩:=hq';have p1':0<=px/\px<aB:=⟨p1.1,by omega⟩
 have p2':0<=py/\py<aB:=⟨p2.1,by omega⟩
 have q1':0<=qx/\qx<aB:=⟨q1.1,by omega⟩
 have q2':0<=qy/\qy<aB:=⟨q2.1,by omega⟩
 obtain⟨s1,t1,e1,k1,m1,m2,m3,m4⟩:=xV b1 b2 b3 b4 b5 b6 h0 (dI u) p1' p2' (zX p1' p2' vp);obtain⟨s2,t2,e2,k2,n1,n2,n3,n4⟩:=xV b1 b2 b3 b4 b5 b6 h0 (dI v) q1' q2' (zX q1' q2' vq);unfold oE.run oE.top i9.run i9.top;rw[m1,m2,n1,n2];simp only[bind_some];cases k1 with
 |false=>rw[(m4 rfl).1];exact⟨_,_,_,_,rfl,rfl,fun h=>absurd h (by decide),fun _=>rfl⟩
 |true=>
  obtain⟨rfl,rfl,o1,v1⟩:=m3 rfl;cases k2 with
  |false=>rw[(n4 rfl).1];exact⟨_,_,_,_,rfl,rfl,fun h=>absurd h (by decide),fun _=>rfl⟩
  |true=>obtain⟨rfl,rfl,o2,v2⟩:=n3 rfl;obtain⟨s,t,e,ok,a1,a2,a3,a4⟩:=MP b1 b2 b3 b4 b5 b6 h0 o1 o2 v1 v2;simp only[bne_self_eq_false,false_eq_true,if_false,Bool.not_true,cond_false];rw[a1,a2];exact⟨_,_,_,_,rfl,rfl,a3,a4⟩
end
end Go.Bx
namespace Go.Bx
open Go
section
variable {x m a:List Int}{F:Int->Int}
theorem lr{α:Type}(k:Nat)(Xt:Bool->Int->List Int->List Int->List Int->List Int->Option α)(hx:W4 x)
  (hF:∀(q:Int)(b:Bool)(o:List Int),0<=q->W4 o->val ah o=F q->∃o',hO.run b o m a=some (o',m,a,())/\W4 o'/\val ah o'=F (2*q+if b=true then 1 else 0)) (j:Nat) (hj:j<4):
  ∀(n i:Nat)(b:Bool)(o:List Int),i<n->i<=64->W4 o->val ah o=F (val ah x/((2^(64*j+i):Nat):Int))->(b=false->val ah x/((2^(64*j+i):Nat):Int)=0)->
  ∃b' o',dK.l1 k Xt n b (j:Int) ((i:Int)-1) o m a x=Xt b' (j:Int) o' m a x/\W4 o'/\val ah o'=F (val ah x/((2^(64*j):Nat):Int))/\(b'=false->val ah x/((2^(64*j):Nat):Int)=0)
 |0,i,b,o,h,_,_,_,_=>by omega
 |n+1,0,b,o,h,hi,ho,hv,hb=>by refine⟨b,o,?_,ho,hv,hb⟩;rfl
 |n+1,i+1,b,o,h,hi,ho,hv,hb=>by
  simp only[dK.l1,dK.ly];have ei:((i+1:Nat):Int)-1=(i:Int):=by omega
  rw[ei,if_pos (dT (by omega)),if_pos (by omega),if_pos (by omega),ae];obtain⟨X,hX,hX2⟩:=jS (di dO hx.2 j);have hbit:=EB hx.2 (w:=j) (k:=i) (by omega) hX;have hs:X>>>i<18446744073709551616:=Nat.lt_of_le_of_lt (Nat.shiftRight_le _ _) hX2;have hband:cS .u64 (fS .u64 (x.getD j 0) (i:Int)) 1=val ah x/((2^(64*j+i):Nat):Int)%2:=by grind[oa,jZ]
  rw[hband];have hq:val ah x/((2^(64*j+i):Nat):Int)=2*(val ah x/((2^(64*j+(i+1)):Nat):Int))+val ah x/((2^(64*j+i):Nat):Int)%2:=by grind[Int.ediv_ediv_of_nonneg]
  have hq0:0<=val ah x/((2^(64*j+(i+1)):Nat):Int):=Int.ediv_nonneg hx.bound.1 (Int.natCast_nonneg _);generalize val ah x/((2^(64*j+(i+1)):Nat):Int)=q at*;generalize hQ:val ah x/((2^(64*j+i):Nat):Int)=Q at*;unfold dK.j1;have ew:IntKind.i64.wrap ((i:Int)-1)=(i:Int)-1:=wrap_i64 (by omega) (by omega);rw[ew];by_cases hc:(cond b true (Q%2==1))=true
  ·rw[if_pos hc];obtain⟨o',o1,o2,o3⟩:=hF q (Q%2==1) o hq0 ho hv;rw[o1,bind_some];have hQ':2*q+(if(Q%2==1)=true then 1 else 0)=Q:=by
    grind
   rw[hQ']at o3;refine lr k Xt hx hF j hj n i _ o' (by omega) (by omega) o2 (by rw[hQ];exact o3) (fun h=>?_);grind
  ·rw[if_neg hc];have hb0:b=false/\Q%2≠1:=by
    grind
   have hz:=hb hb0.1;have hQ0:Q=0:=by omega
   refine lr k Xt hx hF j hj n i _ o (by omega) (by omega) ho (by rw[hQ,hQ0,hv,hz]) (fun _=>by rw[hQ,hQ0])
theorem lx{α:Type}(k:Nat)(hk:64<k)(Xt:List Int->List Int->List Int->Option α)(hx:W4 x)
  (hF:∀(q:Int)(b:Bool)(o:List Int),0<=q->W4 o->val ah o=F q->∃o',hO.run b o m a=some (o',m,a,())/\W4 o'/\val ah o'=F (2*q+if b=true then 1 else 0)):
  ∀(n j:Nat)(b:Bool)(o:List Int),j<n->j<=4->W4 o->val ah o=F (val ah x/((2^(64*j):Nat):Int))->(b=false->val ah x/((2^(64*j):Nat):Int)=0)->
  ∃o',dK.l0 k Xt n b ((j:Int)-1) o m a x=Xt o' m a/\W4 o'/\val ah o'=F (val ah x)
 |0,j,b,o,h,_,_,_,_=>by omega
 |n+1,0,b,o,h,hi,ho,hv,hb=>by refine⟨o,?_,ho,by simpa using hv⟩;rfl
 |n+1,j+1,b,o,h,hi,ho,hv,hb=>by
  simp only[dK.l0,dK.aR];have ei:((j+1:Nat):Int)-1=(j:Int):=by omega
  rw[ei,if_pos (dT (by omega)),if_pos (by omega),ae];unfold dK.j0;have ew:IntKind.i64.wrap ((j:Int)-1)=(j:Int)-1:=wrap_i64 (by omega) (by omega);rw[ew];by_cases hc:(cond (x.getD j 0==0) (not b) false)=true
  ·rw[if_pos hc];have hz:x.getD j 0=0/\b=false:=by
    grind
   have h0:=hb hz.2;have hd:=qj hx.2 j;have hd1:=qj hx.2 (j+1);have hvd:=iB ah x j;have hQ0:val ah x/((2^(64*j):Nat):Int)=0:=by grind
   exact lx k hk Xt hx hF n j b o (by omega) (by omega) ho (by rw[hQ0,hv,h0]) (fun _=>hQ0)
  ·rw[if_neg hc];have e64:(63:Int)=((64:Nat):Int)-1:=by omega
   have hm64:64*(j+1)=64*j+64:=by omega
   rw[hm64]at hv hb;obtain⟨b',o',e1,e2,e3,e4⟩:=lr k (fun(x4:Bool)(x5:Int)(c0:List Int)(c1:List Int)(c2:List Int)(c5:List Int)=>dK.l0 k Xt n x4 (IntKind.i64.wrap (x5-1)) c0 c1 c2 c5) hx hF j (by omega) k 64 b o hk (by omega) ho hv hb;rw[e64,e1,ew];exact lx k hk Xt hx hF n j b' o' (by omega) (by omega) e2 e3 e4
theorem wk{x m a o:List Int}{F:Int->Int}(hx:W4 x)(ho:W4 o)(h0:val ah o=F 0)
  (hF:∀(q:Int)(b:Bool)(o:List Int),0<=q->W4 o->val ah o=F q->∃o',hO.run b o m a=some (o',m,a,())/\W4 o'/\val ah o'=F (2*q+if b=true then 1 else 0)):
  ∃o',dK.run x o m a=some (o',m,a,())/\W4 o'/\val ah o'=F (val ah x):=by
 unfold dK.run dK.top;have hz:val ah x/((2^(64*4):Nat):Int)=0:=by have hb:=dA dO hx.2;rw[hx.1]at hb;grind
 have:=fun N(hN:64<N)=>lx N hN (fun(c0:List Int)(c1:List Int)(c2:List Int)=>some (c0,c1,c2,())) hx hF N 4 false o (by omega) (by omega) ho (by rw[hz];exact h0) (fun _=>hz);obtain⟨o',e1,e2,e3⟩:=this fuel (by rw[ai];omega);exact⟨o',e1,e2,e3⟩
end
theorem L8(A:Int)(q:Int)(hq:0<=q)(b:Bool):A^(2*q+if b=true then 1 else 0).toNat=A^q.toNat*A^q.toNat*(if b=true then A else 1):=by
 obtain⟨n,rfl⟩:∃n:Nat,q=(n:Int):=⟨q.toNat,by omega⟩
 cases b with
 |true=>
  rw[if_pos rfl,if_pos rfl];have e:(2*(n:Int)+1).toNat=n+n+1:=by omega
  rw[e,Int.toNat_natCast,Int.pow_succ,Int.pow_add]
 |false=>
  rw[if_neg (by simp),if_neg (by simp)];have e:(2*(n:Int)+0).toNat=n+n:=by omega
  rw[e,Int.toNat_natCast,Int.pow_add,Int.mul_one]
theorem OZ{a x m o:List Int}(ha:W4 a)(hx:W4 x)(hm:W4 m)(h1:val ah a<val ah m)(ho:W4 o)(hv:val ah o=1%val ah m):∃r,dK.run x o m a=some (r,m,a,())/\W4 r/\val ah r=(val ah a^(val ah x).toNat)%val ah m:=by
 have ba:=ha.bound;have hpos:0<val ah m:=by omega
 exact wk (m:=m) (a:=a) (F:=fun q=>(val ah a^q.toNat)%val ah m) hx ho (by rw[hv];simp) (fun q b o hq ho hv=>by
  have hlt:=Int.emod_lt_of_pos (val ah a^q.toNat) hpos;unfold hO.run hO.top;obtain⟨r1,k1,k2,k3⟩:=nh ho ho hm (by rw[hv];exact hlt);rw[k1,bind_some];have key:val ah r1=(val ah a^q.toNat*val ah a^q.toNat)%val ah m:=by rw[k3,hv,<-Int.mul_emod]
  simp only;rw[L8 _ q hq b];cases b with
  |true=>rw[if_pos rfl,if_pos rfl];obtain⟨r2,j1,j2,j3⟩:=nh k2 ha hm (by rw[key];exact Int.emod_lt_of_pos _ hpos);rw[j1,bind_some];refine⟨r2,rfl,j2,?_⟩;rw[j3,key,Int.mul_emod,emod_emod,<-Int.mul_emod]
  |false=>
   rw[if_neg (by simp),if_neg (by simp)];exact⟨r1,rfl,k2,by rw[key,Int.mul_one]⟩)
end Go.Bx
namespace Go.Bx
open Go Go.Bx.Rg
theorem V2{M a x:Int}(hM:1<M/\M<aB)(ha:0<=a/\a<M)(hx:0<=x/\x<aB):om.run (mk a) (mk x) (mk M)=some (mk (a^x.toNat%M),0,()):=by
 have hw:∀y∈[mk a],W4 y:=fun y hy=>by simp_all[dI]
 have he:sL (mk M) [mk a]=0:=by rw[show [mk a]=[a].map mk from rfl,EN hM (fun x hx=>by simp only[List.mem_cons,List.not_mem_nil,or_false]at hx;subst hx;exact ha)]
 have hne:mk M≠[0,0,0,0]:=(dI M).ne.2 (by rw[Rg.jm hM];omega);unfold om.run om.top;rw[xC (dI M) (by simp) hw,bind_some,he,if_neg (by decide)];obtain⟨q,r,d1,_,_,d4,d5,_,d7⟩:=jj Fa.1.1 Fa.1.2 (dI M).1 (dI M).2;rw[if_neg hne,Fa.2]at d7;obtain⟨r1,e1,w1,v1⟩:=OZ (dI a) (dI x) (dI M) (by rw[zB hM ha,Rg.jm hM];exact ha.2) ⟨d4,d5⟩ d7;grind[mk_val,mk_eq]
theorem Hi{y:Int}(h:0<=y/\y<aB):(tmod ((mk y).getD 0 0) 2==1)=decide (y%2=1):=by have g0:(mk y).getD 0 0=y%18446744073709551616:=rfl;grind
theorem Uc{n:Int}(h:0<=n/\n<18446744073709551616):cS .u64 n 1=n%2:=by
 obtain⟨X,rfl⟩:=Int.eq_ofNat_of_zero_le h.1;have hX:X<18446744073709551616:=by omega
 have:=jZ (X:=X) (Y:=1) hX (by decide);rw[show((1:Nat):Int)=1 from rfl]at this;rw[this,Nat.and_one_is_mod]
 push_cast;rfl
theorem Ks{y:Int}(h:0<=y/\y<aB):(cS .u64 ((mk y).getD 0 0) 1==1)=decide (y%2=1):=by have g0:(mk y).getD 0 0=y%18446744073709551616:=rfl;rw[g0,Uc ⟨Int.emod_nonneg _ (by decide),Int.emod_lt_of_pos _ (by decide)⟩,Bool.eq_iff_iff,beq_iff_eq,decide_eq_true_eq];omega
theorem P1(a b:Bool):az .bool a b=(a==b):=by cases a<;>cases b<;>rfl
theorem Nk{P:Int}(hM:3<P/\P<aB)(h4:P%4=3){α:Type}(K:List Int->Option α):
  ((ay.run (mk P)).bind fun y3=>(aJ.run y3 [1]).bind fun y4=>(aU.run y4).bind fun y5=>(aH.run y5.1 (mk P)).bind fun y6=>(cN.run y5.1 [4,0,0,0]).bind fun y7=>
   if(decide (y6<0))=true then K [0,0,0,4611686018427387904]else K y7.1)=K (mk (P/4+1)):=by
 have hP:0<=P/\P<aB:=⟨by omega,hM.2⟩
 obtain⟨o,e1,e2,e3,e4⟩:=gj (dI P).1 (dI P).2;rw[mk_val hP]at e4;obtain⟨r,p1,p2,p3,p4⟩:=nG (b:=[1]) e3 (dz.2 ⟨by decide,iv⟩) (by omega) (by simp);rw[e4,show val bY [1]=1 by simp[val]]at p4;obtain⟨w,f,w1,w2,w3,w4,_⟩:=kK p3 (by rw[p2,e2];simp);rw[p4]at w4;have e4m:([4,0,0,0]:List Int)=mk 4:=by decide
 obtain⟨q,r2,_,q2,q3,q4,_,_,q7,_⟩:=pS w2 w3 (dI 4).1 (dI 4).2;rw[if_neg (by decide),mk_val (by decide),w4]at q7;rw[e1,bind_some,p1,bind_some,w1,bind_some];simp only[];rw[DL ⟨w2,w3⟩ (dI P),bind_some,mk_val hP,w4,e4m,q2,bind_some];have hlim:=hM.2;unfold aB at hlim;by_cases hb:P+1=115792089237316195423570985008687907853269984665640564039457584007913129639936
 ·rw[hb,show(115792089237316195423570985008687907853269984665640564039457584007913129639936:Int)%115792089237316195423570985008687907853269984665640564039457584007913129639936=0 from by decide];rw[if_pos (show(0:Int)<P by omega),if_pos (by decide)];have hq:P/4+1=28948022309329048855892746252171976963317496166410141009864396001978282409984:=by omega
  rw[hq];congr 1
 ·have hlt:(P+1)%115792089237316195423570985008687907853269984665640564039457584007913129639936=P+1:=Int.emod_eq_of_lt (by omega) (by omega);rw[hlt]at q7⊢;rw[if_neg (show¬P+1<P by omega),if_pos (show P+1>P by omega),if_neg (by decide)];have:(P+1)/4=P/4+1:=by omega
  rw[this]at q7;rw[mk_eq (⟨q3,q4⟩:W4 q) q7]
theorem Lo{P:Int}(hM:3<P/\P<aB):(∃r e,bZ.run (mk P) [4,0,0,0]=some (mk (P/4),r,e,()))/\(∃o,gb.run (mk (P/4)) [1,0,0,0]=some (mk (P/4+1),o,())):=by
 have hP:0<=P/\P<aB:=⟨by omega,hM.2⟩
 have hlim:=hM.2;have hQ:0<=P/4/\P/4<aB:=⟨by omega,by unfold aB at*;omega⟩
 have e4m:([4,0,0,0]:List Int)=mk 4:=by decide
 have e1m:([1,0,0,0]:List Int)=mk 1:=by decide
 obtain⟨q,r,d1,d2,d3,_,_,d6,_⟩:=jj (dI P).1 (dI P).2 (dI 4).1 (dI 4).2;rw[if_neg (by decide),mk_val hP,mk_val (show(0:Int)<=4/\4<aB by decide)]at d6;obtain⟨s,o,a1,a2,a3,a4,_⟩:=pg (dI (P/4)).1 (dI 1).1 (dI (P/4)).2 (dI 1).2;rw[mk_val hQ,mk_val (show(0:Int)<=1/\1<aB by decide),Int.emod_eq_of_lt (by omega) (by unfold aB at*;omega)]at a4;refine⟨⟨r,(if mk 4=[0,0,0,0]then 7 else 0),?_⟩,⟨o,?_⟩⟩
 ·rw[e4m,d1,mk_eq (⟨d2,d3⟩:W4 q) d6]
 ·rw[e1m,a1,mk_eq (⟨a2,a3⟩:W4 s) a4]
section
variable {P A B:Int}(hM:1<P/\P<aB)(h4:P%4=3)(hA:0<=A/\A<P)(hB:0<=B/\B<P)(Nw:List Int)(bs:jW)
def pt(P y:Int):Int:=if y=0 then 0 else P-y
theorem E7{P y:Int}(hP:1<P)(h:0<=y/\y<P):0<=pt P y/\pt P y<P:=by grind[pt]
theorem OI{P y:Int}(hP:1<P)(h:0<=y/\y<P):(-y)%P=pt P y:=by
 unfold pt;by_cases h0:y=0
 ·simp_all
 ·rw[if_neg h0,<-Int.add_emod_left,Int.emod_eq_of_lt (by omega) (by omega)];omega
theorem OJ{P y:Int}(h4:P%4=3)(h:0<=y/\y<P)(h0:y≠0):pt P y%2=1-y%2:=by unfold pt;rw[if_neg h0];omega
def rM(P A B x y:Int)(odd:Bool):jW×Int×Unit:=
 let z:=if decide (y%2=1)=odd then y else pt P y
 if decide (z%2=1)=odd/\pl P A B x z false=true then((mk x,mk z,false,()),0,())else(zPt0,16,())
where zPt0:jW:=([0,0,0,0],[0,0,0,0],false,())
include hM h4 hA hB
theorem OA{x y:Int}(odd:Bool)(hx:0<=x/\x<P)(hy:0<=y/\y<P)(z:jW)(hz:z=([0,0,0,0],[0,0,0,0],false,())):∀N,3<N->∀K:Nat,
  dD.l0 K (fun x7 c6=>some (c6,x7,())) (fun c6=>dD.j1 (fun x7 c6=>some (c6,x7,())) c6) N odd 0 (mk P,mk A,mk B,Nw,bs,()) (mk x) z (mk y)=some (rM P A B x y odd):=by
 intro N hN K;obtain⟨n,rfl⟩:∃n,N=n+3:=⟨N-3,by omega⟩
 have hW:∀{a:Int},(0<=a/\a<P)->(0<=a/\a<aB):=fun h=>⟨h.1,by omega⟩
 have on0:=fun y(hy:0<=y/\y<P)=>(kZ hM hA hB Nw bs false (hW hx) (hW hy)).2;simp only[dD.l0,dD.aR];have w1:IntKind.i64.wrap (0+1)=1:=rfl;have w2:IntKind.i64.wrap (1+1)=2:=rfl;have hn:=E7 hM.1 hy;rw[w1,w2,show decide ((0:Int)<2)=true from rfl,show decide ((1:Int)<2)=true from rfl,show decide ((2:Int)<2)=false from rfl,Ks (hW hy),P1,on0 y hy,jD hM hy,OI hM.1 hy];simp only[if_true,false_eq_true,if_false,bind_some,Ks (hW hn),P1,on0 _ hn,jD hM hn];unfold dD.j1 rM rM.zPt0;simp only[];by_cases ho:decide (y%2=1)=odd
 ·have hb:(decide (y%2=1)==odd)=true:=by simpa using ho
  rw[hb];simp only[BEq.rfl,if_true,bind_some,cond_true,ho,true_and];cases hon:pl P A B x y false with
  |true=>rfl
  |false=>
   simp only[false_eq_true,if_false];by_cases h0:y=0
   ·have hne:pt P y=y:=by unfold pt;rw[if_pos h0];exact h0.symm
    rw[hne,hb];simp only[BEq.rfl,if_true,bind_some,cond_true,hon,false_eq_true,if_false]
    try (subst hz;rfl)
   ·have hp:=OJ h4 hy h0;have hb2:(decide (pt P y%2=1)==odd)=false:=by
     rw[<-ho,hp,beq_eq_false_iff_ne,ne_eq,decide_eq_decide];omega
    rw[hb2];simp only[show(false==true)=false from rfl,false_eq_true,if_false,bind_some,cond_false]
    try (subst hz;rfl)
 ·have hb:(decide (y%2=1)==odd)=false:=by simpa using ho
  rw[hb];simp only[show(false==true)=false from rfl,false_eq_true,if_false,bind_some,cond_false,ho];by_cases hz2:decide (pt P y%2=1)=odd
  ·have hb2:(decide (pt P y%2=1)==odd)=true:=by simpa using hz2
   rw[hb2];simp only[BEq.rfl,if_true,bind_some,cond_true,hz2,true_and];cases pl P A B x (pt P y) false with
   |true=>rfl
   |false=>subst hz;rfl
  ·have hb2:(decide (pt P y%2=1)==odd)=false:=by simpa using hz2
   rw[hb2];simp only[show(false==true)=false from rfl,false_eq_true,if_false,bind_some,cond_false,hz2,false_and]
   try (subst hz;rfl)
theorem LQ{x y:Int}(odd:Bool)(hx:0<=x/\x<P)(hy:0<=y/\y<P):
  (if(not (az .bool ((tmod (List.getD (mk y) 0 0) 2)==1) odd))=true then
    if(not (az (.arr 4 (.int .u64)) (mk y) [0,0,0,0]))=true then
     (gE.run (mk P) (mk y)).bind fun y9=>
     iT.j0 (fun x7 c6=>some (c6,x7,())) odd (mk P,mk A,mk B,Nw,bs,()) (mk x) ([0,0,0,0],[0,0,0,0],false,()) y9.1
    else
     iT.j0 (fun x7 c6=>some (c6,x7,())) odd (mk P,mk A,mk B,Nw,bs,()) (mk x) ([0,0,0,0],[0,0,0,0],false,()) (mk y)
   else
    iT.j0 (fun x7 c6=>some (c6,x7,())) odd (mk P,mk A,mk B,Nw,bs,()) (mk x) ([0,0,0,0],[0,0,0,0],false,()) (mk y))=some (rM P A B x y odd):=by
 have hW:∀{a:Int},(0<=a/\a<P)->(0<=a/\a<aB):=fun h=>⟨h.1,by omega⟩
 have on0:=fun y(hy:0<=y/\y<P)=>(kZ hM hA hB Nw bs false (hW hx) (hW hy)).1;have hj:∀z,0<=z/\z<P->iT.j0 (fun x7 c6=>some (c6,x7,())) odd (mk P,mk A,mk B,Nw,bs,()) (mk x) ([0,0,0,0],[0,0,0,0],false,()) (mk z)=
   some (if decide (z%2=1)=odd/\pl P A B x z false=true then((mk x,mk z,false,()),0,())else(([0,0,0,0],[0,0,0,0],false,()),16,())):=fun z hz=>by
  unfold iT.j0;rw[Hi (hW hz),P1,on0 z hz];by_cases ho:decide (z%2=1)=odd
  ·have hb:(decide (z%2=1)==odd)=true:=by simpa using ho
   rw[hb];simp only[Bool.not_true,BEq.rfl,if_true,bind_some,cond_false,ho,true_and];cases pl P A B x z false<;>rfl
  ·have hb:(decide (z%2=1)==odd)=false:=by simpa using ho
   rw[hb];simp only[Bool.not_false,show(true==false)=false from rfl,false_eq_true,if_false,bind_some,cond_true,if_true,ho,false_and]
 have hn:=E7 hM.1 hy;rw[Hi (hW hy),P1,KU hM hy,hj y hy];unfold rM rM.zPt0;by_cases ho:decide (y%2=1)=odd
 ·have hb:(decide (y%2=1)==odd)=true:=by simpa using ho
  rw[hb];simp only[Bool.not_true,false_eq_true,if_false,ho,if_true]
 ·have hb:(decide (y%2=1)==odd)=false:=by simpa using ho
  rw[hb];simp only[Bool.not_false,if_true,ho,if_false];by_cases h0:y=0
  ·have hne:pt P y=y:=by unfold pt;rw[if_pos h0];exact h0.symm
   rw[hne];rw[show decide (y=0)=true from decide_eq_true h0];simp only[Bool.not_true,false_eq_true,if_false,ho,false_and]
  ·simp only[h0,decide_false,Bool.not_false,if_true];obtain⟨r,o,s1,s2,s3,s4,_⟩:=tD (dI P).1 (dI y).1 (dI P).2 (dI y).2;rw[Rg.jm hM,zB hM hy,Int.emod_eq_of_lt (by omega) (by omega)]at s4;rw[s1,bind_some,mk_eq (⟨s2,s3⟩:W4 r) s4];have:P-y=pt P y:=by unfold pt;rw[if_neg h0]
   simp only[this];exact hj _ hn
end
theorem Qw{P A B X Y:Int}(hM:1<P/\P<aB)(odd:Bool)(hX:0<=X/\X<P)(hY:0<=Y/\Y<P)(h:(rM P A B X Y odd).2.1=0):jO P (rM P A B X Y odd).1/\si P A B (rM P A B X Y odd).1:=by
 have hz:0<=(if decide (Y%2=1)=odd then Y else pt P Y)/\(if decide (Y%2=1)=odd then Y else pt P Y)<P:=by
  split
  ·exact hY
  ·exact E7 hM.1 hY
 unfold rM at h⊢;generalize (if decide (Y%2=1)=odd then Y else pt P Y)=Z at*;simp only[]at h⊢;by_cases hc:decide (Z%2=1)=odd/\pl P A B X Z false=true
 ·rw[if_pos hc];refine⟨⟨X,Z,false,rfl,hX,hz⟩,?_⟩;grind[mk_val,si]
 grind
theorem LP{P A B N x y X:Int}{f:Bool}(odd:Bool)(b1:0<=P/\P<aB)(b2:0<=A/\A<aB)(b3:0<=B/\B<aB)(b4:0<=N/\N<aB)(b5:0<=x/\x<aB)(b6:0<=y/\y<aB)(h0:mq P A B N x y f=0)(bX:0<=X/\X<aB):
  ∃(s:jW)(e:Int),iT.run (mk P,mk A,mk B,mk N,(mk x,mk y,f,()),()) (mk X) odd=some (s,e,())/\dD.run (mk P,mk A,mk B,mk N,(mk x,mk y,f,()),()) (mk X) odd=some (s,e,())/\(e=0->jO P s/\si P A B s):=by
 obtain⟨e1,e2⟩:=lK f b1 b2 b3 b4 b5 b6;unfold iT.run iT.top dD.run dD.top;rw[e1,e2];simp only[bind_some,Co bX b1,pQ bX b1,zx];obtain⟨g1,g2,g3,g4⟩:=qg h0;have hM:1<P/\P<aB:=⟨by omega,b1.2⟩
 have m:=yQ hM;rw[h0];simp only[show((0:Int) !=0)=false from rfl,false_eq_true,if_false];by_cases hlt:X<P
 ·have hX:0<=X/\X<P:=⟨bX.1,hlt⟩
  simp only[hlt,decide_true,Bool.not_true,false_eq_true,if_false];rw[Nk ⟨g1,b1.2⟩ g2];unfold cC.run cC.top;rw[bind_some];obtain⟨⟨hr,he,hd1⟩,⟨ho1,hd2⟩⟩:=Lo ⟨g1,b1.2⟩;rw[hd1,bind_some];simp only[];rw[hd2,bind_some];simp only[];have hq:0<=P/4+1/\P/4+1<aB:=⟨by omega,by omega⟩
  have hA':0<=A/\A<P:=⟨b2.1,g3⟩
  have hB':0<=B/\B<P:=⟨b3.1,g4⟩
  rw[RR hM hA' hB' _ _ _ hX,bind_some];simp only[];rw[V2 hM (m _) hq,bind_some];simp only[];unfold cf.run cf.top cf.j0;rw[if_neg (by decide),bind_some];simp only[];rw[LQ hM g2 hA' hB' _ _ odd hX (m _)];unfold dD.j0;rw[O8 hM hA' hB' _ _ hX,bind_some];simp only[];rw[Jb hM (m _) hq,bind_some,OA hM g2 hA' hB' _ _ odd hX (m _) _ rfl fuel (by rw[ai];omega) fuel];exact⟨(rM P A B X _ odd).1,(rM P A B X _ odd).2.1,rfl,rfl,Qw hM odd hX (m _)⟩
 ·simp only[hlt,decide_false,Bool.not_false,if_true];exact⟨_,_,rfl,rfl,fun h=>absurd h (by decide)⟩
def BN(D N:Int):Bool:=!decide (D=0)&&decide (D<N)
theorem tn{D N:Int}(P A B:List Int)(q:jW)(hD:0<=D/\D<aB)(hN:0<=N/\N<aB):jh.run (P,A,B,mk N,q,()) (mk D)=some (BN D N)/\dj.run (P,A,B,mk N,q,()) (mk D)=some (BN D N):=by
 constructor
 ·unfold jh.run jh.top BN;simp only[];rw[KW hD,Co hD hN];by_cases h:D=0
  ·subst h;simp
  simp_all[xS]
 ·unfold dj.run dj.top BN aE.run aE.top;simp only[];rw[bind_some,KW hD,pQ hD hN];by_cases h:D=0
  ·subst h;simp
  simp_all[xS]
end Go.Bx
namespace Go.Bx.Rg
open Go Go.Bx
section
variable {M:Int}(hM:1<M/\M<aB)
include hM
theorem VJ{a:Int}(ha:0<=a/\a<aB):∃e,bZ.run (mk a) (mk M)=some (mk (a/M),mk (a%M),e,()):=by have hw:=dI M;obtain⟨q,r,e1,l1,l2,l3,l4,v1,v2⟩:=jj (dI a).1 (dI a).2 hw.1 hw.2;have hne:mk M≠[0,0,0,0]:=hw.ne.2 (by rw[jm hM];omega);rw[if_neg hne,mk_val ha,jm hM]at v1 v2;exact⟨_,by rw[e1,mk_eq ⟨l1,l2⟩ v1,mk_eq ⟨l3,l4⟩ v2]⟩
theorem UY{a:Int}(ha:0<=a/\a<aB):oD.run (mk a) (mk M)=some (mk (a%M)):=by obtain⟨e,h⟩:=VJ hM ha;unfold oD.run oD.top;rw[h];rfl
theorem UZ{d:List Int}(hd:aM bY d)(hl:d.length<=1000):cb.run d (mk M)=some (mk (val bY d%M)):=by obtain⟨r,e1,w,v⟩:=qv hd hl (dI M) (by rw[jm hM];omega);grind[jm,mk_eq]
theorem Xl{a:Int}(ha:0<=a/\a<aB){α:Type}(K:List Int->Option α):((ay.run (mk a)).bind fun y=>(cb.run y (mk M)).bind K)=K (mk (a%M)):=by obtain⟨o,e1,l,d,v⟩:=gj (dI a).1 (dI a).2;grind[UZ,mk_val]
theorem V0{a:Int}(ha:0<=a/\a<M)(P A B:List Int)(q:jW):qD.run (P,A,B,mk M,q,()) (mk a)=some (decide (2*a<=M)):=by
 have hw:=dI M;unfold qD.run qD.top;simp only[];obtain⟨q',r,e1,l1,l2,l3,l4,v1,v2⟩:=jj hw.1 hw.2 (dI 2).1 (dI 2).2;have h2:(mk 2:List Int)=[2,0,0,0]:=by decide
 rw[h2]at e1 v1;rw[if_neg (by decide),jm hM]at v1;rw[show val ah [2,0,0,0]=2 by decide]at v1;rw[e1,bind_some];simp only[];rw[mk_eq ⟨l1,l2⟩ v1,Co ⟨ha.1,by omega⟩ ⟨by omega,by omega⟩,bind_some,Bd];congr 1;grind
theorem VM{a:Int}(ha:0<=a/\a<M):∃(x e:Int)(ok:Bool)(y:List Int),ic.run (mk a) (mk M)=some (mk x,e,())/\d9.run (mk a) (mk M)=some (y,ok,())/\(ok=true->e=0/\y=mk x/\0<=x/\x<M)/\(ok=false->e=5):=by
 have hlt:val ah (mk a)<val ah (mk M):=by rw[zB hM ha,jm hM];exact ha.2
 have he:sL (mk M) [mk a]=0:=by rw[show [mk a]=[a].map mk from rfl,EN hM (fun x hx=>by simp only[List.mem_cons,List.not_mem_nil,or_false]at hx;subst hx;exact ha)]
 obtain⟨x,e,e1,e2,e3,e4⟩:=CZ (dI a) (dI M) hlt he;have:=fun N(hN:512<N)=>ti 512 N (mk a) (mk M) hN (dI a) (dI M) hlt (Fg (dI M).bound (dI a).bound);obtain⟨y,ok,f1,f2,f3,f4⟩:=this fuel (by rw[ai];omega);by_cases hg:Nat.gcd (val ah (mk a)).toNat (val ah (mk M)).toNat=1
 ·obtain⟨rfl,l1,c1⟩:=e3 hg;obtain⟨rfl,l2,c2⟩:=f3 hg;have hxy:=inv_one ⟨e2.bound.1,l1⟩ ⟨f2.bound.1,l2⟩ c1 c2;rw[jm hM]at l1;exact⟨val ah x,0,true,y,by rw[<-o6 e2];exact e1,f1,fun _=>⟨rfl,by rw[hxy];exact o6 f2,e2.bound.1,l1⟩,fun h=>absurd h (by decide)⟩
 ·obtain⟨rfl,rfl⟩:=e4 hg;have:=f4 hg;subst this;exact⟨0,5,false,y,by rw[mk_zero];exact e1,f1,fun h=>absurd h (by decide),fun _=>rfl⟩
end
end Go.Bx.Rg
namespace Go.Bx
open Go Go.Bx.Rg
def C6(R S N o:Int):Bool:=BN R N&&BN S N&&decide (2*S<=N)&&decide (0<=o)&&decide (o<=3)
theorem Ni{R S N o:Int}(hR:0<=R)(hS:0<=S)(h:C6 R S N o=true):(0<R/\R<N)/\(0<S/\S<N)/\0<=o/\o<=3:=by unfold C6 BN at h;grind
theorem Gg{R S N o:Int}(P A B:List Int)(q:jW)(hN:1<N/\N<aB)(hR:0<=R/\R<aB)(hS:0<=S/\S<aB):
  mc.run (P,A,B,mk N,q,()) (mk R,mk S,o,())=some (C6 R S N o)/\fY.run (P,A,B,mk N,q,()) (mk R,mk S,o,())=some (C6 R S N o):=by
 obtain⟨r1,r2⟩:=tn P A B q hR (show 0<=N/\N<aB by omega);obtain⟨s1,s2⟩:=tn P A B q hS (show 0<=N/\N<aB by omega);have hlt:(decide (o<4))=decide (o<=3):=by rw[Bool.eq_iff_iff,decide_eq_true_eq,decide_eq_true_eq];omega
 have hge:(decide (o>=0))=decide (0<=o):=rfl;unfold mc.run mc.top fY.run fY.top C6;simp only[];rw[r1,r2,s1,s2,hlt,hge];cases BN R N with
 |false=>exact⟨rfl,rfl⟩
 |true=>
  simp only[bind_some,BEq.rfl,if_true,cond_true,Bool.true_and];cases hs:BN S N with
  |false=>exact⟨rfl,rfl⟩
  |true=>
   have hS':0<=S/\S<N/\S≠0:=by simp_all[BN]
   simp only[BEq.rfl,if_true,cond_true,Bool.true_and];rw[V0 hN ⟨hS'.1,hS'.2.1⟩,jD hN ⟨hS'.1,hS'.2.1⟩];simp only[bind_some];have hneg:(-S)%N=N-S:=by rw[emod_neg (by omega) (by omega),if_pos (by omega)];omega
   rw[hneg,pQ hS ⟨by omega,by omega⟩,bind_some,Bd];have:(!decide (S>N-S))=decide (2*S<=N):=by grind
   rw[this];cases decide (2*S<=N)<;>cases decide (0<=o)<;>cases decide (o<=3)<;>exact⟨rfl,rfl⟩
end Go.Bx
namespace Go.Bx
open Go
theorem TG{y:List Int}(hy:y.length=32)(ho:∀b∈y,0<=b/\b<256):iQ.run y=some (mk (val ah (wid y)))/\dp.run y=some (mk (val ah (wid y)))/\(0<=val ah (wid y)/\val ah (wid y)<aB):=by obtain⟨h1,h2⟩:=qm y hy ho;have w:W4 (wid y):=mK y hy ho;rw[<-o6 w];exact⟨h1,h2,w.bound⟩
end Go.Bx
namespace Go.Bx
open Go Go.Bx.Rg
theorem DJ{o:Int}(h:0<=o/\o<=3):(tmod o 2==1)=((cS .i64 o 1)==1)/\decide (o>1)=decide (o>=2):=by
 obtain rfl|rfl|rfl|rfl:o=0\/o=1\/o=2\/o=3:=by omega
 all_goals decide
section
variable {P A B N x y R S o:Int}{f:Bool}{h:List Int}(b1:0<=P/\P<aB)(b2:0<=A/\A<aB)(b3:0<=B/\B<aB)(b4:0<=N/\N<aB)(b5:0<=x/\x<aB)(b6:0<=y/\y<aB)(h0:mq P A B N x y f=0)
 (kR:0<R/\R<N) (kS:0<S/\S<N) (ko:0<=o/\o<=3) (hh:h.length=32) (ho:∀b∈h,0<=b/\b<256)
include b1 b2 b3 b4 b5 b6 h0 kR kS ko hh ho
theorem wS{T:Int}(hT:0<=T/\T<aB)(over:Bool){d:List Int}(hd:aU.run d=some (mk T,over,())):
  ∃(s:jW)(e:Int),jg.j0 (fun x7 c6=>some (c6,x7,())) over (mk P,mk A,mk B,mk N,(mk x,mk y,f,()),()) h (mk R,mk S,o,()) HY (mk T)=some (s,e,())/\
   eG.j0 (fun x7 c6=>some (c6,x7,())) d (mk P,mk A,mk B,mk N,(mk x,mk y,f,()),()) h (mk R,mk S,o,()) HY=some (s,e,())/\TX s:=by
 obtain⟨g1,g2,g3,g4⟩:=qg h0;obtain⟨o1,of,oN⟩:=xy h0;have hM:1<P/\P<aB:=⟨by omega,b1.2⟩
 have hN:1<N/\N<aB:=⟨oN,b4.2⟩
 have mN:=yQ hN;have kR':0<=R/\R<N:=⟨by omega,kR.2⟩
 have kS':0<=S/\S<N:=⟨by omega,kS.2⟩
 unfold jg.j0 eG.j0;rw[hd];simp only[bind_some];cases over with
 |true=>exact⟨_,_,rfl,rfl,tF⟩
 |false=>
  simp only[BEq.rfl,if_true,cond_false];rw[Co hT b1,pQ hT b1];simp only[bind_some];cases decide (sg T P>=0)with
  |true=>exact⟨_,_,rfl,rfl,tF⟩
  |false=>
   simp only[false_eq_true,if_false];obtain⟨p,e,l1,l2,l3⟩:=LP ((cS .i64 o 1)==1) b1 b2 b3 b4 b5 b6 h0 hT;rw[(DJ ko).1,l1,l2];simp only[bind_some];by_cases he:e=0
   ·subst he;obtain⟨pp,vp⟩:=l3 rfl;obtain⟨v,e,ok,w,i1,i2,i3,i4⟩:=VM hN kR';simp only[bne_self_eq_false,false_eq_true,if_false];rw[i1,i2];simp only[bind_some];cases ok with
    |false=>rw[i4 rfl];exact⟨_,_,rfl,rfl,tF⟩
    |true=>
     obtain⟨rfl,rfl,hv⟩:=i3 rfl;simp only[bne_self_eq_false,false_eq_true,if_false,Bool.not_true];obtain⟨w1,w2,wb⟩:=TG hh ho;rw[Nh hN kS' hv,bind_some,kJ hN kS' hv,bind_some,w1,bind_some,w2,bind_some,UY hN wb,bind_some,Xl hN wb,Nh hN (mN _) hv,bind_some,kJ hN (mN _) hv,bind_some];simp only[];have hz:kU.run [0,0,0,0] (mk (val ah (wid h)%N*v%N)) (mk N)=some (mk ((-(val ah (wid h)%N*v%N))%N),0,()):=by grind[mk_zero,Rx]
     rw[hz,bind_some,jD hN (mN _),bind_some];simp only[];have pb:jO P ((mk x,mk y,f,()):jW):=RL hM o1 b5 b6;have vb:si P A B ((mk x,mk y,f,()):jW):=by grind[mk_val,si]
     obtain⟨s,t,e,ok,s1,s2,s3,s4⟩:=Mo b1 b2 b3 b4 b5 b6 h0 (u:=S*v%N) (v:=(-(val ah (wid h)%N*v%N))%N) pp pb vp vb;rw[s1,s2];simp only[bind_some];cases ok with
     |false=>rw[s4 rfl];exact⟨_,_,rfl,rfl,tF⟩
     |true=>
      obtain⟨rfl,rfl,hs,_⟩:=s3 rfl;simp only[bne_self_eq_false,false_eq_true,if_false,Bool.not_true];cases t.2.2.1 with
      |true=>exact⟨_,_,rfl,rfl,tF⟩
      |false=>exact⟨_,_,rfl,rfl,O0 hs⟩
   ·rw[if_pos (by simpa using he),if_pos (by simpa using he)];exact⟨_,_,rfl,rfl,tF⟩
end
theorem Fi{P A B N x y R S o:Int}{f:Bool}{h:List Int}(b1:0<=P/\P<aB)(b2:0<=A/\A<aB)(b3:0<=B/\B<aB)(b4:0<=N/\N<aB)(b5:0<=x/\x<aB)(b6:0<=y/\y<aB)
  (hR:0<=R/\R<aB) (hS:0<=S/\S<aB) (hh:h.length=32) (ho:∀b∈h,0<=b/\b<256):
  ∃(s:jW)(e:Int),jg.run (mk P,mk A,mk B,mk N,(mk x,mk y,f,()),()) h (mk R,mk S,o,())=some (s,e,())/\eG.run (mk P,mk A,mk B,mk N,(mk x,mk y,f,()),()) h (mk R,mk S,o,())=some (s,e,())/\TX s:=by
 obtain⟨e1,e2⟩:=lK f b1 b2 b3 b4 b5 b6;unfold jg.run jg.top eG.run eG.top;rw[e1,e2];simp only[bind_some];rcases tU P A B N x y f with h0|h0
 ·obtain⟨o1,of,oN⟩:=xy h0;have hN:1<N/\N<aB:=⟨oN,b4.2⟩
  obtain⟨m1,m2⟩:=Gg (o:=o) (mk P) (mk A) (mk B) (mk x,mk y,f,()) hN hR hS;rw[h0,m1,m2];simp only[bind_some,bne_self_eq_false,false_eq_true,if_false];cases hf:C6 R S N o with
  |false=>exact⟨_,_,rfl,rfl,tF⟩
  |true=>
   simp only[Bool.not_true,false_eq_true,if_false];obtain⟨kR,kS,ko⟩:=Ni hR.1 hS.1 hf;obtain⟨d1,r1,r2,r3,r4⟩:=gj (dI R).1 (dI R).2;obtain⟨d2,t1,t2,t3,t4⟩:=gj (dI N).1 (dI N).2;rw[mk_val hR]at r4;rw[mk_val b4]at t4;rw[r1,(DJ ko).2];simp only[bind_some];cases decide (o>=2)with
   |true=>
    simp only[if_true];rw[t1,bind_some];obtain⟨d3,u1,u2,u3,u4⟩:=nG r3 t3 (by omega) (by omega);rw[u1,bind_some];obtain⟨w,g,v1,v2,v3,v4,v5⟩:=kK u3 (by rw[u2];omega);obtain⟨w',g',a1,a2,a3,a4,a5⟩:=pg (dI R).1 (dI N).1 (dI R).2 (dI N).2;rw[mk_val hR,mk_val b4]at a4 a5;rw[u4,r4,t4]at v4 v5;have hg:g=g':=by grind
    have hT:0<=(R+N)%aB/\(R+N)%aB<aB:=⟨Int.emod_nonneg _ (by decide),Int.emod_lt_of_pos _ (by decide)⟩
    rw[mk_eq ⟨v2,v3⟩ v4]at v1;rw[a1,bind_some,mk_eq ⟨a2,a3⟩ a4,<-hg];exact wS b1 b2 b3 b4 b5 b6 h0 kR kS ko hh ho hT g v1
   |false=>
    simp only[false_eq_true,if_false];obtain⟨w,g,v1,v2,v3,v4,v5⟩:=kK r3 (by omega);rw[r4]at v4 v5;have hg:g=false:=by grind
    have hv:val ah w=R:=by rw[v4];exact Int.emod_eq_of_lt hR.1 hR.2
    rw[mk_eq ⟨v2,v3⟩ hv,hg]at v1;exact wS b1 b2 b3 b4 b5 b6 h0 kR kS ko hh ho hR false v1
 ·rw[h0];exact⟨_,_,rfl,rfl,tF⟩
end Go.Bx
namespace Go.Bx
open Go
def aQ(x k:Int):Int:=jP .u64 (fD .u64 x k) (fS .u64 x (64-k))
theorem Xb{α:Type}(K n:Nat)(Xt:Int->List Int->Int->List Int->List Int->List Int->Option α)(rc:Int)(x16:List Int)(x17:Int)(c2:List Int)(a0 a1 a2 a3 a4 a5 a6 a7 a8 a9 a10 a11 a12 a13 a14 a15 a16 a17 a18 a19 a20 a21 a22 a23 a24:Int):
  dY.l1 K Xt (n+26) rc x16 x17 [a0,a1,a2,a3,a4,a5,a6,a7,a8,a9,a10,a11,a12,a13,a14,a15,a16,a17,a18,a19,a20,a21,a22,a23,a24] 0 [a0,a1,a2,a3,a4,a5,a6,a7,a8,a9,a10,a11,a12,a13,a14,a15,a16,a17,a18,a19,a20,a21,a22,a23,a24] c2 [0,0,0,0,0]=Xt rc x16 x17 [a0,a1,a2,a3,a4,a5,a6,a7,a8,a9,a10,a11,a12,a13,a14,a15,a16,a17,a18,a19,a20,a21,a22,a23,a24] c2 [(ag .u64 (ag .u64 (ag .u64 (ag .u64 (ag .u64 0 a0) a5) a10) a15) a20),(ag .u64 (ag .u64 (ag .u64 (ag .u64 (ag .u64 0 a1) a6) a11) a16) a21),(ag .u64 (ag .u64 (ag .u64 (ag .u64 (ag .u64 0 a2) a7) a12) a17) a22),(ag .u64 (ag .u64 (ag .u64 (ag .u64 (ag .u64 0 a3) a8) a13) a18) a23),(ag .u64 (ag .u64 (ag .u64 (ag .u64 (ag .u64 0 a4) a9) a14) a19) a24)]:=by kernel_rfl
theorem Xc{α:Type}(K n:Nat)(Xt:Int->List Int->Int->List Int->List Int->List Int->Option α)(rc:Int)(x16:List Int)(x17:Int)(c2:List Int)(a0 a1 a2 a3 a4 a5 a6 a7 a8 a9 a10 a11 a12 a13 a14 a15 a16 a17 a18 a19 a20 a21 a22 a23 a24 z0 z1 z2 z3 z4:Int):
  dY.l2 K Xt (n+26) rc x16 x17 0 [a0,a1,a2,a3,a4,a5,a6,a7,a8,a9,a10,a11,a12,a13,a14,a15,a16,a17,a18,a19,a20,a21,a22,a23,a24] c2 [z0,z1,z2,z3,z4] (List.replicate 25 0)=Xt rc x16 x17 [a0,a1,a2,a3,a4,a5,a6,a7,a8,a9,a10,a11,a12,a13,a14,a15,a16,a17,a18,a19,a20,a21,a22,a23,a24] c2 [(aQ (ag .u64 (ag .u64 a0 z4) (aQ z1 1)) 0),(aQ (ag .u64 (ag .u64 a6 z0) (aQ z2 1)) 44),(aQ (ag .u64 (ag .u64 a12 z1) (aQ z3 1)) 43),(aQ (ag .u64 (ag .u64 a18 z2) (aQ z4 1)) 21),(aQ (ag .u64 (ag .u64 a24 z3) (aQ z0 1)) 14),(aQ (ag .u64 (ag .u64 a3 z2) (aQ z4 1)) 28),(aQ (ag .u64 (ag .u64 a9 z3) (aQ z0 1)) 20),(aQ (ag .u64 (ag .u64 a10 z4) (aQ z1 1)) 3),(aQ (ag .u64 (ag .u64 a16 z0) (aQ z2 1)) 45),(aQ (ag .u64 (ag .u64 a22 z1) (aQ z3 1)) 61),(aQ (ag .u64 (ag .u64 a1 z0) (aQ z2 1)) 1),(aQ (ag .u64 (ag .u64 a7 z1) (aQ z3 1)) 6),(aQ (ag .u64 (ag .u64 a13 z2) (aQ z4 1)) 25),(aQ (ag .u64 (ag .u64 a19 z3) (aQ z0 1)) 8),(aQ (ag .u64 (ag .u64 a20 z4) (aQ z1 1)) 18),(aQ (ag .u64 (ag .u64 a4 z3) (aQ z0 1)) 27),(aQ (ag .u64 (ag .u64 a5 z4) (aQ z1 1)) 36),(aQ (ag .u64 (ag .u64 a11 z0) (aQ z2 1)) 10),(aQ (ag .u64 (ag .u64 a17 z1) (aQ z3 1)) 15),(aQ (ag .u64 (ag .u64 a23 z2) (aQ z4 1)) 56),(aQ (ag .u64 (ag .u64 a2 z1) (aQ z3 1)) 62),(aQ (ag .u64 (ag .u64 a8 z2) (aQ z4 1)) 55),(aQ (ag .u64 (ag .u64 a14 z3) (aQ z0 1)) 39),(aQ (ag .u64 (ag .u64 a15 z4) (aQ z1 1)) 41),(aQ (ag .u64 (ag .u64 a21 z0) (aQ z2 1)) 2)]:=by kernel_rfl
theorem Xd{α:Type}(K n:Nat)(Xt:Int->List Int->Int->List Int->List Int->Option α)(rc:Int)(x16:List Int)(x17:Int)(c2:List Int)(a0 a1 a2 a3 a4 a5 a6 a7 a8 a9 a10 a11 a12 a13 a14 a15 a16 a17 a18 a19 a20 a21 a22 a23 a24 b0 b1 b2 b3 b4 b5 b6 b7 b8 b9 b10 b11 b12 b13 b14 b15 b16 b17 b18 b19 b20 b21 b22 b23 b24:Int):
  dY.l3 K Xt (n+26) rc x16 x17 0 [a0,a1,a2,a3,a4,a5,a6,a7,a8,a9,a10,a11,a12,a13,a14,a15,a16,a17,a18,a19,a20,a21,a22,a23,a24] c2 [b0,b1,b2,b3,b4,b5,b6,b7,b8,b9,b10,b11,b12,b13,b14,b15,b16,b17,b18,b19,b20,b21,b22,b23,b24]=Xt rc x16 x17 [(ag .u64 b0 (cS .u64 (ag .u64 18446744073709551615 b1) b2)),(ag .u64 b1 (cS .u64 (ag .u64 18446744073709551615 b2) b3)),(ag .u64 b2 (cS .u64 (ag .u64 18446744073709551615 b3) b4)),(ag .u64 b3 (cS .u64 (ag .u64 18446744073709551615 b4) b0)),(ag .u64 b4 (cS .u64 (ag .u64 18446744073709551615 b0) b1)),(ag .u64 b5 (cS .u64 (ag .u64 18446744073709551615 b6) b7)),(ag .u64 b6 (cS .u64 (ag .u64 18446744073709551615 b7) b8)),(ag .u64 b7 (cS .u64 (ag .u64 18446744073709551615 b8) b9)),(ag .u64 b8 (cS .u64 (ag .u64 18446744073709551615 b9) b5)),(ag .u64 b9 (cS .u64 (ag .u64 18446744073709551615 b5) b6)),(ag .u64 b10 (cS .u64 (ag .u64 18446744073709551615 b11) b12)),(ag .u64 b11 (cS .u64 (ag .u64 18446744073709551615 b12) b13)),(ag .u64 b12 (cS .u64 (ag .u64 18446744073709551615 b13) b14)),(ag .u64 b13 (cS .u64 (ag .u64 18446744073709551615 b14) b10)),(ag .u64 b14 (cS .u64 (ag .u64 18446744073709551615 b10) b11)),(ag .u64 b15 (cS .u64 (ag .u64 18446744073709551615 b16) b17)),(ag .u64 b16 (cS .u64 (ag .u64 18446744073709551615 b17) b18)),(ag .u64 b17 (cS .u64 (ag .u64 18446744073709551615 b18) b19)),(ag .u64 b18 (cS .u64 (ag .u64 18446744073709551615 b19) b15)),(ag .u64 b19 (cS .u64 (ag .u64 18446744073709551615 b15) b16)),(ag .u64 b20 (cS .u64 (ag .u64 18446744073709551615 b21) b22)),(ag .u64 b21 (cS .u64 (ag .u64 18446744073709551615 b22) b23)),(ag .u64 b22 (cS .u64 (ag .u64 18446744073709551615 b23) b24)),(ag .u64 b23 (cS .u64 (ag .u64 18446744073709551615 b24) b20)),(ag .u64 b24 (cS .u64 (ag .u64 18446744073709551615 b20) b21))] c2:=by kernel_rfl
theorem Xe{α:Type}(K n:Nat)(Xt:Int->Int->List Int->List Int->List Int->Option α)(x3 x16:Int)(c2:List Int)(a0 a1 a2 a3 a4 a5 a6 a7 a8 a9 a10 a11 a12 a13 a14 a15 a16 a17 a18 a19 a20 a21 a22 a23 a24:Int):
  bw.l1 K Xt (n+6) x3 x16 0 [a0,a1,a2,a3,a4,a5,a6,a7,a8,a9,a10,a11,a12,a13,a14,a15,a16,a17,a18,a19,a20,a21,a22,a23,a24] c2 [0,0,0,0,0]=Xt x3 x16 [a0,a1,a2,a3,a4,a5,a6,a7,a8,a9,a10,a11,a12,a13,a14,a15,a16,a17,a18,a19,a20,a21,a22,a23,a24] c2 [(ag .u64 (ag .u64 (ag .u64 (ag .u64 a0 a5) a10) a15) a20),(ag .u64 (ag .u64 (ag .u64 (ag .u64 a1 a6) a11) a16) a21),(ag .u64 (ag .u64 (ag .u64 (ag .u64 a2 a7) a12) a17) a22),(ag .u64 (ag .u64 (ag .u64 (ag .u64 a3 a8) a13) a18) a23),(ag .u64 (ag .u64 (ag .u64 (ag .u64 a4 a9) a14) a19) a24)]:=by kernel_rfl
theorem Xf{α:Type}(n:Nat)(Xt:Int->Int->List Int->List Int->Option α)(x3 x16:Int)(c2:List Int)(a0 a1 a2 a3 a4 a5 a6 a7 a8 a9 a10 a11 a12 a13 a14 a15 a16 a17 a18 a19 a20 a21 a22 a23 a24 z0 z1 z2 z3 z4:Int):
  bw.l2 (n+6) Xt (n+6) x3 x16 0 [a0,a1,a2,a3,a4,a5,a6,a7,a8,a9,a10,a11,a12,a13,a14,a15,a16,a17,a18,a19,a20,a21,a22,a23,a24] c2 [z0,z1,z2,z3,z4]=Xt x3 x16 [(ag .u64 a0 (ag .u64 z4 (aQ z1 1))),(ag .u64 a1 (ag .u64 z0 (aQ z2 1))),(ag .u64 a2 (ag .u64 z1 (aQ z3 1))),(ag .u64 a3 (ag .u64 z2 (aQ z4 1))),(ag .u64 a4 (ag .u64 z3 (aQ z0 1))),(ag .u64 a5 (ag .u64 z4 (aQ z1 1))),(ag .u64 a6 (ag .u64 z0 (aQ z2 1))),(ag .u64 a7 (ag .u64 z1 (aQ z3 1))),(ag .u64 a8 (ag .u64 z2 (aQ z4 1))),(ag .u64 a9 (ag .u64 z3 (aQ z0 1))),(ag .u64 a10 (ag .u64 z4 (aQ z1 1))),(ag .u64 a11 (ag .u64 z0 (aQ z2 1))),(ag .u64 a12 (ag .u64 z1 (aQ z3 1))),(ag .u64 a13 (ag .u64 z2 (aQ z4 1))),(ag .u64 a14 (ag .u64 z3 (aQ z0 1))),(ag .u64 a15 (ag .u64 z4 (aQ z1 1))),(ag .u64 a16 (ag .u64 z0 (aQ z2 1))),(ag .u64 a17 (ag .u64 z1 (aQ z3 1))),(ag .u64 a18 (ag .u64 z2 (aQ z4 1))),(ag .u64 a19 (ag .u64 z3 (aQ z0 1))),(ag .u64 a20 (ag .u64 z4 (aQ z1 1))),(ag .u64 a21 (ag .u64 z0 (aQ z2 1))),(ag .u64 a22 (ag .u64 z1 (aQ z3 1))),(ag .u64 a23 (ag .u64 z2 (aQ z4 1))),(ag .u64 a24 (ag .u64 z3 (aQ z0 1)))] c2:=by kernel_rfl
theorem Xg{α:Type}(K n:Nat)(Xt:Int->Int->List Int->List Int->Option α)(x3 x16:Int)(c2:List Int)(a0 a1 a2 a3 a4 a5 a6 a7 a8 a9 a10 a11 a12 a13 a14 a15 a16 a17 a18 a19 a20 a21 a22 a23 a24:Int):
  bw.l4 K Xt (n+25) x3 1 0 a1 x16 0 [a0,a1,a2,a3,a4,a5,a6,a7,a8,a9,a10,a11,a12,a13,a14,a15,a16,a17,a18,a19,a20,a21,a22,a23,a24] c2=Xt x3 x16 [a0,(aQ a6 44),(aQ a12 43),(aQ a18 21),(aQ a24 14),(aQ a3 28),(aQ a9 20),(aQ a10 3),(aQ a16 45),(aQ a22 61),(aQ a1 1),(aQ a7 6),(aQ a13 25),(aQ a19 8),(aQ a20 18),(aQ a4 27),(aQ a5 36),(aQ a11 10),(aQ a17 15),(aQ a23 56),(aQ a2 62),(aQ a8 55),(aQ a14 39),(aQ a15 41),(aQ a21 2)] c2:=by kernel_rfl
theorem Xh{α:Type}(n:Nat)(Xt:Int->Int->List Int->List Int->Option α)(x3 x16:Int)(c2:List Int)(b0 b1 b2 b3 b4 b5 b6 b7 b8 b9 b10 b11 b12 b13 b14 b15 b16 b17 b18 b19 b20 b21 b22 b23 b24:Int):
  bw.l5 (n+6) Xt (n+6) x3 0 x16 [b0,b1,b2,b3,b4,b5,b6,b7,b8,b9,b10,b11,b12,b13,b14,b15,b16,b17,b18,b19,b20,b21,b22,b23,b24] c2=Xt x3 x16 [(ag .u64 b0 (cS .u64 (ag .u64 18446744073709551615 b1) b2)),(ag .u64 b1 (cS .u64 (ag .u64 18446744073709551615 b2) b3)),(ag .u64 b2 (cS .u64 (ag .u64 18446744073709551615 b3) b4)),(ag .u64 b3 (cS .u64 (ag .u64 18446744073709551615 b4) b0)),(ag .u64 b4 (cS .u64 (ag .u64 18446744073709551615 b0) b1)),(ag .u64 b5 (cS .u64 (ag .u64 18446744073709551615 b6) b7)),(ag .u64 b6 (cS .u64 (ag .u64 18446744073709551615 b7) b8)),(ag .u64 b7 (cS .u64 (ag .u64 18446744073709551615 b8) b9)),(ag .u64 b8 (cS .u64 (ag .u64 18446744073709551615 b9) b5)),(ag .u64 b9 (cS .u64 (ag .u64 18446744073709551615 b5) b6)),(ag .u64 b10 (cS .u64 (ag .u64 18446744073709551615 b11) b12)),(ag .u64 b11 (cS .u64 (ag .u64 18446744073709551615 b12) b13)),(ag .u64 b12 (cS .u64 (ag .u64 18446744073709551615 b13) b14)),(ag .u64 b13 (cS .u64 (ag .u64 18446744073709551615 b14) b10)),(ag .u64 b14 (cS .u64 (ag .u64 18446744073709551615 b10) b11)),(ag .u64 b15 (cS .u64 (ag .u64 18446744073709551615 b16) b17)),(ag .u64 b16 (cS .u64 (ag .u64 18446744073709551615 b17) b18)),(ag .u64 b17 (cS .u64 (ag .u64 18446744073709551615 b18) b19)),(ag .u64 b18 (cS .u64 (ag .u64 18446744073709551615 b19) b15)),(ag .u64 b19 (cS .u64 (ag .u64 18446744073709551615 b15) b16)),(ag .u64 b20 (cS .u64 (ag .u64 18446744073709551615 b21) b22)),(ag .u64 b21 (cS .u64 (ag .u64 18446744073709551615 b22) b23)),(ag .u64 b22 (cS .u64 (ag .u64 18446744073709551615 b23) b24)),(ag .u64 b23 (cS .u64 (ag .u64 18446744073709551615 b24) b20)),(ag .u64 b24 (cS .u64 (ag .u64 18446744073709551615 b20) b21))] c2:=by kernel_rfl
theorem va(x y:Int):ag .u64 x y=(((BitVec.ofInt 64 x^^^BitVec.ofInt 64 y).toNat:Nat):Int):=by unfold ag;show IntKind.u64.wrap (((BitVec.ofInt 64 x^^^BitVec.ofInt 64 y).toNat:Nat):Int)=_;have:=(BitVec.ofInt 64 x^^^BitVec.ofInt 64 y).isLt;grind[aY]
theorem Aq(x y z:Int):ag .u64 (ag .u64 x y) z=ag .u64 x (ag .u64 y z):=by grind[va]
theorem P5(x y:Int):ag .u64 (ag .u64 0 x) y=ag .u64 x y:=by grind[va]
theorem Wj(x y:Int):aQ (ag .u64 x y) 0=ag .u64 x y:=by
 rw[va];generalize BitVec.ofInt 64 x^^^BitVec.ofInt 64 y=v;have hv:=v.isLt;unfold aQ;have h1:fD .u64 ((v.toNat:Nat):Int) 0=((v.toNat:Nat):Int):=by unfold fD;rw[show(2:Int)^(min (0:Int).toNat IntKind.u64.bits)=1 from rfl,Int.mul_one];grind[aY]
 have h2:fS .u64 ((v.toNat:Nat):Int) (64-0)=0:=by unfold fS;rw[show(2:Int)^(min ((64:Int)-0).toNat IntKind.u64.bits)=18446744073709551616 from rfl,Int.fdiv_eq_ediv_of_nonneg _ (by decide)];omega
 rw[h1,h2];have:=tQ (X:=v.toNat) (Y:=0) (by omega) (by decide);grind
theorem Tm(a0 a1 a2 a3 a4 a5 a6 a7 a8 a9 a10 a11 a12 a13 a14 a15 a16 a17 a18 a19 a20 a21 a22 a23 a24 z0 z1 z2 z3 z4:Int):[(aQ (ag .u64 (ag .u64 a0 z4) (aQ z1 1)) 0),(aQ (ag .u64 (ag .u64 a6 z0) (aQ z2 1)) 44),(aQ (ag .u64 (ag .u64 a12 z1) (aQ z3 1)) 43),(aQ (ag .u64 (ag .u64 a18 z2) (aQ z4 1)) 21),(aQ (ag .u64 (ag .u64 a24 z3) (aQ z0 1)) 14),(aQ (ag .u64 (ag .u64 a3 z2) (aQ z4 1)) 28),(aQ (ag .u64 (ag .u64 a9 z3) (aQ z0 1)) 20),(aQ (ag .u64 (ag .u64 a10 z4) (aQ z1 1)) 3),(aQ (ag .u64 (ag .u64 a16 z0) (aQ z2 1)) 45),(aQ (ag .u64 (ag .u64 a22 z1) (aQ z3 1)) 61),(aQ (ag .u64 (ag .u64 a1 z0) (aQ z2 1)) 1),(aQ (ag .u64 (ag .u64 a7 z1) (aQ z3 1)) 6),(aQ (ag .u64 (ag .u64 a13 z2) (aQ z4 1)) 25),(aQ (ag .u64 (ag .u64 a19 z3) (aQ z0 1)) 8),(aQ (ag .u64 (ag .u64 a20 z4) (aQ z1 1)) 18),(aQ (ag .u64 (ag .u64 a4 z3) (aQ z0 1)) 27),(aQ (ag .u64 (ag .u64 a5 z4) (aQ z1 1)) 36),(aQ (ag .u64 (ag .u64 a11 z0) (aQ z2 1)) 10),(aQ (ag .u64 (ag .u64 a17 z1) (aQ z3 1)) 15),(aQ (ag .u64 (ag .u64 a23 z2) (aQ z4 1)) 56),(aQ (ag .u64 (ag .u64 a2 z1) (aQ z3 1)) 62),(aQ (ag .u64 (ag .u64 a8 z2) (aQ z4 1)) 55),(aQ (ag .u64 (ag .u64 a14 z3) (aQ z0 1)) 39),(aQ (ag .u64 (ag .u64 a15 z4) (aQ z1 1)) 41),(aQ (ag .u64 (ag .u64 a21 z0) (aQ z2 1)) 2)]=[(ag .u64 a0 (ag .u64 z4 (aQ z1 1))),(aQ (ag .u64 a6 (ag .u64 z0 (aQ z2 1))) 44),(aQ (ag .u64 a12 (ag .u64 z1 (aQ z3 1))) 43),(aQ (ag .u64 a18 (ag .u64 z2 (aQ z4 1))) 21),(aQ (ag .u64 a24 (ag .u64 z3 (aQ z0 1))) 14),(aQ (ag .u64 a3 (ag .u64 z2 (aQ z4 1))) 28),(aQ (ag .u64 a9 (ag .u64 z3 (aQ z0 1))) 20),(aQ (ag .u64 a10 (ag .u64 z4 (aQ z1 1))) 3),(aQ (ag .u64 a16 (ag .u64 z0 (aQ z2 1))) 45),(aQ (ag .u64 a22 (ag .u64 z1 (aQ z3 1))) 61),(aQ (ag .u64 a1 (ag .u64 z0 (aQ z2 1))) 1),(aQ (ag .u64 a7 (ag .u64 z1 (aQ z3 1))) 6),(aQ (ag .u64 a13 (ag .u64 z2 (aQ z4 1))) 25),(aQ (ag .u64 a19 (ag .u64 z3 (aQ z0 1))) 8),(aQ (ag .u64 a20 (ag .u64 z4 (aQ z1 1))) 18),(aQ (ag .u64 a4 (ag .u64 z3 (aQ z0 1))) 27),(aQ (ag .u64 a5 (ag .u64 z4 (aQ z1 1))) 36),(aQ (ag .u64 a11 (ag .u64 z0 (aQ z2 1))) 10),(aQ (ag .u64 a17 (ag .u64 z1 (aQ z3 1))) 15),(aQ (ag .u64 a23 (ag .u64 z2 (aQ z4 1))) 56),(aQ (ag .u64 a2 (ag .u64 z1 (aQ z3 1))) 62),(aQ (ag .u64 a8 (ag .u64 z2 (aQ z4 1))) 55),(aQ (ag .u64 a14 (ag .u64 z3 (aQ z0 1))) 39),(aQ (ag .u64 a15 (ag .u64 z4 (aQ z1 1))) 41),(aQ (ag .u64 a21 (ag .u64 z0 (aQ z2 1))) 2)]:=by simp only[Aq,Wj]
theorem Xp:aG.run 0=some (ek.getD 0 0):=by kernel_rfl
theorem Xq:aG.run 1=some (ek.getD 1 0):=by kernel_rfl
theorem Xr:aG.run 2=some (ek.getD 2 0):=by kernel_rfl
theorem Xs:aG.run 3=some (ek.getD 3 0):=by kernel_rfl
theorem Xv:aG.run 4=some (ek.getD 4 0):=by kernel_rfl
theorem Xw:aG.run 5=some (ek.getD 5 0):=by kernel_rfl
theorem Xx:aG.run 6=some (ek.getD 6 0):=by kernel_rfl
theorem Xy:aG.run 7=some (ek.getD 7 0):=by kernel_rfl
theorem Xz:aG.run 8=some (ek.getD 8 0):=by kernel_rfl
theorem XA:aG.run 9=some (ek.getD 9 0):=by kernel_rfl
theorem V5:aG.run 10=some (ek.getD 10 0):=by kernel_rfl
theorem V6:aG.run 11=some (ek.getD 11 0):=by kernel_rfl
theorem V7:aG.run 12=some (ek.getD 12 0):=by kernel_rfl
theorem V8:aG.run 13=some (ek.getD 13 0):=by kernel_rfl
theorem V9:aG.run 14=some (ek.getD 14 0):=by kernel_rfl
theorem Wa:aG.run 15=some (ek.getD 15 0):=by kernel_rfl
theorem Wb:aG.run 16=some (ek.getD 16 0):=by kernel_rfl
theorem Wc:aG.run 17=some (ek.getD 17 0):=by kernel_rfl
theorem Wd:aG.run 18=some (ek.getD 18 0):=by kernel_rfl
theorem We:aG.run 19=some (ek.getD 19 0):=by kernel_rfl
theorem Wf:aG.run 20=some (ek.getD 20 0):=by kernel_rfl
theorem Wg:aG.run 21=some (ek.getD 21 0):=by kernel_rfl
theorem Wh:aG.run 22=some (ek.getD 22 0):=by kernel_rfl
theorem Wi:aG.run 23=some (ek.getD 23 0):=by kernel_rfl
theorem O9:∀k:Nat,k<24->aG.run (k:Int)=some (ek.getD k 0)
 |0,_=>Xp
 |1,_=>Xq
 |2,_=>Xr
 |3,_=>Xs
 |4,_=>Xv
 |5,_=>Xw
 |6,_=>Xx
 |7,_=>Xy
 |8,_=>Xz
 |9,_=>XA
 |10,_=>V5
 |11,_=>V6
 |12,_=>V7
 |13,_=>V8
 |14,_=>V9
 |15,_=>Wa
 |16,_=>Wb
 |17,_=>Wc
 |18,_=>Wd
 |19,_=>We
 |20,_=>Wf
 |21,_=>Wg
 |22,_=>Wh
 |23,_=>Wi
 |n+24,h=>by omega
theorem SU{l:List Int}(h:l.length=25):∃a0 a1 a2 a3 a4 a5 a6 a7 a8 a9 a10 a11 a12 a13 a14 a15 a16 a17 a18 a19 a20 a21 a22 a23 a24,l=[a0,a1,a2,a3,a4,a5,a6,a7,a8,a9,a10,a11,a12,a13,a14,a15,a16,a17,a18,a19,a20,a21,a22,a23,a24]:=by
 match l,h with
 |[a0,a1,a2,a3,a4,a5,a6,a7,a8,a9,a10,a11,a12,a13,a14,a15,a16,a17,a18,a19,a20,a21,a22,a23,a24],_=>exact⟨a0,a1,a2,a3,a4,a5,a6,a7,a8,a9,a10,a11,a12,a13,a14,a15,a16,a17,a18,a19,a20,a21,a22,a23,a24,rfl⟩
theorem Ji{α β:Type}(Xt:List Int->List Int->Option α)(Yt:List Int->List Int->Option β)(K N n:Nat)(k:Nat)(hk:k<24)(c2 d2:List Int){l:List Int}(hl:l.length=25):
  ∃r:List Int,r.length=25/\dY.l0 (K+26) Xt (n+1) ek (k:Int) l c2=dY.l0 (K+26) Xt n ek ((k+1:Nat):Int) r c2/\
   bw.l0 (N+26) Yt (n+1) (k:Int) l d2=bw.l0 (N+26) Yt n ((k+1:Nat):Int) r d2:=by
 obtain⟨a0,a1,a2,a3,a4,a5,a6,a7,a8,a9,a10,a11,a12,a13,a14,a15,a16,a17,a18,a19,a20,a21,a22,a23,a24,rfl⟩:=SU hl;simp only[dY.l0,dY.aR,bw.l0,bw.aR];rw[if_pos (show decide ((k:Int)<24)=true by rw[decide_eq_true_eq];omega),if_pos (show decide ((k:Int)<24)=true by rw[decide_eq_true_eq];omega),if_pos (show 0<=(k:Int)/\(k:Int)<24 by omega),Xb];unfold dY.j0;rw[Xc,Tm];unfold dY.j1;rw[Xd];unfold dY.j2 dY.j3;have e1:N+26=(N+20)+6:=by omega
 rw[e1,Xe];unfold bw.j0;rw[Xf];unfold bw.j2;have e2:N+20+6=(N+1)+25:=by omega
 simp only[List.getD_cons_succ,List.getD_cons_zero];rw[e2,Xg];unfold bw.j3;have e3:(N+1)+25=(N+20)+6:=by omega
 rw[e3,Xh];unfold bw.j5 bw.j6;rw[O9 k hk,bind_some,wrap_i64 (x:=(k:Int)+1) (by omega) (by omega)];simp only[P5];exact⟨_,rfl,rfl,rfl⟩
theorem zg{α β:Type}(Xt:List Int->List Int->Option α)(Yt:List Int->List Int->Option β)(K N:Nat)(c2 d2:List Int):∀(m n k:Nat)(l:List Int),m<n->k+m=24->l.length=25->
  ∃r:List Int,r.length=25/\dY.l0 (K+26) Xt n ek (k:Int) l c2=Xt r c2/\bw.l0 (N+26) Yt n (k:Int) l d2=Yt r d2
 |m,0,k,l,h,_,_=>by omega
 |0,n+1,k,l,h,hk,hl=>by
  have:k=24:=by omega
  subst this;exact⟨l,hl,rfl,rfl⟩
 |m+1,n+1,k,l,h,hk,hl=>by obtain⟨r,h1,h2,h3⟩:=Ji Xt Yt K N n k (by omega) c2 d2 hl;rw[h2,h3];exact zg Xt Yt K N c2 d2 m n (k+1) r (by omega) (by omega) h1
theorem Mu{l:List Int}(hl:l.length=25):∃r:List Int,r.length=25/\dY.run l=some r/\bw.run l=some r:=by
 obtain⟨K,hK⟩:∃K,fuel=K+26:=⟨18446744073709551590,rfl⟩
 obtain⟨r,h1,h2,h3⟩:=zg (fun c1 c2=>dY.j4 (fun c2=>some c2) c1 c2) (fun c1 c2=>bw.j7 (fun c2=>some c2) c1 c2) K K (List.replicate 25 0) (List.replicate 25 0) 24 fuel 0 l (by rw[hK];omega) (by omega) hl;unfold dY.run dY.top bw.run bw.top;rw[<-hK]at h2 h3;exact⟨r,h1,h2,h3⟩
end Go.Bx
