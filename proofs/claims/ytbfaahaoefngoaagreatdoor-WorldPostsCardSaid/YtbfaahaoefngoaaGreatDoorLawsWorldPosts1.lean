/- Laws about functions of plain data, in plain Lean. -/
import Derived.Test.YtbfaahaoefngoaaGreatDoorLawsWorldPosts0
import Derived.Test.YtbfaahaoefngoaaGreatDoorFnWorldPosts0
open Bool (and_eq_true)
open List (append_assoc length_append length_cons length_nil mem_cons mem_cons_of_mem nil_append not_mem_nil replicate)
open Nat (ble)
open Option (bind_some)
set_option maxRecDepth 100000
set_option linter.unusedVariables false
set_option linter.unusedSimpArgs false
namespace Go.Bx
open Go
theorem xw{a b:Nat}(h:a<=b):ble a b=true:=Nat.ble_eq_true_of_le h
def v8(x:Int)(n:Nat):Int:=x/2^n%256
def be(x:Int):Nat->List Int
 |0=>[]
 |k+1=>v8 x (8*k)::be x k
theorem eQ(x:Int):∀k,(be x k).length=k
 |0=>rfl
 |k+1=>by simp[be,eQ x k]
theorem P6(x:Int)(n:Nat):0<=v8 x n/\v8 x n<256:=by grind[v8]
theorem H5(x:Int):∀k,∀b∈be x k,0<=b/\b<256
 |0,b,h=>by simp[be]at h
 |k+1,b,h=>by
  simp only[be,mem_cons]at h;rcases h with rfl|h
  ·exact P6 _ _
  ·exact H5 x k b h
theorem MY(x:Int)(n:Nat):v8 (x/256) n=v8 x (n+8):=by unfold v8;rw[show(2:Int)^(n+8)=256*2^n by rw[Int.pow_add,Int.mul_comm];rfl,<-Int.ediv_ediv_of_nonneg (by decide)]
theorem JO(x:Int):∀k,be x (k+1)=be (x/256) k++[v8 x 0]
 |0=>rfl
 |k+1=>by
  show v8 x (8*(k+1))::be x (k+1)=v8 (x/256) (8*k)::be (x/256) k++[v8 x 0]
  rw[JO x k,MY];rfl
theorem p9(x:Int):IntKind.u8.wrap x=v8 x 0:=by rw[zt];simp[v8]
theorem Pg(x:Int):fS .u64 x 8=x/256:=by show x.fdiv (2^(min (8:Int).toNat 64))=_;grind
theorem ru(k:IntKind)(x:Int)(n:Nat)(h:n<=k.bits):IntKind.u8.wrap (fS k x (n:Int))=v8 x n:=by grind[zt,fS,v8]
theorem FU{α:Type}(Xt:List Int->Option α)(K:Nat)(N:Nat)(hN:N<=1000):∀(m i n:Nat)(x:Int)(acc:List Int),m<n->i+m=N->acc.length<=i->
  aD.l0 K Xt n x acc (N:Int) (i:Int)=Xt (be x m++acc)
 |m,i,0,x,acc,h,_,_=>by omega
 |0,i,n+1,x,acc,h,hi,ha=>by simp only[aD.l0,aD.aR];rw[if_neg (dF (by omega))];rfl
 |m+1,i,n+1,x,acc,h,hi,ha=>by simp only[aD.l0,aD.aR];rw[if_pos (dT (by omega)),if_pos (xw (by omega)),ax (by omega),Pg,p9];refine(FU Xt K N hN m (i+1) n (x/256) _ (by omega) (by omega) (by simp;omega)).trans ?_;grind[JO]
theorem nY(x:Int)(N:Nat)(hN:N<=1000):aD.run x (N:Int)=some (be x N):=by unfold aD.run aD.top;refine(FU (fun x5=>aD.j0 (fun x4=>some x4) x5) fuel N hN N 0 fuel x [] (by rw[ai];omega) (by omega) (by simp)).trans ?_;grind[aD.j0]
theorem kB{x:Int}(h:0<=x)(g:x<18446744073709551616):IntKind.u64.wrap x=x:=aY h (by omega)
def CH(l:List Int):List Int:=be (l.getD 3 0) 8++be (l.getD 2 0) 8++be (l.getD 1 0) 8++be (l.getD 0 0) 8
theorem gW(l:List Int):(CH l).length=32:=by simp[CH,eQ]
theorem Rb(l:List Int):∀b∈CH l,0<=b/\b<256:=by intro b h;simp only[CH,List.mem_append]at h;rcases h with ((h|h)|h)|h<;>exact H5 _ _ b h
theorem g9{α:Type}(l:List α)(n:Int)(h:(l.length:Int)=n):aA l 0 n=l:=by subst h;simp[aA]
def pad(l:List Int):List Int:=l++replicate (32-l.length) 0
theorem rk(l:List Int)(h:l.length<=32):(pad l).length=32:=by simp[pad];omega
theorem EG(l:List Int)(h:l.length<=32):Au (replicate 32 0) 0 32 l=pad l:=by unfold Au pad;simp only[show(0:Int).toNat=0 from rfl,show(32:Int).toNat=32 from rfl,List.take_zero,nil_append,Nat.sub_zero,Nat.zero_add,List.drop_replicate];grind[List.take_of_length_le]
theorem Tn{α:Type}(P R:List α)(a b:α):(P++a::R).set P.length b=P++b::R:=by grind
theorem Eo{α:Type}(Xt:List Int->List Int->Option α)(K:Nat)(l z:List Int)(hl:l.length<=32):∀(R P:List Int)(n:Nat),R.length<n->l=P++R->
  bd.l0 K Xt n l (P.length:Int) z (P++replicate (32-P.length) 0)=Xt z (pad l)
 |R,P,0,h,_=>by omega
 |[],P,n+1,h,hc=>by
  simp only[bd.l0,bd.aR];have:l.length=P.length:=by rw[hc];simp
  rw[ck,if_neg (by rw[and_eq_true,decide_eq_true_eq];omega)];rw[hc,List.append_nil];rfl
 |y::R,P,n+1,h,hc=>by
  have hlen:l.length=P.length+(R.length+1):=by rw[hc];simp
  simp only[bd.l0,bd.aR];have hg:l.getD P.length 0=y:=by rw[hc];exact dk _ _ _ _
  have hz:replicate (32-P.length) (0:Int)=0::replicate (32-(P.length+1)) 0:=by rw[<-List.replicate_succ];congr 1;omega
  rw[ck,if_pos (by rw[and_eq_true,decide_eq_true_eq,decide_eq_true_eq];omega),if_pos (by omega),if_pos (by omega),ax (by omega),ae,hg,hz,Tn];have ih:=Eo Xt K l z hl R (P++[y]) n (by simpa using h) (by simp[hc]);grind
theorem qH(l:List Int)(hl:l.length<=32):bd.run l=some (pad l):=by unfold bd.run bd.top;refine(Eo (fun c2 c3=>bd.j0 (fun c2=>some c2) c2 c3) fuel l (replicate 32 0) hl l [] fuel (by rw[ai];omega) rfl).trans ?_;rfl
theorem Sc(a b c d a' b' c' d':Int):cQ.run [a,b,c,d] [a',b',c',d']=
  if decide (d<d')=true then some (-1)else if decide (d>d')=true then some 1 else
  if decide (c<c')=true then some (-1)else if decide (c>c')=true then some 1 else
  if decide (b<b')=true then some (-1)else if decide (b>b')=true then some 1 else
  if decide (a<a')=true then some (-1)else if decide (a>a')=true then some 1 else some 0:=by kernel_rfl
theorem nL{l m:List Int}(hl:l.length=4)(hm:m.length=4)(dl:aM ah l)(dm:aM ah m):
  cQ.run l m=some (if val ah l<val ah m then-1 else if val ah l>val ah m then 1 else 0):=by
 obtain⟨a,b,c,d,rfl⟩:=fF hl;obtain⟨a',b',c',d',rfl⟩:=fF hm;have h1:=dl a (by simp);have h2:=dl b (by simp);have h3:=dl c (by simp);have h4:=dl d (by simp);have g1:=dm a' (by simp);have g2:=dm b' (by simp);have g3:=dm c' (by simp);have g4:=dm d' (by simp);rw[Sc];simp only[decide_eq_true_eq];by_cases c1:val ah [a,b,c,d]<val ah [a',b',c',d']
 ·rw[if_pos c1];simp only[val,ah]at c1 h1 h2 h3 h4 g1 g2 g3 g4
  repeat' split
  all_goals first|rfl|(exfalso;omega)
 ·rw[if_neg c1];by_cases c2:val ah [a,b,c,d]>val ah [a',b',c',d']
  ·rw[if_pos c2];simp only[val,ah]at c1 c2 h1 h2 h3 h4 g1 g2 g3 g4
   repeat' split
   all_goals first|rfl|(exfalso;omega)
  ·rw[if_neg c2];simp only[val,ah]at c1 c2 h1 h2 h3 h4 g1 g2 g3 g4
   repeat' split
   all_goals first|rfl|(exfalso;omega)
abbrev jH:Type:=Int×List Int×List Int×List Int×Int×List Int×Int×Int×List Int×List Int×Int×List (List Int)×Unit
theorem tS{l m:List Int}(hl:l.length=4)(hm:m.length=4)(dl:aM ah l)(dm:aM ah m):∃c,cQ.run l m=some c/\aH.run l m=some c:=by obtain⟨o1,e1,n1,g1,v1⟩:=gj hl dl;obtain⟨o2,e2,n2,g2,v2⟩:=gj hm dm;simp_all[nL,nF,aH.run,aH.top]
theorem yg(n m:Int):iq.run n m=some (decide (0<=n)&&decide (n<=m)):=by simp_all[iq.run,iq.top]
theorem Um(b:Bool)(c d:Int):(if(b==true)=true then some c else some d)=some (if b=true then c else d):=by cases b<;>rfl
theorem Sm{α:Type}(b:Bool)(c d:α):(if((not b)==false)=true then some c else some d)=some (if b=true then c else d):=by cases b<;>rfl
abbrev z4:List Int:=[0,0,0,0]
abbrev FH:List Int:=replicate 32 0
abbrev Vn(a b:List Int):Bool:=az (.arr 4 (.int .u64)) a b
abbrev VL(a b:List Int):Bool:=az (.arr 32 (.int .u8)) a b
abbrev Rv(a b:List Int):Bool:=az .str a b
section
variable (kd:Int)(am fe tk:List Int)(ho:Int)(to:List Int)(tc de:Int)(sy da:List Int)(ix:Int)(ks:List (List Int))
theorem ni(h:kd=1\/kd=3):cH.run kd=some (.inl ((kd==3,()),true,())):=by rcases h with rfl|rfl<;>rfl
theorem tX:cH.run 2=some (.inr (.inl ((),true,()))):=rfl
theorem xN:cH.run 4=some (.inr (.inr (.inl ((),true,())))):=rfl
theorem Di(h1:kd≠1)(h2:kd≠2)(h3:kd≠3)(h4:kd≠4):cH.run kd=some (.inr (.inr (.inr (.inl (false,()))))):=by simp_all[cH.run,cH.top,cH.j0,cH.a0,cH.a1,cH.a2,cH.a3]
def Bq:Bool:=(de==0)&&Rv sy []&&(ix==0)&&decide (ks.length=0)
def Hd:Bool:=Vn am z4&&Vn fe z4&&VL to FH&&(tc==0)&&(ix==0)&&Rv da []&&decide (ks.length=0)
def Hc:Bool:=Vn am z4&&Vn fe z4&&VL tk FH&&(ho==0)&&VL to FH&&(tc==0)&&(de==0)&&Rv sy []&&Rv da []
theorem GP{α:Type}(l:List α):((l.length:Int)==((([]:List α).length:Nat):Int))=decide (l.length=0):=by grind
theorem Tl:ig.run (kd,am,fe,tk,ho,to,tc,de,sy,da,ix,ks,()) (kd,am,fe,tk,ho,to,tc,0,[],da,0,[],())=some (Bq de sy ix ks):=by unfold ig.run ig.top Bq;simp only[BEq.rfl,cP (.arr 4 (.int .u64)) _ rfl,cP (.arr 32 (.int .u8)) _ rfl,cP .str _ rfl,cond_true,ck,Bool.and_true,Bool.true_and,GP]
theorem Tk:ig.run (kd,am,fe,tk,ho,to,tc,de,sy,da,ix,ks,()) (kd,z4,z4,tk,ho,FH,0,de,sy,[],0,[],())=some (Hd am fe to tc da ix ks):=by unfold ig.run ig.top Hd;simp only[BEq.rfl,cP (.arr 4 (.int .u64)) _ rfl,cP (.arr 32 (.int .u8)) _ rfl,cP .str _ rfl,cond_true,ck,Bool.and_true,Bool.true_and,GP]
theorem Tj:ig.run (kd,am,fe,tk,ho,to,tc,de,sy,da,ix,ks,()) (kd,z4,z4,FH,0,FH,0,0,[],[],ix,ks,())=some (Hc am fe tk ho to tc de sy da):=by simp_all[ig.run,ig.top,Hc]
theorem uR{α:Type}(k n:Nat)(Rt:Bool->Option α)(Xt:jH->jH->Option α)(a b:jH):aL.l0 k Rt Xt (n+1) 0 0 a b=Xt a b:=by rfl
theorem z9(l:List Int):az .str l []=decide (l.length=0):=by
 cases l with
 |nil=>rfl
 |cons a l=>rfl
theorem QT:aL.run (kd,am,fe,tk,ho,to,tc,de,sy,da,ix,ks,()) (kd,am,fe,tk,ho,to,tc,0,[],da,0,[],())=some (Bq de sy ix ks):=by
 unfold aL.run aL.top Bq;simp only[cP .str _ rfl];by_cases hk:ks.length=0
 ·rw[if_neg (by rw[bS];simp[hk]),hk];refine(uR fuel 18446744073709551615 (fun x4=>some x4) (fun c2 c3=>aL.j0 (fun x4=>some x4) c2 c3) _ _).trans ?_;unfold aL.j0;simp only[BEq.rfl,cP (.arr 4 (.int .u64)) _ rfl,cP (.arr 32 (.int .u8)) _ rfl,cP .str _ rfl,cond_true,ck,Bool.and_true,Bool.true_and,decide_true]
 grind
theorem QS:aL.run (kd,am,fe,tk,ho,to,tc,de,sy,da,ix,ks,()) (kd,z4,z4,tk,ho,FH,0,de,sy,[],0,[],())=some (Hd am fe to tc da ix ks):=by
 unfold aL.run aL.top Hd;by_cases hk:ks.length=0
 ·cases hd:az .str da []with
  |false=>rw[if_pos (by rw[bS];simp[hd])];simp[Rv,hd]
  |true=>rw[if_neg (by rw[bS];simp[hk,hd]),hk];refine(uR fuel 18446744073709551615 (fun x4=>some x4) (fun c2 c3=>aL.j0 (fun x4=>some x4) c2 c3) _ _).trans ?_;unfold aL.j0;simp only[BEq.rfl,cP (.arr 4 (.int .u64)) _ rfl,cP (.arr 32 (.int .u8)) _ rfl,cP .str _ rfl,cond_true,ck,Bool.and_true,Bool.true_and,decide_true,Rv,hd]
 grind
theorem uQ{α:Type}(Rt:Bool->Option α)(Xt:jH->jH->Option α)(k:Nat)(a b:jH)(l:List (List Int))(ha:a.2.2.2.2.2.2.2.2.2.2.2.1=l)(hb:b.2.2.2.2.2.2.2.2.2.2.2.1=l)(hl:l.length<=400000000000000):∀(R P:List (List Int))(n:Nat),R.length<n->l=P++R->
  aL.l0 k Rt Xt n (l.length:Int) (P.length:Int) a b=Xt a b
 |R,P,0,h,_=>by omega
 |[],P,n+1,h,hc=>by simp_all[aL.l0,aL.aR]
 |y::R,P,n+1,h,hc=>by
  have hlen:l.length=P.length+(R.length+1):=by rw[hc];simp
  simp only[aL.l0,aL.aR,ha,hb];rw[if_pos (dT (by omega)),if_pos (by omega),if_pos (by omega),ax (by omega),cP _ _ rfl,if_neg (by simp)];have ih:=uQ Rt Xt k a b l ha hb hl R (P++[y]) n (by simpa using h) (by simp[hc]);grind
theorem QR(hl:ks.length<=400000000000000):aL.run (kd,am,fe,tk,ho,to,tc,de,sy,da,ix,ks,()) (kd,z4,z4,FH,0,FH,0,0,[],[],ix,ks,())=some (Hc am fe tk ho to tc de sy da):=by
 unfold aL.run aL.top Hc;cases hd:az .str da []with
 |false=>rw[if_pos (by rw[bS];simp[hd])];simp[Rv,hd]
 |true=>rw[if_neg (by rw[bS];simp[hd])];refine(uQ (fun x4=>some x4) (fun c2 c3=>aL.j0 (fun x4=>some x4) c2 c3) fuel (kd,am,fe,tk,ho,to,tc,de,sy,da,ix,ks,()) (kd,z4,z4,FH,0,FH,0,0,[],[],ix,ks,()) ks rfl rfl hl ks [] fuel (by rw[ai];omega) rfl).trans ?_;unfold aL.j0;simp only[BEq.rfl,cP (.arr 4 (.int .u64)) _ rfl,cP (.arr 32 (.int .u8)) _ rfl,cP .str _ rfl,cond_true,ck,Bool.and_true,Bool.true_and,decide_true,Rv,hd]
def Ce(n m:Int):Bool:=decide (0<=n)&&decide (n<=m)
def uH(s:List Int):Bool:=s.all fun c=>c !=0
theorem DA{α:Type}(Xt:Bool->Option α)(k:Nat)(l:List Int)(hl:l.length<=400000000000000):∀(R P:List Int)(n:Nat)(x:Bool),R.length<n->l=P++R->
  dM.l0 k Xt n x l (l.length:Int) (P.length:Int)=Xt (x&&uH R)
 |R,P,0,x,h,_=>by omega
 |[],P,n+1,x,h,hc=>by simp_all[dM.l0,dM.aR,uH]
 |y::R,P,n+1,x,h,hc=>by
  have hlen:l.length=P.length+(R.length+1):=by rw[hc];simp
  simp only[dM.l0,dM.aR];have hg:l.getD P.length 0=y:=by rw[hc];exact dk _ _ _ _
  rw[if_pos (dT (by omega)),if_pos (by omega),ax (by omega),ae,hg,ck];have ih:=DA Xt k l hl R (P++[y]) n (x&&y !=0) (by simpa using h) (by simp[hc]);rw[length_append]at ih;refine Eq.trans ih ?_;grind[uH]
theorem yT{α:Type}(Rt:Bool->Option α)(Xt:Option α)(k:Nat)(l:List Int)(hl:l.length<=400000000000000):∀(R P:List Int)(n:Nat),R.length<n->l=P++R->
  cg.l0 k Rt Xt n l (P.length:Int)=if uH R=true then Xt else Rt true
 |R,P,0,h,_=>by omega
 |[],P,n+1,h,hc=>by simp_all[cg.l0,cg.aR,uH]
 |y::R,P,n+1,h,hc=>by
  have hlen:l.length=P.length+(R.length+1):=by rw[hc];simp
  simp only[cg.l0,cg.aR];have hg:l.getD P.length 0=y:=by rw[hc];exact dk _ _ _ _
  rw[if_pos (dT (by omega)),if_pos (by omega),ax (by omega),ae,hg];have ih:=yT Rt Xt k l hl R (P++[y]) n (by simpa using h) (by simp[hc]);rw[length_append]at ih;by_cases hy:y=0
  ·rw[if_pos (by simpa using hy),if_neg (by simp[uH,hy])]
  ·rw[if_neg (by simpa using hy)];refine Eq.trans ih ?_;grind[uH]
theorem I1(l:List Int)(hl:l.length<=400000000000000):cg.run l=some (!uH l):=by unfold cg.run cg.top;refine(yT (fun x2=>some x2) (cg.j0 fun x2=>some x2) fuel l hl l [] fuel (by rw[ai];omega) rfl).trans ?_;grind[cg.j0]
def QF(c:Int):Bool:=Ce ho 65535&&Ce tc 65535&&decide (c<=0)&&decide (da.length<=100)&&(decide (kd=3)||decide (da.length=0))&&Bq de sy ix ks
def RJ:Bool:=Ce ho 65535&&Ce de 77&&decide (sy.length<=32)&&uH sy&&Hd am fe to tc da ix ks
def Tb:Bool:=Ce ix 4294967295&&decide (1<=ks.length)&&decide (ks.length<=19)&&Hc am fe tk ho to tc de sy da
theorem zL(h:kd=1\/kd=3){c:Int}(hc:cQ.run fe am=some c):cZ.run (kd,am,fe,tk,ho,to,tc,de,sy,da,ix,ks,())=some (if QF kd ho tc de sy da ix ks c=true then 0 else 3):=by
 unfold cZ.run cZ.top;rw[ni kd h,bind_some,Sum.elim_inl];rw[if_neg (by simp)];unfold hZ.run hZ.top iy.run iy.top;simp only[yg,hc,bind_some,Qg,Um,Sm,ck,bS];have e:∀y:Bool,(if y=true then((kd,am,fe,tk,ho,to,tc,0,[],da,0,[],()):jH)else(0,z4,z4,FH,0,FH,0,0,[],[],0,[],()))=if y=true then(kd,am,fe,tk,ho,to,tc,0,[],da,0,[],())else(0,z4,z4,FH,0,FH,0,0,[],[],0,[],()):=fun _=>rfl
 have hz:((kd==3&&decide ((da.length:Int)<=100))||(!(kd==3)&&((da.length:Int)==0)))=(decide (da.length<=100)&&(decide (kd=3)||decide (da.length=0))):=by grind
 have h1:((Ce ho 65535&&(Ce ho 65535&&Ce tc 65535))&&decide ((if(Ce ho 65535&&(Ce ho 65535&&Ce tc 65535))=true then c else 0)<=0))=(Ce ho 65535&&Ce tc 65535&&decide (c<=0)):=by grind
 unfold Ce at h1;simp only[h1,hz];unfold QF Ce;generalize hA:(decide (0<=ho)&&decide (ho<=65535)&&(decide (0<=tc)&&decide (tc<=65535))&&decide (c<=0)&&(decide (da.length<=100)&&(decide (kd=3)||decide (da.length=0))))=A;have hA':(decide (0<=ho)&&decide (ho<=65535)&&(decide (0<=tc)&&decide (tc<=65535))&&decide (c<=0)&&decide (da.length<=100)&&(decide (kd=3)||decide (da.length=0)))=A:=by rw[<-hA];simp only[Bool.and_assoc]
 rw[hA'];cases A with
 |false=>rfl
 |true=>simp only[if_true,Tl,bind_some,Bool.not_true,Bool.false_or,Bool.true_and,BEq.rfl];cases Bq de sy ix ks<;>rfl
theorem EO(h:kd=1\/kd=3){c:Int}(hc:aH.run fe am=some c):ak.run (kd,am,fe,tk,ho,to,tc,de,sy,da,ix,ks,())=some (if QF kd ho tc de sy da ix ks c=true then 0 else 3):=by
 have honly:en.run (kd,am,fe,tk,ho,to,tc,de,sy,da,ix,ks,())=some ((kd,am,fe,tk,ho,to,tc,0,[],da,0,[],()),true,()):=by unfold en.run en.top en.j0;grind
 unfold ak.run ak.top;rw[honly,bind_some,if_neg (by simp),QT,bind_some];have hj:∀b:Bool,b=true->ak.j0 (fun x2=>some x2) (Bq de sy ix ks) kd b (kd,am,fe,tk,ho,to,tc,de,sy,da,ix,ks,())=some (if QF kd ho tc de sy da ix ks c=true then 0 else 3):=fun b hb=>by unfold ak.j0 ak.j1;rw[if_pos hb];simp only[qF,hc,bind_some,Qg,Um,ck,bS];unfold QF Ce;grind
 grind
theorem EF(hs:sy.length<=400000000000000):cZ.run (2,am,fe,tk,ho,to,tc,de,sy,da,ix,ks,())=some (if RJ am fe ho to tc de sy da ix ks=true then 0 else 3):=by
 unfold cZ.run cZ.top;rw[tX,bind_some,Sum.elim_inr,Sum.elim_inl];rw[if_neg (by simp)];unfold dM.run dM.top kc.run kc.top;simp only[yg,bind_some,Qg,ck];have:=DA (fun x5=>dM.j0 (fun x4=>some x4) x5) fuel sy hs sy [] fuel ((decide (0<=ho)&&decide (ho<=65535))&&((decide (0<=ho)&&decide (ho<=65535))&&(decide (0<=de)&&decide (de<=77)))&&decide ((sy.length:Int)<=32)) (by rw[ai];omega) rfl;rw[show((([]:List Int).length:Nat):Int)=0 from rfl]at this;rw[this];unfold dM.j0 RJ Ce;have hd:decide ((sy.length:Int)<=32)=decide (sy.length<=32):=by rw[decide_eq_decide];omega
 rw[hd];generalize (decide (0<=ho)&&decide (ho<=65535))=H;generalize (decide (0<=de)&&decide (de<=77))=T;generalize decide (sy.length<=32)=D;generalize uH sy=Z;simp only[bind_some,Sm];cases H<;>cases T<;>cases D<;>cases Z<;>first|rfl|skip
 simp only[Bool.and_self,Bool.true_and,if_true,Tk,bind_some,BEq.rfl,Bool.not_true,cond_false,bS,Bool.false_or];grind
theorem J1(hs:sy.length<=400000000000000):ak.run (2,am,fe,tk,ho,to,tc,de,sy,da,ix,ks,())=some (if RJ am fe ho to tc de sy da ix ks=true then 0 else 3):=by have honly:en.run (2,am,fe,tk,ho,to,tc,de,sy,da,ix,ks,())=some ((2,z4,z4,tk,ho,FH,0,de,sy,[],0,[],()),true,()):=rfl;unfold ak.run ak.top;rw[honly,bind_some,if_neg (by simp),QS,bind_some,if_neg (show¬(((2:Int)==1)=true) by decide)];unfold ak.j0 ak.j1;rw[if_neg (show¬(((2:Int)==3)=true) by decide),if_pos (show(((2:Int)==2)=true) by decide)];simp only[qF,I1 _ hs,bind_some,Qg,ck];unfold RJ Ce;grind
theorem JS:cZ.run (4,am,fe,tk,ho,to,tc,de,sy,da,ix,ks,())=some (if Tb am fe tk ho to tc de sy da ix ks=true then 0 else 3):=by
 unfold cZ.run cZ.top;rw[xN,bind_some,Sum.elim_inr,Sum.elim_inr,Sum.elim_inl];rw[if_neg (by simp)];unfold jB.run jB.top ke.run ke.top;simp only[yg,bind_some,Qg,Sm,ck];unfold Tb Ce;have hd:decide ((ks.length:Int)>=1)=decide (1<=ks.length):=by rw[decide_eq_decide];omega
 have hd2:decide ((ks.length:Int)<=19)=decide (ks.length<=19):=by rw[decide_eq_decide];omega
 rw[hd,hd2];generalize (decide (0<=ix)&&decide (ix<=4294967295))=H;generalize decide (1<=ks.length)=T;generalize decide (ks.length<=19)=D;cases H<;>cases T<;>cases D<;>first|rfl|skip
 simp only[Bool.and_self,Bool.true_and,if_true,Tj,bind_some,BEq.rfl,Bool.not_true,cond_false,bS,Bool.false_or];grind
theorem J0(hl:ks.length<=400000000000000):ak.run (4,am,fe,tk,ho,to,tc,de,sy,da,ix,ks,())=some (if Tb am fe tk ho to tc de sy da ix ks=true then 0 else 3):=by have honly:en.run (4,am,fe,tk,ho,to,tc,de,sy,da,ix,ks,())=some ((4,z4,z4,FH,0,FH,0,0,[],[],ix,ks,()),true,()):=rfl;unfold ak.run ak.top;rw[honly,bind_some,if_neg (by simp),QR _ _ _ _ _ _ _ _ _ _ _ _ hl,bind_some,if_neg (show¬(((4:Int)==1)=true) by decide)];unfold ak.j0 ak.j1;rw[if_neg (show¬(((4:Int)==3)=true) by decide),if_neg (show¬(((4:Int)==2)=true) by decide),if_pos (show(((4:Int)==4)=true) by decide)];simp only[qF,bind_some,Qg,ck];unfold Tb Ce;grind
theorem JT(h1:kd≠1)(h2:kd≠2)(h3:kd≠3)(h4:kd≠4):cZ.run (kd,am,fe,tk,ho,to,tc,de,sy,da,ix,ks,())=some 2/\ak.run (kd,am,fe,tk,ho,to,tc,de,sy,da,ix,ks,())=some 2:=by simp_all[Di,cZ.run,cZ.top,en.run,en.top,en.j0,ak.run,ak.top]
end
theorem yk(l:List Int):fv.run l=some (CH l):=by have h8:∀x:Int,aD.run x 8=some (be x 8):=fun x=>nY x 8 (by omega);unfold fv.run fv.top;simp only[h8,bind_some];rfl
def sB(x:Int)(n:Int):Int:=IntKind.u8.wrap (fS .u64 x n)
def K2(x:Int):List Int:=[sB x 56,sB x 48,sB x 40,sB x 32,sB x 24,sB x 16,sB x 8,sB x 0]
theorem JB(a b c d:Int):jV.run [a,b,c,d]=some (K2 d++K2 c++K2 b++K2 a):=by kernel_rfl
theorem PZ(x:Int):K2 x=be x 8:=by have h:∀n:Nat,n<=64->sB x (n:Int)=v8 x n:=fun n hn=>ru .u64 x n hn;unfold K2;have e0:sB x 0=v8 x 0:=h 0 (by decide);have e1:sB x 8=v8 x 8:=h 8 (by decide);have e2:sB x 16=v8 x 16:=h 16 (by decide);have e3:sB x 24=v8 x 24:=h 24 (by decide);have e4:sB x 32=v8 x 32:=h 32 (by decide);have e5:sB x 40=v8 x 40:=h 40 (by decide);have e6:sB x 48=v8 x 48:=h 48 (by decide);have e7:sB x 56=v8 x 56:=h 56 (by decide);rw[e7,e6,e5,e4,e3,e2,e1,e0];rfl
theorem nn(l:List Int)(h:l.length=4):jV.run l=some (CH l):=by obtain⟨a,b,c,d,rfl⟩:=fF h;rw[JB];simp only[PZ];rfl
theorem Dg{α:Type}(Xt:List Int->Option α)(K:Nat)(l:List (List Int))(hl:l.length<=1000)(B:Nat)(hB:B<=4194304):∀(R P:List (List Int))(n:Nat)(c:List Int),R.length<n->l=P++R->(c++R.flatten).length<=B->
  ie.l0 K Xt n l (l.length:Int) (P.length:Int) c=Xt (c++R.flatten)
 |R,P,0,c,h,_,_=>by omega
 |[],P,n+1,c,h,hc,hb=>by simp_all[ie.l0,ie.aR]
 |y::R,P,n+1,c,h,hc,hb=>by
  have hlen:l.length=P.length+(R.length+1):=by rw[hc];simp
  simp only[ie.l0,ie.aR];have hg:l.getD P.length []=y:=by rw[hc];exact dk _ _ _ _
  have hb':(c++y++R.flatten).length<=B:=by simpa[append_assoc]using hb
  rw[if_pos (dT (by omega)),if_pos (by omega),ax (by omega),ae,hg,if_pos (aK (by simp at hb;omega) (by omega))];have ih:=Dg Xt K l hl B hB R (P++[y]) n (c++y) (by simpa using h) (by simp[hc]) hb';grind
theorem Gx(l:List (List Int))(hl:l.length<=1000)(hb:l.flatten.length<=4194304):ie.run l=some l.flatten:=by unfold ie.run ie.top;refine(Dg (fun c14=>ie.j0 (fun c14=>some c14) c14) fuel l hl 4194304 (by omega) l [] fuel [] (by rw[ai];omega) rfl (by simpa using hb)).trans ?_;rfl
theorem KN(x:Int):mD.run x=some (be x 2):=by unfold mD.run mD.top;have:=ru .i64 x 8 (by decide);rw[show((8:Nat):Int)=8 from rfl]at this;rw[this,p9];rfl
section
variable (kd:Int)(am fe tk:List Int)(ho:Int)(to:List Int)(tc de:Int)(sy da:List Int)(ix:Int)(ks:List (List Int))
def Ib:List Int:=CH am++(tk++(be ho 2++(to++(be tc 2++(CH fe++da)))))
def Ia:List Int:=tk++(be ho 2++(be de 1++pad sy))
def MX:List Int:=be ix 4++(be (ks.length:Int) 1++ks.flatten)
theorem RN(b:Bool×Unit)(h1:am.length=4)(h2:fe.length=4)(h3:tk.length=32)(h4:to.length=32)(h5:da.length<=100):gN.run b (kd,am,fe,tk,ho,to,tc,de,sy,da,ix,ks,())=some (Ib am fe tk ho to tc da):=by unfold gN.run gN.top;simp only[nn _ h1,nn _ h2,KN,bind_some,g9 tk 32 (by omega),g9 to 32 (by omega),g9 (CH am) 32 (by rw[gW];rfl),g9 (CH fe) 32 (by rw[gW];rfl)];rw[Gx _ (by simp) (by simp[gW,eQ];omega)];grind[Ib]
theorem RM(u:Unit)(h3:tk.length=32)(h5:sy.length<=32):jA.run u (kd,am,fe,tk,ho,to,tc,de,sy,da,ix,ks,())=some (Ia tk ho de sy):=by unfold jA.run jA.top gO.run gO.top;simp only[KN,bind_some,EG sy h5,g9 tk 32 (by omega),g9 (pad sy) 32 (by rw[rk _ h5];rfl)];rw[Gx _ (by simp) (by simp[rk _ h5,eQ];omega)];grind[Ia,p9,be]
theorem Ek{α:Type}(Xt:List Int->Option α)(K:Nat)(l:List (List Int))(hl:l.length<=1000)(hk:∀x∈l,x.length=20)(B:Nat)(hB:B<=4194304):∀(R P:List (List Int))(n:Nat)(c:List Int),R.length<n->l=P++R->(c++R.flatten).length<=B->
  fh.l0 K Xt n l (l.length:Int) (P.length:Int) c=Xt (c++R.flatten)
 |R,P,0,c,h,_,_=>by omega
 |[],P,n+1,c,h,hc,hb=>by simp_all[fh.l0,fh.aR]
 |y::R,P,n+1,c,h,hc,hb=>by
  have hlen:l.length=P.length+(R.length+1):=by rw[hc];simp
  simp only[fh.l0,fh.aR];have hg:l.getD P.length (replicate 20 0)=y:=by rw[hc];exact dk _ _ _ _
  have hy:aA y 0 20=y:=g9 y 20 (by rw[hk y (by rw[hc];simp)];rfl);have hb':(c++y++R.flatten).length<=B:=by simpa[append_assoc]using hb
  rw[if_pos (dT (by omega)),if_pos (by omega),ax (by omega),ae,hg,hy,if_pos (aK (by simp at hb;omega) (by omega))];have ih:=Ek Xt K l hl hk B hB R (P++[y]) n (c++y) (by simpa using h) (by simp[hc]) hb';simp_all
theorem ET:∀(l:List (List Int)),(∀x∈l,x.length=20)->l.flatten.length=20*l.length
 |[],_=>rfl
 |a::l,h=>by have:=ET l fun x hx=>h x (mem_cons_of_mem _ hx);grind
theorem UT(u:Unit)(hl:ks.length<=19)(hk:∀x∈ks,x.length=20):fh.run u (kd,am,fe,tk,ho,to,tc,de,sy,da,ix,ks,())=some (MX ix ks):=by
 unfold fh.run fh.top;have h24:IntKind.u8.wrap (fS .i64 ix 24)=v8 ix 24:=ru .i64 ix 24 (by decide);have h16:IntKind.u8.wrap (fS .i64 ix 16)=v8 ix 16:=ru .i64 ix 16 (by decide);have h8:IntKind.u8.wrap (fS .i64 ix 8)=v8 ix 8:=ru .i64 ix 8 (by decide);rw[h24,h16,h8,p9,p9];refine(Ek (fun c37=>some c37) fuel ks (by omega) hk 4194304 (by omega) ks [] fuel _ (by rw[ai];omega) rfl ?_).trans ?_
 ·grind[ET]
 ·simp[MX,be]
theorem A4{α:Type}(Xt:List Int->Option α)(K:Nat)(l:List (List Int))(hl:l.length<=1000)(hk:∀x∈l,x.length=20)(B:Nat)(hB:B<=4194304):∀(R P:List (List Int))(n:Nat)(c:List Int),R.length<n->l=P++R->(c++R.flatten).length<=B->
  aF.l0 K Xt n c l (l.length:Int) (P.length:Int)=Xt (c++R.flatten)
 |R,P,0,c,h,_,_=>by omega
 |[],P,n+1,c,h,hc,hb=>by simp_all[aF.l0,aF.aR]
 |y::R,P,n+1,c,h,hc,hb=>by
  have hlen:l.length=P.length+(R.length+1):=by rw[hc];simp
  simp only[aF.l0,aF.aR];have hg:l.getD P.length (replicate 20 0)=y:=by rw[hc];exact dk _ _ _ _
  have hy:aA y 0 20=y:=g9 y 20 (by rw[hk y (by rw[hc];simp)];rfl);have hb':(c++y++R.flatten).length<=B:=by simpa[append_assoc]using hb
  rw[if_pos (dT (by omega)),if_pos (by omega),ax (by omega),ae,hg,hy,if_pos (xw (by simp at hb⊢;omega))];have ih:=A4 Xt K l hl hk B hB R (P++[y]) n (c++y) (by simpa using h) (by simp[hc]) hb';simp_all
theorem vU(x:Int):(aD.run x 1=some (be x 1)/\aD.run x 2=some (be x 2))/\(aD.run x 4=some (be x 4)/\aD.run x 8=some (be x 8)):=
 ⟨⟨nY x 1 (by omega),nY x 2 (by omega)⟩,nY x 4 (by omega),nY x 8 (by omega)⟩
theorem UX(h:kd=1\/kd=3)(hf:ak.run (kd,am,fe,tk,ho,to,tc,de,sy,da,ix,ks,())=some 0)(h3:tk.length=32)(h4:to.length=32)(h5:da.length<=100)(h6:0<=ho/\ho<=65535)(h7:0<=tc/\tc<=65535):
  aF.run (kd,am,fe,tk,ho,to,tc,de,sy,da,ix,ks,())=some (be kd 1++Ib am fe tk ho to tc da,0,()):=by
 unfold aF.run aF.top;rw[hf,bind_some,if_neg (by decide),kB (x:=kd) (by omega) (by omega),(vU kd).1.1,bind_some];simp only[kB (x:=ho) (by omega) (by omega),kB (x:=tc) (by omega) (by omega),(vU ho).1.2,(vU tc).1.2,yk,bind_some,g9 tk 32 (by omega),g9 to 32 (by omega)];rw[if_neg (by rcases h with rfl|rfl<;>decide),if_neg (by rcases h with rfl|rfl<;>decide)];have hb:∀n:Nat,n<=100000->ble n 9223372036854775807=true:=fun n hn=>xw (by omega);rw[if_pos (hb _ (by simp[gW,eQ];omega)),if_pos (hb _ (by simp[gW,eQ];omega)),if_pos (hb _ (by simp[gW,eQ];omega)),if_pos (hb _ (by simp[gW,eQ];omega)),if_pos (hb _ (by simp[gW,eQ];omega)),if_pos (hb _ (by simp[gW,eQ];omega)),if_pos (hb _ (by simp[gW,eQ];omega))];unfold aF.j0 Ib;simp only[append_assoc]
theorem UW(hf:ak.run (2,am,fe,tk,ho,to,tc,de,sy,da,ix,ks,())=some 0)(h3:tk.length=32)(h5:sy.length<=32)(h6:0<=ho/\ho<=65535)(h7:0<=de/\de<=77):
  aF.run (2,am,fe,tk,ho,to,tc,de,sy,da,ix,ks,())=some (be 2 1++Ia tk ho de sy,0,()):=by
 unfold aF.run aF.top;rw[hf,bind_some,if_neg (by decide),kB (x:=2) (by omega) (by omega),(vU 2).1.1,bind_some];simp only[kB (x:=ho) (by omega) (by omega),kB (x:=de) (by omega) (by omega),(vU ho).1.2,(vU de).1.1,qH _ h5,bind_some,g9 tk 32 (by omega),g9 (pad sy) 32 (by rw[rk _ h5];rfl)];rw[if_pos (by decide)];have hb:∀n:Nat,n<=100000->ble n 9223372036854775807=true:=fun n hn=>xw (by omega);have hp:=rk _ h5;rw[if_pos (hb _ (by simp[eQ,hp];omega)),if_pos (hb _ (by simp[eQ,hp];omega)),if_pos (hb _ (by simp[eQ,hp];omega)),if_pos (hb _ (by simp[eQ,hp];omega))];unfold aF.j0 Ia;simp only[append_assoc]
theorem UU(hf:ak.run (4,am,fe,tk,ho,to,tc,de,sy,da,ix,ks,())=some 0)(hl:ks.length<=19)(hk:∀x∈ks,x.length=20)(h6:0<=ix/\ix<=4294967295):
  aF.run (4,am,fe,tk,ho,to,tc,de,sy,da,ix,ks,())=some (be 4 1++MX ix ks,0,()):=by
 unfold aF.run aF.top;rw[hf,bind_some,if_neg (by decide),kB (x:=4) (by omega) (by omega),(vU 4).1.1,bind_some];simp only[kB (x:=ix) (by omega) (by omega),kB (x:=(ks.length:Int)) (by omega) (by omega),(vU ix).2.1,(vU (ks.length:Int)).1.1,bind_some];rw[if_neg (by decide),if_pos (by decide)];have hb:∀n:Nat,n<=100000->ble n 9223372036854775807=true:=fun n hn=>xw (by omega);rw[if_pos (hb _ (by simp[eQ])),if_pos (hb _ (by simp[eQ]))];refine(A4 (fun x5=>aF.j0 (fun x2 x3=>some (x2,x3,())) x5) fuel ks (by omega) hk 4194304 (by omega) ks [] fuel _ (by rw[ai];omega) rfl ?_).trans ?_
 ·simp[ET ks hk,eQ];omega
 ·unfold aF.j0 MX;simp only[append_assoc]
end
theorem FW(kd:Int)(am fe tk:List Int)(ho:Int)(to:List Int)(tc de:Int)(sy da:List Int)(ix:Int)(ks:List (List Int))(ha:am.length=4/\aM ah am)(hf:fe.length=4/\aM ah fe)(hs:sy.length<=400000000000000)(hl:ks.length<=400000000000000):
  ∃c,cZ.run (kd,am,fe,tk,ho,to,tc,de,sy,da,ix,ks,())=some c/\ak.run (kd,am,fe,tk,ho,to,tc,de,sy,da,ix,ks,())=some c:=by
 obtain⟨c,c1,c2⟩:=tS hf.1 ha.1 hf.2 ha.2;by_cases h1:kd=1
 ·exact⟨_,zL _ _ _ _ _ _ _ _ _ _ _ _ (.inl h1) c1,EO _ _ _ _ _ _ _ _ _ _ _ _ (.inl h1) c2⟩
 by_cases h3:kd=3
 ·exact⟨_,zL _ _ _ _ _ _ _ _ _ _ _ _ (.inr h3) c1,EO _ _ _ _ _ _ _ _ _ _ _ _ (.inr h3) c2⟩
 by_cases h2:kd=2
 ·subst h2;exact⟨_,EF _ _ _ _ _ _ _ _ _ _ _ hs,J1 _ _ _ _ _ _ _ _ _ _ _ hs⟩
 by_cases h4:kd=4
 ·subst h4;exact⟨_,JS _ _ _ _ _ _ _ _ _ _ _,J0 _ _ _ _ _ _ _ _ _ _ _ hl⟩
 obtain⟨e1,e2⟩:=JT kd am fe tk ho to tc de sy da ix ks h1 h2 h3 h4;exact⟨_,e1,e2⟩
theorem Fk{n m:Int}:Ce n m=true↔0<=n/\n<=m:=by simp[Ce]
theorem OQ{kd ho tc de:Int}{sy da:List Int}{ix:Int}{ks:List (List Int)}{c:Int}(h:QF kd ho tc de sy da ix ks c=true):(0<=ho/\ho<=65535)/\(0<=tc/\tc<=65535)/\da.length<=100:=by simp_all[Fk,QF]
theorem OO{am fe:List Int}{ho:Int}{to:List Int}{tc de:Int}{sy da:List Int}{ix:Int}{ks:List (List Int)}(h:RJ am fe ho to tc de sy da ix ks=true):(0<=ho/\ho<=65535)/\(0<=de/\de<=77)/\sy.length<=32:=by simp_all[Fk,RJ]
theorem Tc{am fe tk:List Int}{ho:Int}{to:List Int}{tc de:Int}{sy da:List Int}{ix:Int}{ks:List (List Int)}(h:Tb am fe tk ho to tc de sy da ix ks=true):(0<=ix/\ix<=4294967295)/\ks.length<=19:=by simp_all[Fk,Tb]
theorem sF{n:Nat}(h:n<=1000000):eF (1+n) 1=true:=aK (by omega) (by omega)
theorem EM(kd:Int)(am fe tk:List Int)(ho:Int)(to:List Int)(tc de:Int)(sy da:List Int)(ix:Int)(ks:List (List Int))(ha:am.length=4/\aM ah am)(hf:fe.length=4/\aM ah fe)(htk:tk.length=32)(hto:to.length=32)(hs:sy.length<=400000000000000)(hl:ks.length<=400000000000000)(hk:∀x∈ks,x.length=20):
  ∃r,du.run (kd,am,fe,tk,ho,to,tc,de,sy,da,ix,ks,())=some r/\aF.run (kd,am,fe,tk,ho,to,tc,de,sy,da,ix,ks,())=some r:=by
 obtain⟨c,c1,c2⟩:=tS hf.1 ha.1 hf.2 ha.2;have bad:∀e:Int,e≠0->cZ.run (kd,am,fe,tk,ho,to,tc,de,sy,da,ix,ks,())=some e->ak.run (kd,am,fe,tk,ho,to,tc,de,sy,da,ix,ks,())=some e->
   ∃r,du.run (kd,am,fe,tk,ho,to,tc,de,sy,da,ix,ks,())=some r/\aF.run (kd,am,fe,tk,ho,to,tc,de,sy,da,ix,ks,())=some r:=fun e he h1 h2=>by
  refine⟨([],e,()),?_,?_⟩
  ·unfold du.run du.top;rw[h1,bind_some,if_pos (by simpa using he)]
  ·unfold aF.run aF.top;rw[h2,bind_some,if_pos (by simpa using he)]
 by_cases h13:kd=1\/kd=3
 ·have e1:=zL kd am fe tk ho to tc de sy da ix ks h13 c1;have e2:=EO kd am fe tk ho to tc de sy da ix ks h13 c2;cases lC:QF kd ho tc de sy da ix ks c with
  |false=>rw[lC]at e1 e2;exact bad 3 (by decide) e1 e2
  |true=>rw[lC,if_pos rfl]at e1 e2;obtain⟨b1,b2,b3⟩:=OQ lC;refine⟨_,?_,UX kd am fe tk ho to tc de sy da ix ks h13 e2 htk hto b3 b1 b2⟩;unfold du.run du.top;rw[e1,bind_some,if_neg (by decide),ni kd h13,bind_some,Sum.elim_inl,RN _ _ _ _ _ _ _ _ _ _ _ _ _ ha.1 hf.1 htk hto b3,bind_some,if_pos (sF (by simp[Ib,gW,eQ];omega)),p9];rfl
 by_cases h2:kd=2
 ·subst h2;have e1:=EF am fe tk ho to tc de sy da ix ks hs;have e2:=J1 am fe tk ho to tc de sy da ix ks hs;cases lC:RJ am fe ho to tc de sy da ix ks with
  |false=>rw[lC]at e1 e2;exact bad 3 (by decide) e1 e2
  |true=>rw[lC,if_pos rfl]at e1 e2;obtain⟨b1,b2,b3⟩:=OO lC;refine⟨_,?_,UW am fe tk ho to tc de sy da ix ks e2 htk b3 b1 b2⟩;unfold du.run du.top;rw[e1,bind_some,if_neg (by decide),tX,bind_some,Sum.elim_inr,Sum.elim_inl,RM _ _ _ _ _ _ _ _ _ _ _ _ _ htk b3,bind_some,if_pos (sF (by simp[Ia,rk _ b3,eQ];omega)),p9];rfl
 by_cases h4:kd=4
 ·subst h4;have e1:=JS am fe tk ho to tc de sy da ix ks;have e2:=J0 am fe tk ho to tc de sy da ix ks hl;cases lC:Tb am fe tk ho to tc de sy da ix ks with
  |false=>rw[lC]at e1 e2;exact bad 3 (by decide) e1 e2
  |true=>rw[lC,if_pos rfl]at e1 e2;obtain⟨b1,b3⟩:=Tc lC;refine⟨_,?_,UU am fe tk ho to tc de sy da ix ks e2 b3 hk b1⟩;unfold du.run du.top;rw[e1,bind_some,if_neg (by decide),xN,bind_some,Sum.elim_inr,Sum.elim_inr,Sum.elim_inl,UT _ _ _ _ _ _ _ _ _ _ _ _ _ b3 hk,bind_some,if_pos (sF (by simp[MX,ET ks hk,eQ];omega)),p9];rfl
 have h1:kd≠1:=fun h=>h13 (.inl h);have h3:kd≠3:=fun h=>h13 (.inr h);obtain⟨e1,e2⟩:=JT kd am fe tk ho to tc de sy da ix ks h1 h2 h3 h4;exact bad 2 (by decide) e1 e2
theorem K6(b:dP)(h:b.2.2.2.2.2.2.1.length<=300):k8.run b=some b:=by unfold k8.run k8.top;rw[if_pos (aK (by omega) (by decide))]
section
variable {α:Type}(K:Nat)(c:dB)(a b d:Int)(e:List (List Int))
theorem J5(Xt)(l:List fx)(hl:l.length<=8)(hs:∀s∈l,s.2.1.length<=19):∀(R P:List fx)(n:Nat),R.length<n->l=P++R->
  bM.l0 (α:=α) K Xt n l (l.length:Int) (P.length:Int) c a b e d P=Xt c a b e d l
 |R,P,0,h,_=>by omega
 |[],P,n+1,h,hc=>by simp_all[bM.l0,bM.aR]
 |y::R,P,n+1,h,hc=>by
  have hlen:l.length=P.length+(R.length+1):=by rw[hc];simp
  have hg:l.getD P.length (0,[],0,())=y:=by rw[hc];exact dk _ _ _ _
  have hy:=hs y (by rw[hc];simp);simp only[bM.l0,bM.aR];rw[if_pos (dT (by omega)),if_pos (by omega),ae,hg,if_pos (aK (by omega) (by omega)),if_pos (aK (by omega) (by omega)),ax (by omega)];have ih:=J5 Xt l hl hs R (P++[y]) n (by simpa using h) (by simp[hc]);grind
theorem C9(Xt)(z:List fx)(l:List bu)(hl:l.length<=4)(hs:∀s∈l,s.2.2.2.1.2.1.length<=40):∀(R P:List bu)(n:Nat),R.length<n->l=P++R->
  bM.l1 (α:=α) K Xt n l (l.length:Int) (P.length:Int) c a b e d z P=Xt c a b e d z l
 |R,P,0,h,_=>by omega
 |[],P,n+1,h,hc=>by simp_all[bM.l1,bM.ly]
 |y::R,P,n+1,h,hc=>by
  have hlen:l.length=P.length+(R.length+1):=by rw[hc];simp
  have hg:l.getD P.length A0=y:=by rw[hc];exact dk _ _ _ _
  have hy:=hs y (by rw[hc];simp);simp only[bM.l1,bM.ly];rw[if_pos (dT (by omega)),if_pos (by omega),ae,hg,if_pos (aK (by omega) (by omega)),if_pos (aK (by omega) (by omega)),ax (by omega)];have ih:=C9 Xt z l hl hs R (P++[y]) n (by simpa using h) (by simp[hc]);grind
theorem J4(Xt)(z:List fx)(w:List bu)(l:List dP)(hl:l.length<=256)(hs:∀s∈l,s.2.2.2.2.2.2.1.length<=300):∀(R P:List dP)(n:Nat),R.length<n->l=P++R->
  bM.l2 (α:=α) K Xt n l (l.length:Int) (P.length:Int) c a b e d z w P=Xt c a b e d z w l
 |R,P,0,h,_=>by omega
 |[],P,n+1,h,hc=>by simp_all[bM.l2,bM.vw]
 |y::R,P,n+1,h,hc=>by
  have hlen:l.length=P.length+(R.length+1):=by rw[hc];simp
  have hg:l.getD P.length Vr=y:=by rw[hc];exact dk _ _ _ _
  simp only[bM.l2,bM.vw];rw[if_pos (dT (by omega)),if_pos (by omega),ae,hg,K6 y (hs y (by rw[hc];simp)),bind_some,if_pos (aK (by omega) (by omega)),ax (by omega)];have ih:=J4 Xt z w l hl hs R (P++[y]) n (by simpa using h) (by simp[hc]);grind
end
theorem J3(p:dB)(ok:Ae p):bM.run p=some (p.1,p.2.1,p.2.2.2.2.1,p.2.2.2.2.2.1,p.1,p.2.1,p.2.2.2.2.1,p.2.2.2.2.2.1,p.2.2.1,p.2.2.2.1,p.2.2.2.2.2.2.1,()):=by unfold bM.run bM.top;refine(J5 fuel p 0 0 0 _ _ p.2.2.1 ok.sets.2.1 ok.sets.2.2 p.2.2.1 [] fuel (by rw[ai];have:=ok.sets;omega) rfl).trans ?_;unfold bM.j0;refine(C9 fuel p 0 0 0 _ _ p.2.2.1 p.2.2.2.1 ok.al (fun s hs=>(ok.aa s hs).1) p.2.2.2.1 [] fuel (by rw[ai];have:=ok.al;omega) rfl).trans ?_;unfold bM.j1;refine(J4 fuel p 0 0 0 _ _ p.2.2.1 p.2.2.2.1 p.2.2.2.2.2.2.1 ok.sl ok.sb p.2.2.2.2.2.2.1 [] fuel (by rw[ai];have:=ok.sl;omega) rfl).trans ?_;rfl
def fA(t:List Int)(h:Int):List bu->Nat->Option Nat
 |[],_=>none
 |a::R,i=>if(az (.arr 32 (.int .u8)) a.1 t&&a.2.1==h)=true then some i else fA t h R (i+1)
theorem CY{t:List Int}{h:Int}:∀{R:List bu}{i j:Nat},fA t h R i=some j->i<=j/\j<i+R.length
 |[],i,j,e=>by simp[fA]at e
 |a::R,i,j,e=>by
  simp only[fA]at e;split at e
  ·cases e;simp
  ·have:=CY e;simp only[length_cons];omega
section
variable {α:Type}(K:Nat)(ch now nx:Int)(sn:List (List Int))(cv:_)(z:List fx)(st:List dP)(t:List Int)(h:Int)
theorem JK(Rt Xt)(l:List bu)(hl:l.length<=4):∀(R P:List bu)(n:Nat),R.length<n->l=P++R->
  bF.l0 (α:=α) K Rt Xt n h (l.length:Int) (P.length:Int) ch now sn nx cv z l st t=match fA t h R P.length with
   |some i=>Rt i ch now sn nx cv z l st
   |none=>Xt ch now sn nx cv z l st
 |R,P,0,h,_=>by omega
 |[],P,n+1,hn,hc=>by simp_all[bF.l0,bF.aR,fA]
 |y::R,P,n+1,hn,hc=>by
  have hlen:l.length=P.length+(R.length+1):=by rw[hc];simp
  have hg:l.getD P.length A0=y:=by rw[hc];exact dk _ _ _ _
  have hi:0<=(P.length:Int)/\(P.length:Int)<(l.length:Int):=by omega
  simp only[bF.l0,bF.aR,fA];rw[if_pos (dT (by omega)),if_pos hi,ae,hg,decide_eq_true hi,Bool.true_or,cond_true,ck];split
  ·rfl
  ·rw[ax (by omega)];have ih:=JK Rt Xt l hl R (P++[y]) n (by simpa using hn) (by simp[hc]);grind
theorem JL(Rt Xt)(l:List bu)(hl:l.length<=4):∀(R P:List bu)(n:Nat),R.length<n->l=P++R->
  bK.l0 (α:=α) K Rt Xt n h l (l.length:Int) (P.length:Int) t=match fA t h R P.length with
   |some i=>Rt i
   |none=>Xt
 |R,P,0,h,_=>by omega
 |[],P,n+1,hn,hc=>by simp_all[bK.l0,bK.aR,fA]
 |y::R,P,n+1,hn,hc=>by
  have hlen:l.length=P.length+(R.length+1):=by rw[hc];simp
  have hg:l.getD P.length A0=y:=by rw[hc];exact dk _ _ _ _
  have hi:0<=(P.length:Int)/\(P.length:Int)<(l.length:Int):=by omega
  simp only[bK.l0,bK.aR,fA];rw[if_pos (dT (by omega)),if_pos hi,ae,hg,ck];split
  ·rfl
  ·rw[ax (by omega)];have ih:=JL Rt Xt l hl R (P++[y]) n (by simpa using hn) (by simp[hc]);grind
theorem qN(l:List bu)(hl:l.length<=4):bF.run t h ch now sn nx cv z l st=some (match fA t h l 0 with
   |some i=>.inl ((i:Int),ch,now,sn,nx,cv,z,l,st,())
   |none=>.inr (.inl (ch,now,sn,nx,cv,z,l,st,()))):=by
 unfold bF.run bF.top;refine(JK fuel ch now nx sn cv z st t h _ _ l hl l [] fuel (by rw[ai];omega) rfl).trans ?_;rw[length_nil];cases fA t h l 0<;>rfl
theorem vT(p:dB)(hl:p.2.2.2.1.length<=4):bK.run p t h=some (match fA t h p.2.2.2.1 0 with
   |some i=>(i:Int)
   |none=>-1):=by
 unfold bK.run bK.top;refine(JL fuel t h _ _ p.2.2.2.1 hl p.2.2.2.1 [] fuel (by rw[ai];omega) rfl).trans ?_;rw[length_nil];cases fA t h p.2.2.2.1 0<;>rfl
end
theorem yj(kd ho tc de:Int)(am fe tk to:List Int)(ha:am.length=4/\aM ah am)(hf:fe.length=4/\aM ah fe)(htk:tk.length=32)(hto:to.length=32)(ch now nx:Int)(sn:List (List Int))(cv:_)(z:List fx)(l:List bu)(st:List dP)(hs:st.length<=256)(hn:nx=(st.length:Int)):
  ∃e nx' st',dJ.run kd am fe tk ho to tc de [] [] 0 [] ch now sn nx cv z l st=some (e,ch,now,sn,nx',cv,z,l,st',())/\gq.run (ch,now,z,l,sn,nx,st,()) (kd,am,fe,tk,ho,to,tc,de,[],[],0,[],())=some ((ch,now,z,l,sn,nx',st',()),e,())/\st'.length<=257/\(e≠0->nx'=nx/\st'=st):=by
 obtain⟨r,e1,e2⟩:=EM kd am fe tk ho to tc de [] [] 0 [] ha hf htk hto (by simp) (by simp) (by simp);obtain⟨m,m1,m2⟩:=kQ ch;unfold dJ.run dJ.top gq.run gq.top;rw[e1,e2];simp only[bind_some];by_cases h0:(r.2.1 !=0)=true
 ·rw[if_pos h0,if_pos h0];exact⟨_,_,_,rfl,rfl,by omega,fun _=>⟨rfl,rfl⟩⟩
 ·rw[if_neg h0,if_neg h0];by_cases h1:nx=256
  ·rw[if_pos (by simpa using h1),if_pos (dT (by omega))];exact⟨_,_,_,rfl,rfl,by omega,fun _=>⟨rfl,rfl⟩⟩
  ·rw[if_neg (by simpa using h1),if_neg (dF (by omega)),if_pos (aK (by omega) (by omega)),m1,m2];simp only[bind_some];rw[if_pos (aK (by omega) (by omega)),if_pos (aK (by omega) (by omega))];exact⟨_,_,_,rfl,rfl,by simp;omega,fun h=>absurd rfl h⟩
def JH:List eZ->Prop
 |[]=>True
 |h::R=>(∀x∈R,nk h.1 x.1=true)/\JH R
theorem BW(l:List eZ):∀(R P:List eZ)(i:Nat),l=P++R->i=P.length->E9 l R.length i=true->JH R
 |[],_,_,_,_,_=>trivial
 |[_],_,_,_,_,_=>⟨by simp,trivial⟩
 |h::g::R,P,i,hl,hi,ho=>by
  simp only[length_cons,E9,and_eq_true]at ho;have ih:=BW l (g::R) (P++[h]) (i+1) (by simp[hl]) (by simp[hi]) (by
   simp only[length_cons,E9,and_eq_true];exact ho.2)
  have hg:lC l (i+1)=true:=ho.2.1;unfold lC at hg;rw[and_eq_true,Bool.or_eq_true,decide_eq_true_eq]at hg;have h0:nk h.1 g.1=true:=by grind
  refine⟨fun x hx=>?_,ih⟩;rcases List.mem_cons.1 hx with rfl|hx
  ·exact h0
  ·exact xR _ _ _ h0 (ih.1 x hx)
theorem mF{c:ff}(h:iS c=true):JH c.2.1:=
 BW c.2.1 c.2.1 [] 0 rfl rfl ((iD c).1 h).1
def jz(w:List Int):List eZ->Nat->Nat×Bool
 |[],i=>(i,false)
 |h::R,i=>if nk h.1 w=true then jz w R (i+1)else(i,decide (h.1=w))
theorem wu{w:List Int}{h:eZ}{R:List eZ}{i:Nat}(hb:nk h.1 w=true):jz w (h::R) i=jz w R (i+1):=by simp_all[jz]
theorem wo{w:List Int}{h:eZ}{R:List eZ}{i:Nat}(hb:nk h.1 w=false):jz w (h::R) i=(i,decide (h.1=w)):=by simp_all[jz]
theorem VH(x y:List Int)(h:x.length=y.length):(pn x y==0)=decide (x=y):=by
 induction x generalizing y with
 |nil=>cases y with
  |nil=>rfl
  |cons=>simp at h
 |cons a x ih=>cases y with
  |nil=>simp at h
  |cons b y=>
   simp only[pn,List.cons.injEq];rcases Int.lt_trichotomy a b with q|q|q
   ·rw[if_pos q];have:¬(a=b/\x=y):=by omega
    simp[this]
   ·subst q;rw[if_neg (by omega),if_neg (by omega),ih y (by simpa using h)];simp
   ·rw[if_neg (by omega),if_pos q];have:¬(a=b/\x=y):=by omega
    simp[this]
theorem C1{α:Type}(k:Nat)(Rt:Int->Bool->Option α)(Xt:ff->Option α)(c:ff)(w:List Int)(hw:w.length=32):∀(R P:List eZ)(n:Nat),R.length<n->c.2.1.length<1000->c.2.1=P++R->(∀x∈R,x.1.length=32)->
  gJ.l0 k Rt Xt n c.2.1 (c.2.1.length:Int) (P.length:Int) c w=if(jz w R P.length).1=c.2.1.length then Xt c else Rt ((jz w R P.length).1:Int) (jz w R P.length).2
 |R,P,0,h,_,_,_=>by omega
 |[],P,n+1,h,hl,hc,_=>by simp_all[jz,gJ.l0,gJ.aR]
 |h::R,P,n+1,hn,hl,hc,hx=>by
  have hlen:c.2.1.length=P.length+(R.length+1):=by rw[hc];simp
  simp only[gJ.l0,gJ.aR];rw[if_pos (dT (by omega)),if_pos (by omega),ax (by omega),ae];have hg:c.2.1.getD P.length H0=h:=by rw[hc];exact kG _ _ _ _
  unfold gV.run gV.top qJ.run;simp only[bind_some];rw[hg];have h32:=hx h (by simp);rw[F0 h32,F0 hw,At _ _ (by omega),VH _ _ (by omega)];have ih:=C1 k Rt Xt c w hw R (P++[h]) n (by simpa using hn) hl (by simp[hc]) (fun x hxm=>hx x (mem_cons_of_mem _ hxm));rw[length_append]at ih;cases hb:nk h.1 w with
  |true=>rw[wu hb];simp only[Bool.not_true];rw[if_neg (by simp)];exact ih
  |false=>rw[wo hb];simp only[Bool.not_false];rw[if_pos trivial,if_neg (show¬(P.length=c.2.1.length) by omega)]
theorem wq(w:List Int):∀(R:List eZ)(i:Nat),i<=(jz w R i).1/\(jz w R i).1<=i+R.length/\((jz w R i).2=true->(jz w R i).1<i+R.length)/\((jz w R i).1=i+R.length->(jz w R i).2=false)
 |[],i=>by simp[jz]
 |h::R,i=>by
  have:=wq w R (i+1);simp only[length_cons];cases hb:nk h.1 w with
  |true=>rw[wu hb];refine⟨by omega,by omega,fun h=>by have:=this.2.2.1 h;omega,fun h=>this.2.2.2 (by omega)⟩
  |false=>rw[wo hb];refine⟨by simp,by simp,fun h=>by simp,fun h=>by simp at h⟩
theorem uw(c:ff)(hc:fB c)(hl:c.2.1.length<=40){w:List Int}(hw:w.length=32):
  gJ.run c w=some (((jz w c.2.1 0).1:Int),(jz w c.2.1 0).2,()):=by
 unfold gJ.run gJ.top;have:=fun N(hN:c.2.1.length<N)=>C1 N (fun(x4:Int)(x5:Bool)=>some (x4,x5,())) (fun(c2:ff)=>gJ.j0 (fun(x4:Int)(x5:Bool)=>some (x4,x5,())) c2) c w hw c.2.1 [] N hN (by omega) rfl (fun x hx=>(hc.2.2 x hx).1);refine Eq.trans (this fuel (by rw[ai];omega)) ?_;unfold gJ.j0;simp only[length_nil];split
 ·rename_i e;have:=(wq w c.2.1 0).2.2.2 (by omega);rw[this,e]
 ·rfl
def jL(w:List Int):List eZ->List Int
 |[]=>[0,0,0,0]
 |h::R=>if h.1=w then h.2.1 else jL w R
theorem Db{α:Type}(k:Nat)(Rt:List Int->Option α)(Xt:List Int->Option α)(l:List eZ)(w:List Int):∀(R P:List eZ)(n:Nat),R.length<n->l.length<1000->l=P++R->Xt [0,0,0,0]=Rt [0,0,0,0]->
  cO.l0 k Rt Xt n l (l.length:Int) (P.length:Int) w [0,0,0,0]=Rt (jL w R)
 |R,P,0,h,_,_,_=>by omega
 |[],P,n+1,h,hl,hc,hX=>by simp_all[cO.l0,cO.aR,jL]
 |h::R,P,n+1,hn,hl,hc,hX=>by
  have hlen:l.length=P.length+(R.length+1):=by rw[hc];simp
  simp only[cO.l0,cO.aR,jL];rw[if_pos (dT (by omega)),if_pos (by omega),ax (by omega),ae];have hg:l.getD P.length H0=h:=by rw[hc];exact kG _ _ _ _
  rw[hg,jr _ _ _ rfl];have ih:=Db k Rt Xt l w R (P++[h]) n (by simpa using hn) hl (by simp[hc]) hX;grind
theorem AV(c:ff)(hl:c.2.1.length<=40)(w:List Int):cO.run c w=some (jL w c.2.1):=by unfold cO.run cO.top;have:=fun N(hN:c.2.1.length<N)=>Db N (fun(c4:List Int)=>some c4) (fun(c4:List Int)=>cO.j0 (fun(c4:List Int)=>some c4) c4) c.2.1 w c.2.1 [] N hN (by omega) rfl rfl;grind[ai]
theorem wz(w:List Int):∀(R:List eZ),(∀x∈R,nk w x.1=true)->jL w R=[0,0,0,0]
 |[],_=>rfl
 |h::R,hx=>by have h1:=hx h (by simp);simp only[jL];rw[if_neg (fun e=>by rw[e,qX]at h1;simp at h1)];exact wz w R fun x hm=>hx x (mem_cons_of_mem _ hm)
theorem later(w:List Int){h:eZ}{R:List eZ}(hs:JH (h::R))(hb:nk h.1 w=false)(h32:h.1.length=w.length):∀x∈R,nk w x.1=true:=by intro x hx;have h1:=hs.1 x hx;grind[IP,xR]
theorem C0(l:List eZ)(w:List Int):∀(R P:List eZ),l=P++R->JH R->(∀x∈R,x.1.length=w.length)->
  (if(jz w R P.length).2=true then(l.getD (jz w R P.length).1 H0).2.1 else [0,0,0,0])=jL w R
 |[],P,_,_,_=>by simp[jz,jL]
 |h::R,P,hl,hs,hx=>by
  simp only[jL];cases hb:nk h.1 w with
  |true=>rw[wu hb];have ih:=C0 l w R (P++[h]) (by simp[hl]) hs.2 (fun x hm=>hx x (mem_cons_of_mem _ hm));rw[length_append]at ih;rw[if_neg (show¬(h.1=w) from fun e=>by rw[e,qX]at hb;simp at hb)];exact ih
  |false=>
   rw[wo hb];by_cases e:h.1=w
   ·rw[if_pos (by simpa using e),if_pos e,hl,kG]
   ·rw[if_neg (by simpa using e),if_neg e,wz w R (later w hs hb (hx h (by simp)))]
theorem nu(c:ff)(hc:fB c)(hl:c.2.1.length<=40)(hs:JH c.2.1){w:List Int}(hw:w.length=32):nc.run c w=some (jL w c.2.1):=by unfold nc.run nc.top;rw[uw c hc hl hw];simp only[bind_some];have:=C0 c.2.1 w c.2.1 [] rfl hs (fun x hx=>by rw[(hc.2.2 x hx).1,hw]);simp only[length_nil]at this;rw[<-this];have h2:=(wq w c.2.1 0).2.2.1;grind
theorem oT(w:List Int):∀(R:List eZ),(∀x∈R,nN x)->(jL w R).length=4/\aM ah (jL w R)
 |[],_=>⟨rfl,fun d hd=>by
   simp only[jL,mem_cons,not_mem_nil,or_false]at hd;simp only[ah];omega⟩
 |h::R,hx=>by
  simp only[jL];split
  ·exact⟨(hx h (by simp)).2.1,(hx h (by simp)).2.2.1⟩
  ·exact oT w R fun x hm=>hx x (mem_cons_of_mem _ hm)
def ins(w n:List Int):List eZ:=if n=[0,0,0,0]then []else [(w,n,())]
def ia(w n:List Int):List eZ->List eZ
 |[]=>ins w n
 |h::R=>if nk h.1 w=true then h::ia w n R else if h.1=w then ins w n++R else ins w n++h::R
theorem En(l:List eZ)(w n:List Int):∀(R P:List eZ),l=P++R->
  aA l 0 ((jz w R P.length).1:Int)++ins w n++aA l (((jz w R P.length).1+if(jz w R P.length).2=true then 1 else 0:Nat):Int) (l.length:Int)=P++ia w n R
 |[],P,hl=>by simp_all[jz,ia,aA]
 |h::R,P,hl=>by
  simp only[ia];cases hb:nk h.1 w with
  |true=>rw[wu hb,if_pos rfl];have ih:=En l w n R (P++[h]) (by simp[hl]);rw[length_append]at ih;refine Eq.trans ih ?_;simp
  |false=>
   rw[wo hb,if_neg (show¬(false=true) by simp)];subst hl;by_cases e:h.1=w
   ·rw[if_pos (by simpa using e),if_pos e];simp[aA,List.drop_append,List.take_append];rw[List.drop_eq_nil_of_le (by omega),List.take_nil,nil_append];apply List.take_of_length_le;omega
   ·rw[if_neg (by simpa using e),if_neg e];simp[aA,List.drop_append,List.take_append];apply List.take_of_length_le;simp;omega
theorem ng(c:ff)(hc:fB c)(hl:c.2.1.length<=40){w n:List Int}(hw:w.length=32):jc.run c w n=some (c.1,ia w n c.2.1,()):=by
 unfold jc.run jc.top;rw[uw c hc hl hw];simp only[bind_some];obtain⟨f0,f1,f2,f3⟩:=wq w c.2.1 0;have hw:=En c.2.1 w n c.2.1 [] rfl;simp only[length_nil,nil_append]at hw;generalize jz w c.2.1 0=f at*;obtain⟨i,b⟩:=f;simp only at*;have hcut:∀(a b:Int),(aA c.2.1 a b).length<=40:=fun a b=>by grind[aA]
 have hc0:=hcut 0 (i:Int);have fits:∀m,m<=4194304->eF m 64=true:=fun m hm=>aK hm (by omega);rw[if_pos (by omega),if_pos (fits _ (by omega)),jr (.arr 4 (.int .u64)) n [0,0,0,0] rfl];have j1r:∀(j:Nat)(q:List eZ),j<=c.2.1.length->q.length<=41->jc.j1 (fun(c6p0:List Int)(c21:List eZ)=>some (c6p0,c21,())) (j:Int) c [0,0,0,0] q=some (c.1,q++aA c.2.1 (j:Int) (c.2.1.length:Int),()):=fun j q hj hq=>by unfold jc.j1;grind
 have j0r:∀(q:List eZ),q.length<=41->jc.j0 (fun(c6p0:List Int)(c21:List eZ)=>some (c6p0,c21,())) (i:Int) b c [0,0,0,0] q=some (c.1,q++aA c.2.1 ((i+if b=true then 1 else 0:Nat):Int) (c.2.1.length:Int),()):=fun q hq=>by
  unfold jc.j0;cases b with
  |true=>have:=f2 rfl;rw[if_pos rfl,ax (by omega),j1r _ _ (by omega) hq];simp
  |false=>rw[if_neg (by simp),j1r _ _ (by omega) hq];simp
 by_cases hn:n=[0,0,0,0]
 ·rw[if_neg (by simp[hn]),j0r _ (by omega),<-hw];simp[ins,hn]
 ·rw[if_pos (by simp[hn]),if_pos (fits _ (by omega)),j0r _ (by simp;omega),<-hw];simp[ins,hn]
def Ft(w n:List Int):Bool->List eZ->List eZ
 |b,[]=>if b=true then []else [(w,n,())]
 |b,h::R=>(if(!b&& !(nk h.1 w))=true then [(w,n,())]else [])++(if h.1=w then []else [h])++Ft w n (b|| !(nk h.1 w)) R
theorem Hv(w n:List Int):∀(R:List eZ),(∀x∈R,nk w x.1=true)->Ft w n true R=R
 |[],_=>rfl
 |h::R,hx=>by have h1:=hx h (by simp);simp only[Ft];rw[if_neg (by simp),if_neg (fun e=>by rw[e,qX]at h1;simp at h1),Bool.true_or,Hv w n R fun x hm=>hx x (mem_cons_of_mem _ hm)];rfl
theorem BO(w n:List Int):∀(R:List eZ),JH R->(∀x∈R,x.1.length=w.length)->Ft w n (decide (n=[0,0,0,0])) R=ia w n R
 |[],_,_=>by simp_all[Ft,ia,ins]
 |h::R,hs,hx=>by
  simp only[Ft,ia];have ih:=BO w n R hs.2 (fun x hm=>hx x (mem_cons_of_mem _ hm));cases hb:nk h.1 w with
  |true=>rw[if_neg (by simp),if_neg (fun e=>by rw[e,qX]at hb;simp at hb),if_pos rfl];simp only[Bool.not_true,Bool.or_false,ih];rfl
  |false=>
   have hbig:=Hv w n R (later w hs hb (hx h (by simp)));simp only[Bool.not_false,Bool.or_true,hbig,Bool.and_true];rw[if_neg (show¬(false=true) by simp)];unfold ins;by_cases hn:n=[0,0,0,0]
   ·rw[if_neg (by simp[hn]),if_pos hn];by_cases e:h.1=w
    ·rw[if_pos e,if_pos e];rfl
    ·rw[if_neg e,if_neg e];rfl
   ·rw[if_pos (by simp[hn]),if_neg hn];by_cases e:h.1=w
    ·rw[if_pos e,if_pos e];rfl
    ·rw[if_neg e,if_neg e];rfl
def wY(w n:List Int):Bool->List eZ->List eZ×Bool
 |b,[]=>([],b)
 |b,h::R=>((if(!b&& !(nk h.1 w))=true then [(w,n,())]else [])++(if h.1=w then []else [h])++(wY w n (b|| !(nk h.1 w)) R).1,(wY w n (b|| !(nk h.1 w)) R).2)
theorem D2(w n:List Int):∀(b:Bool)(R:List eZ),(wY w n b R).1++(if(wY w n b R).2=true then []else [(w,n,())])=Ft w n b R
 |b,[]=>by simp only[wY,Ft,nil_append];rfl
 |b,h::R=>by have ih:=D2 w n (b|| !(nk h.1 w)) R;grind[wY,Ft]
theorem Hw{α:Type}(k:Nat)(Xt:Bool->ff->List Int->List Int->List Int->List eZ->Option α)(c:ff)(w n z:List Int)(hw:w.length=32)(l:List eZ)(hl:l.length<=1000):∀(R P:List eZ)(m:Nat)(b:Bool)(q:List eZ),R.length<m->l=P++R->q.length<=2*P.length->(∀x∈R,x.1.length=32)->
  bU.l0 k Xt m b l (l.length:Int) (P.length:Int) c w n z q=Xt (wY w n b R).2 c w n z (q++(wY w n b R).1)
 |R,P,0,_,_,h,_,_,_=>by omega
 |[],P,m+1,b,q,h,hc,hq,hx=>by simp_all[bU.l0,bU.aR,wY]
 |h::R,P,m+1,b,q,hm,hc,hq,hx=>by
  have hlen:l.length=P.length+(R.length+1):=by rw[hc];simp
  simp only[bU.l0,bU.aR];rw[if_pos (dT (by omega)),if_pos (by omega),ae];have hg:l.getD P.length H0=h:=by rw[hc];exact kG _ _ _ _
  rw[hg];unfold e9.run e9.top;rw[F0 (hx h (by simp)),F0 hw];have ih:=fun b' q' hq'=>Hw k Xt c w n z hw l hl R (P++[h]) m b' q' (by simpa using hm) (by simp[hc]) hq' (fun x hxm=>hx x (mem_cons_of_mem _ hxm));simp only[length_append,length_cons,length_nil]at ih;have fits:∀m,m<=4194304->eF m 64=true:=fun m hm=>aK hm (by omega);have j0r:∀(b':Bool)(q':List eZ),q'.length<=2*P.length+1->bU.j0 (bU.l0 k Xt m) b' l (l.length:Int) (P.length:Int) c w n z h q'=bU.l0 k Xt m b' l (l.length:Int) ((P.length+1:Nat):Int) c w n z (q'++if h.1=w then []else [h]):=fun b' q' hq'=>by unfold bU.j0 bU.j1;rw[jr _ _ _ rfl,ax (by omega)];grind
  have hq2:∀(q':List eZ),q'.length<=2*P.length+1->(q'++if h.1=w then([]:List eZ)else [h]).length<=2*(P.length+(0+1)):=fun q' h'=>by grind
  simp only[wY];cases b with
  |true=>simp only[Bool.not_true,Bool.false_and,Bool.true_or];rw[if_neg (by simp),bind_some];simp only[cond_false];rw[if_neg (by simp),j0r _ _ (by omega)];refine Eq.trans (ih _ _ (hq2 _ (by omega))) ?_;simp
  |false=>
   simp only[Bool.not_false,Bool.true_and,Bool.false_or];rw[if_pos (show(true==true)=true from rfl),bind_some];simp only[cond_true];cases hbw:nk h.1 w with
   |true=>simp only[Bool.not_true];rw[if_neg (by simp),j0r _ _ (by omega)];refine Eq.trans (ih _ _ (hq2 _ (by omega))) ?_;simp
   |false=>simp only[Bool.not_false];rw[if_pos trivial,if_pos (fits _ (by omega)),j0r _ _ (by simp;omega)];refine Eq.trans (ih _ _ (hq2 _ (by simp;omega))) ?_;simp
theorem KD(c:ff)(hc:fB c)(hl:c.2.1.length<=40)(hs:JH c.2.1){w n:List Int}(hw:w.length=32):bU.run c w n=some (c.1,ia w n c.2.1,()):=by
 unfold bU.run bU.top aE.run aE.top;simp only[bind_some];rw[jr (.arr 4 (.int .u64)) n [0,0,0,0] rfl];have:=fun N(hN:c.2.1.length<N)=>Hw N (fun(x8:Bool)(c3:ff)(c4:List Int)(c5:List Int)(c6p0:List Int)(c34:List eZ)=>bU.j2 (fun(c6p0:List Int)(c34:List eZ)=>some (c6p0,c34,())) x8 c3 c4 c5 c6p0 c34) c w n [0,0,0,0] hw c.2.1 (by omega) c.2.1 [] N (decide (n=[0,0,0,0])) [] hN rfl (by simp) (fun x hx=>(hc.2.2 x hx).1);refine Eq.trans (this fuel (by rw[ai];omega)) ?_;rw[<-BO w n c.2.1 hs (fun x hx=>by rw[(hc.2.2 x hx).1,hw]),<-D2];have hlen:∀(R:List eZ) b,(wY w n b R).1.length<=2*R.length:=by
  intro R;induction R with
  |nil=>intro b;simp[wY]
  |cons h R ih=>intro b;simp only[wY,length_append,length_cons];have:=ih (b|| !(nk h.1 w));split<;>split<;>simp<;>omega
 have hl2:=hlen c.2.1 (decide (n=[0,0,0,0]));generalize wY w n (decide (n=[0,0,0,0])) c.2.1=f at*;obtain⟨f1,f2⟩:=f;simp only at*;unfold bU.j2 bU.j3;cases f2 with
 |true=>rw[if_neg (by simp)];simp
 |false=>rw[if_pos (by rfl),if_pos (aK (by simp;omega) (by omega))];simp
theorem QN{l m:List Int}(hl:l.length=4)(hm:m.length=4)(dl:aM ah l)(dm:aM ah m):
  ∃r o,gZ.run l m=some (r,o,())/\r.length=4/\aM ah r/\val ah r=(val ah l+val ah m)%aB/\(o=true↔aB<=val ah l+val ah m):=by
 unfold gZ.run gZ.top;obtain⟨o1,e1,n1,g1,v1⟩:=gj hl dl;obtain⟨o2,e2,n2,g2,v2⟩:=gj hm dm;obtain⟨p,e3,n3,g3,v3⟩:=nG g1 g2 (by omega) (by omega);obtain⟨w,f,e4,n4,g4,v4,f4⟩:=kK g3 (by omega);rw[e1,e2];simp only[bind_some];rw[e3];simp only[bind_some];rw[e4];simp only[bind_some];exact⟨w,f,rfl,n4,g4,by rw[v4,v3,v1,v2],by rw[f4,v3,v1,v2]⟩
theorem nine:aM bY [0,0,0,0,0,0,0,0,1]/\val bY [0,0,0,0,0,0,0,0,1]=aB:=by
 constructor
 ·intro d hd;simp only[mem_cons,not_mem_nil,or_false]at hd;grind
 rfl
theorem BH{l m:List Int}(hl:l.length=4)(hm:m.length=4)(dl:aM ah l)(dm:aM ah m):
  ∃r o,cV.run l m=some (r,o,())/\r.length=4/\aM ah r/\val ah r=(val ah l-val ah m)%aB/\(o=true↔val ah l<val ah m):=by
 unfold cV.run cV.top cG.run cG.top;obtain⟨o1,e1,n1,g1,v1⟩:=gj hl dl;obtain⟨o2,e2,n2,g2,v2⟩:=gj hm dm;have b1:=fp hl dl;have b2:=fp hm dm;rw[e1,e2];simp only[bind_some];rw[nF g1 g2 (by omega) (by omega),v1,v2];simp only[bind_some];by_cases hlt:val ah l<val ah m
 ·rw[if_pos hlt,if_neg (by simp)];obtain⟨p,e3,n3,g3,v3⟩:=nG g1 nine.1 (by omega) (by simp);rw[nine.2]at v3;obtain⟨q,e4,n4,g4,v4⟩:=BI g3 g2 (by simp at n3;omega) (by simp at n3;omega) (by omega);obtain⟨w,f,e5,n5,g5,v5,f5⟩:=kK g4 (by simp at n3;omega);rw[e3];simp only[bind_some];rw[e4];simp only[bind_some];rw[e5];simp only[bind_some];refine⟨w,true,rfl,n5,g5,?_,by simpa using hlt⟩;rw[v5,v4,v3,v1,v2];simp only[aB];omega
 ·rw[if_neg hlt];have hge:decide ((if val ah l>val ah m then(1:Int)else 0)>=0)=true:=by split<;>simp
  rw[if_pos hge];obtain⟨q,e4,n4,g4,v4⟩:=BI g1 g2 (by omega) (by omega) (by omega);obtain⟨w,f,e5,n5,g5,v5,f5⟩:=kK g4 (by omega);rw[e4];simp only[bind_some];rw[e5];simp only[bind_some];refine⟨w,false,rfl,n5,g5,?_,by simpa using hlt⟩;rw[v5,v4,v1,v2]
theorem tM{l m:List Int}(hl:l.length=4)(hm:m.length=4)(dl:aM ah l)(dm:aM ah m):
  ∃r o,gb.run l m=some (r,o,())/\gZ.run l m=some (r,o,())/\r.length=4/\aM ah r/\val ah r=(val ah l+val ah m)%aB/\(o=true↔aB<=val ah l+val ah m):=by
 obtain⟨r1,o1,e1,n1,g1,v1,f1⟩:=pg hl hm dl dm;obtain⟨r3,o3,e3,n3,g3,v3,f3⟩:=QN hl hm dl dm;have k1:r1=r3:=jG n1 n3 g1 g3 (by rw[v1,v3]);have k3:o1=o3:=JR f1 f3;subst k1 k3;exact⟨r1,o1,e1,e3,n1,g1,v1,f1⟩
theorem oF{l m:List Int}(hl:l.length=4)(hm:m.length=4)(dl:aM ah l)(dm:aM ah m):
  ∃r o,gE.run l m=some (r,o,())/\cV.run l m=some (r,o,())/\r.length=4/\aM ah r/\val ah r=(val ah l-val ah m)%aB/\(o=true↔val ah l<val ah m):=by
 obtain⟨r1,o1,e1,n1,g1,v1,f1⟩:=tD hl hm dl dm;obtain⟨r3,o3,e3,n3,g3,v3,f3⟩:=BH hl hm dl dm;have k1:r1=r3:=jG n1 n3 g1 g3 (by rw[v1,v3]);have k3:o1=o3:=JR f1 f3;subst k1 k3;exact⟨r1,o1,e1,e3,n1,g1,v1,f1⟩
abbrev W8:Ty:=.arr 32 (.int .u8)
def vP(r:ff×Int×Unit):Prop:=fB r.1/\r.1.2.1.length<=41
theorem pC{e:Int}:vP (([0,0,0,0],[],()),e,()):=by refine⟨⟨rfl,fun d hd=>?_,by simp⟩,by simp⟩;grind
theorem B6{w n:List Int}(hw:w.length=32/\∀b∈w,0<=b/\b<=255)(hn:n.length=4/\aM ah n):∀(R:List eZ),(∀x∈R,nN x)->(∀x∈ia w n R,nN x)/\(ia w n R).length<=R.length+1
 |[],_=>by
  simp only[ia,ins];split
  ·simp
  ·refine⟨fun x hx=>?_,by simp⟩;simp only[mem_cons,not_mem_nil,or_false]at hx;subst hx;exact⟨hw.1,hn.1,hn.2,hw.2⟩
 |h::R,hx=>by
  obtain⟨i1,i2⟩:=B6 hw hn R (fun x hm=>hx x (mem_cons_of_mem _ hm));have hi:∀x∈ins w n,nN x:=by
   intro x hx;unfold ins at hx;split at hx
   ·simp at hx
   ·simp only[mem_cons,not_mem_nil,or_false]at hx;subst hx;exact⟨hw.1,hn.1,hn.2,hw.2⟩
  grind[ia,ins]
theorem tY(c:ff)(hc:fB c){w n:List Int}(hw:w.length=32/\∀b∈w,0<=b/\b<=255)(hn:n.length=4/\aM ah n):
  ∃r,jv.run c w n=some r/\eB.run c w n=some r/\vP r:=by
 unfold jv.run jv.top eB.run eB.top;rw[vf _ hc,kF _ hc];simp only[bind_some];by_cases h40:c.2.1.length>40
 ·rw[if_pos h40];exact⟨_,rfl,rfl,pC⟩
 ·rw[if_neg h40];by_cases hg:iS c=true
  ·rw[if_pos hg,if_neg (show¬(((0:Int) !=0)=true) by decide),if_neg (show¬(((0:Int) !=0)=true) by decide)];obtain⟨r1,o1,e1,e2,n1,d1,_⟩:=tM hc.1 hn.1 hc.2.1 hn.2;rw[e1,e2];simp only[bind_some];by_cases ho:o1=true
   ·rw[if_pos ho,if_pos ho];exact⟨_,rfl,rfl,pC⟩
   ·rw[if_neg ho,if_neg ho,nu _ hc (by omega) (mF hg) hw.1,AV _ (by omega)];simp only[bind_some];obtain⟨k1,k2⟩:=oT w c.2.1 hc.2.2;obtain⟨r2,o2,f1,f2,n2,d2,_⟩:=tM k1 hn.1 k2 hn.2;rw[f1,f2];simp only[bind_some];rw[ng c hc (by omega) hw.1,KD c hc (by omega) (mF hg) hw.1];simp only[bind_some];obtain⟨i1,i2⟩:=B6 hw ⟨n2,d2⟩ c.2.1 hc.2.2;unfold lJ.run lJ.top;by_cases hb:(decide (((ia w r2 c.2.1).length:Int)>40))=true
    ·rw[if_pos hb];exact⟨_,rfl,rfl,pC⟩
    ·rw[if_neg hb];exact⟨_,rfl,rfl,⟨n1,d1,i1⟩,by simp;omega⟩
  ·rw[if_neg hg];exact⟨_,rfl,rfl,pC⟩
theorem tR(c:ff)(hc:fB c){w n:List Int}(hw:w.length=32/\∀b∈w,0<=b/\b<=255)(hn:n.length=4/\aM ah n):
  ∃r,ju.run c w n=some r/\fU.run c w n=some r/\vP r:=by
 unfold ju.run ju.top fU.run fU.top;rw[vf _ hc,kF _ hc];simp only[bind_some];by_cases h40:c.2.1.length>40
 ·rw[if_pos h40];exact⟨_,rfl,rfl,pC⟩
 ·rw[if_neg h40];by_cases hg:iS c=true
  ·rw[if_pos hg,if_neg (show¬(((0:Int) !=0)=true) by decide),if_neg (show¬(((0:Int) !=0)=true) by decide)];rw[nu _ hc (by omega) (mF hg) hw.1,AV _ (by omega)];simp only[bind_some];obtain⟨k1,k2⟩:=oT w c.2.1 hc.2.2;obtain⟨r1,o1,e1,e2,n1,d1,_⟩:=oF k1 hn.1 k2 hn.2;rw[e1,e2];simp only[bind_some];by_cases ho:o1=true
   ·rw[if_pos ho,if_pos ho];exact⟨_,rfl,rfl,pC⟩
   ·rw[if_neg ho,if_neg ho,ng c hc (by omega) hw.1,KD c hc (by omega) (mF hg) hw.1];simp only[bind_some];obtain⟨i1,i2⟩:=B6 hw ⟨n1,d1⟩ c.2.1 hc.2.2;obtain⟨r2,o2,f1,f2,n2,d2,_⟩:=oF hc.1 hn.1 hc.2.1 hn.2;rw[f1,f2];simp only[bind_some];exact⟨_,rfl,rfl,⟨n2,d2,i1⟩,by simp;omega⟩
  ·rw[if_neg hg];exact⟨_,rfl,rfl,pC⟩
theorem JA{K:Ty->Nat->Prop}{w:List Int}(h:Fit K W8 w):w.length=32/\∀b∈w,0<=b/\b<=255:=
 ⟨h.1,fun b hb=>by have:=h.2 b hb;simpa[Fit,IA]using this⟩
theorem tZ(c:ff)(hc:fB c){v w n:List Int}(hv:v.length=32/\∀b∈v,0<=b/\b<=255)(hw:w.length=32/\∀b∈w,0<=b/\b<=255)(hn:n.length=4/\aM ah n):
  ∃r,jx.run c v w n=some r/\eT.run c v w n=some r/\vP r:=by
 obtain⟨r,e1,e2,g1,g2⟩:=tR c hc hv hn;unfold jx.run jx.top eT.run eT.top;rw[e1,e2];simp only[bind_some];by_cases he:(r.2.1 !=0)=true
 ·rw[if_pos he,if_pos he];exact⟨_,rfl,rfl,pC⟩
 ·rw[if_neg he,if_neg he];obtain⟨s,f1,f2,k1,k2⟩:=tY r.1 g1 hw hn;rw[f1,f2];exact⟨_,rfl,rfl,k1,k2⟩
def sm:List eZ->Int
 |[]=>0
 |h::R=>val ah h.2.1+sm R
def Nz(l:List eZ):Prop:=∀x∈l,x.2.1≠[0,0,0,0]
theorem B3(l:List eZ):∀(R P:List eZ),l=P++R->Ei l R.length P.length=sm R
 |[],P,_=>rfl
 |h::R,P,hl=>by simp only[length_cons,Ei,sm];have ih:=B3 l R (P++[h]) (by simp[hl]);grind
theorem xW(l:List eZ):∀(R P:List eZ),l=P++R->E9 l R.length P.length=true->Nz R
 |[],_,_,_=>fun x hx=>by cases hx
 |h::R,P,hl,ho=>by
  simp only[length_cons,E9,lC,and_eq_true]at ho;have ih:=xW l R (P++[h]) (by simp[hl]) (by rw[length_append];exact ho.2);intro x hx;rcases List.mem_cons.1 hx with rfl|hx
  ·intro e;have h1:=ho.1.1;have hg:l.getD P.length H0=x:=by rw[hl];exact kG P x R H0
   rw[hg,e]at h1;exact absurd h1 (by decide)
  ·exact ih x hx
theorem KG{p h:eZ}{R:List eZ}:∀(Q:List eZ),JH (Q++p::h::R)->nk p.1 h.1=true
 |[],hs=>hs.1 h (by simp)
 |_::Q,hs=>KG Q hs.2
theorem I3(l:List eZ)(hn:Nz l)(hs:JH l):∀(R P:List eZ),l=P++R->E9 l R.length P.length=true
 |[],_,_=>rfl
 |h::R,P,hl=>by
  have hg:l.getD P.length H0=h:=by rw[hl];exact kG P h R H0
  have ih:=I3 l hn hs R (P++[h]) (by simp[hl]);rw[length_append]at ih;simp only[length_cons,E9,lC,and_eq_true];refine⟨⟨?_,?_⟩,ih⟩
  ·rw[hg];cases hb:az (.arr 4 (.int .u64)) h.2.1 [0,0,0,0]with
   |false=>rfl
   |true=>exact absurd ((j8 (.arr 4 (.int .u64)) _ _ rfl).1 hb) (hn h (by rw[hl];simp))
  ·rcases List.eq_nil_or_concat P with rfl|⟨Q,p,rfl⟩
   ·rfl
   ·rw[List.concat_eq_append]at hl hg⊢;have hl2:l=Q++p::h::R:=by rw[hl];simp
    have hg2:l.getD ((Q++[p]).length-1) H0=p:=by grind
    rw[hg,hg2,Bool.or_eq_true];right;grind[KG]
theorem uc{w n:List Int}{x:eZ}:∀{R:List eZ},x∈ia w n R->x∈R\/(x=(w,n,())/\n≠[0,0,0,0])
 |[],h=>by grind[ia,ins]
 |a::R,h=>by
  have hi:x∈ins w n->x=(w,n,())/\n≠[0,0,0,0]:=fun h=>by grind[ins]
  simp only[ia]at h;split at h
  ·rcases List.mem_cons.1 h with rfl|h
   ·grind
   ·rcases uc h with h|h
    ·grind
    ·exact .inr h
  grind
theorem yn{w n:List Int}(hw:w.length=32):∀(R:List eZ),JH R->(∀x∈R,x.1.length=32)->JH (ia w n R)
 |[],_,_=>by
  simp only[ia,ins];split
  ·trivial
  ·exact⟨by simp,trivial⟩
 |a::R,hs,hl=>by
  have hr:=fun x hx=>hl x (mem_cons_of_mem a hx);simp only[ia];split
  ·rename_i hb;refine⟨fun x hx=>?_,yn hw R hs.2 hr⟩;rcases uc hx with h|⟨rfl,_⟩
   ·exact hs.1 x h
   ·exact hb
  ·rename_i hb;have hb:nk a.1 w=false:=by simpa using hb
   have hl8:=later w hs hb (by rw[hl a (by simp),hw]);unfold ins;split
   ·split
    ·exact hs.2
    ·exact⟨hl8,hs.2⟩
   ·rename_i hne;split
    ·exact hs
    ·refine⟨fun x hx=>?_,hs⟩;rcases List.mem_cons.1 hx with rfl|hx
     ·cases hc:nk w x.1 with
      |true=>rfl
      |false=>exact absurd (IP _ _ (by rw[hl x (by simp),hw]) hb hc) hne
     ·exact hl8 x hx
theorem Jn(w n:List Int)(R:List eZ):sm (ins w n++R)=val ah n+sm R:=by
 unfold ins;split
 ·rename_i h;rw[h,show val ah [0,0,0,0]=0 from rfl];simp
 ·rfl
theorem BU{w n:List Int}(hw:w.length=32):∀(R:List eZ),JH R->(∀x∈R,x.1.length=32)->sm (ia w n R)=sm R-val ah (jL w R)+val ah n
 |[],_,_=>by have:=Jn w n [];rw[List.append_nil]at this;simp only[ia,jL,this,sm,show val ah [0,0,0,0]=0 from rfl];omega
 |a::R,hs,hl=>by
  have ih:=BU (n:=n) hw R hs.2 fun x hx=>hl x (mem_cons_of_mem a hx);simp only[ia,jL];split
  ·rename_i hb;rw[if_neg (fun e=>by rw[e,qX]at hb;cases hb)];grind[sm]
  ·rename_i hb;have hb:nk a.1 w=false:=by simpa using hb
   split
   ·grind[Jn,sm]
   ·rw[Jn,wz w R (later w hs hb (by rw[hl a (by simp),hw])),show val ah [0,0,0,0]=0 from rfl];omega
theorem EX{w:List Int}:∀(R:List eZ),(∀x∈R,nN x)->0<=sm R/\0<=val ah (jL w R)/\val ah (jL w R)<=sm R
 |[],_=>⟨Int.le_refl _,Int.le_refl _,Int.le_refl _⟩
 |a::R,h=>by obtain⟨i1,i2,i3⟩:=EX (w:=w) R fun x hx=>h x (mem_cons_of_mem a hx);have:=(dA dO (h a (by simp)).2.2.1).1;grind[jL,sm]
theorem DB(c:ff)(hc:fB c){w n:List Int}(hw:w.length=32/\∀b∈w,0<=b/\b<=255)(hn:n.length=4/\aM ah n){r}(h:jv.run c w n=some r)(h0:r.2.1=0):iS r.1=true/\r.1.2.1.length<=40:=by
 unfold jv.run jv.top at h;rw[kF _ hc]at h;simp only[bind_some]at h;by_cases h40:c.2.1.length>40
 ·grind
 ·rw[if_neg h40]at h;by_cases hg:iS c=true
  ·rw[if_pos hg,if_neg (by decide)]at h;obtain⟨r1,o1,e1,_,n1,d1,v1,f1⟩:=tM hc.1 hn.1 hc.2.1 hn.2;rw[e1]at h;simp only[bind_some]at h;by_cases ho:o1=true
   ·grind
   ·rw[if_neg ho,nu _ hc (by omega) (mF hg) hw.1]at h;obtain⟨k1,k2⟩:=oT w c.2.1 hc.2.2;obtain⟨r2,o2,g1,_,n2,d2,v2,_⟩:=tM k1 hn.1 k2 hn.2;simp only[bind_some]at h;rw[g1]at h;simp only[bind_some]at h;rw[ng c hc (by omega) hw.1]at h;simp only[bind_some]at h;unfold lJ.run lJ.top at h;by_cases hb:(decide (((ia w r2 c.2.1).length:Int)>40))=true
    ·grind
    ·rw[if_neg hb]at h;cases h;have hs:=mF hg;have hl:∀x∈c.2.1,x.1.length=32:=fun x hx=>(hc.2.2 x hx).1;have hgi:=(iD c).1 hg;have ht:=B3 c.2.1 c.2.1 [] rfl;rw[length_nil,hgi.2]at ht;obtain⟨q1,q2,q3⟩:=EX (w:=w) c.2.1 hc.2.2;have hlt:val ah c.1+val ah n<aB:=by
      grind
     have hp:=(dA dO hn.2).1;rw[Int.emod_eq_of_lt (by omega) (by omega)]at v1 v2;have hnz:=xW c.2.1 c.2.1 [] rfl hgi.1;have hnz2:Nz (ia w r2 c.2.1):=fun x hx=>by
      rcases uc hx with h|⟨rfl,h⟩
      ·exact hnz x h
      ·exact h
     refine⟨(iD _).2 ⟨I3 _ hnz2 (yn hw.1 _ hs hl) _ [] rfl,?_⟩,by rw[decide_eq_true_eq]at hb;show(ia w r2 c.2.1).length<=40;omega⟩;have:=B3 (ia w r2 c.2.1) (ia w r2 c.2.1) [] rfl;grind[BU]
  grind
theorem xU(c:ff)(hc:fB c){v w n:List Int}(hv:v.length=32/\∀b∈v,0<=b/\b<=255)(hw:w.length=32/\∀b∈w,0<=b/\b<=255)(hn:n.length=4/\aM ah n){r}(h:jx.run c v w n=some r)(h0:r.2.1=0):iS r.1=true/\r.1.2.1.length<=40:=by
 obtain⟨b,e1,_,g1,_⟩:=tR c hc hv hn;unfold jx.run jx.top at h;rw[e1]at h;simp only[bind_some]at h;by_cases he:(b.2.1 !=0)=true
 ·grind
 ·rw[if_neg he]at h;grind[tY,DB]
end Go.Bx
