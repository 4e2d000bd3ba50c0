/- Laws about functions of plain data, in plain Lean. -/
import Derived.Test.YtbfaahaoefngoaaGreatDoorLawsWorldPosts0
import Derived.Test.YtbfaahaoefngoaaGreatDoorLawsWorldPosts5
import Derived.Test.YtbfaahaoefngoaaGreatDoorFnWorldPosts1
import Derived.Test.YtbfaahaoefngoaaGreatDoorLawsWorldPosts1
import Derived.Test.YtbfaahaoefngoaaGreatDoorLawsWorldPosts3
import Derived.Test.YtbfaahaoefngoaaGreatDoorLawsWorldPosts4
open Bool (and_eq_true false_eq_true or_eq_true)
open Int (le_refl tdiv tmod toNat)
open List (getElem_mem length_cons length_nil mem_append mem_cons_of_mem nil_append range' replicate replicate_succ take_of_length_le)
open Option (bind_some)
set_option maxRecDepth 100000
set_option linter.unusedVariables false
set_option linter.unusedSimpArgs false
namespace Go.Bx
open Go
theorem PC{b V k:Nat}(hb:b<256):(2^k*b)^^^(2^(k+8)*V)=2^k*(256*V+b):=by
 have h8:(256:Nat)=2^8:=by decide
 apply Nat.eq_of_testBit_eq;intro j;rw[Nat.testBit_xor,Nat.testBit_two_pow_mul,Nat.testBit_two_pow_mul,Nat.testBit_two_pow_mul,h8,Nat.testBit_two_pow_mul_add V (by rw[<-h8];exact hb)];by_cases h1:k<=j
 ·by_cases h2:k+8<=j
  ·have:¬(j-k<8):=by omega
   have hz:b.testBit (j-k)=false:=Nat.testBit_lt_two_pow (Nat.lt_of_lt_of_le hb (by rw[h8];exact Nat.pow_le_pow_right (by omega) (by omega)));simp[h1,h2,this,hz];congr 1
  ·have:j-k<8:=by omega
   simp[h1,h2,this]
 ·have h2:¬(k+8<=j):=by omega
  simp[h1,h2]
theorem Hz{b j:Nat}(hb:b<256)(hj:j<=7):fD .u64 (b:Int) ((8*j:Nat):Int)=((2^(8*j)*b:Nat):Int):=by
 unfold fD;have e:min ((8*j:Nat):Int).toNat IntKind.u64.bits=8*j:=by rw[Int.toNat_natCast];simp[IntKind.bits];omega
 rw[e];have:2^(8*j)*b<18446744073709551616:=by
  have h1:2^(8*j)<=2^56:=Nat.pow_le_pow_right (by omega) (by omega)
  calc 2^(8*j)*b<=2^56*255:=Nat.mul_le_mul h1 (by omega)
   _<18446744073709551616:=by decide
 rw[show(b:Int)*2^(8*j)=((2^(8*j)*b:Nat):Int) by rw[Nat.mul_comm (2^(8*j)) b];simp,lf this]
def HW:List Nat->Nat
 |[]=>0
 |b::l=>256*HW l+b
theorem IJ:∀(l:List Nat),(∀b∈l,b<256)->HW l<256^l.length
 |[],_=>by simp[HW]
 |b::l,h=>by have:=IJ l fun c hc=>h c (mem_cons_of_mem _ hc);have hb:=h b (by simp);simp only[HW,length_cons,Nat.pow_succ];omega
def CI(x:Int):List Nat->Nat->Int
 |[],_=>x
 |b::l,j=>CI (ag .u64 x (fD .u64 (b:Int) ((8*j:Nat):Int))) l (j+1)
theorem HR(assoc:∀x y z:Int,ag .u64 (ag .u64 x y) z=ag .u64 x (ag .u64 y z)):∀(b:Nat)(l:List Nat)(j:Nat)(x:Int),(∀c∈b::l,c<256)->j+(b::l).length<=8->
  CI x (b::l) j=ag .u64 x ((2^(8*j)*HW (b::l):Nat):Int)
 |b,[],j,x,h,hl=>by simp only[CI,HW,length_cons,length_nil]at hl⊢;rw[Hz (h b (by simp)) (by omega)];simp
 |b,c::l,j,x,h,hl=>by
  have ih:=HR assoc c l (j+1) (ag .u64 x (fD .u64 (b:Int) ((8*j:Nat):Int))) (fun d hd=>h d (mem_cons_of_mem _ hd)) (by simp at hl⊢;omega);rw[show CI x (b::c::l) j=CI (ag .u64 x (fD .u64 (b:Int) ((8*j:Nat):Int))) (c::l) (j+1) from rfl,ih,assoc];have hb:=h b (by simp);have hc:∀d∈c::l,d<256:=fun d hd=>h d (mem_cons_of_mem _ hd);simp only[length_cons]at hl;have hW:=IJ (c::l) hc;have p1:2^(8*j)*b<18446744073709551616:=by
   have h1:2^(8*j)<=2^56:=Nat.pow_le_pow_right (by omega) (by omega)
   calc 2^(8*j)*b<=2^56*255:=Nat.mul_le_mul h1 (by omega)
    _<18446744073709551616:=by decide
  have p2:2^(8*(j+1))*HW (c::l)<18446744073709551616:=by
   have e:(256:Nat)^(c::l).length=2^(8*(c::l).length):=by rw[show(256:Nat)=2^8 from rfl,<-Nat.pow_mul]
   rw[e]at hW
   calc 2^(8*(j+1))*HW (c::l)<2^(8*(j+1))*2^(8*(c::l).length):=Nat.mul_lt_mul_of_pos_left hW (Nat.two_pow_pos _)
    _=2^(8*(j+1)+8*(c::l).length):=by rw[Nat.pow_add]
    _<=2^64:=Nat.pow_le_pow_right (by omega) (by simp only[length_cons];omega)
    _=18446744073709551616:=by decide
  rw[Hz hb (by omega),MW p1 p2,show 8*(j+1)=8*j+8 by omega,PC hb];rfl
def od(l:List Int):Prop:=∀b∈l,0<=b/\b<256
theorem od.getD{l:List Int}(h:od l)(i:Nat):0<=l.getD i 0/\l.getD i 0<256:=by
 by_cases hi:i<l.length
 ·rw[List.getD_eq_getElem?_getD,List.getElem?_eq_getElem hi];exact h _ (getElem_mem hi)
 grind
def ur(b:List Int)(k:Nat):List Nat:=((b.drop (8*k)).take 8).map toNat
def UO(b:List Int)(a:List Int)(k:Nat):List Int:=a.set k (ag .u64 (a.getD k 0) ((HW (ur b k):Nat):Int))
def HE(b:List Int):Nat->Nat->List Int->List Int
 |0,_,a=>a
 |m+1,k,a=>HE b m (k+1) (UO b a k)
theorem E4(b a:List Int)(k:Nat):(UO b a k).length=a.length:=by simp[UO]
theorem Ed(b:List Int):∀m k a,(HE b m k a).length=a.length
 |0,_,a=>rfl
 |m+1,k,a=>(Ed b m (k+1) _).trans (E4 _ _ _)
theorem G8{b:List Int}(h:od b)(k:Nat):∀c∈ur b k,c<256:=by intro c hc;simp only[ur,List.mem_map]at hc;obtain⟨x,hx,rfl⟩:=hc;have:=h x (List.mem_of_mem_drop (List.mem_of_mem_take hx));omega
theorem Bm{b:List Int}(hb:b.length=136){k:Nat}(hk:k<17):(ur b k).length=8:=by grind[ur]
theorem zM{α:Type}{l:List α}{i:Nat}(h:i<l.length)(d:α):l.drop i=l.getD i d::l.drop (i+1):=by simp_all
theorem KF{α:Type}(Xt:(List Int×List Int×Int×Unit)->(List Int×List Int×Int×Unit)->Option α)(K:Nat)(b:List Int)(hb:b.length=136)(ho:od b)(r:List Int×Int×Unit)(c2:List Int×List Int×Int×Unit)(k:Nat)(hk:k<17):∀(m j n:Nat)(a:List Int),m+j=8->a.length=25->
  eW.l0 K Xt (n+m) b ((8*k+j:Nat):Int) (a,r) c2=eW.l0 K Xt n b ((8*k+8:Nat):Int) (a.set k (CI (a.getD k 0) (((b.drop (8*k+j)).take m).map toNat) j),r) c2
 |0,j,n,a,hj,ha=>by
  obtain rfl:j=8:=by omega
  simp only[List.take_zero,List.map_nil,CI];have:a.set k (a.getD k 0)=a:=by rw[List.getD_eq_getElem?_getD,List.getElem?_eq_getElem (by omega)];simp
  rw[this];rfl
 |m+1,j,n,a,hj,ha=>by
  have hg:=ho.getD (8*k+j);rw[show n+(m+1)=(n+m)+1 by omega];simp only[eW.l0,eW.aR];have e1:IntKind.i64.wrap (tdiv ((8*k+j:Nat):Int) 8)=(k:Int):=by have:=kH (x:=8*k+j) (c:=8) (by omega);grind
  have e2:tmod ((8*k+j:Nat):Int) 8=(j:Int):=by grind
  have e3:IntKind.i64.wrap (8*(j:Int))=((8*j:Nat):Int):=by grind[wrap_i64]
  rw[if_pos (dT (by omega)),if_pos (by omega),e1,e2,e3,if_pos (by omega),if_pos (by omega),if_pos (by omega),ax (by omega),ae,ae];rw[aY (x:=b.getD (8*k+j) 0) (by omega) (by omega)];refine(KF Xt K b hb ho r c2 k hk m (j+1) n _ (by omega) (by simp[ha])).trans ?_;grind[List.set_set,zM,CI]
theorem Ee{α:Type}(Xt:(List Int×List Int×Int×Unit)->(List Int×List Int×Int×Unit)->Option α)(K:Nat)(b:List Int)(hb:b.length=136)(ho:od b)(r:List Int×Int×Unit)(c2:List Int×List Int×Int×Unit):∀(m k n:Nat)(a:List Int),m+k=17->a.length=25->
  eW.l0 K Xt (n+1+8*m) b ((8*k:Nat):Int) (a,r) c2=Xt (HE b m k a,r) c2
 |0,k,n,a,hk,ha=>by
  obtain rfl:k=17:=by omega
  rfl
 |m+1,k,n,a,hk,ha=>by
  rw[show n+1+8*(m+1)=(n+1+8*m)+8 by omega];have h:=KF Xt K b hb ho r c2 k (by omega) 8 0 (n+1+8*m) a rfl ha;simp only[Nat.add_zero]at h;rw[h];have h8:=Bm hb (k:=k) (by omega);have hx:CI (a.getD k 0) (((b.drop (8*k)).take 8).map toNat) 0=ag .u64 (a.getD k 0) ((HW (ur b k):Nat):Int):=by
   show CI (a.getD k 0) (ur b k) 0=_;cases hc:ur b k with
   |nil=>rw[hc]at h8;simp at h8
   |cons c l=>rw[HR Aq c l 0 _ (by rw[<-hc];exact G8 ho k) (by rw[<-hc];omega)];simp
  rw[hx];exact Ee Xt K b hb ho r c2 m (k+1) n (UO b a k) (by omega) (by rw[E4];exact ha)
theorem KT{α:Type}(Xt:List Int->Int->Int->List Int->List Int->Option α)(K:Nat)(b:List Int)(hb:b.length=136)(ho:od b)(c2 c4:List Int)(k:Nat)(hk:k<17):∀(m n:Nat),m<n->m<=8->
  bj.l1 K Xt n b ((8*k:Nat):Int) ((HW ((ur b k).drop m):Nat):Int) ((m:Int)-1) c2 c4=Xt b ((8*k:Nat):Int) ((HW (ur b k):Nat):Int) c2 c4
 |m,0,h,_=>by omega
 |0,n+1,h,hm=>by rfl
 |m+1,n+1,h,hm=>by
  have h8:=Bm hb hk;have hg:=ho.getD (8*k+m);simp only[bj.l1,bj.ly];have e0:((m+1:Nat):Int)-1=(m:Int):=by omega
  have e1:IntKind.i64.wrap (((8*k:Nat):Int)+(m:Int))=((8*k+m:Nat):Int):=by grind[wrap_i64]
  rw[e0,if_pos (dT (by omega)),e1,if_pos (by omega),wrap_i64 (x:=(m:Int)-1) (by omega) (by omega),ae];have hl:=IJ ((ur b k).drop (m+1)) (fun c hc=>G8 ho k c (List.mem_of_mem_drop hc));rw[List.length_drop,h8]at hl;have hp:(256:Nat)^(8-(m+1))<=256^7:=Nat.pow_le_pow_right (by omega) (by omega);have hp7:(256:Nat)^7=72057594037927936:=by decide
  generalize hW:HW ((ur b k).drop (m+1))=W at*;rw[aY (x:=(W:Int)*256) (by omega) (by omega),aY (x:=b.getD (8*k+m) 0) (by omega) (by omega),aY (by omega) (by omega)];have e2:((W:Int)*256+b.getD (8*k+m) 0)=((HW ((ur b k).drop m):Nat):Int):=by rw[zM (l:=ur b k) (i:=m) (by omega) 0];grind[HW,ur]
  rw[e2];exact KT Xt K b hb ho c2 c4 k hk m n (by omega) (by omega)
theorem zm{α:Type}(Xt:List Int->List Int->Option α)(K:Nat)(hK:8<K)(b:List Int)(hb:b.length=136)(ho:od b)(c4:List Int):∀(m k n:Nat)(a:List Int),m<n->m+k=17->a.length=25->
  bj.l0 K Xt n b ((8*k:Nat):Int) a c4=Xt (HE b m k a) c4
 |m,k,0,a,h,_,_=>by omega
 |0,k,n+1,a,h,hk,ha=>by
  obtain rfl:k=17:=by omega
  rfl
 |m+1,k,n+1,a,h,hk,ha=>by
  simp only[bj.l0,bj.aR];rw[if_pos (dT (by omega))];have h8:=Bm hb (k:=k) (by omega);have hw:=KT (fun x1 x5 x6 c2 c4=>bj.j0 (bj.l0 K Xt n) x1 x5 x6 c2 c4) K b hb ho a c4 k (by omega) 8 K hK (by omega);have hz:HW ((ur b k).drop 8)=0:=by rw[List.drop_eq_nil_of_le (by omega)];rfl
  rw[hz,show((8:Nat):Int)-1=7 from rfl,show((0:Nat):Int)=0 from rfl]at hw;rw[hw];unfold bj.j0 bj.j1;have e1:IntKind.i64.wrap (tdiv ((8*k:Nat):Int) 8)=(k:Int):=by have:=kH (x:=8*k) (c:=8) (by omega);grind
  rw[e1,if_pos (by omega),if_pos (by omega),ae,wrap_i64 (x:=((8*k:Nat):Int)+8) (by omega) (by omega),show((8*k:Nat):Int)+8=((8*(k+1):Nat):Int) by omega];exact zm Xt K hK b hb ho c4 m (k+1) n (UO b a k) (by omega) (by omega) (by rw[E4];exact ha)
theorem Mh{a b:List Int}(ha:a.length=25)(hb:b.length=136)(ho:od b):∃r:List Int,r.length=25/\(∀N:Int,eW.run (a,b,N,())=some (r,replicate 136 0,0,()))/\bj.run a b=some r:=by
 obtain⟨r,h1,h2,h3⟩:=Mu (l:=HE b 17 0 a) (by rw[Ed];exact ha);refine⟨r,h1,fun N=>?_,?_⟩
 ·unfold eW.run eW.top;obtain⟨n,hn⟩:∃n,fuel=n+1+8*17:=⟨fuel-137,by rw[ai]⟩
  rw[hn];have:=Ee (fun c1 c2=>eW.j0 (fun c2=>some c2) c1 c2) (n+1+8*17) b hb ho (b,N,()) (replicate 25 0,replicate 136 0,0,()) 17 0 n a rfl ha;refine Eq.trans this ?_;grind[eW.j0]
 ·unfold bj.run bj.top;have:=zm (fun c2 c4=>bj.j2 (fun c4=>some c4) c2 c4) fuel (by rw[ai];omega) b hb ho (replicate 25 0) 17 0 fuel a (by rw[ai];omega) rfl ha;refine Eq.trans this ?_;grind[bj.j2]
abbrev PH:Type:=List Int×List Int×Int×Unit
def Cm(h:List Int)(N:Int):Bool:=!(decide (0<=N)&&decide (N<136)&&(h.drop N.toNat).all (fun x=>x==0))
theorem zn{α:Type}(Rt:Int->Option α)(Xt:Option α)(K:Nat)(a h:List Int)(N:Nat)(hN:N<136)(hh:h.length=136)(I:Int):∀(m j n:Nat),m<n->m+j=136-N->
  fb.l0 K Rt Xt n (N:Int) ((136-N:Nat):Int) (j:Int) (a,h,I,())=if(h.drop (N+j)).all (fun x=>x==0)=true then Xt else Rt 12
 |m,j,0,hm,_=>by omega
 |0,j,n+1,hm,hj=>by simp only[fb.l0,fb.aR];rw[if_neg (dF (by omega)),List.drop_eq_nil_of_le (by omega)];rfl
 |m+1,j,n+1,hm,hj=>by
  simp only[fb.l0,fb.aR];rw[if_pos (dT (by omega)),if_pos (by omega),show((N:Int)+(j:Int))=((N+j:Nat):Int) by omega,ae,ax (by omega),zM (l:=h) (i:=N+j) (by omega) 0,List.all_cons];by_cases hz:h.getD (N+j) 0=0
  ·rw[hz];simp only[bne_self_eq_false,false_eq_true,if_false,BEq.rfl,Bool.true_and];exact zn Rt Xt K a h N hN hh I m (j+1) n (by omega) (by omega)
  grind
theorem CT(a h:List Int)(N:Int)(hh:h.length=136):fb.run (a,h,N,())=some (if Cm h N=true then 12 else 0):=by
 unfold fb.run fb.top Cm;simp only[bS];by_cases h0:0<=N/\N<136
 ·obtain⟨M,rfl⟩:=Int.eq_ofNat_of_zero_le h0.1;have hM:M<136:=by omega
  rw[if_neg (by simp only[or_eq_true,decide_eq_true_eq];omega),if_pos (by omega)];have hl:((aA h (M:Int) 136).length:Int)=((136-M:Nat):Int):=by grind[nv]
  rw[hl];have:=zn (fun x2=>some x2) (fb.j0 fun x2=>some x2) fuel a h M hM hh (M:Int) (136-M) 0 fuel (by rw[ai];omega) rfl;rw[show((0:Nat):Int)=0 from rfl]at this;refine Eq.trans this ?_;rw[show decide (0<=(M:Int))=true by rw[decide_eq_true_eq];omega,show decide ((M:Int)<136)=true by rw[decide_eq_true_eq];omega,ae,Nat.add_zero];cases(h.drop M).all fun x=>x==0<;>rfl
 grind
theorem FP{α:Type}(Rt:Bool->Option α)(Xt:Option α)(K:Nat)(a h:List Int)(hh:h.length=136)(I:Int):∀(m j n:Nat),m<n->m+j=136->
  bR.l0 K Rt Xt n (j:Int) (a,h,I,())=if(h.drop j).all (fun x=>x==0)=true then Xt else Rt true
 |m,j,0,hm,_=>by omega
 |0,j,n+1,hm,hj=>by simp_all[bR.l0,bR.aR,List.drop_eq_nil_of_le]
 |m+1,j,n+1,hm,hj=>by
  simp only[bR.l0,bR.aR];rw[if_pos (dT (by omega)),if_pos (by omega),ae,ax (by omega),zM (l:=h) (i:=j) (by omega) 0,List.all_cons];by_cases hz:h.getD j 0=0
  ·rw[hz];simp only[bne_self_eq_false,false_eq_true,if_false,BEq.rfl,Bool.true_and];exact FP Rt Xt K a h hh I m (j+1) n (by omega) (by omega)
  grind
theorem JN(a h:List Int)(N:Int)(hh:h.length=136):bR.run (a,h,N,())=some (Cm h N):=by
 unfold bR.run bR.top Cm;simp only[bS];by_cases h0:0<=N/\N<136
 ·obtain⟨M,rfl⟩:=Int.eq_ofNat_of_zero_le h0.1;rw[if_neg (by simp only[or_eq_true,decide_eq_true_eq];omega)];have:=FP (fun x2=>some x2) (bR.j0 fun x2=>some x2) fuel a h hh (M:Int) (136-M) M fuel (by rw[ai];omega) (by omega);refine Eq.trans this ?_;rw[show decide (0<=(M:Int))=true by rw[decide_eq_true_eq];omega,show decide ((M:Int)<136)=true by rw[decide_eq_true_eq];omega,ae];cases(h.drop M).all fun x=>x==0<;>rfl
 grind
def zv(a b:List Int):List Int:=match bj.run a b with
 |some r=>r
 |none=>[]
theorem vW{a b:List Int}(ha:a.length=25)(hb:b.length=136)(ho:od b):(zv a b).length=25/\(∀N:Int,eW.run (a,b,N,())=some (zv a b,replicate 136 0,0,()))/\bj.run a b=some (zv a b):=by grind[zv,Mh]
def nQ:Nat->List Int->List Int->List Int×List Int
 |0,a,l=>(a,l)
 |n+1,a,l=>if 136<=l.length then nQ n (zv a (l.take 136)) (l.drop 136)else(a,l)
theorem yq:∀(n m:Nat)(a l:List Int),l.length<=n->l.length<=m->nQ n a l=nQ m a l
 |0,0,_,_,_,_=>rfl
 |0,m+1,a,l,h,_=>by rw[nQ,nQ,if_neg (by omega)]
 |n+1,0,a,l,_,h=>by rw[nQ,nQ,if_neg (by omega)]
 |n+1,m+1,a,l,h1,h2=>by
  rw[nQ,nQ];by_cases h:136<=l.length
  ·rw[if_pos h,if_pos h];exact yq n m _ _ (by simp;omega) (by simp;omega)
  grind
def ab(a l:List Int):List Int×List Int:=nQ l.length a l
theorem Af{a l:List Int}(h:l.length<136):ab a l=(a,l):=by
 unfold ab;cases hl:l.length with
 |zero=>rfl
 |succ n=>rw[nQ,if_neg (by omega)]
theorem H2{a l:List Int}(h:136<=l.length):ab a l=ab (zv a (l.take 136)) (l.drop 136):=by
 unfold ab;obtain⟨n,hn⟩:∃n,l.length=n+1:=⟨l.length-1,by omega⟩
 rw[hn,nQ,if_pos h];grind[yq]
theorem od.take{l:List Int}(h:od l)(n:Nat):od (l.take n):=fun b hb=>h b (List.mem_of_mem_take hb)
theorem od.drop{l:List Int}(h:od l)(n:Nat):od (l.drop n):=fun b hb=>h b (List.mem_of_mem_drop hb)
theorem od.append{l m:List Int}(h:od l)(g:od m):od (l++m):=fun b hb=>(List.mem_append.1 hb).elim (h b) (g b)
theorem od.RY(n:Nat):od (replicate n 0):=fun b hb=>by rw[List.eq_of_mem_replicate hb];decide
theorem MN:∀(n:Nat)(a l:List Int),l.length<=n->a.length=25->od l->(ab a l).1.length=25/\(ab a l).2.length<136/\od (ab a l).2
 |n,a,l,h,ha,ho=>by
  by_cases hl:136<=l.length
  ·rw[H2 hl]
   match n with
   |0=>omega
   |n+1=>exact MN n _ _ (by simp;omega) (vW ha (by simp;omega) (ho.take _)).1 (ho.drop _)
  grind[Af]
def sp(r:List Int×List Int):PH:=(r.1,r.2++replicate (136-r.2.length) 0,(r.2.length:Int),())
theorem Ah{α:Type}(Xt:PH->PH->Option α)(K:Nat)(l:List Int)(hl:l.length<=4611686018427387904)(z:PH):∀(R P:List Int)(n:Nat)(a p:List Int),R.length<n->l=P++R->od R->a.length=25->od p->p.length<136->
  gg.l0 K Xt n l (l.length:Int) (P.length:Int) (sp (a,p)) z=Xt (sp (ab a (p++R))) z
 |R,P,0,a,p,h,_,_,_,_,_=>by omega
 |[],P,n+1,a,p,h,hc,_,ha,hp,hpl=>by simp_all[gg.l0,gg.aR,Af]
 |c::R,P,n+1,a,p,h,hc,hoR,ha,hp,hpl=>by
  have hlen:l.length=P.length+(R.length+1):=by rw[hc];simp
  have hcR:=hoR c (by simp);simp only[sp];simp only[gg.l0,gg.aR,gg.j0];have hg:l.getD P.length 0=c:=by rw[hc];simp[List.getD]
  have hset:(p++replicate (136-p.length) 0).set p.length c=(p++[c])++replicate (136-(p++[c]).length) 0:=by rw[show 136-p.length=(136-(p++[c]).length)+1 by simp;omega,replicate_succ];grind
  rw[if_pos (dT (by omega)),if_pos (by omega),if_pos (by omega),ax (by omega),ax (by omega),ae,ae,hg,hset];have hpc:od (p++[c]):=hp.append fun b hb=>by simp only[List.mem_cons,List.not_mem_nil,or_false]at hb;subst hb;exact hcR
  have hlc:(p++[c]).length=p.length+1:=by simp
  have hP:((P.length+1:Nat):Int)=((P++[c]).length:Int):=by simp
  have happ:p++c::R=(p++[c])++R:=by simp
  by_cases hf:p.length+1=136
  ·rw[if_pos (by rw[beq_iff_eq];omega),hlc,show 136-(p.length+1)=0 by omega,List.replicate_zero,List.append_nil];obtain⟨b1,b2,b3⟩:=vW ha (b:=p++[c]) (by omega) hpc;rw[b2,bind_some,hP];have ih:=Ah Xt K l hl z R (P++[c]) n (zv a (p++[c])) [] (by simp at h;omega) (by simp[hc]) (fun b hb=>hoR b (mem_cons_of_mem _ hb)) b1 (fun b hb=>by cases hb) (by simp);simp only[sp,nil_append,length_nil,Nat.sub_zero]at ih;grind[H2]
  ·rw[if_neg (by rw[beq_iff_eq];omega),hP,show((p.length+1:Nat):Int)=((p++[c]).length:Int) by rw[hlc]];have ih:=Ah Xt K l hl z R (P++[c]) n a (p++[c]) (by simp at h;omega) (by simp[hc]) (fun b hb=>hoR b (mem_cons_of_mem _ hb)) ha hpc (by omega);grind[sp]
theorem HB{α:Type}(Xt:List Int->PH->List Int->Option α)(K:Nat)(z:PH):∀(n:Nat)(l a:List Int),l.length<n->l.length<=9223372036854775807->od l->a.length=25->
  bQ.l0 K Xt n l z a=Xt (ab a l).2 z (ab a l).1
 |0,l,a,h,_,_,_=>by omega
 |n+1,l,a,h,hb,ho,ha=>by
  simp only[bQ.l0,bQ.aR];by_cases hl:136<=l.length
  ·have hc1:aA l 0 136=l.take 136:=by simp[aA]
   have hc2:aA l 136 (l.length:Int)=l.drop 136:=by grind[take_of_length_le,aA]
   obtain⟨b1,b2,b3⟩:=vW ha (b:=l.take 136) (by simp;omega) (ho.take _);rw[if_pos (dT (by omega)),if_pos (by omega),hc1,b3,bind_some,if_pos (by omega),hc2,H2 hl];exact HB Xt K z n _ _ (by simp;omega) (by simp;omega) (ho.drop _) b1
  ·rw[if_neg (dF (by omega)),Af (by omega)]
theorem He{α:Type}(Xt:PH->PH->Option α)(K:Nat)(z:PH)(a l:List Int)(hl:l.length<=136):∀(R P:List Int)(n:Nat),R.length<n->l=P++R->
  bQ.l1 K Xt n l (P.length:Int) z (a,P++replicate (136-P.length) 0,(l.length:Int),())=Xt z (a,l++replicate (136-l.length) 0,(l.length:Int),())
 |R,P,0,h,_=>by omega
 |[],P,n+1,h,hc=>by simp_all[bQ.l1,bQ.ly]
 |c::R,P,n+1,h,hc=>by
  have hlen:l.length=P.length+(R.length+1):=by rw[hc];simp
  simp only[bQ.l1,bQ.ly];have hg:l.getD P.length 0=c:=by rw[hc];simp[List.getD]
  have hset:(P++replicate (136-P.length) 0).set P.length c=(P++[c])++replicate (136-(P++[c]).length) 0:=by rw[show 136-P.length=(136-(P++[c]).length)+1 by simp;omega,replicate_succ];grind
  rw[if_pos (dT (by omega)),if_pos (by omega),if_pos (by omega),ax (by omega),ae,hg,hset];have ih:=He Xt K z a l hl R (P++[c]) n (by simpa using h) (by simp[hc]);rw[<-ih];simp
theorem added{a h b:List Int}{N:Int}(ha:a.length=25)(hh:h.length=136)(hoh:od h)(hob:od b)(hbl:b.length<=4611686018427387904):
  (Cm h N=true->gg.run (a,h,N,()) b=some ((replicate 25 0,replicate 136 0,0,()),12,())/\bQ.run (a,h,N,()) b=some ((replicate 25 0,replicate 136 0,0,()),12,()))/\
  (∀p:List Int,p.length<136->N=(p.length:Int)->h=p++replicate (136-p.length) 0->Cm h N=false->gg.run (a,h,N,()) b=some (sp (ab a (p++b)),0,())/\bQ.run (a,h,N,()) b=some (sp (ab a (p++b)),0,())):=by
 unfold gg.run gg.top bQ.run bQ.top;rw[CT a h N hh,JN a h N hh];simp only[bind_some];constructor
 ·intro hb;rw[hb];exact⟨rfl,rfl⟩
 ·intro p hp hN hhp hb;rw[hb];simp only[false_eq_true,if_false,bne_self_eq_false];subst hhp;have hop:od p:=fun x hx=>hoh x (List.mem_append_left _ hx);constructor
  ·have:=Ah (fun c2 c4=>gg.j1 (fun x5 c4=>some (c4,x5,())) c2 c4) fuel b hbl (replicate 25 0,replicate 136 0,0,()) b [] fuel a p (by rw[ai];omega) rfl hob ha hop hp;simp only[sp,length_nil]at this;rw[show((0:Nat):Int)=0 from rfl]at this;rw[hN,this];rfl
  ·have hc1:aA (aA (p++replicate (136-p.length) 0) 0 136) 0 (p.length:Int)=p:=by
    have:aA (p++replicate (136-p.length) (0:Int)) 0 136=p++replicate (136-p.length) 0:=by grind[aA]
    rw[this];simp[aA]
   have hc2:(aA (p++replicate (136-p.length) 0) 0 136).length=136:=by grind[nv]
   simp only[hN];rw[hc2,hc1,if_pos (by omega),if_pos (Nat.ble_eq_true_of_le (by omega))];have hol:=hop.append hob;rw[HB _ _ _ fuel (p++b) a (by rw[ai];simp;omega) (by simp;omega) hol ha];obtain⟨k1,k2,k3⟩:=MN _ a (p++b) (Nat.le_refl _) ha hol;unfold bQ.j0;have:=He (fun c4 c9=>bQ.j1 (fun x5 c4=>some (c4,x5,())) c4 c9) fuel (replicate 25 0,replicate 136 0,0,()) (ab a (p++b)).1 (ab a (p++b)).2 (by omega) (ab a (p++b)).2 [] fuel (by rw[ai];omega) rfl;simp only[nil_append,length_nil,Nat.sub_zero]at this;rw[show((0:Nat):Int)=0 from rfl]at this;rw[this];rfl
def Po(a:List Int)(i:Nat):Int:=IntKind.u8.wrap (fS .u64 (a.getD (i/8) 0) ((8*(i%8):Nat):Int))
def vK(a:List Int):List Int:=(List.range 32).map (Po a)
theorem tz(a:List Int):(vK a).length=32:=by simp[vK]
theorem Pp(a:List Int):od (vK a):=by intro b hb;grind[vK,IntKind.wrap,IntKind.signed,IntKind.bits,Po]
theorem HH(a:List Int){i m:Nat}(h:m+1+i=32):((vK a).take i++replicate (m+1) 0).set i (Po a i)=(vK a).take (i+1)++replicate m 0:=by
 have hl:((vK a).take i).length=i:=by rw[List.length_take,tz];omega
 rw[replicate_succ,List.take_add_one,List.getElem?_eq_getElem (by rw[tz];omega)];rw[List.set_append_right _ _ (by omega),hl,Nat.sub_self];grind[vK]
theorem F6{α:Type}(Xt:List Int->List Int->Option α)(K:Nat)(s:PH)(z:List Int):∀(m i n:Nat),m<n->m+i=32->
  gL.l0 K Xt n (i:Int) s z ((vK s.1).take i++replicate m 0)=Xt z (vK s.1)
 |m,i,0,h,_=>by omega
 |0,i,n+1,h,hi=>by simp only[gL.l0,gL.aR];rw[if_neg (dF (by omega)),List.replicate_zero,List.append_nil,take_of_length_le (by rw[tz];omega)]
 |m+1,i,n+1,h,hi=>by
  simp only[gL.l0,gL.aR];have e1:IntKind.i64.wrap (tdiv (i:Int) 8)=((i/8:Nat):Int):=kH (x:=i) (c:=8) (by omega);have e2:tmod (i:Int) 8=((i%8:Nat):Int):=mH i 8;have e3:IntKind.i64.wrap (8*((i%8:Nat):Int))=((8*(i%8):Nat):Int):=by rw[wrap_i64 (by omega) (by omega)];omega
  rw[e1,e2,e3,if_pos (dT (by omega)),if_pos (by omega),if_pos (by omega),if_pos (by omega),ax (by omega),ae,ae];have:=HH s.1 (i:=i) (m:=m) hi;unfold Po at this;rw[this];exact F6 Xt K s z m (i+1) n (by omega) (by omega)
theorem B8{α:Type}(Xt:List Int->List Int->Option α)(K:Nat)(a z:List Int):∀(m i n:Nat),m<n->m+i=32->
  dv.l0 K Xt n (i:Int) z a ((vK a).take i++replicate m 0)=Xt z (vK a)
 |m,i,0,h,_=>by omega
 |0,i,n+1,h,hi=>by simp only[dv.l0,dv.aR];rw[if_neg (dF (by omega)),List.replicate_zero,List.append_nil,take_of_length_le (by rw[tz];omega)]
 |m+1,i,n+1,h,hi=>by
  simp only[dv.l0,dv.aR];have e1:IntKind.i64.wrap (tdiv (i:Int) 8)=((i/8:Nat):Int):=kH (x:=i) (c:=8) (by omega);have e2:tmod (i:Int) 8=((i%8:Nat):Int):=mH i 8;have e3:IntKind.i64.wrap (((i%8:Nat):Int)*8)=((8*(i%8):Nat):Int):=by rw[wrap_i64 (by omega) (by omega)];omega
  rw[e1,e2,e3,if_pos (dT (by omega)),if_pos (by omega),if_pos (by omega),if_pos (by omega),ax (by omega),ae,ae];have:=HH a (i:=i) (m:=m) hi;unfold Po at this;rw[this];exact B8 Xt K a z m (i+1) n (by omega) (by omega)
def Hg(p:List Int):List Int:=p++1::replicate (135-p.length) 0
def Bu(p:List Int):List Int:=(Hg p).set 135 (if p.length=135 then 129 else 128)
theorem OV{p:List Int}(h:p.length<136):(Hg p).length=136:=by simp[Hg];omega
theorem Hf{p:List Int}(h:p.length<136):(Bu p).length=136:=by simp[Bu,OV h]
theorem OU{p:List Int}(h:od p):od (Bu p):=by
 intro b hb;rcases List.mem_or_eq_of_mem_set hb with hb|hb
 ·rcases List.mem_append.1 hb with hb|hb
  ·exact h b hb
  grind
 omega
theorem QJ{p:List Int}(h:p.length<136):(p++replicate (136-p.length) 0).set p.length 1=Hg p:=by rw[show 136-p.length=(135-p.length)+1 by omega,replicate_succ];simp[Hg]
theorem OW{p:List Int}(h:p.length<136):(Hg p).getD 135 0=if p.length=135 then 1 else 0:=by unfold Hg;grind
theorem ended{a h:List Int}{N:Int}(ha:a.length=25)(hh:h.length=136)(hoh:od h):
  (Cm h N=true->gL.run (a,h,N,())=some (replicate 32 0,12,())/\dv.run (a,h,N,())=some (replicate 32 0,12,()))/\
  (∀p:List Int,p.length<136->N=(p.length:Int)->h=p++replicate (136-p.length) 0->Cm h N=false->gL.run (a,h,N,())=some (vK (zv a (Bu p)),0,())/\dv.run (a,h,N,())=some (vK (zv a (Bu p)),0,())):=by
 unfold gL.run gL.top dv.run dv.top;rw[CT a h N hh,JN a h N hh];simp only[bind_some];constructor
 ·intro hb;rw[hb];exact⟨rfl,rfl⟩
 ·intro p hp hN hhp hb;rw[hb];simp only[false_eq_true,if_false,bne_self_eq_false];subst hhp;have hop:od p:=fun x hx=>hoh x (List.mem_append_left _ hx);obtain⟨b1,b2,b3⟩:=vW ha (Hf hp) (OU hop);have hz:(p++replicate (136-p.length) 0).getD p.length 0=0:=by
   grind
  simp only[hN,ae];rw[hz,show ag .u8 0 1=1 by decide,QJ hp,if_pos (by omega),if_pos (by omega),if_pos (by omega),OW hp];have v1:jP .u8 (if p.length=135 then 1 else 0) 128=if p.length=135 then 129 else 128:=by split<;>decide
  have v2:ag .u8 (if p.length=135 then 1 else 0) 128=if p.length=135 then 129 else 128:=by split<;>decide
  rw[v1,v2];have hc:aA (Bu p) 0 136=Bu p:=by unfold aA;rw[show toNat 0=0 from rfl,List.drop_zero,take_of_length_le (by rw[Hf hp];decide)]
  rw[show(Hg p).set 135 (if p.length=135 then 129 else 128)=Bu p from rfl,hc,b3,b2];simp only[bind_some];have w1:=F6 (fun c2 c5=>gL.j0 (fun x3 c2=>some (c2,x3,())) c2 c5) fuel (zv a (Bu p),replicate 136 0,0,()) (replicate 32 0) 32 0 fuel (by rw[ai];omega) rfl;have w2:=B8 (fun c2 c6=>dv.j0 (fun x3 c2=>some (c2,x3,())) c2 c6) fuel (zv a (Bu p)) (replicate 32 0) 32 0 fuel (by rw[ai];omega) rfl;simp only[List.take_zero,nil_append]at w1 w2;rw[show((0:Nat):Int)=0 from rfl]at w1 w2;rw[w1,w2];exact⟨rfl,rfl⟩
def Qm(b:List Int):List Int:=vK (zv (ab (replicate 25 0) b).1 (Bu (ab (replicate 25 0) b).2))
theorem zT(b:List Int):(Qm b).length=32:=tz _
theorem Ka(b:List Int):od (Qm b):=Pp _
theorem JM{r:List Int×List Int}(h:r.2.length<136):Cm (r.2++replicate (136-r.2.length) 0) (r.2.length:Int)=false:=by unfold Cm;rw[ae,List.drop_append_of_le_length (Nat.le_refl _),List.drop_length,nil_append];grind
theorem BZ{b:List Int}(ho:od b)(hb:b.length<=4611686018427387904):jR.run b=some (Qm b)/\fJ.run b=some (Qm b):=by
 obtain⟨_,k2⟩:=added (a:=replicate 25 0) (h:=replicate 136 0) (N:=0) (by simp) (by simp) (od.RY _) ho hb;obtain⟨m1,m2⟩:=k2 [] (by simp) rfl rfl (JM (r:=([],[])) (by simp));rw[nil_append]at m1 m2;obtain⟨z1,z2,z3⟩:=MN _ (replicate 25 0) b (Nat.le_refl _) (by simp) ho;obtain⟨_,n2⟩:=ended (a:=(ab (replicate 25 0) b).1) (h:=(ab (replicate 25 0) b).2++replicate (136-(ab (replicate 25 0) b).2.length) 0) (N:=((ab (replicate 25 0) b).2.length:Int)) z1 (by rw[List.length_append,List.length_replicate];omega) (z3.append (od.RY _));obtain⟨q1,q2⟩:=n2 _ z2 rfl rfl (JM z2);constructor
 ·unfold jR.run jR.top mC.run mC.top;rw[bind_some,m1,bind_some];unfold sp;simp only[];rw[q1];rfl
 ·unfold fJ.run fJ.top;rw[m2,bind_some];unfold sp;simp only[];rw[q2];rfl
def keyOf(x y:List Int):List Int:=(Qm (CH x++CH y)).drop 12
theorem KO(l:List Int):od (CH l):=Rb l
theorem Nt(h:List Int)(hh:h.length=32){i m:Nat}(hi:m+1+i=20):((h.drop 12).take i++replicate (m+1) 0).set i (h.getD (12+i) 0)=(h.drop 12).take (i+1)++replicate m 0:=by
 have hl:((h.drop 12).take i).length=i:=by rw[List.length_take,List.length_drop];omega
 have hd:(h.drop 12).length=20:=by rw[List.length_drop];omega
 rw[replicate_succ,List.take_add_one,List.getElem?_eq_getElem (by omega)];rw[List.set_append_right _ _ (by omega),hl,Nat.sub_self];grind
theorem A3{α:Type}(Xt:List Int->List Int->Option α)(K:Nat)(h z:List Int)(hh:h.length=32):∀(m i n:Nat),m<n->m+i=20->
  cT.l0 K Xt n (i:Int) z h ((h.drop 12).take i++replicate m 0)=Xt z (h.drop 12)
 |m,i,0,hm,_=>by omega
 |0,i,n+1,hm,hi=>by simp_all[cT.l0,cT.aR,take_of_length_le]
 |m+1,i,n+1,hm,hi=>by
  simp only[cT.l0,cT.aR];have e1:IntKind.i64.wrap (12+(i:Int))=((12+i:Nat):Int):=by rw[wrap_i64 (by omega) (by omega)];omega
  rw[e1,if_pos (dT (by omega)),if_pos (by omega),if_pos (by omega),ax (by omega),ae,ae,Nt h hh hi];exact A3 Xt K h z hh m (i+1) n (by omega) (by omega)
theorem Gy{x y:List Int}(f:Bool)(hx:x.length=4)(hy:y.length=4):kL.run (x,y,f,())=some (keyOf x y)/\cT.run (x,y,f,())=some (keyOf x y):=by
 obtain⟨s1,s2⟩:=BZ (b:=CH x++CH y) ((KO x).append (KO y)) (by rw[List.length_append,gW,gW];omega);have hk:=zT (CH x++CH y);constructor
 ·unfold kL.run kL.top;rw[nn x hx,bind_some,nn y hy,bind_some,g9 (CH x) 32 (by rw[gW];rfl),g9 (CH y) 32 (by rw[gW];rfl),gW,gW,if_pos ⟨rfl,by decide⟩,s1,bind_some];rfl
 ·unfold cT.run cT.top;rw[yk,bind_some,yk,bind_some,gW,gW,if_pos (by decide),s2,bind_some];have:=A3 (fun c2 c4=>cT.j0 (fun c2=>some c2) c2 c4) fuel (Qm (CH x++CH y)) (replicate 20 0) hk 20 0 fuel (by rw[ai];omega) rfl;simp only[List.take_zero,nil_append]at this;rw[show((0:Nat):Int)=0 from rfl]at this;rw[this];rfl
theorem yR{α:Type}(Xt:Int->Option α)(K:Nat)(x:Nat)(hx:x<=19):∀(m j n:Nat),m<n->m+j=2*x/3+1->
  dU.l0 K Xt n (x:Int) (j:Int)=Xt ((2*x/3+1:Nat):Int)
 |m,j,0,hm,_=>by omega
 |0,j,n+1,hm,hj=>by simp only[dU.l0,dU.aR];rw[wrap_i64 (x:=3*(j:Int)) (by omega) (by omega),wrap_i64 (x:=2*(x:Int)) (by omega) (by omega),if_neg (dF (by omega))];congr 1;omega
 |m+1,j,n+1,hm,hj=>by simp only[dU.l0,dU.aR];rw[wrap_i64 (x:=3*(j:Int)) (by omega) (by omega),wrap_i64 (x:=2*(x:Int)) (by omega) (by omega),if_pos (dT (by omega)),ax (by omega)];exact yR Xt K x hx m (j+1) n (by omega) (by omega)
theorem L0{x:Nat}(hx:x<=19):l8.run (x:Int)=some (((2*x/3+1:Nat):Int),0,())/\dU.run (x:Int)=some (((2*x/3+1:Nat):Int),0,()):=by
 constructor
 ·unfold l8.run l8.top;have e1:IntKind.i64.wrap (2*(x:Int))=((2*x:Nat):Int):=by rw[wrap_i64 (by omega) (by omega)];omega
  have e2:IntKind.i64.wrap (tdiv ((2*x:Nat):Int) 3)=((2*x/3:Nat):Int):=kH (x:=2*x) (c:=3) (by omega);rw[bS,if_neg (by simp only[or_eq_true,decide_eq_true_eq];omega),e1,e2,ax (by omega)]
 ·unfold dU.run dU.top;rw[bS,if_neg (by simp only[or_eq_true,decide_eq_true_eq];omega)];exact yR _ _ x hx (2*x/3+1) 0 fuel (by rw[ai];omega) rfl
end Go.Bx
namespace Go.Bx
open Go Go.Bx.Rg
abbrev PS:Type:=Int×(List Int×List Int×Int×Unit)×Unit
abbrev Vh:PS:=(0,([0,0,0,0],[0,0,0,0],0,()),())
def HZ(s:List Int×List Int×Int×Unit):Prop:=W4 s.1/\W4 s.2.1
theorem Q0(s:List Int×List Int×Int×Unit)(h:HZ s):∃R S o,s=(mk R,mk S,o,())/\(0<=R/\R<aB)/\(0<=S/\S<aB):=by obtain⟨a,b,o,u⟩:=s;obtain⟨w1,w2⟩:=h;exact⟨_,_,o,by rw[<-o6 w1,<-o6 w2],w1.bound,w2.bound⟩
theorem Lm{α:Type}(P:List α)(s d:α)(R:List α):(P++[s]++R).getD P.length d=s:=by simp[List.getD]
theorem ze{P A B N x y:Int}{f:Bool}(b1:0<=P/\P<aB)(b2:0<=A/\A<aB)(b3:0<=B/\B<aB)(b4:0<=N/\N<aB)(b5:0<=x/\x<aB)(b6:0<=y/\y<aB){h:List Int}(hh:h.length=32)(ho:od h)(K:Nat)(S:_)
  (l:List PS) (hl:l.length<=9223372036854775807) (hf:∀s∈l,HZ s.2.1):∀(R Q:List PS)(n:Nat)(last:Int),R.length<n->l=Q++R->(Q=[]->last=-1)->(∀Q' s,Q=Q'++[s]->last=s.1)->
  ∃e,fM.l0 K (fun x8=>some x8) (fM.j0 (fun x8=>some x8)) n (S.2.1.length:Int) last l (l.length:Int) (Q.length:Int) (mk P,mk A,mk B,mk N,(mk x,mk y,f,()),()) S h=some e/\
   ca.l0 K (fun x8=>some x8) (ca.j0 (fun x8=>some x8)) n l l (l.length:Int) (Q.length:Int) (mk P,mk A,mk B,mk N,(mk x,mk y,f,()),()) S h=some e
 |R,Q,0,last,hn,_,_,_=>by omega
 |[],Q,n+1,last,hn,hc,_,_=>by
  simp only[fM.l0,fM.aR,ca.l0,ca.aR];have:l.length=Q.length:=by rw[hc];simp
  rw[if_neg (dF (by omega)),if_neg (dF (by omega))];exact⟨_,rfl,rfl⟩
 |s::R,Q,n+1,last,hn,hc,h1,h2=>by
  have hlen:l.length=Q.length+(R.length+1):=by rw[hc];simp
  have hg:l.getD Q.length Vh=s:=by rw[hc];exact dk _ _ _ _
  simp only[fM.l0,fM.aR,ca.l0,ca.aR];have c1:decide ((Q.length:Int)<(l.length:Int))=true:=by rw[decide_eq_true_eq];omega
  have c2:0<=(Q.length:Int)/\(Q.length:Int)<(l.length:Int):=by omega
  rw[if_pos c1,if_pos c2,if_pos c1,if_pos c2,ae,hg];simp only[bS];by_cases hw:0<=s.1/\s.1<(S.2.1.length:Int)
  ·rw[if_neg (show¬(decide (s.1<0)||decide (s.1>=(S.2.1.length:Int)))=true by simp only[or_eq_true,decide_eq_true_eq];omega),if_neg (show¬(decide (s.1<0)||decide (s.1>=(S.2.1.length:Int)))=true by simp only[or_eq_true,decide_eq_true_eq];omega)];have hlast:(cond (decide ((Q.length:Int)>0)) (decide (s.1<=(l.getD (toNat (IntKind.i64.wrap ((Q.length:Int)-1))) Vh).1)) false)=decide (s.1<=last):=by
    rcases List.eq_nil_or_concat Q with rfl|⟨Q',t,rfl⟩
    ·grind
    ·rw[List.concat_eq_append]at hc h2 hlen⊢;have hq:(Q'++[t]).length=Q'.length+1:=by simp
     rw[h2 Q' t rfl,hq,show decide (((Q'.length+1:Nat):Int)>0)=true by rw[decide_eq_true_eq];omega,cond_true,wrap_i64 (by omega) (by omega)];rw[show toNat (((Q'.length+1:Nat):Int)-1)=Q'.length by omega,hc,Lm]
   have hin:(decide (0<=IntKind.i64.wrap ((Q.length:Int)-1)/\IntKind.i64.wrap ((Q.length:Int)-1)<(l.length:Int))|| !((decide ((Q.length:Int)>0))==true))=true:=by rw[wrap_i64 (by omega) (by omega)];grind
   rw[hin,hlast,cond_true];by_cases hle:s.1<=last
   ·simp_all
   ·rw[if_neg (by simpa using hle),if_neg (by simpa using hle)];obtain⟨Rn,Sn,o,hsg,hR,hS⟩:=Q0 s.2.1 (hf s (by rw[hc];simp));obtain⟨q,e,r1,r2,r3⟩:=Fi (f:=f) (o:=o) b1 b2 b3 b4 b5 b6 hR hS hh ho;rw[hsg,r1,r2];simp only[bind_some];by_cases he:e=0
    ·subst he;obtain⟨k1,k2⟩:=Gy q.2.2.1 r3.1.1 r3.2.1;rw[show(q.1,q.2.1,q.2.2.1,())=q from rfl]at k1 k2;simp only[bne_self_eq_false,false_eq_true,if_false];rw[k1,k2];simp only[bind_some];rw[if_pos hw,if_pos hw];cases hk:(not (az (.arr 20 (.int .u8)) (keyOf q.1 q.2.1) (List.getD S.2.1 (toNat s.1) (replicate 20 0))))with
     |true=>exact⟨_,rfl,rfl⟩
     |false=>
      simp only[false_eq_true,if_false];rw[ax (by omega)];have ih:=ze (f:=f) b1 b2 b3 b4 b5 b6 hh ho K S l hl hf R (Q++[s]) n s.1 (by simpa using hn) (by simp[hc]) (fun h=>by simp at h) (fun Q' t ht=>by
       have:=List.append_inj_right' ht rfl;simp at this;rw[this])
      rw[List.length_append]at ih;exact ih
    simp_all
  ·rw[if_pos (show(decide (s.1<0)||decide (s.1>=(S.2.1.length:Int)))=true by simp only[or_eq_true,decide_eq_true_eq];omega),if_pos (show(decide (s.1<0)||decide (s.1>=(S.2.1.length:Int)))=true by simp only[or_eq_true,decide_eq_true_eq];omega)];grind
theorem Ho{P A B N x y:Int}{f:Bool}(b1:0<=P/\P<aB)(b2:0<=A/\A<aB)(b3:0<=B/\B<aB)(b4:0<=N/\N<aB)(b5:0<=x/\x<aB)(b6:0<=y/\y<aB){hs:List Int}(hh:hs.length=32)(ho:od hs)(S:_)
  (l:List PS) (hl:l.length<=9223372036854775807) (hf:∀s∈l,HZ s.2.1):∃e,fM.run (mk P,mk A,mk B,mk N,(mk x,mk y,f,()),()) S hs l=some e/\ca.run (mk P,mk A,mk B,mk N,(mk x,mk y,f,()),()) S hs l=some e:=by
 obtain⟨e1,e2⟩:=lK f b1 b2 b3 b4 b5 b6;unfold fM.run fM.top ca.run ca.top;rw[e1,e2];simp only[bind_some,bS];rcases tU P A B N x y f with h0|h0
 ·rw[h0];simp only[bne_self_eq_false,false_eq_true,if_false];by_cases hk:1<=S.2.1.length/\S.2.1.length<=19
  ·obtain⟨n1,n2⟩:=L0 hk.2;rw[if_neg (show¬(decide ((S.2.1.length:Int)<1)||decide ((S.2.1.length:Int)>19))=true by simp only[or_eq_true,decide_eq_true_eq];omega),if_neg (show¬(((S.2.1.length:Int)==0)||decide ((S.2.1.length:Int)>19))=true by simp only[or_eq_true,beq_iff_eq,decide_eq_true_eq];omega),n1,n2];simp only[bind_some];by_cases hx:(l.length:Int)<((2*S.2.1.length/3+1:Nat):Int)
   ·rw[if_pos (by simpa using hx),if_pos (by simpa using hx)];exact⟨_,rfl,rfl⟩
   ·rw[if_neg (by simpa using hx),if_neg (by simpa using hx)];exact ze b1 b2 b3 b4 b5 b6 hh ho fuel S l hl hf l [] fuel (-1) (by rw[ai];omega) rfl (fun _=>rfl) (fun Q' s h=>by simp at h)
  ·rw[if_pos (show(decide ((S.2.1.length:Int)<1)||decide ((S.2.1.length:Int)>19))=true by simp only[or_eq_true,decide_eq_true_eq];omega),if_pos (show(((S.2.1.length:Int)==0)||decide ((S.2.1.length:Int)>19))=true by simp only[or_eq_true,beq_iff_eq,decide_eq_true_eq];omega)];exact⟨_,rfl,rfl⟩
 ·rw[h0];exact⟨_,rfl,rfl⟩
end Go.Bx
namespace Go.Bx
open Go
theorem DN{α:Type}(Xt:List Int->Option α)(K:Nat)(x:Int):∀(m n:Nat)(c:List Int),m<n->m<=8->c.length+m<=1000000->
  bp.l0 K Xt n x ((m:Int)-1) c=Xt (c++be x m)
 |m,0,c,h,_,_=>by omega
 |0,n+1,c,h,hm,hb=>by simp_all[bp.l0,bp.aR,be]
 |m+1,n+1,c,h,hm,hb=>by
  simp only[bp.l0,bp.aR];have e1:((m+1:Nat):Int)-1=(m:Int):=by omega
  rw[e1,if_pos (dT (by omega)),wrap_i64 (x:=8*(m:Int)) (by omega) (by omega),if_pos (by omega),if_pos (aK (by omega) (by omega)),wrap_i64 (x:=(m:Int)-1) (by omega) (by omega)];have e2:IntKind.u8.wrap (fS .i64 x (8*(m:Int)))=v8 x (8*m):=by have:=ru .i64 x (8*m) (by simp[IntKind.bits];omega);grind
  rw[e2];refine(DN Xt K x m n _ (by omega) (by omega) (by simp;omega)).trans ?_;simp[be]
theorem wO(x:Int)(m:Nat)(c:List Int)(hm:m<=8)(hb:c.length<=999900):bp.run x (m:Int) c=some (c++be x m,()):=by unfold bp.run bp.top;grind[wrap_i64,ai,DN]
theorem DM{α:Type}(Xt:List Int->Option α)(K:Nat)(x:Int):∀(m n:Nat)(c:List Int),m<n->m<=8->c.length+m<=1000000->
  cD.l0 K Xt n x ((m:Int)-1) c=Xt (c++be x m)
 |m,0,c,h,_,_=>by omega
 |0,n+1,c,h,hm,hb=>by simp_all[cD.l0,cD.aR,be]
 |m+1,n+1,c,h,hm,hb=>by
  simp only[cD.l0,cD.aR];have e1:((m+1:Nat):Int)-1=(m:Int):=by omega
  rw[e1,if_pos (dT (by omega)),wrap_i64 (x:=8*(m:Int)) (by omega) (by omega),if_pos (by omega),if_pos (aK (by omega) (by omega)),wrap_i64 (x:=(m:Int)-1) (by omega) (by omega)];have e2:IntKind.u8.wrap (fS .i64 x (8*(m:Int)))=v8 x (8*m):=by have:=ru .i64 x (8*m) (by simp[IntKind.bits];omega);grind
  rw[e2];refine(DM Xt K x m n _ (by omega) (by omega) (by simp;omega)).trans ?_;simp[be]
theorem OX(x:Int)(m:Nat)(c:List Int)(hm:m<=8)(hb:c.length<=999900):cD.run x (m:Int) c=some (c++be x m,()):=by unfold cD.run cD.top;grind[wrap_i64,ai,DM]
def sA(b:dP):List Int:=be b.1 8++(be b.2.1 4++(be b.2.2.1 2++(b.2.2.2.1++(be b.2.2.2.2.1 8++(be b.2.2.2.2.2.1 1++b.2.2.2.2.2.2.1)))))
theorem QK(x:Int)(c:List Int)(h:c.length<=999900):(bp.run x 1 c=some (c++be x 1,())/\bp.run x 2 c=some (c++be x 2,()))/\(bp.run x 4 c=some (c++be x 4,())/\bp.run x 8 c=some (c++be x 8,())):=
 ⟨⟨wO x 1 c (by omega) h,wO x 2 c (by omega) h⟩,wO x 4 c (by omega) h,wO x 8 c (by omega) h⟩
theorem OY(b:dP)(c:List Int)(hw:b.2.2.2.1.length=32)(hl:b.2.2.2.2.2.2.1.length<=300)(h:c.length<=900000):gQ.run b c=some (c++sA b,()):=by unfold gQ.run gQ.top;rw[show cD.run b.1 8 c=some (c++be b.1 8,()) from OX b.1 8 c (by omega) (by omega),bind_some];simp only[];rw[(QK b.2.1 _ (by simp[eQ];omega)).2.1,bind_some];simp only[];rw[(QK b.2.2.1 _ (by simp[eQ];omega)).1.2,bind_some];unfold iz.run iz.top;simp only[];rw[g9 b.2.2.2.1 32 (by rw[hw];rfl),if_pos (aK (by simp[eQ];omega) (by omega)),bind_some];simp only[];rw[(QK b.2.2.2.2.1 _ (by simp[eQ];omega)).2.2,bind_some];simp only[];rw[(QK b.2.2.2.2.2.1 _ (by simp[eQ];omega)).1.1,bind_some];unfold iA.run iA.top;simp only[];rw[if_pos (aK (by simp[eQ];omega) (by omega)),bind_some];grind[sA]
theorem EE(b:dP)(hw:b.2.2.2.1.length=32)(he:kA b=0):gn.run b=some (sA b):=by
 obtain⟨h1,h2,h3,h4,h5,h6⟩:=qd he;unfold gn.run gn.top;have hb:∀x:Int,(aD.run x 1=some (be x 1)/\aD.run x 2=some (be x 2))/\(aD.run x 4=some (be x 4)/\aD.run x 8=some (be x 8)):=fun x=>
  ⟨⟨nY x 1 (by omega),nY x 2 (by omega)⟩,nY x 4 (by omega),nY x 8 (by omega)⟩
 have hs:∀n:Nat,n<=100000->Nat.ble n 9223372036854775807=true:=fun n hn=>xw (by omega);simp only[kB (x:=b.1) (by omega) (by omega),kB (x:=b.2.1) (by omega) (by omega),kB (x:=b.2.2.1) (by omega) (by omega),kB (x:=b.2.2.2.2.1) (by omega) (by omega),kB (x:=b.2.2.2.2.2.1) (by omega) (by omega),
  (hb _).1.1,(hb _).1.2,(hb _).2.1,(hb _).2.2,bind_some,g9 b.2.2.2.1 32 (by rw[hw];rfl)]
 rw[if_pos (hs _ (by simp[eQ])),if_pos (hs _ (by simp[eQ])),if_pos (hs _ (by simp[eQ];omega)),if_pos (hs _ (by simp[eQ];omega)),if_pos (hs _ (by simp[eQ];omega)),if_pos (hs _ (by simp[eQ];omega))];grind[sA]
theorem An(x:Int)(k:Nat):od (be x k):=H5 x k
theorem MV{b:dP}(hw:b.2.2.2.1.length=32)(h1:od b.2.2.2.1)(h2:od b.2.2.2.2.2.2.1)(he:kA b=0):od (sA b)/\(sA b).length<=1000:=by obtain⟨_,_,_,_,_,h6⟩:=qd he;unfold sA;refine⟨(An _ _).append ((An _ _).append ((An _ _).append (h1.append ((An _ _).append ((An _ _).append h2))))),?_⟩;grind[eQ]
theorem Ic{b:dP}(hw:b.2.2.2.1.length=32):l7.run b=some (if kA b=0 then(sA b,0,())else([],kA b,())):=by
 unfold l7.run l7.top;rw[u6];simp only[bind_some];by_cases he:kA b=0
 ·simp_all[OY,qd]
 grind
def Sb(b:dP):List Int:=Qm (Qm (sA b))
theorem K7{b:dP}(hw:b.2.2.2.1.length=32)(h1:od b.2.2.2.1)(h2:od b.2.2.2.2.2.2.1):oz.run b=some (if kA b=0 then(Sb b,0,())else(replicate 32 0,kA b,()))/\gG.run b=some (if kA b=0 then(Sb b,0,())else(replicate 32 0,kA b,())):=by
 unfold oz.run oz.top gG.run gG.top;rw[Ic hw,u7];simp only[bind_some];by_cases he:kA b=0
 ·obtain⟨_,_,_,_,_,h6⟩:=qd he;obtain⟨t1,t2⟩:=MV hw h1 h2 he;obtain⟨s1,s2⟩:=BZ t1 (by omega);obtain⟨u1,u2⟩:=BZ (Ka (sA b)) (by rw[zT];omega);rw[if_pos he,if_pos he,if_neg (show¬(kA b !=0)=true by simpa using he),EE b hw he];simp only[bne_self_eq_false,false_eq_true,if_false,bind_some];rw[s1,s2];simp only[bind_some];rw[g9 (Qm (sA b)) 32 (by rw[zT];rfl),u1,u2];exact⟨rfl,rfl⟩
 grind
end Go.Bx
namespace Go.Bx
open Go Go.Bx.Rg
def JE(x:jH):Prop:=W4 x.2.1/\W4 x.2.2.1/\x.2.2.2.2.2.1.length=32/\gy x.2.2.2.2.2.1/\0<=x.2.2.2.2.2.2.2.1
theorem rF(n:Nat):gy (replicate n 0):=fun b hb=>by grind
theorem IY:JE ij:=⟨uj,uj,rfl,rF 32,le_refl 0⟩
theorem EP{x:jH}{r:jH×Int×Unit}(h:AK x=some r)(hx:JE x):JE r.1:=by
 unfold AK at h;cases hc:ak.run x with
 |none=>rw[hc]at h;cases h
 |some c=>
  rw[hc,bind_some]at h;split at h
  ·cases h;exact hx
  ·cases h;exact IY
theorem Ti{kd:Int}{s:List Int}(hbs:gy s)(hl:¬s.length<132):JE (Fh kd s):=by
 have h1:=mK (s.take 32) (by simp;omega) (pe hbs 32);have h2:=mK ((s.drop 100).take 32) (by simp;omega) (pe (qi hbs 100) 32);have h3:((s.drop 66).take 32).length=32:=by simp;omega
 simp only[JE,Fh];exact⟨h1,h2,h3,pe (qi hbs 66) 32,le_refl 0⟩
theorem Tg(kd:Int){s:List Int}(hbs:gy s):JE (O3 kd s):=by simp only[JE,O3];exact⟨uj,uj,rfl,rF 32,(mT hbs 34).1⟩
theorem Tf(kd:Int)(s:List Int):JE (PK kd s):=by simp only[JE,PK];exact⟨uj,uj,rfl,rF 32,le_refl 0⟩
theorem Te{kd:Int}{s:List Int}(hbs:gy s){r:jH×Int×Unit}(h:RO kd s=some r):JE r.1:=by
 have hn:∀e:Int,some (ij,e,())=some r->JE r.1:=fun e h=>by cases h;exact IY
 unfold RO at h;split at h
 ·split at h
  ·exact hn _ h
  ·rename_i hl;exact EP h (Ti hbs hl)
 ·split at h
  ·split at h
   ·exact hn _ h
   ·split at h
    ·exact hn _ h
    ·exact EP h (Tg _ hbs)
  ·split at h
   ·split at h
    ·exact hn _ h
    ·split at h
     ·exact hn _ h
     ·exact EP h (Tf _ _)
   ·exact hn _ h
theorem LU(x:List Int)(hb:gy x)(hl:x.length<=140737488351232):∃r:jH×Int×Unit,kI.run x=some r/\aW.run x=some r/\JE r.1:=by
 rw[F3 x hb hl,QE x hb hl];by_cases h:x.length=0
 ·rw[if_pos h];exact⟨_,rfl,rfl,IY⟩
 ·rw[if_neg h];obtain⟨r,hr,_⟩:=O2 (x.getD 0 0) (x.drop 1) (qi hb 1);exact⟨r,hr,hr,Te (qi hb 1) hr⟩
theorem BS:∀(m:Nat)(s:gp),gy s.1->∀x∈(iG m s).1,HZ x.2.1
 |0,s,hb,x,hx=>by simp[iG]at hx
 |m+1,s,hb,x,hx=>by
  simp only[iG,List.mem_cons]at hx;have b1:=(Fu s).qe hb;have b2:=(Fv s).qe hb;rcases hx with rfl|hx
  ·have h1:=mK (kj 32 (Pe s)).1 (mG _ _) (nK 32 b1).1;have h2:=mK (kj 32 (Pf s)).1 (mG _ _) (nK 32 b2).1;simp only[HZ,BR];exact⟨h1,h2⟩
  ·exact BS m _ ((Fw s).qe hb) x hx
theorem Ld(b:List Int)(hb:gy b):(zw b).1.2.2.1.2.2.2.1.length=32/\gy (zw b).1.2.2.1.2.2.2.1/\gy (zw b).1.2.2.1.2.2.2.2.2.2.1/\(∀s∈(zw b).1.2.1,HZ s.2.1):=by
 have b3:=(qS b).qe hb;have b4:gy (yD b).1:=(pE (nV b).toNat (Il b)).qe b3;have z:∀e:Int,(fun y:nP×Int×Unit=>y.1.2.2.1.2.2.2.1.length=32/\gy y.1.2.2.1.2.2.2.1/\gy y.1.2.2.1.2.2.2.2.2.2.1/\(∀s∈y.1.2.1,HZ s.2.1)) ((0,[],(0,0,0,replicate 32 0,0,0,[],()),()),e,()):=fun e=>⟨rfl,rF 32,(fun b hb=>by cases hb),(fun s hs=>by cases hs)⟩
 unfold zw;by_cases c1:(JW b).2.1=true/\vV b≠1
 ·simp_all
 ·rw[if_neg c1];by_cases c2:(Il b).2.1=true/\nV b>19
  ·simp_all
  ·rw[if_neg c2];by_cases c3:(HG (yD b)).2.1=true
   ·rw[if_pos c3];by_cases c4:pR (pV b)=0
    ·rw[if_pos c4];have h1:=mG 32 (Q6 (yD b));have h2:=(nK 32 ((KJ (yD b)).qe b4)).1;have h3:=(Fx (yD b)).qe b4;have h4:=BS (nV b).toNat (Il b) b3;simp only[pV,j9];exact⟨h1,h2,h3,h4⟩
    simp_all
   simp_all
section
variable {P A B N x y:Int}{f:Bool}(b1:0<=P/\P<aB)(b2:0<=A/\A<aB)(b3:0<=B/\B<aB)(b4:0<=N/\N<aB)(b5:0<=x/\x<aB)(b6:0<=y/\y<aB)
include b1 b2 b3 b4 b5 b6
theorem DV(pp:List Int)(hb:gy pp)(hl:pp.length<=140737488351232)(ch now nx:Int)(sn:List (List Int))(z:List fx)(l:List bu)(st:List dP):
  ∃(D E:dP)(L M:jH)(e:Int),gS.run pp ch now sn nx (mk P,mk A,mk B,mk N,(mk x,mk y,f,()),()) z l st=some (D,L,e,ch,now,sn,nx,(mk P,mk A,mk B,mk N,(mk x,mk y,f,()),()),z,l,st,D,L,())/\
   fW.run (mk P,mk A,mk B,mk N,(mk x,mk y,f,()),()) (ch,now,z,l,sn,nx,st,()) pp=some (E,M,e,())/\(e=0->E=D/\M=L/\JE L):=by
 obtain⟨q1,q2,q3,q4⟩:=Ld pp hb;unfold gS.run gS.top fW.run fW.top;rw[Ik pp hb hl,Ta pp hb hl];have hlen:=M5 pp;generalize zw pp=p at q1 q2 q3 q4 hlen⊢;simp only[bind_some];have out:∀e:Int,e≠0->∃(D E:dP)(L M:jH)(e':Int),(some ((0,0,0,replicate 32 0,0,0,[],()),ij,e,ch,now,sn,nx,(mk P,mk A,mk B,mk N,(mk x,mk y,f,()),()),z,l,st,(0,0,0,replicate 32 0,0,0,[],()),ij,()):Option _)=some (D,L,e',ch,now,sn,nx,(mk P,mk A,mk B,mk N,(mk x,mk y,f,()),()),z,l,st,D,L,())/\
   (some ((0,0,0,replicate 32 0,0,0,[],()),ij,e,()):Option _)=some (E,M,e',())/\(e'=0->E=D/\M=L/\JE L):=fun e he=>⟨_,_,_,_,_,rfl,rfl,fun h=>absurd h he⟩
 by_cases h1:(p.2.1 !=0)=true
 ·rw[if_pos h1,if_pos h1];exact out _ (by simpa using h1)
 ·rw[if_neg h1,if_neg h1];obtain⟨s,s1,s2,s3⟩:=LS z p.1.1 now;rw[s1,s2];simp only[bind_some];by_cases h2:(s.2.1 !=0)=true
  ·rw[if_pos h2,if_pos h2];exact out _ (by simpa using h2)
  ·rw[if_neg h2,if_neg h2];obtain⟨t1,t2⟩:=K7 q1 q2 q3;rw[t1,t2];simp only[bind_some];by_cases he:kA p.1.2.2.1=0
   ·rw[if_pos he];simp only[bne_self_eq_false,false_eq_true,if_false];obtain⟨v,v1,v2⟩:=Ho (f:=f) b1 b2 b3 b4 b5 b6 (hs:=Sb p.1.2.2.1) (zT _) (Ka _) s.1 p.1.2.1 (by omega) q4;rw[v1,v2];simp only[bind_some];by_cases h3:(v !=0)=true
    ·rw[if_pos h3,if_pos h3];exact out _ (by simpa using h3)
    ·rw[if_neg h3,if_neg h3];have h6:=(qd he).2.2.2.2.2;obtain⟨r,r1,r2,r3⟩:=LU p.1.2.2.1.2.2.2.2.2.2.1 q3 (by omega);rw[r1,r2];simp only[bind_some];by_cases h4:r.2.1=0
     ·rw[if_neg (by simpa using h4),h4];exact⟨_,_,_,_,0,rfl,rfl,fun _=>⟨rfl,rfl,r3⟩⟩
     ·rw[if_pos (by simpa using h4)];exact⟨_,_,_,_,_,rfl,rfl,fun h=>absurd h h4⟩
   ·rw[if_neg he];simp only[];rw[if_pos (by simpa using he),if_pos (by simpa using he)];exact out _ he
end
end Go.Bx
namespace Go.Bx
open Go
theorem tB(l:List fx)(kk:List (List Int))(now:Int):∃r:List fx×Int×Unit,la.run l kk now=some r/\fG.run l kk now=some r/\r.1.length<=9/\∀s∈r.1,s.2.1.length<=19:=by
 unfold la.run la.top fG.run fG.top;obtain⟨e,e1,e2,e3⟩:=qC l;rw[e1,e2];simp only[bind_some];by_cases he:e=0
 ·obtain⟨h1,h2,h3⟩:=e3 he;simp only[he,show((0:Int) !=0)=false from rfl,false_eq_true,if_false,sP,xM,bind_some];by_cases hk:oW kk=0
  ·have hkl:=(wF hk).2;simp only[hk,show((0:Int) !=0)=false from rfl,false_eq_true,if_false];have hd:(decide (0<=(IntKind.i64.wrap ((List.length l:Int)-2))/\(IntKind.i64.wrap ((List.length l:Int)-2))<(List.length l:Int))|| !((decide ((List.length l:Int)>1))==true))=true:=by
    grind[wrap_i64]
   simp only[hd,cond_true];have md:decide (((List.getD l (toNat (IntKind.i64.wrap ((List.length l:Int)-2))) (0,[],0,())).2.2.1:Int)>IntKind.i64.wrap (now+24))=decide (IntKind.i64.wrap (now+24)<((List.getD l (toNat (IntKind.i64.wrap ((List.length l:Int)-2))) (0,[],0,())).2.2.1:Int)):=rfl;rw[md];split
   ·grind
   ·split
    ·grind
    ·have hcut:aA l 0 (List.length l:Int)=l:=by simp[aA]
     rw[if_pos (by refine⟨?_,?_,?_,?_⟩<;>first|trivial|omega),hcut,if_pos (aK (by omega) (by omega)),AP _ (by simp;omega) (fun s hs=>by
      rcases List.mem_append.1 hs with hs|hs
      ·have:=h3 s hs;omega
      ·simp only[List.mem_singleton]at hs;subst hs;show List.length kk<=1000;omega)]
     simp only[bind_some];obtain⟨m,hm⟩:∃m:Nat,List.length l=m+1:=⟨List.length l-1,by omega⟩
     have hw:IntKind.i64.wrap ((List.length l:Int)-1)=(m:Int):=by rw[wrap_i64 (by omega) (by omega)];omega
     rw[hw,ae];have hg:List.getD (l++[((List.length l:Int),kk,0,())]) m (0,[],0,())=List.getD l m (0,[],0,()):=by grind
     have hmm:List.getD l m (0,[],0,())∈l:=by rw[getD_eq (by omega)];exact getElem_mem (by omega)
     rw[hg,if_pos (by simp;omega),if_pos (by rw[aK (by omega) (by omega)];rfl),if_pos (by omega),if_pos (aK (by simp;omega) (by omega))];rw[List.set_append_left _ _ (by omega)];refine⟨_,rfl,rfl,by simp;omega,fun s hs=>?_⟩;rcases List.mem_append.1 hs with hs|hs
     ·grind
     grind
  simp_all
 simp_all
def k7(c:List Int)(n:Nat):Bool:=(cS .u64 (c.getD (n/64) 0) (fD .u64 1 ((n%64:Nat):Int))) !=0
theorem Hh{c:List Int}(h:∀x∈c,pq .u64 x=true){n:Nat}(hn:n/64<c.length):k7 c n=(cS .u64 (fS .u64 (c.getD (n/64) 0) ((n%64:Nat):Int)) 1==1):=by
 have hm:n%64<64:=Nat.mod_lt _ (by decide);unfold k7;rw[getD_eq hn];obtain⟨X,hX,hX2⟩:=Bi (h _ (getElem_mem hn));rw[hX,tt hm,oa hm,jZ hX2 (lU hm)];have h3:X>>>(n%64)<18446744073709551616:=by rw[Nat.shiftRight_eq_div_pow];exact Nat.lt_of_le_of_lt (Nat.div_le_self _ _) hX2
 grind[qL,zk,jZ]
def pN(c:List Int)(i n:Nat):List Int:=((range' i n).filter (k7 c)).map fun(j:Nat)=>(j:Int)
theorem vz{α:Type}(k:Nat)(Xt:List Int->Option α)(c:List Int):∀(n i:Nat)(acc:List Int),i<=256->256-i<n->acc.length<=i->
  eA.l0 k Xt n (i:Int) c acc=Xt (acc++pN c i (256-i))
 |0,i,acc,_,h,_=>by omega
 |n+1,i,acc,hi,h,ha=>by
  simp only[eA.l0,eA.aR,eA.j0];by_cases h256:i<256
  ·have h1:IntKind.i64.wrap (tdiv (i:Int) 64)=((i/64:Nat):Int):=kH (c:=64) (by omega);have h2:tmod (i:Int) 64=((i%64:Nat):Int):=mH i 64;rw[if_pos (by simp;omega),h1,h2,if_pos (by omega),if_pos (by omega),ae,ax (by omega)];have hr:range' i (256-i)=i::range' (i+1) (256-(i+1)):=by
    rw[show 256-i=(256-(i+1))+1 by omega,List.range'_succ]
   unfold pN;rw[hr];have hb:((cS .u64 (c.getD (i/64) 0) (fD .u64 1 ((i%64:Nat):Int))) !=0)=k7 c i:=rfl;rw[hb];cases hp:k7 c i with
   |true=>rw[if_pos rfl,if_pos (aK (by omega) (by decide)),vz k Xt c n (i+1) _ (by omega) (by omega) (by simp;omega)];rw[List.filter_cons_of_pos hp];simp[pN]
   |false=>rw[if_neg (by simp),vz k Xt c n (i+1) _ (by omega) (by omega) (by omega)];rw[List.filter_cons_of_neg (by simp[hp])];rfl
  ·have:i=256:=by omega
   simp_all[pN]
theorem LV(c:List Int):eA.run c=some (pN c 0 256):=by unfold eA.run eA.top eA.j1;have:=vz fuel (fun(c20:List Int)=>some c20) c fuel 0 [] (by omega) (by rw[ai];omega) (by simp);grind
theorem yO{α:Type}(k:Nat)(Rt:Bool->Int->Option α)(Xt:Option α)(x:Int)(l:List Int)(hl:l.length<9223372036854775807):∀(n i:Nat),i<=l.length->l.length-i<n->
  dS.l0 k Rt Xt n x l (l.length:Int) (i:Int)=if(l.drop i).contains x=true then Rt true 0 else Xt
 |0,i,_,h=>by omega
 |n+1,i,hi,h=>by
  simp only[dS.l0,dS.aR];by_cases hlt:i<l.length
  ·rw[if_pos (by simp;omega),if_pos (by omega),ae,ax (by omega),getD_eq hlt];have hd:l.drop i=l[i]::l.drop (i+1):=List.drop_eq_getElem_cons hlt;rw[hd,yO k Rt Xt x l hl n (i+1) (by omega) (by omega)];grind
  grind
theorem IU(c:List Int)(i n:Nat):(pN c i n).length<=n:=by grind[pN]
theorem IV(c:List Int)(n:Nat)(x:Int)(h:0<=x/\x<(n:Int)):(pN c 0 n).contains x=k7 c x.toNat:=by rw[Bool.eq_iff_iff];grind[pN]
theorem GW(N:Nat)(c:List Int)(x:Int)(h:0<=x/\x<=255)(hN:300<N)(l:List Int)(hl:l=pN c 0 256):
  dS.l0 N (fun(x4:Bool)(x5:Int)=>some (x4,x5,())) (some (false,(0:Int),())) N x l (l.length:Int) 0=some (k7 c x.toNat,0,()):=by
 have hlen:l.length<=256:=by rw[hl];exact IU c 0 256
 have:=yO N (fun(x4:Bool)(x5:Int)=>some (x4,x5,())) (some (false,(0:Int),())) x l (by omega) N 0 (by omega) (by omega);rw[List.drop_zero]at this;have hc:l.contains x=k7 c x.toNat:=by rw[hl];exact IV c 256 x (by omega)
 rw[hc]at this;refine Eq.trans this ?_;cases k7 c x.toNat<;>rfl
theorem Jd(c:List Int)(x:Int):dS.run c x=some (if 0<=x/\x<=255 then(k7 c x.toNat,0,())else(false,6,())):=by
 unfold dS.run dS.top dS.j0;by_cases h:0<=x/\x<=255
 ·rw[if_pos h,if_neg (by simp;omega),LV,bind_some];grind[ai,GW]
 grind
theorem OR{X k:Nat}(hX:X<18446744073709551616)(hk:k<64)(h:X.testBit k=false):X|||2^k=X+2^k:=by
 have h0:X&&&2^k=0:=by grind[qL]
 have hp:=lU hk;have h1:BitVec.ofNat 65 X&&&BitVec.ofNat 65 (2^k)=0#65:=by grind[BitVec.toNat_ofNat]
 have h2:=congrArg BitVec.toNat (BitVec.add_eq_or_of_and_eq_zero _ _ h1)
 grind
theorem OS{x:Int}{k:Nat}(hx:pq .u64 x=true)(hk:k<64)(h:(cS .u64 x (fD .u64 1 (k:Int)) !=0)=false):IntKind.u64.wrap (x+fD .u64 1 (k:Int))=jP .u64 x (fD .u64 1 (k:Int)):=by
 obtain⟨X,rfl,hX⟩:=Bi hx;rw[tt hk,jZ hX (lU hk)]at h;have h1:X.testBit k=false:=by grind[qL]
 rw[tt hk,tQ hX (lU hk),OR hX hk h1];have:X+2^k<18446744073709551616:=by rw[<-OR hX hk h1];have:=Nat.or_lt_two_pow (n:=64) hX (lU hk);simpa using this
 have e:((X:Int)+((2^k:Nat):Int))=((X+2^k:Nat):Int):=by simp
 rw[e];exact lf this
theorem Hu(c:List Int)(hc:c.length=4)(hr:∀x∈c,pq .u64 x=true)(x:Int):qw.run c x=some (if 0<=x/\x<=255 then(k7 c x.toNat,0,())else(false,6,())):=by
 unfold qw.run qw.top nJ.run nJ.top;simp only[bind_some];by_cases h:0<=x/\x<=255
 ·obtain⟨n,rfl⟩:∃n:Nat,x=(n:Int):=⟨x.toNat,by omega⟩
  have h1:IntKind.i64.wrap (tdiv (n:Int) 64)=((n/64:Nat):Int):=kH (c:=64) (by omega);have h2:tmod (n:Int) 64=((n%64:Nat):Int):=mH n 64;rw[if_neg (by simp;omega),h1,h2,if_pos (by omega),if_pos (by omega),ae,if_pos h,Hh hr (by show n/64<c.length;omega)];rfl
 grind
theorem Dz(c:List Int)(n:Int)(hc:c.length=4)(hr:∀y∈c,pq .u64 y=true):ki.run c n=fV.run c n/\∃r,ki.run c n=some r:=by
 unfold ki.run ki.top fV.run fV.top;rw[Hu c hc hr,Jd];simp only[bind_some];by_cases hn:0<=n/\n<=255
 ·rw[if_pos hn,if_neg (by simp)];cases hp:k7 c n.toNat with
  |true=>exact⟨rfl,_,rfl⟩
  |false=>
   obtain⟨m,rfl⟩:∃m:Nat,n=(m:Int):=⟨n.toNat,by omega⟩
   have e1:IntKind.i64.wrap (tdiv (m:Int) 64)=((m/64:Nat):Int):=kH (c:=64) (by omega);have e2:tmod (m:Int) 64=((m%64:Nat):Int):=mH m 64;have hlt:m/64<c.length:=by omega
   rw[e1,e2,if_neg (by simp),if_pos (by omega),if_pos (by omega),if_pos (by omega),ae,getD_eq hlt,if_neg (by simp)];rw[OS (hr _ (getElem_mem hlt)) (Nat.mod_lt _ (by decide))]
   ·rw[if_neg (by simp),if_pos (by omega),if_pos (by omega),if_pos (by omega)];exact⟨rfl,_,rfl⟩
   ·unfold k7 at hp;rw[show((m:Int)).toNat=m from rfl,getD_eq hlt]at hp;exact hp
 grind
end Go.Bx
namespace Go.Bx
open Go Go.Bx.Rg
def Pa:List Int:=(replicate 32 0).set 0 7
theorem Kw:rl.run=some Pa:=by kernel_rfl
theorem QQ:kP.run=some Pa:=by kernel_rfl
abbrev W7:Type:=Int×Int×Int×List fx×List (List Int)×Int×PO×List fx×List bu×List dP×Unit
def TO(ch now nx:Int)(cv:PO)(z:List fx)(st:List dP)(p:dB)(A:Option W7)(C:Option (dB×Int×Unit)):Prop:=
 ∃(e:Int)(z':List fx)(sn':List (List Int))(l':List bu)(q:dB),A=some (e,ch,now,z',sn',nx,cv,z,l',st,())/\C=some (q,e,())/\(e=0->q=(ch,now,z',l',sn',nx,st,()))/\(e≠0->q=p)/\
  l'.length<=5/\(∀a∈l',a.2.2.2.1.2.1.length<=41)/\z'.length<=9/\∀s∈z',s.2.1.length<=19
section
variable {P A B N x y:Int}{f:Bool}(b1:0<=P/\P<aB)(b2:0<=A/\A<aB)(b3:0<=B/\B<aB)(b4:0<=N/\N<aB)(b5:0<=x/\x<aB)(b6:0<=y/\y<aB)
include b1 b2 b3 b4 b5 b6
theorem Mr(ch now nx kd hm tc hr:Int)(z:List fx)(l:List bu)(sn:List (List Int))(st:List dP)(wh tk am fe to pp:List Int)(ok:Ae (ch,now,z,l,sn,nx,st,()))(hw:∀a∈l,fB a.2.2.2.1)
  (hsn:sn.length=3/\∀c∈sn,c.length=4/\∀y∈c,pq .u64 y=true) (hwh:wh.length=32/\∀b∈wh,0<=b/\b<=255) (hb:gy pp) (hl:pp.length<=140737488351232):
  TO ch now nx (mk P,mk A,mk B,mk N,(mk x,mk y,f,()),()) z st (ch,now,z,l,sn,nx,st,()) (eO.run (kd,wh,tk,hm,am,fe,to,tc,hr,pp,()) ch now sn nx (mk P,mk A,mk B,mk N,(mk x,mk y,f,()),()) z l st)
   (iM.run (mk P,mk A,mk B,mk N,(mk x,mk y,f,()),()) (ch,now,z,l,sn,nx,st,()) (kd,wh,tk,hm,am,fe,to,tc,hr,pp,())):=by
 have al:l.length<=4:=ok.al;have zz:=ok.sets;have zl:z.length<=9:=by have:z.length<=8:=zz.2.1;omega
 have aa:∀a∈l,a.2.2.2.1.2.1.length<=41:=fun a h=>by have:=(ok.aa a h).1;omega
 unfold eO.run eO.top iM.run iM.top;obtain⟨D,E,L,M,e0,e1,e2,e3⟩:=DV (f:=f) b1 b2 b3 b4 b5 b6 pp hb hl ch now nx sn z l st;rw[e1,e2];generalize (mk P,mk A,mk B,mk N,(mk x,mk y,f,()),())=cv;simp only[bind_some];have out0:∀(e:Int)(sn':List (List Int))(m:List bu),m.length<=5->(∀a∈m,a.2.2.2.1.2.1.length<=41)->e≠0->TO ch now nx cv z st (ch,now,z,l,sn,nx,st,()) (some (e,ch,now,z,sn',nx,cv,z,m,st,())) (some ((ch,now,z,l,sn,nx,st,()),e,())):=
  fun e sn' m m1 m2 he=>⟨e,z,sn',m,_,rfl,rfl,fun h=>absurd h he,fun _=>rfl,m1,m2,zl,zz.2.2⟩
 have out:∀(e:Int)(sn':List (List Int)),e≠0->TO ch now nx cv z st (ch,now,z,l,sn,nx,st,()) (some (e,ch,now,z,sn',nx,cv,z,l,st,())) (some ((ch,now,z,l,sn,nx,st,()),e,())):=fun e sn' he=>out0 e sn' l (by omega) aa he;by_cases h1:e0=0
 ·obtain⟨rfl,rfl,o1,o2,o3,o4,o5⟩:=e3 h1;subst h1;rw[if_neg (show¬(((0:Int) !=0)=true) by decide),if_neg (show¬(((0:Int) !=0)=true) by decide)];by_cases h2:(M.1==4)=true
  ·rw[if_pos h2,if_pos h2];unfold eP.run eP.top;cases hc:(E.2.2.1 !=0)with
   |true=>exact out 5 sn (by decide)
   |false=>
    simp only[BEq.rfl,if_true,cond_false];rw[Kw,QQ];simp only[bind_some];by_cases h3:(!(az (.arr 32 (.int .u8)) E.2.2.2.1 Pa))=true
    ·rw[if_pos h3,if_pos h3];exact out 5 sn (by decide)
    ·rw[if_neg h3,if_neg h3];by_cases h4:(M.2.2.2.2.2.2.2.2.2.2.1 !=(z.length:Int))=true
     ·rw[if_pos h4,if_pos h4];exact out 6 sn (by decide)
     ·rw[if_neg h4,if_neg h4];obtain⟨r,r1,r2,r3,r4⟩:=tB z M.2.2.2.2.2.2.2.2.2.2.2.1 now;rw[r1,r2];simp only[bind_some];unfold eP.j0;by_cases h5:r.2.1=0
      ·rw[if_pos (by simpa using h5),if_neg (by simpa using h5),h5];exact⟨0,r.1,sn,l,_,rfl,rfl,fun _=>rfl,fun h=>absurd rfl h,by omega,aa,r3,r4⟩
      ·rw[if_neg (by simpa using h5),if_pos (by simpa using h5)];exact out _ sn h5
  ·rw[if_neg h2,if_neg h2,oe,pB];simp only[bind_some];cases hc:(cond (!(dV E.2.2.1)) true (E.2.2.1==ch))with
   |true=>exact out 5 sn (by decide)
   |false=>
    have hcb:dV E.2.2.1=true:=by grind
    have hch:0<=E.2.2.1/\E.2.2.1<3:=by unfold dV at hcb;grind
    obtain⟨m,m1,m2⟩:=kQ E.2.2.1;simp only[BEq.rfl,if_true,cond_false];rw[m1,m2];simp only[bind_some];by_cases h3:(!(az (.arr 32 (.int .u8)) E.2.2.2.1 m))=true
    ·rw[if_pos h3,if_pos h3];exact out 5 sn (by decide)
    ·rw[if_neg h3,if_neg h3,if_pos hch,if_pos hch];have hel:sn.getD E.2.2.1.toNat [0,0,0,0]∈sn:=by
      grind
     obtain⟨k1,r,k2⟩:=Dz (sn.getD E.2.2.1.toNat [0,0,0,0]) E.2.2.2.2.1 (hsn.2 _ hel).1 (hsn.2 _ hel).2;rw[<-k1,k2];simp only[bind_some];by_cases h4:(r.2.1 !=0)=true
     ·rw[if_pos h4,if_pos h4];exact out _ sn (by simpa using h4)
     ·rw[if_neg h4,if_neg h4,if_pos hch,if_pos hch];by_cases h5:(M.1==2)=true
      ·rw[if_pos h5,if_pos h5];unfold ee.run ee.top;by_cases h6:(M.2.2.2.2.1 !=E.2.2.1)=true
       ·rw[if_pos h6,if_pos h6];exact out 5 _ (by decide)
       ·rw[if_neg h6,if_neg h6,qN _ _ _ _ _ _ _ _ _ _ al,vT _ _ _ al];simp only[bind_some];cases hA:fA M.2.2.2.1 M.2.2.2.2.1 l 0 with
        |some i=>simp only[Sum.elim_inl];rw[if_pos (show decide ((i:Int)>=0)=true by rw[decide_eq_true_eq];omega)];exact out 8 _ (by decide)
        |none=>
         simp only[Sum.elim_inl,Sum.elim_inr];rw[if_neg (show¬(decide ((-1:Int)>=0)=true) by decide)];by_cases h7:l.length=4
         ·rw[if_pos (show((l.length:Int)==4)=true by rw[beq_iff_eq];omega),if_pos (show decide ((l.length:Int)>=4)=true by rw[decide_eq_true_eq];omega)];exact out 9 _ (by decide)
         ·rw[if_neg (show¬((l.length:Int)==4)=true by rw[beq_iff_eq];omega),if_neg (show¬decide ((l.length:Int)>=4)=true by rw[decide_eq_true_eq];omega),if_pos (aK (by omega) (by omega)),if_pos (aK (by omega) (by omega)),if_pos (aK (by omega) (by omega))];have hm8:(if(8:Int)<M.2.2.2.2.2.2.2.1 then 8 else M.2.2.2.2.2.2.2.1)=(if M.2.2.2.2.2.2.2.1<8 then M.2.2.2.2.2.2.2.1 else 8):=by
           omega
          rw[hm8];exact⟨0,z,_,_,_,rfl,rfl,fun _=>rfl,fun h=>absurd rfl h,by simp;omega,fun a ha=>by
           rcases List.mem_append.1 ha with ha|ha
           ·exact aa a ha
           ·simp only[List.mem_singleton]at ha;subst ha;simp,zl,zz.2.2⟩
      ·rw[if_neg h5,if_neg h5];by_cases h6:(M.2.2.2.2.2.2.1 !=ch)=true
       ·rw[if_pos h6,if_pos h6];exact out 6 _ (by decide)
       ·rw[if_neg h6,if_neg h6];obtain⟨k0,am2,fe2,tk2,hm2,to2,tc2,de2,sy2,da2,ix2,ks2,u⟩:=M;obtain⟨e,l',q,p1,p2,p3,p4,p5⟩:=Hj ch now nx k0 hm2 tc2 de2 ix2 (sn.set E.2.2.1.toNat r.1) cv z l st am2 fe2 tk2 to2 sy2 da2 wh ks2 al ok.aa hw o1 o2 ⟨o3,fun b hb=>by have:=o4 b hb;omega⟩ hwh;rw[p1];simp only[bind_some];rw[p2];simp only[bind_some];by_cases h7:e=0
        ·rw[if_neg (by simpa using h7),h7];exact⟨0,z,_,l',_,rfl,rfl,fun _=>p3 h7,fun h=>absurd rfl h,by omega,p5,zl,zz.2.2⟩
        ·rw[if_pos (by simpa using h7)];exact out0 _ _ l' (by omega) p5 h7
 ·rw[if_pos (by simpa using h1),if_pos (by simpa using h1)];exact out _ sn h1
end
end Go.Bx
namespace Go.Bx
open Go
def iF(n:Nat):List fx->Nat->Int->Bool
 |[],_,_=>true
 |s::R,i,z=>(oW s.2.1==0&& !nW n i z s)&&iF n R (i+1) s.2.2.1
theorem wZ(l:List fx)(hl:l.length<=1000):∀(R P:List fx)(n:Nat)(z:Int)(k:Nat),0<=z->R.length<n->l=P++R->
  ∃e:Int,cc.l0 k (fun x2:Int=>some x2) (cc.j0 fun x2:Int=>some x2) n l z l (l.length:Int) (P.length:Int)=some e/\(e=0↔iF l.length R P.length z=true)
 |R,P,0,_,_,_,h,_=>by omega
 |[],P,n+1,z,k,hz,h,hc=>by
  have:l.length=P.length:=by rw[hc];simp
  refine⟨0,?_,by simp[iF]⟩;simp only[cc.l0,cc.aR];rw[if_neg (dF (by omega))];rfl
 |a::R,P,n+1,z,k,hz,h,hc=>by
  have hlen:l.length=P.length+(R.length+1):=by rw[hc];simp
  have hg:l.getD P.length (0,[],0,())=a:=by rw[hc];exact dk _ _ _ _
  simp only[cc.l0,cc.aR];have d1:decide ((P.length:Int)<(l.length:Int))=true:=by rw[decide_eq_true_eq];omega
  have d2:0<=(P.length:Int)/\(P.length:Int)<(l.length:Int):=by omega
  have d3:IntKind.i64.wrap ((P.length:Int)+1)=((P.length+1:Nat):Int):=ax (by omega);simp only[d1,if_true,if_pos d2,d3,ae,hg,sP,bind_some];by_cases hk:oW a.2.1=0
  ·simp only[hk,if_neg (show¬(((0:Int) !=0)=true) by decide)];have c1:(cond (cond (cond (a.1 !=(P.length:Int)) true (not (az .bool ((P.length:Int)==(IntKind.i64.wrap ((l.length:Int)-1))) (a.2.2.1==0)))) true (cond (a.2.2.1 !=0) (decide (a.2.2.1<z)) false)) true (decide (a.2.2.1>1099511627800)))=nW l.length P.length z a:=by
    rw[wrap_i64 (by omega) (by omega)];unfold nW;refine FV ?_;simp only[bS,ck,or_eq_true,and_eq_true,bne_iff_ne,ne_eq,decide_eq_true_eq,az,Bool.not_eq_true',beq_eq_false_iff_ne];grind
   rw[c1];by_cases hb:nW l.length P.length z a=true
   ·exact⟨12,by rw[if_pos hb],by simp[iF,hb]⟩
   ·rw[if_neg hb];have hz':0<=a.2.2.1:=by
     grind[nW]
    obtain⟨e,e1,e2⟩:=wZ l hl R (P++[a]) n a.2.2.1 k hz' (by simpa using h) (by simp[hc]);rw[show(P++[a]).length=P.length+1 by simp]at e1 e2;refine⟨e,e1,e2.trans ?_⟩;simp[iF,hk,hb]
  ·exact⟨oW a.2.1,by rw[if_pos (by simpa using hk)],by simp[iF,hk]⟩
theorem Hy(l:List fx):cc.run l=some 0↔(1<=l.length/\l.length<=8/\iF l.length l 0 0=true):=by
 unfold cc.run cc.top;by_cases h:l.length<1\/8<l.length
 ·rw[if_pos (by rw[bS,or_eq_true,decide_eq_true_eq,decide_eq_true_eq];omega)];constructor
  ·intro h;cases h
  ·omega
 ·rw[if_neg (by rw[bS,or_eq_true,decide_eq_true_eq,decide_eq_true_eq];omega)];obtain⟨e,e1,e2⟩:=wZ l (by omega) l [] fuel 0 fuel (le_refl _) (by rw[ai];omega) rfl;rw[show((([]:List fx).length:Nat):Int)=0 from rfl]at e1;rw[e1];rw[show([]:List fx).length=0 from rfl]at e2;constructor
  ·intro q;exact⟨by omega,by omega,e2.1 (Option.some.inj q)⟩
  ·intro q;rw[e2.2 q.2.2]
def yM:List fx->Int->Int
 |[],z=>z
 |s::R,_=>yM R s.2.2.1
theorem tq(n:Nat)(B:List fx):∀(A:List fx)(i:Nat)(z:Int),iF n (A++B) i z=(iF n A i z&&iF n B (i+A.length) (yM A z))
 |[],i,z=>by simp[iF,yM]
 |s::A,i,z=>by simp only[List.cons_append,iF,yM,tq n B A,Bool.and_assoc,length_cons];rw[show i+1+A.length=i+(A.length+1) by omega]
theorem w7{n m:Nat}:∀(A:List fx)(i:Nat)(z:Int),i+A.length<n->i+A.length<m->iF n A i z=iF m A i z
 |[],_,_,_,_=>rfl
 |s::A,i,z,h,g=>by simp only[length_cons]at h g;have ih:=w7 (n:=n) (m:=m) A (i+1) s.2.2.1 (by omega) (by omega);simp only[iF,ih,nW,show¬i+1=n by omega,show¬i+1=m by omega]
theorem GO:∀(A:List fx)(z:Int),0<A.length->yM A z=(A.getD (A.length-1) (0,[],0,())).2.2.1
 |[s],z,_=>rfl
 |s::t::A,z,_=>by rw[yM,GO (t::A) _ (by simp)];simp
theorem Mw{Q:List fx}{s:fx}{kk:List (List Int)}{now:Int}(hn:1<=now/\now<=1099511627776)(h:iF (Q.length+1) (Q++[s]) 0 0=true)(hk:oW kk=0)(hq:yM Q 0<=now+24):
  iF (Q.length+2) (Q++[(s.1,s.2.1,now+24,())]++[((Q.length:Int)+1,kk,0,())]) 0 0=true:=by
 rw[List.append_assoc,tq];rw[tq]at h;simp only[and_eq_true]at h⊢;refine⟨by rw[<-h.1];exact w7 _ _ _ (by omega) (by omega),?_⟩;have h2:=h.2;simp only[iF,List.cons_append,nil_append,and_eq_true,Bool.and_true,beq_iff_eq,Bool.not_eq_true',nW,decide_eq_false_iff_not]at h2⊢;grind
theorem Ju{l:List fx}{kk:List (List Int)}{now:Int}{r:List fx×Int×Unit}(h:la.run l kk now=some r)(h0:r.2.1=0):cc.run r.1=some 0:=by
 unfold la.run la.top at h;obtain⟨e,e1,_,e3⟩:=qC l;rw[e1]at h;simp only[bind_some]at h;by_cases he:e=0
 ·obtain⟨h1,h2,h3⟩:=e3 he;subst he;have hall:=((Hy l).1 e1).2.2;simp only[show((0:Int) !=0)=false from rfl,false_eq_true,if_false,sP,bind_some]at h;by_cases hk:oW kk=0
  ·have hkl:=(wF hk).2;simp only[hk,show((0:Int) !=0)=false from rfl,false_eq_true,if_false]at h;have hd:(decide (0<=(IntKind.i64.wrap ((List.length l:Int)-2))/\(IntKind.i64.wrap ((List.length l:Int)-2))<(List.length l:Int))|| !((decide ((List.length l:Int)>1))==true))=true:=by
    grind[wrap_i64]
   simp only[hd,cond_true]at h;split at h
   ·grind
   ·rename_i hc;split at h
    ·grind
    ·rename_i h8;have hcut:aA l 0 (List.length l:Int)=l:=by simp[aA]
     rw[if_pos (by refine⟨?_,?_,?_,?_⟩<;>first|trivial|omega),hcut,if_pos (aK (by omega) (by omega)),AP _ (by simp;omega) (fun s hs=>by
      rcases List.mem_append.1 hs with hs|hs
      ·have:=h3 s hs;omega
      ·simp only[List.mem_singleton]at hs;subst hs;show List.length kk<=1000;omega)]at h
     simp only[bind_some]at h;obtain⟨Q,s,rfl⟩:∃Q s,l=Q++[s]:=⟨l.dropLast,l.getLast (by intro e;rw[e]at h1;simp at h1),(List.dropLast_concat_getLast _).symm⟩
     have hL:((Q++[s]).length:Int)=(Q.length:Int)+1:=by simp
     have hw:IntKind.i64.wrap (((Q++[s]).length:Int)-1)=(Q.length:Int):=by rw[wrap_i64 (by omega) (by omega)];omega
     have hg:List.getD ((Q++[s])++[(((Q++[s]).length:Int),kk,0,())]) Q.length (0,[],0,())=s:=by rw[List.append_assoc];exact dk _ _ _ _
     rw[hw,ae,hg,if_pos (by simp;omega)]at h;cases h;rw[Hy];have hset:List.set (Q++[s]++[(((Q++[s]).length:Int),kk,0,())]) Q.length (s.1,s.2.1,IntKind.i64.wrap (now+24),s.2.2.2)=Q++[(s.1,s.2.1,IntKind.i64.wrap (now+24),())]++[((Q.length:Int)+1,kk,0,())]:=by rw[hL];simp
     simp only[bS,ck,or_eq_true,and_eq_true,decide_eq_true_eq,not_or,not_and]at hc;have hw2:IntKind.i64.wrap (now+24)=now+24:=wrap_i64 (by omega) (by omega);refine⟨?_,?_,?_⟩
     ·simp
     ·rw[List.length_set];simp at h2 h8⊢;omega
     ·rw[hset,hw2];have hlen:List.length (Q++[(s.1,s.2.1,now+24,())]++[((Q.length:Int)+1,kk,0,())])=Q.length+2:=by simp
      show iF (List.length (Q++[(s.1,s.2.1,now+24,())]++[((Q.length:Int)+1,kk,0,())])) (Q++[(s.1,s.2.1,now+24,())]++[((Q.length:Int)+1,kk,0,())]) 0 0=true;rw[hlen];refine Mw (by omega) (by rw[<-hall];simp) hk ?_;by_cases hQ:Q.length=0
      ·rw[List.eq_nil_of_length_eq_zero hQ];simp only[yM];omega
      ·rw[GO Q 0 (by omega)];have hc2:=hc.2 (by omega);have hw3:IntKind.i64.wrap (((Q++[s]).length:Int)-2)=((Q.length-1:Nat):Int):=by rw[wrap_i64 (by omega) (by omega)];omega
       rw[hw3,ae,hw2]at hc2;have:(Q++[s]).getD (Q.length-1) (0,[],0,())=Q.getD (Q.length-1) (0,[],0,()):=by rw[getD_eq (by simp;omega),getD_eq (by omega),List.getElem_append_left]
       rw[this]at hc2;omega
  ·rw[if_pos (by simpa using hk)]at h;cases h;exact absurd h0 hk
 ·rw[if_pos (by simpa using he)]at h;cases h;exact absurd h0 he
end Go.Bx
