/- Laws about functions of plain data, in plain Lean. -/
import Derived.Test.YtbfaahaoefngoaaGreatDoorLawsWorldPosts0
import Derived.Test.YtbfaahaoefngoaaGreatDoorFnWorldPosts0
import Derived.Test.YtbfaahaoefngoaaGreatDoorLawsWorldPosts1
open Int (emod_eq_of_lt emod_lt_of_pos emod_nonneg mul_comm)
open List (drop_zero replicate)
open Nat (pow_add)
open Option (bind_some)
set_option maxRecDepth 100000
set_option linter.unusedVariables false
set_option linter.unusedSimpArgs false
namespace Go.Bx
open Go
theorem Gj{A:List Int}{x:Int}{Bs:List Int}{n:Nat}(h:A.length=n):(A++x::Bs).getD n 0=x:=by grind
theorem KB{A:List Int}{x v:Int}{Bs:List Int}{n:Nat}(h:A.length=n):(A++x::Bs).set n v=A++v::Bs:=by subst h;simp
theorem qp{x y:Int}(hx:0<=x/\x<4294967296)(hy:0<=y/\y<4294967296):0<=x*y/\x*y<=18446744065119617025:=by refine⟨Int.mul_nonneg hx.1 hy.1,?_⟩;have:=Int.mul_le_mul (show x<=4294967295 by omega) (show y<=4294967295 by omega) hy.1 (by omega);omega
theorem zp{α:Type}(k:Nat)(Xt:List Int->Int->Int->List Int->Int->Int->List Int->Option α)(b:List Int)(hb:aM bY b)(hl:b.length<=1000000)(i:Nat)(hi:i<=1000000)(x:Int)(hx:0<=x/\x<4294967296)(x18:List Int)(x19 x20:Int)(z:List Int):
  ∀(n j:Nat)(A t:List Int)(cy:Int),A.length=i+j->t.length=b.length-j->j<=b.length->b.length-j<n->aM bY t->(0<=cy/\cy<4294967296)->
  ∃r cy',aI.l1 k Xt n b (i:Int) x cy x18 x19 x20 b (b.length:Int) (j:Int) (A++(t++z))=Xt b (i:Int) cy' x18 x19 x20 (A++(r++z))/\r.length=t.length/\aM bY r/\(0<=cy'/\cy'<4294967296)/\val bY r+bY^t.length*cy'=val bY t+x*val bY (b.drop j)+cy
 |0,j,A,t,cy,_,_,_,h,_,_=>by omega
 |n+1,j,A,t,cy,hA,ht,hj,h,hd,hc=>by
  by_cases hlt:j<b.length
  ·obtain⟨t0,t',rfl⟩:∃t0 t',t=t0::t':=by
    cases t with
    |nil=>simp at ht;omega
    |cons a l=>exact⟨a,l,rfl⟩
   obtain⟨d0,d1⟩:=dz.1 hd;have dy:=di fy hb j;simp only[bY]at d0 dy;have hP:=qp hx dy;obtain⟨r,cy',e1,e2,e3,e4,e5⟩:=zp k Xt b hb hl i hi x hx x18 x19 x20 z n (j+1) (A++[(x*b.getD j 0+t0+cy)%4294967296]) t' ((x*b.getD j 0+t0+cy)/4294967296) (by simp;omega) (by simp at ht;omega) (by omega) (by omega) d1 (by omega);refine⟨(x*b.getD j 0+t0+cy)%4294967296::r,cy',?_,by simp[e2],dz.2 ⟨by simp only[bY];omega,e3⟩,e4,?_⟩
   ·simp only[aI.l1,aI.ly];have ew:IntKind.i64.wrap ((i:Int)+(j:Int))=((i+j:Nat):Int):=by
     grind[wrap_i64]
    have hlen:i+j<(A++(t0::t'++z)).length:=by simp;omega
    have eg:(A++(t0::t'++z)).getD (i+j) 0=t0:=Gj hA;have es:∀v,(A++(t0::t'++z)).set (i+j) v=A++[v]++(t'++z):=fun v=>by grind
    rw[if_pos (by simp;omega),if_pos (by omega),ew,if_pos (by omega),if_pos (by omega),ae,ae,eg,es,ax (by omega)];rw[aY (x:=x*b.getD j 0) (by omega) (by omega),aY (x:=x*b.getD j 0+t0) (by omega) (by omega),aY (x:=x*b.getD j 0+t0+cy) (by omega) (by omega),ji (by omega),jF (by omega),aY (x:=(x*b.getD j 0+t0+cy)/4294967296) (by omega) (by omega)];rw[e1];simp
   ·rw[iB bY b j];simp only[val,List.length_cons,Int.pow_succ];grind
  ·have ht0:t=[]:=List.eq_nil_of_length_eq_zero (by omega);subst ht0;refine⟨[],cy,?_,rfl,iv,hc,?_⟩
   ·simp_all[aI.l1,aI.ly,if_neg]
   grind[val]
theorem zq{α:Type}(k:Nat)(Xt:List Int->Option α)(a b:List Int)(ha:aM bY a)(hb:aM bY b)(hal:a.length<=1000000)(hl:b.length<=1000000)(hk:b.length<k):
  ∀(n i:Nat)(p:List Int),p.length=i+b.length->i<=a.length->a.length-i<n->aM bY p->
  ∃r,aI.l0 k Xt n b a (a.length:Int) (i:Int) (p++replicate (a.length-i) 0)=Xt r/\r.length=a.length+b.length/\aM bY r/\val bY r=val bY p+bY^i*(val bY (a.drop i)*val bY b)
 |0,i,p,_,_,h,_=>by omega
 |n+1,i,p,hp,hi,h,hd=>by
  by_cases hlt:i<a.length
  ·have dx:=di fy ha i;simp only[bY]at dx;have hsplit:p=p.take i++p.drop i:=(List.take_append_drop i p).symm;have hz:replicate (a.length-i) (0:Int)=0::replicate (a.length-(i+1)) 0:=by
    rw[show a.length-i=(a.length-(i+1))+1 by omega,List.replicate_succ]
   obtain⟨r,cy,e1,e2,e3,e4,e5⟩:=zp k (fun(x1:List Int)(x6:Int)(x8:Int)(x18:List Int)(x19:Int)(x20:Int)(c17:List Int)=>aI.j0 (aI.l0 k Xt n) x1 x6 x8 x18 x19 x20 c17) b hb hl i (by omega) (a.getD i 0) dx a (a.length:Int) (i:Int) (replicate (a.length-i) 0) k 0 (p.take i) (p.drop i) 0 (by simp;omega) (by simp;omega) (by omega) (by omega) (qh hd i) (by omega);have hpl:(p.drop i).length=b.length:=by simp;omega
   have hnew:(p.take i++r++[cy]).length=(i+1)+b.length:=by simp;omega
   have dnew:aM bY (p.take i++r++[cy]):=nz (nz (mU hd i) e3) (dz.2 ⟨by simp only[bY];omega,iv⟩);obtain⟨r2,f1,f2,f3,f4⟩:=zq k Xt a b ha hb hal hl hk n (i+1) (p.take i++r++[cy]) hnew (by omega) (by omega) dnew;refine⟨r2,?_,f2,f3,?_⟩
   ·simp only[aI.l0,aI.aR];have ep:p++replicate (a.length-i) 0=p.take i++(p.drop i++replicate (a.length-i) 0):=by
     grind
    rw[if_pos (by simp;omega),if_pos (by omega),ae,ep];refine Eq.trans e1 ?_;unfold aI.j0 aI.j1;have ew:IntKind.i64.wrap ((i:Int)+(b.length:Int))=((i+b.length:Nat):Int):=by grind[wrap_i64]
    have hlen2:(p.take i++r).length=i+b.length:=by simp;omega
    have es:(p.take i++(r++replicate (a.length-i) 0)).set (i+b.length) cy=p.take i++r++[cy]++replicate (a.length-(i+1)) 0:=by grind[KB]
    rw[ew,if_pos (by simp;omega),ae,es,ax (by omega)];exact f1
   ·rw[f4,ir,ir,hlen_aux hp e2 hpl];rw[iB bY a i];have hv:val bY p=val bY (p.take i)+bY^i*val bY (p.drop i):=by
     grind[ir]
    rw[hv];rw[hpl]at e5;simp only[val,Int.mul_zero,Int.add_zero,drop_zero]at e5⊢;grind
  ·have hil:i=a.length:=by omega
   refine⟨p,?_,by omega,hd,?_⟩
   ·simp_all[aI.l0,aI.aR]
   grind[val]
where
 hlen_aux {p r:List Int} {i lb:Nat} (hp:p.length=i+lb) (e2:r.length=(p.drop i).length) (hpl:(p.drop i).length=lb):(p.take i++r).length=i+lb:=by grind
theorem xA(n:Nat):aM bY (replicate n 0):=fun d hd=>by grind
theorem val_zero(B:Int):∀n,val B (replicate n 0)=0
 |0=>rfl
 |n+1=>by rw[List.replicate_succ];simp[val,val_zero B n]
theorem mX{a b:List Int}(ha:aM bY a)(hb:aM bY b)(hal:a.length<=1000000)(hl:b.length<=1000000):
  ∃r,aI.run a b=some r/\r.length=a.length+b.length/\aM bY r/\val bY r=val bY a*val bY b:=by
 unfold aI.run aI.top aI.j2;have ew:IntKind.i64.wrap ((a.length:Int)+(b.length:Int))=((a.length+b.length:Nat):Int):=by grind[wrap_i64]
 have h0:=fun N(hN:a.length<N)(hk:b.length<N)=>zq N (fun(c17:List Int)=>some c17) a b ha hb hal hl hk N 0 (replicate b.length 0) (by simp) (by omega) (by omega) (xA _);obtain⟨r,e1,e2,e3,e4⟩:=h0 fuel (by rw[ai];omega) (by rw[ai];omega);refine⟨r,?_,e2,e3,?_⟩
 ·rw[ew,ae,if_pos ⟨by omega,rfl,aK (by omega) (by decide)⟩];rw[Nat.add_comm a.length,<-List.replicate_append_replicate];exact e1
 ·rw[e4,val_zero];simp
theorem HA{x:Int}(h:0<=x/\x<18446744073709551616):fS .u64 x 32=x/4294967296:=by unfold fS;have h1:min (32:Int).toNat IntKind.u64.bits=32:=rfl;grind
theorem H4{x:Int}(h:0<=x/\x<18446744073709551616):cS .u64 x 4294967295=x%4294967296:=by
 obtain⟨X,rfl⟩:∃X:Nat,x=(X:Int):=⟨x.toNat,by omega⟩
 have:=jZ (X:=X) (Y:=4294967295) (by omega) (by decide);have e:((4294967295:Nat):Int)=4294967295:=rfl;rw[e]at this;rw[this];have h2:X&&&4294967295=X%4294967296:=Nat.and_two_pow_sub_one_eq_mod X 32;rw[h2];rfl
theorem LZ{x y:Int}(hx:0<=x/\x<18446744073709551616)(hy:0<=y/\y<18446744073709551616):
  ∃hi lo,jd.run x y=some (hi,lo,())/\(0<=hi/\hi<18446744073709551616)/\(0<=lo/\lo<18446744073709551616)/\hi*18446744073709551616+lo=x*y:=by
 have hx0:0<=x%4294967296/\x%4294967296<4294967296:=by omega
 have hx1:0<=x/4294967296/\x/4294967296<4294967296:=by omega
 have hy0:0<=y%4294967296/\y%4294967296<4294967296:=by omega
 have hy1:0<=y/4294967296/\y/4294967296<4294967296:=by omega
 have p00:=qp hx0 hy0;have p01:=qp hx0 hy1;have p10:=qp hx1 hy0;have p11:=qp hx1 hy1;have exy:x*y=(x/4294967296)*(y/4294967296)*18446744073709551616+((x/4294967296)*(y%4294967296)+(x%4294967296)*(y/4294967296))*4294967296+(x%4294967296)*(y%4294967296):=by grind
 unfold jd.run jd.top;rw[HA hx,HA hy,H4 hx,H4 hy,exy];generalize (x/4294967296)*(y/4294967296)=P11 at p11⊢;generalize (x/4294967296)*(y%4294967296)=P10 at p10⊢;generalize (x%4294967296)*(y/4294967296)=P01 at p01⊢;generalize (x%4294967296)*(y%4294967296)=P00 at p00⊢;rw[aY (x:=P00) (by omega) (by omega),HA (x:=P00) (by omega),aY (x:=P10) (by omega) (by omega),aY (x:=P01) (by omega) (by omega),aY (x:=P11) (by omega) (by omega),
  aY (x:=P10+P00/4294967296) (by omega) (by omega),H4 (x:=P10+P00/4294967296) (by omega),HA (x:=P10+P00/4294967296) (by omega),
  aY (x:=(P10+P00/4294967296)%4294967296+P01) (by omega) (by omega),HA (x:=(P10+P00/4294967296)%4294967296+P01) (by omega),
  aY (x:=P11+(P10+P00/4294967296)/4294967296) (by omega) (by omega),aY (x:=P11+(P10+P00/4294967296)/4294967296+((P10+P00/4294967296)%4294967296+P01)/4294967296) (by omega) (by omega),mL]
 refine⟨_,_,rfl,by omega,by omega,by omega⟩
theorem OH{x y:Int}(hx:0<=x/\x<18446744073709551616)(hy:0<=y/\y<18446744073709551616):0<=x*y/\x*y<=340282366920938463426481119284349108225:=by refine⟨Int.mul_nonneg hx.1 hy.1,?_⟩;have:=Int.mul_le_mul (show x<=18446744073709551615 by omega) (show y<=18446744073709551615 by omega) hy.1 (by omega);omega
theorem DC{α:Type}(k:Nat)(Xt:Int->Int->List Int->Int->List Int->List Int->List Int->List Int->Option α)(b:List Int)(hb:aM ah b)(hbl:b.length=4)(i:Nat)(hi:i<4)(x:Int)(hx:0<=x/\x<18446744073709551616)(x15:List Int)(x16:Int)(c3 c4 c5 z:List Int):
  ∀(n j:Nat)(A t:List Int)(cy:Int),A.length=i+j->t.length=4-j->j<=4->4-j<n->(A++(t++z)).length=8->aM ah t->(0<=cy/\cy<18446744073709551616)->
  ∃r cy',fq.l1 k Xt n (i:Int) x cy x15 x16 b (j:Int) c3 c4 c5 (A++(t++z))=Xt (i:Int) cy' x15 x16 c3 c4 c5 (A++(r++z))/\r.length=t.length/\aM ah r/\(0<=cy'/\cy'<18446744073709551616)/\val ah r+ah^t.length*cy'=val ah t+x*val ah (b.drop j)+cy
 |0,j,A,t,cy,_,_,_,h,_,_,_=>by omega
 |n+1,j,A,t,cy,hA,ht,hj,h,h8,hd,hc=>by
  by_cases hlt:j<4
  ·obtain⟨t0,t',rfl⟩:∃t0 t',t=t0::t':=by
    cases t with
    |nil=>simp at ht;omega
    |cons a l=>exact⟨a,l,rfl⟩
   obtain⟨d0,d1⟩:=dz.1 hd;have dy:=di dO hb j;simp only[ah]at d0 dy;have hP:=OH hx dy;obtain⟨hh,lo,m1,m2,m3,m4⟩:=LZ hx dy;obtain⟨l2,o2,a1,a2,a3,a4⟩:=mR m3 d0 (c:=0) (by omega);obtain⟨l3,o3,b1,b2,b3,b4⟩:=mR a2 hc (c:=0) (by omega);have hcy:0<=hh+o2+o3/\hh+o2+o3<18446744073709551616:=by omega
   obtain⟨r,cy',e1,e2,e3,e4,e5⟩:=DC k Xt b hb hbl i hi x hx x15 x16 c3 c4 c5 z n (j+1) (A++[l3]) t' (hh+o2+o3) (by simp;omega) (by simp at ht;omega) (by omega) (by omega) (by simp at h8⊢;omega) d1 hcy;refine⟨l3::r,cy',?_,by simp[e2],dz.2 ⟨by simp only[ah];omega,e3⟩,e4,?_⟩
   ·simp only[fq.l1,fq.ly];have ew:IntKind.i64.wrap ((i:Int)+(j:Int))=((i+j:Nat):Int):=by
     grind[wrap_i64]
    have eg:(A++(t0::t'++z)).getD (i+j) 0=t0:=Gj hA;have es:∀v,(A++(t0::t'++z)).set (i+j) v=A++[v]++(t'++z):=fun v=>by grind
    rw[if_pos (by simp;omega),if_pos (by omega),ew,ae,ae,m1];simp only[bind_some];rw[if_pos (by omega),eg,a1];simp only[bind_some];rw[b1];simp only[bind_some];rw[if_pos (by omega),es,ax (by omega),aY (x:=hh+o2) (by omega) (by omega),aY (x:=hh+o2+o3) (by omega) (by omega)];rw[e1];simp
   ·rw[iB ah b j];simp only[val,List.length_cons,Int.pow_succ];grind
  ·have ht0:t=[]:=List.eq_nil_of_length_eq_zero (by omega);subst ht0;refine⟨[],cy,?_,rfl,iv,hc,?_⟩
   ·simp only[fq.l1,fq.ly];grind
   grind[val]
theorem DD{α:Type}(k:Nat)(Xt:List Int->List Int->List Int->Option α)(a b:List Int)(ha:aM ah a)(hb:aM ah b)(hal:a.length=4)(hl:b.length=4)(hk:4<k)(c4 c5:List Int):
  ∀(n i:Nat)(p:List Int),p.length=i+4->i<=4->4-i<n->aM ah p->
  ∃r,fq.l0 k Xt n a (i:Int) b c4 c5 (p++replicate (4-i) 0)=Xt c4 c5 r/\r.length=8/\aM ah r/\val ah r=val ah p+ah^i*(val ah (a.drop i)*val ah b)
 |0,i,p,_,_,h,_=>by omega
 |n+1,i,p,hp,hi,h,hd=>by
  by_cases hlt:i<4
  ·have dx:=di dO ha i;simp only[ah]at dx;have hsplit:p=p.take i++p.drop i:=(List.take_append_drop i p).symm;have hz:replicate (4-i) (0:Int)=0::replicate (4-(i+1)) 0:=by
    rw[show 4-i=(4-(i+1))+1 by omega,List.replicate_succ]
   obtain⟨r,cy,e1,e2,e3,e4,e5⟩:=DC k (fun(x7:Int)(x9:Int)(x15:List Int)(x16:Int)(c3:List Int)(c4:List Int)(c5:List Int)(c6:List Int)=>fq.j0 (fq.l0 k Xt n) x7 x9 x15 x16 c3 c4 c5 c6) b hb hl i hlt (a.getD i 0) dx a (i:Int) b c4 c5 (replicate (4-i) 0) k 0 (p.take i) (p.drop i) 0 (by simp;omega) (by simp;omega) (by omega) (by omega) (by simp;omega) (qh hd i) (by omega);have hpl:(p.drop i).length=4:=by simp;omega
   have hnew:(p.take i++r++[cy]).length=(i+1)+4:=by simp;omega
   have dnew:aM ah (p.take i++r++[cy]):=nz (nz (mU hd i) e3) (dz.2 ⟨by simp only[ah];omega,iv⟩);obtain⟨r2,f1,f2,f3,f4⟩:=DD k Xt a b ha hb hal hl hk c4 c5 n (i+1) (p.take i++r++[cy]) hnew (by omega) (by omega) dnew;refine⟨r2,?_,f2,f3,?_⟩
   ·simp only[fq.l0,fq.aR];have ep:p++replicate (4-i) 0=p.take i++(p.drop i++replicate (4-i) 0):=by
     grind
    rw[if_pos (by simp;omega),if_pos (by omega),ae,ep];refine Eq.trans e1 ?_;unfold fq.j0 fq.j1;have ew:IntKind.i64.wrap ((i:Int)+4)=((i+4:Nat):Int):=by grind[wrap_i64]
    have hlen2:(p.take i++r).length=i+4:=by simp;omega
    have es:(p.take i++(r++replicate (4-i) 0)).set (i+4) cy=p.take i++r++[cy]++replicate (4-(i+1)) 0:=by grind[KB]
    rw[ew,if_pos (by omega),ae,es,ax (by omega)];exact f1
   ·rw[f4,ir,ir,show(p.take i++r).length=i+4 by simp;omega];rw[iB ah a i];have hv:val ah p=val ah (p.take i)+ah^i*val ah (p.drop i):=by
     grind[ir]
    rw[hv];rw[hpl]at e5;simp only[val,Int.mul_zero,Int.add_zero,drop_zero]at e5⊢;grind
  ·have hil:i=4:=by omega
   subst hil;refine⟨p,?_,by omega,hd,?_⟩
   ·simp_all[fq.l0,fq.aR]
   grind[val]
theorem EL{l:List Int}(h:l.length=8):∃a b c d e f g i,l=[a,b,c,d,e,f,g,i]:=by
 match l,h with
 |[a,b,c,d,e,f,g,i],_=>exact⟨a,b,c,d,e,f,g,i,rfl⟩
theorem HQ{l m:List Int}(hl:l.length=4)(hm:m.length=4)(dl:aM ah l)(dm:aM ah m):
  ∃r s,fq.run l m=some (r,s,())/\r.length=4/\s.length=4/\aM ah r/\aM ah s/\val ah r+aB*val ah s=val ah l*val ah m:=by
 unfold fq.run fq.top;have hz:aM ah [0,0,0,0]:=fun d hd=>by grind
 have h0:=fun N(hN:5<N)=>DD N (fun(c4:List Int)(c5:List Int)(c6:List Int)=>fq.j2 (fun(c4:List Int)(c5:List Int)=>some (c4,c5,())) c4 c5 c6) l m dl dm hl hm (by omega) [0,0,0,0] [0,0,0,0] N 0 [0,0,0,0] rfl (by omega) (by omega) hz;obtain⟨r,e1,e2,e3,e4⟩:=h0 fuel (by rw[ai];omega);obtain⟨a,b,c,d,e,f,g,i,rfl⟩:=EL e2;refine⟨[a,b,c,d],[e,f,g,i],e1,rfl,rfl,mU e3 4,qh e3 4,?_⟩;simp only[drop_zero]at e4;have ez:val ah [0,0,0,0]=0:=rfl;rw[ez,Int.pow_zero,Int.one_mul,Int.zero_add]at e4;rw[<-e4];simp only[val,ah,aB];omega
def dec:Int->List Int->Int
 |v,[]=>v
 |v,c::l=>dec (v*10+(c-48)) l
def wE(c:Int):Bool:=decide (48<=c/\c<=57)
def nR(l:List Int):Bool:=l.all wE
theorem OL(c:Int):cond (decide (c<48)) true (decide (c>57))= !(wE c):=by unfold wE;grind
theorem Z4:aM ah [0,0,0,0]/\val ah [0,0,0,0]=0:=⟨fun d hd=>by
  simp only[List.mem_cons,List.not_mem_nil,or_false]at hd;simp only[ah];omega,rfl⟩
theorem Ph{d:Int}(h:0<=d/\d<18446744073709551616):aM ah [d,0,0,0]/\val ah [d,0,0,0]=d:=by
 constructor
 ·intro x hx;grind
 ·simp[val]
theorem F5{d:Int}(h:0<=d/\d<4294967296):aM bY [d]/\val bY [d]=d:=
 ⟨dz.2 ⟨h,iv⟩,by simp[val]⟩
theorem Lf{c:Int}(h:wE c=true):IntKind.u64.wrap (IntKind.u8.wrap (c-48))=c-48:=by unfold wE at h;rw[decide_eq_true_eq]at h;grind[wrap_u8,aY]
theorem uI{α:Type}(k:Nat)(Rt:Int->List Int->Option α)(Xt:List Int->List Int->Option α)(s:List Int)(hs:s.length<=78)(c2:List Int):∀(n i:Nat)(x:List Int),i<=s.length->s.length-i<n->aM bY x->x.length<=3*i->
  (nR (s.drop i)=true->∃r,bq.l0 k Rt Xt n s x (i:Int) c2=Xt r c2/\aM bY r/\r.length<=300/\val bY r=dec (val bY x) (s.drop i))/\
  (nR (s.drop i)=false->bq.l0 k Rt Xt n s x (i:Int) c2=Rt 3 [0,0,0,0])
 |0,i,x,_,h,_,_=>by omega
 |n+1,i,x,hi,h,hd,hx=>by
  by_cases hlt:i<s.length
  ·have hdrop:s.drop i=s[i]::s.drop (i+1):=List.drop_eq_getElem_cons hlt;have hg:s.getD i 0=s[i]:=getD_eq hlt;rw[hdrop];have hall:nR (s[i]::s.drop (i+1))=(wE s[i]&&nR (s.drop (i+1))):=by unfold nR;rw[List.all_cons]
   rw[hall];have hc1:(decide (0<=(i:Int)/\(i:Int)<(s.length:Int))|| !((decide (s[i]<48))==false))=true:=by grind
   cases hdig:wE s[i]with
   |false=>refine⟨fun h=>by simp at h,fun _=>?_⟩;simp only[bq.l0,bq.aR];rw[if_pos (dT (by omega)),if_pos (by omega),ae,hg,hc1];simp only[cond_true];rw[if_pos (by rw[OL,hdig];rfl)]
   |true=>
    have hd10:=F5 (d:=10) (by omega);obtain⟨t,t1,t2,t3,t4⟩:=mX hd hd10.1 (by omega) (by simp);have hdv:0<=s[i]-48/\s[i]-48<4294967296:=by unfold wE at hdig;rw[decide_eq_true_eq]at hdig;omega
    have hdd:=F5 hdv;obtain⟨p,p1,p2,p3,p4⟩:=nG t3 hdd.1 (by simp at t2;omega) (by simp);obtain⟨q,q1,q2,q3,q4,q5⟩:=t9 (by simp at t2 p2;omega) p3;have step:bq.l0 k Rt Xt (n+1) s x (i:Int) c2=bq.l0 k Rt Xt n s q ((i+1:Nat):Int) c2:=by simp only[bq.l0,bq.aR];rw[if_pos (dT (by omega)),if_pos (by omega),ae,hg,hc1];simp only[cond_true];rw[if_neg (by rw[OL,hdig];simp),t1];simp only[bind_some];rw[if_pos (by omega),Lf hdig,p1];grind[ax]
    have hv:val bY q=val bY x*10+(s[i]-48):=by rw[q4,p4,t4,hd10.2,hdd.2]
    have ih:=uI k Rt Xt s hs c2 n (i+1) q (by omega) (by omega) q3 (by simp at t2 p2;omega);rw[step];simp only[Bool.true_and,dec];rw[hv]at ih;exact ih
  ·have hil:i=s.length:=by omega
   have hdrop:s.drop i=[]:=List.drop_eq_nil_of_le (by omega);rw[hdrop];refine⟨fun _=>⟨x,?_,hd,by omega,rfl⟩,fun h=>by simp[nR]at h⟩;simp_all[bq.l0,bq.aR]
def Bv(s:List Int):Int:=
 if s.length>78 then 1 else if s=[]\/(s.length>1/\s.getD 0 0=48)then 3 else if nR s=true then(if dec 0 s<aB then 0 else 6)else 3
theorem Ay:∀(l:List Int)(v:Int),0<=v->nR l=true->0<=dec v l
 |[],v,hv,_=>hv
 |c::l,v,hv,h=>by simp only[nR,List.all_cons,Bool.and_eq_true]at h;have hc:=h.1;unfold wE at hc;rw[decide_eq_true_eq]at hc;exact Ay l _ (by omega) h.2
theorem L4(s:List Int):∃w,bq.run s=some (w,Bv s,())/\w.length=4/\aM ah w/\val ah w=if Bv s=0 then dec 0 s else 0:=by
 unfold bq.run bq.top Bv;by_cases c1:s.length>78
 ·rw[if_pos (dT (by omega)),if_pos c1];exact⟨_,rfl,rfl,Z4.1,by simp[val]⟩
 ·rw[if_neg (dF (by omega)),if_neg c1];have hb:(decide (0<=(0:Int)/\(0:Int)<(s.length:Int))|| !((az .str s [])==false))=true:=by
   cases s with
   |nil=>rfl
   |cons a l=>rw[Bool.or_eq_true];left;rw[decide_eq_true_eq];simp<;>omega
  rw[hb];simp only[cond_true];have hcond:(cond (az .str s []) true (cond ((s.getD 0 0)==48) (not (az .str s [48])) false))=decide (s=[]\/(s.length>1/\s.getD 0 0=48)):=by
   rw[Bool.eq_iff_iff,decide_eq_true_eq]
   match s with
   |[]=>simp[az]
   |[a]=>by_cases ha:a=48<;>simp[az,List.getD,ha]
   |a::b::l=>by_cases ha:a=48<;>simp[az,List.getD,ha]
  rw[hcond];by_cases c2:s=[]\/(s.length>1/\s.getD 0 0=48)
  ·rw[if_pos (by simpa using c2),if_pos c2];exact⟨_,rfl,rfl,Z4.1,by simp[val]⟩
  ·rw[if_neg (by simpa using c2),if_neg c2];have:=fun N(hN:s.length<N)=>uI N (fun(x3:Int)(c2:List Int)=>some (c2,x3,())) (fun(x4:List Int)(c2:List Int)=>bq.j0 (fun(x3:Int)(c2:List Int)=>some (c2,x3,())) x4 c2) s (by omega) [0,0,0,0] N 0 [] (by omega) (by omega) iv (by simp);obtain⟨k1,k2⟩:=this fuel (by rw[ai];omega);rw[drop_zero]at k1 k2;cases hall:nR s with
   |false=>
    refine⟨[0,0,0,0],Eq.trans (k2 hall) ?_,rfl,Z4.1,?_⟩
    ·rw[if_neg (by simp)]
    ·rw[if_neg (by simp)];rfl
   |true=>
    obtain⟨r,r1,r2,r3,r4⟩:=k1 hall;have hv0:val bY []=0:=rfl;rw[hv0]at r4;obtain⟨w,f,w1,w2,w3,w4,w5⟩:=kK r2 (by omega);rw[r4]at w4;have w6:f=true↔aB<=dec 0 s:=by rw[<-r4];exact w5
    have hn:=Ay s 0 (by omega) hall;rw[if_pos rfl];by_cases hlt:dec 0 s<aB
    ·have hf:¬f=true:=fun h=>by have:=w6.1 h;omega
     simp only[if_pos hlt];refine⟨w,Eq.trans r1 ?_,w2,w3,?_⟩
     ·unfold bq.j0;rw[w1];simp only[bind_some];rw[if_neg hf]
     ·rw[if_pos trivial,w4];exact emod_eq_of_lt hn hlt
    ·have hf:f=true:=w6.2 (by omega);simp only[if_neg hlt];refine⟨[0,0,0,0],Eq.trans r1 ?_,rfl,Z4.1,rfl⟩;unfold bq.j0;rw[w1];simp only[bind_some];rw[if_pos hf]
def iZ:Nat->Int
 |0=>1
 |n+1=>iZ n*10
theorem DP:∀n,0<iZ n
 |0=>by decide
 |n+1=>by have:=DP n;simp only[iZ];omega
theorem Ja{m n:Nat}(h:m<=n):iZ m<=iZ n:=by
 induction n with
 |zero=>
  have:m=0:=by omega
  subst this;exact Int.le_refl _
 |succ n ih=>
  by_cases hm:m=n+1
  ·subst hm;exact Int.le_refl _
  ·have:=ih (by omega);have:=DP n;simp only[iZ];omega
theorem Hl{n:Nat}(h:n<=77):iZ n<aB:=by have h1:=Ja h;have h2:iZ 77=100000000000000000000000000000000000000000000000000000000000000000000000000000:=rfl;grind
theorem HK{α:Type}(k:Nat)(Xt:List Int->List Int->Option α)(m:Nat)(hm:m<=77)(c2:List Int):∀(n i:Nat)(x:List Int),i<=m->m-i<n->x.length=4->aM ah x->val ah x=iZ i->
  ∃r,lG.l0 k Xt n (m:Int) (i:Int) c2 x=Xt c2 r/\r.length=4/\aM ah r/\val ah r=iZ m
 |0,i,x,_,h,_,_,_=>by omega
 |n+1,i,x,hi,h,hx,hd,hv=>by
  simp only[lG.l0,lG.aR];by_cases hlt:i<m
  ·have ten:=Ph (d:=10) (by omega);obtain⟨lo,hh,m1,m2,m3,m4,m5,m6⟩:=HQ hx (by rfl:[10,0,0,0].length=4) hd ten.1;rw[if_pos (dT (by omega)),m1];simp only[bind_some];rw[ax (by omega)];have bl:=fp m2 m4;have bh:=fp m3 m5;rw[ten.2,hv]at m6;have hp:=Hl (show i+1<=77 by omega);simp only[iZ]at hp;refine HK k Xt m hm c2 n (i+1) lo (by omega) (by omega) m2 m4 ?_;simp only[iZ,aB]at*;omega
  grind
theorem PB(x:Int):∃w,lG.run x=some (w,(if 0<=x/\x<=77 then 0 else 6),())/\w.length=4/\aM ah w/\val ah w=if 0<=x/\x<=77 then iZ x.toNat else 0:=by
 unfold lG.run lG.top;by_cases h:0<=x/\x<=77
 ·obtain⟨m,rfl⟩:∃m:Nat,x=(m:Int):=⟨x.toNat,by omega⟩
  have h1:cond (decide ((m:Int)<0)) true (decide ((m:Int)>=78))=false:=by rw[bS];simp;omega
  rw[h1,if_neg (by simp),if_pos h,if_pos h];have one:=Ph (d:=1) (by omega);have:=fun N(hN:m<N)=>HK N (fun(c2:List Int)(c4:List Int)=>lG.j0 (fun(x3:Int)(c2:List Int)=>some (c2,x3,())) c2 c4) m (by omega) [0,0,0,0] N 0 [1,0,0,0] (by omega) (by omega) rfl one.1 one.2;obtain⟨r,r1,r2,r3,r4⟩:=this fuel (by rw[ai];omega);exact⟨r,r1,r2,r3,r4⟩
 ·have h1:cond (decide (x<0)) true (decide (x>=78))=true:=by rw[bS];simp;omega
  rw[h1,if_pos rfl,if_neg h,if_neg h];exact⟨_,rfl,rfl,Z4.1,rfl⟩
theorem Eh{α:Type}(k:Nat)(Xt:List Int->List Int->Option α)(m:Nat)(hm:m<=77)(c2:List Int):∀(n i:Nat),i<=m->m-i<n->
  dL.l0 k Xt n (49::replicate i 48) (m:Int) (i:Int) c2=Xt (49::replicate m 48) c2
 |0,i,_,h=>by omega
 |n+1,i,hi,h=>by
  simp only[dL.l0,dL.aR];by_cases hlt:i<m
  ·have e:(49::replicate i (48:Int))++[48]=49::replicate (i+1) 48:=by
    grind[List.replicate_succ']
   rw[if_pos (dT (by omega)),if_pos (Nat.ble_eq_true_of_le (by simp;omega)),ax (by omega),e];exact Eh k Xt m hm c2 n (i+1) (by omega) (by omega)
  grind
theorem xz:∀(n:Nat)(v:Int),dec v (replicate n 48)=v*iZ n
 |0,v=>by simp[dec,iZ]
 |n+1,v=>by rw[List.replicate_succ];simp only[dec,iZ];rw[xz n];grind
theorem Hs(x:Int):∃w,dL.run x=some (w,(if 0<=x/\x<=77 then 0 else 6),())/\w.length=4/\aM ah w/\val ah w=if 0<=x/\x<=77 then iZ x.toNat else 0:=by
 unfold dL.run dL.top;by_cases h:0<=x/\x<=77
 ·obtain⟨m,rfl⟩:∃m:Nat,x=(m:Int):=⟨x.toNat,by omega⟩
  have h1:cond (decide ((m:Int)<0)) true (decide ((m:Int)>77))=false:=by rw[bS];simp;omega
  rw[h1,if_neg (by simp),if_pos h,if_pos h];have:=fun N(hN:m<N)=>Eh N (fun(x4:List Int)(c2:List Int)=>dL.j0 (fun(x3:Int)(c2:List Int)=>some (c2,x3,())) x4 c2) m (by omega) [0,0,0,0] N 0 (by omega) (by omega);have hrun:=this fuel (by rw[ai];omega);obtain⟨w,w1,w2,w3,w4⟩:=L4 (49::replicate m 48);have hE:Bv (49::replicate m 48)=0:=by
   unfold Bv;have hall:nR (49::replicate m 48)=true:=by
    unfold nR;rw[List.all_eq_true];intro c hc;rcases List.mem_cons.1 hc with rfl|hc
    ·rfl
    ·rw[List.mem_replicate]at hc;rw[hc.2];rfl
   have hd:dec 0 (49::replicate m 48)=iZ m:=by grind[dec,xz]
   rw[if_neg (by simp;omega),if_neg (by simp[List.getD]),if_pos hall,hd,if_pos (Hl (by omega))]
  have hd:dec 0 (49::replicate m 48)=iZ m:=by grind[dec,xz]
  rw[hE]at w1 w4;refine⟨w,Eq.trans hrun ?_,w2,w3,?_⟩
  ·grind[dL.j0]
  grind
 ·have h1:cond (decide (x<0)) true (decide (x>77))=true:=by rw[bS];simp;omega
  rw[h1,if_pos rfl,if_neg h,if_neg h];exact⟨_,rfl,rfl,Z4.1,rfl⟩
def jK(n:Nat):Nat:=n-8
theorem SX{n:Nat}(h:n<=77):(if 0>(IntKind.i64.wrap ((n:Int)-8))then 0 else(IntKind.i64.wrap ((n:Int)-8)))=((jK n:Nat):Int)/\(if(IntKind.i64.wrap ((n:Int)-8))>0 then(IntKind.i64.wrap ((n:Int)-8))else 0)=((jK n:Nat):Int):=by grind[wrap_i64,jK]
theorem AD(x:Int):∃w,jf.run x=some (w,(if 0<=x/\x<=77 then 0 else 6),())/\w.length=4/\aM ah w/\(0<=x/\x<=77->val ah w=iZ (jK x.toNat)):=by
 unfold jf.run jf.top;by_cases h:0<=x/\x<=77
 ·obtain⟨m,rfl⟩:∃m:Nat,x=(m:Int):=⟨x.toNat,by omega⟩
  have h1:cond (decide ((m:Int)<0)) true (decide ((m:Int)>=78))=false:=by rw[bS];simp;omega
  rw[h1,if_neg (by simp),if_pos h,(SX (by omega)).1];obtain⟨w,w1,w2,w3,w4⟩:=PB ((jK m:Nat):Int);have hf:0<=((jK m:Nat):Int)/\((jK m:Nat):Int)<=77:=by unfold jK;omega
  grind
 ·have h1:cond (decide (x<0)) true (decide (x>=78))=true:=by rw[bS];simp;omega
  rw[h1,if_pos rfl,if_neg h];exact⟨_,rfl,rfl,Z4.1,fun hx=>absurd hx h⟩
def KQ(v:Int)(x:Int):Int:=if 0<=x/\x<=77 then(if v*iZ (jK x.toNat)<aB then 0 else 13)else 6
theorem Pd{l:List Int}(hl:l.length=4)(dl:aM ah l)(x:Int):∃w,nI.run l x=some (w,KQ (val ah l) x,())/\w.length=4/\aM ah w/\val ah w=if KQ (val ah l) x=0 then val ah l*iZ (jK x.toNat)else 0:=by
 unfold nI.run nI.top KQ;obtain⟨f,f1,f2,f3,f4⟩:=AD x;rw[f1];simp only[bind_some];by_cases h:0<=x/\x<=77
 ·simp only[if_pos h];rw[if_neg (by simp)];obtain⟨lo,hi,m1,m2,m3,m4,m5,m6⟩:=HQ hl f2 dl f3;rw[m1];simp only[bind_some];rw[f4 h]at m6;have bl:=fp m2 m4;have bh:=fp m3 m5;have hz:az (.arr 4 (.int .u64)) hi [0,0,0,0]=decide (val ah l*iZ (jK x.toNat)<aB):=by
   rw[Bool.eq_iff_iff,decide_eq_true_eq];constructor
   ·intro e;have:=CR m3 rfl e;subst this;have e0:val ah [0,0,0,0]=0:=rfl;grind
   ·intro e;have:val ah hi=0:=by simp only[aB]at*;omega
    rw[jG m3 rfl m5 Z4.1 (by rw[this];rfl)];rfl
  rw[hz];by_cases hlt:val ah l*iZ (jK x.toNat)<aB
  ·grind
  ·simp only[if_neg hlt];rw[if_pos (by simp[hlt])];exact⟨_,rfl,rfl,Z4.1,rfl⟩
 ·simp only[if_neg h];rw[if_pos (by rfl)];exact⟨_,rfl,rfl,Z4.1,rfl⟩
theorem Je{l:List Int}(hl:l.length=4)(dl:aM ah l)(x:Int):∃w,fE.run l x=some (w,KQ (val ah l) x,())/\w.length=4/\aM ah w/\val ah w=if KQ (val ah l) x=0 then val ah l*iZ (jK x.toNat)else 0:=by
 unfold fE.run fE.top;by_cases h:0<=x/\x<=77
 ·obtain⟨m,rfl⟩:∃m:Nat,x=(m:Int):=⟨x.toNat,by omega⟩
  have h1:cond (decide ((m:Int)<0)) true (decide ((m:Int)>77))=false:=by rw[bS];simp;omega
  have hE:KQ (val ah l) (m:Int)=if val ah l*iZ (jK m)<aB then 0 else 13:=by unfold KQ;rw[if_pos h,Int.toNat_natCast]
  rw[h1,if_neg (by simp),(SX (by omega)).2];obtain⟨f,f1,f2,f3,f4⟩:=Hs ((jK m:Nat):Int);have hf:0<=((jK m:Nat):Int)/\((jK m:Nat):Int)<=77:=by unfold jK;omega
  rw[if_pos hf]at f1 f4;rw[Int.toNat_natCast]at f4;obtain⟨o1,e1,n1,g1,v1⟩:=gj hl dl;obtain⟨o2,e2,n2,g2,v2⟩:=gj f2 f3;obtain⟨p,e3,n3,g3,v3⟩:=mX g1 g2 (by omega) (by omega);obtain⟨w,o,e4,n4,g4,v4,f5⟩:=kK g3 (by omega);have hv:val bY p=val ah l*iZ (jK m):=by rw[v3,v1,v2,f4]
  rw[f1,bind_some,e1,bind_some,e2,bind_some,e3,bind_some,e4,bind_some];have f6:o=true↔aB<=val ah l*iZ (jK m):=hv▸f5;have hn:0<=val ah l*iZ (jK m):=by rw[<-hv];exact(dA fy g3).1
  rw[hE,Int.toNat_natCast];by_cases hlt:val ah l*iZ (jK m)<aB
  ·grind
  ·simp only[if_neg hlt];rw[if_pos (f6.2 (by omega))];exact⟨_,rfl,rfl,Z4.1,rfl⟩
 ·have h1:cond (decide (x<0)) true (decide (x>77))=true:=by rw[bS];simp;omega
  have hE:KQ (val ah l) x=6:=by unfold KQ;rw[if_neg h]
  rw[h1,if_pos rfl,hE];exact⟨_,rfl,rfl,Z4.1,rfl⟩
theorem GR{α:Type}(k:Nat)(Xt:List Int->Option α)(b:List Int)(L:Nat)(hL:L<=1000000):∀(n i:Nat)(br:Int)(c:List Int),i<=L->
  au.l0 k Xt n b br (L:Int) (i:Int) c=au.l0 k Xt n (b.take L) br (L:Int) (i:Int) c
 |0,_,_,_,_=>rfl
 |n+1,i,br,c,hi=>by
  simp only[au.l0,au.aR];by_cases hlt:i<L
  ·have h0:decide ((i:Int)<(L:Int))=true:=by rw[decide_eq_true_eq];omega
   have hj:∀x,au.j0 (au.l0 k Xt n) b (i:Int) x (L:Int) (i:Int) c=au.j0 (au.l0 k Xt n) (b.take L) (i:Int) x (L:Int) (i:Int) c:=fun x=>by unfold au.j0 au.j1;rw[ax (by omega)];have ih:=fun br c=>GR k Xt b L hL n (i+1) br c (by omega);simp only[ih]
   grind
  grind
theorem rn{a b:List Int}(ha:aM bY a)(hb:aM bY b)(h1:a.length<=1000000)(hle:val bY b<=val bY a):
  ∃r,au.run a b=some r/\r.length=a.length/\aM bY r/\val bY r=val bY a-val bY b:=by
 have ev:val bY (b.take a.length)=val bY b:=by
  by_cases hl:b.length<=a.length
  ·rw[List.take_of_length_le hl]
  ·have h0:=ir bY (b.take a.length) (b.drop a.length);rw[List.take_append_drop,List.length_take,Nat.min_eq_left (by omega)]at h0;have hd:=(dA fy (qh hb a.length)).1;have ht:=(dA fy (mU hb a.length)).1;have hA:=(dA fy ha).2;by_cases hz:val bY (b.drop a.length)=0
   ·grind
   ·have:=Int.mul_le_mul_of_nonneg_left (show 1<=val bY (b.drop a.length) by omega) (show 0<=bY^a.length from Int.le_of_lt (wQ fy _));omega
 obtain⟨r,e1,e2,e3,e4⟩:=BI ha (mU hb a.length) h1 (by rw[List.length_take];omega) (by omega);refine⟨r,?_,e2,e3,by omega⟩;rw[<-e1];unfold au.run au.top;rw[if_pos (by rw[aK (by omega) (by decide)];rfl),if_pos (by rw[aK (by omega) (by decide)];rfl)];have:=GR fuel (fun(c11:List Int)=>au.j2 (fun(c11:List Int)=>some c11) c11) b a.length h1 fuel 0 0 a (by omega);exact this
theorem F4{d:Int}(h:0<=d/\d<4294967296):aM bY [d]:=dz.2 ⟨h,iv⟩
theorem EI{W V q:Int}(hV:0<V)(h1:q*V<=W)(h2:W<(q+1)*V):W/V=q:=by
 have hn:=Int.mul_ediv_add_emod W V;have hm:=emod_nonneg W (show V≠0 by omega);have hl:=emod_lt_of_pos W hV;have e1:¬(W/V+1<=q):=fun h=>by have:=Int.mul_le_mul_of_nonneg_right h (show 0<=V by omega);grind
 have e2:¬(q+1<=W/V):=fun h=>by have:=Int.mul_le_mul_of_nonneg_right h (show 0<=V by omega);grind
 omega
theorem search{α:Type}(k:Nat)(Xt:List Int->List Int->Int->Int->List Int->List Int->Option α)(a b R c:List Int)(x:Int)(hb:aM bY b)(hbl:b.length<=1000)(hR:aM bY R)(hRl:R.length<=10000)(hV:0<val bY b):
  ∀(n:Nat)(lo hi:Int),0<=lo->lo<hi->hi<=4294967296->lo*val bY b<=val bY R->val bY R<hi*val bY b->hi-lo<(n:Int)->
  aN.l2 k Xt n a b x lo hi c R=Xt a b x (val bY R/val bY b) c R
 |0,lo,hi,_,h1,_,_,_,h=>by omega
 |n+1,lo,hi,h0,h1,h2,h3,h4,h=>by
  simp only[aN.l2,aN.vw];rw[aY (x:=hi-lo) (by omega) (by omega),aY (x:=lo+hi) (by omega) (by omega),ji (by omega),aY (x:=(lo+hi)/2) (by omega) (by omega)];by_cases hc:hi-lo>1
  ·rw[if_pos (by rw[decide_eq_true_eq];exact hc)];obtain⟨y,y1,y2,y3,y4⟩:=mX (a:=b) (b:=[(lo+hi)/2]) hb (F4 (by omega)) (by omega) (by simp);rw[y1,bind_some,nF y3 hR (by simp at y2;omega) (by omega),bind_some,y4];have e1:val bY [(lo+hi)/2]=(lo+hi)/2:=by simp[val]
   rw[e1,mul_comm];by_cases hm:(lo+hi)/2*val bY b<=val bY R
   ·rw[if_pos]
    ·exact search k Xt a b R c x hb hbl hR hRl hV n _ hi (by omega) (by omega) h2 hm h4 (by omega)
    grind
   ·rw[if_neg]
    ·exact search k Xt a b R c x hb hbl hR hRl hV n lo _ h0 (by omega) (by omega) h3 (by omega) (by omega)
    grind
  ·rw[if_neg (by rw[decide_eq_true_eq];exact hc)];grind[EI]
theorem set_drop(q:List Int)(i:Nat)(v:Int)(h:i<q.length):(q.set i v).drop i=v::q.drop (i+1):=by grind[List.drop_eq_getElem_cons,List.drop_set_of_lt]
theorem we{B:Int}{q:List Int}{v:Int}(i:Nat)(h:aM B q)(hv:0<=v/\v<B):aM B (q.set i v):=fun d hd=>by
 rcases List.mem_or_eq_of_mem_set hd with hd|rfl
 ·exact h d hd
 ·exact hv
theorem Dv{α:Type}(k:Nat)(hk:4294967296<k)(Xt:List Int->List Int->Option α)(a b:List Int)(ha:aM bY a)(hb:aM bY b)(hal:a.length<=1000)(hbl:b.length<=1000)(hV:0<val bY b):
  ∀(n i:Nat)(r q:List Int),i<n->i<=a.length->aM bY r->r.length<=a.length-i->q.length=a.length->aM bY q->val bY (q.drop i)*val bY b+val bY r=val bY (a.drop i)->val bY r<val bY b->
  ∃q' r',aN.l1 k Xt n a b r ((i:Int)-1) q=Xt r' q'/\q'.length=a.length/\aM bY q'/\aM bY r'/\r'.length<=a.length/\val bY q'*val bY b+val bY r'=val bY a/\val bY r'<val bY b
 |0,i,_,_,h,_,_,_,_,_,_,_=>by omega
 |n+1,0,r,q,h,hi,hr,hrl,hq,hqd,hv,hlt=>by refine⟨q,r,?_,hq,hqd,hr,by omega,by simpa using hv,hlt⟩;rfl
 |n+1,i+1,r,q,h,hi,hr,hrl,hq,hqd,hv,hlt=>by
  simp only[aN.l1,aN.ly];have ei:((i+1:Nat):Int)-1=(i:Int):=by omega
  rw[ei,if_pos (dT (by omega)),if_pos (by omega),ae];obtain⟨y,y1,y2,y3,y4,_⟩:=t9 (by omega) hr;rw[y1,bind_some,if_pos (by rw[aK (by omega) (by omega)])];have da:0<=a.getD i 0/\a.getD i 0<4294967296:=di fy ha i;have hRd:aM bY ([a.getD i 0]++y):=dz.2 ⟨da,y3⟩;have hRv:val bY ([a.getD i 0]++y)=a.getD i 0+4294967296*val bY r:=by rw[<-y4];rfl
  have hr0:=(dA fy hr).1;have hW0:=(dA fy hRd).1;have hW:val bY ([a.getD i 0]++y)<4294967296*val bY b:=by rw[hRv];omega
  rw[search k _ a b ([a.getD i 0]++y) q (i:Int) hb hbl hRd (by simp;omega) hV k 0 4294967296 (by omega) (by omega) (by omega) (by rw[Int.zero_mul];exact hW0) hW (by omega)];generalize hWe:val bY ([a.getD i 0]++y)=W at*;have hlo0:0<=W/val bY b:=Int.ediv_nonneg hW0 (by omega);have hlo1:W/val bY b<4294967296:=Int.ediv_lt_of_lt_mul hV hW;have hdm:=Int.mul_ediv_add_emod W (val bY b);have hm0:=emod_nonneg W (show val bY b≠0 by omega);have hm1:=emod_lt_of_pos W hV;unfold aN.j2 aN.j3;rw[if_pos (by omega),ae];obtain⟨p,p1,p2,p3,p4⟩:=mX (a:=b) (b:=[W/val bY b]) hb (F4 (by omega)) (by omega) (by simp);have e1:val bY [W/val bY b]=W/val bY b:=by simp[val]
  rw[e1]at p4;obtain⟨s,s1,s2,s3,s4⟩:=rn hRd p3 (by simp;omega) (by rw[hWe,p4];omega);rw[p1,bind_some,s1,bind_some];have ew:IntKind.i64.wrap ((i:Int)-1)=(i:Int)-1:=wrap_i64 (by omega) (by omega);rw[ew];have hsv:val bY s=W%val bY b:=by rw[s4,hWe,p4];omega
  refine Dv k hk Xt a b ha hb hal hbl hV n i s (q.set i (W/val bY b)) (by omega) (by omega) s3 (by rw[s2];simp;omega) (by simpa using hq) (we i hqd (show _/\_<(4294967296:Int) by omega)) ?_ (by omega);grind[set_drop,iB,val]
theorem BQ{α:Type}(k:Nat)(Xt:Int->List Int->Option α)(a:List Int)(y:Int)(ha:aM bY a)(hal:a.length<=1000)(hV:0<y/\y<4294967296):
  ∀(n i:Nat)(r:Int)(q:List Int),i<n->i<=a.length->0<=r->q.length=a.length->aM bY q->val bY (q.drop i)*y+r=val bY (a.drop i)->r<y->
  ∃q' r',aN.l0 k Xt n a y r ((i:Int)-1) q=Xt r' q'/\q'.length=a.length/\aM bY q'/\0<=r'/\val bY q'*y+r'=val bY a/\r'<y
 |0,i,_,_,h,_,_,_,_,_,_=>by omega
 |n+1,0,r,q,h,hi,hr,hq,hqd,hv,hlt=>by refine⟨q,r,?_,hq,hqd,hr,by simpa using hv,hlt⟩;rfl
 |n+1,i+1,r,q,h,hi,hr,hq,hqd,hv,hlt=>by
  simp only[aN.l0,aN.aR];have ei:((i+1:Nat):Int)-1=(i:Int):=by omega
  have da:0<=a.getD i 0/\a.getD i 0<4294967296:=di fy ha i;rw[ei,if_pos (dT (by omega)),if_pos (by omega),if_pos (by omega),if_pos (by omega),if_pos (by omega),ae];rw[aY (x:=r*4294967296) (by omega) (by omega),aY (x:=r*4294967296+a.getD i 0) (by omega) (by omega),ji (by omega),jF (by omega)];have ew:IntKind.i64.wrap ((i:Int)-1)=(i:Int)-1:=wrap_i64 (by omega) (by omega);rw[ew];generalize hWe:r*4294967296+a.getD i 0=W at*;have hW:W<4294967296*y:=by omega
  have hW0:0<=W:=by omega
  have hlo0:0<=W/y:=Int.ediv_nonneg hW0 (by omega);have hlo1:W/y<4294967296:=Int.ediv_lt_of_lt_mul hV.1 hW;have hdm:=Int.mul_ediv_add_emod W y;have hm0:=emod_nonneg W (show y≠0 by omega);have hm1:=emod_lt_of_pos W hV.1;rw[aY (x:=W/y) (by omega) (by omega)];refine BQ k Xt a y ha hal hV n i (W%y) (q.set i (W/y)) (by omega) (by omega) hm0 (by simpa using hq) (we i hqd (show _/\_<(4294967296:Int) by omega)) ?_ hm1;grind[set_drop,iB,val]
theorem Mc{l:List Int}(hl:l.length<=1000000)(hd:aM bY l):∃y ok,iL.run l=some (y,ok,())/\(0<=y/\y<bY)/\y=val bY l%bY/\(ok=true->val bY l=y):=by
 unfold iL.run iL.top;obtain⟨s,s1,s2,s3,s4,_⟩:=t9 hl hd;rw[s1,bind_some]
 match s,s3,s4 with
 |[],_,s4=>exact⟨0,true,rfl,by decide,by rw[<-s4];rfl,fun _=>by rw[<-s4];rfl⟩
 |d::t,s3,s4=>
  obtain⟨hd1,hd2⟩:=dz.1 s3;refine⟨d,(((d::t).length:Int)==1),?_,hd1,?_,?_⟩
  ·rw[if_neg (by simp;omega),if_pos (by simp)];rfl
  ·rw[<-s4];simp only[val];rw[Int.add_mul_emod_self_left];exact(emod_eq_of_lt hd1.1 hd1.2).symm
  ·intro h;have:t=[]:=by
    grind
   subst this;rw[<-s4];simp[val]
theorem th{a b:List Int}(ha:aM bY a)(hb:aM bY b)(hal:a.length<=1000)(hbl:b.length<=1000)(hV:0<val bY b):
  ∃q r,aN.run a b=some (q,r,())/\q.length=a.length/\aM bY q/\aM bY r/\r.length<=1000/\val bY q=val bY a/val bY b/\val bY r=val bY a%val bY b:=by
 unfold aN.run aN.top;obtain⟨y,ok,y1,y2,y3,y4⟩:=Mc (by omega) hb;rw[y1,bind_some];have ew:IntKind.i64.wrap ((a.length:Int)-1)=(a.length:Int)-1:=wrap_i64 (by omega) (by omega);have fin:∀(q r:List Int),val bY q*val bY b+val bY r=val bY a->0<=val bY r->val bY r<val bY b->val bY q=val bY a/val bY b/\val bY r=val bY a%val bY b:=fun q r h1 h2 h3=>by have e:val bY a/val bY b=val bY q:=EI hV (by omega) (by rw[Int.add_mul];omega);grind[Int.mul_ediv_add_emod]
 have g:0<=(a.length:Int)/\id (a.length:Int)=(a.length:Int)/\eF (a.length:Int).toNat 8=true:=⟨by omega,rfl,aK (by rw[ae];omega) (by omega)⟩
 by_cases lC:ok=true
 ·rw[if_pos lC,if_pos g,ew,ae];have hy:=y4 lC;rw[hy]at hV fin;have y2:0<=y/\y<4294967296:=y2;have:=fun N(hN:a.length<N)=>BQ N (fun(x8:Int)(c22:List Int)=>aN.j0 (fun(x4:List Int)(x5:List Int)=>some (x4,x5,())) x8 c22) a y ha hal ⟨hV,y2.2⟩ N a.length 0 (replicate a.length 0) hN (by omega) (by omega) (by simp) (xA _) (by rw[List.drop_of_length_le (by simp),List.drop_of_length_le (by simp)];simp[val]) (by omega);obtain⟨q,r,e1,e2,e3,e4,e5,e6⟩:=this fuel (by rw[ai];omega);have ev:val bY [r]=r:=by simp[val]
  obtain⟨f1,f2⟩:=fin q [r] (by rw[ev];exact e5) (by rw[ev];exact e4) (by rw[ev];exact e6);refine⟨q,[r],Eq.trans e1 rfl,e2,e3,F4 (by omega),by simp,?_,?_⟩
  ·rw[hy];exact f1
  ·rw[hy];exact f2
 ·rw[if_neg lC];unfold aN.j1;rw[if_pos g,ew,ae];have:=fun N(hN:4294967296<N)=>Dv N hN (fun(x5:List Int)(c51:List Int)=>aN.j4 (fun(x4:List Int)(x5:List Int)=>some (x4,x5,())) x5 c51) a b ha hb hal hbl hV N a.length [] (replicate a.length 0) (by omega) (by omega) iv (by simp) (by simp) (xA _) (by rw[List.drop_of_length_le (by simp),List.drop_of_length_le (by simp)];simp[val]) (by simp only[val];exact hV);obtain⟨q,r,e1,e2,e3,e4,e5,e6,e7⟩:=this fuel (by rw[ai];omega);obtain⟨f1,f2⟩:=fin q r e6 (dA fy e4).1 e7;exact⟨q,r,Eq.trans e1 rfl,e2,e3,e4,by omega,f1,f2⟩
theorem FA(B:Int):∀(l:List Int)(i:Nat)(v:Int),i<l.length->val B (l.set i v)=val B l+B^i*(v-l.getD i 0)
 |[],i,v,h=>by simp at h
 |d::l,0,v,_=>by simp[val,List.getD];omega
 |d::l,i+1,v,h=>by have ih:=FA B l i v (by simpa using h);grind[val]
def Mp:List Int:=[0,1,2,2,3,3,3,3,4,4,4,4,4,4,4,4,5,5,5,5,5,5,5,5,5,5,5,5,5,5,5,5,6,6,6,6,6,6,6,6,6,6,6,6,6,6,6,6,6,6,6,6,6,6,6,6,6,6,6,6,6,6,6,6,7,7,7,7,7,7,7,7,7,7,7,7,7,7,7,7,7,7,7,7,7,7,7,7,7,7,7,7,7,7,7,7,7,7,7,7,7,7,7,7,7,7,7,7,7,7,7,7,7,7,7,7,7,7,7,7,7,7,7,7,7,7,7,7,8,8,8,8,8,8,8,8,8,8,8,8,8,8,8,8,8,8,8,8,8,8,8,8,8,8,8,8,8,8,8,8,8,8,8,8,8,8,8,8,8,8,8,8,8,8,8,8,8,8,8,8,8,8,8,8,8,8,8,8,8,8,8,8,8,8,8,8,8,8,8,8,8,8,8,8,8,8,8,8,8,8,8,8,8,8,8,8,8,8,8,8,8,8,8,8,8,8,8,8,8,8,8,8,8,8,8,8,8,8,8,8,8,8,8,8,8,8,8,8,8,8,8,8,8,8,8,8]
def RW(n:Nat):Bool:=Nat.ble 1 ((2:Nat)^(Mp.getD n 0).toNat-n)&&decide (0<=Mp.getD n 0)&&decide (Mp.getD n 0<=8)
theorem Ra:(List.range 256).all RW=true:=by kernel_rfl
theorem Tu{n:Nat}(h:n<256):∃t:Nat,Mp.getD n 0=(t:Int)/\t<=8/\n<2^t:=by have:=List.all_eq_true.1 Ra n (List.mem_range.2 h);unfold RW at this;simp only[Bool.and_eq_true,decide_eq_true_eq,Nat.ble_eq]at this;refine⟨(Mp.getD n 0).toNat,by omega,by omega,by omega⟩
theorem Tz{X:Nat}(h:X<256):IntKind.u8.wrap (X:Int)=(X:Int):=wrap_u8 (by omega) (by omega)
theorem EY{a b:Nat}(h:a+b<9223372036854775808):IntKind.i64.wrap ((a:Int)+(b:Int))=((a+b:Nat):Int):=by grind[wrap_i64]
theorem Oz{α:Type}(Rt:Int->Option α){X n:Nat}(hX:X<256)(hn:n<=56):∃m:Nat,eo.j2 Rt (X:Int) (n:Int)=Rt (m:Int)/\n<=m/\m<=n+8/\X<2^(m-n):=by
 obtain⟨t,t1,t2,t3⟩:=Tu hX;refine⟨n+t,?_,by omega,by omega,by rw[Nat.add_sub_cancel_left];exact t3⟩;have hj:eo.j2 Rt (X:Int) (n:Int)=if 0<=(IntKind.u8.wrap (X:Int))/\(IntKind.u8.wrap (X:Int))<(256:Int)then Rt (IntKind.i64.wrap ((n:Int)+(IntKind.i64.wrap (List.getD Mp (Int.toNat (IntKind.u8.wrap (X:Int))) 0))))else none:=by kernel_rfl
 rw[hj,Tz hX,if_pos (by omega),ae,t1];grind[wrap_i64]
theorem ye{X k m:Nat}(h:X>>>k<2^m):X<2^(k+m):=by grind[Nat.shiftRight_eq_div_pow,Nat.div_lt_iff_lt_mul]
theorem Oy{α:Type}(Rt:Int->Option α){X n:Nat}(hX:X<65536)(hn:n<=48):∃m:Nat,eo.j1 Rt (X:Int) (n:Int)=Rt (m:Int)/\n<=m/\m<=n+16/\X<2^(m-n):=by
 unfold eo.j1;by_cases h:X>=256
 ·rw[if_pos (dT (by omega))];have e1:fS .u64 (X:Int) 8=((X>>>8:Nat):Int):=oa (X:=X) (k:=8) (by omega);have e2:IntKind.i64.wrap ((n:Int)+8)=((n+8:Nat):Int):=EY (b:=8) (by omega);rw[e1,e2];obtain⟨m,m1,m2,m3,m4⟩:=Oz Rt (X:=X>>>8) (n:=n+8) (by rw[Nat.shiftRight_eq_div_pow];omega) (by omega);refine⟨m,m1,by omega,by omega,?_⟩;have:=ye m4;grind
 ·rw[if_neg (dF (by omega))];obtain⟨m,m1,m2,m3,m4⟩:=Oz Rt (X:=X) (n:=n) (by omega) (by omega);grind
theorem Ox{α:Type}(Rt:Int->Option α){X n:Nat}(hX:X<4294967296)(hn:n<=32):∃m:Nat,eo.j0 Rt (X:Int) (n:Int)=Rt (m:Int)/\n<=m/\m<=n+32/\X<2^(m-n):=by
 unfold eo.j0;by_cases h:X>=65536
 ·rw[if_pos (dT (by omega))];have e1:fS .u64 (X:Int) 16=((X>>>16:Nat):Int):=oa (X:=X) (k:=16) (by omega);have e2:IntKind.i64.wrap ((n:Int)+16)=((n+16:Nat):Int):=EY (b:=16) (by omega);rw[e1,e2];obtain⟨m,m1,m2,m3,m4⟩:=Oy Rt (X:=X>>>16) (n:=n+16) (by rw[Nat.shiftRight_eq_div_pow];omega) (by omega);refine⟨m,m1,by omega,by omega,?_⟩;have:=ye m4;grind
 ·rw[if_neg (dF (by omega))];obtain⟨m,m1,m2,m3,m4⟩:=Oy Rt (X:=X) (n:=n) (by omega) (by omega);grind
theorem UP{X:Nat}(hX:X<18446744073709551616):∃m:Nat,eo.run (X:Int)=some (m:Int)/\m<=64/\X<2^m:=by
 unfold eo.run eo.top;by_cases h:X>=4294967296
 ·rw[if_pos (dT (by omega))];have e1:fS .u64 (X:Int) 32=((X>>>32:Nat):Int):=oa (X:=X) (k:=32) (by omega);rw[e1];obtain⟨m,m1,m2,m3,m4⟩:=Ox (fun(x2:Int)=>some x2) (X:=X>>>32) (n:=32) (by rw[Nat.shiftRight_eq_div_pow];omega) (by omega);refine⟨m,m1,by omega,?_⟩;have:=ye m4;grind
 ·rw[if_neg (dF (by omega))];obtain⟨m,m1,m2,m3,m4⟩:=Ox (fun(x2:Int)=>some x2) (X:=X) (n:=0) (by omega) (by omega);grind
theorem jS{d:Int}(h:0<=d/\d<ah):∃X:Nat,d=(X:Int)/\X<18446744073709551616:=
 ⟨d.toNat,by omega,by have:d<18446744073709551616:=h.2;omega⟩
theorem Hm(i:Nat):ah^i=((2^(64*i):Nat):Int):=by rw[Nat.pow_mul];simp
theorem sR{α:Type}(k:Nat)(Xt:Int->Option α)(l:List Int)(hl:l.length=4)(dl:aM ah l):∀(n i m:Nat),i<=4->4-i<n->m<=64*i->val ah (l.take i)<((2^m:Nat):Int)->
  ∃m':Nat,h9.l0 k Xt n (m:Int) l (i:Int)=Xt (m':Int)/\m'<=256/\val ah l<((2^m':Nat):Int)
 |0,i,m,_,h,_,_=>by omega
 |n+1,i,m,hi,h,hm,hv=>by
  simp only[h9.l0,h9.aR];by_cases hlt:i<4
  ·rw[if_pos (dT (by omega)),if_pos (by omega),ae];unfold h9.j0;rw[ax (by omega)];have ht:=kN ah l i;obtain⟨X,hX,hX2⟩:=jS (di dO dl i);rw[hX]at ht⊢;by_cases h0:X=0
   ·subst h0;rw[if_neg (by simp)];refine sR k Xt l hl dl n (i+1) m (by omega) (by omega) (by omega) ?_;omega
   ·rw[if_pos (by simp;omega)];obtain⟨t,t1,t2,t3⟩:=UP hX2;rw[t1,bind_some];have e1:IntKind.i64.wrap (64*(i:Int))=((64*i:Nat):Int):=by rw[wrap_i64 (by omega) (by omega)];omega
    rw[e1,EY (by omega)];refine sR k Xt l hl dl n (i+1) (64*i+t) (by omega) (by omega) (by omega) ?_;have hb:=(kO dO dl i).2;rw[ht];rw[Hm]at hb⊢;rw[pow_add];generalize 2^(64*i)=D at*;have:=Nat.mul_le_mul_left D t3;grind
  grind
theorem zI{l:List Int}(hl:l.length=4)(dl:aM ah l):∃m:Nat,h9.run l=some (m:Int)/\m<=256/\val ah l<((2^m:Nat):Int):=by unfold h9.run h9.top;have:=fun N(hN:4<N)=>sR N (fun(x3:Int)=>h9.j1 (fun(x2:Int)=>some x2) x3) l hl dl N 0 0 (by omega) (by omega) (by omega) (by simp[val]);exact this fuel (by rw[ai];omega)
theorem qj{l:List Int}(dl:aM ah l)(w:Nat):val ah l/((2^(64*w):Nat):Int)=val ah (l.drop w):=by
 by_cases hw:w<=l.length
 ·have h0:=Pz ah l w;rw[Nat.min_eq_left hw]at h0;obtain⟨h1,h2⟩:=kO dO dl w;rw[Hm]at h0 h2;generalize ((2^(64*w):Nat):Int)=D at*;refine EI (by omega) ?_ ?_
  ·grind
  grind
 ·rw[List.drop_eq_nil_of_le (by omega)];obtain⟨h1,h2⟩:=dA dO dl;simp only[val];refine Int.ediv_eq_zero_of_lt h1 (Int.lt_of_lt_of_le h2 ?_);rw[<-Hm];exact Hn dO (by omega)
theorem EB{l:List Int}(dl:aM ah l){w k:Nat}(hk:k<64){X:Nat}(hX:l.getD w 0=(X:Int)):
  ((X>>>k&&&1:Nat):Int)=val ah l/((2^(64*w+k):Nat):Int)%2:=by
 have e:((2^(64*w+k):Nat):Int)=((2^(64*w):Nat):Int)*((2^k:Nat):Int):=by rw[pow_add];simp
 rw[e,<-Int.ediv_ediv_of_nonneg (Int.natCast_nonneg _),qj dl w,iB ah l w,hX];have hp:(2:Nat)^64=2^k*(2*2^(63-k)):=by rw[<-Nat.mul_assoc,<-Nat.pow_succ,<-pow_add,show k+1+(63-k)=64 by omega]
 have hB:ah=((2^k:Nat):Int)*(2*((2^(63-k):Nat):Int)):=by have:ah=((2^64:Nat):Int):=rfl;rw[this,hp];simp
 have hpos:0<((2^k:Nat):Int):=by have:=Nat.two_pow_pos k;omega
 rw[hB,Int.mul_assoc,Int.add_mul_ediv_left _ _ (by omega),Int.mul_assoc,Int.add_mul_emod_self_left];rw[Nat.and_one_is_mod,Nat.shiftRight_eq_div_pow];omega
theorem Q4(i:Nat):64*(i/64)+i%64=i:=by omega
theorem FC{l:List Int}(hl:l.length=4)(dl:aM ah l){i:Nat}(hi:i<256):qG.run l (i:Int)=some (val ah l/((2^i:Nat):Int)%2):=by unfold qG.run qG.top;have e1:IntKind.i64.wrap (Int.tdiv (i:Int) 64)=((i/64:Nat):Int):=kH (c:=64) (by omega);have e2:Int.tmod (i:Int) 64=((i%64:Nat):Int):=mH i 64;rw[e1,e2,if_pos (by omega),if_pos (by omega),ae];obtain⟨X,hX,hX2⟩:=jS (di dO dl (i/64));have hb:=EB dl (w:=i/64) (k:=i%64) (by omega) hX;rw[hX,oa (by omega)];have hs:X>>>(i%64)<18446744073709551616:=Nat.lt_of_le_of_lt (Nat.shiftRight_le _ _) hX2;have:=jZ (X:=X>>>(i%64)) (Y:=1) hs (by omega);grind
theorem vX{X k b:Nat}(hX:X<18446744073709551616)(hb:b<2^k)(hk:k<=64)(h0:X%2^k=0):jP .u64 (X:Int) (b:Int)=((X+b:Nat):Int):=by have hb64:b<18446744073709551616:=Nat.lt_of_lt_of_le hb (by have:=Nat.pow_le_pow_right (n:=2) (by omega) hk;simpa using this);rw[tQ hX hb64];have hd:=Nat.div_add_mod X (2^k);rw[h0,Nat.add_zero]at hd;grind[Nat.two_pow_add_eq_or_of_lt]
theorem QV{q:List Int}(hq:q.length=4)(dq:aM ah q){i:Nat}(hi:i<256){Q:Int}(hQ:val ah q=Q*((2^(i+1):Nat):Int)):
  ∃v,jP .u64 (q.getD (i/64) 0) (fD .u64 1 ((i%64:Nat):Int))=v/\(0<=v/\v<ah)/\val ah (q.set (i/64) v)=(2*Q+1)*((2^i:Nat):Int):=by
 obtain⟨X,hX,hX2⟩:=jS (di dO dq (i/64));have hk:i%64<64:=by omega
 have hD:val ah q=((2^(64*(i/64)):Nat):Int)*(((2^(i%64+1):Nat):Int)*Q):=by
  rw[hQ,mul_comm,<-Int.mul_assoc];congr 1;have:64*(i/64)+(i%64+1)=i+1:=by omega
  rw[<-this,pow_add];simp
 have hpos:0<((2^(64*(i/64)):Nat):Int):=by have:=Nat.two_pow_pos (64*(i/64));omega
 have hdr:=qj dq (i/64);rw[hD,Int.mul_ediv_cancel_left _ (by omega)]at hdr;rw[iB ah q (i/64),hX]at hdr;have hB:ah=((2^(i%64+1):Nat):Int)*((2^(63-i%64):Nat):Int):=by
  have h64:(2:Nat)^64=2^(i%64+1)*2^(63-i%64):=by rw[<-pow_add,show i%64+1+(63-i%64)=64 by omega]
  grind
 have hmod:X%2^(i%64+1)=0:=by
  have hdr:((2^(i%64+1):Nat):Int)*Q=(X:Int)+((2^(i%64+1):Nat):Int)*(((2^(63-i%64):Nat):Int)*val ah (q.drop (i/64+1))):=by grind
  have:(X:Int)=((2^(i%64+1):Nat):Int)*(Q-((2^(63-i%64):Nat):Int)*val ah (q.drop (i/64+1))):=by grind
  grind[Int.mul_emod_right]
 have hlt:2^(i%64)<2^(i%64+1):=by rw[Nat.pow_succ];have:=Nat.two_pow_pos (i%64);omega
 have hv:=vX hX2 hlt (by omega) hmod;have hsum:X+2^(i%64)<18446744073709551616:=by
  have h64:(2:Nat)^64=2^(i%64+1)*2^(63-i%64):=by rw[<-pow_add,show i%64+1+(63-i%64)=64 by omega]
  have hd:=Nat.div_add_mod X (2^(i%64+1));rw[hmod,Nat.add_zero]at hd;have h1:X/2^(i%64+1)<2^(63-i%64):=by rw[Nat.div_lt_iff_lt_mul (Nat.two_pow_pos _),Nat.mul_comm,<-h64];simpa using hX2
  have h2:=Nat.mul_le_mul_left (2^(i%64+1)) h1;grind
 refine⟨((X+2^(i%64):Nat):Int),?_,⟨by omega,by simp only[ah];omega⟩,?_⟩
 ·rw[hX,tt hk,hv]
 ·rw[FA ah q _ _ (by omega),hX,Hm,hQ];have e:((2^i:Nat):Int)=((2^(64*(i/64)):Nat):Int)*((2^(i%64):Nat):Int):=by
   grind[pow_add,Q4]
  have e2:((2^(i+1):Nat):Int)=((2^i:Nat):Int)*2:=by rw[Nat.pow_succ];simp
  rw[e2,Int.natCast_add,show(X:Int)+((2^(i%64):Nat):Int)-(X:Int)=((2^(i%64):Nat):Int) by omega,<-e,Int.add_mul,Int.one_mul];congr 1;rw[mul_comm ((2^i:Nat):Int) 2,<-Int.mul_assoc,mul_comm Q 2]
theorem QX{y:List Int}(hy:y.length=4)(dy:aM ah y)(he:val ah y%2=0){b:Int}(hb:b=0\/b=1):
  (y.set 0 (jP .u64 (y.getD 0 0) b)).length=4/\aM ah (y.set 0 (jP .u64 (y.getD 0 0) b))/\val ah (y.set 0 (jP .u64 (y.getD 0 0) b))=val ah y+b:=by
 obtain⟨X,hX,hX2⟩:=jS (di dO dy 0);have h0:X%2^1=0:=by have:=iB ah y 0;grind
 have key:jP .u64 (X:Int) b=(X:Int)+b:=by
  rcases hb with rfl|rfl
  ·have:=vX (b:=0) hX2 (by omega) (k:=1) (by omega) h0;simpa using this
  ·have:=vX (b:=1) hX2 (by omega) (k:=1) (by omega) h0;simpa using this
 rw[hX,key];refine⟨by simpa using hy,we 0 dy ⟨by omega,by simp only[ah];omega⟩,?_⟩;rw[FA ah y 0 _ (by omega),hX];simp;omega
theorem Bg{α:Type}(k:Nat)(Xt:List Int->List Int->Option α)(a b:List Int)(ha:a.length=4)(da:aM ah a)(hb:b.length=4)(db:aM ah b)(hV:0<val ah b):
  ∀(n i:Nat)(q r:List Int)(Q:Int),i<n->i<=256->q.length=4->aM ah q->r.length=4->aM ah r->val ah q=Q*((2^i:Nat):Int)->val ah a/((2^i:Nat):Int)=val ah b*Q+val ah r->val ah r<val ah b->
  ∃q' r',bZ.l0 k Xt n ((i:Int)-1) a b q r=Xt q' r'/\q'.length=4/\aM ah q'/\r'.length=4/\aM ah r'/\val ah a=val ah b*val ah q'+val ah r'/\val ah r'<val ah b
 |0,i,_,_,_,h,_,_,_,_,_,_,_,_=>by omega
 |n+1,0,q,r,Q,h,hi,hq,dq,hr,dr,hQ,hN,hlt=>by
  refine⟨q,r,?_,hq,dq,hr,dr,?_,hlt⟩
  ·rfl
  grind
 |n+1,i+1,q,r,Q,h,hi,hq,dq,hr,dr,hQ,hN,hlt=>by
  simp only[bZ.l0,bZ.aR];have ei:((i+1:Nat):Int)-1=(i:Int):=by omega
  rw[ei,if_pos (dT (by omega))];obtain⟨y,o,y1,y2,y3,y4,y5⟩:=pg hr hr dr dr;rw[y1,bind_some,FC ha da (by omega),bind_some];have hNi:val ah a/((2^i:Nat):Int)=2*(val ah a/((2^(i+1):Nat):Int))+val ah a/((2^i:Nat):Int)%2:=by grind[Int.ediv_ediv_of_nonneg]
  have hb2:val ah a/((2^i:Nat):Int)%2=0\/val ah a/((2^i:Nat):Int)%2=1:=by omega
  rw[hN]at hNi;generalize val ah a/((2^i:Nat):Int)%2=bt at*;have he:val ah y%2=0:=by rw[y4];simp only[aB];omega
  obtain⟨z1,z2,z3⟩:=QX y2 y3 he hb2;generalize hz:y.set 0 (jP .u64 (y.getD 0 0) bt)=z at*;have hbb:=fp hb db;have hrb:=fp hr dr;have hzb:=fp z1 z2;obtain⟨s,o2,s1,s2,s3,s4,s5⟩:=tD z1 hb z2 db;have ew:IntKind.i64.wrap ((i:Int)-1)=(i:Int)-1:=wrap_i64 (by omega) (by omega);have e1:IntKind.i64.wrap (Int.tdiv (i:Int) 64)=((i/64:Nat):Int):=kH (c:=64) (by omega);have e2:Int.tmod (i:Int) 64=((i%64:Nat):Int):=mH i 64;obtain⟨v,v1,v2,v3⟩:=QV hq dq (by omega) hQ;have hQ2:val ah q=(2*Q)*((2^i:Nat):Int):=by grind
  have cmp:(if(o==false)=true then cQ.run z b else some 0).bind (fun y4=>some (cond o true (decide (y4>=0))))=some (decide (2*val ah r+bt>=val ah b)):=by
   cases o with
   |true=>
    have:=y5.1 rfl;rw[if_neg (by simp),bind_some];have:decide (2*val ah r+bt>=val ah b)=true:=by rw[decide_eq_true_eq];omega
    rw[this];rfl
   |false=>
    have hno:¬(aB<=val ah r+val ah r):=fun h=>by have:=y5.2 h;simp at this
    have hy:val ah y=val ah r+val ah r:=by rw[y4];exact emod_eq_of_lt (by omega) (by omega)
    rw[if_pos (show(false==false)=true from rfl),nL z1 hb z2 db,bind_some];congr 1;simp only[cond_false];rw[z3,hy];by_cases c1:val ah r+val ah r+bt<val ah b
    ·rw[if_pos c1];have:decide (2*val ah r+bt>=val ah b)=false:=by rw[decide_eq_false_iff_not];omega
     rw[this];rfl
    ·rw[if_neg c1];have:decide (2*val ah r+bt>=val ah b)=true:=by rw[decide_eq_true_eq];omega
     rw[this];split<;>rfl
  obtain⟨w,w1,w2⟩:=Option.bind_eq_some_iff.1 cmp;rw[w1,bind_some];have w2:=Option.some.inj w2;rw[w2];unfold bZ.j0;rw[ew,e1,e2,ae];by_cases hc:2*val ah r+bt>=val ah b
  ·rw[if_pos (by rw[decide_eq_true_eq];exact hc),s1,bind_some,if_pos (by omega),if_pos (by omega),if_pos (by omega),v1];have hsv:val ah s=2*val ah r+bt-val ah b:=by
    grind
   refine Bg k Xt a b ha da hb db hV n i (q.set (i/64) v) s (2*Q+1) (by omega) (by omega) (by simpa using hq) (we _ dq v2) s2 s3 v3 ?_ (by omega);grind
  ·rw[if_neg (by rw[decide_eq_true_eq];exact hc)];have hzv:val ah z=2*val ah r+bt:=by
    grind
   refine Bg k Xt a b ha da hb db hV n i q z (2*Q) (by omega) (by omega) hq dq z1 z2 hQ2 ?_ (by omega);grind
theorem PD{l:List Int}(hl:l.length=4)(dl:aM ah l)(h:l≠[0,0,0,0]):0<val ah l:=by
 have:=(dA dO dl).1;rcases Int.lt_or_eq_of_le this with h'|h'
 ·exact h'
 ·exfalso;apply h;exact jG hl rfl dl (fun d hd=>by
   simp only[List.mem_cons,List.not_mem_nil,or_false]at hd;simp only[ah];omega) (by rw[<-h'];rfl)
theorem Sj:aM ah [0,0,0,0]:=fun d hd=>by grind
theorem jj{a b:List Int}(ha:a.length=4)(da:aM ah a)(hb:b.length=4)(db:aM ah b):
  ∃q r,bZ.run a b=some (q,r,(if b=[0,0,0,0]then 7 else 0),())/\q.length=4/\aM ah q/\r.length=4/\aM ah r/\
   val ah q=(if b=[0,0,0,0]then 0 else val ah a/val ah b)/\val ah r=(if b=[0,0,0,0]then 0 else val ah a%val ah b):=by
 unfold bZ.run bZ.top;rw[jr (.arr 4 (.int .u64)) b [0,0,0,0] rfl];by_cases h0:b=[0,0,0,0]
 ·simp only[if_pos h0];rw[if_pos (by simpa using h0)];exact⟨_,_,rfl,rfl,Sj,rfl,Sj,rfl,rfl⟩
 ·simp only[if_neg h0];rw[if_neg (by simpa using h0)];obtain⟨m,m1,m2,m3⟩:=zI ha da;have hV:=PD hb db h0;have ew:IntKind.i64.wrap ((m:Int)-1)=(m:Int)-1:=wrap_i64 (by omega) (by omega);rw[m1,bind_some,ew];have hv0:val ah [0,0,0,0]=0:=rfl;have:=fun N(hN:m<N)=>Bg N (fun(c4:List Int)(c5:List Int)=>bZ.j1 (fun(x6:Int)(c4:List Int)(c5:List Int)=>some (c4,c5,x6,())) c4 c5) a b ha da hb db hV N m [0,0,0,0] [0,0,0,0] 0 hN m2 rfl Sj rfl Sj (by rw[hv0,Int.zero_mul]) (by
   rw[hv0,Int.mul_zero];exact Int.ediv_eq_zero_of_lt (dA dO da).1 m3) (by rw[hv0];exact hV)
  obtain⟨q,r,e1,e2,e3,e4,e5,e6,e7⟩:=this fuel (by rw[ai];omega);have hr0:=(dA dO e5).1;have hq:val ah a/val ah b=val ah q:=EI hV (by rw[mul_comm];omega) (by rw[Int.add_mul,mul_comm];omega);refine⟨q,r,Eq.trans e1 rfl,e2,e3,e4,e5,hq.symm,?_⟩;have:=Int.mul_ediv_add_emod (val ah a) (val ah b);rw[hq]at this;omega
theorem pS{a b:List Int}(ha:a.length=4)(da:aM ah a)(hb:b.length=4)(db:aM ah b):
  ∃q r,bZ.run a b=some (q,r,(if b=[0,0,0,0]then 7 else 0),())/\cN.run a b=some (q,r,(if b=[0,0,0,0]then 7 else 0),())/\q.length=4/\aM ah q/\r.length=4/\aM ah r/\
   val ah q=(if b=[0,0,0,0]then 0 else val ah a/val ah b)/\val ah r=(if b=[0,0,0,0]then 0 else val ah a%val ah b):=by
 obtain⟨q,r,e1,e2,e3,e4,e5,e6,e7⟩:=jj ha da hb db;refine⟨q,r,e1,?_,e2,e3,e4,e5,e6,e7⟩;unfold cN.run cN.top;rw[jr (.arr 4 (.int .u64)) b [0,0,0,0] rfl];by_cases h0:b=[0,0,0,0]
 ·simp only[if_pos h0]at e6 e7⊢;rw[if_pos (by simpa using h0)];rw[jG e2 rfl e3 Sj (by rw[e6];rfl),jG e4 rfl e5 Sj (by rw[e7];rfl)]
 ·simp only[if_neg h0]at e6 e7⊢;rw[if_neg (by simpa using h0)];obtain⟨x,x1,x2,x3,x4⟩:=gj ha da;obtain⟨y,y1,y2,y3,y4⟩:=gj hb db;have hV:=PD hb db h0;obtain⟨s,t,s1,s2,s3,s4,s5,s6,s7⟩:=th x3 y3 (by omega) (by omega) (by omega);obtain⟨w,f,w1,w2,w3,w4,_⟩:=kK s3 (by omega);obtain⟨v,g,v1,v2,v3,v4,_⟩:=kK s4 (by omega);rw[x1,bind_some,y1,bind_some,s1,bind_some];unfold cG.run cG.top;rw[w1,bind_some,bind_some,v1,bind_some,bind_some];have hab:=fp ha da;have hbb:=fp hb db;rw[x4,y4]at s6 s7;have q1:0<=val ah a/val ah b:=Int.ediv_nonneg hab.1 (by omega);have q2:val ah a/val ah b<=val ah a:=Int.ediv_le_self _ hab.1;have r1:=emod_nonneg (val ah a) (show val ah b≠0 by omega);have r2:=emod_lt_of_pos (val ah a) hV;have hw:val ah w=val ah q:=by
   grind
  have hv:val ah v=val ah r:=by grind
  rw[jG w2 e2 w3 e3 hw,jG v2 e4 v3 e5 hv]
theorem Np{n:Int}(h:0<=n/\n<=77):cond (decide (n<0)) true (decide (n>77))=false:=by rw[bS];simp;omega
theorem xB{l:List Int}(l1:l.length=4)(d1:aM ah l)(n:Int):∃r,jl.run l n=some r/\d8.run l n=some r/\r.1.length=4/\aM ah r.1:=by
 obtain⟨f,f1,f2,f3,f4⟩:=AD n;by_cases h:0<=n/\n<=77
 ·obtain⟨m,rfl⟩:∃m:Nat,n=(m:Int):=⟨n.toNat,by omega⟩
  obtain⟨q,r,e1,e2,q1,q2,_⟩:=pS l1 d1 f2 f3;obtain⟨w,w1,w2,w3,w4⟩:=Hs ((jK m:Nat):Int);refine⟨(q,r,(if f=[0,0,0,0]then 7 else 0),()),?_,?_,q1,q2⟩
  ·simp_all[jl.run,jl.top]
  ·unfold d8.run d8.top;rw[Np h,if_neg (by simp),(SX (n:=m) (by omega)).2,w1,bind_some];have hfm:0<=((jK m:Nat):Int)/\((jK m:Nat):Int)<=77:=by unfold jK;omega
   rw[if_pos hfm,Int.toNat_natCast]at w4;grind[jG]
 ·refine⟨([0,0,0,0],[0,0,0,0],6,()),?_,?_,rfl,Z4.1⟩
  ·simp_all[jl.run,jl.top]
  ·unfold d8.run d8.top;grind
def W4(l:List Int):Prop:=l.length=4/\aM ah l
theorem W4.bound{l:List Int}(h:W4 l):0<=val ah l/\val ah l<aB:=fp h.1 h.2
theorem W4.eq{l m:List Int}(h:W4 l)(g:W4 m)(e:val ah l=val ah m):l=m:=jG h.1 g.1 h.2 g.2 e
theorem W4.zero:W4 [0,0,0,0]:=⟨rfl,Sj⟩
theorem oI:val ah [0,0,0,0]=0:=rfl
theorem W4.ne{m:List Int}(h:W4 m):m≠[0,0,0,0]↔0<val ah m:=by
 constructor
 ·exact PD h.1 h.2
 grind[oI]
theorem Nc{x m:Int}(h0:0<=x)(h1:x<2*m):x%m=if x<m then x else x-m:=by
 split
 ·grind[emod_eq_of_lt]
 ·rename_i h;rw[<-Int.sub_emod_right];exact emod_eq_of_lt (by omega) (by omega)
theorem emod_neg{x m:Int}(h0:-m<x)(h1:x<m):x%m=if x<0 then x+m else x:=by
 split
 ·rename_i h;rw[<-Int.add_emod_right];exact emod_eq_of_lt (by omega) (by omega)
 grind[emod_eq_of_lt]
theorem pL{a b m:List Int}(ha:W4 a)(hb:W4 b)(hm:W4 m)(h1:val ah a<val ah m)(h2:val ah b<val ah m):
  ∃r,kV.run a b m=some r/\W4 r/\val ah r=(val ah a+val ah b)%val ah m:=by
 unfold kV.run kV.top;obtain⟨r,o,e1,n1,d1,v1,f1⟩:=pg ha.1 hb.1 ha.2 hb.2;rw[e1,bind_some];have ba:=ha.bound;have bb:=hb.bound;have bm:=hm.bound;have br:=fp n1 d1;have cmp:(if(o==false)=true then cQ.run r m else some 0).bind (fun y=>some (cond o true (decide (y>=0))))=some (decide (val ah a+val ah b>=val ah m)):=by
  cases o with
  |true=>
   have:=f1.1 rfl;have:decide (val ah a+val ah b>=val ah m)=true:=by rw[decide_eq_true_eq];omega
   rw[this];rfl
  |false=>
   have hno:¬(aB<=val ah a+val ah b):=fun h=>by have:=f1.2 h;simp at this
   have hr:val ah r=val ah a+val ah b:=by rw[v1];exact emod_eq_of_lt (by omega) (by omega)
   rw[if_pos (show(false==false)=true from rfl),nL n1 hm.1 d1 hm.2,bind_some,hr];by_cases hc:val ah a+val ah b<val ah m
   ·rw[if_pos hc];have:decide (val ah a+val ah b>=val ah m)=false:=by rw[decide_eq_false_iff_not];omega
    rw[this];rfl
   ·rw[if_neg hc];have:decide (val ah a+val ah b>=val ah m)=true:=by rw[decide_eq_true_eq];omega
    rw[this];split<;>rfl
 obtain⟨w,w1,w2⟩:=Option.bind_eq_some_iff.1 cmp;rw[w1,bind_some,Option.some.inj w2,Nc (by omega) (by omega)];by_cases hc:val ah a+val ah b>=val ah m
 ·rw[if_pos (by rw[decide_eq_true_eq];exact hc),if_neg (by omega)];obtain⟨s,o2,s1,s2,s3,s4,s5⟩:=tD n1 hm.1 d1 hm.2;rw[s1,bind_some];refine⟨s,rfl,⟨s2,s3⟩,?_⟩;rw[s4,v1];simp only[aB]at*;omega
 ·rw[if_neg (by rw[decide_eq_true_eq];exact hc),if_pos (by omega)];refine⟨r,rfl,⟨n1,d1⟩,?_⟩;rw[v1];exact emod_eq_of_lt (by omega) (by omega)
theorem ux{a b m:List Int}(ha:W4 a)(hb:W4 b)(hm:W4 m)(h1:val ah a<val ah m)(h2:val ah b<val ah m):
  ∃r,lX.run a b m=some r/\W4 r/\val ah r=(val ah a-val ah b)%val ah m:=by
 unfold lX.run lX.top;obtain⟨r,o,e1,n1,d1,v1,f1⟩:=tD ha.1 hb.1 ha.2 hb.2;rw[e1,bind_some];have ba:=ha.bound;have bb:=hb.bound;have bm:=hm.bound;rw[emod_neg (by omega) (by omega)];by_cases ho:o=true
 ·have:=f1.1 ho;rw[if_pos ho,if_pos (by omega)];obtain⟨s,o2,s1,s2,s3,s4,s5⟩:=pg n1 hm.1 d1 hm.2;rw[s1,bind_some];refine⟨s,rfl,⟨s2,s3⟩,?_⟩;rw[s4,v1];simp only[aB]at*;omega
 ·have hno:¬val ah a<val ah b:=fun h=>ho (f1.2 h);rw[if_neg ho,if_neg (by omega)];refine⟨r,rfl,⟨n1,d1⟩,?_⟩;rw[v1];exact emod_eq_of_lt (by omega) (by omega)
theorem JV{l:List Int}(hd:aM bY l)(hl:l.length<=1000000):∃w,cG.run l=some w/\W4 w/\val ah w=val bY l%aB:=by obtain⟨w,f,e1,e2,e3,e4,_⟩:=kK hd hl;unfold cG.run cG.top;rw[e1,bind_some];exact⟨w,rfl,⟨e2,e3⟩,e4⟩
theorem qv{d m:List Int}(hd:aM bY d)(hl:d.length<=1000)(hm:W4 m)(h0:0<val ah m):∃r,cb.run d m=some r/\W4 r/\val ah r=val bY d%val ah m:=by obtain⟨y,y1,y2,y3,y4⟩:=gj hm.1 hm.2;obtain⟨q,r,e1,_,_,e4,e5,_,e7⟩:=th hd y3 hl (by omega) (by omega);obtain⟨w,w1,w2,w3⟩:=JV e4 (by omega);unfold cb.run cb.top;rw[y1,bind_some,e1,bind_some,w1,bind_some];refine⟨w,rfl,w2,?_⟩;rw[w3,e7,y4];have:=emod_nonneg (val bY d) (show val ah m≠0 by omega);have:=emod_lt_of_pos (val bY d) h0;have:=hm.bound;grind
theorem Ms{a b m:List Int}(ha:W4 a)(hb:W4 b)(hm:W4 m)(h0:0<val ah m):∃r,bH.run a b m=some r/\W4 r/\val ah r=(val ah a+val ah b)%val ah m:=by obtain⟨x,x1,x2,x3,x4⟩:=gj ha.1 ha.2;obtain⟨y,y1,y2,y3,y4⟩:=gj hb.1 hb.2;obtain⟨p,p1,p2,p3,p4⟩:=nG x3 y3 (by omega) (by omega);obtain⟨r,r1,r2,r3⟩:=qv p3 (by omega) hm h0;simp_all[bH.run,bH.top]
theorem wN{a m:List Int}(ha:W4 a)(hm:W4 m)(h1:val ah a<val ah m):∃r,aZ.run a m=some r/\W4 r/\val ah r=(-val ah a)%val ah m:=by
 unfold aZ.run aZ.top;rw[jr (.arr 4 (.int .u64)) a [0,0,0,0] rfl];have ba:=ha.bound;by_cases hz:a=[0,0,0,0]
 ·simp_all[oI]
 ·rw[if_neg (by simpa using hz)];have hpos:=ha.ne.1 hz;obtain⟨x,x1,x2,x3,x4⟩:=gj ha.1 ha.2;obtain⟨y,y1,y2,y3,y4⟩:=gj hm.1 hm.2;obtain⟨q,q1,q2,q3,q4⟩:=rn y3 x3 (by omega) (by omega);obtain⟨w,w1,w2,w3⟩:=JV q3 (by omega);rw[y1,bind_some,x1,bind_some,q1,bind_some,w1,bind_some];refine⟨w,rfl,w2,?_⟩;have bm:=hm.bound;rw[w3,q4,x4,y4,emod_neg (x:=-val ah a) (m:=val ah m) (by omega) (by omega),if_pos (by omega)];grind
theorem vY{a b:Int}(ha:0<=a/\a<ah)(hb:0<=b/\b<ah):(0<=jP .u64 a b/\jP .u64 a b<ah)/\(jP .u64 a b=0↔a=0/\b=0):=by
 obtain⟨X,rfl,hX⟩:=jS ha;obtain⟨Y,rfl,hY⟩:=jS hb;rw[tQ hX hY];have hlt:X|||Y<18446744073709551616:=by have:=Nat.or_lt_two_pow (x:=X) (y:=Y) (n:=64) (by simpa using hX) (by simpa using hY);simpa using this
 refine⟨⟨by omega,by simp only[ah];omega⟩,?_⟩;simp_all
theorem s9{a b m:List Int}(ha:W4 a)(hb:W4 b)(hm:W4 m)(h1:val ah a<val ah m)(h2:val ah b<val ah m):∃r,aO.run a b m=some r/\W4 r/\val ah r=(val ah a*val ah b)%val ah m:=by
 unfold aO.run aO.top;have ba:=ha.bound;have bb:=hb.bound;have hm0:=di dO hm.2 0;have hm1:=di dO hm.2 1;have hm2:=di dO hm.2 2;have hm3:=di dO hm.2 3;obtain⟨b1,b2⟩:=vY hm1 hm2;obtain⟨b3,b4⟩:=vY b1 hm3;by_cases hc:(cond ((jP .u64 (jP .u64 (List.getD m 1 0) (List.getD m 2 0)) (List.getD m 3 0))==0) (decide ((List.getD m 0 0)<4294967296)) false)=true
 ·rw[if_pos hc];have hz:(jP .u64 (jP .u64 (List.getD m 1 0) (List.getD m 2 0)) (List.getD m 3 0))=0/\List.getD m 0 0<4294967296:=by
   grind
  obtain⟨z1,z2⟩:=hz;obtain⟨z3,z4⟩:=b4.1 z1;obtain⟨z5,z6⟩:=b2.1 z3;obtain⟨m0,m1,m2,m3,rfl⟩:=fF hm.1;obtain⟨a0,a1,a2,a3,rfl⟩:=fF ha.1;obtain⟨c0,c1,c2,c3,rfl⟩:=fF hb.1;simp only[List.getD_cons_zero,List.getD_cons_succ]at z2 z4 z5 z6⊢;subst z4 z5 z6;have ga0:=ha.2 a0 (by simp);have ga1:=ha.2 a1 (by simp);have ga2:=ha.2 a2 (by simp);have ga3:=ha.2 a3 (by simp);have gc0:=hb.2 c0 (by simp);have gc1:=hb.2 c1 (by simp);have gc2:=hb.2 c2 (by simp);have gc3:=hb.2 c3 (by simp);simp only[val,ah]at h1 h2 ga0 ga1 ga2 ga3 gc0 gc1 gc2 gc3⊢;have e1:a1=0/\a2=0/\a3=0/\a0<m0:=by omega
  have e2:c1=0/\c2=0/\c3=0/\c0<m0:=by omega
  obtain⟨rfl,rfl,rfl,e1⟩:=e1;obtain⟨rfl,rfl,rfl,e2⟩:=e2;have hp:=qp (x:=a0) (y:=c0) (by omega) (by omega);rw[if_pos (by omega),aY hp.1 (by omega),jF hp.1];have r1:=emod_nonneg (a0*c0) (show m0≠0 by omega);have r2:=emod_lt_of_pos (a0*c0) (show 0<m0 by omega);refine⟨_,rfl,⟨rfl,fun d hd=>?_⟩,?_⟩
  ·grind
  ·simp[val]
 ·rw[if_neg hc];obtain⟨x,x1,x2,x3,x4⟩:=gj ha.1 ha.2;obtain⟨y,y1,y2,y3,y4⟩:=gj hb.1 hb.2;obtain⟨p,p1,p2,p3,p4⟩:=mX x3 y3 (by omega) (by omega);obtain⟨r,r1,r2,r3⟩:=qv p3 (by omega) hm (by omega);grind
def below(m:List Int):List (List Int)->Int
 |[]=>0
 |a::l=>if val ah a<val ah m then below m l else 6
theorem DL{a b:List Int}(ha:W4 a)(hb:W4 b):aH.run a b=some (if val ah a<val ah b then-1 else if val ah a>val ah b then 1 else 0):=by unfold aH.run aH.top;obtain⟨x,x1,x2,x3,x4⟩:=gj ha.1 ha.2;obtain⟨y,y1,y2,y3,y4⟩:=gj hb.1 hb.2;grind[nF]
theorem Nj(x y:Int):decide ((if x<y then(-1:Int)else if x>y then 1 else 0)>=0)= !decide (x<y):=by grind
theorem yE{α:Type}(k:Nat)(Rt:Int->Option α)(Xt:Option α)(hX:Xt=Rt 0)(l:List (List Int))(m:List Int)(hm:W4 m)(hl:l.length<1000)(hw:∀x∈l,W4 x):∀(R P:List (List Int))(n:Nat),R.length<n->l=P++R->
  dt.l0 k Rt Xt n l (l.length:Int) (P.length:Int) m=Rt (below m R)
 |R,P,0,h,_=>by omega
 |[],P,n+1,h,hc=>by simp_all[dt.l0,dt.aR,below]
 |a::R,P,n+1,h,hc=>by
  have hlen:l.length=P.length+(R.length+1):=by rw[hc];simp
  simp only[dt.l0,dt.aR,below];have hg:l.getD P.length [0,0,0,0]=a:=by rw[hc];exact kG _ _ _ _
  have ha:W4 a:=hw a (by rw[hc];simp);rw[if_pos (dT (by omega)),if_pos (by omega),ax (by omega),ae,hg,nL ha.1 hm.1 ha.2 hm.2,bind_some,Nj];have ih:=yE k Rt Xt hX l m hm hl hw R (P++[a]) n (by simpa using h) (by simp[hc]);grind
def sL(m:List Int)(l:List (List Int)):Int:=if m=[0,0,0,0]then 7 else below m l
theorem xC{m:List Int}(hm:W4 m){l:List (List Int)}(hl:l.length<1000)(hw:∀x∈l,W4 x):dt.run m l=some (sL m l):=by
 unfold dt.run dt.top sL;rw[jr (.arr 4 (.int .u64)) m [0,0,0,0] rfl];by_cases h0:m=[0,0,0,0]
 ·grind
 ·rw[if_neg (by simpa using h0),if_neg h0];have:=fun N(hN:l.length<N)=>yE N (fun(x4:Int)=>some x4) (dt.j0 (fun(x4:Int)=>some x4)) rfl l m hm hl hw l [] N hN rfl;grind[ai]
theorem Fa:W4 [1,0,0,0]/\val ah [1,0,0,0]=1:=by refine⟨⟨rfl,fun d hd=>?_⟩,rfl⟩;grind
end Go.Bx
