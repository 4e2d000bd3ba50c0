/- Laws about functions of plain data, in plain Lean. -/
import Derived.Test.YtbfaahaoefngoaaGreatDoorCxZh
import Derived.Test.YtbfaahaoefngoaaGreatDoorFnWorldPosts0
open Bool (and_eq_true false_eq_true or_eq_true)
open Int (add_zero mul_zero pow_succ tdiv tmod)
open List (drop_eq_nil_of_le drop_zero length_append length_cons mem_cons not_mem_nil replicate)
open Nat (blt)
open Option (bind_some)
set_option maxRecDepth 100000
set_option linter.unusedVariables false
set_option linter.unusedSimpArgs false
namespace Go.Bx
open Go
theorem ow(n X:Nat):BitVec.ofInt n (X:Int)=BitVec.ofNat n X:=by rfl
theorem lf{X:Nat}(h:X<18446744073709551616):IntKind.u64.wrap (X:Int)=(X:Int):=aY (by omega) (by omega)
theorem jZ{X Y:Nat}(hX:X<18446744073709551616)(hY:Y<18446744073709551616):cS .u64 (X:Int) (Y:Int)=((X&&&Y:Nat):Int):=by
 unfold cS;have e:((BitVec.ofInt IntKind.u64.bits (X:Int)&&&BitVec.ofInt IntKind.u64.bits (Y:Int)).toNat)=X&&&Y:=by rw[ow,ow,BitVec.toNat_and,BitVec.toNat_ofNat,BitVec.toNat_ofNat];show(X%2^64)&&&(Y%2^64)=_;grind
 rw[e];exact lf (Nat.lt_of_le_of_lt Nat.and_le_left hX)
theorem tQ{X Y:Nat}(hX:X<18446744073709551616)(hY:Y<18446744073709551616):jP .u64 (X:Int) (Y:Int)=((X|||Y:Nat):Int):=by
 unfold jP;have e:((BitVec.ofInt IntKind.u64.bits (X:Int)|||BitVec.ofInt IntKind.u64.bits (Y:Int)).toNat)=X|||Y:=by
  rw[ow,ow,BitVec.toNat_or,BitVec.toNat_ofNat,BitVec.toNat_ofNat];show(X%2^64)|||(Y%2^64)=_
  grind
 rw[e];exact lf (by have:=Nat.or_lt_two_pow (n:=64) hX hY;simpa using this)
theorem MW{X Y:Nat}(hX:X<18446744073709551616)(hY:Y<18446744073709551616):ag .u64 (X:Int) (Y:Int)=((X^^^Y:Nat):Int):=by
 unfold ag;have e:((BitVec.ofInt IntKind.u64.bits (X:Int)^^^BitVec.ofInt IntKind.u64.bits (Y:Int)).toNat)=X^^^Y:=by rw[ow,ow,BitVec.toNat_xor,BitVec.toNat_ofNat,BitVec.toNat_ofNat];show(X%2^64)^^^(Y%2^64)=_;grind
 rw[e];exact lf (by have:=Nat.xor_lt_two_pow (n:=64) hX hY;simpa using this)
theorem GY{k:Nat}(hk:k<64):min (k:Int).toNat IntKind.u64.bits=k:=by have:IntKind.u64.bits=64:=rfl;rw[this];omega
theorem lU{k:Nat}(hk:k<64):2^k<18446744073709551616:=by have:=Nat.pow_lt_pow_right (a:=2) (by omega) hk;simpa using this
theorem tt{k:Nat}(hk:k<64):fD .u64 1 (k:Int)=((2^k:Nat):Int):=by
 unfold fD;rw[GY hk];have h2:(1:Int)*2^k=((2^k:Nat):Int):=by simp
 rw[h2];exact lf (lU hk)
theorem oa{X k:Nat}(hk:k<64):fS .u64 (X:Int) (k:Int)=((X>>>k:Nat):Int):=by grind[GY,Nat.shiftRight_eq_div_pow,fS]
theorem qL{X k:Nat}:((X&&&2^k) !=0)=X.testBit k:=by
 cases h:X.testBit k with
 |true=>
  have:(X&&&2^k).testBit k=true:=by simp[Nat.testBit_and,h,Nat.testBit_two_pow_self]
  have h0:X&&&2^k≠0:=fun e=>by rw[e]at this;simp at this
  simpa using h0
 |false=>
  have:X&&&2^k=0:=by apply Nat.eq_of_testBit_eq;grind
  simp[this]
theorem zk{X k:Nat}:((X>>>k&&&1)==1)=X.testBit k:=by grind[Nat.testBit]
theorem kH{x c:Nat}(h:x<9223372036854775808):IntKind.i64.wrap (tdiv (x:Int) (c:Int))=((x/c:Nat):Int):=by rw[<-Int.ofNat_tdiv];have h2:x/c<=x:=Nat.div_le_self x c;grind[wrap_i64]
theorem mH(x c:Nat):tmod (x:Int) (c:Int)=((x%c:Nat):Int):=by rfl
theorem Bi{x:Int}(h:pq .u64 x=true):∃X:Nat,x=(X:Int)/\X<18446744073709551616:=by rw[n6]at h;exact⟨x.toNat,by omega,by omega⟩
theorem dT{p:Prop}[Decidable p](h:p):decide p=true:=decide_eq_true h
theorem dF{p:Prop}[Decidable p](h:¬p):¬decide p=true:=fun e=>h (of_decide_eq_true e)
theorem aK{n b:Nat}(hn:n<=4194304)(hb:b<=33554432):eF n b=true:=by
 unfold eF;rw[and_eq_true];constructor
 ·apply Nat.ble_eq_true_of_le
  calc n*b<=4194304*33554432:=Nat.mul_le_mul hn hb
   _<=140737488355328:=by decide
 grind[Nat.ble_eq_true_of_le]
theorem zQ{n b:Nat}(h1:n*b<=140737488355328)(h2:n<=140737488355328):eF n b=true:=by simp_all[eF]
theorem ai:fuel=18446744073709551616:=rfl
theorem ax{i:Nat}(h:i<9223372036854775807):IntKind.i64.wrap ((i:Int)+1)=((i+1:Nat):Int):=by grind[wrap_i64]
theorem ae(i:Nat):Int.toNat (i:Int)=i:=rfl
theorem CQ{α:Type}{f:α->α->Bool}:∀(l:List α),(∀a∈l,f a a=true)->qO f l l=true
 |[],_=>rfl
 |a::l,h=>by simp[qO,h a (by simp),CQ l fun b hb=>h b (List.mem_cons_of_mem _ hb)]
theorem cP:∀(t:Ty)(x:t.den),t.cmp=true->az t x x=true
 | .int _,x,_=>by simp[az]
 | .bool,x,_=>by simp[az]
 | .str,x,_=>by simp[az]
 | .arr n t,x,h=>by simp only[az];exact CQ x fun a _=>cP t a (by simpa[Ty.cmp]using h)
 | .unit,_,_=>rfl
 | .pair a b,x,h=>by simp only[Ty.cmp,and_eq_true]at h;simp only[az,cP a _ h.1,cP b _ h.2];rfl
 | .sl _,_,h=>by simp[Ty.cmp]at h
 | .opq,_,h=>by simp[Ty.cmp]at h
def val(B:Int):List Int->Int
 |[]=>0
 |d::l=>d+B*val B l
def aM(B:Int)(l:List Int):Prop:=∀d∈l,0<=d/\d<B
theorem dz{B d:Int}{l:List Int}:aM B (d::l)↔(0<=d/\d<B)/\aM B l:=by simp[aM]
theorem iv{B:Int}:aM B []:=by intro d h;cases h
theorem nz{B:Int}{l m:List Int}(h:aM B l)(g:aM B m):aM B (l++m):=by
 intro d hd;rcases List.mem_append.1 hd with hd|hd
 ·exact h d hd
 ·exact g d hd
theorem qh{B:Int}{l:List Int}(h:aM B l)(n:Nat):aM B (l.drop n):=fun d hd=>h d (List.mem_of_mem_drop hd)
theorem mU{B:Int}{l:List Int}(h:aM B l)(n:Nat):aM B (l.take n):=fun d hd=>h d (List.mem_of_mem_take hd)
theorem wQ{B:Int}(hB:0<B)(n:Nat):0<B^n:=Int.pow_pos hB
theorem ir(B:Int):∀(l m:List Int),val B (l++m)=val B l+B^l.length*val B m
 |[],m=>by simp[val]
 |d::l,m=>by simp only[List.cons_append,val,ir B l m,length_cons,pow_succ];grind
theorem dA{B:Int}(hB:0<B):∀{l:List Int},aM B l->0<=val B l/\val B l<B^l.length
 |[],_=>by simp[val]
 |d::l,h=>by obtain⟨h1,h2⟩:=dz.1 h;obtain⟨h3,h4⟩:=dA hB h2;simp only[val,length_cons,pow_succ];have e1:0<=B*val B l:=Int.mul_nonneg (by omega) h3;have e2:B*(val B l+1)<=B*B^l.length:=Int.mul_le_mul_of_nonneg_left (by omega) (by omega);grind
theorem val_inj{B:Int}(hB:0<B):∀{l m:List Int},aM B l->aM B m->l.length=m.length->val B l=val B m->l=m
 |[],[],_,_,_,_=>rfl
 |[],_::_,_,_,h,_=>by simp at h
 |_::_,[],_,_,h,_=>by simp at h
 |a::l,b::m,h,g,hl,hv=>by
  obtain⟨h1,h2⟩:=dz.1 h;obtain⟨g1,g2⟩:=dz.1 g;simp only[val]at hv;have e1:a=b:=by
   have ha:(a+B*val B l)%B=a:=by rw[Int.add_mul_emod_self_left];exact Int.emod_eq_of_lt h1.1 h1.2
   simp_all[Int.emod_eq_of_lt]
  subst e1;have e2:B*val B l=B*val B m:=by omega
  have e3:=Int.eq_of_mul_eq_mul_left (by omega:B≠0) e2;rw[val_inj hB h2 g2 (by simpa using hl) e3]
theorem iB(B:Int)(l:List Int)(i:Nat):val B (l.drop i)=l.getD i 0+B*val B (l.drop (i+1)):=by grind[List.drop_eq_getElem_cons,drop_eq_nil_of_le,val]
theorem di{B:Int}(hB:0<B){l:List Int}(h:aM B l)(i:Nat):0<=l.getD i 0/\l.getD i 0<B:=by
 by_cases hi:i<l.length
 ·rw[getD_eq hi];exact h _ (List.getElem_mem hi)
 grind
theorem kN(B:Int)(l:List Int)(j:Nat):val B (l.take (j+1))=val B (l.take j)+B^j*l.getD j 0:=by
 by_cases h:j<l.length
 ·rw[List.take_succ_eq_append_getElem h,ir,getD_eq h];simp only[val,List.length_take,mul_zero,add_zero];grind
 grind[List.take_of_length_le]
theorem Hn{B:Int}(hB:0<B){m n:Nat}(h:m<=n):B^m<=B^n:=by obtain⟨k,rfl⟩:=Nat.le.dest h;rw[Int.pow_add];have h1:=wQ hB k;have h2:=wQ hB m;have:=Int.mul_le_mul_of_nonneg_left (show 1<=B^k by omega) (show 0<=B^m by omega);omega
theorem kO{B:Int}(hB:0<B){l:List Int}(h:aM B l)(j:Nat):0<=val B (l.take j)/\val B (l.take j)<B^j:=by obtain⟨h1,h2⟩:=dA hB (mU h j);refine⟨h1,Int.lt_of_lt_of_le h2 (Hn hB ?_)⟩;simp;omega
theorem ji{a b:Int}(h:0<=a):tdiv a b=a/b:=Int.tdiv_eq_ediv_of_nonneg h
theorem jF{a b:Int}(h:0<=a):tmod a b=a%b:=Int.tmod_eq_emod_of_nonneg h
abbrev bY:Int:=4294967296
abbrev ah:Int:=18446744073709551616
theorem fy:(0:Int)<bY:=by decide
theorem dO:(0:Int)<ah:=by decide
theorem fF{l:List Int}(h:l.length=4):∃a b c d,l=[a,b,c,d]:=by
 match l,h with
 |[a,b,c,d],_=>exact⟨a,b,c,d,rfl⟩
theorem of_eq(a b c d:Int):ay.run [a,b,c,d]=some [tmod a 4294967296,IntKind.u64.wrap (tdiv a 4294967296),tmod b 4294967296,IntKind.u64.wrap (tdiv b 4294967296),tmod c 4294967296,IntKind.u64.wrap (tdiv c 4294967296),tmod d 4294967296,IntKind.u64.wrap (tdiv d 4294967296)]:=by kernel_rfl
theorem gj{l:List Int}(hl:l.length=4)(hd:aM ah l):∃o,ay.run l=some o/\o.length=8/\aM bY o/\val bY o=val ah l:=by
 obtain⟨a,b,c,d,rfl⟩:=fF hl;have ha:=hd a (by simp);have hb:=hd b (by simp);have hc:=hd c (by simp);have hdd:=hd d (by simp);simp only[ah]at ha hb hc hdd;refine⟨_,of_eq a b c d,rfl,?_,?_⟩
 ·rw[ji ha.1,ji hb.1,ji hc.1,ji hdd.1,jF ha.1,jF hb.1,jF hc.1,jF hdd.1,
   aY (x:=a/_) (by omega) (by omega),aY (x:=b/_) (by omega) (by omega),aY (x:=c/_) (by omega) (by omega),aY (x:=d/_) (by omega) (by omega)]
  intro x hx;simp only[mem_cons,not_mem_nil,or_false]at hx;grind
 ·rw[ji ha.1,ji hb.1,ji hc.1,ji hdd.1,jF ha.1,jF hb.1,jF hc.1,jF hdd.1,
   aY (x:=a/_) (by omega) (by omega),aY (x:=b/_) (by omega) (by omega),aY (x:=c/_) (by omega) (by omega),aY (x:=d/_) (by omega) (by omega)]
  simp only[val,bY,ah];omega
theorem wa{α:Type}(k:Nat)(Rt:Int->Option α)(Xt:Option α)(a b:List Int)(ha:aM bY a)(hb:aM bY b)(h1:a.length<=1000000)(h2:b.length<=1000000):∀(n i:Nat),i<n->i<=max a.length b.length->
  bc.l0 k Rt Xt n a b ((i:Int)-1)=if val bY (a.take i)<val bY (b.take i)then Rt (-1)else if val bY (a.take i)>val bY (b.take i)then Rt 1 else Xt
 |0,i,h,_=>by omega
 |n+1,0,h,_=>by rfl
 |n+1,j+1,h,hm=>by
  have e:((j+1:Nat):Int)-1=(j:Int):=by omega
  rw[e];have da:=di fy ha j;have db:=di fy hb j;have hj:bc.l0 k Rt Xt (n+1) a b (j:Int)=bc.j1 (bc.l0 k Rt Xt n) Rt a b (j:Int) (a.getD j 0) (b.getD j 0):=by simp only[bc.l0,bc.aR,bc.j0];grind
  rw[hj];unfold bc.j1;have ta:=kO fy ha j;have tb:=kO fy hb j;rw[kN bY a j,kN bY b j];have hP:=wQ fy j;generalize bY^j=P at ta tb hP⊢;generalize a.getD j 0=x at da⊢;generalize b.getD j 0=y at db⊢;rcases Int.lt_trichotomy x y with hxy|hxy|hxy
  ·have:=Int.mul_le_mul_of_nonneg_left (show x+1<=y by omega) (Int.le_of_lt hP);grind
  ·subst hxy;rw[if_neg (by simp),if_neg (by simp),show IntKind.i64.wrap ((j:Int)-1)=(j:Int)-1 from wrap_i64 (by omega) (by omega)];rw[wa k Rt Xt a b ha hb h1 h2 n j (by omega) (by omega)];grind
  ·have:=Int.mul_le_mul_of_nonneg_left (show y+1<=x by omega) (Int.le_of_lt hP);grind
theorem nF{a b:List Int}(ha:aM bY a)(hb:aM bY b)(h1:a.length<=1000000)(h2:b.length<=1000000):
  bc.run a b=some (if val bY a<val bY b then-1 else if val bY a>val bY b then 1 else 0):=by
 unfold bc.run bc.top bc.j2;have h0:=fun N(hN:max a.length b.length<N)=>wa N (fun(x4:Int)=>some x4) (some (0:Int)) a b ha hb h1 h2 N (max a.length b.length) hN (Nat.le_refl _);have e:=h0 fuel (by rw[ai];omega);rw[List.take_of_length_le (by omega),List.take_of_length_le (by omega)]at e;have ei:IntKind.i64.wrap ((if(b.length:Int)>(a.length:Int)then(b.length:Int)else(a.length:Int))-1)=((max a.length b.length:Nat):Int)-1:=by grind[wrap_i64]
 rw[ei];refine Eq.trans e ?_;split
 ·rfl
 ·split<;>rfl
theorem DO{α:Type}(k:Nat)(Xt:Int->List Int->Option α)(a b:List Int)(ha:aM bY a)(hb:aM bY b)(M:Nat)(hM:M=max a.length b.length)(hs:M<=1000000):∀(n i:Nat)(c:Int)(acc:List Int),(0<=c/\c<=1)->i<=M->M-i<n->acc.length<=i->
  ∃r c',aJ.l0 k Xt n a b c (i:Int) acc=Xt c' (acc++r)/\(0<=c'/\c'<=1)/\r.length=M-i/\aM bY r/\val bY r+bY^(M-i)*c'=val bY (a.drop i)+val bY (b.drop i)+c
 |0,i,c,acc,_,_,h,_=>by omega
 |n+1,i,c,acc,hc,hi,h,hacc=>by
  by_cases hlt:i<M
  ·have da:=di fy ha i;have db:=di fy hb i;simp only[bY]at da db;obtain⟨r,c',e1,e2,e3,e4,e5⟩:=DO k Xt a b ha hb M hM hs n (i+1) ((c+a.getD i 0+b.getD i 0)/4294967296) (acc++[(c+a.getD i 0+b.getD i 0)%4294967296]) (by omega) (by omega) (by omega) (by simp;omega);have hj:aJ.l0 k Xt (n+1) a b c (i:Int) acc=aJ.j1 (aJ.l0 k Xt n) a b (i:Int) (c+a.getD i 0+b.getD i 0) acc:=by
    simp only[aJ.l0,aJ.aR,aJ.j0];rw[bS,if_pos (by simp;omega)];rw[ae,aY (x:=c+a.getD i 0) (by omega) (by omega),aY (x:=c+a.getD i 0+b.getD i 0) (by omega) (by omega),aY (x:=c+b.getD i 0) (by omega) (by omega)];grind
   refine⟨(c+a.getD i 0+b.getD i 0)%4294967296::r,c',?_,e2,by simp;omega,dz.2 ⟨by simp only[bY];omega,e4⟩,?_⟩
   ·rw[hj];unfold aJ.j1;rw[if_pos (aK (by omega) (by decide)),ji (by omega),jF (by omega),aY (by omega) (by omega),ax (by omega),e1];simp
   ·rw[show M-i=(M-(i+1))+1 by omega,pow_succ,Int.mul_comm (bY^_) bY,Int.mul_assoc];simp only[val];rw[iB bY a i,iB bY b i];grind
  ·have hiM:i=M:=by omega
   refine⟨[],c,?_,hc,by simp;omega,iv,?_⟩
   ·simp only[aJ.l0,aJ.aR];grind
   grind[drop_eq_nil_of_le,val]
theorem nG{a b:List Int}(ha:aM bY a)(hb:aM bY b)(h1:a.length<=1000000)(h2:b.length<=1000000):
  ∃r,aJ.run a b=some r/\r.length=max a.length b.length+1/\aM bY r/\val bY r=val bY a+val bY b:=by
 unfold aJ.run aJ.top;have h0:=fun N(hN:max a.length b.length<N)=>DO N (fun(x6:Int)(c46:List Int)=>aJ.j2 (fun(c46:List Int)=>some c46) x6 c46) a b ha hb _ rfl (by omega) N 0 0 [] (by omega) (by omega) (by omega) (by simp);obtain⟨r,c',e1,e2,e3,e4,e5⟩:=h0 fuel (by rw[ai];omega);refine⟨r++[c'],?_,by simp;omega,nz e4 (dz.2 ⟨by simp only[bY];omega,iv⟩),?_⟩
 ·refine Eq.trans e1 ?_;unfold aJ.j2;rw[List.nil_append,if_pos (aK (by omega) (by decide))]
 ·rw[ir,e3];simp only[val,mul_zero,add_zero,drop_zero]at e5⊢;exact e5
theorem Dt{α:Type}(k:Nat)(Xt:List Int->Option α)(b:List Int)(hb:aM bY b)(L:Nat)(hL:L<=1000000)(hbl:b.length<=L):∀(n i:Nat)(br:Int)(c:List Int),(0<=br/\br<=1)->c.length=L->aM bY c->i<=L->L-i<n->
  ∃r b',au.l0 k Xt n b br (L:Int) (i:Int) c=Xt (c.take i++r)/\(0<=b'/\b'<=1)/\r.length=L-i/\aM bY r/\val bY r=val bY (c.drop i)-val bY (b.drop i)-br+bY^(L-i)*b'
 |0,i,br,c,_,_,_,_,h=>by omega
 |n+1,i,br,c,hbr,hcl,hc,hi,h=>by
  by_cases hlt:i<L
  ·have dc:=di fy hc i;have db:=di fy hb i;simp only[bY]at dc db;have hic:i<c.length:=by omega
   have hj:au.l0 k Xt (n+1) b br (L:Int) (i:Int) c=au.j0 (au.l0 k Xt n) b (i:Int) (br+b.getD i 0) (L:Int) (i:Int) c:=by
    simp only[au.l0,au.aR];rw[if_pos (by simp;omega)];by_cases h1:i<b.length
    ·rw[if_pos (by simp;omega),if_pos (by omega),ae,aY (by omega) (by omega)]
    grind
   have key:∃v br',au.j0 (au.l0 k Xt n) b (i:Int) (br+b.getD i 0) (L:Int) (i:Int) c=au.l0 k Xt n b br' (L:Int) ((i+1:Nat):Int) (c.set i v)/\(0<=br'/\br'<=1)/\(0<=v/\v<4294967296)/\v=c.getD i 0-(br+b.getD i 0)+4294967296*br':=by
    unfold au.j0;rw[if_pos (by omega),ae];by_cases hcx:c.getD i 0<br+b.getD i 0
    ·rw[if_pos (by simpa using hcx),if_pos (by omega),if_pos (by omega)];unfold au.j1;have hg:(c.set i (IntKind.u64.wrap (c.getD i 0+4294967296))).getD (i:Int).toNat 0=c.getD i 0+4294967296:=by
      grind[aY]
     rw[if_pos (by simp;omega),if_pos (by simp;omega),hg,ax (by omega),ae,List.set_set,aY (x:=c.getD i 0+4294967296-_) (by omega) (by omega)];grind
    ·rw[if_neg (by simpa using hcx)];unfold au.j1;rw[if_pos (by omega),if_pos (by omega),ax (by omega),ae,aY (x:=c.getD i 0-_) (by omega) (by omega)];grind
   obtain⟨v,br',k1,k2,k3,k4⟩:=key;have hset:aM bY (c.set i v):=fun d hd=>by
    rcases List.mem_or_eq_of_mem_set hd with hd|rfl
    ·exact hc d hd
    omega
   obtain⟨r,b',e1,e2,e3,e4,e5⟩:=Dt k Xt b hb L hL hbl n (i+1) br' (c.set i v) k2 (by simpa using hcl) hset (by omega) (by omega);have ht:(c.set i v).take (i+1)=c.take i++[v]:=by grind[List.take_succ_eq_append_getElem,List.take_set_of_le]
   have hdp:(c.set i v).drop (i+1)=c.drop (i+1):=List.drop_set_of_lt (by omega);refine⟨v::r,b',?_,e2,by simp;omega,dz.2 ⟨by simp only[bY];omega,e4⟩,?_⟩
   ·grind
   ·rw[hdp]at e5;rw[show L-i=(L-(i+1))+1 by omega,pow_succ,Int.mul_comm (bY^_) bY,Int.mul_assoc];simp only[val];rw[iB bY c i,iB bY b i];grind
  ·refine⟨[],br,?_,hbr,by simp;omega,iv,?_⟩
   ·simp_all[au.l0,au.aR,if_neg,List.take_of_length_le]
   grind[drop_eq_nil_of_le,val]
theorem BI{a b:List Int}(ha:aM bY a)(hb:aM bY b)(h1:a.length<=1000000)(h2:b.length<=a.length)(hle:val bY b<=val bY a):
  ∃r,au.run a b=some r/\r.length=a.length/\aM bY r/\val bY r=val bY a-val bY b:=by
 unfold au.run au.top au.j2;rw[if_pos (by rw[aK (by omega) (by decide)];rfl)];have h0:=fun N(hN:a.length<N)=>Dt N (fun(c11:List Int)=>some c11) b hb a.length h1 h2 N 0 0 a (by omega) rfl ha (by omega) (by omega);obtain⟨r,b',e1,e2,e3,e4,e5⟩:=h0 fuel (by rw[ai];omega);refine⟨r,?_,by omega,e4,?_⟩
 ·refine Eq.trans e1 ?_;simp
 ·have hbd:=dA fy e4;rw[e3]at hbd;rw[drop_zero,drop_zero,Int.sub_zero]at e5;generalize bY^(a.length-0)=P at e5 hbd;have:b'=0\/b'=1:=by omega
  rcases this with rfl|rfl
  ·rw[mul_zero]at e5;omega
  ·rw[Int.mul_one]at e5;omega
theorem U5{x:Int}(h:0<=x/\x<4294967296):fD .u64 x 32=x*4294967296:=by unfold fD;have h1:min (32:Int).toNat IntKind.u64.bits=32:=rfl;grind[aY]
theorem Wk{x:Int}(h:0<=x/\x<4294967296):fD .u64 x 0=x:=by unfold fD;have h1:min (0:Int).toNat IntKind.u64.bits=0:=rfl;rw[h1,Int.pow_zero,Int.mul_one];grind[aY]
theorem VF{x:Int}(h:0<=x/\x<4294967296):jP .u64 0 x=x:=by
 obtain⟨X,rfl⟩:∃X:Nat,x=(X:Int):=⟨x.toNat,by omega⟩
 have:=tQ (X:=0) (Y:=X) (by decide) (by omega);simpa using this
theorem Ue{x y:Int}(h:0<=x/\x<4294967296)(g:0<=y/\y<4294967296):jP .u64 x (y*4294967296)=x+y*4294967296:=by
 obtain⟨X,rfl⟩:∃X:Nat,x=(X:Int):=⟨x.toNat,by omega⟩
 obtain⟨Y,rfl⟩:∃Y:Nat,y=(Y:Int):=⟨y.toNat,by omega⟩
 have e:((Y:Int)*4294967296)=((Y*4294967296:Nat):Int):=by simp
 rw[e,tQ (by omega) (by omega)];have h2:X|||Y*4294967296=X+Y*4294967296:=by have:=Nat.two_pow_add_eq_or_of_lt (i:=32) (b:=X) (by omega) Y;grind
 rw[h2];simp
def lg(l:List Int)(i:Nat):List Int:=
 let g:=fun m:Nat=>if m<i then l.getD m 0 else 0
 [g 0+g 1*4294967296,g 2+g 3*4294967296,g 4+g 5*4294967296,g 6+g 7*4294967296]
theorem ym{α:Type}(k:Nat)(Xt:Bool->List Int->List Int->Option α)(l:List Int)(hd:aM bY l)(hl:l.length<=1000000)(c2:List Int):∀(n i:Nat)(f:Bool),i<=l.length->l.length-i<n->
  ∃f',aU.l0 k Xt n f l (l.length:Int) (i:Int) c2 (lg l i)=Xt f' c2 (lg l (max i (min l.length 8)))/\(f'=true↔f=true\/val bY (l.drop (max i 8))≠0)
 |0,i,f,_,h=>by omega
 |n+1,i,f,hi,h=>by
  by_cases hlt:i<l.length
  ·have dg:=di fy hd i;simp only[bY]at dg;by_cases h8:8<=i
   ·obtain⟨f',e1,e2⟩:=ym k Xt l hd hl c2 n (i+1) (cond f true (l.getD i 0 !=0)) (by omega) (by omega);have hw:lg l (i+1)=lg l i:=by
     grind[lg]
    have hw2:lg l (max (i+1) (min l.length 8))=lg l (max i (min l.length 8)):=by grind
    refine⟨f',?_,?_⟩
    ·simp only[aU.l0,aU.aR,aU.j0];rw[if_pos (by simp;omega),if_pos (by omega),if_pos (by simp;omega),ae,ax (by omega),<-hw,e1,hw2]
    ·rw[e2,show max (i+1) 8=i+1 by omega,show max i 8=i by omega,iB bY l i];grind
   ·obtain⟨f',e1,e2⟩:=ym k Xt l hd hl c2 n (i+1) f (by omega) (by omega);refine⟨f',?_,?_⟩
    ·rw[show max i (min l.length 8)=max (i+1) (min l.length 8) by omega,<-e1];simp only[aU.l0,aU.aR,aU.j0];have et:tdiv (i:Int) 2=((i/2:Nat):Int):=by rw[ji (by omega)];rfl
     have em:tmod (i:Int) 2=((i%2:Nat):Int):=mH i 2;rw[if_pos (by simp;omega),if_pos (by omega),if_neg (by simp;omega),et,em,wrap_i64 (x:=((i/2:Nat):Int)) (by omega) (by omega),wrap_i64 (x:=32*((i%2:Nat):Int)) (by omega) (by omega),if_pos (by omega),if_pos (by omega),if_pos (by omega),ae,ae,ax (by omega)];congr 1;have dgp:=fun m:Nat=>di fy hd m;simp only[List.getD_eq_getElem?_getD,bY]at dgp;have dg:=dgp i;rcases(show i=0\/i=1\/i=2\/i=3\/i=4\/i=5\/i=6\/i=7 by omega)with rfl|rfl|rfl|rfl|rfl|rfl|rfl|rfl
     all_goals simp[lg]
     all_goals first
      |(rw[Wk dg,VF dg])
      |(rw[U5 dg,Ue (dgp _) dg])
    grind
  ·have hil:i=l.length:=by omega
   refine⟨f,?_,?_⟩
   ·simp only[aU.l0,aU.aR];grind
   grind[drop_eq_nil_of_le,val]
theorem Pz(B:Int):∀(l:List Int)(n:Nat),val B l=val B (l.take n)+B^(min n l.length)*val B (l.drop n):=by grind[List.take_append_drop,ir]
theorem kK{l:List Int}(hd:aM bY l)(hl:l.length<=1000000):
  ∃w f,aU.run l=some (w,f,())/\w.length=4/\aM ah w/\val ah w=val bY l%115792089237316195423570985008687907853269984665640564039457584007913129639936/\(f=true↔115792089237316195423570985008687907853269984665640564039457584007913129639936<=val bY l):=by
 unfold aU.run aU.top aU.j1;have h0:=fun N(hN:l.length<N)=>ym N (fun(x5:Bool)(c2:List Int)(c4:List Int)=>some (c4,x5,())) l hd hl [0,0,0,0] N 0 false (by omega) (by omega);obtain⟨f',e1,e2⟩:=h0 fuel (by rw[ai];omega);have ew:lg l 0=[0,0,0,0]:=rfl;rw[ew]at e1;have g:∀m:Nat,0<=(if m<max 0 (min l.length 8)then l.getD m 0 else 0)/\(if m<max 0 (min l.length 8)then l.getD m 0 else 0)<4294967296:=fun m=>by have:=di fy hd m;grind
 have gv:val bY (l.take 8)=val ah (lg l (max 0 (min l.length 8))):=by
  have t0:∀m:Nat,(if m<max 0 (min l.length 8)then l.getD m 0 else 0)=if m<8 then l.getD m 0 else 0:=fun m=>by grind
  unfold lg;simp only[t0];simp only[show(0<8) from by decide,show(1<8) from by decide,show(2<8) from by decide,show(3<8) from by decide,show(4<8) from by decide,show(5<8) from by decide,show(6<8) from by decide,show(7<8) from by decide,if_true];rw[kN bY l 7,kN bY l 6,kN bY l 5,kN bY l 4,kN bY l 3,kN bY l 2,kN bY l 1,kN bY l 0];simp only[val,List.take_zero,bY,ah];omega
 refine⟨lg l (max 0 (min l.length 8)),f',?_,rfl,?_,?_,?_⟩
 ·exact e1
 ·intro d hdm;have g0:=g 0;have g1:=g 1;have g2:=g 2;have g3:=g 3;have g4:=g 4;have g5:=g 5;have g6:=g 6;have g7:=g 7;simp only[lg,mem_cons,not_mem_nil,or_false]at hdm;simp only[ah];rcases hdm with rfl|rfl|rfl|rfl<;>omega
 all_goals
  have hb:=kO fy hd 8;have hb2:=dA fy (qh hd 8);have hs:=Pz bY l 8;have e8:bY^8=115792089237316195423570985008687907853269984665640564039457584007913129639936:=rfl;rw[e8]at hb
 ·rw[<-gv];by_cases h8:8<=l.length
  ·rw[Nat.min_eq_left h8,e8]at hs;rw[hs,Int.add_mul_emod_self_left];exact(Int.emod_eq_of_lt hb.1 hb.2).symm
  ·rw[drop_eq_nil_of_le (by omega)]at hs;simp only[val,mul_zero,add_zero]at hs;rw[hs];exact(Int.emod_eq_of_lt hb.1 hb.2).symm
 ·rw[e2,show max 0 8=8 from rfl];simp only[false_eq_true,false_or];by_cases h8:8<=l.length
  ·rw[Nat.min_eq_left h8,e8]at hs;constructor<;>intro h<;>omega
  ·rw[drop_eq_nil_of_le (by omega)]at hs⊢;simp only[val,mul_zero,add_zero]at hs⊢;constructor<;>intro h<;>omega
theorem hJ{K:Ty->Nat->Prop}{n:Nat}{l:List Int}(h:Fit K (.arr n (.int .u64)) l):l.length=n/\aM ah l:=by obtain⟨h1,h2⟩:=h;refine⟨h1,fun d hd=>?_⟩;have:=h2 d hd;simp only[Fit,n6]at this;grind
abbrev Ck:Ty:=.arr 4 (.int .u64)
abbrev aB:Int:=115792089237316195423570985008687907853269984665640564039457584007913129639936
theorem add_eq(a b c d a' b' c' d':Int):gb.run [a,b,c,d] [a',b',c',d']=
  (mM.run a a' 0).bind fun y=>(mM.run b b' y.2.1).bind fun z=>(mM.run c c' z.2.1).bind fun u=>(mM.run d d' u.2.1).bind fun v=>some ([y.1,z.1,u.1,v.1],v.2.1==1,()):=by kernel_rfl
theorem sub_eq(a b c d a' b' c' d':Int):gE.run [a,b,c,d] [a',b',c',d']=
  (pH.run a a' 0).bind fun y=>(pH.run b b' y.2.1).bind fun z=>(pH.run c c' z.2.1).bind fun u=>(pH.run d d' u.2.1).bind fun v=>some ([y.1,z.1,u.1,v.1],v.2.1==1,()):=by kernel_rfl
theorem mR{x y c:Int}(hx:0<=x/\x<18446744073709551616)(hy:0<=y/\y<18446744073709551616)(hc:0<=c/\c<=1):∃r o,mM.run x y c=some (r,o,())/\(0<=r/\r<18446744073709551616)/\(0<=o/\o<=1)/\r+18446744073709551616*o=x+y+c:=by refine⟨_,_,if_pos (by omega),by omega,by omega,by omega⟩
theorem rA{x y c:Int}(hx:0<=x/\x<18446744073709551616)(hy:0<=y/\y<18446744073709551616)(hc:0<=c/\c<=1):∃r o,pH.run x y c=some (r,o,())/\(0<=r/\r<18446744073709551616)/\(0<=o/\o<=1)/\r-18446744073709551616*o=x-y-c:=by refine⟨_,_,if_pos (by omega),by omega,by split<;>omega,by split<;>omega⟩
theorem jG{l m:List Int}(hl:l.length=4)(hm:m.length=4)(dl:aM ah l)(dm:aM ah m)(h:val ah l=val ah m):l=m:=val_inj dO dl dm (by omega) h
theorem pg{l m:List Int}(hl:l.length=4)(hm:m.length=4)(dl:aM ah l)(dm:aM ah m):
  ∃r o,gb.run l m=some (r,o,())/\r.length=4/\aM ah r/\val ah r=(val ah l+val ah m)%aB/\(o=true↔aB<=val ah l+val ah m):=by
 obtain⟨a,b,c,d,rfl⟩:=fF hl;obtain⟨a',b',c',d',rfl⟩:=fF hm;have h1:=dl a (by simp);have h2:=dl b (by simp);have h3:=dl c (by simp);have h4:=dl d (by simp);have g1:=dm a' (by simp);have g2:=dm b' (by simp);have g3:=dm c' (by simp);have g4:=dm d' (by simp);rw[add_eq];obtain⟨r1,o1,e1,q1,p1,s1⟩:=mR h1 g1 (c:=0) (by omega);obtain⟨r2,o2,e2,q2,p2,s2⟩:=mR h2 g2 p1;obtain⟨r3,o3,e3,q3,p3,s3⟩:=mR h3 g3 p2;obtain⟨r4,o4,e4,q4,p4,s4⟩:=mR h4 g4 p3;rw[e1,bind_some,e2,bind_some,e3,bind_some,e4,bind_some];refine⟨_,_,rfl,rfl,?_,?_,?_⟩
 ·intro x hx;simp only[mem_cons,not_mem_nil,or_false]at hx;simp only[ah];rcases hx with rfl|rfl|rfl|rfl<;>omega
 ·simp only[val,ah,aB]at*;omega
 ·simp only[val,ah,aB,beq_iff_eq]at*;constructor<;>intro h<;>omega
theorem tD{l m:List Int}(hl:l.length=4)(hm:m.length=4)(dl:aM ah l)(dm:aM ah m):
  ∃r o,gE.run l m=some (r,o,())/\r.length=4/\aM ah r/\val ah r=(val ah l-val ah m)%aB/\(o=true↔val ah l<val ah m):=by
 obtain⟨a,b,c,d,rfl⟩:=fF hl;obtain⟨a',b',c',d',rfl⟩:=fF hm;have h1:=dl a (by simp);have h2:=dl b (by simp);have h3:=dl c (by simp);have h4:=dl d (by simp);have g1:=dm a' (by simp);have g2:=dm b' (by simp);have g3:=dm c' (by simp);have g4:=dm d' (by simp);rw[sub_eq];obtain⟨r1,o1,e1,q1,p1,s1⟩:=rA h1 g1 (c:=0) (by omega);obtain⟨r2,o2,e2,q2,p2,s2⟩:=rA h2 g2 p1;obtain⟨r3,o3,e3,q3,p3,s3⟩:=rA h3 g3 p2;obtain⟨r4,o4,e4,q4,p4,s4⟩:=rA h4 g4 p3;rw[e1,bind_some,e2,bind_some,e3,bind_some,e4,bind_some];refine⟨_,_,rfl,rfl,?_,?_,?_⟩
 ·intro x hx;simp only[mem_cons,not_mem_nil,or_false]at hx;simp only[ah];rcases hx with rfl|rfl|rfl|rfl<;>omega
 ·simp only[val,ah,aB]at*;omega
 ·simp only[val,ah,aB,beq_iff_eq]at*;constructor<;>intro h<;>omega
theorem fp{l:List Int}(hl:l.length=4)(dl:aM ah l):0<=val ah l/\val ah l<aB:=by have:=dA dO dl;grind
theorem JR{a b:Bool}{p:Prop}(h:a=true↔p)(g:b=true↔p):a=b:=by grind
theorem CR{l m:List Int}(hl:l.length=4)(hm:m.length=4)(h:az (.arr 4 (.int .u64)) l m=true):l=m:=by obtain⟨a,b,c,d,rfl⟩:=fF hl;obtain⟨a',b',c',d',rfl⟩:=fF hm;simp_all[az,qO]
theorem BP{α:Type}(k:Nat)(Xt:List Int->Option α):∀(n:Nat)(l:List Int),l.length<n->l.length<=1000000->aM bY l->∃r,ct.l0 k Xt n l=Xt r/\r.length<=l.length/\aM bY r/\val bY r=val bY l/\(∀d,r.getLast? =some d->d≠0)
 |0,l,h,_,_=>by omega
 |n+1,l,h,hl,hd=>by
  simp only[ct.l0,ct.aR];by_cases h0:l.length=0
  ·grind
  ·have ew:IntKind.i64.wrap ((l.length:Int)-1)=((l.length-1:Nat):Int):=by rw[wrap_i64 (by omega) (by omega)];omega
   rw[ew];have hc1:(decide (0<=((l.length-1:Nat):Int)/\((l.length-1:Nat):Int)<(l.length:Int))|| !((decide ((l.length:Int)>0))==true))=true:=by grind
   rw[hc1];simp only[cond_true];have md:decide ((l.length:Int)>0)=true:=by rw[decide_eq_true_eq];omega
   have hlt:l.length-1<l.length:=by omega
   simp only[md,cond_true,ae,getD_eq hlt];have hsplit:l=l.take (l.length-1)++[l[l.length-1]]:=by grind[List.take_append_drop,List.drop_eq_getElem_cons]
   by_cases hz:l[l.length-1]=0
   ·rw[if_pos (by simpa using hz),if_pos (by omega)];have hcut:aA l 0 ((l.length-1:Nat):Int)=l.take (l.length-1):=by
     rfl
    rw[hcut];obtain⟨r,e1,e2,e3,e4,e5⟩:=BP k Xt n (l.take (l.length-1)) (by simp;omega) (by simp;omega) (mU hd _);grind[ir,val]
   grind
theorem t9{l:List Int}(hl:l.length<=1000000)(hd:aM bY l):∃r,ct.run l=some r/\r.length<=l.length/\aM bY r/\val bY r=val bY l/\(∀d,r.getLast? =some d->d≠0):=by unfold ct.run ct.top ct.j0;have:=fun N(hN:l.length<N)=>BP N (fun(x2:List Int)=>some x2) N l hN hl hd;exact this fuel (by rw[ai];omega)
abbrev eZ:Type:=List Int×List Int×Unit
abbrev ff:Type:=List Int×List eZ×Unit
def nN(h:eZ):Prop:=h.1.length=32/\h.2.1.length=4/\aM ah h.2.1/\∀b∈h.1,0<=b/\b<=255
def fB(c:ff):Prop:=c.1.length=4/\aM ah c.1/\∀h∈c.2.1,nN h
theorem At:∀(x y:List Int),x.length=y.length->(decide (pn x y>=0)= !(nk x y))
 |[],[],_=>by simp[pn,nk]
 |[],_::_,h=>by simp at h
 |_::_,[],h=>by simp at h
 |a::x,b::y,h=>by have ih:=At x y (by simpa using h);simp only[pn,nk];grind
theorem F0{l:List Int}(h:l.length=32):aA l 0 32=l:=by grind[aA]
abbrev H0:eZ:=(replicate 32 0,[0,0,0,0],())
def lC(l:List eZ)(i:Nat):Bool:=!(az (.arr 4 (.int .u64)) (l.getD i H0).2.1 [0,0,0,0])&&(decide (i=0)||nk (l.getD (i-1) H0).1 (l.getD i H0).1)
def E9(l:List eZ):Nat->Nat->Bool
 |0,_=>true
 |k+1,i=>lC l i&&E9 l k (i+1)
def Ei(l:List eZ):Nat->Nat->Int
 |0,_=>0
 |k+1,i=>val ah (l.getD i H0).2.1+Ei l k (i+1)
theorem tW{l:List eZ}(h:∀x∈l,nN x){i:Nat}(hi:i<l.length):nN (l.getD i H0):=by grind
theorem B2{l:List eZ}(h:∀x∈l,nN x):∀(k i:Nat),i+k<=l.length->0<=Ei l k i
 |0,_,_=>Int.le_refl _
 |k+1,i,hi=>by obtain⟨_,h2,h3,_⟩:=tW h (i:=i) (by omega);have:=(dA dO h3).1;have:=B2 h k (i+1) (by omega);grind[Ei]
theorem KS{l:List eZ}(h:∀x∈l,nN x){i:Nat}(hi:i<l.length):aA (l.getD i H0).1 0 32=(l.getD i H0).1:=F0 (tW h hi).1
theorem As{α:Type}(k:Nat)(Rt:Int->Option α)(Xt:ff->List Int->Option α)(c:ff)(hc:∀x∈c.2.1,nN x)(hl:c.2.1.length<=1000):∀(n m i:Nat)(s:List Int),i+m=c.2.1.length->m<n->s.length=4->aM ah s->
  ((E9 c.2.1 m i=true/\val ah s+Ei c.2.1 m i<aB)->∃r,cY.l0 k Rt Xt n c.2.1 (c.2.1.length:Int) (i:Int) c s=Xt c r/\r.length=4/\aM ah r/\val ah r=val ah s+Ei c.2.1 m i)/\
  (¬(E9 c.2.1 m i=true/\val ah s+Ei c.2.1 m i<aB)->cY.l0 k Rt Xt n c.2.1 (c.2.1.length:Int) (i:Int) c s=Rt 12)
 |0,m,i,s,_,h,_,_=>by omega
 |n+1,0,i,s,hi,h,hs,hd=>by
  have e:cY.l0 k Rt Xt (n+1) c.2.1 (c.2.1.length:Int) (i:Int) c s=Xt c s:=by simp_all[cY.l0,cY.aR]
  have hb:=fp hs hd;grind[Ei,E9]
 |n+1,m+1,i,s,hi,h,hs,hd=>by
  have hlt:i<c.2.1.length:=by omega
  obtain⟨w1,w2,w3,w4⟩:=tW hc hlt;obtain⟨r,o,e1,e2,e3,e4,e5⟩:=pg hs w2 hd w3;have hb:=fp hs hd;have hbw:=fp w2 w3;have htn:=B2 hc m (i+1) (by omega);have step:cY.l0 k Rt Xt (n+1) c.2.1 (c.2.1.length:Int) (i:Int) c s=if lC c.2.1 i=true then(if o=true then Rt 12 else cY.l0 k Rt Xt n c.2.1 (c.2.1.length:Int) ((i+1:Nat):Int) c r)else Rt 12:=by
   simp only[cY.l0,cY.aR];rw[if_pos (dT (by omega)),if_pos (by omega),ax (by omega),ae];unfold gV.run gV.top qJ.run;by_cases h0:i=0
   ·subst h0;have g1:(decide (((0:Nat):Int)>0))=false:=rfl;simp only[g1];have g2:(decide (0<=IntKind.i64.wrap (((0:Nat):Int)-1)/\IntKind.i64.wrap (((0:Nat):Int)-1)<(c.2.1.length:Int))|| !(false==true))=true:=by simp
    rw[g2];simp only[cond_true,cond_false];rw[if_neg (by simp),bind_some,e1];simp only[bind_some];unfold lC;grind
   ·have ew:IntKind.i64.wrap ((i:Int)-1)=((i-1:Nat):Int):=by rw[wrap_i64 (by omega) (by omega)];omega
    have g1:(decide ((i:Int)>0))=true:=by rw[decide_eq_true_eq];omega
    simp only[g1,ew,ae];have g2:(decide (0<=((i-1:Nat):Int)/\((i-1:Nat):Int)<(c.2.1.length:Int))|| !(true==true))=true:=by grind
    rw[g2];simp only[cond_true];rw[if_pos (by rfl),bind_some,bind_some,e1];simp only[bind_some];have hw:=KS hc hlt;have hw1:=KS hc (show i-1<c.2.1.length by omega);rw[hw,hw1,At _ _ (by rw[(tW hc hlt).1,(tW hc (show i-1<c.2.1.length by omega)).1])];unfold lC;grind
  obtain⟨ih1,ih2⟩:=As k Rt Xt c hc hl n m (i+1) r (by omega) (by omega) e2 e3;rw[step];simp only[E9,Ei,and_eq_true];grind
theorem AE{α:Type}(k:Nat)(Xt:List Int->Bool->ff->Option α)(c:ff)(hc:∀x∈c.2.1,nN x)(hl:c.2.1.length<=1000):∀(n m i:Nat)(s:List Int)(b:Bool),i+m=c.2.1.length->m<n->s.length<=8+i->aM bY s->
  ∃r,aS.l0 k Xt n s b c.2.1 (c.2.1.length:Int) (i:Int) c=Xt r (b&&E9 c.2.1 m i) c/\r.length<=8+(i+m)/\aM bY r/\val bY r=val bY s+Ei c.2.1 m i
 |0,m,i,s,b,_,h,_,_=>by omega
 |n+1,0,i,s,b,hi,h,hs,hd=>by refine⟨s,?_,by omega,hd,by simp[Ei]⟩;simp_all[aS.l0,aS.aR,E9]
 |n+1,m+1,i,s,b,hi,h,hs,hd=>by
  have hlt:i<c.2.1.length:=by omega
  obtain⟨w1,w2,w3,w4⟩:=tW hc hlt;obtain⟨o1,q1,q2,q3,q4⟩:=gj w2 w3;obtain⟨p,p1,p2,p3,p4⟩:=nG hd q3 (by omega) (by omega);obtain⟨t,t1,t2,t3,t4,t5⟩:=t9 (by omega) p3;have step:aS.l0 k Xt (n+1) s b c.2.1 (c.2.1.length:Int) (i:Int) c=aS.l0 k Xt n t (b&&lC c.2.1 i) c.2.1 (c.2.1.length:Int) ((i+1:Nat):Int) c:=by
   simp only[aS.l0,aS.aR];rw[if_pos (dT (by omega)),if_pos (by omega),ax (by omega),ae];unfold aE.run aE.top e9.run e9.top;have hz:(if(b==true)=true then some (az (.arr 4 (.int .u64)) (c.2.1.getD i H0).2.1 [0,0,0,0])else some false)=some (b&&az (.arr 4 (.int .u64)) (c.2.1.getD i H0).2.1 [0,0,0,0]):=by cases b<;>rfl
   rw[hz,bind_some];by_cases h0:i=0
   ·subst h0;have g1:(((0:Nat):Int)==0)=true:=rfl;simp only[g1];have g2:(decide (0<=IntKind.i64.wrap (((0:Nat):Int)-1)/\IntKind.i64.wrap (((0:Nat):Int)-1)<(c.2.1.length:Int))|| !(true==false))=true:=by simp
    rw[g2];simp only[cond_true];rw[if_neg (by simp),bind_some,q1];simp only[bind_some];rw[p1];simp only[bind_some];rw[t1];simp only[bind_some];congr 1;unfold lC;grind
   ·have ew:IntKind.i64.wrap ((i:Int)-1)=((i-1:Nat):Int):=by rw[wrap_i64 (by omega) (by omega)];omega
    have g1:((i:Int)==0)=false:=by rw[beq_eq_false_iff_ne];omega
    simp only[g1,ew,ae];have g2:(decide (0<=((i-1:Nat):Int)/\((i-1:Nat):Int)<(c.2.1.length:Int))|| !(false==false))=true:=by grind
    rw[g2];simp only[cond_true,cond_false];have hw:=KS hc hlt;have hw1:=KS hc (show i-1<c.2.1.length by omega);rw[if_pos (by rfl),bind_some,q1];simp only[bind_some];rw[p1];simp only[bind_some];rw[t1];simp only[bind_some];rw[hw,hw1];congr 1;unfold lC;grind
  obtain⟨r,r1,r2,r3,r4⟩:=AE k Xt c hc hl n m (i+1) t (b&&lC c.2.1 i) (by omega) (by omega) (by omega) t3;grind[E9,Ei]
def iS(c:ff):Bool:=E9 c.2.1 c.2.1.length 0&&decide (Ei c.2.1 c.2.1.length 0=val ah c.1)
theorem iD(c:ff):iS c=true↔E9 c.2.1 c.2.1.length 0=true/\Ei c.2.1 c.2.1.length 0=val ah c.1:=by simp_all[iS]
theorem kF(c:ff)(hc:fB c):cY.run c=some (if c.2.1.length>40 then 1 else if iS c=true then 0 else 12):=by
 obtain⟨c1,c2,c3⟩:=hc;unfold cY.run cY.top;by_cases h40:c.2.1.length>40
 ·grind
 ·rw[if_neg (dF (by omega)),if_neg h40];have hz:aM ah [0,0,0,0]:=fun d hd=>by
   grind
  have hv0:val ah [0,0,0,0]=0:=rfl;have hb:=fp c1 c2;have:=fun N(hN:c.2.1.length<N)=>As N (fun(x2:Int)=>some x2) (fun(c1:ff)(c3:List Int)=>cY.j0 (fun(x2:Int)=>some x2) c1 c3) c c3 (by omega) N c.2.1.length 0 [0,0,0,0] (by omega) hN rfl hz;obtain⟨k1,k2⟩:=this fuel (by rw[ai];omega);rw[hv0,Int.zero_add]at k1 k2;by_cases lC:E9 c.2.1 c.2.1.length 0=true/\Ei c.2.1 c.2.1.length 0<aB
  ·obtain⟨r,r1,r2,r3,r4⟩:=k1 lC;refine Eq.trans r1 ?_;unfold cY.j0;have e:az (.arr 4 (.int .u64)) r c.1=decide (Ei c.2.1 c.2.1.length 0=val ah c.1):=by
    rw[Bool.eq_iff_iff,decide_eq_true_eq];constructor
    ·grind[CR]
    ·intro hh;rw[jG r2 c1 r3 c2 (by rw[r4,hh])];exact cP (.arr 4 (.int .u64)) c.1 rfl
   rw[e];by_cases ht:Ei c.2.1 c.2.1.length 0=val ah c.1
   ·rw[if_neg (by simp[ht]),if_pos ((iD c).2 ⟨lC.1,ht⟩)]
   ·rw[if_pos (by simp[ht]),if_neg (fun h=>ht ((iD c).1 h).2)]
  ·refine Eq.trans (k2 lC) ?_;rw[if_neg];grind[iD]
theorem vf(c:ff)(hc:fB c):aS.run c=cY.run c:=by
 rw[kF c hc];obtain⟨c1,c2,c3⟩:=hc;unfold aS.run aS.top;by_cases h40:c.2.1.length>40
 ·grind
 ·rw[if_neg (dF (by omega)),if_neg h40];have:=fun N(hN:c.2.1.length<N)=>AE N (fun(x3:List Int)(x4:Bool)(c1:ff)=>aS.j0 (fun(x2:Int)=>some x2) x3 x4 c1) c c3 (by omega) N c.2.1.length 0 [] true (by omega) hN (by simp) iv;obtain⟨r,r1,r2,r3,r4⟩:=this fuel (by rw[ai];omega);refine Eq.trans r1 ?_;obtain⟨o1,q1,q2,q3,q4⟩:=gj c1 c2;unfold aS.j0;have hg:=iD c;have hv0:val bY []=0:=rfl;rw[hv0,Int.zero_add]at r4;rw[Bool.true_and];generalize iS c=g at hg⊢;cases hh:E9 c.2.1 c.2.1.length 0 with
  |false=>
   rw[hh]at hg;have:g=false:=by grind
   subst this;rfl
  |true=>
   rw[hh]at hg;simp only[true_and]at hg;simp only[Bool.not_true];rw[if_pos (show((false==false)=true) from rfl),q1];simp only[bind_some];rw[if_pos (show((false==false)=true) from rfl)];rw[nF r3 q3 (by omega) (by omega),r4,q4];have no:Ei c.2.1 c.2.1.length 0≠val ah c.1->g=false:=fun h=>by grind
   rcases Int.lt_trichotomy (Ei c.2.1 c.2.1.length 0) (val ah c.1)with h|h|h
   ·rw[if_pos h,no (by omega)];rfl
   ·rw[if_neg (by omega),if_neg (by omega),hg.2 h];rfl
   ·rw[if_neg (by omega),if_pos h,no (by omega)];rfl
abbrev R1:Ty:=.pair Ck (.pair (.sl (.pair (.arr 32 (.int .u8)) (.pair Ck .unit))) .unit)
theorem FY{K:Ty->Nat->Prop}{c:ff}(h:Fit K R1 c):fB c:=by obtain⟨h1,⟨_,_,h2⟩,_⟩:=h;obtain⟨l1,d1⟩:=hJ h1;refine⟨l1,d1,fun x hx=>?_⟩;obtain⟨⟨g1,g2⟩,g3,_⟩:=h2 x hx;obtain⟨l2,d2⟩:=hJ g3;exact⟨g1,l2,d2,fun b hb=>by have:=g2 b hb;simpa[Fit,IA]using this⟩
theorem FT{α:Type}{f:α->α->Bool}:∀(l m:List α),(∀a∈l,∀b,f a b=true↔a=b)->(qO f l m=true↔l=m)
 |[],[],_=>by simp[qO]
 |[],_::_,_=>by simp[qO]
 |_::_,[],_=>by simp[qO]
 |a::l,b::m,h=>by simp only[qO,and_eq_true,List.cons.injEq];rw[h a (by simp) b,FT l m fun c hc=>h c (List.mem_cons_of_mem _ hc)]
theorem j8:∀(t:Ty)(x y:t.den),t.cmp=true->(az t x y=true↔x=y)
 | .int _,x,y,_=>by simp[az]
 | .bool,x,y,_=>by simp[az]
 | .str,x,y,_=>by simp[az]
 | .arr n t,x,y,h=>by simp only[az];exact FT x y fun a _ b=>j8 t a b (by simpa[Ty.cmp]using h)
 | .unit,x,y,_=>by cases x;cases y;simp[az]
 | .pair a b,x,y,h=>by simp only[Ty.cmp,and_eq_true]at h;simp only[az,and_eq_true];rw[j8 a _ _ h.1,j8 b _ _ h.2];grind
 | .sl _,_,_,h=>by simp[Ty.cmp]at h
 | .opq,_,_,h=>by simp[Ty.cmp]at h
theorem jr(t:Ty)(x y:t.den)(h:t.cmp=true)[Decidable (x=y)]:az t x y=decide (x=y):=by rw[Bool.eq_iff_iff,decide_eq_true_eq];exact j8 t x y h
theorem kG{α:Type}(P:List α)(h:α)(R:List α)(d:α):(P++h::R).getD P.length d=h:=by simp[List.getD]
theorem qX:∀(x:List Int),nk x x=false
 |[]=>rfl
 |a::x=>by simp[nk,qX x]
theorem xR:∀(x y z:List Int),nk x y=true->nk y z=true->nk x z=true
 |_,[],_,h,_=>by cases ‹List Int›<;>simp[nk]at h
 |_,_::_,[],_,h=>by simp[nk]at h
 |[],_::_,_::_,_,_=>rfl
 |a::x,b::y,c::z,h,g=>by
  simp only[nk,or_eq_true,and_eq_true,decide_eq_true_eq,beq_iff_eq]at h g⊢;rcases h with h|⟨h,h'⟩<;>rcases g with g|⟨g,g'⟩
  ·left;omega
  ·left;omega
  ·left;omega
  ·right;exact⟨by omega,xR x y z h' g'⟩
theorem IP:∀(x y:List Int),x.length=y.length->nk x y=false->nk y x=false->x=y
 |[],[],_,_,_=>rfl
 |[],_::_,h,_,_=>by simp at h
 |_::_,[],h,_,_=>by simp at h
 |a::x,b::y,h,h1,h2=>by
  simp only[nk,Bool.or_eq_false_iff,Bool.and_eq_false_iff,decide_eq_false_iff_not,beq_eq_false_iff_ne]at h1 h2;have e:a=b:=by omega
  subst e;rw[IP x y (by simpa using h) (by simpa using h1.2) (by simpa using h2.2)]
def MJ{κ:Type}(eq:κ->κ->Bool):Prop:=∀a b,eq a b=true↔a=b
theorem qk{n:Nat}{k:IntKind}:MJ (az (.arr n (.int k))):=fun a b=>⟨fun h=>JP (by simpa[az]using h),fun h=>by subst h;exact cP _ _ rfl⟩
section
variable {κ ν:Type}{eq:κ->κ->Bool}
theorem wB(h:MJ eq)(a:κ):∀l:List (κ×ν),eU eq a l<l.length↔a∈l.map (·.1)
 |[]=>by simp[eU]
 |p::l=>by
  have ih:=wB h a l;cases hb:eq a p.1 with
  |true=>simp only[eU,hb,length_cons,List.map_cons,mem_cons];simp[(h a p.1).1 hb]
  |false=>
   have hne:a≠p.1:=fun e=>by rw[(h a p.1).2 e]at hb;cases hb
   simp only[eU,hb,length_cons,List.map_cons,mem_cons];constructor
   ·intro hlt;exact .inr (ih.1 (by omega))
   ·rintro(e|e)
    ·exact absurd e hne
    ·have:=ih.2 e;omega
theorem ED{a b:Nat}:blt a b=true↔a<b:=by simp[blt,Nat.ble_eq];omega
theorem JY(h:MJ eq){a:κ}{z:ν}{l:List (κ×ν)}(hm:a∈l.map (·.1)):pK eq a z l=l:=by have:=(wB h a l).2 hm;unfold pK;rw[ED.2 this]
theorem F7(h:MJ eq){a:κ}{z:ν}{l:List (κ×ν)}(hm:a∉l.map (·.1)):pK eq a z l=l++[(a,z)]:=by
 have:¬eU eq a l<l.length:=fun hlt=>hm ((wB h a l).1 hlt);unfold pK;cases hb:blt (eU eq a l) l.length with
 |true=>exact absurd (ED.1 hb) this
 |false=>rfl
theorem Lp(h:MJ eq)(a:κ)(z:ν)(l:List (κ×ν)):eU eq a l<(pK eq a z l).length:=by
 by_cases hm:a∈l.map (·.1)
 ·simp_all[JY,wB]
 grind[F7,wA]
theorem DR:∀(l:List (κ×ν))(i:Nat)(v:ν),(rV l i v).map (·.1)=l.map (·.1)
 |[],_,_=>rfl
 |_::_,0,_=>rfl
 |p::l,i+1,v=>by simp[rV,DR l i v]
end
structure Seen{κ:Type}(K P:List κ):Prop where
 nd:K.Nodup
 mem:∀a,a∈K↔a∈P
 le:K.length<=P.length
 eq:K.length=P.length↔P.Nodup
theorem Seen.nil{κ:Type}:Seen ([]:List κ) []:=⟨List.nodup_nil,by simp,by simp,by simp⟩
theorem Seen.HX{κ:Type}{K P:List κ}(h:Seen K P){a:κ}(ha:a∈K):Seen K (P++[a]):=by
 have hP:=(h.mem a).1 ha;refine⟨h.nd,fun b=>?_,by have:=h.le;simp;omega,?_⟩
 ·rw[h.mem,List.mem_append,List.mem_singleton];grind
 ·constructor
  ·intro e;have:=h.le;simp at e;omega
  grind
theorem Seen.new{κ:Type}{K P:List κ}(h:Seen K P){a:κ}(ha:a∉K):Seen (K++[a]) (P++[a]):=by
 have hP:a∉P:=fun hp=>ha ((h.mem a).2 hp);have nd:∀{L:List κ},a∉L->((L++[a]).Nodup↔L.Nodup):=fun{L} hL=>by grind
 refine⟨(nd ha).2 h.nd,fun b=>by simp[h.mem b],by have:=h.le;simp;omega,?_⟩;rw[nd hP,<-h.eq];simp
theorem Seen.lt{κ:Type}{K P:List κ}(h:Seen K P):K.length<P.length↔¬P.Nodup:=by have:=h.le;rw[<-h.eq];omega
theorem dk{α:Type}(P R:List α)(a d:α):(P++a::R).getD P.length d=a:=by simp[List.getD]
theorem Av{α:Type}(P R:List α):aA (P++R) 0 (P.length:Int)=P:=by simp[aA]
theorem keys_inner{α:Type}(Rt:Int->Option α)(Xt:List (List Int)->List (List Int)->Int->Int->Option α)(k:Nat)(x0 x15:List (List Int))(x16 x17:Int)(c:List Int)(l:List (List Int))(hl:l.length<=1000):
  ∀(R P:List (List Int))(n:Nat),R.length<n->l=P++R->
  dN.l1 k Rt Xt n x0 x15 x16 x17 l (l.length:Int) (P.length:Int) c=if c∈R then Rt 8 else Xt x0 x15 x16 x17
 |R,P,0,h,_=>by omega
 |[],P,n+1,h,hc=>by simp_all[dN.l1,dN.ly]
 |a::R,P,n+1,h,hc=>by
  have hlen:l.length=P.length+(R.length+1):=by rw[hc];simp
  simp only[dN.l1,dN.ly];have hg:l.getD P.length (replicate 20 0)=a:=by rw[hc];exact dk _ _ _ _
  rw[if_pos (dT (by omega)),if_pos (by omega),ax (by omega),ae,hg];have ih:=keys_inner Rt Xt k x0 x15 x16 x17 c l hl R (P++[a]) n (by simpa using h) (by simp[hc]);rw[length_append]at ih;by_cases he:c=a
  ·rw[if_pos ((qk (n:=20) (k:=.u8) c a).2 he),if_pos (by simp[he])]
  ·rw[if_neg (fun h=>he ((qk (n:=20) (k:=.u8) c a).1 h))];grind
theorem A6{α:Type}(Rt:Int->Option α)(Xt:Option α)(k:Nat)(hk:1000<k)(l:List (List Int))(hl:l.length<=1000):
  ∀(R P:List (List Int))(n:Nat),R.length<n->l=P++R->P.Nodup->
  dN.l0 k Rt Xt n l l (l.length:Int) (P.length:Int)=if l.Nodup then Xt else Rt 8
 |R,P,0,h,_,_=>by omega
 |[],P,n+1,h,hc,hn=>by simp_all[dN.l0,dN.aR]
 |a::R,P,n+1,h,hc,hn=>by
  have hlen:l.length=P.length+(R.length+1):=by rw[hc];simp
  simp only[dN.l0,dN.aR];have hg:l.getD P.length (replicate 20 0)=a:=by rw[hc];exact dk _ _ _ _
  have hcut:aA l 0 (P.length:Int)=P:=by rw[hc];exact Av _ _
  rw[if_pos (dT (by omega)),if_pos (by omega),if_pos (by omega),ae,hg,hcut];have hin:=keys_inner Rt (fun x0 x15 x16 x17=>dN.j0 (dN.l0 k Rt Xt n) x0 x15 x16 x17) k l l (l.length:Int) (P.length:Int) a P (by omega) P [] k (by omega) rfl;refine Eq.trans hin ?_;by_cases hm:a∈P
  ·grind
  ·rw[if_neg hm];unfold dN.j0;rw[ax (by omega)];have ih:=A6 Rt Xt k hk l hl R (P++[a]) n (by simpa using h) (by simp[hc]) (by
    rw[List.nodup_append];refine⟨hn,by simp,fun x hx y hy e=>?_⟩;simp at hy;subst hy;subst e;exact hm hx)
   grind
theorem yK{α:Type}(Xt:List (List Int)->List (List Int×Int)->Option α)(k:Nat)(l:List (List Int))(hl:l.length<=1000):
  ∀(R P:List (List Int))(n:Nat)(c:List (List Int×Int)),R.length<n->l=P++R->Seen (c.map (·.1)) P->
  ∃c',Seen (c'.map (·.1)) l/\bx.l0 k Xt n l l (l.length:Int) (P.length:Int) c=Xt l c'
 |R,P,0,_,h,_,_=>by omega
 |[],P,n+1,c,h,hc,hs=>by simp only[bx.l0,bx.aR];grind
 |a::R,P,n+1,c,h,hc,hs=>by
  have hlen:l.length=P.length+(R.length+1):=by rw[hc];simp
  simp only[bx.l0,bx.aR];have hg:l.getD P.length (replicate 20 0)=a:=by rw[hc];exact dk _ _ _ _
  have hcl:c.length<=P.length:=by have:=hs.le;simpa using this
  rw[if_pos (dT (by omega)),if_pos (by omega),ax (by omega),ae,hg];have hix:=Lp (qk (n:=20) (k:=.u8)) a (0:Int) c;have hix':eU (az (.arr 20 (.int .u8))) a c<(pK (az (.arr 20 (.int .u8))) a (0:Int) c).length:=hix;rw[if_pos (ED.2 (by omega)),if_pos ⟨by omega,Int.ofNat_lt.2 hix'⟩];have key:Seen ((rV (pK (az (.arr 20 (.int .u8))) a (0:Int) c) (Int.toNat ((eU (az (.arr 20 (.int .u8))) a c:Nat):Int)) (IntKind.i64.wrap (getM (az (.arr 20 (.int .u8))) a (0:Int) c+1))).map (·.1)) (P++[a]):=by
   rw[DR];by_cases hm:a∈c.map (·.1)
   ·rw[JY (qk (n:=20) (k:=.u8)) hm];exact hs.HX hm
   ·rw[F7 (qk (n:=20) (k:=.u8)) hm,List.map_append];exact hs.new hm
  have ih:=yK Xt k l hl R (P++[a]) n _ (by simpa using h) (by simp[hc]) key;grind
def oW(l:List (List Int)):Int:=if l.length<1\/19<l.length then 1 else if l.Nodup then 0 else 8
theorem sP(l:List (List Int)):dN.run l=some (oW l):=by
 unfold dN.run dN.top oW;by_cases h:l.length<1\/19<l.length
 ·grind
 ·rw[if_neg h,if_neg]
  ·have:=A6 (fun x2:Int=>some x2) (dN.j1 fun x2:Int=>some x2) fuel (by rw[ai];omega) l (by omega) l [] fuel (by rw[ai];omega) rfl List.nodup_nil;refine Eq.trans this ?_;grind[dN.j1]
  grind
theorem xM(l:List (List Int)):bx.run l=some (oW l):=by
 unfold bx.run bx.top oW;by_cases h:l.length<1\/19<l.length
 ·grind
 ·rw[if_neg h,if_neg]
  ·obtain⟨c',h1,h2⟩:=yK (fun x0 c14=>bx.j0 (fun x2:Int=>some x2) x0 c14) fuel l (by omega) l [] fuel [] (by rw[ai];omega) rfl Seen.nil;refine Eq.trans h2 ?_;unfold bx.j0;have hle:=h1.le;have hlt:=h1.lt;simp only[List.length_map]at hle hlt;rw[if_pos (Nat.ble_eq_true_of_le (by omega))];grind
  grind
theorem wF{l:List (List Int)}(h:oW l=0):1<=l.length/\l.length<=19:=by grind[oW]
abbrev fx:Type:=Int×List (List Int)×Int×Unit
def nW(n i:Nat)(z:Int)(s:fx):Bool:=decide (s.1≠(i:Int)\/(if i+1=n then s.2.2.1≠0 else(s.2.2.1<1\/s.2.2.1<z\/1099511627800<s.2.2.1)))
theorem FV{p:Prop}[Decidable p]{b:Bool}(h:(b=true)↔p):b=decide p:=by grind
theorem Ea(l:List fx)(hl:l.length<=1000):∀(R P:List fx)(n:Nat)(z:Int)(k:Nat),0<=z->R.length<n->l=P++R->
  ∃e:Int,cc.l0 k (fun x2:Int=>some x2) (cc.j0 fun x2:Int=>some x2) n l z l (l.length:Int) (P.length:Int)=some e/\
   bD.l0 k (fun x2:Int=>some x2) (bD.j0 fun x2:Int=>some x2) n l z l (l.length:Int) (P.length:Int)=some e/\(e=0->∀s∈R,s.2.1.length<=19)
 |R,P,0,_,_,_,h,_=>by omega
 |[],P,n+1,z,k,hz,h,hc=>by
  have:l.length=P.length:=by rw[hc];simp
  refine⟨0,?_,?_,fun _ s hs=>by cases hs⟩
  ·simp only[cc.l0,cc.aR];rw[if_neg (dF (by omega))];rfl
  ·simp only[bD.l0,bD.aR];rw[if_neg (dF (by omega))];rfl
 |a::R,P,n+1,z,k,hz,h,hc=>by
  have hlen:l.length=P.length+(R.length+1):=by rw[hc];simp
  have hg:l.getD P.length (0,[],0,())=a:=by rw[hc];exact dk _ _ _ _
  simp only[cc.l0,cc.aR,bD.l0,bD.aR];have d1:decide ((P.length:Int)<(l.length:Int))=true:=by rw[decide_eq_true_eq];omega
  have d2:0<=(P.length:Int)/\(P.length:Int)<(l.length:Int):=by omega
  have d3:IntKind.i64.wrap ((P.length:Int)+1)=((P.length+1:Nat):Int):=ax (by omega);simp only[d1,if_true,if_pos d2,d3,ae,hg,sP,xM,bind_some];by_cases hk:oW a.2.1=0
  ·simp only[hk,if_neg (show¬(((0:Int) !=0)=true) by decide)];have c1:(cond (cond (cond (a.1 !=(P.length:Int)) true (not (az .bool ((P.length:Int)==(IntKind.i64.wrap ((l.length:Int)-1))) (a.2.2.1==0)))) true (cond (a.2.2.1 !=0) (decide (a.2.2.1<z)) false)) true (decide (a.2.2.1>1099511627800)))=nW l.length P.length z a:=by
    rw[wrap_i64 (by omega) (by omega)];unfold nW;refine FV ?_;simp only[bS,ck,or_eq_true,and_eq_true,bne_iff_ne,ne_eq,decide_eq_true_eq,az,Bool.not_eq_true',beq_eq_false_iff_ne];grind
   have c2:(cond (cond (a.1 !=(P.length:Int)) true (cond ((((P.length+1:Nat):Int))==(l.length:Int)) (a.2.2.1 !=0) false)) true (cond (not ((((P.length+1:Nat):Int))==(l.length:Int))) (cond (cond (decide (a.2.2.1<1)) true (decide (a.2.2.1<z))) true (decide (a.2.2.1>1099511627800))) false))=nW l.length P.length z a:=by unfold nW;grind
   rw[c1,c2];by_cases hb:nW l.length P.length z a=true
   ·simp_all
   ·rw[if_neg hb,if_neg hb];have hz':0<=a.2.2.1:=by
     grind
    obtain⟨e,e1,e2,e3⟩:=Ea l hl R (P++[a]) n a.2.2.1 k hz' (by simpa using h) (by simp[hc]);grind[wF]
  simp_all
theorem qC(l:List fx):∃e:Int,cc.run l=some e/\bD.run l=some e/\(e=0->1<=l.length/\l.length<=8/\∀s∈l,s.2.1.length<=19):=by
 unfold cc.run cc.top bD.run bD.top;by_cases h:l.length<1\/8<l.length
 ·rw[if_pos (by rw[bS,or_eq_true,decide_eq_true_eq,decide_eq_true_eq];omega),if_pos (by rw[bS,or_eq_true,decide_eq_true_eq,beq_iff_eq];omega)];grind
 ·rw[if_neg (by rw[bS,or_eq_true,decide_eq_true_eq,decide_eq_true_eq];omega),if_neg (by rw[bS,or_eq_true,decide_eq_true_eq,beq_iff_eq];omega)];obtain⟨e,e1,e2,e3⟩:=Ea l (by omega) l [] fuel 0 fuel (Int.le_refl _) (by rw[ai];omega) rfl;grind
theorem AQ{α:Type}(Xt:List fx->Option α)(k:Nat)(l:List fx)(hl:l.length<=1000)(hs:∀s∈l,s.2.1.length<=1000):∀(R P:List fx)(n:Nat),R.length<n->l=P++R->
  gk.l0 k Xt n l (l.length:Int) (P.length:Int) P=Xt l
 |R,P,0,h,_=>by omega
 |[],P,n+1,h,hc=>by simp_all[gk.l0,gk.aR]
 |a::R,P,n+1,h,hc=>by
  have hlen:l.length=P.length+(R.length+1):=by rw[hc];simp
  have hg:l.getD P.length (0,[],0,())=a:=by rw[hc];exact dk _ _ _ _
  have ha:a.2.1.length<=1000:=hs a (by rw[hc];simp);simp only[gk.l0,gk.aR];rw[if_pos (dT (by omega)),if_pos (by omega),ax (by omega),ae,hg,if_pos (aK (by omega) (by omega)),if_pos (aK (by omega) (by omega))];have ih:=AQ Xt k l hl hs R (P++[a]) n (by simpa using h) (by simp[hc]);grind
theorem C7(l:List fx)(hl:l.length<=1000)(hs:∀s∈l,s.2.1.length<=1000):gk.run l=some l:=by unfold gk.run gk.top;exact AQ (fun c20=>gk.j0 (fun c20=>some c20) c20) fuel l hl hs l [] fuel (by rw[ai];omega) rfl
theorem uP{α:Type}(Rt:Bool->Option α)(Xt:Option α)(k:Nat)(l:List (List Int))(hl:l.length<=4000000000):∀(R P:List (List Int))(n:Nat),R.length<n->l=P++R->
  cK.l0 k Rt Xt n l l (l.length:Int) (P.length:Int)=Xt
 |R,P,0,h,_=>by omega
 |[],P,n+1,h,hc=>by simp_all[cK.l0,cK.aR]
 |a::R,P,n+1,h,hc=>by
  have hlen:l.length=P.length+(R.length+1):=by rw[hc];simp
  simp only[cK.l0,cK.aR];rw[if_pos (dT (by omega)),if_pos (by omega),if_pos (by omega),ax (by omega),cP _ _ rfl,if_neg (by simp)];have ih:=uP Rt Xt k l hl R (P++[a]) n (by simpa using h) (by simp[hc]);grind
theorem CD(l:List (List Int))(hl:l.length<=4000000000):cK.run l l=some true:=by unfold cK.run cK.top;rw[if_neg (by simp)];exact uP (fun x4=>some x4) (cK.j0 fun x4=>some x4) fuel l hl l [] fuel (by rw[ai];omega) rfl
theorem Fp(s:fx)(hs:s.2.1.length<=4000000000):gF.run s s=some true:=by simp_all[CD,gF.run,gF.top]
theorem uU{α:Type}(Rt:Bool->Option α)(Xt:Option α)(k:Nat)(l:List fx)(hl:l.length<=4000000000)(hs:∀s∈l,s.2.1.length<=4000000000):∀(R P:List fx)(n:Nat),R.length<n->l=P++R->
  cM.l0 k Rt Xt n l l (l.length:Int) (P.length:Int)=Xt
 |R,P,0,h,_=>by omega
 |[],P,n+1,h,hc=>by simp_all[cM.l0,cM.aR]
 |a::R,P,n+1,h,hc=>by
  have hlen:l.length=P.length+(R.length+1):=by rw[hc];simp
  have hg:l.getD P.length (0,[],0,())=a:=by rw[hc];exact dk _ _ _ _
  simp only[cM.l0,cM.aR];rw[if_pos (dT (by omega)),if_pos (by omega),if_pos (by omega),ax (by omega),ae,hg,Fp a (hs a (by rw[hc];simp)),bind_some,if_neg (by simp)];have ih:=uU Rt Xt k l hl hs R (P++[a]) n (by simpa using h) (by simp[hc]);grind
theorem CG(l:List fx)(hl:l.length<=4000000000)(hs:∀s∈l,s.2.1.length<=4000000000):cM.run l l=some true:=by unfold cM.run cM.top;rw[if_neg (by simp)];exact uU (fun x4=>some x4) (cM.j0 fun x4=>some x4) fuel l hl hs l [] fuel (by rw[ai];omega) rfl
theorem qF(n m:Int):bA.run n m=some (decide (0<=n)&&decide (n<=m)):=by simp_all[bA.run,bA.top]
theorem Qg(x b:Bool):(if(x==true)=true then some b else some false)=some (x&&b):=by cases x<;>rfl
abbrev dP:Type:=Int×Int×Int×List Int×Int×Int×List Int×Unit
def me(a m:Int):Bool:=cond (decide (0<=a)) (decide (a<=m)) false
theorem wC{a m:Int}:me a m=true↔0<=a/\a<=m:=by simp[me,ck]
def u5(b:dP):Bool:=me b.1 1099511627776&&me b.2.1 4294967295&&me b.2.2.1 65535&&me b.2.2.2.2.1 1099511627776&&me b.2.2.2.2.2.1 255
def kA(b:dP):Int:=if u5 b=true then(if b.2.2.2.2.2.2.1.length>300 then 1 else 0)else 6
theorem Ap{α:Type}(k n:Nat)(R:Int->Option α)(X:dP->Option α)(a b c d e A B C D E:Int)(s:dP):
  cA.l0 k R X (n+6) [[a,A],[b,B],[c,C],[d,D],[e,E]] 5 0 s=
   if(not (me a A))=true then R 6 else if(not (me b B))=true then R 6 else if(not (me c C))=true then R 6 else if(not (me d D))=true then R 6 else if(not (me e E))=true then R 6 else X s:=by
 kernel_rfl
theorem IK{α:Type}(l:List α)(n:Nat)(m:Int)(h:m=n):decide ((l.length:Int)>m)=decide (l.length>n):=by grind
theorem u6(b:dP):iJ.run b=some (kA b):=by have hc:∀a m:Int,iK.run a m=some (me a m):=fun a m=>rfl;unfold iJ.run iJ.top kA u5;simp only[hc,bind_some,IK _ 300 300 rfl];grind
theorem u7(b:dP):cA.run b=some (kA b):=by
 obtain⟨n,hn⟩:∃n,fuel=n+6:=⟨2^64-6,rfl⟩
 unfold cA.run cA.top kA u5;rw[hn,Ap];unfold cA.j0;grind
theorem qd{b:dP}(h:kA b=0):(0<=b.1/\b.1<=1099511627776)/\(0<=b.2.1/\b.2.1<=4294967295)/\(0<=b.2.2.1/\b.2.2.1<=65535)/\(0<=b.2.2.2.2.1/\b.2.2.2.2.1<=1099511627776)/\(0<=b.2.2.2.2.2.1/\b.2.2.2.2.2.1<=255)/\b.2.2.2.2.2.2.1.length<=300:=by
 unfold kA at h;by_cases hk:u5 b=true
 ·simp_all[wC,u5]
 grind
abbrev bu:Type:=List Int×Int×Int×ff×Unit
abbrev dB:Type:=Int×Int×List fx×List bu×List (List Int)×Int×List dP×Unit
abbrev A0:bu:=(replicate 32 0,0,0,([0,0,0,0],[],()),())
abbrev Vr:dP:=(0,0,0,replicate 32 0,0,0,[],())
def dV(n:Int):Bool:=decide (0<=n)&&decide (n<=2)
theorem oe(n:Int):iU.run n=some (dV n):=by unfold iU.run iU.top dV;grind
theorem pB(n:Int):dG.run n=some (dV n):=by unfold dG.run dG.top;rw[qF];rfl
theorem kQ(n:Int):∃e,eM.run n=some e/\dR.run n=some e:=by refine⟨_,rfl,?_⟩;rfl
def lW(c:ff):Int:=if c.2.1.length>40 then 1 else if iS c=true then 0 else 12
def sI(a b:bu):Bool:=!(az (.arr 32 (.int .u8)) a.1 b.1&&b.2.1==a.2.1)
def K1(ch:Int)(a:bu):Bool:=dV a.2.1&&(lW a.2.2.2.1==0)&&(decide (a.2.2.1>=0)&&decide (a.2.2.1<78))&&(a.2.1==ch||decide (a.2.2.1<=8))
def ky(ch:Int):List bu->List bu->Bool
 |[],_=>true
 |a::R,P=>K1 ch a&&P.all (sI a)&&ky ch R (P++[a])
theorem JQ(x y:List Int):az (.arr 32 (.int .u8)) x y=az (.arr 32 (.int .u8)) y x:=by rw[Bool.eq_iff_iff,j8 _ _ _ rfl,j8 _ _ _ rfl];exact eq_comm
theorem M6(a b:bu):((!az (.arr 32 (.int .u8)) a.1 b.1)||(a.2.1 !=b.2.1))=sI a b:=by unfold sI;grind
theorem P8(a b:bu):(!(az (.arr 32 (.int .u8)) b.1 a.1&&(b.2.1==a.2.1)))=sI a b:=by unfold sI;rw[JQ]
theorem CU{α:Type}(Xt:Bool->List bu->Int->Int->dB->Option α)(K:Nat)(l:List bu)(hl:l.length<=1000)(x51:List bu)(x52 x53:Int)(c1:dB)(a:bu):∀(R P:List bu)(n:Nat)(x:Bool),R.length<n->l=P++R->
  cE.l1 K Xt n x x51 x52 x53 l (l.length:Int) (P.length:Int) c1 a=Xt (x&&R.all (sI a)) x51 x52 x53 c1
 |R,P,0,x,h,_=>by omega
 |[],P,n+1,x,h,hc=>by simp_all[cE.l1,cE.ly]
 |y::R,P,n+1,x,h,hc=>by
  have hlen:l.length=P.length+(R.length+1):=by rw[hc];simp
  simp only[cE.l1,cE.ly];have hg:l.getD P.length A0=y:=by rw[hc];exact dk _ _ _ _
  rw[if_pos (dT (by omega)),if_pos (by omega),ax (by omega),ae,hg,bS,ck,M6];have ih:=CU Xt K l hl x51 x52 x53 c1 a R (P++[y]) n (x&&sI a y) (by simpa using h) (by simp[hc]);rw[length_append]at ih;refine Eq.trans ih ?_;grind
theorem C4{α:Type}(Xt:Bool->Int->dB->Option α)(K:Nat)(c1:dB)(l:List bu)(hc1:c1.2.2.2.1=l)(hl:l.length<=1000)(a:bu)(i:Nat)(hi:i<=l.length):∀(m j n:Nat)(x:Bool),m<n->j+m=i->
  aj.l1 K Xt n x (i:Int) (j:Int) c1 a=Xt (x&&((l.drop j).take m).all (sI a)) (i:Int) c1
 |m,j,0,x,h,_=>by omega
 |0,j,n+1,x,h,hj=>by simp_all[aj.l1,aj.ly]
 |m+1,j,n+1,x,h,hj=>by
  simp only[aj.l1,aj.ly];have e1:decide (0<=(j:Int)/\(j:Int)<(c1.2.2.2.1.length:Int))=true:=by rw[decide_eq_true_eq,hc1];omega
  rw[if_pos (dT (by omega)),e1,Bool.true_or,Bool.true_or,cond_true,cond_true,ax (by omega),ae,hc1,ck,ck,P8];refine(C4 Xt K c1 l hc1 hl a i hi m (j+1) n _ (by omega) (by omega)).trans ?_;grind[List.drop_eq_getElem_cons]
theorem CV{α:Type}(Xt:Bool->dB->Option α)(K:Nat)(hK:1000<K)(c1:dB)(l:List bu)(hc1:c1.2.2.2.1=l)(hl:l.length<=1000)(hw:∀a∈l,fB a.2.2.2.1):∀(R P:List bu)(n:Nat)(x:Bool),R.length<n->l=P++R->
  cE.l0 K Xt n x l (l.length:Int) (P.length:Int) c1=Xt (x&&ky c1.1 R P) c1
 |R,P,0,x,h,_=>by omega
 |[],P,n+1,x,h,hc=>by simp_all[cE.l0,cE.aR,ky]
 |y::R,P,n+1,x,h,hc=>by
  have hlen:l.length=P.length+(R.length+1):=by rw[hc];simp
  simp only[cE.l0,cE.aR];have hg:l.getD P.length A0=y:=by rw[hc];exact dk _ _ _ _
  have hcut:aA l 0 (P.length:Int)=P:=by rw[hc];exact Av P (y::R)
  have hy:cY.run y.2.2.2.1=some (lW y.2.2.2.1):=kF _ (hw y (by rw[hc];simp));rw[if_pos (dT (by omega)),if_pos (by omega),ae,hg,oe,hy];have e1:(if(x==true)=true then some (dV y.2.1)else some false)=some (x&&dV y.2.1):=by cases x<;>rfl
  rw[e1,bind_some];simp only[ck,bS];have e2:(if((x&&(x&&dV y.2.1))==true)=true then some (lW y.2.2.2.1)else some 0)=some (if(x&&dV y.2.1)=true then lW y.2.2.2.1 else 0):=by cases x<;>cases dV y.2.1<;>rfl
  rw[e2,bind_some,hc1,if_pos (by omega),hcut];have hb:(x&&(x&&dV y.2.1)&&((if(x&&dV y.2.1)=true then lW y.2.2.2.1 else 0)==0)&&decide (y.2.2.1>=0)&&decide (y.2.2.1<78)&&(y.2.1==c1.1||decide (y.2.2.1<=8)))=(x&&K1 c1.1 y):=by grind[K1]
  rw[hb];refine(CU _ K P (by omega) l _ _ c1 y P [] K (x&&K1 c1.1 y) (by omega) rfl).trans ?_;unfold cE.j0;rw[ax (by omega)];have ih:=CV Xt K hK c1 l hc1 hl hw R (P++[y]) n (x&&K1 c1.1 y&&P.all (sI y)) (by simpa using h) (by simp[hc]);rw[length_append]at ih;refine Eq.trans ih ?_;grind[ky]
theorem C5{α:Type}(Xt:Bool->dB->Option α)(K:Nat)(hK:1000<K)(c1:dB)(l:List bu)(hc1:c1.2.2.2.1=l)(hl:l.length<=1000)(hw:∀a∈l,fB a.2.2.2.1):∀(R P:List bu)(n:Nat)(x:Bool),R.length<n->l=P++R->
  aj.l0 K Xt n x (P.length:Int) c1=Xt (x&&ky c1.1 R P) c1
 |R,P,0,x,h,_=>by omega
 |[],P,n+1,x,h,hc=>by simp_all[aj.l0,aj.aR,ky]
 |y::R,P,n+1,x,h,hc=>by
  have hlen:l.length=P.length+(R.length+1):=by rw[hc];simp
  simp only[aj.l0,aj.aR];rw[hc1,show decide ((P.length:Int)<(l.length:Int))=true by rw[decide_eq_true_eq];omega,ck,Bool.and_true];cases x with
  |false=>rw[if_neg (by decide)];rfl
  |true=>
   have hg:l.getD P.length A0=y:=by rw[hc];exact dk _ _ _ _
   have hy:aS.run y.2.2.2.1=some (lW y.2.2.2.1):=by have h1:=kF _ (hw y (by rw[hc];simp));rw[vf _ (hw y (by rw[hc];simp)),h1];rfl
   rw[if_pos rfl,if_pos (by omega),ae,hg,pB,bind_some,hy,qF];simp only[ck,bS];have e1:(if(dV y.2.1==true)=true then some (lW y.2.2.2.1)else some 0)=some (if dV y.2.1=true then lW y.2.2.2.1 else 0):=by cases dV y.2.1<;>rfl
   rw[e1,bind_some];have e2:(if((dV y.2.1&&((if dV y.2.1=true then lW y.2.2.2.1 else 0)==0))==true)=true then some (decide (0<=y.2.2.1)&&decide (y.2.2.1<=77))else some false)=some ((dV y.2.1&&(lW y.2.2.2.1==0))&&(decide (0<=y.2.2.1)&&decide (y.2.2.1<=77))):=by grind
   rw[e2,bind_some];have hb:((dV y.2.1&&((if dV y.2.1=true then lW y.2.2.2.1 else 0)==0)&&((dV y.2.1&&(lW y.2.2.2.1==0))&&(decide (0<=y.2.2.1)&&decide (y.2.2.1<=77))))&&(y.2.1==c1.1||decide (y.2.2.1<=8)))=K1 c1.1 y:=by unfold K1;grind
   rw[hb];have hf:=C4 (fun x3 x4 c1=>aj.j0 (aj.l0 K Xt n) x3 x4 c1) K c1 l hc1 hl y P.length (by omega) P.length 0 K (K1 c1.1 y) (by omega) (by omega);rw[show(((0:Nat)):Int)=0 from rfl,drop_zero,show l.take P.length=P by rw[hc];simp]at hf;refine hf.trans ?_;unfold aj.j0;rw[ax (by omega)];have ih:=C5 Xt K hK c1 l hc1 hl hw R (P++[y]) n (K1 c1.1 y&&P.all (sI y)) (by simpa using h) (by simp[hc]);rw[length_append]at ih;refine Eq.trans ih ?_;simp only[ky,Bool.true_and]
def TQ(ch:Int)(e:List Int)(i:Int)(b:dP):Bool:=(kA b==0)&&(b.2.2.2.2.1==i)&&(b.2.2.1==ch)&&az (.arr 32 (.int .u8)) b.2.2.2.1 e
def lF(ch:Int)(e:List Int):List dP->Nat->Bool
 |[],_=>true
 |b::R,i=>TQ ch e (i:Int) b&&lF ch e R (i+1)
theorem FX{α:Type}(Xt:Bool->Option α)(K:Nat)(c1:dB)(e:List Int)(he:eM.run c1.1=some e)(l:List dP)(hl:l.length<=1000):∀(R P:List dP)(n:Nat)(x:Bool),R.length<n->l=P++R->
  cE.l2 K Xt n x l (l.length:Int) (P.length:Int) c1=Xt (x&&lF c1.1 e R P.length)
 |R,P,0,x,h,_=>by omega
 |[],P,n+1,x,h,hc=>by simp_all[cE.l2,cE.vw,lF]
 |y::R,P,n+1,x,h,hc=>by
  have hlen:l.length=P.length+(R.length+1):=by rw[hc];simp
  simp only[cE.l2,cE.vw];have hg:l.getD P.length Vr=y:=by rw[hc];exact dk _ _ _ _
  rw[if_pos (dT (by omega)),if_pos (by omega),ae,hg,u6,he,ax (by omega)];have ih:=fun x=>FX Xt K c1 e he l hl R (P++[y]) n x (by simpa using h) (by simp[hc]);simp only[length_append,List.length_singleton]at ih;simp only[ck];cases x with
  |false=>rw[if_neg (by decide),bind_some];simp only[Bool.false_and,show(false==true)=false from rfl,false_eq_true,if_false,bind_some];refine(ih false).trans ?_;rfl
  |true=>
   rw[if_pos (by decide),bind_some];simp only[Bool.true_and,lF,TQ];cases hq:((kA y==0)&&(y.2.2.2.2.1==(P.length:Int))&&(y.2.2.1==c1.1))with
   |false=>simp only[show(false==true)=false from rfl,false_eq_true,if_false,bind_some,Bool.false_and];refine(ih false).trans ?_;rfl
   |true=>simp only[BEq.rfl,if_true,bind_some,Bool.true_and];refine(ih _).trans ?_;rfl
theorem Ge{α:Type}(Xt:Bool->Option α)(K:Nat)(c1:dB)(e:List Int)(he:dR.run c1.1=some e)(l:List dP)(hc1:c1.2.2.2.2.2.2.1=l)(hl:l.length<=1000):∀(R P:List dP)(n:Nat)(x:Bool),R.length<n->l=P++R->
  aj.l2 K Xt n x (P.length:Int) c1=Xt (x&&lF c1.1 e R P.length)
 |R,P,0,x,h,_=>by omega
 |[],P,n+1,x,h,hc=>by simp_all[aj.l2,aj.vw,lF]
 |y::R,P,n+1,x,h,hc=>by
  have hlen:l.length=P.length+(R.length+1):=by rw[hc];simp
  simp only[aj.l2,aj.vw];rw[hc1,show decide ((P.length:Int)<(l.length:Int))=true by rw[decide_eq_true_eq];omega,ck,Bool.and_true];cases x with
  |false=>rw[if_neg (by decide)];rfl
  |true=>
   have hg:l.getD P.length Vr=y:=by rw[hc];exact dk _ _ _ _
   rw[if_pos rfl,if_pos (by omega),ae,hg,u7,he,bind_some,ax (by omega)];have ih:=fun x=>Ge Xt K c1 e he l hc1 hl R (P++[y]) n x (by simpa using h) (by simp[hc]);simp only[length_append,List.length_singleton]at ih;simp only[ck,lF,TQ,Bool.true_and];cases hq:((kA y==0)&&(y.2.2.2.2.1==(P.length:Int))&&(y.2.2.1==c1.1))with
   |false=>simp only[show(false==true)=false from rfl,false_eq_true,if_false,bind_some,Bool.false_and];refine(ih false).trans ?_;rfl
   |true=>simp only[BEq.rfl,if_true,bind_some,Bool.true_and];refine(ih _).trans ?_;rfl
structure Ae(p:dB):Prop where
 ch:dV p.1=true
 now:1<=p.2.1/\p.2.1<=1099511627776
 sets:1<=p.2.2.1.length/\p.2.2.1.length<=8/\∀s∈p.2.2.1,s.2.1.length<=19
 al:p.2.2.2.1.length<=4
 aa:∀a∈p.2.2.2.1,a.2.2.2.1.2.1.length<=40/\0<=a.2.2.1/\a.2.2.1<78
 nx:p.2.2.2.2.2.1=(p.2.2.2.2.2.2.1.length:Int)
 sl:p.2.2.2.2.2.2.1.length<=256
 sb:∀b∈p.2.2.2.2.2.2.1,b.2.2.2.2.2.2.1.length<=300
theorem FN{ch:Int}:∀{l P:List bu},ky ch l P=true->∀a∈l,a.2.2.2.1.2.1.length<=40/\0<=a.2.2.1/\a.2.2.1<78
 |[],_,_,a,ha=>by cases ha
 |b::R,P,h,a,ha=>by
  simp only[ky,K1,and_eq_true,decide_eq_true_eq,beq_iff_eq]at h;rcases List.mem_cons.1 ha with rfl|ha
  ·grind[lW]
  ·exact FN h.2 a ha
theorem HD{ch:Int}{e:List Int}:∀{l:List dP}{i:Nat},lF ch e l i=true->∀b∈l,b.2.2.2.2.2.2.1.length<=300
 |[],_,_,a,ha=>by cases ha
 |b::R,i,h,a,ha=>by
  simp only[lF,TQ,and_eq_true,beq_iff_eq]at h;rcases List.mem_cons.1 ha with rfl|ha
  ·simp_all[qd]
  ·exact HD h.2 a ha
structure vQ(p:dB):Prop where
 ch:dV p.1=true
 nw:1<=p.2.1/\p.2.1<=1099511627776
 st:cc.run p.2.2.1=some 0
 al:p.2.2.2.1.length<=4
 nx:p.2.2.2.2.2.1=p.2.2.2.2.2.2.1.length
 sl:p.2.2.2.2.2.2.1.length<=256
 aa:ky p.1 p.2.2.2.1 []=true
 sn:∀m,eM.run p.1=some m->lF p.1 m p.2.2.2.2.2.2.1 0=true
theorem Hk(p:dB)(hn:-9223372036854775808<=p.2.1/\p.2.1<=9223372036854775807)(hw:∀a∈p.2.2.2.1,fB a.2.2.2.1):∃e:Int,cE.run p=some e/\aj.run p=some e/\(e=0↔vQ p):=by
 obtain⟨e,s1,s2,s3⟩:=qC p.2.2.1;obtain⟨m,m1,m2⟩:=kQ p.1;unfold cE.run cE.top aj.run aj.top;rw[oe,pB,bind_some,bind_some,s1,s2,qF];simp only[ck];have hnow:(decide (0<=IntKind.i64.wrap (p.2.1-1))&&decide (IntKind.i64.wrap (p.2.1-1)<=1099511627775))=(decide (p.2.1>=1)&&decide (p.2.1<=1099511627776)):=by
  by_cases hmin:p.2.1=-9223372036854775808
  ·rw[hmin];rfl
  ·rw[wrap_i64 (by omega) (by omega),Bool.eq_iff_iff];grind
 rw[hnow];have e1:(if(dV p.1==true)=true then some (decide (p.2.1>=1)&&decide (p.2.1<=1099511627776))else some false)=some (dV p.1&&(decide (p.2.1>=1)&&decide (p.2.1<=1099511627776))):=by cases dV p.1<;>rfl
 rw[e1,bind_some];have e2:∀b:Bool,(if(b==true)=true then some e else some 0)=some (if b=true then e else 0):=fun b=>by cases b<;>rfl
 rw[e2,e2,bind_some,bind_some];have hs:(p.2.2.2.2.2.1==(p.2.2.2.2.2.2.1.length:Int))=((p.2.2.2.2.2.2.1.length:Int)==p.2.2.2.2.2.1):=by rw[Bool.eq_iff_iff,beq_iff_eq,beq_iff_eq];exact eq_comm
 have ha:(dV p.1&&(dV p.1&&(decide (p.2.1>=1)&&decide (p.2.1<=1099511627776))))=(dV p.1&&decide (p.2.1>=1)&&decide (p.2.1<=1099511627776)):=by cases dV p.1<;>simp
 rw[ha,hs];generalize lC:(dV p.1&&decide (p.2.1>=1)&&decide (p.2.1<=1099511627776)&&((if(dV p.1&&decide (p.2.1>=1)&&decide (p.2.1<=1099511627776))=true then e else 0)==0)&&decide ((p.2.2.2.1.length:Int)<=4)&&((p.2.2.2.2.2.2.1.length:Int)==p.2.2.2.2.2.1)&&decide (p.2.2.2.2.2.1<=256))=ok;cases ok with
 |false=>
  refine⟨12,rfl,?_,(fun h=>by cases h),fun h=>?_⟩;rotate_left
  ·have hz:e=0:=by
    have:=h.st;rw[s1]at this;exact Option.some.inj this
   obtain⟨q1,q2⟩:=h.nw;have q4:=h.al;have q6:=h.sl;rw[h.ch,decide_eq_true q1,decide_eq_true q2,hz,h.nx,beq_self_eq_true,decide_eq_true (show((p.2.2.2.1.length:Int)<=4) by omega),decide_eq_true (show((p.2.2.2.2.2.2.1.length:Int)<=256) by omega)]at lC;exact absurd lC (by decide)
  obtain⟨k,hk⟩:∃k,fuel=k+1:=⟨fuel-1,by rw[ai]⟩
  rw[hk];simp only[aj.l0,aj.aR,ck,Bool.false_and,false_eq_true,if_false,aj.j1,aj.l2,aj.vw,aj.j2,Bool.not_false,if_true]
 |true=>
  simp only[and_eq_true,decide_eq_true_eq,beq_iff_eq]at lC;obtain⟨⟨⟨⟨⟨⟨g1,g2⟩,g3⟩,g4⟩,h4⟩,h5⟩,h6⟩:=lC;rw[g1,if_pos ⟨⟨rfl,g2⟩,g3⟩]at g4;obtain⟨t1,t2,t3⟩:=s3 g4;have l1:p.2.2.2.1.length<=1000:=by omega
  have l2:p.2.2.2.2.2.2.1.length<=1000:=by omega
  rw[if_neg (by decide)];have c1:=CV (fun x3 c1=>cE.j1 fuel (fun x2=>some x2) x3 c1) fuel (by rw[ai];omega) p _ rfl l1 hw p.2.2.2.1 [] fuel true (by rw[ai];omega) rfl;have c2:=C5 (fun x3 c1=>aj.j1 fuel (fun x2=>some x2) x3 c1) fuel (by rw[ai];omega) p _ rfl l1 hw p.2.2.2.1 [] fuel true (by rw[ai];omega) rfl;rw[show((([]:List bu).length:Nat):Int)=0 from rfl]at c1 c2;rw[c1,c2];unfold cE.j1 aj.j1;have c3:=fun x=>FX (fun x3=>cE.j2 (fun x2=>some x2) x3) fuel p m m1 p.2.2.2.2.2.2.1 l2 p.2.2.2.2.2.2.1 [] fuel x (by rw[ai];omega) rfl;have c4:=fun x=>Ge (fun x3=>aj.j2 (fun x2=>some x2) x3) fuel p m m2 p.2.2.2.2.2.2.1 rfl l2 p.2.2.2.2.2.2.1 [] fuel x (by rw[ai];omega) rfl;rw[show((([]:List dP).length:Nat):Int)=0 from rfl]at c3 c4;rw[c3,c4];unfold cE.j2 aj.j2;have hz:e=0:=g4;have hf:((true&&ky p.1 p.2.2.2.1 [])&&lF p.1 m p.2.2.2.2.2.2.1 ([]:List dP).length)=true↔vQ p:=by rw[Bool.true_and,and_eq_true];exact⟨fun h=>⟨g1,⟨g2,g3⟩,hz▸s1,by omega,h5.symm,by omega,h.1,fun n hn=>by rw[m1]at hn;cases hn;exact h.2⟩,fun h=>⟨h.aa,h.sn m m1⟩⟩
  generalize ((true&&ky p.1 p.2.2.2.1 [])&&lF p.1 m p.2.2.2.2.2.2.1 ([]:List dP).length)=b at hf;cases b with
  |false=>exact⟨_,rfl,rfl,(fun h=>by cases h),fun h=>by have:=hf.2 h;cases this⟩
  |true=>exact⟨_,rfl,rfl,fun _=>hf.1 rfl,fun _=>rfl⟩
theorem J6{p:dB}(h:vQ p):Ae p:=by obtain⟨e,s1,s2,s3⟩:=qC p.2.2.1;obtain⟨m,m1,m2⟩:=kQ p.1;exact⟨h.ch,h.nw,s3 (Option.some.inj (s1.symm.trans h.st)),h.al,FN h.aa,h.nx,h.sl,HD (h.sn m m1)⟩
end Go.Bx
