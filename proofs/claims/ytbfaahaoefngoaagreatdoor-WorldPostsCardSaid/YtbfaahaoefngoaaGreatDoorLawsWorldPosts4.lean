/- Laws about functions of plain data, in plain Lean. -/
import Derived.Test.YtbfaahaoefngoaaGreatDoorLawsWorldPosts1
import Derived.Test.YtbfaahaoefngoaaGreatDoorLawsWorldPosts3
import Derived.Test.YtbfaahaoefngoaaGreatDoorFnWorldPosts0
import Derived.Test.YtbfaahaoefngoaaGreatDoorLawsWorldPosts0
import Derived.Test.YtbfaahaoefngoaaGreatDoorLawsWorldPosts2
import Derived.Test.YtbfaahaoefngoaaGreatDoorFnWorldPosts1
open Bool (false_eq_true)
open Int (emod_emod emod_lt_of_pos mul_emod mul_one sub_emod)
open List (mem_cons not_mem_nil replicate)
open Nat (gcd)
open Option (bind_some)
set_option maxRecDepth 100000
set_option linter.unusedVariables false
set_option linter.unusedSimpArgs false
namespace Go.Bx
open Go
theorem sG(l:List Int)(a b:Nat):aA l (a:Int) (b:Int)=(l.drop a).take (b-a):=by simp[aA]
theorem F1(l:List Int)(a:Nat):aA l (a:Int) (l.length:Int)=l.drop a:=by rw[sG,List.take_of_length_le (by simp)]
theorem qi{l:List Int}(h:gy l)(n:Nat):gy (l.drop n):=fun b hb=>h b (List.mem_of_mem_drop hb)
theorem pe{l:List Int}(h:gy l)(n:Nat):gy (l.take n):=fun b hb=>h b (List.mem_of_mem_take hb)
theorem mT{l:List Int}(h:gy l)(n:Nat):0<=l.getD n 0/\l.getD n 0<256:=by
 by_cases hn:n<l.length
 ·rw[getD_eq hn];exact h _ (List.getElem_mem _)
 grind
theorem bW{l:List Int}(h:gy l)(n:Nat):IntKind.i64.wrap (l.getD n 0)=l.getD n 0:=by have:=mT h n;grind[wrap_i64]
theorem Jv{l:List Int}{n:Nat}(h:n+1<l.length)(hb:gy l):jP .i64 (fD .i64 (IntKind.i64.wrap (l.getD n 0)) 8) (IntKind.i64.wrap (l.getD (n+1) 0))=jC ((l.drop n).take 2):=by
 have e:(l.drop n).take 2=[l.getD n 0,l.getD (n+1) 0]:=by grind[List.drop_eq_getElem_cons]
 rw[e,bW hb (n+1),OT _ _ (mT hb (n+1))];simp_all[jC,L3]
theorem qI(l:List Int)(h:l.length=32):gO.run l=some l:=by unfold gO.run gO.top;grind[EG,o8]
abbrev ij:jH:=(0,[0,0,0,0],[0,0,0,0],replicate 32 0,0,replicate 32 0,0,0,[],[],0,[],())
def Fh(kd:Int)(s:List Int):jH:=(kd,wid (s.take 32),wid ((s.drop 100).take 32),(s.drop 32).take 32,jC ((s.drop 64).take 2),(s.drop 66).take 32,jC ((s.drop 98).take 2),0,[],s.drop 132,0,[],())
def tA(w:List Int):Nat->Nat
 |0=>0
 |j+1=>if w.getD j 0=0 then tA w j else j+1
theorem HL(w:List Int):∀j,tA w j<=j
 |0=>Nat.le_refl _
 |j+1=>by unfold tA;have:=HL w j;split<;>omega
def O3(kd:Int)(s:List Int):jH:=(kd,[0,0,0,0],[0,0,0,0],s.take 32,jC ((s.drop 32).take 2),replicate 32 0,0,s.getD 34 0,(s.drop 35).take (tA (s.drop 35) 32),[],0,[],())
def pM:Nat->List Int->List (List Int)
 |0,_=>[]
 |m+1,l=>Au (replicate 20 0) 0 20 l::pM m (l.drop 20)
theorem vu:∀(m:Nat)(l:List Int),(pM m l).length=m
 |0,_=>rfl
 |m+1,l=>by simp[pM,vu m]
def PK(kd:Int)(s:List Int):jH:=(kd,[0,0,0,0],[0,0,0,0],replicate 32 0,0,replicate 32 0,0,0,[],[],jC (s.take 4),pM (s.getD 4 0).toNat (s.drop 5),())
theorem Ul(u:Bool×Unit)(s:List Int)(hb:gy s)(hl:s.length<=140737488351232):gM.run u s=some (if s.length<132 then(ij,4,())else(Fh 0 s,0,())):=by
 unfold gM.run gM.top;by_cases h:s.length<132
 ·grind
 ·have c1:aA s 0 32=s.take 32:=sG s 0 32;have c2:aA s 32 64=(s.drop 32).take 32:=sG s 32 64;have c3:aA s 66 98=(s.drop 66).take 32:=sG s 66 98;have c4:aA s 100 132=(s.drop 100).take 32:=sG s 100 132;have c5:aA s 132 (s.length:Int)=s.drop 132:=F1 s 132;have l1:(s.take 32).length=32:=by simp;omega
  have l2:((s.drop 32).take 32).length=32:=by simp;omega
  have l3:((s.drop 66).take 32).length=32:=by simp;omega
  have l4:((s.drop 100).take 32).length=32:=by simp;omega
  have t1:=Jv (n:=64) (l:=s) (by omega) hb;have t2:=Jv (n:=98) (l:=s) (by omega) hb;rw[if_neg (dF (by omega)),if_neg h,if_pos (by omega),c1,qI _ l1,bind_some,(qm _ l1 (pe hb 32)).1,bind_some,if_pos (by omega),c2,qI _ l2,bind_some,
   if_pos (by omega),if_pos (by omega),if_pos (by omega),c3,qI _ l3,bind_some,if_pos (by omega),if_pos (by omega),if_pos (by omega),c4,qI _ l4,bind_some,(qm _ l4 (pe (qi hb 100) 32)).1,bind_some,
   if_pos (by omega),c5,if_pos (zQ (show(0+(s.drop 132).length)*1<=_ by simp;omega) (show 0+(s.drop 132).length<=_ by simp;omega)),t1,t2]
  simp only[Fh]
theorem Ej{α:Type}(Xt:List Int->Int->Int->List Int->List Int->List Int->Int->List Int->Int->Int->List Int->Int->Option α)(K:Nat)(s:List Int)(hs:s.length=67)(hb:gy s)(a0:Int)(a1 a2 a3:List Int)(a4:Int)(a5:List Int)(a6 a7:Int)(a8:List Int)(a10:Int):∀(j n:Nat),j<n->j<=32->
  eR.l0 K Xt n s (35+(j:Int)) a0 a1 a2 a3 a4 a5 a6 a7 a8 a10=Xt s (35+(tA (s.drop 35) j:Int)) a0 a1 a2 a3 a4 a5 a6 a7 a8 a10
 |j,0,h,_=>by omega
 |0,n+1,h,_=>by
  simp only[eR.l0,eR.aR];rw[show(35:Int)+((0:Nat):Int)=35 from rfl,show IntKind.i64.wrap (35-1)=34 from rfl];have e1:decide (0<=(34:Int)/\(34:Int)<(s.length:Int))=true:=by rw[decide_eq_true_eq];omega
  rw[e1,Bool.true_or,cond_true,show decide ((35:Int)>35)=false from rfl,cond_false,if_neg (by decide)];rfl
 |j+1,n+1,h,hj=>by
  simp only[eR.l0,eR.aR];have e0:IntKind.i64.wrap (35+((j+1:Nat):Int)-1)=35+(j:Int):=by rw[wrap_i64 (by omega) (by omega)];omega
  have e1:decide (0<=35+(j:Int)/\35+(j:Int)<(s.length:Int))=true:=by rw[decide_eq_true_eq];omega
  have e2:decide (35+((j+1:Nat):Int)>35)=true:=by rw[decide_eq_true_eq];omega
  have e3:(35+(j:Int)).toNat=35+j:=by omega
  have e4:s.getD (35+j) 0=(s.drop 35).getD j 0:=by simp[List.getD,List.getElem?_drop]
  rw[e0,e1,Bool.true_or,cond_true,e2,cond_true,e3,e4];unfold tA;by_cases hz:(s.drop 35).getD j 0=0
  ·rw[if_pos (by simpa using hz),if_pos hz];exact Ej Xt K s hs hb a0 a1 a2 a3 a4 a5 a6 a7 a8 a10 j n (by omega) (by omega)
  grind
theorem Uk(u:Unit)(s:List Int)(hb:gy s):eR.run u s=some (if s.length<67 then(ij,4,())else if s.length>67 then(ij,3,())else(O3 0 s,0,())):=by
 unfold eR.run eR.top;by_cases h:s.length<67
 ·grind
 ·rw[if_neg (dF (by omega)),if_neg h];by_cases h2:s.length>67
  ·grind
  ·have hs:s.length=67:=by omega
   rw[if_neg (dF (by omega)),if_neg h2];refine(Ej _ fuel s hs hb 0 [0,0,0,0] [0,0,0,0] (replicate 32 0) 0 (replicate 32 0) 0 0 [] 0 32 fuel (by rw[ai];omega) (by omega)).trans ?_;unfold eR.j0;have ht:=HL (s.drop 35) 32;have c1:aA s 0 32=s.take 32:=sG s 0 32;have c2:aA s 35 (35+(tA (s.drop 35) 32:Int))=(s.drop 35).take (tA (s.drop 35) 32):=by have:=sG s 35 (35+tA (s.drop 35) 32);grind
   have l1:(s.take 32).length=32:=by simp;omega
   have t1:=Jv (n:=32) (l:=s) (by omega) hb;rw[if_pos (by omega),c1,qI _ l1,bind_some,if_pos (by omega),if_pos (by omega),if_pos (by omega),if_pos (by omega),c2,t1,bW hb 34];rfl
theorem Dh{α:Type}(Xt:Int->List Int->List Int->List Int->Int->List Int->Int->Int->List Int->Int->Int->List Int->List Int->List Int->Int->List Int->Int->Int->List Int->Int->List (List Int)->Option α)(K:Nat)(s:List Int)(N:Nat)(hN:N<=255)(hs:s.length=5+20*N)
  (a0:Int) (a1 a2 a3:List Int) (a4:Int) (a5:List Int) (a6 a7:Int) (a8:List Int) (a10:Int) (b0:Int) (b1 b2 b3:List Int) (b4:Int) (b5:List Int) (b6 b7:Int) (b8:List Int) (b10:Int):∀(m i n:Nat)(c:List (List Int)),m<n->i+m=N->c.length=i->
  eS.l0 K Xt n s (N:Int) (i:Int) a0 a1 a2 a3 a4 a5 a6 a7 a8 a10 b0 b1 b2 b3 b4 b5 b6 b7 b8 b10 c=Xt a0 a1 a2 a3 a4 a5 a6 a7 a8 a10 b0 b1 b2 b3 b4 b5 b6 b7 b8 b10 (c++pM m (s.drop (5+20*i)))
 |m,i,0,c,h,_,_=>by omega
 |0,i,n+1,c,h,hi,hc=>by simp_all[eS.l0,eS.aR,pM]
 |m+1,i,n+1,c,h,hi,hc=>by
  simp only[eS.l0,eS.aR];have e1:IntKind.i64.wrap (5+IntKind.i64.wrap (20*(i:Int)))=((5+20*i:Nat):Int):=by grind[wrap_i64]
  rw[if_pos (dT (by omega)),e1,if_pos (by omega),if_pos (aK (by omega) (by omega)),ax (by omega),F1];refine(Dh Xt K s N hN hs a0 a1 a2 a3 a4 a5 a6 a7 a8 a10 b0 b1 b2 b3 b4 b5 b6 b7 b8 b10 m (i+1) n _ (by omega) (by omega) (by simp;omega)).trans ?_;grind[pM,List.drop_drop]
theorem Br(k:Nat){a c:Int}(ha:0<=a)(hc:0<=c/\c<2^k)(hk:k<=62)(h:a*2^k+c<9223372036854775808):jP .i64 (a*2^k) c=a*2^k+c:=by
 obtain⟨A,rfl⟩:=Int.eq_ofNat_of_zero_le ha;obtain⟨X,rfl⟩:=Int.eq_ofNat_of_zero_le hc.1;have e:(A:Int)*2^k=((2^k*A:Nat):Int):=by push_cast;rw[Int.mul_comm]
 have hX:X<2^k:=by grind
 rw[e]at h⊢;unfold jP;have h1:(BitVec.ofInt IntKind.i64.bits ((2^k*A:Nat):Int)).toNat=2^k*A:=by rw[BitVec.toNat_ofInt,show(2^IntKind.i64.bits:Nat)=18446744073709551616 from rfl];omega
 have h2:(BitVec.ofInt IntKind.i64.bits ((X:Nat):Int)).toNat=X:=by rw[BitVec.toNat_ofInt,show(2^IntKind.i64.bits:Nat)=18446744073709551616 from rfl];omega
 grind[Nat.two_pow_add_eq_or_of_lt,wrap_i64]
theorem yd(k:Nat){b:Int}(hb:0<=b/\b<256)(hk:k<=48):fD .i64 b (k:Int)=b*2^k:=by unfold fD;rw[show min ((k:Nat):Int).toNat IntKind.i64.bits=k by simp[IntKind.bits];omega];have h1:(2:Nat)^k<=2^48:=Nat.pow_le_pow_right (by omega) hk;obtain⟨B,rfl⟩:=Int.eq_ofNat_of_zero_le hb.1;have h2:B*2^k<=256*2^48:=Nat.mul_le_mul (by omega) h1;grind[wrap_i64]
theorem Qe{l:List Int}(h:4<=l.length)(hb:gy l):jP .i64 (jP .i64 (jP .i64 (fD .i64 (IntKind.i64.wrap (l.getD 0 0)) 24) (fD .i64 (IntKind.i64.wrap (l.getD 1 0)) 16)) (fD .i64 (IntKind.i64.wrap (l.getD 2 0)) 8)) (IntKind.i64.wrap (l.getD 3 0))=jC (l.take 4):=by
 have e:l.take 4=[l.getD 0 0,l.getD 1 0,l.getD 2 0,l.getD 3 0]:=by obtain⟨a,t,rfl,h1⟩:=Rk.bn (n:=l.length-1) (l:=l) (by omega);obtain⟨b,t2,rfl,h2⟩:=Rk.bn (n:=t.length-1) (l:=t) (by simp at h;omega);obtain⟨c,t3,rfl,h3⟩:=Rk.bn (n:=t2.length-1) (l:=t2) (by simp at h;omega);obtain⟨d,t4,rfl,h4⟩:=Rk.bn (n:=t3.length-1) (l:=t3) (by simp at h;omega);rfl
 have h0:=mT hb 0;have h1:=mT hb 1;have h2:=mT hb 2;have h3:=mT hb 3;rw[e,bW hb 0,bW hb 1,bW hb 2,bW hb 3];generalize l.getD 0 0=b0 at*;generalize l.getD 1 0=b1 at*;generalize l.getD 2 0=b2 at*;generalize l.getD 3 0=b3 at*;have s0:=yd 24 h0 (by omega);have s1:=yd 16 h1 (by omega);have s2:=yd 8 h2 (by omega);rw[show((24:Nat):Int)=24 from rfl,show(2:Int)^24=16777216 from rfl]at s0;rw[show((16:Nat):Int)=16 from rfl,show(2:Int)^16=65536 from rfl]at s1;rw[show((8:Nat):Int)=8 from rfl,show(2:Int)^8=256 from rfl]at s2;rw[s0,s1,s2];have o1:=Br 24 (a:=b0) (c:=b1*65536) (by omega) ⟨by omega,by rw[show(2:Int)^24=16777216 from rfl];omega⟩ (by omega) (by rw[show(2:Int)^24=16777216 from rfl];omega);rw[show(2:Int)^24=16777216 from rfl]at o1;have o2:=Br 16 (a:=b0*256+b1) (c:=b2*256) (by omega) ⟨by omega,by rw[show(2:Int)^16=65536 from rfl];omega⟩ (by omega) (by rw[show(2:Int)^16=65536 from rfl];omega);rw[show(2:Int)^16=65536 from rfl]at o2;have o3:=Br 8 (a:=(b0*256+b1)*256+b2) (c:=b3) (by omega) ⟨by omega,by rw[show(2:Int)^8=256 from rfl];omega⟩ (by omega) (by rw[show(2:Int)^8=256 from rfl];omega);grind[wrap_i64,jC,L3]
theorem Uj(u:Unit)(s:List Int)(hb:gy s):eS.run u s=some (if s.length<5\/s.length<5+20*(s.getD 4 0).toNat then(ij,4,())else if s.length>5+20*(s.getD 4 0).toNat then(ij,3,())else(PK 0 s,0,())):=by
 unfold eS.run eS.top;have h4:=mT hb 4;obtain⟨N,hN⟩:=Int.eq_ofNat_of_zero_le h4.1;have e0:IntKind.i64.wrap (5+IntKind.i64.wrap (20*IntKind.i64.wrap (s.getD 4 0)))=((5+20*N:Nat):Int):=by grind[wrap_i64]
 have eN:(s.getD 4 0).toNat=N:=by rw[hN];rfl
 rw[e0,eN];by_cases h5:s.length<5
 ·grind
 ·rw[show decide ((s.length:Int)<5)=false by rw[decide_eq_false_iff_not];omega];rw[show decide (0<=(4:Int)/\(4:Int)<(s.length:Int))=true by rw[decide_eq_true_eq];omega];simp only[Bool.true_or,cond_true,cond_false];by_cases h6:s.length<5+20*N
  ·grind
  ·rw[if_neg (dF (by omega)),if_neg (show¬(s.length<5\/s.length<5+20*N) by omega),if_pos (by omega),if_pos (by omega),if_pos (by omega),if_pos (by omega),if_pos (by omega)];by_cases h7:s.length>5+20*N
   ·grind
   ·rw[if_neg (dF (by omega)),if_neg h7,Qe (by omega) hb,bW hb 4,hN];refine(Dh _ fuel s N (by omega) (by omega) _ _ _ _ _ _ _ _ _ _ _ _ _ _ _ _ _ _ _ _ N 0 fuel [] (by rw[ai];omega) (by omega) rfl).trans ?_;grind[eS.j0,PK]
def AK(x:jH):Option (jH×Int×Unit):=(ak.run x).bind fun e=>some (if e=0 then(x,0,())else(ij,3,()))
theorem ID(a0:Int)(a1 a2 a3:List Int)(a4:Int)(a5:List Int)(a6 a7:Int)(a8:List Int)(a10:Int)(b0:Int)(b1 b2 b3:List Int)(b4:Int)(b5:List Int)(b6 b7:Int)(b8 b9:List Int)(b10:Int)(c:List (List Int)):
  aW.j1 (fun x3 c2=>some (c2,x3,())) a0 a1 a2 a3 a4 a5 a6 a7 a8 a10 b0 b1 b2 b3 b4 b5 b6 b7 b8 b9 b10 c=AK (b0,b1,b2,b3,b4,b5,b6,b7,b8,b9,b10,c,()):=by
 unfold aW.j1 AK;congr 1;funext e;by_cases h:e=0
 ·rw[if_neg (by simpa using h),if_pos h]
 ·rw[if_pos (by simpa using h),if_neg h]
def RO(kd:Int)(s:List Int):Option (jH×Int×Unit):=
 if kd=1\/kd=3 then(if s.length<132 then some (ij,4,())else AK (Fh kd s))
 else if kd=2 then(if s.length<67 then some (ij,4,())else if s.length>67 then some (ij,3,())else AK (O3 kd s))
 else if kd=4 then(if s.length<5\/s.length<5+20*(s.getD 4 0).toNat then some (ij,4,())else if s.length>5+20*(s.getD 4 0).toNat then some (ij,3,())else AK (PK kd s))
 else some (ij,2,())
theorem DG{α:Type}(Xt:List Int->List Int->Int->List Int->List Int->List Int->Int->List Int->Int->Int->List Int->Int->Int->List Int->List Int->List Int->Int->List Int->Int->Int->List Int->Int->Option α)(K:Nat)(s w:List Int)(hw:w.length<=32)(a0:Int)(a1 a2 a3:List Int)(a4:Int)(a5:List Int)(a6 a7:Int)(a8:List Int)(a10:Int)(b0:Int)(b1 b2 b3:List Int)(b4:Int)(b5:List Int)(b6 b7:Int)(b8:List Int)(b10:Int):∀(j n:Nat),j<n->j<=w.length->
  aW.l0 K Xt n s (w.take j) a0 a1 a2 a3 a4 a5 a6 a7 a8 a10 b0 b1 b2 b3 b4 b5 b6 b7 b8 b10=Xt s (w.take (tA w j)) a0 a1 a2 a3 a4 a5 a6 a7 a8 a10 b0 b1 b2 b3 b4 b5 b6 b7 b8 b10
 |j,0,h,_=>by omega
 |0,n+1,h,_=>by rfl
 |j+1,n+1,h,hj=>by
  simp only[aW.l0,aW.aR];have hlen:(w.take (j+1)).length=j+1:=by simp;omega
  have e0:IntKind.i64.wrap (((w.take (j+1)).length:Int)-1)=(j:Int):=by rw[hlen,wrap_i64 (by omega) (by omega)];omega
  have e1:decide (0<=(j:Int)/\(j:Int)<((w.take (j+1)).length:Int))=true:=by rw[decide_eq_true_eq];omega
  have e2:az .str (w.take (j+1)) []=false:=by grind[z9]
  have e4:(w.take (j+1)).getD j 0=w.getD j 0:=by simp[List.getD,List.getElem?_take]
  have e5:aA (w.take (j+1)) 0 (j:Int)=w.take j:=by have:=sG (w.take (j+1)) 0 j;grind
  rw[e0,e1,Bool.true_or,cond_true,e2,Bool.not_false,cond_true,ae,e4];unfold tA;by_cases hz:w.getD j 0=0
  ·rw[if_pos (by simpa using hz),if_pos hz,if_pos (by omega),e5];exact DG Xt K s w hw a0 a1 a2 a3 a4 a5 a6 a7 a8 a10 b0 b1 b2 b3 b4 b5 b6 b7 b8 b10 j n (by omega) (by omega)
  grind
theorem A5{α:Type}(Xt:Int->List Int->List Int->List Int->Int->List Int->Int->Int->List Int->Int->Int->List Int->List Int->List Int->Int->List Int->Int->Int->List Int->Int->List (List Int)->Option α)(K:Nat)
  (a0:Int) (a1 a2 a3:List Int) (a4:Int) (a5:List Int) (a6 a7:Int) (a8:List Int) (a10:Int) (b0:Int) (b1 b2 b3:List Int) (b4:Int) (b5:List Int) (b6 b7:Int) (b8:List Int) (b10:Int):∀(m n:Nat)(l:List Int)(c:List (List Int)),m<n->l.length=20*m->c.length+m<=255->
  aW.l1 K Xt n l a0 a1 a2 a3 a4 a5 a6 a7 a8 a10 b0 b1 b2 b3 b4 b5 b6 b7 b8 b10 c=Xt a0 a1 a2 a3 a4 a5 a6 a7 a8 a10 b0 b1 b2 b3 b4 b5 b6 b7 b8 b10 (c++pM m l)
 |m,0,l,c,h,_,_=>by omega
 |0,n+1,l,c,h,hl,hc=>by simp_all[aW.l1,aW.ly,z9,pM]
 |m+1,n+1,l,c,h,hl,hc=>by simp only[aW.l1,aW.ly];rw[z9,decide_eq_false (show¬l.length=0 by omega),if_pos (by decide),if_pos (aK (by omega) (by omega)),if_pos (by omega)];have e5:aA l 20 (l.length:Int)=l.drop 20:=F1 l 20;rw[e5];refine(A5 Xt K a0 a1 a2 a3 a4 a5 a6 a7 a8 a10 b0 b1 b2 b3 b4 b5 b6 b7 b8 b10 m n _ _ (by omega) (by simp;omega) (by simp;omega)).trans ?_;grind[pM]
theorem QE(x:List Int)(hb:gy x)(hl:x.length<=140737488351232):aW.run x=if x.length=0 then some (ij,4,())else RO (x.getD 0 0) (x.drop 1):=by
 unfold aW.run aW.top;rw[z9];by_cases h0:x.length=0
 ·grind
 ·rw[decide_eq_false h0,if_neg (by decide),if_neg h0,if_pos (by omega),if_pos (by omega)];have e1:aA x 1 (x.length:Int)=x.drop 1:=F1 x 1;rw[e1,bW hb 0];have hk:=mT hb 0;have hbs:=qi hb 1;have hls:(x.drop 1).length<=140737488351232:=by simp;omega
  generalize x.getD 0 0=kd at*;generalize x.drop 1=s at*;have hj:(if(kd==1)=true then
    aW.j0 fuel (fun x3 c2=>some (c2,x3,())) s kd (kd==1) 0 [0,0,0,0] [0,0,0,0] (replicate 32 0) 0 (replicate 32 0) 0 0 [] 0 kd [0,0,0,0] [0,0,0,0] (replicate 32 0) 0 (replicate 32 0) 0 0 [] 0
   else aW.j0 fuel (fun x3 c2=>some (c2,x3,())) s kd (kd==3) 0 [0,0,0,0] [0,0,0,0] (replicate 32 0) 0 (replicate 32 0) 0 0 [] 0 kd [0,0,0,0] [0,0,0,0] (replicate 32 0) 0 (replicate 32 0) 0 0 [] 0)=
    aW.j0 fuel (fun x3 c2=>some (c2,x3,())) s kd (decide (kd=1\/kd=3)) 0 [0,0,0,0] [0,0,0,0] (replicate 32 0) 0 (replicate 32 0) 0 0 [] 0 kd [0,0,0,0] [0,0,0,0] (replicate 32 0) 0 (replicate 32 0) 0 0 [] 0:=by
   by_cases k1:kd=1
   ·rw[if_pos (by simpa using k1),decide_eq_true (Or.inl k1),show(kd==1)=true by simpa using k1]
   ·rw[if_neg (by simpa using k1)];by_cases k3:kd=3
    ·rw[decide_eq_true (Or.inr k3),show(kd==3)=true by simpa using k3]
    ·rw[decide_eq_false (show¬(kd=1\/kd=3) by omega),show(kd==3)=false by simpa using k3]
  refine hj.trans ?_;unfold aW.j0 RO;by_cases k13:kd=1\/kd=3
  ·rw[decide_eq_true k13,if_pos rfl,if_pos k13];by_cases h:s.length<132
   ·grind
   ·have c1:aA s 0 32=s.take 32:=sG s 0 32;have c2:aA s 32 64=(s.drop 32).take 32:=sG s 32 64;have c3:aA s 66 98=(s.drop 66).take 32:=sG s 66 98;have c4:aA s 100 132=(s.drop 100).take 32:=sG s 100 132;have c5:aA s 132 (s.length:Int)=s.drop 132:=F1 s 132;have c6:aA s 64 66=(s.drop 64).take 2:=sG s 64 66;have c7:aA s 98 100=(s.drop 98).take 2:=sG s 98 100;have l1:(s.take 32).length=32:=by simp;omega
    have l2:((s.drop 32).take 32).length=32:=by simp;omega
    have l3:((s.drop 66).take 32).length=32:=by simp;omega
    have l4:((s.drop 100).take 32).length=32:=by simp;omega
    rw[if_neg (dF (by omega)),if_neg h,if_pos (by omega),c1,rE _ l1 (pe hbs 32),bind_some,if_pos (by omega),c2,qH _ (by omega),o8 _ l2,bind_some,
     if_pos (by omega),c6,jU _ (by simp;omega) (pe (qi hbs 64) 2),bind_some,if_pos (by omega),c3,qH _ (by omega),o8 _ l3,bind_some,
     if_pos (by omega),c7,jU _ (by simp;omega) (pe (qi hbs 98) 2),bind_some,if_pos (by omega),c4,rE _ l4 (pe (qi hbs 100) 32),bind_some,if_pos (by omega),c5,ID]
    rfl
  ·rw[decide_eq_false k13,if_neg (by decide),if_neg k13];by_cases k2:kd=2
   ·rw[if_pos (by simpa using k2),if_pos k2];by_cases h:s.length<67
    ·grind
    ·rw[if_neg (dF (by omega)),if_neg h];by_cases h2:s.length>67
     ·grind
     ·have c0:aA s 35 (s.length:Int)=s.drop 35:=F1 s 35;have hw:(s.drop 35).length=32:=by simp;omega
      have ht:(s.drop 35).take 32=s.drop 35:=List.take_of_length_le (by omega);have c1:aA s 0 32=s.take 32:=sG s 0 32;have c2:aA s 32 34=(s.drop 32).take 2:=sG s 32 34;have l1:(s.take 32).length=32:=by simp;omega
      rw[if_neg (dF (by omega)),if_neg h2,if_pos (by omega),c0];have hn:=DG (fun x4 x6 c2p0 c2p1 c2p2 c2p3 c2p4 c2p5 c2p6 c2p7 c2p8 c2p10 c5p0 c5p1 c5p2 c5p3 c5p4 c5p5 c5p6 c5p7 c5p8 c5p10=>aW.j2 (fun x3 c2=>some (c2,x3,())) x4 x6 c2p0 c2p1 c2p2 c2p3 c2p4 c2p5 c2p6 c2p7 c2p8 c2p10 c5p0 c5p1 c5p2 c5p3 c5p4 c5p5 c5p6 c5p7 c5p8 c5p10) fuel s (s.drop 35) (by omega)
       0 [0,0,0,0] [0,0,0,0] (replicate 32 0) 0 (replicate 32 0) 0 0 [] 0 kd [0,0,0,0] [0,0,0,0] (replicate 32 0) 0 (replicate 32 0) 0 0 [] 0 32 fuel (by rw[ai];omega) (by omega)
      rw[ht]at hn;refine hn.trans ?_;unfold aW.j2;rw[if_pos (by omega),c1,qH _ (by omega),o8 _ l1,bind_some,if_pos (by omega),c2,jU _ (by simp;omega) (pe (qi hbs 32) 2),bind_some,if_pos (by omega),ID,bW hbs 34];rfl
   ·rw[if_neg (by simpa using k2),if_neg k2];by_cases k4:kd=4
    ·rw[if_pos (by simpa using k4),if_pos k4];have h4:=mT hbs 4;obtain⟨N,hN⟩:=Int.eq_ofNat_of_zero_le h4.1;have e0:IntKind.i64.wrap (5+IntKind.i64.wrap (20*IntKind.i64.wrap (s.getD 4 0)))=((5+20*N:Nat):Int):=by
      grind[wrap_i64]
     have eN:(s.getD 4 0).toNat=N:=by rw[hN];rfl
     rw[e0,eN];by_cases h5:s.length<5
     ·grind
     ·rw[show decide ((s.length:Int)<5)=false by rw[decide_eq_false_iff_not];omega];rw[show decide (0<=(4:Int)/\(4:Int)<(s.length:Int))=true by rw[decide_eq_true_eq];omega];simp only[Bool.true_or,cond_true,cond_false];by_cases h6:s.length<5+20*N
      ·grind
      ·rw[if_neg (dF (by omega)),if_neg (show¬(s.length<5\/s.length<5+20*N) by omega),if_pos (by omega)];by_cases h7:s.length>5+20*N
       ·grind
       ·have c1:aA s 0 4=s.take 4:=sG s 0 4;have c5:aA s 5 (s.length:Int)=s.drop 5:=F1 s 5;rw[if_neg (dF (by omega)),if_neg h7,if_pos (by omega),c1,jU _ (by simp;omega) (pe hbs 4),bind_some,if_pos (by omega),c5];grind[ai,ID,PK,A5]
    grind
theorem ql(x:jH)(ha:x.2.1.length=4/\aM ah x.2.1)(hf:x.2.2.1.length=4/\aM ah x.2.2.1)(hs:x.2.2.2.2.2.2.2.2.1.length<=1000)(hk:x.2.2.2.2.2.2.2.2.2.2.2.1.length<=1000):
  ∃c,cZ.run x=some c/\ak.run x=some c:=by
 obtain⟨kd,am,fe,tk,ho,to,tc,de,sy,da,ix,ks,u⟩:=x;exact FW kd am fe tk ho to tc de sy da ix ks ha hf (by simp only at hs;omega) (by simp only at hk;omega)
theorem uj:([0,0,0,0]:List Int).length=4/\aM ah [0,0,0,0]:=⟨rfl,dz.2 ⟨by decide,dz.2 ⟨by decide,dz.2 ⟨by decide,dz.2 ⟨by decide,iv⟩⟩⟩⟩⟩
theorem step(x:jH)(c:Int)(h:cZ.run x=some c)(g:ak.run x=some c):
  ((cZ.run x).bind fun y=>if(y !=0)=true then some (ij,(3:Int),())else some (x,0,()))=AK x:=by
 unfold AK;rw[h,g,bind_some,bind_some];by_cases hc:c=0
 ·rw[if_neg (by simpa using hc),if_pos hc]
 ·rw[if_pos (by simpa using hc),if_neg hc]
theorem Th(kd:Int)(s:List Int):(kd,(Fh 0 s).2)=Fh kd s:=by simp only[Fh]
theorem F3(x:List Int)(hb:gy x)(hl:x.length<=140737488351232):kI.run x=if x.length=0 then some (ij,4,())else RO (x.getD 0 0) (x.drop 1):=by
 unfold kI.run kI.top;by_cases h0:x.length=0
 ·grind
 ·rw[if_neg (show¬(((x.length:Int)==0)=true) by rw[beq_iff_eq];omega),if_neg h0,if_pos (by omega)];have e1:aA x 1 (x.length:Int)=x.drop 1:=F1 x 1;rw[e1,bW hb 0];have hk:=mT hb 0;have hbs:=qi hb 1;have hls:(x.drop 1).length<=140737488351232:=by simp;omega
  have hx1:(0:Int)<=1/\(1:Int)<=(x.length:Int)/\(x.length:Int)<=(x.length:Int):=by omega
  have hx0:(0:Int)<=0/\(0:Int)<(x.length:Int):=by omega
  generalize x.getD 0 0=kd at*;generalize x.drop 1=s at*;unfold RO;by_cases k13:kd=1\/kd=3
  ·rw[ni kd k13,bind_some,Sum.elim_inl,if_neg (by simp),if_pos hx1,if_pos k13,Ul _ s hbs hls,bind_some];by_cases h:s.length<132
   ·grind
   ·rw[if_neg h,if_neg h];simp only[show((0:Int) !=0)=false from rfl,false_eq_true,if_false];rw[if_pos hx0];have l1:(s.take 32).length=32:=by simp;omega
    have l4:((s.drop 100).take 32).length=32:=by simp;omega
    obtain⟨c,g1,g2⟩:=ql (Fh kd s) (by simp only[Fh];exact mK _ l1 (pe hbs 32)) (by simp only[Fh];exact mK _ l4 (pe (qi hbs 100) 32)) (by simp[Fh]) (by simp[Fh]);grind[Th,step]
  ·rw[if_neg k13];by_cases k2:kd=2
   ·subst k2;rw[tX,bind_some,Sum.elim_inr,Sum.elim_inl,if_neg (by simp),if_pos hx1,if_pos rfl,Uk _ s hbs,bind_some];by_cases h:s.length<67
    ·grind
    ·rw[if_neg h,if_neg h];by_cases h2:s.length>67
     ·grind
     ·rw[if_neg h2,if_neg h2];simp only[show((0:Int) !=0)=false from rfl,false_eq_true,if_false];rw[if_pos hx0];grind[O3,ql,uj,step]
   ·rw[if_neg k2];by_cases k4:kd=4
    ·subst k4;rw[xN,bind_some,Sum.elim_inr,Sum.elim_inr,Sum.elim_inl,if_neg (by simp),if_pos hx1,if_pos rfl,Uj _ s hbs,bind_some];have h4:=mT hbs 4;by_cases h:s.length<5\/s.length<5+20*(s.getD 4 0).toNat
     ·grind
     ·rw[if_neg h,if_neg h];by_cases h2:s.length>5+20*(s.getD 4 0).toNat
      ·grind
      ·rw[if_neg h2,if_neg h2];simp only[show((0:Int) !=0)=false from rfl,false_eq_true,if_false];rw[if_pos hx0];grind[PK,vu,ql,uj,step]
    simp_all[Di]
theorem xD(x:jH)(c:Int)(g:ak.run x=some c)(h:x.2.2.2.2.2.2.2.2.2.2.2.1.length<=1000):∃r:jH×Int×Unit,AK x=some r/\r.1.2.2.2.2.2.2.2.2.2.2.2.1.length<=1000:=by unfold AK;rw[g,bind_some];grind
theorem O2(kd:Int)(s:List Int)(hbs:gy s):∃r:jH×Int×Unit,RO kd s=some r/\r.1.2.2.2.2.2.2.2.2.2.2.2.1.length<=1000:=by
 unfold RO;by_cases k13:kd=1\/kd=3
 ·rw[if_pos k13];by_cases h:s.length<132
  ·simp_all
  ·rw[if_neg h];have l1:(s.take 32).length=32:=by simp;omega
   have l4:((s.drop 100).take 32).length=32:=by simp;omega
   obtain⟨c,g1,g2⟩:=ql (Fh kd s) (by simp only[Fh];exact mK _ l1 (pe hbs 32)) (by simp only[Fh];exact mK _ l4 (pe (qi hbs 100) 32)) (by simp[Fh]) (by simp[Fh]);grind[Fh,xD]
 ·rw[if_neg k13];by_cases k2:kd=2
  ·rw[if_pos k2];by_cases h:s.length<67
   ·simp_all
   ·rw[if_neg h];by_cases h2:s.length>67
    ·simp_all
    ·rw[if_neg h2];obtain⟨c,g1,g2⟩:=ql (O3 kd s) (by simp only[O3];exact uj) (by simp only[O3];exact uj) (by simp[O3];omega) (by simp[O3]);grind[O3,xD]
  ·rw[if_neg k2];by_cases k4:kd=4
   ·rw[if_pos k4];have h4:=mT hbs 4;by_cases h:s.length<5\/s.length<5+20*(s.getD 4 0).toNat
    ·simp_all
    ·rw[if_neg h];by_cases h2:s.length>5+20*(s.getD 4 0).toNat
     ·simp_all
     ·rw[if_neg h2];have hk:(PK kd s).2.2.2.2.2.2.2.2.2.2.2.1.length<=1000:=by simp only[PK,vu];omega
      grind[PK,ql,uj,xD]
   simp_all
theorem yI{α:Type}(Xt:List fx->List fx->Option α)(k:Nat)(l:List fx)(hl:l.length<=1000)(hs:∀s∈l,s.2.1.length<=1000):∀(R P:List fx)(n:Nat),R.length<n->l=P++R->
  fw.l0 k Xt n (l.length:Int) (P.length:Int) l P=Xt l l
 |R,P,0,h,_=>by omega
 |[],P,n+1,h,hc=>by simp_all[fw.l0,fw.aR]
 |a::R,P,n+1,h,hc=>by
  have hlen:l.length=P.length+(R.length+1):=by rw[hc];simp
  have hg:l.getD P.length (0,[],0,())=a:=by rw[hc];exact dk _ _ _ _
  have ha:a.2.1.length<=1000:=hs a (by rw[hc];simp);simp only[fw.l0,fw.aR];rw[if_pos (dT (by omega)),if_pos (by omega),ax (by omega),ae,hg,if_pos (by rw[aK (by omega) (by omega)];rfl),if_pos (aK (by omega) (by omega))];have ih:=yI Xt k l hl hs R (P++[a]) n (by simpa using h) (by simp[hc]);grind
theorem AP(l:List fx)(hl:l.length<=1000)(hs:∀s∈l,s.2.1.length<=1000):fw.run l=some (l,l,()):=by unfold fw.run fw.top;exact yI (fun c0 c21=>fw.j0 (fun c0 c21=>some (c0,c21,())) c0 c21) fuel l hl hs l [] fuel (by rw[ai];omega) rfl
theorem LS(l:List fx)(ix now:Int):∃r:fx×Int×Unit,oC.run l ix now=some r/\gI.run l ix now=some r/\r.1.2.1.length<=19:=by
 unfold oC.run oC.top gI.run gI.top;obtain⟨e,e1,e2,e3⟩:=qC l;rw[e1,e2];simp only[bind_some];by_cases he:e=0
 ·obtain⟨h1,h2,h3⟩:=e3 he;simp only[he,show((0:Int) !=0)=false from rfl,false_eq_true,if_false];by_cases hi:ix<0\/(List.length l:Int)<=ix
  ·simp_all
  ·have:¬(cond (decide (ix<0)) true (decide (ix>=(List.length l:Int))))=true:=by rw[bS,Bool.or_eq_true,decide_eq_true_eq,decide_eq_true_eq];omega
   obtain⟨i,hi'⟩:∃i:Nat,ix=(i:Int):=⟨Int.toNat ix,by omega⟩
   rw[hi']at this hi⊢;have hil:i<List.length l:=by omega
   simp only[if_neg this];rw[ax (by omega),if_pos (by omega),if_pos (by omega)];have hcut:aA l (i:Int) ((i+1:Nat):Int)=[l.getD i (0,[],0,())]:=by unfold aA;rw[show Int.toNat (i:Int)=i from rfl,show Int.toNat ((i+1:Nat):Int)=i+1 from rfl,show i+1-i=1 by omega,List.drop_eq_getElem_cons hil,getD_eq hil];rfl
   have hm:l.getD i (0,[],0,())∈l:=by rw[getD_eq hil];exact List.getElem_mem hil
   have hk:=h3 _ hm;rw[hcut,C7 _ (by simp) (fun s hs=>by simp only[List.mem_singleton]at hs;subst hs;omega)];simp only[bind_some,ae];rw[if_pos (by simp)];have hd:(decide (0<=(i:Int)/\(i:Int)<(List.length l:Int))|| !(((l.getD i (0,[],0,())).2.2.1 !=0)==true))=true:=by grind
   rw[hd,cond_true];have hz:List.getD [l.getD i (0,[],0,())] 0 (0,[],0,())=l.getD i (0,[],0,()):=rfl;rw[hz];have hge:decide (now>=(l.getD i (0,[],0,())).2.2.1)=decide ((l.getD i (0,[],0,())).2.2.1<=now):=rfl;rw[hge];by_cases hc:(cond ((l.getD i (0,[],0,())).2.2.1 !=0) (decide ((l.getD i (0,[],0,())).2.2.1<=now)) false)=true
   ·simp_all
   simp_all[if_neg]
 simp_all
section
variable {x m a:List Int}{F:Int->Int}
theorem lk{α:Type}(k:Nat)(Xt:Bool->Int->List Int->List Int->List Int->List Int->Option α)(hx:W4 x)
  (hF:∀(q:Int)(b:Bool)(o:List Int),0<=q->W4 o->val ah o=F q->∃o',hU.run b o m a=some (o',m,a,())/\W4 o'/\val ah o'=F (2*q+if b=true then 1 else 0)) (j:Nat) (hj:j<4):
  ∀(n i:Nat)(b:Bool)(o:List Int),i<n->i<=64->W4 o->val ah o=F (val ah x/((2^(64*j+i):Nat):Int))->(b=false->val ah x/((2^(64*j+i):Nat):Int)=0)->
  ∃b' o',eb.l1 k Xt n b (j:Int) ((i:Int)-1) o m a x=Xt b' (j:Int) o' m a x/\W4 o'/\val ah o'=F (val ah x/((2^(64*j):Nat):Int))/\(b'=false->val ah x/((2^(64*j):Nat):Int)=0)
 |0,i,b,o,h,_,_,_,_=>by omega
 |n+1,0,b,o,h,hi,ho,hv,hb=>by refine⟨b,o,?_,ho,hv,hb⟩;rfl
 |n+1,i+1,b,o,h,hi,ho,hv,hb=>by
  simp only[eb.l1,eb.ly];have ei:((i+1:Nat):Int)-1=(i:Int):=by omega
  rw[ei,if_pos (dT (by omega)),if_pos (by omega),if_pos (by omega),ae];obtain⟨X,hX,hX2⟩:=jS (di dO hx.2 j);have hbit:=EB hx.2 (w:=j) (k:=i) (by omega) hX;have hs:X>>>i<18446744073709551616:=Nat.lt_of_le_of_lt (Nat.shiftRight_le _ _) hX2;have hband:cS .u64 (fS .u64 (x.getD j 0) (i:Int)) 1=val ah x/((2^(64*j+i):Nat):Int)%2:=by grind[oa,jZ]
  rw[hband];have hq:val ah x/((2^(64*j+i):Nat):Int)=2*(val ah x/((2^(64*j+(i+1)):Nat):Int))+val ah x/((2^(64*j+i):Nat):Int)%2:=by grind[Int.ediv_ediv_of_nonneg]
  have hq0:0<=val ah x/((2^(64*j+(i+1)):Nat):Int):=Int.ediv_nonneg hx.bound.1 (Int.natCast_nonneg _);generalize val ah x/((2^(64*j+(i+1)):Nat):Int)=q at*;generalize hQ:val ah x/((2^(64*j+i):Nat):Int)=Q at*;unfold eb.j1;have ew:IntKind.i64.wrap ((i:Int)-1)=(i:Int)-1:=wrap_i64 (by omega) (by omega);rw[ew];by_cases hc:(cond b true (Q%2==1))=true
  ·rw[if_pos hc];obtain⟨o',o1,o2,o3⟩:=hF q (Q%2==1) o hq0 ho hv;rw[o1,bind_some];have hQ':2*q+(if(Q%2==1)=true then 1 else 0)=Q:=by
    grind
   rw[hQ']at o3;refine lk k Xt hx hF j hj n i _ o' (by omega) (by omega) o2 (by rw[hQ];exact o3) (fun h=>?_);grind
  ·rw[if_neg hc];have hb0:b=false/\Q%2≠1:=by
    grind
   have hz:=hb hb0.1;have hQ0:Q=0:=by omega
   refine lk k Xt hx hF j hj n i _ o (by omega) (by omega) ho (by rw[hQ,hQ0,hv,hz]) (fun _=>by rw[hQ,hQ0])
theorem ll{α:Type}(k:Nat)(hk:64<k)(Xt:List Int->List Int->List Int->Option α)(hx:W4 x)
  (hF:∀(q:Int)(b:Bool)(o:List Int),0<=q->W4 o->val ah o=F q->∃o',hU.run b o m a=some (o',m,a,())/\W4 o'/\val ah o'=F (2*q+if b=true then 1 else 0)):
  ∀(n j:Nat)(b:Bool)(o:List Int),j<n->j<=4->W4 o->val ah o=F (val ah x/((2^(64*j):Nat):Int))->(b=false->val ah x/((2^(64*j):Nat):Int)=0)->
  ∃o',eb.l0 k Xt n b ((j:Int)-1) o m a x=Xt o' m a/\W4 o'/\val ah o'=F (val ah x)
 |0,j,b,o,h,_,_,_,_=>by omega
 |n+1,0,b,o,h,hi,ho,hv,hb=>by refine⟨o,?_,ho,by simpa using hv⟩;rfl
 |n+1,j+1,b,o,h,hi,ho,hv,hb=>by
  simp only[eb.l0,eb.aR];have ei:((j+1:Nat):Int)-1=(j:Int):=by omega
  rw[ei,if_pos (dT (by omega)),if_pos (by omega),ae];unfold eb.j0;have ew:IntKind.i64.wrap ((j:Int)-1)=(j:Int)-1:=wrap_i64 (by omega) (by omega);rw[ew];by_cases hc:(cond (x.getD j 0==0) (not b) false)=true
  ·rw[if_pos hc];have hz:x.getD j 0=0/\b=false:=by
    grind
   have h0:=hb hz.2;have hd:=qj hx.2 j;have hd1:=qj hx.2 (j+1);have hvd:=iB ah x j;have hQ0:val ah x/((2^(64*j):Nat):Int)=0:=by grind
   exact ll k hk Xt hx hF n j b o (by omega) (by omega) ho (by rw[hQ0,hv,h0]) (fun _=>hQ0)
  ·rw[if_neg hc];have e64:(63:Int)=((64:Nat):Int)-1:=by omega
   have hm64:64*(j+1)=64*j+64:=by omega
   rw[hm64]at hv hb;obtain⟨b',o',e1,e2,e3,e4⟩:=lk k (fun(x4:Bool)(x5:Int)(c0:List Int)(c1:List Int)(c2:List Int)(c5:List Int)=>eb.l0 k Xt n x4 (IntKind.i64.wrap (x5-1)) c0 c1 c2 c5) hx hF j (by omega) k 64 b o hk (by omega) ho hv hb;rw[e64,e1,ew];exact ll k hk Xt hx hF n j b' o' (by omega) (by omega) e2 e3 e4
theorem wj{x m a o:List Int}{F:Int->Int}(hx:W4 x)(ho:W4 o)(h0:val ah o=F 0)
  (hF:∀(q:Int)(b:Bool)(o:List Int),0<=q->W4 o->val ah o=F q->∃o',hU.run b o m a=some (o',m,a,())/\W4 o'/\val ah o'=F (2*q+if b=true then 1 else 0)):
  ∃o',eb.run x o m a=some (o',m,a,())/\W4 o'/\val ah o'=F (val ah x):=by
 unfold eb.run eb.top;have hz:val ah x/((2^(64*4):Nat):Int)=0:=by have hb:=dA dO hx.2;rw[hx.1]at hb;grind
 have:=fun N(hN:64<N)=>ll N hN (fun(c0:List Int)(c1:List Int)(c2:List Int)=>some (c0,c1,c2,())) hx hF N 4 false o (by omega) (by omega) ho (by rw[hz];exact h0) (fun _=>hz);obtain⟨o',e1,e2,e3⟩:=this fuel (by rw[ai];omega);exact⟨o',e1,e2,e3⟩
end
theorem nh{a b m:List Int}(ha:W4 a)(hb:W4 b)(hm:W4 m)(h1:val ah a<val ah m):∃r,jy.run a b m=some r/\W4 r/\val ah r=(val ah a*val ah b)%val ah m:=by
 have ba:=ha.bound;have hpos:0<val ah m:=by omega
 obtain⟨o,e1,e2,e3⟩:=wj (m:=m) (a:=a) (F:=fun q=>(val ah a*q)%val ah m) hb W4.zero (by rw[oI];simp) (fun q b o hq ho hv=>by
  have hlt:=emod_lt_of_pos (val ah a*q) hpos;unfold hU.run hU.top;obtain⟨r1,k1,k2,k3⟩:=pL ho ho hm (by rw[hv];exact hlt) (by rw[hv];exact hlt);rw[k1,bind_some];have key:val ah r1=(val ah a*(2*q))%val ah m:=by rw[k3,hv,<-Int.add_emod];grind
  cases b with
  |true=>rw[if_pos rfl,if_pos rfl];obtain⟨r2,j1,j2,j3⟩:=pL k2 ha hm (by rw[key];exact emod_lt_of_pos _ hpos) h1;rw[j1,bind_some];refine⟨r2,rfl,j2,?_⟩;rw[j3,key,Int.emod_add_emod,Int.mul_add,mul_one]
  |false=>
   rw[if_neg (by simp),if_neg (by simp)];exact⟨r1,rfl,k2,by rw[key,Int.add_zero]⟩)
 simp_all[jy.run,jy.top]
theorem W4.xL{m:List Int}(h:W4 m):m=[1,0,0,0]↔val ah m=1:=
 ⟨fun e=>by rw[e];exact Fa.2,fun e=>h.eq Fa.1 (by rw[e,Fa.2])⟩
theorem W4.J9{m:List Int}(h:W4 m):m=[0,0,0,0]↔val ah m=0:=
 ⟨fun e=>by rw[e];rfl,fun e=>h.eq W4.zero (by rw[e];rfl)⟩
theorem Gh{r s:Int}(hr:0<=r)(hs:0<=s):gcd s.toNat r.toNat=gcd (r%s).toNat s.toNat:=by rw[Nat.gcd_rec,Int.toNat_emod hr hs]
theorem half{r s:Int}{n:Nat}(hs:0<s)(hsr:s<=r)(h:r*s<((2^(n+1):Nat):Int)):s*(r%s)<((2^n:Nat):Int):=by
 have e:=Int.mul_ediv_add_emod r s;have hm:=Int.emod_nonneg r (show s≠0 by omega);have hl:=emod_lt_of_pos r hs;have hq:1<=r/s:=by have:=Int.ediv_le_ediv hs hsr;grind[Int.ediv_self]
 have h1:s*1<=s*(r/s):=Int.mul_le_mul_of_nonneg_left hq (by omega);have h2:2*(r%s)<=r:=by omega
 have h3:s*(2*(r%s))<=s*r:=Int.mul_le_mul_of_nonneg_left h2 (by omega);grind
def Cg(M x y:Int):Prop:=x%M=y%M
theorem Cg.mul{M x y:Int}(h:Cg M x y)(z:Int):Cg M (x*z) (y*z):=by grind[mul_emod,Cg]
theorem Cg.mulL{M x y:Int}(h:Cg M x y)(z:Int):Cg M (z*x) (z*y):=by grind[mul_emod,Cg]
theorem Cg.sub{M x y z w:Int}(h:Cg M x y)(k:Cg M z w):Cg M (x-z) (y-w):=by grind[sub_emod,Cg]
theorem Cg.mod{M x:Int}:Cg M (x%M) x:=emod_emod _ _
theorem Cg.trans{M x y z:Int}(h:Cg M x y)(k:Cg M y z):Cg M x z:=Eq.trans h k
theorem Cg.symm{M x y:Int}(h:Cg M x y):Cg M y x:=Eq.symm h
theorem inv_one{M a x y:Int}(hx:0<=x/\x<M)(hy:0<=y/\y<M)(h1:Cg M (a*x) 1)(h2:Cg M (a*y) 1):x=y:=by
 have e1:Cg M (x*(a*y)) x:=by have:=h2.mulL x;rw[mul_one]at this;exact this
 have e2:Cg M (a*x*y) y:=by have:=h1.mul y;rw[Int.one_mul]at this;exact this
 have e3:a*x*y=x*(a*y):=by rw[Int.mul_comm a x,Int.mul_assoc]
 rw[e3]at e2;have e4:x%M=y%M:=Eq.trans (Eq.symm e1) e2;simp_all[Int.emod_eq_of_lt]
theorem Gw{α:Type}(k:Nat)(Xt:List Int->List Int->List Int->Option α)(m z:List Int)(hm:W4 m)(hM:0<val ah m)(A:Int):
  ∀(n N:Nat)(t r s u:List Int),n<N->W4 t->W4 r->W4 s->W4 u->val ah t<val ah m->val ah u<val ah m->val ah s<=val ah r->0<val ah r->val ah r*val ah s<((2^n:Nat):Int)->Cg (val ah m) (val ah r) (val ah u*A)->Cg (val ah m) (val ah s) (val ah t*A)->
  ∃r' u',ic.l0 k Xt N m z t r s u=Xt z r' u'/\W4 r'/\W4 u'/\val ah u'<val ah m/\(val ah r').toNat=gcd (val ah s).toNat (val ah r).toNat/\Cg (val ah m) (val ah r') (val ah u'*A)
 |n,0,t,r,s,u,h,_,_,_,_,_,_,_,_,_,_,_=>by omega
 |n,N+1,t,r,s,u,h,ht,hr,hs,hu,lt,lu,hsr,hr0,hn,cr,cs=>by
  have bs:=hs.bound;simp only[ic.l0,ic.aR];rw[jr (.arr 4 (.int .u64)) s [0,0,0,0] rfl];by_cases hz:s=[0,0,0,0]
  ·rw[if_neg (by simp[hz])];have h0:=hs.J9.1 hz;refine⟨r,u,rfl,hr,hu,lu,?_,cr⟩;rw[h0];simp
  ·rw[if_pos (by simp[hz])];have hs0:=hs.ne.1 hz;obtain⟨q,l,d1,d2,d3,d4,d5,d6,d7⟩:=jj hr.1 hr.2 hs.1 hs.2;rw[if_neg hz]at d6 d7;obtain⟨q1,q2,f1,f2,f3,f4,f5,f6,f7⟩:=jj d2 d3 hm.1 hm.2;have hm0:=hm.ne.2 hM;rw[if_neg hm0]at f6 f7;have lq2:val ah q2<val ah m:=by rw[f7];exact emod_lt_of_pos _ hM
   obtain⟨p,p1,p2,p3⟩:=nh ⟨f4,f5⟩ ht hm lq2;have lp:val ah p<val ah m:=by rw[p3];exact emod_lt_of_pos _ hM
   obtain⟨v,v1,v2,v3⟩:=ux hu p2 hm lu lp;have lv:val ah v<val ah m:=by rw[v3];exact emod_lt_of_pos _ hM
   rw[d1,bind_some,f1,bind_some,p1,bind_some,v1,bind_some];have hl0:=(dA dO d5).1;have hll:val ah l<val ah s:=by rw[d7];exact emod_lt_of_pos _ hs0
   have hpos:0<val ah r*val ah s:=Int.mul_pos hr0 hs0;obtain⟨n',rfl⟩:∃n',n=n'+1:=by
    cases n with
    |zero=>simp at hn;omega
    |succ n'=>exact⟨n',rfl⟩
   have hh:=half hs0 hsr hn;rw[<-d7]at hh;have cl:Cg (val ah m) (val ah l) (val ah v*A):=by
    have e1:val ah l=val ah r-val ah s*val ah q:=by grind[Int.mul_ediv_add_emod]
    have e2:Cg (val ah m) (val ah r-val ah s*val ah q) (val ah u*A-val ah t*A*val ah q):=cr.sub (cs.mul _);have e3:val ah u*A-val ah t*A*val ah q=(val ah u-val ah q*val ah t)*A:=by grind
    have e4:Cg (val ah m) (val ah v) (val ah u-val ah q*val ah t):=by rw[v3];refine Cg.mod.trans (Cg.sub (show Cg _ _ _ from rfl) ?_);rw[p3];refine Cg.mod.trans ?_;rw[f7];exact Cg.mod.mul _
    rw[e1];rw[e3]at e2;exact e2.trans (e4.mul A).symm
   obtain⟨r',u',g1,g2,g3,g4,g5,g6⟩:=Gw k Xt m z hm hM A n' N v s l t (by omega) v2 hs ⟨d4,d5⟩ ht lv lt (by omega) hs0 hh cs cl;grind[Gh]
theorem Fg{a b:Int}(ha:0<=a/\a<aB)(hb:0<=b/\b<aB):a*b<((2^512:Nat):Int):=by have h1:a*b<=a*aB:=Int.mul_le_mul_of_nonneg_left (by omega) ha.1;grind
theorem CZ{a m:List Int}(ha:W4 a)(hm:W4 m)(h1:val ah a<val ah m)(he:sL m [a]=0):
  ∃x e,ic.run a m=some (x,e,())/\W4 x/\(gcd (val ah a).toNat (val ah m).toNat=1->e=0/\val ah x<val ah m/\Cg (val ah m) (val ah a*val ah x) 1)/\(gcd (val ah a).toNat (val ah m).toNat≠1->e=5/\x=[0,0,0,0]):=by
 have ba:=ha.bound;have bm:=hm.bound;have hM:0<val ah m:=by omega
 have hw:∀y∈[a],W4 y:=fun y hy=>by grind
 unfold ic.run ic.top;rw[xC hm (by simp) hw,bind_some,he,if_neg (by decide)];obtain⟨q,r,d1,_,_,d4,d5,_,d7⟩:=jj Fa.1.1 Fa.1.2 hm.1 hm.2;rw[if_neg (hm.ne.2 hM),Fa.2]at d7;rw[d1,bind_some];have:=fun N(hN:512<N)=>Gw N (fun(c4:List Int)(c10:List Int)(c12:List Int)=>ic.j0 (fun(x5:Int)(c4:List Int)=>some (c4,x5,())) c4 c10 c12) m [0,0,0,0] hm hM (val ah a) 512 N r m a [0,0,0,0] hN ⟨d4,d5⟩ hm ha W4.zero (by rw[d7];exact emod_lt_of_pos _ hM) (by rw[oI];exact hM) (by omega) hM (Fg bm ba) (by
   rw[oI,Int.zero_mul];unfold Cg;simp) (by
   rw[d7];have:=(Cg.mod (M:=val ah m) (x:=1)).mul (val ah a);rw[Int.one_mul]at this;exact this.symm)
 obtain⟨r',u',g1,g2,g3,g4,g5,g6⟩:=this fuel (by rw[ai];omega);rw[g1];unfold ic.j0;rw[jr (.arr 4 (.int .u64)) r' [1,0,0,0] rfl];have br:=g2.bound;by_cases h1:r'=[1,0,0,0]
 ·rw[if_neg (by simp[h1])];have hv:=g2.xL.1 h1;rw[hv]at g5 g6;refine⟨u',0,rfl,g3,fun _=>⟨rfl,g4,?_⟩,fun hn=>absurd g5.symm hn⟩;rw[Int.mul_comm];exact g6.symm
 ·rw[if_pos (by simp[h1])];have hv:val ah r'≠1:=fun e=>h1 (g2.xL.2 e);refine⟨_,5,rfl,W4.zero,fun hg=>?_,fun _=>⟨rfl,rfl⟩⟩;rw[hg]at g5;omega
theorem ti:∀(n N:Nat)(a m:List Int),n<N->W4 a->W4 m->val ah a<val ah m->val ah m*val ah a<((2^n:Nat):Int)->
  ∃x ok,d9.runN N a m=some (x,ok,())/\W4 x/\(gcd (val ah a).toNat (val ah m).toNat=1->ok=true/\val ah x<val ah m/\Cg (val ah m) (val ah a*val ah x) 1)/\(gcd (val ah a).toNat (val ah m).toNat≠1->ok=false)
 |n,0,a,m,h,_,_,_,_=>by omega
 |n,N+1,a,m,h,ha,hm,h1,hn=>by
  have ba:=ha.bound;have bm:=hm.bound;have hM:0<val ah m:=by omega
  simp only[d9.runN,d9.top];rw[jr (.arr 4 (.int .u64)) m [1,0,0,0] rfl,jr (.arr 4 (.int .u64)) a [0,0,0,0] rfl,jr (.arr 4 (.int .u64)) a [1,0,0,0] rfl];by_cases hm1:m=[1,0,0,0]
  ·rw[if_pos (by simp[hm1])];have hv:=hm.xL.1 hm1;refine⟨_,true,rfl,W4.zero,fun _=>⟨rfl,by rw[oI];exact hM,?_⟩,fun hg=>?_⟩
   ·grind[Cg]
   simp_all
  ·rw[if_neg (by simp[hm1])];have hv1:val ah m≠1:=fun e=>hm1 (hm.xL.2 e);by_cases ha0:a=[0,0,0,0]
   ·rw[if_pos (by simp[ha0])];have hv:=ha.J9.1 ha0;refine⟨_,false,rfl,W4.zero,fun hg=>?_,fun _=>rfl⟩;rw[hv]at hg;simp at hg;omega
   ·rw[if_neg (by simp[ha0])];have hap:=ha.ne.1 ha0;by_cases ha1:a=[1,0,0,0]
    ·rw[if_pos (by simp[ha1])];have hv:=ha.xL.1 ha1;simp_all[Cg]
    ·rw[if_neg (by simp[ha1])];have hv2:val ah a≠1:=fun e=>ha1 (ha.xL.2 e);obtain⟨q,r,_,e2,n1,d1,n2,d2,vq,vr⟩:=pS hm.1 hm.2 ha.1 ha.2;rw[if_neg ha0]at vq vr;rw[e2,bind_some];have hr:W4 r:=⟨n2,d2⟩
     have hq:W4 q:=⟨n1,d1⟩
     have br:=hr.bound;have hra:val ah r<val ah a:=by rw[vr];exact emod_lt_of_pos _ hap
     have hpos:0<val ah m*val ah a:=Int.mul_pos hM hap;obtain⟨n',rfl⟩:∃n',n=n'+1:=by
      cases n with
      |zero=>simp at hn;omega
      |succ n'=>exact⟨n',rfl⟩
     have hh:=half hap (by omega) hn;rw[<-vr]at hh;obtain⟨s,ok,s1,s2,s3,s4⟩:=ti n' N r a (by omega) hr ha hra hh;have hg:gcd (val ah a).toNat (val ah m).toNat=gcd (val ah r).toNat (val ah a).toNat:=by grind[Gh]
     rw[s1,bind_some,hg];by_cases h1g:gcd (val ah r).toNat (val ah a).toNat=1
     ·obtain⟨rfl,ls,cs⟩:=s3 h1g;simp only[Bool.not_true];rw[if_neg (by simp)];have bs:=s2.bound;obtain⟨x,x1,x2,x3,x4⟩:=gj hr.1 hr.2;obtain⟨y,y1,y2,y3,y4⟩:=gj s2.1 s2.2;obtain⟨p,p1,p2,p3,p4⟩:=mX x3 y3 (by omega) (by omega);rw[x4,y4]at p4;have hrs0:0<=val ah r*val ah s:=Int.mul_nonneg br.1 bs.1;have hcs:(val ah r*val ah s)%val ah a=1:=by
       have h:=cs;unfold Cg at h;rw[h];exact Int.emod_eq_of_lt (by omega) (by omega)
      have hk:=Int.mul_ediv_add_emod (val ah r*val ah s) (val ah a);rw[hcs]at hk;have hk0:0<=val ah r*val ah s/val ah a:=Int.ediv_nonneg hrs0 (by omega);have hk1:0<=val ah a*(val ah r*val ah s/val ah a):=Int.mul_nonneg (by omega) hk0;have v1:val bY [1]=1:=rfl;obtain⟨l,l1,l2,l3,l4⟩:=rn p3 (F4 (d:=1) (by omega)) (by omega) (by rw[p4,v1];omega);rw[p4,v1]at l4;obtain⟨z,z1,z2,z3,z4⟩:=gj ha.1 ha.2;obtain⟨kq,kr,k1,k2,k3,_,_,k6,_⟩:=th l3 z3 (by omega) (by omega) (by omega);have hkv:val bY kq=val ah r*val ah s/val ah a:=by grind[Int.mul_ediv_cancel_left]
      obtain⟨qq,q1,q2,q3,q4⟩:=gj hq.1 hq.2;obtain⟨w,w1,w2,w3,w4⟩:=mX q3 y3 (by omega) (by omega);obtain⟨t,t1,t2,t3,t4⟩:=nG w3 k3 (by omega) (by omega);obtain⟨g,g1,g2,g3⟩:=qv t3 (by omega) hm hM;obtain⟨o,o1,o2,o3⟩:=wN g2 hm (by rw[g3];exact emod_lt_of_pos _ hM);rw[x1,bind_some,y1,bind_some,p1,bind_some,l1,bind_some,z1,bind_some,k1,bind_some,q1,bind_some,bind_some,w1,bind_some,t1,bind_some,g1,bind_some,o1,bind_some];refine⟨o,true,rfl,o2,fun _=>⟨rfl,by rw[o3];exact emod_lt_of_pos _ hM,?_⟩,fun hng=>absurd h1g hng⟩;have hT:val ah a*val bY t=val ah m*val ah s-1:=by grind[Int.mul_ediv_add_emod]
      have c1:Cg (val ah m) (val ah o) (0-val bY t):=by
       rw[o3,g3];refine Cg.mod.trans ?_;have:-(val bY t%val ah m)=0-val bY t%val ah m:=by omega
       rw[this];exact Cg.sub rfl Cg.mod
      refine(c1.mulL (val ah a)).trans ?_;rw[Int.mul_sub,hT,Int.mul_zero];unfold Cg;have:0-(val ah m*val ah s-1)=1+val ah m*(-val ah s):=by rw[Int.mul_neg];omega
      simp_all
     ·have:=s4 h1g;subst this;simp only[Bool.not_false];rw[if_pos trivial];exact⟨_,false,rfl,W4.zero,fun hg=>absurd hg h1g,fun _=>rfl⟩
def mk(n:Int):List Int:=[n%18446744073709551616,n/18446744073709551616%18446744073709551616,n/18446744073709551616/18446744073709551616%18446744073709551616,n/18446744073709551616/18446744073709551616/18446744073709551616%18446744073709551616]
theorem dI(n:Int):W4 (mk n):=by refine⟨rfl,fun d hd=>?_⟩;simp only[mk,mem_cons,not_mem_nil,or_false]at hd;grind
theorem mk_val{n:Int}(h:0<=n/\n<aB):val ah (mk n)=n:=by have h2:=h.2;unfold aB at h2;simp only[mk,val,ah];omega
theorem o6{l:List Int}(h:W4 l):l=mk (val ah l):=h.eq (dI _) (mk_val h.bound).symm
theorem mk_eq{l:List Int}{n:Int}(h:W4 l)(e:val ah l=n):l=mk n:=by subst e;exact o6 h
theorem mk_inj{a b:Int}(ha:0<=a/\a<aB)(hb:0<=b/\b<aB):mk a=mk b↔a=b:=
 ⟨fun h=>by rw[<-mk_val ha,<-mk_val hb,h],fun h=>by rw[h]⟩
theorem mk_zero:mk 0=[0,0,0,0]:=by decide
theorem OE{n:Int}(h:0<=n/\n<18446744073709551616):[n,0,0,0]=mk n:=by simp_all[mk,Int.emod_eq_of_lt,Int.ediv_eq_zero_of_lt]
end Go.Bx
namespace Go.Bx.Rg
open Go Go.Bx
section
variable {M:Int}(hM:1<M/\M<aB)
include hM
theorem jm:val ah (mk M)=M:=mk_val ⟨by omega,hM.2⟩
theorem zB{a:Int}(ha:0<=a/\a<M):val ah (mk a)=a:=mk_val ⟨ha.1,by omega⟩
theorem EN{l:List Int}(hl:∀a∈l,0<=a/\a<M):sL (mk M) (l.map mk)=0:=by
 have hne:mk M≠[0,0,0,0]:=(dI M).ne.2 (by rw[jm hM];omega);unfold sL;rw[if_neg hne];induction l with
 |nil=>rfl
 |cons a l ih=>simp only[List.map_cons,below];rw[jm hM,zB hM (hl a (by simp)),if_pos (hl a (by simp)).2];exact ih fun b hb=>hl b (List.mem_cons_of_mem _ hb)
theorem yQ(a:Int):0<=a%M/\a%M<M:=⟨Int.emod_nonneg _ (by omega),emod_lt_of_pos _ (by omega)⟩
theorem Iq{a b:Int}(ha:0<=a/\a<M)(hb:0<=b/\b<M):dt.run (mk M) [mk a,mk b]=some 0:=by
 rw[xC (dI M) (by simp) (fun x hx=>by
  simp only[mem_cons,not_mem_nil,or_false]at hx;rcases hx with rfl|rfl<;>exact dI _)]
 rw[show [mk a,mk b]=[a,b].map mk from rfl,EN hM (fun x hx=>by
  simp only[mem_cons,not_mem_nil,or_false]at hx;rcases hx with rfl|rfl<;>assumption)]
theorem Nh{a b:Int}(ha:0<=a/\a<M)(hb:0<=b/\b<M):kT.run (mk a) (mk b) (mk M)=some (mk (a*b%M),0,()):=by obtain⟨r,e1,w,v⟩:=nh (dI a) (dI b) (dI M) (by rw[zB hM ha,jm hM];exact ha.2);rw[zB hM ha,zB hM hb,jm hM]at v;unfold kT.run kT.top nA.run nA.top;rw[Iq hM ha hb,bind_some,if_neg (by decide),e1,bind_some,bind_some,mk_eq w v]
theorem Uh{a b:Int}(ha:0<=a/\a<M)(hb:0<=b/\b<M):oh.run (mk a) (mk b) (mk M)=some (mk ((a+b)%M),0,()):=by obtain⟨r,e1,w,v⟩:=pL (dI a) (dI b) (dI M) (by rw[zB hM ha,jm hM];exact ha.2) (by rw[zB hM hb,jm hM];exact hb.2);rw[zB hM ha,zB hM hb,jm hM]at v;unfold oh.run oh.top nB.run nB.top;rw[Iq hM ha hb,bind_some,if_neg (by decide),e1,bind_some,bind_some,mk_eq w v]
theorem Rx{a b:Int}(ha:0<=a/\a<M)(hb:0<=b/\b<M):kU.run (mk a) (mk b) (mk M)=some (mk ((a-b)%M),0,()):=by obtain⟨r,e1,w,v⟩:=ux (dI a) (dI b) (dI M) (by rw[zB hM ha,jm hM];exact ha.2) (by rw[zB hM hb,jm hM];exact hb.2);rw[zB hM ha,zB hM hb,jm hM]at v;unfold kU.run kU.top nC.run nC.top;rw[Iq hM ha hb,bind_some,if_neg (by decide),e1,bind_some,bind_some,mk_eq w v]
theorem Bh{a b:Int}(f:Bool)(ha:0<=a/\a<M)(hb:0<=b/\b<M):aV.run (mk M) (mk a) (mk b) f=some (mk (a*b%M),f,mk (a*b%M),()):=by unfold aV.run aV.top;rw[Nh hM ha hb];rfl
theorem ui{a b:Int}(f:Bool)(ha:0<=a/\a<M)(hb:0<=b/\b<M):cI.run (mk M) (mk a) (mk b) f=some (mk ((a+b)%M),f,mk ((a+b)%M),()):=by unfold cI.run cI.top;rw[Uh hM ha hb];rfl
theorem Mn{a b:Int}(f:Bool)(ha:0<=a/\a<M)(hb:0<=b/\b<M):dH.run (mk M) (mk a) (mk b) f=some (mk ((a-b)%M),f,mk ((a-b)%M),()):=by unfold dH.run dH.top;rw[Rx hM ha hb];rfl
theorem Jo{n:Int}(f:Bool)(hn:0<=n/\n<18446744073709551616):dW.run (mk M) n f=some (mk (n%M),f,mk (n%M),()):=by
 unfold dW.run dW.top;have hne:mk M≠[0,0,0,0]:=(dI M).ne.2 (by rw[jm hM];omega);have hn2:0<=n/\n<aB:=⟨hn.1,Int.lt_of_lt_of_le hn.2 (show(18446744073709551616:Int)<=aB by decide)⟩
 obtain⟨q,r,d1,_,_,d4,d5,_,d7⟩:=jj (dI n).1 (dI n).2 (dI M).1 (dI M).2;rw[if_neg hne,mk_val hn2,jm hM]at d7;rw[OE hn,d1,bind_some,mk_eq (⟨d4,d5⟩:W4 r) d7]
theorem VN{a:Int}(f:Bool)(ha:0<=a/\a<M):∃(x:Int)(ok:Bool)(y:List Int),(0<=x/\x<M)/\gK.run (mk M) (mk a) f=some (mk x,(f|| !ok),mk x,())/\d9.run (mk a) (mk M)=some (y,ok,())/\(ok=true->y=mk x)/\(a=0->ok=false)/\(ok=true->a*x%M=1%M):=by
 have hlt:val ah (mk a)<val ah (mk M):=by rw[zB hM ha,jm hM];exact ha.2
 have he:sL (mk M) [mk a]=0:=by rw[show [mk a]=[a].map mk from rfl,EN hM (fun x hx=>by simp only[mem_cons,not_mem_nil,or_false]at hx;subst hx;exact ha)]
 obtain⟨x,e,e1,e2,e3,e4⟩:=CZ (dI a) (dI M) hlt he;have:=fun N(hN:512<N)=>ti 512 N (mk a) (mk M) hN (dI a) (dI M) hlt (Fg (dI M).bound (dI a).bound);obtain⟨y,ok,f1,f2,f3,f4⟩:=this fuel (by rw[ai];omega);unfold gK.run gK.top;rw[e1,bind_some];by_cases hg:gcd (val ah (mk a)).toNat (val ah (mk M)).toNat=1
 ·obtain⟨rfl,l1,c1⟩:=e3 hg;obtain⟨rfl,l2,c2⟩:=f3 hg;have hxy:=inv_one ⟨e2.bound.1,l1⟩ ⟨f2.bound.1,l2⟩ c1 c2;rw[jm hM]at l1;refine⟨val ah x,true,y,⟨e2.bound.1,l1⟩,?_,f1,fun _=>?_,fun h0=>?_,fun _=>?_⟩
  ·rw[<-o6 e2];cases f<;>rfl
  ·grind[o6]
  ·subst h0;rw[zB hM ha,jm hM]at hg;simp at hg;omega
  ·rw[zB hM ha,jm hM]at c1;exact c1
 ·obtain⟨rfl,rfl⟩:=e4 hg;have:=f4 hg;subst this;refine⟨0,false,y,⟨by omega,by omega⟩,?_,f1,fun h=>absurd h (by decide),fun _=>rfl,fun h=>absurd h (by decide)⟩;rw[mk_zero];cases f<;>rfl
theorem kJ{a b:Int}(ha:0<=a/\a<M)(hb:0<=b/\b<M):aO.run (mk a) (mk b) (mk M)=some (mk (a*b%M)):=by obtain⟨r,e1,w,v⟩:=s9 (dI a) (dI b) (dI M) (by rw[zB hM ha,jm hM];exact ha.2) (by rw[zB hM hb,jm hM];exact hb.2);grind[zB,jm,mk_eq]
theorem mI{a b:Int}(ha:0<=a/\a<M)(hb:0<=b/\b<M):bH.run (mk a) (mk b) (mk M)=some (mk ((a+b)%M)):=by obtain⟨r,e1,w,v⟩:=Ms (dI a) (dI b) (dI M) (by rw[jm hM];omega);grind[zB,jm,mk_eq]
theorem jD{a:Int}(ha:0<=a/\a<M):aZ.run (mk a) (mk M)=some (mk ((-a)%M)):=by obtain⟨r,e1,w,v⟩:=wN (dI a) (dI M) (by rw[zB hM ha,jm hM];exact ha.2);grind[zB,jm,mk_eq]
theorem VG{n:Int}(hn:0<=n/\n<4294967296):gU.run n (mk M)=some (mk (n%M)):=by
 unfold gU.run gU.top;have e1:Int.tmod n 4294967296=n:=by rw[jF hn.1];exact Int.emod_eq_of_lt hn.1 hn.2
 have e2:IntKind.u64.wrap (Int.tdiv n 4294967296)=0:=by rw[ji hn.1,Int.ediv_eq_zero_of_lt hn.1 hn.2];rfl
 rw[e1,e2];obtain⟨r,k1,w,v⟩:=qv (d:=[n,0]) (dz.2 ⟨hn,dz.2 ⟨by decide,iv⟩⟩) (by simp) (dI M) (by rw[jm hM];omega);grind[jm,val,mk_eq]
theorem KU{a:Int}(ha:0<=a/\a<M):az (.arr 4 (.int .u64)) (mk a) [0,0,0,0]=decide (a=0):=by rw[<-mk_zero,Bool.eq_iff_iff,j8 _ _ _ rfl,decide_eq_true_eq];grind[mk_inj]
theorem J8{a:Int}(ha:0<=a/\a<M):aE.run (mk a)=some (decide (a=0)):=by unfold aE.run aE.top;rw[KU hM ha]
theorem VK{a b:Int}(ha:0<=a/\a<M)(hb:0<=b/\b<M):az (.arr 4 (.int .u64)) (mk a) (mk b)=decide (a=b):=by rw[Bool.eq_iff_iff,j8 _ _ _ rfl,decide_eq_true_eq];grind[mk_inj]
end
def sg(x y:Int):Int:=if x<y then-1 else if x>y then 1 else 0
theorem Co{a b:Int}(ha:0<=a/\a<aB)(hb:0<=b/\b<aB):cQ.run (mk a) (mk b)=some (sg a b):=by unfold sg;rw[nL (dI a).1 (dI b).1 (dI a).2 (dI b).2,mk_val ha,mk_val hb]
theorem pQ{a b:Int}(ha:0<=a/\a<aB)(hb:0<=b/\b<aB):aH.run (mk a) (mk b)=some (sg a b):=by unfold sg;rw[DL (dI a) (dI b),mk_val ha,mk_val hb]
end Go.Bx.Rg
namespace Go.Bx
open Go
section
variable {x m:List Int}{A M:Int}
theorem QL(N:Int)(e:Nat)(hN:0<=N)(A:Int):A^(N%((2^(e+1):Nat):Int)).toNat=A^(N%((2^e:Nat):Int)).toNat*(if N/((2^e:Nat):Int)%2=1 then A^(2^e)else 1):=by
 have hpos:0<((2^e:Nat):Int):=by have:=Nat.two_pow_pos e;omega
 have e2:((2^(e+1):Nat):Int)=((2^e:Nat):Int)*2:=by rw[Nat.pow_succ];simp
 have key:N%((2^(e+1):Nat):Int)=N%((2^e:Nat):Int)+((2^e:Nat):Int)*(N/((2^e:Nat):Int)%2):=by grind[Int.ediv_ediv_of_nonneg,Int.mul_ediv_add_emod]
 have hr0:=Int.emod_nonneg N (show((2^e:Nat):Int)≠0 by omega);rw[key];by_cases hb:N/((2^e:Nat):Int)%2=1
 ·rw[if_pos hb,hb,mul_one];grind[Int.toNat_add]
 grind
theorem s8{α:Type}(k:Nat)(Xt:List Int->Int->List Int->List Int->List Int->List Int->Option α)(hx:W4 x)(hm:W4 m)(hM:0<val ah m)(z:List Int)(j:Nat)(hj:j<4):
  ∀(n i:Nat)(c o:List Int),64-i<n->i<=64->W4 c->W4 o->val ah c=A^(2^(64*j+i))%val ah m->val ah o=A^(val ah x%((2^(64*j+i):Nat):Int)).toNat%val ah m->
  ∃c' o',bB.l1 k Xt n (x.getD j 0) (i:Int) x (j:Int) c m z o=Xt x (j:Int) c' m z o'/\W4 c'/\W4 o'/\val ah c'=A^(2^(64*j+64))%val ah m/\val ah o'=A^(val ah x%((2^(64*j+64):Nat):Int)).toNat%val ah m
 |0,i,c,o,h,_,_,_,_,_=>by omega
 |n+1,i,c,o,h,hi,hc,ho,vc,vo=>by
  simp only[bB.l1,bB.ly];by_cases hlt:i<64
  ·rw[if_pos (dT (by omega)),if_pos (by omega)];obtain⟨X,hX,hX2⟩:=jS (di dO hx.2 j);have hbit:=EB hx.2 (w:=j) (k:=i) (by omega) hX;have hs:X>>>i<18446744073709551616:=Nat.lt_of_le_of_lt (Nat.shiftRight_le _ _) hX2;have hband:cS .u64 (fS .u64 (x.getD j 0) (i:Int)) 1=val ah x/((2^(64*j+i):Nat):Int)%2:=by
    grind[oa,jZ]
   rw[hband];have hcl:val ah c<val ah m:=by rw[vc];exact emod_lt_of_pos _ hM
   have hol:val ah o<val ah m:=by rw[vo];exact emod_lt_of_pos _ hM
   obtain⟨c2,q1,q2,q3⟩:=s9 hc hc hm hcl hcl;have vc2:val ah c2=A^(2^(64*j+(i+1)))%val ah m:=by rw[q3,vc,<-mul_emod,<-Int.pow_add,<-Nat.add_assoc,Nat.pow_succ,Nat.mul_two]
   unfold bB.j0;have hl:=QL (val ah x) (64*j+i) hx.bound.1 A;by_cases hb:val ah x/((2^(64*j+i):Nat):Int)%2=1
   ·rw[if_pos (by simpa using hb)];rw[if_pos hb]at hl;obtain⟨o2,p1,p2,p3⟩:=s9 ho hc hm hol hcl;rw[p1,bind_some,q1,bind_some,ax (by omega)];exact s8 k Xt hx hm hM z j hj n (i+1) c2 o2 (by omega) (by omega) q2 p2 vc2 (by
     rw[<-Nat.add_assoc,hl,p3,vo,vc,<-mul_emod])
   ·rw[if_neg (by simpa using hb)];rw[if_neg hb,mul_one]at hl;rw[q1,bind_some,ax (by omega)];exact s8 k Xt hx hm hM z j hj n (i+1) c2 o (by omega) (by omega) q2 ho vc2 (by
     rw[<-Nat.add_assoc,hl,vo])
  grind
theorem zd{α:Type}(k:Nat)(hk:64<k)(Xt:List Int->List Int->Option α)(hx:W4 x)(hm:W4 m)(hM:0<val ah m)(z:List Int):
  ∀(n j:Nat)(c o:List Int),4-j<n->j<=4->W4 c->W4 o->val ah c=A^(2^(64*j))%val ah m->val ah o=A^(val ah x%((2^(64*j):Nat):Int)).toNat%val ah m->
  ∃o',bB.l0 k Xt n x (j:Int) c m z o=Xt z o'/\W4 o'/\val ah o'=A^(val ah x).toNat%val ah m
 |0,j,c,o,h,_,_,_,_,_=>by omega
 |n+1,j,c,o,h,hj,hc,ho,vc,vo=>by
  simp only[bB.l0,bB.aR];by_cases hlt:j<4
  ·rw[if_pos (dT (by omega)),if_pos (by omega),ae];obtain⟨c',o',e1,e2,e3,e4,e5⟩:=s8 (A:=A) k (fun(x14:List Int)(x15:Int)(c3:List Int)(c5:List Int)(c6:List Int)(c7:List Int)=>bB.j1 (bB.l0 k Xt n) x14 x15 c3 c5 c6 c7) hx hm hM z j hlt k 0 c o (by omega) (by omega) hc ho vc vo;have e0:((0:Nat):Int)=0:=rfl;rw[e0]at e1;rw[e1];unfold bB.j1;rw[ax (by omega)];have h64:64*j+64=64*(j+1):=by omega
   rw[h64]at e4 e5;exact zd k hk Xt hx hm hM z n (j+1) c' o' (by omega) (by omega) e2 e3 e4 e5
  ·have:j=4:=by omega
   subst this;rw[if_neg (by simp)];refine⟨o,rfl,ho,?_⟩;rw[vo];have hb:=dA dO hx.2;rw[hx.1,Hm]at hb;grind
theorem L9{a:List Int}(ha:W4 a)(hx:W4 x)(hm:W4 m)(h1:val ah a<val ah m):∃r,bB.run a x m=some r/\W4 r/\val ah r=val ah a^(val ah x).toNat%val ah m:=by
 have ba:=ha.bound;have hM:0<val ah m:=by omega
 obtain⟨o,o1,o2,o3⟩:=qv (d:=[1]) (F4 (by omega)) (by simp) hm hM;have v1:val bY [1]=1:=rfl;rw[v1]at o3;unfold bB.run bB.top;rw[o1,bind_some];have:=fun N(hN:64<N)=>zd (A:=val ah a) N hN (fun(c6:List Int)(c7:List Int)=>bB.j2 (fun(c6:List Int)=>some c6) c6 c7) hx hm hM [0,0,0,0] N 0 a o (by omega) (by omega) ha o2 (by
  rw[Nat.mul_zero,Nat.pow_zero,Int.pow_succ,Int.pow_zero,Int.one_mul,Int.emod_eq_of_lt ba.1 h1]) (by
  rw[o3,Nat.mul_zero,Nat.pow_zero];simp)
 obtain⟨r,r1,r2,r3⟩:=this fuel (by rw[ai];omega);exact⟨r,r1,r2,r3⟩
end
end Go.Bx
namespace Go.Bx.Rg
open Go Go.Bx
section
variable {M:Int}(hM:1<M/\M<aB)
include hM
theorem Jb{a x:Int}(ha:0<=a/\a<M)(hx:0<=x/\x<aB):bB.run (mk a) (mk x) (mk M)=some (mk (a^x.toNat%M)):=by obtain⟨r,e1,w,v⟩:=L9 (dI a) (dI x) (dI M) (by rw[zB hM ha,jm hM];exact ha.2);grind[mk_val,mk_eq]
end
abbrev jW:Type:=List Int×List Int×Bool×Unit
abbrev TI:Type:=List Int×List Int×List Int×List Int×jW×Unit
theorem mulL(P a b:Int):(a%P)*b%P=a*b%P:=by rw[mul_emod,emod_emod,<-mul_emod]
theorem mulR(P a b:Int):a*(b%P)%P=a*b%P:=by rw[mul_emod,emod_emod,<-mul_emod]
theorem R8(P a b:Int):(a%P+b)%P=(a+b)%P:=Int.emod_add_emod _ _ _
theorem mS(P a b:Int):(a+b%P)%P=(a+b)%P:=Int.add_emod_emod _ _ _
theorem U7(P a b:Int):(a%P-b)%P=(a-b)%P:=by rw[sub_emod,emod_emod,<-sub_emod]
theorem Ts(P a b:Int):(a-b%P)%P=(a-b)%P:=by rw[sub_emod,emod_emod,<-sub_emod]
theorem UR(P a:Int):(-(a%P))%P=(-a)%P:=by have:=Ts P 0 a;grind
theorem KW{a:Int}(ha:0<=a/\a<aB):az (.arr 4 (.int .u64)) (mk a) [0,0,0,0]=decide (a=0):=by rw[<-mk_zero,Bool.eq_iff_iff,j8 _ _ _ rfl,decide_eq_true_eq];grind[mk_inj]
theorem xS(x y:Int):decide (sg x y<0)=decide (x<y):=by unfold sg;grind
theorem EW(x y:Int):decide (sg x y>0)=decide (x>y):=by unfold sg;grind
theorem Bd(x y:Int):decide (sg x y<=0)= !decide (x>y):=by unfold sg;grind
theorem zx(x y:Int):decide (sg x y>=0)= !decide (x<y):=Nj x y
def pl(P A B x y:Int)(f:Bool):Bool:=
 if f=true then decide (x=0)&&decide (y=0)else decide (x<P)&&decide (y<P)&&decide (y*y%P=(x*(x*x)+A*x+B)%P)
section
variable {P A B:Int}(hP:1<P/\P<aB)(hA:0<=A/\A<P)(hB:0<=B/\B<P)(Nw:List Int)(bs:jW)
include hP hA hB
theorem RR{x:Int}(f:Bool)(hx:0<=x/\x<P):iI.run (mk P,mk A,mk B,Nw,bs,()) (mk P) (mk x) f=some (mk ((x*(x*x)+A*x+B)%P),f,mk ((x*(x*x)+A*x+B)%P),()):=by simp_all[Bh,ui,mulR,iI.run,iI.top,yQ]
theorem O8{x:Int}(hx:0<=x/\x<P):fZ.run (mk P,mk A,mk B,Nw,bs,()) (mk x)=some (mk ((x*(x*x)+A*x+B)%P)):=by unfold fZ.run fZ.top;have m:=yQ hP;rw[kJ hP hx hx,bind_some];simp only[];rw[mI hP (m _) hA,bind_some,kJ hP hx (m _),bind_some,mI hP (m _) hB,bind_some];grind[mulR,mS]
theorem kZ{x y:Int}(f:Bool)(hx:0<=x/\x<aB)(hy:0<=y/\y<aB):
  lB.run (mk P,mk A,mk B,Nw,bs,()) (mk x,mk y,f,())=some (pl P A B x y f)/\ft.run (mk P,mk A,mk B,Nw,bs,()) (mk x,mk y,f,())=some (pl P A B x y f):=by
 have hPw:0<=P/\P<aB:=⟨by omega,hP.2⟩
 have m:=yQ hP;unfold lB.run lB.top ft.run ft.top pl aE.run aE.top;cases f with
 |true=>
  simp only[if_true,KW hx,KW hy,bind_some,ck]
  first|exact⟨rfl,by cases decide (x=0)<;>rfl⟩|(cases decide (x=0)<;>simp)
 |false=>
  simp only[false_eq_true,if_false,Co hx hPw,pQ hx hPw,Co hy hPw,pQ hy hPw,bind_some,zx,xS,ck,bS];by_cases h1:x<P
  ·by_cases h2:y<P
   ·have q1:(0<=x/\x<P):=⟨hx.1,h1⟩
    have q2:(0<=y/\y<P):=⟨hy.1,h2⟩
    unfold cC.run cC.top;simp only[h1,h2,decide_true,Bool.not_true,BEq.rfl,if_true,bind_some,zx,xS,Bool.or_self,false_eq_true,if_false,Bh hP false q2 q2,RR hP hA hB Nw bs false q1,kJ hP q2 q2,O8 hP hA hB Nw bs q1,VK hP (m _) (m _),Bool.and_self,Bool.true_and];exact⟨trivial,trivial⟩
   ·simp only[h1,h2,decide_true,decide_false,Bool.not_true,Bool.not_false,Bool.and_true,Bool.true_and,Bool.and_false,Bool.false_and,Bool.or_true,Bool.true_or,Bool.or_false,Bool.false_or,BEq.rfl,if_true,if_false,false_eq_true,bind_some,Bd,zx,xS,EW,show(true==false)=false from rfl,show(false==true)=false from rfl,and_self]
  ·simp only[h1,decide_true,decide_false,Bool.not_true,Bool.not_false,Bool.and_true,Bool.true_and,Bool.and_false,Bool.false_and,Bool.or_true,Bool.true_or,Bool.or_false,Bool.false_or,BEq.rfl,if_true,if_false,false_eq_true,bind_some,Bd,zx,xS,EW,show(true==false)=false from rfl,show(false==true)=false from rfl,and_self]
end
theorem Ud{n:Int}(h:0<=n/\n<18446744073709551616):cS .u64 n 3=n%4:=by
 obtain⟨X,rfl⟩:=Int.eq_ofNat_of_zero_le h.1;have hX:X<18446744073709551616:=by omega
 have:=jZ (X:=X) (Y:=3) hX (by decide);rw[show((3:Nat):Int)=3 from rfl]at this;rw[this,show(3:Nat)=2^2-1 from rfl,Nat.and_two_pow_sub_one_eq_mod]
 push_cast;rfl
def Gp(P A B N:Int):Bool:=decide (P>3)&&decide (P%4=3)&&decide (A<P)&&decide (B<P)&&decide (N>1)
def M7(P A B:Int):Bool:=decide ((4*(A*(A*A))+27*(B*B))%P=0)
def mq(P A B N x y:Int)(f:Bool):Int:=if Gp P A B N=true then(if(M7 P A B||f|| !pl P A B x y f)=true then 16 else 0)else 16
theorem lK{P A B N x y:Int}(f:Bool)(hP:0<=P/\P<aB)(hA:0<=A/\A<aB)(hB:0<=B/\B<aB)(hN:0<=N/\N<aB)(hx:0<=x/\x<aB)(hy:0<=y/\y<aB):
  eV.run (mk P,mk A,mk B,mk N,(mk x,mk y,f,()),())=some (mq P A B N x y f)/\bz.run (mk P,mk A,mk B,mk N,(mk x,mk y,f,()),())=some (mq P A B N x y f):=by
 have e3:([3,0,0,0]:List Int)=mk 3:=by decide
 have e2:([2,0,0,0]:List Int)=mk 2:=by decide
 have e1:([1,0,0,0]:List Int)=mk 1:=by decide
 have w3:(0:Int)<=3/\3<aB:=by decide
 have w2:(0:Int)<=2/\2<aB:=by decide
 have w1:(0:Int)<=1/\1<aB:=by decide
 have g0:(mk P).getD 0 0=P%18446744073709551616:=rfl;have r0:0<=P%18446744073709551616/\P%18446744073709551616<18446744073709551616:=⟨Int.emod_nonneg _ (by decide),emod_lt_of_pos _ (by decide)⟩
 have t0:(Int.tmod ((mk P).getD 0 0) 4 !=3)= !decide (P%4=3):=by grind
 have b0:(cS .u64 ((mk P).getD 0 0) 3==3)=decide (P%4=3):=by rw[g0,Ud r0,Bool.eq_iff_iff,beq_iff_eq,decide_eq_true_eq];omega
 unfold eV.run eV.top bz.run bz.top mq Gp;simp only[e3,e2,e1,Co hP w3,pQ hP w3,Co hA hP,pQ hA hP,Co hB hP,pQ hB hP,Co hN w1,pQ hN w1,bind_some,t0,b0,ck,bS,zx,xS,EW,Bd];by_cases h1:P>3
 ·by_cases h2:P%4=3
  ·by_cases h3:A<P
   ·by_cases h4:B<P
    ·by_cases h5:N>1
     ·have hM:1<P/\P<aB:=⟨by omega,hP.2⟩
      have qA:0<=A/\A<P:=⟨hA.1,h3⟩
      have qB:0<=B/\B<P:=⟨hB.1,h4⟩
      have m:=yQ hM;obtain⟨o1,o2⟩:=kZ hM qA qB (mk N) (mk x,mk y,f,()) f hx hy;have pw3:=Jb hM qA w3;have pw2:=Jb hM qB w2;have hd1:(4%P*(A*(A*A%P)%P)%P+27%P*(B*B%P)%P)%P=(4*(A*(A*A))+27*(B*B))%P:=by simp only[mulL,mulR,R8,mS]
      have hd2:(4%P*(A^(3:Int).toNat%P)%P+27%P*(B^(2:Int).toNat%P)%P)%P=(4*(A*(A*A))+27*(B*B))%P:=by simp only[mulL,mulR,R8,mS];grind
      unfold cC.run cC.top;simp only[h1,h2,h3,h4,h5,decide_true,Bool.not_true,Bool.or_self,BEq.rfl,if_true,bind_some,zx,xS,Bd,EW,Bool.and_self,false_eq_true,if_false,
       Jo hM _ (show(0:Int)<=4/\(4:Int)<18446744073709551616 by decide),Jo hM _ (show(0:Int)<=27/\(27:Int)<18446744073709551616 by decide),Bh hM _ qA qA,Bh hM _ qB qB,Bh hM _ qA (m _),Bh hM _ (m _) (m _),ui hM _ (m _) (m _),
       VG hM (show(0:Int)<=4/\(4:Int)<4294967296 by decide),VG hM (show(0:Int)<=27/\(27:Int)<4294967296 by decide),pw3,pw2,kJ hM (m _) (m _),mI hM (m _) (m _),KU hM (m _),J8 hM (m _),hd1,hd2,o1,o2]
      rw[show decide ((4*(A*(A*A))+27*(B*B))%P=0)=M7 P A B from rfl];cases M7 P A B<;>cases f<;>cases pl P A B x y false<;>cases pl P A B x y true<;>exact⟨rfl,rfl⟩
     ·simp only[h1,h2,h3,h4,h5,decide_true,decide_false,Bool.not_true,Bool.not_false,Bool.and_true,Bool.true_and,Bool.and_false,Bool.false_and,Bool.or_true,Bool.true_or,Bool.or_false,Bool.false_or,BEq.rfl,if_true,if_false,false_eq_true,bind_some,Bd,zx,xS,EW,show(true==false)=false from rfl,show(false==true)=false from rfl,and_self]
    ·simp only[h1,h2,h3,h4,decide_true,decide_false,Bool.not_true,Bool.not_false,Bool.and_true,Bool.true_and,Bool.and_false,Bool.false_and,Bool.or_true,Bool.true_or,Bool.or_false,Bool.false_or,BEq.rfl,if_true,if_false,false_eq_true,bind_some,Bd,zx,xS,EW,show(true==false)=false from rfl,show(false==true)=false from rfl,and_self]
   ·simp only[h1,h2,h3,decide_true,decide_false,Bool.not_true,Bool.not_false,Bool.and_true,Bool.true_and,Bool.and_false,Bool.false_and,Bool.or_true,Bool.true_or,Bool.or_false,Bool.false_or,BEq.rfl,if_true,if_false,false_eq_true,bind_some,Bd,zx,xS,EW,show(true==false)=false from rfl,show(false==true)=false from rfl,and_self]
  ·simp only[h1,h2,decide_true,decide_false,Bool.not_true,Bool.not_false,Bool.and_true,Bool.true_and,Bool.and_false,Bool.false_and,Bool.or_true,Bool.true_or,Bool.or_false,Bool.false_or,BEq.rfl,if_true,if_false,false_eq_true,bind_some,Bd,zx,xS,EW,show(true==false)=false from rfl,show(false==true)=false from rfl,and_self]
 ·simp only[h1,decide_true,decide_false,Bool.not_true,Bool.not_false,Bool.and_true,Bool.true_and,Bool.and_false,Bool.false_and,Bool.or_true,Bool.true_or,Bool.or_false,Bool.false_or,BEq.rfl,if_true,if_false,false_eq_true,bind_some,Bd,zx,xS,EW,show(true==false)=false from rfl,show(false==true)=false from rfl,and_self]
theorem qg{P A B N x y:Int}{f:Bool}(h:mq P A B N x y f=0):3<P/\P%4=3/\A<P/\B<P:=by
 unfold mq at h;by_cases g:Gp P A B N=true
 ·simp_all[Gp]
 grind
theorem tU(P A B N x y:Int)(f:Bool):mq P A B N x y f=0\/mq P A B N x y f=16:=by grind[mq]
end Go.Bx.Rg
namespace Go.Bx.Ch
def Ij(A B x:Int):Int:=x*(x*x)+A*x+B
def PI(A x1 y1 x2 l:Int):Int:=A-2*l*y1+2*l*l*x1+x1*x1+x1*x2+x2*x2-l*l*(x1+x2)
theorem Ub(x1 y1 x2 l A B:Int):PI A x1 y1 x2 l*(x2-x1)=(Ij A B x2-(y1+l*(x2-x1))*(y1+l*(x2-x1)))-(Ij A B x1-y1*y1):=by unfold PI Ij;grind
theorem U8(x1 y1 x2 l A B:Int):Ij A B (l*l-x1-x2)-(l*(x1-(l*l-x1-x2))-y1)*(l*(x1-(l*l-x1-x2))-y1)=PI A x1 y1 x2 l*((l*l-x1-x2)-x1)+(Ij A B x1-y1*y1):=by unfold PI Ij;grind
theorem r1(u d P x1 x2 y:Int):(y*u+P*d)*(x2-x1)=y*((x2-x1)*u)+P*(d*(x2-x1)):=by grind
theorem r2(y P c e:Int):y*(1+P*c)+P*e=y+P*(e+y*c):=by grind
theorem r3(y1 y2 P k s t a b:Int)(hs:s=y2*y2+P*b)(ht:t=y1*y1+P*a):(s-(y1+(y2-y1+P*k))*(y1+(y2-y1+P*k)))-(t-y1*y1)=P*(b-a-k*(2*y2+P*k)):=by rw[hs,ht];grind
theorem r4(m D u P c w:Int)(h1:D*u=1+P*c)(h2:m*D=P*w):m=P*(w*u-m*c):=by grind
theorem Sa{P A B x1 y1 x2 y2 l u:Int}(h1:P∣Ij A B x1-y1*y1)(h2:P∣Ij A B x2-y2*y2)(hu:P∣(x2-x1)*u-1)(hl:P∣l-(y2-y1)*u):P∣PI A x1 y1 x2 l:=by
 obtain⟨a,ha⟩:=h1;obtain⟨b,hb⟩:=h2;obtain⟨c,hc⟩:=hu;obtain⟨d,hd⟩:=hl;have e0:=Ub x1 y1 x2 l A B;have el:l=(y2-y1)*u+P*d:=by omega
 have ec:(x2-x1)*u=1+P*c:=by omega
 have e1:l*(x2-x1)=(y2-y1)+P*(d*(x2-x1)+(y2-y1)*c):=by simp_all[r2,r1]
 rw[e1,r3 y1 y2 P _ _ _ a b (by omega) (by omega)]at e0;exact⟨_,r4 _ _ _ _ _ _ ec e0⟩
theorem r5(A x1 y1 l:Int):PI A x1 y1 x1 l=A+3*(x1*x1)-l*(y1+y1):=by unfold PI;grind
theorem r6(s u d P y:Int):(s*u+P*d)*y=s*(y*u)+P*(d*y):=by grind
theorem r7(s P e:Int):s-(s+P*e)=P*(-e):=by grind
theorem PW{P A x1 y1 l u:Int}(hu:P∣(y1+y1)*u-1)(hl:P∣l-(3*(x1*x1)+A)*u):P∣PI A x1 y1 x1 l:=by
 obtain⟨c,hc⟩:=hu;obtain⟨d,hd⟩:=hl;have el:l=(3*(x1*x1)+A)*u+P*d:=by omega
 have ec:(y1+y1)*u=1+P*c:=by omega
 have:=r6 (3*(x1*x1)+A) u d P (y1+y1);rw[<-el,ec,r2]at this;simp_all[r5,Int.add_comm,r7]
theorem r8(A B Z P c:Int):Ij A B (Z+P*c)=Ij A B Z+P*(c*((Z+P*c)*(Z+P*c)+(Z+P*c)*Z+Z*Z)+A*c):=by unfold Ij;grind
theorem r9(l x1 Z P c y1 d:Int):l*(x1-(Z+P*c))-y1+P*d=(l*(x1-Z)-y1)+P*(d-l*c):=by grind
theorem Xm(W P e:Int):(W+P*e)*(W+P*e)=W*W+P*(e*(W+P*e+W)):=by grind
theorem Xn(s t P e f g:Int)(h:s-t=P*g):s+P*e-(t+P*f)=P*(g+e-f):=by grind
theorem Xo(P b z a:Int):P*b*z+P*a=P*(b*z+a):=by grind
theorem Tt{P A B x1 y1 x2 l X Y:Int}(h1:P∣Ij A B x1-y1*y1)(ha:P∣PI A x1 y1 x2 l)(hX:P∣X-(l*l-x1-x2))(hY:P∣Y-(l*(x1-X)-y1)):P∣Ij A B X-Y*Y:=by
 obtain⟨a,ha'⟩:=h1;obtain⟨b,hb⟩:=ha;obtain⟨c,hc⟩:=hX;obtain⟨d,hd⟩:=hY;have e0:=U8 x1 y1 x2 l A B;rw[hb,ha',Xo]at e0;generalize l*l-x1-x2=Z at*;have eX:X=Z+P*c:=by omega
 have eY:Y=(l*(x1-X)-y1)+P*d:=by omega
 rw[eX,r9]at eY;rw[eX,eY,Xm (l*(x1-Z)-y1) P (d-l*c),r8];exact⟨_,Xn _ _ _ _ _ _ e0⟩
end Go.Bx.Ch
