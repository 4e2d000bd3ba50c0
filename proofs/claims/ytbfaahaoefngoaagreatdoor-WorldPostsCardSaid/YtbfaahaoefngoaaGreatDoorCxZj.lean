/- A part of a framework that reads Go code as functions of plain data; or a law about such functions. -/
import Derived.Test.YtbfaahaoefngoaaGreatDoorCxZi
namespace Go.Bx
open Go Go.RowKit Go.Proofs
set_option linter.unusedVariables false
set_option linter.unusedSimpArgs false
def pn:List Int->List Int->Int
 |[],[]=>0
 |[],_::_=>-1
 |_::_,[]=>1
 |a::x,b::y=>if a<b then-1 else if b<a then 1 else pn x y
abbrev BB:Ty:=.pair (.sl (.int .u8)) (.pair (.sl (.int .u8)) .unit)
def M1:Fn:=⟨BB,.int .i64,false,fun x=>some (pn x.1 x.2.1)⟩
theorem uN{P:Program}(w:World):∀(l:List Int)(a:Addr)(acc:ByteArray),a.spot=none->(∀j v,(l.map (Value.int .u8))[j]? =some v->w.cell? ⟨a.block,a.off+j,none⟩=some v)->
  (Extern.Bytes.loadBytes a l.length acc).run P w= .ok (l.foldl (fun r n=>r.push (UInt8.ofNat n.toNat)) acc) w
 |[],a,acc,_,_=>by simp[Extern.Bytes.loadBytes]
 |n::l,a,acc,ha,h=>by
  have h0:=h 0 (.int .u8 n) (by simp);have ea:(⟨a.block,a.off+0,none⟩:Addr)=a:=by obtain⟨b,o,s⟩:=a;simp at ha;subst ha;rfl
  rw[ea]at h0;have ih:=uN (P:=P) w l (a.add 1) (acc.push (UInt8.ofNat n.toNat)) (by rw[add_plain a 1 ha]) (fun j v hj=>by
   rw[add_plain a 1 ha];have:=h (j+1) v (by simpa using hj);show w.cell? ⟨a.block,a.off+1+j,none⟩=_;rw[Nat.add_assoc,Nat.add_comm 1 j];exact this)
  simp only[List.length_cons,Extern.Bytes.loadBytes,List.foldl_cons,Sem.run_bind,run_load,h0,Result.andThen_ok];exact ih
theorem uM{P:Program}{E:Env}{l:List Int}{v:Value}(h:an E (.sl (.int .u8)) l [v]):∃s:ByteArray,(Extern.Bytes.bytesOf v).run P E.w= .ok s E.w/\bytesOf s=l:=by
 rcases h with ⟨rfl,h⟩|⟨a,cap,css,h,hs,hl,hcap,ha,him,hc⟩
 ·cases h;exact⟨.empty,by simp[Extern.Bytes.bytesOf],rfl⟩
 ·cases h;obtain⟨b1,b2⟩:=sD l css ha;rcases hs with hs|rfl
  ·refine⟨l.foldl (fun r n=>r.push (UInt8.ofNat n.toNat)) ByteArray.empty,?_,?_⟩
   ·simp only[Extern.Bytes.bytesOf];exact uN E.w l a .empty hs (fun j v hj=>by rw[<-b1]at hj;exact hc j v hj)
   ·rw[foldl_push l _ b2];rfl
  ·exact⟨.empty,by simp[Extern.Bytes.bytesOf,Extern.Bytes.loadBytes],rfl⟩
theorem M0(A B:ByteArray):∀(x y:List UInt8)(k:Nat),(∀i,A[k+i]! =x.getD i 0)->(∀i,B[k+i]! =y.getD i 0)->
  (match(List.range' k (min x.length y.length)).find? fun i=>A[i]! !=B[i]! with
   |some i=>if A[i]! <B[i]! then(-1:Int)else 1
   |none=>if x.length<y.length then-1 else if x.length>y.length then 1 else 0)=pn (x.map fun b=>(b.toNat:Int)) (y.map fun b=>(b.toNat:Int))
 |[],[],k,_,_=>by simp[pn]
 |[],b::y,k,_,_=>by simp[pn]
 |a::x,[],k,_,_=>by simp[pn]
 |a::x,b::y,k,hx,hy=>by
  have h0:=hx 0;have g0:=hy 0;simp at h0 g0;have ih:=M0 A B x y (k+1) (fun i=>by have:=hx (i+1);rw[show k+1+i=k+(i+1) by omega];simpa using this) (fun i=>by have:=hy (i+1);rw[show k+1+i=k+(i+1) by omega];simpa using this);have hm:min (a::x).length (b::y).length=min x.length y.length+1:=by simp
  rw[hm,List.range'_succ];simp only[List.find?_cons,h0,g0,List.map_cons,pn,List.length_cons];by_cases hab:a=b
  ·grind
  ·have hne:(a !=b)=true:=by simpa using hab
   simp only[hne,h0,g0];have hnat:a.toNat≠b.toNat:=fun e=>hab (UInt8.toNat_inj.1 e);by_cases hlt:a<b
   ·have:a.toNat<b.toNat:=hlt;grind
   ·have:¬a.toNat<b.toNat:=hlt;grind
theorem Gl(A:ByteArray)(i:Nat):A[i]! =A.data.toList.getD i 0:=by
 by_cases h:i<A.size
 ·have h2:i<A.data.toList.length:=by simpa using h
  rw[getElem!_pos A i h];simp only[List.getD,List.getElem?_eq_getElem h2,Option.getD_some];rfl
 ·have h2:A.data.toList.length<=i:=by simpa using h
  rw[getElem!_neg A i h];simp only[List.getD,List.getElem?_eq_none h2,Option.getD_none];rfl
theorem Lb(A B:ByteArray):Extern.BytealgCompare.cmp A B=pn (bytesOf A) (bytesOf B):=by have h:=M0 A B A.data.toList B.data.toList 0 (fun i=>by rw[Nat.zero_add,Gl]) (fun i=>by rw[Nat.zero_add,Gl]);unfold Extern.BytealgCompare.cmp bytesOf;rw[<-h,List.range_eq_range'];rfl
theorem JU:∀(x y:List Int),pn x y=-1\/pn x y=0\/pn x y=1
 |[],[]=>by simp[pn]
 |[],_::_=>by simp[pn]
 |_::_,[]=>by simp[pn]
 |a::x,b::y=>by
  simp only[pn];split
  ·simp
  ·split
   ·simp
   ·exact JU x y
theorem F8{P:Program}{f:FuncId}{fn:Func}(hf:P.funcs[f]? =some fn) (hname:(fn.name== "runtime.NumGoroutine")=false) (hb:fn.body.isNone=true) (hn:Extern.findNext fn=none) (he:Extern.find fn=some Extern.BytealgCompare.compare):vO P f M1:=by
 intro w I x r args hr ha;obtain⟨v1,r1,e1,h1,v2,r2,e2,h2,e3⟩:=ha;subst e3;subst e2;have ea:args= #[v1,v2]:=by apply Array.ext';exact e1
 subst ea;obtain⟨s1,k1,q1⟩:=uM (P:=P) (E:=⟨w,I⟩) (h1.one rfl);obtain⟨s2,k2,q2⟩:=uM (P:=P) (E:=⟨w,I⟩) (h2.one rfl);have hr':some (pn x.1 x.2.1)=some r:=hr;cases hr';refine⟨goInt (Extern.BytealgCompare.cmp s1 s2),?_,?_⟩
 ·rw[run_callFunc_extern hf hname hb hn he];have e:Extern.BytealgCompare.compare #[v1,v2]=(do pure (goInt (Extern.BytealgCompare.cmp (<-Extern.Bytes.bytesOf v1) (<-Extern.Bytes.bytesOf v2)))):=rfl;simp_all
 ·rw[Lb,q1,q2];refine i5.gu (E:=⟨w,I⟩) (t:=.int .i64) ⟨rfl,?_⟩ rfl;rcases JU x.1 x.2.1 with h|h|h<;>rw[h]<;>decide
end Go.Bx
