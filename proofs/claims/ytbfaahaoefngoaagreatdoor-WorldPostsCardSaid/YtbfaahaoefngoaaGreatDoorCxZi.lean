/- A part of a framework that reads Go code as functions of plain data; or a law about such functions. -/
import Derived.Test.YtbfaahaoefngoaaGreatDoorCxZh
import Derived.Laws.Externs
import Derived.Shelf.Spec.BitsCarry
namespace Go.Bx
open Go Go.RowKit Go.Proofs
set_option linter.unusedVariables false
abbrev U3:Ty:=.pair (.int .u64) (.pair (.int .u64) (.pair (.int .u64) .unit))
abbrev U2:Ty:=.pair (.int .u64) (.pair (.int .u64) .unit)
def JJ(x y c:Int):Option (Int×Int×Unit):=
 if c=0\/c=1 then some ((x+y+c)%18446744073709551616,(x+y+c)/18446744073709551616,())else none
def KM(x y b:Int):Option (Int×Int×Unit):=
 if b=0\/b=1 then some ((x-y-b)%18446744073709551616,(if x<y+b then 1 else 0),())else none
def R7:Fn:=⟨U3,U2,true,fun x=>JJ x.1 x.2.1 x.2.2.1⟩
def Tq:Fn:=⟨U3,U2,true,fun x=>KM x.1 x.2.1 x.2.2.1⟩
theorem KP{E:Env}{x:U3.den}{args:Array Value}(h:iC E U3 x args.toList):
  args= #[.int .u64 x.1,.int .u64 x.2.1,.int .u64 x.2.2.1]/\pq .u64 x.1=true/\pq .u64 x.2.1=true/\pq .u64 x.2.2.1=true:=by
 obtain⟨v1,r1,e1,h1,v2,r2,e2,h2,v3,r3,e3,h3,e4⟩:=h;obtain⟨a1,i1⟩:=h1.one rfl;obtain⟨a2,i2⟩:=h2.one rfl;obtain⟨a3,i3⟩:=h3.one rfl;simp at a1 a2 a3;subst a1;subst a2;subst a3;subst e4;subst e3;subst e2;exact⟨by apply Array.ext';exact e1,i1,i2,i3⟩
theorem Pr{E:Env}{r:U2.den}(h1:pq .u64 r.1=true)(h2:pq .u64 r.2.1=true):∃vs:Array Value,(Value.tuple #[.int .u64 r.1,.int .u64 r.2.1])= .tuple vs/\iC E U2 r vs.toList:=
 ⟨_,rfl,_,_,rfl,i5.gu ⟨rfl,h1⟩ rfl,_,_,rfl,i5.gu ⟨rfl,h2⟩ rfl,rfl⟩
theorem MO{x y c:Int}(hx:0<=x/\x<=18446744073709551615)(hy:0<=y/\y<=18446744073709551615)(hc:c=0\/c=1):
  pq .u64 ((x+y+c)%18446744073709551616)=true/\pq .u64 ((x+y+c)/18446744073709551616)=true:=by
 rw[n6,n6];omega
theorem Pn{x y c:Int}(hx:0<=x/\x<=18446744073709551615)(hy:0<=y/\y<=18446744073709551615)(hc:c=0\/c=1):
  pq .u64 ((x-y-c)%18446744073709551616)=true/\pq .u64 (if x<y+c then 1 else 0)=true:=by
 rw[n6,n6];split<;>omega
theorem Li{P:Program}{f:FuncId}{fn:Func}(hf:P.funcs[f]? =some fn) (hname:(fn.name== "runtime.NumGoroutine")=false) (hb:fn.body.isNone=true) (hn:Extern.findNext fn=none) (he:Extern.find fn=some add64Entry):vO P f R7:=by
 intro w I x r args hr ha;obtain⟨rfl,i1,i2,i3⟩:=KP ha;rw[n6]at i1 i2 i3;have hr':JJ x.1 x.2.1 x.2.2.1=some r:=hr;unfold JJ at hr';split at hr'
 ·rename_i hc;cases hr';have hin:=MO i1 i2 hc;refine⟨_,by rw[run_callFunc_extern hf hname hb hn he,run_add64 x.1 x.2.1 x.2.2.1 i1.1 i2.1 i3.1 (by rcases hc with h|h<;>rw[h]<;>decide)];rfl,?_⟩;exact Pr (E:=⟨w,I⟩) (r:=((x.1+x.2.1+x.2.2.1)%18446744073709551616,(x.1+x.2.1+x.2.2.1)/18446744073709551616,())) hin.1 hin.2
 ·cases hr'
theorem Jj{P:Program}{x y c:Int}(hx:0<=x/\x<=18446744073709551615)(hy:0<=y/\y<=18446744073709551615)(hc:c=0\/c=1)(w:World):
  (sub64Entry #[.int .u64 x,.int .u64 y,.int .u64 c]).run P w= .ok (.tuple #[.int .u64 ((x-y-c)%18446744073709551616),.int .u64 (if x<y+c then 1 else 0)]) w:=by
 obtain⟨X,rfl⟩:=Int.eq_ofNat_of_zero_le hx.1;obtain⟨Y,rfl⟩:=Int.eq_ofNat_of_zero_le hy.1;obtain⟨k,rfl⟩:∃k:Nat,c=k:=by exact(by
  rcases hc with h|h
  ·exact⟨0,h⟩
  ·exact⟨1,h⟩)
 rw[run_sub64 X Y k (by omega) w];have e1:(((X+18446744073709551616-Y-k)%18446744073709551616:Nat):Int)=((X:Int)-Y-k)%18446744073709551616:=by omega
 have e2:(((if X<Y+k then 1 else 0:Nat)):Int)=if(X:Int)<Y+k then 1 else 0:=by grind
 rw[e1,e2]
theorem Lj{P:Program}{f:FuncId}{fn:Func}(hf:P.funcs[f]? =some fn) (hname:(fn.name== "runtime.NumGoroutine")=false) (hb:fn.body.isNone=true) (hn:Extern.findNext fn=none) (he:Extern.find fn=some sub64Entry):vO P f Tq:=by
 intro w I x r args hr ha;obtain⟨rfl,i1,i2,i3⟩:=KP ha;rw[n6]at i1 i2 i3;have hr':KM x.1 x.2.1 x.2.2.1=some r:=hr;unfold KM at hr';split at hr'
 ·rename_i hc;cases hr';have hin:=Pn i1 i2 hc;refine⟨_,by rw[run_callFunc_extern hf hname hb hn he,Jj i1 i2 hc];rfl,?_⟩;exact Pr (E:=⟨w,I⟩) (r:=((x.1-x.2.1-x.2.2.1)%18446744073709551616,(if x.1<x.2.1+x.2.2.1 then 1 else 0),())) hin.1 hin.2
 ·cases hr'
end Go.Bx
