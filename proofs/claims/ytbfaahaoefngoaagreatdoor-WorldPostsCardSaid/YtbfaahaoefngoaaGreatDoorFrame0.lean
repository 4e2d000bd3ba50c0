/- A part of a framework that reads Go code as functions of plain data. -/
import Derived.Calls
import Derived.LoopN
import Derived.KernelRfl
import Derived.Orders
import Derived.Below
import Derived.WalkKit
import Derived.Laws.BytesString
import Derived.Laws.Cells
open List (drop_drop flatten_cons range' replicate)
open Nat (add_assoc add_mul beq ble blt zero_add)
set_option maxRecDepth 100000
set_option linter.unusedVariables false
set_option linter.unusedSimpArgs false
namespace Go.Bx
open Go
inductive Ty where
 |int (k:IntKind)|bool|str|arr (n:Nat) (t:Ty)|sl (t:Ty)|unit|pair (a b:Ty)|opq
 deriving DecidableEq
@[reducible] def Ty.den:Ty->Type
 | .int _=>Int| .bool=>Bool| .str=>List Int| .arr _ t=>List t.den| .sl t=>List t.den| .unit=>Unit| .pair a b=>a.den×b.den| .opq=>Unit
def Ty.zero:(t:Ty)->t.den
 | .int _=>(0:Int)| .bool=>false| .str=>([]:List Int)| .arr n t=>replicate n t.zero| .sl t=>([]:List t.den)| .unit=>()| .pair a b=>(a.zero,b.zero)| .opq=>()
def Ty.size:Ty->Nat
 | .arr n t=>n*t.size| .unit=>0| .pair a b=>a.size+b.size|_=>1
def Ty.isAgg:Ty->Bool
 | .arr _ _=>true| .unit=>true| .pair _ _=>true|_=>false
def Ty.align:Ty->Nat
 | .int k=>k.bits/8| .bool=>1| .arr _ t=>t.align| .unit=>1| .pair a b=>max a.align b.align|_=>8
def Vb(n a:Nat):Nat:=(n+a-1)/a*a
mutual
def Ty.bytes:Ty->Nat
 | .int k=>k.bits/8| .bool=>1| .str=>16| .sl _=>24| .arr n t=>n*t.bytes| .unit=>0| .pair a b=>Vb (b.ends a.bytes) (max a.align b.align)| .opq=>8
def Ty.ends:Ty->Nat->Nat
 | .pair a b,off=>b.ends (Vb off a.align+a.bytes)|_,off=>off
end
def Ty.plain:Ty->Bool
 | .arr _ t=>t.plain| .sl t=>t.plain| .pair a b=>a.plain&&b.plain| .opq=>false|_=>true
def Ty.scalar:Ty->Bool
 | .arr _ t=>t.scalar| .pair a b=>a.scalar&&b.scalar| .sl _=>false| .opq=>false|_=>true
def Ty.cmp:Ty->Bool
 | .arr _ t=>t.cmp| .pair a b=>a.cmp&&b.cmp| .sl _=>false| .opq=>false|_=>true
def Ty.dep:Ty->Nat
 | .arr _ t=>t.dep+1| .pair a b=>max (a.dep+1) b.dep|_=>1
def uv(a b:Ty)(x:a.den):Option b.den:=match(inferInstance:Decidable (a=b))with
 | .isTrue h=>Eq.rec (motive:=fun b _=>Option b.den) (some x) h
 | .isFalse _=>none
inductive Step where
 |idx (i:Int)|fld (j:Nat)
inductive V where
 |any
 |data (t:Ty) (x:t.den)
 |nilp
 |snil
 |ref (id ver:Nat) (p:List Step)
 |iref (t:Ty) (x:t.den)
 |tup (l:List V)
 |opt (d:Nat) (want:Bool) (v:V)
 |fn (f:Nat) (fst cap:List V)
 |full (t:Ty) (l:List t.den)
 |app (id ver:Nat)
 |view (id:Nat) (p:List Step) (t:Ty) (n:Nat) (lo hi:Int)
 |agg (t:Ty) (l:List V)
 |ifc (ty:Nat) (v:V)
 |map (id:Nat)
 |glob (g:Nat)
 |mth (m:String) (v:V)
structure GV where
 t:Ty
 x:t.den
def ek:List Int:=[1,32898,9223372036854808714,9223372039002292224,32907,2147483649,9223372039002292353,9223372036854808585,138,136,2147516425,2147483658,2147516555,9223372036854775947,9223372036854808713,9223372036854808579,9223372036854808578,9223372036854775936,32778,9223372039002259466,9223372039002292353,9223372036854808704,2147483649,9223372039002292232]
def AR:List Int:=[0,1,62,28,27,36,44,6,55,20,3,10,43,25,39,41,45,15,21,8,18,2,61,56,14]
def Gn:List (Nat×GV):=[(1,⟨.arr 24 (.int .u64),ek⟩),(2,⟨.arr 25 (.int .i64),AR⟩)]
inductive jX where
 |cell (t:Ty) (v:V) (frz:Bool)
 |buf (t:Ty) (l:List t.den) (ver:Nat) (frz:Bool)
 |map (k v:Ty) (l:List (k.den×v.den))
abbrev aP:=List (Nat×jX)
structure St where
 fr:List V
 hp:aP
structure Fn where
 ps:Ty
 rs:Ty
 multi:Bool
 run:ps.den->Option rs.den
structure Sh where
 Y:Type
 o:Option Y
 f:Y->V×aP
 cs:(α:Type)->(V×aP->Option α)->Y->Option α
 ok:∀α K y,cs α K y=K (f y)
inductive Norm where
 |dat (slot:Bool) (at_:Nat) (p:List Nat)
 |melt (slot:Bool) (at_:Nat) (p:List Nat) (id:Nat) (z:Bool)
 |tid (l:List Nat)
 |name (slot:Bool) (at_:Nat) (p:List Nat) (id:Nat)
structure Ctx where
 ty:List (Nat×Ty)
 ptr:List (Nat×Nat)
 mp:List (Nat×(Nat×Nat))
 fn:Nat->Option Fn
 sh:Nat->Option (List V->aP->Option Sh)
 site:List (Nat×Nat)
 inv:Nat->String->Option Nat
 live:List (Nat×List Nat)
 norm:List (Nat×List Norm)
 frz:List Nat
 base:Nat
 lim:Nat
def look{β:Type}(l:List (Nat×β))(i:Nat):Option β:=
 match l with
 |[]=>none
 |(j,b)::r=>if beq j i=true then some b else look r i
def pq(k:IntKind)(n:Int):Bool:=decide (k.min<=n)&&decide (n<=k.max)
def bytesOf(s:ByteArray):List Int:=s.data.toList.map fun b=>(b.toNat:Int)
def ofConst:Value->V
 | .int k n=>if pq k n=true then .data (.int k) n else .any
 | .bool b=>.data .bool b
 | .pointer none=>.nilp
 | .slice none 0 0=>.snil
 | .string s=>if ble s.size maxLen=true then .data .str (bytesOf s)else .any
 |_=>.any
def nth:List V->Nat->V
 |[],_=>.any
 |v::_,0=>v
 |_::r,n+1=>nth r n
def aw(hp:aP)(i:Nat):Option jX:=look hp i
def ev(fr:List V):Operand->V
 | .tmp t=>nth fr t
 | .const v=>ofConst v
 | .func f=>.fn f [] []
 | .global g=>.glob g
def zA:(t:Ty)->t.den->List Step->V
 |t,x,[]=>.data t x
 | .arr _ t,l,.idx i::p=>zA t (l.getD i.toNat t.zero) p
 | .pair a _,(x,_),.fld 0::p=>zA a x p
 | .pair _ b,(_,x),.fld (j+1)::p=>zA b x (.fld j::p)
 |_,_,_::_=>.any
def rC:(t:Ty)->t.den->List Step->(t':Ty)->t'.den->Option t.den
 |t,_,[],t',y=>uv t' t y
 | .arr _ t,l,.idx i::p,t',y=>(rC t (l.getD i.toNat t.zero) p t' y).map (l.set i.toNat)
 | .pair a _,(x,x'),.fld 0::p,t',y=>(rC a x p t' y).map fun z=>(z,x')
 | .pair _ b,(x',x),.fld (j+1)::p,t',y=>(rC b x (.fld j::p) t' y).map fun z=>(x',z)
 |_,_,_::_,_,_=>none
def aX:(t:Ty)->List Step->Option (Nat×Ty)
 |t,[]=>some (0,t)
 | .arr n t,.idx i::p=>if 0<=i/\i<(n:Int)then match aX t p with
  |some (o,u)=>some (i.toNat*t.size+o,u)
  |none=>none
  else none
 | .pair a _,.fld 0::p=>aX a p
 | .pair a b,.fld (j+1)::p=>match aX b (.fld j::p)with
  |some (o,u)=>some (a.size+o,u)
  |none=>none
 |_,_::_=>none
def proj:(t:Ty)->t.den->Nat->V
 | .pair a _,(x,_),0=>.data a x
 | .pair _ b,(_,x),j+1=>proj b x j
 |_,_,_=>.any
def mf:Ty->List Step->Option Ty
 |t,[]=>some t
 | .arr _ t,.idx _::p=>mf t p
 | .pair a _,.fld 0::p=>mf a p
 | .pair _ b,.fld (j+1)::p=>mf b (.fld j::p)
 |_,_::_=>none
def i6:Ty->Option (Ty×Ty)
 | .pair a b=>some (a,b)
 | .arr (n+1) t=>some (t,.arr n t)
 |_=>none
def spread:(t:Ty)->t.den->List V
 | .pair a b,(x,y)=>.data a x::spread b y
 |_,_=>[]
def getArgs:(t:Ty)->List V->Option t.den
 | .unit,[]=>some ()
 | .pair a b,.data t x::r=>match uv t a x with
  |none=>none
  |some x=>match getArgs b r with
   |none=>none
   |some y=>some (x,y)
 |_,_=>none
def o0(t:Ty)(l:List V):V:=match getArgs t l with
 |some x=>.data t x
 |none=>.agg t l
def Ty.chain:Ty->Bool
 | .unit=>true
 | .pair _ b=>b.chain
 |_=>false
def Ty.chained:Ty->Bool
 | .pair a b=>a.chained&&b.chained&&b.chain
 | .arr _ t=>t.chained
 |_=>true
def AU:V->List Step->V
 |v,[]=>v
 | .data t x,s::p=>zA t x (s::p)
 | .agg _ l,.fld j::p=>AU (nth l j) p
 | .agg _ l,.idx i::p=>AU (nth l i.toNat) p
 |_,_::_=>.any
def rW:V->List Step->V->Option V
 |_,[],y=>some y
 | .agg t l,.fld j::p,y=>if blt j l.length=true then match rW (nth l j) p y with
  |some z=>some (o0 t (l.set j z))
  |none=>none
  else none
 | .agg t l,.idx i::p,y=>if blt i.toNat l.length=true then match rW (nth l i.toNat) p y with
  |some z=>some (.agg t (l.set i.toNat z))
  |none=>none
  else none
 | .data t x,s::p,.data t' y=>match rC t x (s::p) t' y with
  |some z=>some (.data t z)
  |none=>none
 | .data t x,.fld j::p,y=>if(t.chain&&blt j (spread t x).length)=true then match setD (nth (spread t x) j) p y with
  |some z=>some (o0 t ((spread t x).set j z))
  |none=>none
  else none
 |_,_::_,_=>none
where
 setD:V->List Step->V->Option V
  |_,[],y=>some y
  | .data t x,.fld j::p,y=>if(t.chain&&blt j (spread t x).length)=true then match setD (nth (spread t x) j) p y with
   |some z=>some (o0 t ((spread t x).set j z))
   |none=>none
   else none
  |_,_::_,_=>none
structure Gd where
 d:Nat
 want:Bool
 b:Bool
 sure:Bool
def gD:V->V
 | .opt _ _ _=>.any
 |v=>v
def jN(C:Ctx)(ty:Nat):V->V
 | .snil=>match look C.ty ty with
  |some (.sl t)=>.full t []
  |_=>.snil
 |v=>gD v
def un(g:Option Gd):V->V
 | .opt d w v=>match g with
  |some g=>if beq g.d d&&(g.want==w)then gD v else .any
  |none=>.any
 |v=>v
def FG{α:Type}(g:Option Gd)(c:Prop)(i:Decidable c)(K:Option α):Option α:=
 match g with
 |none=>match i with
  | .isTrue _=>K
  | .isFalse _=>none
 |some g=>match decide c|| !g.b with
  |true=>K
  |false=>none
def tag(g:Option Gd)(v:V):V:=match g with
 |none=>v
 |some g=>.opt g.d g.want v
def aA{α:Type}(l:List α)(lo hi:Int):List α:=(l.drop lo.toNat).take (hi.toNat-lo.toNat)
mutual
def rd(hp:aP):V->V
 | .full t l=>.data (.sl t) l
 | .app id ver=>match aw hp id with
  |some (.buf t l ver' _)=>if beq ver ver'=true then .data (.sl t) l else .any
  |_=>.any
 | .view id p t n lo hi=>match aw hp id with
  |some (.cell _ c _)=>match AU c p with
   | .data (.arr n' t') l=>if n'=n/\t'=t then .data (.sl t') (aA l lo hi)else .any
   |_=>.any
  |_=>.any
 | .agg t l=>o0 t (uL hp l)
 |v=>v
def uL(hp:aP):List V->List V
 |[]=>[]
 |v::l=>rd hp v::uL hp l
end
mutual
def jE(ρ:Nat->Nat->Option (Nat×Nat)):V->V
 | .app id ver=>match ρ id ver with
  |some (j,u)=>.app j u
  |none=>.any
 | .ref id ver p=>match ρ id ver with
  |some (j,u)=>.ref j u p
  |none=>.any
 | .view id p t n lo hi=>match ρ id 0 with
  |some (j,_)=>.view j p t n lo hi
  |none=>.any
 | .map id=>match ρ id 0 with
  |some (j,_)=>.map j
  |none=>.any
 | .tup l=>.tup (n9 ρ l)
 | .opt d w v=>.opt d w (jE ρ v)
 | .fn f a b=>.fn f (n9 ρ a) (n9 ρ b)
 | .agg t l=>.agg t (n9 ρ l)
 | .ifc t v=>.ifc t (jE ρ v)
 | .mth m v=>.mth m (jE ρ v)
 |v=>v
def n9(ρ:Nat->Nat->Option (Nat×Nat)):List V->List V
 |[]=>[]
 |v::l=>jE ρ v::n9 ρ l
end
def pU(ρ:Nat->Nat->Option (Nat×Nat)):jX->jX
 | .cell t v z=>.cell t (jE ρ v) z
 |b=>b
def fR:aP->Nat->jX->aP
 |[],d,c=>[(d,c)]
 |(i,b)::r,d,c=>if beq d i=true then(d,c)::r else if blt d i=true then(d,c)::(i,b)::r else(i,b)::fR r d c
def mem(l:List Nat)(i:Nat):Bool:=l.any (beq i)
def xF:jX->jX
 | .cell t v _=>.cell t v true
 | .buf t l ver _=>.buf t l ver true
 |b=>b
mutual
def frz(hp:aP):V->aP
 | .app id _=>match aw hp id with
  |some b=>fR hp id (xF b)
  |none=>hp
 | .view id _ _ _ _ _=>match aw hp id with
  |some b=>fR hp id (xF b)
  |none=>hp
 | .agg _ l=>my hp l
 |_=>hp
def my(hp:aP):List V->aP
 |[]=>hp
 |v::l=>my (frz hp v) l
end
mutual
def loose(hp:aP):V->Bool
 | .app id _=>match aw hp id with
  |some (.buf _ _ _ true)=>false
  |_=>true
 | .view id _ _ _ _ _=>match aw hp id with
  |some (.cell _ _ true)=>false
  |_=>true
 | .agg _ l=>lQ hp l
 |_=>false
def lQ(hp:aP):List V->Bool
 |[]=>false
 |v::l=>loose hp v||lQ hp l
end
def cS(k:IntKind)(x y:Int):Int:=k.wrap (((BitVec.ofInt k.bits x&&&BitVec.ofInt k.bits y).toNat:Nat):Int)
def jP(k:IntKind)(x y:Int):Int:=k.wrap (((BitVec.ofInt k.bits x|||BitVec.ofInt k.bits y).toNat:Nat):Int)
def ag(k:IntKind)(x y:Int):Int:=k.wrap (((BitVec.ofInt k.bits x^^^BitVec.ofInt k.bits y).toNat:Nat):Int)
def PX(k:IntKind)(x y:Int):Int:=k.wrap (((BitVec.ofInt k.bits x&&&~~~BitVec.ofInt k.bits y).toNat:Nat):Int)
def fD(k:IntKind)(x y:Int):Int:=k.wrap (x*2^(min y.toNat k.bits))
def fS(k:IntKind)(x y:Int):Int:=x.fdiv (2^(min y.toNat k.bits))
def qO{α:Type}(f:α->α->Bool):List α->List α->Bool
 |[],[]=>true
 |a::r,b::s=>f a b&&qO f r s
 |_,_=>false
def az:(t:Ty)->t.den->t.den->Bool
 | .int _,x,y=>(x:Int)==(y:Int)
 | .bool,x,y=>(x:Bool)==(y:Bool)
 | .str,x,y=>(x:List Int)==(y:List Int)
 | .arr _ t,x,y=>qO (az t) x y
 | .unit,_,_=>true
 | .pair a b,x,y=>az a x.1 y.1&&az b x.2 y.2
 |_,_,_=>false
def Ty.key:Ty->Bool
 | .int _=>true| .arr _ (.int _)=>true|_=>false
def eU{κ ν:Type}(eq:κ->κ->Bool)(k:κ):List (κ×ν)->Nat
 |[]=>0
 |p::r=>match eq k p.1 with
  |true=>0
  |false=>eU eq k r+1
def pK{κ ν:Type}(eq:κ->κ->Bool)(k:κ)(z:ν)(l:List (κ×ν)):List (κ×ν):=match blt (eU eq k l) l.length with
 |true=>l
 |false=>l++[(k,z)]
def jm{κ ν:Type}(k:κ)(z:ν)(l:List (κ×ν))(i:Nat):ν:=(l.getD i (k,z)).2
def getM{κ ν:Type}(eq:κ->κ->Bool)(k:κ)(z:ν):List (κ×ν)->ν
 |[]=>z
 |p::r=>match eq k p.1 with
  |true=>p.2
  |false=>getM eq k z r
def rV{κ ν:Type}:List (κ×ν)->Nat->ν->List (κ×ν)
 |[],_,_=>[]
 |p::r,0,v=>(p.1,v)::r
 |p::r,i+1,v=>p::rV r i v
def Jl{κ ν:Type}(eq:κ->κ->Bool)(k:κ)(v:ν)(l:List (κ×ν)):List (κ×ν):=match blt (eU eq k l) l.length with
 |true=>rV l (eU eq k l) v
 |false=>l++[(k,v)]
inductive Out where
 |val (c:Prop) (i:Decidable c) (v:V)
 |new (v:V)
 |eff (c:Prop) (i:Decidable c) (v:V) (hp:aP) (wr:List Nat)
 |call (F:Fn) (a:F.ps.den) (hp:aP) (wr:List Nat)
 |sh (s:Sh) (L:List Nat)
def kx(v:V):Option Out:=some (.val True instDecidableTrue v)
def uk(c:Prop)[i:Decidable c](v:V):Option Out:=some (.val c i v)
def Cd(c:Prop)[i:Decidable c](v:V)(hp:aP)(wr:List Nat):Option Out:=some (.eff c i v hp wr)
def nk:List Int->List Int->Bool
 |_,[]=>false
 |[],_::_=>true
 |a::x,b::y=>decide (a<b)||(a==b&&nk x y)
def vJ(op:BinOp)(x y:List Int):Option Out:=
 match op with
 | .add=>uk (ble (x.length+y.length) 9223372036854775807=true) (.data .str (x++y))
 | .eql=>kx (.data .bool (az .str x y))
 | .neq=>kx (.data .bool (!az .str x y))
 | .lss=>kx (.data .bool (nk x y))
 | .leq=>kx (.data .bool (nk x y||az .str x y))
 | .gtr=>kx (.data .bool (!(nk x y||az .str x y)))
 | .geq=>kx (.data .bool (!nk x y))
 |_=>none
def vm(op:BinOp)(k:IntKind)(x y:Int):Option Out:=
 match op with
 | .add=>kx (.data (.int k) (k.wrap (x+y)))
 | .sub=>kx (.data (.int k) (k.wrap (x-y)))
 | .mul=>kx (.data (.int k) (k.wrap (x*y)))
 | .quo=>uk (y≠0) (.data (.int k) (k.wrap (x.tdiv y)))
 | .rem=>uk (y≠0) (.data (.int k) (x.tmod y))
 | .and=>kx (.data (.int k) (cS k x y))
 | .or=>kx (.data (.int k) (jP k x y))
 | .xor=>kx (.data (.int k) (ag k x y))
 | .andNot=>kx (.data (.int k) (PX k x y))
 | .eql=>kx (.data .bool (x==y))
 | .neq=>kx (.data .bool (x !=y))
 | .lss=>kx (.data .bool (decide (x<y)))
 | .leq=>kx (.data .bool (decide (x<=y)))
 | .gtr=>kx (.data .bool (decide (x>y)))
 | .geq=>kx (.data .bool (decide (x>=y)))
 |_=>none
def q8(op:BinOp)(b:Bool):Option Out:=
 match op with
 | .eql=>kx (.data .bool b)
 | .neq=>kx (.data .bool (!b))
 |_=>none
def H7(C:Ctx)(op:BinOp)(xt:Nat)(x y:V):Option Out:=
 match x,y with
 | .data (.int k) a,.data (.int k') b=>
  match op with
  | .shl=>uk (0<=(b:Int)) (.data (.int k) (fD k a b))
  | .shr=>uk (0<=(b:Int)) (.data (.int k) (fS k a b))
  |op=>if k=k' then vm op k a b else none
 | .data .str a,.data .str b=>vJ op a b
 | .data t a,.data t' b=>
  match uv t' t b with
  |none=>none
  |some b=>if look C.ty xt=some t/\t.cmp=true/\ble t.dep 10000=true then match op with
   | .eql=>kx (.data .bool (az t a b))
   | .neq=>kx (.data .bool (!az t a b))
   |_=>none
   else none
 | .nilp,.nilp=>if(look C.ptr xt).isSome=true then q8 op true else none
 | .ref _ _ _,.nilp=>if(look C.ptr xt).isSome=true then q8 op false else none
 | .nilp,.ref _ _ _=>if(look C.ptr xt).isSome=true then q8 op false else none
 |_,_=>none
def Fn.out(F:Fn)(r:F.rs.den):V:=match F.multi with
 |false=>.data F.rs r
 |true=>.tup (spread F.rs r)
def Vq(op:UnOp)(x:V):Option Out:=
 match op,x with
 | .not,.data .bool b=>kx (.data .bool (!b))
 | .neg,.data (.int k) n=>kx (.data (.int k) (k.wrap (0-(n:Int))))
 | .xor,.data (.int k) n=>kx (.data (.int k) (ag k (if k.signed then-1 else k.max) n))
 |_,_=>none
def stepOf:Ty->Nat->Step
 | .arr _ _,i=>.idx i
 |_,i=>.fld i
def fits(τ:Ty):V->Bool
 | .data t _=>decide (t=τ)
 | .agg t _=>decide (t=τ)
 | .nilp=>!τ.isAgg
 | .snil=>!τ.isAgg
 | .ref _ _ _=>!τ.isAgg
 | .iref _ _=>!τ.isAgg
 | .fn _ _ _=>!τ.isAgg
 | .full _ _=>!τ.isAgg
 | .app _ _=>!τ.isAgg
 | .view _ _ _ _ _ _=>!τ.isAgg
 | .ifc _ _=>!τ.isAgg
 | .map _=>!τ.isAgg
 |_=>false
def dd:V->V
 | .full t l=>.data (.sl t) l
 |v=>v
def o7(u:Ty):V->V
 | .snil=>match u with
  | .sl t=>.full t []
  |_=>.snil
 |v=>v
def nS(e:Operand->V)(τ:Ty):List (Nat×Operand)->V->Option V
 |[],c=>some c
 |(i,x)::r,c=>match mf τ [stepOf τ i]with
  |some u=>if(fits u (o7 u (e x))&&(aX τ [stepOf τ i]).isSome)=true then match rW c [stepOf τ i] (o7 u (e x))with
    |some c'=>nS e τ r c'
    |none=>none
    else none
  |none=>none
mutual
def zeroV:Ty->V
 | .sl t=>.full t []
 | .opq=>.any
 | .pair a b=>o0 (.pair a b) (zeroV a::HT b)
 | .arr n t=>if t.plain then .data (.arr n t) (replicate n t.zero)else .agg (.arr n t) (replicate n (zeroV t))
 | .unit=>.data .unit ()
 | .int k=>.data (.int k) (0:Int)
 | .bool=>.data .bool false
 | .str=>.data .str ([]:List Int)
def HT:Ty->List V
 | .pair a b=>zeroV a::HT b
 |_=>[]
end
def jt(e:Operand->V)(τ:Ty):List (Nat×Operand)->τ.den->Option τ.den
 |[],c=>some c
 |(i,x)::r,c=>match aX τ [stepOf τ i],e x with
  |some _,.data σ y=>match rC τ c [stepOf τ i] σ y with
   |some c'=>jt e τ r c'
   |none=>none
  |some (_,.sl t),.snil=>match rC τ c [stepOf τ i] (.sl t) ([]:List t.den)with
   |some c'=>jt e τ r c'
   |none=>none
  |_,_=>none
def yl(b:Option jX)(ver:Nat)(p:List Step):Option Ty:=match b,p with
 |some (.cell σ _ _),p=>mf σ p
 |some (.buf σ _ ver' _),.idx _::q=>if beq ver ver'=true then mf σ q else none
 |_,_=>none
def KR(b:Option jX)(p:List Step):V:=match b,p with
 |some (.cell _ v _),p=>AU v p
 |some (.buf σ l _ _),.idx i::q=>zA σ (l.getD i.toNat σ.zero) q
 |_,_=>.any
def sO:V->Option Int
 | .data (.int _) n=>some n
 |_=>none
def gw(e:Operand->V)(d:Int):Option Operand->Option Int
 |none=>some d
 |some x=>sO (e x)
def lz(e:Operand->V)(τ:Ty)(l:List τ.den)(lo hi mx:Option Operand):Option Out:=
 match gw e 0 lo,gw e l.length hi with
 |some a,some b=>match mx with
  |none=>uk (0<=a/\a<=b/\b<=(l.length:Int)) (.data (.sl τ) (aA l a b))
  |some m=>match sO (e m),hi with
   |some m,some _=>uk (0<=a/\a<=b/\b<=(l.length:Int)/\m=b) (.full τ (aA l a b))
   |_,_=>none
 |_,_=>none
def vE:V->Bool
 | .opt _ _ _=>false
 |_=>true
def nt(e:Operand->V)(c:Call)(recv:Option V)(fst cap:List V):List V:=
 (match recv with|some v=>[gD v]|none=>[])++fst.map gD++c.args.toList.map e++cap.map gD
def target(C:Ctx)(e:Operand->V)(c:Call):Option (Nat×List V):=
 match c.callee with
 | .value f=>match e f with
  | .fn f fst cap=>some (f,nt e c none fst cap)
  |_=>none
 | .invoke r m=>match e r with
  | .ifc t v=>match C.inv t m with
   |some f=>some (f,nt e c (some v) [] [])
   |none=>none
  |_=>none
 | .builtin _=>none
def m8(C:Ctx)(g:Option Gd)(fr:List V)(hp:aP)(op:Op):Option Out:=
 let r:=fun x=>un g (ev fr x)
 let e:=fun x=>dd (un g (ev fr x))
 match op with
 | .move x| .assign x=>kx (r x)
 | .pick c a b=>
  match c,e c with
  | .tmp d,.data .bool t=>
   let arm:=fun(w:Bool)(x:Operand)=>match ev fr x with
    | .opt d' w' (.data .bool y)=>if beq d' d&&(w==w')then some y else none
    | .data .bool y=>some y
    |_=>none
   match arm true a,arm false b with
   |some y,some z=>kx (.data .bool (cond t y z))
   |_,_=>none
  |_,_=>none
 | .load t x=>
  match look C.ty t with
  |none=>none
  |some τ=>match e x with
   | .ref id ver p=>if yl (aw hp id) ver p=some τ then kx (gD (KR (aw hp id) p))else none
   | .iref σ y=>if σ=τ then kx (.data σ y)else none
   | .glob g=>match look Gn g with
    |some G=>if G.t=τ then kx (.data G.t G.x)else none
    |none=>none
   |_=>none
 | .indexAddr t x i=>
  match look C.ty t,e x,e i with
  |some (.arr len τ),.glob g,.data (.int _) n=>match look Gn g with
   |some ⟨.arr len' τ',l⟩=>if τ=τ'/\len=len' then uk (0<=(n:Int)/\(n:Int)<(len:Int)) (.iref τ' (l.getD (n:Int).toNat τ'.zero))else none
   |_=>none
  |some (.arr len τ),.ref id ver p,.data (.int _) n=>if yl (aw hp id) ver p=some (.arr len τ)then uk (0<=(n:Int)/\(n:Int)<(len:Int)) (.ref id ver (p++[.idx n]))else none
  |some (.sl τ),.data (.sl τ') l,.data (.int _) n=>if τ=τ' then uk (0<=(n:Int)/\(n:Int)<(l.length:Int)) (.iref τ' (l.getD (n:Int).toNat τ'.zero))else none
  |some (.sl τ),.app id ver,.data (.int _) n=>match aw hp id with
   |some (.buf τ' l ver' z)=>if τ=τ'/\beq ver ver'=true then uk (0<=(n:Int)/\(n:Int)<(l.length:Int)) (match z with|true=>.iref τ' (l.getD (n:Int).toNat τ'.zero)|false=>.ref id ver [.idx n])else none
   |_=>none
  |some (.sl τ),.view id p τ' _ lo hi,.data (.int _) n=>if τ=τ' then uk (0<=(n:Int)/\(n:Int)<hi-lo) (.ref id 0 (p++[.idx (lo+n)]))else none
  |some (.arr len' τ),.iref (.arr len τ') l,.data (.int _) n=>if τ=τ'/\len=len' then uk (0<=(n:Int)/\(n:Int)<(len:Int)) (.iref τ' (l.getD (n:Int).toNat τ'.zero))else none
  |_,_,_=>none
 | .fieldAddr t x j=>
  match look C.ty t,e x with
  |some τ,.ref id ver p=>if yl (aw hp id) ver p=some τ/\(mf τ [.fld j]).isSome=true then kx (.ref id ver (p++[.fld j]))else none
  |some τ',.iref τ y=>if τ=τ' then match proj τ y j with
   | .data τ' z=>kx (.iref τ' z)
   |_=>none
   else none
  |_,_=>none
 | .binOp op xt x y _=>H7 C op xt (e x) (e y)
 | .unOp op _ x=>Vq op (e x)
 | .convert s d x=>match look C.ty s,look C.ty d,e x with
  |some (.int _),some (.int k),.data (.int _) n=>kx (.data (.int k) (k.wrap n))
  |some .str,some .str,.data .str l=>kx (.data .str l)
  |some .str,some (.sl (.int .u8)),.data .str l=>some (.new (.data (.sl (.int .u8)) l))
  |some (.sl (.int .u8)),some .str,v=>match rd hp v with
   | .data (.sl (.int .u8)) l=>kx (.data .str l)
   |_=>none
  |_,_,_=>none
 | .index t x i=>match look C.ty t,e x,e i with
  |some (.arr len τ),.data (.arr len' τ') l,.data (.int _) n=>if τ=τ'/\len=len' then uk (0<=(n:Int)/\(n:Int)<(len:Int)) (.data τ' (l.getD (n:Int).toNat τ'.zero))else none
  |some .str,.data .str l,.data (.int _) n=>uk (0<=(n:Int)/\(n:Int)<((l:List Int).length:Int)) (.data (.int .u8) ((l:List Int).getD (n:Int).toNat 0))
  |_,_,_=>none
 | .field t x j=>match look C.ty t,e x with
  |some τ',.data τ y=>if τ=τ' then match proj τ y j with
   | .data σ z=>kx (.data σ z)
   |_=>none
   else none
  |some τ',.agg τ l=>if τ=τ'/\(mf τ [.fld j]).isSome=true then kx (gD (nth l j))else none
  |_,_=>none
 | .lookup t m k c=>match c,look C.mp t,e m,e k with
  |false,some (tk,tv),.map id,.data κ' x=>match look C.ty tk,look C.ty tv,aw hp id with
   |some κ0,some ν0,some (.map κ ν l)=>if h:κ'=κ then
     if κ0=κ/\ν0=ν/\κ.key=true/\ν.plain=true/\ν.scalar=true then kx (.data ν (getM (az κ) (h▸x) ν.zero l))else none
    else none
   |_,_,_=>none
  |_,_,_,_=>none
 | .build t parts=>match look C.ty t with
  |some τ=>if τ.isAgg then match nS r τ parts.toList (zeroV τ)with
   |some y=>kx y
   |none=>none
   else none
  |none=>none
 | .buildSlice t n parts=>match look C.ty t with
  |some (.sl τ)=>if τ.plain&&ble (n*τ.size) 16777216&&ble n 16777216 then match jt (fun x=>rd hp (e x)) (.arr n τ) parts.toList (Ty.arr n τ).zero with
   |some y=>if parts.toList.any (fun p=>loose hp (e p.2))then none else some (.new (.full τ y))
   |none=>none
   else none
  |_=>none
 | .makeFunc fn fst cap=>match fn with
  | .method m=>match fst.toList.map r,cap.toList with
   |[v],[]=>if vE v=true then kx (.mth m v)else none
   |_,_=>none
  | .func f=>if((fst.toList.map r).all vE&&(cap.toList.map r).all vE)=true then kx (.fn f (fst.toList.map r) (cap.toList.map r))else none
  |_=>none
 | .makeInterface t x=>match look C.ty t with
  |some τ=>if(τ.isAgg&&vE (r x))=true then kx (.ifc t (r x))else none
  |none=>none
 | .nilCheck x=>match e x with
  | .ref id ver p=>kx (.ref id ver p)
  | .iref t y=>kx (.iref t y)
  | .fn f a b=>kx (.fn f a b)
  | .ifc t v=>kx (.ifc t v)
  | .mth m (.ifc t v)=>match C.inv t m with
   |some _=>kx (.mth m (.ifc t v))
   |none=>none
  |_=>none
 | .slice t x lo hi mx=>match e x with
  | .data (.sl τ') l=>match look C.ty t with
   |some (.sl τ)=>if τ=τ' then lz e τ' l lo hi mx else none
   |_=>none
  | .data .str l=>match look C.ty t,mx with
   |some .str,none=>match gw e 0 lo,gw e (l:List Int).length hi with
    |some a,some b=>uk (0<=a/\a<=b/\b<=((l:List Int).length:Int)) (.data .str (aA (l:List Int) a b))
    |_,_=>none
   |_,_=>none
  | .ref id _ p=>match aw hp id,look C.ty t,mx with
   |some (.cell σ _ _),some (.arr n τ),none=>if mf σ p=some (.arr n τ)/\ble n 16777216=true then match gw e 0 lo,gw e n hi with
    |some a,some b=>uk (0<=a/\a<=b/\b<=(n:Int)) (.view id p τ n a b)
    |_,_=>none
    else none
   |_,_,_=>none
  | .app id ver=>match aw hp id,look C.ty t with
   |some (.buf τ' l ver' true),some (.sl τ)=>if τ=τ'/\beq ver ver'=true then lz e τ' l lo hi mx else none
   |_,_=>none
  | .iref (.arr n τ) l=>match look C.ty t,mx with
   |some (.arr n' τ'),none=>if n=n'/\τ=τ'/\ble n 16777216=true then match gw e 0 lo,gw e n hi with
    |some a,some b=>uk (0<=a/\a<=b/\b<=(n:Int)) (.data (.sl τ) (aA l a b))
    |_,_=>none
    else none
   |_,_=>none
  |_=>none
 | .extract x i=>match e x with
  | .tup l=>if blt i l.length=true then kx (gD (nth l i))else none
  |_=>none
 | .call c=>match c.callee with
  | .builtin .len=>match c.args.toList.map (fun x=>rd hp (e x)),c.argTypes.toList with
   |[.map id],[t]=>match look C.mp t,aw hp id with
    |some _,some (.map _ _ l)=>uk (ble l.length 9223372036854775807=true) (.data (.int .i64) (l.length:Int))
    |_,_=>none
   |[.data (.sl τ) l],[t]=>if look C.ty t=some (.sl τ)then kx (.data (.int .i64) (l.length:Int))else none
   |[.data .str l],[t]=>if look C.ty t=some .str then kx (.data (.int .i64) ((l:List Int).length:Int))else none
   |_,_=>none
  | .builtin .max=>match c.args.toList.map e with
   |[.data (.int k) x,.data (.int k') y]=>if k=k' then kx (.data (.int k) (if(y:Int)>(x:Int)then(y:Int)else(x:Int)))else none
   |_=>none
  | .builtin .min=>match c.args.toList.map e with
   |[.data (.int k) x,.data (.int k') y]=>if k=k' then kx (.data (.int k) (if(y:Int)<(x:Int)then(y:Int)else(x:Int)))else none
   |_=>none
  | .builtin _=>none
  |_=>match target C r c with
   |some (f,args)=>match C.fn f with
    |some F=>if(lQ hp args&& !F.rs.scalar)=true then none else match getArgs F.ps (uL hp args)with
     |some a=>some (.call F a [] [])
     |none=>none
    |none=>none
   |none=>none
 |_=>none
def qa(d:Nat):V->V
 | .opt d' w v=>if beq d' d then .any else .opt d' w v
 |v=>v
def k9(fr:List V)(d:Option Nat)(v:V):List V:=match d with
 |none=>fr
 |some d=>(fr.map (qa d)).set d v
def free(hp:aP)(id:Nat):Bool:=
 match aw hp id with
 |some _=>false
 |none=>true
def oM:V->(t:Ty)->Option (List t.den)
 | .data (.sl t') m,t=>uv (.sl t') (.sl t) m
 |_,_=>none
def KZ:V->(t:Ty)->Option (List t.den)
 | .data .str m,.int .u8=>some m
 |v,t=>oM v t
def eF(n b:Nat):Bool:=ble (n*b) 140737488355328&&ble n 140737488355328
def nX(C:Ctx)(hp:aP)(dst:Option Nat)(τ:Ty)(x xs:V):Option Out:=
 match oM xs τ with
 |none=>none
 |some m=>match x with
  | .full τ' l=>if h:τ'=τ then match dst with
    |some d=>if free hp (C.base+d)=true then match C.frz.any (beq d)with
      |true=>Cd (eF (l.length+m.length) τ.bytes=true) (.app (C.base+d) 0) (fR hp (C.base+d) (.buf τ ((h▸l)++m) 0 true)) [C.base+d]
      |false=>Cd ((eF (l.length+m.length) τ.bytes&&(beq l.length 0||blt 0 m.length))=true) (.app (C.base+d) 0) (fR hp (C.base+d) (.buf τ ((h▸l)++m) 0 false)) [C.base+d]
     else none
    |none=>none
   else none
  | .app id ver=>match aw hp id with
   |some (.buf τ' l ver' z)=>if h:τ'=τ then if beq ver ver'=true then Cd (eF (l.length+m.length) τ.bytes=true) (.app id (ver+1)) (fR hp id (.buf τ ((h▸l)++m) (ver+1) z)) [id]else none else none
   |_=>none
  | .view id p τ' n lo hi=>match dst,rd hp (.view id p τ' n lo hi)with
   |some d,.data (.sl τ') l=>if h:τ'=τ then if free hp (C.base+d)=true then Cd (hi=(n:Int)/\(eF (l.length+m.length) τ.bytes&&blt 0 m.length)=true) (.app (C.base+d) 0) (fR hp (C.base+d) (.buf τ ((h▸l)++m) 0 false)) [C.base+d]else none else none
   |_,_=>none
  |_=>none
def Au{α:Type}(l:List α)(lo hi:Int)(m:List α):List α:=
 l.take lo.toNat++m.take (hi.toNat-lo.toNat)++l.drop (lo.toNat+min m.length (hi.toNat-lo.toNat))
def yC(hp:aP)(τ:Ty)(x xs:V):Option Out:=
 match x,KZ xs τ with
 | .view id p τ' n lo hi,some m=>match aw hp id with
  |some (.cell σ v false)=>match AU v p with
   | .data (.arr n' τ') l=>if h:τ'=τ then if n'=n/\τ.size=1 then match rW v p (.data (.arr n' τ') (Au l lo hi (h▸m)))with
     |some v'=>Cd True (.data (.int .i64) (min m.length (hi.toNat-lo.toNat):Nat)) (fR hp id (.cell σ v' false)) [id]
     |none=>none
    else none else none
   |_=>none
  |_=>none
 |_,_=>none
mutual
def V.ids:V->List Nat
 | .ref i _ _=>[i]
 | .app i _=>[i]
 | .view i _ _ _ _ _=>[i]
 | .map i=>[i]
 | .tup l=>V.iw l
 | .opt _ _ v=>V.ids v
 | .fn _ a b=>V.iw a++V.iw b
 | .agg _ l=>V.iw l
 | .ifc _ v=>V.ids v
 | .mth _ v=>V.ids v
 |_=>[]
def V.iw:List V->List Nat
 |[]=>[]
 |v::l=>V.ids v++V.iw l
end
def EC:Option jX->List Nat
 |some (.cell _ v _)=>V.ids v
 |_=>[]
def ui(l:List Nat):List Nat->List Nat
 |[]=>l
 |i::r=>match mem l i with
  |true=>ui l r
  |false=>ui (l++[i]) r
def mo(hp:aP):Nat->List Nat->List Nat
 |0,l=>l
 |k+1,l=>mo hp k (ui l (l.flatMap fun i=>EC (aw hp i)))
def reach(hp:aP)(l:List V):List Nat:=mo hp 6 (ui [] (V.iw l))
def idxOf(l:List Nat)(i:Nat):Option Nat:=
 match l with
 |[]=>none
 |j::r=>if beq i j=true then some 0 else match idxOf r i with
  |some k=>some (k+1)
  |none=>none
def TF(hp:aP)(i ver:Nat):Option Nat:=match aw hp i with
 |some (.buf _ _ cur _)=>if beq ver cur=true then some 0 else none
 |some _=>some ver
 |none=>none
def IB(hp:aP)(L:List Nat)(i ver:Nat):Option (Nat×Nat):=match idxOf L i,TF hp i ver with
 |some k,some u=>some (k,u)
 |_,_=>none
def B5(hp:aP)(i ver:Nat):Nat:=match aw hp i with
 |some (.buf _ _ cur _)=>ver+cur+1
 |_=>ver
def mP(L N:List Nat)(s k:Nat):Nat:=match blt k L.length with
 |true=>L.getD k 0
 |false=>match idxOf N k with
  |some j=>s+j
  |none=>s+N.length+k
def Ff(hp:aP)(L N:List Nat)(s:Nat)(i ver:Nat):Option (Nat×Nat):=
 match blt i L.length with
 |true=>some (L.getD i 0,B5 hp (L.getD i 0) ver)
 |false=>match idxOf N i with
  |some j=>some (s+j,ver)
  |none=>none
def nT(hp:aP)(L N:List Nat)(s k:Nat):jX->jX
 | .buf t l ver z=>match blt k L.length with
  |true=>.buf t l (B5 hp (L.getD k 0) ver) z
  |false=>.buf t l ver z
 |b=>pU (Ff hp L N s) b
def El:jX->jX
 | .buf t l _ z=>.buf t l 0 z
 |b=>b
def um(hp:aP)(L:List Nat):Nat->List Nat->aP
 |_,[]=>[]
 |k,i::r=>match aw hp i with
  |some b=>(k,El (pU (IB hp L) b))::um hp L (k+1) r
  |none=>um hp L (k+1) r
def kW(hp:aP):List Nat->Bool
 |[]=>true
 |i::r=>free hp i&&kW hp r
def rN(L:List Nat)(h:aP):List Nat:=(h.map (·.1)).filter fun i=>!blt i L.length
def Cy(hp:aP)(L:List Nat)(s:Nat)(h:aP):aP:=h.map fun x=>(mP L (rN L h) s x.1,nT hp L (rN L h) s x.1 x.2)
def iV:aP->aP->aP
 |[],hp=>hp
 |(i,b)::r,hp=>fR (iV r hp) i b
def behind(hp:aP)(L:List Nat)(s:Nat)(vh:V×aP):V×aP:=(gD (jE (Ff hp L (rN L vh.2) s) vh.1),Cy hp L s vh.2)
def pX(C:Ctx)(hp:aP)(dst:Option Nat)(h:List V->aP->Option Sh)(args:List V):Option Out:=
 let L:=reach hp args
 let s:=C.base+(match dst with|some d=>(match look C.site d with|some s=>s|none=>0)|none=>0)
 match h (n9 (IB hp L) (args.map gD)) (um hp L 0 L)with
 |some sh=>some (.sh ⟨sh.Y,sh.o,fun y=>behind hp L s (sh.f y),fun α K y=>sh.cs α (fun vh=>K (behind hp L s vh)) y,fun α K y=>sh.ok α _ y⟩ L)
 |none=>none
def oR(C:Ctx)(g:Option Gd)(fr:List V)(hp:aP)(dst:Option Nat)(op:Op):Option Out:=
 let r:=fun x=>un g (ev fr x)
 let e:=fun x=>dd (un g (ev fr x))
 match op with
 | .alloc t=>
  match look C.ty t,dst with
  |some τ,some d=>if free hp (C.base+d)=true then Cd True (.ref (C.base+d) 0 []) (fR hp (C.base+d) (.cell τ (zeroV τ) false)) [C.base+d]else none
  |_,_=>none
 | .box t x=>
  match look C.ty t,dst with
  |some τ,some d=>if free hp (C.base+d)&&fits τ (r x)then Cd True (.ref (C.base+d) 0 []) (fR hp (C.base+d) (.cell τ (r x) false)) [C.base+d]else none
  |_,_=>none
 | .store t x y=>
  match look C.ty t,e x with
  |some τ,.ref id ver p=>match aw hp id with
   |some (.cell σ v false)=>
    if(fits τ (o7 τ (r y))&&decide (mf σ p=some τ))=true then match rW v p (o7 τ (r y))with
     |some v'=>Cd True .any (fR hp id (.cell σ v' false)) [id]
     |none=>none
    else none
   |some (.buf _ _ _ _)=>match aw (frz hp (e y)) id with
    |some (.buf σ l ver' false)=>if beq ver ver'=true then match p,rd hp (e y)with
     | .idx i::q,.data τ' z=>if τ'=τ then match rC σ (l.getD i.toNat σ.zero) q τ' z with
      |some z'=>Cd True .any (fR (frz hp (e y)) id (.buf σ (l.set i.toNat z') ver' false)) (id::V.ids (e y))
      |none=>none
      else none
     |_,_=>none
     else none
    |_=>none
   |_=>none
  |_,_=>none
 | .buildSlice t n parts=>match look C.ty t with
  |some (.sl τ)=>if τ.plain&&ble (n*τ.size) 16777216&&ble n 16777216 then match jt (fun x=>rd hp (e x)) (.arr n τ) parts.toList (Ty.arr n τ).zero with
   |some y=>Cd True (.full τ y) (my hp (parts.toList.map fun p=>e p.2)) (V.iw (parts.toList.map fun p=>e p.2))
   |none=>none
   else none
  |_=>none
 | .makeMap t rs=>match rs,look C.mp t,dst with
  |none,some (tk,tv),some d=>match look C.ty tk,look C.ty tv with
   |some κ,some ν=>if free hp (C.base+d)then Cd True (.map (C.base+d)) (fR hp (C.base+d) (.map κ ν [])) [C.base+d]else none
   |_,_=>none
  |_,_,_=>none
 | .mapEntry t m k=>match look C.mp t,e m,e k with
  |some (tk,tv),.map id,.data κ' x=>match look C.ty tk,look C.ty tv,aw hp id with
   |some κ0,some ν0,some (.map κ ν l)=>if h:κ'=κ then
     if κ0=κ/\ν0=ν/\κ.key=true/\ν.plain=true/\ν.scalar=true then
      Cd (blt l.length 9223372036854775807=true)
       (.tup [.data ν (jm (h▸x) ν.zero (pK (az κ) (h▸x) ν.zero l) (eU (az κ) (h▸x) l)),.data (.int .i64) (eU (az κ) (h▸x) l:Nat)])
       (fR hp id (.map κ ν (pK (az κ) (h▸x) ν.zero l))) [id]
     else none
    else none
   |_,_,_=>none
  |_,_,_=>none
 | .mapUpdate t m k y=>match look C.mp t,e m,e k,e y with
  |some (tk,tv),.map id,.data κ' x,.data ν' z=>match look C.ty tk,look C.ty tv,aw hp id with
   |some κ0,some ν0,some (.map κ ν l)=>if h:κ'=κ then if h2:ν'=ν then
     if κ0=κ/\ν0=ν/\κ.key=true/\ν.scalar=true then
      Cd True .any (fR hp id (.map κ ν (Jl (az κ) (h▸x) (h2▸z) l))) [id]
     else none
    else none
    else none
   |_,_,_=>none
  |_,_,_,_=>none
 | .entryStore t m n y=>match look C.mp t,e m,e n,e y with
  |some (_,tv),.map id,.data (.int _) i,.data ν' z=>match look C.ty tv,aw hp id with
   |some ν0,some (.map κ ν l)=>if h:ν'=ν then
     if ν0=ν/\ν.scalar=true then
      Cd (0<=(i:Int)/\(i:Int)<(l.length:Int)) .any (fR hp id (.map κ ν (rV l (i:Int).toNat (h▸z)))) [id]
     else none
    else none
   |_,_=>none
  |_,_,_,_=>none
 | .makeSlice t len cap=>match look C.ty t,dst,e len,e cap with
  |some (.sl τ),some d,.data (.int k) n,.data (.int k') m=>if free hp (C.base+d)&&τ.plain&&decide (k= .i64)&&decide (k'= .i64)then
    Cd (0<=(n:Int)/\(m:Int)=(n:Int)/\eF (n:Int).toNat τ.bytes=true) (.app (C.base+d) 0) (fR hp (C.base+d) (.buf τ (replicate (n:Int).toNat τ.zero) 0 false)) [C.base+d]
   else none
  |_,_,_,_=>none
 | .slice t x lo hi mx=>match e x,look C.ty t with
  | .app id ver,some (.sl τ)=>match aw hp id with
   |some (.buf τ' l ver' _)=>if τ=τ'/\beq ver ver'=true then match lz e τ' l lo hi mx with
    |some (.val c i v)=>some (.eff c i v (frz hp (.app id ver)) [id])
    |_=>none
    else none
   |_=>none
  |_,_=>none
 | .call c=>match c.callee with
  | .builtin .append=>match c.args.toList,c.argTypes.toList with
   |[x,xs],[t,t']=>if t=t' then match look C.ty t with
    |some (.sl τ)=>nX C hp dst τ (o7 (.sl τ) (r x)) (rd hp (o7 (.sl τ) (e xs)))
    |_=>none
    else none
   |_,_=>none
  | .builtin .copy=>match c.args.toList,c.argTypes.toList with
   |[x,xs],[t,_]=>match look C.ty t with
    |some (.sl τ)=>yC hp τ (r x) (rd hp (o7 (.sl τ) (e xs)))
    |_=>none
   |_,_=>none
  | .builtin _=>none
  |_=>match target C r c with
   |some (f,args)=>match C.fn f with
    |some F=>match getArgs F.ps (uL hp args)with
     |some a=>some (.call F a (my hp args) (V.iw args))
     |none=>none
    |none=>match C.sh f with
     |some h=>pX C hp dst h args
     |none=>none
   |none=>none
 |_=>none
def Pb(g:Option Gd)(F:Fn)(a:F.ps.den):Option F.rs.den:=match g with
 |none=>F.run a
 |some g=>if g.b then F.run a else some F.rs.zero
def po(S:St)(o:Oper):List Nat:=
 let vs:=o.op.operands.toList.map (ev S.fr)
 match o.op with
 | .call c=>match c.callee with
  | .builtin _=>V.iw vs
  |_=>reach S.hp vs
 | .lookup _ _ _ _=>[]
 | .move _=>[]
 | .assign _=>[]
 |_=>V.iw vs
def mQ(S:St)(o:Oper):List Nat:=match o.op with
 | .lookup _ _ _ _=>V.iw (o.op.operands.toList.map (ev S.fr))
 |_=>[]
def B9:Op->List Nat->List Nat
 | .mapEntry _ _ _,_=>[]
 |_,wr=>wr
def wM(L:List Nat)(d:aP):List Nat:=(d.map (·.1)).filter fun i=>!mem L i
def once:List Nat->Bool
 |[]=>true
 |i::r=>match mem r i with
  |true=>false
  |false=>once r
def Cp:Option Gd->Option Bool
 |none=>some true
 |some g=>match g.sure with
  |true=>some g.b
  |false=>none
def T{α:Type}(C:Ctx)(g:Option Gd)(o:Oper)(S:St)(K:List Nat->St->Option α):Option α:=
 match m8 C g S.fr S.hp o.op with
 |some (.val c i v)=>FG g c i (K [] ⟨k9 S.fr o.dst (tag g (jN C o.type v)),S.hp⟩)
 |some (.call F a _ _)=>(Pb g F a).bind fun r=>K [] ⟨k9 S.fr o.dst (tag g (jN C o.type (F.out r))),S.hp⟩
 |some (.new v)=>K [] ⟨k9 S.fr o.dst (tag g (jN C o.type v)),S.hp⟩
 |some _=>none
 |none=>
  match Cp g with
  |none=>none
  |some false=>K [] ⟨k9 S.fr o.dst (tag g .any),S.hp⟩
  |some true=>match oR C g S.fr S.hp o.dst o.op with
   |some (.eff c i v hp wr)=>FG none c i (K wr ⟨k9 S.fr o.dst (tag g (jN C o.type v)),hp⟩)
   |some (.call F a hp wr)=>(F.run a).bind fun r=>K wr ⟨k9 S.fr o.dst (tag g (jN C o.type (F.out r))),hp⟩
   |some (.sh s L)=>s.o.bind fun y=>s.cs α (fun vh=>match kW S.hp (wM L vh.2)&&once (vh.2.map (·.1))with
    |true=>K (L++vh.2.map (·.1)) ⟨k9 S.fr o.dst (tag g (jN C o.type vh.1)),iV vh.2 S.hp⟩
    |false=>none) y
   |_=>none
def guardOf(ops:Array Oper)(fr:List V)(o:Oper):Option (Option Gd):=
 match o.guard with
 |none=>some none
 |some (j,w)=>match(ops[j]?).bind (·.dst)with
  |none=>none
  |some d=>if o.dst=some d then none else match nth fr d with
   | .data .bool b=>some (some ⟨d,w,(b==w),true⟩)
   | .opt _ _ (.data .bool b)=>some (some ⟨d,w,(b==w),false⟩)
   |_=>none
def Fm{α:Type}(C:Ctx)(ops:Array Oper):List Oper->St->(St->Option α)->Option α
 |[],S,K=>K S
 |o::r,S,K=>
  match guardOf ops S.fr o with
  |none=>none
  |some g=>T C g o S (fun _ S'=>Fm C ops r S' K)
structure Rec where
 rd:List Nat
 wr:List Nat
 rv:List Nat
 wv:List Nat
def u0(a b:List Nat):Bool:=!(a.any (mem b))
def qM(x y:Rec):Bool:=u0 x.wr y.rd&&u0 x.wr y.wr&&u0 y.wr x.rd&&u0 x.wv y.rv&&u0 y.wv x.rv
def SW(acc:List Nat)(es:List Edge):Nat:=
 es.foldl (fun m e=>if Region.binds .any e then m|||2^e.on|||acc.getD e.on 0 else m) 0
def wL:List Oper->List Nat->List Nat
 |[],acc=>acc
 |o::r,acc=>wL r (acc++[SW acc o.after.toList])
def Hr(m:Nat)(x:Rec):Nat->List Rec->Bool
 |_,[]=>true
 |j,y::r=>(m.testBit j||qM y x)&&Hr m x (j+1) r
def Fl{α:Type}(C:Ctx)(ops:Array Oper)(ms:List Nat):List Oper->List Rec->St->(St->Option α)->Option α
 |[],_,S,K=>K S
 |o::r,acc,S,K=>
  match guardOf ops S.fr o with
  |none=>none
  |some g=>T C g o S (fun wr S'=>match Hr (ms.getD acc.length 0) ⟨po S o,wr,mQ S o,B9 o.op wr⟩ 0 acc with
   |true=>Fl C ops ms r (acc++[⟨po S o,wr,mQ S o,B9 o.op wr⟩]) S' K
   |false=>none)
inductive Ex where
 |normal|exit (id:Nat)|ret
def uC(l:List Nat):Nat->List V->List V
 |_,[]=>[]
 |i,v::r=>(if mem l i then gD v else .any)::uC l (i+1) r
def LX(f:V->V):List Nat->V->Option V
 |[],v=>some (f v)
 |j::p,.agg t l=>if blt j l.length=true then match LX f p (nth l j),mf t [.fld j]with
  |some z,some u=>if fits u z=true then some (o0 t (l.set j z))else none
  |_,_=>none
  else none
 |_::_,_=>none
def nE:List Nat->V->V
 |[],v=>v
 |j::p,.agg _ l=>nE p (nth l j)
 |_::_,_=>.any
def V3(hp:aP)(v:V):V:=match rd hp v with
 | .data t x=>.data t x
 |_=>.any
def vI(C:Ctx)(i:Nat)(slot:Bool)(S:St):Option V:=match slot with
 |true=>some (gD (nth S.fr i))
 |false=>match aw S.hp i with
  |some (.cell _ v _)=>some v
  |_=>none
def z7(C:Ctx)(i:Nat)(slot:Bool)(S:St)(v:V):Option St:=match slot with
 |true=>some ⟨S.fr.set i v,S.hp⟩
 |false=>match aw S.hp i with
  |some (.cell t _ z)=>if fits t v=true then some ⟨S.fr,fR S.hp i (.cell t v z)⟩else none
  |_=>none
def ES(C:Ctx)(i:Nat):Nat:=match blt i C.base with
 |true=>1
 |false=>0
def HP(C:Ctx)(i:Nat):jX->jX
 | .buf t l _ z=>.buf t l (ES C i) z
 |b=>b
def uD(C:Ctx)(R:List Nat)(hp:aP)(i ver:Nat):Option (Nat×Nat):=
 match blt i C.base||mem R i with
 |true=>match aw hp i with
  |some (.buf _ _ cur _)=>if beq ver cur=true then some (i,ES C i)else none
  |some _=>some (i,ver)
  |none=>none
 |false=>none
def U9(C:Ctx)(fr:List V)(hp:aP)(R:List Nat):St:=
 ⟨n9 (uD C R hp) fr,(hp.filter fun x=>blt x.1 C.base||mem R x.1).map fun x=>(x.1,HP C x.1 (pU (uD C R hp) x.2))⟩
def tidy(C:Ctx)(l:List Nat)(S:St):St:=
 U9 C (uC l 0 S.fr) S.hp (mo S.hp 6 (ui [] (V.iw (uC l 0 S.fr)++(S.hp.flatMap fun x=>match blt x.1 C.base with|true=>EC (some x.2)|false=>[]))))
def QB(j cur i:Nat)(a v:Nat):Option (Nat×Nat):=match beq a j&&beq v cur with
 |true=>some (i,0)
 |false=>some (a,v)
def DF(j cur i:Nat)(t:Ty)(l:List t.den)(z:Bool)(S:St):St:=
 ⟨n9 (QB j cur i) S.fr,fR (fR (S.hp.map fun x=>(x.1,pU (QB j cur i) x.2)) j (.buf t [] (cur+1) z)) i (.buf t l 0 z)⟩
def DH(C:Ctx)(S:St):Norm->Option St
 | .dat slot i p=>match vI C i slot S with
  |some v=>match LX (V3 S.hp) p v with
   |some v'=>z7 C i slot ⟨S.fr,frz S.hp (nE p v)⟩ v'
   |none=>none
  |none=>none
 | .melt slot i p id z=>match vI C i slot S with
  |some v=>match nE p v with
   | .full t l=>if(free S.hp (C.base+id)&&(z||l.isEmpty))=true then match LX (fun _=>.app (C.base+id) 0) p v with
    |some v'=>z7 C i slot ⟨S.fr,fR S.hp (C.base+id) (.buf t l 0 z)⟩ v'
    |none=>none
    else none
   | .app _ _=>some S
   |_=>none
  |none=>none
 | .tid l=>some (tidy C l S)
 | .name slot i p id=>match vI C i slot S with
  |some v=>match nE p v with
   | .app j ver=>match aw S.hp j with
    |some (.buf t l cur z)=>match beq ver cur,beq j (C.base+id),free S.hp (C.base+id)with
     |true,true,_=>some S
     |true,false,true=>some (DF j cur (C.base+id) t l z S)
     |_,_,_=>none
    |_=>none
   |_=>none
  |none=>none
def Ko(C:Ctx):List Norm->St->Option St
 |[],S=>some S
 |n::l,S=>match DH C S n with
  |some S'=>Ko C l S'
  |none=>none
abbrev clean{α:Type}(C:Ctx)(key:Nat)(S:St)(K:St->Option α):Option α:=match look C.live key with
 |none=>K S
 |some l=>match look C.norm key with
  |none=>K (tidy C l S)
  |some ns=>match Ko C ns S with
   |some S'=>K (tidy C l S')
   |none=>none
def oV:Code->Nat
 | .region id _ _=>id+1
 | .seq a b=>match oV a with
  |0=>oV b
  |n+1=>n+1
 | .cond _ a b=>match oV a with
  |0=>oV b
  |n+1=>n+1
 | .block _ c=>oV c
 | .loop c=>oV c
 | .scope c=>oV c
 |_=>0
def ka:Code->Nat
 | .region id _ _=>3*id
 | .seq a b=>match a with
  | .label _=>ka b
  | .skip=>ka b
  |_=>ka a
 | .block _ c=>ka c
 | .loop c=>ka c
 | .scope c=>ka c
 | .cond c x y=>3*oV (.cond c x y)+5
 |_=>5
def iter{α:Type}(F:(St->Option α)->St->Option α):Nat->St->Option α
 |0,_=>none
 |k+1,S=>F (iter F k) S
abbrev wX{α:Type}(n:St->Option α)(Q:Ex->St->Option α):Ex->St->Option α
 | .normal,S=>n S
 |e,S=>Q e S
abbrev Ao{α:Type}(C:Ctx)(id:Nat)(Q:Ex->St->Option α):Ex->St->Option α
 | .exit i,S=>if beq i id=true then Q .normal S else Q (.exit i) S
 | .normal,S=>clean C (3*id+1) S (Q .normal)
 |e,S=>Q e S
def strip:V->V
 | .opt _ _ _=>.any
 |v=>v
def p0(S:St):St:=⟨S.fr.map strip,S.hp⟩
def den{α:Type}(C:Ctx)(k:Nat):Code->(Ex->St->Option α)->St->Option α
 | .skip,Q,S=>Q .normal S
 | .label _,Q,S=>Q .normal S
 | .region _ ops draw,Q,S=>match draw with
  |false=>Fm C ops ops.toList S (Q .normal)
  |true=>Fl C ops (wL ops.toList []) ops.toList [] (p0 S) (Q .normal)
 | .seq a b,Q,S=>den C k a (wX (fun S=>clean C (ka b) S (den C k b Q)) Q) S
 | .cond c x y,Q,S=>match ev S.fr c with
  | .data .bool t=>if(t:Bool)=true then den C k x Q S else den C k y Q S
  |_=>none
 | .block id c,Q,S=>den C k c (Ao C id Q) S
 | .loop c,Q,S=>clean C (ka c) S (iter (fun next=>den C k c (wX (fun S=>clean C (ka c) S next) Q)) k)
 | .scope c,Q,S=>den C k c Q S
 | .exit id,Q,S=>clean C (3*id+1) S (Q (.exit id))
 | .ret,Q,S=>clean C 2 S (Q .ret)
 |_,_,_=>none
def QO(C:Ctx)(S:St):ResultVar->Option V
 | .tmp t=>some (gD (nth S.fr t))
 | .cell a t=>match look C.ty t,nth S.fr a with
  |some τ,.ref id _ []=>match aw S.hp id with
   |some (.cell σ c _)=>if σ=τ then some (gD c)else none
   |_=>none
  |_,_=>none
def Jf(C:Ctx)(S:St):List ResultVar->Option (List V)
 |[]=>some []
 |r::l=>match QO C S r,Jf C S l with
  |some v,some vs=>some (v::vs)
  |_,_=>none
def O7(C:Ctx)(S:St)(rv:List ResultVar):Option V:=match Jf C S rv with
 |some [v]=>some v
 |some l=>some (.tup l)
 |none=>none
def fin(C:Ctx)(rv:List ResultVar)(t:Ty)(multi:Bool):Ex->St->Option t.den
 | .exit _,_=>none
 |_,S=>match multi,Jf C S rv with
  |false,some [v]=>match rd S.hp v with
   | .data t' x=>uv t' t x
   |_=>none
  |true,some l=>if beq l.length 1=true then none else getArgs t (uL S.hp l)
  |_,_=>none
def xE{Y:Type}(C:Ctx)(rv:List ResultVar)(X:V->aP->Option Y):Ex->St->Option Y
 | .exit _,_=>none
 |_,S=>match O7 C S rv with
  |some v=>X v S.hp
  |none=>none
def pZ(args:List V)(hp:aP)(n:Nat):St:=⟨args++replicate (n-args.length) .any,hp⟩
def start(F:Fn)(n:Nat)(x:F.ps.den):St:=pZ (spread F.ps x) [] n
end Go.Bx
namespace Go.Bx
open Go Go.RowKit
structure Env where
 w:World
 im:Nat->Nat->Prop
def jX.im(m:Nat):jX->Prop
 | .cell t _ z=>z=true/\m<=t.size
 | .buf t l _ z=>z=true/\m<=l.length*t.size
 | .map _ _ _=>False
structure GE where
 w:World
 β:Nat->Option Nat
 σ:Nat->Value
 hp:aP
 n0:Nat
 Bo:Nat->Prop
 I0:Nat->Nat->Prop
def GE.named(G:GE)(b:Nat):Prop:=∃id blk,aw G.hp id=some blk/\G.β id=some b
def GE.im(G:GE)(b m:Nat):Prop:=
 (G.I0 b m\/G.n0<=b\/G.Bo b)/\b<G.w.heap.size/\∀id blk,aw G.hp id=some blk->G.β id=some b->blk.im m
def GE.env(G:GE):Env:=⟨G.w,G.im⟩
def df{α β:Type}(R:α->β->Prop):List α->List β->Prop
 |[],[]=>True
 |a::l,b::m=>R a b/\df R l m
 |_,_=>False
def an(E:Env):(t:Ty)->t.den->List Value->Prop
 | .int k,n,cs=>cs=[.int k n]/\pq k n=true
 | .bool,b,cs=>cs=[.bool b]
 | .str,l,cs=>∃s,cs=[.string s]/\bytesOf s=l/\s.size<=maxLen
 | .arr n t,l,cs=>l.length=n/\∃css:List (List Value),cs=css.flatten/\df (an E t) l css
 | .sl t,l,cs=>(l=([]:List t.den)/\cs=[.slice none 0 0])\/
   ∃(a:Addr)(cap:Nat)(css:List (List Value)),cs=[.slice (some a) (l:List t.den).length cap]/\(a.spot=none\/l=([]:List t.den))/\(l:List t.den).length<=cap/\cap<=maxLen/\
    df (an E t) l css/\(css.flatten=[]\/∃m,a.off+css.flatten.length<=m/\E.im a.block m)/\∀j v,css.flatten[j]? =some v->E.w.cell? ⟨a.block,a.off+j,none⟩=some v
 | .unit,_,cs=>cs=[]
 | .pair a b,x,cs=>∃c1 c2,cs=c1++c2/\an E a x.1 c1/\an E b x.2 c2
 | .opq,_,_=>False
structure Ext(E E':Env):Prop where
 im:∀b m,E.im b m->E'.im b m
 cell:∀b m,E.im b m->∀j,j<m->E'.w.cell? ⟨b,j,none⟩=E.w.cell? ⟨b,j,none⟩
theorem df.mono{α β:Type}{R R':α->β->Prop}(h:∀a b,R a b->R' a b):∀{l:List α}{m:List β},df R l m->df R' l m
 |[],[],_=>trivial
 |_::_,_::_,⟨h1,h2⟩=>⟨h _ _ h1,df.mono h h2⟩
theorem df.length{α β:Type}{R:α->β->Prop}:∀{l:List α}{m:List β},df R l m->l.length=m.length
 |[],[],_=>rfl
 |_::_,_::_,⟨_,h2⟩=>by simp[df.length h2]
theorem df.get{α β:Type}{R:α->β->Prop}:∀{l:List α}{m:List β},df R l m->∀(i:Nat)(hi:i<l.length),∃hm:i<m.length,R l[i] m[i]
 |_::_,_::_,⟨h1,_⟩,0,_=>⟨by simp,h1⟩
 |_::_,_::_,⟨_,h2⟩,i+1,hi=>by obtain⟨hm,h⟩:=df.get h2 i (by simpa using hi);grind
theorem df.set{α β:Type}{R:α->β->Prop}:∀{l:List α}{m:List β},df R l m->∀(i:Nat)(a:α)(b:β),R a b->df R (l.set i a) (m.set i b)
 |[],[],_,_,_,_,_=>trivial
 |_::_,_::_,⟨_,h2⟩,0,_,_,h=>⟨h,h2⟩
 |_::_,_::_,⟨h1,h2⟩,i+1,a,b,h=>⟨h1,df.set h2 i a b h⟩
theorem an.ext{E E':Env}(h:Ext E E'):∀(t:Ty)(x:t.den)(cs:List Value),an E t x cs->an E' t x cs
 | .int _,_,_,hx=>hx
 | .bool,_,_,hx=>hx
 | .str,_,_,hx=>hx
 | .arr _ t,_,_,⟨hl,css,hc,ha⟩=>⟨hl,css,hc,ha.mono fun a b hab=>an.ext h t a b hab⟩
 | .sl t,_,_,hx=>by
  rcases hx with hx|⟨a,cap,css,hc,hs,hl,hcap,ha,hi,hcell⟩
  ·exact .inl hx
  ·refine .inr ⟨a,cap,css,hc,hs,hl,hcap,ha.mono fun a b hab=>an.ext h t a b hab,hi.imp id (fun⟨m,hm,hi⟩=>⟨m,hm,h.im _ _ hi⟩),fun j v hj=>?_⟩;have hjl:j<css.flatten.length:=by
    grind
   rcases hi with hi|⟨m,hm,hi⟩
   ·grind
   ·rw[h.cell _ _ hi _ (by omega)];exact hcell j v hj
 | .unit,_,_,hx=>hx
 | .pair a b,x,_,⟨c1,c2,hc,h1,h2⟩=>⟨c1,c2,hc,an.ext h a x.1 c1 h1,an.ext h b x.2 c2 h2⟩
 | .opq,_,_,hx=>hx
theorem df.dX{α:Type}{R:α->List Value->Prop}{n:Nat}(h:∀a cs,R a cs->cs.length=n):∀{l:List α}{css:List (List Value)},df R l css->css.flatten.length=l.length*n
 |[],[],_=>by simp
 |_::l,_::_,⟨h1,h2⟩=>by have:=df.dX h h2;grind
theorem an.length{E:Env}:∀(t:Ty)(x:t.den)(cs:List Value),an E t x cs->cs.length=t.size
 | .int _,_,_,hx=>by simp[hx.1,Ty.size]
 | .bool,_,_,hx=>by simp only[an]at hx;simp[hx,Ty.size]
 | .str,_,_,⟨s,hc,_⟩=>by simp[hc,Ty.size]
 | .arr n t,l,cs,⟨hl,css,hc,ha⟩=>by rw[hc,df.dX (fun a cs h=>an.length t a cs h) ha];simp only[Ty.size];rw[hl]
 | .sl t,_,_,hx=>by
  rcases hx with ⟨_,hx⟩|⟨a,cap,css,hc,_⟩
  ·simp[hx,Ty.size]
  ·simp[hc,Ty.size]
 | .unit,_,_,hx=>by simp only[an]at hx;simp[hx,Ty.size]
 | .pair a b,x,_,⟨c1,c2,hc,h1,h2⟩=>by have e1:=an.length a x.1 c1 h1;have e2:=an.length b x.2 c2 h2;simp[hc,e1,e2,Ty.size]
 | .opq,_,_,hx=>hx.elim
def fC(v:Value):Prop:=v.cells= #[v]/\(∀vs,v≠ .tuple vs)/\(∀vs,v≠ .agg vs)
theorem kX{α:Type}{R:α->List Value->Prop}{p:Value->Prop}(h:∀a cs,R a cs->∀v∈cs,p v):∀{l:List α}{css:List (List Value)},df R l css->∀v∈css.flatten,p v
 |[],[],_,v,hv=>by simp at hv
 |_::_,_::_,⟨h1,h2⟩,v,hv=>by
  simp only[flatten_cons,List.mem_append]at hv;rcases hv with hv|hv
  ·grind
  ·exact kX h h2 v hv
theorem an.cell{E:Env}:∀(t:Ty)(x:t.den)(cs:List Value),an E t x cs->∀v∈cs,fC v
 | .int _,_,_,hx,v,hv=>by rw[hx.1]at hv;simp at hv;subst hv;simp[fC,Value.cells]
 | .bool,_,_,hx,v,hv=>by simp only[an]at hx;rw[hx]at hv;simp at hv;subst hv;simp[fC,Value.cells]
 | .str,_,_,⟨s,hc,_⟩,v,hv=>by rw[hc]at hv;simp at hv;subst hv;simp[fC,Value.cells]
 | .arr n t,l,cs,⟨hl,css,hc,ha⟩,v,hv=>by rw[hc]at hv;exact kX (fun a cs h=>an.cell t a cs h) ha v hv
 | .sl t,_,_,hx,v,hv=>by
  rcases hx with ⟨_,hx⟩|⟨a,cap,css,hc,_⟩
  ·rw[hx]at hv;simp at hv;subst hv;simp[fC,Value.cells]
  ·rw[hc]at hv;simp at hv;subst hv;simp[fC,Value.cells]
 | .unit,_,_,hx,v,hv=>by simp only[an]at hx;simp[hx]at hv
 | .pair a b,x,_,⟨c1,c2,hc,h1,h2⟩,v,hv=>by
  rw[hc,List.mem_append]at hv;rcases hv with hv|hv
  ·exact an.cell a x.1 c1 h1 v hv
  ·exact an.cell b x.2 c2 h2 v hv
 | .opq,_,_,hx,_,_=>hx.elim
def i5(E:Env)(t:Ty)(x:t.den)(v:Value):Prop:=
 match t.isAgg with
 |true=>∃cs,v= .agg cs/\an E t x cs.toList
 |false=>an E t x [v]
def jY(E:GE)(id ver:Nat)(p:List Step)(v:Value):Prop:=match aw E.hp id with
 |some (.cell t _ _)=>∃b o u,E.β id=some b/\aX t p=some (o,u)/\v= .pointer (some ⟨b,o,none⟩)
 |some (.buf t l ver' _)=>ver<=ver'/\(∃a,v= .pointer (some a))/\(ver=ver'->∃b i q o u,p= .idx i::q/\E.β id=some b/\0<=i/\i.toNat<l.length/\aX t q=some (o,u)/\v= .pointer (some ⟨b,i.toNat*t.size+o,none⟩))
 |_=>False
def lh(E:GE)(id ver:Nat)(v:Value):Prop:=match aw E.hp id with
 |some (.buf _ _ ver' _)=>ver<=ver'/\(∃a n c,v= .slice a n c)/\(ver=ver'->v=E.σ id)
 |_=>False
def lj(E:GE)(id:Nat)(p:List Step)(t:Ty)(n:Nat)(lo hi:Int)(v:Value):Prop:=match aw E.hp id with
 |some (.cell c _ _)=>∃b o,E.β id=some b/\aX c p=some (o,.arr n t)/\0<=lo/\lo<=hi/\hi<=(n:Int)/\n<=maxLen/\v= .slice (some (if lo.toNat=n then⟨b,o,none⟩else⟨b,o+lo.toNat*t.size,none⟩)) (hi.toNat-lo.toNat) (n-lo.toNat)
 |_=>False
def np(E:GE)(id:Nat)(v:Value):Prop:=match aw E.hp id with
 |some (.map _ _ _)=>∃b,E.β id=some b/\v= .map (some b)
 |_=>False
def V.tree:V->Bool
 | .data _ _=>true
 | .agg _ _=>true
 |_=>false
structure xl(a:Ty)(v:V)(x:Value):Prop where
 tree:a.isAgg=true->v.tree=true
 agg:a.isAgg=true->∃c,x= .agg c
 one:a.isAgg=false->fC x
 size:x.cells.size=a.size
 data:∀t y,v= .data t y->t=a
 part:∀t l,v= .agg t l->t=a
mutual
def bC(E:GE)(tm:Array Value):V->Value->Prop
 | .any,_=>True
 | .data t x,v=>i5 E.env t x v
 | .nilp,v=>v= .pointer none
 | .snil,v=>v= .slice none 0 0
 | .ref id ver p,v=>jY E id ver p v
 | .iref t x,v=>∃a ds,v= .pointer (some a)/\a.spot=none/\(ds=[]\/∃m,a.off+ds.length<=m/\E.im a.block m)/\(∀j u,ds[j]? =some u->E.w.cell? ⟨a.block,a.off+j,none⟩=some u)/\an E.env t x ds
 | .tup l,v=>∃vs,v= .tuple vs/\iH E #[] l vs.toList
 | .opt d w u,v=>(tm[d]? =some (.bool w)->bC E #[] u v)/\(tm[d]? ≠some (.bool w)->v=undef)
 | .fn f a b,v=>∃xs ys,v= .func (.func f) xs ys/\iH E #[] a xs.toList/\iH E #[] b ys.toList
 | .full t l,v=>an E.env (.sl t) l [v]/\∃a n,v= .slice a n n
 | .app id ver,v=>lh E id ver v
 | .view id p t n lo hi,v=>lj E id p t n lo hi v
 | .agg t l,v=>∃cs,v= .agg cs/\dE E t l cs.toList
 | .ifc t u,v=>∃x,v= .iface t x/\bC E #[] u x
 | .map id,v=>np E id v
 | .mth m u,v=>∃x,v= .func (.method m) #[x] #[]/\bC E #[] u x
 | .glob g,v=>v= .pointer (some ⟨g,0,none⟩)
def iH(E:GE)(tm:Array Value):List V->List Value->Prop
 |[],[]=>True
 |v::l,x::m=>bC E tm v x/\iH E tm l m
 |_,_=>False
def dE(E:GE):Ty->List V->List Value->Prop
 |t,[],cs=>i6 t=none/\t.isAgg=true/\cs=[]
 |t,v::l,cs=>∃a r x cs',i6 t=some (a,r)/\cs=x.cells.toList++cs'/\xl a v x/\bC E #[] v x/\dE E r l cs'
end
def dZ(E:GE)(t:Ty)(v:V)(cs:List Value):Prop:=∃x,cs=x.cells.toList/\xl t v x/\bC E #[] v x
def Vs(E:GE)(id:Nat)(t:Ty)(l:List t.den):Prop:=∃b arr ty css cap rest,E.β id=some b/\E.σ id= .slice (some ⟨b,0,none⟩) l.length cap/\E.w.heap[b]? =some (.cells arr ty (0,0))/\
 df (an E.env t) l css/\arr.toList=css.flatten++rest/\arr.size=cap*t.size/\l.length<=cap/\cap<=maxLen
def Vu(E:GE)(id:Nat)(t:Ty)(l:List t.den)(z:Bool):Prop:=E.β id=none/\(z=true\/l=[])/\an E.env (.sl t) l [E.σ id]/\∃a n,E.σ id= .slice a n n
def rI(E:Env)(k v:Ty)(p:k.den×v.den)(e:MapEntry):Prop:=i5 E k p.1 e.key/\i5 E v p.2 e.val
def rG(E:GE)(id:Nat):jX->Prop
 | .cell t v _=>∃b arr ty,E.β id=some b/\E.w.heap[b]? =some (.cells arr ty (0,0))/\dZ E t v arr.toList
 | .buf t l _ z=>Vs E id t l\/Vu E id t l z
 | .map k v l=>∃b es clock,E.β id=some b/\E.w.heap[b]? =some (.map es clock)/\df (rI E.env k v) l es.toList/\clock=es.size/\∀(i:Nat)(e:MapEntry),es[i]? =some e->e.born=i
def sf(E:Env):Prop:=∀g v,look Gn g=some v->∃ds,(ds=[]\/∃m,ds.length<=m/\E.im g m)/\(∀j u,ds[j]? =some u->E.w.cell? ⟨g,j,none⟩=some u)/\an E v.t v.x ds
theorem sf.ext{E E':Env}(h:sf E)(k:Ext E E'):sf E':=fun g v hv=>by
 obtain⟨ds,h1,h2,h3⟩:=h g v hv;refine⟨ds,h1.imp id fun⟨m,hm,hi⟩=>⟨m,hm,k.im _ _ hi⟩,fun j u hj=>?_,h3.ext k⟩;have hjl:j<ds.length:=by grind
 rcases h1 with h1|⟨m,hm,hi⟩
 ·grind
 ·rw[k.cell _ _ hi _ (by omega)];exact h2 j u hj
structure Vj(w:World)(I:Nat->Nat->Prop):Prop where
 lt:∀b m,I b m->b<w.heap.size
 glob:sf ⟨w,I⟩
structure cW(G:GE):Prop where
 glob:sf G.env
 blk:∀id blk,aw G.hp id=some blk->rG G id blk
 inj:∀id id' blk blk' b,aw G.hp id=some blk->aw G.hp id'=some blk'->G.β id=some b->G.β id'=some b->id=id'
 own:∀b,G.named b->G.n0<=b\/G.Bo b
 base:G.n0<=G.w.heap.size
def zc:Ty->List Value
 | .int k=>[.int k 0]| .bool=>[.bool false]| .str=>[.string ByteArray.empty]| .arr n t=>(replicate n (zc t)).flatten
 | .sl _=>[.slice none 0 0]| .unit=>[]| .pair a b=>zc a++zc b| .opq=>[.pointer none]
def zJ:Ty->List Value->Prop
 | .opq,cs=>∃x,cs=[x]/\fC x
 | .pair a b,cs=>∃c1 c2,cs=c1++c2/\zJ a c1/\zJ b c2
 | .arr n t,cs=>∃css:List (List Value),css.length=n/\cs=css.flatten/\∀c∈css,zJ t c
 | .int k,cs=>cs=zc (.int k)
 | .bool,cs=>cs=zc .bool
 | .str,cs=>cs=zc .str
 | .sl t,cs=>cs=zc (.sl t)
 | .unit,cs=>cs=[]
theorem nD{c:List Value}:∀{css:List (List Value)},(∀d∈css,d=c)->css.flatten=(replicate css.length c).flatten
 |[],_=>rfl
 |d::css,h=>by have h1:=h d (by simp);have ih:=nD (css:=css) fun d hd=>h d (List.mem_cons_of_mem _ hd);grind
theorem m9:∀(t:Ty)(cs:List Value),t.plain=true->zJ t cs->cs=zc t
 | .int _,_,_,h=>h
 | .bool,_,_,h=>h
 | .str,_,_,h=>h
 | .sl _,_,_,h=>h
 | .unit,_,_,h=>h
 | .opq,_,hp,_=>by simp[Ty.plain]at hp
 | .pair a b,cs,hp,⟨c1,c2,e,h1,h2⟩=>by
  have hp':a.plain=true/\b.plain=true:=by simpa[Ty.plain]using hp
  rw[e,m9 a c1 hp'.1 h1,m9 b c2 hp'.2 h2];rfl
 | .arr n t,cs,hp,⟨css,hl,e,h⟩=>by
  have hp':t.plain=true:=by simpa[Ty.plain]using hp
  rw[e,nD (c:=zc t) fun d hd=>m9 t d hp' (h d hd),hl];rfl
def Info(P:Program)(i:TypeId)(τ:Ty):Prop:=
 ∃inf z,P.info? i=some inf/\inf.size=τ.size/\inf.zero=some z/\zJ τ z.cells.toList/\(τ.isAgg=true->∃cs,z= .agg cs)/\(τ.isAgg=false->fC z)/\inf.bytes=τ.bytes
def Fb:TypeDesc->Bool
 | .pointer _=>true
 | .map _ _=>true
 | .func _ _ _=>true
 | .interface _=>true
 |_=>false
mutual
def jo(P:Program):Ty->TypeId->Prop
 | .int k,i=>P.underlying i=some (.int k)/\Info P i (.int k)
 | .bool,i=>P.underlying i=some .bool/\Info P i .bool
 | .str,i=>P.underlying i=some .string/\Info P i .str
 | .arr n t,i=>∃e,P.underlying i=some (.array n e)/\jo P t e/\Info P i (.arr n t)/\(t.cmp=true->P.eqGuardType P.depth i=false)
 | .sl t,i=>∃e,P.underlying i=some (.slice e)/\jo P t e/\Info P i (.sl t)
 | .unit,i=>P.underlying i=some (.struct #[])/\Info P i .unit/\P.stoodInHeld i=false
 | .pair a b,i=>∃fs,P.underlying i=some (.struct fs)/\(∃f r,fs.toList=f::r/\f.offset=0/\a.size≠0/\f.name≠ "_" /\jo P a f.type/\dh P b r (0+a.size))/\Info P i (.pair a b)/\P.stoodInHeld i=false/\((a.cmp&&b.cmp)=true->P.eqGuardType P.depth i=false)
 | .opq,i=>∃d,P.underlying i=some d/\Fb d=true/\Info P i .opq
def dh(P:Program):Ty->List Field->Nat->Prop
 | .unit,fs,_=>fs=[]
 | .pair a b,fs,off=>∃f r,fs=f::r/\f.offset=off/\a.size≠0/\f.name≠ "_" /\jo P a f.type/\dh P b r (off+a.size)
 |_,_,_=>False
end
theorem jo.info{P:Program}{τ:Ty}{i:TypeId}(h:jo P τ i):Info P i τ:=by
 cases τ<;>simp only[jo]at h
 ·exact h.2
 ·exact h.2
 ·exact h.2
 ·grind
 ·grind
 ·exact h.2.1
 ·grind
 grind
theorem Gu(k:IntKind):pq k 0=true:=by cases k<;>decide
theorem oO{α β:Type}{R:α->β->Prop}{a:α}{b:β}(h:R a b):∀n,df R (replicate n a) (replicate n b)
 |0=>trivial
 |n+1=>⟨h,oO h n⟩
theorem an.zero{E:Env}:∀(t:Ty),t.plain=true->an E t t.zero (zc t)
 | .int k,_=>⟨rfl,Gu k⟩
 | .bool,_=>rfl
 | .str,_=>⟨ByteArray.empty,rfl,rfl,by decide⟩
 | .arr n t,h=>⟨by simp[Ty.zero],replicate n (zc t),rfl,oO (an.zero t (by simpa[Ty.plain]using h)) n⟩
 | .sl t,_=>.inl ⟨rfl,rfl⟩
 | .unit,_=>rfl
 | .pair a b,h=>by
  have h':a.plain=true/\b.plain=true:=by simpa[Ty.plain]using h
  exact⟨zc a,zc b,rfl,an.zero a h'.1,an.zero b h'.2⟩
 | .opq,h=>by simp[Ty.plain]at h
theorem fH{α:Type}{R:α->List Value->Prop}{n:Nat}(hn:∀a cs,R a cs->cs.length=n):∀{l:List α}{css:List (List Value)},df R l css->
  ∀(i:Nat)(cs:List Value),css[i]? =some cs->∀j v,cs[j]? =some v->css.flatten[i*n+j]? =some v
 |[],[],_,i,cs,h,_,_,_=>by simp at h
 |_::l,c::css,⟨h1,h2⟩,0,cs,h,j,v,hv=>by grind
 |_::l,c::css,⟨h1,h2⟩,i+1,cs,h,j,v,hv=>by have ih:=fH hn h2 i cs (by simpa using h) j v hv;grind
theorem lZ{E:Env}:∀(t:Ty)(x:t.den)(cs:List Value)(p:List Step)(o:Nat)(u:Ty),an E t x cs->aX t p=some (o,u)->
  ∃z cs',zA t x p= .data u z/\an E u z cs'/\∀j v,cs'[j]? =some v->cs[o+j]? =some v
 |t,x,cs,[],o,u,h,ho=>by
  have:o=0/\u=t:=by cases t<;>simp[aX]at ho<;>exact⟨ho.1.symm,ho.2.symm⟩
  obtain⟨rfl,rfl⟩:=this;exact⟨x,cs,by cases u<;>rfl,h,fun j v hv=>by simpa using hv⟩
 | .arr n t,l,cs,.idx i::p,o,u,h,ho=>by
  simp only[aX]at ho;split at ho
  ·rename_i hi;cases ho2:aX t p with
   |none=>simp[ho2]at ho
   |some q=>
    obtain⟨o2,u2⟩:=q;simp[ho2]at ho;obtain⟨rfl,rfl⟩:=ho;obtain⟨hl,css,hc,ha⟩:=h;have hil:i.toNat<l.length:=by rw[hl];omega
    obtain⟨hm,hr⟩:=ha.get i.toNat hil;have hgd:l.getD i.toNat t.zero=l[i.toNat]:=by simp[List.getD,List.getElem?_eq_getElem hil]
    obtain⟨z,cs',h1,h2,h3⟩:=lZ t (l.getD i.toNat t.zero) css[i.toNat] p o2 u2 (by rw[hgd];exact hr) ho2;refine⟨z,cs',by simp only[zA];exact h1,h2,fun j v hv=>?_⟩;rw[hc,add_assoc];exact fH (fun a cs h=>an.length t a cs h) ha i.toNat _ (List.getElem?_eq_getElem hm) _ _ (h3 j v hv)
  ·cases ho
 | .pair a b,x,cs,.fld 0::p,o,u,h,ho=>by obtain⟨c1,c2,hc,h1,h2⟩:=h;simp only[aX]at ho;obtain⟨z,cs',g1,g2,g3⟩:=lZ a x.1 c1 p o u h1 ho;refine⟨z,cs',by simp only[zA];exact g1,g2,fun j v hv=>?_⟩;grind
 | .pair a b,x,cs,.fld (k+1)::p,o,u,h,ho=>by
  obtain⟨c1,c2,hc,h1,h2⟩:=h;simp only[aX]at ho;cases ho2:aX b (.fld k::p)with
  |none=>simp[ho2]at ho
  |some q=>obtain⟨o2,u2⟩:=q;simp[ho2]at ho;obtain⟨rfl,rfl⟩:=ho;obtain⟨z,cs',g1,g2,g3⟩:=lZ b x.2 c2 (.fld k::p) o2 u2 h2 ho2;refine⟨z,cs',by simp only[zA];exact g1,g2,fun j v hv=>?_⟩;rw[hc,List.getElem?_append_right (by rw[an.length a _ _ h1];omega)];rw[show a.size+o2+j-c1.length=o2+j by rw[an.length a _ _ h1];omega];exact g3 j v hv
 | .int _,_,_,_::_,_,_,_,ho=>by simp[aX]at ho
 | .bool,_,_,_::_,_,_,_,ho=>by simp[aX]at ho
 | .str,_,_,_::_,_,_,_,ho=>by simp[aX]at ho
 | .sl _,_,_,_::_,_,_,_,ho=>by simp[aX]at ho
 | .unit,_,_,_::_,_,_,_,ho=>by simp[aX]at ho
 | .opq,_,_,_::_,_,_,_,ho=>by simp[aX]at ho
 | .arr _ _,_,_,.fld _::_,_,_,_,ho=>by simp[aX]at ho
 | .pair _ _,_,_,.idx _::_,_,_,_,ho=>by simp[aX]at ho
def lay(cs:List Value)(o:Nat)(ds:List Value):List Value:=cs.take o++ds++cs.drop (o+ds.length)
theorem il{a b:Ty}{x:a.den}{y:b.den}(h:uv a b x=some y):∃e:a=b,y=e▸x:=by
 unfold uv at h;split at h
 ·grind
 ·cases h
theorem wH(cs ds:List Value)(h:ds.length=cs.length):lay cs 0 ds=ds:=by simp[lay,h]
theorem ou(c d ds:List Value)(o:Nat):lay (c++d) (c.length+o) ds=c++lay d o ds:=by simp only[lay];rw[List.take_append,List.drop_append,List.take_of_length_le (by omega),List.drop_of_length_le (by omega)];grind
theorem oY(c d ds:List Value)(o:Nat)(h:o+ds.length<=c.length):lay (c++d) o ds=lay c o ds++d:=by simp only[lay];grind
theorem Aj{α:Type}{R:α->List Value->Prop}{n:Nat}(hn:∀a cs,R a cs->cs.length=n):∀{l:List α}{css:List (List Value)},df R l css->
  ∀(i:Nat)(hi:i<css.length)(o:Nat)(ds:List Value),o+ds.length<=n->(css.set i (lay css[i] o ds)).flatten=lay css.flatten (i*n+o) ds
 |[],[],_,i,hi,_,_,_=>by simp at hi
 |_::l,c::css,⟨h1,h2⟩,0,hi,o,ds,ho=>by have hc:=hn _ _ h1;simp only[List.set_cons_zero,flatten_cons,List.getElem_cons_zero,Nat.zero_mul,zero_add];rw[oY _ _ _ _ (by omega)]
 |_::l,c::css,⟨h1,h2⟩,i+1,hi,o,ds,ho=>by
  have ih:=Aj hn h2 i (by simpa using hi) o ds ho;have hc:=hn _ _ h1;have e1:(i+1)*n+o=c.length+(i*n+o):=by rw[hc,add_mul];omega
  simp only[List.set_cons_succ,flatten_cons,List.getElem_cons_succ];rw[ih,e1,ou]
theorem oH{E:Env}:∀(t:Ty)(x:t.den)(cs:List Value)(p:List Step)(o:Nat)(u t':Ty)(y:t'.den)(x':t.den)(ds:List Value),an E t x cs->aX t p=some (o,u)->
  rC t x p t' y=some x'->an E t' y ds->t'=u/\o+ds.length<=cs.length/\an E t x' (lay cs o ds)
 |t,x,cs,[],o,u,t',y,x',ds,h,ho,hu,hy=>by
  have:o=0/\u=t:=by cases t<;>simp[aX]at ho<;>exact⟨ho.1.symm,ho.2.symm⟩
  obtain⟨rfl,rfl⟩:=this;have hu':uv t' u y=some x':=by cases u<;>simpa[rC]using hu
  obtain⟨rfl,rfl⟩:=il hu';have e:ds.length=cs.length:=by rw[an.length _ _ _ h,an.length _ _ _ hy]
  exact⟨rfl,by omega,by rw[wH _ _ e];exact hy⟩
 | .arr n t,l,cs,.idx i::p,o,u,t',y,x',ds,h,ho,hu,hy=>by
  simp only[aX]at ho;split at ho
  ·rename_i hi;cases ho2:aX t p with
   |none=>simp[ho2]at ho
   |some q=>
    obtain⟨o2,u2⟩:=q;simp[ho2]at ho;obtain⟨rfl,rfl⟩:=ho;obtain⟨hl,css,hc,ha⟩:=h;have hil:i.toNat<l.length:=by rw[hl];omega
    obtain⟨hm,hr⟩:=ha.get i.toNat hil;have hgd:l.getD i.toNat t.zero=l[i.toNat]:=by simp[List.getD,List.getElem?_eq_getElem hil]
    simp only[rC]at hu;obtain⟨z,hu2,rfl⟩:=Option.map_eq_some_iff.1 hu;obtain⟨e,hle,hf⟩:=oH t (l.getD i.toNat t.zero) css[i.toNat] p o2 u2 t' y z ds (by rw[hgd];exact hr) ho2 hu2 hy;have hcl:=an.length _ _ _ hr;refine⟨e,?_,by simpa using hl,css.set i.toNat (lay css[i.toNat] o2 ds),?_,ha.set _ _ _ hf⟩
    ·have h1:cs.length=n*t.size:=by rw[hc,df.dX (fun a cs h=>an.length t a cs h) ha,hl]
     have h2:(i.toNat+1)*t.size<=n*t.size:=Nat.mul_le_mul_right _ (by omega);rw[add_mul]at h2;omega
    ·rw[hc,Aj (fun a cs h=>an.length t a cs h) ha i.toNat hm o2 ds (by omega)]
  ·cases ho
 | .pair a b,x,cs,.fld 0::p,o,u,t',y,x',ds,h,ho,hu,hy=>by obtain⟨c1,c2,hc,h1,h2⟩:=h;simp only[aX]at ho;simp only[rC]at hu;obtain⟨z,hu2,rfl⟩:=Option.map_eq_some_iff.1 hu;obtain⟨e,hle,hf⟩:=oH a x.1 c1 p o u t' y z ds h1 ho hu2 hy;exact⟨e,by rw[hc];simp;omega,lay c1 o ds,c2,by rw[hc,oY _ _ _ _ hle],hf,h2⟩
 | .pair a b,x,cs,.fld (k+1)::p,o,u,t',y,x',ds,h,ho,hu,hy=>by
  obtain⟨c1,c2,hc,h1,h2⟩:=h;simp only[aX]at ho;simp only[rC]at hu;cases ho2:aX b (.fld k::p)with
  |none=>simp[ho2]at ho
  |some q=>obtain⟨o2,u2⟩:=q;simp[ho2]at ho;obtain⟨rfl,rfl⟩:=ho;obtain⟨z,hu2,rfl⟩:=Option.map_eq_some_iff.1 hu;obtain⟨e,hle,hf⟩:=oH b x.2 c2 (.fld k::p) o2 u2 t' y z ds h2 ho2 hu2 hy;have hl1:=an.length a _ _ h1;exact⟨e,by rw[hc];simp;omega,c1,lay c2 o2 ds,by rw[hc,<-hl1,ou],h1,hf⟩
 | .int _,_,_,_::_,_,_,_,_,_,_,_,ho,_,_=>by simp[aX]at ho
 | .bool,_,_,_::_,_,_,_,_,_,_,_,ho,_,_=>by simp[aX]at ho
 | .str,_,_,_::_,_,_,_,_,_,_,_,ho,_,_=>by simp[aX]at ho
 | .sl _,_,_,_::_,_,_,_,_,_,_,_,ho,_,_=>by simp[aX]at ho
 | .unit,_,_,_::_,_,_,_,_,_,_,_,ho,_,_=>by simp[aX]at ho
 | .opq,_,_,_::_,_,_,_,_,_,_,_,ho,_,_=>by simp[aX]at ho
 | .arr _ _,_,_,.fld _::_,_,_,_,_,_,_,_,ho,_,_=>by simp[aX]at ho
 | .pair _ _,_,_,.idx _::_,_,_,_,_,_,_,_,ho,_,_=>by simp[aX]at ho
section
variable {P:Program}
theorem rj{v:Value}(h:fC v):v.oneCell'=true:=by
 obtain⟨_,h2,h3⟩:=h;cases v with
 |agg cs=>exact absurd rfl (h3 cs)
 |tuple vs=>exact absurd rfl (h2 vs)
 |_=>rfl
theorem i5.one{E:Env}{t:Ty}{x:t.den}{v:Value}(h:i5 E t x v)(ht:t.isAgg=false):an E t x [v]:=by unfold i5 at h;rw[ht]at h;exact h
theorem i5.agg{E:Env}{t:Ty}{x:t.den}{v:Value}(h:i5 E t x v)(ht:t.isAgg=true):∃cs,v= .agg cs/\an E t x cs.toList:=by unfold i5 at h;rw[ht]at h;exact h
theorem i5.cells{E:Env}{t:Ty}{x:t.den}{v:Value}(h:i5 E t x v):an E t x v.cells.toList:=by
 cases ht:t.isAgg with
 |true=>obtain⟨cs,rfl,hf⟩:=h.agg ht;exact hf
 |false=>have hf:=h.one ht;have:=(an.cell _ _ _ hf v (by simp)).1;rw[this];exact hf
theorem i5.gu{E:Env}{t:Ty}{x:t.den}{v:Value}(hf:an E t x [v])(ht:t.isAgg=false):i5 E t x v:=by unfold i5;rw[ht];exact hf
theorem i5.yU{E:Env}{t:Ty}{x:t.den}{cs:Array Value}(hf:an E t x cs.toList)(ht:t.isAgg=true):i5 E t x (.agg cs):=by unfold i5;rw[ht];exact⟨cs,rfl,hf⟩
theorem i5.ext{E E':Env}(h:Ext E E'){t:Ty}{x:t.den}{v:Value}(hx:i5 E t x v):i5 E' t x v:=by
 cases ht:t.isAgg with
 |true=>obtain⟨cs,rfl,hf⟩:=hx.agg ht;exact .yU (hf.ext h) ht
 |false=>exact .gu ((hx.one ht).ext h) ht
theorem add_plain(a:Addr)(n:Nat)(h:a.spot=none):a.add n=⟨a.block,a.off+n,none⟩:=by obtain⟨b,o,s⟩:=a;simp at h;subst h;unfold Addr.add;split<;>simp_all
theorem mb(w:World){τ:Ty}{t:TypeId}(h:jo P τ t):(isAgg t).run P w= .ok τ.isAgg w:=by
 unfold isAgg;cases τ<;>simp only[jo]at h
 ·simp[run_underlying h.1,Ty.isAgg]
 ·simp[run_underlying h.1,Ty.isAgg]
 ·simp[run_underlying h.1,Ty.isAgg]
 ·obtain⟨e,h,_⟩:=h;simp[run_underlying h,Ty.isAgg]
 ·obtain⟨e,h,_⟩:=h;simp[run_underlying h,Ty.isAgg]
 ·simp[run_underlying h.1,Ty.isAgg]
 ·obtain⟨e,h,_⟩:=h;simp[run_underlying h,Ty.isAgg]
 ·obtain⟨d,h,hd,_⟩:=h;cases d<;>simp[Fb]at hd<;>simp[run_underlying h,Ty.isAgg]
theorem dn(w:World){τ:Ty}{t:TypeId}(h:Info P t τ):(sizeOf t).run P w= .ok τ.size w:=by obtain⟨inf,z,h1,h2,_⟩:=h;simp[sizeOf,typeInfo,h1,h2]
theorem zh(w:World){τ:Ty}{t:TypeId}(h:jo P τ t)(a:Addr)(ha:a.spot=none){E:Env}{x:τ.den}{ds:List Value}(hx:an E τ x ds)
  (hc:∀j v,ds[j]? =some v->w.cell? ⟨a.block,a.off+j,none⟩=some v):∃v,(loadVar t a).run P w= .ok v w/\i5 E τ x v:=by
 have hl:=an.length _ _ _ hx;cases hτ:τ.isAgg with
 |true=>refine⟨.agg ds.toArray,?_,.yU (by simpa using hx) hτ⟩;have hcs:=run_loadCells_list (P:=P) w a ds (fun j v hv=>by rw[add_plain a j ha];exact hc j v hv);rw[hl]at hcs;simp[loadVar,mb w h,hτ,dn w h.info,hcs]
 |false=>
  have hs:τ.size=1:=by cases τ<;>simp[Ty.isAgg]at hτ<;>rfl
  rw[hs]at hl;obtain⟨c,rfl⟩:=List.length_eq_one_iff.1 hl;refine⟨c,?_,.gu hx hτ⟩;have h0:=hc 0 c (by simp);have ea:(⟨a.block,a.off+0,none⟩:Addr)=a:=by obtain⟨b,o,s⟩:=a;simp at ha;subst ha;rfl
  rw[ea]at h0;simp[loadVar,mb w h,hτ,run_load,h0]
theorem o9(w:World){E:Env}{τ:Ty}{t:TypeId}(h:jo P τ t)(cs:Array Value)(off:Nat){x:τ.den}{ds:List Value}(hx:an E τ x ds)
  (hc:(cs.toList.drop off).take τ.size=ds):∃v,(part t cs off).run P w= .ok v w/\i5 E τ x v:=by
 have hl:=an.length _ _ _ hx;cases hτ:τ.isAgg with
 |true=>
  refine⟨.agg (cs.extract off (off+τ.size)),?_,.yU ?_ hτ⟩
  ·simp[part,mb w h,hτ,dn w h.info]
  ·have:(cs.extract off (off+τ.size)).toList=ds:=by
    rw[<-hc];simp[List.extract_eq_take_drop]
   rw[this];exact hx
 |false=>
  have hs:τ.size=1:=by cases τ<;>simp[Ty.isAgg]at hτ<;>rfl
  rw[hs]at hl;obtain⟨c,rfl⟩:=List.length_eq_one_iff.1 hl;refine⟨c,?_,.gu hx hτ⟩;have h0:cs[off]? =some c:=by have:=congrArg (fun l:List Value=>l[0]?) hc;grind
  simp[part,mb w h,hτ,h0]
def qT(d:Nat)(e:TypeId)(xs ys:Array Value)(n:Nat):List Nat->Sem Bool
 |[]=>pure true
 |i::l=>do
  let a<-part e xs (i*n)
  let b<-part e ys (i*n)
  let r<-Op.equalIn d e a b
  if(!r)=true then pure false else qT d e xs ys n l
theorem wU(w:World)(d:Nat)(t e:TypeId)(len n:Nat)(xs ys:Array Value)(ht:P.underlying t=some (.array len e))(hn:∀w,(sizeOf e).run P w= .ok n w):
  (Op.equalIn (d+1) t (.agg xs) (.agg ys)).run P w=(qT d e xs ys n (range' 0 len)).run P w:=by
 simp only[Op.equalIn,Sem.run_bind,run_underlying ht,Result.andThen_ok,hn];simp only[Std.Legacy.Range.forIn_eq_forIn_range',Std.Legacy.Range.size,Nat.sub_zero,Nat.add_sub_cancel,Nat.div_one];generalize hl:range' 0 len=l;clear hl ht;induction l generalizing w with
 |nil=>simp[qT]
 |cons i l ih=>
  simp only[List.forIn_cons,qT,Sem.run_bind];generalize (part e xs (i*n)).run P w=r1;cases r1 with
  |ok a w1=>
   simp only[Result.andThen_ok];generalize (part e ys (i*n)).run P w1=r2;cases r2 with
   |ok b w2=>
    simp only[Result.andThen_ok];generalize (Op.equalIn d e a b).run P w2=r3;cases r3 with
    |ok r w3=>
     cases r
     ·simp only[Result.andThen_ok,Bool.not_false,if_true,Sem.run_pure]
     ·simp only[Result.andThen_ok,Bool.not_true,Bool.false_eq_true,if_false,Sem.run_pure];exact ih w3
    |halt x w3=>simp[Result.andThen]
   |halt x w2=>simp[Result.andThen]
  |halt x w1=>simp[Result.andThen]
end
section
variable {P:Program}
theorem sC(a b:ByteArray):(a.toList==b.toList)=(bytesOf a==bytesOf b):=by
 rw[Bool.eq_iff_iff];simp only[beq_iff_eq];rw[ByteArray.toList_eq,ByteArray.toList_eq];unfold bytesOf;constructor
 ·intro h;rw[h]
 ·intro h;have hinj:∀(l m:List UInt8),l.map (fun b=>(b.toNat:Int))=m.map (fun b=>(b.toNat:Int))->l=m:=by
   intro l;induction l with
   |nil=>intro m h;cases m with
    |nil=>rfl
    |cons _ _=>simp at h
   |cons a l ih=>intro m h;cases m with
    |nil=>simp at h
    |cons b m=>simp only[List.map_cons,List.cons.injEq]at h;have e:a=b:=UInt8.toNat_inj.1 (by omega);rw[e,ih m h.2]
  exact hinj _ _ h
theorem K3{α:Type}(f:α->α->Bool)(a b:α)(r s:List α):qO f (a::r) (b::s)=(f a b&&qO f r s):=rfl
mutual
theorem zP{E:Env}(w:World):∀(τ:Ty)(t:TypeId)(d:Nat)(x y:τ.den)(v u:Value),jo P τ t->τ.cmp=true->τ.dep<=d->i5 E τ x v->i5 E τ y u->
  (Op.equalIn d t v u).run P w= .ok (az τ x y) w
 | .int k,t,d,x,y,v,u,ht,_,hd,hv,hu=>by
  obtain⟨d,rfl⟩:∃m,d=m+1:=⟨d-1,by simp[Ty.dep]at hd;omega⟩
  have h1:=(hv.one rfl).1;have h2:=(hu.one rfl).1;simp at h1 h2;subst h1;subst h2;exact run_equalIn_int w d t k k x y ht.1
 | .bool,t,d,x,y,v,u,ht,_,hd,hv,hu=>by
  obtain⟨d,rfl⟩:∃m,d=m+1:=⟨d-1,by simp[Ty.dep]at hd;omega⟩
  have h1:=hv.one rfl;have h2:=hu.one rfl;simp[an]at h1 h2;subst h1;subst h2;exact run_equalIn_bool w d t x y ht.1
 | .str,t,d,x,y,v,u,ht,_,hd,hv,hu=>by
  obtain⟨d,rfl⟩:∃m,d=m+1:=⟨d-1,by simp[Ty.dep]at hd;omega⟩
  obtain⟨s1,h1,e1,_⟩:=hv.one rfl;obtain⟨s2,h2,e2,_⟩:=hu.one rfl;simp at h1 h2;subst h1;subst h2;rw[run_equalIn_string w d t s1 s2 ht.1,sC];subst e1;subst e2;rfl
 | .arr n τ,t,d,x,y,v,u,ht,hc,hd,hv,hu=>by
  obtain⟨d,rfl⟩:∃m,d=m+1:=⟨d-1,by simp[Ty.dep]at hd;omega⟩
  obtain⟨xs,rfl,hx⟩:=hv.agg rfl;obtain⟨ys,rfl,hy⟩:=hu.agg rfl;obtain⟨e,hu,hte,_⟩:=ht;rw[wU w d t e n τ.size xs ys hu (fun w=>dn w hte.info)];obtain⟨hlx,cx,hcx,hax⟩:=hx;obtain⟨hly,cy,hcy,hay⟩:=hy;have key:∀(x y:List τ.den)(cx cy:List (List Value))(s:Nat),x.length=y.length->df (an E τ) x cx->df (an E τ) y cy->xs.toList.drop (s*τ.size)=cx.flatten->ys.toList.drop (s*τ.size)=cy.flatten->
    (qT d e xs ys τ.size (range' s x.length)).run P w= .ok (qO (az τ) x y) w:=by
   intro x;induction x with
   |nil=>
    intro y cx cy s hl _ _ _ _;cases y with
    |nil=>simp[qT,qO]
    |cons _ _=>simp at hl
   |cons a x ih=>
    intro y cx cy s hl h1 h2 h3 h4;cases y with
    |nil=>simp at hl
    |cons b y=>
     cases cx with
     |nil=>exact h1.elim
     |cons c cx=>
      cases cy with
      |nil=>exact h2.elim
      |cons c' cy=>
       have l1:=an.length _ _ _ h1.1;have l2:=an.length _ _ _ h2.1;obtain⟨v1,r1,a1⟩:=o9 w hte xs (s*τ.size) h1.1 (by rw[h3,<-l1];simp);obtain⟨v2,r2,a2⟩:=o9 w hte ys (s*τ.size) h2.1 (by rw[h4,<-l2];simp);have hd':τ.dep<=d:=by simp[Ty.dep]at hd;omega
       have he:=zP w τ e d a b v1 v2 hte (by simpa[Ty.cmp]using hc) hd' a1 a2;have e1:xs.toList.drop ((s+1)*τ.size)=cx.flatten:=by rw[add_mul,Nat.one_mul,<-drop_drop,h3,<-l1];simp
       have e2:ys.toList.drop ((s+1)*τ.size)=cy.flatten:=by rw[add_mul,Nat.one_mul,<-drop_drop,h4,<-l2];simp
       have hr:=ih y cx cy (s+1) (by simpa using hl) h1.2 h2.2 e1 e2;simp only[List.length_cons,List.range'_succ,qT,Sem.run_bind,r1,r2,Result.andThen_ok,he,K3];cases hb:az τ a b with
       |false=>simp
       |true=>simpa using hr
  have:=key x y cx cy 0 (by rw[hlx,hly]) hax hay (by simpa using hcx) (by simpa using hcy);rw[hlx]at this;simpa[az]using this
 | .unit,t,d,x,y,v,u,ht,_,hd,hv,hu=>by
  obtain⟨d,rfl⟩:∃m,d=m+1:=⟨d-1,by simp[Ty.dep]at hd;omega⟩
  obtain⟨xs,rfl,hx⟩:=hv.agg rfl;obtain⟨ys,rfl,hy⟩:=hu.agg rfl;have hfo:P.fieldsOf t= #[]:=by simp[Program.fieldsOf,ht.1]
  rw[run_equalIn_struct w d t xs ys (by rw[hfo];exact ht.1) ht.2.2,hfo];rfl
 | .pair a b,t,d,x,y,v,u,ht,hc,hd,hv,hu=>by
  obtain⟨d,rfl⟩:∃m,d=m+1:=⟨d-1,by simp[Ty.dep]at hd;omega⟩
  obtain⟨xs,rfl,hx⟩:=hv.agg rfl;obtain⟨ys,rfl,hy⟩:=hu.agg rfl;obtain⟨fs,hfs,hf,_,hsh,_⟩:=ht;have hfo:P.fieldsOf t=fs:=by simp[Program.fieldsOf,hfs]
  rw[run_equalIn_struct w d t xs ys (by rw[hfo];exact hfs) hsh,hfo];exact CX w (.pair a b) fs.toList 0 d x y xs ys hf hc hd hx hy
 | .sl _,_,_,_,_,_,_,_,hc,_,_,_=>by simp[Ty.cmp]at hc
 | .opq,_,_,_,_,_,_,_,hc,_,_,_=>by simp[Ty.cmp]at hc
theorem CX{E:Env}(w:World):∀(τ:Ty)(fs:List Field)(off d:Nat)(x y:τ.den)(xs ys:Array Value),dh P τ fs off->τ.cmp=true->τ.dep<=d+1->
  an E τ x (xs.toList.drop off)->an E τ y (ys.toList.drop off)->(Op.eqFields d xs ys fs).run P w= .ok (az τ x y) w
 | .unit,fs,off,d,x,y,xs,ys,hf,_,_,_,_=>by simp only[dh]at hf;subst hf;rfl
 | .pair a b,fs,off,d,x,y,xs,ys,hf,hc,hd,hx,hy=>by
  obtain⟨f,r,rfl,ho,hz,hn,hta,hr⟩:=hf;obtain⟨c1,c2,e1,h1,h2⟩:=hx;obtain⟨d1,d2,e2,g1,g2⟩:=hy;have l1:=an.length _ _ _ h1;have l2:=an.length _ _ _ g1;have hc':a.cmp=true/\b.cmp=true:=by simpa[Ty.cmp]using hc
  have hd1:a.dep<=d:=by simp only[Ty.dep]at hd;omega
  have hd2:b.dep<=d+1:=by simp only[Ty.dep]at hd;omega
  obtain⟨v1,r1,a1⟩:=o9 w hta xs off h1 (by rw[e1,<-l1];simp);obtain⟨v2,r2,a2⟩:=o9 w hta ys off g1 (by rw[e2,<-l2];simp);have he:=zP w a f.type d x.1 y.1 v1 v2 hta hc'.1 hd1 a1 a2;have i1:xs.toList.drop (off+a.size)=c2:=by rw[<-drop_drop,e1,<-l1];simp
  have i2:ys.toList.drop (off+a.size)=d2:=by rw[<-drop_drop,e2,<-l2];simp
  have ih:=CX w b r (off+a.size) d x.2 y.2 xs ys hr hc'.2 hd2 (by rw[i1];exact h2) (by rw[i2];exact g2);simp only[Op.eqFields,hn,ne_eq,not_false_eq_true,if_true,ho,Sem.run_bind,r1,r2,Result.andThen_ok,he,az];cases hb:az a x.1 y.1 with
  |false=>simp
  |true=>simpa using ih
 | .int _,_,_,_,_,_,_,_,hf,_,_,_,_=>by simp[dh]at hf
 | .bool,_,_,_,_,_,_,_,hf,_,_,_,_=>by simp[dh]at hf
 | .str,_,_,_,_,_,_,_,hf,_,_,_,_=>by simp[dh]at hf
 | .arr _ _,_,_,_,_,_,_,_,hf,_,_,_,_=>by simp[dh]at hf
 | .sl _,_,_,_,_,_,_,_,hf,_,_,_,_=>by simp[dh]at hf
 | .opq,_,_,_,_,_,_,_,hf,_,_,_,_=>by simp[dh]at hf
end
end
def gA(G G2:GE)(id j ver u:Nat):jX->jX->Prop
 | .cell t _ _,.cell t2 _ _=>t2=t/\G2.β j=G.β id
 | .buf t l c _,.buf t2 l2 c2 _=>(ver<=c->u<=c2)/\(ver<=c->u=c2->ver=c/\t2=t/\G2.β j=G.β id/\G2.σ j=G.σ id/\(l:List t.den).length<=(l2:List t2.den).length)
 | .map k v _,.map k2 v2 _=>k2=k/\v2=v/\G2.β j=G.β id
 |_,_=>False
structure Mv(ρ:Nat->Nat->Option (Nat×Nat))(G G2:GE):Prop where
 env:Ext G.env G2.env
 blk:∀id ver j u blk,ρ id ver=some (j,u)->aw G.hp id=some blk->∃blk2,aw G2.hp j=some blk2/\gA G G2 id j ver u blk blk2
theorem i5.isAgg{E:Env}{t:Ty}{x:t.den}{v:Value}(h:i5 E t x v):(t.isAgg=true->∃c,v= .agg c)/\(t.isAgg=false->fC v)/\v.cells.size=t.size:=by
 refine⟨fun ht=>?_,fun ht=>?_,?_⟩
 ·obtain⟨c,rfl,_⟩:=h.agg ht;exact⟨c,rfl⟩
 ·exact an.cell _ _ _ (h.one ht) v (by simp)
 ·have:=an.length _ _ _ h.cells;simpa using this
theorem jY.jE{ρ:Nat->Nat->Option (Nat×Nat)}{G G2:GE}(h:Mv ρ G G2){id ver j u:Nat}{p:List Step}{v:Value}(hρ:ρ id ver=some (j,u))(hx:jY G id ver p v):jY G2 j u p v:=by
 unfold jY at hx;cases hb:aw G.hp id with
 |none=>rw[hb]at hx;exact hx.elim
 |some blk=>
  rw[hb]at hx;obtain⟨blk2,g1,g2⟩:=h.blk _ _ _ _ _ hρ hb;cases blk<;>cases blk2<;>simp only[gA]at g2 hx
  ·obtain⟨rfl,g3⟩:=g2;obtain⟨b,o,u',h1,h2,h3⟩:=hx;unfold jY;rw[g1];exact⟨b,o,u',by rw[g3];exact h1,h2,h3⟩
  ·unfold jY;rw[g1];refine⟨g2.1 hx.1,hx.2.1,fun e=>?_⟩;obtain⟨e1,rfl,e2,e3,e4⟩:=g2.2 hx.1 e;obtain⟨b,i,q,o,u',h1,h2,h3,h4,h5,h6⟩:=hx.2.2 e1;exact⟨b,i,q,o,u',h1,by rw[e2];exact h2,h3,Nat.lt_of_lt_of_le h4 e4,h5,h6⟩
theorem lh.jE{ρ:Nat->Nat->Option (Nat×Nat)}{G G2:GE}(h:Mv ρ G G2){id ver j u:Nat}{v:Value}(hρ:ρ id ver=some (j,u))(hx:lh G id ver v):lh G2 j u v:=by
 unfold lh at hx;cases hb:aw G.hp id with
 |none=>rw[hb]at hx;exact hx.elim
 |some blk=>rw[hb]at hx;obtain⟨blk2,g1,g2⟩:=h.blk _ _ _ _ _ hρ hb;cases blk<;>cases blk2<;>simp only[gA]at g2 hx;unfold lh;rw[g1];refine⟨g2.1 hx.1,hx.2.1,fun e=>?_⟩;obtain⟨e1,rfl,e2,e3,e4⟩:=g2.2 hx.1 e;rw[e3];exact hx.2.2 e1
theorem lj.jE{ρ:Nat->Nat->Option (Nat×Nat)}{G G2:GE}(h:Mv ρ G G2){id j u:Nat}{p:List Step}{t:Ty}{n:Nat}{lo hi:Int}{v:Value}(hρ:ρ id 0=some (j,u))(hx:lj G id p t n lo hi v):lj G2 j p t n lo hi v:=by
 unfold lj at hx;cases hb:aw G.hp id with
 |none=>rw[hb]at hx;exact hx.elim
 |some blk=>rw[hb]at hx;obtain⟨blk2,g1,g2⟩:=h.blk _ _ _ _ _ hρ hb;cases blk<;>cases blk2<;>simp only[gA]at g2 hx;obtain⟨rfl,g3⟩:=g2;unfold lj;rw[g1];obtain⟨b,o,h1,h2⟩:=hx;exact⟨b,o,by rw[g3];exact h1,h2⟩
theorem np.jE{ρ:Nat->Nat->Option (Nat×Nat)}{G G2:GE}(h:Mv ρ G G2){id j u:Nat}{v:Value}(hρ:ρ id 0=some (j,u))(hx:np G id v):np G2 j v:=by
 unfold np at hx;cases hb:aw G.hp id with
 |none=>rw[hb]at hx;exact hx.elim
 |some blk=>rw[hb]at hx;obtain⟨blk2,g1,g2⟩:=h.blk _ _ _ _ _ hρ hb;cases blk<;>cases blk2<;>simp only[gA]at g2 hx;obtain⟨rfl,rfl,g3⟩:=g2;unfold np;rw[g1];obtain⟨b,h1,h2⟩:=hx;exact⟨b,by rw[g3];exact h1,h2⟩
theorem xl.jE{ρ:Nat->Nat->Option (Nat×Nat)}{a:Ty}{v:V}{x:Value}(h:xl a v x):xl a (jE ρ v) x:=by
 refine⟨fun e=>?_,h.agg,h.one,h.size,fun t y e=>?_,fun t l e=>?_⟩
 ·have:=h.tree e;cases v<;>simp only[V.tree]at this<;>first|cases this;done|rfl
 ·cases v<;>simp only[Bx.jE]at e<;>first|cases e;done|exact h.data _ _ e|(split at e<;>cases e;done)
 ·cases v<;>simp only[Bx.jE]at e<;>first|(cases e;exact h.part _ _ rfl)|(cases e;done)|(split at e<;>cases e;done)
mutual
theorem bC.jE{ρ:Nat->Nat->Option (Nat×Nat)}{G G2:GE}(h:Mv ρ G G2){tm:Array Value}:∀(v:V)(x:Value),bC G tm v x->bC G2 tm (jE ρ v) x
 | .any,_,_=>by simp only[Bx.jE,bC]
 | .data _ _,_,hx=>by simp only[Bx.jE,bC]at hx⊢;exact hx.ext h.env
 | .nilp,_,hx=>by simp only[Bx.jE,bC]at hx⊢;exact hx
 | .snil,_,hx=>by simp only[Bx.jE,bC]at hx⊢;exact hx
 | .ref id ver p,x,hx=>by
  simp only[bC]at hx;cases hρ:ρ id ver with
  |none=>simp only[Bx.jE,hρ,bC]
  |some q=>simp only[Bx.jE,hρ,bC];exact hx.jE h hρ
 | .iref t y,x,hx=>by
  simp only[Bx.jE,bC]at hx⊢;obtain⟨ad,ds,h1,h2,h3,h4,h5⟩:=hx;refine⟨ad,ds,h1,h2,h3.imp id fun⟨m,hm,hi⟩=>⟨m,hm,h.env.im _ _ hi⟩,fun j u hj=>?_,h5.ext h.env⟩;rcases h3 with h3|⟨m,hm,hi⟩
  ·grind
  ·have hjl:j<ds.length:=by
    grind
   rw[<-h4 j u hj];exact h.env.cell _ _ hi _ (by omega)
 | .tup l,x,hx=>by simp only[Bx.jE,bC]at hx⊢;obtain⟨vs,h1,h2⟩:=hx;exact⟨vs,h1,iH.jE h l _ h2⟩
 | .opt d w u,x,hx=>by simp only[Bx.jE,bC]at hx⊢;exact⟨fun e=>bC.jE h u x (hx.1 e),hx.2⟩
 | .fn f a b,x,hx=>by simp only[Bx.jE,bC]at hx⊢;obtain⟨xs,ys,h1,h2,h3⟩:=hx;exact⟨xs,ys,h1,iH.jE h a _ h2,iH.jE h b _ h3⟩
 | .full _ _,x,hx=>by simp only[Bx.jE,bC]at hx⊢;exact⟨hx.1.ext h.env,hx.2⟩
 | .app id ver,x,hx=>by
  simp only[bC]at hx;cases hρ:ρ id ver with
  |none=>simp only[Bx.jE,hρ,bC]
  |some q=>simp only[Bx.jE,hρ,bC];exact hx.jE h hρ
 | .view id p t n lo hi,x,hx=>by
  simp only[bC]at hx;cases hρ:ρ id 0 with
  |none=>simp only[Bx.jE,hρ,bC]
  |some q=>simp only[Bx.jE,hρ,bC];exact hx.jE h hρ
 | .agg t l,x,hx=>by simp only[Bx.jE,bC]at hx⊢;obtain⟨cs,h1,h2⟩:=hx;exact⟨cs,h1,dE.jE h t l _ h2⟩
 | .ifc t u,x,hx=>by simp only[Bx.jE,bC]at hx⊢;obtain⟨y,h1,h2⟩:=hx;exact⟨y,h1,bC.jE h u y h2⟩
 | .mth m u,x,hx=>by simp only[Bx.jE,bC]at hx⊢;obtain⟨y,h1,h2⟩:=hx;exact⟨y,h1,bC.jE h u y h2⟩
 | .glob g,x,hx=>by simpa only[Bx.jE,bC]using hx
 | .map id,x,hx=>by
  simp only[bC]at hx;cases hρ:ρ id 0 with
  |none=>simp only[Bx.jE,hρ,bC]
  |some q=>simp only[Bx.jE,hρ,bC];exact hx.jE h hρ
theorem iH.jE{ρ:Nat->Nat->Option (Nat×Nat)}{G G2:GE}(h:Mv ρ G G2){tm:Array Value}:∀(l:List V)(m:List Value),iH G tm l m->iH G2 tm (n9 ρ l) m
 |[],[],_=>by simp[n9,iH]
 |v::l,x::m,hx=>by simp only[n9,iH]at hx⊢;exact⟨bC.jE h v x hx.1,iH.jE h l m hx.2⟩
 |[],_::_,hx=>by simp[iH]at hx
 |_::_,[],hx=>by simp[iH]at hx
theorem dE.jE{ρ:Nat->Nat->Option (Nat×Nat)}{G G2:GE}(h:Mv ρ G G2):∀(t:Ty)(l:List V)(cs:List Value),dE G t l cs->dE G2 t (n9 ρ l) cs
 |t,[],cs,hx=>by simpa only[n9,dE]using hx
 |t,v::l,cs,hx=>by simp only[n9,dE]at hx⊢;obtain⟨a,r,x,cs',h1,h2,h3,h4,h5⟩:=hx;exact⟨a,r,x,cs',h1,h2,h3.jE,bC.jE h v x h4,dE.jE h r l cs' h5⟩
end
theorem dZ.jE{ρ:Nat->Nat->Option (Nat×Nat)}{G G2:GE}(h:Mv ρ G G2){t:Ty}{v:V}{cs:List Value}(hx:dZ G t v cs):dZ G2 t (Bx.jE ρ v) cs:=by obtain⟨x,h1,h2,h3⟩:=hx;exact⟨x,h1,h2.jE,bC.jE h v x h3⟩
def yi(i v:Nat):Option (Nat×Nat):=some (i,v)
mutual
theorem qu:∀v:V,jE yi v=v
 | .any=>rfl| .data _ _=>rfl| .nilp=>rfl| .snil=>rfl| .ref _ _ _=>rfl| .iref _ _=>rfl| .full _ _=>rfl| .app _ _=>rfl| .view _ _ _ _ _ _=>rfl| .map _=>rfl| .glob _=>rfl
 | .tup l=>by simp only[Bx.jE,l9 l]
 | .opt _ _ v=>by simp only[Bx.jE,qu v]
 | .fn _ a b=>by simp only[Bx.jE,l9 a,l9 b]
 | .agg _ l=>by simp only[Bx.jE,l9 l]
 | .ifc _ v=>by simp only[Bx.jE,qu v]
 | .mth _ v=>by simp only[Bx.jE,qu v]
theorem l9:∀l:List V,n9 yi l=l
 |[]=>rfl
 |v::l=>by simp only[n9,qu v,l9 l]
end
abbrev nO(G G2:GE):Prop:=Mv yi G G2
theorem bC.ext{G G2:GE}(h:nO G G2){tm:Array Value}{v:V}{x:Value}(hx:bC G tm v x):bC G2 tm v x:=by have:=bC.jE h v x hx;rwa [qu]at this
theorem iH.ext{G G2:GE}(h:nO G G2){tm:Array Value}{v:List V}{x:List Value}(hx:iH G tm v x):iH G2 tm v x:=by have:=iH.jE h v x hx;rwa [l9]at this
theorem dZ.ext{G G2:GE}(h:nO G G2){t:Ty}{v:V}{cs:List Value}(hx:dZ G t v cs):dZ G2 t v cs:=by have:=dZ.jE h hx;rwa [qu]at this
theorem Ext.refl(E:Env):Ext E E:=⟨fun _ _ h=>h,fun _ _ _ _ _=>rfl⟩
theorem Ext.trans{a b c:Env}(h:Ext a b)(k:Ext b c):Ext a c:=⟨fun _ _ hi=>k.im _ _ (h.im _ _ hi),fun b m hi j hj=>(k.cell b m (h.im _ _ hi) j hj).trans (h.cell b m hi j hj)⟩
theorem gA.refl(G:GE)(id ver:Nat)(b:jX)(G2:GE)(h1:G2.β id=G.β id)(h2:G2.σ id=G.σ id):gA G G2 id id ver ver b b:=by
 cases b<;>simp only[gA]
 ·grind
 ·grind
 grind
theorem nO.refl(G:GE):nO G G:=⟨Ext.refl _,fun id ver j u blk hρ hb=>by
 simp only[yi,Option.some.injEq,Prod.mk.injEq]at hρ;obtain⟨rfl,rfl⟩:=hρ;exact⟨blk,hb,gA.refl G id ver blk G rfl rfl⟩⟩
theorem gA.trans{G1 G2 G3:GE}{i ver:Nat}{a b c:jX}(h:gA G1 G2 i i ver ver a b)(k:∀v,gA G2 G3 i i v v b c):gA G1 G3 i i ver ver a c:=by
 cases a<;>cases b<;>simp only[gA]at h
 ·cases c<;>have k:=k 0<;>simp only[gA]at k;exact⟨k.1.trans h.1,k.2.trans h.2⟩
 ·cases c<;>have k0:=k ver<;>simp only[gA]at k0;refine⟨fun hv=>k0.1 (h.1 hv),fun hv e=>?_⟩;grind
 ·cases c<;>have k:=k 0<;>simp only[gA]at k;exact⟨k.1.trans h.1,k.2.1.trans h.2.1,k.2.2.trans h.2.2⟩
theorem nO.trans{a b c:GE}(h:nO a b)(k:nO b c):nO a c:=⟨h.env.trans k.env,fun id ver j u blk hρ hb=>by
 simp only[yi,Option.some.injEq,Prod.mk.injEq]at hρ;obtain⟨rfl,rfl⟩:=hρ;obtain⟨b2,g1,g2⟩:=h.blk id ver id ver blk rfl hb;obtain⟨b3,g3,g4⟩:=k.blk id ver id ver b2 rfl g1;refine⟨b3,g3,g2.trans fun v=>?_⟩;obtain⟨b3',g3',g4'⟩:=k.blk id v id v b2 rfl g1;rw[g3]at g3';cases g3';exact g4'⟩
structure Tr(G G2:GE):Prop where
 kC:nO G G2
 os:G2.w.os=G.w.os
 tape:G2.w.tape=G.w.tape
 output:G2.w.output=G.w.output
 size:G.w.heap.size<=G2.w.heap.size
 frame:∀b,b<G.w.heap.size->¬G.named b->G2.w.heap[b]? =G.w.heap[b]?
 own:∀b,G2.named b->G.w.heap.size<=b\/G.named b
theorem Tr.refl(G:GE):Tr G G:=⟨nO.refl G,rfl,rfl,rfl,Nat.le_refl _,fun _ _ _=>rfl,fun _ h=>.inr h⟩
theorem Tr.trans{a b c:GE}(h:Tr a b)(k:Tr b c):Tr a c:=
 ⟨h.kC.trans k.kC,k.os.trans h.os,k.tape.trans h.tape,k.output.trans h.output,Nat.le_trans h.size k.size,
  fun x hx hn=>(k.frame x (Nat.lt_of_lt_of_le hx h.size) (fun hb=>(h.own x hb).elim (fun h=>absurd hx (Nat.not_lt.2 h)) hn)).trans (h.frame x hx hn),
  fun x hx=>(k.own x hx).elim (fun h'=>.inl (Nat.le_trans h.size h')) (h.own x)⟩
def iC(E:Env):(t:Ty)->t.den->List Value->Prop
 | .unit,_,vs=>vs=[]
 | .pair a b,x,vs=>∃v r,vs=v::r/\i5 E a x.1 v/\iC E b x.2 r
 |_,_,_=>False
def rK(E:Env)(F:Fn)(r:F.rs.den)(v:Value):Prop:=match F.multi with
 |false=>i5 E F.rs r v
 |true=>∃vs,v= .tuple vs/\iC E F.rs r vs.toList
def MI(P:Program)(f:FuncId)(F:Fn):Prop:=
 ∀(w:World)(I:Nat->Nat->Prop)(x:F.ps.den)(r:F.rs.den)(args:Array Value),Vj w I->F.run x=some r->iC ⟨w,I⟩ F.ps x args.toList->
  Calls P f args w fun e w'=>∃v,e= .returned v/\Below w.heap.size w w'/\rK ⟨w',fun b m=>I b m\/(w.heap.size<=b/\b<w'.heap.size)⟩ F r v
def oJ(P:Program)(f:FuncId):Prop:=∃fn,P.funcs[f]? =some fn/\(fn.name== "runtime.NumGoroutine")=false/\fn.body.isNone=false
def vO(P:Program)(f:FuncId)(F:Fn):Prop:=
 ∀(w:World)(I:Nat->Nat->Prop)(x:F.ps.den)(r:F.rs.den)(args:Array Value),F.run x=some r->iC ⟨w,I⟩ F.ps x args.toList->∃v,(callFunc f args).run P w= .ok (.value v) w/\rK ⟨w,I⟩ F r v
def Callee(P:Program)(f:FuncId)(F:Fn):Prop:=(MI P f F/\oJ P f)\/vO P f F
def Bf(w:World)(β:Nat->Option Nat)(σ:Nat->Value)(hp:aP)(I0:Nat->Nat->Prop):GE:=
 ⟨w,β,σ,hp,w.heap.size,fun b=>∃id blk,aw hp id=some blk/\β id=some b,I0⟩
def GE.at(G0:GE)(w:World)(β:Nat->Option Nat)(σ:Nat->Value)(hp:aP):GE:=⟨w,β,σ,hp,G0.n0,G0.Bo,G0.I0⟩
def JF(P:Program)(f:FuncId)(h:List V->aP->Option Sh):Prop:=
 ∀(args:List V)(hp:aP)(sh:Sh)(y:sh.Y),h args hp=some sh->sh.o=some y->
  ∀(w:World)(β:Nat->Option Nat)(σ:Nat->Value)(I0:Nat->Nat->Prop)(vals:Array Value),Vj w I0->cW (Bf w β σ hp I0)->iH (Bf w β σ hp I0) #[] args vals.toList->
   Calls P f vals w fun e w'=>∃v β' σ',e= .returned v/\Tr (Bf w β σ hp I0) ((Bf w β σ hp I0).at w' β' σ' (sh.f y).2)/\cW ((Bf w β σ hp I0).at w' β' σ' (sh.f y).2)/\bC ((Bf w β σ hp I0).at w' β' σ' (sh.f y).2) #[] (sh.f y).1 v
def ML(P:Program)(t:Nat)(m:String)(f:FuncId):Prop:=
 ∀(w:World)(v:Value),(∀(args:Array Value),(callMethod (.iface t v) m args).run P w=(callFunc f (#[v]++args)).run P w)/\(nilAhead (P.types.size+Made.depth) t v m).run P w= .ok (some false) w
structure iY(P:Program)(C:Ctx):Prop where
 ty:∀i τ,look C.ty i=some τ->jo P τ i
 ptr:∀i e,look C.ptr i=some e->P.underlying i=some (.pointer e)
 mp:∀i k e,look C.mp i=some (k,e)->P.underlying i=some (.map k e)
 fn:∀f F,C.fn f=some F->Callee P f F
 sh:∀f h,C.sh f=some h->JF P f h/\oJ P f
 inv:∀t m f,C.inv t m=some f->ML P t m f
structure Rel(G0:GE)(S:St)(a:Act)(w:World)(β:Nat->Option Nat)(σ:Nat->Value):Prop where
 tr:Tr G0 (G0.at w β σ S.hp)
 ok:cW (G0.at w β σ S.hp)
 defers:a.defers=[]
 size:a.tmps.size=S.fr.length
 fr:∀i v,a.tmps[i]? =some v->bC (G0.at w β σ S.hp) a.tmps (nth S.fr i) v
section
variable {P:Program}{C:Ctx}{G0:GE}{S:St}{a:Act}{w:World}{β:Nat->Option Nat}{σ:Nat->Value}
theorem t7:∀{l:List V}{i:Nat},l.length<=i->nth l i= .any
 |[],_,_=>rfl
 |_::l,0,h=>by simp at h
 |_::l,i+1,h=>t7 (l:=l) (by simpa using h)
theorem bC.any{G:GE}{tm:Array Value}{x:Value}:bC G tm .any x:=by simp[bC]
theorem I2(G:GE)(tm:Array Value)(v:Value):bC G tm (ofConst v) v:=by
 unfold ofConst;split
 ·split
  ·rename_i h;simp only[bC];exact i5.gu ⟨rfl,h⟩ rfl
  ·exact .any
 ·rfl
 ·simp[bC]
 ·simp[bC]
 ·rename_i s;split
  ·rename_i h;simp only[bC];exact i5.gu ⟨s,rfl,rfl,Nat.le_of_ble_eq_true h⟩ rfl
  ·exact .any
 ·exact .any
theorem Rel.ev(h:Rel G0 S a w β σ)(x:Operand):bC (G0.at w β σ S.hp) a.tmps (ev S.fr x) (a.eval x):=by
 cases x with
 |tmp t=>
  simp only[Bx.ev,Act.eval];by_cases ht:t<a.tmps.size
  ·have hx:a.tmps[t]? =some a.tmps[t]:=Array.getElem?_eq_getElem ht;have:=h.fr t _ hx;rw[Array.getD_eq_getD_getElem?,hx];exact this
  ·rw[t7 (by rw[<-h.size];exact Nat.not_lt.1 ht)];exact .any
 |const v=>exact I2 _ _ v
 |func f=>simp only[Bx.ev,Act.eval,bC];exact⟨#[],#[],rfl,by simp[iH],by simp[iH]⟩
 |global g=>simp only[Bx.ev,Act.eval,bC]
def MD(g:Option Gd)(tm:Array Value):Prop:=∀gd,g=some gd->tm[gd.d]? =some (.bool gd.want)
theorem bC.gD{G:GE}{tm tm':Array Value}{v:V}{x:Value}(h:bC G tm v x):bC G tm' (Bx.gD v) x:=by
 cases v with
 |opt d w u=>exact .any
 |_=>simp only[Bx.gD,bC]at h⊢<;>exact h
theorem bC.jN{C:Ctx}{ty:Nat}{G:GE}{tm tm':Array Value}{v:V}{x:Value}(h:bC G tm v x):bC G tm' (Bx.jN C ty v) x:=by
 cases v with
 |snil=>
  simp only[Bx.jN];split
  ·simp only[bC]at h⊢;exact⟨.inl ⟨rfl,by rw[h]⟩,none,0,h⟩
  ·exact h
 |_=>exact h.gD
theorem bC.dd{G:GE}{tm:Array Value}{v:V}{x:Value}(h:bC G tm v x):bC G tm (Bx.dd v) x:=by
 cases v with
 |full t l=>simp only[Bx.dd,bC]at h⊢;exact i5.gu h.1 rfl
 |_=>exact h
theorem RX{G:GE}{tm:Array Value}{g:Option Gd}(hg:MD g tm){v:V}{x:Value}(h:bC G tm v x):bC G tm (un g v) x:=by
 cases v with
 |opt d wt u=>
  cases g with
  |none=>exact .any
  |some gd=>
   simp only[un];split
   ·rename_i hd;simp only[Bool.and_eq_true,beq_iff_eq]at hd;have hd1:gd.d=d:=Nat.eq_of_beq_eq_true hd.1;have:=hg gd rfl;rw[hd1,hd.2]at this;simp only[bC]at h;exact(h.1 this).gD
   ·exact .any
 |_=>simpa[un]using h
theorem Rel.un(h:Rel G0 S a w β σ){g:Option Gd}(hg:MD g a.tmps)(x:Operand):bC (G0.at w β σ S.hp) a.tmps (un g (Bx.ev S.fr x)) (a.eval x):=RX hg (h.ev x)
theorem Rel.ud(h:Rel G0 S a w β σ){g:Option Gd}(hg:MD g a.tmps)(x:Operand):bC (G0.at w β σ S.hp) a.tmps (Bx.dd (Bx.un g (Bx.ev S.fr x))) (a.eval x):=(h.un hg x).dd
theorem bC.int{G:GE}{tm:Array Value}{k:IntKind}{n:Int}{x:Value}(h:bC G tm (.data (.int k) n) x):x= .int k n/\pq k n=true:=by
 simp only[bC]at h;have:=(h.one rfl)
 simp[an]at this;exact this
theorem bC.bool{G:GE}{tm:Array Value}{b:Bool}{x:Value}(h:bC G tm (.data .bool b) x):x= .bool b:=by
 simp only[bC]at h;have:=(h.one rfl)
 simpa[an]using this
theorem bC.mkInt{G:GE}{tm:Array Value}{k:IntKind}{n:Int}(h:pq k n=true):bC G tm (.data (.int k) n) (.int k n):=by simp only[bC];exact i5.gu ⟨rfl,h⟩ rfl
theorem bC.kp{G:GE}{tm:Array Value}{b:Bool}:bC G tm (.data .bool b) (.bool b):=by rfl
theorem iE{k:IntKind}{n:Int}:pq k n=true↔k.min<=n/\n<=k.max:=by simp[pq]
theorem kb(k:IntKind)(n:Int):pq k (k.wrap n)=true:=by rw[iE];cases k<;>simp[IntKind.wrap,IntKind.min,IntKind.max,IntKind.bits,IntKind.signed]<;>(try split)<;>omega
theorem Nn{k:IntKind}{x y:Int}(h:pq k x=true):pq k (x.tmod y)=true:=by
 rw[iE]at h⊢;have h1:(x.tmod y).natAbs<=x.natAbs:=by rw[Int.natAbs_tmod];exact Nat.mod_le _ _
 have h2:0<=x->0<=x.tmod y:=fun hx=>Int.tmod_nonneg _ hx;have h3:x<=0->x.tmod y<=0:=fun hx=>by have:=Int.tmod_nonneg y (a:=-x) (by omega);simp_all
 have h0:k.min<=0/\0<=k.max:=by cases k<;>decide
 omega
theorem Nm{k:IntKind}{x:Int}(n:Nat)(h:pq k x=true):pq k (x.fdiv (2^n))=true:=by
 rw[iE]at h⊢;have hp:(0:Int)<2^n:=Int.pow_pos (by omega);rw[Int.fdiv_eq_ediv_of_nonneg _ (by omega)];have h0:k.min<=0/\0<=k.max:=by cases k<;>decide
 have hp1:(1:Int)<=2^n:=by omega
 rcases Int.le_total 0 x with hx|hx
 ·have a1:=Int.ediv_nonneg hx (Int.le_of_lt hp);have a2:=Int.ediv_le_self (2^n) hx;omega
 ·have a1:x/2^n<=0:=Int.ediv_nonpos_of_nonpos_of_neg hx hp|>fun h=>h
  have a2:x<=x/2^n:=by rw[Int.le_ediv_iff_mul_le hp];have:=Int.mul_nonneg (a:=-x) (b:=2^n-1) (by omega) (by omega);grind
  omega
end
section
variable {P:Program}{C:Ctx}
def JD(P:Program)(s:Sem Value)(w:World)(G:GE)(tm:Array Value)(v:V):Prop:=∃x,s.run P w= .ok x w/\bC G tm v x
theorem IC{G:GE}{tm:Array Value}(w:World)(t:TypeId)(op:BinOp)(k:IntKind)(x y:Int){c:Prop}{i:Decidable c}{v:V}(h:vm op k x y=some (.val c i v))(hc:c)
  (hx:pq k x=true):JD P (binOp op t (.int k x) (.int k y)) w G tm v:=by
 cases op<;>simp only[vm,kx,uk,Option.some.injEq,Out.val.injEq,reduceCtorEq]at h
 all_goals (obtain⟨rfl,_,rfl⟩:=h)
 case add=>exact⟨_,by simp[binOp,Op.intArith],.mkInt (kb _ _)⟩
 case sub=>exact⟨_,by simp[binOp,Op.intArith],.mkInt (kb _ _)⟩
 case mul=>exact⟨_,by simp[binOp,Op.intArith],.mkInt (kb _ _)⟩
 case quo=>exact⟨_,by simp[binOp,Op.intDiv,hc],.mkInt (kb _ _)⟩
 case rem=>exact⟨_,by simp[binOp,Op.intDiv,hc],.mkInt (Nn hx)⟩
 case and=>exact⟨_,by simp[binOp,Op.intBits];rfl,.mkInt (kb _ _)⟩
 case or=>exact⟨_,by simp[binOp,Op.intBits];rfl,.mkInt (kb _ _)⟩
 case xor=>exact⟨_,by simp[binOp,Op.intBits];rfl,.mkInt (kb _ _)⟩
 case andNot=>exact⟨_,by simp only[binOp,ne_eq,not_true_eq_false,if_false,Op.intBits];rfl,.mkInt (kb _ _)⟩
 case eql=>exact⟨_,by simp[binOp,Op.intCmp],.kp⟩
 case neq=>exact⟨_,by simp[binOp,Op.intCmp],.kp⟩
 case lss=>exact⟨_,by simp[binOp,Op.intCmp],.kp⟩
 case leq=>exact⟨_,by simp[binOp,Op.intCmp],.kp⟩
 case gtr=>exact⟨_,by simp[binOp,Op.intCmp],.kp⟩
 case geq=>exact⟨_,by simp[binOp,Op.intCmp],.kp⟩
theorem nU(w:World)(op:BinOp)(t:TypeId)(x y:Operand)(k k':IntKind)(a b:Int):(eqGuard op t x y (.int k a) (.int k' b)).run P w= .ok () w:=by unfold eqGuard;cases op<;>simp
theorem yc{E:Env}(w:World)(op:BinOp){τ:Ty}{t:TypeId}(ht:jo P τ t)(hcmp:τ.cmp=true)(x y:Operand){p q:τ.den}{v u:Value}(hv:i5 E τ p v)(hu:i5 E τ q u):(eqGuard op t x y v u).run P w= .ok () w:=by
 have nag:∀{v u:Value},(∀cs,v≠ .agg cs)->v≠ .nilIface->(eqGuard op t x y v u).run P w= .ok () w:=by intro v u h1 h2;unfold eqGuard;simp_all
 cases τ with
 |int k=>have:=(hv.one rfl).1;simp at this;subst this;exact nag (by simp) (by simp)
 |bool=>have:=hv.one rfl;simp[an]at this;subst this;exact nag (by simp) (by simp)
 |str=>obtain⟨s,this,_⟩:=hv.one rfl;simp at this;subst this;exact nag (by simp) (by simp)
 |sl τ=>rcases hv.one rfl with ⟨_,this⟩|⟨a,cap,css,this,_⟩<;>(simp at this;subst this;exact nag (by simp) (by simp))
 |opq=>exact(hv.one rfl).elim
 |arr n τ=>obtain⟨xs,rfl,_⟩:=hv.agg rfl;obtain⟨ys,rfl,_⟩:=hu.agg rfl;obtain⟨e,_,_,_,hg⟩:=ht;have hg:=hg (by simpa[Ty.cmp]using hcmp);unfold eqGuard;cases op<;>simp[hg]
 |unit=>
  obtain⟨xs,rfl,_⟩:=hv.agg rfl;obtain⟨ys,rfl,_⟩:=hu.agg rfl;have hg:P.eqGuardType P.depth t=false:=by
   obtain⟨m,hm⟩:∃m,P.depth=m+1:=⟨P.depth-1,by simp[Program.depth]⟩
   rw[hm];simp[Program.eqGuardType,ht.1]
  unfold eqGuard;cases op<;>simp[hg]
 |pair c d=>obtain⟨xs,rfl,_⟩:=hv.agg rfl;obtain⟨ys,rfl,_⟩:=hu.agg rfl;obtain⟨fs,_,_,_,_,hg⟩:=ht;have hg:=hg (by simpa[Ty.cmp]using hcmp);unfold eqGuard;cases op<;>simp[hg]
theorem zG(w:World)(t:TypeId){E:Env}{τ:Ty}{p q:τ.den}{v u:Value}(hv:i5 E τ p v)(hu:i5 E τ q u)(hk:∀k,τ≠ .int k)(hc:τ.cmp=true){r:Bool}(h:(Op.equalIn 10000 t v u).run P w= .ok r w)
  (hs:τ= .str->∀s s',v= .string s->u= .string s'->r=(s.toList==s'.toList)):
  (binOp .eql t v u).run P w= .ok (.bool r) w/\(binOp .neq t v u).run P w= .ok (.bool (!r)) w:=by
 cases τ with
 |int k=>exact absurd rfl (hk k)
 |bool=>have h1:=hv.one rfl;simp[an]at h1;subst h1;have h2:=hu.one rfl;simp[an]at h2;subst h2;constructor<;>simp[binOp,Op.equal,Op.maxDepth,h]
 |str=>obtain⟨s,h1,_⟩:=hv.one rfl;simp at h1;subst h1;obtain⟨s',h2,_⟩:=hu.one rfl;simp at h2;subst h2;have:=hs rfl s s' rfl rfl;constructor<;>simp[binOp,Op.stringOp,this]
 |sl τ=>simp[Ty.cmp]at hc
 |opq=>simp[Ty.cmp]at hc
 |arr n τ=>obtain⟨xs,rfl,_⟩:=hv.agg rfl;obtain⟨ys,rfl,_⟩:=hu.agg rfl;constructor<;>simp[binOp,Op.equal,Op.maxDepth,h]
 |unit=>obtain⟨xs,rfl,_⟩:=hv.agg rfl;obtain⟨ys,rfl,_⟩:=hu.agg rfl;constructor<;>simp[binOp,Op.equal,Op.maxDepth,h]
 |pair c d=>obtain⟨xs,rfl,_⟩:=hv.agg rfl;obtain⟨ys,rfl,_⟩:=hu.agg rfl;constructor<;>simp[binOp,Op.equal,Op.maxDepth,h]
theorem Tx(a b:UInt8):(((a.toNat:Nat):Int)==((b.toNat:Nat):Int))=(a==b):=by
 by_cases h:a=b
 ·subst h;simp
 ·have:¬((a.toNat:Nat):Int)=((b.toNat:Nat):Int):=fun e=>h (UInt8.toNat_inj.1 (by omega));grind
theorem zr(s:ByteArray):s.toList=s.data.toList:=ByteArray.toList_eq s
theorem Dx:∀(x y:List UInt8),Op.bytesLess x y=nk (x.map fun b=>(b.toNat:Int)) (y.map fun b=>(b.toNat:Int))
 |_,[]=>by simp[Op.bytesLess,nk]
 |[],_::_=>by simp[Op.bytesLess,nk]
 |a::x,b::y=>by
  have h1:(decide (a<b))=decide (((a.toNat:Nat):Int)<((b.toNat:Nat):Int)):=by apply decide_eq_decide.2;rw[UInt8.lt_iff_toNat_lt];omega
  simp only[Op.bytesLess,List.map_cons,nk,Dx x y,Tx,h1]
theorem Jq{G:GE}{tm:Array Value}(w:World)(t:TypeId)(op:BinOp){a b:List Int}{x y:Value}(hx:bC G tm (.data .str a) x)(hy:bC G tm (.data .str b) y){c:Prop}{i:Decidable c}{v:V}
  (h:vJ op a b=some (.val c i v)) (hc:c):JD P (binOp op t x y) w G tm v:=by
 simp only[bC]at hx hy;obtain⟨s,e1,e2,e3⟩:=hx.one rfl;obtain⟨s',e4,e5,e6⟩:=hy.one rfl;simp at e1 e4;subst e1;subst e4;subst e2;subst e5;have heq:(s.toList==s'.toList)=az .str (bytesOf s) (bytesOf s'):=by rw[sC];rfl
 have hlt:Op.bytesLess s.toList s'.toList=nk (bytesOf s) (bytesOf s'):=by rw[Dx,zr,zr];rfl
 cases op<;>simp only[vJ,kx,uk,Option.some.injEq,Out.val.injEq,reduceCtorEq]at h
 all_goals (obtain⟨rfl,_,rfl⟩:=h)
 case add=>
  have hl:(bytesOf s).length=s.size:=by simp[bytesOf]
  have hl':(bytesOf s').length=s'.size:=by simp[bytesOf]
  rw[hl,hl']at hc;have hc:=Nat.le_of_ble_eq_true hc;have hnot:¬((s.size+s'.size:Nat):Int)>IntKind.i64.max:=by simp only[IntKind.max,IntKind.signed,IntKind.bits];simp;omega
  refine⟨.string (s++s'),by simp only[binOp,Op.stringOp,if_neg hnot,Sem.run_pure],?_⟩;simp only[bC];refine i5.gu ⟨_,rfl,?_,?_⟩ rfl
  ·simp[bytesOf]
  ·simp only[ByteArray.size_append,maxLen];omega
 case eql=>exact⟨_,by simp only[binOp,Op.stringOp,heq,Sem.run_pure],.kp⟩
 case neq=>exact⟨_,by simp only[binOp,Op.stringOp,heq,Sem.run_pure],.kp⟩
 case lss=>exact⟨_,by simp only[binOp,Op.stringOp,hlt,Sem.run_pure],.kp⟩
 case leq=>exact⟨_,by simp only[binOp,Op.stringOp,hlt,heq,Sem.run_pure],.kp⟩
 case gtr=>exact⟨_,by simp only[binOp,Op.stringOp,hlt,heq,Sem.run_pure],.kp⟩
 case geq=>exact⟨_,by simp only[binOp,Op.stringOp,hlt,Sem.run_pure],.kp⟩
theorem jY.ptr{G:GE}{id ver:Nat}{p:List Step}{v:Value}(h:jY G id ver p v):∃a,v= .pointer (some a):=by unfold jY at h;grind
theorem vB{G:GE}{tm:Array Value}(w:World)(op:BinOp)(xt e:TypeId)(xo yo:Operand)(hp:P.underlying xt=some (.pointer e)){x y:Value}{b:Bool}{c:Prop}{i:Decidable c}{v:V}
  (hxy:(x= .pointer none/\y= .pointer none/\b=true)\/(b=false/\((∃a,x= .pointer (some a))/\y= .pointer none\/x= .pointer none/\∃a,y= .pointer (some a)))) (h:q8 op b=some (.val c i v)):
  JD P (do eqGuard op xt xo yo x y;binOp op xt x y) w G tm v:=by
 have hg:(eqGuard op xt xo yo x y).run P w= .ok () w:=by unfold eqGuard;rcases hxy with ⟨rfl,rfl,_⟩|⟨_,⟨⟨a,rfl⟩,rfl⟩|⟨rfl,⟨a,rfl⟩⟩⟩<;>cases op<;>simp
 have hd:∀d,(Op.equalIn (d+1) xt x y).run P w= .ok b w:=fun d=>by rcases hxy with ⟨rfl,rfl,rfl⟩|⟨rfl,⟨⟨a,rfl⟩,rfl⟩|⟨rfl,⟨a,rfl⟩⟩⟩<;>simp[Op.equalIn,run_underlying hp]
 have he:(Op.equal xt x y).run P w= .ok b w:=hd 9999;have hx:(∃a,x= .pointer a)/\∃a,y= .pointer a:=by grind
 obtain⟨⟨p,rfl⟩,⟨q,rfl⟩⟩:=hx;unfold q8 at h;split at h
 ·simp only[kx,Option.some.injEq,Out.val.injEq]at h;obtain⟨_,_,rfl⟩:=h;exact⟨_,by simp only[Sem.run_bind,hg,Result.andThen_ok,binOp,he,Sem.run_pure],.kp⟩
 ·simp only[kx,Option.some.injEq,Out.val.injEq]at h;obtain⟨_,_,rfl⟩:=h;exact⟨_,by simp only[Sem.run_bind,hg,Result.andThen_ok,binOp,he,Sem.run_pure],.kp⟩
 ·cases h
theorem BD(hC:iY P C){xt:TypeId}(h:(look C.ptr xt).isSome=true):∃e,P.underlying xt=some (.pointer e):=by
 cases h':look C.ptr xt with
 |none=>rw[h']at h;cases h
 |some e=>exact⟨e,hC.ptr _ _ h'⟩
theorem MT{G:GE}{tm:Array Value}(hC:iY P C)(w:World)(op:BinOp)(xt:TypeId)(xo yo:Operand){vx vy:V}{x y:Value}(hx:bC G tm vx x)(hy:bC G tm vy y){c:Prop}{i:Decidable c}{v:V}
  (h:H7 C op xt vx vy=some (.val c i v)) (hc:c):JD P (do eqGuard op xt xo yo x y;binOp op xt x y) w G tm v:=by
 unfold H7 at h;split at h
 ·rename_i k p k' q;obtain⟨rfl,rx⟩:=hx.int;obtain⟨rfl,ry⟩:=hy.int;split at h
  ·simp only[uk,Option.some.injEq,Out.val.injEq]at h;obtain⟨rfl,_,rfl⟩:=h;refine⟨.int k (fD k p q),?_,.mkInt (kb _ _)⟩;simp only[Sem.run_bind,nU,Result.andThen_ok];simp[binOp,Op.shift,Int.not_lt.2 hc,fD]
  ·simp only[uk,Option.some.injEq,Out.val.injEq]at h;obtain⟨rfl,_,rfl⟩:=h;refine⟨.int k (fS k p q),?_,.mkInt (Nm _ rx)⟩;simp only[Sem.run_bind,nU,Result.andThen_ok];simp[binOp,Op.shift,Int.not_lt.2 hc,fS]
  ·split at h
   ·rename_i hk;subst hk;obtain⟨z,hz,haz⟩:=IC (P:=P) (G:=G) (tm:=tm) w xt op k p q h hc rx;exact⟨z,by simp only[Sem.run_bind,nU,Result.andThen_ok,hz],haz⟩
   ·cases h
 ·rename_i p q;obtain⟨z,hz,haz⟩:=Jq (P:=P) w xt op hx hy h hc;have hgd:(eqGuard op xt xo yo x y).run P w= .ok () w:=by
   simp only[bC]at hx hy;obtain⟨s,e1,_⟩:=hx.one rfl;obtain⟨s',e4,_⟩:=hy.one rfl;simp at e1 e4;subst e1;subst e4;unfold eqGuard;cases op<;>simp
  exact⟨z,by simp only[Sem.run_bind,hgd,Result.andThen_ok,hz],haz⟩
 ·rename_i t p t' q hne hne2;split at h
  ·cases h
  ·rename_i q' hq;obtain⟨rfl,rfl⟩:=il hq;split at h
   ·rename_i hl;obtain⟨hl,hcmp,hdep⟩:=hl;have htk:=hC.ty _ _ hl;have hdep':t'.dep<=10000:=Nat.le_of_ble_eq_true hdep;simp only[bC]at hx hy;have hk:∀k,t'≠ .int k:=fun k e=>by subst e;exact hne k p k q' rfl HEq.rfl rfl HEq.rfl
    have he:=zP (P:=P) w t' xt 10000 p q' x y htk hcmp hdep' hx hy;have hg:=fun op=>yc (P:=P) w op htk hcmp xo yo hx hy;have hb:=zG (P:=P) w xt hx hy hk hcmp he (fun e s s' e1 e2=>by
     subst e;subst e1;subst e2;obtain⟨s1,g1,g2,_⟩:=hx.one rfl;obtain⟨s2,g3,g4,_⟩:=hy.one rfl;simp at g1 g3;subst g1;subst g3;rw[sC];subst g2;subst g4;rfl)
    split at h
    ·simp only[kx,Option.some.injEq,Out.val.injEq]at h;obtain⟨_,_,rfl⟩:=h;exact⟨_,by simp only[Sem.run_bind,hg,Result.andThen_ok,hb.1],.kp⟩
    ·simp only[kx,Option.some.injEq,Out.val.injEq]at h;obtain⟨_,_,rfl⟩:=h;exact⟨_,by simp only[Sem.run_bind,hg,Result.andThen_ok,hb.2],.kp⟩
    ·cases h
   ·cases h
 ·split at h
  ·rename_i hs;obtain⟨e,he⟩:=BD hC hs;simp only[bC]at hx hy;exact vB w op xt e xo yo he (.inl ⟨hx,hy,rfl⟩) h
  ·cases h
 ·split at h
  ·rename_i hs;obtain⟨e,he⟩:=BD hC hs;simp only[bC]at hx hy;exact vB w op xt e xo yo he (.inr ⟨rfl,.inl ⟨hx.ptr,hy⟩⟩) h
  ·cases h
 ·split at h
  ·rename_i hs;obtain⟨e,he⟩:=BD hC hs;simp only[bC]at hx hy;exact vB w op xt e xo yo he (.inr ⟨rfl,.inr ⟨hx,hy.ptr⟩⟩) h
  ·cases h
 ·cases h
theorem lD:∀{t:Ty}{p:List Step}{o:Nat}{u:Ty},aX t p=some (o,u)->mf t p=some u
 |t,[],o,u,h=>by cases t<;>simp[aX]at h<;>simp[mf,h]
 | .arr n t,.idx i::p,o,u,h=>by
  simp only[aX]at h;split at h
  ·cases h2:aX t p with
   |none=>simp[h2]at h
   |some q=>simp[h2]at h;obtain⟨_,rfl⟩:=h;simpa[mf]using lD h2
  ·cases h
 | .pair a _,.fld 0::p,o,u,h=>by simp only[aX]at h;simpa[mf]using lD h
 | .pair a b,.fld (j+1)::p,o,u,h=>by
  simp only[aX]at h;cases h2:aX b (.fld j::p)with
  |none=>simp[h2]at h
  |some q=>simp[h2]at h;obtain⟨_,rfl⟩:=h;simpa[mf]using lD h2
 | .int _,_::_,_,_,h=>by simp[aX]at h
 | .bool,_::_,_,_,h=>by simp[aX]at h
 | .str,_::_,_,_,h=>by simp[aX]at h
 | .sl _,_::_,_,_,h=>by simp[aX]at h
 | .unit,_::_,_,_,h=>by simp[aX]at h
 | .opq,_::_,_,_,h=>by simp[aX]at h
 | .arr _ _,.fld _::_,_,_,h=>by simp[aX]at h
 | .pair _ _,.idx _::_,_,_,h=>by simp[aX]at h
theorem oy(s:Step):∀{t:Ty}{p:List Step}{o:Nat}{u:Ty}{o2:Nat}{u2:Ty},aX t p=some (o,u)->aX u [s]=some (o2,u2)->aX t (p++[s])=some (o+o2,u2)
 |t,[],o,u,o2,u2,h,h'=>by
  have:o=0/\u=t:=by cases t<;>simp[aX]at h<;>exact⟨h.1.symm,h.2.symm⟩
  grind
 | .arr n t,.idx i::p,o,u,o2,u2,h,h'=>by
  simp only[aX]at h;split at h
  ·rename_i hi;cases h2:aX t p with
   |none=>simp[h2]at h
   |some q=>simp[h2]at h;obtain⟨rfl,rfl⟩:=h;have:=oy s h2 h';simp only[List.cons_append,aX];rw[if_pos hi,this];simp only[add_assoc]
  ·cases h
 | .pair a _,.fld 0::p,o,u,o2,u2,h,h'=>by simp only[aX]at h;simpa only[List.cons_append,aX]using oy s h h'
 | .pair a b,.fld (j+1)::p,o,u,o2,u2,h,h'=>by
  simp only[aX]at h;cases h2:aX b (.fld j::p)with
  |none=>simp[h2]at h
  |some q=>simp[h2]at h;obtain⟨rfl,rfl⟩:=h;have:=oy s h2 h';simp only[List.cons_append,aX]at this⊢;rw[this];simp only[add_assoc]
 | .int _,_::_,_,_,_,_,h,_=>by simp[aX]at h
 | .bool,_::_,_,_,_,_,h,_=>by simp[aX]at h
 | .str,_::_,_,_,_,_,h,_=>by simp[aX]at h
 | .sl _,_::_,_,_,_,_,h,_=>by simp[aX]at h
 | .unit,_::_,_,_,_,_,h,_=>by simp[aX]at h
 | .opq,_::_,_,_,_,_,h,_=>by simp[aX]at h
 | .arr _ _,.fld _::_,_,_,_,_,h,_=>by simp[aX]at h
 | .pair _ _,.idx _::_,_,_,_,_,h,_=>by simp[aX]at h
theorem zR:∀{τ:Ty}{j:Nat}{u:Ty},mf τ [.fld j]=some u->∃o,aX τ [.fld j]=some (o,u)
 | .pair a b,0,u,h=>by simp[mf]at h;subst h;exact⟨0,by simp[aX]⟩
 | .pair a b,j+1,u,h=>by simp only[mf]at h;obtain⟨o,ho⟩:=zR h;exact⟨a.size+o,by simp[aX,ho]⟩
 | .int _,_,_,h=>by simp[mf]at h
 | .bool,_,_,h=>by simp[mf]at h
 | .str,_,_,h=>by simp[mf]at h
 | .sl _,_,_,h=>by simp[mf]at h
 | .unit,_,_,h=>by simp[mf]at h
 | .opq,_,_,h=>by simp[mf]at h
 | .arr _ _,_,_,h=>by simp[mf]at h
theorem AF:∀{τ:Ty}{fs:List Field}{off j o:Nat}{u:Ty},dh P τ fs off->aX τ [.fld j]=some (o,u)->∃f,fs[j]? =some f/\f.offset=off+o/\jo P u f.type/\u.size≠0
 | .pair a b,fs,off,0,o,u,hf,h=>by obtain⟨f,r,rfl,h1,h2,h3,h4,h5⟩:=hf;simp only[aX]at h;grind
 | .pair a b,fs,off,j+1,o,u,hf,h=>by
  obtain⟨f,r,rfl,h1,h2,h3,h4,h5⟩:=hf;simp only[aX]at h;cases h6:aX b [.fld j]with
  |none=>simp[h6]at h
  |some q=>simp[h6]at h;obtain⟨rfl,rfl⟩:=h;obtain⟨f',g1,g2,g3,g4⟩:=AF h5 h6;exact⟨f',by simpa using g1,by omega,g3,g4⟩
 | .int _,_,_,_,_,_,_,h=>by simp[aX]at h
 | .bool,_,_,_,_,_,_,h=>by simp[aX]at h
 | .str,_,_,_,_,_,_,h=>by simp[aX]at h
 | .sl _,_,_,_,_,_,_,h=>by simp[aX]at h
 | .unit,_,_,_,_,_,_,h=>by simp[aX]at h
 | .opq,_,_,_,_,_,_,h=>by simp[aX]at h
 | .arr _ _,_,_,_,_,_,_,h=>by simp[aX]at h
theorem jo.fields{τ:Ty}{t:TypeId}{j o:Nat}{u:Ty}(h:jo P τ t)(ho:aX τ [.fld j]=some (o,u)):
  ∃fs f,P.underlying t=some (.struct fs)/\fs[j]? =some f/\f.offset=o/\jo P u f.type/\u.size≠0:=by
 cases τ with
 |pair a b=>obtain⟨fs,h1,h2,_⟩:=h;have hf:dh P (.pair a b) fs.toList 0:=h2;obtain⟨f,g1,g2,g3,g4⟩:=AF hf ho;exact⟨fs,f,h1,by simpa using g1,by omega,g3,g4⟩
 |_=>simp[aX]at ho
theorem xY{E:Env}:∀{τ:Ty}{x:τ.den}{j:Nat}{u:Ty}{z:u.den}{ds:List Value},proj τ x j= .data u z->an E τ x ds->
  ∃o cs,aX τ [.fld j]=some (o,u)/\an E u z cs/\∀k v,cs[k]? =some v->ds[o+k]? =some v
 | .pair a b,x,0,u,z,ds,h,hx=>by obtain⟨c1,c2,rfl,h1,h2⟩:=hx;simp only[proj,V.data.injEq]at h;obtain⟨rfl,h⟩:=h;have h:=eq_of_heq h;subst h;refine⟨0,c1,by simp[aX],h1,fun k v hv=>?_⟩;grind
 | .pair a b,x,j+1,u,z,ds,h,hx=>by obtain⟨c1,c2,rfl,h1,h2⟩:=hx;simp only[proj]at h;obtain⟨o,cs,g1,g2,g3⟩:=xY h h2;refine⟨a.size+o,cs,by simp[aX,g1],g2,fun k v hv=>?_⟩;have hl:=an.length _ _ _ h1;grind
 | .int _,_,_,_,_,_,h,_=>by simp[proj]at h
 | .bool,_,_,_,_,_,h,_=>by simp[proj]at h
 | .str,_,_,_,_,_,h,_=>by simp[proj]at h
 | .sl _,_,_,_,_,_,h,_=>by simp[proj]at h
 | .unit,_,_,_,_,_,h,_=>by simp[proj]at h
 | .opq,_,_,_,_,_,h,_=>by simp[proj]at h
 | .arr _ _,_,_,_,_,_,h,_=>by simp[proj]at h
theorem kE{w:World}{b:Nat}{arr:Array Value}{ty:TypeId}{fr:Nat×Nat}(h:w.heap[b]? =some (.cells arr ty fr))(j:Nat):w.cell? ⟨b,j,none⟩=arr.toList[j]?:=by simp[World.cell?,h]
end
section
variable {P:Program}{C:Ctx}{G:GE}
theorem dZ.length{t:Ty}{v:V}{cs:List Value}(h:dZ G t v cs):cs.length=t.size:=by obtain⟨x,rfl,h1,_⟩:=h;rw[Array.length_toList];exact h1.size
theorem dZ.US{t:Ty}{x:t.den}{v:Value}(h:i5 G.env t x v):dZ G t (.data t x) v.cells.toList:=by obtain⟨h1,h2,h3⟩:=h.isAgg;exact⟨v,rfl,⟨fun _=>rfl,h1,h2,h3,(fun t' y e=>by cases e;rfl),(fun _ _ e=>by cases e)⟩,by simpa only[bC]using h⟩
theorem B4(t:Ty)(cs:List Value)(hl:cs.length=t.size)(ho:t.isAgg=false->∀v∈cs,fC v):∃x:Value,x.cells.toList=cs/\(t.isAgg=true->x= .agg cs.toArray)/\(t.isAgg=false->cs=[x]):=by
 cases ht:t.isAgg with
 |true=>exact⟨.agg cs.toArray,by simp[Value.cells],(fun _=>rfl),fun h=>by cases h⟩
 |false=>
  have hs:t.size=1:=by cases t<;>simp[Ty.isAgg]at ht<;>rfl
  obtain⟨c,rfl⟩:=List.length_eq_one_iff.1 (hl.trans hs);have:=ho ht c (by simp);exact⟨c,by rw[this.1],(fun h=>by cases h),fun _=>rfl⟩
theorem dZ.je{t:Ty}{x:t.den}{cs:List Value}(h:an G.env t x cs):dZ G t (.data t x) cs:=by
 obtain⟨v,h1,h2,h3⟩:=B4 t cs (an.length _ _ _ h) fun _=>an.cell _ _ _ h;have hv:i5 G.env t x v:=by
  cases ht:t.isAgg with
  |true=>rw[h2 ht];exact .yU (by simpa using h) ht
  |false=>refine .gu ?_ ht;rw[<-h3 ht];exact h
 rw[<-h1];exact .US hv
theorem dZ.AM{t t':Ty}{x:t'.den}{cs:List Value}(h:dZ G t (.data t' x) cs):∃e:t'=t,an G.env t (e▸x) cs:=by obtain⟨v,rfl,h1,h2⟩:=h;have e:=h1.data _ _ rfl;subst e;simp only[bC]at h2;exact⟨rfl,h2.cells⟩
theorem dZ.M4{t:Ty}{x:t.den}{cs:List Value}(h:dZ G t (.data t x) cs):an G.env t x cs:=by obtain⟨_,h⟩:=h.AM;exact h
theorem dE.length:∀{t:Ty}{l:List V}{cs:List Value},dE G t l cs->cs.length=t.size
 |t,[],cs,h=>by
  simp only[dE]at h;obtain⟨h1,h2,rfl⟩:=h;cases t with
  |arr n t=>cases n with
   |zero=>simp[Ty.size]
   |succ n=>simp[i6]at h1
  |unit=>rfl
  |pair a b=>simp[i6]at h1
  |_=>simp[Ty.isAgg]at h2
 |t,v::l,cs,h=>by
  simp only[dE]at h;obtain⟨a,r,x,cs',h1,rfl,h2,h3,h4⟩:=h;have ih:=dE.length h4;rw[List.length_append,ih,Array.length_toList,h2.size];cases t with
  |pair p q=>simp[i6]at h1;obtain⟨rfl,rfl⟩:=h1;rfl
  |arr n t=>cases n with
   |zero=>simp[i6]at h1
   |succ n=>simp[i6]at h1;obtain⟨rfl,rfl⟩:=h1;simp only[Ty.size,add_mul];omega
  |_=>simp[i6]at h1
theorem dE.isAgg{t:Ty}{l:List V}{cs:List Value}(h:dE G t l cs):t.isAgg=true:=by
 cases l with
 |nil=>simp only[dE]at h;exact h.2.1
 |cons v l=>simp only[dE]at h;obtain⟨a,r,_,_,h1,_⟩:=h;cases t<;>simp[i6]at h1<;>rfl
theorem dZ.E8{t:Ty}{l:List V}{cs:List Value}(h:dE G t l cs):dZ G t (.agg t l) cs:=
 ⟨.agg cs.toArray,by simp[Value.cells],⟨fun _=>rfl,fun _=>⟨_,rfl⟩,(fun e=>by rw[h.isAgg]at e;cases e),by simp[Value.cells,h.length],(fun _ _ e=>by cases e),(fun t' l' e=>by cases e;rfl)⟩,by simp only[bC];exact⟨_,rfl,by simpa using h⟩⟩
theorem dZ.Rw{t t':Ty}{l:List V}{cs:List Value}(h:dZ G t (.agg t' l) cs):t'=t/\dE G t l cs:=by obtain⟨x,rfl,h1,h2⟩:=h;have e:=h1.part _ _ rfl;subst e;simp only[bC]at h2;obtain⟨c,rfl,h3⟩:=h2;exact⟨rfl,by simpa[Value.cells]using h3⟩
theorem bC.zW{t:Ty}{v:V}{cs:List Value}(h:dZ G t v cs):∃x,cs=x.cells.toList/\bC G #[] v x/\(t.isAgg=true->x= .agg cs.toArray)/\(t.isAgg=false->cs=[x]):=by
 obtain⟨x,rfl,h1,h2⟩:=h;refine⟨x,rfl,h2,fun ht=>?_,fun ht=>?_⟩
 ·obtain⟨c,rfl⟩:=h1.agg ht;simp[Value.cells]
 ·have:=(h1.one ht).1;rw[this]
theorem mz:∀{t:Ty}{l:List V}{x:t.den}{cs:List Value},getArgs t l=some x->dE G t l cs->an G.env t x cs
 | .unit,[],_,cs,_,h=>by simp only[dE]at h;exact h.2.2
 | .unit,_::_,_,_,h,_=>by simp[getArgs]at h
 | .pair a b,[],_,_,h,_=>by simp[getArgs]at h
 | .pair a b,v::l,x,cs,h,hl=>by
  cases v<;>simp only[getArgs,reduceCtorEq]at h;rename_i t z;split at h
  ·cases h
  ·rename_i z' hz;split at h
   ·cases h
   ·rename_i r hr;obtain⟨rfl,rfl⟩:=il hz;cases h;simp only[dE]at hl;obtain⟨a',r',y,cs',h1,rfl,h2,h3,h4⟩:=hl;simp only[i6,Option.some.injEq,Prod.mk.injEq]at h1;obtain⟨rfl,rfl⟩:=h1;simp only[bC]at h3;exact⟨_,_,rfl,h3.cells,mz hr h4⟩
 | .int _,_,_,_,h,_=>by simp[getArgs]at h
 | .bool,_,_,_,h,_=>by simp[getArgs]at h
 | .str,_,_,_,h,_=>by simp[getArgs]at h
 | .sl _,_,_,_,h,_=>by simp[getArgs]at h
 | .arr _ _,_,_,_,h,_=>by simp[getArgs]at h
 | .opq,_,_,_,h,_=>by simp[getArgs]at h
theorem qZ{t:Ty}{l:List V}{cs:List Value}(h:dE G t l cs):dZ G t (o0 t l) cs:=by
 unfold o0;split
 ·rename_i x hx;exact .je (mz hx h)
 ·exact .E8 h
theorem OD{t:Ty}{l:List V}{x:Value}{tm:Array Value}(h:bC G tm (.agg t l) x):bC G tm (o0 t l) x:=by
 unfold o0;split
 ·rename_i y hy;simp only[bC]at h⊢;obtain⟨cs,rfl,h⟩:=h;exact .yU (mz hy h) h.isAgg
 ·exact h
theorem tw:∀{t:Ty}{x:t.den}{cs:List Value},t.chain=true->an G.env t x cs->dE G t (spread t x) cs
 | .unit,_,cs,_,h=>by simp only[spread,dE];exact⟨rfl,rfl,h⟩
 | .pair a b,x,cs,hc,h=>by obtain⟨c1,c2,rfl,h1,h2⟩:=h;simp only[spread,dE];obtain⟨v,e1,e2,e3⟩:=dZ.je (G:=G) h1;exact⟨a,b,v,c2,rfl,by rw[e1],e2,e3,tw (by simpa[Ty.chain]using hc) h2⟩
 | .int _,_,_,h,_=>by simp[Ty.chain]at h
 | .bool,_,_,h,_=>by simp[Ty.chain]at h
 | .str,_,_,h,_=>by simp[Ty.chain]at h
 | .sl _,_,_,h,_=>by simp[Ty.chain]at h
 | .arr _ _,_,_,h,_=>by simp[Ty.chain]at h
 | .opq,_,_,h,_=>by simp[Ty.chain]at h
theorem dE.part:∀{t:Ty}{l:List V}{cs:List Value}{j:Nat}{p:List Step}{o:Nat}{u:Ty},dE G t l cs->aX t (.fld j::p)=some (o,u)->
  ∃a o1 o2 cs1,aX a p=some (o2,u)/\o=o1+o2/\j<l.length/\dZ G a (nth l j) cs1/\(∀i x,cs1[i]? =some x->cs[o1+i]? =some x)/\o1+cs1.length<=cs.length/\
   ∀v' o3 ds,dZ G a v' (lay cs1 o3 ds)->o3+ds.length<=cs1.length->dE G t (l.set j v') (lay cs (o1+o3) ds)
 |t,[],cs,j,p,o,u,h,ho=>by simp only[dE]at h;cases t<;>simp[aX,i6]at h ho
 |t,v::l,cs,0,p,o,u,h,ho=>by
  simp only[dE]at h;obtain⟨a,r,x,cs',h1,rfl,h2,h3,h4⟩:=h;cases t with
  |pair a' b'=>
   simp[i6]at h1;obtain⟨rfl,rfl⟩:=h1;simp only[aX]at ho;refine⟨a',0,o,x.cells.toList,ho,by omega,by simp,⟨x,rfl,h2,h3⟩,fun i y hi=>?_,by simp,fun v' o3 ds hv hl=>?_⟩
   ·have:i<x.cells.toList.length:=by
     rcases Nat.lt_or_ge i x.cells.toList.length with h|h
     ·exact h
     ·rw[List.getElem?_eq_none h]at hi;cases hi
    rw[zero_add,List.getElem?_append_left this];exact hi
   ·obtain⟨y,e1,e2,e3⟩:=hv;simp only[List.set_cons_zero,dE];refine⟨a',b',y,cs',rfl,?_,e2,e3,h4⟩;rw[zero_add,oY _ _ _ _ hl,e1]
  |_=>simp[aX]at ho
 |t,v::l,cs,j+1,p,o,u,h,ho=>by
  simp only[dE]at h;obtain⟨a,r,x,cs',h1,rfl,h2,h3,h4⟩:=h;cases t with
  |pair a' b'=>
   simp[i6]at h1;obtain⟨rfl,rfl⟩:=h1;simp only[aX]at ho;cases h6:aX b' (.fld j::p)with
   |none=>simp[h6]at ho
   |some q=>
    simp[h6]at ho;obtain⟨rfl,rfl⟩:=ho;obtain⟨a2,o1,o2,cs1,g1,g2,g3,g4,g5,g6,g7⟩:=dE.part h4 h6;have hs:x.cells.toList.length=a'.size:=by rw[Array.length_toList,h2.size]
    refine⟨a2,a'.size+o1,o2,cs1,g1,by omega,by simpa using g3,by simpa[nth]using g4,fun i y hi=>?_,by rw[List.length_append];omega,fun v' o3 ds hv hl=>?_⟩
    ·rw[List.getElem?_append_right (by omega),show a'.size+o1+i-x.cells.toList.length=o1+i by omega];exact g5 i y hi
    ·simp only[List.set_cons_succ,dE];refine⟨a',b',x,lay cs' (o1+o3) ds,rfl,?_,h2,h3,g7 v' o3 ds hv hl⟩;rw[show a'.size+o1+o3=x.cells.toList.length+(o1+o3) by omega,ou]
  |_=>simp[aX]at ho
theorem dE.elem:∀{t:Ty}{l:List V}{cs:List Value}{i:Int}{p:List Step}{o:Nat}{u:Ty},dE G t l cs->aX t (.idx i::p)=some (o,u)->
  ∃a o1 o2 cs1,aX a p=some (o2,u)/\o=o1+o2/\i.toNat<l.length/\dZ G a (nth l i.toNat) cs1/\(∀k x,cs1[k]? =some x->cs[o1+k]? =some x)/\o1+cs1.length<=cs.length/\
   ∀v' o3 ds,dZ G a v' (lay cs1 o3 ds)->o3+ds.length<=cs1.length->dE G t (l.set i.toNat v') (lay cs (o1+o3) ds)
 | .arr 0 t,l,cs,i,p,o,u,h,ho=>by simp only[aX]at ho;grind
 | .arr (n+1) t,[],cs,i,p,o,u,h,ho=>by simp[dE,i6]at h
 | .arr (n+1) t,v::l,cs,i,p,o,u,h,ho=>by
  simp only[dE]at h;obtain⟨a,r,x,cs',h1,rfl,h2,h3,h4⟩:=h;simp[i6]at h1;obtain⟨rfl,rfl⟩:=h1;simp only[aX]at ho;split at ho
  ·rename_i hi;cases h6:aX t p with
   |none=>simp[h6]at ho
   |some q=>
    simp[h6]at ho;obtain⟨rfl,rfl⟩:=ho;have hs:x.cells.toList.length=t.size:=by rw[Array.length_toList,h2.size]
    by_cases h0:i=0
    ·subst h0;refine⟨t,0,q.1,x.cells.toList,h6,by simp,by simp,⟨x,rfl,h2,h3⟩,fun i y hi=>?_,by simp,fun v' o3 ds hv hl=>?_⟩
     ·have:i<x.cells.toList.length:=by
       rcases Nat.lt_or_ge i x.cells.toList.length with h|h
       ·exact h
       ·rw[List.getElem?_eq_none h]at hi;cases hi
      rw[zero_add,List.getElem?_append_left this];exact hi
     ·obtain⟨y,e1,e2,e3⟩:=hv;simp only[Int.toNat_zero,List.set_cons_zero,dE];refine⟨t,.arr n t,y,cs',rfl,?_,e2,e3,h4⟩;rw[zero_add,oY _ _ _ _ hl,e1]
    ·have hk:i.toNat=(i-1).toNat+1:=by omega
     have ho':aX (.arr n t) (.idx (i-1)::p)=some ((i-1).toNat*t.size+q.1,q.2):=by simp only[aX];grind
     obtain⟨a2,o1,o2,cs1,g1,g2,g3,g4,g5,g6,g7⟩:=dE.elem h4 ho';refine⟨a2,t.size+o1,o2,cs1,g1,?_,by rw[hk];simpa using g3,by rw[hk];simpa[nth]using g4,fun k y hy=>?_,by rw[List.length_append];omega,fun v' o3 ds hv hl=>?_⟩
     ·rw[hk,add_mul];omega
     ·rw[List.getElem?_append_right (by omega),show t.size+o1+k-x.cells.toList.length=o1+k by omega];exact g5 k y hy
     ·rw[hk];simp only[List.set_cons_succ,dE];refine⟨t,.arr n t,x,lay cs' (o1+o3) ds,rfl,?_,h2,h3,g7 v' o3 ds hv hl⟩;rw[show t.size+o1+o3=x.cells.toList.length+(o1+o3) by omega,ou]
  ·cases ho
 | .int _,_,_,_,_,_,_,_,ho=>by simp[aX]at ho
 | .bool,_,_,_,_,_,_,_,ho=>by simp[aX]at ho
 | .str,_,_,_,_,_,_,_,ho=>by simp[aX]at ho
 | .sl _,_,_,_,_,_,_,_,ho=>by simp[aX]at ho
 | .unit,_,_,_,_,_,_,_,ho=>by simp[aX]at ho
 | .opq,_,_,_,_,_,_,_,ho=>by simp[aX]at ho
 | .pair _ _,_,_,_,_,_,_,_,ho=>by simp[aX]at ho
theorem mE{t:Ty}{o:Nat}{u:Ty}(h:aX t []=some (o,u)):o=0/\u=t:=by cases t<;>simp[aX]at h<;>exact⟨h.1.symm,h.2.symm⟩
theorem G9{t:Ty}{s:Step}{p:List Step}{o:Nat}{u:Ty}(h:aX t (s::p)=some (o,u)):t.isAgg=true:=by
 cases t<;>first|rfl|(simp[aX]at h;done)
theorem ot:∀(p:List Step){t:Ty}{v:V}{cs:List Value}{o:Nat}{u:Ty},dZ G t v cs->aX t p=some (o,u)->
  ∃cs1,dZ G u (AU v p) cs1/\(∀j x,cs1[j]? =some x->cs[o+j]? =some x)/\o+cs1.length<=cs.length
 |[],t,v,cs,o,u,h,ho=>by obtain⟨rfl,rfl⟩:=mE ho;exact⟨cs,by cases v<;>exact h,fun j x hj=>by simpa using hj,by simp⟩
 |s::p,t,v,cs,o,u,h,ho=>by
  obtain⟨x,hx,hs,ha⟩:=h;have hag:=G9 ho;obtain⟨c,rfl⟩:=hs.agg hag;cases v with
  |data t' y=>
   obtain⟨e,hf⟩:=dZ.AM (G:=G) (t:=t) (cs:=cs) ⟨_,hx,hs,ha⟩;subst e;obtain⟨z,cs',h1,h2,h3⟩:=lZ _ _ _ _ _ _ hf ho;refine⟨cs',by simp only[AU];rw[h1];exact .je h2,h3,?_⟩;cases hc:cs' with
   |nil=>
    have hsz:=an.length _ _ _ h2;have:∀{t:Ty}{p:List Step}{o:Nat}{u:Ty},aX t p=some (o,u)->o+u.size<=t.size:=by
     intro t p;induction p generalizing t with
     |nil=>intro o u h;obtain⟨rfl,rfl⟩:=mE h;omega
     |cons s p ih=>
      intro o u h;cases t with
      |arr n t=>
       cases s with
       |idx i=>
        simp only[aX]at h;split at h
        ·rename_i hi;cases h2:aX t p with
         |none=>simp[h2]at h
         |some q=>simp[h2]at h;obtain⟨rfl,rfl⟩:=h;have:=ih h2;have h3:(i.toNat+1)*t.size<=n*t.size:=Nat.mul_le_mul_right _ (by omega);rw[add_mul]at h3;simp only[Ty.size];omega
        ·cases h
       |fld j=>simp[aX]at h
      |pair a b=>
       cases s with
       |idx i=>simp[aX]at h
       |fld j=>
        cases j with
        |zero=>simp only[aX]at h;have:=ih h;simp only[Ty.size];omega
        |succ j=>
         simp only[aX]at h;cases h2:aX b (.fld j::p)with
         |none=>simp[h2]at h
         |some q=>
          simp[h2]at h;obtain⟨rfl,rfl⟩:=h;have key:∀{b:Ty}{j:Nat}{q:Nat×Ty},aX b (.fld j::p)=some q->q.1+q.2.size<=b.size:=by
           intro b;induction b with
           |pair a b _ ihb=>
            intro j q h;cases j with
            |zero=>simp only[aX]at h;obtain⟨o,u⟩:=q;have:=ih h;simp only[Ty.size];omega
            |succ j=>
             simp only[aX]at h;cases h2:aX b (.fld j::p)with
             |none=>simp[h2]at h
             |some q'=>simp[h2]at h;have:=ihb h2;rw[<-h];simp only[Ty.size];omega
           |_=>intro j q h;simp[aX]at h
          have:=key h2;simp only[Ty.size];omega
      |_=>simp[aX]at h
    have h4:=this ho;have h5:=an.length _ _ _ hf;rw[hc]at hsz;simp at hsz⊢;omega
   |cons d r=>
    have hlt:cs'.length-1<cs'.length:=by rw[hc];simp
    have:=h3 (cs'.length-1) _ (List.getElem?_eq_getElem hlt);have hb:o+(cs'.length-1)<cs.length:=by grind
    rw[<-hc];omega
  |agg t' l=>
   obtain⟨e,hf⟩:=dZ.Rw (G:=G) (t:=t) (cs:=cs) ⟨_,hx,hs,ha⟩;subst e;cases s with
   |fld j=>obtain⟨a,o1,o2,cs1,g1,rfl,g3,g4,g5,g6,_⟩:=hf.part ho;obtain⟨cs2,f1,f2,f3⟩:=ot p g4 g1;exact⟨cs2,by simpa only[AU]using f1,fun j x hj=>by rw[add_assoc];exact g5 _ _ (f2 j x hj),by omega⟩
   |idx i=>obtain⟨a,o1,o2,cs1,g1,rfl,g3,g4,g5,g6,_⟩:=hf.elem ho;obtain⟨cs2,f1,f2,f3⟩:=ot p g4 g1;exact⟨cs2,by simpa only[AU]using f1,fun j x hj=>by rw[add_assoc];exact g5 _ _ (f2 j x hj),by omega⟩
  |_=>have:=hs.tree hag;simp[V.tree]at this
end
section
variable {P:Program}{C:Ctx}{G:GE}
theorem Kk{t:Ty}{v y:V}{cs ds:List Value}(h:dZ G t v cs)(hy:dZ G t y ds):0+ds.length<=cs.length/\dZ G t y (lay cs 0 ds):=by
 have e:ds.length=cs.length:=by rw[h.length,hy.length]
 exact⟨by omega,by rw[wH _ _ e];exact hy⟩
theorem DZ:∀(p:List Step){t:Ty}{v:V}{cs:List Value}{o:Nat}{u:Ty}{y:V}{ds:List Value}{v':V},dZ G t v cs->aX t p=some (o,u)->dZ G u y ds->rW.setD v p y=some v'->
  o+ds.length<=cs.length/\dZ G t v' (lay cs o ds)
 |[],t,v,cs,o,u,y,ds,v',h,ho,hy,hs=>by
  obtain⟨rfl,rfl⟩:=mE ho;have:y=v':=by cases v<;>simpa[rW.setD]using hs
  subst this;exact Kk h hy
 |s::p,t,v,cs,o,u,y,ds,v',h,ho,hy,hs=>by
  cases v with
  |data t' x=>
   cases s with
   |idx i=>simp[rW.setD]at hs
   |fld j=>
    simp only[rW.setD]at hs;obtain⟨e,hf⟩:=h.AM;subst e;split at hs
    ·rename_i hc;simp only[Bool.and_eq_true]at hc;split at hs
     ·rename_i z hz;cases hs;have hl:=tw (G:=G) hc.1 hf;obtain⟨a,o1,o2,cs1,g1,rfl,g3,g4,g5,g6,g7⟩:=hl.part ho;obtain⟨f1,f2⟩:=DZ p g4 g1 hy hz;exact⟨by omega,qZ (g7 z o2 ds f2 f1)⟩
     ·cases hs
    ·cases hs
  |_=>simp[rW.setD]at hs
theorem qz:∀(p:List Step){t:Ty}{v:V}{cs:List Value}{o:Nat}{u:Ty}{y:V}{ds:List Value}{v':V},dZ G t v cs->aX t p=some (o,u)->dZ G u y ds->rW v p y=some v'->
  o+ds.length<=cs.length/\dZ G t v' (lay cs o ds)
 |[],t,v,cs,o,u,y,ds,v',h,ho,hy,hs=>by
  obtain⟨rfl,rfl⟩:=mE ho;have:y=v':=by cases v<;>simpa[rW]using hs
  subst this;exact Kk h hy
 |s::p,t,v,cs,o,u,y,ds,v',h,ho,hy,hs=>by
  have hag:=G9 ho;have htree:v.tree=true:=by obtain⟨x,_,h1,_⟩:=h;exact h1.tree hag
  cases v with
  |agg t' l=>
   obtain⟨e,hl⟩:=h.Rw;subst e;cases s with
   |fld j=>
    simp only[rW]at hs;split at hs
    ·split at hs
     ·rename_i z hz;cases hs;obtain⟨a,o1,o2,cs1,g1,rfl,g3,g4,g5,g6,g7⟩:=hl.part ho;obtain⟨f1,f2⟩:=qz p g4 g1 hy hz;exact⟨by omega,qZ (g7 z o2 ds f2 f1)⟩
     ·cases hs
    ·cases hs
   |idx i=>
    simp only[rW]at hs;split at hs
    ·split at hs
     ·rename_i z hz;cases hs;obtain⟨a,o1,o2,cs1,g1,rfl,g3,g4,g5,g6,g7⟩:=hl.elem ho;obtain⟨f1,f2⟩:=qz p g4 g1 hy hz;exact⟨by omega,.E8 (g7 z o2 ds f2 f1)⟩
     ·cases hs
    ·cases hs
  |data t' x=>
   by_cases hd:∃t2 z,y= .data t2 z
   ·obtain⟨t2,z,rfl⟩:=hd;simp only[rW]at hs;split at hs
    ·rename_i w hw;cases hs;obtain⟨e,hf⟩:=h.AM;subst e;obtain⟨e2,hfy⟩:=hy.AM;subst e2;obtain⟨_,h1,h2⟩:=oH _ _ _ _ _ _ _ _ _ _ hf ho hw hfy;exact⟨h1,.je h2⟩
    ·cases hs
   ·cases s with
    |idx i=>cases y<;>simp[rW]at hs<;>exact absurd ⟨_,_,rfl⟩ hd
    |fld j=>
     have hs':(if(t'.chain&&blt j (spread t' x).length)=true then match rW.setD (nth (spread t' x) j) p y with
       |some z=>some (o0 t' ((spread t' x).set j z))
       |none=>none
       else none)=some v':=by
      cases y<;>first|exact absurd ⟨_,_,rfl⟩ hd|(simp only[rW]at hs;exact hs)
     obtain⟨e,hf⟩:=h.AM;subst e;split at hs'
     ·rename_i hc;simp only[Bool.and_eq_true]at hc;split at hs'
      ·rename_i z hz;cases hs';have hl:=tw (G:=G) hc.1 hf;obtain⟨a,o1,o2,cs1,g1,rfl,g3,g4,g5,g6,g7⟩:=hl.part ho;obtain⟨f1,f2⟩:=DZ p g4 g1 hy hz;exact⟨by omega,qZ (g7 z o2 ds f2 f1)⟩
      ·cases hs'
     ·cases hs'
  |_=>simp[V.tree]at htree
theorem sZ{a:Option Addr}:fC (.pointer a):=by simp[fC,Value.cells]
theorem lE{a:Option Addr}{n c:Nat}:fC (.slice a n c):=by simp[fC,Value.cells]
theorem xl.single{τ:Ty}{v:V}{x:Value}(ht:τ.isAgg=false)(hx:fC x)(h1:∀t y,v≠ .data t y)(h2:∀t l,v≠ .agg t l):xl τ v x:=
 ⟨(fun e=>by rw[ht]at e;cases e),(fun e=>by rw[ht]at e;cases e),fun _=>hx,by
  have hs:τ.size=1:=by cases τ<;>simp[Ty.isAgg]at ht<;>rfl
  rw[hx.1,hs];rfl,fun t y e=>absurd e (h1 t y),fun t l e=>absurd e (h2 t l)⟩
theorem oo{tm:Array Value}{τ:Ty}{y:V}{x:Value}(hf:fits τ y=true)(h:bC G tm y x):dZ G τ y x.cells.toList/\xl τ y x:=by
 have key:xl τ y x/\gD y=y:=by
  cases y<;>simp only[fits,Bool.not_eq_true',decide_eq_true_eq,Bool.false_eq_true]at hf<;>simp only[bC]at h
  case data t z=>
   subst hf;obtain⟨h1,h2,h3⟩:=h.isAgg;exact⟨⟨fun _=>rfl,h1,h2,h3,(fun t' y e=>by cases e;rfl),(fun _ _ e=>by cases e)⟩,rfl⟩
  case agg t l=>
   subst hf;obtain⟨c,rfl,hl⟩:=h;exact⟨⟨fun _=>rfl,fun _=>⟨_,rfl⟩,(fun e=>by rw[hl.isAgg]at e;cases e),by have:=hl.length;simpa[Value.cells]using this,(fun _ _ e=>by cases e),(fun t' l' e=>by cases e;rfl)⟩,rfl⟩
  case nilp=>exact⟨.single hf (by rw[h];exact sZ) (by simp) (by simp),rfl⟩
  case snil=>exact⟨.single hf (by rw[h];exact lE) (by simp) (by simp),rfl⟩
  case ref=>obtain⟨a,rfl⟩:=h.ptr;exact⟨.single hf sZ (by simp) (by simp),rfl⟩
  case iref=>obtain⟨a,ds,rfl,_⟩:=h;exact⟨.single hf sZ (by simp) (by simp),rfl⟩
  case fn=>obtain⟨xs,ys,rfl,_⟩:=h;exact⟨.single hf (by simp[fC,Value.cells]) (by simp) (by simp),rfl⟩
  case full=>obtain⟨_,a,n,rfl⟩:=h;exact⟨.single hf lE (by simp) (by simp),rfl⟩
  case app id ver=>
   have:∃a n c,x= .slice a n c:=by unfold lh at h;grind
   obtain⟨a,n,c,rfl⟩:=this;exact⟨.single hf lE (by simp) (by simp),rfl⟩
  case view=>
   have:∃a n c,x= .slice a n c:=by unfold lj at h;grind
   obtain⟨a,n,c,rfl⟩:=this;exact⟨.single hf lE (by simp) (by simp),rfl⟩
  case ifc=>obtain⟨y,rfl,_⟩:=h;exact⟨.single hf (by simp[fC,Value.cells]) (by simp) (by simp),rfl⟩
  case map=>
   unfold np at h;split at h
   ·obtain⟨b,_,rfl⟩:=h;exact⟨.single hf (by simp[fC,Value.cells]) (by simp) (by simp),rfl⟩
   ·exact h.elim
 exact⟨⟨x,rfl,key.1,by have:=h.gD (tm':=#[]);rwa [key.2]at this⟩,key.1⟩
theorem Ep:∀(t:Ty)(cs:List Value),t.plain=true->zJ t cs->an G.env t t.zero cs:=fun t cs hp h=>by rw[m9 t cs hp h];exact an.zero t hp
theorem CO{t:Ty}{v:V}:∀(n:Nat)(css:List (List Value)),css.length=n->(∀c∈css,dZ G t v c)->dE G (.arr n t) (replicate n v) css.flatten
 |0,[],_,_=>by simp[dE,i6,Ty.isAgg]
 |n+1,c::css,hl,h=>by obtain⟨x,h1,h2,h3⟩:=h c (by simp);simp only[List.replicate_succ,dE,flatten_cons];exact⟨t,.arr n t,x,css.flatten,rfl,by rw[h1],h2,h3,CO n css (by simpa using hl) fun c hc=>h c (List.mem_cons_of_mem _ hc)⟩
 |0,_::_,h,_=>by simp at h
 |_+1,[],h,_=>by simp at h
mutual
theorem na:∀(t:Ty)(cs:List Value),t.chained=true->zJ t cs->dZ G t (zeroV t) cs
 | .int k,cs,_,h=>by simp only[zeroV];exact .je (by rw[show cs=[.int k 0] from h];exact⟨rfl,Gu k⟩)
 | .bool,cs,_,h=>by simp only[zeroV];exact .je (by rw[show cs=[.bool false] from h];rfl)
 | .str,cs,_,h=>by simp only[zeroV];exact .je (by rw[show cs=[.string ByteArray.empty] from h];exact⟨ByteArray.empty,rfl,rfl,by decide⟩)
 | .unit,cs,_,h=>by simp only[zeroV];exact .je h
 | .opq,cs,_,⟨x,h,ho⟩=>by simp only[zeroV];rw[h];exact⟨x,by rw[ho.1],.single rfl ho (by simp) (by simp),by simp only[bC]⟩
 | .sl t,cs,_,h=>by simp only[zeroV];rw[show cs=[.slice none 0 0] from h];exact⟨.slice none 0 0,rfl,.single rfl lE (by simp) (by simp),by simp only[bC];exact⟨.inl ⟨rfl,rfl⟩,_,_,rfl⟩⟩
 | .arr n t,cs,hc,h=>by
  simp only[zeroV];split
  ·rename_i hp;have:=Ep (G:=G) (.arr n t) cs (by simpa[Ty.plain]using hp) h;exact .je (by simpa only[Ty.zero]using this)
  ·obtain⟨css,hl,rfl,hz⟩:=h;exact .E8 (CO n css hl fun c hcs=>na t c (by simpa[Ty.chained]using hc) (hz c hcs))
 | .pair a b,cs,hc,⟨c1,c2,e,h1,h2⟩=>by
  simp only[zeroV];have hc':a.chained=true/\b.chained=true/\b.chain=true:=by simpa[Ty.chained,and_assoc]using hc
  obtain⟨x,e1,e2,e3⟩:=na a c1 hc'.1 h1;refine qZ ?_;simp only[dE];exact⟨a,b,x,c2,rfl,by rw[e,e1],e2,e3,Cb b c2 hc'.2.1 hc'.2.2 h2⟩
theorem Cb:∀(t:Ty)(cs:List Value),t.chained=true->t.chain=true->zJ t cs->dE G t (HT t) cs
 | .unit,cs,_,_,h=>by simp only[HT,dE];exact⟨rfl,rfl,h⟩
 | .pair a b,cs,hc,_,⟨c1,c2,e,h1,h2⟩=>by
  simp only[HT,dE];have hc':a.chained=true/\b.chained=true/\b.chain=true:=by simpa[Ty.chained,and_assoc]using hc
  obtain⟨x,e1,e2,e3⟩:=na a c1 hc'.1 h1;exact⟨a,b,x,c2,rfl,by rw[e,e1],e2,e3,Cb b c2 hc'.2.1 hc'.2.2 h2⟩
 | .int _,_,_,h,_=>by simp[Ty.chain]at h
 | .bool,_,_,h,_=>by simp[Ty.chain]at h
 | .str,_,_,h,_=>by simp[Ty.chain]at h
 | .sl _,_,_,h,_=>by simp[Ty.chain]at h
 | .arr _ _,_,_,h,_=>by simp[Ty.chain]at h
 | .opq,_,_,h,_=>by simp[Ty.chain]at h
end
mutual
theorem jo.chained:∀(τ:Ty)(i:TypeId),jo P τ i->τ.chained=true
 | .int _,_,_=>rfl
 | .bool,_,_=>rfl
 | .str,_,_=>rfl
 | .unit,_,_=>rfl
 | .opq,_,_=>rfl
 | .sl _,_,_=>rfl
 | .arr n t,i,h=>by obtain⟨e,_,h,_⟩:=h;simpa[Ty.chained]using jo.chained t e h
 | .pair a b,i,h=>by obtain⟨fs,_,⟨f,r,_,_,_,_,h1,h2⟩,_⟩:=h;have ha:=jo.chained a f.type h1;obtain⟨k1,k2⟩:=dh.chained b r _ h2;simp[Ty.chained,ha,k1,k2]
theorem dh.chained:∀(τ:Ty)(fs:List Field)(off:Nat),dh P τ fs off->τ.chained=true/\τ.chain=true
 | .unit,_,_,_=>⟨rfl,rfl⟩
 | .pair a b,fs,off,h=>by obtain⟨f,r,_,_,_,_,h1,h2⟩:=h;have ha:=jo.chained a f.type h1;obtain⟨k1,k2⟩:=dh.chained b r _ h2;simp[Ty.chained,Ty.chain,ha,k1,k2]
 | .int _,_,_,h=>by simp[dh]at h
 | .bool,_,_,h=>by simp[dh]at h
 | .str,_,_,h=>by simp[dh]at h
 | .sl _,_,_,h=>by simp[dh]at h
 | .arr _ _,_,_,h=>by simp[dh]at h
 | .opq,_,_,h=>by simp[dh]at h
end
end
end Go.Bx
