/- A part of a framework that reads Go code as functions of plain data. -/
import Derived.Calls
import Derived.LoopN
import Derived.KernelRfl
import Derived.Orders
import Derived.Below
import Derived.WalkKit
import Derived.Laws.BytesString
import Derived.Laws.Cells
namespace Go.Bx
set_option linter.unusedVariables false
set_option linter.unusedSimpArgs false
open Go
inductive Ty where
 | int (k : IntKind) | bool | str | arr (n : Nat) (t : Ty) | sl (t : Ty) | unit | pair (a b : Ty) | opq
 deriving DecidableEq
@[reducible] def Ty.den : Ty->Type
 | .int _=>Int | .bool=>Bool | .str=>List Int | .arr _ t=>List t.den | .sl t=>List t.den | .unit=>Unit | .pair a b=>a.den × b.den | .opq=>Unit
def Ty.zero : (t : Ty)->t.den
 | .int _=>(0 : Int) | .bool=>false | .str=>([] : List Int) | .arr n t=>List.replicate n t.zero | .sl t=>([] : List t.den) | .unit=>() | .pair a b=>(a.zero,b.zero) | .opq=>()
def Ty.size : Ty->Nat
 | .arr n t=>n * t.size | .unit=>0 | .pair a b=>a.size + b.size | _=>1
def Ty.isAgg : Ty->Bool
 | .arr _ _=>true | .unit=>true | .pair _ _=>true | _=>false
def Ty.align : Ty->Nat
 | .int k=>k.bits / 8 | .bool=>1 | .arr _ t=>t.align | .unit=>1 | .pair a b=>max a.align b.align | _=>8
def upTo (n a : Nat) : Nat:=(n + a - 1) / a * a
mutual
def Ty.bytes : Ty->Nat
 | .int k=>k.bits / 8 | .bool=>1 | .str=>16 | .sl _=>24 | .arr n t=>n * t.bytes | .unit=>0 | .pair a b=>upTo (b.ends a.bytes) (max a.align b.align) | .opq=>8
def Ty.ends : Ty->Nat->Nat
 | .pair a b,off=>b.ends (upTo off a.align + a.bytes) | _,off=>off
end
def Ty.plain : Ty->Bool
 | .arr _ t=>t.plain | .sl t=>t.plain | .pair a b=>a.plain && b.plain | .opq=>false | _=>true
def Ty.scalar : Ty->Bool
 | .arr _ t=>t.scalar | .pair a b=>a.scalar && b.scalar | .sl _=>false | .opq=>false | _=>true
def Ty.cmp : Ty->Bool
 | .arr _ t=>t.cmp | .pair a b=>a.cmp && b.cmp | .sl _=>false | .opq=>false | _=>true
def Ty.dep : Ty->Nat
 | .arr _ t=>t.dep + 1 | .pair a b=>max (a.dep + 1) b.dep | _=>1
def castD (a b : Ty) (x : a.den) : Option b.den:=if h : a = b then some (h ▸ x) else none
inductive Step where
 | idx (i : Int) | fld (j : Nat)
inductive V where
 | any
 | data (t : Ty) (x : t.den)
 | nilp
 | snil
 | ref (id ver : Nat) (p : List Step)
 | iref (t : Ty) (x : t.den)
 | tup (l : List V)
 | opt (d : Nat) (want : Bool) (v : V)
 | fn (f : Nat) (fst cap : List V)
 | full (t : Ty) (l : List t.den)
 | app (id ver : Nat)
 | view (id : Nat) (p : List Step) (t : Ty) (n : Nat) (lo hi : Int)
 | agg (t : Ty) (l : List V)
 | ifc (ty : Nat) (v : V)
 | map (id : Nat)
 | glob (g : Nat)
 | mth (m : String) (v : V)
structure GV where
 t : Ty
 x : t.den
def gBru : List Int:=[0,1,56,2,57,49,28,3,61,58,42,50,38,29,17,4,62,47,59,36,45,43,51,22,53,39,33,30,24,18,12,5,63,55,48,27,60,41,37,16,46,35,44,21,52,32,23,11,54,26,40,15,34,20,31,10,25,14,19,9,13,8,7,6]
def globs : List (Nat × GV):=[(2,⟨.arr 64 (.int .u8),gBru⟩)]
inductive Blk where
 | cell (t : Ty) (v : V) (frz : Bool)
 | buf (t : Ty) (l : List t.den) (ver : Nat) (frz : Bool)
 | map (k v : Ty) (l : List (k.den × v.den))
abbrev Heap:=List (Nat × Blk)
structure St where
 fr : List V
 hp : Heap
structure Fn where
 ps : Ty
 rs : Ty
 multi : Bool
 run : ps.den->Option rs.den
structure Sh where
 Y : Type
 o : Option Y
 f : Y->V × Heap
 cs : (α : Type)->(V × Heap->Option α)->Y->Option α
 ok : ∀ α K y,cs α K y = K (f y)
inductive Norm where
 | dat (slot : Bool) (at_ : Nat) (p : List Nat)
 | melt (slot : Bool) (at_ : Nat) (p : List Nat) (id : Nat) (z : Bool)
 | tid (l : List Nat)
 | name (slot : Bool) (at_ : Nat) (p : List Nat) (id : Nat)
structure Ctx where
 ty : List (Nat × Ty)
 ptr : List (Nat × Nat)
 mp : List (Nat × (Nat × Nat))
 fn : Nat->Option Fn
 sh : Nat->Option (List V->Heap->Option Sh)
 site : List (Nat × Nat)
 inv : Nat->String->Option Nat
 live : List (Nat × List Nat)
 norm : List (Nat × List Norm)
 frz : List Nat
 base : Nat
 lim : Nat
def look {β : Type} (l : List (Nat × β)) (i : Nat) : Option β :=
 match l with
 | []=>none
 | (j,b) :: r=>if Nat.beq j i = true then some b else look r i
def inR (k : IntKind) (n : Int) : Bool:=decide (k.min <= n) && decide (n <= k.max)
def bytesOf (s : ByteArray) : List Int:=s.data.toList.map fun b=>(b.toNat : Int)
def ofConst : Value->V
 | .int k n=>if inR k n = true then .data (.int k) n else .any
 | .bool b=>.data .bool b
 | .pointer none=>.nilp
 | .slice none 0 0=>.snil
 | .string s=>if Nat.ble s.size maxLen = true then .data .str (bytesOf s) else .any
 | _=>.any
def nth : List V->Nat->V
 | [],_=>.any
 | v :: _,0=>v
 | _ :: r,n + 1=>nth r n
def nthB (hp : Heap) (i : Nat) : Option Blk:=look hp i
def ev (fr : List V) : Operand->V
 | .tmp t=>nth fr t
 | .const v=>ofConst v
 | .func f=>.fn f [] []
 | .global g=>.glob g
def getP : (t : Ty)->t.den->List Step->V
 | t,x,[]=>.data t x
 | .arr _ t,l,.idx i :: p=>getP t (l.getD i.toNat t.zero) p
 | .pair a _,x,.fld 0 :: p=>getP a x.1 p
 | .pair _ b,x,.fld (j + 1) :: p=>getP b x.2 (.fld j :: p)
 | _,_,_ :: _=>.any
def updP : (t : Ty)->t.den->List Step->(t' : Ty)->t'.den->Option t.den
 | t,_,[],t',y=>castD t' t y
 | .arr _ t,l,.idx i :: p,t',y=>(updP t (l.getD i.toNat t.zero) p t' y).map (l.set i.toNat)
 | .pair a _,x,.fld 0 :: p,t',y=>(updP a x.1 p t' y).map fun z=>(z,x.2)
 | .pair _ b,x,.fld (j + 1) :: p,t',y=>(updP b x.2 (.fld j :: p) t' y).map fun z=>(x.1,z)
 | _,_,_ :: _,_,_=>none
def offT : (t : Ty)->List Step->Option (Nat × Ty)
 | t,[]=>some (0,t)
 | .arr n t,.idx i :: p=>if 0 <= i /\ i < (n : Int) then match offT t p with
  | some (o,u)=>some (i.toNat * t.size + o,u)
  | none=>none
  else none
 | .pair a _,.fld 0 :: p=>offT a p
 | .pair a b,.fld (j + 1) :: p=>match offT b (.fld j :: p) with
  | some (o,u)=>some (a.size + o,u)
  | none=>none
 | _,_ :: _=>none
def proj : (t : Ty)->t.den->Nat->V
 | .pair a _,x,0=>.data a x.1
 | .pair _ b,x,j + 1=>proj b x.2 j
 | _,_,_=>.any
def subT : Ty->List Step->Option Ty
 | t,[]=>some t
 | .arr _ t,.idx _ :: p=>subT t p
 | .pair a _,.fld 0 :: p=>subT a p
 | .pair _ b,.fld (j + 1) :: p=>subT b (.fld j :: p)
 | _,_ :: _=>none
def uncons : Ty->Option (Ty × Ty)
 | .pair a b=>some (a,b)
 | .arr (n + 1) t=>some (t,.arr n t)
 | _=>none
def spread : (t : Ty)->t.den->List V
 | .pair a b,x=>.data a x.1 :: spread b x.2
 | _,_=>[]
def getArgs : (t : Ty)->List V->Option t.den
 | .unit,[]=>some ()
 | .pair a b,.data t x :: r=>match castD t a x with
  | none=>none
  | some x=>match getArgs b r with
   | none=>none
   | some y=>some (x,y)
 | _,_=>none
def mkAgg (t : Ty) (l : List V) : V:=match getArgs t l with
 | some x=>.data t x
 | none=>.agg t l
def Ty.chain : Ty->Bool
 | .unit=>true
 | .pair _ b=>b.chain
 | _=>false
def Ty.chained : Ty->Bool
 | .pair a b=>a.chained && b.chained && b.chain
 | .arr _ t=>t.chained
 | _=>true
def getV : V->List Step->V
 | v,[]=>v
 | .data t x,s :: p=>getP t x (s :: p)
 | .agg _ l,.fld j :: p=>getV (nth l j) p
 | .agg _ l,.idx i :: p=>getV (nth l i.toNat) p
 | _,_ :: _=>.any
def setV : V->List Step->V->Option V
 | _,[],y=>some y
 | .agg t l,.fld j :: p,y=>if Nat.blt j l.length = true then match setV (nth l j) p y with
  | some z=>some (mkAgg t (l.set j z))
  | none=>none
  else none
 | .agg t l,.idx i :: p,y=>if Nat.blt i.toNat l.length = true then match setV (nth l i.toNat) p y with
  | some z=>some (.agg t (l.set i.toNat z))
  | none=>none
  else none
 | .data t x,s :: p,.data t' y=>match updP t x (s :: p) t' y with
  | some z=>some (.data t z)
  | none=>none
 | .data t x,.fld j :: p,y=>if (t.chain && Nat.blt j (spread t x).length) = true then match setD (nth (spread t x) j) p y with
  | some z=>some (mkAgg t ((spread t x).set j z))
  | none=>none
  else none
 | _,_ :: _,_=>none
where
 setD : V->List Step->V->Option V
  | _,[],y=>some y
  | .data t x,.fld j :: p,y=>if (t.chain && Nat.blt j (spread t x).length) = true then match setD (nth (spread t x) j) p y with
   | some z=>some (mkAgg t ((spread t x).set j z))
   | none=>none
   else none
  | _,_ :: _,_=>none
structure Gd where
 d : Nat
 want : Bool
 b : Bool
 sure : Bool
def sane : V->V
 | .opt _ _ _=>.any
 | v=>v
def saneT (C : Ctx) (ty : Nat) : V->V
 | .snil=>match look C.ty ty with
  | some (.sl t)=>.full t []
  | _=>.snil
 | v=>sane v
def un (g : Option Gd) : V->V
 | .opt d w v=>match g with
  | some g=>if Nat.beq g.d d && (g.want == w) then sane v else .any
  | none=>.any
 | v=>v
def chk {α : Type} (g : Option Gd) (c : Prop) (i : Decidable c) (K : Option α) : Option α :=
 match g with
 | none=>match i with
  | .isTrue _=>K
  | .isFalse _=>none
 | some g=>match decide c || !g.b with
  | true=>K
  | false=>none
def tag (g : Option Gd) (v : V) : V:=match g with
 | none=>v
 | some g=>.opt g.d g.want v
def cutL {α : Type} (l : List α) (lo hi : Int) : List α:=(l.drop lo.toNat).take (hi.toNat - lo.toNat)
mutual
def rd (hp : Heap) : V->V
 | .full t l=>.data (.sl t) l
 | .app id ver=>match nthB hp id with
  | some (.buf t l ver' _)=>if Nat.beq ver ver' = true then .data (.sl t) l else .any
  | _=>.any
 | .view id p t n lo hi=>match nthB hp id with
  | some (.cell _ c _)=>match getV c p with
   | .data (.arr n' t') l=>if n' = n /\ t' = t then .data (.sl t') (cutL l lo hi) else .any
   | _=>.any
  | _=>.any
 | .agg t l=>mkAgg t (rdL hp l)
 | v=>v
def rdL (hp : Heap) : List V->List V
 | []=>[]
 | v :: l=>rd hp v :: rdL hp l
end
mutual
def ren (ρ : Nat->Nat->Option (Nat × Nat)) : V->V
 | .app id ver=>match ρ id ver with
  | some (j,u)=>.app j u
  | none=>.any
 | .ref id ver p=>match ρ id ver with
  | some (j,u)=>.ref j u p
  | none=>.any
 | .view id p t n lo hi=>match ρ id 0 with
  | some (j,_)=>.view j p t n lo hi
  | none=>.any
 | .map id=>match ρ id 0 with
  | some (j,_)=>.map j
  | none=>.any
 | .tup l=>.tup (renL ρ l)
 | .opt d w v=>.opt d w (ren ρ v)
 | .fn f a b=>.fn f (renL ρ a) (renL ρ b)
 | .agg t l=>.agg t (renL ρ l)
 | .ifc t v=>.ifc t (ren ρ v)
 | .mth m v=>.mth m (ren ρ v)
 | v=>v
def renL (ρ : Nat->Nat->Option (Nat × Nat)) : List V->List V
 | []=>[]
 | v :: l=>ren ρ v :: renL ρ l
end
def renB (ρ : Nat->Nat->Option (Nat × Nat)) : Blk->Blk
 | .cell t v z=>.cell t (ren ρ v) z
 | b=>b
def setB : Heap->Nat->Blk->Heap
 | [],d,c=>[(d,c)]
 | (i,b) :: r,d,c=>if Nat.beq d i = true then (d,c) :: r else if Nat.blt d i = true then (d,c) :: (i,b) :: r else (i,b) :: setB r d c
def mem (l : List Nat) (i : Nat) : Bool:=l.any (Nat.beq i)
def frzB : Blk->Blk
 | .cell t v _=>.cell t v true
 | .buf t l ver _=>.buf t l ver true
 | b=>b
mutual
def frz (hp : Heap) : V->Heap
 | .app id _=>match nthB hp id with
  | some b=>setB hp id (frzB b)
  | none=>hp
 | .view id _ _ _ _ _=>match nthB hp id with
  | some b=>setB hp id (frzB b)
  | none=>hp
 | .agg _ l=>frzL hp l
 | _=>hp
def frzL (hp : Heap) : List V->Heap
 | []=>hp
 | v :: l=>frzL (frz hp v) l
end
mutual
def loose (hp : Heap) : V->Bool
 | .app id _=>match nthB hp id with
  | some (.buf _ _ _ true)=>false
  | _=>true
 | .view id _ _ _ _ _=>match nthB hp id with
  | some (.cell _ _ true)=>false
  | _=>true
 | .agg _ l=>looseL hp l
 | _=>false
def looseL (hp : Heap) : List V->Bool
 | []=>false
 | v :: l=>loose hp v || looseL hp l
end
def band (k : IntKind) (x y : Int) : Int:=k.wrap (((BitVec.ofInt k.bits x &&& BitVec.ofInt k.bits y).toNat : Nat) : Int)
def bor (k : IntKind) (x y : Int) : Int:=k.wrap (((BitVec.ofInt k.bits x ||| BitVec.ofInt k.bits y).toNat : Nat) : Int)
def bxor (k : IntKind) (x y : Int) : Int:=k.wrap (((BitVec.ofInt k.bits x ^^^ BitVec.ofInt k.bits y).toNat : Nat) : Int)
def bandNot (k : IntKind) (x y : Int) : Int:=k.wrap (((BitVec.ofInt k.bits x &&& ~~~ BitVec.ofInt k.bits y).toNat : Nat) : Int)
def shlI (k : IntKind) (x y : Int) : Int:=k.wrap (x * 2 ^ (min y.toNat k.bits))
def shrI (k : IntKind) (x y : Int) : Int:=x.fdiv (2 ^ (min y.toNat k.bits))
def beqL {α : Type} (f : α->α->Bool) : List α->List α->Bool
 | [],[]=>true
 | a :: r,b :: s=>f a b && beqL f r s
 | _,_=>false
def beqD : (t : Ty)->t.den->t.den->Bool
 | .int _,x,y=>(x : Int) == (y : Int)
 | .bool,x,y=>(x : Bool) == (y : Bool)
 | .str,x,y=>(x : List Int) == (y : List Int)
 | .arr _ t,x,y=>beqL (beqD t) x y
 | .unit,_,_=>true
 | .pair a b,x,y=>beqD a x.1 y.1 && beqD b x.2 y.2
 | _,_,_=>false
def Ty.key : Ty->Bool
 | .int _=>true | .arr _ (.int _)=>true | _=>false
def idxM {κ ν : Type} (eq : κ->κ->Bool) (k : κ) : List (κ × ν)->Nat
 | []=>0
 | p :: r=>match eq k p.1 with
  | true=>0
  | false=>idxM eq k r + 1
def entM {κ ν : Type} (eq : κ->κ->Bool) (k : κ) (z : ν) (l : List (κ × ν)) : List (κ × ν):=match Nat.blt (idxM eq k l) l.length with
 | true=>l
 | false=>l ++ [(k,z)]
def valM {κ ν : Type} (k : κ) (z : ν) (l : List (κ × ν)) (i : Nat) : ν:=(l.getD i (k,z)).2
def getM {κ ν : Type} (eq : κ->κ->Bool) (k : κ) (z : ν) : List (κ × ν)->ν
 | []=>z
 | p :: r=>match eq k p.1 with
  | true=>p.2
  | false=>getM eq k z r
def putM {κ ν : Type} : List (κ × ν)->Nat->ν->List (κ × ν)
 | [],_,_=>[]
 | p :: r,0,v=>(p.1,v) :: r
 | p :: r,i + 1,v=>p :: putM r i v
def setM {κ ν : Type} (eq : κ->κ->Bool) (k : κ) (v : ν) (l : List (κ × ν)) : List (κ × ν):=match Nat.blt (idxM eq k l) l.length with
 | true=>putM l (idxM eq k l) v
 | false=>l ++ [(k,v)]
inductive Out where
 | val (c : Prop) (i : Decidable c) (v : V)
 | new (v : V)
 | eff (c : Prop) (i : Decidable c) (v : V) (hp : Heap) (wr : List Nat)
 | call (F : Fn) (a : F.ps.den) (hp : Heap) (wr : List Nat)
 | sh (s : Sh) (L : List Nat)
def okR (v : V) : Option Out:=some (.val True instDecidableTrue v)
def ifR (c : Prop) [i : Decidable c] (v : V) : Option Out:=some (.val c i v)
def ifE (c : Prop) [i : Decidable c] (v : V) (hp : Heap) (wr : List Nat) : Option Out:=some (.eff c i v hp wr)
def ltB : List Int->List Int->Bool
 | _,[]=>false
 | [],_ :: _=>true
 | a :: x,b :: y=>decide (a < b) || (a == b && ltB x y)
def strBin (op : BinOp) (x y : List Int) : Option Out :=
 match op with
 | .add=>ifR (Nat.ble (x.length + y.length) 9223372036854775807 = true) (.data .str (x ++ y))
 | .eql=>okR (.data .bool (beqD .str x y))
 | .neq=>okR (.data .bool (!beqD .str x y))
 | .lss=>okR (.data .bool (ltB x y))
 | .leq=>okR (.data .bool (ltB x y || beqD .str x y))
 | .gtr=>okR (.data .bool (!(ltB x y || beqD .str x y)))
 | .geq=>okR (.data .bool (!ltB x y))
 | _=>none
def intBin (op : BinOp) (k : IntKind) (x y : Int) : Option Out :=
 match op with
 | .add=>okR (.data (.int k) (k.wrap (x + y)))
 | .sub=>okR (.data (.int k) (k.wrap (x - y)))
 | .mul=>okR (.data (.int k) (k.wrap (x * y)))
 | .quo=>ifR (y ≠ 0) (.data (.int k) (k.wrap (x.tdiv y)))
 | .rem=>ifR (y ≠ 0) (.data (.int k) (x.tmod y))
 | .and=>okR (.data (.int k) (band k x y))
 | .or=>okR (.data (.int k) (bor k x y))
 | .xor=>okR (.data (.int k) (bxor k x y))
 | .andNot=>okR (.data (.int k) (bandNot k x y))
 | .eql=>okR (.data .bool (x == y))
 | .neq=>okR (.data .bool (x != y))
 | .lss=>okR (.data .bool (decide (x < y)))
 | .leq=>okR (.data .bool (decide (x <= y)))
 | .gtr=>okR (.data .bool (decide (x > y)))
 | .geq=>okR (.data .bool (decide (x >= y)))
 | _=>none
def nilBin (op : BinOp) (b : Bool) : Option Out :=
 match op with
 | .eql=>okR (.data .bool b)
 | .neq=>okR (.data .bool (!b))
 | _=>none
def binV (C : Ctx) (op : BinOp) (xt : Nat) (x y : V) : Option Out :=
 match x,y with
 | .data (.int k) a,.data (.int k') b =>
  match op with
  | .shl=>ifR (0 <= (b : Int)) (.data (.int k) (shlI k a b))
  | .shr=>ifR (0 <= (b : Int)) (.data (.int k) (shrI k a b))
  | op=>if k = k' then intBin op k a b else none
 | .data .str a,.data .str b=>strBin op a b
 | .data t a,.data t' b =>
  match castD t' t b with
  | none=>none
  | some b=>if look C.ty xt = some t /\ t.cmp = true /\ Nat.ble t.dep 10000 = true then match op with
   | .eql=>okR (.data .bool (beqD t a b))
   | .neq=>okR (.data .bool (!beqD t a b))
   | _=>none
   else none
 | .nilp,.nilp=>if (look C.ptr xt).isSome = true then nilBin op true else none
 | .ref _ _ _,.nilp=>if (look C.ptr xt).isSome = true then nilBin op false else none
 | .nilp,.ref _ _ _=>if (look C.ptr xt).isSome = true then nilBin op false else none
 | _,_=>none
def Fn.out (F : Fn) (r : F.rs.den) : V:=match F.multi with
 | false=>.data F.rs r
 | true=>.tup (spread F.rs r)
def unV (op : UnOp) (x : V) : Option Out :=
 match op,x with
 | .not,.data .bool b=>okR (.data .bool (!b))
 | .neg,.data (.int k) n=>okR (.data (.int k) (k.wrap (0 - (n : Int))))
 | .xor,.data (.int k) n=>okR (.data (.int k) (bxor k (if k.signed then -1 else k.max) n))
 | _,_=>none
def stepOf : Ty->Nat->Step
 | .arr _ _,i=>.idx i
 | _,i=>.fld i
def fits (τ : Ty) : V->Bool
 | .data t _=>decide (t = τ)
 | .agg t _=>decide (t = τ)
 | .nilp=>!τ.isAgg
 | .snil=>!τ.isAgg
 | .ref _ _ _=>!τ.isAgg
 | .iref _ _=>!τ.isAgg
 | .fn _ _ _=>!τ.isAgg
 | .full _ _=>!τ.isAgg
 | .app _ _=>!τ.isAgg
 | .view _ _ _ _ _ _=>!τ.isAgg
 | .ifc _ _=>!τ.isAgg
 | .map _=>!τ.isAgg
 | _=>false
def dd : V->V
 | .full t l=>.data (.sl t) l
 | v=>v
def nilT (u : Ty) : V->V
 | .snil=>match u with
  | .sl t=>.full t []
  | _=>.snil
 | v=>v
def buildT (e : Operand->V) (τ : Ty) : List (Nat × Operand)->V->Option V
 | [],c=>some c
 | (i,x) :: r,c=>match subT τ [stepOf τ i] with
  | some u=>if (fits u (nilT u (e x)) && (offT τ [stepOf τ i]).isSome) = true then match setV c [stepOf τ i] (nilT u (e x)) with
    | some c'=>buildT e τ r c'
    | none=>none
    else none
  | none=>none
mutual
def zeroV : Ty->V
 | .sl t=>.full t []
 | .opq=>.any
 | .pair a b=>mkAgg (.pair a b) (zeroV a :: zeroL b)
 | .arr n t=>if t.plain then .data (.arr n t) (List.replicate n t.zero) else .agg (.arr n t) (List.replicate n (zeroV t))
 | .unit=>.data .unit ()
 | .int k=>.data (.int k) (0 : Int)
 | .bool=>.data .bool false
 | .str=>.data .str ([] : List Int)
def zeroL : Ty->List V
 | .pair a b=>zeroV a :: zeroL b
 | _=>[]
end
def buildV (e : Operand->V) (τ : Ty) : List (Nat × Operand)->τ.den->Option τ.den
 | [],c=>some c
 | (i,x) :: r,c=>match offT τ [stepOf τ i],e x with
  | some _,.data σ y=>match updP τ c [stepOf τ i] σ y with
   | some c'=>buildV e τ r c'
   | none=>none
  | some (_,.sl t),.snil=>match updP τ c [stepOf τ i] (.sl t) ([] : List t.den) with
   | some c'=>buildV e τ r c'
   | none=>none
  | _,_=>none
def tyAt (b : Option Blk) (ver : Nat) (p : List Step) : Option Ty:=match b,p with
 | some (.cell σ _ _),p=>subT σ p
 | some (.buf σ _ ver' _),.idx _ :: q=>if Nat.beq ver ver' = true then subT σ q else none
 | _,_=>none
def valAt (b : Option Blk) (p : List Step) : V:=match b,p with
 | some (.cell _ v _),p=>getV v p
 | some (.buf σ l _ _),.idx i :: q=>getP σ (l.getD i.toNat σ.zero) q
 | _,_=>.any
def intOf? : V->Option Int
 | .data (.int _) n=>some n
 | _=>none
def boundOf (e : Operand->V) (d : Int) : Option Operand->Option Int
 | none=>some d
 | some x=>intOf? (e x)
def sliceL (e : Operand->V) (τ : Ty) (l : List τ.den) (lo hi mx : Option Operand) : Option Out :=
 match boundOf e 0 lo,boundOf e l.length hi with
 | some a,some b=>match mx with
  | none=>ifR (0 <= a /\ a <= b /\ b <= (l.length : Int)) (.data (.sl τ) (cutL l a b))
  | some m=>match intOf? (e m),hi with
   | some m,some _=>ifR (0 <= a /\ a <= b /\ b <= (l.length : Int) /\ m = b) (.full τ (cutL l a b))
   | _,_=>none
 | _,_=>none
def plainV : V->Bool
 | .opt _ _ _=>false
 | _=>true
def callArgs (e : Operand->V) (c : Call) (recv : Option V) (fst cap : List V) : List V :=
 (match recv with | some v=>[sane v] | none=>[]) ++ fst.map sane ++ c.args.toList.map e ++ cap.map sane
def target (C : Ctx) (e : Operand->V) (c : Call) : Option (Nat × List V) :=
 match c.callee with
 | .value f=>match e f with
  | .fn f fst cap=>some (f,callArgs e c none fst cap)
  | _=>none
 | .invoke r m=>match e r with
  | .ifc t v=>match C.inv t m with
   | some f=>some (f,callArgs e c (some v) [] [])
   | none=>none
  | _=>none
 | .builtin _=>none
def valR (C : Ctx) (g : Option Gd) (fr : List V) (hp : Heap) (op : Op) : Option Out :=
 let r:=fun x=>un g (ev fr x)
 let e:=fun x=>dd (un g (ev fr x))
 match op with
 | .move x | .assign x=>okR (r x)
 | .pick c a b =>
  match c,e c with
  | .tmp d,.data .bool t =>
   let arm:=fun (w : Bool) (x : Operand)=>match ev fr x with
    | .opt d' w' (.data .bool y)=>if Nat.beq d' d && (w == w') then some y else none
    | .data .bool y=>some y
    | _=>none
   match arm true a,arm false b with
   | some y,some z=>okR (.data .bool (cond t y z))
   | _,_=>none
  | _,_=>none
 | .load t x =>
  match look C.ty t with
  | none=>none
  | some τ=>match e x with
   | .ref id ver p=>if tyAt (nthB hp id) ver p = some τ then okR (sane (valAt (nthB hp id) p)) else none
   | .iref σ y=>if σ = τ then okR (.data σ y) else none
   | .glob g=>match look globs g with
    | some G=>if G.t = τ then okR (.data G.t G.x) else none
    | none=>none
   | _=>none
 | .indexAddr t x i =>
  match look C.ty t,e x,e i with
  | some (.arr len τ),.glob g,.data (.int _) n=>match look globs g with
   | some ⟨.arr len' τ',l⟩=>if τ = τ' /\ len = len' then ifR (0 <= (n : Int) /\ (n : Int) < (len : Int)) (.iref τ' (l.getD (n : Int).toNat τ'.zero)) else none
   | _=>none
  | some (.arr len τ),.ref id ver p,.data (.int _) n=>if tyAt (nthB hp id) ver p = some (.arr len τ) then ifR (0 <= (n : Int) /\ (n : Int) < (len : Int)) (.ref id ver (p ++ [.idx n])) else none
  | some (.sl τ),.data (.sl τ') l,.data (.int _) n=>if τ = τ' then ifR (0 <= (n : Int) /\ (n : Int) < (l.length : Int)) (.iref τ' (l.getD (n : Int).toNat τ'.zero)) else none
  | some (.sl τ),.app id ver,.data (.int _) n=>match nthB hp id with
   | some (.buf τ' l ver' z)=>if τ = τ' /\ Nat.beq ver ver' = true then ifR (0 <= (n : Int) /\ (n : Int) < (l.length : Int)) (match z with | true=>.iref τ' (l.getD (n : Int).toNat τ'.zero) | false=>.ref id ver [.idx n]) else none
   | _=>none
  | some (.sl τ),.view id p τ' _ lo hi,.data (.int _) n=>if τ = τ' then ifR (0 <= (n : Int) /\ (n : Int) < hi - lo) (.ref id 0 (p ++ [.idx (lo + n)])) else none
  | some (.arr len' τ),.iref (.arr len τ') l,.data (.int _) n=>if τ = τ' /\ len = len' then ifR (0 <= (n : Int) /\ (n : Int) < (len : Int)) (.iref τ' (l.getD (n : Int).toNat τ'.zero)) else none
  | _,_,_=>none
 | .fieldAddr t x j =>
  match look C.ty t,e x with
  | some τ,.ref id ver p=>if tyAt (nthB hp id) ver p = some τ /\ (subT τ [.fld j]).isSome = true then okR (.ref id ver (p ++ [.fld j])) else none
  | some τ',.iref τ y=>if τ = τ' then match proj τ y j with
   | .data τ' z=>okR (.iref τ' z)
   | _=>none
   else none
  | _,_=>none
 | .binOp op xt x y _=>binV C op xt (e x) (e y)
 | .unOp op _ x=>unV op (e x)
 | .convert s d x=>match look C.ty s,look C.ty d,e x with
  | some (.int _),some (.int k),.data (.int _) n=>okR (.data (.int k) (k.wrap n))
  | some .str,some .str,.data .str l=>okR (.data .str l)
  | some .str,some (.sl (.int .u8)),.data .str l=>some (.new (.data (.sl (.int .u8)) l))
  | some (.sl (.int .u8)),some .str,v=>match rd hp v with
   | .data (.sl (.int .u8)) l=>okR (.data .str l)
   | _=>none
  | _,_,_=>none
 | .index t x i=>match look C.ty t,e x,e i with
  | some (.arr len τ),.data (.arr len' τ') l,.data (.int _) n=>if τ = τ' /\ len = len' then ifR (0 <= (n : Int) /\ (n : Int) < (len : Int)) (.data τ' (l.getD (n : Int).toNat τ'.zero)) else none
  | some .str,.data .str l,.data (.int _) n=>ifR (0 <= (n : Int) /\ (n : Int) < ((l : List Int).length : Int)) (.data (.int .u8) ((l : List Int).getD (n : Int).toNat 0))
  | _,_,_=>none
 | .field t x j=>match look C.ty t,e x with
  | some τ',.data τ y=>if τ = τ' then match proj τ y j with
   | .data σ z=>okR (.data σ z)
   | _=>none
   else none
  | some τ',.agg τ l=>if τ = τ' /\ (subT τ [.fld j]).isSome = true then okR (sane (nth l j)) else none
  | _,_=>none
 | .lookup t m k c=>match c,look C.mp t,e m,e k with
  | false,some (tk,tv),.map id,.data κ' x=>match look C.ty tk,look C.ty tv,nthB hp id with
   | some κ0,some ν0,some (.map κ ν l)=>if h : κ' = κ then
     if κ0 = κ /\ ν0 = ν /\ κ.key = true /\ ν.plain = true /\ ν.scalar = true then okR (.data ν (getM (beqD κ) (h ▸ x) ν.zero l)) else none
    else none
   | _,_,_=>none
  | _,_,_,_=>none
 | .build t parts=>match look C.ty t with
  | some τ=>if τ.isAgg then match buildT r τ parts.toList (zeroV τ) with
   | some y=>okR y
   | none=>none
   else none
  | none=>none
 | .buildSlice t n parts=>match look C.ty t with
  | some (.sl τ)=>if τ.plain && Nat.ble (n * τ.size) 16777216 && Nat.ble n 16777216 then match buildV (fun x=>rd hp (e x)) (.arr n τ) parts.toList (Ty.arr n τ).zero with
   | some y=>if parts.toList.any (fun p=>loose hp (e p.2)) then none else some (.new (.full τ y))
   | none=>none
   else none
  | _=>none
 | .makeFunc fn fst cap=>match fn with
  | .method m=>match fst.toList.map r,cap.toList with
   | [v],[]=>if plainV v = true then okR (.mth m v) else none
   | _,_=>none
  | .func f=>if ((fst.toList.map r).all plainV && (cap.toList.map r).all plainV) = true then okR (.fn f (fst.toList.map r) (cap.toList.map r)) else none
  | _=>none
 | .makeInterface t x=>match look C.ty t with
  | some τ=>if (τ.isAgg && plainV (r x)) = true then okR (.ifc t (r x)) else none
  | none=>none
 | .nilCheck x=>match e x with
  | .ref id ver p=>okR (.ref id ver p)
  | .iref t y=>okR (.iref t y)
  | .fn f a b=>okR (.fn f a b)
  | .ifc t v=>okR (.ifc t v)
  | .mth m (.ifc t v)=>match C.inv t m with
   | some _=>okR (.mth m (.ifc t v))
   | none=>none
  | _=>none
 | .slice t x lo hi mx=>match e x with
  | .data (.sl τ') l=>match look C.ty t with
   | some (.sl τ)=>if τ = τ' then sliceL e τ' l lo hi mx else none
   | _=>none
  | .data .str l=>match look C.ty t,mx with
   | some .str,none=>match boundOf e 0 lo,boundOf e (l : List Int).length hi with
    | some a,some b=>ifR (0 <= a /\ a <= b /\ b <= ((l : List Int).length : Int)) (.data .str (cutL (l : List Int) a b))
    | _,_=>none
   | _,_=>none
  | .ref id _ p=>match nthB hp id,look C.ty t,mx with
   | some (.cell σ _ _),some (.arr n τ),none=>if subT σ p = some (.arr n τ) /\ Nat.ble n 16777216 = true then match boundOf e 0 lo,boundOf e n hi with
    | some a,some b=>ifR (0 <= a /\ a <= b /\ b <= (n : Int)) (.view id p τ n a b)
    | _,_=>none
    else none
   | _,_,_=>none
  | .app id ver=>match nthB hp id,look C.ty t with
   | some (.buf τ' l ver' true),some (.sl τ)=>if τ = τ' /\ Nat.beq ver ver' = true then sliceL e τ' l lo hi mx else none
   | _,_=>none
  | .iref (.arr n τ) l=>match look C.ty t,mx with
   | some (.arr n' τ'),none=>if n = n' /\ τ = τ' /\ Nat.ble n 16777216 = true then match boundOf e 0 lo,boundOf e n hi with
    | some a,some b=>ifR (0 <= a /\ a <= b /\ b <= (n : Int)) (.data (.sl τ) (cutL l a b))
    | _,_=>none
    else none
   | _,_=>none
  | _=>none
 | .extract x i=>match e x with
  | .tup l=>if Nat.blt i l.length = true then okR (sane (nth l i)) else none
  | _=>none
 | .call c=>match c.callee with
  | .builtin .len=>match c.args.toList.map (fun x=>rd hp (e x)),c.argTypes.toList with
   | [.map id],[t]=>match look C.mp t,nthB hp id with
    | some _,some (.map _ _ l)=>ifR (Nat.ble l.length 9223372036854775807 = true) (.data (.int .i64) (l.length : Int))
    | _,_=>none
   | [.data (.sl τ) l],[t]=>if look C.ty t = some (.sl τ) then okR (.data (.int .i64) (l.length : Int)) else none
   | [.data .str l],[t]=>if look C.ty t = some .str then okR (.data (.int .i64) ((l : List Int).length : Int)) else none
   | _,_=>none
  | .builtin .max=>match c.args.toList.map e with
   | [.data (.int k) x,.data (.int k') y]=>if k = k' then okR (.data (.int k) (if (y : Int) > (x : Int) then (y : Int) else (x : Int))) else none
   | _=>none
  | .builtin .min=>match c.args.toList.map e with
   | [.data (.int k) x,.data (.int k') y]=>if k = k' then okR (.data (.int k) (if (y : Int) < (x : Int) then (y : Int) else (x : Int))) else none
   | _=>none
  | .builtin _=>none
  | _=>match target C r c with
   | some (f,args)=>match C.fn f with
    | some F=>if (looseL hp args && !F.rs.scalar) = true then none else match getArgs F.ps (rdL hp args) with
     | some a=>some (.call F a [] [])
     | none=>none
    | none=>none
   | none=>none
 | _=>none
def untagD (d : Nat) : V->V
 | .opt d' w v=>if Nat.beq d' d then .any else .opt d' w v
 | v=>v
def setF (fr : List V) (d : Option Nat) (v : V) : List V:=match d with
 | none=>fr
 | some d=>(fr.map (untagD d)).set d v
def free (hp : Heap) (id : Nat) : Bool :=
 match nthB hp id with
 | some _=>false
 | none=>true
def addend : V->(t : Ty)->Option (List t.den)
 | .data (.sl t') m,t=>castD (.sl t') (.sl t) m
 | _,_=>none
def addS : V->(t : Ty)->Option (List t.den)
 | .data .str m,.int .u8=>some m
 | v,t=>addend v t
def fitB (n b : Nat) : Bool:=Nat.ble (n * b) 140737488355328 && Nat.ble n 140737488355328
def appendE (C : Ctx) (hp : Heap) (dst : Option Nat) (τ : Ty) (x xs : V) : Option Out :=
 match addend xs τ with
 | none=>none
 | some m=>match x with
  | .full τ' l=>if h : τ' = τ then match dst with
    | some d=>if free hp (C.base + d) = true then match C.frz.any (Nat.beq d) with
      | true=>ifE (fitB (l.length + m.length) τ.bytes = true) (.app (C.base + d) 0) (setB hp (C.base + d) (.buf τ ((h ▸ l) ++ m) 0 true)) [C.base + d]
      | false=>ifE ((fitB (l.length + m.length) τ.bytes && (Nat.beq l.length 0 || Nat.blt 0 m.length)) = true) (.app (C.base + d) 0) (setB hp (C.base + d) (.buf τ ((h ▸ l) ++ m) 0 false)) [C.base + d]
     else none
    | none=>none
   else none
  | .app id ver=>match nthB hp id with
   | some (.buf τ' l ver' z)=>if h : τ' = τ then if Nat.beq ver ver' = true then ifE (fitB (l.length + m.length) τ.bytes = true) (.app id (ver + 1)) (setB hp id (.buf τ ((h ▸ l) ++ m) (ver + 1) z)) [id] else none else none
   | _=>none
  | .view id p τ' n lo hi=>match dst,rd hp (.view id p τ' n lo hi) with
   | some d,.data (.sl τ') l=>if h : τ' = τ then if free hp (C.base + d) = true then ifE (hi = (n : Int) /\ (fitB (l.length + m.length) τ.bytes && Nat.blt 0 m.length) = true) (.app (C.base + d) 0) (setB hp (C.base + d) (.buf τ ((h ▸ l) ++ m) 0 false)) [C.base + d] else none else none
   | _,_=>none
  | _=>none
def cpyL {α : Type} (l : List α) (lo hi : Int) (m : List α) : List α :=
 l.take lo.toNat ++ m.take (hi.toNat - lo.toNat) ++ l.drop (lo.toNat + min m.length (hi.toNat - lo.toNat))
def copyE (hp : Heap) (τ : Ty) (x xs : V) : Option Out :=
 match x,addS xs τ with
 | .view id p τ' n lo hi,some m=>match nthB hp id with
  | some (.cell σ v false)=>match getV v p with
   | .data (.arr n' τ') l=>if h : τ' = τ then if n' = n /\ τ.size = 1 then match setV v p (.data (.arr n' τ') (cpyL l lo hi (h ▸ m))) with
     | some v'=>ifE True (.data (.int .i64) (min m.length (hi.toNat - lo.toNat) : Nat)) (setB hp id (.cell σ v' false)) [id]
     | none=>none
    else none else none
   | _=>none
  | _=>none
 | _,_=>none
mutual
def V.ids : V->List Nat
 | .ref i _ _=>[i]
 | .app i _=>[i]
 | .view i _ _ _ _ _=>[i]
 | .map i=>[i]
 | .tup l=>V.idsL l
 | .opt _ _ v=>V.ids v
 | .fn _ a b=>V.idsL a ++ V.idsL b
 | .agg _ l=>V.idsL l
 | .ifc _ v=>V.ids v
 | .mth _ v=>V.ids v
 | _=>[]
def V.idsL : List V->List Nat
 | []=>[]
 | v :: l=>V.ids v ++ V.idsL l
end
def blkIds : Option Blk->List Nat
 | some (.cell _ v _)=>V.ids v
 | _=>[]
def addN (l : List Nat) : List Nat->List Nat
 | []=>l
 | i :: r=>match mem l i with
  | true=>addN l r
  | false=>addN (l ++ [i]) r
def closeN (hp : Heap) : Nat->List Nat->List Nat
 | 0,l=>l
 | k + 1,l=>closeN hp k (addN l (l.flatMap fun i=>blkIds (nthB hp i)))
def reach (hp : Heap) (l : List V) : List Nat:=closeN hp 6 (addN [] (V.idsL l))
def idxOf (l : List Nat) (i : Nat) : Option Nat :=
 match l with
 | []=>none
 | j :: r=>if Nat.beq i j = true then some 0 else match idxOf r i with
  | some k=>some (k + 1)
  | none=>none
def ver0 (hp : Heap) (i ver : Nat) : Option Nat:=match nthB hp i with
 | some (.buf _ _ cur _)=>if Nat.beq ver cur = true then some 0 else none
 | some _=>some ver
 | none=>none
def inn (hp : Heap) (L : List Nat) (i ver : Nat) : Option (Nat × Nat):=match idxOf L i,ver0 hp i ver with
 | some k,some u=>some (k,u)
 | _,_=>none
def verUp (hp : Heap) (i ver : Nat) : Nat:=match nthB hp i with
 | some (.buf _ _ cur _)=>ver + cur + 1
 | _=>ver
def eOf (L N : List Nat) (s k : Nat) : Nat:=match Nat.blt k L.length with
 | true=>L.getD k 0
 | false=>match idxOf N k with
  | some j=>s + j
  | none=>s + N.length + k
def outw (hp : Heap) (L N : List Nat) (s : Nat) (i ver : Nat) : Option (Nat × Nat) :=
 match Nat.blt i L.length with
 | true=>some (L.getD i 0,verUp hp (L.getD i 0) ver)
 | false=>match idxOf N i with
  | some j=>some (s + j,ver)
  | none=>none
def outB (hp : Heap) (L N : List Nat) (s k : Nat) : Blk->Blk
 | .buf t l ver z=>match Nat.blt k L.length with
  | true=>.buf t l (verUp hp (L.getD k 0) ver) z
  | false=>.buf t l ver z
 | b=>renB (outw hp L N s) b
def ver0B : Blk->Blk
 | .buf t l _ z=>.buf t l 0 z
 | b=>b
def innH (hp : Heap) (L : List Nat) : Nat->List Nat->Heap
 | _,[]=>[]
 | k,i :: r=>match nthB hp i with
  | some b=>(k,ver0B (renB (inn hp L) b)) :: innH hp L (k + 1) r
  | none=>innH hp L (k + 1) r
def freeAll (hp : Heap) : List Nat->Bool
 | []=>true
 | i :: r=>free hp i && freeAll hp r
def madeN (L : List Nat) (h : Heap) : List Nat:=(h.map (·.1)).filter fun i=>!Nat.blt i L.length
def outH (hp : Heap) (L : List Nat) (s : Nat) (h : Heap) : Heap:=h.map fun x=>(eOf L (madeN L h) s x.1,outB hp L (madeN L h) s x.1 x.2)
def setAll : Heap->Heap->Heap
 | [],hp=>hp
 | (i,b) :: r,hp=>setB (setAll r hp) i b
def behind (hp : Heap) (L : List Nat) (s : Nat) (vh : V × Heap) : V × Heap:=(sane (ren (outw hp L (madeN L vh.2) s) vh.1),outH hp L s vh.2)
def shCall (C : Ctx) (hp : Heap) (dst : Option Nat) (h : List V->Heap->Option Sh) (args : List V) : Option Out :=
 let L:=reach hp args
 let s:=C.base + (match dst with | some d=>(match look C.site d with | some s=>s | none=>0) | none=>0)
 match h (renL (inn hp L) (args.map sane)) (innH hp L 0 L) with
 | some sh=>some (.sh ⟨sh.Y,sh.o,fun y=>behind hp L s (sh.f y),fun α K y=>sh.cs α (fun vh=>K (behind hp L s vh)) y,fun α K y=>sh.ok α _ y⟩ L)
 | none=>none
def effR (C : Ctx) (g : Option Gd) (fr : List V) (hp : Heap) (dst : Option Nat) (op : Op) : Option Out :=
 let r:=fun x=>un g (ev fr x)
 let e:=fun x=>dd (un g (ev fr x))
 match op with
 | .alloc t =>
  match look C.ty t,dst with
  | some τ,some d=>if free hp (C.base + d) = true then ifE True (.ref (C.base + d) 0 []) (setB hp (C.base + d) (.cell τ (zeroV τ) false)) [C.base + d] else none
  | _,_=>none
 | .box t x =>
  match look C.ty t,dst with
  | some τ,some d=>if free hp (C.base + d) && fits τ (r x) then ifE True (.ref (C.base + d) 0 []) (setB hp (C.base + d) (.cell τ (r x) false)) [C.base + d] else none
  | _,_=>none
 | .store t x y =>
  match look C.ty t,e x with
  | some τ,.ref id ver p=>match nthB hp id with
   | some (.cell σ v false) =>
    if (fits τ (nilT τ (r y)) && decide (subT σ p = some τ)) = true then match setV v p (nilT τ (r y)) with
     | some v'=>ifE True .any (setB hp id (.cell σ v' false)) [id]
     | none=>none
    else none
   | some (.buf _ _ _ _)=>match nthB (frz hp (e y)) id with
    | some (.buf σ l ver' false)=>if Nat.beq ver ver' = true then match p,rd hp (e y) with
     | .idx i :: q,.data τ' z=>if τ' = τ then match updP σ (l.getD i.toNat σ.zero) q τ' z with
      | some z'=>ifE True .any (setB (frz hp (e y)) id (.buf σ (l.set i.toNat z') ver' false)) (id :: V.ids (e y))
      | none=>none
      else none
     | _,_=>none
     else none
    | _=>none
   | _=>none
  | _,_=>none
 | .buildSlice t n parts=>match look C.ty t with
  | some (.sl τ)=>if τ.plain && Nat.ble (n * τ.size) 16777216 && Nat.ble n 16777216 then match buildV (fun x=>rd hp (e x)) (.arr n τ) parts.toList (Ty.arr n τ).zero with
   | some y=>ifE True (.full τ y) (frzL hp (parts.toList.map fun p=>e p.2)) (V.idsL (parts.toList.map fun p=>e p.2))
   | none=>none
   else none
  | _=>none
 | .makeMap t rs=>match rs,look C.mp t,dst with
  | none,some (tk,tv),some d=>match look C.ty tk,look C.ty tv with
   | some κ,some ν=>if free hp (C.base + d) then ifE True (.map (C.base + d)) (setB hp (C.base + d) (.map κ ν [])) [C.base + d] else none
   | _,_=>none
  | _,_,_=>none
 | .mapEntry t m k=>match look C.mp t,e m,e k with
  | some (tk,tv),.map id,.data κ' x=>match look C.ty tk,look C.ty tv,nthB hp id with
   | some κ0,some ν0,some (.map κ ν l)=>if h : κ' = κ then
     if κ0 = κ /\ ν0 = ν /\ κ.key = true /\ ν.plain = true /\ ν.scalar = true then
      ifE (Nat.blt l.length 9223372036854775807 = true)
       (.tup [.data ν (valM (h ▸ x) ν.zero (entM (beqD κ) (h ▸ x) ν.zero l) (idxM (beqD κ) (h ▸ x) l)),.data (.int .i64) (idxM (beqD κ) (h ▸ x) l : Nat)])
       (setB hp id (.map κ ν (entM (beqD κ) (h ▸ x) ν.zero l))) [id]
     else none
    else none
   | _,_,_=>none
  | _,_,_=>none
 | .mapUpdate t m k y=>match look C.mp t,e m,e k,e y with
  | some (tk,tv),.map id,.data κ' x,.data ν' z=>match look C.ty tk,look C.ty tv,nthB hp id with
   | some κ0,some ν0,some (.map κ ν l)=>if h : κ' = κ then if h2 : ν' = ν then
     if κ0 = κ /\ ν0 = ν /\ κ.key = true /\ ν.scalar = true then
      ifE True .any (setB hp id (.map κ ν (setM (beqD κ) (h ▸ x) (h2 ▸ z) l))) [id]
     else none
    else none
    else none
   | _,_,_=>none
  | _,_,_,_=>none
 | .entryStore t m n y=>match look C.mp t,e m,e n,e y with
  | some (_,tv),.map id,.data (.int _) i,.data ν' z=>match look C.ty tv,nthB hp id with
   | some ν0,some (.map κ ν l)=>if h : ν' = ν then
     if ν0 = ν /\ ν.scalar = true then
      ifE (0 <= (i : Int) /\ (i : Int) < (l.length : Int)) .any (setB hp id (.map κ ν (putM l (i : Int).toNat (h ▸ z)))) [id]
     else none
    else none
   | _,_=>none
  | _,_,_,_=>none
 | .makeSlice t len cap=>match look C.ty t,dst,e len,e cap with
  | some (.sl τ),some d,.data (.int k) n,.data (.int k') m=>if free hp (C.base + d) && τ.plain && decide (k = .i64) && decide (k' = .i64) then
    ifE (0 <= (n : Int) /\ (m : Int) = (n : Int) /\ fitB (n : Int).toNat τ.bytes = true) (.app (C.base + d) 0) (setB hp (C.base + d) (.buf τ (List.replicate (n : Int).toNat τ.zero) 0 false)) [C.base + d]
   else none
  | _,_,_,_=>none
 | .slice t x lo hi mx=>match e x,look C.ty t with
  | .app id ver,some (.sl τ)=>match nthB hp id with
   | some (.buf τ' l ver' _)=>if τ = τ' /\ Nat.beq ver ver' = true then match sliceL e τ' l lo hi mx with
    | some (.val c i v)=>some (.eff c i v (frz hp (.app id ver)) [id])
    | _=>none
    else none
   | _=>none
  | _,_=>none
 | .call c=>match c.callee with
  | .builtin .append=>match c.args.toList,c.argTypes.toList with
   | [x,xs],[t,t']=>if t = t' then match look C.ty t with
    | some (.sl τ)=>appendE C hp dst τ (nilT (.sl τ) (r x)) (rd hp (nilT (.sl τ) (e xs)))
    | _=>none
    else none
   | _,_=>none
  | .builtin .copy=>match c.args.toList,c.argTypes.toList with
   | [x,xs],[t,_]=>match look C.ty t with
    | some (.sl τ)=>copyE hp τ (r x) (rd hp (nilT (.sl τ) (e xs)))
    | _=>none
   | _,_=>none
  | .builtin _=>none
  | _=>match target C r c with
   | some (f,args)=>match C.fn f with
    | some F=>match getArgs F.ps (rdL hp args) with
     | some a=>some (.call F a (frzL hp args) (V.idsL args))
     | none=>none
    | none=>match C.sh f with
     | some h=>shCall C hp dst h args
     | none=>none
   | none=>none
 | _=>none
def runF (g : Option Gd) (F : Fn) (a : F.ps.den) : Option F.rs.den:=match g with
 | none=>F.run a
 | some g=>if g.b then F.run a else some F.rs.zero
def foot (S : St) (o : Oper) : List Nat :=
 let vs:=o.op.operands.toList.map (ev S.fr)
 match o.op with
 | .call c=>match c.callee with
  | .builtin _=>V.idsL vs
  | _=>reach S.hp vs
 | .lookup _ _ _ _=>[]
 | .move _=>[]
 | .assign _=>[]
 | _=>V.idsL vs
def footV (S : St) (o : Oper) : List Nat:=match o.op with
 | .lookup _ _ _ _=>V.idsL (o.op.operands.toList.map (ev S.fr))
 | _=>[]
def wvOf : Op->List Nat->List Nat
 | .mapEntry _ _ _,_=>[]
 | _,wr=>wr
def newOf (L : List Nat) (d : Heap) : List Nat:=(d.map (·.1)).filter fun i=>!mem L i
def once : List Nat->Bool
 | []=>true
 | i :: r=>match mem r i with
  | true=>false
  | false=>once r
def doIt : Option Gd->Option Bool
 | none=>some true
 | some g=>match g.sure with
  | true=>some g.b
  | false=>none
def T {α : Type} (C : Ctx) (g : Option Gd) (o : Oper) (S : St) (K : List Nat->St->Option α) : Option α :=
 match valR C g S.fr S.hp o.op with
 | some (.val c i v)=>chk g c i (K [] ⟨setF S.fr o.dst (tag g (saneT C o.type v)),S.hp⟩)
 | some (.call F a _ _)=>(runF g F a).bind fun r=>K [] ⟨setF S.fr o.dst (tag g (saneT C o.type (F.out r))),S.hp⟩
 | some (.new v)=>K [] ⟨setF S.fr o.dst (tag g (saneT C o.type v)),S.hp⟩
 | some _=>none
 | none =>
  match doIt g with
  | none=>none
  | some false=>K [] ⟨setF S.fr o.dst (tag g .any),S.hp⟩
  | some true=>match effR C g S.fr S.hp o.dst o.op with
   | some (.eff c i v hp wr)=>chk none c i (K wr ⟨setF S.fr o.dst (tag g (saneT C o.type v)),hp⟩)
   | some (.call F a hp wr)=>(F.run a).bind fun r=>K wr ⟨setF S.fr o.dst (tag g (saneT C o.type (F.out r))),hp⟩
   | some (.sh s L)=>s.o.bind fun y=>s.cs α (fun vh=>match freeAll S.hp (newOf L vh.2) && once (vh.2.map (·.1)) with
    | true=>K (L ++ vh.2.map (·.1)) ⟨setF S.fr o.dst (tag g (saneT C o.type vh.1)),setAll vh.2 S.hp⟩
    | false=>none) y
   | _=>none
def guardOf (ops : Array Oper) (fr : List V) (o : Oper) : Option (Option Gd) :=
 match o.guard with
 | none=>some none
 | some (j,w)=>match (ops[j]?).bind (·.dst) with
  | none=>none
  | some d=>if o.dst = some d then none else match nth fr d with
   | .data .bool b=>some (some ⟨d,w,(b == w),true⟩)
   | .opt _ _ (.data .bool b)=>some (some ⟨d,w,(b == w),false⟩)
   | _=>none
def runL {α : Type} (C : Ctx) (ops : Array Oper) : List Oper->St->(St->Option α)->Option α
 | [],S,K=>K S
 | o :: r,S,K =>
  match guardOf ops S.fr o with
  | none=>none
  | some g=>T C g o S (fun _ S'=>runL C ops r S' K)
structure Rec where
 rd : List Nat
 wr : List Nat
 rv : List Nat
 wv : List Nat
def apartL (a b : List Nat) : Bool:=!(a.any (mem b))
def apartR (x y : Rec) : Bool:=apartL x.wr y.rd && apartL x.wr y.wr && apartL y.wr x.rd && apartL x.wv y.rv && apartL y.wv x.rv
def maskOf (acc : List Nat) (es : List Edge) : Nat :=
 es.foldl (fun m e=>if Region.binds .any e then m ||| 2 ^ e.on ||| acc.getD e.on 0 else m) 0
def masks : List Oper->List Nat->List Nat
 | [],acc=>acc
 | o :: r,acc=>masks r (acc ++ [maskOf acc o.after.toList])
def recOk (m : Nat) (x : Rec) : Nat->List Rec->Bool
 | _,[]=>true
 | j,y :: r=>(m.testBit j || apartR y x) && recOk m x (j + 1) r
def runD {α : Type} (C : Ctx) (ops : Array Oper) (ms : List Nat) : List Oper->List Rec->St->(St->Option α)->Option α
 | [],_,S,K=>K S
 | o :: r,acc,S,K =>
  match guardOf ops S.fr o with
  | none=>none
  | some g=>T C g o S (fun wr S'=>match recOk (ms.getD acc.length 0) ⟨foot S o,wr,footV S o,wvOf o.op wr⟩ 0 acc with
   | true=>runD C ops ms r (acc ++ [⟨foot S o,wr,footV S o,wvOf o.op wr⟩]) S' K
   | false=>none)
inductive Ex where
 | normal | exit (id : Nat) | ret
def keepF (l : List Nat) : Nat->List V->List V
 | _,[]=>[]
 | i,v :: r=>(if mem l i then sane v else .any) :: keepF l (i + 1) r
def modV (f : V->V) : List Nat->V->Option V
 | [],v=>some (f v)
 | j :: p,.agg t l=>if Nat.blt j l.length = true then match modV f p (nth l j),subT t [.fld j] with
  | some z,some u=>if fits u z = true then some (mkAgg t (l.set j z)) else none
  | _,_=>none
  else none
 | _ :: _,_=>none
def partV : List Nat->V->V
 | [],v=>v
 | j :: p,.agg _ l=>partV p (nth l j)
 | _ :: _,_=>.any
def rdD (hp : Heap) (v : V) : V:=match rd hp v with
 | .data t x=>.data t x
 | _=>.any
def slotOf (C : Ctx) (i : Nat) (slot : Bool) (S : St) : Option V:=match slot with
 | true=>some (sane (nth S.fr i))
 | false=>match nthB S.hp i with
  | some (.cell _ v _)=>some v
  | _=>none
def setSlot (C : Ctx) (i : Nat) (slot : Bool) (S : St) (v : V) : Option St:=match slot with
 | true=>some ⟨S.fr.set i v,S.hp⟩
 | false=>match nthB S.hp i with
  | some (.cell t _ z)=>if fits t v = true then some ⟨S.fr,setB S.hp i (.cell t v z)⟩ else none
  | _=>none
def firstV (C : Ctx) (i : Nat) : Nat:=match Nat.blt i C.base with
 | true=>1
 | false=>0
def verT (C : Ctx) (i : Nat) : Blk->Blk
 | .buf t l _ z=>.buf t l (firstV C i) z
 | b=>b
def keepN (C : Ctx) (R : List Nat) (hp : Heap) (i ver : Nat) : Option (Nat × Nat) :=
 match Nat.blt i C.base || mem R i with
 | true=>match nthB hp i with
  | some (.buf _ _ cur _)=>if Nat.beq ver cur = true then some (i,firstV C i) else none
  | some _=>some (i,ver)
  | none=>none
 | false=>none
def tidyR (C : Ctx) (fr : List V) (hp : Heap) (R : List Nat) : St :=
 ⟨renL (keepN C R hp) fr,(hp.filter fun x=>Nat.blt x.1 C.base || mem R x.1).map fun x=>(x.1,verT C x.1 (renB (keepN C R hp) x.2))⟩
def tidy (C : Ctx) (l : List Nat) (S : St) : St :=
 tidyR C (keepF l 0 S.fr) S.hp (closeN S.hp 6 (addN [] (V.idsL (keepF l 0 S.fr) ++ (S.hp.flatMap fun x=>match Nat.blt x.1 C.base with | true=>blkIds (some x.2) | false=>[]))))
def mvN (j cur i : Nat) (a v : Nat) : Option (Nat × Nat):=match Nat.beq a j && Nat.beq v cur with
 | true=>some (i,0)
 | false=>some (a,v)
def nameS (j cur i : Nat) (t : Ty) (l : List t.den) (z : Bool) (S : St) : St :=
 ⟨renL (mvN j cur i) S.fr,setB (setB (S.hp.map fun x=>(x.1,renB (mvN j cur i) x.2)) j (.buf t [] (cur + 1) z)) i (.buf t l 0 z)⟩
def norm1 (C : Ctx) (S : St) : Norm->Option St
 | .dat slot i p=>match slotOf C i slot S with
  | some v=>match modV (rdD S.hp) p v with
   | some v'=>setSlot C i slot ⟨S.fr,frz S.hp (partV p v)⟩ v'
   | none=>none
  | none=>none
 | .melt slot i p id z=>match slotOf C i slot S with
  | some v=>match partV p v with
   | .full t l=>if (free S.hp (C.base + id) && (z || l.isEmpty)) = true then match modV (fun _=>.app (C.base + id) 0) p v with
    | some v'=>setSlot C i slot ⟨S.fr,setB S.hp (C.base + id) (.buf t l 0 z)⟩ v'
    | none=>none
    else none
   | .app _ _=>some S
   | _=>none
  | none=>none
 | .tid l=>some (tidy C l S)
 | .name slot i p id=>match slotOf C i slot S with
  | some v=>match partV p v with
   | .app j ver=>match nthB S.hp j with
    | some (.buf t l cur z)=>match Nat.beq ver cur,Nat.beq j (C.base + id),free S.hp (C.base + id) with
     | true,true,_=>some S
     | true,false,true=>some (nameS j cur (C.base + id) t l z S)
     | _,_,_=>none
    | _=>none
   | _=>none
  | none=>none
def norms (C : Ctx) : List Norm->St->Option St
 | [],S=>some S
 | n :: l,S=>match norm1 C S n with
  | some S'=>norms C l S'
  | none=>none
abbrev clean {α : Type} (C : Ctx) (key : Nat) (S : St) (K : St->Option α) : Option α:=match look C.live key with
 | none=>K S
 | some l=>match look C.norm key with
  | none=>K (tidy C l S)
  | some ns=>match norms C ns S with
   | some S'=>K (tidy C l S')
   | none=>none
def joinK : Code->Nat
 | .region id _ _=>id + 1
 | .seq a b=>match joinK a with
  | 0=>joinK b
  | n + 1=>n + 1
 | .cond _ a b=>match joinK a with
  | 0=>joinK b
  | n + 1=>n + 1
 | .block _ c=>joinK c
 | .loop c=>joinK c
 | .scope c=>joinK c
 | _=>0
def headK : Code->Nat
 | .region id _ _=>3 * id
 | .seq a b=>match a with
  | .label _=>headK b
  | .skip=>headK b
  | _=>headK a
 | .block _ c=>headK c
 | .loop c=>headK c
 | .scope c=>headK c
 | .cond c x y=>3 * joinK (.cond c x y) + 5
 | _=>5
def iter {α : Type} (F : (St->Option α)->St->Option α) : Nat->St->Option α
 | 0,_=>none
 | k + 1,S=>F (iter F k) S
abbrev seqQ {α : Type} (n : St->Option α) (Q : Ex->St->Option α) : Ex->St->Option α
 | .normal,S=>n S
 | e,S=>Q e S
abbrev blkQ {α : Type} (C : Ctx) (id : Nat) (Q : Ex->St->Option α) : Ex->St->Option α
 | .exit i,S=>if Nat.beq i id = true then Q .normal S else Q (.exit i) S
 | .normal,S=>clean C (3 * id + 1) S (Q .normal)
 | e,S=>Q e S
def strip : V->V
 | .opt _ _ _=>.any
 | v=>v
def strips (S : St) : St:=⟨S.fr.map strip,S.hp⟩
def den {α : Type} (C : Ctx) (k : Nat) : Code->(Ex->St->Option α)->St->Option α
 | .skip,Q,S=>Q .normal S
 | .label _,Q,S=>Q .normal S
 | .region _ ops draw,Q,S=>match draw with
  | false=>runL C ops ops.toList S (Q .normal)
  | true=>runD C ops (masks ops.toList []) ops.toList [] (strips S) (Q .normal)
 | .seq a b,Q,S=>den C k a (seqQ (fun S=>clean C (headK b) S (den C k b Q)) Q) S
 | .cond c x y,Q,S=>match ev S.fr c with
  | .data .bool t=>if (t : Bool) = true then den C k x Q S else den C k y Q S
  | _=>none
 | .block id c,Q,S=>den C k c (blkQ C id Q) S
 | .loop c,Q,S=>clean C (headK c) S (iter (fun next=>den C k c (seqQ (fun S=>clean C (headK c) S next) Q)) k)
 | .scope c,Q,S=>den C k c Q S
 | .exit id,Q,S=>clean C (3 * id + 1) S (Q (.exit id))
 | .ret,Q,S=>clean C 2 S (Q .ret)
 | _,_,_=>none
def resV (C : Ctx) (S : St) : ResultVar->Option V
 | .tmp t=>some (sane (nth S.fr t))
 | .cell a t=>match look C.ty t,nth S.fr a with
  | some τ,.ref id _ []=>match nthB S.hp id with
   | some (.cell σ c _)=>if σ = τ then some (sane c) else none
   | _=>none
  | _,_=>none
def resL (C : Ctx) (S : St) : List ResultVar->Option (List V)
 | []=>some []
 | r :: l=>match resV C S r,resL C S l with
  | some v,some vs=>some (v :: vs)
  | _,_=>none
def fin (C : Ctx) (rv : List ResultVar) (t : Ty) (multi : Bool) : Ex->St->Option t.den
 | .exit _,_=>none
 | _,S=>match multi,resL C S rv with
  | false,some [v]=>match rd S.hp v with
   | .data t' x=>castD t' t x
   | _=>none
  | true,some l=>if Nat.beq l.length 1 = true then none else getArgs t (rdL S.hp l)
  | _,_=>none
def startS (args : List V) (hp : Heap) (n : Nat) : St:=⟨args ++ List.replicate (n - args.length) .any,hp⟩
def start (F : Fn) (n : Nat) (x : F.ps.den) : St:=startS (spread F.ps x) [] n
end Go.Bx
namespace Go.Bx
set_option linter.unusedVariables false
set_option linter.unusedSimpArgs false
open Go Go.RowKit
structure Env where
 w : World
 im : Nat->Nat->Prop
def Blk.im (m : Nat) : Blk->Prop
 | .cell t _ z=>z = true /\ m <= t.size
 | .buf t l _ z=>z = true /\ m <= l.length * t.size
 | .map _ _ _=>False
structure GE where
 w : World
 β : Nat->Option Nat
 σ : Nat->Value
 hp : Heap
 n0 : Nat
 Bo : Nat->Prop
 I0 : Nat->Nat->Prop
def GE.named (G : GE) (b : Nat) : Prop:=∃ id blk,nthB G.hp id = some blk /\ G.β id = some b
def GE.im (G : GE) (b m : Nat) : Prop :=
 (G.I0 b m \/ G.n0 <= b \/ G.Bo b) /\ b < G.w.heap.size /\ ∀ id blk,nthB G.hp id = some blk->G.β id = some b->blk.im m
def GE.env (G : GE) : Env:=⟨G.w,G.im⟩
def All2 {α β : Type} (R : α->β->Prop) : List α->List β->Prop
 | [],[]=>True
 | a :: l,b :: m=>R a b /\ All2 R l m
 | _,_=>False
def FlatD (E : Env) : (t : Ty)->t.den->List Value->Prop
 | .int k,n,cs=>cs = [.int k n] /\ inR k n = true
 | .bool,b,cs=>cs = [.bool b]
 | .str,l,cs=>∃ s,cs = [.string s] /\ bytesOf s = l /\ s.size <= maxLen
 | .arr n t,l,cs=>l.length = n /\ ∃ css : List (List Value),cs = css.flatten /\ All2 (FlatD E t) l css
 | .sl t,l,cs=>(l = ([] : List t.den) /\ cs = [.slice none 0 0]) \/
   ∃ (a : Addr) (cap : Nat) (css : List (List Value)),cs = [.slice (some a) (l : List t.den).length cap] /\ (a.spot = none \/ l = ([] : List t.den)) /\ (l : List t.den).length <= cap /\ cap <= maxLen /\
    All2 (FlatD E t) l css /\ (css.flatten = [] \/ ∃ m,a.off + css.flatten.length <= m /\ E.im a.block m) /\ ∀ j v,css.flatten[j]? = some v->E.w.cell? ⟨a.block,a.off + j,none⟩ = some v
 | .unit,_,cs=>cs = []
 | .pair a b,x,cs=>∃ c1 c2,cs = c1 ++ c2 /\ FlatD E a x.1 c1 /\ FlatD E b x.2 c2
 | .opq,_,_=>False
structure Ext (E E' : Env) : Prop where
 im : ∀ b m,E.im b m->E'.im b m
 cell : ∀ b m,E.im b m->∀ j,j < m->E'.w.cell? ⟨b,j,none⟩ = E.w.cell? ⟨b,j,none⟩
theorem All2.mono {α β : Type} {R R' : α->β->Prop} (h : ∀ a b,R a b->R' a b) : ∀ {l : List α} {m : List β},All2 R l m->All2 R' l m
 | [],[],_=>trivial
 | _ :: _,_ :: _,⟨h1,h2⟩=>⟨h _ _ h1,All2.mono h h2⟩
theorem All2.length {α β : Type} {R : α->β->Prop} : ∀ {l : List α} {m : List β},All2 R l m->l.length = m.length
 | [],[],_=>rfl
 | _ :: _,_ :: _,⟨_,h2⟩=>by simp [All2.length h2]
theorem All2.get {α β : Type} {R : α->β->Prop} : ∀ {l : List α} {m : List β},All2 R l m->∀ (i : Nat) (hi : i < l.length),∃ hm : i < m.length,R l[i] m[i]
 | _ :: _,_ :: _,⟨h1,_⟩,0,_=>⟨by simp,h1⟩
 | _ :: _,_ :: _,⟨_,h2⟩,i + 1,hi=>by
  obtain ⟨hm,h⟩:=All2.get h2 i (by simpa using hi)
  exact ⟨by simpa using hm,by simpa using h⟩
theorem All2.set {α β : Type} {R : α->β->Prop} : ∀ {l : List α} {m : List β},All2 R l m->∀ (i : Nat) (a : α) (b : β),R a b->All2 R (l.set i a) (m.set i b)
 | [],[],_,_,_,_,_=>trivial
 | _ :: _,_ :: _,⟨_,h2⟩,0,_,_,h=>⟨h,h2⟩
 | _ :: _,_ :: _,⟨h1,h2⟩,i + 1,a,b,h=>⟨h1,All2.set h2 i a b h⟩
theorem FlatD.ext {E E' : Env} (h : Ext E E') : ∀ (t : Ty) (x : t.den) (cs : List Value),FlatD E t x cs->FlatD E' t x cs
 | .int _,_,_,hx=>hx
 | .bool,_,_,hx=>hx
 | .str,_,_,hx=>hx
 | .arr _ t,_,_,⟨hl,css,hc,ha⟩=>⟨hl,css,hc,ha.mono fun a b hab=>FlatD.ext h t a b hab⟩
 | .sl t,_,_,hx=>by
  rcases hx with hx | ⟨a,cap,css,hc,hs,hl,hcap,ha,hi,hcell⟩
  ·exact .inl hx
  ·refine .inr ⟨a,cap,css,hc,hs,hl,hcap,ha.mono fun a b hab=>FlatD.ext h t a b hab,hi.imp id (fun ⟨m,hm,hi⟩=>⟨m,hm,h.im _ _ hi⟩),fun j v hj=>?_⟩
   have hjl : j < css.flatten.length:=by
    rcases Nat.lt_or_ge j css.flatten.length with h' | h'
    ·exact h'
    ·rw [List.getElem?_eq_none h'] at hj; cases hj
   rcases hi with hi | ⟨m,hm,hi⟩
   ·rw [hi] at hj; simp at hj
   ·rw [h.cell _ _ hi _ (by omega)]; exact hcell j v hj
 | .unit,_,_,hx=>hx
 | .pair a b,x,_,⟨c1,c2,hc,h1,h2⟩=>⟨c1,c2,hc,FlatD.ext h a x.1 c1 h1,FlatD.ext h b x.2 c2 h2⟩
 | .opq,_,_,hx=>hx
theorem All2.flat_length {α : Type} {R : α->List Value->Prop} {n : Nat} (h : ∀ a cs,R a cs->cs.length = n) : ∀ {l : List α} {css : List (List Value)},All2 R l css->css.flatten.length = l.length * n
 | [],[],_=>by simp
 | _ :: l,_ :: _,⟨h1,h2⟩=>by
  have:=All2.flat_length h h2
  simp only [List.flatten_cons,List.length_append,List.length_cons,this,h _ _ h1,Nat.add_mul]
  omega
theorem FlatD.length {E : Env} : ∀ (t : Ty) (x : t.den) (cs : List Value),FlatD E t x cs->cs.length = t.size
 | .int _,_,_,hx=>by simp [hx.1,Ty.size]
 | .bool,_,_,hx=>by simp only [FlatD] at hx; simp [hx,Ty.size]
 | .str,_,_,⟨s,hc,_⟩=>by simp [hc,Ty.size]
 | .arr n t,l,cs,⟨hl,css,hc,ha⟩=>by
  rw [hc,All2.flat_length (fun a cs h=>FlatD.length t a cs h) ha]
  simp only [Ty.size]; rw [hl]
 | .sl t,_,_,hx=>by
  rcases hx with ⟨_,hx⟩ | ⟨a,cap,css,hc,_⟩
  ·simp [hx,Ty.size]
  ·simp [hc,Ty.size]
 | .unit,_,_,hx=>by simp only [FlatD] at hx; simp [hx,Ty.size]
 | .pair a b,x,_,⟨c1,c2,hc,h1,h2⟩=>by
  have e1:=FlatD.length a x.1 c1 h1
  have e2:=FlatD.length b x.2 c2 h2
  simp [hc,e1,e2,Ty.size]
 | .opq,_,_,hx=>hx.elim
def oneCell (v : Value) : Prop:=v.cells = #[v] /\ (∀ vs,v ≠ .tuple vs) /\ (∀ vs,v ≠ .agg vs)
theorem mem_flatten_all2 {α : Type} {R : α->List Value->Prop} {p : Value->Prop} (h : ∀ a cs,R a cs->∀ v ∈ cs,p v) : ∀ {l : List α} {css : List (List Value)},All2 R l css->∀ v ∈ css.flatten,p v
 | [],[],_,v,hv=>by simp at hv
 | _ :: _,_ :: _,⟨h1,h2⟩,v,hv=>by
  simp only [List.flatten_cons,List.mem_append] at hv
  rcases hv with hv | hv
  ·exact h _ _ h1 v hv
  ·exact mem_flatten_all2 h h2 v hv
theorem FlatD.cell {E : Env} : ∀ (t : Ty) (x : t.den) (cs : List Value),FlatD E t x cs->∀ v ∈ cs,oneCell v
 | .int _,_,_,hx,v,hv=>by rw [hx.1] at hv; simp at hv; subst hv; simp [oneCell,Value.cells]
 | .bool,_,_,hx,v,hv=>by simp only [FlatD] at hx; rw [hx] at hv; simp at hv; subst hv; simp [oneCell,Value.cells]
 | .str,_,_,⟨s,hc,_⟩,v,hv=>by rw [hc] at hv; simp at hv; subst hv; simp [oneCell,Value.cells]
 | .arr n t,l,cs,⟨hl,css,hc,ha⟩,v,hv=>by
  rw [hc] at hv
  exact mem_flatten_all2 (fun a cs h=>FlatD.cell t a cs h) ha v hv
 | .sl t,_,_,hx,v,hv=>by
  rcases hx with ⟨_,hx⟩ | ⟨a,cap,css,hc,_⟩
  ·rw [hx] at hv; simp at hv; subst hv; simp [oneCell,Value.cells]
  ·rw [hc] at hv; simp at hv; subst hv; simp [oneCell,Value.cells]
 | .unit,_,_,hx,v,hv=>by simp only [FlatD] at hx; simp [hx] at hv
 | .pair a b,x,_,⟨c1,c2,hc,h1,h2⟩,v,hv=>by
  rw [hc,List.mem_append] at hv
  rcases hv with hv | hv
  ·exact FlatD.cell a x.1 c1 h1 v hv
  ·exact FlatD.cell b x.2 c2 h2 v hv
 | .opq,_,_,hx,_,_=>hx.elim
def AtD (E : Env) (t : Ty) (x : t.den) (v : Value) : Prop :=
 match t.isAgg with
 | true=>∃ cs,v = .agg cs /\ FlatD E t x cs.toList
 | false=>FlatD E t x [v]
def RefAt (E : GE) (id ver : Nat) (p : List Step) (v : Value) : Prop:=match nthB E.hp id with
 | some (.cell t _ _)=>∃ b o u,E.β id = some b /\ offT t p = some (o,u) /\ v = .pointer (some ⟨b,o,none⟩)
 | some (.buf t l ver' _)=>ver <= ver' /\ (∃ a,v = .pointer (some a)) /\ (ver = ver'->∃ b i q o u,p = .idx i :: q /\ E.β id = some b /\ 0 <= i /\ i.toNat < l.length /\ offT t q = some (o,u) /\ v = .pointer (some ⟨b,i.toNat * t.size + o,none⟩))
 | _=>False
def AppAt (E : GE) (id ver : Nat) (v : Value) : Prop:=match nthB E.hp id with
 | some (.buf _ _ ver' _)=>ver <= ver' /\ (∃ a n c,v = .slice a n c) /\ (ver = ver'->v = E.σ id)
 | _=>False
def ViewAt (E : GE) (id : Nat) (p : List Step) (t : Ty) (n : Nat) (lo hi : Int) (v : Value) : Prop:=match nthB E.hp id with
 | some (.cell c _ _)=>∃ b o,E.β id = some b /\ offT c p = some (o,.arr n t) /\ 0 <= lo /\ lo <= hi /\ hi <= (n : Int) /\ n <= maxLen /\ v = .slice (some (if lo.toNat = n then ⟨b,o,none⟩ else ⟨b,o + lo.toNat * t.size,none⟩)) (hi.toNat - lo.toNat) (n - lo.toNat)
 | _=>False
def MapAt (E : GE) (id : Nat) (v : Value) : Prop:=match nthB E.hp id with
 | some (.map _ _ _)=>∃ b,E.β id = some b /\ v = .map (some b)
 | _=>False
def V.tree : V->Bool
 | .data _ _=>true
 | .agg _ _=>true
 | _=>false
structure Shp (a : Ty) (v : V) (x : Value) : Prop where
 tree : a.isAgg = true->v.tree = true
 agg : a.isAgg = true->∃ c,x = .agg c
 one : a.isAgg = false->oneCell x
 size : x.cells.size = a.size
 data : ∀ t y,v = .data t y->t = a
 part : ∀ t l,v = .agg t l->t = a
mutual
def AtV (E : GE) (tm : Array Value) : V->Value->Prop
 | .any,_=>True
 | .data t x,v=>AtD E.env t x v
 | .nilp,v=>v = .pointer none
 | .snil,v=>v = .slice none 0 0
 | .ref id ver p,v=>RefAt E id ver p v
 | .iref t x,v=>∃ a ds,v = .pointer (some a) /\ a.spot = none /\ (ds = [] \/ ∃ m,a.off + ds.length <= m /\ E.im a.block m) /\ (∀ j u,ds[j]? = some u->E.w.cell? ⟨a.block,a.off + j,none⟩ = some u) /\ FlatD E.env t x ds
 | .tup l,v=>∃ vs,v = .tuple vs /\ AtL E #[] l vs.toList
 | .opt d w u,v=>(tm[d]? = some (.bool w)->AtV E #[] u v) /\ (tm[d]? ≠ some (.bool w)->v = undef)
 | .fn f a b,v=>∃ xs ys,v = .func (.func f) xs ys /\ AtL E #[] a xs.toList /\ AtL E #[] b ys.toList
 | .full t l,v=>FlatD E.env (.sl t) l [v] /\ ∃ a n,v = .slice a n n
 | .app id ver,v=>AppAt E id ver v
 | .view id p t n lo hi,v=>ViewAt E id p t n lo hi v
 | .agg t l,v=>∃ cs,v = .agg cs /\ FlatL E t l cs.toList
 | .ifc t u,v=>∃ x,v = .iface t x /\ AtV E #[] u x
 | .map id,v=>MapAt E id v
 | .mth m u,v=>∃ x,v = .func (.method m) #[x] #[] /\ AtV E #[] u x
 | .glob g,v=>v = .pointer (some ⟨g,0,none⟩)
def AtL (E : GE) (tm : Array Value) : List V->List Value->Prop
 | [],[]=>True
 | v :: l,x :: m=>AtV E tm v x /\ AtL E tm l m
 | _,_=>False
def FlatL (E : GE) : Ty->List V->List Value->Prop
 | t,[],cs=>uncons t = none /\ t.isAgg = true /\ cs = []
 | t,v :: l,cs=>∃ a r x cs',uncons t = some (a,r) /\ cs = x.cells.toList ++ cs' /\ Shp a v x /\ AtV E #[] v x /\ FlatL E r l cs'
end
def FlatV (E : GE) (t : Ty) (v : V) (cs : List Value) : Prop:=∃ x,cs = x.cells.toList /\ Shp t v x /\ AtV E #[] v x
def BufA (E : GE) (id : Nat) (t : Ty) (l : List t.den) : Prop:=∃ b arr ty css cap rest,E.β id = some b /\ E.σ id = .slice (some ⟨b,0,none⟩) l.length cap /\ E.w.heap[b]? = some (.cells arr ty (0,0)) /\
 All2 (FlatD E.env t) l css /\ arr.toList = css.flatten ++ rest /\ arr.size = cap * t.size /\ l.length <= cap /\ cap <= maxLen
def BufB (E : GE) (id : Nat) (t : Ty) (l : List t.den) (z : Bool) : Prop:=E.β id = none /\ (z = true \/ l = []) /\ FlatD E.env (.sl t) l [E.σ id] /\ ∃ a n,E.σ id = .slice a n n
def EntOk (E : Env) (k v : Ty) (p : k.den × v.den) (e : MapEntry) : Prop:=AtD E k p.1 e.key /\ AtD E v p.2 e.val
def BlkOk (E : GE) (id : Nat) : Blk->Prop
 | .cell t v _=>∃ b arr ty,E.β id = some b /\ E.w.heap[b]? = some (.cells arr ty (0,0)) /\ FlatV E t v arr.toList
 | .buf t l _ z=>BufA E id t l \/ BufB E id t l z
 | .map k v l=>∃ b es clock,E.β id = some b /\ E.w.heap[b]? = some (.map es clock) /\ All2 (EntOk E.env k v) l es.toList /\ clock = es.size /\ ∀ (i : Nat) (e : MapEntry),es[i]? = some e->e.born = i
def GlobOk (E : Env) : Prop:=∀ g v,look globs g = some v->∃ ds,(ds = [] \/ ∃ m,ds.length <= m /\ E.im g m) /\ (∀ j u,ds[j]? = some u->E.w.cell? ⟨g,j,none⟩ = some u) /\ FlatD E v.t v.x ds
theorem GlobOk.ext {E E' : Env} (h : GlobOk E) (k : Ext E E') : GlobOk E':=fun g v hv=>by
 obtain ⟨ds,h1,h2,h3⟩:=h g v hv
 refine ⟨ds,h1.imp id fun ⟨m,hm,hi⟩=>⟨m,hm,k.im _ _ hi⟩,fun j u hj=>?_,h3.ext k⟩
 have hjl : j < ds.length:=by
  rcases Nat.lt_or_ge j ds.length with h' | h'
  ·exact h'
  ·rw [List.getElem?_eq_none h'] at hj; cases hj
 rcases h1 with h1 | ⟨m,hm,hi⟩
 ·rw [h1] at hj; simp at hj
 ·rw [k.cell _ _ hi _ (by omega)]; exact h2 j u hj
structure Low (w : World) (I : Nat->Nat->Prop) : Prop where
 lt : ∀ b m,I b m->b < w.heap.size
 glob : GlobOk ⟨w,I⟩
structure HRel (G : GE) : Prop where
 glob : GlobOk G.env
 blk : ∀ id blk,nthB G.hp id = some blk->BlkOk G id blk
 inj : ∀ id id' blk blk' b,nthB G.hp id = some blk->nthB G.hp id' = some blk'->G.β id = some b->G.β id' = some b->id = id'
 own : ∀ b,G.named b->G.n0 <= b \/ G.Bo b
 base : G.n0 <= G.w.heap.size
end Go.Bx
namespace Go.Bx
set_option linter.unusedVariables false
set_option linter.unusedSimpArgs false
open Go Go.RowKit
def zc : Ty->List Value
 | .int k=>[.int k 0] | .bool=>[.bool false] | .str=>[.string ByteArray.empty] | .arr n t=>(List.replicate n (zc t)).flatten
 | .sl _=>[.slice none 0 0] | .unit=>[] | .pair a b=>zc a ++ zc b | .opq=>[.pointer none]
def zcOk : Ty->List Value->Prop
 | .opq,cs=>∃ x,cs = [x] /\ oneCell x
 | .pair a b,cs=>∃ c1 c2,cs = c1 ++ c2 /\ zcOk a c1 /\ zcOk b c2
 | .arr n t,cs=>∃ css : List (List Value),css.length = n /\ cs = css.flatten /\ ∀ c ∈ css,zcOk t c
 | .int k,cs=>cs = zc (.int k)
 | .bool,cs=>cs = zc .bool
 | .str,cs=>cs = zc .str
 | .sl t,cs=>cs = zc (.sl t)
 | .unit,cs=>cs = []
theorem flatten_eq_replicate {c : List Value} : ∀ {css : List (List Value)},(∀ d ∈ css,d = c)->css.flatten = (List.replicate css.length c).flatten
 | [],_=>rfl
 | d :: css,h=>by
  have h1:=h d (by simp)
  have ih:=flatten_eq_replicate (css:=css) fun d hd=>h d (List.mem_cons_of_mem _ hd)
  simp only [List.flatten_cons,List.length_cons,List.replicate_succ,h1,ih]
theorem zcOk_plain : ∀ (t : Ty) (cs : List Value),t.plain = true->zcOk t cs->cs = zc t
 | .int _,_,_,h=>h
 | .bool,_,_,h=>h
 | .str,_,_,h=>h
 | .sl _,_,_,h=>h
 | .unit,_,_,h=>h
 | .opq,_,hp,_=>by simp [Ty.plain] at hp
 | .pair a b,cs,hp,⟨c1,c2,e,h1,h2⟩=>by
  have hp' : a.plain = true /\ b.plain = true:=by simpa [Ty.plain] using hp
  rw [e,zcOk_plain a c1 hp'.1 h1,zcOk_plain b c2 hp'.2 h2]; rfl
 | .arr n t,cs,hp,⟨css,hl,e,h⟩=>by
  have hp' : t.plain = true:=by simpa [Ty.plain] using hp
  rw [e,flatten_eq_replicate (c:=zc t) fun d hd=>zcOk_plain t d hp' (h d hd),hl]; rfl
def Info (P : Program) (i : TypeId) (τ : Ty) : Prop :=
 ∃ inf z,P.info? i = some inf /\ inf.size = τ.size /\ inf.zero = some z /\ zcOk τ z.cells.toList /\ (τ.isAgg = true->∃ cs,z = .agg cs) /\ (τ.isAgg = false->oneCell z) /\ inf.bytes = τ.bytes
def opqDesc : TypeDesc->Bool
 | .pointer _=>true
 | .map _ _=>true
 | .func _ _ _=>true
 | .interface _=>true
 | _=>false
mutual
def TyOk (P : Program) : Ty->TypeId->Prop
 | .int k,i=>P.underlying i = some (.int k) /\ Info P i (.int k)
 | .bool,i=>P.underlying i = some .bool /\ Info P i .bool
 | .str,i=>P.underlying i = some .string /\ Info P i .str
 | .arr n t,i=>∃ e,P.underlying i = some (.array n e) /\ TyOk P t e /\ Info P i (.arr n t) /\ (t.cmp = true->P.eqGuardType P.depth i = false)
 | .sl t,i=>∃ e,P.underlying i = some (.slice e) /\ TyOk P t e /\ Info P i (.sl t)
 | .unit,i=>P.underlying i = some (.struct #[]) /\ Info P i .unit /\ P.stoodInHeld i = false
 | .pair a b, i => ∃ fs, P.underlying i = some (.struct fs) /\ (∃ f r, fs.toList = f :: r /\ f.offset = 0 /\ a.size ≠ 0 /\ f.name ≠ "_" /\ TyOk P a f.type /\ FieldsOk P b r (0 + a.size)) /\ Info P i (.pair a b) /\ P.stoodInHeld i = false /\ ((a.cmp && b.cmp) = true -> P.eqGuardType P.depth i = false)
 | .opq,i=>∃ d,P.underlying i = some d /\ opqDesc d = true /\ Info P i .opq
def FieldsOk (P : Program) : Ty->List Field->Nat->Prop
 | .unit,fs,_=>fs = []
 | .pair a b, fs, off => ∃ f r, fs = f :: r /\ f.offset = off /\ a.size ≠ 0 /\ f.name ≠ "_" /\ TyOk P a f.type /\ FieldsOk P b r (off + a.size)
 | _,_,_=>False
end
theorem TyOk.info {P : Program} {τ : Ty} {i : TypeId} (h : TyOk P τ i) : Info P i τ:=by
 cases τ <;> simp only [TyOk] at h
 ·exact h.2
 ·exact h.2
 ·exact h.2
 ·obtain ⟨e,_,_,h,_⟩:=h; exact h
 ·obtain ⟨e,_,_,h⟩:=h; exact h
 ·exact h.2.1
 ·obtain ⟨e,_,_,h,_⟩:=h; exact h
 ·obtain ⟨d,_,_,h⟩:=h; exact h
theorem inR_zero (k : IntKind) : inR k 0 = true:=by cases k <;> decide
theorem all2_replicate {α β : Type} {R : α->β->Prop} {a : α} {b : β} (h : R a b) : ∀ n,All2 R (List.replicate n a) (List.replicate n b)
 | 0=>trivial
 | n + 1=>⟨h,all2_replicate h n⟩
theorem FlatD.zero {E : Env} : ∀ (t : Ty),t.plain = true->FlatD E t t.zero (zc t)
 | .int k,_=>⟨rfl,inR_zero k⟩
 | .bool,_=>rfl
 | .str,_=>⟨ByteArray.empty,rfl,rfl,by decide⟩
 | .arr n t,h=>⟨by simp [Ty.zero],List.replicate n (zc t),rfl,all2_replicate (FlatD.zero t (by simpa [Ty.plain] using h)) n⟩
 | .sl t,_=>.inl ⟨rfl,rfl⟩
 | .unit,_=>rfl
 | .pair a b,h=>by
  have h' : a.plain = true /\ b.plain = true:=by simpa [Ty.plain] using h
  exact ⟨zc a,zc b,rfl,FlatD.zero a h'.1,FlatD.zero b h'.2⟩
 | .opq,h=>by simp [Ty.plain] at h
theorem getElem?_flatten_of_all2 {α : Type} {R : α->List Value->Prop} {n : Nat} (hn : ∀ a cs,R a cs->cs.length = n) : ∀ {l : List α} {css : List (List Value)},All2 R l css ->
  ∀ (i : Nat) (cs : List Value),css[i]? = some cs->∀ j v,cs[j]? = some v->css.flatten[i * n + j]? = some v
 | [],[],_,i,cs,h,_,_,_=>by simp at h
 | _ :: l,c :: css,⟨h1,h2⟩,0,cs,h,j,v,hv=>by
  simp at h; subst h
  have hj : j < c.length:=by
   rcases Nat.lt_or_ge j c.length with h | h
   ·exact h
   ·rw [List.getElem?_eq_none h] at hv; cases hv
  simp only [List.flatten_cons,Nat.zero_mul,Nat.zero_add]
  rw [List.getElem?_append_left hj]; exact hv
 | _ :: l,c :: css,⟨h1,h2⟩,i + 1,cs,h,j,v,hv=>by
  have ih:=getElem?_flatten_of_all2 hn h2 i cs (by simpa using h) j v hv
  have hc:=hn _ _ h1
  simp only [List.flatten_cons]
  rw [List.getElem?_append_right (by rw [hc,Nat.add_mul]; omega)]
  rw [show (i + 1) * n + j - c.length = i * n + j by rw [hc,Nat.add_mul]; omega]
  exact ih
theorem getP_flat {E : Env} : ∀ (t : Ty) (x : t.den) (cs : List Value) (p : List Step) (o : Nat) (u : Ty),FlatD E t x cs->offT t p = some (o,u) ->
  ∃ z cs',getP t x p = .data u z /\ FlatD E u z cs' /\ ∀ j v,cs'[j]? = some v->cs[o + j]? = some v
 | t,x,cs,[],o,u,h,ho=>by
  have : o = 0 /\ u = t:=by cases t <;> simp [offT] at ho <;> exact ⟨ho.1.symm,ho.2.symm⟩
  obtain ⟨rfl,rfl⟩:=this
  exact ⟨x,cs,by cases u <;> rfl,h,fun j v hv=>by simpa using hv⟩
 | .arr n t,l,cs,.idx i :: p,o,u,h,ho=>by
  simp only [offT] at ho
  split at ho
  ·rename_i hi
   cases ho2 : offT t p with
   | none=>simp [ho2] at ho
   | some q =>
    obtain ⟨o2,u2⟩:=q
    simp [ho2] at ho
    obtain ⟨rfl,rfl⟩:=ho
    obtain ⟨hl,css,hc,ha⟩:=h
    have hil : i.toNat < l.length:=by rw [hl]; omega
    obtain ⟨hm,hr⟩:=ha.get i.toNat hil
    have hgd : l.getD i.toNat t.zero = l[i.toNat]:=by simp [List.getD,List.getElem?_eq_getElem hil]
    obtain ⟨z,cs',h1,h2,h3⟩:=getP_flat t (l.getD i.toNat t.zero) css[i.toNat] p o2 u2 (by rw [hgd]; exact hr) ho2
    refine ⟨z,cs',by simp only [getP]; exact h1,h2,fun j v hv=>?_⟩
    rw [hc,Nat.add_assoc]
    exact getElem?_flatten_of_all2 (fun a cs h=>FlatD.length t a cs h) ha i.toNat _ (List.getElem?_eq_getElem hm) _ _ (h3 j v hv)
  ·cases ho
 | .pair a b,x,cs,.fld 0 :: p,o,u,h,ho=>by
  obtain ⟨c1,c2,hc,h1,h2⟩:=h
  simp only [offT] at ho
  obtain ⟨z,cs',g1,g2,g3⟩:=getP_flat a x.1 c1 p o u h1 ho
  refine ⟨z,cs',by simp only [getP]; exact g1,g2,fun j v hv=>?_⟩
  have:=g3 j v hv
  rw [hc]
  have hj : o + j < c1.length:=by
   rcases Nat.lt_or_ge (o + j) c1.length with h | h
   ·exact h
   ·rw [List.getElem?_eq_none h] at this; cases this
  rw [List.getElem?_append_left hj]; exact this
 | .pair a b,x,cs,.fld (k + 1) :: p,o,u,h,ho=>by
  obtain ⟨c1,c2,hc,h1,h2⟩:=h
  simp only [offT] at ho
  cases ho2 : offT b (.fld k :: p) with
  | none=>simp [ho2] at ho
  | some q =>
   obtain ⟨o2,u2⟩:=q
   simp [ho2] at ho
   obtain ⟨rfl,rfl⟩:=ho
   obtain ⟨z,cs',g1,g2,g3⟩:=getP_flat b x.2 c2 (.fld k :: p) o2 u2 h2 ho2
   refine ⟨z,cs',by simp only [getP]; exact g1,g2,fun j v hv=>?_⟩
   rw [hc,List.getElem?_append_right (by rw [FlatD.length a _ _ h1]; omega)]
   rw [show a.size + o2 + j - c1.length = o2 + j by rw [FlatD.length a _ _ h1]; omega]
   exact g3 j v hv
 | .int _,_,_,_ :: _,_,_,_,ho=>by simp [offT] at ho
 | .bool,_,_,_ :: _,_,_,_,ho=>by simp [offT] at ho
 | .str,_,_,_ :: _,_,_,_,ho=>by simp [offT] at ho
 | .sl _,_,_,_ :: _,_,_,_,ho=>by simp [offT] at ho
 | .unit,_,_,_ :: _,_,_,_,ho=>by simp [offT] at ho
 | .opq,_,_,_ :: _,_,_,_,ho=>by simp [offT] at ho
 | .arr _ _,_,_,.fld _ :: _,_,_,_,ho=>by simp [offT] at ho
 | .pair _ _,_,_,.idx _ :: _,_,_,_,ho=>by simp [offT] at ho
def lay (cs : List Value) (o : Nat) (ds : List Value) : List Value:=cs.take o ++ ds ++ cs.drop (o + ds.length)
theorem castD_some {a b : Ty} {x : a.den} {y : b.den} (h : castD a b x = some y) : ∃ e : a = b,y = e ▸ x:=by
 unfold castD at h
 split at h
 ·rename_i e; exact ⟨e,(Option.some.inj h).symm⟩
 ·cases h
theorem lay_zero (cs ds : List Value) (h : ds.length = cs.length) : lay cs 0 ds = ds:=by
 simp [lay,h]
theorem lay_right (c d ds : List Value) (o : Nat) : lay (c ++ d) (c.length + o) ds = c ++ lay d o ds:=by
 simp only [lay]
 rw [List.take_append,List.drop_append,List.take_of_length_le (by omega),List.drop_of_length_le (by omega)]
 rw [show c.length + o - c.length = o by omega,show c.length + o + ds.length - c.length = o + ds.length by omega]
 simp
theorem lay_left (c d ds : List Value) (o : Nat) (h : o + ds.length <= c.length) : lay (c ++ d) o ds = lay c o ds ++ d:=by
 simp only [lay]
 rw [List.take_append_of_le_length (by omega),List.drop_append_of_le_length (by omega)]
 simp
theorem all2_lay {α : Type} {R : α->List Value->Prop} {n : Nat} (hn : ∀ a cs,R a cs->cs.length = n) : ∀ {l : List α} {css : List (List Value)},All2 R l css ->
  ∀ (i : Nat) (hi : i < css.length) (o : Nat) (ds : List Value),o + ds.length <= n->(css.set i (lay css[i] o ds)).flatten = lay css.flatten (i * n + o) ds
 | [],[],_,i,hi,_,_,_=>by simp at hi
 | _ :: l,c :: css,⟨h1,h2⟩,0,hi,o,ds,ho=>by
  have hc:=hn _ _ h1
  simp only [List.set_cons_zero,List.flatten_cons,List.getElem_cons_zero,Nat.zero_mul,Nat.zero_add]
  rw [lay_left _ _ _ _ (by omega)]
 | _ :: l,c :: css,⟨h1,h2⟩,i + 1,hi,o,ds,ho=>by
  have ih:=all2_lay hn h2 i (by simpa using hi) o ds ho
  have hc:=hn _ _ h1
  have e1 : (i + 1) * n + o = c.length + (i * n + o):=by rw [hc,Nat.add_mul]; omega
  simp only [List.set_cons_succ,List.flatten_cons,List.getElem_cons_succ]
  rw [ih,e1,lay_right]
theorem updP_flat {E : Env} : ∀ (t : Ty) (x : t.den) (cs : List Value) (p : List Step) (o : Nat) (u t' : Ty) (y : t'.den) (x' : t.den) (ds : List Value),FlatD E t x cs->offT t p = some (o,u) ->
  updP t x p t' y = some x'->FlatD E t' y ds->t' = u /\ o + ds.length <= cs.length /\ FlatD E t x' (lay cs o ds)
 | t,x,cs,[],o,u,t',y,x',ds,h,ho,hu,hy=>by
  have : o = 0 /\ u = t:=by cases t <;> simp [offT] at ho <;> exact ⟨ho.1.symm,ho.2.symm⟩
  obtain ⟨rfl,rfl⟩:=this
  have hu' : castD t' u y = some x':=by cases u <;> simpa [updP] using hu
  obtain ⟨rfl,rfl⟩:=castD_some hu'
  have e : ds.length = cs.length:=by rw [FlatD.length _ _ _ h,FlatD.length _ _ _ hy]
  exact ⟨rfl,by omega,by rw [lay_zero _ _ e]; exact hy⟩
 | .arr n t,l,cs,.idx i :: p,o,u,t',y,x',ds,h,ho,hu,hy=>by
  simp only [offT] at ho
  split at ho
  ·rename_i hi
   cases ho2 : offT t p with
   | none=>simp [ho2] at ho
   | some q =>
    obtain ⟨o2,u2⟩:=q
    simp [ho2] at ho
    obtain ⟨rfl,rfl⟩:=ho
    obtain ⟨hl,css,hc,ha⟩:=h
    have hil : i.toNat < l.length:=by rw [hl]; omega
    obtain ⟨hm,hr⟩:=ha.get i.toNat hil
    have hgd : l.getD i.toNat t.zero = l[i.toNat]:=by simp [List.getD,List.getElem?_eq_getElem hil]
    simp only [updP] at hu
    obtain ⟨z,hu2,rfl⟩:=Option.map_eq_some_iff.1 hu
    obtain ⟨e,hle,hf⟩:=updP_flat t (l.getD i.toNat t.zero) css[i.toNat] p o2 u2 t' y z ds (by rw [hgd]; exact hr) ho2 hu2 hy
    have hcl:=FlatD.length _ _ _ hr
    refine ⟨e,?_,by simpa using hl,css.set i.toNat (lay css[i.toNat] o2 ds),?_,ha.set _ _ _ hf⟩
    ·have h1 : cs.length = n * t.size:=by rw [hc,All2.flat_length (fun a cs h=>FlatD.length t a cs h) ha,hl]
     have h2 : (i.toNat + 1) * t.size <= n * t.size:=Nat.mul_le_mul_right _ (by omega)
     rw [Nat.add_mul] at h2
     omega
    ·rw [hc,all2_lay (fun a cs h=>FlatD.length t a cs h) ha i.toNat hm o2 ds (by omega)]
  ·cases ho
 | .pair a b,x,cs,.fld 0 :: p,o,u,t',y,x',ds,h,ho,hu,hy=>by
  obtain ⟨c1,c2,hc,h1,h2⟩:=h
  simp only [offT] at ho
  simp only [updP] at hu
  obtain ⟨z,hu2,rfl⟩:=Option.map_eq_some_iff.1 hu
  obtain ⟨e,hle,hf⟩:=updP_flat a x.1 c1 p o u t' y z ds h1 ho hu2 hy
  exact ⟨e,by rw [hc]; simp; omega,lay c1 o ds,c2,by rw [hc,lay_left _ _ _ _ hle],hf,h2⟩
 | .pair a b,x,cs,.fld (k + 1) :: p,o,u,t',y,x',ds,h,ho,hu,hy=>by
  obtain ⟨c1,c2,hc,h1,h2⟩:=h
  simp only [offT] at ho
  simp only [updP] at hu
  cases ho2 : offT b (.fld k :: p) with
  | none=>simp [ho2] at ho
  | some q =>
   obtain ⟨o2,u2⟩:=q
   simp [ho2] at ho
   obtain ⟨rfl,rfl⟩:=ho
   obtain ⟨z,hu2,rfl⟩:=Option.map_eq_some_iff.1 hu
   obtain ⟨e,hle,hf⟩:=updP_flat b x.2 c2 (.fld k :: p) o2 u2 t' y z ds h2 ho2 hu2 hy
   have hl1:=FlatD.length a _ _ h1
   exact ⟨e,by rw [hc]; simp; omega,c1,lay c2 o2 ds,by rw [hc,<- hl1,lay_right],h1,hf⟩
 | .int _,_,_,_ :: _,_,_,_,_,_,_,_,ho,_,_=>by simp [offT] at ho
 | .bool,_,_,_ :: _,_,_,_,_,_,_,_,ho,_,_=>by simp [offT] at ho
 | .str,_,_,_ :: _,_,_,_,_,_,_,_,ho,_,_=>by simp [offT] at ho
 | .sl _,_,_,_ :: _,_,_,_,_,_,_,_,ho,_,_=>by simp [offT] at ho
 | .unit,_,_,_ :: _,_,_,_,_,_,_,_,ho,_,_=>by simp [offT] at ho
 | .opq,_,_,_ :: _,_,_,_,_,_,_,_,ho,_,_=>by simp [offT] at ho
 | .arr _ _,_,_,.fld _ :: _,_,_,_,_,_,_,_,ho,_,_=>by simp [offT] at ho
 | .pair _ _,_,_,.idx _ :: _,_,_,_,_,_,_,_,ho,_,_=>by simp [offT] at ho
end Go.Bx
namespace Go.Bx
set_option linter.unusedVariables false
set_option linter.unusedSimpArgs false
open Go Go.RowKit
section
variable {P : Program}
theorem oneCell_bool {v : Value} (h : oneCell v) : v.oneCell' = true:=by
 obtain ⟨_,h2,h3⟩:=h
 cases v with
 | agg cs=>exact absurd rfl (h3 cs)
 | tuple vs=>exact absurd rfl (h2 vs)
 | _=>rfl
theorem AtD.one {E : Env} {t : Ty} {x : t.den} {v : Value} (h : AtD E t x v) (ht : t.isAgg = false) : FlatD E t x [v]:=by
 unfold AtD at h; rw [ht] at h; exact h
theorem AtD.agg {E : Env} {t : Ty} {x : t.den} {v : Value} (h : AtD E t x v) (ht : t.isAgg = true) : ∃ cs,v = .agg cs /\ FlatD E t x cs.toList:=by
 unfold AtD at h; rw [ht] at h; exact h
theorem AtD.cells {E : Env} {t : Ty} {x : t.den} {v : Value} (h : AtD E t x v) : FlatD E t x v.cells.toList:=by
 cases ht : t.isAgg with
 | true=>obtain ⟨cs,rfl,hf⟩:=h.agg ht; exact hf
 | false =>
  have hf:=h.one ht
  have:=(FlatD.cell _ _ _ hf v (by simp)).1
  rw [this]; exact hf
theorem AtD.ofFlat {E : Env} {t : Ty} {x : t.den} {v : Value} (hf : FlatD E t x [v]) (ht : t.isAgg = false) : AtD E t x v:=by
 unfold AtD; rw [ht]; exact hf
theorem AtD.ofAgg {E : Env} {t : Ty} {x : t.den} {cs : Array Value} (hf : FlatD E t x cs.toList) (ht : t.isAgg = true) : AtD E t x (.agg cs):=by
 unfold AtD; rw [ht]; exact ⟨cs,rfl,hf⟩
theorem AtD.ext {E E' : Env} (h : Ext E E') {t : Ty} {x : t.den} {v : Value} (hx : AtD E t x v) : AtD E' t x v:=by
 cases ht : t.isAgg with
 | true=>obtain ⟨cs,rfl,hf⟩:=hx.agg ht; exact .ofAgg (hf.ext h) ht
 | false=>exact .ofFlat ((hx.one ht).ext h) ht
theorem add_plain (a : Addr) (n : Nat) (h : a.spot = none) : a.add n = ⟨a.block,a.off + n,none⟩:=by
 obtain ⟨b,o,s⟩:=a
 simp at h; subst h
 unfold Addr.add
 split <;> simp_all
theorem run_isAgg (w : World) {τ : Ty} {t : TypeId} (h : TyOk P τ t) : (isAgg t).run P w = .ok τ.isAgg w:=by
 unfold isAgg
 cases τ <;> simp only [TyOk] at h
 ·simp [run_underlying h.1,Ty.isAgg]
 ·simp [run_underlying h.1,Ty.isAgg]
 ·simp [run_underlying h.1,Ty.isAgg]
 ·obtain ⟨e,h,_⟩:=h; simp [run_underlying h,Ty.isAgg]
 ·obtain ⟨e,h,_⟩:=h; simp [run_underlying h,Ty.isAgg]
 ·simp [run_underlying h.1,Ty.isAgg]
 ·obtain ⟨e,h,_⟩:=h; simp [run_underlying h,Ty.isAgg]
 ·obtain ⟨d,h,hd,_⟩:=h; cases d <;> simp [opqDesc] at hd <;> simp [run_underlying h,Ty.isAgg]
theorem run_sizeOf (w : World) {τ : Ty} {t : TypeId} (h : Info P t τ) : (sizeOf t).run P w = .ok τ.size w:=by
 obtain ⟨inf,z,h1,h2,_⟩:=h
 simp [sizeOf,typeInfo,h1,h2]
theorem run_loadVar (w : World) {τ : Ty} {t : TypeId} (h : TyOk P τ t) (a : Addr) (ha : a.spot = none) {E : Env} {x : τ.den} {ds : List Value} (hx : FlatD E τ x ds)
  (hc : ∀ j v,ds[j]? = some v->w.cell? ⟨a.block,a.off + j,none⟩ = some v) : ∃ v,(loadVar t a).run P w = .ok v w /\ AtD E τ x v:=by
 have hl:=FlatD.length _ _ _ hx
 cases hτ : τ.isAgg with
 | true =>
  refine ⟨.agg ds.toArray,?_,.ofAgg (by simpa using hx) hτ⟩
  have hcs:=run_loadCells_list (P:=P) w a ds (fun j v hv=>by rw [add_plain a j ha]; exact hc j v hv)
  rw [hl] at hcs
  simp [loadVar,run_isAgg w h,hτ,run_sizeOf w h.info,hcs]
 | false =>
  have hs : τ.size = 1:=by cases τ <;> simp [Ty.isAgg] at hτ <;> rfl
  rw [hs] at hl
  obtain ⟨c,rfl⟩:=List.length_eq_one_iff.1 hl
  refine ⟨c,?_,.ofFlat hx hτ⟩
  have h0:=hc 0 c (by simp)
  have ea : (⟨a.block,a.off + 0,none⟩ : Addr) = a:=by obtain ⟨b,o,s⟩:=a; simp at ha; subst ha; rfl
  rw [ea] at h0
  simp [loadVar,run_isAgg w h,hτ,run_load,h0]
theorem run_part (w : World) {E : Env} {τ : Ty} {t : TypeId} (h : TyOk P τ t) (cs : Array Value) (off : Nat) {x : τ.den} {ds : List Value} (hx : FlatD E τ x ds)
  (hc : (cs.toList.drop off).take τ.size = ds) : ∃ v,(part t cs off).run P w = .ok v w /\ AtD E τ x v:=by
 have hl:=FlatD.length _ _ _ hx
 cases hτ : τ.isAgg with
 | true =>
  refine ⟨.agg (cs.extract off (off + τ.size)),?_,.ofAgg ?_ hτ⟩
  ·simp [part,run_isAgg w h,hτ,run_sizeOf w h.info]
  ·have : (cs.extract off (off + τ.size)).toList = ds:=by
    rw [<- hc]
    simp [List.extract_eq_take_drop]
   rw [this]; exact hx
 | false =>
  have hs : τ.size = 1:=by cases τ <;> simp [Ty.isAgg] at hτ <;> rfl
  rw [hs] at hl
  obtain ⟨c,rfl⟩:=List.length_eq_one_iff.1 hl
  refine ⟨c,?_,.ofFlat hx hτ⟩
  have h0 : cs[off]? = some c:=by
   have:=congrArg (fun l : List Value=>l[0]?) hc
   rw [hs] at this
   simpa using this
  simp [part,run_isAgg w h,hτ,h0]
def eqElems (d : Nat) (e : TypeId) (xs ys : Array Value) (n : Nat) : List Nat->Sem Bool
 | []=>pure true
 | i :: l=>do
  let a <- part e xs (i * n)
  let b <- part e ys (i * n)
  let r <- Op.equalIn d e a b
  if (!r) = true then pure false else eqElems d e xs ys n l
theorem run_equalIn_array (w : World) (d : Nat) (t e : TypeId) (len n : Nat) (xs ys : Array Value) (ht : P.underlying t = some (.array len e)) (hn : ∀ w,(sizeOf e).run P w = .ok n w) :
  (Op.equalIn (d + 1) t (.agg xs) (.agg ys)).run P w = (eqElems d e xs ys n (List.range' 0 len)).run P w:=by
 simp only [Op.equalIn,Sem.run_bind,run_underlying ht,Result.andThen_ok,hn]
 simp only [Std.Legacy.Range.forIn_eq_forIn_range',Std.Legacy.Range.size,Nat.sub_zero,Nat.add_sub_cancel,Nat.div_one]
 generalize hl : List.range' 0 len = l
 clear hl ht
 induction l generalizing w with
 | nil=>simp [eqElems]
 | cons i l ih =>
  simp only [List.forIn_cons,eqElems,Sem.run_bind]
  generalize (part e xs (i * n)).run P w = r1
  cases r1 with
  | ok a w1 =>
   simp only [Result.andThen_ok]
   generalize (part e ys (i * n)).run P w1 = r2
   cases r2 with
   | ok b w2 =>
    simp only [Result.andThen_ok]
    generalize (Op.equalIn d e a b).run P w2 = r3
    cases r3 with
    | ok r w3 =>
     cases r
     ·simp only [Result.andThen_ok,Bool.not_false,if_true,Sem.run_pure]
     ·simp only [Result.andThen_ok,Bool.not_true,Bool.false_eq_true,if_false,Sem.run_pure]
      exact ih w3
    | halt x w3=>simp [Result.andThen]
   | halt x w2=>simp [Result.andThen]
  | halt x w1=>simp [Result.andThen]
end
end Go.Bx
namespace Go.Bx
set_option linter.unusedVariables false
set_option linter.unusedSimpArgs false
open Go Go.RowKit
section
variable {P : Program}
theorem bytesOf_inj (a b : ByteArray) : (a.toList == b.toList) = (bytesOf a == bytesOf b):=by
 rw [Bool.eq_iff_iff]
 simp only [beq_iff_eq]
 rw [ByteArray.toList_eq,ByteArray.toList_eq]
 unfold bytesOf
 constructor
 ·intro h; rw [h]
 ·intro h
  have hinj : ∀ (l m : List UInt8),l.map (fun b=>(b.toNat : Int)) = m.map (fun b=>(b.toNat : Int))->l = m:=by
   intro l
   induction l with
   | nil=>intro m h; cases m with
    | nil=>rfl
    | cons _ _=>simp at h
   | cons a l ih=>intro m h; cases m with
    | nil=>simp at h
    | cons b m =>
     simp only [List.map_cons,List.cons.injEq] at h
     have e : a = b:=UInt8.toNat_inj.1 (by omega)
     rw [e,ih m h.2]
  exact hinj _ _ h
theorem beqL_cons {α : Type} (f : α->α->Bool) (a b : α) (r s : List α) : beqL f (a :: r) (b :: s) = (f a b && beqL f r s):=rfl
mutual
theorem eq_data {E : Env} (w : World) : ∀ (τ : Ty) (t : TypeId) (d : Nat) (x y : τ.den) (v u : Value),TyOk P τ t->τ.cmp = true->τ.dep <= d->AtD E τ x v->AtD E τ y u ->
  (Op.equalIn d t v u).run P w = .ok (beqD τ x y) w
 | .int k,t,d,x,y,v,u,ht,_,hd,hv,hu=>by
  obtain ⟨d,rfl⟩ : ∃ m,d = m + 1:=⟨d - 1,by simp [Ty.dep] at hd; omega⟩
  have h1:=(hv.one rfl).1
  have h2:=(hu.one rfl).1
  simp at h1 h2
  subst h1; subst h2
  exact run_equalIn_int w d t k k x y ht.1
 | .bool,t,d,x,y,v,u,ht,_,hd,hv,hu=>by
  obtain ⟨d,rfl⟩ : ∃ m,d = m + 1:=⟨d - 1,by simp [Ty.dep] at hd; omega⟩
  have h1:=hv.one rfl
  have h2:=hu.one rfl
  simp [FlatD] at h1 h2
  subst h1; subst h2
  exact run_equalIn_bool w d t x y ht.1
 | .str,t,d,x,y,v,u,ht,_,hd,hv,hu=>by
  obtain ⟨d,rfl⟩ : ∃ m,d = m + 1:=⟨d - 1,by simp [Ty.dep] at hd; omega⟩
  obtain ⟨s1,h1,e1,_⟩:=hv.one rfl
  obtain ⟨s2,h2,e2,_⟩:=hu.one rfl
  simp at h1 h2
  subst h1; subst h2
  rw [run_equalIn_string w d t s1 s2 ht.1,bytesOf_inj]
  subst e1; subst e2; rfl
 | .arr n τ,t,d,x,y,v,u,ht,hc,hd,hv,hu=>by
  obtain ⟨d,rfl⟩ : ∃ m,d = m + 1:=⟨d - 1,by simp [Ty.dep] at hd; omega⟩
  obtain ⟨xs,rfl,hx⟩:=hv.agg rfl
  obtain ⟨ys,rfl,hy⟩:=hu.agg rfl
  obtain ⟨e,hu,hte,_⟩:=ht
  rw [run_equalIn_array w d t e n τ.size xs ys hu (fun w=>run_sizeOf w hte.info)]
  obtain ⟨hlx,cx,hcx,hax⟩:=hx
  obtain ⟨hly,cy,hcy,hay⟩:=hy
  have key : ∀ (x y : List τ.den) (cx cy : List (List Value)) (s : Nat),x.length = y.length->All2 (FlatD E τ) x cx->All2 (FlatD E τ) y cy->xs.toList.drop (s * τ.size) = cx.flatten->ys.toList.drop (s * τ.size) = cy.flatten ->
    (eqElems d e xs ys τ.size (List.range' s x.length)).run P w = .ok (beqL (beqD τ) x y) w:=by
   intro x
   induction x with
   | nil =>
    intro y cx cy s hl _ _ _ _
    cases y with
    | nil=>simp [eqElems,beqL]
    | cons _ _=>simp at hl
   | cons a x ih =>
    intro y cx cy s hl h1 h2 h3 h4
    cases y with
    | nil=>simp at hl
    | cons b y =>
     cases cx with
     | nil=>exact h1.elim
     | cons c cx =>
      cases cy with
      | nil=>exact h2.elim
      | cons c' cy =>
       have l1:=FlatD.length _ _ _ h1.1
       have l2:=FlatD.length _ _ _ h2.1
       obtain ⟨v1,r1,a1⟩:=run_part w hte xs (s * τ.size) h1.1 (by rw [h3,<- l1]; simp)
       obtain ⟨v2,r2,a2⟩:=run_part w hte ys (s * τ.size) h2.1 (by rw [h4,<- l2]; simp)
       have hd' : τ.dep <= d:=by simp [Ty.dep] at hd; omega
       have he:=eq_data w τ e d a b v1 v2 hte (by simpa [Ty.cmp] using hc) hd' a1 a2
       have e1 : xs.toList.drop ((s + 1) * τ.size) = cx.flatten:=by
        rw [Nat.add_mul,Nat.one_mul,<- List.drop_drop,h3,<- l1]; simp
       have e2 : ys.toList.drop ((s + 1) * τ.size) = cy.flatten:=by
        rw [Nat.add_mul,Nat.one_mul,<- List.drop_drop,h4,<- l2]; simp
       have hr:=ih y cx cy (s + 1) (by simpa using hl) h1.2 h2.2 e1 e2
       simp only [List.length_cons,List.range'_succ,eqElems,Sem.run_bind,r1,r2,Result.andThen_ok,he,beqL_cons]
       cases hb : beqD τ a b with
       | false=>simp
       | true=>simpa using hr
  have:=key x y cx cy 0 (by rw [hlx,hly]) hax hay (by simpa using hcx) (by simpa using hcy)
  rw [hlx] at this
  simpa [beqD] using this
 | .unit,t,d,x,y,v,u,ht,_,hd,hv,hu=>by
  obtain ⟨d,rfl⟩ : ∃ m,d = m + 1:=⟨d - 1,by simp [Ty.dep] at hd; omega⟩
  obtain ⟨xs,rfl,hx⟩:=hv.agg rfl
  obtain ⟨ys,rfl,hy⟩:=hu.agg rfl
  have hfo : P.fieldsOf t = #[]:=by simp [Program.fieldsOf,ht.1]
  rw [run_equalIn_struct w d t xs ys (by rw [hfo]; exact ht.1) ht.2.2,hfo]
  simp [Op.eqFields,beqD]
 | .pair a b,t,d,x,y,v,u,ht,hc,hd,hv,hu=>by
  obtain ⟨d,rfl⟩ : ∃ m,d = m + 1:=⟨d - 1,by simp [Ty.dep] at hd; omega⟩
  obtain ⟨xs,rfl,hx⟩:=hv.agg rfl
  obtain ⟨ys,rfl,hy⟩:=hu.agg rfl
  obtain ⟨fs,hfs,hf,_,hsh,_⟩:=ht
  have hfo : P.fieldsOf t = fs:=by simp [Program.fieldsOf,hfs]
  rw [run_equalIn_struct w d t xs ys (by rw [hfo]; exact hfs) hsh,hfo]
  exact eq_fields w (.pair a b) fs.toList 0 d x y xs ys hf hc hd hx hy
 | .sl _,_,_,_,_,_,_,_,hc,_,_,_=>by simp [Ty.cmp] at hc
 | .opq,_,_,_,_,_,_,_,hc,_,_,_=>by simp [Ty.cmp] at hc
theorem eq_fields {E : Env} (w : World) : ∀ (τ : Ty) (fs : List Field) (off d : Nat) (x y : τ.den) (xs ys : Array Value),FieldsOk P τ fs off->τ.cmp = true->τ.dep <= d + 1 ->
  FlatD E τ x (xs.toList.drop off)->FlatD E τ y (ys.toList.drop off)->(Op.eqFields d xs ys fs).run P w = .ok (beqD τ x y) w
 | .unit,fs,off,d,x,y,xs,ys,hf,_,_,_,_=>by
  simp only [FieldsOk] at hf
  subst hf
  simp [Op.eqFields,beqD]
 | .pair a b,fs,off,d,x,y,xs,ys,hf,hc,hd,hx,hy=>by
  obtain ⟨f,r,rfl,ho,hz,hn,hta,hr⟩:=hf
  obtain ⟨c1,c2,e1,h1,h2⟩:=hx
  obtain ⟨d1,d2,e2,g1,g2⟩:=hy
  have l1:=FlatD.length _ _ _ h1
  have l2:=FlatD.length _ _ _ g1
  have hc' : a.cmp = true /\ b.cmp = true:=by simpa [Ty.cmp] using hc
  have hd1 : a.dep <= d:=by simp only [Ty.dep] at hd; omega
  have hd2 : b.dep <= d + 1:=by simp only [Ty.dep] at hd; omega
  obtain ⟨v1,r1,a1⟩:=run_part w hta xs off h1 (by rw [e1,<- l1]; simp)
  obtain ⟨v2,r2,a2⟩:=run_part w hta ys off g1 (by rw [e2,<- l2]; simp)
  have he:=eq_data w a f.type d x.1 y.1 v1 v2 hta hc'.1 hd1 a1 a2
  have i1 : xs.toList.drop (off + a.size) = c2:=by rw [<- List.drop_drop,e1,<- l1]; simp
  have i2 : ys.toList.drop (off + a.size) = d2:=by rw [<- List.drop_drop,e2,<- l2]; simp
  have ih:=eq_fields w b r (off + a.size) d x.2 y.2 xs ys hr hc'.2 hd2 (by rw [i1]; exact h2) (by rw [i2]; exact g2)
  simp only [Op.eqFields,hn,ne_eq,not_false_eq_true,if_true,ho,Sem.run_bind,r1,r2,Result.andThen_ok,he,beqD]
  cases hb : beqD a x.1 y.1 with
  | false=>simp
  | true=>simpa using ih
 | .int _,_,_,_,_,_,_,_,hf,_,_,_,_=>by simp [FieldsOk] at hf
 | .bool,_,_,_,_,_,_,_,hf,_,_,_,_=>by simp [FieldsOk] at hf
 | .str,_,_,_,_,_,_,_,hf,_,_,_,_=>by simp [FieldsOk] at hf
 | .arr _ _,_,_,_,_,_,_,_,hf,_,_,_,_=>by simp [FieldsOk] at hf
 | .sl _,_,_,_,_,_,_,_,hf,_,_,_,_=>by simp [FieldsOk] at hf
 | .opq,_,_,_,_,_,_,_,hf,_,_,_,_=>by simp [FieldsOk] at hf
end
end
end Go.Bx
namespace Go.Bx
set_option linter.unusedVariables false
set_option linter.unusedSimpArgs false
open Go Go.RowKit
def SameB (G G2 : GE) (id j ver u : Nat) : Blk->Blk->Prop
 | .cell t _ _,.cell t2 _ _=>t2 = t /\ G2.β j = G.β id
 | .buf t l c _,.buf t2 l2 c2 _=>(ver <= c->u <= c2) /\ (ver <= c->u = c2->ver = c /\ t2 = t /\ G2.β j = G.β id /\ G2.σ j = G.σ id /\ (l : List t.den).length <= (l2 : List t2.den).length)
 | .map k v _,.map k2 v2 _=>k2 = k /\ v2 = v /\ G2.β j = G.β id
 | _,_=>False
structure Mv (ρ : Nat->Nat->Option (Nat × Nat)) (G G2 : GE) : Prop where
 env : Ext G.env G2.env
 blk : ∀ id ver j u blk,ρ id ver = some (j,u)->nthB G.hp id = some blk->∃ blk2,nthB G2.hp j = some blk2 /\ SameB G G2 id j ver u blk blk2
theorem AtD.isAgg {E : Env} {t : Ty} {x : t.den} {v : Value} (h : AtD E t x v) : (t.isAgg = true->∃ c,v = .agg c) /\ (t.isAgg = false->oneCell v) /\ v.cells.size = t.size:=by
 refine ⟨fun ht=>?_,fun ht=>?_,?_⟩
 ·obtain ⟨c,rfl,_⟩:=h.agg ht; exact ⟨c,rfl⟩
 ·exact FlatD.cell _ _ _ (h.one ht) v (by simp)
 ·have:=FlatD.length _ _ _ h.cells; simpa using this
theorem RefAt.ren {ρ : Nat->Nat->Option (Nat × Nat)} {G G2 : GE} (h : Mv ρ G G2) {id ver j u : Nat} {p : List Step} {v : Value} (hρ : ρ id ver = some (j,u)) (hx : RefAt G id ver p v) : RefAt G2 j u p v:=by
 unfold RefAt at hx
 cases hb : nthB G.hp id with
 | none=>rw [hb] at hx; exact hx.elim
 | some blk =>
  rw [hb] at hx
  obtain ⟨blk2,g1,g2⟩:=h.blk _ _ _ _ _ hρ hb
  cases blk <;> cases blk2 <;> simp only [SameB] at g2 hx
  ·obtain ⟨rfl,g3⟩:=g2
   obtain ⟨b,o,u',h1,h2,h3⟩:=hx
   unfold RefAt; rw [g1]
   exact ⟨b,o,u',by rw [g3]; exact h1,h2,h3⟩
  ·unfold RefAt; rw [g1]
   refine ⟨g2.1 hx.1,hx.2.1,fun e=>?_⟩
   obtain ⟨e1,rfl,e2,e3,e4⟩:=g2.2 hx.1 e
   obtain ⟨b,i,q,o,u',h1,h2,h3,h4,h5,h6⟩:=hx.2.2 e1
   exact ⟨b,i,q,o,u',h1,by rw [e2]; exact h2,h3,Nat.lt_of_lt_of_le h4 e4,h5,h6⟩
theorem AppAt.ren {ρ : Nat->Nat->Option (Nat × Nat)} {G G2 : GE} (h : Mv ρ G G2) {id ver j u : Nat} {v : Value} (hρ : ρ id ver = some (j,u)) (hx : AppAt G id ver v) : AppAt G2 j u v:=by
 unfold AppAt at hx
 cases hb : nthB G.hp id with
 | none=>rw [hb] at hx; exact hx.elim
 | some blk =>
  rw [hb] at hx
  obtain ⟨blk2,g1,g2⟩:=h.blk _ _ _ _ _ hρ hb
  cases blk <;> cases blk2 <;> simp only [SameB] at g2 hx
  unfold AppAt; rw [g1]
  refine ⟨g2.1 hx.1,hx.2.1,fun e=>?_⟩
  obtain ⟨e1,rfl,e2,e3,e4⟩:=g2.2 hx.1 e
  rw [e3]; exact hx.2.2 e1
theorem ViewAt.ren {ρ : Nat->Nat->Option (Nat × Nat)} {G G2 : GE} (h : Mv ρ G G2) {id j u : Nat} {p : List Step} {t : Ty} {n : Nat} {lo hi : Int} {v : Value} (hρ : ρ id 0 = some (j,u)) (hx : ViewAt G id p t n lo hi v) : ViewAt G2 j p t n lo hi v:=by
 unfold ViewAt at hx
 cases hb : nthB G.hp id with
 | none=>rw [hb] at hx; exact hx.elim
 | some blk =>
  rw [hb] at hx
  obtain ⟨blk2,g1,g2⟩:=h.blk _ _ _ _ _ hρ hb
  cases blk <;> cases blk2 <;> simp only [SameB] at g2 hx
  obtain ⟨rfl,g3⟩:=g2
  unfold ViewAt; rw [g1]
  obtain ⟨b,o,h1,h2⟩:=hx
  exact ⟨b,o,by rw [g3]; exact h1,h2⟩
theorem MapAt.ren {ρ : Nat->Nat->Option (Nat × Nat)} {G G2 : GE} (h : Mv ρ G G2) {id j u : Nat} {v : Value} (hρ : ρ id 0 = some (j,u)) (hx : MapAt G id v) : MapAt G2 j v:=by
 unfold MapAt at hx
 cases hb : nthB G.hp id with
 | none=>rw [hb] at hx; exact hx.elim
 | some blk =>
  rw [hb] at hx
  obtain ⟨blk2,g1,g2⟩:=h.blk _ _ _ _ _ hρ hb
  cases blk <;> cases blk2 <;> simp only [SameB] at g2 hx
  obtain ⟨rfl,rfl,g3⟩:=g2
  unfold MapAt; rw [g1]
  obtain ⟨b,h1,h2⟩:=hx
  exact ⟨b,by rw [g3]; exact h1,h2⟩
theorem Shp.ren {ρ : Nat->Nat->Option (Nat × Nat)} {a : Ty} {v : V} {x : Value} (h : Shp a v x) : Shp a (ren ρ v) x:=by
 refine ⟨fun e=>?_,h.agg,h.one,h.size,fun t y e=>?_,fun t l e=>?_⟩
 ·have:=h.tree e
  cases v <;> simp only [V.tree] at this <;> first | cases this; done | rfl
 ·cases v <;> simp only [Bx.ren] at e <;> first | cases e; done | exact h.data _ _ e | (split at e <;> cases e; done)
 ·cases v <;> simp only [Bx.ren] at e <;> first | (cases e; exact h.part _ _ rfl) | (cases e; done) | (split at e <;> cases e; done)
mutual
theorem AtV.ren {ρ : Nat->Nat->Option (Nat × Nat)} {G G2 : GE} (h : Mv ρ G G2) {tm : Array Value} : ∀ (v : V) (x : Value),AtV G tm v x->AtV G2 tm (ren ρ v) x
 | .any,_,_=>by simp only [Bx.ren,AtV]
 | .data _ _,_,hx=>by simp only [Bx.ren,AtV] at hx ⊢; exact hx.ext h.env
 | .nilp,_,hx=>by simp only [Bx.ren,AtV] at hx ⊢; exact hx
 | .snil,_,hx=>by simp only [Bx.ren,AtV] at hx ⊢; exact hx
 | .ref id ver p,x,hx=>by
  simp only [AtV] at hx
  cases hρ : ρ id ver with
  | none=>simp only [Bx.ren,hρ,AtV]
  | some q=>simp only [Bx.ren,hρ,AtV]; exact hx.ren h hρ
 | .iref t y,x,hx=>by
  simp only [Bx.ren,AtV] at hx ⊢
  obtain ⟨ad,ds,h1,h2,h3,h4,h5⟩:=hx
  refine ⟨ad,ds,h1,h2,h3.imp id fun ⟨m,hm,hi⟩=>⟨m,hm,h.env.im _ _ hi⟩,fun j u hj=>?_,h5.ext h.env⟩
  rcases h3 with h3 | ⟨m,hm,hi⟩
  ·rw [h3] at hj; simp at hj
  ·have hjl : j < ds.length:=by
    rcases Nat.lt_or_ge j ds.length with h | h
    ·exact h
    ·rw [List.getElem?_eq_none h] at hj; cases hj
   rw [<- h4 j u hj]
   exact h.env.cell _ _ hi _ (by omega)
 | .tup l,x,hx=>by
  simp only [Bx.ren,AtV] at hx ⊢
  obtain ⟨vs,h1,h2⟩:=hx
  exact ⟨vs,h1,AtL.ren h l _ h2⟩
 | .opt d w u,x,hx=>by
  simp only [Bx.ren,AtV] at hx ⊢
  exact ⟨fun e=>AtV.ren h u x (hx.1 e),hx.2⟩
 | .fn f a b,x,hx=>by
  simp only [Bx.ren,AtV] at hx ⊢
  obtain ⟨xs,ys,h1,h2,h3⟩:=hx
  exact ⟨xs,ys,h1,AtL.ren h a _ h2,AtL.ren h b _ h3⟩
 | .full _ _,x,hx=>by
  simp only [Bx.ren,AtV] at hx ⊢
  exact ⟨hx.1.ext h.env,hx.2⟩
 | .app id ver,x,hx=>by
  simp only [AtV] at hx
  cases hρ : ρ id ver with
  | none=>simp only [Bx.ren,hρ,AtV]
  | some q=>simp only [Bx.ren,hρ,AtV]; exact hx.ren h hρ
 | .view id p t n lo hi,x,hx=>by
  simp only [AtV] at hx
  cases hρ : ρ id 0 with
  | none=>simp only [Bx.ren,hρ,AtV]
  | some q=>simp only [Bx.ren,hρ,AtV]; exact hx.ren h hρ
 | .agg t l,x,hx=>by
  simp only [Bx.ren,AtV] at hx ⊢
  obtain ⟨cs,h1,h2⟩:=hx
  exact ⟨cs,h1,FlatL.ren h t l _ h2⟩
 | .ifc t u,x,hx=>by
  simp only [Bx.ren,AtV] at hx ⊢
  obtain ⟨y,h1,h2⟩:=hx
  exact ⟨y,h1,AtV.ren h u y h2⟩
 | .mth m u,x,hx=>by
  simp only [Bx.ren,AtV] at hx ⊢
  obtain ⟨y,h1,h2⟩:=hx
  exact ⟨y,h1,AtV.ren h u y h2⟩
 | .glob g,x,hx=>by simpa only [Bx.ren,AtV] using hx
 | .map id,x,hx=>by
  simp only [AtV] at hx
  cases hρ : ρ id 0 with
  | none=>simp only [Bx.ren,hρ,AtV]
  | some q=>simp only [Bx.ren,hρ,AtV]; exact hx.ren h hρ
theorem AtL.ren {ρ : Nat->Nat->Option (Nat × Nat)} {G G2 : GE} (h : Mv ρ G G2) {tm : Array Value} : ∀ (l : List V) (m : List Value),AtL G tm l m->AtL G2 tm (renL ρ l) m
 | [],[],_=>by simp [renL,AtL]
 | v :: l,x :: m,hx=>by
  simp only [renL,AtL] at hx ⊢
  exact ⟨AtV.ren h v x hx.1,AtL.ren h l m hx.2⟩
 | [],_ :: _,hx=>by simp [AtL] at hx
 | _ :: _,[],hx=>by simp [AtL] at hx
theorem FlatL.ren {ρ : Nat->Nat->Option (Nat × Nat)} {G G2 : GE} (h : Mv ρ G G2) : ∀ (t : Ty) (l : List V) (cs : List Value),FlatL G t l cs->FlatL G2 t (renL ρ l) cs
 | t,[],cs,hx=>by simpa only [renL,FlatL] using hx
 | t,v :: l,cs,hx=>by
  simp only [renL,FlatL] at hx ⊢
  obtain ⟨a,r,x,cs',h1,h2,h3,h4,h5⟩:=hx
  exact ⟨a,r,x,cs',h1,h2,h3.ren,AtV.ren h v x h4,FlatL.ren h r l cs' h5⟩
end
theorem FlatV.ren {ρ : Nat->Nat->Option (Nat × Nat)} {G G2 : GE} (h : Mv ρ G G2) {t : Ty} {v : V} {cs : List Value} (hx : FlatV G t v cs) : FlatV G2 t (Bx.ren ρ v) cs:=by
 obtain ⟨x,h1,h2,h3⟩:=hx
 exact ⟨x,h1,h2.ren,AtV.ren h v x h3⟩
def stay (i v : Nat) : Option (Nat × Nat):=some (i,v)
mutual
theorem ren_stay : ∀ v : V,ren stay v = v
 | .any=>rfl | .data _ _=>rfl | .nilp=>rfl | .snil=>rfl | .ref _ _ _=>rfl | .iref _ _=>rfl | .full _ _=>rfl | .app _ _=>rfl | .view _ _ _ _ _ _=>rfl | .map _=>rfl | .glob _=>rfl
 | .tup l=>by simp only [Bx.ren,renL_stay l]
 | .opt _ _ v=>by simp only [Bx.ren,ren_stay v]
 | .fn _ a b=>by simp only [Bx.ren,renL_stay a,renL_stay b]
 | .agg _ l=>by simp only [Bx.ren,renL_stay l]
 | .ifc _ v=>by simp only [Bx.ren,ren_stay v]
 | .mth _ v=>by simp only [Bx.ren,ren_stay v]
theorem renL_stay : ∀ l : List V,renL stay l = l
 | []=>rfl
 | v :: l=>by simp only [renL,ren_stay v,renL_stay l]
end
abbrev Keep (G G2 : GE) : Prop:=Mv stay G G2
theorem AtV.ext {G G2 : GE} (h : Keep G G2) {tm : Array Value} {v : V} {x : Value} (hx : AtV G tm v x) : AtV G2 tm v x:=by
 have:=AtV.ren h v x hx; rwa [ren_stay] at this
theorem AtL.ext {G G2 : GE} (h : Keep G G2) {tm : Array Value} {v : List V} {x : List Value} (hx : AtL G tm v x) : AtL G2 tm v x:=by
 have:=AtL.ren h v x hx; rwa [renL_stay] at this
theorem FlatV.ext {G G2 : GE} (h : Keep G G2) {t : Ty} {v : V} {cs : List Value} (hx : FlatV G t v cs) : FlatV G2 t v cs:=by
 have:=FlatV.ren h hx; rwa [ren_stay] at this
theorem Ext.refl (E : Env) : Ext E E:=⟨fun _ _ h=>h,fun _ _ _ _ _=>rfl⟩
theorem Ext.trans {a b c : Env} (h : Ext a b) (k : Ext b c) : Ext a c:=⟨fun _ _ hi=>k.im _ _ (h.im _ _ hi),fun b m hi j hj=>(k.cell b m (h.im _ _ hi) j hj).trans (h.cell b m hi j hj)⟩
theorem SameB.refl (G : GE) (id ver : Nat) (b : Blk) (G2 : GE) (h1 : G2.β id = G.β id) (h2 : G2.σ id = G.σ id) : SameB G G2 id id ver ver b b:=by
 cases b <;> simp only [SameB]
 ·exact ⟨trivial,h1⟩
 ·exact ⟨fun h=>h,fun _ e=>⟨e,trivial,h1,h2,Nat.le_refl _⟩⟩
 ·exact ⟨trivial,trivial,h1⟩
theorem Keep.refl (G : GE) : Keep G G:=⟨Ext.refl _,fun id ver j u blk hρ hb=>by
 simp only [stay,Option.some.injEq,Prod.mk.injEq] at hρ
 obtain ⟨rfl,rfl⟩:=hρ
 exact ⟨blk,hb,SameB.refl G id ver blk G rfl rfl⟩⟩
theorem SameB.trans {G1 G2 G3 : GE} {i ver : Nat} {a b c : Blk} (h : SameB G1 G2 i i ver ver a b) (k : ∀ v,SameB G2 G3 i i v v b c) : SameB G1 G3 i i ver ver a c:=by
 cases a <;> cases b <;> simp only [SameB] at h
 ·cases c <;> have k:=k 0 <;> simp only [SameB] at k
  exact ⟨k.1.trans h.1,k.2.trans h.2⟩
 ·cases c <;> have k0:=k ver <;> simp only [SameB] at k0
  refine ⟨fun hv=>k0.1 (h.1 hv),fun hv e=>?_⟩
  obtain ⟨e1,e2,e3,e4,e5⟩:=k0.2 (h.1 hv) e
  obtain ⟨f1,f2,f3,f4,f5⟩:=h.2 hv e1
  exact ⟨f1,e2.trans f2,e3.trans f3,e4.trans f4,Nat.le_trans f5 e5⟩
 ·cases c <;> have k:=k 0 <;> simp only [SameB] at k
  exact ⟨k.1.trans h.1,k.2.1.trans h.2.1,k.2.2.trans h.2.2⟩
theorem Keep.trans {a b c : GE} (h : Keep a b) (k : Keep b c) : Keep a c:=⟨h.env.trans k.env,fun id ver j u blk hρ hb=>by
 simp only [stay,Option.some.injEq,Prod.mk.injEq] at hρ
 obtain ⟨rfl,rfl⟩:=hρ
 obtain ⟨b2,g1,g2⟩:=h.blk id ver id ver blk rfl hb
 obtain ⟨b3,g3,g4⟩:=k.blk id ver id ver b2 rfl g1
 refine ⟨b3,g3,g2.trans fun v=>?_⟩
 obtain ⟨b3',g3',g4'⟩:=k.blk id v id v b2 rfl g1
 rw [g3] at g3'; cases g3'; exact g4'⟩
structure Tr (G G2 : GE) : Prop where
 keep : Keep G G2
 os : G2.w.os = G.w.os
 tape : G2.w.tape = G.w.tape
 output : G2.w.output = G.w.output
 size : G.w.heap.size <= G2.w.heap.size
 frame : ∀ b,b < G.w.heap.size->¬ G.named b->G2.w.heap[b]? = G.w.heap[b]?
 own : ∀ b,G2.named b->G.w.heap.size <= b \/ G.named b
theorem Tr.refl (G : GE) : Tr G G:=⟨Keep.refl G,rfl,rfl,rfl,Nat.le_refl _,fun _ _ _=>rfl,fun _ h=>.inr h⟩
theorem Tr.trans {a b c : GE} (h : Tr a b) (k : Tr b c) : Tr a c :=
 ⟨h.keep.trans k.keep,k.os.trans h.os,k.tape.trans h.tape,k.output.trans h.output,Nat.le_trans h.size k.size,
  fun x hx hn=>(k.frame x (Nat.lt_of_lt_of_le hx h.size) (fun hb=>(h.own x hb).elim (fun h=>absurd hx (Nat.not_lt.2 h)) hn)).trans (h.frame x hx hn),
  fun x hx=>(k.own x hx).elim (fun h'=>.inl (Nat.le_trans h.size h')) (h.own x)⟩
end Go.Bx
namespace Go.Bx
set_option linter.unusedVariables false
set_option linter.unusedSimpArgs false
open Go Go.RowKit
def ArgsAt (E : Env) : (t : Ty)->t.den->List Value->Prop
 | .unit,_,vs=>vs = []
 | .pair a b,x,vs=>∃ v r,vs = v :: r /\ AtD E a x.1 v /\ ArgsAt E b x.2 r
 | _,_,_=>False
def OutAt (E : Env) (F : Fn) (r : F.rs.den) (v : Value) : Prop:=match F.multi with
 | false=>AtD E F.rs r v
 | true=>∃ vs,v = .tuple vs /\ ArgsAt E F.rs r vs.toList
def Con (P : Program) (f : FuncId) (F : Fn) : Prop :=
 ∀ (w : World) (I : Nat->Nat->Prop) (x : F.ps.den) (r : F.rs.den) (args : Array Value),Low w I->F.run x = some r->ArgsAt ⟨w,I⟩ F.ps x args.toList ->
  Calls P f args w fun e w'=>∃ v,e = .returned v /\ Below w.heap.size w w' /\ OutAt ⟨w',fun b m=>I b m \/ (w.heap.size <= b /\ b < w'.heap.size)⟩ F r v
def Named (P : Program) (f : FuncId) : Prop := ∃ fn, P.funcs[f]? = some fn /\ (fn.name == "runtime.NumGoroutine") = false /\ fn.body.isNone = false
def ExtOk (P : Program) (f : FuncId) (F : Fn) : Prop :=
 ∀ (w : World) (I : Nat->Nat->Prop) (x : F.ps.den) (r : F.rs.den) (args : Array Value),F.run x = some r->ArgsAt ⟨w,I⟩ F.ps x args.toList->∃ v,(callFunc f args).run P w = .ok (.value v) w /\ OutAt ⟨w,I⟩ F r v
def Callee (P : Program) (f : FuncId) (F : Fn) : Prop:=(Con P f F /\ Named P f) \/ ExtOk P f F
def mkG (w : World) (β : Nat->Option Nat) (σ : Nat->Value) (hp : Heap) (I0 : Nat->Nat->Prop) : GE :=
 ⟨w,β,σ,hp,w.heap.size,fun b=>∃ id blk,nthB hp id = some blk /\ β id = some b,I0⟩
def GE.at (G0 : GE) (w : World) (β : Nat->Option Nat) (σ : Nat->Value) (hp : Heap) : GE:=⟨w,β,σ,hp,G0.n0,G0.Bo,G0.I0⟩
def SOk (P : Program) (f : FuncId) (h : List V->Heap->Option Sh) : Prop :=
 ∀ (args : List V) (hp : Heap) (sh : Sh) (y : sh.Y),h args hp = some sh->sh.o = some y ->
  ∀ (w : World) (β : Nat->Option Nat) (σ : Nat->Value) (I0 : Nat->Nat->Prop) (vals : Array Value),Low w I0->HRel (mkG w β σ hp I0)->AtL (mkG w β σ hp I0) #[] args vals.toList ->
   Calls P f vals w fun e w'=>∃ v β' σ',e = .returned v /\ Tr (mkG w β σ hp I0) ((mkG w β σ hp I0).at w' β' σ' (sh.f y).2) /\ HRel ((mkG w β σ hp I0).at w' β' σ' (sh.f y).2) /\ AtV ((mkG w β σ hp I0).at w' β' σ' (sh.f y).2) #[] (sh.f y).1 v
def InvOk (P : Program) (t : Nat) (m : String) (f : FuncId) : Prop :=
 ∀ (w : World) (v : Value),(∀ (args : Array Value),(callMethod (.iface t v) m args).run P w = (callFunc f (#[v] ++ args)).run P w) /\ (nilAhead (P.types.size + Made.depth) t v m).run P w = .ok (some false) w
structure CtxOk (P : Program) (C : Ctx) : Prop where
 ty : ∀ i τ,look C.ty i = some τ->TyOk P τ i
 ptr : ∀ i e,look C.ptr i = some e->P.underlying i = some (.pointer e)
 mp : ∀ i k e,look C.mp i = some (k,e)->P.underlying i = some (.map k e)
 fn : ∀ f F,C.fn f = some F->Callee P f F
 sh : ∀ f h,C.sh f = some h->SOk P f h /\ Named P f
 inv : ∀ t m f,C.inv t m = some f->InvOk P t m f
structure Rel (G0 : GE) (S : St) (a : Act) (w : World) (β : Nat->Option Nat) (σ : Nat->Value) : Prop where
 tr : Tr G0 (G0.at w β σ S.hp)
 ok : HRel (G0.at w β σ S.hp)
 defers : a.defers = []
 size : a.tmps.size = S.fr.length
 fr : ∀ i v,a.tmps[i]? = some v->AtV (G0.at w β σ S.hp) a.tmps (nth S.fr i) v
section
variable {P : Program} {C : Ctx} {G0 : GE} {S : St} {a : Act} {w : World} {β : Nat->Option Nat} {σ : Nat->Value}
theorem nth_of_ge : ∀ {l : List V} {i : Nat},l.length <= i->nth l i = .any
 | [],_,_=>rfl
 | _ :: l,0,h=>by simp at h
 | _ :: l,i + 1,h=>nth_of_ge (l:=l) (by simpa using h)
theorem AtV.any {G : GE} {tm : Array Value} {x : Value} : AtV G tm .any x:=by simp [AtV]
theorem ofConst_at (G : GE) (tm : Array Value) (v : Value) : AtV G tm (ofConst v) v:=by
 unfold ofConst
 split
 ·split
  ·rename_i h; simp only [AtV]; exact AtD.ofFlat ⟨rfl,h⟩ rfl
  ·exact .any
 ·simp only [AtV]; exact AtD.ofFlat rfl rfl
 ·simp [AtV]
 ·simp [AtV]
 ·rename_i s
  split
  ·rename_i h
   simp only [AtV]; exact AtD.ofFlat ⟨s,rfl,rfl,Nat.le_of_ble_eq_true h⟩ rfl
  ·exact .any
 ·exact .any
theorem Rel.ev (h : Rel G0 S a w β σ) (x : Operand) : AtV (G0.at w β σ S.hp) a.tmps (ev S.fr x) (a.eval x):=by
 cases x with
 | tmp t =>
  simp only [Bx.ev,Act.eval]
  by_cases ht : t < a.tmps.size
  ·have hx : a.tmps[t]? = some a.tmps[t]:=Array.getElem?_eq_getElem ht
   have:=h.fr t _ hx
   rw [Array.getD_eq_getD_getElem?,hx]; exact this
  ·rw [nth_of_ge (by rw [<- h.size]; exact Nat.not_lt.1 ht)]; exact .any
 | const v=>exact ofConst_at _ _ v
 | func f=>simp only [Bx.ev,Act.eval,AtV]; exact ⟨#[],#[],rfl,by simp [AtL],by simp [AtL]⟩
 | global g=>simp only [Bx.ev,Act.eval,AtV]
def Yes (g : Option Gd) (tm : Array Value) : Prop:=∀ gd,g = some gd->tm[gd.d]? = some (.bool gd.want)
theorem AtV.sane {G : GE} {tm tm' : Array Value} {v : V} {x : Value} (h : AtV G tm v x) : AtV G tm' (Bx.sane v) x:=by
 cases v with
 | opt d w u=>exact .any
 | _=>simp only [Bx.sane,AtV] at h ⊢ <;> exact h
theorem AtV.saneT {C : Ctx} {ty : Nat} {G : GE} {tm tm' : Array Value} {v : V} {x : Value} (h : AtV G tm v x) : AtV G tm' (Bx.saneT C ty v) x:=by
 cases v with
 | snil =>
  simp only [Bx.saneT]
  split
  ·simp only [AtV] at h ⊢
   exact ⟨.inl ⟨rfl,by rw [h]⟩,none,0,h⟩
  ·exact h
 | _=>exact h.sane
theorem AtV.dd {G : GE} {tm : Array Value} {v : V} {x : Value} (h : AtV G tm v x) : AtV G tm (Bx.dd v) x:=by
 cases v with
 | full t l=>simp only [Bx.dd,AtV] at h ⊢; exact AtD.ofFlat h.1 rfl
 | _=>exact h
theorem un_at {G : GE} {tm : Array Value} {g : Option Gd} (hg : Yes g tm) {v : V} {x : Value} (h : AtV G tm v x) : AtV G tm (un g v) x:=by
 cases v with
 | opt d wt u =>
  cases g with
  | none=>exact .any
  | some gd =>
   simp only [un]
   split
   ·rename_i hd
    simp only [Bool.and_eq_true,beq_iff_eq] at hd
    have hd1 : gd.d = d:=Nat.eq_of_beq_eq_true hd.1
    have:=hg gd rfl
    rw [hd1,hd.2] at this
    simp only [AtV] at h
    exact (h.1 this).sane
   ·exact .any
 | _=>simpa [un] using h
theorem Rel.un (h : Rel G0 S a w β σ) {g : Option Gd} (hg : Yes g a.tmps) (x : Operand) : AtV (G0.at w β σ S.hp) a.tmps (un g (Bx.ev S.fr x)) (a.eval x):=un_at hg (h.ev x)
theorem Rel.ud (h : Rel G0 S a w β σ) {g : Option Gd} (hg : Yes g a.tmps) (x : Operand) : AtV (G0.at w β σ S.hp) a.tmps (Bx.dd (Bx.un g (Bx.ev S.fr x))) (a.eval x):=(h.un hg x).dd
theorem AtV.int {G : GE} {tm : Array Value} {k : IntKind} {n : Int} {x : Value} (h : AtV G tm (.data (.int k) n) x) : x = .int k n /\ inR k n = true:=by
 simp only [AtV] at h
 have:=(h.one rfl)
 simp [FlatD] at this
 exact this
theorem AtV.bool {G : GE} {tm : Array Value} {b : Bool} {x : Value} (h : AtV G tm (.data .bool b) x) : x = .bool b:=by
 simp only [AtV] at h
 have:=(h.one rfl)
 simpa [FlatD] using this
theorem AtV.mkInt {G : GE} {tm : Array Value} {k : IntKind} {n : Int} (h : inR k n = true) : AtV G tm (.data (.int k) n) (.int k n):=by
 simp only [AtV]; exact AtD.ofFlat ⟨rfl,h⟩ rfl
theorem AtV.mkBool {G : GE} {tm : Array Value} {b : Bool} : AtV G tm (.data .bool b) (.bool b):=by
 simp only [AtV]; exact AtD.ofFlat rfl rfl
theorem inR_iff {k : IntKind} {n : Int} : inR k n = true ↔ k.min <= n /\ n <= k.max:=by simp [inR]
theorem inR_wrap (k : IntKind) (n : Int) : inR k (k.wrap n) = true:=by
 rw [inR_iff]
 cases k <;> simp [IntKind.wrap,IntKind.min,IntKind.max,IntKind.bits,IntKind.signed] <;> (try split) <;> omega
theorem inR_tmod {k : IntKind} {x y : Int} (h : inR k x = true) : inR k (x.tmod y) = true:=by
 rw [inR_iff] at h ⊢
 have h1 : (x.tmod y).natAbs <= x.natAbs:=by rw [Int.natAbs_tmod]; exact Nat.mod_le _ _
 have h2 : 0 <= x->0 <= x.tmod y:=fun hx=>Int.tmod_nonneg _ hx
 have h3 : x <= 0->x.tmod y <= 0:=fun hx=>by
  have:=Int.tmod_nonneg y (a:=-x) (by omega)
  rw [Int.neg_tmod] at this; omega
 have h0 : k.min <= 0 /\ 0 <= k.max:=by cases k <;> decide
 rcases Int.le_total 0 x with hx | hx
 ·have:=h2 hx; constructor <;> omega
 ·have:=h3 hx; constructor <;> omega
theorem inR_fdiv {k : IntKind} {x : Int} (n : Nat) (h : inR k x = true) : inR k (x.fdiv (2 ^ n)) = true:=by
 rw [inR_iff] at h ⊢
 have hp : (0 : Int) < 2 ^ n:=Int.pow_pos (by omega)
 rw [Int.fdiv_eq_ediv_of_nonneg _ (by omega)]
 have h0 : k.min <= 0 /\ 0 <= k.max:=by cases k <;> decide
 have hp1 : (1 : Int) <= 2 ^ n:=by omega
 rcases Int.le_total 0 x with hx | hx
 ·have a1:=Int.ediv_nonneg hx (Int.le_of_lt hp)
  have a2:=Int.ediv_le_self (2 ^ n) hx
  omega
 ·have a1 : x / 2 ^ n <= 0:=Int.ediv_nonpos_of_nonpos_of_neg hx hp |> fun h=>h
  have a2 : x <= x / 2 ^ n:=by
   rw [Int.le_ediv_iff_mul_le hp]
   have:=Int.mul_nonneg (a:=-x) (b:=2 ^ n - 1) (by omega) (by omega)
   rw [Int.mul_sub,Int.neg_mul] at this
   omega
  omega
end
end Go.Bx
namespace Go.Bx
set_option linter.unusedVariables false
set_option linter.unusedSimpArgs false
open Go Go.RowKit
section
variable {P : Program} {C : Ctx}
def Gives (P : Program) (s : Sem Value) (w : World) (G : GE) (tm : Array Value) (v : V) : Prop:=∃ x,s.run P w = .ok x w /\ AtV G tm v x
theorem intBin_run {G : GE} {tm : Array Value} (w : World) (t : TypeId) (op : BinOp) (k : IntKind) (x y : Int) {c : Prop} {i : Decidable c} {v : V} (h : intBin op k x y = some (.val c i v)) (hc : c)
  (hx : inR k x = true) : Gives P (binOp op t (.int k x) (.int k y)) w G tm v:=by
 cases op <;> simp only [intBin,okR,ifR,Option.some.injEq,Out.val.injEq,reduceCtorEq] at h
 all_goals (obtain ⟨rfl,_,rfl⟩:=h)
 case add=>exact ⟨_,by simp [binOp,Op.intArith],.mkInt (inR_wrap _ _)⟩
 case sub=>exact ⟨_,by simp [binOp,Op.intArith],.mkInt (inR_wrap _ _)⟩
 case mul=>exact ⟨_,by simp [binOp,Op.intArith],.mkInt (inR_wrap _ _)⟩
 case quo=>exact ⟨_,by simp [binOp,Op.intDiv,hc],.mkInt (inR_wrap _ _)⟩
 case rem=>exact ⟨_,by simp [binOp,Op.intDiv,hc],.mkInt (inR_tmod hx)⟩
 case and=>exact ⟨_,by simp [binOp,Op.intBits]; rfl,.mkInt (inR_wrap _ _)⟩
 case or=>exact ⟨_,by simp [binOp,Op.intBits]; rfl,.mkInt (inR_wrap _ _)⟩
 case xor=>exact ⟨_,by simp [binOp,Op.intBits]; rfl,.mkInt (inR_wrap _ _)⟩
 case andNot=>exact ⟨_,by simp only [binOp,ne_eq,not_true_eq_false,if_false,Op.intBits]; rfl,.mkInt (inR_wrap _ _)⟩
 case eql=>exact ⟨_,by simp [binOp,Op.intCmp],.mkBool⟩
 case neq=>exact ⟨_,by simp [binOp,Op.intCmp],.mkBool⟩
 case lss=>exact ⟨_,by simp [binOp,Op.intCmp],.mkBool⟩
 case leq=>exact ⟨_,by simp [binOp,Op.intCmp],.mkBool⟩
 case gtr=>exact ⟨_,by simp [binOp,Op.intCmp],.mkBool⟩
 case geq=>exact ⟨_,by simp [binOp,Op.intCmp],.mkBool⟩
theorem run_eqGuard_int (w : World) (op : BinOp) (t : TypeId) (x y : Operand) (k k' : IntKind) (a b : Int) : (eqGuard op t x y (.int k a) (.int k' b)).run P w = .ok () w:=by
 unfold eqGuard; cases op <;> simp
theorem run_eqGuard_data {E : Env} (w : World) (op : BinOp) {τ : Ty} {t : TypeId} (ht : TyOk P τ t) (hcmp : τ.cmp = true) (x y : Operand) {p q : τ.den} {v u : Value} (hv : AtD E τ p v) (hu : AtD E τ q u) : (eqGuard op t x y v u).run P w = .ok () w:=by
 have nag : ∀ {v u : Value},(∀ cs,v ≠ .agg cs)->v ≠ .nilIface->(eqGuard op t x y v u).run P w = .ok () w:=by
  intro v u h1 h2
  unfold eqGuard
  cases op <;> simp
  all_goals (split <;> first | (exact absurd rfl h2) | (exact absurd rfl (h1 _)) | simp)
 cases τ with
 | int k=>have:=(hv.one rfl).1; simp at this; subst this; exact nag (by simp) (by simp)
 | bool=>have:=hv.one rfl; simp [FlatD] at this; subst this; exact nag (by simp) (by simp)
 | str=>obtain ⟨s,this,_⟩:=hv.one rfl; simp at this; subst this; exact nag (by simp) (by simp)
 | sl τ=>rcases hv.one rfl with ⟨_,this⟩ | ⟨a,cap,css,this,_⟩ <;> (simp at this; subst this; exact nag (by simp) (by simp))
 | opq=>exact (hv.one rfl).elim
 | arr n τ =>
  obtain ⟨xs,rfl,_⟩:=hv.agg rfl
  obtain ⟨ys,rfl,_⟩:=hu.agg rfl
  obtain ⟨e,_,_,_,hg⟩:=ht
  have hg:=hg (by simpa [Ty.cmp] using hcmp)
  unfold eqGuard; cases op <;> simp [hg]
 | unit =>
  obtain ⟨xs,rfl,_⟩:=hv.agg rfl
  obtain ⟨ys,rfl,_⟩:=hu.agg rfl
  have hg : P.eqGuardType P.depth t = false:=by
   obtain ⟨m,hm⟩ : ∃ m,P.depth = m + 1:=⟨P.depth - 1,by simp [Program.depth]⟩
   rw [hm]; simp [Program.eqGuardType,ht.1]
  unfold eqGuard; cases op <;> simp [hg]
 | pair c d =>
  obtain ⟨xs,rfl,_⟩:=hv.agg rfl
  obtain ⟨ys,rfl,_⟩:=hu.agg rfl
  obtain ⟨fs,_,_,_,_,hg⟩:=ht
  have hg:=hg (by simpa [Ty.cmp] using hcmp)
  unfold eqGuard; cases op <;> simp [hg]
theorem run_eq_of_equal (w : World) (t : TypeId) {E : Env} {τ : Ty} {p q : τ.den} {v u : Value} (hv : AtD E τ p v) (hu : AtD E τ q u) (hk : ∀ k,τ ≠ .int k) (hc : τ.cmp = true) {r : Bool} (h : (Op.equalIn 10000 t v u).run P w = .ok r w)
  (hs : τ = .str->∀ s s',v = .string s->u = .string s'->r = (s.toList == s'.toList)) :
  (binOp .eql t v u).run P w = .ok (.bool r) w /\ (binOp .neq t v u).run P w = .ok (.bool (!r)) w:=by
 cases τ with
 | int k=>exact absurd rfl (hk k)
 | bool =>
  have h1:=hv.one rfl; simp [FlatD] at h1; subst h1
  have h2:=hu.one rfl; simp [FlatD] at h2; subst h2
  constructor <;> simp [binOp,Op.equal,Op.maxDepth,h]
 | str =>
  obtain ⟨s,h1,_⟩:=hv.one rfl; simp at h1; subst h1
  obtain ⟨s',h2,_⟩:=hu.one rfl; simp at h2; subst h2
  have:=hs rfl s s' rfl rfl
  constructor <;> simp [binOp,Op.stringOp,this]
 | sl τ=>simp [Ty.cmp] at hc
 | opq=>simp [Ty.cmp] at hc
 | arr n τ =>
  obtain ⟨xs,rfl,_⟩:=hv.agg rfl
  obtain ⟨ys,rfl,_⟩:=hu.agg rfl
  constructor <;> simp [binOp,Op.equal,Op.maxDepth,h]
 | unit =>
  obtain ⟨xs,rfl,_⟩:=hv.agg rfl
  obtain ⟨ys,rfl,_⟩:=hu.agg rfl
  constructor <;> simp [binOp,Op.equal,Op.maxDepth,h]
 | pair c d =>
  obtain ⟨xs,rfl,_⟩:=hv.agg rfl
  obtain ⟨ys,rfl,_⟩:=hu.agg rfl
  constructor <;> simp [binOp,Op.equal,Op.maxDepth,h]
theorem u8_beq (a b : UInt8) : (((a.toNat : Nat) : Int) == ((b.toNat : Nat) : Int)) = (a == b):=by
 by_cases h : a = b
 ·subst h; simp
 ·have : ¬ ((a.toNat : Nat) : Int) = ((b.toNat : Nat) : Int):=fun e=>h (UInt8.toNat_inj.1 (by omega))
  rw [beq_eq_false_iff_ne.2 this,beq_eq_false_iff_ne.2 h]
theorem toList_data (s : ByteArray) : s.toList = s.data.toList:=ByteArray.toList_eq s
theorem ltB_bytes : ∀ (x y : List UInt8),Op.bytesLess x y = ltB (x.map fun b=>(b.toNat : Int)) (y.map fun b=>(b.toNat : Int))
 | _,[]=>by simp [Op.bytesLess,ltB]
 | [],_ :: _=>by simp [Op.bytesLess,ltB]
 | a :: x,b :: y=>by
  have h1 : (decide (a < b)) = decide (((a.toNat : Nat) : Int) < ((b.toNat : Nat) : Int)):=by
   apply decide_eq_decide.2; rw [UInt8.lt_iff_toNat_lt]; omega
  simp only [Op.bytesLess,List.map_cons,ltB,ltB_bytes x y,u8_beq,h1]
theorem strBin_run {G : GE} {tm : Array Value} (w : World) (t : TypeId) (op : BinOp) {a b : List Int} {x y : Value} (hx : AtV G tm (.data .str a) x) (hy : AtV G tm (.data .str b) y) {c : Prop} {i : Decidable c} {v : V}
  (h : strBin op a b = some (.val c i v)) (hc : c) : Gives P (binOp op t x y) w G tm v:=by
 simp only [AtV] at hx hy
 obtain ⟨s,e1,e2,e3⟩:=hx.one rfl
 obtain ⟨s',e4,e5,e6⟩:=hy.one rfl
 simp at e1 e4
 subst e1; subst e4; subst e2; subst e5
 have heq : (s.toList == s'.toList) = beqD .str (bytesOf s) (bytesOf s'):=by
  rw [bytesOf_inj]; rfl
 have hlt : Op.bytesLess s.toList s'.toList = ltB (bytesOf s) (bytesOf s'):=by rw [ltB_bytes,toList_data,toList_data]; rfl
 cases op <;> simp only [strBin,okR,ifR,Option.some.injEq,Out.val.injEq,reduceCtorEq] at h
 all_goals (obtain ⟨rfl,_,rfl⟩:=h)
 case add =>
  have hl : (bytesOf s).length = s.size:=by simp [bytesOf]
  have hl' : (bytesOf s').length = s'.size:=by simp [bytesOf]
  rw [hl,hl'] at hc
  have hc:=Nat.le_of_ble_eq_true hc
  have hnot : ¬ ((s.size + s'.size : Nat) : Int) > IntKind.i64.max:=by
   simp only [IntKind.max,IntKind.signed,IntKind.bits]; simp; omega
  refine ⟨.string (s ++ s'),by simp only [binOp,Op.stringOp,if_neg hnot,Sem.run_pure],?_⟩
  simp only [AtV]
  refine AtD.ofFlat ⟨_,rfl,?_,?_⟩ rfl
  ·simp [bytesOf]
  ·simp only [ByteArray.size_append,maxLen]; omega
 case eql=>exact ⟨_,by simp only [binOp,Op.stringOp,heq,Sem.run_pure],.mkBool⟩
 case neq=>exact ⟨_,by simp only [binOp,Op.stringOp,heq,Sem.run_pure],.mkBool⟩
 case lss=>exact ⟨_,by simp only [binOp,Op.stringOp,hlt,Sem.run_pure],.mkBool⟩
 case leq=>exact ⟨_,by simp only [binOp,Op.stringOp,hlt,heq,Sem.run_pure],.mkBool⟩
 case gtr=>exact ⟨_,by simp only [binOp,Op.stringOp,hlt,heq,Sem.run_pure],.mkBool⟩
 case geq=>exact ⟨_,by simp only [binOp,Op.stringOp,hlt,Sem.run_pure],.mkBool⟩
theorem RefAt.ptr {G : GE} {id ver : Nat} {p : List Step} {v : Value} (h : RefAt G id ver p v) : ∃ a,v = .pointer (some a):=by
 unfold RefAt at h
 split at h
 ·obtain ⟨b,o,u,_,_,h⟩:=h; exact ⟨_,h⟩
 ·exact h.2.1
 ·exact h.elim
theorem nilBin_run {G : GE} {tm : Array Value} (w : World) (op : BinOp) (xt e : TypeId) (xo yo : Operand) (hp : P.underlying xt = some (.pointer e)) {x y : Value} {b : Bool} {c : Prop} {i : Decidable c} {v : V}
  (hxy : (x = .pointer none /\ y = .pointer none /\ b = true) \/ (b = false /\ ((∃ a,x = .pointer (some a)) /\ y = .pointer none \/ x = .pointer none /\ ∃ a,y = .pointer (some a)))) (h : nilBin op b = some (.val c i v)) :
  Gives P (do eqGuard op xt xo yo x y; binOp op xt x y) w G tm v:=by
 have hg : (eqGuard op xt xo yo x y).run P w = .ok () w:=by
  unfold eqGuard
  rcases hxy with ⟨rfl,rfl,_⟩ | ⟨_,⟨⟨a,rfl⟩,rfl⟩ | ⟨rfl,⟨a,rfl⟩⟩⟩ <;> cases op <;> simp
 have hd : ∀ d,(Op.equalIn (d + 1) xt x y).run P w = .ok b w:=fun d=>by
  rcases hxy with ⟨rfl,rfl,rfl⟩ | ⟨rfl,⟨⟨a,rfl⟩,rfl⟩ | ⟨rfl,⟨a,rfl⟩⟩⟩ <;> simp [Op.equalIn,run_underlying hp]
 have he : (Op.equal xt x y).run P w = .ok b w:=hd 9999
 have hx : (∃ a,x = .pointer a) /\ ∃ a,y = .pointer a:=by
  rcases hxy with ⟨rfl,rfl,_⟩ | ⟨_,⟨⟨a,rfl⟩,rfl⟩ | ⟨rfl,⟨a,rfl⟩⟩⟩ <;> exact ⟨⟨_,rfl⟩,⟨_,rfl⟩⟩
 obtain ⟨⟨p,rfl⟩,⟨q,rfl⟩⟩:=hx
 unfold nilBin at h
 split at h
 ·simp only [okR,Option.some.injEq,Out.val.injEq] at h
  obtain ⟨_,_,rfl⟩:=h
  exact ⟨_,by simp only [Sem.run_bind,hg,Result.andThen_ok,binOp,he,Sem.run_pure],.mkBool⟩
 ·simp only [okR,Option.some.injEq,Out.val.injEq] at h
  obtain ⟨_,_,rfl⟩:=h
  exact ⟨_,by simp only [Sem.run_bind,hg,Result.andThen_ok,binOp,he,Sem.run_pure],.mkBool⟩
 ·cases h
theorem ptr_some (hC : CtxOk P C) {xt : TypeId} (h : (look C.ptr xt).isSome = true) : ∃ e,P.underlying xt = some (.pointer e):=by
 cases h' : look C.ptr xt with
 | none=>rw [h'] at h; cases h
 | some e=>exact ⟨e,hC.ptr _ _ h'⟩
theorem binV_run {G : GE} {tm : Array Value} (hC : CtxOk P C) (w : World) (op : BinOp) (xt : TypeId) (xo yo : Operand) {vx vy : V} {x y : Value} (hx : AtV G tm vx x) (hy : AtV G tm vy y) {c : Prop} {i : Decidable c} {v : V}
  (h : binV C op xt vx vy = some (.val c i v)) (hc : c) : Gives P (do eqGuard op xt xo yo x y; binOp op xt x y) w G tm v:=by
 unfold binV at h
 split at h
 ·rename_i k p k' q
  obtain ⟨rfl,rx⟩:=hx.int
  obtain ⟨rfl,ry⟩:=hy.int
  split at h
  ·simp only [ifR,Option.some.injEq,Out.val.injEq] at h
   obtain ⟨rfl,_,rfl⟩:=h
   refine ⟨.int k (shlI k p q),?_,.mkInt (inR_wrap _ _)⟩
   simp only [Sem.run_bind,run_eqGuard_int,Result.andThen_ok]
   simp [binOp,Op.shift,Int.not_lt.2 hc,shlI]
  ·simp only [ifR,Option.some.injEq,Out.val.injEq] at h
   obtain ⟨rfl,_,rfl⟩:=h
   refine ⟨.int k (shrI k p q),?_,.mkInt (inR_fdiv _ rx)⟩
   simp only [Sem.run_bind,run_eqGuard_int,Result.andThen_ok]
   simp [binOp,Op.shift,Int.not_lt.2 hc,shrI]
  ·split at h
   ·rename_i hk
    subst hk
    obtain ⟨z,hz,haz⟩:=intBin_run (P:=P) (G:=G) (tm:=tm) w xt op k p q h hc rx
    exact ⟨z,by simp only [Sem.run_bind,run_eqGuard_int,Result.andThen_ok,hz],haz⟩
   ·cases h
 ·rename_i p q
  obtain ⟨z,hz,haz⟩:=strBin_run (P:=P) w xt op hx hy h hc
  have hgd : (eqGuard op xt xo yo x y).run P w = .ok () w:=by
   simp only [AtV] at hx hy
   obtain ⟨s,e1,_⟩:=hx.one rfl
   obtain ⟨s',e4,_⟩:=hy.one rfl
   simp at e1 e4
   subst e1; subst e4
   unfold eqGuard; cases op <;> simp
  exact ⟨z,by simp only [Sem.run_bind,hgd,Result.andThen_ok,hz],haz⟩
 ·rename_i t p t' q hne hne2
  split at h
  ·cases h
  ·rename_i q' hq
   obtain ⟨rfl,rfl⟩:=castD_some hq
   split at h
   ·rename_i hl
    obtain ⟨hl,hcmp,hdep⟩:=hl
    have htk:=hC.ty _ _ hl
    have hdep' : t'.dep <= 10000:=Nat.le_of_ble_eq_true hdep
    simp only [AtV] at hx hy
    have hk : ∀ k,t' ≠ .int k:=fun k e=>by subst e; exact hne k p k q' rfl HEq.rfl rfl HEq.rfl
    have he:=eq_data (P:=P) w t' xt 10000 p q' x y htk hcmp hdep' hx hy
    have hg:=fun op=>run_eqGuard_data (P:=P) w op htk hcmp xo yo hx hy
    have hb:=run_eq_of_equal (P:=P) w xt hx hy hk hcmp he (fun e s s' e1 e2=>by
     subst e; subst e1; subst e2
     obtain ⟨s1,g1,g2,_⟩:=hx.one rfl
     obtain ⟨s2,g3,g4,_⟩:=hy.one rfl
     simp at g1 g3; subst g1; subst g3
     rw [bytesOf_inj]; subst g2; subst g4; rfl)
    split at h
    ·simp only [okR,Option.some.injEq,Out.val.injEq] at h
     obtain ⟨_,_,rfl⟩:=h
     exact ⟨_,by simp only [Sem.run_bind,hg,Result.andThen_ok,hb.1],.mkBool⟩
    ·simp only [okR,Option.some.injEq,Out.val.injEq] at h
     obtain ⟨_,_,rfl⟩:=h
     exact ⟨_,by simp only [Sem.run_bind,hg,Result.andThen_ok,hb.2],.mkBool⟩
    ·cases h
   ·cases h
 ·split at h
  ·rename_i hs
   obtain ⟨e,he⟩:=ptr_some hC hs
   simp only [AtV] at hx hy
   exact nilBin_run w op xt e xo yo he (.inl ⟨hx,hy,rfl⟩) h
  ·cases h
 ·split at h
  ·rename_i hs
   obtain ⟨e,he⟩:=ptr_some hC hs
   simp only [AtV] at hx hy
   exact nilBin_run w op xt e xo yo he (.inr ⟨rfl,.inl ⟨hx.ptr,hy⟩⟩) h
  ·cases h
 ·split at h
  ·rename_i hs
   obtain ⟨e,he⟩:=ptr_some hC hs
   simp only [AtV] at hx hy
   exact nilBin_run w op xt e xo yo he (.inr ⟨rfl,.inr ⟨hx,hy.ptr⟩⟩) h
  ·cases h
 ·cases h
theorem offT_sub : ∀ {t : Ty} {p : List Step} {o : Nat} {u : Ty},offT t p = some (o,u)->subT t p = some u
 | t,[],o,u,h=>by cases t <;> simp [offT] at h <;> simp [subT,h]
 | .arr n t,.idx i :: p,o,u,h=>by
  simp only [offT] at h
  split at h
  ·cases h2 : offT t p with
   | none=>simp [h2] at h
   | some q=>simp [h2] at h; obtain ⟨_,rfl⟩:=h; simpa [subT] using offT_sub h2
  ·cases h
 | .pair a _,.fld 0 :: p,o,u,h=>by simp only [offT] at h; simpa [subT] using offT_sub h
 | .pair a b,.fld (j + 1) :: p,o,u,h=>by
  simp only [offT] at h
  cases h2 : offT b (.fld j :: p) with
  | none=>simp [h2] at h
  | some q=>simp [h2] at h; obtain ⟨_,rfl⟩:=h; simpa [subT] using offT_sub h2
 | .int _,_ :: _,_,_,h=>by simp [offT] at h
 | .bool,_ :: _,_,_,h=>by simp [offT] at h
 | .str,_ :: _,_,_,h=>by simp [offT] at h
 | .sl _,_ :: _,_,_,h=>by simp [offT] at h
 | .unit,_ :: _,_,_,h=>by simp [offT] at h
 | .opq,_ :: _,_,_,h=>by simp [offT] at h
 | .arr _ _,.fld _ :: _,_,_,h=>by simp [offT] at h
 | .pair _ _,.idx _ :: _,_,_,h=>by simp [offT] at h
theorem offT_snoc (s : Step) : ∀ {t : Ty} {p : List Step} {o : Nat} {u : Ty} {o2 : Nat} {u2 : Ty},offT t p = some (o,u)->offT u [s] = some (o2,u2)->offT t (p ++ [s]) = some (o + o2,u2)
 | t,[],o,u,o2,u2,h,h'=>by
  have : o = 0 /\ u = t:=by cases t <;> simp [offT] at h <;> exact ⟨h.1.symm,h.2.symm⟩
  obtain ⟨rfl,rfl⟩:=this
  simpa using h'
 | .arr n t,.idx i :: p,o,u,o2,u2,h,h'=>by
  simp only [offT] at h
  split at h
  ·rename_i hi
   cases h2 : offT t p with
   | none=>simp [h2] at h
   | some q =>
    simp [h2] at h
    obtain ⟨rfl,rfl⟩:=h
    have:=offT_snoc s h2 h'
    simp only [List.cons_append,offT]
    rw [if_pos hi,this]
    simp only [Nat.add_assoc]
  ·cases h
 | .pair a _,.fld 0 :: p,o,u,o2,u2,h,h'=>by simp only [offT] at h; simpa only [List.cons_append,offT] using offT_snoc s h h'
 | .pair a b,.fld (j + 1) :: p,o,u,o2,u2,h,h'=>by
  simp only [offT] at h
  cases h2 : offT b (.fld j :: p) with
  | none=>simp [h2] at h
  | some q =>
   simp [h2] at h
   obtain ⟨rfl,rfl⟩:=h
   have:=offT_snoc s h2 h'
   simp only [List.cons_append,offT] at this ⊢
   rw [this]
   simp only [Nat.add_assoc]
 | .int _,_ :: _,_,_,_,_,h,_=>by simp [offT] at h
 | .bool,_ :: _,_,_,_,_,h,_=>by simp [offT] at h
 | .str,_ :: _,_,_,_,_,h,_=>by simp [offT] at h
 | .sl _,_ :: _,_,_,_,_,h,_=>by simp [offT] at h
 | .unit,_ :: _,_,_,_,_,h,_=>by simp [offT] at h
 | .opq,_ :: _,_,_,_,_,h,_=>by simp [offT] at h
 | .arr _ _,.fld _ :: _,_,_,_,_,h,_=>by simp [offT] at h
 | .pair _ _,.idx _ :: _,_,_,_,_,h,_=>by simp [offT] at h
theorem fld_off : ∀ {τ : Ty} {j : Nat} {u : Ty},subT τ [.fld j] = some u->∃ o,offT τ [.fld j] = some (o,u)
 | .pair a b,0,u,h=>by simp [subT] at h; subst h; exact ⟨0,by simp [offT]⟩
 | .pair a b,j + 1,u,h=>by
  simp only [subT] at h
  obtain ⟨o,ho⟩:=fld_off h
  exact ⟨a.size + o,by simp [offT,ho]⟩
 | .int _,_,_,h=>by simp [subT] at h
 | .bool,_,_,h=>by simp [subT] at h
 | .str,_,_,h=>by simp [subT] at h
 | .sl _,_,_,h=>by simp [subT] at h
 | .unit,_,_,h=>by simp [subT] at h
 | .opq,_,_,h=>by simp [subT] at h
 | .arr _ _,_,_,h=>by simp [subT] at h
theorem fields_get : ∀ {τ : Ty} {fs : List Field} {off j o : Nat} {u : Ty},FieldsOk P τ fs off->offT τ [.fld j] = some (o,u)->∃ f,fs[j]? = some f /\ f.offset = off + o /\ TyOk P u f.type /\ u.size ≠ 0
 | .pair a b,fs,off,0,o,u,hf,h=>by
  obtain ⟨f,r,rfl,h1,h2,h3,h4,h5⟩:=hf
  simp only [offT] at h
  have : o = 0 /\ u = a:=by cases a <;> simp at h <;> exact ⟨h.1.symm,h.2.symm⟩
  obtain ⟨rfl,rfl⟩:=this
  exact ⟨f,rfl,by omega,h4,h2⟩
 | .pair a b,fs,off,j + 1,o,u,hf,h=>by
  obtain ⟨f,r,rfl,h1,h2,h3,h4,h5⟩:=hf
  simp only [offT] at h
  cases h6 : offT b [.fld j] with
  | none=>simp [h6] at h
  | some q =>
   simp [h6] at h
   obtain ⟨rfl,rfl⟩:=h
   obtain ⟨f',g1,g2,g3,g4⟩:=fields_get h5 h6
   exact ⟨f',by simpa using g1,by omega,g3,g4⟩
 | .int _,_,_,_,_,_,_,h=>by simp [offT] at h
 | .bool,_,_,_,_,_,_,h=>by simp [offT] at h
 | .str,_,_,_,_,_,_,h=>by simp [offT] at h
 | .sl _,_,_,_,_,_,_,h=>by simp [offT] at h
 | .unit,_,_,_,_,_,_,h=>by simp [offT] at h
 | .opq,_,_,_,_,_,_,h=>by simp [offT] at h
 | .arr _ _,_,_,_,_,_,_,h=>by simp [offT] at h
theorem TyOk.fields {τ : Ty} {t : TypeId} {j o : Nat} {u : Ty} (h : TyOk P τ t) (ho : offT τ [.fld j] = some (o,u)) :
  ∃ fs f,P.underlying t = some (.struct fs) /\ fs[j]? = some f /\ f.offset = o /\ TyOk P u f.type /\ u.size ≠ 0:=by
 cases τ with
 | pair a b =>
  obtain ⟨fs,h1,h2,_⟩:=h
  have hf : FieldsOk P (.pair a b) fs.toList 0:=h2
  obtain ⟨f,g1,g2,g3,g4⟩:=fields_get hf ho
  exact ⟨fs,f,h1,by simpa using g1,by omega,g3,g4⟩
 | _=>simp [offT] at ho
theorem proj_flat {E : Env} : ∀ {τ : Ty} {x : τ.den} {j : Nat} {u : Ty} {z : u.den} {ds : List Value},proj τ x j = .data u z->FlatD E τ x ds ->
  ∃ o cs,offT τ [.fld j] = some (o,u) /\ FlatD E u z cs /\ ∀ k v,cs[k]? = some v->ds[o + k]? = some v
 | .pair a b,x,0,u,z,ds,h,hx=>by
  obtain ⟨c1,c2,rfl,h1,h2⟩:=hx
  simp only [proj,V.data.injEq] at h
  obtain ⟨rfl,h⟩:=h
  have h:=eq_of_heq h
  subst h
  refine ⟨0,c1,by simp [offT],h1,fun k v hv=>?_⟩
  have hk : k < c1.length:=by
   rcases Nat.lt_or_ge k c1.length with h | h
   ·exact h
   ·rw [List.getElem?_eq_none h] at hv; cases hv
  rw [Nat.zero_add,List.getElem?_append_left hk]; exact hv
 | .pair a b,x,j + 1,u,z,ds,h,hx=>by
  obtain ⟨c1,c2,rfl,h1,h2⟩:=hx
  simp only [proj] at h
  obtain ⟨o,cs,g1,g2,g3⟩:=proj_flat h h2
  refine ⟨a.size + o,cs,by simp [offT,g1],g2,fun k v hv=>?_⟩
  have hl:=FlatD.length _ _ _ h1
  rw [List.getElem?_append_right (by omega),show a.size + o + k - c1.length = o + k by omega]
  exact g3 k v hv
 | .int _,_,_,_,_,_,h,_=>by simp [proj] at h
 | .bool,_,_,_,_,_,h,_=>by simp [proj] at h
 | .str,_,_,_,_,_,h,_=>by simp [proj] at h
 | .sl _,_,_,_,_,_,h,_=>by simp [proj] at h
 | .unit,_,_,_,_,_,h,_=>by simp [proj] at h
 | .opq,_,_,_,_,_,h,_=>by simp [proj] at h
 | .arr _ _,_,_,_,_,_,h,_=>by simp [proj] at h
theorem cell_arr {w : World} {b : Nat} {arr : Array Value} {ty : TypeId} {fr : Nat × Nat} (h : w.heap[b]? = some (.cells arr ty fr)) (j : Nat) : w.cell? ⟨b,j,none⟩ = arr.toList[j]?:=by
 simp [World.cell?,h]
end
end Go.Bx
namespace Go.Bx
set_option linter.unusedVariables false
set_option linter.unusedSimpArgs false
open Go Go.RowKit
section
variable {P : Program} {C : Ctx} {G : GE}
theorem FlatV.length {t : Ty} {v : V} {cs : List Value} (h : FlatV G t v cs) : cs.length = t.size:=by
 obtain ⟨x,rfl,h1,_⟩:=h
 rw [Array.length_toList]; exact h1.size
theorem FlatV.ofAtD {t : Ty} {x : t.den} {v : Value} (h : AtD G.env t x v) : FlatV G t (.data t x) v.cells.toList:=by
 obtain ⟨h1,h2,h3⟩:=h.isAgg
 exact ⟨v,rfl,⟨fun _=>rfl,h1,h2,h3,(fun t' y e=>by cases e; rfl),(fun _ _ e=>by cases e)⟩,by simpa only [AtV] using h⟩
theorem value_of_cells (t : Ty) (cs : List Value) (hl : cs.length = t.size) (ho : t.isAgg = false->∀ v ∈ cs,oneCell v) : ∃ x : Value,x.cells.toList = cs /\ (t.isAgg = true->x = .agg cs.toArray) /\ (t.isAgg = false->cs = [x]):=by
 cases ht : t.isAgg with
 | true=>exact ⟨.agg cs.toArray,by simp [Value.cells],(fun _=>rfl),fun h=>by cases h⟩
 | false =>
  have hs : t.size = 1:=by cases t <;> simp [Ty.isAgg] at ht <;> rfl
  obtain ⟨c,rfl⟩:=List.length_eq_one_iff.1 (hl.trans hs)
  have:=ho ht c (by simp)
  exact ⟨c,by rw [this.1],(fun h=>by cases h),fun _=>rfl⟩
theorem FlatV.ofFlatD {t : Ty} {x : t.den} {cs : List Value} (h : FlatD G.env t x cs) : FlatV G t (.data t x) cs:=by
 obtain ⟨v,h1,h2,h3⟩:=value_of_cells t cs (FlatD.length _ _ _ h) fun _=>FlatD.cell _ _ _ h
 have hv : AtD G.env t x v:=by
  cases ht : t.isAgg with
  | true=>rw [h2 ht]; exact .ofAgg (by simpa using h) ht
  | false=>refine .ofFlat ?_ ht; rw [<- h3 ht]; exact h
 rw [<- h1]; exact .ofAtD hv
theorem FlatV.flatD {t t' : Ty} {x : t'.den} {cs : List Value} (h : FlatV G t (.data t' x) cs) : ∃ e : t' = t,FlatD G.env t (e ▸ x) cs:=by
 obtain ⟨v,rfl,h1,h2⟩:=h
 have e:=h1.data _ _ rfl
 subst e
 simp only [AtV] at h2
 exact ⟨rfl,h2.cells⟩
theorem FlatV.data' {t : Ty} {x : t.den} {cs : List Value} (h : FlatV G t (.data t x) cs) : FlatD G.env t x cs:=by
 obtain ⟨_,h⟩:=h.flatD; exact h
theorem FlatL.length : ∀ {t : Ty} {l : List V} {cs : List Value},FlatL G t l cs->cs.length = t.size
 | t,[],cs,h=>by
  simp only [FlatL] at h
  obtain ⟨h1,h2,rfl⟩:=h
  cases t with
  | arr n t=>cases n with
   | zero=>simp [Ty.size]
   | succ n=>simp [uncons] at h1
  | unit=>rfl
  | pair a b=>simp [uncons] at h1
  | _=>simp [Ty.isAgg] at h2
 | t,v :: l,cs,h=>by
  simp only [FlatL] at h
  obtain ⟨a,r,x,cs',h1,rfl,h2,h3,h4⟩:=h
  have ih:=FlatL.length h4
  rw [List.length_append,ih,Array.length_toList,h2.size]
  cases t with
  | pair p q=>simp [uncons] at h1; obtain ⟨rfl,rfl⟩:=h1; rfl
  | arr n t=>cases n with
   | zero=>simp [uncons] at h1
   | succ n =>
    simp [uncons] at h1
    obtain ⟨rfl,rfl⟩:=h1
    simp only [Ty.size,Nat.add_mul]; omega
  | _=>simp [uncons] at h1
theorem FlatL.isAgg {t : Ty} {l : List V} {cs : List Value} (h : FlatL G t l cs) : t.isAgg = true:=by
 cases l with
 | nil=>simp only [FlatL] at h; exact h.2.1
 | cons v l =>
  simp only [FlatL] at h
  obtain ⟨a,r,_,_,h1,_⟩:=h
  cases t <;> simp [uncons] at h1 <;> rfl
theorem FlatV.ofFlatL {t : Ty} {l : List V} {cs : List Value} (h : FlatL G t l cs) : FlatV G t (.agg t l) cs :=
 ⟨.agg cs.toArray,by simp [Value.cells],⟨fun _=>rfl,fun _=>⟨_,rfl⟩,(fun e=>by rw [h.isAgg] at e; cases e),by simp [Value.cells,h.length],(fun _ _ e=>by cases e),(fun t' l' e=>by cases e; rfl)⟩,by simp only [AtV]; exact ⟨_,rfl,by simpa using h⟩⟩
theorem FlatV.flatL {t t' : Ty} {l : List V} {cs : List Value} (h : FlatV G t (.agg t' l) cs) : t' = t /\ FlatL G t l cs:=by
 obtain ⟨x,rfl,h1,h2⟩:=h
 have e:=h1.part _ _ rfl
 subst e
 simp only [AtV] at h2
 obtain ⟨c,rfl,h3⟩:=h2
 exact ⟨rfl,by simpa [Value.cells] using h3⟩
theorem AtV.ofFlatV {t : Ty} {v : V} {cs : List Value} (h : FlatV G t v cs) : ∃ x,cs = x.cells.toList /\ AtV G #[] v x /\ (t.isAgg = true->x = .agg cs.toArray) /\ (t.isAgg = false->cs = [x]):=by
 obtain ⟨x,rfl,h1,h2⟩:=h
 refine ⟨x,rfl,h2,fun ht=>?_,fun ht=>?_⟩
 ·obtain ⟨c,rfl⟩:=h1.agg ht; simp [Value.cells]
 ·have:=(h1.one ht).1; rw [this]
theorem getArgs_flat : ∀ {t : Ty} {l : List V} {x : t.den} {cs : List Value},getArgs t l = some x->FlatL G t l cs->FlatD G.env t x cs
 | .unit,[],_,cs,_,h=>by simp only [FlatL] at h; exact h.2.2
 | .unit,_ :: _,_,_,h,_=>by simp [getArgs] at h
 | .pair a b,[],_,_,h,_=>by simp [getArgs] at h
 | .pair a b,v :: l,x,cs,h,hl=>by
  cases v <;> simp only [getArgs,reduceCtorEq] at h
  rename_i t z
  split at h
  ·cases h
  ·rename_i z' hz
   split at h
   ·cases h
   ·rename_i r hr
    obtain ⟨rfl,rfl⟩:=castD_some hz
    cases h
    simp only [FlatL] at hl
    obtain ⟨a',r',y,cs',h1,rfl,h2,h3,h4⟩:=hl
    simp only [uncons,Option.some.injEq,Prod.mk.injEq] at h1
    obtain ⟨rfl,rfl⟩:=h1
    simp only [AtV] at h3
    exact ⟨_,_,rfl,h3.cells,getArgs_flat hr h4⟩
 | .int _,_,_,_,h,_=>by simp [getArgs] at h
 | .bool,_,_,_,h,_=>by simp [getArgs] at h
 | .str,_,_,_,h,_=>by simp [getArgs] at h
 | .sl _,_,_,_,h,_=>by simp [getArgs] at h
 | .arr _ _,_,_,_,h,_=>by simp [getArgs] at h
 | .opq,_,_,_,h,_=>by simp [getArgs] at h
theorem mkAgg_flat {t : Ty} {l : List V} {cs : List Value} (h : FlatL G t l cs) : FlatV G t (mkAgg t l) cs:=by
 unfold mkAgg
 split
 ·rename_i x hx; exact .ofFlatD (getArgs_flat hx h)
 ·exact .ofFlatL h
theorem mkAgg_at {t : Ty} {l : List V} {x : Value} {tm : Array Value} (h : AtV G tm (.agg t l) x) : AtV G tm (mkAgg t l) x:=by
 unfold mkAgg
 split
 ·rename_i y hy
  simp only [AtV] at h ⊢
  obtain ⟨cs,rfl,h⟩:=h
  exact .ofAgg (getArgs_flat hy h) h.isAgg
 ·exact h
theorem spread_flat : ∀ {t : Ty} {x : t.den} {cs : List Value},t.chain = true->FlatD G.env t x cs->FlatL G t (spread t x) cs
 | .unit,_,cs,_,h=>by simp only [spread,FlatL]; exact ⟨rfl,rfl,h⟩
 | .pair a b,x,cs,hc,h=>by
  obtain ⟨c1,c2,rfl,h1,h2⟩:=h
  simp only [spread,FlatL]
  obtain ⟨v,e1,e2,e3⟩:=FlatV.ofFlatD (G:=G) h1
  exact ⟨a,b,v,c2,rfl,by rw [e1],e2,e3,spread_flat (by simpa [Ty.chain] using hc) h2⟩
 | .int _,_,_,h,_=>by simp [Ty.chain] at h
 | .bool,_,_,h,_=>by simp [Ty.chain] at h
 | .str,_,_,h,_=>by simp [Ty.chain] at h
 | .sl _,_,_,h,_=>by simp [Ty.chain] at h
 | .arr _ _,_,_,h,_=>by simp [Ty.chain] at h
 | .opq,_,_,h,_=>by simp [Ty.chain] at h
theorem FlatL.part : ∀ {t : Ty} {l : List V} {cs : List Value} {j : Nat} {p : List Step} {o : Nat} {u : Ty},FlatL G t l cs->offT t (.fld j :: p) = some (o,u) ->
  ∃ a o1 o2 cs1,offT a p = some (o2,u) /\ o = o1 + o2 /\ j < l.length /\ FlatV G a (nth l j) cs1 /\ (∀ i x,cs1[i]? = some x->cs[o1 + i]? = some x) /\ o1 + cs1.length <= cs.length /\
   ∀ v' o3 ds,FlatV G a v' (lay cs1 o3 ds)->o3 + ds.length <= cs1.length->FlatL G t (l.set j v') (lay cs (o1 + o3) ds)
 | t,[],cs,j,p,o,u,h,ho=>by
  simp only [FlatL] at h
  cases t <;> simp [offT,uncons] at h ho
 | t,v :: l,cs,0,p,o,u,h,ho=>by
  simp only [FlatL] at h
  obtain ⟨a,r,x,cs',h1,rfl,h2,h3,h4⟩:=h
  cases t with
  | pair a' b' =>
   simp [uncons] at h1; obtain ⟨rfl,rfl⟩:=h1
   simp only [offT] at ho
   refine ⟨a',0,o,x.cells.toList,ho,by omega,by simp,⟨x,rfl,h2,h3⟩,fun i y hi=>?_,by simp,fun v' o3 ds hv hl=>?_⟩
   ·have : i < x.cells.toList.length:=by
     rcases Nat.lt_or_ge i x.cells.toList.length with h | h
     ·exact h
     ·rw [List.getElem?_eq_none h] at hi; cases hi
    rw [Nat.zero_add,List.getElem?_append_left this]; exact hi
   ·obtain ⟨y,e1,e2,e3⟩:=hv
    simp only [List.set_cons_zero,FlatL]
    refine ⟨a',b',y,cs',rfl,?_,e2,e3,h4⟩
    rw [Nat.zero_add,lay_left _ _ _ _ hl,e1]
  | _=>simp [offT] at ho
 | t,v :: l,cs,j + 1,p,o,u,h,ho=>by
  simp only [FlatL] at h
  obtain ⟨a,r,x,cs',h1,rfl,h2,h3,h4⟩:=h
  cases t with
  | pair a' b' =>
   simp [uncons] at h1; obtain ⟨rfl,rfl⟩:=h1
   simp only [offT] at ho
   cases h6 : offT b' (.fld j :: p) with
   | none=>simp [h6] at ho
   | some q =>
    simp [h6] at ho
    obtain ⟨rfl,rfl⟩:=ho
    obtain ⟨a2,o1,o2,cs1,g1,g2,g3,g4,g5,g6,g7⟩:=FlatL.part h4 h6
    have hs : x.cells.toList.length = a'.size:=by rw [Array.length_toList,h2.size]
    refine ⟨a2,a'.size + o1,o2,cs1,g1,by omega,by simpa using g3,by simpa [nth] using g4,fun i y hi=>?_,by rw [List.length_append]; omega,fun v' o3 ds hv hl=>?_⟩
    ·rw [List.getElem?_append_right (by omega),show a'.size + o1 + i - x.cells.toList.length = o1 + i by omega]
     exact g5 i y hi
    ·simp only [List.set_cons_succ,FlatL]
     refine ⟨a',b',x,lay cs' (o1 + o3) ds,rfl,?_,h2,h3,g7 v' o3 ds hv hl⟩
     rw [show a'.size + o1 + o3 = x.cells.toList.length + (o1 + o3) by omega,lay_right]
  | _=>simp [offT] at ho
theorem FlatL.elem : ∀ {t : Ty} {l : List V} {cs : List Value} {i : Int} {p : List Step} {o : Nat} {u : Ty},FlatL G t l cs->offT t (.idx i :: p) = some (o,u) ->
  ∃ a o1 o2 cs1,offT a p = some (o2,u) /\ o = o1 + o2 /\ i.toNat < l.length /\ FlatV G a (nth l i.toNat) cs1 /\ (∀ k x,cs1[k]? = some x->cs[o1 + k]? = some x) /\ o1 + cs1.length <= cs.length /\
   ∀ v' o3 ds,FlatV G a v' (lay cs1 o3 ds)->o3 + ds.length <= cs1.length->FlatL G t (l.set i.toNat v') (lay cs (o1 + o3) ds)
 | .arr 0 t,l,cs,i,p,o,u,h,ho=>by
  simp only [offT] at ho
  split at ho
  ·omega
  ·cases ho
 | .arr (n + 1) t,[],cs,i,p,o,u,h,ho=>by simp [FlatL,uncons] at h
 | .arr (n + 1) t,v :: l,cs,i,p,o,u,h,ho=>by
  simp only [FlatL] at h
  obtain ⟨a,r,x,cs',h1,rfl,h2,h3,h4⟩:=h
  simp [uncons] at h1; obtain ⟨rfl,rfl⟩:=h1
  simp only [offT] at ho
  split at ho
  ·rename_i hi
   cases h6 : offT t p with
   | none=>simp [h6] at ho
   | some q =>
    simp [h6] at ho
    obtain ⟨rfl,rfl⟩:=ho
    have hs : x.cells.toList.length = t.size:=by rw [Array.length_toList,h2.size]
    by_cases h0 : i = 0
    ·subst h0
     refine ⟨t,0,q.1,x.cells.toList,h6,by simp,by simp,⟨x,rfl,h2,h3⟩,fun i y hi=>?_,by simp,fun v' o3 ds hv hl=>?_⟩
     ·have : i < x.cells.toList.length:=by
       rcases Nat.lt_or_ge i x.cells.toList.length with h | h
       ·exact h
       ·rw [List.getElem?_eq_none h] at hi; cases hi
      rw [Nat.zero_add,List.getElem?_append_left this]; exact hi
     ·obtain ⟨y,e1,e2,e3⟩:=hv
      simp only [Int.toNat_zero,List.set_cons_zero,FlatL]
      refine ⟨t,.arr n t,y,cs',rfl,?_,e2,e3,h4⟩
      rw [Nat.zero_add,lay_left _ _ _ _ hl,e1]
    ·have hk : i.toNat = (i - 1).toNat + 1:=by omega
     have ho' : offT (.arr n t) (.idx (i - 1) :: p) = some ((i - 1).toNat * t.size + q.1,q.2):=by
      simp only [offT]
      rw [if_pos (by omega),h6]
     obtain ⟨a2,o1,o2,cs1,g1,g2,g3,g4,g5,g6,g7⟩:=FlatL.elem h4 ho'
     refine ⟨a2,t.size + o1,o2,cs1,g1,?_,by rw [hk]; simpa using g3,by rw [hk]; simpa [nth] using g4,fun k y hy=>?_,by rw [List.length_append]; omega,fun v' o3 ds hv hl=>?_⟩
     ·rw [hk,Nat.add_mul]; omega
     ·rw [List.getElem?_append_right (by omega),show t.size + o1 + k - x.cells.toList.length = o1 + k by omega]
      exact g5 k y hy
     ·rw [hk]
      simp only [List.set_cons_succ,FlatL]
      refine ⟨t,.arr n t,x,lay cs' (o1 + o3) ds,rfl,?_,h2,h3,g7 v' o3 ds hv hl⟩
      rw [show t.size + o1 + o3 = x.cells.toList.length + (o1 + o3) by omega,lay_right]
  ·cases ho
 | .int _,_,_,_,_,_,_,_,ho=>by simp [offT] at ho
 | .bool,_,_,_,_,_,_,_,ho=>by simp [offT] at ho
 | .str,_,_,_,_,_,_,_,ho=>by simp [offT] at ho
 | .sl _,_,_,_,_,_,_,_,ho=>by simp [offT] at ho
 | .unit,_,_,_,_,_,_,_,ho=>by simp [offT] at ho
 | .opq,_,_,_,_,_,_,_,ho=>by simp [offT] at ho
 | .pair _ _,_,_,_,_,_,_,_,ho=>by simp [offT] at ho
theorem offT_nil {t : Ty} {o : Nat} {u : Ty} (h : offT t [] = some (o,u)) : o = 0 /\ u = t:=by
 cases t <;> simp [offT] at h <;> exact ⟨h.1.symm,h.2.symm⟩
theorem offT_agg {t : Ty} {s : Step} {p : List Step} {o : Nat} {u : Ty} (h : offT t (s :: p) = some (o,u)) : t.isAgg = true:=by
 cases t <;> first | rfl | (simp [offT] at h; done)
theorem getV_flat : ∀ (p : List Step) {t : Ty} {v : V} {cs : List Value} {o : Nat} {u : Ty},FlatV G t v cs->offT t p = some (o,u) ->
  ∃ cs1,FlatV G u (getV v p) cs1 /\ (∀ j x,cs1[j]? = some x->cs[o + j]? = some x) /\ o + cs1.length <= cs.length
 | [],t,v,cs,o,u,h,ho=>by
  obtain ⟨rfl,rfl⟩:=offT_nil ho
  exact ⟨cs,by cases v <;> exact h,fun j x hj=>by simpa using hj,by simp⟩
 | s :: p,t,v,cs,o,u,h,ho=>by
  obtain ⟨x,hx,hs,ha⟩:=h
  have hag:=offT_agg ho
  obtain ⟨c,rfl⟩:=hs.agg hag
  cases v with
  | data t' y =>
   obtain ⟨e,hf⟩:=FlatV.flatD (G:=G) (t:=t) (cs:=cs) ⟨_,hx,hs,ha⟩
   subst e
   obtain ⟨z,cs',h1,h2,h3⟩:=getP_flat _ _ _ _ _ _ hf ho
   refine ⟨cs',by simp only [getV]; rw [h1]; exact .ofFlatD h2,h3,?_⟩
   cases hc : cs' with
   | nil =>
    have hsz:=FlatD.length _ _ _ h2
    have : ∀ {t : Ty} {p : List Step} {o : Nat} {u : Ty},offT t p = some (o,u)->o + u.size <= t.size:=by
     intro t p
     induction p generalizing t with
     | nil=>intro o u h; obtain ⟨rfl,rfl⟩:=offT_nil h; omega
     | cons s p ih =>
      intro o u h
      cases t with
      | arr n t =>
       cases s with
       | idx i =>
        simp only [offT] at h
        split at h
        ·rename_i hi
         cases h2 : offT t p with
         | none=>simp [h2] at h
         | some q =>
          simp [h2] at h
          obtain ⟨rfl,rfl⟩:=h
          have:=ih h2
          have h3 : (i.toNat + 1) * t.size <= n * t.size:=Nat.mul_le_mul_right _ (by omega)
          rw [Nat.add_mul] at h3
          simp only [Ty.size]; omega
        ·cases h
       | fld j=>simp [offT] at h
      | pair a b =>
       cases s with
       | idx i=>simp [offT] at h
       | fld j =>
        cases j with
        | zero=>simp only [offT] at h; have:=ih h; simp only [Ty.size]; omega
        | succ j =>
         simp only [offT] at h
         cases h2 : offT b (.fld j :: p) with
         | none=>simp [h2] at h
         | some q =>
          simp [h2] at h
          obtain ⟨rfl,rfl⟩:=h
          have key : ∀ {b : Ty} {j : Nat} {q : Nat × Ty},offT b (.fld j :: p) = some q->q.1 + q.2.size <= b.size:=by
           intro b
           induction b with
           | pair a b _ ihb =>
            intro j q h
            cases j with
            | zero=>simp only [offT] at h; obtain ⟨o,u⟩:=q; have:=ih h; simp only [Ty.size]; omega
            | succ j =>
             simp only [offT] at h
             cases h2 : offT b (.fld j :: p) with
             | none=>simp [h2] at h
             | some q' =>
              simp [h2] at h
              have:=ihb h2
              rw [<- h]; simp only [Ty.size]; omega
           | _=>intro j q h; simp [offT] at h
          have:=key h2
          simp only [Ty.size]; omega
      | _=>simp [offT] at h
    have h4:=this ho
    have h5:=FlatD.length _ _ _ hf
    rw [hc] at hsz
    simp at hsz ⊢
    omega
   | cons d r =>
    have hlt : cs'.length - 1 < cs'.length:=by rw [hc]; simp
    have:=h3 (cs'.length - 1) _ (List.getElem?_eq_getElem hlt)
    have hb : o + (cs'.length - 1) < cs.length:=by
     rcases Nat.lt_or_ge (o + (cs'.length - 1)) cs.length with h | h
     ·exact h
     ·rw [List.getElem?_eq_none h] at this; cases this
    rw [<- hc]; omega
  | agg t' l =>
   obtain ⟨e,hf⟩:=FlatV.flatL (G:=G) (t:=t) (cs:=cs) ⟨_,hx,hs,ha⟩
   subst e
   cases s with
   | fld j =>
    obtain ⟨a,o1,o2,cs1,g1,rfl,g3,g4,g5,g6,_⟩:=hf.part ho
    obtain ⟨cs2,f1,f2,f3⟩:=getV_flat p g4 g1
    exact ⟨cs2,by simpa only [getV] using f1,fun j x hj=>by rw [Nat.add_assoc]; exact g5 _ _ (f2 j x hj),by omega⟩
   | idx i =>
    obtain ⟨a,o1,o2,cs1,g1,rfl,g3,g4,g5,g6,_⟩:=hf.elem ho
    obtain ⟨cs2,f1,f2,f3⟩:=getV_flat p g4 g1
    exact ⟨cs2,by simpa only [getV] using f1,fun j x hj=>by rw [Nat.add_assoc]; exact g5 _ _ (f2 j x hj),by omega⟩
  | _=>have:=hs.tree hag; simp [V.tree] at this
end
end Go.Bx
namespace Go.Bx
set_option linter.unusedVariables false
set_option linter.unusedSimpArgs false
open Go Go.RowKit
section
variable {P : Program} {C : Ctx} {G : GE}
theorem lay_all {t : Ty} {v y : V} {cs ds : List Value} (h : FlatV G t v cs) (hy : FlatV G t y ds) : 0 + ds.length <= cs.length /\ FlatV G t y (lay cs 0 ds):=by
 have e : ds.length = cs.length:=by rw [h.length,hy.length]
 exact ⟨by omega,by rw [lay_zero _ _ e]; exact hy⟩
theorem setD_flat : ∀ (p : List Step) {t : Ty} {v : V} {cs : List Value} {o : Nat} {u : Ty} {y : V} {ds : List Value} {v' : V},FlatV G t v cs->offT t p = some (o,u)->FlatV G u y ds->setV.setD v p y = some v' ->
  o + ds.length <= cs.length /\ FlatV G t v' (lay cs o ds)
 | [],t,v,cs,o,u,y,ds,v',h,ho,hy,hs=>by
  obtain ⟨rfl,rfl⟩:=offT_nil ho
  have : y = v':=by cases v <;> simpa [setV.setD] using hs
  subst this
  exact lay_all h hy
 | s :: p,t,v,cs,o,u,y,ds,v',h,ho,hy,hs=>by
  cases v with
  | data t' x =>
   cases s with
   | idx i=>simp [setV.setD] at hs
   | fld j =>
    simp only [setV.setD] at hs
    obtain ⟨e,hf⟩:=h.flatD
    subst e
    split at hs
    ·rename_i hc
     simp only [Bool.and_eq_true] at hc
     split at hs
     ·rename_i z hz
      cases hs
      have hl:=spread_flat (G:=G) hc.1 hf
      obtain ⟨a,o1,o2,cs1,g1,rfl,g3,g4,g5,g6,g7⟩:=hl.part ho
      obtain ⟨f1,f2⟩:=setD_flat p g4 g1 hy hz
      exact ⟨by omega,mkAgg_flat (g7 z o2 ds f2 f1)⟩
     ·cases hs
    ·cases hs
  | _=>simp [setV.setD] at hs
theorem setV_flat : ∀ (p : List Step) {t : Ty} {v : V} {cs : List Value} {o : Nat} {u : Ty} {y : V} {ds : List Value} {v' : V},FlatV G t v cs->offT t p = some (o,u)->FlatV G u y ds->setV v p y = some v' ->
  o + ds.length <= cs.length /\ FlatV G t v' (lay cs o ds)
 | [],t,v,cs,o,u,y,ds,v',h,ho,hy,hs=>by
  obtain ⟨rfl,rfl⟩:=offT_nil ho
  have : y = v':=by cases v <;> simpa [setV] using hs
  subst this
  exact lay_all h hy
 | s :: p,t,v,cs,o,u,y,ds,v',h,ho,hy,hs=>by
  have hag:=offT_agg ho
  have htree : v.tree = true:=by obtain ⟨x,_,h1,_⟩:=h; exact h1.tree hag
  cases v with
  | agg t' l =>
   obtain ⟨e,hl⟩:=h.flatL
   subst e
   cases s with
   | fld j =>
    simp only [setV] at hs
    split at hs
    ·split at hs
     ·rename_i z hz
      cases hs
      obtain ⟨a,o1,o2,cs1,g1,rfl,g3,g4,g5,g6,g7⟩:=hl.part ho
      obtain ⟨f1,f2⟩:=setV_flat p g4 g1 hy hz
      exact ⟨by omega,mkAgg_flat (g7 z o2 ds f2 f1)⟩
     ·cases hs
    ·cases hs
   | idx i =>
    simp only [setV] at hs
    split at hs
    ·split at hs
     ·rename_i z hz
      cases hs
      obtain ⟨a,o1,o2,cs1,g1,rfl,g3,g4,g5,g6,g7⟩:=hl.elem ho
      obtain ⟨f1,f2⟩:=setV_flat p g4 g1 hy hz
      exact ⟨by omega,.ofFlatL (g7 z o2 ds f2 f1)⟩
     ·cases hs
    ·cases hs
  | data t' x =>
   by_cases hd : ∃ t2 z,y = .data t2 z
   ·obtain ⟨t2,z,rfl⟩:=hd
    simp only [setV] at hs
    split at hs
    ·rename_i w hw
     cases hs
     obtain ⟨e,hf⟩:=h.flatD
     subst e
     obtain ⟨e2,hfy⟩:=hy.flatD
     subst e2
     obtain ⟨_,h1,h2⟩:=updP_flat _ _ _ _ _ _ _ _ _ _ hf ho hw hfy
     exact ⟨h1,.ofFlatD h2⟩
    ·cases hs
   ·cases s with
    | idx i=>cases y <;> simp [setV] at hs <;> exact absurd ⟨_,_,rfl⟩ hd
    | fld j =>
     have hs' : (if (t'.chain && Nat.blt j (spread t' x).length) = true then match setV.setD (nth (spread t' x) j) p y with
       | some z=>some (mkAgg t' ((spread t' x).set j z))
       | none=>none
       else none) = some v':=by
      cases y <;> first | exact absurd ⟨_,_,rfl⟩ hd | (simp only [setV] at hs; exact hs)
     obtain ⟨e,hf⟩:=h.flatD
     subst e
     split at hs'
     ·rename_i hc
      simp only [Bool.and_eq_true] at hc
      split at hs'
      ·rename_i z hz
       cases hs'
       have hl:=spread_flat (G:=G) hc.1 hf
       obtain ⟨a,o1,o2,cs1,g1,rfl,g3,g4,g5,g6,g7⟩:=hl.part ho
       obtain ⟨f1,f2⟩:=setD_flat p g4 g1 hy hz
       exact ⟨by omega,mkAgg_flat (g7 z o2 ds f2 f1)⟩
      ·cases hs'
     ·cases hs'
  | _=>simp [V.tree] at htree
theorem oneCell_ptr {a : Option Addr} : oneCell (.pointer a):=by simp [oneCell,Value.cells]
theorem oneCell_slice {a : Option Addr} {n c : Nat} : oneCell (.slice a n c):=by simp [oneCell,Value.cells]
theorem Shp.single {τ : Ty} {v : V} {x : Value} (ht : τ.isAgg = false) (hx : oneCell x) (h1 : ∀ t y,v ≠ .data t y) (h2 : ∀ t l,v ≠ .agg t l) : Shp τ v x :=
 ⟨(fun e=>by rw [ht] at e; cases e),(fun e=>by rw [ht] at e; cases e),fun _=>hx,by
  have hs : τ.size = 1:=by cases τ <;> simp [Ty.isAgg] at ht <;> rfl
  rw [hx.1,hs]; rfl,fun t y e=>absurd e (h1 t y),fun t l e=>absurd e (h2 t l)⟩
theorem fits_flat {tm : Array Value} {τ : Ty} {y : V} {x : Value} (hf : fits τ y = true) (h : AtV G tm y x) : FlatV G τ y x.cells.toList /\ Shp τ y x:=by
 have key : Shp τ y x /\ sane y = y:=by
  cases y <;> simp only [fits,Bool.not_eq_true',decide_eq_true_eq,Bool.false_eq_true] at hf <;> simp only [AtV] at h
  case data t z =>
   subst hf
   obtain ⟨h1,h2,h3⟩:=h.isAgg
   exact ⟨⟨fun _=>rfl,h1,h2,h3,(fun t' y e=>by cases e; rfl),(fun _ _ e=>by cases e)⟩,rfl⟩
  case agg t l =>
   subst hf
   obtain ⟨c,rfl,hl⟩:=h
   exact ⟨⟨fun _=>rfl,fun _=>⟨_,rfl⟩,(fun e=>by rw [hl.isAgg] at e; cases e),by have:=hl.length; simpa [Value.cells] using this,(fun _ _ e=>by cases e),(fun t' l' e=>by cases e; rfl)⟩,rfl⟩
  case nilp=>exact ⟨.single hf (by rw [h]; exact oneCell_ptr) (by simp) (by simp),rfl⟩
  case snil=>exact ⟨.single hf (by rw [h]; exact oneCell_slice) (by simp) (by simp),rfl⟩
  case ref=>obtain ⟨a,rfl⟩:=h.ptr; exact ⟨.single hf oneCell_ptr (by simp) (by simp),rfl⟩
  case iref=>obtain ⟨a,ds,rfl,_⟩:=h; exact ⟨.single hf oneCell_ptr (by simp) (by simp),rfl⟩
  case fn=>obtain ⟨xs,ys,rfl,_⟩:=h; exact ⟨.single hf (by simp [oneCell,Value.cells]) (by simp) (by simp),rfl⟩
  case full=>obtain ⟨_,a,n,rfl⟩:=h; exact ⟨.single hf oneCell_slice (by simp) (by simp),rfl⟩
  case app id ver =>
   have : ∃ a n c,x = .slice a n c:=by
    unfold AppAt at h
    split at h
    ·exact h.2.1
    ·exact h.elim
   obtain ⟨a,n,c,rfl⟩:=this
   exact ⟨.single hf oneCell_slice (by simp) (by simp),rfl⟩
  case view =>
   have : ∃ a n c,x = .slice a n c:=by
    unfold ViewAt at h
    split at h
    ·obtain ⟨b,o,_,_,_,_,_,_,h⟩:=h; exact ⟨_,_,_,h⟩
    ·exact h.elim
   obtain ⟨a,n,c,rfl⟩:=this
   exact ⟨.single hf oneCell_slice (by simp) (by simp),rfl⟩
  case ifc=>obtain ⟨y,rfl,_⟩:=h; exact ⟨.single hf (by simp [oneCell,Value.cells]) (by simp) (by simp),rfl⟩
  case map =>
   unfold MapAt at h
   split at h
   ·obtain ⟨b,_,rfl⟩:=h; exact ⟨.single hf (by simp [oneCell,Value.cells]) (by simp) (by simp),rfl⟩
   ·exact h.elim
 exact ⟨⟨x,rfl,key.1,by have:=h.sane (tm':=#[]); rwa [key.2] at this⟩,key.1⟩
theorem zcOk_zero : ∀ (t : Ty) (cs : List Value),t.plain = true->zcOk t cs->FlatD G.env t t.zero cs:=fun t cs hp h=>by
 rw [zcOk_plain t cs hp h]; exact FlatD.zero t hp
theorem arrL_flat {t : Ty} {v : V} : ∀ (n : Nat) (css : List (List Value)),css.length = n->(∀ c ∈ css,FlatV G t v c)->FlatL G (.arr n t) (List.replicate n v) css.flatten
 | 0,[],_,_=>by simp [FlatL,uncons,Ty.isAgg]
 | n + 1,c :: css,hl,h=>by
  obtain ⟨x,h1,h2,h3⟩:=h c (by simp)
  simp only [List.replicate_succ,FlatL,List.flatten_cons]
  exact ⟨t,.arr n t,x,css.flatten,rfl,by rw [h1],h2,h3,arrL_flat n css (by simpa using hl) fun c hc=>h c (List.mem_cons_of_mem _ hc)⟩
 | 0,_ :: _,h,_=>by simp at h
 | _ + 1,[],h,_=>by simp at h
mutual
theorem zeroV_flat : ∀ (t : Ty) (cs : List Value),t.chained = true->zcOk t cs->FlatV G t (zeroV t) cs
 | .int k,cs,_,h=>by simp only [zeroV]; exact .ofFlatD (by rw [show cs = [.int k 0] from h]; exact ⟨rfl,inR_zero k⟩)
 | .bool,cs,_,h=>by simp only [zeroV]; exact .ofFlatD (by rw [show cs = [.bool false] from h]; rfl)
 | .str,cs,_,h=>by simp only [zeroV]; exact .ofFlatD (by rw [show cs = [.string ByteArray.empty] from h]; exact ⟨ByteArray.empty,rfl,rfl,by decide⟩)
 | .unit,cs,_,h=>by simp only [zeroV]; exact .ofFlatD h
 | .opq,cs,_,⟨x,h,ho⟩=>by
  simp only [zeroV]
  rw [h]
  exact ⟨x,by rw [ho.1],.single rfl ho (by simp) (by simp),by simp only [AtV]⟩
 | .sl t,cs,_,h=>by
  simp only [zeroV]
  rw [show cs = [.slice none 0 0] from h]
  exact ⟨.slice none 0 0,rfl,.single rfl oneCell_slice (by simp) (by simp),by simp only [AtV]; exact ⟨.inl ⟨rfl,rfl⟩,_,_,rfl⟩⟩
 | .arr n t,cs,hc,h=>by
  simp only [zeroV]
  split
  ·rename_i hp
   have:=zcOk_zero (G:=G) (.arr n t) cs (by simpa [Ty.plain] using hp) h
   exact .ofFlatD (by simpa only [Ty.zero] using this)
  ·obtain ⟨css,hl,rfl,hz⟩:=h
   exact .ofFlatL (arrL_flat n css hl fun c hcs=>zeroV_flat t c (by simpa [Ty.chained] using hc) (hz c hcs))
 | .pair a b,cs,hc,⟨c1,c2,e,h1,h2⟩=>by
  simp only [zeroV]
  have hc' : a.chained = true /\ b.chained = true /\ b.chain = true:=by simpa [Ty.chained,and_assoc] using hc
  obtain ⟨x,e1,e2,e3⟩:=zeroV_flat a c1 hc'.1 h1
  refine mkAgg_flat ?_
  simp only [FlatL]
  exact ⟨a,b,x,c2,rfl,by rw [e,e1],e2,e3,zeroL_flat b c2 hc'.2.1 hc'.2.2 h2⟩
theorem zeroL_flat : ∀ (t : Ty) (cs : List Value),t.chained = true->t.chain = true->zcOk t cs->FlatL G t (zeroL t) cs
 | .unit,cs,_,_,h=>by simp only [zeroL,FlatL]; exact ⟨rfl,rfl,h⟩
 | .pair a b,cs,hc,_,⟨c1,c2,e,h1,h2⟩=>by
  simp only [zeroL,FlatL]
  have hc' : a.chained = true /\ b.chained = true /\ b.chain = true:=by simpa [Ty.chained,and_assoc] using hc
  obtain ⟨x,e1,e2,e3⟩:=zeroV_flat a c1 hc'.1 h1
  exact ⟨a,b,x,c2,rfl,by rw [e,e1],e2,e3,zeroL_flat b c2 hc'.2.1 hc'.2.2 h2⟩
 | .int _,_,_,h,_=>by simp [Ty.chain] at h
 | .bool,_,_,h,_=>by simp [Ty.chain] at h
 | .str,_,_,h,_=>by simp [Ty.chain] at h
 | .sl _,_,_,h,_=>by simp [Ty.chain] at h
 | .arr _ _,_,_,h,_=>by simp [Ty.chain] at h
 | .opq,_,_,h,_=>by simp [Ty.chain] at h
end
mutual
theorem TyOk.chained : ∀ (τ : Ty) (i : TypeId),TyOk P τ i->τ.chained = true
 | .int _,_,_=>rfl
 | .bool,_,_=>rfl
 | .str,_,_=>rfl
 | .unit,_,_=>rfl
 | .opq,_,_=>rfl
 | .sl _,_,_=>rfl
 | .arr n t,i,h=>by
  obtain ⟨e,_,h,_⟩:=h
  simpa [Ty.chained] using TyOk.chained t e h
 | .pair a b,i,h=>by
  obtain ⟨fs,_,⟨f,r,_,_,_,_,h1,h2⟩,_⟩:=h
  have ha:=TyOk.chained a f.type h1
  obtain ⟨k1,k2⟩:=FieldsOk.chained b r _ h2
  simp [Ty.chained,ha,k1,k2]
theorem FieldsOk.chained : ∀ (τ : Ty) (fs : List Field) (off : Nat),FieldsOk P τ fs off->τ.chained = true /\ τ.chain = true
 | .unit,_,_,_=>⟨rfl,rfl⟩
 | .pair a b,fs,off,h=>by
  obtain ⟨f,r,_,_,_,_,h1,h2⟩:=h
  have ha:=TyOk.chained a f.type h1
  obtain ⟨k1,k2⟩:=FieldsOk.chained b r _ h2
  simp [Ty.chained,Ty.chain,ha,k1,k2]
 | .int _,_,_,h=>by simp [FieldsOk] at h
 | .bool,_,_,h=>by simp [FieldsOk] at h
 | .str,_,_,h=>by simp [FieldsOk] at h
 | .sl _,_,_,h=>by simp [FieldsOk] at h
 | .arr _ _,_,_,h=>by simp [FieldsOk] at h
 | .opq,_,_,h=>by simp [FieldsOk] at h
end
end
end Go.Bx
