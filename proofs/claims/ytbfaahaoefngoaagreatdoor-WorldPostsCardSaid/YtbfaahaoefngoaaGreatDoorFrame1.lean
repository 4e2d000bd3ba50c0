/- A part of a framework that reads Go code as functions of plain data. -/
import Derived.Test.YtbfaahaoefngoaaGreatDoorFrame0
import Derived.Laws.Slices
import Derived.MapKept
import Derived.Laws.BytesString
import Derived.Laws.OwnMore
import Derived.Laws.MakeOwn
import Derived.Laws.CopyRow
import Derived.Laws.IdiomCopy
import Derived.Laws.IdiomStrings
open Bool (and_eq_true)
open List (eq_nil_of_length_eq_zero flatten_cons getElem?_eq_getElem map_cons map_nil replicate size_toArray)
open Nat (add_assoc add_mul blt eq_of_beq_eq_true le_of_ble_eq_true le_refl le_trans mul_le_mul_right zero_add)
open Option (map_none map_some)
set_option maxRecDepth 100000
set_option linter.unusedVariables false
set_option linter.unusedSimpArgs false
namespace Go.Bx
open Go Go.RowKit
section
variable {P:Program}{C:Ctx}{G:GE}
theorem bO:∀(hp:aP)(d:Nat)(c:jX)(i:Nat),aw (fR hp d c) i=if i=d then some c else aw hp i
 |[],d,c,i=>by
  simp only[fR,aw,look];by_cases h:i=d
  ·subst h;simp
  ·rw[if_neg h,if_neg (fun e=>h (eq_of_beq_eq_true e).symm)]
 |(k,b)::r,d,c,i=>by
  simp only[fR];split
  ·rename_i hk;have hk:=eq_of_beq_eq_true hk;subst hk;simp only[aw,look];by_cases h:i=d
   ·subst h;simp
   ·rw[if_neg h,if_neg (fun e=>h (eq_of_beq_eq_true e).symm),if_neg (fun e=>h (eq_of_beq_eq_true e).symm)]
  ·rename_i hk;split
   ·simp only[aw,look];by_cases h:i=d
    ·subst h;simp
    ·rw[if_neg h,if_neg (fun e=>h (eq_of_beq_eq_true e).symm)]
   ·have ih:=bO r d c i;simp only[aw,look]at ih⊢;by_cases h:i=d
    ·subst h;rw[if_pos rfl]at ih⊢;rw[if_neg (fun e=>hk (by rw[eq_of_beq_eq_true e];exact Nat.beq_refl _)),ih]
    grind
theorem OM(i:Nat):aw [] i=none:=rfl
theorem cW.turn(h:cW G){id:Nat}{blk blk':jX}(hb:aw G.hp id=some blk){w':World}(hsz:w'.heap.size=G.w.heap.size)(hos:w'.os=G.w.os)(htp:w'.tape=G.w.tape)(hout:w'.output=G.w.output)
  (hfr:∀b,G.β id≠some b->w'.heap[b]? =G.w.heap[b]?) (him:∀m,blk.im m->blk'.im m) (hcell:∀b,G.β id=some b->∀m,blk.im m->∀j,j<m->w'.cell? ⟨b,j,none⟩=G.w.cell? ⟨b,j,none⟩)
  (hsame:gA G ⟨w',G.β,G.σ,fR G.hp id blk',G.n0,G.Bo,G.I0⟩ id id 0 0 blk blk'/\∀v,gA G ⟨w',G.β,G.σ,fR G.hp id blk',G.n0,G.Bo,G.I0⟩ id id v v blk blk')
  (lC:Ext G.env (GE.env ⟨w',G.β,G.σ,fR G.hp id blk',G.n0,G.Bo,G.I0⟩)->nO G ⟨w',G.β,G.σ,fR G.hp id blk',G.n0,G.Bo,G.I0⟩->rG ⟨w',G.β,G.σ,fR G.hp id blk',G.n0,G.Bo,G.I0⟩ id blk'):
  Tr G ⟨w',G.β,G.σ,fR G.hp id blk',G.n0,G.Bo,G.I0⟩/\cW ⟨w',G.β,G.σ,fR G.hp id blk',G.n0,G.Bo,G.I0⟩:=by
 have hn:∀b,GE.named ⟨w',G.β,G.σ,fR G.hp id blk',G.n0,G.Bo,G.I0⟩ b↔G.named b:=by
  intro b;constructor
  ·rintro⟨i,bl,h1,h2⟩;simp only at h1 h2;rw[bO]at h1;split at h1
   ·rename_i e;subst e;exact⟨i,blk,hb,h2⟩
   ·exact⟨i,bl,h1,h2⟩
  ·rintro⟨i,bl,h1,h2⟩;by_cases e:i=id
   ·exact⟨i,blk',by simp only;rw[bO,if_pos e],h2⟩
   ·exact⟨i,bl,by simp only;rw[bO,if_neg e];exact h1,h2⟩
 have hE:Ext G.env (GE.env ⟨w',G.β,G.σ,fR G.hp id blk',G.n0,G.Bo,G.I0⟩):=by
  refine⟨fun b m ⟨h1,h2,h3⟩=>⟨h1,by rw[hsz];exact h2,fun i bl hi hβ=>?_⟩,fun b m ⟨h1,h2,h3⟩ j hj=>?_⟩
  ·simp only at hi hβ;rw[bO]at hi;grind
  ·by_cases e:G.β id=some b
   ·exact hcell b e m (h3 id blk hb e) j hj
   ·exact World.cell?_of_block (w:=G.w) (w':=w') (a:=⟨b,j,none⟩) (hfr b e)
 have hK:nO G ⟨w',G.β,G.σ,fR G.hp id blk',G.n0,G.Bo,G.I0⟩:=⟨hE,fun i ver j u bl hρ hi=>by
  simp only[yi,Option.some.injEq,Prod.mk.injEq]at hρ;obtain⟨rfl,rfl⟩:=hρ;by_cases e:i=id
  ·subst e;rw[hb]at hi;cases hi;exact⟨blk',by simp only;rw[bO,if_pos rfl],hsame.2 ver⟩
  ·exact⟨bl,by simp only;rw[bO,if_neg e];exact hi,gA.refl _ _ _ _ _ rfl rfl⟩⟩
 refine⟨⟨hK,hos,htp,hout,by simp only;omega,fun b _ hnb=>hfr b fun e=>hnb ⟨id,blk,hb,e⟩,fun b hb'=>.inr ((hn b).1 hb')⟩,⟨h.glob.ext hE,fun i bl hi=>?_,fun i i' bl bl' b h1 h2 h3 h4=>?_,fun b hb'=>h.own b ((hn b).1 hb'),by simp only;rw[hsz];exact h.base⟩⟩
 ·simp only at hi;rw[bO]at hi;split at hi
  ·rename_i e;subst e;cases hi;exact lC hE hK
  ·rename_i e;have h0:=h.blk i bl hi;have hbl:∀b,G.β i=some b->w'.heap[b]? =G.w.heap[b]?:=fun b hβ=>hfr b fun e'=>e (h.inj _ _ _ _ _ hi hb hβ e');cases bl with
   |cell t v z=>obtain⟨b,arr,ty,g1,g2,g3⟩:=h0;exact⟨b,arr,ty,g1,(hbl b g1).trans g2,g3.ext hK⟩
   |buf t l ver z=>
    rcases h0 with ⟨b,arr,ty,css,cap,rest,g1,g2,g3,g4,g5,g6,g7,g8⟩|⟨g1,g2,g3,g4⟩
    ·exact .inl ⟨b,arr,ty,css,cap,rest,g1,g2,(hbl b g1).trans g3,g4.mono fun _ _ h=>h.ext hE,g5,g6,g7,g8⟩
    ·exact .inr ⟨g1,g2,g3.ext hE,g4⟩
   |map k v l=>obtain⟨b,es,clock,g1,g2,g3,g4⟩:=h0;exact⟨b,es,clock,g1,(hbl b g1).trans g2,g3.mono fun _ _ h=>⟨h.1.ext hE,h.2.ext hE⟩,g4⟩
 ·simp only at h1 h2 h3 h4;have k:∀i bl,aw (fR G.hp id blk') i=some bl->∃bl,aw G.hp i=some bl:=fun i bl hi=>by
   rw[bO]at hi;grind
  obtain⟨_,k1⟩:=k _ _ h1;obtain⟨_,k2⟩:=k _ _ h2;exact h.inj _ _ _ _ _ k1 k2 h3 h4
abbrev GE.fI(G:GE)(hp:aP):GE:=⟨G.w,G.β,G.σ,hp,G.n0,G.Bo,G.I0⟩
theorem gA.frz(G G2:GE)(id ver:Nat)(b:jX)(h1:G2.β id=G.β id)(h2:G2.σ id=G.σ id):gA G G2 id id ver ver b (xF b):=by
 cases b<;>simp only[gA,xF]
 ·grind
 ·grind
 grind
theorem cW.Qf(h:cW G){id:Nat}{blk:jX}(hb:aw G.hp id=some blk):Tr G (G.fI (fR G.hp id (xF blk)))/\cW (G.fI (fR G.hp id (xF blk))):=by
 refine h.turn hb rfl rfl rfl rfl (fun _ _=>rfl) (fun m hm=>?_) (fun _ _ _ _ _ _=>rfl) ⟨gA.frz _ _ _ _ _ rfl rfl,fun v=>gA.frz _ _ _ _ _ rfl rfl⟩ fun hE hK=>?_
 ·cases blk<;>simp only[jX.im,xF]at hm⊢
  ·grind
  grind
 ·have h0:=h.blk _ _ hb;cases blk with
  |cell t v z=>obtain⟨b,arr,ty,g1,g2,g3⟩:=h0;exact⟨b,arr,ty,g1,g2,g3.ext hK⟩
  |buf t l ver z=>
   rcases h0 with ⟨b,arr,ty,css,cap,rest,g1,g2,g3,g4,g5,g6,g7,g8⟩|⟨g1,g2,g3,g4⟩
   ·exact .inl ⟨b,arr,ty,css,cap,rest,g1,g2,g3,g4.mono fun _ _ h=>h.ext hE,g5,g6,g7,g8⟩
   ·exact .inr ⟨g1,.inl rfl,g3.ext hE,g4⟩
  |map k v l=>obtain⟨b,es,clock,g1,g2,g3,g4⟩:=h0;exact⟨b,es,clock,g1,g2,g3.mono fun _ _ h=>⟨h.1.ext hE,h.2.ext hE⟩,g4⟩
mutual
theorem vl:∀(v:V)(G:GE),cW G->Tr G (G.fI (Bx.frz G.hp v))/\cW (G.fI (Bx.frz G.hp v))
 | .app id ver,G,h=>by
  simp only[Bx.frz];cases hb:aw G.hp id with
  |none=>exact⟨Tr.refl _,h⟩
  |some b=>exact h.Qf hb
 | .view id p t n lo hi,G,h=>by
  simp only[Bx.frz];cases hb:aw G.hp id with
  |none=>exact⟨Tr.refl _,h⟩
  |some b=>exact h.Qf hb
 | .agg t l,G,h=>by simp only[Bx.frz];exact pA l G h
 | .any,G,h=>by simp only[Bx.frz];exact⟨Tr.refl _,h⟩
 | .data _ _,G,h=>by simp only[Bx.frz];exact⟨Tr.refl _,h⟩
 | .nilp,G,h=>by simp only[Bx.frz];exact⟨Tr.refl _,h⟩
 | .snil,G,h=>by simp only[Bx.frz];exact⟨Tr.refl _,h⟩
 | .ref _ _ _,G,h=>by simp only[Bx.frz];exact⟨Tr.refl _,h⟩
 | .iref _ _,G,h=>by simp only[Bx.frz];exact⟨Tr.refl _,h⟩
 | .tup _,G,h=>by simp only[Bx.frz];exact⟨Tr.refl _,h⟩
 | .opt _ _ _,G,h=>by simp only[Bx.frz];exact⟨Tr.refl _,h⟩
 | .fn _ _ _,G,h=>by simp only[Bx.frz];exact⟨Tr.refl _,h⟩
 | .full _ _,G,h=>by simp only[Bx.frz];exact⟨Tr.refl _,h⟩
 | .ifc _ _,G,h=>by simp only[Bx.frz];exact⟨Tr.refl _,h⟩
 | .mth _ _,G,h=>by simp only[Bx.frz];exact⟨Tr.refl _,h⟩
 | .map _,G,h=>by simp only[Bx.frz];exact⟨Tr.refl _,h⟩
 | .glob _,G,h=>by simp only[Bx.frz];exact⟨Tr.refl _,h⟩
theorem pA:∀(l:List V)(G:GE),cW G->Tr G (G.fI (Bx.my G.hp l))/\cW (G.fI (Bx.my G.hp l))
 |[],G,h=>by simp only[Bx.my];exact⟨Tr.refl _,h⟩
 |v::l,G,h=>by simp only[Bx.my];obtain⟨t1,h1⟩:=vl v G h;obtain⟨t2,h2⟩:=pA l _ h1;exact⟨t1.trans t2,h2⟩
end
def uf(G:GE)(τ:Ty)(l:List τ.den)(x:Value):Prop:=
 ∃(a:Option Addr)(cap:Nat)(css:List (List Value)),x= .slice a l.length cap/\l.length<=cap/\cap<=maxLen/\df (an G.env τ) l css/\
  (l=[]\/∃ad,a=some ad/\ad.spot=none/\∀j v,css.flatten[j]? =some v->G.w.cell? ⟨ad.block,ad.off+j,none⟩=some v)
theorem uf.je{τ:Ty}{l:List τ.den}{x:Value}(h:an G.env (.sl τ) l [x]):uf G τ l x:=by
 rcases h with ⟨rfl,h⟩|⟨a,cap,css,h,h1,h2,h3,h4,h5,h6⟩
 ·simp at h;subst h;exact⟨none,0,[],rfl,le_refl _,by simp,trivial,.inl rfl⟩
 ·simp at h;subst h;refine⟨some a,cap,css,rfl,h2,h3,h4,?_⟩;rcases h1 with h1|h1
  ·exact .inr ⟨a,rfl,h1,h6⟩
  ·exact .inl h1
theorem uf.ext{G2:GE}(hK:nO G G2)(hc:∀b j,G2.w.cell? ⟨b,j,none⟩=G.w.cell? ⟨b,j,none⟩){τ:Ty}{l:List τ.den}{x:Value}(h:uf G τ l x):uf G2 τ l x:=by obtain⟨a,cap,css,h1,h2,h3,h4,h5⟩:=h;exact⟨a,cap,css,h1,h2,h3,h4.mono fun _ _ h=>h.ext hK.env,h5.imp id fun⟨ad,g1,g2,g3⟩=>⟨ad,g1,g2,fun j v hj=>by rw[hc];exact g3 j v hj⟩⟩
theorem cW.cell(h:cW G){id:Nat}{t:Ty}{v:V}{z:Bool}(hb:aw G.hp id=some (.cell t v z)):∃b arr ty,G.β id=some b/\G.w.heap[b]? =some (.cells arr ty (0,0))/\dZ G t v arr.toList:=h.blk _ _ hb
theorem nv{α:Type}(l:List α){lo hi:Int}(_h0:0<=lo)(h1:lo<=hi)(h2:hi<=(l.length:Int)):(aA l lo hi).length=hi.toNat-lo.toNat:=by simp only[aA,List.length_take,List.length_drop];omega
theorem tN{α β:Type}{R:α->β->Prop}:∀(n:Nat){l:List α}{m:List β},df R l m->df R (l.drop n) (m.drop n)
 |0,_,_,h=>by simpa using h
 |n+1,[],[],_=>by simp[df]
 |n+1,_::_,_::_,h=>by simpa using tN n h.2
theorem tO{α β:Type}{R:α->β->Prop}:∀(n:Nat){l:List α}{m:List β},df R l m->df R (l.take n) (m.take n)
 |0,_,_,h=>by simp[df]
 |n+1,[],[],_=>by simp[df]
 |n+1,_::_,_::_,h=>by simpa[df]using⟨h.1,tO n h.2⟩
theorem qU{α:Type}{R:α->List Value->Prop}{n:Nat}(hn:∀a cs,R a cs->cs.length=n):∀(k:Nat){l:List α}{css:List (List Value)},df R l css->(css.drop k).flatten=css.flatten.drop (k*n)
 |0,_,_,_=>by simp
 |k+1,[],[],_=>by simp
 |k+1,a::l,c::css,h=>by have hc:=hn _ _ h.1;rw[List.drop_succ_cons,qU hn k h.2,flatten_cons,add_mul,Nat.one_mul,Nat.add_comm (k*n) n,<-List.drop_drop];grind
theorem nZ{α:Type}{R:α->List Value->Prop}{n:Nat}(hn:∀a cs,R a cs->cs.length=n):∀(k:Nat){l:List α}{css:List (List Value)},df R l css->(css.take k).flatten=css.flatten.take (k*n)
 |0,_,_,_=>by simp
 |k+1,[],[],_=>by simp
 |k+1,a::l,c::css,h=>by have hc:=hn _ _ h.1;rw[List.take_succ_cons,flatten_cons,nZ hn k h.2,flatten_cons,add_mul,Nat.one_mul,Nat.add_comm (k*n) n,List.take_append,hc];grind
theorem sN{α:Type}{R:α->List Value->Prop}{n:Nat}(hn:∀a cs,R a cs->cs.length=n){l:List α}{css:List (List Value)}(h:df R l css)(lo hi:Int):
  df R (aA l lo hi) (aA css lo hi)/\∀j v,(aA css lo hi).flatten[j]? =some v->css.flatten[lo.toNat*n+j]? =some v:=by
 refine⟨tO _ (tN _ h),fun j v hj=>?_⟩;unfold aA at hj;rw[nZ hn _ (tN lo.toNat h),qU hn _ h,List.getElem?_take]at hj;split at hj
 ·rwa [List.getElem?_drop]at hj
 ·cases hj
theorem H9(h:cW G){id:Nat}{t:Ty}{l:List t.den}{ver:Nat}{z:Bool}(hb:aw G.hp id=some (.buf t l ver z)):uf G t l (G.σ id):=by
 rcases h.blk _ _ hb with ⟨b,arr,ty,css,cap,rest,g1,g2,g3,g4,g5,g6,g7,g8⟩|⟨g1,g2,g3,g4⟩
 ·refine⟨_,cap,css,g2,g7,g8,g4,.inr ⟨_,rfl,rfl,fun j v hj=>?_⟩⟩;rw[kE g3,g5,zero_add];grind
 ·exact .je g3
theorem Rf(h:cW G){id:Nat}{p:List Step}{t:Ty}{n:Nat}{lo hi:Int}{x:Value}(hv:lj G id p t n lo hi x){c:Ty}{v:V}{z:Bool}(hb:aw G.hp id=some (.cell c v z)){l:List t.den}(hg:AU v p= .data (.arr n t) l):
  uf G t (aA l lo hi) x/\l.length=n:=by
 obtain⟨b,arr,ty,g1,g2,g3⟩:=h.cell hb;unfold lj at hv;rw[hb]at hv;obtain⟨b',o,e1,e2,e3,e4,e5,hn,e6⟩:=hv;rw[g1]at e1;cases e1;obtain⟨cs1,f1,f2,f3⟩:=ot p g3 e2;rw[hg]at f1;obtain⟨hl,css,hc,ha⟩:=f1.M4;have hl:List.length l=n:=hl;have hcl:=nv l (lo:=lo) (hi:=hi) e3 e4 (by rw[hl];exact e5);obtain⟨k1,k2⟩:=sN (fun a cs h=>an.length t a cs h) ha lo hi;refine⟨⟨_,n-lo.toNat,aA css lo hi,by rw[hcl];exact e6,by omega,by omega,k1,?_⟩,hl⟩;by_cases hlo:lo.toNat=n
 ·left;apply eq_nil_of_length_eq_zero;omega
 ·right;rw[if_neg hlo];refine⟨_,rfl,rfl,fun j u hj=>?_⟩;rw[kE g2];have:=f2 _ _ (by rw[hc];exact k2 j u hj);simpa[add_assoc]using this
def zu(hp hp':aP):Prop:=∀i,aw hp' i=aw hp i\/∃b,aw hp i=some b/\aw hp' i=some (xF b)
theorem zu.refl(hp:aP):zu hp hp:=fun _=>.inl rfl
theorem Ll(b:jX):xF (xF b)=xF b:=by cases b<;>rfl
theorem zu.trans{a b c:aP}(h:zu a b)(k:zu b c):zu a c:=fun i=>by
 rcases h i with h|⟨x,h1,h2⟩<;>rcases k i with k|⟨y,k1,k2⟩
 ·grind
 ·grind
 ·grind
 ·rw[h2]at k1;cases k1;exact .inr ⟨x,h1,by rw[k2,Ll]⟩
theorem GS{hp:aP}{id:Nat}{b:jX}(h:aw hp id=some b):zu hp (fR hp id (xF b)):=fun i=>by rw[bO];grind
mutual
theorem sU:∀(v:V)(hp:aP),zu hp (Bx.frz hp v)
 | .app id ver,hp=>by
  simp only[Bx.frz];split
  ·rename_i b hb;exact GS hb
  ·exact .refl _
 | .view id p t n lo hi,hp=>by
  simp only[Bx.frz];split
  ·rename_i b hb;exact GS hb
  ·exact .refl _
 | .agg t l,hp=>by simp only[Bx.frz];exact Du l hp
 | .any,hp=>by simp only[Bx.frz];exact .refl _
 | .data _ _,hp=>by simp only[Bx.frz];exact .refl _
 | .nilp,hp=>by simp only[Bx.frz];exact .refl _
 | .snil,hp=>by simp only[Bx.frz];exact .refl _
 | .ref _ _ _,hp=>by simp only[Bx.frz];exact .refl _
 | .iref _ _,hp=>by simp only[Bx.frz];exact .refl _
 | .tup _,hp=>by simp only[Bx.frz];exact .refl _
 | .opt _ _ _,hp=>by simp only[Bx.frz];exact .refl _
 | .fn _ _ _,hp=>by simp only[Bx.frz];exact .refl _
 | .full _ _,hp=>by simp only[Bx.frz];exact .refl _
 | .ifc _ _,hp=>by simp only[Bx.frz];exact .refl _
 | .mth _ _,hp=>by simp only[Bx.frz];exact .refl _
 | .map _,hp=>by simp only[Bx.frz];exact .refl _
 | .glob _,hp=>by simp only[Bx.frz];exact .refl _
theorem Du:∀(l:List V)(hp:aP),zu hp (Bx.my hp l)
 |[],hp=>by simp only[Bx.my];exact .refl _
 |v::l,hp=>by simp only[Bx.my];exact(sU v hp).trans (Du l _)
end
mutual
theorem Ku{hp hp':aP}(h:zu hp hp'):∀v:V,rd hp' v=rd hp v
 | .app id ver=>by
  simp only[rd];rcases h id with e|⟨b,e1,e2⟩
  ·rw[e]
  ·rw[e1,e2];cases b<;>rfl
 | .view id p t n lo hi=>by
  simp only[rd];rcases h id with e|⟨b,e1,e2⟩
  ·rw[e]
  ·rw[e1,e2];cases b<;>rfl
 | .agg t l=>by simp only[rd,wR h l]
 | .any=>rfl
 | .data _ _=>rfl
 | .nilp=>rfl
 | .snil=>rfl
 | .ref _ _ _=>rfl
 | .iref _ _=>rfl
 | .tup _=>rfl
 | .opt _ _ _=>rfl
 | .fn _ _ _=>rfl
 | .full _ _=>rfl
 | .ifc _ _=>rfl
 | .mth _ _=>rfl
 | .map _=>rfl
 | .glob _=>rfl
theorem wR{hp hp':aP}(h:zu hp hp'):∀l:List V,uL hp' l=uL hp l
 |[]=>rfl
 |v::l=>by simp only[uL,Ku h v,wR h l]
end
theorem qY{t t':Ty}{l:List V}{y:t'.den}(h:o0 t l= .data t' y):∃e:t=t',getArgs t l=some (e▸y):=by unfold o0 at h;grind
theorem Hp(h:cW G){tm:Array Value}{v:V}{x:Value}(ha:bC G tm v x){τ:Ty}{l:List τ.den}(hr:rd G.hp v= .data (.sl τ) l):uf G τ l x:=by
 cases v with
 |data t y=>simp only[rd,V.data.injEq]at hr;obtain⟨rfl,hr⟩:=hr;have hr:=eq_of_heq hr;subst hr;simp only[bC]at ha;exact .je (ha.one rfl)
 |full t y=>simp only[rd,V.data.injEq,Ty.sl.injEq]at hr;obtain⟨rfl,hr⟩:=hr;have hr:=eq_of_heq hr;subst hr;simp only[bC]at ha;exact .je ha.1
 |app id ver=>
  simp only[rd]at hr;split at hr
  ·rename_i t y ver' z hb;split at hr
   ·rename_i hv;have hv:=eq_of_beq_eq_true hv;subst hv;simp only[V.data.injEq,Ty.sl.injEq]at hr;obtain⟨rfl,hr⟩:=hr;have hr:=eq_of_heq hr;subst hr;simp only[bC]at ha;unfold lh at ha;rw[hb]at ha;rw[ha.2.2 rfl];exact H9 h hb
   ·cases hr
  ·cases hr
 |view id p t n lo hi=>
  simp only[rd]at hr;split at hr
  ·rename_i c cv z hb;split at hr
   ·rename_i n' t' y hg;split at hr
    ·rename_i hnt;obtain⟨rfl,rfl⟩:=hnt;simp only[V.data.injEq,Ty.sl.injEq]at hr;obtain⟨rfl,hr⟩:=hr;have hr:=eq_of_heq hr;subst hr;simp only[bC]at ha;exact(Rf h ha hb hg).1
    ·cases hr
   ·cases hr
  ·cases hr
 |agg t l'=>simp only[rd]at hr;obtain⟨e,hg⟩:=qY hr;subst e;cases hl:uL G.hp l'<;>rw[hl]at hg<;>simp[getArgs]at hg
 |_=>simp[rd]at hr
theorem Iz(h:cW G){id:Nat}{blk:jX}(hb:aw G.hp id=some blk){b:Nat}(hβ:G.β id=some b)(hlt:b<G.w.heap.size){m:Nat}(hm:blk.im m):G.im b m:=
 ⟨.inr (h.own b ⟨id,blk,hb,hβ⟩),hlt,fun id' blk' hb' hβ'=>by
  have:=h.inj _ _ _ _ _ hb' hb hβ' hβ;subst this;rw[hb]at hb';cases hb';exact hm⟩
theorem qE(h:cW G){id:Nat}{t:Ty}{l:List t.den}{ver:Nat}(hb:aw G.hp id=some (.buf t l ver true)):an G.env (.sl t) l [G.σ id]:=by
 rcases h.blk _ _ hb with ⟨b,arr,ty,css,cap,rest,g1,g2,g3,g4,g5,g6,g7,g8⟩|⟨g1,g2,g3,g4⟩
 ·have hlen:=df.dX (fun a cs h=>an.length t a cs h) g4;refine .inr ⟨⟨b,0,none⟩,cap,css,by rw[g2],.inl rfl,g7,g8,g4,.inr ⟨List.length l*t.size,by simp only;omega,?_⟩,fun j v hj=>?_⟩
  ·exact Iz h hb g1 (Array.getElem?_eq_some_iff.1 g3).1 ⟨rfl,le_refl _⟩
  ·show G.w.cell? _=_;rw[kE g3,g5,zero_add];grind
 ·exact g3
theorem zs(h:cW G){id:Nat}{p:List Step}{t:Ty}{n:Nat}{lo hi:Int}{x:Value}(hv:lj G id p t n lo hi x){c:Ty}{v:V}(hb:aw G.hp id=some (.cell c v true)){l:List t.den}(hg:AU v p= .data (.arr n t) l):an G.env (.sl t) (aA l lo hi) [x]:=by
 obtain⟨b,arr,ty,g1,g2,g3⟩:=h.cell hb;unfold lj at hv;rw[hb]at hv;obtain⟨b',o,e1,e2,e3,e4,e5,hn,e6⟩:=hv;rw[g1]at e1;cases e1;obtain⟨cs1,f1,f2,f3⟩:=ot p g3 e2;rw[hg]at f1;obtain⟨hl,css,hc,ha⟩:=f1.M4;have hl:List.length l=n:=hl;have hcl:=nv l (lo:=lo) (hi:=hi) e3 e4 (by rw[hl];exact e5);obtain⟨k1,k2⟩:=sN (fun a cs h=>an.length t a cs h) ha lo hi;have hlen:=df.dX (fun a cs h=>an.length t a cs h) k1;have hcs:=an.length _ _ _ f1.M4;refine .inr ⟨_,n-lo.toNat,aA css lo hi,by rw[hcl,e6],?_,by rw[hcl];omega,by omega,k1,?_,fun j u hj=>?_⟩
 ·grind
 ·by_cases hlo:lo.toNat=n
  ·left;apply eq_nil_of_length_eq_zero;grind
  ·right;rw[if_neg hlo];refine⟨c.size,?_,Iz h hb g1 (Array.getElem?_eq_some_iff.1 g2).1 ⟨rfl,le_refl _⟩⟩;simp only;rw[hlen,hcl];have h1:o+n*t.size<=c.size:=by
    have h2:=g3.length;have:cs1.length=n*t.size:=by rw[hcs];rfl
    omega
   have h2:(lo.toNat+(hi.toNat-lo.toNat))*t.size<=n*t.size:=mul_le_mul_right _ (by omega);grind
 ·have hne:lo.toNat≠n:=by
   grind
  rw[if_neg hne];show G.w.cell? _=_;rw[kE g2];grind
mutual
theorem tf(h:cW G):∀(v:V){tm:Array Value}{x:Value},bC G tm v x->loose G.hp v=false->∀{t:Ty}{y:t.den},rd G.hp v= .data t y->i5 G.env t y x
 | .data _ _,_,_,ha,_,_,_,hr=>by simp only[rd,V.data.injEq]at hr;obtain⟨rfl,hr⟩:=hr;have hr:=eq_of_heq hr;subst hr;simpa only[bC]using ha
 | .full _ _,_,_,ha,_,_,_,hr=>by simp only[rd,V.data.injEq]at hr;obtain⟨rfl,hr⟩:=hr;have hr:=eq_of_heq hr;subst hr;simp only[bC]at ha;exact i5.gu ha.1 rfl
 | .app id ver,_,_,ha,hl,_,_,hr=>by
  simp only[loose]at hl;split at hl
  ·rename_i t' l ver' hb;simp only[rd,hb]at hr;split at hr
   ·rename_i hv;have hv:=eq_of_beq_eq_true hv;subst hv;simp only[V.data.injEq]at hr;obtain⟨rfl,hr⟩:=hr;have hr:=eq_of_heq hr;subst hr;simp only[bC]at ha;unfold lh at ha;rw[hb]at ha;rw[ha.2.2 rfl];exact i5.gu (qE h hb) rfl
   ·cases hr
  ·cases hl
 | .view id p t0 n lo hi,_,_,ha,hl,_,_,hr=>by
  simp only[loose]at hl;split at hl
  ·rename_i c cv hb;simp only[rd,hb]at hr;split at hr
   ·rename_i n' t' l hg;split at hr
    ·rename_i hnt;obtain⟨rfl,rfl⟩:=hnt;simp only[V.data.injEq]at hr;obtain⟨rfl,hr⟩:=hr;have hr:=eq_of_heq hr;subst hr;simp only[bC]at ha;exact i5.gu (zs h ha hb hg) rfl
    ·cases hr
   ·cases hr
  ·cases hl
 | .agg t l,_,_,ha,hl,_,_,hr=>by simp only[rd]at hr;obtain⟨e,hg⟩:=qY hr;subst e;simp only[bC]at ha;obtain⟨cs,rfl,hf⟩:=ha;exact .yU (DU h l hf (by simpa only[loose]using hl) hg) hf.isAgg
 | .any,_,_,_,_,_,_,hr=>by simp[rd]at hr
 | .nilp,_,_,_,_,_,_,hr=>by simp[rd]at hr
 | .snil,_,_,_,_,_,_,hr=>by simp[rd]at hr
 | .ref _ _ _,_,_,_,_,_,_,hr=>by simp[rd]at hr
 | .iref _ _,_,_,_,_,_,_,hr=>by simp[rd]at hr
 | .tup _,_,_,_,_,_,_,hr=>by simp[rd]at hr
 | .opt _ _ _,_,_,_,_,_,_,hr=>by simp[rd]at hr
 | .fn _ _ _,_,_,_,_,_,_,hr=>by simp[rd]at hr
 | .ifc _ _,_,_,_,_,_,_,hr=>by simp[rd]at hr
 | .mth _ _,_,_,_,_,_,_,hr=>by simp[rd]at hr
 | .map _,_,_,_,_,_,_,hr=>by simp[rd]at hr
 | .glob _,_,_,_,_,_,_,hr=>by simp[rd]at hr
theorem DU(h:cW G):∀(l:List V){t:Ty}{cs:List Value},dE G t l cs->lQ G.hp l=false->∀{y:t.den},getArgs t (uL G.hp l)=some y->an G.env t y cs
 |[],t,cs,hf,_,y,hg=>by simp only[uL]at hg;exact mz hg hf
 |v::l,t,cs,hf,hl,y,hg=>by
  simp only[dE]at hf;obtain⟨a,r,x,cs',h1,rfl,h2,h3,h4⟩:=hf;simp only[uL]at hg;simp only[lQ,Bool.or_eq_false_iff]at hl;cases t with
  |pair p q=>
   simp only[i6,Option.some.injEq,Prod.mk.injEq]at h1;obtain⟨rfl,rfl⟩:=h1;cases hv:rd G.hp v<;>rw[hv]at hg<;>simp only[getArgs,reduceCtorEq]at hg;split at hg
   ·cases hg
   ·rename_i z hz;split at hg
    ·cases hg
    ·rename_i y2 hy2;obtain⟨rfl,rfl⟩:=il hz;cases hg;exact⟨_,_,rfl,(tf h v h3 hl.1 hv).cells,DU h l h4 hl.2 hy2⟩
  |unit=>simp[i6]at h1
  |arr n t=>cases n<;>simp[getArgs]at hg
  |_=>simp[i6]at h1
end
mutual
theorem ya:∀(v:V)(G:GE),cW G->∀{tm:Array Value}{x:Value},bC G tm v x->∀{t:Ty}{y:t.den},rd G.hp v= .data t y->i5 (G.fI (frz G.hp v)).env t y x
 | .app id ver,G,h,tm,x,ha,t,y,hr=>by
  simp only[rd]at hr;simp only[frz];split at hr
  ·rename_i t' l ver' z hb;rw[hb];split at hr
   ·rename_i hv;have hv:=eq_of_beq_eq_true hv;subst hv;simp only[V.data.injEq]at hr;obtain⟨rfl,hr⟩:=hr;have hr:=eq_of_heq hr;subst hr;simp only[bC]at ha;unfold lh at ha;rw[hb]at ha;rw[ha.2.2 rfl];have h2:=(h.Qf hb).2;exact i5.gu (qE h2 (by simp only[GE.fI];rw[bO,if_pos rfl];rfl)) rfl
   ·cases hr
  ·cases hr
 | .view id p t0 n lo hi,G,h,tm,x,ha,t,y,hr=>by
  simp only[rd]at hr;simp only[frz];split at hr
  ·rename_i c cv z hb;rw[hb];split at hr
   ·rename_i n' t' l hg;split at hr
    ·rename_i hnt;obtain⟨rfl,rfl⟩:=hnt;simp only[V.data.injEq]at hr;obtain⟨rfl,hr⟩:=hr;have hr:=eq_of_heq hr;subst hr;simp only[bC]at ha;obtain⟨t2,h2⟩:=h.Qf hb;have ha2:lj (G.fI (fR G.hp id (xF (.cell c cv z)))) id p t' n' lo hi x:=ha.jE t2.kC (u:=0) rfl;exact i5.gu (zs h2 ha2 (by simp only[GE.fI];rw[bO,if_pos rfl];rfl) hg) rfl
    ·cases hr
   ·cases hr
  ·cases hr
 | .agg t l,G,h,tm,x,ha,t',y,hr=>by simp only[rd]at hr;obtain⟨e,hg⟩:=qY hr;subst e;simp only[bC]at ha;obtain⟨cs,rfl,hf⟩:=ha;simp only[frz];exact .yU (Kt l G h hf hg) hf.isAgg
 | .data _ _,G,h,_,_,ha,_,_,hr=>by simp only[frz];exact tf h _ ha rfl hr
 | .full _ _,G,h,_,_,ha,_,_,hr=>by simp only[frz];exact tf h _ ha rfl hr
 | .any,_,_,_,_,_,_,_,hr=>by simp[rd]at hr
 | .nilp,_,_,_,_,_,_,_,hr=>by simp[rd]at hr
 | .snil,_,_,_,_,_,_,_,hr=>by simp[rd]at hr
 | .ref _ _ _,_,_,_,_,_,_,_,hr=>by simp[rd]at hr
 | .iref _ _,_,_,_,_,_,_,_,hr=>by simp[rd]at hr
 | .tup _,_,_,_,_,_,_,_,hr=>by simp[rd]at hr
 | .opt _ _ _,_,_,_,_,_,_,_,hr=>by simp[rd]at hr
 | .fn _ _ _,_,_,_,_,_,_,_,hr=>by simp[rd]at hr
 | .ifc _ _,_,_,_,_,_,_,_,hr=>by simp[rd]at hr
 | .mth _ _,_,_,_,_,_,_,_,hr=>by simp[rd]at hr
 | .map _,_,_,_,_,_,_,_,hr=>by simp[rd]at hr
 | .glob _,_,_,_,_,_,_,_,hr=>by simp[rd]at hr
theorem Kt:∀(l:List V)(G:GE),cW G->∀{t:Ty}{cs:List Value},dE G t l cs->∀{y:t.den},getArgs t (uL G.hp l)=some y->an (G.fI (my G.hp l)).env t y cs
 |[],G,h,t,cs,hf,y,hg=>by simp only[uL]at hg;simp only[my];exact mz hg hf
 |v::l,G,h,t,cs,hf,y,hg=>by
  simp only[dE]at hf;obtain⟨a,r,x,cs',h1,rfl,h2,h3,h4⟩:=hf;simp only[uL]at hg;simp only[my];obtain⟨t1,k1⟩:=vl v G h;obtain⟨t2,k2⟩:=pA l _ k1;cases t with
  |pair p q=>
   simp only[i6,Option.some.injEq,Prod.mk.injEq]at h1;obtain⟨rfl,rfl⟩:=h1;cases hv:rd G.hp v<;>rw[hv]at hg<;>simp only[getArgs,reduceCtorEq]at hg;split at hg
   ·cases hg
   ·rename_i z hz;split at hg
    ·cases hg
    ·rename_i y2 hy2;obtain⟨rfl,rfl⟩:=il hz;cases hg;have e1:=ya v G h h3 hv;have e2:=Kt l (G.fI (frz G.hp v)) k1 (t:=q) (cs:=cs') (by have:=dE.jE t1.kC _ _ _ h4;rwa [l9]at this) (y:=y2) (by rw[show(G.fI (frz G.hp v)).hp=frz G.hp v from rfl,wR (sU v G.hp)];exact hy2);exact⟨_,_,rfl,(e1.ext t2.kC.env).cells,e2⟩
  |unit=>simp[i6]at h1
  |arr n t=>cases n<;>simp[getArgs]at hg
  |_=>simp[i6]at h1
end
end
section
variable {P:Program}{C:Ctx}{G:GE}{fr:List V}{ρ:Operand->Value}{tm:Array Value}
structure uW(G:GE)(tm:Array Value)(fr:List V)(ρ:Operand->Value):Prop where
 ev:∀x,bC G tm (Bx.ev fr x) (ρ x)
 tmp:∀d,ρ (.tmp d)=tm.getD d undef
theorem uW.un(h:uW G tm fr ρ){g:Option Gd}(hg:MD g tm)(x:Operand):bC G tm (Bx.un g (Bx.ev fr x)) (ρ x):=RX hg (h.ev x)
theorem uW.ud(h:uW G tm fr ρ){g:Option Gd}(hg:MD g tm)(x:Operand):bC G tm (Bx.dd (Bx.un g (Bx.ev fr x))) (ρ x):=(h.un hg x).dd
theorem fQ{c:Prop}{i:Decidable c}{v v':V}(h:kx v=some (.val c i v')):v=v':=by simp only[kx,Option.some.injEq,Out.val.injEq]at h;exact h.2.2
theorem mB{q:Prop}[Decidable q]{c:Prop}{i:Decidable c}{v v':V}(h:uk q v=some (.val c i v')):q=c/\v=v':=by simp only[uk,Option.some.injEq,Out.val.injEq]at h;exact⟨h.1,h.2.2⟩
theorem uW.arm(h:uW G tm fr ρ){d:Nat}{t:Bool}(ht:tm[d]? =some (.bool t))(wt:Bool)(x:Operand){y:Bool}
  (hy:(match Bx.ev fr x with
    | .opt d' w' (.data .bool y)=>if Nat.beq d' d&&(wt==w')then some y else none
    | .data .bool y=>some y
    |_=>none)=some y) (hwt:wt=t):ρ x= .bool y:=by
 have he:=h.ev x;split at hy
 ·rename_i d' w' y' heq;split at hy
  ·rename_i hd;simp only[and_eq_true,beq_iff_eq]at hd;have hd1:d'=d:=eq_of_beq_eq_true hd.1;have hd2:=hd.2;subst hd1;subst hd2;subst hwt;rw[heq]at he;simp only[bC]at he;have:=he.1 ht;have hb:=bC.bool (by simpa[bC]using this:bC _ tm (.data .bool y') _);rw[hb,Option.some.inj hy]
  ·cases hy
 ·rename_i y' heq;rw[heq]at he;rw[he.bool,Option.some.inj hy]
 ·cases hy
theorem uW.bool(h:uW G tm fr ρ){d:Nat}{t:Bool}(hb:ρ (.tmp d)= .bool t):tm[d]? =some (.bool t):=by
 rw[h.tmp,Array.getD_eq_getD_getElem?]at hb;cases hd:tm[d]? with
 |none=>rw[hd]at hb;simp[undef]at hb
 |some v=>rw[hd]at hb;simp at hb;rw[hb]
theorem ON{G:GE}{tm:Array Value}:∀{l:List V}{vs:List Value}{i:Nat},iH G tm l vs->i<l.length->∃x,vs[i]? =some x/\bC G tm (nth l i) x
 |[],_,_,_,h=>by simp at h
 |v::l,[],_,h,_=>by simp[iH]at h
 |v::l,x::vs,0,h,_=>⟨x,rfl,by simp only[iH]at h;exact h.1⟩
 |v::l,x::vs,i+1,h,hi=>by simp only[iH]at h;obtain⟨y,h1,h2⟩:=ON (i:=i) h.2 (by simpa using hi);exact⟨y,by simpa using h1,by simpa[nth]using h2⟩
theorem BT{E:Env}{τ:Ty}{l:List τ.den}{v:Value}(h:an E (.sl τ) l [v])(i:Nat)(hi:i<l.length):
  ∃(b:Addr)(cap:Nat)(ds:List Value),v= .slice (some b) l.length cap/\b.spot=none/\an E τ (l.getD i τ.zero) ds/\(ds=[]\/∃m,b.off+i*τ.size+ds.length<=m/\E.im b.block m)/\
   ∀j u,ds[j]? =some u->E.w.cell? ⟨b.block,b.off+i*τ.size+j,none⟩=some u:=by
 rcases h with ⟨rfl,_⟩|⟨b,cap,css,hc,hs,hl,hcap,ha,him,hcell⟩
 ·simp at hi
 ·simp at hc;obtain⟨hm,hr⟩:=ha.get i hi;have hgd:l.getD i τ.zero=l[i]:=by simp[List.getD,getElem?_eq_getElem hi]
  have hlen:=an.length _ _ _ hr;have htot:=df.dX (fun a cs h=>an.length τ a cs h) ha;have h2:(i+1)*τ.size<=l.length*τ.size:=mul_le_mul_right _ (by omega);rw[add_mul]at h2;refine⟨b,cap,css[i],hc,hs.resolve_right (fun h=>by rw[h]at hi;simp at hi),by rw[hgd];exact hr,?_,fun j u hj=>?_⟩
  ·rcases him with him|⟨m,hm1,hm2⟩
   ·rw[him]at htot;have hz:τ.size=0:=by
     grind
    exact .inl (eq_nil_of_length_eq_zero (by rw[hlen,hz]))
   ·exact .inr ⟨m,by omega,hm2⟩
  ·have:=fH (fun a cs h=>an.length τ a cs h) ha i _ (getElem?_eq_getElem hm) j u hj;have:=hcell _ _ this;rw[add_assoc];exact this
theorem Jr{im:Nat->Nat->Prop}{b o o2:Nat}{ds cs:List Value}(h:ds=[]\/∃m,o+ds.length<=m/\im b m)(g:∀j v,cs[j]? =some v->ds[o2+j]? =some v):
  cs=[]\/∃m,o+o2+cs.length<=m/\im b m:=by
 cases hc:cs with
 |nil=>exact .inl rfl
 |cons c r=>
  right;have hlt:cs.length-1<cs.length:=by rw[hc];simp
  have:=g (cs.length-1) _ (getElem?_eq_getElem hlt);have hb:o2+(cs.length-1)<ds.length:=by grind
  rcases h with h|⟨m,h1,h2⟩
  ·rw[h]at hb;simp at hb
  ·exact⟨m,by rw[<-hc];omega,h2⟩
theorem HM{f:Operand->V}{l:List Operand}{p q:V}(h:l.map f=[p,q]):∃a1 a2,l=[a1,a2]/\f a1=p/\f a2=q:=by
 cases l with
 |nil=>simp at h
 |cons a1 l=>cases l with
  |nil=>simp at h
  |cons a2 l=>cases l with
   |nil=>simp at h;exact⟨a1,a2,rfl,h.1,h.2⟩
   |cons _ _=>simp at h
theorem rB{cs ds:List Value}{o n:Nat}(h:∀j v,cs[j]? =some v->ds[o+j]? =some v)(hl:cs.length=n):(ds.drop o).take n=cs:=by apply List.ext_getElem?;grind
theorem foldl_push:∀(l:List Int)(s:ByteArray),(∀b∈l,0<=b/\b<256)->bytesOf (l.foldl (fun r n=>r.push (UInt8.ofNat n.toNat)) s)=bytesOf s++l
 |[],s,_=>by simp
 |n::l,s,h=>by
  have hn:=h n (by simp);rw[List.foldl_cons,foldl_push l _ fun b hb=>h b (List.mem_cons_of_mem _ hb)];have:bytesOf (s.push (UInt8.ofNat n.toNat))=bytesOf s++[n]:=by
   simp only[bytesOf,ByteArray.push,Array.toList_push,List.map_append,map_cons,map_nil];congr 2;have:(UInt8.ofNat n.toNat).toNat=n.toNat:=by rw[UInt8.toNat_ofNat'];omega
   omega
  rw[this];simp
theorem sD{E:Env}:∀(l:List Int)(css:List (List Value)),df (an E (.int .u8)) l css->css.flatten=l.map (Value.int .u8)/\∀n∈l,0<=n/\n<256
 |[],[],_=>by simp
 |[],_::_,h=>h.elim
 |_::_,[],h=>h.elim
 |n::l,c::css,⟨⟨hc,hr⟩,h⟩=>by
  obtain⟨i1,i2⟩:=sD l css h;refine⟨by simp[hc,i1],fun m hm=>?_⟩;rcases List.mem_cons.1 hm with rfl|hm
  ·rw[iE]at hr;simp only[IntKind.min,IntKind.max,IntKind.signed,IntKind.bits]at hr;simp at hr;omega
  ·exact i2 m hm
theorem Cz{src dst e:TypeId}(h1:P.underlying src=some (.slice e))(h2:P.underlying e=some (.int .u8))(h3:P.underlying dst=some .string){l:List Int}{v:Value}(h:uf G (.int .u8) l v):
  ∃s,(convert src dst v).run P G.w= .ok (.string s) G.w/\bytesOf s=l/\s.size<=maxLen:=by
 obtain⟨a,cap,css,rfl,hl,hcap,ha,hc⟩:=h;obtain⟨b1,b2⟩:=sD l css ha;have hlen:∀s:ByteArray,bytesOf s=l->s.size<=maxLen:=fun s hs=>by
  have:(bytesOf s).length=s.size:=by simp[bytesOf]
  grind
 cases a with
 |none=>
  have hl0:l=[]:=by grind
  subst hl0;refine⟨.empty,?_,rfl,by simp[maxLen]⟩;simp[convert,run_underlying h1,run_underlying h2,run_underlying h3,Conv.bytesToString]
 |some b=>
  have hload:(loadCells b (List.length l)).run P G.w= .ok (l.map (Value.int .u8)).toArray G.w:=by
   have:=run_loadCells_list (P:=P) G.w b (l.map (Value.int .u8)) (fun j v hj=>by
    rw[<-b1]at hj;rcases hc with rfl|⟨ad,e1,e2,e3⟩
    ·grind
    ·cases e1;rw[add_plain _ _ e2];exact e3 j v hj)
   simpa using this
  refine⟨l.foldl (fun r n=>r.push (UInt8.ofNat n.toNat)) ByteArray.empty,?_,?_,?_⟩
  ·rw[run_convert_bytes_string G.w src dst e _ _ _ h1 h2 h3,run_bytesToString G.w _ _ _ l hload]
  ·rw[foldl_push l _ b2];rfl
  ·exact hlen _ (by rw[foldl_push l _ b2];rfl)
theorem Qt(l:List Value)(n:Nat)(d:Value)(ds:List Value)(h:n<l.length):lay (l.set n d) (n+1) ds=lay l n (d::ds):=by
 have e:l=l.take n++l[n]::l.drop (n+1):=by simp
 have hl:(l.take n).length=n:=by simp;omega
 unfold lay;have h1:(l.set n d).take (n+1)=l.take n++[d]:=by grind
 have h2:(l.set n d).drop (n+1+ds.length)=l.drop (n+(d::ds).length):=by rw[List.drop_set_of_lt (by omega)];congr 1;simp;omega
 rw[h1,h2];simp
theorem AO:∀(ds:List Value)(k off:Nat)(arr:Array Value),off+k+ds.length<=arr.size->((ds.zipIdx k).foldl (fun(cs:Array Value)(p:Value×Nat)=>cs.setIfInBounds (off+p.2) p.1) arr).toList=lay arr.toList (off+k) ds
 |[],k,off,arr,h=>by simp[lay]
 |d::ds,k,off,arr,h=>by simp only[List.zipIdx_cons,List.foldl_cons];simp only[List.length_cons]at h;rw[AO ds (k+1) off _ (by simp;omega)];simp only[Array.toList_setIfInBounds];rw[show off+(k+1)=off+k+1 by omega,Qt _ _ _ _ (by simp;omega)]
theorem Ec(w:World):∀(τ:Ty)(fs:List Field)(off:Nat),dh P τ fs off->∃ps:List (Nat×Nat),(fs.mapM fun(f:Field)=>(do pure (f.offset,<-sizeOf f.type):Sem (Nat×Nat))).run P w= .ok ps w/\
  ∀j o u,aX τ [.fld j]=some (o,u)->ps[j]? =some (off+o,u.size)
 | .unit,fs,off,h=>by simp only[dh]at h;subst h;exact⟨[],by simp,fun j o u h=>by simp[aX]at h⟩
 | .pair a b,fs,off,h=>by
  obtain⟨f,r,rfl,h1,h2,h3,h4,h5⟩:=h;obtain⟨ps,g1,g2⟩:=Ec w b r (off+a.size) h5;refine⟨(f.offset,a.size)::ps,?_,fun j o u hj=>?_⟩
  ·rw[List.mapM_cons];simp only[Sem.run_bind,dn w h4.info,Result.andThen_ok,Sem.run_pure]at g1⊢;rw[g1];rfl
  ·cases j with
   |zero=>
    simp only[aX]at hj;have:o=0/\u=a:=by cases a<;>simp at hj<;>exact⟨hj.1.symm,hj.2.symm⟩
    obtain⟨rfl,rfl⟩:=this;simp[h1]
   |succ j=>
    simp only[aX]at hj;cases h6:aX b [.fld j]with
    |none=>simp[h6]at hj
    |some q=>simp[h6]at hj;obtain⟨rfl,rfl⟩:=hj;have:=g2 j q.1 q.2 h6;simp[this];omega
 | .int _,_,_,h=>by simp[dh]at h
 | .bool,_,_,h=>by simp[dh]at h
 | .str,_,_,h=>by simp[dh]at h
 | .sl _,_,_,h=>by simp[dh]at h
 | .arr _ _,_,_,h=>by simp[dh]at h
 | .opq,_,_,h=>by simp[dh]at h
theorem ua(w:World){τ:Ty}{t:TypeId}(h:Info P t τ):∃z:Value,(zeroValue t).run P w= .ok z w/\zJ τ z.cells.toList/\(τ.isAgg=true->∃cs,z= .agg cs)/\(τ.isAgg=false->fC z):=by obtain⟨inf,z,h1,h2,h3,h4,h5,h6,h7⟩:=h;exact⟨z,by simp[zeroValue,typeInfo,h1,h3],h4,h5,h6⟩
theorem Jp{τ:Ty}{i:Nat}{u:Ty}(h:mf τ [stepOf τ i]=some u)(ho:(aX τ [stepOf τ i]).isSome=true):∃o,aX τ [stepOf τ i]=some (o,u):=by obtain⟨⟨o,u'⟩,h'⟩:=Option.isSome_iff_exists.1 ho;have:=lD h';grind
theorem bC.o7{u:Ty}{v:V}{x:Value}(h:bC G tm v x):bC G tm (Bx.o7 u v) x:=by
 cases v with
 |snil=>
  simp only[Bx.o7];split
  ·simp only[bC]at h⊢;exact⟨.inl ⟨rfl,by rw[h]⟩,none,0,h⟩
  ·exact h
 |_=>exact h
theorem yy{e:Operand->V}{τ:Ty}{place:Nat->Option (Nat×Nat)}(hp:∀i o u,aX τ [stepOf τ i]=some (o,u)->place i=some (o,u.size)):
  ∀(parts:List (Nat×Operand))(c c':V)(cs:Array Value),(∀x,bC G tm (e x) (ρ x))->dZ G τ c cs.toList->nS e τ parts c=some c'->
   ∃cs',Instr.fill place cs (parts.map fun p=>(p.1,ρ p.2))=some cs'/\dZ G τ c' cs'.toList
 |[],c,c',cs,_,hf,h=>by simp only[nS,Option.some.injEq]at h;subst h;exact⟨cs,rfl,hf⟩
 |(i,x)::r,c,c',cs,hx,hf,h=>by
  simp only[nS]at h;split at h
  ·rename_i u hu;have hya:bC G tm (o7 u (e x)) (ρ x):=(hx x).o7;generalize o7 u (e x)=y at h hya;split at h
   ·rename_i hfit;simp only[and_eq_true]at hfit;split at h
    ·rename_i z hz;obtain⟨o,ho⟩:=Jp hu hfit.2;obtain⟨hyf,hys⟩:=oo hfit.1 hya;obtain⟨hle,hzf⟩:=qz _ hf ho hyf hz;have hsz:(ρ x).cells.size=u.size:=hys.size;simp only[Array.length_toList]at hle;simp only[map_cons,Instr.fill,hp i o u ho];rw[if_neg (by simp[hsz];omega)];have e1:=AO (ρ x).cells.toList 0 o cs (by simpa using hle);have e2:(Array.foldl (fun(cs:Array Value)(p:Value×Nat)=>cs.setIfInBounds (o+p.2) p.1) cs (ρ x).cells.zipIdx)=((ρ x).cells.toList.zipIdx 0).foldl (fun(cs:Array Value)(p:Value×Nat)=>cs.setIfInBounds (o+p.2) p.1) cs:=by
      rw[<-Array.foldl_toList,Array.toList_zipIdx]
     obtain⟨cs',g1,g2⟩:=yy hp r z c' (((ρ x).cells.toList.zipIdx 0).foldl (fun(cs:Array Value)(p:Value×Nat)=>cs.setIfInBounds (o+p.2) p.1) cs) hx (by rw[e1];simpa using hzf) h;grind
    ·cases h
   ·cases h
  ·cases h
theorem I7(w:World){τ:Ty}{t:TypeId}(ht:jo P τ t)(hag:τ.isAgg=true)(z:Value)(hz1:∀w,(zeroValue t).run P w= .ok z w)(parts:Array (Nat×Value))(hnil:τ= .unit->parts= #[]):
  ∃place:Nat->Option (Nat×Nat),(∀i o u,aX τ [stepOf τ i]=some (o,u)->place i=some (o,u.size))/\∀cs',Instr.fill place z.cells parts.toList=some cs'->(Instr.build t parts).run P w= .ok (.agg cs') w:=by
 cases τ with
 |arr n σ=>
  obtain⟨el,hu,hσ,_⟩:=ht;refine⟨fun i=>some (i*σ.size,σ.size),fun i o u ho=>?_,fun cs' h1=>?_⟩
  ·simp only[stepOf,aX]at ho;split at ho
   ·have:aX σ []=some (0,σ):=by cases σ<;>rfl
    first|rw[this]at ho|skip
    simp at ho;obtain⟨rfl,rfl⟩:=ho;simp
   ·cases ho
  ·simp only[Instr.build,Sem.run_bind,hz1,Result.andThen_ok,run_underlying hu,dn w hσ.info,h1,Sem.run_pure]
 |unit=>refine⟨fun _=>none,fun i o u ho=>by simp[stepOf,aX]at ho,fun cs' h1=>?_⟩;rw[hnil rfl]at h1⊢;simp only[Instr.fill,Option.some.injEq]at h1;subst h1;simp only[Instr.build,Sem.run_bind,hz1,Result.andThen_ok,run_underlying ht.1,Instr.fill];simp
 |pair a b=>
  obtain⟨fs,hu,h2,_⟩:=ht;have hf:dh P (.pair a b) fs.toList 0:=h2;obtain⟨ps,g1,g2⟩:=Ec w _ _ _ hf;refine⟨fun i=>ps.toArray[i]?,fun i o u ho=>by have:=g2 i o u ho;simpa using this,fun cs' h1=>?_⟩;have e:(fs.mapM fun(f:Field)=>(do pure (f.offset,<-sizeOf f.type):Sem (Nat×Nat)))=(fs.toList.mapM (fun(f:Field)=>(do pure (f.offset,<-sizeOf f.type):Sem (Nat×Nat)))>>=fun l=>pure l.toArray):=by rw[Array.mapM_eq_mapM_toList];rfl
  simp only[Instr.build,Sem.run_bind,hz1,Result.andThen_ok,run_underlying hu,e,g1,Sem.run_pure,h1]
 |_=>simp[Ty.isAgg]at hag
theorem K8{e:Operand->V}{τ:Ty}{t:TypeId}(ht:jo P τ t)(hag:τ.isAgg=true){parts:Array (Nat×Operand)}{c':V}
  (hx:∀x,bC G tm (e x) (ρ x)) (h:nS e τ parts.toList (zeroV τ)=some c'):∃v,(Instr.build t (parts.map fun p=>(p.1,ρ p.2))).run P G.w= .ok v G.w/\bC G tm c' v:=by
 obtain⟨z,hz1,hz2,hz3,_⟩:=ua (P:=P) G.w ht.info;have hz1':∀w,(zeroValue t).run P w= .ok z w:=by
  obtain⟨inf,z',h1,h2,h3,_⟩:=ht.info;intro w;have e1:(zeroValue t).run P w= .ok z' w:=by simp[zeroValue,typeInfo,h1,h3]
  have e2:(zeroValue t).run P G.w= .ok z' G.w:=by simp[zeroValue,typeInfo,h1,h3]
  grind
 have hzf:=na (G:=G) τ _ (ht.chained) hz2;have hnil:τ= .unit->(parts.map fun p=>(p.1,ρ p.2))= #[]:=by
  rintro rfl;have hps:parts.toList=[]:=by
   cases hq:parts.toList with
   |nil=>rfl
   |cons p r=>rw[hq]at h;simp[nS,stepOf,mf]at h
  simp_all
 obtain⟨place,hp,hrun⟩:=I7 G.w ht hag z hz1' (parts.map fun p=>(p.1,ρ p.2)) hnil;obtain⟨cs',h1,h2⟩:=yy hp parts.toList _ c' z.cells hx hzf h;refine⟨.agg cs',hrun cs' (by rw[Array.toList_map];exact h1),?_⟩;obtain⟨y,hy1,hy2,hy3,_⟩:=bC.zW h2;have:=hy3 hag;rw[this]at hy2;have ho:gD c'=c':=by obtain⟨_,_,hs,_⟩:=h2;have:=hs.tree hag;cases c'<;>simp[V.tree]at this<;>rfl
 have h4:=hy2.gD (tm':=tm);rw[ho]at h4;simpa using h4
end
section
variable {P:Program}{C:Ctx}{G:GE}{fr:List V}{ρ:Operand->Value}{tm:Array Value}
theorem DX(w:World){τ:Ty}{t:TypeId}(h:jo P τ t)(a:Addr)(ha:a.spot=none){v:V}{cs:List Value}(hx:dZ G τ v cs)
  (hc:∀j u,cs[j]? =some u->w.cell? ⟨a.block,a.off+j,none⟩=some u):∃x,(loadVar t a).run P w= .ok x w/\∀tm,bC G tm (gD v) x:=by
 have hl:=hx.length;obtain⟨x,e1,e2,e3,e4⟩:=bC.zW hx;refine⟨x,?_,fun tm=>e2.gD⟩;cases hτ:τ.isAgg with
 |true=>have hcs:=run_loadCells_list (P:=P) w a cs (fun j v hj=>by rw[add_plain a j ha];exact hc j v hj);rw[hl]at hcs;simp[loadVar,mb w h,hτ,dn w h.info,hcs,e3 hτ]
 |false=>
  have e5:=e4 hτ;have h0:=hc 0 x (by rw[e5];simp);have ea:(⟨a.block,a.off+0,none⟩:Addr)=a:=by obtain⟨b,o,s⟩:=a;simp at ha;subst ha;rfl
  rw[ea]at h0;simp[loadVar,mb w h,hτ,run_load,h0]
theorem jY.at{id ver:Nat}{p:List Step}{v:Value}(h:jY G id ver p v){τ:Ty}(ht:yl (aw G.hp id) ver p=some τ):∃a,v= .pointer (some a)/\a.spot=none/\∀s o2 u2,aX τ [s]=some (o2,u2)->jY G id ver (p++[s]) (.pointer (some ⟨a.block,a.off+o2,none⟩)):=by
 unfold jY at h⊢;split at h
 ·rename_i t c z hb;obtain⟨b,o,u,h1,h2,rfl⟩:=h;rw[hb]at ht;simp only[yl]at ht;have:=lD h2;rw[ht]at this;cases this;refine⟨_,rfl,rfl,fun s o2 u2 ho=>?_⟩;exact⟨b,o+o2,u2,h1,oy s h2 ho,rfl⟩
 ·rename_i t l ver' z hb;rw[hb]at ht;obtain⟨h1,⟨a,h2⟩,h3⟩:=h;cases p with
  |nil=>simp[yl]at ht
  |cons s0 q0=>
   cases s0 with
   |fld j=>simp[yl]at ht
   |idx i0=>
    simp only[yl]at ht;split at ht
    ·rename_i hv;have hv:=eq_of_beq_eq_true hv;obtain⟨b,i,q,o,u,e1,e2,e3,e4,e5,rfl⟩:=h3 hv;cases e1;have:=lD e5;rw[ht]at this;cases this;refine⟨_,rfl,rfl,fun s o2 u2 ho=>?_⟩;refine⟨h1,⟨_,rfl⟩,fun _=>⟨b,i0,q0++[s],o+o2,u2,rfl,e2,e3,e4,oy s e5 ho,?_⟩⟩;simp[add_assoc]
    ·cases ht
 ·exact h.elim
theorem O6(hR:cW G){id ver:Nat}{p:List Step}{v:Value}(h:jY G id ver p v){τ:Ty}(ht:yl (aw G.hp id) ver p=some τ):
  ∃a cs,v= .pointer (some a)/\a.spot=none/\dZ G τ (KR (aw G.hp id) p) cs/\∀j u,cs[j]? =some u->G.w.cell? ⟨a.block,a.off+j,none⟩=some u:=by
 unfold jY at h;split at h
 ·rename_i t c z hb;obtain⟨b,o,u,h1,h2,rfl⟩:=h;rw[hb]at ht⊢;simp only[yl]at ht;have:=lD h2;rw[ht]at this;cases this;obtain⟨b',arr,ty,g1,g2,g3⟩:=hR.cell hb;rw[h1]at g1;cases g1;obtain⟨cs1,f1,f2,_⟩:=ot p g3 h2;exact⟨_,cs1,rfl,rfl,by simpa only[KR]using f1,fun j u hj=>by rw[kE g2];exact f2 j u hj⟩
 ·rename_i t l ver' z hb;rw[hb]at ht⊢;obtain⟨h1,_,h3⟩:=h;cases p with
  |nil=>simp[yl]at ht
  |cons s0 q0=>
   cases s0 with
   |fld j=>simp[yl]at ht
   |idx i0=>
    simp only[yl]at ht;split at ht
    ·rename_i hv;have hv:=eq_of_beq_eq_true hv;obtain⟨b,i,q,o,u,e1,e2,e3,e4,e5,rfl⟩:=h3 hv;cases e1;have:=lD e5;rw[ht]at this;cases this;rcases hR.blk _ _ hb with ⟨b',arr,ty,css,cap,rest,g1,g2,g3,g4,g5,g6,g7,g8⟩|⟨g1,_⟩
     ·rw[e2]at g1;cases g1;obtain⟨hm,hr⟩:=g4.get i0.toNat e4;have hgd:(l:List t.den).getD i0.toNat t.zero=l[i0.toNat]:=by simp[List.getD,getElem?_eq_getElem e4]
      obtain⟨z',cs',k1,k2,k3⟩:=lZ t (l.getD i0.toNat t.zero) css[i0.toNat] q0 o τ (by rw[hgd];exact hr) e5;refine⟨_,cs',rfl,rfl,by simp only[KR];rw[k1];exact .je k2,fun j u hj=>?_⟩;rw[kE g3,g5];have:=fH (fun a cs h=>an.length t a cs h) g4 i0.toNat _ (getElem?_eq_getElem hm) _ _ (k3 j u hj);simp only;rw[add_assoc,List.getElem?_append_left]
      ·exact this
      ·rcases Nat.lt_or_ge (i0.toNat*t.size+(o+j)) css.flatten.length with h|h
       ·exact h
       ·rw[List.getElem?_eq_none h]at this;cases this
     ·rw[e2]at g1;cases g1
    ·cases ht
 ·exact h.elim
theorem xJ{v:V}{x:Value}{n:Int}(h:bC G tm v x)(hi:sO v=some n):∃k,x= .int k n:=by
 cases v with
 |data t y=>
  cases t with
  |int k=>simp only[sO,Option.some.injEq]at hi;subst hi;exact⟨k,h.int.1⟩
  |_=>simp[sO]at hi
 |_=>simp[sO]at hi
theorem u9{e:Operand->V}(he:∀x,bC G tm (e x) (ρ x)){d:Int}{o:Option Operand}{n:Int}(h:gw e d o=some n):(o=none/\n=d)\/∃x k,o=some x/\ρ x= .int k n:=by
 cases o with
 |none=>simp only[gw,Option.some.injEq]at h;exact .inl ⟨rfl,h.symm⟩
 |some x=>simp only[gw]at h;obtain⟨k,hk⟩:=xJ (he x) h;exact .inr ⟨x,k,rfl,hk⟩
theorem lH(w:World)(isSlice:Bool)(len cap:Nat)(hlc:len<=cap){e:Operand->V}(he:∀x,bC G tm (e x) (ρ x)){lo hi:Option Operand}{a b:Int}(hlo:gw e 0 lo=some a)(hhi:gw e len hi=some b)
  (h0:0<=a) (h1:a<=b) (h2:b<=(len:Int)):(Instr.sliceBounds isSlice len cap (lo.map ρ) (hi.map ρ) none).run P w= .ok (a.toNat,b.toNat,cap) w:=by
 have hb1:(b.toNat:Int)=b:=Int.toNat_of_nonneg (by omega);rcases u9 he hlo with ⟨rfl,rfl⟩|⟨x,k,rfl,hx⟩<;>rcases u9 he hhi with ⟨rfl,rfl⟩|⟨y,k',rfl,hy⟩
 ·simp[Instr.sliceBounds]
 ·simp[Instr.sliceBounds,hy,run_sliceBound w k' b cap _ (by omega) (by omega)]
 ·simp[Instr.sliceBounds,hx,run_sliceBound w k a len _ h0 (by omega)]
 ·simp[Instr.sliceBounds,hx,hy,run_sliceBound w k' b cap _ (by omega) (by omega),run_sliceBound w k a b.toNat _ h0 (by omega)]
theorem yf(w:World)(isSlice:Bool)(len cap:Nat)(hlc:len<=cap){e:Operand->V}(he:∀x,bC G tm (e x) (ρ x)){lo:Option Operand}{hi mx:Operand}{a b:Int}(hlo:gw e 0 lo=some a)(hhi:sO (e hi)=some b)(hm:sO (e mx)=some b)
  (h0:0<=a) (h1:a<=b) (h2:b<=(len:Int)):(Instr.sliceBounds isSlice len cap (lo.map ρ) (some (ρ hi)) (some (ρ mx))).run P w= .ok (a.toNat,b.toNat,b.toNat) w:=by
 have hb1:(b.toNat:Int)=b:=Int.toNat_of_nonneg (by omega);obtain⟨k2,hm⟩:=xJ (he mx) hm;obtain⟨k3,hh⟩:=xJ (he hi) hhi;rcases u9 he hlo with ⟨rfl,rfl⟩|⟨x,k,rfl,hx⟩
 ·simp[Instr.sliceBounds,hm,hh,run_sliceBound w k2 b cap _ (by omega) (by omega),run_sliceBound w k3 b b.toNat _ (by omega) (by omega)]
 ·simp[Instr.sliceBounds,hm,hh,hx,run_sliceBound w k2 b cap _ (by omega) (by omega),run_sliceBound w k3 b b.toNat _ (by omega) (by omega),run_sliceBound w k a b.toNat _ h0 (by omega)]
theorem Ax{E:Env}{τ:Ty}{l:List τ.den}{a:Option Addr}{cap:Nat}(h:an E (.sl τ) l [.slice a l.length cap]){lo hi:Int}(h0:0<=lo)(h1:lo<=hi)(h2:hi<=(l.length:Int))(m:Nat)(hm1:hi.toNat<=m)(hm2:m<=cap):
  an E (.sl τ) (aA l lo hi) [.slice (if m=lo.toNat then a else a.map (·.add (lo.toNat*τ.size))) (hi.toNat-lo.toNat) (m-lo.toNat)]:=by
 have hcl:=nv l (lo:=lo) (hi:=hi) h0 h1 h2;rcases h with ⟨rfl,h⟩|⟨ad,cap',css,hc,hs,hl,hcap,ha,him,hcell⟩
 ·simp at h;obtain⟨rfl,rfl⟩:=h;have:lo.toNat=0/\hi.toNat=0:=by simp at h2;omega
  left;refine⟨by simp[aA],?_⟩;have hm0:m=0:=by omega
  simp[this.1,this.2,hm0]
 ·simp only[List.cons.injEq,Value.slice.injEq,and_true,true_and]at hc;obtain⟨rfl,rfl⟩:=hc;obtain⟨k1,k2⟩:=sN (fun a cs h=>an.length τ a cs h) ha lo hi;have hlen:=df.dX (fun a cs h=>an.length τ a cs h) k1;have hlen0:=df.dX (fun a cs h=>an.length τ a cs h) ha;right;by_cases hlo:m=lo.toNat
  ·have hz:hi.toNat-lo.toNat=0:=by omega
   have hnil:(aA css lo hi).flatten=[]:=by apply eq_nil_of_length_eq_zero;grind
   refine⟨ad,m-lo.toNat,aA css lo hi,by rw[if_pos hlo,hcl],.inr (eq_nil_of_length_eq_zero (by omega)),by rw[hcl];omega,by omega,k1,.inl hnil,fun j v hj=>by rw[hnil]at hj;simp at hj⟩
  ·rw[if_neg hlo];refine⟨ad.add (lo.toNat*τ.size),m-lo.toNat,aA css lo hi,by rw[hcl];rfl,?_,by rw[hcl];omega,by omega,k1,?_,fun j v hj=>?_⟩
   ·rcases hs with hs|hs
    ·left;rw[add_plain _ _ hs]
    ·right;have:List.length l=0:=by rw[hs];rfl
     exact eq_nil_of_length_eq_zero (by omega)
   ·rcases him with him|⟨k,hk1,hk2⟩
    ·left;rw[him]at hlen0;apply eq_nil_of_length_eq_zero;rw[hlen,hcl];simp at hlen0;rcases Nat.eq_zero_or_pos τ.size with hz|hz
     ·rw[hz,Nat.mul_zero]
     ·rcases Nat.mul_eq_zero.1 hlen0.symm with h|h
      ·have:hi.toNat-lo.toNat=0:=by omega
       rw[this,Nat.zero_mul]
      ·omega
    ·right;have hb:(ad.add (lo.toNat*τ.size)).block=ad.block:=by unfold Addr.add;split<;>rfl
     have ho:(ad.add (lo.toNat*τ.size)).off=ad.off+lo.toNat*τ.size:=by unfold Addr.add;split<;>simp_all
     refine⟨k,?_,by rw[hb];exact hk2⟩;rw[ho,hlen,hcl];have h2':(lo.toNat+(hi.toNat-lo.toNat))*τ.size<=List.length l*τ.size:=mul_le_mul_right _ (by omega);rw[add_mul]at h2';omega
   ·have hb:(ad.add (lo.toNat*τ.size)).block=ad.block:=by unfold Addr.add;split<;>rfl
    have ho:(ad.add (lo.toNat*τ.size)).off=ad.off+lo.toNat*τ.size:=by unfold Addr.add;split<;>simp_all
    rw[hb,ho,add_assoc];exact hcell _ _ (k2 j v hj)
theorem an.Vp{E:Env}{τ:Ty}{l:List τ.den}{x:Value}(h:an E (.sl τ) l [x]):∃a cap,x= .slice a l.length cap/\l.length<=cap:=by
 rcases h with ⟨rfl,h⟩|⟨a,cap,css,h,_,h2,_⟩
 ·grind
 grind
theorem vG(w:World){E:Env}{τ:Ty}{t e:TypeId}(hu:P.underlying t=some (.slice e))(hte:jo P τ e){f:Operand->V}(he:∀x,bC G tm (f x) (ρ x)){l:List τ.den}{x:Value}(hx:an E (.sl τ) l [x]){lo hi mx:Option Operand}{c:Prop}{i:Decidable c}{v:V}
  (h:lz f τ l lo hi mx=some (.val c i v)) (hc:c):
  ∃y,(Instr.sliceAt t x (lo.map ρ) (hi.map ρ) (mx.map ρ)).run P w= .ok y w/\((∃a b,v= .data (.sl τ) (aA l a b)/\an E (.sl τ) (aA l a b) [y])\/(∃a b,v= .full τ (aA l a b)/\an E (.sl τ) (aA l a b) [y]/\∃ad n,y= .slice ad n n)):=by
 obtain⟨a,cap,rfl,hlc⟩:=hx.Vp;unfold lz at h;split at h
 ·rename_i p q hp hq;split at h
  ·obtain⟨rfl,rfl⟩:=mB h;obtain⟨h0,h1,h2⟩:=hc;have hr:=lH (P:=P) w true l.length cap hlc he hp hq h0 h1 h2;refine⟨.slice (if cap=p.toNat then a else a.map (·.add (p.toNat*τ.size))) (q.toNat-p.toNat) (cap-p.toNat),?_,.inl ⟨p,q,rfl,Ax hx h0 h1 h2 cap (by omega) (le_refl _)⟩⟩;simp only[Instr.sliceAt,Sem.run_bind,run_underlying hu,Result.andThen_ok,Instr.slice,map_none,hr,dn w hte.info,Sem.run_pure]
  ·rename_i m;split at h
   ·rename_i mv y hmv;obtain⟨rfl,rfl⟩:=mB h;obtain⟨h0,h1,h2,rfl⟩:=hc
    ·have hr:=yf (P:=P) w true l.length cap hlc he (hi:=y) (mx:=m) hp (by simpa only[gw]using hq) hmv h0 h1 h2;have hcut:=Ax hx h0 h1 h2 mv.toNat (le_refl _) (by omega)
     refine⟨_,?_,.inr ⟨p,mv,rfl,hcut,_,_,rfl⟩⟩;simp only[Instr.sliceAt,Sem.run_bind,run_underlying hu,Result.andThen_ok,Instr.slice,map_some,hr,dn w hte.info,Sem.run_pure]
   ·cases h
 ·cases h
end
section
variable {P:Program}{C:Ctx}{G:GE}{fr:List V}{ρ:Operand->Value}{tm:Array Value}
theorem J7{n:Nat}(h:n<=9223372036854775807):pq .i64 (n:Int)=true:=by rw[iE];simp[IntKind.min,IntKind.max,IntKind.bits,IntKind.signed];omega
theorem oU{E:Env}{k:IntKind}:∀(l:List Int)(css:List (List Value)),df (an E (.int k)) l css->css.flatten=l.map (Value.int k)
 |[],[],_=>by simp
 |[],_::_,h=>h.elim
 |_::_,[],h=>h.elim
 |n::l,c::css,h=>by have h1:c=[.int k n]:=h.1.1;simp[h1,oU l css h.2]
theorem Kc{κ:Ty}(h:κ.key=true):κ.cmp=true/\κ.dep<=10000:=by
 cases κ with
 |int k=>simp[Ty.cmp,Ty.dep]
 |arr n t=>cases t<;>simp[Ty.key]at h;simp[Ty.cmp,Ty.dep]
 |_=>simp[Ty.key]at h
theorem Qn{E:Env}{κ:Ty}(h:κ.key=true){x:κ.den}{v:Value}(hv:i5 E κ x v):(∃k n,v= .int k n)\/∃k,∃l:List Int,v= .agg (l.map (Value.int k)).toArray:=by
 cases κ with
 |int k=>have:=(hv.one rfl).1;simp at this;exact .inl ⟨k,x,this⟩
 |arr n t=>cases t<;>simp[Ty.key]at h;rename_i k;obtain⟨cs,rfl,hl,css,hc,ha⟩:=hv.agg rfl;refine .inr ⟨k,x,?_⟩;rw[oU x css ha]at hc;rw[<-hc]
 |_=>simp[Ty.key]at h
theorem Gz{E:Env}{κ:Ty}(h:κ.key=true){x:κ.den}{v u:Value}(hv:i5 E κ x v)(hu:i5 E κ x u):v=u:=by
 cases κ with
 |int k=>have h1:=(hv.one rfl).1;have h2:=(hu.one rfl).1;simp at h1 h2;rw[h1,h2]
 |arr n t=>
  cases t<;>simp[Ty.key]at h;rename_i k;obtain⟨cs,rfl,hl,css,hc,ha⟩:=hv.agg rfl;obtain⟨cs',rfl,hl',css',hc',ha'⟩:=hu.agg rfl;have:cs=cs':=by apply Array.ext';rw[hc,hc',oU x css ha,oU x css' ha']
  rw[this]
 |_=>simp[Ty.key]at h
theorem JP{l m:List Int}(h:qO (fun x y:Int=>x==y) l m=true):l=m:=by
 induction l generalizing m with
 |nil=>cases m with
  |nil=>rfl
  |cons _ _=>simp[qO]at h
 |cons a l ih=>cases m with
  |nil=>simp[qO]at h
  |cons b m=>simp only[qO,and_eq_true,beq_iff_eq]at h;rw[h.1,ih h.2]
theorem Kb{κ:Ty}(h:κ.key=true){x y:κ.den}(he:az κ x y=true):x=y:=by
 cases κ with
 |int k=>simpa[az]using he
 |arr n t=>cases t<;>simp[Ty.key]at h;rename_i k;have he':qO (fun x y:Int=>x==y) x y=true:=he;exact JP he'
 |_=>simp[Ty.key]at h
theorem wW{k:IntKind}(n:Nat):∀l:List Int,((l.map (Value.int k)).zip (l.map (Value.int k))).all (fun(x,y)=>Instr.sameBits (n+1) x y)=true
 |[]=>rfl
 |a::l=>by have:=wW (k:=k) n l;simp only[map_cons,List.zip_cons_cons,List.all_cons,this,Bool.and_true];simp[Instr.sameBits]
theorem Fo{E:Env}{κ:Ty}(h:κ.key=true){x:κ.den}{v:Value}(hv:i5 E κ x v)(n:Nat):Instr.sameBits (n+2) v v=true:=by
 rcases Qn h hv with ⟨k,m,rfl⟩|⟨k,l,rfl⟩
 ·simp[Instr.sameBits]
 ·simp only[Instr.sameBits,BEq.rfl,Bool.true_and];exact wW n l
theorem wV{E:Env}{κ:Ty}(h:κ.key=true){x:κ.den}{v:Value}(hv:i5 E κ x v)(w:World):(Instr.keyThatStays v v).run P w= .ok v w:=by have:=Fo h hv 9998;simp only[Instr.keyThatStays,this,if_true,Sem.run_pure]
theorem CS(w:World)(em:Bool)(d:Nat)(e:TypeId){E:Env}{k:IntKind}(he:jo P (.int k) e)(cs:Array Value)(l:List Int)(hcs:cs.toList=l.map (Value.int k))(hl:∀n∈l,pq k n=true):∀(m s:Nat),s+m<=l.length->
  (forIn (List.range' s m) PUnit.unit (fun i _=>do
   let x<-part e cs (i*(<-sizeOf e))
   Instr.checkKey em (d+1) e x
   pure (ForInStep.yield PUnit.unit)):Sem PUnit).run P w= .ok PUnit.unit w
 |0,s,_=>by simp
 |m+1,s,h=>by
  have hs:s<l.length:=by omega
  have hf:an E (.int k) l[s] [.int k l[s]]:=⟨rfl,hl _ (List.getElem_mem hs)⟩
  obtain⟨v,r1,r2⟩:=o9 (P:=P) w he cs (s*1) hf (by
   rw[hcs];simp only[Ty.size,Nat.mul_one];rw[List.drop_eq_getElem_cons (by simpa using hs)];simp)
  have hv:=(r2.one rfl).1;simp at hv;subst hv;have ih:=CS w em d e (E:=E) he cs l hcs hl m (s+1) (by omega);have hck:(Instr.checkKey em (d+1) e (.int k l[s])).run P w= .ok () w:=by simp[Instr.checkKey,run_underlying he.1]
  have hsz:(sizeOf e).run P w= .ok 1 w:=by simpa[Ty.size]using dn (P:=P) w he.info
  simp only[List.range'_succ,List.forIn_cons,Sem.run_bind,hsz,Result.andThen_ok,r1,hck,Sem.run_pure];exact ih
theorem BM(w:World)(em:Bool)(d:Nat){E:Env}{κ:Ty}(h:κ.key=true){t:TypeId}(ht:jo P κ t){x:κ.den}{v:Value}(hv:i5 E κ x v):(Instr.checkKey em (d+2) t v).run P w= .ok () w:=by
 cases κ with
 |int k=>have h1:=(hv.one rfl).1;simp at h1;subst h1;simp[Instr.checkKey,run_underlying ht.1]
 |arr n τ=>
  cases τ<;>simp[Ty.key]at h;rename_i k;obtain⟨cs,rfl,hl,css,hc,ha⟩:=hv.agg rfl;obtain⟨e,hu,hte,_⟩:=ht;have hl':List.length (x:List Int)=n:=hl;have hr:∀m∈(x:List Int),pq k m=true:=by clear hc hl hl';intro m hm;obtain⟨i,hi,rfl⟩:=List.mem_iff_getElem.1 hm;obtain⟨_,hq⟩:=ha.get i hi;exact hq.2
  have:=CS (E:=E) w em d e hte cs x (by rw[hc];exact oU x css ha) hr n 0 (by omega);rw[Instr.checkKey];simp only[Sem.run_bind,run_underlying hu,Result.andThen_ok];simp only[Std.Legacy.Range.forIn_eq_forIn_range',Std.Legacy.Range.size,Nat.sub_zero,Nat.add_sub_cancel,Nat.div_one];simp only[Sem.run_bind,Sem.run_pure]at this⊢
  first|exact this|(rw[this];rfl)|(simp at this⊢;rw[this];rfl)|(simp at this⊢;simp[this])
 |_=>simp[Ty.key]at h
theorem pW(w:World)(em:Bool){E:Env}{κ:Ty}(h:κ.key=true){t:TypeId}(ht:jo P κ t){x:κ.den}{v:Value}(hv:i5 E κ x v):(Instr.checkKey em 10000 t v).run P w= .ok () w:=BM w em 9998 h ht hv
def lY(es:List MapEntry)(i:Nat)(s:Nat):Option (Nat×Value):=(es[i]?).map fun e=>(s+i,e.val)
theorem yG{E:Env}{k:IntKind}{ν:Ty}(x:Int):∀(l:List (Int×ν.den))(es:List MapEntry)(s:Nat),df (rI E (.int k) ν) l es->
  Instr.findNow (.int k) (.int k x) es s=some (lY es (eU (az (.int k)) x l) s)
 |[],[],s,_=>by simp[Instr.findNow,lY]
 |[],_::_,_,h=>h.elim
 |_::_,[],_,h=>h.elim
 |p::l,e::es,s,h=>by
  have h1:=(h.1.1.one rfl).1;simp at h1;have ih:=yG x l es (s+1) h.2;simp only[Instr.findNow,h1,Instr.sameNow,if_true,eU,az];cases hb:(x==p.1)with
  |true=>simp[lY]
  |false=>simp only[ih,lY];simp only[az,List.getElem?_cons_succ];congr 2;funext e;congr 1;omega
theorem rL{E:Env}{κ ν:Ty}(w:World)(hk:κ.key=true){t:TypeId}(ht:jo P κ t){x:κ.den}{v:Value}(hv:i5 E κ x v):∀(l:List (κ.den×ν.den))(es:List MapEntry)(s:Nat),df (rI E κ ν) l es->
  (Instr.findAsking t v es s).run P w= .ok (lY es (eU (az κ) x l) s) w
 |[],[],s,_=>by simp[Instr.findAsking,lY]
 |[],_::_,_,h=>h.elim
 |_::_,[],_,h=>h.elim
 |p::l,e::es,s,h=>by
  have ih:=rL w hk ht hv l es (s+1) h.2;have he:=zP (P:=P) w κ t 10000 x p.1 v e.key ht (Kc hk).1 (Kc hk).2 hv h.1.1;have he':(Op.equal t v e.key).run P w= .ok (az κ x p.1) w:=he;simp only[Instr.findAsking,Sem.run_bind,he',Result.andThen_ok,eU];cases hb:az κ x p.1 with
  |true=>simp[lY]
  |false=>simp only[Bool.false_eq_true,if_false,ih,lY,List.getElem?_cons_succ];congr 2;funext e;congr 1;omega
theorem rq{E:Env}{κ ν:Ty}(w:World)(hk:κ.key=true){t:TypeId}(ht:jo P κ t){x:κ.den}{v:Value}(hv:i5 E κ x v){l:List (κ.den×ν.den)}{es:List MapEntry}(h:df (rI E κ ν) l es):
  (Instr.findKey t v es).run P w= .ok (lY es (eU (az κ) x l) 0) w:=by
 have hfa:=rL (P:=P) w hk ht hv l es 0 h;cases κ with
 |int k=>have h1:=(hv.one rfl).1;simp at h1;subst h1;have:=yG (E:=E) (k:=k) (ν:=ν) x l es 0 h;simp[Instr.findKey,run_underlying ht.1,this]
 |arr n τ=>
  obtain⟨e,hu,hte,_⟩:=ht;cases es with
  |nil=>simp[Instr.findKey,run_underlying hu,Instr.findNow,lY]
  |cons e0 es=>
   have:Instr.findNow (.array n e) v (e0::es) 0=none:=by rfl
   simp only[Instr.findKey,Sem.run_bind,run_underlying hu,Result.andThen_ok,this];exact hfa
 |_=>simp[Ty.key]at hk
theorem Gk{κ ν:Type}(eq:κ->κ->Bool)(x:κ)(z:ν):∀l:List (κ×ν),getM eq x z l=match l[eU eq x l]? with
  |some p=>p.2
  |none=>z
 |[]=>rfl
 |p::l=>by
  have ih:=Gk eq x z l;cases hb:eq x p.1 with
  |true=>simp[getM,eU,hb]
  |false=>simp only[getM,eU,hb,List.getElem?_cons_succ];exact ih
theorem KX{τ:Ty}{t:TypeId}(ht:jo P τ t)(hp:τ.plain=true):∃z,(zeroValue t).run P G.w= .ok z G.w/\i5 G.env τ τ.zero z:=by
 obtain⟨z,hz1,hz2,hz3,hz4⟩:=ua (P:=P) G.w ht.info;have hf:=Ep (G:=G) τ _ hp hz2;refine⟨z,hz1,?_⟩;cases hag:τ.isAgg with
 |true=>obtain⟨cs,rfl⟩:=hz3 hag;exact i5.yU hf hag
 |false=>have:=(hz4 hag).1;rw[this]at hf;exact i5.gu (by simpa using hf) hag
theorem IM(hC:iY P C)(hR:cW G){t tk tv:TypeId}(ht:look C.mp t=some (tk,tv)){κ ν:Ty}(hk:look C.ty tk=some κ)(hn:look C.ty tv=some ν)(hkey:κ.key=true)(hpl:ν.plain=true){id:Nat}{l:List (κ.den×ν.den)}
  (hb:aw G.hp id=some (.map κ ν l)) {m kv:Value} (hm:np G id m) {x:κ.den} (hx:i5 G.env κ x kv):
  ∃y,(Instr.lookup t m kv false).run P G.w= .ok y G.w/\i5 G.env ν (getM (az κ) x ν.zero l) y:=by
 have hu:=hC.mp _ _ _ ht;have hkt:=hC.ty _ _ hk;have hnt:=hC.ty _ _ hn;unfold np at hm;rw[hb]at hm;obtain⟨b,e1,rfl⟩:=hm;have h0:=hR.blk _ _ hb;obtain⟨b',es,clock,g1,g2,g3,g4,g5⟩:=h0;rw[e1]at g1;cases g1;have hfind:=rq (P:=P) G.w hkey hkt hx g3;have hck:(Instr.checkKey es.isEmpty 10000 tk kv).run P G.w= .ok () G.w:=pW (P:=P) G.w es.isEmpty hkey hkt hx;obtain⟨z,hz1,hz⟩:=KX (P:=P) (G:=G) hnt hpl;rw[Gk];cases hl:l[eU (az κ) x l]? with
 |none=>
  have:es.toList[eU (az κ) x l]? =none:=by rw[List.getElem?_eq_none_iff]at hl⊢;rw[<-g3.length];exact hl
  simp only[lY,this,map_none]at hfind;refine⟨z,?_,hz⟩;simp only[Instr.lookup,Sem.run_bind,run_underlying hu,Result.andThen_ok,MapKept.run_getObj_map g2,Sem.run_pure,hck,hfind,hz1,Bool.false_eq_true,if_false]
 |some p=>obtain⟨hi,hp⟩:=List.getElem?_eq_some_iff.1 hl;obtain⟨hi2,hent⟩:=g3.get _ hi;rw[hp]at hent;simp only[lY,getElem?_eq_getElem hi2,map_some]at hfind;refine⟨_,?_,hent.2⟩;simp only[Instr.lookup,Sem.run_bind,run_underlying hu,Result.andThen_ok,MapKept.run_getObj_map g2,Sem.run_pure,hck,hfind,Bool.false_eq_true,if_false]
end
section
variable {P:Program}{C:Ctx}{G:GE}{fr:List V}{ρ:Operand->Value}{tm:Array Value}
theorem nH{e:Operand->V}(he:∀x,bC G tm (e x) (ρ x)):∀l:List Operand,iH G tm (l.map e) (l.map ρ)
 |[]=>by simp[iH]
 |x::l=>by simp only[map_cons,iH];exact⟨he x,nH he l⟩
theorem bC.Bj{v:V}{x:Value}(h:bC G tm v x)(hp:vE v=true)(tm':Array Value):bC G tm' v x:=by
 have:Bx.gD v=v:=by cases v<;>first|rfl|(simp[vE]at hp;done)
 have h2:=h.gD (tm':=tm')
 rwa [this]at h2
theorem iH.Bj:∀{l:List V}{m:List Value},iH G tm l m->(l.all vE)=true->∀tm',iH G tm' l m
 |[],[],_,_,_=>by simp[iH]
 |v::l,x::m,h,hp,tm'=>by simp only[List.all_cons,and_eq_true]at hp;simp only[iH]at h⊢;exact⟨h.1.Bj hp.1 tm',iH.Bj h.2 hp.2 tm'⟩
 |[],_::_,h,_,_=>by simp[iH]at h
 |_::_,[],h,_,_=>by simp[iH]at h
theorem dE.nth:∀{τ:Ty}{l:List V}{cs:List Value}{j:Nat}{u:Ty},dE G τ l cs->mf τ [.fld j]=some u->∃o cs1,aX τ [.fld j]=some (o,u)/\dZ G u (Bx.nth l j) cs1/\∀i x,cs1[i]? =some x->cs[o+i]? =some x:=by intro τ l cs j u h hs;obtain⟨o,ho⟩:=zR hs;obtain⟨a,o1,o2,cs1,g1,rfl,g3,g4,g5,_⟩:=h.part ho;obtain⟨rfl,rfl⟩:=mE g1;grind
theorem Md(w:World){τ:Ty}{t:TypeId}(h:jo P τ t)(cs:Array Value)(off:Nat){v:V}{ds:List Value}(hx:dZ G τ v ds)
  (hc:(cs.toList.drop off).take τ.size=ds):∃x,(part t cs off).run P w= .ok x w/\∀tm,bC G tm (gD v) x:=by
 have hl:=hx.length;obtain⟨x,e1,e2,e3,e4⟩:=bC.zW hx;refine⟨x,?_,fun tm=>e2.gD⟩;cases hτ:τ.isAgg with
 |true=>
  have:(cs.extract off (off+τ.size)).toList=ds:=by rw[<-hc];simp[List.extract_eq_take_drop]
  rw[e3 hτ];simp only[part,Sem.run_bind,mb w h,hτ,Result.andThen_ok,if_true,dn w h.info,Sem.run_pure];congr 2;apply Array.ext';simpa using this
 |false=>
  have e5:=e4 hτ;have hs:τ.size=1:=by cases τ<;>simp[Ty.isAgg]at hτ<;>rfl
  have h0:cs[off]? =some x:=by have:=congrArg (fun l:List Value=>l[0]?) hc;grind
  simp[part,mb w h,hτ,h0]
theorem Jz(n lo hi:Int)(N:Nat)(h:0<=n/\n<hi-lo)(h0:0<=lo)(h1:hi<=(N:Int)):lo.toNat≠N/\n<((hi.toNat-lo.toNat:Nat):Int)/\(lo+n).toNat=lo.toNat+n.toNat/\(0<=lo+n/\lo+n<(N:Int)):=by omega
theorem O5{v:V}{x:Value}(h:bC G tm v x){l:List Int}(hr:rd G.hp v= .data .str l):i5 G.env .str l x:=by
 cases v with
 |data t y=>simp only[rd,V.data.injEq]at hr;obtain⟨rfl,hr⟩:=hr;have hr:=eq_of_heq hr;subst hr;simpa only[bC]using h
 |app id ver=>simp only[rd]at hr;split at hr<;>(try split at hr)<;>cases hr
 |view id p t n lo hi=>
  simp only[rd]at hr;split at hr
  ·split at hr
   ·split at hr<;>cases hr
   ·cases hr
  ·cases hr
 |agg t l=>simp only[rd]at hr;obtain⟨e,hg⟩:=qY hr;subst e;cases hl:uL G.hp l<;>rw[hl]at hg<;>simp[getArgs]at hg
 |_=>simp[rd]at hr
theorem O4{hp:aP}{v:V}{id:Nat}(h:rd hp v= .map id):v= .map id:=by
 cases v with
 |map j=>simpa[rd]using h
 |app id ver=>simp only[rd]at h;split at h<;>(try split at h)<;>cases h
 |view id p t n lo hi=>
  simp only[rd]at h;split at h
  ·split at h
   ·split at h<;>cases h
   ·cases h
  ·cases h
 |agg t l=>simp only[rd,o0]at h;split at h<;>cases h
 |_=>simp[rd]at h
theorem Py(hC:iY P C)(hR:cW G)(hL:uW G tm fr ρ){g:Option Gd}(hg:MD g tm)(o:Oper){c:Prop}{i:Decidable c}{v:V}(hv:m8 C g fr G.hp o.op=some (.val c i v))(hc:c):
  ∃x,(execOp ρ o).run P G.w= .ok (.value x) G.w/\bC G tm v x:=by
 obtain⟨dst,op,type,pos,after,guard⟩:=o;cases op<;>simp only[m8]at hv
 case move x=>
  obtain rfl:=fQ hv;exact⟨_,by simp[execOp],hL.un hg x⟩
 case assign x=>
  obtain rfl:=fQ hv;exact⟨_,by simp[execOp],hL.un hg x⟩
 case pick co ao bo=>
  split at hv
  ·rename_i d t heq;have hb:=hL.ud hg (.tmp d);rw[heq]at hb;have hb:=hb.bool;have ht:=hL.bool hb;split at hv
   ·rename_i y z h1 h2;obtain rfl:=fQ hv;refine⟨.bool (cond t y z),?_,.kp⟩;cases t with
    |true=>have:=hL.arm ht true ao h1 rfl;simp[execOp,hb,asBool,this]
    |false=>have:=hL.arm ht false bo h2 rfl;simp[execOp,hb,asBool,this]
   ·cases hv
  ·cases hv
 case load t x=>
  split at hv
  ·cases hv
  ·rename_i τ hτ;have htk:=hC.ty _ _ hτ;have hx:=hL.ud hg x;split at hv
   ·rename_i id ver p heq;rw[heq]at hx;simp only[bC]at hx;split at hv
    ·rename_i hty;obtain rfl:=fQ hv;obtain⟨a,cs,e1,e2,e3,e4⟩:=O6 hR hx hty;obtain⟨y,r1,r2⟩:=DX G.w htk a e2 e3 e4;exact⟨y,by simp[execOp,e1,Instr.loadAt,Instr.sureAddr,r1],r2 tm⟩
    ·cases hv
   ·rename_i σ y heq;rw[heq]at hx;simp only[bC]at hx;obtain⟨ad,ds,e1,e2,_,e4,e5⟩:=hx;split at hv
    ·rename_i hu;subst hu;obtain rfl:=fQ hv;obtain⟨x',r1,r2⟩:=zh G.w htk ad e2 e5 e4;exact⟨x',by simp[execOp,e1,Instr.loadAt,Instr.sureAddr,r1],by simpa[bC]using r2⟩
    ·cases hv
   ·rename_i gl heq;rw[heq]at hx;simp only[bC]at hx;split at hv
    ·rename_i GVv hgl;split at hv
     ·rename_i hu;subst hu;obtain rfl:=fQ hv;obtain⟨ds,h1,h2,h3⟩:=hR.glob _ _ hgl;obtain⟨x',r1,r2⟩:=zh G.w htk ⟨gl,0,none⟩ rfl h3 (fun j v hj=>by have:=h2 j v hj;simpa using(show G.w.cell? ⟨gl,0+j,none⟩=some v by rw[zero_add];exact this));exact⟨x',by simp[execOp,hx,Instr.loadAt,Instr.sureAddr,r1],by simpa[bC]using r2⟩
     ·cases hv
    ·cases hv
   ·cases hv
 case nilCheck x=>
  have hx:=hL.ud hg x;split at hv
  ·rename_i id ver p heq;rw[heq]at hx;obtain rfl:=fQ hv;have hx':=hx;simp only[bC]at hx;obtain⟨a,ha⟩:=hx.ptr;exact⟨ρ x,by simp[execOp,ha],hx'⟩
  ·rename_i t y heq;rw[heq]at hx;obtain rfl:=fQ hv;have hx':=hx;simp only[bC]at hx;obtain⟨a,ds,ha,_⟩:=hx;exact⟨ρ x,by simp[execOp,ha],hx'⟩
  ·rename_i f a b heq;rw[heq]at hx;obtain rfl:=fQ hv;have hx':=hx;simp only[bC]at hx;obtain⟨xs,ys,ha,_⟩:=hx;exact⟨ρ x,by simp[execOp,ha],hx'⟩
  ·rename_i t u heq;rw[heq]at hx;obtain rfl:=fQ hv;have hx':=hx;simp only[bC]at hx;obtain⟨y,ha,_⟩:=hx;exact⟨ρ x,by simp[execOp,ha],hx'⟩
  ·rename_i m t u heq;rw[heq]at hx;split at hv
   ·rename_i f hf;obtain rfl:=fQ hv;have hx':=hx;simp only[bC]at hx;obtain⟨y,ha,z,hz,_⟩:=hx;have hn:=(hC.inv _ _ _ hf G.w z).2;refine⟨ρ x,?_,hx'⟩;simp only[execOp,ha,hz];simp[hn]
   ·cases hv
  ·cases hv
 case indexAddr t x ix=>
  have hx:=hL.ud hg x;have hi:=hL.ud hg ix;split at hv
  ·rename_i len τ gl k n hτ heq heq2;obtain⟨e,hu,hte,_⟩:=hC.ty _ _ hτ;rw[heq]at hx;rw[heq2]at hi;obtain⟨hi1,_⟩:=hi.int;simp only[bC]at hx;split at hv
   ·rename_i len' τ' l hgl;split at hv
    ·rename_i ht;obtain⟨ht1,ht2⟩:=ht;subst ht1;subst ht2;obtain⟨rfl,rfl⟩:=mB hv;obtain⟨ds,h1,h2,h3⟩:=hR.glob _ _ hgl;obtain⟨z,cs',g1,g2,g3⟩:=lZ _ _ _ [.idx n] (n.toNat*τ.size) τ h3 (by simp only[aX];rw[if_pos hc];simp);simp only[zA,V.data.injEq,heq_eq_eq,true_and]at g1;subst g1;refine⟨.pointer (some ⟨gl,0+n.toNat*τ.size,none⟩),?_,?_⟩
     ·simp[execOp,hx,hi1,Instr.indexAt,asIntOf,run_underlying hu,Instr.sureAddr,hc,dn G.w hte.info,add_plain]
     ·simp only[bC];refine⟨_,cs',rfl,rfl,?_,fun j u hj=>by
       have:=h2 _ _ (g3 j u hj);rw[zero_add];exact this,g2⟩
      exact Jr (im:=G.im) (o:=0) (by rw[zero_add];exact h1) g3
    ·cases hv
   ·cases hv
  ·rename_i len τ id ver p k n hτ heq heq2;obtain⟨e,hu,hte,_⟩:=hC.ty _ _ hτ;rw[heq]at hx;rw[heq2]at hi;obtain⟨hi1,_⟩:=hi.int;split at hv
   ·rename_i hty;obtain⟨rfl,rfl⟩:=mB hv;simp only[bC]at hx;obtain⟨a,e1,e2,e3⟩:=hx.at hty;refine⟨.pointer (some ⟨a.block,a.off+n.toNat*τ.size,none⟩),?_,?_⟩
    ·simp[execOp,e1,hi1,Instr.indexAt,asIntOf,run_underlying hu,Instr.sureAddr,hc,dn G.w hte.info,add_plain,e2]
    ·simp only[bC];have h0:aX τ []=some (0,τ):=by cases τ<;>rfl
     exact e3 (.idx n) (n.toNat*τ.size) τ (by simp only[aX];rw[if_pos hc];simp)
   ·cases hv
  ·rename_i τ τ' l k n hτ heq heq2;obtain⟨e,hu,hte,_⟩:=hC.ty _ _ hτ;rw[heq]at hx;rw[heq2]at hi;obtain⟨hi1,_⟩:=hi.int;split at hv
   ·rename_i ht;subst ht;obtain⟨rfl,rfl⟩:=mB hv;simp only[bC]at hx;have hil:n.toNat<List.length l:=(Int.toNat_lt hc.1).2 hc.2;obtain⟨b,cap,ds,e1,e2,e3,e4,e5⟩:=BT (hx.one rfl) n.toNat hil;refine⟨.pointer (some ⟨b.block,b.off+n.toNat*τ.size,none⟩),?_,?_⟩
    ·simp[execOp,e1,hi1,Instr.indexAt,asIntOf,run_underlying hu,hc,dn G.w hte.info,add_plain,e2]
    ·simp only[bC];exact⟨_,ds,rfl,rfl,e4,e5,e3⟩
   ·cases hv
  ·rename_i τ id ver k n hτ heq heq2;obtain⟨e,hu,hte,_⟩:=hC.ty _ _ hτ;rw[heq]at hx;rw[heq2]at hi;obtain⟨hi1,_⟩:=hi.int;split at hv
   ·rename_i τ' l ver' z hb;split at hv
    ·rename_i ht;obtain⟨rfl,hver⟩:=ht;have hver:=eq_of_beq_eq_true hver;subst hver;obtain⟨rfl,rfl⟩:=mB hv;simp only[bC]at hx;unfold lh at hx;rw[hb]at hx;have hx:=hx.2.2 rfl;have hil:n.toNat<List.length l:=(Int.toNat_lt hc.1).2 hc.2;cases z with
     |true=>
      obtain⟨b,cap,ds,e1,e2,e3,e4,e5⟩:=BT (qE hR hb) n.toNat hil;refine⟨.pointer (some ⟨b.block,b.off+n.toNat*τ.size,none⟩),?_,?_⟩
      ·simp[execOp,hx,e1,hi1,Instr.indexAt,asIntOf,run_underlying hu,hc,dn G.w hte.info,add_plain,e2]
      ·simp only[bC];exact⟨_,ds,rfl,rfl,e4,e5,e3⟩
     |false=>
      rcases hR.blk _ _ hb with ⟨b',arr,ty,css,cap,rest,g1,g2,g3,g4,g5,g6,g7,g8⟩|⟨_,g2,_⟩
      ·refine⟨.pointer (some ⟨b',n.toNat*τ.size,none⟩),?_,?_⟩
       ·simp[execOp,hx,g2,hi1,Instr.indexAt,asIntOf,run_underlying hu,hc,dn G.w hte.info,add_plain]
       ·simp only[bC];unfold jY;rw[hb];have h0:aX τ []=some (0,τ):=by cases τ<;>rfl
        exact⟨le_refl _,⟨_,rfl⟩,fun _=>⟨b',n,[],0,τ,rfl,g1,hc.1,hil,h0,by simp⟩⟩
      ·rcases g2 with g2|g2
       ·cases g2
       ·subst g2;simp at hil
    ·cases hv
   ·cases hv
  ·rename_i τ id p τ' n' lo hi' k n hτ heq heq2;obtain⟨e,hu,hte,_⟩:=hC.ty _ _ hτ;rw[heq]at hx;rw[heq2]at hi;obtain⟨hi1,_⟩:=hi.int;split at hv
   ·rename_i ht;subst ht;obtain⟨rfl,rfl⟩:=mB hv;simp only[bC]at hx;unfold lj at hx;split at hx
    ·rename_i cτ cv cz hb;obtain⟨b,o,e1,e2,e3,e4,e5,e6,e7⟩:=hx;obtain⟨hne,hlt,hsum,hin⟩:=Jz n lo hi' n' hc e3 e5;rw[if_neg hne]at e7;have hoff:o+lo.toNat*τ.size+n.toNat*τ.size=o+(lo+n).toNat*τ.size:=by
      grind
     refine⟨.pointer (some ⟨b,o+(lo+n).toNat*τ.size,none⟩),?_,?_⟩
     ·simp[execOp,e7,hi1,Instr.indexAt,asIntOf,run_underlying hu,hc.1,hlt,dn G.w hte.info,add_plain,hoff]
     ·simp only[bC];unfold jY;rw[hb];have h0:aX τ []=some (0,τ):=by cases τ<;>rfl
      refine⟨b,o+(lo+n).toNat*τ.size,τ,e1,oy (.idx (lo+n)) e2 ?_,rfl⟩;simp only[aX];rw[if_pos hin];simp
    ·exact hx.elim
   ·cases hv
  ·rename_i len' τ len τ' l k n hτ heq heq2;obtain⟨e,hu,hte,_⟩:=hC.ty _ _ hτ;rw[heq]at hx;rw[heq2]at hi;obtain⟨hi1,_⟩:=hi.int;split at hv
   ·rename_i ht;obtain⟨ht1,ht2⟩:=ht;subst ht1;subst ht2;obtain⟨rfl,rfl⟩:=mB hv;simp only[bC]at hx;obtain⟨ad,ds,e1,e2,e3,e4,e5⟩:=hx;obtain⟨z,cs',g1,g2,g3⟩:=lZ _ _ _ [.idx n] (n.toNat*τ.size) τ e5 (by simp only[aX];rw[if_pos hc];simp);simp only[zA,V.data.injEq,heq_eq_eq,true_and]at g1;subst g1;refine⟨.pointer (some ⟨ad.block,ad.off+n.toNat*τ.size,none⟩),?_,?_⟩
    ·simp[execOp,e1,hi1,Instr.indexAt,asIntOf,run_underlying hu,Instr.sureAddr,hc,dn G.w hte.info,add_plain,e2]
    ·simp only[bC];refine⟨_,cs',rfl,rfl,?_,fun j u hj=>by rw[add_assoc];exact e4 _ _ (g3 j u hj),g2⟩;exact Jr e3 g3
   ·cases hv
  ·cases hv
 case fieldAddr t x j=>
  have hx:=hL.ud hg x;split at hv
  ·rename_i τ id ver p hτ heq;have htk:=hC.ty _ _ hτ;rw[heq]at hx;split at hv
   ·rename_i hsub;obtain⟨hsub,hfld⟩:=hsub;obtain rfl:=fQ hv;simp only[bC]at hx;obtain⟨a,e1,e2,e3⟩:=hx.at hsub;obtain⟨u,hu⟩:=Option.isSome_iff_exists.1 hfld;obtain⟨o2,ho2⟩:=zR hu;obtain⟨fs,f,f1,f2,f3,f4,f5⟩:=htk.fields ho2;refine⟨.pointer (some ⟨a.block,a.off+o2,none⟩),?_,?_⟩
    ·simp[execOp,e1,Instr.fieldAt,run_underlying f1,f2,Instr.sureAddr,fieldPlace,dn G.w f4.info,f5,add_plain,f3,e2]
    ·simp only[bC];exact e3 _ _ _ ho2
   ·cases hv
  ·rename_i τ' τ y hτ heq;have htk:=hC.ty _ _ hτ;rw[heq]at hx;split at hv
   ·rename_i ht;subst ht;split at hv
    ·rename_i u z hp;obtain rfl:=fQ hv;simp only[bC]at hx;obtain⟨ad,ds,e1,e2,e3,e4,e5⟩:=hx;obtain⟨o2,cs',ho2,g2,g3⟩:=xY hp e5;obtain⟨fs,f,f1,f2,f3,f4,f5⟩:=htk.fields ho2;refine⟨.pointer (some ⟨ad.block,ad.off+o2,none⟩),?_,?_⟩
     ·simp[execOp,e1,Instr.fieldAt,run_underlying f1,f2,Instr.sureAddr,fieldPlace,dn G.w f4.info,f5,add_plain,f3,e2]
     ·simp only[bC];refine⟨_,cs',rfl,rfl,?_,fun j u hj=>by rw[add_assoc];exact e4 _ _ (g3 j u hj),g2⟩;exact Jr e3 g3
    ·cases hv
   ·cases hv
  ·cases hv
 case binOp op xt x y yt=>
  have hx:=hL.ud hg x;have hy:=hL.ud hg y;obtain⟨z,r1,r2⟩:=MT (P:=P) hC G.w op xt x y hx hy hv hc;exact⟨z,by simp only[execOp,Sem.run_bind,r1,Result.andThen_ok,Sem.run_pure],r2⟩
 case unOp op xt x=>
  have hx:=hL.ud hg x;unfold Vq at hv;split at hv
  ·rename_i b heq;rw[heq]at hx;have hb:=hx.bool;obtain rfl:=fQ hv;exact⟨.bool (!b),by simp[execOp,hb,Op.unary],.kp⟩
  ·rename_i k n heq;rw[heq]at hx;obtain⟨hx,_⟩:=hx.int;obtain rfl:=fQ hv;exact⟨_,by simp[execOp,hx,Op.unary,Op.intArith],.mkInt (kb _ _)⟩
  ·rename_i k n heq;rw[heq]at hx;obtain⟨hx,_⟩:=hx.int;obtain rfl:=fQ hv;exact⟨_,by simp only[execOp,hx,Op.unary,Op.intBits,Sem.run_bind,Sem.run_pure,Result.andThen_ok];rfl,.mkInt (kb _ _)⟩
  ·cases hv
 case convert s d x=>
  have hx:=hL.ud hg x;split at hv
  ·rename_i k1 k2 k3 n h1 h2 heq;rw[heq]at hx;obtain⟨hx,_⟩:=hx.int;obtain rfl:=fQ hv;have t1:=(hC.ty _ _ h1).1;have t2:=(hC.ty _ _ h2).1;exact⟨_,by simp[execOp,hx,convert,run_underlying t1,run_underlying t2,Conv.intToInt],.mkInt (kb _ _)⟩
  ·rename_i l h1 h2 heq;rw[heq]at hx;obtain rfl:=fQ hv;have t1:=(hC.ty _ _ h1).1;have t2:=(hC.ty _ _ h2).1;have hx':=hx;simp only[bC]at hx;obtain⟨s,e1,_⟩:=hx.one rfl;simp at e1;exact⟨ρ x,by simp[execOp,e1,convert,run_underlying t1,run_underlying t2],hx'⟩
  ·simp at hv
  ·rename_i h1 h2;split at hv
   ·rename_i l hrd;obtain rfl:=fQ hv;obtain⟨e,t1,t3,_⟩:=hC.ty _ _ h1;have t2:=(hC.ty _ _ h2).1;have t4:=t3.1;obtain⟨s,r1,r2,r3⟩:=Cz (P:=P) t1 t4 t2 (Hp hR hx hrd);refine⟨.string s,by simp only[execOp,Sem.run_bind,r1,Result.andThen_ok,Sem.run_pure],?_⟩;simp only[bC];exact i5.gu ⟨s,rfl,r2,r3⟩ rfl
   ·cases hv
  ·cases hv
 case index t x ix=>
  have hx:=hL.ud hg x;have hi:=hL.ud hg ix;split at hv
  ·rename_i len τ len' τ' l k n h1 heq heq2;rw[heq]at hx;rw[heq2]at hi;obtain⟨hi1,_⟩:=hi.int;split at hv
   ·rename_i hu;obtain⟨rfl,rfl⟩:=hu;obtain⟨rfl,rfl⟩:=mB hv;have hcc:=hc;obtain⟨e,hu,hte,_⟩:=hC.ty _ _ h1;simp only[bC]at hx;obtain⟨cs,ev,hf⟩:=hx.agg rfl;obtain⟨z,cs',g1,g2,g3⟩:=lZ (.arr len τ) l cs.toList [.idx n] (n.toNat*τ.size+0) τ hf (by
     have:aX τ []=some (0,τ):=by cases τ<;>rfl
     simp only[aX,this,if_pos hcc])
    have gz:z=l.getD n.toNat τ.zero:=by
     have:zA (.arr len τ) l [.idx n]= .data τ (l.getD n.toNat τ.zero):=by cases τ<;>rfl
     grind
    subst gz;obtain⟨v,r1,r2⟩:=o9 (P:=P) G.w hte cs (n.toNat*τ.size) g2 (rB g3 (an.length _ _ _ g2));refine⟨v,?_,by simpa only[bC]using r2⟩;simp only[execOp,Instr.index,ev,hi1,asIntOf,Sem.run_bind,Sem.run_pure,Result.andThen_ok,run_underlying hu,if_pos hcc,dn G.w hte.info,r1]
   ·cases hv
  ·rename_i l k n h1 heq heq2;rw[heq]at hx;rw[heq2]at hi;obtain⟨hi1,_⟩:=hi.int;obtain⟨rfl,rfl⟩:=mB hv;have hcc:=hc;have hu:=(hC.ty _ _ h1).1;simp only[bC]at hx;obtain⟨s,e1,e2,e3⟩:=hx.one rfl;simp at e1;subst e2;have hlen:(bytesOf s).length=s.size:=by simp[bytesOf]
   have hn:n.toNat<s.size:=by grind
   refine⟨.int .u8 ((bytesOf s).getD n.toNat 0),?_,.mkInt ?_⟩
   ·have hget:s[n.toNat]? =some s[n.toNat]:=by simp[hn]
    have hgd:(bytesOf s).getD n.toNat 0=((s[n.toNat].toNat:Nat):Int):=by simp only[bytesOf,List.getD,List.getElem?_map];rw[getElem?_eq_getElem (by simpa using hn)];rfl
    simp only[execOp,Instr.index,e1,hi1,asIntOf,Sem.run_bind,Sem.run_pure,Result.andThen_ok,run_underlying hu,if_pos hcc.1,hget,hgd]
   ·have hgd:(bytesOf s).getD n.toNat 0=((s[n.toNat].toNat:Nat):Int):=by
     simp only[bytesOf,List.getD,List.getElem?_map];rw[getElem?_eq_getElem (by simpa using hn)];rfl
    rw[hgd,iE];have:=(s[n.toNat]).toNat_lt;simp only[IntKind.min,IntKind.max,IntKind.signed,IntKind.bits];simp;omega
  ·cases hv
 case field t x j=>
  have hx:=hL.ud hg x;split at hv
  ·rename_i τ' τ y h1 heq;rw[heq]at hx;split at hv
   ·rename_i hu;subst hu;split at hv
    ·rename_i σ z hp;obtain rfl:=fQ hv;simp only[bC]at hx;have htk:=hC.ty _ _ h1;have hag:τ.isAgg=true:=by
      cases τ with
      |pair _ _=>rfl
      |_=>simp[proj]at hp
     obtain⟨cs,ev,hf⟩:=hx.agg hag;obtain⟨o,ds,g1,g2,g3⟩:=xY hp hf;obtain⟨fs,f,f1,f2,f3,f4,f5⟩:=htk.fields g1;obtain⟨v,r1,r2⟩:=o9 (P:=P) G.w f4 cs o g2 (rB g3 (an.length _ _ _ g2));refine⟨v,?_,by simpa only[bC]using r2⟩;simp only[execOp,Instr.field,ev,Sem.run_bind,run_underlying f1,Result.andThen_ok,f2,asAgg,Sem.run_pure,f3,r1]
    ·cases hv
   ·cases hv
  ·rename_i τ' τ l h1 heq;rw[heq]at hx;split at hv
   ·rename_i hu;obtain⟨rfl,hsub⟩:=hu;obtain rfl:=fQ hv;simp only[bC]at hx;obtain⟨cs,ev,hf⟩:=hx;have htk:=hC.ty _ _ h1;obtain⟨u,hsub⟩:=Option.isSome_iff_exists.1 hsub;obtain⟨o,ds,g1,g2,g3⟩:=hf.nth hsub;obtain⟨fs,f,f1,f2,f3,f4,f5⟩:=htk.fields g1;obtain⟨v,r1,r2⟩:=Md (P:=P) G.w f4 cs o g2 (rB g3 g2.length);refine⟨v,?_,r2 tm⟩;simp only[execOp,Instr.field,ev,Sem.run_bind,run_underlying f1,Result.andThen_ok,f2,asAgg,Sem.run_pure,f3,r1]
   ·cases hv
  ·cases hv
 case lookup t m k cm=>
  split at hv
  ·rename_i tk tv id κ' x hmp h1 h2;split at hv
   ·rename_i κ0 ν0 κ ν l hk hn hb;split at hv
    ·rename_i hκ;subst hκ;split at hv
     ·rename_i hcn;obtain⟨e1,e2,hkey,hpl,hsc⟩:=hcn;subst e1;subst e2;obtain rfl:=fQ hv;have hm:=hL.ud hg m;have hx:=hL.ud hg k;rw[h1]at hm;rw[h2]at hx;simp only[bC]at hm hx;obtain⟨y,r1,r2⟩:=IM (P:=P) hC hR hmp hk hn hkey hpl hb hm hx;exact⟨y,by simp only[execOp,Sem.run_bind,r1,Result.andThen_ok,Sem.run_pure],by simpa only[bC]using r2⟩
     ·cases hv
    ·cases hv
   ·cases hv
  ·cases hv
 case build t parts=>
  split at hv
  ·rename_i τ h1;split at hv
   ·rename_i hag;split at hv
    ·rename_i y hb;obtain rfl:=fQ hv;obtain⟨v,r1,r2⟩:=K8 (P:=P) (G:=G) (hC.ty _ _ h1) hag (fun x=>hL.un hg x) hb;exact⟨v,by simp only[execOp,Sem.run_bind,r1,Result.andThen_ok,Sem.run_pure],r2⟩
    ·cases hv
   ·cases hv
  ·cases hv
 case makeFunc fn fst cap=>
  split at hv
  ·rename_i m;split at hv
   ·rename_i v0 hf1 hf2;split at hv
    ·rename_i hp;obtain rfl:=fQ hv;obtain⟨x,hfx,rfl⟩:∃x,fst.toList=[x]/\un g (ev fr x)=v0:=by
      simp_all
     have e1:fst.map ρ= #[ρ x]:=by apply Array.ext';simp[hfx]
     have e2:cap.map ρ= #[]:=by apply Array.ext';simp[hf2]
     refine⟨.func (.method m) (fst.map ρ) (cap.map ρ),by simp[execOp,Instr.makeFunc],?_⟩;rw[e1,e2];simp only[bC];exact⟨_,rfl,(hL.un hg x).Bj hp #[]⟩
    ·cases hv
   ·cases hv
  ·rename_i f;split at hv
   ·rename_i hp;obtain rfl:=fQ hv;simp only[and_eq_true]at hp;refine⟨.func (.func f) (fst.map ρ) (cap.map ρ),by simp[execOp,Instr.makeFunc],?_⟩;simp only[bC];refine⟨_,_,rfl,?_,?_⟩
    ·have:=iH.Bj (nH (fun x=>hL.un hg x) fst.toList) hp.1 #[];simpa using this
    ·have:=iH.Bj (nH (fun x=>hL.un hg x) cap.toList) hp.2 #[];simpa using this
   ·cases hv
  ·cases hv
 case makeInterface t x=>
  split at hv
  ·rename_i τ hτ;split at hv
   ·rename_i hp;simp only[and_eq_true]at hp;obtain rfl:=fQ hv;have htk:=hC.ty _ _ hτ;refine⟨.iface t (ρ x),?_,?_⟩
    ·cases τ with
     |arr n σ=>obtain⟨e,hu,_⟩:=htk;simp[execOp,Instr.makeInterface,run_underlying hu]
     |unit=>simp[execOp,Instr.makeInterface,run_underlying htk.1]
     |pair a b=>obtain⟨fs,hu,_⟩:=htk;simp[execOp,Instr.makeInterface,run_underlying hu]
     |_=>simp[Ty.isAgg]at hp
    ·simp only[bC];exact⟨_,rfl,(hL.un hg x).Bj hp.2 #[]⟩
   ·cases hv
  ·cases hv
 case slice t x lo hi mx=>
  have hx:=hL.ud hg x;have he:=fun x=>hL.ud hg x;split at hv
  ·rename_i τ' l heq;rw[heq]at hx;split at hv
   ·rename_i τ hτ;split at hv
    ·rename_i ht;subst ht;obtain⟨e,hu,hte,_⟩:=hC.ty _ _ hτ;simp only[bC]at hx;obtain⟨y,r1,r2⟩:=vG (P:=P) G.w hu hte he (hx.one rfl) hv hc;refine⟨y,by simp only[execOp,Sem.run_bind,r1,Result.andThen_ok,Sem.run_pure],?_⟩;rcases r2 with ⟨a,b,rfl,r3⟩|⟨a,b,rfl,r3,ad,n,r4⟩
     ·simp only[bC];exact .gu r3 rfl
     ·simp only[bC];exact⟨r3,ad,n,r4⟩
    ·cases hv
   ·cases hv
  ·rename_i l heq;rw[heq]at hx;split at hv
   ·rename_i h1;split at hv
    ·rename_i a b ha hb;obtain⟨rfl,rfl⟩:=mB hv;obtain⟨h0,h1',h2⟩:=hc;have hu:=(hC.ty _ _ h1).1;simp only[bC]at hx;obtain⟨s,e1,e2,e3⟩:=hx.one rfl;simp at e1;subst e2;have hlen:(bytesOf s).length=s.size:=by simp[bytesOf]
     rw[hlen]at h2 hb;have hr:=lH (P:=P) G.w false s.size s.size (le_refl _) he ha hb h0 h1' h2;refine⟨.string (s.extract a.toNat b.toNat),?_,?_⟩
     ·simp only[execOp,e1,Instr.sliceAt,Sem.run_bind,run_underlying hu,Result.andThen_ok,Instr.slice,map_none,Option.isSome_none,Sem.run_pure];simp[hr]
     ·simp only[bC];refine i5.gu ⟨_,rfl,?_,?_⟩ rfl
      ·simp only[bytesOf,aA,ByteArray.data_extract,Array.toList_extract,List.extract_eq_take_drop,List.map_take,List.map_drop]
      ·simp only[ByteArray.size_extract];omega
    ·cases hv
   ·cases hv
  ·rename_i id ver p heq;rw[heq]at hx;split at hv
   ·rename_i σ cv cz n τ hb hτ;split at hv
    ·rename_i hsub;obtain⟨hsub,hn⟩:=hsub;have hn:=le_of_ble_eq_true hn;split at hv
     ·rename_i a b ha hb';obtain⟨rfl,rfl⟩:=mB hv;obtain⟨h0,h1,h2⟩:=hc;obtain⟨e,hu,hte,_⟩:=hC.ty _ _ hτ;simp only[bC]at hx;unfold jY at hx;rw[hb]at hx;obtain⟨b',o,u,g1,g2,g3⟩:=hx;have:=lD g2;rw[hsub]at this;cases this;have hr:=lH (P:=P) G.w false n n (le_refl _) he ha hb' h0 h1 h2;refine⟨.slice (some (if a.toNat=n then⟨b',o,none⟩else⟨b',o+a.toNat*τ.size,none⟩)) (b.toNat-a.toNat) (n-a.toNat),?_,?_⟩
      ·simp only[execOp,g3,Instr.sliceAt,Sem.run_bind,run_underlying hu,Result.andThen_ok,Instr.sureAddr,map_none,hr,dn G.w hte.info,Sem.run_pure];by_cases hq:n=a.toNat
       ·rw[if_pos hq,if_pos hq.symm]
       ·rw[if_neg hq,if_neg (fun e=>hq e.symm),add_plain _ _ rfl]
      ·simp only[bC];unfold lj;rw[hb];exact⟨b',o,g1,g2,h0,h1,h2,by unfold maxLen;omega,rfl⟩
     ·cases hv
    ·cases hv
   ·cases hv
  ·rename_i id ver heq;rw[heq]at hx;split at hv
   ·rename_i τ' l ver' τ hb hτ;split at hv
    ·rename_i ht;obtain⟨ht,hver⟩:=ht;have hver:=eq_of_beq_eq_true hver;subst ht;subst hver;obtain⟨e,hu,hte,_⟩:=hC.ty _ _ hτ;simp only[bC]at hx;unfold lh at hx;rw[hb]at hx;have hfd:=qE hR hb;rw[<-hx.2.2 rfl]at hfd;obtain⟨y,r1,r2⟩:=vG (P:=P) G.w hu hte he hfd hv hc;refine⟨y,by simp only[execOp,Sem.run_bind,r1,Result.andThen_ok,Sem.run_pure],?_⟩;rcases r2 with ⟨a,b,rfl,r3⟩|⟨a,b,rfl,r3,ad,n,r4⟩
     ·simp only[bC];exact .gu r3 rfl
     ·simp only[bC];exact⟨r3,ad,n,r4⟩
    ·cases hv
   ·cases hv
  ·rename_i n τ l heq;rw[heq]at hx;split at hv
   ·rename_i n' τ' hτ;split at hv
    ·rename_i hnt;obtain⟨rfl,rfl,hn⟩:=hnt;have hn:=le_of_ble_eq_true hn;split at hv
     ·rename_i a b ha hb';obtain⟨rfl,rfl⟩:=mB hv;obtain⟨h0,h1,h2⟩:=hc;obtain⟨e,hu,hte,_⟩:=hC.ty _ _ hτ;simp only[bC]at hx;obtain⟨ad,ds,e1,e2,e3,e4,⟨hl,css,hcs,hal⟩⟩:=hx;have hr:=lH (P:=P) G.w false n n (le_refl _) he ha hb' h0 h1 h2;have hl':List.length l=n:=hl;have hbase:an G.env (.sl τ) l [.slice (some ad) (List.length l) n]:=by
       refine .inr ⟨ad,n,css,rfl,.inl e2,by rw[hl'];exact le_refl _,by unfold maxLen;omega,hal,?_,fun j v hj=>e4 j v (by rw[hcs];exact hj)⟩;rw[<-hcs];exact e3
      have hcut:=Ax hbase h0 h1 (by rw[hl'];exact h2) n (by omega) (le_refl _);refine⟨_,?_,by simp only[bC];exact .gu hcut rfl⟩;simp only[execOp,e1,Instr.sliceAt,Sem.run_bind,run_underlying hu,Result.andThen_ok,Instr.sureAddr,map_none,hr,dn G.w hte.info,Sem.run_pure];by_cases hq:n=a.toNat
      ·rw[if_pos hq,if_pos hq]
      ·rw[if_neg hq,if_neg hq];rfl
     ·cases hv
    ·cases hv
   ·cases hv
  ·cases hv
 case extract x ix=>
  have hx:=hL.ud hg x;split at hv
  ·rename_i l heq;rw[heq]at hx;simp only[bC]at hx;obtain⟨vs,e1,e2⟩:=hx;split at hv
   ·rename_i hi;have hi':ix<l.length:=le_of_ble_eq_true hi;obtain rfl:=fQ hv;obtain⟨y,h1,h2⟩:=ON e2 hi';exact⟨y,by simp[execOp,e1,Instr.extract,show vs[ix]? =some y by simpa using h1],h2.gD⟩
   ·cases hv
  ·cases hv
 case buildSlice t n parts=>
  split at hv
  ·split at hv
   ·split at hv
    ·split at hv<;>simp at hv
    ·cases hv
   ·cases hv
  ·cases hv
 case call c'=>
  split at hv
  ·rename_i hcal;split at hv
   ·rename_i id t h1 h2;split at hv
    ·rename_i kv κ ν l hmp hb;obtain⟨hq,rfl⟩:=mB hv;rw[<-hq]at hc;have hc:=le_of_ble_eq_true hc;obtain⟨kt,et⟩:=kv;have hu:=hC.mp _ _ _ hmp;obtain⟨ar,hargs⟩:∃x,c'.args.toList=[x]:=by
      cases hq:c'.args.toList with
      |nil=>rw[hq]at h1;simp at h1
      |cons x r=>cases r with
       |nil=>exact⟨x,rfl⟩
       |cons _ _=>rw[hq]at h1;simp at h1
     have hx:=hL.ud hg ar;rw[hargs]at h1;simp only[map_cons,map_nil,List.cons.injEq,and_true]at h1;rw[O4 h1]at hx;simp only[bC]at hx;unfold np at hx;rw[hb]at hx;obtain⟨b,e1,e2⟩:=hx;have h0:=hR.blk _ _ hb;obtain⟨b',es,clock,g1,g2,g3,g4,g5⟩:=h0;rw[e1]at g1;cases g1;have hlen:=g3.length;have ha1:c'.args.map ρ= #[ρ ar]:=by apply Array.ext';simp[hargs]
     have ha2:c'.argTypes= #[t]:=by apply Array.ext';simpa using h2
     have hgo:(getObj b).run P G.w= .ok (.map es clock) G.w:=by simp[getObj,Sem.run,g2]
     refine⟨.int .i64 (List.length l:Int),?_,.mkInt ?_⟩
     ·have:es.size=List.length l:=by rw[hlen];simp
      simp[execOp,resolve,hcal,ha1,e2,invoke,builtin,Builtin.len_,ha2,run_underlying hu,goInt,hgo,this]
     ·rw[iE];simp[IntKind.min,IntKind.max,IntKind.bits,IntKind.signed];omega
    ·cases hv
   ·rename_i τ l t h1 h2;split at hv
    ·rename_i hl;obtain rfl:=fQ hv;obtain⟨e,hu,_⟩:=hC.ty _ _ hl;obtain⟨ar,hargs⟩:∃x,c'.args.toList=[x]:=by
      cases hq:c'.args.toList with
      |nil=>rw[hq]at h1;simp at h1
      |cons x r=>cases r with
       |nil=>exact⟨x,rfl⟩
       |cons _ _=>rw[hq]at h1;simp at h1
     have hx:=hL.ud hg ar;rw[hargs]at h1;simp only[map_cons,map_nil,List.cons.injEq,and_true]at h1;obtain⟨ad,cap,css,e1,e2,e3,_⟩:=Hp hR hx h1;have ha1:c'.args.map ρ= #[ρ ar]:=by apply Array.ext';simp[hargs]
     have ha2:c'.argTypes= #[t]:=by apply Array.ext';simpa using h2
     refine⟨.int .i64 (List.length l:Int),?_,.mkInt ?_⟩
     ·simp[execOp,resolve,hcal,ha1,e1,invoke,builtin,Builtin.len_,ha2,run_underlying hu,goInt]
     ·rw[iE];unfold maxLen at e3;simp[IntKind.min,IntKind.max,IntKind.bits,IntKind.signed];omega
    ·cases hv
   ·rename_i l t h1 h2;split at hv
    ·rename_i hl;obtain rfl:=fQ hv;obtain⟨hu,_⟩:=hC.ty _ _ hl;obtain⟨ar,hargs⟩:∃x,c'.args.toList=[x]:=by
      cases hq:c'.args.toList with
      |nil=>rw[hq]at h1;simp at h1
      |cons x r=>cases r with
       |nil=>exact⟨x,rfl⟩
       |cons _ _=>rw[hq]at h1;simp at h1
     have hx:=hL.ud hg ar;rw[hargs]at h1;simp only[map_cons,map_nil,List.cons.injEq,and_true]at h1;have hx:=O5 hx h1;have ha1:c'.args.map ρ= #[ρ ar]:=by apply Array.ext';simp[hargs]
     have ha2:c'.argTypes= #[t]:=by apply Array.ext';simpa using h2
     obtain⟨s,e1,e2,e3⟩:=hx.one rfl;simp at e1;have hls:s.size=List.length l:=by rw[<-e2];simp[bytesOf]
     refine⟨.int .i64 (List.length l:Int),?_,.mkInt ?_⟩
     ·simp[execOp,resolve,hcal,ha1,e1,invoke,builtin,Builtin.len_,ha2,run_underlying hu,goInt,hls]
     ·rw[iE];unfold maxLen at e3;simp[IntKind.min,IntKind.max,IntKind.bits,IntKind.signed];omega
    ·cases hv
   ·cases hv
  ·rename_i hcal;split at hv
   ·rename_i k x k' y h1;split at hv;rotate_left
    ·cases hv
    rename_i hkk;subst hkk;obtain rfl:=fQ hv;obtain⟨a1,a2,hargs,e1,e2⟩:=HM h1;have hx:=hL.ud hg a1;have hy:=hL.ud hg a2;rw[e1]at hx;rw[e2]at hy;obtain⟨hx,rx⟩:=hx.int;obtain⟨hy,ry⟩:=hy.int;have ha1:c'.args.map ρ= #[ρ a1,ρ a2]:=by apply Array.ext';simp[hargs]
    refine⟨.int k (if y>x then y else x),?_,.mkInt ?_⟩
    ·simp[execOp,resolve,hcal,ha1,hx,hy,invoke,builtin,Builtin.max_,Builtin.max2]
    ·split<;>assumption
   ·cases hv
  ·rename_i hcal;split at hv
   ·rename_i k x k' y h1;split at hv;rotate_left
    ·cases hv
    rename_i hkk;subst hkk;obtain rfl:=fQ hv;obtain⟨a1,a2,hargs,e1,e2⟩:=HM h1;have hx:=hL.ud hg a1;have hy:=hL.ud hg a2;rw[e1]at hx;rw[e2]at hy;obtain⟨hx,rx⟩:=hx.int;obtain⟨hy,ry⟩:=hy.int;have ha1:c'.args.map ρ= #[ρ a1,ρ a2]:=by apply Array.ext';simp[hargs]
    refine⟨.int k (if y<x then y else x),?_,.mkInt ?_⟩
    ·simp[execOp,resolve,hcal,ha1,hx,hy,invoke,builtin,Builtin.min_,Builtin.min2]
    ·split<;>assumption
   ·cases hv
  ·simp at hv
  ·split at hv
   ·split at hv
    ·split at hv
     ·cases hv
     ·split at hv<;>simp at hv
    ·cases hv
   ·cases hv
 all_goals (first|(cases hv;done)|(simp at hv;done))
end
section
variable {P:Program}{C:Ctx}{G:GE}{fr:List V}{ρ:Operand->Value}{tm:Array Value}
def jn{α:Type}(f:Nat->α)(i:Nat)(x:α):Nat->α:=fun j=>if j=i then x else f j
theorem cq{α:Type}(f:Nat->α)(i:Nat)(x:α):jn f i x i=x:=if_pos rfl
theorem kM{α:Type}(f:Nat->α){i j:Nat}(x:α)(h:j≠i):jn f i x j=f j:=if_neg h
theorem cW.lt(h:cW G){id:Nat}{blk:jX}(hb:aw G.hp id=some blk){b:Nat}(hβ:G.β id=some b):b<G.w.heap.size:=by
 have h0:=h.blk _ _ hb;cases blk with
 |cell t v z=>obtain⟨b',arr,ty,g1,g2,_⟩:=h0;rw[hβ]at g1;cases g1;exact(Array.getElem?_eq_some_iff.1 g2).1
 |buf t l ver z=>
  rcases h0 with ⟨b',arr,ty,css,cap,rest,g1,g2,g3,_⟩|⟨g1,_⟩
  ·rw[hβ]at g1;cases g1;exact(Array.getElem?_eq_some_iff.1 g3).1
  ·rw[hβ]at g1;cases g1
 |map k v l=>obtain⟨b',es,clock,g1,g2,_⟩:=h0;rw[hβ]at g1;cases g1;exact(Array.getElem?_eq_some_iff.1 g2).1
abbrev GE.jn(G:GE)(w':World)(id:Nat)(ob:Option Nat)(sv:Value)(blk':jX):GE:=⟨w',Bx.jn G.β id ob,Bx.jn G.σ id sv,fR G.hp id blk',G.n0,G.Bo,G.I0⟩
theorem cW.jn(h:cW G){id:Nat}{blk':jX}{w':World}{ob:Option Nat}{sv:Value}
  (hsz:G.w.heap.size<=w'.heap.size) (hos:w'.os=G.w.os) (htp:w'.tape=G.w.tape) (hout:w'.output=G.w.output)
  (hfr:∀b,b<G.w.heap.size->(∀blk,aw G.hp id=some blk->G.β id≠some b)->w'.heap[b]? =G.w.heap[b]?)
  (hob:∀b,ob=some b->b<w'.heap.size/\(G.w.heap.size<=b\/∃blk,aw G.hp id=some blk/\G.β id=some b))
  (hkeep:∀blk,aw G.hp id=some blk->(∀b,G.β id=some b->∀m,blk.im m->(∀j,j<m->w'.cell? ⟨b,j,none⟩=G.w.cell? ⟨b,j,none⟩)/\(ob=some b->blk'.im m))/\∀v,gA G (G.jn w' id ob sv blk') id id v v blk blk')
  (lC:Ext G.env (G.jn w' id ob sv blk').env->nO G (G.jn w' id ob sv blk')->rG (G.jn w' id ob sv blk') id blk'):
  Tr G (G.jn w' id ob sv blk')/\cW (G.jn w' id ob sv blk'):=by
 have hE:Ext G.env (G.jn w' id ob sv blk').env:=by
  refine⟨fun b m ⟨h1,h2,h3⟩=>⟨h1,Nat.lt_of_lt_of_le h2 hsz,fun i bl hi hβ=>?_⟩,fun b m ⟨h1,h2,h3⟩ j hj=>?_⟩
  ·simp only[GE.jn]at hi hβ;rw[bO]at hi;by_cases e:i=id
   ·subst e;rw[cq]at hβ;grind
   ·rw[if_neg e]at hi;rw[kM _ _ e]at hβ;grind
  ·by_cases e:∃blk,aw G.hp id=some blk/\G.β id=some b
   ·obtain⟨blk,k1,k2⟩:=e;exact((hkeep blk k1).1 b k2 m (h3 _ blk k1 k2)).1 j hj
   ·exact World.cell?_of_block (w:=G.w) (w':=w') (a:=⟨b,j,none⟩) (hfr b h2 fun blk k1 k2=>e ⟨blk,k1,k2⟩)
 have hK:nO G (G.jn w' id ob sv blk'):=⟨hE,fun i ver j u bl hρ hi=>by
  simp only[yi,Option.some.injEq,Prod.mk.injEq]at hρ;obtain⟨rfl,rfl⟩:=hρ;by_cases e:i=id
  ·subst e;exact⟨blk',by simp only[GE.jn];rw[bO,if_pos rfl],(hkeep bl hi).2 ver⟩
  ·exact⟨bl,by simp only[GE.jn];rw[bO,if_neg e];exact hi,gA.refl _ _ _ _ _ (kM _ _ e) (kM _ _ e)⟩⟩
 have hn:∀b,(G.jn w' id ob sv blk').named b->G.w.heap.size<=b\/G.named b:=by
  rintro b ⟨i,bl,h1,h2⟩;simp only[GE.jn]at h1 h2;rw[bO]at h1;by_cases e:i=id
  ·subst e;rw[cq]at h2;rcases(hob b h2).2 with hl|⟨blk,k1,k2⟩
   ·exact .inl hl
   ·exact .inr ⟨_,blk,k1,k2⟩
  ·rw[if_neg e]at h1;rw[kM _ _ e]at h2;exact .inr ⟨i,bl,h1,h2⟩
 refine⟨⟨hK,hos,htp,hout,hsz,fun b hb hnb=>hfr b hb fun blk k1 k2=>hnb ⟨id,blk,k1,k2⟩,hn⟩,⟨h.glob.ext hE,fun i bl hi=>?_,fun i i' bl bl' b h1 h2 h3 h4=>?_,fun b hb'=>?_,le_trans h.base hsz⟩⟩
 ·simp only[GE.jn]at hi;rw[bO]at hi;by_cases e:i=id
  ·subst e;rw[if_pos rfl]at hi;cases hi;exact lC hE hK
  ·rw[if_neg e]at hi;have h0:=h.blk i bl hi;have hbl:∀b,G.β i=some b->b<G.w.heap.size->w'.heap[b]? =G.w.heap[b]?:=fun b hβ hlt=>hfr b hlt fun blk k1 k2=>e (h.inj _ _ _ _ _ hi k1 hβ k2);have hβi:(G.jn w' id ob sv blk').β i=G.β i:=kM _ _ e;have hσi:(G.jn w' id ob sv blk').σ i=G.σ i:=kM _ _ e;cases bl with
   |cell t v z=>obtain⟨b,arr,ty,g1,g2,g3⟩:=h0;exact⟨b,arr,ty,hβi.trans g1,(hbl b g1 (Array.getElem?_eq_some_iff.1 g2).1).trans g2,g3.ext hK⟩
   |buf t l ver z=>
    rcases h0 with ⟨b,arr,ty,css,cap,rest,g1,g2,g3,g4,g5,g6,g7,g8⟩|⟨g1,g2,g3,g4⟩
    ·exact .inl ⟨b,arr,ty,css,cap,rest,hβi.trans g1,hσi.trans g2,(hbl b g1 (Array.getElem?_eq_some_iff.1 g3).1).trans g3,g4.mono fun _ _ h=>h.ext hE,g5,g6,g7,g8⟩
    ·exact .inr ⟨hβi.trans g1,g2,by rw[hσi];exact g3.ext hE,by rw[hσi];exact g4⟩
   |map k v l=>obtain⟨b,es,clock,g1,g2,g3,g4⟩:=h0;exact⟨b,es,clock,hβi.trans g1,(hbl b g1 (Array.getElem?_eq_some_iff.1 g2).1).trans g2,g3.mono fun _ _ h=>⟨h.1.ext hE,h.2.ext hE⟩,g4⟩
 ·simp only[GE.jn]at h1 h2 h3 h4;rw[bO]at h1 h2;by_cases e:i=id<;>by_cases e':i'=id
  ·rw[e,e']
  ·exfalso;subst e;rw[cq]at h3;rw[kM _ _ e']at h4;rw[if_neg e']at h2;have hlt:=h.lt h2 h4;rcases(hob b h3).2 with hl|⟨blk,k1,k2⟩
   ·omega
   ·exact e' (h.inj _ _ _ _ _ h2 k1 h4 k2)
  ·exfalso;subst e';rw[cq]at h4;rw[kM _ _ e]at h3;rw[if_neg e]at h1;have hlt:=h.lt h1 h3;rcases(hob b h4).2 with hl|⟨blk,k1,k2⟩
   ·omega
   ·exact e (h.inj _ _ _ _ _ h1 k1 h3 k2)
  ·rw[if_neg e]at h1;rw[if_neg e']at h2;rw[kM _ _ e]at h3;rw[kM _ _ e']at h4;exact h.inj _ _ _ _ _ h1 h2 h3 h4
 ·rcases hn b hb' with hl|hl
  ·exact .inl (le_trans h.base hl)
  ·exact h.own b hl
theorem cW.grow(h:cW G){w':World}(hb:Below G.w.heap.size G.w w'):Tr G ⟨w',G.β,G.σ,G.hp,G.n0,G.Bo,G.I0⟩/\cW ⟨w',G.β,G.σ,G.hp,G.n0,G.Bo,G.I0⟩:=by
 have hE:Ext G.env (GE.env ⟨w',G.β,G.σ,G.hp,G.n0,G.Bo,G.I0⟩):=
  ⟨fun b m ⟨h1,h2,h3⟩=>⟨h1,Nat.lt_of_lt_of_le h2 hb.size,h3⟩,fun b m ⟨h1,h2,h3⟩ j hj=>World.cell?_of_block (w:=G.w) (w':=w') (a:=⟨b,j,none⟩) (hb.block b h2)⟩
 have hK:nO G ⟨w',G.β,G.σ,G.hp,G.n0,G.Bo,G.I0⟩:=⟨hE,fun i ver j u bl hρ hi=>by
  simp only[yi,Option.some.injEq,Prod.mk.injEq]at hρ;obtain⟨rfl,rfl⟩:=hρ;exact⟨bl,hi,gA.refl _ _ _ _ _ rfl rfl⟩⟩
 refine⟨⟨hK,hb.os,hb.tape,hb.output,hb.size,fun b hlt _=>hb.block b hlt,fun b hn=>.inr hn⟩,⟨h.glob.ext hE,fun i bl hi=>?_,h.inj,h.own,le_trans h.base hb.size⟩⟩;have h0:=h.blk i bl hi;cases bl with
 |cell t v z=>obtain⟨b,arr,ty,g1,g2,g3⟩:=h0;exact⟨b,arr,ty,g1,(hb.block b (Array.getElem?_eq_some_iff.1 g2).1).trans g2,g3.ext hK⟩
 |buf t l ver z=>
  rcases h0 with ⟨b,arr,ty,css,cap,rest,g1,g2,g3,g4,g5,g6,g7,g8⟩|⟨g1,g2,g3,g4⟩
  ·exact .inl ⟨b,arr,ty,css,cap,rest,g1,g2,(hb.block b (Array.getElem?_eq_some_iff.1 g3).1).trans g3,g4.mono fun _ _ h=>h.ext hE,g5,g6,g7,g8⟩
  ·exact .inr ⟨g1,g2,g3.ext hE,g4⟩
 |map k v l=>obtain⟨b,es,clock,g1,g2,g3,g4⟩:=h0;exact⟨b,es,clock,g1,(hb.block b (Array.getElem?_eq_some_iff.1 g2).1).trans g2,g3.mono fun _ _ h=>⟨h.1.ext hE,h.2.ext hE⟩,g4⟩
theorem cW.Kn(h:cW G){id:Nat}(hf:free G.hp id=true){τ:Ty}{v:V}{cs:Array Value}(hx:dZ G τ v cs.toList)(ty:TypeId):
  Tr G (G.jn (G.w.alloc (.cells cs ty)) id (some G.w.heap.size) .nilFunc (.cell τ v false))/\cW (G.jn (G.w.alloc (.cells cs ty)) id (some G.w.heap.size) .nilFunc (.cell τ v false))/\
   jY (G.jn (G.w.alloc (.cells cs ty)) id (some G.w.heap.size) .nilFunc (.cell τ v false)) id 0 [] (.pointer (some ⟨G.w.heap.size,0,none⟩)):=by
 have hn:aw G.hp id=none:=by
  unfold free at hf;split at hf
  ·cases hf
  ·assumption
 obtain⟨t1,t2⟩:=h.jn (id:=id) (blk':=.cell τ v false) (w':=G.w.alloc (.cells cs ty)) (ob:=some G.w.heap.size) (sv:=.nilFunc) (by simp) rfl rfl rfl
  (fun b hb _=>Below.heap_alloc G.w _ b hb) (fun b e=>by cases e;exact⟨by simp,.inl (le_refl _)⟩) (fun blk hb=>by rw[hn]at hb;cases hb)
  fun hE hK=>⟨G.w.heap.size,cs,ty,cq _ _ _,heap_alloc_new G.w _,hx.ext hK⟩
 refine⟨t1,t2,?_⟩;unfold jY;have:aw (G.jn (G.w.alloc (.cells cs ty)) id (some G.w.heap.size) .nilFunc (.cell τ v false)).hp id=some (.cell τ v false):=by simp only[GE.jn];rw[bO,if_pos rfl]
 rw[this];exact⟨G.w.heap.size,0,τ,cq _ _ _,by cases τ<;>simp[aX],rfl⟩
theorem xl.lone{τ:Ty}{v:V}{x:Value}(hv:v.tree=true->False)(h:xl τ v x):∀c∈x.cells.toList,fC c:=by
 intro c hc;cases ht:τ.isAgg with
 |true=>exact(hv (h.tree ht)).elim
 |false=>have:=h.one ht;rw[this.1]at hc;simp at hc;subst hc;exact this
mutual
theorem V.Hb:∀(v:V){τ:Ty}{x:Value}{tm:Array Value},xl τ v x->bC G tm v x->∀c∈x.cells.toList,fC c
 | .data t y,τ,x,tm,hs,ha,c,hc=>by simp only[bC]at ha;exact an.cell _ _ _ ha.cells c hc
 | .agg t l,τ,x,tm,hs,ha,c,hc=>by simp only[bC]at ha;obtain⟨cs,rfl,hf⟩:=ha;exact V.DK l hf c (by simpa[Value.cells]using hc)
 | .any,τ,x,tm,hs,ha,c,hc=>by exact xl.lone (fun h=>by cases h) hs c hc
 | .nilp,τ,x,tm,hs,ha,c,hc=>by exact xl.lone (fun h=>by cases h) hs c hc
 | .snil,τ,x,tm,hs,ha,c,hc=>by exact xl.lone (fun h=>by cases h) hs c hc
 | .ref _ _ _,τ,x,tm,hs,ha,c,hc=>by exact xl.lone (fun h=>by cases h) hs c hc
 | .iref _ _,τ,x,tm,hs,ha,c,hc=>by exact xl.lone (fun h=>by cases h) hs c hc
 | .tup _,τ,x,tm,hs,ha,c,hc=>by exact xl.lone (fun h=>by cases h) hs c hc
 | .opt _ _ _,τ,x,tm,hs,ha,c,hc=>by exact xl.lone (fun h=>by cases h) hs c hc
 | .fn _ _ _,τ,x,tm,hs,ha,c,hc=>by exact xl.lone (fun h=>by cases h) hs c hc
 | .full _ _,τ,x,tm,hs,ha,c,hc=>by exact xl.lone (fun h=>by cases h) hs c hc
 | .app _ _,τ,x,tm,hs,ha,c,hc=>by exact xl.lone (fun h=>by cases h) hs c hc
 | .view _ _ _ _ _ _,τ,x,tm,hs,ha,c,hc=>by exact xl.lone (fun h=>by cases h) hs c hc
 | .ifc _ _,τ,x,tm,hs,ha,c,hc=>by exact xl.lone (fun h=>by cases h) hs c hc
 | .mth _ _,τ,x,tm,hs,ha,c,hc=>by exact xl.lone (fun h=>by cases h) hs c hc
 | .map _,τ,x,tm,hs,ha,c,hc=>by exact xl.lone (fun h=>by cases h) hs c hc
 | .glob _,τ,x,tm,hs,ha,c,hc=>by exact xl.lone (fun h=>by cases h) hs c hc
theorem V.DK:∀(l:List V){τ:Ty}{cs:List Value},dE G τ l cs->∀c∈cs,fC c
 |[],τ,cs,hf,c,hc=>by simp only[dE]at hf;grind
 |v::l,τ,cs,hf,c,hc=>by
  simp only[dE]at hf;obtain⟨a,r,x,cs',h1,rfl,h2,h3,h4⟩:=hf;rcases List.mem_append.1 hc with h|h
  ·exact V.Hb v h2 h3 c h
  ·exact V.DK l h4 c h
end
theorem dZ.one{τ:Ty}{v:V}{cs:List Value}(h:dZ G τ v cs):∀c∈cs,fC c:=by obtain⟨x,rfl,h1,h2⟩:=h;exact V.Hb v h1 h2
theorem HN{σ:Ty}{id ver:Nat}{p:List Step}{v:Value}(h:jY G id ver p v){c:V}{z:Bool}(hb:aw G.hp id=some (.cell σ c z)){τ:Ty}(hs:mf σ p=some τ):∃b o,G.β id=some b/\aX σ p=some (o,τ)/\v= .pointer (some ⟨b,o,none⟩):=by unfold jY at h;rw[hb]at h;obtain⟨b,o,u,h1,h2,h3⟩:=h;have:=lD h2;grind
theorem GE.cq(G:GE)(w':World)(id:Nat)(blk':jX):G.jn w' id (G.β id) (G.σ id) blk'=⟨w',G.β,G.σ,fR G.hp id blk',G.n0,G.Bo,G.I0⟩:=by
 have h1:Bx.jn G.β id (G.β id)=G.β:=by funext i;unfold Bx.jn;split<;>simp_all
 have h2:Bx.jn G.σ id (G.σ id)=G.σ:=by funext i;unfold Bx.jn;split<;>simp_all
 grind
theorem cW.Eg(h:cW G){id:Nat}{σ:Ty}{v v':V}(hb:aw G.hp id=some (.cell σ v false)){b:Nat}{arr arr':Array Value}{ty:TypeId}(hβ:G.β id=some b)(hw:G.w.heap[b]? =some (.cells arr ty (0,0)))
  (hy:dZ G σ v' arr'.toList):Tr G ⟨G.w.setRow b arr',G.β,G.σ,fR G.hp id (.cell σ v' false),G.n0,G.Bo,G.I0⟩/\cW ⟨G.w.setRow b arr',G.β,G.σ,fR G.hp id (.cell σ v' false),G.n0,G.Bo,G.I0⟩:=by
 have:=h.jn (id:=id) (blk':=.cell σ v' false) (w':=G.w.setRow b arr') (ob:=G.β id) (sv:=G.σ id) (by simp) rfl rfl rfl
  (fun b' _ hne=>setRow_other G.w b b' arr' (fun e=>hne _ hb (by rw[e];exact hβ))) (fun b' e=>⟨by simpa using h.lt hb e,.inr ⟨_,hb,e⟩⟩)
  (fun blk hb'=>by
   rw[hb]at hb';cases hb';exact⟨(fun b' _ m hm=>by simp only[jX.im]at hm;cases hm.1),fun v=>by simp only[gA];exact⟨trivial,Bx.cq _ _ _⟩⟩)
  fun hE hK=>⟨b,arr',ty,(Bx.cq _ _ _).trans hβ,setRow_heap G.w b arr arr' ty _ hw,hy.ext hK⟩
 rwa [GE.cq]at this
end
section
variable {P:Program}{C:Ctx}{G:GE}{fr:List V}{ρ:Operand->Value}{tm:Array Value}
theorem J2{n b:Nat}(h:eF n b=true):n*b<=140737488355328/\n<=140737488355328:=by simp only[eF,and_eq_true]at h;simp_all
theorem Eb{τ:Ty}{z:Value}(h:zJ τ z.cells.toList)(hc:τ.chained=true):z.cells.size=τ.size:=by have:=(na (G:=⟨default,fun _=>none,fun _=>undef,[],0,fun _=>False,fun _ _=>False⟩) τ _ hc h).length;simpa using this
theorem rP(w:World){t ty e:TypeId}(i:TypeInfo)(ht:P.underlying t=some (.slice e))(hi:P.info? e=some i){a:Option Addr}{n cap:Nat}(hn:n<=cap){b:Option Addr}{c:Nat}:
  (Builtin.append_ #[t,t] ty #[.slice a n cap,.slice b 0 c]).run P w= .ok (.slice a n cap) w:=by
 have hf:(Builtin.firstCells i.size 0 (.slice b 0 c)).run P w= .ok #[] w:=by
  cases b with
  |none=>simp[Builtin.firstCells]
  |some b=>have:=run_firstCells_some (P:=P) w i.size 0 b 0 c [] (by simp) (by simp);simpa using this
 cases a with
 |none=>simp[Builtin.append_,run_underlying ht,sizeOf,typeInfo,hi,Builtin.lenOf,hn,hf]
 |some a=>simp[Builtin.append_,run_underlying ht,sizeOf,typeInfo,hi,Builtin.lenOf,hn,hf,storeCells]
theorem yb(w:World)(t ty e te:TypeId)(i:TypeInfo)(ht:P.underlying t=some (.slice e))(hi:P.info? e=some i)
  (g sLen sCap:Nat) (cur:Array Value) (hg:w.heap[g]? =some (.cells cur te (0,0)))
  (a:Addr) (m c:Nat) (news:List Value) (hl:news.length=m*i.size) (hnews:∀j u,news[j]? =some u->w.cell? (a.add j)=some u) (h1:∀u∈news,u.oneCell'=true)
  (hroom:sLen+m<=sCap) (hfit:sLen*i.size+news.length<=cur.size):
  (Builtin.append_ #[t,t] ty #[.slice (some ⟨g,0,none⟩) sLen sCap,.slice (some a) m c]).run P w=
   .ok (.slice (some ⟨g,0,none⟩) (sLen+m) sCap) (w.setRow g (cur.toList.take (sLen*i.size)++news++cur.toList.drop (sLen*i.size+news.length)).toArray):=by
 have hf:=run_firstCells_some (P:=P) w i.size m a m c news hl hnews;have hst:=run_storeCells_at P g (sLen*i.size) te news 0 cur w hg (by simpa using hfit) h1;simp only[Nat.add_zero]at hst;simp[Builtin.append_,run_underlying ht,sizeOf,typeInfo,hi,Builtin.lenOf,hroom,hf,Addr.add_lit,hst]
theorem kD{α β:Type}{R:α->β->Prop}:∀{l:List α}{m:List β}{l':List α}{m':List β},df R l m->df R l' m'->df R (l++l') (m++m')
 |[],[],_,_,_,h=>h
 |_::_,_::_,_,_,⟨h1,h2⟩,h=>⟨h1,kD h2 h⟩
theorem BL(w:World){E:Env}{τ:Ty}{t ty e:TypeId}(ht:P.underlying t=some (.slice e))(hte:jo P τ e){l m:List τ.den}{a:Option Addr}{cssL cssM:List (List Value)}
  (hL:df (an E τ) l cssL) (hM:df (an E τ) m cssM) {b:Addr} {c cap:Nat} (hnil:a=none->l=[]/\cap=0)
  (holds:∀ad,a=some ad->∀j v,cssL.flatten[j]? =some v->w.cell? (ad.add j)=some v) (hnews:∀j v,cssM.flatten[j]? =some v->w.cell? (b.add j)=some v)
  (hcap:cap<l.length+m.length) (hfit:eF (l.length+m.length) τ.bytes=true):
  ∃(arr:Array Value)(cap':Nat)(rest:List Value),(Builtin.append_ #[t,t] ty #[.slice a l.length cap,.slice (some b) m.length c]).run P w= .ok (.slice (some ⟨w.heap.size,0,none⟩) (l++m).length cap') (w.drew.alloc (.cells arr e))/\
   arr.toList=(cssL++cssM).flatten++rest/\arr.size=cap'*τ.size/\(l++m).length<=cap'/\cap'<=maxLen:=by
 obtain⟨inf,z,hi,hsz,hz,hzc,_,_,hby⟩:=hte.info;obtain⟨hf1,hf2⟩:=J2 hfit;have hzs:=Eb hzc hte.chained;have lL:=df.dX (fun a cs h=>an.length τ a cs h) hL;have lM:=df.dX (fun a cs h=>an.length τ a cs h) hM;have hmax:l.length+m.length<=maxLen:=by unfold maxLen;omega
 have hge:=grownCap_ge w (l.length+m.length) cap e;have hle:=grownCap_le_maxLen w (l.length+m.length) cap e hmax;have hzl:∀n,(Builtin.zeroCells z.cells n).size=n*τ.size:=fun n=>by rw[size_zeroCells,hzs]
 cases a with
 |none=>
  obtain⟨rfl,rfl⟩:=hnil rfl;cases cssL with
  |cons _ _=>exact hL.elim
  |nil=>
   have hm:0<m.length:=by simpa using hcap
   have e0:List.length ([]:List τ.den)+List.length m=List.length m:=by simp
   rw[e0]at hge hle hf1 hf2;refine⟨cssM.flatten.toArray++Builtin.zeroCells z.cells (grownCap w m.length 0 e-m.length),grownCap w m.length 0 e,(Builtin.zeroCells z.cells (grownCap w m.length 0 e-m.length)).toList,?_,?_,?_,by simpa using hge,hle⟩
   ·have:=run_append_nil (P:=P) w t ty e inf z ht hi hz b m.length c cssM.flatten (by rw[lM,hsz]) hnews hm (by omega) (by rw[hby];omega);simpa using this
   ·simp
   ·rw[Array.size_append,hzl,size_toArray,lM,Nat.sub_mul];have:=mul_le_mul_right τ.size hge;omega
 |some ad=>
  refine⟨cssL.flatten.toArray++cssM.flatten.toArray++Builtin.zeroCells z.cells (grownCap w (l.length+m.length) cap e-(l.length+m.length)),grownCap w (l.length+m.length) cap e,(Builtin.zeroCells z.cells (grownCap w (l.length+m.length) cap e-(l.length+m.length))).toList,?_,?_,?_,by simpa using hge,hle⟩
  ·have:=run_append_grow (P:=P) w t ty e inf z ht hi hz ad l.length cap cssL.flatten (by rw[lL,hsz]) (holds ad rfl) b m.length c cssM.flatten (by rw[lM,hsz]) hnews (by omega) (by omega) (growslice_fits (by omega) (by rw[hby];exact hf1));rw[this,List.length_append]
  ·simp
  ·rw[Array.size_append,Array.size_append,hzl,size_toArray,size_toArray,lL,lM,Nat.sub_mul];have:=mul_le_mul_right τ.size hge;rw[add_mul]at this⊢;omega
theorem vZ{id:Nat}{τ:Ty}{l:List τ.den}{ver:Nat}{z:Bool}{G2:GE}(hv:∀blk,aw G.hp id=some blk->∃t l' ver' z',blk= .buf t l' ver' z'/\ver'<ver){blk:jX}(hb:aw G.hp id=some blk)(v:Nat):
  gA G G2 id id v v blk (.buf τ l ver z):=by
 obtain⟨t,l',ver',z',rfl,hlt⟩:=hv _ hb;simp only[gA];exact⟨fun h=>by omega,fun h e=>by omega⟩
theorem cW.OK(h:cW G){id:Nat}{τ:Ty}{l:List τ.den}{ver:Nat}(hv:∀blk,aw G.hp id=some blk->∃t l' ver' z',blk= .buf t l' ver' z'/\ver'<ver){arr:Array Value}{cap:Nat}{css:List (List Value)}{rest:List Value}{w1:World}(hb:Below G.w.heap.size G.w w1)(hs1:w1.heap.size=G.w.heap.size)(ha:df (an G.env τ) l css)
  (h1:arr.toList=css.flatten++rest) (h2:arr.size=cap*τ.size) (h3:l.length<=cap) (h4:cap<=maxLen) (ty:TypeId) (z:Bool):
  Tr G (G.jn (w1.alloc (.cells arr ty)) id (some G.w.heap.size) (.slice (some ⟨G.w.heap.size,0,none⟩) l.length cap) (.buf τ l ver z))/\cW (G.jn (w1.alloc (.cells arr ty)) id (some G.w.heap.size) (.slice (some ⟨G.w.heap.size,0,none⟩) l.length cap) (.buf τ l ver z))/\
   lh (G.jn (w1.alloc (.cells arr ty)) id (some G.w.heap.size) (.slice (some ⟨G.w.heap.size,0,none⟩) l.length cap) (.buf τ l ver z)) id ver (.slice (some ⟨G.w.heap.size,0,none⟩) l.length cap):=by
 have hb2:Below G.w.heap.size G.w (w1.alloc (.cells arr ty)):=hb.alloc (by omega) _;obtain⟨t1,t2⟩:=h.jn (id:=id) (blk':=.buf τ l ver z) (w':=w1.alloc (.cells arr ty)) (ob:=some G.w.heap.size) (sv:=.slice (some ⟨G.w.heap.size,0,none⟩) l.length cap) hb2.size hb2.os hb2.tape hb2.output
  (fun b hb' _=>hb2.block b hb') (fun b e=>by cases e;exact⟨by simp[hs1],.inl (le_refl _)⟩)
  (fun blk hb'=>⟨fun b hβ m hm=>⟨fun j hj=>World.cell?_of_block (w:=G.w) (a:=⟨b,j,none⟩) (hb2.block b (h.lt hb' hβ)),fun e=>by cases e;exact absurd (h.lt hb' hβ) (Nat.lt_irrefl _)⟩,fun v=>vZ hv hb' v⟩)
  fun hE hK=>.inl ⟨G.w.heap.size,arr,ty,css,cap,rest,cq _ _ _,cq _ _ _,by rw[<-hs1];exact heap_alloc_new w1 _,ha.mono fun _ _ h=>h.ext hE,h1,h2,h3,h4⟩
 refine⟨t1,t2,?_⟩;unfold lh;have:aw (G.jn (w1.alloc (.cells arr ty)) id (some G.w.heap.size) (.slice (some ⟨G.w.heap.size,0,none⟩) l.length cap) (.buf τ l ver z)).hp id=some (.buf τ l ver z):=by rw[bO,if_pos rfl]
 rw[this];exact⟨le_refl _,⟨_,_,_,rfl⟩,fun _=>(cq _ _ _).symm⟩
theorem cW.Kz(h:cW G){id:Nat}{τ:Ty}{l:List τ.den}{ver:Nat}(hv:∀blk,aw G.hp id=some blk->G.β id=none/\∃t l' ver' z',blk= .buf t l' ver' z'/\ver'<ver){x:Value}(hx:an G.env (.sl τ) l [x])(hfull:∃a n,x= .slice a n n){z:Bool}(hz:z=true\/l=[]):
  Tr G (G.jn G.w id none x (.buf τ l ver z))/\cW (G.jn G.w id none x (.buf τ l ver z))/\lh (G.jn G.w id none x (.buf τ l ver z)) id ver x:=by
 obtain⟨t1,t2⟩:=h.jn (id:=id) (blk':=.buf τ l ver z) (w':=G.w) (ob:=none) (sv:=x) (le_refl _) rfl rfl rfl
  (fun b hb' _=>rfl) (fun b e=>by cases e) (fun blk hb'=>⟨(fun b hβ m hm=>by rw[(hv _ hb').1]at hβ;cases hβ),fun v=>vZ (fun blk hb=>(hv blk hb).2) hb' v⟩)
  fun hE hK=>.inr ⟨cq _ _ _,hz,by rw[show(G.jn G.w id none x (.buf τ l ver z)).σ id=x from cq _ _ _];exact hx.ext hE,by rw[show(G.jn G.w id none x (.buf τ l ver z)).σ id=x from cq _ _ _];exact hfull⟩
 refine⟨t1,t2,?_⟩;unfold lh;have:aw (G.jn G.w id none x (.buf τ l ver z)).hp id=some (.buf τ l ver z):=by rw[bO,if_pos rfl]
 rw[this];obtain⟨a,n,hs⟩:=hfull;exact⟨le_refl _,⟨_,_,_,hs⟩,fun _=>(cq _ _ _).symm⟩
theorem cW.QP(h:cW G){id:Nat}{τ:Ty}{l m:List τ.den}{ver:Nat}{z:Bool}(hb:aw G.hp id=some (.buf τ l ver z)){b:Nat}{arr arr':Array Value}{ty:TypeId}{css css2:List (List Value)}{cap:Nat}{rest rest':List Value}
  (hβ:G.β id=some b) (hw:G.w.heap[b]? =some (.cells arr ty (0,0))) (ha:df (an G.env τ) l css) (hm:df (an G.env τ) m css2) (h1:arr.toList=css.flatten++rest) (h1':arr'.toList=(css++css2).flatten++rest') (h2:arr'.size=cap*τ.size) (h3:(l++m).length<=cap) (h4:cap<=maxLen):
  Tr G (G.jn (G.w.setRow b arr') id (some b) (.slice (some ⟨b,0,none⟩) (l++m).length cap) (.buf τ (l++m) (ver+1) z))/\cW (G.jn (G.w.setRow b arr') id (some b) (.slice (some ⟨b,0,none⟩) (l++m).length cap) (.buf τ (l++m) (ver+1) z))/\
   lh (G.jn (G.w.setRow b arr') id (some b) (.slice (some ⟨b,0,none⟩) (l++m).length cap) (.buf τ (l++m) (ver+1) z)) id (ver+1) (.slice (some ⟨b,0,none⟩) (l++m).length cap):=by
 have hlen:=df.dX (fun a cs h=>an.length τ a cs h) ha;obtain⟨t1,t2⟩:=h.jn (id:=id) (blk':=.buf τ (l++m) (ver+1) z) (w':=G.w.setRow b arr') (ob:=some b) (sv:=.slice (some ⟨b,0,none⟩) (l++m).length cap) (by simp) rfl rfl rfl
  (fun b' _ hne=>setRow_other G.w b b' arr' (fun e=>hne _ hb (by rw[e];exact hβ))) (fun b' e=>by cases e;exact⟨by simpa using h.lt hb hβ,.inr ⟨_,hb,hβ⟩⟩)
  (fun blk hb'=>by
   rw[hb]at hb';cases hb';refine⟨fun b' hβ' k hk=>?_,fun v=>vZ (fun blk hb'=>by rw[hb]at hb';cases hb';exact⟨_,_,_,_,rfl,Nat.lt_succ_self _⟩) hb v⟩;rw[hβ]at hβ';cases hβ';simp only[jX.im]at hk⊢;refine⟨fun j hj=>?_,fun _=>⟨hk.1,le_trans hk.2 (mul_le_mul_right _ (by simp))⟩⟩;rw[kE hw,kE (setRow_heap G.w b arr arr' ty _ hw),h1,h1'];rw[List.flatten_append,List.append_assoc,List.getElem?_append_left (by omega),List.getElem?_append_left (by omega)])
  fun hE hK=>.inl ⟨b,arr',ty,css++css2,cap,rest',cq _ _ _,cq _ _ _,setRow_heap G.w b arr arr' ty _ hw,(kD ha hm).mono fun _ _ h=>h.ext hE,h1',h2,h3,h4⟩
 refine⟨t1,t2,?_⟩;unfold lh;have:aw (G.jn (G.w.setRow b arr') id (some b) (.slice (some ⟨b,0,none⟩) (l++m).length cap) (.buf τ (l++m) (ver+1) z)).hp id=some (.buf τ (l++m) (ver+1) z):=by rw[bO,if_pos rfl]
 rw[this];exact⟨le_refl _,⟨_,_,_,rfl⟩,fun _=>(cq _ _ _).symm⟩
theorem cW.QC(h:cW G){id:Nat}{τ:Ty}{l:List τ.den}{ver:Nat}{z:Bool}(hb:aw G.hp id=some (.buf τ l ver z)):
  Tr G (G.jn G.w id (G.β id) (G.σ id) (.buf τ l (ver+1) z))/\cW (G.jn G.w id (G.β id) (G.σ id) (.buf τ l (ver+1) z))/\lh (G.jn G.w id (G.β id) (G.σ id) (.buf τ l (ver+1) z)) id (ver+1) (G.σ id):=by
 obtain⟨t1,t2⟩:=h.jn (id:=id) (blk':=.buf τ l (ver+1) z) (w':=G.w) (ob:=G.β id) (sv:=G.σ id) (le_refl _) rfl rfl rfl
  (fun _ _ _=>rfl) (fun b' e=>⟨h.lt hb e,.inr ⟨_,hb,e⟩⟩)
  (fun blk hb'=>by
   rw[hb]at hb';cases hb';exact⟨fun b' hβ' k hk=>⟨fun _ _=>rfl,fun _=>hk⟩,fun v=>vZ (fun blk hb'=>by rw[hb]at hb';cases hb';exact⟨_,_,_,_,rfl,Nat.lt_succ_self _⟩) hb v⟩)
  fun hE hK=>by
   rcases h.blk _ _ hb with ⟨b,arr,ty,css,cap,rest,g1,g2,g3,g4,g5,g6,g7,g8⟩|⟨g1,g2,g3,g4⟩
   ·exact .inl ⟨b,arr,ty,css,cap,rest,(cq _ _ _).trans g1,(cq _ _ _).trans g2,g3,g4.mono fun _ _ h=>h.ext hE,g5,g6,g7,g8⟩
   ·exact .inr ⟨(cq _ _ _).trans g1,g2,by rw[show(G.jn G.w id (G.β id) (G.σ id) (.buf τ l (ver+1) z)).σ id=G.σ id from cq _ _ _];exact g3.ext hE,by rw[show(G.jn G.w id (G.β id) (G.σ id) (.buf τ l (ver+1) z)).σ id=G.σ id from cq _ _ _];exact g4⟩
 refine⟨t1,t2,?_⟩;unfold lh;have:aw (G.jn G.w id (G.β id) (G.σ id) (.buf τ l (ver+1) z)).hp id=some (.buf τ l (ver+1) z):=by rw[bO,if_pos rfl]
 rw[this];obtain⟨a,cap,_,hs,_⟩:=H9 h hb;exact⟨le_refl _,⟨_,_,_,hs⟩,fun _=>(cq _ _ _).symm⟩
theorem uf.holds{τ:Ty}{l:List τ.den}{x:Value}(h:uf G τ l x):∃a cap css,x= .slice a l.length cap/\l.length<=cap/\df (an G.env τ) l css/\(a=none->l=[])/\
  ∀ad,a=some ad->∀j v,css.flatten[j]? =some v->G.w.cell? (ad.add j)=some v:=by
 obtain⟨a,cap,css,h1,h2,h3,h4,h5⟩:=h;refine⟨a,cap,css,h1,h2,h4,fun e=>?_,fun ad e j v hj=>?_⟩
 ·rcases h5 with h5|⟨ad,h5,_⟩
  ·exact h5
  ·rw[e]at h5;cases h5
 ·rcases h5 with rfl|⟨ad',e',hs,hc⟩
  ·cases css with
   |nil=>simp at hj
   |cons _ _=>exact h4.elim
  ·rw[e]at e';cases e';rw[add_plain _ _ hs];exact hc j v hj
def kl(P:Program)(G:GE)(tm:Array Value)(s:Sem Next)(v:V)(hp':aP):Prop:=
 ∃(r:Next)(x:Value)(w':World)(β':Nat->Option Nat)(σ':Nat->Value),s.run P G.w= .ok r w'/\(r= .value x\/r= .skip/\x=undef)/\
  Tr G ⟨w',β',σ',hp',G.n0,G.Bo,G.I0⟩/\cW ⟨w',β',σ',hp',G.n0,G.Bo,G.I0⟩/\bC ⟨w',β',σ',hp',G.n0,G.Bo,G.I0⟩ tm v x
theorem kl.mk{s:Sem Value}{x:Value}{w':World}{β':Nat->Option Nat}{σ':Nat->Value}{v:V}{hp':aP}(hr:s.run P G.w= .ok x w')(t1:Tr G ⟨w',β',σ',hp',G.n0,G.Bo,G.I0⟩)(t2:cW ⟨w',β',σ',hp',G.n0,G.Bo,G.I0⟩)
  (t3:bC ⟨w',β',σ',hp',G.n0,G.Bo,G.I0⟩ tm v x):kl P G tm (do pure (.value (<-s))) v hp':=
 ⟨.value x,x,w',β',σ',by simp only[Sem.run_bind,hr,Result.andThen_ok,Sem.run_pure],.inl rfl,t1,t2,t3⟩
theorem lO{q:Prop}[Decidable q]{c:Prop}{i:Decidable c}{v v':V}{hp hp':aP}{wr wr':List Nat}(h:Cd q v hp wr=some (.eff c i v' hp' wr')):q=c/\v=v'/\hp=hp'/\wr=wr':=by simp only[Cd,Option.some.injEq,Out.eff.injEq]at h;exact⟨h.1,h.2.2.1,h.2.2.2.1,h.2.2.2.2⟩
theorem mV{hp:aP}{id:Nat}(hf:free hp id=true):aw hp id=none:=by
 unfold free at hf;split at hf
 ·cases hf
 ·assumption
theorem PA{n L cap lo:Nat}{hi:Int}(h1:hi.toNat-lo=L)(h2:n-lo=cap)(h3:hi=(n:Int)):cap=L:=by omega
theorem FM(hC:iY P C)(hR:cW G){dst:Option Nat}{τ:Ty}{t ty:TypeId}(ht:look C.ty t=some (.sl τ)){x xs:V}{bv av:Value}(hx:bC G tm x bv){m:List τ.den}(hm:uf G τ m av)(hxs:oM xs τ=some m)
  {c:Prop} {i:Decidable c} {v:V} {hp':aP} {wr:List Nat} (h:nX C G.hp dst τ x xs=some (.eff c i v hp' wr)) (hc:c):
  kl P G tm (do pure (.value (<-Builtin.append_ #[t,t] ty #[bv,av]))) v hp':=by
 obtain⟨e,hu,hte,_⟩:=hC.ty _ _ ht;obtain⟨inf,z0,hi,_⟩:=hte.info;obtain⟨ab,capM,cssM,rfl,hmc,hM,hMn,hMh⟩:=hm.holds;have drew:Below G.w.heap.size G.w G.w.drew:=(Below.refl _ _).drew;have grow:∀{l:List τ.den}{a:Option Addr}{cap:Nat}{css:List (List Value)}{id ver:Nat}{z:Bool},bv= .slice a l.length cap->df (an G.env τ) l css->(a=none->l=[]/\cap=0)->(∀ad,a=some ad->∀j v,css.flatten[j]? =some v->G.w.cell? (ad.add j)=some v)->
   cap<l.length+m.length->l.length<=cap->eF (l.length+m.length) τ.bytes=true->(∀blk,aw G.hp id=some blk->∃t l' ver' z',blk= .buf t l' ver' z'/\ver'<ver)->
   kl P G tm (do pure (.value (<-Builtin.append_ #[t,t] ty #[bv,.slice ab m.length capM]))) (.app id ver) (fR G.hp id (.buf τ (l++m) ver z)):=by
  intro l a cap css id ver z hbv hL hn hh hlt hle hfit hv;subst hbv;have hmne:m≠[]:=by rintro rfl;simp at hlt;omega
  cases ab with
  |none=>exact absurd (hMn rfl) hmne
  |some b=>obtain⟨arr,cap',rest,r1,r2,r3,r4,r5⟩:=BL (P:=P) G.w (ty:=ty) (c:=capM) hu hte hL hM hn hh (fun j v hj=>hMh b rfl j v hj) hlt hfit;obtain⟨t1,t2,t3⟩:=hR.OK (id:=id) (ver:=ver) hv (w1:=G.w.drew) drew rfl (kD hL hM) r2 r3 r4 r5 e z;exact kl.mk r1 t1 t2 (by simpa only[bC]using t3)
 unfold nX at h;rw[hxs]at h;simp only at h;cases x with
 |full τ' l=>
  simp only at h;split at h
  ·rename_i hτ;subst hτ;split at h
   ·rename_i d;split at h
    ·rename_i hf;have hn:=mV hf;have hv:∀ver(blk:jX),aw G.hp (C.base+d)=some blk->∃t l' ver' z',blk= .buf t l' ver' z'/\ver'<ver:=fun ver blk hb=>by rw[hn]at hb;cases hb
     simp only[bC]at hx;obtain⟨hxf,af,nf,hxs'⟩:=hx;obtain⟨a,cap,css,h1,h2,hL,hLn,hLh⟩:=(uf.je hxf).holds;have hcap:cap=List.length l:=by grind
     have key:∀z,eF (List.length l+m.length) τ'.bytes=true->(m=[]->z=true\/l=[])->kl P G tm (do pure (.value (<-Builtin.append_ #[t,t] ty #[bv,.slice ab m.length capM]))) (.app (C.base+d) 0) (fR G.hp (C.base+d) (.buf τ' (l++m) 0 z)):=by
      intro z hfit hz;by_cases hmn:m=[]
      ·have hz':=hz hmn;subst hmn;rw[List.append_nil];obtain⟨t1,t2,t3⟩:=hR.Kz (id:=C.base+d) (ver:=0) (fun blk hb=>by rw[hn]at hb;cases hb) hxf ⟨af,nf,hxs'⟩ hz';have r1:=rP (P:=P) G.w (ty:=ty) inf hu hi (a:=af) (n:=nf) (cap:=nf) (le_refl _) (b:=ab) (c:=capM);rw[<-hxs']at r1;exact kl.mk r1 t1 t2 (by simpa only[bC]using t3)
      ·exact grow h1 hL (fun e=>⟨hLn e,by rw[hcap,hLn e];rfl⟩) hLh (by have:=List.length_pos_iff.2 hmn;omega) h2 hfit (hv 0)
     split at h
     ·obtain⟨rfl,rfl,rfl,rfl⟩:=lO h;exact key true hc fun _=>.inl rfl
     ·obtain⟨rfl,rfl,rfl,rfl⟩:=lO h;simp only[and_eq_true,Bool.or_eq_true]at hc;refine key false hc.1 fun e=>.inr ?_;subst e;rcases hc.2 with h|h
      ·exact eq_nil_of_length_eq_zero (eq_of_beq_eq_true h)
      ·simp at h
    ·cases h
   ·cases h
  ·cases h
 |app id ver=>
  simp only at h;split at h
  ·rename_i τ' l ver' z hb;split at h
   ·rename_i hτ;subst hτ;split at h
    ·rename_i hver;have hver:=eq_of_beq_eq_true hver;subst hver;obtain⟨rfl,rfl,rfl,rfl⟩:=lO h;simp only[bC]at hx;unfold lh at hx;rw[hb]at hx;have hbv:=hx.2.2 rfl;have hv:∀(blk:jX),aw G.hp id=some blk->∃t l' ver' z',blk= .buf t l' ver' z'/\ver'<ver+1:=fun blk hb'=>by rw[hb]at hb';cases hb';exact⟨_,_,_,_,rfl,Nat.lt_succ_self _⟩
     by_cases hmn:m=[]
     ·subst hmn;rw[List.append_nil];obtain⟨t1,t2,t3⟩:=hR.QC hb;obtain⟨a,cap,_,hs,hle,_⟩:=H9 hR hb;have r1:=rP (P:=P) G.w (ty:=ty) inf hu hi (a:=a) (n:=List.length l) (cap:=cap) hle (b:=ab) (c:=capM);rw[<-hs,<-hbv]at r1;exact kl.mk r1 t1 t2 (by simp only[bC];rw[hbv];exact t3)
     ·rcases hR.blk _ _ hb with ⟨b,arr,te,css,cap,rest,g1,g2,g3,g4,g5,g6,g7,g8⟩|⟨g1,g2,g3,af,nf,g4⟩
      ·have hlen:=df.dX (fun a cs h=>an.length τ' a cs h) g4;have hlenM:=df.dX (fun a cs h=>an.length τ' a cs h) hM;by_cases hroom:List.length l+m.length<=cap
       ·cases ab with
        |none=>exact absurd (hMn rfl) hmn
        |some ad=>
         have hsz:inf.size=τ'.size:=by omega
         have hone:∀u∈cssM.flatten,u.oneCell'=true:=fun u hu'=>rj (kX (fun a cs h v hv=>an.cell τ' a cs h v hv) hM u hu');have hfit2:List.length l*inf.size+cssM.flatten.length<=arr.size:=by rw[hsz,hlenM,g6,<-add_mul];exact mul_le_mul_right _ hroom
         have r1:=yb (P:=P) G.w t ty e te inf hu hi b (List.length l) cap arr g3 ad m.length capM cssM.flatten (by rw[hlenM,hsz]) (fun j v hj=>hMh ad rfl j v hj) hone hroom hfit2;have harr:arr.toList.take (List.length l*inf.size)=css.flatten:=by rw[g5,hsz,<-hlen];exact List.take_left
         obtain⟨t1,t2,t3⟩:=hR.QP hb (m:=m) (arr':=(arr.toList.take (List.length l*inf.size)++cssM.flatten++arr.toList.drop (List.length l*inf.size+cssM.flatten.length)).toArray) (css2:=cssM) (cap:=cap) (rest':=arr.toList.drop (List.length l*inf.size+cssM.flatten.length)) g1 g3 g4 hM g5
          (by rw[harr];simp) (by simp only[size_toArray,List.length_append,List.length_take,List.length_drop,Array.length_toList];rw[<-g6];omega) (by rw[List.length_append];exact hroom) g8
         rw[<-List.length_append]at r1;have hbv2:=hbv.trans g2;subst hbv2;exact kl.mk r1 t1 t2 (by simpa only[bC]using t3)
       ·refine grow (hbv.trans g2) g4 (fun e=>by cases e) (fun ad e j v hj=>?_) (Nat.not_le.1 hroom) g7 hc hv;cases e;have hj':j<css.flatten.length:=by
         grind
        rw[Addr.add_lit,kE g3,g5,zero_add,List.getElem?_append_left hj'];exact hj
      ·obtain⟨a,cap,css,h1,h2,hL,hLn,hLh⟩:=(uf.je g3).holds;have hcap:cap=List.length l:=by
        grind
       exact grow (hbv.trans h1) hL (fun e=>⟨hLn e,by rw[hcap,hLn e];rfl⟩) hLh (by rw[hcap];exact Nat.lt_add_of_pos_right (List.length_pos_iff.2 hmn)) h2 hc hv
    ·cases h
   ·cases h
  ·cases h
 |view id p τ' n lo hi=>
  simp only at h;split at h
  ·rename_i d τ2 l hrd;split at h
   ·rename_i hτ;subst hτ;split at h
    ·rename_i hf;have hn:=mV hf;obtain⟨rfl,rfl,rfl,rfl⟩:=lO h;obtain⟨hhi,hc⟩:=hc;simp only[and_eq_true]at hc;have hsl:=Hp hR hx hrd;obtain⟨a,cap,css,h1,h2,hL,hLn,hLh⟩:=hsl.holds;simp only[bC]at hx;unfold lj at hx;split at hx
     ·obtain⟨b',o,e1,e2,e3,e4,e5,e6,e7⟩:=hx;rw[e7]at h1;simp only[Value.slice.injEq]at h1;have hm0:0<m.length:=by have:=hc.2;simpa using this
      refine grow (a:=a) (cap:=cap) (by rw[e7];simp only[Value.slice.injEq];exact h1) hL (fun e=>by rw[e]at h1;simp at h1) hLh (by rw[PA h1.2.1 h1.2.2 hhi];exact Nat.lt_add_of_pos_right hm0) h2 hc.1 (fun blk hb=>by rw[hn]at hb;cases hb)
     ·exact hx.elim
    ·cases h
   ·cases h
  ·cases h
 |_=>simp at h
end
section
variable {P:Program}{C:Ctx}{G:GE}{fr:List V}{ρ:Operand->Value}{tm:Array Value}
theorem xZ(l:List Value)(s:Nat)(hs:l.length=s):∀n,(List.range (n*s)).map (fun i=>l[i%s]!)=(replicate n l).flatten
 |0=>by simp
 |n+1=>by
  have e:(n+1)*s=s+n*s:=by rw[add_mul];omega
  rw[e,List.range_add,List.map_append,List.map_map,List.replicate_succ,flatten_cons,<-xZ l s hs n];congr 1
  ·apply List.ext_getElem?;intro i;rw[List.getElem?_map];by_cases hi:i<s
   ·rw[List.getElem?_range hi,map_some,Nat.mod_eq_of_lt hi,List.getElem!_eq_getElem?_getD,getElem?_eq_getElem (by omega)];rfl
   grind
  simp_all
theorem yz{E:Env}{e:Operand->V}{τ:Ty}{place:Nat->Option (Nat×Nat)}(hp:∀i o u,aX τ [stepOf τ i]=some (o,u)->place i=some (o,u.size)):
  ∀(parts:List (Nat×Operand))(c c':τ.den)(cs:Array Value),(∀p∈parts,(∀t y,e p.2= .data t y->i5 E t y (ρ p.2))/\(e p.2= .snil->ρ p.2= .slice none 0 0))->an E τ c cs.toList->jt e τ parts c=some c'->
   ∃cs',Instr.fill place cs (parts.map fun p=>(p.1,ρ p.2))=some cs'/\an E τ c' cs'.toList
 |[],c,c',cs,_,hf,h=>by simp only[jt,Option.some.injEq]at h;subst h;exact⟨cs,rfl,hf⟩
 |(i,x)::r,c,c',cs,hx,hf,h=>by
  have key:∀(o:Nat)(u σ:Ty)(y:σ.den)(z:τ.den),aX τ [stepOf τ i]=some (o,u)->i5 E σ y (ρ x)->rC τ c [stepOf τ i] σ y=some z->jt e τ r z=some c'->
    ∃cs',Instr.fill place cs (((i,x)::r).map fun p=>(p.1,ρ p.2))=some cs'/\an E τ c' cs'.toList:=by
   intro o u σ y z ho hy hu hr;have hyf:=hy.cells;obtain⟨rfl,hle,hz⟩:=oH τ c cs.toList _ o u σ y z _ hf ho hu hyf;have hsz:(ρ x).cells.size=σ.size:=by rw[<-Array.length_toList];exact an.length _ _ _ hyf
   simp only[Array.length_toList]at hle;simp only[map_cons,Instr.fill,hp i o σ ho];rw[if_neg (by simp[hsz];omega)];have e1:=AO (ρ x).cells.toList 0 o cs (by simpa using hle);have e2:(Array.foldl (fun(cs:Array Value)(p:Value×Nat)=>cs.setIfInBounds (o+p.2) p.1) cs (ρ x).cells.zipIdx)=((ρ x).cells.toList.zipIdx 0).foldl (fun(cs:Array Value)(p:Value×Nat)=>cs.setIfInBounds (o+p.2) p.1) cs:=by rw[<-Array.foldl_toList,Array.toList_zipIdx]
   obtain⟨cs',g1,g2⟩:=yz hp r z c' (((ρ x).cells.toList.zipIdx 0).foldl (fun(cs:Array Value)(p:Value×Nat)=>cs.setIfInBounds (o+p.2) p.1) cs) (fun p hp=>hx p (List.mem_cons_of_mem _ hp)) (by rw[e1];simpa using hz) hr;exact⟨cs',by rw[<-g1,<-e2],g2⟩
  simp only[jt]at h;have hv:=hx (i,x) (by simp);split at h
  ·grind
  ·rename_i o t hq he;split at h
   ·rename_i z hz;exact key o (.sl t) (.sl t) [] z hq (i5.gu (.inl ⟨rfl,by rw[hv.2 he]⟩) rfl) hz h
   ·cases h
  ·cases h
theorem tj{τ:Ty}{t te:TypeId}{n:Nat}{parts:Array (Nat×Operand)}(hu:P.underlying t=some (.slice te))(hte:jo P τ te)(hpl:τ.plain=true)(hsz:n*τ.size<=16777216){e:Operand->V}{y:List τ.den}
  (hx:∀p∈parts.toList,(∀t y,e p.2= .data t y->i5 G.env t y (ρ p.2))/\(e p.2= .snil->ρ p.2= .slice none 0 0)) (hb:jt e (.arr n τ) parts.toList (Ty.arr n τ).zero=some y):
  ∃cs':Array Value,(Instr.buildSlice t n (parts.map fun p=>(p.1,ρ p.2))).run P G.w= .ok (.slice (some ⟨G.w.heap.size,0,none⟩) n n) (G.w.alloc (.cells cs' te))/\an G.env (.arr n τ) y cs'.toList:=by
 have hsz':¬n*τ.size>2^24:=by omega
 obtain⟨z,hz1,hz2,_⟩:=ua (P:=P) G.w hte.info;have hz2:=m9 _ _ hpl hz2;have hzl:z.cells.size=τ.size:=by rw[<-Array.length_toList,hz2];exact an.length (E:=⟨G.w,fun _ _=>False⟩) _ _ _ (an.zero τ hpl)
 have hcells:∀zero:Array Value,(n*τ.size=0\/zero=z.cells)->((Array.range (n*τ.size)).map (zero[· %zero.size]!)).toList=(replicate n (zc τ)).flatten:=by
  intro zero h0;rw[Array.toList_map,Array.toList_range];rcases h0 with h0|rfl
  ·rw[h0];have hlen:((replicate n (zc τ)).flatten).length=0:=by
    have:=an.length (E:=⟨G.w,fun _ _=>False⟩) (.arr n τ) _ _ (an.zero (.arr n τ) (by simpa[Ty.plain]using hpl));simpa[zc,Ty.size,h0]using this
   grind
  ·have:=xZ (zc τ) τ.size (by rw[<-hz2,Array.length_toList,hzl]) n;grind
 obtain⟨zero,hz4,hz5⟩:∃zero:Array Value,(n*τ.size=0\/zero=z.cells)/\∀F:Array Value->Sem Value,(if n*τ.size=0 then(do let zero<-pure #[];F zero)else(do let l<-zeroValue te;let zero<-pure l.cells;F zero):Sem Value).run P G.w=(F zero).run P G.w:=by
  by_cases h0:n*τ.size=0
  ·exact⟨#[],.inl h0,fun F=>by rw[if_pos h0];simp⟩
  simp_all
 have hcs:=hcells zero hz4;obtain⟨cs',f1,f2⟩:=yz (E:=G.env) (ρ:=ρ) (place:=fun i=>some (i*τ.size,τ.size)) (τ:=.arr n τ) (fun i o u ho=>by
  simp only[stepOf,aX]at ho;split at ho
  ·have:aX τ []=some (0,τ):=by cases τ<;>rfl
   first|rw[this]at ho|skip
   simp at ho;obtain⟨rfl,rfl⟩:=ho;simp
  ·cases ho) parts.toList _ y _ hx (by rw[hcs];exact an.zero (.arr n τ) (by simpa[Ty.plain]using hpl)) hb
 refine⟨cs',?_,f2⟩;simp only[Instr.buildSlice,Sem.run_bind,run_underlying hu,Result.andThen_ok,dn G.w hte.info,if_neg hsz',Array.toList_map];refine(hz5 (fun zero=>match Instr.fill (fun i=>some (i*τ.size,τ.size)) ((Array.range (n*τ.size)).map (zero[· %zero.size]!)) (parts.toList.map fun p=>(p.1,ρ p.2))with
  |some cells=>do
   let l<-(do let l<-newObj (Obj.cells cells te);pure (⟨l,0,none⟩:Addr))
   pure (Value.slice (some l) n n)
  |x=>stuck "buildSlice: a part of the wrong size")).trans ?_
 simp only[f1,Sem.run_bind,run_newObj_alloc,Result.andThen_ok,Sem.run_pure]
theorem Nl(h:cW G){w':World}{b:Nat}(hb:G.w.heap.size<=b)(hlt:b<w'.heap.size)(m:Nat):GE.im ⟨w',G.β,G.σ,G.hp,G.n0,G.Bo,G.I0⟩ b m:=
 ⟨.inr (.inl (le_trans h.base hb)),hlt,fun id blk hb' hβ=>absurd (h.lt hb' hβ) (Nat.not_lt.2 hb)⟩
theorem IX(h:cW G){τ:Ty}{n:Nat}{l:List τ.den}{arr:Array Value}{w1:World}(hb:Below G.w.heap.size G.w w1)(hs1:w1.heap.size=G.w.heap.size){cap:Nat}{rest:List Value}{css:List (List Value)}(hl:List.length l=n)(ha:df (an G.env τ) l css)(h1:arr.toList=css.flatten++rest)(hn:n<=cap)(hc:cap<=maxLen)(ty:TypeId)(fz:Nat×Nat):
  an (GE.env ⟨w1.alloc (.cells arr ty fz),G.β,G.σ,G.hp,G.n0,G.Bo,G.I0⟩) (.sl τ) l [.slice (some ⟨G.w.heap.size,0,none⟩) n cap]:=by
 have hb2:Below G.w.heap.size G.w (w1.alloc (.cells arr ty fz)):=hb.alloc (by omega) _;obtain⟨t1,t2⟩:=h.grow hb2;refine .inr ⟨⟨G.w.heap.size,0,none⟩,cap,css,by rw[hl],.inl rfl,by rw[hl];exact hn,hc,ha.mono fun _ _ h=>h.ext t1.kC.env,.inr ⟨_,le_refl _,Nl h (le_refl _) (by simp[hs1]) _⟩,fun j v hj=>?_⟩;have hnew:(w1.alloc (.cells arr ty fz)).heap[G.w.heap.size]? =some (.cells arr ty fz):=by rw[<-hs1];exact heap_alloc_new w1 _
 show(w1.alloc (.cells arr ty fz)).cell? _=_;rw[kE hnew,h1,zero_add];have:j<css.flatten.length:=by grind
 rw[List.getElem?_append_left this];exact hj
theorem Kv{hp:aP}{v:V}(h:rd hp v= .snil):v= .snil:=by
 cases v with
 |snil=>rfl
 |app id ver=>simp only[rd]at h;split at h<;>(try split at h)<;>cases h
 |view id p t n lo hi=>
  simp only[rd]at h;split at h
  ·split at h
   ·split at h<;>cases h
   ·cases h
  ·cases h
 |agg t l=>simp only[rd,o0]at h;split at h<;>cases h
 |_=>simp[rd]at h
theorem zf:∀(l:List V)(G:GE),cW G->∀{tm:Array Value}{v:V}{x:Value},v∈l->bC G tm v x->∀{t:Ty}{y:t.den},rd G.hp v= .data t y->i5 (G.fI (my G.hp l)).env t y x
 |u::l,G,h,tm,v,x,hv,ha,t,y,hr=>by
  obtain⟨t1,k1⟩:=vl u G h;obtain⟨t2,k2⟩:=pA l _ k1;simp only[my];rcases List.mem_cons.1 hv with rfl|hv
  ·exact(ya v G h ha hr).ext t2.kC.env
  ·exact zf l (G.fI (frz G.hp u)) k1 hv (ha.ext t1.kC) (by rw[show(G.fI (frz G.hp u)).hp=frz G.hp u from rfl,Ku (sU u G.hp)];exact hr)
theorem OP{v u:V}:kx v≠some (.new u):=by simp[kx]
theorem Iy{q:Prop}[Decidable q]{v u:V}:uk q v≠some (.new u):=by simp[uk]
theorem Ls{op:BinOp}{k:IntKind}{p q:Int}{u:V}:vm op k p q≠some (.new u):=by cases op<;>simp[vm,kx,uk]
theorem Mm{op:BinOp}{p q:List Int}{u:V}:vJ op p q≠some (.new u):=by cases op<;>simp[vJ,kx,uk]
theorem L2{op:BinOp}{b:Bool}{u:V}:q8 op b≠some (.new u):=by cases op<;>simp[q8,kx]
theorem Mg{e:Operand->V}{τ:Ty}{l:List τ.den}{lo hi mx:Option Operand}{u:V}:lz e τ l lo hi mx≠some (.new u):=by
 unfold lz
 repeat' split
 all_goals first|exact Iy|(intro h;cases h;done)
theorem P3{op:BinOp}{xt:Nat}{u v z:V}:H7 C op xt u v≠some (.new z):=by
 unfold H7
 repeat' split
 all_goals first|exact OP|exact Iy|exact Ls|exact Mm|exact L2|(intro h;cases h;done)
theorem Pw(hC:iY P C)(hR:cW G)(hL:uW G tm fr ρ){g:Option Gd}(hg:MD g tm)(o:Oper){v:V}(hv:m8 C g fr G.hp o.op=some (.new v)):kl P G tm (execOp ρ o) v G.hp:=by
 obtain⟨dst,op,type,pos,after,guard⟩:=o;cases op<;>simp only[m8]at hv
 case buildSlice t n parts=>
  split at hv
  ·rename_i τ hτ;split at hv
   ·rename_i hc;simp only[and_eq_true]at hc;split at hv
    ·rename_i y hy;split at hv
     ·cases hv
     ·rename_i hl;cases hv;obtain⟨e,hu,hte,_⟩:=hC.ty _ _ hτ;have hn:=le_of_ble_eq_true hc.2;obtain⟨cs',r1,r2⟩:=tj (P:=P) (G:=G) (ρ:=ρ) hu hte hc.1.1 (le_of_ble_eq_true hc.1.2) (e:=fun x=>rd G.hp (dd (un g (ev fr x)))) (fun p hp=>by
       have hnl:loose G.hp (dd (un g (ev fr p.2)))=false:=by grind
       refine⟨fun t y he=>tf hR _ (hL.ud hg p.2) hnl he,fun he=>?_⟩;have:=Kv he;have h2:=hL.ud hg p.2;rw[this]at h2;simpa only[bC]using h2) hy
      obtain⟨hl',css,hcs,hall⟩:=r2;have hb:Below G.w.heap.size G.w (G.w.alloc (.cells cs' e)):=(Below.refl _ _).alloc (le_refl _) _;obtain⟨t1,t2⟩:=hR.grow hb;have hsl:=IX hR (Below.refl _ G.w) rfl (cap:=n) (rest:=[]) hl' hall (by rw[hcs];simp) (le_refl _) (by unfold maxLen;omega) e (0,0);refine kl.mk r1 t1 t2 ?_;simp only[bC];exact⟨hsl,_,_,rfl⟩
    ·cases hv
   ·cases hv
  ·cases hv
 case convert s d x=>
  have hx:=hL.ud hg x;split at hv
  ·simp[kx]at hv
  ·simp[kx]at hv
  ·rename_i l h1 h2 heq;rw[heq]at hx;simp only[Option.some.injEq,Out.new.injEq]at hv;subst hv;have t1:=(hC.ty _ _ h1).1;obtain⟨e,t2,t3,_⟩:=hC.ty _ _ h2;have t4:=t3.1;simp only[bC]at hx;obtain⟨s0,e1,e2,e3⟩:=hx.one rfl;simp at e1;have r1:=run_bytes_of_string (P:=P) G.w s d e s0 t1 t2 t4;rw[<-e1]at r1;have hge:=grownCap_ge G.w s0.size 0 e;have hle:=grownCap_le_maxLen G.w s0.size 0 e e3;have drew:Below G.w.heap.size G.w G.w.drew:=(Below.refl _ _).drew;have hlen:(bytesOf s0).length=s0.size:=by simp[bytesOf]
   have hcss:df (an G.env (.int .u8)) (bytesOf s0) ((bytesOf s0).map fun n=>[Value.int .u8 n]):=by
    have:∀l:List UInt8,df (an G.env (.int .u8)) (l.map fun b=>(b.toNat:Int)) ((l.map fun b=>(b.toNat:Int)).map fun n=>[Value.int .u8 n]):=by
     intro l;induction l with
     |nil=>trivial
     |cons b l ih=>refine⟨⟨rfl,?_⟩,ih⟩;rw[iE];have:=b.toNat_lt;simp only[IntKind.min,IntKind.max,IntKind.signed,IntKind.bits];simp;omega
    exact this _
   have hb:Below G.w.heap.size G.w _:=drew.alloc (B:=G.w.heap.size) (by simp) (.cells (bytesRow s0 (grownCap G.w s0.size 0 e)) e ((bytesRow s0 (grownCap G.w s0.size 0 e)).size,(bytesRow s0 (grownCap G.w s0.size 0 e)).size+1));obtain⟨k1,k2⟩:=hR.grow hb;have harr:(bytesRow s0 (grownCap G.w s0.size 0 e)).toList=((bytesOf s0).map fun n=>[Value.int .u8 n]).flatten++replicate (grownCap G.w s0.size 0 e-s0.size) (.int .u8 0):=by
    have:∀l:List UInt8,(l.map fun b=>Value.int .u8 (b.toNat:Int))=((l.map fun b=>(b.toNat:Int)).map fun n=>[Value.int .u8 n]).flatten:=by
     intro l;induction l with
     |nil=>rfl
     |cons b l ih=>simp[ih]
    simp only[bytesRow,Array.toList_append,Array.toList_map,Array.toList_replicate,bytesOf];rw[<-this]
   have hsl:=IX hR drew rfl (τ:=.int .u8) (cap:=grownCap G.w s0.size 0 e) (l:=bytesOf s0) hlen hcss harr hge hle e ((bytesRow s0 (grownCap G.w s0.size 0 e)).size,(bytesRow s0 (grownCap G.w s0.size 0 e)).size+1);refine kl.mk r1 k1 k2 ?_;simp only[bC];rw[<-e2];exact i5.gu hsl rfl
  ·split at hv<;>simp[kx]at hv
  ·cases hv
 case binOp op xt x y yt=>exact absurd hv P3
 case unOp op _ _=>
  unfold Vq at hv;split at hv<;>simp[kx]at hv
 all_goals (exfalso;revert hv)
 all_goals (repeat' split)
 all_goals first|exact OP|exact Iy|exact Mg|(intro h;cases h;done)
end
section
variable {P:Program}{C:Ctx}{G:GE}{fr:List V}{ρ:Operand->Value}{tm:Array Value}
theorem GZ{α:Type}(es:Array α)(i:Nat)(f:α->α)(h:∀e,es[i]? =some e->f e=e):es.modify i f=es:=by grind
theorem cW.map(h:cW G){id:Nat}{κ ν:Ty}{l:List (κ.den×ν.den)}(hb:aw G.hp id=some (.map κ ν l)):
  ∃b es clock,G.β id=some b/\G.w.heap[b]? =some (.map es clock)/\df (rI G.env κ ν) l es.toList/\clock=es.size/\∀(i:Nat)(e:MapEntry),es[i]? =some e->e.born=i:=h.blk _ _ hb
theorem cW.xe(h:cW G){id:Nat}{κ ν:Ty}{l l':List (κ.den×ν.den)}(hb:aw G.hp id=some (.map κ ν l)){b:Nat}{es es':Array MapEntry}{clock clock':Nat}(hβ:G.β id=some b)(hw:G.w.heap[b]? =some (.map es clock))
  (hes:df (rI G.env κ ν) l' es'.toList) (hst:clock'=es'.size/\∀(i:Nat)(e:MapEntry),es'[i]? =some e->e.born=i):
  Tr G ⟨{G.w with heap:=G.w.heap.setIfInBounds b (.map es' clock')},G.β,G.σ,fR G.hp id (.map κ ν l'),G.n0,G.Bo,G.I0⟩/\cW ⟨{G.w with heap:=G.w.heap.setIfInBounds b (.map es' clock')},G.β,G.σ,fR G.hp id (.map κ ν l'),G.n0,G.Bo,G.I0⟩:=by
 have hs:=Go.MapKept.heap_set (o':=.map es' clock') hw;have:=h.jn (id:=id) (blk':=.map κ ν l') (w':={G.w with heap:=G.w.heap.setIfInBounds b (.map es' clock')}) (ob:=G.β id) (sv:=G.σ id) (by simp) rfl rfl rfl
  (fun b' _ hne=>hs.2 b' (fun e=>hne _ hb (by rw[e];exact hβ))) (fun b' e=>⟨by simpa using h.lt hb e,.inr ⟨_,hb,e⟩⟩)
  (fun blk hb'=>by
   rw[hb]at hb';cases hb';exact⟨(fun b' _ m hm=>by simp only[jX.im]at hm),fun v=>by simp only[gA];exact⟨trivial,trivial,Bx.cq _ _ _⟩⟩)
  fun hE hK=>⟨b,es',clock',(Bx.cq _ _ _).trans hβ,hs.1,hes.mono fun _ _ h=>⟨h.1.ext hE,h.2.ext hE⟩,hst⟩
 rwa [GE.cq]at this
theorem wA{κ ν:Type}(eq:κ->κ->Bool)(x:κ):∀l:List (κ×ν),eU eq x l<=l.length
 |[]=>le_refl _
 |p::l=>by have:=wA eq x l;simp only[eU];grind
theorem AY{κ ν:Type}(eq:κ->κ->Bool)(x:κ):∀(l:List (κ×ν))(h:eU eq x l<l.length),eq x (l[eU eq x l]).1=true
 |[],h=>by simp at h
 |p::l,h=>by
  have ih:=AY eq x l;cases hb:eq x p.1 with
  |true=>simp only[eU,hb,List.getElem_cons_zero]
  |false=>simp only[eU,hb,List.length_cons,Nat.add_lt_add_iff_right]at h;simp only[eU,hb,List.getElem_cons_succ];exact ih h
theorem xq{E:Env}{κ ν:Ty}{z:ν.den}{y:Value}(hy:i5 E ν z y):∀(l:List (κ.den×ν.den))(es:List MapEntry)(i:Nat),df (rI E κ ν) l es->df (rI E κ ν) (rV l i z) (es.modify i fun e=>{e with val:=y})
 |[],[],_,_=>by simp[rV];trivial
 |[],_::_,_,h=>h.elim
 |_::_,[],_,h=>h.elim
 |p::l,e::es,0,h=>by simp only[rV,List.modify_zero_cons];exact⟨⟨h.1.1,hy⟩,h.2⟩
 |p::l,e::es,i+1,h=>by simp only[rV,List.modify_succ_cons];exact⟨h.1,xq hy l es i h.2⟩
theorem E5(hC:iY P C)(hR:cW G){t tk tv:TypeId}(ht:look C.mp t=some (tk,tv)){κ ν:Ty}(hk:look C.ty tk=some κ)(hn:look C.ty tv=some ν)(hkey:κ.key=true)(hpl:ν.plain=true){id:Nat}{l:List (κ.den×ν.den)}
  (hb:aw G.hp id=some (.map κ ν l)) {m kv:Value} (hm:np G id m) {x:κ.den} (hx:i5 G.env κ x kv) (hlen:l.length<9223372036854775807):
  ∃(y:Value)(w':World),(Instr.mapEntry t m kv).run P G.w= .ok y w'/\Tr G ⟨w',G.β,G.σ,fR G.hp id (.map κ ν (pK (az κ) x ν.zero l)),G.n0,G.Bo,G.I0⟩/\cW ⟨w',G.β,G.σ,fR G.hp id (.map κ ν (pK (az κ) x ν.zero l)),G.n0,G.Bo,G.I0⟩/\
   bC ⟨w',G.β,G.σ,fR G.hp id (.map κ ν (pK (az κ) x ν.zero l)),G.n0,G.Bo,G.I0⟩ tm (.tup [.data ν (jm x ν.zero (pK (az κ) x ν.zero l) (eU (az κ) x l)),.data (.int .i64) (eU (az κ) x l:Nat)]) y:=by
 have hu:=hC.mp _ _ _ ht;have hkt:=hC.ty _ _ hk;have hnt:=hC.ty _ _ hn;unfold np at hm;rw[hb]at hm;obtain⟨b,e1,rfl⟩:=hm;obtain⟨b',es,clock,g1,g2,g3,g4,g5⟩:=hR.map hb;rw[e1]at g1;cases g1;have hfind:=rq (P:=P) G.w hkey hkt hx g3;have hck:=pW (P:=P) G.w false hkey hkt hx;have hlen2:l.length=es.toList.length:=g3.length;by_cases hi:eU (az κ) x l<l.length
 ·obtain⟨hi2,hent⟩:=g3.get _ hi;have hq:=Kb hkey (AY (az κ) x l hi);have hkeyEq:(es.toList[eU (az κ) x l]'hi2).key=kv:=by
   refine Gz hkey hent.1 ?_;grind
  have hget:es[eU (az κ) x l]? =some (es.toList[eU (az κ) x l]'hi2):=by grind
  have hres:lY es.toList (eU (az κ) x l) 0=some (eU (az κ) x l,(es.toList[eU (az κ) x l]'hi2).val):=by simp only[lY,getElem?_eq_getElem hi2,map_some,zero_add]
  rw[hres]at hfind;have hent2:pK (az κ) x ν.zero l=l:=by
   have:blt (eU (az κ) x l) l.length=true:=by simp[blt,hi];exact hi
   simp only[pK,this]
  have hval:jm x ν.zero l (eU (az κ) x l)=(l[eU (az κ) x l]).2:=by simp[jm,List.getD,getElem?_eq_getElem hi]
  have hkeep:=wV (P:=P) hkey hx G.w;have hmod:es.modify (eU (az κ) x l) (fun e=>{e with key:=kv})=es:=GZ _ _ _ fun e he=>by
   rw[hget]at he;cases he;have:=hkeyEq;cases hz:es.toList[eU (az κ) x l]'hi2 with
   |mk a c d=>rw[hz]at this;simp only at this;subst this;rfl
  obtain⟨t1,t2⟩:=hR.xe (l':=l) hb e1 g2 (es':=es) (clock':=clock) g3 ⟨g4,g5⟩;rw[hent2];refine⟨.tuple #[(es.toList[eU (az κ) x l]'hi2).val,goInt (eU (az κ) x l)],_,?_,t1,t2,?_⟩
  ·have hborn:=g5 _ _ hget;simp only[Instr.mapEntry,Sem.run_bind,run_underlying hu,Result.andThen_ok,MapKept.run_getObj_map g2,hck,hfind,hget,map_some,Option.getD_some,hkeyEq,hkeep,hmod,MapKept.run_setObj_map _ g2,Sem.run_pure,hborn]
  ·simp only[bC];refine⟨_,rfl,?_⟩;simp only[iH,bC,and_true];refine⟨?_,?_⟩
   ·rw[hval];exact hent.2.ext t1.kC.env
   ·unfold goInt;refine i5.gu ⟨rfl,?_⟩ rfl;exact J7 (by omega)
 ·have hie:eU (az κ) x l=l.length:=Nat.le_antisymm (wA _ _ _) (Nat.not_lt.1 hi);have hres:lY es.toList (eU (az κ) x l) 0=none:=by
   simp only[lY];rw[List.getElem?_eq_none (by omega)];rfl
  rw[hres]at hfind;have hent2:pK (az κ) x ν.zero l=l++[(x,ν.zero)]:=by
   have:blt (eU (az κ) x l) l.length=false:=by
    cases hq:blt (eU (az κ) x l) l.length with
    |false=>rfl
    |true=>exact absurd (le_of_ble_eq_true hq) (by omega)
   simp only[pK,this]
  obtain⟨z,hz1,hz⟩:=KX (P:=P) (G:=G) hnt hpl;have hval:jm x ν.zero (l++[(x,ν.zero)]) (eU (az κ) x l)=ν.zero:=by rw[hie];simp[jm,List.getD]
  have hes:df (rI G.env κ ν) (l++[(x,ν.zero)]) (es.push {key:=kv,val:=z,born:=clock}).toList:=by rw[Array.toList_push];exact kD g3 ⟨⟨hx,hz⟩,trivial⟩
  obtain⟨t1,t2⟩:=hR.xe (l':=l++[(x,ν.zero)]) hb e1 g2 (es':=es.push {key:=kv,val:=z,born:=clock}) (clock':=clock+1) hes ⟨by rw[g4];simp,fun i e he=>by
   rw[Array.getElem?_push]at he;split at he
   ·rename_i hq;cases he;rw[hq];exact g4
   ·exact g5 i e he⟩
  rw[hent2];refine⟨.tuple #[z,goInt clock],_,?_,t1,t2,?_⟩
  ·simp only[Instr.mapEntry,Sem.run_bind,run_underlying hu,Result.andThen_ok,MapKept.run_getObj_map g2,hck,hfind,hz1,MapKept.run_setObj_map _ g2,Sem.run_pure]
  ·simp only[bC];refine⟨_,rfl,?_⟩;simp only[iH,bC,and_true];refine⟨?_,?_⟩
   ·rw[hval];exact hz.ext t1.kC.env
   ·have:clock=eU (az κ) x l:=by rw[hie,g4,hlen2];simp
    rw[this];unfold goInt;refine i5.gu ⟨rfl,?_⟩ rfl;have:=wA (az κ) x l;exact J7 (by omega)
theorem E6{α:Type}(es:Array α)(i:Nat)(f g:α->α)(h:∀e,es[i]? =some e->f e=g e):es.modify i f=es.modify i g:=by grind
theorem Cv(hC:iY P C)(hR:cW G){t tk tv:TypeId}(ht:look C.mp t=some (tk,tv)){κ ν:Ty}(hk:look C.ty tk=some κ)(hkey:κ.key=true){id:Nat}{l:List (κ.den×ν.den)}
  (hb:aw G.hp id=some (.map κ ν l)) {m kv yv:Value} (hm:np G id m) {x:κ.den} (hx:i5 G.env κ x kv) {z:ν.den} (hy:i5 G.env ν z yv):
  ∃(w':World),(Instr.mapUpdate t m kv yv).run P G.w= .ok () w'/\Tr G ⟨w',G.β,G.σ,fR G.hp id (.map κ ν (Jl (az κ) x z l)),G.n0,G.Bo,G.I0⟩/\cW ⟨w',G.β,G.σ,fR G.hp id (.map κ ν (Jl (az κ) x z l)),G.n0,G.Bo,G.I0⟩:=by
 have hu:=hC.mp _ _ _ ht;have hkt:=hC.ty _ _ hk;unfold np at hm;rw[hb]at hm;obtain⟨b,e1,rfl⟩:=hm;obtain⟨b',es,clock,g1,g2,g3,g4,g5⟩:=hR.map hb;rw[e1]at g1;cases g1;have hfind:=rq (P:=P) G.w hkey hkt hx g3;have hck:=pW (P:=P) G.w false hkey hkt hx;have hlen2:l.length=es.toList.length:=g3.length;by_cases hi:eU (az κ) x l<l.length
 ·obtain⟨hi2,hent⟩:=g3.get _ hi;have hq:=Kb hkey (AY (az κ) x l hi);have hkeyEq:(es.toList[eU (az κ) x l]'hi2).key=kv:=by
   refine Gz hkey hent.1 ?_;grind
  have hget:es[eU (az κ) x l]? =some (es.toList[eU (az κ) x l]'hi2):=by grind
  have hres:lY es.toList (eU (az κ) x l) 0=some (eU (az κ) x l,(es.toList[eU (az κ) x l]'hi2).val):=by simp only[lY,getElem?_eq_getElem hi2,map_some,zero_add]
  rw[hres]at hfind;have hset:Jl (az κ) x z l=rV l (eU (az κ) x l) z:=by
   have:blt (eU (az κ) x l) l.length=true:=by simp[blt,hi];exact hi
   simp only[Jl,this]
  have hkeep:=wV (P:=P) hkey hx G.w;have hmod:es.modify (eU (az κ) x l) (fun e=>{e with key:=kv,val:=yv})=es.modify (eU (az κ) x l) (fun e=>{e with val:=yv}):=E6 _ _ _ _ fun e he=>by grind
  have hes:df (rI G.env κ ν) (rV l (eU (az κ) x l) z) (es.modify (eU (az κ) x l) (fun e=>{e with val:=yv})).toList:=by rw[Array.toList_modify];exact xq hy l es.toList _ g3
  obtain⟨t1,t2⟩:=hR.xe (l':=rV l (eU (az κ) x l) z) hb e1 g2 (es':=es.modify (eU (az κ) x l) (fun e=>{e with val:=yv})) (clock':=clock) hes ⟨by rw[g4];simp,fun i e he=>by
   rw[Array.getElem?_modify]at he;split at he
   ·rename_i hq;cases hz:es[i]? with
    |none=>rw[hz]at he;cases he
    |some e'=>rw[hz]at he;simp at he;subst he;exact g5 i e' hz
   ·exact g5 i e he⟩
  rw[hset];refine⟨_,?_,t1,t2⟩;simp only[Instr.mapUpdate,Sem.run_bind,run_underlying hu,Result.andThen_ok,MapKept.run_getObj_map g2,hck,hfind,hget,map_some,Option.getD_some,hkeyEq,hkeep,hmod,MapKept.run_setObj_map _ g2]
 ·have hie:eU (az κ) x l=l.length:=Nat.le_antisymm (wA _ _ _) (Nat.not_lt.1 hi);have hres:lY es.toList (eU (az κ) x l) 0=none:=by
   simp only[lY];rw[List.getElem?_eq_none (by omega)];rfl
  rw[hres]at hfind;have hset:Jl (az κ) x z l=l++[(x,z)]:=by
   have:blt (eU (az κ) x l) l.length=false:=by
    cases hq:blt (eU (az κ) x l) l.length with
    |false=>rfl
    |true=>exact absurd (le_of_ble_eq_true hq) (by omega)
   simp only[Jl,this]
  have hes:df (rI G.env κ ν) (l++[(x,z)]) (es.push {key:=kv,val:=yv,born:=clock}).toList:=by rw[Array.toList_push];exact kD g3 ⟨⟨hx,hy⟩,trivial⟩
  obtain⟨t1,t2⟩:=hR.xe (l':=l++[(x,z)]) hb e1 g2 (es':=es.push {key:=kv,val:=yv,born:=clock}) (clock':=clock+1) hes ⟨by rw[g4];simp,fun i e he=>by
   rw[Array.getElem?_push]at he;split at he
   ·rename_i hq;cases he;rw[hq];exact g4
   ·exact g5 i e he⟩
  rw[hset];refine⟨_,?_,t1,t2⟩;simp only[Instr.mapUpdate,Sem.run_bind,run_underlying hu,Result.andThen_ok,MapKept.run_getObj_map g2,hck,hfind,MapKept.run_setObj_map _ g2]
theorem Ng(l:List MapEntry)(i s:Nat)(h:∀j e,l[j]? =some e->e.born=s+j)(hi:i<l.length):l.findIdx? (fun e=>(e.born:Int)==((s+i:Nat):Int))=some i:=by
 induction l generalizing i s with
 |nil=>simp at hi
 |cons a l ih=>
  have h0:=h 0 a rfl;rw[List.findIdx?_cons];cases i with
  |zero=>simp[h0]
  |succ i=>
   have:((a.born:Int)==((s+(i+1):Nat):Int))=false:=by grind
   rw[this];have:=ih i (s+1) (fun j e he=>by have:=h (j+1) e (by simpa using he);omega) (by simpa using hi);rw[show s+(i+1)=s+1+i by omega];simp only[this,map_some,Bool.false_eq_true,if_false]
theorem AB(hR:cW G){t:TypeId}{κ ν:Ty}{id:Nat}{l:List (κ.den×ν.den)}
  (hb:aw G.hp id=some (.map κ ν l)) {m y:Value} (hm:np G id m) {z:ν.den} (hy:i5 G.env ν z y) {k:IntKind} {n:Int} (h0:0<=n) (h1:n<(l.length:Int)):
  ∃(w':World),(Instr.entryStore t m (.int k n) y).run P G.w= .ok () w'/\Tr G ⟨w',G.β,G.σ,fR G.hp id (.map κ ν (rV l n.toNat z)),G.n0,G.Bo,G.I0⟩/\cW ⟨w',G.β,G.σ,fR G.hp id (.map κ ν (rV l n.toNat z)),G.n0,G.Bo,G.I0⟩:=by
 unfold np at hm;rw[hb]at hm;obtain⟨b,e1,rfl⟩:=hm;obtain⟨b',es,clock,g1,g2,g3,g4,g5⟩:=hR.map hb;rw[e1]at g1;cases g1;have hlen2:l.length=es.toList.length:=g3.length;have hfi:es.findIdx? (fun e=>(e.born:Int)==n)=some n.toNat:=by
  have:=Ng es.toList n.toNat 0 (fun j e he=>by
   have:=g5 j e (by simpa using he);omega) (by omega)
  rw[zero_add,Int.toNat_of_nonneg h0]at this;rw[<-List.findIdx?_toArray]at this;exact this
 have hes:df (rI G.env κ ν) (rV l n.toNat z) (es.modify n.toNat (fun e=>{e with val:=y})).toList:=by rw[Array.toList_modify];exact xq hy l es.toList n.toNat g3
 obtain⟨t1,t2⟩:=hR.xe (l':=rV l n.toNat z) hb e1 g2 (es':=es.modify n.toNat (fun e=>{e with val:=y})) (clock':=clock) hes ⟨by rw[g4];simp,fun i e he=>by
  rw[Array.getElem?_modify]at he;split at he
  ·rename_i hq;cases hz:es[i]? with
   |none=>rw[hz]at he;cases he
   |some e'=>rw[hz]at he;simp at he;subst he;exact g5 i e' hz
  ·exact g5 i e he⟩
 refine⟨_,?_,t1,t2⟩;simp only[Instr.entryStore,Sem.run_bind,Sem.run_pure,Result.andThen_ok,MapKept.run_getObj_map g2,asInt,asIntOf,hfi,MapKept.run_setObj_map _ g2]
end
end Go.Bx
