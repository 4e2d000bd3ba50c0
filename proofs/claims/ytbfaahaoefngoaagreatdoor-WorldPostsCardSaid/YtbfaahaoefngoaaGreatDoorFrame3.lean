/- A part of a framework that reads Go code as functions of plain data. -/
import Derived.Test.YtbfaahaoefngoaaGreatDoorFrame2
import Derived.Scope
import Derived.ProofKit
import Derived.OpenShut
import Derived.Deep.Slices
import Derived.SizedLaws
import Derived.Carry
import Derived.LaidMore
import Derived.LaidLaws
open Bool (and_eq_true)
open List (all_eq_true append_nil getElem?_eq_getElem isEmpty_iff length_eq_one_iff mem_cons_of_mem mem_map range take_append_drop)
open Nat (beq ble blt eq_of_beq_eq_true le_refl)
open Option (map_eq_some_iff)
set_option maxRecDepth 100000
set_option linter.unusedVariables false
set_option linter.unusedSimpArgs false
namespace Go.Bx
open Go Go.RowKit
section
variable {P:Program}{C:Ctx}{G:GE}{G0:GE}{S:St}{a:Act}{w:World}{β:Nat->Option Nat}{σ:Nat->Value}
theorem wI(l:List Nat):∀(s:Nat)(fr:List V),(uC l s fr).length=fr.length
 |_,[]=>rfl
 |s,_::r=>by simp[uC,wI l (s+1) r]
theorem DI(l:List Nat):∀(s:Nat)(fr:List V)(i:Nat),nth (uC l s fr) i=if mem l (s+i)then gD (nth fr i)else .any
 |s,[],i=>by simp[uC,nth,gD]
 |s,v::r,0=>by simp[uC,nth]
 |s,v::r,i+1=>by simp only[uC,nth];rw[DI l (s+1) r i,show s+1+i=s+(i+1) by omega]
theorem Bl(ρ:Nat->Nat->Option (Nat×Nat)):∀(l:List V)(i:Nat),nth (n9 ρ l) i=jE ρ (nth l i)
 |[],i=>by simp[n9,nth,jE]
 |v::l,0=>by simp[n9,nth]
 |v::l,i+1=>by simp[n9,nth,Bl ρ l i]
theorem sS(ρ:Nat->Nat->Option (Nat×Nat)):∀l:List V,(n9 ρ l).length=l.length
 |[]=>rfl
 |v::l=>by simp[n9,sS ρ l]
theorem rO(p:Nat->Bool)(f:Nat->jX->jX):∀(hp:aP)(i:Nat),aw ((hp.filter fun x=>p x.1).map fun x=>(x.1,f x.1 x.2)) i=if p i=true then(aw hp i).map (f i)else none
 |[],i=>by simp[aw,look]
 |(j,b)::r,i=>by
  have ih:=rO p f r i;simp only[aw]at ih⊢;by_cases hj:p j=true
  ·rw[List.filter_cons_of_pos (by simpa using hj)];simp only[List.map_cons,look];by_cases hji:beq j i=true
   ·simp_all
   grind
  ·rw[List.filter_cons_of_neg (by simpa using hj)];simp only[look];by_cases hji:beq j i=true
   ·simp_all
   grind
theorem Qh(ρ:Nat->Nat->Option (Nat×Nat))(i:Nat)(b:jX)(m:Nat):(HP C i (pU ρ b)).im m↔b.im m:=by cases b<;>exact Iff.rfl
theorem rG.tidy{ρ:Nat->Nat->Option (Nat×Nat)}{hp2:aP}(hM:Mv ρ G (G.fI hp2)){i:Nat}{blk:jX}(h:rG G i blk):rG (G.fI hp2) i (HP C i (pU ρ blk)):=by
 cases blk with
 |cell t v z=>obtain⟨b,arr,ty,g1,g2,g3⟩:=h;exact⟨b,arr,ty,g1,g2,g3.jE hM⟩
 |buf t l ver z=>
  rcases h with ⟨b,arr,ty,css,cap,rest,g1,g2,g3,g4,g5,g6,g7,g8⟩|⟨g1,g2,g3,g4⟩
  ·exact .inl ⟨b,arr,ty,css,cap,rest,g1,g2,g3,g4.mono fun _ _ h=>h.ext hM.env,g5,g6,g7,g8⟩
  ·exact .inr ⟨g1,g2,g3.ext hM.env,g4⟩
 |map k v l=>obtain⟨b,es,clock,g1,g2,g3,g4⟩:=h;exact⟨b,es,clock,g1,g2,g3.mono fun _ _ h=>⟨h.1.ext hM.env,h.2.ext hM.env⟩,g4⟩
structure FK(C:Ctx)(G0:GE):Prop where
 low:∀i blk,aw G0.hp i=some blk->blt i C.base=true
 fst:∀i t l v z,aw G0.hp i=some (.buf t l v z)->v=0
theorem Rel.tidy(h0:FK C G0)(h:Rel G0 S a w β σ)(l:List Nat):Rel G0 (tidy C l S) a w β σ:=by
 have key:∀(R:List Nat)(hpn:aP),(∀i,aw hpn i=if(blt i C.base||mem R i)=true then(aw S.hp i).map fun b=>HP C i (pU (uD C R S.hp) b)else none)->Rel G0 ⟨n9 (uD C R S.hp) (uC l 0 S.fr),hpn⟩ a w β σ:=by
  intro R hpn hp2;have HX:∀{i b2},aw hpn i=some b2->∃b,aw S.hp i=some b/\b2=HP C i (pU (uD C R S.hp) b):=fun{i b2} hb=>by
   rw[hp2]at hb;split at hb
   ·obtain⟨b,e1,e2⟩:=Option.map_eq_some_iff.1 hb;grind
   ·cases hb
  have hE:Ext (GE.env (G0.at w β σ S.hp)) (GE.env (G0.at w β σ hpn)):=by refine⟨fun b m ⟨k1,k2,k3⟩=>⟨k1,k2,fun id blk hb hβ=>?_⟩,fun _ _ _ _ _=>rfl⟩;obtain⟨b0,e1,rfl⟩:=HX hb;exact(Qh _ _ _ _).2 (k3 id b0 e1 hβ)
  have hM:Mv (uD C R S.hp) (G0.at w β σ S.hp) (G0.at w β σ hpn):=by
   refine⟨hE,fun id ver j u blk hρ hb=>?_⟩;unfold uD at hρ;split at hρ
   ·rename_i hk;have hb':aw S.hp id=some blk:=hb;rw[hb']at hρ;have hn:aw hpn id=some (HP C id (pU (uD C R S.hp) blk)):=by rw[hp2,if_pos hk,hb'];rfl
    cases blk with
    |cell t v z=>cases hρ;exact⟨_,hn,rfl,rfl⟩
    |map k v l=>cases hρ;exact⟨_,hn,rfl,rfl,rfl⟩
    |buf t l c z=>
     simp only at hρ;split at hρ
     ·rename_i hvc;cases hρ;exact⟨_,hn,fun _=>le_refl _,fun _ _=>⟨eq_of_beq_eq_true hvc,rfl,rfl,rfl,le_refl _⟩⟩
     ·cases hρ
   ·cases hρ
  have hnm:∀b,(G0.at w β σ hpn).named b->(G0.at w β σ S.hp).named b:=fun b ⟨id,blk,hb,hβ⟩=>by obtain⟨b0,e1,_⟩:=HX hb;exact⟨id,b0,e1,hβ⟩
  refine⟨⟨⟨h.tr.kC.env.trans hE,fun id ver j u blk hρ hb=>?_⟩,h.tr.os,h.tr.tape,h.tr.output,h.tr.size,h.tr.frame,fun b hb=>h.tr.own b (hnm b hb)⟩,⟨h.ok.glob.ext hE,fun id blk hb=>?_,fun id id' blk blk' b hb hb'=>?_,fun b hb=>h.ok.own b (hnm b hb),h.ok.base⟩,h.defers,?_,fun i v hv=>?_⟩
  ·simp only[yi,Option.some.injEq,Prod.mk.injEq]at hρ;obtain⟨rfl,rfl⟩:=hρ;have hlow:=h0.low _ _ hb;obtain⟨blk2,q1,q2⟩:=h.tr.kC.blk id ver id ver blk rfl hb;have q1':aw S.hp id=some blk2:=q1;refine⟨HP C id (pU (uD C R S.hp) blk2),?_,?_⟩
   ·show aw hpn id=_;grind
   ·cases blk with
    |cell t v z=>cases blk2 with
     |cell t2 v2 z2=>exact q2
     |buf _ _ _ _=>exact q2.elim
     |map _ _ _=>exact q2.elim
    |map k v l=>cases blk2 with
     |map _ _ _=>exact q2
     |cell _ _ _=>exact q2.elim
     |buf _ _ _ _=>exact q2.elim
    |buf t l c z=>cases blk2 with
     |buf t2 l2 c2 z2=>
      have hc:=h0.fst _ _ _ _ _ hb;subst hc;have hv:ES C id=1:=by unfold ES;rw[hlow]
      refine⟨fun hv0=>?_,fun hv0 he=>?_⟩
      ·rw[hv];omega
      ·rw[hv]at he;omega
     |cell _ _ _=>exact q2.elim
     |map _ _ _=>exact q2.elim
  ·obtain⟨b0,e1,rfl⟩:=HX hb;exact(h.ok.blk id b0 e1).tidy hM
  ·obtain⟨b0,e1,_⟩:=HX hb;obtain⟨b0',e1',_⟩:=HX hb';exact h.ok.inj id id' b0 b0' b e1 e1'
  ·simp only[sS,wI];exact h.size
  ·simp only[Bl];rw[DI];refine bC.jE hM _ _ ?_;split
   ·exact(h.fr i v hv).gD
   ·exact .any
 unfold Bx.tidy;generalize mo S.hp 6 _=R;exact key R _ (rO (fun i=>blt i C.base||mem R i) (fun i b=>HP C i (pU (uD C R S.hp) b)) S.hp)
theorem G5(f:jX->jX):∀(hp:aP)(i:Nat),aw (hp.map fun x=>(x.1,f x.2)) i=(aw hp i).map f
 |[],i=>rfl
 |(a,b)::r,i=>by have ih:=G5 f r i;unfold aw at ih⊢;simp only[List.map_cons,look];grind
theorem Rel.name(h0:FK C G0)(h:Rel G0 S a w β σ){j cur i:Nat}{t:Ty}{l:List t.den}{z:Bool}(hj:aw S.hp j=some (.buf t l cur z))(hf:aw S.hp i=none)(hlow:¬blt i C.base=true):
  Rel G0 (DF j cur i t l z S) a w (jn (jn β j none) i (β j)) (jn (jn σ j (.slice none 0 0)) i (σ j)):=by
 have hij:i≠j:=fun e=>by rw[e,hj]at hf;cases hf
 have hji:j≠i:=fun e=>hij e.symm;have hn:∀k,aw (DF j cur i t l z S).hp k=if k=i then some (.buf t l 0 z)else if k=j then some (.buf t [] (cur+1) z)else(aw S.hp k).map (pU (QB j cur i)):=fun k=>by unfold DF;simp only[];rw[bO,bO,G5]
 have hbi:jn (jn β j none) i (β j) i=β j:=cq _ _ _;have hbj:jn (jn β j none) i (β j) j=none:=by rw[kM _ _ hji];exact cq _ _ _
 have hbk:∀k,k≠i->k≠j->jn (jn β j none) i (β j) k=β k:=fun k h1 h2=>by rw[kM _ _ h1,kM _ _ h2]
 have hsi:jn (jn σ j (.slice none 0 0)) i (σ j) i=σ j:=cq _ _ _;have hsj:jn (jn σ j (.slice none 0 0)) i (σ j) j= .slice none 0 0:=by rw[kM _ _ hji];exact cq _ _ _
 have hsk:∀k,k≠i->k≠j->jn (jn σ j (.slice none 0 0)) i (σ j) k=σ k:=fun k h1 h2=>by rw[kM _ _ h1,kM _ _ h2]
 generalize hB:jn (jn β j none) i (β j)=β' at*;generalize hS:jn (jn σ j (.slice none 0 0)) i (σ j)=σ' at*;generalize hH:(DF j cur i t l z S).hp=hp' at*;have HX:∀{k b2},aw hp' k=some b2->k≠i->k≠j->∃b,aw S.hp k=some b/\b2=pU (QB j cur i) b:=fun{k b2} hb h1 h2=>by rw[hn,if_neg h1,if_neg h2]at hb;obtain⟨b,e1,e2⟩:=Option.map_eq_some_iff.1 hb;grind
 have ati:∀{b2},aw hp' i=some b2->b2= .buf t l 0 z:=fun hb=>by rw[hn,if_pos rfl]at hb;cases hb;rfl
 have atj:∀{b2},aw hp' j=some b2->b2= .buf t [] (cur+1) z:=fun hb=>by rw[hn,if_neg hji,if_pos rfl]at hb;cases hb;rfl
 have hE:Ext (GE.env (G0.at w β σ S.hp)) (GE.env (G0.at w β' σ' hp')):=by
  refine⟨fun b m ⟨k1,k2,k3⟩=>⟨k1,k2,fun id blk hb hβ=>?_⟩,fun _ _ _ _ _=>rfl⟩;have hb:aw hp' id=some blk:=hb;have hβ:β' id=some b:=hβ;by_cases e1:id=i
  ·subst e1;have:=ati hb;subst this;rw[hbi]at hβ;have:=k3 j (.buf t l cur z) hj hβ;exact this
  ·by_cases e2:id=j
   ·grind
   ·obtain⟨b0,q1,rfl⟩:=HX hb e1 e2;rw[hbk id e1 e2]at hβ;have:=k3 id b0 q1 hβ;cases b0<;>exact this
 have hM:Mv (QB j cur i) (G0.at w β σ S.hp) (G0.at w β' σ' hp'):=by
  refine⟨hE,fun id ver j' u blk hρ hb=>?_⟩;have hb:aw S.hp id=some blk:=hb;have hni:id≠i:=fun e=>by rw[e,hf]at hb;cases hb
  unfold QB at hρ;by_cases e2:id=j
  ·subst e2;rw[hj]at hb;cases hb;by_cases e3:ver=cur
   ·subst e3;rw[Nat.beq_refl,Nat.beq_refl]at hρ;cases hρ;refine⟨.buf t l 0 z,?_,fun _=>le_refl _,fun _ _=>⟨rfl,rfl,?_,?_,le_refl _⟩⟩
    ·show aw hp' i=_;grind
    ·exact hbi
    ·exact hsi
   ·have hv:(beq id id&&beq ver cur)=false:=by
     rw[Bool.and_eq_false_iff];right;cases hq:beq ver cur with
     |false=>rfl
     |true=>exact absurd (eq_of_beq_eq_true hq) e3
    rw[hv]at hρ;cases hρ;refine⟨.buf t [] (cur+1) z,?_,fun hv=>Nat.le_succ_of_le hv,fun hv he=>?_⟩
    ·show aw hp' _=_;rw[hn,if_neg hni,if_pos rfl]
    ·omega
  ·have hv:(beq id j&&beq ver cur)=false:=by
    rw[Bool.and_eq_false_iff];left;cases hq:beq id j with
    |false=>rfl
    |true=>exact absurd (eq_of_beq_eq_true hq) e2
   rw[hv]at hρ;cases hρ;refine⟨pU (QB j cur i) blk,?_,?_⟩
   ·show aw hp' _=_;rw[hn,if_neg hni,if_neg e2,hb];rfl
   ·cases blk with
    |cell t v z=>exact⟨rfl,hbk _ hni e2⟩
    |map k v l=>exact⟨rfl,rfl,hbk _ hni e2⟩
    |buf t l c z=>exact⟨fun hv=>hv,fun _ he=>⟨he,rfl,hbk _ hni e2,hsk _ hni e2,le_refl _⟩⟩
 have hnm:∀b,(G0.at w β' σ' hp').named b->(G0.at w β σ S.hp).named b:=fun b ⟨id,blk,hb,hβ⟩=>by
  have hb:aw hp' id=some blk:=hb;have hβ:β' id=some b:=hβ;by_cases e1:id=i
  ·subst e1;rw[hbi]at hβ;exact⟨j,_,hj,hβ⟩
  ·by_cases e2:id=j
   ·subst e2;rw[hbj]at hβ;cases hβ
   ·obtain⟨b0,q1,_⟩:=HX hb e1 e2;rw[hbk id e1 e2]at hβ;exact⟨id,b0,q1,hβ⟩
 have hfr:(DF j cur i t l z S).fr=n9 (QB j cur i) S.fr:=rfl;refine⟨?_,?_,h.defers,?_,fun k v hv=>?_⟩
 ·rw[hH];refine⟨⟨h.tr.kC.env.trans hE,fun id ver j' u blk hρ hb=>?_⟩,h.tr.os,h.tr.tape,h.tr.output,h.tr.size,h.tr.frame,fun b hb=>h.tr.own b (hnm b hb)⟩;simp only[yi,Option.some.injEq,Prod.mk.injEq]at hρ;obtain⟨rfl,rfl⟩:=hρ;have hlo:=h0.low _ _ hb;obtain⟨blk2,q1,q2⟩:=h.tr.kC.blk id ver id ver blk rfl hb;have q1:aw S.hp id=some blk2:=q1;have hni:id≠i:=fun e=>hlow (by rw[<-e];exact hlo);by_cases e2:id=j
  ·subst e2;rw[hj]at q1;cases q1;refine⟨.buf t [] (cur+1) z,?_,?_⟩
   ·show aw hp' _=_;rw[hn,if_neg hni,if_pos rfl]
   ·cases blk with
    |cell _ _ _=>exact q2.elim
    |map _ _ _=>exact q2.elim
    |buf t0 l0 c0 z0=>have hc:=h0.fst _ _ _ _ _ hb;subst hc;exact⟨fun hv=>by omega,fun hv he=>by omega⟩
  ·refine⟨pU (QB j cur i) blk2,?_,?_⟩
   ·show aw hp' _=_;rw[hn,if_neg hni,if_neg e2,q1];rfl
   ·have hb1:(G0.at w β' σ' hp').β id=(G0.at w β σ S.hp).β id:=hbk id hni e2;have hs1:(G0.at w β' σ' hp').σ id=(G0.at w β σ S.hp).σ id:=hsk id hni e2;cases blk<;>cases blk2<;>simp only[gA,pU]at q2⊢<;>(first|exact q2.elim|(rw[hb1];exact q2)|(rw[hb1,hs1];exact q2))
 ·rw[hH];refine⟨h.ok.glob.ext hE,fun id blk hb=>?_,fun id id' blk blk' b hb hb' hβ hβ'=>?_,fun b hb=>h.ok.own b (hnm b hb),h.ok.base⟩
  ·have hb:aw hp' id=some blk:=hb;by_cases e1:id=i
   ·subst e1;have:=ati hb;subst this;rcases h.ok.blk j _ hj with ⟨b,arr,ty,css,cap,rest,g1,g2,g3,g4,g5,g6,g7,g8⟩|⟨g1,g2,g3,g4⟩
    ·exact .inl ⟨b,arr,ty,css,cap,rest,hbi.trans g1,hsi.trans g2,g3,g4.mono fun _ _ h=>h.ext hE,g5,g6,g7,g8⟩
    ·refine .inr ⟨hbi.trans g1,g2,?_,?_⟩
     ·show an _ (.sl t) l [σ' id];rw[hsi];exact g3.ext hE
     ·show∃a n,σ' id= .slice a n n;rw[hsi];exact g4
   ·by_cases e2:id=j
    ·subst e2;have:=atj hb;subst this;refine .inr ⟨hbj,.inr rfl,?_,⟨none,0,hsj⟩⟩;show an _ (.sl t) [] [σ' id];rw[hsj];exact .inl ⟨rfl,rfl⟩
    ·obtain⟨b0,q1,rfl⟩:=HX hb e1 e2;have hb1:β' id=β id:=hbk id e1 e2;have hs1:σ' id=σ id:=hsk id e1 e2;have ho:=h.ok.blk id b0 q1;cases b0 with
     |cell t v z=>obtain⟨b,arr,ty,g1,g2,g3⟩:=ho;exact⟨b,arr,ty,hb1.trans g1,g2,g3.jE hM⟩
     |buf t l ver z=>
      rcases ho with ⟨b,arr,ty,css,cap,rest,g1,g2,g3,g4,g5,g6,g7,g8⟩|⟨g1,g2,g3,g4⟩
      ·exact .inl ⟨b,arr,ty,css,cap,rest,hb1.trans g1,hs1.trans g2,g3,g4.mono fun _ _ h=>h.ext hE,g5,g6,g7,g8⟩
      ·refine .inr ⟨hb1.trans g1,g2,?_,?_⟩
       ·show an _ (.sl t) l [σ' id];rw[hs1];exact g3.ext hE
       ·show∃a n,σ' id= .slice a n n;rw[hs1];exact g4
     |map k v l=>obtain⟨b,es,clock,g1,g2,g3,g4⟩:=ho;exact⟨b,es,clock,hb1.trans g1,g2,g3.mono fun _ _ h=>⟨h.1.ext hE,h.2.ext hE⟩,g4⟩
  ·have hb:aw hp' id=some blk:=hb;have hb':aw hp' id'=some blk':=hb';have hβ:β' id=some b:=hβ;have hβ':β' id'=some b:=hβ';have step:∀{k bk},aw hp' k=some bk->β' k=some b->(k=i/\β j=some b)\/(k≠i/\k≠j/\β k=some b/\∃b0,aw S.hp k=some b0):=fun{k bk} hk hkb=>by
    by_cases e1:k=i
    ·subst e1;rw[hbi]at hkb;exact .inl ⟨rfl,hkb⟩
    ·by_cases e2:k=j
     ·subst e2;rw[hbj]at hkb;cases hkb
     ·obtain⟨b0,q1,_⟩:=HX hk e1 e2;rw[hbk k e1 e2]at hkb;exact .inr ⟨e1,e2,hkb,b0,q1⟩
   rcases step hb hβ with ⟨rfl,k1⟩|⟨n1,n2,k1,b0,q1⟩<;>rcases step hb' hβ' with ⟨e',k2⟩|⟨m1,m2,k2,b1,q2⟩
   ·exact e'.symm
   ·exact absurd (h.ok.inj j id' _ b1 b hj q2 k1 k2).symm m2
   ·exact absurd (h.ok.inj id j b0 _ b q1 hj k1 k2) n2
   ·exact h.ok.inj id id' b0 b1 b q1 q2 k1 k2
 ·rw[hfr,sS];exact h.size
 ·rw[hfr,hH,Bl];exact bC.jE hM _ _ (h.fr k v hv)
theorem Ow:∀{cs cs1:List Value}{o:Nat},(∀j x,cs1[j]? =some x->cs[o+j]? =some x)->o+cs1.length<=cs.length->lay cs o cs1=cs:=by intro cs cs1 o h hl;unfold lay;apply List.ext_getElem?;intro j;rw[List.getElem?_append,List.getElem?_append];grind
theorem zV(f:V->V):∀(p:List Nat){v v':V}{x:Value}{tm:Array Value},bC G tm v x->LX f p v=some v'->
  ∃y tm',bC G tm' (nE p v) y/\∀G',nO G G'->bC G' tm' (f (nE p v)) y->bC G' tm v' x
 |[],v,v',x,tm,h,hm=>by simp only[LX,Option.some.injEq]at hm;subst hm;exact⟨x,tm,h,fun _ _ h=>h⟩
 |j::p,v,v',x,tm,h,hm=>by
  unfold LX at hm;split at hm
  ·grind
  ·rename_i j' p' t l e;cases e;split at hm
   ·rename_i hjl;split at hm
    ·rename_i z u hz hu;split at hm
     ·rename_i hf;cases hm;simp only[bC]at h;obtain⟨cs,rfl,hfl⟩:=h;obtain⟨o,ho⟩:=zR hu;obtain⟨a,o1,o2,cs1,g1,g2,g3,g4,g5,g6,g7⟩:=hfl.part (p:=[]) ho;obtain⟨e1,e2⟩:=mE g1;subst e2;obtain⟨y,ey,hy,_⟩:=bC.zW g4;obtain⟨y',tm',k1,k2⟩:=zV f p hy hz;refine⟨y',tm',by simpa only[nE]using k1,fun G' hK hfy=>?_⟩;have hz':=k2 G' hK (by simpa only[nE]using hfy);obtain⟨q1,_⟩:=oo hf hz';rw[<-ey]at q1;have hfl':dE G' t l cs.toList:=by
       have:=dE.jE (ρ:=yi) hK t l cs.toList hfl
       rwa [l9]at this
      obtain⟨a',o1',o2',cs1',g1',g2',g3',g4',g5',g6',g7'⟩:=hfl'.part (p:=[]) ho;obtain⟨e1',e2'⟩:=mE g1';subst e2';have ho1:o1'=o1:=by omega
      subst ho1;have hl1:cs1.length=cs1'.length:=by rw[g4.length,g4'.length]
      have hcs:cs1'=cs1:=by apply List.ext_getElem?;grind
      subst hcs;have:=g7' z 0 cs1' (by rw[wH _ _ rfl];exact q1) (by omega);rw[Nat.add_zero,Ow g5' g6']at this;exact OD (by simp only[bC];exact⟨cs,rfl,this⟩)
     ·cases hm
    ·cases hm
   ·cases hm
  ·cases hm
theorem zj(h:Rel G0 S a w β σ){i:Nat}{slot:Bool}{v':V}{S':St}(hset:z7 C i slot S v'=some S')
  (h1:slot=true->∀x,a.tmps[i]? =some x->bC (G0.at w β σ S.hp) a.tmps v' x)
  (h2:slot=false->∀b arr ty t v z,aw S.hp i=some (.cell t v z)->β i=some b->w.heap[b]? =some (.cells arr ty (0,0))->fits t v'=true->dZ (G0.at w β σ S.hp) t v' arr.toList):Rel G0 S' a w β σ:=by
 unfold z7 at hset;cases slot with
 |true=>
  cases hset;refine⟨h.tr,h.ok,h.defers,by simpa using h.size,fun j x hx=>?_⟩;simp only;rw[rb];split
  ·rename_i he;obtain⟨rfl,_⟩:=he;exact h1 rfl x hx
  ·exact h.fr j x hx
 |false=>
  simp only at hset;split at hset
  ·rename_i t v z hb;split at hset
   ·rename_i hf;cases hset;have hb':aw (G0.at w β σ S.hp).hp i=some (.cell t v z):=hb;obtain⟨b,arr,ty,g1,g2,g3⟩:=h.ok.cell hb';have hv:=h2 rfl b arr ty t v z hb g1 g2 hf;obtain⟨t1,k1⟩:=h.ok.turn (blk':=.cell t v' z) hb' (w':=w) rfl rfl rfl rfl (fun _ _=>rfl) (fun m hm=>hm) (fun _ _ _ _ _ _=>rfl) ⟨⟨rfl,rfl⟩,fun _=>⟨rfl,rfl⟩⟩ (fun _ hK=>⟨b,arr,ty,g1,g2,hv.ext hK⟩);exact⟨h.tr.trans t1,k1,h.defers,h.size,fun j x hx=>(h.fr j x hx).ext t1.kC⟩
   ·cases hset
  ·cases hset
theorem LR{hp hp':aP}(h:zu hp hp'){i:Nat}{t t':Ty}{v v':V}{z z':Bool}(h1:aw hp i=some (.cell t v z))(h2:aw hp' i=some (.cell t' v' z')):t'=t/\v'=v:=by
 rcases h i with e|⟨b,e1,e2⟩
 ·grind
 ·rw[h1]at e1;cases e1;rw[e2]at h2;cases h2;exact⟨rfl,rfl⟩
theorem L6{p:List Nat}{t:Ty}{l:List t.den}(h:nE p .any= .full t l):False:=by cases p<;>simp[nE]at h
theorem G4(h0:FK C G0)(h:eE G0 S a w){n:Norm}{S':St}(hn:DH C S n=some S'):eE G0 S' a w:=by
 obtain⟨β,σ,h⟩:=h;have slotT:∀{i v},vI C i true S=some v->v=gD (nth S.fr i):=fun{i v} hs=>by simp only[vI,Option.some.injEq]at hs;exact hs.symm
 have slotF:∀{i v},vI C i false S=some v->∃t z,aw S.hp i=some (.cell t v z):=fun{i v} hs=>by unfold vI at hs;grind
 cases n with
 |dat slot i p=>
  simp only[DH]at hn;split at hn
  ·rename_i v hs;split at hn
   ·rename_i v' hm;obtain⟨t1,k1⟩:=vl (nE p v) (G0.at w β σ S.hp) h.ok;have h1:Rel G0 ⟨S.fr,frz S.hp (nE p v)⟩ a w β σ:=⟨h.tr.trans t1,k1,h.defers,h.size,fun j x hx=>(h.fr j x hx).ext t1.kC⟩
    have hrd:∀{tm y},bC (G0.at w β σ S.hp) tm (nE p v) y->bC (G0.at w β σ (frz S.hp (nE p v))) tm (V3 S.hp (nE p v)) y:=fun{tm y} hy=>by
     unfold V3;split
     ·rename_i t z hr;have:=ya (nE p v) (G0.at w β σ S.hp) h.ok hy hr;simp only[bC];exact this
     ·exact .any
    refine⟨β,σ,zj h1 hn (fun e x hx=>?_) (fun e b arr ty t v0 z hb hβ hw hf=>?_)⟩
    ·subst e;have:=slotT hs;subst this;obtain⟨y,tm',k2,k3⟩:=zV _ p (bC.gD (tm':=a.tmps) (h.fr i x hx)) hm;exact k3 _ t1.kC (hrd k2)
    ·subst e;obtain⟨t',z',hb'⟩:=slotF hs;obtain⟨rfl,rfl⟩:=LR (sU (nE p v) S.hp) hb' hb;obtain⟨b2,arr2,ty2,g1,g2,g3⟩:=h.ok.cell (G:=G0.at w β σ S.hp) hb';have g1:β i=some b2:=g1;have g2:w.heap[b2]? =some (.cells arr2 ty2 (0,0)):=g2;rw[g1]at hβ;cases hβ;rw[g2]at hw;cases hw;obtain⟨x,ex,_,hx⟩:=g3;obtain⟨y,tm',k2,k3⟩:=zV _ p hx hm;rw[ex];exact(oo hf (k3 _ t1.kC (hrd k2))).1
   ·cases hn
  ·cases hn
 |melt slot i p id z=>
  simp only[DH]at hn;split at hn
  ·rename_i v hs;split at hn
   ·rename_i t l hp;split at hn
    ·rename_i hc;simp only[and_eq_true,Bool.or_eq_true,isEmpty_iff]at hc;split at hn
     ·rename_i v' hm;have hfree:=mV hc.1;have pre:∃x tm0,bC (G0.at w β σ S.hp) tm0 v x/\(slot=true->a.tmps[i]? =some x/\tm0=a.tmps)/\(slot=false->∃t0 z0 b arr ty,aw S.hp i=some (.cell t0 v z0)/\β i=some b/\w.heap[b]? =some (.cells arr ty (0,0))/\arr.toList=x.cells.toList):=by
       cases slot with
       |true=>
        have:=slotT hs;subst this;cases hx:a.tmps[i]? with
        |none=>
         exfalso;have hge:S.fr.length<=i:=by rw[<-h.size];exact Array.getElem?_eq_none_iff.1 hx
         rw[t7 hge]at hp;exact L6 hp
        |some x=>exact⟨x,a.tmps,bC.gD (h.fr i x hx),fun _=>⟨rfl,rfl⟩,fun e=>by cases e⟩
       |false=>obtain⟨t',z',hb'⟩:=slotF hs;obtain⟨b2,arr2,ty2,g1,g2,g3⟩:=h.ok.cell (G:=G0.at w β σ S.hp) hb';obtain⟨x,ex,_,hx⟩:=g3;exact⟨x,#[],hx,(fun e=>by cases e),fun _=>⟨t',z',b2,arr2,ty2,hb',g1,g2,ex⟩⟩
      obtain⟨x,tm0,hx,pT,pF⟩:=pre;obtain⟨y,tm',k2,k3⟩:=zV _ p hx hm;rw[hp]at k2;simp only[bC]at k2;obtain⟨t1,q1,q2⟩:=h.ok.Kz (id:=C.base+id) (ver:=0) (fun blk hb=>by
       have hb:aw S.hp (C.base+id)=some blk:=hb;rw[hfree]at hb;cases hb) k2.1 k2.2 (z:=z) hc.2
      have h1:Rel G0 ⟨S.fr,fR S.hp (C.base+id) (.buf t l 0 z)⟩ a w (jn β (C.base+id) none) (jn σ (C.base+id) y):=⟨h.tr.trans t1,q1,h.defers,h.size,fun j x hx=>(h.fr j x hx).ext t1.kC⟩
      refine⟨_,_,zj h1 hn (fun e x' hx'=>?_) (fun e b arr ty t0 v0 z0 hb hβ hw hf=>?_)⟩
      ·obtain⟨e1,rfl⟩:=pT e;rw[e1]at hx';cases hx';exact k3 _ t1.kC (by simp only[bC];exact q2)
      ·obtain⟨t',z',b2,arr2,ty2,g1,g2,g3,g4⟩:=pF e;have hne:i≠C.base+id:=fun e'=>by rw[e',hfree]at g1;cases g1
       rw[bO,if_neg hne,g1]at hb;cases hb;rw[kM _ _ hne,g2]at hβ;cases hβ;rw[g3]at hw;cases hw;rw[g4];exact(oo hf (k3 _ t1.kC (by simp only[bC];exact q2))).1
     ·cases hn
    ·cases hn
   ·cases hn;exact⟨β,σ,h⟩
   ·cases hn
  ·cases hn
 |tid l=>simp only[DH,Option.some.injEq]at hn;subst hn;exact⟨β,σ,h.tidy h0 l⟩
 |name slot i p id=>
  simp only[DH]at hn;split at hn
  ·split at hn
   ·split at hn
    ·rename_i j ver t l cur z hb;split at hn
     ·cases hn;exact⟨β,σ,h⟩
     ·rename_i hfr;cases hn;exact⟨_,_,h.name h0 hb (mV hfr) (by simp[Nat.blt_eq])⟩
     ·cases hn
    ·cases hn
   ·cases hn
  ·cases hn
theorem yS(h0:FK C G0):∀(ns:List Norm){S S':St},eE G0 S a w->Ko C ns S=some S'->eE G0 S' a w
 |[],S,S',h,hn=>by cases hn;exact h
 |n::ns,S,S',h,hn=>by
  simp only[Ko]at hn;split at hn
  ·rename_i S1 h1;exact yS h0 ns (G4 h0 h h1) hn
  ·cases hn
theorem jJ(h0:FK C G0)(h:eE G0 S a w){α:Type}{key:Nat}{K:St->Option α}{r:α}(hk:clean C key S K=some r):∃S',K S'=some r/\eE G0 S' a w:=by
 unfold clean at hk;split at hk
 ·exact⟨S,hk,h⟩
 ·split at hk
  ·obtain⟨β,σ,h⟩:=h;exact⟨_,hk,β,σ,h.tidy h0 _⟩
  ·split at hk
   ·rename_i S1 hn;obtain⟨β,σ,h⟩:=yS h0 _ h hn;exact⟨_,hk,β,σ,h.tidy h0 _⟩
   ·cases hk
end
def fK:Code->Bool
 | .region _ ops draw=>!draw||EJ ops
 | .seq a b=>fK a&&fK b
 | .cond _ a b=>fK a&&fK b
 | .block _ a=>fK a
 | .loop a=>fK a
 | .scope a=>fK a
 |_=>true
section
variable {P:Program}{C:Ctx}{G0:GE}
structure WX(G0:GE){α:Type}(Q:Ex->St->Option α)(r:α)(Q':Exit->Act->World->Prop):Prop where
 normal:∀S a w,Q .normal S=some r->eE G0 S a w->Q' .normal a w
 exit:∀id S a w,Q (.exit id) S=some r->eE G0 S a w->Q' (.exit id) a w
 ret:∀S a w,Q .ret S=some r->eE G0 S a w->Q' .ret a w
theorem kf(hC:iY P C)(hm:P.follows .mixedOrders=true)(h0:FK C G0)(k:Nat){α:Type}{r:α}:∀(c:Code),fK c=true->∀(Q:Ex->St->Option α)(Q':Exit->Act->World->Prop)(S:St)(a:Act)(w:World),WX G0 Q r Q'->
  den C k c Q S=some r->eE G0 S a w->c.wp P Q' a w
 | .skip,_,Q,Q',S,a,w,hQ,h,hB=>wp_skip (hQ.normal S a w h hB)
 | .label _,_,Q,Q',S,a,w,hQ,h,hB=>wp_label (hQ.normal S a w h hB)
 | .exit id,_,Q,Q',S,a,w,hQ,h,hB=>by obtain⟨S',h',hB'⟩:=jJ h0 hB h;exact wp_exit (hQ.exit id _ a w h' hB')
 | .ret,_,Q,Q',S,a,w,hQ,h,hB=>by obtain⟨S',h',hB'⟩:=jJ h0 hB h;exact wp_ret (hQ.ret _ a w h' hB')
 | .region id ops draw,hd,Q,Q',S,a,w,hQ,h,hB=>by
  refine Fj hC hm (K:=Q .normal) (r:=r) (fun e=>?_) (fun S a w h hB=>hQ.normal S a w h hB) ?_ hB
  ·subst e;simpa[fK]using hd
  ·cases draw<;>exact h
 | .seq x y,hd,Q,Q',S,a,w,hQ,h,hB=>by simp only[fK,and_eq_true]at hd;refine wp_seq (kf hC hm h0 k x hd.1 (wX (fun S=>clean C (ka y) S (den C k y Q)) Q) _ S a w ⟨fun S a w h hB=>?_,fun id S a w h hB=>hQ.exit id S a w h hB,fun S a w h hB=>hQ.ret S a w h hB⟩ h hB);obtain⟨S',h',hB'⟩:=jJ h0 hB h;exact kf hC hm h0 k y hd.2 Q Q' _ a w hQ h' hB'
 | .cond c x y,hd,Q,Q',S,a,w,hQ,h,hB=>by
  simp only[fK,and_eq_true]at hd;simp only[den]at h;split at h
  ·rename_i t heq;obtain⟨β,σ,hR⟩:=hB;have he:=hR.ev c;rw[heq]at he;have he:=he.bool;split at h
   ·rename_i ht;exact wp_cond_true (by rw[he];rw[show t=true from ht]) (kf hC hm h0 k x hd.1 Q Q' S a w hQ h ⟨β,σ,hR⟩)
   ·rename_i ht;exact wp_cond_false (by rw[he];rw[show t=false by simpa using ht]) (kf hC hm h0 k y hd.2 Q Q' S a w hQ h ⟨β,σ,hR⟩)
  ·cases h
 | .block id c,hd,Q,Q',S,a,w,hQ,h,hB=>by
  simp only[fK]at hd;refine wp_block (kf hC hm h0 k c hd (Ao C id Q) _ S a w ⟨fun S a w h hB=>?_,fun i S a w h hB=>?_,fun S a w h hB=>hQ.ret S a w h hB⟩ h hB)
  ·obtain⟨S',h',hB'⟩:=jJ h0 hB h;exact hQ.normal _ a w h' hB'
  simp only[Ao]at h;show(if i=id then Q' .normal a w else Q' (.exit i) a w);split at h
  ·rename_i hi;rw[if_pos (eq_of_beq_eq_true hi)];exact hQ.normal _ a w h hB
  ·rename_i hi;rw[if_neg (fun e=>hi (by rw[e];exact Nat.beq_refl id))];exact hQ.exit i S a w h hB
 | .loop c,hd,Q,Q',S,a,w,hQ,h,hB=>by
  simp only[fK]at hd;have key:∀k' S a w,iter (fun next=>den C k c (wX (fun S=>clean C (ka c) S next) Q)) k' S=some r->eE G0 S a w->Code.rounds P c Q' k' a w:=by
   intro k';induction k' with
   |zero=>intro S a w h _;cases h
   |succ k' ih=>intro S a w h hB;simp only[iter]at h;rw[rounds_succ];refine kf hC hm h0 k c hd (wX (fun S=>clean C (ka c) S (iter (fun next=>den C k c (wX (fun S=>clean C (ka c) S next) Q)) k')) Q) _ S a w ⟨fun S a w h hB=>?_,fun id S a w h hB=>hQ.exit id S a w h hB,fun S a w h hB=>hQ.ret S a w h hB⟩ h hB;obtain⟨S',h',hB'⟩:=jJ h0 hB h;exact ih _ a w h' hB'
  obtain⟨S',h',hB'⟩:=jJ h0 hB h;exact wp_loop_rounds k (key k _ a w h' hB')
 | .scope c,hd,Q,Q',S,a,w,hQ,h,hB=>by simp only[fK]at hd;exact wp_scope_straight (kf hC hm h0 k c hd Q (Exit.noGoto Q') S a w ⟨fun S a w h hB=>hQ.normal S a w h hB,fun id S a w h hB=>hQ.exit id S a w h hB,fun S a w h hB=>hQ.ret S a w h hB⟩ h hB)
 | .rangeFunc _ _ _ _,_,_,_,_,_,_,_,h,_=>by cases h
 | .goto _,_,_,_,_,_,_,_,h,_=>by cases h
 | .refuse _,_,_,_,_,_,_,_,h,_=>by cases h
theorem pY{E:Env}:∀{t:Ty}{x:t.den}{vs:List Value},iC E t x vs->(spread t x).length=vs.length
 | .unit,_,_,h=>by simp only[iC]at h;subst h;rfl
 | .pair a b,x,_,⟨v,r,e,_,h2⟩=>by subst e;simp[spread,pY h2]
 | .int _,_,_,h=>h.elim
 | .bool,_,_,h=>h.elim
 | .str,_,_,h=>h.elim
 | .sl _,_,_,h=>h.elim
 | .arr _ _,_,_,h=>h.elim
 | .opq,_,_,h=>h.elim
theorem Ev{G:GE}{tm:Array Value}:∀{l:List V}{vs:List Value},iH G tm l vs->∀i x,vs[i]? =some x->bC G tm (nth l i) x
 |[],[],_,i,x,h=>by simp at h
 |v::l,y::vs,h,0,x,hx=>by simp only[iH]at h;simp at hx;subst hx;exact h.1
 |v::l,y::vs,h,i+1,x,hx=>by simp only[iH]at h;simpa[nth]using Ev h.2 i x (by simpa using hx)
 |[],_::_,h,_,_,_=>by simp[iH]at h
 |_::_,[],h,_,_,_=>by simp[iH]at h
theorem vC:∀(l m:List V)(i:Nat),nth (l++m) i=if i<l.length then nth l i else nth m (i-l.length)
 |[],m,i=>by simp
 |v::l,m,0=>by simp[nth]
 |v::l,m,i+1=>by simp only[List.cons_append,nth,vC l m i,List.length_cons,Nat.add_lt_add_iff_right,Nat.add_sub_add_right]
theorem pP:∀(n i:Nat),nth (List.replicate n .any) i= .any
 |0,_=>rfl
 |_+1,0=>rfl
 |n+1,i+1=>by simpa[List.replicate_succ,nth]using pP n i
theorem oP{id:Nat}{blk:jX}(h:aw ([]:aP) id=some blk):False:=by rw[OM]at h;cases h
abbrev bare(w:World)(I:Nat->Nat->Prop):GE:=Bf w (fun _=>none) (fun _=>.nilFunc) [] I
theorem FQ{w:World}{I:Nat->Nat->Prop}(hI:∀b m,I b m->b<w.heap.size):Ext (⟨w,I⟩:Env) (bare w I).env:=
 ⟨fun b m h=>⟨.inl h,hI b m h,fun id blk hb=>(oP hb).elim⟩,fun _ _ _ _ _=>rfl⟩
theorem PY{w:World}{I:Nat->Nat->Prop}(hI:Vj w I):cW (bare w I):=
 ⟨hI.glob.ext (FQ hI.lt),fun id blk hb=>(oP hb).elim,fun id id' blk blk' b hb=>(oP hb).elim,fun b ⟨id,blk,hb,_⟩=>(oP hb).elim,le_refl _⟩
theorem Mj{F:Fn}{x:F.ps.den}{w:World}{I:Nat->Nat->Prop}(hI:Vj w I){args:Array Value}(ha:iC ⟨w,I⟩ F.ps x args.toList){n:Nat}(_hn:args.size<=n):
  eE (bare w I) (start F n x) {tmps:=args++Array.replicate (n-args.size) undef,defers:=[]} w:=by
 have hlen:(spread F.ps x).length=args.size:=by rw[pY ha,Array.length_toList]
 refine⟨fun _=>none,fun _=>.nilFunc,Tr.refl _,PY hI,rfl,?_,fun i v hv=>?_⟩
 ·simp[start,pZ,hlen]
 ·simp only[start,pZ]at hv⊢;rw[vC];split
  ·rename_i hi;have hv':args.toList[i]? =some v:=by
    grind
   exact Ev (yh (G:=bare w I) (ha.ext (FQ hI.lt))) i v hv'
  ·rw[pP];exact .any
def PL(tmps:Array Value):ResultVar->Sem Value
 | .tmp t=>pure (tmps.getD t undef)
 | .cell a t=>do loadVar t (<-asAddr (tmps.getD a undef))
theorem Jh(fn:Func)(tmps:Array Value):results fn tmps=(do let vs<-fn.results.mapM (PL tmps);pure (if h:vs.size=1 then vs[0]else .tuple vs)):=by rfl
theorem wT{tmps:Array Value}{w:World}:∀{l:List ResultVar}{vs:List Value},df (fun r v=>(PL tmps r).run P w= .ok v w) l vs->
  (l.mapM (PL tmps)).run P w= .ok vs w
 |[],[],_=>by simp
 |r::l,v::vs,⟨h1,h2⟩=>by have ih:=wT h2;simp_all
section
variable {S:St}{a:Act}{w:World}{β:Nat->Option Nat}{σ:Nat->Value}
theorem Jg(hC:iY P C)(h:Rel G0 S a w β σ){r:ResultVar}{v:V}(hv:QO C S r=some v):
  ∃x,(PL a.tmps r).run P w= .ok x w/\bC (G0.at w β σ S.hp) #[] v x:=by
 cases r with
 |tmp t=>simp only[QO,Option.some.injEq]at hv;subst hv;exact⟨a.eval (.tmp t),by simp only[PL,Sem.run_pure,Act.eval],(h.ev (.tmp t)).gD⟩
 |cell ad t=>
  simp only[QO]at hv;split at hv
  ·rename_i τ id ver hτ heq;split at hv
   ·rename_i σ' c z hb;split at hv
    ·rename_i he;subst he;cases hv;have hx:=h.ev (.tmp ad);simp only[Bx.ev]at hx;rw[heq]at hx;simp only[bC]at hx;obtain⟨b,o,g1,g2,g3⟩:=HN (G:=G0.at w β σ S.hp) hx hb (τ:=σ') (by cases σ'<;>rfl);obtain⟨rfl,_⟩:=mE g2;obtain⟨b2,arr,ty,e1,e2,e3⟩:=h.ok.cell (G:=G0.at w β σ S.hp) hb;rw[g1]at e1;cases e1;obtain⟨x,r1,r2⟩:=DX (G:=G0.at w β σ S.hp) w (hC.ty _ _ hτ) ⟨b,0,none⟩ rfl e3 (fun j v hj=>by show w.cell? ⟨b,0+j,none⟩=some v;rw[Nat.zero_add];exact(kE e2 j).trans hj);simp only[Act.eval]at g3;refine⟨x,?_,r2 #[]⟩;simp only[PL,g3,asAddr,Sem.run_bind,Sem.run_pure,Result.andThen_ok,r1]
    ·cases hv
   ·cases hv
  ·cases hv
theorem lS(hC:iY P C)(h:Rel G0 S a w β σ):∀{l:List ResultVar}{vs:List V},Jf C S l=some vs->
  ∃xs,df (fun r v=>(PL a.tmps r).run P w= .ok v w) l xs/\iH (G0.at w β σ S.hp) #[] vs xs/\xs.length=vs.length
 |[],vs,hv=>by simp only[Jf,Option.some.injEq]at hv;subst hv;exact⟨[],trivial,by simp[iH],rfl⟩
 |r::l,vs,hv=>by
  simp only[Jf]at hv;split at hv
  ·rename_i v vs' h1 h2;cases hv;obtain⟨x,r1,r2⟩:=Jg hC h h1;obtain⟨xs,s1,s2,s3⟩:=lS hC h h2;exact⟨x::xs,⟨r1,s1⟩,by simp only[iH];exact⟨r2,s2⟩,by simp[s3]⟩
  ·cases hv
end
theorem ma{fn:Func}{tmps:Array Value}{w:World}{xs:List Value}(h:df (fun r v=>(PL tmps r).run P w= .ok v w) fn.results.toList xs):
  (results fn tmps).run P w= .ok (if h:xs.toArray.size=1 then xs.toArray[0]else .tuple xs.toArray) w:=by
 have h1:=wT (P:=P) h;have e:fn.results.mapM (PL tmps)=(fn.results.toList.mapM (PL tmps)>>=fun l=>pure l.toArray):=by rw[Array.mapM_eq_mapM_toList];rfl
 rw[Jh,e];simp only[Sem.run_bind,h1,Result.andThen_ok,Sem.run_pure]
theorem vj(hC:iY P C)(hm:P.follows .mixedOrders=true){f:FuncId}{fn:Func}{c:Code}(hf:P.funcs[f]? =some fn)(hb:fn.body=some c)(hd:fK c=true)(F:Fn)(k:Nat)(hn:∀(x:F.ps.den),(spread F.ps x).length<=fn.ntmps)
  (hF:∀x r,F.run x=some r->den C k c (fin C fn.results.toList F.rs F.multi) (start F fn.ntmps x)=some r):MI P f F:=by
 intro w I x r args hI hr ha;have hlen:(spread F.ps x).length=args.size:=by rw[pY ha,Array.length_toList]
 refine calls_of_wp hf hb ?_;have hB:=Mj hI ha (n:=fn.ntmps) (by rw[<-hlen];exact hn x);have done:∀(e:Ex)(S:St)(a:Act)(w':World),(e= .normal\/e= .ret)->fin C fn.results.toList F.rs F.multi e S=some r->eE (bare w I) S a w'->
   a.defers=[]/\∃v,(results fn a.tmps).run P w'= .ok v w'/\∃v',Ending.returned v= .returned v'/\Below w.heap.size w w'/\rK ⟨w',fun b m=>I b m\/(w.heap.size<=b/\b<w'.heap.size)⟩ F r v':=by
  intro e S a w' he hfin hB;obtain⟨β,σ,hR⟩:=hB;refine⟨hR.defers,?_⟩;have hfin':(match F.multi,Jf C S fn.results.toList with
    |false,some [v]=>match rd S.hp v with
     | .data t' x=>uv t' F.rs x
     |_=>none
    |true,some l=>if beq l.length 1=true then none else getArgs F.rs (uL S.hp l)
    |_,_=>none)=some r:=by
   rcases he with rfl|rfl<;>exact hfin
  have hbare:∀b,¬(bare w I).named b:=fun b ⟨id,blk,hb,_⟩=>oP hb;have hBe:Below w.heap.size w w':=⟨hR.tr.os,hR.tr.tape,hR.tr.output,hR.tr.size,fun b hb=>hR.tr.frame b hb (hbare b)⟩
  have hE:∀hp2,Ext (GE.env ((bare w I).at w' β σ hp2)) ⟨w',fun b m=>I b m\/(w.heap.size<=b/\b<w'.heap.size)⟩:=fun hp2=>
   ⟨fun b m ⟨h1,h2,_⟩=>by
    rcases h1 with h|h|h
    ·exact .inl h
    ·exact .inr ⟨h,h2⟩
    ·exact absurd h (hbare b),fun _ _ _ _ _=>rfl⟩
  split at hfin'
  ·rename_i v' hmul hl;split at hfin'
   ·rename_i t' x' hrd;obtain⟨rfl,rfl⟩:=il hfin';obtain⟨xs,s1,s2,s3⟩:=lS hC hR hl;obtain⟨v,rfl⟩:=List.length_eq_one_iff.1 (by simpa using s3);refine⟨v,by rw[ma s1];simp,v,rfl,hBe,?_⟩;unfold rK;rw[hmul];simp only[iH,and_true]at s2;exact(ya v' _ hR.ok s2 hrd).ext (hE _)
   ·cases hfin'
  ·rename_i l hmul hl;split at hfin'
   ·cases hfin'
   ·rename_i hne;obtain⟨xs,s1,s2,s3⟩:=lS hC hR hl;have hne':xs.toArray.size≠1:=by
     simp_all
    refine⟨.tuple xs.toArray,by rw[ma s1,dif_neg hne'],.tuple xs.toArray,rfl,hBe,?_⟩;unfold rK;rw[hmul];exact⟨xs.toArray,rfl,(tP _ hR.ok hfin' s2).ext (hE _)⟩
  ·cases hfin'
 refine kf hC hm ⟨fun i blk h=>(oP h).elim,fun i t l v z h=>(oP h).elim⟩ k c hd _ _ (start F fn.ntmps x) _ w ⟨fun S a w' h hB=>?_,fun id S a w' h hB=>?_,fun S a w' h hB=>?_⟩ (hF x r hr) hB
 ·exact done .normal S a w' (.inl rfl) h hB
 ·cases h
 ·exact done .ret S a w' (.inr rfl) h hB
end
def TH:Value->Value->Bool
 | .int k n,.int k' m=>decide (k=k')&&decide (n=m)
 | .bool a,.bool b=>a==b
 | .string s,.string s'=>decide (s.data=s'.data)
 | .slice none 0 0,.slice none 0 0=>true
 |_,_=>false
theorem Ri{a b:Value}(h:TH a b=true):a=b:=by
 unfold TH at h;split at h
 ·grind
 ·simp at h;rw[h]
 ·rename_i s s';have:s.data=s'.data:=of_decide_eq_true h;cases s;cases s';simp at this;rw[this]
 ·rfl
 ·cases h
def Rh:List Value->List Value->Bool
 |[],[]=>true
 |a::l,b::m=>TH a b&&Rh l m
 |_,_=>false
theorem Ca:∀{l m:List Value},Rh l m=true->l=m
 |[],[],_=>rfl
 |a::l,b::m,h=>by simp only[Rh,and_eq_true]at h;rw[Ri h.1,Ca h.2]
 |[],_::_,h=>by simp[Rh]at h
 |_::_,[],h=>by simp[Rh]at h
def Ua:Value->Bool
 | .agg _=>true
 |_=>false
def QG:Value->Bool
 | .tuple _=>false
 | .agg _=>false
 |_=>true
theorem Bn{v:Value}(h:QG v=true):fC v:=by cases v<;>simp[QG]at h<;>exact⟨rfl,by simp,by simp⟩
def MS(f:List Value->Bool)(s:Nat):Nat->List Value->Bool
 |0,cs=>cs.isEmpty
 |n+1,cs=>f (cs.take s)&&MS f s n (cs.drop s)
def pj:Ty->List Value->Bool
 | .opq,cs=>match cs with
  |[x]=>QG x
  |_=>false
 | .pair a b,cs=>pj a (cs.take a.size)&&pj b (cs.drop a.size)
 | .arr n t,cs=>MS (pj t) t.size n cs
 | .int k,cs=>Rh cs (zc (.int k))
 | .bool,cs=>Rh cs (zc .bool)
 | .str,cs=>Rh cs (zc .str)
 | .sl t,cs=>Rh cs (zc (.sl t))
 | .unit,cs=>cs.isEmpty
theorem Am{f:List Value->Bool}{s:Nat}{p:List Value->Prop}(hf:∀cs,f cs=true->p cs):∀(n:Nat)(cs:List Value),MS f s n cs=true->∃css:List (List Value),css.length=n/\cs=css.flatten/\∀c∈css,p c
 |0,cs,h=>by simp only[MS,isEmpty_iff]at h;exact⟨[],rfl,h,fun _ h=>by cases h⟩
 |n+1,cs,h=>by simp only[MS,and_eq_true]at h;obtain⟨css,h1,h2,h3⟩:=Am hf n _ h.2;refine⟨cs.take s::css,by simp[h1],by rw[List.flatten_cons,<-h2,take_append_drop],fun c hc=>?_⟩;grind
theorem pI:∀(τ:Ty)(cs:List Value),pj τ cs=true->zJ τ cs
 | .opq,[x],h=>by simp only[pj]at h;exact⟨x,rfl,Bn h⟩
 | .opq,[],h=>by simp[pj]at h
 | .opq,_::_::_,h=>by simp[pj]at h
 | .pair a b,cs,h=>by simp only[pj,and_eq_true]at h;exact⟨_,_,(take_append_drop a.size cs).symm,pI a _ h.1,pI b _ h.2⟩
 | .arr n t,cs,h=>by simp only[pj]at h;obtain⟨css,h1,h2,h3⟩:=Am (pI t) n cs h;exact⟨css,h1,h2,h3⟩
 | .int k,cs,h=>by simp only[pj]at h;exact Ca h
 | .bool,cs,h=>by simp only[pj]at h;exact Ca h
 | .str,cs,h=>by simp only[pj]at h;exact Ca h
 | .sl t,cs,h=>by simp only[pj]at h;exact Ca h
 | .unit,cs,h=>by simp only[pj,isEmpty_iff]at h;exact h
def uB(P:Program)(i:TypeId)(τ:Ty):Bool:=
 match P.info? i with
 |none=>false
 |some inf=>decide (inf.size=τ.size)&&decide (inf.bytes=τ.bytes)&&match inf.zero with
  |none=>false
  |some z=>pj τ z.cells.toList&&(!τ.isAgg||Ua z)&&(τ.isAgg||QG z)
theorem jM{P:Program}{i:TypeId}{τ:Ty}(h:uB P i τ=true):Info P i τ:=by
 unfold uB at h;split at h
 ·cases h
 ·rename_i inf hi;simp only[and_eq_true,decide_eq_true_eq]at h;obtain⟨⟨h1,hb⟩,h2⟩:=h;split at h2
  ·cases h2
  ·rename_i z hz;simp only[and_eq_true]at h2;refine⟨inf,z,hi,h1,hz,pI _ _ h2.1.1,fun ha=>?_,fun ha=>?_,hb⟩
   ·have:=h2.1.2;rw[ha]at this;cases z<;>simp[Ua]at this;exact⟨_,rfl⟩
   ·have:=h2.2;rw[ha]at this;exact Bn (by simpa using this)
mutual
def Jw(P:Program):Ty->TypeId->Bool
 | .int k,i=>(match P.underlying i with|some (.int k')=>decide (k=k')|_=>false)&&uB P i (.int k)
 | .bool,i=>(match P.underlying i with|some .bool=>true|_=>false)&&uB P i .bool
 | .str,i=>(match P.underlying i with|some .string=>true|_=>false)&&uB P i .str
 | .arr n t,i=>match P.underlying i with
  |some (.array n' e)=>decide (n=n')&&Jw P t e&&uB P i (.arr n t)&&(!t.cmp|| !(P.eqGuardType P.depth i))
  |_=>false
 | .sl t,i=>match P.underlying i with
  |some (.slice e)=>Jw P t e&&uB P i (.sl t)
  |_=>false
 | .unit,i=>match P.underlying i with
  |some (.struct fs)=>fs.toList.isEmpty&&uB P i .unit&& !(P.stoodInHeld i)
  |_=>false
 | .pair a b,i=>match P.underlying i with
  |some (.struct fs)=>(match fs.toList with
   |f::r=>decide (f.offset=0)&&decide (a.size≠0)&&decide (f.name≠ "_")&&Jw P a f.type&&mr P b r (0+a.size)
   |[]=>false)&&uB P i (.pair a b)&& !(P.stoodInHeld i)&&(!(a.cmp&&b.cmp)|| !(P.eqGuardType P.depth i))
  |_=>false
 | .opq,i=>(match P.underlying i with|some d=>Fb d|none=>false)&&uB P i .opq
def mr(P:Program):Ty->List Field->Nat->Bool
 | .unit,fs,_=>fs.isEmpty
 | .pair a b,fs,off=>match fs with
  |f::r=>decide (f.offset=off)&&decide (a.size≠0)&&decide (f.name≠ "_")&&Jw P a f.type&&mr P b r (off+a.size)
  |[]=>false
 |_,_,_=>false
end
mutual
theorem oG{P:Program}:∀(τ:Ty)(i:TypeId),Jw P τ i=true->jo P τ i
 | .int k,i,h=>by simp only[Jw,and_eq_true]at h;refine⟨?_,jM h.2⟩;grind
 | .bool,i,h=>by simp only[Jw,and_eq_true]at h;refine⟨?_,jM h.2⟩;grind
 | .str,i,h=>by simp only[Jw,and_eq_true]at h;refine⟨?_,jM h.2⟩;grind
 | .arr n t,i,h=>by
  simp only[Jw]at h;split at h
  ·rename_i n' e hu;simp only[and_eq_true,decide_eq_true_eq,Bool.or_eq_true,Bool.not_eq_true']at h;exact⟨e,by rw[hu,h.1.1.1],oG t e h.1.1.2,jM h.1.2,fun hc=>h.2.resolve_left (by rw[hc];simp)⟩
  ·cases h
 | .sl t,i,h=>by
  simp only[Jw]at h;split at h
  ·rename_i e hu;simp only[and_eq_true]at h;exact⟨e,hu,oG t e h.1,jM h.2⟩
  ·cases h
 | .unit,i,h=>by
  simp only[Jw]at h;split at h
  ·rename_i fs hu;simp only[and_eq_true,Bool.not_eq_true',isEmpty_iff]at h;refine⟨?_,jM h.1.2,h.2⟩;simp_all
  ·cases h
 | .pair a b,i,h=>by
  simp only[Jw]at h;split at h
  ·rename_i fs hu;simp only[and_eq_true,Bool.or_eq_true,Bool.not_eq_true']at h;refine⟨fs,hu,?_,jM h.1.1.2,h.1.2,fun hc=>h.2.resolve_left (by simp only[and_eq_true]at hc;rw[hc.1,hc.2];simp)⟩;have h1:=h.1.1.1;split at h1
   ·rename_i f r hf;simp only[and_eq_true,decide_eq_true_eq]at h1;exact⟨f,r,hf,h1.1.1.1.1,h1.1.1.1.2,h1.1.1.2,oG a _ h1.1.2,uy b _ _ h1.2⟩
   ·cases h1
  ·cases h
 | .opq,i,h=>by
  simp only[Jw,and_eq_true]at h;have h1:=h.1;split at h1
  ·rename_i d hu;exact⟨d,hu,h1,jM h.2⟩
  ·cases h1
theorem uy{P:Program}:∀(τ:Ty)(fs:List Field)(off:Nat),mr P τ fs off=true->dh P τ fs off
 | .unit,fs,off,h=>by simp only[mr,isEmpty_iff]at h;exact h
 | .pair a b,fs,off,h=>by
  simp only[mr]at h;split at h
  ·rename_i f r;simp only[and_eq_true,decide_eq_true_eq]at h;exact⟨f,r,rfl,h.1.1.1.1,h.1.1.1.2,h.1.1.2,oG a _ h.1.2,uy b _ _ h.2⟩
  ·cases h
 | .int _,_,_,h=>by simp[mr]at h
 | .bool,_,_,h=>by simp[mr]at h
 | .str,_,_,h=>by simp[mr]at h
 | .arr _ _,_,_,h=>by simp[mr]at h
 | .sl _,_,_,h=>by simp[mr]at h
 | .opq,_,_,h=>by simp[mr]at h
end
def Fz(P:Program)(l:List (Nat×Ty)):Bool:=l.all fun x=>Jw P x.2 x.1
theorem sW{β:Type}:∀{l:List (Nat×β)}{i:Nat}{b:β},look l i=some b->(i,b)∈l
 |(j,c)::l,i,b,h=>by
  simp only[look]at h;split at h
  ·simp_all
  ·exact mem_cons_of_mem _ (sW h)
theorem HI{P:Program}{l:List (Nat×Ty)}(h:Fz P l=true):∀i τ,look l i=some τ->jo P τ i:=fun i τ hl=>by have:=List.all_eq_true.1 h _ (sW hl);exact oG τ i this
section
variable {H:Type}{enc:TypeId×Value->H}{P:Program}
theorem Dy{α β:Type}{f:α->Option β}:∀{l:List α}{m:List β},l.mapM f=some m->df (fun a b=>f a=some b) l m
 |[],m,h=>by simp at h;subst h;trivial
 |a::l,m,h=>by rw[List.mapM_cons]at h;obtain⟨b,h1,h2⟩:=Option.bind_eq_some_iff.1 h;obtain⟨r,h3,h4⟩:=Option.bind_eq_some_iff.1 h2;cases h4;exact⟨h1,Dy h3⟩
theorem jQ{i:TypeId}{τ:Ty}(h:Info P i τ):P.cellsOf i=τ.size:=by obtain⟨inf,z,h1,h2,_⟩:=h;simp[Program.cellsOf,h1,h2]
theorem Ie{w:World}{base:Nat}{a:Addr}{n:Nat}{cs:List Value}(h:w.cells? base a n=some cs):cs.length=n/\∀j v,cs[j]? =some v->w.cell? (a.add j)=some v:=by
 unfold World.cells? at h;split at h
 ·have h2:=Dy h;have hl:=h2.length;simp at hl;refine⟨hl.symm,fun j v hj=>?_⟩;have hjl:j<cs.length:=by
   grind
  obtain⟨hm,hr⟩:=h2.get j (by simpa[hl]using hjl);grind
 ·cases h
theorem sw{α β:Type}{R:α->β->Prop}:∀{m:List β},(∀b∈m,∃a,R a b)->∃l,df R l m
 |[],_=>⟨[],trivial⟩
 |b::m,h=>by obtain⟨a,ha⟩:=h b (by simp);obtain⟨l,hl⟩:=sw (m:=m) fun b hb=>h b (mem_cons_of_mem _ hb);exact⟨a::l,ha,hl⟩
theorem BA{w:World}{a:Addr}{v:Value}(h:w.cell? a=some v):a.spot=none/\a.block<w.heap.size:=by
 unfold World.cell? at h;split at h
 ·rename_i hb;have hlt:=(Array.getElem?_eq_some_iff.1 hb).1;simp_all
 ·cases h
def mj(w:World):Env:=⟨w,fun b _=>b<w.heap.size⟩
theorem za{n:Nat}:∀(k:Nat)(cs:List Value),cs.length=k*n->((range k).map fun i=>(cs.drop (i*n)).take n).flatten=cs
 |0,cs,h=>by simp at h;simp[h]
 |k+1,cs,h=>by
  rw[List.range_succ_eq_map];simp only[List.map_cons,List.map_map,List.flatten_cons,Nat.zero_mul,List.drop_zero];have h1:(cs.drop n).length=k*n:=by simp[h,Nat.add_mul]
  have ih:=za k (cs.drop n) h1;have e:((range k).map ((fun i=>(cs.drop (i*n)).take n)∘Nat.succ))=(range k).map fun i=>((cs.drop n).drop (i*n)).take n:=by apply List.map_congr_left;intro i _;simp only[Function.comp_apply,List.drop_drop,Nat.succ_eq_add_one,Nat.add_mul,Nat.one_mul];rw[Nat.add_comm]
  rw[e,ih,take_append_drop]
def Ty.full:Ty->Bool
 | .arr _ t=>t.full| .sl t=>t.size !=0&&t.full| .pair a b=>a.full&&b.full| .opq=>false|_=>true
def Fit(K:Ty->Nat->Prop):(t:Ty)->t.den->Prop
 | .int k,n=>pq k n=true
 | .bool,_=>True
 | .str,l=>K (.int .u8) (l:List Int).length/\(l:List Int).length<=maxLen/\∀b∈(l:List Int),0<=b/\b<256
 | .arr n t,l=>(l:List t.den).length=n/\∀x∈(l:List t.den),Fit K t x
 | .sl t,l=>K t (l:List t.den).length/\(l:List t.den).length<=maxLen/\∀x∈(l:List t.den),Fit K t x
 | .unit,_=>True
 | .pair a b,x=>Fit K a x.1/\Fit K b x.2
 | .opq,_=>False
structure Small(H:Type)(P:Program)(Q:TypeId->DataW H->Prop)(K:Ty->Nat->Prop):Prop where
 nil:∀τ,K τ 0
 str:∀t l,Q t (.lit (.string l))->K (.int .u8) l.length
 Vp:∀t e el sp τ,P.underlying t=some (.slice e)->Info P e τ->Q t (.slice el sp)->K τ el.length/\∀d∈el,Q e d
 fld:∀t fs ps,P.underlying t=some (.struct fs)->Q t (.agg ps)->∀(i:Nat) f d,fs[i]? =some f->ps[i]? =some d->Q f.type d
 arr:∀t n e ps,P.underlying t=some (.array n e)->Q t (.agg ps)->∀d∈ps,Q e d
theorem Ak{α β γ:Type}{R:α->β->Prop}{f:γ->β}:∀{l:List α}{m:List γ},df (fun a c=>R a (f c)) l m->df R l (m.map f)
 |[],[],_=>trivial
 |_::_,_::_,h=>⟨h.1,Ak h.2⟩
theorem xp{α β:Type}{R:α->β->Prop}{p:α->Prop}:∀{l:List α}{m:List β},df R l m->(∀a b,b∈m->R a b->p a)->∀a∈l,p a
 |[],[],_,_,_,h=>by cases h
 |x::l,y::m,h,g,a,ha=>by
  rcases List.mem_cons.1 ha with rfl|ha
  ·exact g _ y (by simp) h.1
  ·exact xp h.2 (fun a b hb=>g a b (mem_cons_of_mem _ hb)) a ha
variable {Q:TypeId->DataW H->Prop}{K:Ty->Nat->Prop}
mutual
theorem mw(hQ:Small H P Q K){w:World}{spare:Nat->Bool}{held:Bool}:∀(τ:Ty)(t:TypeId)(fuel:Nat)(cs:List Value)(y:DataW H×List MemPlace),jo P τ t->τ.full=true->Q t y.1->
  DataW.trod enc P w 0 spare held fuel t cs=some y->∃x:τ.den,an (mj w) τ x cs/\Fit K τ x
 |_,_,0,_,_,_,_,_,h=>by simp[DataW.trod]at h
 | .int k,t,fuel+1,cs,y,ht,_,_,h=>by
  obtain⟨n,rfl,_,hw⟩:=DataW.trod_int ht.1 h;have hw2:pq k n=true:=by simpa[Lit.wf,pq]using hw
  exact⟨n,⟨rfl,hw2⟩,hw2⟩
 | .bool,t,fuel+1,cs,y,ht,_,_,h=>by obtain⟨b,rfl,_⟩:=DataW.trod_bool ht.1 h;exact⟨b,rfl,trivial⟩
 | .str,t,fuel+1,cs,y,ht,_,hq,h=>by
  obtain⟨s,rfl,rfl,hs⟩:=DataW.trod_string ht.1 h;refine⟨bytesOf s,⟨s,rfl,rfl,hs⟩,?_,?_,?_⟩
  ·have:=hQ.str _ _ hq;simpa[bytesOf]using this
  ·simpa[bytesOf]using hs
  ·intro b hb;simp only[bytesOf,mem_map]at hb;obtain⟨c,_,rfl⟩:=hb;have:=c.toNat_lt;omega
 | .arr n τ,t,fuel+1,cs,y,ht,hf,hq,h=>by
  obtain⟨e,hu,hτ,hi,_⟩:=ht;obtain⟨xs,m,hm,rfl,hl,hx,hg⟩:=DataW.trod_array hu h;have hs:P.cellsOf e=τ.size:=jQ hτ.info;have hl2:cs.length=n*τ.size:=by rw[hl,jQ hi];rfl
  rw[hs]at hg;have hcs:=za n cs hl2;obtain⟨l,ha⟩:=sw (R:=fun(x:τ.den) i=>an (mj w) τ x ((cs.drop (i*τ.size)).take τ.size)/\Fit K τ x) (m:=range n) (fun i hi=>by
   have hin:i<n:=by simpa using hi
   have:=hg i hin;rw[getElem?_eq_getElem (by omega)]at this;exact mw hQ τ e m _ _ hτ hf (hQ.arr _ _ _ _ hu hq _ (List.mem_map.2 ⟨_,List.getElem_mem (by omega),rfl⟩)) this)
  have hll:=ha.length;refine⟨l,⟨by simpa using hll,_,hcs.symm,Ak (ha.mono fun a b h=>h.1)⟩,by simpa using hll,xp ha fun a b _ h=>h.2⟩
 | .sl τ,t,fuel+1,cs,y,ht,hf,hq,h=>by
  obtain⟨e,hu,hτ,hi⟩:=ht;simp only[Ty.full,and_eq_true,bne_iff_ne]at hf;have hz:0<τ.size:=Nat.pos_of_ne_zero (fun h0=>by rw[h0]at hf;simp at hf);have hs:P.cellsOf e=τ.size:=jQ hτ.info;rcases Go.Deep.open_slice hu h with ⟨rfl,_⟩|⟨a,len,cap,m,n,D,Pl,rfl,_,hlc,hcap,hm,rfl,hg⟩
  ·exact⟨[],.inl ⟨rfl,rfl⟩,hQ.nil _,by simp,by simp⟩
  ·have hml:len<=m:=by rw[hm];split<;>omega
   rw[hs]at hg;obtain⟨hk,hqe⟩:=hQ.Vp _ _ _ _ _ hu hτ.info hq;have key:∀i,∃cs',i<len->w.cells? 0 (a.add (i*τ.size)) τ.size=some cs'/\∃x:τ.den,an (mj w) τ x cs'/\Fit K τ x:=fun i=>by
    by_cases hi:i<len
    ·obtain⟨cs',h1,h2⟩:=hg i (by omega);exact⟨cs',fun _=>⟨h1,mw hQ τ e n cs' _ hτ hf.2 (hqe _ (List.mem_map.2 ⟨i,by simpa using hi,rfl⟩)) h2⟩⟩
    ·exact⟨[],fun h=>absurd h hi⟩
   obtain⟨f,hfk⟩:=Classical.axiomOfChoice key;obtain⟨l,ha0⟩:=sw (R:=fun(x:τ.den) i=>an (mj w) τ x (f i)/\Fit K τ x) (m:=range len) (fun i hi=>(hfk i (by simpa using hi)).2);have hll2:l.length=len:=by simpa using ha0.length
   have ha:df (an (mj w) τ) l ((range len).map f):=Ak (ha0.mono fun a b h=>h.1);have hcell:∀i,i<len->∀j,j<τ.size->∃v,(f i)[j]? =some v/\w.cell? ((a.add (i*τ.size)).add j)=some v:=fun i hi j hj=>by obtain⟨h1,h2⟩:=Ie (hfk i hi).1;simp_all
   have hlen:((range len).map f).flatten.length=len*τ.size:=by rw[df.dX (fun a cs h=>an.length τ a cs h) ha,hll2]
   have hspot:a.spot=none\/l=[]:=by
    rcases Nat.eq_zero_or_pos len with h0|h0
    ·grind
    ·left;obtain⟨v,_,hv⟩:=hcell 0 h0 0 hz;simpa[Addr.add]using(BA hv).1
   refine⟨l,.inr ⟨a,cap,(range len).map f,by rw[hll2],hspot,by omega,hcap,ha,?_,fun j v hj=>?_⟩,by rw[hll2];simpa using hk,by omega,xp ha0 fun a b _ h=>h.2⟩
   ·rcases Nat.eq_zero_or_pos len with h0|h0
    ·grind
    ·right;obtain⟨v,_,hv⟩:=hcell 0 h0 0 hz;exact⟨_,le_refl _,by simpa[Addr.add,mj]using(BA hv).2⟩
   ·have hjl:j<len*τ.size:=by
     rw[<-hlen];rcases Nat.lt_or_ge j ((range len).map f).flatten.length with h'|h'
     ·exact h'
     ·rw[List.getElem?_eq_none h']at hj;cases hj
    have hid:j/τ.size<len:=Nat.div_lt_of_lt_mul (by rw[Nat.mul_comm];exact hjl);have hjm:j%τ.size<τ.size:=Nat.mod_lt _ hz;obtain⟨u,hu1,hu2⟩:=hcell _ hid _ hjm;have hidx:((range len).map f)[j/τ.size]? =some (f (j/τ.size)):=by simp[hid]
    have:=fH (fun a cs h=>an.length τ a cs h) ha _ _ hidx _ _ hu1;rw[Nat.mul_comm,Nat.div_add_mod]at this;rw[hj]at this;have hsp:a.spot=none:=hspot.resolve_right (fun h=>by
     rw[h]at hll2;simp only[List.length_nil]at hll2;rw[<-hll2]at hid;exact absurd hid (Nat.not_lt_zero _))
    rw[add_plain a _ hsp,add_plain _ _ rfl]at hu2;rw[Option.some.inj this,<-hu2];show w.cell? _=_;congr 2;have:=Nat.div_add_mod j τ.size;rw[Nat.mul_comm]at this;simp only;omega
 | .unit,t,fuel+1,cs,y,ht,hf,_,h=>by refine⟨(),?_,trivial⟩;obtain⟨xs,m,hm,rfl,hl,_⟩:=DataW.trod_struct ht.1 h;rw[jQ ht.2.1]at hl;exact List.eq_nil_of_length_eq_zero hl
 | .pair a b,t,fuel+1,cs,y,ht,hf,hq,h=>by
  obtain⟨fs,hu,⟨f,r,hfs,ho,hz,hn,hfa,hfr⟩,hi,_⟩:=ht;simp only[Ty.full,and_eq_true]at hf;obtain⟨xs,m,hm,rfl,hl,hx,hg⟩:=DataW.trod_struct hu h;rw[jQ hi]at hl;simp only[Ty.size]at hl;have hall:∀g∈f::r,∃y:DataW H×List MemPlace,Q g.type y.1/\DataW.trod enc P w 0 spare held m g.type ((cs.drop g.offset).take (P.cellsOf g.type))=some y:=fun g hgm=>by
   rw[<-hfs]at hgm;obtain⟨i,hi,rfl⟩:=List.getElem_of_mem hgm;have hi2:i<fs.size:=by simpa using hi
   have hg2:=hg i _ (Array.getElem?_eq_getElem hi2);rw[getElem?_eq_getElem (by omega)]at hg2;refine⟨xs[i],?_,by simpa using hg2⟩;have:=hQ.fld _ _ _ hu hq i fs[i] xs[i].1 (Array.getElem?_eq_getElem hi2) (by simp[getElem?_eq_getElem (show i<xs.length by omega)]);simpa using this
  obtain⟨y1,q1,h1⟩:=hall f (by simp);rw[ho,jQ hfa.info]at h1;obtain⟨x1,hx1,ht1⟩:=mw hQ a f.type m _ _ hfa hf.1 q1 h1;obtain⟨x2,hx2,ht2⟩:=sM hQ b r (0+a.size) m cs hfr hf.2 (fun g hg=>hall g (mem_cons_of_mem _ hg)) (by omega);exact⟨(x1,x2),⟨cs.take a.size,cs.drop a.size,(take_append_drop _ _).symm,by simpa using hx1,by simpa using hx2⟩,ht1,ht2⟩
 | .opq,t,fuel+1,cs,y,_,hf,_,h=>by simp[Ty.full]at hf
theorem sM(hQ:Small H P Q K){w:World}{spare:Nat->Bool}{held:Bool}:∀(τ:Ty)(fs:List Field)(off m:Nat)(cs:List Value),dh P τ fs off->τ.full=true->
  (∀g∈fs,∃y:DataW H×List MemPlace,Q g.type y.1/\DataW.trod enc P w 0 spare held m g.type ((cs.drop g.offset).take (P.cellsOf g.type))=some y)->cs.length=off+τ.size->
  ∃x:τ.den,an (mj w) τ x (cs.drop off)/\Fit K τ x
 | .unit,fs,off,m,cs,hfo,_,_,hl=>⟨(),by
   simp only[an,Ty.size]at hl⊢;exact List.eq_nil_of_length_eq_zero (by simp;omega),trivial⟩
 | .pair a b,fs,off,m,cs,hfo,hf,hall,hl=>by obtain⟨f,r,rfl,ho,hz,hn,hfa,hfr⟩:=hfo;simp only[Ty.full,and_eq_true]at hf;simp only[Ty.size]at hl;obtain⟨y1,q1,h1⟩:=hall f (by simp);rw[ho,jQ hfa.info]at h1;obtain⟨x1,hx1,ht1⟩:=mw hQ a f.type m _ _ hfa hf.1 q1 h1;obtain⟨x2,hx2,ht2⟩:=sM hQ b r (off+a.size) m cs hfr hf.2 (fun g hg=>hall g (mem_cons_of_mem _ hg)) (by omega);exact⟨(x1,x2),⟨(cs.drop off).take a.size,(cs.drop off).drop a.size,(take_append_drop _ _).symm,hx1,by simpa using hx2⟩,ht1,ht2⟩
 | .int _,_,_,_,_,hf,_,_,_=>hf.elim
 | .bool,_,_,_,_,hf,_,_,_=>hf.elim
 | .str,_,_,_,_,hf,_,_,_=>hf.elim
 | .arr _ _,_,_,_,_,hf,_,_,_=>hf.elim
 | .sl _,_,_,_,_,hf,_,_,_=>hf.elim
 | .opq,_,_,_,_,hf,_,_,_=>hf.elim
end
end
def rm(τ:Ty)(n:Nat):Prop:=n*τ.bytes<=reachBytes
section
variable {H:Type}{enc:TypeId×Value->H}{P:Program}
def RG(H:Type)(P:Program)(t:TypeId)(d:DataW H):Prop:=∀n∈d.weights P t,n<=reachBytes
theorem tC{e:TypeId}:∀{l:List (DataW H)}{d:DataW H},d∈l->∀n∈d.weights P e,n∈DataW.weightsAll P e l
 |x::l,d,h,n,hn=>by
  simp only[DataW.weightsAll,List.mem_append];rcases List.mem_cons.1 h with rfl|h
  ·exact .inl hn
  ·exact .inr (tC h n hn)
theorem HC:Small H P (RG H P) rm where
 nil:=fun τ=>by simp[rm]
 str:=fun t l h=>by have:=h l.length (by simp[DataW.weights]);simpa[rm,Ty.bytes,IntKind.bits]using this
 Vp:=fun t e el sp τ hu hi h=>by
  obtain⟨inf,z,h1,h2,h3,h4,h5,h6⟩:=hi;have hb:P.bytesOf e=τ.bytes:=by simp[Program.bytesOf,h1,h6]
  constructor
  ·have:=h _ (by simp only[DataW.weights,hu];exact List.mem_cons_self);rw[hb,Nat.add_mul]at this;unfold rm;omega
  ·intro d hd n hn;exact h n (by simp only[DataW.weights,hu];exact mem_cons_of_mem _ (List.mem_append_left _ (tC hd n hn)))
 fld:=fun t fs ps hu h i f d hf hd n hn=>h n (by
  simp only[DataW.weights,hu];exact DataW.weights_mem_each (j:=i) (t:=f.type) (by simp[hf]) hd n hn)
 arr:=fun t m e ps hu h d hd n hn=>h n (by simp only[DataW.weights,hu];exact tC hd n hn)
def Eu(P:Program):Ty->List TypeId->Prop
 | .unit,[]=>True
 | .pair a b,t::ts=>jo P a t/\a.full=true/\Eu P b ts
 |_,_=>False
def ml(P:Program):Ty->List TypeId->Bool
 | .unit,ts=>ts.isEmpty
 | .pair a b,ts=>match ts with
  |t::ts=>Jw P a t&&a.full&&ml P b ts
  |[]=>false
 |_,_=>false
theorem uu:∀{τ:Ty}{ts:List TypeId},ml P τ ts=true->Eu P τ ts
 | .unit,ts,h=>by simp only[ml,isEmpty_iff]at h;subst h;trivial
 | .pair a b,ts,h=>by
  cases ts with
  |nil=>simp[ml]at h
  |cons t ts=>simp only[ml,and_eq_true]at h;exact⟨oG a t h.1.1,h.1.2,uu h.2⟩
 | .int _,_,h=>by simp[ml]at h
 | .bool,_,h=>by simp[ml]at h
 | .str,_,h=>by simp[ml]at h
 | .arr _ _,_,h=>by simp[ml]at h
 | .sl _,_,h=>by simp[ml]at h
 | .opq,_,h=>by simp[ml]at h
theorem H3{E:Env}{w:World}{r:Reach}{base:Nat}{τ:Ty}{t:TypeId}{x:τ.den}{v:Value}(ht:jo P τ t)(ho:Value.okWide P w r base t v)(h:an E τ x v.cells.toList):i5 E τ x v:=by
 unfold Value.okWide at ho;cases τ with
 |int k=>rw[ht.1]at ho;simp only[Cell.okWide,ht.1]at ho;cases v<;>simp[Cell.ok,ht.1]at ho;simpa[i5,Ty.isAgg,Value.cells]using h
 |bool=>rw[ht.1]at ho;simp only[Cell.okWide,ht.1]at ho;cases v<;>simp[Cell.ok,ht.1]at ho;simpa[i5,Ty.isAgg,Value.cells]using h
 |str=>rw[ht.1]at ho;simp only[Cell.okWide,ht.1]at ho;cases v<;>simp[Cell.ok,ht.1]at ho;simpa[i5,Ty.isAgg,Value.cells]using h
 |arr n τ=>obtain⟨e,hu,_⟩:=ht;rw[hu]at ho;obtain⟨cs,rfl,_⟩:=ho;exact⟨cs,rfl,by simpa[Value.cells]using h⟩
 |sl τ=>obtain⟨e,hu,_⟩:=ht;rw[hu]at ho;simp only[Cell.okWide,hu]at ho;cases v<;>simp[Cell.ok,hu]at ho;simpa[i5,Ty.isAgg,Value.cells]using h
 |unit=>rw[ht.1]at ho;obtain⟨cs,rfl,_⟩:=ho;exact⟨cs,rfl,by simpa[Value.cells]using h⟩
 |pair a b=>obtain⟨fs,hu,_⟩:=ht;rw[hu]at ho;obtain⟨cs,rfl,_⟩:=ho;exact⟨cs,rfl,by simpa[Value.cells]using h⟩
 |opq=>cases v<;>simp[an]at h
theorem vR{Q:TypeId->DataW H->Prop}{K:Ty->Nat->Prop}(hQ:Small H P Q K){w w2:World}{r:Reach}{base:Nat}{spare:Nat->Bool}{held:Bool}:
  ∀(ps:Ty)(ts:List TypeId)(vs:List Value)(ds:List (DataW H))(p:List MemPlace),Eu P ps ts->DataW.TrodAll enc P w 0 spare held ts vs ds p->
  (∀(j:Nat) t v,ts[j]? =some t->vs[j]? =some v->Value.okWide P w2 r base t v)->(∀(j:Nat) t d,ts[j]? =some t->ds[j]? =some d->Q t d)->∃x:ps.den,iC (mj w) ps x vs/\Fit K ps x
 | .unit,[],[],[],_,_,_,_,_=>⟨(),rfl,trivial⟩
 | .unit,[],_::_,_,_,_,h,_,_=>by simp[DataW.TrodAll]at h
 | .unit,[],[],_::_,_,_,h,_,_=>by simp[DataW.TrodAll]at h
 | .unit,_::_,_,_,_,ht,_,_,_=>ht.elim
 | .pair a b,[],_,_,_,ht,_,_,_=>ht.elim
 | .pair a b,t::ts,[],_,_,_,h,_,_=>by simp[DataW.TrodAll]at h
 | .pair a b,t::ts,_::_,[],_,_,h,_,_=>by simp[DataW.TrodAll]at h
 | .pair a b,t::ts,v::vs,d::ds,_,⟨h1,h2,h3⟩,⟨p,q,⟨fuel,hd⟩,hr,_⟩,ho,hq=>by obtain⟨x,hx,hf⟩:=mw hQ a t fuel _ _ h1 h2 (hq 0 t d rfl rfl) hd;obtain⟨y,hy,hg⟩:=vR hQ b ts vs ds q h3 hr (fun j t v h1 h2=>ho (j+1) t v (by simpa using h1) (by simpa using h2)) (fun j t d h1 h2=>hq (j+1) t d (by simpa using h1) (by simpa using h2));exact⟨(x,y),⟨v,vs,rfl,H3 h1 (ho 0 t v rfl rfl) hx,hy⟩,hf,hg⟩
 | .int _,_,_,_,_,ht,_,_,_=>by cases ‹List TypeId›<;>exact ht.elim
 | .bool,_,_,_,_,ht,_,_,_=>by cases ‹List TypeId›<;>exact ht.elim
 | .str,_,_,_,_,ht,_,_,_=>by cases ‹List TypeId›<;>exact ht.elim
 | .arr _ _,_,_,_,_,ht,_,_,_=>by cases ‹List TypeId›<;>exact ht.elim
 | .sl _,_,_,_,_,ht,_,_,_=>by cases ‹List TypeId›<;>exact ht.elim
 | .opq,_,_,_,_,ht,_,_,_=>by cases ‹List TypeId›<;>exact ht.elim
theorem uV(hl:laidOutB P=true){W W':World}(hb:Below W.heap.size W W'):∀(ts:List TypeId)(vs:List Value)(ds:List (DataW H))(p:List MemPlace),(∀t∈ts,P.readableRec t=true/\t<P.types.size)->
  DataW.TrodAll enc P W 0 (fun _=>true) true ts vs ds p->DataW.TrodAll enc P W' 0 (fun b=>decide (b<W.heap.size)) true ts vs ds p
 |[],[],[],_,_,h=>h
 |[],_::_,_,_,_,h=>by simp[DataW.TrodAll]at h
 |[],[],_::_,_,_,h=>by simp[DataW.TrodAll]at h
 |_::_,[],_,_,_,h=>by simp[DataW.TrodAll]at h
 |_::_,_::_,[],_,_,h=>by simp[DataW.TrodAll]at h
 |t::ts,v::vs,d::ds,_,ht,h=>by have hlt:=h.lt;obtain⟨p,q,hd,hr,rfl⟩:=h;exact⟨p,q,Below.trod hl (ht t (by simp)).1 (ht t (by simp)).2 hd hb (fun x hx=>hlt x (List.mem_append_left _ hx)),uV hl hb ts vs ds q (fun t h=>ht t (mem_cons_of_mem _ h)) hr,rfl⟩
def RP(P:Program)(ts:List TypeId):Bool:=laidOutB P&&ts.all fun t=>P.readableRec t&&decide (t<P.types.size)
theorem II{Q:TypeId->DataW H->Prop}{K:Ty->Nat->Prop}(hQ:Small H P Q K){f:FuncId}{fn:Func}{ps:Ty}{run:ps.den->Option Bool}{s:ChangeSpec}{tb:TypeId}{n:Nat}(hcon:MI P f ⟨ps,.bool,false,run⟩)
  (hts:Eu P ps fn.params.toList) (hn:fn.params.toList.length=n) (hres:fn.resultTypes.toList=[tb]) (hb:P.underlying tb=some .bool) (hread:RP P fn.params.toList=true) (hvars:s.vars=[])
  (hfn:∀ds:List (DataW H),ds.length=n->s.fn H ds={results:=[.lit (.bool true)],args:=ds}) (law:∀x,Fit K ps x->run x=some true)
  {W w2:World} {r:Reach} {base:Nat} {args:Array Value} {ds gs:List (DataW H)} {before:List MemPlace} (hgl:sf (mj W))
  (hval:∀(j:Nat) t v,fn.params[j]? =some t->args[j]? =some v->Value.okWide P w2 r base t v)
  (hW:DataW.Whole enc P fn.params.toList s.vars false W args.toList ds gs before) (hq:∀(j:Nat) t d,fn.params.toList[j]? =some t->ds[j]? =some d->Q t d):
  Calls P f args W fun e W'=>∃v,e= .returned v/\s.post enc P fn false true false false W args v W':=by
 have hW0:=hW;obtain⟨p,q,hA,hV,hpq,_,_⟩:=hW;rw[hvars]at hV;have hgs:gs=[]/\q=[]:=by
  cases gs with
  |nil=>exact⟨rfl,hV⟩
  |cons _ _=>exact absurd hV (by simp[DataW.TrodVars])
 obtain⟨rfl,rfl⟩:=hgs;obtain⟨x,hx,hfit⟩:=vR hQ ps _ _ _ _ hts hA (w2:=w2) (r:=r) (base:=base) (fun j t v h1 h2=>hval j t v (by simpa using h1) (by simpa using h2)) hq;simp only[RP,and_eq_true,all_eq_true,decide_eq_true_eq]at hread;refine(hcon W (fun b _=>b<W.heap.size) x true args ⟨fun b m h=>h,hgl⟩ (law x hfit) hx).mono fun e W' ⟨v,he,hbel,hv⟩=>?_;subst he;have hvb:v= .bool true:=by simp only[rK,i5,Ty.isAgg,an,List.cons.injEq,and_true]at hv;exact hv
 subst hvb;have hlen:ds.length=n:=by
  rw[<-hn];have:∀{ts:List TypeId}{vs:List Value}{ds:List (DataW H)}{p:List MemPlace},DataW.TrodAll enc P W 0 (fun _=>true) true ts vs ds p->ds.length=ts.length:=by
   intro ts;induction ts with
   |nil=>intro vs ds p h;cases vs<;>cases ds<;>simp_all[DataW.TrodAll]
   |cons t ts ih=>intro vs ds p h;cases vs<;>cases ds<;>simp[DataW.TrodAll]at h⊢;obtain⟨_,_,_,h,_⟩:=h;exact ih h
  exact this hA
 have hres2:fn.resultTypes.size=1:=by rw[<-Array.length_toList,hres];rfl
 refine⟨_,rfl,ds,[],before,[],p,[],hW0,?_,?_,?_,hbel.frame _,fun h=>by cases h⟩
 ·rw[hres,hres2,append_nil,hfn ds hlen];exact⟨[],[],⟨1,by simp[DataW.trod,hb,Value.cells]⟩,rfl,rfl⟩
 ·rw[append_nil,hfn ds hlen];exact uV hread.1 hbel _ _ _ _ (fun t ht=>by simpa using hread.2 t ht) hA
 ·rw[append_nil,hfn ds hlen,hvars];rfl
theorem OB{ts vs:List TypeId}{ds gs:List (DataW H)}(h:(DataW.weightsEach P (ts++vs) (ds++gs)).all (· <=reachBytes)=true):∀(j:Nat) t d,ts[j]? =some t->ds[j]? =some d->RG H P t d:=fun j t d h1 h2 n hn=>by
 have l1:j<ts.length:=by grind
 have l2:j<ds.length:=by grind
 have:=List.all_eq_true.1 h n (DataW.weights_mem_each (j:=j) (t:=t) (d:=d) (by rw[List.getElem?_append_left l1];exact h1) (by rw[List.getElem?_append_left l2];exact h2) n hn);simpa using this
end
def Nd:List Step->List Step->Bool
 |[],[]=>true
 | .idx i::p,.idx j::q=>decide (i=j)&&Nd p q
 | .fld i::p,.fld j::q=>beq i j&&Nd p q
 |_,_=>false
theorem Ip:∀{p q:List Step},Nd p q=true->p=q
 |[],[],_=>rfl
 | .idx i::p,.idx j::q,h=>by simp only[Nd,and_eq_true,decide_eq_true_eq]at h;rw[h.1,Ip h.2]
 | .fld i::p,.fld j::q,h=>by simp only[Nd,and_eq_true]at h;rw[eq_of_beq_eq_true h.1,Ip h.2]
 |[],_::_,h=>by simp[Nd]at h
 | .idx _::_,[],h=>by simp[Nd]at h
 | .fld _::_,[],h=>by simp[Nd]at h
 | .idx _::_,.fld _::_,h=>by simp[Nd]at h
 | .fld _::_,.idx _::_,h=>by simp[Nd]at h
def both(a b:Option (List V)):Option (List V):=match a with
 |some l=>match b with
  |some m=>some (l++m)
  |none=>none
 |none=>none
theorem jb{a b:Option (List V)}{l:List V}(h:both a b=some l):∃x y,a=some x/\b=some y/\l=x++y:=by unfold both at h;grind
def Cx(c:Bool)(l:List V):Option (List V):=match c with
 |true=>some l
 |false=>none
theorem kY{c:Bool}{l m:List V}(h:Cx c l=some m):c=true/\m=l:=by cases c<;>simp[Cx]at h;grind
def xT:List Step->List Step->Option (List V)
 |[],[]=>some []
 | .idx _::p,.idx j::q=>both (some [.data (.int .i64) j]) (xT p q)
 | .fld i::p,.fld j::q=>match beq i j with
  |true=>xT p q
  |false=>none
 |_,_=>none
def Lk:List Step->List V->Option (List Step×List V)
 |[],r=>some ([],r)
 | .idx _::p,.data (.int _) j::r=>match Lk p r with
  |some (q,r')=>some (.idx j::q,r')
  |none=>none
 | .fld i::p,r=>match Lk p r with
  |some (q,r')=>some (.fld i::q,r')
  |none=>none
 |_,_=>none
theorem AJ:∀(p q:List Step)(l r:List V),xT p q=some l->Lk p (l++r)=some (q,r)
 |[],[],l,r,h=>by simp only[xT,Option.some.injEq]at h;subst h;rfl
 | .idx i::p,.idx j::q,l,r,h=>by simp only[xT]at h;obtain⟨x,y,h1,h2,rfl⟩:=jb h;cases h1;simp only[List.cons_append,List.nil_append,Lk];rw[AJ p q y r h2]
 | .fld i::p,.fld j::q,l,r,h=>by
  simp only[xT]at h;split at h
  ·rename_i hb;simp only[Lk];rw[AJ p q l r h,eq_of_beq_eq_true hb]
  ·cases h
 |[],.idx _::_,l,r,h=>by simp[xT]at h
 |[],.fld _::_,l,r,h=>by simp[xT]at h
 | .idx _::_,[],l,r,h=>by simp[xT]at h
 | .fld _::_,[],l,r,h=>by simp[xT]at h
 | .idx _::_,.fld _::_,l,r,h=>by simp[xT]at h
 | .fld _::_,.idx _::_,l,r,h=>by simp[xT]at h
mutual
def pO:V->V->Option (List V)
 | .any,.any=>some []
 | .data t _,.data t' x=>Cx (decide (t'=t)) [.data t' x]
 | .nilp,.nilp=>some []
 | .snil,.snil=>some []
 | .ref i u p,.ref i' u' p'=>match beq i i'&&beq u u' with
  |true=>xT p p'
  |false=>none
 | .iref t _,.iref t' x=>Cx (decide (t'=t)) [.data t' x]
 | .tup l,.tup l'=>rU l l'
 | .fn f a b,.fn f' a' b'=>match beq f f' with
  |true=>both (rU a a') (rU b b')
  |false=>none
 | .full t _,.full t' l=>Cx (decide (t'=t)) [.data (.sl t') l]
 | .app i u,.app i' u'=>Cx (beq i i'&&beq u u') []
 | .view i p t n _ _,.view i' p' t' n' lo hi=>Cx (beq i i'&&Nd p p'&&decide (t'=t)&&beq n n') [.data (.int .i64) lo,.data (.int .i64) hi]
 | .agg t l,.agg t' l'=>match decide (t'=t)with
  |true=>rU l l'
  |false=>none
 | .ifc t v,.ifc t' v'=>match beq t t' with
  |true=>pO v v'
  |false=>none
 | .map i,.map i'=>Cx (beq i i') []
 |_,_=>none
def rU:List V->List V->Option (List V)
 |[],[]=>some []
 |v::l,v'::l'=>both (pO v v') (rU l l')
 |_,_=>none
end
mutual
def AH:V->List V->Option (V×List V)
 | .data _ _,.data t x::r=>some (.data t x,r)
 | .iref _ _,.data t x::r=>some (.iref t x,r)
 | .full _ _,.data (.sl t) x::r=>some (.full t x,r)
 | .view i p t n _ _,.data (.int _) lo:: .data (.int _) hi::r=>some (.view i p t n lo hi,r)
 | .tup l,r=>match Cq l r with
  |some (l',r')=>some (.tup l',r')
  |none=>none
 | .fn f a b,r=>match Cq a r with
  |some (a',r')=>match Cq b r' with
   |some (b',r2)=>some (.fn f a' b',r2)
   |none=>none
  |none=>none
 | .agg t l,r=>match Cq l r with
  |some (l',r')=>some (.agg t l',r')
  |none=>none
 | .ifc t v,r=>match AH v r with
  |some (v',r')=>some (.ifc t v',r')
  |none=>none
 | .any,r=>some (.any,r)
 | .nilp,r=>some (.nilp,r)
 | .snil,r=>some (.snil,r)
 | .ref i u p,r=>match Lk p r with
  |some (q,r')=>some (.ref i u q,r')
  |none=>none
 | .app i u,r=>some (.app i u,r)
 | .map i,r=>some (.map i,r)
 |_,_=>none
def Cq:List V->List V->Option (List V×List V)
 |[],r=>some ([],r)
 |v::l,r=>match AH v r with
  |some (v',r')=>match Cq l r' with
   |some (l',r2)=>some (v'::l',r2)
   |none=>none
  |none=>none
end
mutual
theorem wm:∀(p v:V)(l r:List V),pO p v=some l->AH p (l++r)=some (v,r)
 | .any,v,l,r,h=>by cases v<;>simp[pO]at h;subst h;rfl
 | .nilp,v,l,r,h=>by cases v<;>simp[pO]at h;subst h;rfl
 | .snil,v,l,r,h=>by cases v<;>simp[pO]at h;subst h;rfl
 | .data t x,v,l,r,h=>by cases v<;>simp only[pO,reduceCtorEq]at h;obtain⟨h1,rfl⟩:=kY h;rfl
 | .iref t x,v,l,r,h=>by cases v<;>simp only[pO,reduceCtorEq]at h;obtain⟨h1,rfl⟩:=kY h;rfl
 | .full t x,v,l,r,h=>by cases v<;>simp only[pO,reduceCtorEq]at h;obtain⟨h1,rfl⟩:=kY h;rfl
 | .ref i u p,v,l,r,h=>by
  cases v<;>simp only[pO,reduceCtorEq]at h;split at h
  ·rename_i h1;simp only[and_eq_true]at h1;rw[<-eq_of_beq_eq_true h1.1,<-eq_of_beq_eq_true h1.2];simp only[AH];rw[AJ p _ l r h]
  ·cases h
 | .app i u,v,l,r,h=>by cases v<;>simp only[pO,reduceCtorEq]at h;obtain⟨h1,rfl⟩:=kY h;simp only[and_eq_true]at h1;rw[<-eq_of_beq_eq_true h1.1,<-eq_of_beq_eq_true h1.2];rfl
 | .map i,v,l,r,h=>by cases v<;>simp only[pO,reduceCtorEq]at h;obtain⟨h1,rfl⟩:=kY h;rw[<-eq_of_beq_eq_true h1];rfl
 | .view i p t n lo hi,v,l,r,h=>by cases v<;>simp only[pO,reduceCtorEq]at h;obtain⟨h1,rfl⟩:=kY h;simp only[and_eq_true,decide_eq_true_eq]at h1;rw[<-eq_of_beq_eq_true h1.1.1.1,<-Ip h1.1.1.2,h1.1.2,<-eq_of_beq_eq_true h1.2];rfl
 | .tup a,v,l,r,h=>by cases v<;>simp only[pO,reduceCtorEq]at h;simp only[AH];rw[mu a _ l r h]
 | .agg t a,v,l,r,h=>by
  cases v<;>simp only[pO,reduceCtorEq]at h;split at h
  ·rename_i ht;simp only[AH];rw[mu a _ l r h];grind
  ·cases h
 | .ifc t a,v,l,r,h=>by
  cases v<;>simp only[pO,reduceCtorEq]at h;split at h
  ·rename_i ht;simp only[AH];rw[wm a _ l r h,eq_of_beq_eq_true ht]
  ·cases h
 | .fn f a b,v,l,r,h=>by
  cases v<;>simp only[pO,reduceCtorEq]at h;split at h
  ·rename_i ht;obtain⟨x,y,h1,h2,rfl⟩:=jb h;simp only[AH];rw[List.append_assoc,mu a _ x _ h1];simp only;rw[mu b _ y _ h2,eq_of_beq_eq_true ht]
  ·cases h
 | .opt d w a,v,l,r,h=>by cases v<;>simp only[pO,reduceCtorEq]at h
theorem mu:∀(p v:List V)(l r:List V),rU p v=some l->Cq p (l++r)=some (v,r)
 |[],[],l,r,h=>by simp only[rU,Option.some.injEq]at h;subst h;rfl
 |[],_::_,l,r,h=>by simp[rU]at h
 |_::_,[],l,r,h=>by simp[rU]at h
 |a::p,v::vs,l,r,h=>by simp only[rU]at h;obtain⟨x,y,h1,h2,rfl⟩:=jb h;simp only[Cq];rw[List.append_assoc,wm a v x _ h1];simp only;rw[mu p vs y _ h2]
end
def LW:jX->jX->Option (List V)
 | .cell t v z,.cell t' v' z'=>match decide (t'=t)&&(z==z')with
  |true=>pO v v'
  |false=>none
 | .buf t _ u z,.buf t' l u' z'=>Cx (decide (t'=t)&&beq u u'&&(z==z')) [.data (.sl t') l]
 | .map k v _,.map k' v' l=>Cx (decide (k'=k)&&decide (v'=v)) [.data (.sl (.pair k' v')) l]
 |_,_=>none
def Sk:jX->List V->Option (jX×List V)
 | .cell t v z,r=>match AH v r with
  |some (v',r')=>some (.cell t v' z,r')
  |none=>none
 | .buf _ _ u z,.data (.sl t) l::r=>some (.buf t l u z,r)
 | .map _ _ _,.data (.sl (.pair k v)) l::r=>some (.map k v l,r)
 |_,_=>none
theorem Nf:∀(p v:jX)(l r:List V),LW p v=some l->Sk p (l++r)=some (v,r)
 | .cell t c z,v,l,r,h=>by
  cases v<;>simp only[LW,reduceCtorEq]at h;split at h
  ·rename_i hc;simp only[and_eq_true,decide_eq_true_eq,beq_iff_eq]at hc;simp only[Sk];rw[wm c _ l r h,hc.1,hc.2]
  ·cases h
 | .buf t c u z,v,l,r,h=>by cases v<;>simp only[LW,reduceCtorEq]at h;obtain⟨h1,rfl⟩:=kY h;simp only[and_eq_true,decide_eq_true_eq,beq_iff_eq]at h1;rw[<-eq_of_beq_eq_true h1.1.2,<-h1.2];rfl
 | .map k c u,v,l,r,h=>by cases v<;>simp only[LW,reduceCtorEq]at h;obtain⟨h1,rfl⟩:=kY h;rfl
def uq:aP->aP->Option (List V)
 |[],[]=>some []
 |(i,b)::r,(i',b')::r'=>match beq i i' with
  |true=>both (LW b b') (uq r r')
  |false=>none
 |_,_=>none
def Gb:aP->List V->Option (aP×List V)
 |[],r=>some ([],r)
 |(i,b)::h,r=>match Sk b r with
  |some (b',r')=>match Gb h r' with
   |some (h',r2)=>some ((i,b')::h',r2)
   |none=>none
  |none=>none
theorem oS:∀(p v:aP)(l r:List V),uq p v=some l->Gb p (l++r)=some (v,r)
 |[],[],l,r,h=>by simp only[uq,Option.some.injEq]at h;subst h;rfl
 |[],_::_,l,r,h=>by simp[uq]at h
 |_::_,[],l,r,h=>by simp[uq]at h
 |(i,a)::p,(j,v)::vs,l,r,h=>by
  simp only[uq]at h;split at h
  ·rename_i hi;obtain⟨x,y,h1,h2,rfl⟩:=jb h;simp only[Gb];rw[List.append_assoc,Nf a v x _ h1];simp only;rw[oS p vs y _ h2,eq_of_beq_eq_true hi]
  ·cases h
theorem iW:∀(t:Ty)(l:List V)(x:t.den),getArgs t l=some x->spread t x=l
 | .unit,[],x,h=>rfl
 | .unit,_::_,x,h=>by simp[getArgs]at h
 | .pair a b,[],x,h=>by simp[getArgs]at h
 | .pair a b,v::r,x,h=>by
  cases v with
  |data t y=>
   simp only[getArgs]at h;split at h
   ·cases h
   ·rename_i z hz;split at h
    ·cases h
    ·rename_i w hw;cases h;obtain⟨rfl,rfl⟩:=il hz;simp only[spread];rw[iW b r w hw]
  |_=>simp[getArgs]at h
 | .int _,l,x,h=>by cases l<;>simp[getArgs]at h
 | .bool,l,x,h=>by cases l<;>simp[getArgs]at h
 | .str,l,x,h=>by cases l<;>simp[getArgs]at h
 | .arr _ _,l,x,h=>by cases l<;>simp[getArgs]at h
 | .sl _,l,x,h=>by cases l<;>simp[getArgs]at h
 | .opq,l,x,h=>by cases l<;>simp[getArgs]at h
def hD(t:Ty):V:=.data t t.zero
def hF(t:Ty):V:=.full t []
def hI(t:Ty):V:=.iref t t.zero
def hW(i:Nat)(p:List Step)(t:Ty)(n:Nat):V:=.view i p t n 0 0
def hC(t:Ty)(v:V)(z:Bool):jX:=.cell t v z
def hB(t:Ty)(u:Nat)(z:Bool):jX:=.buf t [] u z
structure Spec where
 pa:List V
 ph:aP
 ps:Ty
 ra:V
 rh:aP
 rs:Ty
 run:ps.den->Option rs.den
def Spec.out(q:Spec)(y:q.rs.den):V×aP:=match AH q.ra (spread q.rs y)with
 |some (v,l)=>match Gb q.rh l with
  |some (h,_)=>(v,h)
  |none=>(.any,[])
 |none=>(.any,[])
def Spec.read(q:Spec)(v:V)(hp:aP):Option q.rs.den:=match both (pO q.ra v) (uq q.rh hp)with
 |some l=>getArgs q.rs l
 |none=>none
def Spec.start(q:Spec)(a:q.ps.den)(n:Nat):St:=match Cq q.pa (spread q.ps a)with
 |some (args,l)=>match Gb q.ph l with
  |some (hp,_)=>pZ (args.map gD) hp n
  |none=>⟨[],[]⟩
 |none=>⟨[],[]⟩
def Spec.h(q:Spec)(args:List V)(hp:aP):Option Sh:=match both (rU q.pa args) (uq q.ph hp)with
 |some l=>match getArgs q.ps l with
  |some a=>some ⟨q.rs.den,q.run a,q.out,fun _ K y=>K (q.out y),fun _ _ _=>rfl⟩
  |none=>none
 |none=>none
theorem Spec.BF{q:Spec}{v:V}{hp:aP}{y:q.rs.den}(h:q.read v hp=some y):q.out y=(v,hp):=by
 unfold Spec.read at h;split at h
 ·rename_i l hl;obtain⟨x,m,h1,h2,rfl⟩:=jb hl;unfold Spec.out;rw[iW _ _ _ h,wm _ _ _ _ h1];simp only;have:=oS _ _ _ [] h2;grind
 ·cases h
structure rZ where
 ra:V
 rh:aP
 rs:Ty
def rZ.out(q:rZ)(y:q.rs.den):V×aP:=match AH q.ra (spread q.rs y)with
 |some (v,l)=>match Gb q.rh l with
  |some (h,_)=>(v,h)
  |none=>(.any,[])
 |none=>(.any,[])
def rZ.read(q:rZ)(v:V)(hp:aP):Option q.rs.den:=match both (pO q.ra v) (uq q.rh hp)with
 |some l=>getArgs q.rs l
 |none=>none
theorem rZ.BF{q:rZ}{v:V}{hp:aP}{y:q.rs.den}(h:q.read v hp=some y):q.out y=(v,hp):=by
 unfold rZ.read at h;split at h
 ·rename_i l hl;obtain⟨x,m,h1,h2,rfl⟩:=jb hl;unfold rZ.out;rw[iW _ _ _ h,wm _ _ _ _ h1];simp only;have:=oS _ _ _ [] h2;grind
 ·cases h
@[reducible] def ue:List rZ->Type
 |[]=>Empty
 |q::r=>q.rs.den⊕ue r
def sx:(l:List rZ)->ue l->V×aP
 |[],y=>y.elim
 |q::r,y=>Sum.elim q.out (sx r) y
def MR(α:Type)(K:V×aP->Option α):(l:List rZ)->ue l->Option α
 |[],y=>y.elim
 |q::r,y=>Sum.elim (fun y=>K (q.out y)) (MR α K r) y
theorem FL(α:Type)(K:V×aP->Option α):∀(l:List rZ)(y:ue l),MR α K l y=K (sx l y)
 |[],y=>y.elim
 |q::r,y=>by
  cases y with
  |inl y=>rfl
  |inr y=>exact FL α K r y
def zK(v:V)(hp:aP):(l:List rZ)->Option (ue l)
 |[]=>none
 |q::r=>match q.read v hp with
  |some y=>some (.inl y)
  |none=>(zK v hp r).map .inr
theorem yr{v:V}{hp:aP}:∀(l:List rZ)(y:ue l),zK v hp l=some y->sx l y=(v,hp)
 |[],y,h=>y.elim
 |q::r,y,h=>by
  simp only[zK]at h;split at h
  ·rename_i y' h';cases h;exact rZ.BF h'
  ·obtain⟨y',h',rfl⟩:=Option.map_eq_some_iff.1 h;exact yr r y' h'
structure oK where
 pa:List V
 ph:aP
 ps:Ty
 alts:List rZ
 run:ps.den->Option (ue alts)
def oK.start(q:oK)(a:q.ps.den)(n:Nat):St:=match Cq q.pa (spread q.ps a)with
 |some (args,l)=>match Gb q.ph l with
  |some (hp,_)=>pZ (args.map gD) hp n
  |none=>⟨[],[]⟩
 |none=>⟨[],[]⟩
def oK.h(q:oK)(args:List V)(hp:aP):Option Sh:=match both (rU q.pa args) (uq q.ph hp)with
 |some l=>match getArgs q.ps l with
  |some a=>some ⟨ue q.alts,q.run a,sx q.alts,fun α K y=>MR α K q.alts y,fun α K y=>FL α K q.alts y⟩
  |none=>none
 |none=>none
def oK.read(q:oK)(v:V)(hp:aP):Option (ue q.alts):=zK v hp q.alts
abbrev sJ{α:Type}(C:Ctx)(Q:Ex->St->Option α):Ex->St->Option α
 | .normal,S=>clean C 2 S (Q .ret)
 | .ret,S=>Q .ret S
 | .exit i,S=>Q (.exit i) S
def wJ(base:Nat):aP->Bool
 |[]=>true
 |(i,b)::r=>(match b with
  | .buf _ _ u _=>beq u 0
  |_=>true)&&blt i base&&wJ base r
theorem wK{base:Nat}:∀{p hp:aP}{l:List V},uq p hp=some l->wJ base p=true->∀i blk,aw hp i=some blk->blt i base=true/\∀t l v z,blk= .buf t l v z->v=0
 |[],[],_,_,_,i,blk,h=>by cases h
 |[],_::_,l,h,_,_,_,_=>by simp[uq]at h
 |_::_,[],l,h,_,_,_,_=>by simp[uq]at h
 |(j,a)::p,(j',b)::hp,l,h,hl,i,blk,hi=>by
  simp only[uq]at h;split at h
  ·rename_i hj;obtain⟨x,y,h1,h2,rfl⟩:=jb h;simp only[wJ,and_eq_true]at hl;simp only[aw,look]at hi;split at hi
   ·rename_i hji;cases hi;have e1:=eq_of_beq_eq_true hj;have e2:=eq_of_beq_eq_true hji;refine⟨by rw[<-e2,<-e1];exact hl.1.2,fun t l v z e=>?_⟩;subst e;cases a<;>simp only[LW,reduceCtorEq]at h1;obtain⟨c1,_⟩:=kY h1;simp_all
   ·exact wK h2 hl.2 i blk hi
  ·cases h
section
variable {P:Program}{C:Ctx}{G0:GE}
theorem iH.length_eq{G:GE}{tm:Array Value}:∀{l:List V}{m:List Value},iH G tm l m->l.length=m.length
 |[],[],_=>rfl
 |_::_,_::_,h=>by simp only[iH]at h;simp[h.2.length_eq]
 |[],_::_,h=>by simp[iH]at h
 |_::_,[],h=>by simp[iH]at h
theorem sX:∀{p v l:List V},rU p v=some l->p.length=v.length
 |[],[],_,_=>rfl
 |[],_::_,_,h=>by simp[rU]at h
 |_::_,[],_,h=>by simp[rU]at h
 |_::p,_::v,l,h=>by simp only[rU]at h;obtain⟨x,y,h1,h2,_⟩:=jb h;simp[sX h2]
theorem BX{w:World}{β:Nat->Option Nat}{σ:Nat->Value}{hp:aP}{I0:Nat->Nat->Prop}{args:List V}{vals:Array Value}(hR:cW (Bf w β σ hp I0))(ha:iH (Bf w β σ hp I0) #[] args vals.toList){n:Nat}:
  eE (Bf w β σ hp I0) (pZ (args.map gD) hp n) {tmps:=vals++Array.replicate (n-vals.size) undef,defers:=[]} w:=by
 have hlen:args.length=vals.size:=by rw[ha.length_eq,Array.length_toList]
 refine⟨β,σ,Tr.refl _,hR,rfl,?_,fun i v hv=>?_⟩
 ·simp[pZ,hlen]
 ·simp only[pZ]at hv⊢;rw[vC];split
  ·rename_i hi;have hi':i<vals.size:=by simpa[hlen]using hi
   have hv':vals.toList[i]? =some v:=by grind
   rw[q9 _ rfl];exact(Ev ha i v hv').gD
  ·rw[pP];exact .any
theorem BV(hC:iY P C)(hm:P.follows .mixedOrders=true){f:FuncId}{fn:Func}{c:Code}(hf:P.funcs[f]? =some fn)(hb:fn.body=some c)(hd:fK c=true)(q:Spec)(k:Nat)(hn:ble q.pa.length fn.ntmps=true)(hl:wJ C.base q.ph=true)
  (hF:∀a r,q.run a=some r->den C k c (sJ C (xE C fn.results.toList q.read)) (q.start a fn.ntmps)=some r):JF P f q.h:=by
 intro args hp sh y hsh hy w β σ I0 vals hI hR ha;unfold Spec.h at hsh;split at hsh
 ·rename_i l hl2;split at hsh
  ·rename_i a hga;cases hsh;obtain⟨x,m,h1,h2,rfl⟩:=jb hl2;have hst:q.start a fn.ntmps=pZ (args.map gD) hp fn.ntmps:=by
    unfold Spec.start;rw[iW _ _ _ hga,mu _ _ _ _ h1];simp only;have:=oS _ _ _ [] h2;grind
   have hrun:=hF a y hy;rw[hst]at hrun;have hlen:args.length=vals.size:=by rw[ha.length_eq,Array.length_toList]
   have hnv:vals.size<=fn.ntmps:=by rw[<-hlen,<-sX h1];exact Nat.le_of_ble_eq_true hn
   refine calls_of_wp hf hb ?_;have hB:=BX hR ha (n:=fn.ntmps);have hL:FK C (Bf w β σ hp I0):=⟨fun i blk h=>(wK h2 hl i blk h).1,fun i t l v z h=>(wK h2 hl i _ h).2 t l v z rfl⟩
   have done:∀(e:Ex)(S:St)(a:Act)(w':World),(e= .normal\/e= .ret)->xE C fn.results.toList q.read e S=some y->eE (Bf w β σ hp I0) S a w'->
     a.defers=[]/\∃v,(results fn a.tmps).run P w'= .ok v w'/\∃v' β' σ',Ending.returned v= .returned v'/\Tr (Bf w β σ hp I0) ((Bf w β σ hp I0).at w' β' σ' (q.out y).2)/\cW ((Bf w β σ hp I0).at w' β' σ' (q.out y).2)/\bC ((Bf w β σ hp I0).at w' β' σ' (q.out y).2) #[] (q.out y).1 v':=by
    intro e S a w' he hfin hB;obtain⟨β',σ',hRl⟩:=hB;refine⟨hRl.defers,?_⟩;have hfin':(match O7 C S fn.results.toList with
     |some v=>q.read v S.hp
     |none=>none)=some y:=by
     rcases he with rfl|rfl<;>exact hfin
    split at hfin'
    ·rename_i v hv;have hout:=Spec.BF hfin';rw[hout];unfold O7 at hv;split at hv
     ·rename_i v0 hr;cases hv;obtain⟨xs,s1,s2,s3⟩:=lS hC hRl hr;obtain⟨u,rfl⟩:=List.length_eq_one_iff.1 (by simpa using s3);refine⟨u,by rw[ma s1];simp,u,β',σ',rfl,hRl.tr,hRl.ok,?_⟩;simp only[iH,and_true]at s2;exact s2
     ·rename_i l0 hne hr;cases hv;obtain⟨xs,s1,s2,s3⟩:=lS hC hRl hr;have hne':xs.toArray.size≠1:=by
       intro e;have:l0.length=1:=by rw[<-s3];simpa using e
       obtain⟨z,hz⟩:=List.length_eq_one_iff.1 this;grind
      refine⟨.tuple xs.toArray,by rw[ma s1,dif_neg hne'],.tuple xs.toArray,β',σ',rfl,hRl.tr,hRl.ok,?_⟩;simp only[bC];exact⟨xs.toArray,rfl,s2⟩
     ·cases hv
    ·cases hfin'
   refine kf hC hm hL k c hd _ _ _ _ w ⟨fun S a w' h hB=>?_,fun id S a w' h hB=>?_,fun S a w' h hB=>?_⟩ hrun hB
   ·obtain⟨S',h',hB'⟩:=jJ hL hB h;exact done .ret _ a w' (.inr rfl) h' hB'
   ·cases h
   ·exact done .ret S a w' (.inr rfl) h hB
  ·cases hsh
 ·cases hsh
theorem HF(hC:iY P C)(hm:P.follows .mixedOrders=true){f:FuncId}{fn:Func}{c:Code}(hf:P.funcs[f]? =some fn)(hb:fn.body=some c)(hd:fK c=true)(q:oK)(k:Nat)(hn:ble q.pa.length fn.ntmps=true)(hl:wJ C.base q.ph=true)
  (hF:∀a r,q.run a=some r->den C k c (sJ C (xE C fn.results.toList q.read)) (q.start a fn.ntmps)=some r):JF P f q.h:=by
 intro args hp sh y hsh hy w β σ I0 vals hI hR ha;unfold oK.h at hsh;split at hsh
 ·rename_i l hl2;split at hsh
  ·rename_i a hga;cases hsh;obtain⟨x,m,h1,h2,rfl⟩:=jb hl2;have hst:q.start a fn.ntmps=pZ (args.map gD) hp fn.ntmps:=by
    unfold oK.start;rw[iW _ _ _ hga,mu _ _ _ _ h1];simp only;have:=oS _ _ _ [] h2;grind
   have hrun:=hF a y hy;rw[hst]at hrun;have hlen:args.length=vals.size:=by rw[ha.length_eq,Array.length_toList]
   have hnv:vals.size<=fn.ntmps:=by rw[<-hlen,<-sX h1];exact Nat.le_of_ble_eq_true hn
   refine calls_of_wp hf hb ?_;have hB:=BX hR ha (n:=fn.ntmps);have hL:FK C (Bf w β σ hp I0):=⟨fun i blk h=>(wK h2 hl i blk h).1,fun i t l v z h=>(wK h2 hl i _ h).2 t l v z rfl⟩
   have done:∀(e:Ex)(S:St)(a:Act)(w':World),(e= .normal\/e= .ret)->xE C fn.results.toList q.read e S=some y->eE (Bf w β σ hp I0) S a w'->
     a.defers=[]/\∃v,(results fn a.tmps).run P w'= .ok v w'/\∃v' β' σ',Ending.returned v= .returned v'/\Tr (Bf w β σ hp I0) ((Bf w β σ hp I0).at w' β' σ' (sx q.alts y).2)/\cW ((Bf w β σ hp I0).at w' β' σ' (sx q.alts y).2)/\bC ((Bf w β σ hp I0).at w' β' σ' (sx q.alts y).2) #[] (sx q.alts y).1 v':=by
    intro e S a w' he hfin hB;obtain⟨β',σ',hRl⟩:=hB;refine⟨hRl.defers,?_⟩;have hfin':(match O7 C S fn.results.toList with
     |some v=>q.read v S.hp
     |none=>none)=some y:=by
     rcases he with rfl|rfl<;>exact hfin
    split at hfin'
    ·rename_i v hv;have hout:=yr _ _ hfin';rw[hout];unfold O7 at hv;split at hv
     ·rename_i v0 hr;cases hv;obtain⟨xs,s1,s2,s3⟩:=lS hC hRl hr;obtain⟨u,rfl⟩:=List.length_eq_one_iff.1 (by simpa using s3);refine⟨u,by rw[ma s1];simp,u,β',σ',rfl,hRl.tr,hRl.ok,?_⟩;simp only[iH,and_true]at s2;exact s2
     ·rename_i l0 hne hr;cases hv;obtain⟨xs,s1,s2,s3⟩:=lS hC hRl hr;have hne':xs.toArray.size≠1:=by
       intro e;have:l0.length=1:=by rw[<-s3];simpa using e
       obtain⟨z,hz⟩:=List.length_eq_one_iff.1 this;grind
      refine⟨.tuple xs.toArray,by rw[ma s1,dif_neg hne'],.tuple xs.toArray,β',σ',rfl,hRl.tr,hRl.ok,?_⟩;simp only[bC];exact⟨xs.toArray,rfl,s2⟩
     ·cases hv
    ·cases hfin'
   refine kf hC hm hL k c hd _ _ _ _ w ⟨fun S a w' h hB=>?_,fun id S a w' h hB=>?_,fun S a w' h hB=>?_⟩ hrun hB
   ·obtain⟨S',h',hB'⟩:=jJ hL hB h;exact done .ret _ a w' (.inr rfl) h' hB'
   ·cases h
   ·exact done .ret S a w' (.inr rfl) h hB
  ·cases hsh
 ·cases hsh
theorem Pj{f:FuncId}{q:Spec}(h:∀a,q.run a=none):JF P f q.h:=by intro args hp sh y hsh hy;unfold Spec.h at hsh;grind
inductive MM where
 |one (q:Spec)
 |alt (q:oK)
def MM.h:MM->List V->aP->Option Sh
 | .one q=>q.h
 | .alt q=>q.h
def ER:List MM->List V->aP->Option Sh
 |[],_,_=>none
 |q::r,args,hp=>match q.h args hp with
  |some s=>some s
  |none=>ER r args hp
theorem Ef{f:FuncId}:∀{l:List MM},(∀q∈l,JF P f q.h)->JF P f (ER l)
 |[],_=>fun args hp sh y h=>by cases h
 |q::r,hq=>fun args hp sh y h hy=>by
  simp only[ER]at h;split at h
  ·rename_i s hs;cases h;exact hq q (by simp) args hp _ y hs hy
  ·exact Ef (fun q' hq'=>hq q' (mem_cons_of_mem _ hq')) args hp sh y h hy
def U1(l:List (Nat×List MM))(f:Nat):Option (List V->aP->Option Sh):=match look l f with
 |some qs=>some (ER qs)
 |none=>none
def Et(P:Program)(f:FuncId):List MM->Prop
 |[]=>True
 |q::r=>JF P f q.h/\Et P f r
def Es(P:Program):List (Nat×List MM)->Prop
 |[]=>True
 |(f,l)::r=>(Et P f l/\oJ P f)/\Es P r
theorem U4{l:List (Nat×List MM)}(h:Es P l):∀f h',U1 l f=some h'->JF P f h'/\oJ P f:=by
 intro f h' hs;unfold U1 at hs;split at hs
 ·rename_i qs hq;cases hs;induction l with
  |nil=>cases hq
  |cons x r ih=>
   obtain⟨i,q⟩:=x;simp only[look]at hq;split at hq
   ·rename_i he;cases hq;rw[<-eq_of_beq_eq_true he];refine⟨Ef fun q hq=>?_,h.1.2⟩;have h1:=h.1.1;clear ih h;induction qs with
    |nil=>cases hq
    |cons a b ih=>
     rcases List.mem_cons.1 hq with rfl|hq
     ·exact h1.1
     ·exact ih hq h1.2
   ·exact ih h.2 hq
 ·cases hs
end
def cB(f:Func):Code:=f.body.getD .skip
def cL:Code->Code
 | .seq a _=>a| .block _ c=>c| .loop c=>c| .scope c=>c| .cond _ x _=>x|c=>c
def cR:Code->Code
 | .seq _ b=>b| .cond _ _ y=>y|c=>c
def Ui:Nat->Nat->List (Nat×V)->List V
 |0,_,_=>[]
 |n+1,i,l=>(match look l i with
  |some v=>v
  |none=>.any)::Ui n (i+1) l
def Q7(n:Nat)(f:List (Nat×V))(h:aP):St:=⟨Ui n 0 f,h⟩
abbrev lq{α:Type}(C:Ctx)(key:Nat)(next:St->Option α)(Q:Ex->St->Option α):Ex->St->Option α:=wX (fun S=>clean C key S next) Q
def V4{α:Type}(C:Ctx)(k:Nat)(c:Code)(key:Nat)(Q:Ex->St->Option α)(next:St->Option α)(S:St):Option α:=den C k c (lq C key next Q) S
def lp{α:Type}(C:Ctx)(k:Nat)(c:Code)(Q:Ex->St->Option α)(S:St):Option α:=iter (fun next=>den C k c (wX (fun S=>clean C (ka c) S next) Q)) k S
abbrev DT(α:Type):Type:=Code->(Ex->St->Option α)->St->Option α
def sH{α:Type}(D L:DT α)(js:List Nat)(C:Ctx):Code->(Ex->St->Option α)->St->Option α
 | .skip,Q,S=>Q .normal S
 | .label _,Q,S=>Q .normal S
 | .region _ ops draw,Q,S=>match draw with
  |false=>Fm C ops ops.toList S (Q .normal)
  |true=>Fl C ops (wL ops.toList []) ops.toList [] (p0 S) (Q .normal)
 | .seq a b,Q,S=>sH D L js C a (wX (fun S=>clean C (ka b) S (match mem js (oV b)with
  |true=>D b Q
  |false=>sH D L js C b Q)) Q) S
 | .cond c x y,Q,S=>match ev S.fr c with
  | .data .bool t=>if(t:Bool)=true then sH D L js C x Q S else sH D L js C y Q S
  |_=>none
 | .block id c,Q,S=>sH D L js C c (Ao C id Q) S
 | .loop c,Q,S=>clean C (ka c) S (L c Q)
 | .scope c,Q,S=>sH D L js C c Q S
 | .exit id,Q,S=>clean C (3*id+1) S (Q (.exit id))
 | .ret,Q,S=>clean C 2 S (Q .ret)
 |_,_,_=>none
abbrev sq{α:Type}(D L:DT α)(js:List Nat)(C:Ctx)(b:Code)(Q:Ex->St->Option α):Ex->St->Option α:=wX (fun S=>clean C (ka b) S (match mem js (oV b)with
 |true=>D b Q
 |false=>sH D L js C b Q)) Q
theorem ny{α:Type}(js:List Nat)(C:Ctx)(k:Nat):∀(c:Code)(Q:Ex->St->Option α)(S:St),sH (den C k) (lp C k) js C c Q S=den C k c Q S
 | .skip,_,_=>rfl
 | .label _,_,_=>rfl
 | .region _ _ _,_,_=>rfl
 | .exit _,_,_=>rfl
 | .ret,_,_=>rfl
 | .loop _,_,_=>rfl
 | .seq a b,Q,S=>by
  simp only[sH,den];rw[ny js C k a];congr 2;funext S;congr 1;cases mem js (oV b)with
  |true=>rfl
  |false=>funext S;exact ny js C k b Q S
 | .cond c x y,Q,S=>by simp only[sH,den,ny js C k x,ny js C k y];rfl
 | .block id c,Q,S=>by simp only[sH,den,ny js C k c]
 | .scope c,Q,S=>by simp only[sH,den,ny js C k c]
 | .rangeFunc _ _ _ _,_,_=>rfl
 | .goto _,_,_=>rfl
 | .refuse _,_,_=>rfl
def fuel:Nat:=2^64
theorem via{α:Type}{k:Nat}{js:List Nat}{C:Ctx}{c:Code}{Q:DT α->DT α->Ex->St->Option α}{S:St}{r:DT α->DT α->Option α}(h:∀D L:DT α,sH D L js C c (Q D L) S=r D L):den C k c (Q (den C k) (lp C k)) S=r (den C k) (lp C k):=
 (ny js C k c (Q (den C k) (lp C k)) S).symm.trans (h _ _)
theorem Lt{α:Type}(F:(St->Option α)->St->Option α)(n:Nat)(S:St):iter F (n+1) S=F (iter F n) S:=rfl
theorem qt{P:Program}{f:FuncId}{fn:Func}(h:P.funcs[f]? =some fn) (h1:(fn.name== "runtime.NumGoroutine")=false) (h2:fn.body.isNone=false):oJ P f:=⟨fn,h,h1,h2⟩
def Sl(l:List (Nat×Fn))(f:Nat):Option Fn:=look l f
def Er(P:Program):List (Nat×Fn)->Prop
 |[]=>True
 |x::l=>Callee P x.1 x.2/\Er P l
def QM(P:Program)(l:List (Nat×Nat)):Bool:=l.all fun x=>match P.underlying x.1 with
 |some (.pointer e)=>beq e x.2
 |_=>false
theorem O1{P:Program}{l:List (Nat×Nat)}(h:QM P l=true):∀i e,look l i=some e->P.underlying i=some (.pointer e):=by
 intro i e hi;have:=List.all_eq_true.1 h _ (sW hi);simp only at this;split at this
 ·simp_all
 ·cases this
def Vo(P:Program)(l:List (Nat×(Nat×Nat))):Bool:=l.all fun x=>match P.underlying x.1 with
 |some (.map k e)=>beq k x.2.1&&beq e x.2.2
 |_=>false
theorem RH{P:Program}{l:List (Nat×(Nat×Nat))}(h:Vo P l=true):∀i k e,look l i=some (k,e)->P.underlying i=some (.map k e):=by
 intro i k e hi;have:=List.all_eq_true.1 h _ (sW hi);simp only at this;split at this
 ·simp_all
 ·cases this
def Gv(l:List (Nat×List (String×Nat)))(t:Nat)(m:String):Option Nat:=match look l t with
 |some ms=>(ms.find? fun x=>x.1==m).map (·.2)
 |none=>none
def Nq(P:Program)(t:Nat)(m:String)(f:Nat):Bool:=match P.info? t,P.underlying t with
 |some i,some d=>(match d with
  | .pointer _=>false
  |_=>true)&&(match i.methods.find? (·.name==m)with
  |some r=>r.path.isEmpty&&(match r.func with
   |some (f',false)=>beq f' f
   |_=>false)
  |none=>false)
 |_,_=>false
def Qk(P:Program)(l:List (Nat×List (String×Nat))):Bool:=l.all fun x=>x.2.all fun y=>Nq P x.1 y.1 y.2
theorem Ql{P:Program}{t:Nat}{m:String}{f:Nat}(h:Nq P t m f=true):ML P t m f:=by
 intro w v;unfold Nq at h;split at h
 ·rename_i i d hi hd;simp only[and_eq_true]at h;obtain⟨h1,h2⟩:=h;split at h2
  ·rename_i r hr;simp only[and_eq_true]at h2;obtain⟨h3,h4⟩:=h2;split at h4
   ·rename_i f' hf;have e:=eq_of_beq_eq_true h4;subst e;have hp:r.path.toList=[]:=by simpa using h3
    obtain⟨n,hn⟩:∃n,P.types.size+Made.depth=n+1:=⟨P.types.size+Made.depth-1,by unfold Made.depth;omega⟩
    have hm:(method (P.types.size+Made.depth) t v m).run P w= .ok (f',v) w:=by
     rw[hn];simp only[method,Sem.run_bind,typeInfo,run_program,Result.andThen_ok,hi,Sem.run_pure,hr,hp,follow,hf];cases d<;>first|(simp at h1;done)|simp[receiverAt,run_underlying hd,Place.get]
    refine⟨fun args=>by simp only[callMethod,Sem.run_bind,run_program,Result.andThen_ok,hm],?_⟩;rw[hn];simp only[nilAhead,Sem.run_bind,typeInfo,run_program,Result.andThen_ok,hi,Sem.run_pure,hr,hp,followBlind,hf];cases d<;>first|(simp at h1;done)|simp[run_underlying hd]
   ·cases h4
  ·cases h2
 ·cases h
theorem Nr{P:Program}{l:List (Nat×List (String×Nat))}(h:Qk P l=true):∀t m f,Gv l t m=some f->ML P t m f:=by
 intro t m f hi;unfold Gv at hi;split at hi
 ·rename_i ms hms;obtain⟨x,hx,rfl⟩:=Option.map_eq_some_iff.1 hi;have h1:=List.all_eq_true.1 h _ (sW hms);have h2:=List.all_eq_true.1 h1 _ (List.mem_of_find?_eq_some hx);have h3:=List.find?_some hx;have e:x.1=m:=by simpa using h3
  rw[<-e];exact Ql h2
 ·cases hi
def SZ(_:Nat):Option (List V->aP->Option Sh):=none
theorem Ii{P:Program}{ty:List (Nat×Ty)}{ptr:List (Nat×Nat)}{mp:List (Nat×(Nat×Nat))}{fns:List (Nat×Fn)}{site:List (Nat×Nat)}{inv:List (Nat×List (String×Nat))}{live:List (Nat×List Nat)}{norm:List (Nat×List Norm)}{frz:List Nat}{base lim:Nat}
  (h1:Fz P ty=true) (hp:QM P ptr=true) (hm:Vo P mp=true) (hi:Qk P inv=true) (h2:Er P fns):iY P ⟨ty,ptr,mp,Sl fns,SZ,site,Gv inv,live,norm,frz,base,lim⟩ where
 ty:=HI h1
 ptr:=O1 hp
 mp:=RH hm
 sh:=fun _ _ h=>by cases h
 inv:=Nr hi
 fn:=fun f F h=>by
  simp only[Sl]at h;induction fns with
  |nil=>cases h
  |cons x l ih=>
   obtain⟨i,G⟩:=x;simp only[look]at h;split at h
   ·rename_i he;cases h;rw[eq_of_beq_eq_true he]at h2;exact h2.1
   ·exact ih h2.2 h
theorem CW{P:Program}{ty:List (Nat×Ty)}{ptr:List (Nat×Nat)}{mp:List (Nat×(Nat×Nat))}{fns:List (Nat×Fn)}{shs:List (Nat×List MM)}{site:List (Nat×Nat)}{inv:List (Nat×List (String×Nat))}{live:List (Nat×List Nat)}{norm:List (Nat×List Norm)}{frz:List Nat}{base lim:Nat}
  (h1:Fz P ty=true) (hp:QM P ptr=true) (hm:Vo P mp=true) (hi:Qk P inv=true) (h2:Er P fns) (h3:Es P shs):iY P ⟨ty,ptr,mp,Sl fns,U1 shs,site,Gv inv,live,norm,frz,base,lim⟩ where
 ty:=HI h1
 ptr:=O1 hp
 mp:=RH hm
 sh:=U4 h3
 inv:=Nr hi
 fn:=(Ii (site:=site) (inv:=inv) (live:=live) (norm:=norm) (frz:=frz) (base:=base) (lim:=lim) h1 hp hm hi h2).fn
theorem Qy{α:Type}{C:Ctx}{k:Nat}{c:Code}{Q:Ex->St->Option α}{S:St}(key:Nat)(h:ka c=key):lp C k c Q S=iter (V4 C k c key Q) k S:=by subst h;rfl
theorem Sg{P:Program}{C:Ctx}(hC:iY P C)(hm:P.follows .mixedOrders=true){f:FuncId}{fn:Func}{c:Code}(hf:P.funcs[f]? =some fn)(hb:fn.body=some c)(hd:fK c=true)(F:Fn)(hn:∀(x:F.ps.den),(spread F.ps x).length<=fn.ntmps)
  (S:F.ps.den->St) (hs:∀x,start F fn.ntmps x=S x) (ht:∀x,den C fuel c (fin C fn.results.toList F.rs F.multi) (S x)=F.run x):MI P f F:=
 vj hC hm hf hb hd F fuel hn fun x r h=>by rw[hs,ht,h]
theorem P7{P:Program}{C:Ctx}(hC:iY P C)(hm:P.follows .mixedOrders=true){f:FuncId}{fn:Func}{c:Code}(hf:P.funcs[f]? =some fn) (h1:(fn.name== "runtime.NumGoroutine")=false) (hb:fn.body=some c) (hd:fK c=true) (F:Fn) (hn:∀(x:F.ps.den),(spread F.ps x).length<=fn.ntmps)
  (S:F.ps.den->St) (hs:∀x,start F fn.ntmps x=S x) (ht:∀x,den C fuel c (fin C fn.results.toList F.rs F.multi) (S x)=F.run x):MI P f F/\oJ P f:=
 ⟨Sg hC hm hf hb hd F hn S hs ht,qt hf h1 (by rw[hb];rfl)⟩
theorem zY{α:Type}{k:Nat}(js:List Nat){C:Ctx}{c:Code}{Q:Ex->St->Option α}{S:St}{r:Option α}(h:sH (den C k) (lp C k) js C c Q S=r):den C k c Q S=r:=
 (ny js C k c Q S).symm.trans h
end Go.Bx
namespace Go.Bx
open Go Go.RowKit Go.ChangeShapes Go.WideShapes Go.ChangeAt
theorem wD{H:Type}{enc:TypeId×Value->H}{P:Program}{w:World}{base:Nat}{spare:Nat->Bool}{held:Bool}{fuel:Nat}{t e:TypeId}{n:Nat}{k:IntKind}{cs:List Value}{l:List Int}{p:List MemPlace}
  (ht:P.underlying t=some (.array n e)) (he:P.underlying e=some (.int k)) (h1:P.cellsOf e=1) (h2:P.cellsOf t=n)
  (h:DataW.trod enc P w base spare held fuel t cs=some (.agg (l.map fun x=>.lit (.int k x)),p)):cs=l.map (Value.int k)/\l.length=n:=by
 obtain⟨xs,m,_,hx,hlen,hn,hel⟩:=DataW.trod_array ht h;rw[h2]at hlen;simp only[Prod.mk.injEq,DataW.agg.injEq]at hx;have hl:l.length=n:=by have:=congrArg List.length hx.1;grind
 refine⟨?_,hl⟩;apply List.ext_getElem
 ·rw[hlen,List.length_map,hl]
 ·intro i hi1 hi2;have hin:i<n:=by omega
  have hi:=hel i hin;rw[h1,Nat.mul_one,getElem?_eq_getElem (show i<xs.length by omega)]at hi;obtain⟨v,e1,e2,_⟩:=DataW.trod_int he hi;have hd:(cs.drop i).take 1=[cs[i]]:=by rw[List.drop_eq_getElem_cons hi1];rfl
  rw[hd]at e1;have e1:cs[i]=Value.int k v:=by simpa using e1
  have hm:(l.map fun x=>(DataW.lit (.int k x):DataW H))[i]? =(xs.map (·.1))[i]?:=by rw[hx.1]
  rw[List.getElem?_map,List.getElem?_map,getElem?_eq_getElem (show i<xs.length by omega),getElem?_eq_getElem (show i<l.length by omega)]at hm;simp only[Option.map_some,Option.some.injEq]at hm;rw[e2]at hm;simp only[DataW.lit.injEq,Lit.int.injEq,true_and]at hm;rw[e1,List.getElem_map,hm]
theorem C2{E:Env}{k:IntKind}:∀(l:List Int),(∀x∈l,pq k x=true)->df (an E (.int k)) l (l.map fun x=>[Value.int k x])/\(l.map fun x=>[Value.int k x]).flatten=l.map (Value.int k)
 |[],_=>⟨trivial,rfl⟩
 |a::l,h=>by obtain⟨h1,h2⟩:=C2 l fun x hx=>h x (mem_cons_of_mem _ hx);exact⟨⟨⟨rfl,h a (by simp)⟩,h1⟩,by simp[h2]⟩
theorem Gm{P:Program}{W:World}{name:String}{g:Nat}{k:IntKind}{n:Nat}{l:List Int}{cs:Array Value}(hg:P.globalNamed name=some g)(hv:W.var? P name=some cs)(hcs:cs.toList=l.map (Value.int k))(hl:l.length=n)(hr:∀x∈l,pq k x=true):
  ∃ds,(ds=[]\/∃m,ds.length<=m/\(mj W).im g m)/\(∀j u,ds[j]? =some u->(mj W).w.cell? ⟨g,j,none⟩=some u)/\an (mj W) (.arr n (.int k)) l ds:=by
 obtain⟨h1,h2⟩:=C2 (E:=mj W) (k:=k) l hr;refine⟨l.map (Value.int k),?_,fun j u hj=>?_,hl,_,h2.symm,h1⟩
 ·by_cases h0:l=[]
  ·left;rw[h0];rfl
  ·right;refine⟨(l.map (Value.int k)).length,le_refl _,?_⟩;show g<W.heap.size;have hv':=hv;simp only[World.var?,hg,Option.bind_some]at hv';by_cases hlt:g<W.heap.size
   ·exact hlt
   ·rw[Array.getElem?_eq_none (by omega)]at hv';simp at hv'
 ·show W.cell? ⟨g,j,none⟩=some u;rw[World.var?_cell hg hv j,<-hj,<-hcs];simp
end Go.Bx
namespace Go.Bx
open Go Go.RowKit
@[reducible] def Cu:Ty->Type->Type
 | .pair a b,R=>a.den->Cu b R
 | .int _,R=>R| .bool,R=>R| .str,R=>R| .arr _ _,R=>R| .sl _,R=>R| .unit,R=>R| .opq,R=>R
def ap{R:Type}:(t:Ty)->Cu t R->t.den->R
 | .pair a b,f,x=>ap b (f x.1) x.2
 | .int _,f,_=>f| .bool,f,_=>f| .str,f,_=>f| .arr _ _,f,_=>f| .sl _,f,_=>f| .unit,f,_=>f| .opq,f,_=>f
@[reducible] def Tw:List Step->Ty->Ty
 |[],r=>r
 | .idx _::p,r=>.pair (.int .i64) (Tw p r)
 | .fld _::p,r=>Tw p r
mutual
@[reducible] def Mx:V->Ty->Ty
 | .data t _,r=>.pair t r
 | .iref t _,r=>.pair t r
 | .full t l,r=>match l with
  |[]=>.pair (.sl t) r
  |_::_=>r
 | .view _ _ _ _ _ _,r=>.pair (.int .i64) (.pair (.int .i64) r)
 | .tup l,r=>Pq l r
 | .opt _ _ v,r=>Mx v r
 | .fn _ a b,r=>Pq a (Pq b r)
 | .agg _ l,r=>Pq l r
 | .ifc _ v,r=>Mx v r
 | .mth _ v,r=>Mx v r
 | .ref _ _ p,r=>Tw p r
 |_,r=>r
@[reducible] def Pq:List V->Ty->Ty
 |[],r=>r
 |v::l,r=>Mx v (Pq l r)
end
@[reducible] def Wm:jX->Ty->Ty
 | .cell _ v _,r=>Mx v r
 | .buf t _ _ _,r=>.pair (.sl t) r
 | .map k v _,r=>.pair (.sl (.pair k v)) r
@[reducible] def Va:aP->Ty->Ty
 |[],r=>r
 |(_,b)::h,r=>Wm b (Va h r)
structure Px where
 n:Nat
 f:List (Nat×V)
 h:aP
@[reducible] def WO(l:List (Nat×V))(r:Ty):Ty:=match l with
 |[]=>r
 |(_,v)::l=>Mx v (WO l r)
@[reducible] def Px.ps(S:Px):Ty:=WO S.f (Va S.h .unit)
@[reducible] def K(S:Px)(α:Type):Type:=Cu S.ps (Option α)
def SY:List Step->List (Option Ty)
 |[]=>[]
 | .idx _::p=>none::SY p
 | .fld _::p=>SY p
mutual
def OG:V->List (Option Ty)
 | .data _ _=>[none]
 | .iref _ _=>[none]
 | .full t l=>match l with
  |[]=>[none]
  |_::_=>[some t]
 | .view _ _ _ _ _ _=>[none,none]
 | .tup l=>LY l
 | .opt _ _ v=>OG v
 | .fn _ a b=>LY a++LY b
 | .agg _ l=>LY l
 | .ifc _ v=>OG v
 | .mth _ v=>OG v
 | .ref _ _ p=>SY p
 |_=>[]
def LY:List V->List (Option Ty)
 |[]=>[]
 |v::l=>OG v++LY l
end
def UQ:aP->List (Option Ty)
 |[]=>[]
 |(_,b)::h=>(match b with
  | .cell _ v _=>OG v
  |_=>[none])++UQ h
def Px.V1(S:Px):List (Option Ty):=LY (S.f.map (·.2))++UQ S.h
def Lq:List (Option Ty)->List V->List V
 |none::k,v::l=>v::Lq k l
 |some t::k,l=>.data (.sl t) []::Lq k l
 |none::_,[]=>[]
 |[],l=>l
def Fs:List (Option Ty)->List V->Option (List V)
 |none::k,v::l=>match Fs k l with
  |some m=>some (v::m)
  |none=>none
 |some t::k,v::l=>match v with
  | .data (.sl t') x=>match(x:List t'.den),decide (t'=t)with
   |[],true=>Fs k l
   |_,_=>none
  |_=>none
 |none::_,[]=>none
 |some _::_,[]=>none
 |[],l=>some l
theorem zZ:∀{k:List (Option Ty)}{l m:List V},Fs k l=some m->Lq k m=l
 |none::k,v::l,m,h=>by
  simp only[Fs]at h;split at h
  ·rename_i m' hm;cases h;simp only[Lq,zZ hm]
  ·cases h
 |some t::k,v::l,m,h=>by
  simp only[Fs]at h;split at h
  ·split at h
   ·rename_i t' x h1 h2;have:=of_decide_eq_true h2;subst this;simp only[Lq,zZ h]
   ·cases h
  ·cases h
 |none::_,[],m,h=>by simp[Fs]at h
 |some _::_,[],m,h=>by simp[Fs]at h
 |[],l,m,h=>by cases h;rfl
def Px.pk(S:Px)(x:S.ps.den):St:=match Cq (Ui S.n 0 S.f) (Lq S.V1 (spread S.ps x))with
 |some (fr,l)=>match Gb S.h l with
  |some (hp,_)=>⟨fr,hp⟩
  |none=>⟨[],[]⟩
 |none=>⟨[],[]⟩
def Px.un{α:Type}(S:Px)(j:K S α)(st:St):Option α:=match both (rU (Ui S.n 0 S.f) st.fr) (uq S.h st.hp)with
 |some l=>match Fs S.V1 l with
  |some l=>match getArgs S.ps l with
   |some x=>ap S.ps j x
   |none=>none
  |none=>none
 |none=>none
theorem Aa{α:Type}{S:Px}{j:K S α}{st:St}{y:α}(h:S.un j st=some y):∃x,st=S.pk x/\ap S.ps j x=some y:=by
 unfold Px.un at h;split at h
 ·rename_i l hl;split at h
  ·rename_i l' hl';split at h
   ·rename_i x hx;obtain⟨a,b,h1,h2,rfl⟩:=jb hl;refine⟨x,?_,h⟩;unfold Px.pk;rw[iW _ _ _ hx,zZ hl',mu _ _ _ _ h1];simp only;have:=oS _ _ _ [] h2;rw[append_nil]at this;rw[this]
   ·cases h
  ·cases h
 ·cases h
def hN(t:Ty):V:=.full t [t.zero]
inductive dQ(α:Type) where
 |j (S:Px) (f:K S α)
 |l (S:Px) (f:Nat->K S α) (W:Nat->List (Nat×dQ α))
def gt{α:Type}(k:Nat)(W:List (Nat×dQ α))(key:Nat)(S:St):Option α:=match look W key with
 |some (.j s f)=>s.un f S
 |some (.l s f _)=>s.un (f k) S
 |none=>none
abbrev Dw{α:Type}(k:Nat)(W:List (Nat×dQ α)):DT α:=fun b _ S=>gt k W (4*oV b) S
abbrev Lw{α:Type}(k:Nat)(W:List (Nat×dQ α)):DT α:=fun c _ S=>gt k W (4*ka c+1) S
def Le{α:Type}(f g:St->Option α):Prop:=∀S y,f S=some y->g S=some y
def PR{α:Type}(f g:Ex->St->Option α):Prop:=∀e,Le (f e) (g e)
abbrev dw{α:Type}(k:Nat)(W:List (Nat×dQ α))(js:List Nat)(C:Ctx)(c:Code)(Q:Ex->St->Option α)(S:St):Option α:=sH (Dw k W) (Lw k W) js C c Q S
def Good{α:Type}(js:List Nat)(C:Ctx)(k:Nat):Code->List (Nat×dQ α)->(Ex->St->Option α)->(Ex->St->Option α)->Prop
 | .seq a b,W,Q,q=>(match mem js (oV b)with
   |true=>(match look W (4*oV b)with
    |some (.j s f)=>∀x,dw k W js C b Q (s.pk x)=ap s.ps f x
    |some (.l _ _ _)=>False
    |none=>True)
   |false=>True)/\Good js C k b W Q q/\
   Good js C k a W (sq (Dw k W) (Lw k W) js C b Q) (wX (fun S=>clean C (ka b) S (den C k b q)) q)
 | .cond _ x y,W,Q,q=>Good js C k x W Q q/\Good js C k y W Q q
 | .block id c,W,Q,q=>Good js C k c W (Ao C id Q) (Ao C id q)
 | .scope c,W,Q,q=>Good js C k c W Q q
 | .loop c,W,Q,q=>match look W (4*ka c+1)with
  |some (.l s f W')=>(∀x,ap s.ps (f 0) x=none)/\∀n,(∀x,dw k (W' n) js C c (lq C (ka c) (s.un (f n)) Q) (s.pk x)=ap s.ps (f (n+1)) x)/\
    ∀next,Le (s.un (f n)) next->Good js C k c (W' n) (lq C (ka c) (s.un (f n)) Q) (lq C (ka c) next q)
  |some (.j _ _)=>False
  |none=>True
 |_,_,_,_=>True
theorem MZ{α:Type}{g:Option Gd}{c:Prop}{i:Decidable c}{K K':Option α}{y:α}(hK:∀y,K=some y->K'=some y)(h:FG g c i K=some y):FG g c i K'=some y:=by
 unfold FG at h⊢;split at h
 ·split at h
  ·exact hK _ h
  ·cases h
 ·split at h
  ·exact hK _ h
  ·cases h
theorem EA{α β:Type}{o:Option β}{f g:β->Option α}{y:α}(hf:∀r y,f r=some y->g r=some y)(h:o.bind f=some y):o.bind g=some y:=by
 cases o with
 |none=>cases h
 |some r=>exact hf r y h
theorem T0{α:Type}{C:Ctx}{g:Option Gd}{o:Oper}{S:St}{K K':List Nat->St->Option α}{y:α}(hK:∀wr,Le (K wr) (K' wr))(h:T C g o S K=some y):T C g o S K'=some y:=by
 unfold T at h⊢;split at h
 ·exact MZ (fun y=>hK _ _ y) h
 ·exact EA (fun r y=>hK _ _ y) h
 ·exact hK _ _ _ h
 ·cases h
 ·split at h
  ·cases h
  ·exact hK _ _ _ h
  ·split at h
   ·exact MZ (fun y=>hK _ _ y) h
   ·exact EA (fun r y=>hK _ _ y) h
   ·refine EA (fun r y hy=>?_) h;rw[Sh.ok]at hy⊢;split at hy
    ·exact hK _ _ _ hy
    ·cases hy
   ·cases h
theorem Ky{α:Type}{C:Ctx}{ops:Array Oper}{K K':St->Option α}(hK:Le K K'):∀(l:List Oper)(S:St)(y:α),Fm C ops l S K=some y->Fm C ops l S K'=some y
 |[],S,y,h=>hK S y h
 |o::r,S,y,h=>by
  simp only[Fm]at h⊢;split at h
  ·cases h
  ·exact T0 (fun _ S' y=>Ky hK r S' y) h
theorem Kx{α:Type}{C:Ctx}{ops:Array Oper}{ms:List Nat}{K K':St->Option α}(hK:Le K K'):∀(l:List Oper)(acc:List Rec)(S:St)(y:α),Fl C ops ms l acc S K=some y->Fl C ops ms l acc S K'=some y
 |[],acc,S,y,h=>hK S y h
 |o::r,acc,S,y,h=>by
  simp only[Fl]at h⊢;split at h
  ·cases h
  ·refine T0 (fun wr S' y hy=>?_) h;split at hy
   ·exact Kx hK r _ S' y hy
   ·cases hy
theorem oQ{α:Type}{C:Ctx}{key:Nat}{S:St}{K K':St->Option α}{y:α}(hK:Le K K')(h:clean C key S K=some y):clean C key S K'=some y:=by
 unfold clean at h⊢;split at h
 ·exact hK _ _ h
 ·split at h
  ·exact hK _ _ h
  ·split at h
   ·exact hK _ _ h
   ·cases h
theorem KA{α:Type}{n n':St->Option α}{Q Q':Ex->St->Option α}(hn:Le n n')(hQ:PR Q Q'):PR (wX n Q) (wX n' Q')
 | .normal=>hn
 | .exit i=>hQ (.exit i)
 | .ret=>hQ .ret
theorem P4{α:Type}{C:Ctx}{id:Nat}{Q Q':Ex->St->Option α}(hQ:PR Q Q'):PR (Ao C id Q) (Ao C id Q')
 | .normal=>fun S y h=>oQ (hQ .normal) h
 | .exit i=>fun S y h=>by
  simp only[Ao]at h⊢;split at h
  ·rename_i hb;rw[if_pos hb];exact hQ _ _ _ h
  ·rename_i hb;rw[if_neg hb];exact hQ _ _ _ h
 | .ret=>hQ .ret
theorem mA{α:Type}{js:List Nat}{C:Ctx}{k:Nat}:∀(c:Code){W:List (Nat×dQ α)}{Q q:Ex->St->Option α},Good js C k c W Q q->PR Q q->∀{S:St}{y:α},dw k W js C c Q S=some y->den C k c q S=some y
 | .skip,W,Q,q,_,hQ,S,y,h=>hQ _ _ _ h
 | .label _,W,Q,q,_,hQ,S,y,h=>hQ _ _ _ h
 | .region _ ops draw,W,Q,q,_,hQ,S,y,h=>by
  cases draw with
  |false=>exact Ky (hQ .normal) _ _ _ h
  |true=>exact Kx (hQ .normal) _ _ _ _ h
 | .seq a b,W,Q,q,hG,hQ,S,y,h=>by
  obtain⟨h1,h2,h3⟩:=hG;refine mA a h3 (KA (fun S y h=>oQ (fun S y h=>?_) h) hQ) h;cases hm:mem js (oV b)with
  |false=>rw[hm]at h;exact mA b h2 hQ h
  |true=>
   rw[hm]at h h1;simp only[Dw,gt]at h;split at h
   ·rename_i s f he;simp only[he]at h1;obtain⟨x,rfl,hx⟩:=Aa h;exact mA b h2 hQ ((h1 x).trans hx)
   ·rename_i s f W' he;simp only[he]at h1
   ·cases h
 | .cond c x z,W,Q,q,hG,hQ,S,y,h=>by
  simp only[dw,sH,den]at h⊢;cases he:ev S.fr c with
  |data t b=>
   cases t with
   |bool=>
    simp only[he]at h⊢;cases b with
    |true=>exact mA x hG.1 hQ h
    |false=>exact mA z hG.2 hQ h
   |_=>simp only[he]at h;cases h
  |_=>simp only[he]at h;cases h
 | .block id c,W,Q,q,hG,hQ,S,y,h=>mA c (W:=W) hG (P4 hQ) h
 | .scope c,W,Q,q,hG,hQ,S,y,h=>mA c (W:=W) hG hQ h
 | .exit id,W,Q,q,_,hQ,S,y,h=>oQ (hQ _) h
 | .ret,W,Q,q,_,hQ,S,y,h=>oQ (hQ _) h
 | .loop c,W,Q,q,hG,hQ,S,y,h=>by
  refine oQ (fun S y h=>?_) h;simp only[Good]at hG;simp only[Lw,gt]at h;split at h
  ·rename_i s f he;simp only[he]at hG
  ·rename_i s f W' he;simp only[he]at hG;obtain⟨h0,hs⟩:=hG;have key:∀n,Le (s.un (f n)) (iter (fun next=>den C k c (wX (fun S=>clean C (ka c) S next) q)) n):=by
    intro n;induction n with
    |zero=>intro S y h;obtain⟨x,_,hx⟩:=Aa h;rw[h0]at hx;cases hx
    |succ n ih=>intro S y h;obtain⟨x,rfl,hx⟩:=Aa h;exact mA c ((hs n).2 _ ih) (KA (fun S y h=>oQ ih h) hQ) (((hs n).1 x).trans hx)
   exact key k S y h
  ·cases h
 | .rangeFunc _ _ _ _,W,Q,q,_,hQ,S,y,h=>by cases h
 | .goto _,W,Q,q,_,hQ,S,y,h=>by cases h
 | .refuse _,W,Q,q,_,hQ,S,y,h=>by cases h
def Qr{α:Type}(R:Px)(f:K R α):Ex->St->Option α
 | .ret,S=>R.un f S
 |_,_=>none
theorem Rm{α:Type}{R:Px}{f:K R α}{q:Ex->St->Option α}(h:∀x,q .ret (R.pk x)=ap R.ps f x):PR (Qr R f) q
 | .ret,S,y,hy=>by obtain⟨x,rfl,hx⟩:=Aa hy;exact(h x).trans hx
 | .normal,S,y,hy=>by cases hy
 | .exit _,S,y,hy=>by cases hy
theorem JX{α:Type}{C:Ctx}{Q q:Ex->St->Option α}(h:PR Q q):PR (sJ C Q) (sJ C q)
 | .ret=>h .ret
 | .normal=>fun S y hy=>oQ (h .ret) hy
 | .exit i=>h (.exit i)
def Ty.parts:Ty->Nat
 | .pair _ b=>b.parts+1
 |_=>0
theorem oc:∀(t:Ty)(x:t.den),(spread t x).length=t.parts
 | .pair a b,x=>by simp[spread,Ty.parts,oc b]
 | .int _,_=>rfl| .bool,_=>rfl| .str,_=>rfl| .arr _ _,_=>rfl| .sl _,_=>rfl| .unit,_=>rfl| .opq,_=>rfl
structure Cn(P:Program) where
 f:Nat
 F:Fn
 own:Bool
 mine:own=true->MI P f F/\oJ P f
 ext:own=false->vO P f F
theorem Cn.ok{P:Program}:(c:Cn P)->Callee P c.f c.F
 |⟨_,_,true,h,_⟩=>.inl (h rfl)
 |⟨_,_,false,_,h⟩=>.inr (h rfl)
def ce{P:Program}(f:Nat)(F:Fn)(h:vO P f F):Cn P:=⟨f,F,false,(fun h=>by cases h),fun _=>h⟩
def co{P:Program}(f:Nat)(F:Fn)(h:MI P f F/\oJ P f):Cn P:=⟨f,F,true,fun _=>h,(fun h=>by cases h)⟩
structure Sn(P:Program) where
 f:Nat
 q:MM
 ok:JF P f q.h
 nm:oJ P f
def W9{P:Program}(l:List (Sn P)):List (Nat×List MM):=l.map fun s=>(s.f,l.filterMap fun t=>match beq t.f s.f with
 |true=>some t.q
 |false=>none)
theorem CM{P:Program}:∀l:List (Cn P),Er P (l.map fun c=>(c.f,c.F))
 |[]=>trivial
 |c::l=>⟨c.ok,CM l⟩
theorem uZ{P:Program}(f:Nat):∀l:List (Sn P),Et P f (l.filterMap fun t=>match beq t.f f with
 |true=>some t.q
 |false=>none)
 |[]=>trivial
 |t::l=>by
  rw[List.filterMap_cons];split
  ·exact uZ f l
  ·rename_i q h;split at h
   ·rename_i e;cases h;exact⟨eq_of_beq_eq_true e▸t.ok,uZ f l⟩
   ·cases h
theorem CN{P:Program}(m:List (Sn P)):∀l:List (Sn P),Es P (l.map fun s=>(s.f,m.filterMap fun t=>match beq t.f s.f with
 |true=>some t.q
 |false=>none))
 |[]=>trivial
 |s::l=>⟨⟨uZ s.f m,s.nm⟩,CN m l⟩
structure Gc where
 ty:List (Nat×Ty)
 ptr:List (Nat×Nat)
 mp:List (Nat×(Nat×Nat))
 inv:List (Nat×List (String×Nat))
def MU:Nat->Nat->Nat->List Nat
 |0,_,_=>[]
 |k+1,m,i=>match beq m 0 with
  |true=>[]
  |false=>match beq (m%2) 1 with
   |true=>i::MU k (m/2) (i+1)
   |false=>MU k (m/2) (i+1)
structure Dc(P:Program) where
 fn:Func
 js:List Nat
 cs:List (Cn P)
 ss:List (Sn P)
 site:List (Nat×Nat)
 live:List (Nat×Nat×Nat)
 norm:List (Nat×List Norm)
 frz:List Nat
 base:Nat
@[reducible] def Dc.C{P:Program}(D:Dc P)(G:Gc):Ctx:=⟨G.ty,G.ptr,G.mp,Sl (D.cs.map fun c=>(c.f,c.F)),U1 (W9 D.ss),D.site,Gv G.inv,D.live.map fun x=>(x.1,MU 600 x.2.1 x.2.2),D.norm,D.frz,D.base,0⟩
@[reducible] def Dc.c{P:Program}(D:Dc P):Code:=cB D.fn
structure FJ(P:Program)(G:Gc):Prop where
 ty:Fz P G.ty=true
 ptr:QM P G.ptr=true
 mp:Vo P G.mp=true
 inv:Qk P G.inv=true
 mix:P.follows .mixedOrders=true
theorem Ih{P:Program}{G:Gc}{D:Dc P}(h:FJ P G):iY P (D.C G):=CW h.ty h.ptr h.mp h.inv (CM D.cs) (CN D.ss D.ss)
def sr(i:Nat):Nat×V:=(i,.ref i 0 [])
def st(i j:Nat):Nat×V:=(i,.ref j 0 [])
def sd(i:Nat)(t:Ty):Nat×V:=(i,hD t)
def sc(i:Nat)(t:Ty):Nat×jX:=(i,hC t (hD t) false)
def se(i:Nat)(t:Ty)(v:V):Nat×jX:=(i,hC t v false)
def sb(i:Nat)(t:Ty)(u:Nat):Nat×jX:=(i,hB t u false)
def sz(i:Nat)(t:Ty)(u:Nat):Nat×jX:=(i,hB t u true)
def no{α:Type}:(t:Ty)->Cu t (Option α)
 | .pair _ b=>fun _=>no b
 | .int _=>none| .bool=>none| .str=>none| .arr _ _=>none| .sl _=>none| .unit=>none| .opq=>none
def kz{α:Type}{S:Px}:K S α:=no S.ps
@[reducible] def tu:List Ty->Ty
 |[]=>.unit
 |t::l=>.pair t (tu l)
@[reducible] def fm(ps:List Ty)(rs:List Ty)(r:Cu (tu ps) (Option (tu rs).den)):Fn:=⟨tu ps,tu rs,true,ap (tu ps) r⟩
@[reducible] def fo(ps:List Ty)(rs:Ty)(r:Cu (tu ps) (Option rs.den)):Fn:=⟨tu ps,rs,false,ap (tu ps) r⟩
@[reducible] def tE(pa:List V)(ph:aP)(ps:List Ty)(ra:V)(rh:aP)(rs:List Ty)(r:Cu (tu ps) (Option (tu rs).den)):Spec:=⟨pa,ph,tu ps,ra,rh,tu rs,ap (tu ps) r⟩
def Ug{R:Type}:(t:Ty)->(t.den->R)->Cu t R
 | .pair a b,f=>fun x=>Ug b fun y=>f (x,y)
 | .unit,f=>f ()
 | .int _,f=>f (0:Int)| .bool,f=>f false| .str,f=>f ([]:List Int)| .arr _ t,f=>f ([]:List t.den)| .sl t,f=>f ([]:List t.den)| .opq,f=>f ()
def e0{R:Px}{α:Type}(k:Nat)(r:K R α):List (Nat×dQ α):=[]
def ri{R:Px}:K R R.ps.den:=Ug R.ps some
theorem Sd{P:Program}{f:FuncId}{G:Gc}{F:Fn}(D:Dc P)(R:Px)(tp:Nat->K R F.rs.den->Cu F.ps (Option F.rs.den))(rf:K R F.rs.den)(W:Nat->K R F.rs.den->List (Nat×dQ F.rs.den))(hG:FJ P G)
  (hf:P.funcs[f]? =some D.fn) (h1:(D.fn.name== "runtime.NumGoroutine")=false) (hb:D.fn.body=some D.c) (hd:fK D.c=true)
  (hn:ble F.ps.parts D.fn.ntmps=true) (hp:F.run=ap F.ps (tp fuel rf))
  (ht:∀k x,dw k (W k rf) D.js (D.C G) D.c (Qr R rf) (start F D.fn.ntmps x)=ap F.ps (tp k rf) x)
  (hr:∀x,fin (D.C G) D.fn.results.toList F.rs F.multi .ret (R.pk x)=ap R.ps rf x)
  (hg:∀k,Good D.js (D.C G) k D.c (W k rf) (Qr R rf) (fin (D.C G) D.fn.results.toList F.rs F.multi)):MI P f F/\oJ P f:=
 ⟨vj (Ih hG) hG.mix hf hb hd F fuel (fun x=>by rw[oc];exact Nat.le_of_ble_eq_true hn) fun x r h=>mA _ (hg fuel) (Rm hr) ((ht fuel x).trans (by rw[<-h,hp])),qt hf h1 (by rw[hb];rfl)⟩
def cn{P:Program}{G:Gc}(f:Nat)(F:Fn)(D:Dc P)(R:Px)(tp:Nat->K R F.rs.den->Cu F.ps (Option F.rs.den))(rf:K R F.rs.den)(W:Nat->K R F.rs.den->List (Nat×dQ F.rs.den))(hG:FJ P G)
  (hf:P.funcs[f]? =some D.fn) (h1:(D.fn.name== "runtime.NumGoroutine")=false:=by kernel_rfl) (hb:D.fn.body=some D.c:=by kernel_rfl) (hd:fK D.c=true:=by kernel_rfl)
  (hn:ble F.ps.parts D.fn.ntmps=true:=by kernel_rfl) (hp:F.run=ap F.ps (tp fuel rf):=by kernel_rfl)
  (ht:∀k x,dw k (W k rf) D.js (D.C G) D.c (Qr R rf) (start F D.fn.ntmps x)=ap F.ps (tp k rf) x:=by intro k x;kernel_rfl)
  (hr:∀x,fin (D.C G) D.fn.results.toList F.rs F.multi .ret (R.pk x)=ap R.ps rf x:=by intro x;kernel_rfl)
  (hg:∀k,Good D.js (D.C G) k D.c (W k rf) (Qr R rf) (fin (D.C G) D.fn.results.toList F.rs F.multi):=by
   intro k;repeat' (first|exact trivial|apply And.intro|(refine fun _=>?_)|kernel_rfl)):Cn P:=
 co f F (Sd D R tp rf W hG hf h1 hb hd hn hp ht hr hg)
theorem Tp{P:Program}{f:FuncId}{G:Gc}{q:Spec}(D:Dc P)(R:Px)(tp:Nat->K R q.rs.den->Cu q.ps (Option q.rs.den))(rf:K R q.rs.den)(W:Nat->K R q.rs.den->List (Nat×dQ q.rs.den))(hG:FJ P G)
  (hf:P.funcs[f]? =some D.fn) (hb:D.fn.body=some D.c) (hd:fK D.c=true)
  (hn:ble q.pa.length D.fn.ntmps=true) (hl:wJ D.base q.ph=true) (hp:q.run=ap q.ps (tp fuel rf))
  (ht:∀k x,dw k (W k rf) D.js (D.C G) D.c (sJ (D.C G) (Qr R rf)) (q.start x D.fn.ntmps)=ap q.ps (tp k rf) x)
  (hr:∀x,xE (D.C G) D.fn.results.toList q.read .ret (R.pk x)=ap R.ps rf x)
  (hg:∀k,Good D.js (D.C G) k D.c (W k rf) (sJ (D.C G) (Qr R rf)) (sJ (D.C G) (xE (D.C G) D.fn.results.toList q.read))):JF P f q.h:=
 BV (Ih hG) hG.mix hf hb hd q fuel hn hl fun x r h=>mA _ (hg fuel) (JX (Rm hr)) ((ht fuel x).trans (by rw[<-h,hp]))
def sn{P:Program}{G:Gc}(f:Nat)(q:Spec)(D:Dc P)(R:Px)(tp:Nat->K R q.rs.den->Cu q.ps (Option q.rs.den))(rf:K R q.rs.den)(W:Nat->K R q.rs.den->List (Nat×dQ q.rs.den))(hG:FJ P G)
  (hf:P.funcs[f]? =some D.fn) (h1:(D.fn.name== "runtime.NumGoroutine")=false:=by kernel_rfl) (hb:D.fn.body=some D.c:=by kernel_rfl) (hd:fK D.c=true:=by kernel_rfl)
  (hn:ble q.pa.length D.fn.ntmps=true:=by kernel_rfl) (hl:wJ D.base q.ph=true:=by kernel_rfl) (hp:q.run=ap q.ps (tp fuel rf):=by kernel_rfl)
  (ht:∀k x,dw k (W k rf) D.js (D.C G) D.c (sJ (D.C G) (Qr R rf)) (q.start x D.fn.ntmps)=ap q.ps (tp k rf) x:=by intro k x;kernel_rfl)
  (hr:∀x,xE (D.C G) D.fn.results.toList q.read .ret (R.pk x)=ap R.ps rf x:=by intro x;kernel_rfl)
  (hg:∀k,Good D.js (D.C G) k D.c (W k rf) (sJ (D.C G) (Qr R rf)) (sJ (D.C G) (xE (D.C G) D.fn.results.toList q.read)):=by
   intro k;repeat' (first|exact trivial|apply And.intro|(refine fun _=>?_)|kernel_rfl)):Sn P:=
 ⟨f,.one q,Tp D R tp rf W hG hf hb hd hn hl hp ht hr hg,qt hf h1 (by rw[hb];rfl)⟩
def Px.Wn(S:Px)(st:St):Option S.ps.den:=match both (rU (Ui S.n 0 S.f) st.fr) (uq S.h st.hp)with
 |some l=>match Fs S.V1 l with
  |some l=>getArgs S.ps l
  |none=>none
 |none=>none
theorem Ps{S:Px}{st:St}{x:S.ps.den}(h:S.Wn st=some x):st=S.pk x:=by
 unfold Px.Wn at h;split at h
 ·rename_i l hl;split at h
  ·rename_i l' hl';obtain⟨a,b,h1,h2,rfl⟩:=jb hl;unfold Px.pk;rw[iW _ _ _ h,zZ hl',mu _ _ _ _ h1];simp only;have:=oS _ _ _ [] h2;rw[append_nil]at this;rw[this]
  ·cases h
 ·cases h
structure Al(α:Type) where
 R:Px
 f:K R α
def QA{α:Type}:List (Al α)->Ex->St->Option α
 |[],_,_=>none
 |a::l,e,S=>match e with
  | .ret=>match a.R.Wn S with
   |some x=>ap a.R.ps a.f x
   |none=>QA l e S
  |_=>none
def PM{α:Type}(q:Ex->St->Option α):List (Al α)->Prop
 |[]=>True
 |a::l=>(∀x,q .ret (a.R.pk x)=ap a.R.ps a.f x)/\PM q l
theorem Rl{α:Type}{q:Ex->St->Option α}:∀{l:List (Al α)},PM q l->PR (QA l) q
 |[],_,e,S,y,h=>by cases h
 |a::l,hq,e,S,y,h=>by
  cases e with
  |ret=>
   simp only[QA]at h;split at h
   ·rename_i x hx;rw[Ps hx];exact(hq.1 x).trans h
   ·exact Rl hq.2 .ret S y h
  |_=>cases h
theorem U0{P:Program}{f:FuncId}{G:Gc}{q:oK}(D:Dc P)(tp:Nat->Cu q.ps (Option (ue q.alts)))(l:List (Al (ue q.alts)))(W:Nat->List (Nat×dQ (ue q.alts)))(hG:FJ P G)
  (hf:P.funcs[f]? =some D.fn) (hb:D.fn.body=some D.c) (hd:fK D.c=true)
  (hn:ble q.pa.length D.fn.ntmps=true) (hl:wJ D.base q.ph=true) (hp:q.run=ap q.ps (tp fuel))
  (ht:∀k x,dw k (W k) D.js (D.C G) D.c (sJ (D.C G) (QA l)) (q.start x D.fn.ntmps)=ap q.ps (tp k) x)
  (hr:PM (xE (D.C G) D.fn.results.toList q.read) l)
  (hg:∀k,Good D.js (D.C G) k D.c (W k) (sJ (D.C G) (QA l)) (sJ (D.C G) (xE (D.C G) D.fn.results.toList q.read))):JF P f q.h:=
 HF (Ih hG) hG.mix hf hb hd q fuel hn hl fun x r h=>mA _ (hg fuel) (JX (Rl hr)) ((ht fuel x).trans (by rw[<-h,hp]))
def sa{P:Program}{G:Gc}(f:Nat)(q:oK)(D:Dc P)(tp:Nat->Cu q.ps (Option (ue q.alts)))(l:List (Al (ue q.alts)))(W:Nat->List (Nat×dQ (ue q.alts)))(hG:FJ P G)
  (hf:P.funcs[f]? =some D.fn) (h1:(D.fn.name== "runtime.NumGoroutine")=false:=by kernel_rfl) (hb:D.fn.body=some D.c:=by kernel_rfl) (hd:fK D.c=true:=by kernel_rfl)
  (hn:ble q.pa.length D.fn.ntmps=true:=by kernel_rfl) (hl:wJ D.base q.ph=true:=by kernel_rfl) (hp:q.run=ap q.ps (tp fuel):=by kernel_rfl)
  (ht:∀k x,dw k (W k) D.js (D.C G) D.c (sJ (D.C G) (QA l)) (q.start x D.fn.ntmps)=ap q.ps (tp k) x:=by intro k x;kernel_rfl)
  (hr:PM (xE (D.C G) D.fn.results.toList q.read) l:=by repeat' (first|exact trivial|apply And.intro|(refine fun _=>?_)|kernel_rfl))
  (hg:∀k,Good D.js (D.C G) k D.c (W k) (sJ (D.C G) (QA l)) (sJ (D.C G) (xE (D.C G) D.fn.results.toList q.read)):=by
   intro k;repeat' (first|exact trivial|apply And.intro|(refine fun _=>?_)|kernel_rfl)):Sn P:=
 ⟨f,.alt q,U0 D tp l W hG hf hb hd hn hl hp ht hr hg,qt hf h1 (by rw[hb];rfl)⟩
@[reducible] def WS(pa:List V)(ph:aP)(ps:List Ty)(al:List rZ)(r:Cu (tu ps) (Option (ue al))):oK:=⟨pa,ph,tu ps,al,ap (tu ps) r⟩
end Go.Bx
