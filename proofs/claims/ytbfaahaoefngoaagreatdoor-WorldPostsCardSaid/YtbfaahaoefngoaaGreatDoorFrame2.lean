/- A part of a framework that reads Go code as functions of plain data. -/
import Derived.Test.YtbfaahaoefngoaaGreatDoorFrame1
import Derived.Orders
open Bool (and_eq_true or_eq_true)
open Int (toNat)
open List (length_take map_congr_left map_cons map_map mem_append mem_append_right mem_cons mem_cons_of_mem mem_map mem_map_of_mem mem_singleton)
open Nat (beq beq_refl blt eq_of_beq_eq_true le_refl min_comm mul_one)
open Option (bind_eq_some_iff bind_some map_eq_some_iff)
set_option maxRecDepth 100000
set_option linter.unusedVariables false
set_option linter.unusedSimpArgs false
namespace Go.Bx
open Go Go.RowKit
section
variable {P:Program}{C:Ctx}{G:GE}{fr:List V}{ρ:Operand->Value}{tm:Array Value}
theorem xb(w:World){τ:Ty}{t:TypeId}(ht:jo P τ t){b o:Nat}{arr:Array Value}{ty:TypeId}(hw:w.heap[b]? =some (.cells arr ty (0,0))){x:Value}(hsz:x.cells.size=τ.size)(hfit:o+x.cells.size<=arr.size)(hone:∀c∈x.cells.toList,fC c):
  (Instr.storeAt t (.pointer (some ⟨b,o,none⟩)) x).run P w= .ok () (w.setRow b (lay arr.toList o x.cells.toList).toArray):=by
 have hst:=run_storeCells_at P b o ty x.cells.toList 0 arr w hw (by simpa using hfit) fun v hv=>rj (hone v hv);simp only[Nat.add_zero]at hst;simp only[Instr.storeAt,Instr.sureAddr,storeVar,Sem.run_bind,Sem.run_pure,Result.andThen_ok,dn w ht.info,hsz,ne_eq,not_true_eq_false,if_false,hst,lay]
theorem kl.skip{s:Sem Unit}{w':World}{β':Nat->Option Nat}{σ':Nat->Value}{hp':aP}(hr:s.run P G.w= .ok () w')(t1:Tr G ⟨w',β',σ',hp',G.n0,G.Bo,G.I0⟩)(t2:cW ⟨w',β',σ',hp',G.n0,G.Bo,G.I0⟩):kl P G tm (do s;pure .skip) .any hp':=
 ⟨.skip,undef,w',β',σ',by simp only[Sem.run_bind,hr,Result.andThen_ok,Sem.run_pure],.inr ⟨rfl,rfl⟩,t1,t2,by simp only[bC]⟩
theorem kl.after{G1:GE}(t:Tr G G1)(hw:G1.w=G.w)(hn:G1.n0=G.n0)(hb:G1.Bo=G.Bo)(hi:G1.I0=G.I0){s:Sem Next}{v:V}{hp':aP}(h:kl P G1 tm s v hp'):kl P G tm s v hp':=by obtain⟨r,x,w',β',σ',h1,h2,h3,h4,h5⟩:=h;rw[hw]at h1;rw[hn,hb,hi]at h3 h4 h5;exact⟨r,x,w',β',σ',h1,h2,t.trans h3,h4,h5⟩
theorem MQ{τ:Ty}{E:Env}{l:List τ.den}{css:List (List Value)}(h:df (an E τ) l css)(i:Nat)(a:τ.den)(b:List Value)(hab:an E τ a b):df (an E τ) (l.set i a) (css.set i b):=h.set i a b hab
theorem cW.Pm(h:cW G){id:Nat}{τ:Ty}{l:List τ.den}{ver:Nat}(hb:aw G.hp id=some (.buf τ l ver false)){b:Nat}{arr:Array Value}{ty:TypeId}{css:List (List Value)}{cap:Nat}{rest:List Value}(hβ:G.β id=some b)(hσ:G.σ id= .slice (some ⟨b,0,none⟩) l.length cap)(hw:G.w.heap[b]? =some (.cells arr ty (0,0)))
  (ha:df (an G.env τ) l css) (h1:arr.toList=css.flatten++rest) (h2:arr.size=cap*τ.size) (h3:l.length<=cap) (h4:cap<=maxLen) {i:Nat} (hi:i<l.length) {q:List Step} {o:Nat} {u:Ty} (ho:aX τ q=some (o,u)) {y:u.den} {ds:List Value} (hy:an G.env u y ds) {z:τ.den}
  (hz:rC τ (l.getD i τ.zero) q u y=some z):
  i*τ.size+o+ds.length<=arr.size/\Tr G ⟨G.w.setRow b (lay arr.toList (i*τ.size+o) ds).toArray,G.β,G.σ,fR G.hp id (.buf τ (l.set i z) ver false),G.n0,G.Bo,G.I0⟩/\cW ⟨G.w.setRow b (lay arr.toList (i*τ.size+o) ds).toArray,G.β,G.σ,fR G.hp id (.buf τ (l.set i z) ver false),G.n0,G.Bo,G.I0⟩:=by
 have hlen:=df.dX (fun a cs h=>an.length τ a cs h) ha;obtain⟨hm,hr⟩:=ha.get i hi;have hgd:(l:List τ.den).getD i τ.zero=l[i]:=by simp[List.getD,List.getElem?_eq_getElem hi]
 rw[hgd]at hz;obtain⟨_,hle,hf⟩:=oH τ l[i] css[i] q o u u y z ds hr ho hz hy;have hcl:=an.length _ _ _ hr;have hmul:(i+1)*τ.size<=l.length*τ.size:=Nat.mul_le_mul_right _ (by omega);rw[Nat.add_mul]at hmul;have hfit:i*τ.size+o+ds.length<=css.flatten.length:=by omega
 have hal:arr.toList.length=css.flatten.length+rest.length:=by rw[h1,List.length_append]
 have hsz:arr.size=arr.toList.length:=by simp
 have hlay:lay arr.toList (i*τ.size+o) ds=(css.set i (lay css[i] o ds)).flatten++rest:=by rw[h1,oY _ _ _ _ hfit,Aj (fun a cs h=>an.length τ a cs h) ha i hm o ds (by omega)]
 have hll:(lay arr.toList (i*τ.size+o) ds).length=arr.toList.length:=by simp only[lay,List.length_append,length_take,List.length_drop];omega
 refine⟨by omega,?_⟩;have:=h.jn (id:=id) (blk':=.buf τ (l.set i z) ver false) (w':=G.w.setRow b (lay arr.toList (i*τ.size+o) ds).toArray) (ob:=G.β id) (sv:=G.σ id) (by simp) rfl rfl rfl
  (fun b' _ hne=>setRow_other G.w b b' _ (fun e=>hne _ hb (by rw[e];exact hβ))) (fun b' e=>⟨by simpa using h.lt hb e,.inr ⟨_,hb,e⟩⟩)
  (fun blk hb'=>by
   rw[hb]at hb';cases hb';refine⟨(fun b' _ m hm=>by simp only[jX.im]at hm;cases hm.1),fun v=>?_⟩;simp only[gA];exact⟨fun h=>h,fun _ e=>⟨e,trivial,cq _ _ _,cq _ _ _,by simp⟩⟩)
  fun hE hK=>.inl ⟨b,_,ty,css.set i (lay css[i] o ds),cap,rest,(cq _ _ _).trans hβ,(cq _ _ _).trans (by rw[hσ];simp),setRow_heap G.w b arr _ ty _ hw,(MQ ha i z _ hf).mono fun _ _ h=>h.ext hE,by simpa using hlay,by rw[List.size_toArray,hll,<-hsz,h2],by simpa using h3,h4⟩
 rwa [GE.cq]at this
theorem Ac:∀{τ:Ty}{x:τ.den}{q:List Step}{t':Ty}{y:t'.den}{z:τ.den}{o:Nat}{u:Ty},rC τ x q t' y=some z->aX τ q=some (o,u)->u=t'
 |τ,x,[],t',y,z,o,u,h,ho=>by
  obtain⟨rfl,rfl⟩:=mE ho;have:uv t' u y=some z:=by cases u<;>simpa[rC]using h
  obtain⟨e,_⟩:=il this;exact e.symm
 | .arr n t,l,.idx i::p,t',y,z,o,u,h,ho=>by
  simp only[aX]at ho;split at ho
  ·cases h2:aX t p with
   |none=>simp[h2]at ho
   |some q=>simp[h2]at ho;obtain⟨rfl,rfl⟩:=ho;simp only[rC]at h;obtain⟨w,hw,_⟩:=Option.map_eq_some_iff.1 h;exact Ac hw h2
  ·cases ho
 | .pair a _,x,.fld 0::p,t',y,z,o,u,h,ho=>by simp only[aX]at ho;simp only[rC]at h;obtain⟨w,hw,_⟩:=Option.map_eq_some_iff.1 h;exact Ac hw ho
 | .pair a b,x,.fld (j+1)::p,t',y,z,o,u,h,ho=>by
  simp only[aX]at ho;cases h2:aX b (.fld j::p)with
  |none=>simp[h2]at ho
  |some q=>simp[h2]at ho;obtain⟨rfl,rfl⟩:=ho;simp only[rC]at h;obtain⟨w,hw,_⟩:=Option.map_eq_some_iff.1 h;exact Ac hw h2
 | .int _,_,_::_,_,_,_,_,_,_,ho=>by simp[aX]at ho
 | .bool,_,_::_,_,_,_,_,_,_,ho=>by simp[aX]at ho
 | .str,_,_::_,_,_,_,_,_,_,ho=>by simp[aX]at ho
 | .sl _,_,_::_,_,_,_,_,_,_,ho=>by simp[aX]at ho
 | .unit,_,_::_,_,_,_,_,_,_,ho=>by simp[aX]at ho
 | .opq,_,_::_,_,_,_,_,_,_,ho=>by simp[aX]at ho
 | .arr _ _,_,.fld _::_,_,_,_,_,_,_,ho=>by simp[aX]at ho
 | .pair _ _,_,.idx _::_,_,_,_,_,_,_,ho=>by simp[aX]at ho
theorem OC(w:World){t e:TypeId}{inf:TypeInfo}{z:Value}(hu:P.underlying t=some (.slice e))(hi:P.info? e=some inf)(hz:inf.zero=some z)(n m:Int)(h0:0<=n)(hm:m=n)(hb:n.toNat*inf.bytes<=140737488355328)(h2:n.toNat<=140737488355328):
  (Instr.makeSlice t (.int .i64 n) (.int .i64 m)).run P w= .ok (.slice (some ⟨w.heap.size,0,none⟩) n.toNat n.toNat) (w.alloc (.cells (madeCells z.cells (n.toNat*inf.size)) e)):=by
 subst hm;have hb':(inf.bytes:Int)*m<=281474976710656:=by grind
 exact run_make (P:=P) w t e inf z hu hi hz .i64 .i64 m m h0 (Int.le_refl _) hb' (by omega)
theorem IQ{τ:Ty}{z:Value}{s:Nat}(hzc:zJ τ z.cells.toList)(hpl:τ.plain=true)(hs:s=τ.size)(n:Nat):(madeCells z.cells (n*s)).toList=(List.replicate n (zc τ)).flatten:=by
 subst hs;have hz2:=m9 _ _ hpl hzc;have hzl:z.cells.size=τ.size:=by rw[<-Array.length_toList,hz2];exact an.length (E:=⟨default,fun _ _=>False⟩) _ _ _ (an.zero τ hpl)
 simp only[madeCells,Array.toList_map,Array.toList_range];have:=xZ (zc τ) τ.size (by rw[<-hz2,Array.length_toList,hzl]) n;grind
theorem M3{E:Env}{τ:Ty}(h1:τ.size=1){n:Nat}{l m:List τ.den}{cs:List Value}{cssM:List (List Value)}(hl:an E (.arr n τ) l cs)(hm:df (an E τ) m cssM){lo hi:Int}(k:Nat)(hk:k=hi.toNat-lo.toNat)(hlo:lo.toNat+k<=n):
  an E (.arr n τ) (Au l lo hi m) (lay cs lo.toNat (cssM.flatten.take k)):=by
 obtain⟨hln,css,rfl,ha⟩:=hl;have hln:List.length l=n:=hln;have hlM:=df.dX (fun a cs h=>an.length τ a cs h) hm;have hlL:=df.dX (fun a cs h=>an.length τ a cs h) ha;rw[h1,mul_one]at hlM hlL;have hcm:=hm.length;have hcl:=ha.length;subst hk;refine⟨?_,css.take lo.toNat++cssM.take (hi.toNat-lo.toNat)++css.drop (lo.toNat+min (List.length m) (hi.toNat-lo.toNat)),?_,?_⟩
 ·simp only[Au,List.length_append,length_take,List.length_drop];omega
 ·simp only[lay,List.flatten_append];rw[nZ (fun a cs h=>an.length τ a cs h) _ ha,nZ (fun a cs h=>an.length τ a cs h) _ hm,qU (fun a cs h=>an.length τ a cs h) _ ha,h1];simp only[mul_one,length_take,hlM];rw[min_comm]
 ·exact kD (kD (tO _ ha) (tO _ hm)) (tN _ ha)
theorem Qu{cs cs1 news:List Value}{o lo:Nat}(h:∀j x,cs1[j]? =some x->cs[o+j]? =some x)(hl:o+cs1.length<=cs.length)(hn:lo+news.length<=cs1.length):lay cs o (lay cs1 lo news)=lay cs (o+lo) news:=by
 have e1:(cs.drop o).take cs1.length=cs1:=rB h rfl;have e2:cs=cs.take o++(cs1++cs.drop (o+cs1.length)):=by have:=(List.take_append_drop o cs).symm;rw[<-List.take_append_drop cs1.length (cs.drop o),e1,List.drop_drop]at this;exact this
 have hto:(cs.take o).length=o:=by rw[length_take];omega
 have hll:(lay cs1 lo news).length=cs1.length:=by simp only[lay,List.length_append,length_take,List.length_drop];omega
 rw[e2];have k1:=ou (cs.take o) (cs1++cs.drop (o+cs1.length)) (lay cs1 lo news) 0;have k2:=ou (cs.take o) (cs1++cs.drop (o+cs1.length)) news lo;rw[hto]at k1 k2;rw[Nat.add_zero]at k1;rw[k1,k2,oY _ _ _ _ hn,oY _ _ _ _ (by omega),wH _ _ hll]
theorem FO{k:Nat}(h:k<=maxLen):bC G tm (.data (.int .i64) (k:Int)) (goInt k):=by unfold goInt;refine .mkInt ?_;rw[iE];unfold maxLen at h;simp[IntKind.min,IntKind.max,IntKind.bits,IntKind.signed];omega
def JG(P:Program)(G:GE)(τ:Ty)(m:List τ.den)(av:Value):Prop:=
 ∃css:List (List Value),df (an G.env τ) m css/\∀(t t' ty e:TypeId)(d:Option Addr)(dLen dCap:Nat),P.underlying t=some (.slice e)->(P.info? e).map (·.size)=some 1->
  (min m.length dLen=0->(Builtin.copy_ #[t,t'] ty #[.slice d dLen dCap,av]).run P G.w= .ok (goInt 0) G.w)/\
  (∀b o arr tyb,d=some ⟨b,o,none⟩->G.w.heap[b]? =some (.cells arr tyb (0,0))->min m.length dLen≠0->o+min m.length dLen<=arr.size->
   (Builtin.copy_ #[t,t'] ty #[.slice d dLen dCap,av]).run P G.w= .ok (goInt (min m.length dLen:Nat)) (G.w.setRow b (lay arr.toList o (css.flatten.take dLen)).toArray))
theorem Mi{τ:Ty}(hs1:τ.size=1){m:List τ.den}{av:Value}(hm:uf G τ m av):JG P G τ m av:=by
 obtain⟨ab,capM,cssM,rfl,hmc,hM,hMn,hMh⟩:=hm.holds;have hlM:=df.dX (fun a cs h=>an.length τ a cs h) hM;rw[hs1,mul_one]at hlM;refine⟨cssM,hM,fun t t' ty e d dLen dCap hu hsz=>⟨fun h0=>run_copy_none (P:=P) G.w t t' ty e d ab dLen dCap (List.length m) capM hu hsz h0,fun b o arr tyb hd hg h0 hfit=>?_⟩⟩;subst hd;have hnl:(cssM.flatten.take dLen).length=min (List.length m) dLen:=by rw[length_take,hlM,min_comm]
 cases ab with
 |none=>have:=hMn rfl;rw[this]at h0;simp at h0
 |some ad=>
  have hone:∀u∈cssM.flatten.take dLen,u.oneCell'=true:=fun u hu'=>rj (kX (fun a cs h v hv=>an.cell τ a cs h v hv) hM u (List.mem_of_mem_take hu'));have r1:=run_copy_row (P:=P) G.w t t' ty e b o dLen dCap ad (List.length m) capM arr tyb (cssM.flatten.take dLen) hu hsz hg (by rw[hnl];try rfl) (fun j v hj=>by
   rw[List.getElem?_take]at hj;split at hj
   ·exact hMh ad rfl j v hj
   ·cases hj) (by rw[hnl];exact hfit) hone
  rw[r1,hnl];simp only[lay,hnl]
theorem CA(w:World)(dT sT ty elem:TypeId)(g o dLen dCap:Nat)(s:ByteArray)(cur:Array Value)(t:TypeId)
  (hu:P.underlying dT=some (.slice elem)) (hs:(P.info? elem).map (·.size)=some 1) (hg:w.heap[g]? =some (.cells cur t (0,0))) (hfit:o+min s.size dLen<=cur.size):
  (Builtin.copy_ #[dT,sT] ty #[.slice (some ⟨g,o,none⟩) dLen dCap,.string s]).run P w=
   .ok (goInt (min s.size dLen:Nat)) (w.setRow g (lay cur.toList o ((s.data.toList.map fun b:UInt8=>Value.int IntKind.u8 (b.toNat:Int)).take (min s.size dLen))).toArray):=by
 have hlen:((s.data.toList.map fun b:UInt8=>Value.int IntKind.u8 (b.toNat:Int)).take (min s.size dLen)).length=min s.size dLen:=by simp_all
 have hone:∀v∈(s.data.toList.map fun b:UInt8=>Value.int IntKind.u8 (b.toNat:Int)).take (min s.size dLen),v.oneCell'=true:=fun v hv=>by have:=List.mem_of_mem_take hv;simp only[mem_map]at this;obtain⟨b,_,rfl⟩:=this;rfl
 have hst:=run_storeCells_at P g o t ((s.data.toList.map fun b:UInt8=>Value.int IntKind.u8 (b.toNat:Int)).take (min s.size dLen)) 0 cur w hg (by rw[hlen];simpa using hfit) hone;rw[hlen]at hst;simp only[Nat.add_zero]at hst;have hmin:Nat.min s.size dLen=min s.size dLen:=rfl;cases hq:P.info? elem with
 |none=>simp[hq]at hs
 |some i=>simp[Builtin.copy_,run_underlying hu,Builtin.lenOf,Builtin.firstCells,sizeOf,typeInfo,hq,hmin];unfold lay;rw[hlen];rw[hst];simp[Result.andThen]
theorem Ai{E:Env}:∀l:List UInt8,df (an E (.int .u8)) (l.map fun b=>(b.toNat:Int)) (l.map fun b=>[Value.int IntKind.u8 (b.toNat:Int)])
 |[]=>trivial
 |b::l=>by refine⟨⟨rfl,?_⟩,Ai l⟩;have:=b.toNat_lt;rw[iE];simp[IntKind.min,IntKind.max,IntKind.bits,IntKind.signed];omega
theorem yH:∀l:List UInt8,(l.map fun b=>[Value.int IntKind.u8 (b.toNat:Int)]).flatten=l.map fun b=>Value.int IntKind.u8 (b.toNat:Int)
 |[]=>rfl
 |b::l=>by simp[yH l]
theorem Pk{m:List Int}{av:Value}(hm:i5 G.env .str m av):JG P G (.int .u8) m av:=by
 obtain⟨s,hc,hb,_⟩:=(show an G.env .str m [av] from hm)
 cases hc;have hl:(s.data.toList).length=s.size:=Array.length_toList;subst hb;have hml:(bytesOf s).length=s.size:=by unfold bytesOf;rw[List.length_map,hl]
 refine⟨s.data.toList.map fun b=>[Value.int IntKind.u8 (b.toNat:Int)],Ai _,fun t t' ty e d dLen dCap hu hsz=>⟨fun h0=>?_,fun b o arr tyb hd hg h0 hfit=>?_⟩⟩
 ·rw[hml]at h0;cases hq:P.info? e with
  |none=>simp[hq]at hsz
  |some i=>have hmin:Nat.min s.size dLen=0:=h0;cases d<;>simp[Builtin.copy_,run_underlying hu,Builtin.lenOf,Builtin.firstCells,sizeOf,typeInfo,hq,hmin,storeCells]
 ·subst hd;rw[hml]at hfit⊢;rw[CA G.w t t' ty e b o dLen dCap s arr tyb hu hsz hg hfit,yH];congr 3;rw[show∀(l:List Value),l.length=s.size->l.take (min s.size dLen)=l.take dLen from fun l h=>by rw[<-h];simp[List.take_eq_take_iff,min_comm]];grind
theorem Q5{τ:Ty}{y:List Int}{m:List τ.den}{av:Value}(h:KZ (.data .str y) τ=some m)(hm:i5 G.env .str y av):JG P G τ m av:=by
 cases τ with
 |int k=>cases k<;>first|(cases h;exact Pk hm)|cases h
 |_=>cases h
theorem Lc(hC:iY P C)(hR:cW G){τ:Ty}{t t' ty:TypeId}(ht:look C.ty t=some (.sl τ)){x xv:V}{bv av:Value}(hx:bC G tm x bv)(hxs:bC G tm xv av)
  {c:Prop} {i:Decidable c} {v:V} {hp':aP} {wr:List Nat} (h:yC G.hp τ x (rd G.hp xv)=some (.eff c i v hp' wr)):
  kl P G tm (do pure (.value (<-Builtin.copy_ #[t,t'] ty #[bv,av]))) v hp':=by
 obtain⟨e,hu,hte,_⟩:=hC.ty _ _ ht;unfold yC at h;split at h
 ·rename_i id p τ1 n lo hi m hadd;have hm:τ.size=1->JG P G τ m av:=fun hs1=>by
   cases hrd:rd G.hp xv with
   |data t2 y=>
    rw[hrd]at hadd;cases t2 with
    |sl t3=>simp only[KZ,oM]at hadd;obtain⟨e,he⟩:=il hadd;cases e;subst he;exact Mi hs1 (Hp hR hxs hrd)
    |str=>exact Q5 hadd (O5 hxs hrd)
    |_=>simp[KZ,oM]at hadd
   |_=>rw[hrd]at hadd;simp[KZ,oM]at hadd
  split at h
  ·rename_i σ cv hb;split at h
   ·rename_i n' τ2 l hgv;split at h
    ·rename_i hτ;subst hτ;split at h
     ·rename_i hns;obtain⟨rfl,hs1⟩:=hns;split at h
      ·rename_i v' hset;obtain⟨_,rfl,rfl,rfl⟩:=lO h;simp only[bC]at hx;unfold lj at hx;rw[hb]at hx;obtain⟨b,o,e1,e2,e3,e4,e5,e6,e7⟩:=hx;obtain⟨b',arr,tyb,g1,g2,g3⟩:=hR.cell hb;rw[e1]at g1;cases g1;obtain⟨cs1,f1,f2,f3⟩:=ot p g3 e2;rw[hgv]at f1;obtain⟨eτ,f1'⟩:=f1.AM;cases eτ;have f1:an G.env (.arr n' τ1) l cs1:=f1';obtain⟨cssM,hM,hrun⟩:=hm hs1;have hlM:=df.dX (fun a cs h=>an.length τ1 a cs h) hM;rw[hs1,mul_one]at hlM;have hcs1:=an.length _ _ _ f1;have hcs1:cs1.length=n':=by rw[hcs1];simp[Ty.size,hs1]
       have hk:lo.toNat+(hi.toNat-lo.toNat)<=n':=by omega
       have hfl:=M3 hs1 f1 hM (lo:=lo) (hi:=hi) _ rfl hk;have hnl:(cssM.flatten.take (hi.toNat-lo.toNat)).length=min (List.length m) (hi.toNat-lo.toNat):=by rw[length_take,hlM,min_comm]
       obtain⟨s1,s2⟩:=qz p g3 e2 (dZ.je hfl) hset;have hlay:=Qu f2 f3 (by rw[hnl,hcs1];omega:lo.toNat+(cssM.flatten.take (hi.toNat-lo.toNat)).length<=cs1.length);rw[hlay]at s2;obtain⟨t1,t2⟩:=hR.Eg hb e1 g2 (arr':=(lay arr.toList (o+lo.toNat) (cssM.flatten.take (hi.toNat-lo.toNat))).toArray) (by simpa using s2);have hsz:(P.info? e).map (·.size)=some 1:=by obtain⟨inf,_,k1,k2,_⟩:=hte.info;grind
       have hkm:min (List.length m) (hi.toNat-lo.toNat)<=maxLen:=by omega
       by_cases h0:min (List.length m) (hi.toNat-lo.toNat)=0
       ·have hnews:cssM.flatten.take (hi.toNat-lo.toNat)=[]:=List.eq_nil_of_length_eq_zero (by rw[hnl,h0]);have harr:(lay arr.toList (o+lo.toNat) (cssM.flatten.take (hi.toNat-lo.toNat))).toArray=arr:=by
         rw[hnews];simp[lay]
        rw[harr,setRow_self _ _ _ _ _ g2]at t1 t2;have r1:=(hrun t t' ty e (some (if lo.toNat=n' then⟨b,o,none⟩else⟨b,o+lo.toNat*τ1.size,none⟩)) (hi.toNat-lo.toNat) (n'-lo.toNat) hu hsz).1 h0;rw[<-e7]at r1;have hz:=FO (G:=⟨G.w,G.β,G.σ,fR G.hp id (.cell σ v' false),G.n0,G.Bo,G.I0⟩) (tm:=tm) hkm;rw[h0]at hz⊢;exact kl.mk r1 t1 t2 hz
       ·have hne:lo.toNat≠n':=by omega
        rw[if_neg hne,hs1,mul_one]at e7;have hfit:o+lo.toNat+min (List.length m) (hi.toNat-lo.toNat)<=arr.size:=by grind
        have r1:=(hrun t t' ty e (some ⟨b,o+lo.toNat,none⟩) (hi.toNat-lo.toNat) (n'-lo.toNat) hu hsz).2 b (o+lo.toNat) arr tyb rfl g2 h0 hfit;rw[<-e7]at r1;exact kl.mk r1 t1 t2 (FO hkm)
      ·cases h
     ·cases h
    ·cases h
   ·cases h
  ·cases h
 ·cases h
theorem Nb(hC:iY P C)(hR:cW G)(hL:uW G tm fr ρ){g:Option Gd}(hg:MD g tm)(o:Oper){c:Prop}{i:Decidable c}{v:V}{hp':aP}{wr:List Nat}(hv:oR C g fr G.hp o.dst o.op=some (.eff c i v hp' wr))(hc:c):kl P G tm (execOp ρ o) v hp':=by
 obtain⟨dst,op,type,pos,after,guard⟩:=o;simp only at hv;cases op<;>simp only[oR,reduceCtorEq]at hv
 case alloc t=>
  split at hv
  ·rename_i τ d hτ;split at hv
   ·rename_i hf;obtain⟨rfl,rfl,rfl,rfl⟩:=lO hv;have htk:=hC.ty _ _ hτ;obtain⟨z,hz1,hz2,_⟩:=ua (P:=P) G.w htk.info;have hrun:(Instr.alloc t true (.tuple #[])).run P G.w= .ok (.pointer (some ⟨G.w.heap.size,0,none⟩)) (G.w.alloc (.cells z.cells t)):=by
     simp only[Instr.alloc,Sem.run_bind,hz1,Result.andThen_ok];rfl
    obtain⟨t1,t2,t3⟩:=hR.Kn hf (na (G:=G) τ _ htk.chained hz2) t;exact kl.mk hrun t1 t2 (by simpa only[bC]using t3)
   ·cases hv
  ·cases hv
 case box t x=>
  split at hv
  ·rename_i τ d hτ;split at hv
   ·rename_i hf;simp only[and_eq_true]at hf;obtain⟨rfl,rfl,rfl,rfl⟩:=lO hv;have hrun:(Instr.box t (ρ x)).run P G.w= .ok (.pointer (some ⟨G.w.heap.size,0,none⟩)) (G.w.alloc (.cells (ρ x).cells t)):=by
     rfl
    obtain⟨t1,t2,t3⟩:=hR.Kn hf.1 (oo hf.2 (hL.un hg x)).1 t;exact kl.mk hrun t1 t2 (by simpa only[bC]using t3)
   ·cases hv
  ·cases hv
 case store t x y=>
  split at hv
  ·rename_i τ id ver p hτ heq;have htk:=hC.ty _ _ hτ;have hx:=hL.ud hg x;rw[heq]at hx;simp only[bC]at hx;split at hv
   ·rename_i σ cv hb;split at hv
    ·rename_i hfit;simp only[and_eq_true,decide_eq_true_eq]at hfit;split at hv
     ·rename_i v' hset;obtain⟨rfl,rfl,rfl,rfl⟩:=lO hv;obtain⟨b,o,e1,e2,e3⟩:=HN hx hb hfit.2;obtain⟨b',arr,ty,g1,g2,g3⟩:=hR.cell hb;rw[e1]at g1;cases g1;obtain⟨hyf,hys⟩:=oo hfit.1 (hL.un hg y).o7;obtain⟨hle,hvf⟩:=qz p g3 e2 hyf hset;have hrun:=xb (P:=P) G.w htk g2 (x:=ρ y) hys.size (o:=o) (by simpa using hle) hyf.one;rw[<-e3]at hrun;obtain⟨t1,t2⟩:=hR.Eg hb e1 g2 (arr':=(lay arr.toList o (ρ y).cells.toList).toArray) (by simpa using hvf);exact kl.skip hrun t1 t2
     ·cases hv
    ·cases hv
   ·rename_i hb0;split at hv
    ·rename_i σ l ver' hb;split at hv
     ·rename_i hver;have hver:=eq_of_beq_eq_true hver;subst hver;split at hv
      ·rename_i i0 q0 τ' z hrd;split at hv
       ·rename_i hττ;subst hττ;split at hv
        ·rename_i z' hz;obtain⟨rfl,rfl,rfl,rfl⟩:=lO hv;obtain⟨t0,k0⟩:=vl (dd (un g (ev fr y))) G hR;have hy:=ya _ G hR (hL.ud hg y) hrd;have hx':jY (G.fI (frz G.hp (dd (un g (ev fr y))))) id ver (.idx i0::q0) (ρ x):=hx.jE t0.kC rfl;unfold jY at hx';rw[show(G.fI (frz G.hp (dd (un g (ev fr y))))).hp=frz G.hp (dd (un g (ev fr y))) from rfl,hb]at hx';obtain⟨b,i1,q1,o,u,f1,f2,f3,f4,f5,f6⟩:=hx'.2.2 rfl;cases f1;rcases k0.blk _ _ hb with ⟨b',arr,ty,css,cap,rest,g1,g2,g3,g4,g5,g6,g7,g8⟩|⟨g1,_⟩
         ·rw[f2]at g1;cases g1;have hyc:=hy.cells;have hcast:=Ac hz f5;subst hcast;obtain⟨k1,k2,k3⟩:=k0.Pm hb f2 g2 g3 g4 g5 g6 g7 g8 f4 f5 hyc hz;have hag:=hy.isAgg;have hrun:=xb (P:=P) G.w htk g3 (x:=ρ y) hag.2.2 (o:=i0.toNat*σ.size+o) (by simpa using k1) (an.cell _ _ _ hyc);rw[<-f6]at hrun;refine kl.after t0 rfl rfl rfl rfl ?_;exact kl.skip hrun k2 k3
         ·rw[f2]at g1;cases g1
        ·cases hv
       ·cases hv
      ·cases hv
     ·cases hv
    ·cases hv
   ·cases hv
  ·cases hv
 case buildSlice t n parts=>
  split at hv
  ·rename_i τ hτ;split at hv
   ·rename_i hcn;simp only[and_eq_true]at hcn;split at hv
    ·rename_i y hy;obtain⟨rfl,rfl,rfl,rfl⟩:=lO hv;obtain⟨e,hu,hte,_⟩:=hC.ty _ _ hτ;have hn:=Nat.le_of_ble_eq_true hcn.2;generalize hps:(parts.toList.map fun p=>dd (un g (ev fr p.2)))=ps;obtain⟨t0,k0⟩:=pA ps G hR;obtain⟨cs',r1,r2⟩:=tj (P:=P) (G:=G.fI (my G.hp ps)) (ρ:=ρ) hu hte hcn.1.1 (Nat.le_of_ble_eq_true hcn.1.2) (e:=fun x=>rd G.hp (dd (un g (ev fr x)))) (fun p hp=>by
      refine⟨fun t y he=>zf ps G hR (by rw[<-hps];exact List.mem_map.2 ⟨p,hp,rfl⟩) (hL.ud hg p.2) he,fun he=>?_⟩;have:=Kv he;have h2:=hL.ud hg p.2;rw[this]at h2;simpa only[bC]using h2) hy
     obtain⟨hl',css,hcs,hall⟩:=r2;have hb:Below G.w.heap.size G.w (G.w.alloc (.cells cs' e)):=(Below.refl _ _).alloc (le_refl _) _;obtain⟨t1,t2⟩:=k0.grow hb;have hsl:=IX k0 (Below.refl _ G.w) rfl (cap:=n) (rest:=[]) hl' hall (by rw[hcs];simp) (le_refl _) (by unfold maxLen;omega) e (0,0);refine kl.after t0 rfl rfl rfl rfl (kl.mk r1 t1 t2 ?_);simp only[bC];exact⟨hsl,_,_,rfl⟩
    ·cases hv
   ·cases hv
  ·cases hv
 case makeSlice t len cap=>
  split at hv
  ·rename_i τ d k n k' m hτ h1 h2;split at hv
   ·rename_i hf;simp only[and_eq_true,decide_eq_true_eq]at hf;obtain⟨⟨⟨hf,hpl⟩,rfl⟩,rfl⟩:=hf;obtain⟨rfl,rfl,rfl,rfl⟩:=lO hv;obtain⟨hc0,hmn,hfit⟩:=hc;obtain⟨e,hu,hte,_⟩:=hC.ty _ _ hτ;have hl:=hL.ud hg len;have hcp:=hL.ud hg cap;rw[h1]at hl;rw[h2]at hcp;have hl:=hl.int.1;have hcp:=hcp.int.1;obtain⟨inf,z,hi,hsz,hz,hzc,_,_,hby⟩:=hte.info;obtain⟨hf1,hf2⟩:=J2 hfit;have r1:=OC (P:=P) G.w hu hi hz n m hc0 hmn (by rw[hby];exact hf1) hf2;rw[<-hl,<-hcp]at r1;have hzs:=Eb hzc hte.chained;have hcells:=IQ hzc hpl hsz (toNat n);obtain⟨t1,t2,t3⟩:=hR.OK (id:=C.base+d) (τ:=τ) (l:=List.replicate (toNat n) τ.zero) (ver:=0) (fun blk hb=>by rw[mV hf]at hb;cases hb) (w1:=G.w) (Below.refl _ _) rfl
     (css:=List.replicate (toNat n) (zc τ)) (oO (an.zero τ hpl) _) (arr:=madeCells z.cells (toNat n*inf.size)) (rest:=[]) (cap:=toNat n) (by rw[hcells];simp) (by rw[size_madeCells,hsz]) (by simp) (by unfold maxLen;omega) e false
    refine kl.mk r1 t1 t2 ?_;simp only[bC];simpa using t3
   ·cases hv
  ·cases hv
 case slice t x lo hi mx=>
  split at hv
  ·rename_i id ver τ heq hτ;have hx:=hL.ud hg x;rw[heq]at hx;simp only[bC]at hx;split at hv
   ·rename_i τ' l ver' z hb;split at hv
    ·rename_i ht;obtain⟨rfl,hver⟩:=ht;have hver:=eq_of_beq_eq_true hver;subst hver;split at hv
     ·rename_i c' i' v' hsl;cases hv;unfold lh at hx;rw[hb]at hx;have hx:=hx.2.2 rfl;obtain⟨e,hu,hte,_⟩:=hC.ty _ _ hτ;obtain⟨t0,k0⟩:=vl (.app id ver) G hR;have hfz:=qE k0 (id:=id) (t:=τ) (l:=l) (ver:=ver) (by simp only[frz,hb];rw[bO,if_pos rfl];rfl);obtain⟨y,r1,r2⟩:=vG (P:=P) G.w hu hte (fun x=>hL.ud hg x) hfz hsl hc;rw[show(G.fI (frz G.hp (.app id ver))).σ id=G.σ id from rfl,<-hx]at r1;refine kl.mk r1 t0 k0 ?_;rcases r2 with ⟨a,b,rfl,r3⟩|⟨a,b,rfl,r3,ad,n,r4⟩
      ·simp only[bC];exact .gu r3 rfl
      ·simp only[bC];exact⟨r3,ad,n,r4⟩
     ·cases hv
    ·cases hv
   ·cases hv
  ·cases hv
 case makeMap t r=>
  split at hv
  ·rename_i tk tv d hmp;split at hv
   ·rename_i κ ν h1 h2;split at hv
    ·rename_i hf;obtain⟨rfl,rfl,rfl,rfl⟩:=lO hv;have hn:=mV hf;obtain⟨t1,t2⟩:=hR.jn (id:=C.base+d) (blk':=.map κ ν []) (w':=G.w.alloc (.map #[] 0)) (ob:=some G.w.heap.size) (sv:=.nilFunc) (by simp) rfl rfl rfl
      (fun b hb _=>Below.heap_alloc G.w _ b hb) (fun b e=>by cases e;exact⟨by simp,.inl (le_refl _)⟩) (fun blk hb=>by rw[hn]at hb;cases hb)
      fun hE hK=>⟨G.w.heap.size,#[],0,cq _ _ _,heap_alloc_new G.w _,trivial,rfl,fun i e he=>by simp at he⟩
     have hrun:(Instr.makeMap t none).run P G.w= .ok (.map (some G.w.heap.size)) (G.w.alloc (.map #[] 0)):=rfl;refine kl.mk hrun t1 t2 ?_;simp only[bC];unfold np;have:aw (G.jn (G.w.alloc (.map #[] 0)) (C.base+d) (some G.w.heap.size) .nilFunc (.map κ ν [])).hp (C.base+d)=some (.map κ ν []):=by simp only[GE.jn];rw[bO,if_pos rfl]
     rw[this];exact⟨G.w.heap.size,cq _ _ _,rfl⟩
    ·cases hv
   ·cases hv
  ·cases hv
 case mapEntry t m k=>
  split at hv
  ·rename_i tk tv id κ' x hmp h1 h2;split at hv
   ·rename_i κ0 ν0 κ ν l hk hn hb;split at hv
    ·rename_i hκ;subst hκ;split at hv
     ·rename_i hcn;obtain⟨e1,e2,hkey,hpl,hsc⟩:=hcn;subst e1;subst e2;obtain⟨rfl,rfl,rfl,rfl⟩:=lO hv;have hm:=hL.ud hg m;have hx:=hL.ud hg k;rw[h1]at hm;rw[h2]at hx;simp only[bC]at hm hx;obtain⟨y,w',r1,t1,t2,t3⟩:=E5 (P:=P) (tm:=tm) hC hR hmp hk hn hkey hpl hb hm hx (Nat.le_of_ble_eq_true hc);exact kl.mk r1 t1 t2 t3
     ·cases hv
    ·cases hv
   ·cases hv
  ·cases hv
 case mapUpdate t m k y=>
  split at hv
  ·rename_i tk tv id κ' x ν' z hmp h1 h2 h3;split at hv
   ·rename_i κ0 ν0 κ ν l hk hn hb;split at hv
    ·rename_i hκ;subst hκ;split at hv
     ·rename_i hν;subst hν;split at hv
      ·rename_i hcn;obtain⟨e1,e2,hkey,hsc⟩:=hcn;subst e1;subst e2;obtain⟨rfl,rfl,rfl,rfl⟩:=lO hv;have hm:=hL.ud hg m;have hx:=hL.ud hg k;have hy:=hL.ud hg y;rw[h1]at hm;rw[h2]at hx;rw[h3]at hy;simp only[bC]at hm hx hy;obtain⟨w',r1,t1,t2⟩:=Cv (P:=P) hC hR hmp hk hkey hb hm hx hy;exact kl.skip r1 t1 t2
      ·cases hv
     ·cases hv
    ·cases hv
   ·cases hv
  ·cases hv
 case entryStore t m n y=>
  split at hv
  ·rename_i tk tv id k i ν' z hmp h1 h2 h3;split at hv
   ·rename_i ν0 κ ν l hn hb;split at hv
    ·rename_i hν;subst hν;split at hv
     ·rename_i hcn;obtain⟨rfl,rfl,rfl,rfl⟩:=lO hv;have hm:=hL.ud hg m;have hi:=hL.ud hg n;have hy:=hL.ud hg y;rw[h1]at hm;rw[h2]at hi;rw[h3]at hy;obtain⟨hi1,_⟩:=hi.int;simp only[bC]at hm hy;obtain⟨w',r1,t1,t2⟩:=AB (P:=P) (t:=t) (k:=k) hR hb hm hy hc.1 hc.2;rw[<-hi1]at r1;exact kl.skip r1 t1 t2
     ·cases hv
    ·cases hv
   ·cases hv
  ·cases hv
 case call c'=>
  split at hv
  ·rename_i hcal;split at hv
   ·rename_i x xs t t' hargs hts;split at hv
    ·rename_i htt;subst htt;split at hv
     ·rename_i τ hτ;have ha1:c'.args.map ρ= #[ρ x,ρ xs]:=by apply Array.ext';simp[hargs]
      have ha2:c'.argTypes= #[t,t]:=by apply Array.ext';simpa using hts
      have hxs:=(hL.ud hg xs).o7 (u:=.sl τ);cases hadd:oM (rd G.hp (o7 (.sl τ) (dd (un g (ev fr xs))))) τ with
      |none=>simp[nX,hadd]at hv
      |some m=>
       have hm:uf G τ m (ρ xs):=by
        cases hrd:rd G.hp (o7 (.sl τ) (dd (un g (ev fr xs))))with
        |data t2 y=>
         rw[hrd]at hadd;cases t2 with
         |sl t3=>simp only[oM]at hadd;obtain⟨e,he⟩:=il hadd;cases e;subst he;exact Hp hR hxs hrd
         |_=>simp[oM]at hadd
        |_=>rw[hrd]at hadd;simp[oM]at hadd
       have:=FM (P:=P) hC hR (ty:=type) hτ (hL.un hg x).o7 hm hadd hv hc;have hex:execOp ρ {dst,op:=.call c',type,pos,after,guard}=(do pure (.value (<-Builtin.append_ #[t,t] type #[ρ x,ρ xs]))):=by simp[execOp,resolve,hcal,ha1,ha2,invoke,builtin]
       rw[hex];exact this
     ·cases hv
    ·cases hv
   ·cases hv
  ·rename_i hcal;split at hv
   ·rename_i x xs t t' hargs hts;split at hv
    ·rename_i τ hτ;have ha1:c'.args.map ρ= #[ρ x,ρ xs]:=by apply Array.ext';simp[hargs]
     have ha2:c'.argTypes= #[t,t']:=by apply Array.ext';simpa using hts
     have:=Lc (P:=P) hC hR (t':=t') (ty:=type) hτ (hL.un hg x) ((hL.ud hg xs).o7 (u:=.sl τ)) hv;have hex:execOp ρ {dst,op:=.call c',type,pos,after,guard}=(do pure (.value (<-Builtin.copy_ #[t,t'] type #[ρ x,ρ xs]))):=by simp[execOp,resolve,hcal,ha1,ha2,invoke,builtin]
     rw[hex];exact this
    ·cases hv
   ·cases hv
  ·cases hv
  ·split at hv
   ·split at hv
    ·split at hv<;>simp at hv
    ·split at hv
     ·simp only[pX]at hv;split at hv<;>simp at hv
     ·cases hv
   ·cases hv
 all_goals (first|(cases hv;done)|(simp at hv;done))
end
section
variable {P:Program}{C:Ctx}{G:GE}{fr:List V}{ρ:Operand->Value}{tm:Array Value}
def pv(P:Program)(G:GE)(a:Act)(o:Oper)(v:V)(hp':aP)(Q:Exit->Act->World->Prop):Prop:=
 o.wp P a G.w (fun a' w'=>∃x β' σ',a'=a.put o.dst x/\Tr G ⟨w',β',σ',hp',G.n0,G.Bo,G.I0⟩/\cW ⟨w',β',σ',hp',G.n0,G.Bo,G.I0⟩/\bC ⟨w',β',σ',hp',G.n0,G.Bo,G.I0⟩ a.tmps v x) Q
theorem kl.Wl{a:Act}{o:Oper}{v:V}{hp':aP}{Q:Exit->Act->World->Prop}(h:kl P G a.tmps (execOp a.eval o) v hp'):pv P G a o v hp' Q:=by
 obtain⟨r,x,w',β',σ',h1,h2,h3,h4,h5⟩:=h;unfold pv Oper.wp;rw[h1];rcases h2 with rfl|⟨rfl,rfl⟩
 ·rw[Oper.upon_value];exact⟨x,β',σ',rfl,h3,h4,h5⟩
 ·rw[Oper.upon_skip];exact⟨undef,β',σ',rfl,h3,h4,h5⟩
theorem FB{a:Act}{o:Oper}{v:V}{Q:Exit->Act->World->Prop}(hR:cW G){x:Value}(h:(execOp a.eval o).run P G.w= .ok (.value x) G.w)(hv:bC G a.tmps v x):pv P G a o v G.hp Q:=
 kl.Wl ⟨.value x,x,G.w,G.β,G.σ,h,.inl rfl,Tr.refl G,hR,hv⟩
theorem iH.append:∀{l:List V}{m:List Value}{l':List V}{m':List Value},iH G tm l m->iH G tm l' m'->iH G tm (l++l') (m++m')
 |[],[],_,_,_,h=>h
 |v::l,x::m,_,_,h,h'=>by simp only[List.cons_append,iH]at h⊢;exact⟨h.1,iH.append h.2 h'⟩
 |[],_::_,_,_,h,_=>by simp[iH]at h
 |_::_,[],_,_,h,_=>by simp[iH]at h
theorem iH.gD:∀{l:List V}{m:List Value}{tm':Array Value},iH G tm' l m->iH G tm (l.map Bx.gD) m
 |[],[],_,_=>by simp[iH]
 |v::l,x::m,_,h=>by simp only[map_cons,iH]at h⊢;exact⟨h.1.gD,iH.gD h.2⟩
 |[],_::_,_,h=>by simp[iH]at h
 |_::_,[],_,h=>by simp[iH]at h
theorem vL(hC:iY P C){e:Operand->V}(he:∀x,bC G tm (e x) (ρ x)){c:Call}{f:Nat}{args:List V}(h:target C e c=some (f,args)):
  ∃vals:Array Value,iH G tm args vals.toList/\∀(dst:Option Tmp)(type:TypeId)(pos:String)(after:Array Edge)(guard:Option (Nat×Bool)),(execOp ρ {dst,op:=.call c,type,pos,after,guard}).run P G.w=(callFunc f vals).run P G.w:=by
 unfold target at h;split at h
 ·rename_i fo hcal;split at h
  ·rename_i f' fst cap heq;cases h;have hf:=he fo;rw[heq]at hf;simp only[bC]at hf;obtain⟨xs,ys,h1,h2,h3⟩:=hf;refine⟨xs++c.args.map ρ++ys,?_,fun dst type pos after guard=>by simp[execOp,resolve,hcal,h1,Deferred.ofValue,invoke]⟩;simp only[nt,List.nil_append,Array.toList_append,Array.toList_map];exact iH.append (iH.append h2.gD (nH he _)) h3.gD
  ·cases h
 ·rename_i r m hcal;split at h
  ·rename_i t v heq;split at h
   ·rename_i f' hf;cases h;have hr:=he r;rw[heq]at hr;simp only[bC]at hr;obtain⟨x,h1,h2⟩:=hr;refine⟨#[x]++c.args.map ρ,?_,fun dst type pos after guard=>?_⟩
    ·simp only[nt,List.map_nil,List.append_nil,Array.toList_append,Array.toList_map];exact iH.append (by simp only[iH];exact⟨h2.gD,trivial⟩) (nH he _)
    ·have:=(hC.inv _ _ _ hf G.w x).1 (c.args.map ρ);have e0:(#[Value.iface t x]++c.args.map ρ)[0]? =some (Value.iface t x):=by
      grind
     simp only[execOp,resolve,hcal,Sem.run_bind,Sem.run_pure,Result.andThen_ok,invoke,h1,e0];rw[<-this];simp;rw[show(c.args.map ρ).extract 0 c.args.size=c.args.map ρ by
      have:c.args.size=(c.args.map ρ).size:=by simp
      rw[this];exact Array.extract_size]
   ·cases h
  ·cases h
 ·cases h
theorem yu(hR:cW G):∀{t:Ty}{l:List V}{x:t.den}{vs:List Value},getArgs t (uL G.hp l)=some x->lQ G.hp l=false->iH G tm l vs->iC G.env t x vs
 | .unit,[],_,[],_,_,_=>rfl
 | .unit,[],_,_::_,_,_,h=>by simp[iH]at h
 | .unit,_::_,_,_,h,_,_=>by simp[uL,getArgs]at h
 | .pair a b,[],_,_,h,_,_=>by simp[uL,getArgs]at h
 | .pair a b,v::l,x,[],_,_,h=>by simp[iH]at h
 | .pair a b,v::l,x,y::vs,h,hl,ha=>by
  simp only[uL]at h;simp only[lQ,Bool.or_eq_false_iff]at hl;simp only[iH]at ha;cases hv:rd G.hp v<;>rw[hv]at h<;>simp only[getArgs,reduceCtorEq]at h;split at h
  ·cases h
  ·rename_i z hz;split at h
   ·cases h
   ·rename_i r hr;obtain⟨rfl,rfl⟩:=il hz;cases h;exact⟨y,vs,rfl,tf hR v ha.1 hl.1 hv,yu hR hr hl.2 ha.2⟩
 | .int _,_,_,_,h,_,_=>by simp[getArgs]at h
 | .bool,_,_,_,h,_,_=>by simp[getArgs]at h
 | .str,_,_,_,h,_,_=>by simp[getArgs]at h
 | .sl _,_,_,_,h,_,_=>by simp[getArgs]at h
 | .arr _ _,_,_,_,h,_,_=>by simp[getArgs]at h
 | .opq,_,_,_,h,_,_=>by simp[getArgs]at h
theorem tP:∀{t:Ty}{l:List V}{x:t.den}{vs:List Value}(G:GE),cW G->getArgs t (uL G.hp l)=some x->iH G tm l vs->iC (G.fI (my G.hp l)).env t x vs
 | .unit,[],_,[],_,_,_,_=>rfl
 | .unit,[],_,_::_,_,_,_,h=>by simp[iH]at h
 | .unit,_::_,_,_,_,_,h,_=>by simp[uL,getArgs]at h
 | .pair a b,[],_,_,_,_,h,_=>by simp[uL,getArgs]at h
 | .pair a b,v::l,x,[],_,_,_,h=>by simp[iH]at h
 | .pair a b,v::l,x,y::vs,G,hR,h,ha=>by
  simp only[uL]at h;simp only[iH]at ha;obtain⟨t1,k1⟩:=vl v G hR;obtain⟨t2,k2⟩:=pA l _ k1;cases hv:rd G.hp v<;>rw[hv]at h<;>simp only[getArgs,reduceCtorEq]at h;split at h
  ·cases h
  ·rename_i z hz;split at h
   ·cases h
   ·rename_i r hr;obtain⟨rfl,rfl⟩:=il hz;cases h;refine⟨y,vs,rfl,(ya v G hR ha.1 hv).ext t2.kC.env,?_⟩;have:=tP (G.fI (frz G.hp v)) k1 (t:=b) (l:=l) (x:=r) (vs:=vs) (by rw[show(G.fI (frz G.hp v)).hp=frz G.hp v from rfl,wR (sU v G.hp)];exact hr) (ha.2.ext t1.kC);exact this
 | .int _,_,_,_,_,_,h,_=>by simp[getArgs]at h
 | .bool,_,_,_,_,_,h,_=>by simp[getArgs]at h
 | .str,_,_,_,_,_,h,_=>by simp[getArgs]at h
 | .sl _,_,_,_,_,_,h,_=>by simp[getArgs]at h
 | .arr _ _,_,_,_,_,_,h,_=>by simp[getArgs]at h
 | .opq,_,_,_,_,_,h,_=>by simp[getArgs]at h
theorem yh:∀{t:Ty}{x:t.den}{vs:List Value},iC G.env t x vs->iH G tm (spread t x) vs
 | .unit,_,_,h=>by simp only[iC]at h;subst h;simp[spread,iH]
 | .pair a b,x,_,h=>by obtain⟨v,r,rfl,h1,h2⟩:=h;simp only[spread,iH];exact⟨by simpa[bC]using h1,yh h2⟩
 | .int _,_,_,h=>h.elim
 | .bool,_,_,h=>h.elim
 | .str,_,_,h=>h.elim
 | .sl _,_,_,h=>h.elim
 | .arr _ _,_,_,h=>h.elim
 | .opq,_,_,h=>h.elim
theorem iC.ext{E E':Env}(h:Ext E E'):∀{t:Ty}{x:t.den}{vs:List Value},iC E t x vs->iC E' t x vs
 | .unit,_,_,h'=>h'
 | .pair _ _,_,_,⟨v,r,e,h1,h2⟩=>⟨v,r,e,h1.ext h,iC.ext h h2⟩
 | .int _,_,_,h=>h
 | .bool,_,_,h=>h
 | .str,_,_,h=>h
 | .sl _,_,_,h=>h
 | .arr _ _,_,_,h=>h
 | .opq,_,_,h=>h
theorem Fe{E:Env}(h:Ext E G.env){F:Fn}{r:F.rs.den}{v:Value}(hv:rK E F r v):bC G tm (F.out r) v:=by
 unfold rK at hv;unfold Fn.out;cases hm:F.multi with
 |false=>rw[hm]at hv;simp only at hv⊢;simp only[bC];exact hv.ext h
 |true=>rw[hm]at hv;simp only at hv⊢;obtain⟨vs,e,h2⟩:=hv;simp only[bC];exact⟨vs,e,yh (h2.ext h)⟩
theorem DQ{a:Act}(hR:cW G){o:Oper}{f:Nat}{F:Fn}(hF:Callee P f F){x:F.ps.den}{r:F.rs.den}(hr:F.run x=some r){vals:Array Value}(ha:iC G.env F.ps x vals.toList)
  (hrun:(execOp a.eval o).run P G.w=(callFunc f vals).run P G.w) {Q:Exit->Act->World->Prop}:pv P G a o (F.out r) G.hp Q:=by
 rcases hF with ⟨hcon,fn,n1,n2,n3⟩|hext
 ·have n2':¬fn.name= "runtime.NumGoroutine" :=by simpa using n2
  have n3':¬fn.body=none:=by intro e;rw[e]at n3;simp at n3
  have hcall:=hcon G.w G.im x r vals ⟨fun b m h=>h.2.1,hR.glob⟩ hr ha;have h2:(callFunc f vals).run P G.w= .ok (.enter f vals) G.w:=by simp[callFunc,n1,n2',n3']
  unfold pv Oper.wp;rw[hrun,h2];simp only[Oper.upon_enter];refine hcall.mono fun e w' ⟨v,he,hb,ho⟩=>?_;subst he;obtain⟨t1,t2⟩:=hR.grow hb;refine⟨v,G.β,G.σ,rfl,t1,t2,Fe (E:=⟨w',fun b m=>G.im b m\/(G.w.heap.size<=b/\b<w'.heap.size)⟩) ⟨fun b m hi=>?_,fun _ _ _ _ _=>rfl⟩ ho⟩;rcases hi with hi|⟨h1,h2⟩
  ·exact t1.kC.env.im b m hi
  ·exact Nl hR h1 h2 m
 ·obtain⟨v,e1,e2⟩:=hext G.w G.im x r vals hr ha;exact FB hR (hrun.trans e1) (Fe ⟨fun _ _ h=>h,fun _ _ _ _ _=>rfl⟩ e2)
theorem an.scalar{E E':Env}:∀(t:Ty)(x:t.den)(cs:List Value),t.scalar=true->an E t x cs->an E' t x cs
 | .int _,_,_,_,h=>h
 | .bool,_,_,_,h=>h
 | .str,_,_,_,h=>h
 | .arr n t,l,cs,hs,⟨h1,css,h2,h3⟩=>⟨h1,css,h2,h3.mono fun a b h=>an.scalar t a b hs h⟩
 | .unit,_,_,_,h=>h
 | .pair a b,x,cs,hs,⟨c1,c2,h1,h2,h3⟩=>by simp only[Ty.scalar,and_eq_true]at hs;exact⟨c1,c2,h1,an.scalar a _ _ hs.1 h2,an.scalar b _ _ hs.2 h3⟩
 | .sl _,_,_,hs,_=>by simp[Ty.scalar]at hs
 | .opq,_,_,hs,_=>by simp[Ty.scalar]at hs
theorem i5.scalar{E E':Env}{t:Ty}{x:t.den}{v:Value}(hs:t.scalar=true)(h:i5 E t x v):i5 E' t x v:=by
 unfold i5 at h⊢;split at h
 ·rename_i ht;obtain⟨cs,h1,h2⟩:=h;exact⟨cs,h1,an.scalar t _ _ hs h2⟩
 ·exact an.scalar t _ _ hs h
theorem iC.scalar{E E':Env}:∀{t:Ty}{x:t.den}{vs:List Value},t.scalar=true->iC E t x vs->iC E' t x vs
 | .unit,_,_,_,h=>h
 | .pair a b,x,_,hs,⟨v,r,h1,h2,h3⟩=>by simp only[Ty.scalar,and_eq_true]at hs;exact⟨v,r,h1,h2.scalar hs.1,iC.scalar hs.2 h3⟩
 | .int _,_,_,_,h=>h.elim
 | .bool,_,_,_,h=>h.elim
 | .str,_,_,_,h=>h.elim
 | .arr _ _,_,_,_,h=>h.elim
 | .sl _,_,_,_,h=>h.elim
 | .opq,_,_,_,h=>h.elim
theorem rK.scalar{E E':Env}{F:Fn}{r:F.rs.den}{v:Value}(hs:F.rs.scalar=true)(h:rK E F r v):rK E' F r v:=by
 unfold rK at h⊢;split at h
 ·exact h.scalar hs
 ·obtain⟨vs,h1,h2⟩:=h;exact⟨vs,h1,h2.scalar hs⟩
theorem Jc{a:Act}(hR:cW G){o:Oper}{f:Nat}{F:Fn}(hF:Callee P f F){x:F.ps.den}{r:F.rs.den}(hr:F.run x=some r){vals:Array Value}{hp1:aP}(hgl:sf (G.fI hp1).env)(ha:iC (G.fI hp1).env F.ps x vals.toList)(hs:F.rs.scalar=true)
  (hrun:(execOp a.eval o).run P G.w=(callFunc f vals).run P G.w) {Q:Exit->Act->World->Prop}:pv P G a o (F.out r) G.hp Q:=by
 rcases hF with ⟨hcon,fn,n1,n2,n3⟩|hext
 ·have n2':¬fn.name= "runtime.NumGoroutine" :=by simpa using n2
  have n3':¬fn.body=none:=by intro e;rw[e]at n3;simp at n3
  have hcall:=hcon G.w (G.fI hp1).im x r vals ⟨fun b m h=>h.2.1,hgl⟩ hr ha;have h2:(callFunc f vals).run P G.w= .ok (.enter f vals) G.w:=by simp[callFunc,n1,n2',n3']
  unfold pv Oper.wp;rw[hrun,h2];simp only[Oper.upon_enter];refine hcall.mono fun e w' ⟨v,he,hb,ho⟩=>?_;subst he;obtain⟨t1,t2⟩:=hR.grow hb;exact⟨v,G.β,G.σ,rfl,t1,t2,Fe (E:=GE.env ⟨w',G.β,G.σ,G.hp,G.n0,G.Bo,G.I0⟩) (Ext.refl _) (ho.scalar hs)⟩
 ·obtain⟨v,e1,e2⟩:=hext G.w (G.fI hp1).im x r vals hr ha;exact FB hR (hrun.trans e1) (Fe (E:=G.env) (Ext.refl _) (e2.scalar hs))
theorem sY{v:V}{F:Fn}{x:F.ps.den}{hp:aP}{wr:List Nat}:kx v≠some (.call F x hp wr):=by simp[kx]
theorem Ix{q:Prop}[Decidable q]{v:V}{F:Fn}{x:F.ps.den}{hp:aP}{wr:List Nat}:uk q v≠some (.call F x hp wr):=by simp[uk]
theorem Iw{q:Prop}[Decidable q]{v:V}{hp2:aP}{wr2:List Nat}{F:Fn}{x:F.ps.den}{hp:aP}{wr:List Nat}:Cd q v hp2 wr2≠some (.call F x hp wr):=by simp[Cd]
theorem Lr{op:BinOp}{k:IntKind}{p q:Int}{F:Fn}{x:F.ps.den}{hp:aP}{wr:List Nat}:vm op k p q≠some (.call F x hp wr):=by cases op<;>simp[vm,kx,uk]
theorem Ml{op:BinOp}{p q:List Int}{F:Fn}{x:F.ps.den}{hp:aP}{wr:List Nat}:vJ op p q≠some (.call F x hp wr):=by cases op<;>simp[vJ,kx,uk]
theorem L1{op:BinOp}{b:Bool}{F:Fn}{x:F.ps.den}{hp:aP}{wr:List Nat}:q8 op b≠some (.call F x hp wr):=by cases op<;>simp[q8,kx]
theorem P2{op:BinOp}{xt:Nat}{u v:V}{F:Fn}{x:F.ps.den}{hp:aP}{wr:List Nat}:H7 C op xt u v≠some (.call F x hp wr):=by
 unfold H7
 repeat' split
 all_goals first|exact sY|exact Ix|exact Lr|exact Ml|exact L1|(intro h;cases h;done)
theorem Mf{e:Operand->V}{τ:Ty}{l:List τ.den}{lo hi mx:Option Operand}{F:Fn}{x:F.ps.den}{hp:aP}{wr:List Nat}:lz e τ l lo hi mx≠some (.call F x hp wr):=by
 unfold lz
 repeat' split
 all_goals first|exact Ix|(intro h;cases h;done)
theorem Mz{a:Act}(hC:iY P C)(hR:cW G)(hL:uW G a.tmps fr a.eval){g:Option Gd}(hg:MD g a.tmps)(o:Oper){F:Fn}{x:F.ps.den}{hp:aP}{wr:List Nat}(hv:m8 C g fr G.hp o.op=some (.call F x hp wr)){r:F.rs.den}(hr:F.run x=some r){Q:Exit->Act->World->Prop}:
  pv P G a o (F.out r) G.hp Q:=by
 obtain⟨dst,op,type,pos,after,guard⟩:=o;cases op<;>simp only[m8]at hv
 case call c=>
  split at hv
  ·split at hv<;>(try split at hv)<;>exact absurd hv (by first|exact sY|(intro h;cases h;done))
  ·split at hv<;>(try split at hv)<;>exact absurd hv (by first|exact sY|(intro h;cases h;done))
  ·split at hv<;>(try split at hv)<;>exact absurd hv (by first|exact sY|(intro h;cases h;done))
  ·cases hv
  ·split at hv
   ·rename_i f args htg;split at hv
    ·rename_i F' hF;split at hv
     ·cases hv
     ·rename_i hl;split at hv
      ·rename_i y hy;simp only[Option.some.injEq,Out.call.injEq]at hv;obtain⟨rfl,hv,rfl,rfl⟩:=hv;have hv:=eq_of_heq hv;subst hv;obtain⟨vals,h1,h2⟩:=vL hC (fun x=>hL.un hg x) htg;simp only[and_eq_true,Bool.not_eq_true',not_and,Bool.not_eq_false]at hl;cases hlo:lQ G.hp args with
       |false=>exact DQ hR (hC.fn _ _ hF) hr (yu hR hy hlo h1) (h2 dst type pos after guard)
       |true=>exact Jc hR (hC.fn _ _ hF) hr (pA args G hR).2.glob (tP G hR hy h1) (hl hlo) (h2 dst type pos after guard)
      ·cases hv
    ·cases hv
   ·cases hv
 case binOp op xt x y yt=>exact absurd hv P2
 case unOp op _ _=>
  unfold Vq at hv;split at hv
  ·exact absurd hv sY
  ·exact absurd hv sY
  ·exact absurd hv sY
  ·cases hv
 all_goals (exfalso;revert hv)
 all_goals (repeat' split)
 all_goals first|exact sY|exact Ix|exact Mf|(intro h;cases h;done)
theorem Lg{a:Act}(hC:iY P C)(hR:cW G)(hL:uW G a.tmps fr a.eval){g:Option Gd}(hg:MD g a.tmps)(o:Oper){F:Fn}{x:F.ps.den}{hp:aP}{wr:List Nat}(hv:oR C g fr G.hp o.dst o.op=some (.call F x hp wr)){r:F.rs.den}(hr:F.run x=some r){Q:Exit->Act->World->Prop}:
  pv P G a o (F.out r) hp Q:=by
 obtain⟨dst,op,type,pos,after,guard⟩:=o;cases op<;>simp only[oR,reduceCtorEq]at hv
 case call c=>
  split at hv
  ·split at hv
   ·split at hv
    ·split at hv
     ·exfalso;revert hv;unfold nX;repeat' split
      all_goals first|exact Iw|(intro h;cases h;done)
     ·cases hv
    ·cases hv
   ·cases hv
  ·split at hv
   ·split at hv
    ·exfalso;revert hv;unfold yC;repeat' split
     all_goals first|exact Iw|(intro h;cases h;done)
    ·cases hv
   ·cases hv
  ·cases hv
  ·split at hv
   ·rename_i f args htg;split at hv
    ·rename_i F' hF;split at hv
     ·rename_i y hy;simp only[Option.some.injEq,Out.call.injEq]at hv;obtain⟨rfl,hv,rfl,rfl⟩:=hv;have hv:=eq_of_heq hv;subst hv;obtain⟨vals,h1,h2⟩:=vL hC (fun x=>hL.un hg x) htg;obtain⟨t0,k0⟩:=pA args G hR;have:=DQ (a:=a) k0 (hC.fn _ _ hF) hr (tP G hR hy h1) (h2 dst type pos after guard) (Q:=Q);unfold pv at this⊢;refine Oper.wp_mono (fun a' w' hK=>?_) this;obtain⟨x,β',σ',e1,e2,e3,e4⟩:=hK;exact⟨x,β',σ',e1,t0.trans e2,e3,e4⟩
     ·cases hv
    ·split at hv
     ·simp only[pX]at hv;split at hv<;>simp at hv
     ·cases hv
   ·cases hv
 all_goals (exfalso;revert hv)
 all_goals (repeat' split)
 all_goals first|exact Iw|(intro h;cases h;done)
end
section
variable {P:Program}{C:Ctx}{G:GE}{fr:List V}{ρ:Operand->Value}{tm:Array Value}
theorem rG.kC{G G2:GE}(hK:nO G G2){i:Nat}{blk:jX}(h:rG G i blk)(hβ:G2.β i=G.β i)(hσ:G2.σ i=G.σ i)(hw:∀b,G.β i=some b->b<G.w.heap.size->G2.w.heap[b]? =G.w.heap[b]?):rG G2 i blk:=by
 cases blk with
 |cell t v z=>obtain⟨b,arr,ty,g1,g2,g3⟩:=h;exact⟨b,arr,ty,hβ.trans g1,(hw b g1 (Array.getElem?_eq_some_iff.1 g2).1).trans g2,g3.ext hK⟩
 |buf t l ver z=>
  rcases h with ⟨b,arr,ty,css,cap,rest,g1,g2,g3,g4,g5,g6,g7,g8⟩|⟨g1,g2,g3,g4⟩
  ·exact .inl ⟨b,arr,ty,css,cap,rest,hβ.trans g1,hσ.trans g2,(hw b g1 (Array.getElem?_eq_some_iff.1 g3).1).trans g3,g4.mono fun _ _ h=>h.ext hK.env,g5,g6,g7,g8⟩
  ·exact .inr ⟨hβ.trans g1,g2,by rw[hσ];exact g3.ext hK.env,by rw[hσ];exact g4⟩
 |map k v l=>obtain⟨b,es,clock,g1,g2,g3,g4⟩:=h;exact⟨b,es,clock,hβ.trans g1,(hw b g1 (Array.getElem?_eq_some_iff.1 g2).1).trans g2,g3.mono fun _ _ h=>⟨h.1.ext hK.env,h.2.ext hK.env⟩,g4⟩
structure Ru(G G1:GE)(e:Nat->Nat):Prop where
 w:G1.w=G.w
 n0:G1.n0=G.w.heap.size
 Bo:∀b,G1.Bo b↔G1.named b
 I0:∀b m,G1.I0 b m↔G.im b m
 ids:∀k blk,aw G1.hp k=some blk->∃blk0,aw G.hp (e k)=some blk0/\G.β (e k)=G1.β k/\∀m,blk.im m↔blk0.im m
theorem Ru.named{G1:GE}{e:Nat->Nat}(h:Ru G G1 e){b:Nat}(hn:G1.named b):∃k blk blk0,aw G1.hp k=some blk/\G1.β k=some b/\aw G.hp (e k)=some blk0/\G.β (e k)=some b/\∀m,blk.im m↔blk0.im m:=by obtain⟨k,blk,h1,h2⟩:=hn;obtain⟨blk0,g1,g2,g3⟩:=h.ids k blk h1;grind
theorem Ru.out{G1:GE}{e:Nat->Nat}(hR:cW G)(h:Ru G G1 e):Ext G1.env G.env:=by
 refine⟨fun b m ⟨h1,h2,h3⟩=>?_,fun b m _ j _=>by show G.w.cell? _=G1.w.cell? _;rw[h.w]⟩;rcases h1 with h1|h1|h1
 ·exact(h.I0 b m).1 h1
 ·rw[h.w]at h2;rw[h.n0]at h1;omega
 ·obtain⟨k,blk,blk0,k1,k2,k3,k4,k5⟩:=h.named ((h.Bo b).1 h1);exact Iz hR k3 k4 (hR.lt k3 k4) ((k5 m).1 (h3 k blk k1 k2))
theorem Ru.IB{G1:GE}{e:Nat->Nat}(h:Ru G G1 e):Ext G.env G1.env:=by refine⟨fun b m hi=>⟨.inl ((h.I0 b m).2 hi),by rw[h.w];exact hi.2.1,fun k blk k1 k2=>?_⟩,fun b m _ j _=>by show G1.w.cell? _=G.w.cell? _;rw[h.w]⟩;obtain⟨blk0,g1,g2,g3⟩:=h.ids k blk k1;exact(g3 m).2 (hi.2.2 _ blk0 g1 (g2.trans k2))
structure TS(G G1 G2 G':GE)(e:Nat->Nat):Prop where
 w:G'.w=G2.w
 n0:G'.n0=G.n0
 Bo:G'.Bo=G.Bo
 I0:G'.I0=G.I0
 n0':G2.n0=G1.n0
 Bo':G2.Bo=G1.Bo
 I0':G2.I0=G1.I0
 blk:∀i blk',aw G'.hp i=some blk'->(∃k blk1,e k=i/\aw G2.hp k=some blk1/\G'.β i=G2.β k/\G'.σ i=G2.σ k/\(∀m,blk1.im m↔blk'.im m)/\(Ext G2.env G'.env->rG G2 k blk1->rG G' i blk'))\/
  (aw G.hp i=some blk'/\G'.β i=G.β i/\G'.σ i=G.σ i/\∀k blk,aw G1.hp k=some blk->e k≠i)
 HX:∀i blk,aw G.hp i=some blk->∃blk',aw G'.hp i=some blk'/\∀v,gA G G' i i v v blk blk'
theorem lift{G1 G2 G':GE}{e:Nat->Nat}(hR:cW G)(hW:Ru G G1 e)(h1:cW G2)(t1:Tr G1 G2)(hB:TS G G1 G2 G' e):Ext G2.env G'.env/\Tr G G'/\cW G':=by
 have hsz:G.w.heap.size<=G2.w.heap.size:=by rw[<-hW.w];exact t1.size
 have hE2:Ext G2.env G'.env:=by
  refine⟨fun b m ⟨k1,k2,k3⟩=>⟨?_,by rw[hB.w];exact k2,fun i blk' hi hβ=>?_⟩,fun b m _ j _=>by show G'.w.cell? _=G2.w.cell? _;rw[hB.w]⟩
  ·rw[hB.n0,hB.Bo,hB.I0];rw[hB.n0',hB.Bo',hB.I0']at k1;rcases k1 with k1|k1|k1
   ·exact((hW.I0 b m).1 k1).1
   ·rw[hW.n0]at k1;exact .inr (.inl (Nat.le_trans hR.base k1))
   ·obtain⟨k,blk,blk0,_,_,q3,q4,_⟩:=hW.named ((hW.Bo b).1 k1);exact .inr (hR.own b ⟨_,_,q3,q4⟩)
  ·rcases hB.blk i blk' hi with ⟨k,blk1,_,q2,q3,_,q5,_⟩|⟨q1,q2,_,q4⟩
   ·grind
   ·rw[q2]at hβ;rw[hB.n0',hB.Bo',hB.I0']at k1;rcases k1 with k1|k1|k1
    ·exact((hW.I0 b m).1 k1).2.2 i blk' q1 hβ
    ·rw[hW.n0]at k1;have:=hR.lt q1 hβ;omega
    ·obtain⟨k,blk,blk0,p1,_,p3,p4,_⟩:=hW.named ((hW.Bo b).1 k1);exact absurd (hR.inj _ _ _ _ _ p3 q1 p4 hβ) (q4 k blk p1)
 have hE:Ext G.env G'.env:=hW.IB.trans (t1.kC.env.trans hE2);have hK:nO G G':=⟨hE,fun i ver j u bl hρ hi=>by
  simp only[yi,Option.some.injEq,Prod.mk.injEq]at hρ;obtain⟨rfl,rfl⟩:=hρ;obtain⟨blk',q1,q2⟩:=hB.HX i bl hi;exact⟨blk',q1,q2 ver⟩⟩
 have hnm:∀b,G1.named b->G.named b:=fun b hn=>by obtain⟨k,blk,blk0,_,_,q3,q4,_⟩:=hW.named hn;exact⟨_,_,q3,q4⟩
 have hfr:∀b,b<G.w.heap.size->¬G1.named b->G'.w.heap[b]? =G.w.heap[b]?:=fun b hb hn=>by rw[hB.w,<-hW.w];exact t1.frame b (by rw[hW.w];exact hb) hn
 have hown:∀b,G'.named b->G.w.heap.size<=b\/G.named b:=by
  rintro b ⟨i,blk',hi,hβ⟩;rcases hB.blk i blk' hi with ⟨k,blk1,_,q2,q3,_⟩|⟨q1,q2,_⟩
  ·rcases t1.own b ⟨k,blk1,q2,q3▸hβ⟩with q|q
   ·rw[hW.w]at q;exact .inl q
   grind
  ·exact .inr ⟨i,blk',q1,q2▸hβ⟩
 have hout:∀{i blk' b},aw G.hp i=some blk'->G.β i=some b->(∀k blk,aw G1.hp k=some blk->e k≠i)->¬G1.named b:=fun{i blk' b} q1 q2 q4 hn=>by obtain⟨k,blk,blk0,p1,_,p3,p4,_⟩:=hW.named hn;exact absurd (hR.inj _ _ _ _ _ p3 q1 p4 q2) (q4 k blk p1)
 refine⟨hE2,⟨hK,?_,?_,?_,by rw[hB.w];exact hsz,fun b hb hn=>hfr b hb fun h=>hn (hnm b h),hown⟩,⟨h1.glob.ext hE2,fun i blk' hi=>?_,fun i i' blk blk' b hi hi' hβ hβ'=>?_,fun b hn=>?_,?_⟩⟩
 ·rw[hB.w,<-hW.w];exact t1.os
 ·rw[hB.w,<-hW.w];exact t1.tape
 ·rw[hB.w,<-hW.w];exact t1.output
 ·rcases hB.blk i blk' hi with ⟨k,blk1,_,q2,_,_,_,q6⟩|⟨q1,q2,q3,q4⟩
  ·exact q6 hE2 (h1.blk k blk1 q2)
  ·exact(hR.blk i blk' q1).kC hK q2 q3 fun b hb hlt=>hfr b hlt (hout q1 hb q4)
 ·rcases hB.blk i blk hi with ⟨k,blk1,e1,q2,q3,_⟩|⟨q1,q2,_,q4⟩<;>rcases hB.blk i' blk' hi' with ⟨k',blk1',e1',q2',q3',_⟩|⟨q1',q2',_,q4'⟩
  ·rw[q3]at hβ;rw[q3']at hβ';rw[<-e1,<-e1',h1.inj _ _ _ _ _ q2 q2' hβ hβ']
  ·exfalso;rw[q3]at hβ;rw[q2']at hβ';rcases t1.own b ⟨k,blk1,q2,hβ⟩with q|q
   ·have:=hR.lt q1' hβ';rw[hW.w]at q;omega
   grind
  ·exfalso;rw[q3']at hβ';rw[q2]at hβ;rcases t1.own b ⟨k',blk1',q2',hβ'⟩with q|q
   ·have:=hR.lt q1 hβ;rw[hW.w]at q;omega
   grind
  ·rw[q2]at hβ;rw[q2']at hβ';exact hR.inj _ _ _ _ _ q1 q1' hβ hβ'
 ·rw[hB.n0,hB.Bo];rcases hown b hn with q|q
  ·exact .inl (Nat.le_trans hR.base q)
  ·exact hR.own b q
 ·rw[hB.n0,hB.w];exact Nat.le_trans hR.base hsz
end
theorem qW{α:Type}(e:Nat->Nat)(g:Nat->jX->α):∀(h:aP)(i:Nat)(b:α),look (h.map fun x=>(e x.1,g x.1 x.2)) i=some b->
  ∃k b2,look (h.map fun x=>(e x.1,x.1)) i=some k/\e k=i/\aw h k=some b2/\b=g k b2
 |[],i,b,h=>by cases h
 |(j,c)::r,i,b,h=>by
  simp only[map_cons,look,aw]at h⊢;by_cases hj:beq (e j) i=true
  ·simp_all
  ·rw[if_neg hj]at h;obtain⟨k,b2,h1,h2,h3,h4⟩:=qW e g r i b h;refine⟨k,b2,by rw[if_neg hj];exact h1,h2,?_,h4⟩;rw[if_neg]
   ·exact h3
   ·intro hk;simp_all
theorem nj{α:Type}:∀(l:List (Nat×α))(i:Nat),look l i=none->i∉l.map (·.1)
 |[],_,_=>by simp
 |(j,c)::r,i,h=>by
  simp only[look]at h;split at h
  ·cases h
  ·rename_i hj;simp only[map_cons,mem_cons,not_or];exact⟨fun e=>hj (by rw[e];exact beq_refl j),nj r i h⟩
theorem kh{α:Type}:∀(l:List (Nat×α))(i:Nat)(b:α),look l i=some b->i∈l.map (·.1)
 |[],_,_,h=>by cases h
 |(j,c)::r,i,b,h=>by
  simp only[look]at h;split at h
  ·simp_all
  ·simp only[map_cons,mem_cons];exact .inr (kh r i b h)
theorem IW{l:List Nat}{i:Nat}:mem l i=true↔i∈l:=by
 induction l with
 |nil=>simp[mem]
 |cons j r ih=>
  simp only[mem,List.any_cons,or_eq_true,mem_cons]at ih⊢;rw[ih];constructor
  ·rintro(h|h)
   ·exact .inl (eq_of_beq_eq_true h)
   ·exact .inr h
  ·rintro(h|h)
   ·exact .inl (by rw[h];exact beq_refl j)
   ·exact .inr h
theorem Ha(e:Nat->Nat):∀(h:aP)(k:Nat)(b:jX),once (h.map fun x=>e x.1)=true->aw h k=some b->look (h.map fun x=>(e x.1,x.1)) (e k)=some k
 |[],k,b,_,h=>by cases h
 |(j,c)::r,k,b,ho,h=>by
  simp only[map_cons,once]at ho;split at ho
  ·cases ho
  ·rename_i hm;simp only[map_cons,look,aw]at h⊢;by_cases hj:beq j k=true
   ·simp_all
   ·rw[if_neg hj]at h;rw[if_neg,Ha e r k b ho h];intro he;have hin:k∈r.map (·.1):=kh r k b h;obtain⟨x,hx,rfl⟩:=List.mem_map.1 hin;have:mem (r.map fun x=>e x.1) (e j)=true:=IW.2 (by
     rw[eq_of_beq_eq_true he];exact List.mem_map.2 ⟨x,hx,rfl⟩)
    grind
theorem zi:∀(d hp:aP)(i:Nat),aw (iV d hp) i=match look d i with
  |some b=>some b
  |none=>aw hp i
 |[],_,_=>rfl
 |(j,b)::r,hp,i=>by
  simp only[iV,look];rw[bO];by_cases hj:beq j i=true
  ·simp_all
  ·rw[if_neg hj,if_neg (fun e=>hj (by rw[e];exact beq_refl j)),zi r hp i]
theorem xI:∀{L:List Nat}{i k:Nat},idxOf L i=some k->k<L.length/\L.getD k 0=i
 |[],_,_,h=>by cases h
 |j::r,i,k,h=>by
  simp only[idxOf]at h;split at h
  ·rename_i hj;cases h;exact⟨by simp,by rw[eq_of_beq_eq_true hj];rfl⟩
  ·split at h
   ·rename_i k' hk;cases h;obtain⟨h1,h2⟩:=xI hk;grind
   ·cases h
theorem AZ:∀{L:List Nat}{i:Nat},i∈L->∃k,idxOf L i=some k
 |j::r,i,h=>by
  simp only[idxOf];by_cases hj:beq i j=true
  ·simp_all
  ·rw[if_neg hj];rcases List.mem_cons.1 h with rfl|h
   ·simp_all
   ·obtain⟨k,hk⟩:=AZ h;grind
theorem qK:∀(r l:List Nat),l.Nodup->(ui l r).Nodup
 |[],l,h=>h
 |i::r,l,h=>by
  simp only[ui];split
  ·exact qK r l h
  ·rename_i hm;refine qK r _ (List.nodup_append.2 ⟨h,by simp,fun a ha b hb=>?_⟩);simp only[mem_cons,List.not_mem_nil,or_false]at hb;subst hb;rintro rfl;rw[IW.2 ha]at hm;cases hm
theorem v9{hp:aP}:∀(k:Nat)(l:List Nat),l.Nodup->(mo hp k l).Nodup
 |0,_,h=>h
 |k+1,l,h=>v9 k _ (qK _ _ h)
theorem Hq(hp:aP)(l:List V):(reach hp l).Nodup:=v9 _ _ (qK _ _ List.nodup_nil)
theorem EZ{hp:aP}{L:List Nat}:∀(R:List Nat)(k0 k:Nat),aw (um hp L k0 R) k=if k0<=k/\k-k0<R.length then(aw hp (R.getD (k-k0) 0)).map fun b=>El (pU (IB hp L) b)else none
 |[],k0,k=>by simp[um,aw,look]
 |i::R,k0,k=>by
  have ih:=EZ (hp:=hp) (L:=L) R (k0+1) k;simp only[um];by_cases hk:k=k0
  ·subst hk;rw[if_pos (by simp),Nat.sub_self];have ih0:aw (um hp L (k+1) R) k=none:=by rw[ih,if_neg (by omega)]
   simp only[List.getD_cons_zero];cases hb:aw hp i with
   |none=>exact ih0
   |some b=>simp only[aw,look];rw[if_pos (beq_refl k)];rfl
  ·have hne:¬(beq k0 k=true):=fun e=>hk (eq_of_beq_eq_true e).symm;have step:aw (match aw hp i with
     |some b=>(k0,El (pU (IB hp L) b))::um hp L (k0+1) R
     |none=>um hp L (k0+1) R) k=aw (um hp L (k0+1) R) k:=by
    cases aw hp i with
    |none=>rfl
    |some b=>simp only[aw,look];rw[if_neg hne]
   grind
section
variable {P:Program}{C:Ctx}{G:GE}{fr:List V}{ρ:Operand->Value}{tm:Array Value}
theorem Qi(ρ:Nat->Nat->Option (Nat×Nat))(b:jX)(m:Nat):(El (pU ρ b)).im m↔b.im m:=by cases b<;>exact Iff.rfl
def uo(G:GE)(L:List Nat):GE:=Bf G.w (fun k=>G.β (L.getD k 0)) (fun k=>G.σ (L.getD k 0)) (um G.hp L 0 L) G.im
theorem Na{L N:List Nat}{s k:Nat}(h:k<L.length):mP L N s k=L.getD k 0:=by unfold mP;have:blt k L.length=true:=Nat.ble_eq_true_of_le h;rw[this]
theorem zU{L:List Nat}{k:Nat}{b1:jX}(h:aw (uo G L).hp k=some b1):k<L.length/\∃b,aw G.hp (L.getD k 0)=some b/\b1=El (pU (IB G.hp L) b):=by
 have h':aw (um G.hp L 0 L) k=some b1:=h;rw[EZ]at h';split at h'
 ·rename_i hk;obtain⟨b,e1,e2⟩:=Option.map_eq_some_iff.1 h';grind
 ·cases h'
theorem Km{L:List Nat}{k:Nat}{b:jX}(hk:k<L.length)(h:aw G.hp (L.getD k 0)=some b):aw (uo G L).hp k=some (El (pU (IB G.hp L) b)):=by show aw (um G.hp L 0 L) k=_;rw[EZ,if_pos ⟨Nat.zero_le _,by simpa using hk⟩,Nat.sub_zero,h];rfl
theorem Be(L N:List Nat)(s:Nat):Ru G (uo G L) (mP L N s):=by refine⟨rfl,rfl,fun _=>Iff.rfl,fun _ _=>Iff.rfl,fun k blk h=>?_⟩;obtain⟨hk,b,h1,rfl⟩:=zU h;rw[Na hk];exact⟨b,h1,rfl,fun m=>Qi _ _ _⟩
theorem Kl(L:List Nat):Mv (IB G.hp L) G (uo G L):=by
 refine⟨(Be L [] 0).IB,fun id ver j u blk hρ hb=>?_⟩;unfold IB at hρ;split at hρ
 ·rename_i k v hk hv;cases hρ;obtain⟨hlt,hget⟩:=xI hk;have hb':aw G.hp (L.getD j 0)=some blk:=by rw[hget];exact hb
  refine⟨_,Km hlt hb',?_⟩;have hβ:(uo G L).β j=G.β id:=by show G.β (L.getD j 0)=_;rw[hget]
  have hσ:(uo G L).σ j=G.σ id:=by show G.σ (L.getD j 0)=_;rw[hget]
  unfold TF at hv;rw[hb]at hv;cases blk with
  |cell t v z=>exact⟨rfl,hβ⟩
  |map k v l=>exact⟨rfl,rfl,hβ⟩
  |buf t l c z=>
   simp only at hv;split at hv
   ·rename_i hvc;cases hv;exact⟨fun _=>le_refl _,fun _ _=>⟨eq_of_beq_eq_true hvc,rfl,hβ,hσ,le_refl _⟩⟩
   ·cases hv
 ·cases hρ
theorem IZ{L:List Nat}(h:L.Nodup){k k':Nat}(hk:k<L.length)(hk':k'<L.length)(e:L.getD k 0=L.getD k' 0):k=k':=by rw[List.getD_eq_getElem?_getD,List.getD_eq_getElem?_getD,List.getElem?_eq_getElem hk,List.getElem?_eq_getElem hk']at e;exact(List.getElem_inj h).1 (by simpa using e)
theorem Qv(hR:cW G){L:List Nat}(hL:L.Nodup):cW (uo G L):=by
 refine⟨hR.glob.ext (Be (G:=G) L [] 0).IB,fun k b1 h=>?_,fun k k' b1 b1' b h h' hβ hβ'=>?_,fun b hn=>.inr hn,le_refl _⟩
 ·obtain⟨hk,b,h1,rfl⟩:=zU h;have hb:=hR.blk _ _ h1;have hM:=Kl (G:=G) L;cases b with
  |cell t v z=>obtain⟨x,arr,ty,g1,g2,g3⟩:=hb;exact⟨x,arr,ty,g1,g2,g3.jE hM⟩
  |buf t l ver z=>
   rcases hb with ⟨x,arr,ty,css,cap,rest,g1,g2,g3,g4,g5,g6,g7,g8⟩|⟨g1,g2,g3,g4⟩
   ·exact .inl ⟨x,arr,ty,css,cap,rest,g1,g2,g3,g4.mono fun _ _ h=>h.ext hM.env,g5,g6,g7,g8⟩
   ·exact .inr ⟨g1,g2,g3.ext hM.env,g4⟩
  |map k v l=>obtain⟨x,es,clock,g1,g2,g3,g4⟩:=hb;exact⟨x,es,clock,g1,g2,g3.mono fun _ _ h=>⟨h.1.ext hM.env,h.2.ext hM.env⟩,g4⟩
 ·obtain⟨hk,c,h1,_⟩:=zU h;obtain⟨hk',c',h1',_⟩:=zU h';exact IZ hL hk hk' (hR.inj _ _ _ _ _ h1 h1' hβ hβ')
theorem iH.RQ:∀{l:List V}{m:List Value},iH G tm l m->iH G #[] (l.map Bx.gD) m
 |[],[],h=>h
 |_::_,_::_,h=>by simp only[iH,map_cons]at h⊢;exact⟨h.1.gD,h.2.RQ⟩
 |[],_::_,h=>by simp[iH]at h
 |_::_,[],h=>by simp[iH]at h
theorem QI{hp:aP}{L N:List Nat}{s i ver j u:Nat}(h:Ff hp L N s i ver=some (j,u)):j=mP L N s i/\u=(match blt i L.length with
  |true=>B5 hp (L.getD i 0) ver
  |false=>ver):=by
 unfold Ff at h;unfold mP;cases hb:blt i L.length with
 |true=>rw[hb]at h;cases h;exact⟨rfl,rfl⟩
 |false=>
  rw[hb]at h;simp only at h⊢;split at h
  ·rename_i k hk;cases h;exact⟨rfl,rfl⟩
  ·cases h
theorem QH(hp:aP)(L N:List Nat)(s k:Nat)(b:jX)(m:Nat):b.im m↔(nT hp L N s k b).im m:=by
 cases b with
 |buf t l v z=>unfold nT;cases blt k L.length<;>exact Iff.rfl
 |cell _ _ _=>exact Iff.rfl
 |map _ _ _=>exact Iff.rfl
def gT{α:Type}(h:aP)(e:Nat->Nat)(new HX:Nat->α)(i:Nat):α:=match look (h.map fun x=>(e x.1,x.1)) i with
 |some k=>new k
 |none=>HX i
theorem Q1(hR:cW G){L:List Nat}{s:Nat}{w':World}{β2:Nat->Option Nat}{σ2:Nat->Value}{h2:aP}(ht:Tr (uo G L) ((uo G L).at w' β2 σ2 h2))(hL:L.Nodup)
  (hf:kW G.hp (wM L (Cy G.hp L s h2))=true) (ho:once ((Cy G.hp L s h2).map (·.1))=true):
  (Ext ((uo G L).at w' β2 σ2 h2).env (GE.env ⟨w',gT h2 (mP L (rN L h2) s) β2 G.β,gT h2 (mP L (rN L h2) s) σ2 G.σ,iV (Cy G.hp L s h2) G.hp,G.n0,G.Bo,G.I0⟩)->
   Mv (Ff G.hp L (rN L h2) s) ((uo G L).at w' β2 σ2 h2) ⟨w',gT h2 (mP L (rN L h2) s) β2 G.β,gT h2 (mP L (rN L h2) s) σ2 G.σ,iV (Cy G.hp L s h2) G.hp,G.n0,G.Bo,G.I0⟩)/\
  TS G (uo G L) ((uo G L).at w' β2 σ2 h2) ⟨w',gT h2 (mP L (rN L h2) s) β2 G.β,gT h2 (mP L (rN L h2) s) σ2 G.σ,iV (Cy G.hp L s h2) G.hp,G.n0,G.Bo,G.I0⟩ (mP L (rN L h2) s):=by
 unfold Cy at hf ho⊢;generalize rN L h2=N at*;have ho':once (h2.map fun x=>mP L N s x.1)=true:=by rw[map_map]at ho;exact ho
 have hat:∀i,aw (iV (h2.map fun x=>(mP L N s x.1,nT G.hp L N s x.1 x.2)) G.hp) i=match look (h2.map fun x=>(mP L N s x.1,nT G.hp L N s x.1 x.2)) i with
  |some b=>some b
  |none=>aw G.hp i:=zi _ _
 have hkey:∀k b,aw h2 k=some b->look (h2.map fun x=>(mP L N s x.1,x.1)) (mP L N s k)=some k:=fun k b h=>Ha _ h2 k b ho' h;have hd:∀k b,aw h2 k=some b->look (h2.map fun x=>(mP L N s x.1,nT G.hp L N s x.1 x.2)) (mP L N s k)=some (nT G.hp L N s k b):=fun k b h=>by
  have h1:=hkey k b h;cases hl:look (h2.map fun x=>(mP L N s x.1,nT G.hp L N s x.1 x.2)) (mP L N s k)with
  |none=>exfalso;have:=nj _ _ hl;apply this;rw[map_map];have:=kh _ _ _ h;obtain⟨x,hx,hxk⟩:=List.mem_map.1 this;exact List.mem_map.2 ⟨x,hx,by simp[hxk]⟩
  |some b'=>obtain⟨k',b2,q1,q2,q3,q4⟩:=qW (mP L N s) (fun k b=>nT G.hp L N s k b) h2 _ _ hl;rw[h1]at q1;cases q1;rw[h]at q3;cases q3;rw[q4]
 have hM:Ext ((uo G L).at w' β2 σ2 h2).env (GE.env ⟨w',gT h2 (mP L N s) β2 G.β,gT h2 (mP L N s) σ2 G.σ,iV (h2.map fun x=>(mP L N s x.1,nT G.hp L N s x.1 x.2)) G.hp,G.n0,G.Bo,G.I0⟩)->
   Mv (Ff G.hp L N s) ((uo G L).at w' β2 σ2 h2) ⟨w',gT h2 (mP L N s) β2 G.β,gT h2 (mP L N s) σ2 G.σ,iV (h2.map fun x=>(mP L N s x.1,nT G.hp L N s x.1 x.2)) G.hp,G.n0,G.Bo,G.I0⟩:=fun hE=>by
  refine⟨hE,fun id ver j u blk hρ hb=>?_⟩;have hb':aw h2 id=some blk:=hb;obtain⟨rfl,rfl⟩:=QI hρ;refine⟨nT G.hp L N s id blk,?_,?_⟩
  ·show aw (iV _ G.hp) _=_;rw[hat,hd id blk hb']
  ·have hβ:gT h2 (mP L N s) β2 G.β (mP L N s id)=β2 id:=by unfold gT;rw[hkey id blk hb']
   have hσ:gT h2 (mP L N s) σ2 G.σ (mP L N s id)=σ2 id:=by unfold gT;rw[hkey id blk hb']
   cases blk with
   |cell t v z=>exact⟨rfl,hβ⟩
   |map k v l=>exact⟨rfl,rfl,hβ⟩
   |buf t l c z=>
    unfold nT;cases hlt:blt id L.length with
    |false=>exact⟨fun h=>h,fun _ h=>⟨h,rfl,hβ,hσ,le_refl _⟩⟩
    |true=>
     simp only;unfold B5;split
     ·exact⟨fun h=>by omega,fun _ h=>⟨by omega,rfl,hβ,hσ,le_refl _⟩⟩
     ·exact⟨fun h=>h,fun _ h=>⟨h,rfl,hβ,hσ,le_refl _⟩⟩
 refine⟨hM,rfl,rfl,rfl,rfl,rfl,rfl,rfl,fun i blk' hi=>?_,fun i blk hi=>?_⟩
 ·have hi':=hi;rw[hat]at hi';cases hl:look (h2.map fun x=>(mP L N s x.1,nT G.hp L N s x.1 x.2)) i with
  |some b'=>
   rw[hl]at hi';simp only[Option.some.injEq]at hi';subst hi';obtain⟨k,b2,q1,q2,q3,q4⟩:=qW (mP L N s) (fun k b=>nT G.hp L N s k b) h2 _ _ hl;left;refine⟨k,b2,q2,q3,?_,?_,fun m=>by rw[q4];exact QH _ _ _ _ _ _ _,fun hE hB=>?_⟩
   ·show gT h2 (mP L N s) β2 G.β i=_;unfold gT;rw[q1];rfl
   ·show gT h2 (mP L N s) σ2 G.σ i=_;unfold gT;rw[q1];rfl
   ·have hβ:gT h2 (mP L N s) β2 G.β i=β2 k:=by unfold gT;rw[q1]
    have hσ:gT h2 (mP L N s) σ2 G.σ i=σ2 k:=by unfold gT;rw[q1]
    rw[q4];cases b2 with
    |cell t v z=>obtain⟨x,arr,ty,g1,g2,g3⟩:=hB;exact⟨x,arr,ty,hβ.trans g1,g2,g3.jE (hM hE)⟩
    |map k v l=>obtain⟨x,es,clock,g1,g2,g3,g4⟩:=hB;exact⟨x,es,clock,hβ.trans g1,g2,g3.mono fun _ _ h=>⟨h.1.ext hE,h.2.ext hE⟩,g4⟩
    |buf t l ver z=>
     have key:∀v',rG ⟨w',gT h2 (mP L N s) β2 G.β,gT h2 (mP L N s) σ2 G.σ,iV (h2.map fun x=>(mP L N s x.1,nT G.hp L N s x.1 x.2)) G.hp,G.n0,G.Bo,G.I0⟩ i (.buf t l v' z):=fun v'=>by
      rcases hB with ⟨x,arr,ty,css,cap,rest,g1,g2,g3,g4,g5,g6,g7,g8⟩|⟨g1,g2,g3,g4⟩
      ·exact .inl ⟨x,arr,ty,css,cap,rest,hβ.trans g1,hσ.trans g2,g3,g4.mono fun _ _ h=>h.ext hE,g5,g6,g7,g8⟩
      ·refine .inr ⟨hβ.trans g1,g2,?_,?_⟩
       ·show an _ _ _ [gT h2 (mP L N s) σ2 G.σ i];rw[hσ];exact g3.ext hE
       ·show∃a n,gT h2 (mP L N s) σ2 G.σ i=_;rw[hσ];exact g4
     unfold nT;cases blt k L.length<;>exact key _
  |none=>
   rw[hl]at hi';right;have hnk:look (h2.map fun x=>(mP L N s x.1,x.1)) i=none:=by
    cases hk:look (h2.map fun x=>(mP L N s x.1,x.1)) i with
    |none=>rfl
    |some k=>exfalso;have:=kh _ _ _ hk;apply nj _ _ hl;rw[map_map]at this⊢;exact this
   refine⟨hi',?_,?_,fun k blk hk he=>?_⟩
   ·show gT h2 (mP L N s) β2 G.β i=_;unfold gT;rw[hnk]
   ·show gT h2 (mP L N s) σ2 G.σ i=_;unfold gT;rw[hnk]
   ·obtain⟨blk2,r1,_⟩:=ht.kC.blk k 0 k 0 blk rfl hk;have:=hkey k blk2 r1;rw[he,hnk]at this;cases this
 ·by_cases hiL:i∈L
  ·obtain⟨k,hk⟩:=AZ hiL;obtain⟨hlt,hget⟩:=xI hk;have he:mP L N s k=i:=by rw[Na hlt,hget]
   have hb1:=Km (G:=G) hlt (by rw[hget];exact hi);obtain⟨blk2,r1,_⟩:=ht.kC.blk k 0 k 0 _ rfl hb1;have r1':aw h2 k=some blk2:=r1;have hdk:=hd k blk2 r1';rw[he]at hdk;refine⟨nT G.hp L N s k blk2,by show aw (iV _ G.hp) i=_;rw[hat,hdk],fun v=>?_⟩;obtain⟨blk2',r2,r3⟩:=ht.kC.blk k v k v _ rfl hb1;rw[r1]at r2;cases r2;have hβ:gT h2 (mP L N s) β2 G.β i=β2 k:=by have:=hkey k blk2 r1';rw[he]at this;unfold gT;rw[this]
   have hβ1:(uo G L).β k=G.β i:=by show G.β (L.getD k 0)=_;rw[hget]
   cases blk with
   |cell t c z=>cases blk2 with
    |cell t2 c2 z2=>exact⟨r3.1,hβ.trans (r3.2.trans hβ1)⟩
    |buf _ _ _ _=>exact r3.elim
    |map _ _ _=>exact r3.elim
   |map a b l=>cases blk2 with
    |map a2 b2 l2=>exact⟨r3.1,r3.2.1,hβ.trans (r3.2.2.trans hβ1)⟩
    |cell _ _ _=>exact r3.elim
    |buf _ _ _ _=>exact r3.elim
   |buf t l c z=>cases blk2 with
    |buf t2 l2 c2 z2=>
     have hblt:blt k L.length=true:=Nat.ble_eq_true_of_le hlt;have hv:nT G.hp L N s k (.buf t2 l2 c2 z2)= .buf t2 l2 (c2+c+1) z2:=by unfold nT;rw[hblt];simp only;unfold B5;rw[hget,hi]
     rw[hv];exact⟨fun h=>by omega,fun h h'=>by omega⟩
    |cell _ _ _=>exact r3.elim
    |map _ _ _=>exact r3.elim
  ·have hnd:look (h2.map fun x=>(mP L N s x.1,nT G.hp L N s x.1 x.2)) i=none:=by
    cases hl:look (h2.map fun x=>(mP L N s x.1,nT G.hp L N s x.1 x.2)) i with
    |none=>rfl
    |some b'=>
     exfalso;have hm:=kh _ _ _ hl;have hfree:∀(l:List Nat),kW G.hp l=true->∀j∈l,free G.hp j=true:=by
      intro l;induction l with
      |nil=>intro _ j hj;cases hj
      |cons a r ih=>
       intro h j hj;simp only[kW,and_eq_true]at h;rcases List.mem_cons.1 hj with rfl|hj
       ·exact h.1
       ·exact ih h.2 j hj
     have hmem:mem L i=false:=by
      cases hq:mem L i with
      |false=>rfl
      |true=>exact absurd (IW.1 hq) hiL
     have:=hfree _ hf i (by
      simp only[wM,List.mem_filter];exact⟨hm,by rw[hmem];rfl⟩)
     rw[mV this]at hi;cases hi
   have hnk:look (h2.map fun x=>(mP L N s x.1,x.1)) i=none:=by
    cases hk:look (h2.map fun x=>(mP L N s x.1,x.1)) i with
    |none=>rfl
    |some k=>exfalso;have:=kh _ _ _ hk;apply nj _ _ hnd;rw[map_map]at this⊢;exact this
   refine⟨blk,by show aw (iV _ G.hp) i=_;rw[hat,hnd];exact hi,fun v=>gA.refl _ _ _ _ _ ?_ ?_⟩
   ·show gT h2 (mP L N s) β2 G.β i=_;unfold gT;rw[hnk]
   ·show gT h2 (mP L N s) σ2 G.σ i=_;unfold gT;rw[hnk]
theorem Q2{a:Act}(hR:cW G){o:Oper}{f:Nat}{h:List V->aP->Option Sh}(hS:JF P f h/\oJ P f){dst:Option Nat}{args:List V}{s:Sh}{L:List Nat}(hv:pX C G.hp dst h args=some (.sh s L)){y:s.Y}(hy:s.o=some y)
  (hz:(kW G.hp (wM L (s.f y).2)&&once ((s.f y).2.map (·.1)))=true) {vals:Array Value} (ha:iH G tm args vals.toList)
  (hrun:(execOp a.eval o).run P G.w=(callFunc f vals).run P G.w) {Q:Exit->Act->World->Prop}:pv P G a o (s.f y).1 (iV (s.f y).2 G.hp) Q:=by
 obtain⟨lC,fn,n1,n2,n3⟩:=hS;unfold pX at hv;simp only at hv;split at hv
 ·rename_i sh hsh;simp only[Option.some.injEq,Out.sh.injEq]at hv;obtain⟨rfl,rfl⟩:=hv;simp only at hy hz⊢;rw[and_eq_true]at hz;have hL:=Hq G.hp args;have n2':¬fn.name= "runtime.NumGoroutine" :=by simpa using n2
  have n3':¬fn.body=none:=by intro e;rw[e]at n3;simp at n3
  have h2:(callFunc f vals).run P G.w= .ok (.enter f vals) G.w:=by simp[callFunc,n1,n2',n3']
  have hcall:=lC _ _ sh y hsh hy G.w (fun k=>G.β ((reach G.hp args).getD k 0)) (fun k=>G.σ ((reach G.hp args).getD k 0)) G.im vals ⟨fun b m h=>h.2.1,hR.glob⟩ (Qv hR hL) (iH.jE (Kl (reach G.hp args)) _ _ ha.RQ);unfold pv Oper.wp;rw[hrun,h2];simp only[Oper.upon_enter];refine hcall.mono fun e w' ⟨v,β2,σ2,he,t1,t2,t3⟩=>?_;subst he;obtain⟨hM,hB⟩:=Q1 hR t1 hL hz.1 hz.2;obtain⟨l1,l2,l3⟩:=lift hR (Be _ _ _) t2 t1 hB;exact⟨v,_,_,rfl,l2,l3,(bC.jE (hM l1) _ _ t3).gD⟩
 ·cases hv
theorem Qb{a:Act}(hC:iY P C)(hR:cW G)(hL:uW G a.tmps fr a.eval){g:Option Gd}(hg:MD g a.tmps)(o:Oper){s:Sh}{L:List Nat}(hv:oR C g fr G.hp o.dst o.op=some (.sh s L)){y:s.Y}(hy:s.o=some y)
  (hz:(kW G.hp (wM L (s.f y).2)&&once ((s.f y).2.map (·.1)))=true) {Q:Exit->Act->World->Prop}:pv P G a o (s.f y).1 (iV (s.f y).2 G.hp) Q:=by
 obtain⟨dst,op,type,pos,after,guard⟩:=o;cases op<;>simp only[oR,reduceCtorEq]at hv
 case call c=>
  split at hv
  ·exfalso;split at hv
   ·split at hv
    ·split at hv
     ·revert hv;unfold nX;repeat' split
      all_goals first|(simp[Cd];done)|(intro h;cases h;done)
     ·cases hv
    ·cases hv
   ·cases hv
  ·exfalso;split at hv
   ·split at hv
    ·revert hv;unfold yC;repeat' split
     all_goals first|(simp[Cd];done)|(intro h;cases h;done)
    ·cases hv
   ·cases hv
  ·cases hv
  ·split at hv
   ·rename_i f' args htg;split at hv
    ·split at hv<;>simp at hv
    ·split at hv
     ·rename_i h hsh;obtain⟨vals,h1,h2⟩:=vL hC (fun x=>hL.un hg x) htg;exact Q2 hR (hC.sh _ _ hsh) hv hy hz h1 (h2 dst type pos after guard)
     ·cases hv
   ·cases hv
 all_goals (exfalso;revert hv)
 all_goals (repeat' split)
 all_goals first|(simp[Cd];done)|(intro h;cases h;done)
end
section
variable {P:Program}{C:Ctx}{G0:GE}{S:St}{a:Act}{w:World}{β:Nat->Option Nat}{σ:Nat->Value}
def eE(G0:GE)(S:St)(a:Act)(w:World):Prop:=∃β σ,Rel G0 S a w β σ
theorem Rel.look(h:Rel G0 S a w β σ):uW (G0.at w β σ S.hp) a.tmps S.fr a.eval:=⟨h.ev,fun d=>rfl⟩
theorem q9(f:V->V)(hf:f .any= .any):∀(l:List V)(i:Nat),nth (l.map f) i=f (nth l i)
 |[],_=>hf.symm
 |_::_,0=>rfl
 |_::l,i+1=>by simpa[nth]using q9 f hf l i
theorem rb(v:V):∀(l:List V)(d i:Nat),nth (l.set d v) i=if d=i/\i<l.length then v else nth l i
 |[],d,i=>by simp[nth]
 |_::_,0,0=>by simp[nth]
 |_::_,0,i+1=>by simp[nth]
 |_::_,d+1,0=>by simp[nth]
 |_::l,d+1,i+1=>by simp only[List.set_cons_succ,nth,List.length_cons,Nat.add_right_cancel_iff,Nat.add_lt_add_iff_right];exact rb v l d i
theorem Pt{G:GE}{tm:Array Value}{d:Nat}{y:Value}{v:V}{x:Value}(h:bC G tm v x):bC G (tm.setIfInBounds d y) (qa d v) x:=by
 cases v with
 |opt d' w u=>
  simp only[qa];split
  ·exact .any
  ·rename_i hd;have hne:d≠d':=fun e=>hd (by rw[e];exact beq_refl d');simp only[bC]at h⊢;rw[Array.getElem?_setIfInBounds_ne hne];exact h
 |_=>simp only[qa,bC]at h⊢<;>exact h
theorem GQ(fr:List V)(d:Option Nat)(v:V):(k9 fr d v).length=fr.length:=by cases d<;>simp[k9]
theorem Rel.next(h:Rel G0 S a w β σ){w':World}{β':Nat->Option Nat}{σ':Nat->Value}{hp':aP}(t:Tr (G0.at w β σ S.hp) (G0.at w' β' σ' hp'))(hR:cW (G0.at w' β' σ' hp'))(dst:Option Nat)(v:V)(x:Value)
  (hx:∀d,dst=some d->bC (G0.at w' β' σ' hp') (a.put dst x).tmps v x):Rel G0 ⟨k9 S.fr dst v,hp'⟩ (a.put dst x) w' β' σ':=by
 refine⟨h.tr.trans t,hR,?_,?_,fun i y hy=>?_⟩
 ·cases dst<;>exact h.defers
 ·rw[GQ,<-h.size];cases dst<;>simp[Act.put]
 ·cases dst with
  |none=>exact(h.fr i y hy).ext t.kC
  |some d=>
   simp only[k9];rw[rb,q9 _ rfl];simp only[Act.put]at hy⊢;by_cases hdi:d=i
   ·subst hdi;have hlt:d<a.tmps.size:=by
     grind
    rw[Array.getElem?_setIfInBounds_self_of_lt hlt]at hy;cases hy;rw[if_pos ⟨rfl,by simpa[<-h.size]using hlt⟩];exact hx d rfl
   ·rw[if_neg (fun e=>hdi e.1)];rw[Array.getElem?_setIfInBounds_ne hdi]at hy;exact Pt ((h.fr i y hy).ext t.kC)
theorem Rel.put(h:Rel G0 S a w β σ)(dst:Option Nat)(v:V)(x:Value)(hx:∀d,dst=some d->bC (G0.at w β σ S.hp) (a.put dst x).tmps v x):Rel G0 ⟨k9 S.fr dst v,S.hp⟩ (a.put dst x) w β σ:=
 h.next (Tr.refl _) h.ok dst v x hx
theorem Tv{G:GE}{tm:Array Value}{g:Option Gd}{v:V}{x:Value}(hg:∀gd,g=some gd->tm[gd.d]? =some (.bool gd.want)){tm':Array Value}(h:bC G tm' v x){C:Ctx}{ty:Nat}:bC G tm (tag g (jN C ty v)) x:=by
 cases g with
 |none=>exact h.jN
 |some gd=>simp only[tag,bC];exact⟨fun _=>h.jN,fun e=>absurd (hg gd rfl) e⟩
theorem Mq{G:GE}{tm:Array Value}{gd:Gd}{v:V}(hg:tm[gd.d]? ≠some (.bool gd.want)):bC G tm (tag (some gd) v) undef:=by simp only[tag,bC];grind
theorem DS{a:Act}{dst:Option Nat}{d:Nat}{x:Value}(h:dst≠some d):(a.put dst x).tmps[d]? =a.tmps[d]?:=by
 cases dst with
 |none=>rfl
 |some e=>simp only[Act.put];exact Array.getElem?_setIfInBounds_ne (fun e'=>h (by rw[e']))
theorem sE{α:Type}{g:Option Gd}{c:Prop}{i:Decidable c}{x y:α}(h:FG g c i (some x)=some y)(hb:∀gd,g=some gd->gd.b=true):c/\x=y:=by
 cases g with
 |none=>
  simp only[FG]at h;split at h
  ·rename_i hc;exact⟨hc,Option.some.inj h⟩
  ·cases h
 |some gd=>
  simp only[FG]at h;split at h
  ·rename_i hc;simp only[hb gd rfl,Bool.not_true,Bool.or_false,decide_eq_true_eq]at hc;exact⟨hc,Option.some.inj h⟩
  ·cases h
abbrev pr:List Nat->St->Option (List Nat×St):=fun wr S=>some (wr,S)
theorem Rs(hC:iY P C)(h:Rel G0 S a w β σ){g:Option Gd}(hg:MD g a.tmps)(hgb:∀gd,g=some gd->gd.b=true)(o:Oper)(hgd:∀gd,g=some gd->o.dst≠some gd.d){wr:List Nat}{S':St}
  (ht:T C g o S pr=some (wr,S')) {Q:Exit->Act->World->Prop}:o.wp P a w (fun a' w'=>eE G0 S' a' w') Q:=by
 have hg':∀x gd,g=some gd->(a.put o.dst x).tmps[gd.d]? =some (.bool gd.want):=fun x gd e=>by rw[DS (hgd gd e)];exact hg gd e
 have fin:∀{v:V}{hp':aP},pv P (G0.at w β σ S.hp) a o v hp' Q->S'=⟨k9 S.fr o.dst (tag g (jN C o.type v)),hp'⟩->o.wp P a w (fun a' w'=>eE G0 S' a' w') Q:=by rintro v hp' hd rfl;refine Oper.wp_mono (fun a' w' hK=>?_) hd;obtain⟨x,β',σ',rfl,t1,t2,t3⟩:=hK;exact⟨β',σ',h.next t1 t2 o.dst _ x fun d _=>Tv (hg' x) t3⟩
 unfold T at ht;cases hv:m8 C g S.fr S.hp o.op with
 |none=>
  rw[hv]at ht;simp only at ht;have md:Cp g=some true\/Cp g=none:=by cases g with
   |none=>exact .inl rfl
   |some gd=>
    simp only[Cp];split
    ·rw[hgb gd rfl];exact .inl rfl
    ·exact .inr rfl
  rcases md with md|md;rotate_left
  ·rw[md]at ht;cases ht
  rw[md]at ht;simp only at ht;cases he:oR C g S.fr S.hp o.dst o.op with
  |none=>rw[he]at ht;cases ht
  |some r=>
   rw[he]at ht;cases r with
   |val c i v=>cases ht
   |new v=>cases ht
   |eff c i v hp wr'=>simp only at ht;obtain⟨hc,e⟩:=sE ht (fun _ e=>by cases e);cases e;exact fin (Nb hC h.ok h.look hg o he hc).Wl rfl
   |call F x hp wr'=>simp only at ht;obtain⟨r,h1,h2⟩:=Option.bind_eq_some_iff.1 ht;cases h2;exact fin (Lg hC h.ok h.look hg o he h1) rfl
   |sh s L=>
    simp only at ht;obtain⟨y,h1,h2⟩:=Option.bind_eq_some_iff.1 ht;rw[s.ok]at h2;split at h2
    ·rename_i hz;cases h2;exact fin (Qb hC h.ok h.look hg o he h1 hz) rfl
    ·cases h2
 |some r=>
  rw[hv]at ht;cases r with
  |val c i v=>simp only at ht;obtain⟨hc,e⟩:=sE ht hgb;cases e;obtain⟨x,r1,r2⟩:=Py hC h.ok h.look hg o hv hc;exact fin (FB h.ok r1 r2) rfl
  |call F x hp wr'=>
   simp only at ht;have hr:∃r,F.run x=some r/\S'=⟨k9 S.fr o.dst (tag g (jN C o.type (F.out r))),S.hp⟩:=by
    cases g with
    |none=>simp only[Pb]at ht;obtain⟨r,h1,h2⟩:=Option.bind_eq_some_iff.1 ht;cases h2;exact⟨r,h1,rfl⟩
    |some gd=>simp only[Pb,hgb gd rfl,if_true]at ht;obtain⟨r,h1,h2⟩:=Option.bind_eq_some_iff.1 ht;cases h2;exact⟨r,h1,rfl⟩
   obtain⟨r,hr,e⟩:=hr;exact fin (Mz hC h.ok h.look hg o hv hr) e
  |new v=>cases ht;exact fin (Pw hC h.ok h.look hg o hv).Wl rfl
  |eff c i v hp wr'=>cases ht
  |sh s L=>cases ht
theorem VE(h:Rel G0 S a w β σ){gd:Gd}(hn:a.tmps[gd.d]? ≠some (.bool gd.want))(hs:gd.sure=true->gd.b=false)(o:Oper)(hgd:o.dst≠some gd.d){wr:List Nat}{S':St}(ht:T C (some gd) o S pr=some (wr,S')):eE G0 S' (a.put o.dst undef) w:=by
 have hn':(a.put o.dst undef).tmps[gd.d]? ≠some (.bool gd.want):=by rw[DS hgd];exact hn
 have fin:∀{v:V},S'=⟨k9 S.fr o.dst (tag (some gd) v),S.hp⟩->eE G0 S' (a.put o.dst undef) w:=by rintro v rfl;exact⟨β,σ,h.put o.dst _ undef fun d _=>Mq hn'⟩
 unfold T at ht;cases hv:m8 C (some gd) S.fr S.hp o.op with
 |none=>
  rw[hv]at ht;simp only[Cp]at ht;cases hsu:gd.sure with
  |true=>rw[hsu,hs hsu]at ht;cases ht;exact fin rfl
  |false=>rw[hsu]at ht;cases ht
 |some r=>
  rw[hv]at ht;cases r with
  |val c i v=>
   simp only[FG]at ht;split at ht
   ·cases ht;exact fin rfl
   ·cases ht
  |call F x hp wr'=>simp only at ht;obtain⟨r,_,h2⟩:=Option.bind_eq_some_iff.1 ht;cases h2;exact fin rfl
  |new v=>cases ht;exact fin rfl
  |eff c i v hp wr'=>cases ht
  |sh s L=>cases ht
def pG(C:Ctx)(ops:Array Oper)(o:Oper)(S:St):Option (List Nat×St):=
 match guardOf ops S.fr o with
 |none=>none
 |some g=>T C g o S pr
theorem zo(hC:iY P C)(h:eE G0 S a w){ops:Array Oper}(o:Oper){wr:List Nat}{S':St}(ht:pG C ops o S=some (wr,S')){Q:Exit->Act->World->Prop}:
  if Region.wanted o (yielded ops a.tmps)then o.wp P a w (fun a' w'=>eE G0 S' a' w') Q else eE G0 S' (a.put o.dst undef) w:=by
 obtain⟨β,σ,h⟩:=h;unfold pG at ht;cases hgo:guardOf ops S.fr o with
 |none=>rw[hgo]at ht;cases ht
 |some g=>
  rw[hgo]at ht;simp only at ht;unfold guardOf at hgo;cases hgd:o.guard with
  |none=>rw[hgd]at hgo;cases hgo;rw[if_pos (by simp[Region.wanted,hgd])];exact Rs hC h (fun _ e=>by cases e) (fun _ e=>by cases e) o (fun _ e=>by cases e) ht
  |some jw=>
   obtain⟨j,wt⟩:=jw;rw[hgd]at hgo;simp only at hgo;cases hd:(ops[j]?).bind (·.dst)with
   |none=>rw[hd]at hgo;cases hgo
   |some d=>
    rw[hd]at hgo;simp only at hgo;split at hgo
    ·cases hgo
    ·rename_i hne;have key:∀b sure,g=some ⟨d,wt,(b==wt),sure⟩->(a.tmps[d]? =some (.bool wt)->b=wt)->(sure=true->a.tmps[d]? ≠some (.bool wt)->b≠wt)->
       if Region.wanted o (yielded ops a.tmps)then o.wp P a w (fun a' w'=>eE G0 S' a' w') Q else eE G0 S' (a.put o.dst undef) w:=by
      intro b sure hg hb hs;subst hg;by_cases hw:a.tmps[d]? =some (.bool wt)
      ·rw[if_pos (by simp[Region.wanted,hgd,yielded,hd,hw])];exact Rs hC h (fun gd e=>by cases e;exact hw) (fun gd e=>by cases e;simp[hb hw]) o (fun gd e=>by cases e;exact hne) ht
      ·rw[if_neg]
       ·exact VE h (gd:=⟨d,wt,(b==wt),sure⟩) hw (fun e=>by simpa using hs e hw) o hne ht
       ·simp only[Region.wanted,hgd,yielded,hd,bind_some];cases hx:a.tmps[d]? with
        |none=>simp
        |some v=>cases v<;>simp;rename_i b';intro e;exact hw (by rw[hx,e])
     have hlt:∀v,a.tmps[d]? =some v->bC (G0.at w β σ S.hp) a.tmps (nth S.fr d) v:=fun v hv=>h.fr d v hv;split at hgo
     ·rename_i b heq;refine key b true (Option.some.inj hgo).symm (fun hw=>?_) fun _ hw e=>?_
      ·have:=hlt _ hw;rw[heq]at this;have:=this.bool;simpa using this.symm
      ·have hlt2:d<a.tmps.size:=by
        rcases Nat.lt_or_ge d a.tmps.size with h'|h'
        ·exact h'
        ·rw[t7 (by rw[<-h.size];exact h')]at heq;cases heq
       have hx:=Array.getElem?_eq_getElem hlt2;have:=hlt _ hx;rw[heq]at this;have:=this.bool;rw[this,e]at hx;exact hw hx
     ·rename_i d' w' b heq;refine key b false (Option.some.inj hgo).symm (fun hw=>?_) fun e=>by cases e
      have:=hlt _ hw;rw[heq]at this;simp only[bC]at this;by_cases hc:a.tmps[d']? =some (.bool w')
      ·have:=bC.bool (G:=G0.at w β σ S.hp) (tm:=#[]) (by simpa only[bC]using this.1 hc);simpa using this.symm
      ·have:=this.2 hc;simp[undef]at this
     ·cases hgo
end
def wg(i:Nat)(o:Oper):Bool:=o.after.toList.all fun e=>!Region.binds .any e||blt e.on i
def tV(o:Oper):Bool:=match o.guard with
 |none=>true
 |some (j,_)=>o.after.toList.any fun e=>Region.binds .any e&&beq e.on j
def vD(ops:Array Oper)(ms:List Nat)(i:Nat)(oi:Oper):Nat->List Oper->Bool
 |_,[]=>true
 |x,ox::r=>(Nat.ble i x||(ms.getD i 0).testBit x||ox.apart ops oi)&&vD ops ms i oi (x+1) r
def Az(i:Nat)(oi:Oper):Nat->List Oper->Bool
 |_,[]=>true
 |x,ox::r=>(beq x i||oi.dst.isNone||decide (ox.dst≠oi.dst))&&Az i oi (x+1) r
def Ht(ops:Array Oper)(ms:List Nat):Nat->List Oper->Bool
 |_,[]=>true
 |i,o::r=>wg i o&&tV o&&vD ops ms i o 0 ops.toList&&Az i o 0 ops.toList&&Ht ops ms (i+1) r
def EJ(ops:Array Oper):Bool:=Region.noSelect ops&&Ht ops (wL ops.toList []) 0 ops.toList
inductive HU(ops:Array Oper):Nat->Nat->Prop
 |edge {j:Nat} {o:Oper} {e:Edge} (ho:ops[j]? =some o) (he:e∈o.after) (hb:Region.binds .any e=true):HU ops e.on j
 |step {x j:Nat} {o:Oper} {e:Edge} (ho:ops[j]? =some o) (he:e∈o.after) (hb:Region.binds .any e=true) (h:HU ops x e.on):HU ops x j
theorem yP{ops:Array Oper}{acc:List Nat}{j:Nat}{o:Oper}(ho:ops[j]? =some o)(hacc:∀k m,acc[k]? =some m->∀x,m.testBit x=true->HU ops x k):
  ∀(es:List Edge),(∀e∈es,e∈o.after)->∀m0,(∀x,m0.testBit x=true->HU ops x j)->∀x,(es.foldl (fun m e=>if Region.binds .any e then m|||2^e.on|||acc.getD e.on 0 else m) m0).testBit x=true->HU ops x j
 |[],_,_,h0,x,hx=>h0 x hx
 |e::es,hes,m0,h0,x,hx=>by
  simp only[List.foldl_cons]at hx;refine yP ho hacc es (fun e' he'=>hes e' (mem_cons_of_mem _ he')) _ (fun y hy=>?_) x hx;split at hy
  ·rename_i hb;simp only[Nat.testBit_or,or_eq_true]at hy;rcases hy with (hy|hy)|hy
   ·exact h0 y hy
   ·have:y=e.on:=by
     grind
    subst this;exact .edge ho (hes e (by simp)) hb
   ·cases hk:acc[e.on]? with
    |none=>simp[List.getD,hk]at hy
    |some m=>exact .step ho (hes e (by simp)) hb (hacc _ _ hk y (by simpa[List.getD,hk]using hy))
  ·exact h0 y hy
theorem vA{ops:Array Oper}:∀(l:List Oper)(acc:List Nat),(∀k,l[k]? =ops[acc.length+k]?)->(∀k m,acc[k]? =some m->∀x,m.testBit x=true->HU ops x k)->
  ∀k m,(wL l acc)[k]? =some m->∀x,m.testBit x=true->HU ops x k
 |[],acc,_,hacc,k,m,hk,x,hx=>hacc k m hk x hx
 |o::r,acc,hl,hacc,k,m,hk,x,hx=>by
  simp only[wL]at hk;have h0:ops[acc.length]? =some o:=by simpa using(hl 0).symm
  refine vA r _ (fun k=>?_) (fun k m hk x hx=>?_) k m hk x hx
  ·have:=hl (k+1);grind
  ·rw[List.getElem?_append]at hk;split at hk
   ·grind
   ·rename_i hge;have hk0:k=acc.length:=by
     grind
    subst hk0;simp at hk;subst hk;exact yP h0 hacc _ (fun e he=>by simpa using he) 0 (fun x hx=>by simp at hx) x hx
theorem yX{ops:Array Oper}{ms:List Nat}{i:Nat}{oi:Oper}:∀(l:List Oper)(s:Nat),vD ops ms i oi s l=true->∀k ox,l[k]? =some ox->s+k<i->(ms.getD i 0).testBit (s+k)=true\/ox.apart ops oi=true
 |[],_,_,k,ox,h,_=>by simp at h
 |o::r,s,h,0,ox,hk,hlt=>by
  simp at hk;subst hk;simp only[vD,and_eq_true,or_eq_true]at h;rcases h.1 with (h1|h1)|h1
  ·have:=Nat.le_of_ble_eq_true h1;omega
  ·grind
  ·exact .inr h1
 |o::r,s,h,k+1,ox,hk,hlt=>by simp only[vD,and_eq_true]at h;have:=yX r (s+1) h.2 k ox (by simpa using hk) (by omega);grind
theorem AA{i:Nat}{oi:Oper}:∀(l:List Oper)(s:Nat),Az i oi s l=true->∀k ox,l[k]? =some ox->s+k≠i->∀d,oi.dst=some d->ox.dst≠some d
 |[],_,_,k,ox,h,_,_,_=>by simp at h
 |o::r,s,h,0,ox,hk,hne,d,hd=>by simp at hk;subst hk;simp only[Az,and_eq_true,or_eq_true,decide_eq_true_eq]at h;simp_all
 |o::r,s,h,k+1,ox,hk,hne,d,hd=>by simp only[Az,and_eq_true]at h;exact AA r (s+1) h.2 k ox (by simpa using hk) (by omega) d hd
theorem BJ{ops:Array Oper}{ms:List Nat}:∀(l:List Oper)(s:Nat),Ht ops ms s l=true->∀k o,l[k]? =some o->
  wg (s+k) o=true/\tV o=true/\vD ops ms (s+k) o 0 ops.toList=true/\Az (s+k) o 0 ops.toList=true
 |[],_,_,k,o,h=>by simp at h
 |o::r,s,h,0,o',hk=>by simp at hk;subst hk;simp only[Ht,and_eq_true]at h;grind
 |o::r,s,h,k+1,o',hk=>by simp only[Ht,and_eq_true]at h;have:=BJ r (s+1) h.2 k o' (by simpa using hk);grind
structure xj(ops:Array Oper):Prop where
 low:∀(i:Nat)(o:Oper),ops[i]? =some o->∀e∈o.after,Region.binds .any e=true->e.on<i
 Qg:∀(i:Nat)(o:Oper)(j:Nat)(w:Bool),ops[i]? =some o->o.guard=some (j,w)->∃e∈o.after,Region.binds .any e=true/\e.on=j
 pair:∀(x i:Nat)(ox oi:Oper),ops[x]? =some ox->ops[i]? =some oi->x<i->HU ops x i\/ox.apart ops oi=true
 dst:∀(x i:Nat)(ox oi:Oper)(d:Nat),ops[x]? =some ox->ops[i]? =some oi->x≠i->oi.dst=some d->ox.dst≠some d
theorem EK{ops:Array Oper}(h:EJ ops=true):xj ops:=by
 simp only[EJ,and_eq_true]at h;have hr:=BJ ops.toList 0 h.2;have row:∀i o,ops[i]? =some o->wg i o=true/\tV o=true/\vD ops (wL ops.toList []) i o 0 ops.toList=true/\Az i o 0 ops.toList=true:=fun i o ho=>by grind
 refine⟨fun i o ho e he hb=>?_,fun i o j w ho hg=>?_,fun x i ox oi hx hi hlt=>?_,fun x i ox oi d hx hi hne hd=>?_⟩
 ·have:=(row i o ho).1;simp only[wg,List.all_eq_true]at this;have:=this e (by simpa using he);simp_all
 ·have:=(row i o ho).2.1;simp only[tV,hg,List.any_eq_true,and_eq_true]at this;simp_all
 ·have:=yX ops.toList 0 (row i oi hi).2.2.1 x ox (by simpa using hx) (by omega);rw[Nat.zero_add]at this;refine this.imp (fun hm=>?_) id;cases hk:(wL ops.toList [])[i]? with
  |none=>simp[List.getD,hk]at hm
  |some m=>exact vA ops.toList [] (fun k=>by simp) (fun k m hk=>by simp at hk) i m hk x (by simpa[List.getD,hk]using hm)
 ·exact AA ops.toList 0 (row i oi hi).2.2.2 x ox (by simpa using hx) (by omega) d hd
theorem HU.jk{ops:Array Oper}{jk:Array Bool}(hdown:∀j o,ops[j]? =some o->jk.getD j false=true->∀e∈o.after,Region.binds .any e=true->jk.getD e.on false=true){x j:Nat}(h:HU ops x j):
  (∀o,ops[j]? =some o->∀e∈o.after,Region.binds .any e=true->jk.getD e.on false=true)->jk.getD x false=true:=by
 induction h with
 |edge ho he hb=>exact fun hp=>hp _ ho _ he hb
 |step ho he hb _ ih=>exact fun hp=>ih fun o' ho'=>hdown _ o' ho' (hp _ ho _ he hb)
abbrev gX(L:List Nat)(hp hp':aP):Prop:=∀i∈L,aw hp' i=aw hp i
theorem gX.sub{L M:List Nat}{hp hp':aP}(h:gX L hp hp')(hs:∀i∈M,i∈L):gX M hp hp':=fun i hi=>h i (hs i hi)
mutual
theorem td{hp hp':aP}:∀v:V,gX v.ids hp hp'->rd hp' v=rd hp v
 | .app id ver,h=>by simp only[rd];rw[h id (by simp[V.ids])]
 | .view id p t n lo hi,h=>by simp only[rd];rw[h id (by simp[V.ids])]
 | .agg t l,h=>by simp only[rd];rw[oA l (fun i hi=>h i (by simpa[V.ids]using hi))]
 | .any,_=>rfl
 | .data _ _,_=>rfl
 | .nilp,_=>rfl
 | .snil,_=>rfl
 | .ref _ _ _,_=>rfl
 | .iref _ _,_=>rfl
 | .tup _,_=>rfl
 | .opt _ _ _,_=>rfl
 | .fn _ _ _,_=>rfl
 | .full _ _,_=>rfl
 | .ifc _ _,_=>rfl
 | .mth _ _,_=>rfl
 | .map _,_=>rfl
 | .glob _,_=>rfl
theorem oA{hp hp':aP}:∀l:List V,gX (V.iw l) hp hp'->uL hp' l=uL hp l
 |[],_=>rfl
 |v::l,h=>by simp only[uL];rw[td v (fun i hi=>h i (by simp[V.iw,hi])),oA l (fun i hi=>h i (by simp[V.iw,hi]))]
end
mutual
theorem yN{hp hp':aP}:∀v:V,gX v.ids hp hp'->loose hp' v=loose hp v
 | .app id ver,h=>by simp only[loose];rw[h id (by simp[V.ids])]
 | .view id p t n lo hi,h=>by simp only[loose];rw[h id (by simp[V.ids])]
 | .agg t l,h=>by simp only[loose];rw[n7 l (fun i hi=>h i (by simpa[V.ids]using hi))]
 | .any,_=>rfl
 | .data _ _,_=>rfl
 | .nilp,_=>rfl
 | .snil,_=>rfl
 | .ref _ _ _,_=>rfl
 | .iref _ _,_=>rfl
 | .tup _,_=>rfl
 | .opt _ _ _,_=>rfl
 | .fn _ _ _,_=>rfl
 | .full _ _,_=>rfl
 | .ifc _ _,_=>rfl
 | .mth _ _,_=>rfl
 | .map _,_=>rfl
 | .glob _,_=>rfl
theorem n7{hp hp':aP}:∀l:List V,gX (V.iw l) hp hp'->lQ hp' l=lQ hp l
 |[],_=>rfl
 |v::l,h=>by simp only[lQ];rw[yN v (fun i hi=>h i (by simp[V.iw,hi])),n7 l (fun i hi=>h i (by simp[V.iw,hi]))]
end
mutual
theorem EV{hp hp':aP}{i:Nat}:∀v:V,aw hp' i=aw hp i->aw (frz hp' v) i=aw (frz hp v) i
 | .app id _,h=>by
  simp only[frz];by_cases e:i=id
  ·subst e;rw[h];cases aw hp i<;>simp[h,bO]
  ·cases aw hp id<;>cases aw hp' id<;>simp only[bO,if_neg e,h]
 | .view id _ _ _ _ _,h=>by
  simp only[frz];by_cases e:i=id
  ·subst e;rw[h];cases aw hp i<;>simp[h,bO]
  ·cases aw hp id<;>cases aw hp' id<;>simp only[bO,if_neg e,h]
 | .agg _ l,h=>by simp only[frz];exact EU l h
 | .any,h=>h
 | .data _ _,h=>h
 | .nilp,h=>h
 | .snil,h=>h
 | .ref _ _ _,h=>h
 | .iref _ _,h=>h
 | .tup _,h=>h
 | .opt _ _ _,h=>h
 | .fn _ _ _,h=>h
 | .full _ _,h=>h
 | .ifc _ _,h=>h
 | .mth _ _,h=>h
 | .map _,h=>h
 | .glob _,h=>h
theorem EU{hp hp':aP}{i:Nat}:∀l:List V,aw hp' i=aw hp i->aw (my hp' l) i=aw (my hp l) i
 |[],h=>h
 |v::l,h=>by simp only[my];exact EU l (EV v h)
end
mutual
theorem zS{hp:aP}{i:Nat}:∀v:V,i∉v.ids->aw (frz hp v) i=aw hp i
 | .app id _,h=>by simp only[frz];have e:i≠id:=fun e=>h (by simp[V.ids,e]);cases aw hp id<;>simp only[bO,if_neg e]
 | .view id _ _ _ _ _,h=>by simp only[frz];have e:i≠id:=fun e=>h (by simp[V.ids,e]);cases aw hp id<;>simp only[bO,if_neg e]
 | .agg _ l,h=>by simp only[frz];exact wx l (by simpa[V.ids]using h)
 | .any,_=>rfl
 | .data _ _,_=>rfl
 | .nilp,_=>rfl
 | .snil,_=>rfl
 | .ref _ _ _,_=>rfl
 | .iref _ _,_=>rfl
 | .tup _,_=>rfl
 | .opt _ _ _,_=>rfl
 | .fn _ _ _,_=>rfl
 | .full _ _,_=>rfl
 | .ifc _ _,_=>rfl
 | .mth _ _,_=>rfl
 | .map _,_=>rfl
 | .glob _,_=>rfl
theorem wx{hp:aP}{i:Nat}:∀l:List V,i∉V.iw l->aw (my hp l) i=aw hp i
 |[],_=>rfl
 |v::l,h=>by simp only[V.iw,mem_append,not_or]at h;simp only[my];rw[wx l h.2,zS v h.1]
end
structure Loc(hp h hp' h':aP)(wr:List Nat):Prop where
 on:∀i∈wr,aw h' i=aw h i
 off:∀i,i∉wr->aw h i=aw hp i
 off':∀i,i∉wr->aw h' i=aw hp' i
theorem Loc.nil{hp hp':aP}:Loc hp hp hp' hp' []:=⟨fun _ h=>by simp at h,fun _ _=>rfl,fun _ _=>rfl⟩
theorem Loc.set{hp hp':aP}{d:Nat}{b:jX}:Loc hp (fR hp d b) hp' (fR hp' d b) [d]:=
 ⟨fun i hi=>by simp only[mem_singleton]at hi;subst hi;simp[bO],fun i hi=>by simp only[mem_singleton]at hi;rw[bO,if_neg hi],fun i hi=>by simp only[mem_singleton]at hi;rw[bO,if_neg hi]⟩
theorem Loc.my{hp hp':aP}{l:List V}(h:gX (V.iw l) hp hp'):Loc hp (my hp l) hp' (Bx.my hp' l) (V.iw l):=
 ⟨fun i hi=>EU l (h i hi),fun i hi=>wx l hi,fun i hi=>wx l hi⟩
theorem Loc.frz{hp hp':aP}{v:V}(h:gX v.ids hp hp'):Loc hp (frz hp v) hp' (Bx.frz hp' v) v.ids:=
 ⟨fun i hi=>EV v (h i hi),fun i hi=>zS v hi,fun i hi=>zS v hi⟩
theorem Loc.QW{hp hp':aP}{v:V}{d:Nat}{b:jX}(h:gX v.ids hp hp'):Loc hp (fR (Bx.frz hp v) d b) hp' (fR (Bx.frz hp' v) d b) (d::v.ids):=by
 refine⟨fun i hi=>?_,fun i hi=>?_,fun i hi=>?_⟩
 ·rw[bO,bO];split
  ·rfl
  ·rename_i hne;exact EV v (h i ((List.mem_cons.1 hi).resolve_left hne))
 all_goals
  simp only[mem_cons,not_or]at hi;rw[bO,if_neg hi.1,zS v hi.2]
inductive sj(hp hp':aP):Out->Out->Prop
 |eff {c i v h h' wr} (l:Loc hp h hp' h' wr):sj hp hp' (.eff c i v h wr) (.eff c i v h' wr)
 |call {F a h h' wr} (l:Loc hp h hp' h' wr):sj hp hp' (.call F a h wr) (.call F a h' wr)
 |sh {s L}:sj hp hp' (.sh s L) (.sh s L)
 |val {c i v}:sj hp hp' (.val c i v) (.val c i v)
def Out.wr:Out->List Nat
 | .eff _ _ _ _ w=>w
 | .call _ _ _ w=>w
 |_=>[]
mutual
theorem AX:∀v:V,∀i∈(gD v).ids,i∈v.ids
 | .opt _ _ _,i,h=>by simp[gD,V.ids]at h
 | .any,_,h=>h
 | .data _ _,_,h=>h
 | .nilp,_,h=>h
 | .snil,_,h=>h
 | .ref _ _ _,_,h=>h
 | .iref _ _,_,h=>h
 | .tup _,_,h=>h
 | .fn _ _ _,_,h=>h
 | .full _ _,_,h=>h
 | .app _ _,_,h=>h
 | .view _ _ _ _ _ _,_,h=>h
 | .agg _ _,_,h=>h
 | .ifc _ _,_,h=>h
 | .mth _ _,_,h=>h
 | .map _,_,h=>h
 | .glob _,_,h=>h
end
theorem xH(g:Option Gd)(v:V):∀i∈(un g v).ids,i∈v.ids:=by
 intro i h;cases v<;>simp only[un]at h<;>try exact h
 rename_i d w u;cases g with
 |none=>simp[V.ids]at h
 |some g=>
  simp only at h;split at h
  ·simpa[V.ids]using AX u i h
  ·simp[V.ids]at h
theorem Iv(v:V):∀i∈(dd v).ids,i∈v.ids:=by
 intro i h;cases v<;>simp only[dd]at h<;>first|exact h|simp[V.ids]at h
theorem Gt(u:Ty)(v:V):∀i∈(o7 u v).ids,i∈v.ids:=by
 intro i h;cases v<;>simp only[o7]at h<;>first|exact h|(cases u<;>simp[V.ids]at h)
theorem GX{l:List V}{v:V}{i:Nat}(hv:v∈l)(hi:i∈v.ids):i∈V.iw l:=by
 induction l with
 |nil=>cases hv
 |cons a l ih=>
  simp only[V.iw,mem_append];rcases List.mem_cons.1 hv with e|e
  ·subst e;exact .inl hi
  ·exact .inr (ih e)
theorem Gs{l:List V}{i:Nat}(h:i∈V.iw l):∃v∈l,i∈v.ids:=by
 induction l with
 |nil=>simp[V.iw]at h
 |cons a l ih=>
  simp only[V.iw,mem_append]at h;rcases h with h|h
  ·exact⟨a,by simp,h⟩
  ·obtain⟨v,h1,h2⟩:=ih h;exact⟨v,mem_cons_of_mem _ h1,h2⟩
theorem yJ(l m:List V):V.iw (l++m)=V.iw l++V.iw m:=by
 induction l with
 |nil=>rfl
 |cons a l ih=>simp[V.iw,ih]
theorem xG{fr:List V}{L:List Operand}{x:Operand}(hx:x∈L):∀i∈(ev fr x).ids,i∈V.iw (L.map (ev fr)):=fun i hi=>GX (mem_map_of_mem hx) hi
theorem m7{C:Ctx}{g:Option Gd}{fr:List V}{c:Call}{f:Nat}{args:List V}(h:target C (fun x=>un g (ev fr x)) c=some (f,args)):∀i∈V.iw args,i∈V.iw (c.operands.toList.map (ev fr)):=by
 unfold target at h;have hargs:∀x∈c.args.toList,x∈c.operands.toList:=fun x hx=>by simp[Call.operands];right;simpa using hx
 have arg:∀i∈V.iw (c.args.toList.map fun x=>un g (ev fr x)),i∈V.iw (c.operands.toList.map (ev fr)):=fun i hi=>by obtain⟨v,h1,h2⟩:=Gs hi;obtain⟨x,hx,rfl⟩:=List.mem_map.1 h1;exact xG (hargs x hx) i (xH g _ i h2)
 have sn:∀(l:List V),∀i∈V.iw (l.map gD),i∈V.iw l:=fun l i hi=>by obtain⟨v,h1,h2⟩:=Gs hi;obtain⟨x,hx,rfl⟩:=List.mem_map.1 h1;exact GX hx (AX _ i h2)
 split at h
 ·rename_i fo hc;split at h
  ·rename_i f' fst cap he;cases h;intro i hi;simp only[nt,yJ,List.nil_append,mem_append]at hi;have hf:∀i∈(ev fr fo).ids,i∈V.iw (c.operands.toList.map (ev fr)):=xG (by simp[Call.operands,hc]);have he':un g (ev fr fo)= .fn f fst cap:=he;have hfc:∀i,(i∈V.iw fst\/i∈V.iw cap)->i∈(ev fr fo).ids:=fun i hi=>xH g _ i (by rw[he'];simpa[V.ids]using hi);grind
  ·cases h
 ·rename_i r m hc;split at h
  ·rename_i t v he0;have he:un g (ev fr r)= .ifc t v:=he0;split at h
   ·cases h;intro i hi;simp only[nt,yJ,List.map_nil,List.append_nil,V.iw,mem_append]at hi;rcases hi with hi|hi
    ·exact xG (L:=c.operands.toList) (x:=r) (by simp[Call.operands,hc]) i (xH g _ i (by rw[he];simpa[V.ids]using AX _ i hi))
    ·exact arg i hi
   ·cases h
  ·cases h
 ·cases h
theorem mn{e e':Operand->V}{τ:Ty}:∀(l:List (Nat×Operand))(c:τ.den),(∀p∈l,e' p.2=e p.2)->jt e' τ l c=jt e τ l c
 |[],_,_=>rfl
 |(i,x)::r,c,h=>by have ih:=fun c:τ.den=>mn (τ:=τ) r c fun p hp=>h p (mem_cons_of_mem _ hp);have hx:e' x=e x:=h (i,x) (by simp);simp only[jt,hx,ih]
theorem v7{e e':Operand->V}{τ:Ty}:∀(l:List (Nat×Operand))(c:V),(∀p∈l,e' p.2=e p.2)->nS e' τ l c=nS e τ l c
 |[],_,_=>rfl
 |(i,x)::r,c,h=>by have ih:=fun c=>v7 (τ:=τ) r c fun p hp=>h p (mem_cons_of_mem _ hp);have hx:e' x=e x:=h (i,x) (by simp);simp only[nS,hx,ih]
theorem mW{parts:Array (Nat×Operand)}{p:Nat×Operand}(h:p∈parts.toList):p.2∈(parts.toList.map (·.2)):=List.mem_map.2 ⟨p,h,rfl⟩
theorem Jy{C:Ctx}{g:Option Gd}{fr:List V}{hp hp':aP}{op:Op}(h:gX (V.iw (op.operands.toList.map (ev fr))) hp hp'):m8 C g fr hp' op=m8 C g fr hp op:=by
 have E:∀x,x∈op.operands->gX (un g (ev fr x)).ids hp hp':=fun x hx i hi=>h i (xG (by simpa using hx) i (xH g _ i hi));have D:∀x,x∈op.operands->gX (dd (un g (ev fr x))).ids hp hp':=fun x hx i hi=>E x hx i (Iv _ i hi);have R:∀x,x∈op.operands->rd hp' (dd (un g (ev fr x)))=rd hp (dd (un g (ev fr x))):=fun x hx=>td _ (D x hx);have I:∀x id ver p,x∈op.operands->dd (un g (ev fr x))= .ref id ver p->aw hp' id=aw hp id:=fun x id ver p hx e=>D x hx id (by rw[e];simp[V.ids]);cases op<;>simp only[m8]<;>simp only[Op.operands]at E D R I
 case load t x=>
  cases look C.ty t with
  |none=>rfl
  |some τ=>
   cases he:dd (un g (ev fr x))<;>try rfl
   simp only[I x _ _ _ (by simp) he]
 case indexAddr t x i=>
  cases look C.ty t with
  |none=>rfl
  |some τ=>
   cases he:dd (un g (ev fr x))with
   |ref id ver p=>
    have:=I x _ _ _ (by simp) he;cases τ<;>cases dd (un g (ev fr i))<;>first|rfl|(rename_i t3 n3;cases t3<;>first|rfl|simp only[this])
   |app id ver=>
    have:aw hp' id=aw hp id:=D x (by simp) id (by rw[he];simp[V.ids]);cases τ<;>cases dd (un g (ev fr i))<;>first|rfl|(rename_i t3 n3;cases t3<;>first|rfl|simp only[this])
   |data t' y=>cases τ<;>cases t'<;>cases dd (un g (ev fr i))<;>first|rfl|(rename_i t3 n3;cases t3<;>rfl)
   |iref t' y=>cases τ<;>cases t'<;>cases dd (un g (ev fr i))<;>first|rfl|(rename_i t3 n3;cases t3<;>rfl)
   |_=>cases τ<;>cases dd (un g (ev fr i))<;>first|rfl|(rename_i t3 n3;cases t3<;>rfl)
 case lookup t m k c=>
  have hm:∀id,dd (un g (ev fr m))= .map id->aw hp' id=aw hp id:=fun id he=>D m (by simp) id (by rw[he];simp[V.ids]);generalize dd (un g (ev fr m))=v at hm⊢;cases c<;>try rfl
  cases look C.mp t<;>try rfl
  cases v<;>try rfl
  cases dd (un g (ev fr k))<;>try rfl
  simp only[hm _ rfl]
 case fieldAddr t x j=>
  cases look C.ty t with
  |none=>rfl
  |some τ=>
   cases he:dd (un g (ev fr x))with
   |ref id ver p=>simp only[I x _ _ _ (by simp) he]
   |_=>rfl
 case convert s d x=>
  have hr:=R x (by simp);generalize dd (un g (ev fr x))=v at hr;generalize look C.ty s=a;generalize look C.ty d=b;split<;>first|rfl|simp only[hr]|skip
 case buildSlice t n parts=>
  have hb:∀(τ:Ty)(c:τ.den),jt (fun x=>rd hp' (dd (un g (ev fr x)))) τ parts.toList c=jt (fun x=>rd hp (dd (un g (ev fr x)))) τ parts.toList c:=fun τ c=>mn _ _ fun p hq=>R p.2 (by simpa using mW hq);have hl:parts.toList.any (fun p=>loose hp' (dd (un g (ev fr p.2))))=parts.toList.any (fun p=>loose hp (dd (un g (ev fr p.2)))):=by
   rw[Bool.eq_iff_iff];simp only[List.any_eq_true];exact exists_congr fun p=>and_congr_right fun hq=>by rw[yN _ (D p.2 (by simpa using mW hq))]
  simp only[hb,hl]
 case slice t x lo hi mx=>
  cases he:dd (un g (ev fr x))with
  |ref id ver p=>have:=I x _ _ _ (by simp) he;simp only[this]
  |app id ver=>have:aw hp' id=aw hp id:=D x (by simp) id (by rw[he];simp[V.ids]);simp only[this]
  |data t' y=>cases t'<;>rfl
  |iref t' y=>cases t'<;>rfl
  |_=>rfl
 case call c=>
  cases hc:c.callee with
  |builtin b=>
   have hl:c.args.toList.map (fun x=>rd hp' (dd (un g (ev fr x))))=c.args.toList.map (fun x=>rd hp (dd (un g (ev fr x)))):=
    map_congr_left fun x hx=>R x (by simp[Call.operands,hc];simpa using hx)
   simp only[hl];cases b<;>try rfl
   simp only;have hm:∀id,c.args.toList.map (fun x=>rd hp (dd (un g (ev fr x))))=[.map id]->aw hp' id=aw hp id:=fun id h1=>by
    cases hq:c.args.toList with
    |nil=>rw[hq]at h1;simp at h1
    |cons x r=>rw[hq]at h1;simp only[map_cons,List.cons.injEq]at h1;exact D x (by simp[Call.operands,hc];rw[<-Array.mem_toList_iff,hq];simp) id (by rw[O4 h1.1];simp[V.ids])
   generalize c.args.toList.map (fun x=>rd hp (dd (un g (ev fr x))))=L at hm⊢;split
   ·rw[hm _ rfl]
   ·rfl
   ·rfl
   ·rfl
  |value f=>
   simp only;cases ht:target C (fun x=>un g (ev fr x)) c with
   |none=>rfl
   |some fa=>obtain⟨f,args⟩:=fa;have:uL hp' args=uL hp args:=oA args (h.sub (m7 ht));have hlo:lQ hp' args=lQ hp args:=n7 args (h.sub (m7 ht));simp only[this,hlo]
  |invoke r m=>
   simp only;cases ht:target C (fun x=>un g (ev fr x)) c with
   |none=>rfl
   |some fa=>obtain⟨f,args⟩:=fa;have:uL hp' args=uL hp args:=oA args (h.sub (m7 ht));have hlo:lQ hp' args=lQ hp args:=n7 args (h.sub (m7 ht));simp only[this,hlo]
theorem mem_iff{l:List Nat}{i:Nat}:mem l i=true↔i∈l:=by simp only[mem,List.any_eq_true];simp_all
theorem oZ:∀(r l:List Nat)(i:Nat),i∈ui l r↔i∈l\/i∈r
 |[],l,i=>by simp[ui]
 |j::r,l,i=>by
  simp only[ui];split
  ·rename_i h;rw[oZ r l i,mem_cons];have:=mem_iff.1 h;grind
  ·rw[oZ r (l++[j]) i,mem_append,mem_singleton,mem_cons,or_assoc]
theorem ve{hp:aP}:∀(k:Nat)(l:List Nat)(i:Nat),i∈l->i∈mo hp k l
 |0,_,_,h=>h
 |k+1,l,i,h=>by simp only[mo];exact ve k _ i ((oZ _ _ _).2 (.inl h))
theorem yB{hp:aP}:∀(k:Nat)(l l':List Nat),(∀i∈l,i∈l')->∀i∈mo hp k l,i∈mo hp k l'
 |0,_,_,h=>h
 |k+1,l,l',h=>by simp only[mo];refine yB k _ _ fun i hi=>?_;rw[oZ]at hi⊢;grind
theorem AN{α β:Type}{l:List α}{f g:α->List β}(h:∀a∈l,f a=g a):l.flatMap f=l.flatMap g:=by
 induction l with
 |nil=>rfl
 |cons a l ih=>simp only[List.flatMap_cons,h a (by simp),ih fun a ha=>h a (mem_cons_of_mem _ ha)]
theorem qQ{hp hp':aP}:∀(k:Nat)(l:List Nat),gX (mo hp k l) hp hp'->mo hp' k l=mo hp k l
 |0,_,_=>rfl
 |k+1,l,h=>by
  simp only[mo]at h⊢;have:(l.flatMap fun i=>EC (aw hp' i))=l.flatMap fun i=>EC (aw hp i):=AN fun i hi=>by rw[h i (ve k _ i ((oZ _ _ _).2 (.inl hi)))]
  rw[this];exact qQ k _ h
theorem BE{hp:aP}{a b:List V}(h:∀i∈V.iw a,i∈V.iw b):∀i∈reach hp a,i∈reach hp b:=by refine yB 6 _ _ fun i hi=>?_;rw[oZ]at hi⊢;grind
theorem Mb{hp:aP}{a:List V}:∀i∈V.iw a,i∈reach hp a:=fun i hi=>ve 6 _ i ((oZ _ _ _).2 (.inr hi))
theorem De{i k:Nat}:∀{l:List Nat},idxOf l i=some k->i∈l
 |[],h=>by simp[idxOf]at h
 |j::r,h=>by
  simp only[idxOf]at h;split at h
  ·simp_all
  ·cases hr:idxOf r i with
   |none=>rw[hr]at h;cases h
   |some k=>exact mem_cons_of_mem _ (De hr)
theorem Df{hp hp':aP}{L:List Nat}(h:gX L hp hp'):IB hp' L=IB hp L:=by
 funext i ver;simp only[IB];cases hk:idxOf L i with
 |none=>rfl
 |some k=>simp only[TF,h i (De hk)]
theorem Gi{L:List Nat}{i:Nat}(h:blt i L.length=true):L.getD i 0∈L:=by simp_all
theorem Bt{hp hp':aP}{L N:List Nat}{s:Nat}(h:gX L hp hp'):Ff hp' L N s=Ff hp L N s:=by
 funext i ver;simp only[Ff];split
 ·rename_i hi;simp only[B5,h _ (Gi hi)]
 ·rfl
theorem I4{hp hp':aP}{L N:List Nat}{s k:Nat}(h:gX L hp hp')(b:jX):nT hp' L N s k b=nT hp L N s k b:=by
 cases b<;>simp only[nT,Bt h];split
 ·rename_i hi;simp only[B5,h _ (Gi hi)]
 ·rfl
theorem I5{hp hp':aP}{L:List Nat}{s:Nat}(h:gX L hp hp')(d:aP):Cy hp' L s d=Cy hp L s d:=by
 simp only[Cy];exact map_congr_left fun x _=>by rw[I4 h]
theorem A2{hp hp':aP}{L:List Nat}(h:gX L hp hp'):∀(r:List Nat)(k:Nat),(∀i∈r,i∈L)->um hp' L k r=um hp L k r
 |[],_,_=>rfl
 |i::r,k,hr=>by simp only[um,h i (hr i (by simp)),Df h,A2 h r (k+1) fun j hj=>hr j (mem_cons_of_mem _ hj)]
theorem w8{C:Ctx}{hp hp':aP}{dst:Option Nat}{f:List V->aP->Option Sh}{args:List V}(h:gX (reach hp args) hp hp'):pX C hp' dst f args=pX C hp dst f args:=by
 have hr:reach hp' args=reach hp args:=qQ 6 _ h;have hb:∀s vh,behind hp' (reach hp args) s vh=behind hp (reach hp args) s vh:=fun s vh=>by simp only[behind,Bt h,I5 h]
 simp only[pX,hr,Df h,A2 h _ 0 fun _ hi=>hi,hb]
theorem lN{hp hp':aP}{d:Nat}(h:aw hp' d=aw hp d):free hp' d=free hp d:=by simp only[free,h]
theorem Cl{C:Ctx}{hp hp':aP}{dst:Option Nat}{τ:Ty}{x xs:V}{o:Out}(ho:nX C hp dst τ x xs=some o)(h:gX x.ids hp hp')(hw:gX o.wr hp hp'):∃o',nX C hp' dst τ x xs=some o'/\sj hp hp' o o':=by
 unfold nX at ho⊢;cases ha:oM xs τ with
 |none=>rw[ha]at ho;cases ho
 |some m=>
  rw[ha]at ho;simp only at ho⊢;cases x<;>simp only at ho⊢<;>first|(cases ho;done)|skip
  case full τ' l=>
   split at ho
   ·rename_i e;subst e;simp only[dite_true];cases dst with
    |none=>cases ho
    |some d=>
     simp only at ho⊢;split at ho
     ·rename_i hf;cases hz:C.frz.any (beq d)<;>rw[hz]at ho<;>cases ho
      all_goals
       rw[lN (hw _ (by simp[Out.wr])),if_pos hf];exact⟨_,rfl,.eff .set⟩
     ·cases ho
   ·cases ho
  case app id ver=>
   have hb:aw hp' id=aw hp id:=h id (by simp[V.ids]);rw[hb];cases hn:aw hp id with
   |none=>rw[hn]at ho;cases ho
   |some b=>
    rw[hn]at ho;cases b<;>simp only at ho⊢<;>first|(cases ho;done)|skip
    split at ho
    ·rename_i e;subst e;simp only[dite_true];split at ho
     ·rename_i hv;cases ho;rw[if_pos hv];exact⟨_,rfl,.eff .set⟩
     ·cases ho
    ·cases ho
  case view id p τ' n lo hi=>
   rw[td _ h];cases dst with
   |none=>cases ho
   |some d=>
    cases hr:rd hp (.view id p τ' n lo hi)<;>rw[hr]at ho<;>(try simp only at ho⊢)<;>first|(cases ho;done)|skip
    rename_i t l;cases t<;>simp only at ho⊢<;>first|(cases ho;done)|skip
    split at ho
    ·rename_i e;subst e;simp only[dite_true];split at ho
     ·rename_i hf;cases ho;rw[lN (hw _ (by simp[Out.wr])),if_pos hf];exact⟨_,rfl,.eff .set⟩
     ·cases ho
    ·cases ho
theorem FZ{hp hp':aP}{τ:Ty}{x xs:V}{o:Out}(ho:yC hp τ x xs=some o)(h:gX x.ids hp hp'):∃o',yC hp' τ x xs=some o'/\sj hp hp' o o':=by
 unfold yC at ho⊢;cases ha:KZ xs τ with
 |none=>rw[ha]at ho;cases x<;>cases ho
 |some m=>
  rw[ha]at ho;cases x<;>simp only at ho⊢<;>first|(cases ho;done)|skip
  rename_i id p τ' n lo hi;rw[h id (by simp[V.ids])];split at ho
  ·rename_i hb;split at ho
   ·rename_i hg;split at ho
    ·rename_i e;subst e;simp only[dite_true];split at ho
     ·rename_i hc;rw[if_pos hc];split at ho
      ·rename_i hs;cases ho;rw[hs];exact⟨_,rfl,.eff .set⟩
      ·cases ho
     ·cases ho
    ·cases ho
   ·cases ho
  ·cases ho
theorem Io{C:Ctx}{g:Option Gd}{fr:List V}{hp hp':aP}{dst:Option Nat}{op:Op}{o:Out}(ho:oR C g fr hp dst op=some o)(h:gX (V.iw (op.operands.toList.map (ev fr))) hp hp')
  (hcall:∀c,op= .call c->(∀b,c.callee≠ .builtin b)->gX (reach hp (op.operands.toList.map (ev fr))) hp hp') (hw:gX o.wr hp hp'):∃o',oR C g fr hp' dst op=some o'/\sj hp hp' o o':=by
 have E:∀x,x∈op.operands->gX (un g (ev fr x)).ids hp hp':=fun x hx i hi=>h i (xG (by simpa using hx) i (xH g _ i hi));have D:∀x,x∈op.operands->gX (dd (un g (ev fr x))).ids hp hp':=fun x hx i hi=>E x hx i (Iv _ i hi);have R:∀x,x∈op.operands->rd hp' (dd (un g (ev fr x)))=rd hp (dd (un g (ev fr x))):=fun x hx=>td _ (D x hx);have W:∀x u,x∈op.operands->rd hp' (o7 u (dd (un g (ev fr x))))=rd hp (o7 u (dd (un g (ev fr x)))):=fun x u hx=>td _ ((D x hx).sub (Gt u _));cases op<;>simp only[oR]at ho⊢<;>simp only[Op.operands]at E D R W<;>try (cases ho;done)
 case alloc t=>
  split at ho
  ·split at ho
   ·rename_i hf;cases ho;rw[lN (hw _ (by simp[Out.wr])),if_pos hf];exact⟨_,rfl,.eff .set⟩
   ·cases ho
  ·cases ho
 case box t x=>
  split at ho
  ·split at ho
   ·rename_i hf;cases ho;rw[lN (hw _ (by simp[Out.wr])),if_pos hf];exact⟨_,rfl,.eff .set⟩
   ·cases ho
  ·cases ho
 case store t x y=>
  have hy:gX (dd (un g (ev fr y))).ids hp hp':=D y (by simp);split at ho
  ·rename_i τ id ver p hτ he;have hx:aw hp' id=aw hp id:=D x (by simp) id (by rw[he];simp[V.ids]);rw[hx];split at ho
   ·rename_i σ v hb;split at ho
    ·rename_i hc;rw[if_pos hc];split at ho
     ·rename_i v' hs;cases ho;exact⟨_,rfl,.eff .set⟩
     ·cases ho
    ·cases ho
   ·rename_i hb;rw[EV (dd (un g (ev fr y))) hx,R y (by simp)];split at ho
    ·rename_i σ l ver' hb2;split at ho
     ·rename_i hv;simp only[if_pos hv];split at ho
      ·rename_i i q τ' z hp2 hz
       (try simp only[hz])
       split at ho
       ·rename_i ht;simp only[if_pos ht];split at ho
        ·rename_i z' hu;cases ho
         (try simp only[hu])
         exact⟨_,rfl,.eff (.QW hy)⟩
        ·cases ho
       ·cases ho
      ·cases ho
     ·cases ho
    ·cases ho
   ·cases ho
  ·cases ho
 case buildSlice t n parts=>
  have hb:∀(τ:Ty)(c:τ.den),jt (fun x=>rd hp' (dd (un g (ev fr x)))) τ parts.toList c=jt (fun x=>rd hp (dd (un g (ev fr x)))) τ parts.toList c:=fun τ c=>mn _ _ fun p hq=>R p.2 (by simpa using mW hq);simp only[hb];split at ho
  ·split at ho
   ·rename_i hc;rw[if_pos hc];split at ho
    ·rename_i y hy;cases ho;exact⟨_,rfl,.eff (.my fun i hi=>hw i hi)⟩
    ·cases ho
   ·cases ho
  ·cases ho
 case makeMap t rs=>
  split at ho
  ·split at ho
   ·split at ho
    ·rename_i hf;cases ho;rw[lN (hw _ (by simp[Out.wr])),if_pos hf];exact⟨_,rfl,.eff .set⟩
    ·cases ho
   ·cases ho
  ·cases ho
 case mapEntry t m k=>
  split at ho
  ·rename_i tk tv id κ' x hmp he hk;have hx:aw hp' id=aw hp id:=D m (by simp) id (by rw[he];simp[V.ids]);rw[hx];split at ho
   ·split at ho
    ·rename_i hq;subst hq;split at ho
     ·rename_i hc;cases ho;simp only[dif_pos,if_pos hc];exact⟨_,rfl,.eff .set⟩
     ·cases ho
    ·cases ho
   ·cases ho
  ·cases ho
 case mapUpdate t m k y=>
  split at ho
  ·rename_i tk tv id κ' x ν' z hmp he hk hy;have hx:aw hp' id=aw hp id:=D m (by simp) id (by rw[he];simp[V.ids]);rw[hx];split at ho
   ·split at ho
    ·rename_i hq;subst hq;split at ho
     ·rename_i hq;subst hq;split at ho
      ·rename_i hc;cases ho;simp only[dif_pos,if_pos hc];exact⟨_,rfl,.eff .set⟩
      ·cases ho
     ·cases ho
    ·cases ho
   ·cases ho
  ·cases ho
 case entryStore t m n y=>
  split at ho
  ·rename_i tk tv id k i ν' z hmp he hn hy;have hx:aw hp' id=aw hp id:=D m (by simp) id (by rw[he];simp[V.ids]);rw[hx];split at ho
   ·split at ho
    ·rename_i hq;subst hq;split at ho
     ·rename_i hc;cases ho;simp only[dif_pos,if_pos hc];exact⟨_,rfl,.eff .set⟩
     ·cases ho
    ·cases ho
   ·cases ho
  ·cases ho
 case makeSlice t len cap=>
  split at ho
  ·split at ho
   ·rename_i hf;cases ho;rw[lN (hw _ (by simp[Out.wr])),if_pos hf];exact⟨_,rfl,.eff .set⟩
   ·cases ho
  ·cases ho
 case slice t x lo hi mx=>
  split at ho
  ·rename_i id ver τ he hτ;have hx:aw hp' id=aw hp id:=D x (by simp) id (by rw[he];simp[V.ids]);rw[hx];split at ho
   ·rename_i τ' l ver' z hb;split at ho
    ·rename_i hc;simp only[if_pos hc];split at ho
     ·rename_i c i v hs;cases ho;have hz:gX (V.app id ver).ids hp hp':=fun i hi=>by simp only[V.ids,mem_singleton]at hi;subst hi;exact hx
      exact⟨_,rfl,.eff (by simpa only[V.ids]using Loc.frz hz)⟩
     ·cases ho
    ·cases ho
   ·cases ho
  ·cases ho
 case call c=>
  cases hc:c.callee with
  |builtin b=>
   rw[hc]at ho;cases b<;>simp only at ho⊢<;>try (cases ho;done)
   ·split at ho
    ·rename_i x xs t t' ha hty;have m1:x∈c.operands:=by simp[Call.operands,hc];rw[<-Array.mem_toList_iff,ha];simp
     have m2:xs∈c.operands:=by simp[Call.operands,hc];rw[<-Array.mem_toList_iff,ha];simp
     split at ho
     ·rename_i e;simp only[if_pos e];split at ho
      ·rename_i τ hτ;rw[W xs _ m2];exact Cl ho ((E x m1).sub (Gt _ _)) hw
      ·cases ho
     ·cases ho
    ·cases ho
   ·split at ho
    ·rename_i x xs t t' ha hty;have m1:x∈c.operands:=by simp[Call.operands,hc];rw[<-Array.mem_toList_iff,ha];simp
     have m2:xs∈c.operands:=by simp[Call.operands,hc];rw[<-Array.mem_toList_iff,ha];simp
     split at ho
     ·rename_i τ hτ;rw[W xs _ m2];exact FZ ho (E x m1)
     ·cases ho
    ·cases ho
  |value f=>
   have hr:=hcall c rfl (by rw[hc];exact fun _=>nofun);rw[hc]at ho;simp only at ho⊢;cases ht:target C (fun x=>un g (ev fr x)) c with
   |none=>rw[ht]at ho;cases ho
   |some fa=>
    obtain⟨f,args⟩:=fa;rw[ht]at ho;simp only at ho⊢;have hs:=m7 ht;rw[oA args (h.sub hs)];split at ho
    ·rename_i F hF;split at ho
     ·cases ho;exact⟨_,rfl,.call (.my (h.sub hs))⟩
     ·cases ho
    ·split at ho
     ·rename_i f' hf';rw[w8 (hr.sub (BE hs))];refine⟨_,ho,?_⟩;simp only[pX]at ho;split at ho
      ·cases ho;exact .sh
      ·cases ho
     ·cases ho
  |invoke r m=>
   have hr:=hcall c rfl (by rw[hc];exact fun _=>nofun);rw[hc]at ho;simp only at ho⊢;cases ht:target C (fun x=>un g (ev fr x)) c with
   |none=>rw[ht]at ho;cases ho
   |some fa=>
    obtain⟨f,args⟩:=fa;rw[ht]at ho;simp only at ho⊢;have hs:=m7 ht;rw[oA args (h.sub hs)];split at ho
    ·rename_i F hF;split at ho
     ·cases ho;exact⟨_,rfl,.call (.my (h.sub hs))⟩
     ·cases ho
    ·split at ho
     ·rename_i f' hf';rw[w8 (hr.sub (BE hs))];refine⟨_,ho,?_⟩;simp only[pX]at ho;split at ho
      ·cases ho;exact .sh
      ·cases ho
     ·cases ho
theorem wi{fr fr':List V}{x:Operand}(h:∀t,x= .tmp t->nth fr' t=nth fr t):ev fr' x=ev fr x:=by
 cases x with
 |tmp t=>exact h t rfl
 |_=>rfl
theorem ov{ops:Array Oper}{o:Oper}{t:Nat}(h:Operand.tmp t∈o.op.operands):t∈o.looksAt ops:=
 List.mem_append_left _ (List.mem_filterMap.2 ⟨.tmp t,by simpa using h,rfl⟩)
theorem nb{e e':Operand->V}{d:Int}{x:Option Operand}(h:∀y,x=some y->e' y=e y):gw e' d x=gw e d x:=by
 cases x with
 |none=>rfl
 |some y=>simp only[gw,h y rfl]
theorem w9{e e':Operand->V}{τ:Ty}{l:List τ.den}{lo hi mx:Option Operand}(h1:∀y,lo=some y->e' y=e y)(h2:∀y,hi=some y->e' y=e y)(h3:∀y,mx=some y->e' y=e y):
  lz e' τ l lo hi mx=lz e τ l lo hi mx:=by
 simp only[lz,nb h1,nb h2];cases mx with
 |none=>rfl
 |some m=>simp only[h3 m rfl]
theorem xd{C:Ctx}{e e':Operand->V}{c:Call}(h:∀x∈c.operands,e' x=e x):target C e' c=target C e c:=by
 have ha:c.args.toList.map e'=c.args.toList.map e:=map_congr_left fun x hx=>h x (by simp[Call.operands];right;simpa using hx);unfold target;cases hc:c.callee with
 |value f=>simp only[h f (by simp[Call.operands,hc]),nt,ha]
 |invoke r m=>simp only[h r (by simp[Call.operands,hc]),nt,ha]
 |builtin b=>rfl
theorem Jx{C:Ctx}{g:Option Gd}{fr fr':List V}{hp:aP}{op:Op}(h:∀t,Operand.tmp t∈op.operands->nth fr' t=nth fr t):m8 C g fr' hp op=m8 C g fr hp op:=by
 have e:∀x,x∈op.operands->ev fr' x=ev fr x:=fun x hx=>wi fun t ht=>h t (by rw[<-ht];exact hx);cases op<;>simp only[m8]<;>simp only[Op.operands]at e
 case pick c a b=>rw[e c (by simp),e a (by simp),e b (by simp)]
 case call c=>
  have ea:c.args.toList.map (fun x=>dd (un g (ev fr' x)))=c.args.toList.map (fun x=>dd (un g (ev fr x))):=
   map_congr_left fun x hx=>by rw[e x (by simp[Call.operands];right;simpa using hx)]
  have er:c.args.toList.map (fun x=>rd hp (dd (un g (ev fr' x))))=c.args.toList.map (fun x=>rd hp (dd (un g (ev fr x)))):=
   map_congr_left fun x hx=>by rw[e x (by simp[Call.operands];right;simpa using hx)]
  have et:target C (fun x=>un g (ev fr' x)) c=target C (fun x=>un g (ev fr x)) c:=xd fun x hx=>by rw[e x hx]
  simp only[ea,er,et]
 case move x=>rw[e x (by simp)]
 case assign x=>rw[e x (by simp)]
 case load t x=>rw[e x (by simp)]
 case binOp op xt x y yt=>rw[e x (by simp),e y (by simp)]
 case unOp op xt x=>rw[e x (by simp)]
 case convert s d x=>rw[e x (by simp)]
 case fieldAddr t x j=>rw[e x (by simp)]
 case indexAddr t x i=>rw[e x (by simp),e i (by simp)]
 case lookup t m k c=>rw[e m (by simp),e k (by simp)]
 case extract x i=>rw[e x (by simp)]
 case index t x i=>rw[e x (by simp),e i (by simp)]
 case field t x j=>rw[e x (by simp)]
 case nilCheck x=>rw[e x (by simp)]
 case makeInterface t x=>rw[e x (by simp)]
 case makeFunc f fst cap=>
  have e1:fst.toList.map (fun x=>un g (ev fr' x))=fst.toList.map (fun x=>un g (ev fr x)):=map_congr_left fun x hx=>by rw[e x (by simp;left;simpa using hx)]
  have e2:cap.toList.map (fun x=>un g (ev fr' x))=cap.toList.map (fun x=>un g (ev fr x)):=map_congr_left fun x hx=>by rw[e x (by simp;right;simpa using hx)]
  simp only[e1,e2]
 case build t parts=>
  have hb:∀(τ:Ty)(c:V),nS (fun x=>un g (ev fr' x)) τ parts.toList c=nS (fun x=>un g (ev fr x)) τ parts.toList c:=fun τ c=>v7 _ _ fun p hq=>by rw[e p.2 (by simpa using mW hq)]
  simp only[hb]
 case buildSlice t n parts=>
  have hb:∀(τ:Ty)(c:τ.den),jt (fun x=>rd hp (dd (un g (ev fr' x)))) τ parts.toList c=jt (fun x=>rd hp (dd (un g (ev fr x)))) τ parts.toList c:=fun τ c=>mn _ _ fun p hq=>by rw[e p.2 (by simpa using mW hq)]
  have hl:parts.toList.any (fun p=>loose hp (dd (un g (ev fr' p.2))))=parts.toList.any (fun p=>loose hp (dd (un g (ev fr p.2)))):=by grind
  simp only[hb,hl]
 case slice t x lo hi mx=>
  have el:∀y,lo=some y->dd (un g (ev fr' y))=dd (un g (ev fr y)):=fun y hy=>by rw[e y (by simp[hy])]
  have eh:∀y,hi=some y->dd (un g (ev fr' y))=dd (un g (ev fr y)):=fun y hy=>by rw[e y (by simp[hy])]
  have em:∀y,mx=some y->dd (un g (ev fr' y))=dd (un g (ev fr y)):=fun y hy=>by rw[e y (by simp[hy])]
  have b1:∀d,gw (fun x=>dd (un g (ev fr' x))) d lo=gw (fun x=>dd (un g (ev fr x))) d lo:=fun d=>nb el;have b2:∀d,gw (fun x=>dd (un g (ev fr' x))) d hi=gw (fun x=>dd (un g (ev fr x))) d hi:=fun d=>nb eh;have b3:∀(τ:Ty)(l:List τ.den),lz (fun x=>dd (un g (ev fr' x))) τ l lo hi mx=lz (fun x=>dd (un g (ev fr x))) τ l lo hi mx:=fun τ l=>w9 el eh em;simp only[b1,b2,b3,e x (by simp)]
theorem Im{C:Ctx}{g:Option Gd}{fr fr':List V}{hp:aP}{dst:Option Nat}{op:Op}(h:∀t,Operand.tmp t∈op.operands->nth fr' t=nth fr t):oR C g fr' hp dst op=oR C g fr hp dst op:=by
 have e:∀x,x∈op.operands->ev fr' x=ev fr x:=fun x hx=>wi fun t ht=>h t (by rw[<-ht];exact hx);cases op<;>simp only[oR]<;>simp only[Op.operands]at e
 case box t x=>rw[e x (by simp)]
 case store t x y=>rw[e x (by simp),e y (by simp)]
 case makeSlice t x y=>rw[e x (by simp),e y (by simp)]
 case mapEntry t m k=>rw[e m (by simp),e k (by simp)]
 case mapUpdate t m k y=>rw[e m (by simp),e k (by simp),e y (by simp)]
 case entryStore t m n y=>rw[e m (by simp),e n (by simp),e y (by simp)]
 case buildSlice t n parts=>
  have hb:∀(τ:Ty)(c:τ.den),jt (fun x=>rd hp (dd (un g (ev fr' x)))) τ parts.toList c=jt (fun x=>rd hp (dd (un g (ev fr x)))) τ parts.toList c:=fun τ c=>mn _ _ fun p hq=>by rw[e p.2 (by simpa using mW hq)]
  have hl:parts.toList.map (fun p=>dd (un g (ev fr' p.2)))=parts.toList.map (fun p=>dd (un g (ev fr p.2))):=map_congr_left fun p hq=>by rw[e p.2 (by simpa using mW hq)]
  simp only[hb,hl]
 case slice t x lo hi mx=>
  have el:∀y,lo=some y->dd (un g (ev fr' y))=dd (un g (ev fr y)):=fun y hy=>by rw[e y (by simp[hy])]
  have eh:∀y,hi=some y->dd (un g (ev fr' y))=dd (un g (ev fr y)):=fun y hy=>by rw[e y (by simp[hy])]
  have em:∀y,mx=some y->dd (un g (ev fr' y))=dd (un g (ev fr y)):=fun y hy=>by rw[e y (by simp[hy])]
  have b3:∀(τ:Ty)(l:List τ.den),lz (fun x=>dd (un g (ev fr' x))) τ l lo hi mx=lz (fun x=>dd (un g (ev fr x))) τ l lo hi mx:=fun τ l=>w9 el eh em;simp only[b3,e x (by simp)]
 case call c=>
  have et:target C (fun x=>un g (ev fr' x)) c=target C (fun x=>un g (ev fr x)) c:=xd fun x hx=>by rw[e x hx]
  have ea:∀x,x∈c.args.toList->ev fr' x=ev fr x:=fun x hx=>e x (by simp[Call.operands];right;simpa using hx);simp only[et];cases hc:c.callee with
  |builtin b=>
   cases b<;>try rfl
   all_goals
    rcases hl:c.args.toList with _|⟨x,_|⟨y,_|⟨z,r⟩⟩⟩<;>try rfl
    have hx:=ea x (by rw[hl];simp);have hy:=ea y (by rw[hl];simp);rcases c.argTypes.toList with _|⟨t,_|⟨t',_|⟨t'',r⟩⟩⟩<;>first|rfl|simp only[hx,hy]
  |value f=>rfl
  |invoke r m=>rfl
theorem uA{ops:Array Oper}{fr fr':List V}{o:Oper}(h:∀t∈o.looksAt ops,nth fr' t=nth fr t):guardOf ops fr' o=guardOf ops fr o:=by
 unfold guardOf;cases hg:o.guard with
 |none=>rfl
 |some jw=>
  obtain⟨j,w⟩:=jw;simp only;cases hd:(ops[j]?).bind (·.dst)with
  |none=>rfl
  |some d=>simp only;have:d∈o.looksAt ops:=mem_append_right _ (by simp[hg,hd]);rw[h d this]
theorem Qd{fr fr':List V}{o:Oper}(h:∀t,Operand.tmp t∈o.op.operands->nth fr' t=nth fr t):o.op.operands.toList.map (ev fr')=o.op.operands.toList.map (ev fr):=
 map_congr_left fun x hx=>wi fun t ht=>h t (by rw[<-ht];simpa using hx)
def xK:Op->Bool
 | .lookup _ _ _ _=>true
 |_=>false
def Ns:Op->Bool
 | .move _=>true
 | .assign _=>true
 |_=>false
theorem Gf{S:St}{o:Oper}(hl:xK o.op=false)(hm:Ns o.op=false):∀i∈V.iw (o.op.operands.toList.map (ev S.fr)),i∈po S o:=by
 intro i hi;unfold po;split
 ·split
  ·exact hi
  ·exact Mb i hi
 ·rename_i h;rw[h]at hl;cases hl
 ·rename_i h;rw[h]at hm;cases hm
 ·rename_i h;rw[h]at hm;cases hm
 ·exact hi
def pc:Option jX->Option jX->Prop
 |some (.map κ ν l),b=>∃l':List (κ.den×ν.den),b=some (.map κ ν l')/\∀k,getM (az κ) k ν.zero l'=getM (az κ) k ν.zero l
 |a,b=>b=a
abbrev MG(L:List Nat)(hp hp':aP):Prop:=∀i∈L,pc (aw hp i) (aw hp' i)
theorem pc.refl(b:Option jX):pc b b:=by
 cases b with
 |none=>exact rfl
 |some b=>cases b<;>first|exact rfl|exact⟨_,rfl,fun _=>rfl⟩
theorem pc.symm{a b:Option jX}(h:pc a b):pc b a:=by
 cases a with
 |none=>have e:b=none:=h;rw[e];rfl
 |some a=>cases a with
  |map κ ν l=>obtain⟨l',e,h⟩:=h;subst e;exact⟨l,rfl,fun k=>(h k).symm⟩
  |cell t v z=>have e:b=_:=h;rw[e];rfl
  |buf t l v z=>have e:b=_:=h;rw[e];rfl
theorem pc.trans{a b c:Option jX}(h:pc a b)(k:pc b c):pc a c:=by
 cases a with
 |none=>have e:b=none:=h;subst e;exact k
 |some a=>cases a with
  |map κ ν l=>obtain⟨l',e,h⟩:=h;subst e;obtain⟨l2,e,k⟩:=k;subst e;exact⟨l2,rfl,fun x=>(k x).trans (h x)⟩
  |cell t v z=>have e:b=_:=h;subst e;exact k
  |buf t l v z=>have e:b=_:=h;subst e;exact k
theorem pc.of_eq{a b:Option jX}(h:b=a):pc a b:=by subst h;exact .refl _
theorem MA{C:Ctx}{g:Option Gd}{fr:List V}{hp hp':aP}{op:Op}(hl:xK op=true)(h:MG (V.iw (op.operands.toList.map (ev fr))) hp hp'):m8 C g fr hp' op=m8 C g fr hp op:=by
 cases op<;>first|(cases hl;done)|skip
 rename_i t m k c;simp only[m8];have hm:∀id,dd (un g (ev fr m))= .map id->pc (aw hp id) (aw hp' id):=fun id he=>h id (by
  refine xG (x:=m) (by simp[Op.operands]) id (xH g _ id (Iv _ id ?_));rw[he];simp[V.ids])
 generalize dd (un g (ev fr m))=v at hm⊢;cases c<;>try rfl
 cases look C.mp t<;>try rfl
 rename_i tkv;obtain⟨tk,tv⟩:=tkv;cases v<;>try rfl
 rename_i id;cases dd (un g (ev fr k))<;>try rfl
 have hi:=hm id rfl;simp only;cases look C.ty tk<;>try rfl
 cases look C.ty tv<;>try rfl
 cases hb:aw hp id with
 |none=>rw[hb]at hi;have hi:aw hp' id=none:=hi;rw[hi]
 |some b=>
  cases b with
  |map κ ν l=>rw[hb]at hi;obtain⟨l',e,hg⟩:=hi;rw[e];simp only[hg]
  |cell t v z=>rw[hb]at hi;have hi:aw hp' id=_:=hi;rw[hi]
  |buf t l v z=>rw[hb]at hi;have hi:aw hp' id=_:=hi;rw[hi]
theorem Lh{C:Ctx}{g:Option Gd}{fr:List V}{hp:aP}{dst:Option Nat}{op:Op}(hl:xK op=true):oR C g fr hp dst op=none:=by
 cases op<;>first|(cases hl;done)|rfl
theorem Qa{C:Ctx}{g:Option Gd}{fr:List V}{hp:aP}{dst:Option Nat}{op:Op}(hl:Ns op=true):oR C g fr hp dst op=none:=by
 cases op<;>first|(cases hl;done)|rfl
theorem Re{C:Ctx}{g:Option Gd}{fr:List V}{hp hp':aP}{op:Op}(hl:Ns op=true):m8 C g fr hp' op=m8 C g fr hp op:=by
 cases op<;>first|(cases hl;done)|rfl
theorem pz{S S':St}{o:Oper}(hf:∀t,Operand.tmp t∈o.op.operands->nth S'.fr t=nth S.fr t):mQ S' o=mQ S o:=by unfold mQ;rw[show o.op.operands.toList.map (ev S'.fr)=o.op.operands.toList.map (ev S.fr) from map_congr_left fun x hx=>wi fun t ht=>hf t (by rw[<-ht];simpa using hx)]
theorem It{S:St}{o:Oper}(hl:xK o.op=true):mQ S o=V.iw (o.op.operands.toList.map (ev S.fr)):=by
 unfold mQ;cases h:o.op<;>rw[h]at hl<;>first|rfl|cases hl
theorem Iu{S:St}{o:Oper}{c:Call}(hc:o.op= .call c)(hb:∀b,c.callee≠ .builtin b):po S o=reach S.hp (o.op.operands.toList.map (ev S.fr)):=by unfold po;grind
theorem qV{S S':St}{o:Oper}(hf:∀t,Operand.tmp t∈o.op.operands->nth S'.fr t=nth S.fr t)(h:gX (po S o) S.hp S'.hp):po S' o=po S o:=by
 unfold po at h⊢;rw[Qd hf];revert h;split
 ·split
  ·intro _;rfl
  ·intro h;exact qQ 6 _ h
 ·intro _;rfl
 ·intro _;rfl
 ·intro _;rfl
 ·intro _;rfl
def act(C:Ctx)(g:Option Gd)(o:Oper)(fr:List V)(hp:aP):Option (V×List Nat×aP):=
 match m8 C g fr hp o.op with
 |some (.val c i v)=>FG g c i (some (tag g (jN C o.type v),[],hp))
 |some (.call F a _ _)=>(Pb g F a).bind fun r=>some (tag g (jN C o.type (F.out r)),[],hp)
 |some (.new v)=>some (tag g (jN C o.type v),[],hp)
 |some _=>none
 |none=>
  match Cp g with
  |none=>none
  |some false=>some (tag g .any,[],hp)
  |some true=>match oR C g fr hp o.dst o.op with
   |some (.eff c i v h wr)=>FG none c i (some (tag g (jN C o.type v),wr,h))
   |some (.call F a h wr)=>(F.run a).bind fun r=>some (tag g (jN C o.type (F.out r)),wr,h)
   |some (.sh s L)=>s.o.bind fun y=>match kW hp (wM L (s.f y).2)&&once ((s.f y).2.map (·.1))with
    |true=>some (tag g (jN C o.type (s.f y).1),L++(s.f y).2.map (·.1),iV (s.f y).2 hp)
    |false=>none
   |_=>none
theorem JI{α:Type}{C:Ctx}{g:Option Gd}{o:Oper}{S:St}{K:List Nat->St->Option α}:T C g o S K=(act C g o S.fr S.hp).bind fun r=>K r.2.1 ⟨k9 S.fr o.dst r.1,r.2.2⟩:=by
 unfold T act;cases hv:m8 C g S.fr S.hp o.op with
 |none=>
  simp only;cases Cp g with
  |none=>rfl
  |some b=>
   cases b with
   |false=>rfl
   |true=>
    simp only;cases he:oR C g S.fr S.hp o.dst o.op with
    |none=>rfl
    |some r=>
     cases r with
     |eff c i v hp wr=>simp only[FG];split<;>rfl
     |call F a hp wr=>simp only;cases F.run a<;>rfl
     |sh s L=>
      simp only;cases s.o with
      |none=>rfl
      |some y=>simp only[bind_some,s.ok];cases kW S.hp (wM L (s.f y).2)&&once ((s.f y).2.map (·.1))<;>rfl
     |val c i v=>rfl
     |new v=>rfl
 |some r=>
  cases r with
  |val c i v=>cases g<;>simp only[FG]<;>split<;>rfl
  |call F a hp wr=>simp only;cases Pb g F a<;>rfl
  |new v=>rfl
  |eff c i v hp wr=>rfl
  |sh s L=>rfl
theorem CJ{C:Ctx}{g:Option Gd}{o:Oper}{fr fr':List V}{hp:aP}(h:∀t,Operand.tmp t∈o.op.operands->nth fr' t=nth fr t):act C g o fr' hp=act C g o fr hp:=by unfold act;rw[Jx h,Im h]
theorem DY{i:Nat}:∀(d hp hp':aP),aw hp' i=aw hp i->aw (iV d hp') i=aw (iV d hp) i
 |[],_,_,h=>h
 |(j,b)::r,hp,hp',h=>by simp only[iV];rw[bO,bO,DY r _ _ h]
theorem vF{i:Nat}:∀(d hp:aP),i∉d.map (·.1)->aw (iV d hp) i=aw hp i
 |[],_,_=>rfl
 |(j,b)::r,hp,h=>by simp only[map_cons,mem_cons,not_or]at h;simp only[iV];rw[bO,if_neg h.1,vF r _ h.2]
theorem uz{hp hp':aP}:∀l:List Nat,gX l hp hp'->kW hp' l=kW hp l
 |[],_=>rfl
 |i::r,h=>by simp only[kW,lN (h i (by simp)),uz r fun j hj=>h j (mem_cons_of_mem _ hj)]
theorem tL{C:Ctx}{g:Option Gd}{o:Oper}{S:St}{hp':aP}{v:V}{wr:List Nat}{h:aP}(ha:act C g o S.fr S.hp=some (v,wr,h))(hf:gX (po S o) S.hp hp')(hw:gX wr S.hp hp')(hfv:MG (mQ S o) S.hp hp'):
  ∃h',act C g o S.fr hp'=some (v,wr,h')/\Loc S.hp h hp' h' wr:=by
 have hv':m8 C g S.fr hp' o.op=m8 C g S.fr S.hp o.op:=by
  cases hl:xK o.op with
  |true=>rw[It hl]at hfv;exact MA hl hfv
  |false=>
   cases hm:Ns o.op with
   |true=>exact Re hm
   |false=>exact Jy (hf.sub (Gf hl hm))
 unfold act at ha⊢;rw[hv'];cases hv:m8 C g S.fr S.hp o.op with
 |none=>
  rw[hv]at ha;simp only at ha⊢;cases hd:Cp g with
  |none=>rw[hd]at ha;cases ha
  |some b=>
   rw[hd]at ha;cases b with
   |false=>cases ha;exact⟨_,rfl,.nil⟩
   |true=>
    simp only at ha⊢;cases he:oR C g S.fr S.hp o.dst o.op with
    |none=>rw[he]at ha;cases ha
    |some r=>
     rw[he]at ha;have loc:gX r.wr S.hp hp'->∃o',oR C g S.fr hp' o.dst o.op=some o'/\sj S.hp hp' r o':=fun hw'=>Io he (hf.sub (Gf (by
      cases hl:xK o.op with
      |false=>rfl
      |true=>rw[Lh hl]at he;cases he) (by
      cases hm:Ns o.op with
      |false=>rfl
      |true=>rw[Qa hm]at he;cases he))) (fun c hc hb=>by rw[Iu hc hb]at hf;exact hf) hw'
     cases r with
     |eff c i v' h2 w2=>
      simp only at ha;obtain⟨hc,e⟩:=sE ha (fun _ e=>by cases e);cases e;obtain⟨o',l1,l2⟩:=loc hw;cases l2 with
      |eff l=>
       rw[l1];refine⟨_,?_,l⟩;simp only[FG];split
       ·rfl
       ·rename_i hn;exact absurd hc hn
     |call F a h2 w2=>
      simp only at ha;obtain⟨y,h1,h3⟩:=Option.bind_eq_some_iff.1 ha;cases h3;obtain⟨o',l1,l2⟩:=loc hw;cases l2 with
      |call l=>rw[l1];exact⟨_,by simp only[h1,bind_some],l⟩
     |sh s L=>
      simp only at ha;obtain⟨y,h1,h3⟩:=Option.bind_eq_some_iff.1 ha;have hz:(kW S.hp (wM L (s.f y).2)&&once ((s.f y).2.map (·.1)))=true:=by grind
      rw[hz]at h3;cases h3;obtain⟨o',l1,l2⟩:=loc (fun i hi=>by simp[Out.wr]at hi);cases l2 with
      |sh=>
       rw[l1];refine⟨iV (s.f y).2 hp',?_,?_⟩
       ·simp only[h1,bind_some];rw[uz (hp:=S.hp),hz];intro i hi;refine hw i (mem_append_right _ ?_);simp only[wM,List.mem_filter]at hi;exact hi.1
       ·refine⟨fun i hi=>DY _ _ _ (hw i hi),fun i hi=>vF _ _ ?_,fun i hi=>vF _ _ ?_⟩
        all_goals exact fun h=>hi (mem_append_right _ h)
     |val c i v=>cases ha
     |new v=>cases ha
 |some r=>
  rw[hv]at ha;cases r with
  |val c i v'=>
   simp only at ha⊢;have:∀(hq:aP),FG g c i (some (tag g (jN C o.type v'),([]:List Nat),hq))=(FG g c i (some (tag g (jN C o.type v')))).map fun u=>(u,[],hq):=fun hq=>by cases g<;>simp only[FG]<;>split<;>rfl
   rw[this]at ha⊢;obtain⟨u,h1,h2⟩:=Option.map_eq_some_iff.1 ha;cases h2;exact⟨hp',by rw[h1];rfl,.nil⟩
  |call F a hp wr=>simp only at ha⊢;obtain⟨y,h1,h2⟩:=Option.bind_eq_some_iff.1 ha;cases h2;exact⟨hp',by rw[h1];rfl,.nil⟩
  |new v'=>cases ha;exact⟨hp',rfl,.nil⟩
  |eff c i v hp wr=>cases ha
  |sh s L=>cases ha
def rJ(d:Option Nat)(fr:List V):Prop:=∀d',d=some d'->∀t,qa d' (nth fr t)=nth fr t
theorem Kp:∀{l m:List V},l.length=m.length->(∀t,nth l t=nth m t)->l=m
 |[],[],_,_=>rfl
 |a::l,b::m,hl,h=>by have h0:a=b:=h 0;have:=Kp (l:=l) (m:=m) (by simpa using hl) (fun t=>h (t+1));rw[h0,this]
 |[],_::_,hl,_=>by simp at hl
 |_::_,[],hl,_=>by simp at hl
def Ma(fr:List V):Option Nat->V->List V
 |none,_=>fr
 |some d,v=>fr.set d v
theorem lT{d:Option Nat}{fr:List V}(h:rJ d fr)(v:V):k9 fr d v=Ma fr d v:=by
 cases d with
 |none=>rfl
 |some d=>
  simp only[k9,Ma];congr 1;exact Kp (by simp) fun t=>by rw[q9 _ rfl];exact h d rfl t
theorem G6{d:Option Nat}{fr:List V}(h:rJ d fr)(v:V)(t:Nat)(ht:d≠some t):nth (k9 fr d v) t=nth fr t:=by
 rw[lT h];cases d with
 |none=>rfl
 |some d=>simp only[Ma];rw[rb,if_neg];exact fun e=>ht (by rw[e.1])
section
variable {P:Program}{C:Ctx}{G0:GE}{S:St}{a:Act}{w:World}{ops:Array Oper}
theorem My{d:Nat}{g:Option Gd}{v:V}{C:Ctx}{ty:Nat}(h:∀gd,g=some gd->gd.d≠d):qa d (tag g (jN C ty v))=tag g (jN C ty v):=by
 cases g with
 |none=>cases v<;>simp only[jN,tag]<;>first|rfl|(split<;>rfl)
 |some gd=>simp only[tag,qa];rw[if_neg];intro e;exact h gd rfl (eq_of_beq_eq_true e)
theorem Cr{fr:List V}{o:Oper}{gd:Gd}(h:guardOf ops fr o=some (some gd)):gd.d∈o.looksAt ops/\∃j w,o.guard=some (j,w)/\(ops[j]?).bind (·.dst)=some gd.d:=by
 unfold guardOf at h;cases hg:o.guard with
 |none=>rw[hg]at h;cases h
 |some jw=>
  obtain⟨j,w⟩:=jw;rw[hg]at h;simp only at h;cases hd:(ops[j]?).bind (·.dst)with
  |none=>rw[hd]at h;cases h
  |some d=>
   rw[hd]at h;simp only at h;have hm:d∈o.looksAt ops:=mem_append_right _ (by simp[hg,hd]);split at h
   ·cases h
   ·split at h<;>first|(cases h;exact⟨hm,j,w,rfl,hd⟩)|cases h
theorem PV{g:Option Gd}{o:Oper}{fr:List V}{hp:aP}{r}(h:act C g o fr hp=some r):∃v,r.1=tag g (jN C o.type v):=by
 unfold act at h;cases hv:m8 C g fr hp o.op with
 |none=>
  rw[hv]at h;simp only at h;cases hd:Cp g with
  |none=>rw[hd]at h;cases h
  |some b=>
   rw[hd]at h;cases b with
   |false=>cases h;exact⟨.any,rfl⟩
   |true=>
    simp only at h;cases he:oR C g fr hp o.dst o.op with
    |none=>rw[he]at h;cases h
    |some q=>
     rw[he]at h;cases q with
     |eff c i v hp wr=>obtain⟨_,e⟩:=sE h (fun _ e=>by cases e);subst e;exact⟨v,rfl⟩
     |call F a hp wr=>obtain⟨y,_,e⟩:=Option.bind_eq_some_iff.1 h;cases e;exact⟨_,rfl⟩
     |sh s L=>
      obtain⟨y,_,e⟩:=Option.bind_eq_some_iff.1 h;split at e
      ·cases e;exact⟨_,rfl⟩
      ·cases e
     |val c i v=>cases h
     |new v=>cases h
 |some q=>
  rw[hv]at h;cases q with
  |val c i v=>
   refine⟨v,?_⟩;cases g<;>simp only[FG]at h<;>split at h<;>first|(cases h;rfl)|cases h
  |call F a hp wr=>obtain⟨y,_,e⟩:=Option.bind_eq_some_iff.1 h;cases e;exact⟨_,rfl⟩
  |new v=>cases h;exact⟨v,rfl⟩
  |eff c i v hp wr=>cases h
  |sh s L=>cases h
theorem xn{g:Option Gd}{o:Oper}{fr fr':List V}{hp:aP}{r}(hg:guardOf ops fr' o=some g)(h:act C g o fr hp=some r){d:Nat}(hd:∀j w,o.guard=some (j,w)->(ops[j]?).bind (·.dst)≠some d):qa d r.1=r.1:=by obtain⟨v,e⟩:=PV h;rw[e];refine My fun gd he hed=>?_;subst he;obtain⟨_,j,w,h1,h2⟩:=Cr hg;grind
theorem Ez{g:Option Gd}{o:Oper}{v:V}{wr:List Nat}{h:aP}(ha:act C g o S.fr S.hp=some (v,wr,h)):∀i,i∉wr->aw h i=aw S.hp i:=by obtain⟨_,_,l⟩:=tL ha (fun _ _=>rfl) (fun _ _=>rfl) (fun _ _=>pc.refl _);exact l.off
theorem Da{κ ν:Type}(eq:κ->κ->Bool)(k k':κ)(z:ν):∀l:List (κ×ν),getM eq k z (l++[(k',z)])=getM eq k z l
 |[]=>by simp only[List.nil_append,getM];split<;>rfl
 |p::l=>by simp only[List.cons_append,getM,Da eq k k' z l]
theorem Ln{κ ν:Type}(eq:κ->κ->Bool)(k k':κ)(z:ν)(l:List (κ×ν)):getM eq k z (pK eq k' z l)=getM eq k z l:=by
 unfold pK;split
 ·rfl
 ·exact Da eq k k' z l
theorem CK{g:Option Gd}{o:Oper}{v:V}{wr:List Nat}{h:aP}(ha:act C g o S.fr S.hp=some (v,wr,h)):∀i,i∉B9 o.op wr->pc (aw S.hp i) (aw h i):=by
 intro i hi;by_cases hm:∃t m k,o.op= .mapEntry t m k
 ·by_cases hw:i∈wr
  ·obtain⟨t,m,k,ho⟩:=hm;unfold act at ha;rw[ho]at ha;have hv:m8 C g S.fr S.hp (.mapEntry t m k)=none:=rfl;rw[hv]at ha;simp only at ha;cases hd:Cp g with
   |none=>rw[hd]at ha;cases ha
   |some b=>
    rw[hd]at ha;cases b with
    |false=>cases ha;simp at hw
    |true=>
     simp only at ha;cases he:oR C g S.fr S.hp o.dst (.mapEntry t m k)with
     |none=>rw[he]at ha;cases ha
     |some r=>
      rw[he]at ha;simp only[oR]at he;split at he
      ·split at he
       ·rename_i κ0 ν0 κ ν l hk hn hb;split at he
        ·rename_i hq;subst hq;split at he
         ·cases he;obtain⟨_,e⟩:=sE ha (fun _ e=>by cases e);cases e;simp only[mem_singleton]at hw;subst hw;rw[bO,if_pos rfl,hb];exact⟨_,rfl,fun k=>Ln _ _ _ _ _⟩
         ·cases he
        ·cases he
       ·cases he
      ·cases he
  ·exact .of_eq (Ez ha i hw)
 ·have:B9 o.op wr=wr:=by
   cases ho:o.op<;>first|rfl|exact absurd ⟨_,_,_,ho⟩ hm
  rw[this]at hi;exact .of_eq (Ez ha i hi)
theorem ub{o:Oper}{wr:List Nat}{S':St}(h:pG C ops o S=some (wr,S')):∃g v,guardOf ops S.fr o=some g/\act C g o S.fr S.hp=some (v,wr,S'.hp)/\S'.fr=k9 S.fr o.dst v:=by
 unfold pG at h;cases hg:guardOf ops S.fr o with
 |none=>rw[hg]at h;cases h
 |some g=>rw[hg]at h;simp only[JI]at h;obtain⟨⟨v,wr',h'⟩,h1,h2⟩:=Option.bind_eq_some_iff.1 h;cases h2;exact⟨g,v,rfl,h1,rfl⟩
theorem qc{o:Oper}{wr:List Nat}{g:Option Gd}{v:V}{h:aP}(hg:guardOf ops S.fr o=some g)(ha:act C g o S.fr S.hp=some (v,wr,h)):pG C ops o S=some (wr,⟨k9 S.fr o.dst v,h⟩):=by unfold pG;rw[hg];simp only[JI,ha,bind_some]
def Ew(S S':St):Prop:=S'.fr=S.fr/\∀i,aw S'.hp i=aw S.hp i
theorem Ew.refl(S:St):Ew S S:=⟨rfl,fun _=>rfl⟩
theorem Ew.trans{S1 S2 S3:St}(h:Ew S1 S2)(k:Ew S2 S3):Ew S1 S3:=⟨k.1.trans h.1,fun i=>(k.2 i).trans (h.2 i)⟩
theorem Mk{o:Oper}{wr:List Nat}{S1 S':St}(h:pG C ops o S=some (wr,S1))(e:Ew S S'):∃S1',pG C ops o S'=some (wr,S1')/\po S' o=po S o/\mQ S' o=mQ S o/\Ew S1 S1':=by
 obtain⟨g,v,h1,h2,h3⟩:=ub h;obtain⟨h',l1,l2⟩:=tL (hp':=S'.hp) h2 (fun i _=>e.2 i) (fun i _=>e.2 i) (fun i _=>.of_eq (e.2 i));refine⟨⟨k9 S.fr o.dst v,h'⟩,?_,qV (fun t _=>by rw[e.1]) (fun i _=>e.2 i),pz (fun t _=>by rw[e.1]),h3.symm,fun i=>?_⟩
 ·have:=qc (C:=C) (ops:=ops) (S:=S') (o:=o) (wr:=wr) (g:=g) (v:=v) (h:=h') (by rw[e.1];exact h1) (by rw[e.1];exact l1);rw[this,e.1]
 ·by_cases hi:i∈wr
  ·exact l2.on i hi
  ·exact(l2.off' i hi).trans ((e.2 i).trans (l2.off i hi).symm)
inductive xk(C:Ctx)(ops:Array Oper):List (Nat×Rec)->St->St->Prop
 |nil (S:St):xk C ops [] S S
 |cons {i:Nat} {r:Rec} {o:Oper} {m:List (Nat×Rec)} {S S1 Se:St} (ho:ops[i]? =some o) (hs:pG C ops o S=some (r.wr,S1)) (hr:po S o=r.rd/\mQ S o=r.rv/\r.wv=B9 o.op r.wr) (h:xk C ops m S1 Se):xk C ops ((i,r)::m) S Se
theorem xk.eqv{m:List (Nat×Rec)}{S Se:St}(h:xk C ops m S Se):∀{S':St},Ew S S'->∃Se',xk C ops m S' Se'/\Ew Se Se':=by
 induction h with
 |nil S=>exact fun e=>⟨_,.nil _,e⟩
 |cons ho hs hr _ ih=>intro S' e;obtain⟨S1',g1,g2,g2v,g3⟩:=Mk hs e;obtain⟨Se',k1,k2⟩:=ih g3;exact⟨Se',.cons ho g1 ⟨g2.trans hr.1,g2v.trans hr.2.1,hr.2.2⟩ k1,k2⟩
theorem Bk{o:Oper}{wr:List Nat}{S':St}(hs:pG C ops o S=some (wr,S')){d:Nat}(hd:∀j w,o.guard=some (j,w)->(ops[j]?).bind (·.dst)≠some d)(h:rJ (some d) S.fr):rJ (some d) S'.fr:=by
 obtain⟨g,v,e0,e1,e2⟩:=ub hs;intro d' hd' t;cases hd';rw[e2];cases hdst:o.dst with
 |none=>exact h d rfl t
 |some dx=>
  simp only[k9];rw[rb,q9 _ rfl];split
  ·exact xn e0 e1 hd
  ·have:=h d rfl t;cases hv:nth S.fr t with
   |opt d' w' u'=>
    rw[hv]at this;by_cases hx:beq d' dx=true
    ·simp only[qa,hx,if_true]
    ·simp only[qa,hx]at this⊢;exact this
   |_=>rfl
theorem nq{a b:List Nat}(h:u0 a b=true):∀i∈b,i∉a:=by intro i hb ha;simp only[u0,Bool.not_eq_true',List.any_eq_false]at h;exact h i ha (mem_iff.2 hb)
theorem comm{ox oi:Oper}{rx ri:Rec}(hap:ox.apart ops oi=true)(hr:qM rx ri=true)(hx:rJ ox.dst S.fr)(hi:rJ oi.dst S.fr){S1 S2:St}(s1:pG C ops ox S=some (rx.wr,S1))(f1:po S ox=rx.rd/\mQ S ox=rx.rv/\rx.wv=B9 ox.op rx.wr)
  (s2:pG C ops oi S1=some (ri.wr,S2)) (f2:po S1 oi=ri.rd/\mQ S1 oi=ri.rv/\ri.wv=B9 oi.op ri.wr):
  ∃S1' S2',pG C ops oi S=some (ri.wr,S1')/\(po S oi=ri.rd/\mQ S oi=ri.rv/\ri.wv=B9 oi.op ri.wr)/\pG C ops ox S1'=some (rx.wr,S2')/\(po S1' ox=rx.rd/\mQ S1' ox=rx.rv/\rx.wv=B9 ox.op rx.wr)/\Ew S2 S2':=by
 obtain⟨a1,a2,a3⟩:=Oper.apart_spec hap;simp only[qM,and_eq_true]at hr;obtain⟨⟨⟨⟨p1,p2⟩,p3⟩,p4⟩,p5⟩:=hr;obtain⟨f1,f1v,f1w⟩:=f1;obtain⟨f2,f2v,f2w⟩:=f2;have q4:=nq p4;have q5:=nq p5;have q1:=nq p1;have q2:=nq p2;have q3:=nq p3;obtain⟨gx,vx,x1,x2,x3⟩:=ub s1;obtain⟨gi,vi,i1,i2,i3⟩:=ub s2;have guardLooks:∀(o:Oper) j w d,o.guard=some (j,w)->(ops[j]?).bind (·.dst)=some d->d∈o.looksAt ops:=fun o j w d hg hd=>mem_append_right _ (by simp[hg,hd]);have lkx:∀t∈oi.looksAt ops,nth S1.fr t=nth S.fr t:=fun t ht=>by rw[x3];exact G6 hx vx t fun e=>a1 t e ht
 have i1':guardOf ops S.fr oi=some gi:=by rw[<-uA lkx];exact i1
 have i2':act C gi oi S.fr S1.hp=some (vi,ri.wr,S2.hp):=by rw[<-CJ fun t ht=>lkx t (ov ht)];exact i2
 have fi:po ⟨S.fr,S1.hp⟩ oi=ri.rd:=by rw[<-f2];exact qV (S:=S1) (S':=⟨S.fr,S1.hp⟩) (fun t ht=>(lkx t (ov ht)).symm) (fun _ _=>rfl)
 have off1:=Ez (S:=S) x2;have offv1:=CK (S:=S) x2;have fvi:mQ ⟨S.fr,S1.hp⟩ oi=ri.rv:=by rw[<-f2v];exact pz (S:=S1) (S':=⟨S.fr,S1.hp⟩) (fun t ht=>(lkx t (ov ht)).symm)
 obtain⟨h',l1,l2⟩:=tL (S:=⟨S.fr,S1.hp⟩) (hp':=S.hp) i2' (fun i hi=>by rw[fi]at hi;exact(off1 i (q1 i hi)).symm) (fun i hi=>(off1 i (q2 i hi)).symm) (fun i hi=>by rw[fvi]at hi;exact(offv1 i (by rw[<-f1w];exact q4 i hi)).symm);have offvi:=CK (S:=S) l1;have fi':po S oi=ri.rd:=by rw[<-fi];exact qV (S:=⟨S.fr,S1.hp⟩) (S':=S) (fun _ _=>rfl) (fun i hi=>by rw[fi]at hi;exact(off1 i (q1 i hi)).symm)
 have hix:rJ oi.dst (k9 S.fr ox.dst vx):=fun d hd t=>by
  rw[lT hx];cases hdx:ox.dst with
  |none=>exact hi d hd t
  |some d'=>
   simp only[Ma];rw[rb];split
   ·exact xn x1 x2 fun j w hg hj=>a3 d hd (guardLooks ox j w d hg hj)
   ·exact hi d hd t
 have hxi:rJ ox.dst (k9 S.fr oi.dst vi):=fun d hd t=>by
  rw[lT hi];cases hdi:oi.dst with
  |none=>exact hx d hd t
  |some d'=>
   simp only[Ma];rw[rb];split
   ·exact xn i1' i2' fun j w hg hj=>a1 d hd (guardLooks oi j w d hg hj)
   ·exact hx d hd t
 have frames:k9 (k9 S.fr oi.dst vi) ox.dst vx=k9 (k9 S.fr ox.dst vx) oi.dst vi:=by
  rw[lT hxi,lT hix,lT hi,lT hx];cases hdx:ox.dst with
  |none=>rfl
  |some d=>
   cases hdi:oi.dst with
   |none=>rfl
   |some d'=>simp only[Ma];exact List.set_comm _ _ fun e=>a2 d hdx (by rw[hdi,e])
 have lki:∀t∈ox.looksAt ops,nth (k9 S.fr oi.dst vi) t=nth S.fr t:=fun t ht=>G6 hi vi t fun e=>a3 t e ht;obtain⟨h'',m1,m2⟩:=tL (S:=S) (hp':=h') x2 (fun i hi=>by rw[f1]at hi;exact l2.off' i (q3 i hi)) (fun i hi=>l2.off' i fun h=>q2 i h hi) (fun i hi=>by rw[f1v]at hi;exact offvi i (by rw[<-f2w];exact q5 i hi));refine⟨⟨k9 S.fr oi.dst vi,h'⟩,⟨k9 (k9 S.fr oi.dst vi) ox.dst vx,h''⟩,qc i1' l1,⟨fi',(pz (S:=⟨S.fr,S1.hp⟩) (S':=S) fun _ _=>rfl).trans fvi,f2w⟩,?_,⟨?_,(pz (S:=S) fun t ht=>lki t (ov ht)).trans f1v,f1w⟩,?_,fun i=>?_⟩
 ·exact qc (S:=⟨k9 S.fr oi.dst vi,h'⟩) (by rw[uA lki];exact x1) (by rw[CJ fun t ht=>lki t (ov ht)];exact m1)
 ·rw[<-f1];exact qV (S:=S) (fun t ht=>lki t (ov ht)) (fun i hi=>by rw[f1]at hi;exact l2.off' i (q3 i hi))
 ·simp only;rw[frames,i3,x3]
 ·simp only;by_cases hx':i∈rx.wr
  ·rw[m2.on i hx',l2.off i fun h=>q2 i h hx']
  ·rw[m2.off' i hx'];by_cases hi':i∈ri.wr
   ·exact l2.on i hi'
   ·rw[l2.off' i hi',l2.off i hi',off1 i hx']
theorem xk.front(hD:xj ops){i:Nat}{ri:Rec}{oi:Oper}(hoi:ops[i]? =some oi)(m2:List (Nat×Rec)):∀(m1:List (Nat×Rec))(S Se:St),
  ((m1++(i,ri)::m2).map (·.1)).Pairwise (· <·)->(∀p∈m1,∀ox,ops[p.1]? =some ox->ox.apart ops oi=true/\qM p.2 ri=true)->(∀p∈m1++(i,ri)::m2,∀o,ops[p.1]? =some o->rJ o.dst S.fr)->
  xk C ops (m1++(i,ri)::m2) S Se->∃Se',xk C ops ((i,ri)::(m1++m2)) S Se'/\Ew Se Se'
 |[],S,Se,_,_,_,h=>⟨Se,h,Ew.refl _⟩
 |(x,rx)::m1,S,Se,hp,hc,ht,h=>by
  cases h with
  | @cons _ _ ox _ _ S1 _ hox s1 f1 h1=>
   have hp':=List.pairwise_cons.1 hp;have ht1:∀p∈m1++(i,ri)::m2,∀o,ops[p.1]? =some o->rJ o.dst S1.fr:=fun p hj o ho=>by
    cases hd:o.dst with
    |none=>intro d' hd';cases hd'
    |some d=>
     refine Bk s1 (fun j' w' hg hj'=>?_) (by rw[<-hd];exact ht p (mem_cons_of_mem _ hj) o ho);obtain⟨e,he,hb,hej⟩:=hD.Qg x ox j' w' hox hg;have hlow:=hD.low x ox hox e he hb;have hxj:=hp'.1 p.1 (mem_map_of_mem hj);cases hoj:ops[j']? with
     |none=>rw[hoj]at hj';cases hj'
     |some oj=>rw[hoj]at hj';exact hD.dst j' p.1 oj o d hoj ho (by simp only at hxj;omega) hd hj'
   obtain⟨Se',h2,e2⟩:=xk.front hD hoi m2 m1 S1 Se hp'.2 (fun y hy=>hc y (mem_cons_of_mem _ hy)) ht1 h1;cases h2 with
   | @cons _ _ oi' _ _ S2 _ hoi' s2 f2 h3=>rw[hoi]at hoi';cases hoi';obtain⟨c1,c2⟩:=hc (x,rx) (by simp) ox hox;obtain⟨S1',S2',g1,g2,g3,g4,g5⟩:=comm c1 c2 (ht (x,rx) (by simp) ox hox) (ht (i,ri) (by simp) oi hoi) s1 f1 s2 f2;obtain⟨Se'',k1,k2⟩:=h3.eqv g5;exact⟨Se'',.cons hoi g1 g2 (.cons hox g3 g4 k1),e2.trans k2⟩
end
section
variable {P:Program}{C:Ctx}{G0:GE}{S:St}{a:Act}{w:World}{β:Nat->Option Nat}{σ:Nat->Value}{ops:Array Oper}
theorem nO.same{G:GE}{hp':aP}(e:∀i,aw hp' i=aw G.hp i):nO G (G.fI hp'):=by refine⟨⟨fun b m ⟨h1,h2,h3⟩=>⟨h1,h2,fun id blk hb hβ=>h3 id blk (by rw[<-e];exact hb) hβ⟩,fun _ _ _ _ _=>rfl⟩,fun id ver j u blk hρ hb=>?_⟩;simp only[yi,Option.some.injEq,Prod.mk.injEq]at hρ;obtain⟨rfl,rfl⟩:=hρ;exact⟨blk,(e id).trans hb,gA.refl _ _ _ _ _ rfl rfl⟩
theorem cW.same{G:GE}(h:cW G){hp':aP}(e:∀i,aw hp' i=aw G.hp i):cW (G.fI hp'):=by
 have e':∀{i blk},aw hp' i=some blk->aw G.hp i=some blk:=fun{i blk} hb=>by rw[<-e];exact hb
 refine⟨h.glob.ext (nO.same e).env,fun id blk hb=>(h.blk id blk (e' hb)).kC (nO.same e) rfl rfl fun _ _ _=>rfl,fun id id' blk blk' b hb hb'=>h.inj id id' blk blk' b (e' hb) (e' hb'),fun b ⟨id,blk,hb,hβ⟩=>h.own b ⟨id,blk,e' hb,hβ⟩,h.base⟩
theorem Tr.same{G:GE}{hp':aP}(e:∀i,aw hp' i=aw G.hp i):Tr G (G.fI hp'):=
 ⟨nO.same e,rfl,rfl,rfl,le_refl _,fun _ _ _=>rfl,fun _ ⟨id,blk,hb,hβ⟩=>.inr ⟨id,blk,(e id).symm.trans hb,hβ⟩⟩
theorem Rel.eqv(h:Rel G0 S a w β σ){S':St}(e:Ew S S'):Rel G0 S' a w β σ:=by have t:=Tr.same (G:=G0.at w β σ S.hp) e.2;refine⟨h.tr.trans t,h.ok.same e.2,h.defers,by rw[e.1];exact h.size,fun i v hv=>?_⟩;rw[e.1];exact(h.fr i v hv).ext t.kC
theorem eE.eqv(h:eE G0 S a w){S':St}(e:Ew S S'):eE G0 S' a w:=by obtain⟨β,σ,h⟩:=h;exact⟨β,σ,h.eqv e⟩
theorem zy{l:Array Bool}{i:Nat}(h:l.getD i true=false):l.getD i false=false:=by grind
theorem K0(hC:iY P C)(hD:xj ops){Q:Exit->Act->World->Prop}{Se:St}(hQ:∀a w,eE G0 Se a w->Q .normal a w):∀(fuel:Nat)(jk:Array Bool)(m:List (Nat×Rec))(S Sf:St)(a:Act)(w:World),
  m.length<=fuel->(m.map (·.1)).Pairwise (· <·)->m.Pairwise (fun p q=>HU ops p.1 q.1\/qM p.2 q.2=true)->(∀i,i∈m.map (·.1)↔i<ops.size/\jk.getD i true=false)->jk.size=ops.size->
  (∀j o,ops[j]? =some o->jk.getD j false=true->∀e∈o.after,Region.binds .any e=true->jk.getD e.on false=true)->
  (∀p∈m,∀o,ops[p.1]? =some o->rJ o.dst S.fr)->xk C ops m S Sf->Ew Sf Se->eE G0 S a w->wpAny P .any ops Q fuel jk a w:=by
 intro fuel;induction fuel with
 |zero=>intro jk m S Sf a w hl hp _ hm hsz hdown ht hrun hE hB;have hm0:m=[]:=List.eq_nil_of_length_eq_zero (by omega);subst hm0;cases hrun;refine⟨?_,hQ a w (hB.eqv hE)⟩;rw[List.eq_nil_iff_forall_not_mem];intro i hi;obtain⟨h0,o,ho,_⟩:=mem_ready.1 hi;have:=(hm i).2 ⟨(Array.getElem?_eq_some_iff.1 ho).1,h0⟩;cases this
 |succ fuel ih=>
  intro jk m S Sf a w hl hp hpr hm hsz hdown ht hrun hE hB;refine⟨fun hr=>?_,fun i hi=>?_⟩
  ·cases m with
   |nil=>cases hrun;exact hQ a w (hB.eqv hE)
   |cons x m=>
    exfalso;obtain⟨hx,hx0⟩:=(hm x.1).1 (by simp);have:x.1∈Region.ready .any ops jk:=by
     refine mem_ready.2 ⟨hx0,ops[x.1],Array.getElem?_eq_getElem hx,fun e he hb=>?_⟩;have hlow:=hD.low x.1 _ (Array.getElem?_eq_getElem hx) e he hb;rcases Bool.eq_false_or_eq_true (jk.getD e.on false)with h|h
     ·exact h
     ·exfalso;have hlt:e.on<jk.size:=by omega
      have:jk.getD e.on true=false:=by grind
      have:=(hm e.on).2 ⟨by omega,this⟩;rw[map_cons]at this hp;rcases List.mem_cons.1 this with h'|h'
      ·omega
      ·have:=(List.pairwise_cons.1 hp).1 _ h';omega
    rw[hr]at this;cases this
  ·obtain⟨h0,oi,hoi,hall⟩:=mem_ready.1 hi;have hlt:=(Array.getElem?_eq_some_iff.1 hoi).1;have him:=(hm i).2 ⟨hlt,h0⟩;obtain⟨⟨i',ri⟩,hmem,hie⟩:=List.mem_map.1 him;simp only at hie;subst hie;obtain⟨m1,m2,rfl⟩:=List.append_of_mem hmem;have hp0:=hp;rw[List.map_append,map_cons]at hp;have hpw:=List.pairwise_append.1 hp;have hprw:=List.pairwise_append.1 hpr;have hcomm:∀p∈m1,∀ox,ops[p.1]? =some ox->ox.apart ops oi=true/\qM p.2 ri=true:=fun p hx ox hox=>by
    have hxi:p.1<i':=hpw.2.2 p.1 (mem_map_of_mem hx) i' (by simp);have hx0:=((hm p.1).1 (mem_map_of_mem (List.mem_append_left _ hx))).2;have nodep:¬HU ops p.1 i':=fun hdep=>by
     have:=hdep.jk hdown fun o ho e he hb=>by rw[hoi]at ho;cases ho;exact hall e he hb
     grind
    exact⟨(hD.pair p.1 i' ox oi hox hoi hxi).resolve_left nodep,(hprw.2.2 p hx (i',ri) (by simp)).resolve_left nodep⟩
   obtain⟨Sf',hfr,hE2⟩:=xk.front hD hoi m2 m1 S Sf (by rw[List.map_append,map_cons];exact hp) hcomm ht hrun;have hE':Ew Sf' Se:=Ew.trans ⟨hE2.1.symm,fun i=>(hE2.2 i).symm⟩ hE;cases hfr with
   | @cons _ _ oi' _ _ S1 _ hoi' s1 f1 h1=>
   rw[hoi]at hoi';cases hoi';have hsub:∀p,p∈m1++m2->p∈m1++(i',ri)::m2/\p.1≠i':=fun p hj=>by
    rcases List.mem_append.1 hj with h|h
    ·exact⟨List.mem_append_left _ h,Nat.ne_of_lt (hpw.2.2 p.1 (mem_map_of_mem h) i' (by simp))⟩
    ·exact⟨mem_append_right _ (mem_cons_of_mem _ h),Nat.ne_of_gt ((List.pairwise_cons.1 hpw.2.1).1 p.1 (mem_map_of_mem h))⟩
   have hlen:(m1++m2).length<=fuel:=by simp at hl⊢;omega
   have hsl:(m1++m2).Sublist (m1++(i',ri)::m2):=by simp
   have hp2:((m1++m2).map (·.1)).Pairwise (· <·):=hp0.sublist (hsl.map _);have hpr2:=hpr.sublist hsl;have hm2:∀j,j∈(m1++m2).map (·.1)↔j<ops.size/\(jk.setIfInBounds i' true).getD j true=false:=fun j=>by
    by_cases hji:j=i'
    ·subst hji;refine⟨fun h=>?_,fun⟨_,h⟩=>?_⟩
     ·obtain⟨p,hp,e⟩:=List.mem_map.1 h;exact absurd e (hsub p hp).2
     ·simp[hsz,hlt]at h
    ·rw[getD_set_ne true (Ne.symm hji),<-hm j];constructor
     ·intro h;obtain⟨p,hp,e⟩:=List.mem_map.1 h;exact List.mem_map.2 ⟨p,(hsub p hp).1,e⟩
     ·intro h;obtain⟨p,hp,e⟩:=List.mem_map.1 h;rcases List.mem_append.1 hp with h|h
      ·exact List.mem_map.2 ⟨p,List.mem_append_left _ h,e⟩
      ·rcases List.mem_cons.1 h with h|h
       ·subst h;exact absurd e.symm hji
       ·exact List.mem_map.2 ⟨p,mem_append_right _ h,e⟩
   have hdown2:∀j o,ops[j]? =some o->(jk.setIfInBounds i' true).getD j false=true->∀e∈o.after,Region.binds .any e=true->(jk.setIfInBounds i' true).getD e.on false=true:=fun j o ho hj e he hb=>by
    refine getD_set_true ?_;by_cases hji:j=i'
    ·subst hji;rw[hoi]at ho;cases ho;exact hall e he hb
    ·rw[getD_set_ne false (Ne.symm hji)]at hj;exact hdown j o ho hj e he hb
   have ht2:∀p∈m1++m2,∀o,ops[p.1]? =some o->rJ o.dst S1.fr:=fun p hj o ho=>by
    cases hd:o.dst with
    |none=>intro d' hd';cases hd'
    |some d=>
     refine Bk s1 (fun j' w' hg hj'=>?_) (by rw[<-hd];exact ht p (hsub p hj).1 o ho);obtain⟨e,he,hb,hej⟩:=hD.Qg i' oi j' w' hoi hg;have hl':=hall e he hb;cases hoj:ops[j']? with
     |none=>rw[hoj]at hj';cases hj'
     |some oj=>rw[hoj]at hj';refine hD.dst j' p.1 oj o d hoj ho (fun e'=>?_) hd hj';have:=((hm p.1).1 (mem_map_of_mem (hsub p hj).1)).2;rw[<-e',<-hej]at this;rw[zy this]at hl';cases hl'
   have hst:=zo hC hB (ops:=ops) oi s1 (Q:=Q);unfold wpOp;simp only[hoi];by_cases hw:Region.wanted oi (yielded ops a.tmps)=true
   ·rw[if_pos hw]at hst;simp only[hw,if_true];exact .inl (Oper.wp_mono (fun a' w' hB'=>ih _ (m1++m2) S1 Sf' a' w' hlen hp2 hpr2 hm2 (by simpa using hsz) hdown2 ht2 h1 hE' hB') hst)
   ·rw[if_neg hw]at hst;simp only[hw,Bool.false_eq_true,if_false];exact ih _ (m1++m2) S1 Sf' _ _ hlen hp2 hpr2 hm2 (by simpa using hsz) hdown2 ht2 h1 hE' hst
theorem A1(hC:iY P C){Q:Exit->Act->World->Prop}{α:Type}{r:α}{K:St->Option α}(hK:∀S a w,K S=some r->eE G0 S a w->Q .normal a w):∀(l:List Oper)(s:Nat)(S:St)(a:Act)(w:World),
  (∀j,l[j]? =ops[s+j]?)->Fm C ops l S K=some r->eE G0 S a w->wpOps P ops Q (List.range' s l.length) a w
 |[],s,S,a,w,_,h,hB=>hK S a w h hB
 |o::l,s,S,a,w,hl,h,hB=>by
  simp only[Fm]at h;have h0:ops[s]? =some o:=by simpa using(hl 0).symm
  cases hg:guardOf ops S.fr o with
  |none=>rw[hg]at h;cases h
  |some g=>
   rw[hg]at h;simp only[JI]at h;obtain⟨⟨v,wr,h'⟩,t1,h1⟩:=Option.bind_eq_some_iff.1 h;have s1:=qc (C:=C) (ops:=ops) hg t1;have hst:=zo hC hB (ops:=ops) o s1 (Q:=Q);have hl':∀j,l[j]? =ops[s+1+j]?:=fun j=>by have:=hl (j+1);simpa[Nat.add_assoc,Nat.add_comm 1 j]using this
   simp only[List.length_cons,List.range'_succ,wpOps,h0];by_cases hw:Region.wanted o (yielded ops a.tmps)=true
   ·rw[if_pos hw]at hst;simp only[hw,if_true];exact .inl (Oper.wp_mono (fun a' w' hB'=>A1 hC hK l (s+1) _ a' w' hl' h1 hB') hst)
   ·rw[if_neg hw]at hst;simp only[hw,Bool.false_eq_true,if_false];exact A1 hC hK l (s+1) _ _ _ hl' h1 hst
theorem BG{m:Nat}{x:Rec}:∀(l:List Rec)(j:Nat),Hr m x j l=true->∀k y,l[k]? =some y->m.testBit (j+k)=true\/qM y x=true
 |[],_,_,k,y,h=>by simp at h
 |z::r,j,h,0,y,hk=>by simp at hk;subst hk;simp only[Hr,and_eq_true,or_eq_true]at h;exact h.1
 |z::r,j,h,k+1,y,hk=>by simp only[Hr,and_eq_true]at h;have:=BG r (j+1) h.2 k y (by simpa using hk);grind
theorem DW{α:Type}{r:α}{K:St->Option α}{ms:List Nat}(hms:∀k m,ms[k]? =some m->∀x,m.testBit x=true->HU ops x k):∀(l:List Oper)(acc:List Rec)(S:St),(∀j,l[j]? =ops[acc.length+j]?)->Fl C ops ms l acc S K=some r->
  ∃(m:List (Nat×Rec))(Se:St),xk C ops m S Se/\K Se=some r/\m.map (·.1)=List.range' acc.length l.length/\m.Pairwise (fun p q=>HU ops p.1 q.1\/qM p.2 q.2=true)/\
   ∀p∈m,∀k y,acc[k]? =some y->HU ops k p.1\/qM y p.2=true
 |[],acc,S,_,h=>⟨[],S,.nil S,h,rfl,.nil,fun _ hp=>by cases hp⟩
 |o::l,acc,S,hl,h=>by
  simp only[Fl]at h;have h0:ops[acc.length]? =some o:=by simpa using(hl 0).symm
  cases hg:guardOf ops S.fr o with
  |none=>rw[hg]at h;cases h
  |some g=>
   rw[hg]at h;simp only[JI]at h;obtain⟨⟨v,wr,h'⟩,t1,h1⟩:=Option.bind_eq_some_iff.1 h;have s1:=qc (C:=C) (ops:=ops) hg t1;simp only at h1;split at h1
   ·rename_i hrec;have hrs:=BG acc 0 hrec;obtain⟨m,Se,g1,g2,g3,g4,g5⟩:=DW hms l (acc++[⟨po S o,wr,mQ S o,B9 o.op wr⟩]) _ (fun j=>by have:=hl (j+1);simpa[Nat.add_assoc,Nat.add_comm 1 j]using this) h1;refine⟨(acc.length,⟨po S o,wr,mQ S o,B9 o.op wr⟩)::m,Se,.cons h0 s1 ⟨rfl,rfl,rfl⟩ g1,g2,?_,?_,?_⟩
    ·rw[map_cons,g3];simp[List.range'_succ]
    ·refine List.pairwise_cons.2 ⟨fun p hp=>?_,g4⟩;exact g5 p hp acc.length _ (by simp)
    ·intro p hp k y hy;rcases List.mem_cons.1 hp with rfl|hp
     ·have:=hrs k y hy;rw[Nat.zero_add]at this;refine this.imp (fun hb=>?_) id;cases hk:ms[acc.length]? with
      |none=>simp[List.getD,hk]at hb
      |some mm=>exact hms _ _ hk _ (by simpa[List.getD,hk]using hb)
     ·have hlt:k<acc.length:=by
       rcases Nat.lt_or_ge k acc.length with h|h
       ·exact h
       ·rw[List.getElem?_eq_none h]at hy;cases hy
      exact g5 p hp k y (by rw[List.getElem?_append_left hlt];exact hy)
   ·cases h1
theorem eE.p0(h:eE G0 S a w):eE G0 (p0 S) a w:=by
 obtain⟨β,σ,h⟩:=h;refine⟨β,σ,h.tr,h.ok,h.defers,by simp[Bx.p0,h.size],fun i v hv=>?_⟩;simp only[Bx.p0];rw[q9 _ rfl];have:=h.fr i v hv;cases hn:nth S.fr i<;>rw[hn]at this<;>first|exact this|exact .any
theorem eE.drew(h:eE G0 S a w):eE G0 S a {w with drawn:=w.drawn+1}:=by obtain⟨β,σ,h⟩:=h;have hb:Below (G0.at w β σ S.hp).w.heap.size (G0.at w β σ S.hp).w {w with drawn:=w.drawn+1}:=(Below.refl _ _).drew;obtain⟨t,hR⟩:=h.ok.grow hb;exact⟨β,σ,h.tr.trans t,hR,h.defers,h.size,fun i v hv=>(h.fr i v hv).ext t.kC⟩
theorem Fj(hC:iY P C)(hm:P.follows .mixedOrders=true){id:Nat}{draw:Bool}(hd:draw=true->EJ ops=true){Q:Exit->Act->World->Prop}{α:Type}{r:α}{K:St->Option α}
  (hK:∀S a w,K S=some r->eE G0 S a w->Q .normal a w)
  (h:(match draw with|false=>Fm C ops ops.toList S K|true=>Fl C ops (wL ops.toList []) ops.toList [] (p0 S) K)=some r) (hB:eE G0 S a w):(Code.region id ops draw).wp P Q a w:=by
 cases draw with
 |false=>refine wp_region ?_;rw[List.range_eq_range'];have:=A1 hC (ops:=ops) hK ops.toList 0 S a w (fun j=>by simp) h hB;simpa using this
 |true=>
  have hD:=EK (hd rfl);obtain⟨m,Se,g1,g2,g3,g4,_⟩:=DW (vA ops.toList [] (fun k=>by simp) (fun k m hk=>by simp at hk)) ops.toList [] (p0 S) (fun j=>by simp) h;refine wp_region_any hm ?_;refine K0 hC hD (Se:=Se) (fun a w hB=>hK Se a w g2 hB) ops.size (Array.replicate ops.size false) m _ Se a _ ?_ (by rw[g3];exact List.pairwise_lt_range') g4 (fun i=>?_) (by simp) (fun j o _ hj=>?_) (fun i _ o _=>?_) g1 (Ew.refl _) hB.p0.drew
  ·have:=congrArg List.length g3;simp at this;omega
  ·rw[g3,List.mem_range'];constructor
   ·rintro⟨k,hk,rfl⟩;have hk':0+1*k<ops.size:=by simpa using hk
    refine⟨by simpa using hk',?_⟩;simp only[List.length_nil,Array.getD_eq_getD_getElem?,Array.getElem?_replicate,if_pos hk',Option.getD_some]
   ·rintro⟨hi,_⟩;exact⟨i,by simpa using hi,by simp⟩
  ·exfalso;simp only[Array.getD_eq_getD_getElem?,Array.getElem?_replicate]at hj;split at hj<;>simp at hj
  ·intro d' _ t;simp only[Bx.p0];rw[q9 _ rfl];cases nth S.fr t<;>rfl
end
end Go.Bx
