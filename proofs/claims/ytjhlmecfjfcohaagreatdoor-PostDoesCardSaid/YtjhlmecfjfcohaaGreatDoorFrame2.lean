/- A part of a framework that reads Go code as functions of plain data. -/
import Derived.Test.YtjhlmecfjfcohaaGreatDoorFrame1
import Derived.Orders
open Bool (and_eq_true or_eq_true)
open Int (toNat)
open List (length_take map_congr_left map_cons map_map mem_append mem_append_right mem_cons mem_cons_of_mem mem_map mem_map_of_mem mem_singleton)
open Nat (beq beq_refl blt eq_of_beq_eq_true le_refl min_comm mul_one)
open Option (bind_eq_some_iff bind_some map_eq_some_iff)
set_option maxRecDepth 100000
set_option linter.unusedVariables false
set_option linter.unusedSimpArgs false
namespace Go.Bx
open Go Go.RowKit
section
variable {P : Program} {C : Ctx} {G : GE} {fr : List V} {ρ : Operand->Value} {tm : Array Value}
theorem uO (w : World) {τ : Ty} {t : TypeId} (ht : iO P τ t) {b o : Nat} {arr : Array Value} {ty : TypeId} (hw : w.heap[b]? = some (.cells arr ty (0,0))) {x : Value} (hsz : x.cells.size = τ.size) (hfit : o + x.cells.size <= arr.size) (hone : ∀ c ∈ x.cells.toList,eQ c) :
  (Instr.storeAt t (.pointer (some ⟨b,o,none⟩)) x).run P w = .ok () (w.setRow b (lay arr.toList o x.cells.toList).toArray):=by
 have hst:=run_storeCells_at P b o ty x.cells.toList 0 arr w hw (by simpa using hfit) fun v hv=>pR (hone v hv)
 simp only [Nat.add_zero] at hst
 simp only [Instr.storeAt,Instr.sureAddr,storeVar,Sem.run_bind,Sem.run_pure,Result.andThen_ok,cP w ht.info,hsz,ne_eq,not_true_eq_false,if_false,hst,lay]
theorem jK.skip {s : Sem Unit} {w' : World} {β' : Nat->Option Nat} {σ' : Nat->Value} {hp' : aL} (hr : s.run P G.w = .ok () w') (t1 : Tr G ⟨w',β',σ',hp',G.n0,G.Bo,G.I0⟩) (t2 : cK ⟨w',β',σ',hp',G.n0,G.Bo,G.I0⟩) : jK P G tm (do s; pure .skip) .any hp' :=
 ⟨.skip,undef,w',β',σ',by simp only [Sem.run_bind,hr,Result.andThen_ok,Sem.run_pure],.inr ⟨rfl,rfl⟩,t1,t2,by simp only [bA]⟩
theorem jK.after {G1 : GE} (t : Tr G G1) (hw : G1.w = G.w) (hn : G1.n0 = G.n0) (hb : G1.Bo = G.Bo) (hi : G1.I0 = G.I0) {s : Sem Next} {v : V} {hp' : aL} (h : jK P G1 tm s v hp') : jK P G tm s v hp':=by
 obtain ⟨r,x,w',β',σ',h1,h2,h3,h4,h5⟩:=h
 rw [hw] at h1
 rw [hn,hb,hi] at h3 h4 h5
 exact ⟨r,x,w',β',σ',h1,h2,t.trans h3,h4,h5⟩
theorem M3 {τ : Ty} {E : Env} {l : List τ.den} {css : List (List Value)} (h : cM (ak E τ) l css) (i : Nat) (a : τ.den) (b : List Value) (hab : ak E τ a b) : cM (ak E τ) (l.set i a) (css.set i b):=h.set i a b hab
theorem cK.Lb (h : cK G) {id : Nat} {τ : Ty} {l : List τ.den} {ver : Nat} (hb : aq G.hp id = some (.buf τ l ver false)) {b : Nat} {arr : Array Value} {ty : TypeId} {css : List (List Value)} {cap : Nat} {rest : List Value} (hβ : G.β id = some b) (hσ : G.σ id = .slice (some ⟨b,0,none⟩) l.length cap) (hw : G.w.heap[b]? = some (.cells arr ty (0,0)))
  (ha : cM (ak G.env τ) l css) (h1 : arr.toList = css.flatten ++ rest) (h2 : arr.size = cap * τ.size) (h3 : l.length <= cap) (h4 : cap <= maxLen) {i : Nat} (hi : i < l.length) {q : List Step} {o : Nat} {u : Ty} (ho : aT τ q = some (o,u)) {y : u.den} {ds : List Value} (hy : ak G.env u y ds) {z : τ.den}
  (hz : pQ τ (l.getD i τ.zero) q u y = some z) :
  i * τ.size + o + ds.length <= arr.size /\ Tr G ⟨G.w.setRow b (lay arr.toList (i * τ.size + o) ds).toArray,G.β,G.σ,fk G.hp id (.buf τ (l.set i z) ver false),G.n0,G.Bo,G.I0⟩ /\ cK ⟨G.w.setRow b (lay arr.toList (i * τ.size + o) ds).toArray,G.β,G.σ,fk G.hp id (.buf τ (l.set i z) ver false),G.n0,G.Bo,G.I0⟩:=by
 have hlen:=cM.dt (fun a cs h=>ak.length τ a cs h) ha
 obtain ⟨hm,hr⟩:=ha.get i hi
 have hgd : (l : List τ.den).getD i τ.zero = l[i]:=by simp [List.getD,List.getElem?_eq_getElem hi]
 rw [hgd] at hz
 obtain ⟨_,hle,hf⟩:=nu τ l[i] css[i] q o u u y z ds hr ho hz hy
 have hcl:=ak.length _ _ _ hr
 have hmul : (i + 1) * τ.size <= l.length * τ.size:=Nat.mul_le_mul_right _ (by omega)
 rw [Nat.add_mul] at hmul
 have hfit : i * τ.size + o + ds.length <= css.flatten.length:=by omega
 have hal : arr.toList.length = css.flatten.length + rest.length:=by rw [h1,List.length_append]
 have hsz : arr.size = arr.toList.length:=by simp
 have hlay : lay arr.toList (i * τ.size + o) ds = (css.set i (lay css[i] o ds)).flatten ++ rest:=by
  rw [h1,nY _ _ _ _ hfit,yf (fun a cs h=>ak.length τ a cs h) ha i hm o ds (by omega)]
 have hll : (lay arr.toList (i * τ.size + o) ds).length = arr.toList.length:=by
  simp only [lay,List.length_append,length_take,List.length_drop]; omega
 refine ⟨by omega,?_⟩
 have:=h.iL (id:=id) (blk':=.buf τ (l.set i z) ver false) (w':=G.w.setRow b (lay arr.toList (i * τ.size + o) ds).toArray) (ob:=G.β id) (sv:=G.σ id) (by simp) rfl rfl rfl
  (fun b' _ hne=>setRow_other G.w b b' _ (fun e=>hne _ hb (by rw [e]; exact hβ))) (fun b' e=>⟨by simpa using h.lt hb e,.inr ⟨_,hb,e⟩⟩)
  (fun blk hb'=>by
   rw [hb] at hb'; cases hb'
   refine ⟨(fun b' _ m hm=>by simp only [jz.im] at hm; cases hm.1),fun v=>?_⟩
   simp only [fP]
   exact ⟨fun h=>h,fun _ e=>⟨e,trivial,bR _ _ _,bR _ _ _,by simp⟩⟩)
  fun hE hK=>.inl ⟨b,_,ty,css.set i (lay css[i] o ds),cap,rest,(bR _ _ _).trans hβ,(bR _ _ _).trans (by rw [hσ]; simp),setRow_heap G.w b arr _ ty _ hw,(M3 ha i z _ hf).mono fun _ _ h=>h.ext hE,by simpa using hlay,by rw [List.size_toArray,hll,<- hsz,h2],by simpa using h3,h4⟩
 rwa [GE.bR] at this
theorem xY : ∀ {τ : Ty} {x : τ.den} {q : List Step} {t' : Ty} {y : t'.den} {z : τ.den} {o : Nat} {u : Ty},pQ τ x q t' y = some z->aT τ q = some (o,u)->u = t'
 | τ,x,[],t',y,z,o,u,h,ho=>by
  obtain ⟨rfl,rfl⟩:=lO ho
  have : sR t' u y = some z:=by cases u <;> simpa [pQ] using h
  obtain ⟨e,_⟩:=gK this
  exact e.symm
 | .arr n t,l,.idx i :: p,t',y,z,o,u,h,ho=>by
  simp only [aT] at ho
  split at ho
  ·cases h2 : aT t p with
   | none=>simp [h2] at ho
   | some q =>
    simp [h2] at ho
    obtain ⟨rfl,rfl⟩:=ho
    simp only [pQ] at h
    obtain ⟨w,hw,_⟩:=Option.map_eq_some_iff.1 h
    exact xY hw h2
  ·cases ho
 | .pair a _,x,.fld 0 :: p,t',y,z,o,u,h,ho=>by
  simp only [aT] at ho
  simp only [pQ] at h
  obtain ⟨w,hw,_⟩:=Option.map_eq_some_iff.1 h
  exact xY hw ho
 | .pair a b,x,.fld (j + 1) :: p,t',y,z,o,u,h,ho=>by
  simp only [aT] at ho
  cases h2 : aT b (.fld j :: p) with
  | none=>simp [h2] at ho
  | some q =>
   simp [h2] at ho
   obtain ⟨rfl,rfl⟩:=ho
   simp only [pQ] at h
   obtain ⟨w,hw,_⟩:=Option.map_eq_some_iff.1 h
   exact xY hw h2
 | .int _,_,_ :: _,_,_,_,_,_,_,ho=>by simp [aT] at ho
 | .bool,_,_ :: _,_,_,_,_,_,_,ho=>by simp [aT] at ho
 | .str,_,_ :: _,_,_,_,_,_,_,ho=>by simp [aT] at ho
 | .sl _,_,_ :: _,_,_,_,_,_,_,ho=>by simp [aT] at ho
 | .unit,_,_ :: _,_,_,_,_,_,_,ho=>by simp [aT] at ho
 | .opq,_,_ :: _,_,_,_,_,_,_,ho=>by simp [aT] at ho
 | .arr _ _,_,.fld _ :: _,_,_,_,_,_,_,ho=>by simp [aT] at ho
 | .pair _ _,_,.idx _ :: _,_,_,_,_,_,_,ho=>by simp [aT] at ho
theorem Ky (w : World) {t e : TypeId} {inf : TypeInfo} {z : Value} (hu : P.underlying t = some (.slice e)) (hi : P.info? e = some inf) (hz : inf.zero = some z) (n m : Int) (h0 : 0 <= n) (hm : m = n) (hb : n.toNat * inf.bytes <= 140737488355328) (h2 : n.toNat <= 140737488355328) :
  (Instr.makeSlice t (.int .i64 n) (.int .i64 m)).run P w = .ok (.slice (some ⟨w.heap.size,0,none⟩) n.toNat n.toNat) (w.alloc (.cells (madeCells z.cells (n.toNat * inf.size)) e)):=by
 subst hm
 have hb' : (inf.bytes : Int) * m <= 281474976710656:=by
  grind
 exact run_make (P:=P) w t e inf z hu hi hz .i64 .i64 m m h0 (Int.le_refl _) hb' (by omega)
theorem Gs {τ : Ty} {z : Value} {s : Nat} (hzc : xA τ z.cells.toList) (hpl : τ.plain = true) (hs : s = τ.size) (n : Nat) : (madeCells z.cells (n * s)).toList = (List.replicate n (zc τ)).flatten:=by
 subst hs
 have hz2:=lX _ _ hpl hzc
 have hzl : z.cells.size = τ.size:=by rw [<- Array.length_toList,hz2]; exact ak.length (E:=⟨default,fun _ _=>False⟩) _ _ _ (ak.zero τ hpl)
 simp only [madeCells,Array.toList_map,Array.toList_range]
 have:=wm (zc τ) τ.size (by rw [<- hz2,Array.length_toList,hzl]) n
 grind
theorem MQ {E : Env} {τ : Ty} (h1 : τ.size = 1) {n : Nat} {l m : List τ.den} {cs : List Value} {cssM : List (List Value)} (hl : ak E (.arr n τ) l cs) (hm : cM (ak E τ) m cssM) {lo hi : Int} (k : Nat) (hk : k = hi.toNat - lo.toNat) (hlo : lo.toNat + k <= n) :
  ak E (.arr n τ) (zp l lo hi m) (lay cs lo.toNat (cssM.flatten.take k)):=by
 obtain ⟨hln,css,rfl,ha⟩:=hl
 have hln : List.length l = n:=hln
 have hlM:=cM.dt (fun a cs h=>ak.length τ a cs h) hm
 have hlL:=cM.dt (fun a cs h=>ak.length τ a cs h) ha
 rw [h1,mul_one] at hlM hlL
 have hcm:=hm.length
 have hcl:=ha.length
 subst hk
 refine ⟨?_,css.take lo.toNat ++ cssM.take (hi.toNat - lo.toNat) ++ css.drop (lo.toNat + min (List.length m) (hi.toNat - lo.toNat)),?_,?_⟩
 ·simp only [zp,List.length_append,length_take,List.length_drop]; omega
 ·simp only [lay,List.flatten_append]
  rw [m9 (fun a cs h=>ak.length τ a cs h) _ ha,m9 (fun a cs h=>ak.length τ a cs h) _ hm,pX (fun a cs h=>ak.length τ a cs h) _ ha,h1]
  simp only [mul_one,length_take,hlM]
  rw [min_comm]
 ·exact j9 (j9 (rR _ ha) (rR _ hm)) (su _ ha)
theorem Oa {cs cs1 news : List Value} {o lo : Nat} (h : ∀ j x,cs1[j]? = some x->cs[o + j]? = some x) (hl : o + cs1.length <= cs.length) (hn : lo + news.length <= cs1.length) : lay cs o (lay cs1 lo news) = lay cs (o + lo) news:=by
 have e1 : (cs.drop o).take cs1.length = cs1:=pK h rfl
 have e2 : cs = cs.take o ++ (cs1 ++ cs.drop (o + cs1.length)):=by
  have:=(List.take_append_drop o cs).symm
  rw [<- List.take_append_drop cs1.length (cs.drop o),e1,List.drop_drop] at this
  exact this
 have hto : (cs.take o).length = o:=by rw [length_take]; omega
 have hll : (lay cs1 lo news).length = cs1.length:=by simp only [lay,List.length_append,length_take,List.length_drop]; omega
 rw [e2]
 have k1:=nA (cs.take o) (cs1 ++ cs.drop (o + cs1.length)) (lay cs1 lo news) 0
 have k2:=nA (cs.take o) (cs1 ++ cs.drop (o + cs1.length)) news lo
 rw [hto] at k1 k2
 rw [Nat.add_zero] at k1
 rw [k1,k2,nY _ _ _ _ hn,nY _ _ _ _ (by omega),u0 _ _ hll]
theorem El {k : Nat} (h : k <= maxLen) : bA G tm (.data (.int .i64) (k : Int)) (goInt k):=by
 unfold goInt
 refine .mkInt ?_
 rw [gY]
 unfold maxLen at h; simp [IntKind.min,IntKind.max,IntKind.bits,IntKind.signed]; omega
def HA (P : Program) (G : GE) (τ : Ty) (m : List τ.den) (av : Value) : Prop :=
 ∃ css : List (List Value),cM (ak G.env τ) m css /\ ∀ (t t' ty e : TypeId) (d : Option Addr) (dLen dCap : Nat),P.underlying t = some (.slice e)->(P.info? e).map (·.size) = some 1 ->
  (min m.length dLen = 0->(Builtin.copy_ #[t,t'] ty #[.slice d dLen dCap,av]).run P G.w = .ok (goInt 0) G.w) /\
  (∀ b o arr tyb,d = some ⟨b,o,none⟩->G.w.heap[b]? = some (.cells arr tyb (0,0))->min m.length dLen ≠ 0->o + min m.length dLen <= arr.size ->
   (Builtin.copy_ #[t,t'] ty #[.slice d dLen dCap,av]).run P G.w = .ok (goInt (min m.length dLen : Nat)) (G.w.setRow b (lay arr.toList o (css.flatten.take dLen)).toArray))
theorem J2 {τ : Ty} (hs1 : τ.size = 1) {m : List τ.den} {av : Value} (hm : sA G τ m av) : HA P G τ m av:=by
 obtain ⟨ab,capM,cssM,rfl,hmc,hM,hMn,hMh⟩:=hm.holds
 have hlM:=cM.dt (fun a cs h=>ak.length τ a cs h) hM
 rw [hs1,mul_one] at hlM
 refine ⟨cssM,hM,fun t t' ty e d dLen dCap hu hsz=>⟨fun h0=>run_copy_none (P:=P) G.w t t' ty e d ab dLen dCap (List.length m) capM hu hsz h0,fun b o arr tyb hd hg h0 hfit=>?_⟩⟩
 subst hd
 have hnl : (cssM.flatten.take dLen).length = min (List.length m) dLen:=by rw [length_take,hlM,min_comm]
 cases ab with
 | none=>have:=hMn rfl; rw [this] at h0; simp at h0
 | some ad =>
  have hone : ∀ u ∈ cssM.flatten.take dLen,u.oneCell' = true:=fun u hu'=>pR (kc (fun a cs h v hv=>ak.cell τ a cs h v hv) hM u (List.mem_of_mem_take hu'))
  have r1:=run_copy_row (P:=P) G.w t t' ty e b o dLen dCap ad (List.length m) capM arr tyb (cssM.flatten.take dLen) hu hsz hg (by rw [hnl]; try rfl) (fun j v hj=>by
   rw [List.getElem?_take] at hj
   split at hj
   ·exact hMh ad rfl j v hj
   ·cases hj) (by rw [hnl]; exact hfit) hone
  rw [r1,hnl]; simp only [lay,hnl]
theorem AK (w : World) (dT sT ty elem : TypeId) (g o dLen dCap : Nat) (s : ByteArray) (cur : Array Value) (t : TypeId)
  (hu : P.underlying dT = some (.slice elem)) (hs : (P.info? elem).map (·.size) = some 1) (hg : w.heap[g]? = some (.cells cur t (0,0))) (hfit : o + min s.size dLen <= cur.size) :
  (Builtin.copy_ #[dT,sT] ty #[.slice (some ⟨g,o,none⟩) dLen dCap,.string s]).run P w =
   .ok (goInt (min s.size dLen : Nat)) (w.setRow g (lay cur.toList o ((s.data.toList.map fun b : UInt8=>Value.int IntKind.u8 (b.toNat : Int)).take (min s.size dLen))).toArray):=by
 have hlen : ((s.data.toList.map fun b : UInt8=>Value.int IntKind.u8 (b.toNat : Int)).take (min s.size dLen)).length = min s.size dLen:=by
  simp_all
 have hone : ∀ v ∈ (s.data.toList.map fun b : UInt8=>Value.int IntKind.u8 (b.toNat : Int)).take (min s.size dLen),v.oneCell' = true:=fun v hv=>by
  have:=List.mem_of_mem_take hv
  simp only [mem_map] at this
  obtain ⟨b,_,rfl⟩:=this
  rfl
 have hst:=run_storeCells_at P g o t ((s.data.toList.map fun b : UInt8=>Value.int IntKind.u8 (b.toNat : Int)).take (min s.size dLen)) 0 cur w hg (by rw [hlen]; simpa using hfit) hone
 rw [hlen] at hst
 simp only [Nat.add_zero] at hst
 have hmin : Nat.min s.size dLen = min s.size dLen:=rfl
 cases hq : P.info? elem with
 | none=>simp [hq] at hs
 | some i =>
  simp [Builtin.copy_,run_underlying hu,Builtin.lenOf,Builtin.firstCells,sizeOf,typeInfo,hq,hmin]
  unfold lay
  rw [hlen]
  rw [hst]
  simp [Result.andThen]
theorem zJ {E : Env} : ∀ l : List UInt8,cM (ak E (.int .u8)) (l.map fun b=>(b.toNat : Int)) (l.map fun b=>[Value.int IntKind.u8 (b.toNat : Int)])
 | []=>trivial
 | b :: l=>by
  refine ⟨⟨rfl,?_⟩,zJ l⟩
  have:=b.toNat_lt
  rw [gY]
  simp [IntKind.min,IntKind.max,IntKind.bits,IntKind.signed]; omega
theorem wL : ∀ l : List UInt8,(l.map fun b=>[Value.int IntKind.u8 (b.toNat : Int)]).flatten = l.map fun b=>Value.int IntKind.u8 (b.toNat : Int)
 | []=>rfl
 | b :: l=>by simp [wL l]
theorem L9 {m : List Int} {av : Value} (hm : iv G.env .str m av) : HA P G (.int .u8) m av:=by
 obtain ⟨s,hc,hb,_⟩:=(show ak G.env .str m [av] from hm)
 cases hc
 have hl : (s.data.toList).length = s.size:=Array.length_toList
 subst hb
 have hml : (bytesOf s).length = s.size:=by unfold bytesOf; rw [List.length_map,hl]
 refine ⟨s.data.toList.map fun b=>[Value.int IntKind.u8 (b.toNat : Int)],zJ _,fun t t' ty e d dLen dCap hu hsz=>⟨fun h0=>?_,fun b o arr tyb hd hg h0 hfit=>?_⟩⟩
 ·rw [hml] at h0
  cases hq : P.info? e with
  | none=>simp [hq] at hsz
  | some i =>
   have hmin : Nat.min s.size dLen = 0:=h0
   cases d <;> simp [Builtin.copy_,run_underlying hu,Builtin.lenOf,Builtin.firstCells,sizeOf,typeInfo,hq,hmin,storeCells]
 ·subst hd
  rw [hml] at hfit ⊢
  rw [AK G.w t t' ty e b o dLen dCap s arr tyb hu hsz hg hfit,wL]
  congr 3
  rw [show ∀ (l : List Value),l.length = s.size->l.take (min s.size dLen) = l.take dLen from fun l h=>by rw [<- h]; simp [List.take_eq_take_iff,min_comm]]
  grind
theorem OC {τ : Ty} {y : List Int} {m : List τ.den} {av : Value} (h : JG (.data .str y) τ = some m) (hm : iv G.env .str y av) : HA P G τ m av:=by
 cases τ with
 | int k=>cases k <;> first | (cases h; exact L9 hm) | cases h
 | _=>cases h
theorem J0 (hC : il P C) (hR : cK G) {τ : Ty} {t t' ty : TypeId} (ht : look C.ty t = some (.sl τ)) {x xv : V} {bv av : Value} (hx : bA G tm x bv) (hxs : bA G tm xv av)
  {c : Prop} {i : Decidable c} {v : V} {hp' : aL} {wr : List Nat} (h : w9 G.hp τ x (rd G.hp xv) = some (.eff c i v hp' wr)) :
  jK P G tm (do pure (.value (<- Builtin.copy_ #[t,t'] ty #[bv,av]))) v hp':=by
 obtain ⟨e,hu,hte,_⟩:=hC.ty _ _ ht
 unfold w9 at h
 split at h
 ·rename_i id p τ1 n lo hi m hadd
  have hm : τ.size = 1->HA P G τ m av:=fun hs1=>by
   cases hrd : rd G.hp xv with
   | data t2 y =>
    rw [hrd] at hadd
    cases t2 with
    | sl t3 =>
     simp only [JG,nH] at hadd
     obtain ⟨e,he⟩:=gK hadd
     cases e
     subst he
     exact J2 hs1 (E1 hR hxs hrd)
    | str =>
     exact OC hadd (LD hxs hrd)
    | _=>simp [JG,nH] at hadd
   | _=>rw [hrd] at hadd; simp [JG,nH] at hadd
  split at h
  ·rename_i σ cv hb
   split at h
   ·rename_i n' τ2 l hgv
    split at h
    ·rename_i hτ
     subst hτ
     split at h
     ·rename_i hns
      obtain ⟨rfl,hs1⟩:=hns
      split at h
      ·rename_i v' hset
       obtain ⟨_,rfl,rfl,rfl⟩:=kL h
       simp only [bA] at hx
       unfold kB at hx
       rw [hb] at hx
       obtain ⟨b,o,e1,e2,e3,e4,e5,e6,e7⟩:=hx
       obtain ⟨b',arr,tyb,g1,g2,g3⟩:=hR.cell hb
       rw [e1] at g1; cases g1
       obtain ⟨cs1,f1,f2,f3⟩:=nD p g3 e2
       rw [hgv] at f1
       obtain ⟨eτ,f1'⟩:=f1.yn
       cases eτ
       have f1 : ak G.env (.arr n' τ1) l cs1:=f1'
       obtain ⟨cssM,hM,hrun⟩:=hm hs1
       have hlM:=cM.dt (fun a cs h=>ak.length τ1 a cs h) hM
       rw [hs1,mul_one] at hlM
       have hcs1:=ak.length _ _ _ f1
       have hcs1 : cs1.length = n':=by rw [hcs1]; simp [Ty.size,hs1]
       have hk : lo.toNat + (hi.toNat - lo.toNat) <= n':=by omega
       have hfl:=MQ hs1 f1 hM (lo:=lo) (hi:=hi) _ rfl hk
       have hnl : (cssM.flatten.take (hi.toNat - lo.toNat)).length = min (List.length m) (hi.toNat - lo.toNat):=by rw [length_take,hlM,min_comm]
       obtain ⟨s1,s2⟩:=pd p g3 e2 (dB.iH hfl) hset
       have hlay:=Oa f2 f3 (by rw [hnl,hcs1]; omega : lo.toNat + (cssM.flatten.take (hi.toNat - lo.toNat)).length <= cs1.length)
       rw [hlay] at s2
       obtain ⟨t1,t2⟩:=hR.B6 hb e1 g2 (arr':=(lay arr.toList (o + lo.toNat) (cssM.flatten.take (hi.toNat - lo.toNat))).toArray) (by simpa using s2)
       have hsz : (P.info? e).map (·.size) = some 1:=by
        obtain ⟨inf,_,k1,k2,_⟩:=hte.info
        grind
       have hkm : min (List.length m) (hi.toNat - lo.toNat) <= maxLen:=by omega
       by_cases h0 : min (List.length m) (hi.toNat - lo.toNat) = 0
       ·have hnews : cssM.flatten.take (hi.toNat - lo.toNat) = []:=List.eq_nil_of_length_eq_zero (by rw [hnl,h0])
        have harr : (lay arr.toList (o + lo.toNat) (cssM.flatten.take (hi.toNat - lo.toNat))).toArray = arr:=by
         rw [hnews]; simp [lay]
        rw [harr,setRow_self _ _ _ _ _ g2] at t1 t2
        have r1:=(hrun t t' ty e (some (if lo.toNat = n' then ⟨b,o,none⟩ else ⟨b,o + lo.toNat * τ1.size,none⟩)) (hi.toNat - lo.toNat) (n' - lo.toNat) hu hsz).1 h0
        rw [<- e7] at r1
        have hz:=El (G:=⟨G.w,G.β,G.σ,fk G.hp id (.cell σ v' false),G.n0,G.Bo,G.I0⟩) (tm:=tm) hkm
        rw [h0] at hz ⊢
        exact jK.mk r1 t1 t2 hz
       ·have hne : lo.toNat ≠ n':=by omega
        rw [if_neg hne,hs1,mul_one] at e7
        have hfit : o + lo.toNat + min (List.length m) (hi.toNat - lo.toNat) <= arr.size:=by
         grind
        have r1:=(hrun t t' ty e (some ⟨b,o + lo.toNat,none⟩) (hi.toNat - lo.toNat) (n' - lo.toNat) hu hsz).2 b (o + lo.toNat) arr tyb rfl g2 h0 hfit
        rw [<- e7] at r1
        exact jK.mk r1 t1 t2 (El hkm)
      ·cases h
     ·cases h
    ·cases h
   ·cases h
  ·cases h
 ·cases h
theorem MZ (hC : il P C) (hR : cK G) (hL : tx G tm fr ρ) {g : Option Gd} (hg : Kc g tm) (o : Oper) {c : Prop} {i : Decidable c} {v : V} {hp' : aL} {wr : List Nat} (hv : nR C g fr G.hp o.dst o.op = some (.eff c i v hp' wr)) (hc : c) : jK P G tm (execOp ρ o) v hp':=by
 obtain ⟨dst,op,type,pos,after,guard⟩:=o
 simp only at hv
 cases op <;> simp only [nR,reduceCtorEq] at hv
 case alloc t =>
  split at hv
  ·rename_i τ d hτ
   split at hv
   ·rename_i hf
    obtain ⟨rfl,rfl,rfl,rfl⟩:=kL hv
    have htk:=hC.ty _ _ hτ
    obtain ⟨z,hz1,hz2,_⟩:=si (P:=P) G.w htk.info
    have hrun : (Instr.alloc t true (.tuple #[])).run P G.w = .ok (.pointer (some ⟨G.w.heap.size,0,none⟩)) (G.w.alloc (.cells z.cells t)):=by
     simp only [Instr.alloc,Sem.run_bind,hz1,Result.andThen_ok]
     rfl
    obtain ⟨t1,t2,t3⟩:=hR.ID hf (lY (G:=G) τ _ htk.chained hz2) t
    exact jK.mk hrun t1 t2 (by simpa only [bA] using t3)
   ·cases hv
  ·cases hv
 case box t x =>
  split at hv
  ·rename_i τ d hτ
   split at hv
   ·rename_i hf
    simp only [and_eq_true] at hf
    obtain ⟨rfl,rfl,rfl,rfl⟩:=kL hv
    have hrun : (Instr.box t (ρ x)).run P G.w = .ok (.pointer (some ⟨G.w.heap.size,0,none⟩)) (G.w.alloc (.cells (ρ x).cells t)):=by
     rfl
    obtain ⟨t1,t2,t3⟩:=hR.ID hf.1 (nt hf.2 (hL.un hg x)).1 t
    exact jK.mk hrun t1 t2 (by simpa only [bA] using t3)
   ·cases hv
  ·cases hv
 case store t x y =>
  split at hv
  ·rename_i τ id ver p hτ heq
   have htk:=hC.ty _ _ hτ
   have hx:=hL.ud hg x
   rw [heq] at hx
   simp only [bA] at hx
   split at hv
   ·rename_i σ cv hb
    split at hv
    ·rename_i hfit
     simp only [and_eq_true,decide_eq_true_eq] at hfit
     split at hv
     ·rename_i v' hset
      obtain ⟨rfl,rfl,rfl,rfl⟩:=kL hv
      obtain ⟨b,o,e1,e2,e3⟩:=EY hx hb hfit.2
      obtain ⟨b',arr,ty,g1,g2,g3⟩:=hR.cell hb
      rw [e1] at g1; cases g1
      obtain ⟨hyf,hys⟩:=nt hfit.1 (hL.un hg y).nK
      obtain ⟨hle,hvf⟩:=pd p g3 e2 hyf hset
      have hrun:=uO (P:=P) G.w htk g2 (x:=ρ y) hys.size (o:=o) (by simpa using hle) hyf.one
      rw [<- e3] at hrun
      obtain ⟨t1,t2⟩:=hR.B6 hb e1 g2 (arr':=(lay arr.toList o (ρ y).cells.toList).toArray) (by simpa using hvf)
      exact jK.skip hrun t1 t2
     ·cases hv
    ·cases hv
   ·rename_i hb0
    split at hv
    ·rename_i σ l ver' hb
     split at hv
     ·rename_i hver
      have hver:=eq_of_beq_eq_true hver
      subst hver
      split at hv
      ·rename_i i0 q0 τ' z hrd
       split at hv
       ·rename_i hττ
        subst hττ
        split at hv
        ·rename_i z' hz
         obtain ⟨rfl,rfl,rfl,rfl⟩:=kL hv
         obtain ⟨t0,k0⟩:=tW (dd (un g (ev fr y))) G hR
         have hy:=wi _ G hR (hL.ud hg y) hrd
         have hx' : jC (G.eW (frz G.hp (dd (un g (ev fr y))))) id ver (.idx i0 :: q0) (ρ x):=hx.i7 t0.jP rfl
         unfold jC at hx'
         rw [show (G.eW (frz G.hp (dd (un g (ev fr y))))).hp = frz G.hp (dd (un g (ev fr y))) from rfl,hb] at hx'
         obtain ⟨b,i1,q1,o,u,f1,f2,f3,f4,f5,f6⟩:=hx'.2.2 rfl
         cases f1
         rcases k0.blk _ _ hb with ⟨b',arr,ty,css,cap,rest,g1,g2,g3,g4,g5,g6,g7,g8⟩ | ⟨g1,_⟩
         ·rw [f2] at g1; cases g1
          have hyc:=hy.cells
          have hcast:=xY hz f5
          subst hcast
          obtain ⟨k1,k2,k3⟩:=k0.Lb hb f2 g2 g3 g4 g5 g6 g7 g8 f4 f5 hyc hz
          have hag:=hy.isAgg
          have hrun:=uO (P:=P) G.w htk g3 (x:=ρ y) hag.2.2 (o:=i0.toNat * σ.size + o) (by simpa using k1) (ak.cell _ _ _ hyc)
          rw [<- f6] at hrun
          refine jK.after t0 rfl rfl rfl rfl ?_
          exact jK.skip hrun k2 k3
         ·rw [f2] at g1; cases g1
        ·cases hv
       ·cases hv
      ·cases hv
     ·cases hv
    ·cases hv
   ·cases hv
  ·cases hv
 case buildSlice t n parts =>
  split at hv
  ·rename_i τ hτ
   split at hv
   ·rename_i hcn
    simp only [and_eq_true] at hcn
    split at hv
    ·rename_i y hy
     obtain ⟨rfl,rfl,rfl,rfl⟩:=kL hv
     obtain ⟨e,hu,hte,_⟩:=hC.ty _ _ hτ
     have hn:=Nat.le_of_ble_eq_true hcn.2
     generalize hps : (parts.toList.map fun p=>dd (un g (ev fr p.2))) = ps
     obtain ⟨t0,k0⟩:=oo ps G hR
     obtain ⟨cs',r1,r2⟩:=rF (P:=P) (G:=G.eW (lJ G.hp ps)) (ρ:=ρ) hu hte hcn.1.1 (Nat.le_of_ble_eq_true hcn.1.2) (e:=fun x=>rd G.hp (dd (un g (ev fr x)))) (fun p hp=>by
      refine ⟨fun t y he=>xg ps G hR (by rw [<- hps]; exact List.mem_map.2 ⟨p,hp,rfl⟩) (hL.ud hg p.2) he,fun he=>?_⟩
      have:=HN he
      have h2:=hL.ud hg p.2
      rw [this] at h2
      simpa only [bA] using h2) hy
     obtain ⟨hl',css,hcs,hall⟩:=r2
     have hb : Below G.w.heap.size G.w (G.w.alloc (.cells cs' e)):=(Below.refl _ _).alloc (le_refl _) _
     obtain ⟨t1,t2⟩:=k0.grow hb
     have hsl:=GW k0 (Below.refl _ G.w) rfl (cap:=n) (rest:=[]) hl' hall (by rw [hcs]; simp) (le_refl _) (by unfold maxLen; omega) e (0,0)
     refine jK.after t0 rfl rfl rfl rfl (jK.mk r1 t1 t2 ?_)
     simp only [bA]
     exact ⟨hsl,_,_,rfl⟩
    ·cases hv
   ·cases hv
  ·cases hv
 case makeSlice t len cap =>
  split at hv
  ·rename_i τ d k n k' m hτ h1 h2
   split at hv
   ·rename_i hf
    simp only [and_eq_true,decide_eq_true_eq] at hf
    obtain ⟨⟨⟨hf,hpl⟩,rfl⟩,rfl⟩:=hf
    obtain ⟨rfl,rfl,rfl,rfl⟩:=kL hv
    obtain ⟨hc0,hmn,hfit⟩:=hc
    obtain ⟨e,hu,hte,_⟩:=hC.ty _ _ hτ
    have hl:=hL.ud hg len
    have hcp:=hL.ud hg cap
    rw [h1] at hl; rw [h2] at hcp
    have hl:=hl.int.1
    have hcp:=hcp.int.1
    obtain ⟨inf,z,hi,hsz,hz,hzc,_,_,hby⟩:=hte.info
    obtain ⟨hf1,hf2⟩:=Ik hfit
    have r1:=Ky (P:=P) G.w hu hi hz n m hc0 hmn (by rw [hby]; exact hf1) hf2
    rw [<- hl,<- hcp] at r1
    have hzs:=BM hzc hte.chained
    have hcells:=Gs hzc hpl hsz (toNat n)
    obtain ⟨t1,t2,t3⟩:=hR.K0 (id:=C.base + d) (τ:=τ) (l:=List.replicate (toNat n) τ.zero) (ver:=0) (fun blk hb=>by rw [md hf] at hb; cases hb) (w1:=G.w) (Below.refl _ _) rfl
     (css:=List.replicate (toNat n) (zc τ)) (nZ (ak.zero τ hpl) _) (arr:=madeCells z.cells (toNat n * inf.size)) (rest:=[]) (cap:=toNat n) (by rw [hcells]; simp) (by rw [size_madeCells,hsz]) (by simp) (by unfold maxLen; omega) e false
    refine jK.mk r1 t1 t2 ?_
    simp only [bA]
    simpa using t3
   ·cases hv
  ·cases hv
 case slice t x lo hi mx =>
  split at hv
  ·rename_i id ver τ heq hτ
   have hx:=hL.ud hg x
   rw [heq] at hx
   simp only [bA] at hx
   split at hv
   ·rename_i τ' l ver' z hb
    split at hv
    ·rename_i ht
     obtain ⟨rfl,hver⟩:=ht
     have hver:=eq_of_beq_eq_true hver
     subst hver
     split at hv
     ·rename_i c' i' v' hsl
      cases hv
      unfold kx at hx
      rw [hb] at hx
      have hx:=hx.2.2 rfl
      obtain ⟨e,hu,hte,_⟩:=hC.ty _ _ hτ
      obtain ⟨t0,k0⟩:=tW (.app id ver) G hR
      have hfz:=pD k0 (id:=id) (t:=τ) (l:=l) (ver:=ver) (by simp only [frz,hb]; rw [bG,if_pos rfl]; rfl)
      obtain ⟨y,r1,r2⟩:=tM (P:=P) G.w hu hte (fun x=>hL.ud hg x) hfz hsl hc
      rw [show (G.eW (frz G.hp (.app id ver))).σ id = G.σ id from rfl,<- hx] at r1
      refine jK.mk r1 t0 k0 ?_
      rcases r2 with ⟨a,b,rfl,r3⟩ | ⟨a,b,rfl,r3,ad,n,r4⟩
      ·simp only [bA]; exact .fM r3 rfl
      ·simp only [bA]; exact ⟨r3,ad,n,r4⟩
     ·cases hv
    ·cases hv
   ·cases hv
  ·cases hv
 case makeMap t r =>
  split at hv
  ·rename_i tk tv d hmp
   split at hv
   ·rename_i κ ν h1 h2
    split at hv
    ·rename_i hf
     obtain ⟨rfl,rfl,rfl,rfl⟩:=kL hv
     have hn:=md hf
     obtain ⟨t1,t2⟩:=hR.iL (id:=C.base + d) (blk':=.map κ ν []) (w':=G.w.alloc (.map #[] 0)) (ob:=some G.w.heap.size) (sv:=.nilFunc) (by simp) rfl rfl rfl
      (fun b hb _=>Below.heap_alloc G.w _ b hb) (fun b e=>by cases e; exact ⟨by simp,.inl (le_refl _)⟩) (fun blk hb=>by rw [hn] at hb; cases hb)
      fun hE hK=>⟨G.w.heap.size,#[],0,bR _ _ _,heap_alloc_new G.w _,trivial,rfl,fun i e he=>by simp at he⟩
     have hrun : (Instr.makeMap t none).run P G.w = .ok (.map (some G.w.heap.size)) (G.w.alloc (.map #[] 0)):=rfl
     refine jK.mk hrun t1 t2 ?_
     simp only [bA]
     unfold mG
     have : aq (G.iL (G.w.alloc (.map #[] 0)) (C.base + d) (some G.w.heap.size) .nilFunc (.map κ ν [])).hp (C.base + d) = some (.map κ ν []):=by simp only [GE.iL]; rw [bG,if_pos rfl]
     rw [this]
     exact ⟨G.w.heap.size,bR _ _ _,rfl⟩
    ·cases hv
   ·cases hv
  ·cases hv
 case mapEntry t m k =>
  split at hv
  ·rename_i tk tv id κ' x hmp h1 h2
   split at hv
   ·rename_i κ0 ν0 κ ν l hk hn hb
    split at hv
    ·rename_i hκ
     subst hκ
     split at hv
     ·rename_i hcn
      obtain ⟨e1,e2,hkey,hpl,hsc⟩:=hcn
      subst e1; subst e2
      obtain ⟨rfl,rfl,rfl,rfl⟩:=kL hv
      have hm:=hL.ud hg m
      have hx:=hL.ud hg k
      rw [h1] at hm; rw [h2] at hx
      simp only [bA] at hm hx
      obtain ⟨y,w',r1,t1,t2,t3⟩:=CY (P:=P) (tm:=tm) hC hR hmp hk hn hkey hpl hb hm hx (Nat.le_of_ble_eq_true hc)
      exact jK.mk r1 t1 t2 t3
     ·cases hv
    ·cases hv
   ·cases hv
  ·cases hv
 case mapUpdate t m k y =>
  split at hv
  ·rename_i tk tv id κ' x ν' z hmp h1 h2 h3
   split at hv
   ·rename_i κ0 ν0 κ ν l hk hn hb
    split at hv
    ·rename_i hκ
     subst hκ
     split at hv
     ·rename_i hν
      subst hν
      split at hv
      ·rename_i hcn
       obtain ⟨e1,e2,hkey,hsc⟩:=hcn
       subst e1; subst e2
       obtain ⟨rfl,rfl,rfl,rfl⟩:=kL hv
       have hm:=hL.ud hg m
       have hx:=hL.ud hg k
       have hy:=hL.ud hg y
       rw [h1] at hm; rw [h2] at hx; rw [h3] at hy
       simp only [bA] at hm hx hy
       obtain ⟨w',r1,t1,t2⟩:=AH (P:=P) hC hR hmp hk hkey hb hm hx hy
       exact jK.skip r1 t1 t2
      ·cases hv
     ·cases hv
    ·cases hv
   ·cases hv
  ·cases hv
 case entryStore t m n y =>
  split at hv
  ·rename_i tk tv id k i ν' z hmp h1 h2 h3
   split at hv
   ·rename_i ν0 κ ν l hn hb
    split at hv
    ·rename_i hν
     subst hν
     split at hv
     ·rename_i hcn
      obtain ⟨rfl,rfl,rfl,rfl⟩:=kL hv
      have hm:=hL.ud hg m
      have hi:=hL.ud hg n
      have hy:=hL.ud hg y
      rw [h1] at hm; rw [h2] at hi; rw [h3] at hy
      obtain ⟨hi1,_⟩:=hi.int
      simp only [bA] at hm hy
      obtain ⟨w',r1,t1,t2⟩:=zk (P:=P) (t:=t) (k:=k) hR hb hm hy hc.1 hc.2
      rw [<- hi1] at r1
      exact jK.skip r1 t1 t2
     ·cases hv
    ·cases hv
   ·cases hv
  ·cases hv
 case call c' =>
  split at hv
  ·rename_i hcal
   split at hv
   ·rename_i x xs t t' hargs hts
    split at hv
    ·rename_i htt
     subst htt
     split at hv
     ·rename_i τ hτ
      have ha1 : c'.args.map ρ = #[ρ x,ρ xs]:=by apply Array.ext'; simp [hargs]
      have ha2 : c'.argTypes = #[t,t]:=by apply Array.ext'; simpa using hts
      have hxs:=(hL.ud hg xs).nK (u:=.sl τ)
      cases hadd : nH (rd G.hp (nK (.sl τ) (dd (un g (ev fr xs))))) τ with
      | none=>simp [m7,hadd] at hv
      | some m =>
       have hm : sA G τ m (ρ xs):=by
        cases hrd : rd G.hp (nK (.sl τ) (dd (un g (ev fr xs)))) with
        | data t2 y =>
         rw [hrd] at hadd
         cases t2 with
         | sl t3 =>
          simp only [nH] at hadd
          obtain ⟨e,he⟩:=gK hadd
          cases e
          subst he
          exact E1 hR hxs hrd
         | _=>simp [nH] at hadd
        | _=>rw [hrd] at hadd; simp [nH] at hadd
       have:=FE (P:=P) hC hR (ty:=type) hτ (hL.un hg x).nK hm hadd hv hc
       have hex : execOp ρ { dst,op:=.call c',type,pos,after,guard } = (do pure (.value (<- Builtin.append_ #[t,t] type #[ρ x,ρ xs]))):=by
        simp [execOp,resolve,hcal,ha1,ha2,invoke,builtin]
       rw [hex]; exact this
     ·cases hv
    ·cases hv
   ·cases hv
  ·rename_i hcal
   split at hv
   ·rename_i x xs t t' hargs hts
    split at hv
    ·rename_i τ hτ
     have ha1 : c'.args.map ρ = #[ρ x,ρ xs]:=by apply Array.ext'; simp [hargs]
     have ha2 : c'.argTypes = #[t,t']:=by apply Array.ext'; simpa using hts
     have:=J0 (P:=P) hC hR (t':=t') (ty:=type) hτ (hL.un hg x) ((hL.ud hg xs).nK (u:=.sl τ)) hv
     have hex : execOp ρ { dst,op:=.call c',type,pos,after,guard } = (do pure (.value (<- Builtin.copy_ #[t,t'] type #[ρ x,ρ xs]))):=by
      simp [execOp,resolve,hcal,ha1,ha2,invoke,builtin]
     rw [hex]; exact this
    ·cases hv
   ·cases hv
  ·cases hv
  ·split at hv
   ·split at hv
    ·split at hv <;> simp at hv
    ·split at hv
     ·simp only [oL] at hv
      split at hv <;> simp at hv
     ·cases hv
   ·cases hv
 all_goals (first | (cases hv; done) | (simp at hv; done))
end
section
variable {P : Program} {C : Ctx} {G : GE} {fr : List V} {ρ : Operand->Value} {tm : Array Value}
def oy (P : Program) (G : GE) (a : Act) (o : Oper) (v : V) (hp' : aL) (Q : Exit->Act->World->Prop) : Prop :=
 o.wp P a G.w (fun a' w'=>∃ x β' σ',a' = a.put o.dst x /\ Tr G ⟨w',β',σ',hp',G.n0,G.Bo,G.I0⟩ /\ cK ⟨w',β',σ',hp',G.n0,G.Bo,G.I0⟩ /\ bA ⟨w',β',σ',hp',G.n0,G.Bo,G.I0⟩ a.tmps v x) Q
theorem jK.Sy {a : Act} {o : Oper} {v : V} {hp' : aL} {Q : Exit->Act->World->Prop} (h : jK P G a.tmps (execOp a.eval o) v hp') : oy P G a o v hp' Q:=by
 obtain ⟨r,x,w',β',σ',h1,h2,h3,h4,h5⟩:=h
 unfold oy Oper.wp
 rw [h1]
 rcases h2 with rfl | ⟨rfl,rfl⟩
 ·rw [Oper.upon_value]; exact ⟨x,β',σ',rfl,h3,h4,h5⟩
 ·rw [Oper.upon_skip]; exact ⟨undef,β',σ',rfl,h3,h4,h5⟩
theorem CB {a : Act} {o : Oper} {v : V} {Q : Exit->Act->World->Prop} (hR : cK G) {x : Value} (h : (execOp a.eval o).run P G.w = .ok (.value x) G.w) (hv : bA G a.tmps v x) : oy P G a o v G.hp Q :=
 jK.Sy ⟨.value x,x,G.w,G.β,G.σ,h,.inl rfl,Tr.refl G,hR,hv⟩
theorem g9.append : ∀ {l : List V} {m : List Value} {l' : List V} {m' : List Value},g9 G tm l m->g9 G tm l' m'->g9 G tm (l ++ l') (m ++ m')
 | [],[],_,_,_,h=>h
 | v :: l,x :: m,_,_,h,h'=>by simp only [List.cons_append,g9] at h ⊢; exact ⟨h.1,g9.append h.2 h'⟩
 | [],_ :: _,_,_,h,_=>by simp [g9] at h
 | _ :: _,[],_,_,h,_=>by simp [g9] at h
theorem g9.fQ : ∀ {l : List V} {m : List Value} {tm' : Array Value},g9 G tm' l m->g9 G tm (l.map Bx.fQ) m
 | [],[],_,_=>by simp [g9]
 | v :: l,x :: m,_,h=>by simp only [map_cons,g9] at h ⊢; exact ⟨h.1.fQ,g9.fQ h.2⟩
 | [],_ :: _,_,h=>by simp [g9] at h
 | _ :: _,[],_,h=>by simp [g9] at h
theorem tQ (hC : il P C) {e : Operand->V} (he : ∀ x,bA G tm (e x) (ρ x)) {c : Call} {f : Nat} {args : List V} (h : target C e c = some (f,args)) :
  ∃ vals : Array Value,g9 G tm args vals.toList /\ ∀ (dst : Option Tmp) (type : TypeId) (pos : String) (after : Array Edge) (guard : Option (Nat × Bool)),(execOp ρ { dst,op:=.call c,type,pos,after,guard }).run P G.w = (callFunc f vals).run P G.w:=by
 unfold target at h
 split at h
 ·rename_i fo hcal
  split at h
  ·rename_i f' fst cap heq
   cases h
   have hf:=he fo
   rw [heq] at hf
   simp only [bA] at hf
   obtain ⟨xs,ys,h1,h2,h3⟩:=hf
   refine ⟨xs ++ c.args.map ρ ++ ys,?_,fun dst type pos after guard=>by simp [execOp,resolve,hcal,h1,Deferred.ofValue,invoke]⟩
   simp only [mq,List.nil_append,Array.toList_append,Array.toList_map]
   exact g9.append (g9.append h2.fQ (mE he _)) h3.fQ
  ·cases h
 ·rename_i r m hcal
  split at h
  ·rename_i t v heq
   split at h
   ·rename_i f' hf
    cases h
    have hr:=he r
    rw [heq] at hr
    simp only [bA] at hr
    obtain ⟨x,h1,h2⟩:=hr
    refine ⟨#[x] ++ c.args.map ρ,?_,fun dst type pos after guard=>?_⟩
    ·simp only [mq,List.map_nil,List.append_nil,Array.toList_append,Array.toList_map]
     exact g9.append (by simp only [g9]; exact ⟨h2.fQ,trivial⟩) (mE he _)
    ·have:=(hC.inv _ _ _ hf G.w x).1 (c.args.map ρ)
     have e0 : (#[Value.iface t x] ++ c.args.map ρ)[0]? = some (Value.iface t x):=by
      grind
     simp only [execOp,resolve,hcal,Sem.run_bind,Sem.run_pure,Result.andThen_ok,invoke,h1,e0]
     rw [<- this]
     simp
     rw [show (c.args.map ρ).extract 0 c.args.size = c.args.map ρ by
      have : c.args.size = (c.args.map ρ).size:=by simp
      rw [this]; exact Array.extract_size]
   ·cases h
  ·cases h
 ·cases h
theorem wS (hR : cK G) : ∀ {t : Ty} {l : List V} {x : t.den} {vs : List Value},getArgs t (tq G.hp l) = some x->kT G.hp l = false->g9 G tm l vs->gX G.env t x vs
 | .unit,[],_,[],_,_,_=>rfl
 | .unit,[],_,_ :: _,_,_,h=>by simp [g9] at h
 | .unit,_ :: _,_,_,h,_,_=>by simp [tq,getArgs] at h
 | .pair a b,[],_,_,h,_,_=>by simp [tq,getArgs] at h
 | .pair a b,v :: l,x,[],_,_,h=>by simp [g9] at h
 | .pair a b,v :: l,x,y :: vs,h,hl,ha=>by
  simp only [tq] at h
  simp only [kT,Bool.or_eq_false_iff] at hl
  simp only [g9] at ha
  cases hv : rd G.hp v <;> rw [hv] at h <;> simp only [getArgs,reduceCtorEq] at h
  split at h
  ·cases h
  ·rename_i z hz
   split at h
   ·cases h
   ·rename_i r hr
    obtain ⟨rfl,rfl⟩:=gK hz
    cases h
    exact ⟨y,vs,rfl,rq hR v ha.1 hl.1 hv,wS hR hr hl.2 ha.2⟩
 | .int _,_,_,_,h,_,_=>by simp [getArgs] at h
 | .bool,_,_,_,h,_,_=>by simp [getArgs] at h
 | .str,_,_,_,h,_,_=>by simp [getArgs] at h
 | .sl _,_,_,_,h,_,_=>by simp [getArgs] at h
 | .arr _ _,_,_,_,h,_,_=>by simp [getArgs] at h
 | .opq,_,_,_,h,_,_=>by simp [getArgs] at h
theorem rN : ∀ {t : Ty} {l : List V} {x : t.den} {vs : List Value} (G : GE),cK G->getArgs t (tq G.hp l) = some x->g9 G tm l vs->gX (G.eW (lJ G.hp l)).env t x vs
 | .unit,[],_,[],_,_,_,_=>rfl
 | .unit,[],_,_ :: _,_,_,_,h=>by simp [g9] at h
 | .unit,_ :: _,_,_,_,_,h,_=>by simp [tq,getArgs] at h
 | .pair a b,[],_,_,_,_,h,_=>by simp [tq,getArgs] at h
 | .pair a b,v :: l,x,[],_,_,_,h=>by simp [g9] at h
 | .pair a b,v :: l,x,y :: vs,G,hR,h,ha=>by
  simp only [tq] at h
  simp only [g9] at ha
  obtain ⟨t1,k1⟩:=tW v G hR
  obtain ⟨t2,k2⟩:=oo l _ k1
  cases hv : rd G.hp v <;> rw [hv] at h <;> simp only [getArgs,reduceCtorEq] at h
  split at h
  ·cases h
  ·rename_i z hz
   split at h
   ·cases h
   ·rename_i r hr
    obtain ⟨rfl,rfl⟩:=gK hz
    cases h
    refine ⟨y,vs,rfl,(wi v G hR ha.1 hv).ext t2.jP.env,?_⟩
    have:=rN (G.eW (frz G.hp v)) k1 (t:=b) (l:=l) (x:=r) (vs:=vs) (by rw [show (G.eW (frz G.hp v)).hp = frz G.hp v from rfl,uY (qS v G.hp)]; exact hr) (ha.2.ext t1.jP)
    exact this
 | .int _,_,_,_,_,_,h,_=>by simp [getArgs] at h
 | .bool,_,_,_,_,_,h,_=>by simp [getArgs] at h
 | .str,_,_,_,_,_,h,_=>by simp [getArgs] at h
 | .sl _,_,_,_,_,_,h,_=>by simp [getArgs] at h
 | .arr _ _,_,_,_,_,_,h,_=>by simp [getArgs] at h
 | .opq,_,_,_,_,_,h,_=>by simp [getArgs] at h
theorem vI : ∀ {t : Ty} {x : t.den} {vs : List Value},gX G.env t x vs->g9 G tm (spread t x) vs
 | .unit,_,_,h=>by simp only [gX] at h; subst h; simp [spread,g9]
 | .pair a b,x,_,h=>by
  obtain ⟨v,r,rfl,h1,h2⟩:=h
  simp only [spread,g9]
  exact ⟨by simpa [bA] using h1,vI h2⟩
 | .int _,_,_,h=>h.elim
 | .bool,_,_,h=>h.elim
 | .str,_,_,h=>h.elim
 | .sl _,_,_,h=>h.elim
 | .arr _ _,_,_,h=>h.elim
 | .opq,_,_,h=>h.elim
theorem gX.ext {E E' : Env} (h : Ext E E') : ∀ {t : Ty} {x : t.den} {vs : List Value},gX E t x vs->gX E' t x vs
 | .unit,_,_,h'=>h'
 | .pair _ _,_,_,⟨v,r,e,h1,h2⟩=>⟨v,r,e,h1.ext h,gX.ext h h2⟩
 | .int _,_,_,h=>h
 | .bool,_,_,h=>h
 | .str,_,_,h=>h
 | .sl _,_,_,h=>h
 | .arr _ _,_,_,h=>h
 | .opq,_,_,h=>h
theorem Cw {E : Env} (h : Ext E G.env) {F : Fn} {r : F.rs.den} {v : Value} (hv : ql E F r v) : bA G tm (F.out r) v:=by
 unfold ql at hv
 unfold Fn.out
 cases hm : F.multi with
 | false=>rw [hm] at hv; simp only at hv ⊢; simp only [bA]; exact hv.ext h
 | true =>
  rw [hm] at hv; simp only at hv ⊢
  obtain ⟨vs,e,h2⟩:=hv
  simp only [bA]
  exact ⟨vs,e,vI (h2.ext h)⟩
theorem A9 {a : Act} (hR : cK G) {o : Oper} {f : Nat} {F : Fn} (hF : Callee P f F) {x : F.ps.den} {r : F.rs.den} (hr : F.run x = some r) {vals : Array Value} (ha : gX G.env F.ps x vals.toList)
  (hrun : (execOp a.eval o).run P G.w = (callFunc f vals).run P G.w) {Q : Exit->Act->World->Prop} : oy P G a o (F.out r) G.hp Q:=by
 rcases hF with ⟨hcon,fn,n1,n2,n3⟩ | hext
 ·have n2' : ¬ fn.name = "runtime.NumGoroutine" := by simpa using n2
  have n3' : ¬ fn.body = none:=by intro e; rw [e] at n3; simp at n3
  have hcall:=hcon G.w G.im x r vals ⟨fun b m h=>h.2.1,hR.glob⟩ hr ha
  have h2 : (callFunc f vals).run P G.w = .ok (.enter f vals) G.w:=by simp [callFunc,n1,n2',n3']
  unfold oy Oper.wp
  rw [hrun,h2]
  simp only [Oper.upon_enter]
  refine hcall.mono fun e w' ⟨v,he,hb,ho⟩=>?_
  subst he
  obtain ⟨t1,t2⟩:=hR.grow hb
  refine ⟨v,G.β,G.σ,rfl,t1,t2,Cw (E:=⟨w',fun b m=>G.im b m \/ (G.w.heap.size <= b /\ b < w'.heap.size)⟩) ⟨fun b m hi=>?_,fun _ _ _ _ _=>rfl⟩ ho⟩
  rcases hi with hi | ⟨h1,h2⟩
  ·exact t1.jP.env.im b m hi
  ·exact MG hR h1 h2 m
 ·obtain ⟨v,e1,e2⟩:=hext G.w G.im x r vals hr ha
  exact CB hR (hrun.trans e1) (Cw ⟨fun _ _ h=>h,fun _ _ _ _ _=>rfl⟩ e2)
theorem ak.scalar {E E' : Env} : ∀ (t : Ty) (x : t.den) (cs : List Value),t.scalar = true->ak E t x cs->ak E' t x cs
 | .int _,_,_,_,h=>h
 | .bool,_,_,_,h=>h
 | .str,_,_,_,h=>h
 | .arr n t,l,cs,hs,⟨h1,css,h2,h3⟩=>⟨h1,css,h2,h3.mono fun a b h=>ak.scalar t a b hs h⟩
 | .unit,_,_,_,h=>h
 | .pair a b,x,cs,hs,⟨c1,c2,h1,h2,h3⟩=>by
  simp only [Ty.scalar,and_eq_true] at hs
  exact ⟨c1,c2,h1,ak.scalar a _ _ hs.1 h2,ak.scalar b _ _ hs.2 h3⟩
 | .sl _,_,_,hs,_=>by simp [Ty.scalar] at hs
 | .opq,_,_,hs,_=>by simp [Ty.scalar] at hs
theorem iv.scalar {E E' : Env} {t : Ty} {x : t.den} {v : Value} (hs : t.scalar = true) (h : iv E t x v) : iv E' t x v:=by
 unfold iv at h ⊢
 split at h
 ·rename_i ht; obtain ⟨cs,h1,h2⟩:=h; exact ⟨cs,h1,ak.scalar t _ _ hs h2⟩
 ·exact ak.scalar t _ _ hs h
theorem gX.scalar {E E' : Env} : ∀ {t : Ty} {x : t.den} {vs : List Value},t.scalar = true->gX E t x vs->gX E' t x vs
 | .unit,_,_,_,h=>h
 | .pair a b,x,_,hs,⟨v,r,h1,h2,h3⟩=>by
  simp only [Ty.scalar,and_eq_true] at hs
  exact ⟨v,r,h1,h2.scalar hs.1,gX.scalar hs.2 h3⟩
 | .int _,_,_,_,h=>h.elim
 | .bool,_,_,_,h=>h.elim
 | .str,_,_,_,h=>h.elim
 | .arr _ _,_,_,_,h=>h.elim
 | .sl _,_,_,_,h=>h.elim
 | .opq,_,_,_,h=>h.elim
theorem ql.scalar {E E' : Env} {F : Fn} {r : F.rs.den} {v : Value} (hs : F.rs.scalar = true) (h : ql E F r v) : ql E' F r v:=by
 unfold ql at h ⊢
 split at h
 ·exact h.scalar hs
 ·obtain ⟨vs,h1,h2⟩:=h; exact ⟨vs,h1,h2.scalar hs⟩
theorem FW {a : Act} (hR : cK G) {o : Oper} {f : Nat} {F : Fn} (hF : Callee P f F) {x : F.ps.den} {r : F.rs.den} (hr : F.run x = some r) {vals : Array Value} {hp1 : aL} (hgl : rm (G.eW hp1).env) (ha : gX (G.eW hp1).env F.ps x vals.toList) (hs : F.rs.scalar = true)
  (hrun : (execOp a.eval o).run P G.w = (callFunc f vals).run P G.w) {Q : Exit->Act->World->Prop} : oy P G a o (F.out r) G.hp Q:=by
 rcases hF with ⟨hcon,fn,n1,n2,n3⟩ | hext
 ·have n2' : ¬ fn.name = "runtime.NumGoroutine" := by simpa using n2
  have n3' : ¬ fn.body = none:=by intro e; rw [e] at n3; simp at n3
  have hcall:=hcon G.w (G.eW hp1).im x r vals ⟨fun b m h=>h.2.1,hgl⟩ hr ha
  have h2 : (callFunc f vals).run P G.w = .ok (.enter f vals) G.w:=by simp [callFunc,n1,n2',n3']
  unfold oy Oper.wp
  rw [hrun,h2]
  simp only [Oper.upon_enter]
  refine hcall.mono fun e w' ⟨v,he,hb,ho⟩=>?_
  subst he
  obtain ⟨t1,t2⟩:=hR.grow hb
  exact ⟨v,G.β,G.σ,rfl,t1,t2,Cw (E:=GE.env ⟨w',G.β,G.σ,G.hp,G.n0,G.Bo,G.I0⟩) (Ext.refl _) (ho.scalar hs)⟩
 ·obtain ⟨v,e1,e2⟩:=hext G.w (G.eW hp1).im x r vals hr ha
  exact CB hR (hrun.trans e1) (Cw (E:=G.env) (Ext.refl _) (e2.scalar hs))
theorem qL {v : V} {F : Fn} {x : F.ps.den} {hp : aL} {wr : List Nat} : jM v ≠ some (.call F x hp wr):=by simp [jM]
theorem Gi {q : Prop} [Decidable q] {v : V} {F : Fn} {x : F.ps.den} {hp : aL} {wr : List Nat} : sC q v ≠ some (.call F x hp wr):=by simp [sC]
theorem FP {q : Prop} [Decidable q] {v : V} {hp2 : aL} {wr2 : List Nat} {F : Fn} {x : F.ps.den} {hp : aL} {wr : List Nat} : Aj q v hp2 wr2 ≠ some (.call F x hp wr):=by simp [Aj]
theorem JE {op : BinOp} {k : IntKind} {p q : Int} {F : Fn} {x : F.ps.den} {hp : aL} {wr : List Nat} : tU op k p q ≠ some (.call F x hp wr):=by
 cases op <;> simp [tU,jM,sC]
theorem I4 {op : BinOp} {p q : List Int} {F : Fn} {x : F.ps.den} {hp : aL} {wr : List Nat} : tK op p q ≠ some (.call F x hp wr):=by
 cases op <;> simp [tK,jM,sC]
theorem Jj {op : BinOp} {b : Bool} {F : Fn} {x : F.ps.den} {hp : aL} {wr : List Nat} : qi op b ≠ some (.call F x hp wr):=by
 cases op <;> simp [qi,jM]
theorem NI {op : BinOp} {xt : Nat} {u v : V} {F : Fn} {x : F.ps.den} {hp : aL} {wr : List Nat} : F1 C op xt u v ≠ some (.call F x hp wr):=by
 unfold F1
 repeat' split
 all_goals first | exact qL | exact Gi | exact JE | exact I4 | exact Jj | (intro h; cases h; done)
theorem Jl {e : Operand->V} {τ : Ty} {l : List τ.den} {lo hi mx : Option Operand} {F : Fn} {x : F.ps.den} {hp : aL} {wr : List Nat} : ky e τ l lo hi mx ≠ some (.call F x hp wr):=by
 unfold ky
 repeat' split
 all_goals first | exact Gi | (intro h; cases h; done)
theorem IG {a : Act} (hC : il P C) (hR : cK G) (hL : tx G a.tmps fr a.eval) {g : Option Gd} (hg : Kc g a.tmps) (o : Oper) {F : Fn} {x : F.ps.den} {hp : aL} {wr : List Nat} (hv : lZ C g fr G.hp o.op = some (.call F x hp wr)) {r : F.rs.den} (hr : F.run x = some r) {Q : Exit->Act->World->Prop} :
  oy P G a o (F.out r) G.hp Q:=by
 obtain ⟨dst,op,type,pos,after,guard⟩:=o
 cases op <;> simp only [lZ] at hv
 case call c =>
  split at hv
  ·split at hv <;> (try split at hv) <;> exact absurd hv (by first | exact qL | (intro h; cases h; done))
  ·split at hv <;> (try split at hv) <;> exact absurd hv (by first | exact qL | (intro h; cases h; done))
  ·split at hv <;> (try split at hv) <;> exact absurd hv (by first | exact qL | (intro h; cases h; done))
  ·cases hv
  ·split at hv
   ·rename_i f args htg
    split at hv
    ·rename_i F' hF
     split at hv
     ·cases hv
     ·rename_i hl
      split at hv
      ·rename_i y hy
       simp only [Option.some.injEq,Out.call.injEq] at hv
       obtain ⟨rfl,hv,rfl,rfl⟩:=hv
       have hv:=eq_of_heq hv
       subst hv
       obtain ⟨vals,h1,h2⟩:=tQ hC (fun x=>hL.un hg x) htg
       simp only [and_eq_true,Bool.not_eq_true',not_and,Bool.not_eq_false] at hl
       cases hlo : kT G.hp args with
       | false=>exact A9 hR (hC.fn _ _ hF) hr (wS hR hy hlo h1) (h2 dst type pos after guard)
       | true=>exact FW hR (hC.fn _ _ hF) hr (oo args G hR).2.glob (rN G hR hy h1) (hl hlo) (h2 dst type pos after guard)
      ·cases hv
    ·cases hv
   ·cases hv
 case binOp op xt x y yt=>exact absurd hv NI
 case unOp op _ _ =>
  unfold R0 at hv
  split at hv
  ·exact absurd hv qL
  ·exact absurd hv qL
  ·exact absurd hv qL
  ·cases hv
 all_goals (exfalso; revert hv)
 all_goals (repeat' split)
 all_goals first | exact qL | exact Gi | exact Jl | (intro h; cases h; done)
theorem IX {a : Act} (hC : il P C) (hR : cK G) (hL : tx G a.tmps fr a.eval) {g : Option Gd} (hg : Kc g a.tmps) (o : Oper) {F : Fn} {x : F.ps.den} {hp : aL} {wr : List Nat} (hv : nR C g fr G.hp o.dst o.op = some (.call F x hp wr)) {r : F.rs.den} (hr : F.run x = some r) {Q : Exit->Act->World->Prop} :
  oy P G a o (F.out r) hp Q:=by
 obtain ⟨dst,op,type,pos,after,guard⟩:=o
 cases op <;> simp only [nR,reduceCtorEq] at hv
 case call c =>
  split at hv
  ·split at hv
   ·split at hv
    ·split at hv
     ·exfalso; revert hv; unfold m7; repeat' split
      all_goals first | exact FP | (intro h; cases h; done)
     ·cases hv
    ·cases hv
   ·cases hv
  ·split at hv
   ·split at hv
    ·exfalso; revert hv; unfold w9; repeat' split
     all_goals first | exact FP | (intro h; cases h; done)
    ·cases hv
   ·cases hv
  ·cases hv
  ·split at hv
   ·rename_i f args htg
    split at hv
    ·rename_i F' hF
     split at hv
     ·rename_i y hy
      simp only [Option.some.injEq,Out.call.injEq] at hv
      obtain ⟨rfl,hv,rfl,rfl⟩:=hv
      have hv:=eq_of_heq hv
      subst hv
      obtain ⟨vals,h1,h2⟩:=tQ hC (fun x=>hL.un hg x) htg
      obtain ⟨t0,k0⟩:=oo args G hR
      have:=A9 (a:=a) k0 (hC.fn _ _ hF) hr (rN G hR hy h1) (h2 dst type pos after guard) (Q:=Q)
      unfold oy at this ⊢
      refine Oper.wp_mono (fun a' w' hK=>?_) this
      obtain ⟨x,β',σ',e1,e2,e3,e4⟩:=hK
      exact ⟨x,β',σ',e1,t0.trans e2,e3,e4⟩
     ·cases hv
    ·split at hv
     ·simp only [oL] at hv
      split at hv <;> simp at hv
     ·cases hv
   ·cases hv
 all_goals (exfalso; revert hv)
 all_goals (repeat' split)
 all_goals first | exact FP | (intro h; cases h; done)
end
section
variable {P : Program} {C : Ctx} {G : GE} {fr : List V} {ρ : Operand->Value} {tm : Array Value}
theorem qp.jP {G G2 : GE} (hK : mO G G2) {i : Nat} {blk : jz} (h : qp G i blk) (hβ : G2.β i = G.β i) (hσ : G2.σ i = G.σ i) (hw : ∀ b,G.β i = some b->b < G.w.heap.size->G2.w.heap[b]? = G.w.heap[b]?) : qp G2 i blk:=by
 cases blk with
 | cell t v z =>
  obtain ⟨b,arr,ty,g1,g2,g3⟩:=h
  exact ⟨b,arr,ty,hβ.trans g1,(hw b g1 (Array.getElem?_eq_some_iff.1 g2).1).trans g2,g3.ext hK⟩
 | buf t l ver z =>
  rcases h with ⟨b,arr,ty,css,cap,rest,g1,g2,g3,g4,g5,g6,g7,g8⟩ | ⟨g1,g2,g3,g4⟩
  ·exact .inl ⟨b,arr,ty,css,cap,rest,hβ.trans g1,hσ.trans g2,(hw b g1 (Array.getElem?_eq_some_iff.1 g3).1).trans g3,g4.mono fun _ _ h=>h.ext hK.env,g5,g6,g7,g8⟩
  ·exact .inr ⟨hβ.trans g1,g2,by rw [hσ]; exact g3.ext hK.env,by rw [hσ]; exact g4⟩
 | map k v l =>
  obtain ⟨b,es,clock,g1,g2,g3,g4⟩:=h
  exact ⟨b,es,clock,hβ.trans g1,(hw b g1 (Array.getElem?_eq_some_iff.1 g2).1).trans g2,g3.mono fun _ _ h=>⟨h.1.ext hK.env,h.2.ext hK.env⟩,g4⟩
structure O3 (G G1 : GE) (e : Nat->Nat) : Prop where
 w : G1.w = G.w
 n0 : G1.n0 = G.w.heap.size
 Bo : ∀ b,G1.Bo b ↔ G1.named b
 I0 : ∀ b m,G1.I0 b m ↔ G.im b m
 ids : ∀ k blk,aq G1.hp k = some blk->∃ blk0,aq G.hp (e k) = some blk0 /\ G.β (e k) = G1.β k /\ ∀ m,blk.im m ↔ blk0.im m
theorem O3.named {G1 : GE} {e : Nat->Nat} (h : O3 G G1 e) {b : Nat} (hn : G1.named b) : ∃ k blk blk0,aq G1.hp k = some blk /\ G1.β k = some b /\ aq G.hp (e k) = some blk0 /\ G.β (e k) = some b /\ ∀ m,blk.im m ↔ blk0.im m:=by
 obtain ⟨k,blk,h1,h2⟩:=hn
 obtain ⟨blk0,g1,g2,g3⟩:=h.ids k blk h1
 grind
theorem O3.out {G1 : GE} {e : Nat->Nat} (hR : cK G) (h : O3 G G1 e) : Ext G1.env G.env:=by
 refine ⟨fun b m ⟨h1,h2,h3⟩=>?_,fun b m _ j _=>by show G.w.cell? _ = G1.w.cell? _; rw [h.w]⟩
 rcases h1 with h1 | h1 | h1
 ·exact (h.I0 b m).1 h1
 ·rw [h.w] at h2; rw [h.n0] at h1; omega
 ·obtain ⟨k,blk,blk0,k1,k2,k3,k4,k5⟩:=h.named ((h.Bo b).1 h1)
  exact G6 hR k3 k4 (hR.lt k3 k4) ((k5 m).1 (h3 k blk k1 k2))
theorem O3.GM {G1 : GE} {e : Nat->Nat} (h : O3 G G1 e) : Ext G.env G1.env:=by
 refine ⟨fun b m hi=>⟨.inl ((h.I0 b m).2 hi),by rw [h.w]; exact hi.2.1,fun k blk k1 k2=>?_⟩,fun b m _ j _=>by show G1.w.cell? _ = G.w.cell? _; rw [h.w]⟩
 obtain ⟨blk0,g1,g2,g3⟩:=h.ids k blk k1
 exact (g3 m).2 (hi.2.2 _ blk0 g1 (g2.trans k2))
structure Rw (G G1 G2 G' : GE) (e : Nat->Nat) : Prop where
 w : G'.w = G2.w
 n0 : G'.n0 = G.n0
 Bo : G'.Bo = G.Bo
 I0 : G'.I0 = G.I0
 n0' : G2.n0 = G1.n0
 Bo' : G2.Bo = G1.Bo
 I0' : G2.I0 = G1.I0
 blk : ∀ i blk',aq G'.hp i = some blk'->(∃ k blk1,e k = i /\ aq G2.hp k = some blk1 /\ G'.β i = G2.β k /\ G'.σ i = G2.σ k /\ (∀ m,blk1.im m ↔ blk'.im m) /\ (Ext G2.env G'.env->qp G2 k blk1->qp G' i blk')) \/
  (aq G.hp i = some blk' /\ G'.β i = G.β i /\ G'.σ i = G.σ i /\ ∀ k blk,aq G1.hp k = some blk->e k ≠ i)
 FM : ∀ i blk,aq G.hp i = some blk->∃ blk',aq G'.hp i = some blk' /\ ∀ v,fP G G' i i v v blk blk'
theorem lift {G1 G2 G' : GE} {e : Nat->Nat} (hR : cK G) (hW : O3 G G1 e) (h1 : cK G2) (t1 : Tr G1 G2) (hB : Rw G G1 G2 G' e) : Ext G2.env G'.env /\ Tr G G' /\ cK G':=by
 have hsz : G.w.heap.size <= G2.w.heap.size:=by rw [<- hW.w]; exact t1.size
 have hE2 : Ext G2.env G'.env:=by
  refine ⟨fun b m ⟨k1,k2,k3⟩=>⟨?_,by rw [hB.w]; exact k2,fun i blk' hi hβ=>?_⟩,fun b m _ j _=>by show G'.w.cell? _ = G2.w.cell? _; rw [hB.w]⟩
  ·rw [hB.n0,hB.Bo,hB.I0]
   rw [hB.n0',hB.Bo',hB.I0'] at k1
   rcases k1 with k1 | k1 | k1
   ·exact ((hW.I0 b m).1 k1).1
   ·rw [hW.n0] at k1; exact .inr (.inl (Nat.le_trans hR.base k1))
   ·obtain ⟨k,blk,blk0,_,_,q3,q4,_⟩:=hW.named ((hW.Bo b).1 k1)
    exact .inr (hR.own b ⟨_,_,q3,q4⟩)
  ·rcases hB.blk i blk' hi with ⟨k,blk1,_,q2,q3,_,q5,_⟩ | ⟨q1,q2,_,q4⟩
   ·grind
   ·rw [q2] at hβ
    rw [hB.n0',hB.Bo',hB.I0'] at k1
    rcases k1 with k1 | k1 | k1
    ·exact ((hW.I0 b m).1 k1).2.2 i blk' q1 hβ
    ·rw [hW.n0] at k1; have:=hR.lt q1 hβ; omega
    ·obtain ⟨k,blk,blk0,p1,_,p3,p4,_⟩:=hW.named ((hW.Bo b).1 k1)
     exact absurd (hR.inj _ _ _ _ _ p3 q1 p4 hβ) (q4 k blk p1)
 have hE : Ext G.env G'.env:=hW.GM.trans (t1.jP.env.trans hE2)
 have hK : mO G G':=⟨hE,fun i ver j u bl hρ hi=>by
  simp only [vH,Option.some.injEq,Prod.mk.injEq] at hρ
  obtain ⟨rfl,rfl⟩:=hρ
  obtain ⟨blk',q1,q2⟩:=hB.FM i bl hi
  exact ⟨blk',q1,q2 ver⟩⟩
 have hnm : ∀ b,G1.named b->G.named b:=fun b hn=>by
  obtain ⟨k,blk,blk0,_,_,q3,q4,_⟩:=hW.named hn
  exact ⟨_,_,q3,q4⟩
 have hfr : ∀ b,b < G.w.heap.size->¬ G1.named b->G'.w.heap[b]? = G.w.heap[b]?:=fun b hb hn=>by
  rw [hB.w,<- hW.w]
  exact t1.frame b (by rw [hW.w]; exact hb) hn
 have hown : ∀ b,G'.named b->G.w.heap.size <= b \/ G.named b:=by
  rintro b ⟨i,blk',hi,hβ⟩
  rcases hB.blk i blk' hi with ⟨k,blk1,_,q2,q3,_⟩ | ⟨q1,q2,_⟩
  ·rcases t1.own b ⟨k,blk1,q2,q3 ▸ hβ⟩ with q | q
   ·rw [hW.w] at q; exact .inl q
   grind
  ·exact .inr ⟨i,blk',q1,q2 ▸ hβ⟩
 have hout : ∀ {i blk' b},aq G.hp i = some blk'->G.β i = some b->(∀ k blk,aq G1.hp k = some blk->e k ≠ i)->¬ G1.named b:=fun {i blk' b} q1 q2 q4 hn=>by
  obtain ⟨k,blk,blk0,p1,_,p3,p4,_⟩:=hW.named hn
  exact absurd (hR.inj _ _ _ _ _ p3 q1 p4 q2) (q4 k blk p1)
 refine ⟨hE2,⟨hK,?_,?_,?_,by rw [hB.w]; exact hsz,fun b hb hn=>hfr b hb fun h=>hn (hnm b h),hown⟩,⟨h1.glob.ext hE2,fun i blk' hi=>?_,fun i i' blk blk' b hi hi' hβ hβ'=>?_,fun b hn=>?_,?_⟩⟩
 ·rw [hB.w,<- hW.w]; exact t1.os
 ·rw [hB.w,<- hW.w]; exact t1.tape
 ·rw [hB.w,<- hW.w]; exact t1.output
 ·rcases hB.blk i blk' hi with ⟨k,blk1,_,q2,_,_,_,q6⟩ | ⟨q1,q2,q3,q4⟩
  ·exact q6 hE2 (h1.blk k blk1 q2)
  ·exact (hR.blk i blk' q1).jP hK q2 q3 fun b hb hlt=>hfr b hlt (hout q1 hb q4)
 ·rcases hB.blk i blk hi with ⟨k,blk1,e1,q2,q3,_⟩ | ⟨q1,q2,_,q4⟩ <;> rcases hB.blk i' blk' hi' with ⟨k',blk1',e1',q2',q3',_⟩ | ⟨q1',q2',_,q4'⟩
  ·rw [q3] at hβ; rw [q3'] at hβ'
   rw [<- e1,<- e1',h1.inj _ _ _ _ _ q2 q2' hβ hβ']
  ·exfalso
   rw [q3] at hβ; rw [q2'] at hβ'
   rcases t1.own b ⟨k,blk1,q2,hβ⟩ with q | q
   ·have:=hR.lt q1' hβ'; rw [hW.w] at q; omega
   grind
  ·exfalso
   rw [q3'] at hβ'; rw [q2] at hβ
   rcases t1.own b ⟨k',blk1',q2',hβ'⟩ with q | q
   ·have:=hR.lt q1 hβ; rw [hW.w] at q; omega
   grind
  ·rw [q2] at hβ; rw [q2'] at hβ'
   exact hR.inj _ _ _ _ _ q1 q1' hβ hβ'
 ·rw [hB.n0,hB.Bo]
  rcases hown b hn with q | q
  ·exact .inl (Nat.le_trans hR.base q)
  ·exact hR.own b q
 ·rw [hB.n0,hB.w]; exact Nat.le_trans hR.base hsz
end
theorem qh {α : Type} (e : Nat->Nat) (g : Nat->jz->α) : ∀ (h : aL) (i : Nat) (b : α),look (h.map fun x=>(e x.1,g x.1 x.2)) i = some b ->
  ∃ k b2,look (h.map fun x=>(e x.1,x.1)) i = some k /\ e k = i /\ aq h k = some b2 /\ b = g k b2
 | [],i,b,h=>by cases h
 | (j,c) :: r,i,b,h=>by
  simp only [map_cons,look,aq] at h ⊢
  by_cases hj : beq (e j) i = true
  ·simp_all
  ·rw [if_neg hj] at h
   obtain ⟨k,b2,h1,h2,h3,h4⟩:=qh e g r i b h
   refine ⟨k,b2,by rw [if_neg hj]; exact h1,h2,?_,h4⟩
   rw [if_neg]
   ·exact h3
   ·intro hk
    simp_all
theorem mn {α : Type} : ∀ (l : List (Nat × α)) (i : Nat),look l i = none->i ∉ l.map (·.1)
 | [],_,_=>by simp
 | (j,c) :: r,i,h=>by
  simp only [look] at h
  split at h
  ·cases h
  ·rename_i hj
   simp only [map_cons,mem_cons,not_or]
   exact ⟨fun e=>hj (by rw [e]; exact beq_refl j),mn r i h⟩
theorem jH {α : Type} : ∀ (l : List (Nat × α)) (i : Nat) (b : α),look l i = some b->i ∈ l.map (·.1)
 | [],_,_,h=>by cases h
 | (j,c) :: r,i,b,h=>by
  simp only [look] at h
  split at h
  ·simp_all
  ·simp only [map_cons,mem_cons]; exact .inr (jH r i b h)
theorem FO {l : List Nat} {i : Nat} : mem l i = true ↔ i ∈ l:=by
 induction l with
 | nil=>simp [mem]
 | cons j r ih =>
  simp only [mem,List.any_cons,or_eq_true,mem_cons] at ih ⊢
  rw [ih]
  constructor
  ·rintro (h | h)
   ·exact .inl (eq_of_beq_eq_true h)
   ·exact .inr h
  ·rintro (h | h)
   ·exact .inl (by rw [h]; exact beq_refl j)
   ·exact .inr h
theorem Eh (e : Nat->Nat) : ∀ (h : aL) (k : Nat) (b : jz),once (h.map fun x=>e x.1) = true->aq h k = some b->look (h.map fun x=>(e x.1,x.1)) (e k) = some k
 | [],k,b,_,h=>by cases h
 | (j,c) :: r,k,b,ho,h=>by
  simp only [map_cons,once] at ho
  split at ho
  ·cases ho
  ·rename_i hm
   simp only [map_cons,look,aq] at h ⊢
   by_cases hj : beq j k = true
   ·simp_all
   ·rw [if_neg hj] at h
    rw [if_neg,Eh e r k b ho h]
    intro he
    have hin : k ∈ r.map (·.1):=jH r k b h
    obtain ⟨x,hx,rfl⟩:=List.mem_map.1 hin
    have : mem (r.map fun x=>e x.1) (e j) = true:=FO.2 (by
     rw [eq_of_beq_eq_true he]
     exact List.mem_map.2 ⟨x,hx,rfl⟩)
    grind
theorem wD : ∀ (d hp : aL) (i : Nat),aq (ij d hp) i = match look d i with
  | some b=>some b
  | none=>aq hp i
 | [],_,_=>rfl
 | (j,b) :: r,hp,i=>by
  simp only [ij,look]
  rw [bG]
  by_cases hj : beq j i = true
  ·simp_all
  ·rw [if_neg hj,if_neg (fun e=>hj (by rw [e]; exact beq_refl j)),wD r hp i]
theorem vP : ∀ {L : List Nat} {i k : Nat},idxOf L i = some k->k < L.length /\ L.getD k 0 = i
 | [],_,_,h=>by cases h
 | j :: r,i,k,h=>by
  simp only [idxOf] at h
  split at h
  ·rename_i hj; cases h; exact ⟨by simp,by rw [eq_of_beq_eq_true hj]; rfl⟩
  ·split at h
   ·rename_i k' hk
    cases h
    obtain ⟨h1,h2⟩:=vP hk
    grind
   ·cases h
theorem zO : ∀ {L : List Nat} {i : Nat},i ∈ L->∃ k,idxOf L i = some k
 | j :: r,i,h=>by
  simp only [idxOf]
  by_cases hj : beq i j = true
  ·simp_all
  ·rw [if_neg hj]
   rcases List.mem_cons.1 h with rfl | h
   ·simp_all
   ·obtain ⟨k,hk⟩:=zO h
    grind
theorem pJ : ∀ (r l : List Nat),l.Nodup->(sw l r).Nodup
 | [],l,h=>h
 | i :: r,l,h=>by
  simp only [sw]
  split
  ·exact pJ r l h
  ·rename_i hm
   refine pJ r _ (List.nodup_append.2 ⟨h,by simp,fun a ha b hb=>?_⟩)
   simp only [mem_cons,List.not_mem_nil,or_false] at hb
   subst hb
   rintro rfl
   rw [FO.2 ha] at hm; cases hm
theorem uj {hp : aL} : ∀ (k : Nat) (l : List Nat),l.Nodup->(lE hp k l).Nodup
 | 0,_,h=>h
 | k + 1,l,h=>uj k _ (pJ _ _ h)
theorem Et (hp : aL) (l : List V) : (reach hp l).Nodup:=uj _ _ (pJ _ _ List.nodup_nil)
theorem Cx {hp : aL} {L : List Nat} : ∀ (R : List Nat) (k0 k : Nat),aq (sF hp L k0 R) k = if k0 <= k /\ k - k0 < R.length then (aq hp (R.getD (k - k0) 0)).map fun b=>B8 (oF (GM hp L) b) else none
 | [],k0,k=>by simp [sF,aq,look]
 | i :: R,k0,k=>by
  have ih:=Cx (hp:=hp) (L:=L) R (k0 + 1) k
  simp only [sF]
  by_cases hk : k = k0
  ·subst hk
   rw [if_pos (by simp),Nat.sub_self]
   have ih0 : aq (sF hp L (k + 1) R) k = none:=by rw [ih,if_neg (by omega)]
   simp only [List.getD_cons_zero]
   cases hb : aq hp i with
   | none=>exact ih0
   | some b =>
    simp only [aq,look]
    rw [if_pos (beq_refl k)]; rfl
  ·have hne : ¬ (beq k0 k = true):=fun e=>hk (eq_of_beq_eq_true e).symm
   have step : aq (match aq hp i with
     | some b=>(k0,B8 (oF (GM hp L) b)) :: sF hp L (k0 + 1) R
     | none=>sF hp L (k0 + 1) R) k = aq (sF hp L (k0 + 1) R) k:=by
    cases aq hp i with
    | none=>rfl
    | some b=>simp only [aq,look]; rw [if_neg hne]
   grind
section
variable {P : Program} {C : Ctx} {G : GE} {fr : List V} {ρ : Operand->Value} {tm : Array Value}
theorem Ov (ρ : Nat->Nat->Option (Nat × Nat)) (b : jz) (m : Nat) : (B8 (oF ρ b)).im m ↔ b.im m:=by
 cases b <;> exact Iff.rfl
def sD (G : GE) (L : List Nat) : GE:=yd G.w (fun k=>G.β (L.getD k 0)) (fun k=>G.σ (L.getD k 0)) (sF G.hp L 0 L) G.im
theorem LC {L N : List Nat} {s k : Nat} (h : k < L.length) : lS L N s k = L.getD k 0:=by
 unfold lS
 have : blt k L.length = true:=Nat.ble_eq_true_of_le h
 rw [this]
theorem xQ {L : List Nat} {k : Nat} {b1 : jz} (h : aq (sD G L).hp k = some b1) : k < L.length /\ ∃ b,aq G.hp (L.getD k 0) = some b /\ b1 = B8 (oF (GM G.hp L) b):=by
 have h' : aq (sF G.hp L 0 L) k = some b1:=h
 rw [Cx] at h'
 split at h'
 ·rename_i hk
  obtain ⟨b,e1,e2⟩:=Option.map_eq_some_iff.1 h'
  grind
 ·cases h'
theorem H7 {L : List Nat} {k : Nat} {b : jz} (hk : k < L.length) (h : aq G.hp (L.getD k 0) = some b) : aq (sD G L).hp k = some (B8 (oF (GM G.hp L) b)):=by
 show aq (sF G.hp L 0 L) k = _
 rw [Cx,if_pos ⟨Nat.zero_le _,by simpa using hk⟩,Nat.sub_zero,h]; rfl
theorem zn (L N : List Nat) (s : Nat) : O3 G (sD G L) (lS L N s):=by
 refine ⟨rfl,rfl,fun _=>Iff.rfl,fun _ _=>Iff.rfl,fun k blk h=>?_⟩
 obtain ⟨hk,b,h1,rfl⟩:=xQ h
 rw [LC hk]
 exact ⟨b,h1,rfl,fun m=>Ov _ _ _⟩
theorem HK (L : List Nat) : Mv (GM G.hp L) G (sD G L):=by
 refine ⟨(zn L [] 0).GM,fun id ver j u blk hρ hb=>?_⟩
 unfold GM at hρ
 split at hρ
 ·rename_i k v hk hv
  cases hρ
  obtain ⟨hlt,hget⟩:=vP hk
  have hb' : aq G.hp (L.getD j 0) = some blk:=by rw [hget]; exact hb
  refine ⟨_,H7 hlt hb',?_⟩
  have hβ : (sD G L).β j = G.β id:=by show G.β (L.getD j 0) = _; rw [hget]
  have hσ : (sD G L).σ j = G.σ id:=by show G.σ (L.getD j 0) = _; rw [hget]
  unfold Qp at hv
  rw [hb] at hv
  cases blk with
  | cell t v z=>exact ⟨rfl,hβ⟩
  | map k v l=>exact ⟨rfl,rfl,hβ⟩
  | buf t l c z =>
   simp only at hv
   split at hv
   ·rename_i hvc
    cases hv
    exact ⟨fun _=>le_refl _,fun _ _=>⟨eq_of_beq_eq_true hvc,rfl,hβ,hσ,le_refl _⟩⟩
   ·cases hv
 ·cases hρ
theorem GL {L : List Nat} (h : L.Nodup) {k k' : Nat} (hk : k < L.length) (hk' : k' < L.length) (e : L.getD k 0 = L.getD k' 0) : k = k':=by
 rw [List.getD_eq_getElem?_getD,List.getD_eq_getElem?_getD,List.getElem?_eq_getElem hk,List.getElem?_eq_getElem hk'] at e
 exact (List.getElem_inj h).1 (by simpa using e)
theorem OB (hR : cK G) {L : List Nat} (hL : L.Nodup) : cK (sD G L):=by
 refine ⟨hR.glob.ext (zn (G:=G) L [] 0).GM,fun k b1 h=>?_,fun k k' b1 b1' b h h' hβ hβ'=>?_,fun b hn=>.inr hn,le_refl _⟩
 ·obtain ⟨hk,b,h1,rfl⟩:=xQ h
  have hb:=hR.blk _ _ h1
  have hM:=HK (G:=G) L
  cases b with
  | cell t v z =>
   obtain ⟨x,arr,ty,g1,g2,g3⟩:=hb
   exact ⟨x,arr,ty,g1,g2,g3.i7 hM⟩
  | buf t l ver z =>
   rcases hb with ⟨x,arr,ty,css,cap,rest,g1,g2,g3,g4,g5,g6,g7,g8⟩ | ⟨g1,g2,g3,g4⟩
   ·exact .inl ⟨x,arr,ty,css,cap,rest,g1,g2,g3,g4.mono fun _ _ h=>h.ext hM.env,g5,g6,g7,g8⟩
   ·exact .inr ⟨g1,g2,g3.ext hM.env,g4⟩
  | map k v l =>
   obtain ⟨x,es,clock,g1,g2,g3,g4⟩:=hb
   exact ⟨x,es,clock,g1,g2,g3.mono fun _ _ h=>⟨h.1.ext hM.env,h.2.ext hM.env⟩,g4⟩
 ·obtain ⟨hk,c,h1,_⟩:=xQ h
  obtain ⟨hk',c',h1',_⟩:=xQ h'
  exact GL hL hk hk' (hR.inj _ _ _ _ _ h1 h1' hβ hβ')
theorem g9.OZ : ∀ {l : List V} {m : List Value},g9 G tm l m->g9 G #[] (l.map Bx.fQ) m
 | [],[],h=>h
 | _ :: _,_ :: _,h=>by simp only [g9,map_cons] at h ⊢; exact ⟨h.1.fQ,h.2.OZ⟩
 | [],_ :: _,h=>by simp [g9] at h
 | _ :: _,[],h=>by simp [g9] at h
theorem Ou {hp : aL} {L N : List Nat} {s i ver j u : Nat} (h : CM hp L N s i ver = some (j,u)) : j = lS L N s i /\ u = (match blt i L.length with
  | true=>zd hp (L.getD i 0) ver
  | false=>ver):=by
 unfold CM at h
 unfold lS
 cases hb : blt i L.length with
 | true=>rw [hb] at h; cases h; exact ⟨rfl,rfl⟩
 | false =>
  rw [hb] at h
  simp only at h ⊢
  split at h
  ·rename_i k hk; cases h; exact ⟨rfl,rfl⟩
  ·cases h
theorem NB (hp : aL) (L N : List Nat) (s k : Nat) (b : jz) (m : Nat) : b.im m ↔ (mP hp L N s k b).im m:=by
 cases b with
 | buf t l v z=>unfold mP; cases blt k L.length <;> exact Iff.rfl
 | cell _ _ _=>exact Iff.rfl
 | map _ _ _=>exact Iff.rfl
def gj {α : Type} (h : aL) (e : Nat->Nat) (new FM : Nat->α) (i : Nat) : α:=match look (h.map fun x=>(e x.1,x.1)) i with
 | some k=>new k
 | none=>FM i
theorem Ow (hR : cK G) {L : List Nat} {s : Nat} {w' : World} {β2 : Nat->Option Nat} {σ2 : Nat->Value} {h2 : aL} (ht : Tr (sD G L) ((sD G L).at w' β2 σ2 h2)) (hL : L.Nodup)
  (hf : kh G.hp (uH L (AF G.hp L s h2)) = true) (ho : once ((AF G.hp L s h2).map (·.1)) = true) :
  (Ext ((sD G L).at w' β2 σ2 h2).env (GE.env ⟨w',gj h2 (lS L (qv L h2) s) β2 G.β,gj h2 (lS L (qv L h2) s) σ2 G.σ,ij (AF G.hp L s h2) G.hp,G.n0,G.Bo,G.I0⟩) ->
   Mv (CM G.hp L (qv L h2) s) ((sD G L).at w' β2 σ2 h2) ⟨w',gj h2 (lS L (qv L h2) s) β2 G.β,gj h2 (lS L (qv L h2) s) σ2 G.σ,ij (AF G.hp L s h2) G.hp,G.n0,G.Bo,G.I0⟩) /\
  Rw G (sD G L) ((sD G L).at w' β2 σ2 h2) ⟨w',gj h2 (lS L (qv L h2) s) β2 G.β,gj h2 (lS L (qv L h2) s) σ2 G.σ,ij (AF G.hp L s h2) G.hp,G.n0,G.Bo,G.I0⟩ (lS L (qv L h2) s):=by
 unfold AF at hf ho ⊢
 generalize qv L h2 = N at *
 have ho' : once (h2.map fun x=>lS L N s x.1) = true:=by
  rw [map_map] at ho; exact ho
 have hat : ∀ i,aq (ij (h2.map fun x=>(lS L N s x.1,mP G.hp L N s x.1 x.2)) G.hp) i = match look (h2.map fun x=>(lS L N s x.1,mP G.hp L N s x.1 x.2)) i with
  | some b=>some b
  | none=>aq G.hp i:=wD _ _
 have hkey : ∀ k b,aq h2 k = some b->look (h2.map fun x=>(lS L N s x.1,x.1)) (lS L N s k) = some k:=fun k b h=>Eh _ h2 k b ho' h
 have hd : ∀ k b,aq h2 k = some b->look (h2.map fun x=>(lS L N s x.1,mP G.hp L N s x.1 x.2)) (lS L N s k) = some (mP G.hp L N s k b):=fun k b h=>by
  have h1:=hkey k b h
  cases hl : look (h2.map fun x=>(lS L N s x.1,mP G.hp L N s x.1 x.2)) (lS L N s k) with
  | none =>
   exfalso
   have:=mn _ _ hl
   apply this
   rw [map_map]
   have:=jH _ _ _ h
   obtain ⟨x,hx,hxk⟩:=List.mem_map.1 this
   exact List.mem_map.2 ⟨x,hx,by simp [hxk]⟩
  | some b' =>
   obtain ⟨k',b2,q1,q2,q3,q4⟩:=qh (lS L N s) (fun k b=>mP G.hp L N s k b) h2 _ _ hl
   rw [h1] at q1; cases q1
   rw [h] at q3; cases q3
   rw [q4]
 have hM : Ext ((sD G L).at w' β2 σ2 h2).env (GE.env ⟨w',gj h2 (lS L N s) β2 G.β,gj h2 (lS L N s) σ2 G.σ,ij (h2.map fun x=>(lS L N s x.1,mP G.hp L N s x.1 x.2)) G.hp,G.n0,G.Bo,G.I0⟩) ->
   Mv (CM G.hp L N s) ((sD G L).at w' β2 σ2 h2) ⟨w',gj h2 (lS L N s) β2 G.β,gj h2 (lS L N s) σ2 G.σ,ij (h2.map fun x=>(lS L N s x.1,mP G.hp L N s x.1 x.2)) G.hp,G.n0,G.Bo,G.I0⟩:=fun hE=>by
  refine ⟨hE,fun id ver j u blk hρ hb=>?_⟩
  have hb' : aq h2 id = some blk:=hb
  obtain ⟨rfl,rfl⟩:=Ou hρ
  refine ⟨mP G.hp L N s id blk,?_,?_⟩
  ·show aq (ij _ G.hp) _ = _
   rw [hat,hd id blk hb']
  ·have hβ : gj h2 (lS L N s) β2 G.β (lS L N s id) = β2 id:=by unfold gj; rw [hkey id blk hb']
   have hσ : gj h2 (lS L N s) σ2 G.σ (lS L N s id) = σ2 id:=by unfold gj; rw [hkey id blk hb']
   cases blk with
   | cell t v z=>exact ⟨rfl,hβ⟩
   | map k v l=>exact ⟨rfl,rfl,hβ⟩
   | buf t l c z =>
    unfold mP
    cases hlt : blt id L.length with
    | false=>exact ⟨fun h=>h,fun _ h=>⟨h,rfl,hβ,hσ,le_refl _⟩⟩
    | true =>
     simp only
     unfold zd
     split
     ·exact ⟨fun h=>by omega,fun _ h=>⟨by omega,rfl,hβ,hσ,le_refl _⟩⟩
     ·exact ⟨fun h=>h,fun _ h=>⟨h,rfl,hβ,hσ,le_refl _⟩⟩
 refine ⟨hM,rfl,rfl,rfl,rfl,rfl,rfl,rfl,fun i blk' hi=>?_,fun i blk hi=>?_⟩
 ·have hi':=hi
  rw [hat] at hi'
  cases hl : look (h2.map fun x=>(lS L N s x.1,mP G.hp L N s x.1 x.2)) i with
  | some b' =>
   rw [hl] at hi'
   simp only [Option.some.injEq] at hi'
   subst hi'
   obtain ⟨k,b2,q1,q2,q3,q4⟩:=qh (lS L N s) (fun k b=>mP G.hp L N s k b) h2 _ _ hl
   left
   refine ⟨k,b2,q2,q3,?_,?_,fun m=>by rw [q4]; exact NB _ _ _ _ _ _ _,fun hE hB=>?_⟩
   ·show gj h2 (lS L N s) β2 G.β i = _; unfold gj; rw [q1]; rfl
   ·show gj h2 (lS L N s) σ2 G.σ i = _; unfold gj; rw [q1]; rfl
   ·have hβ : gj h2 (lS L N s) β2 G.β i = β2 k:=by unfold gj; rw [q1]
    have hσ : gj h2 (lS L N s) σ2 G.σ i = σ2 k:=by unfold gj; rw [q1]
    rw [q4]
    cases b2 with
    | cell t v z =>
     obtain ⟨x,arr,ty,g1,g2,g3⟩:=hB
     exact ⟨x,arr,ty,hβ.trans g1,g2,g3.i7 (hM hE)⟩
    | map k v l =>
     obtain ⟨x,es,clock,g1,g2,g3,g4⟩:=hB
     exact ⟨x,es,clock,hβ.trans g1,g2,g3.mono fun _ _ h=>⟨h.1.ext hE,h.2.ext hE⟩,g4⟩
    | buf t l ver z =>
     have key : ∀ v',qp ⟨w',gj h2 (lS L N s) β2 G.β,gj h2 (lS L N s) σ2 G.σ,ij (h2.map fun x=>(lS L N s x.1,mP G.hp L N s x.1 x.2)) G.hp,G.n0,G.Bo,G.I0⟩ i (.buf t l v' z):=fun v'=>by
      rcases hB with ⟨x,arr,ty,css,cap,rest,g1,g2,g3,g4,g5,g6,g7,g8⟩ | ⟨g1,g2,g3,g4⟩
      ·exact .inl ⟨x,arr,ty,css,cap,rest,hβ.trans g1,hσ.trans g2,g3,g4.mono fun _ _ h=>h.ext hE,g5,g6,g7,g8⟩
      ·refine .inr ⟨hβ.trans g1,g2,?_,?_⟩
       ·show ak _ _ _ [gj h2 (lS L N s) σ2 G.σ i]
        rw [hσ]; exact g3.ext hE
       ·show ∃ a n,gj h2 (lS L N s) σ2 G.σ i = _
        rw [hσ]; exact g4
     unfold mP
     cases blt k L.length <;> exact key _
  | none =>
   rw [hl] at hi'
   right
   have hnk : look (h2.map fun x=>(lS L N s x.1,x.1)) i = none:=by
    cases hk : look (h2.map fun x=>(lS L N s x.1,x.1)) i with
    | none=>rfl
    | some k =>
     exfalso
     have:=jH _ _ _ hk
     apply mn _ _ hl
     rw [map_map] at this ⊢
     exact this
   refine ⟨hi',?_,?_,fun k blk hk he=>?_⟩
   ·show gj h2 (lS L N s) β2 G.β i = _; unfold gj; rw [hnk]
   ·show gj h2 (lS L N s) σ2 G.σ i = _; unfold gj; rw [hnk]
   ·obtain ⟨blk2,r1,_⟩:=ht.jP.blk k 0 k 0 blk rfl hk
    have:=hkey k blk2 r1
    rw [he,hnk] at this; cases this
 ·by_cases hiL : i ∈ L
  ·obtain ⟨k,hk⟩:=zO hiL
   obtain ⟨hlt,hget⟩:=vP hk
   have he : lS L N s k = i:=by rw [LC hlt,hget]
   have hb1:=H7 (G:=G) hlt (by rw [hget]; exact hi)
   obtain ⟨blk2,r1,_⟩:=ht.jP.blk k 0 k 0 _ rfl hb1
   have r1' : aq h2 k = some blk2:=r1
   have hdk:=hd k blk2 r1'
   rw [he] at hdk
   refine ⟨mP G.hp L N s k blk2,by show aq (ij _ G.hp) i = _; rw [hat,hdk],fun v=>?_⟩
   obtain ⟨blk2',r2,r3⟩:=ht.jP.blk k v k v _ rfl hb1
   rw [r1] at r2; cases r2
   have hβ : gj h2 (lS L N s) β2 G.β i = β2 k:=by
    have:=hkey k blk2 r1'
    rw [he] at this
    unfold gj; rw [this]
   have hβ1 : (sD G L).β k = G.β i:=by show G.β (L.getD k 0) = _; rw [hget]
   cases blk with
   | cell t c z=>cases blk2 with
    | cell t2 c2 z2=>exact ⟨r3.1,hβ.trans (r3.2.trans hβ1)⟩
    | buf _ _ _ _=>exact r3.elim
    | map _ _ _=>exact r3.elim
   | map a b l=>cases blk2 with
    | map a2 b2 l2=>exact ⟨r3.1,r3.2.1,hβ.trans (r3.2.2.trans hβ1)⟩
    | cell _ _ _=>exact r3.elim
    | buf _ _ _ _=>exact r3.elim
   | buf t l c z=>cases blk2 with
    | buf t2 l2 c2 z2 =>
     have hblt : blt k L.length = true:=Nat.ble_eq_true_of_le hlt
     have hv : mP G.hp L N s k (.buf t2 l2 c2 z2) = .buf t2 l2 (c2 + c + 1) z2:=by
      unfold mP
      rw [hblt]
      simp only
      unfold zd
      rw [hget,hi]
     rw [hv]
     exact ⟨fun h=>by omega,fun h h'=>by omega⟩
    | cell _ _ _=>exact r3.elim
    | map _ _ _=>exact r3.elim
  ·have hnd : look (h2.map fun x=>(lS L N s x.1,mP G.hp L N s x.1 x.2)) i = none:=by
    cases hl : look (h2.map fun x=>(lS L N s x.1,mP G.hp L N s x.1 x.2)) i with
    | none=>rfl
    | some b' =>
     exfalso
     have hm:=jH _ _ _ hl
     have hfree : ∀ (l : List Nat),kh G.hp l = true->∀ j ∈ l,free G.hp j = true:=by
      intro l
      induction l with
      | nil=>intro _ j hj; cases hj
      | cons a r ih =>
       intro h j hj
       simp only [kh,and_eq_true] at h
       rcases List.mem_cons.1 hj with rfl | hj
       ·exact h.1
       ·exact ih h.2 j hj
     have hmem : mem L i = false:=by
      cases hq : mem L i with
      | false=>rfl
      | true=>exact absurd (FO.1 hq) hiL
     have:=hfree _ hf i (by
      simp only [uH,List.mem_filter]
      exact ⟨hm,by rw [hmem]; rfl⟩)
     rw [md this] at hi; cases hi
   have hnk : look (h2.map fun x=>(lS L N s x.1,x.1)) i = none:=by
    cases hk : look (h2.map fun x=>(lS L N s x.1,x.1)) i with
    | none=>rfl
    | some k =>
     exfalso
     have:=jH _ _ _ hk
     apply mn _ _ hnd
     rw [map_map] at this ⊢
     exact this
   refine ⟨blk,by show aq (ij _ G.hp) i = _; rw [hat,hnd]; exact hi,fun v=>fP.refl _ _ _ _ _ ?_ ?_⟩
   ·show gj h2 (lS L N s) β2 G.β i = _; unfold gj; rw [hnk]
   ·show gj h2 (lS L N s) σ2 G.σ i = _; unfold gj; rw [hnk]
theorem NS {a : Act} (hR : cK G) {o : Oper} {f : Nat} {h : List V->aL->Option Sh} (hS : Kd P f h /\ mW P f) {dst : Option Nat} {args : List V} {s : Sh} {L : List Nat} (hv : oL C G.hp dst h args = some (.sh s L)) {y : s.Y} (hy : s.o = some y)
  (hz : (kh G.hp (uH L (s.f y).2) && once ((s.f y).2.map (·.1))) = true) {vals : Array Value} (ha : g9 G tm args vals.toList)
  (hrun : (execOp a.eval o).run P G.w = (callFunc f vals).run P G.w) {Q : Exit->Act->World->Prop} : oy P G a o (s.f y).1 (ij (s.f y).2 G.hp) Q:=by
 obtain ⟨pv,fn,n1,n2,n3⟩:=hS
 unfold oL at hv
 simp only at hv
 split at hv
 ·rename_i sh hsh
  simp only [Option.some.injEq,Out.sh.injEq] at hv
  obtain ⟨rfl,rfl⟩:=hv
  simp only at hy hz ⊢
  rw [and_eq_true] at hz
  have hL:=Et G.hp args
  have n2' : ¬ fn.name = "runtime.NumGoroutine" := by simpa using n2
  have n3' : ¬ fn.body = none:=by intro e; rw [e] at n3; simp at n3
  have h2 : (callFunc f vals).run P G.w = .ok (.enter f vals) G.w:=by simp [callFunc,n1,n2',n3']
  have hcall:=pv _ _ sh y hsh hy G.w (fun k=>G.β ((reach G.hp args).getD k 0)) (fun k=>G.σ ((reach G.hp args).getD k 0)) G.im vals ⟨fun b m h=>h.2.1,hR.glob⟩ (OB hR hL) (g9.i7 (HK (reach G.hp args)) _ _ ha.OZ)
  unfold oy Oper.wp
  rw [hrun,h2]
  simp only [Oper.upon_enter]
  refine hcall.mono fun e w' ⟨v,β2,σ2,he,t1,t2,t3⟩=>?_
  subst he
  obtain ⟨hM,hB⟩:=Ow hR t1 hL hz.1 hz.2
  obtain ⟨l1,l2,l3⟩:=lift hR (zn _ _ _) t2 t1 hB
  exact ⟨v,_,_,rfl,l2,l3,(bA.i7 (hM l1) _ _ t3).fQ⟩
 ·cases hv
theorem Nl {a : Act} (hC : il P C) (hR : cK G) (hL : tx G a.tmps fr a.eval) {g : Option Gd} (hg : Kc g a.tmps) (o : Oper) {s : Sh} {L : List Nat} (hv : nR C g fr G.hp o.dst o.op = some (.sh s L)) {y : s.Y} (hy : s.o = some y)
  (hz : (kh G.hp (uH L (s.f y).2) && once ((s.f y).2.map (·.1))) = true) {Q : Exit->Act->World->Prop} : oy P G a o (s.f y).1 (ij (s.f y).2 G.hp) Q:=by
 obtain ⟨dst,op,type,pos,after,guard⟩:=o
 cases op <;> simp only [nR,reduceCtorEq] at hv
 case call c =>
  split at hv
  ·exfalso
   split at hv
   ·split at hv
    ·split at hv
     ·revert hv; unfold m7; repeat' split
      all_goals first | (simp [Aj]; done) | (intro h; cases h; done)
     ·cases hv
    ·cases hv
   ·cases hv
  ·exfalso
   split at hv
   ·split at hv
    ·revert hv; unfold w9; repeat' split
     all_goals first | (simp [Aj]; done) | (intro h; cases h; done)
    ·cases hv
   ·cases hv
  ·cases hv
  ·split at hv
   ·rename_i f' args htg
    split at hv
    ·split at hv <;> simp at hv
    ·split at hv
     ·rename_i h hsh
      obtain ⟨vals,h1,h2⟩:=tQ hC (fun x=>hL.un hg x) htg
      exact NS hR (hC.sh _ _ hsh) hv hy hz h1 (h2 dst type pos after guard)
     ·cases hv
   ·cases hv
 all_goals (exfalso; revert hv)
 all_goals (repeat' split)
 all_goals first | (simp [Aj]; done) | (intro h; cases h; done)
end
section
variable {P : Program} {C : Ctx} {G0 : GE} {S : St} {a : Act} {w : World} {β : Nat->Option Nat} {σ : Nat->Value}
def dP (G0 : GE) (S : St) (a : Act) (w : World) : Prop:=∃ β σ,Rel G0 S a w β σ
theorem Rel.look (h : Rel G0 S a w β σ) : tx (G0.at w β σ S.hp) a.tmps S.fr a.eval:=⟨h.ev,fun d=>rfl⟩
theorem qj (f : V->V) (hf : f .any = .any) : ∀ (l : List V) (i : Nat),nth (l.map f) i = f (nth l i)
 | [],_=>hf.symm
 | _ :: _,0=>rfl
 | _ :: l,i + 1=>by simpa [nth] using qj f hf l i
theorem pO (v : V) : ∀ (l : List V) (d i : Nat),nth (l.set d v) i = if d = i /\ i < l.length then v else nth l i
 | [],d,i=>by simp [nth]
 | _ :: _,0,0=>by simp [nth]
 | _ :: _,0,i + 1=>by simp [nth]
 | _ :: _,d + 1,0=>by simp [nth]
 | _ :: l,d + 1,i + 1=>by
  simp only [List.set_cons_succ,nth,List.length_cons,Nat.add_right_cancel_iff,Nat.add_lt_add_iff_right]
  exact pO v l d i
theorem Lj {G : GE} {tm : Array Value} {d : Nat} {y : Value} {v : V} {x : Value} (h : bA G tm v x) : bA G (tm.setIfInBounds d y) (oO d v) x:=by
 cases v with
 | opt d' w u =>
  simp only [oO]
  split
  ·exact .any
  ·rename_i hd
   have hne : d ≠ d':=fun e=>hd (by rw [e]; exact beq_refl d')
   simp only [bA] at h ⊢
   rw [Array.getElem?_setIfInBounds_ne hne]
   exact h
 | _=>simp only [oO,bA] at h ⊢ <;> exact h
theorem DK (fr : List V) (d : Option Nat) (v : V) : (kj fr d v).length = fr.length:=by
 cases d <;> simp [kj]
theorem Rel.next (h : Rel G0 S a w β σ) {w' : World} {β' : Nat->Option Nat} {σ' : Nat->Value} {hp' : aL} (t : Tr (G0.at w β σ S.hp) (G0.at w' β' σ' hp')) (hR : cK (G0.at w' β' σ' hp')) (dst : Option Nat) (v : V) (x : Value)
  (hx : ∀ d,dst = some d->bA (G0.at w' β' σ' hp') (a.put dst x).tmps v x) : Rel G0 ⟨kj S.fr dst v,hp'⟩ (a.put dst x) w' β' σ':=by
 refine ⟨h.tr.trans t,hR,?_,?_,fun i y hy=>?_⟩
 ·cases dst <;> exact h.defers
 ·rw [DK,<- h.size]; cases dst <;> simp [Act.put]
 ·cases dst with
  | none=>exact (h.fr i y hy).ext t.jP
  | some d =>
   simp only [kj]
   rw [pO,qj _ rfl]
   simp only [Act.put] at hy ⊢
   by_cases hdi : d = i
   ·subst hdi
    have hlt : d < a.tmps.size:=by
     grind
    rw [Array.getElem?_setIfInBounds_self_of_lt hlt] at hy
    cases hy
    rw [if_pos ⟨rfl,by simpa [<- h.size] using hlt⟩]
    exact hx d rfl
   ·rw [if_neg (fun e=>hdi e.1)]
    rw [Array.getElem?_setIfInBounds_ne hdi] at hy
    exact Lj ((h.fr i y hy).ext t.jP)
theorem Rel.put (h : Rel G0 S a w β σ) (dst : Option Nat) (v : V) (x : Value) (hx : ∀ d,dst = some d->bA (G0.at w β σ S.hp) (a.put dst x).tmps v x) : Rel G0 ⟨kj S.fr dst v,S.hp⟩ (a.put dst x) w β σ :=
 h.next (Tr.refl _) h.ok dst v x hx
theorem P3 {G : GE} {tm : Array Value} {g : Option Gd} {v : V} {x : Value} (hg : ∀ gd,g = some gd->tm[gd.d]? = some (.bool gd.want)) {tm' : Array Value} (h : bA G tm' v x) {C : Ctx} {ty : Nat} : bA G tm (tag g (ja C ty v)) x:=by
 cases g with
 | none=>exact h.ja
 | some gd =>
  simp only [tag,bA]
  exact ⟨fun _=>h.ja,fun e=>absurd (hg gd rfl) e⟩
theorem J5 {G : GE} {tm : Array Value} {gd : Gd} {v : V} (hg : tm[gd.d]? ≠ some (.bool gd.want)) : bA G tm (tag (some gd) v) undef:=by
 simp only [tag,bA]
 grind
theorem Cm {a : Act} {dst : Option Nat} {d : Nat} {x : Value} (h : dst ≠ some d) : (a.put dst x).tmps[d]? = a.tmps[d]?:=by
 cases dst with
 | none=>rfl
 | some e=>simp only [Act.put]; exact Array.getElem?_setIfInBounds_ne (fun e'=>h (by rw [e']))
theorem rA {α : Type} {g : Option Gd} {c : Prop} {i : Decidable c} {x y : α} (h : DG g c i (some x) = some y) (hb : ∀ gd,g = some gd->gd.b = true) : c /\ x = y:=by
 cases g with
 | none =>
  simp only [DG] at h
  split at h
  ·rename_i hc; exact ⟨hc,Option.some.inj h⟩
  ·cases h
 | some gd =>
  simp only [DG] at h
  split at h
  ·rename_i hc
   simp only [hb gd rfl,Bool.not_true,Bool.or_false,decide_eq_true_eq] at hc
   exact ⟨hc,Option.some.inj h⟩
  ·cases h
abbrev pr : List Nat->St->Option (List Nat × St):=fun wr S=>some (wr,S)
theorem OY (hC : il P C) (h : Rel G0 S a w β σ) {g : Option Gd} (hg : Kc g a.tmps) (hgb : ∀ gd,g = some gd->gd.b = true) (o : Oper) (hgd : ∀ gd,g = some gd->o.dst ≠ some gd.d) {wr : List Nat} {S' : St}
  (ht : T C g o S pr = some (wr,S')) {Q : Exit->Act->World->Prop} : o.wp P a w (fun a' w'=>dP G0 S' a' w') Q:=by
 have hg' : ∀ x gd,g = some gd->(a.put o.dst x).tmps[gd.d]? = some (.bool gd.want):=fun x gd e=>by rw [Cm (hgd gd e)]; exact hg gd e
 have fin : ∀ {v : V} {hp' : aL},oy P (G0.at w β σ S.hp) a o v hp' Q->S' = ⟨kj S.fr o.dst (tag g (ja C o.type v)),hp'⟩->o.wp P a w (fun a' w'=>dP G0 S' a' w') Q:=by
  rintro v hp' hd rfl
  refine Oper.wp_mono (fun a' w' hK=>?_) hd
  obtain ⟨x,β',σ',rfl,t1,t2,t3⟩:=hK
  exact ⟨β',σ',h.next t1 t2 o.dst _ x fun d _=>P3 (hg' x) t3⟩
 unfold T at ht
 cases hv : lZ C g S.fr S.hp o.op with
 | none =>
  rw [hv] at ht
  simp only at ht
  have hgt : AD g = some true \/ AD g = none:=by cases g with
   | none=>exact .inl rfl
   | some gd =>
    simp only [AD]
    split
    ·rw [hgb gd rfl]; exact .inl rfl
    ·exact .inr rfl
  rcases hgt with hgt | hgt
  rotate_left
  ·rw [hgt] at ht; cases ht
  rw [hgt] at ht
  simp only at ht
  cases he : nR C g S.fr S.hp o.dst o.op with
  | none=>rw [he] at ht; cases ht
  | some r =>
   rw [he] at ht
   cases r with
   | val c i v=>cases ht
   | new v=>cases ht
   | eff c i v hp wr' =>
    simp only at ht
    obtain ⟨hc,e⟩:=rA ht (fun _ e=>by cases e)
    cases e
    exact fin (MZ hC h.ok h.look hg o he hc).Sy rfl
   | call F x hp wr' =>
    simp only at ht
    obtain ⟨r,h1,h2⟩:=Option.bind_eq_some_iff.1 ht
    cases h2
    exact fin (IX hC h.ok h.look hg o he h1) rfl
   | sh s L =>
    simp only at ht
    obtain ⟨y,h1,h2⟩:=Option.bind_eq_some_iff.1 ht
    rw [s.ok] at h2
    split at h2
    ·rename_i hz
     cases h2
     exact fin (Nl hC h.ok h.look hg o he h1 hz) rfl
    ·cases h2
 | some r =>
  rw [hv] at ht
  cases r with
  | val c i v =>
   simp only at ht
   obtain ⟨hc,e⟩:=rA ht hgb
   cases e
   obtain ⟨x,r1,r2⟩:=Mp hC h.ok h.look hg o hv hc
   exact fin (CB h.ok r1 r2) rfl
  | call F x hp wr' =>
   simp only at ht
   have hr : ∃ r,F.run x = some r /\ S' = ⟨kj S.fr o.dst (tag g (ja C o.type (F.out r))),S.hp⟩:=by
    cases g with
    | none =>
     simp only [LX] at ht
     obtain ⟨r,h1,h2⟩:=Option.bind_eq_some_iff.1 ht
     cases h2; exact ⟨r,h1,rfl⟩
    | some gd =>
     simp only [LX,hgb gd rfl,if_true] at ht
     obtain ⟨r,h1,h2⟩:=Option.bind_eq_some_iff.1 ht
     cases h2; exact ⟨r,h1,rfl⟩
   obtain ⟨r,hr,e⟩:=hr
   exact fin (IG hC h.ok h.look hg o hv hr) e
  | new v =>
   cases ht
   exact fin (Lv hC h.ok h.look hg o hv).Sy rfl
  | eff c i v hp wr'=>cases ht
  | sh s L=>cases ht
theorem Sj (h : Rel G0 S a w β σ) {gd : Gd} (hn : a.tmps[gd.d]? ≠ some (.bool gd.want)) (hs : gd.sure = true->gd.b = false) (o : Oper) (hgd : o.dst ≠ some gd.d) {wr : List Nat} {S' : St} (ht : T C (some gd) o S pr = some (wr,S')) : dP G0 S' (a.put o.dst undef) w:=by
 have hn' : (a.put o.dst undef).tmps[gd.d]? ≠ some (.bool gd.want):=by rw [Cm hgd]; exact hn
 have fin : ∀ {v : V},S' = ⟨kj S.fr o.dst (tag (some gd) v),S.hp⟩->dP G0 S' (a.put o.dst undef) w:=by
  rintro v rfl
  exact ⟨β,σ,h.put o.dst _ undef fun d _=>J5 hn'⟩
 unfold T at ht
 cases hv : lZ C (some gd) S.fr S.hp o.op with
 | none =>
  rw [hv] at ht
  simp only [AD] at ht
  cases hsu : gd.sure with
  | true =>
   rw [hsu,hs hsu] at ht
   cases ht
   exact fin rfl
  | false=>rw [hsu] at ht; cases ht
 | some r =>
  rw [hv] at ht
  cases r with
  | val c i v =>
   simp only [DG] at ht
   split at ht
   ·cases ht; exact fin rfl
   ·cases ht
  | call F x hp wr' =>
   simp only at ht
   obtain ⟨r,_,h2⟩:=Option.bind_eq_some_iff.1 ht
   cases h2
   exact fin rfl
  | new v=>cases ht; exact fin rfl
  | eff c i v hp wr'=>cases ht
  | sh s L=>cases ht
def og (C : Ctx) (ops : Array Oper) (o : Oper) (S : St) : Option (List Nat × St) :=
 match guardOf ops S.fr o with
 | none=>none
 | some g=>T C g o S pr
theorem wP (hC : il P C) (h : dP G0 S a w) {ops : Array Oper} (o : Oper) {wr : List Nat} {S' : St} (ht : og C ops o S = some (wr,S')) {Q : Exit->Act->World->Prop} :
  if Region.wanted o (yielded ops a.tmps) then o.wp P a w (fun a' w'=>dP G0 S' a' w') Q else dP G0 S' (a.put o.dst undef) w:=by
 obtain ⟨β,σ,h⟩:=h
 unfold og at ht
 cases hgo : guardOf ops S.fr o with
 | none=>rw [hgo] at ht; cases ht
 | some g =>
  rw [hgo] at ht
  simp only at ht
  unfold guardOf at hgo
  cases hgd : o.guard with
  | none =>
   rw [hgd] at hgo
   cases hgo
   rw [if_pos (by simp [Region.wanted,hgd])]
   exact OY hC h (fun _ e=>by cases e) (fun _ e=>by cases e) o (fun _ e=>by cases e) ht
  | some jw =>
   obtain ⟨j,wt⟩:=jw
   rw [hgd] at hgo
   simp only at hgo
   cases hd : (ops[j]?).bind (·.dst) with
   | none=>rw [hd] at hgo; cases hgo
   | some d =>
    rw [hd] at hgo
    simp only at hgo
    split at hgo
    ·cases hgo
    ·rename_i hne
     have key : ∀ b sure,g = some ⟨d,wt,(b == wt),sure⟩->(a.tmps[d]? = some (.bool wt)->b = wt)->(sure = true->a.tmps[d]? ≠ some (.bool wt)->b ≠ wt) ->
       if Region.wanted o (yielded ops a.tmps) then o.wp P a w (fun a' w'=>dP G0 S' a' w') Q else dP G0 S' (a.put o.dst undef) w:=by
      intro b sure hg hb hs
      subst hg
      by_cases hw : a.tmps[d]? = some (.bool wt)
      ·rw [if_pos (by simp [Region.wanted,hgd,yielded,hd,hw])]
       exact OY hC h (fun gd e=>by cases e; exact hw) (fun gd e=>by cases e; simp [hb hw]) o (fun gd e=>by cases e; exact hne) ht
      ·rw [if_neg]
       ·exact Sj h (gd:=⟨d,wt,(b == wt),sure⟩) hw (fun e=>by simpa using hs e hw) o hne ht
       ·simp only [Region.wanted,hgd,yielded,hd,bind_some]
        cases hx : a.tmps[d]? with
        | none=>simp
        | some v =>
         cases v <;> simp
         rename_i b'
         intro e
         exact hw (by rw [hx,e])
     have hlt : ∀ v,a.tmps[d]? = some v->bA (G0.at w β σ S.hp) a.tmps (nth S.fr d) v:=fun v hv=>h.fr d v hv
     split at hgo
     ·rename_i b heq
      refine key b true (Option.some.inj hgo).symm (fun hw=>?_) fun _ hw e=>?_
      ·have:=hlt _ hw
       rw [heq] at this
       have:=this.bool
       simpa using this.symm
      ·have hlt2 : d < a.tmps.size:=by
        rcases Nat.lt_or_ge d a.tmps.size with h' | h'
        ·exact h'
        ·rw [rO (by rw [<- h.size]; exact h')] at heq; cases heq
       have hx:=Array.getElem?_eq_getElem hlt2
       have:=hlt _ hx
       rw [heq] at this
       have:=this.bool
       rw [this,e] at hx
       exact hw hx
     ·rename_i d' w' b heq
      refine key b false (Option.some.inj hgo).symm (fun hw=>?_) fun e=>by cases e
      have:=hlt _ hw
      rw [heq] at this
      simp only [bA] at this
      by_cases hc : a.tmps[d']? = some (.bool w')
      ·have:=bA.bool (G:=G0.at w β σ S.hp) (tm:=#[]) (by simpa only [bA] using this.1 hc)
       simpa using this.symm
      ·have:=this.2 hc
       simp [undef] at this
     ·cases hgo
end
def ur (i : Nat) (o : Oper) : Bool:=o.after.toList.all fun e=>!Region.binds .any e || blt e.on i
def sa (o : Oper) : Bool:=match o.guard with
 | none=>true
 | some (j,_)=>o.after.toList.any fun e=>Region.binds .any e && beq e.on j
def tP (ops : Array Oper) (ms : List Nat) (i : Nat) (oi : Oper) : Nat->List Oper->Bool
 | _,[]=>true
 | x,ox :: r=>(Nat.ble i x || (ms.getD i 0).testBit x || ox.apart ops oi) && tP ops ms i oi (x + 1) r
def yu (i : Nat) (oi : Oper) : Nat->List Oper->Bool
 | _,[]=>true
 | x,ox :: r=>(beq x i || oi.dst.isNone || decide (ox.dst ≠ oi.dst)) && yu i oi (x + 1) r
def E5 (ops : Array Oper) (ms : List Nat) : Nat->List Oper->Bool
 | _,[]=>true
 | i,o :: r=>ur i o && sa o && tP ops ms i o 0 ops.toList && yu i o 0 ops.toList && E5 ops ms (i + 1) r
def Cy (ops : Array Oper) : Bool:=Region.noSelect ops && E5 ops (uF ops.toList []) 0 ops.toList
inductive FL (ops : Array Oper) : Nat->Nat->Prop
 | edge {j : Nat} {o : Oper} {e : Edge} (ho : ops[j]? = some o) (he : e ∈ o.after) (hb : Region.binds .any e = true) : FL ops e.on j
 | step {x j : Nat} {o : Oper} {e : Edge} (ho : ops[j]? = some o) (he : e ∈ o.after) (hb : Region.binds .any e = true) (h : FL ops x e.on) : FL ops x j
theorem wF {ops : Array Oper} {acc : List Nat} {j : Nat} {o : Oper} (ho : ops[j]? = some o) (hacc : ∀ k m,acc[k]? = some m->∀ x,m.testBit x = true->FL ops x k) :
  ∀ (es : List Edge),(∀ e ∈ es,e ∈ o.after)->∀ m0,(∀ x,m0.testBit x = true->FL ops x j)->∀ x,(es.foldl (fun m e=>if Region.binds .any e then m ||| 2 ^ e.on ||| acc.getD e.on 0 else m) m0).testBit x = true->FL ops x j
 | [],_,_,h0,x,hx=>h0 x hx
 | e :: es,hes,m0,h0,x,hx=>by
  simp only [List.foldl_cons] at hx
  refine wF ho hacc es (fun e' he'=>hes e' (mem_cons_of_mem _ he')) _ (fun y hy=>?_) x hx
  split at hy
  ·rename_i hb
   simp only [Nat.testBit_or,or_eq_true] at hy
   rcases hy with (hy | hy) | hy
   ·exact h0 y hy
   ·have : y = e.on:=by
     grind
    subst this
    exact .edge ho (hes e (by simp)) hb
   ·cases hk : acc[e.on]? with
    | none=>simp [List.getD,hk] at hy
    | some m=>exact .step ho (hes e (by simp)) hb (hacc _ _ hk y (by simpa [List.getD,hk] using hy))
  ·exact h0 y hy
theorem tH {ops : Array Oper} : ∀ (l : List Oper) (acc : List Nat),(∀ k,l[k]? = ops[acc.length + k]?)->(∀ k m,acc[k]? = some m->∀ x,m.testBit x = true->FL ops x k) ->
  ∀ k m,(uF l acc)[k]? = some m->∀ x,m.testBit x = true->FL ops x k
 | [],acc,_,hacc,k,m,hk,x,hx=>hacc k m hk x hx
 | o :: r,acc,hl,hacc,k,m,hk,x,hx=>by
  simp only [uF] at hk
  have h0 : ops[acc.length]? = some o:=by simpa using (hl 0).symm
  refine tH r _ (fun k=>?_) (fun k m hk x hx=>?_) k m hk x hx
  ·have:=hl (k + 1)
   grind
  ·rw [List.getElem?_append] at hk
   split at hk
   ·grind
   ·rename_i hge
    have hk0 : k = acc.length:=by
     grind
    subst hk0
    simp at hk
    subst hk
    exact wF h0 hacc _ (fun e he=>by simpa using he) 0 (fun x hx=>by simp at hx) x hx
theorem wI {ops : Array Oper} {ms : List Nat} {i : Nat} {oi : Oper} : ∀ (l : List Oper) (s : Nat),tP ops ms i oi s l = true->∀ k ox,l[k]? = some ox->s + k < i->(ms.getD i 0).testBit (s + k) = true \/ ox.apart ops oi = true
 | [],_,_,k,ox,h,_=>by simp at h
 | o :: r,s,h,0,ox,hk,hlt=>by
  simp at hk; subst hk
  simp only [tP,and_eq_true,or_eq_true] at h
  rcases h.1 with (h1 | h1) | h1
  ·have:=Nat.le_of_ble_eq_true h1; omega
  ·grind
  ·exact .inr h1
 | o :: r,s,h,k + 1,ox,hk,hlt=>by
  simp only [tP,and_eq_true] at h
  have:=wI r (s + 1) h.2 k ox (by simpa using hk) (by omega)
  grind
theorem yX {i : Nat} {oi : Oper} : ∀ (l : List Oper) (s : Nat),yu i oi s l = true->∀ k ox,l[k]? = some ox->s + k ≠ i->∀ d,oi.dst = some d->ox.dst ≠ some d
 | [],_,_,k,ox,h,_,_,_=>by simp at h
 | o :: r,s,h,0,ox,hk,hne,d,hd=>by
  simp at hk; subst hk
  simp only [yu,and_eq_true,or_eq_true,decide_eq_true_eq] at h
  simp_all
 | o :: r,s,h,k + 1,ox,hk,hne,d,hd=>by
  simp only [yu,and_eq_true] at h
  exact yX r (s + 1) h.2 k ox (by simpa using hk) (by omega) d hd
theorem yz {ops : Array Oper} {ms : List Nat} : ∀ (l : List Oper) (s : Nat),E5 ops ms s l = true->∀ k o,l[k]? = some o ->
  ur (s + k) o = true /\ sa o = true /\ tP ops ms (s + k) o 0 ops.toList = true /\ yu (s + k) o 0 ops.toList = true
 | [],_,_,k,o,h=>by simp at h
 | o :: r,s,h,0,o',hk=>by
  simp at hk; subst hk
  simp only [E5,and_eq_true] at h
  grind
 | o :: r,s,h,k + 1,o',hk=>by
  simp only [E5,and_eq_true] at h
  have:=yz r (s + 1) h.2 k o' (by simpa using hk)
  grind
structure wj (ops : Array Oper) : Prop where
 low : ∀ (i : Nat) (o : Oper),ops[i]? = some o->∀ e ∈ o.after,Region.binds .any e = true->e.on < i
 NO : ∀ (i : Nat) (o : Oper) (j : Nat) (w : Bool),ops[i]? = some o->o.guard = some (j,w)->∃ e ∈ o.after,Region.binds .any e = true /\ e.on = j
 pair : ∀ (x i : Nat) (ox oi : Oper),ops[x]? = some ox->ops[i]? = some oi->x < i->FL ops x i \/ ox.apart ops oi = true
 dst : ∀ (x i : Nat) (ox oi : Oper) (d : Nat),ops[x]? = some ox->ops[i]? = some oi->x ≠ i->oi.dst = some d->ox.dst ≠ some d
theorem C1 {ops : Array Oper} (h : Cy ops = true) : wj ops:=by
 simp only [Cy,and_eq_true] at h
 have hr:=yz ops.toList 0 h.2
 have row : ∀ i o,ops[i]? = some o->ur i o = true /\ sa o = true /\ tP ops (uF ops.toList []) i o 0 ops.toList = true /\ yu i o 0 ops.toList = true:=fun i o ho=>by
  grind
 refine ⟨fun i o ho e he hb=>?_,fun i o j w ho hg=>?_,fun x i ox oi hx hi hlt=>?_,fun x i ox oi d hx hi hne hd=>?_⟩
 ·have:=(row i o ho).1
  simp only [ur,List.all_eq_true] at this
  have:=this e (by simpa using he)
  simp_all
 ·have:=(row i o ho).2.1
  simp only [sa,hg,List.any_eq_true,and_eq_true] at this
  simp_all
 ·have:=wI ops.toList 0 (row i oi hi).2.2.1 x ox (by simpa using hx) (by omega)
  rw [Nat.zero_add] at this
  refine this.imp (fun hm=>?_) id
  cases hk : (uF ops.toList [])[i]? with
  | none=>simp [List.getD,hk] at hm
  | some m=>exact tH ops.toList [] (fun k=>by simp) (fun k m hk=>by simp at hk) i m hk x (by simpa [List.getD,hk] using hm)
 ·exact yX ops.toList 0 (row i oi hi).2.2.2 x ox (by simpa using hx) (by omega) d hd
theorem FL.iK {ops : Array Oper} {iK : Array Bool} (hdown : ∀ j o,ops[j]? = some o->iK.getD j false = true->∀ e ∈ o.after,Region.binds .any e = true->iK.getD e.on false = true) {x j : Nat} (h : FL ops x j) :
  (∀ o,ops[j]? = some o->∀ e ∈ o.after,Region.binds .any e = true->iK.getD e.on false = true)->iK.getD x false = true:=by
 induction h with
 | edge ho he hb=>exact fun hp=>hp _ ho _ he hb
 | step ho he hb _ ih=>exact fun hp=>ih fun o' ho'=>hdown _ o' ho' (hp _ ho _ he hb)
abbrev gq (L : List Nat) (hp hp' : aL) : Prop:=∀ i ∈ L,aq hp' i = aq hp i
theorem gq.sub {L M : List Nat} {hp hp' : aL} (h : gq L hp hp') (hs : ∀ i ∈ M,i ∈ L) : gq M hp hp':=fun i hi=>h i (hs i hi)
mutual
theorem qX {hp hp' : aL} : ∀ v : V,gq v.ids hp hp'->rd hp' v = rd hp v
 | .app id ver,h=>by simp only [rd]; rw [h id (by simp [V.ids])]
 | .view id p t n lo hi,h=>by simp only [rd]; rw [h id (by simp [V.ids])]
 | .agg t l,h=>by simp only [rd]; rw [nj l (fun i hi=>h i (by simpa [V.ids] using hi))]
 | .any,_=>rfl
 | .data _ _,_=>rfl
 | .nilp,_=>rfl
 | .snil,_=>rfl
 | .ref _ _ _,_=>rfl
 | .iref _ _,_=>rfl
 | .tup _,_=>rfl
 | .opt _ _ _,_=>rfl
 | .fn _ _ _,_=>rfl
 | .full _ _,_=>rfl
 | .ifc _ _,_=>rfl
 | .mth _ _,_=>rfl
 | .map _,_=>rfl
 | .glob _,_=>rfl
theorem nj {hp hp' : aL} : ∀ l : List V,gq (V.gS l) hp hp'->tq hp' l = tq hp l
 | [],_=>rfl
 | v :: l,h=>by simp only [tq]; rw [qX v (fun i hi=>h i (by simp [V.gS,hi])),nj l (fun i hi=>h i (by simp [V.gS,hi]))]
end
mutual
theorem xn {hp hp' : aL} : ∀ v : V,gq v.ids hp hp'->loose hp' v = loose hp v
 | .app id ver,h=>by simp only [loose]; rw [h id (by simp [V.ids])]
 | .view id p t n lo hi,h=>by simp only [loose]; rw [h id (by simp [V.ids])]
 | .agg t l,h=>by simp only [loose]; rw [mX l (fun i hi=>h i (by simpa [V.ids] using hi))]
 | .any,_=>rfl
 | .data _ _,_=>rfl
 | .nilp,_=>rfl
 | .snil,_=>rfl
 | .ref _ _ _,_=>rfl
 | .iref _ _,_=>rfl
 | .tup _,_=>rfl
 | .opt _ _ _,_=>rfl
 | .fn _ _ _,_=>rfl
 | .full _ _,_=>rfl
 | .ifc _ _,_=>rfl
 | .mth _ _,_=>rfl
 | .map _,_=>rfl
 | .glob _,_=>rfl
theorem mX {hp hp' : aL} : ∀ l : List V,gq (V.gS l) hp hp'->kT hp' l = kT hp l
 | [],_=>rfl
 | v :: l,h=>by simp only [kT]; rw [xn v (fun i hi=>h i (by simp [V.gS,hi])),mX l (fun i hi=>h i (by simp [V.gS,hi]))]
end
mutual
theorem Dn {hp hp' : aL} {i : Nat} : ∀ v : V,aq hp' i = aq hp i->aq (frz hp' v) i = aq (frz hp v) i
 | .app id _,h=>by
  simp only [frz]
  by_cases e : i = id
  ·subst e; rw [h]; cases aq hp i <;> simp [h,bG]
  ·cases aq hp id <;> cases aq hp' id <;> simp only [bG,if_neg e,h]
 | .view id _ _ _ _ _,h=>by
  simp only [frz]
  by_cases e : i = id
  ·subst e; rw [h]; cases aq hp i <;> simp [h,bG]
  ·cases aq hp id <;> cases aq hp' id <;> simp only [bG,if_neg e,h]
 | .agg _ l,h=>by simp only [frz]; exact Di l h
 | .any,h=>h
 | .data _ _,h=>h
 | .nilp,h=>h
 | .snil,h=>h
 | .ref _ _ _,h=>h
 | .iref _ _,h=>h
 | .tup _,h=>h
 | .opt _ _ _,h=>h
 | .fn _ _ _,h=>h
 | .full _ _,h=>h
 | .ifc _ _,h=>h
 | .mth _ _,h=>h
 | .map _,h=>h
 | .glob _,h=>h
theorem Di {hp hp' : aL} {i : Nat} : ∀ l : List V,aq hp' i = aq hp i->aq (lJ hp' l) i = aq (lJ hp l) i
 | [],h=>h
 | v :: l,h=>by simp only [lJ]; exact Di l (Dn v h)
end
mutual
theorem xO {hp : aL} {i : Nat} : ∀ v : V,i ∉ v.ids->aq (frz hp v) i = aq hp i
 | .app id _,h=>by
  simp only [frz]
  have e : i ≠ id:=fun e=>h (by simp [V.ids,e])
  cases aq hp id <;> simp only [bG,if_neg e]
 | .view id _ _ _ _ _,h=>by
  simp only [frz]
  have e : i ≠ id:=fun e=>h (by simp [V.ids,e])
  cases aq hp id <;> simp only [bG,if_neg e]
 | .agg _ l,h=>by simp only [frz]; exact uu l (by simpa [V.ids] using h)
 | .any,_=>rfl
 | .data _ _,_=>rfl
 | .nilp,_=>rfl
 | .snil,_=>rfl
 | .ref _ _ _,_=>rfl
 | .iref _ _,_=>rfl
 | .tup _,_=>rfl
 | .opt _ _ _,_=>rfl
 | .fn _ _ _,_=>rfl
 | .full _ _,_=>rfl
 | .ifc _ _,_=>rfl
 | .mth _ _,_=>rfl
 | .map _,_=>rfl
 | .glob _,_=>rfl
theorem uu {hp : aL} {i : Nat} : ∀ l : List V,i ∉ V.gS l->aq (lJ hp l) i = aq hp i
 | [],_=>rfl
 | v :: l,h=>by
  simp only [V.gS,mem_append,not_or] at h
  simp only [lJ]; rw [uu l h.2,xO v h.1]
end
structure Loc (hp h hp' h' : aL) (wr : List Nat) : Prop where
 on : ∀ i ∈ wr,aq h' i = aq h i
 off : ∀ i,i ∉ wr->aq h i = aq hp i
 off' : ∀ i,i ∉ wr->aq h' i = aq hp' i
theorem Loc.nil {hp hp' : aL} : Loc hp hp hp' hp' []:=⟨fun _ h=>by simp at h,fun _ _=>rfl,fun _ _=>rfl⟩
theorem Loc.set {hp hp' : aL} {d : Nat} {b : jz} : Loc hp (fk hp d b) hp' (fk hp' d b) [d] :=
 ⟨fun i hi=>by simp only [mem_singleton] at hi; subst hi; simp [bG],fun i hi=>by simp only [mem_singleton] at hi; rw [bG,if_neg hi],fun i hi=>by simp only [mem_singleton] at hi; rw [bG,if_neg hi]⟩
theorem Loc.lJ {hp hp' : aL} {l : List V} (h : gq (V.gS l) hp hp') : Loc hp (lJ hp l) hp' (Bx.lJ hp' l) (V.gS l) :=
 ⟨fun i hi=>Di l (h i hi),fun i hi=>uu l hi,fun i hi=>uu l hi⟩
theorem Loc.frz {hp hp' : aL} {v : V} (h : gq v.ids hp hp') : Loc hp (frz hp v) hp' (Bx.frz hp' v) v.ids :=
 ⟨fun i hi=>Dn v (h i hi),fun i hi=>xO v hi,fun i hi=>xO v hi⟩
theorem Loc.Ni {hp hp' : aL} {v : V} {d : Nat} {b : jz} (h : gq v.ids hp hp') : Loc hp (fk (Bx.frz hp v) d b) hp' (fk (Bx.frz hp' v) d b) (d :: v.ids):=by
 refine ⟨fun i hi=>?_,fun i hi=>?_,fun i hi=>?_⟩
 ·rw [bG,bG]
  split
  ·rfl
  ·rename_i hne
   exact Dn v (h i ((List.mem_cons.1 hi).resolve_left hne))
 all_goals
  simp only [mem_cons,not_or] at hi
  rw [bG,if_neg hi.1,xO v hi.2]
inductive rl (hp hp' : aL) : Out->Out->Prop
 | eff {c i v h h' wr} (l : Loc hp h hp' h' wr) : rl hp hp' (.eff c i v h wr) (.eff c i v h' wr)
 | call {F a h h' wr} (l : Loc hp h hp' h' wr) : rl hp hp' (.call F a h wr) (.call F a h' wr)
 | sh {s L} : rl hp hp' (.sh s L) (.sh s L)
 | val {c i v} : rl hp hp' (.val c i v) (.val c i v)
def Out.wr : Out->List Nat
 | .eff _ _ _ _ w=>w
 | .call _ _ _ w=>w
 | _=>[]
mutual
theorem zB : ∀ v : V,∀ i ∈ (fQ v).ids,i ∈ v.ids
 | .opt _ _ _,i,h=>by simp [fQ,V.ids] at h
 | .any,_,h=>h
 | .data _ _,_,h=>h
 | .nilp,_,h=>h
 | .snil,_,h=>h
 | .ref _ _ _,_,h=>h
 | .iref _ _,_,h=>h
 | .tup _,_,h=>h
 | .fn _ _ _,_,h=>h
 | .full _ _,_,h=>h
 | .app _ _,_,h=>h
 | .view _ _ _ _ _ _,_,h=>h
 | .agg _ _,_,h=>h
 | .ifc _ _,_,h=>h
 | .mth _ _,_,h=>h
 | .map _,_,h=>h
 | .glob _,_,h=>h
end
theorem vj (g : Option Gd) (v : V) : ∀ i ∈ (un g v).ids,i ∈ v.ids:=by
 intro i h
 cases v <;> simp only [un] at h <;> try exact h
 rename_i d w u
 cases g with
 | none=>simp [V.ids] at h
 | some g =>
  simp only at h
  split at h
  ·simpa [V.ids] using zB u i h
  ·simp [V.ids] at h
theorem GR (v : V) : ∀ i ∈ (dd v).ids,i ∈ v.ids:=by
 intro i h
 cases v <;> simp only [dd] at h <;> first | exact h | simp [V.ids] at h
theorem Fs (u : Ty) (v : V) : ∀ i ∈ (nK u v).ids,i ∈ v.ids:=by
 intro i h
 cases v <;> simp only [nK] at h <;> first | exact h | (cases u <;> simp [V.ids] at h)
theorem EX {l : List V} {v : V} {i : Nat} (hv : v ∈ l) (hi : i ∈ v.ids) : i ∈ V.gS l:=by
 induction l with
 | nil=>cases hv
 | cons a l ih =>
  simp only [V.gS,mem_append]
  rcases List.mem_cons.1 hv with e | e
  ·subst e; exact .inl hi
  ·exact .inr (ih e)
theorem EV {l : List V} {i : Nat} (h : i ∈ V.gS l) : ∃ v ∈ l,i ∈ v.ids:=by
 induction l with
 | nil=>simp [V.gS] at h
 | cons a l ih =>
  simp only [V.gS,mem_append] at h
  rcases h with h | h
  ·exact ⟨a,by simp,h⟩
  ·obtain ⟨v,h1,h2⟩:=ih h; exact ⟨v,mem_cons_of_mem _ h1,h2⟩
theorem xu (l m : List V) : V.gS (l ++ m) = V.gS l ++ V.gS m:=by
 induction l with
 | nil=>rfl
 | cons a l ih=>simp [V.gS,ih]
theorem vk {fr : List V} {L : List Operand} {x : Operand} (hx : x ∈ L) : ∀ i ∈ (ev fr x).ids,i ∈ V.gS (L.map (ev fr)):=fun i hi=>EX (mem_map_of_mem hx) hi
theorem lT {C : Ctx} {g : Option Gd} {fr : List V} {c : Call} {f : Nat} {args : List V} (h : target C (fun x=>un g (ev fr x)) c = some (f,args)) : ∀ i ∈ V.gS args,i ∈ V.gS (c.operands.toList.map (ev fr)):=by
 unfold target at h
 have hargs : ∀ x ∈ c.args.toList,x ∈ c.operands.toList:=fun x hx=>by simp [Call.operands]; right; simpa using hx
 have arg : ∀ i ∈ V.gS (c.args.toList.map fun x=>un g (ev fr x)),i ∈ V.gS (c.operands.toList.map (ev fr)):=fun i hi=>by
  obtain ⟨v,h1,h2⟩:=EV hi
  obtain ⟨x,hx,rfl⟩:=List.mem_map.1 h1
  exact vk (hargs x hx) i (vj g _ i h2)
 have sn : ∀ (l : List V),∀ i ∈ V.gS (l.map fQ),i ∈ V.gS l:=fun l i hi=>by
  obtain ⟨v,h1,h2⟩:=EV hi
  obtain ⟨x,hx,rfl⟩:=List.mem_map.1 h1
  exact EX hx (zB _ i h2)
 split at h
 ·rename_i fo hc
  split at h
  ·rename_i f' fst cap he
   cases h
   intro i hi
   simp only [mq,xu,List.nil_append,mem_append] at hi
   have hf : ∀ i ∈ (ev fr fo).ids,i ∈ V.gS (c.operands.toList.map (ev fr)):=vk (by simp [Call.operands,hc])
   have he' : un g (ev fr fo) = .fn f fst cap:=he
   have hfc : ∀ i,(i ∈ V.gS fst \/ i ∈ V.gS cap)->i ∈ (ev fr fo).ids:=fun i hi=>vj g _ i (by rw [he']; simpa [V.ids] using hi)
   grind
  ·cases h
 ·rename_i r m hc
  split at h
  ·rename_i t v he0
   have he : un g (ev fr r) = .ifc t v:=he0
   split at h
   ·cases h
    intro i hi
    simp only [mq,xu,List.map_nil,List.append_nil,V.gS,mem_append] at hi
    rcases hi with hi | hi
    ·exact vk (L:=c.operands.toList) (x:=r) (by simp [Call.operands,hc]) i (vj g _ i (by rw [he]; simpa [V.ids] using zB _ i hi))
    ·exact arg i hi
   ·cases h
  ·cases h
 ·cases h
theorem ly {e e' : Operand->V} {τ : Ty} : ∀ (l : List (Nat × Operand)) (c : τ.den),(∀ p ∈ l,e' p.2 = e p.2)->i6 e' τ l c = i6 e τ l c
 | [],_,_=>rfl
 | (i,x) :: r,c,h=>by
  have ih:=fun c : τ.den=>ly (τ:=τ) r c fun p hp=>h p (mem_cons_of_mem _ hp)
  have hx : e' x = e x:=h (i,x) (by simp)
  simp only [i6,hx,ih]
theorem u9 {e e' : Operand->V} {τ : Ty} : ∀ (l : List (Nat × Operand)) (c : V),(∀ p ∈ l,e' p.2 = e p.2)->mQ e' τ l c = mQ e τ l c
 | [],_,_=>rfl
 | (i,x) :: r,c,h=>by
  have ih:=fun c=>u9 (τ:=τ) r c fun p hp=>h p (mem_cons_of_mem _ hp)
  have hx : e' x = e x:=h (i,x) (by simp)
  simp only [mQ,hx,ih]
theorem mc {parts : Array (Nat × Operand)} {p : Nat × Operand} (h : p ∈ parts.toList) : p.2 ∈ (parts.toList.map (·.2)):=List.mem_map.2 ⟨p,h,rfl⟩
theorem Gf {C : Ctx} {g : Option Gd} {fr : List V} {hp hp' : aL} {op : Op} (h : gq (V.gS (op.operands.toList.map (ev fr))) hp hp') : lZ C g fr hp' op = lZ C g fr hp op:=by
 have E : ∀ x,x ∈ op.operands->gq (un g (ev fr x)).ids hp hp':=fun x hx i hi=>h i (vk (by simpa using hx) i (vj g _ i hi))
 have D : ∀ x,x ∈ op.operands->gq (dd (un g (ev fr x))).ids hp hp':=fun x hx i hi=>E x hx i (GR _ i hi)
 have R : ∀ x,x ∈ op.operands->rd hp' (dd (un g (ev fr x))) = rd hp (dd (un g (ev fr x))):=fun x hx=>qX _ (D x hx)
 have I : ∀ x id ver p,x ∈ op.operands->dd (un g (ev fr x)) = .ref id ver p->aq hp' id = aq hp id:=fun x id ver p hx e=>D x hx id (by rw [e]; simp [V.ids])
 cases op <;> simp only [lZ] <;> simp only [Op.operands] at E D R I
 case load t x =>
  cases look C.ty t with
  | none=>rfl
  | some τ =>
   cases he : dd (un g (ev fr x)) <;> try rfl
   simp only [I x _ _ _ (by simp) he]
 case indexAddr t x i =>
  cases look C.ty t with
  | none=>rfl
  | some τ =>
   cases he : dd (un g (ev fr x)) with
   | ref id ver p =>
    have:=I x _ _ _ (by simp) he
    cases τ <;> cases dd (un g (ev fr i)) <;> first | rfl | (rename_i t3 n3; cases t3 <;> first | rfl | simp only [this])
   | app id ver =>
    have : aq hp' id = aq hp id:=D x (by simp) id (by rw [he]; simp [V.ids])
    cases τ <;> cases dd (un g (ev fr i)) <;> first | rfl | (rename_i t3 n3; cases t3 <;> first | rfl | simp only [this])
   | data t' y=>cases τ <;> cases t' <;> cases dd (un g (ev fr i)) <;> first | rfl | (rename_i t3 n3; cases t3 <;> rfl)
   | iref t' y=>cases τ <;> cases t' <;> cases dd (un g (ev fr i)) <;> first | rfl | (rename_i t3 n3; cases t3 <;> rfl)
   | _=>cases τ <;> cases dd (un g (ev fr i)) <;> first | rfl | (rename_i t3 n3; cases t3 <;> rfl)
 case lookup t m k c =>
  have hm : ∀ id,dd (un g (ev fr m)) = .map id->aq hp' id = aq hp id:=fun id he=>D m (by simp) id (by rw [he]; simp [V.ids])
  generalize dd (un g (ev fr m)) = v at hm ⊢
  cases c <;> try rfl
  cases look C.mp t <;> try rfl
  cases v <;> try rfl
  cases dd (un g (ev fr k)) <;> try rfl
  simp only [hm _ rfl]
 case fieldAddr t x j =>
  cases look C.ty t with
  | none=>rfl
  | some τ =>
   cases he : dd (un g (ev fr x)) with
   | ref id ver p=>simp only [I x _ _ _ (by simp) he]
   | _=>rfl
 case convert s d x =>
  have hr:=R x (by simp)
  generalize dd (un g (ev fr x)) = v at hr
  generalize look C.ty s = a
  generalize look C.ty d = b
  split <;> first | rfl | simp only [hr] | skip
 case buildSlice t n parts =>
  have hb : ∀ (τ : Ty) (c : τ.den),i6 (fun x=>rd hp' (dd (un g (ev fr x)))) τ parts.toList c = i6 (fun x=>rd hp (dd (un g (ev fr x)))) τ parts.toList c:=fun τ c=>ly _ _ fun p hq=>R p.2 (by simpa using mc hq)
  have hl : parts.toList.any (fun p=>loose hp' (dd (un g (ev fr p.2)))) = parts.toList.any (fun p=>loose hp (dd (un g (ev fr p.2)))):=by
   rw [Bool.eq_iff_iff]
   simp only [List.any_eq_true]
   exact exists_congr fun p=>and_congr_right fun hq=>by rw [xn _ (D p.2 (by simpa using mc hq))]
  simp only [hb,hl]
 case slice t x lo hi mx =>
  cases he : dd (un g (ev fr x)) with
  | ref id ver p=>have:=I x _ _ _ (by simp) he; simp only [this]
  | app id ver =>
   have : aq hp' id = aq hp id:=D x (by simp) id (by rw [he]; simp [V.ids])
   simp only [this]
  | data t' y=>cases t' <;> rfl
  | iref t' y=>cases t' <;> rfl
  | _=>rfl
 case call c =>
  cases hc : c.callee with
  | builtin b =>
   have hl : c.args.toList.map (fun x=>rd hp' (dd (un g (ev fr x)))) = c.args.toList.map (fun x=>rd hp (dd (un g (ev fr x)))) :=
    map_congr_left fun x hx=>R x (by simp [Call.operands,hc]; simpa using hx)
   simp only [hl]
   cases b <;> try rfl
   simp only
   have hm : ∀ id,c.args.toList.map (fun x=>rd hp (dd (un g (ev fr x)))) = [.map id]->aq hp' id = aq hp id:=fun id h1=>by
    cases hq : c.args.toList with
    | nil=>rw [hq] at h1; simp at h1
    | cons x r =>
     rw [hq] at h1
     simp only [map_cons,List.cons.injEq] at h1
     exact D x (by simp [Call.operands,hc]; rw [<- Array.mem_toList_iff,hq]; simp) id (by rw [K3 h1.1]; simp [V.ids])
   generalize c.args.toList.map (fun x=>rd hp (dd (un g (ev fr x)))) = L at hm ⊢
   split
   ·rw [hm _ rfl]
   ·rfl
   ·rfl
   ·rfl
  | value f =>
   simp only
   cases ht : target C (fun x=>un g (ev fr x)) c with
   | none=>rfl
   | some fa =>
    obtain ⟨f,args⟩:=fa
    have : tq hp' args = tq hp args:=nj args (h.sub (lT ht))
    have hlo : kT hp' args = kT hp args:=mX args (h.sub (lT ht))
    simp only [this,hlo]
  | invoke r m =>
   simp only
   cases ht : target C (fun x=>un g (ev fr x)) c with
   | none=>rfl
   | some fa =>
    obtain ⟨f,args⟩:=fa
    have : tq hp' args = tq hp args:=nj args (h.sub (lT ht))
    have hlo : kT hp' args = kT hp args:=mX args (h.sub (lT ht))
    simp only [this,hlo]
theorem mem_iff {l : List Nat} {i : Nat} : mem l i = true ↔ i ∈ l:=by
 simp only [mem,List.any_eq_true]
 simp_all
theorem nL : ∀ (r l : List Nat) (i : Nat),i ∈ sw l r ↔ i ∈ l \/ i ∈ r
 | [],l,i=>by simp [sw]
 | j :: r,l,i=>by
  simp only [sw]
  split
  ·rename_i h
   rw [nL r l i,mem_cons]
   have:=mem_iff.1 h
   grind
  ·rw [nL r (l ++ [j]) i,mem_append,mem_singleton,mem_cons,or_assoc]
theorem tE {hp : aL} : ∀ (k : Nat) (l : List Nat) (i : Nat),i ∈ l->i ∈ lE hp k l
 | 0,_,_,h=>h
 | k + 1,l,i,h=>by simp only [lE]; exact tE k _ i ((nL _ _ _).2 (.inl h))
theorem xh {hp : aL} : ∀ (k : Nat) (l l' : List Nat),(∀ i ∈ l,i ∈ l')->∀ i ∈ lE hp k l,i ∈ lE hp k l'
 | 0,_,_,h=>h
 | k + 1,l,l',h=>by
  simp only [lE]
  refine xh k _ _ fun i hi=>?_
  rw [nL] at hi ⊢
  grind
theorem zs {α β : Type} {l : List α} {f g : α->List β} (h : ∀ a ∈ l,f a = g a) : l.flatMap f = l.flatMap g:=by
 induction l with
 | nil=>rfl
 | cons a l ih=>simp only [List.flatMap_cons,h a (by simp),ih fun a ha=>h a (mem_cons_of_mem _ ha)]
theorem pN {hp hp' : aL} : ∀ (k : Nat) (l : List Nat),gq (lE hp k l) hp hp'->lE hp' k l = lE hp k l
 | 0,_,_=>rfl
 | k + 1,l,h=>by
  simp only [lE] at h ⊢
  have : (l.flatMap fun i=>DC (aq hp' i)) = l.flatMap fun i=>DC (aq hp i):=zs fun i hi=>by
   rw [h i (tE k _ i ((nL _ _ _).2 (.inl hi)))]
  rw [this]
  exact pN k _ h
theorem zR {hp : aL} {a b : List V} (h : ∀ i ∈ V.gS a,i ∈ V.gS b) : ∀ i ∈ reach hp a,i ∈ reach hp b:=by
 refine xh 6 _ _ fun i hi=>?_
 rw [nL] at hi ⊢
 grind
theorem J6 {hp : aL} {a : List V} : ∀ i ∈ V.gS a,i ∈ reach hp a:=fun i hi=>tE 6 _ i ((nL _ _ _).2 (.inr hi))
theorem Ct {i k : Nat} : ∀ {l : List Nat},idxOf l i = some k->i ∈ l
 | [],h=>by simp [idxOf] at h
 | j :: r,h=>by
  simp only [idxOf] at h
  split at h
  ·simp_all
  ·cases hr : idxOf r i with
   | none=>rw [hr] at h; cases h
   | some k=>exact mem_cons_of_mem _ (Ct hr)
theorem Bi {hp hp' : aL} {L : List Nat} (h : gq L hp hp') : GM hp' L = GM hp L:=by
 funext i ver
 simp only [GM]
 cases hk : idxOf L i with
 | none=>rfl
 | some k=>simp only [Qp,h i (Ct hk)]
theorem E8 {L : List Nat} {i : Nat} (h : blt i L.length = true) : L.getD i 0 ∈ L:=by
 simp_all
theorem Ae {hp hp' : aL} {L N : List Nat} {s : Nat} (h : gq L hp hp') : CM hp' L N s = CM hp L N s:=by
 funext i ver
 simp only [CM]
 split
 ·rename_i hi; simp only [zd,h _ (E8 hi)]
 ·rfl
theorem Hg {hp hp' : aL} {L N : List Nat} {s k : Nat} (h : gq L hp hp') (b : jz) : mP hp' L N s k b = mP hp L N s k b:=by
 cases b <;> simp only [mP,Ae h]
 split
 ·rename_i hi; simp only [zd,h _ (E8 hi)]
 ·rfl
theorem F7 {hp hp' : aL} {L : List Nat} {s : Nat} (h : gq L hp hp') (d : aL) : AF hp' L s d = AF hp L s d:=by
 simp only [AF]
 exact map_congr_left fun x _=>by rw [Hg h]
theorem zv {hp hp' : aL} {L : List Nat} (h : gq L hp hp') : ∀ (r : List Nat) (k : Nat),(∀ i ∈ r,i ∈ L)->sF hp' L k r = sF hp L k r
 | [],_,_=>rfl
 | i :: r,k,hr=>by
  simp only [sF,h i (hr i (by simp)),Bi h,zv h r (k + 1) fun j hj=>hr j (mem_cons_of_mem _ hj)]
theorem u6 {C : Ctx} {hp hp' : aL} {dst : Option Nat} {f : List V->aL->Option Sh} {args : List V} (h : gq (reach hp args) hp hp') : oL C hp' dst f args = oL C hp dst f args:=by
 have hr : reach hp' args = reach hp args:=pN 6 _ h
 have hb : ∀ s vh,behind hp' (reach hp args) s vh = behind hp (reach hp args) s vh:=fun s vh=>by simp only [behind,Ae h,F7 h]
 simp only [oL,hr,Bi h,zv h _ 0 fun _ hi=>hi,hb]
theorem kX {hp hp' : aL} {d : Nat} (h : aq hp' d = aq hp d) : free hp' d = free hp d:=by simp only [free,h]
theorem Ay {C : Ctx} {hp hp' : aL} {dst : Option Nat} {τ : Ty} {x xs : V} {o : Out} (ho : m7 C hp dst τ x xs = some o) (h : gq x.ids hp hp') (hw : gq o.wr hp hp') : ∃ o',m7 C hp' dst τ x xs = some o' /\ rl hp hp' o o':=by
 unfold m7 at ho ⊢
 cases ha : nH xs τ with
 | none=>rw [ha] at ho; cases ho
 | some m =>
  rw [ha] at ho
  simp only at ho ⊢
  cases x <;> simp only at ho ⊢ <;> first | (cases ho; done) | skip
  case full τ' l =>
   split at ho
   ·rename_i e
    subst e
    simp only [dite_true]
    cases dst with
    | none=>cases ho
    | some d =>
     simp only at ho ⊢
     split at ho
     ·rename_i hf
      cases hz : C.frz.any (beq d) <;> rw [hz] at ho <;> cases ho
      all_goals
       rw [kX (hw _ (by simp [Out.wr])),if_pos hf]
       exact ⟨_,rfl,.eff .set⟩
     ·cases ho
   ·cases ho
  case app id ver =>
   have hb : aq hp' id = aq hp id:=h id (by simp [V.ids])
   rw [hb]
   cases hn : aq hp id with
   | none=>rw [hn] at ho; cases ho
   | some b =>
    rw [hn] at ho
    cases b <;> simp only at ho ⊢ <;> first | (cases ho; done) | skip
    split at ho
    ·rename_i e
     subst e
     simp only [dite_true]
     split at ho
     ·rename_i hv
      cases ho
      rw [if_pos hv]
      exact ⟨_,rfl,.eff .set⟩
     ·cases ho
    ·cases ho
  case view id p τ' n lo hi =>
   rw [qX _ h]
   cases dst with
   | none=>cases ho
   | some d =>
    cases hr : rd hp (.view id p τ' n lo hi) <;> rw [hr] at ho <;> (try simp only at ho ⊢) <;> first | (cases ho; done) | skip
    rename_i t l
    cases t <;> simp only at ho ⊢ <;> first | (cases ho; done) | skip
    split at ho
    ·rename_i e
     subst e
     simp only [dite_true]
     split at ho
     ·rename_i hf
      cases ho
      rw [kX (hw _ (by simp [Out.wr])),if_pos hf]
      exact ⟨_,rfl,.eff .set⟩
     ·cases ho
    ·cases ho
theorem EB {hp hp' : aL} {τ : Ty} {x xs : V} {o : Out} (ho : w9 hp τ x xs = some o) (h : gq x.ids hp hp') : ∃ o',w9 hp' τ x xs = some o' /\ rl hp hp' o o':=by
 unfold w9 at ho ⊢
 cases ha : JG xs τ with
 | none=>rw [ha] at ho; cases x <;> cases ho
 | some m =>
  rw [ha] at ho
  cases x <;> simp only at ho ⊢ <;> first | (cases ho; done) | skip
  rename_i id p τ' n lo hi
  rw [h id (by simp [V.ids])]
  split at ho
  ·rename_i hb
   split at ho
   ·rename_i hg
    split at ho
    ·rename_i e
     subst e
     simp only [dite_true]
     split at ho
     ·rename_i hc
      rw [if_pos hc]
      split at ho
      ·rename_i hs
       cases ho
       rw [hs]
       exact ⟨_,rfl,.eff .set⟩
      ·cases ho
     ·cases ho
    ·cases ho
   ·cases ho
  ·cases ho
theorem GN {C : Ctx} {g : Option Gd} {fr : List V} {hp hp' : aL} {dst : Option Nat} {op : Op} {o : Out} (ho : nR C g fr hp dst op = some o) (h : gq (V.gS (op.operands.toList.map (ev fr))) hp hp')
  (hcall : ∀ c,op = .call c->(∀ b,c.callee ≠ .builtin b)->gq (reach hp (op.operands.toList.map (ev fr))) hp hp') (hw : gq o.wr hp hp') : ∃ o',nR C g fr hp' dst op = some o' /\ rl hp hp' o o':=by
 have E : ∀ x,x ∈ op.operands->gq (un g (ev fr x)).ids hp hp':=fun x hx i hi=>h i (vk (by simpa using hx) i (vj g _ i hi))
 have D : ∀ x,x ∈ op.operands->gq (dd (un g (ev fr x))).ids hp hp':=fun x hx i hi=>E x hx i (GR _ i hi)
 have R : ∀ x,x ∈ op.operands->rd hp' (dd (un g (ev fr x))) = rd hp (dd (un g (ev fr x))):=fun x hx=>qX _ (D x hx)
 have W : ∀ x u,x ∈ op.operands->rd hp' (nK u (dd (un g (ev fr x)))) = rd hp (nK u (dd (un g (ev fr x)))):=fun x u hx=>qX _ ((D x hx).sub (Fs u _))
 cases op <;> simp only [nR] at ho ⊢ <;> simp only [Op.operands] at E D R W <;> try (cases ho; done)
 case alloc t =>
  split at ho
  ·split at ho
   ·rename_i hf
    cases ho
    rw [kX (hw _ (by simp [Out.wr])),if_pos hf]
    exact ⟨_,rfl,.eff .set⟩
   ·cases ho
  ·cases ho
 case box t x =>
  split at ho
  ·split at ho
   ·rename_i hf
    cases ho
    rw [kX (hw _ (by simp [Out.wr])),if_pos hf]
    exact ⟨_,rfl,.eff .set⟩
   ·cases ho
  ·cases ho
 case store t x y =>
  have hy : gq (dd (un g (ev fr y))).ids hp hp':=D y (by simp)
  split at ho
  ·rename_i τ id ver p hτ he
   have hx : aq hp' id = aq hp id:=D x (by simp) id (by rw [he]; simp [V.ids])
   rw [hx]
   split at ho
   ·rename_i σ v hb
    split at ho
    ·rename_i hc
     rw [if_pos hc]
     split at ho
     ·rename_i v' hs
      cases ho
      exact ⟨_,rfl,.eff .set⟩
     ·cases ho
    ·cases ho
   ·rename_i hb
    rw [Dn (dd (un g (ev fr y))) hx,R y (by simp)]
    split at ho
    ·rename_i σ l ver' hb2
     split at ho
     ·rename_i hv
      simp only [if_pos hv]
      split at ho
      ·rename_i i q τ' z hp2 hz
       (try simp only [hz])
       split at ho
       ·rename_i ht
        simp only [if_pos ht]
        split at ho
        ·rename_i z' hu
         cases ho
         (try simp only [hu])
         exact ⟨_,rfl,.eff (.Ni hy)⟩
        ·cases ho
       ·cases ho
      ·cases ho
     ·cases ho
    ·cases ho
   ·cases ho
  ·cases ho
 case buildSlice t n parts =>
  have hb : ∀ (τ : Ty) (c : τ.den),i6 (fun x=>rd hp' (dd (un g (ev fr x)))) τ parts.toList c = i6 (fun x=>rd hp (dd (un g (ev fr x)))) τ parts.toList c:=fun τ c=>ly _ _ fun p hq=>R p.2 (by simpa using mc hq)
  simp only [hb]
  split at ho
  ·split at ho
   ·rename_i hc
    rw [if_pos hc]
    split at ho
    ·rename_i y hy
     cases ho
     exact ⟨_,rfl,.eff (.lJ fun i hi=>hw i hi)⟩
    ·cases ho
   ·cases ho
  ·cases ho
 case makeMap t rs =>
  split at ho
  ·split at ho
   ·split at ho
    ·rename_i hf
     cases ho
     rw [kX (hw _ (by simp [Out.wr])),if_pos hf]
     exact ⟨_,rfl,.eff .set⟩
    ·cases ho
   ·cases ho
  ·cases ho
 case mapEntry t m k =>
  split at ho
  ·rename_i tk tv id κ' x hmp he hk
   have hx : aq hp' id = aq hp id:=D m (by simp) id (by rw [he]; simp [V.ids])
   rw [hx]
   split at ho
   ·split at ho
    ·rename_i hq
     subst hq
     split at ho
     ·rename_i hc
      cases ho
      simp only [dif_pos,if_pos hc]
      exact ⟨_,rfl,.eff .set⟩
     ·cases ho
    ·cases ho
   ·cases ho
  ·cases ho
 case mapUpdate t m k y =>
  split at ho
  ·rename_i tk tv id κ' x ν' z hmp he hk hy
   have hx : aq hp' id = aq hp id:=D m (by simp) id (by rw [he]; simp [V.ids])
   rw [hx]
   split at ho
   ·split at ho
    ·rename_i hq
     subst hq
     split at ho
     ·rename_i hq
      subst hq
      split at ho
      ·rename_i hc
       cases ho
       simp only [dif_pos,if_pos hc]
       exact ⟨_,rfl,.eff .set⟩
      ·cases ho
     ·cases ho
    ·cases ho
   ·cases ho
  ·cases ho
 case entryStore t m n y =>
  split at ho
  ·rename_i tk tv id k i ν' z hmp he hn hy
   have hx : aq hp' id = aq hp id:=D m (by simp) id (by rw [he]; simp [V.ids])
   rw [hx]
   split at ho
   ·split at ho
    ·rename_i hq
     subst hq
     split at ho
     ·rename_i hc
      cases ho
      simp only [dif_pos,if_pos hc]
      exact ⟨_,rfl,.eff .set⟩
     ·cases ho
    ·cases ho
   ·cases ho
  ·cases ho
 case makeSlice t len cap =>
  split at ho
  ·split at ho
   ·rename_i hf
    cases ho
    rw [kX (hw _ (by simp [Out.wr])),if_pos hf]
    exact ⟨_,rfl,.eff .set⟩
   ·cases ho
  ·cases ho
 case slice t x lo hi mx =>
  split at ho
  ·rename_i id ver τ he hτ
   have hx : aq hp' id = aq hp id:=D x (by simp) id (by rw [he]; simp [V.ids])
   rw [hx]
   split at ho
   ·rename_i τ' l ver' z hb
    split at ho
    ·rename_i hc
     simp only [if_pos hc]
     split at ho
     ·rename_i c i v hs
      cases ho
      have hz : gq (V.app id ver).ids hp hp':=fun i hi=>by simp only [V.ids,mem_singleton] at hi; subst hi; exact hx
      exact ⟨_,rfl,.eff (by simpa only [V.ids] using Loc.frz hz)⟩
     ·cases ho
    ·cases ho
   ·cases ho
  ·cases ho
 case call c =>
  cases hc : c.callee with
  | builtin b =>
   rw [hc] at ho
   cases b <;> simp only at ho ⊢ <;> try (cases ho; done)
   ·split at ho
    ·rename_i x xs t t' ha hty
     have m1 : x ∈ c.operands:=by simp [Call.operands,hc]; rw [<- Array.mem_toList_iff,ha]; simp
     have m2 : xs ∈ c.operands:=by simp [Call.operands,hc]; rw [<- Array.mem_toList_iff,ha]; simp
     split at ho
     ·rename_i e
      simp only [if_pos e]
      split at ho
      ·rename_i τ hτ
       rw [W xs _ m2]
       exact Ay ho ((E x m1).sub (Fs _ _)) hw
      ·cases ho
     ·cases ho
    ·cases ho
   ·split at ho
    ·rename_i x xs t t' ha hty
     have m1 : x ∈ c.operands:=by simp [Call.operands,hc]; rw [<- Array.mem_toList_iff,ha]; simp
     have m2 : xs ∈ c.operands:=by simp [Call.operands,hc]; rw [<- Array.mem_toList_iff,ha]; simp
     split at ho
     ·rename_i τ hτ
      rw [W xs _ m2]
      exact EB ho (E x m1)
     ·cases ho
    ·cases ho
  | value f =>
   have hr:=hcall c rfl (by rw [hc]; exact fun _=>nofun)
   rw [hc] at ho
   simp only at ho ⊢
   cases ht : target C (fun x=>un g (ev fr x)) c with
   | none=>rw [ht] at ho; cases ho
   | some fa =>
    obtain ⟨f,args⟩:=fa
    rw [ht] at ho
    simp only at ho ⊢
    have hs:=lT ht
    rw [nj args (h.sub hs)]
    split at ho
    ·rename_i F hF
     split at ho
     ·cases ho
      exact ⟨_,rfl,.call (.lJ (h.sub hs))⟩
     ·cases ho
    ·split at ho
     ·rename_i f' hf'
      rw [u6 (hr.sub (zR hs))]
      refine ⟨_,ho,?_⟩
      simp only [oL] at ho
      split at ho
      ·cases ho; exact .sh
      ·cases ho
     ·cases ho
  | invoke r m =>
   have hr:=hcall c rfl (by rw [hc]; exact fun _=>nofun)
   rw [hc] at ho
   simp only at ho ⊢
   cases ht : target C (fun x=>un g (ev fr x)) c with
   | none=>rw [ht] at ho; cases ho
   | some fa =>
    obtain ⟨f,args⟩:=fa
    rw [ht] at ho
    simp only at ho ⊢
    have hs:=lT ht
    rw [nj args (h.sub hs)]
    split at ho
    ·rename_i F hF
     split at ho
     ·cases ho
      exact ⟨_,rfl,.call (.lJ (h.sub hs))⟩
     ·cases ho
    ·split at ho
     ·rename_i f' hf'
      rw [u6 (hr.sub (zR hs))]
      refine ⟨_,ho,?_⟩
      simp only [oL] at ho
      split at ho
      ·cases ho; exact .sh
      ·cases ho
     ·cases ho
theorem uG {fr fr' : List V} {x : Operand} (h : ∀ t,x = .tmp t->nth fr' t = nth fr t) : ev fr' x = ev fr x:=by
 cases x with
 | tmp t=>exact h t rfl
 | _=>rfl
theorem nz {ops : Array Oper} {o : Oper} {t : Nat} (h : Operand.tmp t ∈ o.op.operands) : t ∈ o.looksAt ops :=
 List.mem_append_left _ (List.mem_filterMap.2 ⟨.tmp t,by simpa using h,rfl⟩)
theorem mj {e e' : Operand->V} {d : Int} {x : Option Operand} (h : ∀ y,x = some y->e' y = e y) : fN e' d x = fN e d x:=by
 cases x with
 | none=>rfl
 | some y=>simp only [fN,h y rfl]
theorem uM {e e' : Operand->V} {τ : Ty} {l : List τ.den} {lo hi mx : Option Operand} (h1 : ∀ y,lo = some y->e' y = e y) (h2 : ∀ y,hi = some y->e' y = e y) (h3 : ∀ y,mx = some y->e' y = e y) :
  ky e' τ l lo hi mx = ky e τ l lo hi mx:=by
 simp only [ky,mj h1,mj h2]
 cases mx with
 | none=>rfl
 | some m=>simp only [h3 m rfl]
theorem ug {C : Ctx} {e e' : Operand->V} {c : Call} (h : ∀ x ∈ c.operands,e' x = e x) : target C e' c = target C e c:=by
 have ha : c.args.toList.map e' = c.args.toList.map e:=map_congr_left fun x hx=>h x (by simp [Call.operands]; right; simpa using hx)
 unfold target
 cases hc : c.callee with
 | value f=>simp only [h f (by simp [Call.operands,hc]),mq,ha]
 | invoke r m=>simp only [h r (by simp [Call.operands,hc]),mq,ha]
 | builtin b=>rfl
theorem GP {C : Ctx} {g : Option Gd} {fr fr' : List V} {hp : aL} {op : Op} (h : ∀ t,Operand.tmp t ∈ op.operands->nth fr' t = nth fr t) : lZ C g fr' hp op = lZ C g fr hp op:=by
 have e : ∀ x,x ∈ op.operands->ev fr' x = ev fr x:=fun x hx=>uG fun t ht=>h t (by rw [<- ht]; exact hx)
 cases op <;> simp only [lZ] <;> simp only [Op.operands] at e
 case pick c a b=>rw [e c (by simp),e a (by simp),e b (by simp)]
 case call c =>
  have ea : c.args.toList.map (fun x=>dd (un g (ev fr' x))) = c.args.toList.map (fun x=>dd (un g (ev fr x))) :=
   map_congr_left fun x hx=>by rw [e x (by simp [Call.operands]; right; simpa using hx)]
  have er : c.args.toList.map (fun x=>rd hp (dd (un g (ev fr' x)))) = c.args.toList.map (fun x=>rd hp (dd (un g (ev fr x)))) :=
   map_congr_left fun x hx=>by rw [e x (by simp [Call.operands]; right; simpa using hx)]
  have et : target C (fun x=>un g (ev fr' x)) c = target C (fun x=>un g (ev fr x)) c:=ug fun x hx=>by rw [e x hx]
  simp only [ea,er,et]
 case move x=>rw [e x (by simp)]
 case assign x=>rw [e x (by simp)]
 case load t x=>rw [e x (by simp)]
 case binOp op xt x y yt=>rw [e x (by simp),e y (by simp)]
 case unOp op xt x=>rw [e x (by simp)]
 case convert s d x=>rw [e x (by simp)]
 case fieldAddr t x j=>rw [e x (by simp)]
 case indexAddr t x i=>rw [e x (by simp),e i (by simp)]
 case lookup t m k c=>rw [e m (by simp),e k (by simp)]
 case extract x i=>rw [e x (by simp)]
 case index t x i=>rw [e x (by simp),e i (by simp)]
 case field t x j=>rw [e x (by simp)]
 case nilCheck x=>rw [e x (by simp)]
 case makeInterface t x=>rw [e x (by simp)]
 case makeFunc f fst cap =>
  have e1 : fst.toList.map (fun x=>un g (ev fr' x)) = fst.toList.map (fun x=>un g (ev fr x)):=map_congr_left fun x hx=>by rw [e x (by simp; left; simpa using hx)]
  have e2 : cap.toList.map (fun x=>un g (ev fr' x)) = cap.toList.map (fun x=>un g (ev fr x)):=map_congr_left fun x hx=>by rw [e x (by simp; right; simpa using hx)]
  simp only [e1,e2]
 case build t parts =>
  have hb : ∀ (τ : Ty) (c : V),mQ (fun x=>un g (ev fr' x)) τ parts.toList c = mQ (fun x=>un g (ev fr x)) τ parts.toList c:=fun τ c=>u9 _ _ fun p hq=>by rw [e p.2 (by simpa using mc hq)]
  simp only [hb]
 case buildSlice t n parts =>
  have hb : ∀ (τ : Ty) (c : τ.den),i6 (fun x=>rd hp (dd (un g (ev fr' x)))) τ parts.toList c = i6 (fun x=>rd hp (dd (un g (ev fr x)))) τ parts.toList c:=fun τ c=>ly _ _ fun p hq=>by rw [e p.2 (by simpa using mc hq)]
  have hl : parts.toList.any (fun p=>loose hp (dd (un g (ev fr' p.2)))) = parts.toList.any (fun p=>loose hp (dd (un g (ev fr p.2)))):=by
   grind
  simp only [hb,hl]
 case slice t x lo hi mx =>
  have el : ∀ y,lo = some y->dd (un g (ev fr' y)) = dd (un g (ev fr y)):=fun y hy=>by rw [e y (by simp [hy])]
  have eh : ∀ y,hi = some y->dd (un g (ev fr' y)) = dd (un g (ev fr y)):=fun y hy=>by rw [e y (by simp [hy])]
  have em : ∀ y,mx = some y->dd (un g (ev fr' y)) = dd (un g (ev fr y)):=fun y hy=>by rw [e y (by simp [hy])]
  have b1 : ∀ d,fN (fun x=>dd (un g (ev fr' x))) d lo = fN (fun x=>dd (un g (ev fr x))) d lo:=fun d=>mj el
  have b2 : ∀ d,fN (fun x=>dd (un g (ev fr' x))) d hi = fN (fun x=>dd (un g (ev fr x))) d hi:=fun d=>mj eh
  have b3 : ∀ (τ : Ty) (l : List τ.den),ky (fun x=>dd (un g (ev fr' x))) τ l lo hi mx = ky (fun x=>dd (un g (ev fr x))) τ l lo hi mx:=fun τ l=>uM el eh em
  simp only [b1,b2,b3,e x (by simp)]
theorem Gm {C : Ctx} {g : Option Gd} {fr fr' : List V} {hp : aL} {dst : Option Nat} {op : Op} (h : ∀ t,Operand.tmp t ∈ op.operands->nth fr' t = nth fr t) : nR C g fr' hp dst op = nR C g fr hp dst op:=by
 have e : ∀ x,x ∈ op.operands->ev fr' x = ev fr x:=fun x hx=>uG fun t ht=>h t (by rw [<- ht]; exact hx)
 cases op <;> simp only [nR] <;> simp only [Op.operands] at e
 case box t x=>rw [e x (by simp)]
 case store t x y=>rw [e x (by simp),e y (by simp)]
 case makeSlice t x y=>rw [e x (by simp),e y (by simp)]
 case mapEntry t m k=>rw [e m (by simp),e k (by simp)]
 case mapUpdate t m k y=>rw [e m (by simp),e k (by simp),e y (by simp)]
 case entryStore t m n y=>rw [e m (by simp),e n (by simp),e y (by simp)]
 case buildSlice t n parts =>
  have hb : ∀ (τ : Ty) (c : τ.den),i6 (fun x=>rd hp (dd (un g (ev fr' x)))) τ parts.toList c = i6 (fun x=>rd hp (dd (un g (ev fr x)))) τ parts.toList c:=fun τ c=>ly _ _ fun p hq=>by rw [e p.2 (by simpa using mc hq)]
  have hl : parts.toList.map (fun p=>dd (un g (ev fr' p.2))) = parts.toList.map (fun p=>dd (un g (ev fr p.2))):=map_congr_left fun p hq=>by rw [e p.2 (by simpa using mc hq)]
  simp only [hb,hl]
 case slice t x lo hi mx =>
  have el : ∀ y,lo = some y->dd (un g (ev fr' y)) = dd (un g (ev fr y)):=fun y hy=>by rw [e y (by simp [hy])]
  have eh : ∀ y,hi = some y->dd (un g (ev fr' y)) = dd (un g (ev fr y)):=fun y hy=>by rw [e y (by simp [hy])]
  have em : ∀ y,mx = some y->dd (un g (ev fr' y)) = dd (un g (ev fr y)):=fun y hy=>by rw [e y (by simp [hy])]
  have b3 : ∀ (τ : Ty) (l : List τ.den),ky (fun x=>dd (un g (ev fr' x))) τ l lo hi mx = ky (fun x=>dd (un g (ev fr x))) τ l lo hi mx:=fun τ l=>uM el eh em
  simp only [b3,e x (by simp)]
 case call c =>
  have et : target C (fun x=>un g (ev fr' x)) c = target C (fun x=>un g (ev fr x)) c:=ug fun x hx=>by rw [e x hx]
  have ea : ∀ x,x ∈ c.args.toList->ev fr' x = ev fr x:=fun x hx=>e x (by simp [Call.operands]; right; simpa using hx)
  simp only [et]
  cases hc : c.callee with
  | builtin b =>
   cases b <;> try rfl
   all_goals
    rcases hl : c.args.toList with _ | ⟨x,_ | ⟨y,_ | ⟨z,r⟩⟩⟩ <;> try rfl
    have hx:=ea x (by rw [hl]; simp)
    have hy:=ea y (by rw [hl]; simp)
    rcases c.argTypes.toList with _ | ⟨t,_ | ⟨t',_ | ⟨t'',r⟩⟩⟩ <;> first | rfl | simp only [hx,hy]
  | value f=>rfl
  | invoke r m=>rfl
theorem sO {ops : Array Oper} {fr fr' : List V} {o : Oper} (h : ∀ t ∈ o.looksAt ops,nth fr' t = nth fr t) : guardOf ops fr' o = guardOf ops fr o:=by
 unfold guardOf
 cases hg : o.guard with
 | none=>rfl
 | some jw =>
  obtain ⟨j,w⟩:=jw
  simp only
  cases hd : (ops[j]?).bind (·.dst) with
  | none=>rfl
  | some d =>
   simp only
   have : d ∈ o.looksAt ops:=mem_append_right _ (by simp [hg,hd])
   rw [h d this]
theorem OH {fr fr' : List V} {o : Oper} (h : ∀ t,Operand.tmp t ∈ o.op.operands->nth fr' t = nth fr t) : o.op.operands.toList.map (ev fr') = o.op.operands.toList.map (ev fr) :=
 map_congr_left fun x hx=>uG fun t ht=>h t (by rw [<- ht]; simpa using hx)
def wg : Op->Bool
 | .lookup _ _ _ _=>true
 | _=>false
def Lc : Op->Bool
 | .move _=>true
 | .assign _=>true
 | _=>false
theorem DN {S : St} {o : Oper} (hl : wg o.op = false) (hm : Lc o.op = false) : ∀ i ∈ V.gS (o.op.operands.toList.map (ev S.fr)),i ∈ n9 S o:=by
 intro i hi
 unfold n9
 split
 ·split
  ·exact hi
  ·exact J6 i hi
 ·rename_i h; rw [h] at hl; cases hl
 ·rename_i h; rw [h] at hm; cases hm
 ·rename_i h; rw [h] at hm; cases hm
 ·exact hi
def nS : Option jz->Option jz->Prop
 | some (.map κ ν l),b=>∃ l' : List (κ.den × ν.den),b = some (.map κ ν l') /\ ∀ k,getM (ax κ) k ν.zero l' = getM (ax κ) k ν.zero l
 | a,b=>b = a
abbrev L0 (L : List Nat) (hp hp' : aL) : Prop:=∀ i ∈ L,nS (aq hp i) (aq hp' i)
theorem nS.refl (b : Option jz) : nS b b:=by
 cases b with
 | none=>exact rfl
 | some b=>cases b <;> first | exact rfl | exact ⟨_,rfl,fun _=>rfl⟩
theorem nS.symm {a b : Option jz} (h : nS a b) : nS b a:=by
 cases a with
 | none=>have e : b = none:=h; rw [e]; rfl
 | some a=>cases a with
  | map κ ν l=>obtain ⟨l',e,h⟩:=h; subst e; exact ⟨l,rfl,fun k=>(h k).symm⟩
  | cell t v z=>have e : b = _:=h; rw [e]; rfl
  | buf t l v z=>have e : b = _:=h; rw [e]; rfl
theorem nS.trans {a b c : Option jz} (h : nS a b) (k : nS b c) : nS a c:=by
 cases a with
 | none=>have e : b = none:=h; subst e; exact k
 | some a=>cases a with
  | map κ ν l=>obtain ⟨l',e,h⟩:=h; subst e; obtain ⟨l2,e,k⟩:=k; subst e; exact ⟨l2,rfl,fun x=>(k x).trans (h x)⟩
  | cell t v z=>have e : b = _:=h; subst e; exact k
  | buf t l v z=>have e : b = _:=h; subst e; exact k
theorem nS.of_eq {a b : Option jz} (h : b = a) : nS a b:=by subst h; exact .refl _
theorem JP {C : Ctx} {g : Option Gd} {fr : List V} {hp hp' : aL} {op : Op} (hl : wg op = true) (h : L0 (V.gS (op.operands.toList.map (ev fr))) hp hp') : lZ C g fr hp' op = lZ C g fr hp op:=by
 cases op <;> first | (cases hl; done) | skip
 rename_i t m k c
 simp only [lZ]
 have hm : ∀ id,dd (un g (ev fr m)) = .map id->nS (aq hp id) (aq hp' id):=fun id he=>h id (by
  refine vk (x:=m) (by simp [Op.operands]) id (vj g _ id (GR _ id ?_))
  rw [he]; simp [V.ids])
 generalize dd (un g (ev fr m)) = v at hm ⊢
 cases c <;> try rfl
 cases look C.mp t <;> try rfl
 rename_i tkv
 obtain ⟨tk,tv⟩:=tkv
 cases v <;> try rfl
 rename_i id
 cases dd (un g (ev fr k)) <;> try rfl
 have hi:=hm id rfl
 simp only
 cases look C.ty tk <;> try rfl
 cases look C.ty tv <;> try rfl
 cases hb : aq hp id with
 | none=>rw [hb] at hi; have hi : aq hp' id = none:=hi; rw [hi]
 | some b =>
  cases b with
  | map κ ν l =>
   rw [hb] at hi
   obtain ⟨l',e,hg⟩:=hi
   rw [e]
   simp only [hg]
  | cell t v z=>rw [hb] at hi; have hi : aq hp' id = _:=hi; rw [hi]
  | buf t l v z=>rw [hb] at hi; have hi : aq hp' id = _:=hi; rw [hi]
theorem Jo {C : Ctx} {g : Option Gd} {fr : List V} {hp : aL} {dst : Option Nat} {op : Op} (hl : wg op = true) : nR C g fr hp dst op = none:=by
 cases op <;> first | (cases hl; done) | rfl
theorem Nf {C : Ctx} {g : Option Gd} {fr : List V} {hp : aL} {dst : Option Nat} {op : Op} (hl : Lc op = true) : nR C g fr hp dst op = none:=by
 cases op <;> first | (cases hl; done) | rfl
theorem Oz {C : Ctx} {g : Option Gd} {fr : List V} {hp hp' : aL} {op : Op} (hl : Lc op = true) : lZ C g fr hp' op = lZ C g fr hp op:=by
 cases op <;> first | (cases hl; done) | rfl
theorem om {S S' : St} {o : Oper} (hf : ∀ t,Operand.tmp t ∈ o.op.operands->nth S'.fr t = nth S.fr t) : lR S' o = lR S o:=by
 unfold lR
 rw [show o.op.operands.toList.map (ev S'.fr) = o.op.operands.toList.map (ev S.fr) from map_congr_left fun x hx=>uG fun t ht=>hf t (by rw [<- ht]; simpa using hx)]
theorem Gh {S : St} {o : Oper} (hl : wg o.op = true) : lR S o = V.gS (o.op.operands.toList.map (ev S.fr)):=by
 unfold lR
 cases h : o.op <;> rw [h] at hl <;> first | rfl | cases hl
theorem G8 {S : St} {o : Oper} {c : Call} (hc : o.op = .call c) (hb : ∀ b,c.callee ≠ .builtin b) : n9 S o = reach S.hp (o.op.operands.toList.map (ev S.fr)):=by
 unfold n9
 grind
theorem qa {S S' : St} {o : Oper} (hf : ∀ t,Operand.tmp t ∈ o.op.operands->nth S'.fr t = nth S.fr t) (h : gq (n9 S o) S.hp S'.hp) : n9 S' o = n9 S o:=by
 unfold n9 at h ⊢
 rw [OH hf]
 revert h
 split
 ·split
  ·intro _; rfl
  ·intro h; exact pN 6 _ h
 ·intro _; rfl
 ·intro _; rfl
 ·intro _; rfl
 ·intro _; rfl
def act (C : Ctx) (g : Option Gd) (o : Oper) (fr : List V) (hp : aL) : Option (V × List Nat × aL) :=
 match lZ C g fr hp o.op with
 | some (.val c i v)=>DG g c i (some (tag g (ja C o.type v),[],hp))
 | some (.call F a _ _)=>(LX g F a).bind fun r=>some (tag g (ja C o.type (F.out r)),[],hp)
 | some (.new v)=>some (tag g (ja C o.type v),[],hp)
 | some _=>none
 | none =>
  match AD g with
  | none=>none
  | some false=>some (tag g .any,[],hp)
  | some true=>match nR C g fr hp o.dst o.op with
   | some (.eff c i v h wr)=>DG none c i (some (tag g (ja C o.type v),wr,h))
   | some (.call F a h wr)=>(F.run a).bind fun r=>some (tag g (ja C o.type (F.out r)),wr,h)
   | some (.sh s L)=>s.o.bind fun y=>match kh hp (uH L (s.f y).2) && once ((s.f y).2.map (·.1)) with
    | true=>some (tag g (ja C o.type (s.f y).1),L ++ (s.f y).2.map (·.1),ij (s.f y).2 hp)
    | false=>none
   | _=>none
theorem HS {α : Type} {C : Ctx} {g : Option Gd} {o : Oper} {S : St} {K : List Nat->St->Option α} : T C g o S K = (act C g o S.fr S.hp).bind fun r=>K r.2.1 ⟨kj S.fr o.dst r.1,r.2.2⟩:=by
 unfold T act
 cases hv : lZ C g S.fr S.hp o.op with
 | none =>
  simp only
  cases AD g with
  | none=>rfl
  | some b =>
   cases b with
   | false=>rfl
   | true =>
    simp only
    cases he : nR C g S.fr S.hp o.dst o.op with
    | none=>rfl
    | some r =>
     cases r with
     | eff c i v hp wr=>simp only [DG]; split <;> rfl
     | call F a hp wr=>simp only; cases F.run a <;> rfl
     | sh s L =>
      simp only
      cases s.o with
      | none=>rfl
      | some y=>simp only [bind_some,s.ok]; cases kh S.hp (uH L (s.f y).2) && once ((s.f y).2.map (·.1)) <;> rfl
     | val c i v=>rfl
     | new v=>rfl
 | some r =>
  cases r with
  | val c i v=>cases g <;> simp only [DG] <;> split <;> rfl
  | call F a hp wr=>simp only; cases LX g F a <;> rfl
  | new v=>rfl
  | eff c i v hp wr=>rfl
  | sh s L=>rfl
theorem Br {C : Ctx} {g : Option Gd} {o : Oper} {fr fr' : List V} {hp : aL} (h : ∀ t,Operand.tmp t ∈ o.op.operands->nth fr' t = nth fr t) : act C g o fr' hp = act C g o fr hp:=by
 unfold act
 rw [GP h,Gm h]
theorem B7 {i : Nat} : ∀ (d hp hp' : aL),aq hp' i = aq hp i->aq (ij d hp') i = aq (ij d hp) i
 | [],_,_,h=>h
 | (j,b) :: r,hp,hp',h=>by
  simp only [ij]
  rw [bG,bG,B7 r _ _ h]
theorem tB {i : Nat} : ∀ (d hp : aL),i ∉ d.map (·.1)->aq (ij d hp) i = aq hp i
 | [],_,_=>rfl
 | (j,b) :: r,hp,h=>by
  simp only [map_cons,mem_cons,not_or] at h
  simp only [ij]
  rw [bG,if_neg h.1,tB r _ h.2]
theorem ti {hp hp' : aL} : ∀ l : List Nat,gq l hp hp'->kh hp' l = kh hp l
 | [],_=>rfl
 | i :: r,h=>by simp only [kh,kX (h i (by simp)),ti r fun j hj=>h j (mem_cons_of_mem _ hj)]
theorem rP {C : Ctx} {g : Option Gd} {o : Oper} {S : St} {hp' : aL} {v : V} {wr : List Nat} {h : aL} (ha : act C g o S.fr S.hp = some (v,wr,h)) (hf : gq (n9 S o) S.hp hp') (hw : gq wr S.hp hp') (hfv : L0 (lR S o) S.hp hp') :
  ∃ h',act C g o S.fr hp' = some (v,wr,h') /\ Loc S.hp h hp' h' wr:=by
 have hv' : lZ C g S.fr hp' o.op = lZ C g S.fr S.hp o.op:=by
  cases hl : wg o.op with
  | true=>rw [Gh hl] at hfv; exact JP hl hfv
  | false =>
   cases hm : Lc o.op with
   | true=>exact Oz hm
   | false=>exact Gf (hf.sub (DN hl hm))
 unfold act at ha ⊢
 rw [hv']
 cases hv : lZ C g S.fr S.hp o.op with
 | none =>
  rw [hv] at ha
  simp only at ha ⊢
  cases hd : AD g with
  | none=>rw [hd] at ha; cases ha
  | some b =>
   rw [hd] at ha
   cases b with
   | false=>cases ha; exact ⟨_,rfl,.nil⟩
   | true =>
    simp only at ha ⊢
    cases he : nR C g S.fr S.hp o.dst o.op with
    | none=>rw [he] at ha; cases ha
    | some r =>
     rw [he] at ha
     have loc : gq r.wr S.hp hp'->∃ o',nR C g S.fr hp' o.dst o.op = some o' /\ rl S.hp hp' r o':=fun hw'=>GN he (hf.sub (DN (by
      cases hl : wg o.op with
      | false=>rfl
      | true=>rw [Jo hl] at he; cases he) (by
      cases hm : Lc o.op with
      | false=>rfl
      | true=>rw [Nf hm] at he; cases he))) (fun c hc hb=>by rw [G8 hc hb] at hf; exact hf) hw'
     cases r with
     | eff c i v' h2 w2 =>
      simp only at ha
      obtain ⟨hc,e⟩:=rA ha (fun _ e=>by cases e)
      cases e
      obtain ⟨o',l1,l2⟩:=loc hw
      cases l2 with
      | eff l =>
       rw [l1]
       refine ⟨_,?_,l⟩
       simp only [DG]
       split
       ·rfl
       ·rename_i hn; exact absurd hc hn
     | call F a h2 w2 =>
      simp only at ha
      obtain ⟨y,h1,h3⟩:=Option.bind_eq_some_iff.1 ha
      cases h3
      obtain ⟨o',l1,l2⟩:=loc hw
      cases l2 with
      | call l =>
       rw [l1]
       exact ⟨_,by simp only [h1,bind_some],l⟩
     | sh s L =>
      simp only at ha
      obtain ⟨y,h1,h3⟩:=Option.bind_eq_some_iff.1 ha
      have hz : (kh S.hp (uH L (s.f y).2) && once ((s.f y).2.map (·.1))) = true:=by
       grind
      rw [hz] at h3
      cases h3
      obtain ⟨o',l1,l2⟩:=loc (fun i hi=>by simp [Out.wr] at hi)
      cases l2 with
      | sh =>
       rw [l1]
       refine ⟨ij (s.f y).2 hp',?_,?_⟩
       ·simp only [h1,bind_some]
        rw [ti (hp:=S.hp),hz]
        intro i hi
        refine hw i (mem_append_right _ ?_)
        simp only [uH,List.mem_filter] at hi
        exact hi.1
       ·refine ⟨fun i hi=>B7 _ _ _ (hw i hi),fun i hi=>tB _ _ ?_,fun i hi=>tB _ _ ?_⟩
        all_goals exact fun h=>hi (mem_append_right _ h)
     | val c i v=>cases ha
     | new v=>cases ha
 | some r =>
  rw [hv] at ha
  cases r with
  | val c i v' =>
   simp only at ha ⊢
   have : ∀ (hq : aL),DG g c i (some (tag g (ja C o.type v'),([] : List Nat),hq)) = (DG g c i (some (tag g (ja C o.type v')))).map fun u=>(u,[],hq):=fun hq=>by cases g <;> simp only [DG] <;> split <;> rfl
   rw [this] at ha ⊢
   obtain ⟨u,h1,h2⟩:=Option.map_eq_some_iff.1 ha
   cases h2
   exact ⟨hp',by rw [h1]; rfl,.nil⟩
  | call F a hp wr =>
   simp only at ha ⊢
   obtain ⟨y,h1,h2⟩:=Option.bind_eq_some_iff.1 ha
   cases h2
   exact ⟨hp',by rw [h1]; rfl,.nil⟩
  | new v'=>cases ha; exact ⟨hp',rfl,.nil⟩
  | eff c i v hp wr=>cases ha
  | sh s L=>cases ha
def qm (d : Option Nat) (fr : List V) : Prop:=∀ d',d = some d'->∀ t,oO d' (nth fr t) = nth fr t
theorem Ia : ∀ {l m : List V},l.length = m.length->(∀ t,nth l t = nth m t)->l = m
 | [],[],_,_=>rfl
 | a :: l,b :: m,hl,h=>by
  have h0 : a = b:=h 0
  have:=Ia (l:=l) (m:=m) (by simpa using hl) (fun t=>h (t + 1))
  rw [h0,this]
 | [],_ :: _,hl,_=>by simp at hl
 | _ :: _,[],hl,_=>by simp at hl
def IU (fr : List V) : Option Nat->V->List V
 | none,_=>fr
 | some d,v=>fr.set d v
theorem kW {d : Option Nat} {fr : List V} (h : qm d fr) (v : V) : kj fr d v = IU fr d v:=by
 cases d with
 | none=>rfl
 | some d =>
  simp only [kj,IU]
  congr 1
  exact Ia (by simp) fun t=>by rw [qj _ rfl]; exact h d rfl t
theorem Fz {d : Option Nat} {fr : List V} (h : qm d fr) (v : V) (t : Nat) (ht : d ≠ some t) : nth (kj fr d v) t = nth fr t:=by
 rw [kW h]
 cases d with
 | none=>rfl
 | some d=>simp only [IU]; rw [pO,if_neg]; exact fun e=>ht (by rw [e.1])
section
variable {P : Program} {C : Ctx} {G0 : GE} {S : St} {a : Act} {w : World} {ops : Array Oper}
theorem Jp {d : Nat} {g : Option Gd} {v : V} {C : Ctx} {ty : Nat} (h : ∀ gd,g = some gd->gd.d ≠ d) : oO d (tag g (ja C ty v)) = tag g (ja C ty v):=by
 cases g with
 | none=>cases v <;> simp only [ja,tag] <;> first | rfl | (split <;> rfl)
 | some gd =>
  simp only [tag,oO]
  rw [if_neg]
  intro e
  exact h gd rfl (eq_of_beq_eq_true e)
theorem Ap {fr : List V} {o : Oper} {gd : Gd} (h : guardOf ops fr o = some (some gd)) : gd.d ∈ o.looksAt ops /\ ∃ j w,o.guard = some (j,w) /\ (ops[j]?).bind (·.dst) = some gd.d:=by
 unfold guardOf at h
 cases hg : o.guard with
 | none=>rw [hg] at h; cases h
 | some jw =>
  obtain ⟨j,w⟩:=jw
  rw [hg] at h
  simp only at h
  cases hd : (ops[j]?).bind (·.dst) with
  | none=>rw [hd] at h; cases h
  | some d =>
   rw [hd] at h
   simp only at h
   have hm : d ∈ o.looksAt ops:=mem_append_right _ (by simp [hg,hd])
   split at h
   ·cases h
   ·split at h <;> first | (cases h; exact ⟨hm,j,w,rfl,hd⟩) | cases h
theorem Np {g : Option Gd} {o : Oper} {fr : List V} {hp : aL} {r} (h : act C g o fr hp = some r) : ∃ v,r.1 = tag g (ja C o.type v):=by
 unfold act at h
 cases hv : lZ C g fr hp o.op with
 | none =>
  rw [hv] at h
  simp only at h
  cases hd : AD g with
  | none=>rw [hd] at h; cases h
  | some b =>
   rw [hd] at h
   cases b with
   | false=>cases h; exact ⟨.any,rfl⟩
   | true =>
    simp only at h
    cases he : nR C g fr hp o.dst o.op with
    | none=>rw [he] at h; cases h
    | some q =>
     rw [he] at h
     cases q with
     | eff c i v hp wr=>obtain ⟨_,e⟩:=rA h (fun _ e=>by cases e); subst e; exact ⟨v,rfl⟩
     | call F a hp wr=>obtain ⟨y,_,e⟩:=Option.bind_eq_some_iff.1 h; cases e; exact ⟨_,rfl⟩
     | sh s L =>
      obtain ⟨y,_,e⟩:=Option.bind_eq_some_iff.1 h
      split at e
      ·cases e; exact ⟨_,rfl⟩
      ·cases e
     | val c i v=>cases h
     | new v=>cases h
 | some q =>
  rw [hv] at h
  cases q with
  | val c i v =>
   refine ⟨v,?_⟩
   cases g <;> simp only [DG] at h <;> split at h <;> first | (cases h; rfl) | cases h
  | call F a hp wr=>obtain ⟨y,_,e⟩:=Option.bind_eq_some_iff.1 h; cases e; exact ⟨_,rfl⟩
  | new v=>cases h; exact ⟨v,rfl⟩
  | eff c i v hp wr=>cases h
  | sh s L=>cases h
theorem vw {g : Option Gd} {o : Oper} {fr fr' : List V} {hp : aL} {r} (hg : guardOf ops fr' o = some g) (h : act C g o fr hp = some r) {d : Nat} (hd : ∀ j w,o.guard = some (j,w)->(ops[j]?).bind (·.dst) ≠ some d) : oO d r.1 = r.1:=by
 obtain ⟨v,e⟩:=Np h
 rw [e]
 refine Jp fun gd he hed=>?_
 subst he
 obtain ⟨_,j,w,h1,h2⟩:=Ap hg
 grind
theorem CZ {g : Option Gd} {o : Oper} {v : V} {wr : List Nat} {h : aL} (ha : act C g o S.fr S.hp = some (v,wr,h)) : ∀ i,i ∉ wr->aq h i = aq S.hp i:=by
 obtain ⟨_,_,l⟩:=rP ha (fun _ _=>rfl) (fun _ _=>rfl) (fun _ _=>nS.refl _)
 exact l.off
theorem BV {κ ν : Type} (eq : κ->κ->Bool) (k k' : κ) (z : ν) : ∀ l : List (κ × ν),getM eq k z (l ++ [(k',z)]) = getM eq k z l
 | []=>by simp only [List.nil_append,getM]; split <;> rfl
 | p :: l=>by simp only [List.cons_append,getM,BV eq k k' z l]
theorem Jm {κ ν : Type} (eq : κ->κ->Bool) (k k' : κ) (z : ν) (l : List (κ × ν)) : getM eq k z (oT eq k' z l) = getM eq k z l:=by
 unfold oT
 split
 ·rfl
 ·exact BV eq k k' z l
theorem BH {g : Option Gd} {o : Oper} {v : V} {wr : List Nat} {h : aL} (ha : act C g o S.fr S.hp = some (v,wr,h)) : ∀ i,i ∉ yK o.op wr->nS (aq S.hp i) (aq h i):=by
 intro i hi
 by_cases hm : ∃ t m k,o.op = .mapEntry t m k
 ·by_cases hw : i ∈ wr
  ·obtain ⟨t,m,k,ho⟩:=hm
   unfold act at ha
   rw [ho] at ha
   have hv : lZ C g S.fr S.hp (.mapEntry t m k) = none:=rfl
   rw [hv] at ha
   simp only at ha
   cases hd : AD g with
   | none=>rw [hd] at ha; cases ha
   | some b =>
    rw [hd] at ha
    cases b with
    | false=>cases ha; simp at hw
    | true =>
     simp only at ha
     cases he : nR C g S.fr S.hp o.dst (.mapEntry t m k) with
     | none=>rw [he] at ha; cases ha
     | some r =>
      rw [he] at ha
      simp only [nR] at he
      split at he
      ·split at he
       ·rename_i κ0 ν0 κ ν l hk hn hb
        split at he
        ·rename_i hq
         subst hq
         split at he
         ·cases he
          obtain ⟨_,e⟩:=rA ha (fun _ e=>by cases e)
          cases e
          simp only [mem_singleton] at hw
          subst hw
          rw [bG,if_pos rfl,hb]
          exact ⟨_,rfl,fun k=>Jm _ _ _ _ _⟩
         ·cases he
        ·cases he
       ·cases he
      ·cases he
  ·exact .of_eq (CZ ha i hw)
 ·have : yK o.op wr = wr:=by
   cases ho : o.op <;> first | rfl | exact absurd ⟨_,_,_,ho⟩ hm
  rw [this] at hi
  exact .of_eq (CZ ha i hi)
theorem rW {o : Oper} {wr : List Nat} {S' : St} (h : og C ops o S = some (wr,S')) : ∃ g v,guardOf ops S.fr o = some g /\ act C g o S.fr S.hp = some (v,wr,S'.hp) /\ S'.fr = kj S.fr o.dst v:=by
 unfold og at h
 cases hg : guardOf ops S.fr o with
 | none=>rw [hg] at h; cases h
 | some g =>
  rw [hg] at h
  simp only [HS] at h
  obtain ⟨⟨v,wr',h'⟩,h1,h2⟩:=Option.bind_eq_some_iff.1 h
  cases h2
  exact ⟨g,v,rfl,h1,rfl⟩
theorem pE {o : Oper} {wr : List Nat} {g : Option Gd} {v : V} {h : aL} (hg : guardOf ops S.fr o = some g) (ha : act C g o S.fr S.hp = some (v,wr,h)) : og C ops o S = some (wr,⟨kj S.fr o.dst v,h⟩):=by
 unfold og
 rw [hg]
 simp only [HS,ha,bind_some]
def CW (S S' : St) : Prop:=S'.fr = S.fr /\ ∀ i,aq S'.hp i = aq S.hp i
theorem CW.refl (S : St) : CW S S:=⟨rfl,fun _=>rfl⟩
theorem CW.trans {S1 S2 S3 : St} (h : CW S1 S2) (k : CW S2 S3) : CW S1 S3:=⟨k.1.trans h.1,fun i=>(k.2 i).trans (h.2 i)⟩
theorem JS {o : Oper} {wr : List Nat} {S1 S' : St} (h : og C ops o S = some (wr,S1)) (e : CW S S') : ∃ S1',og C ops o S' = some (wr,S1') /\ n9 S' o = n9 S o /\ lR S' o = lR S o /\ CW S1 S1':=by
 obtain ⟨g,v,h1,h2,h3⟩:=rW h
 obtain ⟨h',l1,l2⟩:=rP (hp':=S'.hp) h2 (fun i _=>e.2 i) (fun i _=>e.2 i) (fun i _=>.of_eq (e.2 i))
 refine ⟨⟨kj S.fr o.dst v,h'⟩,?_,qa (fun t _=>by rw [e.1]) (fun i _=>e.2 i),om (fun t _=>by rw [e.1]),h3.symm,fun i=>?_⟩
 ·have:=pE (C:=C) (ops:=ops) (S:=S') (o:=o) (wr:=wr) (g:=g) (v:=v) (h:=h') (by rw [e.1]; exact h1) (by rw [e.1]; exact l1)
  rw [this,e.1]
 ·by_cases hi : i ∈ wr
  ·exact l2.on i hi
  ·exact (l2.off' i hi).trans ((e.2 i).trans (l2.off i hi).symm)
inductive v8 (C : Ctx) (ops : Array Oper) : List (Nat × Rec)->St->St->Prop
 | nil (S : St) : v8 C ops [] S S
 | cons {i : Nat} {r : Rec} {o : Oper} {m : List (Nat × Rec)} {S S1 Se : St} (ho : ops[i]? = some o) (hs : og C ops o S = some (r.wr,S1)) (hr : n9 S o = r.rd /\ lR S o = r.rv /\ r.wv = yK o.op r.wr) (h : v8 C ops m S1 Se) : v8 C ops ((i,r) :: m) S Se
theorem v8.eqv {m : List (Nat × Rec)} {S Se : St} (h : v8 C ops m S Se) : ∀ {S' : St},CW S S'->∃ Se',v8 C ops m S' Se' /\ CW Se Se':=by
 induction h with
 | nil S=>exact fun e=>⟨_,.nil _,e⟩
 | cons ho hs hr _ ih =>
  intro S' e
  obtain ⟨S1',g1,g2,g2v,g3⟩:=JS hs e
  obtain ⟨Se',k1,k2⟩:=ih g3
  exact ⟨Se',.cons ho g1 ⟨g2.trans hr.1,g2v.trans hr.2.1,hr.2.2⟩ k1,k2⟩
theorem yR {o : Oper} {wr : List Nat} {S' : St} (hs : og C ops o S = some (wr,S')) {d : Nat} (hd : ∀ j w,o.guard = some (j,w)->(ops[j]?).bind (·.dst) ≠ some d) (h : qm (some d) S.fr) : qm (some d) S'.fr:=by
 obtain ⟨g,v,e0,e1,e2⟩:=rW hs
 intro d' hd' t
 cases hd'
 rw [e2]
 cases hdst : o.dst with
 | none=>exact h d rfl t
 | some dx =>
  simp only [kj]
  rw [pO,qj _ rfl]
  split
  ·exact vw e0 e1 hd
  ·have:=h d rfl t
   cases hv : nth S.fr t with
   | opt d' w' u' =>
    rw [hv] at this
    by_cases hx : beq d' dx = true
    ·simp only [oO,hx,if_true]
    ·simp only [oO,hx] at this ⊢
     exact this
   | _=>rfl
theorem mD {a b : List Nat} (h : tA a b = true) : ∀ i ∈ b,i ∉ a:=by
 intro i hb ha
 simp only [tA,Bool.not_eq_true',List.any_eq_false] at h
 exact h i ha (mem_iff.2 hb)
theorem comm {ox oi : Oper} {rx ri : Rec} (hap : ox.apart ops oi = true) (hr : pP rx ri = true) (hx : qm ox.dst S.fr) (hi : qm oi.dst S.fr) {S1 S2 : St} (s1 : og C ops ox S = some (rx.wr,S1)) (f1 : n9 S ox = rx.rd /\ lR S ox = rx.rv /\ rx.wv = yK ox.op rx.wr)
  (s2 : og C ops oi S1 = some (ri.wr,S2)) (f2 : n9 S1 oi = ri.rd /\ lR S1 oi = ri.rv /\ ri.wv = yK oi.op ri.wr) :
  ∃ S1' S2',og C ops oi S = some (ri.wr,S1') /\ (n9 S oi = ri.rd /\ lR S oi = ri.rv /\ ri.wv = yK oi.op ri.wr) /\ og C ops ox S1' = some (rx.wr,S2') /\ (n9 S1' ox = rx.rd /\ lR S1' ox = rx.rv /\ rx.wv = yK ox.op rx.wr) /\ CW S2 S2':=by
 obtain ⟨a1,a2,a3⟩:=Oper.apart_spec hap
 simp only [pP,and_eq_true] at hr
 obtain ⟨⟨⟨⟨p1,p2⟩,p3⟩,p4⟩,p5⟩:=hr
 obtain ⟨f1,f1v,f1w⟩:=f1
 obtain ⟨f2,f2v,f2w⟩:=f2
 have q4:=mD p4
 have q5:=mD p5
 have q1:=mD p1
 have q2:=mD p2
 have q3:=mD p3
 obtain ⟨gx,vx,x1,x2,x3⟩:=rW s1
 obtain ⟨gi,vi,i1,i2,i3⟩:=rW s2
 have guardLooks : ∀ (o : Oper) j w d,o.guard = some (j,w)->(ops[j]?).bind (·.dst) = some d->d ∈ o.looksAt ops:=fun o j w d hg hd=>mem_append_right _ (by simp [hg,hd])
 have lkx : ∀ t ∈ oi.looksAt ops,nth S1.fr t = nth S.fr t:=fun t ht=>by rw [x3]; exact Fz hx vx t fun e=>a1 t e ht
 have i1' : guardOf ops S.fr oi = some gi:=by rw [<- sO lkx]; exact i1
 have i2' : act C gi oi S.fr S1.hp = some (vi,ri.wr,S2.hp):=by rw [<- Br fun t ht=>lkx t (nz ht)]; exact i2
 have fi : n9 ⟨S.fr,S1.hp⟩ oi = ri.rd:=by
  rw [<- f2]; exact qa (S:=S1) (S':=⟨S.fr,S1.hp⟩) (fun t ht=>(lkx t (nz ht)).symm) (fun _ _=>rfl)
 have off1:=CZ (S:=S) x2
 have offv1:=BH (S:=S) x2
 have fvi : lR ⟨S.fr,S1.hp⟩ oi = ri.rv:=by
  rw [<- f2v]; exact om (S:=S1) (S':=⟨S.fr,S1.hp⟩) (fun t ht=>(lkx t (nz ht)).symm)
 obtain ⟨h',l1,l2⟩:=rP (S:=⟨S.fr,S1.hp⟩) (hp':=S.hp) i2' (fun i hi=>by rw [fi] at hi; exact (off1 i (q1 i hi)).symm) (fun i hi=>(off1 i (q2 i hi)).symm) (fun i hi=>by rw [fvi] at hi; exact (offv1 i (by rw [<- f1w]; exact q4 i hi)).symm)
 have offvi:=BH (S:=S) l1
 have fi' : n9 S oi = ri.rd:=by
  rw [<- fi]; exact qa (S:=⟨S.fr,S1.hp⟩) (S':=S) (fun _ _=>rfl) (fun i hi=>by rw [fi] at hi; exact (off1 i (q1 i hi)).symm)
 have hix : qm oi.dst (kj S.fr ox.dst vx):=fun d hd t=>by
  rw [kW hx]
  cases hdx : ox.dst with
  | none=>exact hi d hd t
  | some d' =>
   simp only [IU]
   rw [pO]
   split
   ·exact vw x1 x2 fun j w hg hj=>a3 d hd (guardLooks ox j w d hg hj)
   ·exact hi d hd t
 have hxi : qm ox.dst (kj S.fr oi.dst vi):=fun d hd t=>by
  rw [kW hi]
  cases hdi : oi.dst with
  | none=>exact hx d hd t
  | some d' =>
   simp only [IU]
   rw [pO]
   split
   ·exact vw i1' i2' fun j w hg hj=>a1 d hd (guardLooks oi j w d hg hj)
   ·exact hx d hd t
 have frames : kj (kj S.fr oi.dst vi) ox.dst vx = kj (kj S.fr ox.dst vx) oi.dst vi:=by
  rw [kW hxi,kW hix,kW hi,kW hx]
  cases hdx : ox.dst with
  | none=>rfl
  | some d =>
   cases hdi : oi.dst with
   | none=>rfl
   | some d'=>simp only [IU]; exact List.set_comm _ _ fun e=>a2 d hdx (by rw [hdi,e])
 have lki : ∀ t ∈ ox.looksAt ops,nth (kj S.fr oi.dst vi) t = nth S.fr t:=fun t ht=>Fz hi vi t fun e=>a3 t e ht
 obtain ⟨h'',m1,m2⟩:=rP (S:=S) (hp':=h') x2 (fun i hi=>by rw [f1] at hi; exact l2.off' i (q3 i hi)) (fun i hi=>l2.off' i fun h=>q2 i h hi) (fun i hi=>by rw [f1v] at hi; exact offvi i (by rw [<- f2w]; exact q5 i hi))
 refine ⟨⟨kj S.fr oi.dst vi,h'⟩,⟨kj (kj S.fr oi.dst vi) ox.dst vx,h''⟩,pE i1' l1,⟨fi',(om (S:=⟨S.fr,S1.hp⟩) (S':=S) fun _ _=>rfl).trans fvi,f2w⟩,?_,⟨?_,(om (S:=S) fun t ht=>lki t (nz ht)).trans f1v,f1w⟩,?_,fun i=>?_⟩
 ·exact pE (S:=⟨kj S.fr oi.dst vi,h'⟩) (by rw [sO lki]; exact x1) (by rw [Br fun t ht=>lki t (nz ht)]; exact m1)
 ·rw [<- f1]
  exact qa (S:=S) (fun t ht=>lki t (nz ht)) (fun i hi=>by rw [f1] at hi; exact l2.off' i (q3 i hi))
 ·simp only; rw [frames,i3,x3]
 ·simp only
  by_cases hx' : i ∈ rx.wr
  ·rw [m2.on i hx',l2.off i fun h=>q2 i h hx']
  ·rw [m2.off' i hx']
   by_cases hi' : i ∈ ri.wr
   ·exact l2.on i hi'
   ·rw [l2.off' i hi',l2.off i hi',off1 i hx']
theorem v8.front (hD : wj ops) {i : Nat} {ri : Rec} {oi : Oper} (hoi : ops[i]? = some oi) (m2 : List (Nat × Rec)) : ∀ (m1 : List (Nat × Rec)) (S Se : St),
  ((m1 ++ (i,ri) :: m2).map (·.1)).Pairwise (· < ·)->(∀ p ∈ m1,∀ ox,ops[p.1]? = some ox->ox.apart ops oi = true /\ pP p.2 ri = true)->(∀ p ∈ m1 ++ (i,ri) :: m2,∀ o,ops[p.1]? = some o->qm o.dst S.fr) ->
  v8 C ops (m1 ++ (i,ri) :: m2) S Se->∃ Se',v8 C ops ((i,ri) :: (m1 ++ m2)) S Se' /\ CW Se Se'
 | [],S,Se,_,_,_,h=>⟨Se,h,CW.refl _⟩
 | (x,rx) :: m1,S,Se,hp,hc,ht,h=>by
  cases h with
  | @cons _ _ ox _ _ S1 _ hox s1 f1 h1 =>
   have hp':=List.pairwise_cons.1 hp
   have ht1 : ∀ p ∈ m1 ++ (i,ri) :: m2,∀ o,ops[p.1]? = some o->qm o.dst S1.fr:=fun p hj o ho=>by
    cases hd : o.dst with
    | none=>intro d' hd'; cases hd'
    | some d =>
     refine yR s1 (fun j' w' hg hj'=>?_) (by rw [<- hd]; exact ht p (mem_cons_of_mem _ hj) o ho)
     obtain ⟨e,he,hb,hej⟩:=hD.NO x ox j' w' hox hg
     have hlow:=hD.low x ox hox e he hb
     have hxj:=hp'.1 p.1 (mem_map_of_mem hj)
     cases hoj : ops[j']? with
     | none=>rw [hoj] at hj'; cases hj'
     | some oj =>
      rw [hoj] at hj'
      exact hD.dst j' p.1 oj o d hoj ho (by simp only at hxj; omega) hd hj'
   obtain ⟨Se',h2,e2⟩:=v8.front hD hoi m2 m1 S1 Se hp'.2 (fun y hy=>hc y (mem_cons_of_mem _ hy)) ht1 h1
   cases h2 with
   | @cons _ _ oi' _ _ S2 _ hoi' s2 f2 h3 =>
    rw [hoi] at hoi'; cases hoi'
    obtain ⟨c1,c2⟩:=hc (x,rx) (by simp) ox hox
    obtain ⟨S1',S2',g1,g2,g3,g4,g5⟩:=comm c1 c2 (ht (x,rx) (by simp) ox hox) (ht (i,ri) (by simp) oi hoi) s1 f1 s2 f2
    obtain ⟨Se'',k1,k2⟩:=h3.eqv g5
    exact ⟨Se'',.cons hoi g1 g2 (.cons hox g3 g4 k1),e2.trans k2⟩
end
section
variable {P : Program} {C : Ctx} {G0 : GE} {S : St} {a : Act} {w : World} {β : Nat->Option Nat} {σ : Nat->Value} {ops : Array Oper}
theorem mO.same {G : GE} {hp' : aL} (e : ∀ i,aq hp' i = aq G.hp i) : mO G (G.eW hp'):=by
 refine ⟨⟨fun b m ⟨h1,h2,h3⟩=>⟨h1,h2,fun id blk hb hβ=>h3 id blk (by rw [<- e]; exact hb) hβ⟩,fun _ _ _ _ _=>rfl⟩,fun id ver j u blk hρ hb=>?_⟩
 simp only [vH,Option.some.injEq,Prod.mk.injEq] at hρ
 obtain ⟨rfl,rfl⟩:=hρ
 exact ⟨blk,(e id).trans hb,fP.refl _ _ _ _ _ rfl rfl⟩
theorem cK.same {G : GE} (h : cK G) {hp' : aL} (e : ∀ i,aq hp' i = aq G.hp i) : cK (G.eW hp'):=by
 have e' : ∀ {i blk},aq hp' i = some blk->aq G.hp i = some blk:=fun {i blk} hb=>by rw [<- e]; exact hb
 refine ⟨h.glob.ext (mO.same e).env,fun id blk hb=>(h.blk id blk (e' hb)).jP (mO.same e) rfl rfl fun _ _ _=>rfl,fun id id' blk blk' b hb hb'=>h.inj id id' blk blk' b (e' hb) (e' hb'),fun b ⟨id,blk,hb,hβ⟩=>h.own b ⟨id,blk,e' hb,hβ⟩,h.base⟩
theorem Tr.same {G : GE} {hp' : aL} (e : ∀ i,aq hp' i = aq G.hp i) : Tr G (G.eW hp') :=
 ⟨mO.same e,rfl,rfl,rfl,le_refl _,fun _ _ _=>rfl,fun _ ⟨id,blk,hb,hβ⟩=>.inr ⟨id,blk,(e id).symm.trans hb,hβ⟩⟩
theorem Rel.eqv (h : Rel G0 S a w β σ) {S' : St} (e : CW S S') : Rel G0 S' a w β σ:=by
 have t:=Tr.same (G:=G0.at w β σ S.hp) e.2
 refine ⟨h.tr.trans t,h.ok.same e.2,h.defers,by rw [e.1]; exact h.size,fun i v hv=>?_⟩
 rw [e.1]
 exact (h.fr i v hv).ext t.jP
theorem dP.eqv (h : dP G0 S a w) {S' : St} (e : CW S S') : dP G0 S' a w:=by
 obtain ⟨β,σ,h⟩:=h
 exact ⟨β,σ,h.eqv e⟩
theorem xB {l : Array Bool} {i : Nat} (h : l.getD i true = false) : l.getD i false = false:=by
 grind
theorem IY (hC : il P C) (hD : wj ops) {Q : Exit->Act->World->Prop} {Se : St} (hQ : ∀ a w,dP G0 Se a w->Q .normal a w) : ∀ (fuel : Nat) (iK : Array Bool) (m : List (Nat × Rec)) (S Sf : St) (a : Act) (w : World),
  m.length <= fuel->(m.map (·.1)).Pairwise (· < ·)->m.Pairwise (fun p q=>FL ops p.1 q.1 \/ pP p.2 q.2 = true)->(∀ i,i ∈ m.map (·.1) ↔ i < ops.size /\ iK.getD i true = false)->iK.size = ops.size ->
  (∀ j o,ops[j]? = some o->iK.getD j false = true->∀ e ∈ o.after,Region.binds .any e = true->iK.getD e.on false = true) ->
  (∀ p ∈ m,∀ o,ops[p.1]? = some o->qm o.dst S.fr)->v8 C ops m S Sf->CW Sf Se->dP G0 S a w->wpAny P .any ops Q fuel iK a w:=by
 intro fuel
 induction fuel with
 | zero =>
  intro iK m S Sf a w hl hp _ hm hsz hdown ht hrun hE hB
  have hm0 : m = []:=List.eq_nil_of_length_eq_zero (by omega)
  subst hm0
  cases hrun
  refine ⟨?_,hQ a w (hB.eqv hE)⟩
  rw [List.eq_nil_iff_forall_not_mem]
  intro i hi
  obtain ⟨h0,o,ho,_⟩:=mem_ready.1 hi
  have:=(hm i).2 ⟨(Array.getElem?_eq_some_iff.1 ho).1,h0⟩
  cases this
 | succ fuel ih =>
  intro iK m S Sf a w hl hp hpr hm hsz hdown ht hrun hE hB
  refine ⟨fun hr=>?_,fun i hi=>?_⟩
  ·cases m with
   | nil=>cases hrun; exact hQ a w (hB.eqv hE)
   | cons x m =>
    exfalso
    obtain ⟨hx,hx0⟩:=(hm x.1).1 (by simp)
    have : x.1 ∈ Region.ready .any ops iK:=by
     refine mem_ready.2 ⟨hx0,ops[x.1],Array.getElem?_eq_getElem hx,fun e he hb=>?_⟩
     have hlow:=hD.low x.1 _ (Array.getElem?_eq_getElem hx) e he hb
     rcases Bool.eq_false_or_eq_true (iK.getD e.on false) with h | h
     ·exact h
     ·exfalso
      have hlt : e.on < iK.size:=by omega
      have : iK.getD e.on true = false:=by
       grind
      have:=(hm e.on).2 ⟨by omega,this⟩
      rw [map_cons] at this hp
      rcases List.mem_cons.1 this with h' | h'
      ·omega
      ·have:=(List.pairwise_cons.1 hp).1 _ h'; omega
    rw [hr] at this; cases this
  ·obtain ⟨h0,oi,hoi,hall⟩:=mem_ready.1 hi
   have hlt:=(Array.getElem?_eq_some_iff.1 hoi).1
   have him:=(hm i).2 ⟨hlt,h0⟩
   obtain ⟨⟨i',ri⟩,hmem,hie⟩:=List.mem_map.1 him
   simp only at hie
   subst hie
   obtain ⟨m1,m2,rfl⟩:=List.append_of_mem hmem
   have hp0:=hp
   rw [List.map_append,map_cons] at hp
   have hpw:=List.pairwise_append.1 hp
   have hprw:=List.pairwise_append.1 hpr
   have hcomm : ∀ p ∈ m1,∀ ox,ops[p.1]? = some ox->ox.apart ops oi = true /\ pP p.2 ri = true:=fun p hx ox hox=>by
    have hxi : p.1 < i':=hpw.2.2 p.1 (mem_map_of_mem hx) i' (by simp)
    have hx0:=((hm p.1).1 (mem_map_of_mem (List.mem_append_left _ hx))).2
    have nodep : ¬ FL ops p.1 i':=fun hdep=>by
     have:=hdep.iK hdown fun o ho e he hb=>by rw [hoi] at ho; cases ho; exact hall e he hb
     grind
    exact ⟨(hD.pair p.1 i' ox oi hox hoi hxi).resolve_left nodep,(hprw.2.2 p hx (i',ri) (by simp)).resolve_left nodep⟩
   obtain ⟨Sf',hfr,hE2⟩:=v8.front hD hoi m2 m1 S Sf (by rw [List.map_append,map_cons]; exact hp) hcomm ht hrun
   have hE' : CW Sf' Se:=CW.trans ⟨hE2.1.symm,fun i=>(hE2.2 i).symm⟩ hE
   cases hfr with
   | @cons _ _ oi' _ _ S1 _ hoi' s1 f1 h1 =>
   rw [hoi] at hoi'; cases hoi'
   have hsub : ∀ p,p ∈ m1 ++ m2->p ∈ m1 ++ (i',ri) :: m2 /\ p.1 ≠ i':=fun p hj=>by
    rcases List.mem_append.1 hj with h | h
    ·exact ⟨List.mem_append_left _ h,Nat.ne_of_lt (hpw.2.2 p.1 (mem_map_of_mem h) i' (by simp))⟩
    ·exact ⟨mem_append_right _ (mem_cons_of_mem _ h),Nat.ne_of_gt ((List.pairwise_cons.1 hpw.2.1).1 p.1 (mem_map_of_mem h))⟩
   have hlen : (m1 ++ m2).length <= fuel:=by simp at hl ⊢; omega
   have hsl : (m1 ++ m2).Sublist (m1 ++ (i',ri) :: m2):=by simp
   have hp2 : ((m1 ++ m2).map (·.1)).Pairwise (· < ·):=hp0.sublist (hsl.map _)
   have hpr2:=hpr.sublist hsl
   have hm2 : ∀ j,j ∈ (m1 ++ m2).map (·.1) ↔ j < ops.size /\ (iK.setIfInBounds i' true).getD j true = false:=fun j=>by
    by_cases hji : j = i'
    ·subst hji
     refine ⟨fun h=>?_,fun ⟨_,h⟩=>?_⟩
     ·obtain ⟨p,hp,e⟩:=List.mem_map.1 h
      exact absurd e (hsub p hp).2
     ·simp [hsz,hlt] at h
    ·rw [getD_set_ne true (Ne.symm hji),<- hm j]
     constructor
     ·intro h
      obtain ⟨p,hp,e⟩:=List.mem_map.1 h
      exact List.mem_map.2 ⟨p,(hsub p hp).1,e⟩
     ·intro h
      obtain ⟨p,hp,e⟩:=List.mem_map.1 h
      rcases List.mem_append.1 hp with h | h
      ·exact List.mem_map.2 ⟨p,List.mem_append_left _ h,e⟩
      ·rcases List.mem_cons.1 h with h | h
       ·subst h; exact absurd e.symm hji
       ·exact List.mem_map.2 ⟨p,mem_append_right _ h,e⟩
   have hdown2 : ∀ j o,ops[j]? = some o->(iK.setIfInBounds i' true).getD j false = true->∀ e ∈ o.after,Region.binds .any e = true->(iK.setIfInBounds i' true).getD e.on false = true:=fun j o ho hj e he hb=>by
    refine getD_set_true ?_
    by_cases hji : j = i'
    ·subst hji; rw [hoi] at ho; cases ho; exact hall e he hb
    ·rw [getD_set_ne false (Ne.symm hji)] at hj; exact hdown j o ho hj e he hb
   have ht2 : ∀ p ∈ m1 ++ m2,∀ o,ops[p.1]? = some o->qm o.dst S1.fr:=fun p hj o ho=>by
    cases hd : o.dst with
    | none=>intro d' hd'; cases hd'
    | some d =>
     refine yR s1 (fun j' w' hg hj'=>?_) (by rw [<- hd]; exact ht p (hsub p hj).1 o ho)
     obtain ⟨e,he,hb,hej⟩:=hD.NO i' oi j' w' hoi hg
     have hl':=hall e he hb
     cases hoj : ops[j']? with
     | none=>rw [hoj] at hj'; cases hj'
     | some oj =>
      rw [hoj] at hj'
      refine hD.dst j' p.1 oj o d hoj ho (fun e'=>?_) hd hj'
      have:=((hm p.1).1 (mem_map_of_mem (hsub p hj).1)).2
      rw [<- e',<- hej] at this
      rw [xB this] at hl'; cases hl'
   have hst:=wP hC hB (ops:=ops) oi s1 (Q:=Q)
   unfold wpOp
   simp only [hoi]
   by_cases hw : Region.wanted oi (yielded ops a.tmps) = true
   ·rw [if_pos hw] at hst
    simp only [hw,if_true]
    exact .inl (Oper.wp_mono (fun a' w' hB'=>ih _ (m1 ++ m2) S1 Sf' a' w' hlen hp2 hpr2 hm2 (by simpa using hsz) hdown2 ht2 h1 hE' hB') hst)
   ·rw [if_neg hw] at hst
    simp only [hw,Bool.false_eq_true,if_false]
    exact ih _ (m1 ++ m2) S1 Sf' _ _ hlen hp2 hpr2 hm2 (by simpa using hsz) hdown2 ht2 h1 hE' hst
theorem zC (hC : il P C) {Q : Exit->Act->World->Prop} {α : Type} {r : α} {K : St->Option α} (hK : ∀ S a w,K S = some r->dP G0 S a w->Q .normal a w) : ∀ (l : List Oper) (s : Nat) (S : St) (a : Act) (w : World),
  (∀ j,l[j]? = ops[s + j]?)->Dj C ops l S K = some r->dP G0 S a w->wpOps P ops Q (List.range' s l.length) a w
 | [],s,S,a,w,_,h,hB=>hK S a w h hB
 | o :: l,s,S,a,w,hl,h,hB=>by
  simp only [Dj] at h
  have h0 : ops[s]? = some o:=by simpa using (hl 0).symm
  cases hg : guardOf ops S.fr o with
  | none=>rw [hg] at h; cases h
  | some g =>
   rw [hg] at h
   simp only [HS] at h
   obtain ⟨⟨v,wr,h'⟩,t1,h1⟩:=Option.bind_eq_some_iff.1 h
   have s1:=pE (C:=C) (ops:=ops) hg t1
   have hst:=wP hC hB (ops:=ops) o s1 (Q:=Q)
   have hl' : ∀ j,l[j]? = ops[s + 1 + j]?:=fun j=>by have:=hl (j + 1); simpa [Nat.add_assoc,Nat.add_comm 1 j] using this
   simp only [List.length_cons,List.range'_succ,wpOps,h0]
   by_cases hw : Region.wanted o (yielded ops a.tmps) = true
   ·rw [if_pos hw] at hst
    simp only [hw,if_true]
    exact .inl (Oper.wp_mono (fun a' w' hB'=>zC hC hK l (s + 1) _ a' w' hl' h1 hB') hst)
   ·rw [if_neg hw] at hst
    simp only [hw,Bool.false_eq_true,if_false]
    exact zC hC hK l (s + 1) _ _ _ hl' h1 hst
theorem yY {m : Nat} {x : Rec} : ∀ (l : List Rec) (j : Nat),Es m x j l = true->∀ k y,l[k]? = some y->m.testBit (j + k) = true \/ pP y x = true
 | [],_,_,k,y,h=>by simp at h
 | z :: r,j,h,0,y,hk=>by
  simp at hk; subst hk
  simp only [Es,and_eq_true,or_eq_true] at h
  exact h.1
 | z :: r,j,h,k + 1,y,hk=>by
  simp only [Es,and_eq_true] at h
  have:=yY r (j + 1) h.2 k y (by simpa using hk)
  grind
theorem Bv {α : Type} {r : α} {K : St->Option α} {ms : List Nat} (hms : ∀ k m,ms[k]? = some m->∀ x,m.testBit x = true->FL ops x k) : ∀ (l : List Oper) (acc : List Rec) (S : St),(∀ j,l[j]? = ops[acc.length + j]?)->Dy C ops ms l acc S K = some r ->
  ∃ (m : List (Nat × Rec)) (Se : St),v8 C ops m S Se /\ K Se = some r /\ m.map (·.1) = List.range' acc.length l.length /\ m.Pairwise (fun p q=>FL ops p.1 q.1 \/ pP p.2 q.2 = true) /\
   ∀ p ∈ m,∀ k y,acc[k]? = some y->FL ops k p.1 \/ pP y p.2 = true
 | [],acc,S,_,h=>⟨[],S,.nil S,h,rfl,.nil,fun _ hp=>by cases hp⟩
 | o :: l,acc,S,hl,h=>by
  simp only [Dy] at h
  have h0 : ops[acc.length]? = some o:=by simpa using (hl 0).symm
  cases hg : guardOf ops S.fr o with
  | none=>rw [hg] at h; cases h
  | some g =>
   rw [hg] at h
   simp only [HS] at h
   obtain ⟨⟨v,wr,h'⟩,t1,h1⟩:=Option.bind_eq_some_iff.1 h
   have s1:=pE (C:=C) (ops:=ops) hg t1
   simp only at h1
   split at h1
   ·rename_i hrec
    have hrs:=yY acc 0 hrec
    obtain ⟨m,Se,g1,g2,g3,g4,g5⟩:=Bv hms l (acc ++ [⟨n9 S o,wr,lR S o,yK o.op wr⟩]) _ (fun j=>by have:=hl (j + 1); simpa [Nat.add_assoc,Nat.add_comm 1 j] using this) h1
    refine ⟨(acc.length,⟨n9 S o,wr,lR S o,yK o.op wr⟩) :: m,Se,.cons h0 s1 ⟨rfl,rfl,rfl⟩ g1,g2,?_,?_,?_⟩
    ·rw [map_cons,g3]
     simp [List.range'_succ]
    ·refine List.pairwise_cons.2 ⟨fun p hp=>?_,g4⟩
     exact g5 p hp acc.length _ (by simp)
    ·intro p hp k y hy
     rcases List.mem_cons.1 hp with rfl | hp
     ·have:=hrs k y hy
      rw [Nat.zero_add] at this
      refine this.imp (fun hb=>?_) id
      cases hk : ms[acc.length]? with
      | none=>simp [List.getD,hk] at hb
      | some mm=>exact hms _ _ hk _ (by simpa [List.getD,hk] using hb)
     ·have hlt : k < acc.length:=by
       rcases Nat.lt_or_ge k acc.length with h | h
       ·exact h
       ·rw [List.getElem?_eq_none h] at hy; cases hy
      exact g5 p hp k y (by rw [List.getElem?_append_left hlt]; exact hy)
   ·cases h1
theorem dP.oP (h : dP G0 S a w) : dP G0 (oP S) a w:=by
 obtain ⟨β,σ,h⟩:=h
 refine ⟨β,σ,h.tr,h.ok,h.defers,by simp [Bx.oP,h.size],fun i v hv=>?_⟩
 simp only [Bx.oP]
 rw [qj _ rfl]
 have:=h.fr i v hv
 cases hn : nth S.fr i <;> rw [hn] at this <;> first | exact this | exact .any
theorem dP.drew (h : dP G0 S a w) : dP G0 S a { w with drawn:=w.drawn + 1 }:=by
 obtain ⟨β,σ,h⟩:=h
 have hb : Below (G0.at w β σ S.hp).w.heap.size (G0.at w β σ S.hp).w { w with drawn:=w.drawn + 1 }:=(Below.refl _ _).drew
 obtain ⟨t,hR⟩:=h.ok.grow hb
 exact ⟨β,σ,h.tr.trans t,hR,h.defers,h.size,fun i v hv=>(h.fr i v hv).ext t.jP⟩
theorem C0 (hC : il P C) (hm : P.follows .mixedOrders = true) {id : Nat} {draw : Bool} (hd : draw = true->Cy ops = true) {Q : Exit->Act->World->Prop} {α : Type} {r : α} {K : St->Option α}
  (hK : ∀ S a w,K S = some r->dP G0 S a w->Q .normal a w)
  (h : (match draw with | false=>Dj C ops ops.toList S K | true=>Dy C ops (uF ops.toList []) ops.toList [] (oP S) K) = some r) (hB : dP G0 S a w) : (Code.region id ops draw).wp P Q a w:=by
 cases draw with
 | false =>
  refine wp_region ?_
  rw [List.range_eq_range']
  have:=zC hC (ops:=ops) hK ops.toList 0 S a w (fun j=>by simp) h hB
  simpa using this
 | true =>
  have hD:=C1 (hd rfl)
  obtain ⟨m,Se,g1,g2,g3,g4,_⟩:=Bv (tH ops.toList [] (fun k=>by simp) (fun k m hk=>by simp at hk)) ops.toList [] (oP S) (fun j=>by simp) h
  refine wp_region_any hm ?_
  refine IY hC hD (Se:=Se) (fun a w hB=>hK Se a w g2 hB) ops.size (Array.replicate ops.size false) m _ Se a _ ?_ (by rw [g3]; exact List.pairwise_lt_range') g4 (fun i=>?_) (by simp) (fun j o _ hj=>?_) (fun i _ o _=>?_) g1 (CW.refl _) hB.oP.drew
  ·have:=congrArg List.length g3
   simp at this
   omega
  ·rw [g3,List.mem_range']
   constructor
   ·rintro ⟨k,hk,rfl⟩
    have hk' : 0 + 1 * k < ops.size:=by simpa using hk
    refine ⟨by simpa using hk',?_⟩
    simp only [List.length_nil,Array.getD_eq_getD_getElem?,Array.getElem?_replicate,if_pos hk',Option.getD_some]
   ·rintro ⟨hi,_⟩; exact ⟨i,by simpa using hi,by simp⟩
  ·exfalso
   simp only [Array.getD_eq_getD_getElem?,Array.getElem?_replicate] at hj
   split at hj <;> simp at hj
  ·intro d' _ t
   simp only [Bx.oP]
   rw [qj _ rfl]
   cases nth S.fr t <;> rfl
end
end Go.Bx
