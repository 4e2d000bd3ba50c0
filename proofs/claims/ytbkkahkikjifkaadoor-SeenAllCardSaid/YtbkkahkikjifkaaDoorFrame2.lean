/- A part of a framework that reads Go code as functions of plain data. -/
import Derived.Test.YtbkkahkikjifkaaDoorFrame1
import Derived.Orders
namespace Go.Bx
set_option linter.unusedVariables false
set_option linter.unusedSimpArgs false
open Go Go.RowKit
section
variable {P : Program} {C : Ctx} {G : GE} {fr : List V} {ρ : Operand->Value} {tm : Array Value}
theorem storeVar_run (w : World) {τ : Ty} {t : TypeId} (ht : TyOk P τ t) {b o : Nat} {arr : Array Value} {ty : TypeId} (hw : w.heap[b]? = some (.cells arr ty (0,0))) {x : Value} (hsz : x.cells.size = τ.size) (hfit : o + x.cells.size <= arr.size) (hone : ∀ c ∈ x.cells.toList,oneCell c) :
  (Instr.storeAt t (.pointer (some ⟨b,o,none⟩)) x).run P w = .ok () (w.setRow b (lay arr.toList o x.cells.toList).toArray):=by
 have hst:=run_storeCells_at P b o ty x.cells.toList 0 arr w hw (by simpa using hfit) fun v hv=>oneCell_bool (hone v hv)
 simp only [Nat.add_zero] at hst
 simp only [Instr.storeAt,Instr.sureAddr,storeVar,Sem.run_bind,Sem.run_pure,Result.andThen_ok,run_sizeOf w ht.info,hsz,ne_eq,not_true_eq_false,if_false,hst,lay]
theorem Does.skip {s : Sem Unit} {w' : World} {β' : Nat->Option Nat} {σ' : Nat->Value} {hp' : Heap} (hr : s.run P G.w = .ok () w') (t1 : Tr G ⟨w',β',σ',hp',G.n0,G.Bo,G.I0⟩) (t2 : HRel ⟨w',β',σ',hp',G.n0,G.Bo,G.I0⟩) : Does P G tm (do s; pure .skip) .any hp' :=
 ⟨.skip,undef,w',β',σ',by simp only [Sem.run_bind,hr,Result.andThen_ok,Sem.run_pure],.inr ⟨rfl,rfl⟩,t1,t2,by simp only [AtV]⟩
theorem Does.after {G1 : GE} (t : Tr G G1) (hw : G1.w = G.w) (hn : G1.n0 = G.n0) (hb : G1.Bo = G.Bo) (hi : G1.I0 = G.I0) {s : Sem Next} {v : V} {hp' : Heap} (h : Does P G1 tm s v hp') : Does P G tm s v hp':=by
 obtain ⟨r,x,w',β',σ',h1,h2,h3,h4,h5⟩:=h
 rw [hw] at h1
 rw [hn,hb,hi] at h3 h4 h5
 exact ⟨r,x,w',β',σ',h1,h2,t.trans h3,h4,h5⟩
theorem all2_set {τ : Ty} {E : Env} {l : List τ.den} {css : List (List Value)} (h : All2 (FlatD E τ) l css) (i : Nat) (a : τ.den) (b : List Value) (hab : FlatD E τ a b) : All2 (FlatD E τ) (l.set i a) (css.set i b):=h.set i a b hab
theorem HRel.storeBuf (h : HRel G) {id : Nat} {τ : Ty} {l : List τ.den} {ver : Nat} (hb : nthB G.hp id = some (.buf τ l ver false)) {b : Nat} {arr : Array Value} {ty : TypeId} {css : List (List Value)} {cap : Nat} {rest : List Value} (hβ : G.β id = some b) (hσ : G.σ id = .slice (some ⟨b,0,none⟩) l.length cap) (hw : G.w.heap[b]? = some (.cells arr ty (0,0)))
  (ha : All2 (FlatD G.env τ) l css) (h1 : arr.toList = css.flatten ++ rest) (h2 : arr.size = cap * τ.size) (h3 : l.length <= cap) (h4 : cap <= maxLen) {i : Nat} (hi : i < l.length) {q : List Step} {o : Nat} {u : Ty} (ho : offT τ q = some (o,u)) {y : u.den} {ds : List Value} (hy : FlatD G.env u y ds) {z : τ.den}
  (hz : updP τ (l.getD i τ.zero) q u y = some z) :
  i * τ.size + o + ds.length <= arr.size /\ Tr G ⟨G.w.setRow b (lay arr.toList (i * τ.size + o) ds).toArray,G.β,G.σ,setB G.hp id (.buf τ (l.set i z) ver false),G.n0,G.Bo,G.I0⟩ /\ HRel ⟨G.w.setRow b (lay arr.toList (i * τ.size + o) ds).toArray,G.β,G.σ,setB G.hp id (.buf τ (l.set i z) ver false),G.n0,G.Bo,G.I0⟩:=by
 have hlen:=All2.flat_length (fun a cs h=>FlatD.length τ a cs h) ha
 obtain ⟨hm,hr⟩:=ha.get i hi
 have hgd : (l : List τ.den).getD i τ.zero = l[i]:=by simp [List.getD,List.getElem?_eq_getElem hi]
 rw [hgd] at hz
 obtain ⟨_,hle,hf⟩:=updP_flat τ l[i] css[i] q o u u y z ds hr ho hz hy
 have hcl:=FlatD.length _ _ _ hr
 have hmul : (i + 1) * τ.size <= l.length * τ.size:=Nat.mul_le_mul_right _ (by omega)
 rw [Nat.add_mul] at hmul
 have hfit : i * τ.size + o + ds.length <= css.flatten.length:=by omega
 have hal : arr.toList.length = css.flatten.length + rest.length:=by rw [h1,List.length_append]
 have hsz : arr.size = arr.toList.length:=by simp
 have hlay : lay arr.toList (i * τ.size + o) ds = (css.set i (lay css[i] o ds)).flatten ++ rest:=by
  rw [h1,lay_left _ _ _ _ hfit,all2_lay (fun a cs h=>FlatD.length τ a cs h) ha i hm o ds (by omega)]
 have hll : (lay arr.toList (i * τ.size + o) ds).length = arr.toList.length:=by
  simp only [lay,List.length_append,List.length_take,List.length_drop]; omega
 refine ⟨by omega,?_⟩
 have:=h.upd (id:=id) (blk':=.buf τ (l.set i z) ver false) (w':=G.w.setRow b (lay arr.toList (i * τ.size + o) ds).toArray) (ob:=G.β id) (sv:=G.σ id) (by simp) rfl rfl rfl
  (fun b' _ hne=>setRow_other G.w b b' _ (fun e=>hne _ hb (by rw [e]; exact hβ))) (fun b' e=>⟨by simpa using h.lt hb e,.inr ⟨_,hb,e⟩⟩)
  (fun blk hb'=>by
   rw [hb] at hb'; cases hb'
   refine ⟨(fun b' _ m hm=>by simp only [Blk.im] at hm; cases hm.1),fun v=>?_⟩
   simp only [SameB]
   exact ⟨fun h=>h,fun _ e=>⟨e,trivial,upd_same _ _ _,upd_same _ _ _,by simp⟩⟩)
  fun hE hK=>.inl ⟨b,_,ty,css.set i (lay css[i] o ds),cap,rest,(upd_same _ _ _).trans hβ,(upd_same _ _ _).trans (by rw [hσ]; simp),setRow_heap G.w b arr _ ty _ hw,(all2_set ha i z _ hf).mono fun _ _ h=>h.ext hE,by simpa using hlay,by rw [List.size_toArray,hll,<- hsz,h2],by simpa using h3,h4⟩
 rwa [GE.upd_same] at this
theorem updP_ty : ∀ {τ : Ty} {x : τ.den} {q : List Step} {t' : Ty} {y : t'.den} {z : τ.den} {o : Nat} {u : Ty},updP τ x q t' y = some z->offT τ q = some (o,u)->u = t'
 | τ,x,[],t',y,z,o,u,h,ho=>by
  obtain ⟨rfl,rfl⟩:=offT_nil ho
  have : castD t' u y = some z:=by cases u <;> simpa [updP] using h
  obtain ⟨e,_⟩:=castD_some this
  exact e.symm
 | .arr n t,l,.idx i :: p,t',y,z,o,u,h,ho=>by
  simp only [offT] at ho
  split at ho
  ·cases h2 : offT t p with
   | none=>simp [h2] at ho
   | some q =>
    simp [h2] at ho
    obtain ⟨rfl,rfl⟩:=ho
    simp only [updP] at h
    obtain ⟨w,hw,_⟩:=Option.map_eq_some_iff.1 h
    exact updP_ty hw h2
  ·cases ho
 | .pair a _,x,.fld 0 :: p,t',y,z,o,u,h,ho=>by
  simp only [offT] at ho
  simp only [updP] at h
  obtain ⟨w,hw,_⟩:=Option.map_eq_some_iff.1 h
  exact updP_ty hw ho
 | .pair a b,x,.fld (j + 1) :: p,t',y,z,o,u,h,ho=>by
  simp only [offT] at ho
  cases h2 : offT b (.fld j :: p) with
  | none=>simp [h2] at ho
  | some q =>
   simp [h2] at ho
   obtain ⟨rfl,rfl⟩:=ho
   simp only [updP] at h
   obtain ⟨w,hw,_⟩:=Option.map_eq_some_iff.1 h
   exact updP_ty hw h2
 | .int _,_,_ :: _,_,_,_,_,_,_,ho=>by simp [offT] at ho
 | .bool,_,_ :: _,_,_,_,_,_,_,ho=>by simp [offT] at ho
 | .str,_,_ :: _,_,_,_,_,_,_,ho=>by simp [offT] at ho
 | .sl _,_,_ :: _,_,_,_,_,_,_,ho=>by simp [offT] at ho
 | .unit,_,_ :: _,_,_,_,_,_,_,ho=>by simp [offT] at ho
 | .opq,_,_ :: _,_,_,_,_,_,_,ho=>by simp [offT] at ho
 | .arr _ _,_,.fld _ :: _,_,_,_,_,_,_,ho=>by simp [offT] at ho
 | .pair _ _,_,.idx _ :: _,_,_,_,_,_,_,ho=>by simp [offT] at ho
theorem make_run (w : World) {t e : TypeId} {inf : TypeInfo} {z : Value} (hu : P.underlying t = some (.slice e)) (hi : P.info? e = some inf) (hz : inf.zero = some z) (n m : Int) (h0 : 0 <= n) (hm : m = n) (hb : n.toNat * inf.bytes <= 140737488355328) (h2 : n.toNat <= 140737488355328) :
  (Instr.makeSlice t (.int .i64 n) (.int .i64 m)).run P w = .ok (.slice (some ⟨w.heap.size,0,none⟩) n.toNat n.toNat) (w.alloc (.cells (madeCells z.cells (n.toNat * inf.size)) e)):=by
 subst hm
 have hb' : (inf.bytes : Int) * m <= 281474976710656:=by
  have e : ((m.toNat * inf.bytes : Nat) : Int) = (inf.bytes : Int) * m:=by
   rw [Int.natCast_mul,Int.toNat_of_nonneg h0,Int.mul_comm]
  omega
 exact run_make (P:=P) w t e inf z hu hi hz .i64 .i64 m m h0 (Int.le_refl _) hb' (by omega)
theorem made_cells {τ : Ty} {z : Value} {s : Nat} (hzc : zcOk τ z.cells.toList) (hpl : τ.plain = true) (hs : s = τ.size) (n : Nat) : (madeCells z.cells (n * s)).toList = (List.replicate n (zc τ)).flatten:=by
 subst hs
 have hz2:=zcOk_plain _ _ hpl hzc
 have hzl : z.cells.size = τ.size:=by rw [<- Array.length_toList,hz2]; exact FlatD.length (E:=⟨default,fun _ _=>False⟩) _ _ _ (FlatD.zero τ hpl)
 simp only [madeCells,Array.toList_map,Array.toList_range]
 have:=range_rep (zc τ) τ.size (by rw [<- hz2,Array.length_toList,hzl]) n
 rw [<- this,hzl]
 apply List.map_congr_left
 intro i _
 rw [<- hz2]
 simp only [getElem!_def,Array.getElem?_toList]
theorem cpy_flat {E : Env} {τ : Ty} (h1 : τ.size = 1) {n : Nat} {l m : List τ.den} {cs : List Value} {cssM : List (List Value)} (hl : FlatD E (.arr n τ) l cs) (hm : All2 (FlatD E τ) m cssM) {lo hi : Int} (k : Nat) (hk : k = hi.toNat - lo.toNat) (hlo : lo.toNat + k <= n) :
  FlatD E (.arr n τ) (cpyL l lo hi m) (lay cs lo.toNat (cssM.flatten.take k)):=by
 obtain ⟨hln,css,rfl,ha⟩:=hl
 have hln : List.length l = n:=hln
 have hlM:=All2.flat_length (fun a cs h=>FlatD.length τ a cs h) hm
 have hlL:=All2.flat_length (fun a cs h=>FlatD.length τ a cs h) ha
 rw [h1,Nat.mul_one] at hlM hlL
 have hcm:=hm.length
 have hcl:=ha.length
 subst hk
 refine ⟨?_,css.take lo.toNat ++ cssM.take (hi.toNat - lo.toNat) ++ css.drop (lo.toNat + min (List.length m) (hi.toNat - lo.toNat)),?_,?_⟩
 ·simp only [cpyL,List.length_append,List.length_take,List.length_drop]; omega
 ·simp only [lay,List.flatten_append]
  rw [flatten_take (fun a cs h=>FlatD.length τ a cs h) _ ha,flatten_take (fun a cs h=>FlatD.length τ a cs h) _ hm,flatten_drop (fun a cs h=>FlatD.length τ a cs h) _ ha,h1]
  simp only [Nat.mul_one,List.length_take,hlM]
  rw [Nat.min_comm]
 ·exact all2_append (all2_append (all2_take _ ha) (all2_take _ hm)) (all2_drop _ ha)
theorem lay_sub {cs cs1 news : List Value} {o lo : Nat} (h : ∀ j x,cs1[j]? = some x->cs[o + j]? = some x) (hl : o + cs1.length <= cs.length) (hn : lo + news.length <= cs1.length) : lay cs o (lay cs1 lo news) = lay cs (o + lo) news:=by
 have e1 : (cs.drop o).take cs1.length = cs1:=take_of_at h rfl
 have e2 : cs = cs.take o ++ (cs1 ++ cs.drop (o + cs1.length)):=by
  have:=(List.take_append_drop o cs).symm
  rw [<- List.take_append_drop cs1.length (cs.drop o),e1,List.drop_drop] at this
  exact this
 have hto : (cs.take o).length = o:=by rw [List.length_take]; omega
 have hll : (lay cs1 lo news).length = cs1.length:=by simp only [lay,List.length_append,List.length_take,List.length_drop]; omega
 rw [e2]
 have k1:=lay_right (cs.take o) (cs1 ++ cs.drop (o + cs1.length)) (lay cs1 lo news) 0
 have k2:=lay_right (cs.take o) (cs1 ++ cs.drop (o + cs1.length)) news lo
 rw [hto] at k1 k2
 rw [Nat.add_zero] at k1
 rw [k1,k2,lay_left _ _ _ _ hn,lay_left _ _ _ _ (by omega),lay_zero _ _ hll]
theorem at_goInt {k : Nat} (h : k <= maxLen) : AtV G tm (.data (.int .i64) (k : Int)) (goInt k):=by
 unfold goInt
 refine .mkInt ?_
 rw [inR_iff]
 unfold maxLen at h; simp [IntKind.min,IntKind.max,IntKind.bits,IntKind.signed]; omega
def SrcAt (P : Program) (G : GE) (τ : Ty) (m : List τ.den) (av : Value) : Prop :=
 ∃ css : List (List Value),All2 (FlatD G.env τ) m css /\ ∀ (t t' ty e : TypeId) (d : Option Addr) (dLen dCap : Nat),P.underlying t = some (.slice e)->(P.info? e).map (·.size) = some 1 ->
  (min m.length dLen = 0->(Builtin.copy_ #[t,t'] ty #[.slice d dLen dCap,av]).run P G.w = .ok (goInt 0) G.w) /\
  (∀ b o arr tyb,d = some ⟨b,o,none⟩->G.w.heap[b]? = some (.cells arr tyb (0,0))->min m.length dLen ≠ 0->o + min m.length dLen <= arr.size ->
   (Builtin.copy_ #[t,t'] ty #[.slice d dLen dCap,av]).run P G.w = .ok (goInt (min m.length dLen : Nat)) (G.w.setRow b (lay arr.toList o (css.flatten.take dLen)).toArray))
theorem src_slice {τ : Ty} (hs1 : τ.size = 1) {m : List τ.den} {av : Value} (hm : SlAt G τ m av) : SrcAt P G τ m av:=by
 obtain ⟨ab,capM,cssM,rfl,hmc,hM,hMn,hMh⟩:=hm.holds
 have hlM:=All2.flat_length (fun a cs h=>FlatD.length τ a cs h) hM
 rw [hs1,Nat.mul_one] at hlM
 refine ⟨cssM,hM,fun t t' ty e d dLen dCap hu hsz=>⟨fun h0=>run_copy_none (P:=P) G.w t t' ty e d ab dLen dCap (List.length m) capM hu hsz h0,fun b o arr tyb hd hg h0 hfit=>?_⟩⟩
 subst hd
 have hnl : (cssM.flatten.take dLen).length = min (List.length m) dLen:=by rw [List.length_take,hlM,Nat.min_comm]
 cases ab with
 | none=>have:=hMn rfl; rw [this] at h0; simp at h0
 | some ad =>
  have hone : ∀ u ∈ cssM.flatten.take dLen,u.oneCell' = true:=fun u hu'=>oneCell_bool (mem_flatten_all2 (fun a cs h v hv=>FlatD.cell τ a cs h v hv) hM u (List.mem_of_mem_take hu'))
  have r1:=run_copy_row (P:=P) G.w t t' ty e b o dLen dCap ad (List.length m) capM arr tyb (cssM.flatten.take dLen) hu hsz hg (by rw [hnl]; try rfl) (fun j v hj=>by
   rw [List.getElem?_take] at hj
   split at hj
   ·exact hMh ad rfl j v hj
   ·cases hj) (by rw [hnl]; exact hfit) hone
  rw [r1,hnl]; simp only [lay,hnl]
theorem run_copy_text (w : World) (dT sT ty elem : TypeId) (g o dLen dCap : Nat) (s : ByteArray) (cur : Array Value) (t : TypeId)
  (hu : P.underlying dT = some (.slice elem)) (hs : (P.info? elem).map (·.size) = some 1) (hg : w.heap[g]? = some (.cells cur t (0,0))) (hfit : o + min s.size dLen <= cur.size) :
  (Builtin.copy_ #[dT,sT] ty #[.slice (some ⟨g,o,none⟩) dLen dCap,.string s]).run P w =
   .ok (goInt (min s.size dLen : Nat)) (w.setRow g (lay cur.toList o ((s.data.toList.map fun b : UInt8=>Value.int IntKind.u8 (b.toNat : Int)).take (min s.size dLen))).toArray):=by
 have hlen : ((s.data.toList.map fun b : UInt8=>Value.int IntKind.u8 (b.toNat : Int)).take (min s.size dLen)).length = min s.size dLen:=by
  rw [List.length_take,List.length_map]
  have : s.data.toList.length = s.size:=Array.length_toList
  omega
 have hone : ∀ v ∈ (s.data.toList.map fun b : UInt8=>Value.int IntKind.u8 (b.toNat : Int)).take (min s.size dLen),v.oneCell' = true:=fun v hv=>by
  have:=List.mem_of_mem_take hv
  simp only [List.mem_map] at this
  obtain ⟨b,_,rfl⟩:=this
  rfl
 have hst:=run_storeCells_at P g o t ((s.data.toList.map fun b : UInt8=>Value.int IntKind.u8 (b.toNat : Int)).take (min s.size dLen)) 0 cur w hg (by rw [hlen]; simpa using hfit) hone
 rw [hlen] at hst
 simp only [Nat.add_zero] at hst
 have hmin : Nat.min s.size dLen = min s.size dLen:=rfl
 cases hq : P.info? elem with
 | none=>simp [hq] at hs
 | some i =>
  simp [Builtin.copy_,run_underlying hu,Builtin.lenOf,Builtin.firstCells,sizeOf,typeInfo,hq,hmin]
  unfold lay
  rw [hlen]
  rw [hst]
  simp [Result.andThen]
theorem all2_bytes {E : Env} : ∀ l : List UInt8,All2 (FlatD E (.int .u8)) (l.map fun b=>(b.toNat : Int)) (l.map fun b=>[Value.int IntKind.u8 (b.toNat : Int)])
 | []=>trivial
 | b :: l=>by
  refine ⟨⟨rfl,?_⟩,all2_bytes l⟩
  have:=b.toNat_lt
  rw [inR_iff]
  simp [IntKind.min,IntKind.max,IntKind.bits,IntKind.signed]; omega
theorem flatten_one : ∀ l : List UInt8,(l.map fun b=>[Value.int IntKind.u8 (b.toNat : Int)]).flatten = l.map fun b=>Value.int IntKind.u8 (b.toNat : Int)
 | []=>rfl
 | b :: l=>by simp [flatten_one l]
theorem src_text {m : List Int} {av : Value} (hm : AtD G.env .str m av) : SrcAt P G (.int .u8) m av:=by
 obtain ⟨s,hc,hb,_⟩:=(show FlatD G.env .str m [av] from hm)
 cases hc
 have hl : (s.data.toList).length = s.size:=Array.length_toList
 subst hb
 have hml : (bytesOf s).length = s.size:=by unfold bytesOf; rw [List.length_map,hl]
 refine ⟨s.data.toList.map fun b=>[Value.int IntKind.u8 (b.toNat : Int)],all2_bytes _,fun t t' ty e d dLen dCap hu hsz=>⟨fun h0=>?_,fun b o arr tyb hd hg h0 hfit=>?_⟩⟩
 ·rw [hml] at h0
  cases hq : P.info? e with
  | none=>simp [hq] at hsz
  | some i =>
   have hmin : Nat.min s.size dLen = 0:=h0
   cases d <;> simp [Builtin.copy_,run_underlying hu,Builtin.lenOf,Builtin.firstCells,sizeOf,typeInfo,hq,hmin,storeCells]
 ·subst hd
  rw [hml] at hfit ⊢
  rw [run_copy_text G.w t t' ty e b o dLen dCap s arr tyb hu hsz hg hfit,flatten_one]
  congr 3
  rw [show ∀ (l : List Value),l.length = s.size->l.take (min s.size dLen) = l.take dLen from fun l h=>by rw [<- h]; simp [List.take_eq_take_iff,Nat.min_comm]]
  rw [List.length_map,hl]
theorem src_str {τ : Ty} {y : List Int} {m : List τ.den} {av : Value} (h : addS (.data .str y) τ = some m) (hm : AtD G.env .str y av) : SrcAt P G τ m av:=by
 cases τ with
 | int k=>cases k <;> first | (cases h; exact src_text hm) | cases h
 | _=>cases h
theorem copy_does (hC : CtxOk P C) (hR : HRel G) {τ : Ty} {t t' ty : TypeId} (ht : look C.ty t = some (.sl τ)) {x xv : V} {bv av : Value} (hx : AtV G tm x bv) (hxs : AtV G tm xv av)
  {c : Prop} {i : Decidable c} {v : V} {hp' : Heap} {wr : List Nat} (h : copyE G.hp τ x (rd G.hp xv) = some (.eff c i v hp' wr)) :
  Does P G tm (do pure (.value (<- Builtin.copy_ #[t,t'] ty #[bv,av]))) v hp':=by
 obtain ⟨e,hu,hte,_⟩:=hC.ty _ _ ht
 unfold copyE at h
 split at h
 ·rename_i id p τ1 n lo hi m hadd
  have hm : τ.size = 1->SrcAt P G τ m av:=fun hs1=>by
   cases hrd : rd G.hp xv with
   | data t2 y =>
    rw [hrd] at hadd
    cases t2 with
    | sl t3 =>
     simp only [addS,addend] at hadd
     obtain ⟨e,he⟩:=castD_some hadd
     cases e
     subst he
     exact src_slice hs1 (rd_sl hR hxs hrd)
    | str =>
     exact src_str hadd (rd_str hxs hrd)
    | _=>simp [addS,addend] at hadd
   | _=>rw [hrd] at hadd; simp [addS,addend] at hadd
  split at h
  ·rename_i σ cv hb
   split at h
   ·rename_i n' τ2 l hgv
    split at h
    ·rename_i hτ
     subst hτ
     split at h
     ·rename_i hns
      obtain ⟨rfl,hs1⟩:=hns
      split at h
      ·rename_i v' hset
       obtain ⟨_,rfl,rfl,rfl⟩:=ifE_eq h
       simp only [AtV] at hx
       unfold ViewAt at hx
       rw [hb] at hx
       obtain ⟨b,o,e1,e2,e3,e4,e5,e6,e7⟩:=hx
       obtain ⟨b',arr,tyb,g1,g2,g3⟩:=hR.cell hb
       rw [e1] at g1; cases g1
       obtain ⟨cs1,f1,f2,f3⟩:=getV_flat p g3 e2
       rw [hgv] at f1
       obtain ⟨eτ,f1'⟩:=f1.flatD
       cases eτ
       have f1 : FlatD G.env (.arr n' τ1) l cs1:=f1'
       obtain ⟨cssM,hM,hrun⟩:=hm hs1
       have hlM:=All2.flat_length (fun a cs h=>FlatD.length τ1 a cs h) hM
       rw [hs1,Nat.mul_one] at hlM
       have hcs1:=FlatD.length _ _ _ f1
       have hcs1 : cs1.length = n':=by rw [hcs1]; simp [Ty.size,hs1]
       have hk : lo.toNat + (hi.toNat - lo.toNat) <= n':=by omega
       have hfl:=cpy_flat hs1 f1 hM (lo:=lo) (hi:=hi) _ rfl hk
       have hnl : (cssM.flatten.take (hi.toNat - lo.toNat)).length = min (List.length m) (hi.toNat - lo.toNat):=by rw [List.length_take,hlM,Nat.min_comm]
       obtain ⟨s1,s2⟩:=setV_flat p g3 e2 (FlatV.ofFlatD hfl) hset
       have hlay:=lay_sub f2 f3 (by rw [hnl,hcs1]; omega : lo.toNat + (cssM.flatten.take (hi.toNat - lo.toNat)).length <= cs1.length)
       rw [hlay] at s2
       obtain ⟨t1,t2⟩:=hR.storeCell hb e1 g2 (arr':=(lay arr.toList (o + lo.toNat) (cssM.flatten.take (hi.toNat - lo.toNat))).toArray) (by simpa using s2)
       have hsz : (P.info? e).map (·.size) = some 1:=by
        obtain ⟨inf,_,k1,k2,_⟩:=hte.info
        rw [k1,Option.map_some,k2,hs1]
       have hkm : min (List.length m) (hi.toNat - lo.toNat) <= maxLen:=by omega
       by_cases h0 : min (List.length m) (hi.toNat - lo.toNat) = 0
       ·have hnews : cssM.flatten.take (hi.toNat - lo.toNat) = []:=List.eq_nil_of_length_eq_zero (by rw [hnl,h0])
        have harr : (lay arr.toList (o + lo.toNat) (cssM.flatten.take (hi.toNat - lo.toNat))).toArray = arr:=by
         rw [hnews]; simp [lay]
        rw [harr,setRow_self _ _ _ _ _ g2] at t1 t2
        have r1:=(hrun t t' ty e (some (if lo.toNat = n' then ⟨b,o,none⟩ else ⟨b,o + lo.toNat * τ1.size,none⟩)) (hi.toNat - lo.toNat) (n' - lo.toNat) hu hsz).1 h0
        rw [<- e7] at r1
        have hz:=at_goInt (G:=⟨G.w,G.β,G.σ,setB G.hp id (.cell σ v' false),G.n0,G.Bo,G.I0⟩) (tm:=tm) hkm
        rw [h0] at hz ⊢
        exact Does.mk r1 t1 t2 hz
       ·have hne : lo.toNat ≠ n':=by omega
        rw [if_neg hne,hs1,Nat.mul_one] at e7
        have hfit : o + lo.toNat + min (List.length m) (hi.toNat - lo.toNat) <= arr.size:=by
         have : arr.size = arr.toList.length:=by simp
         omega
        have r1:=(hrun t t' ty e (some ⟨b,o + lo.toNat,none⟩) (hi.toNat - lo.toNat) (n' - lo.toNat) hu hsz).2 b (o + lo.toNat) arr tyb rfl g2 h0 hfit
        rw [<- e7] at r1
        exact Does.mk r1 t1 t2 (at_goInt hkm)
      ·cases h
     ·cases h
    ·cases h
   ·cases h
  ·cases h
 ·cases h
theorem effR_eff (hC : CtxOk P C) (hR : HRel G) (hL : Look G tm fr ρ) {g : Option Gd} (hg : Yes g tm) (o : Oper) {c : Prop} {i : Decidable c} {v : V} {hp' : Heap} {wr : List Nat} (hv : effR C g fr G.hp o.dst o.op = some (.eff c i v hp' wr)) (hc : c) : Does P G tm (execOp ρ o) v hp':=by
 obtain ⟨dst,op,type,pos,after,guard⟩:=o
 simp only at hv
 cases op <;> simp only [effR,reduceCtorEq] at hv
 case alloc t =>
  split at hv
  ·rename_i τ d hτ
   split at hv
   ·rename_i hf
    obtain ⟨rfl,rfl,rfl,rfl⟩:=ifE_eq hv
    have htk:=hC.ty _ _ hτ
    obtain ⟨z,hz1,hz2,_⟩:=run_zeroV (P:=P) G.w htk.info
    have hrun : (Instr.alloc t true (.tuple #[])).run P G.w = .ok (.pointer (some ⟨G.w.heap.size,0,none⟩)) (G.w.alloc (.cells z.cells t)):=by
     simp only [Instr.alloc,Sem.run_bind,hz1,Result.andThen_ok]
     simp [newVar,newRow]
    obtain ⟨t1,t2,t3⟩:=hR.newCell hf (zeroV_flat (G:=G) τ _ htk.chained hz2) t
    exact Does.mk hrun t1 t2 (by simpa only [AtV] using t3)
   ·cases hv
  ·cases hv
 case box t x =>
  split at hv
  ·rename_i τ d hτ
   split at hv
   ·rename_i hf
    simp only [Bool.and_eq_true] at hf
    obtain ⟨rfl,rfl,rfl,rfl⟩:=ifE_eq hv
    have hrun : (Instr.box t (ρ x)).run P G.w = .ok (.pointer (some ⟨G.w.heap.size,0,none⟩)) (G.w.alloc (.cells (ρ x).cells t)):=by
     simp [Instr.box,newVar,newRow]
    obtain ⟨t1,t2,t3⟩:=hR.newCell hf.1 (fits_flat hf.2 (hL.un hg x)).1 t
    exact Does.mk hrun t1 t2 (by simpa only [AtV] using t3)
   ·cases hv
  ·cases hv
 case store t x y =>
  split at hv
  ·rename_i τ id ver p hτ heq
   have htk:=hC.ty _ _ hτ
   have hx:=hL.ud hg x
   rw [heq] at hx
   simp only [AtV] at hx
   split at hv
   ·rename_i σ cv hb
    split at hv
    ·rename_i hfit
     simp only [Bool.and_eq_true,decide_eq_true_eq] at hfit
     split at hv
     ·rename_i v' hset
      obtain ⟨rfl,rfl,rfl,rfl⟩:=ifE_eq hv
      obtain ⟨b,o,e1,e2,e3⟩:=tyAt_off hx hb hfit.2
      obtain ⟨b',arr,ty,g1,g2,g3⟩:=hR.cell hb
      rw [e1] at g1; cases g1
      obtain ⟨hyf,hys⟩:=fits_flat hfit.1 (hL.un hg y).nilT
      obtain ⟨hle,hvf⟩:=setV_flat p g3 e2 hyf hset
      have hrun:=storeVar_run (P:=P) G.w htk g2 (x:=ρ y) hys.size (o:=o) (by simpa using hle) hyf.one
      rw [<- e3] at hrun
      obtain ⟨t1,t2⟩:=hR.storeCell hb e1 g2 (arr':=(lay arr.toList o (ρ y).cells.toList).toArray) (by simpa using hvf)
      exact Does.skip hrun t1 t2
     ·cases hv
    ·cases hv
   ·rename_i hb0
    split at hv
    ·rename_i σ l ver' hb
     split at hv
     ·rename_i hver
      have hver:=Nat.eq_of_beq_eq_true hver
      subst hver
      split at hv
      ·rename_i i0 q0 τ' z hrd
       split at hv
       ·rename_i hττ
        subst hττ
        split at hv
        ·rename_i z' hz
         obtain ⟨rfl,rfl,rfl,rfl⟩:=ifE_eq hv
         obtain ⟨t0,k0⟩:=frz_tr (dd (un g (ev fr y))) G hR
         have hy:=rd_frz _ G hR (hL.ud hg y) hrd
         have hx' : RefAt (G.withHp (frz G.hp (dd (un g (ev fr y))))) id ver (.idx i0 :: q0) (ρ x):=hx.ren t0.keep rfl
         unfold RefAt at hx'
         rw [show (G.withHp (frz G.hp (dd (un g (ev fr y))))).hp = frz G.hp (dd (un g (ev fr y))) from rfl,hb] at hx'
         obtain ⟨b,i1,q1,o,u,f1,f2,f3,f4,f5,f6⟩:=hx'.2.2 rfl
         cases f1
         rcases k0.blk _ _ hb with ⟨b',arr,ty,css,cap,rest,g1,g2,g3,g4,g5,g6,g7,g8⟩ | ⟨g1,_⟩
         ·rw [f2] at g1; cases g1
          have hyc:=hy.cells
          have hcast:=updP_ty hz f5
          subst hcast
          obtain ⟨k1,k2,k3⟩:=k0.storeBuf hb f2 g2 g3 g4 g5 g6 g7 g8 f4 f5 hyc hz
          have hag:=hy.isAgg
          have hrun:=storeVar_run (P:=P) G.w htk g3 (x:=ρ y) hag.2.2 (o:=i0.toNat * σ.size + o) (by simpa using k1) (FlatD.cell _ _ _ hyc)
          rw [<- f6] at hrun
          refine Does.after t0 rfl rfl rfl rfl ?_
          exact Does.skip hrun k2 k3
         ·rw [f2] at g1; cases g1
        ·cases hv
       ·cases hv
      ·cases hv
     ·cases hv
    ·cases hv
   ·cases hv
  ·cases hv
 case buildSlice t n parts =>
  split at hv
  ·rename_i τ hτ
   split at hv
   ·rename_i hcn
    simp only [Bool.and_eq_true] at hcn
    split at hv
    ·rename_i y hy
     obtain ⟨rfl,rfl,rfl,rfl⟩:=ifE_eq hv
     obtain ⟨e,hu,hte,_⟩:=hC.ty _ _ hτ
     have hn:=Nat.le_of_ble_eq_true hcn.2
     generalize hps : (parts.toList.map fun p=>dd (un g (ev fr p.2))) = ps
     obtain ⟨t0,k0⟩:=frzL_tr ps G hR
     obtain ⟨cs',r1,r2⟩:=run_buildSlice (P:=P) (G:=G.withHp (frzL G.hp ps)) (ρ:=ρ) hu hte hcn.1.1 (Nat.le_of_ble_eq_true hcn.1.2) (e:=fun x=>rd G.hp (dd (un g (ev fr x)))) (fun p hp=>by
      refine ⟨fun t y he=>rd_frzL_mem ps G hR (by rw [<- hps]; exact List.mem_map.2 ⟨p,hp,rfl⟩) (hL.ud hg p.2) he,fun he=>?_⟩
      have:=rd_snil he
      have h2:=hL.ud hg p.2
      rw [this] at h2
      simpa only [AtV] using h2) hy
     obtain ⟨hl',css,hcs,hall⟩:=r2
     have hb : Below G.w.heap.size G.w (G.w.alloc (.cells cs' e)):=(Below.refl _ _).alloc (Nat.le_refl _) _
     obtain ⟨t1,t2⟩:=k0.grow hb
     have hsl:=new_sl k0 (Below.refl _ G.w) rfl (cap:=n) (rest:=[]) hl' hall (by rw [hcs]; simp) (Nat.le_refl _) (by unfold maxLen; omega) e (0,0)
     refine Does.after t0 rfl rfl rfl rfl (Does.mk r1 t1 t2 ?_)
     simp only [AtV]
     exact ⟨hsl,_,_,rfl⟩
    ·cases hv
   ·cases hv
  ·cases hv
 case makeSlice t len cap =>
  split at hv
  ·rename_i τ d k n k' m hτ h1 h2
   split at hv
   ·rename_i hf
    simp only [Bool.and_eq_true,decide_eq_true_eq] at hf
    obtain ⟨⟨⟨hf,hpl⟩,rfl⟩,rfl⟩:=hf
    obtain ⟨rfl,rfl,rfl,rfl⟩:=ifE_eq hv
    obtain ⟨hc0,hmn,hfit⟩:=hc
    obtain ⟨e,hu,hte,_⟩:=hC.ty _ _ hτ
    have hl:=hL.ud hg len
    have hcp:=hL.ud hg cap
    rw [h1] at hl; rw [h2] at hcp
    have hl:=hl.int.1
    have hcp:=hcp.int.1
    obtain ⟨inf,z,hi,hsz,hz,hzc,_,_,hby⟩:=hte.info
    obtain ⟨hf1,hf2⟩:=fitB_le hfit
    have r1:=make_run (P:=P) G.w hu hi hz n m hc0 hmn (by rw [hby]; exact hf1) hf2
    rw [<- hl,<- hcp] at r1
    have hzs:=size_zcOk hzc hte.chained
    have hcells:=made_cells hzc hpl hsz (Int.toNat n)
    obtain ⟨t1,t2,t3⟩:=hR.newBuf (id:=C.base + d) (τ:=τ) (l:=List.replicate (Int.toNat n) τ.zero) (ver:=0) (fun blk hb=>by rw [free_none hf] at hb; cases hb) (w1:=G.w) (Below.refl _ _) rfl
     (css:=List.replicate (Int.toNat n) (zc τ)) (all2_replicate (FlatD.zero τ hpl) _) (arr:=madeCells z.cells (Int.toNat n * inf.size)) (rest:=[]) (cap:=Int.toNat n) (by rw [hcells]; simp) (by rw [size_madeCells,hsz]) (by simp) (by unfold maxLen; omega) e false
    refine Does.mk r1 t1 t2 ?_
    simp only [AtV]
    simpa using t3
   ·cases hv
  ·cases hv
 case slice t x lo hi mx =>
  split at hv
  ·rename_i id ver τ heq hτ
   have hx:=hL.ud hg x
   rw [heq] at hx
   simp only [AtV] at hx
   split at hv
   ·rename_i τ' l ver' z hb
    split at hv
    ·rename_i ht
     obtain ⟨rfl,hver⟩:=ht
     have hver:=Nat.eq_of_beq_eq_true hver
     subst hver
     split at hv
     ·rename_i c' i' v' hsl
      cases hv
      unfold AppAt at hx
      rw [hb] at hx
      have hx:=hx.2.2 rfl
      obtain ⟨e,hu,hte,_⟩:=hC.ty _ _ hτ
      obtain ⟨t0,k0⟩:=frz_tr (.app id ver) G hR
      have hfz:=sl_frozen k0 (id:=id) (t:=τ) (l:=l) (ver:=ver) (by simp only [frz,hb]; rw [look_set,if_pos rfl]; rfl)
      obtain ⟨y,r1,r2⟩:=sliceL_run (P:=P) G.w hu hte (fun x=>hL.ud hg x) hfz hsl hc
      rw [show (G.withHp (frz G.hp (.app id ver))).σ id = G.σ id from rfl,<- hx] at r1
      refine Does.mk r1 t0 k0 ?_
      rcases r2 with ⟨a,b,rfl,r3⟩ | ⟨a,b,rfl,r3,ad,n,r4⟩
      ·simp only [AtV]; exact .ofFlat r3 rfl
      ·simp only [AtV]; exact ⟨r3,ad,n,r4⟩
     ·cases hv
    ·cases hv
   ·cases hv
  ·cases hv
 case makeMap t r =>
  split at hv
  ·rename_i tk tv d hmp
   split at hv
   ·rename_i κ ν h1 h2
    split at hv
    ·rename_i hf
     obtain ⟨rfl,rfl,rfl,rfl⟩:=ifE_eq hv
     have hn:=free_none hf
     obtain ⟨t1,t2⟩:=hR.upd (id:=C.base + d) (blk':=.map κ ν []) (w':=G.w.alloc (.map #[] 0)) (ob:=some G.w.heap.size) (sv:=.nilFunc) (by simp) rfl rfl rfl
      (fun b hb _=>Below.heap_alloc G.w _ b hb) (fun b e=>by cases e; exact ⟨by simp,.inl (Nat.le_refl _)⟩) (fun blk hb=>by rw [hn] at hb; cases hb)
      fun hE hK=>⟨G.w.heap.size,#[],0,upd_same _ _ _,heap_alloc_new G.w _,trivial,rfl,fun i e he=>by simp at he⟩
     have hrun : (Instr.makeMap t none).run P G.w = .ok (.map (some G.w.heap.size)) (G.w.alloc (.map #[] 0)):=rfl
     refine Does.mk hrun t1 t2 ?_
     simp only [AtV]
     unfold MapAt
     have : nthB (G.upd (G.w.alloc (.map #[] 0)) (C.base + d) (some G.w.heap.size) .nilFunc (.map κ ν [])).hp (C.base + d) = some (.map κ ν []):=by simp only [GE.upd]; rw [look_set,if_pos rfl]
     rw [this]
     exact ⟨G.w.heap.size,upd_same _ _ _,rfl⟩
    ·cases hv
   ·cases hv
  ·cases hv
 case mapEntry t m k =>
  split at hv
  ·rename_i tk tv id κ' x hmp h1 h2
   split at hv
   ·rename_i κ0 ν0 κ ν l hk hn hb
    split at hv
    ·rename_i hκ
     subst hκ
     split at hv
     ·rename_i hcn
      obtain ⟨e1,e2,hkey,hpl,hsc⟩:=hcn
      subst e1; subst e2
      obtain ⟨rfl,rfl,rfl,rfl⟩:=ifE_eq hv
      have hm:=hL.ud hg m
      have hx:=hL.ud hg k
      rw [h1] at hm; rw [h2] at hx
      simp only [AtV] at hm hx
      obtain ⟨y,w',r1,t1,t2,t3⟩:=mapEntry_run (P:=P) (tm:=tm) hC hR hmp hk hn hkey hpl hb hm hx (Nat.le_of_ble_eq_true hc)
      exact Does.mk r1 t1 t2 t3
     ·cases hv
    ·cases hv
   ·cases hv
  ·cases hv
 case mapUpdate t m k y =>
  split at hv
  ·rename_i tk tv id κ' x ν' z hmp h1 h2 h3
   split at hv
   ·rename_i κ0 ν0 κ ν l hk hn hb
    split at hv
    ·rename_i hκ
     subst hκ
     split at hv
     ·rename_i hν
      subst hν
      split at hv
      ·rename_i hcn
       obtain ⟨e1,e2,hkey,hsc⟩:=hcn
       subst e1; subst e2
       obtain ⟨rfl,rfl,rfl,rfl⟩:=ifE_eq hv
       have hm:=hL.ud hg m
       have hx:=hL.ud hg k
       have hy:=hL.ud hg y
       rw [h1] at hm; rw [h2] at hx; rw [h3] at hy
       simp only [AtV] at hm hx hy
       obtain ⟨w',r1,t1,t2⟩:=mapUpdate_run (P:=P) hC hR hmp hk hkey hb hm hx hy
       exact Does.skip r1 t1 t2
      ·cases hv
     ·cases hv
    ·cases hv
   ·cases hv
  ·cases hv
 case entryStore t m n y =>
  split at hv
  ·rename_i tk tv id k i ν' z hmp h1 h2 h3
   split at hv
   ·rename_i ν0 κ ν l hn hb
    split at hv
    ·rename_i hν
     subst hν
     split at hv
     ·rename_i hcn
      obtain ⟨rfl,rfl,rfl,rfl⟩:=ifE_eq hv
      have hm:=hL.ud hg m
      have hi:=hL.ud hg n
      have hy:=hL.ud hg y
      rw [h1] at hm; rw [h2] at hi; rw [h3] at hy
      obtain ⟨hi1,_⟩:=hi.int
      simp only [AtV] at hm hy
      obtain ⟨w',r1,t1,t2⟩:=entryStore_run (P:=P) (t:=t) (k:=k) hR hb hm hy hc.1 hc.2
      rw [<- hi1] at r1
      exact Does.skip r1 t1 t2
     ·cases hv
    ·cases hv
   ·cases hv
  ·cases hv
 case call c' =>
  split at hv
  ·rename_i hcal
   split at hv
   ·rename_i x xs t t' hargs hts
    split at hv
    ·rename_i htt
     subst htt
     split at hv
     ·rename_i τ hτ
      have ha1 : c'.args.map ρ = #[ρ x,ρ xs]:=by apply Array.ext'; simp [hargs]
      have ha2 : c'.argTypes = #[t,t]:=by apply Array.ext'; simpa using hts
      have hxs:=(hL.ud hg xs).nilT (u:=.sl τ)
      cases hadd : addend (rd G.hp (nilT (.sl τ) (dd (un g (ev fr xs))))) τ with
      | none=>simp [appendE,hadd] at hv
      | some m =>
       have hm : SlAt G τ m (ρ xs):=by
        cases hrd : rd G.hp (nilT (.sl τ) (dd (un g (ev fr xs)))) with
        | data t2 y =>
         rw [hrd] at hadd
         cases t2 with
         | sl t3 =>
          simp only [addend] at hadd
          obtain ⟨e,he⟩:=castD_some hadd
          cases e
          subst he
          exact rd_sl hR hxs hrd
         | _=>simp [addend] at hadd
        | _=>rw [hrd] at hadd; simp [addend] at hadd
       have:=append_does (P:=P) hC hR (ty:=type) hτ (hL.un hg x).nilT hm hadd hv hc
       have hex : execOp ρ { dst,op:=.call c',type,pos,after,guard } = (do pure (.value (<- Builtin.append_ #[t,t] type #[ρ x,ρ xs]))):=by
        simp [execOp,resolve,hcal,ha1,ha2,invoke,builtin]
       rw [hex]; exact this
     ·cases hv
    ·cases hv
   ·cases hv
  ·rename_i hcal
   split at hv
   ·rename_i x xs t t' hargs hts
    split at hv
    ·rename_i τ hτ
     have ha1 : c'.args.map ρ = #[ρ x,ρ xs]:=by apply Array.ext'; simp [hargs]
     have ha2 : c'.argTypes = #[t,t']:=by apply Array.ext'; simpa using hts
     have:=copy_does (P:=P) hC hR (t':=t') (ty:=type) hτ (hL.un hg x) ((hL.ud hg xs).nilT (u:=.sl τ)) hv
     have hex : execOp ρ { dst,op:=.call c',type,pos,after,guard } = (do pure (.value (<- Builtin.copy_ #[t,t'] type #[ρ x,ρ xs]))):=by
      simp [execOp,resolve,hcal,ha1,ha2,invoke,builtin]
     rw [hex]; exact this
    ·cases hv
   ·cases hv
  ·cases hv
  ·split at hv
   ·split at hv
    ·split at hv <;> simp at hv
    ·split at hv
     ·simp only [shCall] at hv
      split at hv <;> simp at hv
     ·cases hv
   ·cases hv
 all_goals (first | (cases hv; done) | (simp at hv; done))
end
end Go.Bx
namespace Go.Bx
set_option linter.unusedVariables false
set_option linter.unusedSimpArgs false
open Go Go.RowKit
section
variable {P : Program} {C : Ctx} {G : GE} {fr : List V} {ρ : Operand->Value} {tm : Array Value}
def DoesW (P : Program) (G : GE) (a : Act) (o : Oper) (v : V) (hp' : Heap) (Q : Exit->Act->World->Prop) : Prop :=
 o.wp P a G.w (fun a' w'=>∃ x β' σ',a' = a.put o.dst x /\ Tr G ⟨w',β',σ',hp',G.n0,G.Bo,G.I0⟩ /\ HRel ⟨w',β',σ',hp',G.n0,G.Bo,G.I0⟩ /\ AtV ⟨w',β',σ',hp',G.n0,G.Bo,G.I0⟩ a.tmps v x) Q
theorem Does.toW {a : Act} {o : Oper} {v : V} {hp' : Heap} {Q : Exit->Act->World->Prop} (h : Does P G a.tmps (execOp a.eval o) v hp') : DoesW P G a o v hp' Q:=by
 obtain ⟨r,x,w',β',σ',h1,h2,h3,h4,h5⟩:=h
 unfold DoesW Oper.wp
 rw [h1]
 rcases h2 with rfl | ⟨rfl,rfl⟩
 ·rw [Oper.upon_value]; exact ⟨x,β',σ',rfl,h3,h4,h5⟩
 ·rw [Oper.upon_skip]; exact ⟨undef,β',σ',rfl,h3,h4,h5⟩
theorem val_toW {a : Act} {o : Oper} {v : V} {Q : Exit->Act->World->Prop} (hR : HRel G) {x : Value} (h : (execOp a.eval o).run P G.w = .ok (.value x) G.w) (hv : AtV G a.tmps v x) : DoesW P G a o v G.hp Q :=
 Does.toW ⟨.value x,x,G.w,G.β,G.σ,h,.inl rfl,Tr.refl G,hR,hv⟩
theorem AtL.append : ∀ {l : List V} {m : List Value} {l' : List V} {m' : List Value},AtL G tm l m->AtL G tm l' m'->AtL G tm (l ++ l') (m ++ m')
 | [],[],_,_,_,h=>h
 | v :: l,x :: m,_,_,h,h'=>by simp only [List.cons_append,AtL] at h ⊢; exact ⟨h.1,AtL.append h.2 h'⟩
 | [],_ :: _,_,_,h,_=>by simp [AtL] at h
 | _ :: _,[],_,_,h,_=>by simp [AtL] at h
theorem AtL.sane : ∀ {l : List V} {m : List Value} {tm' : Array Value},AtL G tm' l m->AtL G tm (l.map Bx.sane) m
 | [],[],_,_=>by simp [AtL]
 | v :: l,x :: m,_,h=>by simp only [List.map_cons,AtL] at h ⊢; exact ⟨h.1.sane,AtL.sane h.2⟩
 | [],_ :: _,_,h=>by simp [AtL] at h
 | _ :: _,[],_,h=>by simp [AtL] at h
theorem target_run (hC : CtxOk P C) {e : Operand->V} (he : ∀ x,AtV G tm (e x) (ρ x)) {c : Call} {f : Nat} {args : List V} (h : target C e c = some (f,args)) :
  ∃ vals : Array Value,AtL G tm args vals.toList /\ ∀ (dst : Option Tmp) (type : TypeId) (pos : String) (after : Array Edge) (guard : Option (Nat × Bool)),(execOp ρ { dst,op:=.call c,type,pos,after,guard }).run P G.w = (callFunc f vals).run P G.w:=by
 unfold target at h
 split at h
 ·rename_i fo hcal
  split at h
  ·rename_i f' fst cap heq
   cases h
   have hf:=he fo
   rw [heq] at hf
   simp only [AtV] at hf
   obtain ⟨xs,ys,h1,h2,h3⟩:=hf
   refine ⟨xs ++ c.args.map ρ ++ ys,?_,fun dst type pos after guard=>by simp [execOp,resolve,hcal,h1,Deferred.ofValue,invoke]⟩
   simp only [callArgs,List.nil_append,Array.toList_append,Array.toList_map]
   exact AtL.append (AtL.append h2.sane (renL_at_map he _)) h3.sane
  ·cases h
 ·rename_i r m hcal
  split at h
  ·rename_i t v heq
   split at h
   ·rename_i f' hf
    cases h
    have hr:=he r
    rw [heq] at hr
    simp only [AtV] at hr
    obtain ⟨x,h1,h2⟩:=hr
    refine ⟨#[x] ++ c.args.map ρ,?_,fun dst type pos after guard=>?_⟩
    ·simp only [callArgs,List.map_nil,List.append_nil,Array.toList_append,Array.toList_map]
     exact AtL.append (by simp only [AtL]; exact ⟨h2.sane,trivial⟩) (renL_at_map he _)
    ·have:=(hC.inv _ _ _ hf G.w x).1 (c.args.map ρ)
     have e0 : (#[Value.iface t x] ++ c.args.map ρ)[0]? = some (Value.iface t x):=by
      rw [Array.getElem?_append_left (by simp)]; rfl
     simp only [execOp,resolve,hcal,Sem.run_bind,Sem.run_pure,Result.andThen_ok,invoke,h1,e0]
     rw [<- this]
     simp
     rw [show (c.args.map ρ).extract 0 c.args.size = c.args.map ρ by
      have : c.args.size = (c.args.map ρ).size:=by simp
      rw [this]; exact Array.extract_size]
   ·cases h
  ·cases h
 ·cases h
theorem argsL_tight (hR : HRel G) : ∀ {t : Ty} {l : List V} {x : t.den} {vs : List Value},getArgs t (rdL G.hp l) = some x->looseL G.hp l = false->AtL G tm l vs->ArgsAt G.env t x vs
 | .unit,[],_,[],_,_,_=>rfl
 | .unit,[],_,_ :: _,_,_,h=>by simp [AtL] at h
 | .unit,_ :: _,_,_,h,_,_=>by simp [rdL,getArgs] at h
 | .pair a b,[],_,_,h,_,_=>by simp [rdL,getArgs] at h
 | .pair a b,v :: l,x,[],_,_,h=>by simp [AtL] at h
 | .pair a b,v :: l,x,y :: vs,h,hl,ha=>by
  simp only [rdL] at h
  simp only [looseL,Bool.or_eq_false_iff] at hl
  simp only [AtL] at ha
  cases hv : rd G.hp v <;> rw [hv] at h <;> simp only [getArgs,reduceCtorEq] at h
  split at h
  ·cases h
  ·rename_i z hz
   split at h
   ·cases h
   ·rename_i r hr
    obtain ⟨rfl,rfl⟩:=castD_some hz
    cases h
    exact ⟨y,vs,rfl,rd_tight hR v ha.1 hl.1 hv,argsL_tight hR hr hl.2 ha.2⟩
 | .int _,_,_,_,h,_,_=>by simp [getArgs] at h
 | .bool,_,_,_,h,_,_=>by simp [getArgs] at h
 | .str,_,_,_,h,_,_=>by simp [getArgs] at h
 | .sl _,_,_,_,h,_,_=>by simp [getArgs] at h
 | .arr _ _,_,_,_,h,_,_=>by simp [getArgs] at h
 | .opq,_,_,_,h,_,_=>by simp [getArgs] at h
theorem argsL_frz : ∀ {t : Ty} {l : List V} {x : t.den} {vs : List Value} (G : GE),HRel G->getArgs t (rdL G.hp l) = some x->AtL G tm l vs->ArgsAt (G.withHp (frzL G.hp l)).env t x vs
 | .unit,[],_,[],_,_,_,_=>rfl
 | .unit,[],_,_ :: _,_,_,_,h=>by simp [AtL] at h
 | .unit,_ :: _,_,_,_,_,h,_=>by simp [rdL,getArgs] at h
 | .pair a b,[],_,_,_,_,h,_=>by simp [rdL,getArgs] at h
 | .pair a b,v :: l,x,[],_,_,_,h=>by simp [AtL] at h
 | .pair a b,v :: l,x,y :: vs,G,hR,h,ha=>by
  simp only [rdL] at h
  simp only [AtL] at ha
  obtain ⟨t1,k1⟩:=frz_tr v G hR
  obtain ⟨t2,k2⟩:=frzL_tr l _ k1
  cases hv : rd G.hp v <;> rw [hv] at h <;> simp only [getArgs,reduceCtorEq] at h
  split at h
  ·cases h
  ·rename_i z hz
   split at h
   ·cases h
   ·rename_i r hr
    obtain ⟨rfl,rfl⟩:=castD_some hz
    cases h
    refine ⟨y,vs,rfl,(rd_frz v G hR ha.1 hv).ext t2.keep.env,?_⟩
    have:=argsL_frz (G.withHp (frz G.hp v)) k1 (t:=b) (l:=l) (x:=r) (vs:=vs) (by rw [show (G.withHp (frz G.hp v)).hp = frz G.hp v from rfl,rdL_like (like_frz v G.hp)]; exact hr) (ha.2.ext t1.keep)
    exact this
 | .int _,_,_,_,_,_,h,_=>by simp [getArgs] at h
 | .bool,_,_,_,_,_,h,_=>by simp [getArgs] at h
 | .str,_,_,_,_,_,h,_=>by simp [getArgs] at h
 | .sl _,_,_,_,_,_,h,_=>by simp [getArgs] at h
 | .arr _ _,_,_,_,_,_,h,_=>by simp [getArgs] at h
 | .opq,_,_,_,_,_,h,_=>by simp [getArgs] at h
theorem spread_at : ∀ {t : Ty} {x : t.den} {vs : List Value},ArgsAt G.env t x vs->AtL G tm (spread t x) vs
 | .unit,_,_,h=>by simp only [ArgsAt] at h; subst h; simp [spread,AtL]
 | .pair a b,x,_,h=>by
  obtain ⟨v,r,rfl,h1,h2⟩:=h
  simp only [spread,AtL]
  exact ⟨by simpa [AtV] using h1,spread_at h2⟩
 | .int _,_,_,h=>h.elim
 | .bool,_,_,h=>h.elim
 | .str,_,_,h=>h.elim
 | .sl _,_,_,h=>h.elim
 | .arr _ _,_,_,h=>h.elim
 | .opq,_,_,h=>h.elim
theorem ArgsAt.ext {E E' : Env} (h : Ext E E') : ∀ {t : Ty} {x : t.den} {vs : List Value},ArgsAt E t x vs->ArgsAt E' t x vs
 | .unit,_,_,h'=>h'
 | .pair _ _,_,_,⟨v,r,e,h1,h2⟩=>⟨v,r,e,h1.ext h,ArgsAt.ext h h2⟩
 | .int _,_,_,h=>h
 | .bool,_,_,h=>h
 | .str,_,_,h=>h
 | .sl _,_,_,h=>h
 | .arr _ _,_,_,h=>h
 | .opq,_,_,h=>h
theorem out_at {E : Env} (h : Ext E G.env) {F : Fn} {r : F.rs.den} {v : Value} (hv : OutAt E F r v) : AtV G tm (F.out r) v:=by
 unfold OutAt at hv
 unfold Fn.out
 cases hm : F.multi with
 | false=>rw [hm] at hv; simp only at hv ⊢; simp only [AtV]; exact hv.ext h
 | true =>
  rw [hm] at hv; simp only at hv ⊢
  obtain ⟨vs,e,h2⟩:=hv
  simp only [AtV]
  exact ⟨vs,e,spread_at (h2.ext h)⟩
theorem pure_call {a : Act} (hR : HRel G) {o : Oper} {f : Nat} {F : Fn} (hF : Callee P f F) {x : F.ps.den} {r : F.rs.den} (hr : F.run x = some r) {vals : Array Value} (ha : ArgsAt G.env F.ps x vals.toList)
  (hrun : (execOp a.eval o).run P G.w = (callFunc f vals).run P G.w) {Q : Exit->Act->World->Prop} : DoesW P G a o (F.out r) G.hp Q:=by
 rcases hF with ⟨hcon,fn,n1,n2,n3⟩ | hext
 ·have n2' : ¬ fn.name = "runtime.NumGoroutine" := by simpa using n2
  have n3' : ¬ fn.body = none:=by intro e; rw [e] at n3; simp at n3
  have hcall:=hcon G.w G.im x r vals ⟨fun b m h=>h.2.1,hR.glob⟩ hr ha
  have h2 : (callFunc f vals).run P G.w = .ok (.enter f vals) G.w:=by simp [callFunc,n1,n2',n3']
  unfold DoesW Oper.wp
  rw [hrun,h2]
  simp only [Oper.upon_enter]
  refine hcall.mono fun e w' ⟨v,he,hb,ho⟩=>?_
  subst he
  obtain ⟨t1,t2⟩:=hR.grow hb
  refine ⟨v,G.β,G.σ,rfl,t1,t2,out_at (E:=⟨w',fun b m=>G.im b m \/ (G.w.heap.size <= b /\ b < w'.heap.size)⟩) ⟨fun b m hi=>?_,fun _ _ _ _ _=>rfl⟩ ho⟩
  rcases hi with hi | ⟨h1,h2⟩
  ·exact t1.keep.env.im b m hi
  ·exact im_new hR h1 h2 m
 ·obtain ⟨v,e1,e2⟩:=hext G.w G.im x r vals hr ha
  exact val_toW hR (hrun.trans e1) (out_at ⟨fun _ _ h=>h,fun _ _ _ _ _=>rfl⟩ e2)
theorem FlatD.scalar {E E' : Env} : ∀ (t : Ty) (x : t.den) (cs : List Value),t.scalar = true->FlatD E t x cs->FlatD E' t x cs
 | .int _,_,_,_,h=>h
 | .bool,_,_,_,h=>h
 | .str,_,_,_,h=>h
 | .arr n t,l,cs,hs,⟨h1,css,h2,h3⟩=>⟨h1,css,h2,h3.mono fun a b h=>FlatD.scalar t a b hs h⟩
 | .unit,_,_,_,h=>h
 | .pair a b,x,cs,hs,⟨c1,c2,h1,h2,h3⟩=>by
  simp only [Ty.scalar,Bool.and_eq_true] at hs
  exact ⟨c1,c2,h1,FlatD.scalar a _ _ hs.1 h2,FlatD.scalar b _ _ hs.2 h3⟩
 | .sl _,_,_,hs,_=>by simp [Ty.scalar] at hs
 | .opq,_,_,hs,_=>by simp [Ty.scalar] at hs
theorem AtD.scalar {E E' : Env} {t : Ty} {x : t.den} {v : Value} (hs : t.scalar = true) (h : AtD E t x v) : AtD E' t x v:=by
 unfold AtD at h ⊢
 split at h
 ·rename_i ht; obtain ⟨cs,h1,h2⟩:=h; exact ⟨cs,h1,FlatD.scalar t _ _ hs h2⟩
 ·exact FlatD.scalar t _ _ hs h
theorem ArgsAt.scalar {E E' : Env} : ∀ {t : Ty} {x : t.den} {vs : List Value},t.scalar = true->ArgsAt E t x vs->ArgsAt E' t x vs
 | .unit,_,_,_,h=>h
 | .pair a b,x,_,hs,⟨v,r,h1,h2,h3⟩=>by
  simp only [Ty.scalar,Bool.and_eq_true] at hs
  exact ⟨v,r,h1,h2.scalar hs.1,ArgsAt.scalar hs.2 h3⟩
 | .int _,_,_,_,h=>h.elim
 | .bool,_,_,_,h=>h.elim
 | .str,_,_,_,h=>h.elim
 | .arr _ _,_,_,_,h=>h.elim
 | .sl _,_,_,_,h=>h.elim
 | .opq,_,_,_,h=>h.elim
theorem OutAt.scalar {E E' : Env} {F : Fn} {r : F.rs.den} {v : Value} (hs : F.rs.scalar = true) (h : OutAt E F r v) : OutAt E' F r v:=by
 unfold OutAt at h ⊢
 split at h
 ·exact h.scalar hs
 ·obtain ⟨vs,h1,h2⟩:=h; exact ⟨vs,h1,h2.scalar hs⟩
theorem pure_call2 {a : Act} (hR : HRel G) {o : Oper} {f : Nat} {F : Fn} (hF : Callee P f F) {x : F.ps.den} {r : F.rs.den} (hr : F.run x = some r) {vals : Array Value} {hp1 : Heap} (hgl : GlobOk (G.withHp hp1).env) (ha : ArgsAt (G.withHp hp1).env F.ps x vals.toList) (hs : F.rs.scalar = true)
  (hrun : (execOp a.eval o).run P G.w = (callFunc f vals).run P G.w) {Q : Exit->Act->World->Prop} : DoesW P G a o (F.out r) G.hp Q:=by
 rcases hF with ⟨hcon,fn,n1,n2,n3⟩ | hext
 ·have n2' : ¬ fn.name = "runtime.NumGoroutine" := by simpa using n2
  have n3' : ¬ fn.body = none:=by intro e; rw [e] at n3; simp at n3
  have hcall:=hcon G.w (G.withHp hp1).im x r vals ⟨fun b m h=>h.2.1,hgl⟩ hr ha
  have h2 : (callFunc f vals).run P G.w = .ok (.enter f vals) G.w:=by simp [callFunc,n1,n2',n3']
  unfold DoesW Oper.wp
  rw [hrun,h2]
  simp only [Oper.upon_enter]
  refine hcall.mono fun e w' ⟨v,he,hb,ho⟩=>?_
  subst he
  obtain ⟨t1,t2⟩:=hR.grow hb
  exact ⟨v,G.β,G.σ,rfl,t1,t2,out_at (E:=GE.env ⟨w',G.β,G.σ,G.hp,G.n0,G.Bo,G.I0⟩) (Ext.refl _) (ho.scalar hs)⟩
 ·obtain ⟨v,e1,e2⟩:=hext G.w (G.withHp hp1).im x r vals hr ha
  exact val_toW hR (hrun.trans e1) (out_at (E:=G.env) (Ext.refl _) (e2.scalar hs))
theorem okR_nc {v : V} {F : Fn} {x : F.ps.den} {hp : Heap} {wr : List Nat} : okR v ≠ some (.call F x hp wr):=by simp [okR]
theorem ifR_nc {q : Prop} [Decidable q] {v : V} {F : Fn} {x : F.ps.den} {hp : Heap} {wr : List Nat} : ifR q v ≠ some (.call F x hp wr):=by simp [ifR]
theorem ifE_nc {q : Prop} [Decidable q] {v : V} {hp2 : Heap} {wr2 : List Nat} {F : Fn} {x : F.ps.den} {hp : Heap} {wr : List Nat} : ifE q v hp2 wr2 ≠ some (.call F x hp wr):=by simp [ifE]
theorem intBin_nc {op : BinOp} {k : IntKind} {p q : Int} {F : Fn} {x : F.ps.den} {hp : Heap} {wr : List Nat} : intBin op k p q ≠ some (.call F x hp wr):=by
 cases op <;> simp [intBin,okR,ifR]
theorem strBin_nc {op : BinOp} {p q : List Int} {F : Fn} {x : F.ps.den} {hp : Heap} {wr : List Nat} : strBin op p q ≠ some (.call F x hp wr):=by
 cases op <;> simp [strBin,okR,ifR]
theorem nilBin_nc {op : BinOp} {b : Bool} {F : Fn} {x : F.ps.den} {hp : Heap} {wr : List Nat} : nilBin op b ≠ some (.call F x hp wr):=by
 cases op <;> simp [nilBin,okR]
theorem binV_nc {op : BinOp} {xt : Nat} {u v : V} {F : Fn} {x : F.ps.den} {hp : Heap} {wr : List Nat} : binV C op xt u v ≠ some (.call F x hp wr):=by
 unfold binV
 repeat' split
 all_goals first | exact okR_nc | exact ifR_nc | exact intBin_nc | exact strBin_nc | exact nilBin_nc | (intro h; cases h; done)
theorem sliceL_nc {e : Operand->V} {τ : Ty} {l : List τ.den} {lo hi mx : Option Operand} {F : Fn} {x : F.ps.den} {hp : Heap} {wr : List Nat} : sliceL e τ l lo hi mx ≠ some (.call F x hp wr):=by
 unfold sliceL
 repeat' split
 all_goals first | exact ifR_nc | (intro h; cases h; done)
theorem valR_call {a : Act} (hC : CtxOk P C) (hR : HRel G) (hL : Look G a.tmps fr a.eval) {g : Option Gd} (hg : Yes g a.tmps) (o : Oper) {F : Fn} {x : F.ps.den} {hp : Heap} {wr : List Nat} (hv : valR C g fr G.hp o.op = some (.call F x hp wr)) {r : F.rs.den} (hr : F.run x = some r) {Q : Exit->Act->World->Prop} :
  DoesW P G a o (F.out r) G.hp Q:=by
 obtain ⟨dst,op,type,pos,after,guard⟩:=o
 cases op <;> simp only [valR] at hv
 case call c =>
  split at hv
  ·split at hv <;> (try split at hv) <;> exact absurd hv (by first | exact okR_nc | (intro h; cases h; done))
  ·split at hv <;> (try split at hv) <;> exact absurd hv (by first | exact okR_nc | (intro h; cases h; done))
  ·split at hv <;> (try split at hv) <;> exact absurd hv (by first | exact okR_nc | (intro h; cases h; done))
  ·cases hv
  ·split at hv
   ·rename_i f args htg
    split at hv
    ·rename_i F' hF
     split at hv
     ·cases hv
     ·rename_i hl
      split at hv
      ·rename_i y hy
       simp only [Option.some.injEq,Out.call.injEq] at hv
       obtain ⟨rfl,hv,rfl,rfl⟩:=hv
       have hv:=eq_of_heq hv
       subst hv
       obtain ⟨vals,h1,h2⟩:=target_run hC (fun x=>hL.un hg x) htg
       simp only [Bool.and_eq_true,Bool.not_eq_true',not_and,Bool.not_eq_false] at hl
       cases hlo : looseL G.hp args with
       | false=>exact pure_call hR (hC.fn _ _ hF) hr (argsL_tight hR hy hlo h1) (h2 dst type pos after guard)
       | true=>exact pure_call2 hR (hC.fn _ _ hF) hr (frzL_tr args G hR).2.glob (argsL_frz G hR hy h1) (hl hlo) (h2 dst type pos after guard)
      ·cases hv
    ·cases hv
   ·cases hv
 case binOp op xt x y yt=>exact absurd hv binV_nc
 case unOp op _ _ =>
  unfold unV at hv
  split at hv
  ·exact absurd hv okR_nc
  ·exact absurd hv okR_nc
  ·exact absurd hv okR_nc
  ·cases hv
 all_goals (exfalso; revert hv)
 all_goals (repeat' split)
 all_goals first | exact okR_nc | exact ifR_nc | exact sliceL_nc | (intro h; cases h; done)
theorem effR_call {a : Act} (hC : CtxOk P C) (hR : HRel G) (hL : Look G a.tmps fr a.eval) {g : Option Gd} (hg : Yes g a.tmps) (o : Oper) {F : Fn} {x : F.ps.den} {hp : Heap} {wr : List Nat} (hv : effR C g fr G.hp o.dst o.op = some (.call F x hp wr)) {r : F.rs.den} (hr : F.run x = some r) {Q : Exit->Act->World->Prop} :
  DoesW P G a o (F.out r) hp Q:=by
 obtain ⟨dst,op,type,pos,after,guard⟩:=o
 cases op <;> simp only [effR,reduceCtorEq] at hv
 case call c =>
  split at hv
  ·split at hv
   ·split at hv
    ·split at hv
     ·exfalso; revert hv; unfold appendE; repeat' split
      all_goals first | exact ifE_nc | (intro h; cases h; done)
     ·cases hv
    ·cases hv
   ·cases hv
  ·split at hv
   ·split at hv
    ·exfalso; revert hv; unfold copyE; repeat' split
     all_goals first | exact ifE_nc | (intro h; cases h; done)
    ·cases hv
   ·cases hv
  ·cases hv
  ·split at hv
   ·rename_i f args htg
    split at hv
    ·rename_i F' hF
     split at hv
     ·rename_i y hy
      simp only [Option.some.injEq,Out.call.injEq] at hv
      obtain ⟨rfl,hv,rfl,rfl⟩:=hv
      have hv:=eq_of_heq hv
      subst hv
      obtain ⟨vals,h1,h2⟩:=target_run hC (fun x=>hL.un hg x) htg
      obtain ⟨t0,k0⟩:=frzL_tr args G hR
      have:=pure_call (a:=a) k0 (hC.fn _ _ hF) hr (argsL_frz G hR hy h1) (h2 dst type pos after guard) (Q:=Q)
      unfold DoesW at this ⊢
      refine Oper.wp_mono (fun a' w' hK=>?_) this
      obtain ⟨x,β',σ',e1,e2,e3,e4⟩:=hK
      exact ⟨x,β',σ',e1,t0.trans e2,e3,e4⟩
     ·cases hv
    ·split at hv
     ·simp only [shCall] at hv
      split at hv <;> simp at hv
     ·cases hv
   ·cases hv
 all_goals (exfalso; revert hv)
 all_goals (repeat' split)
 all_goals first | exact ifE_nc | (intro h; cases h; done)
end
end Go.Bx
namespace Go.Bx
set_option linter.unusedVariables false
set_option linter.unusedSimpArgs false
open Go Go.RowKit
section
variable {P : Program} {C : Ctx} {G : GE} {fr : List V} {ρ : Operand->Value} {tm : Array Value}
theorem BlkOk.keep {G G2 : GE} (hK : Keep G G2) {i : Nat} {blk : Blk} (h : BlkOk G i blk) (hβ : G2.β i = G.β i) (hσ : G2.σ i = G.σ i) (hw : ∀ b,G.β i = some b->b < G.w.heap.size->G2.w.heap[b]? = G.w.heap[b]?) : BlkOk G2 i blk:=by
 cases blk with
 | cell t v z =>
  obtain ⟨b,arr,ty,g1,g2,g3⟩:=h
  exact ⟨b,arr,ty,hβ.trans g1,(hw b g1 (Array.getElem?_eq_some_iff.1 g2).1).trans g2,g3.ext hK⟩
 | buf t l ver z =>
  rcases h with ⟨b,arr,ty,css,cap,rest,g1,g2,g3,g4,g5,g6,g7,g8⟩ | ⟨g1,g2,g3,g4⟩
  ·exact .inl ⟨b,arr,ty,css,cap,rest,hβ.trans g1,hσ.trans g2,(hw b g1 (Array.getElem?_eq_some_iff.1 g3).1).trans g3,g4.mono fun _ _ h=>h.ext hK.env,g5,g6,g7,g8⟩
  ·exact .inr ⟨hβ.trans g1,g2,by rw [hσ]; exact g3.ext hK.env,by rw [hσ]; exact g4⟩
 | map k v l =>
  obtain ⟨b,es,clock,g1,g2,g3,g4⟩:=h
  exact ⟨b,es,clock,hβ.trans g1,(hw b g1 (Array.getElem?_eq_some_iff.1 g2).1).trans g2,g3.mono fun _ _ h=>⟨h.1.ext hK.env,h.2.ext hK.env⟩,g4⟩
structure Win (G G1 : GE) (e : Nat->Nat) : Prop where
 w : G1.w = G.w
 n0 : G1.n0 = G.w.heap.size
 Bo : ∀ b,G1.Bo b ↔ G1.named b
 I0 : ∀ b m,G1.I0 b m ↔ G.im b m
 ids : ∀ k blk,nthB G1.hp k = some blk->∃ blk0,nthB G.hp (e k) = some blk0 /\ G.β (e k) = G1.β k /\ ∀ m,blk.im m ↔ blk0.im m
theorem Win.named {G1 : GE} {e : Nat->Nat} (h : Win G G1 e) {b : Nat} (hn : G1.named b) : ∃ k blk blk0,nthB G1.hp k = some blk /\ G1.β k = some b /\ nthB G.hp (e k) = some blk0 /\ G.β (e k) = some b /\ ∀ m,blk.im m ↔ blk0.im m:=by
 obtain ⟨k,blk,h1,h2⟩:=hn
 obtain ⟨blk0,g1,g2,g3⟩:=h.ids k blk h1
 exact ⟨k,blk,blk0,h1,h2,g1,g2.trans h2,g3⟩
theorem Win.out {G1 : GE} {e : Nat->Nat} (hR : HRel G) (h : Win G G1 e) : Ext G1.env G.env:=by
 refine ⟨fun b m ⟨h1,h2,h3⟩=>?_,fun b m _ j _=>by show G.w.cell? _ = G1.w.cell? _; rw [h.w]⟩
 rcases h1 with h1 | h1 | h1
 ·exact (h.I0 b m).1 h1
 ·rw [h.w] at h2; rw [h.n0] at h1; omega
 ·obtain ⟨k,blk,blk0,k1,k2,k3,k4,k5⟩:=h.named ((h.Bo b).1 h1)
  exact im_own hR k3 k4 (hR.lt k3 k4) ((k5 m).1 (h3 k blk k1 k2))
theorem Win.inn {G1 : GE} {e : Nat->Nat} (h : Win G G1 e) : Ext G.env G1.env:=by
 refine ⟨fun b m hi=>⟨.inl ((h.I0 b m).2 hi),by rw [h.w]; exact hi.2.1,fun k blk k1 k2=>?_⟩,fun b m _ j _=>by show G1.w.cell? _ = G.w.cell? _; rw [h.w]⟩
 obtain ⟨blk0,g1,g2,g3⟩:=h.ids k blk k1
 exact (g3 m).2 (hi.2.2 _ blk0 g1 (g2.trans k2))
structure Back (G G1 G2 G' : GE) (e : Nat->Nat) : Prop where
 w : G'.w = G2.w
 n0 : G'.n0 = G.n0
 Bo : G'.Bo = G.Bo
 I0 : G'.I0 = G.I0
 n0' : G2.n0 = G1.n0
 Bo' : G2.Bo = G1.Bo
 I0' : G2.I0 = G1.I0
 blk : ∀ i blk',nthB G'.hp i = some blk'->(∃ k blk1,e k = i /\ nthB G2.hp k = some blk1 /\ G'.β i = G2.β k /\ G'.σ i = G2.σ k /\ (∀ m,blk1.im m ↔ blk'.im m) /\ (Ext G2.env G'.env->BlkOk G2 k blk1->BlkOk G' i blk')) \/
  (nthB G.hp i = some blk' /\ G'.β i = G.β i /\ G'.σ i = G.σ i /\ ∀ k blk,nthB G1.hp k = some blk->e k ≠ i)
 old : ∀ i blk,nthB G.hp i = some blk->∃ blk',nthB G'.hp i = some blk' /\ ∀ v,SameB G G' i i v v blk blk'
theorem lift {G1 G2 G' : GE} {e : Nat->Nat} (hR : HRel G) (hW : Win G G1 e) (h1 : HRel G2) (t1 : Tr G1 G2) (hB : Back G G1 G2 G' e) : Ext G2.env G'.env /\ Tr G G' /\ HRel G':=by
 have hsz : G.w.heap.size <= G2.w.heap.size:=by rw [<- hW.w]; exact t1.size
 have hE2 : Ext G2.env G'.env:=by
  refine ⟨fun b m ⟨k1,k2,k3⟩=>⟨?_,by rw [hB.w]; exact k2,fun i blk' hi hβ=>?_⟩,fun b m _ j _=>by show G'.w.cell? _ = G2.w.cell? _; rw [hB.w]⟩
  ·rw [hB.n0,hB.Bo,hB.I0]
   rw [hB.n0',hB.Bo',hB.I0'] at k1
   rcases k1 with k1 | k1 | k1
   ·exact ((hW.I0 b m).1 k1).1
   ·rw [hW.n0] at k1; exact .inr (.inl (Nat.le_trans hR.base k1))
   ·obtain ⟨k,blk,blk0,_,_,q3,q4,_⟩:=hW.named ((hW.Bo b).1 k1)
    exact .inr (hR.own b ⟨_,_,q3,q4⟩)
  ·rcases hB.blk i blk' hi with ⟨k,blk1,_,q2,q3,_,q5,_⟩ | ⟨q1,q2,_,q4⟩
   ·exact (q5 m).1 (k3 k blk1 q2 (q3 ▸ hβ))
   ·rw [q2] at hβ
    rw [hB.n0',hB.Bo',hB.I0'] at k1
    rcases k1 with k1 | k1 | k1
    ·exact ((hW.I0 b m).1 k1).2.2 i blk' q1 hβ
    ·rw [hW.n0] at k1; have:=hR.lt q1 hβ; omega
    ·obtain ⟨k,blk,blk0,p1,_,p3,p4,_⟩:=hW.named ((hW.Bo b).1 k1)
     exact absurd (hR.inj _ _ _ _ _ p3 q1 p4 hβ) (q4 k blk p1)
 have hE : Ext G.env G'.env:=hW.inn.trans (t1.keep.env.trans hE2)
 have hK : Keep G G':=⟨hE,fun i ver j u bl hρ hi=>by
  simp only [stay,Option.some.injEq,Prod.mk.injEq] at hρ
  obtain ⟨rfl,rfl⟩:=hρ
  obtain ⟨blk',q1,q2⟩:=hB.old i bl hi
  exact ⟨blk',q1,q2 ver⟩⟩
 have hnm : ∀ b,G1.named b->G.named b:=fun b hn=>by
  obtain ⟨k,blk,blk0,_,_,q3,q4,_⟩:=hW.named hn
  exact ⟨_,_,q3,q4⟩
 have hfr : ∀ b,b < G.w.heap.size->¬ G1.named b->G'.w.heap[b]? = G.w.heap[b]?:=fun b hb hn=>by
  rw [hB.w,<- hW.w]
  exact t1.frame b (by rw [hW.w]; exact hb) hn
 have hown : ∀ b,G'.named b->G.w.heap.size <= b \/ G.named b:=by
  rintro b ⟨i,blk',hi,hβ⟩
  rcases hB.blk i blk' hi with ⟨k,blk1,_,q2,q3,_⟩ | ⟨q1,q2,_⟩
  ·rcases t1.own b ⟨k,blk1,q2,q3 ▸ hβ⟩ with q | q
   ·rw [hW.w] at q; exact .inl q
   ·exact .inr (hnm b q)
  ·exact .inr ⟨i,blk',q1,q2 ▸ hβ⟩
 have hout : ∀ {i blk' b},nthB G.hp i = some blk'->G.β i = some b->(∀ k blk,nthB G1.hp k = some blk->e k ≠ i)->¬ G1.named b:=fun {i blk' b} q1 q2 q4 hn=>by
  obtain ⟨k,blk,blk0,p1,_,p3,p4,_⟩:=hW.named hn
  exact absurd (hR.inj _ _ _ _ _ p3 q1 p4 q2) (q4 k blk p1)
 refine ⟨hE2,⟨hK,?_,?_,?_,by rw [hB.w]; exact hsz,fun b hb hn=>hfr b hb fun h=>hn (hnm b h),hown⟩,⟨h1.glob.ext hE2,fun i blk' hi=>?_,fun i i' blk blk' b hi hi' hβ hβ'=>?_,fun b hn=>?_,?_⟩⟩
 ·rw [hB.w,<- hW.w]; exact t1.os
 ·rw [hB.w,<- hW.w]; exact t1.tape
 ·rw [hB.w,<- hW.w]; exact t1.output
 ·rcases hB.blk i blk' hi with ⟨k,blk1,_,q2,_,_,_,q6⟩ | ⟨q1,q2,q3,q4⟩
  ·exact q6 hE2 (h1.blk k blk1 q2)
  ·exact (hR.blk i blk' q1).keep hK q2 q3 fun b hb hlt=>hfr b hlt (hout q1 hb q4)
 ·rcases hB.blk i blk hi with ⟨k,blk1,e1,q2,q3,_⟩ | ⟨q1,q2,_,q4⟩ <;> rcases hB.blk i' blk' hi' with ⟨k',blk1',e1',q2',q3',_⟩ | ⟨q1',q2',_,q4'⟩
  ·rw [q3] at hβ; rw [q3'] at hβ'
   rw [<- e1,<- e1',h1.inj _ _ _ _ _ q2 q2' hβ hβ']
  ·exfalso
   rw [q3] at hβ; rw [q2'] at hβ'
   rcases t1.own b ⟨k,blk1,q2,hβ⟩ with q | q
   ·have:=hR.lt q1' hβ'; rw [hW.w] at q; omega
   ·exact hout q1' hβ' q4' q
  ·exfalso
   rw [q3'] at hβ'; rw [q2] at hβ
   rcases t1.own b ⟨k',blk1',q2',hβ'⟩ with q | q
   ·have:=hR.lt q1 hβ; rw [hW.w] at q; omega
   ·exact hout q1 hβ q4 q
  ·rw [q2] at hβ; rw [q2'] at hβ'
   exact hR.inj _ _ _ _ _ q1 q1' hβ hβ'
 ·rw [hB.n0,hB.Bo]
  rcases hown b hn with q | q
  ·exact .inl (Nat.le_trans hR.base q)
  ·exact hR.own b q
 ·rw [hB.n0,hB.w]; exact Nat.le_trans hR.base hsz
end
end Go.Bx
namespace Go.Bx
set_option linter.unusedVariables false
set_option linter.unusedSimpArgs false
open Go Go.RowKit
theorem look_map_key {α : Type} (e : Nat->Nat) (g : Nat->Blk->α) : ∀ (h : Heap) (i : Nat) (b : α),look (h.map fun x=>(e x.1,g x.1 x.2)) i = some b ->
  ∃ k b2,look (h.map fun x=>(e x.1,x.1)) i = some k /\ e k = i /\ nthB h k = some b2 /\ b = g k b2
 | [],i,b,h=>by cases h
 | (j,c) :: r,i,b,h=>by
  simp only [List.map_cons,look,nthB] at h ⊢
  by_cases hj : Nat.beq (e j) i = true
  ·rw [if_pos hj] at h
   cases h
   refine ⟨j,c,by rw [if_pos hj],Nat.eq_of_beq_eq_true hj,?_,rfl⟩
   rw [if_pos (Nat.beq_refl j)]
  ·rw [if_neg hj] at h
   obtain ⟨k,b2,h1,h2,h3,h4⟩:=look_map_key e g r i b h
   refine ⟨k,b2,by rw [if_neg hj]; exact h1,h2,?_,h4⟩
   rw [if_neg]
   ·exact h3
   ·intro hk
    have:=Nat.eq_of_beq_eq_true hk
    subst this
    exact hj (by rw [h2]; exact Nat.beq_refl i)
theorem look_none_mem {α : Type} : ∀ (l : List (Nat × α)) (i : Nat),look l i = none->i ∉ l.map (·.1)
 | [],_,_=>by simp
 | (j,c) :: r,i,h=>by
  simp only [look] at h
  split at h
  ·cases h
  ·rename_i hj
   simp only [List.map_cons,List.mem_cons,not_or]
   exact ⟨fun e=>hj (by rw [e]; exact Nat.beq_refl j),look_none_mem r i h⟩
theorem look_some_mem {α : Type} : ∀ (l : List (Nat × α)) (i : Nat) (b : α),look l i = some b->i ∈ l.map (·.1)
 | [],_,_,h=>by cases h
 | (j,c) :: r,i,b,h=>by
  simp only [look] at h
  split at h
  ·rename_i hj
   rw [<- Nat.eq_of_beq_eq_true hj]; simp
  ·simp only [List.map_cons,List.mem_cons]; exact .inr (look_some_mem r i b h)
theorem mem_is {l : List Nat} {i : Nat} : mem l i = true ↔ i ∈ l:=by
 induction l with
 | nil=>simp [mem]
 | cons j r ih =>
  simp only [mem,List.any_cons,Bool.or_eq_true,List.mem_cons] at ih ⊢
  rw [ih]
  constructor
  ·rintro (h | h)
   ·exact .inl (Nat.eq_of_beq_eq_true h)
   ·exact .inr h
  ·rintro (h | h)
   ·exact .inl (by rw [h]; exact Nat.beq_refl j)
   ·exact .inr h
theorem once_key (e : Nat->Nat) : ∀ (h : Heap) (k : Nat) (b : Blk),once (h.map fun x=>e x.1) = true->nthB h k = some b->look (h.map fun x=>(e x.1,x.1)) (e k) = some k
 | [],k,b,_,h=>by cases h
 | (j,c) :: r,k,b,ho,h=>by
  simp only [List.map_cons,once] at ho
  split at ho
  ·cases ho
  ·rename_i hm
   simp only [List.map_cons,look,nthB] at h ⊢
   by_cases hj : Nat.beq j k = true
   ·have:=Nat.eq_of_beq_eq_true hj
    subst this
    rw [if_pos (Nat.beq_refl _)]
   ·rw [if_neg hj] at h
    rw [if_neg,once_key e r k b ho h]
    intro he
    have hin : k ∈ r.map (·.1):=look_some_mem r k b h
    obtain ⟨x,hx,rfl⟩:=List.mem_map.1 hin
    have : mem (r.map fun x=>e x.1) (e j) = true:=mem_is.2 (by
     rw [Nat.eq_of_beq_eq_true he]
     exact List.mem_map.2 ⟨x,hx,rfl⟩)
    rw [this] at hm; cases hm
theorem setAll_look : ∀ (d hp : Heap) (i : Nat),nthB (setAll d hp) i = match look d i with
  | some b=>some b
  | none=>nthB hp i
 | [],_,_=>rfl
 | (j,b) :: r,hp,i=>by
  simp only [setAll,look]
  rw [look_set]
  by_cases hj : Nat.beq j i = true
  ·have:=Nat.eq_of_beq_eq_true hj
   subst this
   rw [if_pos rfl,if_pos hj]
  ·rw [if_neg hj,if_neg (fun e=>hj (by rw [e]; exact Nat.beq_refl j)),setAll_look r hp i]
theorem idxOf_get : ∀ {L : List Nat} {i k : Nat},idxOf L i = some k->k < L.length /\ L.getD k 0 = i
 | [],_,_,h=>by cases h
 | j :: r,i,k,h=>by
  simp only [idxOf] at h
  split at h
  ·rename_i hj; cases h; exact ⟨by simp,by rw [Nat.eq_of_beq_eq_true hj]; rfl⟩
  ·split at h
   ·rename_i k' hk
    cases h
    obtain ⟨h1,h2⟩:=idxOf_get hk
    exact ⟨by simp; exact h1,by simpa using h2⟩
   ·cases h
theorem idxOf_some : ∀ {L : List Nat} {i : Nat},i ∈ L->∃ k,idxOf L i = some k
 | j :: r,i,h=>by
  simp only [idxOf]
  by_cases hj : Nat.beq i j = true
  ·rw [if_pos hj]; exact ⟨0,rfl⟩
  ·rw [if_neg hj]
   rcases List.mem_cons.1 h with rfl | h
   ·exact absurd (Nat.beq_refl i) hj
   ·obtain ⟨k,hk⟩:=idxOf_some h
    rw [hk]; exact ⟨k + 1,rfl⟩
theorem addN_nodup : ∀ (r l : List Nat),l.Nodup->(addN l r).Nodup
 | [],l,h=>h
 | i :: r,l,h=>by
  simp only [addN]
  split
  ·exact addN_nodup r l h
  ·rename_i hm
   refine addN_nodup r _ (List.nodup_append.2 ⟨h,by simp,fun a ha b hb=>?_⟩)
   simp only [List.mem_cons,List.not_mem_nil,or_false] at hb
   subst hb
   rintro rfl
   rw [mem_is.2 ha] at hm; cases hm
theorem closeN_nodup {hp : Heap} : ∀ (k : Nat) (l : List Nat),l.Nodup->(closeN hp k l).Nodup
 | 0,_,h=>h
 | k + 1,l,h=>closeN_nodup k _ (addN_nodup _ _ h)
theorem reach_nodup (hp : Heap) (l : List V) : (reach hp l).Nodup:=closeN_nodup _ _ (addN_nodup _ _ List.nodup_nil)
theorem innH_at {hp : Heap} {L : List Nat} : ∀ (R : List Nat) (k0 k : Nat),nthB (innH hp L k0 R) k = if k0 <= k /\ k - k0 < R.length then (nthB hp (R.getD (k - k0) 0)).map fun b=>ver0B (renB (inn hp L) b) else none
 | [],k0,k=>by simp [innH,nthB,look]
 | i :: R,k0,k=>by
  have ih:=innH_at (hp:=hp) (L:=L) R (k0 + 1) k
  simp only [innH]
  by_cases hk : k = k0
  ·subst hk
   rw [if_pos (by simp),Nat.sub_self]
   have ih0 : nthB (innH hp L (k + 1) R) k = none:=by rw [ih,if_neg (by omega)]
   simp only [List.getD_cons_zero]
   cases hb : nthB hp i with
   | none=>exact ih0
   | some b =>
    simp only [nthB,look]
    rw [if_pos (Nat.beq_refl k)]; rfl
  ·have hne : ¬ (Nat.beq k0 k = true):=fun e=>hk (Nat.eq_of_beq_eq_true e).symm
   have step : nthB (match nthB hp i with
     | some b=>(k0,ver0B (renB (inn hp L) b)) :: innH hp L (k0 + 1) R
     | none=>innH hp L (k0 + 1) R) k = nthB (innH hp L (k0 + 1) R) k:=by
    cases nthB hp i with
    | none=>rfl
    | some b=>simp only [nthB,look]; rw [if_neg hne]
   refine step.trans (ih.trans ?_)
   by_cases h1 : k0 + 1 <= k /\ k - (k0 + 1) < R.length
   ·rw [if_pos h1,if_pos (by simp; omega)]
    have : k - k0 = (k - (k0 + 1)) + 1:=by omega
    rw [this,List.getD_cons_succ]
   ·rw [if_neg h1,if_neg (by simp; omega)]
section
variable {P : Program} {C : Ctx} {G : GE} {fr : List V} {ρ : Operand->Value} {tm : Array Value}
theorem im_ver0 (ρ : Nat->Nat->Option (Nat × Nat)) (b : Blk) (m : Nat) : (ver0B (renB ρ b)).im m ↔ b.im m:=by
 cases b <;> exact Iff.rfl
def lend (G : GE) (L : List Nat) : GE:=mkG G.w (fun k=>G.β (L.getD k 0)) (fun k=>G.σ (L.getD k 0)) (innH G.hp L 0 L) G.im
theorem eOf_lt {L N : List Nat} {s k : Nat} (h : k < L.length) : eOf L N s k = L.getD k 0:=by
 unfold eOf
 have : Nat.blt k L.length = true:=Nat.ble_eq_true_of_le h
 rw [this]
theorem lend_at {L : List Nat} {k : Nat} {b1 : Blk} (h : nthB (lend G L).hp k = some b1) : k < L.length /\ ∃ b,nthB G.hp (L.getD k 0) = some b /\ b1 = ver0B (renB (inn G.hp L) b):=by
 have h' : nthB (innH G.hp L 0 L) k = some b1:=h
 rw [innH_at] at h'
 split at h'
 ·rename_i hk
  obtain ⟨b,e1,e2⟩:=Option.map_eq_some_iff.1 h'
  exact ⟨by simpa using hk.2,b,e1,e2.symm⟩
 ·cases h'
theorem lend_of {L : List Nat} {k : Nat} {b : Blk} (hk : k < L.length) (h : nthB G.hp (L.getD k 0) = some b) : nthB (lend G L).hp k = some (ver0B (renB (inn G.hp L) b)):=by
 show nthB (innH G.hp L 0 L) k = _
 rw [innH_at,if_pos ⟨Nat.zero_le _,by simpa using hk⟩,Nat.sub_zero,h]; rfl
theorem lend_win (L N : List Nat) (s : Nat) : Win G (lend G L) (eOf L N s):=by
 refine ⟨rfl,rfl,fun _=>Iff.rfl,fun _ _=>Iff.rfl,fun k blk h=>?_⟩
 obtain ⟨hk,b,h1,rfl⟩:=lend_at h
 rw [eOf_lt hk]
 exact ⟨b,h1,rfl,fun m=>im_ver0 _ _ _⟩
theorem lend_mv (L : List Nat) : Mv (inn G.hp L) G (lend G L):=by
 refine ⟨(lend_win L [] 0).inn,fun id ver j u blk hρ hb=>?_⟩
 unfold inn at hρ
 split at hρ
 ·rename_i k v hk hv
  cases hρ
  obtain ⟨hlt,hget⟩:=idxOf_get hk
  have hb' : nthB G.hp (L.getD j 0) = some blk:=by rw [hget]; exact hb
  refine ⟨_,lend_of hlt hb',?_⟩
  have hβ : (lend G L).β j = G.β id:=by show G.β (L.getD j 0) = _; rw [hget]
  have hσ : (lend G L).σ j = G.σ id:=by show G.σ (L.getD j 0) = _; rw [hget]
  unfold ver0 at hv
  rw [hb] at hv
  cases blk with
  | cell t v z=>exact ⟨rfl,hβ⟩
  | map k v l=>exact ⟨rfl,rfl,hβ⟩
  | buf t l c z =>
   simp only at hv
   split at hv
   ·rename_i hvc
    cases hv
    exact ⟨fun _=>Nat.le_refl _,fun _ _=>⟨Nat.eq_of_beq_eq_true hvc,rfl,hβ,hσ,Nat.le_refl _⟩⟩
   ·cases hv
 ·cases hρ
theorem nodup_getD {L : List Nat} (h : L.Nodup) {k k' : Nat} (hk : k < L.length) (hk' : k' < L.length) (e : L.getD k 0 = L.getD k' 0) : k = k':=by
 rw [List.getD_eq_getElem?_getD,List.getD_eq_getElem?_getD,List.getElem?_eq_getElem hk,List.getElem?_eq_getElem hk'] at e
 exact (List.getElem_inj h).1 (by simpa using e)
theorem lend_ok (hR : HRel G) {L : List Nat} (hL : L.Nodup) : HRel (lend G L):=by
 refine ⟨hR.glob.ext (lend_win (G:=G) L [] 0).inn,fun k b1 h=>?_,fun k k' b1 b1' b h h' hβ hβ'=>?_,fun b hn=>.inr hn,Nat.le_refl _⟩
 ·obtain ⟨hk,b,h1,rfl⟩:=lend_at h
  have hb:=hR.blk _ _ h1
  have hM:=lend_mv (G:=G) L
  cases b with
  | cell t v z =>
   obtain ⟨x,arr,ty,g1,g2,g3⟩:=hb
   exact ⟨x,arr,ty,g1,g2,g3.ren hM⟩
  | buf t l ver z =>
   rcases hb with ⟨x,arr,ty,css,cap,rest,g1,g2,g3,g4,g5,g6,g7,g8⟩ | ⟨g1,g2,g3,g4⟩
   ·exact .inl ⟨x,arr,ty,css,cap,rest,g1,g2,g3,g4.mono fun _ _ h=>h.ext hM.env,g5,g6,g7,g8⟩
   ·exact .inr ⟨g1,g2,g3.ext hM.env,g4⟩
  | map k v l =>
   obtain ⟨x,es,clock,g1,g2,g3,g4⟩:=hb
   exact ⟨x,es,clock,g1,g2,g3.mono fun _ _ h=>⟨h.1.ext hM.env,h.2.ext hM.env⟩,g4⟩
 ·obtain ⟨hk,c,h1,_⟩:=lend_at h
  obtain ⟨hk',c',h1',_⟩:=lend_at h'
  exact nodup_getD hL hk hk' (hR.inj _ _ _ _ _ h1 h1' hβ hβ')
theorem AtL.sane1 : ∀ {l : List V} {m : List Value},AtL G tm l m->AtL G #[] (l.map Bx.sane) m
 | [],[],h=>h
 | _ :: _,_ :: _,h=>by simp only [AtL,List.map_cons] at h ⊢; exact ⟨h.1.sane,h.2.sane1⟩
 | [],_ :: _,h=>by simp [AtL] at h
 | _ :: _,[],h=>by simp [AtL] at h
theorem outw_eq {hp : Heap} {L N : List Nat} {s i ver j u : Nat} (h : outw hp L N s i ver = some (j,u)) : j = eOf L N s i /\ u = (match Nat.blt i L.length with
  | true=>verUp hp (L.getD i 0) ver
  | false=>ver):=by
 unfold outw at h
 unfold eOf
 cases hb : Nat.blt i L.length with
 | true=>rw [hb] at h; cases h; exact ⟨rfl,rfl⟩
 | false =>
  rw [hb] at h
  simp only at h ⊢
  split at h
  ·rename_i k hk; cases h; exact ⟨rfl,rfl⟩
  ·cases h
theorem outB_im (hp : Heap) (L N : List Nat) (s k : Nat) (b : Blk) (m : Nat) : b.im m ↔ (outB hp L N s k b).im m:=by
 cases b with
 | buf t l v z=>unfold outB; cases Nat.blt k L.length <;> exact Iff.rfl
 | cell _ _ _=>exact Iff.rfl
 | map _ _ _=>exact Iff.rfl
def nameB {α : Type} (h : Heap) (e : Nat->Nat) (new old : Nat->α) (i : Nat) : α:=match look (h.map fun x=>(e x.1,x.1)) i with
 | some k=>new k
 | none=>old i
theorem sh_back (hR : HRel G) {L : List Nat} {s : Nat} {w' : World} {β2 : Nat->Option Nat} {σ2 : Nat->Value} {h2 : Heap} (ht : Tr (lend G L) ((lend G L).at w' β2 σ2 h2)) (hL : L.Nodup)
  (hf : freeAll G.hp (newOf L (outH G.hp L s h2)) = true) (ho : once ((outH G.hp L s h2).map (·.1)) = true) :
  (Ext ((lend G L).at w' β2 σ2 h2).env (GE.env ⟨w',nameB h2 (eOf L (madeN L h2) s) β2 G.β,nameB h2 (eOf L (madeN L h2) s) σ2 G.σ,setAll (outH G.hp L s h2) G.hp,G.n0,G.Bo,G.I0⟩) ->
   Mv (outw G.hp L (madeN L h2) s) ((lend G L).at w' β2 σ2 h2) ⟨w',nameB h2 (eOf L (madeN L h2) s) β2 G.β,nameB h2 (eOf L (madeN L h2) s) σ2 G.σ,setAll (outH G.hp L s h2) G.hp,G.n0,G.Bo,G.I0⟩) /\
  Back G (lend G L) ((lend G L).at w' β2 σ2 h2) ⟨w',nameB h2 (eOf L (madeN L h2) s) β2 G.β,nameB h2 (eOf L (madeN L h2) s) σ2 G.σ,setAll (outH G.hp L s h2) G.hp,G.n0,G.Bo,G.I0⟩ (eOf L (madeN L h2) s):=by
 unfold outH at hf ho ⊢
 generalize madeN L h2 = N at *
 have ho' : once (h2.map fun x=>eOf L N s x.1) = true:=by
  rw [List.map_map] at ho; exact ho
 have hat : ∀ i,nthB (setAll (h2.map fun x=>(eOf L N s x.1,outB G.hp L N s x.1 x.2)) G.hp) i = match look (h2.map fun x=>(eOf L N s x.1,outB G.hp L N s x.1 x.2)) i with
  | some b=>some b
  | none=>nthB G.hp i:=setAll_look _ _
 have hkey : ∀ k b,nthB h2 k = some b->look (h2.map fun x=>(eOf L N s x.1,x.1)) (eOf L N s k) = some k:=fun k b h=>once_key _ h2 k b ho' h
 have hd : ∀ k b,nthB h2 k = some b->look (h2.map fun x=>(eOf L N s x.1,outB G.hp L N s x.1 x.2)) (eOf L N s k) = some (outB G.hp L N s k b):=fun k b h=>by
  have h1:=hkey k b h
  cases hl : look (h2.map fun x=>(eOf L N s x.1,outB G.hp L N s x.1 x.2)) (eOf L N s k) with
  | none =>
   exfalso
   have:=look_none_mem _ _ hl
   apply this
   rw [List.map_map]
   have:=look_some_mem _ _ _ h
   obtain ⟨x,hx,hxk⟩:=List.mem_map.1 this
   exact List.mem_map.2 ⟨x,hx,by simp [hxk]⟩
  | some b' =>
   obtain ⟨k',b2,q1,q2,q3,q4⟩:=look_map_key (eOf L N s) (fun k b=>outB G.hp L N s k b) h2 _ _ hl
   rw [h1] at q1; cases q1
   rw [h] at q3; cases q3
   rw [q4]
 have hM : Ext ((lend G L).at w' β2 σ2 h2).env (GE.env ⟨w',nameB h2 (eOf L N s) β2 G.β,nameB h2 (eOf L N s) σ2 G.σ,setAll (h2.map fun x=>(eOf L N s x.1,outB G.hp L N s x.1 x.2)) G.hp,G.n0,G.Bo,G.I0⟩) ->
   Mv (outw G.hp L N s) ((lend G L).at w' β2 σ2 h2) ⟨w',nameB h2 (eOf L N s) β2 G.β,nameB h2 (eOf L N s) σ2 G.σ,setAll (h2.map fun x=>(eOf L N s x.1,outB G.hp L N s x.1 x.2)) G.hp,G.n0,G.Bo,G.I0⟩:=fun hE=>by
  refine ⟨hE,fun id ver j u blk hρ hb=>?_⟩
  have hb' : nthB h2 id = some blk:=hb
  obtain ⟨rfl,rfl⟩:=outw_eq hρ
  refine ⟨outB G.hp L N s id blk,?_,?_⟩
  ·show nthB (setAll _ G.hp) _ = _
   rw [hat,hd id blk hb']
  ·have hβ : nameB h2 (eOf L N s) β2 G.β (eOf L N s id) = β2 id:=by unfold nameB; rw [hkey id blk hb']
   have hσ : nameB h2 (eOf L N s) σ2 G.σ (eOf L N s id) = σ2 id:=by unfold nameB; rw [hkey id blk hb']
   cases blk with
   | cell t v z=>exact ⟨rfl,hβ⟩
   | map k v l=>exact ⟨rfl,rfl,hβ⟩
   | buf t l c z =>
    unfold outB
    cases hlt : Nat.blt id L.length with
    | false=>exact ⟨fun h=>h,fun _ h=>⟨h,rfl,hβ,hσ,Nat.le_refl _⟩⟩
    | true =>
     simp only
     unfold verUp
     split
     ·exact ⟨fun h=>by omega,fun _ h=>⟨by omega,rfl,hβ,hσ,Nat.le_refl _⟩⟩
     ·exact ⟨fun h=>h,fun _ h=>⟨h,rfl,hβ,hσ,Nat.le_refl _⟩⟩
 refine ⟨hM,rfl,rfl,rfl,rfl,rfl,rfl,rfl,fun i blk' hi=>?_,fun i blk hi=>?_⟩
 ·have hi':=hi
  rw [hat] at hi'
  cases hl : look (h2.map fun x=>(eOf L N s x.1,outB G.hp L N s x.1 x.2)) i with
  | some b' =>
   rw [hl] at hi'
   simp only [Option.some.injEq] at hi'
   subst hi'
   obtain ⟨k,b2,q1,q2,q3,q4⟩:=look_map_key (eOf L N s) (fun k b=>outB G.hp L N s k b) h2 _ _ hl
   left
   refine ⟨k,b2,q2,q3,?_,?_,fun m=>by rw [q4]; exact outB_im _ _ _ _ _ _ _,fun hE hB=>?_⟩
   ·show nameB h2 (eOf L N s) β2 G.β i = _; unfold nameB; rw [q1]; rfl
   ·show nameB h2 (eOf L N s) σ2 G.σ i = _; unfold nameB; rw [q1]; rfl
   ·have hβ : nameB h2 (eOf L N s) β2 G.β i = β2 k:=by unfold nameB; rw [q1]
    have hσ : nameB h2 (eOf L N s) σ2 G.σ i = σ2 k:=by unfold nameB; rw [q1]
    rw [q4]
    cases b2 with
    | cell t v z =>
     obtain ⟨x,arr,ty,g1,g2,g3⟩:=hB
     exact ⟨x,arr,ty,hβ.trans g1,g2,g3.ren (hM hE)⟩
    | map k v l =>
     obtain ⟨x,es,clock,g1,g2,g3,g4⟩:=hB
     exact ⟨x,es,clock,hβ.trans g1,g2,g3.mono fun _ _ h=>⟨h.1.ext hE,h.2.ext hE⟩,g4⟩
    | buf t l ver z =>
     have key : ∀ v',BlkOk ⟨w',nameB h2 (eOf L N s) β2 G.β,nameB h2 (eOf L N s) σ2 G.σ,setAll (h2.map fun x=>(eOf L N s x.1,outB G.hp L N s x.1 x.2)) G.hp,G.n0,G.Bo,G.I0⟩ i (.buf t l v' z):=fun v'=>by
      rcases hB with ⟨x,arr,ty,css,cap,rest,g1,g2,g3,g4,g5,g6,g7,g8⟩ | ⟨g1,g2,g3,g4⟩
      ·exact .inl ⟨x,arr,ty,css,cap,rest,hβ.trans g1,hσ.trans g2,g3,g4.mono fun _ _ h=>h.ext hE,g5,g6,g7,g8⟩
      ·refine .inr ⟨hβ.trans g1,g2,?_,?_⟩
       ·show FlatD _ _ _ [nameB h2 (eOf L N s) σ2 G.σ i]
        rw [hσ]; exact g3.ext hE
       ·show ∃ a n,nameB h2 (eOf L N s) σ2 G.σ i = _
        rw [hσ]; exact g4
     unfold outB
     cases Nat.blt k L.length <;> exact key _
  | none =>
   rw [hl] at hi'
   right
   have hnk : look (h2.map fun x=>(eOf L N s x.1,x.1)) i = none:=by
    cases hk : look (h2.map fun x=>(eOf L N s x.1,x.1)) i with
    | none=>rfl
    | some k =>
     exfalso
     have:=look_some_mem _ _ _ hk
     apply look_none_mem _ _ hl
     rw [List.map_map] at this ⊢
     exact this
   refine ⟨hi',?_,?_,fun k blk hk he=>?_⟩
   ·show nameB h2 (eOf L N s) β2 G.β i = _; unfold nameB; rw [hnk]
   ·show nameB h2 (eOf L N s) σ2 G.σ i = _; unfold nameB; rw [hnk]
   ·obtain ⟨blk2,r1,_⟩:=ht.keep.blk k 0 k 0 blk rfl hk
    have:=hkey k blk2 r1
    rw [he,hnk] at this; cases this
 ·by_cases hiL : i ∈ L
  ·obtain ⟨k,hk⟩:=idxOf_some hiL
   obtain ⟨hlt,hget⟩:=idxOf_get hk
   have he : eOf L N s k = i:=by rw [eOf_lt hlt,hget]
   have hb1:=lend_of (G:=G) hlt (by rw [hget]; exact hi)
   obtain ⟨blk2,r1,_⟩:=ht.keep.blk k 0 k 0 _ rfl hb1
   have r1' : nthB h2 k = some blk2:=r1
   have hdk:=hd k blk2 r1'
   rw [he] at hdk
   refine ⟨outB G.hp L N s k blk2,by show nthB (setAll _ G.hp) i = _; rw [hat,hdk],fun v=>?_⟩
   obtain ⟨blk2',r2,r3⟩:=ht.keep.blk k v k v _ rfl hb1
   rw [r1] at r2; cases r2
   have hβ : nameB h2 (eOf L N s) β2 G.β i = β2 k:=by
    have:=hkey k blk2 r1'
    rw [he] at this
    unfold nameB; rw [this]
   have hβ1 : (lend G L).β k = G.β i:=by show G.β (L.getD k 0) = _; rw [hget]
   cases blk with
   | cell t c z=>cases blk2 with
    | cell t2 c2 z2=>exact ⟨r3.1,hβ.trans (r3.2.trans hβ1)⟩
    | buf _ _ _ _=>exact r3.elim
    | map _ _ _=>exact r3.elim
   | map a b l=>cases blk2 with
    | map a2 b2 l2=>exact ⟨r3.1,r3.2.1,hβ.trans (r3.2.2.trans hβ1)⟩
    | cell _ _ _=>exact r3.elim
    | buf _ _ _ _=>exact r3.elim
   | buf t l c z=>cases blk2 with
    | buf t2 l2 c2 z2 =>
     have hblt : Nat.blt k L.length = true:=Nat.ble_eq_true_of_le hlt
     have hv : outB G.hp L N s k (.buf t2 l2 c2 z2) = .buf t2 l2 (c2 + c + 1) z2:=by
      unfold outB
      rw [hblt]
      simp only
      unfold verUp
      rw [hget,hi]
     rw [hv]
     exact ⟨fun h=>by omega,fun h h'=>by omega⟩
    | cell _ _ _=>exact r3.elim
    | map _ _ _=>exact r3.elim
  ·have hnd : look (h2.map fun x=>(eOf L N s x.1,outB G.hp L N s x.1 x.2)) i = none:=by
    cases hl : look (h2.map fun x=>(eOf L N s x.1,outB G.hp L N s x.1 x.2)) i with
    | none=>rfl
    | some b' =>
     exfalso
     have hm:=look_some_mem _ _ _ hl
     have hfree : ∀ (l : List Nat),freeAll G.hp l = true->∀ j ∈ l,free G.hp j = true:=by
      intro l
      induction l with
      | nil=>intro _ j hj; cases hj
      | cons a r ih =>
       intro h j hj
       simp only [freeAll,Bool.and_eq_true] at h
       rcases List.mem_cons.1 hj with rfl | hj
       ·exact h.1
       ·exact ih h.2 j hj
     have hmem : mem L i = false:=by
      cases hq : mem L i with
      | false=>rfl
      | true=>exact absurd (mem_is.1 hq) hiL
     have:=hfree _ hf i (by
      simp only [newOf,List.mem_filter]
      exact ⟨hm,by rw [hmem]; rfl⟩)
     rw [free_none this] at hi; cases hi
   have hnk : look (h2.map fun x=>(eOf L N s x.1,x.1)) i = none:=by
    cases hk : look (h2.map fun x=>(eOf L N s x.1,x.1)) i with
    | none=>rfl
    | some k =>
     exfalso
     have:=look_some_mem _ _ _ hk
     apply look_none_mem _ _ hnd
     rw [List.map_map] at this ⊢
     exact this
   refine ⟨blk,by show nthB (setAll _ G.hp) i = _; rw [hat,hnd]; exact hi,fun v=>SameB.refl _ _ _ _ _ ?_ ?_⟩
   ·show nameB h2 (eOf L N s) β2 G.β i = _; unfold nameB; rw [hnk]
   ·show nameB h2 (eOf L N s) σ2 G.σ i = _; unfold nameB; rw [hnk]
theorem sh_call {a : Act} (hR : HRel G) {o : Oper} {f : Nat} {h : List V->Heap->Option Sh} (hS : SOk P f h /\ Named P f) {dst : Option Nat} {args : List V} {s : Sh} {L : List Nat} (hv : shCall C G.hp dst h args = some (.sh s L)) {y : s.Y} (hy : s.o = some y)
  (hz : (freeAll G.hp (newOf L (s.f y).2) && once ((s.f y).2.map (·.1))) = true) {vals : Array Value} (ha : AtL G tm args vals.toList)
  (hrun : (execOp a.eval o).run P G.w = (callFunc f vals).run P G.w) {Q : Exit->Act->World->Prop} : DoesW P G a o (s.f y).1 (setAll (s.f y).2 G.hp) Q:=by
 obtain ⟨hok,fn,n1,n2,n3⟩:=hS
 unfold shCall at hv
 simp only at hv
 split at hv
 ·rename_i sh hsh
  simp only [Option.some.injEq,Out.sh.injEq] at hv
  obtain ⟨rfl,rfl⟩:=hv
  simp only at hy hz ⊢
  rw [Bool.and_eq_true] at hz
  have hL:=reach_nodup G.hp args
  have n2' : ¬ fn.name = "runtime.NumGoroutine" := by simpa using n2
  have n3' : ¬ fn.body = none:=by intro e; rw [e] at n3; simp at n3
  have h2 : (callFunc f vals).run P G.w = .ok (.enter f vals) G.w:=by simp [callFunc,n1,n2',n3']
  have hcall:=hok _ _ sh y hsh hy G.w (fun k=>G.β ((reach G.hp args).getD k 0)) (fun k=>G.σ ((reach G.hp args).getD k 0)) G.im vals ⟨fun b m h=>h.2.1,hR.glob⟩ (lend_ok hR hL) (AtL.ren (lend_mv (reach G.hp args)) _ _ ha.sane1)
  unfold DoesW Oper.wp
  rw [hrun,h2]
  simp only [Oper.upon_enter]
  refine hcall.mono fun e w' ⟨v,β2,σ2,he,t1,t2,t3⟩=>?_
  subst he
  obtain ⟨hM,hB⟩:=sh_back hR t1 hL hz.1 hz.2
  obtain ⟨l1,l2,l3⟩:=lift hR (lend_win _ _ _) t2 t1 hB
  exact ⟨v,_,_,rfl,l2,l3,(AtV.ren (hM l1) _ _ t3).sane⟩
 ·cases hv
theorem effR_sh {a : Act} (hC : CtxOk P C) (hR : HRel G) (hL : Look G a.tmps fr a.eval) {g : Option Gd} (hg : Yes g a.tmps) (o : Oper) {s : Sh} {L : List Nat} (hv : effR C g fr G.hp o.dst o.op = some (.sh s L)) {y : s.Y} (hy : s.o = some y)
  (hz : (freeAll G.hp (newOf L (s.f y).2) && once ((s.f y).2.map (·.1))) = true) {Q : Exit->Act->World->Prop} : DoesW P G a o (s.f y).1 (setAll (s.f y).2 G.hp) Q:=by
 obtain ⟨dst,op,type,pos,after,guard⟩:=o
 cases op <;> simp only [effR,reduceCtorEq] at hv
 case call c =>
  split at hv
  ·exfalso
   split at hv
   ·split at hv
    ·split at hv
     ·revert hv; unfold appendE; repeat' split
      all_goals first | (simp [ifE]; done) | (intro h; cases h; done)
     ·cases hv
    ·cases hv
   ·cases hv
  ·exfalso
   split at hv
   ·split at hv
    ·revert hv; unfold copyE; repeat' split
     all_goals first | (simp [ifE]; done) | (intro h; cases h; done)
    ·cases hv
   ·cases hv
  ·cases hv
  ·split at hv
   ·rename_i f' args htg
    split at hv
    ·split at hv <;> simp at hv
    ·split at hv
     ·rename_i h hsh
      obtain ⟨vals,h1,h2⟩:=target_run hC (fun x=>hL.un hg x) htg
      exact sh_call hR (hC.sh _ _ hsh) hv hy hz h1 (h2 dst type pos after guard)
     ·cases hv
   ·cases hv
 all_goals (exfalso; revert hv)
 all_goals (repeat' split)
 all_goals first | (simp [ifE]; done) | (intro h; cases h; done)
end
end Go.Bx
namespace Go.Bx
set_option linter.unusedVariables false
set_option linter.unusedSimpArgs false
open Go Go.RowKit
section
variable {P : Program} {C : Ctx} {G0 : GE} {S : St} {a : Act} {w : World} {β : Nat->Option Nat} {σ : Nat->Value}
def Behind (G0 : GE) (S : St) (a : Act) (w : World) : Prop:=∃ β σ,Rel G0 S a w β σ
theorem Rel.look (h : Rel G0 S a w β σ) : Look (G0.at w β σ S.hp) a.tmps S.fr a.eval:=⟨h.ev,fun d=>rfl⟩
theorem nth_map (f : V->V) (hf : f .any = .any) : ∀ (l : List V) (i : Nat),nth (l.map f) i = f (nth l i)
 | [],_=>hf.symm
 | _ :: _,0=>rfl
 | _ :: l,i + 1=>by simpa [nth] using nth_map f hf l i
theorem nth_set (v : V) : ∀ (l : List V) (d i : Nat),nth (l.set d v) i = if d = i /\ i < l.length then v else nth l i
 | [],d,i=>by simp [nth]
 | _ :: _,0,0=>by simp [nth]
 | _ :: _,0,i + 1=>by simp [nth]
 | _ :: _,d + 1,0=>by simp [nth]
 | _ :: l,d + 1,i + 1=>by
  simp only [List.set_cons_succ,nth,List.length_cons,Nat.add_right_cancel_iff,Nat.add_lt_add_iff_right]
  exact nth_set v l d i
theorem untag_at {G : GE} {tm : Array Value} {d : Nat} {y : Value} {v : V} {x : Value} (h : AtV G tm v x) : AtV G (tm.setIfInBounds d y) (untagD d v) x:=by
 cases v with
 | opt d' w u =>
  simp only [untagD]
  split
  ·exact .any
  ·rename_i hd
   have hne : d ≠ d':=fun e=>hd (by rw [e]; exact Nat.beq_refl d')
   simp only [AtV] at h ⊢
   rw [Array.getElem?_setIfInBounds_ne hne]
   exact h
 | _=>simp only [untagD,AtV] at h ⊢ <;> exact h
theorem length_setF (fr : List V) (d : Option Nat) (v : V) : (setF fr d v).length = fr.length:=by
 cases d <;> simp [setF]
theorem Rel.next (h : Rel G0 S a w β σ) {w' : World} {β' : Nat->Option Nat} {σ' : Nat->Value} {hp' : Heap} (t : Tr (G0.at w β σ S.hp) (G0.at w' β' σ' hp')) (hR : HRel (G0.at w' β' σ' hp')) (dst : Option Nat) (v : V) (x : Value)
  (hx : ∀ d,dst = some d->AtV (G0.at w' β' σ' hp') (a.put dst x).tmps v x) : Rel G0 ⟨setF S.fr dst v,hp'⟩ (a.put dst x) w' β' σ':=by
 refine ⟨h.tr.trans t,hR,?_,?_,fun i y hy=>?_⟩
 ·cases dst <;> exact h.defers
 ·rw [length_setF,<- h.size]; cases dst <;> simp [Act.put]
 ·cases dst with
  | none=>exact (h.fr i y hy).ext t.keep
  | some d =>
   simp only [setF]
   rw [nth_set,nth_map _ rfl]
   simp only [Act.put] at hy ⊢
   by_cases hdi : d = i
   ·subst hdi
    have hlt : d < a.tmps.size:=by
     rcases Nat.lt_or_ge d a.tmps.size with h | h
     ·exact h
     ·rw [Array.getElem?_eq_none (by simpa using h)] at hy; cases hy
    rw [Array.getElem?_setIfInBounds_self_of_lt hlt] at hy
    cases hy
    rw [if_pos ⟨rfl,by simpa [<- h.size] using hlt⟩]
    exact hx d rfl
   ·rw [if_neg (fun e=>hdi e.1)]
    rw [Array.getElem?_setIfInBounds_ne hdi] at hy
    exact untag_at ((h.fr i y hy).ext t.keep)
theorem Rel.put (h : Rel G0 S a w β σ) (dst : Option Nat) (v : V) (x : Value) (hx : ∀ d,dst = some d->AtV (G0.at w β σ S.hp) (a.put dst x).tmps v x) : Rel G0 ⟨setF S.fr dst v,S.hp⟩ (a.put dst x) w β σ :=
 h.next (Tr.refl _) h.ok dst v x hx
theorem tag_at {G : GE} {tm : Array Value} {g : Option Gd} {v : V} {x : Value} (hg : ∀ gd,g = some gd->tm[gd.d]? = some (.bool gd.want)) {tm' : Array Value} (h : AtV G tm' v x) {C : Ctx} {ty : Nat} : AtV G tm (tag g (saneT C ty v)) x:=by
 cases g with
 | none=>exact h.saneT
 | some gd =>
  simp only [tag,AtV]
  exact ⟨fun _=>h.saneT,fun e=>absurd (hg gd rfl) e⟩
theorem tag_undef {G : GE} {tm : Array Value} {gd : Gd} {v : V} (hg : tm[gd.d]? ≠ some (.bool gd.want)) : AtV G tm (tag (some gd) v) undef:=by
 simp only [tag,AtV]
 exact ⟨fun e=>absurd e hg,fun _=>by first | rfl | trivial⟩
theorem put_other {a : Act} {dst : Option Nat} {d : Nat} {x : Value} (h : dst ≠ some d) : (a.put dst x).tmps[d]? = a.tmps[d]?:=by
 cases dst with
 | none=>rfl
 | some e=>simp only [Act.put]; exact Array.getElem?_setIfInBounds_ne (fun e'=>h (by rw [e']))
theorem chk_some {α : Type} {g : Option Gd} {c : Prop} {i : Decidable c} {x y : α} (h : chk g c i (some x) = some y) (hb : ∀ gd,g = some gd->gd.b = true) : c /\ x = y:=by
 cases g with
 | none =>
  simp only [chk] at h
  split at h
  ·rename_i hc; exact ⟨hc,Option.some.inj h⟩
  ·cases h
 | some gd =>
  simp only [chk] at h
  split at h
  ·rename_i hc
   simp only [hb gd rfl,Bool.not_true,Bool.or_false,decide_eq_true_eq] at hc
   exact ⟨hc,Option.some.inj h⟩
  ·cases h
abbrev pr : List Nat->St->Option (List Nat × St):=fun wr S=>some (wr,S)
theorem T_yes (hC : CtxOk P C) (h : Rel G0 S a w β σ) {g : Option Gd} (hg : Yes g a.tmps) (hgb : ∀ gd,g = some gd->gd.b = true) (o : Oper) (hgd : ∀ gd,g = some gd->o.dst ≠ some gd.d) {wr : List Nat} {S' : St}
  (ht : T C g o S pr = some (wr,S')) {Q : Exit->Act->World->Prop} : o.wp P a w (fun a' w'=>Behind G0 S' a' w') Q:=by
 have hg' : ∀ x gd,g = some gd->(a.put o.dst x).tmps[gd.d]? = some (.bool gd.want):=fun x gd e=>by rw [put_other (hgd gd e)]; exact hg gd e
 have fin : ∀ {v : V} {hp' : Heap},DoesW P (G0.at w β σ S.hp) a o v hp' Q->S' = ⟨setF S.fr o.dst (tag g (saneT C o.type v)),hp'⟩->o.wp P a w (fun a' w'=>Behind G0 S' a' w') Q:=by
  rintro v hp' hd rfl
  refine Oper.wp_mono (fun a' w' hK=>?_) hd
  obtain ⟨x,β',σ',rfl,t1,t2,t3⟩:=hK
  exact ⟨β',σ',h.next t1 t2 o.dst _ x fun d _=>tag_at (hg' x) t3⟩
 unfold T at ht
 cases hv : valR C g S.fr S.hp o.op with
 | none =>
  rw [hv] at ht
  simp only at ht
  have hgt : doIt g = some true \/ doIt g = none:=by cases g with
   | none=>exact .inl rfl
   | some gd =>
    simp only [doIt]
    split
    ·rw [hgb gd rfl]; exact .inl rfl
    ·exact .inr rfl
  rcases hgt with hgt | hgt
  rotate_left
  ·rw [hgt] at ht; cases ht
  rw [hgt] at ht
  simp only at ht
  cases he : effR C g S.fr S.hp o.dst o.op with
  | none=>rw [he] at ht; cases ht
  | some r =>
   rw [he] at ht
   cases r with
   | val c i v=>cases ht
   | new v=>cases ht
   | eff c i v hp wr' =>
    simp only at ht
    obtain ⟨hc,e⟩:=chk_some ht (fun _ e=>by cases e)
    cases e
    exact fin (effR_eff hC h.ok h.look hg o he hc).toW rfl
   | call F x hp wr' =>
    simp only at ht
    obtain ⟨r,h1,h2⟩:=Option.bind_eq_some_iff.1 ht
    cases h2
    exact fin (effR_call hC h.ok h.look hg o he h1) rfl
   | sh s L =>
    simp only at ht
    obtain ⟨y,h1,h2⟩:=Option.bind_eq_some_iff.1 ht
    rw [s.ok] at h2
    split at h2
    ·rename_i hz
     cases h2
     exact fin (effR_sh hC h.ok h.look hg o he h1 hz) rfl
    ·cases h2
 | some r =>
  rw [hv] at ht
  cases r with
  | val c i v =>
   simp only at ht
   obtain ⟨hc,e⟩:=chk_some ht hgb
   cases e
   obtain ⟨x,r1,r2⟩:=valR_val hC h.ok h.look hg o hv hc
   exact fin (val_toW h.ok r1 r2) rfl
  | call F x hp wr' =>
   simp only at ht
   have hr : ∃ r,F.run x = some r /\ S' = ⟨setF S.fr o.dst (tag g (saneT C o.type (F.out r))),S.hp⟩:=by
    cases g with
    | none =>
     simp only [runF] at ht
     obtain ⟨r,h1,h2⟩:=Option.bind_eq_some_iff.1 ht
     cases h2; exact ⟨r,h1,rfl⟩
    | some gd =>
     simp only [runF,hgb gd rfl,if_true] at ht
     obtain ⟨r,h1,h2⟩:=Option.bind_eq_some_iff.1 ht
     cases h2; exact ⟨r,h1,rfl⟩
   obtain ⟨r,hr,e⟩:=hr
   exact fin (valR_call hC h.ok h.look hg o hv hr) e
  | new v =>
   cases ht
   exact fin (valR_new hC h.ok h.look hg o hv).toW rfl
  | eff c i v hp wr'=>cases ht
  | sh s L=>cases ht
theorem T_no (h : Rel G0 S a w β σ) {gd : Gd} (hn : a.tmps[gd.d]? ≠ some (.bool gd.want)) (hs : gd.sure = true->gd.b = false) (o : Oper) (hgd : o.dst ≠ some gd.d) {wr : List Nat} {S' : St} (ht : T C (some gd) o S pr = some (wr,S')) : Behind G0 S' (a.put o.dst undef) w:=by
 have hn' : (a.put o.dst undef).tmps[gd.d]? ≠ some (.bool gd.want):=by rw [put_other hgd]; exact hn
 have fin : ∀ {v : V},S' = ⟨setF S.fr o.dst (tag (some gd) v),S.hp⟩->Behind G0 S' (a.put o.dst undef) w:=by
  rintro v rfl
  exact ⟨β,σ,h.put o.dst _ undef fun d _=>tag_undef hn'⟩
 unfold T at ht
 cases hv : valR C (some gd) S.fr S.hp o.op with
 | none =>
  rw [hv] at ht
  simp only [doIt] at ht
  cases hsu : gd.sure with
  | true =>
   rw [hsu,hs hsu] at ht
   cases ht
   exact fin rfl
  | false=>rw [hsu] at ht; cases ht
 | some r =>
  rw [hv] at ht
  cases r with
  | val c i v =>
   simp only [chk] at ht
   split at ht
   ·cases ht; exact fin rfl
   ·cases ht
  | call F x hp wr' =>
   simp only at ht
   obtain ⟨r,_,h2⟩:=Option.bind_eq_some_iff.1 ht
   cases h2
   exact fin rfl
  | new v=>cases ht; exact fin rfl
  | eff c i v hp wr'=>cases ht
  | sh s L=>cases ht
def step1 (C : Ctx) (ops : Array Oper) (o : Oper) (S : St) : Option (List Nat × St) :=
 match guardOf ops S.fr o with
 | none=>none
 | some g=>T C g o S pr
theorem step1_sound (hC : CtxOk P C) (h : Behind G0 S a w) {ops : Array Oper} (o : Oper) {wr : List Nat} {S' : St} (ht : step1 C ops o S = some (wr,S')) {Q : Exit->Act->World->Prop} :
  if Region.wanted o (yielded ops a.tmps) then o.wp P a w (fun a' w'=>Behind G0 S' a' w') Q else Behind G0 S' (a.put o.dst undef) w:=by
 obtain ⟨β,σ,h⟩:=h
 unfold step1 at ht
 cases hgo : guardOf ops S.fr o with
 | none=>rw [hgo] at ht; cases ht
 | some g =>
  rw [hgo] at ht
  simp only at ht
  unfold guardOf at hgo
  cases hgd : o.guard with
  | none =>
   rw [hgd] at hgo
   cases hgo
   rw [if_pos (by simp [Region.wanted,hgd])]
   exact T_yes hC h (fun _ e=>by cases e) (fun _ e=>by cases e) o (fun _ e=>by cases e) ht
  | some jw =>
   obtain ⟨j,wt⟩:=jw
   rw [hgd] at hgo
   simp only at hgo
   cases hd : (ops[j]?).bind (·.dst) with
   | none=>rw [hd] at hgo; cases hgo
   | some d =>
    rw [hd] at hgo
    simp only at hgo
    split at hgo
    ·cases hgo
    ·rename_i hne
     have key : ∀ b sure,g = some ⟨d,wt,(b == wt),sure⟩->(a.tmps[d]? = some (.bool wt)->b = wt)->(sure = true->a.tmps[d]? ≠ some (.bool wt)->b ≠ wt) ->
       if Region.wanted o (yielded ops a.tmps) then o.wp P a w (fun a' w'=>Behind G0 S' a' w') Q else Behind G0 S' (a.put o.dst undef) w:=by
      intro b sure hg hb hs
      subst hg
      by_cases hw : a.tmps[d]? = some (.bool wt)
      ·rw [if_pos (by simp [Region.wanted,hgd,yielded,hd,hw])]
       exact T_yes hC h (fun gd e=>by cases e; exact hw) (fun gd e=>by cases e; simp [hb hw]) o (fun gd e=>by cases e; exact hne) ht
      ·rw [if_neg]
       ·exact T_no h (gd:=⟨d,wt,(b == wt),sure⟩) hw (fun e=>by simpa using hs e hw) o hne ht
       ·simp only [Region.wanted,hgd,yielded,hd,Option.bind_some]
        cases hx : a.tmps[d]? with
        | none=>simp
        | some v =>
         cases v <;> simp
         rename_i b'
         intro e
         exact hw (by rw [hx,e])
     have hlt : ∀ v,a.tmps[d]? = some v->AtV (G0.at w β σ S.hp) a.tmps (nth S.fr d) v:=fun v hv=>h.fr d v hv
     split at hgo
     ·rename_i b heq
      refine key b true (Option.some.inj hgo).symm (fun hw=>?_) fun _ hw e=>?_
      ·have:=hlt _ hw
       rw [heq] at this
       have:=this.bool
       simpa using this.symm
      ·have hlt2 : d < a.tmps.size:=by
        rcases Nat.lt_or_ge d a.tmps.size with h' | h'
        ·exact h'
        ·rw [nth_of_ge (by rw [<- h.size]; exact h')] at heq; cases heq
       have hx:=Array.getElem?_eq_getElem hlt2
       have:=hlt _ hx
       rw [heq] at this
       have:=this.bool
       rw [this,e] at hx
       exact hw hx
     ·rename_i d' w' b heq
      refine key b false (Option.some.inj hgo).symm (fun hw=>?_) fun e=>by cases e
      have:=hlt _ hw
      rw [heq] at this
      simp only [AtV] at this
      by_cases hc : a.tmps[d']? = some (.bool w')
      ·have:=AtV.bool (G:=G0.at w β σ S.hp) (tm:=#[]) (by simpa only [AtV] using this.1 hc)
       simpa using this.symm
      ·have:=this.2 hc
       simp [undef] at this
     ·cases hgo
end
end Go.Bx
namespace Go.Bx
set_option linter.unusedVariables false
set_option linter.unusedSimpArgs false
open Go Go.RowKit
def edgesLow (i : Nat) (o : Oper) : Bool:=o.after.toList.all fun e=>!Region.binds .any e || Nat.blt e.on i
def guardEdge (o : Oper) : Bool:=match o.guard with
 | none=>true
 | some (j,_)=>o.after.toList.any fun e=>Region.binds .any e && Nat.beq e.on j
def pairOk (ops : Array Oper) (ms : List Nat) (i : Nat) (oi : Oper) : Nat->List Oper->Bool
 | _,[]=>true
 | x,ox :: r=>(Nat.ble i x || (ms.getD i 0).testBit x || ox.apart ops oi) && pairOk ops ms i oi (x + 1) r
def dstNe (i : Nat) (oi : Oper) : Nat->List Oper->Bool
 | _,[]=>true
 | x,ox :: r=>(Nat.beq x i || oi.dst.isNone || decide (ox.dst ≠ oi.dst)) && dstNe i oi (x + 1) r
def rowOk (ops : Array Oper) (ms : List Nat) : Nat->List Oper->Bool
 | _,[]=>true
 | i,o :: r=>edgesLow i o && guardEdge o && pairOk ops ms i o 0 ops.toList && dstNe i o 0 ops.toList && rowOk ops ms (i + 1) r
def drawOk (ops : Array Oper) : Bool:=Region.noSelect ops && rowOk ops (masks ops.toList []) 0 ops.toList
inductive Dep (ops : Array Oper) : Nat->Nat->Prop
 | edge {j : Nat} {o : Oper} {e : Edge} (ho : ops[j]? = some o) (he : e ∈ o.after) (hb : Region.binds .any e = true) : Dep ops e.on j
 | step {x j : Nat} {o : Oper} {e : Edge} (ho : ops[j]? = some o) (he : e ∈ o.after) (hb : Region.binds .any e = true) (h : Dep ops x e.on) : Dep ops x j
theorem maskOf_spec {ops : Array Oper} {acc : List Nat} {j : Nat} {o : Oper} (ho : ops[j]? = some o) (hacc : ∀ k m,acc[k]? = some m->∀ x,m.testBit x = true->Dep ops x k) :
  ∀ (es : List Edge),(∀ e ∈ es,e ∈ o.after)->∀ m0,(∀ x,m0.testBit x = true->Dep ops x j)->∀ x,(es.foldl (fun m e=>if Region.binds .any e then m ||| 2 ^ e.on ||| acc.getD e.on 0 else m) m0).testBit x = true->Dep ops x j
 | [],_,_,h0,x,hx=>h0 x hx
 | e :: es,hes,m0,h0,x,hx=>by
  simp only [List.foldl_cons] at hx
  refine maskOf_spec ho hacc es (fun e' he'=>hes e' (List.mem_cons_of_mem _ he')) _ (fun y hy=>?_) x hx
  split at hy
  ·rename_i hb
   simp only [Nat.testBit_or,Bool.or_eq_true] at hy
   rcases hy with (hy | hy) | hy
   ·exact h0 y hy
   ·have : y = e.on:=by
     rw [Nat.testBit_two_pow] at hy
     simpa using (of_decide_eq_true hy).symm
    subst this
    exact .edge ho (hes e (by simp)) hb
   ·cases hk : acc[e.on]? with
    | none=>simp [List.getD,hk] at hy
    | some m=>exact .step ho (hes e (by simp)) hb (hacc _ _ hk y (by simpa [List.getD,hk] using hy))
  ·exact h0 y hy
theorem masks_spec {ops : Array Oper} : ∀ (l : List Oper) (acc : List Nat),(∀ k,l[k]? = ops[acc.length + k]?)->(∀ k m,acc[k]? = some m->∀ x,m.testBit x = true->Dep ops x k) ->
  ∀ k m,(masks l acc)[k]? = some m->∀ x,m.testBit x = true->Dep ops x k
 | [],acc,_,hacc,k,m,hk,x,hx=>hacc k m hk x hx
 | o :: r,acc,hl,hacc,k,m,hk,x,hx=>by
  simp only [masks] at hk
  have h0 : ops[acc.length]? = some o:=by simpa using (hl 0).symm
  refine masks_spec r _ (fun k=>?_) (fun k m hk x hx=>?_) k m hk x hx
  ·have:=hl (k + 1)
   simpa [Nat.add_assoc,Nat.add_comm 1 k] using this
  ·rw [List.getElem?_append] at hk
   split at hk
   ·exact hacc k m hk x hx
   ·rename_i hge
    have hk0 : k = acc.length:=by
     rcases Nat.lt_or_ge (k - acc.length) 1 with h | h
     ·omega
     ·rw [List.getElem?_eq_none (by simpa using h)] at hk; cases hk
    subst hk0
    simp at hk
    subst hk
    exact maskOf_spec h0 hacc _ (fun e he=>by simpa using he) 0 (fun x hx=>by simp at hx) x hx
theorem pairOk_spec {ops : Array Oper} {ms : List Nat} {i : Nat} {oi : Oper} : ∀ (l : List Oper) (s : Nat),pairOk ops ms i oi s l = true->∀ k ox,l[k]? = some ox->s + k < i->(ms.getD i 0).testBit (s + k) = true \/ ox.apart ops oi = true
 | [],_,_,k,ox,h,_=>by simp at h
 | o :: r,s,h,0,ox,hk,hlt=>by
  simp at hk; subst hk
  simp only [pairOk,Bool.and_eq_true,Bool.or_eq_true] at h
  rcases h.1 with (h1 | h1) | h1
  ·have:=Nat.le_of_ble_eq_true h1; omega
  ·exact .inl (by simpa using h1)
  ·exact .inr h1
 | o :: r,s,h,k + 1,ox,hk,hlt=>by
  simp only [pairOk,Bool.and_eq_true] at h
  have:=pairOk_spec r (s + 1) h.2 k ox (by simpa using hk) (by omega)
  rwa [show s + 1 + k = s + (k + 1) by omega] at this
theorem dstNe_spec {i : Nat} {oi : Oper} : ∀ (l : List Oper) (s : Nat),dstNe i oi s l = true->∀ k ox,l[k]? = some ox->s + k ≠ i->∀ d,oi.dst = some d->ox.dst ≠ some d
 | [],_,_,k,ox,h,_,_,_=>by simp at h
 | o :: r,s,h,0,ox,hk,hne,d,hd=>by
  simp at hk; subst hk
  simp only [dstNe,Bool.and_eq_true,Bool.or_eq_true,decide_eq_true_eq] at h
  rcases h.1 with (h1 | h1) | h1
  ·exact absurd (Nat.eq_of_beq_eq_true h1) (by simpa using hne)
  ·rw [hd] at h1; simp at h1
  ·rw [hd] at h1; exact h1
 | o :: r,s,h,k + 1,ox,hk,hne,d,hd=>by
  simp only [dstNe,Bool.and_eq_true] at h
  exact dstNe_spec r (s + 1) h.2 k ox (by simpa using hk) (by omega) d hd
theorem rowOk_spec {ops : Array Oper} {ms : List Nat} : ∀ (l : List Oper) (s : Nat),rowOk ops ms s l = true->∀ k o,l[k]? = some o ->
  edgesLow (s + k) o = true /\ guardEdge o = true /\ pairOk ops ms (s + k) o 0 ops.toList = true /\ dstNe (s + k) o 0 ops.toList = true
 | [],_,_,k,o,h=>by simp at h
 | o :: r,s,h,0,o',hk=>by
  simp at hk; subst hk
  simp only [rowOk,Bool.and_eq_true] at h
  exact ⟨h.1.1.1.1,h.1.1.1.2,h.1.1.2,h.1.2⟩
 | o :: r,s,h,k + 1,o',hk=>by
  simp only [rowOk,Bool.and_eq_true] at h
  have:=rowOk_spec r (s + 1) h.2 k o' (by simpa using hk)
  rwa [show s + 1 + k = s + (k + 1) by omega] at this
structure DrawFacts (ops : Array Oper) : Prop where
 low : ∀ (i : Nat) (o : Oper),ops[i]? = some o->∀ e ∈ o.after,Region.binds .any e = true->e.on < i
 grd : ∀ (i : Nat) (o : Oper) (j : Nat) (w : Bool),ops[i]? = some o->o.guard = some (j,w)->∃ e ∈ o.after,Region.binds .any e = true /\ e.on = j
 pair : ∀ (x i : Nat) (ox oi : Oper),ops[x]? = some ox->ops[i]? = some oi->x < i->Dep ops x i \/ ox.apart ops oi = true
 dst : ∀ (x i : Nat) (ox oi : Oper) (d : Nat),ops[x]? = some ox->ops[i]? = some oi->x ≠ i->oi.dst = some d->ox.dst ≠ some d
theorem drawOk_facts {ops : Array Oper} (h : drawOk ops = true) : DrawFacts ops:=by
 simp only [drawOk,Bool.and_eq_true] at h
 have hr:=rowOk_spec ops.toList 0 h.2
 have row : ∀ i o,ops[i]? = some o->edgesLow i o = true /\ guardEdge o = true /\ pairOk ops (masks ops.toList []) i o 0 ops.toList = true /\ dstNe i o 0 ops.toList = true:=fun i o ho=>by
  have:=hr i o (by simpa using ho)
  simpa using this
 refine ⟨fun i o ho e he hb=>?_,fun i o j w ho hg=>?_,fun x i ox oi hx hi hlt=>?_,fun x i ox oi d hx hi hne hd=>?_⟩
 ·have:=(row i o ho).1
  simp only [edgesLow,List.all_eq_true] at this
  have:=this e (by simpa using he)
  simp only [hb,Bool.not_true,Bool.false_or] at this
  exact Nat.le_of_ble_eq_true this
 ·have:=(row i o ho).2.1
  simp only [guardEdge,hg,List.any_eq_true,Bool.and_eq_true] at this
  obtain ⟨e,he,hb,hj⟩:=this
  exact ⟨e,by simpa using he,hb,Nat.eq_of_beq_eq_true hj⟩
 ·have:=pairOk_spec ops.toList 0 (row i oi hi).2.2.1 x ox (by simpa using hx) (by omega)
  rw [Nat.zero_add] at this
  refine this.imp (fun hm=>?_) id
  cases hk : (masks ops.toList [])[i]? with
  | none=>simp [List.getD,hk] at hm
  | some m=>exact masks_spec ops.toList [] (fun k=>by simp) (fun k m hk=>by simp at hk) i m hk x (by simpa [List.getD,hk] using hm)
 ·exact dstNe_spec ops.toList 0 (row i oi hi).2.2.2 x ox (by simpa using hx) (by omega) d hd
theorem Dep.listed {ops : Array Oper} {listed : Array Bool} (hdown : ∀ j o,ops[j]? = some o->listed.getD j false = true->∀ e ∈ o.after,Region.binds .any e = true->listed.getD e.on false = true) {x j : Nat} (h : Dep ops x j) :
  (∀ o,ops[j]? = some o->∀ e ∈ o.after,Region.binds .any e = true->listed.getD e.on false = true)->listed.getD x false = true:=by
 induction h with
 | edge ho he hb=>exact fun hp=>hp _ ho _ he hb
 | step ho he hb _ ih=>exact fun hp=>ih fun o' ho'=>hdown _ o' ho' (hp _ ho _ he hb)
end Go.Bx
namespace Go.Bx
set_option linter.unusedVariables false
set_option linter.unusedSimpArgs false
open Go Go.RowKit
abbrev Agree (L : List Nat) (hp hp' : Heap) : Prop:=∀ i ∈ L,nthB hp' i = nthB hp i
theorem Agree.sub {L M : List Nat} {hp hp' : Heap} (h : Agree L hp hp') (hs : ∀ i ∈ M,i ∈ L) : Agree M hp hp':=fun i hi=>h i (hs i hi)
mutual
theorem rd_agree {hp hp' : Heap} : ∀ v : V,Agree v.ids hp hp'->rd hp' v = rd hp v
 | .app id ver,h=>by simp only [rd]; rw [h id (by simp [V.ids])]
 | .view id p t n lo hi,h=>by simp only [rd]; rw [h id (by simp [V.ids])]
 | .agg t l,h=>by simp only [rd]; rw [rdL_agree l (fun i hi=>h i (by simpa [V.ids] using hi))]
 | .any,_=>rfl
 | .data _ _,_=>rfl
 | .nilp,_=>rfl
 | .snil,_=>rfl
 | .ref _ _ _,_=>rfl
 | .iref _ _,_=>rfl
 | .tup _,_=>rfl
 | .opt _ _ _,_=>rfl
 | .fn _ _ _,_=>rfl
 | .full _ _,_=>rfl
 | .ifc _ _,_=>rfl
 | .mth _ _,_=>rfl
 | .map _,_=>rfl
 | .glob _,_=>rfl
theorem rdL_agree {hp hp' : Heap} : ∀ l : List V,Agree (V.idsL l) hp hp'->rdL hp' l = rdL hp l
 | [],_=>rfl
 | v :: l,h=>by simp only [rdL]; rw [rd_agree v (fun i hi=>h i (by simp [V.idsL,hi])),rdL_agree l (fun i hi=>h i (by simp [V.idsL,hi]))]
end
mutual
theorem loose_agree {hp hp' : Heap} : ∀ v : V,Agree v.ids hp hp'->loose hp' v = loose hp v
 | .app id ver,h=>by simp only [loose]; rw [h id (by simp [V.ids])]
 | .view id p t n lo hi,h=>by simp only [loose]; rw [h id (by simp [V.ids])]
 | .agg t l,h=>by simp only [loose]; rw [looseL_agree l (fun i hi=>h i (by simpa [V.ids] using hi))]
 | .any,_=>rfl
 | .data _ _,_=>rfl
 | .nilp,_=>rfl
 | .snil,_=>rfl
 | .ref _ _ _,_=>rfl
 | .iref _ _,_=>rfl
 | .tup _,_=>rfl
 | .opt _ _ _,_=>rfl
 | .fn _ _ _,_=>rfl
 | .full _ _,_=>rfl
 | .ifc _ _,_=>rfl
 | .mth _ _,_=>rfl
 | .map _,_=>rfl
 | .glob _,_=>rfl
theorem looseL_agree {hp hp' : Heap} : ∀ l : List V,Agree (V.idsL l) hp hp'->looseL hp' l = looseL hp l
 | [],_=>rfl
 | v :: l,h=>by simp only [looseL]; rw [loose_agree v (fun i hi=>h i (by simp [V.idsL,hi])),looseL_agree l (fun i hi=>h i (by simp [V.idsL,hi]))]
end
mutual
theorem frz_at {hp hp' : Heap} {i : Nat} : ∀ v : V,nthB hp' i = nthB hp i->nthB (frz hp' v) i = nthB (frz hp v) i
 | .app id _,h=>by
  simp only [frz]
  by_cases e : i = id
  ·subst e; rw [h]; cases nthB hp i <;> simp [h,look_set]
  ·cases nthB hp id <;> cases nthB hp' id <;> simp only [look_set,if_neg e,h]
 | .view id _ _ _ _ _,h=>by
  simp only [frz]
  by_cases e : i = id
  ·subst e; rw [h]; cases nthB hp i <;> simp [h,look_set]
  ·cases nthB hp id <;> cases nthB hp' id <;> simp only [look_set,if_neg e,h]
 | .agg _ l,h=>by simp only [frz]; exact frzL_at l h
 | .any,h=>h
 | .data _ _,h=>h
 | .nilp,h=>h
 | .snil,h=>h
 | .ref _ _ _,h=>h
 | .iref _ _,h=>h
 | .tup _,h=>h
 | .opt _ _ _,h=>h
 | .fn _ _ _,h=>h
 | .full _ _,h=>h
 | .ifc _ _,h=>h
 | .mth _ _,h=>h
 | .map _,h=>h
 | .glob _,h=>h
theorem frzL_at {hp hp' : Heap} {i : Nat} : ∀ l : List V,nthB hp' i = nthB hp i->nthB (frzL hp' l) i = nthB (frzL hp l) i
 | [],h=>h
 | v :: l,h=>by simp only [frzL]; exact frzL_at l (frz_at v h)
end
mutual
theorem frz_off {hp : Heap} {i : Nat} : ∀ v : V,i ∉ v.ids->nthB (frz hp v) i = nthB hp i
 | .app id _,h=>by
  simp only [frz]
  have e : i ≠ id:=fun e=>h (by simp [V.ids,e])
  cases nthB hp id <;> simp only [look_set,if_neg e]
 | .view id _ _ _ _ _,h=>by
  simp only [frz]
  have e : i ≠ id:=fun e=>h (by simp [V.ids,e])
  cases nthB hp id <;> simp only [look_set,if_neg e]
 | .agg _ l,h=>by simp only [frz]; exact frzL_off l (by simpa [V.ids] using h)
 | .any,_=>rfl
 | .data _ _,_=>rfl
 | .nilp,_=>rfl
 | .snil,_=>rfl
 | .ref _ _ _,_=>rfl
 | .iref _ _,_=>rfl
 | .tup _,_=>rfl
 | .opt _ _ _,_=>rfl
 | .fn _ _ _,_=>rfl
 | .full _ _,_=>rfl
 | .ifc _ _,_=>rfl
 | .mth _ _,_=>rfl
 | .map _,_=>rfl
 | .glob _,_=>rfl
theorem frzL_off {hp : Heap} {i : Nat} : ∀ l : List V,i ∉ V.idsL l->nthB (frzL hp l) i = nthB hp i
 | [],_=>rfl
 | v :: l,h=>by
  simp only [V.idsL,List.mem_append,not_or] at h
  simp only [frzL]; rw [frzL_off l h.2,frz_off v h.1]
end
structure Loc (hp h hp' h' : Heap) (wr : List Nat) : Prop where
 on : ∀ i ∈ wr,nthB h' i = nthB h i
 off : ∀ i,i ∉ wr->nthB h i = nthB hp i
 off' : ∀ i,i ∉ wr->nthB h' i = nthB hp' i
theorem Loc.nil {hp hp' : Heap} : Loc hp hp hp' hp' []:=⟨fun _ h=>by simp at h,fun _ _=>rfl,fun _ _=>rfl⟩
theorem Loc.set {hp hp' : Heap} {d : Nat} {b : Blk} : Loc hp (setB hp d b) hp' (setB hp' d b) [d] :=
 ⟨fun i hi=>by simp only [List.mem_singleton] at hi; subst hi; simp [look_set],fun i hi=>by simp only [List.mem_singleton] at hi; rw [look_set,if_neg hi],fun i hi=>by simp only [List.mem_singleton] at hi; rw [look_set,if_neg hi]⟩
theorem Loc.frzL {hp hp' : Heap} {l : List V} (h : Agree (V.idsL l) hp hp') : Loc hp (frzL hp l) hp' (Bx.frzL hp' l) (V.idsL l) :=
 ⟨fun i hi=>frzL_at l (h i hi),fun i hi=>frzL_off l hi,fun i hi=>frzL_off l hi⟩
theorem Loc.frz {hp hp' : Heap} {v : V} (h : Agree v.ids hp hp') : Loc hp (frz hp v) hp' (Bx.frz hp' v) v.ids :=
 ⟨fun i hi=>frz_at v (h i hi),fun i hi=>frz_off v hi,fun i hi=>frz_off v hi⟩
theorem Loc.set_frz {hp hp' : Heap} {v : V} {d : Nat} {b : Blk} (h : Agree v.ids hp hp') : Loc hp (setB (Bx.frz hp v) d b) hp' (setB (Bx.frz hp' v) d b) (d :: v.ids):=by
 refine ⟨fun i hi=>?_,fun i hi=>?_,fun i hi=>?_⟩
 ·rw [look_set,look_set]
  split
  ·rfl
  ·rename_i hne
   exact frz_at v (h i ((List.mem_cons.1 hi).resolve_left hne))
 all_goals
  simp only [List.mem_cons,not_or] at hi
  rw [look_set,if_neg hi.1,frz_off v hi.2]
inductive OutLoc (hp hp' : Heap) : Out->Out->Prop
 | eff {c i v h h' wr} (l : Loc hp h hp' h' wr) : OutLoc hp hp' (.eff c i v h wr) (.eff c i v h' wr)
 | call {F a h h' wr} (l : Loc hp h hp' h' wr) : OutLoc hp hp' (.call F a h wr) (.call F a h' wr)
 | sh {s L} : OutLoc hp hp' (.sh s L) (.sh s L)
 | val {c i v} : OutLoc hp hp' (.val c i v) (.val c i v)
def Out.wr : Out->List Nat
 | .eff _ _ _ _ w=>w
 | .call _ _ _ w=>w
 | _=>[]
mutual
theorem ids_sane : ∀ v : V,∀ i ∈ (sane v).ids,i ∈ v.ids
 | .opt _ _ _,i,h=>by simp [sane,V.ids] at h
 | .any,_,h=>h
 | .data _ _,_,h=>h
 | .nilp,_,h=>h
 | .snil,_,h=>h
 | .ref _ _ _,_,h=>h
 | .iref _ _,_,h=>h
 | .tup _,_,h=>h
 | .fn _ _ _,_,h=>h
 | .full _ _,_,h=>h
 | .app _ _,_,h=>h
 | .view _ _ _ _ _ _,_,h=>h
 | .agg _ _,_,h=>h
 | .ifc _ _,_,h=>h
 | .mth _ _,_,h=>h
 | .map _,_,h=>h
 | .glob _,_,h=>h
end
theorem ids_un (g : Option Gd) (v : V) : ∀ i ∈ (un g v).ids,i ∈ v.ids:=by
 intro i h
 cases v <;> simp only [un] at h <;> try exact h
 rename_i d w u
 cases g with
 | none=>simp [V.ids] at h
 | some g =>
  simp only at h
  split at h
  ·simpa [V.ids] using ids_sane u i h
  ·simp [V.ids] at h
theorem ids_dd (v : V) : ∀ i ∈ (dd v).ids,i ∈ v.ids:=by
 intro i h
 cases v <;> simp only [dd] at h <;> first | exact h | simp [V.ids] at h
theorem ids_nilT (u : Ty) (v : V) : ∀ i ∈ (nilT u v).ids,i ∈ v.ids:=by
 intro i h
 cases v <;> simp only [nilT] at h <;> first | exact h | (cases u <;> simp [V.ids] at h)
theorem mem_idsL {l : List V} {v : V} {i : Nat} (hv : v ∈ l) (hi : i ∈ v.ids) : i ∈ V.idsL l:=by
 induction l with
 | nil=>cases hv
 | cons a l ih =>
  simp only [V.idsL,List.mem_append]
  rcases List.mem_cons.1 hv with e | e
  ·subst e; exact .inl hi
  ·exact .inr (ih e)
theorem idsL_mem {l : List V} {i : Nat} (h : i ∈ V.idsL l) : ∃ v ∈ l,i ∈ v.ids:=by
 induction l with
 | nil=>simp [V.idsL] at h
 | cons a l ih =>
  simp only [V.idsL,List.mem_append] at h
  rcases h with h | h
  ·exact ⟨a,by simp,h⟩
  ·obtain ⟨v,h1,h2⟩:=ih h; exact ⟨v,List.mem_cons_of_mem _ h1,h2⟩
theorem idsL_append (l m : List V) : V.idsL (l ++ m) = V.idsL l ++ V.idsL m:=by
 induction l with
 | nil=>rfl
 | cons a l ih=>simp [V.idsL,ih]
theorem ids_ev {fr : List V} {L : List Operand} {x : Operand} (hx : x ∈ L) : ∀ i ∈ (ev fr x).ids,i ∈ V.idsL (L.map (ev fr)):=fun i hi=>mem_idsL (List.mem_map_of_mem hx) hi
theorem target_ids {C : Ctx} {g : Option Gd} {fr : List V} {c : Call} {f : Nat} {args : List V} (h : target C (fun x=>un g (ev fr x)) c = some (f,args)) : ∀ i ∈ V.idsL args,i ∈ V.idsL (c.operands.toList.map (ev fr)):=by
 unfold target at h
 have hargs : ∀ x ∈ c.args.toList,x ∈ c.operands.toList:=fun x hx=>by simp [Call.operands]; right; simpa using hx
 have arg : ∀ i ∈ V.idsL (c.args.toList.map fun x=>un g (ev fr x)),i ∈ V.idsL (c.operands.toList.map (ev fr)):=fun i hi=>by
  obtain ⟨v,h1,h2⟩:=idsL_mem hi
  obtain ⟨x,hx,rfl⟩:=List.mem_map.1 h1
  exact ids_ev (hargs x hx) i (ids_un g _ i h2)
 have sn : ∀ (l : List V),∀ i ∈ V.idsL (l.map sane),i ∈ V.idsL l:=fun l i hi=>by
  obtain ⟨v,h1,h2⟩:=idsL_mem hi
  obtain ⟨x,hx,rfl⟩:=List.mem_map.1 h1
  exact mem_idsL hx (ids_sane _ i h2)
 split at h
 ·rename_i fo hc
  split at h
  ·rename_i f' fst cap he
   cases h
   intro i hi
   simp only [callArgs,idsL_append,List.nil_append,List.mem_append] at hi
   have hf : ∀ i ∈ (ev fr fo).ids,i ∈ V.idsL (c.operands.toList.map (ev fr)):=ids_ev (by simp [Call.operands,hc])
   have he' : un g (ev fr fo) = .fn f fst cap:=he
   have hfc : ∀ i,(i ∈ V.idsL fst \/ i ∈ V.idsL cap)->i ∈ (ev fr fo).ids:=fun i hi=>ids_un g _ i (by rw [he']; simpa [V.ids] using hi)
   rcases hi with (hi | hi) | hi
   ·exact hf i (hfc i (.inl (sn _ i hi)))
   ·exact arg i hi
   ·exact hf i (hfc i (.inr (sn _ i hi)))
  ·cases h
 ·rename_i r m hc
  split at h
  ·rename_i t v he0
   have he : un g (ev fr r) = .ifc t v:=he0
   split at h
   ·cases h
    intro i hi
    simp only [callArgs,idsL_append,List.map_nil,List.append_nil,V.idsL,List.mem_append] at hi
    rcases hi with hi | hi
    ·exact ids_ev (L:=c.operands.toList) (x:=r) (by simp [Call.operands,hc]) i (ids_un g _ i (by rw [he]; simpa [V.ids] using ids_sane _ i hi))
    ·exact arg i hi
   ·cases h
  ·cases h
 ·cases h
theorem buildV_congr {e e' : Operand->V} {τ : Ty} : ∀ (l : List (Nat × Operand)) (c : τ.den),(∀ p ∈ l,e' p.2 = e p.2)->buildV e' τ l c = buildV e τ l c
 | [],_,_=>rfl
 | (i,x) :: r,c,h=>by
  have ih:=fun c : τ.den=>buildV_congr (τ:=τ) r c fun p hp=>h p (List.mem_cons_of_mem _ hp)
  have hx : e' x = e x:=h (i,x) (by simp)
  simp only [buildV,hx,ih]
theorem buildT_congr {e e' : Operand->V} {τ : Ty} : ∀ (l : List (Nat × Operand)) (c : V),(∀ p ∈ l,e' p.2 = e p.2)->buildT e' τ l c = buildT e τ l c
 | [],_,_=>rfl
 | (i,x) :: r,c,h=>by
  have ih:=fun c=>buildT_congr (τ:=τ) r c fun p hp=>h p (List.mem_cons_of_mem _ hp)
  have hx : e' x = e x:=h (i,x) (by simp)
  simp only [buildT,hx,ih]
theorem mem_parts {parts : Array (Nat × Operand)} {p : Nat × Operand} (h : p ∈ parts.toList) : p.2 ∈ (parts.toList.map (·.2)):=List.mem_map.2 ⟨p,h,rfl⟩
theorem valR_local {C : Ctx} {g : Option Gd} {fr : List V} {hp hp' : Heap} {op : Op} (h : Agree (V.idsL (op.operands.toList.map (ev fr))) hp hp') : valR C g fr hp' op = valR C g fr hp op:=by
 have E : ∀ x,x ∈ op.operands->Agree (un g (ev fr x)).ids hp hp':=fun x hx i hi=>h i (ids_ev (by simpa using hx) i (ids_un g _ i hi))
 have D : ∀ x,x ∈ op.operands->Agree (dd (un g (ev fr x))).ids hp hp':=fun x hx i hi=>E x hx i (ids_dd _ i hi)
 have R : ∀ x,x ∈ op.operands->rd hp' (dd (un g (ev fr x))) = rd hp (dd (un g (ev fr x))):=fun x hx=>rd_agree _ (D x hx)
 have I : ∀ x id ver p,x ∈ op.operands->dd (un g (ev fr x)) = .ref id ver p->nthB hp' id = nthB hp id:=fun x id ver p hx e=>D x hx id (by rw [e]; simp [V.ids])
 cases op <;> simp only [valR] <;> simp only [Op.operands] at E D R I
 case load t x =>
  cases look C.ty t with
  | none=>rfl
  | some τ =>
   cases he : dd (un g (ev fr x)) <;> try rfl
   simp only [I x _ _ _ (by simp) he]
 case indexAddr t x i =>
  cases look C.ty t with
  | none=>rfl
  | some τ =>
   cases he : dd (un g (ev fr x)) with
   | ref id ver p =>
    have:=I x _ _ _ (by simp) he
    cases τ <;> cases dd (un g (ev fr i)) <;> first | rfl | (rename_i t3 n3; cases t3 <;> first | rfl | simp only [this])
   | app id ver =>
    have : nthB hp' id = nthB hp id:=D x (by simp) id (by rw [he]; simp [V.ids])
    cases τ <;> cases dd (un g (ev fr i)) <;> first | rfl | (rename_i t3 n3; cases t3 <;> first | rfl | simp only [this])
   | data t' y=>cases τ <;> cases t' <;> cases dd (un g (ev fr i)) <;> first | rfl | (rename_i t3 n3; cases t3 <;> rfl)
   | iref t' y=>cases τ <;> cases t' <;> cases dd (un g (ev fr i)) <;> first | rfl | (rename_i t3 n3; cases t3 <;> rfl)
   | _=>cases τ <;> cases dd (un g (ev fr i)) <;> first | rfl | (rename_i t3 n3; cases t3 <;> rfl)
 case lookup t m k c =>
  have hm : ∀ id,dd (un g (ev fr m)) = .map id->nthB hp' id = nthB hp id:=fun id he=>D m (by simp) id (by rw [he]; simp [V.ids])
  generalize dd (un g (ev fr m)) = v at hm ⊢
  cases c <;> try rfl
  cases look C.mp t <;> try rfl
  cases v <;> try rfl
  cases dd (un g (ev fr k)) <;> try rfl
  simp only [hm _ rfl]
 case fieldAddr t x j =>
  cases look C.ty t with
  | none=>rfl
  | some τ =>
   cases he : dd (un g (ev fr x)) with
   | ref id ver p=>simp only [I x _ _ _ (by simp) he]
   | _=>rfl
 case convert s d x =>
  have hr:=R x (by simp)
  generalize dd (un g (ev fr x)) = v at hr
  generalize look C.ty s = a
  generalize look C.ty d = b
  split <;> first | rfl | simp only [hr] | skip
 case buildSlice t n parts =>
  have hb : ∀ (τ : Ty) (c : τ.den),buildV (fun x=>rd hp' (dd (un g (ev fr x)))) τ parts.toList c = buildV (fun x=>rd hp (dd (un g (ev fr x)))) τ parts.toList c:=fun τ c=>buildV_congr _ _ fun p hq=>R p.2 (by simpa using mem_parts hq)
  have hl : parts.toList.any (fun p=>loose hp' (dd (un g (ev fr p.2)))) = parts.toList.any (fun p=>loose hp (dd (un g (ev fr p.2)))):=by
   rw [Bool.eq_iff_iff]
   simp only [List.any_eq_true]
   exact exists_congr fun p=>and_congr_right fun hq=>by rw [loose_agree _ (D p.2 (by simpa using mem_parts hq))]
  simp only [hb,hl]
 case slice t x lo hi mx =>
  cases he : dd (un g (ev fr x)) with
  | ref id ver p=>have:=I x _ _ _ (by simp) he; simp only [this]
  | app id ver =>
   have : nthB hp' id = nthB hp id:=D x (by simp) id (by rw [he]; simp [V.ids])
   simp only [this]
  | data t' y=>cases t' <;> rfl
  | iref t' y=>cases t' <;> rfl
  | _=>rfl
 case call c =>
  cases hc : c.callee with
  | builtin b =>
   have hl : c.args.toList.map (fun x=>rd hp' (dd (un g (ev fr x)))) = c.args.toList.map (fun x=>rd hp (dd (un g (ev fr x)))) :=
    List.map_congr_left fun x hx=>R x (by simp [Call.operands,hc]; simpa using hx)
   simp only [hl]
   cases b <;> try rfl
   simp only
   have hm : ∀ id,c.args.toList.map (fun x=>rd hp (dd (un g (ev fr x)))) = [.map id]->nthB hp' id = nthB hp id:=fun id h1=>by
    cases hq : c.args.toList with
    | nil=>rw [hq] at h1; simp at h1
    | cons x r =>
     rw [hq] at h1
     simp only [List.map_cons,List.cons.injEq] at h1
     exact D x (by simp [Call.operands,hc]; rw [<- Array.mem_toList_iff,hq]; simp) id (by rw [rd_map h1.1]; simp [V.ids])
   generalize c.args.toList.map (fun x=>rd hp (dd (un g (ev fr x)))) = L at hm ⊢
   split
   ·rw [hm _ rfl]
   ·rfl
   ·rfl
   ·rfl
  | value f =>
   simp only
   cases ht : target C (fun x=>un g (ev fr x)) c with
   | none=>rfl
   | some fa =>
    obtain ⟨f,args⟩:=fa
    have : rdL hp' args = rdL hp args:=rdL_agree args (h.sub (target_ids ht))
    have hlo : looseL hp' args = looseL hp args:=looseL_agree args (h.sub (target_ids ht))
    simp only [this,hlo]
  | invoke r m =>
   simp only
   cases ht : target C (fun x=>un g (ev fr x)) c with
   | none=>rfl
   | some fa =>
    obtain ⟨f,args⟩:=fa
    have : rdL hp' args = rdL hp args:=rdL_agree args (h.sub (target_ids ht))
    have hlo : looseL hp' args = looseL hp args:=looseL_agree args (h.sub (target_ids ht))
    simp only [this,hlo]
end Go.Bx
namespace Go.Bx
set_option linter.unusedVariables false
set_option linter.unusedSimpArgs false
open Go Go.RowKit
theorem mem_iff {l : List Nat} {i : Nat} : mem l i = true ↔ i ∈ l:=by
 simp only [mem,List.any_eq_true]
 constructor
 ·rintro ⟨x,h1,h2⟩; rw [Nat.eq_of_beq_eq_true h2]; exact h1
 ·exact fun h=>⟨i,h,Nat.beq_refl i⟩
theorem mem_addN : ∀ (r l : List Nat) (i : Nat),i ∈ addN l r ↔ i ∈ l \/ i ∈ r
 | [],l,i=>by simp [addN]
 | j :: r,l,i=>by
  simp only [addN]
  split
  ·rename_i h
   rw [mem_addN r l i,List.mem_cons]
   have:=mem_iff.1 h
   constructor
   ·rintro (h | h) <;> simp [h]
   ·rintro (h | h | h)
    ·exact .inl h
    ·subst h; exact .inl this
    ·exact .inr h
  ·rw [mem_addN r (l ++ [j]) i,List.mem_append,List.mem_singleton,List.mem_cons,or_assoc]
theorem closeN_sub {hp : Heap} : ∀ (k : Nat) (l : List Nat) (i : Nat),i ∈ l->i ∈ closeN hp k l
 | 0,_,_,h=>h
 | k + 1,l,i,h=>by simp only [closeN]; exact closeN_sub k _ i ((mem_addN _ _ _).2 (.inl h))
theorem closeN_mono {hp : Heap} : ∀ (k : Nat) (l l' : List Nat),(∀ i ∈ l,i ∈ l')->∀ i ∈ closeN hp k l,i ∈ closeN hp k l'
 | 0,_,_,h=>h
 | k + 1,l,l',h=>by
  simp only [closeN]
  refine closeN_mono k _ _ fun i hi=>?_
  rw [mem_addN] at hi ⊢
  refine hi.imp (h i) fun hi=>?_
  rw [List.mem_flatMap] at hi ⊢
  obtain ⟨j,h1,h2⟩:=hi
  exact ⟨j,h j h1,h2⟩
theorem flatMap_congr' {α β : Type} {l : List α} {f g : α->List β} (h : ∀ a ∈ l,f a = g a) : l.flatMap f = l.flatMap g:=by
 induction l with
 | nil=>rfl
 | cons a l ih=>simp only [List.flatMap_cons,h a (by simp),ih fun a ha=>h a (List.mem_cons_of_mem _ ha)]
theorem closeN_agree {hp hp' : Heap} : ∀ (k : Nat) (l : List Nat),Agree (closeN hp k l) hp hp'->closeN hp' k l = closeN hp k l
 | 0,_,_=>rfl
 | k + 1,l,h=>by
  simp only [closeN] at h ⊢
  have : (l.flatMap fun i=>blkIds (nthB hp' i)) = l.flatMap fun i=>blkIds (nthB hp i):=flatMap_congr' fun i hi=>by
   rw [h i (closeN_sub k _ i ((mem_addN _ _ _).2 (.inl hi)))]
  rw [this]
  exact closeN_agree k _ h
theorem reach_mono {hp : Heap} {a b : List V} (h : ∀ i ∈ V.idsL a,i ∈ V.idsL b) : ∀ i ∈ reach hp a,i ∈ reach hp b:=by
 refine closeN_mono 6 _ _ fun i hi=>?_
 rw [mem_addN] at hi ⊢
 exact hi.imp id (h i)
theorem reach_sub {hp : Heap} {a : List V} : ∀ i ∈ V.idsL a,i ∈ reach hp a:=fun i hi=>closeN_sub 6 _ i ((mem_addN _ _ _).2 (.inr hi))
theorem idxOf_mem {i k : Nat} : ∀ {l : List Nat},idxOf l i = some k->i ∈ l
 | [],h=>by simp [idxOf] at h
 | j :: r,h=>by
  simp only [idxOf] at h
  split at h
  ·rename_i e; rw [Nat.eq_of_beq_eq_true e]; simp
  ·cases hr : idxOf r i with
   | none=>rw [hr] at h; cases h
   | some k=>exact List.mem_cons_of_mem _ (idxOf_mem hr)
theorem inn_agree {hp hp' : Heap} {L : List Nat} (h : Agree L hp hp') : inn hp' L = inn hp L:=by
 funext i ver
 simp only [inn]
 cases hk : idxOf L i with
 | none=>rfl
 | some k=>simp only [ver0,h i (idxOf_mem hk)]
theorem getD_mem {L : List Nat} {i : Nat} (h : Nat.blt i L.length = true) : L.getD i 0 ∈ L:=by
 have h' : i < L.length:=Nat.le_of_ble_eq_true h
 simp [List.getD,List.getElem?_eq_getElem h']
theorem outw_agree {hp hp' : Heap} {L N : List Nat} {s : Nat} (h : Agree L hp hp') : outw hp' L N s = outw hp L N s:=by
 funext i ver
 simp only [outw]
 split
 ·rename_i hi; simp only [verUp,h _ (getD_mem hi)]
 ·rfl
theorem outB_agree {hp hp' : Heap} {L N : List Nat} {s k : Nat} (h : Agree L hp hp') (b : Blk) : outB hp' L N s k b = outB hp L N s k b:=by
 cases b <;> simp only [outB,outw_agree h]
 split
 ·rename_i hi; simp only [verUp,h _ (getD_mem hi)]
 ·rfl
theorem outH_agree {hp hp' : Heap} {L : List Nat} {s : Nat} (h : Agree L hp hp') (d : Heap) : outH hp' L s d = outH hp L s d:=by
 simp only [outH]
 exact List.map_congr_left fun x _=>by rw [outB_agree h]
theorem innH_agree {hp hp' : Heap} {L : List Nat} (h : Agree L hp hp') : ∀ (r : List Nat) (k : Nat),(∀ i ∈ r,i ∈ L)->innH hp' L k r = innH hp L k r
 | [],_,_=>rfl
 | i :: r,k,hr=>by
  simp only [innH,h i (hr i (by simp)),inn_agree h,innH_agree h r (k + 1) fun j hj=>hr j (List.mem_cons_of_mem _ hj)]
theorem shCall_agree {C : Ctx} {hp hp' : Heap} {dst : Option Nat} {f : List V->Heap->Option Sh} {args : List V} (h : Agree (reach hp args) hp hp') : shCall C hp' dst f args = shCall C hp dst f args:=by
 have hr : reach hp' args = reach hp args:=closeN_agree 6 _ h
 have hb : ∀ s vh,behind hp' (reach hp args) s vh = behind hp (reach hp args) s vh:=fun s vh=>by simp only [behind,outw_agree h,outH_agree h]
 simp only [shCall,hr,inn_agree h,innH_agree h _ 0 fun _ hi=>hi,hb]
theorem free_agree {hp hp' : Heap} {d : Nat} (h : nthB hp' d = nthB hp d) : free hp' d = free hp d:=by simp only [free,h]
theorem appendE_local {C : Ctx} {hp hp' : Heap} {dst : Option Nat} {τ : Ty} {x xs : V} {o : Out} (ho : appendE C hp dst τ x xs = some o) (h : Agree x.ids hp hp') (hw : Agree o.wr hp hp') : ∃ o',appendE C hp' dst τ x xs = some o' /\ OutLoc hp hp' o o':=by
 unfold appendE at ho ⊢
 cases ha : addend xs τ with
 | none=>rw [ha] at ho; cases ho
 | some m =>
  rw [ha] at ho
  simp only at ho ⊢
  cases x <;> simp only at ho ⊢ <;> first | (cases ho; done) | skip
  case full τ' l =>
   split at ho
   ·rename_i e
    subst e
    simp only [dite_true]
    cases dst with
    | none=>cases ho
    | some d =>
     simp only at ho ⊢
     split at ho
     ·rename_i hf
      cases hz : C.frz.any (Nat.beq d) <;> rw [hz] at ho <;> cases ho
      all_goals
       rw [free_agree (hw _ (by simp [Out.wr])),if_pos hf]
       exact ⟨_,rfl,.eff .set⟩
     ·cases ho
   ·cases ho
  case app id ver =>
   have hb : nthB hp' id = nthB hp id:=h id (by simp [V.ids])
   rw [hb]
   cases hn : nthB hp id with
   | none=>rw [hn] at ho; cases ho
   | some b =>
    rw [hn] at ho
    cases b <;> simp only at ho ⊢ <;> first | (cases ho; done) | skip
    split at ho
    ·rename_i e
     subst e
     simp only [dite_true]
     split at ho
     ·rename_i hv
      cases ho
      rw [if_pos hv]
      exact ⟨_,rfl,.eff .set⟩
     ·cases ho
    ·cases ho
  case view id p τ' n lo hi =>
   rw [rd_agree _ h]
   cases dst with
   | none=>cases ho
   | some d =>
    cases hr : rd hp (.view id p τ' n lo hi) <;> rw [hr] at ho <;> (try simp only at ho ⊢) <;> first | (cases ho; done) | skip
    rename_i t l
    cases t <;> simp only at ho ⊢ <;> first | (cases ho; done) | skip
    split at ho
    ·rename_i e
     subst e
     simp only [dite_true]
     split at ho
     ·rename_i hf
      cases ho
      rw [free_agree (hw _ (by simp [Out.wr])),if_pos hf]
      exact ⟨_,rfl,.eff .set⟩
     ·cases ho
    ·cases ho
theorem copyE_local {hp hp' : Heap} {τ : Ty} {x xs : V} {o : Out} (ho : copyE hp τ x xs = some o) (h : Agree x.ids hp hp') : ∃ o',copyE hp' τ x xs = some o' /\ OutLoc hp hp' o o':=by
 unfold copyE at ho ⊢
 cases ha : addS xs τ with
 | none=>rw [ha] at ho; cases x <;> cases ho
 | some m =>
  rw [ha] at ho
  cases x <;> simp only at ho ⊢ <;> first | (cases ho; done) | skip
  rename_i id p τ' n lo hi
  rw [h id (by simp [V.ids])]
  split at ho
  ·rename_i hb
   split at ho
   ·rename_i hg
    split at ho
    ·rename_i e
     subst e
     simp only [dite_true]
     split at ho
     ·rename_i hc
      rw [if_pos hc]
      split at ho
      ·rename_i hs
       cases ho
       rw [hs]
       exact ⟨_,rfl,.eff .set⟩
      ·cases ho
     ·cases ho
    ·cases ho
   ·cases ho
  ·cases ho
end Go.Bx
namespace Go.Bx
set_option linter.unusedVariables false
set_option linter.unusedSimpArgs false
open Go Go.RowKit
theorem effR_local {C : Ctx} {g : Option Gd} {fr : List V} {hp hp' : Heap} {dst : Option Nat} {op : Op} {o : Out} (ho : effR C g fr hp dst op = some o) (h : Agree (V.idsL (op.operands.toList.map (ev fr))) hp hp')
  (hcall : ∀ c,op = .call c->(∀ b,c.callee ≠ .builtin b)->Agree (reach hp (op.operands.toList.map (ev fr))) hp hp') (hw : Agree o.wr hp hp') : ∃ o',effR C g fr hp' dst op = some o' /\ OutLoc hp hp' o o':=by
 have E : ∀ x,x ∈ op.operands->Agree (un g (ev fr x)).ids hp hp':=fun x hx i hi=>h i (ids_ev (by simpa using hx) i (ids_un g _ i hi))
 have D : ∀ x,x ∈ op.operands->Agree (dd (un g (ev fr x))).ids hp hp':=fun x hx i hi=>E x hx i (ids_dd _ i hi)
 have R : ∀ x,x ∈ op.operands->rd hp' (dd (un g (ev fr x))) = rd hp (dd (un g (ev fr x))):=fun x hx=>rd_agree _ (D x hx)
 have W : ∀ x u,x ∈ op.operands->rd hp' (nilT u (dd (un g (ev fr x)))) = rd hp (nilT u (dd (un g (ev fr x)))):=fun x u hx=>rd_agree _ ((D x hx).sub (ids_nilT u _))
 cases op <;> simp only [effR] at ho ⊢ <;> simp only [Op.operands] at E D R W <;> try (cases ho; done)
 case alloc t =>
  split at ho
  ·split at ho
   ·rename_i hf
    cases ho
    rw [free_agree (hw _ (by simp [Out.wr])),if_pos hf]
    exact ⟨_,rfl,.eff .set⟩
   ·cases ho
  ·cases ho
 case box t x =>
  split at ho
  ·split at ho
   ·rename_i hf
    cases ho
    rw [free_agree (hw _ (by simp [Out.wr])),if_pos hf]
    exact ⟨_,rfl,.eff .set⟩
   ·cases ho
  ·cases ho
 case store t x y =>
  have hy : Agree (dd (un g (ev fr y))).ids hp hp':=D y (by simp)
  split at ho
  ·rename_i τ id ver p hτ he
   have hx : nthB hp' id = nthB hp id:=D x (by simp) id (by rw [he]; simp [V.ids])
   rw [hx]
   split at ho
   ·rename_i σ v hb
    split at ho
    ·rename_i hc
     rw [if_pos hc]
     split at ho
     ·rename_i v' hs
      cases ho
      exact ⟨_,rfl,.eff .set⟩
     ·cases ho
    ·cases ho
   ·rename_i hb
    rw [frz_at (dd (un g (ev fr y))) hx,R y (by simp)]
    split at ho
    ·rename_i σ l ver' hb2
     split at ho
     ·rename_i hv
      simp only [if_pos hv]
      split at ho
      ·rename_i i q τ' z hp2 hz
       (try simp only [hz])
       split at ho
       ·rename_i ht
        simp only [if_pos ht]
        split at ho
        ·rename_i z' hu
         cases ho
         (try simp only [hu])
         exact ⟨_,rfl,.eff (.set_frz hy)⟩
        ·cases ho
       ·cases ho
      ·cases ho
     ·cases ho
    ·cases ho
   ·cases ho
  ·cases ho
 case buildSlice t n parts =>
  have hb : ∀ (τ : Ty) (c : τ.den),buildV (fun x=>rd hp' (dd (un g (ev fr x)))) τ parts.toList c = buildV (fun x=>rd hp (dd (un g (ev fr x)))) τ parts.toList c:=fun τ c=>buildV_congr _ _ fun p hq=>R p.2 (by simpa using mem_parts hq)
  simp only [hb]
  split at ho
  ·split at ho
   ·rename_i hc
    rw [if_pos hc]
    split at ho
    ·rename_i y hy
     cases ho
     exact ⟨_,rfl,.eff (.frzL fun i hi=>hw i hi)⟩
    ·cases ho
   ·cases ho
  ·cases ho
 case makeMap t rs =>
  split at ho
  ·split at ho
   ·split at ho
    ·rename_i hf
     cases ho
     rw [free_agree (hw _ (by simp [Out.wr])),if_pos hf]
     exact ⟨_,rfl,.eff .set⟩
    ·cases ho
   ·cases ho
  ·cases ho
 case mapEntry t m k =>
  split at ho
  ·rename_i tk tv id κ' x hmp he hk
   have hx : nthB hp' id = nthB hp id:=D m (by simp) id (by rw [he]; simp [V.ids])
   rw [hx]
   split at ho
   ·split at ho
    ·rename_i hq
     subst hq
     split at ho
     ·rename_i hc
      cases ho
      simp only [dif_pos,if_pos hc]
      exact ⟨_,rfl,.eff .set⟩
     ·cases ho
    ·cases ho
   ·cases ho
  ·cases ho
 case mapUpdate t m k y =>
  split at ho
  ·rename_i tk tv id κ' x ν' z hmp he hk hy
   have hx : nthB hp' id = nthB hp id:=D m (by simp) id (by rw [he]; simp [V.ids])
   rw [hx]
   split at ho
   ·split at ho
    ·rename_i hq
     subst hq
     split at ho
     ·rename_i hq
      subst hq
      split at ho
      ·rename_i hc
       cases ho
       simp only [dif_pos,if_pos hc]
       exact ⟨_,rfl,.eff .set⟩
      ·cases ho
     ·cases ho
    ·cases ho
   ·cases ho
  ·cases ho
 case entryStore t m n y =>
  split at ho
  ·rename_i tk tv id k i ν' z hmp he hn hy
   have hx : nthB hp' id = nthB hp id:=D m (by simp) id (by rw [he]; simp [V.ids])
   rw [hx]
   split at ho
   ·split at ho
    ·rename_i hq
     subst hq
     split at ho
     ·rename_i hc
      cases ho
      simp only [dif_pos,if_pos hc]
      exact ⟨_,rfl,.eff .set⟩
     ·cases ho
    ·cases ho
   ·cases ho
  ·cases ho
 case makeSlice t len cap =>
  split at ho
  ·split at ho
   ·rename_i hf
    cases ho
    rw [free_agree (hw _ (by simp [Out.wr])),if_pos hf]
    exact ⟨_,rfl,.eff .set⟩
   ·cases ho
  ·cases ho
 case slice t x lo hi mx =>
  split at ho
  ·rename_i id ver τ he hτ
   have hx : nthB hp' id = nthB hp id:=D x (by simp) id (by rw [he]; simp [V.ids])
   rw [hx]
   split at ho
   ·rename_i τ' l ver' z hb
    split at ho
    ·rename_i hc
     simp only [if_pos hc]
     split at ho
     ·rename_i c i v hs
      cases ho
      have hz : Agree (V.app id ver).ids hp hp':=fun i hi=>by simp only [V.ids,List.mem_singleton] at hi; subst hi; exact hx
      exact ⟨_,rfl,.eff (by simpa only [V.ids] using Loc.frz hz)⟩
     ·cases ho
    ·cases ho
   ·cases ho
  ·cases ho
 case call c =>
  cases hc : c.callee with
  | builtin b =>
   rw [hc] at ho
   cases b <;> simp only at ho ⊢ <;> try (cases ho; done)
   ·split at ho
    ·rename_i x xs t t' ha hty
     have m1 : x ∈ c.operands:=by simp [Call.operands,hc]; rw [<- Array.mem_toList_iff,ha]; simp
     have m2 : xs ∈ c.operands:=by simp [Call.operands,hc]; rw [<- Array.mem_toList_iff,ha]; simp
     split at ho
     ·rename_i e
      simp only [if_pos e]
      split at ho
      ·rename_i τ hτ
       rw [W xs _ m2]
       exact appendE_local ho ((E x m1).sub (ids_nilT _ _)) hw
      ·cases ho
     ·cases ho
    ·cases ho
   ·split at ho
    ·rename_i x xs t t' ha hty
     have m1 : x ∈ c.operands:=by simp [Call.operands,hc]; rw [<- Array.mem_toList_iff,ha]; simp
     have m2 : xs ∈ c.operands:=by simp [Call.operands,hc]; rw [<- Array.mem_toList_iff,ha]; simp
     split at ho
     ·rename_i τ hτ
      rw [W xs _ m2]
      exact copyE_local ho (E x m1)
     ·cases ho
    ·cases ho
  | value f =>
   have hr:=hcall c rfl (by rw [hc]; exact fun _=>nofun)
   rw [hc] at ho
   simp only at ho ⊢
   cases ht : target C (fun x=>un g (ev fr x)) c with
   | none=>rw [ht] at ho; cases ho
   | some fa =>
    obtain ⟨f,args⟩:=fa
    rw [ht] at ho
    simp only at ho ⊢
    have hs:=target_ids ht
    rw [rdL_agree args (h.sub hs)]
    split at ho
    ·rename_i F hF
     split at ho
     ·cases ho
      exact ⟨_,rfl,.call (.frzL (h.sub hs))⟩
     ·cases ho
    ·split at ho
     ·rename_i f' hf'
      rw [shCall_agree (hr.sub (reach_mono hs))]
      refine ⟨_,ho,?_⟩
      simp only [shCall] at ho
      split at ho
      ·cases ho; exact .sh
      ·cases ho
     ·cases ho
  | invoke r m =>
   have hr:=hcall c rfl (by rw [hc]; exact fun _=>nofun)
   rw [hc] at ho
   simp only at ho ⊢
   cases ht : target C (fun x=>un g (ev fr x)) c with
   | none=>rw [ht] at ho; cases ho
   | some fa =>
    obtain ⟨f,args⟩:=fa
    rw [ht] at ho
    simp only at ho ⊢
    have hs:=target_ids ht
    rw [rdL_agree args (h.sub hs)]
    split at ho
    ·rename_i F hF
     split at ho
     ·cases ho
      exact ⟨_,rfl,.call (.frzL (h.sub hs))⟩
     ·cases ho
    ·split at ho
     ·rename_i f' hf'
      rw [shCall_agree (hr.sub (reach_mono hs))]
      refine ⟨_,ho,?_⟩
      simp only [shCall] at ho
      split at ho
      ·cases ho; exact .sh
      ·cases ho
     ·cases ho
end Go.Bx
namespace Go.Bx
set_option linter.unusedVariables false
set_option linter.unusedSimpArgs false
open Go Go.RowKit
theorem ev_congr {fr fr' : List V} {x : Operand} (h : ∀ t,x = .tmp t->nth fr' t = nth fr t) : ev fr' x = ev fr x:=by
 cases x with
 | tmp t=>exact h t rfl
 | _=>rfl
theorem mem_looks {ops : Array Oper} {o : Oper} {t : Nat} (h : Operand.tmp t ∈ o.op.operands) : t ∈ o.looksAt ops :=
 List.mem_append_left _ (List.mem_filterMap.2 ⟨.tmp t,by simpa using h,rfl⟩)
theorem boundOf_congr {e e' : Operand->V} {d : Int} {x : Option Operand} (h : ∀ y,x = some y->e' y = e y) : boundOf e' d x = boundOf e d x:=by
 cases x with
 | none=>rfl
 | some y=>simp only [boundOf,h y rfl]
theorem sliceL_congr {e e' : Operand->V} {τ : Ty} {l : List τ.den} {lo hi mx : Option Operand} (h1 : ∀ y,lo = some y->e' y = e y) (h2 : ∀ y,hi = some y->e' y = e y) (h3 : ∀ y,mx = some y->e' y = e y) :
  sliceL e' τ l lo hi mx = sliceL e τ l lo hi mx:=by
 simp only [sliceL,boundOf_congr h1,boundOf_congr h2]
 cases mx with
 | none=>rfl
 | some m=>simp only [h3 m rfl]
theorem target_congr {C : Ctx} {e e' : Operand->V} {c : Call} (h : ∀ x ∈ c.operands,e' x = e x) : target C e' c = target C e c:=by
 have ha : c.args.toList.map e' = c.args.toList.map e:=List.map_congr_left fun x hx=>h x (by simp [Call.operands]; right; simpa using hx)
 unfold target
 cases hc : c.callee with
 | value f=>simp only [h f (by simp [Call.operands,hc]),callArgs,ha]
 | invoke r m=>simp only [h r (by simp [Call.operands,hc]),callArgs,ha]
 | builtin b=>rfl
theorem valR_congr {C : Ctx} {g : Option Gd} {fr fr' : List V} {hp : Heap} {op : Op} (h : ∀ t,Operand.tmp t ∈ op.operands->nth fr' t = nth fr t) : valR C g fr' hp op = valR C g fr hp op:=by
 have e : ∀ x,x ∈ op.operands->ev fr' x = ev fr x:=fun x hx=>ev_congr fun t ht=>h t (by rw [<- ht]; exact hx)
 cases op <;> simp only [valR] <;> simp only [Op.operands] at e
 case pick c a b=>rw [e c (by simp),e a (by simp),e b (by simp)]
 case call c =>
  have ea : c.args.toList.map (fun x=>dd (un g (ev fr' x))) = c.args.toList.map (fun x=>dd (un g (ev fr x))) :=
   List.map_congr_left fun x hx=>by rw [e x (by simp [Call.operands]; right; simpa using hx)]
  have er : c.args.toList.map (fun x=>rd hp (dd (un g (ev fr' x)))) = c.args.toList.map (fun x=>rd hp (dd (un g (ev fr x)))) :=
   List.map_congr_left fun x hx=>by rw [e x (by simp [Call.operands]; right; simpa using hx)]
  have et : target C (fun x=>un g (ev fr' x)) c = target C (fun x=>un g (ev fr x)) c:=target_congr fun x hx=>by rw [e x hx]
  simp only [ea,er,et]
 case move x=>rw [e x (by simp)]
 case assign x=>rw [e x (by simp)]
 case load t x=>rw [e x (by simp)]
 case binOp op xt x y yt=>rw [e x (by simp),e y (by simp)]
 case unOp op xt x=>rw [e x (by simp)]
 case convert s d x=>rw [e x (by simp)]
 case fieldAddr t x j=>rw [e x (by simp)]
 case indexAddr t x i=>rw [e x (by simp),e i (by simp)]
 case lookup t m k c=>rw [e m (by simp),e k (by simp)]
 case extract x i=>rw [e x (by simp)]
 case index t x i=>rw [e x (by simp),e i (by simp)]
 case field t x j=>rw [e x (by simp)]
 case nilCheck x=>rw [e x (by simp)]
 case makeInterface t x=>rw [e x (by simp)]
 case makeFunc f fst cap =>
  have e1 : fst.toList.map (fun x=>un g (ev fr' x)) = fst.toList.map (fun x=>un g (ev fr x)):=List.map_congr_left fun x hx=>by rw [e x (by simp; left; simpa using hx)]
  have e2 : cap.toList.map (fun x=>un g (ev fr' x)) = cap.toList.map (fun x=>un g (ev fr x)):=List.map_congr_left fun x hx=>by rw [e x (by simp; right; simpa using hx)]
  simp only [e1,e2]
 case build t parts =>
  have hb : ∀ (τ : Ty) (c : V),buildT (fun x=>un g (ev fr' x)) τ parts.toList c = buildT (fun x=>un g (ev fr x)) τ parts.toList c:=fun τ c=>buildT_congr _ _ fun p hq=>by rw [e p.2 (by simpa using mem_parts hq)]
  simp only [hb]
 case buildSlice t n parts =>
  have hb : ∀ (τ : Ty) (c : τ.den),buildV (fun x=>rd hp (dd (un g (ev fr' x)))) τ parts.toList c = buildV (fun x=>rd hp (dd (un g (ev fr x)))) τ parts.toList c:=fun τ c=>buildV_congr _ _ fun p hq=>by rw [e p.2 (by simpa using mem_parts hq)]
  have hl : parts.toList.any (fun p=>loose hp (dd (un g (ev fr' p.2)))) = parts.toList.any (fun p=>loose hp (dd (un g (ev fr p.2)))):=by
   rw [Bool.eq_iff_iff]
   simp only [List.any_eq_true]
   exact exists_congr fun p=>and_congr_right fun hq=>by rw [e p.2 (by simpa using mem_parts hq)]
  simp only [hb,hl]
 case slice t x lo hi mx =>
  have el : ∀ y,lo = some y->dd (un g (ev fr' y)) = dd (un g (ev fr y)):=fun y hy=>by rw [e y (by simp [hy])]
  have eh : ∀ y,hi = some y->dd (un g (ev fr' y)) = dd (un g (ev fr y)):=fun y hy=>by rw [e y (by simp [hy])]
  have em : ∀ y,mx = some y->dd (un g (ev fr' y)) = dd (un g (ev fr y)):=fun y hy=>by rw [e y (by simp [hy])]
  have b1 : ∀ d,boundOf (fun x=>dd (un g (ev fr' x))) d lo = boundOf (fun x=>dd (un g (ev fr x))) d lo:=fun d=>boundOf_congr el
  have b2 : ∀ d,boundOf (fun x=>dd (un g (ev fr' x))) d hi = boundOf (fun x=>dd (un g (ev fr x))) d hi:=fun d=>boundOf_congr eh
  have b3 : ∀ (τ : Ty) (l : List τ.den),sliceL (fun x=>dd (un g (ev fr' x))) τ l lo hi mx = sliceL (fun x=>dd (un g (ev fr x))) τ l lo hi mx:=fun τ l=>sliceL_congr el eh em
  simp only [b1,b2,b3,e x (by simp)]
theorem effR_congr {C : Ctx} {g : Option Gd} {fr fr' : List V} {hp : Heap} {dst : Option Nat} {op : Op} (h : ∀ t,Operand.tmp t ∈ op.operands->nth fr' t = nth fr t) : effR C g fr' hp dst op = effR C g fr hp dst op:=by
 have e : ∀ x,x ∈ op.operands->ev fr' x = ev fr x:=fun x hx=>ev_congr fun t ht=>h t (by rw [<- ht]; exact hx)
 cases op <;> simp only [effR] <;> simp only [Op.operands] at e
 case box t x=>rw [e x (by simp)]
 case store t x y=>rw [e x (by simp),e y (by simp)]
 case makeSlice t x y=>rw [e x (by simp),e y (by simp)]
 case mapEntry t m k=>rw [e m (by simp),e k (by simp)]
 case mapUpdate t m k y=>rw [e m (by simp),e k (by simp),e y (by simp)]
 case entryStore t m n y=>rw [e m (by simp),e n (by simp),e y (by simp)]
 case buildSlice t n parts =>
  have hb : ∀ (τ : Ty) (c : τ.den),buildV (fun x=>rd hp (dd (un g (ev fr' x)))) τ parts.toList c = buildV (fun x=>rd hp (dd (un g (ev fr x)))) τ parts.toList c:=fun τ c=>buildV_congr _ _ fun p hq=>by rw [e p.2 (by simpa using mem_parts hq)]
  have hl : parts.toList.map (fun p=>dd (un g (ev fr' p.2))) = parts.toList.map (fun p=>dd (un g (ev fr p.2))):=List.map_congr_left fun p hq=>by rw [e p.2 (by simpa using mem_parts hq)]
  simp only [hb,hl]
 case slice t x lo hi mx =>
  have el : ∀ y,lo = some y->dd (un g (ev fr' y)) = dd (un g (ev fr y)):=fun y hy=>by rw [e y (by simp [hy])]
  have eh : ∀ y,hi = some y->dd (un g (ev fr' y)) = dd (un g (ev fr y)):=fun y hy=>by rw [e y (by simp [hy])]
  have em : ∀ y,mx = some y->dd (un g (ev fr' y)) = dd (un g (ev fr y)):=fun y hy=>by rw [e y (by simp [hy])]
  have b3 : ∀ (τ : Ty) (l : List τ.den),sliceL (fun x=>dd (un g (ev fr' x))) τ l lo hi mx = sliceL (fun x=>dd (un g (ev fr x))) τ l lo hi mx:=fun τ l=>sliceL_congr el eh em
  simp only [b3,e x (by simp)]
 case call c =>
  have et : target C (fun x=>un g (ev fr' x)) c = target C (fun x=>un g (ev fr x)) c:=target_congr fun x hx=>by rw [e x hx]
  have ea : ∀ x,x ∈ c.args.toList->ev fr' x = ev fr x:=fun x hx=>e x (by simp [Call.operands]; right; simpa using hx)
  simp only [et]
  cases hc : c.callee with
  | builtin b =>
   cases b <;> try rfl
   all_goals
    rcases hl : c.args.toList with _ | ⟨x,_ | ⟨y,_ | ⟨z,r⟩⟩⟩ <;> try rfl
    have hx:=ea x (by rw [hl]; simp)
    have hy:=ea y (by rw [hl]; simp)
    rcases c.argTypes.toList with _ | ⟨t,_ | ⟨t',_ | ⟨t'',r⟩⟩⟩ <;> first | rfl | simp only [hx,hy]
  | value f=>rfl
  | invoke r m=>rfl
theorem guardOf_congr {ops : Array Oper} {fr fr' : List V} {o : Oper} (h : ∀ t ∈ o.looksAt ops,nth fr' t = nth fr t) : guardOf ops fr' o = guardOf ops fr o:=by
 unfold guardOf
 cases hg : o.guard with
 | none=>rfl
 | some jw =>
  obtain ⟨j,w⟩:=jw
  simp only
  cases hd : (ops[j]?).bind (·.dst) with
  | none=>rfl
  | some d =>
   simp only
   have : d ∈ o.looksAt ops:=List.mem_append_right _ (by simp [hg,hd])
   rw [h d this]
theorem foot_ev {fr fr' : List V} {o : Oper} (h : ∀ t,Operand.tmp t ∈ o.op.operands->nth fr' t = nth fr t) : o.op.operands.toList.map (ev fr') = o.op.operands.toList.map (ev fr) :=
 List.map_congr_left fun x hx=>ev_congr fun t ht=>h t (by rw [<- ht]; simpa using hx)
def isLook : Op->Bool
 | .lookup _ _ _ _=>true
 | _=>false
def isMv : Op->Bool
 | .move _=>true
 | .assign _=>true
 | _=>false
theorem foot_ids {S : St} {o : Oper} (hl : isLook o.op = false) (hm : isMv o.op = false) : ∀ i ∈ V.idsL (o.op.operands.toList.map (ev S.fr)),i ∈ foot S o:=by
 intro i hi
 unfold foot
 split
 ·split
  ·exact hi
  ·exact reach_sub i hi
 ·rename_i h; rw [h] at hl; cases hl
 ·rename_i h; rw [h] at hm; cases hm
 ·rename_i h; rw [h] at hm; cases hm
 ·exact hi
def sameM : Option Blk->Option Blk->Prop
 | some (.map κ ν l),b=>∃ l' : List (κ.den × ν.den),b = some (.map κ ν l') /\ ∀ k,getM (beqD κ) k ν.zero l' = getM (beqD κ) k ν.zero l
 | a,b=>b = a
abbrev AgreeV (L : List Nat) (hp hp' : Heap) : Prop:=∀ i ∈ L,sameM (nthB hp i) (nthB hp' i)
theorem sameM.refl (b : Option Blk) : sameM b b:=by
 cases b with
 | none=>exact rfl
 | some b=>cases b <;> first | exact rfl | exact ⟨_,rfl,fun _=>rfl⟩
theorem sameM.symm {a b : Option Blk} (h : sameM a b) : sameM b a:=by
 cases a with
 | none=>have e : b = none:=h; rw [e]; rfl
 | some a=>cases a with
  | map κ ν l=>obtain ⟨l',e,h⟩:=h; subst e; exact ⟨l,rfl,fun k=>(h k).symm⟩
  | cell t v z=>have e : b = _:=h; rw [e]; rfl
  | buf t l v z=>have e : b = _:=h; rw [e]; rfl
theorem sameM.trans {a b c : Option Blk} (h : sameM a b) (k : sameM b c) : sameM a c:=by
 cases a with
 | none=>have e : b = none:=h; subst e; exact k
 | some a=>cases a with
  | map κ ν l=>obtain ⟨l',e,h⟩:=h; subst e; obtain ⟨l2,e,k⟩:=k; subst e; exact ⟨l2,rfl,fun x=>(k x).trans (h x)⟩
  | cell t v z=>have e : b = _:=h; subst e; exact k
  | buf t l v z=>have e : b = _:=h; subst e; exact k
theorem sameM.of_eq {a b : Option Blk} (h : b = a) : sameM a b:=by subst h; exact .refl _
theorem valR_look {C : Ctx} {g : Option Gd} {fr : List V} {hp hp' : Heap} {op : Op} (hl : isLook op = true) (h : AgreeV (V.idsL (op.operands.toList.map (ev fr))) hp hp') : valR C g fr hp' op = valR C g fr hp op:=by
 cases op <;> first | (cases hl; done) | skip
 rename_i t m k c
 simp only [valR]
 have hm : ∀ id,dd (un g (ev fr m)) = .map id->sameM (nthB hp id) (nthB hp' id):=fun id he=>h id (by
  refine ids_ev (x:=m) (by simp [Op.operands]) id (ids_un g _ id (ids_dd _ id ?_))
  rw [he]; simp [V.ids])
 generalize dd (un g (ev fr m)) = v at hm ⊢
 cases c <;> try rfl
 cases look C.mp t <;> try rfl
 rename_i tkv
 obtain ⟨tk,tv⟩:=tkv
 cases v <;> try rfl
 rename_i id
 cases dd (un g (ev fr k)) <;> try rfl
 have hi:=hm id rfl
 simp only
 cases look C.ty tk <;> try rfl
 cases look C.ty tv <;> try rfl
 cases hb : nthB hp id with
 | none=>rw [hb] at hi; have hi : nthB hp' id = none:=hi; rw [hi]
 | some b =>
  cases b with
  | map κ ν l =>
   rw [hb] at hi
   obtain ⟨l',e,hg⟩:=hi
   rw [e]
   simp only [hg]
  | cell t v z=>rw [hb] at hi; have hi : nthB hp' id = _:=hi; rw [hi]
  | buf t l v z=>rw [hb] at hi; have hi : nthB hp' id = _:=hi; rw [hi]
theorem effR_look {C : Ctx} {g : Option Gd} {fr : List V} {hp : Heap} {dst : Option Nat} {op : Op} (hl : isLook op = true) : effR C g fr hp dst op = none:=by
 cases op <;> first | (cases hl; done) | rfl
theorem effR_mv {C : Ctx} {g : Option Gd} {fr : List V} {hp : Heap} {dst : Option Nat} {op : Op} (hl : isMv op = true) : effR C g fr hp dst op = none:=by
 cases op <;> first | (cases hl; done) | rfl
theorem valR_mv {C : Ctx} {g : Option Gd} {fr : List V} {hp hp' : Heap} {op : Op} (hl : isMv op = true) : valR C g fr hp' op = valR C g fr hp op:=by
 cases op <;> first | (cases hl; done) | rfl
theorem footV_congr {S S' : St} {o : Oper} (hf : ∀ t,Operand.tmp t ∈ o.op.operands->nth S'.fr t = nth S.fr t) : footV S' o = footV S o:=by
 unfold footV
 rw [show o.op.operands.toList.map (ev S'.fr) = o.op.operands.toList.map (ev S.fr) from List.map_congr_left fun x hx=>ev_congr fun t ht=>hf t (by rw [<- ht]; simpa using hx)]
theorem footV_look {S : St} {o : Oper} (hl : isLook o.op = true) : footV S o = V.idsL (o.op.operands.toList.map (ev S.fr)):=by
 unfold footV
 cases h : o.op <;> rw [h] at hl <;> first | rfl | cases hl
theorem foot_reach {S : St} {o : Oper} {c : Call} (hc : o.op = .call c) (hb : ∀ b,c.callee ≠ .builtin b) : foot S o = reach S.hp (o.op.operands.toList.map (ev S.fr)):=by
 unfold foot
 split
 ·rename_i c' hc'
  rw [hc] at hc'
  cases hc'
  split
  ·rename_i b hb'; exact absurd hb' (hb b)
  ·rfl
 ·rename_i h'; rw [hc] at h'; cases h'
 ·rename_i h'; rw [hc] at h'; cases h'
 ·rename_i h'; rw [hc] at h'; cases h'
 ·rename_i hn _ _ _
  exact absurd hc (hn c)
theorem foot_agree {S S' : St} {o : Oper} (hf : ∀ t,Operand.tmp t ∈ o.op.operands->nth S'.fr t = nth S.fr t) (h : Agree (foot S o) S.hp S'.hp) : foot S' o = foot S o:=by
 unfold foot at h ⊢
 rw [foot_ev hf]
 revert h
 split
 ·split
  ·intro _; rfl
  ·intro h; exact closeN_agree 6 _ h
 ·intro _; rfl
 ·intro _; rfl
 ·intro _; rfl
 ·intro _; rfl
def act (C : Ctx) (g : Option Gd) (o : Oper) (fr : List V) (hp : Heap) : Option (V × List Nat × Heap) :=
 match valR C g fr hp o.op with
 | some (.val c i v)=>chk g c i (some (tag g (saneT C o.type v),[],hp))
 | some (.call F a _ _)=>(runF g F a).bind fun r=>some (tag g (saneT C o.type (F.out r)),[],hp)
 | some (.new v)=>some (tag g (saneT C o.type v),[],hp)
 | some _=>none
 | none =>
  match doIt g with
  | none=>none
  | some false=>some (tag g .any,[],hp)
  | some true=>match effR C g fr hp o.dst o.op with
   | some (.eff c i v h wr)=>chk none c i (some (tag g (saneT C o.type v),wr,h))
   | some (.call F a h wr)=>(F.run a).bind fun r=>some (tag g (saneT C o.type (F.out r)),wr,h)
   | some (.sh s L)=>s.o.bind fun y=>match freeAll hp (newOf L (s.f y).2) && once ((s.f y).2.map (·.1)) with
    | true=>some (tag g (saneT C o.type (s.f y).1),L ++ (s.f y).2.map (·.1),setAll (s.f y).2 hp)
    | false=>none
   | _=>none
theorem T_act {α : Type} {C : Ctx} {g : Option Gd} {o : Oper} {S : St} {K : List Nat->St->Option α} : T C g o S K = (act C g o S.fr S.hp).bind fun r=>K r.2.1 ⟨setF S.fr o.dst r.1,r.2.2⟩:=by
 unfold T act
 cases hv : valR C g S.fr S.hp o.op with
 | none =>
  simp only
  cases doIt g with
  | none=>rfl
  | some b =>
   cases b with
   | false=>rfl
   | true =>
    simp only
    cases he : effR C g S.fr S.hp o.dst o.op with
    | none=>rfl
    | some r =>
     cases r with
     | eff c i v hp wr=>simp only [chk]; split <;> rfl
     | call F a hp wr=>simp only; cases F.run a <;> rfl
     | sh s L =>
      simp only
      cases s.o with
      | none=>rfl
      | some y=>simp only [Option.bind_some,s.ok]; cases freeAll S.hp (newOf L (s.f y).2) && once ((s.f y).2.map (·.1)) <;> rfl
     | val c i v=>rfl
     | new v=>rfl
 | some r =>
  cases r with
  | val c i v=>cases g <;> simp only [chk] <;> split <;> rfl
  | call F a hp wr=>simp only; cases runF g F a <;> rfl
  | new v=>rfl
  | eff c i v hp wr=>rfl
  | sh s L=>rfl
theorem act_congr {C : Ctx} {g : Option Gd} {o : Oper} {fr fr' : List V} {hp : Heap} (h : ∀ t,Operand.tmp t ∈ o.op.operands->nth fr' t = nth fr t) : act C g o fr' hp = act C g o fr hp:=by
 unfold act
 rw [valR_congr h,effR_congr h]
theorem setAll_at {i : Nat} : ∀ (d hp hp' : Heap),nthB hp' i = nthB hp i->nthB (setAll d hp') i = nthB (setAll d hp) i
 | [],_,_,h=>h
 | (j,b) :: r,hp,hp',h=>by
  simp only [setAll]
  rw [look_set,look_set,setAll_at r _ _ h]
theorem setAll_off {i : Nat} : ∀ (d hp : Heap),i ∉ d.map (·.1)->nthB (setAll d hp) i = nthB hp i
 | [],_,_=>rfl
 | (j,b) :: r,hp,h=>by
  simp only [List.map_cons,List.mem_cons,not_or] at h
  simp only [setAll]
  rw [look_set,if_neg h.1,setAll_off r _ h.2]
theorem freeAll_agree {hp hp' : Heap} : ∀ l : List Nat,Agree l hp hp'->freeAll hp' l = freeAll hp l
 | [],_=>rfl
 | i :: r,h=>by simp only [freeAll,free_agree (h i (by simp)),freeAll_agree r fun j hj=>h j (List.mem_cons_of_mem _ hj)]
theorem act_local {C : Ctx} {g : Option Gd} {o : Oper} {S : St} {hp' : Heap} {v : V} {wr : List Nat} {h : Heap} (ha : act C g o S.fr S.hp = some (v,wr,h)) (hf : Agree (foot S o) S.hp hp') (hw : Agree wr S.hp hp') (hfv : AgreeV (footV S o) S.hp hp') :
  ∃ h',act C g o S.fr hp' = some (v,wr,h') /\ Loc S.hp h hp' h' wr:=by
 have hv' : valR C g S.fr hp' o.op = valR C g S.fr S.hp o.op:=by
  cases hl : isLook o.op with
  | true=>rw [footV_look hl] at hfv; exact valR_look hl hfv
  | false =>
   cases hm : isMv o.op with
   | true=>exact valR_mv hm
   | false=>exact valR_local (hf.sub (foot_ids hl hm))
 unfold act at ha ⊢
 rw [hv']
 cases hv : valR C g S.fr S.hp o.op with
 | none =>
  rw [hv] at ha
  simp only at ha ⊢
  cases hd : doIt g with
  | none=>rw [hd] at ha; cases ha
  | some b =>
   rw [hd] at ha
   cases b with
   | false=>cases ha; exact ⟨_,rfl,.nil⟩
   | true =>
    simp only at ha ⊢
    cases he : effR C g S.fr S.hp o.dst o.op with
    | none=>rw [he] at ha; cases ha
    | some r =>
     rw [he] at ha
     have loc : Agree r.wr S.hp hp'->∃ o',effR C g S.fr hp' o.dst o.op = some o' /\ OutLoc S.hp hp' r o':=fun hw'=>effR_local he (hf.sub (foot_ids (by
      cases hl : isLook o.op with
      | false=>rfl
      | true=>rw [effR_look hl] at he; cases he) (by
      cases hm : isMv o.op with
      | false=>rfl
      | true=>rw [effR_mv hm] at he; cases he))) (fun c hc hb=>by rw [foot_reach hc hb] at hf; exact hf) hw'
     cases r with
     | eff c i v' h2 w2 =>
      simp only at ha
      obtain ⟨hc,e⟩:=chk_some ha (fun _ e=>by cases e)
      cases e
      obtain ⟨o',l1,l2⟩:=loc hw
      cases l2 with
      | eff l =>
       rw [l1]
       refine ⟨_,?_,l⟩
       simp only [chk]
       split
       ·rfl
       ·rename_i hn; exact absurd hc hn
     | call F a h2 w2 =>
      simp only at ha
      obtain ⟨y,h1,h3⟩:=Option.bind_eq_some_iff.1 ha
      cases h3
      obtain ⟨o',l1,l2⟩:=loc hw
      cases l2 with
      | call l =>
       rw [l1]
       exact ⟨_,by simp only [h1,Option.bind_some],l⟩
     | sh s L =>
      simp only at ha
      obtain ⟨y,h1,h3⟩:=Option.bind_eq_some_iff.1 ha
      have hz : (freeAll S.hp (newOf L (s.f y).2) && once ((s.f y).2.map (·.1))) = true:=by
       cases hz : freeAll S.hp (newOf L (s.f y).2) && once ((s.f y).2.map (·.1)) with
       | true=>rfl
       | false=>rw [hz] at h3; cases h3
      rw [hz] at h3
      cases h3
      obtain ⟨o',l1,l2⟩:=loc (fun i hi=>by simp [Out.wr] at hi)
      cases l2 with
      | sh =>
       rw [l1]
       refine ⟨setAll (s.f y).2 hp',?_,?_⟩
       ·simp only [h1,Option.bind_some]
        rw [freeAll_agree (hp:=S.hp),hz]
        intro i hi
        refine hw i (List.mem_append_right _ ?_)
        simp only [newOf,List.mem_filter] at hi
        exact hi.1
       ·refine ⟨fun i hi=>setAll_at _ _ _ (hw i hi),fun i hi=>setAll_off _ _ ?_,fun i hi=>setAll_off _ _ ?_⟩
        all_goals exact fun h=>hi (List.mem_append_right _ h)
     | val c i v=>cases ha
     | new v=>cases ha
 | some r =>
  rw [hv] at ha
  cases r with
  | val c i v' =>
   simp only at ha ⊢
   have : ∀ (hq : Heap),chk g c i (some (tag g (saneT C o.type v'),([] : List Nat),hq)) = (chk g c i (some (tag g (saneT C o.type v')))).map fun u=>(u,[],hq):=fun hq=>by cases g <;> simp only [chk] <;> split <;> rfl
   rw [this] at ha ⊢
   obtain ⟨u,h1,h2⟩:=Option.map_eq_some_iff.1 ha
   cases h2
   exact ⟨hp',by rw [h1]; rfl,.nil⟩
  | call F a hp wr =>
   simp only at ha ⊢
   obtain ⟨y,h1,h2⟩:=Option.bind_eq_some_iff.1 ha
   cases h2
   exact ⟨hp',by rw [h1]; rfl,.nil⟩
  | new v'=>cases ha; exact ⟨hp',rfl,.nil⟩
  | eff c i v hp wr=>cases ha
  | sh s L=>cases ha
end Go.Bx
namespace Go.Bx
set_option linter.unusedVariables false
set_option linter.unusedSimpArgs false
open Go Go.RowKit
def NoTag (d : Option Nat) (fr : List V) : Prop:=∀ d',d = some d'->∀ t,untagD d' (nth fr t) = nth fr t
theorem nth_ext : ∀ {l m : List V},l.length = m.length->(∀ t,nth l t = nth m t)->l = m
 | [],[],_,_=>rfl
 | a :: l,b :: m,hl,h=>by
  have h0 : a = b:=h 0
  have:=nth_ext (l:=l) (m:=m) (by simpa using hl) (fun t=>h (t + 1))
  rw [h0,this]
 | [],_ :: _,hl,_=>by simp at hl
 | _ :: _,[],hl,_=>by simp at hl
def putF (fr : List V) : Option Nat->V->List V
 | none,_=>fr
 | some d,v=>fr.set d v
theorem setF_plain {d : Option Nat} {fr : List V} (h : NoTag d fr) (v : V) : setF fr d v = putF fr d v:=by
 cases d with
 | none=>rfl
 | some d =>
  simp only [setF,putF]
  congr 1
  exact nth_ext (by simp) fun t=>by rw [nth_map _ rfl]; exact h d rfl t
theorem nth_setF {d : Option Nat} {fr : List V} (h : NoTag d fr) (v : V) (t : Nat) (ht : d ≠ some t) : nth (setF fr d v) t = nth fr t:=by
 rw [setF_plain h]
 cases d with
 | none=>rfl
 | some d=>simp only [putF]; rw [nth_set,if_neg]; exact fun e=>ht (by rw [e.1])
section
variable {P : Program} {C : Ctx} {G0 : GE} {S : St} {a : Act} {w : World} {ops : Array Oper}
theorem untag_tag {d : Nat} {g : Option Gd} {v : V} {C : Ctx} {ty : Nat} (h : ∀ gd,g = some gd->gd.d ≠ d) : untagD d (tag g (saneT C ty v)) = tag g (saneT C ty v):=by
 cases g with
 | none=>cases v <;> simp only [saneT,tag] <;> first | rfl | (split <;> rfl)
 | some gd =>
  simp only [tag,untagD]
  rw [if_neg]
  intro e
  exact h gd rfl (Nat.eq_of_beq_eq_true e)
theorem guardOf_looks {fr : List V} {o : Oper} {gd : Gd} (h : guardOf ops fr o = some (some gd)) : gd.d ∈ o.looksAt ops /\ ∃ j w,o.guard = some (j,w) /\ (ops[j]?).bind (·.dst) = some gd.d:=by
 unfold guardOf at h
 cases hg : o.guard with
 | none=>rw [hg] at h; cases h
 | some jw =>
  obtain ⟨j,w⟩:=jw
  rw [hg] at h
  simp only at h
  cases hd : (ops[j]?).bind (·.dst) with
  | none=>rw [hd] at h; cases h
  | some d =>
   rw [hd] at h
   simp only at h
   have hm : d ∈ o.looksAt ops:=List.mem_append_right _ (by simp [hg,hd])
   split at h
   ·cases h
   ·split at h <;> first | (cases h; exact ⟨hm,j,w,rfl,hd⟩) | cases h
theorem act_tag {g : Option Gd} {o : Oper} {fr : List V} {hp : Heap} {r} (h : act C g o fr hp = some r) : ∃ v,r.1 = tag g (saneT C o.type v):=by
 unfold act at h
 cases hv : valR C g fr hp o.op with
 | none =>
  rw [hv] at h
  simp only at h
  cases hd : doIt g with
  | none=>rw [hd] at h; cases h
  | some b =>
   rw [hd] at h
   cases b with
   | false=>cases h; exact ⟨.any,rfl⟩
   | true =>
    simp only at h
    cases he : effR C g fr hp o.dst o.op with
    | none=>rw [he] at h; cases h
    | some q =>
     rw [he] at h
     cases q with
     | eff c i v hp wr=>obtain ⟨_,e⟩:=chk_some h (fun _ e=>by cases e); subst e; exact ⟨v,rfl⟩
     | call F a hp wr=>obtain ⟨y,_,e⟩:=Option.bind_eq_some_iff.1 h; cases e; exact ⟨_,rfl⟩
     | sh s L =>
      obtain ⟨y,_,e⟩:=Option.bind_eq_some_iff.1 h
      split at e
      ·cases e; exact ⟨_,rfl⟩
      ·cases e
     | val c i v=>cases h
     | new v=>cases h
 | some q =>
  rw [hv] at h
  cases q with
  | val c i v =>
   refine ⟨v,?_⟩
   cases g <;> simp only [chk] at h <;> split at h <;> first | (cases h; rfl) | cases h
  | call F a hp wr=>obtain ⟨y,_,e⟩:=Option.bind_eq_some_iff.1 h; cases e; exact ⟨_,rfl⟩
  | new v=>cases h; exact ⟨v,rfl⟩
  | eff c i v hp wr=>cases h
  | sh s L=>cases h
theorem act_untag {g : Option Gd} {o : Oper} {fr fr' : List V} {hp : Heap} {r} (hg : guardOf ops fr' o = some g) (h : act C g o fr hp = some r) {d : Nat} (hd : ∀ j w,o.guard = some (j,w)->(ops[j]?).bind (·.dst) ≠ some d) : untagD d r.1 = r.1:=by
 obtain ⟨v,e⟩:=act_tag h
 rw [e]
 refine untag_tag fun gd he hed=>?_
 subst he
 obtain ⟨_,j,w,h1,h2⟩:=guardOf_looks hg
 exact hd j w h1 (by rw [h2,hed])
theorem act_off {g : Option Gd} {o : Oper} {v : V} {wr : List Nat} {h : Heap} (ha : act C g o S.fr S.hp = some (v,wr,h)) : ∀ i,i ∉ wr->nthB h i = nthB S.hp i:=by
 obtain ⟨_,_,l⟩:=act_local ha (fun _ _=>rfl) (fun _ _=>rfl) (fun _ _=>sameM.refl _)
 exact l.off
theorem getM_snoc {κ ν : Type} (eq : κ->κ->Bool) (k k' : κ) (z : ν) : ∀ l : List (κ × ν),getM eq k z (l ++ [(k',z)]) = getM eq k z l
 | []=>by simp only [List.nil_append,getM]; split <;> rfl
 | p :: l=>by simp only [List.cons_append,getM,getM_snoc eq k k' z l]
theorem getM_entM {κ ν : Type} (eq : κ->κ->Bool) (k k' : κ) (z : ν) (l : List (κ × ν)) : getM eq k z (entM eq k' z l) = getM eq k z l:=by
 unfold entM
 split
 ·rfl
 ·exact getM_snoc eq k k' z l
theorem act_keepV {g : Option Gd} {o : Oper} {v : V} {wr : List Nat} {h : Heap} (ha : act C g o S.fr S.hp = some (v,wr,h)) : ∀ i,i ∉ wvOf o.op wr->sameM (nthB S.hp i) (nthB h i):=by
 intro i hi
 by_cases hm : ∃ t m k,o.op = .mapEntry t m k
 ·by_cases hw : i ∈ wr
  ·obtain ⟨t,m,k,ho⟩:=hm
   unfold act at ha
   rw [ho] at ha
   have hv : valR C g S.fr S.hp (.mapEntry t m k) = none:=rfl
   rw [hv] at ha
   simp only at ha
   cases hd : doIt g with
   | none=>rw [hd] at ha; cases ha
   | some b =>
    rw [hd] at ha
    cases b with
    | false=>cases ha; simp at hw
    | true =>
     simp only at ha
     cases he : effR C g S.fr S.hp o.dst (.mapEntry t m k) with
     | none=>rw [he] at ha; cases ha
     | some r =>
      rw [he] at ha
      simp only [effR] at he
      split at he
      ·split at he
       ·rename_i κ0 ν0 κ ν l hk hn hb
        split at he
        ·rename_i hq
         subst hq
         split at he
         ·cases he
          obtain ⟨_,e⟩:=chk_some ha (fun _ e=>by cases e)
          cases e
          simp only [List.mem_singleton] at hw
          subst hw
          rw [look_set,if_pos rfl,hb]
          exact ⟨_,rfl,fun k=>getM_entM _ _ _ _ _⟩
         ·cases he
        ·cases he
       ·cases he
      ·cases he
  ·exact .of_eq (act_off ha i hw)
 ·have : wvOf o.op wr = wr:=by
   cases ho : o.op <;> first | rfl | exact absurd ⟨_,_,_,ho⟩ hm
  rw [this] at hi
  exact .of_eq (act_off ha i hi)
theorem step1_act {o : Oper} {wr : List Nat} {S' : St} (h : step1 C ops o S = some (wr,S')) : ∃ g v,guardOf ops S.fr o = some g /\ act C g o S.fr S.hp = some (v,wr,S'.hp) /\ S'.fr = setF S.fr o.dst v:=by
 unfold step1 at h
 cases hg : guardOf ops S.fr o with
 | none=>rw [hg] at h; cases h
 | some g =>
  rw [hg] at h
  simp only [T_act] at h
  obtain ⟨⟨v,wr',h'⟩,h1,h2⟩:=Option.bind_eq_some_iff.1 h
  cases h2
  exact ⟨g,v,rfl,h1,rfl⟩
theorem act_step1 {o : Oper} {wr : List Nat} {g : Option Gd} {v : V} {h : Heap} (hg : guardOf ops S.fr o = some g) (ha : act C g o S.fr S.hp = some (v,wr,h)) : step1 C ops o S = some (wr,⟨setF S.fr o.dst v,h⟩):=by
 unfold step1
 rw [hg]
 simp only [T_act,ha,Option.bind_some]
def Eqv (S S' : St) : Prop:=S'.fr = S.fr /\ ∀ i,nthB S'.hp i = nthB S.hp i
theorem Eqv.refl (S : St) : Eqv S S:=⟨rfl,fun _=>rfl⟩
theorem Eqv.trans {S1 S2 S3 : St} (h : Eqv S1 S2) (k : Eqv S2 S3) : Eqv S1 S3:=⟨k.1.trans h.1,fun i=>(k.2 i).trans (h.2 i)⟩
theorem step1_eqv {o : Oper} {wr : List Nat} {S1 S' : St} (h : step1 C ops o S = some (wr,S1)) (e : Eqv S S') : ∃ S1',step1 C ops o S' = some (wr,S1') /\ foot S' o = foot S o /\ footV S' o = footV S o /\ Eqv S1 S1':=by
 obtain ⟨g,v,h1,h2,h3⟩:=step1_act h
 obtain ⟨h',l1,l2⟩:=act_local (hp':=S'.hp) h2 (fun i _=>e.2 i) (fun i _=>e.2 i) (fun i _=>.of_eq (e.2 i))
 refine ⟨⟨setF S.fr o.dst v,h'⟩,?_,foot_agree (fun t _=>by rw [e.1]) (fun i _=>e.2 i),footV_congr (fun t _=>by rw [e.1]),h3.symm,fun i=>?_⟩
 ·have:=act_step1 (C:=C) (ops:=ops) (S:=S') (o:=o) (wr:=wr) (g:=g) (v:=v) (h:=h') (by rw [e.1]; exact h1) (by rw [e.1]; exact l1)
  rw [this,e.1]
 ·by_cases hi : i ∈ wr
  ·exact l2.on i hi
  ·exact (l2.off' i hi).trans ((e.2 i).trans (l2.off i hi).symm)
inductive Runs (C : Ctx) (ops : Array Oper) : List (Nat × Rec)->St->St->Prop
 | nil (S : St) : Runs C ops [] S S
 | cons {i : Nat} {r : Rec} {o : Oper} {m : List (Nat × Rec)} {S S1 Se : St} (ho : ops[i]? = some o) (hs : step1 C ops o S = some (r.wr,S1)) (hr : foot S o = r.rd /\ footV S o = r.rv /\ r.wv = wvOf o.op r.wr) (h : Runs C ops m S1 Se) : Runs C ops ((i,r) :: m) S Se
theorem Runs.eqv {m : List (Nat × Rec)} {S Se : St} (h : Runs C ops m S Se) : ∀ {S' : St},Eqv S S'->∃ Se',Runs C ops m S' Se' /\ Eqv Se Se':=by
 induction h with
 | nil S=>exact fun e=>⟨_,.nil _,e⟩
 | cons ho hs hr _ ih =>
  intro S' e
  obtain ⟨S1',g1,g2,g2v,g3⟩:=step1_eqv hs e
  obtain ⟨Se',k1,k2⟩:=ih g3
  exact ⟨Se',.cons ho g1 ⟨g2.trans hr.1,g2v.trans hr.2.1,hr.2.2⟩ k1,k2⟩
theorem noTag_step {o : Oper} {wr : List Nat} {S' : St} (hs : step1 C ops o S = some (wr,S')) {d : Nat} (hd : ∀ j w,o.guard = some (j,w)->(ops[j]?).bind (·.dst) ≠ some d) (h : NoTag (some d) S.fr) : NoTag (some d) S'.fr:=by
 obtain ⟨g,v,e0,e1,e2⟩:=step1_act hs
 intro d' hd' t
 cases hd'
 rw [e2]
 cases hdst : o.dst with
 | none=>exact h d rfl t
 | some dx =>
  simp only [setF]
  rw [nth_set,nth_map _ rfl]
  split
  ·exact act_untag e0 e1 hd
  ·have:=h d rfl t
   cases hv : nth S.fr t with
   | opt d' w' u' =>
    rw [hv] at this
    by_cases hx : Nat.beq d' dx = true
    ·simp only [untagD,hx,if_true]
    ·simp only [untagD,hx] at this ⊢
     exact this
   | _=>rfl
theorem apartL_spec {a b : List Nat} (h : apartL a b = true) : ∀ i ∈ b,i ∉ a:=by
 intro i hb ha
 simp only [apartL,Bool.not_eq_true',List.any_eq_false] at h
 exact h i ha (mem_iff.2 hb)
theorem comm {ox oi : Oper} {rx ri : Rec} (hap : ox.apart ops oi = true) (hr : apartR rx ri = true) (hx : NoTag ox.dst S.fr) (hi : NoTag oi.dst S.fr) {S1 S2 : St} (s1 : step1 C ops ox S = some (rx.wr,S1)) (f1 : foot S ox = rx.rd /\ footV S ox = rx.rv /\ rx.wv = wvOf ox.op rx.wr)
  (s2 : step1 C ops oi S1 = some (ri.wr,S2)) (f2 : foot S1 oi = ri.rd /\ footV S1 oi = ri.rv /\ ri.wv = wvOf oi.op ri.wr) :
  ∃ S1' S2',step1 C ops oi S = some (ri.wr,S1') /\ (foot S oi = ri.rd /\ footV S oi = ri.rv /\ ri.wv = wvOf oi.op ri.wr) /\ step1 C ops ox S1' = some (rx.wr,S2') /\ (foot S1' ox = rx.rd /\ footV S1' ox = rx.rv /\ rx.wv = wvOf ox.op rx.wr) /\ Eqv S2 S2':=by
 obtain ⟨a1,a2,a3⟩:=Oper.apart_spec hap
 simp only [apartR,Bool.and_eq_true] at hr
 obtain ⟨⟨⟨⟨p1,p2⟩,p3⟩,p4⟩,p5⟩:=hr
 obtain ⟨f1,f1v,f1w⟩:=f1
 obtain ⟨f2,f2v,f2w⟩:=f2
 have q4:=apartL_spec p4
 have q5:=apartL_spec p5
 have q1:=apartL_spec p1
 have q2:=apartL_spec p2
 have q3:=apartL_spec p3
 obtain ⟨gx,vx,x1,x2,x3⟩:=step1_act s1
 obtain ⟨gi,vi,i1,i2,i3⟩:=step1_act s2
 have guardLooks : ∀ (o : Oper) j w d,o.guard = some (j,w)->(ops[j]?).bind (·.dst) = some d->d ∈ o.looksAt ops:=fun o j w d hg hd=>List.mem_append_right _ (by simp [hg,hd])
 have lkx : ∀ t ∈ oi.looksAt ops,nth S1.fr t = nth S.fr t:=fun t ht=>by rw [x3]; exact nth_setF hx vx t fun e=>a1 t e ht
 have i1' : guardOf ops S.fr oi = some gi:=by rw [<- guardOf_congr lkx]; exact i1
 have i2' : act C gi oi S.fr S1.hp = some (vi,ri.wr,S2.hp):=by rw [<- act_congr fun t ht=>lkx t (mem_looks ht)]; exact i2
 have fi : foot ⟨S.fr,S1.hp⟩ oi = ri.rd:=by
  rw [<- f2]; exact foot_agree (S:=S1) (S':=⟨S.fr,S1.hp⟩) (fun t ht=>(lkx t (mem_looks ht)).symm) (fun _ _=>rfl)
 have off1:=act_off (S:=S) x2
 have offv1:=act_keepV (S:=S) x2
 have fvi : footV ⟨S.fr,S1.hp⟩ oi = ri.rv:=by
  rw [<- f2v]; exact footV_congr (S:=S1) (S':=⟨S.fr,S1.hp⟩) (fun t ht=>(lkx t (mem_looks ht)).symm)
 obtain ⟨h',l1,l2⟩:=act_local (S:=⟨S.fr,S1.hp⟩) (hp':=S.hp) i2' (fun i hi=>by rw [fi] at hi; exact (off1 i (q1 i hi)).symm) (fun i hi=>(off1 i (q2 i hi)).symm) (fun i hi=>by rw [fvi] at hi; exact (offv1 i (by rw [<- f1w]; exact q4 i hi)).symm)
 have offvi:=act_keepV (S:=S) l1
 have fi' : foot S oi = ri.rd:=by
  rw [<- fi]; exact foot_agree (S:=⟨S.fr,S1.hp⟩) (S':=S) (fun _ _=>rfl) (fun i hi=>by rw [fi] at hi; exact (off1 i (q1 i hi)).symm)
 have hix : NoTag oi.dst (setF S.fr ox.dst vx):=fun d hd t=>by
  rw [setF_plain hx]
  cases hdx : ox.dst with
  | none=>exact hi d hd t
  | some d' =>
   simp only [putF]
   rw [nth_set]
   split
   ·exact act_untag x1 x2 fun j w hg hj=>a3 d hd (guardLooks ox j w d hg hj)
   ·exact hi d hd t
 have hxi : NoTag ox.dst (setF S.fr oi.dst vi):=fun d hd t=>by
  rw [setF_plain hi]
  cases hdi : oi.dst with
  | none=>exact hx d hd t
  | some d' =>
   simp only [putF]
   rw [nth_set]
   split
   ·exact act_untag i1' i2' fun j w hg hj=>a1 d hd (guardLooks oi j w d hg hj)
   ·exact hx d hd t
 have frames : setF (setF S.fr oi.dst vi) ox.dst vx = setF (setF S.fr ox.dst vx) oi.dst vi:=by
  rw [setF_plain hxi,setF_plain hix,setF_plain hi,setF_plain hx]
  cases hdx : ox.dst with
  | none=>rfl
  | some d =>
   cases hdi : oi.dst with
   | none=>rfl
   | some d'=>simp only [putF]; exact List.set_comm _ _ fun e=>a2 d hdx (by rw [hdi,e])
 have lki : ∀ t ∈ ox.looksAt ops,nth (setF S.fr oi.dst vi) t = nth S.fr t:=fun t ht=>nth_setF hi vi t fun e=>a3 t e ht
 obtain ⟨h'',m1,m2⟩:=act_local (S:=S) (hp':=h') x2 (fun i hi=>by rw [f1] at hi; exact l2.off' i (q3 i hi)) (fun i hi=>l2.off' i fun h=>q2 i h hi) (fun i hi=>by rw [f1v] at hi; exact offvi i (by rw [<- f2w]; exact q5 i hi))
 refine ⟨⟨setF S.fr oi.dst vi,h'⟩,⟨setF (setF S.fr oi.dst vi) ox.dst vx,h''⟩,act_step1 i1' l1,⟨fi',(footV_congr (S:=⟨S.fr,S1.hp⟩) (S':=S) fun _ _=>rfl).trans fvi,f2w⟩,?_,⟨?_,(footV_congr (S:=S) fun t ht=>lki t (mem_looks ht)).trans f1v,f1w⟩,?_,fun i=>?_⟩
 ·exact act_step1 (S:=⟨setF S.fr oi.dst vi,h'⟩) (by rw [guardOf_congr lki]; exact x1) (by rw [act_congr fun t ht=>lki t (mem_looks ht)]; exact m1)
 ·rw [<- f1]
  exact foot_agree (S:=S) (fun t ht=>lki t (mem_looks ht)) (fun i hi=>by rw [f1] at hi; exact l2.off' i (q3 i hi))
 ·simp only; rw [frames,i3,x3]
 ·simp only
  by_cases hx' : i ∈ rx.wr
  ·rw [m2.on i hx',l2.off i fun h=>q2 i h hx']
  ·rw [m2.off' i hx']
   by_cases hi' : i ∈ ri.wr
   ·exact l2.on i hi'
   ·rw [l2.off' i hi',l2.off i hi',off1 i hx']
theorem Runs.front (hD : DrawFacts ops) {i : Nat} {ri : Rec} {oi : Oper} (hoi : ops[i]? = some oi) (m2 : List (Nat × Rec)) : ∀ (m1 : List (Nat × Rec)) (S Se : St),
  ((m1 ++ (i,ri) :: m2).map (·.1)).Pairwise (· < ·)->(∀ p ∈ m1,∀ ox,ops[p.1]? = some ox->ox.apart ops oi = true /\ apartR p.2 ri = true)->(∀ p ∈ m1 ++ (i,ri) :: m2,∀ o,ops[p.1]? = some o->NoTag o.dst S.fr) ->
  Runs C ops (m1 ++ (i,ri) :: m2) S Se->∃ Se',Runs C ops ((i,ri) :: (m1 ++ m2)) S Se' /\ Eqv Se Se'
 | [],S,Se,_,_,_,h=>⟨Se,h,Eqv.refl _⟩
 | (x,rx) :: m1,S,Se,hp,hc,ht,h=>by
  cases h with
  | @cons _ _ ox _ _ S1 _ hox s1 f1 h1 =>
   have hp':=List.pairwise_cons.1 hp
   have ht1 : ∀ p ∈ m1 ++ (i,ri) :: m2,∀ o,ops[p.1]? = some o->NoTag o.dst S1.fr:=fun p hj o ho=>by
    cases hd : o.dst with
    | none=>intro d' hd'; cases hd'
    | some d =>
     refine noTag_step s1 (fun j' w' hg hj'=>?_) (by rw [<- hd]; exact ht p (List.mem_cons_of_mem _ hj) o ho)
     obtain ⟨e,he,hb,hej⟩:=hD.grd x ox j' w' hox hg
     have hlow:=hD.low x ox hox e he hb
     have hxj:=hp'.1 p.1 (List.mem_map_of_mem hj)
     cases hoj : ops[j']? with
     | none=>rw [hoj] at hj'; cases hj'
     | some oj =>
      rw [hoj] at hj'
      exact hD.dst j' p.1 oj o d hoj ho (by simp only at hxj; omega) hd hj'
   obtain ⟨Se',h2,e2⟩:=Runs.front hD hoi m2 m1 S1 Se hp'.2 (fun y hy=>hc y (List.mem_cons_of_mem _ hy)) ht1 h1
   cases h2 with
   | @cons _ _ oi' _ _ S2 _ hoi' s2 f2 h3 =>
    rw [hoi] at hoi'; cases hoi'
    obtain ⟨c1,c2⟩:=hc (x,rx) (by simp) ox hox
    obtain ⟨S1',S2',g1,g2,g3,g4,g5⟩:=comm c1 c2 (ht (x,rx) (by simp) ox hox) (ht (i,ri) (by simp) oi hoi) s1 f1 s2 f2
    obtain ⟨Se'',k1,k2⟩:=h3.eqv g5
    exact ⟨Se'',.cons hoi g1 g2 (.cons hox g3 g4 k1),e2.trans k2⟩
end
end Go.Bx
