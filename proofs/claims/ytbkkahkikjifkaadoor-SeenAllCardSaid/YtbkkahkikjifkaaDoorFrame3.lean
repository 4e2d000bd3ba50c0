/- A part of a framework that reads Go code as functions of plain data. -/
import Derived.Test.YtbkkahkikjifkaaDoorFrame2
import Derived.Scope
import Derived.ProofKit
import Derived.OpenShut
import Derived.Deep.Slices
import Derived.SizedLaws
import Derived.Carry
import Derived.LaidMore
import Derived.LaidLaws
namespace Go.Bx
set_option linter.unusedVariables false
set_option linter.unusedSimpArgs false
open Go Go.RowKit
section
variable {P : Program} {C : Ctx} {G0 : GE} {S : St} {a : Act} {w : World} {β : Nat->Option Nat} {σ : Nat->Value} {ops : Array Oper}
theorem Keep.same {G : GE} {hp' : Heap} (e : ∀ i,nthB hp' i = nthB G.hp i) : Keep G (G.withHp hp'):=by
 refine ⟨⟨fun b m ⟨h1,h2,h3⟩=>⟨h1,h2,fun id blk hb hβ=>h3 id blk (by rw [<- e]; exact hb) hβ⟩,fun _ _ _ _ _=>rfl⟩,fun id ver j u blk hρ hb=>?_⟩
 simp only [stay,Option.some.injEq,Prod.mk.injEq] at hρ
 obtain ⟨rfl,rfl⟩:=hρ
 exact ⟨blk,(e id).trans hb,SameB.refl _ _ _ _ _ rfl rfl⟩
theorem HRel.same {G : GE} (h : HRel G) {hp' : Heap} (e : ∀ i,nthB hp' i = nthB G.hp i) : HRel (G.withHp hp'):=by
 have e' : ∀ {i blk},nthB hp' i = some blk->nthB G.hp i = some blk:=fun {i blk} hb=>by rw [<- e]; exact hb
 refine ⟨h.glob.ext (Keep.same e).env,fun id blk hb=>(h.blk id blk (e' hb)).keep (Keep.same e) rfl rfl fun _ _ _=>rfl,fun id id' blk blk' b hb hb'=>h.inj id id' blk blk' b (e' hb) (e' hb'),fun b ⟨id,blk,hb,hβ⟩=>h.own b ⟨id,blk,e' hb,hβ⟩,h.base⟩
theorem Tr.same {G : GE} {hp' : Heap} (e : ∀ i,nthB hp' i = nthB G.hp i) : Tr G (G.withHp hp') :=
 ⟨Keep.same e,rfl,rfl,rfl,Nat.le_refl _,fun _ _ _=>rfl,fun _ ⟨id,blk,hb,hβ⟩=>.inr ⟨id,blk,(e id).symm.trans hb,hβ⟩⟩
theorem Rel.eqv (h : Rel G0 S a w β σ) {S' : St} (e : Eqv S S') : Rel G0 S' a w β σ:=by
 have t:=Tr.same (G:=G0.at w β σ S.hp) e.2
 refine ⟨h.tr.trans t,h.ok.same e.2,h.defers,by rw [e.1]; exact h.size,fun i v hv=>?_⟩
 rw [e.1]
 exact (h.fr i v hv).ext t.keep
theorem Behind.eqv (h : Behind G0 S a w) {S' : St} (e : Eqv S S') : Behind G0 S' a w:=by
 obtain ⟨β,σ,h⟩:=h
 exact ⟨β,σ,h.eqv e⟩
theorem getD_true_false {l : Array Bool} {i : Nat} (h : l.getD i true = false) : l.getD i false = false:=by
 cases hi : l[i]? with
 | none=>simp [Array.getD_eq_getD_getElem?,hi] at h
 | some b=>simp [Array.getD_eq_getD_getElem?,hi] at h ⊢; exact h
theorem any_order (hC : CtxOk P C) (hD : DrawFacts ops) {Q : Exit->Act->World->Prop} {Se : St} (hQ : ∀ a w,Behind G0 Se a w->Q .normal a w) : ∀ (fuel : Nat) (listed : Array Bool) (m : List (Nat × Rec)) (S Sf : St) (a : Act) (w : World),
  m.length <= fuel->(m.map (·.1)).Pairwise (· < ·)->m.Pairwise (fun p q=>Dep ops p.1 q.1 \/ apartR p.2 q.2 = true)->(∀ i,i ∈ m.map (·.1) ↔ i < ops.size /\ listed.getD i true = false)->listed.size = ops.size ->
  (∀ j o,ops[j]? = some o->listed.getD j false = true->∀ e ∈ o.after,Region.binds .any e = true->listed.getD e.on false = true) ->
  (∀ p ∈ m,∀ o,ops[p.1]? = some o->NoTag o.dst S.fr)->Runs C ops m S Sf->Eqv Sf Se->Behind G0 S a w->wpAny P .any ops Q fuel listed a w:=by
 intro fuel
 induction fuel with
 | zero =>
  intro listed m S Sf a w hl hp _ hm hsz hdown ht hrun hE hB
  have hm0 : m = []:=List.eq_nil_of_length_eq_zero (by omega)
  subst hm0
  cases hrun
  refine ⟨?_,hQ a w (hB.eqv hE)⟩
  rw [List.eq_nil_iff_forall_not_mem]
  intro i hi
  obtain ⟨h0,o,ho,_⟩:=mem_ready.1 hi
  have:=(hm i).2 ⟨(Array.getElem?_eq_some_iff.1 ho).1,h0⟩
  cases this
 | succ fuel ih =>
  intro listed m S Sf a w hl hp hpr hm hsz hdown ht hrun hE hB
  refine ⟨fun hr=>?_,fun i hi=>?_⟩
  ·cases m with
   | nil=>cases hrun; exact hQ a w (hB.eqv hE)
   | cons x m =>
    exfalso
    obtain ⟨hx,hx0⟩:=(hm x.1).1 (by simp)
    have : x.1 ∈ Region.ready .any ops listed:=by
     refine mem_ready.2 ⟨hx0,ops[x.1],Array.getElem?_eq_getElem hx,fun e he hb=>?_⟩
     have hlow:=hD.low x.1 _ (Array.getElem?_eq_getElem hx) e he hb
     rcases Bool.eq_false_or_eq_true (listed.getD e.on false) with h | h
     ·exact h
     ·exfalso
      have hlt : e.on < listed.size:=by omega
      have : listed.getD e.on true = false:=by
       simp only [Array.getD_eq_getD_getElem?,Array.getElem?_eq_getElem hlt,Option.getD_some] at h ⊢; exact h
      have:=(hm e.on).2 ⟨by omega,this⟩
      rw [List.map_cons] at this hp
      rcases List.mem_cons.1 this with h' | h'
      ·omega
      ·have:=(List.pairwise_cons.1 hp).1 _ h'; omega
    rw [hr] at this; cases this
  ·obtain ⟨h0,oi,hoi,hall⟩:=mem_ready.1 hi
   have hlt:=(Array.getElem?_eq_some_iff.1 hoi).1
   have him:=(hm i).2 ⟨hlt,h0⟩
   obtain ⟨⟨i',ri⟩,hmem,hie⟩:=List.mem_map.1 him
   simp only at hie
   subst hie
   obtain ⟨m1,m2,rfl⟩:=List.append_of_mem hmem
   have hp0:=hp
   rw [List.map_append,List.map_cons] at hp
   have hpw:=List.pairwise_append.1 hp
   have hprw:=List.pairwise_append.1 hpr
   have hcomm : ∀ p ∈ m1,∀ ox,ops[p.1]? = some ox->ox.apart ops oi = true /\ apartR p.2 ri = true:=fun p hx ox hox=>by
    have hxi : p.1 < i':=hpw.2.2 p.1 (List.mem_map_of_mem hx) i' (by simp)
    have hx0:=((hm p.1).1 (List.mem_map_of_mem (List.mem_append_left _ hx))).2
    have nodep : ¬ Dep ops p.1 i':=fun hdep=>by
     have:=hdep.listed hdown fun o ho e he hb=>by rw [hoi] at ho; cases ho; exact hall e he hb
     rw [getD_true_false hx0] at this; cases this
    exact ⟨(hD.pair p.1 i' ox oi hox hoi hxi).resolve_left nodep,(hprw.2.2 p hx (i',ri) (by simp)).resolve_left nodep⟩
   obtain ⟨Sf',hfr,hE2⟩:=Runs.front hD hoi m2 m1 S Sf (by rw [List.map_append,List.map_cons]; exact hp) hcomm ht hrun
   have hE' : Eqv Sf' Se:=Eqv.trans ⟨hE2.1.symm,fun i=>(hE2.2 i).symm⟩ hE
   cases hfr with
   | @cons _ _ oi' _ _ S1 _ hoi' s1 f1 h1 =>
   rw [hoi] at hoi'; cases hoi'
   have hsub : ∀ p,p ∈ m1 ++ m2->p ∈ m1 ++ (i',ri) :: m2 /\ p.1 ≠ i':=fun p hj=>by
    rcases List.mem_append.1 hj with h | h
    ·exact ⟨List.mem_append_left _ h,Nat.ne_of_lt (hpw.2.2 p.1 (List.mem_map_of_mem h) i' (by simp))⟩
    ·exact ⟨List.mem_append_right _ (List.mem_cons_of_mem _ h),Nat.ne_of_gt ((List.pairwise_cons.1 hpw.2.1).1 p.1 (List.mem_map_of_mem h))⟩
   have hlen : (m1 ++ m2).length <= fuel:=by simp at hl ⊢; omega
   have hsl : (m1 ++ m2).Sublist (m1 ++ (i',ri) :: m2):=by simp
   have hp2 : ((m1 ++ m2).map (·.1)).Pairwise (· < ·):=hp0.sublist (hsl.map _)
   have hpr2:=hpr.sublist hsl
   have hm2 : ∀ j,j ∈ (m1 ++ m2).map (·.1) ↔ j < ops.size /\ (listed.setIfInBounds i' true).getD j true = false:=fun j=>by
    by_cases hji : j = i'
    ·subst hji
     refine ⟨fun h=>?_,fun ⟨_,h⟩=>?_⟩
     ·obtain ⟨p,hp,e⟩:=List.mem_map.1 h
      exact absurd e (hsub p hp).2
     ·simp [hsz,hlt] at h
    ·rw [getD_set_ne true (Ne.symm hji),<- hm j]
     constructor
     ·intro h
      obtain ⟨p,hp,e⟩:=List.mem_map.1 h
      exact List.mem_map.2 ⟨p,(hsub p hp).1,e⟩
     ·intro h
      obtain ⟨p,hp,e⟩:=List.mem_map.1 h
      rcases List.mem_append.1 hp with h | h
      ·exact List.mem_map.2 ⟨p,List.mem_append_left _ h,e⟩
      ·rcases List.mem_cons.1 h with h | h
       ·subst h; exact absurd e.symm hji
       ·exact List.mem_map.2 ⟨p,List.mem_append_right _ h,e⟩
   have hdown2 : ∀ j o,ops[j]? = some o->(listed.setIfInBounds i' true).getD j false = true->∀ e ∈ o.after,Region.binds .any e = true->(listed.setIfInBounds i' true).getD e.on false = true:=fun j o ho hj e he hb=>by
    refine getD_set_true ?_
    by_cases hji : j = i'
    ·subst hji; rw [hoi] at ho; cases ho; exact hall e he hb
    ·rw [getD_set_ne false (Ne.symm hji)] at hj; exact hdown j o ho hj e he hb
   have ht2 : ∀ p ∈ m1 ++ m2,∀ o,ops[p.1]? = some o->NoTag o.dst S1.fr:=fun p hj o ho=>by
    cases hd : o.dst with
    | none=>intro d' hd'; cases hd'
    | some d =>
     refine noTag_step s1 (fun j' w' hg hj'=>?_) (by rw [<- hd]; exact ht p (hsub p hj).1 o ho)
     obtain ⟨e,he,hb,hej⟩:=hD.grd i' oi j' w' hoi hg
     have hl':=hall e he hb
     cases hoj : ops[j']? with
     | none=>rw [hoj] at hj'; cases hj'
     | some oj =>
      rw [hoj] at hj'
      refine hD.dst j' p.1 oj o d hoj ho (fun e'=>?_) hd hj'
      have:=((hm p.1).1 (List.mem_map_of_mem (hsub p hj).1)).2
      rw [<- e',<- hej] at this
      rw [getD_true_false this] at hl'; cases hl'
   have hst:=step1_sound hC hB (ops:=ops) oi s1 (Q:=Q)
   unfold wpOp
   simp only [hoi]
   by_cases hw : Region.wanted oi (yielded ops a.tmps) = true
   ·rw [if_pos hw] at hst
    simp only [hw,if_true]
    exact .inl (Oper.wp_mono (fun a' w' hB'=>ih _ (m1 ++ m2) S1 Sf' a' w' hlen hp2 hpr2 hm2 (by simpa using hsz) hdown2 ht2 h1 hE' hB') hst)
   ·rw [if_neg hw] at hst
    simp only [hw,Bool.false_eq_true,if_false]
    exact ih _ (m1 ++ m2) S1 Sf' _ _ hlen hp2 hpr2 hm2 (by simpa using hsz) hdown2 ht2 h1 hE' hst
theorem in_order (hC : CtxOk P C) {Q : Exit->Act->World->Prop} {α : Type} {r : α} {K : St->Option α} (hK : ∀ S a w,K S = some r->Behind G0 S a w->Q .normal a w) : ∀ (l : List Oper) (s : Nat) (S : St) (a : Act) (w : World),
  (∀ j,l[j]? = ops[s + j]?)->runL C ops l S K = some r->Behind G0 S a w->wpOps P ops Q (List.range' s l.length) a w
 | [],s,S,a,w,_,h,hB=>hK S a w h hB
 | o :: l,s,S,a,w,hl,h,hB=>by
  simp only [runL] at h
  have h0 : ops[s]? = some o:=by simpa using (hl 0).symm
  cases hg : guardOf ops S.fr o with
  | none=>rw [hg] at h; cases h
  | some g =>
   rw [hg] at h
   simp only [T_act] at h
   obtain ⟨⟨v,wr,h'⟩,t1,h1⟩:=Option.bind_eq_some_iff.1 h
   have s1:=act_step1 (C:=C) (ops:=ops) hg t1
   have hst:=step1_sound hC hB (ops:=ops) o s1 (Q:=Q)
   have hl' : ∀ j,l[j]? = ops[s + 1 + j]?:=fun j=>by have:=hl (j + 1); simpa [Nat.add_assoc,Nat.add_comm 1 j] using this
   simp only [List.length_cons,List.range'_succ,wpOps,h0]
   by_cases hw : Region.wanted o (yielded ops a.tmps) = true
   ·rw [if_pos hw] at hst
    simp only [hw,if_true]
    exact .inl (Oper.wp_mono (fun a' w' hB'=>in_order hC hK l (s + 1) _ a' w' hl' h1 hB') hst)
   ·rw [if_neg hw] at hst
    simp only [hw,Bool.false_eq_true,if_false]
    exact in_order hC hK l (s + 1) _ _ _ hl' h1 hst
theorem recOk_spec {m : Nat} {x : Rec} : ∀ (l : List Rec) (j : Nat),recOk m x j l = true->∀ k y,l[k]? = some y->m.testBit (j + k) = true \/ apartR y x = true
 | [],_,_,k,y,h=>by simp at h
 | z :: r,j,h,0,y,hk=>by
  simp at hk; subst hk
  simp only [recOk,Bool.and_eq_true,Bool.or_eq_true] at h
  exact h.1
 | z :: r,j,h,k + 1,y,hk=>by
  simp only [recOk,Bool.and_eq_true] at h
  have:=recOk_spec r (j + 1) h.2 k y (by simpa using hk)
  rwa [show j + 1 + k = j + (k + 1) by omega] at this
theorem runD_runs {α : Type} {r : α} {K : St->Option α} {ms : List Nat} (hms : ∀ k m,ms[k]? = some m->∀ x,m.testBit x = true->Dep ops x k) : ∀ (l : List Oper) (acc : List Rec) (S : St),(∀ j,l[j]? = ops[acc.length + j]?)->runD C ops ms l acc S K = some r ->
  ∃ (m : List (Nat × Rec)) (Se : St),Runs C ops m S Se /\ K Se = some r /\ m.map (·.1) = List.range' acc.length l.length /\ m.Pairwise (fun p q=>Dep ops p.1 q.1 \/ apartR p.2 q.2 = true) /\
   ∀ p ∈ m,∀ k y,acc[k]? = some y->Dep ops k p.1 \/ apartR y p.2 = true
 | [],acc,S,_,h=>⟨[],S,.nil S,h,rfl,.nil,fun _ hp=>by cases hp⟩
 | o :: l,acc,S,hl,h=>by
  simp only [runD] at h
  have h0 : ops[acc.length]? = some o:=by simpa using (hl 0).symm
  cases hg : guardOf ops S.fr o with
  | none=>rw [hg] at h; cases h
  | some g =>
   rw [hg] at h
   simp only [T_act] at h
   obtain ⟨⟨v,wr,h'⟩,t1,h1⟩:=Option.bind_eq_some_iff.1 h
   have s1:=act_step1 (C:=C) (ops:=ops) hg t1
   simp only at h1
   split at h1
   ·rename_i hrec
    have hrs:=recOk_spec acc 0 hrec
    obtain ⟨m,Se,g1,g2,g3,g4,g5⟩:=runD_runs hms l (acc ++ [⟨foot S o,wr,footV S o,wvOf o.op wr⟩]) _ (fun j=>by have:=hl (j + 1); simpa [Nat.add_assoc,Nat.add_comm 1 j] using this) h1
    refine ⟨(acc.length,⟨foot S o,wr,footV S o,wvOf o.op wr⟩) :: m,Se,.cons h0 s1 ⟨rfl,rfl,rfl⟩ g1,g2,?_,?_,?_⟩
    ·rw [List.map_cons,g3]
     simp [List.range'_succ]
    ·refine List.pairwise_cons.2 ⟨fun p hp=>?_,g4⟩
     exact g5 p hp acc.length _ (by simp)
    ·intro p hp k y hy
     rcases List.mem_cons.1 hp with rfl | hp
     ·have:=hrs k y hy
      rw [Nat.zero_add] at this
      refine this.imp (fun hb=>?_) id
      cases hk : ms[acc.length]? with
      | none=>simp [List.getD,hk] at hb
      | some mm=>exact hms _ _ hk _ (by simpa [List.getD,hk] using hb)
     ·have hlt : k < acc.length:=by
       rcases Nat.lt_or_ge k acc.length with h | h
       ·exact h
       ·rw [List.getElem?_eq_none h] at hy; cases hy
      exact g5 p hp k y (by rw [List.getElem?_append_left hlt]; exact hy)
   ·cases h1
theorem Behind.strips (h : Behind G0 S a w) : Behind G0 (strips S) a w:=by
 obtain ⟨β,σ,h⟩:=h
 refine ⟨β,σ,h.tr,h.ok,h.defers,by simp [Bx.strips,h.size],fun i v hv=>?_⟩
 simp only [Bx.strips]
 rw [nth_map _ rfl]
 have:=h.fr i v hv
 cases hn : nth S.fr i <;> rw [hn] at this <;> first | exact this | exact .any
theorem Behind.drew (h : Behind G0 S a w) : Behind G0 S a { w with drawn:=w.drawn + 1 }:=by
 obtain ⟨β,σ,h⟩:=h
 have hb : Below (G0.at w β σ S.hp).w.heap.size (G0.at w β σ S.hp).w { w with drawn:=w.drawn + 1 }:=(Below.refl _ _).drew
 obtain ⟨t,hR⟩:=h.ok.grow hb
 exact ⟨β,σ,h.tr.trans t,hR,h.defers,h.size,fun i v hv=>(h.fr i v hv).ext t.keep⟩
theorem region_sound (hC : CtxOk P C) (hm : P.follows .mixedOrders = true) {id : Nat} {draw : Bool} (hd : draw = true->drawOk ops = true) {Q : Exit->Act->World->Prop} {α : Type} {r : α} {K : St->Option α}
  (hK : ∀ S a w,K S = some r->Behind G0 S a w->Q .normal a w)
  (h : (match draw with | false=>runL C ops ops.toList S K | true=>runD C ops (masks ops.toList []) ops.toList [] (strips S) K) = some r) (hB : Behind G0 S a w) : (Code.region id ops draw).wp P Q a w:=by
 cases draw with
 | false =>
  refine wp_region ?_
  rw [List.range_eq_range']
  have:=in_order hC (ops:=ops) hK ops.toList 0 S a w (fun j=>by simp) h hB
  simpa using this
 | true =>
  have hD:=drawOk_facts (hd rfl)
  obtain ⟨m,Se,g1,g2,g3,g4,_⟩:=runD_runs (masks_spec ops.toList [] (fun k=>by simp) (fun k m hk=>by simp at hk)) ops.toList [] (strips S) (fun j=>by simp) h
  refine wp_region_any hm ?_
  refine any_order hC hD (Se:=Se) (fun a w hB=>hK Se a w g2 hB) ops.size (Array.replicate ops.size false) m _ Se a _ ?_ (by rw [g3]; exact List.pairwise_lt_range') g4 (fun i=>?_) (by simp) (fun j o _ hj=>?_) (fun i _ o _=>?_) g1 (Eqv.refl _) hB.strips.drew
  ·have:=congrArg List.length g3
   simp at this
   omega
  ·rw [g3,List.mem_range']
   constructor
   ·rintro ⟨k,hk,rfl⟩
    have hk' : 0 + 1 * k < ops.size:=by simpa using hk
    refine ⟨by simpa using hk',?_⟩
    simp only [List.length_nil,Array.getD_eq_getD_getElem?,Array.getElem?_replicate,if_pos hk',Option.getD_some]
   ·rintro ⟨hi,_⟩; exact ⟨i,by simpa using hi,by simp⟩
  ·exfalso
   simp only [Array.getD_eq_getD_getElem?,Array.getElem?_replicate] at hj
   split at hj <;> simp at hj
  ·intro d' _ t
   simp only [Bx.strips]
   rw [nth_map _ rfl]
   cases nth S.fr t <;> rfl
end
end Go.Bx
namespace Go.Bx
set_option linter.unusedVariables false
set_option linter.unusedSimpArgs false
open Go Go.RowKit
section
variable {P : Program} {C : Ctx} {G : GE} {G0 : GE} {S : St} {a : Act} {w : World} {β : Nat->Option Nat} {σ : Nat->Value}
theorem length_keepF (l : List Nat) : ∀ (s : Nat) (fr : List V),(keepF l s fr).length = fr.length
 | _,[]=>rfl
 | s,_ :: r=>by simp [keepF,length_keepF l (s + 1) r]
theorem nth_keepF (l : List Nat) : ∀ (s : Nat) (fr : List V) (i : Nat),nth (keepF l s fr) i = if mem l (s + i) then sane (nth fr i) else .any
 | s,[],i=>by simp [keepF,nth,sane]
 | s,v :: r,0=>by simp [keepF,nth]
 | s,v :: r,i + 1=>by
  simp only [keepF,nth]
  rw [nth_keepF l (s + 1) r i,show s + 1 + i = s + (i + 1) by omega]
theorem nth_renL (ρ : Nat->Nat->Option (Nat × Nat)) : ∀ (l : List V) (i : Nat),nth (renL ρ l) i = ren ρ (nth l i)
 | [],i=>by simp [renL,nth,ren]
 | v :: l,0=>by simp [renL,nth]
 | v :: l,i + 1=>by simp [renL,nth,nth_renL ρ l i]
theorem length_renL (ρ : Nat->Nat->Option (Nat × Nat)) : ∀ l : List V,(renL ρ l).length = l.length
 | []=>rfl
 | v :: l=>by simp [renL,length_renL ρ l]
theorem nthB_filter_map (p : Nat->Bool) (f : Nat->Blk->Blk) : ∀ (hp : Heap) (i : Nat),nthB ((hp.filter fun x=>p x.1).map fun x=>(x.1,f x.1 x.2)) i = if p i = true then (nthB hp i).map (f i) else none
 | [],i=>by simp [nthB,look]
 | (j,b) :: r,i=>by
  have ih:=nthB_filter_map p f r i
  simp only [nthB] at ih ⊢
  by_cases hj : p j = true
  ·rw [List.filter_cons_of_pos (by simpa using hj)]
   simp only [List.map_cons,look]
   by_cases hji : Nat.beq j i = true
   ·have:=Nat.eq_of_beq_eq_true hji
    subst this
    rw [if_pos hji,if_pos hji,if_pos hj]; rfl
   ·rw [if_neg hji,if_neg hji]; exact ih
  ·rw [List.filter_cons_of_neg (by simpa using hj)]
   simp only [look]
   by_cases hji : Nat.beq j i = true
   ·have:=Nat.eq_of_beq_eq_true hji
    subst this
    rw [ih,if_neg hj,if_neg hj]
   ·rw [if_neg hji]; exact ih
theorem im_tidy (ρ : Nat->Nat->Option (Nat × Nat)) (i : Nat) (b : Blk) (m : Nat) : (verT C i (renB ρ b)).im m ↔ b.im m:=by
 cases b <;> exact Iff.rfl
theorem BlkOk.tidy {ρ : Nat->Nat->Option (Nat × Nat)} {hp2 : Heap} (hM : Mv ρ G (G.withHp hp2)) {i : Nat} {blk : Blk} (h : BlkOk G i blk) : BlkOk (G.withHp hp2) i (verT C i (renB ρ blk)):=by
 cases blk with
 | cell t v z =>
  obtain ⟨b,arr,ty,g1,g2,g3⟩:=h
  exact ⟨b,arr,ty,g1,g2,g3.ren hM⟩
 | buf t l ver z =>
  rcases h with ⟨b,arr,ty,css,cap,rest,g1,g2,g3,g4,g5,g6,g7,g8⟩ | ⟨g1,g2,g3,g4⟩
  ·exact .inl ⟨b,arr,ty,css,cap,rest,g1,g2,g3,g4.mono fun _ _ h=>h.ext hM.env,g5,g6,g7,g8⟩
  ·exact .inr ⟨g1,g2,g3.ext hM.env,g4⟩
 | map k v l =>
  obtain ⟨b,es,clock,g1,g2,g3,g4⟩:=h
  exact ⟨b,es,clock,g1,g2,g3.mono fun _ _ h=>⟨h.1.ext hM.env,h.2.ext hM.env⟩,g4⟩
structure Lent (C : Ctx) (G0 : GE) : Prop where
 low : ∀ i blk,nthB G0.hp i = some blk->Nat.blt i C.base = true
 fst : ∀ i t l v z,nthB G0.hp i = some (.buf t l v z)->v = 0
theorem Rel.tidy (h0 : Lent C G0) (h : Rel G0 S a w β σ) (l : List Nat) : Rel G0 (tidy C l S) a w β σ:=by
 have key : ∀ (R : List Nat) (hpn : Heap),(∀ i,nthB hpn i = if (Nat.blt i C.base || mem R i) = true then (nthB S.hp i).map fun b=>verT C i (renB (keepN C R S.hp) b) else none)->Rel G0 ⟨renL (keepN C R S.hp) (keepF l 0 S.fr),hpn⟩ a w β σ:=by
  intro R hpn hp2
  have old : ∀ {i b2},nthB hpn i = some b2->∃ b,nthB S.hp i = some b /\ b2 = verT C i (renB (keepN C R S.hp) b):=fun {i b2} hb=>by
   rw [hp2] at hb
   split at hb
   ·obtain ⟨b,e1,e2⟩:=Option.map_eq_some_iff.1 hb
    exact ⟨b,e1,e2.symm⟩
   ·cases hb
  have hE : Ext (GE.env (G0.at w β σ S.hp)) (GE.env (G0.at w β σ hpn)):=by
   refine ⟨fun b m ⟨k1,k2,k3⟩=>⟨k1,k2,fun id blk hb hβ=>?_⟩,fun _ _ _ _ _=>rfl⟩
   obtain ⟨b0,e1,rfl⟩:=old hb
   exact (im_tidy _ _ _ _).2 (k3 id b0 e1 hβ)
  have hM : Mv (keepN C R S.hp) (G0.at w β σ S.hp) (G0.at w β σ hpn):=by
   refine ⟨hE,fun id ver j u blk hρ hb=>?_⟩
   unfold keepN at hρ
   split at hρ
   ·rename_i hk
    have hb' : nthB S.hp id = some blk:=hb
    rw [hb'] at hρ
    have hn : nthB hpn id = some (verT C id (renB (keepN C R S.hp) blk)):=by rw [hp2,if_pos hk,hb']; rfl
    cases blk with
    | cell t v z=>cases hρ; exact ⟨_,hn,rfl,rfl⟩
    | map k v l=>cases hρ; exact ⟨_,hn,rfl,rfl,rfl⟩
    | buf t l c z =>
     simp only at hρ
     split at hρ
     ·rename_i hvc
      cases hρ
      exact ⟨_,hn,fun _=>Nat.le_refl _,fun _ _=>⟨Nat.eq_of_beq_eq_true hvc,rfl,rfl,rfl,Nat.le_refl _⟩⟩
     ·cases hρ
   ·cases hρ
  have hnm : ∀ b,(G0.at w β σ hpn).named b->(G0.at w β σ S.hp).named b:=fun b ⟨id,blk,hb,hβ⟩=>by
   obtain ⟨b0,e1,_⟩:=old hb
   exact ⟨id,b0,e1,hβ⟩
  refine ⟨⟨⟨h.tr.keep.env.trans hE,fun id ver j u blk hρ hb=>?_⟩,h.tr.os,h.tr.tape,h.tr.output,h.tr.size,h.tr.frame,fun b hb=>h.tr.own b (hnm b hb)⟩,⟨h.ok.glob.ext hE,fun id blk hb=>?_,fun id id' blk blk' b hb hb'=>?_,fun b hb=>h.ok.own b (hnm b hb),h.ok.base⟩,h.defers,?_,fun i v hv=>?_⟩
  ·simp only [stay,Option.some.injEq,Prod.mk.injEq] at hρ
   obtain ⟨rfl,rfl⟩:=hρ
   have hlow:=h0.low _ _ hb
   obtain ⟨blk2,q1,q2⟩:=h.tr.keep.blk id ver id ver blk rfl hb
   have q1' : nthB S.hp id = some blk2:=q1
   refine ⟨verT C id (renB (keepN C R S.hp) blk2),?_,?_⟩
   ·show nthB hpn id = _
    rw [hp2,hlow,Bool.true_or,if_pos rfl,q1']; rfl
   ·cases blk with
    | cell t v z=>cases blk2 with
     | cell t2 v2 z2=>exact q2
     | buf _ _ _ _=>exact q2.elim
     | map _ _ _=>exact q2.elim
    | map k v l=>cases blk2 with
     | map _ _ _=>exact q2
     | cell _ _ _=>exact q2.elim
     | buf _ _ _ _=>exact q2.elim
    | buf t l c z=>cases blk2 with
     | buf t2 l2 c2 z2 =>
      have hc:=h0.fst _ _ _ _ _ hb
      subst hc
      have hv : firstV C id = 1:=by unfold firstV; rw [hlow]
      refine ⟨fun hv0=>?_,fun hv0 he=>?_⟩
      ·rw [hv]; omega
      ·rw [hv] at he; omega
     | cell _ _ _=>exact q2.elim
     | map _ _ _=>exact q2.elim
  ·obtain ⟨b0,e1,rfl⟩:=old hb
   exact (h.ok.blk id b0 e1).tidy hM
  ·obtain ⟨b0,e1,_⟩:=old hb
   obtain ⟨b0',e1',_⟩:=old hb'
   exact h.ok.inj id id' b0 b0' b e1 e1'
  ·simp only [length_renL,length_keepF]; exact h.size
  ·simp only [nth_renL]
   rw [nth_keepF]
   refine AtV.ren hM _ _ ?_
   split
   ·exact (h.fr i v hv).sane
   ·exact .any
 unfold Bx.tidy
 generalize closeN S.hp 6 _ = R
 exact key R _ (nthB_filter_map (fun i=>Nat.blt i C.base || mem R i) (fun i b=>verT C i (renB (keepN C R S.hp) b)) S.hp)
theorem nthB_map (f : Blk->Blk) : ∀ (hp : Heap) (i : Nat),nthB (hp.map fun x=>(x.1,f x.2)) i = (nthB hp i).map f
 | [],i=>rfl
 | (a,b) :: r,i=>by
  have ih:=nthB_map f r i
  unfold nthB at ih ⊢
  simp only [List.map_cons,look]
  by_cases h : Nat.beq a i = true
  ·rw [if_pos h,if_pos h]; rfl
  ·rw [if_neg h,if_neg h]; exact ih
theorem Rel.name (h0 : Lent C G0) (h : Rel G0 S a w β σ) {j cur i : Nat} {t : Ty} {l : List t.den} {z : Bool} (hj : nthB S.hp j = some (.buf t l cur z)) (hf : nthB S.hp i = none) (hlow : ¬ Nat.blt i C.base = true) :
  Rel G0 (nameS j cur i t l z S) a w (upd (upd β j none) i (β j)) (upd (upd σ j (.slice none 0 0)) i (σ j)):=by
 have hij : i ≠ j:=fun e=>by rw [e,hj] at hf; cases hf
 have hji : j ≠ i:=fun e=>hij e.symm
 have hn : ∀ k,nthB (nameS j cur i t l z S).hp k = if k = i then some (.buf t l 0 z) else if k = j then some (.buf t [] (cur + 1) z) else (nthB S.hp k).map (renB (mvN j cur i)):=fun k=>by
  unfold nameS
  simp only []
  rw [look_set,look_set,nthB_map]
 have hbi : upd (upd β j none) i (β j) i = β j:=upd_same _ _ _
 have hbj : upd (upd β j none) i (β j) j = none:=by rw [upd_ne _ _ hji]; exact upd_same _ _ _
 have hbk : ∀ k,k ≠ i->k ≠ j->upd (upd β j none) i (β j) k = β k:=fun k h1 h2=>by rw [upd_ne _ _ h1,upd_ne _ _ h2]
 have hsi : upd (upd σ j (.slice none 0 0)) i (σ j) i = σ j:=upd_same _ _ _
 have hsj : upd (upd σ j (.slice none 0 0)) i (σ j) j = .slice none 0 0:=by rw [upd_ne _ _ hji]; exact upd_same _ _ _
 have hsk : ∀ k,k ≠ i->k ≠ j->upd (upd σ j (.slice none 0 0)) i (σ j) k = σ k:=fun k h1 h2=>by rw [upd_ne _ _ h1,upd_ne _ _ h2]
 generalize hB : upd (upd β j none) i (β j) = β' at *
 generalize hS : upd (upd σ j (.slice none 0 0)) i (σ j) = σ' at *
 generalize hH : (nameS j cur i t l z S).hp = hp' at *
 have old : ∀ {k b2},nthB hp' k = some b2->k ≠ i->k ≠ j->∃ b,nthB S.hp k = some b /\ b2 = renB (mvN j cur i) b:=fun {k b2} hb h1 h2=>by
  rw [hn,if_neg h1,if_neg h2] at hb
  obtain ⟨b,e1,e2⟩:=Option.map_eq_some_iff.1 hb
  exact ⟨b,e1,e2.symm⟩
 have ati : ∀ {b2},nthB hp' i = some b2->b2 = .buf t l 0 z:=fun hb=>by rw [hn,if_pos rfl] at hb; cases hb; rfl
 have atj : ∀ {b2},nthB hp' j = some b2->b2 = .buf t [] (cur + 1) z:=fun hb=>by rw [hn,if_neg hji,if_pos rfl] at hb; cases hb; rfl
 have hE : Ext (GE.env (G0.at w β σ S.hp)) (GE.env (G0.at w β' σ' hp')):=by
  refine ⟨fun b m ⟨k1,k2,k3⟩=>⟨k1,k2,fun id blk hb hβ=>?_⟩,fun _ _ _ _ _=>rfl⟩
  have hb : nthB hp' id = some blk:=hb
  have hβ : β' id = some b:=hβ
  by_cases e1 : id = i
  ·subst e1
   have:=ati hb
   subst this
   rw [hbi] at hβ
   have:=k3 j (.buf t l cur z) hj hβ
   exact this
  ·by_cases e2 : id = j
   ·subst e2
    rw [hbj] at hβ; cases hβ
   ·obtain ⟨b0,q1,rfl⟩:=old hb e1 e2
    rw [hbk id e1 e2] at hβ
    have:=k3 id b0 q1 hβ
    cases b0 <;> exact this
 have hM : Mv (mvN j cur i) (G0.at w β σ S.hp) (G0.at w β' σ' hp'):=by
  refine ⟨hE,fun id ver j' u blk hρ hb=>?_⟩
  have hb : nthB S.hp id = some blk:=hb
  have hni : id ≠ i:=fun e=>by rw [e,hf] at hb; cases hb
  unfold mvN at hρ
  by_cases e2 : id = j
  ·subst e2
   rw [hj] at hb; cases hb
   by_cases e3 : ver = cur
   ·subst e3
    rw [Nat.beq_refl,Nat.beq_refl] at hρ
    cases hρ
    refine ⟨.buf t l 0 z,?_,fun _=>Nat.le_refl _,fun _ _=>⟨rfl,rfl,?_,?_,Nat.le_refl _⟩⟩
    ·show nthB hp' i = _
     rw [hn,if_pos rfl]
    ·exact hbi
    ·exact hsi
   ·have hv : (Nat.beq id id && Nat.beq ver cur) = false:=by
     rw [Bool.and_eq_false_iff]; right
     cases hq : Nat.beq ver cur with
     | false=>rfl
     | true=>exact absurd (Nat.eq_of_beq_eq_true hq) e3
    rw [hv] at hρ
    cases hρ
    refine ⟨.buf t [] (cur + 1) z,?_,fun hv=>Nat.le_succ_of_le hv,fun hv he=>?_⟩
    ·show nthB hp' _ = _
     rw [hn,if_neg hni,if_pos rfl]
    ·omega
  ·have hv : (Nat.beq id j && Nat.beq ver cur) = false:=by
    rw [Bool.and_eq_false_iff]; left
    cases hq : Nat.beq id j with
    | false=>rfl
    | true=>exact absurd (Nat.eq_of_beq_eq_true hq) e2
   rw [hv] at hρ
   cases hρ
   refine ⟨renB (mvN j cur i) blk,?_,?_⟩
   ·show nthB hp' _ = _
    rw [hn,if_neg hni,if_neg e2,hb]; rfl
   ·cases blk with
    | cell t v z=>exact ⟨rfl,hbk _ hni e2⟩
    | map k v l=>exact ⟨rfl,rfl,hbk _ hni e2⟩
    | buf t l c z=>exact ⟨fun hv=>hv,fun _ he=>⟨he,rfl,hbk _ hni e2,hsk _ hni e2,Nat.le_refl _⟩⟩
 have hnm : ∀ b,(G0.at w β' σ' hp').named b->(G0.at w β σ S.hp).named b:=fun b ⟨id,blk,hb,hβ⟩=>by
  have hb : nthB hp' id = some blk:=hb
  have hβ : β' id = some b:=hβ
  by_cases e1 : id = i
  ·subst e1; rw [hbi] at hβ; exact ⟨j,_,hj,hβ⟩
  ·by_cases e2 : id = j
   ·subst e2; rw [hbj] at hβ; cases hβ
   ·obtain ⟨b0,q1,_⟩:=old hb e1 e2
    rw [hbk id e1 e2] at hβ
    exact ⟨id,b0,q1,hβ⟩
 have hfr : (nameS j cur i t l z S).fr = renL (mvN j cur i) S.fr:=rfl
 refine ⟨?_,?_,h.defers,?_,fun k v hv=>?_⟩
 ·rw [hH]
  refine ⟨⟨h.tr.keep.env.trans hE,fun id ver j' u blk hρ hb=>?_⟩,h.tr.os,h.tr.tape,h.tr.output,h.tr.size,h.tr.frame,fun b hb=>h.tr.own b (hnm b hb)⟩
  simp only [stay,Option.some.injEq,Prod.mk.injEq] at hρ
  obtain ⟨rfl,rfl⟩:=hρ
  have hlo:=h0.low _ _ hb
  obtain ⟨blk2,q1,q2⟩:=h.tr.keep.blk id ver id ver blk rfl hb
  have q1 : nthB S.hp id = some blk2:=q1
  have hni : id ≠ i:=fun e=>hlow (by rw [<- e]; exact hlo)
  by_cases e2 : id = j
  ·subst e2
   rw [hj] at q1; cases q1
   refine ⟨.buf t [] (cur + 1) z,?_,?_⟩
   ·show nthB hp' _ = _
    rw [hn,if_neg hni,if_pos rfl]
   ·cases blk with
    | cell _ _ _=>exact q2.elim
    | map _ _ _=>exact q2.elim
    | buf t0 l0 c0 z0 =>
     have hc:=h0.fst _ _ _ _ _ hb
     subst hc
     exact ⟨fun hv=>by omega,fun hv he=>by omega⟩
  ·refine ⟨renB (mvN j cur i) blk2,?_,?_⟩
   ·show nthB hp' _ = _
    rw [hn,if_neg hni,if_neg e2,q1]; rfl
   ·have hb1 : (G0.at w β' σ' hp').β id = (G0.at w β σ S.hp).β id:=hbk id hni e2
    have hs1 : (G0.at w β' σ' hp').σ id = (G0.at w β σ S.hp).σ id:=hsk id hni e2
    cases blk <;> cases blk2 <;> simp only [SameB,renB] at q2 ⊢ <;> (first | exact q2.elim | (rw [hb1]; exact q2) | (rw [hb1,hs1]; exact q2))
 ·rw [hH]
  refine ⟨h.ok.glob.ext hE,fun id blk hb=>?_,fun id id' blk blk' b hb hb' hβ hβ'=>?_,fun b hb=>h.ok.own b (hnm b hb),h.ok.base⟩
  ·have hb : nthB hp' id = some blk:=hb
   by_cases e1 : id = i
   ·subst e1
    have:=ati hb
    subst this
    rcases h.ok.blk j _ hj with ⟨b,arr,ty,css,cap,rest,g1,g2,g3,g4,g5,g6,g7,g8⟩ | ⟨g1,g2,g3,g4⟩
    ·exact .inl ⟨b,arr,ty,css,cap,rest,hbi.trans g1,hsi.trans g2,g3,g4.mono fun _ _ h=>h.ext hE,g5,g6,g7,g8⟩
    ·refine .inr ⟨hbi.trans g1,g2,?_,?_⟩
     ·show FlatD _ (.sl t) l [σ' id]
      rw [hsi]; exact g3.ext hE
     ·show ∃ a n,σ' id = .slice a n n
      rw [hsi]; exact g4
   ·by_cases e2 : id = j
    ·subst e2
     have:=atj hb
     subst this
     refine .inr ⟨hbj,.inr rfl,?_,⟨none,0,hsj⟩⟩
     show FlatD _ (.sl t) [] [σ' id]
     rw [hsj]
     exact .inl ⟨rfl,rfl⟩
    ·obtain ⟨b0,q1,rfl⟩:=old hb e1 e2
     have hb1 : β' id = β id:=hbk id e1 e2
     have hs1 : σ' id = σ id:=hsk id e1 e2
     have ho:=h.ok.blk id b0 q1
     cases b0 with
     | cell t v z =>
      obtain ⟨b,arr,ty,g1,g2,g3⟩:=ho
      exact ⟨b,arr,ty,hb1.trans g1,g2,g3.ren hM⟩
     | buf t l ver z =>
      rcases ho with ⟨b,arr,ty,css,cap,rest,g1,g2,g3,g4,g5,g6,g7,g8⟩ | ⟨g1,g2,g3,g4⟩
      ·exact .inl ⟨b,arr,ty,css,cap,rest,hb1.trans g1,hs1.trans g2,g3,g4.mono fun _ _ h=>h.ext hE,g5,g6,g7,g8⟩
      ·refine .inr ⟨hb1.trans g1,g2,?_,?_⟩
       ·show FlatD _ (.sl t) l [σ' id]
        rw [hs1]; exact g3.ext hE
       ·show ∃ a n,σ' id = .slice a n n
        rw [hs1]; exact g4
     | map k v l =>
      obtain ⟨b,es,clock,g1,g2,g3,g4⟩:=ho
      exact ⟨b,es,clock,hb1.trans g1,g2,g3.mono fun _ _ h=>⟨h.1.ext hE,h.2.ext hE⟩,g4⟩
  ·have hb : nthB hp' id = some blk:=hb
   have hb' : nthB hp' id' = some blk':=hb'
   have hβ : β' id = some b:=hβ
   have hβ' : β' id' = some b:=hβ'
   have step : ∀ {k bk},nthB hp' k = some bk->β' k = some b->(k = i /\ β j = some b) \/ (k ≠ i /\ k ≠ j /\ β k = some b /\ ∃ b0,nthB S.hp k = some b0):=fun {k bk} hk hkb=>by
    by_cases e1 : k = i
    ·subst e1; rw [hbi] at hkb; exact .inl ⟨rfl,hkb⟩
    ·by_cases e2 : k = j
     ·subst e2; rw [hbj] at hkb; cases hkb
     ·obtain ⟨b0,q1,_⟩:=old hk e1 e2
      rw [hbk k e1 e2] at hkb
      exact .inr ⟨e1,e2,hkb,b0,q1⟩
   rcases step hb hβ with ⟨rfl,k1⟩ | ⟨n1,n2,k1,b0,q1⟩ <;> rcases step hb' hβ' with ⟨e',k2⟩ | ⟨m1,m2,k2,b1,q2⟩
   ·exact e'.symm
   ·exact absurd (h.ok.inj j id' _ b1 b hj q2 k1 k2).symm m2
   ·exact absurd (h.ok.inj id j b0 _ b q1 hj k1 k2) n2
   ·exact h.ok.inj id id' b0 b1 b q1 q2 k1 k2
 ·rw [hfr,length_renL]; exact h.size
 ·rw [hfr,hH,nth_renL]
  exact AtV.ren hM _ _ (h.fr k v hv)
theorem lay_self : ∀ {cs cs1 : List Value} {o : Nat},(∀ j x,cs1[j]? = some x->cs[o + j]? = some x)->o + cs1.length <= cs.length->lay cs o cs1 = cs:=by
 intro cs cs1 o h hl
 unfold lay
 apply List.ext_getElem?
 intro j
 rw [List.getElem?_append,List.getElem?_append]
 simp only [List.length_append,List.length_take,List.getElem?_take,List.getElem?_drop]
 by_cases h1 : j < o
 ·rw [if_pos (by omega),if_pos (by omega),if_pos h1]
 ·by_cases h2 : j < o + cs1.length
  ·rw [if_pos (by omega),if_neg (by omega)]
   have hj : j - min o cs.length < cs1.length:=by omega
   rw [List.getElem?_eq_getElem hj]
   have:=h _ _ (List.getElem?_eq_getElem hj)
   rw [show o + (j - min o cs.length) = j by omega] at this
   exact this.symm
  ·rw [if_neg (by omega)]
   rw [show o + cs1.length + (j - (min o cs.length + cs1.length)) = j by omega]
theorem modV_at (f : V->V) : ∀ (p : List Nat) {v v' : V} {x : Value} {tm : Array Value},AtV G tm v x->modV f p v = some v' ->
  ∃ y tm',AtV G tm' (partV p v) y /\ ∀ G',Keep G G'->AtV G' tm' (f (partV p v)) y->AtV G' tm v' x
 | [],v,v',x,tm,h,hm=>by
  simp only [modV,Option.some.injEq] at hm
  subst hm
  exact ⟨x,tm,h,fun _ _ h=>h⟩
 | j :: p,v,v',x,tm,h,hm=>by
  unfold modV at hm
  split at hm
  ·rename_i e; cases e
  ·rename_i j' p' t l e
   cases e
   split at hm
   ·rename_i hjl
    split at hm
    ·rename_i z u hz hu
     split at hm
     ·rename_i hf
      cases hm
      simp only [AtV] at h
      obtain ⟨cs,rfl,hfl⟩:=h
      obtain ⟨o,ho⟩:=fld_off hu
      obtain ⟨a,o1,o2,cs1,g1,g2,g3,g4,g5,g6,g7⟩:=hfl.part (p:=[]) ho
      obtain ⟨e1,e2⟩:=offT_nil g1
      subst e2
      obtain ⟨y,ey,hy,_⟩:=AtV.ofFlatV g4
      obtain ⟨y',tm',k1,k2⟩:=modV_at f p hy hz
      refine ⟨y',tm',by simpa only [partV] using k1,fun G' hK hfy=>?_⟩
      have hz':=k2 G' hK (by simpa only [partV] using hfy)
      obtain ⟨q1,_⟩:=fits_flat hf hz'
      rw [<- ey] at q1
      have hfl' : FlatL G' t l cs.toList:=by
       have:=FlatL.ren (ρ:=stay) hK t l cs.toList hfl
       rwa [renL_stay] at this
      obtain ⟨a',o1',o2',cs1',g1',g2',g3',g4',g5',g6',g7'⟩:=hfl'.part (p:=[]) ho
      obtain ⟨e1',e2'⟩:=offT_nil g1'
      subst e2'
      have ho1 : o1' = o1:=by omega
      subst ho1
      have hl1 : cs1.length = cs1'.length:=by rw [g4.length,g4'.length]
      have hcs : cs1' = cs1:=by
       apply List.ext_getElem?
       intro i
       by_cases hi : i < cs1.length
       ·have a1:=g5 i _ (List.getElem?_eq_getElem hi)
        have a2:=g5' i _ (List.getElem?_eq_getElem (hl1 ▸ hi))
        rw [List.getElem?_eq_getElem hi,List.getElem?_eq_getElem (hl1 ▸ hi),<- a1,<- a2]
       ·rw [List.getElem?_eq_none (by omega),List.getElem?_eq_none (by omega)]
      subst hcs
      have:=g7' z 0 cs1' (by rw [lay_zero _ _ rfl]; exact q1) (by omega)
      rw [Nat.add_zero,lay_self g5' g6'] at this
      exact mkAgg_at (by simp only [AtV]; exact ⟨cs,rfl,this⟩)
     ·cases hm
    ·cases hm
   ·cases hm
  ·cases hm
theorem setSlot_rel (h : Rel G0 S a w β σ) {i : Nat} {slot : Bool} {v' : V} {S' : St} (hset : setSlot C i slot S v' = some S')
  (h1 : slot = true->∀ x,a.tmps[i]? = some x->AtV (G0.at w β σ S.hp) a.tmps v' x)
  (h2 : slot = false->∀ b arr ty t v z,nthB S.hp i = some (.cell t v z)->β i = some b->w.heap[b]? = some (.cells arr ty (0,0))->fits t v' = true->FlatV (G0.at w β σ S.hp) t v' arr.toList) : Rel G0 S' a w β σ:=by
 unfold setSlot at hset
 cases slot with
 | true =>
  cases hset
  refine ⟨h.tr,h.ok,h.defers,by simpa using h.size,fun j x hx=>?_⟩
  simp only
  rw [nth_set]
  split
  ·rename_i he
   obtain ⟨rfl,_⟩:=he
   exact h1 rfl x hx
  ·exact h.fr j x hx
 | false =>
  simp only at hset
  split at hset
  ·rename_i t v z hb
   split at hset
   ·rename_i hf
    cases hset
    have hb' : nthB (G0.at w β σ S.hp).hp i = some (.cell t v z):=hb
    obtain ⟨b,arr,ty,g1,g2,g3⟩:=h.ok.cell hb'
    have hv:=h2 rfl b arr ty t v z hb g1 g2 hf
    obtain ⟨t1,k1⟩:=h.ok.turn (blk':=.cell t v' z) hb' (w':=w) rfl rfl rfl rfl (fun _ _=>rfl) (fun m hm=>hm) (fun _ _ _ _ _ _=>rfl) ⟨⟨rfl,rfl⟩,fun _=>⟨rfl,rfl⟩⟩ (fun _ hK=>⟨b,arr,ty,g1,g2,hv.ext hK⟩)
    exact ⟨h.tr.trans t1,k1,h.defers,h.size,fun j x hx=>(h.fr j x hx).ext t1.keep⟩
   ·cases hset
  ·cases hset
theorem like_cell {hp hp' : Heap} (h : Like hp hp') {i : Nat} {t t' : Ty} {v v' : V} {z z' : Bool} (h1 : nthB hp i = some (.cell t v z)) (h2 : nthB hp' i = some (.cell t' v' z')) : t' = t /\ v' = v:=by
 rcases h i with e | ⟨b,e1,e2⟩
 ·rw [e,h1] at h2; cases h2; exact ⟨rfl,rfl⟩
 ·rw [h1] at e1; cases e1
  rw [e2] at h2; cases h2; exact ⟨rfl,rfl⟩
theorem partV_any {p : List Nat} {t : Ty} {l : List t.den} (h : partV p .any = .full t l) : False:=by
 cases p <;> simp [partV] at h
theorem norm1_sound (h0 : Lent C G0) (h : Behind G0 S a w) {n : Norm} {S' : St} (hn : norm1 C S n = some S') : Behind G0 S' a w:=by
 obtain ⟨β,σ,h⟩:=h
 have slotT : ∀ {i v},slotOf C i true S = some v->v = sane (nth S.fr i):=fun {i v} hs=>by simp only [slotOf,Option.some.injEq] at hs; exact hs.symm
 have slotF : ∀ {i v},slotOf C i false S = some v->∃ t z,nthB S.hp i = some (.cell t v z):=fun {i v} hs=>by
  unfold slotOf at hs
  simp only at hs
  split at hs
  ·rename_i t v' z hb; cases hs; exact ⟨t,z,hb⟩
  ·cases hs
 cases n with
 | dat slot i p =>
  simp only [norm1] at hn
  split at hn
  ·rename_i v hs
   split at hn
   ·rename_i v' hm
    obtain ⟨t1,k1⟩:=frz_tr (partV p v) (G0.at w β σ S.hp) h.ok
    have h1 : Rel G0 ⟨S.fr,frz S.hp (partV p v)⟩ a w β σ:=⟨h.tr.trans t1,k1,h.defers,h.size,fun j x hx=>(h.fr j x hx).ext t1.keep⟩
    have hrd : ∀ {tm y},AtV (G0.at w β σ S.hp) tm (partV p v) y->AtV (G0.at w β σ (frz S.hp (partV p v))) tm (rdD S.hp (partV p v)) y:=fun {tm y} hy=>by
     unfold rdD
     split
     ·rename_i t z hr
      have:=rd_frz (partV p v) (G0.at w β σ S.hp) h.ok hy hr
      simp only [AtV]; exact this
     ·exact .any
    refine ⟨β,σ,setSlot_rel h1 hn (fun e x hx=>?_) (fun e b arr ty t v0 z hb hβ hw hf=>?_)⟩
    ·subst e
     have:=slotT hs
     subst this
     obtain ⟨y,tm',k2,k3⟩:=modV_at _ p (AtV.sane (tm':=a.tmps) (h.fr i x hx)) hm
     exact k3 _ t1.keep (hrd k2)
    ·subst e
     obtain ⟨t',z',hb'⟩:=slotF hs
     obtain ⟨rfl,rfl⟩:=like_cell (like_frz (partV p v) S.hp) hb' hb
     obtain ⟨b2,arr2,ty2,g1,g2,g3⟩:=h.ok.cell (G:=G0.at w β σ S.hp) hb'
     have g1 : β i = some b2:=g1
     have g2 : w.heap[b2]? = some (.cells arr2 ty2 (0,0)):=g2
     rw [g1] at hβ; cases hβ
     rw [g2] at hw; cases hw
     obtain ⟨x,ex,_,hx⟩:=g3
     obtain ⟨y,tm',k2,k3⟩:=modV_at _ p hx hm
     rw [ex]
     exact (fits_flat hf (k3 _ t1.keep (hrd k2))).1
   ·cases hn
  ·cases hn
 | melt slot i p id z =>
  simp only [norm1] at hn
  split at hn
  ·rename_i v hs
   split at hn
   ·rename_i t l hp
    split at hn
    ·rename_i hc
     simp only [Bool.and_eq_true,Bool.or_eq_true,List.isEmpty_iff] at hc
     split at hn
     ·rename_i v' hm
      have hfree:=free_none hc.1
      have pre : ∃ x tm0,AtV (G0.at w β σ S.hp) tm0 v x /\ (slot = true->a.tmps[i]? = some x /\ tm0 = a.tmps) /\ (slot = false->∃ t0 z0 b arr ty,nthB S.hp i = some (.cell t0 v z0) /\ β i = some b /\ w.heap[b]? = some (.cells arr ty (0,0)) /\ arr.toList = x.cells.toList):=by
       cases slot with
       | true =>
        have:=slotT hs
        subst this
        cases hx : a.tmps[i]? with
        | none =>
         exfalso
         have hge : S.fr.length <= i:=by rw [<- h.size]; exact Array.getElem?_eq_none_iff.1 hx
         rw [nth_of_ge hge] at hp
         exact partV_any hp
        | some x=>exact ⟨x,a.tmps,AtV.sane (h.fr i x hx),fun _=>⟨rfl,rfl⟩,fun e=>by cases e⟩
       | false =>
        obtain ⟨t',z',hb'⟩:=slotF hs
        obtain ⟨b2,arr2,ty2,g1,g2,g3⟩:=h.ok.cell (G:=G0.at w β σ S.hp) hb'
        obtain ⟨x,ex,_,hx⟩:=g3
        exact ⟨x,#[],hx,(fun e=>by cases e),fun _=>⟨t',z',b2,arr2,ty2,hb',g1,g2,ex⟩⟩
      obtain ⟨x,tm0,hx,pT,pF⟩:=pre
      obtain ⟨y,tm',k2,k3⟩:=modV_at _ p hx hm
      rw [hp] at k2
      simp only [AtV] at k2
      obtain ⟨t1,q1,q2⟩:=h.ok.sameBuf (id:=C.base + id) (ver:=0) (fun blk hb=>by
       have hb : nthB S.hp (C.base + id) = some blk:=hb
       rw [hfree] at hb; cases hb) k2.1 k2.2 (z:=z) hc.2
      have h1 : Rel G0 ⟨S.fr,setB S.hp (C.base + id) (.buf t l 0 z)⟩ a w (upd β (C.base + id) none) (upd σ (C.base + id) y):=⟨h.tr.trans t1,q1,h.defers,h.size,fun j x hx=>(h.fr j x hx).ext t1.keep⟩
      refine ⟨_,_,setSlot_rel h1 hn (fun e x' hx'=>?_) (fun e b arr ty t0 v0 z0 hb hβ hw hf=>?_)⟩
      ·obtain ⟨e1,rfl⟩:=pT e
       rw [e1] at hx'; cases hx'
       exact k3 _ t1.keep (by simp only [AtV]; exact q2)
      ·obtain ⟨t',z',b2,arr2,ty2,g1,g2,g3,g4⟩:=pF e
       have hne : i ≠ C.base + id:=fun e'=>by rw [e',hfree] at g1; cases g1
       rw [look_set,if_neg hne,g1] at hb
       cases hb
       rw [upd_ne _ _ hne,g2] at hβ; cases hβ
       rw [g3] at hw; cases hw
       rw [g4]
       exact (fits_flat hf (k3 _ t1.keep (by simp only [AtV]; exact q2))).1
     ·cases hn
    ·cases hn
   ·cases hn; exact ⟨β,σ,h⟩
   ·cases hn
  ·cases hn
 | tid l =>
  simp only [norm1,Option.some.injEq] at hn
  subst hn
  exact ⟨β,σ,h.tidy h0 l⟩
 | name slot i p id =>
  simp only [norm1] at hn
  split at hn
  ·split at hn
   ·split at hn
    ·rename_i j ver t l cur z hb
     split at hn
     ·cases hn; exact ⟨β,σ,h⟩
     ·rename_i hfr
      cases hn
      exact ⟨_,_,h.name h0 hb (free_none hfr) (by simp [Nat.blt_eq])⟩
     ·cases hn
    ·cases hn
   ·cases hn
  ·cases hn
theorem norms_sound (h0 : Lent C G0) : ∀ (ns : List Norm) {S S' : St},Behind G0 S a w->norms C ns S = some S'->Behind G0 S' a w
 | [],S,S',h,hn=>by cases hn; exact h
 | n :: ns,S,S',h,hn=>by
  simp only [norms] at hn
  split at hn
  ·rename_i S1 h1; exact norms_sound h0 ns (norm1_sound h0 h h1) hn
  ·cases hn
theorem clean_sound (h0 : Lent C G0) (h : Behind G0 S a w) {α : Type} {key : Nat} {K : St->Option α} {r : α} (hk : clean C key S K = some r) : ∃ S',K S' = some r /\ Behind G0 S' a w:=by
 unfold clean at hk
 split at hk
 ·exact ⟨S,hk,h⟩
 ·split at hk
  ·obtain ⟨β,σ,h⟩:=h
   exact ⟨_,hk,β,σ,h.tidy h0 _⟩
  ·split at hk
   ·rename_i S1 hn
    obtain ⟨β,σ,h⟩:=norms_sound h0 _ h hn
    exact ⟨_,hk,β,σ,h.tidy h0 _⟩
   ·cases hk
end
end Go.Bx
namespace Go.Bx
set_option linter.unusedVariables false
set_option linter.unusedSimpArgs false
open Go Go.RowKit
def drawsOk : Code->Bool
 | .region _ ops draw=>!draw || drawOk ops
 | .seq a b=>drawsOk a && drawsOk b
 | .cond _ a b=>drawsOk a && drawsOk b
 | .block _ a=>drawsOk a
 | .loop a=>drawsOk a
 | .scope a=>drawsOk a
 | _=>true
section
variable {P : Program} {C : Ctx} {G0 : GE}
structure QOk (G0 : GE) {α : Type} (Q : Ex->St->Option α) (r : α) (Q' : Exit->Act->World->Prop) : Prop where
 normal : ∀ S a w,Q .normal S = some r->Behind G0 S a w->Q' .normal a w
 exit : ∀ id S a w,Q (.exit id) S = some r->Behind G0 S a w->Q' (.exit id) a w
 ret : ∀ S a w,Q .ret S = some r->Behind G0 S a w->Q' .ret a w
theorem den_sound (hC : CtxOk P C) (hm : P.follows .mixedOrders = true) (h0 : Lent C G0) (k : Nat) {α : Type} {r : α} : ∀ (c : Code),drawsOk c = true->∀ (Q : Ex->St->Option α) (Q' : Exit->Act->World->Prop) (S : St) (a : Act) (w : World),QOk G0 Q r Q' ->
  den C k c Q S = some r->Behind G0 S a w->c.wp P Q' a w
 | .skip,_,Q,Q',S,a,w,hQ,h,hB=>wp_skip (hQ.normal S a w h hB)
 | .label _,_,Q,Q',S,a,w,hQ,h,hB=>wp_label (hQ.normal S a w h hB)
 | .exit id,_,Q,Q',S,a,w,hQ,h,hB=>by
  obtain ⟨S',h',hB'⟩:=clean_sound h0 hB h
  exact wp_exit (hQ.exit id _ a w h' hB')
 | .ret,_,Q,Q',S,a,w,hQ,h,hB=>by
  obtain ⟨S',h',hB'⟩:=clean_sound h0 hB h
  exact wp_ret (hQ.ret _ a w h' hB')
 | .region id ops draw,hd,Q,Q',S,a,w,hQ,h,hB=>by
  refine region_sound hC hm (K:=Q .normal) (r:=r) (fun e=>?_) (fun S a w h hB=>hQ.normal S a w h hB) ?_ hB
  ·subst e; simpa [drawsOk] using hd
  ·cases draw <;> exact h
 | .seq x y,hd,Q,Q',S,a,w,hQ,h,hB=>by
  simp only [drawsOk,Bool.and_eq_true] at hd
  refine wp_seq (den_sound hC hm h0 k x hd.1 (seqQ (fun S=>clean C (headK y) S (den C k y Q)) Q) _ S a w ⟨fun S a w h hB=>?_,fun id S a w h hB=>hQ.exit id S a w h hB,fun S a w h hB=>hQ.ret S a w h hB⟩ h hB)
  obtain ⟨S',h',hB'⟩:=clean_sound h0 hB h
  exact den_sound hC hm h0 k y hd.2 Q Q' _ a w hQ h' hB'
 | .cond c x y,hd,Q,Q',S,a,w,hQ,h,hB=>by
  simp only [drawsOk,Bool.and_eq_true] at hd
  simp only [den] at h
  split at h
  ·rename_i t heq
   obtain ⟨β,σ,hR⟩:=hB
   have he:=hR.ev c
   rw [heq] at he
   have he:=he.bool
   split at h
   ·rename_i ht
    exact wp_cond_true (by rw [he]; rw [show t = true from ht]) (den_sound hC hm h0 k x hd.1 Q Q' S a w hQ h ⟨β,σ,hR⟩)
   ·rename_i ht
    exact wp_cond_false (by rw [he]; rw [show t = false by simpa using ht]) (den_sound hC hm h0 k y hd.2 Q Q' S a w hQ h ⟨β,σ,hR⟩)
  ·cases h
 | .block id c,hd,Q,Q',S,a,w,hQ,h,hB=>by
  simp only [drawsOk] at hd
  refine wp_block (den_sound hC hm h0 k c hd (blkQ C id Q) _ S a w ⟨fun S a w h hB=>?_,fun i S a w h hB=>?_,fun S a w h hB=>hQ.ret S a w h hB⟩ h hB)
  ·obtain ⟨S',h',hB'⟩:=clean_sound h0 hB h
   exact hQ.normal _ a w h' hB'
  simp only [blkQ] at h
  show (if i = id then Q' .normal a w else Q' (.exit i) a w)
  split at h
  ·rename_i hi
   rw [if_pos (Nat.eq_of_beq_eq_true hi)]
   exact hQ.normal _ a w h hB
  ·rename_i hi
   rw [if_neg (fun e=>hi (by rw [e]; exact Nat.beq_refl id))]
   exact hQ.exit i S a w h hB
 | .loop c,hd,Q,Q',S,a,w,hQ,h,hB=>by
  simp only [drawsOk] at hd
  have key : ∀ k' S a w,iter (fun next=>den C k c (seqQ (fun S=>clean C (headK c) S next) Q)) k' S = some r->Behind G0 S a w->Code.rounds P c Q' k' a w:=by
   intro k'
   induction k' with
   | zero=>intro S a w h _; cases h
   | succ k' ih =>
    intro S a w h hB
    simp only [iter] at h
    rw [rounds_succ]
    refine den_sound hC hm h0 k c hd (seqQ (fun S=>clean C (headK c) S (iter (fun next=>den C k c (seqQ (fun S=>clean C (headK c) S next) Q)) k')) Q) _ S a w ⟨fun S a w h hB=>?_,fun id S a w h hB=>hQ.exit id S a w h hB,fun S a w h hB=>hQ.ret S a w h hB⟩ h hB
    obtain ⟨S',h',hB'⟩:=clean_sound h0 hB h
    exact ih _ a w h' hB'
  obtain ⟨S',h',hB'⟩:=clean_sound h0 hB h
  exact wp_loop_rounds k (key k _ a w h' hB')
 | .scope c,hd,Q,Q',S,a,w,hQ,h,hB=>by
  simp only [drawsOk] at hd
  exact wp_scope_straight (den_sound hC hm h0 k c hd Q (Exit.noGoto Q') S a w ⟨fun S a w h hB=>hQ.normal S a w h hB,fun id S a w h hB=>hQ.exit id S a w h hB,fun S a w h hB=>hQ.ret S a w h hB⟩ h hB)
 | .rangeFunc _ _ _ _,_,_,_,_,_,_,_,h,_=>by cases h
 | .goto _,_,_,_,_,_,_,_,h,_=>by cases h
 | .refuse _,_,_,_,_,_,_,_,h,_=>by cases h
theorem spread_length {E : Env} : ∀ {t : Ty} {x : t.den} {vs : List Value},ArgsAt E t x vs->(spread t x).length = vs.length
 | .unit,_,_,h=>by simp only [ArgsAt] at h; subst h; rfl
 | .pair a b,x,_,⟨v,r,e,_,h2⟩=>by subst e; simp [spread,spread_length h2]
 | .int _,_,_,h=>h.elim
 | .bool,_,_,h=>h.elim
 | .str,_,_,h=>h.elim
 | .sl _,_,_,h=>h.elim
 | .arr _ _,_,_,h=>h.elim
 | .opq,_,_,h=>h.elim
theorem AtL_nth {G : GE} {tm : Array Value} : ∀ {l : List V} {vs : List Value},AtL G tm l vs->∀ i x,vs[i]? = some x->AtV G tm (nth l i) x
 | [],[],_,i,x,h=>by simp at h
 | v :: l,y :: vs,h,0,x,hx=>by simp only [AtL] at h; simp at hx; subst hx; exact h.1
 | v :: l,y :: vs,h,i + 1,x,hx=>by simp only [AtL] at h; simpa [nth] using AtL_nth h.2 i x (by simpa using hx)
 | [],_ :: _,h,_,_,_=>by simp [AtL] at h
 | _ :: _,[],h,_,_,_=>by simp [AtL] at h
theorem nth_append : ∀ (l m : List V) (i : Nat),nth (l ++ m) i = if i < l.length then nth l i else nth m (i - l.length)
 | [],m,i=>by simp
 | v :: l,m,0=>by simp [nth]
 | v :: l,m,i + 1=>by simp only [List.cons_append,nth,nth_append l m i,List.length_cons,Nat.add_lt_add_iff_right,Nat.add_sub_add_right]
theorem nth_replicate : ∀ (n i : Nat),nth (List.replicate n .any) i = .any
 | 0,_=>rfl
 | _ + 1,0=>rfl
 | n + 1,i + 1=>by simpa [List.replicate_succ,nth] using nth_replicate n i
theorem bare_nil {id : Nat} {blk : Blk} (h : nthB ([] : Heap) id = some blk) : False:=by rw [nthB_nil] at h; cases h
abbrev bare (w : World) (I : Nat->Nat->Prop) : GE:=mkG w (fun _=>none) (fun _=>.nilFunc) [] I
theorem bare_env {w : World} {I : Nat->Nat->Prop} (hI : ∀ b m,I b m->b < w.heap.size) : Ext (⟨w,I⟩ : Env) (bare w I).env :=
 ⟨fun b m h=>⟨.inl h,hI b m h,fun id blk hb=>(bare_nil hb).elim⟩,fun _ _ _ _ _=>rfl⟩
theorem bare_ok {w : World} {I : Nat->Nat->Prop} (hI : Low w I) : HRel (bare w I) :=
 ⟨hI.glob.ext (bare_env hI.lt),fun id blk hb=>(bare_nil hb).elim,fun id id' blk blk' b hb=>(bare_nil hb).elim,fun b ⟨id,blk,hb,_⟩=>(bare_nil hb).elim,Nat.le_refl _⟩
theorem start_rel {F : Fn} {x : F.ps.den} {w : World} {I : Nat->Nat->Prop} (hI : Low w I) {args : Array Value} (ha : ArgsAt ⟨w,I⟩ F.ps x args.toList) {n : Nat} (_hn : args.size <= n) :
  Behind (bare w I) (start F n x) { tmps:=args ++ Array.replicate (n - args.size) undef,defers:=[] } w:=by
 have hlen : (spread F.ps x).length = args.size:=by rw [spread_length ha,Array.length_toList]
 refine ⟨fun _=>none,fun _=>.nilFunc,Tr.refl _,bare_ok hI,rfl,?_,fun i v hv=>?_⟩
 ·simp [start,startS,hlen]
 ·simp only [start,startS] at hv ⊢
  rw [nth_append]
  split
  ·rename_i hi
   have hv' : args.toList[i]? = some v:=by
    rw [Array.getElem?_append_left (by omega)] at hv
    simpa using hv
   exact AtL_nth (spread_at (G:=bare w I) (ha.ext (bare_env hI.lt))) i v hv'
  ·rw [nth_replicate]; exact .any
def rvS (tmps : Array Value) : ResultVar->Sem Value
 | .tmp t=>pure (tmps.getD t undef)
 | .cell a t=>do loadVar t (<- asAddr (tmps.getD a undef))
theorem results_rv (fn : Func) (tmps : Array Value) : results fn tmps = (do let vs <- fn.results.mapM (rvS tmps); pure (if h : vs.size = 1 then vs[0] else .tuple vs)):=by
 unfold results
 congr 1
theorem results_list {tmps : Array Value} {w : World} : ∀ {l : List ResultVar} {vs : List Value},All2 (fun r v=>(rvS tmps r).run P w = .ok v w) l vs ->
  (l.mapM (rvS tmps)).run P w = .ok vs w
 | [],[],_=>by simp
 | r :: l,v :: vs,⟨h1,h2⟩=>by
  have ih:=results_list h2
  rw [List.mapM_cons]
  simp only [Sem.run_bind,Sem.run_pure] at h1 ih ⊢
  rw [h1]
  simp only [Result.andThen_ok,ih]
section
variable {S : St} {a : Act} {w : World} {β : Nat->Option Nat} {σ : Nat->Value}
theorem resV_sound (hC : CtxOk P C) (h : Rel G0 S a w β σ) {r : ResultVar} {v : V} (hv : resV C S r = some v) :
  ∃ x,(rvS a.tmps r).run P w = .ok x w /\ AtV (G0.at w β σ S.hp) #[] v x:=by
 cases r with
 | tmp t =>
  simp only [resV,Option.some.injEq] at hv
  subst hv
  exact ⟨a.eval (.tmp t),by simp only [rvS,Sem.run_pure,Act.eval],(h.ev (.tmp t)).sane⟩
 | cell ad t =>
  simp only [resV] at hv
  split at hv
  ·rename_i τ id ver hτ heq
   split at hv
   ·rename_i σ' c z hb
    split at hv
    ·rename_i he
     subst he
     cases hv
     have hx:=h.ev (.tmp ad)
     simp only [Bx.ev] at hx
     rw [heq] at hx
     simp only [AtV] at hx
     obtain ⟨b,o,g1,g2,g3⟩:=tyAt_off (G:=G0.at w β σ S.hp) hx hb (τ:=σ') (by cases σ' <;> rfl)
     obtain ⟨rfl,_⟩:=offT_nil g2
     obtain ⟨b2,arr,ty,e1,e2,e3⟩:=h.ok.cell (G:=G0.at w β σ S.hp) hb
     rw [g1] at e1; cases e1
     obtain ⟨x,r1,r2⟩:=run_loadV (G:=G0.at w β σ S.hp) w (hC.ty _ _ hτ) ⟨b,0,none⟩ rfl e3 (fun j v hj=>by show w.cell? ⟨b,0 + j,none⟩ = some v; rw [Nat.zero_add]; exact (cell_arr e2 j).trans hj)
     simp only [Act.eval] at g3
     refine ⟨x,?_,r2 #[]⟩
     simp only [rvS,g3,asAddr,Sem.run_bind,Sem.run_pure,Result.andThen_ok,r1]
    ·cases hv
   ·cases hv
  ·cases hv
theorem resL_sound (hC : CtxOk P C) (h : Rel G0 S a w β σ) : ∀ {l : List ResultVar} {vs : List V},resL C S l = some vs ->
  ∃ xs,All2 (fun r v=>(rvS a.tmps r).run P w = .ok v w) l xs /\ AtL (G0.at w β σ S.hp) #[] vs xs /\ xs.length = vs.length
 | [],vs,hv=>by simp only [resL,Option.some.injEq] at hv; subst hv; exact ⟨[],trivial,by simp [AtL],rfl⟩
 | r :: l,vs,hv=>by
  simp only [resL] at hv
  split at hv
  ·rename_i v vs' h1 h2
   cases hv
   obtain ⟨x,r1,r2⟩:=resV_sound hC h h1
   obtain ⟨xs,s1,s2,s3⟩:=resL_sound hC h h2
   exact ⟨x :: xs,⟨r1,s1⟩,by simp only [AtL]; exact ⟨r2,s2⟩,by simp [s3]⟩
  ·cases hv
end
theorem results_run {fn : Func} {tmps : Array Value} {w : World} {xs : List Value} (h : All2 (fun r v=>(rvS tmps r).run P w = .ok v w) fn.results.toList xs) :
  (results fn tmps).run P w = .ok (if h : xs.toArray.size = 1 then xs.toArray[0] else .tuple xs.toArray) w:=by
 have h1:=results_list (P:=P) h
 have e : fn.results.mapM (rvS tmps) = (fn.results.toList.mapM (rvS tmps) >>= fun l=>pure l.toArray):=by
  rw [Array.mapM_eq_mapM_toList]; rfl
 rw [results_rv,e]
 simp only [Sem.run_bind,h1,Result.andThen_ok,Sem.run_pure]
theorem con_of_den (hC : CtxOk P C) (hm : P.follows .mixedOrders = true) {f : FuncId} {fn : Func} {c : Code} (hf : P.funcs[f]? = some fn) (hb : fn.body = some c) (hd : drawsOk c = true) (F : Fn) (k : Nat) (hn : ∀ (x : F.ps.den),(spread F.ps x).length <= fn.ntmps)
  (hF : ∀ x r,F.run x = some r->den C k c (fin C fn.results.toList F.rs F.multi) (start F fn.ntmps x) = some r) : Con P f F:=by
 intro w I x r args hI hr ha
 have hlen : (spread F.ps x).length = args.size:=by rw [spread_length ha,Array.length_toList]
 refine calls_of_wp hf hb ?_
 have hB:=start_rel hI ha (n:=fn.ntmps) (by rw [<- hlen]; exact hn x)
 have done : ∀ (e : Ex) (S : St) (a : Act) (w' : World),(e = .normal \/ e = .ret)->fin C fn.results.toList F.rs F.multi e S = some r->Behind (bare w I) S a w' ->
   a.defers = [] /\ ∃ v,(results fn a.tmps).run P w' = .ok v w' /\ ∃ v',Ending.returned v = .returned v' /\ Below w.heap.size w w' /\ OutAt ⟨w',fun b m=>I b m \/ (w.heap.size <= b /\ b < w'.heap.size)⟩ F r v':=by
  intro e S a w' he hfin hB
  obtain ⟨β,σ,hR⟩:=hB
  refine ⟨hR.defers,?_⟩
  have hfin' : (match F.multi,resL C S fn.results.toList with
    | false,some [v]=>match rd S.hp v with
     | .data t' x=>castD t' F.rs x
     | _=>none
    | true,some l=>if Nat.beq l.length 1 = true then none else getArgs F.rs (rdL S.hp l)
    | _,_=>none) = some r:=by
   rcases he with rfl | rfl <;> exact hfin
  have hbare : ∀ b,¬ (bare w I).named b:=fun b ⟨id,blk,hb,_⟩=>bare_nil hb
  have hBe : Below w.heap.size w w':=⟨hR.tr.os,hR.tr.tape,hR.tr.output,hR.tr.size,fun b hb=>hR.tr.frame b hb (hbare b)⟩
  have hE : ∀ hp2,Ext (GE.env ((bare w I).at w' β σ hp2)) ⟨w',fun b m=>I b m \/ (w.heap.size <= b /\ b < w'.heap.size)⟩:=fun hp2 =>
   ⟨fun b m ⟨h1,h2,_⟩=>by
    rcases h1 with h | h | h
    ·exact .inl h
    ·exact .inr ⟨h,h2⟩
    ·exact absurd h (hbare b),fun _ _ _ _ _=>rfl⟩
  split at hfin'
  ·rename_i v' hmul hl
   split at hfin'
   ·rename_i t' x' hrd
    obtain ⟨rfl,rfl⟩:=castD_some hfin'
    obtain ⟨xs,s1,s2,s3⟩:=resL_sound hC hR hl
    obtain ⟨v,rfl⟩:=List.length_eq_one_iff.1 (by simpa using s3)
    refine ⟨v,by rw [results_run s1]; simp,v,rfl,hBe,?_⟩
    unfold OutAt; rw [hmul]
    simp only [AtL,and_true] at s2
    exact (rd_frz v' _ hR.ok s2 hrd).ext (hE _)
   ·cases hfin'
  ·rename_i l hmul hl
   split at hfin'
   ·cases hfin'
   ·rename_i hne
    obtain ⟨xs,s1,s2,s3⟩:=resL_sound hC hR hl
    have hne' : xs.toArray.size ≠ 1:=by
     intro e
     apply hne
     rw [<- s3,show xs.length = 1 by simpa using e]
     rfl
    refine ⟨.tuple xs.toArray,by rw [results_run s1,dif_neg hne'],.tuple xs.toArray,rfl,hBe,?_⟩
    unfold OutAt; rw [hmul]
    exact ⟨xs.toArray,rfl,(argsL_frz _ hR.ok hfin' s2).ext (hE _)⟩
  ·cases hfin'
 refine den_sound hC hm ⟨fun i blk h=>(bare_nil h).elim,fun i t l v z h=>(bare_nil h).elim⟩ k c hd _ _ (start F fn.ntmps x) _ w ⟨fun S a w' h hB=>?_,fun id S a w' h hB=>?_,fun S a w' h hB=>?_⟩ (hF x r hr) hB
 ·exact done .normal S a w' (.inl rfl) h hB
 ·cases h
 ·exact done .ret S a w' (.inr rfl) h hB
end
end Go.Bx
namespace Go.Bx
set_option linter.unusedVariables false
set_option linter.unusedSimpArgs false
open Go Go.RowKit
def zeqV : Value->Value->Bool
 | .int k n,.int k' m=>decide (k = k') && decide (n = m)
 | .bool a,.bool b=>a == b
 | .string s,.string s'=>decide (s.data = s'.data)
 | .slice none 0 0,.slice none 0 0=>true
 | _,_=>false
theorem zeqV_eq {a b : Value} (h : zeqV a b = true) : a = b:=by
 unfold zeqV at h
 split at h
 ·simp at h; rw [h.1,h.2]
 ·simp at h; rw [h]
 ·rename_i s s'
  have : s.data = s'.data:=of_decide_eq_true h
  cases s; cases s'; simp at this; rw [this]
 ·rfl
 ·cases h
def zcB : List Value->List Value->Bool
 | [],[]=>true
 | a :: l,b :: m=>zeqV a b && zcB l m
 | _,_=>false
theorem zcB_eq : ∀ {l m : List Value},zcB l m = true->l = m
 | [],[],_=>rfl
 | a :: l,b :: m,h=>by
  simp only [zcB,Bool.and_eq_true] at h
  rw [zeqV_eq h.1,zcB_eq h.2]
 | [],_ :: _,h=>by simp [zcB] at h
 | _ :: _,[],h=>by simp [zcB] at h
def aggB : Value->Bool
 | .agg _=>true
 | _=>false
def oneB : Value->Bool
 | .tuple _=>false
 | .agg _=>false
 | _=>true
theorem oneB_sound {v : Value} (h : oneB v = true) : oneCell v:=by
 cases v <;> simp [oneB] at h <;> exact ⟨rfl,by simp,by simp⟩
def arrB (f : List Value->Bool) (s : Nat) : Nat->List Value->Bool
 | 0,cs=>cs.isEmpty
 | n + 1,cs=>f (cs.take s) && arrB f s n (cs.drop s)
def zcOkB : Ty->List Value->Bool
 | .opq,cs=>match cs with
  | [x]=>oneB x
  | _=>false
 | .pair a b,cs=>zcOkB a (cs.take a.size) && zcOkB b (cs.drop a.size)
 | .arr n t,cs=>arrB (zcOkB t) t.size n cs
 | .int k,cs=>zcB cs (zc (.int k))
 | .bool,cs=>zcB cs (zc .bool)
 | .str,cs=>zcB cs (zc .str)
 | .sl t,cs=>zcB cs (zc (.sl t))
 | .unit,cs=>cs.isEmpty
theorem arrB_sound {f : List Value->Bool} {s : Nat} {p : List Value->Prop} (hf : ∀ cs,f cs = true->p cs) : ∀ (n : Nat) (cs : List Value),arrB f s n cs = true->∃ css : List (List Value),css.length = n /\ cs = css.flatten /\ ∀ c ∈ css,p c
 | 0,cs,h=>by simp only [arrB,List.isEmpty_iff] at h; exact ⟨[],rfl,h,fun _ h=>by cases h⟩
 | n + 1,cs,h=>by
  simp only [arrB,Bool.and_eq_true] at h
  obtain ⟨css,h1,h2,h3⟩:=arrB_sound hf n _ h.2
  refine ⟨cs.take s :: css,by simp [h1],by rw [List.flatten_cons,<- h2,List.take_append_drop],fun c hc=>?_⟩
  rcases List.mem_cons.1 hc with rfl | hc
  ·exact hf _ h.1
  ·exact h3 c hc
theorem zcOkB_sound : ∀ (τ : Ty) (cs : List Value),zcOkB τ cs = true->zcOk τ cs
 | .opq,[x],h=>by simp only [zcOkB] at h; exact ⟨x,rfl,oneB_sound h⟩
 | .opq,[],h=>by simp [zcOkB] at h
 | .opq,_ :: _ :: _,h=>by simp [zcOkB] at h
 | .pair a b,cs,h=>by
  simp only [zcOkB,Bool.and_eq_true] at h
  exact ⟨_,_,(List.take_append_drop a.size cs).symm,zcOkB_sound a _ h.1,zcOkB_sound b _ h.2⟩
 | .arr n t,cs,h=>by
  simp only [zcOkB] at h
  obtain ⟨css,h1,h2,h3⟩:=arrB_sound (zcOkB_sound t) n cs h
  exact ⟨css,h1,h2,h3⟩
 | .int k,cs,h=>by simp only [zcOkB] at h; exact zcB_eq h
 | .bool,cs,h=>by simp only [zcOkB] at h; exact zcB_eq h
 | .str,cs,h=>by simp only [zcOkB] at h; exact zcB_eq h
 | .sl t,cs,h=>by simp only [zcOkB] at h; exact zcB_eq h
 | .unit,cs,h=>by simp only [zcOkB,List.isEmpty_iff] at h; exact h
def infoB (P : Program) (i : TypeId) (τ : Ty) : Bool :=
 match P.info? i with
 | none=>false
 | some inf=>decide (inf.size = τ.size) && decide (inf.bytes = τ.bytes) && match inf.zero with
  | none=>false
  | some z=>zcOkB τ z.cells.toList && (!τ.isAgg || aggB z) && (τ.isAgg || oneB z)
theorem infoB_sound {P : Program} {i : TypeId} {τ : Ty} (h : infoB P i τ = true) : Info P i τ:=by
 unfold infoB at h
 split at h
 ·cases h
 ·rename_i inf hi
  simp only [Bool.and_eq_true,decide_eq_true_eq] at h
  obtain ⟨⟨h1,hb⟩,h2⟩:=h
  split at h2
  ·cases h2
  ·rename_i z hz
   simp only [Bool.and_eq_true] at h2
   refine ⟨inf,z,hi,h1,hz,zcOkB_sound _ _ h2.1.1,fun ha=>?_,fun ha=>?_,hb⟩
   ·have:=h2.1.2
    rw [ha] at this
    cases z <;> simp [aggB] at this
    exact ⟨_,rfl⟩
   ·have:=h2.2
    rw [ha] at this
    exact oneB_sound (by simpa using this)
mutual
def tyB (P : Program) : Ty->TypeId->Bool
 | .int k,i=>(match P.underlying i with | some (.int k')=>decide (k = k') | _=>false) && infoB P i (.int k)
 | .bool,i=>(match P.underlying i with | some .bool=>true | _=>false) && infoB P i .bool
 | .str,i=>(match P.underlying i with | some .string=>true | _=>false) && infoB P i .str
 | .arr n t,i=>match P.underlying i with
  | some (.array n' e)=>decide (n = n') && tyB P t e && infoB P i (.arr n t) && (!t.cmp || !(P.eqGuardType P.depth i))
  | _=>false
 | .sl t,i=>match P.underlying i with
  | some (.slice e)=>tyB P t e && infoB P i (.sl t)
  | _=>false
 | .unit,i=>match P.underlying i with
  | some (.struct fs)=>fs.toList.isEmpty && infoB P i .unit && !(P.stoodInHeld i)
  | _=>false
 | .pair a b,i=>match P.underlying i with
  | some (.struct fs)=>(match fs.toList with
   | f :: r => decide (f.offset = 0) && decide (a.size ≠ 0) && decide (f.name ≠ "_") && tyB P a f.type && fieldsB P b r (0 + a.size)
   | []=>false) && infoB P i (.pair a b) && !(P.stoodInHeld i) && (!(a.cmp && b.cmp) || !(P.eqGuardType P.depth i))
  | _=>false
 | .opq,i=>(match P.underlying i with | some d=>opqDesc d | none=>false) && infoB P i .opq
def fieldsB (P : Program) : Ty->List Field->Nat->Bool
 | .unit,fs,_=>fs.isEmpty
 | .pair a b,fs,off=>match fs with
  | f :: r => decide (f.offset = off) && decide (a.size ≠ 0) && decide (f.name ≠ "_") && tyB P a f.type && fieldsB P b r (off + a.size)
  | []=>false
 | _,_,_=>false
end
mutual
theorem tyB_sound {P : Program} : ∀ (τ : Ty) (i : TypeId),tyB P τ i = true->TyOk P τ i
 | .int k,i,h=>by
  simp only [tyB,Bool.and_eq_true] at h
  refine ⟨?_,infoB_sound h.2⟩
  have:=h.1
  split at this
  ·rename_i k' hu; rw [hu,of_decide_eq_true this]
  ·cases this
 | .bool,i,h=>by
  simp only [tyB,Bool.and_eq_true] at h
  refine ⟨?_,infoB_sound h.2⟩
  have:=h.1
  split at this
  ·assumption
  ·cases this
 | .str,i,h=>by
  simp only [tyB,Bool.and_eq_true] at h
  refine ⟨?_,infoB_sound h.2⟩
  have:=h.1
  split at this
  ·assumption
  ·cases this
 | .arr n t,i,h=>by
  simp only [tyB] at h
  split at h
  ·rename_i n' e hu
   simp only [Bool.and_eq_true,decide_eq_true_eq,Bool.or_eq_true,Bool.not_eq_true'] at h
   exact ⟨e,by rw [hu,h.1.1.1],tyB_sound t e h.1.1.2,infoB_sound h.1.2,fun hc=>h.2.resolve_left (by rw [hc]; simp)⟩
  ·cases h
 | .sl t,i,h=>by
  simp only [tyB] at h
  split at h
  ·rename_i e hu
   simp only [Bool.and_eq_true] at h
   exact ⟨e,hu,tyB_sound t e h.1,infoB_sound h.2⟩
  ·cases h
 | .unit,i,h=>by
  simp only [tyB] at h
  split at h
  ·rename_i fs hu
   simp only [Bool.and_eq_true,Bool.not_eq_true',List.isEmpty_iff] at h
   refine ⟨?_,infoB_sound h.1.2,h.2⟩
   rw [hu]
   have : fs = #[]:=by simpa using h.1.1
   rw [this]
  ·cases h
 | .pair a b,i,h=>by
  simp only [tyB] at h
  split at h
  ·rename_i fs hu
   simp only [Bool.and_eq_true,Bool.or_eq_true,Bool.not_eq_true'] at h
   refine ⟨fs,hu,?_,infoB_sound h.1.1.2,h.1.2,fun hc=>h.2.resolve_left (by simp only [Bool.and_eq_true] at hc; rw [hc.1,hc.2]; simp)⟩
   have h1:=h.1.1.1
   split at h1
   ·rename_i f r hf
    simp only [Bool.and_eq_true,decide_eq_true_eq] at h1
    exact ⟨f,r,hf,h1.1.1.1.1,h1.1.1.1.2,h1.1.1.2,tyB_sound a _ h1.1.2,fieldsB_sound b _ _ h1.2⟩
   ·cases h1
  ·cases h
 | .opq,i,h=>by
  simp only [tyB,Bool.and_eq_true] at h
  have h1:=h.1
  split at h1
  ·rename_i d hu; exact ⟨d,hu,h1,infoB_sound h.2⟩
  ·cases h1
theorem fieldsB_sound {P : Program} : ∀ (τ : Ty) (fs : List Field) (off : Nat),fieldsB P τ fs off = true->FieldsOk P τ fs off
 | .unit,fs,off,h=>by simp only [fieldsB,List.isEmpty_iff] at h; exact h
 | .pair a b,fs,off,h=>by
  simp only [fieldsB] at h
  split at h
  ·rename_i f r
   simp only [Bool.and_eq_true,decide_eq_true_eq] at h
   exact ⟨f,r,rfl,h.1.1.1.1,h.1.1.1.2,h.1.1.2,tyB_sound a _ h.1.2,fieldsB_sound b _ _ h.2⟩
  ·cases h
 | .int _,_,_,h=>by simp [fieldsB] at h
 | .bool,_,_,h=>by simp [fieldsB] at h
 | .str,_,_,h=>by simp [fieldsB] at h
 | .arr _ _,_,_,h=>by simp [fieldsB] at h
 | .sl _,_,_,h=>by simp [fieldsB] at h
 | .opq,_,_,h=>by simp [fieldsB] at h
end
def tableB (P : Program) (l : List (Nat × Ty)) : Bool:=l.all fun x=>tyB P x.2 x.1
theorem look_mem {β : Type} : ∀ {l : List (Nat × β)} {i : Nat} {b : β},look l i = some b->(i,b) ∈ l
 | (j,c) :: l,i,b,h=>by
  simp only [look] at h
  split at h
  ·rename_i he
   cases h
   rw [Nat.eq_of_beq_eq_true he]; exact List.mem_cons_self
  ·exact List.mem_cons_of_mem _ (look_mem h)
theorem table_ok {P : Program} {l : List (Nat × Ty)} (h : tableB P l = true) : ∀ i τ,look l i = some τ->TyOk P τ i:=fun i τ hl=>by
 have:=List.all_eq_true.1 h _ (look_mem hl)
 exact tyB_sound τ i this
section
variable {H : Type} {enc : TypeId × Value->H} {P : Program}
theorem mapM_all2 {α β : Type} {f : α->Option β} : ∀ {l : List α} {m : List β},l.mapM f = some m->All2 (fun a b=>f a = some b) l m
 | [],m,h=>by simp at h; subst h; trivial
 | a :: l,m,h=>by
  rw [List.mapM_cons] at h
  obtain ⟨b,h1,h2⟩:=Option.bind_eq_some_iff.1 h
  obtain ⟨r,h3,h4⟩:=Option.bind_eq_some_iff.1 h2
  cases h4
  exact ⟨h1,mapM_all2 h3⟩
theorem cellsOf_info {i : TypeId} {τ : Ty} (h : Info P i τ) : P.cellsOf i = τ.size:=by
 obtain ⟨inf,z,h1,h2,_⟩:=h
 simp [Program.cellsOf,h1,h2]
theorem cells_spec {w : World} {base : Nat} {a : Addr} {n : Nat} {cs : List Value} (h : w.cells? base a n = some cs) : cs.length = n /\ ∀ j v,cs[j]? = some v->w.cell? (a.add j) = some v:=by
 unfold World.cells? at h
 split at h
 ·have h2:=mapM_all2 h
  have hl:=h2.length
  simp at hl
  refine ⟨hl.symm,fun j v hj=>?_⟩
  have hjl : j < cs.length:=by
   rcases Nat.lt_or_ge j cs.length with h | h
   ·exact h
   ·rw [List.getElem?_eq_none h] at hj; cases hj
  obtain ⟨hm,hr⟩:=h2.get j (by simpa [hl] using hjl)
  simp only [List.getElem_range] at hr
  rw [hr,<- hj]
  exact (List.getElem?_eq_getElem hm).symm
 ·cases h
theorem all2_exists {α β : Type} {R : α->β->Prop} : ∀ {m : List β},(∀ b ∈ m,∃ a,R a b)->∃ l,All2 R l m
 | [],_=>⟨[],trivial⟩
 | b :: m,h=>by
  obtain ⟨a,ha⟩:=h b (by simp)
  obtain ⟨l,hl⟩:=all2_exists (m:=m) fun b hb=>h b (List.mem_cons_of_mem _ hb)
  exact ⟨a :: l,ha,hl⟩
theorem plain_addr {w : World} {a : Addr} {v : Value} (h : w.cell? a = some v) : a.spot = none /\ a.block < w.heap.size:=by
 unfold World.cell? at h
 split at h
 ·rename_i hb
  have hlt:=(Array.getElem?_eq_some_iff.1 hb).1
  split at h
  ·cases h
  ·rename_i hs; exact ⟨by simpa using hs,hlt⟩
 ·cases h
def argEnv (w : World) : Env:=⟨w,fun b _=>b < w.heap.size⟩
theorem pieces_flat {n : Nat} : ∀ (k : Nat) (cs : List Value),cs.length = k * n->((List.range k).map fun i=>(cs.drop (i * n)).take n).flatten = cs
 | 0,cs,h=>by simp at h; simp [h]
 | k + 1,cs,h=>by
  rw [List.range_succ_eq_map]
  simp only [List.map_cons,List.map_map,List.flatten_cons,Nat.zero_mul,List.drop_zero]
  have h1 : (cs.drop n).length = k * n:=by simp [h,Nat.add_mul]
  have ih:=pieces_flat k (cs.drop n) h1
  have e : ((List.range k).map ((fun i=>(cs.drop (i * n)).take n) ∘ Nat.succ)) = (List.range k).map fun i=>((cs.drop n).drop (i * n)).take n:=by
   apply List.map_congr_left
   intro i _
   simp only [Function.comp_apply,List.drop_drop,Nat.succ_eq_add_one,Nat.add_mul,Nat.one_mul]
   rw [Nat.add_comm]
  rw [e,ih,List.take_append_drop]
def Ty.full : Ty->Bool
 | .arr _ t=>t.full | .sl t=>t.size != 0 && t.full | .pair a b=>a.full && b.full | .opq=>false | _=>true
def Fit (K : Ty->Nat->Prop) : (t : Ty)->t.den->Prop
 | .int k,n=>inR k n = true
 | .bool,_=>True
 | .str,l=>K (.int .u8) (l : List Int).length /\ (l : List Int).length <= maxLen /\ ∀ b ∈ (l : List Int),0 <= b /\ b < 256
 | .arr n t,l=>(l : List t.den).length = n /\ ∀ x ∈ (l : List t.den),Fit K t x
 | .sl t,l=>K t (l : List t.den).length /\ (l : List t.den).length <= maxLen /\ ∀ x ∈ (l : List t.den),Fit K t x
 | .unit,_=>True
 | .pair a b,x=>Fit K a x.1 /\ Fit K b x.2
 | .opq,_=>False
structure Small (H : Type) (P : Program) (Q : TypeId->DataW H->Prop) (K : Ty->Nat->Prop) : Prop where
 nil : ∀ τ,K τ 0
 str : ∀ t l,Q t (.lit (.string l))->K (.int .u8) l.length
 slc : ∀ t e el sp τ,P.underlying t = some (.slice e)->Info P e τ->Q t (.slice el sp)->K τ el.length /\ ∀ d ∈ el,Q e d
 fld : ∀ t fs ps,P.underlying t = some (.struct fs)->Q t (.agg ps)->∀ (i : Nat) f d,fs[i]? = some f->ps[i]? = some d->Q f.type d
 arr : ∀ t n e ps,P.underlying t = some (.array n e)->Q t (.agg ps)->∀ d ∈ ps,Q e d
theorem all2_map {α β γ : Type} {R : α->β->Prop} {f : γ->β} : ∀ {l : List α} {m : List γ},All2 (fun a c=>R a (f c)) l m->All2 R l (m.map f)
 | [],[],_=>trivial
 | _ :: _,_ :: _,h=>⟨h.1,all2_map h.2⟩
theorem all2_left {α β : Type} {R : α->β->Prop} {p : α->Prop} : ∀ {l : List α} {m : List β},All2 R l m->(∀ a b,b ∈ m->R a b->p a)->∀ a ∈ l,p a
 | [],[],_,_,_,h=>by cases h
 | x :: l,y :: m,h,g,a,ha=>by
  rcases List.mem_cons.1 ha with rfl | ha
  ·exact g _ y (by simp) h.1
  ·exact all2_left h.2 (fun a b hb=>g a b (List.mem_cons_of_mem _ hb)) a ha
variable {Q : TypeId->DataW H->Prop} {K : Ty->Nat->Prop}
mutual
theorem flat_of_trod (hQ : Small H P Q K) {w : World} {spare : Nat->Bool} {held : Bool} : ∀ (τ : Ty) (t : TypeId) (fuel : Nat) (cs : List Value) (y : DataW H × List MemPlace),TyOk P τ t->τ.full = true->Q t y.1 ->
  DataW.trod enc P w 0 spare held fuel t cs = some y->∃ x : τ.den,FlatD (argEnv w) τ x cs /\ Fit K τ x
 | _,_,0,_,_,_,_,_,h=>by simp [DataW.trod] at h
 | .int k,t,fuel + 1,cs,y,ht,_,_,h=>by
  obtain ⟨n,rfl,_,hw⟩:=DataW.trod_int ht.1 h
  have hw2 : inR k n = true:=by simpa [Lit.wf,inR] using hw
  exact ⟨n,⟨rfl,hw2⟩,hw2⟩
 | .bool,t,fuel + 1,cs,y,ht,_,_,h=>by
  obtain ⟨b,rfl,_⟩:=DataW.trod_bool ht.1 h
  exact ⟨b,rfl,trivial⟩
 | .str,t,fuel + 1,cs,y,ht,_,hq,h=>by
  obtain ⟨s,rfl,rfl,hs⟩:=DataW.trod_string ht.1 h
  refine ⟨bytesOf s,⟨s,rfl,rfl,hs⟩,?_,?_,?_⟩
  ·have:=hQ.str _ _ hq
   simpa [bytesOf] using this
  ·simpa [bytesOf] using hs
  ·intro b hb
   simp only [bytesOf,List.mem_map] at hb
   obtain ⟨c,_,rfl⟩:=hb
   have:=c.toNat_lt
   omega
 | .arr n τ,t,fuel + 1,cs,y,ht,hf,hq,h=>by
  obtain ⟨e,hu,hτ,hi,_⟩:=ht
  obtain ⟨xs,m,hm,rfl,hl,hx,hg⟩:=DataW.trod_array hu h
  have hs : P.cellsOf e = τ.size:=cellsOf_info hτ.info
  have hl2 : cs.length = n * τ.size:=by rw [hl,cellsOf_info hi]; rfl
  rw [hs] at hg
  have hcs:=pieces_flat n cs hl2
  obtain ⟨l,ha⟩:=all2_exists (R:=fun (x : τ.den) i=>FlatD (argEnv w) τ x ((cs.drop (i * τ.size)).take τ.size) /\ Fit K τ x) (m:=List.range n) (fun i hi=>by
   have hin : i < n:=by simpa using hi
   have:=hg i hin
   rw [List.getElem?_eq_getElem (by omega)] at this
   exact flat_of_trod hQ τ e m _ _ hτ hf (hQ.arr _ _ _ _ hu hq _ (List.mem_map.2 ⟨_,List.getElem_mem (by omega),rfl⟩)) this)
  have hll:=ha.length
  refine ⟨l,⟨by simpa using hll,_,hcs.symm,all2_map (ha.mono fun a b h=>h.1)⟩,by simpa using hll,all2_left ha fun a b _ h=>h.2⟩
 | .sl τ,t,fuel + 1,cs,y,ht,hf,hq,h=>by
  obtain ⟨e,hu,hτ,hi⟩:=ht
  simp only [Ty.full,Bool.and_eq_true,bne_iff_ne] at hf
  have hz : 0 < τ.size:=Nat.pos_of_ne_zero (fun h0=>by rw [h0] at hf; simp at hf)
  have hs : P.cellsOf e = τ.size:=cellsOf_info hτ.info
  rcases Go.Deep.open_slice hu h with ⟨rfl,_⟩ | ⟨a,len,cap,m,n,D,Pl,rfl,_,hlc,hcap,hm,rfl,hg⟩
  ·exact ⟨[],.inl ⟨rfl,rfl⟩,hQ.nil _,by simp,by simp⟩
  ·have hml : len <= m:=by rw [hm]; split <;> omega
   rw [hs] at hg
   obtain ⟨hk,hqe⟩:=hQ.slc _ _ _ _ _ hu hτ.info hq
   have key : ∀ i,∃ cs',i < len->w.cells? 0 (a.add (i * τ.size)) τ.size = some cs' /\ ∃ x : τ.den,FlatD (argEnv w) τ x cs' /\ Fit K τ x:=fun i=>by
    by_cases hi : i < len
    ·obtain ⟨cs',h1,h2⟩:=hg i (by omega)
     exact ⟨cs',fun _=>⟨h1,flat_of_trod hQ τ e n cs' _ hτ hf.2 (hqe _ (List.mem_map.2 ⟨i,by simpa using hi,rfl⟩)) h2⟩⟩
    ·exact ⟨[],fun h=>absurd h hi⟩
   obtain ⟨f,hfk⟩:=Classical.axiomOfChoice key
   obtain ⟨l,ha0⟩:=all2_exists (R:=fun (x : τ.den) i=>FlatD (argEnv w) τ x (f i) /\ Fit K τ x) (m:=List.range len) (fun i hi=>(hfk i (by simpa using hi)).2)
   have hll2 : l.length = len:=by simpa using ha0.length
   have ha : All2 (FlatD (argEnv w) τ) l ((List.range len).map f):=all2_map (ha0.mono fun a b h=>h.1)
   have hcell : ∀ i,i < len->∀ j,j < τ.size->∃ v,(f i)[j]? = some v /\ w.cell? ((a.add (i * τ.size)).add j) = some v:=fun i hi j hj=>by
    obtain ⟨h1,h2⟩:=cells_spec (hfk i hi).1
    have hx : (f i)[j]? = some (f i)[j]:=List.getElem?_eq_getElem (by omega)
    exact ⟨_,hx,h2 j _ hx⟩
   have hlen : ((List.range len).map f).flatten.length = len * τ.size:=by
    rw [All2.flat_length (fun a cs h=>FlatD.length τ a cs h) ha,hll2]
   have hspot : a.spot = none \/ l = []:=by
    rcases Nat.eq_zero_or_pos len with h0 | h0
    ·right; exact List.eq_nil_of_length_eq_zero (by omega)
    ·left
     obtain ⟨v,_,hv⟩:=hcell 0 h0 0 hz
     simpa [Addr.add] using (plain_addr hv).1
   refine ⟨l,.inr ⟨a,cap,(List.range len).map f,by rw [hll2],hspot,by omega,hcap,ha,?_,fun j v hj=>?_⟩,by rw [hll2]; simpa using hk,by omega,all2_left ha0 fun a b _ h=>h.2⟩
   ·rcases Nat.eq_zero_or_pos len with h0 | h0
    ·left; exact List.eq_nil_of_length_eq_zero (by rw [hlen,h0,Nat.zero_mul])
    ·right
     obtain ⟨v,_,hv⟩:=hcell 0 h0 0 hz
     exact ⟨_,Nat.le_refl _,by simpa [Addr.add,argEnv] using (plain_addr hv).2⟩
   ·have hjl : j < len * τ.size:=by
     rw [<- hlen]
     rcases Nat.lt_or_ge j ((List.range len).map f).flatten.length with h' | h'
     ·exact h'
     ·rw [List.getElem?_eq_none h'] at hj; cases hj
    have hid : j / τ.size < len:=Nat.div_lt_of_lt_mul (by rw [Nat.mul_comm]; exact hjl)
    have hjm : j % τ.size < τ.size:=Nat.mod_lt _ hz
    obtain ⟨u,hu1,hu2⟩:=hcell _ hid _ hjm
    have hidx : ((List.range len).map f)[j / τ.size]? = some (f (j / τ.size)):=by simp [hid]
    have:=getElem?_flatten_of_all2 (fun a cs h=>FlatD.length τ a cs h) ha _ _ hidx _ _ hu1
    rw [Nat.mul_comm,Nat.div_add_mod] at this
    rw [hj] at this
    have hsp : a.spot = none:=hspot.resolve_right (fun h=>by
     rw [h] at hll2; simp only [List.length_nil] at hll2
     rw [<- hll2] at hid; exact absurd hid (Nat.not_lt_zero _))
    rw [add_plain a _ hsp,add_plain _ _ rfl] at hu2
    rw [Option.some.inj this,<- hu2]
    show w.cell? _ = _
    congr 2
    have:=Nat.div_add_mod j τ.size
    rw [Nat.mul_comm] at this
    simp only; omega
 | .unit,t,fuel + 1,cs,y,ht,hf,_,h=>by
  refine ⟨(),?_,trivial⟩
  obtain ⟨xs,m,hm,rfl,hl,_⟩:=DataW.trod_struct ht.1 h
  rw [cellsOf_info ht.2.1] at hl
  exact List.eq_nil_of_length_eq_zero hl
 | .pair a b,t,fuel + 1,cs,y,ht,hf,hq,h=>by
  obtain ⟨fs,hu,⟨f,r,hfs,ho,hz,hn,hfa,hfr⟩,hi,_⟩:=ht
  simp only [Ty.full,Bool.and_eq_true] at hf
  obtain ⟨xs,m,hm,rfl,hl,hx,hg⟩:=DataW.trod_struct hu h
  rw [cellsOf_info hi] at hl
  simp only [Ty.size] at hl
  have hall : ∀ g ∈ f :: r,∃ y : DataW H × List MemPlace,Q g.type y.1 /\ DataW.trod enc P w 0 spare held m g.type ((cs.drop g.offset).take (P.cellsOf g.type)) = some y:=fun g hgm=>by
   rw [<- hfs] at hgm
   obtain ⟨i,hi,rfl⟩:=List.getElem_of_mem hgm
   have hi2 : i < fs.size:=by simpa using hi
   have hg2:=hg i _ (Array.getElem?_eq_getElem hi2)
   rw [List.getElem?_eq_getElem (by omega)] at hg2
   refine ⟨xs[i],?_,by simpa using hg2⟩
   have:=hQ.fld _ _ _ hu hq i fs[i] xs[i].1 (Array.getElem?_eq_getElem hi2) (by simp [List.getElem?_eq_getElem (show i < xs.length by omega)])
   simpa using this
  obtain ⟨y1,q1,h1⟩:=hall f (by simp)
  rw [ho,cellsOf_info hfa.info] at h1
  obtain ⟨x1,hx1,ht1⟩:=flat_of_trod hQ a f.type m _ _ hfa hf.1 q1 h1
  obtain ⟨x2,hx2,ht2⟩:=flat_of_fields hQ b r (0 + a.size) m cs hfr hf.2 (fun g hg=>hall g (List.mem_cons_of_mem _ hg)) (by omega)
  exact ⟨(x1,x2),⟨cs.take a.size,cs.drop a.size,(List.take_append_drop _ _).symm,by simpa using hx1,by simpa using hx2⟩,ht1,ht2⟩
 | .opq,t,fuel + 1,cs,y,_,hf,_,h=>by simp [Ty.full] at hf
theorem flat_of_fields (hQ : Small H P Q K) {w : World} {spare : Nat->Bool} {held : Bool} : ∀ (τ : Ty) (fs : List Field) (off m : Nat) (cs : List Value),FieldsOk P τ fs off->τ.full = true ->
  (∀ g ∈ fs,∃ y : DataW H × List MemPlace,Q g.type y.1 /\ DataW.trod enc P w 0 spare held m g.type ((cs.drop g.offset).take (P.cellsOf g.type)) = some y)->cs.length = off + τ.size ->
  ∃ x : τ.den,FlatD (argEnv w) τ x (cs.drop off) /\ Fit K τ x
 | .unit,fs,off,m,cs,hfo,_,_,hl=>⟨(),by
   simp only [FlatD,Ty.size] at hl ⊢
   exact List.eq_nil_of_length_eq_zero (by simp; omega),trivial⟩
 | .pair a b,fs,off,m,cs,hfo,hf,hall,hl=>by
  obtain ⟨f,r,rfl,ho,hz,hn,hfa,hfr⟩:=hfo
  simp only [Ty.full,Bool.and_eq_true] at hf
  simp only [Ty.size] at hl
  obtain ⟨y1,q1,h1⟩:=hall f (by simp)
  rw [ho,cellsOf_info hfa.info] at h1
  obtain ⟨x1,hx1,ht1⟩:=flat_of_trod hQ a f.type m _ _ hfa hf.1 q1 h1
  obtain ⟨x2,hx2,ht2⟩:=flat_of_fields hQ b r (off + a.size) m cs hfr hf.2 (fun g hg=>hall g (List.mem_cons_of_mem _ hg)) (by omega)
  exact ⟨(x1,x2),⟨(cs.drop off).take a.size,(cs.drop off).drop a.size,(List.take_append_drop _ _).symm,hx1,by simpa using hx2⟩,ht1,ht2⟩
 | .int _,_,_,_,_,hf,_,_,_=>hf.elim
 | .bool,_,_,_,_,hf,_,_,_=>hf.elim
 | .str,_,_,_,_,hf,_,_,_=>hf.elim
 | .arr _ _,_,_,_,_,hf,_,_,_=>hf.elim
 | .sl _,_,_,_,_,hf,_,_,_=>hf.elim
 | .opq,_,_,_,_,hf,_,_,_=>hf.elim
end
end
end Go.Bx
namespace Go.Bx
set_option linter.unusedVariables false
set_option linter.unusedSimpArgs false
open Go Go.RowKit
def reachK (τ : Ty) (n : Nat) : Prop:=n * τ.bytes <= reachBytes
section
variable {H : Type} {enc : TypeId × Value->H} {P : Program}
def light (H : Type) (P : Program) (t : TypeId) (d : DataW H) : Prop:=∀ n ∈ d.weights P t,n <= reachBytes
theorem weights_all {e : TypeId} : ∀ {l : List (DataW H)} {d : DataW H},d ∈ l->∀ n ∈ d.weights P e,n ∈ DataW.weightsAll P e l
 | x :: l,d,h,n,hn=>by
  simp only [DataW.weightsAll,List.mem_append]
  rcases List.mem_cons.1 h with rfl | h
  ·exact .inl hn
  ·exact .inr (weights_all h n hn)
theorem small_reach : Small H P (light H P) reachK where
 nil:=fun τ=>by simp [reachK]
 str:=fun t l h=>by
  have:=h l.length (by simp [DataW.weights])
  simpa [reachK,Ty.bytes,IntKind.bits] using this
 slc:=fun t e el sp τ hu hi h=>by
  obtain ⟨inf,z,h1,h2,h3,h4,h5,h6⟩:=hi
  have hb : P.bytesOf e = τ.bytes:=by simp [Program.bytesOf,h1,h6]
  constructor
  ·have:=h _ (by simp only [DataW.weights,hu]; exact List.mem_cons_self)
   rw [hb,Nat.add_mul] at this
   unfold reachK; omega
  ·intro d hd n hn
   exact h n (by simp only [DataW.weights,hu]; exact List.mem_cons_of_mem _ (List.mem_append_left _ (weights_all hd n hn)))
 fld:=fun t fs ps hu h i f d hf hd n hn=>h n (by
  simp only [DataW.weights,hu]
  exact DataW.weights_mem_each (j:=i) (t:=f.type) (by simp [hf]) hd n hn)
 arr:=fun t m e ps hu h d hd n hn=>h n (by simp only [DataW.weights,hu]; exact weights_all hd n hn)
def ArgTys (P : Program) : Ty->List TypeId->Prop
 | .unit,[]=>True
 | .pair a b,t :: ts=>TyOk P a t /\ a.full = true /\ ArgTys P b ts
 | _,_=>False
def argTysB (P : Program) : Ty->List TypeId->Bool
 | .unit,ts=>ts.isEmpty
 | .pair a b,ts=>match ts with
  | t :: ts=>tyB P a t && a.full && argTysB P b ts
  | []=>false
 | _,_=>false
theorem argTysB_sound : ∀ {τ : Ty} {ts : List TypeId},argTysB P τ ts = true->ArgTys P τ ts
 | .unit,ts,h=>by
  simp only [argTysB,List.isEmpty_iff] at h
  subst h; trivial
 | .pair a b,ts,h=>by
  cases ts with
  | nil=>simp [argTysB] at h
  | cons t ts =>
   simp only [argTysB,Bool.and_eq_true] at h
   exact ⟨tyB_sound a t h.1.1,h.1.2,argTysB_sound h.2⟩
 | .int _,_,h=>by simp [argTysB] at h
 | .bool,_,h=>by simp [argTysB] at h
 | .str,_,h=>by simp [argTysB] at h
 | .arr _ _,_,h=>by simp [argTysB] at h
 | .sl _,_,h=>by simp [argTysB] at h
 | .opq,_,h=>by simp [argTysB] at h
theorem at_of_flat {E : Env} {w : World} {r : Reach} {base : Nat} {τ : Ty} {t : TypeId} {x : τ.den} {v : Value} (ht : TyOk P τ t) (ho : Value.okWide P w r base t v) (h : FlatD E τ x v.cells.toList) : AtD E τ x v:=by
 unfold Value.okWide at ho
 cases τ with
 | int k =>
  rw [ht.1] at ho
  simp only [Cell.okWide,ht.1] at ho
  cases v <;> simp [Cell.ok,ht.1] at ho
  simpa [AtD,Ty.isAgg,Value.cells] using h
 | bool =>
  rw [ht.1] at ho
  simp only [Cell.okWide,ht.1] at ho
  cases v <;> simp [Cell.ok,ht.1] at ho
  simpa [AtD,Ty.isAgg,Value.cells] using h
 | str =>
  rw [ht.1] at ho
  simp only [Cell.okWide,ht.1] at ho
  cases v <;> simp [Cell.ok,ht.1] at ho
  simpa [AtD,Ty.isAgg,Value.cells] using h
 | arr n τ =>
  obtain ⟨e,hu,_⟩:=ht
  rw [hu] at ho
  obtain ⟨cs,rfl,_⟩:=ho
  exact ⟨cs,rfl,by simpa [Value.cells] using h⟩
 | sl τ =>
  obtain ⟨e,hu,_⟩:=ht
  rw [hu] at ho
  simp only [Cell.okWide,hu] at ho
  cases v <;> simp [Cell.ok,hu] at ho
  simpa [AtD,Ty.isAgg,Value.cells] using h
 | unit =>
  rw [ht.1] at ho
  obtain ⟨cs,rfl,_⟩:=ho
  exact ⟨cs,rfl,by simpa [Value.cells] using h⟩
 | pair a b =>
  obtain ⟨fs,hu,_⟩:=ht
  rw [hu] at ho
  obtain ⟨cs,rfl,_⟩:=ho
  exact ⟨cs,rfl,by simpa [Value.cells] using h⟩
 | opq=>cases v <;> simp [FlatD] at h
theorem args_of_trod {Q : TypeId->DataW H->Prop} {K : Ty->Nat->Prop} (hQ : Small H P Q K) {w w2 : World} {r : Reach} {base : Nat} {spare : Nat->Bool} {held : Bool} :
  ∀ (ps : Ty) (ts : List TypeId) (vs : List Value) (ds : List (DataW H)) (p : List MemPlace),ArgTys P ps ts->DataW.TrodAll enc P w 0 spare held ts vs ds p ->
  (∀ (j : Nat) t v,ts[j]? = some t->vs[j]? = some v->Value.okWide P w2 r base t v)->(∀ (j : Nat) t d,ts[j]? = some t->ds[j]? = some d->Q t d)->∃ x : ps.den,ArgsAt (argEnv w) ps x vs /\ Fit K ps x
 | .unit,[],[],[],_,_,_,_,_=>⟨(),rfl,trivial⟩
 | .unit,[],_ :: _,_,_,_,h,_,_=>by simp [DataW.TrodAll] at h
 | .unit,[],[],_ :: _,_,_,h,_,_=>by simp [DataW.TrodAll] at h
 | .unit,_ :: _,_,_,_,ht,_,_,_=>ht.elim
 | .pair a b,[],_,_,_,ht,_,_,_=>ht.elim
 | .pair a b,t :: ts,[],_,_,_,h,_,_=>by simp [DataW.TrodAll] at h
 | .pair a b,t :: ts,_ :: _,[],_,_,h,_,_=>by simp [DataW.TrodAll] at h
 | .pair a b,t :: ts,v :: vs,d :: ds,_,⟨h1,h2,h3⟩,⟨p,q,⟨fuel,hd⟩,hr,_⟩,ho,hq=>by
  obtain ⟨x,hx,hf⟩:=flat_of_trod hQ a t fuel _ _ h1 h2 (hq 0 t d rfl rfl) hd
  obtain ⟨y,hy,hg⟩:=args_of_trod hQ b ts vs ds q h3 hr (fun j t v h1 h2=>ho (j + 1) t v (by simpa using h1) (by simpa using h2)) (fun j t d h1 h2=>hq (j + 1) t d (by simpa using h1) (by simpa using h2))
  exact ⟨(x,y),⟨v,vs,rfl,at_of_flat h1 (ho 0 t v rfl rfl) hx,hy⟩,hf,hg⟩
 | .int _,_,_,_,_,ht,_,_,_=>by cases ‹List TypeId› <;> exact ht.elim
 | .bool,_,_,_,_,ht,_,_,_=>by cases ‹List TypeId› <;> exact ht.elim
 | .str,_,_,_,_,ht,_,_,_=>by cases ‹List TypeId› <;> exact ht.elim
 | .arr _ _,_,_,_,_,ht,_,_,_=>by cases ‹List TypeId› <;> exact ht.elim
 | .sl _,_,_,_,_,ht,_,_,_=>by cases ‹List TypeId› <;> exact ht.elim
 | .opq,_,_,_,_,ht,_,_,_=>by cases ‹List TypeId› <;> exact ht.elim
theorem trodAll_again (hl : laidOutB P = true) {W W' : World} (hb : Below W.heap.size W W') : ∀ (ts : List TypeId) (vs : List Value) (ds : List (DataW H)) (p : List MemPlace),(∀ t ∈ ts,P.readableRec t = true /\ t < P.types.size) ->
  DataW.TrodAll enc P W 0 (fun _=>true) true ts vs ds p->DataW.TrodAll enc P W' 0 (fun b=>decide (b < W.heap.size)) true ts vs ds p
 | [],[],[],_,_,h=>h
 | [],_ :: _,_,_,_,h=>by simp [DataW.TrodAll] at h
 | [],[],_ :: _,_,_,h=>by simp [DataW.TrodAll] at h
 | _ :: _,[],_,_,_,h=>by simp [DataW.TrodAll] at h
 | _ :: _,_ :: _,[],_,_,h=>by simp [DataW.TrodAll] at h
 | t :: ts,v :: vs,d :: ds,_,ht,h=>by
  have hlt:=h.lt
  obtain ⟨p,q,hd,hr,rfl⟩:=h
  exact ⟨p,q,Below.trod hl (ht t (by simp)).1 (ht t (by simp)).2 hd hb (fun x hx=>hlt x (List.mem_append_left _ hx)),trodAll_again hl hb ts vs ds q (fun t h=>ht t (List.mem_cons_of_mem _ h)) hr,rfl⟩
def readB (P : Program) (ts : List TypeId) : Bool:=laidOutB P && ts.all fun t=>P.readableRec t && decide (t < P.types.size)
theorem law_of_con {Q : TypeId->DataW H->Prop} {K : Ty->Nat->Prop} (hQ : Small H P Q K) {f : FuncId} {fn : Func} {ps : Ty} {run : ps.den->Option Bool} {s : ChangeSpec} {tb : TypeId} {n : Nat} (hcon : Con P f ⟨ps,.bool,false,run⟩)
  (hts : ArgTys P ps fn.params.toList) (hn : fn.params.toList.length = n) (hres : fn.resultTypes.toList = [tb]) (hb : P.underlying tb = some .bool) (hread : readB P fn.params.toList = true) (hvars : s.vars = [])
  (hfn : ∀ ds : List (DataW H),ds.length = n->s.fn H ds = { results:=[.lit (.bool true)],args:=ds }) (law : ∀ x,Fit K ps x->run x = some true)
  {W w2 : World} {r : Reach} {base : Nat} {args : Array Value} {ds gs : List (DataW H)} {before : List MemPlace} (hgl : GlobOk (argEnv W))
  (hval : ∀ (j : Nat) t v,fn.params[j]? = some t->args[j]? = some v->Value.okWide P w2 r base t v)
  (hW : DataW.Whole enc P fn.params.toList s.vars false W args.toList ds gs before) (hq : ∀ (j : Nat) t d,fn.params.toList[j]? = some t->ds[j]? = some d->Q t d) :
  Calls P f args W fun e W'=>∃ v,e = .returned v /\ s.post enc P fn false true false false W args v W':=by
 have hW0:=hW
 obtain ⟨p,q,hA,hV,hpq,_,_⟩:=hW
 rw [hvars] at hV
 have hgs : gs = [] /\ q = []:=by
  cases gs with
  | nil=>exact ⟨rfl,hV⟩
  | cons _ _=>exact absurd hV (by simp [DataW.TrodVars])
 obtain ⟨rfl,rfl⟩:=hgs
 obtain ⟨x,hx,hfit⟩:=args_of_trod hQ ps _ _ _ _ hts hA (w2:=w2) (r:=r) (base:=base) (fun j t v h1 h2=>hval j t v (by simpa using h1) (by simpa using h2)) hq
 simp only [readB,Bool.and_eq_true,List.all_eq_true,decide_eq_true_eq] at hread
 refine (hcon W (fun b _=>b < W.heap.size) x true args ⟨fun b m h=>h,hgl⟩ (law x hfit) hx).mono fun e W' ⟨v,he,hbel,hv⟩=>?_
 subst he
 have hvb : v = .bool true:=by
  simp only [OutAt,AtD,Ty.isAgg,FlatD,List.cons.injEq,and_true] at hv
  exact hv
 subst hvb
 have hlen : ds.length = n:=by
  rw [<- hn]
  have : ∀ {ts : List TypeId} {vs : List Value} {ds : List (DataW H)} {p : List MemPlace},DataW.TrodAll enc P W 0 (fun _=>true) true ts vs ds p->ds.length = ts.length:=by
   intro ts
   induction ts with
   | nil=>intro vs ds p h; cases vs <;> cases ds <;> simp_all [DataW.TrodAll]
   | cons t ts ih =>
    intro vs ds p h
    cases vs <;> cases ds <;> simp [DataW.TrodAll] at h ⊢
    obtain ⟨_,_,_,h,_⟩:=h
    exact ih h
  exact this hA
 have hres2 : fn.resultTypes.size = 1:=by rw [<- Array.length_toList,hres]; rfl
 refine ⟨_,rfl,ds,[],before,[],p,[],hW0,?_,?_,?_,hbel.frame _,fun h=>by cases h⟩
 ·rw [hres,hres2,List.append_nil,hfn ds hlen]
  exact ⟨[],[],⟨1,by simp [DataW.trod,hb,Value.cells]⟩,rfl,rfl⟩
 ·rw [List.append_nil,hfn ds hlen]
  exact trodAll_again hread.1 hbel _ _ _ _ (fun t ht=>by simpa using hread.2 t ht) hA
 ·rw [List.append_nil,hfn ds hlen,hvars]
  rfl
theorem light_of {ts vs : List TypeId} {ds gs : List (DataW H)} (h : (DataW.weightsEach P (ts ++ vs) (ds ++ gs)).all (· <= reachBytes) = true) : ∀ (j : Nat) t d,ts[j]? = some t->ds[j]? = some d->light H P t d:=fun j t d h1 h2 n hn=>by
 have l1 : j < ts.length:=by
  rcases Nat.lt_or_ge j ts.length with h | h
  ·exact h
  ·rw [List.getElem?_eq_none h] at h1; cases h1
 have l2 : j < ds.length:=by
  rcases Nat.lt_or_ge j ds.length with h | h
  ·exact h
  ·rw [List.getElem?_eq_none h] at h2; cases h2
 have:=List.all_eq_true.1 h n (DataW.weights_mem_each (j:=j) (t:=t) (d:=d) (by rw [List.getElem?_append_left l1]; exact h1) (by rw [List.getElem?_append_left l2]; exact h2) n hn)
 simpa using this
end
end Go.Bx
namespace Go.Bx
set_option linter.unusedVariables false
set_option linter.unusedSimpArgs false
open Go Go.RowKit
def eqP : List Step->List Step->Bool
 | [],[]=>true
 | .idx i :: p,.idx j :: q=>decide (i = j) && eqP p q
 | .fld i :: p,.fld j :: q=>Nat.beq i j && eqP p q
 | _,_=>false
theorem eqP_eq : ∀ {p q : List Step},eqP p q = true->p = q
 | [],[],_=>rfl
 | .idx i :: p,.idx j :: q,h=>by
  simp only [eqP,Bool.and_eq_true,decide_eq_true_eq] at h
  rw [h.1,eqP_eq h.2]
 | .fld i :: p,.fld j :: q,h=>by
  simp only [eqP,Bool.and_eq_true] at h
  rw [Nat.eq_of_beq_eq_true h.1,eqP_eq h.2]
 | [],_ :: _,h=>by simp [eqP] at h
 | .idx _ :: _,[],h=>by simp [eqP] at h
 | .fld _ :: _,[],h=>by simp [eqP] at h
 | .idx _ :: _,.fld _ :: _,h=>by simp [eqP] at h
 | .fld _ :: _,.idx _ :: _,h=>by simp [eqP] at h
def both (a b : Option (List V)) : Option (List V):=match a with
 | some l=>match b with
  | some m=>some (l ++ m)
  | none=>none
 | none=>none
theorem both_some {a b : Option (List V)} {l : List V} (h : both a b = some l) : ∃ x y,a = some x /\ b = some y /\ l = x ++ y:=by
 unfold both at h
 split at h
 ·split at h
  ·cases h; exact ⟨_,_,rfl,rfl,rfl⟩
  ·cases h
 ·cases h
def okIf (c : Bool) (l : List V) : Option (List V):=match c with
 | true=>some l
 | false=>none
theorem okIf_some {c : Bool} {l m : List V} (h : okIf c l = some m) : c = true /\ m = l:=by
 cases c <;> simp [okIf] at h
 exact ⟨rfl,h.symm⟩
mutual
def matV : V->V->Option (List V)
 | .any,.any=>some []
 | .data t _,.data t' x=>okIf (decide (t' = t)) [.data t' x]
 | .nilp,.nilp=>some []
 | .snil,.snil=>some []
 | .ref i u p,.ref i' u' p'=>okIf (Nat.beq i i' && Nat.beq u u' && eqP p p') []
 | .iref t _,.iref t' x=>okIf (decide (t' = t)) [.data t' x]
 | .tup l,.tup l'=>matL l l'
 | .fn f a b,.fn f' a' b'=>match Nat.beq f f' with
  | true=>both (matL a a') (matL b b')
  | false=>none
 | .full t _,.full t' l=>okIf (decide (t' = t)) [.data (.sl t') l]
 | .app i u,.app i' u'=>okIf (Nat.beq i i' && Nat.beq u u') []
 | .view i p t n _ _,.view i' p' t' n' lo hi=>okIf (Nat.beq i i' && eqP p p' && decide (t' = t) && Nat.beq n n') [.data (.int .i64) lo,.data (.int .i64) hi]
 | .agg t l,.agg t' l'=>match decide (t' = t) with
  | true=>matL l l'
  | false=>none
 | .ifc t v,.ifc t' v'=>match Nat.beq t t' with
  | true=>matV v v'
  | false=>none
 | .map i,.map i'=>okIf (Nat.beq i i') []
 | _,_=>none
def matL : List V->List V->Option (List V)
 | [],[]=>some []
 | v :: l,v' :: l'=>both (matV v v') (matL l l')
 | _,_=>none
end
mutual
def filV : V->List V->Option (V × List V)
 | .data _ _,.data t x :: r=>some (.data t x,r)
 | .iref _ _,.data t x :: r=>some (.iref t x,r)
 | .full _ _,.data (.sl t) x :: r=>some (.full t x,r)
 | .view i p t n _ _,.data (.int _) lo :: .data (.int _) hi :: r=>some (.view i p t n lo hi,r)
 | .tup l,r=>match filL l r with
  | some (l',r')=>some (.tup l',r')
  | none=>none
 | .fn f a b,r=>match filL a r with
  | some (a',r')=>match filL b r' with
   | some (b',r2)=>some (.fn f a' b',r2)
   | none=>none
  | none=>none
 | .agg t l,r=>match filL l r with
  | some (l',r')=>some (.agg t l',r')
  | none=>none
 | .ifc t v,r=>match filV v r with
  | some (v',r')=>some (.ifc t v',r')
  | none=>none
 | .any,r=>some (.any,r)
 | .nilp,r=>some (.nilp,r)
 | .snil,r=>some (.snil,r)
 | .ref i u p,r=>some (.ref i u p,r)
 | .app i u,r=>some (.app i u,r)
 | .map i,r=>some (.map i,r)
 | _,_=>none
def filL : List V->List V->Option (List V × List V)
 | [],r=>some ([],r)
 | v :: l,r=>match filV v r with
  | some (v',r')=>match filL l r' with
   | some (l',r2)=>some (v' :: l',r2)
   | none=>none
  | none=>none
end
mutual
theorem fil_mat : ∀ (p v : V) (l r : List V),matV p v = some l->filV p (l ++ r) = some (v,r)
 | .any,v,l,r,h=>by cases v <;> simp [matV] at h; subst h; rfl
 | .nilp,v,l,r,h=>by cases v <;> simp [matV] at h; subst h; rfl
 | .snil,v,l,r,h=>by cases v <;> simp [matV] at h; subst h; rfl
 | .data t x,v,l,r,h=>by
  cases v <;> simp only [matV,reduceCtorEq] at h
  obtain ⟨h1,rfl⟩:=okIf_some h
  rfl
 | .iref t x,v,l,r,h=>by
  cases v <;> simp only [matV,reduceCtorEq] at h
  obtain ⟨h1,rfl⟩:=okIf_some h
  rfl
 | .full t x,v,l,r,h=>by
  cases v <;> simp only [matV,reduceCtorEq] at h
  obtain ⟨h1,rfl⟩:=okIf_some h
  rfl
 | .ref i u p,v,l,r,h=>by
  cases v <;> simp only [matV,reduceCtorEq] at h
  obtain ⟨h1,rfl⟩:=okIf_some h
  simp only [Bool.and_eq_true] at h1
  rw [<- Nat.eq_of_beq_eq_true h1.1.1,<- Nat.eq_of_beq_eq_true h1.1.2,<- eqP_eq h1.2]
  rfl
 | .app i u,v,l,r,h=>by
  cases v <;> simp only [matV,reduceCtorEq] at h
  obtain ⟨h1,rfl⟩:=okIf_some h
  simp only [Bool.and_eq_true] at h1
  rw [<- Nat.eq_of_beq_eq_true h1.1,<- Nat.eq_of_beq_eq_true h1.2]
  rfl
 | .map i,v,l,r,h=>by
  cases v <;> simp only [matV,reduceCtorEq] at h
  obtain ⟨h1,rfl⟩:=okIf_some h
  rw [<- Nat.eq_of_beq_eq_true h1]
  rfl
 | .view i p t n lo hi,v,l,r,h=>by
  cases v <;> simp only [matV,reduceCtorEq] at h
  obtain ⟨h1,rfl⟩:=okIf_some h
  simp only [Bool.and_eq_true,decide_eq_true_eq] at h1
  rw [<- Nat.eq_of_beq_eq_true h1.1.1.1,<- eqP_eq h1.1.1.2,h1.1.2,<- Nat.eq_of_beq_eq_true h1.2]
  rfl
 | .tup a,v,l,r,h=>by
  cases v <;> simp only [matV,reduceCtorEq] at h
  simp only [filV]
  rw [fil_matL a _ l r h]
 | .agg t a,v,l,r,h=>by
  cases v <;> simp only [matV,reduceCtorEq] at h
  split at h
  ·rename_i ht
   simp only [filV]
   rw [fil_matL a _ l r h]
   have:=of_decide_eq_true ht
   rw [this]
  ·cases h
 | .ifc t a,v,l,r,h=>by
  cases v <;> simp only [matV,reduceCtorEq] at h
  split at h
  ·rename_i ht
   simp only [filV]
   rw [fil_mat a _ l r h,Nat.eq_of_beq_eq_true ht]
  ·cases h
 | .fn f a b,v,l,r,h=>by
  cases v <;> simp only [matV,reduceCtorEq] at h
  split at h
  ·rename_i ht
   obtain ⟨x,y,h1,h2,rfl⟩:=both_some h
   simp only [filV]
   rw [List.append_assoc,fil_matL a _ x _ h1]
   simp only
   rw [fil_matL b _ y _ h2,Nat.eq_of_beq_eq_true ht]
  ·cases h
 | .opt d w a,v,l,r,h=>by cases v <;> simp only [matV,reduceCtorEq] at h
theorem fil_matL : ∀ (p v : List V) (l r : List V),matL p v = some l->filL p (l ++ r) = some (v,r)
 | [],[],l,r,h=>by simp only [matL,Option.some.injEq] at h; subst h; rfl
 | [],_ :: _,l,r,h=>by simp [matL] at h
 | _ :: _,[],l,r,h=>by simp [matL] at h
 | a :: p,v :: vs,l,r,h=>by
  simp only [matL] at h
  obtain ⟨x,y,h1,h2,rfl⟩:=both_some h
  simp only [filL]
  rw [List.append_assoc,fil_mat a v x _ h1]
  simp only
  rw [fil_matL p vs y _ h2]
end
def matB : Blk->Blk->Option (List V)
 | .cell t v z,.cell t' v' z'=>match decide (t' = t) && (z == z') with
  | true=>matV v v'
  | false=>none
 | .buf t _ u z,.buf t' l u' z'=>okIf (decide (t' = t) && Nat.beq u u' && (z == z')) [.data (.sl t') l]
 | .map k v _,.map k' v' l=>okIf (decide (k' = k) && decide (v' = v)) [.data (.sl (.pair k' v')) l]
 | _,_=>none
def filB : Blk->List V->Option (Blk × List V)
 | .cell t v z,r=>match filV v r with
  | some (v',r')=>some (.cell t v' z,r')
  | none=>none
 | .buf _ _ u z,.data (.sl t) l :: r=>some (.buf t l u z,r)
 | .map _ _ _,.data (.sl (.pair k v)) l :: r=>some (.map k v l,r)
 | _,_=>none
def matH : Heap->Heap->Option (List V)
 | [],[]=>some []
 | (i,b) :: r,(i',b') :: r'=>match Nat.beq i i' with
  | true=>both (matB b b') (matH r r')
  | false=>none
 | _,_=>none
def filH : Heap->List V->Option (Heap × List V)
 | [],r=>some ([],r)
 | (i,b) :: h,r=>match filB b r with
  | some (b',r')=>match filH h r' with
   | some (h',r2)=>some ((i,b') :: h',r2)
   | none=>none
  | none=>none
def hD (t : Ty) : V:=.data t t.zero
def hF (t : Ty) : V:=.full t []
def hI (t : Ty) : V:=.iref t t.zero
def hW (i : Nat) (p : List Step) (t : Ty) (n : Nat) : V:=.view i p t n 0 0
def hC (t : Ty) (v : V) (z : Bool) : Blk:=.cell t v z
def hB (t : Ty) (u : Nat) (z : Bool) : Blk:=.buf t [] u z
structure Spec where
 pa : List V
 ph : Heap
 ps : Ty
 ra : V
 rh : Heap
 rs : Ty
 run : ps.den->Option rs.den
def Spec.out (q : Spec) (y : q.rs.den) : V × Heap:=match filV q.ra (spread q.rs y) with
 | some (v,l)=>match filH q.rh l with
  | some (h,_)=>(v,h)
  | none=>(.any,[])
 | none=>(.any,[])
def Spec.start (q : Spec) (a : q.ps.den) (n : Nat) : St:=match filL q.pa (spread q.ps a) with
 | some (args,l)=>match filH q.ph l with
  | some (hp,_)=>startS (args.map sane) hp n
  | none=>⟨[],[]⟩
 | none=>⟨[],[]⟩
def Spec.h (q : Spec) (args : List V) (hp : Heap) : Option Sh:=match both (matL q.pa args) (matH q.ph hp) with
 | some l=>match getArgs q.ps l with
  | some a=>some ⟨q.rs.den,q.run a,q.out,fun _ K y=>K (q.out y),fun _ _ _=>rfl⟩
  | none=>none
 | none=>none
structure AltR where
 ra : V
 rh : Heap
 rs : Ty
def AltR.out (q : AltR) (y : q.rs.den) : V × Heap:=match filV q.ra (spread q.rs y) with
 | some (v,l)=>match filH q.rh l with
  | some (h,_)=>(v,h)
  | none=>(.any,[])
 | none=>(.any,[])
@[reducible] def AltD : List AltR->Type
 | []=>Empty
 | q :: r=>q.rs.den ⊕ AltD r
def altOut : (l : List AltR)->AltD l->V × Heap
 | [],y=>y.elim
 | q :: r,y=>Sum.elim q.out (altOut r) y
def altCs (α : Type) (K : V × Heap->Option α) : (l : List AltR)->AltD l->Option α
 | [],y=>y.elim
 | q :: r,y=>Sum.elim (fun y=>K (q.out y)) (altCs α K r) y
theorem altCs_ok (α : Type) (K : V × Heap->Option α) : ∀ (l : List AltR) (y : AltD l),altCs α K l y = K (altOut l y)
 | [],y=>y.elim
 | q :: r,y=>by
  cases y with
  | inl y=>rfl
  | inr y=>exact altCs_ok α K r y
structure SpecA where
 pa : List V
 ph : Heap
 ps : Ty
 alts : List AltR
 run : ps.den->Option (AltD alts)
def SpecA.start (q : SpecA) (a : q.ps.den) (n : Nat) : St:=match filL q.pa (spread q.ps a) with
 | some (args,l)=>match filH q.ph l with
  | some (hp,_)=>startS (args.map sane) hp n
  | none=>⟨[],[]⟩
 | none=>⟨[],[]⟩
def SpecA.h (q : SpecA) (args : List V) (hp : Heap) : Option Sh:=match both (matL q.pa args) (matH q.ph hp) with
 | some l=>match getArgs q.ps l with
  | some a=>some ⟨AltD q.alts,q.run a,altOut q.alts,fun α K y=>altCs α K q.alts y,fun α K y=>altCs_ok α K q.alts y⟩
  | none=>none
 | none=>none
section
variable {P : Program} {C : Ctx} {G0 : GE}
inductive SpX where
 | one (q : Spec)
 | alt (q : SpecA)
def SpX.h : SpX->List V->Heap->Option Sh
 | .one q=>q.h
 | .alt q=>q.h
end
end Go.Bx
namespace Go.Bx
set_option linter.unusedVariables false
set_option linter.unusedSimpArgs false
open Go Go.RowKit
def cB (f : Func) : Code:=f.body.getD .skip
def cL : Code->Code
 | .seq a _=>a | .block _ c=>c | .loop c=>c | .scope c=>c | .cond _ x _=>x | c=>c
def cR : Code->Code
 | .seq _ b=>b | .cond _ _ y=>y | c=>c
def frL : Nat->Nat->List (Nat × V)->List V
 | 0,_,_=>[]
 | n + 1,i,l=>(match look l i with
  | some v=>v
  | none=>.any) :: frL n (i + 1) l
def stL (n : Nat) (f : List (Nat × V)) (h : Heap) : St:=⟨frL n 0 f,h⟩
abbrev lq {α : Type} (C : Ctx) (key : Nat) (next : St->Option α) (Q : Ex->St->Option α) : Ex->St->Option α:=seqQ (fun S=>clean C key S next) Q
def rnd {α : Type} (C : Ctx) (k : Nat) (c : Code) (key : Nat) (Q : Ex->St->Option α) (next : St->Option α) (S : St) : Option α:=den C k c (lq C key next Q) S
def lp {α : Type} (C : Ctx) (k : Nat) (c : Code) (Q : Ex->St->Option α) (S : St) : Option α:=iter (fun next=>den C k c (seqQ (fun S=>clean C (headK c) S next) Q)) k S
abbrev DT (α : Type) : Type:=Code->(Ex->St->Option α)->St->Option α
def denJ {α : Type} (D L : DT α) (js : List Nat) (C : Ctx) : Code->(Ex->St->Option α)->St->Option α
 | .skip,Q,S=>Q .normal S
 | .label _,Q,S=>Q .normal S
 | .region _ ops draw,Q,S=>match draw with
  | false=>runL C ops ops.toList S (Q .normal)
  | true=>runD C ops (masks ops.toList []) ops.toList [] (strips S) (Q .normal)
 | .seq a b,Q,S=>denJ D L js C a (seqQ (fun S=>clean C (headK b) S (match mem js (joinK b) with
  | true=>D b Q
  | false=>denJ D L js C b Q)) Q) S
 | .cond c x y,Q,S=>match ev S.fr c with
  | .data .bool t=>if (t : Bool) = true then denJ D L js C x Q S else denJ D L js C y Q S
  | _=>none
 | .block id c,Q,S=>denJ D L js C c (blkQ C id Q) S
 | .loop c,Q,S=>clean C (headK c) S (L c Q)
 | .scope c,Q,S=>denJ D L js C c Q S
 | .exit id,Q,S=>clean C (3 * id + 1) S (Q (.exit id))
 | .ret,Q,S=>clean C 2 S (Q .ret)
 | _,_,_=>none
abbrev sq {α : Type} (D L : DT α) (js : List Nat) (C : Ctx) (b : Code) (Q : Ex->St->Option α) : Ex->St->Option α:=seqQ (fun S=>clean C (headK b) S (match mem js (joinK b) with
 | true=>D b Q
 | false=>denJ D L js C b Q)) Q
theorem denJ_den {α : Type} (js : List Nat) (C : Ctx) (k : Nat) : ∀ (c : Code) (Q : Ex->St->Option α) (S : St),denJ (den C k) (lp C k) js C c Q S = den C k c Q S
 | .skip,_,_=>rfl
 | .label _,_,_=>rfl
 | .region _ _ _,_,_=>rfl
 | .exit _,_,_=>rfl
 | .ret,_,_=>rfl
 | .loop _,_,_=>rfl
 | .seq a b,Q,S=>by
  simp only [denJ,den]
  rw [denJ_den js C k a]
  congr 2
  funext S
  congr 1
  cases mem js (joinK b) with
  | true=>rfl
  | false=>funext S; exact denJ_den js C k b Q S
 | .cond c x y,Q,S=>by
  simp only [denJ,den,denJ_den js C k x,denJ_den js C k y]
  rfl
 | .block id c,Q,S=>by simp only [denJ,den,denJ_den js C k c]
 | .scope c,Q,S=>by simp only [denJ,den,denJ_den js C k c]
 | .rangeFunc _ _ _ _,_,_=>rfl
 | .goto _,_,_=>rfl
 | .refuse _,_,_=>rfl
def fuel : Nat:=2 ^ 64
theorem via {α : Type} {k : Nat} {js : List Nat} {C : Ctx} {c : Code} {Q : DT α->DT α->Ex->St->Option α} {S : St} {r : DT α->DT α->Option α} (h : ∀ D L : DT α,denJ D L js C c (Q D L) S = r D L) : den C k c (Q (den C k) (lp C k)) S = r (den C k) (lp C k) :=
 (denJ_den js C k c (Q (den C k) (lp C k)) S).symm.trans (h _ _)
theorem iter_succ {α : Type} (F : (St->Option α)->St->Option α) (n : Nat) (S : St) : iter F (n + 1) S = F (iter F n) S:=rfl
theorem named_of {P : Program} {f : FuncId} {fn : Func} (h : P.funcs[f]? = some fn) (h1 : (fn.name == "runtime.NumGoroutine") = false) (h2 : fn.body.isNone = false) : Named P f := ⟨fn, h, h1, h2⟩
def fnL (l : List (Nat × Fn)) (f : Nat) : Option Fn:=look l f
def AllCon (P : Program) : List (Nat × Fn)->Prop
 | []=>True
 | x :: l=>Callee P x.1 x.2 /\ AllCon P l
def ptrB (P : Program) (l : List (Nat × Nat)) : Bool:=l.all fun x=>match P.underlying x.1 with
 | some (.pointer e)=>Nat.beq e x.2
 | _=>false
theorem ptr_ok {P : Program} {l : List (Nat × Nat)} (h : ptrB P l = true) : ∀ i e,look l i = some e->P.underlying i = some (.pointer e):=by
 intro i e hi
 have:=List.all_eq_true.1 h _ (look_mem hi)
 simp only at this
 split at this
 ·rename_i e' he; rw [he,Nat.eq_of_beq_eq_true this]
 ·cases this
def mpB (P : Program) (l : List (Nat × (Nat × Nat))) : Bool:=l.all fun x=>match P.underlying x.1 with
 | some (.map k e)=>Nat.beq k x.2.1 && Nat.beq e x.2.2
 | _=>false
theorem mp_ok {P : Program} {l : List (Nat × (Nat × Nat))} (h : mpB P l = true) : ∀ i k e,look l i = some (k,e)->P.underlying i = some (.map k e):=by
 intro i k e hi
 have:=List.all_eq_true.1 h _ (look_mem hi)
 simp only at this
 split at this
 ·rename_i k' e' he
  simp only [Bool.and_eq_true] at this
  rw [he,Nat.eq_of_beq_eq_true this.1,Nat.eq_of_beq_eq_true this.2]
 ·cases this
def invL (l : List (Nat × List (String × Nat))) (t : Nat) (m : String) : Option Nat:=match look l t with
 | some ms=>(ms.find? fun x=>x.1 == m).map (·.2)
 | none=>none
def invB1 (P : Program) (t : Nat) (m : String) (f : Nat) : Bool:=match P.info? t,P.underlying t with
 | some i,some d=>(match d with
  | .pointer _=>false
  | _=>true) && (match i.methods.find? (·.name == m) with
  | some r=>r.path.isEmpty && (match r.func with
   | some (f',false)=>Nat.beq f' f
   | _=>false)
  | none=>false)
 | _,_=>false
def invB (P : Program) (l : List (Nat × List (String × Nat))) : Bool:=l.all fun x=>x.2.all fun y=>invB1 P x.1 y.1 y.2
theorem inv_ok1 {P : Program} {t : Nat} {m : String} {f : Nat} (h : invB1 P t m f = true) : InvOk P t m f:=by
 intro w v
 unfold invB1 at h
 split at h
 ·rename_i i d hi hd
  simp only [Bool.and_eq_true] at h
  obtain ⟨h1,h2⟩:=h
  split at h2
  ·rename_i r hr
   simp only [Bool.and_eq_true] at h2
   obtain ⟨h3,h4⟩:=h2
   split at h4
   ·rename_i f' hf
    have e:=Nat.eq_of_beq_eq_true h4
    subst e
    have hp : r.path.toList = []:=by simpa using h3
    obtain ⟨n,hn⟩ : ∃ n,P.types.size + Made.depth = n + 1:=⟨P.types.size + Made.depth - 1,by unfold Made.depth; omega⟩
    have hm : (method (P.types.size + Made.depth) t v m).run P w = .ok (f',v) w:=by
     rw [hn]
     simp only [method,Sem.run_bind,typeInfo,run_program,Result.andThen_ok,hi,Sem.run_pure,hr,hp,follow,hf]
     cases d <;> first | (simp at h1; done) | simp [receiverAt,run_underlying hd,Place.get]
    refine ⟨fun args=>by simp only [callMethod,Sem.run_bind,run_program,Result.andThen_ok,hm],?_⟩
    rw [hn]
    simp only [nilAhead,Sem.run_bind,typeInfo,run_program,Result.andThen_ok,hi,Sem.run_pure,hr,hp,followBlind,hf]
    cases d <;> first | (simp at h1; done) | simp [run_underlying hd]
   ·cases h4
  ·cases h2
 ·cases h
theorem inv_ok {P : Program} {l : List (Nat × List (String × Nat))} (h : invB P l = true) : ∀ t m f,invL l t m = some f->InvOk P t m f:=by
 intro t m f hi
 unfold invL at hi
 split at hi
 ·rename_i ms hms
  obtain ⟨x,hx,rfl⟩:=Option.map_eq_some_iff.1 hi
  have h1:=List.all_eq_true.1 h _ (look_mem hms)
  have h2:=List.all_eq_true.1 h1 _ (List.mem_of_find?_eq_some hx)
  have h3:=List.find?_some hx
  have e : x.1 = m:=by simpa using h3
  rw [<- e]
  exact inv_ok1 h2
 ·cases hi
def noSh (_ : Nat) : Option (List V->Heap->Option Sh):=none
theorem ctx_ok {P : Program} {ty : List (Nat × Ty)} {ptr : List (Nat × Nat)} {mp : List (Nat × (Nat × Nat))} {fns : List (Nat × Fn)} {site : List (Nat × Nat)} {inv : List (Nat × List (String × Nat))} {live : List (Nat × List Nat)} {norm : List (Nat × List Norm)} {frz : List Nat} {base lim : Nat}
  (h1 : tableB P ty = true) (hp : ptrB P ptr = true) (hm : mpB P mp = true) (hi : invB P inv = true) (h2 : AllCon P fns) : CtxOk P ⟨ty,ptr,mp,fnL fns,noSh,site,invL inv,live,norm,frz,base,lim⟩ where
 ty:=table_ok h1
 ptr:=ptr_ok hp
 mp:=mp_ok hm
 sh:=fun _ _ h=>by cases h
 inv:=inv_ok hi
 fn:=fun f F h=>by
  simp only [fnL] at h
  induction fns with
  | nil=>cases h
  | cons x l ih =>
   obtain ⟨i,G⟩:=x
   simp only [look] at h
   split at h
   ·rename_i he
    cases h
    rw [Nat.eq_of_beq_eq_true he] at h2
    exact h2.1
   ·exact ih h2.2 h
theorem lp_iter {α : Type} {C : Ctx} {k : Nat} {c : Code} {Q : Ex->St->Option α} {S : St} (key : Nat) (h : headK c = key) : lp C k c Q S = iter (rnd C k c key Q) k S:=by
 subst h; rfl
theorem con_of {P : Program} {C : Ctx} (hC : CtxOk P C) (hm : P.follows .mixedOrders = true) {f : FuncId} {fn : Func} {c : Code} (hf : P.funcs[f]? = some fn) (hb : fn.body = some c) (hd : drawsOk c = true) (F : Fn) (hn : ∀ (x : F.ps.den),(spread F.ps x).length <= fn.ntmps)
  (S : F.ps.den->St) (hs : ∀ x,start F fn.ntmps x = S x) (ht : ∀ x,den C fuel c (fin C fn.results.toList F.rs F.multi) (S x) = F.run x) : Con P f F :=
 con_of_den hC hm hf hb hd F fuel hn fun x r h=>by rw [hs,ht,h]
theorem con_of2 {P : Program} {C : Ctx} (hC : CtxOk P C) (hm : P.follows .mixedOrders = true) {f : FuncId} {fn : Func} {c : Code} (hf : P.funcs[f]? = some fn) (h1 : (fn.name == "runtime.NumGoroutine") = false) (hb : fn.body = some c) (hd : drawsOk c = true) (F : Fn) (hn : ∀ (x : F.ps.den), (spread F.ps x).length <= fn.ntmps)
  (S : F.ps.den->St) (hs : ∀ x,start F fn.ntmps x = S x) (ht : ∀ x,den C fuel c (fin C fn.results.toList F.rs F.multi) (S x) = F.run x) : Con P f F /\ Named P f :=
 ⟨con_of hC hm hf hb hd F hn S hs ht,named_of hf h1 (by rw [hb]; rfl)⟩
theorem plainly {α : Type} {k : Nat} (js : List Nat) {C : Ctx} {c : Code} {Q : Ex->St->Option α} {S : St} {r : Option α} (h : denJ (den C k) (lp C k) js C c Q S = r) : den C k c Q S = r :=
 (denJ_den js C k c Q S).symm.trans h
end Go.Bx
namespace Go.Bx
set_option linter.unusedVariables false
set_option linter.unusedSimpArgs false
open Go Go.RowKit Go.ChangeShapes Go.WideShapes Go.ChangeAt
theorem ints_of_trod {H : Type} {enc : TypeId × Value->H} {P : Program} {w : World} {base : Nat} {spare : Nat->Bool} {held : Bool} {fuel : Nat} {t e : TypeId} {n : Nat} {k : IntKind} {cs : List Value} {l : List Int} {p : List MemPlace}
  (ht : P.underlying t = some (.array n e)) (he : P.underlying e = some (.int k)) (h1 : P.cellsOf e = 1) (h2 : P.cellsOf t = n)
  (h : DataW.trod enc P w base spare held fuel t cs = some (.agg (l.map fun x=>.lit (.int k x)),p)) : cs = l.map (Value.int k) /\ l.length = n:=by
 obtain ⟨xs,m,_,hx,hlen,hn,hel⟩:=DataW.trod_array ht h
 rw [h2] at hlen
 simp only [Prod.mk.injEq,DataW.agg.injEq] at hx
 have hl : l.length = n:=by
  have:=congrArg List.length hx.1
  simpa [hn] using this
 refine ⟨?_,hl⟩
 apply List.ext_getElem
 ·rw [hlen,List.length_map,hl]
 ·intro i hi1 hi2
  have hin : i < n:=by omega
  have hi:=hel i hin
  rw [h1,Nat.mul_one,List.getElem?_eq_getElem (show i < xs.length by omega)] at hi
  obtain ⟨v,e1,e2,_⟩:=DataW.trod_int he hi
  have hd : (cs.drop i).take 1 = [cs[i]]:=by
   rw [List.drop_eq_getElem_cons hi1]; rfl
  rw [hd] at e1
  have e1 : cs[i] = Value.int k v:=by simpa using e1
  have hm : (l.map fun x=>(DataW.lit (.int k x) : DataW H))[i]? = (xs.map (·.1))[i]?:=by rw [hx.1]
  rw [List.getElem?_map,List.getElem?_map,List.getElem?_eq_getElem (show i < xs.length by omega),List.getElem?_eq_getElem (show i < l.length by omega)] at hm
  simp only [Option.map_some,Option.some.injEq] at hm
  rw [e2] at hm
  simp only [DataW.lit.injEq,Lit.int.injEq,true_and] at hm
  rw [e1,List.getElem_map,hm]
theorem flat_ints {E : Env} {k : IntKind} : ∀ (l : List Int),(∀ x ∈ l,inR k x = true)->All2 (FlatD E (.int k)) l (l.map fun x=>[Value.int k x]) /\ (l.map fun x=>[Value.int k x]).flatten = l.map (Value.int k)
 | [],_=>⟨trivial,rfl⟩
 | a :: l,h=>by
  obtain ⟨h1,h2⟩:=flat_ints l fun x hx=>h x (List.mem_cons_of_mem _ hx)
  exact ⟨⟨⟨rfl,h a (by simp)⟩,h1⟩,by simp [h2]⟩
theorem glob_one {P : Program} {W : World} {name : String} {g : Nat} {k : IntKind} {n : Nat} {l : List Int} {cs : Array Value} (hg : P.globalNamed name = some g) (hv : W.var? P name = some cs) (hcs : cs.toList = l.map (Value.int k)) (hl : l.length = n) (hr : ∀ x ∈ l,inR k x = true) :
  ∃ ds,(ds = [] \/ ∃ m,ds.length <= m /\ (argEnv W).im g m) /\ (∀ j u,ds[j]? = some u->(argEnv W).w.cell? ⟨g,j,none⟩ = some u) /\ FlatD (argEnv W) (.arr n (.int k)) l ds:=by
 obtain ⟨h1,h2⟩:=flat_ints (E:=argEnv W) (k:=k) l hr
 refine ⟨l.map (Value.int k),?_,fun j u hj=>?_,hl,_,h2.symm,h1⟩
 ·by_cases h0 : l = []
  ·left; rw [h0]; rfl
  ·right
   refine ⟨(l.map (Value.int k)).length,Nat.le_refl _,?_⟩
   show g < W.heap.size
   have hv':=hv
   simp only [World.var?,hg,Option.bind_some] at hv'
   by_cases hlt : g < W.heap.size
   ·exact hlt
   ·rw [Array.getElem?_eq_none (by omega)] at hv'
    simp at hv'
 ·show W.cell? ⟨g,j,none⟩ = some u
  rw [World.var?_cell hg hv j,<- hj,<- hcs]
  simp
end Go.Bx
