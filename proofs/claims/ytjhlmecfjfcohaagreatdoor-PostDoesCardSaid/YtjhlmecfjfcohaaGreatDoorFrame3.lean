/- A part of a framework that reads Go code as functions of plain data. -/
import Derived.Test.YtjhlmecfjfcohaaGreatDoorFrame2
import Derived.Scope
import Derived.ProofKit
import Derived.OpenShut
import Derived.Deep.Slices
import Derived.SizedLaws
import Derived.Carry
import Derived.LaidMore
import Derived.LaidLaws
open Bool (and_eq_true)
open List (all_eq_true append_nil getElem?_eq_getElem isEmpty_iff length_eq_one_iff mem_cons_of_mem mem_map range take_append_drop)
open Nat (beq ble blt eq_of_beq_eq_true le_refl)
open Option (map_eq_some_iff)
set_option maxRecDepth 100000
set_option linter.unusedVariables false
set_option linter.unusedSimpArgs false
namespace Go.Bx
open Go Go.RowKit
section
variable {P : Program} {C : Ctx} {G : GE} {G0 : GE} {S : St} {a : Act} {w : World} {β : Nat->Option Nat} {σ : Nat->Value}
theorem uo (l : List Nat) : ∀ (s : Nat) (fr : List V),(sL l s fr).length = fr.length
 | _,[]=>rfl
 | s,_ :: r=>by simp [sL,uo l (s + 1) r]
theorem Bm (l : List Nat) : ∀ (s : Nat) (fr : List V) (i : Nat),nth (sL l s fr) i = if mem l (s + i) then fQ (nth fr i) else .any
 | s,[],i=>by simp [sL,nth,fQ]
 | s,v :: r,0=>by simp [sL,nth]
 | s,v :: r,i + 1=>by
  simp only [sL,nth]
  rw [Bm l (s + 1) r i,show s + 1 + i = s + (i + 1) by omega]
theorem zL (ρ : Nat->Nat->Option (Nat × Nat)) : ∀ (l : List V) (i : Nat),nth (mY ρ l) i = i7 ρ (nth l i)
 | [],i=>by simp [mY,nth,i7]
 | v :: l,0=>by simp [mY,nth]
 | v :: l,i + 1=>by simp [mY,nth,zL ρ l i]
theorem rI (ρ : Nat->Nat->Option (Nat × Nat)) : ∀ l : List V,(mY ρ l).length = l.length
 | []=>rfl
 | v :: l=>by simp [mY,rI ρ l]
theorem qz (p : Nat->Bool) (f : Nat->jz->jz) : ∀ (hp : aL) (i : Nat),aq ((hp.filter fun x=>p x.1).map fun x=>(x.1,f x.1 x.2)) i = if p i = true then (aq hp i).map (f i) else none
 | [],i=>by simp [aq,look]
 | (j,b) :: r,i=>by
  have ih:=qz p f r i
  simp only [aq] at ih ⊢
  by_cases hj : p j = true
  ·rw [List.filter_cons_of_pos (by simpa using hj)]
   simp only [List.map_cons,look]
   by_cases hji : beq j i = true
   ·simp_all
   grind
  ·rw [List.filter_cons_of_neg (by simpa using hj)]
   simp only [look]
   by_cases hji : beq j i = true
   ·simp_all
   grind
theorem N3 (ρ : Nat->Nat->Option (Nat × Nat)) (i : Nat) (b : jz) (m : Nat) : (Fg C i (oF ρ b)).im m ↔ b.im m:=by
 cases b <;> exact Iff.rfl
theorem qp.tidy {ρ : Nat->Nat->Option (Nat × Nat)} {hp2 : aL} (hM : Mv ρ G (G.eW hp2)) {i : Nat} {blk : jz} (h : qp G i blk) : qp (G.eW hp2) i (Fg C i (oF ρ blk)):=by
 cases blk with
 | cell t v z =>
  obtain ⟨b,arr,ty,g1,g2,g3⟩:=h
  exact ⟨b,arr,ty,g1,g2,g3.i7 hM⟩
 | buf t l ver z =>
  rcases h with ⟨b,arr,ty,css,cap,rest,g1,g2,g3,g4,g5,g6,g7,g8⟩ | ⟨g1,g2,g3,g4⟩
  ·exact .inl ⟨b,arr,ty,css,cap,rest,g1,g2,g3,g4.mono fun _ _ h=>h.ext hM.env,g5,g6,g7,g8⟩
  ·exact .inr ⟨g1,g2,g3.ext hM.env,g4⟩
 | map k v l =>
  obtain ⟨b,es,clock,g1,g2,g3,g4⟩:=h
  exact ⟨b,es,clock,g1,g2,g3.mono fun _ _ h=>⟨h.1.ext hM.env,h.2.ext hM.env⟩,g4⟩
structure Fy (C : Ctx) (G0 : GE) : Prop where
 low : ∀ i blk,aq G0.hp i = some blk->blt i C.base = true
 fst : ∀ i t l v z,aq G0.hp i = some (.buf t l v z)->v = 0
theorem Rel.tidy (h0 : Fy C G0) (h : Rel G0 S a w β σ) (l : List Nat) : Rel G0 (tidy C l S) a w β σ:=by
 have key : ∀ (R : List Nat) (hpn : aL),(∀ i,aq hpn i = if (blt i C.base || mem R i) = true then (aq S.hp i).map fun b=>Fg C i (oF (sH C R S.hp) b) else none)->Rel G0 ⟨mY (sH C R S.hp) (sL l 0 S.fr),hpn⟩ a w β σ:=by
  intro R hpn hp2
  have FM : ∀ {i b2},aq hpn i = some b2->∃ b,aq S.hp i = some b /\ b2 = Fg C i (oF (sH C R S.hp) b):=fun {i b2} hb=>by
   rw [hp2] at hb
   split at hb
   ·obtain ⟨b,e1,e2⟩:=Option.map_eq_some_iff.1 hb
    grind
   ·cases hb
  have hE : Ext (GE.env (G0.at w β σ S.hp)) (GE.env (G0.at w β σ hpn)):=by
   refine ⟨fun b m ⟨k1,k2,k3⟩=>⟨k1,k2,fun id blk hb hβ=>?_⟩,fun _ _ _ _ _=>rfl⟩
   obtain ⟨b0,e1,rfl⟩:=FM hb
   exact (N3 _ _ _ _).2 (k3 id b0 e1 hβ)
  have hM : Mv (sH C R S.hp) (G0.at w β σ S.hp) (G0.at w β σ hpn):=by
   refine ⟨hE,fun id ver j u blk hρ hb=>?_⟩
   unfold sH at hρ
   split at hρ
   ·rename_i hk
    have hb' : aq S.hp id = some blk:=hb
    rw [hb'] at hρ
    have hn : aq hpn id = some (Fg C id (oF (sH C R S.hp) blk)):=by rw [hp2,if_pos hk,hb']; rfl
    cases blk with
    | cell t v z=>cases hρ; exact ⟨_,hn,rfl,rfl⟩
    | map k v l=>cases hρ; exact ⟨_,hn,rfl,rfl,rfl⟩
    | buf t l c z =>
     simp only at hρ
     split at hρ
     ·rename_i hvc
      cases hρ
      exact ⟨_,hn,fun _=>le_refl _,fun _ _=>⟨eq_of_beq_eq_true hvc,rfl,rfl,rfl,le_refl _⟩⟩
     ·cases hρ
   ·cases hρ
  have hnm : ∀ b,(G0.at w β σ hpn).named b->(G0.at w β σ S.hp).named b:=fun b ⟨id,blk,hb,hβ⟩=>by
   obtain ⟨b0,e1,_⟩:=FM hb
   exact ⟨id,b0,e1,hβ⟩
  refine ⟨⟨⟨h.tr.jP.env.trans hE,fun id ver j u blk hρ hb=>?_⟩,h.tr.os,h.tr.tape,h.tr.output,h.tr.size,h.tr.frame,fun b hb=>h.tr.own b (hnm b hb)⟩,⟨h.ok.glob.ext hE,fun id blk hb=>?_,fun id id' blk blk' b hb hb'=>?_,fun b hb=>h.ok.own b (hnm b hb),h.ok.base⟩,h.defers,?_,fun i v hv=>?_⟩
  ·simp only [vH,Option.some.injEq,Prod.mk.injEq] at hρ
   obtain ⟨rfl,rfl⟩:=hρ
   have hlow:=h0.low _ _ hb
   obtain ⟨blk2,q1,q2⟩:=h.tr.jP.blk id ver id ver blk rfl hb
   have q1' : aq S.hp id = some blk2:=q1
   refine ⟨Fg C id (oF (sH C R S.hp) blk2),?_,?_⟩
   ·show aq hpn id = _
    grind
   ·cases blk with
    | cell t v z=>cases blk2 with
     | cell t2 v2 z2=>exact q2
     | buf _ _ _ _=>exact q2.elim
     | map _ _ _=>exact q2.elim
    | map k v l=>cases blk2 with
     | map _ _ _=>exact q2
     | cell _ _ _=>exact q2.elim
     | buf _ _ _ _=>exact q2.elim
    | buf t l c z=>cases blk2 with
     | buf t2 l2 c2 z2 =>
      have hc:=h0.fst _ _ _ _ _ hb
      subst hc
      have hv : Db C id = 1:=by unfold Db; rw [hlow]
      refine ⟨fun hv0=>?_,fun hv0 he=>?_⟩
      ·rw [hv]; omega
      ·rw [hv] at he; omega
     | cell _ _ _=>exact q2.elim
     | map _ _ _=>exact q2.elim
  ·obtain ⟨b0,e1,rfl⟩:=FM hb
   exact (h.ok.blk id b0 e1).tidy hM
  ·obtain ⟨b0,e1,_⟩:=FM hb
   obtain ⟨b0',e1',_⟩:=FM hb'
   exact h.ok.inj id id' b0 b0' b e1 e1'
  ·simp only [rI,uo]; exact h.size
  ·simp only [zL]
   rw [Bm]
   refine bA.i7 hM _ _ ?_
   split
   ·exact (h.fr i v hv).fQ
   ·exact .any
 unfold Bx.tidy
 generalize lE S.hp 6 _ = R
 exact key R _ (qz (fun i=>blt i C.base || mem R i) (fun i b=>Fg C i (oF (sH C R S.hp) b)) S.hp)
theorem Fm (f : jz->jz) : ∀ (hp : aL) (i : Nat),aq (hp.map fun x=>(x.1,f x.2)) i = (aq hp i).map f
 | [],i=>rfl
 | (a,b) :: r,i=>by
  have ih:=Fm f r i
  unfold aq at ih ⊢
  simp only [List.map_cons,look]
  grind
theorem Rel.name (h0 : Fy C G0) (h : Rel G0 S a w β σ) {j cur i : Nat} {t : Ty} {l : List t.den} {z : Bool} (hj : aq S.hp j = some (.buf t l cur z)) (hf : aq S.hp i = none) (hlow : ¬ blt i C.base = true) :
  Rel G0 (B3 j cur i t l z S) a w (iL (iL β j none) i (β j)) (iL (iL σ j (.slice none 0 0)) i (σ j)):=by
 have hij : i ≠ j:=fun e=>by rw [e,hj] at hf; cases hf
 have hji : j ≠ i:=fun e=>hij e.symm
 have hn : ∀ k,aq (B3 j cur i t l z S).hp k = if k = i then some (.buf t l 0 z) else if k = j then some (.buf t [] (cur + 1) z) else (aq S.hp k).map (oF (Ny j cur i)):=fun k=>by
  unfold B3
  simp only []
  rw [bG,bG,Fm]
 have hbi : iL (iL β j none) i (β j) i = β j:=bR _ _ _
 have hbj : iL (iL β j none) i (β j) j = none:=by rw [jR _ _ hji]; exact bR _ _ _
 have hbk : ∀ k,k ≠ i->k ≠ j->iL (iL β j none) i (β j) k = β k:=fun k h1 h2=>by rw [jR _ _ h1,jR _ _ h2]
 have hsi : iL (iL σ j (.slice none 0 0)) i (σ j) i = σ j:=bR _ _ _
 have hsj : iL (iL σ j (.slice none 0 0)) i (σ j) j = .slice none 0 0:=by rw [jR _ _ hji]; exact bR _ _ _
 have hsk : ∀ k,k ≠ i->k ≠ j->iL (iL σ j (.slice none 0 0)) i (σ j) k = σ k:=fun k h1 h2=>by rw [jR _ _ h1,jR _ _ h2]
 generalize hB : iL (iL β j none) i (β j) = β' at *
 generalize hS : iL (iL σ j (.slice none 0 0)) i (σ j) = σ' at *
 generalize hH : (B3 j cur i t l z S).hp = hp' at *
 have FM : ∀ {k b2},aq hp' k = some b2->k ≠ i->k ≠ j->∃ b,aq S.hp k = some b /\ b2 = oF (Ny j cur i) b:=fun {k b2} hb h1 h2=>by
  rw [hn,if_neg h1,if_neg h2] at hb
  obtain ⟨b,e1,e2⟩:=Option.map_eq_some_iff.1 hb
  grind
 have ati : ∀ {b2},aq hp' i = some b2->b2 = .buf t l 0 z:=fun hb=>by rw [hn,if_pos rfl] at hb; cases hb; rfl
 have atj : ∀ {b2},aq hp' j = some b2->b2 = .buf t [] (cur + 1) z:=fun hb=>by rw [hn,if_neg hji,if_pos rfl] at hb; cases hb; rfl
 have hE : Ext (GE.env (G0.at w β σ S.hp)) (GE.env (G0.at w β' σ' hp')):=by
  refine ⟨fun b m ⟨k1,k2,k3⟩=>⟨k1,k2,fun id blk hb hβ=>?_⟩,fun _ _ _ _ _=>rfl⟩
  have hb : aq hp' id = some blk:=hb
  have hβ : β' id = some b:=hβ
  by_cases e1 : id = i
  ·subst e1
   have:=ati hb
   subst this
   rw [hbi] at hβ
   have:=k3 j (.buf t l cur z) hj hβ
   exact this
  ·by_cases e2 : id = j
   ·grind
   ·obtain ⟨b0,q1,rfl⟩:=FM hb e1 e2
    rw [hbk id e1 e2] at hβ
    have:=k3 id b0 q1 hβ
    cases b0 <;> exact this
 have hM : Mv (Ny j cur i) (G0.at w β σ S.hp) (G0.at w β' σ' hp'):=by
  refine ⟨hE,fun id ver j' u blk hρ hb=>?_⟩
  have hb : aq S.hp id = some blk:=hb
  have hni : id ≠ i:=fun e=>by rw [e,hf] at hb; cases hb
  unfold Ny at hρ
  by_cases e2 : id = j
  ·subst e2
   rw [hj] at hb; cases hb
   by_cases e3 : ver = cur
   ·subst e3
    rw [Nat.beq_refl,Nat.beq_refl] at hρ
    cases hρ
    refine ⟨.buf t l 0 z,?_,fun _=>le_refl _,fun _ _=>⟨rfl,rfl,?_,?_,le_refl _⟩⟩
    ·show aq hp' i = _
     grind
    ·exact hbi
    ·exact hsi
   ·have hv : (beq id id && beq ver cur) = false:=by
     rw [Bool.and_eq_false_iff]; right
     cases hq : beq ver cur with
     | false=>rfl
     | true=>exact absurd (eq_of_beq_eq_true hq) e3
    rw [hv] at hρ
    cases hρ
    refine ⟨.buf t [] (cur + 1) z,?_,fun hv=>Nat.le_succ_of_le hv,fun hv he=>?_⟩
    ·show aq hp' _ = _
     rw [hn,if_neg hni,if_pos rfl]
    ·omega
  ·have hv : (beq id j && beq ver cur) = false:=by
    rw [Bool.and_eq_false_iff]; left
    cases hq : beq id j with
    | false=>rfl
    | true=>exact absurd (eq_of_beq_eq_true hq) e2
   rw [hv] at hρ
   cases hρ
   refine ⟨oF (Ny j cur i) blk,?_,?_⟩
   ·show aq hp' _ = _
    rw [hn,if_neg hni,if_neg e2,hb]; rfl
   ·cases blk with
    | cell t v z=>exact ⟨rfl,hbk _ hni e2⟩
    | map k v l=>exact ⟨rfl,rfl,hbk _ hni e2⟩
    | buf t l c z=>exact ⟨fun hv=>hv,fun _ he=>⟨he,rfl,hbk _ hni e2,hsk _ hni e2,le_refl _⟩⟩
 have hnm : ∀ b,(G0.at w β' σ' hp').named b->(G0.at w β σ S.hp).named b:=fun b ⟨id,blk,hb,hβ⟩=>by
  have hb : aq hp' id = some blk:=hb
  have hβ : β' id = some b:=hβ
  by_cases e1 : id = i
  ·subst e1; rw [hbi] at hβ; exact ⟨j,_,hj,hβ⟩
  ·by_cases e2 : id = j
   ·subst e2; rw [hbj] at hβ; cases hβ
   ·obtain ⟨b0,q1,_⟩:=FM hb e1 e2
    rw [hbk id e1 e2] at hβ
    exact ⟨id,b0,q1,hβ⟩
 have hfr : (B3 j cur i t l z S).fr = mY (Ny j cur i) S.fr:=rfl
 refine ⟨?_,?_,h.defers,?_,fun k v hv=>?_⟩
 ·rw [hH]
  refine ⟨⟨h.tr.jP.env.trans hE,fun id ver j' u blk hρ hb=>?_⟩,h.tr.os,h.tr.tape,h.tr.output,h.tr.size,h.tr.frame,fun b hb=>h.tr.own b (hnm b hb)⟩
  simp only [vH,Option.some.injEq,Prod.mk.injEq] at hρ
  obtain ⟨rfl,rfl⟩:=hρ
  have hlo:=h0.low _ _ hb
  obtain ⟨blk2,q1,q2⟩:=h.tr.jP.blk id ver id ver blk rfl hb
  have q1 : aq S.hp id = some blk2:=q1
  have hni : id ≠ i:=fun e=>hlow (by rw [<- e]; exact hlo)
  by_cases e2 : id = j
  ·subst e2
   rw [hj] at q1; cases q1
   refine ⟨.buf t [] (cur + 1) z,?_,?_⟩
   ·show aq hp' _ = _
    rw [hn,if_neg hni,if_pos rfl]
   ·cases blk with
    | cell _ _ _=>exact q2.elim
    | map _ _ _=>exact q2.elim
    | buf t0 l0 c0 z0 =>
     have hc:=h0.fst _ _ _ _ _ hb
     subst hc
     exact ⟨fun hv=>by omega,fun hv he=>by omega⟩
  ·refine ⟨oF (Ny j cur i) blk2,?_,?_⟩
   ·show aq hp' _ = _
    rw [hn,if_neg hni,if_neg e2,q1]; rfl
   ·have hb1 : (G0.at w β' σ' hp').β id = (G0.at w β σ S.hp).β id:=hbk id hni e2
    have hs1 : (G0.at w β' σ' hp').σ id = (G0.at w β σ S.hp).σ id:=hsk id hni e2
    cases blk <;> cases blk2 <;> simp only [fP,oF] at q2 ⊢ <;> (first | exact q2.elim | (rw [hb1]; exact q2) | (rw [hb1,hs1]; exact q2))
 ·rw [hH]
  refine ⟨h.ok.glob.ext hE,fun id blk hb=>?_,fun id id' blk blk' b hb hb' hβ hβ'=>?_,fun b hb=>h.ok.own b (hnm b hb),h.ok.base⟩
  ·have hb : aq hp' id = some blk:=hb
   by_cases e1 : id = i
   ·subst e1
    have:=ati hb
    subst this
    rcases h.ok.blk j _ hj with ⟨b,arr,ty,css,cap,rest,g1,g2,g3,g4,g5,g6,g7,g8⟩ | ⟨g1,g2,g3,g4⟩
    ·exact .inl ⟨b,arr,ty,css,cap,rest,hbi.trans g1,hsi.trans g2,g3,g4.mono fun _ _ h=>h.ext hE,g5,g6,g7,g8⟩
    ·refine .inr ⟨hbi.trans g1,g2,?_,?_⟩
     ·show ak _ (.sl t) l [σ' id]
      rw [hsi]; exact g3.ext hE
     ·show ∃ a n,σ' id = .slice a n n
      rw [hsi]; exact g4
   ·by_cases e2 : id = j
    ·subst e2
     have:=atj hb
     subst this
     refine .inr ⟨hbj,.inr rfl,?_,⟨none,0,hsj⟩⟩
     show ak _ (.sl t) [] [σ' id]
     rw [hsj]
     exact .inl ⟨rfl,rfl⟩
    ·obtain ⟨b0,q1,rfl⟩:=FM hb e1 e2
     have hb1 : β' id = β id:=hbk id e1 e2
     have hs1 : σ' id = σ id:=hsk id e1 e2
     have ho:=h.ok.blk id b0 q1
     cases b0 with
     | cell t v z =>
      obtain ⟨b,arr,ty,g1,g2,g3⟩:=ho
      exact ⟨b,arr,ty,hb1.trans g1,g2,g3.i7 hM⟩
     | buf t l ver z =>
      rcases ho with ⟨b,arr,ty,css,cap,rest,g1,g2,g3,g4,g5,g6,g7,g8⟩ | ⟨g1,g2,g3,g4⟩
      ·exact .inl ⟨b,arr,ty,css,cap,rest,hb1.trans g1,hs1.trans g2,g3,g4.mono fun _ _ h=>h.ext hE,g5,g6,g7,g8⟩
      ·refine .inr ⟨hb1.trans g1,g2,?_,?_⟩
       ·show ak _ (.sl t) l [σ' id]
        rw [hs1]; exact g3.ext hE
       ·show ∃ a n,σ' id = .slice a n n
        rw [hs1]; exact g4
     | map k v l =>
      obtain ⟨b,es,clock,g1,g2,g3,g4⟩:=ho
      exact ⟨b,es,clock,hb1.trans g1,g2,g3.mono fun _ _ h=>⟨h.1.ext hE,h.2.ext hE⟩,g4⟩
  ·have hb : aq hp' id = some blk:=hb
   have hb' : aq hp' id' = some blk':=hb'
   have hβ : β' id = some b:=hβ
   have hβ' : β' id' = some b:=hβ'
   have step : ∀ {k bk},aq hp' k = some bk->β' k = some b->(k = i /\ β j = some b) \/ (k ≠ i /\ k ≠ j /\ β k = some b /\ ∃ b0,aq S.hp k = some b0):=fun {k bk} hk hkb=>by
    by_cases e1 : k = i
    ·subst e1; rw [hbi] at hkb; exact .inl ⟨rfl,hkb⟩
    ·by_cases e2 : k = j
     ·subst e2; rw [hbj] at hkb; cases hkb
     ·obtain ⟨b0,q1,_⟩:=FM hk e1 e2
      rw [hbk k e1 e2] at hkb
      exact .inr ⟨e1,e2,hkb,b0,q1⟩
   rcases step hb hβ with ⟨rfl,k1⟩ | ⟨n1,n2,k1,b0,q1⟩ <;> rcases step hb' hβ' with ⟨e',k2⟩ | ⟨m1,m2,k2,b1,q2⟩
   ·exact e'.symm
   ·exact absurd (h.ok.inj j id' _ b1 b hj q2 k1 k2).symm m2
   ·exact absurd (h.ok.inj id j b0 _ b q1 hj k1 k2) n2
   ·exact h.ok.inj id id' b0 b1 b q1 q2 k1 k2
 ·rw [hfr,rI]; exact h.size
 ·rw [hfr,hH,zL]
  exact bA.i7 hM _ _ (h.fr k v hv)
theorem LJ : ∀ {cs cs1 : List Value} {o : Nat},(∀ j x,cs1[j]? = some x->cs[o + j]? = some x)->o + cs1.length <= cs.length->lay cs o cs1 = cs:=by
 intro cs cs1 o h hl
 unfold lay
 apply List.ext_getElem?
 intro j
 rw [List.getElem?_append,List.getElem?_append]
 grind
theorem xS (f : V->V) : ∀ (p : List Nat) {v v' : V} {x : Value} {tm : Array Value},bA G tm v x->Jt f p v = some v' ->
  ∃ y tm',bA G tm' (mJ p v) y /\ ∀ G',mO G G'->bA G' tm' (f (mJ p v)) y->bA G' tm v' x
 | [],v,v',x,tm,h,hm=>by
  simp only [Jt,Option.some.injEq] at hm
  subst hm
  exact ⟨x,tm,h,fun _ _ h=>h⟩
 | j :: p,v,v',x,tm,h,hm=>by
  unfold Jt at hm
  split at hm
  ·grind
  ·rename_i j' p' t l e
   cases e
   split at hm
   ·rename_i hjl
    split at hm
    ·rename_i z u hz hu
     split at hm
     ·rename_i hf
      cases hm
      simp only [bA] at h
      obtain ⟨cs,rfl,hfl⟩:=h
      obtain ⟨o,ho⟩:=xV hu
      obtain ⟨a,o1,o2,cs1,g1,g2,g3,g4,g5,g6,g7⟩:=hfl.part (p:=[]) ho
      obtain ⟨e1,e2⟩:=lO g1
      subst e2
      obtain ⟨y,ey,hy,_⟩:=bA.xM g4
      obtain ⟨y',tm',k1,k2⟩:=xS f p hy hz
      refine ⟨y',tm',by simpa only [mJ] using k1,fun G' hK hfy=>?_⟩
      have hz':=k2 G' hK (by simpa only [mJ] using hfy)
      obtain ⟨q1,_⟩:=nt hf hz'
      rw [<- ey] at q1
      have hfl' : cY G' t l cs.toList:=by
       have:=cY.i7 (ρ:=vH) hK t l cs.toList hfl
       rwa [k8] at this
      obtain ⟨a',o1',o2',cs1',g1',g2',g3',g4',g5',g6',g7'⟩:=hfl'.part (p:=[]) ho
      obtain ⟨e1',e2'⟩:=lO g1'
      subst e2'
      have ho1 : o1' = o1:=by omega
      subst ho1
      have hl1 : cs1.length = cs1'.length:=by rw [g4.length,g4'.length]
      have hcs : cs1' = cs1:=by
       apply List.ext_getElem?
       grind
      subst hcs
      have:=g7' z 0 cs1' (by rw [u0 _ _ rfl]; exact q1) (by omega)
      rw [Nat.add_zero,LJ g5' g6'] at this
      exact KV (by simp only [bA]; exact ⟨cs,rfl,this⟩)
     ·cases hm
    ·cases hm
   ·cases hm
  ·cases hm
theorem wz (h : Rel G0 S a w β σ) {i : Nat} {slot : Bool} {v' : V} {S' : St} (hset : xP C i slot S v' = some S')
  (h1 : slot = true->∀ x,a.tmps[i]? = some x->bA (G0.at w β σ S.hp) a.tmps v' x)
  (h2 : slot = false->∀ b arr ty t v z,aq S.hp i = some (.cell t v z)->β i = some b->w.heap[b]? = some (.cells arr ty (0,0))->fits t v' = true->dB (G0.at w β σ S.hp) t v' arr.toList) : Rel G0 S' a w β σ:=by
 unfold xP at hset
 cases slot with
 | true =>
  cases hset
  refine ⟨h.tr,h.ok,h.defers,by simpa using h.size,fun j x hx=>?_⟩
  simp only
  rw [pO]
  split
  ·rename_i he
   obtain ⟨rfl,_⟩:=he
   exact h1 rfl x hx
  ·exact h.fr j x hx
 | false =>
  simp only at hset
  split at hset
  ·rename_i t v z hb
   split at hset
   ·rename_i hf
    cases hset
    have hb' : aq (G0.at w β σ S.hp).hp i = some (.cell t v z):=hb
    obtain ⟨b,arr,ty,g1,g2,g3⟩:=h.ok.cell hb'
    have hv:=h2 rfl b arr ty t v z hb g1 g2 hf
    obtain ⟨t1,k1⟩:=h.ok.turn (blk':=.cell t v' z) hb' (w':=w) rfl rfl rfl rfl (fun _ _=>rfl) (fun m hm=>hm) (fun _ _ _ _ _ _=>rfl) ⟨⟨rfl,rfl⟩,fun _=>⟨rfl,rfl⟩⟩ (fun _ hK=>⟨b,arr,ty,g1,g2,hv.ext hK⟩)
    exact ⟨h.tr.trans t1,k1,h.defers,h.size,fun j x hx=>(h.fr j x hx).ext t1.jP⟩
   ·cases hset
  ·cases hset
theorem Jx {hp hp' : aL} (h : xE hp hp') {i : Nat} {t t' : Ty} {v v' : V} {z z' : Bool} (h1 : aq hp i = some (.cell t v z)) (h2 : aq hp' i = some (.cell t' v' z')) : t' = t /\ v' = v:=by
 rcases h i with e | ⟨b,e1,e2⟩
 ·grind
 ·rw [h1] at e1; cases e1
  rw [e2] at h2; cases h2; exact ⟨rfl,rfl⟩
theorem JH {p : List Nat} {t : Ty} {l : List t.den} (h : mJ p .any = .full t l) : False:=by
 cases p <;> simp [mJ] at h
theorem DU (h0 : Fy C G0) (h : dP G0 S a w) {n : Norm} {S' : St} (hn : AV C S n = some S') : dP G0 S' a w:=by
 obtain ⟨β,σ,h⟩:=h
 have slotT : ∀ {i v},t7 C i true S = some v->v = fQ (nth S.fr i):=fun {i v} hs=>by simp only [t7,Option.some.injEq] at hs; exact hs.symm
 have slotF : ∀ {i v},t7 C i false S = some v->∃ t z,aq S.hp i = some (.cell t v z):=fun {i v} hs=>by
  unfold t7 at hs
  grind
 cases n with
 | dat slot i p =>
  simp only [AV] at hn
  split at hn
  ·rename_i v hs
   split at hn
   ·rename_i v' hm
    obtain ⟨t1,k1⟩:=tW (mJ p v) (G0.at w β σ S.hp) h.ok
    have h1 : Rel G0 ⟨S.fr,frz S.hp (mJ p v)⟩ a w β σ:=⟨h.tr.trans t1,k1,h.defers,h.size,fun j x hx=>(h.fr j x hx).ext t1.jP⟩
    have hrd : ∀ {tm y},bA (G0.at w β σ S.hp) tm (mJ p v) y->bA (G0.at w β σ (frz S.hp (mJ p v))) tm (Tb S.hp (mJ p v)) y:=fun {tm y} hy=>by
     unfold Tb
     split
     ·rename_i t z hr
      have:=wi (mJ p v) (G0.at w β σ S.hp) h.ok hy hr
      simp only [bA]; exact this
     ·exact .any
    refine ⟨β,σ,wz h1 hn (fun e x hx=>?_) (fun e b arr ty t v0 z hb hβ hw hf=>?_)⟩
    ·subst e
     have:=slotT hs
     subst this
     obtain ⟨y,tm',k2,k3⟩:=xS _ p (bA.fQ (tm':=a.tmps) (h.fr i x hx)) hm
     exact k3 _ t1.jP (hrd k2)
    ·subst e
     obtain ⟨t',z',hb'⟩:=slotF hs
     obtain ⟨rfl,rfl⟩:=Jx (qS (mJ p v) S.hp) hb' hb
     obtain ⟨b2,arr2,ty2,g1,g2,g3⟩:=h.ok.cell (G:=G0.at w β σ S.hp) hb'
     have g1 : β i = some b2:=g1
     have g2 : w.heap[b2]? = some (.cells arr2 ty2 (0,0)):=g2
     rw [g1] at hβ; cases hβ
     rw [g2] at hw; cases hw
     obtain ⟨x,ex,_,hx⟩:=g3
     obtain ⟨y,tm',k2,k3⟩:=xS _ p hx hm
     rw [ex]
     exact (nt hf (k3 _ t1.jP (hrd k2))).1
   ·cases hn
  ·cases hn
 | melt slot i p id z =>
  simp only [AV] at hn
  split at hn
  ·rename_i v hs
   split at hn
   ·rename_i t l hp
    split at hn
    ·rename_i hc
     simp only [and_eq_true,Bool.or_eq_true,isEmpty_iff] at hc
     split at hn
     ·rename_i v' hm
      have hfree:=md hc.1
      have pre : ∃ x tm0,bA (G0.at w β σ S.hp) tm0 v x /\ (slot = true->a.tmps[i]? = some x /\ tm0 = a.tmps) /\ (slot = false->∃ t0 z0 b arr ty,aq S.hp i = some (.cell t0 v z0) /\ β i = some b /\ w.heap[b]? = some (.cells arr ty (0,0)) /\ arr.toList = x.cells.toList):=by
       cases slot with
       | true =>
        have:=slotT hs
        subst this
        cases hx : a.tmps[i]? with
        | none =>
         exfalso
         have hge : S.fr.length <= i:=by rw [<- h.size]; exact Array.getElem?_eq_none_iff.1 hx
         rw [rO hge] at hp
         exact JH hp
        | some x=>exact ⟨x,a.tmps,bA.fQ (h.fr i x hx),fun _=>⟨rfl,rfl⟩,fun e=>by cases e⟩
       | false =>
        obtain ⟨t',z',hb'⟩:=slotF hs
        obtain ⟨b2,arr2,ty2,g1,g2,g3⟩:=h.ok.cell (G:=G0.at w β σ S.hp) hb'
        obtain ⟨x,ex,_,hx⟩:=g3
        exact ⟨x,#[],hx,(fun e=>by cases e),fun _=>⟨t',z',b2,arr2,ty2,hb',g1,g2,ex⟩⟩
      obtain ⟨x,tm0,hx,pT,pF⟩:=pre
      obtain ⟨y,tm',k2,k3⟩:=xS _ p hx hm
      rw [hp] at k2
      simp only [bA] at k2
      obtain ⟨t1,q1,q2⟩:=h.ok.Hy (id:=C.base + id) (ver:=0) (fun blk hb=>by
       have hb : aq S.hp (C.base + id) = some blk:=hb
       rw [hfree] at hb; cases hb) k2.1 k2.2 (z:=z) hc.2
      have h1 : Rel G0 ⟨S.fr,fk S.hp (C.base + id) (.buf t l 0 z)⟩ a w (iL β (C.base + id) none) (iL σ (C.base + id) y):=⟨h.tr.trans t1,q1,h.defers,h.size,fun j x hx=>(h.fr j x hx).ext t1.jP⟩
      refine ⟨_,_,wz h1 hn (fun e x' hx'=>?_) (fun e b arr ty t0 v0 z0 hb hβ hw hf=>?_)⟩
      ·obtain ⟨e1,rfl⟩:=pT e
       rw [e1] at hx'; cases hx'
       exact k3 _ t1.jP (by simp only [bA]; exact q2)
      ·obtain ⟨t',z',b2,arr2,ty2,g1,g2,g3,g4⟩:=pF e
       have hne : i ≠ C.base + id:=fun e'=>by rw [e',hfree] at g1; cases g1
       rw [bG,if_neg hne,g1] at hb
       cases hb
       rw [jR _ _ hne,g2] at hβ; cases hβ
       rw [g3] at hw; cases hw
       rw [g4]
       exact (nt hf (k3 _ t1.jP (by simp only [bA]; exact q2))).1
     ·cases hn
    ·cases hn
   ·cases hn; exact ⟨β,σ,h⟩
   ·cases hn
  ·cases hn
 | tid l =>
  simp only [AV,Option.some.injEq] at hn
  subst hn
  exact ⟨β,σ,h.tidy h0 l⟩
 | name slot i p id =>
  simp only [AV] at hn
  split at hn
  ·split at hn
   ·split at hn
    ·rename_i j ver t l cur z hb
     split at hn
     ·cases hn; exact ⟨β,σ,h⟩
     ·rename_i hfr
      cases hn
      exact ⟨_,_,h.name h0 hb (md hfr) (by simp [Nat.blt_eq])⟩
     ·cases hn
    ·cases hn
   ·cases hn
  ·cases hn
theorem wT (h0 : Fy C G0) : ∀ (ns : List Norm) {S S' : St},dP G0 S a w->Ip C ns S = some S'->dP G0 S' a w
 | [],S,S',h,hn=>by cases hn; exact h
 | n :: ns,S,S',h,hn=>by
  simp only [Ip] at hn
  split at hn
  ·rename_i S1 h1; exact wT h0 ns (DU h0 h h1) hn
  ·cases hn
theorem jd (h0 : Fy C G0) (h : dP G0 S a w) {α : Type} {key : Nat} {K : St->Option α} {r : α} (hk : clean C key S K = some r) : ∃ S',K S' = some r /\ dP G0 S' a w:=by
 unfold clean at hk
 split at hk
 ·exact ⟨S,hk,h⟩
 ·split at hk
  ·obtain ⟨β,σ,h⟩:=h
   exact ⟨_,hk,β,σ,h.tidy h0 _⟩
  ·split at hk
   ·rename_i S1 hn
    obtain ⟨β,σ,h⟩:=wT h0 _ h hn
    exact ⟨_,hk,β,σ,h.tidy h0 _⟩
   ·cases hk
end
def fC : Code->Bool
 | .region _ ops draw=>!draw || Cy ops
 | .seq a b=>fC a && fC b
 | .cond _ a b=>fC a && fC b
 | .block _ a=>fC a
 | .loop a=>fC a
 | .scope a=>fC a
 | _=>true
section
variable {P : Program} {C : Ctx} {G0 : GE}
structure Uw (G0 : GE) {α : Type} (Q : Ex->St->Option α) (r : α) (Q' : Exit->Act->World->Prop) : Prop where
 normal : ∀ S a w,Q .normal S = some r->dP G0 S a w->Q' .normal a w
 exit : ∀ id S a w,Q (.exit id) S = some r->dP G0 S a w->Q' (.exit id) a w
 ret : ∀ S a w,Q .ret S = some r->dP G0 S a w->Q' .ret a w
theorem jG (hC : il P C) (hm : P.follows .mixedOrders = true) (h0 : Fy C G0) (k : Nat) {α : Type} {r : α} : ∀ (c : Code),fC c = true->∀ (Q : Ex->St->Option α) (Q' : Exit->Act->World->Prop) (S : St) (a : Act) (w : World),Uw G0 Q r Q' ->
  den C k c Q S = some r->dP G0 S a w->c.wp P Q' a w
 | .skip,_,Q,Q',S,a,w,hQ,h,hB=>wp_skip (hQ.normal S a w h hB)
 | .label _,_,Q,Q',S,a,w,hQ,h,hB=>wp_label (hQ.normal S a w h hB)
 | .exit id,_,Q,Q',S,a,w,hQ,h,hB=>by
  obtain ⟨S',h',hB'⟩:=jd h0 hB h
  exact wp_exit (hQ.exit id _ a w h' hB')
 | .ret,_,Q,Q',S,a,w,hQ,h,hB=>by
  obtain ⟨S',h',hB'⟩:=jd h0 hB h
  exact wp_ret (hQ.ret _ a w h' hB')
 | .region id ops draw,hd,Q,Q',S,a,w,hQ,h,hB=>by
  refine C0 hC hm (K:=Q .normal) (r:=r) (fun e=>?_) (fun S a w h hB=>hQ.normal S a w h hB) ?_ hB
  ·subst e; simpa [fC] using hd
  ·cases draw <;> exact h
 | .seq x y,hd,Q,Q',S,a,w,hQ,h,hB=>by
  simp only [fC,and_eq_true] at hd
  refine wp_seq (jG hC hm h0 k x hd.1 (uV (fun S=>clean C (jr y) S (den C k y Q)) Q) _ S a w ⟨fun S a w h hB=>?_,fun id S a w h hB=>hQ.exit id S a w h hB,fun S a w h hB=>hQ.ret S a w h hB⟩ h hB)
  obtain ⟨S',h',hB'⟩:=jd h0 hB h
  exact jG hC hm h0 k y hd.2 Q Q' _ a w hQ h' hB'
 | .cond c x y,hd,Q,Q',S,a,w,hQ,h,hB=>by
  simp only [fC,and_eq_true] at hd
  simp only [den] at h
  split at h
  ·rename_i t heq
   obtain ⟨β,σ,hR⟩:=hB
   have he:=hR.ev c
   rw [heq] at he
   have he:=he.bool
   split at h
   ·rename_i ht
    exact wp_cond_true (by rw [he]; rw [show t = true from ht]) (jG hC hm h0 k x hd.1 Q Q' S a w hQ h ⟨β,σ,hR⟩)
   ·rename_i ht
    exact wp_cond_false (by rw [he]; rw [show t = false by simpa using ht]) (jG hC hm h0 k y hd.2 Q Q' S a w hQ h ⟨β,σ,hR⟩)
  ·cases h
 | .block id c,hd,Q,Q',S,a,w,hQ,h,hB=>by
  simp only [fC] at hd
  refine wp_block (jG hC hm h0 k c hd (sE C id Q) _ S a w ⟨fun S a w h hB=>?_,fun i S a w h hB=>?_,fun S a w h hB=>hQ.ret S a w h hB⟩ h hB)
  ·obtain ⟨S',h',hB'⟩:=jd h0 hB h
   exact hQ.normal _ a w h' hB'
  simp only [sE] at h
  show (if i = id then Q' .normal a w else Q' (.exit i) a w)
  split at h
  ·rename_i hi
   rw [if_pos (eq_of_beq_eq_true hi)]
   exact hQ.normal _ a w h hB
  ·rename_i hi
   rw [if_neg (fun e=>hi (by rw [e]; exact Nat.beq_refl id))]
   exact hQ.exit i S a w h hB
 | .loop c,hd,Q,Q',S,a,w,hQ,h,hB=>by
  simp only [fC] at hd
  have key : ∀ k' S a w,iter (fun next=>den C k c (uV (fun S=>clean C (jr c) S next) Q)) k' S = some r->dP G0 S a w->Code.rounds P c Q' k' a w:=by
   intro k'
   induction k' with
   | zero=>intro S a w h _; cases h
   | succ k' ih =>
    intro S a w h hB
    simp only [iter] at h
    rw [rounds_succ]
    refine jG hC hm h0 k c hd (uV (fun S=>clean C (jr c) S (iter (fun next=>den C k c (uV (fun S=>clean C (jr c) S next) Q)) k')) Q) _ S a w ⟨fun S a w h hB=>?_,fun id S a w h hB=>hQ.exit id S a w h hB,fun S a w h hB=>hQ.ret S a w h hB⟩ h hB
    obtain ⟨S',h',hB'⟩:=jd h0 hB h
    exact ih _ a w h' hB'
  obtain ⟨S',h',hB'⟩:=jd h0 hB h
  exact wp_loop_rounds k (key k _ a w h' hB')
 | .scope c,hd,Q,Q',S,a,w,hQ,h,hB=>by
  simp only [fC] at hd
  exact wp_scope_straight (jG hC hm h0 k c hd Q (Exit.noGoto Q') S a w ⟨fun S a w h hB=>hQ.normal S a w h hB,fun id S a w h hB=>hQ.exit id S a w h hB,fun S a w h hB=>hQ.ret S a w h hB⟩ h hB)
 | .rangeFunc _ _ _ _,_,_,_,_,_,_,_,h,_=>by cases h
 | .goto _,_,_,_,_,_,_,_,h,_=>by cases h
 | .refuse _,_,_,_,_,_,_,_,h,_=>by cases h
theorem oR {E : Env} : ∀ {t : Ty} {x : t.den} {vs : List Value},gX E t x vs->(spread t x).length = vs.length
 | .unit,_,_,h=>by simp only [gX] at h; subst h; rfl
 | .pair a b,x,_,⟨v,r,e,_,h2⟩=>by subst e; simp [spread,oR h2]
 | .int _,_,_,h=>h.elim
 | .bool,_,_,h=>h.elim
 | .str,_,_,h=>h.elim
 | .sl _,_,_,h=>h.elim
 | .arr _ _,_,_,h=>h.elim
 | .opq,_,_,h=>h.elim
theorem Dt {G : GE} {tm : Array Value} : ∀ {l : List V} {vs : List Value},g9 G tm l vs->∀ i x,vs[i]? = some x->bA G tm (nth l i) x
 | [],[],_,i,x,h=>by simp at h
 | v :: l,y :: vs,h,0,x,hx=>by simp only [g9] at h; simp at hx; subst hx; exact h.1
 | v :: l,y :: vs,h,i + 1,x,hx=>by simp only [g9] at h; simpa [nth] using Dt h.2 i x (by simpa using hx)
 | [],_ :: _,h,_,_,_=>by simp [g9] at h
 | _ :: _,[],h,_,_,_=>by simp [g9] at h
theorem tO : ∀ (l m : List V) (i : Nat),nth (l ++ m) i = if i < l.length then nth l i else nth m (i - l.length)
 | [],m,i=>by simp
 | v :: l,m,0=>by simp [nth]
 | v :: l,m,i + 1=>by simp only [List.cons_append,nth,tO l m i,List.length_cons,Nat.add_lt_add_iff_right,Nat.add_sub_add_right]
theorem oH : ∀ (n i : Nat),nth (List.replicate n .any) i = .any
 | 0,_=>rfl
 | _ + 1,0=>rfl
 | n + 1,i + 1=>by simpa [List.replicate_succ,nth] using oH n i
theorem nX {id : Nat} {blk : jz} (h : aq ([] : aL) id = some blk) : False:=by rw [K5] at h; cases h
abbrev bare (w : World) (I : Nat->Nat->Prop) : GE:=yd w (fun _=>none) (fun _=>.nilFunc) [] I
theorem EG {w : World} {I : Nat->Nat->Prop} (hI : ∀ b m,I b m->b < w.heap.size) : Ext (⟨w,I⟩ : Env) (bare w I).env :=
 ⟨fun b m h=>⟨.inl h,hI b m h,fun id blk hb=>(nX hb).elim⟩,fun _ _ _ _ _=>rfl⟩
theorem NG {w : World} {I : Nat->Nat->Prop} (hI : R7 w I) : cK (bare w I) :=
 ⟨hI.glob.ext (EG hI.lt),fun id blk hb=>(nX hb).elim,fun id id' blk blk' b hb=>(nX hb).elim,fun b ⟨id,blk,hb,_⟩=>(nX hb).elim,le_refl _⟩
theorem Jk {F : Fn} {x : F.ps.den} {w : World} {I : Nat->Nat->Prop} (hI : R7 w I) {args : Array Value} (ha : gX ⟨w,I⟩ F.ps x args.toList) {n : Nat} (_hn : args.size <= n) :
  dP (bare w I) (start F n x) { tmps:=args ++ Array.replicate (n - args.size) undef,defers:=[] } w:=by
 have hlen : (spread F.ps x).length = args.size:=by rw [oR ha,Array.length_toList]
 refine ⟨fun _=>none,fun _=>.nilFunc,Tr.refl _,NG hI,rfl,?_,fun i v hv=>?_⟩
 ·simp [start,oz,hlen]
 ·simp only [start,oz] at hv ⊢
  rw [tO]
  split
  ·rename_i hi
   have hv' : args.toList[i]? = some v:=by
    grind
   exact Dt (vI (G:=bare w I) (ha.ext (EG hI.lt))) i v hv'
  ·rw [oH]; exact .any
def Na (tmps : Array Value) : ResultVar->Sem Value
 | .tmp t=>pure (tmps.getD t undef)
 | .cell a t=>do loadVar t (<- asAddr (tmps.getD a undef))
theorem Gw (fn : Func) (tmps : Array Value) : results fn tmps = (do let vs <- fn.results.mapM (Na tmps); pure (if h : vs.size = 1 then vs[0] else .tuple vs)):=by
 rfl
theorem uJ {tmps : Array Value} {w : World} : ∀ {l : List ResultVar} {vs : List Value},cM (fun r v=>(Na tmps r).run P w = .ok v w) l vs ->
  (l.mapM (Na tmps)).run P w = .ok vs w
 | [],[],_=>by simp
 | r :: l,v :: vs,⟨h1,h2⟩=>by
  have ih:=uJ h2
  simp_all
section
variable {S : St} {a : Act} {w : World} {β : Nat->Option Nat} {σ : Nat->Value}
theorem GD (hC : il P C) (h : Rel G0 S a w β σ) {r : ResultVar} {v : V} (hv : Oy C S r = some v) :
  ∃ x,(Na a.tmps r).run P w = .ok x w /\ bA (G0.at w β σ S.hp) #[] v x:=by
 cases r with
 | tmp t =>
  simp only [Oy,Option.some.injEq] at hv
  subst hv
  exact ⟨a.eval (.tmp t),by simp only [Na,Sem.run_pure,Act.eval],(h.ev (.tmp t)).fQ⟩
 | cell ad t =>
  simp only [Oy] at hv
  split at hv
  ·rename_i τ id ver hτ heq
   split at hv
   ·rename_i σ' c z hb
    split at hv
    ·rename_i he
     subst he
     cases hv
     have hx:=h.ev (.tmp ad)
     simp only [Bx.ev] at hx
     rw [heq] at hx
     simp only [bA] at hx
     obtain ⟨b,o,g1,g2,g3⟩:=EY (G:=G0.at w β σ S.hp) hx hb (τ:=σ') (by cases σ' <;> rfl)
     obtain ⟨rfl,_⟩:=lO g2
     obtain ⟨b2,arr,ty,e1,e2,e3⟩:=h.ok.cell (G:=G0.at w β σ S.hp) hb
     rw [g1] at e1; cases e1
     obtain ⟨x,r1,r2⟩:=Bz (G:=G0.at w β σ S.hp) w (hC.ty _ _ hτ) ⟨b,0,none⟩ rfl e3 (fun j v hj=>by show w.cell? ⟨b,0 + j,none⟩ = some v; rw [Nat.zero_add]; exact (jT e2 j).trans hj)
     simp only [Act.eval] at g3
     refine ⟨x,?_,r2 #[]⟩
     simp only [Na,g3,asAddr,Sem.run_bind,Sem.run_pure,Result.andThen_ok,r1]
    ·cases hv
   ·cases hv
  ·cases hv
theorem kV (hC : il P C) (h : Rel G0 S a w β σ) : ∀ {l : List ResultVar} {vs : List V},FY C S l = some vs ->
  ∃ xs,cM (fun r v=>(Na a.tmps r).run P w = .ok v w) l xs /\ g9 (G0.at w β σ S.hp) #[] vs xs /\ xs.length = vs.length
 | [],vs,hv=>by simp only [FY,Option.some.injEq] at hv; subst hv; exact ⟨[],trivial,by simp [g9],rfl⟩
 | r :: l,vs,hv=>by
  simp only [FY] at hv
  split at hv
  ·rename_i v vs' h1 h2
   cases hv
   obtain ⟨x,r1,r2⟩:=GD hC h h1
   obtain ⟨xs,s1,s2,s3⟩:=kV hC h h2
   exact ⟨x :: xs,⟨r1,s1⟩,by simp only [g9]; exact ⟨r2,s2⟩,by simp [s3]⟩
  ·cases hv
end
theorem k7 {fn : Func} {tmps : Array Value} {w : World} {xs : List Value} (h : cM (fun r v=>(Na tmps r).run P w = .ok v w) fn.results.toList xs) :
  (results fn tmps).run P w = .ok (if h : xs.toArray.size = 1 then xs.toArray[0] else .tuple xs.toArray) w:=by
 have h1:=uJ (P:=P) h
 have e : fn.results.mapM (Na tmps) = (fn.results.toList.mapM (Na tmps) >>= fun l=>pure l.toArray):=by
  rw [Array.mapM_eq_mapM_toList]; rfl
 rw [Gw,e]
 simp only [Sem.run_bind,h1,Result.andThen_ok,Sem.run_pure]
theorem tR (hC : il P C) (hm : P.follows .mixedOrders = true) {f : FuncId} {fn : Func} {c : Code} (hf : P.funcs[f]? = some fn) (hb : fn.body = some c) (hd : fC c = true) (F : Fn) (k : Nat) (hn : ∀ (x : F.ps.den),(spread F.ps x).length <= fn.ntmps)
  (hF : ∀ x r,F.run x = some r->den C k c (fin C fn.results.toList F.rs F.multi) (start F fn.ntmps x) = some r) : Kp P f F:=by
 intro w I x r args hI hr ha
 have hlen : (spread F.ps x).length = args.size:=by rw [oR ha,Array.length_toList]
 refine calls_of_wp hf hb ?_
 have hB:=Jk hI ha (n:=fn.ntmps) (by rw [<- hlen]; exact hn x)
 have done : ∀ (e : Ex) (S : St) (a : Act) (w' : World),(e = .normal \/ e = .ret)->fin C fn.results.toList F.rs F.multi e S = some r->dP (bare w I) S a w' ->
   a.defers = [] /\ ∃ v,(results fn a.tmps).run P w' = .ok v w' /\ ∃ v',Ending.returned v = .returned v' /\ Below w.heap.size w w' /\ ql ⟨w',fun b m=>I b m \/ (w.heap.size <= b /\ b < w'.heap.size)⟩ F r v':=by
  intro e S a w' he hfin hB
  obtain ⟨β,σ,hR⟩:=hB
  refine ⟨hR.defers,?_⟩
  have hfin' : (match F.multi,FY C S fn.results.toList with
    | false,some [v]=>match rd S.hp v with
     | .data t' x=>sR t' F.rs x
     | _=>none
    | true,some l=>if beq l.length 1 = true then none else getArgs F.rs (tq S.hp l)
    | _,_=>none) = some r:=by
   rcases he with rfl | rfl <;> exact hfin
  have hbare : ∀ b,¬ (bare w I).named b:=fun b ⟨id,blk,hb,_⟩=>nX hb
  have hBe : Below w.heap.size w w':=⟨hR.tr.os,hR.tr.tape,hR.tr.output,hR.tr.size,fun b hb=>hR.tr.frame b hb (hbare b)⟩
  have hE : ∀ hp2,Ext (GE.env ((bare w I).at w' β σ hp2)) ⟨w',fun b m=>I b m \/ (w.heap.size <= b /\ b < w'.heap.size)⟩:=fun hp2 =>
   ⟨fun b m ⟨h1,h2,_⟩=>by
    rcases h1 with h | h | h
    ·exact .inl h
    ·exact .inr ⟨h,h2⟩
    ·exact absurd h (hbare b),fun _ _ _ _ _=>rfl⟩
  split at hfin'
  ·rename_i v' hmul hl
   split at hfin'
   ·rename_i t' x' hrd
    obtain ⟨rfl,rfl⟩:=gK hfin'
    obtain ⟨xs,s1,s2,s3⟩:=kV hC hR hl
    obtain ⟨v,rfl⟩:=List.length_eq_one_iff.1 (by simpa using s3)
    refine ⟨v,by rw [k7 s1]; simp,v,rfl,hBe,?_⟩
    unfold ql; rw [hmul]
    simp only [g9,and_true] at s2
    exact (wi v' _ hR.ok s2 hrd).ext (hE _)
   ·cases hfin'
  ·rename_i l hmul hl
   split at hfin'
   ·cases hfin'
   ·rename_i hne
    obtain ⟨xs,s1,s2,s3⟩:=kV hC hR hl
    have hne' : xs.toArray.size ≠ 1:=by
     simp_all
    refine ⟨.tuple xs.toArray,by rw [k7 s1,dif_neg hne'],.tuple xs.toArray,rfl,hBe,?_⟩
    unfold ql; rw [hmul]
    exact ⟨xs.toArray,rfl,(rN _ hR.ok hfin' s2).ext (hE _)⟩
  ·cases hfin'
 refine jG hC hm ⟨fun i blk h=>(nX h).elim,fun i t l v z h=>(nX h).elim⟩ k c hd _ _ (start F fn.ntmps x) _ w ⟨fun S a w' h hB=>?_,fun id S a w' h hB=>?_,fun S a w' h hB=>?_⟩ (hF x r hr) hB
 ·exact done .normal S a w' (.inl rfl) h hB
 ·cases h
 ·exact done .ret S a w' (.inr rfl) h hB
end
def Po : Value->Value->Bool
 | .int k n,.int k' m=>decide (k = k') && decide (n = m)
 | .bool a,.bool b=>a == b
 | .string s,.string s'=>decide (s.data = s'.data)
 | .slice none 0 0,.slice none 0 0=>true
 | _,_=>false
theorem Nh {a b : Value} (h : Po a b = true) : a = b:=by
 unfold Po at h
 split at h
 ·grind
 ·simp at h; rw [h]
 ·rename_i s s'
  have : s.data = s'.data:=of_decide_eq_true h
  cases s; cases s'; simp at this; rw [this]
 ·rfl
 ·cases h
def Oc : List Value->List Value->Bool
 | [],[]=>true
 | a :: l,b :: m=>Po a b && Oc l m
 | _,_=>false
theorem yh : ∀ {l m : List Value},Oc l m = true->l = m
 | [],[],_=>rfl
 | a :: l,b :: m,h=>by
  simp only [Oc,and_eq_true] at h
  rw [Nh h.1,yh h.2]
 | [],_ :: _,h=>by simp [Oc] at h
 | _ :: _,[],h=>by simp [Oc] at h
def Rr : Value->Bool
 | .agg _=>true
 | _=>false
def OA : Value->Bool
 | .tuple _=>false
 | .agg _=>false
 | _=>true
theorem zj {v : Value} (h : OA v = true) : eQ v:=by
 cases v <;> simp [OA] at h <;> exact ⟨rfl,by simp,by simp⟩
def Kx (f : List Value->Bool) (s : Nat) : Nat->List Value->Bool
 | 0,cs=>cs.isEmpty
 | n + 1,cs=>f (cs.take s) && Kx f s n (cs.drop s)
def nI : Ty->List Value->Bool
 | .opq,cs=>match cs with
  | [x]=>OA x
  | _=>false
 | .pair a b,cs=>nI a (cs.take a.size) && nI b (cs.drop a.size)
 | .arr n t,cs=>Kx (nI t) t.size n cs
 | .int k,cs=>Oc cs (zc (.int k))
 | .bool,cs=>Oc cs (zc .bool)
 | .str,cs=>Oc cs (zc .str)
 | .sl t,cs=>Oc cs (zc (.sl t))
 | .unit,cs=>cs.isEmpty
theorem zm {f : List Value->Bool} {s : Nat} {p : List Value->Prop} (hf : ∀ cs,f cs = true->p cs) : ∀ (n : Nat) (cs : List Value),Kx f s n cs = true->∃ css : List (List Value),css.length = n /\ cs = css.flatten /\ ∀ c ∈ css,p c
 | 0,cs,h=>by simp only [Kx,isEmpty_iff] at h; exact ⟨[],rfl,h,fun _ h=>by cases h⟩
 | n + 1,cs,h=>by
  simp only [Kx,and_eq_true] at h
  obtain ⟨css,h1,h2,h3⟩:=zm hf n _ h.2
  refine ⟨cs.take s :: css,by simp [h1],by rw [List.flatten_cons,<- h2,take_append_drop],fun c hc=>?_⟩
  grind
theorem oa : ∀ (τ : Ty) (cs : List Value),nI τ cs = true->xA τ cs
 | .opq,[x],h=>by simp only [nI] at h; exact ⟨x,rfl,zj h⟩
 | .opq,[],h=>by simp [nI] at h
 | .opq,_ :: _ :: _,h=>by simp [nI] at h
 | .pair a b,cs,h=>by
  simp only [nI,and_eq_true] at h
  exact ⟨_,_,(take_append_drop a.size cs).symm,oa a _ h.1,oa b _ h.2⟩
 | .arr n t,cs,h=>by
  simp only [nI] at h
  obtain ⟨css,h1,h2,h3⟩:=zm (oa t) n cs h
  exact ⟨css,h1,h2,h3⟩
 | .int k,cs,h=>by simp only [nI] at h; exact yh h
 | .bool,cs,h=>by simp only [nI] at h; exact yh h
 | .str,cs,h=>by simp only [nI] at h; exact yh h
 | .sl t,cs,h=>by simp only [nI] at h; exact yh h
 | .unit,cs,h=>by simp only [nI,isEmpty_iff] at h; exact h
def tt (P : Program) (i : TypeId) (τ : Ty) : Bool :=
 match P.info? i with
 | none=>false
 | some inf=>decide (inf.size = τ.size) && decide (inf.bytes = τ.bytes) && match inf.zero with
  | none=>false
  | some z=>nI τ z.cells.toList && (!τ.isAgg || Rr z) && (τ.isAgg || OA z)
theorem jc {P : Program} {i : TypeId} {τ : Ty} (h : tt P i τ = true) : Info P i τ:=by
 unfold tt at h
 split at h
 ·cases h
 ·rename_i inf hi
  simp only [and_eq_true,decide_eq_true_eq] at h
  obtain ⟨⟨h1,hb⟩,h2⟩:=h
  split at h2
  ·cases h2
  ·rename_i z hz
   simp only [and_eq_true] at h2
   refine ⟨inf,z,hi,h1,hz,oa _ _ h2.1.1,fun ha=>?_,fun ha=>?_,hb⟩
   ·have:=h2.1.2
    rw [ha] at this
    cases z <;> simp [Rr] at this
    exact ⟨_,rfl⟩
   ·have:=h2.2
    rw [ha] at this
    exact zj (by simpa using this)
mutual
def FX (P : Program) : Ty->TypeId->Bool
 | .int k,i=>(match P.underlying i with | some (.int k')=>decide (k = k') | _=>false) && tt P i (.int k)
 | .bool,i=>(match P.underlying i with | some .bool=>true | _=>false) && tt P i .bool
 | .str,i=>(match P.underlying i with | some .string=>true | _=>false) && tt P i .str
 | .arr n t,i=>match P.underlying i with
  | some (.array n' e)=>decide (n = n') && FX P t e && tt P i (.arr n t) && (!t.cmp || !(P.eqGuardType P.depth i))
  | _=>false
 | .sl t,i=>match P.underlying i with
  | some (.slice e)=>FX P t e && tt P i (.sl t)
  | _=>false
 | .unit,i=>match P.underlying i with
  | some (.struct fs)=>fs.toList.isEmpty && tt P i .unit && !(P.stoodInHeld i)
  | _=>false
 | .pair a b,i=>match P.underlying i with
  | some (.struct fs)=>(match fs.toList with
   | f :: r => decide (f.offset = 0) && decide (a.size ≠ 0) && decide (f.name ≠ "_") && FX P a f.type && lr P b r (0 + a.size)
   | []=>false) && tt P i (.pair a b) && !(P.stoodInHeld i) && (!(a.cmp && b.cmp) || !(P.eqGuardType P.depth i))
  | _=>false
 | .opq,i=>(match P.underlying i with | some d=>Du d | none=>false) && tt P i .opq
def lr (P : Program) : Ty->List Field->Nat->Bool
 | .unit,fs,_=>fs.isEmpty
 | .pair a b,fs,off=>match fs with
  | f :: r => decide (f.offset = off) && decide (a.size ≠ 0) && decide (f.name ≠ "_") && FX P a f.type && lr P b r (off + a.size)
  | []=>false
 | _,_,_=>false
end
mutual
theorem nq {P : Program} : ∀ (τ : Ty) (i : TypeId),FX P τ i = true->iO P τ i
 | .int k,i,h=>by
  simp only [FX,and_eq_true] at h
  refine ⟨?_,jc h.2⟩
  grind
 | .bool,i,h=>by
  simp only [FX,and_eq_true] at h
  refine ⟨?_,jc h.2⟩
  grind
 | .str,i,h=>by
  simp only [FX,and_eq_true] at h
  refine ⟨?_,jc h.2⟩
  grind
 | .arr n t,i,h=>by
  simp only [FX] at h
  split at h
  ·rename_i n' e hu
   simp only [and_eq_true,decide_eq_true_eq,Bool.or_eq_true,Bool.not_eq_true'] at h
   exact ⟨e,by rw [hu,h.1.1.1],nq t e h.1.1.2,jc h.1.2,fun hc=>h.2.resolve_left (by rw [hc]; simp)⟩
  ·cases h
 | .sl t,i,h=>by
  simp only [FX] at h
  split at h
  ·rename_i e hu
   simp only [and_eq_true] at h
   exact ⟨e,hu,nq t e h.1,jc h.2⟩
  ·cases h
 | .unit,i,h=>by
  simp only [FX] at h
  split at h
  ·rename_i fs hu
   simp only [and_eq_true,Bool.not_eq_true',isEmpty_iff] at h
   refine ⟨?_,jc h.1.2,h.2⟩
   simp_all
  ·cases h
 | .pair a b,i,h=>by
  simp only [FX] at h
  split at h
  ·rename_i fs hu
   simp only [and_eq_true,Bool.or_eq_true,Bool.not_eq_true'] at h
   refine ⟨fs,hu,?_,jc h.1.1.2,h.1.2,fun hc=>h.2.resolve_left (by simp only [and_eq_true] at hc; rw [hc.1,hc.2]; simp)⟩
   have h1:=h.1.1.1
   split at h1
   ·rename_i f r hf
    simp only [and_eq_true,decide_eq_true_eq] at h1
    exact ⟨f,r,hf,h1.1.1.1.1,h1.1.1.1.2,h1.1.1.2,nq a _ h1.1.2,sU b _ _ h1.2⟩
   ·cases h1
  ·cases h
 | .opq,i,h=>by
  simp only [FX,and_eq_true] at h
  have h1:=h.1
  split at h1
  ·rename_i d hu; exact ⟨d,hu,h1,jc h.2⟩
  ·cases h1
theorem sU {P : Program} : ∀ (τ : Ty) (fs : List Field) (off : Nat),lr P τ fs off = true->cN P τ fs off
 | .unit,fs,off,h=>by simp only [lr,isEmpty_iff] at h; exact h
 | .pair a b,fs,off,h=>by
  simp only [lr] at h
  split at h
  ·rename_i f r
   simp only [and_eq_true,decide_eq_true_eq] at h
   exact ⟨f,r,rfl,h.1.1.1.1,h.1.1.1.2,h.1.1.2,nq a _ h.1.2,sU b _ _ h.2⟩
  ·cases h
 | .int _,_,_,h=>by simp [lr] at h
 | .bool,_,_,h=>by simp [lr] at h
 | .str,_,_,h=>by simp [lr] at h
 | .arr _ _,_,_,h=>by simp [lr] at h
 | .sl _,_,_,h=>by simp [lr] at h
 | .opq,_,_,h=>by simp [lr] at h
end
def CP (P : Program) (l : List (Nat × Ty)) : Bool:=l.all fun x=>FX P x.2 x.1
theorem rK {β : Type} : ∀ {l : List (Nat × β)} {i : Nat} {b : β},look l i = some b->(i,b) ∈ l
 | (j,c) :: l,i,b,h=>by
  simp only [look] at h
  split at h
  ·simp_all
  ·exact mem_cons_of_mem _ (rK h)
theorem E9 {P : Program} {l : List (Nat × Ty)} (h : CP P l = true) : ∀ i τ,look l i = some τ->iO P τ i:=fun i τ hl=>by
 have:=List.all_eq_true.1 h _ (rK hl)
 exact nq τ i this
section
variable {H : Type} {enc : TypeId × Value->H} {P : Program}
theorem A3 {α β : Type} {f : α->Option β} : ∀ {l : List α} {m : List β},l.mapM f = some m->cM (fun a b=>f a = some b) l m
 | [],m,h=>by simp at h; subst h; trivial
 | a :: l,m,h=>by
  rw [List.mapM_cons] at h
  obtain ⟨b,h1,h2⟩:=Option.bind_eq_some_iff.1 h
  obtain ⟨r,h3,h4⟩:=Option.bind_eq_some_iff.1 h2
  cases h4
  exact ⟨h1,A3 h3⟩
theorem jj {i : TypeId} {τ : Ty} (h : Info P i τ) : P.cellsOf i = τ.size:=by
 obtain ⟨inf,z,h1,h2,_⟩:=h
 simp [Program.cellsOf,h1,h2]
theorem FU {w : World} {base : Nat} {a : Addr} {n : Nat} {cs : List Value} (h : w.cells? base a n = some cs) : cs.length = n /\ ∀ j v,cs[j]? = some v->w.cell? (a.add j) = some v:=by
 unfold World.cells? at h
 split at h
 ·have h2:=A3 h
  have hl:=h2.length
  simp at hl
  refine ⟨hl.symm,fun j v hj=>?_⟩
  have hjl : j < cs.length:=by
   grind
  obtain ⟨hm,hr⟩:=h2.get j (by simpa [hl] using hjl)
  grind
 ·cases h
theorem rE {α β : Type} {R : α->β->Prop} : ∀ {m : List β},(∀ b ∈ m,∃ a,R a b)->∃ l,cM R l m
 | [],_=>⟨[],trivial⟩
 | b :: m,h=>by
  obtain ⟨a,ha⟩:=h b (by simp)
  obtain ⟨l,hl⟩:=rE (m:=m) fun b hb=>h b (mem_cons_of_mem _ hb)
  exact ⟨a :: l,ha,hl⟩
theorem zf {w : World} {a : Addr} {v : Value} (h : w.cell? a = some v) : a.spot = none /\ a.block < w.heap.size:=by
 unfold World.cell? at h
 split at h
 ·rename_i hb
  have hlt:=(Array.getElem?_eq_some_iff.1 hb).1
  simp_all
 ·cases h
def lI (w : World) : Env:=⟨w,fun b _=>b < w.heap.size⟩
theorem xk {n : Nat} : ∀ (k : Nat) (cs : List Value),cs.length = k * n->((range k).map fun i=>(cs.drop (i * n)).take n).flatten = cs
 | 0,cs,h=>by simp at h; simp [h]
 | k + 1,cs,h=>by
  rw [List.range_succ_eq_map]
  simp only [List.map_cons,List.map_map,List.flatten_cons,Nat.zero_mul,List.drop_zero]
  have h1 : (cs.drop n).length = k * n:=by simp [h,Nat.add_mul]
  have ih:=xk k (cs.drop n) h1
  have e : ((range k).map ((fun i=>(cs.drop (i * n)).take n) ∘ Nat.succ)) = (range k).map fun i=>((cs.drop n).drop (i * n)).take n:=by
   apply List.map_congr_left
   intro i _
   simp only [Function.comp_apply,List.drop_drop,Nat.succ_eq_add_one,Nat.add_mul,Nat.one_mul]
   rw [Nat.add_comm]
  rw [e,ih,take_append_drop]
def Ty.full : Ty->Bool
 | .arr _ t=>t.full | .sl t=>t.size != 0 && t.full | .pair a b=>a.full && b.full | .opq=>false | _=>true
def Fit (K : Ty->Nat->Prop) : (t : Ty)->t.den->Prop
 | .int k,n=>oW k n = true
 | .bool,_=>True
 | .str,l=>K (.int .u8) (l : List Int).length /\ (l : List Int).length <= maxLen /\ ∀ b ∈ (l : List Int),0 <= b /\ b < 256
 | .arr n t,l=>(l : List t.den).length = n /\ ∀ x ∈ (l : List t.den),Fit K t x
 | .sl t,l=>K t (l : List t.den).length /\ (l : List t.den).length <= maxLen /\ ∀ x ∈ (l : List t.den),Fit K t x
 | .unit,_=>True
 | .pair a b,x=>Fit K a x.1 /\ Fit K b x.2
 | .opq,_=>False
structure Small (H : Type) (P : Program) (Q : TypeId->DataW H->Prop) (K : Ty->Nat->Prop) : Prop where
 nil : ∀ τ,K τ 0
 str : ∀ t l,Q t (.lit (.string l))->K (.int .u8) l.length
 R6 : ∀ t e el sp τ,P.underlying t = some (.slice e)->Info P e τ->Q t (.slice el sp)->K τ el.length /\ ∀ d ∈ el,Q e d
 fld : ∀ t fs ps,P.underlying t = some (.struct fs)->Q t (.agg ps)->∀ (i : Nat) f d,fs[i]? = some f->ps[i]? = some d->Q f.type d
 arr : ∀ t n e ps,P.underlying t = some (.array n e)->Q t (.agg ps)->∀ d ∈ ps,Q e d
theorem zx {α β γ : Type} {R : α->β->Prop} {f : γ->β} : ∀ {l : List α} {m : List γ},cM (fun a c=>R a (f c)) l m->cM R l (m.map f)
 | [],[],_=>trivial
 | _ :: _,_ :: _,h=>⟨h.1,zx h.2⟩
theorem vK {α β : Type} {R : α->β->Prop} {p : α->Prop} : ∀ {l : List α} {m : List β},cM R l m->(∀ a b,b ∈ m->R a b->p a)->∀ a ∈ l,p a
 | [],[],_,_,_,h=>by cases h
 | x :: l,y :: m,h,g,a,ha=>by
  rcases List.mem_cons.1 ha with rfl | ha
  ·exact g _ y (by simp) h.1
  ·exact vK h.2 (fun a b hb=>g a b (mem_cons_of_mem _ hb)) a ha
variable {Q : TypeId->DataW H->Prop} {K : Ty->Nat->Prop}
mutual
theorem lz (hQ : Small H P Q K) {w : World} {spare : Nat->Bool} {held : Bool} : ∀ (τ : Ty) (t : TypeId) (fuel : Nat) (cs : List Value) (y : DataW H × List MemPlace),iO P τ t->τ.full = true->Q t y.1 ->
  DataW.trod enc P w 0 spare held fuel t cs = some y->∃ x : τ.den,ak (lI w) τ x cs /\ Fit K τ x
 | _,_,0,_,_,_,_,_,h=>by simp [DataW.trod] at h
 | .int k,t,fuel + 1,cs,y,ht,_,_,h=>by
  obtain ⟨n,rfl,_,hw⟩:=DataW.trod_int ht.1 h
  have hw2 : oW k n = true:=by simpa [Lit.wf,oW] using hw
  exact ⟨n,⟨rfl,hw2⟩,hw2⟩
 | .bool,t,fuel + 1,cs,y,ht,_,_,h=>by
  obtain ⟨b,rfl,_⟩:=DataW.trod_bool ht.1 h
  exact ⟨b,rfl,trivial⟩
 | .str,t,fuel + 1,cs,y,ht,_,hq,h=>by
  obtain ⟨s,rfl,rfl,hs⟩:=DataW.trod_string ht.1 h
  refine ⟨bytesOf s,⟨s,rfl,rfl,hs⟩,?_,?_,?_⟩
  ·have:=hQ.str _ _ hq
   simpa [bytesOf] using this
  ·simpa [bytesOf] using hs
  ·intro b hb
   simp only [bytesOf,mem_map] at hb
   obtain ⟨c,_,rfl⟩:=hb
   have:=c.toNat_lt
   omega
 | .arr n τ,t,fuel + 1,cs,y,ht,hf,hq,h=>by
  obtain ⟨e,hu,hτ,hi,_⟩:=ht
  obtain ⟨xs,m,hm,rfl,hl,hx,hg⟩:=DataW.trod_array hu h
  have hs : P.cellsOf e = τ.size:=jj hτ.info
  have hl2 : cs.length = n * τ.size:=by rw [hl,jj hi]; rfl
  rw [hs] at hg
  have hcs:=xk n cs hl2
  obtain ⟨l,ha⟩:=rE (R:=fun (x : τ.den) i=>ak (lI w) τ x ((cs.drop (i * τ.size)).take τ.size) /\ Fit K τ x) (m:=range n) (fun i hi=>by
   have hin : i < n:=by simpa using hi
   have:=hg i hin
   rw [getElem?_eq_getElem (by omega)] at this
   exact lz hQ τ e m _ _ hτ hf (hQ.arr _ _ _ _ hu hq _ (List.mem_map.2 ⟨_,List.getElem_mem (by omega),rfl⟩)) this)
  have hll:=ha.length
  refine ⟨l,⟨by simpa using hll,_,hcs.symm,zx (ha.mono fun a b h=>h.1)⟩,by simpa using hll,vK ha fun a b _ h=>h.2⟩
 | .sl τ,t,fuel + 1,cs,y,ht,hf,hq,h=>by
  obtain ⟨e,hu,hτ,hi⟩:=ht
  simp only [Ty.full,and_eq_true,bne_iff_ne] at hf
  have hz : 0 < τ.size:=Nat.pos_of_ne_zero (fun h0=>by rw [h0] at hf; simp at hf)
  have hs : P.cellsOf e = τ.size:=jj hτ.info
  rcases Go.Deep.open_slice hu h with ⟨rfl,_⟩ | ⟨a,len,cap,m,n,D,Pl,rfl,_,hlc,hcap,hm,rfl,hg⟩
  ·exact ⟨[],.inl ⟨rfl,rfl⟩,hQ.nil _,by simp,by simp⟩
  ·have hml : len <= m:=by rw [hm]; split <;> omega
   rw [hs] at hg
   obtain ⟨hk,hqe⟩:=hQ.R6 _ _ _ _ _ hu hτ.info hq
   have key : ∀ i,∃ cs',i < len->w.cells? 0 (a.add (i * τ.size)) τ.size = some cs' /\ ∃ x : τ.den,ak (lI w) τ x cs' /\ Fit K τ x:=fun i=>by
    by_cases hi : i < len
    ·obtain ⟨cs',h1,h2⟩:=hg i (by omega)
     exact ⟨cs',fun _=>⟨h1,lz hQ τ e n cs' _ hτ hf.2 (hqe _ (List.mem_map.2 ⟨i,by simpa using hi,rfl⟩)) h2⟩⟩
    ·exact ⟨[],fun h=>absurd h hi⟩
   obtain ⟨f,hfk⟩:=Classical.axiomOfChoice key
   obtain ⟨l,ha0⟩:=rE (R:=fun (x : τ.den) i=>ak (lI w) τ x (f i) /\ Fit K τ x) (m:=range len) (fun i hi=>(hfk i (by simpa using hi)).2)
   have hll2 : l.length = len:=by simpa using ha0.length
   have ha : cM (ak (lI w) τ) l ((range len).map f):=zx (ha0.mono fun a b h=>h.1)
   have hcell : ∀ i,i < len->∀ j,j < τ.size->∃ v,(f i)[j]? = some v /\ w.cell? ((a.add (i * τ.size)).add j) = some v:=fun i hi j hj=>by
    obtain ⟨h1,h2⟩:=FU (hfk i hi).1
    simp_all
   have hlen : ((range len).map f).flatten.length = len * τ.size:=by
    rw [cM.dt (fun a cs h=>ak.length τ a cs h) ha,hll2]
   have hspot : a.spot = none \/ l = []:=by
    rcases Nat.eq_zero_or_pos len with h0 | h0
    ·grind
    ·left
     obtain ⟨v,_,hv⟩:=hcell 0 h0 0 hz
     simpa [Addr.add] using (zf hv).1
   refine ⟨l,.inr ⟨a,cap,(range len).map f,by rw [hll2],hspot,by omega,hcap,ha,?_,fun j v hj=>?_⟩,by rw [hll2]; simpa using hk,by omega,vK ha0 fun a b _ h=>h.2⟩
   ·rcases Nat.eq_zero_or_pos len with h0 | h0
    ·grind
    ·right
     obtain ⟨v,_,hv⟩:=hcell 0 h0 0 hz
     exact ⟨_,le_refl _,by simpa [Addr.add,lI] using (zf hv).2⟩
   ·have hjl : j < len * τ.size:=by
     rw [<- hlen]
     rcases Nat.lt_or_ge j ((range len).map f).flatten.length with h' | h'
     ·exact h'
     ·rw [List.getElem?_eq_none h'] at hj; cases hj
    have hid : j / τ.size < len:=Nat.div_lt_of_lt_mul (by rw [Nat.mul_comm]; exact hjl)
    have hjm : j % τ.size < τ.size:=Nat.mod_lt _ hz
    obtain ⟨u,hu1,hu2⟩:=hcell _ hid _ hjm
    have hidx : ((range len).map f)[j / τ.size]? = some (f (j / τ.size)):=by simp [hid]
    have:=eZ (fun a cs h=>ak.length τ a cs h) ha _ _ hidx _ _ hu1
    rw [Nat.mul_comm,Nat.div_add_mod] at this
    rw [hj] at this
    have hsp : a.spot = none:=hspot.resolve_right (fun h=>by
     rw [h] at hll2; simp only [List.length_nil] at hll2
     rw [<- hll2] at hid; exact absurd hid (Nat.not_lt_zero _))
    rw [add_plain a _ hsp,add_plain _ _ rfl] at hu2
    rw [Option.some.inj this,<- hu2]
    show w.cell? _ = _
    congr 2
    have:=Nat.div_add_mod j τ.size
    rw [Nat.mul_comm] at this
    simp only; omega
 | .unit,t,fuel + 1,cs,y,ht,hf,_,h=>by
  refine ⟨(),?_,trivial⟩
  obtain ⟨xs,m,hm,rfl,hl,_⟩:=DataW.trod_struct ht.1 h
  rw [jj ht.2.1] at hl
  exact List.eq_nil_of_length_eq_zero hl
 | .pair a b,t,fuel + 1,cs,y,ht,hf,hq,h=>by
  obtain ⟨fs,hu,⟨f,r,hfs,ho,hz,hn,hfa,hfr⟩,hi,_⟩:=ht
  simp only [Ty.full,and_eq_true] at hf
  obtain ⟨xs,m,hm,rfl,hl,hx,hg⟩:=DataW.trod_struct hu h
  rw [jj hi] at hl
  simp only [Ty.size] at hl
  have hall : ∀ g ∈ f :: r,∃ y : DataW H × List MemPlace,Q g.type y.1 /\ DataW.trod enc P w 0 spare held m g.type ((cs.drop g.offset).take (P.cellsOf g.type)) = some y:=fun g hgm=>by
   rw [<- hfs] at hgm
   obtain ⟨i,hi,rfl⟩:=List.getElem_of_mem hgm
   have hi2 : i < fs.size:=by simpa using hi
   have hg2:=hg i _ (Array.getElem?_eq_getElem hi2)
   rw [getElem?_eq_getElem (by omega)] at hg2
   refine ⟨xs[i],?_,by simpa using hg2⟩
   have:=hQ.fld _ _ _ hu hq i fs[i] xs[i].1 (Array.getElem?_eq_getElem hi2) (by simp [getElem?_eq_getElem (show i < xs.length by omega)])
   simpa using this
  obtain ⟨y1,q1,h1⟩:=hall f (by simp)
  rw [ho,jj hfa.info] at h1
  obtain ⟨x1,hx1,ht1⟩:=lz hQ a f.type m _ _ hfa hf.1 q1 h1
  obtain ⟨x2,hx2,ht2⟩:=qH hQ b r (0 + a.size) m cs hfr hf.2 (fun g hg=>hall g (mem_cons_of_mem _ hg)) (by omega)
  exact ⟨(x1,x2),⟨cs.take a.size,cs.drop a.size,(take_append_drop _ _).symm,by simpa using hx1,by simpa using hx2⟩,ht1,ht2⟩
 | .opq,t,fuel + 1,cs,y,_,hf,_,h=>by simp [Ty.full] at hf
theorem qH (hQ : Small H P Q K) {w : World} {spare : Nat->Bool} {held : Bool} : ∀ (τ : Ty) (fs : List Field) (off m : Nat) (cs : List Value),cN P τ fs off->τ.full = true ->
  (∀ g ∈ fs,∃ y : DataW H × List MemPlace,Q g.type y.1 /\ DataW.trod enc P w 0 spare held m g.type ((cs.drop g.offset).take (P.cellsOf g.type)) = some y)->cs.length = off + τ.size ->
  ∃ x : τ.den,ak (lI w) τ x (cs.drop off) /\ Fit K τ x
 | .unit,fs,off,m,cs,hfo,_,_,hl=>⟨(),by
   simp only [ak,Ty.size] at hl ⊢
   exact List.eq_nil_of_length_eq_zero (by simp; omega),trivial⟩
 | .pair a b,fs,off,m,cs,hfo,hf,hall,hl=>by
  obtain ⟨f,r,rfl,ho,hz,hn,hfa,hfr⟩:=hfo
  simp only [Ty.full,and_eq_true] at hf
  simp only [Ty.size] at hl
  obtain ⟨y1,q1,h1⟩:=hall f (by simp)
  rw [ho,jj hfa.info] at h1
  obtain ⟨x1,hx1,ht1⟩:=lz hQ a f.type m _ _ hfa hf.1 q1 h1
  obtain ⟨x2,hx2,ht2⟩:=qH hQ b r (off + a.size) m cs hfr hf.2 (fun g hg=>hall g (mem_cons_of_mem _ hg)) (by omega)
  exact ⟨(x1,x2),⟨(cs.drop off).take a.size,(cs.drop off).drop a.size,(take_append_drop _ _).symm,hx1,by simpa using hx2⟩,ht1,ht2⟩
 | .int _,_,_,_,_,hf,_,_,_=>hf.elim
 | .bool,_,_,_,_,hf,_,_,_=>hf.elim
 | .str,_,_,_,_,hf,_,_,_=>hf.elim
 | .arr _ _,_,_,_,_,hf,_,_,_=>hf.elim
 | .sl _,_,_,_,_,hf,_,_,_=>hf.elim
 | .opq,_,_,_,_,hf,_,_,_=>hf.elim
end
end
def qU (τ : Ty) (n : Nat) : Prop:=n * τ.bytes <= reachBytes
section
variable {H : Type} {enc : TypeId × Value->H} {P : Program}
def OX (H : Type) (P : Program) (t : TypeId) (d : DataW H) : Prop:=∀ n ∈ d.weights P t,n <= reachBytes
theorem qJ {e : TypeId} : ∀ {l : List (DataW H)} {d : DataW H},d ∈ l->∀ n ∈ d.weights P e,n ∈ DataW.weightsAll P e l
 | x :: l,d,h,n,hn=>by
  simp only [DataW.weightsAll,List.mem_append]
  rcases List.mem_cons.1 h with rfl | h
  ·exact .inl hn
  ·exact .inr (qJ h n hn)
theorem FG : Small H P (OX H P) qU where
 nil:=fun τ=>by simp [qU]
 str:=fun t l h=>by
  have:=h l.length (by simp [DataW.weights])
  simpa [qU,Ty.bytes,IntKind.bits] using this
 R6:=fun t e el sp τ hu hi h=>by
  obtain ⟨inf,z,h1,h2,h3,h4,h5,h6⟩:=hi
  have hb : P.bytesOf e = τ.bytes:=by simp [Program.bytesOf,h1,h6]
  constructor
  ·have:=h _ (by simp only [DataW.weights,hu]; exact List.mem_cons_self)
   rw [hb,Nat.add_mul] at this
   unfold qU; omega
  ·intro d hd n hn
   exact h n (by simp only [DataW.weights,hu]; exact mem_cons_of_mem _ (List.mem_append_left _ (qJ hd n hn)))
 fld:=fun t fs ps hu h i f d hf hd n hn=>h n (by
  simp only [DataW.weights,hu]
  exact DataW.weights_mem_each (j:=i) (t:=f.type) (by simp [hf]) hd n hn)
 arr:=fun t m e ps hu h d hd n hn=>h n (by simp only [DataW.weights,hu]; exact qJ hd n hn)
def CJ (P : Program) : Ty->List TypeId->Prop
 | .unit,[]=>True
 | .pair a b,t :: ts=>iO P a t /\ a.full = true /\ CJ P b ts
 | _,_=>False
def lG (P : Program) : Ty->List TypeId->Bool
 | .unit,ts=>ts.isEmpty
 | .pair a b,ts=>match ts with
  | t :: ts=>FX P a t && a.full && lG P b ts
  | []=>false
 | _,_=>false
theorem sW : ∀ {τ : Ty} {ts : List TypeId},lG P τ ts = true->CJ P τ ts
 | .unit,ts,h=>by
  simp only [lG,isEmpty_iff] at h
  subst h; trivial
 | .pair a b,ts,h=>by
  cases ts with
  | nil=>simp [lG] at h
  | cons t ts =>
   simp only [lG,and_eq_true] at h
   exact ⟨nq a t h.1.1,h.1.2,sW h.2⟩
 | .int _,_,h=>by simp [lG] at h
 | .bool,_,h=>by simp [lG] at h
 | .str,_,h=>by simp [lG] at h
 | .arr _ _,_,h=>by simp [lG] at h
 | .sl _,_,h=>by simp [lG] at h
 | .opq,_,h=>by simp [lG] at h
theorem Ge {E : Env} {w : World} {r : Reach} {base : Nat} {τ : Ty} {t : TypeId} {x : τ.den} {v : Value} (ht : iO P τ t) (ho : Value.okWide P w r base t v) (h : ak E τ x v.cells.toList) : iv E τ x v:=by
 unfold Value.okWide at ho
 cases τ with
 | int k =>
  rw [ht.1] at ho
  simp only [Cell.okWide,ht.1] at ho
  cases v <;> simp [Cell.ok,ht.1] at ho
  simpa [iv,Ty.isAgg,Value.cells] using h
 | bool =>
  rw [ht.1] at ho
  simp only [Cell.okWide,ht.1] at ho
  cases v <;> simp [Cell.ok,ht.1] at ho
  simpa [iv,Ty.isAgg,Value.cells] using h
 | str =>
  rw [ht.1] at ho
  simp only [Cell.okWide,ht.1] at ho
  cases v <;> simp [Cell.ok,ht.1] at ho
  simpa [iv,Ty.isAgg,Value.cells] using h
 | arr n τ =>
  obtain ⟨e,hu,_⟩:=ht
  rw [hu] at ho
  obtain ⟨cs,rfl,_⟩:=ho
  exact ⟨cs,rfl,by simpa [Value.cells] using h⟩
 | sl τ =>
  obtain ⟨e,hu,_⟩:=ht
  rw [hu] at ho
  simp only [Cell.okWide,hu] at ho
  cases v <;> simp [Cell.ok,hu] at ho
  simpa [iv,Ty.isAgg,Value.cells] using h
 | unit =>
  rw [ht.1] at ho
  obtain ⟨cs,rfl,_⟩:=ho
  exact ⟨cs,rfl,by simpa [Value.cells] using h⟩
 | pair a b =>
  obtain ⟨fs,hu,_⟩:=ht
  rw [hu] at ho
  obtain ⟨cs,rfl,_⟩:=ho
  exact ⟨cs,rfl,by simpa [Value.cells] using h⟩
 | opq=>cases v <;> simp [ak] at h
theorem uw {Q : TypeId->DataW H->Prop} {K : Ty->Nat->Prop} (hQ : Small H P Q K) {w w2 : World} {r : Reach} {base : Nat} {spare : Nat->Bool} {held : Bool} :
  ∀ (ps : Ty) (ts : List TypeId) (vs : List Value) (ds : List (DataW H)) (p : List MemPlace),CJ P ps ts->DataW.TrodAll enc P w 0 spare held ts vs ds p ->
  (∀ (j : Nat) t v,ts[j]? = some t->vs[j]? = some v->Value.okWide P w2 r base t v)->(∀ (j : Nat) t d,ts[j]? = some t->ds[j]? = some d->Q t d)->∃ x : ps.den,gX (lI w) ps x vs /\ Fit K ps x
 | .unit,[],[],[],_,_,_,_,_=>⟨(),rfl,trivial⟩
 | .unit,[],_ :: _,_,_,_,h,_,_=>by simp [DataW.TrodAll] at h
 | .unit,[],[],_ :: _,_,_,h,_,_=>by simp [DataW.TrodAll] at h
 | .unit,_ :: _,_,_,_,ht,_,_,_=>ht.elim
 | .pair a b,[],_,_,_,ht,_,_,_=>ht.elim
 | .pair a b,t :: ts,[],_,_,_,h,_,_=>by simp [DataW.TrodAll] at h
 | .pair a b,t :: ts,_ :: _,[],_,_,h,_,_=>by simp [DataW.TrodAll] at h
 | .pair a b,t :: ts,v :: vs,d :: ds,_,⟨h1,h2,h3⟩,⟨p,q,⟨fuel,hd⟩,hr,_⟩,ho,hq=>by
  obtain ⟨x,hx,hf⟩:=lz hQ a t fuel _ _ h1 h2 (hq 0 t d rfl rfl) hd
  obtain ⟨y,hy,hg⟩:=uw hQ b ts vs ds q h3 hr (fun j t v h1 h2=>ho (j + 1) t v (by simpa using h1) (by simpa using h2)) (fun j t d h1 h2=>hq (j + 1) t d (by simpa using h1) (by simpa using h2))
  exact ⟨(x,y),⟨v,vs,rfl,Ge h1 (ho 0 t v rfl rfl) hx,hy⟩,hf,hg⟩
 | .int _,_,_,_,_,ht,_,_,_=>by cases ‹List TypeId› <;> exact ht.elim
 | .bool,_,_,_,_,ht,_,_,_=>by cases ‹List TypeId› <;> exact ht.elim
 | .str,_,_,_,_,ht,_,_,_=>by cases ‹List TypeId› <;> exact ht.elim
 | .arr _ _,_,_,_,_,ht,_,_,_=>by cases ‹List TypeId› <;> exact ht.elim
 | .sl _,_,_,_,_,ht,_,_,_=>by cases ‹List TypeId› <;> exact ht.elim
 | .opq,_,_,_,_,ht,_,_,_=>by cases ‹List TypeId› <;> exact ht.elim
theorem s9 (hl : laidOutB P = true) {W W' : World} (hb : Below W.heap.size W W') : ∀ (ts : List TypeId) (vs : List Value) (ds : List (DataW H)) (p : List MemPlace),(∀ t ∈ ts,P.readableRec t = true /\ t < P.types.size) ->
  DataW.TrodAll enc P W 0 (fun _=>true) true ts vs ds p->DataW.TrodAll enc P W' 0 (fun b=>decide (b < W.heap.size)) true ts vs ds p
 | [],[],[],_,_,h=>h
 | [],_ :: _,_,_,_,h=>by simp [DataW.TrodAll] at h
 | [],[],_ :: _,_,_,h=>by simp [DataW.TrodAll] at h
 | _ :: _,[],_,_,_,h=>by simp [DataW.TrodAll] at h
 | _ :: _,_ :: _,[],_,_,h=>by simp [DataW.TrodAll] at h
 | t :: ts,v :: vs,d :: ds,_,ht,h=>by
  have hlt:=h.lt
  obtain ⟨p,q,hd,hr,rfl⟩:=h
  exact ⟨p,q,Below.trod hl (ht t (by simp)).1 (ht t (by simp)).2 hd hb (fun x hx=>hlt x (List.mem_append_left _ hx)),s9 hl hb ts vs ds q (fun t h=>ht t (mem_cons_of_mem _ h)) hr,rfl⟩
def OS (P : Program) (ts : List TypeId) : Bool:=laidOutB P && ts.all fun t=>P.readableRec t && decide (t < P.types.size)
theorem Gg {Q : TypeId->DataW H->Prop} {K : Ty->Nat->Prop} (hQ : Small H P Q K) {f : FuncId} {fn : Func} {ps : Ty} {run : ps.den->Option Bool} {s : ChangeSpec} {tb : TypeId} {n : Nat} (hcon : Kp P f ⟨ps,.bool,false,run⟩)
  (hts : CJ P ps fn.params.toList) (hn : fn.params.toList.length = n) (hres : fn.resultTypes.toList = [tb]) (hb : P.underlying tb = some .bool) (hread : OS P fn.params.toList = true) (hvars : s.vars = [])
  (hfn : ∀ ds : List (DataW H),ds.length = n->s.fn H ds = { results:=[.lit (.bool true)],args:=ds }) (law : ∀ x,Fit K ps x->run x = some true)
  {W w2 : World} {r : Reach} {base : Nat} {args : Array Value} {ds gs : List (DataW H)} {before : List MemPlace} (hgl : rm (lI W))
  (hval : ∀ (j : Nat) t v,fn.params[j]? = some t->args[j]? = some v->Value.okWide P w2 r base t v)
  (hW : DataW.Whole enc P fn.params.toList s.vars false W args.toList ds gs before) (hq : ∀ (j : Nat) t d,fn.params.toList[j]? = some t->ds[j]? = some d->Q t d) :
  Calls P f args W fun e W'=>∃ v,e = .returned v /\ s.post enc P fn false true false false W args v W':=by
 have hW0:=hW
 obtain ⟨p,q,hA,hV,hpq,_,_⟩:=hW
 rw [hvars] at hV
 have hgs : gs = [] /\ q = []:=by
  cases gs with
  | nil=>exact ⟨rfl,hV⟩
  | cons _ _=>exact absurd hV (by simp [DataW.TrodVars])
 obtain ⟨rfl,rfl⟩:=hgs
 obtain ⟨x,hx,hfit⟩:=uw hQ ps _ _ _ _ hts hA (w2:=w2) (r:=r) (base:=base) (fun j t v h1 h2=>hval j t v (by simpa using h1) (by simpa using h2)) hq
 simp only [OS,and_eq_true,all_eq_true,decide_eq_true_eq] at hread
 refine (hcon W (fun b _=>b < W.heap.size) x true args ⟨fun b m h=>h,hgl⟩ (law x hfit) hx).mono fun e W' ⟨v,he,hbel,hv⟩=>?_
 subst he
 have hvb : v = .bool true:=by
  simp only [ql,iv,Ty.isAgg,ak,List.cons.injEq,and_true] at hv
  exact hv
 subst hvb
 have hlen : ds.length = n:=by
  rw [<- hn]
  have : ∀ {ts : List TypeId} {vs : List Value} {ds : List (DataW H)} {p : List MemPlace},DataW.TrodAll enc P W 0 (fun _=>true) true ts vs ds p->ds.length = ts.length:=by
   intro ts
   induction ts with
   | nil=>intro vs ds p h; cases vs <;> cases ds <;> simp_all [DataW.TrodAll]
   | cons t ts ih =>
    intro vs ds p h
    cases vs <;> cases ds <;> simp [DataW.TrodAll] at h ⊢
    obtain ⟨_,_,_,h,_⟩:=h
    exact ih h
  exact this hA
 have hres2 : fn.resultTypes.size = 1:=by rw [<- Array.length_toList,hres]; rfl
 refine ⟨_,rfl,ds,[],before,[],p,[],hW0,?_,?_,?_,hbel.frame _,fun h=>by cases h⟩
 ·rw [hres,hres2,append_nil,hfn ds hlen]
  exact ⟨[],[],⟨1,by simp [DataW.trod,hb,Value.cells]⟩,rfl,rfl⟩
 ·rw [append_nil,hfn ds hlen]
  exact s9 hread.1 hbel _ _ _ _ (fun t ht=>by simpa using hread.2 t ht) hA
 ·rw [append_nil,hfn ds hlen,hvars]
  rfl
theorem Mk {ts vs : List TypeId} {ds gs : List (DataW H)} (h : (DataW.weightsEach P (ts ++ vs) (ds ++ gs)).all (· <= reachBytes) = true) : ∀ (j : Nat) t d,ts[j]? = some t->ds[j]? = some d->OX H P t d:=fun j t d h1 h2 n hn=>by
 have l1 : j < ts.length:=by
  grind
 have l2 : j < ds.length:=by
  grind
 have:=List.all_eq_true.1 h n (DataW.weights_mem_each (j:=j) (t:=t) (d:=d) (by rw [List.getElem?_append_left l1]; exact h1) (by rw [List.getElem?_append_left l2]; exact h2) n hn)
 simpa using this
end
def Mn : List Step->List Step->Bool
 | [],[]=>true
 | .idx i :: p,.idx j :: q=>decide (i = j) && Mn p q
 | .fld i :: p,.fld j :: q=>beq i j && Mn p q
 | _,_=>false
theorem GY : ∀ {p q : List Step},Mn p q = true->p = q
 | [],[],_=>rfl
 | .idx i :: p,.idx j :: q,h=>by
  simp only [Mn,and_eq_true,decide_eq_true_eq] at h
  rw [h.1,GY h.2]
 | .fld i :: p,.fld j :: q,h=>by
  simp only [Mn,and_eq_true] at h
  rw [eq_of_beq_eq_true h.1,GY h.2]
 | [],_ :: _,h=>by simp [Mn] at h
 | .idx _ :: _,[],h=>by simp [Mn] at h
 | .fld _ :: _,[],h=>by simp [Mn] at h
 | .idx _ :: _,.fld _ :: _,h=>by simp [Mn] at h
 | .fld _ :: _,.idx _ :: _,h=>by simp [Mn] at h
def both (a b : Option (List V)) : Option (List V):=match a with
 | some l=>match b with
  | some m=>some (l ++ m)
  | none=>none
 | none=>none
theorem iT {a b : Option (List V)} {l : List V} (h : both a b = some l) : ∃ x y,a = some x /\ b = some y /\ l = x ++ y:=by
 unfold both at h
 grind
def AL (c : Bool) (l : List V) : Option (List V):=match c with
 | true=>some l
 | false=>none
theorem kl {c : Bool} {l m : List V} (h : AL c l = some m) : c = true /\ m = l:=by
 cases c <;> simp [AL] at h
 grind
def vm : List Step->List Step->Option (List V)
 | [],[]=>some []
 | .idx _ :: p,.idx j :: q=>both (some [.data (.int .i64) j]) (vm p q)
 | .fld i :: p,.fld j :: q=>match beq i j with
  | true=>vm p q
  | false=>none
 | _,_=>none
def Ji : List Step->List V->Option (List Step × List V)
 | [],r=>some ([],r)
 | .idx _ :: p,.data (.int _) j :: r=>match Ji p r with
  | some (q,r')=>some (.idx j :: q,r')
  | none=>none
 | .fld i :: p,r=>match Ji p r with
  | some (q,r')=>some (.fld i :: q,r')
  | none=>none
 | _,_=>none
theorem yE : ∀ (p q : List Step) (l r : List V),vm p q = some l->Ji p (l ++ r) = some (q,r)
 | [],[],l,r,h=>by simp only [vm,Option.some.injEq] at h; subst h; rfl
 | .idx i :: p,.idx j :: q,l,r,h=>by
  simp only [vm] at h
  obtain ⟨x,y,h1,h2,rfl⟩:=iT h
  cases h1
  simp only [List.cons_append,List.nil_append,Ji]
  rw [yE p q y r h2]
 | .fld i :: p,.fld j :: q,l,r,h=>by
  simp only [vm] at h
  split at h
  ·rename_i hb
   simp only [Ji]
   rw [yE p q l r h,eq_of_beq_eq_true hb]
  ·cases h
 | [],.idx _ :: _,l,r,h=>by simp [vm] at h
 | [],.fld _ :: _,l,r,h=>by simp [vm] at h
 | .idx _ :: _,[],l,r,h=>by simp [vm] at h
 | .fld _ :: _,[],l,r,h=>by simp [vm] at h
 | .idx _ :: _,.fld _ :: _,l,r,h=>by simp [vm] at h
 | .fld _ :: _,.idx _ :: _,l,r,h=>by simp [vm] at h
mutual
def oE : V->V->Option (List V)
 | .any,.any=>some []
 | .data t _,.data t' x=>AL (decide (t' = t)) [.data t' x]
 | .nilp,.nilp=>some []
 | .snil,.snil=>some []
 | .ref i u p,.ref i' u' p'=>match beq i i' && beq u u' with
  | true=>vm p p'
  | false=>none
 | .iref t _,.iref t' x=>AL (decide (t' = t)) [.data t' x]
 | .tup l,.tup l'=>qI l l'
 | .fn f a b,.fn f' a' b'=>match beq f f' with
  | true=>both (qI a a') (qI b b')
  | false=>none
 | .full t _,.full t' l=>AL (decide (t' = t)) [.data (.sl t') l]
 | .app i u,.app i' u'=>AL (beq i i' && beq u u') []
 | .view i p t n _ _,.view i' p' t' n' lo hi=>AL (beq i i' && Mn p p' && decide (t' = t) && beq n n') [.data (.int .i64) lo,.data (.int .i64) hi]
 | .agg t l,.agg t' l'=>match decide (t' = t) with
  | true=>qI l l'
  | false=>none
 | .ifc t v,.ifc t' v'=>match beq t t' with
  | true=>oE v v'
  | false=>none
 | .map i,.map i'=>AL (beq i i') []
 | _,_=>none
def qI : List V->List V->Option (List V)
 | [],[]=>some []
 | v :: l,v' :: l'=>both (oE v v') (qI l l')
 | _,_=>none
end
mutual
def zW : V->List V->Option (V × List V)
 | .data _ _,.data t x :: r=>some (.data t x,r)
 | .iref _ _,.data t x :: r=>some (.iref t x,r)
 | .full _ _,.data (.sl t) x :: r=>some (.full t x,r)
 | .view i p t n _ _,.data (.int _) lo :: .data (.int _) hi :: r=>some (.view i p t n lo hi,r)
 | .tup l,r=>match Al l r with
  | some (l',r')=>some (.tup l',r')
  | none=>none
 | .fn f a b,r=>match Al a r with
  | some (a',r')=>match Al b r' with
   | some (b',r2)=>some (.fn f a' b',r2)
   | none=>none
  | none=>none
 | .agg t l,r=>match Al l r with
  | some (l',r')=>some (.agg t l',r')
  | none=>none
 | .ifc t v,r=>match zW v r with
  | some (v',r')=>some (.ifc t v',r')
  | none=>none
 | .any,r=>some (.any,r)
 | .nilp,r=>some (.nilp,r)
 | .snil,r=>some (.snil,r)
 | .ref i u p,r=>match Ji p r with
  | some (q,r')=>some (.ref i u q,r')
  | none=>none
 | .app i u,r=>some (.app i u,r)
 | .map i,r=>some (.map i,r)
 | _,_=>none
def Al : List V->List V->Option (List V × List V)
 | [],r=>some ([],r)
 | v :: l,r=>match zW v r with
  | some (v',r')=>match Al l r' with
   | some (l',r2)=>some (v' :: l',r2)
   | none=>none
  | none=>none
end
mutual
theorem ux : ∀ (p v : V) (l r : List V),oE p v = some l->zW p (l ++ r) = some (v,r)
 | .any,v,l,r,h=>by cases v <;> simp [oE] at h; subst h; rfl
 | .nilp,v,l,r,h=>by cases v <;> simp [oE] at h; subst h; rfl
 | .snil,v,l,r,h=>by cases v <;> simp [oE] at h; subst h; rfl
 | .data t x,v,l,r,h=>by
  cases v <;> simp only [oE,reduceCtorEq] at h
  obtain ⟨h1,rfl⟩:=kl h
  rfl
 | .iref t x,v,l,r,h=>by
  cases v <;> simp only [oE,reduceCtorEq] at h
  obtain ⟨h1,rfl⟩:=kl h
  rfl
 | .full t x,v,l,r,h=>by
  cases v <;> simp only [oE,reduceCtorEq] at h
  obtain ⟨h1,rfl⟩:=kl h
  rfl
 | .ref i u p,v,l,r,h=>by
  cases v <;> simp only [oE,reduceCtorEq] at h
  split at h
  ·rename_i h1
   simp only [and_eq_true] at h1
   rw [<- eq_of_beq_eq_true h1.1,<- eq_of_beq_eq_true h1.2]
   simp only [zW]
   rw [yE p _ l r h]
  ·cases h
 | .app i u,v,l,r,h=>by
  cases v <;> simp only [oE,reduceCtorEq] at h
  obtain ⟨h1,rfl⟩:=kl h
  simp only [and_eq_true] at h1
  rw [<- eq_of_beq_eq_true h1.1,<- eq_of_beq_eq_true h1.2]
  rfl
 | .map i,v,l,r,h=>by
  cases v <;> simp only [oE,reduceCtorEq] at h
  obtain ⟨h1,rfl⟩:=kl h
  rw [<- eq_of_beq_eq_true h1]
  rfl
 | .view i p t n lo hi,v,l,r,h=>by
  cases v <;> simp only [oE,reduceCtorEq] at h
  obtain ⟨h1,rfl⟩:=kl h
  simp only [and_eq_true,decide_eq_true_eq] at h1
  rw [<- eq_of_beq_eq_true h1.1.1.1,<- GY h1.1.1.2,h1.1.2,<- eq_of_beq_eq_true h1.2]
  rfl
 | .tup a,v,l,r,h=>by
  cases v <;> simp only [oE,reduceCtorEq] at h
  simp only [zW]
  rw [mw a _ l r h]
 | .agg t a,v,l,r,h=>by
  cases v <;> simp only [oE,reduceCtorEq] at h
  split at h
  ·rename_i ht
   simp only [zW]
   rw [mw a _ l r h]
   grind
  ·cases h
 | .ifc t a,v,l,r,h=>by
  cases v <;> simp only [oE,reduceCtorEq] at h
  split at h
  ·rename_i ht
   simp only [zW]
   rw [ux a _ l r h,eq_of_beq_eq_true ht]
  ·cases h
 | .fn f a b,v,l,r,h=>by
  cases v <;> simp only [oE,reduceCtorEq] at h
  split at h
  ·rename_i ht
   obtain ⟨x,y,h1,h2,rfl⟩:=iT h
   simp only [zW]
   rw [List.append_assoc,mw a _ x _ h1]
   simp only
   rw [mw b _ y _ h2,eq_of_beq_eq_true ht]
  ·cases h
 | .opt d w a,v,l,r,h=>by cases v <;> simp only [oE,reduceCtorEq] at h
theorem mw : ∀ (p v : List V) (l r : List V),qI p v = some l->Al p (l ++ r) = some (v,r)
 | [],[],l,r,h=>by simp only [qI,Option.some.injEq] at h; subst h; rfl
 | [],_ :: _,l,r,h=>by simp [qI] at h
 | _ :: _,[],l,r,h=>by simp [qI] at h
 | a :: p,v :: vs,l,r,h=>by
  simp only [qI] at h
  obtain ⟨x,y,h1,h2,rfl⟩:=iT h
  simp only [Al]
  rw [List.append_assoc,ux a v x _ h1]
  simp only
  rw [mw p vs y _ h2]
end
def Jq : jz->jz->Option (List V)
 | .cell t v z,.cell t' v' z'=>match decide (t' = t) && (z == z') with
  | true=>oE v v'
  | false=>none
 | .buf t _ u z,.buf t' l u' z'=>AL (decide (t' = t) && beq u u' && (z == z')) [.data (.sl t') l]
 | .map k v _,.map k' v' l=>AL (decide (k' = k) && decide (v' = v)) [.data (.sl (.pair k' v')) l]
 | _,_=>none
def Pn : jz->List V->Option (jz × List V)
 | .cell t v z,r=>match zW v r with
  | some (v',r')=>some (.cell t v' z,r')
  | none=>none
 | .buf _ _ u z,.data (.sl t) l :: r=>some (.buf t l u z,r)
 | .map _ _ _,.data (.sl (.pair k v)) l :: r=>some (.map k v l,r)
 | _,_=>none
theorem L6 : ∀ (p v : jz) (l r : List V),Jq p v = some l->Pn p (l ++ r) = some (v,r)
 | .cell t c z,v,l,r,h=>by
  cases v <;> simp only [Jq,reduceCtorEq] at h
  split at h
  ·rename_i hc
   simp only [and_eq_true,decide_eq_true_eq,beq_iff_eq] at hc
   simp only [Pn]
   rw [ux c _ l r h,hc.1,hc.2]
  ·cases h
 | .buf t c u z,v,l,r,h=>by
  cases v <;> simp only [Jq,reduceCtorEq] at h
  obtain ⟨h1,rfl⟩:=kl h
  simp only [and_eq_true,decide_eq_true_eq,beq_iff_eq] at h1
  rw [<- eq_of_beq_eq_true h1.1.2,<- h1.2]
  rfl
 | .map k c u,v,l,r,h=>by
  cases v <;> simp only [Jq,reduceCtorEq] at h
  obtain ⟨h1,rfl⟩:=kl h
  rfl
def tI : aL->aL->Option (List V)
 | [],[]=>some []
 | (i,b) :: r,(i',b') :: r'=>match beq i i' with
  | true=>both (Jq b b') (tI r r')
  | false=>none
 | _,_=>none
def Ee : aL->List V->Option (aL × List V)
 | [],r=>some ([],r)
 | (i,b) :: h,r=>match Pn b r with
  | some (b',r')=>match Ee h r' with
   | some (h',r2)=>some ((i,b') :: h',r2)
   | none=>none
  | none=>none
theorem pt : ∀ (p v : aL) (l r : List V),tI p v = some l->Ee p (l ++ r) = some (v,r)
 | [],[],l,r,h=>by simp only [tI,Option.some.injEq] at h; subst h; rfl
 | [],_ :: _,l,r,h=>by simp [tI] at h
 | _ :: _,[],l,r,h=>by simp [tI] at h
 | (i,a) :: p,(j,v) :: vs,l,r,h=>by
  simp only [tI] at h
  split at h
  ·rename_i hi
   obtain ⟨x,y,h1,h2,rfl⟩:=iT h
   simp only [Ee]
   rw [List.append_assoc,L6 a v x _ h1]
   simp only
   rw [pt p vs y _ h2,eq_of_beq_eq_true hi]
  ·cases h
theorem iS : ∀ (t : Ty) (l : List V) (x : t.den),getArgs t l = some x->spread t x = l
 | .unit,[],x,h=>rfl
 | .unit,_ :: _,x,h=>by simp [getArgs] at h
 | .pair a b,[],x,h=>by simp [getArgs] at h
 | .pair a b,v :: r,x,h=>by
  cases v with
  | data t y =>
   simp only [getArgs] at h
   split at h
   ·cases h
   ·rename_i z hz
    split at h
    ·cases h
    ·rename_i w hw
     cases h
     obtain ⟨rfl,rfl⟩:=gK hz
     simp only [spread]
     rw [iS b r w hw]
  | _=>simp [getArgs] at h
 | .int _,l,x,h=>by cases l <;> simp [getArgs] at h
 | .bool,l,x,h=>by cases l <;> simp [getArgs] at h
 | .str,l,x,h=>by cases l <;> simp [getArgs] at h
 | .arr _ _,l,x,h=>by cases l <;> simp [getArgs] at h
 | .sl _,l,x,h=>by cases l <;> simp [getArgs] at h
 | .opq,l,x,h=>by cases l <;> simp [getArgs] at h
def hD (t : Ty) : V:=.data t t.zero
def hF (t : Ty) : V:=.full t []
def hI (t : Ty) : V:=.iref t t.zero
def hW (i : Nat) (p : List Step) (t : Ty) (n : Nat) : V:=.view i p t n 0 0
def hC (t : Ty) (v : V) (z : Bool) : jz:=.cell t v z
def hB (t : Ty) (u : Nat) (z : Bool) : jz:=.buf t [] u z
structure Spec where
 pa : List V
 ph : aL
 ps : Ty
 ra : V
 rh : aL
 rs : Ty
 run : ps.den->Option rs.den
def Spec.out (q : Spec) (y : q.rs.den) : V × aL:=match zW q.ra (spread q.rs y) with
 | some (v,l)=>match Ee q.rh l with
  | some (h,_)=>(v,h)
  | none=>(.any,[])
 | none=>(.any,[])
def Spec.read (q : Spec) (v : V) (hp : aL) : Option q.rs.den:=match both (oE q.ra v) (tI q.rh hp) with
 | some l=>getArgs q.rs l
 | none=>none
def Spec.start (q : Spec) (a : q.ps.den) (n : Nat) : St:=match Al q.pa (spread q.ps a) with
 | some (args,l)=>match Ee q.ph l with
  | some (hp,_)=>oz (args.map fQ) hp n
  | none=>⟨[],[]⟩
 | none=>⟨[],[]⟩
def Spec.h (q : Spec) (args : List V) (hp : aL) : Option Sh:=match both (qI q.pa args) (tI q.ph hp) with
 | some l=>match getArgs q.ps l with
  | some a=>some ⟨q.rs.den,q.run a,q.out,fun _ K y=>K (q.out y),fun _ _ _=>rfl⟩
  | none=>none
 | none=>none
theorem Spec.zr {q : Spec} {v : V} {hp : aL} {y : q.rs.den} (h : q.read v hp = some y) : q.out y = (v,hp):=by
 unfold Spec.read at h
 split at h
 ·rename_i l hl
  obtain ⟨x,m,h1,h2,rfl⟩:=iT hl
  unfold Spec.out
  rw [iS _ _ _ h,ux _ _ _ _ h1]
  simp only
  have:=pt _ _ _ [] h2
  grind
 ·cases h
structure sB where
 ra : V
 rh : aL
 rs : Ty
def sB.out (q : sB) (y : q.rs.den) : V × aL:=match zW q.ra (spread q.rs y) with
 | some (v,l)=>match Ee q.rh l with
  | some (h,_)=>(v,h)
  | none=>(.any,[])
 | none=>(.any,[])
def sB.read (q : sB) (v : V) (hp : aL) : Option q.rs.den:=match both (oE q.ra v) (tI q.rh hp) with
 | some l=>getArgs q.rs l
 | none=>none
theorem sB.zr {q : sB} {v : V} {hp : aL} {y : q.rs.den} (h : q.read v hp = some y) : q.out y = (v,hp):=by
 unfold sB.read at h
 split at h
 ·rename_i l hl
  obtain ⟨x,m,h1,h2,rfl⟩:=iT hl
  unfold sB.out
  rw [iS _ _ _ h,ux _ _ _ _ h1]
  simp only
  have:=pt _ _ _ [] h2
  grind
 ·cases h
@[reducible] def Dq : List sB->Type
 | []=>Empty
 | q :: r=>q.rs.den ⊕ Dq r
def qN : (l : List sB)->Dq l->V × aL
 | [],y=>y.elim
 | q :: r,y=>Sum.elim q.out (qN r) y
def Mq (α : Type) (K : V × aL->Option α) : (l : List sB)->Dq l->Option α
 | [],y=>y.elim
 | q :: r,y=>Sum.elim (fun y=>K (q.out y)) (Mq α K r) y
theorem DY (α : Type) (K : V × aL->Option α) : ∀ (l : List sB) (y : Dq l),Mq α K l y = K (qN l y)
 | [],y=>y.elim
 | q :: r,y=>by
  cases y with
  | inl y=>rfl
  | inr y=>exact DY α K r y
def yc (v : V) (hp : aL) : (l : List sB)->Option (Dq l)
 | []=>none
 | q :: r=>match q.read v hp with
  | some y=>some (.inl y)
  | none=>(yc v hp r).map .inr
theorem xf {v : V} {hp : aL} : ∀ (l : List sB) (y : Dq l),yc v hp l = some y->qN l y = (v,hp)
 | [],y,h=>y.elim
 | q :: r,y,h=>by
  simp only [yc] at h
  split at h
  ·rename_i y' h'; cases h; exact sB.zr h'
  ·obtain ⟨y',h',rfl⟩:=Option.map_eq_some_iff.1 h
   exact xf r y' h'
structure qC where
 pa : List V
 ph : aL
 ps : Ty
 alts : List sB
 run : ps.den->Option (Dq alts)
def qC.start (q : qC) (a : q.ps.den) (n : Nat) : St:=match Al q.pa (spread q.ps a) with
 | some (args,l)=>match Ee q.ph l with
  | some (hp,_)=>oz (args.map fQ) hp n
  | none=>⟨[],[]⟩
 | none=>⟨[],[]⟩
def qC.h (q : qC) (args : List V) (hp : aL) : Option Sh:=match both (qI q.pa args) (tI q.ph hp) with
 | some l=>match getArgs q.ps l with
  | some a=>some ⟨Dq q.alts,q.run a,qN q.alts,fun α K y=>Mq α K q.alts y,fun α K y=>DY α K q.alts y⟩
  | none=>none
 | none=>none
def qC.read (q : qC) (v : V) (hp : aL) : Option (Dq q.alts):=yc v hp q.alts
abbrev oD {α : Type} (C : Ctx) (Q : Ex->St->Option α) : Ex->St->Option α
 | .normal,S=>clean C 2 S (Q .ret)
 | .ret,S=>Q .ret S
 | .exit i,S=>Q (.exit i) S
def yH (base : Nat) : aL->Bool
 | []=>true
 | (i,b) :: r=>(match b with
  | .buf _ _ u _=>beq u 0
  | _=>true) && blt i base && yH base r
theorem uf {base : Nat} : ∀ {p hp : aL} {l : List V},tI p hp = some l->yH base p = true->∀ i blk,aq hp i = some blk->blt i base = true /\ ∀ t l v z,blk = .buf t l v z->v = 0
 | [],[],_,_,_,i,blk,h=>by cases h
 | [],_ :: _,l,h,_,_,_,_=>by simp [tI] at h
 | _ :: _,[],l,h,_,_,_,_=>by simp [tI] at h
 | (j,a) :: p,(j',b) :: hp,l,h,hl,i,blk,hi=>by
  simp only [tI] at h
  split at h
  ·rename_i hj
   obtain ⟨x,y,h1,h2,rfl⟩:=iT h
   simp only [yH,and_eq_true] at hl
   simp only [aq,look] at hi
   split at hi
   ·rename_i hji
    cases hi
    have e1:=eq_of_beq_eq_true hj
    have e2:=eq_of_beq_eq_true hji
    refine ⟨by rw [<- e2,<- e1]; exact hl.1.2,fun t l v z e=>?_⟩
    subst e
    cases a <;> simp only [Jq,reduceCtorEq] at h1
    obtain ⟨c1,_⟩:=kl h1
    simp_all
   ·exact uf h2 hl.2 i blk hi
  ·cases h
section
variable {P : Program} {C : Ctx} {G0 : GE}
theorem g9.length_eq {G : GE} {tm : Array Value} : ∀ {l : List V} {m : List Value},g9 G tm l m->l.length = m.length
 | [],[],_=>rfl
 | _ :: _,_ :: _,h=>by simp only [g9] at h; simp [h.2.length_eq]
 | [],_ :: _,h=>by simp [g9] at h
 | _ :: _,[],h=>by simp [g9] at h
theorem qZ : ∀ {p v l : List V},qI p v = some l->p.length = v.length
 | [],[],_,_=>rfl
 | [],_ :: _,_,h=>by simp [qI] at h
 | _ :: _,[],_,h=>by simp [qI] at h
 | _ :: p,_ :: v,l,h=>by
  simp only [qI] at h
  obtain ⟨x,y,h1,h2,_⟩:=iT h
  simp [qZ h2]
theorem yw {w : World} {β : Nat->Option Nat} {σ : Nat->Value} {hp : aL} {I0 : Nat->Nat->Prop} {args : List V} {vals : Array Value} (hR : cK (yd w β σ hp I0)) (ha : g9 (yd w β σ hp I0) #[] args vals.toList) {n : Nat} :
  dP (yd w β σ hp I0) (oz (args.map fQ) hp n) { tmps:=vals ++ Array.replicate (n - vals.size) undef,defers:=[] } w:=by
 have hlen : args.length = vals.size:=by rw [ha.length_eq,Array.length_toList]
 refine ⟨β,σ,Tr.refl _,hR,rfl,?_,fun i v hv=>?_⟩
 ·simp [oz,hlen]
 ·simp only [oz] at hv ⊢
  rw [tO]
  split
  ·rename_i hi
   have hi' : i < vals.size:=by simpa [hlen] using hi
   have hv' : vals.toList[i]? = some v:=by
    grind
   rw [qj _ rfl]
   exact (Dt ha i v hv').fQ
  ·rw [oH]; exact .any
theorem GZ (hC : il P C) (hm : P.follows .mixedOrders = true) {f : FuncId} {fn : Func} {c : Code} (hf : P.funcs[f]? = some fn) (hb : fn.body = some c) (hd : fC c = true) (q : Spec) (k : Nat) (hn : ble q.pa.length fn.ntmps = true) (hl : yH C.base q.ph = true)
  (hF : ∀ a r,q.run a = some r->den C k c (oD C (Au C fn.results.toList q.read)) (q.start a fn.ntmps) = some r) : Kd P f q.h:=by
 intro args hp sh y hsh hy w β σ I0 vals hI hR ha
 unfold Spec.h at hsh
 split at hsh
 ·rename_i l hl2
  split at hsh
  ·rename_i a hga
   cases hsh
   obtain ⟨x,m,h1,h2,rfl⟩:=iT hl2
   have hst : q.start a fn.ntmps = oz (args.map fQ) hp fn.ntmps:=by
    unfold Spec.start
    rw [iS _ _ _ hga,mw _ _ _ _ h1]
    simp only
    have:=pt _ _ _ [] h2
    grind
   have hrun:=hF a y hy
   rw [hst] at hrun
   have hlen : args.length = vals.size:=by rw [ha.length_eq,Array.length_toList]
   have hnv : vals.size <= fn.ntmps:=by
    rw [<- hlen,<- qZ h1]; exact Nat.le_of_ble_eq_true hn
   refine calls_of_wp hf hb ?_
   have hB:=yw hR ha (n:=fn.ntmps)
   have hL : Fy C (yd w β σ hp I0):=⟨fun i blk h=>(uf h2 hl i blk h).1,fun i t l v z h=>(uf h2 hl i _ h).2 t l v z rfl⟩
   have done : ∀ (e : Ex) (S : St) (a : Act) (w' : World),(e = .normal \/ e = .ret)->Au C fn.results.toList q.read e S = some y->dP (yd w β σ hp I0) S a w' ->
     a.defers = [] /\ ∃ v,(results fn a.tmps).run P w' = .ok v w' /\ ∃ v' β' σ',Ending.returned v = .returned v' /\ Tr (yd w β σ hp I0) ((yd w β σ hp I0).at w' β' σ' (q.out y).2) /\ cK ((yd w β σ hp I0).at w' β' σ' (q.out y).2) /\ bA ((yd w β σ hp I0).at w' β' σ' (q.out y).2) #[] (q.out y).1 v':=by
    intro e S a w' he hfin hB
    obtain ⟨β',σ',hRl⟩:=hB
    refine ⟨hRl.defers,?_⟩
    have hfin' : (match K6 C S fn.results.toList with
     | some v=>q.read v S.hp
     | none=>none) = some y:=by
     rcases he with rfl | rfl <;> exact hfin
    split at hfin'
    ·rename_i v hv
     have hout:=Spec.zr hfin'
     rw [hout]
     unfold K6 at hv
     split at hv
     ·rename_i v0 hr
      cases hv
      obtain ⟨xs,s1,s2,s3⟩:=kV hC hRl hr
      obtain ⟨u,rfl⟩:=List.length_eq_one_iff.1 (by simpa using s3)
      refine ⟨u,by rw [k7 s1]; simp,u,β',σ',rfl,hRl.tr,hRl.ok,?_⟩
      simp only [g9,and_true] at s2
      exact s2
     ·rename_i l0 hne hr
      cases hv
      obtain ⟨xs,s1,s2,s3⟩:=kV hC hRl hr
      have hne' : xs.toArray.size ≠ 1:=by
       intro e
       have : l0.length = 1:=by rw [<- s3]; simpa using e
       obtain ⟨z,hz⟩:=List.length_eq_one_iff.1 this
       grind
      refine ⟨.tuple xs.toArray,by rw [k7 s1,dif_neg hne'],.tuple xs.toArray,β',σ',rfl,hRl.tr,hRl.ok,?_⟩
      simp only [bA]
      exact ⟨xs.toArray,rfl,s2⟩
     ·cases hv
    ·cases hfin'
   refine jG hC hm hL k c hd _ _ _ _ w ⟨fun S a w' h hB=>?_,fun id S a w' h hB=>?_,fun S a w' h hB=>?_⟩ hrun hB
   ·obtain ⟨S',h',hB'⟩:=jd hL hB h
    exact done .ret _ a w' (.inr rfl) h' hB'
   ·cases h
   ·exact done .ret S a w' (.inr rfl) h hB
  ·cases hsh
 ·cases hsh
theorem w7 (hC : il P C) (hm : P.follows .mixedOrders = true) {f : FuncId} {fn : Func} {c : Code} (hf : P.funcs[f]? = some fn) (hb : fn.body = some c) (hd : fC c = true) (q : qC) (k : Nat) (hn : ble q.pa.length fn.ntmps = true) (hl : yH C.base q.ph = true)
  (hF : ∀ a r,q.run a = some r->den C k c (oD C (Au C fn.results.toList q.read)) (q.start a fn.ntmps) = some r) : Kd P f q.h:=by
 intro args hp sh y hsh hy w β σ I0 vals hI hR ha
 unfold qC.h at hsh
 split at hsh
 ·rename_i l hl2
  split at hsh
  ·rename_i a hga
   cases hsh
   obtain ⟨x,m,h1,h2,rfl⟩:=iT hl2
   have hst : q.start a fn.ntmps = oz (args.map fQ) hp fn.ntmps:=by
    unfold qC.start
    rw [iS _ _ _ hga,mw _ _ _ _ h1]
    simp only
    have:=pt _ _ _ [] h2
    grind
   have hrun:=hF a y hy
   rw [hst] at hrun
   have hlen : args.length = vals.size:=by rw [ha.length_eq,Array.length_toList]
   have hnv : vals.size <= fn.ntmps:=by
    rw [<- hlen,<- qZ h1]; exact Nat.le_of_ble_eq_true hn
   refine calls_of_wp hf hb ?_
   have hB:=yw hR ha (n:=fn.ntmps)
   have hL : Fy C (yd w β σ hp I0):=⟨fun i blk h=>(uf h2 hl i blk h).1,fun i t l v z h=>(uf h2 hl i _ h).2 t l v z rfl⟩
   have done : ∀ (e : Ex) (S : St) (a : Act) (w' : World),(e = .normal \/ e = .ret)->Au C fn.results.toList q.read e S = some y->dP (yd w β σ hp I0) S a w' ->
     a.defers = [] /\ ∃ v,(results fn a.tmps).run P w' = .ok v w' /\ ∃ v' β' σ',Ending.returned v = .returned v' /\ Tr (yd w β σ hp I0) ((yd w β σ hp I0).at w' β' σ' (qN q.alts y).2) /\ cK ((yd w β σ hp I0).at w' β' σ' (qN q.alts y).2) /\ bA ((yd w β σ hp I0).at w' β' σ' (qN q.alts y).2) #[] (qN q.alts y).1 v':=by
    intro e S a w' he hfin hB
    obtain ⟨β',σ',hRl⟩:=hB
    refine ⟨hRl.defers,?_⟩
    have hfin' : (match K6 C S fn.results.toList with
     | some v=>q.read v S.hp
     | none=>none) = some y:=by
     rcases he with rfl | rfl <;> exact hfin
    split at hfin'
    ·rename_i v hv
     have hout:=xf _ _ hfin'
     rw [hout]
     unfold K6 at hv
     split at hv
     ·rename_i v0 hr
      cases hv
      obtain ⟨xs,s1,s2,s3⟩:=kV hC hRl hr
      obtain ⟨u,rfl⟩:=List.length_eq_one_iff.1 (by simpa using s3)
      refine ⟨u,by rw [k7 s1]; simp,u,β',σ',rfl,hRl.tr,hRl.ok,?_⟩
      simp only [g9,and_true] at s2
      exact s2
     ·rename_i l0 hne hr
      cases hv
      obtain ⟨xs,s1,s2,s3⟩:=kV hC hRl hr
      have hne' : xs.toArray.size ≠ 1:=by
       intro e
       have : l0.length = 1:=by rw [<- s3]; simpa using e
       obtain ⟨z,hz⟩:=List.length_eq_one_iff.1 this
       grind
      refine ⟨.tuple xs.toArray,by rw [k7 s1,dif_neg hne'],.tuple xs.toArray,β',σ',rfl,hRl.tr,hRl.ok,?_⟩
      simp only [bA]
      exact ⟨xs.toArray,rfl,s2⟩
     ·cases hv
    ·cases hfin'
   refine jG hC hm hL k c hd _ _ _ _ w ⟨fun S a w' h hB=>?_,fun id S a w' h hB=>?_,fun S a w' h hB=>?_⟩ hrun hB
   ·obtain ⟨S',h',hB'⟩:=jd hL hB h
    exact done .ret _ a w' (.inr rfl) h' hB'
   ·cases h
   ·exact done .ret S a w' (.inr rfl) h hB
  ·cases hsh
 ·cases hsh
inductive KY where
 | one (q : Spec)
 | alt (q : qC)
def KY.h : KY->List V->aL->Option Sh
 | .one q=>q.h
 | .alt q=>q.h
def Da : List KY->List V->aL->Option Sh
 | [],_,_=>none
 | q :: r,args,hp=>match q.h args hp with
  | some s=>some s
  | none=>Da r args hp
theorem Ci {f : FuncId} : ∀ {l : List KY},(∀ q ∈ l,Kd P f q.h)->Kd P f (Da l)
 | [],_=>fun args hp sh y h=>by cases h
 | q :: r,hq=>fun args hp sh y h hy=>by
  simp only [Da] at h
  split at h
  ·rename_i s hs
   cases h
   exact hq q (by simp) args hp _ y hs hy
  ·exact Ci (fun q' hq'=>hq q' (mem_cons_of_mem _ hq')) args hp sh y h hy
def RZ (l : List (Nat × List KY)) (f : Nat) : Option (List V->aL->Option Sh):=match look l f with
 | some qs=>some (Da qs)
 | none=>none
def Ds (P : Program) (f : FuncId) : List KY->Prop
 | []=>True
 | q :: r=>Kd P f q.h /\ Ds P f r
def CH (P : Program) : List (Nat × List KY)->Prop
 | []=>True
 | (f,l) :: r=>(Ds P f l /\ mW P f) /\ CH P r
theorem Q6 {l : List (Nat × List KY)} (h : CH P l) : ∀ f h',RZ l f = some h'->Kd P f h' /\ mW P f:=by
 intro f h' hs
 unfold RZ at hs
 split at hs
 ·rename_i qs hq
  cases hs
  induction l with
  | nil=>cases hq
  | cons x r ih =>
   obtain ⟨i,q⟩:=x
   simp only [look] at hq
   split at hq
   ·rename_i he
    cases hq
    rw [<- eq_of_beq_eq_true he]
    refine ⟨Ci fun q hq=>?_,h.1.2⟩
    have h1:=h.1.1
    clear ih h
    induction qs with
    | nil=>cases hq
    | cons a b ih =>
     rcases List.mem_cons.1 hq with rfl | hq
     ·exact h1.1
     ·exact ih hq h1.2
   ·exact ih h.2 hq
 ·cases hs
end
def cB (f : Func) : Code:=f.body.getD .skip
def cL : Code->Code
 | .seq a _=>a | .block _ c=>c | .loop c=>c | .scope c=>c | .cond _ x _=>x | c=>c
def cR : Code->Code
 | .seq _ b=>b | .cond _ _ y=>y | c=>c
def R1 : Nat->Nat->List (Nat × V)->List V
 | 0,_,_=>[]
 | n + 1,i,l=>(match look l i with
  | some v=>v
  | none=>.any) :: R1 n (i + 1) l
def BQ (n : Nat) (f : List (Nat × V)) (h : aL) : St:=⟨R1 n 0 f,h⟩
abbrev lq {α : Type} (C : Ctx) (key : Nat) (next : St->Option α) (Q : Ex->St->Option α) : Ex->St->Option α:=uV (fun S=>clean C key S next) Q
def Rh {α : Type} (C : Ctx) (k : Nat) (c : Code) (key : Nat) (Q : Ex->St->Option α) (next : St->Option α) (S : St) : Option α:=den C k c (lq C key next Q) S
def lp {α : Type} (C : Ctx) (k : Nat) (c : Code) (Q : Ex->St->Option α) (S : St) : Option α:=iter (fun next=>den C k c (uV (fun S=>clean C (jr c) S next) Q)) k S
abbrev DT (α : Type) : Type:=Code->(Ex->St->Option α)->St->Option α
def pL {α : Type} (D L : DT α) (js : List Nat) (C : Ctx) : Code->(Ex->St->Option α)->St->Option α
 | .skip,Q,S=>Q .normal S
 | .label _,Q,S=>Q .normal S
 | .region _ ops draw,Q,S=>match draw with
  | false=>Dj C ops ops.toList S (Q .normal)
  | true=>Dy C ops (uF ops.toList []) ops.toList [] (oP S) (Q .normal)
 | .seq a b,Q,S=>pL D L js C a (uV (fun S=>clean C (jr b) S (match mem js (nJ b) with
  | true=>D b Q
  | false=>pL D L js C b Q)) Q) S
 | .cond c x y,Q,S=>match ev S.fr c with
  | .data .bool t=>if (t : Bool) = true then pL D L js C x Q S else pL D L js C y Q S
  | _=>none
 | .block id c,Q,S=>pL D L js C c (sE C id Q) S
 | .loop c,Q,S=>clean C (jr c) S (L c Q)
 | .scope c,Q,S=>pL D L js C c Q S
 | .exit id,Q,S=>clean C (3 * id + 1) S (Q (.exit id))
 | .ret,Q,S=>clean C 2 S (Q .ret)
 | _,_,_=>none
abbrev sq {α : Type} (D L : DT α) (js : List Nat) (C : Ctx) (b : Code) (Q : Ex->St->Option α) : Ex->St->Option α:=uV (fun S=>clean C (jr b) S (match mem js (nJ b) with
 | true=>D b Q
 | false=>pL D L js C b Q)) Q
theorem mC {α : Type} (js : List Nat) (C : Ctx) (k : Nat) : ∀ (c : Code) (Q : Ex->St->Option α) (S : St),pL (den C k) (lp C k) js C c Q S = den C k c Q S
 | .skip,_,_=>rfl
 | .label _,_,_=>rfl
 | .region _ _ _,_,_=>rfl
 | .exit _,_,_=>rfl
 | .ret,_,_=>rfl
 | .loop _,_,_=>rfl
 | .seq a b,Q,S=>by
  simp only [pL,den]
  rw [mC js C k a]
  congr 2
  funext S
  congr 1
  cases mem js (nJ b) with
  | true=>rfl
  | false=>funext S; exact mC js C k b Q S
 | .cond c x y,Q,S=>by
  simp only [pL,den,mC js C k x,mC js C k y]
  rfl
 | .block id c,Q,S=>by simp only [pL,den,mC js C k c]
 | .scope c,Q,S=>by simp only [pL,den,mC js C k c]
 | .rangeFunc _ _ _ _,_,_=>rfl
 | .goto _,_,_=>rfl
 | .refuse _,_,_=>rfl
def fuel : Nat:=2 ^ 64
theorem via {α : Type} {k : Nat} {js : List Nat} {C : Ctx} {c : Code} {Q : DT α->DT α->Ex->St->Option α} {S : St} {r : DT α->DT α->Option α} (h : ∀ D L : DT α,pL D L js C c (Q D L) S = r D L) : den C k c (Q (den C k) (lp C k)) S = r (den C k) (lp C k) :=
 (mC js C k c (Q (den C k) (lp C k)) S).symm.trans (h _ _)
theorem Cq {α : Type} (F : (St->Option α)->St->Option α) (n : Nat) (S : St) : iter F (n + 1) S = F (iter F n) S:=rfl
theorem oY {P : Program} {f : FuncId} {fn : Func} (h : P.funcs[f]? = some fn) (h1 : (fn.name == "runtime.NumGoroutine") = false) (h2 : fn.body.isNone = false) : mW P f := ⟨fn, h, h1, h2⟩
def Pc (l : List (Nat × Fn)) (f : Nat) : Option Fn:=look l f
def Cz (P : Program) : List (Nat × Fn)->Prop
 | []=>True
 | x :: l=>Callee P x.1 x.2 /\ Cz P l
def Og (P : Program) (l : List (Nat × Nat)) : Bool:=l.all fun x=>match P.underlying x.1 with
 | some (.pointer e)=>beq e x.2
 | _=>false
theorem Mr {P : Program} {l : List (Nat × Nat)} (h : Og P l = true) : ∀ i e,look l i = some e->P.underlying i = some (.pointer e):=by
 intro i e hi
 have:=List.all_eq_true.1 h _ (rK hi)
 simp only at this
 split at this
 ·simp_all
 ·cases this
def R8 (P : Program) (l : List (Nat × (Nat × Nat))) : Bool:=l.all fun x=>match P.underlying x.1 with
 | some (.map k e)=>beq k x.2.1 && beq e x.2.2
 | _=>false
theorem OO {P : Program} {l : List (Nat × (Nat × Nat))} (h : R8 P l = true) : ∀ i k e,look l i = some (k,e)->P.underlying i = some (.map k e):=by
 intro i k e hi
 have:=List.all_eq_true.1 h _ (rK hi)
 simp only at this
 split at this
 ·simp_all
 ·cases this
def CE (l : List (Nat × List (String × Nat))) (t : Nat) (m : String) : Option Nat:=match look l t with
 | some ms=>(ms.find? fun x=>x.1 == m).map (·.2)
 | none=>none
def MU (P : Program) (t : Nat) (m : String) (f : Nat) : Bool:=match P.info? t,P.underlying t with
 | some i,some d=>(match d with
  | .pointer _=>false
  | _=>true) && (match i.methods.find? (·.name == m) with
  | some r=>r.path.isEmpty && (match r.func with
   | some (f',false)=>beq f' f
   | _=>false)
  | none=>false)
 | _,_=>false
def Ns (P : Program) (l : List (Nat × List (String × Nat))) : Bool:=l.all fun x=>x.2.all fun y=>MU P x.1 y.1 y.2
theorem Om {P : Program} {t : Nat} {m : String} {f : Nat} (h : MU P t m f = true) : MH P t m f:=by
 intro w v
 unfold MU at h
 split at h
 ·rename_i i d hi hd
  simp only [and_eq_true] at h
  obtain ⟨h1,h2⟩:=h
  split at h2
  ·rename_i r hr
   simp only [and_eq_true] at h2
   obtain ⟨h3,h4⟩:=h2
   split at h4
   ·rename_i f' hf
    have e:=eq_of_beq_eq_true h4
    subst e
    have hp : r.path.toList = []:=by simpa using h3
    obtain ⟨n,hn⟩ : ∃ n,P.types.size + Made.depth = n + 1:=⟨P.types.size + Made.depth - 1,by unfold Made.depth; omega⟩
    have hm : (method (P.types.size + Made.depth) t v m).run P w = .ok (f',v) w:=by
     rw [hn]
     simp only [method,Sem.run_bind,typeInfo,run_program,Result.andThen_ok,hi,Sem.run_pure,hr,hp,follow,hf]
     cases d <;> first | (simp at h1; done) | simp [receiverAt,run_underlying hd,Place.get]
    refine ⟨fun args=>by simp only [callMethod,Sem.run_bind,run_program,Result.andThen_ok,hm],?_⟩
    rw [hn]
    simp only [nilAhead,Sem.run_bind,typeInfo,run_program,Result.andThen_ok,hi,Sem.run_pure,hr,hp,followBlind,hf]
    cases d <;> first | (simp at h1; done) | simp [run_underlying hd]
   ·cases h4
  ·cases h2
 ·cases h
theorem Ls {P : Program} {l : List (Nat × List (String × Nat))} (h : Ns P l = true) : ∀ t m f,CE l t m = some f->MH P t m f:=by
 intro t m f hi
 unfold CE at hi
 split at hi
 ·rename_i ms hms
  obtain ⟨x,hx,rfl⟩:=Option.map_eq_some_iff.1 hi
  have h1:=List.all_eq_true.1 h _ (rK hms)
  have h2:=List.all_eq_true.1 h1 _ (List.mem_of_find?_eq_some hx)
  have h3:=List.find?_some hx
  have e : x.1 = m:=by simpa using h3
  rw [<- e]
  exact Om h2
 ·cases hi
def KA (_ : Nat) : Option (List V->aL->Option Sh):=none
theorem yV {P : Program} {ty : List (Nat × Ty)} {ptr : List (Nat × Nat)} {mp : List (Nat × (Nat × Nat))} {fns : List (Nat × Fn)} {site : List (Nat × Nat)} {inv : List (Nat × List (String × Nat))} {live : List (Nat × List Nat)} {norm : List (Nat × List Norm)} {frz : List Nat} {base lim : Nat}
  (h1 : CP P ty = true) (hp : Og P ptr = true) (hm : R8 P mp = true) (hi : Ns P inv = true) (h2 : Cz P fns) : il P ⟨ty,ptr,mp,Pc fns,KA,site,CE inv,live,norm,frz,base,lim⟩ where
 ty:=E9 h1
 ptr:=Mr hp
 mp:=OO hm
 sh:=fun _ _ h=>by cases h
 inv:=Ls hi
 fn:=fun f F h=>by
  simp only [Pc] at h
  induction fns with
  | nil=>cases h
  | cons x l ih =>
   obtain ⟨i,G⟩:=x
   simp only [look] at h
   split at h
   ·rename_i he
    cases h
    rw [eq_of_beq_eq_true he] at h2
    exact h2.1
   ·exact ih h2.2 h
theorem Jf {P : Program} {ty : List (Nat × Ty)} {ptr : List (Nat × Nat)} {mp : List (Nat × (Nat × Nat))} {fns : List (Nat × Fn)} {shs : List (Nat × List KY)} {site : List (Nat × Nat)} {inv : List (Nat × List (String × Nat))} {live : List (Nat × List Nat)} {norm : List (Nat × List Norm)} {frz : List Nat} {base lim : Nat}
  (h1 : CP P ty = true) (hp : Og P ptr = true) (hm : R8 P mp = true) (hi : Ns P inv = true) (h2 : Cz P fns) (h3 : CH P shs) : il P ⟨ty,ptr,mp,Pc fns,RZ shs,site,CE inv,live,norm,frz,base,lim⟩ where
 ty:=E9 h1
 ptr:=Mr hp
 mp:=OO hm
 sh:=Q6 h3
 inv:=Ls hi
 fn:=(yV (site:=site) (inv:=inv) (live:=live) (norm:=norm) (frz:=frz) (base:=base) (lim:=lim) h1 hp hm hi h2).fn
theorem H2 {α : Type} {C : Ctx} {k : Nat} {c : Code} {Q : Ex->St->Option α} {S : St} (key : Nat) (h : jr c = key) : lp C k c Q S = iter (Rh C k c key Q) k S:=by
 subst h; rfl
theorem PM {P : Program} {C : Ctx} (hC : il P C) (hm : P.follows .mixedOrders = true) {f : FuncId} {fn : Func} {c : Code} (hf : P.funcs[f]? = some fn) (hb : fn.body = some c) (hd : fC c = true) (F : Fn) (hn : ∀ (x : F.ps.den),(spread F.ps x).length <= fn.ntmps)
  (S : F.ps.den->St) (hs : ∀ x,start F fn.ntmps x = S x) (ht : ∀ x,den C fuel c (fin C fn.results.toList F.rs F.multi) (S x) = F.run x) : Kp P f F :=
 tR hC hm hf hb hd F fuel hn fun x r h=>by rw [hs,ht,h]
theorem Nd {P : Program} {C : Ctx} (hC : il P C) (hm : P.follows .mixedOrders = true) {f : FuncId} {fn : Func} {c : Code} (hf : P.funcs[f]? = some fn) (h1 : (fn.name == "runtime.NumGoroutine") = false) (hb : fn.body = some c) (hd : fC c = true) (F : Fn) (hn : ∀ (x : F.ps.den), (spread F.ps x).length <= fn.ntmps)
  (S : F.ps.den->St) (hs : ∀ x,start F fn.ntmps x = S x) (ht : ∀ x,den C fuel c (fin C fn.results.toList F.rs F.multi) (S x) = F.run x) : Kp P f F /\ mW P f :=
 ⟨PM hC hm hf hb hd F hn S hs ht,oY hf h1 (by rw [hb]; rfl)⟩
theorem rZ {α : Type} {k : Nat} (js : List Nat) {C : Ctx} {c : Code} {Q : Ex->St->Option α} {S : St} {r : Option α} (h : pL (den C k) (lp C k) js C c Q S = r) : den C k c Q S = r :=
 (mC js C k c Q S).symm.trans h
end Go.Bx
namespace Go.Bx
open Go Go.RowKit Go.ChangeShapes Go.WideShapes Go.ChangeAt
theorem uX {H : Type} {enc : TypeId × Value->H} {P : Program} {w : World} {base : Nat} {spare : Nat->Bool} {held : Bool} {fuel : Nat} {t e : TypeId} {n : Nat} {k : IntKind} {cs : List Value} {l : List Int} {p : List MemPlace}
  (ht : P.underlying t = some (.array n e)) (he : P.underlying e = some (.int k)) (h1 : P.cellsOf e = 1) (h2 : P.cellsOf t = n)
  (h : DataW.trod enc P w base spare held fuel t cs = some (.agg (l.map fun x=>.lit (.int k x)),p)) : cs = l.map (Value.int k) /\ l.length = n:=by
 obtain ⟨xs,m,_,hx,hlen,hn,hel⟩:=DataW.trod_array ht h
 rw [h2] at hlen
 simp only [Prod.mk.injEq,DataW.agg.injEq] at hx
 have hl : l.length = n:=by
  have:=congrArg List.length hx.1
  grind
 refine ⟨?_,hl⟩
 apply List.ext_getElem
 ·rw [hlen,List.length_map,hl]
 ·intro i hi1 hi2
  have hin : i < n:=by omega
  have hi:=hel i hin
  rw [h1,Nat.mul_one,getElem?_eq_getElem (show i < xs.length by omega)] at hi
  obtain ⟨v,e1,e2,_⟩:=DataW.trod_int he hi
  have hd : (cs.drop i).take 1 = [cs[i]]:=by
   rw [List.drop_eq_getElem_cons hi1]; rfl
  rw [hd] at e1
  have e1 : cs[i] = Value.int k v:=by simpa using e1
  have hm : (l.map fun x=>(DataW.lit (.int k x) : DataW H))[i]? = (xs.map (·.1))[i]?:=by rw [hx.1]
  rw [List.getElem?_map,List.getElem?_map,getElem?_eq_getElem (show i < xs.length by omega),getElem?_eq_getElem (show i < l.length by omega)] at hm
  simp only [Option.map_some,Option.some.injEq] at hm
  rw [e2] at hm
  simp only [DataW.lit.injEq,Lit.int.injEq,true_and] at hm
  rw [e1,List.getElem_map,hm]
theorem Bg {E : Env} {k : IntKind} : ∀ (l : List Int),(∀ x ∈ l,oW k x = true)->cM (ak E (.int k)) l (l.map fun x=>[Value.int k x]) /\ (l.map fun x=>[Value.int k x]).flatten = l.map (Value.int k)
 | [],_=>⟨trivial,rfl⟩
 | a :: l,h=>by
  obtain ⟨h1,h2⟩:=Bg l fun x hx=>h x (mem_cons_of_mem _ hx)
  exact ⟨⟨⟨rfl,h a (by simp)⟩,h1⟩,by simp [h2]⟩
theorem Fe {P : Program} {W : World} {name : String} {g : Nat} {k : IntKind} {n : Nat} {l : List Int} {cs : Array Value} (hg : P.globalNamed name = some g) (hv : W.var? P name = some cs) (hcs : cs.toList = l.map (Value.int k)) (hl : l.length = n) (hr : ∀ x ∈ l,oW k x = true) :
  ∃ ds,(ds = [] \/ ∃ m,ds.length <= m /\ (lI W).im g m) /\ (∀ j u,ds[j]? = some u->(lI W).w.cell? ⟨g,j,none⟩ = some u) /\ ak (lI W) (.arr n (.int k)) l ds:=by
 obtain ⟨h1,h2⟩:=Bg (E:=lI W) (k:=k) l hr
 refine ⟨l.map (Value.int k),?_,fun j u hj=>?_,hl,_,h2.symm,h1⟩
 ·by_cases h0 : l = []
  ·left; rw [h0]; rfl
  ·right
   refine ⟨(l.map (Value.int k)).length,le_refl _,?_⟩
   show g < W.heap.size
   have hv':=hv
   simp only [World.var?,hg,Option.bind_some] at hv'
   by_cases hlt : g < W.heap.size
   ·exact hlt
   ·rw [Array.getElem?_eq_none (by omega)] at hv'
    simp at hv'
 ·show W.cell? ⟨g,j,none⟩ = some u
  rw [World.var?_cell hg hv j,<- hj,<- hcs]
  simp
end Go.Bx
namespace Go.Bx
open Go Go.RowKit
@[reducible] def Cu : Ty->Type->Type
 | .pair a b,R=>a.den->Cu b R
 | .int _,R=>R | .bool,R=>R | .str,R=>R | .arr _ _,R=>R | .sl _,R=>R | .unit,R=>R | .opq,R=>R
def ap {R : Type} : (t : Ty)->Cu t R->t.den->R
 | .pair a b,f,x=>ap b (f x.1) x.2
 | .int _,f,_=>f | .bool,f,_=>f | .str,f,_=>f | .arr _ _,f,_=>f | .sl _,f,_=>f | .unit,f,_=>f | .opq,f,_=>f
@[reducible] def QD : List Step->Ty->Ty
 | [],r=>r
 | .idx _ :: p,r=>.pair (.int .i64) (QD p r)
 | .fld _ :: p,r=>QD p r
mutual
@[reducible] def I2 : V->Ty->Ty
 | .data t _,r=>.pair t r
 | .iref t _,r=>.pair t r
 | .full t l,r=>match l with
  | []=>.pair (.sl t) r
  | _ :: _=>r
 | .view _ _ _ _ _ _,r=>.pair (.int .i64) (.pair (.int .i64) r)
 | .tup l,r=>Ld l r
 | .opt _ _ v,r=>I2 v r
 | .fn _ a b,r=>Ld a (Ld b r)
 | .agg _ l,r=>Ld l r
 | .ifc _ v,r=>I2 v r
 | .mth _ v,r=>I2 v r
 | .ref _ _ p,r=>QD p r
 | _,r=>r
@[reducible] def Ld : List V->Ty->Ty
 | [],r=>r
 | v :: l,r=>I2 v (Ld l r)
end
@[reducible] def SB : jz->Ty->Ty
 | .cell _ v _,r=>I2 v r
 | .buf t _ _ _,r=>.pair (.sl t) r
 | .map k v _,r=>.pair (.sl (.pair k v)) r
@[reducible] def RM : aL->Ty->Ty
 | [],r=>r
 | (_,b) :: h,r=>SB b (RM h r)
structure Px where
 n : Nat
 f : List (Nat × V)
 h : aL
@[reducible] def TK (l : List (Nat × V)) (r : Ty) : Ty:=match l with
 | []=>r
 | (_,v) :: l=>I2 v (TK l r)
@[reducible] def Px.ps (S : Px) : Ty:=TK S.f (RM S.h .unit)
@[reducible] def K (S : Px) (α : Type) : Type:=Cu S.ps (Option α)
def Qz : List Step->List (Option Ty)
 | []=>[]
 | .idx _ :: p=>none :: Qz p
 | .fld _ :: p=>Qz p
mutual
def K4 : V->List (Option Ty)
 | .data _ _=>[none]
 | .iref _ _=>[none]
 | .full t l=>match l with
  | []=>[none]
  | _ :: _=>[some t]
 | .view _ _ _ _ _ _=>[none,none]
 | .tup l=>Jd l
 | .opt _ _ v=>K4 v
 | .fn _ a b=>Jd a ++ Jd b
 | .agg _ l=>Jd l
 | .ifc _ v=>K4 v
 | .mth _ v=>K4 v
 | .ref _ _ p=>Qz p
 | _=>[]
def Jd : List V->List (Option Ty)
 | []=>[]
 | v :: l=>K4 v ++ Jd l
end
def Q5 : aL->List (Option Ty)
 | []=>[]
 | (_,b) :: h=>(match b with
  | .cell _ v _=>K4 v
  | _=>[none]) ++ Q5 h
def Px.TG (S : Px) : List (Option Ty):=Jd (S.f.map (·.2)) ++ Q5 S.h
def J4 : List (Option Ty)->List V->List V
 | none :: k,v :: l=>v :: J4 k l
 | some t :: k,l=>.data (.sl t) [] :: J4 k l
 | none :: _,[]=>[]
 | [],l=>l
def FJ : List (Option Ty)->List V->Option (List V)
 | none :: k,v :: l=>match FJ k l with
  | some m=>some (v :: m)
  | none=>none
 | some t :: k,v :: l=>match v with
  | .data (.sl t') x=>match (x : List t'.den),decide (t' = t) with
   | [],true=>FJ k l
   | _,_=>none
  | _=>none
 | none :: _,[]=>none
 | some _ :: _,[]=>none
 | [],l=>some l
theorem DB : ∀ {k : List (Option Ty)} {l m : List V},FJ k l = some m->J4 k m = l
 | none :: k,v :: l,m,h=>by
  simp only [FJ] at h
  split at h
  ·rename_i m' hm; cases h; simp only [J4,DB hm]
  ·cases h
 | some t :: k,v :: l,m,h=>by
  simp only [FJ] at h
  split at h
  ·split at h
   ·rename_i t' x h1 h2
    have:=of_decide_eq_true h2
    subst this
    simp only [J4,DB h]
   ·cases h
  ·cases h
 | none :: _,[],m,h=>by simp [FJ] at h
 | some _ :: _,[],m,h=>by simp [FJ] at h
 | [],l,m,h=>by cases h; rfl
def Px.pk (S : Px) (x : S.ps.den) : St:=match Al (R1 S.n 0 S.f) (J4 S.TG (spread S.ps x)) with
 | some (fr,l)=>match Ee S.h l with
  | some (hp,_)=>⟨fr,hp⟩
  | none=>⟨[],[]⟩
 | none=>⟨[],[]⟩
def Px.un {α : Type} (S : Px) (j : K S α) (st : St) : Option α:=match both (qI (R1 S.n 0 S.f) st.fr) (tI S.h st.hp) with
 | some l=>match FJ S.TG l with
  | some l=>match getArgs S.ps l with
   | some x=>ap S.ps j x
   | none=>none
  | none=>none
 | none=>none
theorem yb {α : Type} {S : Px} {j : K S α} {st : St} {y : α} (h : S.un j st = some y) : ∃ x,st = S.pk x /\ ap S.ps j x = some y:=by
 unfold Px.un at h
 split at h
 ·rename_i l hl
  split at h
  ·rename_i l' hl'
   split at h
   ·rename_i x hx
    obtain ⟨a,b,h1,h2,rfl⟩:=iT hl
    refine ⟨x,?_,h⟩
    unfold Px.pk
    rw [iS _ _ _ hx,DB hl',mw _ _ _ _ h1]
    simp only
    have:=pt _ _ _ [] h2
    rw [append_nil] at this
    rw [this]
   ·cases h
  ·cases h
 ·cases h
def hN (t : Ty) : V:=.full t [t.zero]
inductive ee (α : Type) where
 | j (S : Px) (f : K S α)
 | l (S : Px) (f : Nat->K S α) (W : Nat->List (Nat × ee α))
def gt {α : Type} (k : Nat) (W : List (Nat × ee α)) (key : Nat) (S : St) : Option α:=match look W key with
 | some (.j s f)=>s.un f S
 | some (.l s f _)=>s.un (f k) S
 | none=>none
abbrev Dw {α : Type} (k : Nat) (W : List (Nat × ee α)) : DT α:=fun b _ S=>gt k W (4 * nJ b) S
abbrev Lw {α : Type} (k : Nat) (W : List (Nat × ee α)) : DT α:=fun c _ S=>gt k W (4 * jr c + 1) S
def Le {α : Type} (f g : St->Option α) : Prop:=∀ S y,f S = some y->g S = some y
def OL {α : Type} (f g : Ex->St->Option α) : Prop:=∀ e,Le (f e) (g e)
abbrev dw {α : Type} (k : Nat) (W : List (Nat × ee α)) (js : List Nat) (C : Ctx) (c : Code) (Q : Ex->St->Option α) (S : St) : Option α:=pL (Dw k W) (Lw k W) js C c Q S
def Good {α : Type} (js : List Nat) (C : Ctx) (k : Nat) : Code->List (Nat × ee α)->(Ex->St->Option α)->(Ex->St->Option α)->Prop
 | .seq a b,W,Q,q=>(match mem js (nJ b) with
   | true=>(match look W (4 * nJ b) with
    | some (.j s f)=>∀ x,dw k W js C b Q (s.pk x) = ap s.ps f x
    | some (.l _ _ _)=>False
    | none=>True)
   | false=>True) /\ Good js C k b W Q q /\
   Good js C k a W (sq (Dw k W) (Lw k W) js C b Q) (uV (fun S=>clean C (jr b) S (den C k b q)) q)
 | .cond _ x y,W,Q,q=>Good js C k x W Q q /\ Good js C k y W Q q
 | .block id c,W,Q,q=>Good js C k c W (sE C id Q) (sE C id q)
 | .scope c,W,Q,q=>Good js C k c W Q q
 | .loop c,W,Q,q=>match look W (4 * jr c + 1) with
  | some (.l s f W')=>(∀ x,ap s.ps (f 0) x = none) /\ ∀ n,(∀ x,dw k (W' n) js C c (lq C (jr c) (s.un (f n)) Q) (s.pk x) = ap s.ps (f (n + 1)) x) /\
    ∀ next,Le (s.un (f n)) next->Good js C k c (W' n) (lq C (jr c) (s.un (f n)) Q) (lq C (jr c) next q)
  | some (.j _ _)=>False
  | none=>True
 | _,_,_,_=>True
theorem MM {α : Type} {g : Option Gd} {c : Prop} {i : Decidable c} {K K' : Option α} {y : α} (hK : ∀ y,K = some y->K' = some y) (h : DG g c i K = some y) : DG g c i K' = some y:=by
 unfold DG at h ⊢
 split at h
 ·split at h
  ·exact hK _ h
  ·cases h
 ·split at h
  ·exact hK _ h
  ·cases h
theorem C5 {α β : Type} {o : Option β} {f g : β->Option α} {y : α} (hf : ∀ r y,f r = some y->g r = some y) (h : o.bind f = some y) : o.bind g = some y:=by
 cases o with
 | none=>cases h
 | some r=>exact hf r y h
theorem RW {α : Type} {C : Ctx} {g : Option Gd} {o : Oper} {S : St} {K K' : List Nat->St->Option α} {y : α} (hK : ∀ wr,Le (K wr) (K' wr)) (h : T C g o S K = some y) : T C g o S K' = some y:=by
 unfold T at h ⊢
 split at h
 ·exact MM (fun y=>hK _ _ y) h
 ·exact C5 (fun r y=>hK _ _ y) h
 ·exact hK _ _ _ h
 ·cases h
 ·split at h
  ·cases h
  ·exact hK _ _ _ h
  ·split at h
   ·exact MM (fun y=>hK _ _ y) h
   ·exact C5 (fun r y=>hK _ _ y) h
   ·refine C5 (fun r y hy=>?_) h
    rw [Sh.ok] at hy ⊢
    split at hy
    ·exact hK _ _ _ hy
    ·cases hy
   ·cases h
theorem Iq {α : Type} {C : Ctx} {ops : Array Oper} {K K' : St->Option α} (hK : Le K K') : ∀ (l : List Oper) (S : St) (y : α),Dj C ops l S K = some y->Dj C ops l S K' = some y
 | [],S,y,h=>hK S y h
 | o :: r,S,y,h=>by
  simp only [Dj] at h ⊢
  split at h
  ·cases h
  ·exact RW (fun _ S' y=>Iq hK r S' y) h
theorem Ho {α : Type} {C : Ctx} {ops : Array Oper} {ms : List Nat} {K K' : St->Option α} (hK : Le K K') : ∀ (l : List Oper) (acc : List Rec) (S : St) (y : α),Dy C ops ms l acc S K = some y->Dy C ops ms l acc S K' = some y
 | [],acc,S,y,h=>hK S y h
 | o :: r,acc,S,y,h=>by
  simp only [Dy] at h ⊢
  split at h
  ·cases h
  ·refine RW (fun wr S' y hy=>?_) h
   split at hy
   ·exact Ho hK r _ S' y hy
   ·cases hy
theorem nE {α : Type} {C : Ctx} {key : Nat} {S : St} {K K' : St->Option α} {y : α} (hK : Le K K') (h : clean C key S K = some y) : clean C key S K' = some y:=by
 unfold clean at h ⊢
 split at h
 ·exact hK _ _ h
 ·split at h
  ·exact hK _ _ h
  ·split at h
   ·exact hK _ _ h
   ·cases h
theorem Hm {α : Type} {n n' : St->Option α} {Q Q' : Ex->St->Option α} (hn : Le n n') (hQ : OL Q Q') : OL (uV n Q) (uV n' Q')
 | .normal=>hn
 | .exit i=>hQ (.exit i)
 | .ret=>hQ .ret
theorem NY {α : Type} {C : Ctx} {id : Nat} {Q Q' : Ex->St->Option α} (hQ : OL Q Q') : OL (sE C id Q) (sE C id Q')
 | .normal=>fun S y h=>nE (hQ .normal) h
 | .exit i=>fun S y h=>by
  simp only [sE] at h ⊢
  split at h
  ·rename_i hb; rw [if_pos hb]; exact hQ _ _ _ h
  ·rename_i hb; rw [if_neg hb]; exact hQ _ _ _ h
 | .ret=>hQ .ret
theorem ml {α : Type} {js : List Nat} {C : Ctx} {k : Nat} : ∀ (c : Code) {W : List (Nat × ee α)} {Q q : Ex->St->Option α},Good js C k c W Q q->OL Q q->∀ {S : St} {y : α},dw k W js C c Q S = some y->den C k c q S = some y
 | .skip,W,Q,q,_,hQ,S,y,h=>hQ _ _ _ h
 | .label _,W,Q,q,_,hQ,S,y,h=>hQ _ _ _ h
 | .region _ ops draw,W,Q,q,_,hQ,S,y,h=>by
  cases draw with
  | false=>exact Iq (hQ .normal) _ _ _ h
  | true=>exact Ho (hQ .normal) _ _ _ _ h
 | .seq a b,W,Q,q,hG,hQ,S,y,h=>by
  obtain ⟨h1,h2,h3⟩:=hG
  refine ml a h3 (Hm (fun S y h=>nE (fun S y h=>?_) h) hQ) h
  cases hm : mem js (nJ b) with
  | false=>rw [hm] at h; exact ml b h2 hQ h
  | true =>
   rw [hm] at h h1
   simp only [Dw,gt] at h
   split at h
   ·rename_i s f he
    simp only [he] at h1
    obtain ⟨x,rfl,hx⟩:=yb h
    exact ml b h2 hQ ((h1 x).trans hx)
   ·rename_i s f W' he
    simp only [he] at h1
   ·cases h
 | .cond c x z,W,Q,q,hG,hQ,S,y,h=>by
  simp only [dw,pL,den] at h ⊢
  cases he : ev S.fr c with
  | data t b =>
   cases t with
   | bool =>
    simp only [he] at h ⊢
    cases b with
    | true=>exact ml x hG.1 hQ h
    | false=>exact ml z hG.2 hQ h
   | _=>simp only [he] at h; cases h
  | _=>simp only [he] at h; cases h
 | .block id c,W,Q,q,hG,hQ,S,y,h=>ml c (W:=W) hG (NY hQ) h
 | .scope c,W,Q,q,hG,hQ,S,y,h=>ml c (W:=W) hG hQ h
 | .exit id,W,Q,q,_,hQ,S,y,h=>nE (hQ _) h
 | .ret,W,Q,q,_,hQ,S,y,h=>nE (hQ _) h
 | .loop c,W,Q,q,hG,hQ,S,y,h=>by
  refine nE (fun S y h=>?_) h
  simp only [Good] at hG
  simp only [Lw,gt] at h
  split at h
  ·rename_i s f he
   simp only [he] at hG
  ·rename_i s f W' he
   simp only [he] at hG
   obtain ⟨h0,hs⟩:=hG
   have key : ∀ n,Le (s.un (f n)) (iter (fun next=>den C k c (uV (fun S=>clean C (jr c) S next) q)) n):=by
    intro n
    induction n with
    | zero =>
     intro S y h
     obtain ⟨x,_,hx⟩:=yb h
     rw [h0] at hx; cases hx
    | succ n ih =>
     intro S y h
     obtain ⟨x,rfl,hx⟩:=yb h
     exact ml c ((hs n).2 _ ih) (Hm (fun S y h=>nE ih h) hQ) (((hs n).1 x).trans hx)
   exact key k S y h
  ·cases h
 | .rangeFunc _ _ _ _,W,Q,q,_,hQ,S,y,h=>by cases h
 | .goto _,W,Q,q,_,hQ,S,y,h=>by cases h
 | .refuse _,W,Q,q,_,hQ,S,y,h=>by cases h
def Qr {α : Type} (R : Px) (f : K R α) : Ex->St->Option α
 | .ret,S=>R.un f S
 | _,_=>none
theorem O1 {α : Type} {R : Px} {f : K R α} {q : Ex->St->Option α} (h : ∀ x,q .ret (R.pk x) = ap R.ps f x) : OL (Qr R f) q
 | .ret,S,y,hy=>by
  obtain ⟨x,rfl,hx⟩:=yb hy
  exact (h x).trans hx
 | .normal,S,y,hy=>by cases hy
 | .exit _,S,y,hy=>by cases hy
theorem Oq {α : Type} {C : Ctx} {Q q : Ex->St->Option α} (h : OL Q q) : OL (oD C Q) (oD C q)
 | .ret=>h .ret
 | .normal=>fun S y hy=>nE (h .ret) hy
 | .exit i=>h (.exit i)
def Ty.parts : Ty->Nat
 | .pair _ b=>b.parts + 1
 | _=>0
theorem nb : ∀ (t : Ty) (x : t.den),(spread t x).length = t.parts
 | .pair a b,x=>by simp [spread,Ty.parts,nb b]
 | .int _,_=>rfl | .bool,_=>rfl | .str,_=>rfl | .arr _ _,_=>rfl | .sl _,_=>rfl | .unit,_=>rfl | .opq,_=>rfl
structure Cn (P : Program) where
 f : Nat
 F : Fn
 own : Bool
 mine : own = true->Kp P f F /\ mW P f
 ext : own = false->uC P f F
theorem Cn.ok {P : Program} : (c : Cn P)->Callee P c.f c.F
 | ⟨_,_,true,h,_⟩=>.inl (h rfl)
 | ⟨_,_,false,_,h⟩=>.inr (h rfl)
def ce {P : Program} (f : Nat) (F : Fn) (h : uC P f F) : Cn P:=⟨f,F,false,(fun h=>by cases h),fun _=>h⟩
def co {P : Program} (f : Nat) (F : Fn) (h : Kp P f F /\ mW P f) : Cn P:=⟨f,F,true,fun _=>h,(fun h=>by cases h)⟩
structure Sn (P : Program) where
 f : Nat
 q : KY
 ok : Kd P f q.h
 nm : mW P f
def UC {P : Program} (l : List (Sn P)) : List (Nat × List KY):=l.map fun s=>(s.f,l.filterMap fun t=>match beq t.f s.f with
 | true=>some t.q
 | false=>none)
theorem Ck {P : Program} : ∀ l : List (Cn P),Cz P (l.map fun c=>(c.f,c.F))
 | []=>trivial
 | c :: l=>⟨c.ok,Ck l⟩
theorem tZ {P : Program} (f : Nat) : ∀ l : List (Sn P),Ds P f (l.filterMap fun t=>match beq t.f f with
 | true=>some t.q
 | false=>none)
 | []=>trivial
 | t :: l=>by
  rw [List.filterMap_cons]
  split
  ·exact tZ f l
  ·rename_i q h
   split at h
   ·rename_i e
    cases h
    exact ⟨eq_of_beq_eq_true e ▸ t.ok,tZ f l⟩
   ·cases h
theorem Bl {P : Program} (m : List (Sn P)) : ∀ l : List (Sn P),CH P (l.map fun s=>(s.f,m.filterMap fun t=>match beq t.f s.f with
 | true=>some t.q
 | false=>none))
 | []=>trivial
 | s :: l=>⟨⟨tZ s.f m,s.nm⟩,Bl m l⟩
structure Gc where
 ty : List (Nat × Ty)
 ptr : List (Nat × Nat)
 mp : List (Nat × (Nat × Nat))
 inv : List (Nat × List (String × Nat))
def Kt : Nat->Nat->Nat->List Nat
 | 0,_,_=>[]
 | k + 1,m,i=>match beq m 0 with
  | true=>[]
  | false=>match beq (m % 2) 1 with
   | true=>i :: Kt k (m / 2) (i + 1)
   | false=>Kt k (m / 2) (i + 1)
structure Dc (P : Program) where
 fn : Func
 js : List Nat
 cs : List (Cn P)
 ss : List (Sn P)
 site : List (Nat × Nat)
 live : List (Nat × Nat × Nat)
 norm : List (Nat × List Norm)
 frz : List Nat
 base : Nat
@[reducible] def Dc.C {P : Program} (D : Dc P) (G : Gc) : Ctx:=⟨G.ty,G.ptr,G.mp,Pc (D.cs.map fun c=>(c.f,c.F)),RZ (UC D.ss),D.site,CE G.inv,D.live.map fun x=>(x.1,Kt 600 x.2.1 x.2.2),D.norm,D.frz,D.base,0⟩
@[reducible] def Dc.c {P : Program} (D : Dc P) : Code:=cB D.fn
structure JI (P : Program) (G : Gc) : Prop where
 ty : CP P G.ty = true
 ptr : Og P G.ptr = true
 mp : R8 P G.mp = true
 inv : Ns P G.inv = true
 mix : P.follows .mixedOrders = true
theorem L8 {P : Program} {G : Gc} {D : Dc P} (h : JI P G) : il P (D.C G):=Jf h.ty h.ptr h.mp h.inv (Ck D.cs) (Bl D.ss D.ss)
def sr (i : Nat) : Nat × V:=(i,.ref i 0 [])
def st (i j : Nat) : Nat × V:=(i,.ref j 0 [])
def sd (i : Nat) (t : Ty) : Nat × V:=(i,hD t)
def sc (i : Nat) (t : Ty) : Nat × jz:=(i,hC t (hD t) false)
def se (i : Nat) (t : Ty) (v : V) : Nat × jz:=(i,hC t v false)
def sb (i : Nat) (t : Ty) (u : Nat) : Nat × jz:=(i,hB t u false)
def sz (i : Nat) (t : Ty) (u : Nat) : Nat × jz:=(i,hB t u true)
def no {α : Type} : (t : Ty)->Cu t (Option α)
 | .pair _ b=>fun _=>no b
 | .int _=>none | .bool=>none | .str=>none | .arr _ _=>none | .sl _=>none | .unit=>none | .opq=>none
def kz {α : Type} {S : Px} : K S α:=no S.ps
@[reducible] def tu : List Ty->Ty
 | []=>.unit
 | t :: l=>.pair t (tu l)
@[reducible] def fm (ps : List Ty) (rs : List Ty) (r : Cu (tu ps) (Option (tu rs).den)) : Fn:=⟨tu ps,tu rs,true,ap (tu ps) r⟩
@[reducible] def fo (ps : List Ty) (rs : Ty) (r : Cu (tu ps) (Option rs.den)) : Fn:=⟨tu ps,rs,false,ap (tu ps) r⟩
@[reducible] def re (pa : List V) (ph : aL) (ps : List Ty) (ra : V) (rh : aL) (rs : List Ty) (r : Cu (tu ps) (Option (tu rs).den)) : Spec:=⟨pa,ph,tu ps,ra,rh,tu rs,ap (tu ps) r⟩
def Q0 {R : Type} : (t : Ty)->(t.den->R)->Cu t R
 | .pair a b,f=>fun x=>Q0 b fun y=>f (x,y)
 | .unit,f=>f ()
 | .int _,f=>f (0 : Int) | .bool,f=>f false | .str,f=>f ([] : List Int) | .arr _ t,f=>f ([] : List t.den) | .sl t,f=>f ([] : List t.den) | .opq,f=>f ()
def e0 {R : Px} {α : Type} (k : Nat) (r : K R α) : List (Nat × ee α):=[]
def ri {R : Px} : K R R.ps.den:=Q0 R.ps some
theorem PN {P : Program} {f : FuncId} {G : Gc} {F : Fn} (D : Dc P) (R : Px) (tp : Nat->K R F.rs.den->Cu F.ps (Option F.rs.den)) (rf : K R F.rs.den) (W : Nat->K R F.rs.den->List (Nat × ee F.rs.den)) (hG : JI P G)
  (hf : P.funcs[f]? = some D.fn) (h1 : (D.fn.name == "runtime.NumGoroutine") = false) (hb : D.fn.body = some D.c) (hd : fC D.c = true)
  (hn : ble F.ps.parts D.fn.ntmps = true) (hp : F.run = ap F.ps (tp fuel rf))
  (ht : ∀ k x,dw k (W k rf) D.js (D.C G) D.c (Qr R rf) (start F D.fn.ntmps x) = ap F.ps (tp k rf) x)
  (hr : ∀ x,fin (D.C G) D.fn.results.toList F.rs F.multi .ret (R.pk x) = ap R.ps rf x)
  (hg : ∀ k,Good D.js (D.C G) k D.c (W k rf) (Qr R rf) (fin (D.C G) D.fn.results.toList F.rs F.multi)) : Kp P f F /\ mW P f :=
 ⟨tR (L8 hG) hG.mix hf hb hd F fuel (fun x=>by rw [nb]; exact Nat.le_of_ble_eq_true hn) fun x r h=>ml _ (hg fuel) (O1 hr) ((ht fuel x).trans (by rw [<- h,hp])),oY hf h1 (by rw [hb]; rfl)⟩
def cn {P : Program} {G : Gc} (f : Nat) (F : Fn) (D : Dc P) (R : Px) (tp : Nat->K R F.rs.den->Cu F.ps (Option F.rs.den)) (rf : K R F.rs.den) (W : Nat->K R F.rs.den->List (Nat × ee F.rs.den)) (hG : JI P G)
  (hf : P.funcs[f]? = some D.fn) (h1 : (D.fn.name == "runtime.NumGoroutine") = false := by kernel_rfl) (hb : D.fn.body = some D.c := by kernel_rfl) (hd : fC D.c = true := by kernel_rfl)
  (hn : ble F.ps.parts D.fn.ntmps = true:=by kernel_rfl) (hp : F.run = ap F.ps (tp fuel rf):=by kernel_rfl)
  (ht : ∀ k x,dw k (W k rf) D.js (D.C G) D.c (Qr R rf) (start F D.fn.ntmps x) = ap F.ps (tp k rf) x:=by intro k x; kernel_rfl)
  (hr : ∀ x,fin (D.C G) D.fn.results.toList F.rs F.multi .ret (R.pk x) = ap R.ps rf x:=by intro x; kernel_rfl)
  (hg : ∀ k,Good D.js (D.C G) k D.c (W k rf) (Qr R rf) (fin (D.C G) D.fn.results.toList F.rs F.multi):=by
   intro k; repeat' (first | exact trivial | apply And.intro | (refine fun _=>?_) | kernel_rfl)) : Cn P :=
 co f F (PN D R tp rf W hG hf h1 hb hd hn hp ht hr hg)
theorem PX {P : Program} {f : FuncId} {G : Gc} {q : Spec} (D : Dc P) (R : Px) (tp : Nat->K R q.rs.den->Cu q.ps (Option q.rs.den)) (rf : K R q.rs.den) (W : Nat->K R q.rs.den->List (Nat × ee q.rs.den)) (hG : JI P G)
  (hf : P.funcs[f]? = some D.fn) (hb : D.fn.body = some D.c) (hd : fC D.c = true)
  (hn : ble q.pa.length D.fn.ntmps = true) (hl : yH D.base q.ph = true) (hp : q.run = ap q.ps (tp fuel rf))
  (ht : ∀ k x,dw k (W k rf) D.js (D.C G) D.c (oD (D.C G) (Qr R rf)) (q.start x D.fn.ntmps) = ap q.ps (tp k rf) x)
  (hr : ∀ x,Au (D.C G) D.fn.results.toList q.read .ret (R.pk x) = ap R.ps rf x)
  (hg : ∀ k,Good D.js (D.C G) k D.c (W k rf) (oD (D.C G) (Qr R rf)) (oD (D.C G) (Au (D.C G) D.fn.results.toList q.read))) : Kd P f q.h :=
 GZ (L8 hG) hG.mix hf hb hd q fuel hn hl fun x r h=>ml _ (hg fuel) (Oq (O1 hr)) ((ht fuel x).trans (by rw [<- h,hp]))
def sn {P : Program} {G : Gc} (f : Nat) (q : Spec) (D : Dc P) (R : Px) (tp : Nat->K R q.rs.den->Cu q.ps (Option q.rs.den)) (rf : K R q.rs.den) (W : Nat->K R q.rs.den->List (Nat × ee q.rs.den)) (hG : JI P G)
  (hf : P.funcs[f]? = some D.fn) (h1 : (D.fn.name == "runtime.NumGoroutine") = false := by kernel_rfl) (hb : D.fn.body = some D.c := by kernel_rfl) (hd : fC D.c = true := by kernel_rfl)
  (hn : ble q.pa.length D.fn.ntmps = true:=by kernel_rfl) (hl : yH D.base q.ph = true:=by kernel_rfl) (hp : q.run = ap q.ps (tp fuel rf):=by kernel_rfl)
  (ht : ∀ k x,dw k (W k rf) D.js (D.C G) D.c (oD (D.C G) (Qr R rf)) (q.start x D.fn.ntmps) = ap q.ps (tp k rf) x:=by intro k x; kernel_rfl)
  (hr : ∀ x,Au (D.C G) D.fn.results.toList q.read .ret (R.pk x) = ap R.ps rf x:=by intro x; kernel_rfl)
  (hg : ∀ k,Good D.js (D.C G) k D.c (W k rf) (oD (D.C G) (Qr R rf)) (oD (D.C G) (Au (D.C G) D.fn.results.toList q.read)):=by
   intro k; repeat' (first | exact trivial | apply And.intro | (refine fun _=>?_) | kernel_rfl)) : Sn P :=
 ⟨f,.one q,PX D R tp rf W hG hf hb hd hn hl hp ht hr hg,oY hf h1 (by rw [hb]; rfl)⟩
end Go.Bx
