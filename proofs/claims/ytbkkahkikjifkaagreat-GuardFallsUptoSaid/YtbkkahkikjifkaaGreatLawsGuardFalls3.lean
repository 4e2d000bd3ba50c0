/- Laws about functions of plain data, in plain Lean. -/
import Derived.Test.YtbkkahkikjifkaaGreatLawsGuardFalls2
import Derived.Test.YtbkkahkikjifkaaGreatFnGuardFalls2
import Derived.Test.YtbkkahkikjifkaaGreatLawsGuardFalls0
namespace Go.Bx
open Go
set_option linter.unusedSimpArgs false
set_option linter.unusedVariables false
set_option maxRecDepth 100000
theorem gate1 (r : List Int) (p : Bool) (h : p = true->0 < r.length) : (decide (0 <= (0 : Int) /\ (0 : Int) < (r.length : Int)) || !(p == true)) = true:=by
 cases p with
 | false=>simp
 | true =>
  have:=h rfl
  rw [show decide (0 <= (0 : Int) /\ (0 : Int) < (r.length : Int)) = true by rw [decide_eq_true_eq]; omega]
  rfl
theorem three {r : List Int} (h : r.length = 3) : r = [r.getD 0 0,r.getD 1 0,r.getD 2 0]:=by
 match r,h with
 | [a,b,c],_=>rfl
def AllSmall (r : GuardD) : Prop:=r.2.1.2.2.2.1.length <= 4000000 /\ r.2.1.2.2.2.2.1.length <= 4000000 /\ r.2.2.1.2.2.2.1.length <= 4000000 /\ r.2.2.1.2.2.2.2.1.length <= 4000000 /\ r.2.2.2.2.1.length <= 4000000 /\ r.2.2.2.2.2.1.length <= 4000000
def zeroG : GuardD:=([0,0,0,0],([0,0,0],[0,0,0],0,[],[],()),([0,0,0],[0,0,0],0,[],[],()),([],[],()),[],[],())
theorem zeroG_small : AllSmall zeroG:=by unfold AllSmall zeroG; simp
theorem again_loop (K L : Nat) (c : LogD) (hc1 : c.1.length <= 4000000) (hc2 : c.2.1.length <= 4000000) (q0 q10 q11 : List Int) (q12 : Int) (q20 q21 : List Int) (q22 : Int) (l : List (List Int)) (hl : l.length <= 1500000) (hr : ∀ r ∈ l,r.length <= 200 /\ Byts r) : ∀ (R P : List (List Int)) (n : Nat) (g : GuardD),R.length < n->l = P ++ R->InvA P.length g ->
  ∃ (r : GuardD) (e : Int),guard_Again.l0 K (fun f k=>some (k,f,())) (fun m o t u v w y z I J M N O Q S U V W X=>guard_Again.j1 (fun f k=>some (k,f,())) m o t u v w y z I J M N O Q S U V W X) n l (l.length : Int) (P.length : Int) c q0 q10 q11 q12 q20 q21 q22 g.1 g.2.1.1 g.2.1.2.1 g.2.1.2.2.1 g.2.2.1 g.2.2.2.1.1 g.2.2.2.1.2.1 g.2.1.2.2.2.1 g.2.1.2.2.2.2.1 g.2.2.2.2.2.1 g.2.2.2.2.1 = some (r,e,()) /\
   basculeref_GuardAgain.l0 L (fun f k=>some (k,f,())) (fun m o t u v w y z Y=>basculeref_GuardAgain.j1 (fun f k=>some (k,f,())) m o t u v w y z Y) n l (l.length : Int) (P.length : Int) c q0 q10 q11 q12 q20 q21 q22 g = some (r,e,()) /\ AllSmall r
 | R,P,0,g,h,_,_=>by omega
 | [],P,n + 1,g,h,hc,i=>by
  simp only [guard_Again.l0,guard_Again.l0s,basculeref_GuardAgain.l0,basculeref_GuardAgain.l0s]
  have hpl : l.length = P.length:=by rw [hc]; simp
  rw [if_neg (by rw [decide_eq_true_eq]; omega),if_neg (by rw [decide_eq_true_eq]; omega)]
  simp only [guard_Again.j1,basculeref_GuardAgain.j1]
  have is:=i.s
  have i1:=i.p1
  have i2:=i.q1
  have i3:=i.p2
  have i4:=i.q2
  have s : SmallN (g.1,g.2.1,g.2.2.1,c,g.2.2.2.2.1,g.2.2.2.2.2.1,()):=⟨Nat.le_trans i1 (by omega),Nat.le_trans i2 (by omega),Nat.le_trans i3 (by omega),Nat.le_trans i4 (by omega),hc1,hc2,Nat.le_trans (show g.2.2.2.2.1.length <= 1500000 by omega) (by omega),Nat.le_trans (show g.2.2.2.2.2.1.length <= 1500000 by omega) (by omega),i.hb,i.db⟩
  have hf:=freshP_run _ s
  rw [show (g.1,(g.2.1.1,g.2.1.2.1,g.2.1.2.2.1,g.2.1.2.2.2.1,g.2.1.2.2.2.2.1,()),g.2.2.1,c,g.2.2.2.2.1,g.2.2.2.2.2.1,()) = (g.1,g.2.1,g.2.2.1,c,g.2.2.2.2.1,g.2.2.2.2.2.1,()) from rfl,hf,Option.bind_some]
  exact ⟨_,0,rfl,rfl,s.p1,s.q1,s.p2,s.q2,s.h,s.d⟩
 | r :: R,P,n + 1,g,h,hc,i=>by
  have hlen : l.length = P.length + (R.length + 1):=by rw [hc]; simp
  have hg : l.getD P.length [] = r:=by rw [hc]; exact getD_at _ _ _ _
  obtain ⟨r1,r2⟩:=hr r (by rw [hc]; simp)
  have B : decide ((P.length : Int) < (l.length : Int)) = true:=by rw [decide_eq_true_eq]; omega
  have E : 0 <= (P.length : Int) /\ (P.length : Int) < (l.length : Int):=by omega
  have ih:=fun g i=>again_loop K L c hc1 hc2 q0 q10 q11 q12 q20 q21 q22 l hl hr R (P ++ [r]) n g (by simpa using h) (by simp [hc]) i
  rw [List.length_append] at ih
  have stop : ∃ (r : GuardD) (e : Int),(some (zeroG,(12 : Int),()) : Option (GuardD × Int × Unit)) = some (r,e,()) /\ (some (zeroG,(12 : Int),()) : Option (GuardD × Int × Unit)) = some (r,e,()) /\ AllSmall r:=⟨zeroG,12,rfl,rfl,zeroG_small⟩
  simp only [guard_Again.l0,guard_Again.l0s,basculeref_GuardAgain.l0,basculeref_GuardAgain.l0s]
  rw [if_pos B,if_pos E,if_pos B,if_pos E,toNat_nat,hg]
  rw [gate1 r _ (fun hp=>by simp at hp; omega),gate1 r _ (fun hp=>by simp at hp; omega)]
  simp only [cond_true]
  have hi : InvA (P.length + 1) g:=⟨i.p1,i.q1,i.p2,i.q2,Nat.le_trans i.s (by omega),i.hb,i.db,i.nd⟩
  have dB : ∀ j,0 <= r.getD j 0 /\ r.getD j 0 <= 255:=fun j=>by
   by_cases hj : j < r.length
   ·have:=r2 (r.getD j 0) (by rw [getD_nat hj]; exact List.getElem_mem hj)
    omega
   ·rw [List.getD_eq_getElem?_getD,List.getElem?_eq_none (by omega)]; simp
  by_cases cA : r.length = 3 /\ r.getD 0 0 = 2
  ·have ha : (cond ((r.length : Int) == 3) (r.getD 0 0 == 2) false) = true:=by
    rw [cA.2,cA.1]; rfl
   have hb : ¬ (cond (decide ((r.length : Int) > 0)) (r.getD 0 0 == 1) false) = true:=by
    rw [cA.2,cA.1]; decide
   have hcut : cutL r 1 (r.length : Int) = [r.getD 1 0,r.getD 2 0]:=by
    rw [cA.1]
    have:=three cA.1
    generalize r.getD 0 0 = a at this
    generalize r.getD 1 0 = b at this ⊢
    generalize r.getD 2 0 = d at this ⊢
    rw [this]; rfl
   rw [if_pos ha,if_neg hb,if_pos ha,if_pos (by omega),if_pos (by omega),if_pos (by omega),len2 (dB 1) (dB 2),hcut,number2 _ _ (dB 1) (dB 2),Option.bind_some]
   obtain ⟨x,H,D,e,k1,k2,k3⟩:=pass_both (T:=P.length + 1) (by omega) hi (r.getD 1 0 * 256 + r.getD 2 0)
   rw [k1,Option.bind_some,k2,Option.bind_some]
   simp only [guard_Again.j0,basculeref_GuardAgain.j0]
   by_cases he : e = 0
   ·subst he
    simp only [bne_self_eq_false,BEq.rfl,Bool.not_true,Bool.false_eq_true,if_false]
    rw [i64_succ (by omega)]
    exact ih _ k3
   ·rw [if_pos (show (e != 0) = true by simpa using he),if_pos (show (!(e == 0)) = true by simpa using he)]
    exact stop
  ·have ha : ¬ (cond ((r.length : Int) == 3) (r.getD 0 0 == 2) false) = true:=by
    rw [cond_and,Bool.and_eq_true,beq_iff_eq,beq_iff_eq]
    intro hh; exact cA ⟨by omega,hh.2⟩
   rw [if_neg ha]
   by_cases cB : 0 < r.length /\ r.getD 0 0 = 1
   ·have hb : (cond (decide ((r.length : Int) > 0)) (r.getD 0 0 == 1) false) = true:=by
     rw [cond_and,Bool.and_eq_true,beq_iff_eq,decide_eq_true_eq]
     exact ⟨by omega,cB.2⟩
    have hcl:=cutL_len r 1 (r.length : Int)
    rw [if_pos hb,if_pos hb,if_pos (by omega),if_pos (fitB_small (by omega) (by decide)),if_pos (by omega),if_pos (ble_le (by omega))]
    have hby : Byts ([1,0,0,0,0,0] ++ cutL r 1 (r.length : Int)):=fun x hx=>by
     rcases List.mem_append.1 hx with hx | hx
     ·simp only [List.mem_cons,List.not_mem_nil,or_false] at hx
      rcases hx with rfl | rfl | rfl | rfl | rfl | rfl <;> decide
     ·unfold cutL at hx
      exact r2 x (List.mem_of_mem_drop (List.mem_of_mem_take hx))
    have hpl : ([1,0,0,0,0,0] ++ cutL r 1 (r.length : Int)).length <= 140737488351232:=by
     rw [List.length_append]; simp only [List.length_cons,List.length_nil]; omega
    have hok:=decP_ok _ hby
    rw [decode_run _ hby hpl,Option.bind_some,of_run _ hby hpl,Option.bind_some]
    generalize decP ([1,0,0,0,0,0] ++ cutL r 1 (r.length : Int)) = p at hok ⊢
    by_cases hp : p.2.1 = 0
    ·obtain ⟨ho,hbl⟩:=hok hp
     rw [if_pos (show (p.2.1 == 0) = true by simpa using hp)]
     generalize hb1 : p.1.2.2.1 = b at ho hbl ⊢
     have hm:=met_both (T:=P.length) (by omega) i b ho hbl
     have is:=i.s
     simp only [hp,bne_self_eq_false,cond_or,Bool.false_or]
     cases A : (decide (b.2.2.1 >= 3) || decide (b.2.2.2.2.1 >= 256)) with
     | true =>
      have hmay : mayB g b = false:=by
       unfold mayB
       rw [Bool.or_eq_true] at A
       rcases A with q | q <;> rw [q] <;> simp
      rw [hm.1 hmay]
      exact stop
     | false =>
      have G:=Bool.or_eq_false_iff.1 A
      rw [if_pos (by decide),id_run,Option.bind_some,if_pos (by decide)]
      rw [show (g.1,(g.2.1.1,g.2.1.2.1,g.2.1.2.2.1,g.2.1.2.2.2.1,g.2.1.2.2.2.2.1,()),g.2.2.1,(g.2.2.2.1.1,g.2.2.2.1.2.1,()),g.2.2.2.2.1,g.2.2.2.2.2.1,()) = g from rfl]
      rw [knows_run g _ (by omega) (by omega),Option.bind_some,Bool.false_or]
      cases hk : hasId (idB b) (g.2.2.2.2.2.1 ++ g.2.2.2.2.1) with
      | true =>
       have hmay : mayB g b = false:=by unfold mayB; rw [hk]; simp
       rw [hm.1 hmay]
       exact stop
      | false =>
       have hmay : mayB g b = true:=by unfold mayB; rw [hk,G.1,G.2,ho]; rfl
       obtain ⟨x,H,D,e,k1,k2⟩:=hm.2 hmay
       rw [if_neg (by decide),k1,Option.bind_some]
       simp only [guard_Again.j0]
       rcases k2 with ⟨he,k2⟩ | ⟨he,k2,k3⟩
       ·rw [if_pos (show (e != 0) = true by simpa using he),k2]
        exact stop
       ·rw [if_neg (show ¬ (e != 0) = true by simpa using he),k2,Option.bind_some]
        simp only [basculeref_GuardAgain.j0,Bool.not_true,Bool.false_eq_true,if_false]
        rw [i64_succ (by omega)]
        exact ih _ k3
    ·rw [if_neg (show ¬ (p.2.1 == 0) = true by simpa using hp)]
     have hne : (p.2.1 != 0) = true:=by simpa using hp
     simp only [hne,cond_true]
     exact stop
   ·have hb : ¬ (cond (decide ((r.length : Int) > 0)) (r.getD 0 0 == 1) false) = true:=by
     rw [cond_and,Bool.and_eq_true,beq_iff_eq,decide_eq_true_eq]
     intro hh; exact cB ⟨by omega,hh.2⟩
    rw [if_neg hb,if_neg hb,if_neg ha]
    exact stop
theorem begin_s0 (s : List Int) (g : GateD) : guard_Begin_s0.run s g = some (if gateE g = 0 then (s,g.1,g.2.1,g.2.2.1,g.1,g.2.1,g.2.2.1,0,s,g.1,g.2.1,g.2.2.1,g.1,g.2.1,g.2.2.1,[],[],g.2.2.2.1,g.2.2.2.2.1,g.2.2.2.1,g.2.2.2.2.1,[],[],())
  else ([0,0,0,0],[0,0,0],[0,0,0],0,[0,0,0],[0,0,0],0,gateE g,[0,0,0,0],[0,0,0],[0,0,0],0,[0,0,0],[0,0,0],0,[],[],[],[],[],[],[],[],())):=by
 unfold guard_Begin_s0.run guard_Begin_s0.top
 rw [gate_check,Option.bind_some]
 by_cases he : gateE g = 0
 ·obtain ⟨k1,k2,_⟩:=gateE_ok he
  have hq : ∀ l : List QD,l.length <= 1000->guard_fresh_1_s0.run l = some (l,()):=fun l hl=>by
   unfold guard_fresh_1_s0.run guard_fresh_1_s0.top
   rw [if_pos (fitB_small (by omega) (by omega))]
  have hb : guard_bodies_s1.run [] = some ([],()):=by
   unfold guard_bodies_s1.run guard_bodies_s1.top
   have : ∀ (k n : Nat),guard_bodies_s1.l0 (α:=List BodyD × Unit) k (fun a=>guard_bodies_s1.j0 (fun a=>some (a,())) a) (n + 1) [] 0 0 [] = some ([],()):=fun k n=>by
    simp only [guard_bodies_s1.l0,guard_bodies_s1.l0s]
    rfl
   exact this fuel 18446744073709551615
  rw [if_neg (show ¬ (gateE g != 0) = true by simpa using he),if_pos he]
  unfold guard_fresh_s1.run guard_fresh_s1.top
  simp only [hq g.2.2.2.1 (by omega),hq g.2.2.2.2.1 (by omega),hb,Option.bind_some,List.length_nil]
  rw [if_pos (fitB_small (by omega) (by omega)),if_pos (fitB_small (by omega) (by omega)),Option.bind_some]
 ·rw [if_pos (show (gateE g != 0) = true by simpa using he),if_neg he]
theorem again_both (s : List Int) (f : GateD) (l : LogD) (h1 : l.1.length + l.2.1.length <= 4000000) (b1 : Byts l.1) (b2 : Byts l.2.1) :
  ∃ (r : GuardD) (e : Int),guard_Again.run s f l = some (r,e,()) /\ basculeref_GuardAgain.run s f l = some (r,e,()) /\ AllSmall r:=by
 unfold guard_Again.run guard_Again.top basculeref_GuardAgain.run basculeref_GuardAgain.top basculeref_GuardBegun.run basculeref_GuardBegun.top
 rw [begin_s0,gate_fault,Option.bind_some,Option.bind_some]
 by_cases he : gateE f = 0
 ·obtain ⟨k1,k2,_⟩:=gateE_ok he
  have a : ∀ b ∈ l.1,0 <= b /\ b <= 255:=fun b hb=>by have:=b1 b hb; omega
  have c : ∀ b ∈ l.2.1,0 <= b /\ b <= 255:=fun b hb=>by have:=b2 b hb; omega
  obtain ⟨m,e,m1,m2,m3,m4⟩:=mend_both l h1 a c
  simp only [he,if_true,bne_self_eq_false,Bool.false_eq_true,if_false,Option.bind_some]
  rw [m1,Option.bind_some,m2,Option.bind_some]
  by_cases he2 : e = 0
  ·subst he2
   simp only [bne_self_eq_false,Bool.false_eq_true,if_false]
   have d1 : ∀ b ∈ m,0 <= b /\ b <= 255:=fun b hb=>a b (m4 b hb)
   have d0 : ((m,[],()) : LogD).1.length + ((m,[],()) : LogD).2.1.length <= 4000000:=by show m.length + 0 <= 4000000; omega
   have o:=open_run (m,[],()) d0 d1 (fun b hb=>absurd hb (by simp))
   rw [records_run (m,[],()) d0 d1 (fun b hb=>absurd hb (by simp)),o,Option.bind_some,Option.bind_some]
   have hle:=(recs_le (m ++ []).length (m ++ [])).2
   have hlm : (m ++ ([] : List Int)).length = m.length:=by simp
   have hfine:=recs_fine (m ++ []).length (m ++ []) (fun x hx=>d1 x (by simpa using hx))
   simp only [] at hle hfine ⊢
   generalize (recs (m ++ []).length (m ++ [])).1 = all at hle hfine ⊢
   exact again_loop fuel fuel (m,[],()) (show m.length <= 4000000 by omega) (by simp) [0,0,0,0] [0,0,0] [0,0,0] 0 [0,0,0] [0,0,0] 0 all (by omega) hfine all [] fuel (s,f,f,([],[],()),[],[],()) (by rw [fuel_big]; omega) rfl
    ⟨Nat.le_trans k1 (by omega),Nat.le_trans k2 (by omega),Nat.le_trans k1 (by omega),Nat.le_trans k2 (by omega),by simp,by simp,by simp,by simp⟩
  ·rw [if_pos (show (e != 0) = true by simpa using he2),if_pos (show (e != 0) = true by simpa using he2)]
   exact ⟨zeroG,e,rfl,rfl,zeroG_small⟩
 ·simp only [if_neg he,show (gateE f != 0) = true by simpa using he,if_true,Option.bind_some]
  exact ⟨zeroG,gateE f,rfl,rfl,zeroG_small⟩
end Go.Bx
namespace Go.Bx
open Go
set_option linter.unusedSimpArgs false
set_option linter.unusedVariables false
theorem bodiesN_loop {α : Type} (Xt : List BodyD->Option α) (K : Nat) (l : List BodyD) (hl : l.length <= 4000000) (hb : ∀ b ∈ l,b.2.2.2.2.2.2.1.length <= 1048576) : ∀ (R P : List BodyD) (n : Nat),R.length < n->l = P ++ R ->
  guard_bodies_s0.l0 K Xt n l (l.length : Int) (P.length : Int) P = Xt l
 | R,P,0,h,_=>by omega
 | [],P,n + 1,h,hc=>by
  simp only [guard_bodies_s0.l0,guard_bodies_s0.l0s]
  have e : l = P:=by rw [hc]; simp
  rw [<- e,if_neg (by rw [decide_eq_true_eq]; omega)]
 | b :: R,P,n + 1,h,hc=>by
  have hlen : l.length = P.length + (R.length + 1):=by rw [hc]; simp
  have hg : l.getD P.length (0,0,0,List.replicate 32 0,0,0,[],()) = b:=by rw [hc]; exact getD_at _ _ _ _
  simp only [guard_bodies_s0.l0,guard_bodies_s0.l0s]
  rw [if_pos (by rw [decide_eq_true_eq]; omega),if_pos (by omega),toNat_nat,hg,bodyN_run b (hb b (by rw [hc]; simp)),Option.bind_some,if_pos (fitB_small (by omega) (by decide)),i64_succ (by omega)]
  have ih:=bodiesN_loop Xt K l hl hb R (P ++ [b]) n (by simpa using h) (by simp [hc])
  rw [List.length_append] at ih
  exact ih
theorem bodiesN_run (l : List BodyD) (hl : l.length <= 4000000) (hb : ∀ b ∈ l,b.2.2.2.2.2.2.1.length <= 1048576) : guard_bodies_s0.run l = some (l,()):=by
 unfold guard_bodies_s0.run guard_bodies_s0.top
 exact bodiesN_loop (fun a=>guard_bodies_s0.j0 (fun a=>some (a,())) a) fuel l hl hb l [] fuel (by rw [fuel_big]; omega) rfl
theorem freshN_run (g : GuardD) (s : SmallN g) : guard_fresh_s0.run g = some (g.1,g.2.1.1,g.2.1.2.1,g.2.1.2.2.1,g.2.2.1.1,g.2.2.1.2.1,g.2.2.1.2.2.1,g.1,g.2.1.1,g.2.1.2.1,g.2.1.2.2.1,g.2.2.1.1,g.2.2.1.2.1,g.2.2.1.2.2.1,g.2.2.2.1.1,g.2.2.2.1.2.1,
  g.2.1.2.2.2.1,g.2.1.2.2.2.2.1,g.2.2.1.2.2.2.1,g.2.2.1.2.2.2.2.1,g.2.2.2.2.1,g.2.2.2.2.2.1,()):=by
 have hq : ∀ l : List QD,l.length <= 4000000->guard_fresh_1_s0.run l = some (l,()):=fun l hl=>by
  unfold guard_fresh_1_s0.run guard_fresh_1_s0.top
  rw [if_pos (fitB_small (by omega) (by decide))]
 unfold guard_fresh_s0.run guard_fresh_s0.top
 rw [hq _ s.p1,Option.bind_some,hq _ s.q1,Option.bind_some,hq _ s.p2,Option.bind_some,hq _ s.q2,Option.bind_some,if_pos (fitB_small (by have:=s.l1; omega) (by decide)),if_pos (fitB_small (by have:=s.l2; omega) (by decide)),bodiesN_run _ s.h s.hb,Option.bind_some,bodiesN_run _ s.d s.db,Option.bind_some]
end Go.Bx
namespace Go.Bx
open Go
set_option linter.unusedSimpArgs false
set_option linter.unusedVariables false
set_option maxRecDepth 100000
theorem pen2_loop {α : Type} (Xt : List Int->Option α) (K : Nat) (x : Int) : ∀ (m n : Nat) (c : List Int),m < n->m <= 8->c.length + m <= 1000000 ->
  paper_pen__number_s2.l0 K Xt n x ((m : Int) - 1) c = Xt (c ++ be x m)
 | m,0,c,h,_,_=>by omega
 | 0,n + 1,c,h,hm,hb=>by
  simp only [paper_pen__number_s2.l0,paper_pen__number_s2.l0s]
  rw [if_neg (by rw [decide_eq_true_eq]; omega)]
  simp [be]
 | m + 1,n + 1,c,h,hm,hb=>by
  simp only [paper_pen__number_s2.l0,paper_pen__number_s2.l0s]
  have e1 : ((m + 1 : Nat) : Int) - 1 = (m : Int):=by omega
  rw [e1,if_pos (by rw [decide_eq_true_eq]; omega),wrap_i64 (x:=8 * (m : Int)) (by omega) (by omega),if_pos (by omega),if_pos (fitB_small (by omega) (by omega)),wrap_i64 (x:=(m : Int) - 1) (by omega) (by omega)]
  have e2 : IntKind.u8.wrap (shrI .i64 x (8 * (m : Int))) = byt x (8 * m):=by
   have:=shr_byt .i64 x (8 * m) (by simp [IntKind.bits]; omega)
   rw [<- this]; congr 2
  rw [e2]
  refine (pen2_loop Xt K x m n _ (by omega) (by omega) (by simp; omega)).trans ?_
  simp [be]
theorem pen2_run (x : Int) (m : Nat) (c : List Int) (hm : m <= 8) (hb : c.length <= 999900) : paper_pen__number_s2.run x (m : Int) c = some (c ++ be x m,()):=by
 unfold paper_pen__number_s2.run paper_pen__number_s2.top
 rw [wrap_i64 (by omega) (by omega)]
 exact pen2_loop (fun a=>some (a,())) fuel x m fuel c (by rw [fuel_big]; omega) hm (by omega)
theorem pen1_loop {α : Type} (Xt : List Int->Option α) (K : Nat) (x : Int) : ∀ (m n : Nat) (c : List Int),m < n->m <= 8->c.length + m <= 1000000 ->
  paper_pen__number_s1.l0 K Xt n x ((m : Int) - 1) c = Xt (c ++ be x m)
 | m,0,c,h,_,_=>by omega
 | 0,n + 1,c,h,hm,hb=>by
  simp only [paper_pen__number_s1.l0,paper_pen__number_s1.l0s]
  rw [if_neg (by rw [decide_eq_true_eq]; omega)]
  simp [be]
 | m + 1,n + 1,c,h,hm,hb=>by
  simp only [paper_pen__number_s1.l0,paper_pen__number_s1.l0s]
  have e1 : ((m + 1 : Nat) : Int) - 1 = (m : Int):=by omega
  rw [e1,if_pos (by rw [decide_eq_true_eq]; omega),wrap_i64 (x:=8 * (m : Int)) (by omega) (by omega),if_pos (by omega),if_pos (fitB_small (by omega) (by omega)),wrap_i64 (x:=(m : Int) - 1) (by omega) (by omega)]
  have e2 : IntKind.u8.wrap (shrI .i64 x (8 * (m : Int))) = byt x (8 * m):=by
   have:=shr_byt .i64 x (8 * m) (by simp [IntKind.bits]; omega)
   rw [<- this]; congr 2
  rw [e2]
  refine (pen1_loop Xt K x m n _ (by omega) (by omega) (by simp; omega)).trans ?_
  simp [be]
theorem pen1_run (x : Int) (m : Nat) (c : List Int) (hm : m <= 8) (hb : c.length <= 999900) : paper_pen__number_s1.run x (m : Int) c = some (c ++ be x m,()):=by
 unfold paper_pen__number_s1.run paper_pen__number_s1.top
 rw [wrap_i64 (by omega) (by omega)]
 exact pen1_loop (fun a=>some (a,())) fuel x m fuel c (by rw [fuel_big]; omega) hm (by omega)
def bodyT (b : BodyD) : List Int:=be b.1 8 ++ (be b.2.1 4 ++ (be b.2.2.1 2 ++ (b.2.2.2.1 ++ (be b.2.2.2.2.1 8 ++ (be b.2.2.2.2.2.1 1 ++ b.2.2.2.2.2.2.1)))))
theorem pens (x : Int) (c : List Int) (h : c.length <= 999900) : (paper_pen__number_s2.run x 1 c = some (c ++ be x 1,()) /\ paper_pen__number_s2.run x 2 c = some (c ++ be x 2,())) /\ (paper_pen__number_s2.run x 4 c = some (c ++ be x 4,()) /\ paper_pen__number_s2.run x 8 c = some (c ++ be x 8,())) :=
 ⟨⟨pen2_run x 1 c (by omega) h,pen2_run x 2 c (by omega) h⟩,pen2_run x 4 c (by omega) h,pen2_run x 8 c (by omega) h⟩
theorem pen_body (b : BodyD) (c : List Int) (hw : b.2.2.2.1.length = 32) (hl : b.2.2.2.2.2.2.1.length <= 300) (h : c.length <= 900000) : paper_pen__body_s0.run b c = some (c ++ bodyT b,()):=by
 unfold paper_pen__body_s0.run paper_pen__body_s0.top
 rw [show paper_pen__number_s1.run b.1 8 c = some (c ++ be b.1 8,()) from pen1_run b.1 8 c (by omega) (by omega),Option.bind_some]
 simp only []
 rw [(pens b.2.1 _ (by simp [be_len]; omega)).2.1,Option.bind_some]
 simp only []
 rw [(pens b.2.2.1 _ (by simp [be_len]; omega)).1.2,Option.bind_some]
 unfold paper_pen__bytes_s0.run paper_pen__bytes_s0.top
 simp only []
 rw [cutL_all b.2.2.2.1 32 (by rw [hw]; rfl),if_pos (fitB_small (by simp [be_len]; omega) (by omega)),Option.bind_some]
 simp only []
 rw [(pens b.2.2.2.2.1 _ (by simp [be_len]; omega)).2.2,Option.bind_some]
 simp only []
 rw [(pens b.2.2.2.2.2.1 _ (by simp [be_len]; omega)).1.1,Option.bind_some]
 unfold paper_pen__bytes_s1.run paper_pen__bytes_s1.top
 simp only []
 rw [if_pos (fitB_small (by simp [be_len]; omega) (by omega)),Option.bind_some]
 simp only [bodyT,List.append_assoc]
theorem bodyText_run (b : BodyD) (hw : b.2.2.2.1.length = 32) (he : bodyE b = 0) : basculeref_bodyText.run b = some (bodyT b):=by
 obtain ⟨h1,h2,h3,h4,h5,h6⟩:=bodyE_ok he
 unfold basculeref_bodyText.run basculeref_bodyText.top
 have hb : ∀ x : Int,(basculeref_big.run x 1 = some (be x 1) /\ basculeref_big.run x 2 = some (be x 2)) /\ (basculeref_big.run x 4 = some (be x 4) /\ basculeref_big.run x 8 = some (be x 8)):=fun x =>
  ⟨⟨big_run x 1 (by omega),big_run x 2 (by omega)⟩,big_run x 4 (by omega),big_run x 8 (by omega)⟩
 have hs : ∀ n : Nat,n <= 100000->Nat.ble n 9223372036854775807 = true:=fun n hn=>ble_le (by omega)
 simp only [wu64_id (x:=b.1) (by omega) (by omega),wu64_id (x:=b.2.1) (by omega) (by omega),wu64_id (x:=b.2.2.1) (by omega) (by omega),wu64_id (x:=b.2.2.2.2.1) (by omega) (by omega),wu64_id (x:=b.2.2.2.2.2.1) (by omega) (by omega),
  (hb _).1.1,(hb _).1.2,(hb _).2.1,(hb _).2.2,Option.bind_some,cutL_all b.2.2.2.1 32 (by rw [hw]; rfl)]
 rw [if_pos (hs _ (by simp [be_len])),if_pos (hs _ (by simp [be_len])),if_pos (hs _ (by simp [be_len]; omega)),if_pos (hs _ (by simp [be_len]; omega)),if_pos (hs _ (by simp [be_len]; omega)),if_pos (hs _ (by simp [be_len]; omega))]
 simp only [bodyT,List.append_assoc]
end Go.Bx
namespace Go.Bx
open Go
set_option linter.unusedSimpArgs false
set_option linter.unusedVariables false
set_option maxRecDepth 100000
theorem bytes_prog {b : BodyD} (hw : b.2.2.2.1.length = 32) : paper_Bytes.run b = some (if bodyE b = 0 then (bodyT b,0,()) else ([],bodyE b,())):=by
 unfold paper_Bytes.run paper_Bytes.top
 rw [body_check]
 simp only [Option.bind_some]
 by_cases he : bodyE b = 0
 ·obtain ⟨_,_,_,_,_,h6⟩:=bodyE_ok he
  rw [if_neg (show ¬ (bodyE b != 0) = true by simpa using he),if_pos he,pen_body b [] hw h6 (by simp)]
  rfl
 ·rw [if_pos (show (bodyE b != 0) = true by simpa using he),if_neg he]
end Go.Bx
namespace Go.Bx
open Go
set_option linter.unusedSimpArgs false
set_option linter.unusedVariables false
theorem append_run (a : List Int × List Int × Unit) (b : List Int) (h1 : b.length < 1000000000000000) : log_Append.run a b = some (
  if a.1.length > 9000 \/ a.2.1.length > 9000 then (([],[],()),12,())
  else if b.length > 200 then (([],[],()),1,())
  else if a.1.length + a.2.1.length + b.length + 3 > 9000 then (([],[],()),9,())
  else ((a.1,a.2.1 ++ recText b,()),0,())):=by
 unfold log_Append.run log_Append.top
 by_cases c : a.1.length > 9000 \/ a.2.1.length > 9000
 ·rw [if_pos c,if_pos (by rw [cond_or]; simp; omega)]
 ·rw [if_neg c,if_neg (by rw [cond_or]; simp; omega)]
  by_cases d : b.length > 200
  ·rw [if_pos d,if_pos (by simp; omega)]
  ·rw [if_neg d,if_neg (by simp; omega)]
   rw [wrap_i64 (x:=(a.1.length : Int) + (a.2.1.length : Int)) (by omega) (by omega),wrap_i64 (x:=(a.1.length : Int) + (a.2.1.length : Int) + (b.length : Int)) (by omega) (by omega),wrap_i64 (by omega) (by omega)]
   by_cases e : a.1.length + a.2.1.length + b.length + 3 > 9000
   ·rw [if_pos e,if_pos (by simp; omega)]
   ·rw [if_neg e,if_neg (by simp; omega)]
    rw [tail_run _ (by omega)]
    simp only [Option.bind_some]
    rw [if_pos (fitB_small (by omega) (by decide)),if_pos (fitB_small (by simp; omega) (by decide)),if_pos (fitB_small (by omega) (by decide)),if_pos (fitB_small (by omega) (by decide)),if_pos (fitB_small (by simp; omega) (by decide))]
    rfl
theorem recText_len (l : List Int) : (recText l).length = l.length + 3:=by simp [recText]
theorem appended_run (c : List Int × List Int × Unit) (a : List Int) (h1 : a.length < 1000000000000000) (hb : ∀ b ∈ a,0 <= b /\ b <= 255) : basculeref_LogAppended.run c a = log_Append.run c a:=by
 rw [append_run c a h1]
 unfold basculeref_LogAppended.run basculeref_LogAppended.top
 by_cases d : c.1.length > 9000 \/ c.2.1.length > 9000
 ·rw [if_pos d,if_pos (by rw [cond_or]; simp; omega)]
 ·rw [if_neg d,if_neg (by rw [cond_or]; simp; omega)]
  by_cases e : a.length > 200
  ·rw [if_pos e,if_pos (by simp; omega)]
  ·rw [if_neg e,if_neg (by simp; omega),text_run a (by omega) hb]
   simp only [Option.bind_some]
   have hl:=recText_len a
   rw [if_pos (ble_of (by omega)),List.length_append,wrap_i64 (by omega) (by omega)]
   by_cases f : c.1.length + c.2.1.length + a.length + 3 > 9000
   ·rw [if_pos f,if_pos (by simp; omega)]
   ·rw [if_neg f,if_neg (by simp; omega)]
end Go.Bx
namespace Go.Bx
open Go
set_option linter.unusedSimpArgs false
set_option linter.unusedVariables false
set_option maxRecDepth 100000
theorem syncN {l : LogD} (h1 : l.1.length <= 1048576) (h2 : l.2.1.length <= 1048576) : log_Sync.run l = some (l.1 ++ l.2.1,[],()) /\ basculeref_LogSynced.run l = some (l.1 ++ l.2.1,[],()):=by
 constructor
 ·unfold log_Sync.run log_Sync.top
  rw [if_pos (fitB_small (by omega) (by decide)),if_pos (fitB_small (by omega) (by decide))]
 ·unfold basculeref_LogSynced.run basculeref_LogSynced.top
  rw [if_pos (ble_of (by omega))]
theorem rec_any (x : GuardD) (r : List Int) (hr : r.length <= 100000) (hb : ∀ b ∈ r,0 <= b /\ b <= 255) :
  ∃ (y : GuardD) (e : Int),guard_kept.run x r = some (y,e,()) /\ basculeref_logged.run x r = some (y,e == 0,()) /\ (e = 0->∃ l : LogD,y = (x.1,x.2.1,x.2.2.1,l,x.2.2.2.2) /\ l.1.length <= 1048576 /\ l.2.1.length <= 1048576):=by
 unfold guard_kept.run guard_kept.top basculeref_logged.run basculeref_logged.top
 rw [appended_run _ _ (by omega) hb,append_run _ _ (by omega)]
 by_cases a : x.2.2.2.1.1.length > 9000 \/ x.2.2.2.1.2.1.length > 9000
 ·simp only [if_pos a]
  exact ⟨x,12,rfl,rfl,fun h=>absurd h (by decide)⟩
 ·rw [if_neg a]
  by_cases c : r.length > 200
  ·rw [if_pos c]
   exact ⟨x,1,rfl,rfl,fun h=>absurd h (by decide)⟩
  ·rw [if_neg c]
   by_cases d : x.2.2.2.1.1.length + x.2.2.2.1.2.1.length + r.length + 3 > 9000
   ·rw [if_pos d]
    exact ⟨x,9,rfl,rfl,fun h=>absurd h (by decide)⟩
   ·rw [if_neg d]
    have hl:=recText_len r
    obtain ⟨s1,s2⟩:=syncN (l:=(x.2.2.2.1.1,x.2.2.2.1.2.1 ++ recText r,())) (by simp only []; omega) (by simp only [List.length_append]; omega)
    simp only [Option.bind_some,bne_self_eq_false,Bool.false_eq_true,if_false]
    rw [s1,s2]
    exact ⟨_,0,rfl,rfl,fun _=>⟨(x.2.2.2.1.1 ++ (x.2.2.2.1.2.1 ++ recText r),[],()),rfl,by simp only [List.length_append]; omega,by simp⟩⟩
structure Inv (T : Nat) (g : GuardD) : Prop where
 p1 : g.2.1.2.2.2.1.length <= 1048576
 q1 : g.2.1.2.2.2.2.1.length <= 1048576
 p2 : g.2.2.1.2.2.2.1.length <= 1048576
 q2 : g.2.2.1.2.2.2.2.1.length <= 1048576
 l1 : g.2.2.2.1.1.length <= 1048576
 l2 : g.2.2.2.1.2.1.length <= 1048576
 s : g.2.2.2.2.1.length + g.2.2.2.2.2.1.length <= T
 hb : ∀ b ∈ g.2.2.2.2.1,b.2.2.2.2.2.2.1.length <= 1048576
 db : ∀ b ∈ g.2.2.2.2.2.1,b.2.2.2.2.2.2.1.length <= 1048576
theorem Inv.small {T : Nat} {g : GuardD} (i : Inv T g) (hT : T <= 4000000) : SmallN g :=
 ⟨by have:=i.p1; omega,by have:=i.q1; omega,by have:=i.p2; omega,by have:=i.q2; omega,by have:=i.l1; omega,by have:=i.l2; omega,by have:=i.s; omega,by have:=i.s; omega,i.hb,i.db⟩
theorem met_run (g : GuardD) (b : BodyD) {v : Int} (hw : guard_Worth.run b = some v) (hl : b.2.2.2.2.2.2.1.length <= 1048576) (hh : g.2.2.2.2.1.length <= 4000000) (hd : g.2.2.2.2.2.1.length <= 4000000) :
  ∃ (m : GuardD),guard_met_s1.run g.1 g.2.1.1 g.2.1.2.1 g.2.1.2.2.1 g.2.2.1.1 g.2.2.1.2.1 g.2.2.1.2.2.1 b g.2.1.2.2.2.1 g.2.1.2.2.2.2.1 g.2.2.1.2.2.2.1 g.2.2.1.2.2.2.2.1 g.2.2.2.1.1 g.2.2.2.1.2.1 g.2.2.2.2.1 g.2.2.2.2.2.1 =
   some (g.1,g.2.1.1,g.2.1.2.1,g.2.1.2.2.1,m.2.2.1,(offerR g.2.2.1 (idB b) v b.2.2.1).2.2.1,g.2.1.2.2.2.1,g.2.1.2.2.2.2.1,g.2.2.1.2.2.2.1,g.2.2.1.2.2.2.2.1,g.2.2.2.1.1,g.2.2.2.1.2.1,m.2.2.2.2.1,m.2.2.2.2.2.1,g.1,g.2.1.1,g.2.1.2.1,g.2.1.2.2.1,m.2.2.1,()) /\
   ((offerR g.2.2.1 (idB b) v b.2.2.1).2.2.1 = 0->m = gateG g b (offerR g.2.2.1 (idB b) v b.2.2.1)):=by
 unfold guard_met_s1.run guard_met_s1.top
 rw [id_run,Option.bind_some,hw,Option.bind_some,show (g.2.2.1.1,g.2.2.1.2.1,g.2.2.1.2.2.1,g.2.2.1.2.2.2.1,g.2.2.1.2.2.2.2.1,()) = g.2.2.1 from rfl,offer_run,Option.bind_some]
 unfold gateG
 generalize offerR g.2.2.1 (idB b) v b.2.2.1 = r
 by_cases he : r.2.2.1 = 0
 ·rw [if_neg (show ¬ (r.2.2.1 != 0) = true by simpa using he),bodyN_run b hl]
  simp only [Option.bind_some]
  unfold guard_met_s1.j0
  cases hr : r.2.1 with
  | true =>
   rw [if_pos rfl,if_pos (fitB_small (by omega) (by decide))]
   refine ⟨(g.1,g.2.1,r.1,g.2.2.2.1,g.2.2.2.2.1,g.2.2.2.2.2.1 ++ [b],()),?_,fun _=>rfl⟩
   rw [he]
  | false =>
   rw [if_neg (by decide),if_pos (fitB_small (by omega) (by decide))]
   refine ⟨(g.1,g.2.1,r.1,g.2.2.2.1,g.2.2.2.2.1 ++ [b],g.2.2.2.2.2.1,()),?_,fun _=>rfl⟩
   rw [he]
 ·rw [if_pos (show (r.2.2.1 != 0) = true by simpa using he)]
  exact ⟨g,rfl,fun h=>absurd h he⟩
theorem bodyT_byt {b : BodyD} (hw : b.2.2.2.1.length = 32) (h1 : Byts b.2.2.2.1) (h2 : Byts b.2.2.2.2.2.2.1) (he : bodyE b = 0) : Byts (bodyT b) /\ (bodyT b).length <= 1000:=by
 obtain ⟨_,_,_,_,_,h6⟩:=bodyE_ok he
 refine ⟨fun c hc=>?_,?_⟩
 ·unfold bodyT at hc
  simp only [List.mem_append] at hc
  rcases hc with hc | hc | hc | hc | hc | hc | hc
  ·exact be_rng _ _ c hc
  ·exact be_rng _ _ c hc
  ·exact be_rng _ _ c hc
  ·exact h1 c hc
  ·exact be_rng _ _ c hc
  ·exact be_rng _ _ c hc
  ·exact h2 c hc
 ·unfold bodyT; simp [be_len,hw]; omega
theorem meet_both {T : Nat} (hT : T <= 3999999) {g : GuardD} (i : Inv T g) (b : BodyD) (hw : b.2.2.2.1.length = 32) (h1 : Byts b.2.2.2.1) (h2 : Byts b.2.2.2.2.2.2.1) (hl : b.2.2.2.2.2.2.1.length <= 1048576) :
  ∃ (y : GuardD) (ok : Bool),guard_meet.run g b = some (y,ok,()) /\ (ok = true->Inv (T + 1) y) /\
   ((basculeref_meets.run g b = some (g,false,()) /\ ok = false) \/ (∃ (x z : GuardD),basculeref_meets.run g b = some (x,true,()) /\ basculeref_bodyText.run b = some (bodyT b) /\ (bodyT b).length <= 1000 /\ basculeref_logged.run x ([1] ++ bodyT b) = some (z,ok,()) /\ (ok = true->z = y))):=by
 have s:=i.small (show T <= 4000000 by omega)
 have is:=i.s
 obtain ⟨v,w1,w2⟩:=worth_both b h2 (by omega)
 have hm:=meets_run g b s.h s.d (by omega) w2
 unfold guard_meet.run guard_meet.top guard_meeting_s0.run guard_meeting_s0.top
 rw [bytes_prog hw,Option.bind_some]
 by_cases he : bodyE b = 0
 ·obtain ⟨t1,t2⟩:=bodyT_byt hw h1 h2 he
  rw [if_pos he]
  simp only []
  rw [if_pos (fitB_small (by omega) (by decide)),Option.bind_some]
  simp only [bne_self_eq_false,cond_or,Bool.false_or]
  by_cases a : (decide (b.2.2.1 >= 3) || decide (b.2.2.2.2.1 >= 256)) = true
  ·have hmay : mayB g b = false:=by
    unfold mayB
    rw [Bool.or_eq_true] at a
    rcases a with c | c <;> rw [c] <;> simp
   rw [hmay] at hm
   rw [a]
   exact ⟨g,false,rfl,fun h=>absurd h (by decide),.inl ⟨by rw [hm]; simp,rfl⟩⟩
  ·have c1' : (decide (b.2.2.1 >= 3) || decide (b.2.2.2.2.1 >= 256)) = false:=by simpa using a
   rw [c1',if_pos (by decide),id_run,Option.bind_some,if_pos (by decide),knows_run g _ s.h s.d,Option.bind_some,Bool.false_or]
   have f:=(Bool.or_eq_false_iff.1 c1')
   cases hk : hasId (idB b) (g.2.2.2.2.2.1 ++ g.2.2.2.2.1) with
   | true =>
    have hmay : mayB g b = false:=by unfold mayB; rw [hk]; simp
    rw [hmay] at hm
    exact ⟨g,false,rfl,fun h=>absurd h (by decide),.inl ⟨by rw [hm]; simp,rfl⟩⟩
   | false =>
    have hmay : mayB g b = true:=by unfold mayB; rw [hk,f.1,f.2,he]; rfl
    rw [if_neg (by decide),freshN_run g s,Option.bind_some]
    obtain ⟨m,k1,k2⟩:=met_run g b w1 hl s.h s.d
    simp only []
    rw [k1,Option.bind_some]
    simp only []
    have hlen:=offerR_len g.2.2.1 (idB b) v b.2.2.1
    by_cases ho : (offerR g.2.2.1 (idB b) v b.2.2.1).2.2.1 = 0
    ·have hmE:=k2 ho
     rw [if_neg (show ¬ ((offerR g.2.2.1 (idB b) v b.2.2.1).2.2.1 != 0) = true by simpa using ho)]
     rw [if_pos ⟨hmay,ho⟩] at hm
     obtain ⟨y,e,r1,r2,r3⟩:=rec_any (gateG g b (offerR g.2.2.1 (idB b) v b.2.2.1)) ([1] ++ bodyT b) (by simp; omega) (fun c hc=>by
      rcases List.mem_append.1 hc with hc | hc
      ·simp only [List.mem_cons,List.not_mem_nil,or_false] at hc; subst hc; decide
      ·have:=t1 c hc; omega)
     have r1' : guard_kept.run (g.1,(g.2.1.1,g.2.1.2.1,g.2.1.2.2.1,g.2.1.2.2.2.1,g.2.1.2.2.2.2.1,()),m.2.2.1,(g.2.2.2.1.1,g.2.2.2.1.2.1,()),m.2.2.2.2.1,m.2.2.2.2.2.1,()) ([1] ++ bodyT b) = some (y,e,()):=by
      rw [hmE]; exact r1
     rw [r1',Option.bind_some]
     simp only []
     by_cases h0 : e = 0
     ·obtain ⟨l,rfl,l1,l2⟩:=r3 h0
      rw [if_neg (show ¬ (e != 0) = true by simpa using h0)]
      refine ⟨_,true,rfl,fun _=>?_,.inr ⟨_,_,hm,bodyText_run b hw he,t2,by rw [r2,h0]; rfl,fun _=>rfl⟩⟩
      refine ⟨i.p1,i.q1,?_,?_,l1,l2,?_,?_,?_⟩
      ·show (offerR g.2.2.1 (idB b) v b.2.2.1).1.2.2.2.1.length <= 1048576; omega
      ·show (offerR g.2.2.1 (idB b) v b.2.2.1).1.2.2.2.2.1.length <= 1048576; omega
      ·unfold gateG
       cases (offerR g.2.2.1 (idB b) v b.2.2.1).2.1 <;> simp <;> omega
      ·unfold gateG
       cases (offerR g.2.2.1 (idB b) v b.2.2.1).2.1 with
       | true=>exact i.hb
       | false =>
        intro c hc
        rcases List.mem_append.1 hc with hc | hc
        ·exact i.hb c hc
        ·simp only [List.mem_cons,List.not_mem_nil,or_false] at hc; subst hc; exact hl
      ·unfold gateG
       cases (offerR g.2.2.1 (idB b) v b.2.2.1).2.1 with
       | true =>
        intro c hc
        rcases List.mem_append.1 hc with hc | hc
        ·exact i.db c hc
        ·simp only [List.mem_cons,List.not_mem_nil,or_false] at hc; subst hc; exact hl
       | false=>exact i.db
     ·rw [if_pos (show (e != 0) = true by simpa using h0)]
      refine ⟨g,false,rfl,fun h=>absurd h (by decide),.inr ⟨_,y,hm,bodyText_run b hw he,t2,?_,fun h=>absurd h (by decide)⟩⟩
      rw [r2,show (e == 0) = false by simpa using h0]
    ·rw [if_pos (show ((offerR g.2.2.1 (idB b) v b.2.2.1).2.2.1 != 0) = true by simpa using ho)]
     rw [if_neg (fun h=>ho h.2)] at hm
     exact ⟨g,false,rfl,fun h=>absurd h (by decide),.inl ⟨hm,rfl⟩⟩
 ·rw [if_neg he]
  simp only []
  rw [if_pos (fitB_small (by simp) (by decide)),Option.bind_some]
  have hne : (bodyE b != 0) = true:=by simpa using he
  simp only [hne,cond_true]
  have hmay : mayB g b = false:=by unfold mayB; rw [hne]; simp
  rw [hmay] at hm
  exact ⟨g,false,rfl,fun h=>absurd h (by decide),.inl ⟨by rw [hm]; simp,rfl⟩⟩
end Go.Bx
namespace Go.Bx
open Go
set_option linter.unusedSimpArgs false
set_option linter.unusedVariables false
set_option maxRecDepth 100000
theorem again_sameF {r : GuardD} (h : AllSmall r) : basculelaw_sameGuard.run r r = some true:=by
 obtain ⟨h1,h2,h3,h4,h5,h6⟩:=h
 exact sameGuard_refl r (by omega) (by omega) (by omega) (by omega) (by omega) (by omega)
theorem recText_byts {l : List Int} (h : Byts l) : Byts (recText l):=fun b hb=>by
 unfold recText at hb
 simp only [List.mem_append,List.mem_cons,List.not_mem_nil,or_false] at hb
 have w : ∀ x : Int,0 <= IntKind.u8.wrap x /\ IntKind.u8.wrap x < 256:=fun x=>by
  rw [wrap_u8_mod]; omega
 rcases hb with ((rfl | rfl) | hb) | rfl
 ·exact w _
 ·exact w _
 ·exact h b hb
 ·omega
theorem crash_both (l : LogD) (n : Nat) (hn : n <= l.2.1.length) (hl : l.1.length + l.2.1.length <= 4000000) :
  log_Crash.run l (n : Int) = some ((l.1 ++ cutL l.2.1 0 (n : Int),[],()),0,()) /\ basculeref_LogFallen.run l (n : Int) = some ((l.1 ++ cutL l.2.1 0 (n : Int),[],()),0,()):=by
 have hc:=cutL_len l.2.1 0 (n : Int)
 have h0 : ¬ (cond (decide ((n : Int) < 0)) true (decide ((n : Int) > (l.2.1.length : Int)))) = true:=by
  rw [cond_or]; simp; omega
 constructor
 ·unfold log_Crash.run log_Crash.top
  rw [if_neg h0,if_pos (fitB_small (by omega) (by decide)),if_pos (by omega),if_pos (fitB_small (by omega) (by decide))]
 ·unfold basculeref_LogFallen.run basculeref_LogFallen.top
  rw [if_neg h0,if_pos (by omega),if_pos (ble_le (by omega))]
theorem fall_end (g : GuardD) (k : Int) (l : LogD) (hl : l.1.length + l.2.1.length <= 4000000) (b1 : Byts l.1) (b2 : Byts l.2.1) (z0 z10 z11 : List Int) (z12 : Int) (z20 z21 : List Int) (z22 : Int) :
  ∃ (r : GuardD) (e : Int),guard_Fall.j0 (fun a b=>some (b,a,())) k g z0 z10 z11 z12 z20 z21 z22 l = some (r,e,()) /\ basculeref_GuardFell.j0 (fun a b=>some (b,a,())) k g z0 z10 z11 z12 z20 z21 z22 l = some (r,e,()) /\ AllSmall r:=by
 have hk : (if (l.2.1.length : Int) < (if 0 > k then 0 else k) then (l.2.1.length : Int) else (if 0 > k then 0 else k)) = ((min k.toNat l.2.1.length : Nat) : Int):=by
  by_cases h : 0 > k
  ·rw [if_pos h]; split <;> omega
  ·rw [if_neg h]; split <;> omega
 have hk2 : (if (l.2.1.length : Int) < (if k > 0 then k else 0) then (l.2.1.length : Int) else (if k > 0 then k else 0)) = ((min k.toNat l.2.1.length : Nat) : Int):=by
  by_cases h : k > 0
  ·rw [if_pos h]; split <;> omega
  ·rw [if_neg h]; split <;> omega
 obtain ⟨c,d⟩:=crash_both l (min k.toNat l.2.1.length) (Nat.min_le_right _ _) hl
 have hc:=cutL_len l.2.1 0 ((min k.toNat l.2.1.length : Nat) : Int)
 obtain ⟨r,e,r1,r2,r3⟩:=again_both g.1 g.2.1 (l.1 ++ cutL l.2.1 0 ((min k.toNat l.2.1.length : Nat) : Int),[],())
  (by show (l.1 ++ cutL l.2.1 0 ((min k.toNat l.2.1.length : Nat) : Int)).length + 0 <= 4000000; rw [List.length_append]; omega)
  (fun x hx=>by
   rcases List.mem_append.1 hx with hx | hx
   ·exact b1 x hx
   ·exact b2 x (cutL_mem hx))
  (fun x hx=>absurd hx (by simp))
 unfold guard_Fall.j0 basculeref_GuardFell.j0
 rw [hk,hk2,c,Option.bind_some,d,Option.bind_some]
 simp only [bne_self_eq_false,Bool.false_eq_true,if_false]
 rw [r1,Option.bind_some,r2,Option.bind_some]
 exact ⟨r,e,rfl,rfl,r3⟩
theorem falls_both (g : GuardD) (b : BodyD) (k : Int) (i : Inv 2097152 g) (hlog : g.2.2.2.1.1.length + g.2.2.2.1.2.1.length <= 2097152) (l1 : Byts g.2.2.2.1.1) (l2 : Byts g.2.2.2.1.2.1) (hw : b.2.2.2.1.length = 32) (h1 : Byts b.2.2.2.1) (h2 : Byts b.2.2.2.2.2.2.1) (hl : b.2.2.2.2.2.2.1.length <= 1048576) :
  ∃ (r : GuardD) (e : Int),guard_Fall.run g b k = some (r,e,()) /\ basculeref_GuardFell.run g b k = some (r,e,()) /\ AllSmall r:=by
 obtain ⟨y,ok,m1,_,m3⟩:=meet_both (T:=2097152) (by omega) i b hw h1 h2 hl
 unfold guard_Fall.run guard_Fall.top basculeref_GuardFell.run basculeref_GuardFell.top
 rw [m1,Option.bind_some]
 simp only []
 rw [show (g.2.2.2.1.1,g.2.2.2.1.2.1,()) = g.2.2.2.1 from rfl]
 rcases m3 with ⟨n1,rfl⟩ | ⟨x,z,n1,n2,n3,n4,n5⟩
 ·rw [n1,Option.bind_some]
  simp only [Bool.false_eq_true,if_false]
  exact fall_end g k g.2.2.2.1 (by omega) l1 l2 _ _ _ _ _ _ _
 ·rw [n1,Option.bind_some]
  simp only [if_true]
  rw [n2,Option.bind_some,if_pos (ble_le (by omega)),n4,Option.bind_some]
  simp only []
  cases ok with
  | false =>
   simp only [Bool.false_eq_true,if_false]
   exact fall_end g k g.2.2.2.1 (by omega) l1 l2 _ _ _ _ _ _ _
  | true =>
   simp only [if_true]
   have he : bodyE b = 0:=by
    refine Classical.byContradiction fun he=>?_
    have is:=i.s
    obtain ⟨v,w1,w2⟩:=worth_both b h2 (by omega)
    have hm:=meets_run g b (by omega) (by omega) (by omega) w2
    have hmay : mayB g b = false:=by unfold mayB; rw [show (bodyE b != 0) = true by simpa using he]; simp
    rw [hmay,n1] at hm
    simp at hm
   obtain ⟨t1,t2⟩:=bodyT_byt hw h1 h2 he
   have hr : ([1] ++ bodyT b).length <= 1001:=by rw [List.length_append]; simp only [List.length_cons,List.length_nil]; omega
   have hb : Byts ([1] ++ bodyT b):=fun c hc=>by
    rcases List.mem_append.1 hc with hc | hc
    ·simp only [List.mem_cons,List.not_mem_nil,or_false] at hc; subst hc; decide
    ·exact t1 c hc
   have hb2 : ∀ c ∈ [1] ++ bodyT b,0 <= c /\ c <= 255:=fun c hc=>by have:=hb c hc; omega
   unfold guard_meeting.run guard_meeting.top
   rw [bytes_prog hw,Option.bind_some,if_pos he]
   simp only []
   rw [if_pos (fitB_small (by omega) (by decide)),Option.bind_some]
   simp only []
   rw [Option.bind_some,if_pos (ble_le (by omega)),appended_run _ _ (by omega) hb2,append_run _ _ (by omega)]
   simp only [Option.bind_some]
   have hrl:=recText_len ([1] ++ bodyT b)
   have hrb:=recText_byts hb
   by_cases q1 : g.2.2.2.1.1.length > 9000 \/ g.2.2.2.1.2.1.length > 9000
   ·rw [if_pos q1]
    exact fall_end g k ([],[],()) (by simp) (fun x hx=>absurd hx (by simp)) (fun x hx=>absurd hx (by simp)) _ _ _ _ _ _ _
   ·rw [if_neg q1]
    by_cases q2 : ([1] ++ bodyT b).length > 200
    ·rw [if_pos q2]
     exact fall_end g k ([],[],()) (by simp) (fun x hx=>absurd hx (by simp)) (fun x hx=>absurd hx (by simp)) _ _ _ _ _ _ _
    ·rw [if_neg q2]
     by_cases q3 : g.2.2.2.1.1.length + g.2.2.2.1.2.1.length + ([1] ++ bodyT b).length + 3 > 9000
     ·rw [if_pos q3]
      exact fall_end g k ([],[],()) (by simp) (fun x hx=>absurd hx (by simp)) (fun x hx=>absurd hx (by simp)) _ _ _ _ _ _ _
     ·rw [if_neg q3]
      exact fall_end g k (g.2.2.2.1.1,g.2.2.2.1.2.1 ++ recText ([1] ++ bodyT b),()) (by show g.2.2.2.1.1.length + (g.2.2.2.1.2.1 ++ recText ([1] ++ bodyT b)).length <= 4000000; rw [List.length_append]; omega) l1
       (fun x hx=>by
        rcases List.mem_append.1 hx with hx | hx
        ·exact l2 x hx
        ·exact hrb x hx) _ _ _ _ _ _ _
theorem bytF {l : List Int} (h : ∀ x ∈ l,Fit uptoK (.int .u8) x) : Byts l:=fun b hb=>by
 have : IntKind.u8.min <= b /\ b <= IntKind.u8.max:=by simpa [Fit,inR] using h b hb
 rw [show IntKind.u8.min = 0 by decide,show IntKind.u8.max = 255 by decide] at this
 omega
theorem law_GuardFalls (x : basculelaw_GuardFalls.F.ps.den) (h : Fit uptoK basculelaw_GuardFalls.F.ps x) : basculelaw_GuardFalls.run x.1 x.2.1 x.2.2.1 = some true:=by
 obtain ⟨g,b,k,⟨⟩⟩:=x
 obtain ⟨⟨_,⟨_,_,_,⟨a1,_⟩,⟨a2,_⟩,_⟩,⟨_,_,_,⟨a3,_⟩,⟨a4,_⟩,_⟩,⟨⟨a5,_,a⟩,⟨a6,_,c⟩,_⟩,⟨a7,_,b7⟩,⟨a8,_,b8⟩,_⟩,⟨_,_,_,⟨w1,w2⟩,_,_,⟨w3,_,w4⟩,_⟩,_⟩:=h
 have a7 : g.2.2.2.2.1.length <= 1048576:=a7
 have a8 : g.2.2.2.2.2.1.length <= 1048576:=a8
 have a5' : g.2.2.2.1.1.length <= 1048576:=a5
 have a6' : g.2.2.2.1.2.1.length <= 1048576:=a6
 have i : Inv 2097152 g:=⟨a1,a2,a3,a4,a5,a6,by omega,fun b hb=>(b7 b hb).2.2.2.2.2.2.1.1,fun b hb=>(b8 b hb).2.2.2.2.2.2.1.1⟩
 obtain ⟨r,e,h1,h2,h3⟩:=falls_both g b k i (by omega) (bytF a) (bytF c) w1 (bytF w2) (bytF w4) w3
 unfold basculelaw_GuardFalls.run basculelaw_GuardFalls.top
 rw [h1,Option.bind_some,h2,Option.bind_some,again_sameF h3,Option.bind_some]
 simp
end Go.Bx
