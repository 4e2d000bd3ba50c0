/- Laws about functions of plain data, in plain Lean. -/
import Derived.Test.YtbkkahkikjifkaaGreatLawsGuardFalls1
import Derived.Test.YtbkkahkikjifkaaGreatLawsGuardFalls0
import Derived.Test.YtbkkahkikjifkaaGreatFnGuardFalls1
import Derived.Test.YtbkkahkikjifkaaGreatFnGuardFalls2
namespace Go.Bx
open Go
set_option linter.unusedSimpArgs false
set_option linter.unusedVariables false
abbrev LoadD : Type:=Int × List Int × List Int × List Int × Int × List Int × Int × Int × List Int × List Int × Int × List (List Int) × Unit
theorem cmp_order {l m : List Int} (hl : l.length = 4) (hm : m.length = 4) (dl : digs B64 l) (dm : digs B64 m) : ∃ c,wide_Cmp.run l m = some c /\ basculeref_Order.run l m = some c:=by
 obtain ⟨o1,e1,n1,g1,v1⟩:=ref_of hl dl
 obtain ⟨o2,e2,n2,g2,v2⟩:=ref_of hm dm
 unfold basculeref_Order.run basculeref_Order.top
 rw [wide_cmp hl hm dl dm,e1,e2]
 simp only [Option.bind_some]
 rw [ref_compare g1 g2 (by omega) (by omega),v1,v2]
 exact ⟨_,rfl,rfl⟩
theorem small_run (n m : Int) : load_small.run n m = some (decide (0 <= n) && decide (n <= m)):=by
 unfold load_small.run load_small.top
 rw [cond_and]
theorem grdI (b : Bool) (c d : Int) : (if (b == true) = true then some c else some d) = some (if b = true then c else d):=by cases b <;> rfl
theorem grdN {α : Type} (b : Bool) (c d : α) : (if ((not b) == false) = true then some c else some d) = some (if b = true then c else d):=by cases b <;> rfl
theorem le_ite (b : Bool) (c : Int) : (b && decide ((if b = true then c else 0) <= 0)) = (b && decide (c <= 0)):=by cases b <;> rfl
abbrev z4 : List Int:=[0,0,0,0]
abbrev z32 : List Int:=List.replicate 32 0
abbrev eqU (a b : List Int) : Bool:=beqD (.arr 4 (.int .u64)) a b
abbrev eqW (a b : List Int) : Bool:=beqD (.arr 32 (.int .u8)) a b
abbrev eqS (a b : List Int) : Bool:=beqD .str a b
section
variable (kd : Int) (am fe tk : List Int) (ho : Int) (to : List Int) (tc de : Int) (sy da : List Int) (ix : Int) (ks : List (List Int))
theorem kind_transfer (h : kd = 1 \/ kd = 3) : load_kindOf_s0.run kd = some (.inl ((kd == 3,()),true,())):=by
 unfold load_kindOf_s0.run load_kindOf_s0.top load_kindOf_s0.j0
 rcases h with rfl | rfl <;> rfl
theorem kind_meta : load_kindOf_s0.run 2 = some (.inr (.inl ((),true,()))):=rfl
theorem kind_turn : load_kindOf_s0.run 4 = some (.inr (.inr (.inl ((),true,())))):=rfl
theorem kind_none (h1 : kd ≠ 1) (h2 : kd ≠ 2) (h3 : kd ≠ 3) (h4 : kd ≠ 4) : load_kindOf_s0.run kd = some (.inr (.inr (.inr (.inl (false,()))))):=by
 unfold load_kindOf_s0.run load_kindOf_s0.top load_kindOf_s0.j0
 rw [if_neg (by simpa using h1),if_neg (by simpa using h3),if_neg (by simpa using h2),if_neg (by simpa using h4)]
def onlyT : Bool:=(de == 0) && eqS sy [] && (ix == 0) && decide (ks.length = 0)
def onlyM : Bool:=eqU am z4 && eqU fe z4 && eqW to z32 && (tc == 0) && (ix == 0) && eqS da [] && decide (ks.length = 0)
def onlyK : Bool:=eqU am z4 && eqU fe z4 && eqW tk z32 && (ho == 0) && eqW to z32 && (tc == 0) && (de == 0) && eqS sy [] && eqS da []
theorem len_zero {α : Type} (l : List α) : ((l.length : Int) == ((([] : List α).length : Nat) : Int)) = decide (l.length = 0):=by
 rw [Bool.eq_iff_iff,beq_iff_eq,decide_eq_true_eq]; simp
theorem same_T : load_same.run (kd,am,fe,tk,ho,to,tc,de,sy,da,ix,ks,()) (kd,am,fe,tk,ho,to,tc,0,[],da,0,[],()) = some (onlyT de sy ix ks):=by
 unfold load_same.run load_same.top onlyT
 simp only [BEq.rfl,beqD_refl (.arr 4 (.int .u64)) _ rfl,beqD_refl (.arr 32 (.int .u8)) _ rfl,beqD_refl .str _ rfl,cond_true,cond_and,Bool.and_true,Bool.true_and,len_zero]
theorem same_M : load_same.run (kd,am,fe,tk,ho,to,tc,de,sy,da,ix,ks,()) (kd,z4,z4,tk,ho,z32,0,de,sy,[],0,[],()) = some (onlyM am fe to tc da ix ks):=by
 unfold load_same.run load_same.top onlyM
 simp only [BEq.rfl,beqD_refl (.arr 4 (.int .u64)) _ rfl,beqD_refl (.arr 32 (.int .u8)) _ rfl,beqD_refl .str _ rfl,cond_true,cond_and,Bool.and_true,Bool.true_and,len_zero]
theorem same_K : load_same.run (kd,am,fe,tk,ho,to,tc,de,sy,da,ix,ks,()) (kd,z4,z4,z32,0,z32,0,0,[],[],ix,ks,()) = some (onlyK am fe tk ho to tc de sy da):=by
 unfold load_same.run load_same.top onlyK
 simp only [BEq.rfl,beqD_refl (.arr 4 (.int .u64)) _ rfl,beqD_refl (.arr 32 (.int .u8)) _ rfl,beqD_refl .str _ rfl,cond_true,cond_and,Bool.and_true,Bool.true_and,len_zero]
theorem sameLoad_zero {α : Type} (k n : Nat) (Rt : Bool->Option α) (Xt : LoadD->LoadD->Option α) (a b : LoadD) : basculeref_SameLoad.l0 k Rt Xt (n + 1) 0 0 a b = Xt a b:=by
 simp only [basculeref_SameLoad.l0,basculeref_SameLoad.l0s]
 rw [if_neg (by decide)]
theorem str_nil (l : List Int) : beqD .str l [] = decide (l.length = 0):=by
 cases l with
 | nil=>rfl
 | cons a l=>rfl
theorem sameF_T : basculeref_SameLoad.run (kd,am,fe,tk,ho,to,tc,de,sy,da,ix,ks,()) (kd,am,fe,tk,ho,to,tc,0,[],da,0,[],()) = some (onlyT de sy ix ks):=by
 unfold basculeref_SameLoad.run basculeref_SameLoad.top onlyT
 simp only [beqD_refl .str _ rfl]
 by_cases hk : ks.length = 0
 ·rw [if_neg (by rw [cond_or]; simp [hk]),hk]
  refine (sameLoad_zero fuel 18446744073709551615 (fun a=>some a) (fun b c=>basculeref_SameLoad.j0 (fun a=>some a) b c) _ _).trans ?_
  unfold basculeref_SameLoad.j0
  simp only [BEq.rfl,beqD_refl (.arr 4 (.int .u64)) _ rfl,beqD_refl (.arr 32 (.int .u8)) _ rfl,beqD_refl .str _ rfl,cond_true,cond_and,Bool.and_true,Bool.true_and,decide_true]
 ·rw [if_pos (by rw [cond_or]; simp; intro h; exact hk (by rw [h]; rfl))]
  rw [decide_eq_false hk,Bool.and_false]
theorem sameF_M : basculeref_SameLoad.run (kd,am,fe,tk,ho,to,tc,de,sy,da,ix,ks,()) (kd,z4,z4,tk,ho,z32,0,de,sy,[],0,[],()) = some (onlyM am fe to tc da ix ks):=by
 unfold basculeref_SameLoad.run basculeref_SameLoad.top onlyM
 by_cases hk : ks.length = 0
 ·cases hd : beqD .str da [] with
  | false =>
   rw [if_pos (by rw [cond_or]; simp [hd])]
   simp [eqS,hd]
  | true =>
   rw [if_neg (by rw [cond_or]; simp [hk,hd]),hk]
   refine (sameLoad_zero fuel 18446744073709551615 (fun a=>some a) (fun b c=>basculeref_SameLoad.j0 (fun a=>some a) b c) _ _).trans ?_
   unfold basculeref_SameLoad.j0
   simp only [BEq.rfl,beqD_refl (.arr 4 (.int .u64)) _ rfl,beqD_refl (.arr 32 (.int .u8)) _ rfl,beqD_refl .str _ rfl,cond_true,cond_and,Bool.and_true,Bool.true_and,decide_true,eqS,hd]
 ·rw [if_pos (by rw [cond_or]; simp; exact .inl (by intro h; exact hk (by rw [h]; rfl)))]
  rw [decide_eq_false hk,Bool.and_false]
theorem sameLoad_keys {α : Type} (Rt : Bool->Option α) (Xt : LoadD->LoadD->Option α) (k : Nat) (a b : LoadD) (l : List (List Int)) (ha : a.2.2.2.2.2.2.2.2.2.2.2.1 = l) (hb : b.2.2.2.2.2.2.2.2.2.2.2.1 = l) (hl : l.length <= 400000000000000) : ∀ (R P : List (List Int)) (n : Nat),R.length < n->l = P ++ R ->
  basculeref_SameLoad.l0 k Rt Xt n (l.length : Int) (P.length : Int) a b = Xt a b
 | R,P,0,h,_=>by omega
 | [],P,n + 1,h,hc=>by
  simp only [basculeref_SameLoad.l0,basculeref_SameLoad.l0s]
  have : l.length = P.length:=by rw [hc]; simp
  rw [if_neg (by rw [decide_eq_true_eq]; omega)]
 | y :: R,P,n + 1,h,hc=>by
  have hlen : l.length = P.length + (R.length + 1):=by rw [hc]; simp
  simp only [basculeref_SameLoad.l0,basculeref_SameLoad.l0s,ha,hb]
  rw [if_pos (by rw [decide_eq_true_eq]; omega),if_pos (by omega),if_pos (by omega),i64_succ (by omega),beqD_refl _ _ rfl,if_neg (by simp)]
  have ih:=sameLoad_keys Rt Xt k a b l ha hb hl R (P ++ [y]) n (by simpa using h) (by simp [hc])
  rw [List.length_append] at ih
  exact ih
theorem sameF_K (hl : ks.length <= 400000000000000) : basculeref_SameLoad.run (kd,am,fe,tk,ho,to,tc,de,sy,da,ix,ks,()) (kd,z4,z4,z32,0,z32,0,0,[],[],ix,ks,()) = some (onlyK am fe tk ho to tc de sy da):=by
 unfold basculeref_SameLoad.run basculeref_SameLoad.top onlyK
 cases hd : beqD .str da [] with
 | false =>
  rw [if_pos (by rw [cond_or]; simp [hd])]
  simp [eqS,hd]
 | true =>
  rw [if_neg (by rw [cond_or]; simp [hd])]
  refine (sameLoad_keys (fun a=>some a) (fun b c=>basculeref_SameLoad.j0 (fun a=>some a) b c) fuel (kd,am,fe,tk,ho,to,tc,de,sy,da,ix,ks,()) (kd,z4,z4,z32,0,z32,0,0,[],[],ix,ks,()) ks rfl rfl hl ks [] fuel (by rw [fuel_big]; omega) rfl).trans ?_
  unfold basculeref_SameLoad.j0
  simp only [BEq.rfl,beqD_refl (.arr 4 (.int .u64)) _ rfl,beqD_refl (.arr 32 (.int .u8)) _ rfl,beqD_refl .str _ rfl,cond_true,cond_and,Bool.and_true,Bool.true_and,decide_true,eqS,hd]
def rng (n m : Int) : Bool:=decide (0 <= n) && decide (n <= m)
def noNul (s : List Int) : Bool:=s.all fun c=>c != 0
theorem meta_loop {α : Type} (Xt : Bool->Option α) (k : Nat) (l : List Int) (hl : l.length <= 400000000000000) : ∀ (R P : List Int) (n : Nat) (x : Bool),R.length < n->l = P ++ R ->
  load_meta__check.l0 k Xt n x l (l.length : Int) (P.length : Int) = Xt (x && noNul R)
 | R,P,0,x,h,_=>by omega
 | [],P,n + 1,x,h,hc=>by
  simp only [load_meta__check.l0,load_meta__check.l0s]
  have : l.length = P.length:=by rw [hc]; simp
  rw [if_neg (by rw [decide_eq_true_eq]; omega)]
  simp [noNul]
 | y :: R,P,n + 1,x,h,hc=>by
  have hlen : l.length = P.length + (R.length + 1):=by rw [hc]; simp
  simp only [load_meta__check.l0,load_meta__check.l0s]
  have hg : l.getD P.length 0 = y:=by rw [hc]; exact getD_at _ _ _ _
  rw [if_pos (by rw [decide_eq_true_eq]; omega),if_pos (by omega),i64_succ (by omega),toNat_nat,hg,cond_and]
  have ih:=meta_loop Xt k l hl R (P ++ [y]) n (x && y != 0) (by simpa using h) (by simp [hc])
  rw [List.length_append] at ih
  refine Eq.trans ih ?_
  simp only [noNul,List.all_cons,Bool.and_assoc]
theorem nought_loop {α : Type} (Rt : Bool->Option α) (Xt : Option α) (k : Nat) (l : List Int) (hl : l.length <= 400000000000000) : ∀ (R P : List Int) (n : Nat),R.length < n->l = P ++ R ->
  basculeref_hasNought.l0 k Rt Xt n l (P.length : Int) = if noNul R = true then Xt else Rt true
 | R,P,0,h,_=>by omega
 | [],P,n + 1,h,hc=>by
  simp only [basculeref_hasNought.l0,basculeref_hasNought.l0s]
  have : l.length = P.length:=by rw [hc]; simp
  rw [if_neg (by rw [decide_eq_true_eq]; omega)]
  simp [noNul]
 | y :: R,P,n + 1,h,hc=>by
  have hlen : l.length = P.length + (R.length + 1):=by rw [hc]; simp
  simp only [basculeref_hasNought.l0,basculeref_hasNought.l0s]
  have hg : l.getD P.length 0 = y:=by rw [hc]; exact getD_at _ _ _ _
  rw [if_pos (by rw [decide_eq_true_eq]; omega),if_pos (by omega),i64_succ (by omega),toNat_nat,hg]
  have ih:=nought_loop Rt Xt k l hl R (P ++ [y]) n (by simpa using h) (by simp [hc])
  rw [List.length_append] at ih
  by_cases hy : y = 0
  ·rw [if_pos (by simpa using hy),if_neg (by simp [noNul,hy])]
  ·rw [if_neg (by simpa using hy)]
   refine Eq.trans ih ?_
   have : noNul (y :: R) = noNul R:=by simp [noNul,hy]
   rw [this]
theorem nought_run (l : List Int) (hl : l.length <= 400000000000000) : basculeref_hasNought.run l = some (!noNul l):=by
 unfold basculeref_hasNought.run basculeref_hasNought.top
 refine (nought_loop (fun a=>some a) (basculeref_hasNought.j0 fun a=>some a) fuel l hl l [] fuel (by rw [fuel_big]; omega) rfl).trans ?_
 unfold basculeref_hasNought.j0
 cases noNul l <;> rfl
def okT (c : Int) : Bool:=rng ho 65535 && rng tc 65535 && decide (c <= 0) && decide (da.length <= 100) && (decide (kd = 3) || decide (da.length = 0)) && onlyT de sy ix ks
def okM : Bool:=rng ho 65535 && rng de 77 && decide (sy.length <= 32) && noNul sy && onlyM am fe to tc da ix ks
def okK : Bool:=rng ix 4294967295 && decide (1 <= ks.length) && decide (ks.length <= 19) && onlyK am fe tk ho to tc de sy da
theorem check_T (h : kd = 1 \/ kd = 3) {c : Int} (hc : wide_Cmp.run fe am = some c) : load_Check.run (kd,am,fe,tk,ho,to,tc,de,sy,da,ix,ks,()) = some (if okT kd ho tc de sy da ix ks c = true then 0 else 3):=by
 unfold load_Check.run load_Check.top
 rw [kind_transfer kd h,Option.bind_some,Sum.elim_inl]
 rw [if_neg (by simp)]
 unfold load_transfer__check.run load_transfer__check.top load_transfer__bare.run load_transfer__bare.top
 simp only [small_run,hc,Option.bind_some,grd,grdI,grdN,cond_and,cond_or]
 have e : ∀ y : Bool,(if y = true then ((kd,am,fe,tk,ho,to,tc,0,[],da,0,[],()) : LoadD) else (0,z4,z4,z32,0,z32,0,0,[],[],0,[],())) = if y = true then (kd,am,fe,tk,ho,to,tc,0,[],da,0,[],()) else (0,z4,z4,z32,0,z32,0,0,[],[],0,[],()):=fun _=>rfl
 have hz : ((kd == 3 && decide ((da.length : Int) <= 100)) || (!(kd == 3) && ((da.length : Int) == 0))) = (decide (da.length <= 100) && (decide (kd = 3) || decide (da.length = 0))):=by
  rw [Bool.eq_iff_iff]
  simp only [Bool.or_eq_true,Bool.and_eq_true,beq_iff_eq,decide_eq_true_eq,Bool.not_eq_true',beq_eq_false_iff_ne]
  by_cases h3 : kd = 3
  ·simp only [h3,true_and,not_true_eq_false,false_and,or_false,true_or,and_true]; omega
  ·simp only [h3,false_and,false_or,not_false_eq_true,true_and]; omega
 have h1 : ((rng ho 65535 && (rng ho 65535 && rng tc 65535)) && decide ((if (rng ho 65535 && (rng ho 65535 && rng tc 65535)) = true then c else 0) <= 0)) = (rng ho 65535 && rng tc 65535 && decide (c <= 0)):=by
  rw [le_ite]; cases rng ho 65535 <;> rfl
 unfold rng at h1
 simp only [h1,hz]
 unfold okT rng
 generalize hA : (decide (0 <= ho) && decide (ho <= 65535) && (decide (0 <= tc) && decide (tc <= 65535)) && decide (c <= 0) && (decide (da.length <= 100) && (decide (kd = 3) || decide (da.length = 0)))) = A
 have hA' : (decide (0 <= ho) && decide (ho <= 65535) && (decide (0 <= tc) && decide (tc <= 65535)) && decide (c <= 0) && decide (da.length <= 100) && (decide (kd = 3) || decide (da.length = 0))) = A:=by rw [<- hA]; simp only [Bool.and_assoc]
 rw [hA']
 cases A with
 | false=>rfl
 | true =>
  simp only [if_true,same_T,Option.bind_some,Bool.not_true,Bool.false_or,Bool.true_and,BEq.rfl]
  cases onlyT de sy ix ks <;> rfl
theorem fault_T (h : kd = 1 \/ kd = 3) {c : Int} (hc : basculeref_Order.run fe am = some c) : basculeref_LoadFault.run (kd,am,fe,tk,ho,to,tc,de,sy,da,ix,ks,()) = some (if okT kd ho tc de sy da ix ks c = true then 0 else 3):=by
 have honly : basculeref_only.run (kd,am,fe,tk,ho,to,tc,de,sy,da,ix,ks,()) = some ((kd,am,fe,tk,ho,to,tc,0,[],da,0,[],()),true,()):=by
  unfold basculeref_only.run basculeref_only.top basculeref_only.j0
  rcases h with rfl | rfl <;> rfl
 unfold basculeref_LoadFault.run basculeref_LoadFault.top
 rw [honly,Option.bind_some,if_neg (by simp),sameF_T,Option.bind_some]
 have hj : ∀ b : Bool,b = true->basculeref_LoadFault.j0 (fun a=>some a) (onlyT de sy ix ks) kd b (kd,am,fe,tk,ho,to,tc,de,sy,da,ix,ks,()) = some (if okT kd ho tc de sy da ix ks c = true then 0 else 3):=fun b hb=>by
  unfold basculeref_LoadFault.j0 basculeref_LoadFault.j1
  rw [if_pos hb]
  simp only [upTo_run,hc,Option.bind_some,grd,grdI,cond_and,cond_or]
  unfold okT rng
  have hz : ((kd == 3) || ((da.length : Int) == 0)) = (decide (kd = 3) || decide (da.length = 0)):=by
   rw [Bool.eq_iff_iff]
   simp only [Bool.or_eq_true,beq_iff_eq,decide_eq_true_eq]; omega
  have hd : decide ((da.length : Int) <= 100) = decide (da.length <= 100):=by rw [decide_eq_decide]; omega
  rw [hz,hd]
  generalize onlyT de sy ix ks = S
  generalize (decide (0 <= ho) && decide (ho <= 65535)) = H
  generalize (decide (0 <= tc) && decide (tc <= 65535)) = T
  generalize decide (da.length <= 100) = D
  generalize (decide (kd = 3) || decide (da.length = 0)) = Z
  cases S <;> cases H <;> cases T <;> cases D <;> cases Z <;> cases hq : decide (c <= 0) <;> simp [hq]
 rcases h with h | h
 ·rw [if_pos (by simp [h])]; exact hj _ (by simp [h])
 ·rw [if_neg (by simp [h])]; exact hj _ (by simp [h])
theorem check_M (hs : sy.length <= 400000000000000) : load_Check.run (2,am,fe,tk,ho,to,tc,de,sy,da,ix,ks,()) = some (if okM am fe ho to tc de sy da ix ks = true then 0 else 3):=by
 unfold load_Check.run load_Check.top
 rw [kind_meta,Option.bind_some,Sum.elim_inr,Sum.elim_inl]
 rw [if_neg (by simp)]
 unfold load_meta__check.run load_meta__check.top load_meta__bare.run load_meta__bare.top
 simp only [small_run,Option.bind_some,grd,cond_and]
 have:=meta_loop (fun a=>load_meta__check.j0 (fun b=>some b) a) fuel sy hs sy [] fuel ((decide (0 <= ho) && decide (ho <= 65535)) && ((decide (0 <= ho) && decide (ho <= 65535)) && (decide (0 <= de) && decide (de <= 77))) && decide ((sy.length : Int) <= 32)) (by rw [fuel_big]; omega) rfl
 rw [show ((([] : List Int).length : Nat) : Int) = 0 from rfl] at this
 rw [this]
 unfold load_meta__check.j0 okM rng
 have hd : decide ((sy.length : Int) <= 32) = decide (sy.length <= 32):=by rw [decide_eq_decide]; omega
 rw [hd]
 generalize (decide (0 <= ho) && decide (ho <= 65535)) = H
 generalize (decide (0 <= de) && decide (de <= 77)) = T
 generalize decide (sy.length <= 32) = D
 generalize noNul sy = Z
 simp only [Option.bind_some,grdN]
 cases H <;> cases T <;> cases D <;> cases Z <;> first | rfl | skip
 simp only [Bool.and_self,Bool.true_and,if_true,same_M,Option.bind_some,BEq.rfl,Bool.not_true,cond_false,cond_or,Bool.false_or]
 cases onlyM am fe to tc da ix ks <;> rfl
theorem fault_M (hs : sy.length <= 400000000000000) : basculeref_LoadFault.run (2,am,fe,tk,ho,to,tc,de,sy,da,ix,ks,()) = some (if okM am fe ho to tc de sy da ix ks = true then 0 else 3):=by
 have honly : basculeref_only.run (2,am,fe,tk,ho,to,tc,de,sy,da,ix,ks,()) = some ((2,z4,z4,tk,ho,z32,0,de,sy,[],0,[],()),true,()):=rfl
 unfold basculeref_LoadFault.run basculeref_LoadFault.top
 rw [honly,Option.bind_some,if_neg (by simp),sameF_M,Option.bind_some,if_neg (show ¬ (((2 : Int) == 1) = true) by decide)]
 unfold basculeref_LoadFault.j0 basculeref_LoadFault.j1
 rw [if_neg (show ¬ (((2 : Int) == 3) = true) by decide),if_pos (show (((2 : Int) == 2) = true) by decide)]
 simp only [upTo_run,nought_run _ hs,Option.bind_some,grd,cond_and]
 unfold okM rng
 have hd : decide ((sy.length : Int) <= 32) = decide (sy.length <= 32):=by rw [decide_eq_decide]; omega
 rw [hd]
 generalize onlyM am fe to tc da ix ks = S
 generalize (decide (0 <= ho) && decide (ho <= 65535)) = H
 generalize (decide (0 <= de) && decide (de <= 77)) = T
 generalize decide (sy.length <= 32) = D
 generalize noNul sy = Z
 cases S <;> cases H <;> cases T <;> cases D <;> cases Z <;> rfl
theorem check_K : load_Check.run (4,am,fe,tk,ho,to,tc,de,sy,da,ix,ks,()) = some (if okK am fe tk ho to tc de sy da ix ks = true then 0 else 3):=by
 unfold load_Check.run load_Check.top
 rw [kind_turn,Option.bind_some,Sum.elim_inr,Sum.elim_inr,Sum.elim_inl]
 rw [if_neg (by simp)]
 unfold load_turn__check.run load_turn__check.top load_turn__bare.run load_turn__bare.top
 simp only [small_run,Option.bind_some,grd,grdN,cond_and]
 unfold okK rng
 have hd : decide ((ks.length : Int) >= 1) = decide (1 <= ks.length):=by rw [decide_eq_decide]; omega
 have hd2 : decide ((ks.length : Int) <= 19) = decide (ks.length <= 19):=by rw [decide_eq_decide]; omega
 rw [hd,hd2]
 generalize (decide (0 <= ix) && decide (ix <= 4294967295)) = H
 generalize decide (1 <= ks.length) = T
 generalize decide (ks.length <= 19) = D
 cases H <;> cases T <;> cases D <;> first | rfl | skip
 simp only [Bool.and_self,Bool.true_and,if_true,same_K,Option.bind_some,BEq.rfl,Bool.not_true,cond_false,cond_or,Bool.false_or]
 cases onlyK am fe tk ho to tc de sy da <;> rfl
theorem fault_K (hl : ks.length <= 400000000000000) : basculeref_LoadFault.run (4,am,fe,tk,ho,to,tc,de,sy,da,ix,ks,()) = some (if okK am fe tk ho to tc de sy da ix ks = true then 0 else 3):=by
 have honly : basculeref_only.run (4,am,fe,tk,ho,to,tc,de,sy,da,ix,ks,()) = some ((4,z4,z4,z32,0,z32,0,0,[],[],ix,ks,()),true,()):=rfl
 unfold basculeref_LoadFault.run basculeref_LoadFault.top
 rw [honly,Option.bind_some,if_neg (by simp),sameF_K _ _ _ _ _ _ _ _ _ _ _ _ hl,Option.bind_some,if_neg (show ¬ (((4 : Int) == 1) = true) by decide)]
 unfold basculeref_LoadFault.j0 basculeref_LoadFault.j1
 rw [if_neg (show ¬ (((4 : Int) == 3) = true) by decide),if_neg (show ¬ (((4 : Int) == 2) = true) by decide),if_pos (show (((4 : Int) == 4) = true) by decide)]
 simp only [upTo_run,Option.bind_some,grd,cond_and]
 unfold okK rng
 have hd : decide ((ks.length : Int) > 0) = decide (1 <= ks.length):=by rw [decide_eq_decide]; omega
 have hd2 : decide ((ks.length : Int) <= 19) = decide (ks.length <= 19):=by rw [decide_eq_decide]; omega
 rw [hd,hd2]
 generalize onlyK am fe tk ho to tc de sy da = S
 generalize (decide (0 <= ix) && decide (ix <= 4294967295)) = H
 generalize decide (1 <= ks.length) = T
 generalize decide (ks.length <= 19) = D
 cases S <;> cases H <;> cases T <;> cases D <;> rfl
theorem check_N (h1 : kd ≠ 1) (h2 : kd ≠ 2) (h3 : kd ≠ 3) (h4 : kd ≠ 4) : load_Check.run (kd,am,fe,tk,ho,to,tc,de,sy,da,ix,ks,()) = some 2 /\ basculeref_LoadFault.run (kd,am,fe,tk,ho,to,tc,de,sy,da,ix,ks,()) = some 2:=by
 constructor
 ·unfold load_Check.run load_Check.top
  rw [kind_none kd h1 h2 h3 h4,Option.bind_some,Sum.elim_inr,Sum.elim_inr,Sum.elim_inr,Sum.elim_inl]
  rfl
 ·have honly : basculeref_only.run (kd,am,fe,tk,ho,to,tc,de,sy,da,ix,ks,()) = some ((0,z4,z4,z32,0,z32,0,0,[],[],0,[],()),false,()):=by
   unfold basculeref_only.run basculeref_only.top basculeref_only.j0
   rw [if_neg (by simpa using h1),if_neg (by simpa using h3),if_neg (by simpa using h2),if_neg (by simpa using h4)]
  unfold basculeref_LoadFault.run basculeref_LoadFault.top
  rw [honly]; rfl
end
end Go.Bx
namespace Go.Bx
open Go
set_option linter.unusedSimpArgs false
set_option linter.unusedVariables false
theorem checks_load (kd : Int) (am fe tk : List Int) (ho : Int) (to : List Int) (tc de : Int) (sy da : List Int) (ix : Int) (ks : List (List Int)) (ha : am.length = 4 /\ digs B64 am) (hf : fe.length = 4 /\ digs B64 fe) (hs : sy.length <= 400000000000000) (hl : ks.length <= 400000000000000) :
  ∃ c,load_Check.run (kd,am,fe,tk,ho,to,tc,de,sy,da,ix,ks,()) = some c /\ basculeref_LoadFault.run (kd,am,fe,tk,ho,to,tc,de,sy,da,ix,ks,()) = some c:=by
 obtain ⟨c,a,b⟩:=cmp_order hf.1 ha.1 hf.2 ha.2
 by_cases h1 : kd = 1
 ·exact ⟨_,check_T _ _ _ _ _ _ _ _ _ _ _ _ (.inl h1) a,fault_T _ _ _ _ _ _ _ _ _ _ _ _ (.inl h1) b⟩
 by_cases h3 : kd = 3
 ·exact ⟨_,check_T _ _ _ _ _ _ _ _ _ _ _ _ (.inr h3) a,fault_T _ _ _ _ _ _ _ _ _ _ _ _ (.inr h3) b⟩
 by_cases h2 : kd = 2
 ·subst h2; exact ⟨_,check_M _ _ _ _ _ _ _ _ _ _ _ hs,fault_M _ _ _ _ _ _ _ _ _ _ _ hs⟩
 by_cases h4 : kd = 4
 ·subst h4; exact ⟨_,check_K _ _ _ _ _ _ _ _ _ _ _,fault_K _ _ _ _ _ _ _ _ _ _ _ hl⟩
 obtain ⟨e1,e2⟩:=check_N kd am fe tk ho to tc de sy da ix ks h1 h2 h3 h4
 exact ⟨_,e1,e2⟩
end Go.Bx
namespace Go.Bx
open Go
set_option linter.unusedSimpArgs false
set_option linter.unusedVariables false
set_option maxRecDepth 100000
theorem cutN (l : List Int) (a b : Nat) : cutL l (a : Int) (b : Int) = (l.drop a).take (b - a):=by simp [cutL]
theorem cutE (l : List Int) (a : Nat) : cutL l (a : Int) (l.length : Int) = l.drop a:=by
 rw [cutN,List.take_of_length_le (by simp)]
theorem dropB {l : List Int} (h : Byts l) (n : Nat) : Byts (l.drop n):=fun b hb=>h b (List.mem_of_mem_drop hb)
theorem takeB {l : List Int} (h : Byts l) (n : Nat) : Byts (l.take n):=fun b hb=>h b (List.mem_of_mem_take hb)
theorem byteAt {l : List Int} (h : Byts l) (n : Nat) : 0 <= l.getD n 0 /\ l.getD n 0 < 256:=by
 by_cases hn : n < l.length
 ·rw [getD_eq hn]; exact h _ (List.getElem_mem _)
 ·have : l.getD n 0 = 0:=by simp [List.getD,List.getElem?_eq_none (show l.length <= n by omega)]
  rw [this]; decide
theorem bW {l : List Int} (h : Byts l) (n : Nat) : IntKind.i64.wrap (l.getD n 0) = l.getD n 0:=by
 have:=byteAt h n
 exact wrap_i64 (by omega) (by omega)
theorem two_at {l : List Int} {n : Nat} (h : n + 1 < l.length) (hb : Byts l) : bor .i64 (shlI .i64 (IntKind.i64.wrap (l.getD n 0)) 8) (IntKind.i64.wrap (l.getD (n + 1) 0)) = numW ((l.drop n).take 2):=by
 have e : (l.drop n).take 2 = [l.getD n 0,l.getD (n + 1) 0]:=by
  rw [List.drop_eq_getElem_cons (show n < l.length by omega),List.drop_eq_getElem_cons h,getD_eq h,getD_eq (show n < l.length by omega)]; rfl
 rw [e,bW hb (n + 1),or_low _ _ (byteAt hb (n + 1))]
 unfold numW numI
 simp only [List.foldl]
 rw [Int.zero_mul,Int.zero_add]
theorem word_run' (l : List Int) (h : l.length = 32) : load_word.run l = some l:=by
 unfold load_word.run load_word.top
 rw [cpy_pad _ (by omega),pad_full _ h]
abbrev nilLoad : LoadD:=(0,[0,0,0,0],[0,0,0,0],List.replicate 32 0,0,List.replicate 32 0,0,0,[],[],0,[],())
def rdT (kd : Int) (s : List Int) : LoadD:=(kd,wid (s.take 32),wid ((s.drop 100).take 32),(s.drop 32).take 32,numW ((s.drop 64).take 2),(s.drop 66).take 32,numW ((s.drop 98).take 2),0,[],s.drop 132,0,[],())
def trimN (w : List Int) : Nat->Nat
 | 0=>0
 | j + 1=>if w.getD j 0 = 0 then trimN w j else j + 1
theorem trimN_le (w : List Int) : ∀ j,trimN w j <= j
 | 0=>Nat.le_refl _
 | j + 1=>by unfold trimN; have:=trimN_le w j; split <;> omega
def rdM (kd : Int) (s : List Int) : LoadD:=(kd,[0,0,0,0],[0,0,0,0],s.take 32,numW ((s.drop 32).take 2),List.replicate 32 0,0,s.getD 34 0,(s.drop 35).take (trimN (s.drop 35) 32),[],0,[],())
def keysOf : Nat->List Int->List (List Int)
 | 0,_=>[]
 | m + 1,l=>cpyL (List.replicate 20 0) 0 20 l :: keysOf m (l.drop 20)
theorem keysOf_len : ∀ (m : Nat) (l : List Int),(keysOf m l).length = m
 | 0,_=>rfl
 | m + 1,l=>by simp [keysOf,keysOf_len m]
def rdK (kd : Int) (s : List Int) : LoadD:=(kd,[0,0,0,0],[0,0,0,0],List.replicate 32 0,0,List.replicate 32 0,0,0,[],[],numW (s.take 4),keysOf (s.getD 4 0).toNat (s.drop 5),())
theorem get_T (u : Bool × Unit) (s : List Int) (hb : Byts s) (hl : s.length <= 140737488351232) : load_transfer__get.run u s = some (if s.length < 132 then (nilLoad,4,()) else (rdT 0 s,0,())):=by
 unfold load_transfer__get.run load_transfer__get.top
 by_cases h : s.length < 132
 ·rw [if_pos (by rw [decide_eq_true_eq]; omega),if_pos h]
 ·have a : cutL s 0 32 = s.take 32:=cutN s 0 32
  have b : cutL s 32 64 = (s.drop 32).take 32:=cutN s 32 64
  have c : cutL s 66 98 = (s.drop 66).take 32:=cutN s 66 98
  have d : cutL s 100 132 = (s.drop 100).take 32:=cutN s 100 132
  have e : cutL s 132 (s.length : Int) = s.drop 132:=cutE s 132
  have l1 : (s.take 32).length = 32:=by simp; omega
  have l2 : ((s.drop 32).take 32).length = 32:=by simp; omega
  have l3 : ((s.drop 66).take 32).length = 32:=by simp; omega
  have l4 : ((s.drop 100).take 32).length = 32:=by simp; omega
  have t1:=two_at (n:=64) (l:=s) (by omega) hb
  have t2:=two_at (n:=98) (l:=s) (by omega) hb
  rw [if_neg (by rw [decide_eq_true_eq]; omega),if_neg h,if_pos (by omega),a,word_run' _ l1,Option.bind_some,(from_wid _ l1 (takeB hb 32)).1,Option.bind_some,if_pos (by omega),b,word_run' _ l2,Option.bind_some,
   if_pos (by omega),if_pos (by omega),if_pos (by omega),c,word_run' _ l3,Option.bind_some,if_pos (by omega),if_pos (by omega),if_pos (by omega),d,word_run' _ l4,Option.bind_some,(from_wid _ l4 (takeB (dropB hb 100) 32)).1,Option.bind_some,
   if_pos (by omega),e,if_pos (fitB_of (show (0 + (s.drop 132).length) * 1 <= _ by simp; omega) (show 0 + (s.drop 132).length <= _ by simp; omega)),t1,t2]
  simp only [rdT]
theorem trim_loop {α : Type} (Xt : List Int->Int->Int->List Int->List Int->List Int->Int->List Int->Int->Int->List Int->Int->Option α) (K : Nat) (s : List Int) (hs : s.length = 67) (hb : Byts s) (a0 : Int) (a1 a2 a3 : List Int) (a4 : Int) (a5 : List Int) (a6 a7 : Int) (a8 : List Int) (a10 : Int) : ∀ (j n : Nat),j < n->j <= 32 ->
  load_meta__get.l0 K Xt n s (35 + (j : Int)) a0 a1 a2 a3 a4 a5 a6 a7 a8 a10 = Xt s (35 + (trimN (s.drop 35) j : Int)) a0 a1 a2 a3 a4 a5 a6 a7 a8 a10
 | j,0,h,_=>by omega
 | 0,n + 1,h,_=>by
  simp only [load_meta__get.l0,load_meta__get.l0s]
  rw [show (35 : Int) + ((0 : Nat) : Int) = 35 from rfl,show IntKind.i64.wrap (35 - 1) = 34 from rfl]
  have e1 : decide (0 <= (34 : Int) /\ (34 : Int) < (s.length : Int)) = true:=by rw [decide_eq_true_eq]; omega
  rw [e1,Bool.true_or,cond_true,show decide ((35 : Int) > 35) = false from rfl,cond_false,if_neg (by decide)]
  rfl
 | j + 1,n + 1,h,hj=>by
  simp only [load_meta__get.l0,load_meta__get.l0s]
  have e0 : IntKind.i64.wrap (35 + ((j + 1 : Nat) : Int) - 1) = 35 + (j : Int):=by rw [wrap_i64 (by omega) (by omega)]; omega
  have e1 : decide (0 <= 35 + (j : Int) /\ 35 + (j : Int) < (s.length : Int)) = true:=by rw [decide_eq_true_eq]; omega
  have e2 : decide (35 + ((j + 1 : Nat) : Int) > 35) = true:=by rw [decide_eq_true_eq]; omega
  have e3 : (35 + (j : Int)).toNat = 35 + j:=by omega
  have e4 : s.getD (35 + j) 0 = (s.drop 35).getD j 0:=by simp [List.getD,List.getElem?_drop]
  rw [e0,e1,Bool.true_or,cond_true,e2,cond_true,e3,e4]
  unfold trimN
  by_cases hz : (s.drop 35).getD j 0 = 0
  ·rw [if_pos (by simpa using hz),if_pos hz]
   exact trim_loop Xt K s hs hb a0 a1 a2 a3 a4 a5 a6 a7 a8 a10 j n (by omega) (by omega)
  ·rw [if_neg (by simpa using hz),if_neg hz]
theorem get_M (u : Unit) (s : List Int) (hb : Byts s) : load_meta__get.run u s = some (if s.length < 67 then (nilLoad,4,()) else if s.length > 67 then (nilLoad,3,()) else (rdM 0 s,0,())):=by
 unfold load_meta__get.run load_meta__get.top
 by_cases h : s.length < 67
 ·rw [if_pos (by rw [decide_eq_true_eq]; omega),if_pos h]
 ·rw [if_neg (by rw [decide_eq_true_eq]; omega),if_neg h]
  by_cases h2 : s.length > 67
  ·rw [if_pos (by rw [decide_eq_true_eq]; omega),if_pos h2]
  ·have hs : s.length = 67:=by omega
   rw [if_neg (by rw [decide_eq_true_eq]; omega),if_neg h2]
   refine (trim_loop _ fuel s hs hb 0 [0,0,0,0] [0,0,0,0] (List.replicate 32 0) 0 (List.replicate 32 0) 0 0 [] 0 32 fuel (by rw [fuel_big]; omega) (by omega)).trans ?_
   unfold load_meta__get.j0
   have ht:=trimN_le (s.drop 35) 32
   have a : cutL s 0 32 = s.take 32:=cutN s 0 32
   have b : cutL s 35 (35 + (trimN (s.drop 35) 32 : Int)) = (s.drop 35).take (trimN (s.drop 35) 32):=by
    have:=cutN s 35 (35 + trimN (s.drop 35) 32)
    rw [Nat.add_sub_cancel_left] at this
    exact this
   have l1 : (s.take 32).length = 32:=by simp; omega
   have t1:=two_at (n:=32) (l:=s) (by omega) hb
   rw [if_pos (by omega),a,word_run' _ l1,Option.bind_some,if_pos (by omega),if_pos (by omega),if_pos (by omega),if_pos (by omega),b,t1,bW hb 34]
   rfl
theorem keys_loop {α : Type} (Xt : Int->List Int->List Int->List Int->Int->List Int->Int->Int->List Int->Int->Int->List Int->List Int->List Int->Int->List Int->Int->Int->List Int->Int->List (List Int)->Option α) (K : Nat) (s : List Int) (N : Nat) (hN : N <= 255) (hs : s.length = 5 + 20 * N)
  (a0 : Int) (a1 a2 a3 : List Int) (a4 : Int) (a5 : List Int) (a6 a7 : Int) (a8 : List Int) (a10 : Int) (b0 : Int) (b1 b2 b3 : List Int) (b4 : Int) (b5 : List Int) (b6 b7 : Int) (b8 : List Int) (b10 : Int) : ∀ (m i n : Nat) (c : List (List Int)),m < n->i + m = N->c.length = i ->
  load_turn__get.l0 K Xt n s (N : Int) (i : Int) a0 a1 a2 a3 a4 a5 a6 a7 a8 a10 b0 b1 b2 b3 b4 b5 b6 b7 b8 b10 c = Xt a0 a1 a2 a3 a4 a5 a6 a7 a8 a10 b0 b1 b2 b3 b4 b5 b6 b7 b8 b10 (c ++ keysOf m (s.drop (5 + 20 * i)))
 | m,i,0,c,h,_,_=>by omega
 | 0,i,n + 1,c,h,hi,hc=>by
  simp only [load_turn__get.l0,load_turn__get.l0s]
  rw [if_neg (by rw [decide_eq_true_eq]; omega)]
  simp [keysOf]
 | m + 1,i,n + 1,c,h,hi,hc=>by
  simp only [load_turn__get.l0,load_turn__get.l0s]
  have e1 : IntKind.i64.wrap (5 + IntKind.i64.wrap (20 * (i : Int))) = ((5 + 20 * i : Nat) : Int):=by
   rw [wrap_i64 (x:=20 * (i : Int)) (by omega) (by omega),wrap_i64 (by omega) (by omega)]; omega
  rw [if_pos (by rw [decide_eq_true_eq]; omega),e1,if_pos (by omega),if_pos (fitB_small (by omega) (by omega)),i64_succ (by omega),cutE]
  refine (keys_loop Xt K s N hN hs a0 a1 a2 a3 a4 a5 a6 a7 a8 a10 b0 b1 b2 b3 b4 b5 b6 b7 b8 b10 m (i + 1) n _ (by omega) (by omega) (by simp; omega)).trans ?_
  rw [List.append_assoc]
  simp only [keysOf,List.singleton_append,List.drop_drop]
  rw [show 5 + 20 * i + 20 = 5 + 20 * (i + 1) by omega]
theorem or_small (k : Nat) {a c : Int} (ha : 0 <= a) (hc : 0 <= c /\ c < 2 ^ k) (hk : k <= 62) (h : a * 2 ^ k + c < 9223372036854775808) : bor .i64 (a * 2 ^ k) c = a * 2 ^ k + c:=by
 obtain ⟨A,rfl⟩:=Int.eq_ofNat_of_zero_le ha
 obtain ⟨X,rfl⟩:=Int.eq_ofNat_of_zero_le hc.1
 have e : (A : Int) * 2 ^ k = ((2 ^ k * A : Nat) : Int):=by push_cast; rw [Int.mul_comm]
 have hX : X < 2 ^ k:=by
  have:=hc.2
  rw [show ((2 : Int) ^ k) = ((2 ^ k : Nat) : Int) by push_cast; rfl] at this
  omega
 rw [e] at h ⊢
 unfold bor
 have h1 : (BitVec.ofInt IntKind.i64.bits ((2 ^ k * A : Nat) : Int)).toNat = 2 ^ k * A:=by
  rw [BitVec.toNat_ofInt,show (2 ^ IntKind.i64.bits : Nat) = 18446744073709551616 from rfl]; omega
 have h2 : (BitVec.ofInt IntKind.i64.bits ((X : Nat) : Int)).toNat = X:=by
  rw [BitVec.toNat_ofInt,show (2 ^ IntKind.i64.bits : Nat) = 18446744073709551616 from rfl]; omega
 rw [BitVec.toNat_or,h1,h2,<- Nat.two_pow_add_eq_or_of_lt hX]
 rw [wrap_i64 (by omega) (by omega)]
 push_cast; rfl
theorem shl_small (k : Nat) {b : Int} (hb : 0 <= b /\ b < 256) (hk : k <= 48) : shlI .i64 b (k : Int) = b * 2 ^ k:=by
 unfold shlI
 rw [show min ((k : Nat) : Int).toNat IntKind.i64.bits = k by simp [IntKind.bits]; omega]
 have h1 : (2 : Nat) ^ k <= 2 ^ 48:=Nat.pow_le_pow_right (by omega) hk
 obtain ⟨B,rfl⟩:=Int.eq_ofNat_of_zero_le hb.1
 have h2 : B * 2 ^ k <= 256 * 2 ^ 48:=Nat.mul_le_mul (by omega) h1
 rw [show (B : Int) * 2 ^ k = ((B * 2 ^ k : Nat) : Int) by push_cast; rfl]
 exact wrap_i64 (by omega) (by omega)
theorem four_at {l : List Int} (h : 4 <= l.length) (hb : Byts l) : bor .i64 (bor .i64 (bor .i64 (shlI .i64 (IntKind.i64.wrap (l.getD 0 0)) 24) (shlI .i64 (IntKind.i64.wrap (l.getD 1 0)) 16)) (shlI .i64 (IntKind.i64.wrap (l.getD 2 0)) 8)) (IntKind.i64.wrap (l.getD 3 0)) = numW (l.take 4):=by
 have e : l.take 4 = [l.getD 0 0,l.getD 1 0,l.getD 2 0,l.getD 3 0]:=by
  obtain ⟨a,t,rfl,h1⟩:=Frm.cons_of_len (n:=l.length - 1) (l:=l) (by omega)
  obtain ⟨b,t2,rfl,h2⟩:=Frm.cons_of_len (n:=t.length - 1) (l:=t) (by simp at h; omega)
  obtain ⟨c,t3,rfl,h3⟩:=Frm.cons_of_len (n:=t2.length - 1) (l:=t2) (by simp at h; omega)
  obtain ⟨d,t4,rfl,h4⟩:=Frm.cons_of_len (n:=t3.length - 1) (l:=t3) (by simp at h; omega)
  rfl
 have h0:=byteAt hb 0
 have h1:=byteAt hb 1
 have h2:=byteAt hb 2
 have h3:=byteAt hb 3
 rw [e,bW hb 0,bW hb 1,bW hb 2,bW hb 3]
 generalize l.getD 0 0 = b0 at *
 generalize l.getD 1 0 = b1 at *
 generalize l.getD 2 0 = b2 at *
 generalize l.getD 3 0 = b3 at *
 have s0:=shl_small 24 h0 (by omega)
 have s1:=shl_small 16 h1 (by omega)
 have s2:=shl_small 8 h2 (by omega)
 rw [show ((24 : Nat) : Int) = 24 from rfl,show (2 : Int) ^ 24 = 16777216 from rfl] at s0
 rw [show ((16 : Nat) : Int) = 16 from rfl,show (2 : Int) ^ 16 = 65536 from rfl] at s1
 rw [show ((8 : Nat) : Int) = 8 from rfl,show (2 : Int) ^ 8 = 256 from rfl] at s2
 rw [s0,s1,s2]
 have o1:=or_small 24 (a:=b0) (c:=b1 * 65536) (by omega) ⟨by omega,by rw [show (2 : Int) ^ 24 = 16777216 from rfl]; omega⟩ (by omega) (by rw [show (2 : Int) ^ 24 = 16777216 from rfl]; omega)
 rw [show (2 : Int) ^ 24 = 16777216 from rfl] at o1
 have o2:=or_small 16 (a:=b0 * 256 + b1) (c:=b2 * 256) (by omega) ⟨by omega,by rw [show (2 : Int) ^ 16 = 65536 from rfl]; omega⟩ (by omega) (by rw [show (2 : Int) ^ 16 = 65536 from rfl]; omega)
 rw [show (2 : Int) ^ 16 = 65536 from rfl] at o2
 have o3:=or_small 8 (a:=(b0 * 256 + b1) * 256 + b2) (c:=b3) (by omega) ⟨by omega,by rw [show (2 : Int) ^ 8 = 256 from rfl]; omega⟩ (by omega) (by rw [show (2 : Int) ^ 8 = 256 from rfl]; omega)
 rw [show (2 : Int) ^ 8 = 256 from rfl] at o3
 rw [o1,show b0 * 16777216 + b1 * 65536 = (b0 * 256 + b1) * 65536 by omega,o2,show (b0 * 256 + b1) * 65536 + b2 * 256 = ((b0 * 256 + b1) * 256 + b2) * 256 by omega,o3]
 unfold numW numI
 simp only [List.foldl]
 rw [wrap_i64 (by omega) (by omega)]
 omega
theorem get_K (u : Unit) (s : List Int) (hb : Byts s) : load_turn__get.run u s = some (if s.length < 5 \/ s.length < 5 + 20 * (s.getD 4 0).toNat then (nilLoad,4,()) else if s.length > 5 + 20 * (s.getD 4 0).toNat then (nilLoad,3,()) else (rdK 0 s,0,())):=by
 unfold load_turn__get.run load_turn__get.top
 have h4:=byteAt hb 4
 obtain ⟨N,hN⟩:=Int.eq_ofNat_of_zero_le h4.1
 have e0 : IntKind.i64.wrap (5 + IntKind.i64.wrap (20 * IntKind.i64.wrap (s.getD 4 0))) = ((5 + 20 * N : Nat) : Int):=by
  rw [bW hb 4,hN,wrap_i64 (x:=20 * (N : Int)) (by omega) (by omega),wrap_i64 (by omega) (by omega)]; omega
 have eN : (s.getD 4 0).toNat = N:=by rw [hN]; rfl
 rw [e0,eN]
 by_cases h5 : s.length < 5
 ·rw [show decide ((s.length : Int) < 5) = true by rw [decide_eq_true_eq]; omega]
  rw [show decide (0 <= (4 : Int) /\ (4 : Int) < (s.length : Int)) = false by rw [decide_eq_false_iff_not]; omega]
  rw [if_pos (show s.length < 5 \/ s.length < 5 + 20 * N from .inl h5)]
  rfl
 ·rw [show decide ((s.length : Int) < 5) = false by rw [decide_eq_false_iff_not]; omega]
  rw [show decide (0 <= (4 : Int) /\ (4 : Int) < (s.length : Int)) = true by rw [decide_eq_true_eq]; omega]
  simp only [Bool.true_or,cond_true,cond_false]
  by_cases h6 : s.length < 5 + 20 * N
  ·rw [if_pos (by rw [decide_eq_true_eq]; omega),if_pos (show s.length < 5 \/ s.length < 5 + 20 * N from .inr h6)]
  ·rw [if_neg (by rw [decide_eq_true_eq]; omega),if_neg (show ¬ (s.length < 5 \/ s.length < 5 + 20 * N) by omega),if_pos (by omega),if_pos (by omega),if_pos (by omega),if_pos (by omega),if_pos (by omega)]
   by_cases h7 : s.length > 5 + 20 * N
   ·rw [if_pos (by rw [decide_eq_true_eq]; omega),if_pos h7]
   ·rw [if_neg (by rw [decide_eq_true_eq]; omega),if_neg h7,four_at (by omega) hb,bW hb 4,hN]
    refine (keys_loop _ fuel s N (by omega) (by omega) _ _ _ _ _ _ _ _ _ _ _ _ _ _ _ _ _ _ _ _ N 0 fuel [] (by rw [fuel_big]; omega) (by omega) rfl).trans ?_
    unfold load_turn__get.j0 rdK
    rw [eN,List.nil_append]
end Go.Bx
namespace Go.Bx
open Go
set_option linter.unusedSimpArgs false
set_option linter.unusedVariables false
set_option maxRecDepth 100000
def finL (x : LoadD) : Option (LoadD × Int × Unit):=(basculeref_LoadFault.run x).bind fun e=>some (if e = 0 then (x,0,()) else (nilLoad,3,()))
theorem j1_fin (a0 : Int) (a1 a2 a3 : List Int) (a4 : Int) (a5 : List Int) (a6 a7 : Int) (a8 : List Int) (a10 : Int) (b0 : Int) (b1 b2 b3 : List Int) (b4 : Int) (b5 : List Int) (b6 b7 : Int) (b8 b9 : List Int) (b10 : Int) (c : List (List Int)) :
  basculeref_LoadOf.j1 (fun a b=>some (b,a,())) a0 a1 a2 a3 a4 a5 a6 a7 a8 a10 b0 b1 b2 b3 b4 b5 b6 b7 b8 b9 b10 c = finL (b0,b1,b2,b3,b4,b5,b6,b7,b8,b9,b10,c,()):=by
 unfold basculeref_LoadOf.j1 finL
 congr 1
 funext e
 by_cases h : e = 0
 ·rw [if_neg (by simpa using h),if_pos h]
 ·rw [if_pos (by simpa using h),if_neg h]
def rd1 (kd : Int) (s : List Int) : Option (LoadD × Int × Unit) :=
 if kd = 1 \/ kd = 3 then (if s.length < 132 then some (nilLoad,4,()) else finL (rdT kd s))
 else if kd = 2 then (if s.length < 67 then some (nilLoad,4,()) else if s.length > 67 then some (nilLoad,3,()) else finL (rdM kd s))
 else if kd = 4 then (if s.length < 5 \/ s.length < 5 + 20 * (s.getD 4 0).toNat then some (nilLoad,4,()) else if s.length > 5 + 20 * (s.getD 4 0).toNat then some (nilLoad,3,()) else finL (rdK kd s))
 else some (nilLoad,2,())
theorem name_loop {α : Type} (Xt : List Int->List Int->Int->List Int->List Int->List Int->Int->List Int->Int->Int->List Int->Int->Int->List Int->List Int->List Int->Int->List Int->Int->Int->List Int->Int->Option α) (K : Nat) (s w : List Int) (hw : w.length <= 32) (a0 : Int) (a1 a2 a3 : List Int) (a4 : Int) (a5 : List Int) (a6 a7 : Int) (a8 : List Int) (a10 : Int) (b0 : Int) (b1 b2 b3 : List Int) (b4 : Int) (b5 : List Int) (b6 b7 : Int) (b8 : List Int) (b10 : Int) : ∀ (j n : Nat),j < n->j <= w.length ->
  basculeref_LoadOf.l0 K Xt n s (w.take j) a0 a1 a2 a3 a4 a5 a6 a7 a8 a10 b0 b1 b2 b3 b4 b5 b6 b7 b8 b10 = Xt s (w.take (trimN w j)) a0 a1 a2 a3 a4 a5 a6 a7 a8 a10 b0 b1 b2 b3 b4 b5 b6 b7 b8 b10
 | j,0,h,_=>by omega
 | 0,n + 1,h,_=>by
  simp only [basculeref_LoadOf.l0,basculeref_LoadOf.l0s,List.take_zero]
  rfl
 | j + 1,n + 1,h,hj=>by
  simp only [basculeref_LoadOf.l0,basculeref_LoadOf.l0s]
  have hlen : (w.take (j + 1)).length = j + 1:=by simp; omega
  have e0 : IntKind.i64.wrap (((w.take (j + 1)).length : Int) - 1) = (j : Int):=by rw [hlen,wrap_i64 (by omega) (by omega)]; omega
  have e1 : decide (0 <= (j : Int) /\ (j : Int) < ((w.take (j + 1)).length : Int)) = true:=by rw [decide_eq_true_eq]; omega
  have e2 : beqD .str (w.take (j + 1)) [] = false:=by
   rw [str_nil,decide_eq_false_iff_not]; omega
  have e4 : (w.take (j + 1)).getD j 0 = w.getD j 0:=by simp [List.getD,List.getElem?_take]
  have e5 : cutL (w.take (j + 1)) 0 (j : Int) = w.take j:=by
   have:=cutN (w.take (j + 1)) 0 j
   rw [show ((0 : Nat) : Int) = 0 from rfl] at this
   rw [this,List.drop_zero,Nat.sub_zero,List.take_take,Nat.min_eq_left (by omega)]
  rw [e0,e1,Bool.true_or,cond_true,e2,Bool.not_false,cond_true,toNat_nat,e4]
  unfold trimN
  by_cases hz : w.getD j 0 = 0
  ·rw [if_pos (by simpa using hz),if_pos hz,if_pos (by omega),e5]
   exact name_loop Xt K s w hw a0 a1 a2 a3 a4 a5 a6 a7 a8 a10 b0 b1 b2 b3 b4 b5 b6 b7 b8 b10 j n (by omega) (by omega)
  ·rw [if_neg (by simpa using hz),if_neg hz]
theorem keysR_loop {α : Type} (Xt : Int->List Int->List Int->List Int->Int->List Int->Int->Int->List Int->Int->Int->List Int->List Int->List Int->Int->List Int->Int->Int->List Int->Int->List (List Int)->Option α) (K : Nat)
  (a0 : Int) (a1 a2 a3 : List Int) (a4 : Int) (a5 : List Int) (a6 a7 : Int) (a8 : List Int) (a10 : Int) (b0 : Int) (b1 b2 b3 : List Int) (b4 : Int) (b5 : List Int) (b6 b7 : Int) (b8 : List Int) (b10 : Int) : ∀ (m n : Nat) (l : List Int) (c : List (List Int)),m < n->l.length = 20 * m->c.length + m <= 255 ->
  basculeref_LoadOf.l1 K Xt n l a0 a1 a2 a3 a4 a5 a6 a7 a8 a10 b0 b1 b2 b3 b4 b5 b6 b7 b8 b10 c = Xt a0 a1 a2 a3 a4 a5 a6 a7 a8 a10 b0 b1 b2 b3 b4 b5 b6 b7 b8 b10 (c ++ keysOf m l)
 | m,0,l,c,h,_,_=>by omega
 | 0,n + 1,l,c,h,hl,hc=>by
  simp only [basculeref_LoadOf.l1,basculeref_LoadOf.l1s]
  rw [str_nil,decide_eq_true (show l.length = 0 by omega),if_neg (by decide)]
  simp [keysOf]
 | m + 1,n + 1,l,c,h,hl,hc=>by
  simp only [basculeref_LoadOf.l1,basculeref_LoadOf.l1s]
  rw [str_nil,decide_eq_false (show ¬ l.length = 0 by omega),if_pos (by decide),if_pos (fitB_small (by omega) (by omega)),if_pos (by omega)]
  have e5 : cutL l 20 (l.length : Int) = l.drop 20:=cutE l 20
  rw [e5]
  refine (keysR_loop Xt K a0 a1 a2 a3 a4 a5 a6 a7 a8 a10 b0 b1 b2 b3 b4 b5 b6 b7 b8 b10 m n _ _ (by omega) (by simp; omega) (by simp; omega)).trans ?_
  rw [List.append_assoc]
  simp only [keysOf,List.singleton_append]
theorem of_read (x : List Int) (hb : Byts x) (hl : x.length <= 140737488351232) : basculeref_LoadOf.run x = if x.length = 0 then some (nilLoad,4,()) else rd1 (x.getD 0 0) (x.drop 1):=by
 unfold basculeref_LoadOf.run basculeref_LoadOf.top
 rw [str_nil]
 by_cases h0 : x.length = 0
 ·rw [decide_eq_true h0,if_pos rfl,if_pos h0]
 ·rw [decide_eq_false h0,if_neg (by decide),if_neg h0,if_pos (by omega),if_pos (by omega)]
  have e1 : cutL x 1 (x.length : Int) = x.drop 1:=cutE x 1
  rw [e1,bW hb 0]
  have hk:=byteAt hb 0
  have hbs:=dropB hb 1
  have hls : (x.drop 1).length <= 140737488351232:=by simp; omega
  generalize x.getD 0 0 = kd at *
  generalize x.drop 1 = s at *
  have hj : (if (kd == 1) = true then
    basculeref_LoadOf.j0 fuel (fun b a=>some (a,b,())) s kd (kd == 1) 0 [0,0,0,0] [0,0,0,0] (List.replicate 32 0) 0 (List.replicate 32 0) 0 0 [] 0 kd [0,0,0,0] [0,0,0,0] (List.replicate 32 0) 0 (List.replicate 32 0) 0 0 [] 0
   else basculeref_LoadOf.j0 fuel (fun b a=>some (a,b,())) s kd (kd == 3) 0 [0,0,0,0] [0,0,0,0] (List.replicate 32 0) 0 (List.replicate 32 0) 0 0 [] 0 kd [0,0,0,0] [0,0,0,0] (List.replicate 32 0) 0 (List.replicate 32 0) 0 0 [] 0) =
    basculeref_LoadOf.j0 fuel (fun b a=>some (a,b,())) s kd (decide (kd = 1 \/ kd = 3)) 0 [0,0,0,0] [0,0,0,0] (List.replicate 32 0) 0 (List.replicate 32 0) 0 0 [] 0 kd [0,0,0,0] [0,0,0,0] (List.replicate 32 0) 0 (List.replicate 32 0) 0 0 [] 0:=by
   by_cases k1 : kd = 1
   ·rw [if_pos (by simpa using k1),decide_eq_true (Or.inl k1),show (kd == 1) = true by simpa using k1]
   ·rw [if_neg (by simpa using k1)]
    by_cases k3 : kd = 3
    ·rw [decide_eq_true (Or.inr k3),show (kd == 3) = true by simpa using k3]
    ·rw [decide_eq_false (show ¬ (kd = 1 \/ kd = 3) by omega),show (kd == 3) = false by simpa using k3]
  refine hj.trans ?_
  unfold basculeref_LoadOf.j0 rd1
  by_cases k13 : kd = 1 \/ kd = 3
  ·rw [decide_eq_true k13,if_pos rfl,if_pos k13]
   by_cases h : s.length < 132
   ·rw [if_pos (by rw [decide_eq_true_eq]; omega),if_pos h]
   ·have c : cutL s 0 32 = s.take 32:=cutN s 0 32
    have a : cutL s 32 64 = (s.drop 32).take 32:=cutN s 32 64
    have e : cutL s 66 98 = (s.drop 66).take 32:=cutN s 66 98
    have f : cutL s 100 132 = (s.drop 100).take 32:=cutN s 100 132
    have d : cutL s 132 (s.length : Int) = s.drop 132:=cutE s 132
    have g : cutL s 64 66 = (s.drop 64).take 2:=cutN s 64 66
    have i : cutL s 98 100 = (s.drop 98).take 2:=cutN s 98 100
    have l1 : (s.take 32).length = 32:=by simp; omega
    have l2 : ((s.drop 32).take 32).length = 32:=by simp; omega
    have l3 : ((s.drop 66).take 32).length = 32:=by simp; omega
    have l4 : ((s.drop 100).take 32).length = 32:=by simp; omega
    rw [if_neg (by rw [decide_eq_true_eq]; omega),if_neg h,if_pos (by omega),c,wideOf_wid _ l1 (takeB hbs 32),Option.bind_some,if_pos (by omega),a,word_run _ (by omega),pad_full _ l2,Option.bind_some,
     if_pos (by omega),g,refnum_run _ (by simp; omega) (takeB (dropB hbs 64) 2),Option.bind_some,if_pos (by omega),e,word_run _ (by omega),pad_full _ l3,Option.bind_some,
     if_pos (by omega),i,refnum_run _ (by simp; omega) (takeB (dropB hbs 98) 2),Option.bind_some,if_pos (by omega),f,wideOf_wid _ l4 (takeB (dropB hbs 100) 32),Option.bind_some,if_pos (by omega),d,j1_fin]
    rfl
  ·rw [decide_eq_false k13,if_neg (by decide),if_neg k13]
   by_cases k2 : kd = 2
   ·rw [if_pos (by simpa using k2),if_pos k2]
    by_cases h : s.length < 67
    ·rw [if_pos (by rw [decide_eq_true_eq]; omega),if_pos h]
    ·rw [if_neg (by rw [decide_eq_true_eq]; omega),if_neg h]
     by_cases h2 : s.length > 67
     ·rw [if_pos (by rw [decide_eq_true_eq]; omega),if_pos h2]
     ·have j : cutL s 35 (s.length : Int) = s.drop 35:=cutE s 35
      have hw : (s.drop 35).length = 32:=by simp; omega
      have ht : (s.drop 35).take 32 = s.drop 35:=List.take_of_length_le (by omega)
      have c : cutL s 0 32 = s.take 32:=cutN s 0 32
      have a : cutL s 32 34 = (s.drop 32).take 2:=cutN s 32 34
      have l1 : (s.take 32).length = 32:=by simp; omega
      rw [if_neg (by rw [decide_eq_true_eq]; omega),if_neg h2,if_pos (by omega),j]
      have hn:=name_loop (fun k l m n o p q r t u v w y z A B D E G H I J=>basculeref_LoadOf.j2 (fun b a=>some (a,b,())) k l m n o p q r t u v w y z A B D E G H I J) fuel s (s.drop 35) (by omega)
       0 [0,0,0,0] [0,0,0,0] (List.replicate 32 0) 0 (List.replicate 32 0) 0 0 [] 0 kd [0,0,0,0] [0,0,0,0] (List.replicate 32 0) 0 (List.replicate 32 0) 0 0 [] 0 32 fuel (by rw [fuel_big]; omega) (by omega)
      rw [ht] at hn
      refine hn.trans ?_
      unfold basculeref_LoadOf.j2
      rw [if_pos (by omega),c,word_run _ (by omega),pad_full _ l1,Option.bind_some,if_pos (by omega),a,refnum_run _ (by simp; omega) (takeB (dropB hbs 32) 2),Option.bind_some,if_pos (by omega),j1_fin,bW hbs 34]
      rfl
   ·rw [if_neg (by simpa using k2),if_neg k2]
    by_cases k4 : kd = 4
    ·rw [if_pos (by simpa using k4),if_pos k4]
     have h4:=byteAt hbs 4
     obtain ⟨N,hN⟩:=Int.eq_ofNat_of_zero_le h4.1
     have e0 : IntKind.i64.wrap (5 + IntKind.i64.wrap (20 * IntKind.i64.wrap (s.getD 4 0))) = ((5 + 20 * N : Nat) : Int):=by
      rw [bW hbs 4,hN,wrap_i64 (x:=20 * (N : Int)) (by omega) (by omega),wrap_i64 (by omega) (by omega)]; omega
     have eN : (s.getD 4 0).toNat = N:=by rw [hN]; rfl
     rw [e0,eN]
     by_cases h5 : s.length < 5
     ·rw [show decide ((s.length : Int) < 5) = true by rw [decide_eq_true_eq]; omega]
      rw [show decide (0 <= (4 : Int) /\ (4 : Int) < (s.length : Int)) = false by rw [decide_eq_false_iff_not]; omega]
      rw [if_pos (show s.length < 5 \/ s.length < 5 + 20 * N from .inl h5)]
      rfl
     ·rw [show decide ((s.length : Int) < 5) = false by rw [decide_eq_false_iff_not]; omega]
      rw [show decide (0 <= (4 : Int) /\ (4 : Int) < (s.length : Int)) = true by rw [decide_eq_true_eq]; omega]
      simp only [Bool.true_or,cond_true,cond_false]
      by_cases h6 : s.length < 5 + 20 * N
      ·rw [if_pos (by rw [decide_eq_true_eq]; omega),if_pos (show s.length < 5 \/ s.length < 5 + 20 * N from .inr h6)]
      ·rw [if_neg (by rw [decide_eq_true_eq]; omega),if_neg (show ¬ (s.length < 5 \/ s.length < 5 + 20 * N) by omega),if_pos (by omega)]
       by_cases h7 : s.length > 5 + 20 * N
       ·rw [if_pos (by rw [decide_eq_true_eq]; omega),if_pos h7]
       ·have c : cutL s 0 4 = s.take 4:=cutN s 0 4
        have d : cutL s 5 (s.length : Int) = s.drop 5:=cutE s 5
        rw [if_neg (by rw [decide_eq_true_eq]; omega),if_neg h7,if_pos (by omega),c,refnum_run _ (by simp; omega) (takeB hbs 4),Option.bind_some,if_pos (by omega),d]
        refine (keysR_loop _ fuel _ _ _ _ _ _ _ _ _ _ _ _ _ _ _ _ _ _ _ _ N fuel (s.drop 5) [] (by rw [fuel_big]; omega) (by simp; omega) (by simp; omega)).trans ?_
        rw [j1_fin,List.nil_append]
        unfold rdK
        rw [eN]
    ·rw [if_neg (by simpa using k4),if_neg k4]
theorem fin_same (x : LoadD) (ha : x.2.1.length = 4 /\ digs B64 x.2.1) (hf : x.2.2.1.length = 4 /\ digs B64 x.2.2.1) (hs : x.2.2.2.2.2.2.2.2.1.length <= 1000) (hk : x.2.2.2.2.2.2.2.2.2.2.2.1.length <= 1000) :
  ∃ c,load_Check.run x = some c /\ basculeref_LoadFault.run x = some c:=by
 obtain ⟨kd,am,fe,tk,ho,to,tc,de,sy,da,ix,ks,u⟩:=x
 exact checks_load kd am fe tk ho to tc de sy da ix ks ha hf (by simp only at hs; omega) (by simp only at hk; omega)
theorem dz4' : ([0,0,0,0] : List Int).length = 4 /\ digs B64 [0,0,0,0]:=⟨rfl,digs_cons.2 ⟨by decide,digs_cons.2 ⟨by decide,digs_cons.2 ⟨by decide,digs_cons.2 ⟨by decide,digs_nil⟩⟩⟩⟩⟩
theorem step (x : LoadD) (c : Int) (h : load_Check.run x = some c) (g : basculeref_LoadFault.run x = some c) :
  ((load_Check.run x).bind fun y=>if (y != 0) = true then some (nilLoad,(3 : Int),()) else some (x,0,())) = finL x:=by
 unfold finL
 rw [h,g,Option.bind_some,Option.bind_some]
 by_cases hc : c = 0
 ·rw [if_neg (by simpa using hc),if_pos hc]
 ·rw [if_pos (by simpa using hc),if_neg hc]
theorem rdT_kd (kd : Int) (s : List Int) : (kd,(rdT 0 s).2) = rdT kd s:=by simp only [rdT]
theorem rdM_kd (kd : Int) (s : List Int) : (kd,(rdM 0 s).2) = rdM kd s:=by simp only [rdM]
theorem rdK_kd (kd : Int) (s : List Int) : (kd,(rdK 0 s).2) = rdK kd s:=by simp only [rdK]
theorem decode_read (x : List Int) (hb : Byts x) (hl : x.length <= 140737488351232) : load_Decode.run x = if x.length = 0 then some (nilLoad,4,()) else rd1 (x.getD 0 0) (x.drop 1):=by
 unfold load_Decode.run load_Decode.top
 by_cases h0 : x.length = 0
 ·rw [if_pos (by simp [h0]),if_pos h0]
 ·rw [if_neg (show ¬ (((x.length : Int) == 0) = true) by rw [beq_iff_eq]; omega),if_neg h0,if_pos (by omega)]
  have e1 : cutL x 1 (x.length : Int) = x.drop 1:=cutE x 1
  rw [e1,bW hb 0]
  have hk:=byteAt hb 0
  have hbs:=dropB hb 1
  have hls : (x.drop 1).length <= 140737488351232:=by simp; omega
  have hx1 : (0 : Int) <= 1 /\ (1 : Int) <= (x.length : Int) /\ (x.length : Int) <= (x.length : Int):=by omega
  have hx0 : (0 : Int) <= 0 /\ (0 : Int) < (x.length : Int):=by omega
  generalize x.getD 0 0 = kd at *
  generalize x.drop 1 = s at *
  unfold rd1
  by_cases k13 : kd = 1 \/ kd = 3
  ·rw [kind_transfer kd k13,Option.bind_some,Sum.elim_inl,if_neg (by simp),if_pos hx1,if_pos k13,get_T _ s hbs hls,Option.bind_some]
   by_cases h : s.length < 132
   ·rw [if_pos h,if_pos h]; rfl
   ·rw [if_neg h,if_neg h]
    simp only [show ((0 : Int) != 0) = false from rfl,Bool.false_eq_true,if_false]
    rw [if_pos hx0]
    have l1 : (s.take 32).length = 32:=by simp; omega
    have l4 : ((s.drop 100).take 32).length = 32:=by simp; omega
    obtain ⟨c,g1,g2⟩:=fin_same (rdT kd s) (by simp only [rdT]; exact wid_digs _ l1 (takeB hbs 32)) (by simp only [rdT]; exact wid_digs _ l4 (takeB (dropB hbs 100) 32)) (by simp [rdT]) (by simp [rdT])
    show ((load_Check.run (kd,(rdT 0 s).2)).bind fun y=>if (y != 0) = true then some (nilLoad,(3 : Int),()) else some ((kd,(rdT 0 s).2),0,())) = finL (rdT kd s)
    rw [rdT_kd]
    exact step (rdT kd s) c g1 g2
  ·rw [if_neg k13]
   by_cases k2 : kd = 2
   ·subst k2
    rw [kind_meta,Option.bind_some,Sum.elim_inr,Sum.elim_inl,if_neg (by simp),if_pos hx1,if_pos rfl,get_M _ s hbs,Option.bind_some]
    by_cases h : s.length < 67
    ·rw [if_pos h,if_pos h]; rfl
    ·rw [if_neg h,if_neg h]
     by_cases h2 : s.length > 67
     ·rw [if_pos h2,if_pos h2]; rfl
     ·rw [if_neg h2,if_neg h2]
      simp only [show ((0 : Int) != 0) = false from rfl,Bool.false_eq_true,if_false]
      rw [if_pos hx0]
      obtain ⟨c,g1,g2⟩:=fin_same (rdM 2 s) (by simp only [rdM]; exact dz4') (by simp only [rdM]; exact dz4') (by simp [rdM]; omega) (by simp [rdM])
      show ((load_Check.run (2,(rdM 0 s).2)).bind fun y=>if (y != 0) = true then some (nilLoad,(3 : Int),()) else some ((2,(rdM 0 s).2),0,())) = finL (rdM 2 s)
      rw [rdM_kd]
      exact step (rdM 2 s) c g1 g2
   ·rw [if_neg k2]
    by_cases k4 : kd = 4
    ·subst k4
     rw [kind_turn,Option.bind_some,Sum.elim_inr,Sum.elim_inr,Sum.elim_inl,if_neg (by simp),if_pos hx1,if_pos rfl,get_K _ s hbs,Option.bind_some]
     have h4:=byteAt hbs 4
     by_cases h : s.length < 5 \/ s.length < 5 + 20 * (s.getD 4 0).toNat
     ·rw [if_pos h,if_pos h]; rfl
     ·rw [if_neg h,if_neg h]
      by_cases h2 : s.length > 5 + 20 * (s.getD 4 0).toNat
      ·rw [if_pos h2,if_pos h2]; rfl
      ·rw [if_neg h2,if_neg h2]
       simp only [show ((0 : Int) != 0) = false from rfl,Bool.false_eq_true,if_false]
       rw [if_pos hx0]
       obtain ⟨c,g1,g2⟩:=fin_same (rdK 4 s) (by simp only [rdK]; exact dz4') (by simp only [rdK]; exact dz4') (by simp [rdK]) (by simp only [rdK,keysOf_len]; omega)
       show ((load_Check.run (4,(rdK 0 s).2)).bind fun y=>if (y != 0) = true then some (nilLoad,(3 : Int),()) else some ((4,(rdK 0 s).2),0,())) = finL (rdK 4 s)
       rw [rdK_kd]
       exact step (rdK 4 s) c g1 g2
    ·rw [if_neg k4,kind_none kd (by omega) k2 (by omega) k4,Option.bind_some,Sum.elim_inr,Sum.elim_inr,Sum.elim_inr,Sum.elim_inl]
     rfl
end Go.Bx
namespace Go.Bx
open Go
set_option linter.unusedSimpArgs false
set_option linter.unusedVariables false
set_option maxRecDepth 100000
def Well (r : LoadD × Int × Unit) : Prop:=r.2.1 = 0->(r.1.1 = 1 \/ r.1.1 = 2 \/ r.1.1 = 3 \/ r.1.1 = 4) /\ r.1.2.1.length = 4 /\ digs B64 r.1.2.1
theorem finL_well (x : LoadD) (c : Int) (g : basculeref_LoadFault.run x = some c) (h : (x.1 = 1 \/ x.1 = 2 \/ x.1 = 3 \/ x.1 = 4) /\ x.2.1.length = 4 /\ digs B64 x.2.1) : ∃ r,finL x = some r /\ Well r:=by
 unfold finL
 rw [g,Option.bind_some]
 by_cases hc : c = 0
 ·rw [if_pos hc]; exact ⟨_,rfl,fun _=>h⟩
 ·rw [if_neg hc]; exact ⟨_,rfl,fun e=>absurd e (by decide)⟩
theorem nil_well (e : Int) (he : e ≠ 0) : ∃ r,some (nilLoad,e,()) = some r /\ Well r:=⟨_,rfl,fun h=>absurd h he⟩
theorem rd1_well (kd : Int) (s : List Int) (hbs : Byts s) : ∃ r,rd1 kd s = some r /\ Well r:=by
 unfold rd1
 by_cases k13 : kd = 1 \/ kd = 3
 ·rw [if_pos k13]
  by_cases h : s.length < 132
  ·rw [if_pos h]; exact nil_well 4 (by decide)
  ·rw [if_neg h]
   have l1 : (s.take 32).length = 32:=by simp; omega
   have l4 : ((s.drop 100).take 32).length = 32:=by simp; omega
   have w1:=wid_digs _ l1 (takeB hbs 32)
   obtain ⟨c,g1,g2⟩:=fin_same (rdT kd s) (by simp only [rdT]; exact w1) (by simp only [rdT]; exact wid_digs _ l4 (takeB (dropB hbs 100) 32)) (by simp [rdT]) (by simp [rdT])
   exact finL_well _ c g2 (by simp only [rdT]; exact ⟨by omega,w1⟩)
 ·rw [if_neg k13]
  by_cases k2 : kd = 2
  ·rw [if_pos k2]
   by_cases h : s.length < 67
   ·rw [if_pos h]; exact nil_well 4 (by decide)
   ·rw [if_neg h]
    by_cases h2 : s.length > 67
    ·rw [if_pos h2]; exact nil_well 3 (by decide)
    ·rw [if_neg h2]
     obtain ⟨c,g1,g2⟩:=fin_same (rdM kd s) (by simp only [rdM]; exact dz4') (by simp only [rdM]; exact dz4') (by simp [rdM]; omega) (by simp [rdM])
     exact finL_well _ c g2 (by simp only [rdM]; exact ⟨by omega,dz4'⟩)
  ·rw [if_neg k2]
   by_cases k4 : kd = 4
   ·rw [if_pos k4]
    have h4:=byteAt hbs 4
    by_cases h : s.length < 5 \/ s.length < 5 + 20 * (s.getD 4 0).toNat
    ·rw [if_pos h]; exact nil_well 4 (by decide)
    ·rw [if_neg h]
     by_cases h2 : s.length > 5 + 20 * (s.getD 4 0).toNat
     ·rw [if_pos h2]; exact nil_well 3 (by decide)
     ·rw [if_neg h2]
      have hk : (rdK kd s).2.2.2.2.2.2.2.2.2.2.2.1.length <= 1000:=by simp only [rdK,keysOf_len]; omega
      obtain ⟨c,g1,g2⟩:=fin_same (rdK kd s) (by simp only [rdK]; exact dz4') (by simp only [rdK]; exact dz4') (by simp [rdK]) hk
      exact finL_well _ c g2 (by simp only [rdK]; exact ⟨by omega,dz4'⟩)
   ·rw [if_neg k4]; exact nil_well 2 (by decide)
theorem read_both (x : List Int) (hb : Byts x) (hl : x.length <= 140737488351232) : ∃ r,load_Decode.run x = some r /\ basculeref_LoadOf.run x = some r /\ Well r:=by
 rw [decode_read x hb hl,of_read x hb hl]
 by_cases h0 : x.length = 0
 ·rw [if_pos h0]; exact ⟨_,rfl,rfl,fun h=>absurd h (by decide)⟩
 ·rw [if_neg h0]
  obtain ⟨r,h1,h2⟩:=rd1_well (x.getD 0 0) (x.drop 1) (dropB hb 1)
  exact ⟨r,h1,h1,h2⟩
theorem bor3_ne {a b c : Int} (ha : 0 <= a /\ a < B64) (hb : 0 <= b /\ b < B64) (hc : 0 <= c /\ c < B64) : ((bor .u64 (bor .u64 a b) c) != 0) = true ↔ ¬ (a = 0 /\ b = 0 /\ c = 0):=by
 obtain ⟨A,rfl⟩:=Int.eq_ofNat_of_zero_le ha.1
 obtain ⟨B,rfl⟩:=Int.eq_ofNat_of_zero_le hb.1
 obtain ⟨D,rfl⟩:=Int.eq_ofNat_of_zero_le hc.1
 have hA : A < 18446744073709551616:=by have:=ha.2; unfold B64 at this; omega
 have hB : B < 18446744073709551616:=by have:=hb.2; unfold B64 at this; omega
 have hD : D < 18446744073709551616:=by have:=hc.2; unfold B64 at this; omega
 rw [bor_nat hA hB,bor_nat (Nat.or_lt_two_pow (n:=64) hA hB) hD]
 rw [bne_iff_ne]
 simp only [ne_eq,Int.natCast_eq_zero,Nat.or_eq_zero_iff,and_assoc]
theorem worth_both (b : BodyD) (hb : Byts b.2.2.2.2.2.2.1) (hl : b.2.2.2.2.2.2.1.length <= 140737488351232) : ∃ v,guard_Worth.run b = some v /\ basculeref_WorthOf.run b = some v:=by
 obtain ⟨r,h1,h2,hw⟩:=read_both _ hb hl
 unfold guard_Worth.run guard_Worth.top basculeref_WorthOf.run basculeref_WorthOf.top
 rw [h1,h2,Option.bind_some,Option.bind_some]
 obtain ⟨l,e,u⟩:=r
 obtain ⟨kd,am,rest⟩:=l
 simp only [cond_or,cond_and]
 by_cases he : e = 0
 ·subst he
  obtain ⟨k,a1,a2⟩:=hw rfl
  simp only at k a1 a2
  by_cases k13 : kd = 1 \/ kd = 3
  ·have p1 : ((0 : Int) != 0 || (kd != 1 && kd != 3)) = false:=by rcases k13 with rfl | rfl <;> decide
   have p2 : ((0 : Int) != 0 || kd == 2 || kd == 4) = false:=by rcases k13 with rfl | rfl <;> decide
   simp only [p1,p2,Bool.false_eq_true,if_false]
   have hm : digs B64 [1073741824,0,0,0]:=digs_cons.2 ⟨by decide,digs_cons.2 ⟨by decide,digs_cons.2 ⟨by decide,digs_cons.2 ⟨by decide,digs_nil⟩⟩⟩⟩
   obtain ⟨c,a,j⟩:=cmp_order a1 (m:=[1073741824,0,0,0]) rfl a2 hm
   rw [wide_cmp a1 rfl a2 hm] at a
   rw [j,Option.bind_some]
   obtain ⟨d,f,g,i,rfl⟩:=four_of_len a1
   obtain ⟨d0,a2⟩:=digs_cons.1 a2
   obtain ⟨d1,a2⟩:=digs_cons.1 a2
   obtain ⟨d2,a2⟩:=digs_cons.1 a2
   obtain ⟨d3,a2⟩:=digs_cons.1 a2
   simp only [List.getD_cons_zero,List.getD_cons_succ]
   have hv : decide (c > 0) = ((bor .u64 (bor .u64 f g) i) != 0 || decide (d > 1073741824)):=by
    cases a
    rw [Bool.eq_iff_iff,Bool.or_eq_true,bor3_ne d1 d2 d3,decide_eq_true_eq,decide_eq_true_eq]
    simp only [val,Int.mul_zero,Int.add_zero]
    unfold B64 at *
    split
    ·constructor
     ·intro h; exact absurd h (by decide)
     ·intro h; exfalso; omega
    ·split
     ·constructor
      ·intro _; omega
      ·intro _; decide
     ·constructor
      ·intro h; exact absurd h (by decide)
      ·intro h; exfalso; omega
   rw [hv]
   generalize ((bor .u64 (bor .u64 f g) i) != 0 || decide (d > 1073741824)) = q
   cases q
   ·exact ⟨_,rfl,rfl⟩
   ·exact ⟨_,rfl,rfl⟩
  ·have p1 : ((0 : Int) != 0 || (kd != 1 && kd != 3)) = true:=by rcases k with rfl | rfl | rfl | rfl <;> first | decide | (exfalso; omega)
   have p2 : ((0 : Int) != 0 || kd == 2 || kd == 4) = true:=by rcases k with rfl | rfl | rfl | rfl <;> first | decide | (exfalso; omega)
   simp only [p1,p2,if_true]
   exact ⟨_,rfl,rfl⟩
 ·have hq : (e != 0) = true:=by simpa using he
  rw [hq,if_pos (by simp),if_pos (by simp)]
  exact ⟨_,rfl,rfl⟩
end Go.Bx
namespace Go.Bx
open Go
set_option linter.unusedSimpArgs false
set_option linter.unusedVariables false
set_option maxRecDepth 100000
def hasId (id : Int) (l : List BodyD) : Bool:=l.any fun c=>idB c == id
theorem knows_in {α : Type} (Rt : Bool->Option α) (Xt : Int->List (List BodyD)->Int->Option α) (K : Nat) (id : Int) (a : List (List BodyD)) (c : Int) (l : List BodyD) (hl : l.length <= 4000000) : ∀ (R P : List BodyD) (n : Nat),R.length < n->l = P ++ R ->
  guard_knows.l1 K Rt Xt n id a c l (l.length : Int) (P.length : Int) = if hasId id R = true then Rt true else Xt id a c
 | R,P,0,h,_=>by omega
 | [],P,n + 1,h,hc=>by
  simp only [guard_knows.l1,guard_knows.l1s]
  have : l.length = P.length:=by rw [hc]; simp
  rw [if_neg (by rw [decide_eq_true_eq]; omega)]
  rfl
 | b :: R,P,n + 1,h,hc=>by
  have hlen : l.length = P.length + (R.length + 1):=by rw [hc]; simp
  have hg : l.getD P.length (0,0,0,List.replicate 32 0,0,0,[],()) = b:=by rw [hc]; exact getD_at _ _ _ _
  simp only [guard_knows.l1,guard_knows.l1s]
  rw [if_pos (by rw [decide_eq_true_eq]; omega),if_pos (by omega),toNat_nat,hg,id_run,Option.bind_some,i64_succ (by omega)]
  unfold hasId
  rw [List.any_cons]
  have ih:=knows_in Rt Xt K id a c l hl R (P ++ [b]) n (by simpa using h) (by simp [hc])
  rw [List.length_append] at ih
  cases (idB b == id) with
  | true=>rfl
  | false =>
   rw [if_neg (by decide),Bool.false_or]
   exact ih
theorem knows_run (g : GuardD) (id : Int) (hh : g.2.2.2.2.1.length <= 4000000) (hd : g.2.2.2.2.2.1.length <= 4000000) : guard_knows.run g id = some (hasId id (g.2.2.2.2.2.1 ++ g.2.2.2.2.1)):=by
 obtain ⟨K,hK⟩ : ∃ K,fuel = K + 3:=⟨fuel - 3,by rw [fuel_big]⟩
 have hKb : 4000000 < K + 3:=by rw [<- hK,fuel_big]; omega
 unfold guard_knows.run guard_knows.top
 rw [hK]
 have key : ∀ (J : Nat),4000000 < J->guard_knows.l0 J (fun a=>some a) (guard_knows.j1 fun a=>some a) (K + 3) id [g.2.2.2.2.2.1,g.2.2.2.2.1] 0 = some (hasId id (g.2.2.2.2.2.1 ++ g.2.2.2.2.1)):=by
  intro J hJ
  have k1:=knows_in (fun a=>some a) (fun b d e=>guard_knows.j0 (guard_knows.l0 J (fun a=>some a) (guard_knows.j1 fun a=>some a) (K + 2)) b d e) J id [g.2.2.2.2.2.1,g.2.2.2.2.1] 0 g.2.2.2.2.2.1 hd g.2.2.2.2.2.1 [] J (by omega) rfl
  have k2:=knows_in (fun a=>some a) (fun b d e=>guard_knows.j0 (guard_knows.l0 J (fun a=>some a) (guard_knows.j1 fun a=>some a) (K + 1)) b d e) J id [g.2.2.2.2.2.1,g.2.2.2.2.1] 1 g.2.2.2.2.1 hh g.2.2.2.2.1 [] J (by omega) rfl
  rw [show (([] : List BodyD).length : Int) = 0 from rfl] at k1 k2
  have s0 : guard_knows.l0 J (fun a=>some a) (guard_knows.j1 fun a=>some a) (K + 3) id [g.2.2.2.2.2.1,g.2.2.2.2.1] 0 = guard_knows.l1 J (fun a=>some a) (fun b d e=>guard_knows.j0 (guard_knows.l0 J (fun a=>some a) (guard_knows.j1 fun a=>some a) (K + 2)) b d e) J id [g.2.2.2.2.2.1,g.2.2.2.2.1] 0 g.2.2.2.2.2.1 (g.2.2.2.2.2.1.length : Int) 0:=by
   simp only [guard_knows.l0,guard_knows.l0s]
   rw [if_pos (by decide),if_pos (by decide)]
   rfl
  have s1 : guard_knows.l0 J (fun a=>some a) (guard_knows.j1 fun a=>some a) (K + 2) id [g.2.2.2.2.2.1,g.2.2.2.2.1] 1 = guard_knows.l1 J (fun a=>some a) (fun b d e=>guard_knows.j0 (guard_knows.l0 J (fun a=>some a) (guard_knows.j1 fun a=>some a) (K + 1)) b d e) J id [g.2.2.2.2.2.1,g.2.2.2.2.1] 1 g.2.2.2.2.1 (g.2.2.2.2.1.length : Int) 0:=by
   simp only [guard_knows.l0,guard_knows.l0s]
   rw [if_pos (by decide),if_pos (by decide)]
   rfl
  have s2 : guard_knows.l0 J (fun a=>some a) (guard_knows.j1 fun a=>some a) (K + 1) id [g.2.2.2.2.2.1,g.2.2.2.2.1] 2 = some false:=by
   simp only [guard_knows.l0,guard_knows.l0s]
   rw [if_neg (by decide)]
   rfl
  rw [s0,k1]
  unfold hasId
  rw [List.any_append]
  cases (g.2.2.2.2.2.1.any fun c=>idB c == id) with
  | true=>rfl
  | false =>
   rw [if_neg (by decide),Bool.false_or]
   unfold guard_knows.j0
   rw [show IntKind.i64.wrap (0 + 1) = 1 from rfl,s1,k2]
   unfold hasId
   cases (g.2.2.2.2.1.any fun c=>idB c == id) with
   | true=>rfl
   | false =>
    rw [if_neg (by decide)]
    unfold guard_knows.j0
    rw [show IntKind.i64.wrap (1 + 1) = 2 from rfl,s2]
 exact key (K + 3) hKb
theorem meets_in {α : Type} (Rt : Bool->GuardD->Option α) (Xt : GuardD->BodyD->List Int->List Int->List Int->Int->List Int->List Int->Int->Option α) (K : Nat) (g : GuardD) (b : BodyD) (q0 q10 q11 : List Int) (q12 : Int) (q20 q21 : List Int) (q22 : Int) (l : List BodyD) (hl : l.length <= 8000000) : ∀ (R P : List BodyD) (n : Nat),R.length < n->l = P ++ R ->
  basculeref_meets.l0 K Rt Xt n (l.length : Int) (P.length : Int) g b q0 q10 q11 q12 q20 q21 q22 l = if hasId (idB b) R = true then Rt false g else Xt g b q0 q10 q11 q12 q20 q21 q22
 | R,P,0,h,_=>by omega
 | [],P,n + 1,h,hc=>by
  simp only [basculeref_meets.l0,basculeref_meets.l0s]
  have : l.length = P.length:=by rw [hc]; simp
  rw [if_neg (by rw [decide_eq_true_eq]; omega)]
  rfl
 | c :: R,P,n + 1,h,hc=>by
  have hlen : l.length = P.length + (R.length + 1):=by rw [hc]; simp
  have hg : l.getD P.length (0,0,0,List.replicate 32 0,0,0,[],()) = c:=by rw [hc]; exact getD_at _ _ _ _
  simp only [basculeref_meets.l0,basculeref_meets.l0s]
  rw [if_pos (by rw [decide_eq_true_eq]; omega),if_pos (by omega),toNat_nat,hg,idOf_run,Option.bind_some,idOf_run,Option.bind_some,i64_succ (by omega)]
  unfold hasId
  rw [List.any_cons]
  have ih:=meets_in Rt Xt K g b q0 q10 q11 q12 q20 q21 q22 l hl R (P ++ [c]) n (by simpa using h) (by simp [hc])
  rw [List.length_append] at ih
  cases (idB c == idB b) with
  | true=>rfl
  | false =>
   rw [if_neg (by decide),Bool.false_or]
   exact ih
def mayB (g : GuardD) (b : BodyD) : Bool:=!(bodyE b != 0) && !decide (b.2.2.1 >= 3) && !decide (b.2.2.2.2.1 >= 256) && !hasId (idB b) (g.2.2.2.2.2.1 ++ g.2.2.2.2.1)
def gateG (g : GuardD) (b : BodyD) (r : GateD × Bool × Int × Unit) : GuardD :=
 (g.1,g.2.1,r.1,g.2.2.2.1,(if r.2.1 = true then g.2.2.2.2.1 else g.2.2.2.2.1 ++ [b]),(if r.2.1 = true then g.2.2.2.2.2.1 ++ [b] else g.2.2.2.2.2.1),())
theorem meets_run (g : GuardD) (b : BodyD) (hh : g.2.2.2.2.1.length <= 4000000) (hd : g.2.2.2.2.2.1.length <= 4000000) (hs : g.2.2.2.2.1.length + g.2.2.2.2.2.1.length <= 4000000) {v : Int} (hw : basculeref_WorthOf.run b = some v) :
  basculeref_meets.run g b = some (if mayB g b = true /\ (offerR g.2.2.1 (idB b) v b.2.2.1).2.2.1 = 0 then (gateG g b (offerR g.2.2.1 (idB b) v b.2.2.1),true,()) else (g,false,())):=by
 unfold basculeref_meets.run basculeref_meets.top mayB
 rw [body_fault,Option.bind_some,cond_or,cond_or]
 cases (bodyE b != 0) with
 | true=>simp
 | false =>
  cases decide (b.2.2.1 >= 3) with
  | true=>simp
  | false =>
   cases decide (b.2.2.2.2.1 >= 256) with
   | true=>simp
   | false =>
    rw [if_neg (by decide),if_pos (fitB_small (by omega) (by decide)),if_pos (fitB_small (by omega) (by decide))]
    have hin:=meets_in (fun a c=>some (c,a,())) (fun d e f i j k l m n=>basculeref_meets.j0 (fun a c=>some (c,a,())) d e f i j k l m n) fuel g b [0,0,0,0] [0,0,0] [0,0,0] 0 [0,0,0] [0,0,0] 0 (g.2.2.2.2.2.1 ++ g.2.2.2.2.1) (by rw [List.length_append]; omega) (g.2.2.2.2.2.1 ++ g.2.2.2.2.1) [] fuel (by rw [fuel_big,List.length_append]; omega) rfl
    rw [show (([] : List BodyD).length : Int) = 0 from rfl] at hin
    rw [hin]
    cases hasId (idB b) (g.2.2.2.2.2.1 ++ g.2.2.2.2.1) with
    | true=>rfl
    | false =>
     rw [if_neg (by decide)]
     unfold basculeref_meets.j0
     rw [idOf_run,Option.bind_some,hw,Option.bind_some,offered_run,Option.bind_some]
     simp only [Bool.not_false,Bool.and_self,true_and]
     unfold gateG
     generalize offerR g.2.2.1 (idB b) v b.2.2.1 = r
     by_cases he : r.2.2.1 = 0
     ·rw [if_neg (show ¬ (r.2.2.1 != 0) = true by simpa using he),if_pos he]
      cases r.2.1 with
      | true =>
       rw [if_pos rfl,if_pos (fitB_small (by omega) (by decide)),if_pos (fitB_small (by omega) (by decide))]
       rfl
      | false =>
       rw [if_neg (by decide),if_pos (fitB_small (by omega) (by decide)),if_pos (fitB_small (by omega) (by decide))]
       rfl
     ·rw [if_pos (show (r.2.2.1 != 0) = true by simpa using he),if_neg he]
end Go.Bx
namespace Go.Bx
open Go
set_option linter.unusedSimpArgs false
set_option linter.unusedVariables false
theorem bodyN_run (b : BodyD) (h : b.2.2.2.2.2.2.1.length <= 1048576) : guard_body.run b = some b:=by
 unfold guard_body.run guard_body.top
 rw [if_pos (fitB_small (by omega) (by decide))]
structure SmallN (g : GuardD) : Prop where
 p1 : g.2.1.2.2.2.1.length <= 4000000
 q1 : g.2.1.2.2.2.2.1.length <= 4000000
 p2 : g.2.2.1.2.2.2.1.length <= 4000000
 q2 : g.2.2.1.2.2.2.2.1.length <= 4000000
 l1 : g.2.2.2.1.1.length <= 4000000
 l2 : g.2.2.2.1.2.1.length <= 4000000
 h : g.2.2.2.2.1.length <= 4000000
 d : g.2.2.2.2.2.1.length <= 4000000
 hb : ∀ b ∈ g.2.2.2.2.1,b.2.2.2.2.2.2.1.length <= 1048576
 db : ∀ b ∈ g.2.2.2.2.2.1,b.2.2.2.2.2.2.1.length <= 1048576
theorem bodiesP_loop {α : Type} (Xt : List BodyD->Option α) (K : Nat) (l : List BodyD) (hl : l.length <= 4000000) (hb : ∀ b ∈ l,b.2.2.2.2.2.2.1.length <= 1048576) : ∀ (R P : List BodyD) (n : Nat),R.length < n->l = P ++ R ->
  guard_bodies.l0 K Xt n l (l.length : Int) (P.length : Int) P = Xt l
 | R,P,0,h,_=>by omega
 | [],P,n + 1,h,hc=>by
  simp only [guard_bodies.l0,guard_bodies.l0s]
  have e : l = P:=by rw [hc]; simp
  rw [<- e,if_neg (by rw [decide_eq_true_eq]; omega)]
 | b :: R,P,n + 1,h,hc=>by
  have hlen : l.length = P.length + (R.length + 1):=by rw [hc]; simp
  have hg : l.getD P.length (0,0,0,List.replicate 32 0,0,0,[],()) = b:=by rw [hc]; exact getD_at _ _ _ _
  simp only [guard_bodies.l0,guard_bodies.l0s]
  rw [if_pos (by rw [decide_eq_true_eq]; omega),if_pos (by omega),toNat_nat,hg,bodyN_run b (hb b (by rw [hc]; simp)),Option.bind_some,if_pos (fitB_small (by omega) (by decide)),i64_succ (by omega)]
  have ih:=bodiesP_loop Xt K l hl hb R (P ++ [b]) n (by simpa using h) (by simp [hc])
  rw [List.length_append] at ih
  exact ih
theorem freshP_run (g : GuardD) (s : SmallN g) : guard_fresh.run g = some g:=by
 have hq : ∀ l : List QD,l.length <= 4000000->guard_fresh_1.run l = some l:=fun l hl=>by
  unfold guard_fresh_1.run guard_fresh_1.top
  rw [if_pos (fitB_small (by omega) (by decide))]
 have hbp : ∀ l : List BodyD,l.length <= 4000000->(∀ b ∈ l,b.2.2.2.2.2.2.1.length <= 1048576)->guard_bodies.run l = some l:=fun l hl hb=>by
  unfold guard_bodies.run guard_bodies.top
  exact bodiesP_loop (fun a=>guard_bodies.j0 (fun a=>some a) a) fuel l hl hb l [] fuel (by rw [fuel_big]; omega) rfl
 unfold guard_fresh.run guard_fresh.top
 rw [hq _ s.p1,Option.bind_some,hq _ s.q1,Option.bind_some,hq _ s.p2,Option.bind_some,hq _ s.q2,Option.bind_some,if_pos (fitB_small (by have:=s.l1; omega) (by decide)),if_pos (fitB_small (by have:=s.l2; omega) (by decide)),hbp _ s.h s.hb,Option.bind_some,hbp _ s.d s.db,Option.bind_some]
end Go.Bx
namespace Go.Bx
open Go
set_option linter.unusedSimpArgs false
set_option linter.unusedVariables false
theorem met2_run (g : GuardD) (l2 l3 : List Int) (b : BodyD) {v : Int} (hw : guard_Worth.run b = some v) (hl : b.2.2.2.2.2.2.1.length <= 1048576) (hh : g.2.2.2.2.1.length <= 4000000) (hd : g.2.2.2.2.2.1.length <= 4000000) :
  ∃ (m : GuardD),guard_met_s2.run g.1 g.2.1.1 g.2.1.2.1 g.2.1.2.2.1 g.2.2.1 b g.2.1.2.2.2.1 g.2.1.2.2.2.2.1 l2 l3 g.2.2.2.2.1 g.2.2.2.2.2.1 =
   some (g.1,g.2.1.1,g.2.1.2.1,g.2.1.2.2.1,m.2.2.1,(offerR g.2.2.1 (idB b) v b.2.2.1).2.2.1,g.2.1.2.2.2.1,g.2.1.2.2.2.2.1,l2,l3,m.2.2.2.2.1,m.2.2.2.2.2.1,g.1,g.2.1.1,g.2.1.2.1,g.2.1.2.2.1,m.2.2.1,()) /\
   ((offerR g.2.2.1 (idB b) v b.2.2.1).2.2.1 = 0->m = gateG g b (offerR g.2.2.1 (idB b) v b.2.2.1)):=by
 unfold guard_met_s2.run guard_met_s2.top
 rw [id_run,Option.bind_some,hw,Option.bind_some,offer_run,Option.bind_some]
 unfold gateG
 generalize offerR g.2.2.1 (idB b) v b.2.2.1 = r
 by_cases he : r.2.2.1 = 0
 ·rw [if_neg (show ¬ (r.2.2.1 != 0) = true by simpa using he),bodyN_run b hl]
  simp only [Option.bind_some]
  unfold guard_met_s2.j0
  cases hr : r.2.1 with
  | true =>
   rw [if_pos rfl,if_pos (fitB_small (by omega) (by decide))]
   refine ⟨(g.1,g.2.1,r.1,g.2.2.2.1,g.2.2.2.2.1,g.2.2.2.2.2.1 ++ [b],()),?_,fun _=>rfl⟩
   rw [he]
  | false =>
   rw [if_neg (by decide),if_pos (fitB_small (by omega) (by decide))]
   refine ⟨(g.1,g.2.1,r.1,g.2.2.2.1,g.2.2.2.2.1 ++ [b],g.2.2.2.2.2.1,()),?_,fun _=>rfl⟩
   rw [he]
 ·rw [if_pos (show (r.2.2.1 != 0) = true by simpa using he)]
  exact ⟨g,rfl,fun h=>absurd h he⟩
end Go.Bx
namespace Go.Bx
open Go
set_option linter.unusedSimpArgs false
set_option linter.unusedVariables false
set_option maxRecDepth 100000
theorem recs_fine : ∀ (m : Nat) (b : List Int),(∀ x ∈ b,0 <= x /\ x <= 255)->∀ r ∈ (recs m b).1,r.length <= 200 /\ Byts r
 | 0,b,_,r,h=>by simp [recs] at h
 | m + 1,b,hb,r,h=>by
  unfold recs at h
  split at h
  ·rename_i hk
   rcases List.mem_cons.1 h with rfl | h
   ·refine ⟨by rw [List.length_take]; have:=hk.2.1; omega,fun x hx=>?_⟩
    have:=hb x (List.mem_of_mem_drop (List.mem_of_mem_take hx))
    omega
   ·exact recs_fine m _ (fun x hx=>hb x (List.mem_of_mem_drop hx)) r h
  ·simp at h
theorem decP_ok (b : List Int) (hb : Byts b) (h : (decP b).2.1 = 0) : bodyE (decP b).1.2.2.1 = 0 /\ Byts (decP b).1.2.2.1.2.2.2.2.2.2.1:=by
 have a4 : Adv (6 + 66 * (nV b).toNat) (b,true,()) (eD4 b):=by
  have:=(eD3_adv b).trans (signsOf_adv (nV b).toNat (eD3 b))
  unfold eD4; exact this
 have a5 : Adv (6 + 66 * (nV b).toNat + 55) (b,true,()) (st6 (eD4 b)):=a4.trans (st6_adv _)
 unfold decP at h ⊢
 by_cases c : (eD1 b).2.1 = true /\ vV b ≠ 1
 ·rw [if_pos c] at h; exact absurd h (by decide)
 ·rw [if_neg c] at h ⊢
  by_cases d : (eD3 b).2.1 = true /\ nV b > 19
  ·rw [if_pos d] at h; exact absurd h (by decide)
  ·rw [if_neg d] at h ⊢
   by_cases e : (st6 (eD4 b)).2.1 = true
   ·rw [if_pos e] at h ⊢
    by_cases a : paperE (pV b) = 0
    ·rw [if_pos a]
     simp only []
     have h1:=(paperE_ok a).2.2.2
     have h2:=a5.byts hb
     have h3 : (pV b).2.2.1.2.2.2.2.2.2.1 = (st6 (eD4 b)).1:=by simp only [pV,bodyV]
     exact ⟨h1,by rw [h3]; exact h2⟩
    ·rw [if_neg a] at h
     simp only [] at h
     exact absurd h a
   ·rw [if_neg e] at h; exact absurd h (by decide)
structure InvA (T : Nat) (g : GuardD) : Prop where
 p1 : g.2.1.2.2.2.1.length <= 1048576
 q1 : g.2.1.2.2.2.2.1.length <= 1048576
 p2 : g.2.2.1.2.2.2.1.length <= 1048576
 q2 : g.2.2.1.2.2.2.2.1.length <= 1048576
 s : g.2.2.2.2.1.length + g.2.2.2.2.2.1.length <= T
 hb : ∀ b ∈ g.2.2.2.2.1,b.2.2.2.2.2.2.1.length <= 1048576
 db : ∀ b ∈ g.2.2.2.2.2.1,b.2.2.2.2.2.2.1.length <= 1048576
 nd : (g.2.2.2.2.1.map idB).Nodup
theorem hasId_not {id : Int} {l : List BodyD} (h : hasId id l = false) : id ∉ l.map idB:=fun hm=>by
 obtain ⟨c,hc,he⟩:=List.mem_map.1 hm
 have:=List.any_eq_false.1 h c hc
 simp [he] at this
theorem mv1_in {P : BodyD->Prop} (id : Int) (H D : List BodyD) (h1 : ∀ b ∈ H,P b) (h2 : ∀ b ∈ D,P b) :
  (∀ b ∈ H.filter (fun b=>!(idB b == id)),P b) /\ ∀ b ∈ D ++ H.filter (fun b=>idB b == id),P b :=
 ⟨fun b hb=>h1 b (List.mem_filter.1 hb).1,fun b hb=>by
  rcases List.mem_append.1 hb with hb | hb
  ·exact h2 b hb
  ·exact h1 b (List.mem_filter.1 hb).1⟩
theorem mvR_in {P : BodyD->Prop} : ∀ (l : List Int) (H D : List BodyD),(∀ b ∈ H,P b)->(∀ b ∈ D,P b)->(∀ b ∈ (mvR l H D).1,P b) /\ ∀ b ∈ (mvR l H D).2,P b
 | [],H,D,h1,h2=>⟨h1,h2⟩
 | id :: l,H,D,h1,h2=>by
  have:=mv1_in id H D h1 h2
  exact mvR_in l _ _ this.1 this.2
theorem mvR_nd : ∀ (l : List Int) (H D : List BodyD),(H.map idB).Nodup->((mvR l H D).1.map idB).Nodup
 | [],H,D,h=>h
 | id :: l,H,D,h=>mvR_nd l _ _ (List.Nodup.sublist (List.Sublist.map _ List.filter_sublist) h)
theorem pass_both {T : Nat} (hT : T <= 3000000) {g : GuardD} (i : InvA T g) (n : Int) : ∃ (x : GateD) (H D : List BodyD) (e : Int),
  guard_passed_s2.run g.1 g.2.1.1 g.2.1.2.1 g.2.1.2.2.1 g.2.2.1 n g.2.1.2.2.2.1 g.2.1.2.2.2.2.1 g.2.2.2.1.1 g.2.2.2.1.2.1 g.2.2.2.2.1 g.2.2.2.2.2.1 =
   some (g.1,g.2.1.1,g.2.1.2.1,g.2.1.2.2.1,x,e,g.2.1.2.2.2.1,g.2.1.2.2.2.2.1,g.2.2.2.1.1,g.2.2.2.1.2.1,[],D,g.1,g.2.1.1,g.2.1.2.1,g.2.1.2.2.1,x,H,()) /\
  basculeref_waits.run g n = some ((g.1,g.2.1,x,g.2.2.2.1,H,D,()),e,()) /\ InvA T (g.1,g.2.1,x,g.2.2.2.1,H,D,()):=by
 obtain ⟨⟨x,ids,e,⟨⟩⟩,t1,t2,t3,t4,t5⟩:=tick_both g.2.2.1 n
 simp only [] at t3 t4 t5
 have hH : g.2.2.2.2.1.length + g.2.2.2.2.2.1.length <= 3000000:=by have:=i.s; omega
 have k1:=passed2_run g.1 g.2.1 g.2.2.1 n g.2.2.2.1.1 g.2.2.2.1.2.1 g.2.2.2.2.1 g.2.2.2.2.2.1 hH t1 t5
 have k2:=waits_run g n hH t2 t5
 by_cases he : e = 0
 ·rw [if_pos he] at k1 k2
  subst he
  rw [mv_same ids _ _ i.nd] at k1
  refine ⟨_,_,_,0,k1,k2,i.p1,i.q1,Nat.le_trans t3 (by omega),Nat.le_trans t4 (by omega),?_,?_,?_,mvR_nd ids _ _ i.nd⟩
  ·show (mvR ids g.2.2.2.2.1 g.2.2.2.2.2.1).1.length + (mvR ids g.2.2.2.2.1 g.2.2.2.2.2.1).2.length <= T
   rw [mvR_len]; exact i.s
  ·exact (mvR_in (P:=fun b=>b.2.2.2.2.2.2.1.length <= 1048576) ids _ _ i.hb i.db).1
  ·exact (mvR_in (P:=fun b=>b.2.2.2.2.2.2.1.length <= 1048576) ids _ _ i.hb i.db).2
 ·rw [if_neg he] at k1 k2
  exact ⟨_,_,_,e,k1,k2,i⟩
theorem met_both {T : Nat} (hT : T <= 3000000) {g : GuardD} (i : InvA T g) (b : BodyD) (he : bodyE b = 0) (hby : Byts b.2.2.2.2.2.2.1) :
  (mayB g b = false->basculeref_meets.run g b = some (g,false,())) /\ (mayB g b = true->∃ (x : GateD) (H D : List BodyD) (e : Int),
   guard_met_s2.run g.1 g.2.1.1 g.2.1.2.1 g.2.1.2.2.1 g.2.2.1 b g.2.1.2.2.2.1 g.2.1.2.2.2.2.1 g.2.2.2.1.1 g.2.2.2.1.2.1 g.2.2.2.2.1 g.2.2.2.2.2.1 =
    some (g.1,g.2.1.1,g.2.1.2.1,g.2.1.2.2.1,x,e,g.2.1.2.2.2.1,g.2.1.2.2.2.2.1,g.2.2.2.1.1,g.2.2.2.1.2.1,H,D,g.1,g.2.1.1,g.2.1.2.1,g.2.1.2.2.1,x,()) /\
   ((e ≠ 0 /\ basculeref_meets.run g b = some (g,false,())) \/ (e = 0 /\ basculeref_meets.run g b = some ((g.1,g.2.1,x,g.2.2.2.1,H,D,()),true,()) /\ InvA (T + 1) (g.1,g.2.1,x,g.2.2.2.1,H,D,())))):=by
 have is:=i.s
 obtain ⟨_,_,_,_,_,h6⟩:=bodyE_ok he
 obtain ⟨v,w1,w2⟩:=worth_both b hby (by omega)
 have hm:=meets_run g b (by omega) (by omega) (by omega) w2
 constructor
 ·intro hn
  rw [hn] at hm
  rw [hm]; simp
 ·intro hy
  obtain ⟨m,k1,k2⟩:=met2_run g g.2.2.2.1.1 g.2.2.2.1.2.1 b w1 (by omega) (by omega) (by omega)
  refine ⟨_,_,_,_,k1,?_⟩
  by_cases ho : (offerR g.2.2.1 (idB b) v b.2.2.1).2.2.1 = 0
  ·have hlen:=offerR_len g.2.2.1 (idB b) v b.2.2.1
   rw [if_pos ⟨hy,ho⟩] at hm
   have hnew : idB b ∉ g.2.2.2.2.1.map idB:=by
    have hh : hasId (idB b) (g.2.2.2.2.2.1 ++ g.2.2.2.2.1) = false:=by
     unfold mayB at hy
     simp only [Bool.and_eq_true,Bool.not_eq_true'] at hy
     exact hy.2
    have:=hasId_not hh
    rw [List.map_append] at this
    exact fun hx=>this (List.mem_append_right _ hx)
   rw [k2 ho]
   refine .inr ⟨ho,hm,i.p1,i.q1,?_,?_,?_,?_,?_,?_⟩
   ·show (offerR g.2.2.1 (idB b) v b.2.2.1).1.2.2.2.1.length <= 1048576; omega
   ·show (offerR g.2.2.1 (idB b) v b.2.2.1).1.2.2.2.2.1.length <= 1048576; omega
   ·unfold gateG
    cases (offerR g.2.2.1 (idB b) v b.2.2.1).2.1 <;> simp <;> omega
   ·unfold gateG
    cases (offerR g.2.2.1 (idB b) v b.2.2.1).2.1 with
    | true=>exact i.hb
    | false =>
     intro c hc
     rcases List.mem_append.1 hc with hc | hc
     ·exact i.hb c hc
     ·simp only [List.mem_cons,List.not_mem_nil,or_false] at hc; subst hc; omega
   ·unfold gateG
    cases (offerR g.2.2.1 (idB b) v b.2.2.1).2.1 with
    | true =>
     intro c hc
     rcases List.mem_append.1 hc with hc | hc
     ·exact i.db c hc
     ·simp only [List.mem_cons,List.not_mem_nil,or_false] at hc; subst hc; omega
    | false=>exact i.db
   ·unfold gateG
    cases (offerR g.2.2.1 (idB b) v b.2.2.1).2.1 with
    | true=>exact i.nd
    | false =>
     show ((g.2.2.2.2.1 ++ [b]).map idB).Nodup
     rw [List.map_append,List.nodup_append]
     refine ⟨i.nd,by simp,fun x hx y hy2=>?_⟩
     simp only [List.map_cons,List.map_nil,List.mem_cons,List.not_mem_nil,or_false] at hy2
     rw [hy2]
     exact fun hxe=>hnew (hxe ▸ hx)
  ·rw [if_neg (fun h=>ho h.2)] at hm
   exact .inl ⟨ho,hm⟩
end Go.Bx
