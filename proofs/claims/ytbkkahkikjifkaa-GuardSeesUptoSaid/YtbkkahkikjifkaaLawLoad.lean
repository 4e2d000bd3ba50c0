/- A part of a framework that reads Go code as functions of plain data; or a law about such functions. -/
import Derived.Test.YtbkkahkikjifkaaLawUpTo
import Derived.Test.YtbkkahkikjifkaaLawU256
import Derived.Test.YtbkkahkikjifkaaLawWideCmp
import Derived.Test.YtbkkahkikjifkaaFnGuardSees1
namespace Go.Bx
open Go
set_option linter.unusedSimpArgs false
set_option linter.unusedVariables false
abbrev LoadD : Type := Int × List Int × List Int × List Int × Int × List Int × Int × Int × List Int × List Int × Int × List (List Int) × Unit
theorem cmp_order {l m : List Int} (hl : l.length = 4) (hm : m.length = 4) (dl : digs B64 l) (dm : digs B64 m) : ∃ c, wide_Cmp.run l m = some c /\ basculeref_Order.run l m = some c := by
 obtain ⟨o1, e1, n1, g1, v1⟩ := ref_of hl dl
 obtain ⟨o2, e2, n2, g2, v2⟩ := ref_of hm dm
 unfold basculeref_Order.run basculeref_Order.top
 rw [wide_cmp hl hm dl dm, e1, e2]
 simp only [Option.bind_some]
 rw [ref_compare g1 g2 (by omega) (by omega), v1, v2]
 exact ⟨_, rfl, rfl⟩
theorem small_run (n m : Int) : load_small.run n m = some (decide (0 <= n) && decide (n <= m)) := by
 unfold load_small.run load_small.top
 rw [cond_and]
theorem grdI (b : Bool) (c d : Int) : (if (b == true) = true then some c else some d) = some (if b = true then c else d) := by cases b <;> rfl
theorem grdN {α : Type} (b : Bool) (c d : α) : (if ((not b) == false) = true then some c else some d) = some (if b = true then c else d) := by cases b <;> rfl
theorem le_ite (b : Bool) (c : Int) : (b && decide ((if b = true then c else 0) <= 0)) = (b && decide (c <= 0)) := by cases b <;> rfl
abbrev z4 : List Int := [0, 0, 0, 0]
abbrev z32 : List Int := List.replicate 32 0
abbrev eqU (a b : List Int) : Bool := beqD (.arr 4 (.int .u64)) a b
abbrev eqW (a b : List Int) : Bool := beqD (.arr 32 (.int .u8)) a b
abbrev eqS (a b : List Int) : Bool := beqD .str a b
section
variable (kd : Int) (am fe tk : List Int) (ho : Int) (to : List Int) (tc de : Int) (sy da : List Int) (ix : Int) (ks : List (List Int))
theorem kind_transfer (h : kd = 1 \/ kd = 3) : load_kindOf_s0.run kd = some (.inl ((kd == 3, ()), true, ())) := by
 unfold load_kindOf_s0.run load_kindOf_s0.top load_kindOf_s0.j0
 rcases h with rfl | rfl <;> rfl
theorem kind_meta : load_kindOf_s0.run 2 = some (.inr (.inl ((), true, ()))) := rfl
theorem kind_turn : load_kindOf_s0.run 4 = some (.inr (.inr (.inl ((), true, ())))) := rfl
theorem kind_none (h1 : kd ≠ 1) (h2 : kd ≠ 2) (h3 : kd ≠ 3) (h4 : kd ≠ 4) : load_kindOf_s0.run kd = some (.inr (.inr (.inr (.inl (false, ()))))) := by
 unfold load_kindOf_s0.run load_kindOf_s0.top load_kindOf_s0.j0
 rw [if_neg (by simpa using h1), if_neg (by simpa using h3), if_neg (by simpa using h2), if_neg (by simpa using h4)]
def onlyT : Bool := (de == 0) && eqS sy [] && (ix == 0) && decide (ks.length = 0)
def onlyM : Bool := eqU am z4 && eqU fe z4 && eqW to z32 && (tc == 0) && (ix == 0) && eqS da [] && decide (ks.length = 0)
def onlyK : Bool := eqU am z4 && eqU fe z4 && eqW tk z32 && (ho == 0) && eqW to z32 && (tc == 0) && (de == 0) && eqS sy [] && eqS da []
theorem len_zero {α : Type} (l : List α) : ((l.length : Int) == ((([] : List α).length : Nat) : Int)) = decide (l.length = 0) := by
 rw [Bool.eq_iff_iff, beq_iff_eq, decide_eq_true_eq]; simp
theorem same_T : load_same.run (kd, am, fe, tk, ho, to, tc, de, sy, da, ix, ks, ()) (kd, am, fe, tk, ho, to, tc, 0, [], da, 0, [], ()) = some (onlyT de sy ix ks) := by
 unfold load_same.run load_same.top onlyT
 simp only [BEq.rfl, beqD_refl (.arr 4 (.int .u64)) _ rfl, beqD_refl (.arr 32 (.int .u8)) _ rfl, beqD_refl .str _ rfl, cond_true, cond_and, Bool.and_true, Bool.true_and, len_zero]
theorem same_M : load_same.run (kd, am, fe, tk, ho, to, tc, de, sy, da, ix, ks, ()) (kd, z4, z4, tk, ho, z32, 0, de, sy, [], 0, [], ()) = some (onlyM am fe to tc da ix ks) := by
 unfold load_same.run load_same.top onlyM
 simp only [BEq.rfl, beqD_refl (.arr 4 (.int .u64)) _ rfl, beqD_refl (.arr 32 (.int .u8)) _ rfl, beqD_refl .str _ rfl, cond_true, cond_and, Bool.and_true, Bool.true_and, len_zero]
theorem same_K : load_same.run (kd, am, fe, tk, ho, to, tc, de, sy, da, ix, ks, ()) (kd, z4, z4, z32, 0, z32, 0, 0, [], [], ix, ks, ()) = some (onlyK am fe tk ho to tc de sy da) := by
 unfold load_same.run load_same.top onlyK
 simp only [BEq.rfl, beqD_refl (.arr 4 (.int .u64)) _ rfl, beqD_refl (.arr 32 (.int .u8)) _ rfl, beqD_refl .str _ rfl, cond_true, cond_and, Bool.and_true, Bool.true_and, len_zero]
theorem sameLoad_zero {α : Type} (k n : Nat) (Rt : Bool -> Option α) (Xt : LoadD -> LoadD -> Option α) (a b : LoadD) : basculeref_SameLoad.l0 k Rt Xt (n + 1) 0 0 a b = Xt a b := by
 simp only [basculeref_SameLoad.l0, basculeref_SameLoad.l0s]
 rw [if_neg (by decide)]
theorem str_nil (l : List Int) : beqD .str l [] = decide (l.length = 0) := by
 cases l with
 | nil => rfl
 | cons a l => rfl
theorem sameF_T : basculeref_SameLoad.run (kd, am, fe, tk, ho, to, tc, de, sy, da, ix, ks, ()) (kd, am, fe, tk, ho, to, tc, 0, [], da, 0, [], ()) = some (onlyT de sy ix ks) := by
 unfold basculeref_SameLoad.run basculeref_SameLoad.top onlyT
 simp only [beqD_refl .str _ rfl]
 by_cases hk : ks.length = 0
 ·rw [if_neg (by rw [cond_or]; simp [hk]), hk]
  refine (sameLoad_zero fuel 18446744073709551615 (fun x4 => some x4) (fun c2 c3 => basculeref_SameLoad.j0 (fun x4 => some x4) c2 c3) _ _).trans ?_
  unfold basculeref_SameLoad.j0
  simp only [BEq.rfl, beqD_refl (.arr 4 (.int .u64)) _ rfl, beqD_refl (.arr 32 (.int .u8)) _ rfl, beqD_refl .str _ rfl, cond_true, cond_and, Bool.and_true, Bool.true_and, decide_true]
 ·rw [if_pos (by rw [cond_or]; simp; intro h; exact hk (by rw [h]; rfl))]
  rw [decide_eq_false hk, Bool.and_false]
theorem sameF_M : basculeref_SameLoad.run (kd, am, fe, tk, ho, to, tc, de, sy, da, ix, ks, ()) (kd, z4, z4, tk, ho, z32, 0, de, sy, [], 0, [], ()) = some (onlyM am fe to tc da ix ks) := by
 unfold basculeref_SameLoad.run basculeref_SameLoad.top onlyM
 by_cases hk : ks.length = 0
 ·cases hd : beqD .str da [] with
  | false =>
   rw [if_pos (by rw [cond_or]; simp [hd])]
   simp [eqS, hd]
  | true =>
   rw [if_neg (by rw [cond_or]; simp [hk, hd]), hk]
   refine (sameLoad_zero fuel 18446744073709551615 (fun x4 => some x4) (fun c2 c3 => basculeref_SameLoad.j0 (fun x4 => some x4) c2 c3) _ _).trans ?_
   unfold basculeref_SameLoad.j0
   simp only [BEq.rfl, beqD_refl (.arr 4 (.int .u64)) _ rfl, beqD_refl (.arr 32 (.int .u8)) _ rfl, beqD_refl .str _ rfl, cond_true, cond_and, Bool.and_true, Bool.true_and, decide_true, eqS, hd]
 ·rw [if_pos (by rw [cond_or]; simp; exact .inl (by intro h; exact hk (by rw [h]; rfl)))]
  rw [decide_eq_false hk, Bool.and_false]
theorem sameLoad_keys {α : Type} (Rt : Bool -> Option α) (Xt : LoadD -> LoadD -> Option α) (k : Nat) (a b : LoadD) (l : List (List Int)) (ha : a.2.2.2.2.2.2.2.2.2.2.2.1 = l) (hb : b.2.2.2.2.2.2.2.2.2.2.2.1 = l) (hl : l.length <= 400000000000000) : ∀ (R P : List (List Int)) (n : Nat), R.length < n -> l = P ++ R ->
  basculeref_SameLoad.l0 k Rt Xt n (l.length : Int) (P.length : Int) a b = Xt a b
 | R, P, 0, h, _ => by omega
 | [], P, n + 1, h, hc => by
  simp only [basculeref_SameLoad.l0, basculeref_SameLoad.l0s]
  have : l.length = P.length := by rw [hc]; simp
  rw [if_neg (by rw [decide_eq_true_eq]; omega)]
 | y :: R, P, n + 1, h, hc => by
  have hlen : l.length = P.length + (R.length + 1) := by rw [hc]; simp
  simp only [basculeref_SameLoad.l0, basculeref_SameLoad.l0s, ha, hb]
  rw [if_pos (by rw [decide_eq_true_eq]; omega), if_pos (by omega), if_pos (by omega), i64_succ (by omega), beqD_refl _ _ rfl, if_neg (by simp)]
  have ih := sameLoad_keys Rt Xt k a b l ha hb hl R (P ++ [y]) n (by simpa using h) (by simp [hc])
  rw [List.length_append] at ih
  exact ih
theorem sameF_K (hl : ks.length <= 400000000000000) : basculeref_SameLoad.run (kd, am, fe, tk, ho, to, tc, de, sy, da, ix, ks, ()) (kd, z4, z4, z32, 0, z32, 0, 0, [], [], ix, ks, ()) = some (onlyK am fe tk ho to tc de sy da) := by
 unfold basculeref_SameLoad.run basculeref_SameLoad.top onlyK
 cases hd : beqD .str da [] with
 | false =>
  rw [if_pos (by rw [cond_or]; simp [hd])]
  simp [eqS, hd]
 | true =>
  rw [if_neg (by rw [cond_or]; simp [hd])]
  refine (sameLoad_keys (fun x4 => some x4) (fun c2 c3 => basculeref_SameLoad.j0 (fun x4 => some x4) c2 c3) fuel (kd, am, fe, tk, ho, to, tc, de, sy, da, ix, ks, ()) (kd, z4, z4, z32, 0, z32, 0, 0, [], [], ix, ks, ()) ks rfl rfl hl ks [] fuel (by rw [fuel_big]; omega) rfl).trans ?_
  unfold basculeref_SameLoad.j0
  simp only [BEq.rfl, beqD_refl (.arr 4 (.int .u64)) _ rfl, beqD_refl (.arr 32 (.int .u8)) _ rfl, beqD_refl .str _ rfl, cond_true, cond_and, Bool.and_true, Bool.true_and, decide_true, eqS, hd]
def rng (n m : Int) : Bool := decide (0 <= n) && decide (n <= m)
def noNul (s : List Int) : Bool := s.all fun c => c != 0
theorem meta_loop {α : Type} (Xt : Bool -> Option α) (k : Nat) (l : List Int) (hl : l.length <= 400000000000000) : ∀ (R P : List Int) (n : Nat) (x : Bool), R.length < n -> l = P ++ R ->
  load_meta__check.l0 k Xt n x l (l.length : Int) (P.length : Int) = Xt (x && noNul R)
 | R, P, 0, x, h, _ => by omega
 | [], P, n + 1, x, h, hc => by
  simp only [load_meta__check.l0, load_meta__check.l0s]
  have : l.length = P.length := by rw [hc]; simp
  rw [if_neg (by rw [decide_eq_true_eq]; omega)]
  simp [noNul]
 | y :: R, P, n + 1, x, h, hc => by
  have hlen : l.length = P.length + (R.length + 1) := by rw [hc]; simp
  simp only [load_meta__check.l0, load_meta__check.l0s]
  have hg : l.getD P.length 0 = y := by rw [hc]; exact getD_at _ _ _ _
  rw [if_pos (by rw [decide_eq_true_eq]; omega), if_pos (by omega), i64_succ (by omega), toNat_nat, hg, cond_and]
  have ih := meta_loop Xt k l hl R (P ++ [y]) n (x && y != 0) (by simpa using h) (by simp [hc])
  rw [List.length_append] at ih
  refine Eq.trans ih ?_
  simp only [noNul, List.all_cons, Bool.and_assoc]
theorem nought_loop {α : Type} (Rt : Bool -> Option α) (Xt : Option α) (k : Nat) (l : List Int) (hl : l.length <= 400000000000000) : ∀ (R P : List Int) (n : Nat), R.length < n -> l = P ++ R ->
  basculeref_hasNought.l0 k Rt Xt n l (P.length : Int) = if noNul R = true then Xt else Rt true
 | R, P, 0, h, _ => by omega
 | [], P, n + 1, h, hc => by
  simp only [basculeref_hasNought.l0, basculeref_hasNought.l0s]
  have : l.length = P.length := by rw [hc]; simp
  rw [if_neg (by rw [decide_eq_true_eq]; omega)]
  simp [noNul]
 | y :: R, P, n + 1, h, hc => by
  have hlen : l.length = P.length + (R.length + 1) := by rw [hc]; simp
  simp only [basculeref_hasNought.l0, basculeref_hasNought.l0s]
  have hg : l.getD P.length 0 = y := by rw [hc]; exact getD_at _ _ _ _
  rw [if_pos (by rw [decide_eq_true_eq]; omega), if_pos (by omega), i64_succ (by omega), toNat_nat, hg]
  have ih := nought_loop Rt Xt k l hl R (P ++ [y]) n (by simpa using h) (by simp [hc])
  rw [List.length_append] at ih
  by_cases hy : y = 0
  ·rw [if_pos (by simpa using hy), if_neg (by simp [noNul, hy])]
  ·rw [if_neg (by simpa using hy)]
   refine Eq.trans ih ?_
   have : noNul (y :: R) = noNul R := by simp [noNul, hy]
   rw [this]
theorem nought_run (l : List Int) (hl : l.length <= 400000000000000) : basculeref_hasNought.run l = some (!noNul l) := by
 unfold basculeref_hasNought.run basculeref_hasNought.top
 refine (nought_loop (fun x2 => some x2) (basculeref_hasNought.j0 fun x2 => some x2) fuel l hl l [] fuel (by rw [fuel_big]; omega) rfl).trans ?_
 unfold basculeref_hasNought.j0
 cases noNul l <;> rfl
def okT (c : Int) : Bool := rng ho 65535 && rng tc 65535 && decide (c <= 0) && decide (da.length <= 100) && (decide (kd = 3) || decide (da.length = 0)) && onlyT de sy ix ks
def okM : Bool := rng ho 65535 && rng de 77 && decide (sy.length <= 32) && noNul sy && onlyM am fe to tc da ix ks
def okK : Bool := rng ix 4294967295 && decide (1 <= ks.length) && decide (ks.length <= 19) && onlyK am fe tk ho to tc de sy da
theorem check_T (h : kd = 1 \/ kd = 3) {c : Int} (hc : wide_Cmp.run fe am = some c) : load_Check.run (kd, am, fe, tk, ho, to, tc, de, sy, da, ix, ks, ()) = some (if okT kd ho tc de sy da ix ks c = true then 0 else 3) := by
 unfold load_Check.run load_Check.top
 rw [kind_transfer kd h, Option.bind_some, Sum.elim_inl]
 rw [if_neg (by simp)]
 unfold load_transfer__check.run load_transfer__check.top load_transfer__bare.run load_transfer__bare.top
 simp only [small_run, hc, Option.bind_some, grd, grdI, grdN, cond_and, cond_or]
 have e : ∀ y : Bool, (if y = true then ((kd, am, fe, tk, ho, to, tc, 0, [], da, 0, [], ()) : LoadD) else (0, z4, z4, z32, 0, z32, 0, 0, [], [], 0, [], ())) = if y = true then (kd, am, fe, tk, ho, to, tc, 0, [], da, 0, [], ()) else (0, z4, z4, z32, 0, z32, 0, 0, [], [], 0, [], ()) := fun _ => rfl
 have hz : ((kd == 3 && decide ((da.length : Int) <= 100)) || (!(kd == 3) && ((da.length : Int) == 0))) = (decide (da.length <= 100) && (decide (kd = 3) || decide (da.length = 0))) := by
  rw [Bool.eq_iff_iff]
  simp only [Bool.or_eq_true, Bool.and_eq_true, beq_iff_eq, decide_eq_true_eq, Bool.not_eq_true', beq_eq_false_iff_ne]
  by_cases h3 : kd = 3
  ·simp only [h3, true_and, not_true_eq_false, false_and, or_false, true_or, and_true]; omega
  ·simp only [h3, false_and, false_or, not_false_eq_true, true_and]; omega
 have h1 : ((rng ho 65535 && (rng ho 65535 && rng tc 65535)) && decide ((if (rng ho 65535 && (rng ho 65535 && rng tc 65535)) = true then c else 0) <= 0)) = (rng ho 65535 && rng tc 65535 && decide (c <= 0)) := by
  rw [le_ite]; cases rng ho 65535 <;> rfl
 unfold rng at h1
 simp only [h1, hz]
 unfold okT rng
 generalize hA : (decide (0 <= ho) && decide (ho <= 65535) && (decide (0 <= tc) && decide (tc <= 65535)) && decide (c <= 0) && (decide (da.length <= 100) && (decide (kd = 3) || decide (da.length = 0)))) = A
 have hA' : (decide (0 <= ho) && decide (ho <= 65535) && (decide (0 <= tc) && decide (tc <= 65535)) && decide (c <= 0) && decide (da.length <= 100) && (decide (kd = 3) || decide (da.length = 0))) = A := by rw [<- hA]; simp only [Bool.and_assoc]
 rw [hA']
 cases A with
 | false => rfl
 | true =>
  simp only [if_true, same_T, Option.bind_some, Bool.not_true, Bool.false_or, Bool.true_and, BEq.rfl]
  cases onlyT de sy ix ks <;> rfl
theorem fault_T (h : kd = 1 \/ kd = 3) {c : Int} (hc : basculeref_Order.run fe am = some c) : basculeref_LoadFault.run (kd, am, fe, tk, ho, to, tc, de, sy, da, ix, ks, ()) = some (if okT kd ho tc de sy da ix ks c = true then 0 else 3) := by
 have honly : basculeref_only.run (kd, am, fe, tk, ho, to, tc, de, sy, da, ix, ks, ()) = some ((kd, am, fe, tk, ho, to, tc, 0, [], da, 0, [], ()), true, ()) := by
  unfold basculeref_only.run basculeref_only.top basculeref_only.j0
  rcases h with rfl | rfl <;> rfl
 unfold basculeref_LoadFault.run basculeref_LoadFault.top
 rw [honly, Option.bind_some, if_neg (by simp), sameF_T, Option.bind_some]
 have hj : ∀ b : Bool, b = true -> basculeref_LoadFault.j0 (fun x2 => some x2) (onlyT de sy ix ks) kd b (kd, am, fe, tk, ho, to, tc, de, sy, da, ix, ks, ()) = some (if okT kd ho tc de sy da ix ks c = true then 0 else 3) := fun b hb => by
  unfold basculeref_LoadFault.j0 basculeref_LoadFault.j1
  rw [if_pos hb]
  simp only [upTo_run, hc, Option.bind_some, grd, grdI, cond_and, cond_or]
  unfold okT rng
  have hz : ((kd == 3) || ((da.length : Int) == 0)) = (decide (kd = 3) || decide (da.length = 0)) := by
   rw [Bool.eq_iff_iff]
   simp only [Bool.or_eq_true, beq_iff_eq, decide_eq_true_eq]; omega
  have hd : decide ((da.length : Int) <= 100) = decide (da.length <= 100) := by rw [decide_eq_decide]; omega
  rw [hz, hd]
  generalize onlyT de sy ix ks = S
  generalize (decide (0 <= ho) && decide (ho <= 65535)) = H
  generalize (decide (0 <= tc) && decide (tc <= 65535)) = T
  generalize decide (da.length <= 100) = D
  generalize (decide (kd = 3) || decide (da.length = 0)) = Z
  cases S <;> cases H <;> cases T <;> cases D <;> cases Z <;> cases hq : decide (c <= 0) <;> simp [hq]
 rcases h with h | h
 ·rw [if_pos (by simp [h])]; exact hj _ (by simp [h])
 ·rw [if_neg (by simp [h])]; exact hj _ (by simp [h])
theorem check_M (hs : sy.length <= 400000000000000) : load_Check.run (2, am, fe, tk, ho, to, tc, de, sy, da, ix, ks, ()) = some (if okM am fe ho to tc de sy da ix ks = true then 0 else 3) := by
 unfold load_Check.run load_Check.top
 rw [kind_meta, Option.bind_some, Sum.elim_inr, Sum.elim_inl]
 rw [if_neg (by simp)]
 unfold load_meta__check.run load_meta__check.top load_meta__bare.run load_meta__bare.top
 simp only [small_run, Option.bind_some, grd, cond_and]
 have := meta_loop (fun x5 => load_meta__check.j0 (fun x4 => some x4) x5) fuel sy hs sy [] fuel ((decide (0 <= ho) && decide (ho <= 65535)) && ((decide (0 <= ho) && decide (ho <= 65535)) && (decide (0 <= de) && decide (de <= 77))) && decide ((sy.length : Int) <= 32)) (by rw [fuel_big]; omega) rfl
 rw [show ((([] : List Int).length : Nat) : Int) = 0 from rfl] at this
 rw [this]
 unfold load_meta__check.j0 okM rng
 have hd : decide ((sy.length : Int) <= 32) = decide (sy.length <= 32) := by rw [decide_eq_decide]; omega
 rw [hd]
 generalize (decide (0 <= ho) && decide (ho <= 65535)) = H
 generalize (decide (0 <= de) && decide (de <= 77)) = T
 generalize decide (sy.length <= 32) = D
 generalize noNul sy = Z
 simp only [Option.bind_some, grdN]
 cases H <;> cases T <;> cases D <;> cases Z <;> first | rfl | skip
 simp only [Bool.and_self, Bool.true_and, if_true, same_M, Option.bind_some, BEq.rfl, Bool.not_true, cond_false, cond_or, Bool.false_or]
 cases onlyM am fe to tc da ix ks <;> rfl
theorem fault_M (hs : sy.length <= 400000000000000) : basculeref_LoadFault.run (2, am, fe, tk, ho, to, tc, de, sy, da, ix, ks, ()) = some (if okM am fe ho to tc de sy da ix ks = true then 0 else 3) := by
 have honly : basculeref_only.run (2, am, fe, tk, ho, to, tc, de, sy, da, ix, ks, ()) = some ((2, z4, z4, tk, ho, z32, 0, de, sy, [], 0, [], ()), true, ()) := rfl
 unfold basculeref_LoadFault.run basculeref_LoadFault.top
 rw [honly, Option.bind_some, if_neg (by simp), sameF_M, Option.bind_some, if_neg (show ¬ (((2 : Int) == 1) = true) by decide)]
 unfold basculeref_LoadFault.j0 basculeref_LoadFault.j1
 rw [if_neg (show ¬ (((2 : Int) == 3) = true) by decide), if_pos (show (((2 : Int) == 2) = true) by decide)]
 simp only [upTo_run, nought_run _ hs, Option.bind_some, grd, cond_and]
 unfold okM rng
 have hd : decide ((sy.length : Int) <= 32) = decide (sy.length <= 32) := by rw [decide_eq_decide]; omega
 rw [hd]
 generalize onlyM am fe to tc da ix ks = S
 generalize (decide (0 <= ho) && decide (ho <= 65535)) = H
 generalize (decide (0 <= de) && decide (de <= 77)) = T
 generalize decide (sy.length <= 32) = D
 generalize noNul sy = Z
 cases S <;> cases H <;> cases T <;> cases D <;> cases Z <;> rfl
theorem check_K : load_Check.run (4, am, fe, tk, ho, to, tc, de, sy, da, ix, ks, ()) = some (if okK am fe tk ho to tc de sy da ix ks = true then 0 else 3) := by
 unfold load_Check.run load_Check.top
 rw [kind_turn, Option.bind_some, Sum.elim_inr, Sum.elim_inr, Sum.elim_inl]
 rw [if_neg (by simp)]
 unfold load_turn__check.run load_turn__check.top load_turn__bare.run load_turn__bare.top
 simp only [small_run, Option.bind_some, grd, grdN, cond_and]
 unfold okK rng
 have hd : decide ((ks.length : Int) >= 1) = decide (1 <= ks.length) := by rw [decide_eq_decide]; omega
 have hd2 : decide ((ks.length : Int) <= 19) = decide (ks.length <= 19) := by rw [decide_eq_decide]; omega
 rw [hd, hd2]
 generalize (decide (0 <= ix) && decide (ix <= 4294967295)) = H
 generalize decide (1 <= ks.length) = T
 generalize decide (ks.length <= 19) = D
 cases H <;> cases T <;> cases D <;> first | rfl | skip
 simp only [Bool.and_self, Bool.true_and, if_true, same_K, Option.bind_some, BEq.rfl, Bool.not_true, cond_false, cond_or, Bool.false_or]
 cases onlyK am fe tk ho to tc de sy da <;> rfl
theorem fault_K (hl : ks.length <= 400000000000000) : basculeref_LoadFault.run (4, am, fe, tk, ho, to, tc, de, sy, da, ix, ks, ()) = some (if okK am fe tk ho to tc de sy da ix ks = true then 0 else 3) := by
 have honly : basculeref_only.run (4, am, fe, tk, ho, to, tc, de, sy, da, ix, ks, ()) = some ((4, z4, z4, z32, 0, z32, 0, 0, [], [], ix, ks, ()), true, ()) := rfl
 unfold basculeref_LoadFault.run basculeref_LoadFault.top
 rw [honly, Option.bind_some, if_neg (by simp), sameF_K _ _ _ _ _ _ _ _ _ _ _ _ hl, Option.bind_some, if_neg (show ¬ (((4 : Int) == 1) = true) by decide)]
 unfold basculeref_LoadFault.j0 basculeref_LoadFault.j1
 rw [if_neg (show ¬ (((4 : Int) == 3) = true) by decide), if_neg (show ¬ (((4 : Int) == 2) = true) by decide), if_pos (show (((4 : Int) == 4) = true) by decide)]
 simp only [upTo_run, Option.bind_some, grd, cond_and]
 unfold okK rng
 have hd : decide ((ks.length : Int) > 0) = decide (1 <= ks.length) := by rw [decide_eq_decide]; omega
 have hd2 : decide ((ks.length : Int) <= 19) = decide (ks.length <= 19) := by rw [decide_eq_decide]; omega
 rw [hd, hd2]
 generalize onlyK am fe tk ho to tc de sy da = S
 generalize (decide (0 <= ix) && decide (ix <= 4294967295)) = H
 generalize decide (1 <= ks.length) = T
 generalize decide (ks.length <= 19) = D
 cases S <;> cases H <;> cases T <;> cases D <;> rfl
theorem check_N (h1 : kd ≠ 1) (h2 : kd ≠ 2) (h3 : kd ≠ 3) (h4 : kd ≠ 4) : load_Check.run (kd, am, fe, tk, ho, to, tc, de, sy, da, ix, ks, ()) = some 2 /\ basculeref_LoadFault.run (kd, am, fe, tk, ho, to, tc, de, sy, da, ix, ks, ()) = some 2 := by
 constructor
 ·unfold load_Check.run load_Check.top
  rw [kind_none kd h1 h2 h3 h4, Option.bind_some, Sum.elim_inr, Sum.elim_inr, Sum.elim_inr, Sum.elim_inl]
  rfl
 ·have honly : basculeref_only.run (kd, am, fe, tk, ho, to, tc, de, sy, da, ix, ks, ()) = some ((0, z4, z4, z32, 0, z32, 0, 0, [], [], 0, [], ()), false, ()) := by
   unfold basculeref_only.run basculeref_only.top basculeref_only.j0
   rw [if_neg (by simpa using h1), if_neg (by simpa using h3), if_neg (by simpa using h2), if_neg (by simpa using h4)]
  unfold basculeref_LoadFault.run basculeref_LoadFault.top
  rw [honly]; rfl
end
end Go.Bx
