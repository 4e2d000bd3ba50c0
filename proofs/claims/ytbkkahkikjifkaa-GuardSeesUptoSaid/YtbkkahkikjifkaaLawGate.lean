/- A part of a framework that reads Go code as functions of plain data; or a law about such functions. -/
import Derived.Test.YtbkkahkikjifkaaLawMaps
import Derived.Test.YtbkkahkikjifkaaLawAt
import Derived.Test.YtbkkahkikjifkaaLawUpTo
import Derived.Test.YtbkkahkikjifkaaFnGuardSees0
namespace Go.Bx
open Go
set_option linter.unusedSimpArgs false
set_option linter.unusedVariables false
abbrev QD : Type := Int × Int × Int × Int × Unit
abbrev GateD : Type := List Int × List Int × Int × List QD × List QD × Unit
def vl (n : Int) : Bool := decide (0 <= n) && decide (n <= 1073741824)
def qok (now : Int) (x : QD) : Bool := vl x.2.1 && (decide (0 <= x.2.2.1) && decide (x.2.2.1 <= 2)) && (decide (0 <= x.2.2.2.1) && decide (x.2.2.2.1 <= now))
def lims (g : GateD) (i : Nat) : Bool := vl (g.1.getD i 0) && vl (g.2.1.getD i 0)
def nowOk (g : GateD) : Bool := decide (0 <= g.2.2.1) && decide (g.2.2.1 <= 1099511627776)
def gids (g : GateD) : List Int := (g.2.2.2.1 ++ g.2.2.2.2.1).map (·.1)
theorem value_run (n : Int) : gate_value.run n = some (vl n) := by
 unfold gate_value.run gate_value.top vl
 rw [cond_and]
theorem lims_step {α : Type} (Xt : Bool -> GateD -> Option α) (k : Nat) (g : GateD) (n i : Nat) (x : Bool) (hi : i < 3) :
  gate_Check.l0 k Xt (n + 1) x (i : Int) g = gate_Check.l0 k Xt n (x && lims g i) ((i + 1 : Nat) : Int) g := by
 simp only [gate_Check.l0, gate_Check.l0s]
 have hd : decide (0 <= (i : Int) /\ (i : Int) < 3) = true := by rw [decide_eq_true_eq]; omega
 rw [if_pos (by rw [decide_eq_true_eq]; omega), hd, i64_succ (by omega)]
 simp only [Bool.true_or, cond_true, value_run, toNat_nat, grd, Option.bind_some, and_self']
 congr 1
 unfold lims
 cases x <;> cases vl (g.1.getD i 0) <;> rfl
theorem limsF_step {α : Type} (Xt : Bool -> GateD -> Option α) (k : Nat) (g : GateD) (n i : Nat) (x : Bool) (hi : i < 3) :
  basculeref_GateFault.l0 k Xt (n + 1) x (i : Int) g = basculeref_GateFault.l0 k Xt n (x && lims g i) ((i + 1 : Nat) : Int) g := by
 simp only [basculeref_GateFault.l0, basculeref_GateFault.l0s]
 have hd : decide (0 <= (i : Int) /\ (i : Int) < 3) = true := by rw [decide_eq_true_eq]; omega
 rw [if_pos (by rw [decide_eq_true_eq]; omega), hd, i64_succ (by omega)]
 simp only [Bool.true_or, cond_true, upTo_run, toNat_nat, grd, Option.bind_some, and_self']
 congr 1
 unfold lims vl
 cases x <;> cases (decide (0 <= g.1.getD i 0) && decide (g.1.getD i 0 <= 1073741824)) <;> rfl
def allLims (g : GateD) (x : Bool) : Bool := x && lims g 0 && lims g 1 && lims g 2
theorem lims_all {α : Type} (Xt : Bool -> GateD -> Option α) (k : Nat) (g : GateD) (n : Nat) (x : Bool) : gate_Check.l0 k Xt (n + 4) x 0 g = Xt (allLims g x) g := by
 have h0 := lims_step Xt k g (n + 3) 0 x (by omega)
 have h1 := lims_step Xt k g (n + 2) 1 (x && lims g 0) (by omega)
 have h2 := lims_step Xt k g (n + 1) 2 (x && lims g 0 && lims g 1) (by omega)
 refine h0.trans (h1.trans (h2.trans ?_))
 simp only [gate_Check.l0, gate_Check.l0s]
 rfl
theorem limsF_all {α : Type} (Xt : Bool -> GateD -> Option α) (k : Nat) (g : GateD) (n : Nat) (x : Bool) : basculeref_GateFault.l0 k Xt (n + 4) x 0 g = Xt (allLims g x) g := by
 have h0 := limsF_step Xt k g (n + 3) 0 x (by omega)
 have h1 := limsF_step Xt k g (n + 2) 1 (x && lims g 0) (by omega)
 have h2 := limsF_step Xt k g (n + 1) 2 (x && lims g 0 && lims g 1) (by omega)
 refine h0.trans (h1.trans (h2.trans ?_))
 simp only [basculeref_GateFault.l0, basculeref_GateFault.l0s]
 rfl
theorem gate_inner {α : Type} (Xt : Bool -> Int -> Int -> GateD -> List QD -> Option α) (k : Nat) (x55 x56 : Int) (g : GateD) (a : QD) (c50 l : List QD) (hl : l.length <= 1000) :
  ∀ (R P : List QD) (n : Nat) (x : Bool), R.length < n -> l = P ++ R ->
  gate_Check.l2 k Xt n x x55 x56 l (l.length : Int) (P.length : Int) g a c50 = Xt (x && R.all fun y => a.1 != y.1) x55 x56 g c50
 | R, P, 0, x, h, _ => by omega
 | [], P, n + 1, x, h, hc => by
  simp only [gate_Check.l2, gate_Check.l2s]
  have : l.length = P.length := by rw [hc]; simp
  rw [if_neg (by rw [decide_eq_true_eq]; omega)]
  simp
 | b :: R, P, n + 1, x, h, hc => by
  have hlen : l.length = P.length + (R.length + 1) := by rw [hc]; simp
  simp only [gate_Check.l2, gate_Check.l2s]
  have hg : l.getD P.length (0, 0, 0, 0, ()) = b := by rw [hc]; exact getD_at _ _ _ _
  rw [if_pos (by rw [decide_eq_true_eq]; omega), if_pos (by omega), i64_succ (by omega), toNat_nat, hg, cond_and]
  have ih := gate_inner Xt k x55 x56 g a c50 l hl R (P ++ [b]) n (x && a.1 != b.1) (by simpa using h) (by simp [hc])
  rw [List.length_append] at ih
  refine Eq.trans ih ?_
  rw [List.all_cons, Bool.and_assoc]
theorem gate_outer {α : Type} (Xt : Bool -> Option α) (k : Nat) (hk : 1000 < k) (g : GateD) (l : List QD) (hl : l.length <= 1000) :
  ∀ (R P : List QD) (n : Nat) (x : Bool), R.length < n -> l = P ++ R -> (x = true -> (P.map (·.1)).Nodup) ->
  ∃ b, gate_Check.l1 k Xt n x (l.length : Int) (P.length : Int) g l = Xt b /\ (b = true ↔ x = true /\ (∀ y ∈ R, qok g.2.2.1 y = true) /\ (l.map (·.1)).Nodup)
 | R, P, 0, x, h, _, _ => by omega
 | [], P, n + 1, x, h, hc, hn => by
  simp only [gate_Check.l1, gate_Check.l1s]
  have : l.length = P.length := by rw [hc]; simp
  rw [if_neg (by rw [decide_eq_true_eq]; omega)]
  refine ⟨x, rfl, ?_⟩
  constructor
  ·intro hx
   have := hn hx
   exact ⟨hx, (fun y hy => by cases hy), by rw [hc]; simpa using this⟩
  ·exact fun h => h.1
 | a :: R, P, n + 1, x, h, hc, hn => by
  have hlen : l.length = P.length + (R.length + 1) := by rw [hc]; simp
  simp only [gate_Check.l1, gate_Check.l1s]
  have hg : l.getD P.length (0, 0, 0, 0, ()) = a := by rw [hc]; exact getD_at _ _ _ _
  have hcut : cutL l 0 (P.length : Int) = P := by rw [hc]; exact cutL_front _ _
  rw [if_pos (by rw [decide_eq_true_eq]; omega), if_pos (by omega), toNat_nat, hg, value_run, grd]
  simp only [Option.bind_some]
  rw [if_pos (by omega), hcut]
  have e : (cond (cond (cond (cond (cond x (x && vl a.2.1) false) (decide (a.2.2.1 >= 0)) false) (decide (a.2.2.1 < 3)) false) (decide (a.2.2.2.1 >= 0)) false) (decide (a.2.2.2.1 <= g.2.2.1)) false) = (x && qok g.2.2.1 a) := by
   rw [Bool.eq_iff_iff]
   unfold qok
   simp only [cond_and, Bool.and_eq_true, decide_eq_true_eq]
   constructor
   ·rintro ⟨⟨⟨⟨⟨h1, _, h2⟩, h3⟩, h4⟩, h5⟩, h6⟩; exact ⟨h1, ⟨h2, by omega, by omega⟩, by omega, h6⟩
   ·rintro ⟨h1, ⟨h2, h3, h4⟩, h5, h6⟩; exact ⟨⟨⟨⟨⟨h1, h1, h2⟩, by omega⟩, by omega⟩, by omega⟩, h6⟩
  rw [e]
  have hin := gate_inner (fun x3 x55 x56 c1 c50 => gate_Check.j1 (gate_Check.l1 k Xt n) x3 x55 x56 c1 c50) k (l.length : Int) (P.length : Int) g a l P (by omega) P [] k (x && qok g.2.2.1 a) (by omega) rfl
  have hx' : (x && qok g.2.2.1 a && P.all fun y => a.1 != y.1) = true -> ((P ++ [a]).map (·.1)).Nodup := fun hx => by
   simp only [Bool.and_eq_true, List.all_eq_true, bne_iff_ne, ne_eq] at hx
   have h0 := hn hx.1.1
   rw [List.map_append, List.nodup_append]
   refine ⟨h0, by simp, fun u hu v hv e => ?_⟩
   simp only [List.map_cons, List.map_nil, List.mem_singleton] at hv
   obtain ⟨y, hy, rfl⟩ := List.mem_map.1 hu
   exact hx.2 y hy (by rw [<- hv, e])
  obtain ⟨b, b1, b2⟩ := gate_outer Xt k hk g l hl R (P ++ [a]) n _ (by simpa using h) (by simp [hc]) hx'
  refine ⟨b, Eq.trans hin ?_, ?_⟩
  ·unfold gate_Check.j1
   rw [i64_succ (by omega)]
   rw [List.length_append] at b1
   exact b1
  ·rw [b2]
   simp only [Bool.and_eq_true, List.all_eq_true, bne_iff_ne, ne_eq, List.forall_mem_cons]
   constructor
   ·rintro ⟨⟨⟨h1, h2⟩, _⟩, h3, h4⟩; exact ⟨h1, ⟨h2, h3⟩, h4⟩
   ·rintro ⟨h1, ⟨h2, h3⟩, h4⟩
    refine ⟨⟨⟨h1, h2⟩, fun y hy e => ?_⟩, h3, h4⟩
    rw [hc, List.map_append] at h4
    exact (List.nodup_append.1 h4).2.2 y.1 (List.mem_map_of_mem hy) a.1 (by simp) e.symm
theorem gateF_inner {α : Type} (Xt : Bool -> Int -> List (List QD) -> Int -> Int -> GateD -> List (Int × Int) -> Option α) (k : Nat) (x48 : List (List QD)) (x49 x50 : Int) (g : GateD) (l : List QD) (hl : l.length <= 1000) :
  ∀ (R Q : List QD) (P : List Int) (n m : Nat) (x : Bool) (c : List (Int × Int)), R.length < n -> l = Q ++ R -> m + R.length <= 1000 -> Seen (c.map (·.1)) P ->
  ∃ b c', basculeref_GateFault.l2 k Xt n x (m : Int) x48 x49 x50 l (l.length : Int) (Q.length : Int) g c = Xt b ((m + R.length : Nat) : Int) x48 x49 x50 g c' /\ (b = true ↔ x = true /\ ∀ y ∈ R, qok g.2.2.1 y = true) /\ Seen (c'.map (·.1)) (P ++ R.map (·.1))
 | R, Q, P, 0, m, x, c, h, _, _, _ => by omega
 | [], Q, P, n + 1, m, x, c, h, hc, hm, hs => by
  simp only [basculeref_GateFault.l2, basculeref_GateFault.l2s]
  have : l.length = Q.length := by rw [hc]; simp
  rw [if_neg (by rw [decide_eq_true_eq]; omega)]
  exact ⟨x, c, rfl, by simp, by simpa using hs⟩
 | a :: R, Q, P, n + 1, m, x, c, h, hc, hm, hs => by
  have hlen : l.length = Q.length + (R.length + 1) := by rw [hc]; simp
  simp only [basculeref_GateFault.l2, basculeref_GateFault.l2s]
  have hg : l.getD Q.length (0, 0, 0, 0, ()) = a := by rw [hc]; exact getD_at _ _ _ _
  simp only [List.length_cons] at hm
  rw [if_pos (by rw [decide_eq_true_eq]; omega), if_pos (by omega), i64_succ (by omega), i64_succ (by omega), toNat_nat, hg]
  simp only [upTo_run, grd, Option.bind_some, and_self']
  have e : (cond (cond (x && (decide (0 <= a.2.1) && decide (a.2.1 <= 1073741824))) (x && (decide (0 <= a.2.1) && decide (a.2.1 <= 1073741824)) && (decide (0 <= a.2.2.1) && decide (a.2.2.1 <= 2))) false) (x && (decide (0 <= a.2.1) && decide (a.2.1 <= 1073741824)) && (decide (0 <= a.2.2.1) && decide (a.2.2.1 <= 2)) && (decide (0 <= a.2.2.2.1) && decide (a.2.2.2.1 <= g.2.2.1))) false) = (x && qok g.2.2.1 a) := by
   unfold qok vl
   generalize (decide (0 <= a.2.1) && decide (a.2.1 <= 1073741824)) = b1
   generalize (decide (0 <= a.2.2.1) && decide (a.2.2.1 <= 2)) = b2
   generalize (decide (0 <= a.2.2.2.1) && decide (a.2.2.2.1 <= g.2.2.1)) = b3
   cases x <;> cases b1 <;> cases b2 <;> cases b3 <;> rfl
  have key : ∀ v : Int, Seen ((setM (beqD (.int .i64)) a.1 v c).map (·.1)) (P ++ [a.1]) := fun v => by
   have h1 := setM_keys (eqOk_int (k := .i64)) (a.1 : Int) v c
   by_cases hm' : a.1 ∈ c.map (·.1)
   ·rw [if_pos hm'] at h1; rw [h1]; exact hs.old hm'
   ·rw [if_neg hm'] at h1; rw [h1]; exact hs.new hm'
  obtain ⟨b, c', b1, b2, b3⟩ := gateF_inner Xt k x48 x49 x50 g l hl R (Q ++ [a]) (P ++ [a.1]) n (m + 1) (x && qok g.2.2.1 a) _ (by simpa using h) (by simp [hc]) (by omega) (key (IntKind.i64.wrap (getM (beqD (.int .i64)) a.1 (0 : Int) c + 1)))
  refine ⟨b, c', ?_, ?_, by simpa using b3⟩
  ·rw [List.length_append] at b1
   rw [List.length_cons, show m + (R.length + 1) = m + 1 + R.length by omega, <- b1]
   congr 1
   unfold qok vl
   generalize (decide (0 <= a.2.1) && decide (a.2.1 <= 1073741824)) = q1
   generalize (decide (0 <= a.2.2.1) && decide (a.2.2.1 <= 2)) = q2
   generalize (decide (0 <= a.2.2.2.1) && decide (a.2.2.2.1 <= g.2.2.1)) = q3
   cases x <;> cases q1 <;> cases q2 <;> cases q3 <;> rfl
  ·rw [b2]
   simp only [Bool.and_eq_true, List.forall_mem_cons, and_assoc]
def gateGood (g : GateD) : Prop := allLims g (nowOk g) = true /\ (∀ y ∈ g.2.2.2.1 ++ g.2.2.2.2.1, qok g.2.2.1 y = true) /\ (gids g).Nodup
instance (g : GateD) : Decidable (gateGood g) := by unfold gateGood; infer_instance
def gateE (g : GateD) : Int := if 40 < g.2.2.2.1.length \/ 40 < g.2.2.2.2.1.length then 1 else if gateGood g then 0 else 12
theorem gate_check (g : GateD) : gate_Check.run g = some (gateE g) := by
 unfold gate_Check.run gate_Check.top gateE
 by_cases h : 40 < g.2.2.2.1.length \/ 40 < g.2.2.2.2.1.length
 ·rw [if_pos (by rw [cond_or, Bool.or_eq_true, decide_eq_true_eq, decide_eq_true_eq]; omega), if_pos h]
 ·rw [if_neg (by rw [cond_or, Bool.or_eq_true, decide_eq_true_eq, decide_eq_true_eq]; omega), if_neg h, cond_and]
  have := lims_all (fun x3 c1 => gate_Check.j0 fuel (fun x2 => some x2) x3 c1) fuel g 18446744073709551612 (nowOk g)
  refine Eq.trans this ?_
  unfold gate_Check.j0
  rw [if_pos (fitB_small (by omega) (by omega)), if_pos (fitB_small (by omega) (by omega))]
  obtain ⟨b, b1, b2⟩ := gate_outer (fun x3 => gate_Check.j2 (fun x2 => some x2) x3) fuel (by rw [fuel_big]; omega) g (g.2.2.2.1 ++ g.2.2.2.2.1) (by simp; omega) (g.2.2.2.1 ++ g.2.2.2.2.1) [] fuel (allLims g (nowOk g)) (by rw [fuel_big]; simp; omega) rfl (fun _ => by simp)
  refine Eq.trans b1 ?_
  unfold gate_Check.j2
  have b3 : b = true ↔ gateGood g := b2
  by_cases hb : b = true
  ·rw [hb, if_neg (by decide), if_pos (b3.1 hb)]
  ·rw [if_neg (fun hq => hb (b3.2 hq)), if_pos (by simpa using hb)]
theorem gate_fault (g : GateD) : basculeref_GateFault.run g = some (gateE g) := by
 unfold basculeref_GateFault.run basculeref_GateFault.top gateE
 by_cases h : 40 < g.2.2.2.1.length \/ 40 < g.2.2.2.2.1.length
 ·rw [if_pos (by rw [cond_or, Bool.or_eq_true, decide_eq_true_eq, decide_eq_true_eq]; omega), if_pos h]
 ·rw [if_neg (by rw [cond_or, Bool.or_eq_true, decide_eq_true_eq, decide_eq_true_eq]; omega), if_neg h, upTo_run, Option.bind_some]
  have := limsF_all (fun x3 c1 => basculeref_GateFault.j0 fuel (fun x2 => some x2) x3 c1) fuel g 18446744073709551612 (nowOk g)
  refine Eq.trans this ?_
  unfold basculeref_GateFault.j0
  obtain ⟨b, c, b1, b2, b3⟩ := gateF_inner (fun x3 x6 x48 x49 x50 c1 c43 => basculeref_GateFault.j1 (basculeref_GateFault.l1 fuel (fun x3 x6 c43 => basculeref_GateFault.j2 (fun x2 => some x2) x3 x6 c43) (18446744073709551613 + 1 + 1)) x3 x6 x48 x49 x50 c1 c43) fuel [g.2.2.2.1, g.2.2.2.2.1] 2 0 g g.2.2.2.1 (by omega) g.2.2.2.1 [] [] fuel 0 (allLims g (nowOk g)) [] (by rw [fuel_big]; omega) rfl (by omega) Seen.nil
  obtain ⟨b', c', d1, d2, d3⟩ := gateF_inner (fun x3 x6 x48 x49 x50 c1 c43 => basculeref_GateFault.j1 (basculeref_GateFault.l1 fuel (fun x3 x6 c43 => basculeref_GateFault.j2 (fun x2 => some x2) x3 x6 c43) (18446744073709551613 + 1)) x3 x6 x48 x49 x50 c1 c43) fuel [g.2.2.2.1, g.2.2.2.2.1] 2 1 g g.2.2.2.2.1 (by omega) g.2.2.2.2.1 [] ([] ++ g.2.2.2.1.map (·.1)) fuel (0 + g.2.2.2.1.length) b c (by rw [fuel_big]; omega) rfl (by omega) b3
  simp only [List.nil_append] at d3
  have hgood : b' = true /\ c'.length = (0 + g.2.2.2.1.length + g.2.2.2.2.1.length) ↔ gateGood g := by
   unfold gateGood gids
   rw [d2, b2, List.map_append]
   have := d3.eq
   simp only [List.length_map, List.length_append] at this
   rw [Nat.zero_add, this]
   simp only [List.forall_mem_append, and_assoc]
  have hle := d3.le
  simp only [List.length_map, List.length_append] at hle
  have step1 : basculeref_GateFault.l1 fuel (fun x3 x6 c43 => basculeref_GateFault.j2 (fun x2 => some x2) x3 x6 c43) (18446744073709551613 + 1 + 1 + 1) (allLims g (nowOk g)) 0 [g.2.2.2.1, g.2.2.2.2.1] 2 0 g [] = basculeref_GateFault.l1 fuel (fun x3 x6 c43 => basculeref_GateFault.j2 (fun x2 => some x2) x3 x6 c43) (18446744073709551613 + 1 + 1) b ((0 + g.2.2.2.1.length : Nat) : Int) [g.2.2.2.1, g.2.2.2.2.1] 2 1 g c := by
   rw [basculeref_GateFault.l1]
   unfold basculeref_GateFault.l1s
   rw [if_pos (by decide), if_pos (by constructor <;> simp)]
   exact b1
  have step2 : basculeref_GateFault.l1 fuel (fun x3 x6 c43 => basculeref_GateFault.j2 (fun x2 => some x2) x3 x6 c43) (18446744073709551613 + 1 + 1) b ((0 + g.2.2.2.1.length : Nat) : Int) [g.2.2.2.1, g.2.2.2.2.1] 2 1 g c = basculeref_GateFault.l1 fuel (fun x3 x6 c43 => basculeref_GateFault.j2 (fun x2 => some x2) x3 x6 c43) (18446744073709551613 + 1) b' ((0 + g.2.2.2.1.length + g.2.2.2.2.1.length : Nat) : Int) [g.2.2.2.1, g.2.2.2.2.1] 2 2 g c' := by
   rw [basculeref_GateFault.l1]
   unfold basculeref_GateFault.l1s
   rw [if_pos (by decide), if_pos (by constructor <;> simp)]
   exact d1
  refine Eq.trans (show _ = _ from step1) (step2.trans ?_)
  rw [basculeref_GateFault.l1]
  unfold basculeref_GateFault.l1s basculeref_GateFault.j2
  rw [if_neg (by decide)]
  show (bif decide (Nat.ble c'.length 9223372036854775807 = true) || !((!b') == false) then _ else none) = _
  rw [decide_eq_true (Nat.ble_eq_true_of_le (by omega)), Bool.true_or, cond_true]
  by_cases hq : gateGood g
  ·obtain ⟨q1, q2⟩ := hgood.2 hq
   rw [if_pos hq, if_neg]
   rw [q1, cond_or, Bool.or_eq_true, bne_iff_ne]
   simp [q2]
  ·rw [if_neg hq, if_pos]
   rw [cond_or, Bool.or_eq_true, bne_iff_ne]
   cases hb : b' with
   | false => exact .inl rfl
   | true =>
    refine .inr fun e => hq (hgood.1 ⟨hb, ?_⟩)
    omega
abbrev QTy : Ty := .pair (.int .i64) (.pair (.int .i64) (.pair (.int .i64) (.pair (.int .i64) .unit)))
abbrev GateTy : Ty := .pair (.arr 3 (.int .i64)) (.pair (.arr 3 (.int .i64)) (.pair (.int .i64) (.pair (.sl QTy) (.pair (.sl QTy) .unit))))
end Go.Bx
