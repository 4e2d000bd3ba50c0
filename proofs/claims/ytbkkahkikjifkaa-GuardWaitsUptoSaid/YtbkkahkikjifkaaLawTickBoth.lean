/- A part of a framework that reads Go code as functions of plain data; or a law about such functions. -/
import Derived.Test.YtbkkahkikjifkaaLawGateFits
import Derived.Test.YtbkkahkikjifkaaFnGuardWaits0
namespace Go.Bx
open Go
set_option linter.unusedSimpArgs false
set_option linter.unusedVariables false
def young (now : Int) (l : List QD) : List QD := l.filter fun y => decide (now - y.2.2.2.1 < 24)
theorem young_length (now : Int) (l : List QD) : (young now l).length <= l.length := List.length_filter_le _ _
theorem tick_past {α : Type} (Xt : List QD -> List Int -> List Int -> Int -> List Int -> List Int -> Int -> List QD -> Option α) (k : Nat) (x9 : List QD) (li bi a b : List Int) (now c : Int) (hN : now <= 1099511628776) (l : List QD) (hl : l.length <= 40) : ∀ (R P : List QD) (n : Nat) (acc : List QD), R.length < n -> l = P ++ R -> Qs now R -> acc.length <= P.length ->
  gate_Tick.l0 k Xt n x9 l (l.length : Int) (P.length : Int) li bi now a b c acc = Xt x9 li bi now a b c (acc ++ young now R) := by
 intro R
 induction R with
 | nil =>
  intro P n acc h hc hq ha
  obtain ⟨n, rfl⟩ : ∃ m, n = m + 1 := ⟨n - 1, by have := h; simp only [List.length_nil] at this; omega⟩
  simp only [gate_Tick.l0, gate_Tick.l0s]
  have : l.length = P.length := by rw [hc]; simp
  rw [if_neg (by rw [decide_eq_true_eq]; omega)]
  simp [young]
 | cons y R IH =>
  intro P n acc h hc hq ha
  obtain ⟨n, rfl⟩ : ∃ m, n = m + 1 := ⟨n - 1, by have := h; simp only [List.length_cons] at this; omega⟩
  have hlen : l.length = P.length + (R.length + 1) := by rw [hc]; simp
  obtain ⟨q1, q2⟩ := hq.cons
  simp only [gate_Tick.l0, gate_Tick.l0s]
  have hg : l.getD P.length (0, 0, 0, 0, ()) = y := by rw [hc]; exact getD_at _ _ _ _
  rw [if_pos (by rw [decide_eq_true_eq]; omega), if_pos (by omega), toNat_nat, hg, wrap_i64 (x := now - y.2.2.2.1) (by omega) (by omega)]
  unfold gate_Tick.j0
  rw [i64_succ (by omega)]
  by_cases hy : now - y.2.2.2.1 < 24
  ·rw [if_pos (by rw [decide_eq_true_eq]; exact hy), if_pos (fitB_small (by omega) (by omega))]
   have ih := IH (P ++ [y]) n (acc ++ [y]) (by simpa using h) (by simp [hc]) q2 (by simp; exact ha)
   rw [List.length_append] at ih
   refine Eq.trans ih ?_
   simp [young, List.filter_cons, hy]
  ·rw [if_neg (by rw [decide_eq_true_eq]; exact hy)]
   have ih := IH (P ++ [y]) n acc (by simpa using h) (by simp [hc]) q2 (by simp; omega)
   rw [List.length_append] at ih
   refine Eq.trans ih ?_
   simp [young, List.filter_cons, hy]
theorem tickF_past {α : Type} (Xt : GateD -> List Int -> List Int -> Int -> List Int -> List Int -> Int -> List QD -> Option α) (k : Nat) (g : GateD) (li bi a b : List Int) (now c : Int) (hN : now <= 1099511628776) (l : List QD) (hl : l.length <= 40) : ∀ (R P : List QD) (n : Nat) (acc : List QD), R.length < n -> l = P ++ R -> Qs now R -> acc.length <= P.length ->
  basculeref_Ticked.l0 k Xt n l (l.length : Int) (P.length : Int) g a b c li bi now acc = Xt g a b c li bi now (acc ++ young now R) := by
 intro R
 induction R with
 | nil =>
  intro P n acc h hc hq ha
  obtain ⟨n, rfl⟩ : ∃ m, n = m + 1 := ⟨n - 1, by have := h; simp only [List.length_nil] at this; omega⟩
  simp only [basculeref_Ticked.l0, basculeref_Ticked.l0s]
  have : l.length = P.length := by rw [hc]; simp
  rw [if_neg (by rw [decide_eq_true_eq]; omega)]
  simp [young]
 | cons y R IH =>
  intro P n acc h hc hq ha
  obtain ⟨n, rfl⟩ : ∃ m, n = m + 1 := ⟨n - 1, by have := h; simp only [List.length_cons] at this; omega⟩
  have hlen : l.length = P.length + (R.length + 1) := by rw [hc]; simp
  obtain ⟨q1, q2⟩ := hq.cons
  simp only [basculeref_Ticked.l0, basculeref_Ticked.l0s]
  have hg : l.getD P.length (0, 0, 0, 0, ()) = y := by rw [hc]; exact getD_at _ _ _ _
  rw [if_pos (by rw [decide_eq_true_eq]; omega), if_pos (by omega), toNat_nat, hg, wrap_i64 (x := y.2.2.2.1 + 24) (by omega) (by omega)]
  unfold basculeref_Ticked.j0
  rw [i64_succ (by omega)]
  by_cases hy : now - y.2.2.2.1 < 24
  ·rw [if_pos (by rw [decide_eq_true_eq]; omega), if_pos (fitB_small (by omega) (by omega))]
   have ih := IH (P ++ [y]) n (acc ++ [y]) (by simpa using h) (by simp [hc]) q2 (by simp; exact ha)
   rw [List.length_append] at ih
   refine Eq.trans ih ?_
   simp [young, List.filter_cons, hy]
  ·rw [if_neg (by rw [decide_eq_true_eq]; omega)]
   have ih := IH (P ++ [y]) n acc (by simpa using h) (by simp [hc]) q2 (by simp; omega)
   rw [List.length_append] at ih
   refine Eq.trans ih ?_
   simp [young, List.filter_cons, hy]
theorem tick_queue {α : Type} (Xt : List Int -> List Int -> Int -> List Int -> List Int -> Int -> List QD -> List QD -> List Int -> Option α) (Xu : List Int -> List Int -> Int -> List Int -> List Int -> Int -> List QD -> List QD -> List Int -> Option α) (k k' : Nat) (li bi a b : List Int) (now c : Int) (h0 : 0 <= now) (hN : now <= 1099511628776) (l : List QD) (hl : l.length <= 40) : ∀ (R P : List QD) (n n' : Nat) (past queue : List QD) (out : List Int), R.length < n -> R.length < n' -> l = P ++ R -> Qs now R -> Qs now past -> past.length <= 40 + P.length -> queue.length <= P.length -> out.length <= P.length ->
  ∃ p q o, gate_Tick.l1 k Xt n l (l.length : Int) (P.length : Int) li bi now a b c past queue out = Xt li bi now a b c p q o /\ basculeref_Ticked.l1 k' Xu n' l (l.length : Int) (P.length : Int) a b c li bi now past queue out = Xu a b c li bi now p q o /\ p.length <= 80 /\ q.length <= 40 /\ o.length <= 40 := by
 intro R
 induction R with
 | nil =>
  intro P n n' past queue out h h' hc hq hqp hp hqu ho
  obtain ⟨n, rfl⟩ : ∃ m, n = m + 1 := ⟨n - 1, by have := h; simp only [List.length_nil] at this; omega⟩
  obtain ⟨n', rfl⟩ : ∃ m, n' = m + 1 := ⟨n' - 1, by have := h'; simp only [List.length_nil] at this; omega⟩
  have : l.length = P.length := by rw [hc]; simp
  refine ⟨past, queue, out, ?_, ?_, by omega, by omega, by omega⟩
  ·simp only [gate_Tick.l1, gate_Tick.l1s]
   rw [if_neg (by rw [decide_eq_true_eq]; omega)]
  ·simp only [basculeref_Ticked.l1, basculeref_Ticked.l1s]
   rw [if_neg (by rw [decide_eq_true_eq]; omega)]
 | cons y R IH =>
  intro P n n' past queue out h h' hc hq hqp hp hqu ho
  obtain ⟨n, rfl⟩ : ∃ m, n = m + 1 := ⟨n - 1, by have := h; simp only [List.length_cons] at this; omega⟩
  obtain ⟨n', rfl⟩ : ∃ m, n' = m + 1 := ⟨n' - 1, by have := h'; simp only [List.length_cons] at this; omega⟩
  have hlen : l.length = P.length + (R.length + 1) := by rw [hc]; simp
  obtain ⟨q1, q2⟩ := hq.cons
  have hg : l.getD P.length (0, 0, 0, 0, ()) = y := by rw [hc]; exact getD_at _ _ _ _
  have hf := fits_run (li, bi, now, past, queue, ()) y hN (by show past.length <= 1000; omega) hqp ⟨q1.2.2.1, q1.2.2.2.1⟩ ⟨q1.1, q1.2.1⟩
  have hf' := passes_run (li, bi, now, past, queue, ()) y hN (by show past.length <= 1000; omega) hqp ⟨q1.2.2.1, q1.2.2.2.1⟩ ⟨q1.1, q1.2.1⟩
  have d1 : decide ((P.length : Int) < (l.length : Int)) = true := by rw [decide_eq_true_eq]; omega
  have d2 : 0 <= (P.length : Int) /\ (P.length : Int) < (l.length : Int) := by omega
  have d3 : IntKind.i64.wrap ((P.length : Int) + 1) = ((P.length + 1 : Nat) : Int) := i64_succ (by omega)
  have d4 : IntKind.i64.wrap (now - y.2.2.2.1) = now - y.2.2.2.1 := wrap_i64 (by omega) (by omega)
  have d5 : IntKind.i64.wrap (y.2.2.2.1 + 24) = y.2.2.2.1 + 24 := wrap_i64 (by omega) (by omega)
  simp only [gate_Tick.l1, gate_Tick.l1s, basculeref_Ticked.l1, basculeref_Ticked.l1s, d1, if_true, if_pos d2, toNat_nat, hg, d4, d5, hf, hf', gate_Tick.j2, basculeref_Ticked.j2, d3, Option.bind_some]
  have hlp : (P ++ [y]).length = P.length + 1 := by simp
  by_cases hr : now - y.2.2.2.1 < 24
  ·have e1 : decide (now - y.2.2.2.1 >= 24) = false := by rw [decide_eq_false_iff_not]; omega
   have e2 : decide (y.2.2.2.1 + 24 <= now) = false := by rw [decide_eq_false_iff_not]; omega
   simp only [e1, e2, Bool.false_eq_true, if_false, Bool.not_false, BEq.rfl, if_true, Option.bind_some, cond_true, Bool.not_eq_true']
   cases hfb : fitsB (li, bi, now, past, queue, ()) y with
   | true =>
    simp only [if_true, Bool.true_eq_false, if_false]
    rw [if_pos (fitB_small (by omega) (by omega)), if_pos (fitB_small (by omega) (by omega)), if_pos (fitB_small (by omega) (by omega))]
    try rw [if_pos (fitB_small (by omega) (by omega))]
    obtain ⟨p, q, o, r1, r2, r3⟩ := IH (P ++ [y]) n n' (past ++ [(y.1, y.2.1, y.2.2.1, now, ())]) queue (out ++ [y.1]) (by simpa using h) (by simpa using h') (by simp [hc]) q2 (fun z hz => by
     rcases List.mem_append.1 hz with hz | hz
     ·exact hqp z hz
     ·simp only [List.mem_singleton] at hz; subst hz; exact ⟨q1.1, q1.2.1, q1.2.2.1, q1.2.2.2.1, h0, Int.le_refl _⟩) (by simp; omega) (by rw [hlp]; omega) (by simp; omega)
    rw [hlp] at r1 r2
    exact ⟨p, q, o, r1, r2, r3⟩
   | false =>
    simp only [Bool.false_eq_true, if_false, if_true]
    rw [if_pos (fitB_small (by omega) (by omega))]
    try rw [if_pos (fitB_small (by omega) (by omega))]
    obtain ⟨p, q, o, r1, r2, r3⟩ := IH (P ++ [y]) n n' past (queue ++ [y]) out (by simpa using h) (by simpa using h') (by simp [hc]) q2 hqp (by rw [hlp]; omega) (by simp; omega) (by rw [hlp]; omega)
    rw [hlp] at r1 r2
    exact ⟨p, q, o, r1, r2, r3⟩
  ·have e1 : decide (now - y.2.2.2.1 >= 24) = true := by rw [decide_eq_true_eq]; omega
   have e2 : decide (y.2.2.2.1 + 24 <= now) = true := by rw [decide_eq_true_eq]; omega
   simp only [e1, e2, Bool.not_true, Bool.false_eq_true, if_false, if_true, Option.bind_some, cond_false, show (false == true) = false from rfl]
   rw [if_pos (fitB_small (by omega) (by omega))]
   try rw [if_pos (fitB_small (by omega) (by omega))]
   obtain ⟨p, q, o, r1, r2, r3⟩ := IH (P ++ [y]) n n' past queue (out ++ [y.1]) (by simpa using h) (by simpa using h') (by simp [hc]) q2 hqp (by rw [hlp]; omega) (by rw [hlp]; omega) (by simp; omega)
   rw [hlp] at r1 r2
   exact ⟨p, q, o, r1, r2, r3⟩
theorem young_qs {now : Int} {l : List QD} (h : Qs now l) : Qs now (young now l) := fun y hy => h y (List.mem_filter.1 hy).1
theorem Qs.later {a b : Int} {l : List QD} (h : Qs a l) (hab : a <= b) : Qs b l := fun y hy => by have := h y hy; omega
theorem tick_both (g : GateD) (t : Int) : ∃ r, gate_Tick.run g t = some r /\ basculeref_Ticked.run g t = some r /\ r.1.2.2.2.1.length <= 80 /\ r.1.2.2.2.2.1.length <= 80 /\ r.2.1.length <= 80 := by
 unfold gate_Tick.run gate_Tick.top basculeref_Ticked.run basculeref_Ticked.top
 rw [gate_check, gate_fault, Option.bind_some, Option.bind_some]
 by_cases he : gateE g = 0
 ·obtain ⟨k1, k2, k3⟩ := gateE_ok he
  obtain ⟨n0, n1, q1, q2⟩ := gateGood_parts k3
  simp only [he, show ((0 : Int) != 0) = false from rfl, Bool.false_eq_true, if_false]
  by_cases ht : 1 <= t /\ t <= 1000
  ·have c1 : (cond (cond (decide (t < 1)) true (decide (t > 1000))) true (decide ((IntKind.i64.wrap (g.2.2.1 + t)) > 1099511627776))) = decide (1099511627776 < g.2.2.1 + t) := by
    rw [wrap_i64 (by omega) (by omega), decide_eq_false (by omega), decide_eq_false (by omega)]; rfl
   have c2 : (cond (cond (decide (t < 1)) true (decide (t > 1000))) true (decide (g.2.2.1 > (IntKind.i64.wrap (1099511627776 - t))))) = decide (1099511627776 < g.2.2.1 + t) := by
    rw [wrap_i64 (by omega) (by omega), decide_eq_false (by omega : ¬ t < 1), decide_eq_false (by omega : ¬ t > 1000)]
    simp only [cond_false]
    rw [decide_eq_decide]; omega
   simp only [c1, c2]
   by_cases hb : 1099511627776 < g.2.2.1 + t
   ·simp only [hb, decide_true, if_true]
    exact ⟨_, rfl, rfl, by simp, by simp, by simp⟩
   ·simp only [hb, decide_false, Bool.false_eq_true, if_false]
    rw [wrap_i64 (x := g.2.2.1 + t) (by omega) (by omega)]
    have hq1 := q1.later (b := g.2.2.1 + t) (by omega)
    have hq2 := q2.later (b := g.2.2.1 + t) (by omega)
    have p1 := tick_past (fun x9 c2p0 c2p1 c2p2 c4p0 c4p1 c4p2 c62 => gate_Tick.j1 fuel (fun x5 x6 c4 => some (c4, x5, x6, ())) x9 c2p0 c2p1 c2p2 c4p0 c4p1 c4p2 c62) fuel g.2.2.2.2.1 g.1 g.2.1 [0, 0, 0] [0, 0, 0] (g.2.2.1 + t) 0 (by omega) g.2.2.2.1 k1 g.2.2.2.1 [] fuel [] (by rw [fuel_big]; omega) rfl hq1 (by simp)
    have p2 := tickF_past (fun c2 c4p0 c4p1 c4p2 c8p0 c8p1 c8p2 c61 => basculeref_Ticked.j1 fuel (fun x5 x6 c4 => some (c4, x5, x6, ())) c2 c4p0 c4p1 c4p2 c8p0 c8p1 c8p2 c61) fuel g g.1 g.2.1 [0, 0, 0] [0, 0, 0] (g.2.2.1 + t) 0 (by omega) g.2.2.2.1 k1 g.2.2.2.1 [] fuel [] (by rw [fuel_big]; omega) rfl hq1 (by simp)
    have hyl := young_length (g.2.2.1 + t) g.2.2.2.1
    obtain ⟨p, q, o, r1, r2, r3, r4, r5⟩ := tick_queue (fun c2p0 c2p1 c2p2 c4p0 c4p1 c4p2 c62 c75 c88 => gate_Tick.j3 (fun x5 x6 c4 => some (c4, x5, x6, ())) c2p0 c2p1 c2p2 c4p0 c4p1 c4p2 c62 c75 c88) (fun c4p0 c4p1 c4p2 c8p0 c8p1 c8p2 c61 c89 c95 => basculeref_Ticked.j3 (fun x5 x6 c4 => some (c4, x5, x6, ())) c4p0 c4p1 c4p2 c8p0 c8p1 c8p2 c61 c89 c95) fuel fuel g.1 g.2.1 [0, 0, 0] [0, 0, 0] (g.2.2.1 + t) 0 (by omega) (by omega) g.2.2.2.2.1 k2 g.2.2.2.2.1 [] fuel fuel (young (g.2.2.1 + t) g.2.2.2.1) [] [] (by rw [fuel_big]; omega) (by rw [fuel_big]; omega) rfl hq2 (young_qs hq1) (by omega) (by simp) (by simp)
    refine ⟨((g.1, g.2.1, g.2.2.1 + t, p, q, ()), o, 0, ()), ?_, ?_, by simp; omega, by simp; omega, by simp; omega⟩
    ·refine Eq.trans p1 ?_
     unfold gate_Tick.j1
     refine Eq.trans r1 ?_
     rfl
    ·refine Eq.trans p2 ?_
     unfold basculeref_Ticked.j1
     refine Eq.trans r2 ?_
     rfl
  ·have c0 : (cond (decide (t < 1)) true (decide (t > 1000))) = true := by rw [cond_or, Bool.or_eq_true, decide_eq_true_eq, decide_eq_true_eq]; omega
   simp only [c0, cond_true, if_true]
   exact ⟨_, rfl, rfl, by simp, by simp, by simp⟩
 ·have hn : (gateE g != 0) = true := by simpa using he
  simp only [hn, if_true]
  exact ⟨_, rfl, rfl, by simp, by simp, by simp⟩
end Go.Bx
