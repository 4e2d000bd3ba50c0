/- A part of a framework that reads Go code as functions of plain data; or a law about such functions. -/
import Derived.Test.YtbkkahkikjifkaaLawGateFits
import Derived.Test.YtbkkahkikjifkaaFnGuardSees0
namespace Go.Bx
open Go
set_option linter.unusedSimpArgs false
set_option linter.unusedVariables false
abbrev G0 : GateD := ([0, 0, 0], [0, 0, 0], 0, [], [], ())
theorem offer_inner {α : Type} (Rt : Bool -> Int -> GateD -> Option α) (Xt : Int -> Int -> Int -> List (List QD) -> Int -> GateD -> List Int -> List Int -> Int -> Option α) (k : Nat) (id v ch : Int) (x39 : List (List QD)) (x40 : Int) (g : GateD) (a b : List Int) (c : Int) (l : List QD) (hl : l.length <= 1000) :
  ∀ (R P : List QD) (n : Nat), R.length < n -> l = P ++ R ->
  gate_Offer.l1 k Rt Xt n id v ch x39 x40 l (l.length : Int) (P.length : Int) g a b c = if id ∈ R.map (·.1) then Rt false 8 G0 else Xt id v ch x39 x40 g a b c
 | R, P, 0, h, _ => by omega
 | [], P, n + 1, h, hc => by
  simp only [gate_Offer.l1, gate_Offer.l1s]
  have : l.length = P.length := by rw [hc]; simp
  rw [if_neg (by rw [decide_eq_true_eq]; omega), if_neg (by simp)]
 | y :: R, P, n + 1, h, hc => by
  have hlen : l.length = P.length + (R.length + 1) := by rw [hc]; simp
  simp only [gate_Offer.l1, gate_Offer.l1s]
  have hg : l.getD P.length (0, 0, 0, 0, ()) = y := by rw [hc]; exact getD_at _ _ _ _
  rw [if_pos (by rw [decide_eq_true_eq]; omega), if_pos (by omega), i64_succ (by omega), toNat_nat, hg]
  have ih := offer_inner Rt Xt k id v ch x39 x40 g a b c l hl R (P ++ [y]) n (by simpa using h) (by simp [hc])
  rw [List.length_append] at ih
  by_cases he : y.1 = id
  ·rw [if_pos (by simpa using he), if_pos (by simp [he])]
  ·rw [if_neg (by simpa using he)]
   refine Eq.trans ih ?_
   by_cases hr : id ∈ R.map (·.1)
   ·rw [if_pos hr, if_pos (by rw [List.map_cons]; exact List.mem_cons_of_mem _ hr)]
   ·rw [if_neg hr, if_neg (by rw [List.map_cons, List.mem_cons, not_or]; exact ⟨fun e => he e.symm, hr⟩)]
theorem offerF_inner {α : Type} (Rt : Bool -> Int -> GateD -> Option α) (Xt : Int -> Int -> Int -> GateD -> List Int -> List Int -> Int -> Option α) (k : Nat) (id v ch : Int) (g : GateD) (a b : List Int) (c : Int) (l : List QD) (hl : l.length <= 1000) :
  ∀ (R P : List QD) (n : Nat), R.length < n -> l = P ++ R ->
  basculeref_Offered.l0 k Rt Xt n id v ch (l.length : Int) (P.length : Int) g a b c l = if id ∈ R.map (·.1) then Rt false 8 G0 else Xt id v ch g a b c
 | R, P, 0, h, _ => by omega
 | [], P, n + 1, h, hc => by
  simp only [basculeref_Offered.l0, basculeref_Offered.l0s]
  have : l.length = P.length := by rw [hc]; simp
  rw [if_neg (by rw [decide_eq_true_eq]; omega), if_neg (by simp)]
 | y :: R, P, n + 1, h, hc => by
  have hlen : l.length = P.length + (R.length + 1) := by rw [hc]; simp
  simp only [basculeref_Offered.l0, basculeref_Offered.l0s]
  have hg : l.getD P.length (0, 0, 0, 0, ()) = y := by rw [hc]; exact getD_at _ _ _ _
  rw [if_pos (by rw [decide_eq_true_eq]; omega), if_pos (by omega), i64_succ (by omega), toNat_nat, hg]
  have ih := offerF_inner Rt Xt k id v ch g a b c l hl R (P ++ [y]) n (by simpa using h) (by simp [hc])
  rw [List.length_append] at ih
  by_cases he : y.1 = id
  ·rw [if_pos (by simpa using he), if_pos (by simp [he])]
  ·rw [if_neg (by simpa using he)]
   refine Eq.trans ih ?_
   by_cases hr : id ∈ R.map (·.1)
   ·rw [if_pos hr, if_pos (by rw [List.map_cons]; exact List.mem_cons_of_mem _ hr)]
   ·rw [if_neg hr, if_neg (by rw [List.map_cons, List.mem_cons, not_or]; exact ⟨fun e => he e.symm, hr⟩)]
theorem offer_outer {α : Type} (Rt : Bool -> Int -> GateD -> Option α) (Xt : Int -> Int -> Int -> GateD -> List Int -> List Int -> Int -> Option α) (k : Nat) (hk : 1000 < k) (id v ch : Int) (g : GateD) (a b : List Int) (c : Int) (h1 : g.2.2.2.1.length <= 40) (h2 : g.2.2.2.2.1.length <= 40) (n : Nat) :
  gate_Offer.l0 k Rt Xt (n + 3) id v ch [g.2.2.2.1, g.2.2.2.2.1] 0 g a b c = if id ∈ g.2.2.2.1.map (·.1) then Rt false 8 G0 else if id ∈ g.2.2.2.2.1.map (·.1) then Rt false 8 G0 else Xt id v ch g a b c := by
 have step1 : gate_Offer.l0 k Rt Xt (n + 2 + 1) id v ch [g.2.2.2.1, g.2.2.2.2.1] 0 g a b c = if id ∈ g.2.2.2.1.map (·.1) then Rt false 8 G0 else gate_Offer.l0 k Rt Xt (n + 1 + 1) id v ch [g.2.2.2.1, g.2.2.2.2.1] 1 g a b c := by
  rw [gate_Offer.l0]
  unfold gate_Offer.l0s
  rw [if_pos (by decide), if_pos (by decide)]
  exact offer_inner (fun x9 x10 c8 => Rt x9 x10 c8) (fun x1 x2 x3 x39 x40 c4 c8p0 c8p1 c8p2 => gate_Offer.j0 (gate_Offer.l0 k Rt Xt (n + 2)) x1 x2 x3 x39 x40 c4 c8p0 c8p1 c8p2) k id v ch [g.2.2.2.1, g.2.2.2.2.1] 0 g a b c g.2.2.2.1 (by omega) g.2.2.2.1 [] k (by omega) rfl
 have step2 : gate_Offer.l0 k Rt Xt (n + 1 + 1) id v ch [g.2.2.2.1, g.2.2.2.2.1] 1 g a b c = if id ∈ g.2.2.2.2.1.map (·.1) then Rt false 8 G0 else gate_Offer.l0 k Rt Xt (n + 1) id v ch [g.2.2.2.1, g.2.2.2.2.1] 2 g a b c := by
  rw [gate_Offer.l0]
  unfold gate_Offer.l0s
  rw [if_pos (by decide), if_pos (by decide)]
  exact offer_inner (fun x9 x10 c8 => Rt x9 x10 c8) (fun x1 x2 x3 x39 x40 c4 c8p0 c8p1 c8p2 => gate_Offer.j0 (gate_Offer.l0 k Rt Xt (n + 1)) x1 x2 x3 x39 x40 c4 c8p0 c8p1 c8p2) k id v ch [g.2.2.2.1, g.2.2.2.2.1] 1 g a b c g.2.2.2.2.1 (by omega) g.2.2.2.2.1 [] k (by omega) rfl
 have step3 : gate_Offer.l0 k Rt Xt (n + 1) id v ch [g.2.2.2.1, g.2.2.2.2.1] 2 g a b c = Xt id v ch g a b c := by
  rw [gate_Offer.l0]
  unfold gate_Offer.l0s
  rw [if_neg (by decide)]
 refine step1.trans ?_
 rw [step2, step3]
def offerR (g : GateD) (id v ch : Int) : GateD × Bool × Int × Unit :=
 if gateE g ≠ 0 then (G0, false, gateE g, ())
 else if ¬ (0 <= v /\ v <= 1073741824 /\ 0 <= ch /\ ch <= 2) then (G0, false, 6, ())
 else if id ∈ gids g then (G0, false, 8, ())
 else if fitsB g (id, v, ch, g.2.2.1, ()) = true then ((g.1, g.2.1, g.2.2.1, g.2.2.2.1 ++ [(id, v, ch, g.2.2.1, ())], g.2.2.2.2.1, ()), true, 0, ())
 else if 40 <= g.2.2.2.2.1.length then (G0, false, 9, ())
 else ((g.1, g.2.1, g.2.2.1, g.2.2.2.1, g.2.2.2.2.1 ++ [(id, v, ch, g.2.2.1, ())], ()), false, 0, ())
theorem offer_fresh (g : GateD) (h1 : g.2.2.2.1.length <= 1000) (h2 : g.2.2.2.2.1.length <= 1000) : gate_fresh_s0.run g = some (g.1, g.2.1, g.2.2.1, g.1, g.2.1, g.2.2.1, g.2.2.2.1, g.2.2.2.2.1, ()) := by
 unfold gate_fresh_s0.run gate_fresh_s0.top
 rw [if_pos (fitB_small (by omega) (by omega)), if_pos (fitB_small (by omega) (by omega))]
theorem vl_iff {v : Int} : vl v = true ↔ 0 <= v /\ v <= 1073741824 := by simp [vl]
theorem offer_run (g : GateD) (id v ch : Int) : gate_Offer.run g id v ch = some (offerR g id v ch) := by
 unfold gate_Offer.run gate_Offer.top offerR
 rw [gate_check, Option.bind_some]
 by_cases he : gateE g = 0
 ·obtain ⟨k1, k2, k3⟩ := gateE_ok he
  obtain ⟨n0, n1, q1, q2⟩ := gateGood_parts k3
  rw [he, if_neg (by decide), if_neg (by simp), value_run, Option.bind_some]
  by_cases hb : 0 <= v /\ v <= 1073741824 /\ 0 <= ch /\ ch <= 2
  ·rw [if_neg (by rw [cond_or, cond_or, vl_iff.2 ⟨hb.1, hb.2.1⟩]; simp only [Bool.or_eq_true, decide_eq_true_eq]; simp; omega), if_neg (by simp; omega)]
   refine (offer_outer (fun x9 x10 c8 => some (c8, x9, x10, ())) (fun x1 x2 x3 c4 c8p0 c8p1 c8p2 => gate_Offer.j1 (fun x9 x10 c8 => some (c8, x9, x10, ())) x1 x2 x3 c4 c8p0 c8p1 c8p2) fuel (by rw [fuel_big]; omega) id v ch g [0, 0, 0] [0, 0, 0] 0 k1 k2 18446744073709551613).trans ?_
   have hmem : id ∈ gids g ↔ id ∈ g.2.2.2.1.map (·.1) \/ id ∈ g.2.2.2.2.1.map (·.1) := by unfold gids; rw [List.map_append, List.mem_append]
   by_cases h1 : id ∈ g.2.2.2.1.map (·.1)
   ·rw [if_pos h1, if_pos (hmem.2 (.inl h1))]
   ·rw [if_neg h1]
    by_cases h2 : id ∈ g.2.2.2.2.1.map (·.1)
    ·rw [if_pos h2, if_pos (hmem.2 (.inr h2))]
    ·rw [if_neg h2, if_neg (fun hm => (hmem.1 hm).elim h1 h2)]
     unfold gate_Offer.j1
     rw [offer_fresh g (by omega) (by omega), Option.bind_some]
     simp only
     have hf : gate_fits.run (g.1, g.2.1, g.2.2.1, g.2.2.2.1, g.2.2.2.2.1, ()) (id, v, ch, g.2.2.1, ()) = some (fitsB g (id, v, ch, g.2.2.1, ())) := fits_run g (id, v, ch, g.2.2.1, ()) (by omega) (by omega) q1 ⟨hb.2.2.1, hb.2.2.2⟩ ⟨hb.1, hb.2.1⟩
     rw [hf, Option.bind_some]
     by_cases hfit : fitsB g (id, v, ch, g.2.2.1, ()) = true
     ·rw [if_pos hfit, if_pos hfit, if_pos (fitB_small (by omega) (by omega))]
     ·rw [if_neg hfit, if_neg hfit]
      by_cases h40 : 40 <= g.2.2.2.2.1.length
      ·rw [if_pos (by rw [beq_iff_eq]; omega), if_pos h40]
      ·rw [if_neg (by rw [beq_iff_eq]; omega), if_neg h40, if_pos (fitB_small (by omega) (by omega))]
  ·rw [if_pos, if_pos hb]
   rw [cond_or, cond_or]
   simp only [Bool.or_eq_true, decide_eq_true_eq, Bool.not_eq_true']
   rw [<- Bool.not_eq_true, vl_iff]
   omega
 ·rw [if_pos (by simpa using he), if_pos he]
theorem offered_run (g : GateD) (id v ch : Int) : basculeref_Offered.run g id v ch = some (offerR g id v ch) := by
 unfold basculeref_Offered.run basculeref_Offered.top offerR
 rw [gate_fault, Option.bind_some]
 by_cases he : gateE g = 0
 ·obtain ⟨k1, k2, k3⟩ := gateE_ok he
  obtain ⟨n0, n1, q1, q2⟩ := gateGood_parts k3
  rw [he, if_neg (show ¬ (((0 : Int) != 0) = true) by decide), if_neg (show ¬ ((0 : Int) ≠ 0) by simp), upTo_run, upTo_run, Option.bind_some]
  have hg2 : (if (not (decide (0 <= v) && decide (v <= 1073741824)) == false) = true then some (decide (0 <= ch) && decide (ch <= 2)) else some false) = some ((decide (0 <= v) && decide (v <= 1073741824)) && (decide (0 <= ch) && decide (ch <= 2))) := by
   cases (decide (0 <= v) && decide (v <= 1073741824)) <;> rfl
  rw [hg2, Option.bind_some]
  by_cases hb : 0 <= v /\ v <= 1073741824 /\ 0 <= ch /\ ch <= 2
  ·rw [decide_eq_true hb.1, decide_eq_true hb.2.1, decide_eq_true hb.2.2.1, decide_eq_true hb.2.2.2, if_neg (by decide), if_neg (show ¬ ¬ (0 <= v /\ v <= 1073741824 /\ 0 <= ch /\ ch <= 2) from fun h => h hb), if_pos (fitB_small (by omega) (by omega)), if_pos (fitB_small (by omega) (by omega))]
   have := offerF_inner (fun x9 x10 c8 => some (c8, x9, x10, ())) (fun x1 x2 x3 c4 c8p0 c8p1 c8p2 => basculeref_Offered.j0 (fun x9 x10 c8 => some (c8, x9, x10, ())) x1 x2 x3 c4 c8p0 c8p1 c8p2) fuel id v ch g [0, 0, 0] [0, 0, 0] 0 (g.2.2.2.1 ++ g.2.2.2.2.1) (by simp; omega) (g.2.2.2.1 ++ g.2.2.2.2.1) [] fuel (by rw [fuel_big]; simp; omega) rfl
   refine Eq.trans this ?_
   rw [show (g.2.2.2.1 ++ g.2.2.2.2.1).map (·.1) = gids g from rfl]
   by_cases hm : id ∈ gids g
   ·rw [if_pos hm, if_pos hm]
   ·rw [if_neg hm, if_neg hm]
    unfold basculeref_Offered.j0
    rw [passes_run g (id, v, ch, g.2.2.1, ()) (by omega) (by omega) q1 ⟨hb.2.2.1, hb.2.2.2⟩ ⟨hb.1, hb.2.1⟩, Option.bind_some]
    by_cases hfit : fitsB g (id, v, ch, g.2.2.1, ()) = true
    ·rw [if_pos hfit, if_pos hfit, if_pos (fitB_small (by omega) (by omega)), if_pos (fitB_small (by omega) (by omega))]
    ·rw [if_neg hfit, if_neg hfit]
     by_cases h40 : 40 <= g.2.2.2.2.1.length
     ·rw [if_pos (by rw [decide_eq_true_eq]; omega), if_pos h40]
     ·rw [if_neg (by rw [decide_eq_true_eq]; omega), if_neg h40, if_pos (fitB_small (by omega) (by omega)), if_pos (fitB_small (by omega) (by omega))]
  ·have hcnd : (cond (not (decide (0 <= v) && decide (v <= 1073741824))) true (not ((decide (0 <= v) && decide (v <= 1073741824)) && (decide (0 <= ch) && decide (ch <= 2))))) = true := by
    rw [cond_or]
    simp only [Bool.or_eq_true, Bool.not_eq_true', Bool.and_eq_false_iff, decide_eq_false_iff_not]
    omega
   rw [if_pos hcnd, if_pos hb]
 ·rw [if_pos (by simpa using he), if_pos he]
theorem offerR_len (g : GateD) (id v ch : Int) : (offerR g id v ch).1.2.2.2.1.length <= 80 /\ (offerR g id v ch).1.2.2.2.2.1.length <= 80 := by
 unfold offerR
 by_cases he : gateE g = 0
 ·obtain ⟨k1, k2, k3⟩ := gateE_ok he
  rw [if_neg (by simpa using he)]
  split
  ·exact ⟨by simp, by simp⟩
  ·split
   ·exact ⟨by simp, by simp⟩
   ·split
    ·exact ⟨by simp; omega, by simp; omega⟩
    ·split
     ·exact ⟨by simp, by simp⟩
     ·exact ⟨by simp; omega, by simp; omega⟩
 ·rw [if_pos he]; exact ⟨by simp, by simp⟩
end Go.Bx
