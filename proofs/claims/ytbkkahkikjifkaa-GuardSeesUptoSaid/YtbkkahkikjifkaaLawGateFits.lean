/- A part of a framework that reads Go code as functions of plain data; or a law about such functions. -/
import Derived.Test.YtbkkahkikjifkaaLawGate
import Derived.Test.YtbkkahkikjifkaaFnGuardSees0
namespace Go.Bx
open Go
set_option linter.unusedSimpArgs false
set_option linter.unusedVariables false
def sumQ (now ch : Int) : List QD -> Int
 | [] => 0
 | y :: r => (if y.2.2.1 = ch /\ now - y.2.2.2.1 < 24 then y.2.1 else 0) + sumQ now ch r
def Qs (now : Int) (l : List QD) : Prop := ∀ y ∈ l, 0 <= y.2.1 /\ y.2.1 <= 1073741824 /\ 0 <= y.2.2.1 /\ y.2.2.1 <= 2 /\ 0 <= y.2.2.2.1 /\ y.2.2.2.1 <= now
theorem Qs.cons {now : Int} {a : QD} {l : List QD} (h : Qs now (a :: l)) : (0 <= a.2.1 /\ a.2.1 <= 1073741824 /\ 0 <= a.2.2.1 /\ a.2.2.1 <= 2 /\ 0 <= a.2.2.2.1 /\ a.2.2.2.1 <= now) /\ Qs now l :=
 ⟨h a (by simp), fun y hy => h y (List.mem_cons_of_mem _ hy)⟩
theorem sumQ_bound {now ch : Int} : ∀ {l : List QD}, Qs now l -> 0 <= sumQ now ch l /\ sumQ now ch l <= (l.length : Int) * 1073741824
 | [], _ => by simp [sumQ]
 | a :: l, h => by
  obtain ⟨h1, h2⟩ := h.cons
  obtain ⟨i1, i2⟩ := sumQ_bound (ch := ch) h2
  simp only [sumQ, List.length_cons]
  split <;> omega
theorem used_loop {α : Type} (Xt : Int -> Option α) (k : Nat) (g : GateD) (ch : Int) (hN : g.2.2.1 <= 1099511628776) (l : List QD) (hl : l.length <= 1000) : ∀ (R P : List QD) (n : Nat) (s : Int), R.length < n -> l = P ++ R -> Qs g.2.2.1 R -> 0 <= s -> s <= (P.length : Int) * 1073741824 ->
  gate_used.l0 k Xt n ch s l (l.length : Int) (P.length : Int) g = Xt (s + sumQ g.2.2.1 ch R) := by
 intro R
 induction R with
 | nil =>
  intro P n s h hc hq h0 h1
  obtain ⟨n, rfl⟩ : ∃ m, n = m + 1 := ⟨n - 1, by have := h; simp only [List.length_nil] at this; omega⟩
  simp only [gate_used.l0, gate_used.l0s]
  have : l.length = P.length := by rw [hc]; simp
  rw [if_neg (by rw [decide_eq_true_eq]; omega)]
  simp [sumQ]
 | cons a R IH =>
  intro P n s h hc hq h0 h1
  obtain ⟨n, rfl⟩ : ∃ m, n = m + 1 := ⟨n - 1, by have := h; simp only [List.length_cons] at this; omega⟩
  have hlen : l.length = P.length + (R.length + 1) := by rw [hc]; simp
  obtain ⟨q1, q2⟩ := hq.cons
  simp only [gate_used.l0, gate_used.l0s]
  have hg : l.getD P.length (0, 0, 0, 0, ()) = a := by rw [hc]; exact getD_at _ _ _ _
  rw [if_pos (by rw [decide_eq_true_eq]; omega), if_pos (by omega), toNat_nat, hg, cond_and, wrap_i64 (by omega) (by omega)]
  unfold gate_used.j0
  rw [i64_succ (by omega)]
  have ih := fun s' h0 h1 => IH (P ++ [a]) n s' (by simpa using h) (by simp [hc]) q2 h0 h1
  simp only [List.length_append, List.length_singleton] at ih
  by_cases hm : a.2.2.1 = ch /\ g.2.2.1 - a.2.2.2.1 < 24
  ·rw [if_pos (by simp only [Bool.and_eq_true, beq_iff_eq, decide_eq_true_eq]; exact hm), wrap_i64 (by omega) (by omega)]
   refine (ih (s + a.2.1) (by omega) (by omega)).trans ?_
   simp only [sumQ]; rw [if_pos hm, Int.add_assoc]
  ·rw [if_neg (by simp only [Bool.and_eq_true, beq_iff_eq, decide_eq_true_eq]; exact hm)]
   refine (ih s h0 (by omega)).trans ?_
   simp only [sumQ]; rw [if_neg hm, Int.zero_add]
theorem used_run (g : GateD) (ch : Int) (hN : g.2.2.1 <= 1099511628776) (hl : g.2.2.2.1.length <= 1000) (hq : Qs g.2.2.1 g.2.2.2.1) : gate_used.run g ch = some (sumQ g.2.2.1 ch g.2.2.2.1) := by
 unfold gate_used.run gate_used.top
 have := used_loop (fun x5 => gate_used.j1 (fun x4 => some x4) x5) fuel g ch hN g.2.2.2.1 hl g.2.2.2.1 [] fuel 0 (by rw [fuel_big]; omega) rfl hq (by omega) (by simp)
 refine Eq.trans this ?_
 unfold gate_used.j1
 rw [Int.zero_add]
theorem passes_loop {α : Type} (Xt : Int -> GateD -> QD -> Option α) (k : Nat) (g : GateD) (x : QD) (hN : g.2.2.1 <= 1099511628776) (l : List QD) (hl : l.length <= 1000) : ∀ (R P : List QD) (n : Nat) (s : Int), R.length < n -> l = P ++ R -> Qs g.2.2.1 R -> 0 <= s -> s <= (P.length + 1 : Int) * 1073741824 ->
  basculeref_passes.l0 k Xt n s l (l.length : Int) (P.length : Int) g x = Xt (s + sumQ g.2.2.1 x.2.2.1 R) g x := by
 intro R
 induction R with
 | nil =>
  intro P n s h hc hq h0 h1
  obtain ⟨n, rfl⟩ : ∃ m, n = m + 1 := ⟨n - 1, by have := h; simp only [List.length_nil] at this; omega⟩
  simp only [basculeref_passes.l0, basculeref_passes.l0s]
  have : l.length = P.length := by rw [hc]; simp
  rw [if_neg (by rw [decide_eq_true_eq]; omega)]
  simp [sumQ]
 | cons a R IH =>
  intro P n s h hc hq h0 h1
  obtain ⟨n, rfl⟩ : ∃ m, n = m + 1 := ⟨n - 1, by have := h; simp only [List.length_cons] at this; omega⟩
  have hlen : l.length = P.length + (R.length + 1) := by rw [hc]; simp
  obtain ⟨q1, q2⟩ := hq.cons
  simp only [basculeref_passes.l0, basculeref_passes.l0s]
  have hg : l.getD P.length (0, 0, 0, 0, ()) = a := by rw [hc]; exact getD_at _ _ _ _
  rw [if_pos (by rw [decide_eq_true_eq]; omega), if_pos (by omega), toNat_nat, hg, cond_and, wrap_i64 (x := a.2.2.2.1 + 24) (by omega) (by omega)]
  unfold basculeref_passes.j0
  rw [i64_succ (by omega)]
  have ih := fun s' h0 h1 => IH (P ++ [a]) n s' (by simpa using h) (by simp [hc]) q2 h0 h1
  simp only [List.length_append, List.length_singleton] at ih
  by_cases hm : a.2.2.1 = x.2.2.1 /\ g.2.2.1 - a.2.2.2.1 < 24
  ·rw [if_pos (by simp only [Bool.and_eq_true, beq_iff_eq, decide_eq_true_eq]; omega), wrap_i64 (by omega) (by omega)]
   refine (ih (s + a.2.1) (by omega) (by omega)).trans ?_
   simp only [sumQ]; rw [if_pos hm, Int.add_assoc]
  ·rw [if_neg (by simp only [Bool.and_eq_true, beq_iff_eq, decide_eq_true_eq]; omega)]
   refine (ih s h0 (by omega)).trans ?_
   simp only [sumQ]; rw [if_neg hm, Int.zero_add]
def fitsB (g : GateD) (x : QD) : Bool := decide (x.2.1 < g.2.1.getD (Int.toNat x.2.2.1) 0) && decide (sumQ g.2.2.1 x.2.2.1 g.2.2.2.1 + x.2.1 <= g.1.getD (Int.toNat x.2.2.1) 0) && decide ((g.2.2.2.1.length : Int) < 40)
theorem fits_run (g : GateD) (x : QD) (hN : g.2.2.1 <= 1099511628776) (hl : g.2.2.2.1.length <= 1000) (hq : Qs g.2.2.1 g.2.2.2.1) (hx : 0 <= x.2.2.1 /\ x.2.2.1 <= 2) (hv : 0 <= x.2.1 /\ x.2.1 <= 1073741824) : gate_fits.run g x = some (fitsB g x) := by
 unfold gate_fits.run gate_fits.top fitsB
 have hb := sumQ_bound (ch := x.2.2.1) hq
 rw [if_pos (by omega), used_run g _ hN hl hq]
 by_cases hc : x.2.1 < g.2.1.getD (Int.toNat x.2.2.1) 0
 ·rw [decide_eq_true hc]
  simp only [BEq.rfl, if_true, Option.bind_some, cond_true, Bool.true_and]
  rw [decide_eq_true (show 0 <= x.2.2.1 /\ x.2.2.1 < 3 by omega), Bool.true_or, cond_true, cond_and, wrap_i64 (by omega) (by omega)]
 ·rw [decide_eq_false hc]
  simp
theorem passes_run (g : GateD) (x : QD) (hN : g.2.2.1 <= 1099511628776) (hl : g.2.2.2.1.length <= 1000) (hq : Qs g.2.2.1 g.2.2.2.1) (hx : 0 <= x.2.2.1 /\ x.2.2.1 <= 2) (hv : 0 <= x.2.1 /\ x.2.1 <= 1073741824) : basculeref_passes.run g x = some (fitsB g x) := by
 unfold basculeref_passes.run basculeref_passes.top
 have := passes_loop (fun x5 c2 c3 => basculeref_passes.j1 (fun x4 => some x4) x5 c2 c3) fuel g x hN g.2.2.2.1 hl g.2.2.2.1 [] fuel x.2.1 (by rw [fuel_big]; omega) rfl hq (by omega) (by simp; omega)
 refine Eq.trans this ?_
 unfold basculeref_passes.j1 fitsB
 rw [if_pos (by omega), decide_eq_true (show 0 <= x.2.2.1 /\ x.2.2.1 < 3 by omega), Bool.true_or, cond_true, cond_and, cond_and, Int.add_comm]
theorem gateGood_parts {g : GateD} (h : gateGood g) : 0 <= g.2.2.1 /\ g.2.2.1 <= 1099511627776 /\ Qs g.2.2.1 g.2.2.2.1 /\ Qs g.2.2.1 g.2.2.2.2.1 := by
 obtain ⟨h1, h2, _⟩ := h
 have hn : nowOk g = true := by
  unfold allLims at h1
  simp only [Bool.and_eq_true] at h1
  exact h1.1.1.1
 unfold nowOk at hn
 simp only [Bool.and_eq_true, decide_eq_true_eq] at hn
 have hq : ∀ y, qok g.2.2.1 y = true -> 0 <= y.2.1 /\ y.2.1 <= 1073741824 /\ 0 <= y.2.2.1 /\ y.2.2.1 <= 2 /\ 0 <= y.2.2.2.1 /\ y.2.2.2.1 <= g.2.2.1 := fun y hy => by
  unfold qok vl at hy
  simp only [Bool.and_eq_true, decide_eq_true_eq] at hy
  exact ⟨hy.1.1.1, hy.1.1.2, hy.1.2.1, hy.1.2.2, hy.2.1, hy.2.2⟩
 exact ⟨hn.1, hn.2, fun y hy => hq y (h2 y (List.mem_append_left _ hy)), fun y hy => hq y (h2 y (List.mem_append_right _ hy))⟩
theorem gateE_ok {g : GateD} (h : gateE g = 0) : g.2.2.2.1.length <= 40 /\ g.2.2.2.2.1.length <= 40 /\ gateGood g := by
 unfold gateE at h
 split at h
 ·cases h
 ·split at h
  ·rename_i h1 h2; exact ⟨by omega, by omega, h2⟩
  ·cases h
theorem sameQueue_loop {α : Type} (Rt : Bool -> Option α) (Xt : Option α) (k : Nat) (l : List QD) (hl : l.length <= 4000000000) : ∀ (R P : List QD) (n : Nat), R.length < n -> l = P ++ R ->
  basculelaw_sameQueue.l0 k Rt Xt n l l (l.length : Int) (P.length : Int) = Xt
 | R, P, 0, h, _ => by omega
 | [], P, n + 1, h, hc => by
  simp only [basculelaw_sameQueue.l0, basculelaw_sameQueue.l0s]
  have : l.length = P.length := by rw [hc]; simp
  rw [if_neg (by rw [decide_eq_true_eq]; omega)]
 | a :: R, P, n + 1, h, hc => by
  have hlen : l.length = P.length + (R.length + 1) := by rw [hc]; simp
  simp only [basculelaw_sameQueue.l0, basculelaw_sameQueue.l0s]
  rw [if_pos (by rw [decide_eq_true_eq]; omega), if_pos (by omega), if_pos (by omega), i64_succ (by omega), beqD_refl _ _ rfl, if_neg (by simp)]
  have ih := sameQueue_loop Rt Xt k l hl R (P ++ [a]) n (by simpa using h) (by simp [hc])
  rw [List.length_append] at ih
  exact ih
theorem sameQueue_refl (l : List QD) (hl : l.length <= 4000000000) : basculelaw_sameQueue.run l l = some true := by
 unfold basculelaw_sameQueue.run basculelaw_sameQueue.top
 rw [if_neg (by simp)]
 exact sameQueue_loop (fun x4 => some x4) (basculelaw_sameQueue.j0 fun x4 => some x4) fuel l hl l [] fuel (by rw [fuel_big]; omega) rfl
theorem sameGate_refl (g : GateD) (h1 : g.2.2.2.1.length <= 4000000000) (h2 : g.2.2.2.2.1.length <= 4000000000) : basculelaw_sameGate.run g g = some true := by
 unfold basculelaw_sameGate.run basculelaw_sameGate.top
 rw [beqD_refl _ _ rfl, beqD_refl _ _ rfl, sameQueue_refl _ h1, sameQueue_refl _ h2]
 simp
end Go.Bx
