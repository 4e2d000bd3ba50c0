/- A part of a framework that reads Go code as functions of plain data; or a law about such functions. -/
import Derived.Test.YtebnjboimekljaaLawForkTree
namespace Go.Bx
open Go
set_option linter.unusedSimpArgs false
set_option linter.unusedVariables false

/-! heights -/

theorem allE_ok {t : TreeD} (h : allE t t.1.length 0 = 0) : ∀ i, i < t.1.length → okB t i := fun i hi => by
  have := allE_zero _ _ h i (by omega) (by omega)
  unfold blkE at this
  by_cases hA : ncalls t i > 6
  · rw [if_pos hA] at this; omega
  · rw [if_neg hA] at this
    by_cases hk : okB t i
    · exact hk
    · rw [if_neg hk] at this; omega

theorem heights {t : TreeD} (hl : t.1.length ≤ 50) (hok : ∀ i, i < t.1.length → okB t i) : ∀ (n i : Nat), i < n → i < t.1.length → (0 ≤ hgt t i ∧ hgt t i ≤ (i : Int)) ∧ (0 < i → hgt t i = hgt t (par t i).toNat + 1) ∧ (i = 0 → hgt t i = 0)
  | 0, i, h, _ => by omega
  | n + 1, i, h, hi => by
    have hk := hok i hi
    unfold okB at hk
    by_cases h0 : i = 0
    · rw [if_pos h0] at hk
      rw [hk.2.1]
      exact ⟨by omega, fun h => by omega, fun _ => rfl⟩
    · rw [if_neg h0] at hk
      obtain ⟨⟨p0, p1⟩, hh⟩ := hk
      obtain ⟨q, hq⟩ : ∃ q : Nat, par t i = (q : Int) := ⟨(par t i).toNat, by omega⟩
      rw [hq] at hh p1 ⊢
      rw [toNat_nat] at hh ⊢
      obtain ⟨⟨a1, a2⟩, _⟩ := heights hl hok n q (by omega) (by omega)
      rw [wrap_i64 (by omega) (by omega)] at hh
      exact ⟨by omega, fun _ => hh, fun h => absurd h h0⟩

/-- a line is as long as its end is high, and one -/
theorem line_len {t : TreeD} (hl : t.1.length ≤ 50) (hok : ∀ i, i < t.1.length → okB t i) (hV : Vt t) : ∀ (N : Nat) (b : Int) (l : List Int), b < (t.1.length : Int) → -1 ≤ b → basculeref_lineTo_s0.runN N t b = some (l, ()) → (l.length : Int) = if b < 0 then 0 else hgt t b.toNat + 1
  | 0, b, l, _, _, h => by cases h
  | N + 1, b, l, hb, h0, h => by
    simp only [basculeref_lineTo_s0.runN, basculeref_lineTo_s0.top] at h
    by_cases hneg : b < 0
    · rw [if_pos (by rw [decide_eq_true_eq]; exact hneg)] at h
      simp only [Option.some.injEq, Prod.mk.injEq, and_true] at h
      rw [if_pos hneg, ← h]; rfl
    · obtain ⟨i, rfl⟩ : ∃ i : Nat, b = (i : Int) := ⟨b.toNat, by omega⟩
      have hi : i < t.1.length := by omega
      have hpar : (List.getD t.1 i (0, 0, [], ())).1 = par t i := rfl
      rw [if_neg (by rw [decide_eq_true_eq]; omega), if_pos (by omega), toNat_nat, hpar] at h
      obtain ⟨y, y1, y2⟩ := Option.bind_eq_some_iff.1 h
      split at y2
      · simp only [Option.some.injEq, Prod.mk.injEq, and_true] at y2
        obtain ⟨p1, p2⟩ := hV.low hi
        have ih := line_len hl hok hV N (par t i) y.1 (by omega) p1 (by rw [y1])
        rw [if_neg hneg, toNat_nat, ← y2, List.length_append]
        obtain ⟨_, a2, a3⟩ := heights hl hok (i + 1) i (by omega) hi
        by_cases hz : i = 0
        · have := (hV i hi).1 hz
          rw [this, if_pos (show (-1 : Int) < 0 by decide)] at ih
          rw [a3 hz]
          simp only [List.length_cons, List.length_nil]
          omega
        · have := (hV i hi).2 (by omega)
          rw [if_neg (by omega)] at ih
          rw [a2 (by omega)]
          simp
          omega
      · cases y2

/-- a tree that passes, with its heights -/
theorem good_ok {t : TreeD} (h : fork_Check.run t = some 0) : (∀ i, i < t.1.length → okB t i) := by
  unfold fork_Check.run fork_Check.top at h
  by_cases hs : t.1.length < 1 ∨ t.1.length > 40
  · have c1 : cond (decide ((t.1.length : Int) < 1)) true (decide ((t.1.length : Int) > 40)) = true := by rw [cond_or, Bool.or_eq_true, decide_eq_true_eq, decide_eq_true_eq]; omega
    rw [c1] at h
    cases h
  · have c1 : cond (decide ((t.1.length : Int) < 1)) true (decide ((t.1.length : Int) > 40)) = false := by rw [cond_or, Bool.or_eq_false_iff, decide_eq_false_iff_not, decide_eq_false_iff_not]; omega
    rw [c1, if_neg (by simp)] at h
    have a := fun N (hN : t.1.length < N) => check_loop2 N (fun (x2 : Int) => some x2) (fun (c1 : TreeD) => fork_Check.j0 (fun (x2 : Int) => some x2) c1) t (by omega) t.1.length N 0 (by omega) hN
    have a := a fuel (by rw [fuel_big]; omega)
    by_cases hE : allE t t.1.length 0 = 0
    · exact allE_ok hE
    · rw [if_neg hE] at a
      have e0 : ((0 : Nat) : Int) = 0 := rfl
      rw [e0] at a
      rw [a] at h
      exact absurd (Option.some.inj h) hE

end Go.Bx
