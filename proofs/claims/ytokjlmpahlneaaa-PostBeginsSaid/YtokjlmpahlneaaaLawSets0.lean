/- A part of a framework that reads Go code as functions of plain data; or a law about such functions. -/
import Derived.Test.YtokjlmpahlneaaaLawKeys
import Derived.Test.YtokjlmpahlneaaaFnPostBegins0
namespace Go.Bx
open Go
set_option linter.unusedSimpArgs false
set_option linter.unusedVariables false

/-! rows of sets -/

abbrev SetD : Type := Int × List (List Int) × Int × Unit

/-- what both ask of a set at place i of n, behind one that ends at hour z -/
def setBad (n i : Nat) (z : Int) (s : SetD) : Bool := decide (s.1 ≠ (i : Int) ∨ (if i + 1 = n then s.2.2.1 ≠ 0 else (s.2.2.1 < 1 ∨ s.2.2.1 < z ∨ 1099511627800 < s.2.2.1)))

theorem bool_ite {p : Prop} [Decidable p] {b : Bool} (h : (b = true) ↔ p) : b = decide p := by
  cases b with
  | true => exact (decide_eq_true (h.1 rfl)).symm
  | false => exact (decide_eq_false fun hp => by have := h.2 hp; cases this).symm

theorem sets_loop (l : List SetD) (hl : l.length ≤ 1000) : ∀ (R P : List SetD) (n : Nat) (z : Int) (k : Nat), 0 ≤ z → R.length < n → l = P ++ R →
    ∃ e : Int, sets_Check.l0 k (fun x2 : Int => some x2) (sets_Check.j0 fun x2 : Int => some x2) n l z l (l.length : Int) (P.length : Int) = some e ∧
      basculeref_SetsFault.l0 k (fun x2 : Int => some x2) (basculeref_SetsFault.j0 fun x2 : Int => some x2) n l z l (l.length : Int) (P.length : Int) = some e ∧ (e = 0 → ∀ s ∈ R, s.2.1.length ≤ 19)
  | R, P, 0, _, _, _, h, _ => by omega
  | [], P, n + 1, z, k, hz, h, hc => by
    have : l.length = P.length := by rw [hc]; simp
    refine ⟨0, ?_, ?_, fun _ s hs => by cases hs⟩
    · simp only [sets_Check.l0, sets_Check.l0s]
      rw [if_neg (by rw [decide_eq_true_eq]; omega)]; rfl
    · simp only [basculeref_SetsFault.l0, basculeref_SetsFault.l0s]
      rw [if_neg (by rw [decide_eq_true_eq]; omega)]; rfl
  | a :: R, P, n + 1, z, k, hz, h, hc => by
    have hlen : l.length = P.length + (R.length + 1) := by rw [hc]; simp
    have hg : l.getD P.length (0, [], 0, ()) = a := by rw [hc]; exact getD_at _ _ _ _
    simp only [sets_Check.l0, sets_Check.l0s, basculeref_SetsFault.l0, basculeref_SetsFault.l0s]
    have d1 : decide ((P.length : Int) < (l.length : Int)) = true := by rw [decide_eq_true_eq]; omega
    have d2 : 0 ≤ (P.length : Int) ∧ (P.length : Int) < (l.length : Int) := by omega
    have d3 : IntKind.i64.wrap ((P.length : Int) + 1) = ((P.length + 1 : Nat) : Int) := i64_succ (by omega)
    simp only [d1, if_true, if_pos d2, d3, toNat_nat, hg, keys_run, keysF_run, Option.bind_some]
    by_cases hk : keysE a.2.1 = 0
    · simp only [hk, if_neg (show ¬ (((0 : Int) != 0) = true) by decide)]
      have c1 : (cond (cond (cond (a.1 != (P.length : Int)) true (not (beqD .bool ((P.length : Int) == (IntKind.i64.wrap ((l.length : Int) - 1))) (a.2.2.1 == 0)))) true (cond (a.2.2.1 != 0) (decide (a.2.2.1 < z)) false)) true (decide (a.2.2.1 > 1099511627800))) = setBad l.length P.length z a := by
        rw [wrap_i64 (by omega) (by omega)]
        unfold setBad
        refine bool_ite ?_
        simp only [cond_or, cond_and, Bool.or_eq_true, Bool.and_eq_true, bne_iff_ne, ne_eq, decide_eq_true_eq, beqD, Bool.not_eq_true', beq_eq_false_iff_ne]
        by_cases he : P.length + 1 = l.length
        · rw [if_pos he]
          have : ((P.length : Int) == (l.length : Int) - 1) = true := by rw [beq_iff_eq]; omega
          rw [this]
          by_cases hu : a.2.2.1 = 0
          · simp [hu]
          · have : (a.2.2.1 == 0) = false := by simpa using hu
            rw [this]; simp [hu]
        · rw [if_neg he]
          have : ((P.length : Int) == (l.length : Int) - 1) = false := by rw [beq_eq_false_iff_ne]; omega
          rw [this]
          by_cases hu : a.2.2.1 = 0
          · simp [hu]
          · have : (a.2.2.1 == 0) = false := by simpa using hu
            rw [this]; simp [hu]
            omega
      have c2 : (cond (cond (a.1 != (P.length : Int)) true (cond ((((P.length + 1 : Nat) : Int)) == (l.length : Int)) (a.2.2.1 != 0) false)) true (cond (not ((((P.length + 1 : Nat) : Int)) == (l.length : Int))) (cond (cond (decide (a.2.2.1 < 1)) true (decide (a.2.2.1 < z))) true (decide (a.2.2.1 > 1099511627800))) false)) = setBad l.length P.length z a := by
        unfold setBad
        refine bool_ite ?_
        simp only [cond_or, cond_and, Bool.or_eq_true, Bool.and_eq_true, bne_iff_ne, ne_eq, decide_eq_true_eq, Bool.not_eq_true', beq_eq_false_iff_ne, beq_iff_eq]
        by_cases he : P.length + 1 = l.length
        · rw [if_pos he]
          have : ((P.length + 1 : Nat) : Int) = (l.length : Int) := by omega
          simp [this]
        · rw [if_neg he]
          have : ¬ ((P.length + 1 : Nat) : Int) = (l.length : Int) := by omega
          simp only [this, false_and, or_false, not_false_eq_true, true_and]
          constructor
          · rintro (h | (h | h) | h)
            · exact .inl h
            · exact .inr (.inl h)
            · exact .inr (.inr (.inl h))
            · exact .inr (.inr (.inr h))
          · rintro (h | h | h | h)
            · exact .inl h
            · exact .inr (.inl (.inl h))
            · exact .inr (.inl (.inr h))
            · exact .inr (.inr h)
      rw [c1, c2]
      by_cases hb : setBad l.length P.length z a = true
      · rw [if_pos hb, if_pos hb]
        exact ⟨12, rfl, rfl, fun h => by cases h⟩
      · rw [if_neg hb, if_neg hb]
        have hz' : 0 ≤ a.2.2.1 := by
          unfold setBad at hb
          rw [decide_eq_true_eq] at hb
          simp only [not_or] at hb
          have := hb.2
          split at this <;> omega
        obtain ⟨e, e1, e2, e3⟩ := sets_loop l hl R (P ++ [a]) n a.2.2.1 k hz' (by simpa using h) (by simp [hc])
        rw [List.length_append] at e1 e2
        refine ⟨e, e1, e2, fun h0 s hs => ?_⟩
        rcases List.mem_cons.1 hs with rfl | hs
        · exact (keysE_ok hk).2
        · exact e3 h0 s hs
    · simp only [if_pos (show (keysE a.2.1 != 0) = true by simpa using hk)]
      exact ⟨keysE a.2.1, rfl, rfl, fun h => absurd h hk⟩

theorem sets_both (l : List SetD) : ∃ e : Int, sets_Check.run l = some e ∧ basculeref_SetsFault.run l = some e ∧ (e = 0 → 1 ≤ l.length ∧ l.length ≤ 8 ∧ ∀ s ∈ l, s.2.1.length ≤ 19) := by
  unfold sets_Check.run sets_Check.top basculeref_SetsFault.run basculeref_SetsFault.top
  by_cases h : l.length < 1 ∨ 8 < l.length
  · rw [if_pos (by rw [cond_or, Bool.or_eq_true, decide_eq_true_eq, decide_eq_true_eq]; omega), if_pos (by rw [cond_or, Bool.or_eq_true, decide_eq_true_eq, beq_iff_eq]; omega)]
    exact ⟨1, rfl, rfl, fun h => by cases h⟩
  · rw [if_neg (by rw [cond_or, Bool.or_eq_true, decide_eq_true_eq, decide_eq_true_eq]; omega), if_neg (by rw [cond_or, Bool.or_eq_true, decide_eq_true_eq, beq_iff_eq]; omega)]
    obtain ⟨e, e1, e2, e3⟩ := sets_loop l (by omega) l [] fuel 0 fuel (Int.le_refl _) (by rw [fuel_big]; omega) rfl
    exact ⟨e, e1, e2, fun h0 => ⟨by omega, by omega, e3 h0⟩⟩

theorem fresh_loop {α : Type} (Xt : List SetD → Option α) (k : Nat) (l : List SetD) (hl : l.length ≤ 1000) (hs : ∀ s ∈ l, s.2.1.length ≤ 1000) : ∀ (R P : List SetD) (n : Nat), R.length < n → l = P ++ R →
    sets_fresh.l0 k Xt n l (l.length : Int) (P.length : Int) P = Xt l
  | R, P, 0, h, _ => by omega
  | [], P, n + 1, h, hc => by
    simp only [sets_fresh.l0, sets_fresh.l0s]
    have : l.length = P.length := by rw [hc]; simp
    rw [if_neg (by rw [decide_eq_true_eq]; omega)]
    rw [hc]; simp
  | a :: R, P, n + 1, h, hc => by
    have hlen : l.length = P.length + (R.length + 1) := by rw [hc]; simp
    have hg : l.getD P.length (0, [], 0, ()) = a := by rw [hc]; exact getD_at _ _ _ _
    have ha : a.2.1.length ≤ 1000 := hs a (by rw [hc]; simp)
    simp only [sets_fresh.l0, sets_fresh.l0s]
    rw [if_pos (by rw [decide_eq_true_eq]; omega), if_pos (by omega), i64_succ (by omega), toNat_nat, hg, if_pos (fitB_small (by omega) (by omega)), if_pos (fitB_small (by omega) (by omega))]
    have ih := fresh_loop Xt k l hl hs R (P ++ [a]) n (by simpa using h) (by simp [hc])
    rw [List.length_append] at ih
    exact ih

theorem fresh_run (l : List SetD) (hl : l.length ≤ 1000) (hs : ∀ s ∈ l, s.2.1.length ≤ 1000) : sets_fresh.run l = some l := by
  unfold sets_fresh.run sets_fresh.top
  exact fresh_loop (fun c20 => sets_fresh.j0 (fun c20 => some c20) c20) fuel l hl hs l [] fuel (by rw [fuel_big]; omega) rfl

theorem sameKeys_loop {α : Type} (Rt : Bool → Option α) (Xt : Option α) (k : Nat) (l : List (List Int)) (hl : l.length ≤ 4000000000) : ∀ (R P : List (List Int)) (n : Nat), R.length < n → l = P ++ R →
    basculelaw_sameKeys.l0 k Rt Xt n l l (l.length : Int) (P.length : Int) = Xt
  | R, P, 0, h, _ => by omega
  | [], P, n + 1, h, hc => by
    simp only [basculelaw_sameKeys.l0, basculelaw_sameKeys.l0s]
    have : l.length = P.length := by rw [hc]; simp
    rw [if_neg (by rw [decide_eq_true_eq]; omega)]
  | a :: R, P, n + 1, h, hc => by
    have hlen : l.length = P.length + (R.length + 1) := by rw [hc]; simp
    simp only [basculelaw_sameKeys.l0, basculelaw_sameKeys.l0s]
    rw [if_pos (by rw [decide_eq_true_eq]; omega), if_pos (by omega), if_pos (by omega), i64_succ (by omega), beqD_refl _ _ rfl, if_neg (by simp)]
    have ih := sameKeys_loop Rt Xt k l hl R (P ++ [a]) n (by simpa using h) (by simp [hc])
    rw [List.length_append] at ih
    exact ih

theorem sameKeys_refl (l : List (List Int)) (hl : l.length ≤ 4000000000) : basculelaw_sameKeys.run l l = some true := by
  unfold basculelaw_sameKeys.run basculelaw_sameKeys.top
  rw [if_neg (by simp)]
  exact sameKeys_loop (fun x4 => some x4) (basculelaw_sameKeys.j0 fun x4 => some x4) fuel l hl l [] fuel (by rw [fuel_big]; omega) rfl

theorem sameSet_refl (s : SetD) (hs : s.2.1.length ≤ 4000000000) : basculelaw_sameSet.run s s = some true := by
  unfold basculelaw_sameSet.run basculelaw_sameSet.top
  simp only [BEq.rfl, cond_true, if_true, sameKeys_refl _ hs, Option.bind_some]

theorem sameSets_loop {α : Type} (Rt : Bool → Option α) (Xt : Option α) (k : Nat) (l : List SetD) (hl : l.length ≤ 4000000000) (hs : ∀ s ∈ l, s.2.1.length ≤ 4000000000) : ∀ (R P : List SetD) (n : Nat), R.length < n → l = P ++ R →
    basculelaw_sameSets.l0 k Rt Xt n l l (l.length : Int) (P.length : Int) = Xt
  | R, P, 0, h, _ => by omega
  | [], P, n + 1, h, hc => by
    simp only [basculelaw_sameSets.l0, basculelaw_sameSets.l0s]
    have : l.length = P.length := by rw [hc]; simp
    rw [if_neg (by rw [decide_eq_true_eq]; omega)]
  | a :: R, P, n + 1, h, hc => by
    have hlen : l.length = P.length + (R.length + 1) := by rw [hc]; simp
    have hg : l.getD P.length (0, [], 0, ()) = a := by rw [hc]; exact getD_at _ _ _ _
    simp only [basculelaw_sameSets.l0, basculelaw_sameSets.l0s]
    rw [if_pos (by rw [decide_eq_true_eq]; omega), if_pos (by omega), if_pos (by omega), i64_succ (by omega), toNat_nat, hg, sameSet_refl a (hs a (by rw [hc]; simp)), Option.bind_some, if_neg (by simp)]
    have ih := sameSets_loop Rt Xt k l hl hs R (P ++ [a]) n (by simpa using h) (by simp [hc])
    rw [List.length_append] at ih
    exact ih

theorem sameSets_refl (l : List SetD) (hl : l.length ≤ 4000000000) (hs : ∀ s ∈ l, s.2.1.length ≤ 4000000000) : basculelaw_sameSets.run l l = some true := by
  unfold basculelaw_sameSets.run basculelaw_sameSets.top
  rw [if_neg (by simp)]
  exact sameSets_loop (fun x4 => some x4) (basculelaw_sameSets.j0 fun x4 => some x4) fuel l hl hs l [] fuel (by rw [fuel_big]; omega) rfl

abbrev KeysTy : Ty := .sl (.arr 20 (.int .u8))
abbrev SetTy : Ty := .pair (.int .i64) (.pair KeysTy (.pair (.int .i64) .unit))
abbrev SetsTy : Ty := .sl SetTy

end Go.Bx
