/- A part of a framework that reads Go code as functions of plain data; or a law about such functions. -/
import Derived.Test.YtpapikaeaodfgaaLawSets
import Derived.Test.YtpapikaeaodfgaaFnSetsLives0
namespace Go.Bx
open Go
set_option linter.unusedSimpArgs false
set_option linter.unusedVariables false
theorem lives_all (l : List SetD) (ix now : Int) : basculelaw_SetsLives.run l ix now = some true := by
  have s0 : basculelaw_sameSet.run (0, [], 0, ()) (0, [], 0, ()) = some true := sameSet_refl _ (by simp)
  unfold basculelaw_SetsLives.run basculelaw_SetsLives.top sets_Live.run sets_Live.top basculeref_SetLive.run basculeref_SetLive.top
  obtain ⟨e, e1, e2, e3⟩ := sets_both l
  rw [e1, e2]
  simp only [Option.bind_some]
  by_cases he : e = 0
  · obtain ⟨h1, h2, h3⟩ := e3 he
    simp only [he, show ((0 : Int) != 0) = false from rfl, Bool.false_eq_true, if_false]
    by_cases hi : ix < 0 ∨ (List.length l : Int) ≤ ix
    · have : (cond (decide (ix < 0)) true (decide (ix ≥ (List.length l : Int)))) = true := by rw [cond_or, Bool.or_eq_true, decide_eq_true_eq, decide_eq_true_eq]; omega
      simp only [if_pos this]
      simp only [Option.bind_some, s0]; rfl
    · have : ¬ (cond (decide (ix < 0)) true (decide (ix ≥ (List.length l : Int)))) = true := by rw [cond_or, Bool.or_eq_true, decide_eq_true_eq, decide_eq_true_eq]; omega
      obtain ⟨i, hi'⟩ : ∃ i : Nat, ix = (i : Int) := ⟨Int.toNat ix, by omega⟩
      rw [hi'] at this hi ⊢
      have hil : i < List.length l := by omega
      simp only [if_neg this]
      rw [i64_succ (by omega), if_pos (by omega), if_pos (by omega)]
      have hcut : cutL l (i : Int) ((i + 1 : Nat) : Int) = [l.getD i (0, [], 0, ())] := by
        unfold cutL
        rw [show Int.toNat (i : Int) = i from rfl, show Int.toNat ((i + 1 : Nat) : Int) = i + 1 from rfl, show i + 1 - i = 1 by omega, List.drop_eq_getElem_cons hil, getD_eq hil]; rfl
      have hm : l.getD i (0, [], 0, ()) ∈ l := by rw [getD_eq hil]; exact List.getElem_mem hil
      have hk := h3 _ hm
      rw [hcut, fresh_run _ (by simp) (fun s hs => by simp only [List.mem_singleton] at hs; subst hs; omega)]
      simp only [Option.bind_some, toNat_nat]
      rw [if_pos (by simp)]
      have hd : (decide (0 ≤ (i : Int) ∧ (i : Int) < (List.length l : Int)) || !(((l.getD i (0, [], 0, ())).2.2.1 != 0) == true)) = true := by
        rw [decide_eq_true (by omega)]; rfl
      rw [hd, cond_true]
      have hz : List.getD [l.getD i (0, [], 0, ())] 0 (0, [], 0, ()) = l.getD i (0, [], 0, ()) := rfl
      rw [hz]
      have hge : decide (now ≥ (l.getD i (0, [], 0, ())).2.2.1) = decide ((l.getD i (0, [], 0, ())).2.2.1 ≤ now) := rfl
      rw [hge]
      by_cases hc : (cond ((l.getD i (0, [], 0, ())).2.2.1 != 0) (decide ((l.getD i (0, [], 0, ())).2.2.1 ≤ now)) false) = true
      · simp only [if_pos hc]
        simp only [Option.bind_some, s0]; rfl
      · simp only [if_neg hc, if_pos (show 0 ≤ (i : Int) ∧ (i : Int) < (List.length l : Int) by omega)]
        simp only [Option.bind_some]
        rw [sameSet_refl _ (by omega)]; rfl
  · simp only [if_pos (show (e != 0) = true by simpa using he)]
    simp only [Option.bind_some, s0]
    simp

theorem law_SetsLives (x : (Ty.pair SetsTy (.pair (.int .i64) (.pair (.int .i64) .unit))).den) (h : Fit reachK (.pair SetsTy (.pair (.int .i64) (.pair (.int .i64) .unit))) x) : basculelaw_SetsLives.run x.1 x.2.1 x.2.2.1 = some true := lives_all _ _ _
end Go.Bx
