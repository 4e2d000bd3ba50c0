/- A part of a framework that reads Go code as functions of plain data; or a law about such functions. -/
import Derived.Test.YtpapikaeaodfgaaLawSets
import Derived.Test.YtpapikaeaodfgaaFnSetsTurns0
namespace Go.Bx
open Go
set_option linter.unusedSimpArgs false
set_option linter.unusedVariables false
theorem turns_all (l : List SetD) (kk : List (List Int)) (now : Int) : basculelaw_SetsTurns.run l kk now = some true := by
  have s0 : basculelaw_sameSets.run [] [] = some true := sameSets_refl _ (by simp) (fun s hs => by cases hs)
  unfold basculelaw_SetsTurns.run basculelaw_SetsTurns.top sets_Turn.run sets_Turn.top basculeref_SetsTurned.run basculeref_SetsTurned.top
  obtain ⟨e, e1, e2, e3⟩ := sets_both l
  rw [e1, e2]
  simp only [Option.bind_some]
  by_cases he : e = 0
  · obtain ⟨h1, h2, h3⟩ := e3 he
    simp only [he, show ((0 : Int) != 0) = false from rfl, Bool.false_eq_true, if_false, keys_run, keysF_run, Option.bind_some]
    by_cases hk : keysE kk = 0
    · have hkl := (keysE_ok hk).2
      simp only [hk, show ((0 : Int) != 0) = false from rfl, Bool.false_eq_true, if_false]
      have hd : (decide (0 ≤ (IntKind.i64.wrap ((List.length l : Int) - 2)) ∧ (IntKind.i64.wrap ((List.length l : Int) - 2)) < (List.length l : Int)) || !((decide ((List.length l : Int) > 1)) == true)) = true := by
        rw [wrap_i64 (by omega) (by omega)]
        by_cases hn : (List.length l : Int) > 1
        · rw [decide_eq_true (by omega)]; rfl
        · rw [decide_eq_false hn]; simp
      simp only [hd, cond_true]
      have hgt : decide (((List.getD l (Int.toNat (IntKind.i64.wrap ((List.length l : Int) - 2))) (0, [], 0, ())).2.2.1 : Int) > IntKind.i64.wrap (now + 24)) = decide (IntKind.i64.wrap (now + 24) < ((List.getD l (Int.toNat (IntKind.i64.wrap ((List.length l : Int) - 2))) (0, [], 0, ())).2.2.1 : Int)) := rfl
      rw [hgt]
      split
      · simp only [Option.bind_some, s0]; rfl
      · split
        · simp only [Option.bind_some, s0]; rfl
        · have hcut : cutL l 0 (List.length l : Int) = l := by simp [cutL]
          rw [if_pos (by refine ⟨?_, ?_, ?_, ?_⟩ <;> first | trivial | omega), hcut, if_pos (fitB_small (by omega) (by omega)), fresh1_run _ (by simp; omega) (fun s hs => by
            rcases List.mem_append.1 hs with hs | hs
            · have := h3 s hs; omega
            · simp only [List.mem_singleton] at hs; subst hs; show List.length kk ≤ 1000; omega)]
          simp only [Option.bind_some]
          obtain ⟨m, hm⟩ : ∃ m : Nat, List.length l = m + 1 := ⟨List.length l - 1, by omega⟩
          have hw : IntKind.i64.wrap ((List.length l : Int) - 1) = (m : Int) := by rw [wrap_i64 (by omega) (by omega)]; omega
          rw [hw, toNat_nat]
          have hg : List.getD (l ++ [((List.length l : Int), kk, 0, ())]) m (0, [], 0, ()) = List.getD l m (0, [], 0, ()) := by
            simp only [List.getD, List.getElem?_append_left (show m < List.length l by omega)]
          have hmm : List.getD l m (0, [], 0, ()) ∈ l := by rw [getD_eq (by omega)]; exact List.getElem_mem (by omega)
          rw [hg, if_pos (by simp; omega), if_pos (by rw [fitB_small (by omega) (by omega)]; rfl), if_pos (by omega), if_pos (fitB_small (by simp; omega) (by omega))]
          simp only [Option.bind_some]
          rw [List.set_append_left _ _ (by omega)]
          rw [sameSets_refl _ (by simp; omega) (fun s hs => by
            rcases List.mem_append.1 hs with hs | hs
            · rcases List.mem_or_eq_of_mem_set hs with hs | hs
              · have := h3 s hs; omega
              · subst hs; have := h3 _ hmm; simp only; omega
            · simp only [List.mem_singleton] at hs; subst hs; show List.length kk ≤ 4000000000; omega)]
          rfl
    · simp only [if_pos (show (keysE kk != 0) = true by simpa using hk)]
      simp only [Option.bind_some, s0]
      simp
  · simp only [if_pos (show (e != 0) = true by simpa using he)]
    simp only [Option.bind_some, s0]
    simp

theorem law_SetsTurns (x : (Ty.pair SetsTy (.pair KeysTy (.pair (.int .i64) .unit))).den) (h : Fit reachK (.pair SetsTy (.pair KeysTy (.pair (.int .i64) .unit))) x) : basculelaw_SetsTurns.run x.1 x.2.1 x.2.2.1 = some true := turns_all _ _ _
end Go.Bx
