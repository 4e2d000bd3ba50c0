/- A part of a framework that reads Go code as functions of plain data; or a law about such functions. -/
import Derived.Test.YtebnjboimekljaaLawForkHeights
import Derived.Test.YtebnjboimekljaaFnForkSettles1
namespace Go.Bx
open Go
set_option linter.unusedSimpArgs false
set_option linter.unusedVariables false

theorem settle_both {t : TreeD} (ht : TreeOk t) (n : Int) : ∃ r, fork_Settle.run t n = some r ∧ basculeref_Settled.run t n = some r ∧ r.1.1.length < 1000 ∧ ∀ b ∈ r.1.1, b.2.2.1.length < 1000 := by
  obtain ⟨e, e1, e2, e3⟩ := tree_both t
  unfold fork_Settle.run fork_Settle.top basculeref_Settled.run basculeref_Settled.top
  have e1' := e1
  rw [e1, e2]
  simp only [Option.bind_some]
  by_cases he : e = 0
  · subst he
    have g := e3 rfl
    have hok := good_ok e1'
    have hlen := g.len
    have hfin := g.fin
    have hbest := g.best
    have hcl := calls_mem g.calls
    have hne : ¬ (((0 : Int) != 0) = true) := by decide
    simp only [if_neg hne, if_pos hfin]
    have g1 : ∀ x : Bool, (decide (0 ≤ t.2.1 ∧ t.2.1 < (t.1.length : Int)) || x) = true := fun x => by
      rw [Bool.or_eq_true]; left; rw [decide_eq_true_eq]; exact hbest
    simp only [g1, cond_true]
    by_cases hc : cond (decide (n < (List.getD t.1 (Int.toNat t.2.2.1) (0, 0, [], ())).2.1)) true (decide (n > (List.getD t.1 (Int.toNat t.2.1) (0, 0, [], ())).2.1)) = true
    · simp only [if_pos hc]
      exact ⟨_, rfl, rfl, by simp, by simp⟩
    · simp only [if_neg hc]
      rw [fresh_run (by omega) (fun b hb => by have := hcl b hb; omega) ht]
      simp only [Option.bind_some]
      obtain ⟨l, b1, b2, b3, _⟩ := line_both g.vt (by omega) (b := t.2.1) hbest.2 (by omega)
      rw [b2, b3]
      simp only [Option.bind_some]
      -- the height lies in the line
      rw [cond_or, Bool.or_eq_true, decide_eq_true_eq, decide_eq_true_eq] at hc
      have hF : (List.getD t.1 (Int.toNat t.2.2.1) (0, 0, [], ())).2.1 = hgt t (Int.toNat t.2.2.1) := rfl
      have hB : (List.getD t.1 (Int.toNat t.2.1) (0, 0, [], ())).2.1 = hgt t (Int.toNat t.2.1) := rfl
      rw [hF, hB] at hc
      obtain ⟨⟨a1, a2⟩, _⟩ := heights (by omega) hok _ (Int.toNat t.2.2.1) (Nat.lt_succ_self _) (by omega)
      have hlen2 : (l.length : Int) = hgt t (Int.toNat t.2.1) + 1 := by
        have h3 := b3
        unfold basculeref_lineTo.run basculeref_lineTo.top basculeref_lineTo_s0.run at h3
        rw [if_neg (by rw [decide_eq_true_eq]; omega), if_pos (by omega)] at h3
        obtain ⟨y, y1, y2⟩ := Option.bind_eq_some_iff.1 h3
        split at y2
        · rename_i hf
          have hrun : basculeref_lineTo_s0.runN (fuel + 1) t t.2.1 = some (l, ()) := by
            have hu : ∀ M, basculeref_lineTo_s0.runN M t (List.getD t.1 (Int.toNat t.2.1) (0, 0, [], ())).1 = some y → basculeref_lineTo_s0.runN (M + 1) t t.2.1 = some (y.1 ++ [t.2.1], ()) := fun M hM => by
              simp only [basculeref_lineTo_s0.runN, basculeref_lineTo_s0.top]
              rw [if_neg (by rw [decide_eq_true_eq]; omega), if_pos (by omega), hM, Option.bind_some, if_pos hf]
            have := hu fuel y1
            rw [this]
            simp only [Option.some.injEq] at y2
            rw [y2]
          have := line_len (by omega) hok g.vt (fuel + 1) t.2.1 l hbest.2 (by omega) hrun
          rw [if_neg (by omega)] at this
          exact this
        · cases y2
      rw [if_pos (by omega)]
      exact ⟨_, rfl, rfl, by show t.1.length < 1000; omega, fun b hb => by have := hcl b hb; omega⟩
  · have hn : (e != 0) = true := by simpa using he
    simp only [if_pos hn]
    exact ⟨_, rfl, rfl, by simp, by simp⟩

theorem law_ForkSettles (x : (Ty.pair TreeTy (.pair (.int .i64) .unit)).den) (h : Fit reachK (.pair TreeTy (.pair (.int .i64) .unit)) x) : basculelaw_ForkSettles.run x.1 x.2.1 = some true := by
  obtain ⟨r, k1, k2, k3, k4⟩ := settle_both (treeOk_of_fit h.1) x.2.1
  unfold basculelaw_ForkSettles.run basculelaw_ForkSettles.top
  rw [k1, k2]
  simp only [Option.bind_some]
  rw [sameTree_refl r.1 k3 k4, Option.bind_some]
  simp

end Go.Bx
