/- A part of a framework that reads Go code as functions of plain data; or a law about such functions. -/
import Derived.Test.YtebnjboimekljaaLawForkHeights
import Derived.Test.YtebnjboimekljaaFnForkGrows1
namespace Go.Bx
open Go
set_option linter.unusedSimpArgs false
set_option linter.unusedVariables false

/-- the best of a tree hangs on no best one told -/
theorem above_same {α : Type} {t u : TreeD} (h : t.1 = u.1) (k : Nat) (Xt : Int → Int → Option α) : ∀ (N : Nat) (b root : Int), fork_above.l0 k Xt N b root t = fork_above.l0 k Xt N b root u
  | 0, _, _ => rfl
  | N + 1, b, root => by
    simp only [fork_above.l0, fork_above.l0s, h]
    simp only [above_same h k Xt N]

theorem onB_same {t u : TreeD} (h : t.1 = u.1) (root : Int) : onB t root = onB u root := by
  funext i
  unfold onB fork_above.run fork_above.top
  rw [above_same h]

theorem best_two {b : List BlkD} {x y f : Int} (hV : Vt (b, x, f, ())) (hl : b.length ≤ 50) (h0 : 0 ≤ f) (h1 : f < (b.length : Int)) : ∃ q : Nat, fork_best.run (b, x, f, ()) = some (q : Int) ∧ basculeref_bestOf.run (b, y, f, ()) = some (q : Int) ∧ q < b.length := by
  have hV2 : Vt (b, y, f, ()) := hV
  obtain ⟨F, rfl⟩ : ∃ F : Nat, f = (F : Int) := ⟨f.toNat, by omega⟩
  have hFl : F < b.length := by omega
  have e := onB_same (t := (b, x, (F : Int), ())) (u := (b, y, (F : Int), ())) rfl (F : Int)
  have hon : ∀ j, j < b.length → j < F → onB (b, x, (F : Int), ()) (F : Int) j = false := fun j hj hjF => (on_both hV hl (root := (F : Int)) (by omega) hj).2.2.1 (by omega)
  have a := fun N (hN : b.length < N) => best_loop N (fun (x3 : Int) => fork_best.j1 (fun (x2 : Int) => some x2) x3) hV hl (F := F) rfl hFl N b.length 0 F (by show 0 + b.length = b.length; omega) hN hFl ((on_both hV hl (root := (F : Int)) (by omega) hFl).2.2.2 rfl) (fun j hj => by omega) (fun j hj hs => by rw [hon j (by omega) hj] at hs; cases hs)
  have c := fun N (hN : b.length < N) => bestOf_loop N (fun (x3 : Int) => basculeref_bestOf.j1 (fun (x2 : Int) => some x2) x3) hV2 hl (F := F) rfl hFl N b.length (-1) hN (Nat.le_refl _) (.inl ⟨rfl, fun j hj hjl => by exfalso; have : j < b.length := hjl; omega⟩)
  obtain ⟨q, q1, q2⟩ := a fuel (by rw [fuel_big]; omega)
  obtain ⟨p, p1, p2⟩ := c fuel (by rw [fuel_big]; omega)
  rw [← e] at p2
  have p2' : Best (b, x, (F : Int), ()) (onB (b, x, (F : Int), ()) (F : Int)) b.length p := ⟨p2.lt, p2.on, p2.all, p2.first⟩
  have eq := q2.one p2'
  subst eq
  refine ⟨q, ?_, ?_, q2.lt⟩
  · unfold fork_best.run fork_best.top
    exact q1
  · unfold basculeref_bestOf.run basculeref_bestOf.top
    have ew : IntKind.i64.wrap ((b.length : Int) - 1) = (b.length : Int) - 1 := wrap_i64 (by omega) (by omega)
    rw [ew]; exact p1

theorem grow_both {t : TreeD} (ht : TreeOk t) (n : Int) {l : List CallD} (hl : ∀ c ∈ l, CallOk c) : ∃ r, fork_Grow.run t n l = some r ∧ basculeref_Grown.run t n l = some r ∧ r.1.1.length < 1000 ∧ ∀ b ∈ r.1.1, b.2.2.1.length < 1000 := by
  obtain ⟨e, e1, e2, e3⟩ := tree_both t
  unfold fork_Grow.run fork_Grow.top basculeref_Grown.run basculeref_Grown.top
  rw [e1, e2]
  simp only [Option.bind_some]
  by_cases he : e = 0
  · subst he
    have g := e3 rfl
    have hlen := g.len
    have hfin := g.fin
    have hcl := calls_mem g.calls
    have hne : ¬ (((0 : Int) != 0) = true) := by decide
    simp only [if_neg hne]
    by_cases hc : cond (decide (n < 0)) true (decide (n ≥ (t.1.length : Int))) = true
    · simp only [if_pos hc]
      exact ⟨_, rfl, rfl, by simp, by simp⟩
    · simp only [if_neg hc]
      rw [cond_or, Bool.or_eq_true, decide_eq_true_eq, decide_eq_true_eq] at hc
      obtain ⟨p, rfl⟩ : ∃ p : Nat, n = (p : Int) := ⟨n.toNat, by omega⟩
      have hp : p < t.1.length := by omega
      obtain ⟨a1, a2, _⟩ := on_both g.vt (by omega) hfin.1 hp
      rw [a1, a2]
      simp only [Option.bind_some]
      by_cases ho : (!onB t t.2.2.1 p) = true
      · simp only [if_pos ho]
        exact ⟨_, rfl, rfl, by simp, by simp⟩
      · simp only [if_neg ho]
        by_cases h6 : (decide ((l.length : Int) > 6)) = true
        · simp only [if_pos h6]
          exact ⟨_, rfl, rfl, by simp, by simp⟩
        · simp only [if_neg h6]
          rw [decide_eq_true_eq] at h6
          by_cases h40 : t.1.length = 40
          · rw [if_pos (show ((t.1.length : Int) == 40) = true by rw [beq_iff_eq]; omega), if_pos (by rw [decide_eq_true_eq]; omega)]
            exact ⟨_, rfl, rfl, by simp, by simp⟩
          · have cA : ¬ (((t.1.length : Int) == 40) = true) := by rw [beq_iff_eq]; omega
            have cB : ¬ (decide ((t.1.length : Int) ≥ 40) = true) := by rw [decide_eq_true_eq]; omega
            simp only [if_neg cA, if_neg cB]
            have hcut : cutL t.1 0 (t.1.length : Int) = t.1 := by unfold cutL; simp
            rw [hcut]
            have r1 : 0 ≤ (p : Int) ∧ (p : Int) < (t.1.length : Int) := by omega
            have r2 : fitB (t.1.length + 1) 40 = true := fitB_small (by omega) (by omega)
            have r3 : fitB (0 + t.1.length) 40 = true := fitB_small (by omega) (by omega)
            have r0 : 0 ≤ (0 : Int) ∧ (0 : Int) ≤ (t.1.length : Int) ∧ (t.1.length : Int) ≤ (t.1.length : Int) ∧ True := ⟨by omega, by omega, by omega, trivial⟩
            rw [if_pos r0]
            simp only [if_pos r1, if_pos r2, if_pos r3]
            generalize hnew : ((p : Int), (IntKind.i64.wrap ((List.getD t.1 (Int.toNat (p : Int)) (0, 0, [], ())).2.1 + 1)), l, ()) = nb
            have nb1 : nb.1 = (p : Int) := by rw [← hnew]
            have nb2 : nb.2.2.1 = l := by rw [← hnew]
            have hcl2 : ∀ b ∈ t.1 ++ [nb], b.2.2.1.length ≤ 1000 := fun b hb => by
              rcases List.mem_append.1 hb with hb | hb
              · have := hcl b hb; omega
              · simp only [List.mem_cons, List.not_mem_nil, or_false] at hb
                rw [hb, nb2]; omega
            have hok2 : TreeOk (t.1 ++ [nb], t.2.1, t.2.2.1, ()) := fun b hb c hc => by
              rcases List.mem_append.1 hb with hb | hb
              · exact ht b hb c hc
              · simp only [List.mem_cons, List.not_mem_nil, or_false] at hb
                rw [hb, nb2] at hc
                exact hl c hc
            rw [fresh_run (t := (t.1 ++ [nb], t.2.1, t.2.2.1, ())) (by simp; omega) hcl2 hok2, Option.bind_some]
            have hV2 : Vt (t.1 ++ [nb], t.2.1, t.2.2.1, ()) := fun i hi => by
              have hi' : i < t.1.length + 1 := by simpa using hi
              have hpar : par (t.1 ++ [nb], t.2.1, t.2.2.1, ()) i = if i < t.1.length then par t i else (p : Int) := by
                unfold par
                by_cases hlt : i < t.1.length
                · rw [if_pos hlt]
                  simp [List.getD, List.getElem?_append_left hlt]
                · rw [if_neg hlt]
                  have : i = t.1.length := by omega
                  subst this
                  simp [List.getD, nb1]
              rw [hpar]
              by_cases hlt : i < t.1.length
              · rw [if_pos hlt]; exact g.vt i hlt
              · rw [if_neg hlt]
                exact ⟨fun h => by have := g.one; omega, fun _ => by omega⟩
            obtain ⟨q, q1, q2, q3⟩ := best_two (y := 0) hV2 (by simp; omega) hfin.1 (by simp; omega)
            rw [q1, q2]
            simp only [Option.bind_some]
            exact ⟨_, rfl, rfl, by show (t.1 ++ [nb]).length < 1000; simp; omega, fun b hb => by
              rcases List.mem_append.1 hb with hb | hb
              · have := hcl b hb; omega
              · simp only [List.mem_cons, List.not_mem_nil, or_false] at hb
                rw [hb, nb2]; omega⟩
  · have hn : (e != 0) = true := by simpa using he
    simp only [if_pos hn]
    exact ⟨_, rfl, rfl, by simp, by simp⟩

theorem law_ForkGrows (x : (Ty.pair TreeTy (.pair (.int .i64) (.pair (.sl CallTy) .unit))).den) (h : Fit reachK (.pair TreeTy (.pair (.int .i64) (.pair (.sl CallTy) .unit))) x) : basculelaw_ForkGrows.run x.1 x.2.1 x.2.2.1 = some true := by
  obtain ⟨h1, h2, h3, _⟩ := h
  obtain ⟨r, k1, k2, k3, k4⟩ := grow_both (treeOk_of_fit h1) x.2.1 (l := x.2.2.1) (fun c hc => callOk_of_fit (h3.2.2 c hc))
  unfold basculelaw_ForkGrows.run basculelaw_ForkGrows.top
  rw [k1, k2]
  simp only [Option.bind_some]
  rw [sameTree_refl r.1 k3 k4, Option.bind_some]
  simp

end Go.Bx
