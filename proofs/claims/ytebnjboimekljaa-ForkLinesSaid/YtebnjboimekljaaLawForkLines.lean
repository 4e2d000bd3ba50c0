/- A part of a framework that reads Go code as functions of plain data; or a law about such functions. -/
import Derived.Test.YtebnjboimekljaaLawForkTree
import Derived.Test.YtebnjboimekljaaFnForkLines1
namespace Go.Bx
open Go
set_option linter.unusedSimpArgs false
set_option linter.unusedVariables false

theorem lines_both (t : TreeD) (f : Bool) : ∃ l e, fork_Line.run t f = some (l, e, ()) ∧ basculeref_LineOf.run t f = some (l, e, ()) ∧ l.length ≤ 1000 := by
  obtain ⟨e, e1, e2, e3⟩ := tree_both t
  unfold fork_Line.run fork_Line.top basculeref_LineOf.run basculeref_LineOf.top
  rw [e1, e2]
  simp only [Option.bind_some]
  by_cases he : e = 0
  · subst he
    have g := e3 rfl
    obtain ⟨l1, a1, a2, a3, _⟩ := line_both g.vt (by have := g.len; omega) (b := t.2.2.1) g.fin.2 (by have := g.fin; omega)
    obtain ⟨l2, b1, b2, b3, _⟩ := line_both g.vt (by have := g.len; omega) (b := t.2.1) g.best.2 (by have := g.best; omega)
    rw [a2, a3, b2, b3]
    simp only [Option.bind_some]
    cases f with
    | true => exact ⟨l1, 0, rfl, rfl, by omega⟩
    | false => exact ⟨l2, 0, rfl, rfl, by omega⟩
  · have hn : (e != 0) = true := by simpa using he
    simp only [if_pos hn]
    exact ⟨_, _, rfl, rfl, by simp⟩

theorem law_ForkLines (x : (Ty.pair TreeTy (.pair .bool .unit)).den) (h : Fit reachK (.pair TreeTy (.pair .bool .unit)) x) : basculelaw_ForkLines.run x.1 x.2.1 = some true := by
  obtain ⟨l, e, k1, k2, k3⟩ := lines_both x.1 x.2.1
  unfold basculelaw_ForkLines.run basculelaw_ForkLines.top
  rw [k1, k2]
  simp only [Option.bind_some]
  rw [sameInts_refl l (by omega), Option.bind_some]
  have g : (cond true (e == e) false == true) = true := by simp
  rw [g, if_pos rfl]
  have hb : fork_Begin.run = some ([(-1, 0, [], ())], 0, 0, ()) := by kernel_rfl
  rw [hb, Option.bind_some]
  simp

end Go.Bx
