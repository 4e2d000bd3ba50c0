/- A part of a framework that reads Go code as functions of plain data; or a law about such functions. -/
import Derived.Test.YtokjlmpahlneaaaLawPostCheck
import Derived.Test.YtokjlmpahlneaaaFnPostChecks1
namespace Go.Bx
open Go
set_option linter.unusedSimpArgs false
set_option linter.unusedVariables false

theorem checks_post (p : PostD) (hn : -9223372036854775808 ≤ p.2.1 ∧ p.2.1 ≤ 9223372036854775807) (hw : ∀ a ∈ p.2.2.2.1, CoinOk a.2.2.2.1) : basculelaw_PostChecks.run p = some true := by
  obtain ⟨e, h1, h2⟩ := post_both p hn hw
  unfold basculelaw_PostChecks.run basculelaw_PostChecks.top
  rw [h1, h2]
  simp only [Option.bind_some, BEq.rfl]

theorem law_PostChecks (x : (Ty.pair PostTy .unit).den) (h : Fit reachK (.pair PostTy .unit) x) : basculelaw_PostChecks.run x.1 = some true := by
  obtain ⟨⟨_, h2, _, h4, _⟩, _⟩ := h
  refine checks_post x.1 (inR_i64.1 h2) fun a ha => ?_
  obtain ⟨_, _, _, h5, _⟩ := h4.2.2 a ha
  exact coin_of_fit h5

end Go.Bx
