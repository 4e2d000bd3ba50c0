/- A part of a framework that reads Go code as functions of plain data; or a law about such functions. -/
import Derived.Test.YtebnjboimekljaaLawCoinSet
import Derived.Test.YtebnjboimekljaaFnCoinBurns0
namespace Go.Bx
open Go
set_option linter.unusedSimpArgs false
set_option linter.unusedVariables false

theorem law_CoinBurns (x : (Ty.pair CoinTy (.pair Who (.pair U256 .unit))).den) (h : Fit reachK (.pair CoinTy (.pair Who (.pair U256 .unit))) x) : basculelaw_CoinBurns.run x.1 x.2.1 x.2.2.1 = some true := by
  obtain ⟨h1, h2, h3, _⟩ := h
  obtain ⟨r, e1, e2, _, g⟩ := burn_both x.1 (coin_of_fit h1) (who_of_fit h2) (digs_of_fit h3)
  unfold basculelaw_CoinBurns.run basculelaw_CoinBurns.top
  rw [e1, e2]
  simp only [Option.bind_some]
  rw [same_coin _ (by omega)]
  simp

end Go.Bx
