/- A part of a framework that reads Go code as functions of plain data; or a law about such functions. -/
import Derived.Test.YtebnjboimekljaaLawCoinSet
import Derived.Test.YtebnjboimekljaaFnCoinMoves0
namespace Go.Bx
open Go
set_option linter.unusedSimpArgs false
set_option linter.unusedVariables false

theorem law_CoinMoves (x : (Ty.pair CoinTy (.pair Who (.pair Who (.pair U256 .unit)))).den) (h : Fit reachK (.pair CoinTy (.pair Who (.pair Who (.pair U256 .unit)))) x) : basculelaw_CoinMoves.run x.1 x.2.1 x.2.2.1 x.2.2.2.1 = some true := by
  obtain ⟨h1, h2, h3, h4, _⟩ := h
  obtain ⟨r, e1, e2, g1, g2⟩ := burn_both x.1 (coin_of_fit h1) (who_of_fit h2) (digs_of_fit h4)
  unfold basculelaw_CoinMoves.run basculelaw_CoinMoves.top coin_Move.run coin_Move.top basculeref_Moved.run basculeref_Moved.top
  rw [e1, e2]
  simp only [Option.bind_some]
  by_cases he : (r.2.1 != 0) = true
  · rw [if_pos he, if_pos he]
    simp only [Option.bind_some]
    rw [same_coin _ (by simp)]
    simp
  · rw [if_neg he, if_neg he]
    obtain ⟨s, f1, f2, k1, k2⟩ := mint_both r.1 g1 (who_of_fit h3) (digs_of_fit h4)
    rw [f1, f2]
    simp only [Option.bind_some]
    rw [same_coin _ (by omega)]
    simp

end Go.Bx
