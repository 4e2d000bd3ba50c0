/- A part of a framework that reads Go code as functions of plain data; or a law about such functions. -/
import Derived.Test.YtebnjboimekljaaLawCoinWith
import Derived.Test.YtebnjboimekljaaFnCoinHolds0
namespace Go.Bx
open Go
set_option linter.unusedSimpArgs false
set_option linter.unusedVariables false

abbrev Who : Ty := .arr 32 (.int .u8)

theorem law_CoinHolds (x : (Ty.pair CoinTy (.pair Who .unit)).den) (h : Fit reachK (.pair CoinTy (.pair Who .unit)) x) : basculelaw_CoinHolds.run x.1 x.2.1 = some true := by
  obtain ⟨h1, h2, _⟩ := h
  have hc := coin_of_fit h1
  have hw : (x.2.1 : List Int).length = 32 := h2.1
  unfold basculelaw_CoinHolds.run basculelaw_CoinHolds.top coin_Of.run coin_Of.top basculeref_HeldBy.run basculeref_HeldBy.top
  rw [coin_fault _ hc, coin_check _ hc]
  simp only [Option.bind_some]
  by_cases h40 : (x.1 : CoinD).2.1.length > 40
  · rw [if_pos h40]; rfl
  · rw [if_neg h40]
    by_cases hg : coinGood x.1 = true
    · rw [if_pos hg, if_neg (show ¬ (((0 : Int) != 0) = true) by decide), if_neg (show ¬ (((0 : Int) != 0) = true) by decide)]
      rw [coin_of_run _ hc (by omega) (srt_good hg) hw, held_run _ (by omega)]
      simp only [Option.bind_some]
      rw [beqD_refl U256 _ rfl]; rfl
    · rw [if_neg hg]; rfl

end Go.Bx
