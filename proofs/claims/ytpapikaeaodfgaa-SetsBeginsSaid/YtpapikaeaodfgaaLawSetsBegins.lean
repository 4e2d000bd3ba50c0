/- A part of a framework that reads Go code as functions of plain data; or a law about such functions. -/
import Derived.Test.YtpapikaeaodfgaaLawSets
import Derived.Test.YtpapikaeaodfgaaFnSetsBegins0
namespace Go.Bx
open Go
theorem law_SetsBegins (x : (Ty.pair KeysTy .unit).den) (h : Fit reachK (.pair KeysTy .unit) x) : basculelaw_SetsBegins.run x.1 = some true := by
  unfold basculelaw_SetsBegins.run basculelaw_SetsBegins.top sets_Begin.run sets_Begin.top basculeref_SetsBegun.run basculeref_SetsBegun.top
  rw [keys_run, keysF_run]
  simp only [Option.bind_some]
  by_cases hk : keysE x.1 = 0
  · have hl := (keysE_ok hk).2
    rw [hk, if_neg (by decide), if_neg (by decide), fresh_run _ (by simp) (fun s hs => by simp at hs; subst hs; show List.length x.1 ≤ 1000; omega)]
    simp only [Option.bind_some]
    rw [sameSets_refl _ (by simp) (fun s hs => by simp at hs; subst hs; show List.length x.1 ≤ 4000000000; omega)]
    rfl
  · rw [if_pos (by simpa using hk), if_pos (by simpa using hk)]
    simp only [Option.bind_some]
    rw [sameSets_refl _ (by simp) (fun s hs => by simp at hs)]
    simp
end Go.Bx
