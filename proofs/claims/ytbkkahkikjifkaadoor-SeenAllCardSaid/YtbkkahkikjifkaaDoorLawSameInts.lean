/- A part of a framework that reads Go code as functions of plain data; or a law about such functions. -/
import Derived.Test.YtbkkahkikjifkaaDoorLawBase
import Derived.Test.YtbkkahkikjifkaaDoorFnSeenAll0
namespace Go.Bx
open Go
set_option linter.unusedSimpArgs false
set_option linter.unusedVariables false
theorem sameInts_loop {α : Type} (Rt : Bool->Option α) (Xt : Option α) (k : Nat) (l : List Int) (hl : l.length <= 4000000000) : ∀ (R P : List Int) (n : Nat),R.length < n->l = P ++ R ->
  basculelaw_sameInts.l0 k Rt Xt n l l (l.length : Int) (P.length : Int) = Xt
 | R,P,0,h,_=>by omega
 | [],P,n + 1,h,hc=>by
  simp only [basculelaw_sameInts.l0,basculelaw_sameInts.l0s]
  have : l.length = P.length:=by rw [hc]; simp
  rw [if_neg (by rw [decide_eq_true_eq]; omega)]
 | a :: R,P,n + 1,h,hc=>by
  have hlen : l.length = P.length + (R.length + 1):=by rw [hc]; simp
  simp only [basculelaw_sameInts.l0,basculelaw_sameInts.l0s]
  rw [if_pos (by rw [decide_eq_true_eq]; omega),if_pos (by omega),if_pos (by omega),i64_succ (by omega),if_neg (by simp)]
  have ih:=sameInts_loop Rt Xt k l hl R (P ++ [a]) n (by simpa using h) (by simp [hc])
  rw [List.length_append] at ih
  exact ih
theorem sameInts_refl (l : List Int) (hl : l.length <= 4000000000) : basculelaw_sameInts.run l l = some true:=by
 unfold basculelaw_sameInts.run basculelaw_sameInts.top
 rw [if_neg (by simp)]
 exact sameInts_loop (fun x4=>some x4) (basculelaw_sameInts.j0 fun x4=>some x4) fuel l hl l [] fuel (by rw [fuel_big]; omega) rfl
end Go.Bx
