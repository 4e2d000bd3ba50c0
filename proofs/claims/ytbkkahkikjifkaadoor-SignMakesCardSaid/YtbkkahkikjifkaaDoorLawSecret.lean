/- A part of a framework that reads Go code as functions of plain data; or a law about such functions. -/
import Derived.Test.YtbkkahkikjifkaaDoorLawCurve
import Derived.Test.YtbkkahkikjifkaaDoorFnSignMakes1
namespace Go.Bx
open Go Go.Bx.Rg
set_option linter.unusedSimpArgs false
set_option linter.unusedVariables false
def secB (D N : Int) : Bool := !decide (D = 0) && decide (D < N)
theorem secret_both {D N : Int} (P A B : List Int) (q : PtD) (hD : 0 <= D /\ D < M256) (hN : 0 <= N /\ N < M256) : sign_secret.run (P, A, B, mk N, q, ()) (mk D) = some (secB D N) /\ basculeref_mayBeSecret.run (P, A, B, mk N, q, ()) (mk D) = some (secB D N) := by
 constructor
 ·unfold sign_secret.run sign_secret.top secB
  simp only []
  rw [zeroW hD, cmpN hD hN]
  by_cases h : D = 0
  ·subst h; simp
  ·simp only [h, decide_false, Bool.not_false, BEq.rfl, if_true, Option.bind_some, lt_d, cond_true, Bool.true_and]
 ·unfold basculeref_mayBeSecret.run basculeref_mayBeSecret.top secB basculeref_isZero.run basculeref_isZero.top
  simp only []
  rw [Option.bind_some, zeroW hD, orderN hD hN]
  by_cases h : D = 0
  ·subst h; simp
  ·simp only [h, decide_false, Bool.not_false, BEq.rfl, if_true, Option.bind_some, lt_d, cond_true, Bool.true_and]
end Go.Bx
