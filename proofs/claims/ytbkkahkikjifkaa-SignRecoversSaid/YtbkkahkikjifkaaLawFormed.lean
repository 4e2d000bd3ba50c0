/- A part of a framework that reads Go code as functions of plain data; or a law about such functions. -/
import Derived.Test.YtbkkahkikjifkaaLawSecret
import Derived.Test.YtbkkahkikjifkaaLawCurveNum
import Derived.Test.YtbkkahkikjifkaaLawSignNum
import Derived.Test.YtbkkahkikjifkaaFnSignRecovers1
namespace Go.Bx
open Go Go.Bx.Rg
set_option linter.unusedSimpArgs false
set_option linter.unusedVariables false
def formB (R S N o : Int) : Bool := secB R N && secB S N && decide (2 * S <= N) && decide (0 <= o) && decide (o <= 3)
theorem formB_ok {R S N o : Int} (hR : 0 <= R) (hS : 0 <= S) (h : formB R S N o = true) : (0 < R /\ R < N) /\ (0 < S /\ S < N) /\ 0 <= o /\ o <= 3 := by
 unfold formB secB at h
 simp only [Bool.and_eq_true, Bool.not_eq_true', decide_eq_true_eq, decide_eq_false_iff_not] at h
 omega
theorem formed_both {R S N o : Int} (P A B : List Int) (q : PtD) (hN : 1 < N /\ N < M256) (hR : 0 <= R /\ R < M256) (hS : 0 <= S /\ S < M256) :
  sign_formed.run (P, A, B, mk N, q, ()) (mk R, mk S, o, ()) = some (formB R S N o) /\ basculeref_mayBeSign.run (P, A, B, mk N, q, ()) (mk R, mk S, o, ()) = some (formB R S N o) := by
 obtain ⟨r1, r2⟩ := secret_both P A B q hR (show 0 <= N /\ N < M256 by omega)
 obtain ⟨s1, s2⟩ := secret_both P A B q hS (show 0 <= N /\ N < M256 by omega)
 have hlt : (decide (o < 4)) = decide (o <= 3) := by rw [Bool.eq_iff_iff, decide_eq_true_eq, decide_eq_true_eq]; omega
 have hge : (decide (o >= 0)) = decide (0 <= o) := rfl
 unfold sign_formed.run sign_formed.top basculeref_mayBeSign.run basculeref_mayBeSign.top formB
 simp only []
 rw [r1, r2, s1, s2, hlt, hge]
 cases secB R N with
 | false => exact ⟨rfl, rfl⟩
 | true =>
  simp only [Option.bind_some, BEq.rfl, if_true, cond_true, Bool.true_and]
  cases hs : secB S N with
  | false => exact ⟨rfl, rfl⟩
  | true =>
   have hS' : 0 <= S /\ S < N /\ S ≠ 0 := by
    unfold secB at hs
    simp only [Bool.and_eq_true, Bool.not_eq_true', decide_eq_true_eq, decide_eq_false_iff_not] at hs
    omega
   simp only [BEq.rfl, if_true, cond_true, Bool.true_and]
   rw [lowP hN ⟨hS'.1, hS'.2.1⟩, oppositeN hN ⟨hS'.1, hS'.2.1⟩]
   simp only [Option.bind_some]
   have hneg : (-S) % N = N - S := by rw [emod_neg (by omega) (by omega), if_pos (by omega)]; omega
   rw [hneg, orderN hS ⟨by omega, by omega⟩, Option.bind_some, le_d]
   have : (!decide (S > N - S)) = decide (2 * S <= N) := by
    rw [Bool.eq_iff_iff]
    simp only [Bool.not_eq_true', decide_eq_true_eq, decide_eq_false_iff_not]; omega
   rw [this]
   cases decide (2 * S <= N) <;> cases decide (0 <= o) <;> cases decide (o <= 3) <;> exact ⟨rfl, rfl⟩
abbrev SgTy : Ty := .pair U256 (.pair U256 (.pair (.int .i64) .unit))
theorem sg_num (s : List Int × List Int × Int × Unit) (h : Fit reachK SgTy s) : ∃ R S o, s = (mk R, mk S, o, ()) /\ (0 <= R /\ R < M256) /\ (0 <= S /\ S < M256) := by
 obtain ⟨a, b, o, u⟩ := s
 obtain ⟨h1, h2, _⟩ := h
 have w1 : W4 a := digs_of_fit h1
 have w2 : W4 b := digs_of_fit h2
 exact ⟨_, _, o, by rw [<- mk_of w1, <- mk_of w2], w1.bound, w2.bound⟩
end Go.Bx
