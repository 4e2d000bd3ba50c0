/- A part of a framework that reads Go code as functions of plain data; or a law about such functions. -/
import Derived.Test.YtbkkahkikjifkaaDoorLawRingPow
import Derived.Test.YtbkkahkikjifkaaDoorLawRing
import Derived.Test.YtbkkahkikjifkaaDoorFnSignMakes0
namespace Go.Bx.Rg
open Go Go.Bx
set_option linter.unusedSimpArgs false
set_option linter.unusedVariables false
abbrev PtD : Type := List Int × List Int × Bool × Unit
abbrev CvD : Type := List Int × List Int × List Int × List Int × PtD × Unit
theorem mulL (P a b : Int) : (a % P) * b % P = a * b % P := by rw [Int.mul_emod, Int.emod_emod, <- Int.mul_emod]
theorem mulR (P a b : Int) : a * (b % P) % P = a * b % P := by rw [Int.mul_emod, Int.emod_emod, <- Int.mul_emod]
theorem addL (P a b : Int) : (a % P + b) % P = (a + b) % P := Int.emod_add_emod _ _ _
theorem addR (P a b : Int) : (a + b % P) % P = (a + b) % P := Int.add_emod_emod _ _ _
theorem subL (P a b : Int) : (a % P - b) % P = (a - b) % P := by rw [Int.sub_emod, Int.emod_emod, <- Int.sub_emod]
theorem subR (P a b : Int) : (a - b % P) % P = (a - b) % P := by rw [Int.sub_emod, Int.emod_emod, <- Int.sub_emod]
theorem negM (P a : Int) : (-(a % P)) % P = (-a) % P := by
 have := subR P 0 a
 rwa [Int.zero_sub, Int.zero_sub] at this
theorem zeroW {a : Int} (ha : 0 <= a /\ a < M256) : beqD (.arr 4 (.int .u64)) (mk a) [0, 0, 0, 0] = decide (a = 0) := by
 rw [<- mk_zero, Bool.eq_iff_iff, beqD_iff _ _ _ rfl, decide_eq_true_eq]
 exact mk_inj ha ⟨by decide, by decide⟩
theorem lt_d (x y : Int) : decide (sg x y < 0) = decide (x < y) := by
 unfold sg
 by_cases h : x < y
 ·simp [h]
 ·rw [if_neg h]
  by_cases g : x > y
  ·rw [if_pos g]; simp [h]
  ·rw [if_neg g]; simp [h]
theorem gt_d (x y : Int) : decide (sg x y > 0) = decide (x > y) := by
 unfold sg
 by_cases h : x < y
 ·rw [if_pos h]; simp; omega
 ·rw [if_neg h]
  by_cases g : x > y
  ·rw [if_pos g]; simp [g]
  ·rw [if_neg g]; simp [g]
theorem le_d (x y : Int) : decide (sg x y <= 0) = !decide (x > y) := by
 unfold sg
 by_cases h : x < y
 ·rw [if_pos h]; simp; omega
 ·rw [if_neg h]
  by_cases g : x > y
  ·rw [if_pos g]; simp [g]
  ·rw [if_neg g]; simp [g]
theorem ge_d (x y : Int) : decide (sg x y >= 0) = !decide (x < y) := ge_dec x y
def onB (P A B x y : Int) (f : Bool) : Bool :=
 if f = true then decide (x = 0) && decide (y = 0) else decide (x < P) && decide (y < P) && decide (y * y % P = (x * (x * x) + A * x + B) % P)
section
variable {P A B : Int} (hP : 1 < P /\ P < M256) (hA : 0 <= A /\ A < P) (hB : 0 <= B /\ B < P) (Nw : List Int) (bs : PtD)
include hP hA hB
theorem sideN {x : Int} (f : Bool) (hx : 0 <= x /\ x < P) : curve_side_s0.run (mk P, mk A, mk B, Nw, bs, ()) (mk P) (mk x) f = some (mk ((x * (x * x) + A * x + B) % P), f, mk ((x * (x * x) + A * x + B) % P), ()) := by
 unfold curve_side_s0.run curve_side_s0.top
 have m := modIn hP
 rw [mulN hP f hx hx, Option.bind_some]
 simp only []
 rw [mulN hP f hx (m _), Option.bind_some]
 simp only []
 rw [mulN hP f hA hx, Option.bind_some]
 simp only []
 rw [addN hP f (m _) (m _), Option.bind_some]
 simp only []
 rw [addN hP f (m _) hB, Option.bind_some]
 simp only [mulR, addL, addR]
theorem rightN {x : Int} (hx : 0 <= x /\ x < P) : basculeref_right.run (mk P, mk A, mk B, Nw, bs, ()) (mk x) = some (mk ((x * (x * x) + A * x + B) % P)) := by
 unfold basculeref_right.run basculeref_right.top
 have m := modIn hP
 rw [productN hP hx hx, Option.bind_some]
 simp only []
 rw [totalN hP (m _) hA, Option.bind_some, productN hP hx (m _), Option.bind_some, totalN hP (m _) hB, Option.bind_some]
 simp only [mulR, addL, addR]
 rw [show x * (x * x + A) + B = x * (x * x) + A * x + B by grind]
theorem on_both {x y : Int} (f : Bool) (hx : 0 <= x /\ x < M256) (hy : 0 <= y /\ y < M256) :
  curve_on.run (mk P, mk A, mk B, Nw, bs, ()) (mk x, mk y, f, ()) = some (onB P A B x y f) /\ basculeref_isOn.run (mk P, mk A, mk B, Nw, bs, ()) (mk x, mk y, f, ()) = some (onB P A B x y f) := by
 have hPw : 0 <= P /\ P < M256 := ⟨by omega, hP.2⟩
 have m := modIn hP
 unfold curve_on.run curve_on.top basculeref_isOn.run basculeref_isOn.top onB basculeref_isZero.run basculeref_isZero.top
 cases f with
 | true =>
  simp only [if_true, zeroW hx, zeroW hy, Option.bind_some, cond_and]
  first | exact ⟨rfl, by cases decide (x = 0) <;> rfl⟩ | (cases decide (x = 0) <;> simp)
 | false =>
  simp only [Bool.false_eq_true, if_false, cmpN hx hPw, orderN hx hPw, cmpN hy hPw, orderN hy hPw, Option.bind_some, ge_d, lt_d, cond_and, cond_or]
  by_cases h1 : x < P
  ·by_cases h2 : y < P
   ·have q1 : (0 <= x /\ x < P) := ⟨hx.1, h1⟩
    have q2 : (0 <= y /\ y < P) := ⟨hy.1, h2⟩
    unfold curve_ringOf_s0.run curve_ringOf_s0.top
    simp only [h1, h2, decide_true, Bool.not_true, BEq.rfl, if_true, Option.bind_some, ge_d, lt_d, Bool.or_self, Bool.false_eq_true, if_false, mulN hP false q2 q2, sideN hP hA hB Nw bs false q1, productN hP q2 q2, rightN hP hA hB Nw bs q1, eqN hP (m _) (m _), Bool.and_self, Bool.true_and]
    exact ⟨trivial, trivial⟩
   ·simp only [h1, h2, decide_true, decide_false, Bool.not_true, Bool.not_false, Bool.and_true, Bool.true_and, Bool.and_false, Bool.false_and, Bool.or_true, Bool.true_or, Bool.or_false, Bool.false_or, BEq.rfl, if_true, if_false, Bool.false_eq_true, Option.bind_some, le_d, ge_d, lt_d, gt_d, show (true == false) = false from rfl, show (false == true) = false from rfl, and_self]
  ·simp only [h1, decide_true, decide_false, Bool.not_true, Bool.not_false, Bool.and_true, Bool.true_and, Bool.and_false, Bool.false_and, Bool.or_true, Bool.true_or, Bool.or_false, Bool.false_or, BEq.rfl, if_true, if_false, Bool.false_eq_true, Option.bind_some, le_d, ge_d, lt_d, gt_d, show (true == false) = false from rfl, show (false == true) = false from rfl, and_self]
end
theorem band3 {n : Int} (h : 0 <= n /\ n < 18446744073709551616) : band .u64 n 3 = n % 4 := by
 obtain ⟨X, rfl⟩ := Int.eq_ofNat_of_zero_le h.1
 have hX : X < 18446744073709551616 := by omega
 have := band_nat (X := X) (Y := 3) hX (by decide)
 rw [show ((3 : Nat) : Int) = 3 from rfl] at this
 rw [this, show (3 : Nat) = 2 ^ 2 - 1 from rfl, Nat.and_two_pow_sub_one_eq_mod]
 push_cast; rfl
def goodC (P A B N : Int) : Bool := decide (P > 3) && decide (P % 4 = 3) && decide (A < P) && decide (B < P) && decide (N > 1)
def discZ (P A B : Int) : Bool := decide ((4 * (A * (A * A)) + 27 * (B * B)) % P = 0)
def curveE (P A B N x y : Int) (f : Bool) : Int := if goodC P A B N = true then (if (discZ P A B || f || !onB P A B x y f) = true then 16 else 0) else 16
theorem curve_both {P A B N x y : Int} (f : Bool) (hP : 0 <= P /\ P < M256) (hA : 0 <= A /\ A < M256) (hB : 0 <= B /\ B < M256) (hN : 0 <= N /\ N < M256) (hx : 0 <= x /\ x < M256) (hy : 0 <= y /\ y < M256) :
  curve_Check.run (mk P, mk A, mk B, mk N, (mk x, mk y, f, ()), ()) = some (curveE P A B N x y f) /\ basculeref_CurveFault.run (mk P, mk A, mk B, mk N, (mk x, mk y, f, ()), ()) = some (curveE P A B N x y f) := by
 have e3 : ([3, 0, 0, 0] : List Int) = mk 3 := by decide
 have e2 : ([2, 0, 0, 0] : List Int) = mk 2 := by decide
 have e1 : ([1, 0, 0, 0] : List Int) = mk 1 := by decide
 have w3 : (0 : Int) <= 3 /\ 3 < M256 := by decide
 have w2 : (0 : Int) <= 2 /\ 2 < M256 := by decide
 have w1 : (0 : Int) <= 1 /\ 1 < M256 := by decide
 have g0 : (mk P).getD 0 0 = P % 18446744073709551616 := rfl
 have r0 : 0 <= P % 18446744073709551616 /\ P % 18446744073709551616 < 18446744073709551616 := ⟨Int.emod_nonneg _ (by decide), Int.emod_lt_of_pos _ (by decide)⟩
 have t0 : (Int.tmod ((mk P).getD 0 0) 4 != 3) = !decide (P % 4 = 3) := by
  rw [g0, tmod_pos r0.1, Bool.eq_iff_iff, bne_iff_ne, Bool.not_eq_true', decide_eq_false_iff_not]; omega
 have b0 : (band .u64 ((mk P).getD 0 0) 3 == 3) = decide (P % 4 = 3) := by
  rw [g0, band3 r0, Bool.eq_iff_iff, beq_iff_eq, decide_eq_true_eq]; omega
 unfold curve_Check.run curve_Check.top basculeref_CurveFault.run basculeref_CurveFault.top curveE goodC
 simp only [e3, e2, e1, cmpN hP w3, orderN hP w3, cmpN hA hP, orderN hA hP, cmpN hB hP, orderN hB hP, cmpN hN w1, orderN hN w1, Option.bind_some, t0, b0, cond_and, cond_or, ge_d, lt_d, gt_d, le_d]
 by_cases h1 : P > 3
 ·by_cases h2 : P % 4 = 3
  ·by_cases h3 : A < P
   ·by_cases h4 : B < P
    ·by_cases h5 : N > 1
     ·have hM : 1 < P /\ P < M256 := ⟨by omega, hP.2⟩
      have qA : 0 <= A /\ A < P := ⟨hA.1, h3⟩
      have qB : 0 <= B /\ B < P := ⟨hB.1, h4⟩
      have m := modIn hM
      obtain ⟨o1, o2⟩ := on_both hM qA qB (mk N) (mk x, mk y, f, ()) f hx hy
      have pw3 := powerN hM qA w3
      have pw2 := powerN hM qB w2
      have hd1 : (4 % P * (A * (A * A % P) % P) % P + 27 % P * (B * B % P) % P) % P = (4 * (A * (A * A)) + 27 * (B * B)) % P := by simp only [mulL, mulR, addL, addR]
      have hd2 : (4 % P * (A ^ (3 : Int).toNat % P) % P + 27 % P * (B ^ (2 : Int).toNat % P) % P) % P = (4 * (A * (A * A)) + 27 * (B * B)) % P := by
       simp only [mulL, mulR, addL, addR]
       rw [show A ^ (3 : Int).toNat = A * (A * A) by show A ^ 3 = _; grind, show B ^ (2 : Int).toNat = B * B by show B ^ 2 = _; grind]
      unfold curve_ringOf_s0.run curve_ringOf_s0.top
      simp only [h1, h2, h3, h4, h5, decide_true, Bool.not_true, Bool.or_self, BEq.rfl, if_true, Option.bind_some, ge_d, lt_d, le_d, gt_d, Bool.and_self, Bool.false_eq_true, if_false,
       smallN hM _ (show (0 : Int) <= 4 /\ (4 : Int) < 18446744073709551616 by decide), smallN hM _ (show (0 : Int) <= 27 /\ (27 : Int) < 18446744073709551616 by decide), mulN hM _ qA qA, mulN hM _ qB qB, mulN hM _ qA (m _), mulN hM _ (m _) (m _), addN hM _ (m _) (m _),
       byN hM (show (0 : Int) <= 4 /\ (4 : Int) < 4294967296 by decide), byN hM (show (0 : Int) <= 27 /\ (27 : Int) < 4294967296 by decide), pw3, pw2, productN hM (m _) (m _), totalN hM (m _) (m _), zeroN hM (m _), isZeroN hM (m _), hd1, hd2, o1, o2]
      rw [show decide ((4 * (A * (A * A)) + 27 * (B * B)) % P = 0) = discZ P A B from rfl]
      cases discZ P A B <;> cases f <;> cases onB P A B x y false <;> cases onB P A B x y true <;> exact ⟨rfl, rfl⟩
     ·simp only [h1, h2, h3, h4, h5, decide_true, decide_false, Bool.not_true, Bool.not_false, Bool.and_true, Bool.true_and, Bool.and_false, Bool.false_and, Bool.or_true, Bool.true_or, Bool.or_false, Bool.false_or, BEq.rfl, if_true, if_false, Bool.false_eq_true, Option.bind_some, le_d, ge_d, lt_d, gt_d, show (true == false) = false from rfl, show (false == true) = false from rfl, and_self]
    ·simp only [h1, h2, h3, h4, decide_true, decide_false, Bool.not_true, Bool.not_false, Bool.and_true, Bool.true_and, Bool.and_false, Bool.false_and, Bool.or_true, Bool.true_or, Bool.or_false, Bool.false_or, BEq.rfl, if_true, if_false, Bool.false_eq_true, Option.bind_some, le_d, ge_d, lt_d, gt_d, show (true == false) = false from rfl, show (false == true) = false from rfl, and_self]
   ·simp only [h1, h2, h3, decide_true, decide_false, Bool.not_true, Bool.not_false, Bool.and_true, Bool.true_and, Bool.and_false, Bool.false_and, Bool.or_true, Bool.true_or, Bool.or_false, Bool.false_or, BEq.rfl, if_true, if_false, Bool.false_eq_true, Option.bind_some, le_d, ge_d, lt_d, gt_d, show (true == false) = false from rfl, show (false == true) = false from rfl, and_self]
  ·simp only [h1, h2, decide_true, decide_false, Bool.not_true, Bool.not_false, Bool.and_true, Bool.true_and, Bool.and_false, Bool.false_and, Bool.or_true, Bool.true_or, Bool.or_false, Bool.false_or, BEq.rfl, if_true, if_false, Bool.false_eq_true, Option.bind_some, le_d, ge_d, lt_d, gt_d, show (true == false) = false from rfl, show (false == true) = false from rfl, and_self]
 ·simp only [h1, decide_true, decide_false, Bool.not_true, Bool.not_false, Bool.and_true, Bool.true_and, Bool.and_false, Bool.false_and, Bool.or_true, Bool.true_or, Bool.or_false, Bool.false_or, BEq.rfl, if_true, if_false, Bool.false_eq_true, Option.bind_some, le_d, ge_d, lt_d, gt_d, show (true == false) = false from rfl, show (false == true) = false from rfl, and_self]
theorem curveE_ok {P A B N x y : Int} {f : Bool} (h : curveE P A B N x y f = 0) : 3 < P /\ P % 4 = 3 /\ A < P /\ B < P := by
 unfold curveE at h
 by_cases g : goodC P A B N = true
 ·unfold goodC at g
  simp only [Bool.and_eq_true, decide_eq_true_eq] at g
  exact ⟨g.1.1.1.1, g.1.1.1.2, g.1.1.2, g.1.2⟩
 ·rw [if_neg g] at h; exact absurd h (by decide)
theorem curveE_or (P A B N x y : Int) (f : Bool) : curveE P A B N x y f = 0 \/ curveE P A B N x y f = 16 := by
 unfold curveE
 split
 ·split
  ·exact .inr rfl
  ·exact .inl rfl
 ·exact .inr rfl
end Go.Bx.Rg
