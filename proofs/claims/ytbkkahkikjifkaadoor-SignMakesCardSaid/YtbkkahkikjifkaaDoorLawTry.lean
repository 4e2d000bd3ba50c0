/- A part of a framework that reads Go code as functions of plain data; or a law about such functions. -/
import Derived.Test.YtbkkahkikjifkaaDoorLawSignNum
import Derived.Test.YtbkkahkikjifkaaDoorLawMult
import Derived.Test.YtbkkahkikjifkaaDoorLawSecret
import Derived.Test.YtbkkahkikjifkaaDoorFnSignMakes1
namespace Go.Bx
open Go Go.Bx.Rg
set_option linter.unusedSimpArgs false
set_option linter.unusedVariables false
abbrev SgD : Type := List Int × List Int × Int × Unit
abbrev zSg : SgD := ([0, 0, 0, 0], [0, 0, 0, 0], 0, ())
theorem bandOne {n : Int} (h : 0 <= n /\ n < 18446744073709551616) : band .u64 n 1 = n % 2 := by
 obtain ⟨X, rfl⟩ := Int.eq_ofNat_of_zero_le h.1
 have := band_nat (X := X) (Y := 1) (by omega) (by decide)
 rw [show ((1 : Nat) : Int) = 1 from rfl] at this
 rw [this, Nat.and_one_is_mod]; omega
theorem low0 (y : Int) : (mk y).getD 0 0 = y % 18446744073709551616 := rfl
theorem odd_prog (y : Int) : IntKind.i64.wrap (Int.tmod ((mk y).getD 0 0) 2) = y % 2 := by
 rw [low0, Int.tmod_eq_emod_of_nonneg (by omega), wrap_i64 (by omega) (by omega)]; omega
theorem odd_ref (y : Int) : IntKind.i64.wrap (band .u64 ((mk y).getD 0 0) 1) = y % 2 := by
 rw [low0, bandOne (by omega), wrap_i64 (by omega) (by omega)]; omega
theorem bx1 (a : Int) (h : a = 0 \/ a = 1) : bxor .i64 a 1 = 1 - a /\ bxor .i64 (IntKind.i64.wrap (a + 2)) 1 = 1 - a + 2 := by
 rcases h with rfl | rfl <;> decide
theorem try_both {P A B N x y z κ D : Int} {f : Bool} (b1 : 0 <= P /\ P < M256) (b2 : 0 <= A /\ A < M256) (b3 : 0 <= B /\ B < M256) (b4 : 0 <= N /\ N < M256) (b5 : 0 <= x /\ x < M256) (b6 : 0 <= y /\ y < M256)
  (h0 : curveE P A B N x y f = 0) (hz : 0 <= z /\ z < N) (hk : 0 <= κ /\ κ < N) (hD : 0 <= D /\ D < N) {α : Type} (Nx : Int -> CvD -> List Int -> List Int -> SgD -> List Int -> Option α) (Rt : Int -> SgD -> Option α) (i : Int) (h : List Int) (zs : SgD) :
  (∃ s, sign_try.run (mk P, mk A, mk B, mk N, (mk x, mk y, f, ()), ()) (mk D) (mk z) (mk κ) = some (s, false, 0, ()) /\ basculeref_Signed.j0 Nx Rt i (mk P, mk A, mk B, mk N, (mk x, mk y, f, ()), ()) (mk D) h zs (mk z) (mk κ) = basculeref_Signed.j1 Nx i (mk P, mk A, mk B, mk N, (mk x, mk y, f, ()), ()) (mk D) h zs (mk z)) \/
  (∃ s b, sign_try.run (mk P, mk A, mk B, mk N, (mk x, mk y, f, ()), ()) (mk D) (mk z) (mk κ) = some (s, b, 16, ()) /\ basculeref_Signed.j0 Nx Rt i (mk P, mk A, mk B, mk N, (mk x, mk y, f, ()), ()) (mk D) h zs (mk z) (mk κ) = Rt 16 zSg) \/
  (∃ s, sign_try.run (mk P, mk A, mk B, mk N, (mk x, mk y, f, ()), ()) (mk D) (mk z) (mk κ) = some (s, true, 0, ()) /\ basculeref_Signed.j0 Nx Rt i (mk P, mk A, mk B, mk N, (mk x, mk y, f, ()), ()) (mk D) h zs (mk z) (mk κ) = Rt 0 s) := by
 obtain ⟨o1, of, oN⟩ := curveE_on h0
 have hN : 1 < N /\ N < M256 := ⟨oN, b4.2⟩
 have mN := modIn hN
 obtain ⟨s, t, e, ok, m1, m2, m3, m4⟩ := mult_full b1 b2 b3 b4 b5 b6 h0 (mk_w κ) b5 b6 o1
 unfold sign_try.run sign_try.top basculeref_Signed.j0
 rw [zeroW ⟨hk.1, by omega⟩, isZ hN ⟨hk.1, by omega⟩]
 simp only [Option.bind_some]
 by_cases hk0 : κ = 0
 ·rw [if_pos (by simpa using hk0), if_pos (by simpa using hk0)]
  exact .inl ⟨_, rfl, rfl⟩
 rw [if_neg (by simpa using hk0), if_neg (by simpa using hk0), m1, m2]
 simp only [Option.bind_some]
 cases ok with
 | false =>
  rw [(m4 rfl).1]
  exact .inr (.inl ⟨_, _, rfl, rfl⟩)
 | true =>
  obtain ⟨rfl, rfl, ⟨X, Y, F, rfl, hX, hY⟩, _⟩ := m3 rfl
  have hX' : 0 <= X /\ X < M256 := ⟨hX.1, by omega⟩
  simp only [bne_self_eq_false, Bool.false_eq_true, if_false, Bool.not_true]
  rw [restP hN hX', Option.bind_some, ofR hN hX', zeroW ⟨(mN X).1, by have := (mN X).2; omega⟩]
  rw [isZ hN ⟨(mN X).1, by have := (mN X).2; omega⟩]
  cases F with
  | true => exact .inl ⟨_, rfl, rfl⟩
  | false =>
   simp only [BEq.rfl, if_true, Option.bind_some, cond_false]
   by_cases hR : X % N = 0
   ·rw [if_pos (by simpa using hR), if_pos (by simpa using hR)]
    exact .inl ⟨_, rfl, rfl⟩
   rw [if_neg (by simpa using hR), if_neg (by simpa using hR), cmpN hX' b4, Option.bind_some, odd_prog]
   rw [ofR hN ⟨hk.1, by omega⟩, Int.emod_eq_of_lt hk.1 hk.2]
   obtain ⟨v, e, ok, w, i1, i2, i3, i4⟩ := invF hN hk
   unfold sign_try.j0
   simp only []
   rw [i1, i2]
   simp only [Option.bind_some]
   cases ok with
   | false =>
    rw [i4 rfl]
    refine .inr (.inl ?_)
    cases decide (sg X N >= 0)
    ·exact ⟨_, _, rfl, rfl⟩
    ·exact ⟨_, _, rfl, rfl⟩
   | true =>
    obtain ⟨rfl, rfl, hv⟩ := i3 rfl
    simp only [bne_self_eq_false, Bool.false_eq_true, if_false, Bool.not_true]
    rw [fmulN hN (mN X) hD, productN hN (mN X) hD]
    simp only [Option.bind_some]
    rw [faddN hN hz (mN _), totalN hN hz (mN _)]
    simp only [Option.bind_some]
    rw [fmulN hN hv (mN _), productN hN hv (mN _)]
    simp only [Option.bind_some]
    have hS := mN (v * ((z + X % N * D % N) % N))
    generalize v * ((z + X % N * D % N) % N) % N = S at hS ⊢
    have hS' : 0 <= S /\ S < M256 := ⟨hS.1, by omega⟩
    rw [zeroW hS', isZ hN hS', Option.bind_some]
    by_cases hS0 : S = 0
    ·refine .inl ?_
     rw [if_pos (show decide (S = 0) = true by simpa using hS0), if_pos (show decide (S = 0) = true by simpa using hS0), if_pos (show decide (S = 0) = true by simpa using hS0)]
     cases decide (sg X N >= 0)
     ·exact ⟨_, rfl, rfl⟩
     ·exact ⟨_, rfl, rfl⟩
    rw [if_neg (show ¬ decide (S = 0) = true by simpa using hS0), if_neg (show ¬ decide (S = 0) = true by simpa using hS0), if_neg (show ¬ decide (S = 0) = true by simpa using hS0)]
    rw [lowP hN hS, oppositeN hN hS]
    simp only [Option.bind_some]
    have hneg : (-S) % N = N - S := by rw [emod_neg (by omega) (by omega), if_pos (by omega)]; omega
    obtain ⟨ob, hsub⟩ := subP hN hS
    rw [hneg, orderN ⟨by omega, by omega⟩ hS', Option.bind_some, lt_d, hsub, odd_ref]
    simp only [Option.bind_some]
    refine .inr (.inr ?_)
    unfold sign_try.j1 basculeref_Signed.j2 basculeref_Signed.j3
    simp only []
    rw [orderN hX' b4]
    simp only [Option.bind_some]
    have hp2 : Y % 2 = 0 \/ Y % 2 = 1 := by omega
    obtain ⟨x1, x2⟩ := bx1 _ hp2
    by_cases hl : 2 * S <= N
    ·have hc : decide (N - S < S) = false := by rw [decide_eq_false_iff_not]; omega
     rw [show decide (2 * S <= N) = true by simpa using hl, hc]
     cases decide (sg X N >= 0)
     ·exact ⟨_, rfl, rfl⟩
     ·exact ⟨_, rfl, rfl⟩
    ·have hc : decide (N - S < S) = true := by rw [decide_eq_true_eq]; omega
     rw [show decide (2 * S <= N) = false by simpa using hl, hc]
     cases decide (sg X N >= 0)
     ·simp only [Bool.false_eq_true, if_false, Bool.not_false, if_true]
      rw [x1, wrap_i64 (x := 1 - Y % 2) (by omega) (by omega)]
      exact ⟨_, rfl, rfl⟩
     ·simp only [Bool.false_eq_true, if_false, Bool.not_false, if_true]
      rw [x2, wrap_i64 (x := 1 - Y % 2) (by omega) (by omega), wrap_i64 (x := 1 - Y % 2 + 2) (by omega) (by omega)]
      exact ⟨_, rfl, rfl⟩
end Go.Bx
