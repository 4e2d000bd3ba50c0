/- A part of a framework that reads Go code as functions of plain data; or a law about such functions. -/
import Derived.Test.YtbkkahkikjifkaaLawMult
import Derived.Test.YtbkkahkikjifkaaLawRingPow
import Derived.Test.YtbkkahkikjifkaaLawCurve
import Derived.Test.YtbkkahkikjifkaaLawCurveNum
import Derived.Test.YtbkkahkikjifkaaLawAt
import Derived.Test.YtbkkahkikjifkaaLawQuotient
import Derived.Test.YtbkkahkikjifkaaLawWideSums0
import Derived.Test.YtbkkahkikjifkaaLawFieldPow
import Derived.Test.YtbkkahkikjifkaaFnSignRecovers1
namespace Go.Bx
open Go Go.Bx.Rg
set_option linter.unusedSimpArgs false
set_option linter.unusedVariables false
theorem powN {M a x : Int} (hM : 1 < M /\ M < M256) (ha : 0 <= a /\ a < M) (hx : 0 <= x /\ x < M256) : field_Pow.run (mk a) (mk x) (mk M) = some (mk (a ^ x.toNat % M), 0, ()) := by
 have hw : ∀ y ∈ [mk a], W4 y := fun y hy => by
  simp only [List.mem_cons, List.not_mem_nil, or_false] at hy
  subst hy; exact mk_w _
 have he : faultE (mk M) [mk a] = 0 := by
  rw [show [mk a] = [a].map mk from rfl, faultN hM (fun x hx => by simp only [List.mem_cons, List.not_mem_nil, or_false] at hx; subst hx; exact ha)]
 have hne : mk M ≠ [0, 0, 0, 0] := (mk_w M).ne.2 (by rw [Rg.valM hM]; omega)
 unfold field_Pow.run field_Pow.top
 rw [fault_run (mk_w M) (by simp) hw, Option.bind_some, he, if_neg (by decide)]
 obtain ⟨q, r, d1, _, _, d4, d5, _, d7⟩ := wide_divmod one4.1.1 one4.1.2 (mk_w M).1 (mk_w M).2
 rw [if_neg hne, one4.2] at d7
 obtain ⟨r1, e1, w1, v1⟩ := pow_bits (mk_w a) (mk_w x) (mk_w M) (by rw [inM hM ha, Rg.valM hM]; exact ha.2) ⟨d4, d5⟩ d7
 rw [inM hM ha, mk_val hx, Rg.valM hM] at v1
 rw [d1, Option.bind_some, e1, Option.bind_some, mk_eq w1 v1]
theorem par_prog {y : Int} (h : 0 <= y /\ y < M256) : (Int.tmod ((mk y).getD 0 0) 2 == 1) = decide (y % 2 = 1) := by
 have g0 : (mk y).getD 0 0 = y % 18446744073709551616 := rfl
 rw [g0, tmod_pos (Int.emod_nonneg _ (by decide)), Bool.eq_iff_iff, beq_iff_eq, decide_eq_true_eq]; omega
theorem band1 {n : Int} (h : 0 <= n /\ n < 18446744073709551616) : band .u64 n 1 = n % 2 := by
 obtain ⟨X, rfl⟩ := Int.eq_ofNat_of_zero_le h.1
 have hX : X < 18446744073709551616 := by omega
 have := band_nat (X := X) (Y := 1) hX (by decide)
 rw [show ((1 : Nat) : Int) = 1 from rfl] at this
 rw [this, Nat.and_one_is_mod]
 push_cast; rfl
theorem par_ref {y : Int} (h : 0 <= y /\ y < M256) : (band .u64 ((mk y).getD 0 0) 1 == 1) = decide (y % 2 = 1) := by
 have g0 : (mk y).getD 0 0 = y % 18446744073709551616 := rfl
 rw [g0, band1 ⟨Int.emod_nonneg _ (by decide), Int.emod_lt_of_pos _ (by decide)⟩, Bool.eq_iff_iff, beq_iff_eq, decide_eq_true_eq]; omega
theorem beqB (a b : Bool) : beqD .bool a b = (a == b) := by cases a <;> cases b <;> rfl
theorem half_ref {P : Int} (hM : 3 < P /\ P < M256) (h4 : P % 4 = 3) {α : Type} (K : List Int -> Option α) :
  ((basculeref_of.run (mk P)).bind fun y3 => (basculeref_plus.run y3 [1]).bind fun y4 => (basculeref_wide.run y4).bind fun y5 => (basculeref_Order.run y5.1 (mk P)).bind fun y6 => (basculeref_Quotient.run y5.1 [4, 0, 0, 0]).bind fun y7 =>
   if (decide (y6 < 0)) = true then K [0, 0, 0, 4611686018427387904] else K y7.1) = K (mk (P / 4 + 1)) := by
 have hP : 0 <= P /\ P < M256 := ⟨by omega, hM.2⟩
 obtain ⟨o, e1, e2, e3, e4⟩ := ref_of (mk_w P).1 (mk_w P).2
 rw [mk_val hP] at e4
 obtain ⟨r, p1, p2, p3, p4⟩ := ref_plus (b := [1]) e3 (digs_cons.2 ⟨by decide, digs_nil⟩) (by omega) (by simp)
 rw [e4, show val B32 [1] = 1 by simp [val]] at p4
 obtain ⟨w, f, w1, w2, w3, w4, _⟩ := ref_wide p3 (by rw [p2, e2]; simp)
 rw [p4] at w4
 have e4m : ([4, 0, 0, 0] : List Int) = mk 4 := by decide
 obtain ⟨q, r2, _, q2, q3, q4, _, _, q7, _⟩ := quotient_both w2 w3 (mk_w 4).1 (mk_w 4).2
 rw [if_neg (by decide), mk_val (by decide), w4] at q7
 rw [e1, Option.bind_some, p1, Option.bind_some, w1, Option.bind_some]
 simp only []
 rw [order_run ⟨w2, w3⟩ (mk_w P), Option.bind_some, mk_val hP, w4, e4m, q2, Option.bind_some]
 have hlim := hM.2
 unfold M256 at hlim
 by_cases hb : P + 1 = 115792089237316195423570985008687907853269984665640564039457584007913129639936
 ·rw [hb, show (115792089237316195423570985008687907853269984665640564039457584007913129639936 : Int) % 115792089237316195423570985008687907853269984665640564039457584007913129639936 = 0 from by decide]
  rw [if_pos (show (0 : Int) < P by omega), if_pos (by decide)]
  have hq : P / 4 + 1 = 28948022309329048855892746252171976963317496166410141009864396001978282409984 := by omega
  rw [hq]
  congr 1
 ·have hlt : (P + 1) % 115792089237316195423570985008687907853269984665640564039457584007913129639936 = P + 1 := Int.emod_eq_of_lt (by omega) (by omega)
  rw [hlt] at q7 ⊢
  rw [if_neg (show ¬ P + 1 < P by omega), if_pos (show P + 1 > P by omega), if_neg (by decide)]
  have : (P + 1) / 4 = P / 4 + 1 := by omega
  rw [this] at q7
  rw [mk_eq (⟨q3, q4⟩ : W4 q) q7]
theorem half_prog {P : Int} (hM : 3 < P /\ P < M256) : (∃ r e, wide_DivMod.run (mk P) [4, 0, 0, 0] = some (mk (P / 4), r, e, ())) /\ (∃ o, wide_Add.run (mk (P / 4)) [1, 0, 0, 0] = some (mk (P / 4 + 1), o, ())) := by
 have hP : 0 <= P /\ P < M256 := ⟨by omega, hM.2⟩
 have hlim := hM.2
 have hQ : 0 <= P / 4 /\ P / 4 < M256 := ⟨by omega, by unfold M256 at *; omega⟩
 have e4m : ([4, 0, 0, 0] : List Int) = mk 4 := by decide
 have e1m : ([1, 0, 0, 0] : List Int) = mk 1 := by decide
 obtain ⟨q, r, d1, d2, d3, _, _, d6, _⟩ := wide_divmod (mk_w P).1 (mk_w P).2 (mk_w 4).1 (mk_w 4).2
 rw [if_neg (by decide), mk_val hP, mk_val (show (0 : Int) <= 4 /\ 4 < M256 by decide)] at d6
 obtain ⟨s, o, a1, a2, a3, a4, _⟩ := wide_add (mk_w (P / 4)).1 (mk_w 1).1 (mk_w (P / 4)).2 (mk_w 1).2
 rw [mk_val hQ, mk_val (show (0 : Int) <= 1 /\ 1 < M256 by decide), Int.emod_eq_of_lt (by omega) (by unfold M256 at *; omega)] at a4
 refine ⟨⟨r, (if mk 4 = [0, 0, 0, 0] then 7 else 0), ?_⟩, ⟨o, ?_⟩⟩
 ·rw [e4m, d1, mk_eq (⟨d2, d3⟩ : W4 q) d6]
 ·rw [e1m, a1, mk_eq (⟨a2, a3⟩ : W4 s) a4]
section
variable {P A B : Int} (hM : 1 < P /\ P < M256) (h4 : P % 4 = 3) (hA : 0 <= A /\ A < P) (hB : 0 <= B /\ B < P) (Nw : List Int) (bs : PtD)
def negY (P y : Int) : Int := if y = 0 then 0 else P - y
theorem negY_in {P y : Int} (hP : 1 < P) (h : 0 <= y /\ y < P) : 0 <= negY P y /\ negY P y < P := by
 unfold negY; split <;> omega
theorem negY_opp {P y : Int} (hP : 1 < P) (h : 0 <= y /\ y < P) : (-y) % P = negY P y := by
 unfold negY
 by_cases h0 : y = 0
 ·rw [if_pos h0, h0]; rfl
 ·rw [if_neg h0, <- Int.add_emod_left, Int.emod_eq_of_lt (by omega) (by omega)]; omega
theorem negY_par {P y : Int} (h4 : P % 4 = 3) (h : 0 <= y /\ y < P) (h0 : y ≠ 0) : negY P y % 2 = 1 - y % 2 := by
 unfold negY; rw [if_neg h0]; omega
def liftS (P A B x y : Int) (odd : Bool) : PtD × Int × Unit :=
 let z := if decide (y % 2 = 1) = odd then y else negY P y
 if decide (z % 2 = 1) = odd /\ onB P A B x z false = true then ((mk x, mk z, false, ()), 0, ()) else (zPt0, 16, ())
where zPt0 : PtD := ([0, 0, 0, 0], [0, 0, 0, 0], false, ())
include hM h4 hA hB
theorem lift_ref {x y : Int} (odd : Bool) (hx : 0 <= x /\ x < P) (hy : 0 <= y /\ y < P) (z : PtD) (hz : z = ([0, 0, 0, 0], [0, 0, 0, 0], false, ())) : ∀ N, 3 < N -> ∀ K : Nat,
  basculeref_Lifted.l0 K (fun x7 c6 => some (c6, x7, ())) (fun c6 => basculeref_Lifted.j1 (fun x7 c6 => some (c6, x7, ())) c6) N odd 0 (mk P, mk A, mk B, Nw, bs, ()) (mk x) z (mk y) = some (liftS P A B x y odd) := by
 intro N hN K
 obtain ⟨n, rfl⟩ : ∃ n, N = n + 3 := ⟨N - 3, by omega⟩
 have hW : ∀ {a : Int}, (0 <= a /\ a < P) -> (0 <= a /\ a < M256) := fun h => ⟨h.1, by omega⟩
 have on0 := fun y (hy : 0 <= y /\ y < P) => (on_both hM hA hB Nw bs false (hW hx) (hW hy)).2
 simp only [basculeref_Lifted.l0, basculeref_Lifted.l0s]
 have w1 : IntKind.i64.wrap (0 + 1) = 1 := rfl
 have w2 : IntKind.i64.wrap (1 + 1) = 2 := rfl
 have hn := negY_in hM.1 hy
 rw [w1, w2, show decide ((0 : Int) < 2) = true from rfl, show decide ((1 : Int) < 2) = true from rfl, show decide ((2 : Int) < 2) = false from rfl, par_ref (hW hy), beqB, on0 y hy, oppositeN hM hy, negY_opp hM.1 hy]
 simp only [if_true, Bool.false_eq_true, if_false, Option.bind_some, par_ref (hW hn), beqB, on0 _ hn, oppositeN hM hn]
 unfold basculeref_Lifted.j1 liftS liftS.zPt0
 simp only []
 by_cases ho : decide (y % 2 = 1) = odd
 ·have hb : (decide (y % 2 = 1) == odd) = true := by simpa using ho
  rw [hb]
  simp only [BEq.rfl, if_true, Option.bind_some, cond_true, ho, true_and]
  cases hon : onB P A B x y false with
  | true => rfl
  | false =>
   simp only [Bool.false_eq_true, if_false]
   by_cases h0 : y = 0
   ·have hne : negY P y = y := by unfold negY; rw [if_pos h0]; exact h0.symm
    rw [hne, hb]
    simp only [BEq.rfl, if_true, Option.bind_some, cond_true, hon, Bool.false_eq_true, if_false]
    try (subst hz; rfl)
   ·have hp := negY_par h4 hy h0
    have hb2 : (decide (negY P y % 2 = 1) == odd) = false := by
     rw [<- ho, hp, beq_eq_false_iff_ne, ne_eq, decide_eq_decide]; omega
    rw [hb2]
    simp only [show (false == true) = false from rfl, Bool.false_eq_true, if_false, Option.bind_some, cond_false]
    try (subst hz; rfl)
 ·have hb : (decide (y % 2 = 1) == odd) = false := by simpa using ho
  rw [hb]
  simp only [show (false == true) = false from rfl, Bool.false_eq_true, if_false, Option.bind_some, cond_false, ho]
  by_cases hz2 : decide (negY P y % 2 = 1) = odd
  ·have hb2 : (decide (negY P y % 2 = 1) == odd) = true := by simpa using hz2
   rw [hb2]
   simp only [BEq.rfl, if_true, Option.bind_some, cond_true, hz2, true_and]
   cases onB P A B x (negY P y) false with
   | true => rfl
   | false => subst hz; rfl
  ·have hb2 : (decide (negY P y % 2 = 1) == odd) = false := by simpa using hz2
   rw [hb2]
   simp only [show (false == true) = false from rfl, Bool.false_eq_true, if_false, Option.bind_some, cond_false, hz2, false_and]
   try (subst hz; rfl)
theorem lift_prog {x y : Int} (odd : Bool) (hx : 0 <= x /\ x < P) (hy : 0 <= y /\ y < P) :
  (if (not (beqD .bool ((Int.tmod (List.getD (mk y) 0 0) 2) == 1) odd)) = true then
    if (not (beqD (.arr 4 (.int .u64)) (mk y) [0, 0, 0, 0])) = true then
     (wide_Sub.run (mk P) (mk y)).bind fun y9 =>
     curve_Lift.j0 (fun x7 c6 => some (c6, x7, ())) odd (mk P, mk A, mk B, Nw, bs, ()) (mk x) ([0, 0, 0, 0], [0, 0, 0, 0], false, ()) y9.1
    else
     curve_Lift.j0 (fun x7 c6 => some (c6, x7, ())) odd (mk P, mk A, mk B, Nw, bs, ()) (mk x) ([0, 0, 0, 0], [0, 0, 0, 0], false, ()) (mk y)
   else
    curve_Lift.j0 (fun x7 c6 => some (c6, x7, ())) odd (mk P, mk A, mk B, Nw, bs, ()) (mk x) ([0, 0, 0, 0], [0, 0, 0, 0], false, ()) (mk y)) = some (liftS P A B x y odd) := by
 have hW : ∀ {a : Int}, (0 <= a /\ a < P) -> (0 <= a /\ a < M256) := fun h => ⟨h.1, by omega⟩
 have on0 := fun y (hy : 0 <= y /\ y < P) => (on_both hM hA hB Nw bs false (hW hx) (hW hy)).1
 have hj : ∀ z, 0 <= z /\ z < P -> curve_Lift.j0 (fun x7 c6 => some (c6, x7, ())) odd (mk P, mk A, mk B, Nw, bs, ()) (mk x) ([0, 0, 0, 0], [0, 0, 0, 0], false, ()) (mk z) =
   some (if decide (z % 2 = 1) = odd /\ onB P A B x z false = true then ((mk x, mk z, false, ()), 0, ()) else (([0, 0, 0, 0], [0, 0, 0, 0], false, ()), 16, ())) := fun z hz => by
  unfold curve_Lift.j0
  rw [par_prog (hW hz), beqB, on0 z hz]
  by_cases ho : decide (z % 2 = 1) = odd
  ·have hb : (decide (z % 2 = 1) == odd) = true := by simpa using ho
   rw [hb]
   simp only [Bool.not_true, BEq.rfl, if_true, Option.bind_some, cond_false, ho, true_and]
   cases onB P A B x z false <;> rfl
  ·have hb : (decide (z % 2 = 1) == odd) = false := by simpa using ho
   rw [hb]
   simp only [Bool.not_false, show (true == false) = false from rfl, Bool.false_eq_true, if_false, Option.bind_some, cond_true, if_true, ho, false_and]
 have hn := negY_in hM.1 hy
 rw [par_prog (hW hy), beqB, zeroN hM hy, hj y hy]
 unfold liftS liftS.zPt0
 by_cases ho : decide (y % 2 = 1) = odd
 ·have hb : (decide (y % 2 = 1) == odd) = true := by simpa using ho
  rw [hb]
  simp only [Bool.not_true, Bool.false_eq_true, if_false, ho, if_true]
 ·have hb : (decide (y % 2 = 1) == odd) = false := by simpa using ho
  rw [hb]
  simp only [Bool.not_false, if_true, ho, if_false]
  by_cases h0 : y = 0
  ·have hne : negY P y = y := by unfold negY; rw [if_pos h0]; exact h0.symm
   rw [hne]
   rw [show decide (y = 0) = true from decide_eq_true h0]
   simp only [Bool.not_true, Bool.false_eq_true, if_false, ho, false_and]
  ·simp only [h0, decide_false, Bool.not_false, if_true]
   obtain ⟨r, o, s1, s2, s3, s4, _⟩ := wide_sub (mk_w P).1 (mk_w y).1 (mk_w P).2 (mk_w y).2
   rw [Rg.valM hM, inM hM hy, Int.emod_eq_of_lt (by omega) (by omega)] at s4
   rw [s1, Option.bind_some, mk_eq (⟨s2, s3⟩ : W4 r) s4]
   have : P - y = negY P y := by unfold negY; rw [if_neg h0]
   simp only [this]
   exact hj _ hn
end
theorem lift_ok {P A B X Y : Int} (hM : 1 < P /\ P < M256) (odd : Bool) (hX : 0 <= X /\ X < P) (hY : 0 <= Y /\ Y < P) (h : (liftS P A B X Y odd).2.1 = 0) : PtOk P (liftS P A B X Y odd).1 /\ OnV P A B (liftS P A B X Y odd).1 := by
 have hz : 0 <= (if decide (Y % 2 = 1) = odd then Y else negY P Y) /\ (if decide (Y % 2 = 1) = odd then Y else negY P Y) < P := by
  split
  ·exact hY
  ·exact negY_in hM.1 hY
 unfold liftS at h ⊢
 generalize (if decide (Y % 2 = 1) = odd then Y else negY P Y) = Z at *
 simp only [] at h ⊢
 by_cases hc : decide (Z % 2 = 1) = odd /\ onB P A B X Z false = true
 ·rw [if_pos hc]
  refine ⟨⟨X, Z, false, rfl, hX, hz⟩, ?_⟩
  unfold OnV
  simp only []
  rw [mk_val (n := X) ⟨hX.1, by omega⟩, mk_val (n := Z) ⟨hz.1, by omega⟩]
  exact hc.2
 ·rw [if_neg hc] at h; exact absurd h (by decide)
theorem lift_full {P A B N x y X : Int} {f : Bool} (odd : Bool) (b1 : 0 <= P /\ P < M256) (b2 : 0 <= A /\ A < M256) (b3 : 0 <= B /\ B < M256) (b4 : 0 <= N /\ N < M256) (b5 : 0 <= x /\ x < M256) (b6 : 0 <= y /\ y < M256) (h0 : curveE P A B N x y f = 0) (bX : 0 <= X /\ X < M256) :
  ∃ (s : PtD) (e : Int), curve_Lift.run (mk P, mk A, mk B, mk N, (mk x, mk y, f, ()), ()) (mk X) odd = some (s, e, ()) /\ basculeref_Lifted.run (mk P, mk A, mk B, mk N, (mk x, mk y, f, ()), ()) (mk X) odd = some (s, e, ()) /\ (e = 0 -> PtOk P s /\ OnV P A B s) := by
 obtain ⟨e1, e2⟩ := curve_both f b1 b2 b3 b4 b5 b6
 unfold curve_Lift.run curve_Lift.top basculeref_Lifted.run basculeref_Lifted.top
 rw [e1, e2]
 simp only [Option.bind_some, cmpN bX b1, orderN bX b1, ge_d]
 obtain ⟨g1, g2, g3, g4⟩ := curveE_ok h0
 have hM : 1 < P /\ P < M256 := ⟨by omega, b1.2⟩
 have m := modIn hM
 rw [h0]
 simp only [show ((0 : Int) != 0) = false from rfl, Bool.false_eq_true, if_false]
 by_cases hlt : X < P
 ·have hX : 0 <= X /\ X < P := ⟨bX.1, hlt⟩
  simp only [hlt, decide_true, Bool.not_true, Bool.false_eq_true, if_false]
  rw [half_ref ⟨g1, b1.2⟩ g2]
  unfold curve_ringOf_s0.run curve_ringOf_s0.top
  rw [Option.bind_some]
  obtain ⟨⟨hr, he, hd1⟩, ⟨ho1, hd2⟩⟩ := half_prog ⟨g1, b1.2⟩
  rw [hd1, Option.bind_some]
  simp only []
  rw [hd2, Option.bind_some]
  simp only []
  have hq : 0 <= P / 4 + 1 /\ P / 4 + 1 < M256 := ⟨by omega, by omega⟩
  have hA' : 0 <= A /\ A < P := ⟨b2.1, g3⟩
  have hB' : 0 <= B /\ B < P := ⟨b3.1, g4⟩
  rw [sideN hM hA' hB' _ _ _ hX, Option.bind_some]
  simp only []
  rw [powN hM (m _) hq, Option.bind_some]
  simp only []
  unfold curve_ring__take_s1.run curve_ring__take_s1.top curve_ring__take_s1.j0
  rw [if_neg (by decide), Option.bind_some]
  simp only []
  rw [lift_prog hM g2 hA' hB' _ _ odd hX (m _)]
  unfold basculeref_Lifted.j0
  rw [rightN hM hA' hB' _ _ hX, Option.bind_some]
  simp only []
  rw [powerN hM (m _) hq, Option.bind_some, lift_ref hM g2 hA' hB' _ _ odd hX (m _) _ rfl fuel (by rw [fuel_big]; omega) fuel]
  exact ⟨(liftS P A B X _ odd).1, (liftS P A B X _ odd).2.1, rfl, rfl, lift_ok hM odd hX (m _)⟩
 ·simp only [hlt, decide_false, Bool.not_false, if_true]
  exact ⟨_, _, rfl, rfl, fun h => absurd h (by decide)⟩
end Go.Bx
