/- A part of a framework that reads Go code as functions of plain data; or a law about such functions. -/
import Derived.Test.YtbkkahkikjifkaaLawSum2
import Derived.Test.YtbkkahkikjifkaaLawLift
import Derived.Test.YtbkkahkikjifkaaLawFormed
import Derived.Test.YtbkkahkikjifkaaLawWid
import Derived.Test.YtbkkahkikjifkaaFnSignRecovers1
namespace Go.Bx
open Go Go.Bx.Rg
set_option linter.unusedSimpArgs false
set_option linter.unusedVariables false
set_option maxRecDepth 100000
theorem odd_cases {o : Int} (h : 0 <= o /\ o <= 3) : (Int.tmod o 2 == 1) = ((band .i64 o 1) == 1) /\ decide (o > 1) = decide (o >= 2) := by
 obtain rfl | rfl | rfl | rfl : o = 0 \/ o = 1 \/ o = 2 \/ o = 3 := by omega
 all_goals decide
section
variable {P A B N x y R S o : Int} {f : Bool} {h : List Int} (b1 : 0 <= P /\ P < M256) (b2 : 0 <= A /\ A < M256) (b3 : 0 <= B /\ B < M256) (b4 : 0 <= N /\ N < M256) (b5 : 0 <= x /\ x < M256) (b6 : 0 <= y /\ y < M256) (h0 : curveE P A B N x y f = 0)
 (kR : 0 < R /\ R < N) (kS : 0 < S /\ S < N) (ko : 0 <= o /\ o <= 3) (hh : h.length = 32) (ho : ∀ b ∈ h, 0 <= b /\ b < 256)
include b1 b2 b3 b4 b5 b6 h0 kR kS ko hh ho
theorem recover_tail {T : Int} (hT : 0 <= T /\ T < M256) (over : Bool) {d : List Int} (hd : basculeref_wide.run d = some (mk T, over, ())) :
  ∃ (s : PtD) (e : Int), sign_Recover.j0 (fun x7 c6 => some (c6, x7, ())) over (mk P, mk A, mk B, mk N, (mk x, mk y, f, ()), ()) h (mk R, mk S, o, ()) zPt (mk T) = some (s, e, ()) /\
   basculeref_Recovered.j0 (fun x7 c6 => some (c6, x7, ())) d (mk P, mk A, mk B, mk N, (mk x, mk y, f, ()), ()) h (mk R, mk S, o, ()) zPt = some (s, e, ()) /\ PtW s := by
 obtain ⟨g1, g2, g3, g4⟩ := curveE_ok h0
 obtain ⟨o1, of, oN⟩ := curveE_on h0
 have hM : 1 < P /\ P < M256 := ⟨by omega, b1.2⟩
 have hN : 1 < N /\ N < M256 := ⟨oN, b4.2⟩
 have mN := modIn hN
 have kR' : 0 <= R /\ R < N := ⟨by omega, kR.2⟩
 have kS' : 0 <= S /\ S < N := ⟨by omega, kS.2⟩
 unfold sign_Recover.j0 basculeref_Recovered.j0
 rw [hd]
 simp only [Option.bind_some]
 cases over with
 | true => exact ⟨_, _, rfl, rfl, zPt_w⟩
 | false =>
  simp only [BEq.rfl, if_true, cond_false]
  rw [cmpN hT b1, orderN hT b1]
  simp only [Option.bind_some]
  cases decide (sg T P >= 0) with
  | true => exact ⟨_, _, rfl, rfl, zPt_w⟩
  | false =>
   simp only [Bool.false_eq_true, if_false]
   obtain ⟨p, e, l1, l2, l3⟩ := lift_full ((band .i64 o 1) == 1) b1 b2 b3 b4 b5 b6 h0 hT
   rw [(odd_cases ko).1, l1, l2]
   simp only [Option.bind_some]
   by_cases he : e = 0
   ·subst he
    obtain ⟨pp, vp⟩ := l3 rfl
    obtain ⟨v, e, ok, w, i1, i2, i3, i4⟩ := invF hN kR'
    simp only [bne_self_eq_false, Bool.false_eq_true, if_false]
    rw [i1, i2]
    simp only [Option.bind_some]
    cases ok with
    | false => rw [i4 rfl]; exact ⟨_, _, rfl, rfl, zPt_w⟩
    | true =>
     obtain ⟨rfl, rfl, hv⟩ := i3 rfl
     simp only [bne_self_eq_false, Bool.false_eq_true, if_false, Bool.not_true]
     obtain ⟨w1, w2, wb⟩ := wid_ok hh ho
     rw [fmulN hN kS' hv, Option.bind_some, productN hN kS' hv, Option.bind_some, w1, Option.bind_some, w2, Option.bind_some, restP hN wb, Option.bind_some, ofR hN wb, fmulN hN (mN _) hv, Option.bind_some, productN hN (mN _) hv, Option.bind_some]
     simp only []
     have hz : field_Sub.run [0, 0, 0, 0] (mk (val B64 (wid h) % N * v % N)) (mk N) = some (mk ((-(val B64 (wid h) % N * v % N)) % N), 0, ()) := by
      have := fsubN hN (a := 0) (b := val B64 (wid h) % N * v % N) ⟨by omega, by omega⟩ (mN _)
      rw [mk_zero, Int.zero_sub] at this
      exact this
     rw [hz, Option.bind_some, oppositeN hN (mN _), Option.bind_some]
     simp only []
     have pb : PtOk P ((mk x, mk y, f, ()) : PtD) := pt_on hM o1 b5 b6
     have vb : OnV P A B ((mk x, mk y, f, ()) : PtD) := by
      unfold OnV; simp only []; rw [mk_val b5, mk_val b6]; exact o1
     obtain ⟨s, t, e, ok, s1, s2, s3, s4⟩ := sum2_full b1 b2 b3 b4 b5 b6 h0 (u := S * v % N) (v := (-(val B64 (wid h) % N * v % N)) % N) pp pb vp vb
     rw [s1, s2]
     simp only [Option.bind_some]
     cases ok with
     | false => rw [s4 rfl]; exact ⟨_, _, rfl, rfl, zPt_w⟩
     | true =>
      obtain ⟨rfl, rfl, hs, _⟩ := s3 rfl
      simp only [bne_self_eq_false, Bool.false_eq_true, if_false, Bool.not_true]
      cases t.2.2.1 with
      | true => exact ⟨_, _, rfl, rfl, zPt_w⟩
      | false => exact ⟨_, _, rfl, rfl, ptOk_w hs⟩
   ·rw [if_pos (by simpa using he), if_pos (by simpa using he)]
    exact ⟨_, _, rfl, rfl, zPt_w⟩
end
theorem recover_both {P A B N x y R S o : Int} {f : Bool} {h : List Int} (b1 : 0 <= P /\ P < M256) (b2 : 0 <= A /\ A < M256) (b3 : 0 <= B /\ B < M256) (b4 : 0 <= N /\ N < M256) (b5 : 0 <= x /\ x < M256) (b6 : 0 <= y /\ y < M256)
  (hR : 0 <= R /\ R < M256) (hS : 0 <= S /\ S < M256) (hh : h.length = 32) (ho : ∀ b ∈ h, 0 <= b /\ b < 256) :
  ∃ (s : PtD) (e : Int), sign_Recover.run (mk P, mk A, mk B, mk N, (mk x, mk y, f, ()), ()) h (mk R, mk S, o, ()) = some (s, e, ()) /\ basculeref_Recovered.run (mk P, mk A, mk B, mk N, (mk x, mk y, f, ()), ()) h (mk R, mk S, o, ()) = some (s, e, ()) /\ PtW s := by
 obtain ⟨e1, e2⟩ := curve_both f b1 b2 b3 b4 b5 b6
 unfold sign_Recover.run sign_Recover.top basculeref_Recovered.run basculeref_Recovered.top
 rw [e1, e2]
 simp only [Option.bind_some]
 rcases curveE_or P A B N x y f with h0 | h0
 ·obtain ⟨o1, of, oN⟩ := curveE_on h0
  have hN : 1 < N /\ N < M256 := ⟨oN, b4.2⟩
  obtain ⟨m1, m2⟩ := formed_both (o := o) (mk P) (mk A) (mk B) (mk x, mk y, f, ()) hN hR hS
  rw [h0, m1, m2]
  simp only [Option.bind_some, bne_self_eq_false, Bool.false_eq_true, if_false]
  cases hf : formB R S N o with
  | false => exact ⟨_, _, rfl, rfl, zPt_w⟩
  | true =>
   simp only [Bool.not_true, Bool.false_eq_true, if_false]
   obtain ⟨kR, kS, ko⟩ := formB_ok hR.1 hS.1 hf
   obtain ⟨d1, r1, r2, r3, r4⟩ := ref_of (mk_w R).1 (mk_w R).2
   obtain ⟨d2, t1, t2, t3, t4⟩ := ref_of (mk_w N).1 (mk_w N).2
   rw [mk_val hR] at r4
   rw [mk_val b4] at t4
   rw [r1, (odd_cases ko).2]
   simp only [Option.bind_some]
   cases decide (o >= 2) with
   | true =>
    simp only [if_true]
    rw [t1, Option.bind_some]
    obtain ⟨d3, u1, u2, u3, u4⟩ := ref_plus r3 t3 (by omega) (by omega)
    rw [u1, Option.bind_some]
    obtain ⟨w, g, v1, v2, v3, v4, v5⟩ := ref_wide u3 (by rw [u2]; omega)
    obtain ⟨w', g', a1, a2, a3, a4, a5⟩ := wide_add (mk_w R).1 (mk_w N).1 (mk_w R).2 (mk_w N).2
    rw [mk_val hR, mk_val b4] at a4 a5
    rw [u4, r4, t4] at v4 v5
    have hg : g = g' := by
     rw [Bool.eq_iff_iff, v5, a5]
    have hT : 0 <= (R + N) % M256 /\ (R + N) % M256 < M256 := ⟨Int.emod_nonneg _ (by decide), Int.emod_lt_of_pos _ (by decide)⟩
    rw [mk_eq ⟨v2, v3⟩ v4] at v1
    rw [a1, Option.bind_some, mk_eq ⟨a2, a3⟩ a4, <- hg]
    exact recover_tail b1 b2 b3 b4 b5 b6 h0 kR kS ko hh ho hT g v1
   | false =>
    simp only [Bool.false_eq_true, if_false]
    obtain ⟨w, g, v1, v2, v3, v4, v5⟩ := ref_wide r3 (by omega)
    rw [r4] at v4 v5
    have hg : g = false := by
     rw [Bool.eq_false_iff]
     intro hc
     have := v5.1 hc
     have h2 := hR.2
     unfold M256 at h2
     omega
    have hv : val B64 w = R := by rw [v4]; exact Int.emod_eq_of_lt hR.1 hR.2
    rw [mk_eq ⟨v2, v3⟩ hv, hg] at v1
    exact recover_tail b1 b2 b3 b4 b5 b6 h0 kR kS ko hh ho hR false v1
 ·rw [h0]; exact ⟨_, _, rfl, rfl, zPt_w⟩
end Go.Bx
