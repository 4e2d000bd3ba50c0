/- Laws about functions of plain data, in plain Lean. -/
import Derived.Test.YtbkkahkikjifkaaGreatDoorLawsQuorumChecks2
import Derived.Test.YtbkkahkikjifkaaGreatDoorFnQuorumChecks1
import Derived.Test.YtbkkahkikjifkaaGreatDoorLawsQuorumChecks0
import Derived.Test.YtbkkahkikjifkaaGreatDoorFnQuorumChecks2
namespace Go.Bx
open Go Go.Bx.Rg
set_option linter.unusedSimpArgs false
set_option linter.unusedVariables false
set_option maxRecDepth 100000
theorem odd_cases {o : Int} (h : 0 <= o /\ o <= 3) : (Int.tmod o 2 == 1) = ((band .i64 o 1) == 1) /\ decide (o > 1) = decide (o >= 2) := by
 obtain rfl | rfl | rfl | rfl : o = 0 \/ o = 1 \/ o = 2 \/ o = 3 := by omega
 all_goals decide
section
variable {P A B N x y R S o : Int} {f : Bool} {h : List Int} (b1 : 0 <= P /\ P < M256) (b2 : 0 <= A /\ A < M256) (b3 : 0 <= B /\ B < M256) (b4 : 0 <= N /\ N < M256) (b5 : 0 <= x /\ x < M256) (b6 : 0 <= y /\ y < M256) (h0 : curveE P A B N x y f = 0)
 (kR : 0 < R /\ R < N) (kS : 0 < S /\ S < N) (ko : 0 <= o /\ o <= 3) (hh : h.length = 32) (ho : ∀ b ∈ h, 0 <= b /\ b < 256)
include b1 b2 b3 b4 b5 b6 h0 kR kS ko hh ho
theorem recover_tail {T : Int} (hT : 0 <= T /\ T < M256) (over : Bool) {d : List Int} (hd : basculeref_wide.run d = some (mk T, over, ())) :
  ∃ (s : PtD) (e : Int), sign_Recover.j0 (fun x7 c6 => some (c6, x7, ())) over (mk P, mk A, mk B, mk N, (mk x, mk y, f, ()), ()) h (mk R, mk S, o, ()) zPt (mk T) = some (s, e, ()) /\
   basculeref_Recovered.j0 (fun x7 c6 => some (c6, x7, ())) d (mk P, mk A, mk B, mk N, (mk x, mk y, f, ()), ()) h (mk R, mk S, o, ()) zPt = some (s, e, ()) /\ PtW s := by
 obtain ⟨g1, g2, g3, g4⟩ := curveE_ok h0
 obtain ⟨o1, of, oN⟩ := curveE_on h0
 have hM : 1 < P /\ P < M256 := ⟨by omega, b1.2⟩
 have hN : 1 < N /\ N < M256 := ⟨oN, b4.2⟩
 have mN := modIn hN
 have kR' : 0 <= R /\ R < N := ⟨by omega, kR.2⟩
 have kS' : 0 <= S /\ S < N := ⟨by omega, kS.2⟩
 unfold sign_Recover.j0 basculeref_Recovered.j0
 rw [hd]
 simp only [Option.bind_some]
 cases over with
 | true => exact ⟨_, _, rfl, rfl, zPt_w⟩
 | false =>
  simp only [BEq.rfl, if_true, cond_false]
  rw [cmpN hT b1, orderN hT b1]
  simp only [Option.bind_some]
  cases decide (sg T P >= 0) with
  | true => exact ⟨_, _, rfl, rfl, zPt_w⟩
  | false =>
   simp only [Bool.false_eq_true, if_false]
   obtain ⟨p, e, l1, l2, l3⟩ := lift_full ((band .i64 o 1) == 1) b1 b2 b3 b4 b5 b6 h0 hT
   rw [(odd_cases ko).1, l1, l2]
   simp only [Option.bind_some]
   by_cases he : e = 0
   ·subst he
    obtain ⟨pp, vp⟩ := l3 rfl
    obtain ⟨v, e, ok, w, i1, i2, i3, i4⟩ := invF hN kR'
    simp only [bne_self_eq_false, Bool.false_eq_true, if_false]
    rw [i1, i2]
    simp only [Option.bind_some]
    cases ok with
    | false => rw [i4 rfl]; exact ⟨_, _, rfl, rfl, zPt_w⟩
    | true =>
     obtain ⟨rfl, rfl, hv⟩ := i3 rfl
     simp only [bne_self_eq_false, Bool.false_eq_true, if_false, Bool.not_true]
     obtain ⟨w1, w2, wb⟩ := wid_ok hh ho
     rw [fmulN hN kS' hv, Option.bind_some, productN hN kS' hv, Option.bind_some, w1, Option.bind_some, w2, Option.bind_some, restP hN wb, Option.bind_some, ofR hN wb, fmulN hN (mN _) hv, Option.bind_some, productN hN (mN _) hv, Option.bind_some]
     simp only []
     have hz : field_Sub.run [0, 0, 0, 0] (mk (val B64 (wid h) % N * v % N)) (mk N) = some (mk ((-(val B64 (wid h) % N * v % N)) % N), 0, ()) := by
      have := fsubN hN (a := 0) (b := val B64 (wid h) % N * v % N) ⟨by omega, by omega⟩ (mN _)
      rw [mk_zero, Int.zero_sub] at this
      exact this
     rw [hz, Option.bind_some, oppositeN hN (mN _), Option.bind_some]
     simp only []
     have pb : PtOk P ((mk x, mk y, f, ()) : PtD) := pt_on hM o1 b5 b6
     have vb : OnV P A B ((mk x, mk y, f, ()) : PtD) := by
      unfold OnV; simp only []; rw [mk_val b5, mk_val b6]; exact o1
     obtain ⟨s, t, e, ok, s1, s2, s3, s4⟩ := sum2_full b1 b2 b3 b4 b5 b6 h0 (u := S * v % N) (v := (-(val B64 (wid h) % N * v % N)) % N) pp pb vp vb
     rw [s1, s2]
     simp only [Option.bind_some]
     cases ok with
     | false => rw [s4 rfl]; exact ⟨_, _, rfl, rfl, zPt_w⟩
     | true =>
      obtain ⟨rfl, rfl, hs, _⟩ := s3 rfl
      simp only [bne_self_eq_false, Bool.false_eq_true, if_false, Bool.not_true]
      cases t.2.2.1 with
      | true => exact ⟨_, _, rfl, rfl, zPt_w⟩
      | false => exact ⟨_, _, rfl, rfl, ptOk_w hs⟩
   ·rw [if_pos (by simpa using he), if_pos (by simpa using he)]
    exact ⟨_, _, rfl, rfl, zPt_w⟩
end
theorem recover_both {P A B N x y R S o : Int} {f : Bool} {h : List Int} (b1 : 0 <= P /\ P < M256) (b2 : 0 <= A /\ A < M256) (b3 : 0 <= B /\ B < M256) (b4 : 0 <= N /\ N < M256) (b5 : 0 <= x /\ x < M256) (b6 : 0 <= y /\ y < M256)
  (hR : 0 <= R /\ R < M256) (hS : 0 <= S /\ S < M256) (hh : h.length = 32) (ho : ∀ b ∈ h, 0 <= b /\ b < 256) :
  ∃ (s : PtD) (e : Int), sign_Recover.run (mk P, mk A, mk B, mk N, (mk x, mk y, f, ()), ()) h (mk R, mk S, o, ()) = some (s, e, ()) /\ basculeref_Recovered.run (mk P, mk A, mk B, mk N, (mk x, mk y, f, ()), ()) h (mk R, mk S, o, ()) = some (s, e, ()) /\ PtW s := by
 obtain ⟨e1, e2⟩ := curve_both f b1 b2 b3 b4 b5 b6
 unfold sign_Recover.run sign_Recover.top basculeref_Recovered.run basculeref_Recovered.top
 rw [e1, e2]
 simp only [Option.bind_some]
 rcases curveE_or P A B N x y f with h0 | h0
 ·obtain ⟨o1, of, oN⟩ := curveE_on h0
  have hN : 1 < N /\ N < M256 := ⟨oN, b4.2⟩
  obtain ⟨m1, m2⟩ := formed_both (o := o) (mk P) (mk A) (mk B) (mk x, mk y, f, ()) hN hR hS
  rw [h0, m1, m2]
  simp only [Option.bind_some, bne_self_eq_false, Bool.false_eq_true, if_false]
  cases hf : formB R S N o with
  | false => exact ⟨_, _, rfl, rfl, zPt_w⟩
  | true =>
   simp only [Bool.not_true, Bool.false_eq_true, if_false]
   obtain ⟨kR, kS, ko⟩ := formB_ok hR.1 hS.1 hf
   obtain ⟨d1, r1, r2, r3, r4⟩ := ref_of (mk_w R).1 (mk_w R).2
   obtain ⟨d2, t1, t2, t3, t4⟩ := ref_of (mk_w N).1 (mk_w N).2
   rw [mk_val hR] at r4
   rw [mk_val b4] at t4
   rw [r1, (odd_cases ko).2]
   simp only [Option.bind_some]
   cases decide (o >= 2) with
   | true =>
    simp only [if_true]
    rw [t1, Option.bind_some]
    obtain ⟨d3, u1, u2, u3, u4⟩ := ref_plus r3 t3 (by omega) (by omega)
    rw [u1, Option.bind_some]
    obtain ⟨w, g, v1, v2, v3, v4, v5⟩ := ref_wide u3 (by rw [u2]; omega)
    obtain ⟨w', g', a1, a2, a3, a4, a5⟩ := wide_add (mk_w R).1 (mk_w N).1 (mk_w R).2 (mk_w N).2
    rw [mk_val hR, mk_val b4] at a4 a5
    rw [u4, r4, t4] at v4 v5
    have hg : g = g' := by
     rw [Bool.eq_iff_iff, v5, a5]
    have hT : 0 <= (R + N) % M256 /\ (R + N) % M256 < M256 := ⟨Int.emod_nonneg _ (by decide), Int.emod_lt_of_pos _ (by decide)⟩
    rw [mk_eq ⟨v2, v3⟩ v4] at v1
    rw [a1, Option.bind_some, mk_eq ⟨a2, a3⟩ a4, <- hg]
    exact recover_tail b1 b2 b3 b4 b5 b6 h0 kR kS ko hh ho hT g v1
   | false =>
    simp only [Bool.false_eq_true, if_false]
    obtain ⟨w, g, v1, v2, v3, v4, v5⟩ := ref_wide r3 (by omega)
    rw [r4] at v4 v5
    have hg : g = false := by
     rw [Bool.eq_false_iff]
     intro hc
     have := v5.1 hc
     have h2 := hR.2
     unfold M256 at h2
     omega
    have hv : val B64 w = R := by rw [v4]; exact Int.emod_eq_of_lt hR.1 hR.2
    rw [mk_eq ⟨v2, v3⟩ hv, hg] at v1
    exact recover_tail b1 b2 b3 b4 b5 b6 h0 kR kS ko hh ho hR false v1
 ·rw [h0]; exact ⟨_, _, rfl, rfl, zPt_w⟩
end Go.Bx
namespace Go.Bx
open Go
set_option linter.unusedSimpArgs false
set_option linter.unusedVariables false
set_option maxRecDepth 100000
def rotL (x k : Int) : Int := bor .u64 (shlI .u64 x k) (shrI .u64 x (64 - k))
theorem kp1 {α : Type} (K n : Nat) (Xt : Int -> List Int -> Int -> List Int -> List Int -> List Int -> Option α) (rc : Int) (x16 : List Int) (x17 : Int) (c2 : List Int) (a0 a1 a2 a3 a4 a5 a6 a7 a8 a9 a10 a11 a12 a13 a14 a15 a16 a17 a18 a19 a20 a21 a22 a23 a24 : Int) :
  keccak_Turn.l1 K Xt (n + 26) rc x16 x17 [a0, a1, a2, a3, a4, a5, a6, a7, a8, a9, a10, a11, a12, a13, a14, a15, a16, a17, a18, a19, a20, a21, a22, a23, a24] 0 [a0, a1, a2, a3, a4, a5, a6, a7, a8, a9, a10, a11, a12, a13, a14, a15, a16, a17, a18, a19, a20, a21, a22, a23, a24] c2 [0, 0, 0, 0, 0] = Xt rc x16 x17 [a0, a1, a2, a3, a4, a5, a6, a7, a8, a9, a10, a11, a12, a13, a14, a15, a16, a17, a18, a19, a20, a21, a22, a23, a24] c2 [(bxor .u64 (bxor .u64 (bxor .u64 (bxor .u64 (bxor .u64 0 a0) a5) a10) a15) a20), (bxor .u64 (bxor .u64 (bxor .u64 (bxor .u64 (bxor .u64 0 a1) a6) a11) a16) a21), (bxor .u64 (bxor .u64 (bxor .u64 (bxor .u64 (bxor .u64 0 a2) a7) a12) a17) a22), (bxor .u64 (bxor .u64 (bxor .u64 (bxor .u64 (bxor .u64 0 a3) a8) a13) a18) a23), (bxor .u64 (bxor .u64 (bxor .u64 (bxor .u64 (bxor .u64 0 a4) a9) a14) a19) a24)] := by kernel_rfl
theorem kp2 {α : Type} (K n : Nat) (Xt : Int -> List Int -> Int -> List Int -> List Int -> List Int -> Option α) (rc : Int) (x16 : List Int) (x17 : Int) (c2 : List Int) (a0 a1 a2 a3 a4 a5 a6 a7 a8 a9 a10 a11 a12 a13 a14 a15 a16 a17 a18 a19 a20 a21 a22 a23 a24 z0 z1 z2 z3 z4 : Int) :
  keccak_Turn.l2 K Xt (n + 26) rc x16 x17 0 [a0, a1, a2, a3, a4, a5, a6, a7, a8, a9, a10, a11, a12, a13, a14, a15, a16, a17, a18, a19, a20, a21, a22, a23, a24] c2 [z0, z1, z2, z3, z4] (List.replicate 25 0) = Xt rc x16 x17 [a0, a1, a2, a3, a4, a5, a6, a7, a8, a9, a10, a11, a12, a13, a14, a15, a16, a17, a18, a19, a20, a21, a22, a23, a24] c2 [(rotL (bxor .u64 (bxor .u64 a0 z4) (rotL z1 1)) 0), (rotL (bxor .u64 (bxor .u64 a6 z0) (rotL z2 1)) 44), (rotL (bxor .u64 (bxor .u64 a12 z1) (rotL z3 1)) 43), (rotL (bxor .u64 (bxor .u64 a18 z2) (rotL z4 1)) 21), (rotL (bxor .u64 (bxor .u64 a24 z3) (rotL z0 1)) 14), (rotL (bxor .u64 (bxor .u64 a3 z2) (rotL z4 1)) 28), (rotL (bxor .u64 (bxor .u64 a9 z3) (rotL z0 1)) 20), (rotL (bxor .u64 (bxor .u64 a10 z4) (rotL z1 1)) 3), (rotL (bxor .u64 (bxor .u64 a16 z0) (rotL z2 1)) 45), (rotL (bxor .u64 (bxor .u64 a22 z1) (rotL z3 1)) 61), (rotL (bxor .u64 (bxor .u64 a1 z0) (rotL z2 1)) 1), (rotL (bxor .u64 (bxor .u64 a7 z1) (rotL z3 1)) 6), (rotL (bxor .u64 (bxor .u64 a13 z2) (rotL z4 1)) 25), (rotL (bxor .u64 (bxor .u64 a19 z3) (rotL z0 1)) 8), (rotL (bxor .u64 (bxor .u64 a20 z4) (rotL z1 1)) 18), (rotL (bxor .u64 (bxor .u64 a4 z3) (rotL z0 1)) 27), (rotL (bxor .u64 (bxor .u64 a5 z4) (rotL z1 1)) 36), (rotL (bxor .u64 (bxor .u64 a11 z0) (rotL z2 1)) 10), (rotL (bxor .u64 (bxor .u64 a17 z1) (rotL z3 1)) 15), (rotL (bxor .u64 (bxor .u64 a23 z2) (rotL z4 1)) 56), (rotL (bxor .u64 (bxor .u64 a2 z1) (rotL z3 1)) 62), (rotL (bxor .u64 (bxor .u64 a8 z2) (rotL z4 1)) 55), (rotL (bxor .u64 (bxor .u64 a14 z3) (rotL z0 1)) 39), (rotL (bxor .u64 (bxor .u64 a15 z4) (rotL z1 1)) 41), (rotL (bxor .u64 (bxor .u64 a21 z0) (rotL z2 1)) 2)] := by kernel_rfl
theorem kp3 {α : Type} (K n : Nat) (Xt : Int -> List Int -> Int -> List Int -> List Int -> Option α) (rc : Int) (x16 : List Int) (x17 : Int) (c2 : List Int) (a0 a1 a2 a3 a4 a5 a6 a7 a8 a9 a10 a11 a12 a13 a14 a15 a16 a17 a18 a19 a20 a21 a22 a23 a24 b0 b1 b2 b3 b4 b5 b6 b7 b8 b9 b10 b11 b12 b13 b14 b15 b16 b17 b18 b19 b20 b21 b22 b23 b24 : Int) :
  keccak_Turn.l3 K Xt (n + 26) rc x16 x17 0 [a0, a1, a2, a3, a4, a5, a6, a7, a8, a9, a10, a11, a12, a13, a14, a15, a16, a17, a18, a19, a20, a21, a22, a23, a24] c2 [b0, b1, b2, b3, b4, b5, b6, b7, b8, b9, b10, b11, b12, b13, b14, b15, b16, b17, b18, b19, b20, b21, b22, b23, b24] = Xt rc x16 x17 [(bxor .u64 b0 (band .u64 (bxor .u64 18446744073709551615 b1) b2)), (bxor .u64 b1 (band .u64 (bxor .u64 18446744073709551615 b2) b3)), (bxor .u64 b2 (band .u64 (bxor .u64 18446744073709551615 b3) b4)), (bxor .u64 b3 (band .u64 (bxor .u64 18446744073709551615 b4) b0)), (bxor .u64 b4 (band .u64 (bxor .u64 18446744073709551615 b0) b1)), (bxor .u64 b5 (band .u64 (bxor .u64 18446744073709551615 b6) b7)), (bxor .u64 b6 (band .u64 (bxor .u64 18446744073709551615 b7) b8)), (bxor .u64 b7 (band .u64 (bxor .u64 18446744073709551615 b8) b9)), (bxor .u64 b8 (band .u64 (bxor .u64 18446744073709551615 b9) b5)), (bxor .u64 b9 (band .u64 (bxor .u64 18446744073709551615 b5) b6)), (bxor .u64 b10 (band .u64 (bxor .u64 18446744073709551615 b11) b12)), (bxor .u64 b11 (band .u64 (bxor .u64 18446744073709551615 b12) b13)), (bxor .u64 b12 (band .u64 (bxor .u64 18446744073709551615 b13) b14)), (bxor .u64 b13 (band .u64 (bxor .u64 18446744073709551615 b14) b10)), (bxor .u64 b14 (band .u64 (bxor .u64 18446744073709551615 b10) b11)), (bxor .u64 b15 (band .u64 (bxor .u64 18446744073709551615 b16) b17)), (bxor .u64 b16 (band .u64 (bxor .u64 18446744073709551615 b17) b18)), (bxor .u64 b17 (band .u64 (bxor .u64 18446744073709551615 b18) b19)), (bxor .u64 b18 (band .u64 (bxor .u64 18446744073709551615 b19) b15)), (bxor .u64 b19 (band .u64 (bxor .u64 18446744073709551615 b15) b16)), (bxor .u64 b20 (band .u64 (bxor .u64 18446744073709551615 b21) b22)), (bxor .u64 b21 (band .u64 (bxor .u64 18446744073709551615 b22) b23)), (bxor .u64 b22 (band .u64 (bxor .u64 18446744073709551615 b23) b24)), (bxor .u64 b23 (band .u64 (bxor .u64 18446744073709551615 b24) b20)), (bxor .u64 b24 (band .u64 (bxor .u64 18446744073709551615 b20) b21))] c2 := by kernel_rfl
theorem kr1 {α : Type} (K n : Nat) (Xt : Int -> Int -> List Int -> List Int -> List Int -> Option α) (x3 x16 : Int) (c2 : List Int) (a0 a1 a2 a3 a4 a5 a6 a7 a8 a9 a10 a11 a12 a13 a14 a15 a16 a17 a18 a19 a20 a21 a22 a23 a24 : Int) :
  basculeref_Turned.l1 K Xt (n + 6) x3 x16 0 [a0, a1, a2, a3, a4, a5, a6, a7, a8, a9, a10, a11, a12, a13, a14, a15, a16, a17, a18, a19, a20, a21, a22, a23, a24] c2 [0, 0, 0, 0, 0] = Xt x3 x16 [a0, a1, a2, a3, a4, a5, a6, a7, a8, a9, a10, a11, a12, a13, a14, a15, a16, a17, a18, a19, a20, a21, a22, a23, a24] c2 [(bxor .u64 (bxor .u64 (bxor .u64 (bxor .u64 a0 a5) a10) a15) a20), (bxor .u64 (bxor .u64 (bxor .u64 (bxor .u64 a1 a6) a11) a16) a21), (bxor .u64 (bxor .u64 (bxor .u64 (bxor .u64 a2 a7) a12) a17) a22), (bxor .u64 (bxor .u64 (bxor .u64 (bxor .u64 a3 a8) a13) a18) a23), (bxor .u64 (bxor .u64 (bxor .u64 (bxor .u64 a4 a9) a14) a19) a24)] := by kernel_rfl
theorem kr2 {α : Type} (n : Nat) (Xt : Int -> Int -> List Int -> List Int -> Option α) (x3 x16 : Int) (c2 : List Int) (a0 a1 a2 a3 a4 a5 a6 a7 a8 a9 a10 a11 a12 a13 a14 a15 a16 a17 a18 a19 a20 a21 a22 a23 a24 z0 z1 z2 z3 z4 : Int) :
  basculeref_Turned.l2 (n + 6) Xt (n + 6) x3 x16 0 [a0, a1, a2, a3, a4, a5, a6, a7, a8, a9, a10, a11, a12, a13, a14, a15, a16, a17, a18, a19, a20, a21, a22, a23, a24] c2 [z0, z1, z2, z3, z4] = Xt x3 x16 [(bxor .u64 a0 (bxor .u64 z4 (rotL z1 1))), (bxor .u64 a1 (bxor .u64 z0 (rotL z2 1))), (bxor .u64 a2 (bxor .u64 z1 (rotL z3 1))), (bxor .u64 a3 (bxor .u64 z2 (rotL z4 1))), (bxor .u64 a4 (bxor .u64 z3 (rotL z0 1))), (bxor .u64 a5 (bxor .u64 z4 (rotL z1 1))), (bxor .u64 a6 (bxor .u64 z0 (rotL z2 1))), (bxor .u64 a7 (bxor .u64 z1 (rotL z3 1))), (bxor .u64 a8 (bxor .u64 z2 (rotL z4 1))), (bxor .u64 a9 (bxor .u64 z3 (rotL z0 1))), (bxor .u64 a10 (bxor .u64 z4 (rotL z1 1))), (bxor .u64 a11 (bxor .u64 z0 (rotL z2 1))), (bxor .u64 a12 (bxor .u64 z1 (rotL z3 1))), (bxor .u64 a13 (bxor .u64 z2 (rotL z4 1))), (bxor .u64 a14 (bxor .u64 z3 (rotL z0 1))), (bxor .u64 a15 (bxor .u64 z4 (rotL z1 1))), (bxor .u64 a16 (bxor .u64 z0 (rotL z2 1))), (bxor .u64 a17 (bxor .u64 z1 (rotL z3 1))), (bxor .u64 a18 (bxor .u64 z2 (rotL z4 1))), (bxor .u64 a19 (bxor .u64 z3 (rotL z0 1))), (bxor .u64 a20 (bxor .u64 z4 (rotL z1 1))), (bxor .u64 a21 (bxor .u64 z0 (rotL z2 1))), (bxor .u64 a22 (bxor .u64 z1 (rotL z3 1))), (bxor .u64 a23 (bxor .u64 z2 (rotL z4 1))), (bxor .u64 a24 (bxor .u64 z3 (rotL z0 1)))] c2 := by kernel_rfl
theorem kr4 {α : Type} (K n : Nat) (Xt : Int -> Int -> List Int -> List Int -> Option α) (x3 x16 : Int) (c2 : List Int) (a0 a1 a2 a3 a4 a5 a6 a7 a8 a9 a10 a11 a12 a13 a14 a15 a16 a17 a18 a19 a20 a21 a22 a23 a24 : Int) :
  basculeref_Turned.l4 K Xt (n + 25) x3 1 0 a1 x16 0 [a0, a1, a2, a3, a4, a5, a6, a7, a8, a9, a10, a11, a12, a13, a14, a15, a16, a17, a18, a19, a20, a21, a22, a23, a24] c2 = Xt x3 x16 [a0, (rotL a6 44), (rotL a12 43), (rotL a18 21), (rotL a24 14), (rotL a3 28), (rotL a9 20), (rotL a10 3), (rotL a16 45), (rotL a22 61), (rotL a1 1), (rotL a7 6), (rotL a13 25), (rotL a19 8), (rotL a20 18), (rotL a4 27), (rotL a5 36), (rotL a11 10), (rotL a17 15), (rotL a23 56), (rotL a2 62), (rotL a8 55), (rotL a14 39), (rotL a15 41), (rotL a21 2)] c2 := by kernel_rfl
theorem kr5 {α : Type} (n : Nat) (Xt : Int -> Int -> List Int -> List Int -> Option α) (x3 x16 : Int) (c2 : List Int) (b0 b1 b2 b3 b4 b5 b6 b7 b8 b9 b10 b11 b12 b13 b14 b15 b16 b17 b18 b19 b20 b21 b22 b23 b24 : Int) :
  basculeref_Turned.l5 (n + 6) Xt (n + 6) x3 0 x16 [b0, b1, b2, b3, b4, b5, b6, b7, b8, b9, b10, b11, b12, b13, b14, b15, b16, b17, b18, b19, b20, b21, b22, b23, b24] c2 = Xt x3 x16 [(bxor .u64 b0 (band .u64 (bxor .u64 18446744073709551615 b1) b2)), (bxor .u64 b1 (band .u64 (bxor .u64 18446744073709551615 b2) b3)), (bxor .u64 b2 (band .u64 (bxor .u64 18446744073709551615 b3) b4)), (bxor .u64 b3 (band .u64 (bxor .u64 18446744073709551615 b4) b0)), (bxor .u64 b4 (band .u64 (bxor .u64 18446744073709551615 b0) b1)), (bxor .u64 b5 (band .u64 (bxor .u64 18446744073709551615 b6) b7)), (bxor .u64 b6 (band .u64 (bxor .u64 18446744073709551615 b7) b8)), (bxor .u64 b7 (band .u64 (bxor .u64 18446744073709551615 b8) b9)), (bxor .u64 b8 (band .u64 (bxor .u64 18446744073709551615 b9) b5)), (bxor .u64 b9 (band .u64 (bxor .u64 18446744073709551615 b5) b6)), (bxor .u64 b10 (band .u64 (bxor .u64 18446744073709551615 b11) b12)), (bxor .u64 b11 (band .u64 (bxor .u64 18446744073709551615 b12) b13)), (bxor .u64 b12 (band .u64 (bxor .u64 18446744073709551615 b13) b14)), (bxor .u64 b13 (band .u64 (bxor .u64 18446744073709551615 b14) b10)), (bxor .u64 b14 (band .u64 (bxor .u64 18446744073709551615 b10) b11)), (bxor .u64 b15 (band .u64 (bxor .u64 18446744073709551615 b16) b17)), (bxor .u64 b16 (band .u64 (bxor .u64 18446744073709551615 b17) b18)), (bxor .u64 b17 (band .u64 (bxor .u64 18446744073709551615 b18) b19)), (bxor .u64 b18 (band .u64 (bxor .u64 18446744073709551615 b19) b15)), (bxor .u64 b19 (band .u64 (bxor .u64 18446744073709551615 b15) b16)), (bxor .u64 b20 (band .u64 (bxor .u64 18446744073709551615 b21) b22)), (bxor .u64 b21 (band .u64 (bxor .u64 18446744073709551615 b22) b23)), (bxor .u64 b22 (band .u64 (bxor .u64 18446744073709551615 b23) b24)), (bxor .u64 b23 (band .u64 (bxor .u64 18446744073709551615 b24) b20)), (bxor .u64 b24 (band .u64 (bxor .u64 18446744073709551615 b20) b21))] c2 := by kernel_rfl
theorem bxor_nat64 (x y : Int) : bxor .u64 x y = (((BitVec.ofInt 64 x ^^^ BitVec.ofInt 64 y).toNat : Nat) : Int) := by
 unfold bxor
 show IntKind.u64.wrap (((BitVec.ofInt 64 x ^^^ BitVec.ofInt 64 y).toNat : Nat) : Int) = _
 have := (BitVec.ofInt 64 x ^^^ BitVec.ofInt 64 y).isLt
 exact wrap_u64 (by omega) (by omega)
theorem ofInt_toNat (v : BitVec 64) : BitVec.ofInt 64 ((v.toNat : Nat) : Int) = v := by
 rw [BitVec.ofInt_natCast, BitVec.ofNat_toNat]
 simp
theorem bxor_assoc (x y z : Int) : bxor .u64 (bxor .u64 x y) z = bxor .u64 x (bxor .u64 y z) := by
 simp only [bxor_nat64, ofInt_toNat, BitVec.xor_assoc]
theorem bxor_z2 (x y : Int) : bxor .u64 (bxor .u64 0 x) y = bxor .u64 x y := by
 rw [bxor_assoc]
 simp only [bxor_nat64, ofInt_toNat]
 rw [show BitVec.ofInt 64 0 = 0#64 from rfl, BitVec.zero_xor]
theorem rot0 (x y : Int) : rotL (bxor .u64 x y) 0 = bxor .u64 x y := by
 rw [bxor_nat64]
 generalize BitVec.ofInt 64 x ^^^ BitVec.ofInt 64 y = v
 have hv := v.isLt
 unfold rotL
 have h1 : shlI .u64 ((v.toNat : Nat) : Int) 0 = ((v.toNat : Nat) : Int) := by
  unfold shlI
  rw [show (2 : Int) ^ (min (0 : Int).toNat IntKind.u64.bits) = 1 from rfl, Int.mul_one]
  exact wrap_u64 (by omega) (by omega)
 have h2 : shrI .u64 ((v.toNat : Nat) : Int) (64 - 0) = 0 := by
  unfold shrI
  rw [show (2 : Int) ^ (min ((64 : Int) - 0).toNat IntKind.u64.bits) = 18446744073709551616 from rfl, Int.fdiv_eq_ediv_of_nonneg _ (by decide)]
  exact Int.ediv_eq_zero_of_lt (by omega) (by omega)
 rw [h1, h2]
 have := bor_nat (X := v.toNat) (Y := 0) (by omega) (by decide)
 rw [show ((0 : Nat) : Int) = 0 from rfl, Nat.or_zero] at this
 exact this
theorem same_b (a0 a1 a2 a3 a4 a5 a6 a7 a8 a9 a10 a11 a12 a13 a14 a15 a16 a17 a18 a19 a20 a21 a22 a23 a24 z0 z1 z2 z3 z4 : Int) : [(rotL (bxor .u64 (bxor .u64 a0 z4) (rotL z1 1)) 0), (rotL (bxor .u64 (bxor .u64 a6 z0) (rotL z2 1)) 44), (rotL (bxor .u64 (bxor .u64 a12 z1) (rotL z3 1)) 43), (rotL (bxor .u64 (bxor .u64 a18 z2) (rotL z4 1)) 21), (rotL (bxor .u64 (bxor .u64 a24 z3) (rotL z0 1)) 14), (rotL (bxor .u64 (bxor .u64 a3 z2) (rotL z4 1)) 28), (rotL (bxor .u64 (bxor .u64 a9 z3) (rotL z0 1)) 20), (rotL (bxor .u64 (bxor .u64 a10 z4) (rotL z1 1)) 3), (rotL (bxor .u64 (bxor .u64 a16 z0) (rotL z2 1)) 45), (rotL (bxor .u64 (bxor .u64 a22 z1) (rotL z3 1)) 61), (rotL (bxor .u64 (bxor .u64 a1 z0) (rotL z2 1)) 1), (rotL (bxor .u64 (bxor .u64 a7 z1) (rotL z3 1)) 6), (rotL (bxor .u64 (bxor .u64 a13 z2) (rotL z4 1)) 25), (rotL (bxor .u64 (bxor .u64 a19 z3) (rotL z0 1)) 8), (rotL (bxor .u64 (bxor .u64 a20 z4) (rotL z1 1)) 18), (rotL (bxor .u64 (bxor .u64 a4 z3) (rotL z0 1)) 27), (rotL (bxor .u64 (bxor .u64 a5 z4) (rotL z1 1)) 36), (rotL (bxor .u64 (bxor .u64 a11 z0) (rotL z2 1)) 10), (rotL (bxor .u64 (bxor .u64 a17 z1) (rotL z3 1)) 15), (rotL (bxor .u64 (bxor .u64 a23 z2) (rotL z4 1)) 56), (rotL (bxor .u64 (bxor .u64 a2 z1) (rotL z3 1)) 62), (rotL (bxor .u64 (bxor .u64 a8 z2) (rotL z4 1)) 55), (rotL (bxor .u64 (bxor .u64 a14 z3) (rotL z0 1)) 39), (rotL (bxor .u64 (bxor .u64 a15 z4) (rotL z1 1)) 41), (rotL (bxor .u64 (bxor .u64 a21 z0) (rotL z2 1)) 2)] = [(bxor .u64 a0 (bxor .u64 z4 (rotL z1 1))), (rotL (bxor .u64 a6 (bxor .u64 z0 (rotL z2 1))) 44), (rotL (bxor .u64 a12 (bxor .u64 z1 (rotL z3 1))) 43), (rotL (bxor .u64 a18 (bxor .u64 z2 (rotL z4 1))) 21), (rotL (bxor .u64 a24 (bxor .u64 z3 (rotL z0 1))) 14), (rotL (bxor .u64 a3 (bxor .u64 z2 (rotL z4 1))) 28), (rotL (bxor .u64 a9 (bxor .u64 z3 (rotL z0 1))) 20), (rotL (bxor .u64 a10 (bxor .u64 z4 (rotL z1 1))) 3), (rotL (bxor .u64 a16 (bxor .u64 z0 (rotL z2 1))) 45), (rotL (bxor .u64 a22 (bxor .u64 z1 (rotL z3 1))) 61), (rotL (bxor .u64 a1 (bxor .u64 z0 (rotL z2 1))) 1), (rotL (bxor .u64 a7 (bxor .u64 z1 (rotL z3 1))) 6), (rotL (bxor .u64 a13 (bxor .u64 z2 (rotL z4 1))) 25), (rotL (bxor .u64 a19 (bxor .u64 z3 (rotL z0 1))) 8), (rotL (bxor .u64 a20 (bxor .u64 z4 (rotL z1 1))) 18), (rotL (bxor .u64 a4 (bxor .u64 z3 (rotL z0 1))) 27), (rotL (bxor .u64 a5 (bxor .u64 z4 (rotL z1 1))) 36), (rotL (bxor .u64 a11 (bxor .u64 z0 (rotL z2 1))) 10), (rotL (bxor .u64 a17 (bxor .u64 z1 (rotL z3 1))) 15), (rotL (bxor .u64 a23 (bxor .u64 z2 (rotL z4 1))) 56), (rotL (bxor .u64 a2 (bxor .u64 z1 (rotL z3 1))) 62), (rotL (bxor .u64 a8 (bxor .u64 z2 (rotL z4 1))) 55), (rotL (bxor .u64 a14 (bxor .u64 z3 (rotL z0 1))) 39), (rotL (bxor .u64 a15 (bxor .u64 z4 (rotL z1 1))) 41), (rotL (bxor .u64 a21 (bxor .u64 z0 (rotL z2 1))) 2)] := by
 simp only [bxor_assoc, rot0]
theorem ro0 : basculeref_roundOf.run 0 = some (gRounds.getD 0 0) := by kernel_rfl
theorem ro1 : basculeref_roundOf.run 1 = some (gRounds.getD 1 0) := by kernel_rfl
theorem ro2 : basculeref_roundOf.run 2 = some (gRounds.getD 2 0) := by kernel_rfl
theorem ro3 : basculeref_roundOf.run 3 = some (gRounds.getD 3 0) := by kernel_rfl
theorem ro4 : basculeref_roundOf.run 4 = some (gRounds.getD 4 0) := by kernel_rfl
theorem ro5 : basculeref_roundOf.run 5 = some (gRounds.getD 5 0) := by kernel_rfl
theorem ro6 : basculeref_roundOf.run 6 = some (gRounds.getD 6 0) := by kernel_rfl
theorem ro7 : basculeref_roundOf.run 7 = some (gRounds.getD 7 0) := by kernel_rfl
theorem ro8 : basculeref_roundOf.run 8 = some (gRounds.getD 8 0) := by kernel_rfl
theorem ro9 : basculeref_roundOf.run 9 = some (gRounds.getD 9 0) := by kernel_rfl
theorem ro10 : basculeref_roundOf.run 10 = some (gRounds.getD 10 0) := by kernel_rfl
theorem ro11 : basculeref_roundOf.run 11 = some (gRounds.getD 11 0) := by kernel_rfl
theorem ro12 : basculeref_roundOf.run 12 = some (gRounds.getD 12 0) := by kernel_rfl
theorem ro13 : basculeref_roundOf.run 13 = some (gRounds.getD 13 0) := by kernel_rfl
theorem ro14 : basculeref_roundOf.run 14 = some (gRounds.getD 14 0) := by kernel_rfl
theorem ro15 : basculeref_roundOf.run 15 = some (gRounds.getD 15 0) := by kernel_rfl
theorem ro16 : basculeref_roundOf.run 16 = some (gRounds.getD 16 0) := by kernel_rfl
theorem ro17 : basculeref_roundOf.run 17 = some (gRounds.getD 17 0) := by kernel_rfl
theorem ro18 : basculeref_roundOf.run 18 = some (gRounds.getD 18 0) := by kernel_rfl
theorem ro19 : basculeref_roundOf.run 19 = some (gRounds.getD 19 0) := by kernel_rfl
theorem ro20 : basculeref_roundOf.run 20 = some (gRounds.getD 20 0) := by kernel_rfl
theorem ro21 : basculeref_roundOf.run 21 = some (gRounds.getD 21 0) := by kernel_rfl
theorem ro22 : basculeref_roundOf.run 22 = some (gRounds.getD 22 0) := by kernel_rfl
theorem ro23 : basculeref_roundOf.run 23 = some (gRounds.getD 23 0) := by kernel_rfl
theorem round_of : ∀ k : Nat, k < 24 -> basculeref_roundOf.run (k : Int) = some (gRounds.getD k 0)
 | 0, _ => ro0
 | 1, _ => ro1
 | 2, _ => ro2
 | 3, _ => ro3
 | 4, _ => ro4
 | 5, _ => ro5
 | 6, _ => ro6
 | 7, _ => ro7
 | 8, _ => ro8
 | 9, _ => ro9
 | 10, _ => ro10
 | 11, _ => ro11
 | 12, _ => ro12
 | 13, _ => ro13
 | 14, _ => ro14
 | 15, _ => ro15
 | 16, _ => ro16
 | 17, _ => ro17
 | 18, _ => ro18
 | 19, _ => ro19
 | 20, _ => ro20
 | 21, _ => ro21
 | 22, _ => ro22
 | 23, _ => ro23
 | n + 24, h => by omega
theorem list25 {l : List Int} (h : l.length = 25) : ∃ a0 a1 a2 a3 a4 a5 a6 a7 a8 a9 a10 a11 a12 a13 a14 a15 a16 a17 a18 a19 a20 a21 a22 a23 a24, l = [a0, a1, a2, a3, a4, a5, a6, a7, a8, a9, a10, a11, a12, a13, a14, a15, a16, a17, a18, a19, a20, a21, a22, a23, a24] := by
 match l, h with
 | [a0, a1, a2, a3, a4, a5, a6, a7, a8, a9, a10, a11, a12, a13, a14, a15, a16, a17, a18, a19, a20, a21, a22, a23, a24], _ => exact ⟨a0, a1, a2, a3, a4, a5, a6, a7, a8, a9, a10, a11, a12, a13, a14, a15, a16, a17, a18, a19, a20, a21, a22, a23, a24, rfl⟩
theorem round_both {α β : Type} (Xt : List Int -> List Int -> Option α) (Yt : List Int -> List Int -> Option β) (K N n : Nat) (k : Nat) (hk : k < 24) (c2 d2 : List Int) {l : List Int} (hl : l.length = 25) :
  ∃ r : List Int, r.length = 25 /\ keccak_Turn.l0 (K + 26) Xt (n + 1) gRounds (k : Int) l c2 = keccak_Turn.l0 (K + 26) Xt n gRounds ((k + 1 : Nat) : Int) r c2 /\
   basculeref_Turned.l0 (N + 26) Yt (n + 1) (k : Int) l d2 = basculeref_Turned.l0 (N + 26) Yt n ((k + 1 : Nat) : Int) r d2 := by
 obtain ⟨a0, a1, a2, a3, a4, a5, a6, a7, a8, a9, a10, a11, a12, a13, a14, a15, a16, a17, a18, a19, a20, a21, a22, a23, a24, rfl⟩ := list25 hl
 simp only [keccak_Turn.l0, keccak_Turn.l0s, basculeref_Turned.l0, basculeref_Turned.l0s]
 rw [if_pos (show decide ((k : Int) < 24) = true by rw [decide_eq_true_eq]; omega), if_pos (show decide ((k : Int) < 24) = true by rw [decide_eq_true_eq]; omega), if_pos (show 0 <= (k : Int) /\ (k : Int) < 24 by omega), kp1]
 unfold keccak_Turn.j0
 rw [kp2, same_b]
 unfold keccak_Turn.j1
 rw [kp3]
 unfold keccak_Turn.j2 keccak_Turn.j3
 have e1 : N + 26 = (N + 20) + 6 := by omega
 rw [e1, kr1]
 unfold basculeref_Turned.j0
 rw [kr2]
 unfold basculeref_Turned.j2
 have e2 : N + 20 + 6 = (N + 1) + 25 := by omega
 simp only [List.getD_cons_succ, List.getD_cons_zero]
 rw [e2, kr4]
 unfold basculeref_Turned.j3
 have e3 : (N + 1) + 25 = (N + 20) + 6 := by omega
 rw [e3, kr5]
 unfold basculeref_Turned.j5 basculeref_Turned.j6
 rw [round_of k hk, Option.bind_some, wrap_i64 (x := (k : Int) + 1) (by omega) (by omega)]
 simp only [bxor_z2]
 exact ⟨_, rfl, rfl, rfl⟩
theorem rounds_both {α β : Type} (Xt : List Int -> List Int -> Option α) (Yt : List Int -> List Int -> Option β) (K N : Nat) (c2 d2 : List Int) : ∀ (m n k : Nat) (l : List Int), m < n -> k + m = 24 -> l.length = 25 ->
  ∃ r : List Int, r.length = 25 /\ keccak_Turn.l0 (K + 26) Xt n gRounds (k : Int) l c2 = Xt r c2 /\ basculeref_Turned.l0 (N + 26) Yt n (k : Int) l d2 = Yt r d2
 | m, 0, k, l, h, _, _ => by omega
 | 0, n + 1, k, l, h, hk, hl => by
  have : k = 24 := by omega
  subst this
  exact ⟨l, hl, rfl, rfl⟩
 | m + 1, n + 1, k, l, h, hk, hl => by
  obtain ⟨r, h1, h2, h3⟩ := round_both Xt Yt K N n k (by omega) c2 d2 hl
  rw [h2, h3]
  exact rounds_both Xt Yt K N c2 d2 m n (k + 1) r (by omega) (by omega) h1
theorem turn_both {l : List Int} (hl : l.length = 25) : ∃ r : List Int, r.length = 25 /\ keccak_Turn.run l = some r /\ basculeref_Turned.run l = some r := by
 obtain ⟨K, hK⟩ : ∃ K, fuel = K + 26 := ⟨18446744073709551590, rfl⟩
 obtain ⟨r, h1, h2, h3⟩ := rounds_both (fun c1 c2 => keccak_Turn.j4 (fun c2 => some c2) c1 c2) (fun c1 c2 => basculeref_Turned.j7 (fun c2 => some c2) c1 c2) K K (List.replicate 25 0) (List.replicate 25 0) 24 fuel 0 l (by rw [hK]; omega) (by omega) hl
 unfold keccak_Turn.run keccak_Turn.top basculeref_Turned.run basculeref_Turned.top
 rw [<- hK] at h2 h3
 exact ⟨r, h1, h2, h3⟩
end Go.Bx
namespace Go.Bx
open Go
set_option linter.unusedSimpArgs false
set_option linter.unusedVariables false
theorem xor_step {b V k : Nat} (hb : b < 256) : (2 ^ k * b) ^^^ (2 ^ (k + 8) * V) = 2 ^ k * (256 * V + b) := by
 have h8 : (256 : Nat) = 2 ^ 8 := by decide
 apply Nat.eq_of_testBit_eq
 intro j
 rw [Nat.testBit_xor, Nat.testBit_two_pow_mul, Nat.testBit_two_pow_mul, Nat.testBit_two_pow_mul, h8, Nat.testBit_two_pow_mul_add V (by rw [<- h8]; exact hb)]
 by_cases h1 : k <= j
 ·by_cases h2 : k + 8 <= j
  ·have : ¬ (j - k < 8) := by omega
   have hz : b.testBit (j - k) = false := Nat.testBit_lt_two_pow (Nat.lt_of_lt_of_le hb (by rw [h8]; exact Nat.pow_le_pow_right (by omega) (by omega)))
   simp [h1, h2, this, hz]
   congr 1
  ·have : j - k < 8 := by omega
   simp [h1, h2, this]
 ·have h2 : ¬ (k + 8 <= j) := by omega
  simp [h1, h2]
theorem shl_byte {b j : Nat} (hb : b < 256) (hj : j <= 7) : shlI .u64 (b : Int) ((8 * j : Nat) : Int) = ((2 ^ (8 * j) * b : Nat) : Int) := by
 unfold shlI
 have e : min ((8 * j : Nat) : Int).toNat IntKind.u64.bits = 8 * j := by
  rw [Int.toNat_natCast]; simp [IntKind.bits]; omega
 rw [e]
 have : 2 ^ (8 * j) * b < 18446744073709551616 := by
  have h1 : 2 ^ (8 * j) <= 2 ^ 56 := Nat.pow_le_pow_right (by omega) (by omega)
  calc 2 ^ (8 * j) * b <= 2 ^ 56 * 255 := Nat.mul_le_mul h1 (by omega)
   _ < 18446744073709551616 := by decide
 rw [show (b : Int) * 2 ^ (8 * j) = ((2 ^ (8 * j) * b : Nat) : Int) by rw [Nat.mul_comm (2 ^ (8 * j)) b]; simp, u64_wrap_nat this]
def leW : List Nat -> Nat
 | [] => 0
 | b :: l => 256 * leW l + b
theorem leW_lt : ∀ (l : List Nat), (∀ b ∈ l, b < 256) -> leW l < 256 ^ l.length
 | [], _ => by simp [leW]
 | b :: l, h => by
  have := leW_lt l fun c hc => h c (List.mem_cons_of_mem _ hc)
  have hb := h b (by simp)
  simp only [leW, List.length_cons, Nat.pow_succ]; omega
def xorI (x : Int) : List Nat -> Nat -> Int
 | [], _ => x
 | b :: l, j => xorI (bxor .u64 x (shlI .u64 (b : Int) ((8 * j : Nat) : Int))) l (j + 1)
theorem xorI_nat (assoc : ∀ x y z : Int, bxor .u64 (bxor .u64 x y) z = bxor .u64 x (bxor .u64 y z)) : ∀ (b : Nat) (l : List Nat) (j : Nat) (x : Int), (∀ c ∈ b :: l, c < 256) -> j + (b :: l).length <= 8 ->
  xorI x (b :: l) j = bxor .u64 x ((2 ^ (8 * j) * leW (b :: l) : Nat) : Int)
 | b, [], j, x, h, hl => by
  simp only [xorI, leW, List.length_cons, List.length_nil] at hl ⊢
  rw [shl_byte (h b (by simp)) (by omega)]; simp
 | b, c :: l, j, x, h, hl => by
  have ih := xorI_nat assoc c l (j + 1) (bxor .u64 x (shlI .u64 (b : Int) ((8 * j : Nat) : Int))) (fun d hd => h d (List.mem_cons_of_mem _ hd)) (by simp at hl ⊢; omega)
  rw [show xorI x (b :: c :: l) j = xorI (bxor .u64 x (shlI .u64 (b : Int) ((8 * j : Nat) : Int))) (c :: l) (j + 1) from rfl, ih, assoc]
  have hb := h b (by simp)
  have hc : ∀ d ∈ c :: l, d < 256 := fun d hd => h d (List.mem_cons_of_mem _ hd)
  simp only [List.length_cons] at hl
  have hW := leW_lt (c :: l) hc
  have p1 : 2 ^ (8 * j) * b < 18446744073709551616 := by
   have h1 : 2 ^ (8 * j) <= 2 ^ 56 := Nat.pow_le_pow_right (by omega) (by omega)
   calc 2 ^ (8 * j) * b <= 2 ^ 56 * 255 := Nat.mul_le_mul h1 (by omega)
    _ < 18446744073709551616 := by decide
  have p2 : 2 ^ (8 * (j + 1)) * leW (c :: l) < 18446744073709551616 := by
   have e : (256 : Nat) ^ (c :: l).length = 2 ^ (8 * (c :: l).length) := by rw [show (256 : Nat) = 2 ^ 8 from rfl, <- Nat.pow_mul]
   rw [e] at hW
   calc 2 ^ (8 * (j + 1)) * leW (c :: l) < 2 ^ (8 * (j + 1)) * 2 ^ (8 * (c :: l).length) := Nat.mul_lt_mul_of_pos_left hW (Nat.two_pow_pos _)
    _ = 2 ^ (8 * (j + 1) + 8 * (c :: l).length) := by rw [Nat.pow_add]
    _ <= 2 ^ 64 := Nat.pow_le_pow_right (by omega) (by simp only [List.length_cons]; omega)
    _ = 18446744073709551616 := by decide
  rw [shl_byte hb (by omega), bxor_nat p1 p2, show 8 * (j + 1) = 8 * j + 8 by omega, xor_step hb]
  rfl
end Go.Bx
namespace Go.Bx
open Go
set_option linter.unusedSimpArgs false
set_option linter.unusedVariables false
def Oct (l : List Int) : Prop := ∀ b ∈ l, 0 <= b /\ b < 256
theorem Oct.getD {l : List Int} (h : Oct l) (i : Nat) : 0 <= l.getD i 0 /\ l.getD i 0 < 256 := by
 by_cases hi : i < l.length
 ·rw [List.getD_eq_getElem?_getD, List.getElem?_eq_getElem hi]; exact h _ (List.getElem_mem hi)
 ·rw [List.getD_eq_getElem?_getD, List.getElem?_eq_none (by omega)]; simp
def oct8 (b : List Int) (k : Nat) : List Nat := ((b.drop (8 * k)).take 8).map Int.toNat
def lUp (b : List Int) (a : List Int) (k : Nat) : List Int := a.set k (bxor .u64 (a.getD k 0) ((leW (oct8 b k) : Nat) : Int))
def soakN (b : List Int) : Nat -> Nat -> List Int -> List Int
 | 0, _, a => a
 | m + 1, k, a => soakN b m (k + 1) (lUp b a k)
theorem lUp_len (b a : List Int) (k : Nat) : (lUp b a k).length = a.length := by simp [lUp]
theorem soakN_len (b : List Int) : ∀ m k a, (soakN b m k a).length = a.length
 | 0, _, a => rfl
 | m + 1, k, a => (soakN_len b m (k + 1) _).trans (lUp_len _ _ _)
theorem oct8_rng {b : List Int} (h : Oct b) (k : Nat) : ∀ c ∈ oct8 b k, c < 256 := by
 intro c hc
 simp only [oct8, List.mem_map] at hc
 obtain ⟨x, hx, rfl⟩ := hc
 have := h x (List.mem_of_mem_drop (List.mem_of_mem_take hx))
 omega
theorem oct8_len {b : List Int} (hb : b.length = 136) {k : Nat} (hk : k < 17) : (oct8 b k).length = 8 := by
 simp [oct8, hb]; omega
theorem drop_at {α : Type} {l : List α} {i : Nat} (h : i < l.length) (d : α) : l.drop i = l.getD i d :: l.drop (i + 1) := by
 rw [List.drop_eq_getElem_cons h, List.getD_eq_getElem?_getD, List.getElem?_eq_getElem h]; rfl
theorem soak_in {α : Type} (Xt : (List Int × List Int × Int × Unit) -> (List Int × List Int × Int × Unit) -> Option α) (K : Nat) (b : List Int) (hb : b.length = 136) (ho : Oct b) (r : List Int × Int × Unit) (c2 : List Int × List Int × Int × Unit) (k : Nat) (hk : k < 17) : ∀ (m j n : Nat) (a : List Int), m + j = 8 -> a.length = 25 ->
  keccak_soak.l0 K Xt (n + m) b ((8 * k + j : Nat) : Int) (a, r) c2 = keccak_soak.l0 K Xt n b ((8 * k + 8 : Nat) : Int) (a.set k (xorI (a.getD k 0) (((b.drop (8 * k + j)).take m).map Int.toNat) j), r) c2
 | 0, j, n, a, hj, ha => by
  obtain rfl : j = 8 := by omega
  simp only [List.take_zero, List.map_nil, xorI]
  have : a.set k (a.getD k 0) = a := by
   rw [List.getD_eq_getElem?_getD, List.getElem?_eq_getElem (by omega)]; simp
  rw [this]; rfl
 | m + 1, j, n, a, hj, ha => by
  have hg := ho.getD (8 * k + j)
  rw [show n + (m + 1) = (n + m) + 1 by omega]
  simp only [keccak_soak.l0, keccak_soak.l0s]
  have e1 : IntKind.i64.wrap (Int.tdiv ((8 * k + j : Nat) : Int) 8) = (k : Int) := by
   have := i64_tdiv (x := 8 * k + j) (c := 8) (by omega)
   rw [show (8 * k + j) / 8 = k by omega] at this; exact this
  have e2 : Int.tmod ((8 * k + j : Nat) : Int) 8 = (j : Int) := by
   have := tmod_nat (8 * k + j) 8
   rw [show (8 * k + j) % 8 = j by omega] at this; exact this
  have e3 : IntKind.i64.wrap (8 * (j : Int)) = ((8 * j : Nat) : Int) := by
   rw [wrap_i64 (by omega) (by omega)]; omega
  rw [if_pos (by rw [decide_eq_true_eq]; omega), if_pos (by omega), e1, e2, e3, if_pos (by omega), if_pos (by omega), if_pos (by omega), i64_succ (by omega), toNat_nat, toNat_nat]
  rw [wrap_u64 (x := b.getD (8 * k + j) 0) (by omega) (by omega)]
  refine (soak_in Xt K b hb ho r c2 k hk m (j + 1) n _ (by omega) (by simp [ha])).trans ?_
  congr 1
  rw [List.set_set, drop_at (l := b) (i := 8 * k + j) (by omega) 0, List.take_succ_cons, List.map_cons]
  have e4 : (a.set k (bxor .u64 (a.getD k 0) (shlI .u64 (b.getD (8 * k + j) 0) ((8 * j : Nat) : Int)))).getD k 0 = bxor .u64 (a.getD k 0) (shlI .u64 (b.getD (8 * k + j) 0) ((8 * j : Nat) : Int)) := by
   rw [List.getD_eq_getElem?_getD, List.getElem?_set_self (by omega)]; rfl
  rw [e4]
  have e5 : ((Int.toNat (b.getD (8 * k + j) 0) : Nat) : Int) = b.getD (8 * k + j) 0 := by omega
  simp only [xorI]
  rw [e5]
  rfl
theorem soak_loop {α : Type} (Xt : (List Int × List Int × Int × Unit) -> (List Int × List Int × Int × Unit) -> Option α) (K : Nat) (b : List Int) (hb : b.length = 136) (ho : Oct b) (r : List Int × Int × Unit) (c2 : List Int × List Int × Int × Unit) : ∀ (m k n : Nat) (a : List Int), m + k = 17 -> a.length = 25 ->
  keccak_soak.l0 K Xt (n + 1 + 8 * m) b ((8 * k : Nat) : Int) (a, r) c2 = Xt (soakN b m k a, r) c2
 | 0, k, n, a, hk, ha => by
  obtain rfl : k = 17 := by omega
  simp only [Nat.mul_zero, Nat.add_zero, keccak_soak.l0, keccak_soak.l0s]
  rw [if_neg (by decide)]; rfl
 | m + 1, k, n, a, hk, ha => by
  rw [show n + 1 + 8 * (m + 1) = (n + 1 + 8 * m) + 8 by omega]
  have h := soak_in Xt K b hb ho r c2 k (by omega) 8 0 (n + 1 + 8 * m) a rfl ha
  simp only [Nat.add_zero] at h
  rw [h]
  have h8 := oct8_len hb (k := k) (by omega)
  have hx : xorI (a.getD k 0) (((b.drop (8 * k)).take 8).map Int.toNat) 0 = bxor .u64 (a.getD k 0) ((leW (oct8 b k) : Nat) : Int) := by
   show xorI (a.getD k 0) (oct8 b k) 0 = _
   cases hc : oct8 b k with
   | nil => rw [hc] at h8; simp at h8
   | cons c l =>
    rw [xorI_nat bxor_assoc c l 0 _ (by rw [<- hc]; exact oct8_rng ho k) (by rw [<- hc]; omega)]
    simp
  rw [hx]
  exact soak_loop Xt K b hb ho r c2 m (k + 1) n (lUp b a k) (by omega) (by rw [lUp_len]; exact ha)
theorem word_in {α : Type} (Xt : List Int -> Int -> Int -> List Int -> List Int -> Option α) (K : Nat) (b : List Int) (hb : b.length = 136) (ho : Oct b) (c2 c4 : List Int) (k : Nat) (hk : k < 17) : ∀ (m n : Nat), m < n -> m <= 8 ->
  basculeref_soaked.l1 K Xt n b ((8 * k : Nat) : Int) ((leW ((oct8 b k).drop m) : Nat) : Int) ((m : Int) - 1) c2 c4 = Xt b ((8 * k : Nat) : Int) ((leW (oct8 b k) : Nat) : Int) c2 c4
 | m, 0, h, _ => by omega
 | 0, n + 1, h, hm => by
  simp only [basculeref_soaked.l1, basculeref_soaked.l1s]
  rw [if_neg (by rw [decide_eq_true_eq]; omega)]; rfl
 | m + 1, n + 1, h, hm => by
  have h8 := oct8_len hb hk
  have hg := ho.getD (8 * k + m)
  simp only [basculeref_soaked.l1, basculeref_soaked.l1s]
  have e0 : ((m + 1 : Nat) : Int) - 1 = (m : Int) := by omega
  have e1 : IntKind.i64.wrap (((8 * k : Nat) : Int) + (m : Int)) = ((8 * k + m : Nat) : Int) := by
   rw [wrap_i64 (by omega) (by omega)]; omega
  rw [e0, if_pos (by rw [decide_eq_true_eq]; omega), e1, if_pos (by omega), wrap_i64 (x := (m : Int) - 1) (by omega) (by omega), toNat_nat]
  have hl := leW_lt ((oct8 b k).drop (m + 1)) (fun c hc => oct8_rng ho k c (List.mem_of_mem_drop hc))
  rw [List.length_drop, h8] at hl
  have hp : (256 : Nat) ^ (8 - (m + 1)) <= 256 ^ 7 := Nat.pow_le_pow_right (by omega) (by omega)
  have hp7 : (256 : Nat) ^ 7 = 72057594037927936 := by decide
  generalize hW : leW ((oct8 b k).drop (m + 1)) = W at *
  rw [wrap_u64 (x := (W : Int) * 256) (by omega) (by omega), wrap_u64 (x := b.getD (8 * k + m) 0) (by omega) (by omega), wrap_u64 (by omega) (by omega)]
  have e2 : ((W : Int) * 256 + b.getD (8 * k + m) 0) = ((leW ((oct8 b k).drop m) : Nat) : Int) := by
   rw [drop_at (l := oct8 b k) (i := m) (by omega) 0]
   simp only [leW]
   rw [hW]
   have : (oct8 b k).getD m 0 = (b.getD (8 * k + m) 0).toNat := by
    unfold oct8
    rw [List.getD_eq_getElem?_getD, List.getElem?_map, List.getElem?_take_of_lt (by omega), List.getElem?_drop, List.getD_eq_getElem?_getD]
    cases b[8 * k + m]? <;> rfl
   rw [this]; omega
  rw [e2]
  exact word_in Xt K b hb ho c2 c4 k hk m n (by omega) (by omega)
theorem soaked_loop {α : Type} (Xt : List Int -> List Int -> Option α) (K : Nat) (hK : 8 < K) (b : List Int) (hb : b.length = 136) (ho : Oct b) (c4 : List Int) : ∀ (m k n : Nat) (a : List Int), m < n -> m + k = 17 -> a.length = 25 ->
  basculeref_soaked.l0 K Xt n b ((8 * k : Nat) : Int) a c4 = Xt (soakN b m k a) c4
 | m, k, 0, a, h, _, _ => by omega
 | 0, k, n + 1, a, h, hk, ha => by
  obtain rfl : k = 17 := by omega
  simp only [basculeref_soaked.l0, basculeref_soaked.l0s]
  rw [if_neg (by decide)]; rfl
 | m + 1, k, n + 1, a, h, hk, ha => by
  simp only [basculeref_soaked.l0, basculeref_soaked.l0s]
  rw [if_pos (by rw [decide_eq_true_eq]; omega)]
  have h8 := oct8_len hb (k := k) (by omega)
  have hw := word_in (fun x1 x5 x6 c2 c4 => basculeref_soaked.j0 (basculeref_soaked.l0 K Xt n) x1 x5 x6 c2 c4) K b hb ho a c4 k (by omega) 8 K hK (by omega)
  have hz : leW ((oct8 b k).drop 8) = 0 := by rw [List.drop_eq_nil_of_le (by omega)]; rfl
  rw [hz, show ((8 : Nat) : Int) - 1 = 7 from rfl, show ((0 : Nat) : Int) = 0 from rfl] at hw
  rw [hw]
  unfold basculeref_soaked.j0 basculeref_soaked.j1
  have e1 : IntKind.i64.wrap (Int.tdiv ((8 * k : Nat) : Int) 8) = (k : Int) := by
   have := i64_tdiv (x := 8 * k) (c := 8) (by omega)
   rw [show (8 * k) / 8 = k by omega] at this; exact this
  rw [e1, if_pos (by omega), if_pos (by omega), toNat_nat, wrap_i64 (x := ((8 * k : Nat) : Int) + 8) (by omega) (by omega), show ((8 * k : Nat) : Int) + 8 = ((8 * (k + 1) : Nat) : Int) by omega]
  exact soaked_loop Xt K hK b hb ho c4 m (k + 1) n (lUp b a k) (by omega) (by omega) (by rw [lUp_len]; exact ha)
theorem soak_both {a b : List Int} (ha : a.length = 25) (hb : b.length = 136) (ho : Oct b) : ∃ r : List Int, r.length = 25 /\ (∀ N : Int, keccak_soak.run (a, b, N, ()) = some (r, List.replicate 136 0, 0, ())) /\ basculeref_soaked.run a b = some r := by
 obtain ⟨r, h1, h2, h3⟩ := turn_both (l := soakN b 17 0 a) (by rw [soakN_len]; exact ha)
 refine ⟨r, h1, fun N => ?_, ?_⟩
 ·unfold keccak_soak.run keccak_soak.top
  obtain ⟨n, hn⟩ : ∃ n, fuel = n + 1 + 8 * 17 := ⟨fuel - 137, by rw [fuel_big]⟩
  rw [hn]
  have := soak_loop (fun c1 c2 => keccak_soak.j0 (fun c2 => some c2) c1 c2) (n + 1 + 8 * 17) b hb ho (b, N, ()) (List.replicate 25 0, List.replicate 136 0, 0, ()) 17 0 n a rfl ha
  refine Eq.trans this ?_
  unfold keccak_soak.j0
  simp only []
  rw [h2]; rfl
 ·unfold basculeref_soaked.run basculeref_soaked.top
  have := soaked_loop (fun c2 c4 => basculeref_soaked.j2 (fun c4 => some c4) c2 c4) fuel (by rw [fuel_big]; omega) b hb ho (List.replicate 25 0) 17 0 fuel a (by rw [fuel_big]; omega) rfl ha
  refine Eq.trans this ?_
  unfold basculeref_soaked.j2
  rw [h3]; rfl
end Go.Bx
namespace Go.Bx
open Go
set_option linter.unusedSimpArgs false
set_option linter.unusedVariables false
set_option maxRecDepth 100000
abbrev SpD : Type := List Int × List Int × Int × Unit
def badS (h : List Int) (N : Int) : Bool := !(decide (0 <= N) && decide (N < 136) && (h.drop N.toNat).all (fun x => x == 0))
theorem check_loop {α : Type} (Rt : Int -> Option α) (Xt : Option α) (K : Nat) (a h : List Int) (N : Nat) (hN : N < 136) (hh : h.length = 136) (I : Int) : ∀ (m j n : Nat), m < n -> m + j = 136 - N ->
  keccak_check.l0 K Rt Xt n (N : Int) ((136 - N : Nat) : Int) (j : Int) (a, h, I, ()) = if (h.drop (N + j)).all (fun x => x == 0) = true then Xt else Rt 12
 | m, j, 0, hm, _ => by omega
 | 0, j, n + 1, hm, hj => by
  simp only [keccak_check.l0, keccak_check.l0s]
  rw [if_neg (by rw [decide_eq_true_eq]; omega), List.drop_eq_nil_of_le (by omega)]; rfl
 | m + 1, j, n + 1, hm, hj => by
  simp only [keccak_check.l0, keccak_check.l0s]
  rw [if_pos (by rw [decide_eq_true_eq]; omega), if_pos (by omega), show ((N : Int) + (j : Int)) = ((N + j : Nat) : Int) by omega, toNat_nat, i64_succ (by omega), drop_at (l := h) (i := N + j) (by omega) 0, List.all_cons]
  by_cases hz : h.getD (N + j) 0 = 0
  ·rw [hz]
   simp only [bne_self_eq_false, Bool.false_eq_true, if_false, BEq.rfl, Bool.true_and]
   exact check_loop Rt Xt K a h N hN hh I m (j + 1) n (by omega) (by omega)
  ·have h1 : (h.getD (N + j) 0 != 0) = true := by simpa using hz
   have h2 : (h.getD (N + j) 0 == 0) = false := by simpa using hz
   rw [h1, h2]; rfl
theorem check_run (a h : List Int) (N : Int) (hh : h.length = 136) : keccak_check.run (a, h, N, ()) = some (if badS h N = true then 12 else 0) := by
 unfold keccak_check.run keccak_check.top badS
 simp only [cond_or]
 by_cases h0 : 0 <= N /\ N < 136
 ·obtain ⟨M, rfl⟩ := Int.eq_ofNat_of_zero_le h0.1
  have hM : M < 136 := by omega
  rw [if_neg (by simp only [Bool.or_eq_true, decide_eq_true_eq]; omega), if_pos (by omega)]
  have hl : ((cutL h (M : Int) 136).length : Int) = ((136 - M : Nat) : Int) := by
   rw [cutL_length h (by omega) (by omega) (by omega)]; simp
  rw [hl]
  have := check_loop (fun x2 => some x2) (keccak_check.j0 fun x2 => some x2) fuel a h M hM hh (M : Int) (136 - M) 0 fuel (by rw [fuel_big]; omega) rfl
  rw [show ((0 : Nat) : Int) = 0 from rfl] at this
  refine Eq.trans this ?_
  rw [show decide (0 <= (M : Int)) = true by rw [decide_eq_true_eq]; omega, show decide ((M : Int) < 136) = true by rw [decide_eq_true_eq]; omega, toNat_nat, Nat.add_zero]
  cases (h.drop M).all fun x => x == 0 <;> rfl
 ·rw [if_pos (by simp only [Bool.or_eq_true, decide_eq_true_eq]; omega)]
  have : (decide (0 <= N) && decide (N < 136)) = false := by
   rw [Bool.eq_false_iff]; simp only [ne_eq, Bool.and_eq_true, decide_eq_true_eq]; exact h0
  rw [this]; rfl
theorem bad_loop {α : Type} (Rt : Bool -> Option α) (Xt : Option α) (K : Nat) (a h : List Int) (hh : h.length = 136) (I : Int) : ∀ (m j n : Nat), m < n -> m + j = 136 ->
  basculeref_badSponge.l0 K Rt Xt n (j : Int) (a, h, I, ()) = if (h.drop j).all (fun x => x == 0) = true then Xt else Rt true
 | m, j, 0, hm, _ => by omega
 | 0, j, n + 1, hm, hj => by
  simp only [basculeref_badSponge.l0, basculeref_badSponge.l0s]
  rw [if_neg (by rw [decide_eq_true_eq]; omega), List.drop_eq_nil_of_le (by omega)]; rfl
 | m + 1, j, n + 1, hm, hj => by
  simp only [basculeref_badSponge.l0, basculeref_badSponge.l0s]
  rw [if_pos (by rw [decide_eq_true_eq]; omega), if_pos (by omega), toNat_nat, i64_succ (by omega), drop_at (l := h) (i := j) (by omega) 0, List.all_cons]
  by_cases hz : h.getD j 0 = 0
  ·rw [hz]
   simp only [bne_self_eq_false, Bool.false_eq_true, if_false, BEq.rfl, Bool.true_and]
   exact bad_loop Rt Xt K a h hh I m (j + 1) n (by omega) (by omega)
  ·have h1 : (h.getD j 0 != 0) = true := by simpa using hz
   have h2 : (h.getD j 0 == 0) = false := by simpa using hz
   rw [h1, h2]; rfl
theorem bad_run (a h : List Int) (N : Int) (hh : h.length = 136) : basculeref_badSponge.run (a, h, N, ()) = some (badS h N) := by
 unfold basculeref_badSponge.run basculeref_badSponge.top badS
 simp only [cond_or]
 by_cases h0 : 0 <= N /\ N < 136
 ·obtain ⟨M, rfl⟩ := Int.eq_ofNat_of_zero_le h0.1
  rw [if_neg (by simp only [Bool.or_eq_true, decide_eq_true_eq]; omega)]
  have := bad_loop (fun x2 => some x2) (basculeref_badSponge.j0 fun x2 => some x2) fuel a h hh (M : Int) (136 - M) M fuel (by rw [fuel_big]; omega) (by omega)
  refine Eq.trans this ?_
  rw [show decide (0 <= (M : Int)) = true by rw [decide_eq_true_eq]; omega, show decide ((M : Int) < 136) = true by rw [decide_eq_true_eq]; omega, toNat_nat]
  cases (h.drop M).all fun x => x == 0 <;> rfl
 ·rw [if_pos (by simp only [Bool.or_eq_true, decide_eq_true_eq]; omega)]
  have : (decide (0 <= N) && decide (N < 136)) = false := by
   rw [Bool.eq_false_iff]; simp only [ne_eq, Bool.and_eq_true, decide_eq_true_eq]; exact h0
  rw [this]; rfl
def blkT (a b : List Int) : List Int := match basculeref_soaked.run a b with
 | some r => r
 | none => []
theorem blkT_run {a b : List Int} (ha : a.length = 25) (hb : b.length = 136) (ho : Oct b) : (blkT a b).length = 25 /\ (∀ N : Int, keccak_soak.run (a, b, N, ()) = some (blkT a b, List.replicate 136 0, 0, ())) /\ basculeref_soaked.run a b = some (blkT a b) := by
 obtain ⟨r, h1, h2, h3⟩ := soak_both ha hb ho
 unfold blkT
 rw [h3]
 exact ⟨h1, h2, rfl⟩
def absorb : Nat -> List Int -> List Int -> List Int × List Int
 | 0, a, l => (a, l)
 | n + 1, a, l => if 136 <= l.length then absorb n (blkT a (l.take 136)) (l.drop 136) else (a, l)
theorem absorb_more : ∀ (n m : Nat) (a l : List Int), l.length <= n -> l.length <= m -> absorb n a l = absorb m a l
 | 0, 0, _, _, _, _ => rfl
 | 0, m + 1, a, l, h, _ => by rw [absorb, absorb, if_neg (by omega)]
 | n + 1, 0, a, l, _, h => by rw [absorb, absorb, if_neg (by omega)]
 | n + 1, m + 1, a, l, h1, h2 => by
  rw [absorb, absorb]
  by_cases h : 136 <= l.length
  ·rw [if_pos h, if_pos h]; exact absorb_more n m _ _ (by simp; omega) (by simp; omega)
  ·rw [if_neg h, if_neg h]
def ab (a l : List Int) : List Int × List Int := absorb l.length a l
theorem ab_small {a l : List Int} (h : l.length < 136) : ab a l = (a, l) := by
 unfold ab
 cases hl : l.length with
 | zero => rfl
 | succ n => rw [absorb, if_neg (by omega)]
theorem ab_big {a l : List Int} (h : 136 <= l.length) : ab a l = ab (blkT a (l.take 136)) (l.drop 136) := by
 unfold ab
 obtain ⟨n, hn⟩ : ∃ n, l.length = n + 1 := ⟨l.length - 1, by omega⟩
 rw [hn, absorb, if_pos h]
 exact absorb_more _ _ _ _ (by simp; omega) (by simp)
theorem Oct.take {l : List Int} (h : Oct l) (n : Nat) : Oct (l.take n) := fun b hb => h b (List.mem_of_mem_take hb)
theorem Oct.drop {l : List Int} (h : Oct l) (n : Nat) : Oct (l.drop n) := fun b hb => h b (List.mem_of_mem_drop hb)
theorem Oct.append {l m : List Int} (h : Oct l) (g : Oct m) : Oct (l ++ m) := fun b hb => (List.mem_append.1 hb).elim (h b) (g b)
theorem Oct.zeros (n : Nat) : Oct (List.replicate n 0) := fun b hb => by rw [List.eq_of_mem_replicate hb]; decide
theorem ab_ok : ∀ (n : Nat) (a l : List Int), l.length <= n -> a.length = 25 -> Oct l -> (ab a l).1.length = 25 /\ (ab a l).2.length < 136 /\ Oct (ab a l).2
 | n, a, l, h, ha, ho => by
  by_cases hl : 136 <= l.length
  ·rw [ab_big hl]
   match n with
   | 0 => omega
   | n + 1 => exact ab_ok n _ _ (by simp; omega) (blkT_run ha (by simp; omega) (ho.take _)).1 (ho.drop _)
  ·rw [ab_small (by omega)]; exact ⟨ha, (show l.length < 136 by omega), ho⟩
def sp (r : List Int × List Int) : SpD := (r.1, r.2 ++ List.replicate (136 - r.2.length) 0, (r.2.length : Int), ())
theorem add_loop {α : Type} (Xt : SpD -> SpD -> Option α) (K : Nat) (l : List Int) (hl : l.length <= 4611686018427387904) (z : SpD) : ∀ (R P : List Int) (n : Nat) (a p : List Int), R.length < n -> l = P ++ R -> Oct R -> a.length = 25 -> Oct p -> p.length < 136 ->
  keccak_Add.l0 K Xt n l (l.length : Int) (P.length : Int) (sp (a, p)) z = Xt (sp (ab a (p ++ R))) z
 | R, P, 0, a, p, h, _, _, _, _, _ => by omega
 | [], P, n + 1, a, p, h, hc, _, ha, hp, hpl => by
  simp only [keccak_Add.l0, keccak_Add.l0s]
  have : l.length = P.length := by rw [hc]; simp
  rw [if_neg (by rw [decide_eq_true_eq]; omega), List.append_nil, ab_small hpl]
 | c :: R, P, n + 1, a, p, h, hc, hoR, ha, hp, hpl => by
  have hlen : l.length = P.length + (R.length + 1) := by rw [hc]; simp
  have hcR := hoR c (by simp)
  simp only [sp]
  simp only [keccak_Add.l0, keccak_Add.l0s, keccak_Add.j0]
  have hg : l.getD P.length 0 = c := by rw [hc]; simp [List.getD]
  have hset : (p ++ List.replicate (136 - p.length) 0).set p.length c = (p ++ [c]) ++ List.replicate (136 - (p ++ [c]).length) 0 := by
   rw [show 136 - p.length = (136 - (p ++ [c]).length) + 1 by simp; omega, List.replicate_succ]
   simp [List.set_append]
  rw [if_pos (by rw [decide_eq_true_eq]; omega), if_pos (by omega), if_pos (by omega), i64_succ (by omega), i64_succ (by omega), toNat_nat, toNat_nat, hg, hset]
  have hpc : Oct (p ++ [c]) := hp.append fun b hb => by simp only [List.mem_cons, List.not_mem_nil, or_false] at hb; subst hb; exact hcR
  have hlc : (p ++ [c]).length = p.length + 1 := by simp
  have hP : ((P.length + 1 : Nat) : Int) = ((P ++ [c]).length : Int) := by simp
  have happ : p ++ c :: R = (p ++ [c]) ++ R := by simp
  by_cases hf : p.length + 1 = 136
  ·rw [if_pos (by rw [beq_iff_eq]; omega), hlc, show 136 - (p.length + 1) = 0 by omega, List.replicate_zero, List.append_nil]
   obtain ⟨b1, b2, b3⟩ := blkT_run ha (b := p ++ [c]) (by omega) hpc
   rw [b2, Option.bind_some, hP]
   have ih := add_loop Xt K l hl z R (P ++ [c]) n (blkT a (p ++ [c])) [] (by simp at h; omega) (by simp [hc]) (fun b hb => hoR b (List.mem_cons_of_mem _ hb)) b1 (fun b hb => by cases hb) (by simp)
   simp only [sp, List.nil_append, List.length_nil, Nat.sub_zero] at ih
   rw [show ((0 : Nat) : Int) = 0 from rfl] at ih
   rw [ih, happ, ab_big (l := p ++ [c] ++ R) (by simp; omega), List.take_append_of_le_length (by omega), List.take_of_length_le (by omega), List.drop_append_of_le_length (by omega), List.drop_eq_nil_of_le (by omega), List.nil_append]
  ·rw [if_neg (by rw [beq_iff_eq]; omega), hP, show ((p.length + 1 : Nat) : Int) = ((p ++ [c]).length : Int) by rw [hlc]]
   have ih := add_loop Xt K l hl z R (P ++ [c]) n a (p ++ [c]) (by simp at h; omega) (by simp [hc]) (fun b hb => hoR b (List.mem_cons_of_mem _ hb)) ha hpc (by omega)
   simp only [sp] at ih
   rw [ih, happ]
theorem sko_loop {α : Type} (Xt : List Int -> SpD -> List Int -> Option α) (K : Nat) (z : SpD) : ∀ (n : Nat) (l a : List Int), l.length < n -> l.length <= 9223372036854775807 -> Oct l -> a.length = 25 ->
  basculeref_Soaked.l0 K Xt n l z a = Xt (ab a l).2 z (ab a l).1
 | 0, l, a, h, _, _, _ => by omega
 | n + 1, l, a, h, hb, ho, ha => by
  simp only [basculeref_Soaked.l0, basculeref_Soaked.l0s]
  by_cases hl : 136 <= l.length
  ·have hc1 : cutL l 0 136 = l.take 136 := by simp [cutL]
   have hc2 : cutL l 136 (l.length : Int) = l.drop 136 := by
    unfold cutL
    rw [toNat_nat, show Int.toNat 136 = 136 from rfl, List.take_of_length_le (by simp)]
   obtain ⟨b1, b2, b3⟩ := blkT_run ha (b := l.take 136) (by simp; omega) (ho.take _)
   rw [if_pos (by rw [decide_eq_true_eq]; omega), if_pos (by omega), hc1, b3, Option.bind_some, if_pos (by omega), hc2, ab_big hl]
   exact sko_loop Xt K z n _ _ (by simp; omega) (by simp; omega) (ho.drop _) b1
  ·rw [if_neg (by rw [decide_eq_true_eq]; omega), ab_small (by omega)]
theorem out_loop {α : Type} (Xt : SpD -> SpD -> Option α) (K : Nat) (z : SpD) (a l : List Int) (hl : l.length <= 136) : ∀ (R P : List Int) (n : Nat), R.length < n -> l = P ++ R ->
  basculeref_Soaked.l1 K Xt n l (P.length : Int) z (a, P ++ List.replicate (136 - P.length) 0, (l.length : Int), ()) = Xt z (a, l ++ List.replicate (136 - l.length) 0, (l.length : Int), ())
 | R, P, 0, h, _ => by omega
 | [], P, n + 1, h, hc => by
  simp only [basculeref_Soaked.l1, basculeref_Soaked.l1s]
  have : l = P := by rw [hc]; simp
  rw [this, if_neg (by rw [decide_eq_true_eq]; omega)]
 | c :: R, P, n + 1, h, hc => by
  have hlen : l.length = P.length + (R.length + 1) := by rw [hc]; simp
  simp only [basculeref_Soaked.l1, basculeref_Soaked.l1s]
  have hg : l.getD P.length 0 = c := by rw [hc]; simp [List.getD]
  have hset : (P ++ List.replicate (136 - P.length) 0).set P.length c = (P ++ [c]) ++ List.replicate (136 - (P ++ [c]).length) 0 := by
   rw [show 136 - P.length = (136 - (P ++ [c]).length) + 1 by simp; omega, List.replicate_succ]
   simp [List.set_append]
  rw [if_pos (by rw [decide_eq_true_eq]; omega), if_pos (by omega), if_pos (by omega), i64_succ (by omega), toNat_nat, hg, hset]
  have ih := out_loop Xt K z a l hl R (P ++ [c]) n (by simpa using h) (by simp [hc])
  rw [<- ih]; simp
theorem added {a h b : List Int} {N : Int} (ha : a.length = 25) (hh : h.length = 136) (hoh : Oct h) (hob : Oct b) (hbl : b.length <= 4611686018427387904) :
  (badS h N = true -> keccak_Add.run (a, h, N, ()) b = some ((List.replicate 25 0, List.replicate 136 0, 0, ()), 12, ()) /\ basculeref_Soaked.run (a, h, N, ()) b = some ((List.replicate 25 0, List.replicate 136 0, 0, ()), 12, ())) /\
  (∀ p : List Int, p.length < 136 -> N = (p.length : Int) -> h = p ++ List.replicate (136 - p.length) 0 -> badS h N = false -> keccak_Add.run (a, h, N, ()) b = some (sp (ab a (p ++ b)), 0, ()) /\ basculeref_Soaked.run (a, h, N, ()) b = some (sp (ab a (p ++ b)), 0, ())) := by
 unfold keccak_Add.run keccak_Add.top basculeref_Soaked.run basculeref_Soaked.top
 rw [check_run a h N hh, bad_run a h N hh]
 simp only [Option.bind_some]
 constructor
 ·intro hb
  rw [hb]; exact ⟨rfl, rfl⟩
 ·intro p hp hN hhp hb
  rw [hb]
  simp only [Bool.false_eq_true, if_false, bne_self_eq_false]
  subst hhp
  have hop : Oct p := fun x hx => hoh x (List.mem_append_left _ hx)
  constructor
  ·have := add_loop (fun c2 c4 => keccak_Add.j1 (fun x5 c4 => some (c4, x5, ())) c2 c4) fuel b hbl (List.replicate 25 0, List.replicate 136 0, 0, ()) b [] fuel a p (by rw [fuel_big]; omega) rfl hob ha hop hp
   simp only [sp, List.length_nil] at this
   rw [show ((0 : Nat) : Int) = 0 from rfl] at this
   rw [hN, this]; rfl
  ·have hc1 : cutL (cutL (p ++ List.replicate (136 - p.length) 0) 0 136) 0 (p.length : Int) = p := by
    have : cutL (p ++ List.replicate (136 - p.length) (0 : Int)) 0 136 = p ++ List.replicate (136 - p.length) 0 := by
     unfold cutL
     rw [show Int.toNat 0 = 0 from rfl, List.drop_zero, List.take_of_length_le (by rw [hh]; decide)]
    rw [this]; simp [cutL]
   have hc2 : (cutL (p ++ List.replicate (136 - p.length) 0) 0 136).length = 136 := by
    rw [cutL_length _ (by omega) (by omega) (by omega)]; rfl
   simp only [hN]
   rw [hc2, hc1, if_pos (by omega), if_pos (Nat.ble_eq_true_of_le (by omega))]
   have hol := hop.append hob
   rw [sko_loop _ _ _ fuel (p ++ b) a (by rw [fuel_big]; simp; omega) (by simp; omega) hol ha]
   obtain ⟨k1, k2, k3⟩ := ab_ok _ a (p ++ b) (Nat.le_refl _) ha hol
   unfold basculeref_Soaked.j0
   have := out_loop (fun c4 c9 => basculeref_Soaked.j1 (fun x5 c4 => some (c4, x5, ())) c4 c9) fuel (List.replicate 25 0, List.replicate 136 0, 0, ()) (ab a (p ++ b)).1 (ab a (p ++ b)).2 (by omega) (ab a (p ++ b)).2 [] fuel (by rw [fuel_big]; omega) rfl
   simp only [List.nil_append, List.length_nil, Nat.sub_zero] at this
   rw [show ((0 : Nat) : Int) = 0 from rfl] at this
   rw [this]; rfl
theorem oct_fit {l : List Int} (h : ∀ x ∈ l, Fit reachK (.int .u8) x) : Oct l := fun b hb => by
 have : IntKind.u8.min <= b /\ b <= IntKind.u8.max := by simpa [Fit, inR] using h b hb
 rw [show IntKind.u8.min = 0 by decide, show IntKind.u8.max = 255 by decide] at this
 omega
end Go.Bx
namespace Go.Bx
open Go
set_option linter.unusedSimpArgs false
set_option linter.unusedVariables false
set_option maxRecDepth 100000
def sumB (a : List Int) (i : Nat) : Int := IntKind.u8.wrap (shrI .u64 (a.getD (i / 8) 0) ((8 * (i % 8) : Nat) : Int))
def sumL (a : List Int) : List Int := (List.range 32).map (sumB a)
theorem sumL_len (a : List Int) : (sumL a).length = 32 := by simp [sumL]
theorem sum_next (a : List Int) {i m : Nat} (h : m + 1 + i = 32) : ((sumL a).take i ++ List.replicate (m + 1) 0).set i (sumB a i) = (sumL a).take (i + 1) ++ List.replicate m 0 := by
 have hl : ((sumL a).take i).length = i := by rw [List.length_take, sumL_len]; omega
 rw [List.replicate_succ, List.take_add_one, List.getElem?_eq_getElem (by rw [sumL_len]; omega)]
 rw [List.set_append_right _ _ (by omega), hl, Nat.sub_self]
 have : (sumL a)[i]'(by rw [sumL_len]; omega) = sumB a i := by simp [sumL]
 rw [this]; simp
theorem end_loop {α : Type} (Xt : List Int -> List Int -> Option α) (K : Nat) (s : SpD) (z : List Int) : ∀ (m i n : Nat), m < n -> m + i = 32 ->
  keccak_End.l0 K Xt n (i : Int) s z ((sumL s.1).take i ++ List.replicate m 0) = Xt z (sumL s.1)
 | m, i, 0, h, _ => by omega
 | 0, i, n + 1, h, hi => by
  simp only [keccak_End.l0, keccak_End.l0s]
  rw [if_neg (by rw [decide_eq_true_eq]; omega), List.replicate_zero, List.append_nil, List.take_of_length_le (by rw [sumL_len]; omega)]
 | m + 1, i, n + 1, h, hi => by
  simp only [keccak_End.l0, keccak_End.l0s]
  have e1 : IntKind.i64.wrap (Int.tdiv (i : Int) 8) = ((i / 8 : Nat) : Int) := i64_tdiv (x := i) (c := 8) (by omega)
  have e2 : Int.tmod (i : Int) 8 = ((i % 8 : Nat) : Int) := tmod_nat i 8
  have e3 : IntKind.i64.wrap (8 * ((i % 8 : Nat) : Int)) = ((8 * (i % 8) : Nat) : Int) := by rw [wrap_i64 (by omega) (by omega)]; omega
  rw [e1, e2, e3, if_pos (by rw [decide_eq_true_eq]; omega), if_pos (by omega), if_pos (by omega), if_pos (by omega), i64_succ (by omega), toNat_nat, toNat_nat]
  have := sum_next s.1 (i := i) (m := m) hi
  unfold sumB at this
  rw [this]
  exact end_loop Xt K s z m (i + 1) n (by omega) (by omega)
theorem wrung_loop {α : Type} (Xt : List Int -> List Int -> Option α) (K : Nat) (a z : List Int) : ∀ (m i n : Nat), m < n -> m + i = 32 ->
  basculeref_Wrung.l0 K Xt n (i : Int) z a ((sumL a).take i ++ List.replicate m 0) = Xt z (sumL a)
 | m, i, 0, h, _ => by omega
 | 0, i, n + 1, h, hi => by
  simp only [basculeref_Wrung.l0, basculeref_Wrung.l0s]
  rw [if_neg (by rw [decide_eq_true_eq]; omega), List.replicate_zero, List.append_nil, List.take_of_length_le (by rw [sumL_len]; omega)]
 | m + 1, i, n + 1, h, hi => by
  simp only [basculeref_Wrung.l0, basculeref_Wrung.l0s]
  have e1 : IntKind.i64.wrap (Int.tdiv (i : Int) 8) = ((i / 8 : Nat) : Int) := i64_tdiv (x := i) (c := 8) (by omega)
  have e2 : Int.tmod (i : Int) 8 = ((i % 8 : Nat) : Int) := tmod_nat i 8
  have e3 : IntKind.i64.wrap (((i % 8 : Nat) : Int) * 8) = ((8 * (i % 8) : Nat) : Int) := by rw [wrap_i64 (by omega) (by omega)]; omega
  rw [e1, e2, e3, if_pos (by rw [decide_eq_true_eq]; omega), if_pos (by omega), if_pos (by omega), if_pos (by omega), i64_succ (by omega), toNat_nat, toNat_nat]
  have := sum_next a (i := i) (m := m) hi
  unfold sumB at this
  rw [this]
  exact wrung_loop Xt K a z m (i + 1) n (by omega) (by omega)
def padP (p : List Int) : List Int := p ++ 1 :: List.replicate (135 - p.length) 0
def padB (p : List Int) : List Int := (padP p).set 135 (if p.length = 135 then 129 else 128)
theorem padP_len {p : List Int} (h : p.length < 136) : (padP p).length = 136 := by simp [padP]; omega
theorem padB_len {p : List Int} (h : p.length < 136) : (padB p).length = 136 := by simp [padB, padP_len h]
theorem padB_oct {p : List Int} (h : Oct p) : Oct (padB p) := by
 intro b hb
 rcases List.mem_or_eq_of_mem_set hb with hb | hb
 ·rcases List.mem_append.1 hb with hb | hb
  ·exact h b hb
  ·rcases List.mem_cons.1 hb with rfl | hb
   ·decide
   ·rw [List.eq_of_mem_replicate hb]; decide
 ·subst hb; split <;> decide
theorem pad_one {p : List Int} (h : p.length < 136) : (p ++ List.replicate (136 - p.length) 0).set p.length 1 = padP p := by
 rw [show 136 - p.length = (135 - p.length) + 1 by omega, List.replicate_succ]; simp [padP]
theorem pad_last {p : List Int} (h : p.length < 136) : (padP p).getD 135 0 = if p.length = 135 then 1 else 0 := by
 unfold padP
 rw [List.getD_eq_getElem?_getD, List.getElem?_append_right (by omega)]
 by_cases e : p.length = 135
 ·rw [if_pos e, e]; rfl
 ·rw [if_neg e, show 135 - p.length = (134 - p.length) + 1 by omega, List.getElem?_cons_succ, List.getElem?_replicate, if_pos (by omega)]; rfl
theorem ended {a h : List Int} {N : Int} (ha : a.length = 25) (hh : h.length = 136) (hoh : Oct h) :
  (badS h N = true -> keccak_End.run (a, h, N, ()) = some (List.replicate 32 0, 12, ()) /\ basculeref_Wrung.run (a, h, N, ()) = some (List.replicate 32 0, 12, ())) /\
  (∀ p : List Int, p.length < 136 -> N = (p.length : Int) -> h = p ++ List.replicate (136 - p.length) 0 -> badS h N = false -> keccak_End.run (a, h, N, ()) = some (sumL (blkT a (padB p)), 0, ()) /\ basculeref_Wrung.run (a, h, N, ()) = some (sumL (blkT a (padB p)), 0, ())) := by
 unfold keccak_End.run keccak_End.top basculeref_Wrung.run basculeref_Wrung.top
 rw [check_run a h N hh, bad_run a h N hh]
 simp only [Option.bind_some]
 constructor
 ·intro hb
  rw [hb]; exact ⟨rfl, rfl⟩
 ·intro p hp hN hhp hb
  rw [hb]
  simp only [Bool.false_eq_true, if_false, bne_self_eq_false]
  subst hhp
  have hop : Oct p := fun x hx => hoh x (List.mem_append_left _ hx)
  obtain ⟨b1, b2, b3⟩ := blkT_run ha (padB_len hp) (padB_oct hop)
  have hz : (p ++ List.replicate (136 - p.length) 0).getD p.length 0 = 0 := by
   rw [show 136 - p.length = (135 - p.length) + 1 by omega, List.replicate_succ]; simp [List.getD]
  simp only [hN, toNat_nat]
  rw [hz, show bxor .u8 0 1 = 1 by decide, pad_one hp, if_pos (by omega), if_pos (by omega), if_pos (by omega), pad_last hp]
  have v1 : bor .u8 (if p.length = 135 then 1 else 0) 128 = if p.length = 135 then 129 else 128 := by split <;> decide
  have v2 : bxor .u8 (if p.length = 135 then 1 else 0) 128 = if p.length = 135 then 129 else 128 := by split <;> decide
  rw [v1, v2]
  have hc : cutL (padB p) 0 136 = padB p := by
   unfold cutL
   rw [show Int.toNat 0 = 0 from rfl, List.drop_zero, List.take_of_length_le (by rw [padB_len hp]; decide)]
  rw [show (padP p).set 135 (if p.length = 135 then 129 else 128) = padB p from rfl, hc, b3, b2]
  simp only [Option.bind_some]
  have w1 := end_loop (fun c2 c5 => keccak_End.j0 (fun x3 c2 => some (c2, x3, ())) c2 c5) fuel (blkT a (padB p), List.replicate 136 0, 0, ()) (List.replicate 32 0) 32 0 fuel (by rw [fuel_big]; omega) rfl
  have w2 := wrung_loop (fun c2 c6 => basculeref_Wrung.j0 (fun x3 c2 => some (c2, x3, ())) c2 c6) fuel (blkT a (padB p)) (List.replicate 32 0) 32 0 fuel (by rw [fuel_big]; omega) rfl
  simp only [List.take_zero, List.nil_append] at w1 w2
  rw [show ((0 : Nat) : Int) = 0 from rfl] at w1 w2
  rw [w1, w2]
  exact ⟨rfl, rfl⟩
end Go.Bx
namespace Go.Bx
open Go
set_option linter.unusedSimpArgs false
set_option linter.unusedVariables false
set_option maxRecDepth 100000
def kec (b : List Int) : List Int := sumL (blkT (ab (List.replicate 25 0) b).1 (padB (ab (List.replicate 25 0) b).2))
theorem kec_len (b : List Int) : (kec b).length = 32 := sumL_len _
theorem badS_sp {r : List Int × List Int} (h : r.2.length < 136) : badS (r.2 ++ List.replicate (136 - r.2.length) 0) (r.2.length : Int) = false := by
 unfold badS
 rw [toNat_nat, List.drop_append_of_le_length (Nat.le_refl _), List.drop_length, List.nil_append]
 have : (List.replicate (136 - r.2.length) (0 : Int)).all (fun x => x == 0) = true := by
  rw [List.all_eq_true]; intro x hx; rw [List.eq_of_mem_replicate hx]; rfl
 rw [this]
 simp only [Bool.and_true, Bool.not_eq_false', Bool.and_eq_true, decide_eq_true_eq]
 omega
theorem sum_both {b : List Int} (ho : Oct b) (hb : b.length <= 4611686018427387904) : keccak_Sum.run b = some (kec b) /\ basculeref_Hash.run b = some (kec b) := by
 obtain ⟨_, k2⟩ := added (a := List.replicate 25 0) (h := List.replicate 136 0) (N := 0) (by simp) (by simp) (Oct.zeros _) ho hb
 obtain ⟨m1, m2⟩ := k2 [] (by simp) rfl rfl (badS_sp (r := ([], [])) (by simp))
 rw [List.nil_append] at m1 m2
 obtain ⟨z1, z2, z3⟩ := ab_ok _ (List.replicate 25 0) b (Nat.le_refl _) (by simp) ho
 obtain ⟨_, n2⟩ := ended (a := (ab (List.replicate 25 0) b).1) (h := (ab (List.replicate 25 0) b).2 ++ List.replicate (136 - (ab (List.replicate 25 0) b).2.length) 0) (N := ((ab (List.replicate 25 0) b).2.length : Int)) z1 (by rw [List.length_append, List.length_replicate]; omega) (z3.append (Oct.zeros _))
 obtain ⟨q1, q2⟩ := n2 _ z2 rfl rfl (badS_sp z2)
 constructor
 ·unfold keccak_Sum.run keccak_Sum.top keccak_Begin.run keccak_Begin.top
  rw [Option.bind_some, m1, Option.bind_some]
  unfold sp
  simp only []
  rw [q1]; rfl
 ·unfold basculeref_Hash.run basculeref_Hash.top
  rw [m2, Option.bind_some]
  unfold sp
  simp only []
  rw [q2]; rfl
end Go.Bx
namespace Go.Bx
open Go
set_option linter.unusedSimpArgs false
set_option linter.unusedVariables false
set_option maxRecDepth 100000
theorem text4_run (l : List Int) : basculeref_text.run l = some (txt l) := by
 have h8 : ∀ x : Int, basculeref_big.run x 8 = some (be x 8) := fun x => big_run x 8 (by omega)
 unfold basculeref_text.run basculeref_text.top
 simp only [h8, Option.bind_some]
 rw [if_pos (ble_le (by simp [be_len])), if_pos (ble_le (by simp [be_len])), if_pos (ble_le (by simp [be_len]))]
 rfl
def bytA (x : Int) (n : Int) : Int := IntKind.u8.wrap (shrI .u64 x n)
def be8A (x : Int) : List Int := [bytA x 56, bytA x 48, bytA x 40, bytA x 32, bytA x 24, bytA x 16, bytA x 8, bytA x 0]
theorem wideBytes4 (a b c d : Int) : wide_Bytes.run [a, b, c, d] = some (be8A d ++ be8A c ++ be8A b ++ be8A a) := by kernel_rfl
theorem be8A_eq (x : Int) : be8A x = be x 8 := by
 have h : ∀ n : Nat, n <= 64 -> bytA x (n : Int) = byt x n := fun n hn => shr_byt .u64 x n hn
 unfold be8A
 have e0 : bytA x 0 = byt x 0 := h 0 (by decide)
 have e1 : bytA x 8 = byt x 8 := h 8 (by decide)
 have e2 : bytA x 16 = byt x 16 := h 16 (by decide)
 have e3 : bytA x 24 = byt x 24 := h 24 (by decide)
 have e4 : bytA x 32 = byt x 32 := h 32 (by decide)
 have e5 : bytA x 40 = byt x 40 := h 40 (by decide)
 have e6 : bytA x 48 = byt x 48 := h 48 (by decide)
 have e7 : bytA x 56 = byt x 56 := h 56 (by decide)
 rw [e7, e6, e5, e4, e3, e2, e1, e0]
 rfl
theorem wideBytes_run (l : List Int) (h : l.length = 4) : wide_Bytes.run l = some (txt l) := by
 obtain ⟨a, b, c, d, rfl⟩ := four_of_len h
 rw [wideBytes4]
 simp only [be8A_eq]
 rfl
end Go.Bx
namespace Go.Bx
open Go
set_option linter.unusedSimpArgs false
set_option linter.unusedVariables false
set_option maxRecDepth 100000
def keyOf (x y : List Int) : List Int := (kec (txt x ++ txt y)).drop 12
theorem txt_oct (l : List Int) : Oct (txt l) := txt_rng l
theorem key_next (h : List Int) (hh : h.length = 32) {i m : Nat} (hi : m + 1 + i = 20) : ((h.drop 12).take i ++ List.replicate (m + 1) 0).set i (h.getD (12 + i) 0) = (h.drop 12).take (i + 1) ++ List.replicate m 0 := by
 have hl : ((h.drop 12).take i).length = i := by rw [List.length_take, List.length_drop]; omega
 have hd : (h.drop 12).length = 20 := by rw [List.length_drop]; omega
 rw [List.replicate_succ, List.take_add_one, List.getElem?_eq_getElem (by omega)]
 rw [List.set_append_right _ _ (by omega), hl, Nat.sub_self]
 have : (h.drop 12)[i]'(by omega) = h.getD (12 + i) 0 := by
  rw [List.getElem_drop, List.getD_eq_getElem?_getD, List.getElem?_eq_getElem (by omega)]; rfl
 rw [this]; simp
theorem keyOf_loop {α : Type} (Xt : List Int -> List Int -> Option α) (K : Nat) (h z : List Int) (hh : h.length = 32) : ∀ (m i n : Nat), m < n -> m + i = 20 ->
  basculeref_KeyOf.l0 K Xt n (i : Int) z h ((h.drop 12).take i ++ List.replicate m 0) = Xt z (h.drop 12)
 | m, i, 0, hm, _ => by omega
 | 0, i, n + 1, hm, hi => by
  simp only [basculeref_KeyOf.l0, basculeref_KeyOf.l0s]
  rw [if_neg (by rw [decide_eq_true_eq]; omega), List.replicate_zero, List.append_nil, List.take_of_length_le (by rw [List.length_drop]; omega)]
 | m + 1, i, n + 1, hm, hi => by
  simp only [basculeref_KeyOf.l0, basculeref_KeyOf.l0s]
  have e1 : IntKind.i64.wrap (12 + (i : Int)) = ((12 + i : Nat) : Int) := by rw [wrap_i64 (by omega) (by omega)]; omega
  rw [e1, if_pos (by rw [decide_eq_true_eq]; omega), if_pos (by omega), if_pos (by omega), i64_succ (by omega), toNat_nat, toNat_nat, key_next h hh hi]
  exact keyOf_loop Xt K h z hh m (i + 1) n (by omega) (by omega)
theorem key_both {x y : List Int} (f : Bool) (hx : x.length = 4) (hy : y.length = 4) : sign_KeyOf.run (x, y, f, ()) = some (keyOf x y) /\ basculeref_KeyOf.run (x, y, f, ()) = some (keyOf x y) := by
 obtain ⟨s1, s2⟩ := sum_both (b := txt x ++ txt y) ((txt_oct x).append (txt_oct y)) (by rw [List.length_append, txt_len, txt_len]; omega)
 have hk := kec_len (txt x ++ txt y)
 constructor
 ·unfold sign_KeyOf.run sign_KeyOf.top
  rw [wideBytes_run x hx, Option.bind_some, wideBytes_run y hy, Option.bind_some, cutL_all (txt x) 32 (by rw [txt_len]; rfl), cutL_all (txt y) 32 (by rw [txt_len]; rfl), txt_len, txt_len, if_pos ⟨rfl, by decide⟩, s1, Option.bind_some]
  unfold cpyL cutL keyOf
  simp only [show (0 : Int).toNat = 0 from rfl, show (20 : Int).toNat = 20 from rfl, show (12 : Int).toNat = 12 from rfl, show (32 : Int).toNat = 32 from rfl, List.take_zero, List.nil_append, Nat.sub_zero, Nat.zero_add, List.drop_replicate]
  rw [List.take_of_length_le (l := (kec (txt x ++ txt y)).drop 12) (by rw [List.length_drop]; omega), List.take_of_length_le (l := (kec (txt x ++ txt y)).drop 12) (by rw [List.length_drop]; omega), List.length_drop, hk]
  simp
 ·unfold basculeref_KeyOf.run basculeref_KeyOf.top
  rw [text4_run, Option.bind_some, text4_run, Option.bind_some, txt_len, txt_len, if_pos (by decide), s2, Option.bind_some]
  have := keyOf_loop (fun c2 c4 => basculeref_KeyOf.j0 (fun c2 => some c2) c2 c4) fuel (kec (txt x ++ txt y)) (List.replicate 20 0) hk 20 0 fuel (by rw [fuel_big]; omega) rfl
  simp only [List.take_zero, List.nil_append] at this
  rw [show ((0 : Nat) : Int) = 0 from rfl] at this
  rw [this]; rfl
end Go.Bx
namespace Go.Bx
open Go
set_option linter.unusedSimpArgs false
set_option linter.unusedVariables false
theorem needed_loop {α : Type} (Xt : Int -> Option α) (K : Nat) (x : Nat) (hx : x <= 19) : ∀ (m j n : Nat), m < n -> m + j = 2 * x / 3 + 1 ->
  basculeref_Needed.l0 K Xt n (x : Int) (j : Int) = Xt ((2 * x / 3 + 1 : Nat) : Int)
 | m, j, 0, hm, _ => by omega
 | 0, j, n + 1, hm, hj => by
  simp only [basculeref_Needed.l0, basculeref_Needed.l0s]
  rw [wrap_i64 (x := 3 * (j : Int)) (by omega) (by omega), wrap_i64 (x := 2 * (x : Int)) (by omega) (by omega), if_neg (by rw [decide_eq_true_eq]; omega)]
  congr 1; omega
 | m + 1, j, n + 1, hm, hj => by
  simp only [basculeref_Needed.l0, basculeref_Needed.l0s]
  rw [wrap_i64 (x := 3 * (j : Int)) (by omega) (by omega), wrap_i64 (x := 2 * (x : Int)) (by omega) (by omega), if_pos (by rw [decide_eq_true_eq]; omega), i64_succ (by omega)]
  exact needed_loop Xt K x hx m (j + 1) n (by omega) (by omega)
theorem need_both {x : Nat} (hx : x <= 19) : quorum_Need.run (x : Int) = some (((2 * x / 3 + 1 : Nat) : Int), 0, ()) /\ basculeref_Needed.run (x : Int) = some (((2 * x / 3 + 1 : Nat) : Int), 0, ()) := by
 constructor
 ·unfold quorum_Need.run quorum_Need.top
  have e1 : IntKind.i64.wrap (2 * (x : Int)) = ((2 * x : Nat) : Int) := by rw [wrap_i64 (by omega) (by omega)]; omega
  have e2 : IntKind.i64.wrap (Int.tdiv ((2 * x : Nat) : Int) 3) = ((2 * x / 3 : Nat) : Int) := i64_tdiv (x := 2 * x) (c := 3) (by omega)
  rw [cond_or, if_neg (by simp only [Bool.or_eq_true, decide_eq_true_eq]; omega), e1, e2, i64_succ (by omega)]
 ·unfold basculeref_Needed.run basculeref_Needed.top
  rw [cond_or, if_neg (by simp only [Bool.or_eq_true, decide_eq_true_eq]; omega)]
  exact needed_loop _ _ x hx (2 * x / 3 + 1) 0 fuel (by rw [fuel_big]; omega) rfl
end Go.Bx
namespace Go.Bx
open Go Go.Bx.Rg
set_option linter.unusedSimpArgs false
set_option linter.unusedVariables false
set_option maxRecDepth 100000
abbrev SndD : Type := Int × (List Int × List Int × Int × Unit) × Unit
abbrev zSnd : SndD := (0, ([0, 0, 0, 0], [0, 0, 0, 0], 0, ()), ())
theorem getD_last {α : Type} (P : List α) (s d : α) (R : List α) : (P ++ [s] ++ R).getD P.length d = s := by
 simp [List.getD]
theorem quorum_loop {P A B N x y : Int} {f : Bool} (b1 : 0 <= P /\ P < M256) (b2 : 0 <= A /\ A < M256) (b3 : 0 <= B /\ B < M256) (b4 : 0 <= N /\ N < M256) (b5 : 0 <= x /\ x < M256) (b6 : 0 <= y /\ y < M256) {h : List Int} (hh : h.length = 32) (ho : Oct h) (K : Nat) (S : _)
  (l : List SndD) (hl : l.length <= 9223372036854775807) (hf : ∀ s ∈ l, Fit reachK SgTy s.2.1) : ∀ (R Q : List SndD) (n : Nat) (last : Int), R.length < n -> l = Q ++ R -> (Q = [] -> last = -1) -> (∀ Q' s, Q = Q' ++ [s] -> last = s.1) ->
  ∃ e, quorum_Check.l0 K (fun x8 => some x8) (quorum_Check.j0 (fun x8 => some x8)) n (S.2.1.length : Int) last l (l.length : Int) (Q.length : Int) (mk P, mk A, mk B, mk N, (mk x, mk y, f, ()), ()) S h = some e /\
   basculeref_QuorumFault.l0 K (fun x8 => some x8) (basculeref_QuorumFault.j0 (fun x8 => some x8)) n l l (l.length : Int) (Q.length : Int) (mk P, mk A, mk B, mk N, (mk x, mk y, f, ()), ()) S h = some e
 | R, Q, 0, last, hn, _, _, _ => by omega
 | [], Q, n + 1, last, hn, hc, _, _ => by
  simp only [quorum_Check.l0, quorum_Check.l0s, basculeref_QuorumFault.l0, basculeref_QuorumFault.l0s]
  have : l.length = Q.length := by rw [hc]; simp
  rw [if_neg (by rw [decide_eq_true_eq]; omega), if_neg (by rw [decide_eq_true_eq]; omega)]
  exact ⟨_, rfl, rfl⟩
 | s :: R, Q, n + 1, last, hn, hc, h1, h2 => by
  have hlen : l.length = Q.length + (R.length + 1) := by rw [hc]; simp
  have hg : l.getD Q.length zSnd = s := by rw [hc]; exact getD_at _ _ _ _
  simp only [quorum_Check.l0, quorum_Check.l0s, basculeref_QuorumFault.l0, basculeref_QuorumFault.l0s]
  have c1 : decide ((Q.length : Int) < (l.length : Int)) = true := by rw [decide_eq_true_eq]; omega
  have c2 : 0 <= (Q.length : Int) /\ (Q.length : Int) < (l.length : Int) := by omega
  rw [if_pos c1, if_pos c2, if_pos c1, if_pos c2, toNat_nat, hg]
  simp only [cond_or]
  by_cases hw : 0 <= s.1 /\ s.1 < (S.2.1.length : Int)
  ·rw [if_neg (show ¬ (decide (s.1 < 0) || decide (s.1 >= (S.2.1.length : Int))) = true by simp only [Bool.or_eq_true, decide_eq_true_eq]; omega), if_neg (show ¬ (decide (s.1 < 0) || decide (s.1 >= (S.2.1.length : Int))) = true by simp only [Bool.or_eq_true, decide_eq_true_eq]; omega)]
   have hlast : (cond (decide ((Q.length : Int) > 0)) (decide (s.1 <= (l.getD (Int.toNat (IntKind.i64.wrap ((Q.length : Int) - 1))) zSnd).1)) false) = decide (s.1 <= last) := by
    rcases List.eq_nil_or_concat Q with rfl | ⟨Q', t, rfl⟩
    ·rw [h1 rfl]
     rw [show decide ((([] : List SndD).length : Int) > 0) = false from rfl, cond_false]
     rw [eq_comm, decide_eq_false_iff_not]; omega
    ·rw [List.concat_eq_append] at hc h2 hlen ⊢
     have hq : (Q' ++ [t]).length = Q'.length + 1 := by simp
     rw [h2 Q' t rfl, hq, show decide (((Q'.length + 1 : Nat) : Int) > 0) = true by rw [decide_eq_true_eq]; omega, cond_true, wrap_i64 (by omega) (by omega)]
     rw [show Int.toNat (((Q'.length + 1 : Nat) : Int) - 1) = Q'.length by omega, hc, getD_last]
   have hin : (decide (0 <= IntKind.i64.wrap ((Q.length : Int) - 1) /\ IntKind.i64.wrap ((Q.length : Int) - 1) < (l.length : Int)) || !((decide ((Q.length : Int) > 0)) == true)) = true := by
    rw [wrap_i64 (by omega) (by omega)]
    by_cases h0 : (Q.length : Int) > 0
    ·rw [Bool.or_eq_true]; left; rw [decide_eq_true_eq]; omega
    ·rw [Bool.or_eq_true]; right; simpa using h0
   rw [hin, hlast, cond_true]
   by_cases hle : s.1 <= last
   ·rw [if_pos (by simpa using hle), if_pos (by simpa using hle)]
    exact ⟨_, rfl, rfl⟩
   ·rw [if_neg (by simpa using hle), if_neg (by simpa using hle)]
    obtain ⟨Rn, Sn, o, hsg, hR, hS⟩ := sg_num s.2.1 (hf s (by rw [hc]; simp))
    obtain ⟨q, e, r1, r2, r3⟩ := recover_both (f := f) (o := o) b1 b2 b3 b4 b5 b6 hR hS hh ho
    rw [hsg, r1, r2]
    simp only [Option.bind_some]
    by_cases he : e = 0
    ·subst he
     obtain ⟨k1, k2⟩ := key_both q.2.2.1 r3.1.1 r3.2.1
     rw [show (q.1, q.2.1, q.2.2.1, ()) = q from rfl] at k1 k2
     simp only [bne_self_eq_false, Bool.false_eq_true, if_false]
     rw [k1, k2]
     simp only [Option.bind_some]
     rw [if_pos hw, if_pos hw]
     cases hk : (not (beqD (.arr 20 (.int .u8)) (keyOf q.1 q.2.1) (List.getD S.2.1 (Int.toNat s.1) (List.replicate 20 0)))) with
     | true => exact ⟨_, rfl, rfl⟩
     | false =>
      simp only [Bool.false_eq_true, if_false]
      rw [i64_succ (by omega)]
      have ih := quorum_loop (f := f) b1 b2 b3 b4 b5 b6 hh ho K S l hl hf R (Q ++ [s]) n s.1 (by simpa using hn) (by simp [hc]) (fun h => by simp at h) (fun Q' t ht => by
       have := List.append_inj_right' ht rfl
       simp at this; rw [this])
      rw [List.length_append] at ih
      exact ih
    ·rw [if_pos (by simpa using he), if_pos (by simpa using he)]
     exact ⟨_, rfl, rfl⟩
  ·rw [if_pos (show (decide (s.1 < 0) || decide (s.1 >= (S.2.1.length : Int))) = true by simp only [Bool.or_eq_true, decide_eq_true_eq]; omega), if_pos (show (decide (s.1 < 0) || decide (s.1 >= (S.2.1.length : Int))) = true by simp only [Bool.or_eq_true, decide_eq_true_eq]; omega)]
   exact ⟨_, rfl, rfl⟩
theorem law_QuorumChecks (x : basculelaw_QuorumChecks.F.ps.den) (h : Fit reachK basculelaw_QuorumChecks.F.ps x) : basculelaw_QuorumChecks.run x.1 x.2.1 x.2.2.1 x.2.2.2.1 = some true := by
 obtain ⟨c, S, hs, l, ⟨⟩⟩ := x
 obtain ⟨hc, _, ⟨hh, ho⟩, ⟨_, hl, hf⟩, _⟩ := h
 obtain ⟨P, A, B, N, x, y, f, rfl, b1, b2, b3, b4, b5, b6⟩ := cv_num c hc
 obtain ⟨e1, e2⟩ := curve_both f b1 b2 b3 b4 b5 b6
 have : ∃ e, quorum_Check.run (mk P, mk A, mk B, mk N, (mk x, mk y, f, ()), ()) S hs l = some e /\ basculeref_QuorumFault.run (mk P, mk A, mk B, mk N, (mk x, mk y, f, ()), ()) S hs l = some e := by
  unfold quorum_Check.run quorum_Check.top basculeref_QuorumFault.run basculeref_QuorumFault.top
  rw [e1, e2]
  simp only [Option.bind_some, cond_or]
  rcases curveE_or P A B N x y f with h0 | h0
  ·rw [h0]
   simp only [bne_self_eq_false, Bool.false_eq_true, if_false]
   by_cases hk : 1 <= S.2.1.length /\ S.2.1.length <= 19
   ·obtain ⟨n1, n2⟩ := need_both hk.2
    rw [if_neg (show ¬ (decide ((S.2.1.length : Int) < 1) || decide ((S.2.1.length : Int) > 19)) = true by simp only [Bool.or_eq_true, decide_eq_true_eq]; omega), if_neg (show ¬ (((S.2.1.length : Int) == 0) || decide ((S.2.1.length : Int) > 19)) = true by simp only [Bool.or_eq_true, beq_iff_eq, decide_eq_true_eq]; omega), n1, n2]
    simp only [Option.bind_some]
    by_cases hx : (l.length : Int) < ((2 * S.2.1.length / 3 + 1 : Nat) : Int)
    ·rw [if_pos (by simpa using hx), if_pos (by simpa using hx)]
     exact ⟨_, rfl, rfl⟩
    ·rw [if_neg (by simpa using hx), if_neg (by simpa using hx)]
     have hl' : l.length <= 9223372036854775807 := hl
     exact quorum_loop b1 b2 b3 b4 b5 b6 hh (oct_fit ho) fuel S l hl' (fun s hs => (hf s hs).2.1) l [] fuel (-1) (by rw [fuel_big]; omega) rfl (fun _ => rfl) (fun Q' s h => by simp at h)
   ·rw [if_pos (show (decide ((S.2.1.length : Int) < 1) || decide ((S.2.1.length : Int) > 19)) = true by simp only [Bool.or_eq_true, decide_eq_true_eq]; omega), if_pos (show (((S.2.1.length : Int) == 0) || decide ((S.2.1.length : Int) > 19)) = true by simp only [Bool.or_eq_true, beq_iff_eq, decide_eq_true_eq]; omega)]
    exact ⟨_, rfl, rfl⟩
  ·rw [h0]; exact ⟨_, rfl, rfl⟩
 obtain ⟨e, m1, m2⟩ := this
 show basculelaw_QuorumChecks.run (mk P, mk A, mk B, mk N, (mk x, mk y, f, ()), ()) S hs l = some true
 unfold basculelaw_QuorumChecks.run basculelaw_QuorumChecks.top
 rw [m1, m2]
 simp
end Go.Bx
