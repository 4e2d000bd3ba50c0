/- A part of a framework that reads Go code as functions of plain data; or a law about such functions. -/
import Derived.Test.YtbkkahkikjifkaaLawSum2
import Derived.Test.YtbkkahkikjifkaaLawFormed
import Derived.Test.YtbkkahkikjifkaaLawWid
import Derived.Test.YtbkkahkikjifkaaFnSignChecks1
namespace Go.Bx
open Go Go.Bx.Rg
set_option linter.unusedSimpArgs false
set_option linter.unusedVariables false
theorem check_both {P A B N x y R S o qx qy : Int} {f qf : Bool} {h : List Int} (b1 : 0 <= P /\ P < M256) (b2 : 0 <= A /\ A < M256) (b3 : 0 <= B /\ B < M256) (b4 : 0 <= N /\ N < M256) (b5 : 0 <= x /\ x < M256) (b6 : 0 <= y /\ y < M256)
  (q1 : 0 <= qx /\ qx < M256) (q2 : 0 <= qy /\ qy < M256) (hR : 0 <= R /\ R < M256) (hS : 0 <= S /\ S < M256) (hh : h.length = 32) (ho : ∀ b ∈ h, 0 <= b /\ b < 256) :
  ∃ e, sign_Check.run (mk P, mk A, mk B, mk N, (mk x, mk y, f, ()), ()) (mk qx, mk qy, qf, ()) h (mk R, mk S, o, ()) = some e /\ basculeref_SignFault.run (mk P, mk A, mk B, mk N, (mk x, mk y, f, ()), ()) (mk qx, mk qy, qf, ()) h (mk R, mk S, o, ()) = some e := by
 obtain ⟨e1, e2⟩ := curve_both f b1 b2 b3 b4 b5 b6
 unfold sign_Check.run sign_Check.top basculeref_SignFault.run basculeref_SignFault.top curve_On.run curve_On.top basculeref_OnFault.run basculeref_OnFault.top
 rw [e1, e2]
 simp only [Option.bind_some]
 rcases curveE_or P A B N x y f with h0 | h0
 ·obtain ⟨g1, g2, g3, g4⟩ := curveE_ok h0
  obtain ⟨o1, of, oN⟩ := curveE_on h0
  have hM : 1 < P /\ P < M256 := ⟨by omega, b1.2⟩
  have hN : 1 < N /\ N < M256 := ⟨oN, b4.2⟩
  have mN := modIn hN
  obtain ⟨n1, n2⟩ := on_both hM ⟨b2.1, g3⟩ ⟨b3.1, g4⟩ (mk N) (mk x, mk y, f, ()) qf q1 q2
  rw [h0, n1, n2]
  simp only [bne_self_eq_false, Bool.false_eq_true, if_false, BEq.rfl, if_true, Option.bind_some, cond_false]
  cases hq : onB P A B qx qy qf with
  | false => exact ⟨_, rfl, rfl⟩
  | true =>
   simp only [Bool.not_true, Bool.false_eq_true, if_false, Option.bind_some, bne_self_eq_false]
   cases qf with
   | true => exact ⟨_, rfl, rfl⟩
   | false =>
    obtain ⟨m1, m2⟩ := formed_both (o := o) (mk P) (mk A) (mk B) (mk x, mk y, f, ()) hN hR hS
    simp only [BEq.rfl, if_true, cond_false]
    rw [m1, m2]
    simp only [Option.bind_some]
    cases hf : formB R S N o with
    | false => exact ⟨_, rfl, rfl⟩
    | true =>
     simp only [Bool.not_true, Bool.false_eq_true, if_false]
     obtain ⟨kR, kS, _⟩ := formB_ok hR.1 hS.1 hf
     have kR' : 0 <= R /\ R < N := ⟨hR.1, kR.2⟩
     obtain ⟨v, e, ok, w, i1, i2, i3, i4⟩ := invF hN (a := S) ⟨hS.1, kS.2⟩
     rw [i1, i2]
     simp only [Option.bind_some]
     cases ok with
     | false => rw [i4 rfl]; exact ⟨_, rfl, rfl⟩
     | true =>
      obtain ⟨rfl, rfl, hv⟩ := i3 rfl
      simp only [bne_self_eq_false, Bool.false_eq_true, if_false, Bool.not_true]
      obtain ⟨w1, w2, wb⟩ := wid_ok hh ho
      rw [w1, w2]
      simp only [Option.bind_some]
      rw [restP hN wb, Option.bind_some, ofR hN wb, fmulN hN (mN _) hv, Option.bind_some, productN hN (mN _) hv, Option.bind_some, fmulN hN kR' hv, Option.bind_some, productN hN kR' hv, Option.bind_some]
      have pb : PtOk P ((mk x, mk y, f, ()) : PtD) := pt_on hM o1 b5 b6
      have pq : PtOk P ((mk qx, mk qy, false, ()) : PtD) := pt_on hM hq q1 q2
      have vb : OnV P A B ((mk x, mk y, f, ()) : PtD) := by
       unfold OnV; simp only []; rw [mk_val b5, mk_val b6]; exact o1
      have vq : OnV P A B ((mk qx, mk qy, false, ()) : PtD) := by
       unfold OnV; simp only []; rw [mk_val q1, mk_val q2]; exact hq
      obtain ⟨s, t, e, ok, s1, s2, s3, s4⟩ := sum2_full b1 b2 b3 b4 b5 b6 h0 (u := val B64 (wid h) % N * v % N) (v := R * v % N) pb pq vb vq
      rw [s1, s2]
      simp only [Option.bind_some]
      cases ok with
      | false => rw [s4 rfl]; exact ⟨_, rfl, rfl⟩
      | true =>
       obtain ⟨rfl, rfl, ⟨X, Y, F, rfl, hX, hY⟩, _⟩ := s3 rfl
       simp only [bne_self_eq_false, Bool.false_eq_true, if_false, Bool.not_true]
       cases F with
       | true => exact ⟨_, rfl, rfl⟩
       | false =>
        have hX' : 0 <= X /\ X < M256 := ⟨hX.1, by omega⟩
        simp only [BEq.rfl, if_true, cond_false]
        rw [restP hN hX', Option.bind_some, ofR hN hX', beqU ⟨(mN _).1, by have := (mN X).2; omega⟩ hR]
        cases decide (X % N = R) <;> exact ⟨_, rfl, rfl⟩
 ·rw [h0]; exact ⟨_, rfl, rfl⟩
end Go.Bx
