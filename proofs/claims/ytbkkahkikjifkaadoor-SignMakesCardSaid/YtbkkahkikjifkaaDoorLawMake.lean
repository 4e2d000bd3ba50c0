/- A part of a framework that reads Go code as functions of plain data; or a law about such functions. -/
import Derived.Test.YtbkkahkikjifkaaDoorLawNonce
import Derived.Test.YtbkkahkikjifkaaDoorFnSignMakes1
namespace Go.Bx
open Go Go.Bx.Rg
set_option linter.unusedSimpArgs false
set_option linter.unusedVariables false
set_option maxRecDepth 100000
theorem make_loop {P A B N x y z D : Int} {f : Bool} (b1 : 0 <= P /\ P < M256) (b2 : 0 <= A /\ A < M256) (b3 : 0 <= B /\ B < M256) (b4 : 0 <= N /\ N < M256) (b5 : 0 <= x /\ x < M256) (b6 : 0 <= y /\ y < M256)
  (h0 : curveE P A B N x y f = 0) (hz : 0 <= z /\ z < N) (hD : 0 <= D /\ D < N) {h : List Int} (hh : h.length = 32) (ho : Oct h) (K L : Nat) : ∀ (m i n : Nat), m < n -> m + i = 272 ->
  ∃ s e, sign_Make.l0 K (fun x7 c6 => some (c6, x7, ())) (fun c6 => sign_Make.j0 (fun x7 c6 => some (c6, x7, ())) c6) n (i : Int) (mk P, mk A, mk B, mk N, (mk x, mk y, f, ()), ()) (mk D) h zSg (mk z) = some (s, e, ()) /\
   basculeref_Signed.l0 L (fun x7 c6 => some (c6, x7, ())) (fun c6 => basculeref_Signed.j4 (fun x7 c6 => some (c6, x7, ())) c6) n (i : Int) (mk P, mk A, mk B, mk N, (mk x, mk y, f, ()), ()) (mk D) h zSg (mk z) = some (s, e, ())
 | m, i, 0, hm, _ => by omega
 | 0, i, n + 1, hm, hi => by
  simp only [sign_Make.l0, sign_Make.l0s, basculeref_Signed.l0, basculeref_Signed.l0s]
  rw [if_neg (by rw [decide_eq_true_eq]; omega), if_neg (by rw [decide_eq_true_eq]; omega)]
  exact ⟨_, _, rfl, rfl⟩
 | m + 1, i, n + 1, hm, hi => by
  have hN : 1 < N /\ N < M256 := ⟨(curveE_on h0).2.2, b4.2⟩
  rw [nonce_ref hN hh ho _ _ _ _ _ _ _ _ _ _ (by omega)]
  simp only [sign_Make.l0, sign_Make.l0s]
  rw [if_pos (by rw [decide_eq_true_eq]; omega), nonce_prog hN hh ho _ _ _ _ (by omega), Option.bind_some]
  rcases try_both b1 b2 b3 b4 b5 b6 h0 hz (nonceN_in (D := D) (h := h) hN i) hD (basculeref_Signed.l0 L (fun x7 c6 => some (c6, x7, ())) (fun c6 => basculeref_Signed.j4 (fun x7 c6 => some (c6, x7, ())) c6) n) (fun x7 c6 => some (c6, x7, ())) (i : Int) h zSg with ⟨s, t1, t2⟩ | ⟨s, b, t1, t2⟩ | ⟨s, t1, t2⟩
  ·rw [t1, t2]
   unfold basculeref_Signed.j1
   simp only [Option.bind_some, bne_self_eq_false, Bool.false_eq_true, if_false]
   rw [i64_succ (by omega)]
   exact make_loop b1 b2 b3 b4 b5 b6 h0 hz hD hh ho K L m (i + 1) n (by omega) (by omega)
  ·rw [t1, t2]
   exact ⟨_, _, rfl, rfl⟩
  ·rw [t1, t2]
   exact ⟨_, _, rfl, rfl⟩
theorem make_both {P A B N x y D : Int} {f : Bool} (b1 : 0 <= P /\ P < M256) (b2 : 0 <= A /\ A < M256) (b3 : 0 <= B /\ B < M256) (b4 : 0 <= N /\ N < M256) (b5 : 0 <= x /\ x < M256) (b6 : 0 <= y /\ y < M256) (hD : 0 <= D /\ D < M256) {h : List Int} (hh : h.length = 32) (ho : Oct h) :
  ∃ s e, sign_Make.run (mk P, mk A, mk B, mk N, (mk x, mk y, f, ()), ()) (mk D) h = some (s, e, ()) /\ basculeref_Signed.run (mk P, mk A, mk B, mk N, (mk x, mk y, f, ()), ()) (mk D) h = some (s, e, ()) := by
 obtain ⟨e1, e2⟩ := curve_both f b1 b2 b3 b4 b5 b6
 obtain ⟨s1, s2⟩ := secret_both (mk P) (mk A) (mk B) (mk x, mk y, f, ()) hD b4
 unfold sign_Make.run sign_Make.top basculeref_Signed.run basculeref_Signed.top
 rw [e1, e2]
 simp only [Option.bind_some]
 rcases curveE_or P A B N x y f with h0 | h0
 ·rw [h0, s1, s2]
  simp only [Option.bind_some, bne_self_eq_false, Bool.false_eq_true, if_false]
  cases hs : secB D N with
  | false => exact ⟨_, _, rfl, rfl⟩
  | true =>
   simp only [Bool.not_true, Bool.false_eq_true, if_false]
   have hN : 1 < N /\ N < M256 := ⟨(curveE_on h0).2.2, b4.2⟩
   obtain ⟨f1, f2, fb⟩ := wid_ok hh ho
   rw [f1, f2, Option.bind_some, Option.bind_some, restP hN fb, Option.bind_some, ofR hN fb]
   have hDN : D < N := by
    unfold secB at hs
    simp only [Bool.and_eq_true, decide_eq_true_eq] at hs
    exact hs.2
   exact make_loop b1 b2 b3 b4 b5 b6 h0 (modIn hN _) ⟨hD.1, hDN⟩ hh ho fuel fuel 272 0 fuel (by rw [fuel_big]; omega) rfl
 ·rw [h0]; exact ⟨_, _, rfl, rfl⟩
end Go.Bx
