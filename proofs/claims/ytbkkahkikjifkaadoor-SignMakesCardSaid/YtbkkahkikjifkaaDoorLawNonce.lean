/- A part of a framework that reads Go code as functions of plain data; or a law about such functions. -/
import Derived.Test.YtbkkahkikjifkaaDoorLawTry
import Derived.Test.YtbkkahkikjifkaaDoorLawSum
import Derived.Test.YtbkkahkikjifkaaDoorLawBytes
import Derived.Test.YtbkkahkikjifkaaDoorLawWid
import Derived.Test.YtbkkahkikjifkaaDoorFnSignMakes1
namespace Go.Bx
open Go Go.Bx.Rg
set_option linter.unusedSimpArgs false
set_option linter.unusedVariables false
set_option maxRecDepth 100000
def nonceT (D : Int) (h : List Int) (i : Nat) : List Int := txt (mk D) ++ h ++ [(i : Int)]
def nonceN (N D : Int) (h : List Int) (i : Nat) : Int := if i < 256 then val B64 (wid (kec (nonceT D h i))) % N else ((i : Int) - 255) % N
theorem txtO (l : List Int) : Oct (txt l) := txt_rng l
theorem nonceT_ok {D : Int} {h : List Int} (hh : h.length = 32) (ho : Oct h) {i : Nat} (hi : i < 256) : Oct (nonceT D h i) /\ (nonceT D h i).length = 65 := by
 unfold nonceT
 refine ⟨((txtO _).append ho).append fun b hb => ?_, by simp [txt_len, hh]⟩
 simp only [List.mem_cons, List.not_mem_nil, or_false] at hb
 subst hb; omega
section
variable {N D : Int} (hN : 1 < N /\ N < M256) {h : List Int} (hh : h.length = 32) (ho : Oct h) (P A B : List Int) (q : PtD)
include hN
theorem small_w {n : Int} (hn : 0 <= n /\ n < 18446744073709551616) : ([n, 0, 0, 0] : List Int) = mk n := by
 unfold mk
 rw [Int.emod_eq_of_lt hn.1 hn.2, Int.ediv_eq_zero_of_lt hn.1 hn.2]
 simp
theorem nonceN_in (i : Nat) : 0 <= nonceN N D h i /\ nonceN N D h i < N := by
 unfold nonceN
 split <;> exact modIn hN _
include hh ho
theorem nonce_prog {i : Nat} (hi : i < 272) : sign_nonce.run (P, A, B, mk N, q, ()) (mk D) h (i : Int) = some (mk (nonceN N D h i)) := by
 unfold sign_nonce.run sign_nonce.top nonceN
 simp only []
 by_cases h1 : i < 256
 ·obtain ⟨t1, t2⟩ := nonceT_ok (D := D) hh ho h1
  obtain ⟨s1, _⟩ := sum_both t1 (by omega)
  obtain ⟨f1, _, fb⟩ := wid_ok (kec_len (nonceT D h i)) (kec_oct _)
  rw [if_neg (by rw [decide_eq_true_eq]; omega), if_pos h1, wideBytes_run _ (mk_w D).1, Option.bind_some, cutL_all (txt (mk D)) 32 (by rw [txt_len]; rfl), cutL_all h 32 (by rw [hh]; rfl), txt_len, hh, if_pos ⟨trivial, by decide⟩, if_pos (fitB_small (by rw [List.length_append, txt_len, hh]; omega) (by omega)), wrap_u8 (by omega) (by omega)]
  rw [show txt (mk D) ++ h ++ [(i : Int)] = nonceT D h i from rfl, s1, Option.bind_some, f1, Option.bind_some, restP hN fb]
  rfl
 ·rw [if_pos (by rw [decide_eq_true_eq]; omega), if_neg h1]
  rw [wrap_i64 (x := (i : Int) - 256) (by omega) (by omega), wrap_i64 (by omega) (by omega), wrap_u64 (by omega) (by omega), show (i : Int) - 256 + 1 = (i : Int) - 255 by omega, small_w hN (by omega), restP hN ⟨by omega, by rw [show M256 = 115792089237316195423570985008687907853269984665640564039457584007913129639936 from rfl]; omega⟩]
  rfl
theorem nonce_ref {α : Type} (Rt : Int -> SgD -> Option α) (Xt : SgD -> Option α) (K n : Nat) (zs : SgD) (z : List Int) {i : Nat} (hi : i < 272) :
  basculeref_Signed.l0 K Rt Xt (n + 1) (i : Int) (P, A, B, mk N, q, ()) (mk D) h zs z = basculeref_Signed.j0 (basculeref_Signed.l0 K Rt Xt n) Rt (i : Int) (P, A, B, mk N, q, ()) (mk D) h zs z (mk (nonceN N D h i)) := by
 simp only [basculeref_Signed.l0, basculeref_Signed.l0s]
 unfold nonceN
 have hmx : (if (255 : Int) > (i : Int) then (255 : Int) else (i : Int)) - 255 = ((i - 255 : Nat) : Int) := by split <;> omega
 have hd : ∀ n : Nat, n < 1000 -> digs B32 [(n : Int)] := fun n hn => digs1 (by omega)
 rw [if_pos (by rw [decide_eq_true_eq]; omega), hmx, wrap_i64 (by omega) (by omega), wrap_u64 (by omega) (by omega), restR hN (hd _ (by omega)) (by simp), Option.bind_some]
 by_cases h1 : i < 256
 ·obtain ⟨t1, t2⟩ := nonceT_ok (D := D) hh ho h1
  obtain ⟨_, s1⟩ := sum_both t1 (by omega)
  obtain ⟨_, f1, fb⟩ := wid_ok (kec_len (nonceT D h i)) (kec_oct _)
  have hb : basculeref_big.run (i : Int) 1 = some [(i : Int)] := by
   have := big_run (i : Int) 1 (by omega)
   rw [show ((1 : Nat) : Int) = 1 from rfl] at this
   rw [this]
   simp only [be, byt]
   have : (i : Int) / 2 ^ (8 * 0) % 256 = (i : Int) := by simp; omega
   rw [this]
  rw [if_pos (by rw [decide_eq_true_eq]; omega), if_pos h1, text4_run, Option.bind_some, cutL_all h 32 (by rw [hh]; rfl), txt_len, hh, if_pos (by decide), wrap_u64 (x := (i : Int)) (by omega) (by omega), hb, Option.bind_some, if_pos (ble_le (by rw [List.length_append, txt_len, hh]; simp))]
  rw [show txt (mk D) ++ h ++ [(i : Int)] = nonceT D h i from rfl, s1, Option.bind_some, f1, Option.bind_some, ofR hN fb]
 ·rw [if_neg (by rw [decide_eq_true_eq]; omega), if_neg h1]
  have : val B32 [((i - 255 : Nat) : Int)] = (i : Int) - 255 := by simp [val]; omega
  rw [this]
end
end Go.Bx
