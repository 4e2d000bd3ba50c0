/- A part of a framework that reads Go code as functions of plain data; or a law about such functions. -/
import Derived.Test.YtbkkahkikjifkaaDoorLawPen
import Derived.Test.YtbkkahkikjifkaaDoorLawSum
import Derived.Test.YtbkkahkikjifkaaDoorFnBodyWrites0
namespace Go.Bx
open Go
set_option linter.unusedSimpArgs false
set_option linter.unusedVariables false
set_option maxRecDepth 100000
theorem be_oct (x : Int) (k : Nat) : Oct (be x k) := be_rng x k
theorem bodyT_ok {b : BodyD} (hw : b.2.2.2.1.length = 32) (h1 : Oct b.2.2.2.1) (h2 : Oct b.2.2.2.2.2.2.1) (he : bodyE b = 0) : Oct (bodyT b) /\ (bodyT b).length <= 1000 := by
 obtain ⟨_, _, _, _, _, h6⟩ := bodyE_ok he
 unfold bodyT
 refine ⟨(be_oct _ _).append ((be_oct _ _).append ((be_oct _ _).append (h1.append ((be_oct _ _).append ((be_oct _ _).append h2))))), ?_⟩
 simp [be_len, hw]; omega
theorem bytes_prog {b : BodyD} (hw : b.2.2.2.1.length = 32) : paper_Bytes.run b = some (if bodyE b = 0 then (bodyT b, 0, ()) else ([], bodyE b, ())) := by
 unfold paper_Bytes.run paper_Bytes.top
 rw [body_check]
 simp only [Option.bind_some]
 by_cases he : bodyE b = 0
 ·obtain ⟨_, _, _, _, _, h6⟩ := bodyE_ok he
  rw [if_neg (show ¬ (bodyE b != 0) = true by simpa using he), if_pos he, pen_body b [] hw h6 (by simp)]
  rfl
 ·rw [if_pos (show (bodyE b != 0) = true by simpa using he), if_neg he]
def bsum (b : BodyD) : List Int := kec (kec (bodyT b))
theorem bsum_both {b : BodyD} (hw : b.2.2.2.1.length = 32) (h1 : Oct b.2.2.2.1) (h2 : Oct b.2.2.2.2.2.2.1) : paper_Sum.run b = some (if bodyE b = 0 then (bsum b, 0, ()) else (List.replicate 32 0, bodyE b, ())) /\ basculeref_BodySum.run b = some (if bodyE b = 0 then (bsum b, 0, ()) else (List.replicate 32 0, bodyE b, ())) := by
 unfold paper_Sum.run paper_Sum.top basculeref_BodySum.run basculeref_BodySum.top
 rw [bytes_prog hw, body_fault]
 simp only [Option.bind_some]
 by_cases he : bodyE b = 0
 ·obtain ⟨_, _, _, _, _, h6⟩ := bodyE_ok he
  obtain ⟨t1, t2⟩ := bodyT_ok hw h1 h2 he
  obtain ⟨s1, s2⟩ := sum_both t1 (by omega)
  obtain ⟨u1, u2⟩ := sum_both (kec_oct (bodyT b)) (by rw [kec_len]; omega)
  rw [if_pos he, if_pos he, if_neg (show ¬ (bodyE b != 0) = true by simpa using he), bodyText_run b hw he]
  simp only [bne_self_eq_false, Bool.false_eq_true, if_false, Option.bind_some]
  rw [s1, s2]
  simp only [Option.bind_some]
  rw [cutL_all (kec (bodyT b)) 32 (by rw [kec_len]; rfl), u1, u2]
  exact ⟨rfl, rfl⟩
 ·rw [if_neg he, if_neg he]
  simp only []
  rw [if_pos (by simpa using he), if_pos (by simpa using he)]
  exact ⟨rfl, rfl⟩
end Go.Bx
