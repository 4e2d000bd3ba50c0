/- A part of a framework that reads Go code as functions of plain data; or a law about such functions. -/
import Derived.Test.YtbkkahkikjifkaaDoorLawDivMod
import Derived.Test.YtbkkahkikjifkaaDoorLawRefWide
import Derived.Test.YtbkkahkikjifkaaDoorFnSignMakes0
namespace Go.Bx
open Go
set_option linter.unusedSimpArgs false
set_option linter.unusedVariables false
theorem quotient_both {a b : List Int} (ha : a.length = 4) (da : digs B64 a) (hb : b.length = 4) (db : digs B64 b) :
  ∃ q r, wide_DivMod.run a b = some (q, r, (if b = [0, 0, 0, 0] then 7 else 0), ()) /\ basculeref_Quotient.run a b = some (q, r, (if b = [0, 0, 0, 0] then 7 else 0), ()) /\ q.length = 4 /\ digs B64 q /\ r.length = 4 /\ digs B64 r /\
   val B64 q = (if b = [0, 0, 0, 0] then 0 else val B64 a / val B64 b) /\ val B64 r = (if b = [0, 0, 0, 0] then 0 else val B64 a % val B64 b) := by
 obtain ⟨q, r, e1, e2, e3, e4, e5, e6, e7⟩ := wide_divmod ha da hb db
 refine ⟨q, r, e1, ?_, e2, e3, e4, e5, e6, e7⟩
 unfold basculeref_Quotient.run basculeref_Quotient.top
 rw [beqD_dec (.arr 4 (.int .u64)) b [0, 0, 0, 0] rfl]
 by_cases h0 : b = [0, 0, 0, 0]
 ·simp only [if_pos h0] at e6 e7 ⊢
  rw [if_pos (by simpa using h0)]
  rw [words_eq e2 rfl e3 dz4 (by rw [e6]; rfl), words_eq e4 rfl e5 dz4 (by rw [e7]; rfl)]
 ·simp only [if_neg h0] at e6 e7 ⊢
  rw [if_neg (by simpa using h0)]
  obtain ⟨x, x1, x2, x3, x4⟩ := ref_of ha da
  obtain ⟨y, y1, y2, y3, y4⟩ := ref_of hb db
  have hV := zero4 hb db h0
  obtain ⟨s, t, s1, s2, s3, s4, s5, s6, s7⟩ := ref_divided x3 y3 (by omega) (by omega) (by omega)
  obtain ⟨w, f, w1, w2, w3, w4, _⟩ := ref_wide s3 (by omega)
  obtain ⟨v, g, v1, v2, v3, v4, _⟩ := ref_wide s4 (by omega)
  rw [x1, Option.bind_some, y1, Option.bind_some, s1, Option.bind_some]
  unfold basculeref_cut.run basculeref_cut.top
  rw [w1, Option.bind_some, Option.bind_some, v1, Option.bind_some, Option.bind_some]
  have hab := val4_bound ha da
  have hbb := val4_bound hb db
  rw [x4, y4] at s6 s7
  have q1 : 0 <= val B64 a / val B64 b := Int.ediv_nonneg hab.1 (by omega)
  have q2 : val B64 a / val B64 b <= val B64 a := Int.ediv_le_self _ hab.1
  have r1 := Int.emod_nonneg (val B64 a) (show val B64 b ≠ 0 by omega)
  have r2 := Int.emod_lt_of_pos (val B64 a) hV
  have hw : val B64 w = val B64 q := by
   rw [w4, s6, e6]; exact Int.emod_eq_of_lt q1 (Int.lt_of_le_of_lt q2 hab.2)
  have hv : val B64 v = val B64 r := by
   rw [v4, s7, e7]; exact Int.emod_eq_of_lt r1 (Int.lt_trans r2 hbb.2)
  rw [words_eq w2 e2 w3 e3 hw, words_eq v2 e4 v3 e5 hv]
end Go.Bx
