/- A part of a framework that reads Go code as functions of plain data; or a law about such functions. -/
import Derived.Test.YtebnjboimekljaaLawWideSums0
import Derived.Test.YtebnjboimekljaaFnCoinMoves0
namespace Go.Bx
open Go
set_option linter.unusedSimpArgs false
set_option linter.unusedVariables false

theorem ref_sum {l m : List Int} (hl : l.length = 4) (hm : m.length = 4) (dl : digs B64 l) (dm : digs B64 m) :
    ∃ r o, basculeref_Sum.run l m = some (r, o, ()) ∧ r.length = 4 ∧ digs B64 r ∧ val B64 r = (val B64 l + val B64 m) % M256 ∧ (o = true ↔ M256 ≤ val B64 l + val B64 m) := by
  unfold basculeref_Sum.run basculeref_Sum.top
  obtain ⟨o1, e1, n1, g1, v1⟩ := ref_of hl dl
  obtain ⟨o2, e2, n2, g2, v2⟩ := ref_of hm dm
  obtain ⟨p, e3, n3, g3, v3⟩ := ref_plus g1 g2 (by omega) (by omega)
  obtain ⟨w, f, e4, n4, g4, v4, f4⟩ := ref_wide g3 (by omega)
  rw [e1, e2]
  simp only [Option.bind_some]
  rw [e3]
  simp only [Option.bind_some]
  rw [e4]
  simp only [Option.bind_some]
  exact ⟨w, f, rfl, n4, g4, by rw [v4, v3, v1, v2], by rw [f4, v3, v1, v2]⟩

theorem nine : digs B32 [0, 0, 0, 0, 0, 0, 0, 0, 1] ∧ val B32 [0, 0, 0, 0, 0, 0, 0, 0, 1] = M256 := by
  constructor
  · intro d hd
    simp only [List.mem_cons, List.not_mem_nil, or_false] at hd
    simp only [B32]
    omega
  · simp only [val, B32, M256]; omega

theorem ref_difference {l m : List Int} (hl : l.length = 4) (hm : m.length = 4) (dl : digs B64 l) (dm : digs B64 m) :
    ∃ r o, basculeref_Difference.run l m = some (r, o, ()) ∧ r.length = 4 ∧ digs B64 r ∧ val B64 r = (val B64 l - val B64 m) % M256 ∧ (o = true ↔ val B64 l < val B64 m) := by
  unfold basculeref_Difference.run basculeref_Difference.top basculeref_cut.run basculeref_cut.top
  obtain ⟨o1, e1, n1, g1, v1⟩ := ref_of hl dl
  obtain ⟨o2, e2, n2, g2, v2⟩ := ref_of hm dm
  have b1 := val4_bound hl dl
  have b2 := val4_bound hm dm
  rw [e1, e2]
  simp only [Option.bind_some]
  rw [ref_compare g1 g2 (by omega) (by omega), v1, v2]
  simp only [Option.bind_some]
  by_cases hlt : val B64 l < val B64 m
  · rw [if_pos hlt, if_neg (by simp)]
    obtain ⟨p, e3, n3, g3, v3⟩ := ref_plus g1 nine.1 (by omega) (by simp)
    rw [nine.2] at v3
    obtain ⟨q, e4, n4, g4, v4⟩ := ref_less g3 g2 (by simp at n3; omega) (by simp at n3; omega) (by omega)
    obtain ⟨w, f, e5, n5, g5, v5, f5⟩ := ref_wide g4 (by simp at n3; omega)
    rw [e3]
    simp only [Option.bind_some]
    rw [e4]
    simp only [Option.bind_some]
    rw [e5]
    simp only [Option.bind_some]
    refine ⟨w, true, rfl, n5, g5, ?_, by simpa using hlt⟩
    rw [v5, v4, v3, v1, v2]
    simp only [M256]
    omega
  · rw [if_neg hlt]
    have hge : decide ((if val B64 l > val B64 m then (1 : Int) else 0) ≥ 0) = true := by split <;> simp
    rw [if_pos hge]
    obtain ⟨q, e4, n4, g4, v4⟩ := ref_less g1 g2 (by omega) (by omega) (by omega)
    obtain ⟨w, f, e5, n5, g5, v5, f5⟩ := ref_wide g4 (by omega)
    rw [e4]
    simp only [Option.bind_some]
    rw [e5]
    simp only [Option.bind_some]
    refine ⟨w, false, rfl, n5, g5, ?_, by simpa using hlt⟩
    rw [v5, v4, v1, v2]

/-- the program's sum and the document's are one -/
theorem sum_both {l m : List Int} (hl : l.length = 4) (hm : m.length = 4) (dl : digs B64 l) (dm : digs B64 m) :
    ∃ r o, wide_Add.run l m = some (r, o, ()) ∧ basculeref_Sum.run l m = some (r, o, ()) ∧ r.length = 4 ∧ digs B64 r ∧ val B64 r = (val B64 l + val B64 m) % M256 ∧ (o = true ↔ M256 ≤ val B64 l + val B64 m) := by
  obtain ⟨r1, o1, e1, n1, g1, v1, f1⟩ := wide_add hl hm dl dm
  obtain ⟨r3, o3, e3, n3, g3, v3, f3⟩ := ref_sum hl hm dl dm
  have k1 : r1 = r3 := words_eq n1 n3 g1 g3 (by rw [v1, v3])
  have k3 : o1 = o3 := bool_eq f1 f3
  subst k1 k3
  exact ⟨r1, o1, e1, e3, n1, g1, v1, f1⟩

theorem diff_both {l m : List Int} (hl : l.length = 4) (hm : m.length = 4) (dl : digs B64 l) (dm : digs B64 m) :
    ∃ r o, wide_Sub.run l m = some (r, o, ()) ∧ basculeref_Difference.run l m = some (r, o, ()) ∧ r.length = 4 ∧ digs B64 r ∧ val B64 r = (val B64 l - val B64 m) % M256 ∧ (o = true ↔ val B64 l < val B64 m) := by
  obtain ⟨r1, o1, e1, n1, g1, v1, f1⟩ := wide_sub hl hm dl dm
  obtain ⟨r3, o3, e3, n3, g3, v3, f3⟩ := ref_difference hl hm dl dm
  have k1 : r1 = r3 := words_eq n1 n3 g1 g3 (by rw [v1, v3])
  have k3 : o1 = o3 := bool_eq f1 f3
  subst k1 k3
  exact ⟨r1, o1, e1, e3, n1, g1, v1, f1⟩

end Go.Bx
