/- A part of a framework that reads Go code as functions of plain data; or a law about such functions. -/
import Derived.Test.YtebnjboimekljaaLawField
import Derived.Test.YtebnjboimekljaaLawU256
import Derived.Test.YtebnjboimekljaaFnFieldSums0
namespace Go.Bx
open Go
set_option linter.unusedSimpArgs false
set_option linter.unusedVariables false

theorem sums_core {a b m : List Int} (ha : W4 a) (hb : W4 b) (hm : W4 m) : basculelaw_FieldSums.run a b m = some true := by
  have hw : ∀ x ∈ [a, b], W4 x := fun x hx => by
    simp only [List.mem_cons, List.not_mem_nil, or_false] at hx
    rcases hx with rfl | rfl
    · exact ha
    · exact hb
  have key : ∃ r s e, field_Add.run a b m = some (r, e, ()) ∧ basculeref_Modular.run 1 a b m = some (r, e, ()) ∧ field_Sub.run a b m = some (s, e, ()) ∧ basculeref_Modular.run 2 a b m = some (s, e, ()) := by
    unfold field_Add.run field_Add.top field_Sub.run field_Sub.top field_by_s0.run field_by_s0.top field_by_s1.run field_by_s1.top basculeref_Modular.run basculeref_Modular.top
    rw [fault_run hm (by simp) hw, modulus_run hm (by simp) hw]
    simp only [Option.bind_some]
    by_cases he : faultE m [a, b] = 0
    · have h0 := fault0 hm he
      have h1 := h0.2 a (by simp)
      have h2 := h0.2 b (by simp)
      rw [he]
      obtain ⟨r1, e1, w1, v1⟩ := field_add_run ha hb hm h1 h2
      obtain ⟨r2, e2, w2, v2⟩ := field_sub_run ha hb hm h1 h2
      obtain ⟨r3, e3, w3, v3⟩ := total_run ha hb hm h0.1
      obtain ⟨r4, e4, w4, v4⟩ := opposite_run hb hm h2
      obtain ⟨r5, e5, w5, v5⟩ := total_run ha w4 hm h0.1
      rw [e1, e2, e3, e4]
      refine ⟨r1, r2, 0, rfl, ?_, rfl, ?_⟩
      · rw [w1.eq w3 (by rw [v1, v3])]; rfl
      · simp only [Option.bind_some]
        rw [e5, w2.eq w5 (by rw [v2, v5, v4, Int.add_emod_emod]; rfl)]
        rfl
    · have hn : (faultE m [a, b] != 0) = true := by simpa using he
      simp only [if_pos hn]
      exact ⟨_, _, _, rfl, rfl, rfl, rfl⟩
  obtain ⟨r, s, e, k1, k2, k3, k4⟩ := key
  unfold basculelaw_FieldSums.run basculelaw_FieldSums.top
  rw [k1, k2, k3, k4]
  simp only [Option.bind_some]
  rw [beqD_refl U256 r rfl, beqD_refl U256 s rfl]
  simp

theorem law_FieldSums (x : (Ty.pair U256 (.pair U256 (.pair U256 .unit))).den) (h : Fit reachK (.pair U256 (.pair U256 (.pair U256 .unit))) x) : basculelaw_FieldSums.run x.1 x.2.1 x.2.2.1 = some true := by
  obtain ⟨h1, h2, h3, _⟩ := h
  exact sums_core (digs_of_fit h1) (digs_of_fit h2) (digs_of_fit h3)

end Go.Bx
