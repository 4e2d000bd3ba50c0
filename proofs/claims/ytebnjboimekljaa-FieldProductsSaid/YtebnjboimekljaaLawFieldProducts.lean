/- A part of a framework that reads Go code as functions of plain data; or a law about such functions. -/
import Derived.Test.YtebnjboimekljaaLawFieldMul
import Derived.Test.YtebnjboimekljaaLawU256
import Derived.Test.YtebnjboimekljaaFnFieldProducts0
namespace Go.Bx
open Go
set_option linter.unusedSimpArgs false
set_option linter.unusedVariables false

theorem products_core {a b m : List Int} (ha : W4 a) (hb : W4 b) (hm : W4 m) : basculelaw_FieldProducts.run a b m = some true := by
  have hw : ∀ x ∈ [a, b], W4 x := fun x hx => by
    simp only [List.mem_cons, List.not_mem_nil, or_false] at hx
    rcases hx with rfl | rfl
    · exact ha
    · exact hb
  have key : ∃ r e, field_Mul.run a b m = some (r, e, ()) ∧ basculeref_Modular.run 3 a b m = some (r, e, ()) := by
    unfold field_Mul.run field_Mul.top field_by_s2.run field_by_s2.top basculeref_Modular.run basculeref_Modular.top
    rw [fault_run hm (by simp) hw, modulus_run hm (by simp) hw]
    simp only [Option.bind_some]
    by_cases he : faultE m [a, b] = 0
    · have h0 := fault0 hm he
      have h1 := h0.2 a (by simp)
      have h2 := h0.2 b (by simp)
      rw [he]
      obtain ⟨r1, e1, w1, v1⟩ := field_mul_run ha hb hm h1
      obtain ⟨r2, e2, w2, v2⟩ := product_run ha hb hm h1 h2
      rw [e1, e2]
      refine ⟨r1, 0, rfl, ?_⟩
      rw [w1.eq w2 (by rw [v1, v2])]; rfl
    · have hn : (faultE m [a, b] != 0) = true := by simpa using he
      simp only [if_pos hn]
      exact ⟨_, _, rfl, rfl⟩
  obtain ⟨r, e, k1, k2⟩ := key
  unfold basculelaw_FieldProducts.run basculelaw_FieldProducts.top
  rw [k1, k2]
  simp only [Option.bind_some]
  rw [beqD_refl U256 r rfl]
  simp

theorem law_FieldProducts (x : (Ty.pair U256 (.pair U256 (.pair U256 .unit))).den) (h : Fit reachK (.pair U256 (.pair U256 (.pair U256 .unit))) x) : basculelaw_FieldProducts.run x.1 x.2.1 x.2.2.1 = some true := by
  obtain ⟨h1, h2, h3, _⟩ := h
  exact products_core (digs_of_fit h1) (digs_of_fit h2) (digs_of_fit h3)

end Go.Bx
