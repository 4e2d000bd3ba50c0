/- A part of a framework that reads Go code as functions of plain data; or a law about such functions. -/
import Derived.Test.YtebnjboimekljaaLawFieldPow
import Derived.Test.YtebnjboimekljaaLawPower
import Derived.Test.YtebnjboimekljaaLawU256
import Derived.Test.YtebnjboimekljaaFnFieldPowers1
namespace Go.Bx
open Go
set_option linter.unusedSimpArgs false
set_option linter.unusedVariables false

theorem one4 : W4 [1, 0, 0, 0] ∧ val B64 [1, 0, 0, 0] = 1 := by
  refine ⟨⟨rfl, fun d hd => ?_⟩, rfl⟩
  simp only [List.mem_cons, List.not_mem_nil, or_false] at hd
  simp only [B64]; omega

theorem powers_both {a x m : List Int} (ha : W4 a) (hx : W4 x) (hm : W4 m) : ∃ r e, field_Pow.run a x m = some (r, e, ()) ∧ basculeref_Power.run a x m = some (r, e, ()) := by
  have hw : ∀ y ∈ [a], W4 y := fun y hy => by
    simp only [List.mem_cons, List.not_mem_nil, or_false] at hy
    subst hy; exact ha
  unfold field_Pow.run field_Pow.top basculeref_Power.run basculeref_Power.top
  rw [fault_run hm (by simp) hw, modulus_run hm (by simp) hw]
  simp only [Option.bind_some]
  by_cases he : faultE m [a] = 0
  · have h0 := fault0 hm he
    have h1 := h0.2 a (by simp)
    rw [he]
    obtain ⟨q, r, d1, _, _, d4, d5, _, d7⟩ := wide_divmod one4.1.1 one4.1.2 hm.1 hm.2
    rw [if_neg (hm.ne.2 h0.1), one4.2] at d7
    obtain ⟨r1, e1, w1, v1⟩ := pow_bits ha hx hm h1 ⟨d4, d5⟩ d7
    obtain ⟨r2, e2, w2, v2⟩ := power_run ha hx hm h1
    rw [d1, e2]
    simp only [Option.bind_some]
    rw [e1]
    refine ⟨r1, 0, rfl, ?_⟩
    rw [w1.eq w2 (by rw [v1, v2])]; rfl
  · have hn : (faultE m [a] != 0) = true := by simpa using he
    simp only [if_pos hn]
    exact ⟨_, _, rfl, rfl⟩

theorem law_FieldPowers (x : (Ty.pair U256 (.pair U256 (.pair U256 .unit))).den) (h : Fit reachK (.pair U256 (.pair U256 (.pair U256 .unit))) x) : basculelaw_FieldPowers.run x.1 x.2.1 x.2.2.1 = some true := by
  obtain ⟨h1, h2, h3, _⟩ := h
  obtain ⟨r, e, k1, k2⟩ := powers_both (digs_of_fit h1) (digs_of_fit h2) (digs_of_fit h3)
  unfold basculelaw_FieldPowers.run basculelaw_FieldPowers.top
  rw [k1, k2]
  simp only [Option.bind_some]
  rw [beqD_refl U256 r rfl]
  simp

end Go.Bx
