/- A part of a framework that reads Go code as functions of plain data; or a law about such functions. -/
import Derived.Test.YthgnmgdhgmobpaaLawRefWide
import Derived.Test.YthgnmgdhgmobpaaLawWideOrders
import Derived.Test.YthgnmgdhgmobpaaFnCoinChecks0
namespace Go.Bx
open Go
set_option linter.unusedSimpArgs false
set_option linter.unusedVariables false

abbrev M256 : Int := 115792089237316195423570985008687907853269984665640564039457584007913129639936

theorem add_eq (a b c d a' b' c' d' : Int) : wide_Add.run [a, b, c, d] [a', b', c', d'] =
    (x_add64.run a a' 0).bind fun y => (x_add64.run b b' y.2.1).bind fun z => (x_add64.run c c' z.2.1).bind fun u => (x_add64.run d d' u.2.1).bind fun v => some ([y.1, z.1, u.1, v.1], v.2.1 == 1, ()) := by kernel_rfl
theorem sub_eq (a b c d a' b' c' d' : Int) : wide_Sub.run [a, b, c, d] [a', b', c', d'] =
    (x_sub64.run a a' 0).bind fun y => (x_sub64.run b b' y.2.1).bind fun z => (x_sub64.run c c' z.2.1).bind fun u => (x_sub64.run d d' u.2.1).bind fun v => some ([y.1, z.1, u.1, v.1], v.2.1 == 1, ()) := by kernel_rfl

theorem add64_spec {x y c : Int} (hx : 0 ≤ x ∧ x < 18446744073709551616) (hy : 0 ≤ y ∧ y < 18446744073709551616) (hc : 0 ≤ c ∧ c ≤ 1) : ∃ r o, x_add64.run x y c = some (r, o, ()) ∧ (0 ≤ r ∧ r < 18446744073709551616) ∧ (0 ≤ o ∧ o ≤ 1) ∧ r + 18446744073709551616 * o = x + y + c := by
  refine ⟨_, _, if_pos (by omega), by omega, by omega, by omega⟩
theorem sub64_spec {x y c : Int} (hx : 0 ≤ x ∧ x < 18446744073709551616) (hy : 0 ≤ y ∧ y < 18446744073709551616) (hc : 0 ≤ c ∧ c ≤ 1) : ∃ r o, x_sub64.run x y c = some (r, o, ()) ∧ (0 ≤ r ∧ r < 18446744073709551616) ∧ (0 ≤ o ∧ o ≤ 1) ∧ r - 18446744073709551616 * o = x - y - c := by
  refine ⟨_, _, if_pos (by omega), by omega, by split <;> omega, by split <;> omega⟩

/-- words are told by their number -/
theorem words_eq {l m : List Int} (hl : l.length = 4) (hm : m.length = 4) (dl : digs B64 l) (dm : digs B64 m) (h : val B64 l = val B64 m) : l = m := val_inj B64_pos dl dm (by omega) h

theorem wide_add {l m : List Int} (hl : l.length = 4) (hm : m.length = 4) (dl : digs B64 l) (dm : digs B64 m) :
    ∃ r o, wide_Add.run l m = some (r, o, ()) ∧ r.length = 4 ∧ digs B64 r ∧ val B64 r = (val B64 l + val B64 m) % M256 ∧ (o = true ↔ M256 ≤ val B64 l + val B64 m) := by
  obtain ⟨a, b, c, d, rfl⟩ := four_of_len hl
  obtain ⟨a', b', c', d', rfl⟩ := four_of_len hm
  have h1 := dl a (by simp)
  have h2 := dl b (by simp)
  have h3 := dl c (by simp)
  have h4 := dl d (by simp)
  have g1 := dm a' (by simp)
  have g2 := dm b' (by simp)
  have g3 := dm c' (by simp)
  have g4 := dm d' (by simp)
  rw [add_eq]
  obtain ⟨r1, o1, e1, q1, p1, s1⟩ := add64_spec h1 g1 (c := 0) (by omega)
  obtain ⟨r2, o2, e2, q2, p2, s2⟩ := add64_spec h2 g2 p1
  obtain ⟨r3, o3, e3, q3, p3, s3⟩ := add64_spec h3 g3 p2
  obtain ⟨r4, o4, e4, q4, p4, s4⟩ := add64_spec h4 g4 p3
  rw [e1, Option.bind_some, e2, Option.bind_some, e3, Option.bind_some, e4, Option.bind_some]
  refine ⟨_, _, rfl, rfl, ?_, ?_, ?_⟩
  · intro x hx
    simp only [List.mem_cons, List.not_mem_nil, or_false] at hx
    simp only [B64]
    rcases hx with rfl | rfl | rfl | rfl <;> omega
  · simp only [val, B64, M256] at *
    omega
  · simp only [val, B64, M256, beq_iff_eq] at *
    constructor <;> intro h <;> omega

theorem wide_sub {l m : List Int} (hl : l.length = 4) (hm : m.length = 4) (dl : digs B64 l) (dm : digs B64 m) :
    ∃ r o, wide_Sub.run l m = some (r, o, ()) ∧ r.length = 4 ∧ digs B64 r ∧ val B64 r = (val B64 l - val B64 m) % M256 ∧ (o = true ↔ val B64 l < val B64 m) := by
  obtain ⟨a, b, c, d, rfl⟩ := four_of_len hl
  obtain ⟨a', b', c', d', rfl⟩ := four_of_len hm
  have h1 := dl a (by simp)
  have h2 := dl b (by simp)
  have h3 := dl c (by simp)
  have h4 := dl d (by simp)
  have g1 := dm a' (by simp)
  have g2 := dm b' (by simp)
  have g3 := dm c' (by simp)
  have g4 := dm d' (by simp)
  rw [sub_eq]
  obtain ⟨r1, o1, e1, q1, p1, s1⟩ := sub64_spec h1 g1 (c := 0) (by omega)
  obtain ⟨r2, o2, e2, q2, p2, s2⟩ := sub64_spec h2 g2 p1
  obtain ⟨r3, o3, e3, q3, p3, s3⟩ := sub64_spec h3 g3 p2
  obtain ⟨r4, o4, e4, q4, p4, s4⟩ := sub64_spec h4 g4 p3
  rw [e1, Option.bind_some, e2, Option.bind_some, e3, Option.bind_some, e4, Option.bind_some]
  refine ⟨_, _, rfl, rfl, ?_, ?_, ?_⟩
  · intro x hx
    simp only [List.mem_cons, List.not_mem_nil, or_false] at hx
    simp only [B64]
    rcases hx with rfl | rfl | rfl | rfl <;> omega
  · simp only [val, B64, M256] at *
    omega
  · simp only [val, B64, M256, beq_iff_eq] at *
    constructor <;> intro h <;> omega

theorem val4_bound {l : List Int} (hl : l.length = 4) (dl : digs B64 l) : 0 ≤ val B64 l ∧ val B64 l < M256 := by
  have := val_bound B64_pos dl
  rw [hl] at this
  have e : B64 ^ 4 = M256 := rfl
  rw [e] at this
  exact this

theorem ref_sum {l m : List Int} (hl : l.length = 4) (hm : m.length = 4) (dl : digs B64 l) (dm : digs B64 m) :
    ∃ r o, basculeref_Sum.run l m = some (r, o, ()) ∧ r.length = 4 ∧ digs B64 r ∧ val B64 r = (val B64 l + val B64 m) % M256 ∧ (o = true ↔ M256 ≤ val B64 l + val B64 m) := by
  unfold basculeref_Sum.run basculeref_Sum.top
  obtain ⟨o1, e1, n1, g1, v1⟩ := ref_of hl dl
  obtain ⟨o2, e2, n2, g2, v2⟩ := ref_of hm dm
  obtain ⟨p, e3, n3, g3, v3⟩ := ref_plus g1 g2 (by omega) (by omega)
  obtain ⟨w, f, e4, n4, g4, v4, f4⟩ := ref_wide g3 (by omega)
  rw [e1, e2]
  simp only [Option.bind_some]
  rw [e3]
  simp only [Option.bind_some]
  rw [e4]
  simp only [Option.bind_some]
  exact ⟨w, f, rfl, n4, g4, by rw [v4, v3, v1, v2], by rw [f4, v3, v1, v2]⟩

theorem nine : digs B32 [0, 0, 0, 0, 0, 0, 0, 0, 1] ∧ val B32 [0, 0, 0, 0, 0, 0, 0, 0, 1] = M256 := by
  constructor
  · intro d hd
    simp only [List.mem_cons, List.not_mem_nil, or_false] at hd
    simp only [B32]
    omega
  · simp only [val, B32, M256]; omega

theorem ref_difference {l m : List Int} (hl : l.length = 4) (hm : m.length = 4) (dl : digs B64 l) (dm : digs B64 m) :
    ∃ r o, basculeref_Difference.run l m = some (r, o, ()) ∧ r.length = 4 ∧ digs B64 r ∧ val B64 r = (val B64 l - val B64 m) % M256 ∧ (o = true ↔ val B64 l < val B64 m) := by
  unfold basculeref_Difference.run basculeref_Difference.top basculeref_cut.run basculeref_cut.top
  obtain ⟨o1, e1, n1, g1, v1⟩ := ref_of hl dl
  obtain ⟨o2, e2, n2, g2, v2⟩ := ref_of hm dm
  have b1 := val4_bound hl dl
  have b2 := val4_bound hm dm
  rw [e1, e2]
  simp only [Option.bind_some]
  rw [ref_compare g1 g2 (by omega) (by omega), v1, v2]
  simp only [Option.bind_some]
  by_cases hlt : val B64 l < val B64 m
  · rw [if_pos hlt, if_neg (by simp)]
    obtain ⟨p, e3, n3, g3, v3⟩ := ref_plus g1 nine.1 (by omega) (by simp)
    rw [nine.2] at v3
    obtain ⟨q, e4, n4, g4, v4⟩ := ref_less g3 g2 (by simp at n3; omega) (by simp at n3; omega) (by omega)
    obtain ⟨w, f, e5, n5, g5, v5, f5⟩ := ref_wide g4 (by simp at n3; omega)
    rw [e3]
    simp only [Option.bind_some]
    rw [e4]
    simp only [Option.bind_some]
    rw [e5]
    simp only [Option.bind_some]
    refine ⟨w, true, rfl, n5, g5, ?_, by simpa using hlt⟩
    rw [v5, v4, v3, v1, v2]
    simp only [M256]
    omega
  · rw [if_neg hlt]
    have hge : decide ((if val B64 l > val B64 m then (1 : Int) else 0) ≥ 0) = true := by split <;> simp
    rw [if_pos hge]
    obtain ⟨q, e4, n4, g4, v4⟩ := ref_less g1 g2 (by omega) (by omega) (by omega)
    obtain ⟨w, f, e5, n5, g5, v5, f5⟩ := ref_wide g4 (by omega)
    rw [e4]
    simp only [Option.bind_some]
    rw [e5]
    simp only [Option.bind_some]
    refine ⟨w, false, rfl, n5, g5, ?_, by simpa using hlt⟩
    rw [v5, v4, v1, v2]

theorem bool_eq {a b : Bool} {p : Prop} (h : a = true ↔ p) (g : b = true ↔ p) : a = b := by
  cases a <;> cases b <;> simp at h g <;> first | rfl | (exfalso; exact g h) | (exfalso; exact h g)

theorem law_WideSums (x : (Ty.pair U256 (.pair U256 .unit)).den) (h : Fit reachK (.pair U256 (.pair U256 .unit)) x) : basculelaw_WideSums.run x.1 x.2.1 = some true := by
  obtain ⟨h1, h2, _⟩ := h
  obtain ⟨l1, d1⟩ := digs_of_fit h1
  obtain ⟨l2, d2⟩ := digs_of_fit h2
  unfold basculelaw_WideSums.run basculelaw_WideSums.top
  obtain ⟨r1, o1, e1, n1, g1, v1, f1⟩ := wide_add l1 l2 d1 d2
  obtain ⟨r2, o2, e2, n2, g2, v2, f2⟩ := wide_sub l1 l2 d1 d2
  obtain ⟨r3, o3, e3, n3, g3, v3, f3⟩ := ref_sum l1 l2 d1 d2
  obtain ⟨r4, o4, e4, n4, g4, v4, f4⟩ := ref_difference l1 l2 d1 d2
  have k1 : r1 = r3 := words_eq n1 n3 g1 g3 (by rw [v1, v3])
  have k2 : r2 = r4 := words_eq n2 n4 g2 g4 (by rw [v2, v4])
  have k3 : o1 = o3 := bool_eq f1 f3
  have k4 : o2 = o4 := bool_eq f2 f4
  subst k1 k2 k3 k4
  rw [e1, e2, e3, e4]
  simp only [Option.bind_some, Option.some.injEq]
  rw [beqD_refl U256 r1 rfl, beqD_refl U256 r2 rfl, beqD_refl .bool o1 rfl, beqD_refl .bool o2 rfl]
  rfl

end Go.Bx
