/- A part of a framework that reads Go code as functions of plain data; or a law about such functions. -/
import Derived.Test.YtbkkahkikjifkaaDoorLawRefWide
import Derived.Test.YtbkkahkikjifkaaDoorLawU256
namespace Go.Bx
open Go
set_option linter.unusedSimpArgs false
set_option linter.unusedVariables false
abbrev M256 : Int := 115792089237316195423570985008687907853269984665640564039457584007913129639936
theorem add_eq (a b c d a' b' c' d' : Int) : wide_Add.run [a, b, c, d] [a', b', c', d'] =
  (x_add64.run a a' 0).bind fun y => (x_add64.run b b' y.2.1).bind fun z => (x_add64.run c c' z.2.1).bind fun u => (x_add64.run d d' u.2.1).bind fun v => some ([y.1, z.1, u.1, v.1], v.2.1 == 1, ()) := by kernel_rfl
theorem sub_eq (a b c d a' b' c' d' : Int) : wide_Sub.run [a, b, c, d] [a', b', c', d'] =
  (x_sub64.run a a' 0).bind fun y => (x_sub64.run b b' y.2.1).bind fun z => (x_sub64.run c c' z.2.1).bind fun u => (x_sub64.run d d' u.2.1).bind fun v => some ([y.1, z.1, u.1, v.1], v.2.1 == 1, ()) := by kernel_rfl
theorem add64_spec {x y c : Int} (hx : 0 <= x /\ x < 18446744073709551616) (hy : 0 <= y /\ y < 18446744073709551616) (hc : 0 <= c /\ c <= 1) : ∃ r o, x_add64.run x y c = some (r, o, ()) /\ (0 <= r /\ r < 18446744073709551616) /\ (0 <= o /\ o <= 1) /\ r + 18446744073709551616 * o = x + y + c := by
 refine ⟨_, _, if_pos (by omega), by omega, by omega, by omega⟩
theorem sub64_spec {x y c : Int} (hx : 0 <= x /\ x < 18446744073709551616) (hy : 0 <= y /\ y < 18446744073709551616) (hc : 0 <= c /\ c <= 1) : ∃ r o, x_sub64.run x y c = some (r, o, ()) /\ (0 <= r /\ r < 18446744073709551616) /\ (0 <= o /\ o <= 1) /\ r - 18446744073709551616 * o = x - y - c := by
 refine ⟨_, _, if_pos (by omega), by omega, by split <;> omega, by split <;> omega⟩
theorem words_eq {l m : List Int} (hl : l.length = 4) (hm : m.length = 4) (dl : digs B64 l) (dm : digs B64 m) (h : val B64 l = val B64 m) : l = m := val_inj B64_pos dl dm (by omega) h
theorem wide_add {l m : List Int} (hl : l.length = 4) (hm : m.length = 4) (dl : digs B64 l) (dm : digs B64 m) :
  ∃ r o, wide_Add.run l m = some (r, o, ()) /\ r.length = 4 /\ digs B64 r /\ val B64 r = (val B64 l + val B64 m) % M256 /\ (o = true ↔ M256 <= val B64 l + val B64 m) := by
 obtain ⟨a, b, c, d, rfl⟩ := four_of_len hl
 obtain ⟨a', b', c', d', rfl⟩ := four_of_len hm
 have h1 := dl a (by simp)
 have h2 := dl b (by simp)
 have h3 := dl c (by simp)
 have h4 := dl d (by simp)
 have g1 := dm a' (by simp)
 have g2 := dm b' (by simp)
 have g3 := dm c' (by simp)
 have g4 := dm d' (by simp)
 rw [add_eq]
 obtain ⟨r1, o1, e1, q1, p1, s1⟩ := add64_spec h1 g1 (c := 0) (by omega)
 obtain ⟨r2, o2, e2, q2, p2, s2⟩ := add64_spec h2 g2 p1
 obtain ⟨r3, o3, e3, q3, p3, s3⟩ := add64_spec h3 g3 p2
 obtain ⟨r4, o4, e4, q4, p4, s4⟩ := add64_spec h4 g4 p3
 rw [e1, Option.bind_some, e2, Option.bind_some, e3, Option.bind_some, e4, Option.bind_some]
 refine ⟨_, _, rfl, rfl, ?_, ?_, ?_⟩
 ·intro x hx
  simp only [List.mem_cons, List.not_mem_nil, or_false] at hx
  simp only [B64]
  rcases hx with rfl | rfl | rfl | rfl <;> omega
 ·simp only [val, B64, M256] at *
  omega
 ·simp only [val, B64, M256, beq_iff_eq] at *
  constructor <;> intro h <;> omega
theorem wide_sub {l m : List Int} (hl : l.length = 4) (hm : m.length = 4) (dl : digs B64 l) (dm : digs B64 m) :
  ∃ r o, wide_Sub.run l m = some (r, o, ()) /\ r.length = 4 /\ digs B64 r /\ val B64 r = (val B64 l - val B64 m) % M256 /\ (o = true ↔ val B64 l < val B64 m) := by
 obtain ⟨a, b, c, d, rfl⟩ := four_of_len hl
 obtain ⟨a', b', c', d', rfl⟩ := four_of_len hm
 have h1 := dl a (by simp)
 have h2 := dl b (by simp)
 have h3 := dl c (by simp)
 have h4 := dl d (by simp)
 have g1 := dm a' (by simp)
 have g2 := dm b' (by simp)
 have g3 := dm c' (by simp)
 have g4 := dm d' (by simp)
 rw [sub_eq]
 obtain ⟨r1, o1, e1, q1, p1, s1⟩ := sub64_spec h1 g1 (c := 0) (by omega)
 obtain ⟨r2, o2, e2, q2, p2, s2⟩ := sub64_spec h2 g2 p1
 obtain ⟨r3, o3, e3, q3, p3, s3⟩ := sub64_spec h3 g3 p2
 obtain ⟨r4, o4, e4, q4, p4, s4⟩ := sub64_spec h4 g4 p3
 rw [e1, Option.bind_some, e2, Option.bind_some, e3, Option.bind_some, e4, Option.bind_some]
 refine ⟨_, _, rfl, rfl, ?_, ?_, ?_⟩
 ·intro x hx
  simp only [List.mem_cons, List.not_mem_nil, or_false] at hx
  simp only [B64]
  rcases hx with rfl | rfl | rfl | rfl <;> omega
 ·simp only [val, B64, M256] at *
  omega
 ·simp only [val, B64, M256, beq_iff_eq] at *
  constructor <;> intro h <;> omega
theorem val4_bound {l : List Int} (hl : l.length = 4) (dl : digs B64 l) : 0 <= val B64 l /\ val B64 l < M256 := by
 have := val_bound B64_pos dl
 rw [hl] at this
 have e : B64 ^ 4 = M256 := rfl
 rw [e] at this
 exact this
end Go.Bx
