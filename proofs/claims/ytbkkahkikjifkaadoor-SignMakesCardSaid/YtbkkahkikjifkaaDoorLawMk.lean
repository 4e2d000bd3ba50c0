/- A part of a framework that reads Go code as functions of plain data; or a law about such functions. -/
import Derived.Test.YtbkkahkikjifkaaDoorLawInverse
namespace Go.Bx
open Go
set_option linter.unusedSimpArgs false
set_option linter.unusedVariables false
def mk (n : Int) : List Int := [n % 18446744073709551616, n / 18446744073709551616 % 18446744073709551616, n / 18446744073709551616 / 18446744073709551616 % 18446744073709551616, n / 18446744073709551616 / 18446744073709551616 / 18446744073709551616 % 18446744073709551616]
theorem mk_w (n : Int) : W4 (mk n) := by
 refine ⟨rfl, fun d hd => ?_⟩
 simp only [mk, List.mem_cons, List.not_mem_nil, or_false] at hd
 unfold B64
 rcases hd with rfl | rfl | rfl | rfl <;> exact ⟨Int.emod_nonneg _ (by decide), Int.emod_lt_of_pos _ (by decide)⟩
theorem mk_val {n : Int} (h : 0 <= n /\ n < M256) : val B64 (mk n) = n := by
 have h2 := h.2
 unfold M256 at h2
 simp only [mk, val, B64]
 omega
theorem mk_of {l : List Int} (h : W4 l) : l = mk (val B64 l) := h.eq (mk_w _) (mk_val h.bound).symm
theorem mk_eq {l : List Int} {n : Int} (h : W4 l) (e : val B64 l = n) : l = mk n := by subst e; exact mk_of h
theorem mk_inj {a b : Int} (ha : 0 <= a /\ a < M256) (hb : 0 <= b /\ b < M256) : mk a = mk b ↔ a = b :=
 ⟨fun h => by rw [<- mk_val ha, <- mk_val hb, h], fun h => by rw [h]⟩
theorem mk_zero : mk 0 = [0, 0, 0, 0] := by decide
theorem mk_small {n : Int} (h : 0 <= n /\ n < 18446744073709551616) : [n, 0, 0, 0] = mk n := by
 unfold mk
 have e1 : n % 18446744073709551616 = n := Int.emod_eq_of_lt h.1 h.2
 have e2 : n / 18446744073709551616 = 0 := Int.ediv_eq_zero_of_lt h.1 h.2
 rw [e1, e2]; rfl
end Go.Bx
