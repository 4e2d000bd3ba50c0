/- A part of a framework that reads Go code as functions of plain data; or a law about such functions. -/
import Derived.Test.YtbkkahkikjifkaaLawLogTail
import Derived.Test.YtbkkahkikjifkaaLawLogTy
namespace Go.Bx
open Go
set_option linter.unusedSimpArgs false
set_option linter.unusedVariables false
theorem big2 (x : Int) : basculeref_big.run x 2 = some [IntKind.u8.wrap (shrI .u64 x 8), IntKind.u8.wrap x] := by kernel_rfl
theorem big1 (x : Int) : basculeref_big.run x 1 = some [IntKind.u8.wrap x] := by kernel_rfl
theorem shr8_u64 {n : Nat} (h : n < 65536) : shrI .u64 (n : Int) 8 = ((n / 256 : Nat) : Int) := by
 have := shr_nat (X := n) (k := 8) (by decide)
 rw [show ((8 : Nat) : Int) = 8 from rfl] at this
 rw [this, Nat.shiftRight_eq_div_pow]
theorem shr8_i64 {n : Nat} (h : n < 65536) : shrI .i64 (n : Int) 8 = ((n / 256 : Nat) : Int) := by
 unfold shrI
 have h1 : min (8 : Int).toNat IntKind.i64.bits = 8 := rfl
 rw [h1, Int.fdiv_eq_ediv_of_nonneg _ (by decide)]
 norm_cast
def recText (l : List Int) : List Int := [IntKind.u8.wrap (shrI .i64 (l.length : Int) 8), IntKind.u8.wrap (l.length : Int)] ++ l ++ [sumI l % 256]
theorem text_run (l : List Int) (hl : l.length <= 60000) (hb : ∀ b ∈ l, 0 <= b /\ b <= 255) : basculeref_logText.run l = some (recText l) := by
 unfold basculeref_logText.run basculeref_logText.top
 have hs := sumI_bound hb
 have h1 := fun {α : Type} (Xt : List Int -> Int -> Option α) N (hN : l.length < N) => text_loop N Xt l l (by omega) hb N 0 0 (by omega) (by omega) (by omega)
 have h2 := h1 (fun (x0 : List Int) (x3 : Int) => basculeref_logText.j0 (fun (x2 : List Int) => some x2) x0 x3) fuel (by rw [fuel_big]; omega)
 rw [List.drop_zero, Int.zero_add] at h2
 refine Eq.trans h2 ?_
 unfold basculeref_logText.j0
 rw [big2, big1]
 simp only [Option.bind_some]
 rw [if_pos (ble_of (by simp; omega)), if_pos (ble_of (by simp; omega))]
 unfold recText
 have e1 : IntKind.u64.wrap (l.length : Int) = (l.length : Int) := wrap_u64 (by omega) (by omega)
 have e2 : IntKind.u8.wrap (IntKind.u64.wrap (sumI l)) = sumI l % 256 := by
  rw [wrap_u64 (by omega) (by omega), wrap_u8_mod]
 rw [e1, e2, shr8_u64 (by omega), shr8_i64 (by omega)]
end Go.Bx
