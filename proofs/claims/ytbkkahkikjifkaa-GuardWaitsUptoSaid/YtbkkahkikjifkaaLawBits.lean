/- A part of a framework that reads Go code as functions of plain data; or a law about such functions. -/
import Derived.Test.YtbkkahkikjifkaaCxZh
namespace Go.Bx
set_option linter.unusedVariables false
set_option linter.unusedSimpArgs false
open Go
theorem min_bits {k : Nat} (hk : k < 64) : min (k : Int).toNat IntKind.u64.bits = k := by
 have : IntKind.u64.bits = 64 := rfl
 rw [this]; omega
theorem shr_nat {X k : Nat} (hk : k < 64) : shrI .u64 (X : Int) (k : Int) = ((X >>> k : Nat) : Int) := by
 unfold shrI
 rw [min_bits hk, Nat.shiftRight_eq_div_pow]
 have : ((2 : Int) ^ k) = ((2 ^ k : Nat) : Int) := by simp
 rw [this, Int.fdiv_eq_ediv_of_nonneg _ (Int.natCast_nonneg _)]
 rfl
end Go.Bx
