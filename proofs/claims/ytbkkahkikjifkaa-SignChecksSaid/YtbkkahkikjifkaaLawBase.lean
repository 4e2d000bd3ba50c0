/- A part of a framework that reads Go code as functions of plain data; or a law about such functions. -/
import Derived.Test.YtbkkahkikjifkaaLawBits
namespace Go.Bx
set_option linter.unusedVariables false
set_option linter.unusedSimpArgs false
open Go
theorem fitB_small {n b : Nat} (hn : n <= 4194304) (hb : b <= 33554432) : fitB n b = true := by
 unfold fitB
 rw [Bool.and_eq_true]
 constructor
 ·apply Nat.ble_eq_true_of_le
  calc n * b <= 4194304 * 33554432 := Nat.mul_le_mul hn hb
   _ <= 140737488355328 := by decide
 ·exact Nat.ble_eq_true_of_le (by omega)
theorem fuel_big : fuel = 18446744073709551616 := rfl
theorem i64_succ {i : Nat} (h : i < 9223372036854775807) : IntKind.i64.wrap ((i : Int) + 1) = ((i + 1 : Nat) : Int) := by
 rw [wrap_i64 (by omega) (by omega)]; simp
theorem toNat_nat (i : Nat) : Int.toNat (i : Int) = i := rfl
end Go.Bx
