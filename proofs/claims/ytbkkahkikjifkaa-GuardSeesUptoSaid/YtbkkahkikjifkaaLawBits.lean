/- A part of a framework that reads Go code as functions of plain data; or a law about such functions. -/
import Derived.Test.YtbkkahkikjifkaaCxZh
namespace Go.Bx
set_option linter.unusedVariables false
set_option linter.unusedSimpArgs false
open Go
theorem ofInt_nat (n X : Nat) : BitVec.ofInt n (X : Int) = BitVec.ofNat n X := by
 apply BitVec.eq_of_toNat_eq
 simp
theorem u64_wrap_nat {X : Nat} (h : X < 18446744073709551616) : IntKind.u64.wrap (X : Int) = (X : Int) := wrap_u64 (by omega) (by omega)
theorem bor_nat {X Y : Nat} (hX : X < 18446744073709551616) (hY : Y < 18446744073709551616) : bor .u64 (X : Int) (Y : Int) = ((X ||| Y : Nat) : Int) := by
 unfold bor
 have e : ((BitVec.ofInt IntKind.u64.bits (X : Int) ||| BitVec.ofInt IntKind.u64.bits (Y : Int)).toNat) = X ||| Y := by
  rw [ofInt_nat, ofInt_nat, BitVec.toNat_or, BitVec.toNat_ofNat, BitVec.toNat_ofNat]
  show (X % 2 ^ 64) ||| (Y % 2 ^ 64) = _
  rw [Nat.mod_eq_of_lt (by simpa using hX), Nat.mod_eq_of_lt (by simpa using hY)]
 rw [e]
 exact u64_wrap_nat (by have := Nat.or_lt_two_pow (n := 64) hX hY; simpa using this)
theorem min_bits {k : Nat} (hk : k < 64) : min (k : Int).toNat IntKind.u64.bits = k := by
 have : IntKind.u64.bits = 64 := rfl
 rw [this]; omega
theorem shr_nat {X k : Nat} (hk : k < 64) : shrI .u64 (X : Int) (k : Int) = ((X >>> k : Nat) : Int) := by
 unfold shrI
 rw [min_bits hk, Nat.shiftRight_eq_div_pow]
 have : ((2 : Int) ^ k) = ((2 ^ k : Nat) : Int) := by simp
 rw [this, Int.fdiv_eq_ediv_of_nonneg _ (Int.natCast_nonneg _)]
 rfl
end Go.Bx
