/- A part of a framework that reads Go code as functions of plain data; or a law about such functions. -/
import Derived.Test.YtbkkahkikjifkaaDoorLawBase
namespace Go.Bx
open Go
set_option linter.unusedSimpArgs false
set_option linter.unusedVariables false
theorem xor_step {b V k : Nat} (hb : b < 256) : (2 ^ k * b) ^^^ (2 ^ (k + 8) * V) = 2 ^ k * (256 * V + b) := by
 have h8 : (256 : Nat) = 2 ^ 8 := by decide
 apply Nat.eq_of_testBit_eq
 intro j
 rw [Nat.testBit_xor, Nat.testBit_two_pow_mul, Nat.testBit_two_pow_mul, Nat.testBit_two_pow_mul, h8, Nat.testBit_two_pow_mul_add V (by rw [<- h8]; exact hb)]
 by_cases h1 : k <= j
 ·by_cases h2 : k + 8 <= j
  ·have : ¬ (j - k < 8) := by omega
   have hz : b.testBit (j - k) = false := Nat.testBit_lt_two_pow (Nat.lt_of_lt_of_le hb (by rw [h8]; exact Nat.pow_le_pow_right (by omega) (by omega)))
   simp [h1, h2, this, hz]
   congr 1
  ·have : j - k < 8 := by omega
   simp [h1, h2, this]
 ·have h2 : ¬ (k + 8 <= j) := by omega
  simp [h1, h2]
theorem shl_byte {b j : Nat} (hb : b < 256) (hj : j <= 7) : shlI .u64 (b : Int) ((8 * j : Nat) : Int) = ((2 ^ (8 * j) * b : Nat) : Int) := by
 unfold shlI
 have e : min ((8 * j : Nat) : Int).toNat IntKind.u64.bits = 8 * j := by
  rw [Int.toNat_natCast]; simp [IntKind.bits]; omega
 rw [e]
 have : 2 ^ (8 * j) * b < 18446744073709551616 := by
  have h1 : 2 ^ (8 * j) <= 2 ^ 56 := Nat.pow_le_pow_right (by omega) (by omega)
  calc 2 ^ (8 * j) * b <= 2 ^ 56 * 255 := Nat.mul_le_mul h1 (by omega)
   _ < 18446744073709551616 := by decide
 rw [show (b : Int) * 2 ^ (8 * j) = ((2 ^ (8 * j) * b : Nat) : Int) by rw [Nat.mul_comm (2 ^ (8 * j)) b]; simp, u64_wrap_nat this]
def leW : List Nat -> Nat
 | [] => 0
 | b :: l => 256 * leW l + b
theorem leW_lt : ∀ (l : List Nat), (∀ b ∈ l, b < 256) -> leW l < 256 ^ l.length
 | [], _ => by simp [leW]
 | b :: l, h => by
  have := leW_lt l fun c hc => h c (List.mem_cons_of_mem _ hc)
  have hb := h b (by simp)
  simp only [leW, List.length_cons, Nat.pow_succ]; omega
def xorI (x : Int) : List Nat -> Nat -> Int
 | [], _ => x
 | b :: l, j => xorI (bxor .u64 x (shlI .u64 (b : Int) ((8 * j : Nat) : Int))) l (j + 1)
theorem xorI_nat (assoc : ∀ x y z : Int, bxor .u64 (bxor .u64 x y) z = bxor .u64 x (bxor .u64 y z)) : ∀ (b : Nat) (l : List Nat) (j : Nat) (x : Int), (∀ c ∈ b :: l, c < 256) -> j + (b :: l).length <= 8 ->
  xorI x (b :: l) j = bxor .u64 x ((2 ^ (8 * j) * leW (b :: l) : Nat) : Int)
 | b, [], j, x, h, hl => by
  simp only [xorI, leW, List.length_cons, List.length_nil] at hl ⊢
  rw [shl_byte (h b (by simp)) (by omega)]; simp
 | b, c :: l, j, x, h, hl => by
  have ih := xorI_nat assoc c l (j + 1) (bxor .u64 x (shlI .u64 (b : Int) ((8 * j : Nat) : Int))) (fun d hd => h d (List.mem_cons_of_mem _ hd)) (by simp at hl ⊢; omega)
  rw [show xorI x (b :: c :: l) j = xorI (bxor .u64 x (shlI .u64 (b : Int) ((8 * j : Nat) : Int))) (c :: l) (j + 1) from rfl, ih, assoc]
  have hb := h b (by simp)
  have hc : ∀ d ∈ c :: l, d < 256 := fun d hd => h d (List.mem_cons_of_mem _ hd)
  simp only [List.length_cons] at hl
  have hW := leW_lt (c :: l) hc
  have p1 : 2 ^ (8 * j) * b < 18446744073709551616 := by
   have h1 : 2 ^ (8 * j) <= 2 ^ 56 := Nat.pow_le_pow_right (by omega) (by omega)
   calc 2 ^ (8 * j) * b <= 2 ^ 56 * 255 := Nat.mul_le_mul h1 (by omega)
    _ < 18446744073709551616 := by decide
  have p2 : 2 ^ (8 * (j + 1)) * leW (c :: l) < 18446744073709551616 := by
   have e : (256 : Nat) ^ (c :: l).length = 2 ^ (8 * (c :: l).length) := by rw [show (256 : Nat) = 2 ^ 8 from rfl, <- Nat.pow_mul]
   rw [e] at hW
   calc 2 ^ (8 * (j + 1)) * leW (c :: l) < 2 ^ (8 * (j + 1)) * 2 ^ (8 * (c :: l).length) := Nat.mul_lt_mul_of_pos_left hW (Nat.two_pow_pos _)
    _ = 2 ^ (8 * (j + 1) + 8 * (c :: l).length) := by rw [Nat.pow_add]
    _ <= 2 ^ 64 := Nat.pow_le_pow_right (by omega) (by simp only [List.length_cons]; omega)
    _ = 18446744073709551616 := by decide
  rw [shl_byte hb (by omega), bxor_nat p1 p2, show 8 * (j + 1) = 8 * j + 8 by omega, xor_step hb]
  rfl
end Go.Bx
