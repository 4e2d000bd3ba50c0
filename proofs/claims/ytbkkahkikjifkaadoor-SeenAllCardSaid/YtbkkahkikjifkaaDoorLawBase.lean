/- A part of a framework that reads Go code as functions of plain data; or a law about such functions. -/
import Derived.Test.YtbkkahkikjifkaaDoorLawBits
namespace Go.Bx
set_option linter.unusedVariables false
set_option linter.unusedSimpArgs false
open Go
theorem fitB_small {n b : Nat} (hn : n <= 4194304) (hb : b <= 33554432) : fitB n b = true:=by
 unfold fitB
 rw [Bool.and_eq_true]
 constructor
 ·apply Nat.ble_eq_true_of_le
  calc n * b <= 4194304 * 33554432:=Nat.mul_le_mul hn hb
   _ <= 140737488355328:=by decide
 ·exact Nat.ble_eq_true_of_le (by omega)
theorem fuel_big : fuel = 18446744073709551616:=rfl
theorem i64_succ {i : Nat} (h : i < 9223372036854775807) : IntKind.i64.wrap ((i : Int) + 1) = ((i + 1 : Nat) : Int):=by
 rw [wrap_i64 (by omega) (by omega)]; simp
theorem toNat_nat (i : Nat) : Int.toNat (i : Int) = i:=rfl
theorem beqL_refl {α : Type} {f : α->α->Bool} : ∀ (l : List α),(∀ a ∈ l,f a a = true)->beqL f l l = true
 | [],_=>rfl
 | a :: l,h=>by simp [beqL,h a (by simp),beqL_refl l fun b hb=>h b (List.mem_cons_of_mem _ hb)]
theorem beqD_refl : ∀ (t : Ty) (x : t.den),t.cmp = true->beqD t x x = true
 | .int _,x,_=>by simp [beqD]
 | .bool,x,_=>by simp [beqD]
 | .str,x,_=>by simp [beqD]
 | .arr n t,x,h=>by simp only [beqD]; exact beqL_refl x fun a _=>beqD_refl t a (by simpa [Ty.cmp] using h)
 | .unit,_,_=>rfl
 | .pair a b,x,h=>by
  simp only [Ty.cmp,Bool.and_eq_true] at h
  simp only [beqD,beqD_refl a _ h.1,beqD_refl b _ h.2]; rfl
 | .sl _,_,h=>by simp [Ty.cmp] at h
 | .opq,_,h=>by simp [Ty.cmp] at h
end Go.Bx
