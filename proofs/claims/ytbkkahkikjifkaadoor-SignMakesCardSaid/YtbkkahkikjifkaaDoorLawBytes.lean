/- A part of a framework that reads Go code as functions of plain data; or a law about such functions. -/
import Derived.Test.YtbkkahkikjifkaaDoorLawByte
import Derived.Test.YtbkkahkikjifkaaDoorFnSignMakes1
namespace Go.Bx
open Go
set_option linter.unusedSimpArgs false
set_option linter.unusedVariables false
set_option maxRecDepth 100000
theorem text4_run (l : List Int) : basculeref_text.run l = some (txt l) := by
 have h8 : ∀ x : Int, basculeref_big.run x 8 = some (be x 8) := fun x => big_run x 8 (by omega)
 unfold basculeref_text.run basculeref_text.top
 simp only [h8, Option.bind_some]
 rw [if_pos (ble_le (by simp [be_len])), if_pos (ble_le (by simp [be_len])), if_pos (ble_le (by simp [be_len]))]
 rfl
def bytA (x : Int) (n : Int) : Int := IntKind.u8.wrap (shrI .u64 x n)
def be8A (x : Int) : List Int := [bytA x 56, bytA x 48, bytA x 40, bytA x 32, bytA x 24, bytA x 16, bytA x 8, bytA x 0]
theorem wideBytes4 (a b c d : Int) : wide_Bytes.run [a, b, c, d] = some (be8A d ++ be8A c ++ be8A b ++ be8A a) := by kernel_rfl
theorem be8A_eq (x : Int) : be8A x = be x 8 := by
 have h : ∀ n : Nat, n <= 64 -> bytA x (n : Int) = byt x n := fun n hn => shr_byt .u64 x n hn
 unfold be8A
 have e0 : bytA x 0 = byt x 0 := h 0 (by decide)
 have e1 : bytA x 8 = byt x 8 := h 8 (by decide)
 have e2 : bytA x 16 = byt x 16 := h 16 (by decide)
 have e3 : bytA x 24 = byt x 24 := h 24 (by decide)
 have e4 : bytA x 32 = byt x 32 := h 32 (by decide)
 have e5 : bytA x 40 = byt x 40 := h 40 (by decide)
 have e6 : bytA x 48 = byt x 48 := h 48 (by decide)
 have e7 : bytA x 56 = byt x 56 := h 56 (by decide)
 rw [e7, e6, e5, e4, e3, e2, e1, e0]
 rfl
theorem wideBytes_run (l : List Int) (h : l.length = 4) : wide_Bytes.run l = some (txt l) := by
 obtain ⟨a, b, c, d, rfl⟩ := four_of_len h
 rw [wideBytes4]
 simp only [be8A_eq]
 rfl
end Go.Bx
