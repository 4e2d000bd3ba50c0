/- A part of a framework that reads Go code as functions of plain data; or a law about such functions. -/
import Derived.Test.YtbkkahkikjifkaaDoorFrame3
namespace Go.Bx
set_option linter.unusedVariables false
set_option linter.unusedSimpArgs false
open Go
theorem wrap_in {k : IntKind} {x : Int} (h : inR k x = true) : k.wrap x = x:=by
 rw [inR_iff] at h
 obtain ⟨h1,h2⟩:=h
 cases k <;> simp only [IntKind.wrap,IntKind.min,IntKind.max,IntKind.bits,IntKind.signed] at * <;> simp at * <;> omega
theorem wrap_i64 {x : Int} (h1 : -9223372036854775808 <= x) (h2 : x <= 9223372036854775807) : IntKind.i64.wrap x = x :=
 wrap_in (by rw [inR_iff]; simp only [IntKind.min,IntKind.max,IntKind.bits,IntKind.signed]; simp; omega)
theorem wrap_u64 {x : Int} (h1 : 0 <= x) (h2 : x <= 18446744073709551615) : IntKind.u64.wrap x = x :=
 wrap_in (by rw [inR_iff]; simp only [IntKind.min,IntKind.max,IntKind.bits,IntKind.signed]; simp; omega)
theorem inR_u64 {x : Int} : inR .u64 x = true ↔ 0 <= x /\ x <= 18446744073709551615:=by
 rw [inR_iff]; simp only [IntKind.min,IntKind.max,IntKind.bits,IntKind.signed]; simp
theorem getD_eq {α : Type} {l : List α} {i : Nat} {d : α} (h : i < l.length) : l.getD i d = l[i]:=by simp [List.getD,List.getElem?_eq_getElem h]
end Go.Bx
