/- A part of a framework that reads Go code as functions of plain data; or a law about such functions. -/
import Derived.Test.YtbkkahkikjifkaaLawGuardSame
import Derived.Test.YtbkkahkikjifkaaFnGuardSees0
namespace Go.Bx
open Go
set_option linter.unusedSimpArgs false
set_option linter.unusedVariables false
def idB (b : BodyD) : Int := IntKind.i64.wrap (IntKind.i64.wrap (b.2.2.1 * 256) + b.2.2.2.2.1)
theorem id_run (b : BodyD) : guard_Id.run b = some (idB b) := rfl
theorem idOf_run (b : BodyD) : basculeref_IdOf.run b = some (idB b) := by
 unfold basculeref_IdOf.run basculeref_IdOf.top idB
 rw [Int.mul_comm]
def rmv (id : Int) : List BodyD -> Option (BodyD × List BodyD)
 | [] => none
 | b :: l => if idB b = id then some (b, l) else (rmv id l).map fun p => (p.1, b :: p.2)
def mv1 (id : Int) (H D : List BodyD) : List BodyD × List BodyD := match rmv id H with
 | none => (H, D)
 | some p => (p.2, D ++ [p.1])
def mv : List Int -> List BodyD -> List BodyD -> List BodyD × List BodyD
 | [], H, D => (H, D)
 | id :: l, H, D => mv l (mv1 id H D).1 (mv1 id H D).2
section
variable {α : Type} (K : Nat) (ids : List Int) (hi : ids.length <= 1000) (c0 c1 c2 c3 : List QD) (c4 c5 : List Int) (c6 : List BodyD) (p0 p10 p11 : List Int) (p12 : Int) (g : GateD) (q0 q10 q11 : List Int) (q12 : Int) (q20 q21 : List Int) (q22 : Int)
end
end Go.Bx
