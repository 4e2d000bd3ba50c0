/- A part of a framework that reads Go code as functions of plain data; or a law about such functions. -/
import Derived.Test.YtbkkahkikjifkaaDoorLawRing
import Derived.Test.YtbkkahkikjifkaaDoorLawPower
namespace Go.Bx.Rg
open Go Go.Bx
set_option linter.unusedSimpArgs false
set_option linter.unusedVariables false
section
variable {M : Int} (hM : 1 < M /\ M < M256)
include hM
theorem powerN {a x : Int} (ha : 0 <= a /\ a < M) (hx : 0 <= x /\ x < M256) : basculeref_power.run (mk a) (mk x) (mk M) = some (mk (a ^ x.toNat % M)) := by
 obtain ⟨r, e1, w, v⟩ := power_run (mk_w a) (mk_w x) (mk_w M) (by rw [inM hM ha, valM hM]; exact ha.2)
 rw [inM hM ha, mk_val hx, valM hM] at v
 rw [e1, mk_eq w v]
end
end Go.Bx.Rg
