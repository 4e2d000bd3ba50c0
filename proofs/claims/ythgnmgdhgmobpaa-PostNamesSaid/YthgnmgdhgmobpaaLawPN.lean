/- A part of a framework that reads Go code as functions of plain data; or a law about such functions. -/
import Derived.Test.YthgnmgdhgmobpaaFnPostNames0
import Derived.Test.YthgnmgdhgmobpaaBxU
namespace Go.Bx
open Go
set_option linter.unusedSimpArgs false
set_option linter.unusedVariables false
set_option maxRecDepth 100000
theorem pv : post_Vault.run = some (List.replicate 32 255) := by kernel_rfl
theorem rv : basculeref_Vault.run = some (List.replicate 32 255) := by kernel_rfl
theorem rr : basculeref_Ruler.run = some (List.set (List.replicate 32 0) 0 7) := by kernel_rfl
theorem rw176 : basculeref_word.run [176] = some (List.set (List.replicate 32 0) 0 176) := by kernel_rfl

theorem beqL_refl {α : Type} {f : α → α → Bool} (h : ∀ a, f a a = true) : ∀ l : List α, beqL f l l = true
  | [] => rfl
  | a :: l => by simp [beqL, h a, beqL_refl h l]

theorem beqD_int_arr (n : Nat) (k : IntKind) (l : List Int) : beqD (.arr n (.int k)) l l = true := by
  show beqL (beqD (.int k)) l l = true
  exact beqL_refl (fun a => by simp [beqD]) l

theorem law_PN (x : Int) : basculelaw_PostNames.run x = some true := by
  simp only [basculelaw_PostNames.run, basculelaw_PostNames.top, post_Emitter.run, post_Emitter.top, pv, post_Ruler.run, post_Ruler.top, basculeref_EmitterOf.run, basculeref_EmitterOf.top, rv, rr, rw176, Option.bind_some, beqD_int_arr, cond_true]

theorem law_PostNames (x : (Ty.pair (.int .i64) .unit).den) (_ : Fit reachK (.pair (.int .i64) .unit) x) : basculelaw_PostNames.run x.1 = some true := law_PN x.1
end Go.Bx
