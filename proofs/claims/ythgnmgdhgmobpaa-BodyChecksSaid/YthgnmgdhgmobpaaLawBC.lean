/- A part of a framework that reads Go code as functions of plain data; or a law about such functions. -/
import Derived.Test.YthgnmgdhgmobpaaFnBodyChecks0
import Derived.Test.YthgnmgdhgmobpaaBxU
namespace Go.Bx
open Go
set_option linter.unusedSimpArgs false
set_option linter.unusedVariables false
set_option maxRecDepth 100000

def bodyIn (a m : Int) : Bool := cond (decide (0 ≤ a)) (decide (a ≤ m)) false

theorem body_loop {α : Type} (k n : Nat) (R : Int → Option α) (X : (Int × Int × Int × List Int × Int × Int × List Int × Unit) → Option α) (a b c d e A B C D E : Int) (s : Int × Int × Int × List Int × Int × Int × List Int × Unit) :
    basculeref_BodyFault.l0 k R X (n + 6) [[a, A], [b, B], [c, C], [d, D], [e, E]] 5 0 s =
      if (not (bodyIn a A)) = true then R 6 else if (not (bodyIn b B)) = true then R 6 else if (not (bodyIn c C)) = true then R 6 else if (not (bodyIn d D)) = true then R 6 else if (not (bodyIn e E)) = true then R 6 else X s := by
  kernel_rfl

theorem law_BC (x : Int × Int × Int × List Int × Int × Int × List Int × Unit) : basculelaw_BodyChecks.run x = some true := by
  obtain ⟨n, hn⟩ : ∃ n, fuel = n + 6 := ⟨2 ^ 64 - 6, rfl⟩
  have hc : ∀ a m : Int, paper_Check_1.run a m = some (bodyIn a m) := fun a m => rfl
  simp only [basculelaw_BodyChecks.run, basculelaw_BodyChecks.top, paper_Check.run, paper_Check.top, basculeref_BodyFault.run, basculeref_BodyFault.top, basculeref_BodyFault.j0, hn, body_loop, hc, Option.bind_some]
  generalize bodyIn x.1 1099511627776 = b1
  generalize bodyIn x.2.1 4294967295 = b2
  generalize bodyIn x.2.2.1 65535 = b3
  generalize bodyIn x.2.2.2.2.1 1099511627776 = b4
  generalize bodyIn x.2.2.2.2.2.1 255 = b5
  generalize (decide ((x.2.2.2.2.2.2.1.length : Int) > 300)) = b6
  cases b1 <;> cases b2 <;> cases b3 <;> cases b4 <;> cases b5 <;> cases b6 <;> rfl

theorem law_BodyChecks (x : (Ty.pair (.pair (.int .i64) (.pair (.int .i64) (.pair (.int .i64) (.pair (.arr 32 (.int .u8)) (.pair (.int .i64) (.pair (.int .i64) (.pair (.sl (.int .u8)) .unit))))))) .unit).den)
    (_ : Fit reachK (.pair (.pair (.int .i64) (.pair (.int .i64) (.pair (.int .i64) (.pair (.arr 32 (.int .u8)) (.pair (.int .i64) (.pair (.int .i64) (.pair (.sl (.int .u8)) .unit))))))) .unit) x) : basculelaw_BodyChecks.run x.1 = some true := law_BC x.1
end Go.Bx
