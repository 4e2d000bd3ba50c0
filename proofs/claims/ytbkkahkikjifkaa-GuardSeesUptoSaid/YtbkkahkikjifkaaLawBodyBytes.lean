/- A part of a framework that reads Go code as functions of plain data; or a law about such functions. -/
import Derived.Test.YtbkkahkikjifkaaLawPen
import Derived.Test.YtbkkahkikjifkaaFnGuardSees1
namespace Go.Bx
open Go
set_option linter.unusedSimpArgs false
set_option linter.unusedVariables false
set_option maxRecDepth 100000
theorem bytes_prog {b : BodyD} (hw : b.2.2.2.1.length = 32) : paper_Bytes.run b = some (if bodyE b = 0 then (bodyT b, 0, ()) else ([], bodyE b, ())) := by
 unfold paper_Bytes.run paper_Bytes.top
 rw [body_check]
 simp only [Option.bind_some]
 by_cases he : bodyE b = 0
 ·obtain ⟨_, _, _, _, _, h6⟩ := bodyE_ok he
  rw [if_neg (show ¬ (bodyE b != 0) = true by simpa using he), if_pos he, pen_body b [] hw h6 (by simp)]
  rfl
 ·rw [if_pos (show (bodyE b != 0) = true by simpa using he), if_neg he]
end Go.Bx
