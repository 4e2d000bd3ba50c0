/- A part of a framework that reads Go code as functions of plain data; or a law about such functions. -/
import Derived.Test.YtbkkahkikjifkaaDoorLawBodySum
import Derived.Test.YtbkkahkikjifkaaDoorLawSameBytes
import Derived.Test.YtbkkahkikjifkaaDoorFnBodyWrites0
namespace Go.Bx
open Go
set_option linter.unusedSimpArgs false
set_option linter.unusedVariables false
set_option maxRecDepth 100000
theorem bytes_ref {b : BodyD} (hw : b.2.2.2.1.length = 32) : basculeref_BodyBytes.run b = some (if bodyE b = 0 then (bodyT b, 0, ()) else ([], bodyE b, ())) := by
 unfold basculeref_BodyBytes.run basculeref_BodyBytes.top
 rw [body_fault]
 simp only [Option.bind_some]
 by_cases he : bodyE b = 0
 ·rw [if_neg (show ¬ (bodyE b != 0) = true by simpa using he), if_pos he, bodyText_run b hw he]
  rfl
 ·rw [if_pos (show (bodyE b != 0) = true by simpa using he), if_neg he]
theorem bodyWrites_all (b : BodyD) (hw : b.2.2.2.1.length = 32) (h1 : Oct b.2.2.2.1) (h2 : Oct b.2.2.2.2.2.2.1) : basculelaw_BodyWrites.run b = some true := by
 have e1 := bytes_prog hw
 have e2 := bytes_ref hw
 obtain ⟨s1, s2⟩ := bsum_both hw h1 h2
 unfold basculelaw_BodyWrites.run basculelaw_BodyWrites.top
 rw [e1, s1, e2, s2]
 simp only [Option.bind_some]
 rw [sameBytes_refl, beqD_refl (.arr 32 (.int .u8)) _ rfl]
 simp
theorem law_BodyWrites (x : basculelaw_BodyWrites.F.ps.den) (h : Fit reachK basculelaw_BodyWrites.F.ps x) : basculelaw_BodyWrites.run x.1 = some true := by
 obtain ⟨b, ⟨⟩⟩ := x
 obtain ⟨⟨_, _, _, ⟨hw, h1⟩, _, _, ⟨_, _, h2⟩, _⟩, _⟩ := h
 exact bodyWrites_all b hw (oct_fit h1) (oct_fit h2)
end Go.Bx
