/- A part of a framework that reads Go code as functions of plain data; or a law about such functions. -/
import Derived.Test.YtbkkahkikjifkaaDoorLawEnd
import Derived.Test.YtbkkahkikjifkaaDoorFnKeccakEnds0
namespace Go.Bx
open Go
set_option linter.unusedSimpArgs false
set_option linter.unusedVariables false
set_option maxRecDepth 100000

theorem law_KeccakEnds (x : (Ty.pair SpT .unit).den) (h : Fit reachK (.pair SpT .unit) x) : basculelaw_KeccakEnds.run x.1 = some true := by
  obtain ⟨⟨a, hd, N, ⟨⟩⟩, ⟨⟩⟩ := x
  obtain ⟨⟨⟨ha, _⟩, ⟨hh, ho⟩, _⟩, _⟩ := h
  obtain ⟨k1, k2⟩ := ended (N := N) ha hh (oct_fit ho)
  have : ∃ s e, keccak_End.run (a, hd, N, ()) = some (s, e, ()) ∧ basculeref_Wrung.run (a, hd, N, ()) = some (s, e, ()) := by
    cases hb : badS hd N with
    | true => exact ⟨_, _, k1 hb⟩
    | false =>
      obtain ⟨p, p1, p2, p3⟩ := badS_not hh hb
      exact ⟨_, _, k2 p p1 p2 p3 hb⟩
  obtain ⟨s, e, e1, e2⟩ := this
  show basculelaw_KeccakEnds.run (a, hd, N, ()) = some true
  unfold basculelaw_KeccakEnds.run basculelaw_KeccakEnds.top
  rw [e1, e2]
  simp only [Option.bind_some]
  rw [beqD_refl (.arr 32 (.int .u8)) s rfl]
  simp only [BEq.rfl, cond_true]

end Go.Bx
