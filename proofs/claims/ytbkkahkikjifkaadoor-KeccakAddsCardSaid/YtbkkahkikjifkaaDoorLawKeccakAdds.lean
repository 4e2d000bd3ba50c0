/- A part of a framework that reads Go code as functions of plain data; or a law about such functions. -/
import Derived.Test.YtbkkahkikjifkaaDoorLawSponge
import Derived.Test.YtbkkahkikjifkaaDoorFnKeccakAdds0
namespace Go.Bx
open Go
set_option linter.unusedSimpArgs false
set_option linter.unusedVariables false
set_option maxRecDepth 100000

theorem law_KeccakAdds (x : (Ty.pair SpT (.pair (.sl (.int .u8)) .unit)).den) (h : Fit reachK (.pair SpT (.pair (.sl (.int .u8)) .unit)) x) : basculelaw_KeccakAdds.run x.1 x.2.1 = some true := by
  obtain ⟨⟨a, hd, N, ⟨⟩⟩, b, ⟨⟩⟩ := x
  obtain ⟨⟨⟨ha, _⟩, ⟨hh, ho⟩, _⟩, ⟨hr, hm, hob⟩, _⟩ := h
  have hbl : b.length ≤ 4611686018427387904 := by
    have : b.length * (Ty.int .u8).bytes ≤ reachBytes := hr
    simp only [Ty.bytes, IntKind.bits, reachBytes] at this
    omega
  obtain ⟨k1, k2⟩ := added (N := N) ha hh (oct_fit ho) (oct_fit hob) hbl
  have : ∃ s e, keccak_Add.run (a, hd, N, ()) b = some (s, e, ()) ∧ basculeref_Soaked.run (a, hd, N, ()) b = some (s, e, ()) := by
    cases hb : badS hd N with
    | true => exact ⟨_, _, k1 hb⟩
    | false =>
      obtain ⟨p, p1, p2, p3⟩ := badS_not hh hb
      exact ⟨_, _, k2 p p1 p2 p3 hb⟩
  obtain ⟨s, e, e1, e2⟩ := this
  show basculelaw_KeccakAdds.run (a, hd, N, ()) b = some true
  unfold basculelaw_KeccakAdds.run basculelaw_KeccakAdds.top
  rw [e1, e2]
  simp only [Option.bind_some]
  rw [beqD_refl SpT s rfl]
  simp only [BEq.rfl, cond_true, if_true]
  unfold keccak_Begin.run keccak_Begin.top
  simp only [Option.bind_some]
  rw [beqD_refl SpT _ rfl]

end Go.Bx
