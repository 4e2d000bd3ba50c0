/- A part of a framework that reads Go code as functions of plain data; or a law about such functions. -/
import Derived.Test.YtebnjboimekljaaCxS
namespace Go.Bx
set_option linter.unusedVariables false
set_option linter.unusedSimpArgs false
open Go Go.RowKit

section
variable {P : Program} {C : Ctx} {G : GE} {fr : List V} {ρ : Operand → Value} {tm : Array Value}

theorem BlkOk.keep {G G2 : GE} (hK : Keep G G2) {i : Nat} {blk : Blk} (h : BlkOk G i blk) (hβ : G2.β i = G.β i) (hσ : G2.σ i = G.σ i) (hw : ∀ b, G.β i = some b → b < G.w.heap.size → G2.w.heap[b]? = G.w.heap[b]?) : BlkOk G2 i blk := by
  cases blk with
  | cell t v z =>
    obtain ⟨b, arr, ty, g1, g2, g3⟩ := h
    exact ⟨b, arr, ty, hβ.trans g1, (hw b g1 (Array.getElem?_eq_some_iff.1 g2).1).trans g2, g3.ext hK⟩
  | buf t l ver z =>
    rcases h with ⟨b, arr, ty, css, cap, rest, g1, g2, g3, g4, g5, g6, g7, g8⟩ | ⟨g1, g2, g3, g4⟩
    · exact .inl ⟨b, arr, ty, css, cap, rest, hβ.trans g1, hσ.trans g2, (hw b g1 (Array.getElem?_eq_some_iff.1 g3).1).trans g3, g4.mono fun _ _ h => h.ext hK.env, g5, g6, g7, g8⟩
    · exact .inr ⟨hβ.trans g1, g2, by rw [hσ]; exact g3.ext hK.env, by rw [hσ]; exact g4⟩
  | map k v l =>
    obtain ⟨b, es, clock, g1, g2, g3, g4⟩ := h
    exact ⟨b, es, clock, hβ.trans g1, (hw b g1 (Array.getElem?_eq_some_iff.1 g2).1).trans g2, g3.mono fun _ _ h => ⟨h.1.ext hK.env, h.2.ext hK.env⟩, g4⟩

/-- what a callee sees of its caller's blocks: its number k is the caller's e k -/
structure Win (G G1 : GE) (e : Nat → Nat) : Prop where
  w : G1.w = G.w
  n0 : G1.n0 = G.w.heap.size
  Bo : ∀ b, G1.Bo b ↔ G1.named b
  I0 : ∀ b m, G1.I0 b m ↔ G.im b m
  ids : ∀ k blk, nthB G1.hp k = some blk → ∃ blk0, nthB G.hp (e k) = some blk0 ∧ G.β (e k) = G1.β k ∧ ∀ m, blk.im m ↔ blk0.im m

theorem Win.named {G1 : GE} {e : Nat → Nat} (h : Win G G1 e) {b : Nat} (hn : G1.named b) : ∃ k blk blk0, nthB G1.hp k = some blk ∧ G1.β k = some b ∧ nthB G.hp (e k) = some blk0 ∧ G.β (e k) = some b ∧ ∀ m, blk.im m ↔ blk0.im m := by
  obtain ⟨k, blk, h1, h2⟩ := hn
  obtain ⟨blk0, g1, g2, g3⟩ := h.ids k blk h1
  exact ⟨k, blk, blk0, h1, h2, g1, g2.trans h2, g3⟩

theorem Win.out {G1 : GE} {e : Nat → Nat} (hR : HRel G) (h : Win G G1 e) : Ext G1.env G.env := by
  refine ⟨fun b m ⟨h1, h2, h3⟩ => ?_, fun b m _ j _ => by show G.w.cell? _ = G1.w.cell? _; rw [h.w]⟩
  rcases h1 with h1 | h1 | h1
  · exact (h.I0 b m).1 h1
  · rw [h.w] at h2; rw [h.n0] at h1; omega
  · obtain ⟨k, blk, blk0, k1, k2, k3, k4, k5⟩ := h.named ((h.Bo b).1 h1)
    exact im_own hR k3 k4 (hR.lt k3 k4) ((k5 m).1 (h3 k blk k1 k2))

theorem Win.inn {G1 : GE} {e : Nat → Nat} (h : Win G G1 e) : Ext G.env G1.env := by
  refine ⟨fun b m hi => ⟨.inl ((h.I0 b m).2 hi), by rw [h.w]; exact hi.2.1, fun k blk k1 k2 => ?_⟩, fun b m _ j _ => by show G1.w.cell? _ = G.w.cell? _; rw [h.w]⟩
  obtain ⟨blk0, g1, g2, g3⟩ := h.ids k blk k1
  exact (g3 m).2 (hi.2.2 _ blk0 g1 (g2.trans k2))

/-- what a callee has done, told by the caller's names -/
structure Back (G G1 G2 G' : GE) (e : Nat → Nat) : Prop where
  w : G'.w = G2.w
  n0 : G'.n0 = G.n0
  Bo : G'.Bo = G.Bo
  I0 : G'.I0 = G.I0
  n0' : G2.n0 = G1.n0
  Bo' : G2.Bo = G1.Bo
  I0' : G2.I0 = G1.I0
  blk : ∀ i blk', nthB G'.hp i = some blk' → (∃ k blk1, e k = i ∧ nthB G2.hp k = some blk1 ∧ G'.β i = G2.β k ∧ G'.σ i = G2.σ k ∧ (∀ m, blk1.im m ↔ blk'.im m) ∧ (Ext G2.env G'.env → BlkOk G2 k blk1 → BlkOk G' i blk')) ∨
    (nthB G.hp i = some blk' ∧ G'.β i = G.β i ∧ G'.σ i = G.σ i ∧ ∀ k blk, nthB G1.hp k = some blk → e k ≠ i)
  old : ∀ i blk, nthB G.hp i = some blk → ∃ blk', nthB G'.hp i = some blk' ∧ ∀ v, SameB G G' i i v v blk blk'

theorem lift {G1 G2 G' : GE} {e : Nat → Nat} (hR : HRel G) (hW : Win G G1 e) (h1 : HRel G2) (t1 : Tr G1 G2) (hB : Back G G1 G2 G' e) : Ext G2.env G'.env ∧ Tr G G' ∧ HRel G' := by
  have hsz : G.w.heap.size ≤ G2.w.heap.size := by rw [← hW.w]; exact t1.size
  have hE2 : Ext G2.env G'.env := by
    refine ⟨fun b m ⟨k1, k2, k3⟩ => ⟨?_, by rw [hB.w]; exact k2, fun i blk' hi hβ => ?_⟩, fun b m _ j _ => by show G'.w.cell? _ = G2.w.cell? _; rw [hB.w]⟩
    · rw [hB.n0, hB.Bo, hB.I0]
      rw [hB.n0', hB.Bo', hB.I0'] at k1
      rcases k1 with k1 | k1 | k1
      · exact ((hW.I0 b m).1 k1).1
      · rw [hW.n0] at k1; exact .inr (.inl (Nat.le_trans hR.base k1))
      · obtain ⟨k, blk, blk0, _, _, q3, q4, _⟩ := hW.named ((hW.Bo b).1 k1)
        exact .inr (hR.own b ⟨_, _, q3, q4⟩)
    · rcases hB.blk i blk' hi with ⟨k, blk1, _, q2, q3, _, q5, _⟩ | ⟨q1, q2, _, q4⟩
      · exact (q5 m).1 (k3 k blk1 q2 (q3 ▸ hβ))
      · rw [q2] at hβ
        rw [hB.n0', hB.Bo', hB.I0'] at k1
        rcases k1 with k1 | k1 | k1
        · exact ((hW.I0 b m).1 k1).2.2 i blk' q1 hβ
        · rw [hW.n0] at k1; have := hR.lt q1 hβ; omega
        · obtain ⟨k, blk, blk0, p1, _, p3, p4, _⟩ := hW.named ((hW.Bo b).1 k1)
          exact absurd (hR.inj _ _ _ _ _ p3 q1 p4 hβ) (q4 k blk p1)
  have hE : Ext G.env G'.env := hW.inn.trans (t1.keep.env.trans hE2)
  have hK : Keep G G' := ⟨hE, fun i ver j u bl hρ hi => by
    simp only [stay, Option.some.injEq, Prod.mk.injEq] at hρ
    obtain ⟨rfl, rfl⟩ := hρ
    obtain ⟨blk', q1, q2⟩ := hB.old i bl hi
    exact ⟨blk', q1, q2 ver⟩⟩
  have hnm : ∀ b, G1.named b → G.named b := fun b hn => by
    obtain ⟨k, blk, blk0, _, _, q3, q4, _⟩ := hW.named hn
    exact ⟨_, _, q3, q4⟩
  have hfr : ∀ b, b < G.w.heap.size → ¬ G1.named b → G'.w.heap[b]? = G.w.heap[b]? := fun b hb hn => by
    rw [hB.w, ← hW.w]
    exact t1.frame b (by rw [hW.w]; exact hb) hn
  have hown : ∀ b, G'.named b → G.w.heap.size ≤ b ∨ G.named b := by
    rintro b ⟨i, blk', hi, hβ⟩
    rcases hB.blk i blk' hi with ⟨k, blk1, _, q2, q3, _⟩ | ⟨q1, q2, _⟩
    · rcases t1.own b ⟨k, blk1, q2, q3 ▸ hβ⟩ with q | q
      · rw [hW.w] at q; exact .inl q
      · exact .inr (hnm b q)
    · exact .inr ⟨i, blk', q1, q2 ▸ hβ⟩
  -- a block of the caller's that the callee does not see
  have hout : ∀ {i blk' b}, nthB G.hp i = some blk' → G.β i = some b → (∀ k blk, nthB G1.hp k = some blk → e k ≠ i) → ¬ G1.named b := fun {i blk' b} q1 q2 q4 hn => by
    obtain ⟨k, blk, blk0, p1, _, p3, p4, _⟩ := hW.named hn
    exact absurd (hR.inj _ _ _ _ _ p3 q1 p4 q2) (q4 k blk p1)
  refine ⟨hE2, ⟨hK, ?_, ?_, ?_, by rw [hB.w]; exact hsz, fun b hb hn => hfr b hb fun h => hn (hnm b h), hown⟩, ⟨fun i blk' hi => ?_, fun i i' blk blk' b hi hi' hβ hβ' => ?_, fun b hn => ?_, ?_⟩⟩
  · rw [hB.w, ← hW.w]; exact t1.os
  · rw [hB.w, ← hW.w]; exact t1.tape
  · rw [hB.w, ← hW.w]; exact t1.output
  · rcases hB.blk i blk' hi with ⟨k, blk1, _, q2, _, _, _, q6⟩ | ⟨q1, q2, q3, q4⟩
    · exact q6 hE2 (h1.blk k blk1 q2)
    · exact (hR.blk i blk' q1).keep hK q2 q3 fun b hb hlt => hfr b hlt (hout q1 hb q4)
  · rcases hB.blk i blk hi with ⟨k, blk1, e1, q2, q3, _⟩ | ⟨q1, q2, _, q4⟩ <;> rcases hB.blk i' blk' hi' with ⟨k', blk1', e1', q2', q3', _⟩ | ⟨q1', q2', _, q4'⟩
    · rw [q3] at hβ; rw [q3'] at hβ'
      rw [← e1, ← e1', h1.inj _ _ _ _ _ q2 q2' hβ hβ']
    · exfalso
      rw [q3] at hβ; rw [q2'] at hβ'
      rcases t1.own b ⟨k, blk1, q2, hβ⟩ with q | q
      · have := hR.lt q1' hβ'; rw [hW.w] at q; omega
      · exact hout q1' hβ' q4' q
    · exfalso
      rw [q3'] at hβ'; rw [q2] at hβ
      rcases t1.own b ⟨k', blk1', q2', hβ'⟩ with q | q
      · have := hR.lt q1 hβ; rw [hW.w] at q; omega
      · exact hout q1 hβ q4 q
    · rw [q2] at hβ; rw [q2'] at hβ'
      exact hR.inj _ _ _ _ _ q1 q1' hβ hβ'
  · rw [hB.n0, hB.Bo]
    rcases hown b hn with q | q
    · exact .inl (Nat.le_trans hR.base q)
    · exact hR.own b q
  · rw [hB.n0, hB.w]; exact Nat.le_trans hR.base hsz

end
end Go.Bx
