/- A part of a framework that reads Go code as functions of plain data; or a law about such functions. -/
import Derived.Test.YtebnjboimekljaaCxE
namespace Go.Bx
set_option linter.unusedVariables false
set_option linter.unusedSimpArgs false
open Go Go.RowKit

/-! ### names of blocks changed -/

def SameB (G G2 : GE) (id j ver u : Nat) : Blk → Blk → Prop
  | .cell t _ _, .cell t2 _ _ => t2 = t ∧ G2.β j = G.β id
  | .buf t l c _, .buf t2 l2 c2 _ => (ver ≤ c → u ≤ c2) ∧ (ver ≤ c → u = c2 → ver = c ∧ t2 = t ∧ G2.β j = G.β id ∧ G2.σ j = G.σ id ∧ (l : List t.den).length ≤ (l2 : List t2.den).length)
  | .map k v _, .map k2 v2 _ => k2 = k ∧ v2 = v ∧ G2.β j = G.β id
  | _, _ => False

structure Mv (ρ : Nat → Nat → Option (Nat × Nat)) (G G2 : GE) : Prop where
  env : Ext G.env G2.env
  blk : ∀ id ver j u blk, ρ id ver = some (j, u) → nthB G.hp id = some blk → ∃ blk2, nthB G2.hp j = some blk2 ∧ SameB G G2 id j ver u blk blk2

theorem AtD.isAgg {E : Env} {t : Ty} {x : t.den} {v : Value} (h : AtD E t x v) : (t.isAgg = true → ∃ c, v = .agg c) ∧ (t.isAgg = false → oneCell v) ∧ v.cells.size = t.size := by
  refine ⟨fun ht => ?_, fun ht => ?_, ?_⟩
  · obtain ⟨c, rfl, _⟩ := h.agg ht; exact ⟨c, rfl⟩
  · exact FlatD.cell _ _ _ (h.one ht) v (by simp)
  · have := FlatD.length _ _ _ h.cells; simpa using this

theorem RefAt.ren {ρ : Nat → Nat → Option (Nat × Nat)} {G G2 : GE} (h : Mv ρ G G2) {id ver j u : Nat} {p : List Step} {v : Value} (hρ : ρ id ver = some (j, u)) (hx : RefAt G id ver p v) : RefAt G2 j u p v := by
  unfold RefAt at hx
  cases hb : nthB G.hp id with
  | none => rw [hb] at hx; exact hx.elim
  | some blk =>
    rw [hb] at hx
    obtain ⟨blk2, g1, g2⟩ := h.blk _ _ _ _ _ hρ hb
    cases blk <;> cases blk2 <;> simp only [SameB] at g2 hx
    · obtain ⟨rfl, g3⟩ := g2
      obtain ⟨b, o, u', h1, h2, h3⟩ := hx
      unfold RefAt; rw [g1]
      exact ⟨b, o, u', by rw [g3]; exact h1, h2, h3⟩
    · unfold RefAt; rw [g1]
      refine ⟨g2.1 hx.1, hx.2.1, fun e => ?_⟩
      obtain ⟨e1, rfl, e2, e3, e4⟩ := g2.2 hx.1 e
      obtain ⟨b, i, q, o, u', h1, h2, h3, h4, h5, h6⟩ := hx.2.2 e1
      exact ⟨b, i, q, o, u', h1, by rw [e2]; exact h2, h3, Nat.lt_of_lt_of_le h4 e4, h5, h6⟩

theorem AppAt.ren {ρ : Nat → Nat → Option (Nat × Nat)} {G G2 : GE} (h : Mv ρ G G2) {id ver j u : Nat} {v : Value} (hρ : ρ id ver = some (j, u)) (hx : AppAt G id ver v) : AppAt G2 j u v := by
  unfold AppAt at hx
  cases hb : nthB G.hp id with
  | none => rw [hb] at hx; exact hx.elim
  | some blk =>
    rw [hb] at hx
    obtain ⟨blk2, g1, g2⟩ := h.blk _ _ _ _ _ hρ hb
    cases blk <;> cases blk2 <;> simp only [SameB] at g2 hx
    unfold AppAt; rw [g1]
    refine ⟨g2.1 hx.1, hx.2.1, fun e => ?_⟩
    obtain ⟨e1, rfl, e2, e3, e4⟩ := g2.2 hx.1 e
    rw [e3]; exact hx.2.2 e1

theorem ViewAt.ren {ρ : Nat → Nat → Option (Nat × Nat)} {G G2 : GE} (h : Mv ρ G G2) {id j u : Nat} {p : List Step} {t : Ty} {n : Nat} {lo hi : Int} {v : Value} (hρ : ρ id 0 = some (j, u)) (hx : ViewAt G id p t n lo hi v) : ViewAt G2 j p t n lo hi v := by
  unfold ViewAt at hx
  cases hb : nthB G.hp id with
  | none => rw [hb] at hx; exact hx.elim
  | some blk =>
    rw [hb] at hx
    obtain ⟨blk2, g1, g2⟩ := h.blk _ _ _ _ _ hρ hb
    cases blk <;> cases blk2 <;> simp only [SameB] at g2 hx
    obtain ⟨rfl, g3⟩ := g2
    unfold ViewAt; rw [g1]
    obtain ⟨b, o, h1, h2⟩ := hx
    exact ⟨b, o, by rw [g3]; exact h1, h2⟩

theorem MapAt.ren {ρ : Nat → Nat → Option (Nat × Nat)} {G G2 : GE} (h : Mv ρ G G2) {id j u : Nat} {v : Value} (hρ : ρ id 0 = some (j, u)) (hx : MapAt G id v) : MapAt G2 j v := by
  unfold MapAt at hx
  cases hb : nthB G.hp id with
  | none => rw [hb] at hx; exact hx.elim
  | some blk =>
    rw [hb] at hx
    obtain ⟨blk2, g1, g2⟩ := h.blk _ _ _ _ _ hρ hb
    cases blk <;> cases blk2 <;> simp only [SameB] at g2 hx
    obtain ⟨rfl, rfl, g3⟩ := g2
    unfold MapAt; rw [g1]
    obtain ⟨b, h1, h2⟩ := hx
    exact ⟨b, by rw [g3]; exact h1, h2⟩

theorem Shp.ren {ρ : Nat → Nat → Option (Nat × Nat)} {a : Ty} {v : V} {x : Value} (h : Shp a v x) : Shp a (ren ρ v) x := by
  refine ⟨fun e => ?_, h.agg, h.one, h.size, fun t y e => ?_, fun t l e => ?_⟩
  · have := h.tree e
    cases v <;> simp only [V.tree] at this <;> first | cases this; done | rfl
  · cases v <;> simp only [Bx.ren] at e <;> first | cases e; done | exact h.data _ _ e | (split at e <;> cases e; done)
  · cases v <;> simp only [Bx.ren] at e <;> first | (cases e; exact h.part _ _ rfl) | (cases e; done) | (split at e <;> cases e; done)

mutual
theorem AtV.ren {ρ : Nat → Nat → Option (Nat × Nat)} {G G2 : GE} (h : Mv ρ G G2) {tm : Array Value} : ∀ (v : V) (x : Value), AtV G tm v x → AtV G2 tm (ren ρ v) x
  | .any, _, _ => by simp only [Bx.ren, AtV]
  | .data _ _, _, hx => by simp only [Bx.ren, AtV] at hx ⊢; exact hx.ext h.env
  | .nilp, _, hx => by simp only [Bx.ren, AtV] at hx ⊢; exact hx
  | .snil, _, hx => by simp only [Bx.ren, AtV] at hx ⊢; exact hx
  | .ref id ver p, x, hx => by
    simp only [AtV] at hx
    cases hρ : ρ id ver with
    | none => simp only [Bx.ren, hρ, AtV]
    | some q => simp only [Bx.ren, hρ, AtV]; exact hx.ren h hρ
  | .iref t y, x, hx => by
    simp only [Bx.ren, AtV] at hx ⊢
    obtain ⟨ad, ds, h1, h2, h3, h4, h5⟩ := hx
    refine ⟨ad, ds, h1, h2, h3.imp id fun ⟨m, hm, hi⟩ => ⟨m, hm, h.env.im _ _ hi⟩, fun j u hj => ?_, h5.ext h.env⟩
    rcases h3 with h3 | ⟨m, hm, hi⟩
    · rw [h3] at hj; simp at hj
    · have hjl : j < ds.length := by
        rcases Nat.lt_or_ge j ds.length with h | h
        · exact h
        · rw [List.getElem?_eq_none h] at hj; cases hj
      rw [← h4 j u hj]
      exact h.env.cell _ _ hi _ (by omega)
  | .tup l, x, hx => by
    simp only [Bx.ren, AtV] at hx ⊢
    obtain ⟨vs, h1, h2⟩ := hx
    exact ⟨vs, h1, AtL.ren h l _ h2⟩
  | .opt d w u, x, hx => by
    simp only [Bx.ren, AtV] at hx ⊢
    exact ⟨fun e => AtV.ren h u x (hx.1 e), hx.2⟩
  | .fn f a b, x, hx => by
    simp only [Bx.ren, AtV] at hx ⊢
    obtain ⟨xs, ys, h1, h2, h3⟩ := hx
    exact ⟨xs, ys, h1, AtL.ren h a _ h2, AtL.ren h b _ h3⟩
  | .full _ _, x, hx => by
    simp only [Bx.ren, AtV] at hx ⊢
    exact ⟨hx.1.ext h.env, hx.2⟩
  | .app id ver, x, hx => by
    simp only [AtV] at hx
    cases hρ : ρ id ver with
    | none => simp only [Bx.ren, hρ, AtV]
    | some q => simp only [Bx.ren, hρ, AtV]; exact hx.ren h hρ
  | .view id p t n lo hi, x, hx => by
    simp only [AtV] at hx
    cases hρ : ρ id 0 with
    | none => simp only [Bx.ren, hρ, AtV]
    | some q => simp only [Bx.ren, hρ, AtV]; exact hx.ren h hρ
  | .agg t l, x, hx => by
    simp only [Bx.ren, AtV] at hx ⊢
    obtain ⟨cs, h1, h2⟩ := hx
    exact ⟨cs, h1, FlatL.ren h t l _ h2⟩
  | .ifc t u, x, hx => by
    simp only [Bx.ren, AtV] at hx ⊢
    obtain ⟨y, h1, h2⟩ := hx
    exact ⟨y, h1, AtV.ren h u y h2⟩
  | .map id, x, hx => by
    simp only [AtV] at hx
    cases hρ : ρ id 0 with
    | none => simp only [Bx.ren, hρ, AtV]
    | some q => simp only [Bx.ren, hρ, AtV]; exact hx.ren h hρ
theorem AtL.ren {ρ : Nat → Nat → Option (Nat × Nat)} {G G2 : GE} (h : Mv ρ G G2) {tm : Array Value} : ∀ (l : List V) (m : List Value), AtL G tm l m → AtL G2 tm (renL ρ l) m
  | [], [], _ => by simp [renL, AtL]
  | v :: l, x :: m, hx => by
    simp only [renL, AtL] at hx ⊢
    exact ⟨AtV.ren h v x hx.1, AtL.ren h l m hx.2⟩
  | [], _ :: _, hx => by simp [AtL] at hx
  | _ :: _, [], hx => by simp [AtL] at hx
theorem FlatL.ren {ρ : Nat → Nat → Option (Nat × Nat)} {G G2 : GE} (h : Mv ρ G G2) : ∀ (t : Ty) (l : List V) (cs : List Value), FlatL G t l cs → FlatL G2 t (renL ρ l) cs
  | t, [], cs, hx => by simpa only [renL, FlatL] using hx
  | t, v :: l, cs, hx => by
    simp only [renL, FlatL] at hx ⊢
    obtain ⟨a, r, x, cs', h1, h2, h3, h4, h5⟩ := hx
    exact ⟨a, r, x, cs', h1, h2, h3.ren, AtV.ren h v x h4, FlatL.ren h r l cs' h5⟩
end

theorem FlatV.ren {ρ : Nat → Nat → Option (Nat × Nat)} {G G2 : GE} (h : Mv ρ G G2) {t : Ty} {v : V} {cs : List Value} (hx : FlatV G t v cs) : FlatV G2 t (Bx.ren ρ v) cs := by
  obtain ⟨x, h1, h2, h3⟩ := hx
  exact ⟨x, h1, h2.ren, AtV.ren h v x h3⟩

/-- every name stays -/
def stay (i v : Nat) : Option (Nat × Nat) := some (i, v)

mutual
theorem ren_stay : ∀ v : V, ren stay v = v
  | .any => rfl | .data _ _ => rfl | .nilp => rfl | .snil => rfl | .ref _ _ _ => rfl | .iref _ _ => rfl | .full _ _ => rfl | .app _ _ => rfl | .view _ _ _ _ _ _ => rfl | .map _ => rfl
  | .tup l => by simp only [Bx.ren, renL_stay l]
  | .opt _ _ v => by simp only [Bx.ren, ren_stay v]
  | .fn _ a b => by simp only [Bx.ren, renL_stay a, renL_stay b]
  | .agg _ l => by simp only [Bx.ren, renL_stay l]
  | .ifc _ v => by simp only [Bx.ren, ren_stay v]
theorem renL_stay : ∀ l : List V, renL stay l = l
  | [] => rfl
  | v :: l => by simp only [renL, ren_stay v, renL_stay l]
end

/-- a world that has gone on: what is named is still there -/
abbrev Keep (G G2 : GE) : Prop := Mv stay G G2

theorem AtV.ext {G G2 : GE} (h : Keep G G2) {tm : Array Value} {v : V} {x : Value} (hx : AtV G tm v x) : AtV G2 tm v x := by
  have := AtV.ren h v x hx; rwa [ren_stay] at this
theorem AtL.ext {G G2 : GE} (h : Keep G G2) {tm : Array Value} {v : List V} {x : List Value} (hx : AtL G tm v x) : AtL G2 tm v x := by
  have := AtL.ren h v x hx; rwa [renL_stay] at this
theorem FlatV.ext {G G2 : GE} (h : Keep G G2) {t : Ty} {v : V} {cs : List Value} (hx : FlatV G t v cs) : FlatV G2 t v cs := by
  have := FlatV.ren h hx; rwa [ren_stay] at this

theorem Ext.refl (E : Env) : Ext E E := ⟨fun _ _ h => h, fun _ _ _ _ _ => rfl⟩
theorem Ext.trans {a b c : Env} (h : Ext a b) (k : Ext b c) : Ext a c := ⟨fun _ _ hi => k.im _ _ (h.im _ _ hi), fun b m hi j hj => (k.cell b m (h.im _ _ hi) j hj).trans (h.cell b m hi j hj)⟩

theorem SameB.refl (G : GE) (id ver : Nat) (b : Blk) (G2 : GE) (h1 : G2.β id = G.β id) (h2 : G2.σ id = G.σ id) : SameB G G2 id id ver ver b b := by
  cases b <;> simp only [SameB]
  · exact ⟨trivial, h1⟩
  · exact ⟨fun h => h, fun _ e => ⟨e, trivial, h1, h2, Nat.le_refl _⟩⟩
  · exact ⟨trivial, trivial, h1⟩

theorem Keep.refl (G : GE) : Keep G G := ⟨Ext.refl _, fun id ver j u blk hρ hb => by
  simp only [stay, Option.some.injEq, Prod.mk.injEq] at hρ
  obtain ⟨rfl, rfl⟩ := hρ
  exact ⟨blk, hb, SameB.refl G id ver blk G rfl rfl⟩⟩

theorem SameB.trans {G1 G2 G3 : GE} {i ver : Nat} {a b c : Blk} (h : SameB G1 G2 i i ver ver a b) (k : ∀ v, SameB G2 G3 i i v v b c) : SameB G1 G3 i i ver ver a c := by
  cases a <;> cases b <;> simp only [SameB] at h
  · cases c <;> have k := k 0 <;> simp only [SameB] at k
    exact ⟨k.1.trans h.1, k.2.trans h.2⟩
  · cases c <;> have k0 := k ver <;> simp only [SameB] at k0
    refine ⟨fun hv => k0.1 (h.1 hv), fun hv e => ?_⟩
    obtain ⟨e1, e2, e3, e4, e5⟩ := k0.2 (h.1 hv) e
    obtain ⟨f1, f2, f3, f4, f5⟩ := h.2 hv e1
    exact ⟨f1, e2.trans f2, e3.trans f3, e4.trans f4, Nat.le_trans f5 e5⟩
  · cases c <;> have k := k 0 <;> simp only [SameB] at k
    exact ⟨k.1.trans h.1, k.2.1.trans h.2.1, k.2.2.trans h.2.2⟩

theorem Keep.trans {a b c : GE} (h : Keep a b) (k : Keep b c) : Keep a c := ⟨h.env.trans k.env, fun id ver j u blk hρ hb => by
  simp only [stay, Option.some.injEq, Prod.mk.injEq] at hρ
  obtain ⟨rfl, rfl⟩ := hρ
  obtain ⟨b2, g1, g2⟩ := h.blk id ver id ver blk rfl hb
  obtain ⟨b3, g3, g4⟩ := k.blk id ver id ver b2 rfl g1
  refine ⟨b3, g3, g2.trans fun v => ?_⟩
  obtain ⟨b3', g3', g4'⟩ := k.blk id v id v b2 rfl g1
  rw [g3] at g3'; cases g3'; exact g4'⟩

/-- what stands behind a piece of work: the streams as they were, no block turned but those that are named -/
structure Tr (G G2 : GE) : Prop where
  keep : Keep G G2
  os : G2.w.os = G.w.os
  tape : G2.w.tape = G.w.tape
  output : G2.w.output = G.w.output
  size : G.w.heap.size ≤ G2.w.heap.size
  frame : ∀ b, b < G.w.heap.size → ¬ G.named b → G2.w.heap[b]? = G.w.heap[b]?
  own : ∀ b, G2.named b → G.w.heap.size ≤ b ∨ G.named b

theorem Tr.refl (G : GE) : Tr G G := ⟨Keep.refl G, rfl, rfl, rfl, Nat.le_refl _, fun _ _ _ => rfl, fun _ h => .inr h⟩

theorem Tr.trans {a b c : GE} (h : Tr a b) (k : Tr b c) : Tr a c :=
  ⟨h.keep.trans k.keep, k.os.trans h.os, k.tape.trans h.tape, k.output.trans h.output, Nat.le_trans h.size k.size,
    fun x hx hn => (k.frame x (Nat.lt_of_lt_of_le hx h.size) (fun hb => (h.own x hb).elim (fun h => absurd hx (Nat.not_lt.2 h)) hn)).trans (h.frame x hx hn),
    fun x hx => (k.own x hx).elim (fun h' => .inl (Nat.le_trans h.size h')) (h.own x)⟩

end Go.Bx
