/- A part of a framework that reads Go code as functions of plain data; or a law about such functions. -/
import Derived.Test.YthgnmgdhgmobpaaBxI
namespace Go.Bx
open Go Go.RowKit

structure GExt (G G' : GE) : Prop where
  env : Ext G.env G'.env
  ref : ∀ id τ c b, nthB G.hp id = some (.var τ c) → G.β id = some b → ∃ c', nthB G'.hp id = some (.var τ c') ∧ G'.β id = some b

mutual
theorem AtV.ext {G G' : GE} (h : GExt G G') {tm : Array Value} : ∀ (v : V) (x : Value), AtV G tm v x → AtV G' tm v x
  | .any, _, _ => .any
  | .data _ _, _, hx => by simp only [AtV] at hx ⊢; exact hx.ext h.env
  | .nilp, _, hx => by simp only [AtV] at hx ⊢; exact hx
  | .snil, _, hx => by simp only [AtV] at hx ⊢; exact hx
  | .ref id p, x, hx => by
    simp only [AtV] at hx ⊢
    obtain ⟨b, τ, c, o, u, h1, h2, h3, h4⟩ := hx
    obtain ⟨c', g1, g2⟩ := h.ref _ _ _ _ h1 h2
    exact ⟨b, τ, c', o, u, g1, g2, h3, h4⟩
  | .iref t y, x, hx => by
    simp only [AtV] at hx ⊢
    obtain ⟨ad, ds, h1, h2, h3, h4, h5⟩ := hx
    refine ⟨ad, ds, h1, h2, h3.imp id fun ⟨m, hm, hi⟩ => ⟨m, hm, h.env.im _ _ hi⟩, fun j u hj => ?_, h5.ext h.env⟩
    rcases h3 with h3 | ⟨m, hm, hi⟩
    · rw [h3] at hj; simp at hj
    · have hjl : j < ds.length := by
        rcases Nat.lt_or_ge j ds.length with h | h
        · exact h
        · rw [List.getElem?_eq_none h] at hj; cases hj
      rw [← h4 j u hj]
      exact h.env.cell _ _ hi _ (by omega)
  | .tup l, x, hx => by
    simp only [AtV] at hx ⊢
    obtain ⟨vs, h1, h2⟩ := hx
    exact ⟨vs, h1, AtL.ext h l _ h2⟩
  | .opt d w u, x, hx => by
    simp only [AtV] at hx ⊢
    exact ⟨fun e => AtV.ext h u x (hx.1 e), hx.2⟩
  | .fn f [], x, hx => by simp only [AtV] at hx ⊢; exact hx
  | .fn f (_ :: _), x, hx => by simp [AtV] at hx
  | .full _ _, x, hx => by
    simp only [AtV] at hx ⊢
    exact ⟨hx.1.ext h.env, hx.2⟩
theorem AtL.ext {G G' : GE} (h : GExt G G') {tm : Array Value} : ∀ (l : List V) (m : List Value), AtL G tm l m → AtL G' tm l m
  | [], [], _ => by simp [AtL]
  | v :: l, x :: m, hx => by
    simp only [AtL] at hx ⊢
    exact ⟨AtV.ext h v x hx.1, AtL.ext h l m hx.2⟩
  | [], _ :: _, hx => by simp [AtL] at hx
  | _ :: _, [], hx => by simp [AtL] at hx
end

section
variable {P : Program} {C : Ctx} {w0 : World} {I0 : Nat → Nat → Prop} {S : St} {a : Act} {w : World} {β : Nat → Option Nat}

theorem nth_map (f : V → V) (hf : f .any = .any) : ∀ (l : List V) (i : Nat), nth (l.map f) i = f (nth l i)
  | [], _ => hf.symm
  | _ :: _, 0 => rfl
  | _ :: l, i + 1 => by simpa [nth] using nth_map f hf l i

theorem nth_set (v : V) : ∀ (l : List V) (d i : Nat), nth (l.set d v) i = if d = i ∧ i < l.length then v else nth l i
  | [], d, i => by simp [nth]
  | _ :: _, 0, 0 => by simp [nth]
  | _ :: _, 0, i + 1 => by simp [nth]
  | _ :: _, d + 1, 0 => by simp [nth]
  | _ :: l, d + 1, i + 1 => by
    simp only [List.set_cons_succ, nth, List.length_cons, Nat.add_right_cancel_iff, Nat.add_lt_add_iff_right]
    exact nth_set v l d i

theorem nthB_set (c : Option Blk) : ∀ (l : List (Option Blk)) (d i : Nat), nthB (l.set d c) i = if d = i ∧ i < l.length then c else nthB l i
  | [], d, i => by simp [nthB]
  | _ :: _, 0, 0 => by simp [nthB]
  | _ :: _, 0, i + 1 => by simp [nthB]
  | _ :: _, d + 1, 0 => by simp [nthB]
  | _ :: l, d + 1, i + 1 => by
    simp only [List.set_cons_succ, nthB, List.length_cons, Nat.add_right_cancel_iff, Nat.add_lt_add_iff_right]
    exact nthB_set c l d i

/-- a slot that is written leaves the others as they are: what hung on it is let go -/
theorem untag_at {G : GE} {tm : Array Value} {d : Nat} {y : Value} {v : V} {x : Value} (h : AtV G tm v x) : AtV G (tm.setIfInBounds d y) (untagD d v) x := by
  cases v with
  | opt d' w u =>
    simp only [untagD]
    split
    · exact .any
    · rename_i hd
      have hne : d ≠ d' := fun e => hd (by rw [e]; exact Nat.beq_refl d')
      simp only [AtV] at h ⊢
      rw [Array.getElem?_setIfInBounds_ne hne]
      exact h
  | fn f l => cases l <;> (simp only [untagD, AtV] at h ⊢; try exact h)
  | _ => simp only [untagD, AtV] at h ⊢ <;> exact h

theorem Rel.mk' {w0 : World} {I0} {S S' : St} {a a' : Act} {w w' : World} {β β' : Nat → Option Nat} (_h : Rel w0 I0 S a w β) (hb : Below w0.heap.size w0 w') (hd : a'.defers = []) (hs : a'.tmps.size = S'.fr.length)
    (hf : ∀ i v, a'.tmps[i]? = some v → AtV ⟨w', β', S'.hp, w0.heap.size, I0⟩ a'.tmps (nth S'.fr i) v)
    (hp : ∀ id blk, nthB S'.hp id = some blk → BlkOk ⟨w', β', S'.hp, w0.heap.size, I0⟩ id blk)
    (ho : ∀ id blk b, nthB S'.hp id = some blk → β' id = some b → w0.heap.size ≤ b)
    (hi : ∀ id id' blk blk' b, nthB S'.hp id = some blk → nthB S'.hp id' = some blk' → β' id = some b → β' id' = some b → id = id') : Rel w0 I0 S' a' w' β' :=
  ⟨hb, hd, hs, hf, hp, ho, hi⟩

theorem length_setF (fr : List V) (d : Option Nat) (v : V) : (setF fr d v).length = fr.length := by
  cases d <;> simp [setF]

/-- the frame behind a write to a slot, in a world that has grown -/
theorem Rel.frame (h : Rel w0 I0 S a w β) {w' : World} {β' : Nat → Option Nat} {hp' : List (Option Blk)} (hG : GExt ⟨w, β, S.hp, w0.heap.size, I0⟩ ⟨w', β', hp', w0.heap.size, I0⟩) (dst : Option Nat) (v : V) (x : Value)
    (hx : ∀ d, dst = some d → AtV ⟨w', β', hp', w0.heap.size, I0⟩ (a.put dst x).tmps v x) :
    ∀ i y, (a.put dst x).tmps[i]? = some y → AtV ⟨w', β', hp', w0.heap.size, I0⟩ (a.put dst x).tmps (nth (setF S.fr dst v) i) y := by
  intro i y hy
  cases dst with
  | none => exact AtV.ext hG _ _ (h.fr i y hy)
  | some d =>
    simp only [setF]
    rw [nth_set, nth_map _ rfl]
    simp only [Act.put] at hy ⊢
    by_cases hdi : d = i
    · subst hdi
      have hlt : d < a.tmps.size := by
        rcases Nat.lt_or_ge d a.tmps.size with h | h
        · exact h
        · rw [Array.getElem?_eq_none (by simpa using h)] at hy; cases hy
      rw [Array.getElem?_setIfInBounds_self_of_lt hlt] at hy
      cases hy
      rw [if_pos ⟨rfl, by simpa [← h.size] using hlt⟩]
      exact hx d rfl
    · rw [if_neg (fun e => hdi e.1)]
      rw [Array.getElem?_setIfInBounds_ne hdi] at hy
      exact untag_at (AtV.ext hG _ _ (h.fr i y hy))

theorem GExt.refl (G : GE) : GExt G G := ⟨⟨fun _ _ h => h, fun _ _ _ _ _ => rfl⟩, fun _ _ c _ h1 h2 => ⟨c, h1, h2⟩⟩

theorem BlkOk.ext {G G' : GE} (h : Ext G.env G'.env) {id : Nat} {blk : Blk} (hβ : G'.β id = G.β id) (hw : ∀ b, G.β id = some b → b < G.w.heap.size → G'.w.heap[b]? = G.w.heap[b]?) (hb : BlkOk G id blk) : BlkOk G' id blk := by
  cases blk with
  | var t c =>
    obtain ⟨b, arr, ty, x, h1, h2, h3, h4⟩ := hb
    have hlt := (Array.getElem?_eq_some_iff.1 h2).1
    exact ⟨b, arr, ty, x, hβ.trans h1, (hw b h1 hlt).trans h2, h3, h4.ext h⟩
  | row _ _ => exact hb.elim
  | tok _ _ _ => exact hb.elim

/-- a value is put into a slot: memory as it was -/
theorem Rel.put (h : Rel w0 I0 S a w β) (dst : Option Nat) (v : V) (x : Value) (hx : ∀ d, dst = some d → AtV ⟨w, β, S.hp, w0.heap.size, I0⟩ (a.put dst x).tmps v x) :
    Rel w0 I0 ⟨setF S.fr dst v, S.hp⟩ (a.put dst x) w β := by
  refine ⟨h.below, ?_, ?_, h.frame (.refl _) dst v x hx, h.hp, h.own, h.inj⟩
  · cases dst <;> exact h.defers
  · rw [length_setF, ← h.size]; cases dst <;> simp [Act.put]

/-- the world grows behind the own blocks' back: a call -/
theorem Rel.grow (h : Rel w0 I0 S a w β) {w' : World} (hb : Below w.heap.size w w') : GExt ⟨w, β, S.hp, w0.heap.size, I0⟩ ⟨w', β, S.hp, w0.heap.size, I0⟩ ∧ Rel w0 I0 S a w' β := by
  have hle := hb.size
  have hE : Ext (GE.env ⟨w, β, S.hp, w0.heap.size, I0⟩) (GE.env ⟨w', β, S.hp, w0.heap.size, I0⟩) := by
    refine ⟨fun b m ⟨h1, h2, h3⟩ => ⟨h1, Nat.lt_of_lt_of_le h2 hle, h3⟩, fun b m ⟨_, h2, _⟩ j _ => ?_⟩
    exact World.cell?_of_block (w := w) (w' := w') (a := ⟨b, j, none⟩) (hb.block b h2)
  have hG : GExt ⟨w, β, S.hp, w0.heap.size, I0⟩ ⟨w', β, S.hp, w0.heap.size, I0⟩ := ⟨hE, fun _ _ c _ h1 h2 => ⟨c, h1, h2⟩⟩
  refine ⟨hG, h.below.trans (hb.mono h.below.size), h.defers, h.size, fun i v hv => AtV.ext hG _ _ (h.fr i v hv), fun id blk hblk => (h.hp id blk hblk).ext hE rfl fun b _ hlt => hb.block b hlt, h.own, h.inj⟩

theorem nthB_lt : ∀ {l : List (Option Blk)} {i : Nat} {b : Blk}, nthB l i = some b → i < l.length
  | _ :: _, 0, _, _ => by simp
  | _ :: l, i + 1, b, h => by simpa using nthB_lt (l := l) (i := i) h

/-- a new block of one's own -/
theorem Rel.alloc (h : Rel w0 I0 S a w β) {d : Nat} (hf : free S.hp d = true) {τ : Ty} {x : τ.den} {cs : Array Value} (hx : FlatD (GE.env ⟨w, β, S.hp, w0.heap.size, I0⟩) τ x cs.toList) (ty : TypeId) :
    Rel w0 I0 ⟨setF S.fr (some d) (.ref d []), setB S.hp d (.var τ (.data τ x))⟩ (a.put (some d) (.pointer (some ⟨w.heap.size, 0, none⟩))) (w.alloc (.cells cs ty)) (fun i => if i = d then some w.heap.size else β i) := by
  have hn : nthB S.hp d = none := by
    unfold free at hf; split at hf
    · cases hf
    · assumption
  have hlt : d < S.hp.length := by unfold free at hf; rw [hn] at hf; simpa using hf
  have hne : ∀ id blk, nthB S.hp id = some blk → id ≠ d := fun id blk hb e => by rw [e, hn] at hb; cases hb
  have hset : ∀ id, nthB (setB S.hp d (.var τ (.data τ x))) id = if id = d then some (.var τ (.data τ x)) else nthB S.hp id := fun id => by
    unfold setB; rw [nthB_set]
    by_cases e : d = id
    · subst e; simp [hlt]
    · rw [if_neg (fun h => e h.1), if_neg (fun h => e h.symm)]
  have hblk : ∀ b, b < w.heap.size → (w.alloc (.cells cs ty)).heap[b]? = w.heap[b]? := fun b hb => Below.heap_alloc w _ b hb
  have hE : Ext (GE.env ⟨w, β, S.hp, w0.heap.size, I0⟩) (GE.env ⟨w.alloc (.cells cs ty), fun i => if i = d then some w.heap.size else β i, setB S.hp d (.var τ (.data τ x)), w0.heap.size, I0⟩) := by
    refine ⟨fun b m ⟨h1, h2, h3⟩ => ⟨h1, by simp only [World.size_alloc]; exact Nat.lt_succ_of_lt h2, fun id blk hb hβ => ?_⟩, fun b m ⟨_, h2, _⟩ j _ => ?_⟩
    · simp only at h2 h3 hb hβ
      rw [hset] at hb
      by_cases e : id = d
      · rw [if_pos e] at hβ
        have := Option.some.inj hβ
        omega
      · rw [if_neg e] at hb hβ
        exact h3 id blk hb hβ
    · exact World.cell?_of_block (w := w) (a := ⟨b, j, none⟩) (hblk b h2)
  have hG : GExt ⟨w, β, S.hp, w0.heap.size, I0⟩ ⟨w.alloc (.cells cs ty), fun i => if i = d then some w.heap.size else β i, setB S.hp d (.var τ (.data τ x)), w0.heap.size, I0⟩ := by
    refine ⟨hE, fun id t c b h1 h2 => ⟨c, ?_, ?_⟩⟩
    · simp only at h1 ⊢; rw [hset, if_neg (hne _ _ h1)]; exact h1
    · simp only at h1 h2 ⊢; rw [if_neg (hne _ _ h1)]; exact h2
  refine ⟨h.below.alloc h.below.size _, h.defers, ?_, ?_, ?_, ?_, ?_⟩
  · show (a.tmps.setIfInBounds d _).size = (setF S.fr (some d) _).length
    rw [length_setF, ← h.size]; simp
  · refine h.frame hG (some d) (.ref d []) _ fun d' _ => ?_
    simp only [AtV]
    exact ⟨w.heap.size, τ, .data τ x, 0, τ, by rw [hset, if_pos rfl], by simp, by cases τ <;> simp [offT], rfl⟩
  · intro id blk hb
    simp only at hb
    rw [hset] at hb
    by_cases e : id = d
    · rw [if_pos e] at hb
      cases hb
      exact ⟨w.heap.size, cs, ty, x, if_pos e, heap_alloc_new w _, rfl, hx.ext hE⟩
    · rw [if_neg e] at hb
      exact (h.hp id blk hb).ext hE (if_neg e) fun b _ hlt => hblk b hlt
  · intro id blk b hb hβ
    simp only at hb hβ
    rw [hset] at hb
    by_cases e : id = d
    · rw [if_pos e] at hβ; cases hβ; exact h.below.size
    · rw [if_neg e] at hb hβ; exact h.own id blk b hb hβ
  · intro id id' blk blk' b hb hb' hβ hβ'
    have hlt' : ∀ id blk b, nthB S.hp id = some blk → β id = some b → b < w.heap.size := fun id blk b hb hβ => by
      have := h.hp id blk hb
      cases blk with
      | var t c =>
        obtain ⟨b', arr, ty, x, h1, h2, _⟩ := this
        simp only at h1; rw [h1] at hβ; cases hβ
        exact (Array.getElem?_eq_some_iff.1 h2).1
      | row _ _ => exact this.elim
      | tok _ _ _ => exact this.elim
    simp only at hb hb' hβ hβ'
    rw [hset] at hb hb'
    by_cases e : id = d
    · by_cases e' : id' = d
      · rw [e, e']
      · rw [if_pos e] at hβ; rw [if_neg e'] at hb' hβ'
        cases hβ
        have := hlt' _ _ _ hb' hβ'
        omega
    · by_cases e' : id' = d
      · rw [if_neg e] at hb hβ; rw [if_pos e'] at hβ'
        cases hβ'
        have := hlt' _ _ _ hb hβ
        omega
      · rw [if_neg e] at hb hβ; rw [if_neg e'] at hb' hβ'
        exact h.inj id id' blk blk' b hb hb' hβ hβ'

/-- a store into a block of one's own -/
theorem Rel.store (h : Rel w0 I0 S a w β) {id : Nat} {τ : Ty} {y : τ.den} (hb : nthB S.hp id = some (.var τ (.data τ y))) {b : Nat} {arr arr' : Array Value} {ty : TypeId} (hβ : β id = some b) (hw : w.heap[b]? = some (.cells arr ty (0, 0)))
    {y' : τ.den} (hy : FlatD (GE.env ⟨w, β, S.hp, w0.heap.size, I0⟩) τ y' arr'.toList) (dst : Option Nat) :
    Rel w0 I0 ⟨setF S.fr dst .any, setB S.hp id (.var τ (.data τ y'))⟩ (a.put dst undef) (w.setRow b arr') β := by
  have hlt := nthB_lt hb
  have hset : ∀ id', nthB (setB S.hp id (.var τ (.data τ y'))) id' = if id' = id then some (.var τ (.data τ y')) else nthB S.hp id' := fun id' => by
    unfold setB; rw [nthB_set]
    by_cases e : id = id'
    · subst e; simp [hlt]
    · rw [if_neg (fun h => e h.1), if_neg (fun h => e h.symm)]
  have hb0 : w0.heap.size ≤ b := h.own _ _ _ hb hβ
  have hE : Ext (GE.env ⟨w, β, S.hp, w0.heap.size, I0⟩) (GE.env ⟨w.setRow b arr', β, setB S.hp id (.var τ (.data τ y')), w0.heap.size, I0⟩) := by
    refine ⟨fun b' m ⟨h1, h2, h3⟩ => ⟨h1, by simpa using h2, fun id' blk hb' hβ' => ?_⟩, fun b' m ⟨_, h2, h3⟩ j _ => ?_⟩
    · simp only at hb' hβ' h3
      rw [hset] at hb'
      by_cases e : id' = id
      · rw [e] at hβ'
        have := h3 id _ hb hβ'
        exact this.elim
      · rw [if_neg e] at hb'; exact h3 id' blk hb' hβ'
    · simp only at h3
      have hne : b' ≠ b := fun e => by subst e; exact (h3 id _ hb hβ).elim
      exact cell_setRow_other w b arr' ⟨b', j, none⟩ hne
  have hG : GExt ⟨w, β, S.hp, w0.heap.size, I0⟩ ⟨w.setRow b arr', β, setB S.hp id (.var τ (.data τ y')), w0.heap.size, I0⟩ := by
    refine ⟨hE, fun id' t c b' h1 h2 => ?_⟩
    simp only at h1 h2 ⊢
    rw [hset]
    by_cases e : id' = id
    · subst e
      rw [hb] at h1; cases h1
      exact ⟨.data τ y', by rw [if_pos rfl], h2⟩
    · exact ⟨c, by rw [if_neg e]; exact h1, h2⟩
  refine ⟨?_, ?_, ?_, ?_, ?_, ?_, ?_⟩
  · refine h.below.trans ⟨rfl, rfl, rfl, by simp, fun k hk => ?_⟩
    exact setRow_other w b k arr' (by omega)
  · cases dst <;> exact h.defers
  · show (a.put dst undef).tmps.size = (setF S.fr dst _).length
    rw [length_setF, ← h.size]; cases dst <;> simp [Act.put]
  · exact h.frame hG dst .any undef fun _ _ => .any
  · intro id' blk hb'
    simp only at hb'
    rw [hset] at hb'
    by_cases e : id' = id
    · rw [if_pos e] at hb'
      cases hb'
      exact ⟨b, arr', ty, y', by rw [e]; exact hβ, setRow_heap w b arr arr' ty _ hw, rfl, hy.ext hE⟩
    · rw [if_neg e] at hb'
      refine (h.hp id' blk hb').ext hE rfl fun b' hβ' _ => ?_
      simp only at hβ'
      exact setRow_other w b b' arr' fun e' => e (h.inj id' id blk _ b' hb' hb hβ' (by rw [e']; exact hβ))
  · intro id' blk b' hb' hβ'
    simp only at hb'
    rw [hset] at hb'
    by_cases e : id' = id
    · rw [e] at hβ'; exact h.own _ _ _ hb hβ'
    · rw [if_neg e] at hb'; exact h.own _ _ _ hb' hβ'
  · intro i1 i2 blk1 blk2 b' h1 h2 h3 h4
    simp only at h1 h2
    rw [hset] at h1 h2
    have k1 : ∃ bl, nthB S.hp i1 = some bl := by
      by_cases e : i1 = id
      · rw [e]; exact ⟨_, hb⟩
      · rw [if_neg e] at h1; exact ⟨_, h1⟩
    have k2 : ∃ bl, nthB S.hp i2 = some bl := by
      by_cases e : i2 = id
      · rw [e]; exact ⟨_, hb⟩
      · rw [if_neg e] at h2; exact ⟨_, h2⟩
    obtain ⟨_, k1⟩ := k1
    obtain ⟨_, k2⟩ := k2
    exact h.inj _ _ _ _ _ k1 k2 h3 h4

end
end Go.Bx
