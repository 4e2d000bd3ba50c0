/- A part of a framework that reads Go code as functions of plain data; or a law about such functions. -/
import Derived.Test.YtebnjboimekljaaCxZb
namespace Go.Bx
set_option linter.unusedVariables false
set_option linter.unusedSimpArgs false
open Go Go.RowKit

section
variable {P : Program} {C : Ctx} {G : GE} {G0 : GE} {S : St} {a : Act} {w : World} {β : Nat → Option Nat} {σ : Nat → Value}

theorem length_keepF (l : List Nat) : ∀ (s : Nat) (fr : List V), (keepF l s fr).length = fr.length
  | _, [] => rfl
  | s, _ :: r => by simp [keepF, length_keepF l (s + 1) r]

theorem nth_keepF (l : List Nat) : ∀ (s : Nat) (fr : List V) (i : Nat), nth (keepF l s fr) i = if mem l (s + i) then sane (nth fr i) else .any
  | s, [], i => by simp [keepF, nth, sane]
  | s, v :: r, 0 => by simp [keepF, nth]
  | s, v :: r, i + 1 => by
    simp only [keepF, nth]
    rw [nth_keepF l (s + 1) r i, show s + 1 + i = s + (i + 1) by omega]

theorem nth_renL (ρ : Nat → Nat → Option (Nat × Nat)) : ∀ (l : List V) (i : Nat), nth (renL ρ l) i = ren ρ (nth l i)
  | [], i => by simp [renL, nth, ren]
  | v :: l, 0 => by simp [renL, nth]
  | v :: l, i + 1 => by simp [renL, nth, nth_renL ρ l i]

theorem length_renL (ρ : Nat → Nat → Option (Nat × Nat)) : ∀ l : List V, (renL ρ l).length = l.length
  | [] => rfl
  | v :: l => by simp [renL, length_renL ρ l]

theorem nthB_filter_map (p : Nat → Bool) (f : Blk → Blk) : ∀ (hp : Heap) (i : Nat), nthB ((hp.filter fun x => p x.1).map fun x => (x.1, f x.2)) i = if p i = true then (nthB hp i).map f else none
  | [], i => by simp [nthB, look]
  | (j, b) :: r, i => by
    have ih := nthB_filter_map p f r i
    simp only [nthB] at ih ⊢
    by_cases hj : p j = true
    · rw [List.filter_cons_of_pos (by simpa using hj)]
      simp only [List.map_cons, look]
      by_cases hji : Nat.beq j i = true
      · have := Nat.eq_of_beq_eq_true hji
        subst this
        rw [if_pos hji, if_pos hji, if_pos hj]; rfl
      · rw [if_neg hji, if_neg hji]; exact ih
    · rw [List.filter_cons_of_neg (by simpa using hj)]
      simp only [look]
      by_cases hji : Nat.beq j i = true
      · have := Nat.eq_of_beq_eq_true hji
        subst this
        rw [ih, if_neg hj, if_neg hj]
      · rw [if_neg hji]; exact ih

theorem im_tidy (ρ : Nat → Nat → Option (Nat × Nat)) (b : Blk) (m : Nat) : (ver0B (renB ρ b)).im m ↔ b.im m := by
  cases b <;> exact Iff.rfl

theorem BlkOk.tidy {ρ : Nat → Nat → Option (Nat × Nat)} {hp2 : Heap} (hM : Mv ρ G (G.withHp hp2)) {i : Nat} {blk : Blk} (h : BlkOk G i blk) : BlkOk (G.withHp hp2) i (ver0B (renB ρ blk)) := by
  cases blk with
  | cell t v z =>
    obtain ⟨b, arr, ty, g1, g2, g3⟩ := h
    exact ⟨b, arr, ty, g1, g2, g3.ren hM⟩
  | buf t l ver z =>
    rcases h with ⟨b, arr, ty, css, cap, rest, g1, g2, g3, g4, g5, g6, g7, g8⟩ | ⟨g1, g2, g3, g4⟩
    · exact .inl ⟨b, arr, ty, css, cap, rest, g1, g2, g3, g4.mono fun _ _ h => h.ext hM.env, g5, g6, g7, g8⟩
    · exact .inr ⟨g1, g2, g3.ext hM.env, g4⟩
  | map k v l =>
    obtain ⟨b, es, clock, g1, g2, g3, g4⟩ := h
    exact ⟨b, es, clock, g1, g2, g3.mono fun _ _ h => ⟨h.1.ext hM.env, h.2.ext hM.env⟩, g4⟩

/-- what nothing names is let go; versions begin anew -/
theorem Rel.tidy (h0 : ∀ i, nthB G0.hp i = none) (h : Rel G0 S a w β σ) (l : List Nat) : Rel G0 (tidy C l S) a w β σ := by
  have key : ∀ (R : List Nat) (hpn : Heap), (∀ i, nthB hpn i = if (Nat.blt i C.base || mem R i) = true then (nthB S.hp i).map fun b => ver0B (renB (keepN C R S.hp) b) else none) → Rel G0 ⟨renL (keepN C R S.hp) (keepF l 0 S.fr), hpn⟩ a w β σ := by
    intro R hpn hp2
    have old : ∀ {i b2}, nthB hpn i = some b2 → ∃ b, nthB S.hp i = some b ∧ b2 = ver0B (renB (keepN C R S.hp) b) := fun {i b2} hb => by
      rw [hp2] at hb
      split at hb
      · obtain ⟨b, e1, e2⟩ := Option.map_eq_some_iff.1 hb
        exact ⟨b, e1, e2.symm⟩
      · cases hb
    have hE : Ext (GE.env (G0.at w β σ S.hp)) (GE.env (G0.at w β σ hpn)) := by
      refine ⟨fun b m ⟨k1, k2, k3⟩ => ⟨k1, k2, fun id blk hb hβ => ?_⟩, fun _ _ _ _ _ => rfl⟩
      obtain ⟨b0, e1, rfl⟩ := old hb
      exact (im_tidy _ _ _).2 (k3 id b0 e1 hβ)
    have hM : Mv (keepN C R S.hp) (G0.at w β σ S.hp) (G0.at w β σ hpn) := by
      refine ⟨hE, fun id ver j u blk hρ hb => ?_⟩
      unfold keepN at hρ
      split at hρ
      · rename_i hk
        have hb' : nthB S.hp id = some blk := hb
        cases hv : ver0 S.hp id ver with
        | none => rw [hv] at hρ; cases hρ
        | some v0 =>
          rw [hv] at hρ
          cases hρ
          refine ⟨ver0B (renB (keepN C R S.hp) blk), ?_, ?_⟩
          · show nthB hpn id = _
            rw [hp2, if_pos hk, hb']; rfl
          · unfold ver0 at hv
            rw [hb'] at hv
            cases blk with
            | cell t v z => exact ⟨rfl, rfl⟩
            | map k v l => exact ⟨rfl, rfl, rfl⟩
            | buf t l c z =>
              simp only at hv
              split at hv
              · rename_i hvc
                cases hv
                exact ⟨fun _ => Nat.zero_le _, fun _ _ => ⟨Nat.eq_of_beq_eq_true hvc, rfl, rfl, rfl, Nat.le_refl _⟩⟩
              · cases hv
      · cases hρ
    have hnm : ∀ b, (G0.at w β σ hpn).named b → (G0.at w β σ S.hp).named b := fun b ⟨id, blk, hb, hβ⟩ => by
      obtain ⟨b0, e1, _⟩ := old hb
      exact ⟨id, b0, e1, hβ⟩
    refine ⟨⟨⟨h.tr.keep.env.trans hE, fun id ver j u blk _ hb => ?_⟩, h.tr.os, h.tr.tape, h.tr.output, h.tr.size, h.tr.frame, fun b hb => h.tr.own b (hnm b hb)⟩, ⟨fun id blk hb => ?_, fun id id' blk blk' b hb hb' => ?_, fun b hb => h.ok.own b (hnm b hb), h.ok.base⟩, h.defers, ?_, fun i v hv => ?_⟩
    · rw [h0] at hb; cases hb
    · obtain ⟨b0, e1, rfl⟩ := old hb
      exact (h.ok.blk id b0 e1).tidy hM
    · obtain ⟨b0, e1, _⟩ := old hb
      obtain ⟨b0', e1', _⟩ := old hb'
      exact h.ok.inj id id' b0 b0' b e1 e1'
    · simp only [length_renL, length_keepF]; exact h.size
    · simp only [nth_renL]
      rw [nth_keepF]
      refine AtV.ren hM _ _ ?_
      split
      · exact (h.fr i v hv).sane
      · exact .any
  unfold Bx.tidy
  generalize closeN S.hp 6 _ = R
  exact key R _ (nthB_filter_map (fun i => Nat.blt i C.base || mem R i) (fun b => ver0B (renB (keepN C R S.hp) b)) S.hp)

theorem lay_self : ∀ {cs cs1 : List Value} {o : Nat}, (∀ j x, cs1[j]? = some x → cs[o + j]? = some x) → o + cs1.length ≤ cs.length → lay cs o cs1 = cs := by
  intro cs cs1 o h hl
  unfold lay
  apply List.ext_getElem?
  intro j
  rw [List.getElem?_append, List.getElem?_append]
  simp only [List.length_append, List.length_take, List.getElem?_take, List.getElem?_drop]
  by_cases h1 : j < o
  · rw [if_pos (by omega), if_pos (by omega), if_pos h1]
  · by_cases h2 : j < o + cs1.length
    · rw [if_pos (by omega), if_neg (by omega)]
      have hj : j - min o cs.length < cs1.length := by omega
      rw [List.getElem?_eq_getElem hj]
      have := h _ _ (List.getElem?_eq_getElem hj)
      rw [show o + (j - min o cs.length) = j by omega] at this
      exact this.symm
    · rw [if_neg (by omega)]
      rw [show o + cs1.length + (j - (min o cs.length + cs1.length)) = j by omega]

/-- a part of a value told otherwise -/
theorem modV_at (f : V → V) : ∀ (p : List Nat) {v v' : V} {x : Value} {tm : Array Value}, AtV G tm v x → modV f p v = some v' →
    ∃ y tm', AtV G tm' (partV p v) y ∧ ∀ G', Keep G G' → AtV G' tm' (f (partV p v)) y → AtV G' tm v' x
  | [], v, v', x, tm, h, hm => by
    simp only [modV, Option.some.injEq] at hm
    subst hm
    exact ⟨x, tm, h, fun _ _ h => h⟩
  | j :: p, v, v', x, tm, h, hm => by
    unfold modV at hm
    split at hm
    · rename_i e; cases e
    · rename_i j' p' t l e
      cases e
      split at hm
      · rename_i hjl
        split at hm
        · rename_i z u hz hu
          split at hm
          · rename_i hf
            cases hm
            simp only [AtV] at h
            obtain ⟨cs, rfl, hfl⟩ := h
            obtain ⟨o, ho⟩ := fld_off hu
            obtain ⟨a, o1, o2, cs1, g1, g2, g3, g4, g5, g6, g7⟩ := hfl.part (p := []) ho
            obtain ⟨e1, e2⟩ := offT_nil g1
            subst e2
            obtain ⟨y, ey, hy, _⟩ := AtV.ofFlatV g4
            obtain ⟨y', tm', k1, k2⟩ := modV_at f p hy hz
            refine ⟨y', tm', by simpa only [partV] using k1, fun G' hK hfy => ?_⟩
            have hz' := k2 G' hK (by simpa only [partV] using hfy)
            obtain ⟨q1, _⟩ := fits_flat hf hz'
            rw [← ey] at q1
            have hfl' : FlatL G' t l cs.toList := by
              have := FlatL.ren (ρ := stay) hK t l cs.toList hfl
              rwa [renL_stay] at this
            obtain ⟨a', o1', o2', cs1', g1', g2', g3', g4', g5', g6', g7'⟩ := hfl'.part (p := []) ho
            obtain ⟨e1', e2'⟩ := offT_nil g1'
            subst e2'
            have ho1 : o1' = o1 := by omega
            subst ho1
            have hl1 : cs1.length = cs1'.length := by rw [g4.length, g4'.length]
            have hcs : cs1' = cs1 := by
              apply List.ext_getElem?
              intro i
              by_cases hi : i < cs1.length
              · have a1 := g5 i _ (List.getElem?_eq_getElem hi)
                have a2 := g5' i _ (List.getElem?_eq_getElem (hl1 ▸ hi))
                rw [List.getElem?_eq_getElem hi, List.getElem?_eq_getElem (hl1 ▸ hi), ← a1, ← a2]
              · rw [List.getElem?_eq_none (by omega), List.getElem?_eq_none (by omega)]
            subst hcs
            have := g7' z 0 cs1' (by rw [lay_zero _ _ rfl]; exact q1) (by omega)
            rw [Nat.add_zero, lay_self g5' g6'] at this
            exact mkAgg_at (by simp only [AtV]; exact ⟨cs, rfl, this⟩)
          · cases hm
        · cases hm
      · cases hm
    · cases hm

/-- a slot's new value -/
theorem setSlot_rel (h : Rel G0 S a w β σ) {i : Nat} {slot : Bool} {v' : V} {S' : St} (hset : setSlot C i slot S v' = some S')
    (h1 : slot = true → ∀ x, a.tmps[i]? = some x → AtV (G0.at w β σ S.hp) a.tmps v' x)
    (h2 : slot = false → ∀ b arr ty t v z, nthB S.hp (C.base + i) = some (.cell t v z) → β (C.base + i) = some b → w.heap[b]? = some (.cells arr ty (0, 0)) → fits t v' = true → FlatV (G0.at w β σ S.hp) t v' arr.toList) : Rel G0 S' a w β σ := by
  unfold setSlot at hset
  cases slot with
  | true =>
    cases hset
    refine ⟨h.tr, h.ok, h.defers, by simpa using h.size, fun j x hx => ?_⟩
    simp only
    rw [nth_set]
    split
    · rename_i he
      obtain ⟨rfl, _⟩ := he
      exact h1 rfl x hx
    · exact h.fr j x hx
  | false =>
    simp only at hset
    split at hset
    · rename_i t v z hb
      split at hset
      · rename_i hf
        cases hset
        have hb' : nthB (G0.at w β σ S.hp).hp (C.base + i) = some (.cell t v z) := hb
        obtain ⟨b, arr, ty, g1, g2, g3⟩ := h.ok.cell hb'
        have hv := h2 rfl b arr ty t v z hb g1 g2 hf
        obtain ⟨t1, k1⟩ := h.ok.turn (blk' := .cell t v' z) hb' (w' := w) rfl rfl rfl rfl (fun _ _ => rfl) (fun m hm => hm) (fun _ _ _ _ _ _ => rfl) ⟨⟨rfl, rfl⟩, fun _ => ⟨rfl, rfl⟩⟩ (fun _ hK => ⟨b, arr, ty, g1, g2, hv.ext hK⟩)
        exact ⟨h.tr.trans t1, k1, h.defers, h.size, fun j x hx => (h.fr j x hx).ext t1.keep⟩
      · cases hset
    · cases hset

theorem like_cell {hp hp' : Heap} (h : Like hp hp') {i : Nat} {t t' : Ty} {v v' : V} {z z' : Bool} (h1 : nthB hp i = some (.cell t v z)) (h2 : nthB hp' i = some (.cell t' v' z')) : t' = t ∧ v' = v := by
  rcases h i with e | ⟨b, e1, e2⟩
  · rw [e, h1] at h2; cases h2; exact ⟨rfl, rfl⟩
  · rw [h1] at e1; cases e1
    rw [e2] at h2; cases h2; exact ⟨rfl, rfl⟩

theorem partV_any {p : List Nat} {t : Ty} {l : List t.den} (h : partV p .any = .full t l) : False := by
  cases p <;> simp [partV] at h

theorem norm1_sound (h : Behind G0 S a w) {n : Norm} {S' : St} (hn : norm1 C S n = some S') : Behind G0 S' a w := by
  obtain ⟨β, σ, h⟩ := h
  have slotT : ∀ {i v}, slotOf C i true S = some v → v = sane (nth S.fr i) := fun {i v} hs => by simp only [slotOf, Option.some.injEq] at hs; exact hs.symm
  have slotF : ∀ {i v}, slotOf C i false S = some v → ∃ t z, nthB S.hp (C.base + i) = some (.cell t v z) := fun {i v} hs => by
    unfold slotOf at hs
    simp only at hs
    split at hs
    · rename_i t v' z hb; cases hs; exact ⟨t, z, hb⟩
    · cases hs
  cases n with
  | dat slot i p =>
    simp only [norm1] at hn
    split at hn
    · rename_i v hs
      split at hn
      · rename_i v' hm
        obtain ⟨t1, k1⟩ := frz_tr (partV p v) (G0.at w β σ S.hp) h.ok
        have h1 : Rel G0 ⟨S.fr, frz S.hp (partV p v)⟩ a w β σ := ⟨h.tr.trans t1, k1, h.defers, h.size, fun j x hx => (h.fr j x hx).ext t1.keep⟩
        have hrd : ∀ {tm y}, AtV (G0.at w β σ S.hp) tm (partV p v) y → AtV (G0.at w β σ (frz S.hp (partV p v))) tm (rdD S.hp (partV p v)) y := fun {tm y} hy => by
          unfold rdD
          split
          · rename_i t z hr
            have := rd_frz (partV p v) (G0.at w β σ S.hp) h.ok hy hr
            simp only [AtV]; exact this
          · exact .any
        refine ⟨β, σ, setSlot_rel h1 hn (fun e x hx => ?_) (fun e b arr ty t v0 z hb hβ hw hf => ?_)⟩
        · subst e
          have := slotT hs
          subst this
          obtain ⟨y, tm', k2, k3⟩ := modV_at _ p (AtV.sane (tm' := a.tmps) (h.fr i x hx)) hm
          exact k3 _ t1.keep (hrd k2)
        · subst e
          obtain ⟨t', z', hb'⟩ := slotF hs
          obtain ⟨rfl, rfl⟩ := like_cell (like_frz (partV p v) S.hp) hb' hb
          obtain ⟨b2, arr2, ty2, g1, g2, g3⟩ := h.ok.cell (G := G0.at w β σ S.hp) hb'
          have g1 : β (C.base + i) = some b2 := g1
          have g2 : w.heap[b2]? = some (.cells arr2 ty2 (0, 0)) := g2
          rw [g1] at hβ; cases hβ
          rw [g2] at hw; cases hw
          obtain ⟨x, ex, _, hx⟩ := g3
          obtain ⟨y, tm', k2, k3⟩ := modV_at _ p hx hm
          rw [ex]
          exact (fits_flat hf (k3 _ t1.keep (hrd k2))).1
      · cases hn
    · cases hn
  | melt slot i p id z =>
    simp only [norm1] at hn
    split at hn
    · rename_i v hs
      split at hn
      · rename_i t l hp
        split at hn
        · rename_i hc
          simp only [Bool.and_eq_true, Bool.or_eq_true, List.isEmpty_iff] at hc
          split at hn
          · rename_i v' hm
            have hfree := free_none hc.1
            have pre : ∃ x tm0, AtV (G0.at w β σ S.hp) tm0 v x ∧ (slot = true → a.tmps[i]? = some x ∧ tm0 = a.tmps) ∧ (slot = false → ∃ t0 z0 b arr ty, nthB S.hp (C.base + i) = some (.cell t0 v z0) ∧ β (C.base + i) = some b ∧ w.heap[b]? = some (.cells arr ty (0, 0)) ∧ arr.toList = x.cells.toList) := by
              cases slot with
              | true =>
                have := slotT hs
                subst this
                cases hx : a.tmps[i]? with
                | none =>
                  exfalso
                  have hge : S.fr.length ≤ i := by rw [← h.size]; exact Array.getElem?_eq_none_iff.1 hx
                  rw [nth_of_ge hge] at hp
                  exact partV_any hp
                | some x => exact ⟨x, a.tmps, AtV.sane (h.fr i x hx), fun _ => ⟨rfl, rfl⟩, fun e => by cases e⟩
              | false =>
                obtain ⟨t', z', hb'⟩ := slotF hs
                obtain ⟨b2, arr2, ty2, g1, g2, g3⟩ := h.ok.cell (G := G0.at w β σ S.hp) hb'
                obtain ⟨x, ex, _, hx⟩ := g3
                exact ⟨x, #[], hx, (fun e => by cases e), fun _ => ⟨t', z', b2, arr2, ty2, hb', g1, g2, ex⟩⟩
            obtain ⟨x, tm0, hx, pT, pF⟩ := pre
            obtain ⟨y, tm', k2, k3⟩ := modV_at _ p hx hm
            rw [hp] at k2
            simp only [AtV] at k2
            obtain ⟨t1, q1, q2⟩ := h.ok.sameBuf (id := C.base + id) (ver := 0) (fun blk hb => by
              have hb : nthB S.hp (C.base + id) = some blk := hb
              rw [hfree] at hb; cases hb) k2.1 k2.2 (z := z) hc.2
            have h1 : Rel G0 ⟨S.fr, setB S.hp (C.base + id) (.buf t l 0 z)⟩ a w (upd β (C.base + id) none) (upd σ (C.base + id) y) := ⟨h.tr.trans t1, q1, h.defers, h.size, fun j x hx => (h.fr j x hx).ext t1.keep⟩
            refine ⟨_, _, setSlot_rel h1 hn (fun e x' hx' => ?_) (fun e b arr ty t0 v0 z0 hb hβ hw hf => ?_)⟩
            · obtain ⟨e1, rfl⟩ := pT e
              rw [e1] at hx'; cases hx'
              exact k3 _ t1.keep (by simp only [AtV]; exact q2)
            · obtain ⟨t', z', b2, arr2, ty2, g1, g2, g3, g4⟩ := pF e
              have hne : C.base + i ≠ C.base + id := fun e' => by rw [e', hfree] at g1; cases g1
              rw [look_set, if_neg hne, g1] at hb
              cases hb
              rw [upd_ne _ _ hne, g2] at hβ; cases hβ
              rw [g3] at hw; cases hw
              rw [g4]
              exact (fits_flat hf (k3 _ t1.keep (by simp only [AtV]; exact q2))).1
          · cases hn
        · cases hn
      · cases hn; exact ⟨β, σ, h⟩
      · cases hn
    · cases hn

theorem norms_sound : ∀ (ns : List Norm) {S S' : St}, Behind G0 S a w → norms C ns S = some S' → Behind G0 S' a w
  | [], S, S', h, hn => by cases hn; exact h
  | n :: ns, S, S', h, hn => by
    simp only [norms] at hn
    split at hn
    · rename_i S1 h1; exact norms_sound ns (norm1_sound h h1) hn
    · cases hn

theorem clean_sound (h0 : ∀ i, nthB G0.hp i = none) (h : Behind G0 S a w) {α : Type} {key : Nat} {K : St → Option α} {r : α} (hk : clean C key S K = some r) : ∃ S', K S' = some r ∧ Behind G0 S' a w := by
  unfold clean at hk
  split at hk
  · exact ⟨S, hk, h⟩
  · split at hk
    · obtain ⟨β, σ, h⟩ := h
      exact ⟨_, hk, β, σ, h.tidy h0 _⟩
    · split at hk
      · rename_i S1 hn
        obtain ⟨β, σ, h⟩ := norms_sound _ h hn
        exact ⟨_, hk, β, σ, h.tidy h0 _⟩
      · cases hk

end
end Go.Bx
