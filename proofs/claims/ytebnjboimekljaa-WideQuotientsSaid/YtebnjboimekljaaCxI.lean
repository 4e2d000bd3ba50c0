/- A part of a framework that reads Go code as functions of plain data; or a law about such functions. -/
import Derived.Test.YtebnjboimekljaaCxH
import Derived.Laws.BytesString
import Derived.Laws.Cells
namespace Go.Bx
set_option linter.unusedVariables false
set_option linter.unusedSimpArgs false
open Go Go.RowKit

section
variable {P : Program} {C : Ctx} {G : GE}

theorem FlatV.length {t : Ty} {v : V} {cs : List Value} (h : FlatV G t v cs) : cs.length = t.size := by
  obtain ⟨x, rfl, h1, _⟩ := h
  rw [Array.length_toList]; exact h1.size

theorem FlatV.ofAtD {t : Ty} {x : t.den} {v : Value} (h : AtD G.env t x v) : FlatV G t (.data t x) v.cells.toList := by
  obtain ⟨h1, h2, h3⟩ := h.isAgg
  exact ⟨v, rfl, ⟨fun _ => rfl, h1, h2, h3, (fun t' y e => by cases e; rfl), (fun _ _ e => by cases e)⟩, by simpa only [AtV] using h⟩

theorem value_of_cells (t : Ty) (cs : List Value) (hl : cs.length = t.size) (ho : t.isAgg = false → ∀ v ∈ cs, oneCell v) : ∃ x : Value, x.cells.toList = cs ∧ (t.isAgg = true → x = .agg cs.toArray) ∧ (t.isAgg = false → cs = [x]) := by
  cases ht : t.isAgg with
  | true => exact ⟨.agg cs.toArray, by simp [Value.cells], (fun _ => rfl), fun h => by cases h⟩
  | false =>
    have hs : t.size = 1 := by cases t <;> simp [Ty.isAgg] at ht <;> rfl
    obtain ⟨c, rfl⟩ := List.length_eq_one_iff.1 (hl.trans hs)
    have := ho ht c (by simp)
    exact ⟨c, by rw [this.1], (fun h => by cases h), fun _ => rfl⟩

theorem FlatV.ofFlatD {t : Ty} {x : t.den} {cs : List Value} (h : FlatD G.env t x cs) : FlatV G t (.data t x) cs := by
  obtain ⟨v, h1, h2, h3⟩ := value_of_cells t cs (FlatD.length _ _ _ h) fun _ => FlatD.cell _ _ _ h
  have hv : AtD G.env t x v := by
    cases ht : t.isAgg with
    | true => rw [h2 ht]; exact .ofAgg (by simpa using h) ht
    | false => refine .ofFlat ?_ ht; rw [← h3 ht]; exact h
  rw [← h1]; exact .ofAtD hv

theorem FlatV.flatD {t t' : Ty} {x : t'.den} {cs : List Value} (h : FlatV G t (.data t' x) cs) : ∃ e : t' = t, FlatD G.env t (e ▸ x) cs := by
  obtain ⟨v, rfl, h1, h2⟩ := h
  have e := h1.data _ _ rfl
  subst e
  simp only [AtV] at h2
  exact ⟨rfl, h2.cells⟩

theorem FlatV.data' {t : Ty} {x : t.den} {cs : List Value} (h : FlatV G t (.data t x) cs) : FlatD G.env t x cs := by
  obtain ⟨_, h⟩ := h.flatD; exact h

theorem FlatL.length : ∀ {t : Ty} {l : List V} {cs : List Value}, FlatL G t l cs → cs.length = t.size
  | t, [], cs, h => by
    simp only [FlatL] at h
    obtain ⟨h1, h2, rfl⟩ := h
    cases t with
    | arr n t => cases n with
      | zero => simp [Ty.size]
      | succ n => simp [uncons] at h1
    | unit => rfl
    | pair a b => simp [uncons] at h1
    | _ => simp [Ty.isAgg] at h2
  | t, v :: l, cs, h => by
    simp only [FlatL] at h
    obtain ⟨a, r, x, cs', h1, rfl, h2, h3, h4⟩ := h
    have ih := FlatL.length h4
    rw [List.length_append, ih, Array.length_toList, h2.size]
    cases t with
    | pair p q => simp [uncons] at h1; obtain ⟨rfl, rfl⟩ := h1; rfl
    | arr n t => cases n with
      | zero => simp [uncons] at h1
      | succ n =>
        simp [uncons] at h1
        obtain ⟨rfl, rfl⟩ := h1
        simp only [Ty.size, Nat.add_mul]; omega
    | _ => simp [uncons] at h1

theorem FlatL.isAgg {t : Ty} {l : List V} {cs : List Value} (h : FlatL G t l cs) : t.isAgg = true := by
  cases l with
  | nil => simp only [FlatL] at h; exact h.2.1
  | cons v l =>
    simp only [FlatL] at h
    obtain ⟨a, r, _, _, h1, _⟩ := h
    cases t <;> simp [uncons] at h1 <;> rfl

theorem FlatV.ofFlatL {t : Ty} {l : List V} {cs : List Value} (h : FlatL G t l cs) : FlatV G t (.agg t l) cs :=
  ⟨.agg cs.toArray, by simp [Value.cells], ⟨fun _ => rfl, fun _ => ⟨_, rfl⟩, (fun e => by rw [h.isAgg] at e; cases e), by simp [Value.cells, h.length], (fun _ _ e => by cases e), (fun t' l' e => by cases e; rfl)⟩, by simp only [AtV]; exact ⟨_, rfl, by simpa using h⟩⟩

theorem FlatV.flatL {t t' : Ty} {l : List V} {cs : List Value} (h : FlatV G t (.agg t' l) cs) : t' = t ∧ FlatL G t l cs := by
  obtain ⟨x, rfl, h1, h2⟩ := h
  have e := h1.part _ _ rfl
  subst e
  simp only [AtV] at h2
  obtain ⟨c, rfl, h3⟩ := h2
  exact ⟨rfl, by simpa [Value.cells] using h3⟩

theorem AtV.ofFlatV {t : Ty} {v : V} {cs : List Value} (h : FlatV G t v cs) : ∃ x, cs = x.cells.toList ∧ AtV G #[] v x ∧ (t.isAgg = true → x = .agg cs.toArray) ∧ (t.isAgg = false → cs = [x]) := by
  obtain ⟨x, rfl, h1, h2⟩ := h
  refine ⟨x, rfl, h2, fun ht => ?_, fun ht => ?_⟩
  · obtain ⟨c, rfl⟩ := h1.agg ht; simp [Value.cells]
  · have := (h1.one ht).1; rw [this]

theorem getArgs_flat : ∀ {t : Ty} {l : List V} {x : t.den} {cs : List Value}, getArgs t l = some x → FlatL G t l cs → FlatD G.env t x cs
  | .unit, [], _, cs, _, h => by simp only [FlatL] at h; exact h.2.2
  | .unit, _ :: _, _, _, h, _ => by simp [getArgs] at h
  | .pair a b, [], _, _, h, _ => by simp [getArgs] at h
  | .pair a b, v :: l, x, cs, h, hl => by
    cases v <;> simp only [getArgs, reduceCtorEq] at h
    rename_i t z
    split at h
    · cases h
    · rename_i z' hz
      split at h
      · cases h
      · rename_i r hr
        obtain ⟨rfl, rfl⟩ := castD_some hz
        cases h
        simp only [FlatL] at hl
        obtain ⟨a', r', y, cs', h1, rfl, h2, h3, h4⟩ := hl
        simp only [uncons, Option.some.injEq, Prod.mk.injEq] at h1
        obtain ⟨rfl, rfl⟩ := h1
        simp only [AtV] at h3
        exact ⟨_, _, rfl, h3.cells, getArgs_flat hr h4⟩
  | .int _, _, _, _, h, _ => by simp [getArgs] at h
  | .bool, _, _, _, h, _ => by simp [getArgs] at h
  | .str, _, _, _, h, _ => by simp [getArgs] at h
  | .sl _, _, _, _, h, _ => by simp [getArgs] at h
  | .arr _ _, _, _, _, h, _ => by simp [getArgs] at h
  | .opq, _, _, _, h, _ => by simp [getArgs] at h

theorem mkAgg_flat {t : Ty} {l : List V} {cs : List Value} (h : FlatL G t l cs) : FlatV G t (mkAgg t l) cs := by
  unfold mkAgg
  split
  · rename_i x hx; exact .ofFlatD (getArgs_flat hx h)
  · exact .ofFlatL h

theorem mkAgg_at {t : Ty} {l : List V} {x : Value} {tm : Array Value} (h : AtV G tm (.agg t l) x) : AtV G tm (mkAgg t l) x := by
  unfold mkAgg
  split
  · rename_i y hy
    simp only [AtV] at h ⊢
    obtain ⟨cs, rfl, h⟩ := h
    exact .ofAgg (getArgs_flat hy h) h.isAgg
  · exact h

theorem spread_flat : ∀ {t : Ty} {x : t.den} {cs : List Value}, t.chain = true → FlatD G.env t x cs → FlatL G t (spread t x) cs
  | .unit, _, cs, _, h => by simp only [spread, FlatL]; exact ⟨rfl, rfl, h⟩
  | .pair a b, x, cs, hc, h => by
    obtain ⟨c1, c2, rfl, h1, h2⟩ := h
    simp only [spread, FlatL]
    obtain ⟨v, e1, e2, e3⟩ := FlatV.ofFlatD (G := G) h1
    exact ⟨a, b, v, c2, rfl, by rw [e1], e2, e3, spread_flat (by simpa [Ty.chain] using hc) h2⟩
  | .int _, _, _, h, _ => by simp [Ty.chain] at h
  | .bool, _, _, h, _ => by simp [Ty.chain] at h
  | .str, _, _, h, _ => by simp [Ty.chain] at h
  | .sl _, _, _, h, _ => by simp [Ty.chain] at h
  | .arr _ _, _, _, h, _ => by simp [Ty.chain] at h
  | .opq, _, _, h, _ => by simp [Ty.chain] at h

/-- a part of a struct, and the struct with another one -/
theorem FlatL.part : ∀ {t : Ty} {l : List V} {cs : List Value} {j : Nat} {p : List Step} {o : Nat} {u : Ty}, FlatL G t l cs → offT t (.fld j :: p) = some (o, u) →
    ∃ a o1 o2 cs1, offT a p = some (o2, u) ∧ o = o1 + o2 ∧ j < l.length ∧ FlatV G a (nth l j) cs1 ∧ (∀ i x, cs1[i]? = some x → cs[o1 + i]? = some x) ∧ o1 + cs1.length ≤ cs.length ∧
      ∀ v' o3 ds, FlatV G a v' (lay cs1 o3 ds) → o3 + ds.length ≤ cs1.length → FlatL G t (l.set j v') (lay cs (o1 + o3) ds)
  | t, [], cs, j, p, o, u, h, ho => by
    simp only [FlatL] at h
    cases t <;> simp [offT, uncons] at h ho
  | t, v :: l, cs, 0, p, o, u, h, ho => by
    simp only [FlatL] at h
    obtain ⟨a, r, x, cs', h1, rfl, h2, h3, h4⟩ := h
    cases t with
    | pair a' b' =>
      simp [uncons] at h1; obtain ⟨rfl, rfl⟩ := h1
      simp only [offT] at ho
      refine ⟨a', 0, o, x.cells.toList, ho, by omega, by simp, ⟨x, rfl, h2, h3⟩, fun i y hi => ?_, by simp, fun v' o3 ds hv hl => ?_⟩
      · have : i < x.cells.toList.length := by
          rcases Nat.lt_or_ge i x.cells.toList.length with h | h
          · exact h
          · rw [List.getElem?_eq_none h] at hi; cases hi
        rw [Nat.zero_add, List.getElem?_append_left this]; exact hi
      · obtain ⟨y, e1, e2, e3⟩ := hv
        simp only [List.set_cons_zero, FlatL]
        refine ⟨a', b', y, cs', rfl, ?_, e2, e3, h4⟩
        rw [Nat.zero_add, lay_left _ _ _ _ hl, e1]
    | _ => simp [offT] at ho
  | t, v :: l, cs, j + 1, p, o, u, h, ho => by
    simp only [FlatL] at h
    obtain ⟨a, r, x, cs', h1, rfl, h2, h3, h4⟩ := h
    cases t with
    | pair a' b' =>
      simp [uncons] at h1; obtain ⟨rfl, rfl⟩ := h1
      simp only [offT] at ho
      cases h6 : offT b' (.fld j :: p) with
      | none => simp [h6] at ho
      | some q =>
        simp [h6] at ho
        obtain ⟨rfl, rfl⟩ := ho
        obtain ⟨a2, o1, o2, cs1, g1, g2, g3, g4, g5, g6, g7⟩ := FlatL.part h4 h6
        have hs : x.cells.toList.length = a'.size := by rw [Array.length_toList, h2.size]
        refine ⟨a2, a'.size + o1, o2, cs1, g1, by omega, by simpa using g3, by simpa [nth] using g4, fun i y hi => ?_, by rw [List.length_append]; omega, fun v' o3 ds hv hl => ?_⟩
        · rw [List.getElem?_append_right (by omega), show a'.size + o1 + i - x.cells.toList.length = o1 + i by omega]
          exact g5 i y hi
        · simp only [List.set_cons_succ, FlatL]
          refine ⟨a', b', x, lay cs' (o1 + o3) ds, rfl, ?_, h2, h3, g7 v' o3 ds hv hl⟩
          rw [show a'.size + o1 + o3 = x.cells.toList.length + (o1 + o3) by omega, lay_right]
    | _ => simp [offT] at ho

/-- a part of an array, and the array with another one -/
theorem FlatL.elem : ∀ {t : Ty} {l : List V} {cs : List Value} {i : Int} {p : List Step} {o : Nat} {u : Ty}, FlatL G t l cs → offT t (.idx i :: p) = some (o, u) →
    ∃ a o1 o2 cs1, offT a p = some (o2, u) ∧ o = o1 + o2 ∧ i.toNat < l.length ∧ FlatV G a (nth l i.toNat) cs1 ∧ (∀ k x, cs1[k]? = some x → cs[o1 + k]? = some x) ∧ o1 + cs1.length ≤ cs.length ∧
      ∀ v' o3 ds, FlatV G a v' (lay cs1 o3 ds) → o3 + ds.length ≤ cs1.length → FlatL G t (l.set i.toNat v') (lay cs (o1 + o3) ds)
  | .arr 0 t, l, cs, i, p, o, u, h, ho => by
    simp only [offT] at ho
    split at ho
    · omega
    · cases ho
  | .arr (n + 1) t, [], cs, i, p, o, u, h, ho => by simp [FlatL, uncons] at h
  | .arr (n + 1) t, v :: l, cs, i, p, o, u, h, ho => by
    simp only [FlatL] at h
    obtain ⟨a, r, x, cs', h1, rfl, h2, h3, h4⟩ := h
    simp [uncons] at h1; obtain ⟨rfl, rfl⟩ := h1
    simp only [offT] at ho
    split at ho
    · rename_i hi
      cases h6 : offT t p with
      | none => simp [h6] at ho
      | some q =>
        simp [h6] at ho
        obtain ⟨rfl, rfl⟩ := ho
        have hs : x.cells.toList.length = t.size := by rw [Array.length_toList, h2.size]
        by_cases h0 : i = 0
        · subst h0
          refine ⟨t, 0, q.1, x.cells.toList, h6, by simp, by simp, ⟨x, rfl, h2, h3⟩, fun i y hi => ?_, by simp, fun v' o3 ds hv hl => ?_⟩
          · have : i < x.cells.toList.length := by
              rcases Nat.lt_or_ge i x.cells.toList.length with h | h
              · exact h
              · rw [List.getElem?_eq_none h] at hi; cases hi
            rw [Nat.zero_add, List.getElem?_append_left this]; exact hi
          · obtain ⟨y, e1, e2, e3⟩ := hv
            simp only [Int.toNat_zero, List.set_cons_zero, FlatL]
            refine ⟨t, .arr n t, y, cs', rfl, ?_, e2, e3, h4⟩
            rw [Nat.zero_add, lay_left _ _ _ _ hl, e1]
        · have hk : i.toNat = (i - 1).toNat + 1 := by omega
          have ho' : offT (.arr n t) (.idx (i - 1) :: p) = some ((i - 1).toNat * t.size + q.1, q.2) := by
            simp only [offT]
            rw [if_pos (by omega), h6]
          obtain ⟨a2, o1, o2, cs1, g1, g2, g3, g4, g5, g6, g7⟩ := FlatL.elem h4 ho'
          refine ⟨a2, t.size + o1, o2, cs1, g1, ?_, by rw [hk]; simpa using g3, by rw [hk]; simpa [nth] using g4, fun k y hy => ?_, by rw [List.length_append]; omega, fun v' o3 ds hv hl => ?_⟩
          · rw [hk, Nat.add_mul]; omega
          · rw [List.getElem?_append_right (by omega), show t.size + o1 + k - x.cells.toList.length = o1 + k by omega]
            exact g5 k y hy
          · rw [hk]
            simp only [List.set_cons_succ, FlatL]
            refine ⟨t, .arr n t, x, lay cs' (o1 + o3) ds, rfl, ?_, h2, h3, g7 v' o3 ds hv hl⟩
            rw [show t.size + o1 + o3 = x.cells.toList.length + (o1 + o3) by omega, lay_right]
    · cases ho
  | .int _, _, _, _, _, _, _, _, ho => by simp [offT] at ho
  | .bool, _, _, _, _, _, _, _, ho => by simp [offT] at ho
  | .str, _, _, _, _, _, _, _, ho => by simp [offT] at ho
  | .sl _, _, _, _, _, _, _, _, ho => by simp [offT] at ho
  | .unit, _, _, _, _, _, _, _, ho => by simp [offT] at ho
  | .opq, _, _, _, _, _, _, _, ho => by simp [offT] at ho
  | .pair _ _, _, _, _, _, _, _, _, ho => by simp [offT] at ho

theorem offT_nil {t : Ty} {o : Nat} {u : Ty} (h : offT t [] = some (o, u)) : o = 0 ∧ u = t := by
  cases t <;> simp [offT] at h <;> exact ⟨h.1.symm, h.2.symm⟩

theorem offT_agg {t : Ty} {s : Step} {p : List Step} {o : Nat} {u : Ty} (h : offT t (s :: p) = some (o, u)) : t.isAgg = true := by
  cases t <;> first | rfl | (simp [offT] at h; done)

/-- a part of a value -/
theorem getV_flat : ∀ (p : List Step) {t : Ty} {v : V} {cs : List Value} {o : Nat} {u : Ty}, FlatV G t v cs → offT t p = some (o, u) →
    ∃ cs1, FlatV G u (getV v p) cs1 ∧ (∀ j x, cs1[j]? = some x → cs[o + j]? = some x) ∧ o + cs1.length ≤ cs.length
  | [], t, v, cs, o, u, h, ho => by
    obtain ⟨rfl, rfl⟩ := offT_nil ho
    exact ⟨cs, by cases v <;> exact h, fun j x hj => by simpa using hj, by simp⟩
  | s :: p, t, v, cs, o, u, h, ho => by
    obtain ⟨x, hx, hs, ha⟩ := h
    have hag := offT_agg ho
    obtain ⟨c, rfl⟩ := hs.agg hag
    cases v with
    | data t' y =>
      obtain ⟨e, hf⟩ := FlatV.flatD (G := G) (t := t) (cs := cs) ⟨_, hx, hs, ha⟩
      subst e
      obtain ⟨z, cs', h1, h2, h3⟩ := getP_flat _ _ _ _ _ _ hf ho
      refine ⟨cs', by simp only [getV]; rw [h1]; exact .ofFlatD h2, h3, ?_⟩
      cases hc : cs' with
      | nil =>
        have hsz := FlatD.length _ _ _ h2
        have : ∀ {t : Ty} {p : List Step} {o : Nat} {u : Ty}, offT t p = some (o, u) → o + u.size ≤ t.size := by
          intro t p
          induction p generalizing t with
          | nil => intro o u h; obtain ⟨rfl, rfl⟩ := offT_nil h; omega
          | cons s p ih =>
            intro o u h
            cases t with
            | arr n t =>
              cases s with
              | idx i =>
                simp only [offT] at h
                split at h
                · rename_i hi
                  cases h2 : offT t p with
                  | none => simp [h2] at h
                  | some q =>
                    simp [h2] at h
                    obtain ⟨rfl, rfl⟩ := h
                    have := ih h2
                    have h3 : (i.toNat + 1) * t.size ≤ n * t.size := Nat.mul_le_mul_right _ (by omega)
                    rw [Nat.add_mul] at h3
                    simp only [Ty.size]; omega
                · cases h
              | fld j => simp [offT] at h
            | pair a b =>
              cases s with
              | idx i => simp [offT] at h
              | fld j =>
                cases j with
                | zero => simp only [offT] at h; have := ih h; simp only [Ty.size]; omega
                | succ j =>
                  simp only [offT] at h
                  cases h2 : offT b (.fld j :: p) with
                  | none => simp [h2] at h
                  | some q =>
                    simp [h2] at h
                    obtain ⟨rfl, rfl⟩ := h
                    have key : ∀ {b : Ty} {j : Nat} {q : Nat × Ty}, offT b (.fld j :: p) = some q → q.1 + q.2.size ≤ b.size := by
                      intro b
                      induction b with
                      | pair a b _ ihb =>
                        intro j q h
                        cases j with
                        | zero => simp only [offT] at h; obtain ⟨o, u⟩ := q; have := ih h; simp only [Ty.size]; omega
                        | succ j =>
                          simp only [offT] at h
                          cases h2 : offT b (.fld j :: p) with
                          | none => simp [h2] at h
                          | some q' =>
                            simp [h2] at h
                            have := ihb h2
                            rw [← h]; simp only [Ty.size]; omega
                      | _ => intro j q h; simp [offT] at h
                    have := key h2
                    simp only [Ty.size]; omega
            | _ => simp [offT] at h
        have h4 := this ho
        have h5 := FlatD.length _ _ _ hf
        rw [hc] at hsz
        simp at hsz ⊢
        omega
      | cons d r =>
        have hlt : cs'.length - 1 < cs'.length := by rw [hc]; simp
        have := h3 (cs'.length - 1) _ (List.getElem?_eq_getElem hlt)
        have hb : o + (cs'.length - 1) < cs.length := by
          rcases Nat.lt_or_ge (o + (cs'.length - 1)) cs.length with h | h
          · exact h
          · rw [List.getElem?_eq_none h] at this; cases this
        rw [← hc]; omega
    | agg t' l =>
      obtain ⟨e, hf⟩ := FlatV.flatL (G := G) (t := t) (cs := cs) ⟨_, hx, hs, ha⟩
      subst e
      cases s with
      | fld j =>
        obtain ⟨a, o1, o2, cs1, g1, rfl, g3, g4, g5, g6, _⟩ := hf.part ho
        obtain ⟨cs2, f1, f2, f3⟩ := getV_flat p g4 g1
        exact ⟨cs2, by simpa only [getV] using f1, fun j x hj => by rw [Nat.add_assoc]; exact g5 _ _ (f2 j x hj), by omega⟩
      | idx i =>
        obtain ⟨a, o1, o2, cs1, g1, rfl, g3, g4, g5, g6, _⟩ := hf.elem ho
        obtain ⟨cs2, f1, f2, f3⟩ := getV_flat p g4 g1
        exact ⟨cs2, by simpa only [getV] using f1, fun j x hj => by rw [Nat.add_assoc]; exact g5 _ _ (f2 j x hj), by omega⟩
    | _ => have := hs.tree hag; simp [V.tree] at this
end
end Go.Bx
