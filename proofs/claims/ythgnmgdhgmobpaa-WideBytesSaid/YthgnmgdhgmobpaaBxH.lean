/- A part of a framework that reads Go code as functions of plain data; or a law about such functions. -/
import Derived.Test.YthgnmgdhgmobpaaBxG
namespace Go.Bx
open Go Go.RowKit

section
variable {P : Program} {C : Ctx} {w0 : World} {I0 : Nat → Nat → Prop} {S : St} {a : Act} {w : World} {β : Nat → Option Nat}

theorem offT_sub : ∀ {t : Ty} {p : List Step} {o : Nat} {u : Ty}, offT t p = some (o, u) → subT t p = some u
  | t, [], o, u, h => by cases t <;> simp [offT] at h <;> simp [subT, h]
  | .arr n t, .idx i :: p, o, u, h => by
    simp only [offT] at h
    split at h
    · cases h2 : offT t p with
      | none => simp [h2] at h
      | some q => simp [h2] at h; obtain ⟨_, rfl⟩ := h; simpa [subT] using offT_sub h2
    · cases h
  | .pair a _, .fld 0 :: p, o, u, h => by simp only [offT] at h; simpa [subT] using offT_sub h
  | .pair a b, .fld (j + 1) :: p, o, u, h => by
    simp only [offT] at h
    cases h2 : offT b (.fld j :: p) with
    | none => simp [h2] at h
    | some q => simp [h2] at h; obtain ⟨_, rfl⟩ := h; simpa [subT] using offT_sub h2
  | .int _, _ :: _, _, _, h => by simp [offT] at h
  | .bool, _ :: _, _, _, h => by simp [offT] at h
  | .str, _ :: _, _, _, h => by simp [offT] at h
  | .sl _, _ :: _, _, _, h => by simp [offT] at h
  | .unit, _ :: _, _, _, h => by simp [offT] at h
  | .opq, _ :: _, _, _, h => by simp [offT] at h
  | .arr _ _, .fld _ :: _, _, _, h => by simp [offT] at h
  | .pair _ _, .idx _ :: _, _, _, h => by simp [offT] at h

theorem offT_snoc (s : Step) : ∀ {t : Ty} {p : List Step} {o : Nat} {u : Ty} {o2 : Nat} {u2 : Ty}, offT t p = some (o, u) → offT u [s] = some (o2, u2) → offT t (p ++ [s]) = some (o + o2, u2)
  | t, [], o, u, o2, u2, h, h' => by
    have : o = 0 ∧ u = t := by cases t <;> simp [offT] at h <;> exact ⟨h.1.symm, h.2.symm⟩
    obtain ⟨rfl, rfl⟩ := this
    simpa using h'
  | .arr n t, .idx i :: p, o, u, o2, u2, h, h' => by
    simp only [offT] at h
    split at h
    · rename_i hi
      cases h2 : offT t p with
      | none => simp [h2] at h
      | some q =>
        simp [h2] at h
        obtain ⟨rfl, rfl⟩ := h
        have := offT_snoc s h2 h'
        simp only [List.cons_append, offT]
        rw [if_pos hi, this]
        simp only [Nat.add_assoc]
    · cases h
  | .pair a _, .fld 0 :: p, o, u, o2, u2, h, h' => by simp only [offT] at h; simpa only [List.cons_append, offT] using offT_snoc s h h'
  | .pair a b, .fld (j + 1) :: p, o, u, o2, u2, h, h' => by
    simp only [offT] at h
    cases h2 : offT b (.fld j :: p) with
    | none => simp [h2] at h
    | some q =>
      simp [h2] at h
      obtain ⟨rfl, rfl⟩ := h
      have := offT_snoc s h2 h'
      simp only [List.cons_append, offT] at this ⊢
      rw [this]
      simp only [Nat.add_assoc]
  | .int _, _ :: _, _, _, _, _, h, _ => by simp [offT] at h
  | .bool, _ :: _, _, _, _, _, h, _ => by simp [offT] at h
  | .str, _ :: _, _, _, _, _, h, _ => by simp [offT] at h
  | .sl _, _ :: _, _, _, _, _, h, _ => by simp [offT] at h
  | .unit, _ :: _, _, _, _, _, h, _ => by simp [offT] at h
  | .opq, _ :: _, _, _, _, _, h, _ => by simp [offT] at h
  | .arr _ _, .fld _ :: _, _, _, _, _, h, _ => by simp [offT] at h
  | .pair _ _, .idx _ :: _, _, _, _, _, h, _ => by simp [offT] at h

theorem fld_off : ∀ {τ : Ty} {j : Nat} {u : Ty}, subT τ [.fld j] = some u → ∃ o, offT τ [.fld j] = some (o, u)
  | .pair a b, 0, u, h => by simp [subT] at h; subst h; exact ⟨0, by simp [offT]⟩
  | .pair a b, j + 1, u, h => by
    simp only [subT] at h
    obtain ⟨o, ho⟩ := fld_off h
    exact ⟨a.size + o, by simp [offT, ho]⟩
  | .int _, _, _, h => by simp [subT] at h
  | .bool, _, _, h => by simp [subT] at h
  | .str, _, _, h => by simp [subT] at h
  | .sl _, _, _, h => by simp [subT] at h
  | .unit, _, _, h => by simp [subT] at h
  | .opq, _, _, h => by simp [subT] at h
  | .arr _ _, _, _, h => by simp [subT] at h

theorem fields_get : ∀ {τ : Ty} {fs : List Field} {off j o : Nat} {u : Ty}, FieldsOk P τ fs off → offT τ [.fld j] = some (o, u) → ∃ f, fs[j]? = some f ∧ f.offset = off + o ∧ TyOk P u f.type ∧ u.size ≠ 0
  | .pair a b, fs, off, 0, o, u, hf, h => by
    obtain ⟨f, r, rfl, h1, h2, h3, h4, h5⟩ := hf
    simp only [offT] at h
    have : o = 0 ∧ u = a := by cases a <;> simp at h <;> exact ⟨h.1.symm, h.2.symm⟩
    obtain ⟨rfl, rfl⟩ := this
    exact ⟨f, rfl, by omega, h4, h2⟩
  | .pair a b, fs, off, j + 1, o, u, hf, h => by
    obtain ⟨f, r, rfl, h1, h2, h3, h4, h5⟩ := hf
    simp only [offT] at h
    cases h6 : offT b [.fld j] with
    | none => simp [h6] at h
    | some q =>
      simp [h6] at h
      obtain ⟨rfl, rfl⟩ := h
      obtain ⟨f', g1, g2, g3, g4⟩ := fields_get h5 h6
      exact ⟨f', by simpa using g1, by omega, g3, g4⟩
  | .int _, _, _, _, _, _, _, h => by simp [offT] at h
  | .bool, _, _, _, _, _, _, h => by simp [offT] at h
  | .str, _, _, _, _, _, _, h => by simp [offT] at h
  | .sl _, _, _, _, _, _, _, h => by simp [offT] at h
  | .unit, _, _, _, _, _, _, h => by simp [offT] at h
  | .opq, _, _, _, _, _, _, h => by simp [offT] at h
  | .arr _ _, _, _, _, _, _, _, h => by simp [offT] at h

theorem TyOk.fields {τ : Ty} {t : TypeId} {j o : Nat} {u : Ty} (h : TyOk P τ t) (ho : offT τ [.fld j] = some (o, u)) :
    ∃ fs f, P.underlying t = some (.struct fs) ∧ fs[j]? = some f ∧ f.offset = o ∧ TyOk P u f.type ∧ u.size ≠ 0 := by
  cases τ with
  | pair a b =>
    obtain ⟨fs, h1, h2, _⟩ := h
    have hf : FieldsOk P (.pair a b) fs.toList 0 := h2
    obtain ⟨f, g1, g2, g3, g4⟩ := fields_get hf ho
    exact ⟨fs, f, h1, by simpa using g1, by omega, g3, g4⟩
  | _ => simp [offT] at ho

theorem proj_flat {E : Env} : ∀ {τ : Ty} {x : τ.den} {j : Nat} {u : Ty} {z : u.den} {ds : List Value}, proj τ x j = .data u z → FlatD E τ x ds →
    ∃ o cs, offT τ [.fld j] = some (o, u) ∧ FlatD E u z cs ∧ ∀ k v, cs[k]? = some v → ds[o + k]? = some v
  | .pair a b, x, 0, u, z, ds, h, hx => by
    obtain ⟨c1, c2, rfl, h1, h2⟩ := hx
    simp only [proj, V.data.injEq] at h
    obtain ⟨rfl, h⟩ := h
    have h := eq_of_heq h
    subst h
    refine ⟨0, c1, by simp [offT], h1, fun k v hv => ?_⟩
    have hk : k < c1.length := by
      rcases Nat.lt_or_ge k c1.length with h | h
      · exact h
      · rw [List.getElem?_eq_none h] at hv; cases hv
    rw [Nat.zero_add, List.getElem?_append_left hk]; exact hv
  | .pair a b, x, j + 1, u, z, ds, h, hx => by
    obtain ⟨c1, c2, rfl, h1, h2⟩ := hx
    simp only [proj] at h
    obtain ⟨o, cs, g1, g2, g3⟩ := proj_flat h h2
    refine ⟨a.size + o, cs, by simp [offT, g1], g2, fun k v hv => ?_⟩
    have hl := FlatD.length _ _ _ h1
    rw [List.getElem?_append_right (by omega), show a.size + o + k - c1.length = o + k by omega]
    exact g3 k v hv
  | .int _, _, _, _, _, _, h, _ => by simp [proj] at h
  | .bool, _, _, _, _, _, h, _ => by simp [proj] at h
  | .str, _, _, _, _, _, h, _ => by simp [proj] at h
  | .sl _, _, _, _, _, _, h, _ => by simp [proj] at h
  | .unit, _, _, _, _, _, h, _ => by simp [proj] at h
  | .opq, _, _, _, _, _, h, _ => by simp [proj] at h
  | .arr _ _, _, _, _, _, _, h, _ => by simp [proj] at h

/-- what a block of one's own holds -/
theorem Rel.blk (h : Rel w0 I0 S a w β) {id : Nat} {τ σ : Ty} {y : σ.den} (hb : nthB S.hp id = some (.var τ (.data σ y))) :
    σ = τ ∧ ∃ b arr ty, β id = some b ∧ w.heap[b]? = some (.cells arr ty (0, 0)) ∧ FlatD (GE.env ⟨w, β, S.hp, w0.heap.size, I0⟩) σ y arr.toList := by
  obtain ⟨b, arr, ty, x, h1, h2, h3, h4⟩ := h.hp _ _ hb
  simp only [V.data.injEq] at h3
  obtain ⟨rfl, h3⟩ := h3
  have h3 := eq_of_heq h3
  subst h3
  exact ⟨rfl, b, arr, ty, h1, h2, h4⟩

theorem cell_arr {w : World} {b : Nat} {arr : Array Value} {ty : TypeId} {fr : Nat × Nat} (h : w.heap[b]? = some (.cells arr ty fr)) (j : Nat) : w.cell? ⟨b, j, none⟩ = arr.toList[j]? := by
  simp [World.cell?, h]

end
end Go.Bx
