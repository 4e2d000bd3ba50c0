/- A part of a framework that reads Go code as functions of plain data; or a law about such functions. -/
import Derived.Test.YtebnjboimekljaaCxI
namespace Go.Bx
set_option linter.unusedVariables false
set_option linter.unusedSimpArgs false
open Go Go.RowKit

section
variable {P : Program} {C : Ctx} {G : GE}

theorem lay_all {t : Ty} {v y : V} {cs ds : List Value} (h : FlatV G t v cs) (hy : FlatV G t y ds) : 0 + ds.length ≤ cs.length ∧ FlatV G t y (lay cs 0 ds) := by
  have e : ds.length = cs.length := by rw [h.length, hy.length]
  exact ⟨by omega, by rw [lay_zero _ _ e]; exact hy⟩

theorem setD_flat : ∀ (p : List Step) {t : Ty} {v : V} {cs : List Value} {o : Nat} {u : Ty} {y : V} {ds : List Value} {v' : V}, FlatV G t v cs → offT t p = some (o, u) → FlatV G u y ds → setV.setD v p y = some v' →
    o + ds.length ≤ cs.length ∧ FlatV G t v' (lay cs o ds)
  | [], t, v, cs, o, u, y, ds, v', h, ho, hy, hs => by
    obtain ⟨rfl, rfl⟩ := offT_nil ho
    have : y = v' := by cases v <;> simpa [setV.setD] using hs
    subst this
    exact lay_all h hy
  | s :: p, t, v, cs, o, u, y, ds, v', h, ho, hy, hs => by
    cases v with
    | data t' x =>
      cases s with
      | idx i => simp [setV.setD] at hs
      | fld j =>
        simp only [setV.setD] at hs
        obtain ⟨e, hf⟩ := h.flatD
        subst e
        split at hs
        · rename_i hc
          simp only [Bool.and_eq_true] at hc
          split at hs
          · rename_i z hz
            cases hs
            have hl := spread_flat (G := G) hc.1 hf
            obtain ⟨a, o1, o2, cs1, g1, rfl, g3, g4, g5, g6, g7⟩ := hl.part ho
            obtain ⟨f1, f2⟩ := setD_flat p g4 g1 hy hz
            exact ⟨by omega, mkAgg_flat (g7 z o2 ds f2 f1)⟩
          · cases hs
        · cases hs
    | _ => simp [setV.setD] at hs

theorem setV_flat : ∀ (p : List Step) {t : Ty} {v : V} {cs : List Value} {o : Nat} {u : Ty} {y : V} {ds : List Value} {v' : V}, FlatV G t v cs → offT t p = some (o, u) → FlatV G u y ds → setV v p y = some v' →
    o + ds.length ≤ cs.length ∧ FlatV G t v' (lay cs o ds)
  | [], t, v, cs, o, u, y, ds, v', h, ho, hy, hs => by
    obtain ⟨rfl, rfl⟩ := offT_nil ho
    have : y = v' := by cases v <;> simpa [setV] using hs
    subst this
    exact lay_all h hy
  | s :: p, t, v, cs, o, u, y, ds, v', h, ho, hy, hs => by
    have hag := offT_agg ho
    have htree : v.tree = true := by obtain ⟨x, _, h1, _⟩ := h; exact h1.tree hag
    cases v with
    | agg t' l =>
      obtain ⟨e, hl⟩ := h.flatL
      subst e
      cases s with
      | fld j =>
        simp only [setV] at hs
        split at hs
        · split at hs
          · rename_i z hz
            cases hs
            obtain ⟨a, o1, o2, cs1, g1, rfl, g3, g4, g5, g6, g7⟩ := hl.part ho
            obtain ⟨f1, f2⟩ := setV_flat p g4 g1 hy hz
            exact ⟨by omega, mkAgg_flat (g7 z o2 ds f2 f1)⟩
          · cases hs
        · cases hs
      | idx i =>
        simp only [setV] at hs
        split at hs
        · split at hs
          · rename_i z hz
            cases hs
            obtain ⟨a, o1, o2, cs1, g1, rfl, g3, g4, g5, g6, g7⟩ := hl.elem ho
            obtain ⟨f1, f2⟩ := setV_flat p g4 g1 hy hz
            exact ⟨by omega, .ofFlatL (g7 z o2 ds f2 f1)⟩
          · cases hs
        · cases hs
    | data t' x =>
      by_cases hd : ∃ t2 z, y = .data t2 z
      · obtain ⟨t2, z, rfl⟩ := hd
        simp only [setV] at hs
        split at hs
        · rename_i w hw
          cases hs
          obtain ⟨e, hf⟩ := h.flatD
          subst e
          obtain ⟨e2, hfy⟩ := hy.flatD
          subst e2
          obtain ⟨_, h1, h2⟩ := updP_flat _ _ _ _ _ _ _ _ _ _ hf ho hw hfy
          exact ⟨h1, .ofFlatD h2⟩
        · cases hs
      · cases s with
        | idx i => cases y <;> simp [setV] at hs <;> exact absurd ⟨_, _, rfl⟩ hd
        | fld j =>
          have hs' : (if (t'.chain && Nat.blt j (spread t' x).length) = true then match setV.setD (nth (spread t' x) j) p y with
              | some z => some (mkAgg t' ((spread t' x).set j z))
              | none => none
              else none) = some v' := by
            cases y <;> first | exact absurd ⟨_, _, rfl⟩ hd | (simp only [setV] at hs; exact hs)
          obtain ⟨e, hf⟩ := h.flatD
          subst e
          split at hs'
          · rename_i hc
            simp only [Bool.and_eq_true] at hc
            split at hs'
            · rename_i z hz
              cases hs'
              have hl := spread_flat (G := G) hc.1 hf
              obtain ⟨a, o1, o2, cs1, g1, rfl, g3, g4, g5, g6, g7⟩ := hl.part ho
              obtain ⟨f1, f2⟩ := setD_flat p g4 g1 hy hz
              exact ⟨by omega, mkAgg_flat (g7 z o2 ds f2 f1)⟩
            · cases hs'
          · cases hs'
    | _ => simp [V.tree] at htree

theorem oneCell_ptr {a : Option Addr} : oneCell (.pointer a) := by simp [oneCell, Value.cells]
theorem oneCell_slice {a : Option Addr} {n c : Nat} : oneCell (.slice a n c) := by simp [oneCell, Value.cells]

theorem Shp.single {τ : Ty} {v : V} {x : Value} (ht : τ.isAgg = false) (hx : oneCell x) (h1 : ∀ t y, v ≠ .data t y) (h2 : ∀ t l, v ≠ .agg t l) : Shp τ v x :=
  ⟨(fun e => by rw [ht] at e; cases e), (fun e => by rw [ht] at e; cases e), fun _ => hx, by
    have hs : τ.size = 1 := by cases τ <;> simp [Ty.isAgg] at ht <;> rfl
    rw [hx.1, hs]; rfl, fun t y e => absurd e (h1 t y), fun t l e => absurd e (h2 t l)⟩

theorem fits_flat {tm : Array Value} {τ : Ty} {y : V} {x : Value} (hf : fits τ y = true) (h : AtV G tm y x) : FlatV G τ y x.cells.toList ∧ Shp τ y x := by
  have key : Shp τ y x ∧ sane y = y := by
    cases y <;> simp only [fits, Bool.not_eq_true', decide_eq_true_eq, Bool.false_eq_true] at hf <;> simp only [AtV] at h
    case data t z =>
      subst hf
      obtain ⟨h1, h2, h3⟩ := h.isAgg
      exact ⟨⟨fun _ => rfl, h1, h2, h3, (fun t' y e => by cases e; rfl), (fun _ _ e => by cases e)⟩, rfl⟩
    case agg t l =>
      subst hf
      obtain ⟨c, rfl, hl⟩ := h
      exact ⟨⟨fun _ => rfl, fun _ => ⟨_, rfl⟩, (fun e => by rw [hl.isAgg] at e; cases e), by have := hl.length; simpa [Value.cells] using this, (fun _ _ e => by cases e), (fun t' l' e => by cases e; rfl)⟩, rfl⟩
    case nilp => exact ⟨.single hf (by rw [h]; exact oneCell_ptr) (by simp) (by simp), rfl⟩
    case snil => exact ⟨.single hf (by rw [h]; exact oneCell_slice) (by simp) (by simp), rfl⟩
    case ref => obtain ⟨a, rfl⟩ := h.ptr; exact ⟨.single hf oneCell_ptr (by simp) (by simp), rfl⟩
    case iref => obtain ⟨a, ds, rfl, _⟩ := h; exact ⟨.single hf oneCell_ptr (by simp) (by simp), rfl⟩
    case fn => obtain ⟨xs, ys, rfl, _⟩ := h; exact ⟨.single hf (by simp [oneCell, Value.cells]) (by simp) (by simp), rfl⟩
    case full => obtain ⟨_, a, n, rfl⟩ := h; exact ⟨.single hf oneCell_slice (by simp) (by simp), rfl⟩
    case app id ver =>
      have : ∃ a n c, x = .slice a n c := by
        unfold AppAt at h
        split at h
        · exact h.2.1
        · exact h.elim
      obtain ⟨a, n, c, rfl⟩ := this
      exact ⟨.single hf oneCell_slice (by simp) (by simp), rfl⟩
    case view =>
      have : ∃ a n c, x = .slice a n c := by
        unfold ViewAt at h
        split at h
        · obtain ⟨b, o, _, _, _, _, _, _, h⟩ := h; exact ⟨_, _, _, h⟩
        · exact h.elim
      obtain ⟨a, n, c, rfl⟩ := this
      exact ⟨.single hf oneCell_slice (by simp) (by simp), rfl⟩
    case ifc => obtain ⟨y, rfl, _⟩ := h; exact ⟨.single hf (by simp [oneCell, Value.cells]) (by simp) (by simp), rfl⟩
    case map =>
      unfold MapAt at h
      split at h
      · obtain ⟨b, _, rfl⟩ := h; exact ⟨.single hf (by simp [oneCell, Value.cells]) (by simp) (by simp), rfl⟩
      · exact h.elim
  exact ⟨⟨x, rfl, key.1, by have := h.sane (tm' := #[]); rwa [key.2] at this⟩, key.1⟩

theorem zcOk_zero : ∀ (t : Ty) (cs : List Value), t.plain = true → zcOk t cs → FlatD G.env t t.zero cs := fun t cs hp h => by
  rw [zcOk_plain t cs hp h]; exact FlatD.zero t hp

theorem arrL_flat {t : Ty} {v : V} : ∀ (n : Nat) (css : List (List Value)), css.length = n → (∀ c ∈ css, FlatV G t v c) → FlatL G (.arr n t) (List.replicate n v) css.flatten
  | 0, [], _, _ => by simp [FlatL, uncons, Ty.isAgg]
  | n + 1, c :: css, hl, h => by
    obtain ⟨x, h1, h2, h3⟩ := h c (by simp)
    simp only [List.replicate_succ, FlatL, List.flatten_cons]
    exact ⟨t, .arr n t, x, css.flatten, rfl, by rw [h1], h2, h3, arrL_flat n css (by simpa using hl) fun c hc => h c (List.mem_cons_of_mem _ hc)⟩
  | 0, _ :: _, h, _ => by simp at h
  | _ + 1, [], h, _ => by simp at h

mutual
/-- the zero value's parts -/
theorem zeroV_flat : ∀ (t : Ty) (cs : List Value), t.chained = true → zcOk t cs → FlatV G t (zeroV t) cs
  | .int k, cs, _, h => by simp only [zeroV]; exact .ofFlatD (by rw [show cs = [.int k 0] from h]; exact ⟨rfl, inR_zero k⟩)
  | .bool, cs, _, h => by simp only [zeroV]; exact .ofFlatD (by rw [show cs = [.bool false] from h]; rfl)
  | .str, cs, _, h => by simp only [zeroV]; exact .ofFlatD (by rw [show cs = [.string ByteArray.empty] from h]; exact ⟨ByteArray.empty, rfl, rfl, by decide⟩)
  | .unit, cs, _, h => by simp only [zeroV]; exact .ofFlatD h
  | .opq, cs, _, ⟨x, h, ho⟩ => by
    simp only [zeroV]
    rw [h]
    exact ⟨x, by rw [ho.1], .single rfl ho (by simp) (by simp), by simp only [AtV]⟩
  | .sl t, cs, _, h => by
    simp only [zeroV]
    rw [show cs = [.slice none 0 0] from h]
    exact ⟨.slice none 0 0, rfl, .single rfl oneCell_slice (by simp) (by simp), by simp only [AtV]; exact ⟨.inl ⟨rfl, rfl⟩, _, _, rfl⟩⟩
  | .arr n t, cs, hc, h => by
    simp only [zeroV]
    split
    · rename_i hp
      have := zcOk_zero (G := G) (.arr n t) cs (by simpa [Ty.plain] using hp) h
      exact .ofFlatD (by simpa only [Ty.zero] using this)
    · obtain ⟨css, hl, rfl, hz⟩ := h
      exact .ofFlatL (arrL_flat n css hl fun c hcs => zeroV_flat t c (by simpa [Ty.chained] using hc) (hz c hcs))
  | .pair a b, cs, hc, ⟨c1, c2, e, h1, h2⟩ => by
    simp only [zeroV]
    have hc' : a.chained = true ∧ b.chained = true ∧ b.chain = true := by simpa [Ty.chained, and_assoc] using hc
    obtain ⟨x, e1, e2, e3⟩ := zeroV_flat a c1 hc'.1 h1
    refine mkAgg_flat ?_
    simp only [FlatL]
    exact ⟨a, b, x, c2, rfl, by rw [e, e1], e2, e3, zeroL_flat b c2 hc'.2.1 hc'.2.2 h2⟩
theorem zeroL_flat : ∀ (t : Ty) (cs : List Value), t.chained = true → t.chain = true → zcOk t cs → FlatL G t (zeroL t) cs
  | .unit, cs, _, _, h => by simp only [zeroL, FlatL]; exact ⟨rfl, rfl, h⟩
  | .pair a b, cs, hc, _, ⟨c1, c2, e, h1, h2⟩ => by
    simp only [zeroL, FlatL]
    have hc' : a.chained = true ∧ b.chained = true ∧ b.chain = true := by simpa [Ty.chained, and_assoc] using hc
    obtain ⟨x, e1, e2, e3⟩ := zeroV_flat a c1 hc'.1 h1
    exact ⟨a, b, x, c2, rfl, by rw [e, e1], e2, e3, zeroL_flat b c2 hc'.2.1 hc'.2.2 h2⟩
  | .int _, _, _, h, _ => by simp [Ty.chain] at h
  | .bool, _, _, h, _ => by simp [Ty.chain] at h
  | .str, _, _, h, _ => by simp [Ty.chain] at h
  | .sl _, _, _, h, _ => by simp [Ty.chain] at h
  | .arr _ _, _, _, h, _ => by simp [Ty.chain] at h
  | .opq, _, _, h, _ => by simp [Ty.chain] at h
end

mutual
/-- the types that Go has: structs to their end -/
theorem TyOk.chained : ∀ (τ : Ty) (i : TypeId), TyOk P τ i → τ.chained = true
  | .int _, _, _ => rfl
  | .bool, _, _ => rfl
  | .str, _, _ => rfl
  | .unit, _, _ => rfl
  | .opq, _, _ => rfl
  | .sl _, _, _ => rfl
  | .arr n t, i, h => by
    obtain ⟨e, _, h, _⟩ := h
    simpa [Ty.chained] using TyOk.chained t e h
  | .pair a b, i, h => by
    obtain ⟨fs, _, ⟨f, r, _, _, _, _, h1, h2⟩, _⟩ := h
    have ha := TyOk.chained a f.type h1
    obtain ⟨k1, k2⟩ := FieldsOk.chained b r _ h2
    simp [Ty.chained, ha, k1, k2]
theorem FieldsOk.chained : ∀ (τ : Ty) (fs : List Field) (off : Nat), FieldsOk P τ fs off → τ.chained = true ∧ τ.chain = true
  | .unit, _, _, _ => ⟨rfl, rfl⟩
  | .pair a b, fs, off, h => by
    obtain ⟨f, r, _, _, _, _, h1, h2⟩ := h
    have ha := TyOk.chained a f.type h1
    obtain ⟨k1, k2⟩ := FieldsOk.chained b r _ h2
    simp [Ty.chained, Ty.chain, ha, k1, k2]
  | .int _, _, _, h => by simp [FieldsOk] at h
  | .bool, _, _, h => by simp [FieldsOk] at h
  | .str, _, _, h => by simp [FieldsOk] at h
  | .sl _, _, _, h => by simp [FieldsOk] at h
  | .arr _ _, _, _, h => by simp [FieldsOk] at h
  | .opq, _, _, h => by simp [FieldsOk] at h
end

end
end Go.Bx
