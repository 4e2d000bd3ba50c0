/- A part of a framework that reads Go code as functions of plain data; or a law about such functions. -/
import Derived.Test.YtebnjboimekljaaCxD
namespace Go.Bx
set_option linter.unusedVariables false
set_option linter.unusedSimpArgs false
open Go Go.RowKit

section
variable {P : Program}

theorem bytesOf_inj (a b : ByteArray) : (a.toList == b.toList) = (bytesOf a == bytesOf b) := by
  rw [Bool.eq_iff_iff]
  simp only [beq_iff_eq]
  rw [ByteArray.toList_eq, ByteArray.toList_eq]
  unfold bytesOf
  constructor
  · intro h; rw [h]
  · intro h
    have hinj : ∀ (l m : List UInt8), l.map (fun b => (b.toNat : Int)) = m.map (fun b => (b.toNat : Int)) → l = m := by
      intro l
      induction l with
      | nil => intro m h; cases m with
        | nil => rfl
        | cons _ _ => simp at h
      | cons a l ih => intro m h; cases m with
        | nil => simp at h
        | cons b m =>
          simp only [List.map_cons, List.cons.injEq] at h
          have e : a = b := UInt8.toNat_inj.1 (by omega)
          rw [e, ih m h.2]
    exact hinj _ _ h

theorem beqL_cons {α : Type} (f : α → α → Bool) (a b : α) (r s : List α) : beqL f (a :: r) (b :: s) = (f a b && beqL f r s) := rfl

mutual
theorem eq_data {E : Env} (w : World) : ∀ (τ : Ty) (t : TypeId) (d : Nat) (x y : τ.den) (v u : Value), TyOk P τ t → τ.cmp = true → τ.dep ≤ d → AtD E τ x v → AtD E τ y u →
    (Op.equalIn d t v u).run P w = .ok (beqD τ x y) w
  | .int k, t, d, x, y, v, u, ht, _, hd, hv, hu => by
    obtain ⟨d, rfl⟩ : ∃ m, d = m + 1 := ⟨d - 1, by simp [Ty.dep] at hd; omega⟩
    have h1 := (hv.one rfl).1
    have h2 := (hu.one rfl).1
    simp at h1 h2
    subst h1; subst h2
    exact run_equalIn_int w d t k k x y ht.1
  | .bool, t, d, x, y, v, u, ht, _, hd, hv, hu => by
    obtain ⟨d, rfl⟩ : ∃ m, d = m + 1 := ⟨d - 1, by simp [Ty.dep] at hd; omega⟩
    have h1 := hv.one rfl
    have h2 := hu.one rfl
    simp [FlatD] at h1 h2
    subst h1; subst h2
    exact run_equalIn_bool w d t x y ht.1
  | .str, t, d, x, y, v, u, ht, _, hd, hv, hu => by
    obtain ⟨d, rfl⟩ : ∃ m, d = m + 1 := ⟨d - 1, by simp [Ty.dep] at hd; omega⟩
    obtain ⟨s1, h1, e1, _⟩ := hv.one rfl
    obtain ⟨s2, h2, e2, _⟩ := hu.one rfl
    simp at h1 h2
    subst h1; subst h2
    rw [run_equalIn_string w d t s1 s2 ht.1, bytesOf_inj]
    subst e1; subst e2; rfl
  | .arr n τ, t, d, x, y, v, u, ht, hc, hd, hv, hu => by
    obtain ⟨d, rfl⟩ : ∃ m, d = m + 1 := ⟨d - 1, by simp [Ty.dep] at hd; omega⟩
    obtain ⟨xs, rfl, hx⟩ := hv.agg rfl
    obtain ⟨ys, rfl, hy⟩ := hu.agg rfl
    obtain ⟨e, hu, hte, _⟩ := ht
    rw [run_equalIn_array w d t e n τ.size xs ys hu (fun w => run_sizeOf w hte.info)]
    obtain ⟨hlx, cx, hcx, hax⟩ := hx
    obtain ⟨hly, cy, hcy, hay⟩ := hy
    have key : ∀ (x y : List τ.den) (cx cy : List (List Value)) (s : Nat), x.length = y.length → All2 (FlatD E τ) x cx → All2 (FlatD E τ) y cy → xs.toList.drop (s * τ.size) = cx.flatten → ys.toList.drop (s * τ.size) = cy.flatten →
        (eqElems d e xs ys τ.size (List.range' s x.length)).run P w = .ok (beqL (beqD τ) x y) w := by
      intro x
      induction x with
      | nil =>
        intro y cx cy s hl _ _ _ _
        cases y with
        | nil => simp [eqElems, beqL]
        | cons _ _ => simp at hl
      | cons a x ih =>
        intro y cx cy s hl h1 h2 h3 h4
        cases y with
        | nil => simp at hl
        | cons b y =>
          cases cx with
          | nil => exact h1.elim
          | cons c cx =>
            cases cy with
            | nil => exact h2.elim
            | cons c' cy =>
              have l1 := FlatD.length _ _ _ h1.1
              have l2 := FlatD.length _ _ _ h2.1
              obtain ⟨v1, r1, a1⟩ := run_part w hte xs (s * τ.size) h1.1 (by rw [h3, ← l1]; simp)
              obtain ⟨v2, r2, a2⟩ := run_part w hte ys (s * τ.size) h2.1 (by rw [h4, ← l2]; simp)
              have hd' : τ.dep ≤ d := by simp [Ty.dep] at hd; omega
              have he := eq_data w τ e d a b v1 v2 hte (by simpa [Ty.cmp] using hc) hd' a1 a2
              have e1 : xs.toList.drop ((s + 1) * τ.size) = cx.flatten := by
                rw [Nat.add_mul, Nat.one_mul, ← List.drop_drop, h3, ← l1]; simp
              have e2 : ys.toList.drop ((s + 1) * τ.size) = cy.flatten := by
                rw [Nat.add_mul, Nat.one_mul, ← List.drop_drop, h4, ← l2]; simp
              have hr := ih y cx cy (s + 1) (by simpa using hl) h1.2 h2.2 e1 e2
              simp only [List.length_cons, List.range'_succ, eqElems, Sem.run_bind, r1, r2, Result.andThen_ok, he, beqL_cons]
              cases hb : beqD τ a b with
              | false => simp
              | true => simpa using hr
    have := key x y cx cy 0 (by rw [hlx, hly]) hax hay (by simpa using hcx) (by simpa using hcy)
    rw [hlx] at this
    simpa [beqD] using this
  | .unit, t, d, x, y, v, u, ht, _, hd, hv, hu => by
    obtain ⟨d, rfl⟩ : ∃ m, d = m + 1 := ⟨d - 1, by simp [Ty.dep] at hd; omega⟩
    obtain ⟨xs, rfl, hx⟩ := hv.agg rfl
    obtain ⟨ys, rfl, hy⟩ := hu.agg rfl
    have hfo : P.fieldsOf t = #[] := by simp [Program.fieldsOf, ht.1]
    rw [run_equalIn_struct w d t xs ys (by rw [hfo]; exact ht.1) ht.2.2, hfo]
    simp [Op.eqFields, beqD]
  | .pair a b, t, d, x, y, v, u, ht, hc, hd, hv, hu => by
    obtain ⟨d, rfl⟩ : ∃ m, d = m + 1 := ⟨d - 1, by simp [Ty.dep] at hd; omega⟩
    obtain ⟨xs, rfl, hx⟩ := hv.agg rfl
    obtain ⟨ys, rfl, hy⟩ := hu.agg rfl
    obtain ⟨fs, hfs, hf, _, hsh, _⟩ := ht
    have hfo : P.fieldsOf t = fs := by simp [Program.fieldsOf, hfs]
    rw [run_equalIn_struct w d t xs ys (by rw [hfo]; exact hfs) hsh, hfo]
    exact eq_fields w (.pair a b) fs.toList 0 d x y xs ys hf hc hd hx hy
  | .sl _, _, _, _, _, _, _, _, hc, _, _, _ => by simp [Ty.cmp] at hc
  | .opq, _, _, _, _, _, _, _, hc, _, _, _ => by simp [Ty.cmp] at hc
theorem eq_fields {E : Env} (w : World) : ∀ (τ : Ty) (fs : List Field) (off d : Nat) (x y : τ.den) (xs ys : Array Value), FieldsOk P τ fs off → τ.cmp = true → τ.dep ≤ d + 1 →
    FlatD E τ x (xs.toList.drop off) → FlatD E τ y (ys.toList.drop off) → (Op.eqFields d xs ys fs).run P w = .ok (beqD τ x y) w
  | .unit, fs, off, d, x, y, xs, ys, hf, _, _, _, _ => by
    simp only [FieldsOk] at hf
    subst hf
    simp [Op.eqFields, beqD]
  | .pair a b, fs, off, d, x, y, xs, ys, hf, hc, hd, hx, hy => by
    obtain ⟨f, r, rfl, ho, hz, hn, hta, hr⟩ := hf
    obtain ⟨c1, c2, e1, h1, h2⟩ := hx
    obtain ⟨d1, d2, e2, g1, g2⟩ := hy
    have l1 := FlatD.length _ _ _ h1
    have l2 := FlatD.length _ _ _ g1
    have hc' : a.cmp = true ∧ b.cmp = true := by simpa [Ty.cmp] using hc
    have hd1 : a.dep ≤ d := by simp only [Ty.dep] at hd; omega
    have hd2 : b.dep ≤ d + 1 := by simp only [Ty.dep] at hd; omega
    obtain ⟨v1, r1, a1⟩ := run_part w hta xs off h1 (by rw [e1, ← l1]; simp)
    obtain ⟨v2, r2, a2⟩ := run_part w hta ys off g1 (by rw [e2, ← l2]; simp)
    have he := eq_data w a f.type d x.1 y.1 v1 v2 hta hc'.1 hd1 a1 a2
    have i1 : xs.toList.drop (off + a.size) = c2 := by rw [← List.drop_drop, e1, ← l1]; simp
    have i2 : ys.toList.drop (off + a.size) = d2 := by rw [← List.drop_drop, e2, ← l2]; simp
    have ih := eq_fields w b r (off + a.size) d x.2 y.2 xs ys hr hc'.2 hd2 (by rw [i1]; exact h2) (by rw [i2]; exact g2)
    simp only [Op.eqFields, hn, ne_eq, not_false_eq_true, if_true, ho, Sem.run_bind, r1, r2, Result.andThen_ok, he, beqD]
    cases hb : beqD a x.1 y.1 with
    | false => simp
    | true => simpa using ih
  | .int _, _, _, _, _, _, _, _, hf, _, _, _, _ => by simp [FieldsOk] at hf
  | .bool, _, _, _, _, _, _, _, hf, _, _, _, _ => by simp [FieldsOk] at hf
  | .str, _, _, _, _, _, _, _, hf, _, _, _, _ => by simp [FieldsOk] at hf
  | .arr _ _, _, _, _, _, _, _, _, hf, _, _, _, _ => by simp [FieldsOk] at hf
  | .sl _, _, _, _, _, _, _, _, hf, _, _, _, _ => by simp [FieldsOk] at hf
  | .opq, _, _, _, _, _, _, _, hf, _, _, _, _ => by simp [FieldsOk] at hf
end

end
end Go.Bx
