/- A part of a framework that reads Go code as functions of plain data; or a law about such functions. -/
import Derived.Test.YtebnjboimekljaaCxB
import Derived.WalkKit
namespace Go.Bx
set_option linter.unusedVariables false
set_option linter.unusedSimpArgs false
open Go Go.RowKit

/-- the cells of a zero value -/
def zc : Ty → List Value
  | .int k => [.int k 0] | .bool => [.bool false] | .str => [.string ByteArray.empty] | .arr n t => (List.replicate n (zc t)).flatten
  | .sl _ => [.slice none 0 0] | .unit => [] | .pair a b => zc a ++ zc b | .opq => [.pointer none]

/-- the cells of a zero value, of whatever kinds its parts are -/
def zcOk : Ty → List Value → Prop
  | .opq, cs => ∃ x, cs = [x] ∧ oneCell x
  | .pair a b, cs => ∃ c1 c2, cs = c1 ++ c2 ∧ zcOk a c1 ∧ zcOk b c2
  | .arr n t, cs => ∃ css : List (List Value), css.length = n ∧ cs = css.flatten ∧ ∀ c ∈ css, zcOk t c
  | .int k, cs => cs = zc (.int k)
  | .bool, cs => cs = zc .bool
  | .str, cs => cs = zc .str
  | .sl t, cs => cs = zc (.sl t)
  | .unit, cs => cs = []

theorem flatten_eq_replicate {c : List Value} : ∀ {css : List (List Value)}, (∀ d ∈ css, d = c) → css.flatten = (List.replicate css.length c).flatten
  | [], _ => rfl
  | d :: css, h => by
    have h1 := h d (by simp)
    have ih := flatten_eq_replicate (css := css) fun d hd => h d (List.mem_cons_of_mem _ hd)
    simp only [List.flatten_cons, List.length_cons, List.replicate_succ, h1, ih]

theorem zcOk_plain : ∀ (t : Ty) (cs : List Value), t.plain = true → zcOk t cs → cs = zc t
  | .int _, _, _, h => h
  | .bool, _, _, h => h
  | .str, _, _, h => h
  | .sl _, _, _, h => h
  | .unit, _, _, h => h
  | .opq, _, hp, _ => by simp [Ty.plain] at hp
  | .pair a b, cs, hp, ⟨c1, c2, e, h1, h2⟩ => by
    have hp' : a.plain = true ∧ b.plain = true := by simpa [Ty.plain] using hp
    rw [e, zcOk_plain a c1 hp'.1 h1, zcOk_plain b c2 hp'.2 h2]; rfl
  | .arr n t, cs, hp, ⟨css, hl, e, h⟩ => by
    have hp' : t.plain = true := by simpa [Ty.plain] using hp
    rw [e, flatten_eq_replicate (c := zc t) fun d hd => zcOk_plain t d hp' (h d hd), hl]; rfl

def Info (P : Program) (i : TypeId) (τ : Ty) : Prop :=
  ∃ inf z, P.info? i = some inf ∧ inf.size = τ.size ∧ inf.zero = some z ∧ zcOk τ z.cells.toList ∧ (τ.isAgg = true → ∃ cs, z = .agg cs) ∧ (τ.isAgg = false → oneCell z) ∧ inf.bytes = τ.bytes

/-- a type that is one cell, and no data -/
def opqDesc : TypeDesc → Bool
  | .pointer _ => true
  | .map _ _ => true
  | .func _ _ _ => true
  | .interface _ => true
  | _ => false

mutual
def TyOk (P : Program) : Ty → TypeId → Prop
  | .int k, i => P.underlying i = some (.int k) ∧ Info P i (.int k)
  | .bool, i => P.underlying i = some .bool ∧ Info P i .bool
  | .str, i => P.underlying i = some .string ∧ Info P i .str
  | .arr n t, i => ∃ e, P.underlying i = some (.array n e) ∧ TyOk P t e ∧ Info P i (.arr n t) ∧ (t.cmp = true → P.eqGuardType P.depth i = false)
  | .sl t, i => ∃ e, P.underlying i = some (.slice e) ∧ TyOk P t e ∧ Info P i (.sl t)
  | .unit, i => P.underlying i = some (.struct #[]) ∧ Info P i .unit ∧ P.stoodInHeld i = false
  | .pair a b, i => ∃ fs, P.underlying i = some (.struct fs) ∧ (∃ f r, fs.toList = f :: r ∧ f.offset = 0 ∧ a.size ≠ 0 ∧ f.name ≠ "_" ∧ TyOk P a f.type ∧ FieldsOk P b r (0 + a.size)) ∧ Info P i (.pair a b) ∧ P.stoodInHeld i = false ∧ ((a.cmp && b.cmp) = true → P.eqGuardType P.depth i = false)
  | .opq, i => ∃ d, P.underlying i = some d ∧ opqDesc d = true ∧ Info P i .opq
def FieldsOk (P : Program) : Ty → List Field → Nat → Prop
  | .unit, fs, _ => fs = []
  | .pair a b, fs, off => ∃ f r, fs = f :: r ∧ f.offset = off ∧ a.size ≠ 0 ∧ f.name ≠ "_" ∧ TyOk P a f.type ∧ FieldsOk P b r (off + a.size)
  | _, _, _ => False
end

theorem TyOk.info {P : Program} {τ : Ty} {i : TypeId} (h : TyOk P τ i) : Info P i τ := by
  cases τ <;> simp only [TyOk] at h
  · exact h.2
  · exact h.2
  · exact h.2
  · obtain ⟨e, _, _, h, _⟩ := h; exact h
  · obtain ⟨e, _, _, h⟩ := h; exact h
  · exact h.2.1
  · obtain ⟨e, _, _, h, _⟩ := h; exact h
  · obtain ⟨d, _, _, h⟩ := h; exact h

theorem inR_zero (k : IntKind) : inR k 0 = true := by cases k <;> decide

theorem all2_replicate {α β : Type} {R : α → β → Prop} {a : α} {b : β} (h : R a b) : ∀ n, All2 R (List.replicate n a) (List.replicate n b)
  | 0 => trivial
  | n + 1 => ⟨h, all2_replicate h n⟩

theorem FlatD.zero {E : Env} : ∀ (t : Ty), t.plain = true → FlatD E t t.zero (zc t)
  | .int k, _ => ⟨rfl, inR_zero k⟩
  | .bool, _ => rfl
  | .str, _ => ⟨ByteArray.empty, rfl, rfl, by decide⟩
  | .arr n t, h => ⟨by simp [Ty.zero], List.replicate n (zc t), rfl, all2_replicate (FlatD.zero t (by simpa [Ty.plain] using h)) n⟩
  | .sl t, _ => .inl ⟨rfl, rfl⟩
  | .unit, _ => rfl
  | .pair a b, h => by
    have h' : a.plain = true ∧ b.plain = true := by simpa [Ty.plain] using h
    exact ⟨zc a, zc b, rfl, FlatD.zero a h'.1, FlatD.zero b h'.2⟩
  | .opq, h => by simp [Ty.plain] at h

theorem getElem?_flatten_of_all2 {α : Type} {R : α → List Value → Prop} {n : Nat} (hn : ∀ a cs, R a cs → cs.length = n) : ∀ {l : List α} {css : List (List Value)}, All2 R l css →
    ∀ (i : Nat) (cs : List Value), css[i]? = some cs → ∀ j v, cs[j]? = some v → css.flatten[i * n + j]? = some v
  | [], [], _, i, cs, h, _, _, _ => by simp at h
  | _ :: l, c :: css, ⟨h1, h2⟩, 0, cs, h, j, v, hv => by
    simp at h; subst h
    have hj : j < c.length := by
      rcases Nat.lt_or_ge j c.length with h | h
      · exact h
      · rw [List.getElem?_eq_none h] at hv; cases hv
    simp only [List.flatten_cons, Nat.zero_mul, Nat.zero_add]
    rw [List.getElem?_append_left hj]; exact hv
  | _ :: l, c :: css, ⟨h1, h2⟩, i + 1, cs, h, j, v, hv => by
    have ih := getElem?_flatten_of_all2 hn h2 i cs (by simpa using h) j v hv
    have hc := hn _ _ h1
    simp only [List.flatten_cons]
    rw [List.getElem?_append_right (by rw [hc, Nat.add_mul]; omega)]
    rw [show (i + 1) * n + j - c.length = i * n + j by rw [hc, Nat.add_mul]; omega]
    exact ih

theorem getP_flat {E : Env} : ∀ (t : Ty) (x : t.den) (cs : List Value) (p : List Step) (o : Nat) (u : Ty), FlatD E t x cs → offT t p = some (o, u) →
    ∃ z cs', getP t x p = .data u z ∧ FlatD E u z cs' ∧ ∀ j v, cs'[j]? = some v → cs[o + j]? = some v
  | t, x, cs, [], o, u, h, ho => by
    have : o = 0 ∧ u = t := by cases t <;> simp [offT] at ho <;> exact ⟨ho.1.symm, ho.2.symm⟩
    obtain ⟨rfl, rfl⟩ := this
    exact ⟨x, cs, by cases u <;> rfl, h, fun j v hv => by simpa using hv⟩
  | .arr n t, l, cs, .idx i :: p, o, u, h, ho => by
    simp only [offT] at ho
    split at ho
    · rename_i hi
      cases ho2 : offT t p with
      | none => simp [ho2] at ho
      | some q =>
        obtain ⟨o2, u2⟩ := q
        simp [ho2] at ho
        obtain ⟨rfl, rfl⟩ := ho
        obtain ⟨hl, css, hc, ha⟩ := h
        have hil : i.toNat < l.length := by rw [hl]; omega
        obtain ⟨hm, hr⟩ := ha.get i.toNat hil
        have hgd : l.getD i.toNat t.zero = l[i.toNat] := by simp [List.getD, List.getElem?_eq_getElem hil]
        obtain ⟨z, cs', h1, h2, h3⟩ := getP_flat t (l.getD i.toNat t.zero) css[i.toNat] p o2 u2 (by rw [hgd]; exact hr) ho2
        refine ⟨z, cs', by simp only [getP]; exact h1, h2, fun j v hv => ?_⟩
        rw [hc, Nat.add_assoc]
        exact getElem?_flatten_of_all2 (fun a cs h => FlatD.length t a cs h) ha i.toNat _ (List.getElem?_eq_getElem hm) _ _ (h3 j v hv)
    · cases ho
  | .pair a b, x, cs, .fld 0 :: p, o, u, h, ho => by
    obtain ⟨c1, c2, hc, h1, h2⟩ := h
    simp only [offT] at ho
    obtain ⟨z, cs', g1, g2, g3⟩ := getP_flat a x.1 c1 p o u h1 ho
    refine ⟨z, cs', by simp only [getP]; exact g1, g2, fun j v hv => ?_⟩
    have := g3 j v hv
    rw [hc]
    have hj : o + j < c1.length := by
      rcases Nat.lt_or_ge (o + j) c1.length with h | h
      · exact h
      · rw [List.getElem?_eq_none h] at this; cases this
    rw [List.getElem?_append_left hj]; exact this
  | .pair a b, x, cs, .fld (k + 1) :: p, o, u, h, ho => by
    obtain ⟨c1, c2, hc, h1, h2⟩ := h
    simp only [offT] at ho
    cases ho2 : offT b (.fld k :: p) with
    | none => simp [ho2] at ho
    | some q =>
      obtain ⟨o2, u2⟩ := q
      simp [ho2] at ho
      obtain ⟨rfl, rfl⟩ := ho
      obtain ⟨z, cs', g1, g2, g3⟩ := getP_flat b x.2 c2 (.fld k :: p) o2 u2 h2 ho2
      refine ⟨z, cs', by simp only [getP]; exact g1, g2, fun j v hv => ?_⟩
      rw [hc, List.getElem?_append_right (by rw [FlatD.length a _ _ h1]; omega)]
      rw [show a.size + o2 + j - c1.length = o2 + j by rw [FlatD.length a _ _ h1]; omega]
      exact g3 j v hv
  | .int _, _, _, _ :: _, _, _, _, ho => by simp [offT] at ho
  | .bool, _, _, _ :: _, _, _, _, ho => by simp [offT] at ho
  | .str, _, _, _ :: _, _, _, _, ho => by simp [offT] at ho
  | .sl _, _, _, _ :: _, _, _, _, ho => by simp [offT] at ho
  | .unit, _, _, _ :: _, _, _, _, ho => by simp [offT] at ho
  | .opq, _, _, _ :: _, _, _, _, ho => by simp [offT] at ho
  | .arr _ _, _, _, .fld _ :: _, _, _, _, ho => by simp [offT] at ho
  | .pair _ _, _, _, .idx _ :: _, _, _, _, ho => by simp [offT] at ho

/-- cells laid over others from a place on -/
def lay (cs : List Value) (o : Nat) (ds : List Value) : List Value := cs.take o ++ ds ++ cs.drop (o + ds.length)

theorem castD_some {a b : Ty} {x : a.den} {y : b.den} (h : castD a b x = some y) : ∃ e : a = b, y = e ▸ x := by
  unfold castD at h
  split at h
  · rename_i e; exact ⟨e, (Option.some.inj h).symm⟩
  · cases h

theorem lay_zero (cs ds : List Value) (h : ds.length = cs.length) : lay cs 0 ds = ds := by
  simp [lay, h]

theorem lay_right (c d ds : List Value) (o : Nat) : lay (c ++ d) (c.length + o) ds = c ++ lay d o ds := by
  simp only [lay]
  rw [List.take_append, List.drop_append, List.take_of_length_le (by omega), List.drop_of_length_le (by omega)]
  rw [show c.length + o - c.length = o by omega, show c.length + o + ds.length - c.length = o + ds.length by omega]
  simp

theorem lay_left (c d ds : List Value) (o : Nat) (h : o + ds.length ≤ c.length) : lay (c ++ d) o ds = lay c o ds ++ d := by
  simp only [lay]
  rw [List.take_append_of_le_length (by omega), List.drop_append_of_le_length (by omega)]
  simp

theorem all2_lay {α : Type} {R : α → List Value → Prop} {n : Nat} (hn : ∀ a cs, R a cs → cs.length = n) : ∀ {l : List α} {css : List (List Value)}, All2 R l css →
    ∀ (i : Nat) (hi : i < css.length) (o : Nat) (ds : List Value), o + ds.length ≤ n → (css.set i (lay css[i] o ds)).flatten = lay css.flatten (i * n + o) ds
  | [], [], _, i, hi, _, _, _ => by simp at hi
  | _ :: l, c :: css, ⟨h1, h2⟩, 0, hi, o, ds, ho => by
    have hc := hn _ _ h1
    simp only [List.set_cons_zero, List.flatten_cons, List.getElem_cons_zero, Nat.zero_mul, Nat.zero_add]
    rw [lay_left _ _ _ _ (by omega)]
  | _ :: l, c :: css, ⟨h1, h2⟩, i + 1, hi, o, ds, ho => by
    have ih := all2_lay hn h2 i (by simpa using hi) o ds ho
    have hc := hn _ _ h1
    have e1 : (i + 1) * n + o = c.length + (i * n + o) := by rw [hc, Nat.add_mul]; omega
    simp only [List.set_cons_succ, List.flatten_cons, List.getElem_cons_succ]
    rw [ih, e1, lay_right]

theorem updP_flat {E : Env} : ∀ (t : Ty) (x : t.den) (cs : List Value) (p : List Step) (o : Nat) (u t' : Ty) (y : t'.den) (x' : t.den) (ds : List Value), FlatD E t x cs → offT t p = some (o, u) →
    updP t x p t' y = some x' → FlatD E t' y ds → t' = u ∧ o + ds.length ≤ cs.length ∧ FlatD E t x' (lay cs o ds)
  | t, x, cs, [], o, u, t', y, x', ds, h, ho, hu, hy => by
    have : o = 0 ∧ u = t := by cases t <;> simp [offT] at ho <;> exact ⟨ho.1.symm, ho.2.symm⟩
    obtain ⟨rfl, rfl⟩ := this
    have hu' : castD t' u y = some x' := by cases u <;> simpa [updP] using hu
    obtain ⟨rfl, rfl⟩ := castD_some hu'
    have e : ds.length = cs.length := by rw [FlatD.length _ _ _ h, FlatD.length _ _ _ hy]
    exact ⟨rfl, by omega, by rw [lay_zero _ _ e]; exact hy⟩
  | .arr n t, l, cs, .idx i :: p, o, u, t', y, x', ds, h, ho, hu, hy => by
    simp only [offT] at ho
    split at ho
    · rename_i hi
      cases ho2 : offT t p with
      | none => simp [ho2] at ho
      | some q =>
        obtain ⟨o2, u2⟩ := q
        simp [ho2] at ho
        obtain ⟨rfl, rfl⟩ := ho
        obtain ⟨hl, css, hc, ha⟩ := h
        have hil : i.toNat < l.length := by rw [hl]; omega
        obtain ⟨hm, hr⟩ := ha.get i.toNat hil
        have hgd : l.getD i.toNat t.zero = l[i.toNat] := by simp [List.getD, List.getElem?_eq_getElem hil]
        simp only [updP] at hu
        obtain ⟨z, hu2, rfl⟩ := Option.map_eq_some_iff.1 hu
        obtain ⟨e, hle, hf⟩ := updP_flat t (l.getD i.toNat t.zero) css[i.toNat] p o2 u2 t' y z ds (by rw [hgd]; exact hr) ho2 hu2 hy
        have hcl := FlatD.length _ _ _ hr
        refine ⟨e, ?_, by simpa using hl, css.set i.toNat (lay css[i.toNat] o2 ds), ?_, ha.set _ _ _ hf⟩
        · have h1 : cs.length = n * t.size := by rw [hc, All2.flat_length (fun a cs h => FlatD.length t a cs h) ha, hl]
          have h2 : (i.toNat + 1) * t.size ≤ n * t.size := Nat.mul_le_mul_right _ (by omega)
          rw [Nat.add_mul] at h2
          omega
        · rw [hc, all2_lay (fun a cs h => FlatD.length t a cs h) ha i.toNat hm o2 ds (by omega)]
    · cases ho
  | .pair a b, x, cs, .fld 0 :: p, o, u, t', y, x', ds, h, ho, hu, hy => by
    obtain ⟨c1, c2, hc, h1, h2⟩ := h
    simp only [offT] at ho
    simp only [updP] at hu
    obtain ⟨z, hu2, rfl⟩ := Option.map_eq_some_iff.1 hu
    obtain ⟨e, hle, hf⟩ := updP_flat a x.1 c1 p o u t' y z ds h1 ho hu2 hy
    exact ⟨e, by rw [hc]; simp; omega, lay c1 o ds, c2, by rw [hc, lay_left _ _ _ _ hle], hf, h2⟩
  | .pair a b, x, cs, .fld (k + 1) :: p, o, u, t', y, x', ds, h, ho, hu, hy => by
    obtain ⟨c1, c2, hc, h1, h2⟩ := h
    simp only [offT] at ho
    simp only [updP] at hu
    cases ho2 : offT b (.fld k :: p) with
    | none => simp [ho2] at ho
    | some q =>
      obtain ⟨o2, u2⟩ := q
      simp [ho2] at ho
      obtain ⟨rfl, rfl⟩ := ho
      obtain ⟨z, hu2, rfl⟩ := Option.map_eq_some_iff.1 hu
      obtain ⟨e, hle, hf⟩ := updP_flat b x.2 c2 (.fld k :: p) o2 u2 t' y z ds h2 ho2 hu2 hy
      have hl1 := FlatD.length a _ _ h1
      exact ⟨e, by rw [hc]; simp; omega, c1, lay c2 o2 ds, by rw [hc, ← hl1, lay_right], h1, hf⟩
  | .int _, _, _, _ :: _, _, _, _, _, _, _, _, ho, _, _ => by simp [offT] at ho
  | .bool, _, _, _ :: _, _, _, _, _, _, _, _, ho, _, _ => by simp [offT] at ho
  | .str, _, _, _ :: _, _, _, _, _, _, _, _, ho, _, _ => by simp [offT] at ho
  | .sl _, _, _, _ :: _, _, _, _, _, _, _, _, ho, _, _ => by simp [offT] at ho
  | .unit, _, _, _ :: _, _, _, _, _, _, _, _, ho, _, _ => by simp [offT] at ho
  | .opq, _, _, _ :: _, _, _, _, _, _, _, _, ho, _, _ => by simp [offT] at ho
  | .arr _ _, _, _, .fld _ :: _, _, _, _, _, _, _, _, ho, _, _ => by simp [offT] at ho
  | .pair _ _, _, _, .idx _ :: _, _, _, _, _, _, _, _, ho, _, _ => by simp [offT] at ho

end Go.Bx
