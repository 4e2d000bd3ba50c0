/- A part of a framework that reads Go code as functions of plain data; or a law about such functions. -/
import Derived.Test.YtebnjboimekljaaCxC
namespace Go.Bx
set_option linter.unusedVariables false
set_option linter.unusedSimpArgs false
open Go Go.RowKit

section
variable {P : Program}

theorem oneCell_bool {v : Value} (h : oneCell v) : v.oneCell' = true := by
  obtain ⟨_, h2, h3⟩ := h
  cases v with
  | agg cs => exact absurd rfl (h3 cs)
  | tuple vs => exact absurd rfl (h2 vs)
  | _ => rfl

theorem AtD.one {E : Env} {t : Ty} {x : t.den} {v : Value} (h : AtD E t x v) (ht : t.isAgg = false) : FlatD E t x [v] := by
  unfold AtD at h; rw [ht] at h; exact h

theorem AtD.agg {E : Env} {t : Ty} {x : t.den} {v : Value} (h : AtD E t x v) (ht : t.isAgg = true) : ∃ cs, v = .agg cs ∧ FlatD E t x cs.toList := by
  unfold AtD at h; rw [ht] at h; exact h

theorem AtD.cells {E : Env} {t : Ty} {x : t.den} {v : Value} (h : AtD E t x v) : FlatD E t x v.cells.toList := by
  cases ht : t.isAgg with
  | true => obtain ⟨cs, rfl, hf⟩ := h.agg ht; exact hf
  | false =>
    have hf := h.one ht
    have := (FlatD.cell _ _ _ hf v (by simp)).1
    rw [this]; exact hf

theorem AtD.ofFlat {E : Env} {t : Ty} {x : t.den} {v : Value} (hf : FlatD E t x [v]) (ht : t.isAgg = false) : AtD E t x v := by
  unfold AtD; rw [ht]; exact hf
theorem AtD.ofAgg {E : Env} {t : Ty} {x : t.den} {cs : Array Value} (hf : FlatD E t x cs.toList) (ht : t.isAgg = true) : AtD E t x (.agg cs) := by
  unfold AtD; rw [ht]; exact ⟨cs, rfl, hf⟩

theorem AtD.ext {E E' : Env} (h : Ext E E') {t : Ty} {x : t.den} {v : Value} (hx : AtD E t x v) : AtD E' t x v := by
  cases ht : t.isAgg with
  | true => obtain ⟨cs, rfl, hf⟩ := hx.agg ht; exact .ofAgg (hf.ext h) ht
  | false => exact .ofFlat ((hx.one ht).ext h) ht

theorem add_plain (a : Addr) (n : Nat) (h : a.spot = none) : a.add n = ⟨a.block, a.off + n, none⟩ := by
  obtain ⟨b, o, s⟩ := a
  simp at h; subst h
  unfold Addr.add
  split <;> simp_all

theorem run_isAgg (w : World) {τ : Ty} {t : TypeId} (h : TyOk P τ t) : (isAgg t).run P w = .ok τ.isAgg w := by
  unfold isAgg
  cases τ <;> simp only [TyOk] at h
  · simp [run_underlying h.1, Ty.isAgg]
  · simp [run_underlying h.1, Ty.isAgg]
  · simp [run_underlying h.1, Ty.isAgg]
  · obtain ⟨e, h, _⟩ := h; simp [run_underlying h, Ty.isAgg]
  · obtain ⟨e, h, _⟩ := h; simp [run_underlying h, Ty.isAgg]
  · simp [run_underlying h.1, Ty.isAgg]
  · obtain ⟨e, h, _⟩ := h; simp [run_underlying h, Ty.isAgg]
  · obtain ⟨d, h, hd, _⟩ := h; cases d <;> simp [opqDesc] at hd <;> simp [run_underlying h, Ty.isAgg]

theorem run_sizeOf (w : World) {τ : Ty} {t : TypeId} (h : Info P t τ) : (sizeOf t).run P w = .ok τ.size w := by
  obtain ⟨inf, z, h1, h2, _⟩ := h
  simp [sizeOf, typeInfo, h1, h2]

/-- a variable that holds data is read -/
theorem run_loadVar (w : World) {τ : Ty} {t : TypeId} (h : TyOk P τ t) (a : Addr) (ha : a.spot = none) {E : Env} {x : τ.den} {ds : List Value} (hx : FlatD E τ x ds)
    (hc : ∀ j v, ds[j]? = some v → w.cell? ⟨a.block, a.off + j, none⟩ = some v) : ∃ v, (loadVar t a).run P w = .ok v w ∧ AtD E τ x v := by
  have hl := FlatD.length _ _ _ hx
  cases hτ : τ.isAgg with
  | true =>
    refine ⟨.agg ds.toArray, ?_, .ofAgg (by simpa using hx) hτ⟩
    have hcs := run_loadCells_list (P := P) w a ds (fun j v hv => by rw [add_plain a j ha]; exact hc j v hv)
    rw [hl] at hcs
    simp [loadVar, run_isAgg w h, hτ, run_sizeOf w h.info, hcs]
  | false =>
    have hs : τ.size = 1 := by cases τ <;> simp [Ty.isAgg] at hτ <;> rfl
    rw [hs] at hl
    obtain ⟨c, rfl⟩ := List.length_eq_one_iff.1 hl
    refine ⟨c, ?_, .ofFlat hx hτ⟩
    have h0 := hc 0 c (by simp)
    have ea : (⟨a.block, a.off + 0, none⟩ : Addr) = a := by obtain ⟨b, o, s⟩ := a; simp at ha; subst ha; rfl
    rw [ea] at h0
    simp [loadVar, run_isAgg w h, hτ, run_load, h0]

/-- a part of a value -/
theorem run_part (w : World) {E : Env} {τ : Ty} {t : TypeId} (h : TyOk P τ t) (cs : Array Value) (off : Nat) {x : τ.den} {ds : List Value} (hx : FlatD E τ x ds)
    (hc : (cs.toList.drop off).take τ.size = ds) : ∃ v, (part t cs off).run P w = .ok v w ∧ AtD E τ x v := by
  have hl := FlatD.length _ _ _ hx
  cases hτ : τ.isAgg with
  | true =>
    refine ⟨.agg (cs.extract off (off + τ.size)), ?_, .ofAgg ?_ hτ⟩
    · simp [part, run_isAgg w h, hτ, run_sizeOf w h.info]
    · have : (cs.extract off (off + τ.size)).toList = ds := by
        rw [← hc]
        simp [List.extract_eq_take_drop] 
      rw [this]; exact hx
  | false =>
    have hs : τ.size = 1 := by cases τ <;> simp [Ty.isAgg] at hτ <;> rfl
    rw [hs] at hl
    obtain ⟨c, rfl⟩ := List.length_eq_one_iff.1 hl
    refine ⟨c, ?_, .ofFlat hx hτ⟩
    have h0 : cs[off]? = some c := by
      have := congrArg (fun l : List Value => l[0]?) hc
      rw [hs] at this
      simpa using this
    simp [part, run_isAgg w h, hτ, h0]

def eqElems (d : Nat) (e : TypeId) (xs ys : Array Value) (n : Nat) : List Nat → Sem Bool
  | [] => pure true
  | i :: l => do
    let a ← part e xs (i * n)
    let b ← part e ys (i * n)
    let r ← Op.equalIn d e a b
    if (!r) = true then pure false else eqElems d e xs ys n l

theorem run_equalIn_array (w : World) (d : Nat) (t e : TypeId) (len n : Nat) (xs ys : Array Value) (ht : P.underlying t = some (.array len e)) (hn : ∀ w, (sizeOf e).run P w = .ok n w) :
    (Op.equalIn (d + 1) t (.agg xs) (.agg ys)).run P w = (eqElems d e xs ys n (List.range' 0 len)).run P w := by
  simp only [Op.equalIn, Sem.run_bind, run_underlying ht, Result.andThen_ok, hn]
  simp only [Std.Legacy.Range.forIn_eq_forIn_range', Std.Legacy.Range.size, Nat.sub_zero, Nat.add_sub_cancel, Nat.div_one]
  generalize hl : List.range' 0 len = l
  clear hl ht
  induction l generalizing w with
  | nil => simp [eqElems]
  | cons i l ih =>
    simp only [List.forIn_cons, eqElems, Sem.run_bind]
    generalize (part e xs (i * n)).run P w = r1
    cases r1 with
    | ok a w1 =>
      simp only [Result.andThen_ok]
      generalize (part e ys (i * n)).run P w1 = r2
      cases r2 with
      | ok b w2 =>
        simp only [Result.andThen_ok]
        generalize (Op.equalIn d e a b).run P w2 = r3
        cases r3 with
        | ok r w3 =>
          cases r
          · simp only [Result.andThen_ok, Bool.not_false, if_true, Sem.run_pure]
          · simp only [Result.andThen_ok, Bool.not_true, Bool.false_eq_true, if_false, Sem.run_pure]
            exact ih w3
        | halt x w3 => simp [Result.andThen]
      | halt x w2 => simp [Result.andThen]
    | halt x w1 => simp [Result.andThen]

end
end Go.Bx
