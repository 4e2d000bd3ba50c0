/- A part of a framework that reads Go code as functions of plain data; or a law about such functions. -/
import Derived.Test.YtebnjboimekljaaCxX
namespace Go.Bx
set_option linter.unusedVariables false
set_option linter.unusedSimpArgs false
open Go Go.RowKit

theorem sliceL_val {e : Operand → V} {τ : Ty} {l : List τ.den} {lo hi mx : Option Operand} {o : Out} (h : sliceL e τ l lo hi mx = some o) : ∃ c i v, o = .val c i v := by
  unfold sliceL at h
  repeat' split at h
  all_goals first | (cases h; exact ⟨_, _, _, rfl⟩) | cases h

theorem effR_local {C : Ctx} {g : Option Gd} {fr : List V} {hp hp' : Heap} {dst : Option Nat} {op : Op} {o : Out} (ho : effR C g fr hp dst op = some o) (h : Agree (V.idsL (op.operands.toList.map (ev fr))) hp hp')
    (hcall : ∀ c, op = .call c → (∀ b, c.callee ≠ .builtin b) → Agree (reach hp (op.operands.toList.map (ev fr))) hp hp') (hw : Agree o.wr hp hp') : ∃ o', effR C g fr hp' dst op = some o' ∧ OutLoc hp hp' o o' := by
  have E : ∀ x, x ∈ op.operands → Agree (un g (ev fr x)).ids hp hp' := fun x hx i hi => h i (ids_ev (by simpa using hx) i (ids_un g _ i hi))
  have D : ∀ x, x ∈ op.operands → Agree (dd (un g (ev fr x))).ids hp hp' := fun x hx i hi => E x hx i (ids_dd _ i hi)
  have R : ∀ x, x ∈ op.operands → rd hp' (dd (un g (ev fr x))) = rd hp (dd (un g (ev fr x))) := fun x hx => rd_agree _ (D x hx)
  have W : ∀ x u, x ∈ op.operands → rd hp' (nilT u (dd (un g (ev fr x)))) = rd hp (nilT u (dd (un g (ev fr x)))) := fun x u hx => rd_agree _ ((D x hx).sub (ids_nilT u _))
  cases op <;> simp only [effR] at ho ⊢ <;> simp only [Op.operands] at E D R W <;> try (cases ho; done)
  case alloc t =>
    split at ho
    · split at ho
      · rename_i hf
        cases ho
        rw [free_agree (hw _ (by simp [Out.wr])), if_pos hf]
        exact ⟨_, rfl, .eff .set⟩
      · cases ho
    · cases ho
  case box t x =>
    split at ho
    · split at ho
      · rename_i hf
        cases ho
        rw [free_agree (hw _ (by simp [Out.wr])), if_pos hf]
        exact ⟨_, rfl, .eff .set⟩
      · cases ho
    · cases ho
  case store t x y =>
    have hy : Agree (dd (un g (ev fr y))).ids hp hp' := D y (by simp)
    split at ho
    · rename_i τ id ver p hτ he
      have hx : nthB hp' id = nthB hp id := D x (by simp) id (by rw [he]; simp [V.ids])
      rw [hx]
      split at ho
      · rename_i σ v hb
        split at ho
        · rename_i hc
          rw [if_pos hc]
          split at ho
          · rename_i v' hs
            cases ho
            exact ⟨_, rfl, .eff .set⟩
          · cases ho
        · cases ho
      · rename_i hb
        rw [frz_at (dd (un g (ev fr y))) hx, R y (by simp)]
        split at ho
        · rename_i σ l ver' hb2
          split at ho
          · rename_i hv
            simp only [if_pos hv]
            split at ho
            · rename_i i q τ' z hp2 hz
              (try simp only [hz])
              split at ho
              · rename_i ht
                simp only [if_pos ht]
                split at ho
                · rename_i z' hu
                  cases ho
                  (try simp only [hu])
                  exact ⟨_, rfl, .eff (.set_frz hy)⟩
                · cases ho
              · cases ho
            · cases ho
          · cases ho
        · cases ho
      · cases ho
    · cases ho
  case buildSlice t n parts =>
    have hb : ∀ (τ : Ty) (c : τ.den), buildV (fun x => rd hp' (dd (un g (ev fr x)))) τ parts.toList c = buildV (fun x => rd hp (dd (un g (ev fr x)))) τ parts.toList c := fun τ c => buildV_congr _ _ fun p hq => R p.2 (by simpa using mem_parts hq)
    simp only [hb]
    split at ho
    · split at ho
      · rename_i hc
        rw [if_pos hc]
        split at ho
        · rename_i y hy
          cases ho
          exact ⟨_, rfl, .eff (.frzL fun i hi => hw i hi)⟩
        · cases ho
      · cases ho
    · cases ho
  case makeSlice t len cap =>
    split at ho
    · split at ho
      · rename_i hf
        cases ho
        rw [free_agree (hw _ (by simp [Out.wr])), if_pos hf]
        exact ⟨_, rfl, .eff .set⟩
      · cases ho
    · cases ho
  case slice t x lo hi mx =>
    split at ho
    · rename_i id ver τ he hτ
      have hx : nthB hp' id = nthB hp id := D x (by simp) id (by rw [he]; simp [V.ids])
      rw [hx]
      split at ho
      · rename_i τ' l ver' z hb
        split at ho
        · rename_i hc
          simp only [if_pos hc]
          split at ho
          · rename_i c i v hs
            cases ho
            have hz : Agree (V.app id ver).ids hp hp' := fun i hi => by simp only [V.ids, List.mem_singleton] at hi; subst hi; exact hx
            exact ⟨_, rfl, .eff (by simpa only [V.ids] using Loc.frz hz)⟩
          · cases ho
        · cases ho
      · cases ho
    · cases ho
  case call c =>
    cases hc : c.callee with
    | builtin b =>
      rw [hc] at ho
      cases b <;> simp only at ho ⊢ <;> try (cases ho; done)
      · split at ho
        · rename_i x xs t t' ha hty
          have m1 : x ∈ c.operands := by simp [Call.operands, hc]; rw [← Array.mem_toList_iff, ha]; simp
          have m2 : xs ∈ c.operands := by simp [Call.operands, hc]; rw [← Array.mem_toList_iff, ha]; simp
          split at ho
          · rename_i e
            simp only [if_pos e]
            split at ho
            · rename_i τ hτ
              rw [W xs _ m2]
              exact appendE_local ho ((E x m1).sub (ids_nilT _ _)) hw
            · cases ho
          · cases ho
        · cases ho
      · split at ho
        · rename_i x xs t t' ha hty
          have m1 : x ∈ c.operands := by simp [Call.operands, hc]; rw [← Array.mem_toList_iff, ha]; simp
          have m2 : xs ∈ c.operands := by simp [Call.operands, hc]; rw [← Array.mem_toList_iff, ha]; simp
          split at ho
          · rename_i τ hτ
            rw [W xs _ m2]
            exact copyE_local ho (E x m1)
          · cases ho
        · cases ho
    | value f =>
      have hr := hcall c rfl (by rw [hc]; exact fun _ => nofun)
      rw [hc] at ho
      simp only at ho ⊢
      cases ht : target C (fun x => un g (ev fr x)) c with
      | none => rw [ht] at ho; cases ho
      | some fa =>
        obtain ⟨f, args⟩ := fa
        rw [ht] at ho
        simp only at ho ⊢
        have hs := target_ids ht
        rw [rdL_agree args (h.sub hs)]
        split at ho
        · rename_i F hF
          split at ho
          · cases ho
            exact ⟨_, rfl, .call (.frzL (h.sub hs))⟩
          · cases ho
        · split at ho
          · rename_i f' hf'
            rw [shCall_agree (hr.sub (reach_mono hs))]
            refine ⟨_, ho, ?_⟩
            simp only [shCall] at ho
            split at ho
            · cases ho; exact .sh
            · cases ho
          · cases ho
    | invoke r m =>
      have hr := hcall c rfl (by rw [hc]; exact fun _ => nofun)
      rw [hc] at ho
      simp only at ho ⊢
      cases ht : target C (fun x => un g (ev fr x)) c with
      | none => rw [ht] at ho; cases ho
      | some fa =>
        obtain ⟨f, args⟩ := fa
        rw [ht] at ho
        simp only at ho ⊢
        have hs := target_ids ht
        rw [rdL_agree args (h.sub hs)]
        split at ho
        · rename_i F hF
          split at ho
          · cases ho
            exact ⟨_, rfl, .call (.frzL (h.sub hs))⟩
          · cases ho
        · split at ho
          · rename_i f' hf'
            rw [shCall_agree (hr.sub (reach_mono hs))]
            refine ⟨_, ho, ?_⟩
            simp only [shCall] at ho
            split at ho
            · cases ho; exact .sh
            · cases ho
          · cases ho

end Go.Bx
