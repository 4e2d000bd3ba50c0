/- A part of a framework that reads Go code as functions of plain data; or a law about such functions. -/
import Derived.Test.YthgnmgdhgmobpaaBxK
namespace Go.Bx
open Go Go.RowKit

section
variable {P : Program} {C : Ctx} {w0 : World} {I0 : Nat → Nat → Prop} {S : St} {a : Act} {w : World} {β : Nat → Option Nat}

theorem chk_cps {α : Type} (g : Option Gd) (c : Prop) (i : Decidable c) (S' : St) (K : St → Option α) : chk g c i (K S') = (chk g c i (some S')).bind K := by
  cases g <;> simp only [chk] <;> split <;> rfl

theorem T_cps {α : Type} (g : Option Gd) (o : Oper) (S : St) (K : St → Option α) : T C g o S K = (T C g o S some).bind K := by
  unfold T
  cases valR C g S.fr S.hp o.op with
  | none =>
    cases g with
    | none => simp only; cases effR C S o.dst o.op <;> rfl
    | some gd => rfl
  | some r =>
    cases r with
    | val c i v => exact chk_cps g c i _ K
    | call F x => simp only; cases runF g F x <;> rfl
    | new v => rfl

theorem run_zeroValue (w : World) {τ : Ty} {t : TypeId} (h : Info P t τ) : ∃ z : Value, (zeroValue t).run P w = .ok z w ∧ z.cells.toList = zc τ := by
  obtain ⟨inf, z, h1, _, h3, h4, _⟩ := h
  exact ⟨z, by simp [zeroValue, typeInfo, h1, h3], h4⟩

theorem eff_sound (hC : CtxOk P C) (h : Rel w0 I0 S a w β) (o : Oper) {S' : St} (hv : effR C S o.dst o.op = some S') {Q : Exit → Act → World → Prop} :
    o.wp P a w (fun a' w' => Behind w0 I0 S' a' w') Q := by
  obtain ⟨dst, op, type, pos, after, guard⟩ := o
  have none_yes : Yes none a.tmps := fun gd e => by cases e
  simp only [effR] at hv
  split at hv
  · rename_i v id blk he
    cases hv
    cases op <;> simp only [effA, reduceCtorEq] at he
    case alloc t =>
      split at he
      · rename_i τ d hτ
        split at he
        · rename_i hf
          simp only [Bool.and_eq_true] at hf
          cases he
          have htk := hC.ty _ _ hτ
          obtain ⟨z, hz1, hz2⟩ := run_zeroValue (P := P) w htk.info
          have hrun : (execOp a.eval { dst := some id, op := .alloc t, type, pos, after, guard }).run P w = .ok (.value (.pointer (some ⟨w.heap.size, 0, none⟩))) (w.alloc (.cells z.cells t)) := by
            simp only [execOp, Instr.alloc, Sem.run_bind, hz1, Result.andThen_ok]
            simp [newVar, newRow]
          unfold Oper.wp
          rw [hrun, Oper.upon_value]
          exact ⟨_, h.alloc hf.1 (by rw [hz2]; exact FlatD.zero τ hf.2) t⟩
        · cases he
      · cases he
    case box t x =>
      split at he
      · rename_i τ d τ' y hτ heq
        split at he
        · rename_i hf
          simp only [Bool.and_eq_true, decide_eq_true_eq] at hf
          cases he
          have hx := h.ud none_yes x
          rw [heq] at hx
          simp only [AtV] at hx
          have hrun : (execOp a.eval { dst := some id, op := .box t x, type, pos, after, guard }).run P w = .ok (.value (.pointer (some ⟨w.heap.size, 0, none⟩))) (w.alloc (.cells (a.eval x).cells t)) := by
            simp [execOp, Instr.box, newVar, newRow]
          unfold Oper.wp
          rw [hrun, Oper.upon_value]
          exact ⟨_, h.alloc hf.1 hx.cells t⟩
        · cases he
      · cases he
    case store t x y =>
      split at he
      · rename_i id p τ z heq heq2
        split at he
        · rename_i σ' σ c hblk
          split at he
          · rename_i c' hu
            split at he
            · rename_i hτ
              cases he
              have hx := h.ud none_yes x
              have hy := h.ud none_yes y
              rw [heq] at hx; rw [heq2] at hy
              simp only [AtV] at hx hy
              obtain ⟨rfl, b', arr, ty, e1, e2, e3⟩ := h.blk hblk
              obtain ⟨b, τ0, c0, o, u, hb1, hb2, hb3, hb4⟩ := hx
              rw [hblk] at hb1
              simp only [Option.some.injEq, Blk.var.injEq] at hb1
              obtain ⟨rfl, rfl⟩ := hb1
              rw [e1] at hb2; cases hb2
              have hcells := hy.cells
              obtain ⟨_, g2, g3⟩ := updP_flat _ _ _ p o u τ z c' _ e3 hb3 hu hcells
              have hlen := FlatD.length _ _ _ hcells
              have htk := hC.ty _ _ hτ
              have hone : ∀ v ∈ (a.eval y).cells.toList, v.oneCell' = true := fun v hv => oneCell_bool (FlatD.cell _ _ _ hcells v hv)
              have hst := run_storeCells_at P b' o ty (a.eval y).cells.toList 0 arr w e2 (by simpa using g2) hone
              simp only [Nat.add_zero] at hst
              have hrun : (execOp a.eval { dst, op := .store t x y, type, pos, after, guard }).run P w = .ok .skip (w.setRow b' (lay arr.toList o (a.eval y).cells.toList).toArray) := by
                have hsz : (a.eval y).cells.size = τ.size := by simpa using hlen
                simp only [execOp, Instr.storeAt, hb4, Instr.sureAddr, storeVar, Sem.run_bind, Sem.run_pure, Result.andThen_ok, run_sizeOf w htk.info, hsz, ne_eq, not_true_eq_false, if_false, hst, lay]
              unfold Oper.wp
              rw [hrun, Oper.upon_skip]
              exact ⟨β, h.store hblk e1 e2 (by simpa using g3) dst⟩
            · cases he
          · cases he
        · cases he
      · cases he
  · cases hv

/-- ONE OPERATION that is carried out -/
theorem T_yes (hC : CtxOk P C) (h : Rel w0 I0 S a w β) {g : Option Gd} (hg : Yes g a.tmps) (hgb : ∀ gd, g = some gd → gd.b = true) (o : Oper) (hgd : ∀ gd, g = some gd → o.dst ≠ some gd.d) {S' : St}
    (ht : T C g o S some = some S') {Q : Exit → Act → World → Prop} : o.wp P a w (fun a' w' => Behind w0 I0 S' a' w') Q := by
  have hg' : ∀ x gd, g = some gd → (a.put o.dst x).tmps[gd.d]? = some (.bool gd.want) := fun x gd e => by rw [put_other (hgd gd e)]; exact hg gd e
  unfold T at ht
  cases hv : valR C g S.fr S.hp o.op with
  | none =>
    rw [hv] at ht
    cases g with
    | some gd => cases ht
    | none =>
      simp only at ht
      cases he : effR C S o.dst o.op with
      | none => rw [he] at ht; cases ht
      | some S1 => rw [he] at ht; cases ht; exact eff_sound hC h o he
  | some r =>
    rw [hv] at ht
    cases r with
    | val c i v =>
      simp only at ht
      have hc : c ∧ S' = ⟨setF S.fr o.dst (tag g (saneT C o.type v)), S.hp⟩ := by
        cases g with
        | none =>
          simp only [chk] at ht
          split at ht
          · rename_i hc; exact ⟨hc, (Option.some.inj ht).symm⟩
          · cases ht
        | some gd =>
          simp only [chk] at ht
          split at ht
          · rename_i hc
            simp only [hgb gd rfl, Bool.not_true, Bool.or_false, decide_eq_true_eq] at hc
            exact ⟨hc, (Option.some.inj ht).symm⟩
          · cases ht
      obtain ⟨hc, rfl⟩ := hc
      obtain ⟨x, r1, r2⟩ := valR_val hC h hg o hv hc
      unfold Oper.wp
      rw [r1, Oper.upon_value]
      exact ⟨β, h.put o.dst _ x fun d _ => tag_at (hg' x) r2⟩
    | call F x =>
      simp only at ht
      have hr : ∃ r, F.run x = some r ∧ S' = ⟨setF S.fr o.dst (tag g (F.out r)), S.hp⟩ := by
        cases g with
        | none =>
          simp only [runF] at ht
          obtain ⟨r, h1, h2⟩ := Option.bind_eq_some_iff.1 ht
          exact ⟨r, h1, (Option.some.inj h2).symm⟩
        | some gd =>
          simp only [runF, hgb gd rfl, if_true] at ht
          obtain ⟨r, h1, h2⟩ := Option.bind_eq_some_iff.1 ht
          exact ⟨r, h1, (Option.some.inj h2).symm⟩
      obtain ⟨r, hr, rfl⟩ := hr
      refine valR_call hC h hg o hv hr fun v w' hR hV => ⟨β, ?_⟩
      have hs : F.out r = saneT C o.type (F.out r) := by unfold Fn.out; cases F.multi <;> rfl
      rw [hs]
      exact hR.put o.dst _ v fun d _ => tag_at (hg' v) hV
    | new v =>
      simp only [Option.some.injEq] at ht
      subst ht
      exact valR_new hC h hg o hv fun x w' hR hV => ⟨β, hR.put o.dst _ x fun d _ => tag_at (hg' x) hV⟩

/-- ONE OPERATION that its guard leaves out -/
theorem T_no (h : Rel w0 I0 S a w β) {gd : Gd} (hn : a.tmps[gd.d]? ≠ some (.bool gd.want)) (o : Oper) (hgd : o.dst ≠ some gd.d) {S' : St} (ht : T C (some gd) o S some = some S') : Behind w0 I0 S' (a.put o.dst undef) w := by
  have hn' : (a.put o.dst undef).tmps[gd.d]? ≠ some (.bool gd.want) := by rw [put_other hgd]; exact hn
  unfold T at ht
  cases hv : valR C (some gd) S.fr S.hp o.op with
  | none => rw [hv] at ht; cases ht
  | some r =>
    rw [hv] at ht
    cases r with
    | val c i v =>
      simp only [chk] at ht
      split at ht
      · cases ht
        exact ⟨β, h.put o.dst _ undef fun d _ => tag_undef hn'⟩
      · cases ht
    | call F x =>
      simp only at ht
      obtain ⟨r, _, h2⟩ := Option.bind_eq_some_iff.1 ht
      cases h2
      have hs : F.out r = saneT C o.type (F.out r) := by unfold Fn.out; cases F.multi <;> rfl
      rw [hs]
      exact ⟨β, h.put o.dst _ undef fun d _ => tag_undef hn'⟩
    | new v =>
      simp only [Option.some.injEq] at ht
      subst ht
      exact ⟨β, h.put o.dst _ undef fun d _ => tag_undef hn'⟩

/-- one step of the abstract run, guard and all -/
def step1 (C : Ctx) (ops : Array Oper) (o : Oper) (S : St) : Option St :=
  match guardOf ops S.fr o with
  | none => none
  | some g => T C g o S some

theorem step1_sound (hC : CtxOk P C) (h : Behind w0 I0 S a w) {ops : Array Oper} (o : Oper) {S' : St} (ht : step1 C ops o S = some S') {Q : Exit → Act → World → Prop} :
    if Region.wanted o (yielded ops a.tmps) then o.wp P a w (fun a' w' => Behind w0 I0 S' a' w') Q else Behind w0 I0 S' (a.put o.dst undef) w := by
  obtain ⟨β, h⟩ := h
  unfold step1 at ht
  cases hgo : guardOf ops S.fr o with
  | none => rw [hgo] at ht; cases ht
  | some g =>
    rw [hgo] at ht
    simp only at ht
    unfold guardOf at hgo
    cases hgd : o.guard with
    | none =>
      rw [hgd] at hgo
      cases hgo
      rw [if_pos (by simp [Region.wanted, hgd])]
      exact T_yes hC h (fun _ e => by cases e) (fun _ e => by cases e) o (fun _ e => by cases e) ht
    | some jw =>
      obtain ⟨j, wt⟩ := jw
      rw [hgd] at hgo
      simp only at hgo
      cases hd : (ops[j]?).bind (·.dst) with
      | none => rw [hd] at hgo; cases hgo
      | some d =>
        rw [hd] at hgo
        simp only at hgo
        split at hgo
        · cases hgo
        · rename_i hne
          have key : ∀ b, g = some ⟨d, wt, (b == wt)⟩ → (a.tmps[d]? = some (.bool wt) → b = wt) →
              if Region.wanted o (yielded ops a.tmps) then o.wp P a w (fun a' w' => Behind w0 I0 S' a' w') Q else Behind w0 I0 S' (a.put o.dst undef) w := by
            intro b hg hb
            subst hg
            by_cases hw : a.tmps[d]? = some (.bool wt)
            · rw [if_pos (by simp [Region.wanted, hgd, yielded, hd, hw])]
              exact T_yes hC h (fun gd e => by cases e; exact hw) (fun gd e => by cases e; simp [hb hw]) o (fun gd e => by cases e; exact hne) ht
            · rw [if_neg]
              · exact T_no h (gd := ⟨d, wt, (b == wt)⟩) hw o hne ht
              · simp only [Region.wanted, hgd, yielded, hd, Option.bind_some]
                cases hx : a.tmps[d]? with
                | none => simp
                | some v =>
                  cases v <;> simp
                  rename_i b'
                  intro e
                  exact hw (by rw [hx, e])
          have hlt : ∀ v, a.tmps[d]? = some v → AtV ⟨w, β, S.hp, w0.heap.size, I0⟩ a.tmps (nth S.fr d) v := fun v hv => h.fr d v hv
          split at hgo
          · rename_i b heq
            refine key b (Option.some.inj hgo).symm fun hw => ?_
            have := hlt _ hw
            rw [heq] at this
            have := this.bool
            simpa using this.symm
          · rename_i d' w' b heq
            refine key b (Option.some.inj hgo).symm fun hw => ?_
            have := hlt _ hw
            rw [heq] at this
            simp only [AtV] at this
            by_cases hc : a.tmps[d']? = some (.bool w')
            · have := AtV.bool (G := ⟨w, β, S.hp, w0.heap.size, I0⟩) (tm := #[]) (by simpa only [AtV] using this.1 hc)
              simpa using this.symm
            · have := this.2 hc
              simp [undef] at this
          · cases hgo

end
end Go.Bx
