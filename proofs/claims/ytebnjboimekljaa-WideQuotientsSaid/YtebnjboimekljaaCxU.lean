/- A part of a framework that reads Go code as functions of plain data; or a law about such functions. -/
import Derived.Test.YtebnjboimekljaaCxT
import Derived.Orders
namespace Go.Bx
set_option linter.unusedVariables false
set_option linter.unusedSimpArgs false
open Go Go.RowKit

section
variable {P : Program} {C : Ctx} {G0 : GE} {S : St} {a : Act} {w : World} {β : Nat → Option Nat} {σ : Nat → Value}

/-- what stands behind an operation: some state that the abstract one tells -/
def Behind (G0 : GE) (S : St) (a : Act) (w : World) : Prop := ∃ β σ, Rel G0 S a w β σ

theorem Rel.look (h : Rel G0 S a w β σ) : Look (G0.at w β σ S.hp) a.tmps S.fr a.eval := ⟨h.ev, fun d => rfl⟩

theorem nth_map (f : V → V) (hf : f .any = .any) : ∀ (l : List V) (i : Nat), nth (l.map f) i = f (nth l i)
  | [], _ => hf.symm
  | _ :: _, 0 => rfl
  | _ :: l, i + 1 => by simpa [nth] using nth_map f hf l i

theorem nth_set (v : V) : ∀ (l : List V) (d i : Nat), nth (l.set d v) i = if d = i ∧ i < l.length then v else nth l i
  | [], d, i => by simp [nth]
  | _ :: _, 0, 0 => by simp [nth]
  | _ :: _, 0, i + 1 => by simp [nth]
  | _ :: _, d + 1, 0 => by simp [nth]
  | _ :: l, d + 1, i + 1 => by
    simp only [List.set_cons_succ, nth, List.length_cons, Nat.add_right_cancel_iff, Nat.add_lt_add_iff_right]
    exact nth_set v l d i

/-- a slot that is written leaves the others as they are: what hung on it is let go -/
theorem untag_at {G : GE} {tm : Array Value} {d : Nat} {y : Value} {v : V} {x : Value} (h : AtV G tm v x) : AtV G (tm.setIfInBounds d y) (untagD d v) x := by
  cases v with
  | opt d' w u =>
    simp only [untagD]
    split
    · exact .any
    · rename_i hd
      have hne : d ≠ d' := fun e => hd (by rw [e]; exact Nat.beq_refl d')
      simp only [AtV] at h ⊢
      rw [Array.getElem?_setIfInBounds_ne hne]
      exact h
  | _ => simp only [untagD, AtV] at h ⊢ <;> exact h

theorem length_setF (fr : List V) (d : Option Nat) (v : V) : (setF fr d v).length = fr.length := by
  cases d <;> simp [setF]

/-- a value is put into a slot of a state that has gone on -/
theorem Rel.next (h : Rel G0 S a w β σ) {w' : World} {β' : Nat → Option Nat} {σ' : Nat → Value} {hp' : Heap} (t : Tr (G0.at w β σ S.hp) (G0.at w' β' σ' hp')) (hR : HRel (G0.at w' β' σ' hp')) (dst : Option Nat) (v : V) (x : Value)
    (hx : ∀ d, dst = some d → AtV (G0.at w' β' σ' hp') (a.put dst x).tmps v x) : Rel G0 ⟨setF S.fr dst v, hp'⟩ (a.put dst x) w' β' σ' := by
  refine ⟨h.tr.trans t, hR, ?_, ?_, fun i y hy => ?_⟩
  · cases dst <;> exact h.defers
  · rw [length_setF, ← h.size]; cases dst <;> simp [Act.put]
  · cases dst with
    | none => exact (h.fr i y hy).ext t.keep
    | some d =>
      simp only [setF]
      rw [nth_set, nth_map _ rfl]
      simp only [Act.put] at hy ⊢
      by_cases hdi : d = i
      · subst hdi
        have hlt : d < a.tmps.size := by
          rcases Nat.lt_or_ge d a.tmps.size with h | h
          · exact h
          · rw [Array.getElem?_eq_none (by simpa using h)] at hy; cases hy
        rw [Array.getElem?_setIfInBounds_self_of_lt hlt] at hy
        cases hy
        rw [if_pos ⟨rfl, by simpa [← h.size] using hlt⟩]
        exact hx d rfl
      · rw [if_neg (fun e => hdi e.1)]
        rw [Array.getElem?_setIfInBounds_ne hdi] at hy
        exact untag_at ((h.fr i y hy).ext t.keep)

theorem Rel.put (h : Rel G0 S a w β σ) (dst : Option Nat) (v : V) (x : Value) (hx : ∀ d, dst = some d → AtV (G0.at w β σ S.hp) (a.put dst x).tmps v x) : Rel G0 ⟨setF S.fr dst v, S.hp⟩ (a.put dst x) w β σ :=
  h.next (Tr.refl _) h.ok dst v x hx

theorem tag_at {G : GE} {tm : Array Value} {g : Option Gd} {v : V} {x : Value} (hg : ∀ gd, g = some gd → tm[gd.d]? = some (.bool gd.want)) {tm' : Array Value} (h : AtV G tm' v x) {C : Ctx} {ty : Nat} : AtV G tm (tag g (saneT C ty v)) x := by
  cases g with
  | none => exact h.saneT
  | some gd =>
    simp only [tag, AtV]
    exact ⟨fun _ => h.saneT, fun e => absurd (hg gd rfl) e⟩

theorem tag_undef {G : GE} {tm : Array Value} {gd : Gd} {v : V} (hg : tm[gd.d]? ≠ some (.bool gd.want)) : AtV G tm (tag (some gd) v) undef := by
  simp only [tag, AtV]
  exact ⟨fun e => absurd e hg, fun _ => by first | rfl | trivial⟩

theorem put_other {a : Act} {dst : Option Nat} {d : Nat} {x : Value} (h : dst ≠ some d) : (a.put dst x).tmps[d]? = a.tmps[d]? := by
  cases dst with
  | none => rfl
  | some e => simp only [Act.put]; exact Array.getElem?_setIfInBounds_ne (fun e' => h (by rw [e']))

theorem chk_some {α : Type} {g : Option Gd} {c : Prop} {i : Decidable c} {x y : α} (h : chk g c i (some x) = some y) (hb : ∀ gd, g = some gd → gd.b = true) : c ∧ x = y := by
  cases g with
  | none =>
    simp only [chk] at h
    split at h
    · rename_i hc; exact ⟨hc, Option.some.inj h⟩
    · cases h
  | some gd =>
    simp only [chk] at h
    split at h
    · rename_i hc
      simp only [hb gd rfl, Bool.not_true, Bool.or_false, decide_eq_true_eq] at hc
      exact ⟨hc, Option.some.inj h⟩
    · cases h

theorem effR_nosh (hC : CtxOk P C) {g : Option Gd} {fr : List V} {hp : Heap} {dst : Option Nat} {op : Op} {s : Sh} {L : List Nat} : effR C g fr hp dst op ≠ some (.sh s L) := by
  intro hv
  cases op <;> simp only [effR, reduceCtorEq] at hv
  case call c =>
    split at hv
    · split at hv
      · split at hv
        · split at hv
          · revert hv; unfold appendE; repeat' split
            all_goals first | (simp [ifE]; done) | (intro h; cases h; done)
          · cases hv
        · cases hv
      · cases hv
    · split at hv
      · split at hv
        · revert hv; unfold copyE; repeat' split
          all_goals first | (simp [ifE]; done) | (intro h; cases h; done)
        · cases hv
      · cases hv
    · cases hv
    · split at hv
      · split at hv
        · split at hv <;> simp at hv
        · rw [hC.sh] at hv; cases hv
      · cases hv
  all_goals (revert hv)
  all_goals (repeat' split)
  all_goals first | (simp [ifE]; done) | (intro h; cases h; done)

/-- a step's outcome -/
abbrev pr : List Nat → St → Option (List Nat × St) := fun wr S => some (wr, S)

/-- ONE OPERATION that is carried out -/
theorem T_yes (hC : CtxOk P C) (h : Rel G0 S a w β σ) {g : Option Gd} (hg : Yes g a.tmps) (hgb : ∀ gd, g = some gd → gd.b = true) (o : Oper) (hgd : ∀ gd, g = some gd → o.dst ≠ some gd.d) {wr : List Nat} {S' : St}
    (ht : T C g o S pr = some (wr, S')) {Q : Exit → Act → World → Prop} : o.wp P a w (fun a' w' => Behind G0 S' a' w') Q := by
  have hg' : ∀ x gd, g = some gd → (a.put o.dst x).tmps[gd.d]? = some (.bool gd.want) := fun x gd e => by rw [put_other (hgd gd e)]; exact hg gd e
  have fin : ∀ {v : V} {hp' : Heap}, DoesW P (G0.at w β σ S.hp) a o v hp' Q → S' = ⟨setF S.fr o.dst (tag g (saneT C o.type v)), hp'⟩ → o.wp P a w (fun a' w' => Behind G0 S' a' w') Q := by
    rintro v hp' hd rfl
    refine Oper.wp_mono (fun a' w' hK => ?_) hd
    obtain ⟨x, β', σ', rfl, t1, t2, t3⟩ := hK
    exact ⟨β', σ', h.next t1 t2 o.dst _ x fun d _ => tag_at (hg' x) t3⟩
  unfold T at ht
  cases hv : valR C g S.fr S.hp o.op with
  | none =>
    rw [hv] at ht
    simp only at ht
    have hgt : doIt g = some true ∨ doIt g = none := by cases g with
      | none => exact .inl rfl
      | some gd =>
        simp only [doIt]
        split
        · rw [hgb gd rfl]; exact .inl rfl
        · exact .inr rfl
    rcases hgt with hgt | hgt
    rotate_left
    · rw [hgt] at ht; cases ht
    rw [hgt] at ht
    simp only at ht
    cases he : effR C g S.fr S.hp o.dst o.op with
    | none => rw [he] at ht; cases ht
    | some r =>
      rw [he] at ht
      cases r with
      | val c i v => cases ht
      | new v => cases ht
      | eff c i v hp wr' =>
        simp only at ht
        obtain ⟨hc, e⟩ := chk_some ht (fun _ e => by cases e)
        cases e
        exact fin (effR_eff hC h.ok h.look hg o he hc).toW rfl
      | call F x hp wr' =>
        simp only at ht
        obtain ⟨r, h1, h2⟩ := Option.bind_eq_some_iff.1 ht
        cases h2
        exact fin (effR_call hC h.ok h.look hg o he h1) rfl
      | sh s L => exact absurd he (effR_nosh hC)
  | some r =>
    rw [hv] at ht
    cases r with
    | val c i v =>
      simp only at ht
      obtain ⟨hc, e⟩ := chk_some ht hgb
      cases e
      obtain ⟨x, r1, r2⟩ := valR_val hC h.ok h.look hg o hv hc
      exact fin (val_toW h.ok r1 r2) rfl
    | call F x hp wr' =>
      simp only at ht
      have hr : ∃ r, F.run x = some r ∧ S' = ⟨setF S.fr o.dst (tag g (saneT C o.type (F.out r))), S.hp⟩ := by
        cases g with
        | none =>
          simp only [runF] at ht
          obtain ⟨r, h1, h2⟩ := Option.bind_eq_some_iff.1 ht
          cases h2; exact ⟨r, h1, rfl⟩
        | some gd =>
          simp only [runF, hgb gd rfl, if_true] at ht
          obtain ⟨r, h1, h2⟩ := Option.bind_eq_some_iff.1 ht
          cases h2; exact ⟨r, h1, rfl⟩
      obtain ⟨r, hr, e⟩ := hr
      exact fin (valR_call hC h.ok h.look hg o hv hr) e
    | new v =>
      cases ht
      exact fin (valR_new hC h.ok h.look hg o hv).toW rfl
    | eff c i v hp wr' => cases ht
    | sh s L => cases ht

/-- ONE OPERATION that its guard leaves out -/
theorem T_no (h : Rel G0 S a w β σ) {gd : Gd} (hn : a.tmps[gd.d]? ≠ some (.bool gd.want)) (hs : gd.sure = true → gd.b = false) (o : Oper) (hgd : o.dst ≠ some gd.d) {wr : List Nat} {S' : St} (ht : T C (some gd) o S pr = some (wr, S')) : Behind G0 S' (a.put o.dst undef) w := by
  have hn' : (a.put o.dst undef).tmps[gd.d]? ≠ some (.bool gd.want) := by rw [put_other hgd]; exact hn
  have fin : ∀ {v : V}, S' = ⟨setF S.fr o.dst (tag (some gd) v), S.hp⟩ → Behind G0 S' (a.put o.dst undef) w := by
    rintro v rfl
    exact ⟨β, σ, h.put o.dst _ undef fun d _ => tag_undef hn'⟩
  unfold T at ht
  cases hv : valR C (some gd) S.fr S.hp o.op with
  | none =>
    rw [hv] at ht
    simp only [doIt] at ht
    cases hsu : gd.sure with
    | true =>
      rw [hsu, hs hsu] at ht
      cases ht
      exact fin rfl
    | false => rw [hsu] at ht; cases ht
  | some r =>
    rw [hv] at ht
    cases r with
    | val c i v =>
      simp only [chk] at ht
      split at ht
      · cases ht; exact fin rfl
      · cases ht
    | call F x hp wr' =>
      simp only at ht
      obtain ⟨r, _, h2⟩ := Option.bind_eq_some_iff.1 ht
      cases h2
      exact fin rfl
    | new v => cases ht; exact fin rfl
    | eff c i v hp wr' => cases ht
    | sh s L => cases ht

/-- one step of the abstract run, guard and all -/
def step1 (C : Ctx) (ops : Array Oper) (o : Oper) (S : St) : Option (List Nat × St) :=
  match guardOf ops S.fr o with
  | none => none
  | some g => T C g o S pr

theorem step1_sound (hC : CtxOk P C) (h : Behind G0 S a w) {ops : Array Oper} (o : Oper) {wr : List Nat} {S' : St} (ht : step1 C ops o S = some (wr, S')) {Q : Exit → Act → World → Prop} :
    if Region.wanted o (yielded ops a.tmps) then o.wp P a w (fun a' w' => Behind G0 S' a' w') Q else Behind G0 S' (a.put o.dst undef) w := by
  obtain ⟨β, σ, h⟩ := h
  unfold step1 at ht
  cases hgo : guardOf ops S.fr o with
  | none => rw [hgo] at ht; cases ht
  | some g =>
    rw [hgo] at ht
    simp only at ht
    unfold guardOf at hgo
    cases hgd : o.guard with
    | none =>
      rw [hgd] at hgo
      cases hgo
      rw [if_pos (by simp [Region.wanted, hgd])]
      exact T_yes hC h (fun _ e => by cases e) (fun _ e => by cases e) o (fun _ e => by cases e) ht
    | some jw =>
      obtain ⟨j, wt⟩ := jw
      rw [hgd] at hgo
      simp only at hgo
      cases hd : (ops[j]?).bind (·.dst) with
      | none => rw [hd] at hgo; cases hgo
      | some d =>
        rw [hd] at hgo
        simp only at hgo
        split at hgo
        · cases hgo
        · rename_i hne
          have key : ∀ b sure, g = some ⟨d, wt, (b == wt), sure⟩ → (a.tmps[d]? = some (.bool wt) → b = wt) → (sure = true → a.tmps[d]? ≠ some (.bool wt) → b ≠ wt) →
              if Region.wanted o (yielded ops a.tmps) then o.wp P a w (fun a' w' => Behind G0 S' a' w') Q else Behind G0 S' (a.put o.dst undef) w := by
            intro b sure hg hb hs
            subst hg
            by_cases hw : a.tmps[d]? = some (.bool wt)
            · rw [if_pos (by simp [Region.wanted, hgd, yielded, hd, hw])]
              exact T_yes hC h (fun gd e => by cases e; exact hw) (fun gd e => by cases e; simp [hb hw]) o (fun gd e => by cases e; exact hne) ht
            · rw [if_neg]
              · exact T_no h (gd := ⟨d, wt, (b == wt), sure⟩) hw (fun e => by simpa using hs e hw) o hne ht
              · simp only [Region.wanted, hgd, yielded, hd, Option.bind_some]
                cases hx : a.tmps[d]? with
                | none => simp
                | some v =>
                  cases v <;> simp
                  rename_i b'
                  intro e
                  exact hw (by rw [hx, e])
          have hlt : ∀ v, a.tmps[d]? = some v → AtV (G0.at w β σ S.hp) a.tmps (nth S.fr d) v := fun v hv => h.fr d v hv
          split at hgo
          · rename_i b heq
            refine key b true (Option.some.inj hgo).symm (fun hw => ?_) fun _ hw e => ?_
            · have := hlt _ hw
              rw [heq] at this
              have := this.bool
              simpa using this.symm
            · have hlt2 : d < a.tmps.size := by
                rcases Nat.lt_or_ge d a.tmps.size with h' | h'
                · exact h'
                · rw [nth_of_ge (by rw [← h.size]; exact h')] at heq; cases heq
              have hx := Array.getElem?_eq_getElem hlt2
              have := hlt _ hx
              rw [heq] at this
              have := this.bool
              rw [this, e] at hx
              exact hw hx
          · rename_i d' w' b heq
            refine key b false (Option.some.inj hgo).symm (fun hw => ?_) fun e => by cases e
            have := hlt _ hw
            rw [heq] at this
            simp only [AtV] at this
            by_cases hc : a.tmps[d']? = some (.bool w')
            · have := AtV.bool (G := G0.at w β σ S.hp) (tm := #[]) (by simpa only [AtV] using this.1 hc)
              simpa using this.symm
            · have := this.2 hc
              simp [undef] at this
          · cases hgo

end
end Go.Bx
