/- A part of a framework that reads Go code as functions of plain data; or a law about such functions. -/
import Derived.Test.YtebnjboimekljaaCxZa
namespace Go.Bx
set_option linter.unusedVariables false
set_option linter.unusedSimpArgs false
open Go Go.RowKit

section
variable {P : Program} {C : Ctx} {G0 : GE} {S : St} {a : Act} {w : World} {β : Nat → Option Nat} {σ : Nat → Value} {ops : Array Oper}

/-- the same blocks, told in another list -/
theorem Keep.same {G : GE} {hp' : Heap} (e : ∀ i, nthB hp' i = nthB G.hp i) : Keep G (G.withHp hp') := by
  refine ⟨⟨fun b m ⟨h1, h2, h3⟩ => ⟨h1, h2, fun id blk hb hβ => h3 id blk (by rw [← e]; exact hb) hβ⟩, fun _ _ _ _ _ => rfl⟩, fun id ver j u blk hρ hb => ?_⟩
  simp only [stay, Option.some.injEq, Prod.mk.injEq] at hρ
  obtain ⟨rfl, rfl⟩ := hρ
  exact ⟨blk, (e id).trans hb, SameB.refl _ _ _ _ _ rfl rfl⟩

theorem HRel.same {G : GE} (h : HRel G) {hp' : Heap} (e : ∀ i, nthB hp' i = nthB G.hp i) : HRel (G.withHp hp') := by
  have e' : ∀ {i blk}, nthB hp' i = some blk → nthB G.hp i = some blk := fun {i blk} hb => by rw [← e]; exact hb
  refine ⟨fun id blk hb => (h.blk id blk (e' hb)).keep (Keep.same e) rfl rfl fun _ _ _ => rfl, fun id id' blk blk' b hb hb' => h.inj id id' blk blk' b (e' hb) (e' hb'), fun b ⟨id, blk, hb, hβ⟩ => h.own b ⟨id, blk, e' hb, hβ⟩, h.base⟩

theorem Tr.same {G : GE} {hp' : Heap} (e : ∀ i, nthB hp' i = nthB G.hp i) : Tr G (G.withHp hp') :=
  ⟨Keep.same e, rfl, rfl, rfl, Nat.le_refl _, fun _ _ _ => rfl, fun _ ⟨id, blk, hb, hβ⟩ => .inr ⟨id, blk, (e id).symm.trans hb, hβ⟩⟩

theorem Rel.eqv (h : Rel G0 S a w β σ) {S' : St} (e : Eqv S S') : Rel G0 S' a w β σ := by
  have t := Tr.same (G := G0.at w β σ S.hp) e.2
  refine ⟨h.tr.trans t, h.ok.same e.2, h.defers, by rw [e.1]; exact h.size, fun i v hv => ?_⟩
  rw [e.1]
  exact (h.fr i v hv).ext t.keep

theorem Behind.eqv (h : Behind G0 S a w) {S' : St} (e : Eqv S S') : Behind G0 S' a w := by
  obtain ⟨β, σ, h⟩ := h
  exact ⟨β, σ, h.eqv e⟩

theorem getD_true_false {l : Array Bool} {i : Nat} (h : l.getD i true = false) : l.getD i false = false := by
  cases hi : l[i]? with
  | none => simp [Array.getD_eq_getD_getElem?, hi] at h
  | some b => simp [Array.getD_eq_getD_getElem?, hi] at h ⊢; exact h

theorem any_order (hC : CtxOk P C) (hD : DrawFacts ops) {Q : Exit → Act → World → Prop} {Se : St} (hQ : ∀ a w, Behind G0 Se a w → Q .normal a w) : ∀ (fuel : Nat) (listed : Array Bool) (m : List (Nat × Rec)) (S Sf : St) (a : Act) (w : World),
    m.length ≤ fuel → (m.map (·.1)).Pairwise (· < ·) → m.Pairwise (fun p q => Dep ops p.1 q.1 ∨ apartR p.2 q.2 = true) → (∀ i, i ∈ m.map (·.1) ↔ i < ops.size ∧ listed.getD i true = false) → listed.size = ops.size →
    (∀ j o, ops[j]? = some o → listed.getD j false = true → ∀ e ∈ o.after, Region.binds .any e = true → listed.getD e.on false = true) →
    (∀ p ∈ m, ∀ o, ops[p.1]? = some o → NoTag o.dst S.fr) → Runs C ops m S Sf → Eqv Sf Se → Behind G0 S a w → wpAny P .any ops Q fuel listed a w := by
  intro fuel
  induction fuel with
  | zero =>
    intro listed m S Sf a w hl hp _ hm hsz hdown ht hrun hE hB
    have hm0 : m = [] := List.eq_nil_of_length_eq_zero (by omega)
    subst hm0
    cases hrun
    refine ⟨?_, hQ a w (hB.eqv hE)⟩
    rw [List.eq_nil_iff_forall_not_mem]
    intro i hi
    obtain ⟨h0, o, ho, _⟩ := mem_ready.1 hi
    have := (hm i).2 ⟨(Array.getElem?_eq_some_iff.1 ho).1, h0⟩
    cases this
  | succ fuel ih =>
    intro listed m S Sf a w hl hp hpr hm hsz hdown ht hrun hE hB
    refine ⟨fun hr => ?_, fun i hi => ?_⟩
    · cases m with
      | nil => cases hrun; exact hQ a w (hB.eqv hE)
      | cons x m =>
        exfalso
        obtain ⟨hx, hx0⟩ := (hm x.1).1 (by simp)
        have : x.1 ∈ Region.ready .any ops listed := by
          refine mem_ready.2 ⟨hx0, ops[x.1], Array.getElem?_eq_getElem hx, fun e he hb => ?_⟩
          have hlow := hD.low x.1 _ (Array.getElem?_eq_getElem hx) e he hb
          rcases Bool.eq_false_or_eq_true (listed.getD e.on false) with h | h
          · exact h
          · exfalso
            have hlt : e.on < listed.size := by omega
            have : listed.getD e.on true = false := by
              simp only [Array.getD_eq_getD_getElem?, Array.getElem?_eq_getElem hlt, Option.getD_some] at h ⊢; exact h
            have := (hm e.on).2 ⟨by omega, this⟩
            rw [List.map_cons] at this hp
            rcases List.mem_cons.1 this with h' | h'
            · omega
            · have := (List.pairwise_cons.1 hp).1 _ h'; omega
        rw [hr] at this; cases this
    · obtain ⟨h0, oi, hoi, hall⟩ := mem_ready.1 hi
      have hlt := (Array.getElem?_eq_some_iff.1 hoi).1
      have him := (hm i).2 ⟨hlt, h0⟩
      obtain ⟨⟨i', ri⟩, hmem, hie⟩ := List.mem_map.1 him
      simp only at hie
      subst hie
      obtain ⟨m1, m2, rfl⟩ := List.append_of_mem hmem
      have hp0 := hp
      rw [List.map_append, List.map_cons] at hp
      have hpw := List.pairwise_append.1 hp
      have hprw := List.pairwise_append.1 hpr
      have hcomm : ∀ p ∈ m1, ∀ ox, ops[p.1]? = some ox → ox.apart ops oi = true ∧ apartR p.2 ri = true := fun p hx ox hox => by
        have hxi : p.1 < i' := hpw.2.2 p.1 (List.mem_map_of_mem hx) i' (by simp)
        have hx0 := ((hm p.1).1 (List.mem_map_of_mem (List.mem_append_left _ hx))).2
        have nodep : ¬ Dep ops p.1 i' := fun hdep => by
          have := hdep.listed hdown fun o ho e he hb => by rw [hoi] at ho; cases ho; exact hall e he hb
          rw [getD_true_false hx0] at this; cases this
        exact ⟨(hD.pair p.1 i' ox oi hox hoi hxi).resolve_left nodep, (hprw.2.2 p hx (i', ri) (by simp)).resolve_left nodep⟩
      obtain ⟨Sf', hfr, hE2⟩ := Runs.front hD hoi m2 m1 S Sf (by rw [List.map_append, List.map_cons]; exact hp) hcomm ht hrun
      have hE' : Eqv Sf' Se := Eqv.trans ⟨hE2.1.symm, fun i => (hE2.2 i).symm⟩ hE
      cases hfr with
      | @cons _ _ oi' _ _ S1 _ hoi' s1 f1 h1 =>
      rw [hoi] at hoi'; cases hoi'
      have hsub : ∀ p, p ∈ m1 ++ m2 → p ∈ m1 ++ (i', ri) :: m2 ∧ p.1 ≠ i' := fun p hj => by
        rcases List.mem_append.1 hj with h | h
        · exact ⟨List.mem_append_left _ h, Nat.ne_of_lt (hpw.2.2 p.1 (List.mem_map_of_mem h) i' (by simp))⟩
        · exact ⟨List.mem_append_right _ (List.mem_cons_of_mem _ h), Nat.ne_of_gt ((List.pairwise_cons.1 hpw.2.1).1 p.1 (List.mem_map_of_mem h))⟩
      have hlen : (m1 ++ m2).length ≤ fuel := by simp at hl ⊢; omega
      have hsl : (m1 ++ m2).Sublist (m1 ++ (i', ri) :: m2) := by simp
      have hp2 : ((m1 ++ m2).map (·.1)).Pairwise (· < ·) := hp0.sublist (hsl.map _)
      have hpr2 := hpr.sublist hsl
      have hm2 : ∀ j, j ∈ (m1 ++ m2).map (·.1) ↔ j < ops.size ∧ (listed.setIfInBounds i' true).getD j true = false := fun j => by
        by_cases hji : j = i'
        · subst hji
          refine ⟨fun h => ?_, fun ⟨_, h⟩ => ?_⟩
          · obtain ⟨p, hp, e⟩ := List.mem_map.1 h
            exact absurd e (hsub p hp).2
          · simp [hsz, hlt] at h
        · rw [getD_set_ne true (Ne.symm hji), ← hm j]
          constructor
          · intro h
            obtain ⟨p, hp, e⟩ := List.mem_map.1 h
            exact List.mem_map.2 ⟨p, (hsub p hp).1, e⟩
          · intro h
            obtain ⟨p, hp, e⟩ := List.mem_map.1 h
            rcases List.mem_append.1 hp with h | h
            · exact List.mem_map.2 ⟨p, List.mem_append_left _ h, e⟩
            · rcases List.mem_cons.1 h with h | h
              · subst h; exact absurd e.symm hji
              · exact List.mem_map.2 ⟨p, List.mem_append_right _ h, e⟩
      have hdown2 : ∀ j o, ops[j]? = some o → (listed.setIfInBounds i' true).getD j false = true → ∀ e ∈ o.after, Region.binds .any e = true → (listed.setIfInBounds i' true).getD e.on false = true := fun j o ho hj e he hb => by
        refine getD_set_true ?_
        by_cases hji : j = i'
        · subst hji; rw [hoi] at ho; cases ho; exact hall e he hb
        · rw [getD_set_ne false (Ne.symm hji)] at hj; exact hdown j o ho hj e he hb
      have ht2 : ∀ p ∈ m1 ++ m2, ∀ o, ops[p.1]? = some o → NoTag o.dst S1.fr := fun p hj o ho => by
        cases hd : o.dst with
        | none => intro d' hd'; cases hd'
        | some d =>
          refine noTag_step s1 (fun j' w' hg hj' => ?_) (by rw [← hd]; exact ht p (hsub p hj).1 o ho)
          obtain ⟨e, he, hb, hej⟩ := hD.grd i' oi j' w' hoi hg
          have hl' := hall e he hb
          cases hoj : ops[j']? with
          | none => rw [hoj] at hj'; cases hj'
          | some oj =>
            rw [hoj] at hj'
            refine hD.dst j' p.1 oj o d hoj ho (fun e' => ?_) hd hj'
            have := ((hm p.1).1 (List.mem_map_of_mem (hsub p hj).1)).2
            rw [← e', ← hej] at this
            rw [getD_true_false this] at hl'; cases hl'
      have hst := step1_sound hC hB (ops := ops) oi s1 (Q := Q)
      unfold wpOp
      simp only [hoi]
      by_cases hw : Region.wanted oi (yielded ops a.tmps) = true
      · rw [if_pos hw] at hst
        simp only [hw, if_true]
        exact .inl (Oper.wp_mono (fun a' w' hB' => ih _ (m1 ++ m2) S1 Sf' a' w' hlen hp2 hpr2 hm2 (by simpa using hsz) hdown2 ht2 h1 hE' hB') hst)
      · rw [if_neg hw] at hst
        simp only [hw, Bool.false_eq_true, if_false]
        exact ih _ (m1 ++ m2) S1 Sf' _ _ hlen hp2 hpr2 hm2 (by simpa using hsz) hdown2 ht2 h1 hE' hst

/-- in the text's order -/
theorem in_order (hC : CtxOk P C) {Q : Exit → Act → World → Prop} {α : Type} {r : α} {K : St → Option α} (hK : ∀ S a w, K S = some r → Behind G0 S a w → Q .normal a w) : ∀ (l : List Oper) (s : Nat) (S : St) (a : Act) (w : World),
    (∀ j, l[j]? = ops[s + j]?) → runL C ops l S K = some r → Behind G0 S a w → wpOps P ops Q (List.range' s l.length) a w
  | [], s, S, a, w, _, h, hB => hK S a w h hB
  | o :: l, s, S, a, w, hl, h, hB => by
    simp only [runL] at h
    have h0 : ops[s]? = some o := by simpa using (hl 0).symm
    cases hg : guardOf ops S.fr o with
    | none => rw [hg] at h; cases h
    | some g =>
      rw [hg] at h
      simp only [T_act] at h
      obtain ⟨⟨v, wr, h'⟩, t1, h1⟩ := Option.bind_eq_some_iff.1 h
      have s1 := act_step1 (C := C) (ops := ops) hg t1
      have hst := step1_sound hC hB (ops := ops) o s1 (Q := Q)
      have hl' : ∀ j, l[j]? = ops[s + 1 + j]? := fun j => by have := hl (j + 1); simpa [Nat.add_assoc, Nat.add_comm 1 j] using this
      simp only [List.length_cons, List.range'_succ, wpOps, h0]
      by_cases hw : Region.wanted o (yielded ops a.tmps) = true
      · rw [if_pos hw] at hst
        simp only [hw, if_true]
        exact .inl (Oper.wp_mono (fun a' w' hB' => in_order hC hK l (s + 1) _ a' w' hl' h1 hB') hst)
      · rw [if_neg hw] at hst
        simp only [hw, Bool.false_eq_true, if_false]
        exact in_order hC hK l (s + 1) _ _ _ hl' h1 hst

theorem recOk_spec {m : Nat} {x : Rec} : ∀ (l : List Rec) (j : Nat), recOk m x j l = true → ∀ k y, l[k]? = some y → m.testBit (j + k) = true ∨ apartR y x = true
  | [], _, _, k, y, h => by simp at h
  | z :: r, j, h, 0, y, hk => by
    simp at hk; subst hk
    simp only [recOk, Bool.and_eq_true, Bool.or_eq_true] at h
    exact h.1
  | z :: r, j, h, k + 1, y, hk => by
    simp only [recOk, Bool.and_eq_true] at h
    have := recOk_spec r (j + 1) h.2 k y (by simpa using hk)
    rwa [show j + 1 + k = j + (k + 1) by omega] at this

theorem runD_runs {α : Type} {r : α} {K : St → Option α} {ms : List Nat} (hms : ∀ k m, ms[k]? = some m → ∀ x, m.testBit x = true → Dep ops x k) : ∀ (l : List Oper) (acc : List Rec) (S : St), (∀ j, l[j]? = ops[acc.length + j]?) → runD C ops ms l acc S K = some r →
    ∃ (m : List (Nat × Rec)) (Se : St), Runs C ops m S Se ∧ K Se = some r ∧ m.map (·.1) = List.range' acc.length l.length ∧ m.Pairwise (fun p q => Dep ops p.1 q.1 ∨ apartR p.2 q.2 = true) ∧
      ∀ p ∈ m, ∀ k y, acc[k]? = some y → Dep ops k p.1 ∨ apartR y p.2 = true
  | [], acc, S, _, h => ⟨[], S, .nil S, h, rfl, .nil, fun _ hp => by cases hp⟩
  | o :: l, acc, S, hl, h => by
    simp only [runD] at h
    have h0 : ops[acc.length]? = some o := by simpa using (hl 0).symm
    cases hg : guardOf ops S.fr o with
    | none => rw [hg] at h; cases h
    | some g =>
      rw [hg] at h
      simp only [T_act] at h
      obtain ⟨⟨v, wr, h'⟩, t1, h1⟩ := Option.bind_eq_some_iff.1 h
      have s1 := act_step1 (C := C) (ops := ops) hg t1
      simp only at h1
      split at h1
      · rename_i hrec
        have hrs := recOk_spec acc 0 hrec
        obtain ⟨m, Se, g1, g2, g3, g4, g5⟩ := runD_runs hms l (acc ++ [⟨foot S o, wr⟩]) _ (fun j => by have := hl (j + 1); simpa [Nat.add_assoc, Nat.add_comm 1 j] using this) h1
        refine ⟨(acc.length, ⟨foot S o, wr⟩) :: m, Se, .cons h0 s1 rfl g1, g2, ?_, ?_, ?_⟩
        · rw [List.map_cons, g3]
          simp [List.range'_succ]
        · refine List.pairwise_cons.2 ⟨fun p hp => ?_, g4⟩
          exact g5 p hp acc.length _ (by simp)
        · intro p hp k y hy
          rcases List.mem_cons.1 hp with rfl | hp
          · have := hrs k y hy
            rw [Nat.zero_add] at this
            refine this.imp (fun hb => ?_) id
            cases hk : ms[acc.length]? with
            | none => simp [List.getD, hk] at hb
            | some mm => exact hms _ _ hk _ (by simpa [List.getD, hk] using hb)
          · have hlt : k < acc.length := by
              rcases Nat.lt_or_ge k acc.length with h | h
              · exact h
              · rw [List.getElem?_eq_none h] at hy; cases hy
            exact g5 p hp k y (by rw [List.getElem?_append_left hlt]; exact hy)
      · cases h1

theorem Behind.strips (h : Behind G0 S a w) : Behind G0 (strips S) a w := by
  obtain ⟨β, σ, h⟩ := h
  refine ⟨β, σ, h.tr, h.ok, h.defers, by simp [Bx.strips, h.size], fun i v hv => ?_⟩
  simp only [Bx.strips]
  rw [nth_map _ rfl]
  have := h.fr i v hv
  cases hn : nth S.fr i <;> rw [hn] at this <;> first | exact this | exact .any

theorem Behind.drew (h : Behind G0 S a w) : Behind G0 S a { w with drawn := w.drawn + 1 } := by
  obtain ⟨β, σ, h⟩ := h
  have hb : Below (G0.at w β σ S.hp).w.heap.size (G0.at w β σ S.hp).w { w with drawn := w.drawn + 1 } := (Below.refl _ _).drew
  obtain ⟨t, hR⟩ := h.ok.grow hb
  exact ⟨β, σ, h.tr.trans t, hR, h.defers, h.size, fun i v hv => (h.fr i v hv).ext t.keep⟩

/-- A REGION -/
theorem region_sound (hC : CtxOk P C) (hm : P.follows .mixedOrders = true) {id : Nat} {draw : Bool} (hd : draw = true → drawOk ops = true) {Q : Exit → Act → World → Prop} {α : Type} {r : α} {K : St → Option α}
    (hK : ∀ S a w, K S = some r → Behind G0 S a w → Q .normal a w)
    (h : (match draw with | false => runL C ops ops.toList S K | true => runD C ops (masks ops.toList []) ops.toList [] (strips S) K) = some r) (hB : Behind G0 S a w) : (Code.region id ops draw).wp P Q a w := by
  cases draw with
  | false =>
    refine wp_region ?_
    rw [List.range_eq_range']
    have := in_order hC (ops := ops) hK ops.toList 0 S a w (fun j => by simp) h hB
    simpa using this
  | true =>
    have hD := drawOk_facts (hd rfl)
    obtain ⟨m, Se, g1, g2, g3, g4, _⟩ := runD_runs (masks_spec ops.toList [] (fun k => by simp) (fun k m hk => by simp at hk)) ops.toList [] (strips S) (fun j => by simp) h
    refine wp_region_any hm ?_
    refine any_order hC hD (Se := Se) (fun a w hB => hK Se a w g2 hB) ops.size (Array.replicate ops.size false) m _ Se a _ ?_ (by rw [g3]; exact List.pairwise_lt_range') g4 (fun i => ?_) (by simp) (fun j o _ hj => ?_) (fun i _ o _ => ?_) g1 (Eqv.refl _) hB.strips.drew
    · have := congrArg List.length g3
      simp at this
      omega
    · rw [g3, List.mem_range']
      constructor
      · rintro ⟨k, hk, rfl⟩
        have hk' : 0 + 1 * k < ops.size := by simpa using hk
        refine ⟨by simpa using hk', ?_⟩
        simp only [List.length_nil, Array.getD_eq_getD_getElem?, Array.getElem?_replicate, if_pos hk', Option.getD_some]
      · rintro ⟨hi, _⟩; exact ⟨i, by simpa using hi, by simp⟩
    · exfalso
      simp only [Array.getD_eq_getD_getElem?, Array.getElem?_replicate] at hj
      split at hj <;> simp at hj
    · intro d' _ t
      simp only [Bx.strips]
      rw [nth_map _ rfl]
      cases nth S.fr t <;> rfl

end
end Go.Bx
