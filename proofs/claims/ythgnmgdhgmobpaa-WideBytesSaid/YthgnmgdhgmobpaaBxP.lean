/- A part of a framework that reads Go code as functions of plain data; or a law about such functions. -/
import Derived.Test.YthgnmgdhgmobpaaBxO
namespace Go.Bx
open Go Go.RowKit

section
variable {P : Program} {C : Ctx} {w0 : World} {I0 : Nat → Nat → Prop} {S : St} {a : Act} {w : World} {β : Nat → Option Nat} {ops : Array Oper}

def runIx (C : Ctx) (ops : Array Oper) : List Nat → St → Option St
  | [], S => some S
  | i :: m, S => match ops[i]? with
    | none => none
    | some o => (step1 C ops o S).bind (runIx C ops m)

/-- where an operation goes through, some state stands behind it -/
theorem wp_exists {o : Oper} {K : Act → World → Prop} (h : o.wp P a w K (fun _ _ _ => False)) : ∃ a' w', K a' w' := by
  unfold Oper.wp Oper.upon at h
  split at h
  · exact ⟨_, _, h⟩
  · exact ⟨_, _, h⟩
  · exact ⟨_, _, h⟩
  · obtain ⟨e, w', fr, hR, _⟩ := h []
    cases e with
    | returned v => exact ⟨_, _, hR⟩
    | panicked c => exact hR.elim
    | outgrown => obtain ⟨_, _, hf⟩ := hR; exact hf.elim
  · obtain ⟨v, w', hR, _⟩ := h default []
    exact ⟨_, _, hR⟩
  · exact h.elim
  · exact h.elim

theorem step1_exists (hC : CtxOk P C) (h : Behind w0 I0 S a w) {o : Oper} {S' : St} (hs : step1 C ops o S = some S') : ∃ a' w', Behind w0 I0 S' a' w' := by
  have := step1_sound hC h (ops := ops) o hs (Q := fun _ _ _ => False)
  split at this
  · exact wp_exists this
  · exact ⟨_, _, this⟩

theorem noTag_step {o : Oper} {S' : St} (hs : step1 C ops o S = some S') {d : Nat} (hd : ∀ j w, o.guard = some (j, w) → (ops[j]?).bind (·.dst) ≠ some d) (h : NoTag (some d) S.fr) : NoTag (some d) S'.fr := by
  rw [step1_eq] at hs
  obtain ⟨⟨v, u⟩, e1, rfl⟩ := Option.map_eq_some_iff.1 hs
  intro d' hd' t
  cases hd'
  simp only
  cases hdst : o.dst with
  | none => exact h d rfl t
  | some dx =>
    simp only [setF]
    rw [nth_set, nth_map _ rfl]
    split
    · exact act_untag e1 hd
    · have := h d rfl t
      cases hv : nth S.fr t with
      | opt d' w' u' =>
        rw [hv] at this
        by_cases hx : Nat.beq d' dx = true
        · simp only [untagD, hx, if_true]
        · simp only [untagD, hx] at this ⊢
          exact this
      | _ => rfl

/-- what remains may be begun with whatever is ready -/
theorem front (hC : CtxOk P C) (hD : DrawFacts ops) {i : Nat} {oi : Oper} (hoi : ops[i]? = some oi) (m2 : List Nat) : ∀ (m1 : List Nat) (S Se : St) (a : Act) (w : World), Behind w0 I0 S a w →
    (m1 ++ i :: m2).Pairwise (· < ·) → (∀ x ∈ m1, ∀ ox, ops[x]? = some ox → commB ops ox oi = true) → (∀ j ∈ m1 ++ i :: m2, ∀ o, ops[j]? = some o → NoTag o.dst S.fr) →
    runIx C ops (m1 ++ i :: m2) S = some Se → runIx C ops (i :: (m1 ++ m2)) S = some Se
  | [], S, Se, a, w, _, _, _, _, h => h
  | x :: m1, S, Se, a, w, hB, hp, hc, ht, h => by
    simp only [List.cons_append, runIx] at h
    cases hox : ops[x]? with
    | none => rw [hox] at h; cases h
    | some ox =>
      rw [hox] at h
      simp only at h
      obtain ⟨S1, s1, h1⟩ := Option.bind_eq_some_iff.1 h
      obtain ⟨a1, w1, hB1⟩ := step1_exists hC hB s1
      have hp' := List.pairwise_cons.1 hp
      have ht1 : ∀ j ∈ m1 ++ i :: m2, ∀ o, ops[j]? = some o → NoTag o.dst S1.fr := fun j hj o ho => by
        cases hd : o.dst with
        | none => intro d' hd'; cases hd'
        | some d =>
          refine noTag_step s1 (fun j' w' hg hj' => ?_) (by rw [← hd]; exact ht j (List.mem_cons_of_mem _ hj) o ho)
          obtain ⟨e, he, hb, hej⟩ := hD.grd x ox j' w' hox hg
          have hlow := hD.low x ox hox e he hb
          have hxj := hp'.1 j hj
          cases hoj : ops[j']? with
          | none => rw [hoj] at hj'; cases hj'
          | some oj =>
            rw [hoj] at hj'
            exact hD.dst j' j oj o d hoj ho (by omega) hd hj'
      have h2 := front hC hD hoi m2 m1 S1 Se a1 w1 hB1 hp'.2 (fun y hy => hc y (List.mem_cons_of_mem _ hy)) ht1 h1
      simp only [runIx, hoi] at h2 ⊢
      obtain ⟨S2, s2, h3⟩ := Option.bind_eq_some_iff.1 h2
      obtain ⟨β, hR⟩ := hB
      obtain ⟨S1', c1, c2⟩ := comm hR (hc x (by simp) ox hox) (ht x (by simp) ox hox) (ht i (by simp) oi hoi) s1 s2
      rw [c1]
      simp only [Option.bind_some, List.cons_append, runIx, hox, c2]
      exact h3

theorem getD_true_false {l : Array Bool} {i : Nat} (h : l.getD i true = false) : l.getD i false = false := by
  cases hi : l[i]? with
  | none => simp [Array.getD_eq_getD_getElem?, hi] at h
  | some b => simp [Array.getD_eq_getD_getElem?, hi] at h ⊢; exact h

theorem any_order (hC : CtxOk P C) (hD : DrawFacts ops) {Q : Exit → Act → World → Prop} {Se : St} (hQ : ∀ a w, Behind w0 I0 Se a w → Q .normal a w) : ∀ (fuel : Nat) (listed : Array Bool) (m : List Nat) (S : St) (a : Act) (w : World),
    m.length ≤ fuel → m.Pairwise (· < ·) → (∀ i, i ∈ m ↔ i < ops.size ∧ listed.getD i true = false) → listed.size = ops.size →
    (∀ j o, ops[j]? = some o → listed.getD j false = true → ∀ e ∈ o.after, Region.binds .any e = true → listed.getD e.on false = true) →
    (∀ i ∈ m, ∀ o, ops[i]? = some o → NoTag o.dst S.fr) → runIx C ops m S = some Se → Behind w0 I0 S a w → wpAny P .any ops Q fuel listed a w := by
  intro fuel
  induction fuel with
  | zero =>
    intro listed m S a w hl hp hm hsz hdown ht hrun hB
    have hm0 : m = [] := List.eq_nil_of_length_eq_zero (by omega)
    subst hm0
    cases hrun
    refine ⟨?_, hQ a w hB⟩
    rw [List.eq_nil_iff_forall_not_mem]
    intro i hi
    obtain ⟨h0, o, ho, _⟩ := mem_ready.1 hi
    have := (hm i).2 ⟨(Array.getElem?_eq_some_iff.1 ho).1, h0⟩
    cases this
  | succ fuel ih =>
    intro listed m S a w hl hp hm hsz hdown ht hrun hB
    refine ⟨fun hr => ?_, fun i hi => ?_⟩
    · cases m with
      | nil => cases hrun; exact hQ a w hB
      | cons x m =>
        exfalso
        obtain ⟨hx, hx0⟩ := (hm x).1 (by simp)
        have : x ∈ Region.ready .any ops listed := by
          refine mem_ready.2 ⟨hx0, ops[x], Array.getElem?_eq_getElem hx, fun e he hb => ?_⟩
          have hlow := hD.low x _ (Array.getElem?_eq_getElem hx) e he hb
          rcases Bool.eq_false_or_eq_true (listed.getD e.on false) with h | h
          · exact h
          · exfalso
            have hlt : e.on < listed.size := by omega
            have : listed.getD e.on true = false := by
              simp only [Array.getD_eq_getD_getElem?, Array.getElem?_eq_getElem hlt, Option.getD_some] at h ⊢; exact h
            have := (hm e.on).2 ⟨by omega, this⟩
            rcases List.mem_cons.1 this with h' | h'
            · omega
            · have := (List.pairwise_cons.1 hp).1 _ h'; omega
        rw [hr] at this; cases this
    · obtain ⟨h0, oi, hoi, hall⟩ := mem_ready.1 hi
      have hlt := (Array.getElem?_eq_some_iff.1 hoi).1
      have him := (hm i).2 ⟨hlt, h0⟩
      obtain ⟨m1, m2, rfl⟩ := List.append_of_mem him
      have hpw := List.pairwise_append.1 hp
      have hcomm : ∀ x ∈ m1, ∀ ox, ops[x]? = some ox → commB ops ox oi = true := fun x hx ox hox => by
        have hxi : x < i := hpw.2.2 x hx i (by simp)
        refine (hD.pair x i ox oi hox hoi hxi).resolve_left fun hdep => ?_
        have := hdep.listed hdown fun o ho e he hb => by rw [hoi] at ho; cases ho; exact hall e he hb
        have hx0 := ((hm x).1 (List.mem_append_left _ hx)).2
        rw [getD_true_false hx0] at this; cases this
      have hfr := front hC hD hoi m2 m1 S Se a w hB hp hcomm ht hrun
      simp only [runIx, hoi] at hfr
      obtain ⟨S1, s1, h1⟩ := Option.bind_eq_some_iff.1 hfr
      have hsub : ∀ j, j ∈ m1 ++ m2 → j ∈ m1 ++ i :: m2 ∧ j ≠ i := fun j hj => by
        rcases List.mem_append.1 hj with h | h
        · exact ⟨List.mem_append_left _ h, Nat.ne_of_lt (hpw.2.2 j h i (by simp))⟩
        · exact ⟨List.mem_append_right _ (List.mem_cons_of_mem _ h), Nat.ne_of_gt ((List.pairwise_cons.1 hpw.2.1).1 j h)⟩
      have hlen : (m1 ++ m2).length ≤ fuel := by simp at hl ⊢; omega
      have hp2 : (m1 ++ m2).Pairwise (· < ·) := hp.sublist (by simp)
      have hm2 : ∀ j, j ∈ m1 ++ m2 ↔ j < ops.size ∧ (listed.setIfInBounds i true).getD j true = false := fun j => by
        by_cases hji : j = i
        · subst hji
          refine ⟨fun h => absurd rfl (hsub j h).2, fun ⟨_, h⟩ => ?_⟩
          simp [hsz, hlt] at h
        · rw [getD_set_ne true (Ne.symm hji), ← hm j]
          constructor
          · exact fun h => (hsub j h).1
          · intro h
            rcases List.mem_append.1 h with h | h
            · exact List.mem_append_left _ h
            · rcases List.mem_cons.1 h with h | h
              · exact absurd h hji
              · exact List.mem_append_right _ h
      have hdown2 : ∀ j o, ops[j]? = some o → (listed.setIfInBounds i true).getD j false = true → ∀ e ∈ o.after, Region.binds .any e = true → (listed.setIfInBounds i true).getD e.on false = true := fun j o ho hj e he hb => by
        refine getD_set_true ?_
        by_cases hji : j = i
        · subst hji; rw [hoi] at ho; cases ho; exact hall e he hb
        · rw [getD_set_ne false (Ne.symm hji)] at hj; exact hdown j o ho hj e he hb
      have ht2 : ∀ j ∈ m1 ++ m2, ∀ o, ops[j]? = some o → NoTag o.dst S1.fr := fun j hj o ho => by
        cases hd : o.dst with
        | none => intro d' hd'; cases hd'
        | some d =>
          refine noTag_step s1 (fun j' w' hg hj' => ?_) (by rw [← hd]; exact ht j (hsub j hj).1 o ho)
          obtain ⟨e, he, hb, hej⟩ := hD.grd i oi j' w' hoi hg
          have hl' := hall e he hb
          cases hoj : ops[j']? with
          | none => rw [hoj] at hj'; cases hj'
          | some oj =>
            rw [hoj] at hj'
            refine hD.dst j' j oj o d hoj ho (fun e' => ?_) hd hj'
            subst e'
            have := ((hm j').1 (hsub j' hj).1).2
            rw [hej] at hl'
            rw [getD_true_false this] at hl'; cases hl'
      have hst := step1_sound hC hB (ops := ops) oi s1 (Q := Q)
      unfold wpOp
      simp only [hoi]
      by_cases hw : Region.wanted oi (yielded ops a.tmps) = true
      · rw [if_pos hw] at hst
        simp only [hw, if_true]
        exact .inl (Oper.wp_mono (fun a' w' hB' => ih _ (m1 ++ m2) S1 a' w' hlen hp2 hm2 (by simpa using hsz) hdown2 ht2 h1 hB') hst)
      · rw [if_neg hw] at hst
        simp only [hw, Bool.false_eq_true, if_false]
        exact ih _ (m1 ++ m2) S1 _ _ hlen hp2 hm2 (by simpa using hsz) hdown2 ht2 h1 hst

/-- in the text's order -/
theorem in_order (hC : CtxOk P C) {Q : Exit → Act → World → Prop} {Se : St} (hQ : ∀ a w, Behind w0 I0 Se a w → Q .normal a w) : ∀ (m : List Nat) (S : St) (a : Act) (w : World), runIx C ops m S = some Se → Behind w0 I0 S a w → wpOps P ops Q m a w
  | [], S, a, w, h, hB => by cases h; exact hQ a w hB
  | i :: m, S, a, w, h, hB => by
    simp only [runIx] at h
    simp only [wpOps]
    cases ho : ops[i]? with
    | none => rw [ho] at h; cases h
    | some o =>
      rw [ho] at h
      obtain ⟨S1, s1, h1⟩ := Option.bind_eq_some_iff.1 h
      have hst := step1_sound hC hB (ops := ops) o s1 (Q := Q)
      simp only
      by_cases hw : Region.wanted o (yielded ops a.tmps) = true
      · rw [if_pos hw] at hst
        simp only [hw, if_true]
        exact .inl (Oper.wp_mono (fun a' w' hB' => in_order hC hQ m S1 a' w' h1 hB') hst)
      · rw [if_neg hw] at hst
        simp only [hw, Bool.false_eq_true, if_false]
        exact in_order hC hQ m S1 _ _ h1 hst

theorem runL_ix {α : Type} {r : α} {K : St → Option α} : ∀ (l : List Oper) (s : Nat) (S : St), (∀ j, l[j]? = ops[s + j]?) → runL C ops l S K = some r → ∃ Se, runIx C ops (List.range' s l.length) S = some Se ∧ K Se = some r
  | [], s, S, _, h => ⟨S, rfl, h⟩
  | o :: l, s, S, hl, h => by
    simp only [runL] at h
    have h0 : ops[s]? = some o := by simpa using (hl 0).symm
    cases hg : guardOf ops S.fr o with
    | none => rw [hg] at h; cases h
    | some g =>
      rw [hg] at h
      simp only at h
      rw [T_cps] at h
      obtain ⟨S1, t1, h1⟩ := Option.bind_eq_some_iff.1 h
      obtain ⟨Se, g1, g2⟩ := runL_ix l (s + 1) S1 (fun j => by have := hl (j + 1); simpa [Nat.add_assoc, Nat.add_comm 1 j] using this) h1
      refine ⟨Se, ?_, g2⟩
      simp only [List.length_cons, List.range'_succ, runIx, h0, step1, hg, t1, Option.bind_some]
      exact g1

theorem Rel.keepF (h : Rel w0 I0 S a w β) (f : Nat → V → V) (hf : ∀ i v, f i v = v ∨ f i v = dd v ∨ f i v = .any) {fr' : List V} (hl : fr'.length = S.fr.length) (hn : ∀ i, nth fr' i = f i (nth S.fr i)) : Rel w0 I0 ⟨fr', S.hp⟩ a w β := by
  refine ⟨h.below, h.defers, by rw [hl]; exact h.size, fun i v hv => ?_, h.hp, h.own, h.inj⟩
  simp only
  rw [hn]
  rcases hf i (nth S.fr i) with e | e | e
  · rw [e]; exact h.fr i v hv
  · rw [e]; exact (h.fr i v hv).dd
  · rw [e]; exact .any

theorem length_keepF (l : List Nat) : ∀ (s : Nat) (fr : List V), (Bx.keepF l s fr).length = fr.length
  | _, [] => rfl
  | s, _ :: r => by simp [Bx.keepF, length_keepF l (s + 1) r]

theorem nth_keepF (l : List Nat) : ∀ (s : Nat) (fr : List V) (i : Nat), nth (Bx.keepF l s fr) i = if l.any (Nat.beq (s + i)) then dd (nth fr i) else .any
  | s, [], i => by simp [Bx.keepF, nth, dd]
  | s, v :: r, 0 => by simp [Bx.keepF, nth]
  | s, v :: r, i + 1 => by
    simp only [Bx.keepF, nth]
    rw [nth_keepF l (s + 1) r i, show s + 1 + i = s + (i + 1) by omega]

mutual
theorem AtV.drop {G G' : GE} (hE : Ext G.env G'.env) (hβ : G'.β = G.β) {tm : Array Value} : ∀ (v : V) (x : Value), (∀ id, v.has id = true → nthB G'.hp id = nthB G.hp id) → AtV G tm v x → AtV G' tm v x
  | .any, _, _, _ => .any
  | .data _ _, _, _, hx => by simp only [AtV] at hx ⊢; exact hx.ext hE
  | .nilp, _, _, hx => by simp only [AtV] at hx ⊢; exact hx
  | .snil, _, _, hx => by simp only [AtV] at hx ⊢; exact hx
  | .ref id p, x, hn, hx => by
    simp only [AtV] at hx ⊢
    obtain ⟨b, τ, c, o, u, h1, h2, h3, h4⟩ := hx
    exact ⟨b, τ, c, o, u, by rw [hn id (by simp [V.has])]; exact h1, by rw [hβ]; exact h2, h3, h4⟩
  | .iref t y, x, _, hx => by
    simp only [AtV] at hx ⊢
    obtain ⟨ad, ds, h1, h2, h3, h4, h5⟩ := hx
    refine ⟨ad, ds, h1, h2, h3.imp id fun ⟨m, hm, hi⟩ => ⟨m, hm, hE.im _ _ hi⟩, fun j u hj => ?_, h5.ext hE⟩
    rcases h3 with h3 | ⟨m, hm, hi⟩
    · rw [h3] at hj; simp at hj
    · have hjl : j < ds.length := by
        rcases Nat.lt_or_ge j ds.length with h | h
        · exact h
        · rw [List.getElem?_eq_none h] at hj; cases hj
      rw [← h4 j u hj]
      exact hE.cell _ _ hi _ (by omega)
  | .tup l, x, hn, hx => by
    simp only [AtV] at hx ⊢
    obtain ⟨vs, h1, h2⟩ := hx
    exact ⟨vs, h1, AtL.drop hE hβ l _ (fun id h => hn id (by simpa [V.has] using h)) h2⟩
  | .opt d w u, x, hn, hx => by
    simp only [AtV] at hx ⊢
    exact ⟨fun e => AtV.drop hE hβ u x (fun id h => hn id (by simpa [V.has] using h)) (hx.1 e), hx.2⟩
  | .fn f [], x, _, hx => by simp only [AtV] at hx ⊢; exact hx
  | .fn f (_ :: _), x, _, hx => by simp [AtV] at hx
  | .full _ _, x, _, hx => by
    simp only [AtV] at hx ⊢
    exact ⟨hx.1.ext hE, hx.2⟩
theorem AtL.drop {G G' : GE} (hE : Ext G.env G'.env) (hβ : G'.β = G.β) {tm : Array Value} : ∀ (l : List V) (m : List Value), (∀ id, V.hasL id l = true → nthB G'.hp id = nthB G.hp id) → AtL G tm l m → AtL G' tm l m
  | [], [], _, _ => by simp [AtL]
  | v :: l, x :: m, hn, hx => by
    simp only [AtL] at hx ⊢
    exact ⟨AtV.drop hE hβ v x (fun id h => hn id (by simp [V.hasL, h])) hx.1, AtL.drop hE hβ l m (fun id h => hn id (by simp [V.hasL, h])) hx.2⟩
  | [], _ :: _, _, hx => by simp [AtL] at hx
  | _ :: _, [], _, hx => by simp [AtL] at hx
end

theorem nthB_dropB (fr : List V) : ∀ (s : Nat) (hp : List (Option Blk)) (i : Nat), nthB (dropB fr s hp) i = if V.hasL (s + i) fr then nthB hp i else none
  | s, [], i => by simp [dropB, nthB]
  | s, b :: r, 0 => by
    simp only [dropB, nthB, Nat.add_zero]
    cases b <;> simp
  | s, b :: r, i + 1 => by
    simp only [dropB, nthB]
    rw [nthB_dropB fr (s + 1) r i, show s + 1 + i = s + (i + 1) by omega]

theorem hasL_nth {id : Nat} : ∀ {fr : List V} {i : Nat}, (nth fr i).has id = true → V.hasL id fr = true
  | [], i, h => by simp [nth, V.has] at h
  | v :: r, 0, h => by simp only [nth] at h; simp [V.hasL, h]
  | v :: r, i + 1, h => by simp only [nth] at h; simp [V.hasL, hasL_nth h]

theorem Rel.dropB (h : Rel w0 I0 S a w β) : Rel w0 I0 ⟨S.fr, Bx.dropB S.fr 0 S.hp⟩ a w β := by
  have hs : ∀ id blk, nthB (Bx.dropB S.fr 0 S.hp) id = some blk → nthB S.hp id = some blk := fun id blk hb => by
    rw [nthB_dropB] at hb
    split at hb
    · exact hb
    · cases hb
  have hE : Ext (GE.env ⟨w, β, S.hp, w0.heap.size, I0⟩) (GE.env ⟨w, β, Bx.dropB S.fr 0 S.hp, w0.heap.size, I0⟩) := ⟨fun b m ⟨h1, h2, h3⟩ => ⟨h1, h2, fun id blk hb hβ => h3 id blk (hs _ _ hb) hβ⟩, fun _ _ _ _ _ => rfl⟩
  refine ⟨h.below, h.defers, h.size, fun i v hv => ?_, fun id blk hb => ?_, fun id blk b hb => h.own id blk b (hs _ _ hb), fun id id' blk blk' b hb hb' => h.inj id id' blk blk' b (hs _ _ hb) (hs _ _ hb')⟩
  · refine AtV.drop hE rfl _ _ (fun id hid => ?_) (h.fr i v hv)
    simp only
    rw [nthB_dropB, Nat.zero_add, if_pos (hasL_nth hid)]
  · exact (h.hp id blk (hs _ _ hb)).ext hE rfl fun _ _ _ => rfl

theorem Behind.clean (h : Behind w0 I0 S a w) (id : Nat) : Behind w0 I0 (clean C id S) a w := by
  unfold Bx.clean
  split
  · exact h
  · rename_i l _
    obtain ⟨β, h⟩ := h
    have := h.keepF (fun i v => if l.any (Nat.beq (0 + i)) then dd v else .any) (fun i v => by split <;> simp) (length_keepF l 0 S.fr) (nth_keepF l 0 S.fr)
    exact ⟨β, this.dropB⟩

theorem Behind.strips (h : Behind w0 I0 S a w) (draw : Bool) : Behind w0 I0 (strips draw S) a w := by
  cases draw with
  | false => exact h
  | true =>
    obtain ⟨β, h⟩ := h
    exact ⟨β, h.keepF (fun _ v => strip v) (fun _ v => by cases v <;> simp [strip]) (by simp) (fun i => nth_map _ rfl _ _)⟩

theorem Behind.drew (h : Behind w0 I0 S a w) : Behind w0 I0 S a { w with drawn := w.drawn + 1 } := by
  obtain ⟨β, h⟩ := h
  have hE : Ext (GE.env ⟨w, β, S.hp, w0.heap.size, I0⟩) (GE.env ⟨{ w with drawn := w.drawn + 1 }, β, S.hp, w0.heap.size, I0⟩) := ⟨fun _ _ h => h, fun _ _ _ _ _ => rfl⟩
  have hG : GExt ⟨w, β, S.hp, w0.heap.size, I0⟩ ⟨{ w with drawn := w.drawn + 1 }, β, S.hp, w0.heap.size, I0⟩ := ⟨hE, fun _ _ c _ h1 h2 => ⟨c, h1, h2⟩⟩
  exact ⟨β, h.below.drew, h.defers, h.size, fun i v hv => AtV.ext hG _ _ (h.fr i v hv), fun id blk hb => (h.hp id blk hb).ext hE rfl fun _ _ _ => rfl, h.own, h.inj⟩

/-- A REGION -/
theorem region_sound (hC : CtxOk P C) (hm : P.follows .mixedOrders = true) {id : Nat} {draw : Bool} (hd : draw = true → drawOk ops = true) {Q : Exit → Act → World → Prop} {α : Type} {r : α} {K : St → Option α}
    (hK : ∀ S a w, K S = some r → Behind w0 I0 S a w → Q .normal a w) (h : runL C ops ops.toList (strips draw S) K = some r) (hB : Behind w0 I0 S a w) : (Code.region id ops draw).wp P Q a w := by
  obtain ⟨Se, h1, h2⟩ := runL_ix ops.toList 0 _ (fun j => by simp) h
  have hB' := hB.strips draw
  cases draw with
  | false =>
    refine wp_region ?_
    rw [List.range_eq_range']
    refine in_order hC (Se := Se) (fun a w hB => hK Se a w h2 hB) _ _ a w ?_ hB'
    simpa using h1
  | true =>
    have hD := drawOk_facts (hd rfl)
    refine wp_region_any hm ?_
    refine any_order hC hD (Se := Se) (fun a w hB => hK Se a w h2 hB) ops.size (Array.replicate ops.size false) (List.range' 0 ops.size) _ a _ (by simp) List.pairwise_lt_range' (fun i => ?_) (by simp) (fun j o _ hj => ?_) (fun i _ o _ => ?_) (by simpa using h1) hB'.drew
    · rw [List.mem_range']
      constructor
      · rintro ⟨k, hk, rfl⟩
        have hk' : 0 + 1 * k < ops.size := by omega
        refine ⟨hk', ?_⟩
        simp only [Array.getD_eq_getD_getElem?, Array.getElem?_replicate, if_pos hk', Option.getD_some]
      · rintro ⟨hi, _⟩; exact ⟨i, by omega, by omega⟩
    · exfalso
      simp only [Array.getD_eq_getD_getElem?, Array.getElem?_replicate] at hj
      split at hj <;> simp at hj
    · intro d' _ t
      simp only [Bx.strips]
      rw [nth_map _ rfl]
      cases nth S.fr t <;> rfl

end
end Go.Bx
