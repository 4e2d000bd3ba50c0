/- A part of a framework that reads Go code as functions of plain data; or a law about such functions. -/
import Derived.Test.YtebnjboimekljaaCxZ
namespace Go.Bx
set_option linter.unusedVariables false
set_option linter.unusedSimpArgs false
open Go Go.RowKit

/-- nothing in the frame hangs on slot d -/
def NoTag (d : Option Nat) (fr : List V) : Prop := ∀ d', d = some d' → ∀ t, untagD d' (nth fr t) = nth fr t

theorem nth_ext : ∀ {l m : List V}, l.length = m.length → (∀ t, nth l t = nth m t) → l = m
  | [], [], _, _ => rfl
  | a :: l, b :: m, hl, h => by
    have h0 : a = b := h 0
    have := nth_ext (l := l) (m := m) (by simpa using hl) (fun t => h (t + 1))
    rw [h0, this]
  | [], _ :: _, hl, _ => by simp at hl
  | _ :: _, [], hl, _ => by simp at hl

def putF (fr : List V) : Option Nat → V → List V
  | none, _ => fr
  | some d, v => fr.set d v

theorem setF_plain {d : Option Nat} {fr : List V} (h : NoTag d fr) (v : V) : setF fr d v = putF fr d v := by
  cases d with
  | none => rfl
  | some d =>
    simp only [setF, putF]
    congr 1
    exact nth_ext (by simp) fun t => by rw [nth_map _ rfl]; exact h d rfl t

theorem nth_setF {d : Option Nat} {fr : List V} (h : NoTag d fr) (v : V) (t : Nat) (ht : d ≠ some t) : nth (setF fr d v) t = nth fr t := by
  rw [setF_plain h]
  cases d with
  | none => rfl
  | some d => simp only [putF]; rw [nth_set, if_neg]; exact fun e => ht (by rw [e.1])

section
variable {P : Program} {C : Ctx} {G0 : GE} {S : St} {a : Act} {w : World} {ops : Array Oper}

theorem untag_tag {d : Nat} {g : Option Gd} {v : V} {C : Ctx} {ty : Nat} (h : ∀ gd, g = some gd → gd.d ≠ d) : untagD d (tag g (saneT C ty v)) = tag g (saneT C ty v) := by
  cases g with
  | none => cases v <;> simp only [saneT, tag] <;> first | rfl | (split <;> rfl)
  | some gd =>
    simp only [tag, untagD]
    rw [if_neg]
    intro e
    exact h gd rfl (Nat.eq_of_beq_eq_true e)

theorem guardOf_looks {fr : List V} {o : Oper} {gd : Gd} (h : guardOf ops fr o = some (some gd)) : gd.d ∈ o.looksAt ops ∧ ∃ j w, o.guard = some (j, w) ∧ (ops[j]?).bind (·.dst) = some gd.d := by
  unfold guardOf at h
  cases hg : o.guard with
  | none => rw [hg] at h; cases h
  | some jw =>
    obtain ⟨j, w⟩ := jw
    rw [hg] at h
    simp only at h
    cases hd : (ops[j]?).bind (·.dst) with
    | none => rw [hd] at h; cases h
    | some d =>
      rw [hd] at h
      simp only at h
      have hm : d ∈ o.looksAt ops := List.mem_append_right _ (by simp [hg, hd])
      split at h
      · cases h
      · split at h <;> first | (cases h; exact ⟨hm, j, w, rfl, hd⟩) | cases h

/-- what is laid into the slot is tagged with the guard -/
theorem act_tag {g : Option Gd} {o : Oper} {fr : List V} {hp : Heap} {r} (h : act C g o fr hp = some r) : ∃ v, r.1 = tag g (saneT C o.type v) := by
  unfold act at h
  cases hv : valR C g fr hp o.op with
  | none =>
    rw [hv] at h
    simp only at h
    cases hd : doIt g with
    | none => rw [hd] at h; cases h
    | some b =>
      rw [hd] at h
      cases b with
      | false => cases h; exact ⟨.any, rfl⟩
      | true =>
        simp only at h
        cases he : effR C g fr hp o.dst o.op with
        | none => rw [he] at h; cases h
        | some q =>
          rw [he] at h
          cases q with
          | eff c i v hp wr => obtain ⟨_, e⟩ := chk_some h (fun _ e => by cases e); subst e; exact ⟨v, rfl⟩
          | call F a hp wr => obtain ⟨y, _, e⟩ := Option.bind_eq_some_iff.1 h; cases e; exact ⟨_, rfl⟩
          | sh s L =>
            obtain ⟨y, _, e⟩ := Option.bind_eq_some_iff.1 h
            split at e
            · cases e; exact ⟨_, rfl⟩
            · cases e
          | val c i v => cases h
          | new v => cases h
  | some q =>
    rw [hv] at h
    cases q with
    | val c i v =>
      refine ⟨v, ?_⟩
      cases g <;> simp only [chk] at h <;> split at h <;> first | (cases h; rfl) | cases h
    | call F a hp wr => obtain ⟨y, _, e⟩ := Option.bind_eq_some_iff.1 h; cases e; exact ⟨_, rfl⟩
    | new v => cases h; exact ⟨v, rfl⟩
    | eff c i v hp wr => cases h
    | sh s L => cases h

theorem act_untag {g : Option Gd} {o : Oper} {fr fr' : List V} {hp : Heap} {r} (hg : guardOf ops fr' o = some g) (h : act C g o fr hp = some r) {d : Nat} (hd : ∀ j w, o.guard = some (j, w) → (ops[j]?).bind (·.dst) ≠ some d) : untagD d r.1 = r.1 := by
  obtain ⟨v, e⟩ := act_tag h
  rw [e]
  refine untag_tag fun gd he hed => ?_
  subst he
  obtain ⟨_, j, w, h1, h2⟩ := guardOf_looks hg
  exact hd j w h1 (by rw [h2, hed])

theorem act_off {g : Option Gd} {o : Oper} {v : V} {wr : List Nat} {h : Heap} (ha : act C g o S.fr S.hp = some (v, wr, h)) : ∀ i, i ∉ wr → nthB h i = nthB S.hp i := by
  obtain ⟨_, _, l⟩ := act_local ha (fun _ _ => rfl) (fun _ _ => rfl)
  exact l.off

theorem step1_act {o : Oper} {wr : List Nat} {S' : St} (h : step1 C ops o S = some (wr, S')) : ∃ g v, guardOf ops S.fr o = some g ∧ act C g o S.fr S.hp = some (v, wr, S'.hp) ∧ S'.fr = setF S.fr o.dst v := by
  unfold step1 at h
  cases hg : guardOf ops S.fr o with
  | none => rw [hg] at h; cases h
  | some g =>
    rw [hg] at h
    simp only [T_act] at h
    obtain ⟨⟨v, wr', h'⟩, h1, h2⟩ := Option.bind_eq_some_iff.1 h
    cases h2
    exact ⟨g, v, rfl, h1, rfl⟩

theorem act_step1 {o : Oper} {wr : List Nat} {g : Option Gd} {v : V} {h : Heap} (hg : guardOf ops S.fr o = some g) (ha : act C g o S.fr S.hp = some (v, wr, h)) : step1 C ops o S = some (wr, ⟨setF S.fr o.dst v, h⟩) := by
  unfold step1
  rw [hg]
  simp only [T_act, ha, Option.bind_some]

/-- the same state, as far as can be told -/
def Eqv (S S' : St) : Prop := S'.fr = S.fr ∧ ∀ i, nthB S'.hp i = nthB S.hp i

theorem Eqv.refl (S : St) : Eqv S S := ⟨rfl, fun _ => rfl⟩
theorem Eqv.trans {S1 S2 S3 : St} (h : Eqv S1 S2) (k : Eqv S2 S3) : Eqv S1 S3 := ⟨k.1.trans h.1, fun i => (k.2 i).trans (h.2 i)⟩

theorem step1_eqv {o : Oper} {wr : List Nat} {S1 S' : St} (h : step1 C ops o S = some (wr, S1)) (e : Eqv S S') : ∃ S1', step1 C ops o S' = some (wr, S1') ∧ foot S' o = foot S o ∧ Eqv S1 S1' := by
  obtain ⟨g, v, h1, h2, h3⟩ := step1_act h
  obtain ⟨h', l1, l2⟩ := act_local (hp' := S'.hp) h2 (fun i _ => e.2 i) (fun i _ => e.2 i)
  refine ⟨⟨setF S.fr o.dst v, h'⟩, ?_, foot_agree (fun t _ => by rw [e.1]) (fun i _ => e.2 i), h3.symm, fun i => ?_⟩
  · have := act_step1 (C := C) (ops := ops) (S := S') (o := o) (wr := wr) (g := g) (v := v) (h := h') (by rw [e.1]; exact h1) (by rw [e.1]; exact l1)
    rw [this, e.1]
  · by_cases hi : i ∈ wr
    · exact l2.on i hi
    · exact (l2.off' i hi).trans ((e.2 i).trans (l2.off i hi).symm)

/-- operations one after the other, with what they have touched -/
inductive Runs (C : Ctx) (ops : Array Oper) : List (Nat × Rec) → St → St → Prop
  | nil (S : St) : Runs C ops [] S S
  | cons {i : Nat} {r : Rec} {o : Oper} {m : List (Nat × Rec)} {S S1 Se : St} (ho : ops[i]? = some o) (hs : step1 C ops o S = some (r.wr, S1)) (hr : foot S o = r.rd) (h : Runs C ops m S1 Se) : Runs C ops ((i, r) :: m) S Se

theorem Runs.eqv {m : List (Nat × Rec)} {S Se : St} (h : Runs C ops m S Se) : ∀ {S' : St}, Eqv S S' → ∃ Se', Runs C ops m S' Se' ∧ Eqv Se Se' := by
  induction h with
  | nil S => exact fun e => ⟨_, .nil _, e⟩
  | cons ho hs hr _ ih =>
    intro S' e
    obtain ⟨S1', g1, g2, g3⟩ := step1_eqv hs e
    obtain ⟨Se', k1, k2⟩ := ih g3
    exact ⟨Se', .cons ho g1 (g2.trans hr) k1, k2⟩

theorem noTag_step {o : Oper} {wr : List Nat} {S' : St} (hs : step1 C ops o S = some (wr, S')) {d : Nat} (hd : ∀ j w, o.guard = some (j, w) → (ops[j]?).bind (·.dst) ≠ some d) (h : NoTag (some d) S.fr) : NoTag (some d) S'.fr := by
  obtain ⟨g, v, e0, e1, e2⟩ := step1_act hs
  intro d' hd' t
  cases hd'
  rw [e2]
  cases hdst : o.dst with
  | none => exact h d rfl t
  | some dx =>
    simp only [setF]
    rw [nth_set, nth_map _ rfl]
    split
    · exact act_untag e0 e1 hd
    · have := h d rfl t
      cases hv : nth S.fr t with
      | opt d' w' u' =>
        rw [hv] at this
        by_cases hx : Nat.beq d' dx = true
        · simp only [untagD, hx, if_true]
        · simp only [untagD, hx] at this ⊢
          exact this
      | _ => rfl

theorem apartL_spec {a b : List Nat} (h : apartL a b = true) : ∀ i ∈ b, i ∉ a := by
  intro i hb ha
  simp only [apartL, Bool.not_eq_true', List.any_eq_false] at h
  exact h i ha (mem_iff.2 hb)

/-- TWO OPERATIONS that nothing orders: the other way round they come to the same -/
theorem comm {ox oi : Oper} {rx ri : Rec} (hap : ox.apart ops oi = true) (hr : apartR rx ri = true) (hx : NoTag ox.dst S.fr) (hi : NoTag oi.dst S.fr) {S1 S2 : St} (s1 : step1 C ops ox S = some (rx.wr, S1)) (f1 : foot S ox = rx.rd)
    (s2 : step1 C ops oi S1 = some (ri.wr, S2)) (f2 : foot S1 oi = ri.rd) :
    ∃ S1' S2', step1 C ops oi S = some (ri.wr, S1') ∧ foot S oi = ri.rd ∧ step1 C ops ox S1' = some (rx.wr, S2') ∧ foot S1' ox = rx.rd ∧ Eqv S2 S2' := by
  obtain ⟨a1, a2, a3⟩ := Oper.apart_spec hap
  simp only [apartR, Bool.and_eq_true] at hr
  obtain ⟨⟨p1, p2⟩, p3⟩ := hr
  have q1 := apartL_spec p1
  have q2 := apartL_spec p2
  have q3 := apartL_spec p3
  obtain ⟨gx, vx, x1, x2, x3⟩ := step1_act s1
  obtain ⟨gi, vi, i1, i2, i3⟩ := step1_act s2
  have guardLooks : ∀ (o : Oper) j w d, o.guard = some (j, w) → (ops[j]?).bind (·.dst) = some d → d ∈ o.looksAt ops := fun o j w d hg hd => List.mem_append_right _ (by simp [hg, hd])
  have lkx : ∀ t ∈ oi.looksAt ops, nth S1.fr t = nth S.fr t := fun t ht => by rw [x3]; exact nth_setF hx vx t fun e => a1 t e ht
  have i1' : guardOf ops S.fr oi = some gi := by rw [← guardOf_congr lkx]; exact i1
  have i2' : act C gi oi S.fr S1.hp = some (vi, ri.wr, S2.hp) := by rw [← act_congr fun t ht => lkx t (mem_looks ht)]; exact i2
  have fi : foot ⟨S.fr, S1.hp⟩ oi = ri.rd := by
    rw [← f2]; exact foot_agree (S := S1) (S' := ⟨S.fr, S1.hp⟩) (fun t ht => (lkx t (mem_looks ht)).symm) (fun _ _ => rfl)
  have off1 := act_off (S := S) x2
  obtain ⟨h', l1, l2⟩ := act_local (S := ⟨S.fr, S1.hp⟩) (hp' := S.hp) i2' (fun i hi => by rw [fi] at hi; exact (off1 i (q1 i hi)).symm) (fun i hi => (off1 i (q2 i hi)).symm)
  have fi' : foot S oi = ri.rd := by
    rw [← fi]; exact foot_agree (S := ⟨S.fr, S1.hp⟩) (S' := S) (fun _ _ => rfl) (fun i hi => by rw [fi] at hi; exact (off1 i (q1 i hi)).symm)
  -- the frames
  have hix : NoTag oi.dst (setF S.fr ox.dst vx) := fun d hd t => by
    rw [setF_plain hx]
    cases hdx : ox.dst with
    | none => exact hi d hd t
    | some d' =>
      simp only [putF]
      rw [nth_set]
      split
      · exact act_untag x1 x2 fun j w hg hj => a3 d hd (guardLooks ox j w d hg hj)
      · exact hi d hd t
  have hxi : NoTag ox.dst (setF S.fr oi.dst vi) := fun d hd t => by
    rw [setF_plain hi]
    cases hdi : oi.dst with
    | none => exact hx d hd t
    | some d' =>
      simp only [putF]
      rw [nth_set]
      split
      · exact act_untag i1' i2' fun j w hg hj => a1 d hd (guardLooks oi j w d hg hj)
      · exact hx d hd t
  have frames : setF (setF S.fr oi.dst vi) ox.dst vx = setF (setF S.fr ox.dst vx) oi.dst vi := by
    rw [setF_plain hxi, setF_plain hix, setF_plain hi, setF_plain hx]
    cases hdx : ox.dst with
    | none => rfl
    | some d =>
      cases hdi : oi.dst with
      | none => rfl
      | some d' => simp only [putF]; exact List.set_comm _ _ fun e => a2 d hdx (by rw [hdi, e])
  have lki : ∀ t ∈ ox.looksAt ops, nth (setF S.fr oi.dst vi) t = nth S.fr t := fun t ht => nth_setF hi vi t fun e => a3 t e ht
  obtain ⟨h'', m1, m2⟩ := act_local (S := S) (hp' := h') x2 (fun i hi => by rw [f1] at hi; exact l2.off' i (q3 i hi)) (fun i hi => l2.off' i fun h => q2 i h hi)
  refine ⟨⟨setF S.fr oi.dst vi, h'⟩, ⟨setF (setF S.fr oi.dst vi) ox.dst vx, h''⟩, act_step1 i1' l1, fi', ?_, ?_, ?_, fun i => ?_⟩
  · exact act_step1 (S := ⟨setF S.fr oi.dst vi, h'⟩) (by rw [guardOf_congr lki]; exact x1) (by rw [act_congr fun t ht => lki t (mem_looks ht)]; exact m1)
  · rw [← f1]
    exact foot_agree (S := S) (fun t ht => lki t (mem_looks ht)) (fun i hi => by rw [f1] at hi; exact l2.off' i (q3 i hi))
  · simp only; rw [frames, i3, x3]
  · simp only
    by_cases hx' : i ∈ rx.wr
    · rw [m2.on i hx', l2.off i fun h => q2 i h hx']
    · rw [m2.off' i hx']
      by_cases hi' : i ∈ ri.wr
      · exact l2.on i hi'
      · rw [l2.off' i hi', l2.off i hi', off1 i hx']

theorem Runs.front (hD : DrawFacts ops) {i : Nat} {ri : Rec} {oi : Oper} (hoi : ops[i]? = some oi) (m2 : List (Nat × Rec)) : ∀ (m1 : List (Nat × Rec)) (S Se : St),
    ((m1 ++ (i, ri) :: m2).map (·.1)).Pairwise (· < ·) → (∀ p ∈ m1, ∀ ox, ops[p.1]? = some ox → ox.apart ops oi = true ∧ apartR p.2 ri = true) → (∀ p ∈ m1 ++ (i, ri) :: m2, ∀ o, ops[p.1]? = some o → NoTag o.dst S.fr) →
    Runs C ops (m1 ++ (i, ri) :: m2) S Se → ∃ Se', Runs C ops ((i, ri) :: (m1 ++ m2)) S Se' ∧ Eqv Se Se'
  | [], S, Se, _, _, _, h => ⟨Se, h, Eqv.refl _⟩
  | (x, rx) :: m1, S, Se, hp, hc, ht, h => by
    cases h with
    | @cons _ _ ox _ _ S1 _ hox s1 f1 h1 =>
      have hp' := List.pairwise_cons.1 hp
      have ht1 : ∀ p ∈ m1 ++ (i, ri) :: m2, ∀ o, ops[p.1]? = some o → NoTag o.dst S1.fr := fun p hj o ho => by
        cases hd : o.dst with
        | none => intro d' hd'; cases hd'
        | some d =>
          refine noTag_step s1 (fun j' w' hg hj' => ?_) (by rw [← hd]; exact ht p (List.mem_cons_of_mem _ hj) o ho)
          obtain ⟨e, he, hb, hej⟩ := hD.grd x ox j' w' hox hg
          have hlow := hD.low x ox hox e he hb
          have hxj := hp'.1 p.1 (List.mem_map_of_mem hj)
          cases hoj : ops[j']? with
          | none => rw [hoj] at hj'; cases hj'
          | some oj =>
            rw [hoj] at hj'
            exact hD.dst j' p.1 oj o d hoj ho (by simp only at hxj; omega) hd hj'
      obtain ⟨Se', h2, e2⟩ := Runs.front hD hoi m2 m1 S1 Se hp'.2 (fun y hy => hc y (List.mem_cons_of_mem _ hy)) ht1 h1
      cases h2 with
      | @cons _ _ oi' _ _ S2 _ hoi' s2 f2 h3 =>
        rw [hoi] at hoi'; cases hoi'
        obtain ⟨c1, c2⟩ := hc (x, rx) (by simp) ox hox
        obtain ⟨S1', S2', g1, g2, g3, g4, g5⟩ := comm c1 c2 (ht (x, rx) (by simp) ox hox) (ht (i, ri) (by simp) oi hoi) s1 f1 s2 f2
        obtain ⟨Se'', k1, k2⟩ := h3.eqv g5
        exact ⟨Se'', .cons hoi g1 g2 (.cons hox g3 g4 k1), e2.trans k2⟩

end
end Go.Bx
