/- A part of a framework that reads Go code as functions of plain data; or a law about such functions. -/
import Derived.Test.YthgnmgdhgmobpaaBxN
namespace Go.Bx
open Go Go.RowKit

/-- nothing in the frame hangs on slot d -/
def NoTag (d : Option Nat) (fr : List V) : Prop := ∀ d', d = some d' → ∀ t, untagD d' (nth fr t) = nth fr t

theorem nth_ext : ∀ {l m : List V}, l.length = m.length → (∀ t, nth l t = nth m t) → l = m
  | [], [], _, _ => rfl
  | a :: l, b :: m, hl, h => by
    have h0 : a = b := h 0
    have := nth_ext (l := l) (m := m) (by simpa using hl) (fun t => h (t + 1))
    rw [h0, this]
  | [], _ :: _, hl, _ => by simp at hl
  | _ :: _, [], hl, _ => by simp at hl

def putF (fr : List V) : Option Nat → V → List V
  | none, _ => fr
  | some d, v => fr.set d v

theorem setF_plain {d : Option Nat} {fr : List V} (h : NoTag d fr) (v : V) : setF fr d v = putF fr d v := by
  cases d with
  | none => rfl
  | some d =>
    simp only [setF, putF]
    congr 1
    exact nth_ext (by simp) fun t => by rw [nth_map _ rfl]; exact h d rfl t

theorem nth_setF {d : Option Nat} {fr : List V} (h : NoTag d fr) (v : V) (t : Nat) (ht : d ≠ some t) : nth (setF fr d v) t = nth fr t := by
  rw [setF_plain h]
  cases d with
  | none => rfl
  | some d => simp only [putF]; rw [nth_set, if_neg]; exact fun e => ht (by rw [e.1])

section
variable {P : Program} {C : Ctx} {w0 : World} {I0 : Nat → Nat → Prop} {S : St} {a : Act} {w : World} {β : Nat → Option Nat} {ops : Array Oper}

theorem untag_tag {d : Nat} {g : Option Gd} {v : V} {C : Ctx} {ty : Nat} (h : ∀ gd, g = some gd → gd.d ≠ d) : untagD d (tag g (saneT C ty v)) = tag g (saneT C ty v) := by
  cases g with
  | none => cases v <;> simp only [saneT, tag] <;> first | rfl | (split <;> rfl)
  | some gd =>
    simp only [tag, untagD]
    rw [if_neg]
    intro e
    exact h gd rfl (Nat.eq_of_beq_eq_true e)

theorem guardOf_looks {fr : List V} {o : Oper} {gd : Gd} (h : guardOf ops fr o = some (some gd)) : gd.d ∈ o.looksAt ops ∧ ∃ j w, o.guard = some (j, w) ∧ (ops[j]?).bind (·.dst) = some gd.d := by
  unfold guardOf at h
  cases hg : o.guard with
  | none => rw [hg] at h; cases h
  | some jw =>
    obtain ⟨j, w⟩ := jw
    rw [hg] at h
    simp only at h
    cases hd : (ops[j]?).bind (·.dst) with
    | none => rw [hd] at h; cases h
    | some d =>
      rw [hd] at h
      simp only at h
      have hm : d ∈ o.looksAt ops := List.mem_append_right _ (by simp [hg, hd])
      split at h
      · cases h
      · split at h <;> first | (cases h; exact ⟨hm, j, w, rfl, hd⟩) | cases h

/-- what an operation lays into its slot hangs on its own guard's slot, and on no other -/
theorem act_untag {o : Oper} {fr : List V} {hp : List (Option Blk)} {r} (h : act C ops o fr hp = some r) {d : Nat} (hd : ∀ j w, o.guard = some (j, w) → (ops[j]?).bind (·.dst) ≠ some d) : untagD d r.1 = r.1 := by
  unfold act at h
  cases hg : guardOf ops fr o with
  | none => rw [hg] at h; cases h
  | some g =>
    rw [hg] at h
    have hgd : ∀ gd, g = some gd → gd.d ≠ d := fun gd e he => by
      subst e
      obtain ⟨_, j, w, h1, h2⟩ := guardOf_looks hg
      exact hd j w h1 (by rw [h2, he])
    simp only at h
    cases hv : valR C g fr hp o.op with
    | none =>
      rw [hv] at h
      cases g with
      | some gd => cases h
      | none =>
        simp only at h
        cases he : effA C fr hp o.dst o.op with
        | none => rw [he] at h; cases h
        | some q =>
          obtain ⟨v, id, b⟩ := q
          rw [he] at h; cases h
          cases hop : o.op <;> rw [hop] at he <;> simp only [effA, reduceCtorEq] at he
          all_goals (repeat' split at he)
          all_goals first | (cases he; rfl) | cases he
    | some q =>
      rw [hv] at h
      cases q with
      | val c i v =>
        have : r = (tag g (saneT C o.type v), none) := by
          cases g <;> simp only [chk] at h <;> split at h <;> first | exact (Option.some.inj h).symm | cases h
        subst this
        exact untag_tag hgd
      | call F x =>
        simp only at h
        obtain ⟨r', _, h2⟩ := Option.map_eq_some_iff.1 h
        cases h2
        have hs : F.out r' = saneT C o.type (F.out r') := by unfold Fn.out; cases F.multi <;> rfl
        simp only
        rw [hs]; exact untag_tag hgd
      | new v =>
        simp only [Option.some.injEq] at h
        subst h
        exact untag_tag hgd

theorem act_cls {o : Oper} {fr : List V} {hp : List (Option Blk)} {v : V} {u : Option (Nat × Blk)} (h : act C ops o fr hp = some (v, u)) (hc : cls o.op ≤ 1) : u = none := by
  unfold act at h
  cases hg : guardOf ops fr o with
  | none => rw [hg] at h; cases h
  | some g =>
    rw [hg] at h
    simp only at h
    cases hv : valR C g fr hp o.op with
    | none =>
      rw [hv] at h
      cases g with
      | some gd => cases h
      | none =>
        simp only at h
        have : effA C fr hp o.dst o.op = none := by
          cases hop : o.op <;> simp [hop, cls] at hc <;> simp [effA]
        rw [this] at h; cases h
    | some q =>
      rw [hv] at h
      cases q with
      | val c i v =>
        cases g <;> simp only [chk] at h <;> split at h <;> first | (cases h; rfl) | cases h
      | call F x =>
        simp only at h
        obtain ⟨r', _, h2⟩ := Option.map_eq_some_iff.1 h
        cases h2; rfl
      | new v => cases h; rfl

theorem valR_none2 {g : Option Gd} {fr : List V} {hp : List (Option Blk)} {op : Op} (hc : cls op = 2) : valR C g fr hp op = none := by
  cases op <;> simp [cls] at hc <;> simp [valR]

/-- who makes a block: which, and that it is free; where else it may do so -/
theorem act_make {o : Oper} {fr : List V} {hp : List (Option Blk)} {v : V} {u : Option (Nat × Blk)} (h : act C ops o fr hp = some (v, u)) (hc : cls o.op = 2) :
    ∃ d b, o.dst = some d ∧ u = some (d, b) ∧ nthB hp d = none ∧ d < hp.length ∧ ∀ hp', nthB hp' d = none → d < hp'.length → act C ops o fr hp' = some (v, u) := by
  unfold act at h
  cases hg : guardOf ops fr o with
  | none => rw [hg] at h; cases h
  | some g =>
    rw [hg] at h
    simp only at h
    rw [valR_none2 hc] at h
    cases g with
    | some gd => cases h
    | none =>
      simp only at h
      cases he : effA C fr hp o.dst o.op with
      | none => rw [he] at h; cases h
      | some q =>
        obtain ⟨v', id, b⟩ := q
        rw [he] at h
        cases h
        have key : o.dst = some id ∧ free hp id = true ∧ ∀ hp', free hp' id = true → effA C fr hp' o.dst o.op = some (v, id, b) := by
          cases hop : o.op <;> rw [hop] at he hc <;> simp [cls] at hc <;> simp only [effA] at he ⊢
          · split at he
            · rename_i τ d h1 h2
              split at he
              · rename_i hf
                simp only [Bool.and_eq_true] at hf
                cases he
                exact ⟨h2, hf.1, fun hp' hf' => by simp [hf', hf.2]⟩
              · cases he
            · cases he
          · split at he
            · rename_i τ d τ' y h1 h2 h3
              split at he
              · rename_i hf
                simp only [Bool.and_eq_true] at hf
                cases he
                exact ⟨h2, hf.1, fun hp' hf' => by simp [hf', hf.2]⟩
              · cases he
            · cases he
        obtain ⟨k1, k2, k3⟩ := key
        have hn : nthB hp id = none := by
          unfold free at k2; split at k2
          · cases k2
          · assumption
        have hl : id < hp.length := by unfold free at k2; rw [hn] at k2; simpa using k2
        refine ⟨id, b, k1, rfl, hn, hl, fun hp' h1 h2 => ?_⟩
        unfold act
        rw [hg]
        simp only
        rw [valR_none2 hc]
        simp only
        rw [k3 hp' (by unfold free; rw [h1]; simpa using h2)]

theorem act_mono {o : Oper} {fr : List V} {hp hp' : List (Option Blk)} (hc : cls o.op = 1) (hle : ∀ id b, nthB hp id = some b → nthB hp' id = some b) {r} (h : act C ops o fr hp = some r) : act C ops o fr hp' = some r := by
  unfold act at h ⊢
  cases hg : guardOf ops fr o with
  | none => rw [hg] at h; cases h
  | some g =>
    rw [hg] at h
    simp only at h ⊢
    cases hv : valR C g fr hp o.op with
    | none =>
      rw [hv] at h
      cases g with
      | some gd => cases h
      | none =>
        simp only at h
        have : effA C fr hp o.dst o.op = none := by
          cases hop : o.op <;> simp [hop, cls] at hc <;> simp [effA]
        rw [this] at h; cases h
    | some q => rw [valR_mono hle hv]; rw [hv] at h; cases q <;> exact h

theorem act_less {o : Oper} {fr : List V} {hp hp' : List (Option Blk)} (hc : cls o.op = 1) (hgu : o.guard = none) (hle : ∀ id b, nthB hp' id = some b → (∃ x p, nth fr x = .ref id p) → nthB hp id = some b) {r} (h : act C ops o fr hp' = some r) : act C ops o fr hp = some r := by
  unfold act at h ⊢
  have hg : guardOf ops fr o = some none := by simp [guardOf, hgu]
  rw [hg] at h ⊢
  simp only at h ⊢
  cases hv : valR C none fr hp' o.op with
  | none =>
    rw [hv] at h
    simp only at h
    have : effA C fr hp' o.dst o.op = none := by
      cases hop : o.op <;> simp [hop, cls] at hc <;> simp [effA]
    rw [this] at h; cases h
  | some q => rw [valR_less (fun id b hb ⟨x, p, _, hx⟩ => hle id b hb ⟨x, p, hx⟩) hv]; rw [hv] at h; cases q <;> exact h

theorem setB_ne {hp : List (Option Blk)} {d : Nat} {b : Blk} {id : Nat} (h : d ≠ id) : nthB (setB hp d b) id = nthB hp id := by
  unfold setB; rw [nthB_set, if_neg (fun e => h e.1)]

theorem length_setB {hp : List (Option Blk)} {d : Nat} {b : Blk} : (setB hp d b).length = hp.length := by simp [setB]

/-- TWO OPERATIONS that nothing orders: the other way round they come to the same -/
theorem comm (h : Rel w0 I0 S a w β) {ox oi : Oper} (hc : commB ops ox oi = true) (hx : NoTag ox.dst S.fr) (hi : NoTag oi.dst S.fr) {S1 S2 : St} (s1 : step1 C ops ox S = some S1) (s2 : step1 C ops oi S1 = some S2) :
    ∃ S1', step1 C ops oi S = some S1' ∧ step1 C ops ox S1' = some S2 := by
  simp only [commB, Bool.and_eq_true] at hc
  obtain ⟨hap, hcl⟩ := hc
  obtain ⟨a1, a2, a3⟩ := Oper.apart_spec hap
  rw [step1_eq] at s1
  obtain ⟨⟨vx, ux⟩, e1, rfl⟩ := Option.map_eq_some_iff.1 s1
  rw [step1_eq] at s2
  obtain ⟨⟨vi, ui⟩, e2, rfl⟩ := Option.map_eq_some_iff.1 s2
  simp only at e2 ⊢
  have guardLooks : ∀ (o : Oper) j w d, o.guard = some (j, w) → (ops[j]?).bind (·.dst) = some d → d ∈ o.looksAt ops := fun o j w d hg hd => List.mem_append_right _ (by simp [hg, hd])
  -- the frame
  have fi : act C ops oi S.fr (updB S.hp ux) = some (vi, ui) := by
    rw [← e2]
    exact (act_congr fun t ht => nth_setF hx vx t fun e => a1 t e ht).symm
  have hix : NoTag oi.dst (setF S.fr ox.dst vx) := fun d hd t => by
    rw [setF_plain hx]
    cases hdx : ox.dst with
    | none => exact hi d hd t
    | some d' =>
      simp only [putF]
      rw [nth_set]
      split
      · exact act_untag e1 fun j w hg hj => a3 d hd (guardLooks ox j w d hg hj)
      · exact hi d hd t
  have hxi : NoTag ox.dst (setF S.fr oi.dst vi) := fun d hd t => by
    rw [setF_plain hi]
    cases hdi : oi.dst with
    | none => exact hx d hd t
    | some d' =>
      simp only [putF]
      rw [nth_set]
      split
      · exact act_untag fi fun j w hg hj => a1 d hd (guardLooks oi j w d hg hj)
      · exact hx d hd t
  have frames : setF (setF S.fr oi.dst vi) ox.dst vx = setF (setF S.fr ox.dst vx) oi.dst vi := by
    rw [setF_plain hxi, setF_plain hix, setF_plain hi, setF_plain hx]
    cases hdx : ox.dst with
    | none => rfl
    | some d =>
      cases hdi : oi.dst with
      | none => rfl
      | some d' => simp only [putF]; exact List.set_comm _ _ fun e => a2 d hdx (by rw [hdi, e])
  have fx : ∀ hp r, act C ops ox S.fr hp = some r → act C ops ox (setF S.fr oi.dst vi) hp = some r := fun hp r hr => by
    rw [← hr]
    exact act_congr fun t ht => nth_setF hi vi t fun e => a3 t e ht
  -- the blocks
  have blocks : act C ops oi S.fr S.hp = some (vi, ui) ∧ act C ops ox S.fr (updB S.hp ui) = some (vx, ux) ∧ updB (updB S.hp ui) ux = updB (updB S.hp ux) ui := by
    by_cases c0x : cls ox.op = 0
    · have hu : ux = none := act_cls e1 (by omega)
      subst hu
      exact ⟨fi, (act_pure c0x e1).1, rfl⟩
    · by_cases c0i : cls oi.op = 0
      · have hu : ui = none := act_cls fi (by omega)
        subst hu
        exact ⟨(act_pure c0i fi).1, e1, rfl⟩
      · simp only [clsOk] at hcl
        by_cases c1x : cls ox.op = 1
        · have hu : ux = none := act_cls e1 (by omega)
          subst hu
          by_cases c1i : cls oi.op = 1
          · have hu : ui = none := act_cls fi (by omega)
            subst hu
            exact ⟨fi, e1, rfl⟩
          · have c2i : cls oi.op = 2 := by
              rw [c1x] at hcl
              split at hcl <;> simp_all
            obtain ⟨d, b, m1, rfl, m3, m4, m5⟩ := act_make fi c2i
            refine ⟨fi, act_mono c1x (fun id b' hb' => ?_) e1, rfl⟩
            simp only [updB] at m3 ⊢
            rw [setB_ne]; exact hb'
            intro e; subst e; rw [m3] at hb'; cases hb'
        · have c2x : cls ox.op = 2 := by
            split at hcl <;> simp_all
          obtain ⟨d, b, m1, rfl, m3, m4, m5⟩ := act_make e1 c2x
          by_cases c1i : cls oi.op = 1
          · have hu : ui = none := act_cls fi (by omega)
            subst hu
            have hgu : oi.guard = none := by
              rw [c2x, c1i] at hcl
              simpa using hcl
            refine ⟨act_less c1i hgu (fun id b' hb' ⟨t, p, ht⟩ => ?_) fi, e1, rfl⟩
            simp only [updB] at hb'
            have hne : d ≠ id := by
              intro e
              subst e
              by_cases htl : t < a.tmps.size
              · have := h.fr t _ (Array.getElem?_eq_getElem htl)
                rw [ht] at this
                simp only [AtV] at this
                obtain ⟨_, _, _, _, _, g1, _⟩ := this
                rw [m3] at g1; cases g1
              · rw [nth_of_ge (by rw [← h.size]; exact Nat.not_lt.1 htl)] at ht; cases ht
            rw [setB_ne hne] at hb'; exact hb'
          · have c2i : cls oi.op = 2 := by
              rw [c2x] at hcl
              split at hcl <;> simp_all
            obtain ⟨d', b', n1, rfl, n3, n4, n5⟩ := act_make fi c2i
            have hne : d ≠ d' := fun e => a2 d m1 (by rw [n1, e])
            simp only [updB] at n3 n4 ⊢
            rw [setB_ne hne] at n3
            rw [length_setB] at n4
            refine ⟨n5 _ n3 n4, m5 _ (by rw [setB_ne (Ne.symm hne)]; exact m3) (by rw [length_setB]; exact m4), ?_⟩
            exact List.set_comm _ _ (Ne.symm hne)
  obtain ⟨b1, b2, b3⟩ := blocks
  refine ⟨⟨setF S.fr oi.dst vi, updB S.hp ui⟩, by rw [step1_eq, b1]; rfl, ?_⟩
  rw [step1_eq]
  simp only
  rw [fx _ _ b2]
  simp only [Option.map_some, frames, b3]

end
end Go.Bx
