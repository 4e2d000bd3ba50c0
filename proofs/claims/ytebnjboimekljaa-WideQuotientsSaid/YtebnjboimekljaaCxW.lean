/- A part of a framework that reads Go code as functions of plain data; or a law about such functions. -/
import Derived.Test.YtebnjboimekljaaCxV
namespace Go.Bx
set_option linter.unusedVariables false
set_option linter.unusedSimpArgs false
open Go Go.RowKit

/-! ### what an operation looks at, and nothing else, counts: the blocks -/

/-- the same blocks under these numbers -/
abbrev Agree (L : List Nat) (hp hp' : Heap) : Prop := ∀ i ∈ L, nthB hp' i = nthB hp i

theorem Agree.sub {L M : List Nat} {hp hp' : Heap} (h : Agree L hp hp') (hs : ∀ i ∈ M, i ∈ L) : Agree M hp hp' := fun i hi => h i (hs i hi)

mutual
theorem rd_agree {hp hp' : Heap} : ∀ v : V, Agree v.ids hp hp' → rd hp' v = rd hp v
  | .app id ver, h => by simp only [rd]; rw [h id (by simp [V.ids])]
  | .view id p t n lo hi, h => by simp only [rd]; rw [h id (by simp [V.ids])]
  | .agg t l, h => by simp only [rd]; rw [rdL_agree l (fun i hi => h i (by simpa [V.ids] using hi))]
  | .any, _ => rfl
  | .data _ _, _ => rfl
  | .nilp, _ => rfl
  | .snil, _ => rfl
  | .ref _ _ _, _ => rfl
  | .iref _ _, _ => rfl
  | .tup _, _ => rfl
  | .opt _ _ _, _ => rfl
  | .fn _ _ _, _ => rfl
  | .full _ _, _ => rfl
  | .ifc _ _, _ => rfl
  | .map _, _ => rfl
theorem rdL_agree {hp hp' : Heap} : ∀ l : List V, Agree (V.idsL l) hp hp' → rdL hp' l = rdL hp l
  | [], _ => rfl
  | v :: l, h => by simp only [rdL]; rw [rd_agree v (fun i hi => h i (by simp [V.idsL, hi])), rdL_agree l (fun i hi => h i (by simp [V.idsL, hi]))]
end

mutual
theorem loose_agree {hp hp' : Heap} : ∀ v : V, Agree v.ids hp hp' → loose hp' v = loose hp v
  | .app id ver, h => by simp only [loose]; rw [h id (by simp [V.ids])]
  | .view id p t n lo hi, h => by simp only [loose]; rw [h id (by simp [V.ids])]
  | .agg t l, h => by simp only [loose]; rw [looseL_agree l (fun i hi => h i (by simpa [V.ids] using hi))]
  | .any, _ => rfl
  | .data _ _, _ => rfl
  | .nilp, _ => rfl
  | .snil, _ => rfl
  | .ref _ _ _, _ => rfl
  | .iref _ _, _ => rfl
  | .tup _, _ => rfl
  | .opt _ _ _, _ => rfl
  | .fn _ _ _, _ => rfl
  | .full _ _, _ => rfl
  | .ifc _ _, _ => rfl
  | .map _, _ => rfl
theorem looseL_agree {hp hp' : Heap} : ∀ l : List V, Agree (V.idsL l) hp hp' → looseL hp' l = looseL hp l
  | [], _ => rfl
  | v :: l, h => by simp only [looseL]; rw [loose_agree v (fun i hi => h i (by simp [V.idsL, hi])), looseL_agree l (fun i hi => h i (by simp [V.idsL, hi]))]
end

mutual
/-- freezing turns each block for itself -/
theorem frz_at {hp hp' : Heap} {i : Nat} : ∀ v : V, nthB hp' i = nthB hp i → nthB (frz hp' v) i = nthB (frz hp v) i
  | .app id _, h => by
    simp only [frz]
    by_cases e : i = id
    · subst e; rw [h]; cases nthB hp i <;> simp [h, look_set]
    · cases nthB hp id <;> cases nthB hp' id <;> simp only [look_set, if_neg e, h]
  | .view id _ _ _ _ _, h => by
    simp only [frz]
    by_cases e : i = id
    · subst e; rw [h]; cases nthB hp i <;> simp [h, look_set]
    · cases nthB hp id <;> cases nthB hp' id <;> simp only [look_set, if_neg e, h]
  | .agg _ l, h => by simp only [frz]; exact frzL_at l h
  | .any, h => h
  | .data _ _, h => h
  | .nilp, h => h
  | .snil, h => h
  | .ref _ _ _, h => h
  | .iref _ _, h => h
  | .tup _, h => h
  | .opt _ _ _, h => h
  | .fn _ _ _, h => h
  | .full _ _, h => h
  | .ifc _ _, h => h
  | .map _, h => h
theorem frzL_at {hp hp' : Heap} {i : Nat} : ∀ l : List V, nthB hp' i = nthB hp i → nthB (frzL hp' l) i = nthB (frzL hp l) i
  | [], h => h
  | v :: l, h => by simp only [frzL]; exact frzL_at l (frz_at v h)
end

mutual
theorem frz_off {hp : Heap} {i : Nat} : ∀ v : V, i ∉ v.ids → nthB (frz hp v) i = nthB hp i
  | .app id _, h => by
    simp only [frz]
    have e : i ≠ id := fun e => h (by simp [V.ids, e])
    cases nthB hp id <;> simp only [look_set, if_neg e]
  | .view id _ _ _ _ _, h => by
    simp only [frz]
    have e : i ≠ id := fun e => h (by simp [V.ids, e])
    cases nthB hp id <;> simp only [look_set, if_neg e]
  | .agg _ l, h => by simp only [frz]; exact frzL_off l (by simpa [V.ids] using h)
  | .any, _ => rfl
  | .data _ _, _ => rfl
  | .nilp, _ => rfl
  | .snil, _ => rfl
  | .ref _ _ _, _ => rfl
  | .iref _ _, _ => rfl
  | .tup _, _ => rfl
  | .opt _ _ _, _ => rfl
  | .fn _ _ _, _ => rfl
  | .full _ _, _ => rfl
  | .ifc _ _, _ => rfl
  | .map _, _ => rfl
theorem frzL_off {hp : Heap} {i : Nat} : ∀ l : List V, i ∉ V.idsL l → nthB (frzL hp l) i = nthB hp i
  | [], _ => rfl
  | v :: l, h => by
    simp only [V.idsL, List.mem_append, not_or] at h
    simp only [frzL]; rw [frzL_off l h.2, frz_off v h.1]
end

/-- the blocks behind an operation, here and there -/
structure Loc (hp h hp' h' : Heap) (wr : List Nat) : Prop where
  on : ∀ i ∈ wr, nthB h' i = nthB h i
  off : ∀ i, i ∉ wr → nthB h i = nthB hp i
  off' : ∀ i, i ∉ wr → nthB h' i = nthB hp' i

theorem Loc.nil {hp hp' : Heap} : Loc hp hp hp' hp' [] := ⟨fun _ h => by simp at h, fun _ _ => rfl, fun _ _ => rfl⟩

theorem Loc.set {hp hp' : Heap} {d : Nat} {b : Blk} : Loc hp (setB hp d b) hp' (setB hp' d b) [d] :=
  ⟨fun i hi => by simp only [List.mem_singleton] at hi; subst hi; simp [look_set], fun i hi => by simp only [List.mem_singleton] at hi; rw [look_set, if_neg hi], fun i hi => by simp only [List.mem_singleton] at hi; rw [look_set, if_neg hi]⟩

theorem Loc.frzL {hp hp' : Heap} {l : List V} (h : Agree (V.idsL l) hp hp') : Loc hp (frzL hp l) hp' (Bx.frzL hp' l) (V.idsL l) :=
  ⟨fun i hi => frzL_at l (h i hi), fun i hi => frzL_off l hi, fun i hi => frzL_off l hi⟩

theorem Loc.frz {hp hp' : Heap} {v : V} (h : Agree v.ids hp hp') : Loc hp (frz hp v) hp' (Bx.frz hp' v) v.ids :=
  ⟨fun i hi => frz_at v (h i hi), fun i hi => frz_off v hi, fun i hi => frz_off v hi⟩

theorem Loc.set_frz {hp hp' : Heap} {v : V} {d : Nat} {b : Blk} (h : Agree v.ids hp hp') : Loc hp (setB (Bx.frz hp v) d b) hp' (setB (Bx.frz hp' v) d b) (d :: v.ids) := by
  refine ⟨fun i hi => ?_, fun i hi => ?_, fun i hi => ?_⟩
  · rw [look_set, look_set]
    split
    · rfl
    · rename_i hne
      exact frz_at v (h i ((List.mem_cons.1 hi).resolve_left hne))
  all_goals
    simp only [List.mem_cons, not_or] at hi
    rw [look_set, if_neg hi.1, frz_off v hi.2]

inductive OutLoc (hp hp' : Heap) : Out → Out → Prop
  | eff {c i v h h' wr} (l : Loc hp h hp' h' wr) : OutLoc hp hp' (.eff c i v h wr) (.eff c i v h' wr)
  | call {F a h h' wr} (l : Loc hp h hp' h' wr) : OutLoc hp hp' (.call F a h wr) (.call F a h' wr)
  | sh {s L} : OutLoc hp hp' (.sh s L) (.sh s L)
  | val {c i v} : OutLoc hp hp' (.val c i v) (.val c i v)

/-- what is written -/
def Out.wr : Out → List Nat
  | .eff _ _ _ _ w => w
  | .call _ _ _ w => w
  | _ => []

mutual
theorem ids_sane : ∀ v : V, ∀ i ∈ (sane v).ids, i ∈ v.ids
  | .opt _ _ _, i, h => by simp [sane, V.ids] at h
  | .any, _, h => h
  | .data _ _, _, h => h
  | .nilp, _, h => h
  | .snil, _, h => h
  | .ref _ _ _, _, h => h
  | .iref _ _, _, h => h
  | .tup _, _, h => h
  | .fn _ _ _, _, h => h
  | .full _ _, _, h => h
  | .app _ _, _, h => h
  | .view _ _ _ _ _ _, _, h => h
  | .agg _ _, _, h => h
  | .ifc _ _, _, h => h
  | .map _, _, h => h
end

theorem ids_un (g : Option Gd) (v : V) : ∀ i ∈ (un g v).ids, i ∈ v.ids := by
  intro i h
  cases v <;> simp only [un] at h <;> try exact h
  rename_i d w u
  cases g with
  | none => simp [V.ids] at h
  | some g =>
    simp only at h
    split at h
    · simpa [V.ids] using ids_sane u i h
    · simp [V.ids] at h

theorem ids_dd (v : V) : ∀ i ∈ (dd v).ids, i ∈ v.ids := by
  intro i h
  cases v <;> simp only [dd] at h <;> first | exact h | simp [V.ids] at h

theorem ids_nilT (u : Ty) (v : V) : ∀ i ∈ (nilT u v).ids, i ∈ v.ids := by
  intro i h
  cases v <;> simp only [nilT] at h <;> first | exact h | (cases u <;> simp [V.ids] at h)

theorem mem_idsL {l : List V} {v : V} {i : Nat} (hv : v ∈ l) (hi : i ∈ v.ids) : i ∈ V.idsL l := by
  induction l with
  | nil => cases hv
  | cons a l ih =>
    simp only [V.idsL, List.mem_append]
    rcases List.mem_cons.1 hv with e | e
    · subst e; exact .inl hi
    · exact .inr (ih e)

theorem idsL_mem {l : List V} {i : Nat} (h : i ∈ V.idsL l) : ∃ v ∈ l, i ∈ v.ids := by
  induction l with
  | nil => simp [V.idsL] at h
  | cons a l ih =>
    simp only [V.idsL, List.mem_append] at h
    rcases h with h | h
    · exact ⟨a, by simp, h⟩
    · obtain ⟨v, h1, h2⟩ := ih h; exact ⟨v, List.mem_cons_of_mem _ h1, h2⟩

theorem idsL_append (l m : List V) : V.idsL (l ++ m) = V.idsL l ++ V.idsL m := by
  induction l with
  | nil => rfl
  | cons a l ih => simp [V.idsL, ih]

/-- the numbers that an operand's value names -/
theorem ids_ev {fr : List V} {L : List Operand} {x : Operand} (hx : x ∈ L) : ∀ i ∈ (ev fr x).ids, i ∈ V.idsL (L.map (ev fr)) := fun i hi => mem_idsL (List.mem_map_of_mem hx) hi

theorem target_ids {C : Ctx} {g : Option Gd} {fr : List V} {c : Call} {f : Nat} {args : List V} (h : target C (fun x => un g (ev fr x)) c = some (f, args)) : ∀ i ∈ V.idsL args, i ∈ V.idsL (c.operands.toList.map (ev fr)) := by
  unfold target at h
  have hargs : ∀ x ∈ c.args.toList, x ∈ c.operands.toList := fun x hx => by simp [Call.operands]; right; simpa using hx
  have arg : ∀ i ∈ V.idsL (c.args.toList.map fun x => un g (ev fr x)), i ∈ V.idsL (c.operands.toList.map (ev fr)) := fun i hi => by
    obtain ⟨v, h1, h2⟩ := idsL_mem hi
    obtain ⟨x, hx, rfl⟩ := List.mem_map.1 h1
    exact ids_ev (hargs x hx) i (ids_un g _ i h2)
  have sn : ∀ (l : List V), ∀ i ∈ V.idsL (l.map sane), i ∈ V.idsL l := fun l i hi => by
    obtain ⟨v, h1, h2⟩ := idsL_mem hi
    obtain ⟨x, hx, rfl⟩ := List.mem_map.1 h1
    exact mem_idsL hx (ids_sane _ i h2)
  split at h
  · rename_i fo hc
    split at h
    · rename_i f' fst cap he
      cases h
      intro i hi
      simp only [callArgs, idsL_append, List.nil_append, List.mem_append] at hi
      have hf : ∀ i ∈ (ev fr fo).ids, i ∈ V.idsL (c.operands.toList.map (ev fr)) := ids_ev (by simp [Call.operands, hc])
      have he' : un g (ev fr fo) = .fn f fst cap := he
      have hfc : ∀ i, (i ∈ V.idsL fst ∨ i ∈ V.idsL cap) → i ∈ (ev fr fo).ids := fun i hi => ids_un g _ i (by rw [he']; simpa [V.ids] using hi)
      rcases hi with (hi | hi) | hi
      · exact hf i (hfc i (.inl (sn _ i hi)))
      · exact arg i hi
      · exact hf i (hfc i (.inr (sn _ i hi)))
    · cases h
  · rename_i r m hc
    split at h
    · rename_i t v he0
      have he : un g (ev fr r) = .ifc t v := he0
      split at h
      · cases h
        intro i hi
        simp only [callArgs, idsL_append, List.map_nil, List.append_nil, V.idsL, List.mem_append] at hi
        rcases hi with hi | hi
        · exact ids_ev (L := c.operands.toList) (x := r) (by simp [Call.operands, hc]) i (ids_un g _ i (by rw [he]; simpa [V.ids] using ids_sane _ i hi))
        · exact arg i hi
      · cases h
    · cases h
  · cases h

theorem buildV_congr {e e' : Operand → V} {τ : Ty} : ∀ (l : List (Nat × Operand)) (c : τ.den), (∀ p ∈ l, e' p.2 = e p.2) → buildV e' τ l c = buildV e τ l c
  | [], _, _ => rfl
  | (i, x) :: r, c, h => by
    have ih := fun c : τ.den => buildV_congr (τ := τ) r c fun p hp => h p (List.mem_cons_of_mem _ hp)
    have hx : e' x = e x := h (i, x) (by simp)
    simp only [buildV, hx, ih]

theorem buildT_congr {e e' : Operand → V} {τ : Ty} : ∀ (l : List (Nat × Operand)) (c : V), (∀ p ∈ l, e' p.2 = e p.2) → buildT e' τ l c = buildT e τ l c
  | [], _, _ => rfl
  | (i, x) :: r, c, h => by
    have ih := fun c => buildT_congr (τ := τ) r c fun p hp => h p (List.mem_cons_of_mem _ hp)
    have hx : e' x = e x := h (i, x) (by simp)
    simp only [buildT, hx, ih]

theorem mem_parts {parts : Array (Nat × Operand)} {p : Nat × Operand} (h : p ∈ parts.toList) : p.2 ∈ (parts.toList.map (·.2)) := List.mem_map.2 ⟨p, h, rfl⟩

theorem valR_local {C : Ctx} {g : Option Gd} {fr : List V} {hp hp' : Heap} {op : Op} (h : Agree (V.idsL (op.operands.toList.map (ev fr))) hp hp') : valR C g fr hp' op = valR C g fr hp op := by
  have E : ∀ x, x ∈ op.operands → Agree (un g (ev fr x)).ids hp hp' := fun x hx i hi => h i (ids_ev (by simpa using hx) i (ids_un g _ i hi))
  have D : ∀ x, x ∈ op.operands → Agree (dd (un g (ev fr x))).ids hp hp' := fun x hx i hi => E x hx i (ids_dd _ i hi)
  have R : ∀ x, x ∈ op.operands → rd hp' (dd (un g (ev fr x))) = rd hp (dd (un g (ev fr x))) := fun x hx => rd_agree _ (D x hx)
  have I : ∀ x id ver p, x ∈ op.operands → dd (un g (ev fr x)) = .ref id ver p → nthB hp' id = nthB hp id := fun x id ver p hx e => D x hx id (by rw [e]; simp [V.ids])
  cases op <;> simp only [valR] <;> simp only [Op.operands] at E D R I
  case load t x =>
    cases look C.ty t with
    | none => rfl
    | some τ =>
      cases he : dd (un g (ev fr x)) <;> try rfl
      simp only [I x _ _ _ (by simp) he]
  case indexAddr t x i =>
    cases look C.ty t with
    | none => rfl
    | some τ =>
      cases he : dd (un g (ev fr x)) with
      | ref id ver p =>
        have := I x _ _ _ (by simp) he
        cases τ <;> cases dd (un g (ev fr i)) <;> first | rfl | (rename_i t3 n3; cases t3 <;> first | rfl | simp only [this])
      | app id ver =>
        have : nthB hp' id = nthB hp id := D x (by simp) id (by rw [he]; simp [V.ids])
        cases τ <;> cases dd (un g (ev fr i)) <;> first | rfl | (rename_i t3 n3; cases t3 <;> first | rfl | simp only [this])
      | data t' y => cases τ <;> cases t' <;> cases dd (un g (ev fr i)) <;> first | rfl | (rename_i t3 n3; cases t3 <;> rfl)
      | iref t' y => cases τ <;> cases t' <;> cases dd (un g (ev fr i)) <;> first | rfl | (rename_i t3 n3; cases t3 <;> rfl)
      | _ => cases τ <;> cases dd (un g (ev fr i)) <;> first | rfl | (rename_i t3 n3; cases t3 <;> rfl)
  case fieldAddr t x j =>
    cases look C.ty t with
    | none => rfl
    | some τ =>
      cases he : dd (un g (ev fr x)) with
      | ref id ver p => simp only [I x _ _ _ (by simp) he]
      | _ => rfl
  case convert s d x =>
    have hr := R x (by simp)
    generalize dd (un g (ev fr x)) = v at hr
    generalize look C.ty s = a
    generalize look C.ty d = b
    split <;> first | rfl | simp only [hr] | skip
  case buildSlice t n parts =>
    have hb : ∀ (τ : Ty) (c : τ.den), buildV (fun x => rd hp' (dd (un g (ev fr x)))) τ parts.toList c = buildV (fun x => rd hp (dd (un g (ev fr x)))) τ parts.toList c := fun τ c => buildV_congr _ _ fun p hq => R p.2 (by simpa using mem_parts hq)
    have hl : parts.toList.any (fun p => loose hp' (dd (un g (ev fr p.2)))) = parts.toList.any (fun p => loose hp (dd (un g (ev fr p.2)))) := by
      rw [Bool.eq_iff_iff]
      simp only [List.any_eq_true]
      exact exists_congr fun p => and_congr_right fun hq => by rw [loose_agree _ (D p.2 (by simpa using mem_parts hq))]
    simp only [hb, hl]
  case slice t x lo hi mx =>
    cases he : dd (un g (ev fr x)) with
    | ref id ver p => have := I x _ _ _ (by simp) he; simp only [this]
    | app id ver =>
      have : nthB hp' id = nthB hp id := D x (by simp) id (by rw [he]; simp [V.ids])
      simp only [this]
    | data t' y => cases t' <;> rfl
    | iref t' y => cases t' <;> rfl
    | _ => rfl
  case call c =>
    cases hc : c.callee with
    | builtin b =>
      have hl : c.args.toList.map (fun x => rd hp' (dd (un g (ev fr x)))) = c.args.toList.map (fun x => rd hp (dd (un g (ev fr x)))) :=
        List.map_congr_left fun x hx => R x (by simp [Call.operands, hc]; simpa using hx)
      simp only [hl]; cases b <;> rfl
    | value f =>
      simp only
      cases ht : target C (fun x => un g (ev fr x)) c with
      | none => rfl
      | some fa =>
        obtain ⟨f, args⟩ := fa
        have : rdL hp' args = rdL hp args := rdL_agree args (h.sub (target_ids ht))
        have hlo : looseL hp' args = looseL hp args := looseL_agree args (h.sub (target_ids ht))
        simp only [this, hlo]
    | invoke r m =>
      simp only
      cases ht : target C (fun x => un g (ev fr x)) c with
      | none => rfl
      | some fa =>
        obtain ⟨f, args⟩ := fa
        have : rdL hp' args = rdL hp args := rdL_agree args (h.sub (target_ids ht))
        have hlo : looseL hp' args = looseL hp args := looseL_agree args (h.sub (target_ids ht))
        simp only [this, hlo]

end Go.Bx
