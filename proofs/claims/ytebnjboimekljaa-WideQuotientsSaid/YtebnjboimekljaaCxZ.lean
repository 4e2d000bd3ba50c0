/- A part of a framework that reads Go code as functions of plain data; or a law about such functions. -/
import Derived.Test.YtebnjboimekljaaCxY
namespace Go.Bx
set_option linter.unusedVariables false
set_option linter.unusedSimpArgs false
open Go Go.RowKit

/-! ### the frame -/

theorem ev_congr {fr fr' : List V} {x : Operand} (h : ∀ t, x = .tmp t → nth fr' t = nth fr t) : ev fr' x = ev fr x := by
  cases x with
  | tmp t => exact h t rfl
  | _ => rfl

theorem mem_looks {ops : Array Oper} {o : Oper} {t : Nat} (h : Operand.tmp t ∈ o.op.operands) : t ∈ o.looksAt ops :=
  List.mem_append_left _ (List.mem_filterMap.2 ⟨.tmp t, by simpa using h, rfl⟩)

theorem boundOf_congr {e e' : Operand → V} {d : Int} {x : Option Operand} (h : ∀ y, x = some y → e' y = e y) : boundOf e' d x = boundOf e d x := by
  cases x with
  | none => rfl
  | some y => simp only [boundOf, h y rfl]

theorem sliceL_congr {e e' : Operand → V} {τ : Ty} {l : List τ.den} {lo hi mx : Option Operand} (h1 : ∀ y, lo = some y → e' y = e y) (h2 : ∀ y, hi = some y → e' y = e y) (h3 : ∀ y, mx = some y → e' y = e y) :
    sliceL e' τ l lo hi mx = sliceL e τ l lo hi mx := by
  simp only [sliceL, boundOf_congr h1, boundOf_congr h2]
  cases mx with
  | none => rfl
  | some m => simp only [h3 m rfl]

theorem target_congr {C : Ctx} {e e' : Operand → V} {c : Call} (h : ∀ x ∈ c.operands, e' x = e x) : target C e' c = target C e c := by
  have ha : c.args.toList.map e' = c.args.toList.map e := List.map_congr_left fun x hx => h x (by simp [Call.operands]; right; simpa using hx)
  unfold target
  cases hc : c.callee with
  | value f => simp only [h f (by simp [Call.operands, hc]), callArgs, ha]
  | invoke r m => simp only [h r (by simp [Call.operands, hc]), callArgs, ha]
  | builtin b => rfl

theorem valR_congr {C : Ctx} {g : Option Gd} {fr fr' : List V} {hp : Heap} {op : Op} (h : ∀ t, Operand.tmp t ∈ op.operands → nth fr' t = nth fr t) : valR C g fr' hp op = valR C g fr hp op := by
  have e : ∀ x, x ∈ op.operands → ev fr' x = ev fr x := fun x hx => ev_congr fun t ht => h t (by rw [← ht]; exact hx)
  cases op <;> simp only [valR] <;> simp only [Op.operands] at e
  case pick c a b => rw [e c (by simp), e a (by simp), e b (by simp)]
  case call c =>
    have ea : c.args.toList.map (fun x => dd (un g (ev fr' x))) = c.args.toList.map (fun x => dd (un g (ev fr x))) :=
      List.map_congr_left fun x hx => by rw [e x (by simp [Call.operands]; right; simpa using hx)]
    have er : c.args.toList.map (fun x => rd hp (dd (un g (ev fr' x)))) = c.args.toList.map (fun x => rd hp (dd (un g (ev fr x)))) :=
      List.map_congr_left fun x hx => by rw [e x (by simp [Call.operands]; right; simpa using hx)]
    have et : target C (fun x => un g (ev fr' x)) c = target C (fun x => un g (ev fr x)) c := target_congr fun x hx => by rw [e x hx]
    simp only [ea, er, et]
  case move x => rw [e x (by simp)]
  case assign x => rw [e x (by simp)]
  case load t x => rw [e x (by simp)]
  case binOp op xt x y yt => rw [e x (by simp), e y (by simp)]
  case unOp op xt x => rw [e x (by simp)]
  case convert s d x => rw [e x (by simp)]
  case fieldAddr t x j => rw [e x (by simp)]
  case indexAddr t x i => rw [e x (by simp), e i (by simp)]
  case extract x i => rw [e x (by simp)]
  case index t x i => rw [e x (by simp), e i (by simp)]
  case field t x j => rw [e x (by simp)]
  case nilCheck x => rw [e x (by simp)]
  case makeInterface t x => rw [e x (by simp)]
  case makeFunc f fst cap =>
    have e1 : fst.toList.map (fun x => un g (ev fr' x)) = fst.toList.map (fun x => un g (ev fr x)) := List.map_congr_left fun x hx => by rw [e x (by simp; left; simpa using hx)]
    have e2 : cap.toList.map (fun x => un g (ev fr' x)) = cap.toList.map (fun x => un g (ev fr x)) := List.map_congr_left fun x hx => by rw [e x (by simp; right; simpa using hx)]
    simp only [e1, e2]
  case build t parts =>
    have hb : ∀ (τ : Ty) (c : V), buildT (fun x => un g (ev fr' x)) τ parts.toList c = buildT (fun x => un g (ev fr x)) τ parts.toList c := fun τ c => buildT_congr _ _ fun p hq => by rw [e p.2 (by simpa using mem_parts hq)]
    simp only [hb]
  case buildSlice t n parts =>
    have hb : ∀ (τ : Ty) (c : τ.den), buildV (fun x => rd hp (dd (un g (ev fr' x)))) τ parts.toList c = buildV (fun x => rd hp (dd (un g (ev fr x)))) τ parts.toList c := fun τ c => buildV_congr _ _ fun p hq => by rw [e p.2 (by simpa using mem_parts hq)]
    have hl : parts.toList.any (fun p => loose hp (dd (un g (ev fr' p.2)))) = parts.toList.any (fun p => loose hp (dd (un g (ev fr p.2)))) := by
      rw [Bool.eq_iff_iff]
      simp only [List.any_eq_true]
      exact exists_congr fun p => and_congr_right fun hq => by rw [e p.2 (by simpa using mem_parts hq)]
    simp only [hb, hl]
  case slice t x lo hi mx =>
    have el : ∀ y, lo = some y → dd (un g (ev fr' y)) = dd (un g (ev fr y)) := fun y hy => by rw [e y (by simp [hy])]
    have eh : ∀ y, hi = some y → dd (un g (ev fr' y)) = dd (un g (ev fr y)) := fun y hy => by rw [e y (by simp [hy])]
    have em : ∀ y, mx = some y → dd (un g (ev fr' y)) = dd (un g (ev fr y)) := fun y hy => by rw [e y (by simp [hy])]
    have b1 : ∀ d, boundOf (fun x => dd (un g (ev fr' x))) d lo = boundOf (fun x => dd (un g (ev fr x))) d lo := fun d => boundOf_congr el
    have b2 : ∀ d, boundOf (fun x => dd (un g (ev fr' x))) d hi = boundOf (fun x => dd (un g (ev fr x))) d hi := fun d => boundOf_congr eh
    have b3 : ∀ (τ : Ty) (l : List τ.den), sliceL (fun x => dd (un g (ev fr' x))) τ l lo hi mx = sliceL (fun x => dd (un g (ev fr x))) τ l lo hi mx := fun τ l => sliceL_congr el eh em
    simp only [b1, b2, b3, e x (by simp)]

theorem effR_congr {C : Ctx} {g : Option Gd} {fr fr' : List V} {hp : Heap} {dst : Option Nat} {op : Op} (h : ∀ t, Operand.tmp t ∈ op.operands → nth fr' t = nth fr t) : effR C g fr' hp dst op = effR C g fr hp dst op := by
  have e : ∀ x, x ∈ op.operands → ev fr' x = ev fr x := fun x hx => ev_congr fun t ht => h t (by rw [← ht]; exact hx)
  cases op <;> simp only [effR] <;> simp only [Op.operands] at e
  case box t x => rw [e x (by simp)]
  case store t x y => rw [e x (by simp), e y (by simp)]
  case makeSlice t x y => rw [e x (by simp), e y (by simp)]
  case buildSlice t n parts =>
    have hb : ∀ (τ : Ty) (c : τ.den), buildV (fun x => rd hp (dd (un g (ev fr' x)))) τ parts.toList c = buildV (fun x => rd hp (dd (un g (ev fr x)))) τ parts.toList c := fun τ c => buildV_congr _ _ fun p hq => by rw [e p.2 (by simpa using mem_parts hq)]
    have hl : parts.toList.map (fun p => dd (un g (ev fr' p.2))) = parts.toList.map (fun p => dd (un g (ev fr p.2))) := List.map_congr_left fun p hq => by rw [e p.2 (by simpa using mem_parts hq)]
    simp only [hb, hl]
  case slice t x lo hi mx =>
    have el : ∀ y, lo = some y → dd (un g (ev fr' y)) = dd (un g (ev fr y)) := fun y hy => by rw [e y (by simp [hy])]
    have eh : ∀ y, hi = some y → dd (un g (ev fr' y)) = dd (un g (ev fr y)) := fun y hy => by rw [e y (by simp [hy])]
    have em : ∀ y, mx = some y → dd (un g (ev fr' y)) = dd (un g (ev fr y)) := fun y hy => by rw [e y (by simp [hy])]
    have b3 : ∀ (τ : Ty) (l : List τ.den), sliceL (fun x => dd (un g (ev fr' x))) τ l lo hi mx = sliceL (fun x => dd (un g (ev fr x))) τ l lo hi mx := fun τ l => sliceL_congr el eh em
    simp only [b3, e x (by simp)]
  case call c =>
    have et : target C (fun x => un g (ev fr' x)) c = target C (fun x => un g (ev fr x)) c := target_congr fun x hx => by rw [e x hx]
    have ea : ∀ x, x ∈ c.args.toList → ev fr' x = ev fr x := fun x hx => e x (by simp [Call.operands]; right; simpa using hx)
    simp only [et]
    cases hc : c.callee with
    | builtin b =>
      cases b <;> try rfl
      all_goals
        rcases hl : c.args.toList with _ | ⟨x, _ | ⟨y, _ | ⟨z, r⟩⟩⟩ <;> try rfl
        have hx := ea x (by rw [hl]; simp)
        have hy := ea y (by rw [hl]; simp)
        rcases c.argTypes.toList with _ | ⟨t, _ | ⟨t', _ | ⟨t'', r⟩⟩⟩ <;> first | rfl | simp only [hx, hy]
    | value f => rfl
    | invoke r m => rfl

theorem guardOf_congr {ops : Array Oper} {fr fr' : List V} {o : Oper} (h : ∀ t ∈ o.looksAt ops, nth fr' t = nth fr t) : guardOf ops fr' o = guardOf ops fr o := by
  unfold guardOf
  cases hg : o.guard with
  | none => rfl
  | some jw =>
    obtain ⟨j, w⟩ := jw
    simp only
    cases hd : (ops[j]?).bind (·.dst) with
    | none => rfl
    | some d =>
      simp only
      have : d ∈ o.looksAt ops := List.mem_append_right _ (by simp [hg, hd])
      rw [h d this]

theorem foot_ev {fr fr' : List V} {o : Oper} (h : ∀ t, Operand.tmp t ∈ o.op.operands → nth fr' t = nth fr t) : o.op.operands.toList.map (ev fr') = o.op.operands.toList.map (ev fr) :=
  List.map_congr_left fun x hx => ev_congr fun t ht => h t (by rw [← ht]; simpa using hx)

theorem foot_ids {S : St} {o : Oper} : ∀ i ∈ V.idsL (o.op.operands.toList.map (ev S.fr)), i ∈ foot S o := by
  intro i hi
  unfold foot
  split
  · split
    · exact hi
    · exact reach_sub i hi
  · exact hi

theorem foot_reach {S : St} {o : Oper} {c : Call} (hc : o.op = .call c) (hb : ∀ b, c.callee ≠ .builtin b) : foot S o = reach S.hp (o.op.operands.toList.map (ev S.fr)) := by
  unfold foot
  split
  · rename_i c' hc'
    rw [hc] at hc'
    cases hc'
    split
    · rename_i b hb'; exact absurd hb' (hb b)
    · rfl
  · rename_i hn
    exact absurd hc (hn c)

theorem foot_agree {S S' : St} {o : Oper} (hf : ∀ t, Operand.tmp t ∈ o.op.operands → nth S'.fr t = nth S.fr t) (h : Agree (foot S o) S.hp S'.hp) : foot S' o = foot S o := by
  unfold foot at h ⊢
  rw [foot_ev hf]
  revert h
  split
  · split
    · intro _; rfl
    · intro h; exact closeN_agree 6 _ h
  · intro _; rfl

/-- an operation's doing, told apart from where it is done: the slot's value, the blocks that turn, the blocks -/
def act (C : Ctx) (g : Option Gd) (o : Oper) (fr : List V) (hp : Heap) : Option (V × List Nat × Heap) :=
  match valR C g fr hp o.op with
  | some (.val c i v) => chk g c i (some (tag g (saneT C o.type v), [], hp))
  | some (.call F a _ _) => (runF g F a).bind fun r => some (tag g (saneT C o.type (F.out r)), [], hp)
  | some (.new v) => some (tag g (saneT C o.type v), [], hp)
  | some _ => none
  | none =>
    match doIt g with
    | none => none
    | some false => some (tag g .any, [], hp)
    | some true => match effR C g fr hp o.dst o.op with
      | some (.eff c i v h wr) => chk none c i (some (tag g (saneT C o.type v), wr, h))
      | some (.call F a h wr) => (F.run a).bind fun r => some (tag g (saneT C o.type (F.out r)), wr, h)
      | some (.sh s L) => s.o.bind fun y => match freeAll hp (newOf L (s.f y).2) with
        | true => some (tag g (saneT C o.type (s.f y).1), L ++ (s.f y).2.map (·.1), setAll (s.f y).2 hp)
        | false => none
      | _ => none

/-- a step is its doing, done -/
theorem T_act {α : Type} {C : Ctx} {g : Option Gd} {o : Oper} {S : St} {K : List Nat → St → Option α} : T C g o S K = (act C g o S.fr S.hp).bind fun r => K r.2.1 ⟨setF S.fr o.dst r.1, r.2.2⟩ := by
  unfold T act
  cases hv : valR C g S.fr S.hp o.op with
  | none =>
    simp only
    cases doIt g with
    | none => rfl
    | some b =>
      cases b with
      | false => rfl
      | true =>
        simp only
        cases he : effR C g S.fr S.hp o.dst o.op with
        | none => rfl
        | some r =>
          cases r with
          | eff c i v hp wr => simp only [chk]; split <;> rfl
          | call F a hp wr => simp only; cases F.run a <;> rfl
          | sh s L =>
            simp only
            cases s.o with
            | none => rfl
            | some y => simp only [Option.bind_some]; cases freeAll S.hp (newOf L (s.f y).2) <;> rfl
          | val c i v => rfl
          | new v => rfl
  | some r =>
    cases r with
    | val c i v => cases g <;> simp only [chk] <;> split <;> rfl
    | call F a hp wr => simp only; cases runF g F a <;> rfl
    | new v => rfl
    | eff c i v hp wr => rfl
    | sh s L => rfl

theorem act_congr {C : Ctx} {g : Option Gd} {o : Oper} {fr fr' : List V} {hp : Heap} (h : ∀ t, Operand.tmp t ∈ o.op.operands → nth fr' t = nth fr t) : act C g o fr' hp = act C g o fr hp := by
  unfold act
  rw [valR_congr h, effR_congr h]

theorem setAll_at {i : Nat} : ∀ (d hp hp' : Heap), nthB hp' i = nthB hp i → nthB (setAll d hp') i = nthB (setAll d hp) i
  | [], _, _, h => h
  | (j, b) :: r, hp, hp', h => by
    simp only [setAll]
    refine setAll_at r _ _ ?_
    rw [look_set, look_set, h]
theorem setAll_off {i : Nat} : ∀ (d hp : Heap), i ∉ d.map (·.1) → nthB (setAll d hp) i = nthB hp i
  | [], _, _ => rfl
  | (j, b) :: r, hp, h => by
    simp only [List.map_cons, List.mem_cons, not_or] at h
    simp only [setAll]
    rw [setAll_off r _ h.2, look_set, if_neg h.1]

theorem freeAll_agree {hp hp' : Heap} : ∀ l : List Nat, Agree l hp hp' → freeAll hp' l = freeAll hp l
  | [], _ => rfl
  | i :: r, h => by simp only [freeAll, free_agree (h i (by simp)), freeAll_agree r fun j hj => h j (List.mem_cons_of_mem _ hj)]

/-- THE BLOCKS THAT COUNT -/
theorem act_local {C : Ctx} {g : Option Gd} {o : Oper} {S : St} {hp' : Heap} {v : V} {wr : List Nat} {h : Heap} (ha : act C g o S.fr S.hp = some (v, wr, h)) (hf : Agree (foot S o) S.hp hp') (hw : Agree wr S.hp hp') :
    ∃ h', act C g o S.fr hp' = some (v, wr, h') ∧ Loc S.hp h hp' h' wr := by
  have hv' : valR C g S.fr hp' o.op = valR C g S.fr S.hp o.op := valR_local (hf.sub foot_ids)
  unfold act at ha ⊢
  rw [hv']
  cases hv : valR C g S.fr S.hp o.op with
  | none =>
    rw [hv] at ha
    simp only at ha ⊢
    cases hd : doIt g with
    | none => rw [hd] at ha; cases ha
    | some b =>
      rw [hd] at ha
      cases b with
      | false => cases ha; exact ⟨_, rfl, .nil⟩
      | true =>
        simp only at ha ⊢
        cases he : effR C g S.fr S.hp o.dst o.op with
        | none => rw [he] at ha; cases ha
        | some r =>
          rw [he] at ha
          have loc : Agree r.wr S.hp hp' → ∃ o', effR C g S.fr hp' o.dst o.op = some o' ∧ OutLoc S.hp hp' r o' := fun hw' => effR_local he (hf.sub foot_ids) (fun c hc hb => by rw [foot_reach hc hb] at hf; exact hf) hw'
          cases r with
          | eff c i v' h2 w2 =>
            simp only at ha
            obtain ⟨hc, e⟩ := chk_some ha (fun _ e => by cases e)
            cases e
            obtain ⟨o', l1, l2⟩ := loc hw
            cases l2 with
            | eff l =>
              rw [l1]
              refine ⟨_, ?_, l⟩
              simp only [chk]
              split
              · rfl
              · rename_i hn; exact absurd hc hn
          | call F a h2 w2 =>
            simp only at ha
            obtain ⟨y, h1, h3⟩ := Option.bind_eq_some_iff.1 ha
            cases h3
            obtain ⟨o', l1, l2⟩ := loc hw
            cases l2 with
            | call l =>
              rw [l1]
              exact ⟨_, by simp only [h1, Option.bind_some], l⟩
          | sh s L =>
            simp only at ha
            obtain ⟨y, h1, h3⟩ := Option.bind_eq_some_iff.1 ha
            have hz : freeAll S.hp (newOf L (s.f y).2) = true := by
              cases hz : freeAll S.hp (newOf L (s.f y).2) with
              | true => rfl
              | false => rw [hz] at h3; cases h3
            rw [hz] at h3
            cases h3
            obtain ⟨o', l1, l2⟩ := loc (fun i hi => by simp [Out.wr] at hi)
            cases l2 with
            | sh =>
              rw [l1]
              refine ⟨setAll (s.f y).2 hp', ?_, ?_⟩
              · simp only [h1, Option.bind_some]
                rw [freeAll_agree (hp := S.hp), hz]
                intro i hi
                refine hw i (List.mem_append_right _ ?_)
                simp only [newOf, List.mem_filter] at hi
                exact hi.1
              · refine ⟨fun i hi => setAll_at _ _ _ (hw i hi), fun i hi => setAll_off _ _ ?_, fun i hi => setAll_off _ _ ?_⟩
                all_goals exact fun h => hi (List.mem_append_right _ h)
          | val c i v => cases ha
          | new v => cases ha
  | some r =>
    rw [hv] at ha
    cases r with
    | val c i v' =>
      simp only at ha ⊢
      have : ∀ (hq : Heap), chk g c i (some (tag g (saneT C o.type v'), ([] : List Nat), hq)) = (chk g c i (some (tag g (saneT C o.type v')))).map fun u => (u, [], hq) := fun hq => by cases g <;> simp only [chk] <;> split <;> rfl
      rw [this] at ha ⊢
      obtain ⟨u, h1, h2⟩ := Option.map_eq_some_iff.1 ha
      cases h2
      exact ⟨hp', by rw [h1]; rfl, .nil⟩
    | call F a hp wr =>
      simp only at ha ⊢
      obtain ⟨y, h1, h2⟩ := Option.bind_eq_some_iff.1 ha
      cases h2
      exact ⟨hp', by rw [h1]; rfl, .nil⟩
    | new v' => cases ha; exact ⟨hp', rfl, .nil⟩
    | eff c i v hp wr => cases ha
    | sh s L => cases ha

end Go.Bx
