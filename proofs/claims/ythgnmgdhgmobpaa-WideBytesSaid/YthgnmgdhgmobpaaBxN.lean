/- A part of a framework that reads Go code as functions of plain data; or a law about such functions. -/
import Derived.Test.YthgnmgdhgmobpaaBxM
namespace Go.Bx
open Go Go.RowKit

section
variable {P : Program} {C : Ctx} {ops : Array Oper}

/-- an operation's doing, told apart from where it is done: the slot's value, the block that it lays -/
def act (C : Ctx) (ops : Array Oper) (o : Oper) (fr : List V) (hp : List (Option Blk)) : Option (V × Option (Nat × Blk)) :=
  match guardOf ops fr o with
  | none => none
  | some g => match valR C g fr hp o.op with
    | some (.val c i v) => chk g c i (some (tag g (saneT C o.type v), none))
    | some (.call F x) => (runF g F x).map fun r => (tag g (F.out r), none)
    | some (.new v) => some (tag g (saneT C o.type v), none)
    | none => match g with
      | some _ => none
      | none => match effA C fr hp o.dst o.op with
        | some (v, id, b) => some (v, some (id, b))
        | none => none

def updB (hp : List (Option Blk)) : Option (Nat × Blk) → List (Option Blk)
  | none => hp
  | some (d, b) => setB hp d b

/-- a step is its doing, done -/
theorem step1_eq (o : Oper) (S : St) : step1 C ops o S = (act C ops o S.fr S.hp).map fun r => ⟨setF S.fr o.dst r.1, updB S.hp r.2⟩ := by
  unfold step1 act
  cases hg : guardOf ops S.fr o with
  | none => rfl
  | some g =>
    simp only [T]
    cases hv : valR C g S.fr S.hp o.op with
    | none =>
      cases g with
      | some gd => rfl
      | none =>
        simp only [effR]
        cases he : effA C S.fr S.hp o.dst o.op with
        | none => rfl
        | some r => obtain ⟨v, id, b⟩ := r; rfl
    | some r =>
      cases r with
      | val c i v =>
        cases g <;> simp only [chk] <;> split <;> rfl
      | call F x =>
        simp only
        cases runF g F x <;> rfl
      | new v => rfl

/-- the frame is looked at nowhere but where the operation looks -/
theorem ev_congr {fr fr' : List V} {x : Operand} (h : ∀ t, x = .tmp t → nth fr' t = nth fr t) : ev fr' x = ev fr x := by
  cases x with
  | tmp t => exact h t rfl
  | _ => rfl

theorem map_congr' {l : List Operand} {f f' : Operand → V} (h : ∀ x ∈ l, f x = f' x) : l.map f = l.map f' := List.map_congr_left h

theorem mem_looks {o : Oper} {t : Nat} (h : Operand.tmp t ∈ o.op.operands) : t ∈ o.looksAt ops :=
  List.mem_append_left _ (List.mem_filterMap.2 ⟨.tmp t, by simpa using h, rfl⟩)

theorem valR_congr {g : Option Gd} {fr fr' : List V} {hp : List (Option Blk)} {op : Op} (h : ∀ t, Operand.tmp t ∈ op.operands → nth fr' t = nth fr t) : valR C g fr' hp op = valR C g fr hp op := by
  have e : ∀ x, x ∈ op.operands → ev fr' x = ev fr x := fun x hx => ev_congr fun t ht => h t (by rw [← ht]; exact hx)
  cases op <;> simp only [valR] <;> simp only [Op.operands] at e
  case pick c a b => rw [e c (by simp), e a (by simp), e b (by simp)]
  case call c =>
    have ea : c.args.toList.map (fun x => dd (un g (ev fr' x))) = c.args.toList.map (fun x => dd (un g (ev fr x))) :=
      List.map_congr_left fun x hx => by rw [e x (by simp [Call.operands]; right; simpa using hx)]
    cases hc : c.callee with
    | value f =>
      have ef := e f (by simp [Call.operands, hc])
      simp only [ef, ea]
    | builtin b => simp only [ea]; cases b <;> rfl
    | invoke r m => rfl
  case move x => rw [e x (by simp)]
  case assign x => rw [e x (by simp)]
  case load t x => rw [e x (by simp)]
  case binOp op xt x y yt => rw [e x (by simp), e y (by simp)]
  case unOp op xt x => rw [e x (by simp)]
  case convert s d x => rw [e x (by simp)]
  case fieldAddr t x j => rw [e x (by simp)]
  case indexAddr t x i => rw [e x (by simp), e i (by simp)]
  case extract x i => rw [e x (by simp)]
  case index t x i => rw [e x (by simp), e i (by simp)]
  case field t x j => rw [e x (by simp)]
  case build t parts =>
    have hb : ∀ (τ : Ty) (l : List (Nat × Operand)) (c : τ.den), (∀ p ∈ l, p ∈ parts.toList) → buildV (fun x => dd (un g (ev fr' x))) τ l c = buildV (fun x => dd (un g (ev fr x))) τ l c := by
      intro τ l
      induction l with
      | nil => intro c _; rfl
      | cons p r ih =>
        obtain ⟨i, x⟩ := p
        intro c hl
        have hx := e x (by
          have := hl (i, x) (by simp)
          have hm : (i, x) ∈ parts := by simpa using this
          first | exact Array.mem_map.2 ⟨(i, x), hm, rfl⟩ | exact List.mem_map.2 ⟨(i, x), by simpa using hm, rfl⟩ | (simp; exact ⟨i, hm⟩))
        have ih' := fun c => ih c fun p hp => hl p (List.mem_cons_of_mem _ hp)
        simp only [buildV, hx, ih']
    cases look C.ty t with
    | none => rfl
    | some τ => simp only [hb τ parts.toList τ.zero fun _ h => h]
  case buildSlice t n parts =>
    have hb : ∀ (τ : Ty) (l : List (Nat × Operand)) (c : τ.den), (∀ p ∈ l, p ∈ parts.toList) → buildV (fun x => dd (un g (ev fr' x))) τ l c = buildV (fun x => dd (un g (ev fr x))) τ l c := by
      intro τ l
      induction l with
      | nil => intro c _; rfl
      | cons p r ih =>
        obtain ⟨i, x⟩ := p
        intro c hl
        have hx := e x (by
          have := hl (i, x) (by simp)
          have hm : (i, x) ∈ parts := by simpa using this
          first | exact Array.mem_map.2 ⟨(i, x), hm, rfl⟩ | exact List.mem_map.2 ⟨(i, x), by simpa using hm, rfl⟩ | (simp; exact ⟨i, hm⟩))
        have ih' := fun c => ih c fun p hp => hl p (List.mem_cons_of_mem _ hp)
        simp only [buildV, hx, ih']
    cases look C.ty t with
    | none => rfl
    | some τ => cases τ <;> first | rfl | simp only [hb _ parts.toList _ fun _ h => h]

theorem guardOf_congr {fr fr' : List V} {o : Oper} (h : ∀ t ∈ o.looksAt ops, nth fr' t = nth fr t) : guardOf ops fr' o = guardOf ops fr o := by
  unfold guardOf
  cases hg : o.guard with
  | none => rfl
  | some jw =>
    obtain ⟨j, w⟩ := jw
    simp only
    cases hd : (ops[j]?).bind (·.dst) with
    | none => rfl
    | some d =>
      simp only
      have : d ∈ o.looksAt ops := List.mem_append_right _ (by simp [hg, hd])
      rw [h d this]

theorem effA_congr {fr fr' : List V} {hp : List (Option Blk)} {dst : Option Nat} {op : Op} (h : ∀ t, Operand.tmp t ∈ op.operands → nth fr' t = nth fr t) :
    effA C fr' hp dst op = effA C fr hp dst op := by
  have e : ∀ x, x ∈ op.operands → ev fr' x = ev fr x := fun x hx => ev_congr fun t ht => h t (by rw [← ht]; exact hx)
  cases op <;> simp only [effA] <;> simp only [Op.operands] at e
  case box t x => rw [e x (by simp)]
  case store t x y => rw [e x (by simp), e y (by simp)]

theorem act_congr {o : Oper} {fr fr' : List V} {hp : List (Option Blk)} (h : ∀ t ∈ o.looksAt ops, nth fr' t = nth fr t) : act C ops o fr' hp = act C ops o fr hp := by
  unfold act
  rw [guardOf_congr h]
  cases guardOf ops fr o with
  | none => rfl
  | some g =>
    simp only
    rw [valR_congr fun t ht => h t (mem_looks ht), effA_congr fun t ht => h t (mem_looks ht)]

/-- the frame alone -/
theorem valR_pure {g : Option Gd} {fr : List V} {hp hp' : List (Option Blk)} {op : Op} (hc : cls op = 0) : valR C g fr hp' op = valR C g fr hp op := by
  cases op <;> simp [cls] at hc <;> rfl

theorem act_pure {o : Oper} {fr : List V} {hp hp' : List (Option Blk)} (hc : cls o.op = 0) {r} (h : act C ops o fr hp = some r) : act C ops o fr hp' = some r ∧ r.2 = none := by
  unfold act at h ⊢
  cases hg : guardOf ops fr o with
  | none => rw [hg] at h; cases h
  | some g =>
    rw [hg] at h
    simp only at h ⊢
    rw [valR_pure (hp := hp) hc]
    cases hv : valR C g fr hp o.op with
    | none =>
      rw [hv] at h
      cases g with
      | some gd => cases h
      | none =>
        simp only at h
        have : effA C fr hp o.dst o.op = none := by
          cases hop : o.op <;> simp [hop, cls] at hc <;> simp [effA]
        rw [this] at h; cases h
    | some q =>
      rw [hv] at h
      cases q with
      | val c i v =>
        simp only at h ⊢
        refine ⟨h, ?_⟩
        cases g <;> simp only [chk] at h <;> split at h <;> first | (cases h; rfl) | cases h
      | call F x =>
        simp only at h ⊢
        refine ⟨h, ?_⟩
        obtain ⟨r', _, h2⟩ := Option.map_eq_some_iff.1 h
        cases h2; rfl
      | new v =>
        simp only at h ⊢
        refine ⟨h, ?_⟩
        cases h; rfl

/-- more blocks: what was read is read as before -/
theorem valR_mono {g : Option Gd} {fr : List V} {hp hp' : List (Option Blk)} {op : Op} (hle : ∀ id b, nthB hp id = some b → nthB hp' id = some b) {r} (h : valR C g fr hp op = some r) : valR C g fr hp' op = some r := by
  cases op <;> simp only [valR] at h ⊢ <;> try exact h
  case load t x =>
    cases hτ : look C.ty t with
    | none => rw [hτ] at h; cases h
    | some τ =>
      rw [hτ] at h
      cases he : dd (un g (ev fr x)) <;> rw [he] at h <;> first | (cases h; done) | skip
      case ref id p =>
        simp only at h ⊢
        cases hb : nthB hp id with
        | none => rw [hb] at h; cases h
        | some b => rw [hb] at h; rw [hle _ _ hb]; exact h
      case iref => exact h
  case fieldAddr t x j =>
    cases hτ : look C.ty t with
    | none => rw [hτ] at h; cases h
    | some τ =>
      rw [hτ] at h
      cases he : dd (un g (ev fr x)) <;> rw [he] at h <;> first | (cases h; done) | skip
      case ref id p =>
        simp only at h ⊢
        cases hb : nthB hp id with
        | none => rw [hb] at h; cases h
        | some b => rw [hb] at h; rw [hle _ _ hb]; exact h
      case iref => exact h
  case indexAddr t x i =>
    split at h
    · rename_i len τ id p k n h1 h2 h3
      cases hb : nthB hp id with
      | none => rw [hb] at h; cases h
      | some b => rw [hb] at h; rw [hle _ _ hb]; exact h
    · rename_i τ τ' l k n h1 h2 h3
      exact h
    · rename_i len' τ len τ' l k n h1 h2 h3
      exact h
    · cases h

/-- fewer blocks: where nothing leads to what is missing -/
theorem valR_less {fr : List V} {hp hp' : List (Option Blk)} {op : Op} (hle : ∀ id b, nthB hp' id = some b → (∃ x p, Operand.tmp x ∈ op.operands ∧ nth fr x = .ref id p) → nthB hp id = some b) {r} (h : valR C none fr hp' op = some r) : valR C none fr hp op = some r := by
  have key : ∀ (x : Operand) id p, x ∈ op.operands → dd (un none (ev fr x)) = .ref id p → ∃ t p, Operand.tmp t ∈ op.operands ∧ nth fr t = .ref id p := by
    intro x id p hx he0
    have he : un none (ev fr x) = .ref id p := by
      revert he0
      cases un none (ev fr x) <;> simp [dd]
    cases x with
    | tmp t =>
      refine ⟨t, p, hx, ?_⟩
      simp only [ev] at he
      cases hv : nth fr t <;> rw [hv] at he <;> simp [un] at he
      rw [he.1, he.2]
    | const v =>
      simp only [ev, ofConst] at he
      split at he <;> first | (split at he <;> simp [un] at he) | simp [un] at he
    | global g => simp [ev, un] at he
    | func f => simp [ev, un] at he
  cases op <;> simp only [valR] at h ⊢ <;> try exact h
  case load t x =>
    cases hτ : look C.ty t with
    | none => rw [hτ] at h; cases h
    | some τ =>
      rw [hτ] at h
      simp only at h ⊢
      cases he : dd (un none (ev fr x)) <;> rw [he] at h <;> first | (cases h; done) | skip
      case ref id p =>
        simp only at h ⊢
        cases hb : nthB hp' id with
        | none => rw [hb] at h; cases h
        | some b => rw [hb] at h; rw [hle _ _ hb (key x id p (by simp [Op.operands]) he)]; exact h
      case iref => exact h
  case fieldAddr t x j =>
    cases hτ : look C.ty t with
    | none => rw [hτ] at h; cases h
    | some τ =>
      rw [hτ] at h
      cases he : dd (un none (ev fr x)) <;> rw [he] at h <;> first | (cases h; done) | skip
      case ref id p =>
        simp only at h ⊢
        cases hb : nthB hp' id with
        | none => rw [hb] at h; cases h
        | some b => rw [hb] at h; rw [hle _ _ hb (key x id p (by simp [Op.operands]) he)]; exact h
      case iref => exact h
  case indexAddr t x i =>
    split at h
    · rename_i len τ id p k n h1 h2 h3
      cases hb : nthB hp' id with
      | none => rw [hb] at h; cases h
      | some b => rw [hb] at h; rw [hle _ _ hb (key x id p (by simp [Op.operands]) h2)]; exact h
    · rename_i τ τ' l k n h1 h2 h3
      exact h
    · rename_i len' τ len τ' l k n h1 h2 h3
      exact h
    · cases h

end
end Go.Bx
