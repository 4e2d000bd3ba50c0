/- A part of a framework that reads Go code as functions of plain data; or a law about such functions. -/
import Derived.Test.YtebnjboimekljaaCxG
namespace Go.Bx
set_option linter.unusedVariables false
set_option linter.unusedSimpArgs false
open Go Go.RowKit

section
variable {P : Program} {C : Ctx}

/-- the outcome of an operation that leaves memory alone -/
def Gives (P : Program) (s : Sem Value) (w : World) (G : GE) (tm : Array Value) (v : V) : Prop := ∃ x, s.run P w = .ok x w ∧ AtV G tm v x

theorem intBin_run {G : GE} {tm : Array Value} (w : World) (t : TypeId) (op : BinOp) (k : IntKind) (x y : Int) {c : Prop} {i : Decidable c} {v : V} (h : intBin op k x y = some (.val c i v)) (hc : c)
    (hx : inR k x = true) : Gives P (binOp op t (.int k x) (.int k y)) w G tm v := by
  cases op <;> simp only [intBin, okR, ifR, Option.some.injEq, Out.val.injEq, reduceCtorEq] at h
  all_goals (obtain ⟨rfl, _, rfl⟩ := h)
  case add => exact ⟨_, by simp [binOp, Op.intArith], .mkInt (inR_wrap _ _)⟩
  case sub => exact ⟨_, by simp [binOp, Op.intArith], .mkInt (inR_wrap _ _)⟩
  case mul => exact ⟨_, by simp [binOp, Op.intArith], .mkInt (inR_wrap _ _)⟩
  case quo => exact ⟨_, by simp [binOp, Op.intDiv, hc], .mkInt (inR_wrap _ _)⟩
  case rem => exact ⟨_, by simp [binOp, Op.intDiv, hc], .mkInt (inR_tmod hx)⟩
  case and => exact ⟨_, by simp [binOp, Op.intBits]; rfl, .mkInt (inR_wrap _ _)⟩
  case or => exact ⟨_, by simp [binOp, Op.intBits]; rfl, .mkInt (inR_wrap _ _)⟩
  case xor => exact ⟨_, by simp [binOp, Op.intBits]; rfl, .mkInt (inR_wrap _ _)⟩
  case andNot => exact ⟨_, by simp only [binOp, ne_eq, not_true_eq_false, if_false, Op.intBits]; rfl, .mkInt (inR_wrap _ _)⟩
  case eql => exact ⟨_, by simp [binOp, Op.intCmp], .mkBool⟩
  case neq => exact ⟨_, by simp [binOp, Op.intCmp], .mkBool⟩
  case lss => exact ⟨_, by simp [binOp, Op.intCmp], .mkBool⟩
  case leq => exact ⟨_, by simp [binOp, Op.intCmp], .mkBool⟩
  case gtr => exact ⟨_, by simp [binOp, Op.intCmp], .mkBool⟩
  case geq => exact ⟨_, by simp [binOp, Op.intCmp], .mkBool⟩

theorem run_eqGuard_int (w : World) (op : BinOp) (t : TypeId) (x y : Operand) (k k' : IntKind) (a b : Int) : (eqGuard op t x y (.int k a) (.int k' b)).run P w = .ok () w := by
  unfold eqGuard; cases op <;> simp

/-- the guard of '==' on data -/
theorem run_eqGuard_data {E : Env} (w : World) (op : BinOp) {τ : Ty} {t : TypeId} (ht : TyOk P τ t) (hcmp : τ.cmp = true) (x y : Operand) {p q : τ.den} {v u : Value} (hv : AtD E τ p v) (hu : AtD E τ q u) : (eqGuard op t x y v u).run P w = .ok () w := by
  have nag : ∀ {v u : Value}, (∀ cs, v ≠ .agg cs) → v ≠ .nilIface → (eqGuard op t x y v u).run P w = .ok () w := by
    intro v u h1 h2
    unfold eqGuard
    cases op <;> simp
    all_goals (split <;> first | (exact absurd rfl h2) | (exact absurd rfl (h1 _)) | simp)
  cases τ with
  | int k => have := (hv.one rfl).1; simp at this; subst this; exact nag (by simp) (by simp)
  | bool => have := hv.one rfl; simp [FlatD] at this; subst this; exact nag (by simp) (by simp)
  | str => obtain ⟨s, this, _⟩ := hv.one rfl; simp at this; subst this; exact nag (by simp) (by simp)
  | sl τ => rcases hv.one rfl with ⟨_, this⟩ | ⟨a, cap, css, this, _⟩ <;> (simp at this; subst this; exact nag (by simp) (by simp))
  | opq => exact (hv.one rfl).elim
  | arr n τ =>
    obtain ⟨xs, rfl, _⟩ := hv.agg rfl
    obtain ⟨ys, rfl, _⟩ := hu.agg rfl
    obtain ⟨e, _, _, _, hg⟩ := ht
    have hg := hg (by simpa [Ty.cmp] using hcmp)
    unfold eqGuard; cases op <;> simp [hg]
  | unit =>
    obtain ⟨xs, rfl, _⟩ := hv.agg rfl
    obtain ⟨ys, rfl, _⟩ := hu.agg rfl
    have hg : P.eqGuardType P.depth t = false := by
      obtain ⟨m, hm⟩ : ∃ m, P.depth = m + 1 := ⟨P.depth - 1, by simp [Program.depth]⟩
      rw [hm]; simp [Program.eqGuardType, ht.1]
    unfold eqGuard; cases op <;> simp [hg]
  | pair c d =>
    obtain ⟨xs, rfl, _⟩ := hv.agg rfl
    obtain ⟨ys, rfl, _⟩ := hu.agg rfl
    obtain ⟨fs, _, _, _, _, hg⟩ := ht
    have hg := hg (by simpa [Ty.cmp] using hcmp)
    unfold eqGuard; cases op <;> simp [hg]

theorem run_eq_of_equal (w : World) (t : TypeId) {E : Env} {τ : Ty} {p q : τ.den} {v u : Value} (hv : AtD E τ p v) (hu : AtD E τ q u) (hk : ∀ k, τ ≠ .int k) (hc : τ.cmp = true) {r : Bool} (h : (Op.equalIn 10000 t v u).run P w = .ok r w)
    (hs : τ = .str → ∀ s s', v = .string s → u = .string s' → r = (s.toList == s'.toList)) :
    (binOp .eql t v u).run P w = .ok (.bool r) w ∧ (binOp .neq t v u).run P w = .ok (.bool (!r)) w := by
  cases τ with
  | int k => exact absurd rfl (hk k)
  | bool =>
    have h1 := hv.one rfl; simp [FlatD] at h1; subst h1
    have h2 := hu.one rfl; simp [FlatD] at h2; subst h2
    constructor <;> simp [binOp, Op.equal, Op.maxDepth, h]
  | str =>
    obtain ⟨s, h1, _⟩ := hv.one rfl; simp at h1; subst h1
    obtain ⟨s', h2, _⟩ := hu.one rfl; simp at h2; subst h2
    have := hs rfl s s' rfl rfl
    constructor <;> simp [binOp, Op.stringOp, this]
  | sl τ => simp [Ty.cmp] at hc
  | opq => simp [Ty.cmp] at hc
  | arr n τ =>
    obtain ⟨xs, rfl, _⟩ := hv.agg rfl
    obtain ⟨ys, rfl, _⟩ := hu.agg rfl
    constructor <;> simp [binOp, Op.equal, Op.maxDepth, h]
  | unit =>
    obtain ⟨xs, rfl, _⟩ := hv.agg rfl
    obtain ⟨ys, rfl, _⟩ := hu.agg rfl
    constructor <;> simp [binOp, Op.equal, Op.maxDepth, h]
  | pair c d =>
    obtain ⟨xs, rfl, _⟩ := hv.agg rfl
    obtain ⟨ys, rfl, _⟩ := hu.agg rfl
    constructor <;> simp [binOp, Op.equal, Op.maxDepth, h]

theorem u8_beq (a b : UInt8) : (((a.toNat : Nat) : Int) == ((b.toNat : Nat) : Int)) = (a == b) := by
  by_cases h : a = b
  · subst h; simp
  · have : ¬ ((a.toNat : Nat) : Int) = ((b.toNat : Nat) : Int) := fun e => h (UInt8.toNat_inj.1 (by omega))
    rw [beq_eq_false_iff_ne.2 this, beq_eq_false_iff_ne.2 h]

theorem toList_data (s : ByteArray) : s.toList = s.data.toList := ByteArray.toList_eq s

theorem ltB_bytes : ∀ (x y : List UInt8), Op.bytesLess x y = ltB (x.map fun b => (b.toNat : Int)) (y.map fun b => (b.toNat : Int))
  | _, [] => by simp [Op.bytesLess, ltB]
  | [], _ :: _ => by simp [Op.bytesLess, ltB]
  | a :: x, b :: y => by
    have h1 : (decide (a < b)) = decide (((a.toNat : Nat) : Int) < ((b.toNat : Nat) : Int)) := by
      apply decide_eq_decide.2; rw [UInt8.lt_iff_toNat_lt]; omega
    simp only [Op.bytesLess, List.map_cons, ltB, ltB_bytes x y, u8_beq, h1]

theorem strBin_run {G : GE} {tm : Array Value} (w : World) (t : TypeId) (op : BinOp) {a b : List Int} {x y : Value} (hx : AtV G tm (.data .str a) x) (hy : AtV G tm (.data .str b) y) {c : Prop} {i : Decidable c} {v : V}
    (h : strBin op a b = some (.val c i v)) (hc : c) : Gives P (binOp op t x y) w G tm v := by
  simp only [AtV] at hx hy
  obtain ⟨s, e1, e2, e3⟩ := hx.one rfl
  obtain ⟨s', e4, e5, e6⟩ := hy.one rfl
  simp at e1 e4
  subst e1; subst e4; subst e2; subst e5
  have heq : (s.toList == s'.toList) = beqD .str (bytesOf s) (bytesOf s') := by
    rw [bytesOf_inj]; rfl
  have hlt : Op.bytesLess s.toList s'.toList = ltB (bytesOf s) (bytesOf s') := by rw [ltB_bytes, toList_data, toList_data]; rfl
  cases op <;> simp only [strBin, okR, ifR, Option.some.injEq, Out.val.injEq, reduceCtorEq] at h
  all_goals (obtain ⟨rfl, _, rfl⟩ := h)
  case add =>
    have hl : (bytesOf s).length = s.size := by simp [bytesOf]
    have hl' : (bytesOf s').length = s'.size := by simp [bytesOf]
    rw [hl, hl'] at hc
    have hc := Nat.le_of_ble_eq_true hc
    have hnot : ¬ ((s.size + s'.size : Nat) : Int) > IntKind.i64.max := by
      simp only [IntKind.max, IntKind.signed, IntKind.bits]; simp; omega
    refine ⟨.string (s ++ s'), by simp only [binOp, Op.stringOp, if_neg hnot, Sem.run_pure], ?_⟩
    simp only [AtV]
    refine AtD.ofFlat ⟨_, rfl, ?_, ?_⟩ rfl
    · simp [bytesOf]
    · simp only [ByteArray.size_append, maxLen]; omega
  case eql => exact ⟨_, by simp only [binOp, Op.stringOp, heq, Sem.run_pure], .mkBool⟩
  case neq => exact ⟨_, by simp only [binOp, Op.stringOp, heq, Sem.run_pure], .mkBool⟩
  case lss => exact ⟨_, by simp only [binOp, Op.stringOp, hlt, Sem.run_pure], .mkBool⟩
  case leq => exact ⟨_, by simp only [binOp, Op.stringOp, hlt, heq, Sem.run_pure], .mkBool⟩
  case gtr => exact ⟨_, by simp only [binOp, Op.stringOp, hlt, heq, Sem.run_pure], .mkBool⟩
  case geq => exact ⟨_, by simp only [binOp, Op.stringOp, hlt, Sem.run_pure], .mkBool⟩

theorem RefAt.ptr {G : GE} {id ver : Nat} {p : List Step} {v : Value} (h : RefAt G id ver p v) : ∃ a, v = .pointer (some a) := by
  unfold RefAt at h
  split at h
  · obtain ⟨b, o, u, _, _, h⟩ := h; exact ⟨_, h⟩
  · exact h.2.1
  · exact h.elim

theorem nilBin_run {G : GE} {tm : Array Value} (w : World) (op : BinOp) (xt e : TypeId) (xo yo : Operand) (hp : P.underlying xt = some (.pointer e)) {x y : Value} {b : Bool} {c : Prop} {i : Decidable c} {v : V}
    (hxy : (x = .pointer none ∧ y = .pointer none ∧ b = true) ∨ (b = false ∧ ((∃ a, x = .pointer (some a)) ∧ y = .pointer none ∨ x = .pointer none ∧ ∃ a, y = .pointer (some a)))) (h : nilBin op b = some (.val c i v)) :
    Gives P (do eqGuard op xt xo yo x y; binOp op xt x y) w G tm v := by
  have hg : (eqGuard op xt xo yo x y).run P w = .ok () w := by
    unfold eqGuard
    rcases hxy with ⟨rfl, rfl, _⟩ | ⟨_, ⟨⟨a, rfl⟩, rfl⟩ | ⟨rfl, ⟨a, rfl⟩⟩⟩ <;> cases op <;> simp
  have hd : ∀ d, (Op.equalIn (d + 1) xt x y).run P w = .ok b w := fun d => by
    rcases hxy with ⟨rfl, rfl, rfl⟩ | ⟨rfl, ⟨⟨a, rfl⟩, rfl⟩ | ⟨rfl, ⟨a, rfl⟩⟩⟩ <;> simp [Op.equalIn, run_underlying hp]
  have he : (Op.equal xt x y).run P w = .ok b w := hd 9999
  have hx : (∃ a, x = .pointer a) ∧ ∃ a, y = .pointer a := by
    rcases hxy with ⟨rfl, rfl, _⟩ | ⟨_, ⟨⟨a, rfl⟩, rfl⟩ | ⟨rfl, ⟨a, rfl⟩⟩⟩ <;> exact ⟨⟨_, rfl⟩, ⟨_, rfl⟩⟩
  obtain ⟨⟨p, rfl⟩, ⟨q, rfl⟩⟩ := hx
  unfold nilBin at h
  split at h
  · simp only [okR, Option.some.injEq, Out.val.injEq] at h
    obtain ⟨_, _, rfl⟩ := h
    exact ⟨_, by simp only [Sem.run_bind, hg, Result.andThen_ok, binOp, he, Sem.run_pure], .mkBool⟩
  · simp only [okR, Option.some.injEq, Out.val.injEq] at h
    obtain ⟨_, _, rfl⟩ := h
    exact ⟨_, by simp only [Sem.run_bind, hg, Result.andThen_ok, binOp, he, Sem.run_pure], .mkBool⟩
  · cases h

theorem ptr_some (hC : CtxOk P C) {xt : TypeId} (h : (look C.ptr xt).isSome = true) : ∃ e, P.underlying xt = some (.pointer e) := by
  cases h' : look C.ptr xt with
  | none => rw [h'] at h; cases h
  | some e => exact ⟨e, hC.ptr _ _ h'⟩

theorem binV_run {G : GE} {tm : Array Value} (hC : CtxOk P C) (w : World) (op : BinOp) (xt : TypeId) (xo yo : Operand) {vx vy : V} {x y : Value} (hx : AtV G tm vx x) (hy : AtV G tm vy y) {c : Prop} {i : Decidable c} {v : V}
    (h : binV C op xt vx vy = some (.val c i v)) (hc : c) : Gives P (do eqGuard op xt xo yo x y; binOp op xt x y) w G tm v := by
  unfold binV at h
  split at h
  · rename_i k p k' q
    obtain ⟨rfl, rx⟩ := hx.int
    obtain ⟨rfl, ry⟩ := hy.int
    split at h
    · simp only [ifR, Option.some.injEq, Out.val.injEq] at h
      obtain ⟨rfl, _, rfl⟩ := h
      refine ⟨.int k (shlI k p q), ?_, .mkInt (inR_wrap _ _)⟩
      simp only [Sem.run_bind, run_eqGuard_int, Result.andThen_ok]
      simp [binOp, Op.shift, Int.not_lt.2 hc, shlI]
    · simp only [ifR, Option.some.injEq, Out.val.injEq] at h
      obtain ⟨rfl, _, rfl⟩ := h
      refine ⟨.int k (shrI k p q), ?_, .mkInt (inR_fdiv _ rx)⟩
      simp only [Sem.run_bind, run_eqGuard_int, Result.andThen_ok]
      simp [binOp, Op.shift, Int.not_lt.2 hc, shrI]
    · split at h
      · rename_i hk
        subst hk
        obtain ⟨z, hz, haz⟩ := intBin_run (P := P) (G := G) (tm := tm) w xt op k p q h hc rx
        exact ⟨z, by simp only [Sem.run_bind, run_eqGuard_int, Result.andThen_ok, hz], haz⟩
      · cases h
  · rename_i p q
    obtain ⟨z, hz, haz⟩ := strBin_run (P := P) w xt op hx hy h hc
    have hgd : (eqGuard op xt xo yo x y).run P w = .ok () w := by
      simp only [AtV] at hx hy
      obtain ⟨s, e1, _⟩ := hx.one rfl
      obtain ⟨s', e4, _⟩ := hy.one rfl
      simp at e1 e4
      subst e1; subst e4
      unfold eqGuard; cases op <;> simp
    exact ⟨z, by simp only [Sem.run_bind, hgd, Result.andThen_ok, hz], haz⟩
  · rename_i t p t' q hne hne2
    split at h
    · cases h
    · rename_i q' hq
      obtain ⟨rfl, rfl⟩ := castD_some hq
      split at h
      · rename_i hl
        obtain ⟨hl, hcmp, hdep⟩ := hl
        have htk := hC.ty _ _ hl
        have hdep' : t'.dep ≤ 10000 := Nat.le_of_ble_eq_true hdep
        simp only [AtV] at hx hy
        have hk : ∀ k, t' ≠ .int k := fun k e => by subst e; exact hne k p k q' rfl HEq.rfl rfl HEq.rfl
        have he := eq_data (P := P) w t' xt 10000 p q' x y htk hcmp hdep' hx hy
        have hg := fun op => run_eqGuard_data (P := P) w op htk hcmp xo yo hx hy
        have hb := run_eq_of_equal (P := P) w xt hx hy hk hcmp he (fun e s s' e1 e2 => by
          subst e; subst e1; subst e2
          obtain ⟨s1, g1, g2, _⟩ := hx.one rfl
          obtain ⟨s2, g3, g4, _⟩ := hy.one rfl
          simp at g1 g3; subst g1; subst g3
          rw [bytesOf_inj]; subst g2; subst g4; rfl)
        split at h
        · simp only [okR, Option.some.injEq, Out.val.injEq] at h
          obtain ⟨_, _, rfl⟩ := h
          exact ⟨_, by simp only [Sem.run_bind, hg, Result.andThen_ok, hb.1], .mkBool⟩
        · simp only [okR, Option.some.injEq, Out.val.injEq] at h
          obtain ⟨_, _, rfl⟩ := h
          exact ⟨_, by simp only [Sem.run_bind, hg, Result.andThen_ok, hb.2], .mkBool⟩
        · cases h
      · cases h
  · split at h
    · rename_i hs
      obtain ⟨e, he⟩ := ptr_some hC hs
      simp only [AtV] at hx hy
      exact nilBin_run w op xt e xo yo he (.inl ⟨hx, hy, rfl⟩) h
    · cases h
  · split at h
    · rename_i hs
      obtain ⟨e, he⟩ := ptr_some hC hs
      simp only [AtV] at hx hy
      exact nilBin_run w op xt e xo yo he (.inr ⟨rfl, .inl ⟨hx.ptr, hy⟩⟩) h
    · cases h
  · split at h
    · rename_i hs
      obtain ⟨e, he⟩ := ptr_some hC hs
      simp only [AtV] at hx hy
      exact nilBin_run w op xt e xo yo he (.inr ⟨rfl, .inr ⟨hx, hy.ptr⟩⟩) h
    · cases h
  · cases h


theorem offT_sub : ∀ {t : Ty} {p : List Step} {o : Nat} {u : Ty}, offT t p = some (o, u) → subT t p = some u
  | t, [], o, u, h => by cases t <;> simp [offT] at h <;> simp [subT, h]
  | .arr n t, .idx i :: p, o, u, h => by
    simp only [offT] at h
    split at h
    · cases h2 : offT t p with
      | none => simp [h2] at h
      | some q => simp [h2] at h; obtain ⟨_, rfl⟩ := h; simpa [subT] using offT_sub h2
    · cases h
  | .pair a _, .fld 0 :: p, o, u, h => by simp only [offT] at h; simpa [subT] using offT_sub h
  | .pair a b, .fld (j + 1) :: p, o, u, h => by
    simp only [offT] at h
    cases h2 : offT b (.fld j :: p) with
    | none => simp [h2] at h
    | some q => simp [h2] at h; obtain ⟨_, rfl⟩ := h; simpa [subT] using offT_sub h2
  | .int _, _ :: _, _, _, h => by simp [offT] at h
  | .bool, _ :: _, _, _, h => by simp [offT] at h
  | .str, _ :: _, _, _, h => by simp [offT] at h
  | .sl _, _ :: _, _, _, h => by simp [offT] at h
  | .unit, _ :: _, _, _, h => by simp [offT] at h
  | .opq, _ :: _, _, _, h => by simp [offT] at h
  | .arr _ _, .fld _ :: _, _, _, h => by simp [offT] at h
  | .pair _ _, .idx _ :: _, _, _, h => by simp [offT] at h

theorem offT_snoc (s : Step) : ∀ {t : Ty} {p : List Step} {o : Nat} {u : Ty} {o2 : Nat} {u2 : Ty}, offT t p = some (o, u) → offT u [s] = some (o2, u2) → offT t (p ++ [s]) = some (o + o2, u2)
  | t, [], o, u, o2, u2, h, h' => by
    have : o = 0 ∧ u = t := by cases t <;> simp [offT] at h <;> exact ⟨h.1.symm, h.2.symm⟩
    obtain ⟨rfl, rfl⟩ := this
    simpa using h'
  | .arr n t, .idx i :: p, o, u, o2, u2, h, h' => by
    simp only [offT] at h
    split at h
    · rename_i hi
      cases h2 : offT t p with
      | none => simp [h2] at h
      | some q =>
        simp [h2] at h
        obtain ⟨rfl, rfl⟩ := h
        have := offT_snoc s h2 h'
        simp only [List.cons_append, offT]
        rw [if_pos hi, this]
        simp only [Nat.add_assoc]
    · cases h
  | .pair a _, .fld 0 :: p, o, u, o2, u2, h, h' => by simp only [offT] at h; simpa only [List.cons_append, offT] using offT_snoc s h h'
  | .pair a b, .fld (j + 1) :: p, o, u, o2, u2, h, h' => by
    simp only [offT] at h
    cases h2 : offT b (.fld j :: p) with
    | none => simp [h2] at h
    | some q =>
      simp [h2] at h
      obtain ⟨rfl, rfl⟩ := h
      have := offT_snoc s h2 h'
      simp only [List.cons_append, offT] at this ⊢
      rw [this]
      simp only [Nat.add_assoc]
  | .int _, _ :: _, _, _, _, _, h, _ => by simp [offT] at h
  | .bool, _ :: _, _, _, _, _, h, _ => by simp [offT] at h
  | .str, _ :: _, _, _, _, _, h, _ => by simp [offT] at h
  | .sl _, _ :: _, _, _, _, _, h, _ => by simp [offT] at h
  | .unit, _ :: _, _, _, _, _, h, _ => by simp [offT] at h
  | .opq, _ :: _, _, _, _, _, h, _ => by simp [offT] at h
  | .arr _ _, .fld _ :: _, _, _, _, _, h, _ => by simp [offT] at h
  | .pair _ _, .idx _ :: _, _, _, _, _, h, _ => by simp [offT] at h

theorem fld_off : ∀ {τ : Ty} {j : Nat} {u : Ty}, subT τ [.fld j] = some u → ∃ o, offT τ [.fld j] = some (o, u)
  | .pair a b, 0, u, h => by simp [subT] at h; subst h; exact ⟨0, by simp [offT]⟩
  | .pair a b, j + 1, u, h => by
    simp only [subT] at h
    obtain ⟨o, ho⟩ := fld_off h
    exact ⟨a.size + o, by simp [offT, ho]⟩
  | .int _, _, _, h => by simp [subT] at h
  | .bool, _, _, h => by simp [subT] at h
  | .str, _, _, h => by simp [subT] at h
  | .sl _, _, _, h => by simp [subT] at h
  | .unit, _, _, h => by simp [subT] at h
  | .opq, _, _, h => by simp [subT] at h
  | .arr _ _, _, _, h => by simp [subT] at h

theorem fields_get : ∀ {τ : Ty} {fs : List Field} {off j o : Nat} {u : Ty}, FieldsOk P τ fs off → offT τ [.fld j] = some (o, u) → ∃ f, fs[j]? = some f ∧ f.offset = off + o ∧ TyOk P u f.type ∧ u.size ≠ 0
  | .pair a b, fs, off, 0, o, u, hf, h => by
    obtain ⟨f, r, rfl, h1, h2, h3, h4, h5⟩ := hf
    simp only [offT] at h
    have : o = 0 ∧ u = a := by cases a <;> simp at h <;> exact ⟨h.1.symm, h.2.symm⟩
    obtain ⟨rfl, rfl⟩ := this
    exact ⟨f, rfl, by omega, h4, h2⟩
  | .pair a b, fs, off, j + 1, o, u, hf, h => by
    obtain ⟨f, r, rfl, h1, h2, h3, h4, h5⟩ := hf
    simp only [offT] at h
    cases h6 : offT b [.fld j] with
    | none => simp [h6] at h
    | some q =>
      simp [h6] at h
      obtain ⟨rfl, rfl⟩ := h
      obtain ⟨f', g1, g2, g3, g4⟩ := fields_get h5 h6
      exact ⟨f', by simpa using g1, by omega, g3, g4⟩
  | .int _, _, _, _, _, _, _, h => by simp [offT] at h
  | .bool, _, _, _, _, _, _, h => by simp [offT] at h
  | .str, _, _, _, _, _, _, h => by simp [offT] at h
  | .sl _, _, _, _, _, _, _, h => by simp [offT] at h
  | .unit, _, _, _, _, _, _, h => by simp [offT] at h
  | .opq, _, _, _, _, _, _, h => by simp [offT] at h
  | .arr _ _, _, _, _, _, _, _, h => by simp [offT] at h

theorem TyOk.fields {τ : Ty} {t : TypeId} {j o : Nat} {u : Ty} (h : TyOk P τ t) (ho : offT τ [.fld j] = some (o, u)) :
    ∃ fs f, P.underlying t = some (.struct fs) ∧ fs[j]? = some f ∧ f.offset = o ∧ TyOk P u f.type ∧ u.size ≠ 0 := by
  cases τ with
  | pair a b =>
    obtain ⟨fs, h1, h2, _⟩ := h
    have hf : FieldsOk P (.pair a b) fs.toList 0 := h2
    obtain ⟨f, g1, g2, g3, g4⟩ := fields_get hf ho
    exact ⟨fs, f, h1, by simpa using g1, by omega, g3, g4⟩
  | _ => simp [offT] at ho

theorem proj_flat {E : Env} : ∀ {τ : Ty} {x : τ.den} {j : Nat} {u : Ty} {z : u.den} {ds : List Value}, proj τ x j = .data u z → FlatD E τ x ds →
    ∃ o cs, offT τ [.fld j] = some (o, u) ∧ FlatD E u z cs ∧ ∀ k v, cs[k]? = some v → ds[o + k]? = some v
  | .pair a b, x, 0, u, z, ds, h, hx => by
    obtain ⟨c1, c2, rfl, h1, h2⟩ := hx
    simp only [proj, V.data.injEq] at h
    obtain ⟨rfl, h⟩ := h
    have h := eq_of_heq h
    subst h
    refine ⟨0, c1, by simp [offT], h1, fun k v hv => ?_⟩
    have hk : k < c1.length := by
      rcases Nat.lt_or_ge k c1.length with h | h
      · exact h
      · rw [List.getElem?_eq_none h] at hv; cases hv
    rw [Nat.zero_add, List.getElem?_append_left hk]; exact hv
  | .pair a b, x, j + 1, u, z, ds, h, hx => by
    obtain ⟨c1, c2, rfl, h1, h2⟩ := hx
    simp only [proj] at h
    obtain ⟨o, cs, g1, g2, g3⟩ := proj_flat h h2
    refine ⟨a.size + o, cs, by simp [offT, g1], g2, fun k v hv => ?_⟩
    have hl := FlatD.length _ _ _ h1
    rw [List.getElem?_append_right (by omega), show a.size + o + k - c1.length = o + k by omega]
    exact g3 k v hv
  | .int _, _, _, _, _, _, h, _ => by simp [proj] at h
  | .bool, _, _, _, _, _, h, _ => by simp [proj] at h
  | .str, _, _, _, _, _, h, _ => by simp [proj] at h
  | .sl _, _, _, _, _, _, h, _ => by simp [proj] at h
  | .unit, _, _, _, _, _, h, _ => by simp [proj] at h
  | .opq, _, _, _, _, _, h, _ => by simp [proj] at h
  | .arr _ _, _, _, _, _, _, h, _ => by simp [proj] at h

theorem cell_arr {w : World} {b : Nat} {arr : Array Value} {ty : TypeId} {fr : Nat × Nat} (h : w.heap[b]? = some (.cells arr ty fr)) (j : Nat) : w.cell? ⟨b, j, none⟩ = arr.toList[j]? := by
  simp [World.cell?, h]


end
end Go.Bx
