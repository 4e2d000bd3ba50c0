/- A part of a framework that reads Go code as functions of plain data; or a law about such functions. -/
import Derived.Test.YthgnmgdhgmobpaaBxF
namespace Go.Bx
open Go Go.RowKit

section
variable {P : Program} {C : Ctx} {w0 : World} {I0 : Nat → Nat → Prop} {S : St} {a : Act} {w : World} {β : Nat → Option Nat}

/-- the outcome of an operation that leaves memory alone -/
def Gives (P : Program) (s : Sem Value) (w : World) (G : GE) (tm : Array Value) (v : V) : Prop := ∃ x, s.run P w = .ok x w ∧ AtV G tm v x

theorem intBin_run {G : GE} {tm : Array Value} (w : World) (t : TypeId) (op : BinOp) (k : IntKind) (x y : Int) {c : Prop} {i : Decidable c} {v : V} (h : intBin op k x y = some (.val c i v)) (hc : c)
    (hx : inR k x = true) : Gives P (binOp op t (.int k x) (.int k y)) w G tm v := by
  cases op <;> simp only [intBin, okR, ifR, Option.some.injEq, Res.val.injEq, reduceCtorEq] at h
  all_goals (obtain ⟨rfl, _, rfl⟩ := h)
  case add => exact ⟨_, by simp [binOp, Op.intArith], .mkInt (inR_wrap _ _)⟩
  case sub => exact ⟨_, by simp [binOp, Op.intArith], .mkInt (inR_wrap _ _)⟩
  case mul => exact ⟨_, by simp [binOp, Op.intArith], .mkInt (inR_wrap _ _)⟩
  case quo => exact ⟨_, by simp [binOp, Op.intDiv, hc], .mkInt (inR_wrap _ _)⟩
  case rem => exact ⟨_, by simp [binOp, Op.intDiv, hc], .mkInt (inR_tmod hx)⟩
  case and => exact ⟨_, by simp [binOp, Op.intBits]; rfl, .mkInt (inR_wrap _ _)⟩
  case or => exact ⟨_, by simp [binOp, Op.intBits]; rfl, .mkInt (inR_wrap _ _)⟩
  case xor => exact ⟨_, by simp [binOp, Op.intBits]; rfl, .mkInt (inR_wrap _ _)⟩
  case andNot => exact ⟨_, by simp only [binOp, ne_eq, not_true_eq_false, if_false, Op.intBits]; rfl, .mkInt (inR_wrap _ _)⟩
  case eql => exact ⟨_, by simp [binOp, Op.intCmp], .mkBool⟩
  case neq => exact ⟨_, by simp [binOp, Op.intCmp], .mkBool⟩
  case lss => exact ⟨_, by simp [binOp, Op.intCmp], .mkBool⟩
  case leq => exact ⟨_, by simp [binOp, Op.intCmp], .mkBool⟩
  case gtr => exact ⟨_, by simp [binOp, Op.intCmp], .mkBool⟩
  case geq => exact ⟨_, by simp [binOp, Op.intCmp], .mkBool⟩

theorem run_eqGuard_int (w : World) (op : BinOp) (t : TypeId) (x y : Operand) (k k' : IntKind) (a b : Int) : (eqGuard op t x y (.int k a) (.int k' b)).run P w = .ok () w := by
  unfold eqGuard; cases op <;> simp

/-- the guard of '==' on data -/
theorem run_eqGuard_data {E : Env} (w : World) (op : BinOp) {τ : Ty} {t : TypeId} (ht : TyOk P τ t) (x y : Operand) {p q : τ.den} {v u : Value} (hv : AtD E τ p v) (hu : AtD E τ q u) : (eqGuard op t x y v u).run P w = .ok () w := by
  have nag : ∀ {v u : Value}, (∀ cs, v ≠ .agg cs) → v ≠ .nilIface → (eqGuard op t x y v u).run P w = .ok () w := by
    intro v u h1 h2
    unfold eqGuard
    cases op <;> simp
    all_goals (split <;> first | (exact absurd rfl h2) | (exact absurd rfl (h1 _)) | simp)
  cases τ with
  | int k => have := (hv.one rfl).1; simp at this; subst this; exact nag (by simp) (by simp)
  | bool => have := hv.one rfl; simp [FlatD] at this; subst this; exact nag (by simp) (by simp)
  | str => obtain ⟨s, this, _⟩ := hv.one rfl; simp at this; subst this; exact nag (by simp) (by simp)
  | sl τ => rcases hv.one rfl with ⟨_, this⟩ | ⟨a, cap, css, this, _⟩ <;> (simp at this; subst this; exact nag (by simp) (by simp))
  | opq => exact (hv.one rfl).elim
  | arr n τ =>
    obtain ⟨xs, rfl, _⟩ := hv.agg rfl
    obtain ⟨ys, rfl, _⟩ := hu.agg rfl
    obtain ⟨e, _, _, _, hg⟩ := ht
    unfold eqGuard; cases op <;> simp [hg]
  | unit =>
    obtain ⟨xs, rfl, _⟩ := hv.agg rfl
    obtain ⟨ys, rfl, _⟩ := hu.agg rfl
    have hg : P.eqGuardType P.depth t = false := by
      obtain ⟨m, hm⟩ : ∃ m, P.depth = m + 1 := ⟨P.depth - 1, by simp [Program.depth]⟩
      rw [hm]; simp [Program.eqGuardType, ht.1]
    unfold eqGuard; cases op <;> simp [hg]
  | pair c d =>
    obtain ⟨xs, rfl, _⟩ := hv.agg rfl
    obtain ⟨ys, rfl, _⟩ := hu.agg rfl
    obtain ⟨fs, _, _, _, _, hg⟩ := ht
    unfold eqGuard; cases op <;> simp [hg]

theorem run_eq_of_equal (w : World) (t : TypeId) {E : Env} {τ : Ty} {p q : τ.den} {v u : Value} (hv : AtD E τ p v) (hu : AtD E τ q u) (hk : ∀ k, τ ≠ .int k) (hc : τ.cmp = true) {r : Bool} (h : (Op.equalIn 10000 t v u).run P w = .ok r w)
    (hs : τ = .str → ∀ s s', v = .string s → u = .string s' → r = (s.toList == s'.toList)) :
    (binOp .eql t v u).run P w = .ok (.bool r) w ∧ (binOp .neq t v u).run P w = .ok (.bool (!r)) w := by
  cases τ with
  | int k => exact absurd rfl (hk k)
  | bool =>
    have h1 := hv.one rfl; simp [FlatD] at h1; subst h1
    have h2 := hu.one rfl; simp [FlatD] at h2; subst h2
    constructor <;> simp [binOp, Op.equal, Op.maxDepth, h]
  | str =>
    obtain ⟨s, h1, _⟩ := hv.one rfl; simp at h1; subst h1
    obtain ⟨s', h2, _⟩ := hu.one rfl; simp at h2; subst h2
    have := hs rfl s s' rfl rfl
    constructor <;> simp [binOp, Op.stringOp, this]
  | sl τ => simp [Ty.cmp] at hc
  | opq => simp [Ty.cmp] at hc
  | arr n τ =>
    obtain ⟨xs, rfl, _⟩ := hv.agg rfl
    obtain ⟨ys, rfl, _⟩ := hu.agg rfl
    constructor <;> simp [binOp, Op.equal, Op.maxDepth, h]
  | unit =>
    obtain ⟨xs, rfl, _⟩ := hv.agg rfl
    obtain ⟨ys, rfl, _⟩ := hu.agg rfl
    constructor <;> simp [binOp, Op.equal, Op.maxDepth, h]
  | pair c d =>
    obtain ⟨xs, rfl, _⟩ := hv.agg rfl
    obtain ⟨ys, rfl, _⟩ := hu.agg rfl
    constructor <;> simp [binOp, Op.equal, Op.maxDepth, h]

theorem u8_beq (a b : UInt8) : (((a.toNat : Nat) : Int) == ((b.toNat : Nat) : Int)) = (a == b) := by
  by_cases h : a = b
  · subst h; simp
  · have : ¬ ((a.toNat : Nat) : Int) = ((b.toNat : Nat) : Int) := fun e => h (UInt8.toNat_inj.1 (by omega))
    rw [beq_eq_false_iff_ne.2 this, beq_eq_false_iff_ne.2 h]

theorem toList_data (s : ByteArray) : s.toList = s.data.toList := ByteArray.toList_eq s

theorem ltB_bytes : ∀ (x y : List UInt8), Op.bytesLess x y = ltB (x.map fun b => (b.toNat : Int)) (y.map fun b => (b.toNat : Int))
  | _, [] => by simp [Op.bytesLess, ltB]
  | [], _ :: _ => by simp [Op.bytesLess, ltB]
  | a :: x, b :: y => by
    have h1 : (decide (a < b)) = decide (((a.toNat : Nat) : Int) < ((b.toNat : Nat) : Int)) := by
      apply decide_eq_decide.2; rw [UInt8.lt_iff_toNat_lt]; omega
    simp only [Op.bytesLess, List.map_cons, ltB, ltB_bytes x y, u8_beq, h1]

theorem strBin_run {G : GE} {tm : Array Value} (w : World) (t : TypeId) (op : BinOp) {a b : List Int} {x y : Value} (hx : AtV G tm (.data .str a) x) (hy : AtV G tm (.data .str b) y) {c : Prop} {i : Decidable c} {v : V}
    (h : strBin op a b = some (.val c i v)) (hc : c) : Gives P (binOp op t x y) w G tm v := by
  simp only [AtV] at hx hy
  obtain ⟨s, e1, e2, e3⟩ := hx.one rfl
  obtain ⟨s', e4, e5, e6⟩ := hy.one rfl
  simp at e1 e4
  subst e1; subst e4; subst e2; subst e5
  have heq : (s.toList == s'.toList) = beqD .str (bytesOf s) (bytesOf s') := by
    rw [bytesOf_inj]; rfl
  have hlt : Op.bytesLess s.toList s'.toList = ltB (bytesOf s) (bytesOf s') := by rw [ltB_bytes, toList_data, toList_data]; rfl
  cases op <;> simp only [strBin, okR, ifR, Option.some.injEq, Res.val.injEq, reduceCtorEq] at h
  all_goals (obtain ⟨rfl, _, rfl⟩ := h)
  case add =>
    have hl : (bytesOf s).length = s.size := by simp [bytesOf]
    have hl' : (bytesOf s').length = s'.size := by simp [bytesOf]
    rw [hl, hl'] at hc
    have hc := Nat.le_of_ble_eq_true hc
    have hnot : ¬ ((s.size + s'.size : Nat) : Int) > IntKind.i64.max := by
      simp only [IntKind.max, IntKind.signed, IntKind.bits]; simp; omega
    refine ⟨.string (s ++ s'), by simp only [binOp, Op.stringOp, if_neg hnot, Sem.run_pure], ?_⟩
    simp only [AtV]
    refine AtD.ofFlat ⟨_, rfl, ?_, ?_⟩ rfl
    · simp [bytesOf]
    · simp only [ByteArray.size_append, maxLen]; omega
  case eql => exact ⟨_, by simp only [binOp, Op.stringOp, heq, Sem.run_pure], .mkBool⟩
  case neq => exact ⟨_, by simp only [binOp, Op.stringOp, heq, Sem.run_pure], .mkBool⟩
  case lss => exact ⟨_, by simp only [binOp, Op.stringOp, hlt, Sem.run_pure], .mkBool⟩
  case leq => exact ⟨_, by simp only [binOp, Op.stringOp, hlt, heq, Sem.run_pure], .mkBool⟩
  case gtr => exact ⟨_, by simp only [binOp, Op.stringOp, hlt, heq, Sem.run_pure], .mkBool⟩
  case geq => exact ⟨_, by simp only [binOp, Op.stringOp, hlt, Sem.run_pure], .mkBool⟩

theorem binV_run {G : GE} {tm : Array Value} (hC : CtxOk P C) (w : World) (op : BinOp) (xt : TypeId) (xo yo : Operand) {vx vy : V} {x y : Value} (hx : AtV G tm vx x) (hy : AtV G tm vy y) {c : Prop} {i : Decidable c} {v : V}
    (h : binV C op xt vx vy = some (.val c i v)) (hc : c) : Gives P (do eqGuard op xt xo yo x y; binOp op xt x y) w G tm v := by
  unfold binV at h
  split at h
  · rename_i k p k' q
    obtain ⟨rfl, rx⟩ := hx.int
    obtain ⟨rfl, ry⟩ := hy.int
    split at h
    · simp only [ifR, Option.some.injEq, Res.val.injEq] at h
      obtain ⟨rfl, _, rfl⟩ := h
      refine ⟨.int k (shlI k p q), ?_, .mkInt (inR_wrap _ _)⟩
      simp only [Sem.run_bind, run_eqGuard_int, Result.andThen_ok]
      simp [binOp, Op.shift, Int.not_lt.2 hc, shlI]
    · simp only [ifR, Option.some.injEq, Res.val.injEq] at h
      obtain ⟨rfl, _, rfl⟩ := h
      refine ⟨.int k (shrI k p q), ?_, .mkInt (inR_fdiv _ rx)⟩
      simp only [Sem.run_bind, run_eqGuard_int, Result.andThen_ok]
      simp [binOp, Op.shift, Int.not_lt.2 hc, shrI]
    · split at h
      · rename_i hk
        subst hk
        obtain ⟨z, hz, haz⟩ := intBin_run (P := P) (G := G) (tm := tm) w xt op k p q h hc rx
        exact ⟨z, by simp only [Sem.run_bind, run_eqGuard_int, Result.andThen_ok, hz], haz⟩
      · cases h
  · rename_i p q
    obtain ⟨z, hz, haz⟩ := strBin_run (P := P) w xt op hx hy h hc
    have hgd : (eqGuard op xt xo yo x y).run P w = .ok () w := by
      simp only [AtV] at hx hy
      obtain ⟨s, e1, _⟩ := hx.one rfl
      obtain ⟨s', e4, _⟩ := hy.one rfl
      simp at e1 e4
      subst e1; subst e4
      unfold eqGuard; cases op <;> simp
    exact ⟨z, by simp only [Sem.run_bind, hgd, Result.andThen_ok, hz], haz⟩
  · rename_i t p t' q hne hne2
    split at h
    · cases h
    · rename_i q' hq
      obtain ⟨rfl, rfl⟩ := castD_some hq
      split at h
      · rename_i hl
        obtain ⟨hl, hcmp, hdep⟩ := hl
        have htk := hC.ty _ _ hl
        have hdep' : t'.dep ≤ 10000 := Nat.le_of_ble_eq_true hdep
        simp only [AtV] at hx hy
        have hk : ∀ k, t' ≠ .int k := fun k e => by subst e; exact hne k p k q' rfl HEq.rfl rfl HEq.rfl
        have he := eq_data (P := P) w t' xt 10000 p q' x y htk hcmp hdep' hx hy
        have hg := fun op => run_eqGuard_data (P := P) w op htk xo yo hx hy
        have hb := run_eq_of_equal (P := P) w xt hx hy hk hcmp he (fun e s s' e1 e2 => by
          subst e; subst e1; subst e2
          obtain ⟨s1, g1, g2, _⟩ := hx.one rfl
          obtain ⟨s2, g3, g4, _⟩ := hy.one rfl
          simp at g1 g3; subst g1; subst g3
          rw [bytesOf_inj]; subst g2; subst g4; rfl)
        split at h
        · simp only [okR, Option.some.injEq, Res.val.injEq] at h
          obtain ⟨_, _, rfl⟩ := h
          exact ⟨_, by simp only [Sem.run_bind, hg, Result.andThen_ok, hb.1], .mkBool⟩
        · simp only [okR, Option.some.injEq, Res.val.injEq] at h
          obtain ⟨_, _, rfl⟩ := h
          exact ⟨_, by simp only [Sem.run_bind, hg, Result.andThen_ok, hb.2], .mkBool⟩
        · cases h
      · cases h
  · cases h

end
end Go.Bx
