/- A part of a framework that reads Go code as functions of plain data; or a law about such functions. -/
import Derived.Test.YtebnjboimekljaaCxF
namespace Go.Bx
set_option linter.unusedVariables false
set_option linter.unusedSimpArgs false
open Go Go.RowKit

def ArgsAt (E : Env) : (t : Ty) → t.den → List Value → Prop
  | .unit, _, vs => vs = []
  | .pair a b, x, vs => ∃ v r, vs = v :: r ∧ AtD E a x.1 v ∧ ArgsAt E b x.2 r
  | _, _, _ => False

def OutAt (E : Env) (F : Fn) (r : F.rs.den) (v : Value) : Prop := match F.multi with
  | false => AtD E F.rs r v
  | true => ∃ vs, v = .tuple vs ∧ ArgsAt E F.rs r vs.toList

/-- what is promised of a Go function: wherever F answers, the call hands back what F says, and nothing that was there has turned -/
def Con (P : Program) (f : FuncId) (F : Fn) : Prop :=
  ∀ (w : World) (I : Nat → Nat → Prop) (x : F.ps.den) (r : F.rs.den) (args : Array Value), (∀ b m, I b m → b < w.heap.size) → F.run x = some r → ArgsAt ⟨w, I⟩ F.ps x args.toList →
    Calls P f args w fun e w' => ∃ v, e = .returned v ∧ Below w.heap.size w w' ∧ OutAt ⟨w', fun b m => I b m ∨ (w.heap.size ≤ b ∧ b < w'.heap.size)⟩ F r v

/-- a Go function with a body that the model does not treat on its own -/
def Named (P : Program) (f : FuncId) : Prop := ∃ fn, P.funcs[f]? = some fn ∧ (fn.name == "runtime.NumGoroutine") = false ∧ fn.body.isNone = false

/-- a function that the model runs in place -/
def ExtOk (P : Program) (f : FuncId) (F : Fn) : Prop :=
  ∀ (w : World) (I : Nat → Nat → Prop) (x : F.ps.den) (r : F.rs.den) (args : Array Value), F.run x = some r → ArgsAt ⟨w, I⟩ F.ps x args.toList → ∃ v, (callFunc f args).run P w = .ok (.value v) w ∧ OutAt ⟨w, I⟩ F r v

def Callee (P : Program) (f : FuncId) (F : Fn) : Prop := (Con P f F ∧ Named P f) ∨ ExtOk P f F

/-- the start of a call: what is lent is what the names stand for -/
def mkG (w : World) (β : Nat → Option Nat) (σ : Nat → Value) (hp : Heap) (I0 : Nat → Nat → Prop) : GE :=
  ⟨w, β, σ, hp, w.heap.size, fun b => ∃ id blk, nthB hp id = some blk ∧ β id = some b, I0⟩

/-- a state of the same function -/
def GE.at (G0 : GE) (w : World) (β : Nat → Option Nat) (σ : Nat → Value) (hp : Heap) : GE := ⟨w, β, σ, hp, G0.n0, G0.Bo, G0.I0⟩

/-- what is promised of a function that changes blocks which it is handed -/
def SOk (P : Program) (f : FuncId) (h : List V → Heap → Option Sh) : Prop :=
  ∀ (args : List V) (hp : Heap) (sh : Sh) (y : sh.Y), h args hp = some sh → sh.o = some y →
    ∀ (w : World) (β : Nat → Option Nat) (σ : Nat → Value) (I0 : Nat → Nat → Prop) (vals : Array Value), (∀ b m, I0 b m → b < w.heap.size) → HRel (mkG w β σ hp I0) → AtL (mkG w β σ hp I0) #[] args vals.toList →
      Calls P f vals w fun e w' => ∃ v β' σ', e = .returned v ∧ Tr (mkG w β σ hp I0) ((mkG w β σ hp I0).at w' β' σ' (sh.f y).2) ∧ HRel ((mkG w β σ hp I0).at w' β' σ' (sh.f y).2) ∧ AtV ((mkG w β σ hp I0).at w' β' σ' (sh.f y).2) #[] (sh.f y).1 v

/-- a method of a type, found by its name -/
def InvOk (P : Program) (t : Nat) (m : String) (f : FuncId) : Prop :=
  ∀ (w : World) (v : Value) (args : Array Value), (callMethod (.iface t v) m args).run P w = (callFunc f (#[v] ++ args)).run P w

structure CtxOk (P : Program) (C : Ctx) : Prop where
  ty : ∀ i τ, look C.ty i = some τ → TyOk P τ i
  ptr : ∀ i e, look C.ptr i = some e → P.underlying i = some (.pointer e)
  fn : ∀ f F, C.fn f = some F → Callee P f F
  sh : ∀ f, C.sh f = none
  inv : ∀ t m f, C.inv t m = some f → InvOk P t m f

/-- the state of a function, told by the abstract one -/
structure Rel (G0 : GE) (S : St) (a : Act) (w : World) (β : Nat → Option Nat) (σ : Nat → Value) : Prop where
  tr : Tr G0 (G0.at w β σ S.hp)
  ok : HRel (G0.at w β σ S.hp)
  defers : a.defers = []
  size : a.tmps.size = S.fr.length
  fr : ∀ i v, a.tmps[i]? = some v → AtV (G0.at w β σ S.hp) a.tmps (nth S.fr i) v

section
variable {P : Program} {C : Ctx} {G0 : GE} {S : St} {a : Act} {w : World} {β : Nat → Option Nat} {σ : Nat → Value}

theorem nth_of_ge : ∀ {l : List V} {i : Nat}, l.length ≤ i → nth l i = .any
  | [], _, _ => rfl
  | _ :: l, 0, h => by simp at h
  | _ :: l, i + 1, h => nth_of_ge (l := l) (by simpa using h)

theorem nth_eq : ∀ {l : List V} {i : Nat} (h : i < l.length), nth l i = l[i]
  | _ :: _, 0, _ => rfl
  | _ :: l, i + 1, h => by simpa [nth] using nth_eq (l := l) (i := i) (by simpa using h)

theorem AtV.any {G : GE} {tm : Array Value} {x : Value} : AtV G tm .any x := by simp [AtV]

theorem ofConst_at (G : GE) (tm : Array Value) (v : Value) : AtV G tm (ofConst v) v := by
  unfold ofConst
  split
  · split
    · rename_i h; simp only [AtV]; exact AtD.ofFlat ⟨rfl, h⟩ rfl
    · exact .any
  · simp only [AtV]; exact AtD.ofFlat rfl rfl
  · simp [AtV]
  · simp [AtV]
  · rename_i s
    split
    · rename_i h
      simp only [AtV]; exact AtD.ofFlat ⟨s, rfl, rfl, Nat.le_of_ble_eq_true h⟩ rfl
    · exact .any
  · exact .any

theorem Rel.ev (h : Rel G0 S a w β σ) (x : Operand) : AtV (G0.at w β σ S.hp) a.tmps (ev S.fr x) (a.eval x) := by
  cases x with
  | tmp t =>
    simp only [Bx.ev, Act.eval]
    by_cases ht : t < a.tmps.size
    · have hx : a.tmps[t]? = some a.tmps[t] := Array.getElem?_eq_getElem ht
      have := h.fr t _ hx
      rw [Array.getD_eq_getD_getElem?, hx]; exact this
    · rw [nth_of_ge (by rw [← h.size]; exact Nat.not_lt.1 ht)]; exact .any
  | const v => exact ofConst_at _ _ v
  | func f => simp only [Bx.ev, Act.eval, AtV]; exact ⟨#[], #[], rfl, by simp [AtL], by simp [AtL]⟩
  | global g => exact .any

/-- a guard that says yes -/
def Yes (g : Option Gd) (tm : Array Value) : Prop := ∀ gd, g = some gd → tm[gd.d]? = some (.bool gd.want)

theorem AtV.sane {G : GE} {tm tm' : Array Value} {v : V} {x : Value} (h : AtV G tm v x) : AtV G tm' (Bx.sane v) x := by
  cases v with
  | opt d w u => exact .any
  | _ => simp only [Bx.sane, AtV] at h ⊢ <;> exact h

theorem AtV.saneT {C : Ctx} {ty : Nat} {G : GE} {tm tm' : Array Value} {v : V} {x : Value} (h : AtV G tm v x) : AtV G tm' (Bx.saneT C ty v) x := by
  cases v with
  | snil =>
    simp only [Bx.saneT]
    split
    · simp only [AtV] at h ⊢
      exact ⟨.inl ⟨rfl, by rw [h]⟩, none, 0, h⟩
    · exact h
  | _ => exact h.sane

theorem AtV.dd {G : GE} {tm : Array Value} {v : V} {x : Value} (h : AtV G tm v x) : AtV G tm (Bx.dd v) x := by
  cases v with
  | full t l => simp only [Bx.dd, AtV] at h ⊢; exact AtD.ofFlat h.1 rfl
  | _ => exact h

theorem un_at {G : GE} {tm : Array Value} {g : Option Gd} (hg : Yes g tm) {v : V} {x : Value} (h : AtV G tm v x) : AtV G tm (un g v) x := by
  cases v with
  | opt d wt u =>
    cases g with
    | none => exact .any
    | some gd =>
      simp only [un]
      split
      · rename_i hd
        simp only [Bool.and_eq_true, beq_iff_eq] at hd
        have hd1 : gd.d = d := Nat.eq_of_beq_eq_true hd.1
        have := hg gd rfl
        rw [hd1, hd.2] at this
        simp only [AtV] at h
        exact (h.1 this).sane
      · exact .any
  | _ => simpa [un] using h

theorem Rel.un (h : Rel G0 S a w β σ) {g : Option Gd} (hg : Yes g a.tmps) (x : Operand) : AtV (G0.at w β σ S.hp) a.tmps (un g (Bx.ev S.fr x)) (a.eval x) := un_at hg (h.ev x)

theorem Rel.ud (h : Rel G0 S a w β σ) {g : Option Gd} (hg : Yes g a.tmps) (x : Operand) : AtV (G0.at w β σ S.hp) a.tmps (Bx.dd (Bx.un g (Bx.ev S.fr x))) (a.eval x) := (h.un hg x).dd

theorem AtV.int {G : GE} {tm : Array Value} {k : IntKind} {n : Int} {x : Value} (h : AtV G tm (.data (.int k) n) x) : x = .int k n ∧ inR k n = true := by
  simp only [AtV] at h
  have := (h.one rfl)
  simp [FlatD] at this
  exact this
theorem AtV.bool {G : GE} {tm : Array Value} {b : Bool} {x : Value} (h : AtV G tm (.data .bool b) x) : x = .bool b := by
  simp only [AtV] at h
  have := (h.one rfl)
  simpa [FlatD] using this
theorem AtV.mkInt {G : GE} {tm : Array Value} {k : IntKind} {n : Int} (h : inR k n = true) : AtV G tm (.data (.int k) n) (.int k n) := by
  simp only [AtV]; exact AtD.ofFlat ⟨rfl, h⟩ rfl
theorem AtV.mkBool {G : GE} {tm : Array Value} {b : Bool} : AtV G tm (.data .bool b) (.bool b) := by
  simp only [AtV]; exact AtD.ofFlat rfl rfl

theorem inR_iff {k : IntKind} {n : Int} : inR k n = true ↔ k.min ≤ n ∧ n ≤ k.max := by simp [inR]

theorem inR_wrap (k : IntKind) (n : Int) : inR k (k.wrap n) = true := by
  rw [inR_iff]
  cases k <;> simp [IntKind.wrap, IntKind.min, IntKind.max, IntKind.bits, IntKind.signed] <;> (try split) <;> omega

theorem inR_tmod {k : IntKind} {x y : Int} (h : inR k x = true) : inR k (x.tmod y) = true := by
  rw [inR_iff] at h ⊢
  have h1 : (x.tmod y).natAbs ≤ x.natAbs := by rw [Int.natAbs_tmod]; exact Nat.mod_le _ _
  have h2 : 0 ≤ x → 0 ≤ x.tmod y := fun hx => Int.tmod_nonneg _ hx
  have h3 : x ≤ 0 → x.tmod y ≤ 0 := fun hx => by
    have := Int.tmod_nonneg y (a := -x) (by omega)
    rw [Int.neg_tmod] at this; omega
  have h0 : k.min ≤ 0 ∧ 0 ≤ k.max := by cases k <;> decide
  rcases Int.le_total 0 x with hx | hx
  · have := h2 hx; constructor <;> omega
  · have := h3 hx; constructor <;> omega

theorem inR_fdiv {k : IntKind} {x : Int} (n : Nat) (h : inR k x = true) : inR k (x.fdiv (2 ^ n)) = true := by
  rw [inR_iff] at h ⊢
  have hp : (0 : Int) < 2 ^ n := Int.pow_pos (by omega)
  rw [Int.fdiv_eq_ediv_of_nonneg _ (by omega)]
  have h0 : k.min ≤ 0 ∧ 0 ≤ k.max := by cases k <;> decide
  have hp1 : (1 : Int) ≤ 2 ^ n := by omega
  rcases Int.le_total 0 x with hx | hx
  · have a1 := Int.ediv_nonneg hx (Int.le_of_lt hp)
    have a2 := Int.ediv_le_self (2 ^ n) hx
    omega
  · have a1 : x / 2 ^ n ≤ 0 := Int.ediv_nonpos_of_nonpos_of_neg hx hp |> fun h => h
    have a2 : x ≤ x / 2 ^ n := by
      rw [Int.le_ediv_iff_mul_le hp]
      have := Int.mul_nonneg (a := -x) (b := 2 ^ n - 1) (by omega) (by omega)
      rw [Int.mul_sub, Int.neg_mul] at this
      omega
    omega

end
end Go.Bx
