/- A part of a framework that reads Go code as functions of plain data; or a law about such functions. -/
import Derived.Test.YtebnjboimekljaaCxA
namespace Go.Bx
set_option linter.unusedVariables false
set_option linter.unusedSimpArgs false
open Go Go.RowKit

/-- a world, and which first cells of a block will not change any more -/
structure Env where
  w : World
  im : Nat → Nat → Prop

def Blk.im (m : Nat) : Blk → Prop
  | .cell t _ z => z = true ∧ m ≤ t.size
  | .buf t l _ z => z = true ∧ m ≤ l.length * t.size
  | .map _ _ _ => False

/-- what a function's state is told by: the world; the blocks and slices that its names stand for; what was lent, and what stood for good when it began -/
structure GE where
  w : World
  β : Nat → Option Nat
  σ : Nat → Value
  hp : Heap
  n0 : Nat
  Bo : Nat → Prop
  I0 : Nat → Nat → Prop

def GE.named (G : GE) (b : Nat) : Prop := ∃ id blk, nthB G.hp id = some blk ∧ G.β id = some b

def GE.im (G : GE) (b m : Nat) : Prop :=
  (G.I0 b m ∨ G.n0 ≤ b ∨ G.Bo b) ∧ b < G.w.heap.size ∧ ∀ id blk, nthB G.hp id = some blk → G.β id = some b → blk.im m

def GE.env (G : GE) : Env := ⟨G.w, G.im⟩

def All2 {α β : Type} (R : α → β → Prop) : List α → List β → Prop
  | [], [] => True
  | a :: l, b :: m => R a b ∧ All2 R l m
  | _, _ => False

def FlatD (E : Env) : (t : Ty) → t.den → List Value → Prop
  | .int k, n, cs => cs = [.int k n] ∧ inR k n = true
  | .bool, b, cs => cs = [.bool b]
  | .str, l, cs => ∃ s, cs = [.string s] ∧ bytesOf s = l ∧ s.size ≤ maxLen
  | .arr n t, l, cs => l.length = n ∧ ∃ css : List (List Value), cs = css.flatten ∧ All2 (FlatD E t) l css
  | .sl t, l, cs => (l = ([] : List t.den) ∧ cs = [.slice none 0 0]) ∨
      ∃ (a : Addr) (cap : Nat) (css : List (List Value)), cs = [.slice (some a) (l : List t.den).length cap] ∧ (a.spot = none ∨ l = ([] : List t.den)) ∧ (l : List t.den).length ≤ cap ∧ cap ≤ maxLen ∧
        All2 (FlatD E t) l css ∧ (css.flatten = [] ∨ ∃ m, a.off + css.flatten.length ≤ m ∧ E.im a.block m) ∧ ∀ j v, css.flatten[j]? = some v → E.w.cell? ⟨a.block, a.off + j, none⟩ = some v
  | .unit, _, cs => cs = []
  | .pair a b, x, cs => ∃ c1 c2, cs = c1 ++ c2 ∧ FlatD E a x.1 c1 ∧ FlatD E b x.2 c2
  | .opq, _, _ => False

structure Ext (E E' : Env) : Prop where
  im : ∀ b m, E.im b m → E'.im b m
  cell : ∀ b m, E.im b m → ∀ j, j < m → E'.w.cell? ⟨b, j, none⟩ = E.w.cell? ⟨b, j, none⟩

theorem All2.mono {α β : Type} {R R' : α → β → Prop} (h : ∀ a b, R a b → R' a b) : ∀ {l : List α} {m : List β}, All2 R l m → All2 R' l m
  | [], [], _ => trivial
  | _ :: _, _ :: _, ⟨h1, h2⟩ => ⟨h _ _ h1, All2.mono h h2⟩

theorem All2.length {α β : Type} {R : α → β → Prop} : ∀ {l : List α} {m : List β}, All2 R l m → l.length = m.length
  | [], [], _ => rfl
  | _ :: _, _ :: _, ⟨_, h2⟩ => by simp [All2.length h2]

theorem All2.get {α β : Type} {R : α → β → Prop} : ∀ {l : List α} {m : List β}, All2 R l m → ∀ (i : Nat) (hi : i < l.length), ∃ hm : i < m.length, R l[i] m[i]
  | _ :: _, _ :: _, ⟨h1, _⟩, 0, _ => ⟨by simp, h1⟩
  | _ :: _, _ :: _, ⟨_, h2⟩, i + 1, hi => by
    obtain ⟨hm, h⟩ := All2.get h2 i (by simpa using hi)
    exact ⟨by simpa using hm, by simpa using h⟩

theorem All2.set {α β : Type} {R : α → β → Prop} : ∀ {l : List α} {m : List β}, All2 R l m → ∀ (i : Nat) (a : α) (b : β), R a b → All2 R (l.set i a) (m.set i b)
  | [], [], _, _, _, _, _ => trivial
  | _ :: _, _ :: _, ⟨_, h2⟩, 0, _, _, h => ⟨h, h2⟩
  | _ :: _, _ :: _, ⟨h1, h2⟩, i + 1, a, b, h => ⟨h1, All2.set h2 i a b h⟩

theorem FlatD.ext {E E' : Env} (h : Ext E E') : ∀ (t : Ty) (x : t.den) (cs : List Value), FlatD E t x cs → FlatD E' t x cs
  | .int _, _, _, hx => hx
  | .bool, _, _, hx => hx
  | .str, _, _, hx => hx
  | .arr _ t, _, _, ⟨hl, css, hc, ha⟩ => ⟨hl, css, hc, ha.mono fun a b hab => FlatD.ext h t a b hab⟩
  | .sl t, _, _, hx => by
    rcases hx with hx | ⟨a, cap, css, hc, hs, hl, hcap, ha, hi, hcell⟩
    · exact .inl hx
    · refine .inr ⟨a, cap, css, hc, hs, hl, hcap, ha.mono fun a b hab => FlatD.ext h t a b hab, hi.imp id (fun ⟨m, hm, hi⟩ => ⟨m, hm, h.im _ _ hi⟩), fun j v hj => ?_⟩
      have hjl : j < css.flatten.length := by
        rcases Nat.lt_or_ge j css.flatten.length with h' | h'
        · exact h'
        · rw [List.getElem?_eq_none h'] at hj; cases hj
      rcases hi with hi | ⟨m, hm, hi⟩
      · rw [hi] at hj; simp at hj
      · rw [h.cell _ _ hi _ (by omega)]; exact hcell j v hj
  | .unit, _, _, hx => hx
  | .pair a b, x, _, ⟨c1, c2, hc, h1, h2⟩ => ⟨c1, c2, hc, FlatD.ext h a x.1 c1 h1, FlatD.ext h b x.2 c2 h2⟩
  | .opq, _, _, hx => hx

theorem All2.flat_length {α : Type} {R : α → List Value → Prop} {n : Nat} (h : ∀ a cs, R a cs → cs.length = n) : ∀ {l : List α} {css : List (List Value)}, All2 R l css → css.flatten.length = l.length * n
  | [], [], _ => by simp
  | _ :: l, _ :: _, ⟨h1, h2⟩ => by
    have := All2.flat_length h h2
    simp only [List.flatten_cons, List.length_append, List.length_cons, this, h _ _ h1, Nat.add_mul]
    omega

theorem FlatD.length {E : Env} : ∀ (t : Ty) (x : t.den) (cs : List Value), FlatD E t x cs → cs.length = t.size
  | .int _, _, _, hx => by simp [hx.1, Ty.size]
  | .bool, _, _, hx => by simp only [FlatD] at hx; simp [hx, Ty.size]
  | .str, _, _, ⟨s, hc, _⟩ => by simp [hc, Ty.size]
  | .arr n t, l, cs, ⟨hl, css, hc, ha⟩ => by
    rw [hc, All2.flat_length (fun a cs h => FlatD.length t a cs h) ha]
    simp only [Ty.size]; rw [hl]
  | .sl t, _, _, hx => by
    rcases hx with ⟨_, hx⟩ | ⟨a, cap, css, hc, _⟩
    · simp [hx, Ty.size]
    · simp [hc, Ty.size]
  | .unit, _, _, hx => by simp only [FlatD] at hx; simp [hx, Ty.size]
  | .pair a b, x, _, ⟨c1, c2, hc, h1, h2⟩ => by
    have e1 := FlatD.length a x.1 c1 h1
    have e2 := FlatD.length b x.2 c2 h2
    simp [hc, e1, e2, Ty.size]
  | .opq, _, _, hx => hx.elim

/-- a cell's value: neither an aggregate nor a tuple -/
def oneCell (v : Value) : Prop := v.cells = #[v] ∧ (∀ vs, v ≠ .tuple vs) ∧ (∀ vs, v ≠ .agg vs)

theorem mem_flatten_all2 {α : Type} {R : α → List Value → Prop} {p : Value → Prop} (h : ∀ a cs, R a cs → ∀ v ∈ cs, p v) : ∀ {l : List α} {css : List (List Value)}, All2 R l css → ∀ v ∈ css.flatten, p v
  | [], [], _, v, hv => by simp at hv
  | _ :: _, _ :: _, ⟨h1, h2⟩, v, hv => by
    simp only [List.flatten_cons, List.mem_append] at hv
    rcases hv with hv | hv
    · exact h _ _ h1 v hv
    · exact mem_flatten_all2 h h2 v hv

theorem FlatD.cell {E : Env} : ∀ (t : Ty) (x : t.den) (cs : List Value), FlatD E t x cs → ∀ v ∈ cs, oneCell v
  | .int _, _, _, hx, v, hv => by rw [hx.1] at hv; simp at hv; subst hv; simp [oneCell, Value.cells]
  | .bool, _, _, hx, v, hv => by simp only [FlatD] at hx; rw [hx] at hv; simp at hv; subst hv; simp [oneCell, Value.cells]
  | .str, _, _, ⟨s, hc, _⟩, v, hv => by rw [hc] at hv; simp at hv; subst hv; simp [oneCell, Value.cells]
  | .arr n t, l, cs, ⟨hl, css, hc, ha⟩, v, hv => by
    rw [hc] at hv
    exact mem_flatten_all2 (fun a cs h => FlatD.cell t a cs h) ha v hv
  | .sl t, _, _, hx, v, hv => by
    rcases hx with ⟨_, hx⟩ | ⟨a, cap, css, hc, _⟩
    · rw [hx] at hv; simp at hv; subst hv; simp [oneCell, Value.cells]
    · rw [hc] at hv; simp at hv; subst hv; simp [oneCell, Value.cells]
  | .unit, _, _, hx, v, hv => by simp only [FlatD] at hx; simp [hx] at hv
  | .pair a b, x, _, ⟨c1, c2, hc, h1, h2⟩, v, hv => by
    rw [hc, List.mem_append] at hv
    rcases hv with hv | hv
    · exact FlatD.cell a x.1 c1 h1 v hv
    · exact FlatD.cell b x.2 c2 h2 v hv
  | .opq, _, _, hx, _, _ => hx.elim

/-- data as a value -/
def AtD (E : Env) (t : Ty) (x : t.den) (v : Value) : Prop :=
  match t.isAgg with
  | true => ∃ cs, v = .agg cs ∧ FlatD E t x cs.toList
  | false => FlatD E t x [v]

def RefAt (E : GE) (id ver : Nat) (p : List Step) (v : Value) : Prop := match nthB E.hp id with
  | some (.cell t _ _) => ∃ b o u, E.β id = some b ∧ offT t p = some (o, u) ∧ v = .pointer (some ⟨b, o, none⟩)
  | some (.buf t l ver' _) => ver ≤ ver' ∧ (∃ a, v = .pointer (some a)) ∧ (ver = ver' → ∃ b i q o u, p = .idx i :: q ∧ E.β id = some b ∧ 0 ≤ i ∧ i.toNat < l.length ∧ offT t q = some (o, u) ∧ v = .pointer (some ⟨b, i.toNat * t.size + o, none⟩))
  | _ => False

def AppAt (E : GE) (id ver : Nat) (v : Value) : Prop := match nthB E.hp id with
  | some (.buf _ _ ver' _) => ver ≤ ver' ∧ (∃ a n c, v = .slice a n c) ∧ (ver = ver' → v = E.σ id)
  | _ => False

def ViewAt (E : GE) (id : Nat) (p : List Step) (t : Ty) (n : Nat) (lo hi : Int) (v : Value) : Prop := match nthB E.hp id with
  | some (.cell c _ _) => ∃ b o, E.β id = some b ∧ offT c p = some (o, .arr n t) ∧ 0 ≤ lo ∧ lo ≤ hi ∧ hi ≤ (n : Int) ∧ n ≤ maxLen ∧ v = .slice (some (if lo.toNat = n then ⟨b, o, none⟩ else ⟨b, o + lo.toNat * t.size, none⟩)) (hi.toNat - lo.toNat) (n - lo.toNat)
  | _ => False

def MapAt (E : GE) (id : Nat) (v : Value) : Prop := match nthB E.hp id with
  | some (.map _ _ _) => ∃ b, E.β id = some b ∧ v = .map (some b)
  | _ => False

def V.tree : V → Bool
  | .data _ _ => true
  | .agg _ _ => true
  | _ => false

/-- a value where one of a type is to stand -/
structure Shp (a : Ty) (v : V) (x : Value) : Prop where
  tree : a.isAgg = true → v.tree = true
  agg : a.isAgg = true → ∃ c, x = .agg c
  one : a.isAgg = false → oneCell x
  size : x.cells.size = a.size
  data : ∀ t y, v = .data t y → t = a
  part : ∀ t l, v = .agg t l → t = a

mutual
def AtV (E : GE) (tm : Array Value) : V → Value → Prop
  | .any, _ => True
  | .data t x, v => AtD E.env t x v
  | .nilp, v => v = .pointer none
  | .snil, v => v = .slice none 0 0
  | .ref id ver p, v => RefAt E id ver p v
  | .iref t x, v => ∃ a ds, v = .pointer (some a) ∧ a.spot = none ∧ (ds = [] ∨ ∃ m, a.off + ds.length ≤ m ∧ E.im a.block m) ∧ (∀ j u, ds[j]? = some u → E.w.cell? ⟨a.block, a.off + j, none⟩ = some u) ∧ FlatD E.env t x ds
  | .tup l, v => ∃ vs, v = .tuple vs ∧ AtL E #[] l vs.toList
  | .opt d w u, v => (tm[d]? = some (.bool w) → AtV E #[] u v) ∧ (tm[d]? ≠ some (.bool w) → v = undef)
  | .fn f a b, v => ∃ xs ys, v = .func (.func f) xs ys ∧ AtL E #[] a xs.toList ∧ AtL E #[] b ys.toList
  | .full t l, v => FlatD E.env (.sl t) l [v] ∧ ∃ a n, v = .slice a n n
  | .app id ver, v => AppAt E id ver v
  | .view id p t n lo hi, v => ViewAt E id p t n lo hi v
  | .agg t l, v => ∃ cs, v = .agg cs ∧ FlatL E t l cs.toList
  | .ifc t u, v => ∃ x, v = .iface t x ∧ AtV E #[] u x
  | .map id, v => MapAt E id v
def AtL (E : GE) (tm : Array Value) : List V → List Value → Prop
  | [], [] => True
  | v :: l, x :: m => AtV E tm v x ∧ AtL E tm l m
  | _, _ => False
def FlatL (E : GE) : Ty → List V → List Value → Prop
  | t, [], cs => uncons t = none ∧ t.isAgg = true ∧ cs = []
  | t, v :: l, cs => ∃ a r x cs', uncons t = some (a, r) ∧ cs = x.cells.toList ++ cs' ∧ Shp a v x ∧ AtV E #[] v x ∧ FlatL E r l cs'
end

/-- the cells of a value of a type -/
def FlatV (E : GE) (t : Ty) (v : V) (cs : List Value) : Prop := ∃ x, cs = x.cells.toList ∧ Shp t v x ∧ AtV E #[] v x

def BufA (E : GE) (id : Nat) (t : Ty) (l : List t.den) : Prop := ∃ b arr ty css cap rest, E.β id = some b ∧ E.σ id = .slice (some ⟨b, 0, none⟩) l.length cap ∧ E.w.heap[b]? = some (.cells arr ty (0, 0)) ∧
  All2 (FlatD E.env t) l css ∧ arr.toList = css.flatten ++ rest ∧ arr.size = cap * t.size ∧ l.length ≤ cap ∧ cap ≤ maxLen

def BufB (E : GE) (id : Nat) (t : Ty) (l : List t.den) (z : Bool) : Prop := E.β id = none ∧ (z = true ∨ l = []) ∧ FlatD E.env (.sl t) l [E.σ id] ∧ ∃ a n, E.σ id = .slice a n n

def EntOk (E : Env) (k v : Ty) (p : k.den × v.den) (e : MapEntry) : Prop := AtD E k p.1 e.key ∧ AtD E v p.2 e.val

def BlkOk (E : GE) (id : Nat) : Blk → Prop
  | .cell t v _ => ∃ b arr ty, E.β id = some b ∧ E.w.heap[b]? = some (.cells arr ty (0, 0)) ∧ FlatV E t v arr.toList
  | .buf t l _ z => BufA E id t l ∨ BufB E id t l z
  | .map k v l => ∃ b es clock, E.β id = some b ∧ E.w.heap[b]? = some (.map es clock) ∧ All2 (EntOk E.env k v) l es.toList ∧ es.toList.Pairwise (fun a b => a.born < b.born) ∧ ∀ e ∈ es.toList, e.born < clock

structure HRel (G : GE) : Prop where
  blk : ∀ id blk, nthB G.hp id = some blk → BlkOk G id blk
  inj : ∀ id id' blk blk' b, nthB G.hp id = some blk → nthB G.hp id' = some blk' → G.β id = some b → G.β id' = some b → id = id'
  own : ∀ b, G.named b → G.n0 ≤ b ∨ G.Bo b
  base : G.n0 ≤ G.w.heap.size

end Go.Bx
