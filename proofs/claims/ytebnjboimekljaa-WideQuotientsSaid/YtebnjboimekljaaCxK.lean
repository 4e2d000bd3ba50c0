/- A part of a framework that reads Go code as functions of plain data; or a law about such functions. -/
import Derived.Test.YtebnjboimekljaaCxJ
namespace Go.Bx
set_option linter.unusedVariables false
set_option linter.unusedSimpArgs false
open Go Go.RowKit

section
variable {P : Program} {C : Ctx} {G : GE}

/-! ### heaps -/

theorem look_set : ∀ (hp : Heap) (d : Nat) (c : Blk) (i : Nat), nthB (setB hp d c) i = if i = d then some c else nthB hp i
  | [], d, c, i => by
    simp only [setB, nthB, look]
    by_cases h : i = d
    · subst h; simp
    · rw [if_neg h, if_neg (fun e => h (Nat.eq_of_beq_eq_true e).symm)]
  | (k, b) :: r, d, c, i => by
    simp only [setB]
    split
    · rename_i hk
      have hk := Nat.eq_of_beq_eq_true hk
      subst hk
      simp only [nthB, look]
      by_cases h : i = d
      · subst h; simp
      · rw [if_neg h, if_neg (fun e => h (Nat.eq_of_beq_eq_true e).symm), if_neg (fun e => h (Nat.eq_of_beq_eq_true e).symm)]
    · rename_i hk
      split
      · simp only [nthB, look]
        by_cases h : i = d
        · subst h; simp
        · rw [if_neg h, if_neg (fun e => h (Nat.eq_of_beq_eq_true e).symm)]
      · have ih := look_set r d c i
        simp only [nthB, look] at ih ⊢
        by_cases h : i = d
        · subst h
          rw [if_pos rfl] at ih ⊢
          rw [if_neg (fun e => hk (by rw [Nat.eq_of_beq_eq_true e]; exact Nat.beq_refl _)), ih]
        · rw [if_neg h] at ih ⊢
          rw [ih]

theorem nthB_nil (i : Nat) : nthB [] i = none := rfl

theorem named_set {G : GE} {id : Nat} {blk blk' : Blk} (hb : nthB G.hp id = some blk) (hp' : Heap) (hh : hp' = setB G.hp id blk') : ∀ i, (nthB hp' i).isSome = (nthB G.hp i).isSome := by
  intro i; subst hh; rw [look_set]
  split
  · rename_i h; subst h; rw [hb]; rfl
  · rfl

/-- the same blocks stand for the same; one of them told otherwise -/
theorem HRel.turn (h : HRel G) {id : Nat} {blk blk' : Blk} (hb : nthB G.hp id = some blk) {w' : World} (hsz : w'.heap.size = G.w.heap.size) (hos : w'.os = G.w.os) (htp : w'.tape = G.w.tape) (hout : w'.output = G.w.output)
    (hfr : ∀ b, G.β id ≠ some b → w'.heap[b]? = G.w.heap[b]?) (him : ∀ m, blk.im m → blk'.im m) (hcell : ∀ b, G.β id = some b → ∀ m, blk.im m → ∀ j, j < m → w'.cell? ⟨b, j, none⟩ = G.w.cell? ⟨b, j, none⟩)
    (hsame : SameB G ⟨w', G.β, G.σ, setB G.hp id blk', G.n0, G.Bo, G.I0⟩ id id 0 0 blk blk' ∧ ∀ v, SameB G ⟨w', G.β, G.σ, setB G.hp id blk', G.n0, G.Bo, G.I0⟩ id id v v blk blk')
    (hok : Ext G.env (GE.env ⟨w', G.β, G.σ, setB G.hp id blk', G.n0, G.Bo, G.I0⟩) → Keep G ⟨w', G.β, G.σ, setB G.hp id blk', G.n0, G.Bo, G.I0⟩ → BlkOk ⟨w', G.β, G.σ, setB G.hp id blk', G.n0, G.Bo, G.I0⟩ id blk') :
    Tr G ⟨w', G.β, G.σ, setB G.hp id blk', G.n0, G.Bo, G.I0⟩ ∧ HRel ⟨w', G.β, G.σ, setB G.hp id blk', G.n0, G.Bo, G.I0⟩ := by
  have hn : ∀ b, GE.named ⟨w', G.β, G.σ, setB G.hp id blk', G.n0, G.Bo, G.I0⟩ b ↔ G.named b := by
    intro b
    constructor
    · rintro ⟨i, bl, h1, h2⟩
      simp only at h1 h2
      rw [look_set] at h1
      split at h1
      · rename_i e; subst e; exact ⟨i, blk, hb, h2⟩
      · exact ⟨i, bl, h1, h2⟩
    · rintro ⟨i, bl, h1, h2⟩
      by_cases e : i = id
      · exact ⟨i, blk', by simp only; rw [look_set, if_pos e], h2⟩
      · exact ⟨i, bl, by simp only; rw [look_set, if_neg e]; exact h1, h2⟩
  have hE : Ext G.env (GE.env ⟨w', G.β, G.σ, setB G.hp id blk', G.n0, G.Bo, G.I0⟩) := by
    refine ⟨fun b m ⟨h1, h2, h3⟩ => ⟨h1, by rw [hsz]; exact h2, fun i bl hi hβ => ?_⟩, fun b m ⟨h1, h2, h3⟩ j hj => ?_⟩
    · simp only at hi hβ
      rw [look_set] at hi
      split at hi
      · rename_i e; subst e; cases hi; exact him m (h3 i blk hb hβ)
      · exact h3 i bl hi hβ
    · by_cases e : G.β id = some b
      · exact hcell b e m (h3 id blk hb e) j hj
      · exact World.cell?_of_block (w := G.w) (w' := w') (a := ⟨b, j, none⟩) (hfr b e)
  have hK : Keep G ⟨w', G.β, G.σ, setB G.hp id blk', G.n0, G.Bo, G.I0⟩ := ⟨hE, fun i ver j u bl hρ hi => by
    simp only [stay, Option.some.injEq, Prod.mk.injEq] at hρ
    obtain ⟨rfl, rfl⟩ := hρ
    by_cases e : i = id
    · subst e
      rw [hb] at hi; cases hi
      exact ⟨blk', by simp only; rw [look_set, if_pos rfl], hsame.2 ver⟩
    · exact ⟨bl, by simp only; rw [look_set, if_neg e]; exact hi, SameB.refl _ _ _ _ _ rfl rfl⟩⟩
  refine ⟨⟨hK, hos, htp, hout, by simp only; omega, fun b _ hnb => hfr b fun e => hnb ⟨id, blk, hb, e⟩, fun b hb' => .inr ((hn b).1 hb')⟩, ⟨fun i bl hi => ?_, fun i i' bl bl' b h1 h2 h3 h4 => ?_, fun b hb' => h.own b ((hn b).1 hb'), by simp only; rw [hsz]; exact h.base⟩⟩
  · simp only at hi
    rw [look_set] at hi
    split at hi
    · rename_i e; subst e; cases hi; exact hok hE hK
    · rename_i e
      have h0 := h.blk i bl hi
      have hbl : ∀ b, G.β i = some b → w'.heap[b]? = G.w.heap[b]? := fun b hβ => hfr b fun e' => e (h.inj _ _ _ _ _ hi hb hβ e')
      cases bl with
      | cell t v z =>
        obtain ⟨b, arr, ty, g1, g2, g3⟩ := h0
        exact ⟨b, arr, ty, g1, (hbl b g1).trans g2, g3.ext hK⟩
      | buf t l ver z =>
        rcases h0 with ⟨b, arr, ty, css, cap, rest, g1, g2, g3, g4, g5, g6, g7, g8⟩ | ⟨g1, g2, g3, g4⟩
        · exact .inl ⟨b, arr, ty, css, cap, rest, g1, g2, (hbl b g1).trans g3, g4.mono fun _ _ h => h.ext hE, g5, g6, g7, g8⟩
        · exact .inr ⟨g1, g2, g3.ext hE, g4⟩
      | map k v l =>
        obtain ⟨b, es, clock, g1, g2, g3, g4⟩ := h0
        exact ⟨b, es, clock, g1, (hbl b g1).trans g2, g3.mono fun _ _ h => ⟨h.1.ext hE, h.2.ext hE⟩, g4⟩
  · simp only at h1 h2 h3 h4
    have k : ∀ i bl, nthB (setB G.hp id blk') i = some bl → ∃ bl, nthB G.hp i = some bl := fun i bl hi => by
      rw [look_set] at hi
      split at hi
      · rename_i e; subst e; exact ⟨_, hb⟩
      · exact ⟨_, hi⟩
    obtain ⟨_, k1⟩ := k _ _ h1
    obtain ⟨_, k2⟩ := k _ _ h2
    exact h.inj _ _ _ _ _ k1 k2 h3 h4

/-- a state with other blocks -/
abbrev GE.withHp (G : GE) (hp : Heap) : GE := ⟨G.w, G.β, G.σ, hp, G.n0, G.Bo, G.I0⟩

theorem GE.withHp_self (G : GE) : G.withHp G.hp = G := rfl

theorem SameB.frz (G G2 : GE) (id ver : Nat) (b : Blk) (h1 : G2.β id = G.β id) (h2 : G2.σ id = G.σ id) : SameB G G2 id id ver ver b (frzB b) := by
  cases b <;> simp only [SameB, frzB]
  · exact ⟨trivial, h1⟩
  · exact ⟨fun h => h, fun _ e => ⟨e, trivial, h1, h2, Nat.le_refl _⟩⟩
  · exact ⟨trivial, trivial, h1⟩

/-- from now on it stays as it is -/
theorem HRel.frz1 (h : HRel G) {id : Nat} {blk : Blk} (hb : nthB G.hp id = some blk) : Tr G (G.withHp (setB G.hp id (frzB blk))) ∧ HRel (G.withHp (setB G.hp id (frzB blk))) := by
  refine h.turn hb rfl rfl rfl rfl (fun _ _ => rfl) (fun m hm => ?_) (fun _ _ _ _ _ _ => rfl) ⟨SameB.frz _ _ _ _ _ rfl rfl, fun v => SameB.frz _ _ _ _ _ rfl rfl⟩ fun hE hK => ?_
  · cases blk <;> simp only [Blk.im, frzB] at hm ⊢
    · exact ⟨trivial, hm.2⟩
    · exact ⟨trivial, hm.2⟩
  · have h0 := h.blk _ _ hb
    cases blk with
    | cell t v z =>
      obtain ⟨b, arr, ty, g1, g2, g3⟩ := h0
      exact ⟨b, arr, ty, g1, g2, g3.ext hK⟩
    | buf t l ver z =>
      rcases h0 with ⟨b, arr, ty, css, cap, rest, g1, g2, g3, g4, g5, g6, g7, g8⟩ | ⟨g1, g2, g3, g4⟩
      · exact .inl ⟨b, arr, ty, css, cap, rest, g1, g2, g3, g4.mono fun _ _ h => h.ext hE, g5, g6, g7, g8⟩
      · exact .inr ⟨g1, .inl rfl, g3.ext hE, g4⟩
    | map k v l =>
      obtain ⟨b, es, clock, g1, g2, g3, g4⟩ := h0
      exact ⟨b, es, clock, g1, g2, g3.mono fun _ _ h => ⟨h.1.ext hE, h.2.ext hE⟩, g4⟩

mutual
theorem frz_tr : ∀ (v : V) (G : GE), HRel G → Tr G (G.withHp (Bx.frz G.hp v)) ∧ HRel (G.withHp (Bx.frz G.hp v))
  | .app id ver, G, h => by
    simp only [Bx.frz]
    cases hb : nthB G.hp id with
    | none => exact ⟨Tr.refl _, h⟩
    | some b => exact h.frz1 hb
  | .view id p t n lo hi, G, h => by
    simp only [Bx.frz]
    cases hb : nthB G.hp id with
    | none => exact ⟨Tr.refl _, h⟩
    | some b => exact h.frz1 hb
  | .agg t l, G, h => by simp only [Bx.frz]; exact frzL_tr l G h
  | .any, G, h => by simp only [Bx.frz]; exact ⟨Tr.refl _, h⟩
  | .data _ _, G, h => by simp only [Bx.frz]; exact ⟨Tr.refl _, h⟩
  | .nilp, G, h => by simp only [Bx.frz]; exact ⟨Tr.refl _, h⟩
  | .snil, G, h => by simp only [Bx.frz]; exact ⟨Tr.refl _, h⟩
  | .ref _ _ _, G, h => by simp only [Bx.frz]; exact ⟨Tr.refl _, h⟩
  | .iref _ _, G, h => by simp only [Bx.frz]; exact ⟨Tr.refl _, h⟩
  | .tup _, G, h => by simp only [Bx.frz]; exact ⟨Tr.refl _, h⟩
  | .opt _ _ _, G, h => by simp only [Bx.frz]; exact ⟨Tr.refl _, h⟩
  | .fn _ _ _, G, h => by simp only [Bx.frz]; exact ⟨Tr.refl _, h⟩
  | .full _ _, G, h => by simp only [Bx.frz]; exact ⟨Tr.refl _, h⟩
  | .ifc _ _, G, h => by simp only [Bx.frz]; exact ⟨Tr.refl _, h⟩
  | .map _, G, h => by simp only [Bx.frz]; exact ⟨Tr.refl _, h⟩
theorem frzL_tr : ∀ (l : List V) (G : GE), HRel G → Tr G (G.withHp (Bx.frzL G.hp l)) ∧ HRel (G.withHp (Bx.frzL G.hp l))
  | [], G, h => by simp only [Bx.frzL]; exact ⟨Tr.refl _, h⟩
  | v :: l, G, h => by
    simp only [Bx.frzL]
    obtain ⟨t1, h1⟩ := frz_tr v G h
    obtain ⟨t2, h2⟩ := frzL_tr l _ h1
    exact ⟨t1.trans t2, h2⟩
end

/-! ### what reads as data -/

/-- a slice whose cells read as that -/
def SlAt (G : GE) (τ : Ty) (l : List τ.den) (x : Value) : Prop :=
  ∃ (a : Option Addr) (cap : Nat) (css : List (List Value)), x = .slice a l.length cap ∧ l.length ≤ cap ∧ cap ≤ maxLen ∧ All2 (FlatD G.env τ) l css ∧
    (l = [] ∨ ∃ ad, a = some ad ∧ ad.spot = none ∧ ∀ j v, css.flatten[j]? = some v → G.w.cell? ⟨ad.block, ad.off + j, none⟩ = some v)

theorem SlAt.ofFlatD {τ : Ty} {l : List τ.den} {x : Value} (h : FlatD G.env (.sl τ) l [x]) : SlAt G τ l x := by
  rcases h with ⟨rfl, h⟩ | ⟨a, cap, css, h, h1, h2, h3, h4, h5, h6⟩
  · simp at h; subst h
    exact ⟨none, 0, [], rfl, Nat.le_refl _, by simp, trivial, .inl rfl⟩
  · simp at h; subst h
    refine ⟨some a, cap, css, rfl, h2, h3, h4, ?_⟩
    rcases h1 with h1 | h1
    · exact .inr ⟨a, rfl, h1, h6⟩
    · exact .inl h1

theorem SlAt.ext {G2 : GE} (hK : Keep G G2) (hc : ∀ b j, G2.w.cell? ⟨b, j, none⟩ = G.w.cell? ⟨b, j, none⟩) {τ : Ty} {l : List τ.den} {x : Value} (h : SlAt G τ l x) : SlAt G2 τ l x := by
  obtain ⟨a, cap, css, h1, h2, h3, h4, h5⟩ := h
  exact ⟨a, cap, css, h1, h2, h3, h4.mono fun _ _ h => h.ext hK.env, h5.imp id fun ⟨ad, g1, g2, g3⟩ => ⟨ad, g1, g2, fun j v hj => by rw [hc]; exact g3 j v hj⟩⟩

theorem HRel.cell (h : HRel G) {id : Nat} {t : Ty} {v : V} {z : Bool} (hb : nthB G.hp id = some (.cell t v z)) : ∃ b arr ty, G.β id = some b ∧ G.w.heap[b]? = some (.cells arr ty (0, 0)) ∧ FlatV G t v arr.toList := h.blk _ _ hb

theorem cutL_length {α : Type} (l : List α) {lo hi : Int} (_h0 : 0 ≤ lo) (h1 : lo ≤ hi) (h2 : hi ≤ (l.length : Int)) : (cutL l lo hi).length = hi.toNat - lo.toNat := by
  simp only [cutL, List.length_take, List.length_drop]; omega

theorem all2_drop {α β : Type} {R : α → β → Prop} : ∀ (n : Nat) {l : List α} {m : List β}, All2 R l m → All2 R (l.drop n) (m.drop n)
  | 0, _, _, h => by simpa using h
  | n + 1, [], [], _ => by simp [All2]
  | n + 1, _ :: _, _ :: _, h => by simpa using all2_drop n h.2
theorem all2_take {α β : Type} {R : α → β → Prop} : ∀ (n : Nat) {l : List α} {m : List β}, All2 R l m → All2 R (l.take n) (m.take n)
  | 0, _, _, h => by simp [All2]
  | n + 1, [], [], _ => by simp [All2]
  | n + 1, _ :: _, _ :: _, h => by simpa [All2] using ⟨h.1, all2_take n h.2⟩

theorem flatten_drop {α : Type} {R : α → List Value → Prop} {n : Nat} (hn : ∀ a cs, R a cs → cs.length = n) : ∀ (k : Nat) {l : List α} {css : List (List Value)}, All2 R l css → (css.drop k).flatten = css.flatten.drop (k * n)
  | 0, _, _, _ => by simp
  | k + 1, [], [], _ => by simp
  | k + 1, a :: l, c :: css, h => by
    have hc := hn _ _ h.1
    rw [List.drop_succ_cons, flatten_drop hn k h.2, List.flatten_cons, Nat.add_mul, Nat.one_mul, Nat.add_comm (k * n) n, ← List.drop_drop]
    congr 1
    rw [← hc]; simp

theorem flatten_take {α : Type} {R : α → List Value → Prop} {n : Nat} (hn : ∀ a cs, R a cs → cs.length = n) : ∀ (k : Nat) {l : List α} {css : List (List Value)}, All2 R l css → (css.take k).flatten = css.flatten.take (k * n)
  | 0, _, _, _ => by simp
  | k + 1, [], [], _ => by simp
  | k + 1, a :: l, c :: css, h => by
    have hc := hn _ _ h.1
    rw [List.take_succ_cons, List.flatten_cons, flatten_take hn k h.2, List.flatten_cons, Nat.add_mul, Nat.one_mul, Nat.add_comm (k * n) n, List.take_append, hc]
    rw [show n + k * n - n = k * n by omega]
    congr 1
    rw [List.take_of_length_le]
    omega

/-- the cells of a part of a slice -/
theorem flatten_cut {α : Type} {R : α → List Value → Prop} {n : Nat} (hn : ∀ a cs, R a cs → cs.length = n) {l : List α} {css : List (List Value)} (h : All2 R l css) (lo hi : Int) :
    All2 R (cutL l lo hi) (cutL css lo hi) ∧ ∀ j v, (cutL css lo hi).flatten[j]? = some v → css.flatten[lo.toNat * n + j]? = some v := by
  refine ⟨all2_take _ (all2_drop _ h), fun j v hj => ?_⟩
  unfold cutL at hj
  rw [flatten_take hn _ (all2_drop lo.toNat h), flatten_drop hn _ h, List.getElem?_take] at hj
  split at hj
  · rwa [List.getElem?_drop] at hj
  · cases hj

theorem buf_at (h : HRel G) {id : Nat} {t : Ty} {l : List t.den} {ver : Nat} {z : Bool} (hb : nthB G.hp id = some (.buf t l ver z)) : SlAt G t l (G.σ id) := by
  rcases h.blk _ _ hb with ⟨b, arr, ty, css, cap, rest, g1, g2, g3, g4, g5, g6, g7, g8⟩ | ⟨g1, g2, g3, g4⟩
  · refine ⟨_, cap, css, g2, g7, g8, g4, .inr ⟨_, rfl, rfl, fun j v hj => ?_⟩⟩
    rw [cell_arr g3, g5, Nat.zero_add]
    have : j < css.flatten.length := by
      rcases Nat.lt_or_ge j css.flatten.length with h | h
      · exact h
      · rw [List.getElem?_eq_none h] at hj; cases hj
    rw [List.getElem?_append_left this]; exact hj
  · exact .ofFlatD g3

theorem view_at (h : HRel G) {id : Nat} {p : List Step} {t : Ty} {n : Nat} {lo hi : Int} {x : Value} (hv : ViewAt G id p t n lo hi x) {c : Ty} {v : V} {z : Bool} (hb : nthB G.hp id = some (.cell c v z)) {l : List t.den} (hg : getV v p = .data (.arr n t) l) :
    SlAt G t (cutL l lo hi) x ∧ l.length = n := by
  obtain ⟨b, arr, ty, g1, g2, g3⟩ := h.cell hb
  unfold ViewAt at hv
  rw [hb] at hv
  obtain ⟨b', o, e1, e2, e3, e4, e5, hn, e6⟩ := hv
  rw [g1] at e1; cases e1
  obtain ⟨cs1, f1, f2, f3⟩ := getV_flat p g3 e2
  rw [hg] at f1
  obtain ⟨hl, css, hc, ha⟩ := f1.data'
  have hl : List.length l = n := hl
  have hcl := cutL_length l (lo := lo) (hi := hi) e3 e4 (by rw [hl]; exact e5)
  obtain ⟨k1, k2⟩ := flatten_cut (fun a cs h => FlatD.length t a cs h) ha lo hi
  refine ⟨⟨_, n - lo.toNat, cutL css lo hi, by rw [hcl]; exact e6, by omega, by omega, k1, ?_⟩, hl⟩
  by_cases hlo : lo.toNat = n
  · left
    apply List.eq_nil_of_length_eq_zero
    omega
  · right
    rw [if_neg hlo]
    refine ⟨_, rfl, rfl, fun j u hj => ?_⟩
    rw [cell_arr g2]
    have := f2 _ _ (by rw [hc]; exact k2 j u hj)
    simpa [Nat.add_assoc] using this

/-- blocks told alike, but for what is frozen -/
def Like (hp hp' : Heap) : Prop := ∀ i, nthB hp' i = nthB hp i ∨ ∃ b, nthB hp i = some b ∧ nthB hp' i = some (frzB b)

theorem Like.refl (hp : Heap) : Like hp hp := fun _ => .inl rfl
theorem frzB_frzB (b : Blk) : frzB (frzB b) = frzB b := by cases b <;> rfl
theorem Like.trans {a b c : Heap} (h : Like a b) (k : Like b c) : Like a c := fun i => by
  rcases h i with h | ⟨x, h1, h2⟩ <;> rcases k i with k | ⟨y, k1, k2⟩
  · exact .inl (k.trans h)
  · exact .inr ⟨y, h ▸ k1, k2⟩
  · exact .inr ⟨x, h1, k.trans h2⟩
  · rw [h2] at k1; cases k1; exact .inr ⟨x, h1, by rw [k2, frzB_frzB]⟩

theorem like_set {hp : Heap} {id : Nat} {b : Blk} (h : nthB hp id = some b) : Like hp (setB hp id (frzB b)) := fun i => by
  rw [look_set]
  by_cases e : i = id
  · subst e; exact .inr ⟨b, h, by rw [if_pos rfl]⟩
  · exact .inl (if_neg e)

mutual
theorem like_frz : ∀ (v : V) (hp : Heap), Like hp (Bx.frz hp v)
  | .app id ver, hp => by
    simp only [Bx.frz]
    split
    · rename_i b hb; exact like_set hb
    · exact .refl _
  | .view id p t n lo hi, hp => by
    simp only [Bx.frz]
    split
    · rename_i b hb; exact like_set hb
    · exact .refl _
  | .agg t l, hp => by simp only [Bx.frz]; exact like_frzL l hp
  | .any, hp => by simp only [Bx.frz]; exact .refl _
  | .data _ _, hp => by simp only [Bx.frz]; exact .refl _
  | .nilp, hp => by simp only [Bx.frz]; exact .refl _
  | .snil, hp => by simp only [Bx.frz]; exact .refl _
  | .ref _ _ _, hp => by simp only [Bx.frz]; exact .refl _
  | .iref _ _, hp => by simp only [Bx.frz]; exact .refl _
  | .tup _, hp => by simp only [Bx.frz]; exact .refl _
  | .opt _ _ _, hp => by simp only [Bx.frz]; exact .refl _
  | .fn _ _ _, hp => by simp only [Bx.frz]; exact .refl _
  | .full _ _, hp => by simp only [Bx.frz]; exact .refl _
  | .ifc _ _, hp => by simp only [Bx.frz]; exact .refl _
  | .map _, hp => by simp only [Bx.frz]; exact .refl _
theorem like_frzL : ∀ (l : List V) (hp : Heap), Like hp (Bx.frzL hp l)
  | [], hp => by simp only [Bx.frzL]; exact .refl _
  | v :: l, hp => by simp only [Bx.frzL]; exact (like_frz v hp).trans (like_frzL l _)
end

mutual
theorem rd_like {hp hp' : Heap} (h : Like hp hp') : ∀ v : V, rd hp' v = rd hp v
  | .app id ver => by
    simp only [rd]
    rcases h id with e | ⟨b, e1, e2⟩
    · rw [e]
    · rw [e1, e2]; cases b <;> rfl
  | .view id p t n lo hi => by
    simp only [rd]
    rcases h id with e | ⟨b, e1, e2⟩
    · rw [e]
    · rw [e1, e2]; cases b <;> rfl
  | .agg t l => by simp only [rd, rdL_like h l]
  | .any => rfl
  | .data _ _ => rfl
  | .nilp => rfl
  | .snil => rfl
  | .ref _ _ _ => rfl
  | .iref _ _ => rfl
  | .tup _ => rfl
  | .opt _ _ _ => rfl
  | .fn _ _ _ => rfl
  | .full _ _ => rfl
  | .ifc _ _ => rfl
  | .map _ => rfl
theorem rdL_like {hp hp' : Heap} (h : Like hp hp') : ∀ l : List V, rdL hp' l = rdL hp l
  | [] => rfl
  | v :: l => by simp only [rdL, rd_like h v, rdL_like h l]
end

theorem mkAgg_data {t t' : Ty} {l : List V} {y : t'.den} (h : mkAgg t l = .data t' y) : ∃ e : t = t', getArgs t l = some (e ▸ y) := by
  unfold mkAgg at h
  split at h
  · rename_i x hx
    cases h; exact ⟨rfl, hx⟩
  · cases h

/-- a slice that reads as data: its cells are those -/
theorem rd_sl (h : HRel G) {tm : Array Value} {v : V} {x : Value} (ha : AtV G tm v x) {τ : Ty} {l : List τ.den} (hr : rd G.hp v = .data (.sl τ) l) : SlAt G τ l x := by
  cases v with
  | data t y =>
    simp only [rd, V.data.injEq] at hr
    obtain ⟨rfl, hr⟩ := hr
    have hr := eq_of_heq hr
    subst hr
    simp only [AtV] at ha
    exact .ofFlatD (ha.one rfl)
  | full t y =>
    simp only [rd, V.data.injEq, Ty.sl.injEq] at hr
    obtain ⟨rfl, hr⟩ := hr
    have hr := eq_of_heq hr
    subst hr
    simp only [AtV] at ha
    exact .ofFlatD ha.1
  | app id ver =>
    simp only [rd] at hr
    split at hr
    · rename_i t y ver' z hb
      split at hr
      · rename_i hv
        have hv := Nat.eq_of_beq_eq_true hv
        subst hv
        simp only [V.data.injEq, Ty.sl.injEq] at hr
        obtain ⟨rfl, hr⟩ := hr
        have hr := eq_of_heq hr
        subst hr
        simp only [AtV] at ha
        unfold AppAt at ha
        rw [hb] at ha
        rw [ha.2.2 rfl]
        exact buf_at h hb
      · cases hr
    · cases hr
  | view id p t n lo hi =>
    simp only [rd] at hr
    split at hr
    · rename_i c cv z hb
      split at hr
      · rename_i n' t' y hg
        split at hr
        · rename_i hnt
          obtain ⟨rfl, rfl⟩ := hnt
          simp only [V.data.injEq, Ty.sl.injEq] at hr
          obtain ⟨rfl, hr⟩ := hr
          have hr := eq_of_heq hr
          subst hr
          simp only [AtV] at ha
          exact (view_at h ha hb hg).1
        · cases hr
      · cases hr
    · cases hr
  | agg t l' =>
    simp only [rd] at hr
    obtain ⟨e, hg⟩ := mkAgg_data hr
    subst e
    cases hl : rdL G.hp l' <;> rw [hl] at hg <;> simp [getArgs] at hg
  | _ => simp [rd] at hr

theorem im_own (h : HRel G) {id : Nat} {blk : Blk} (hb : nthB G.hp id = some blk) {b : Nat} (hβ : G.β id = some b) (hlt : b < G.w.heap.size) {m : Nat} (hm : blk.im m) : G.im b m :=
  ⟨.inr (h.own b ⟨id, blk, hb, hβ⟩), hlt, fun id' blk' hb' hβ' => by
    have := h.inj _ _ _ _ _ hb' hb hβ' hβ
    subst this
    rw [hb] at hb'; cases hb'; exact hm⟩

/-- what is frozen is data -/
theorem sl_frozen (h : HRel G) {id : Nat} {t : Ty} {l : List t.den} {ver : Nat} (hb : nthB G.hp id = some (.buf t l ver true)) : FlatD G.env (.sl t) l [G.σ id] := by
  rcases h.blk _ _ hb with ⟨b, arr, ty, css, cap, rest, g1, g2, g3, g4, g5, g6, g7, g8⟩ | ⟨g1, g2, g3, g4⟩
  · have hlen := All2.flat_length (fun a cs h => FlatD.length t a cs h) g4
    refine .inr ⟨⟨b, 0, none⟩, cap, css, by rw [g2], .inl rfl, g7, g8, g4, .inr ⟨List.length l * t.size, by simp only; omega, ?_⟩, fun j v hj => ?_⟩
    · exact im_own h hb g1 (Array.getElem?_eq_some_iff.1 g3).1 ⟨rfl, Nat.le_refl _⟩
    · show G.w.cell? _ = _
      rw [cell_arr g3, g5, Nat.zero_add]
      have : j < css.flatten.length := by
        rcases Nat.lt_or_ge j css.flatten.length with h | h
        · exact h
        · rw [List.getElem?_eq_none h] at hj; cases hj
      rw [List.getElem?_append_left this]; exact hj
  · exact g3

theorem view_frozen (h : HRel G) {id : Nat} {p : List Step} {t : Ty} {n : Nat} {lo hi : Int} {x : Value} (hv : ViewAt G id p t n lo hi x) {c : Ty} {v : V} (hb : nthB G.hp id = some (.cell c v true)) {l : List t.den} (hg : getV v p = .data (.arr n t) l) : FlatD G.env (.sl t) (cutL l lo hi) [x] := by
  obtain ⟨b, arr, ty, g1, g2, g3⟩ := h.cell hb
  unfold ViewAt at hv
  rw [hb] at hv
  obtain ⟨b', o, e1, e2, e3, e4, e5, hn, e6⟩ := hv
  rw [g1] at e1; cases e1
  obtain ⟨cs1, f1, f2, f3⟩ := getV_flat p g3 e2
  rw [hg] at f1
  obtain ⟨hl, css, hc, ha⟩ := f1.data'
  have hl : List.length l = n := hl
  have hcl := cutL_length l (lo := lo) (hi := hi) e3 e4 (by rw [hl]; exact e5)
  obtain ⟨k1, k2⟩ := flatten_cut (fun a cs h => FlatD.length t a cs h) ha lo hi
  have hlen := All2.flat_length (fun a cs h => FlatD.length t a cs h) k1
  have hcs := FlatD.length _ _ _ f1.data'
  refine .inr ⟨_, n - lo.toNat, cutL css lo hi, by rw [hcl, e6], ?_, by rw [hcl]; omega, by omega, k1, ?_, fun j u hj => ?_⟩
  · left; split <;> rfl
  · by_cases hlo : lo.toNat = n
    · left
      apply List.eq_nil_of_length_eq_zero
      rw [hlen, hcl]
      have : hi.toNat - lo.toNat = 0 := by omega
      rw [this, Nat.zero_mul]
    · right
      rw [if_neg hlo]
      refine ⟨c.size, ?_, im_own h hb g1 (Array.getElem?_eq_some_iff.1 g2).1 ⟨rfl, Nat.le_refl _⟩⟩
      simp only
      rw [hlen, hcl]
      have h1 : o + n * t.size ≤ c.size := by
        have h2 := g3.length
        have : cs1.length = n * t.size := by rw [hcs]; rfl
        omega
      have h2 : (lo.toNat + (hi.toNat - lo.toNat)) * t.size ≤ n * t.size := Nat.mul_le_mul_right _ (by omega)
      rw [Nat.add_mul] at h2
      omega
  · have hne : lo.toNat ≠ n := by
      intro hlo
      have : (cutL css lo hi).flatten.length = 0 := by
        rw [hlen, hcl]
        have : hi.toNat - lo.toNat = 0 := by omega
        rw [this, Nat.zero_mul]
      rw [List.eq_nil_of_length_eq_zero this] at hj
      simp at hj
    rw [if_neg hne]
    show G.w.cell? _ = _
    rw [cell_arr g2]
    have := f2 _ _ (by rw [hc]; exact k2 j u hj)
    simpa [Nat.add_assoc] using this

mutual
theorem rd_tight (h : HRel G) : ∀ (v : V) {tm : Array Value} {x : Value}, AtV G tm v x → loose G.hp v = false → ∀ {t : Ty} {y : t.den}, rd G.hp v = .data t y → AtD G.env t y x
  | .data _ _, _, _, ha, _, _, _, hr => by
    simp only [rd, V.data.injEq] at hr
    obtain ⟨rfl, hr⟩ := hr
    have hr := eq_of_heq hr
    subst hr
    simpa only [AtV] using ha
  | .full _ _, _, _, ha, _, _, _, hr => by
    simp only [rd, V.data.injEq] at hr
    obtain ⟨rfl, hr⟩ := hr
    have hr := eq_of_heq hr
    subst hr
    simp only [AtV] at ha
    exact AtD.ofFlat ha.1 rfl
  | .app id ver, _, _, ha, hl, _, _, hr => by
    simp only [loose] at hl
    split at hl
    · rename_i t' l ver' hb
      simp only [rd, hb] at hr
      split at hr
      · rename_i hv
        have hv := Nat.eq_of_beq_eq_true hv
        subst hv
        simp only [V.data.injEq] at hr
        obtain ⟨rfl, hr⟩ := hr
        have hr := eq_of_heq hr
        subst hr
        simp only [AtV] at ha
        unfold AppAt at ha
        rw [hb] at ha
        rw [ha.2.2 rfl]
        exact AtD.ofFlat (sl_frozen h hb) rfl
      · cases hr
    · cases hl
  | .view id p t0 n lo hi, _, _, ha, hl, _, _, hr => by
    simp only [loose] at hl
    split at hl
    · rename_i c cv hb
      simp only [rd, hb] at hr
      split at hr
      · rename_i n' t' l hg
        split at hr
        · rename_i hnt
          obtain ⟨rfl, rfl⟩ := hnt
          simp only [V.data.injEq] at hr
          obtain ⟨rfl, hr⟩ := hr
          have hr := eq_of_heq hr
          subst hr
          simp only [AtV] at ha
          exact AtD.ofFlat (view_frozen h ha hb hg) rfl
        · cases hr
      · cases hr
    · cases hl
  | .agg t l, _, _, ha, hl, _, _, hr => by
    simp only [rd] at hr
    obtain ⟨e, hg⟩ := mkAgg_data hr
    subst e
    simp only [AtV] at ha
    obtain ⟨cs, rfl, hf⟩ := ha
    exact .ofAgg (rdL_tight h l hf (by simpa only [loose] using hl) hg) hf.isAgg
  | .any, _, _, _, _, _, _, hr => by simp [rd] at hr
  | .nilp, _, _, _, _, _, _, hr => by simp [rd] at hr
  | .snil, _, _, _, _, _, _, hr => by simp [rd] at hr
  | .ref _ _ _, _, _, _, _, _, _, hr => by simp [rd] at hr
  | .iref _ _, _, _, _, _, _, _, hr => by simp [rd] at hr
  | .tup _, _, _, _, _, _, _, hr => by simp [rd] at hr
  | .opt _ _ _, _, _, _, _, _, _, hr => by simp [rd] at hr
  | .fn _ _ _, _, _, _, _, _, _, hr => by simp [rd] at hr
  | .ifc _ _, _, _, _, _, _, _, hr => by simp [rd] at hr
  | .map _, _, _, _, _, _, _, hr => by simp [rd] at hr
theorem rdL_tight (h : HRel G) : ∀ (l : List V) {t : Ty} {cs : List Value}, FlatL G t l cs → looseL G.hp l = false → ∀ {y : t.den}, getArgs t (rdL G.hp l) = some y → FlatD G.env t y cs
  | [], t, cs, hf, _, y, hg => by
    simp only [rdL] at hg
    exact getArgs_flat hg hf
  | v :: l, t, cs, hf, hl, y, hg => by
    simp only [FlatL] at hf
    obtain ⟨a, r, x, cs', h1, rfl, h2, h3, h4⟩ := hf
    simp only [rdL] at hg
    simp only [looseL, Bool.or_eq_false_iff] at hl
    cases t with
    | pair p q =>
      simp only [uncons, Option.some.injEq, Prod.mk.injEq] at h1
      obtain ⟨rfl, rfl⟩ := h1
      cases hv : rd G.hp v <;> rw [hv] at hg <;> simp only [getArgs, reduceCtorEq] at hg
      split at hg
      · cases hg
      · rename_i z hz
        split at hg
        · cases hg
        · rename_i y2 hy2
          obtain ⟨rfl, rfl⟩ := castD_some hz
          cases hg
          exact ⟨_, _, rfl, (rd_tight h v h3 hl.1 hv).cells, rdL_tight h l h4 hl.2 hy2⟩
    | unit => simp [uncons] at h1
    | arr n t => cases n <;> simp [getArgs] at hg
    | _ => simp [uncons] at h1
end

mutual
theorem rd_frz : ∀ (v : V) (G : GE), HRel G → ∀ {tm : Array Value} {x : Value}, AtV G tm v x → ∀ {t : Ty} {y : t.den}, rd G.hp v = .data t y → AtD (G.withHp (frz G.hp v)).env t y x
  | .app id ver, G, h, tm, x, ha, t, y, hr => by
    simp only [rd] at hr
    simp only [frz]
    split at hr
    · rename_i t' l ver' z hb
      rw [hb]
      split at hr
      · rename_i hv
        have hv := Nat.eq_of_beq_eq_true hv
        subst hv
        simp only [V.data.injEq] at hr
        obtain ⟨rfl, hr⟩ := hr
        have hr := eq_of_heq hr
        subst hr
        simp only [AtV] at ha
        unfold AppAt at ha
        rw [hb] at ha
        rw [ha.2.2 rfl]
        have h2 := (h.frz1 hb).2
        exact AtD.ofFlat (sl_frozen h2 (by simp only [GE.withHp]; rw [look_set, if_pos rfl]; rfl)) rfl
      · cases hr
    · cases hr
  | .view id p t0 n lo hi, G, h, tm, x, ha, t, y, hr => by
    simp only [rd] at hr
    simp only [frz]
    split at hr
    · rename_i c cv z hb
      rw [hb]
      split at hr
      · rename_i n' t' l hg
        split at hr
        · rename_i hnt
          obtain ⟨rfl, rfl⟩ := hnt
          simp only [V.data.injEq] at hr
          obtain ⟨rfl, hr⟩ := hr
          have hr := eq_of_heq hr
          subst hr
          simp only [AtV] at ha
          obtain ⟨t2, h2⟩ := h.frz1 hb
          have ha2 : ViewAt (G.withHp (setB G.hp id (frzB (.cell c cv z)))) id p t' n' lo hi x := ha.ren t2.keep (u := 0) rfl
          exact AtD.ofFlat (view_frozen h2 ha2 (by simp only [GE.withHp]; rw [look_set, if_pos rfl]; rfl) hg) rfl
        · cases hr
      · cases hr
    · cases hr
  | .agg t l, G, h, tm, x, ha, t', y, hr => by
    simp only [rd] at hr
    obtain ⟨e, hg⟩ := mkAgg_data hr
    subst e
    simp only [AtV] at ha
    obtain ⟨cs, rfl, hf⟩ := ha
    simp only [frz]
    exact .ofAgg (rdL_frz l G h hf hg) hf.isAgg
  | .data _ _, G, h, _, _, ha, _, _, hr => by simp only [frz]; exact rd_tight h _ ha rfl hr
  | .full _ _, G, h, _, _, ha, _, _, hr => by simp only [frz]; exact rd_tight h _ ha rfl hr
  | .any, _, _, _, _, _, _, _, hr => by simp [rd] at hr
  | .nilp, _, _, _, _, _, _, _, hr => by simp [rd] at hr
  | .snil, _, _, _, _, _, _, _, hr => by simp [rd] at hr
  | .ref _ _ _, _, _, _, _, _, _, _, hr => by simp [rd] at hr
  | .iref _ _, _, _, _, _, _, _, _, hr => by simp [rd] at hr
  | .tup _, _, _, _, _, _, _, _, hr => by simp [rd] at hr
  | .opt _ _ _, _, _, _, _, _, _, _, hr => by simp [rd] at hr
  | .fn _ _ _, _, _, _, _, _, _, _, hr => by simp [rd] at hr
  | .ifc _ _, _, _, _, _, _, _, _, hr => by simp [rd] at hr
  | .map _, _, _, _, _, _, _, _, hr => by simp [rd] at hr
theorem rdL_frz : ∀ (l : List V) (G : GE), HRel G → ∀ {t : Ty} {cs : List Value}, FlatL G t l cs → ∀ {y : t.den}, getArgs t (rdL G.hp l) = some y → FlatD (G.withHp (frzL G.hp l)).env t y cs
  | [], G, h, t, cs, hf, y, hg => by
    simp only [rdL] at hg
    simp only [frzL]
    exact getArgs_flat hg hf
  | v :: l, G, h, t, cs, hf, y, hg => by
    simp only [FlatL] at hf
    obtain ⟨a, r, x, cs', h1, rfl, h2, h3, h4⟩ := hf
    simp only [rdL] at hg
    simp only [frzL]
    obtain ⟨t1, k1⟩ := frz_tr v G h
    obtain ⟨t2, k2⟩ := frzL_tr l _ k1
    cases t with
    | pair p q =>
      simp only [uncons, Option.some.injEq, Prod.mk.injEq] at h1
      obtain ⟨rfl, rfl⟩ := h1
      cases hv : rd G.hp v <;> rw [hv] at hg <;> simp only [getArgs, reduceCtorEq] at hg
      split at hg
      · cases hg
      · rename_i z hz
        split at hg
        · cases hg
        · rename_i y2 hy2
          obtain ⟨rfl, rfl⟩ := castD_some hz
          cases hg
          have e1 := rd_frz v G h h3 hv
          have e2 := rdL_frz l (G.withHp (frz G.hp v)) k1 (t := q) (cs := cs') (by have := FlatL.ren t1.keep _ _ _ h4; rwa [renL_stay] at this) (y := y2) (by rw [show (G.withHp (frz G.hp v)).hp = frz G.hp v from rfl, rdL_like (like_frz v G.hp)]; exact hy2)
          exact ⟨_, _, rfl, (e1.ext t2.keep.env).cells, e2⟩
    | unit => simp [uncons] at h1
    | arr n t => cases n <;> simp [getArgs] at hg
    | _ => simp [uncons] at h1
end

end
end Go.Bx
