/- A part of a framework that reads Go code as functions of plain data; or a law about such functions. -/
import Derived.Test.YtebnjboimekljaaCxZd
import Derived.ProofKit
import Derived.OpenShut
import Derived.Deep.Slices
namespace Go.Bx
set_option linter.unusedVariables false
set_option linter.unusedSimpArgs false
open Go Go.RowKit

/-! ### the types, asked by program -/

def zeqV : Value → Value → Bool
  | .int k n, .int k' m => decide (k = k') && decide (n = m)
  | .bool a, .bool b => a == b
  | .string s, .string s' => decide (s.data = s'.data)
  | .slice none 0 0, .slice none 0 0 => true
  | _, _ => false

theorem zeqV_eq {a b : Value} (h : zeqV a b = true) : a = b := by
  unfold zeqV at h
  split at h
  · simp at h; rw [h.1, h.2]
  · simp at h; rw [h]
  · rename_i s s'
    have : s.data = s'.data := of_decide_eq_true h
    cases s; cases s'; simp at this; rw [this]
  · rfl
  · cases h

def zcB : List Value → List Value → Bool
  | [], [] => true
  | a :: l, b :: m => zeqV a b && zcB l m
  | _, _ => false

theorem zcB_eq : ∀ {l m : List Value}, zcB l m = true → l = m
  | [], [], _ => rfl
  | a :: l, b :: m, h => by
    simp only [zcB, Bool.and_eq_true] at h
    rw [zeqV_eq h.1, zcB_eq h.2]
  | [], _ :: _, h => by simp [zcB] at h
  | _ :: _, [], h => by simp [zcB] at h

def aggB : Value → Bool
  | .agg _ => true
  | _ => false

/-- one cell, neither an aggregate nor a tuple -/
def oneB : Value → Bool
  | .tuple _ => false
  | .agg _ => false
  | _ => true

theorem oneB_sound {v : Value} (h : oneB v = true) : oneCell v := by
  cases v <;> simp [oneB] at h <;> exact ⟨rfl, by simp, by simp⟩

def arrB (f : List Value → Bool) (s : Nat) : Nat → List Value → Bool
  | 0, cs => cs.isEmpty
  | n + 1, cs => f (cs.take s) && arrB f s n (cs.drop s)

/-- the cells of a zero value, asked by program -/
def zcOkB : Ty → List Value → Bool
  | .opq, cs => match cs with
    | [x] => oneB x
    | _ => false
  | .pair a b, cs => zcOkB a (cs.take a.size) && zcOkB b (cs.drop a.size)
  | .arr n t, cs => arrB (zcOkB t) t.size n cs
  | .int k, cs => zcB cs (zc (.int k))
  | .bool, cs => zcB cs (zc .bool)
  | .str, cs => zcB cs (zc .str)
  | .sl t, cs => zcB cs (zc (.sl t))
  | .unit, cs => cs.isEmpty

theorem arrB_sound {f : List Value → Bool} {s : Nat} {p : List Value → Prop} (hf : ∀ cs, f cs = true → p cs) : ∀ (n : Nat) (cs : List Value), arrB f s n cs = true → ∃ css : List (List Value), css.length = n ∧ cs = css.flatten ∧ ∀ c ∈ css, p c
  | 0, cs, h => by simp only [arrB, List.isEmpty_iff] at h; exact ⟨[], rfl, h, fun _ h => by cases h⟩
  | n + 1, cs, h => by
    simp only [arrB, Bool.and_eq_true] at h
    obtain ⟨css, h1, h2, h3⟩ := arrB_sound hf n _ h.2
    refine ⟨cs.take s :: css, by simp [h1], by rw [List.flatten_cons, ← h2, List.take_append_drop], fun c hc => ?_⟩
    rcases List.mem_cons.1 hc with rfl | hc
    · exact hf _ h.1
    · exact h3 c hc

theorem zcOkB_sound : ∀ (τ : Ty) (cs : List Value), zcOkB τ cs = true → zcOk τ cs
  | .opq, [x], h => by simp only [zcOkB] at h; exact ⟨x, rfl, oneB_sound h⟩
  | .opq, [], h => by simp [zcOkB] at h
  | .opq, _ :: _ :: _, h => by simp [zcOkB] at h
  | .pair a b, cs, h => by
    simp only [zcOkB, Bool.and_eq_true] at h
    exact ⟨_, _, (List.take_append_drop a.size cs).symm, zcOkB_sound a _ h.1, zcOkB_sound b _ h.2⟩
  | .arr n t, cs, h => by
    simp only [zcOkB] at h
    obtain ⟨css, h1, h2, h3⟩ := arrB_sound (zcOkB_sound t) n cs h
    exact ⟨css, h1, h2, h3⟩
  | .int k, cs, h => by simp only [zcOkB] at h; exact zcB_eq h
  | .bool, cs, h => by simp only [zcOkB] at h; exact zcB_eq h
  | .str, cs, h => by simp only [zcOkB] at h; exact zcB_eq h
  | .sl t, cs, h => by simp only [zcOkB] at h; exact zcB_eq h
  | .unit, cs, h => by simp only [zcOkB, List.isEmpty_iff] at h; exact h

def infoB (P : Program) (i : TypeId) (τ : Ty) : Bool :=
  match P.info? i with
  | none => false
  | some inf => decide (inf.size = τ.size) && decide (inf.bytes = τ.bytes) && match inf.zero with
    | none => false
    | some z => zcOkB τ z.cells.toList && (!τ.isAgg || aggB z) && (τ.isAgg || oneB z)

theorem infoB_sound {P : Program} {i : TypeId} {τ : Ty} (h : infoB P i τ = true) : Info P i τ := by
  unfold infoB at h
  split at h
  · cases h
  · rename_i inf hi
    simp only [Bool.and_eq_true, decide_eq_true_eq] at h
    obtain ⟨⟨h1, hb⟩, h2⟩ := h
    split at h2
    · cases h2
    · rename_i z hz
      simp only [Bool.and_eq_true] at h2
      refine ⟨inf, z, hi, h1, hz, zcOkB_sound _ _ h2.1.1, fun ha => ?_, fun ha => ?_, hb⟩
      · have := h2.1.2
        rw [ha] at this
        cases z <;> simp [aggB] at this
        exact ⟨_, rfl⟩
      · have := h2.2
        rw [ha] at this
        exact oneB_sound (by simpa using this)

mutual
def tyB (P : Program) : Ty → TypeId → Bool
  | .int k, i => (match P.underlying i with | some (.int k') => decide (k = k') | _ => false) && infoB P i (.int k)
  | .bool, i => (match P.underlying i with | some .bool => true | _ => false) && infoB P i .bool
  | .str, i => (match P.underlying i with | some .string => true | _ => false) && infoB P i .str
  | .arr n t, i => match P.underlying i with
    | some (.array n' e) => decide (n = n') && tyB P t e && infoB P i (.arr n t) && (!t.cmp || !(P.eqGuardType P.depth i))
    | _ => false
  | .sl t, i => match P.underlying i with
    | some (.slice e) => tyB P t e && infoB P i (.sl t)
    | _ => false
  | .unit, i => match P.underlying i with
    | some (.struct fs) => fs.toList.isEmpty && infoB P i .unit && !(P.stoodInHeld i)
    | _ => false
  | .pair a b, i => match P.underlying i with
    | some (.struct fs) => (match fs.toList with
      | f :: r => decide (f.offset = 0) && decide (a.size ≠ 0) && decide (f.name ≠ "_") && tyB P a f.type && fieldsB P b r (0 + a.size)
      | [] => false) && infoB P i (.pair a b) && !(P.stoodInHeld i) && (!(a.cmp && b.cmp) || !(P.eqGuardType P.depth i))
    | _ => false
  | .opq, i => (match P.underlying i with | some d => opqDesc d | none => false) && infoB P i .opq
def fieldsB (P : Program) : Ty → List Field → Nat → Bool
  | .unit, fs, _ => fs.isEmpty
  | .pair a b, fs, off => match fs with
    | f :: r => decide (f.offset = off) && decide (a.size ≠ 0) && decide (f.name ≠ "_") && tyB P a f.type && fieldsB P b r (off + a.size)
    | [] => false
  | _, _, _ => false
end

mutual
theorem tyB_sound {P : Program} : ∀ (τ : Ty) (i : TypeId), tyB P τ i = true → TyOk P τ i
  | .int k, i, h => by
    simp only [tyB, Bool.and_eq_true] at h
    refine ⟨?_, infoB_sound h.2⟩
    have := h.1
    split at this
    · rename_i k' hu; rw [hu, of_decide_eq_true this]
    · cases this
  | .bool, i, h => by
    simp only [tyB, Bool.and_eq_true] at h
    refine ⟨?_, infoB_sound h.2⟩
    have := h.1
    split at this
    · assumption
    · cases this
  | .str, i, h => by
    simp only [tyB, Bool.and_eq_true] at h
    refine ⟨?_, infoB_sound h.2⟩
    have := h.1
    split at this
    · assumption
    · cases this
  | .arr n t, i, h => by
    simp only [tyB] at h
    split at h
    · rename_i n' e hu
      simp only [Bool.and_eq_true, decide_eq_true_eq, Bool.or_eq_true, Bool.not_eq_true'] at h
      exact ⟨e, by rw [hu, h.1.1.1], tyB_sound t e h.1.1.2, infoB_sound h.1.2, fun hc => h.2.resolve_left (by rw [hc]; simp)⟩
    · cases h
  | .sl t, i, h => by
    simp only [tyB] at h
    split at h
    · rename_i e hu
      simp only [Bool.and_eq_true] at h
      exact ⟨e, hu, tyB_sound t e h.1, infoB_sound h.2⟩
    · cases h
  | .unit, i, h => by
    simp only [tyB] at h
    split at h
    · rename_i fs hu
      simp only [Bool.and_eq_true, Bool.not_eq_true', List.isEmpty_iff] at h
      refine ⟨?_, infoB_sound h.1.2, h.2⟩
      rw [hu]
      have : fs = #[] := by simpa using h.1.1
      rw [this]
    · cases h
  | .pair a b, i, h => by
    simp only [tyB] at h
    split at h
    · rename_i fs hu
      simp only [Bool.and_eq_true, Bool.or_eq_true, Bool.not_eq_true'] at h
      refine ⟨fs, hu, ?_, infoB_sound h.1.1.2, h.1.2, fun hc => h.2.resolve_left (by simp only [Bool.and_eq_true] at hc; rw [hc.1, hc.2]; simp)⟩
      have h1 := h.1.1.1
      split at h1
      · rename_i f r hf
        simp only [Bool.and_eq_true, decide_eq_true_eq] at h1
        exact ⟨f, r, hf, h1.1.1.1.1, h1.1.1.1.2, h1.1.1.2, tyB_sound a _ h1.1.2, fieldsB_sound b _ _ h1.2⟩
      · cases h1
    · cases h
  | .opq, i, h => by
    simp only [tyB, Bool.and_eq_true] at h
    have h1 := h.1
    split at h1
    · rename_i d hu; exact ⟨d, hu, h1, infoB_sound h.2⟩
    · cases h1
theorem fieldsB_sound {P : Program} : ∀ (τ : Ty) (fs : List Field) (off : Nat), fieldsB P τ fs off = true → FieldsOk P τ fs off
  | .unit, fs, off, h => by simp only [fieldsB, List.isEmpty_iff] at h; exact h
  | .pair a b, fs, off, h => by
    simp only [fieldsB] at h
    split at h
    · rename_i f r
      simp only [Bool.and_eq_true, decide_eq_true_eq] at h
      exact ⟨f, r, rfl, h.1.1.1.1, h.1.1.1.2, h.1.1.2, tyB_sound a _ h.1.2, fieldsB_sound b _ _ h.2⟩
    · cases h
  | .int _, _, _, h => by simp [fieldsB] at h
  | .bool, _, _, h => by simp [fieldsB] at h
  | .str, _, _, h => by simp [fieldsB] at h
  | .arr _ _, _, _, h => by simp [fieldsB] at h
  | .sl _, _, _, h => by simp [fieldsB] at h
  | .opq, _, _, h => by simp [fieldsB] at h
end

def tableB (P : Program) (l : List (Nat × Ty)) : Bool := l.all fun x => tyB P x.2 x.1

theorem look_mem {β : Type} : ∀ {l : List (Nat × β)} {i : Nat} {b : β}, look l i = some b → (i, b) ∈ l
  | (j, c) :: l, i, b, h => by
    simp only [look] at h
    split at h
    · rename_i he
      cases h
      rw [Nat.eq_of_beq_eq_true he]; exact List.mem_cons_self
    · exact List.mem_cons_of_mem _ (look_mem h)

theorem table_ok {P : Program} {l : List (Nat × Ty)} (h : tableB P l = true) : ∀ i τ, look l i = some τ → TyOk P τ i := fun i τ hl => by
  have := List.all_eq_true.1 h _ (look_mem hl)
  exact tyB_sound τ i this

/-! ### an argument that can be read is data -/

section
variable {H : Type} {enc : TypeId × Value → H} {P : Program}

theorem mapM_all2 {α β : Type} {f : α → Option β} : ∀ {l : List α} {m : List β}, l.mapM f = some m → All2 (fun a b => f a = some b) l m
  | [], m, h => by simp at h; subst h; trivial
  | a :: l, m, h => by
    rw [List.mapM_cons] at h
    obtain ⟨b, h1, h2⟩ := Option.bind_eq_some_iff.1 h
    obtain ⟨r, h3, h4⟩ := Option.bind_eq_some_iff.1 h2
    cases h4
    exact ⟨h1, mapM_all2 h3⟩

theorem cellsOf_info {i : TypeId} {τ : Ty} (h : Info P i τ) : P.cellsOf i = τ.size := by
  obtain ⟨inf, z, h1, h2, _⟩ := h
  simp [Program.cellsOf, h1, h2]

theorem cells_spec {w : World} {base : Nat} {a : Addr} {n : Nat} {cs : List Value} (h : w.cells? base a n = some cs) : cs.length = n ∧ ∀ j v, cs[j]? = some v → w.cell? (a.add j) = some v := by
  unfold World.cells? at h
  split at h
  · have h2 := mapM_all2 h
    have hl := h2.length
    simp at hl
    refine ⟨hl.symm, fun j v hj => ?_⟩
    have hjl : j < cs.length := by
      rcases Nat.lt_or_ge j cs.length with h | h
      · exact h
      · rw [List.getElem?_eq_none h] at hj; cases hj
    obtain ⟨hm, hr⟩ := h2.get j (by simpa [hl] using hjl)
    simp only [List.getElem_range] at hr
    rw [hr, ← hj]
    exact (List.getElem?_eq_getElem hm).symm
  · cases h

theorem all2_exists {α β : Type} {R : α → β → Prop} : ∀ {m : List β}, (∀ b ∈ m, ∃ a, R a b) → ∃ l, All2 R l m
  | [], _ => ⟨[], trivial⟩
  | b :: m, h => by
    obtain ⟨a, ha⟩ := h b (by simp)
    obtain ⟨l, hl⟩ := all2_exists (m := m) fun b hb => h b (List.mem_cons_of_mem _ hb)
    exact ⟨a :: l, ha, hl⟩

theorem plain_addr {w : World} {a : Addr} {v : Value} (h : w.cell? a = some v) : a.spot = none ∧ a.block < w.heap.size := by
  unfold World.cell? at h
  split at h
  · rename_i hb
    have hlt := (Array.getElem?_eq_some_iff.1 hb).1
    split at h
    · cases h
    · rename_i hs; exact ⟨by simpa using hs, hlt⟩
  · cases h

/-- what the cells of an argument read as -/
def argEnv (w : World) : Env := ⟨w, fun b _ => b < w.heap.size⟩

/-- a list cut into pieces of one length -/
theorem pieces_flat {n : Nat} : ∀ (k : Nat) (cs : List Value), cs.length = k * n → ((List.range k).map fun i => (cs.drop (i * n)).take n).flatten = cs
  | 0, cs, h => by simp at h; simp [h]
  | k + 1, cs, h => by
    rw [List.range_succ_eq_map]
    simp only [List.map_cons, List.map_map, List.flatten_cons, Nat.zero_mul, List.drop_zero]
    have h1 : (cs.drop n).length = k * n := by simp [h, Nat.add_mul]
    have ih := pieces_flat k (cs.drop n) h1
    have e : ((List.range k).map ((fun i => (cs.drop (i * n)).take n) ∘ Nat.succ)) = (List.range k).map fun i => ((cs.drop n).drop (i * n)).take n := by
      apply List.map_congr_left
      intro i _
      simp only [Function.comp_apply, List.drop_drop, Nat.succ_eq_add_one, Nat.add_mul, Nat.one_mul]
      rw [Nat.add_comm]
    rw [e, ih, List.take_append_drop]

/-- no slice of elements without a cell -/
def Ty.full : Ty → Bool
  | .arr _ t => t.full | .sl t => t.size != 0 && t.full | .pair a b => a.full && b.full | .opq => false | _ => true

/-- what an argument is known to be: integers of their kinds, lengths by 'K' (a text: of bytes) -/
def Fit (K : Ty → Nat → Prop) : (t : Ty) → t.den → Prop
  | .int k, n => inR k n = true
  | .bool, _ => True
  | .str, l => K (.int .u8) (l : List Int).length ∧ (l : List Int).length ≤ maxLen ∧ ∀ b ∈ (l : List Int), 0 ≤ b ∧ b < 256
  | .arr n t, l => (l : List t.den).length = n ∧ ∀ x ∈ (l : List t.den), Fit K t x
  | .sl t, l => K t (l : List t.den).length ∧ (l : List t.den).length ≤ maxLen ∧ ∀ x ∈ (l : List t.den), Fit K t x
  | .unit, _ => True
  | .pair a b, x => Fit K a x.1 ∧ Fit K b x.2
  | .opq, _ => False

/-- a measure of readings that parts inherit -/
structure Small (H : Type) (P : Program) (Q : TypeId → DataW H → Prop) (K : Ty → Nat → Prop) : Prop where
  nil : ∀ τ, K τ 0
  str : ∀ t l, Q t (.lit (.string l)) → K (.int .u8) l.length
  slc : ∀ t e el sp τ, P.underlying t = some (.slice e) → Info P e τ → Q t (.slice el sp) → K τ el.length ∧ ∀ d ∈ el, Q e d
  fld : ∀ t fs ps, P.underlying t = some (.struct fs) → Q t (.agg ps) → ∀ (i : Nat) f d, fs[i]? = some f → ps[i]? = some d → Q f.type d
  arr : ∀ t n e ps, P.underlying t = some (.array n e) → Q t (.agg ps) → ∀ d ∈ ps, Q e d

theorem all2_both {α β : Type} {R S : α → β → Prop} : ∀ {l : List α} {m : List β}, All2 R l m → All2 S l m → All2 (fun a b => R a b ∧ S a b) l m
  | [], [], _, _ => trivial
  | _ :: _, _ :: _, h, g => ⟨⟨h.1, g.1⟩, all2_both h.2 g.2⟩

theorem all2_map {α β γ : Type} {R : α → β → Prop} {f : γ → β} : ∀ {l : List α} {m : List γ}, All2 (fun a c => R a (f c)) l m → All2 R l (m.map f)
  | [], [], _ => trivial
  | _ :: _, _ :: _, h => ⟨h.1, all2_map h.2⟩

theorem all2_left {α β : Type} {R : α → β → Prop} {p : α → Prop} : ∀ {l : List α} {m : List β}, All2 R l m → (∀ a b, b ∈ m → R a b → p a) → ∀ a ∈ l, p a
  | [], [], _, _, _, h => by cases h
  | x :: l, y :: m, h, g, a, ha => by
    rcases List.mem_cons.1 ha with rfl | ha
    · exact g _ y (by simp) h.1
    · exact all2_left h.2 (fun a b hb => g a b (List.mem_cons_of_mem _ hb)) a ha

variable {Q : TypeId → DataW H → Prop} {K : Ty → Nat → Prop}

mutual
theorem flat_of_trod (hQ : Small H P Q K) {w : World} {spare : Nat → Bool} {held : Bool} : ∀ (τ : Ty) (t : TypeId) (fuel : Nat) (cs : List Value) (y : DataW H × List MemPlace), TyOk P τ t → τ.full = true → Q t y.1 →
    DataW.trod enc P w 0 spare held fuel t cs = some y → ∃ x : τ.den, FlatD (argEnv w) τ x cs ∧ Fit K τ x
  | _, _, 0, _, _, _, _, _, h => by simp [DataW.trod] at h
  | .int k, t, fuel + 1, cs, y, ht, _, _, h => by
    obtain ⟨n, rfl, _, hw⟩ := DataW.trod_int ht.1 h
    have hw2 : inR k n = true := by simpa [Lit.wf, inR] using hw
    exact ⟨n, ⟨rfl, hw2⟩, hw2⟩
  | .bool, t, fuel + 1, cs, y, ht, _, _, h => by
    obtain ⟨b, rfl, _⟩ := DataW.trod_bool ht.1 h
    exact ⟨b, rfl, trivial⟩
  | .str, t, fuel + 1, cs, y, ht, _, hq, h => by
    obtain ⟨s, rfl, rfl, hs⟩ := DataW.trod_string ht.1 h
    refine ⟨bytesOf s, ⟨s, rfl, rfl, hs⟩, ?_, ?_, ?_⟩
    · have := hQ.str _ _ hq
      simpa [bytesOf] using this
    · simpa [bytesOf] using hs
    · intro b hb
      simp only [bytesOf, List.mem_map] at hb
      obtain ⟨c, _, rfl⟩ := hb
      have := c.toNat_lt
      omega
  | .arr n τ, t, fuel + 1, cs, y, ht, hf, hq, h => by
    obtain ⟨e, hu, hτ, hi, _⟩ := ht
    obtain ⟨xs, m, hm, rfl, hl, hx, hg⟩ := DataW.trod_array hu h
    have hs : P.cellsOf e = τ.size := cellsOf_info hτ.info
    have hl2 : cs.length = n * τ.size := by rw [hl, cellsOf_info hi]; rfl
    rw [hs] at hg
    have hcs := pieces_flat n cs hl2
    obtain ⟨l, ha⟩ := all2_exists (R := fun (x : τ.den) i => FlatD (argEnv w) τ x ((cs.drop (i * τ.size)).take τ.size) ∧ Fit K τ x) (m := List.range n) (fun i hi => by
      have hin : i < n := by simpa using hi
      have := hg i hin
      rw [List.getElem?_eq_getElem (by omega)] at this
      exact flat_of_trod hQ τ e m _ _ hτ hf (hQ.arr _ _ _ _ hu hq _ (List.mem_map.2 ⟨_, List.getElem_mem (by omega), rfl⟩)) this)
    have hll := ha.length
    refine ⟨l, ⟨by simpa using hll, _, hcs.symm, all2_map (ha.mono fun a b h => h.1)⟩, by simpa using hll, all2_left ha fun a b _ h => h.2⟩
  | .sl τ, t, fuel + 1, cs, y, ht, hf, hq, h => by
    obtain ⟨e, hu, hτ, hi⟩ := ht
    simp only [Ty.full, Bool.and_eq_true, bne_iff_ne] at hf
    have hz : 0 < τ.size := Nat.pos_of_ne_zero (fun h0 => by rw [h0] at hf; simp at hf)
    have hs : P.cellsOf e = τ.size := cellsOf_info hτ.info
    rcases Go.Deep.open_slice hu h with ⟨rfl, _⟩ | ⟨a, len, cap, m, n, D, Pl, rfl, _, hlc, hcap, hm, rfl, hg⟩
    · exact ⟨[], .inl ⟨rfl, rfl⟩, hQ.nil _, by simp, by simp⟩
    · have hml : len ≤ m := by rw [hm]; split <;> omega
      rw [hs] at hg
      obtain ⟨hk, hqe⟩ := hQ.slc _ _ _ _ _ hu hτ.info hq
      have key : ∀ i, ∃ cs', i < len → w.cells? 0 (a.add (i * τ.size)) τ.size = some cs' ∧ ∃ x : τ.den, FlatD (argEnv w) τ x cs' ∧ Fit K τ x := fun i => by
        by_cases hi : i < len
        · obtain ⟨cs', h1, h2⟩ := hg i (by omega)
          exact ⟨cs', fun _ => ⟨h1, flat_of_trod hQ τ e n cs' _ hτ hf.2 (hqe _ (List.mem_map.2 ⟨i, by simpa using hi, rfl⟩)) h2⟩⟩
        · exact ⟨[], fun h => absurd h hi⟩
      obtain ⟨f, hfk⟩ := Classical.axiomOfChoice key
      obtain ⟨l, ha0⟩ := all2_exists (R := fun (x : τ.den) i => FlatD (argEnv w) τ x (f i) ∧ Fit K τ x) (m := List.range len) (fun i hi => (hfk i (by simpa using hi)).2)
      have hll2 : l.length = len := by simpa using ha0.length
      have ha : All2 (FlatD (argEnv w) τ) l ((List.range len).map f) := all2_map (ha0.mono fun a b h => h.1)
      have hcell : ∀ i, i < len → ∀ j, j < τ.size → ∃ v, (f i)[j]? = some v ∧ w.cell? ((a.add (i * τ.size)).add j) = some v := fun i hi j hj => by
        obtain ⟨h1, h2⟩ := cells_spec (hfk i hi).1
        have hx : (f i)[j]? = some (f i)[j] := List.getElem?_eq_getElem (by omega)
        exact ⟨_, hx, h2 j _ hx⟩
      have hlen : ((List.range len).map f).flatten.length = len * τ.size := by
        rw [All2.flat_length (fun a cs h => FlatD.length τ a cs h) ha, hll2]
      have hspot : a.spot = none ∨ l = [] := by
        rcases Nat.eq_zero_or_pos len with h0 | h0
        · right; exact List.eq_nil_of_length_eq_zero (by omega)
        · left
          obtain ⟨v, _, hv⟩ := hcell 0 h0 0 hz
          simpa [Addr.add] using (plain_addr hv).1
      refine ⟨l, .inr ⟨a, cap, (List.range len).map f, by rw [hll2], hspot, by omega, hcap, ha, ?_, fun j v hj => ?_⟩, by rw [hll2]; simpa using hk, by omega, all2_left ha0 fun a b _ h => h.2⟩
      · rcases Nat.eq_zero_or_pos len with h0 | h0
        · left; exact List.eq_nil_of_length_eq_zero (by rw [hlen, h0, Nat.zero_mul])
        · right
          obtain ⟨v, _, hv⟩ := hcell 0 h0 0 hz
          exact ⟨_, Nat.le_refl _, by simpa [Addr.add, argEnv] using (plain_addr hv).2⟩
      · have hjl : j < len * τ.size := by
          rw [← hlen]
          rcases Nat.lt_or_ge j ((List.range len).map f).flatten.length with h' | h'
          · exact h'
          · rw [List.getElem?_eq_none h'] at hj; cases hj
        have hid : j / τ.size < len := Nat.div_lt_of_lt_mul (by rw [Nat.mul_comm]; exact hjl)
        have hjm : j % τ.size < τ.size := Nat.mod_lt _ hz
        obtain ⟨u, hu1, hu2⟩ := hcell _ hid _ hjm
        have hidx : ((List.range len).map f)[j / τ.size]? = some (f (j / τ.size)) := by simp [hid]
        have := getElem?_flatten_of_all2 (fun a cs h => FlatD.length τ a cs h) ha _ _ hidx _ _ hu1
        rw [Nat.mul_comm, Nat.div_add_mod] at this
        rw [hj] at this
        have hsp : a.spot = none := hspot.resolve_right (fun h => by
          rw [h] at hll2; simp only [List.length_nil] at hll2
          rw [← hll2] at hid; exact absurd hid (Nat.not_lt_zero _))
        rw [add_plain a _ hsp, add_plain _ _ rfl] at hu2
        rw [Option.some.inj this, ← hu2]
        show w.cell? _ = _
        congr 2
        have := Nat.div_add_mod j τ.size
        rw [Nat.mul_comm] at this
        simp only; omega
  | .unit, t, fuel + 1, cs, y, ht, hf, _, h => by
    refine ⟨(), ?_, trivial⟩
    obtain ⟨xs, m, hm, rfl, hl, _⟩ := DataW.trod_struct ht.1 h
    rw [cellsOf_info ht.2.1] at hl
    exact List.eq_nil_of_length_eq_zero hl
  | .pair a b, t, fuel + 1, cs, y, ht, hf, hq, h => by
    obtain ⟨fs, hu, ⟨f, r, hfs, ho, hz, hn, hfa, hfr⟩, hi, _⟩ := ht
    simp only [Ty.full, Bool.and_eq_true] at hf
    obtain ⟨xs, m, hm, rfl, hl, hx, hg⟩ := DataW.trod_struct hu h
    rw [cellsOf_info hi] at hl
    simp only [Ty.size] at hl
    have hall : ∀ g ∈ f :: r, ∃ y : DataW H × List MemPlace, Q g.type y.1 ∧ DataW.trod enc P w 0 spare held m g.type ((cs.drop g.offset).take (P.cellsOf g.type)) = some y := fun g hgm => by
      rw [← hfs] at hgm
      obtain ⟨i, hi, rfl⟩ := List.getElem_of_mem hgm
      have hi2 : i < fs.size := by simpa using hi
      have hg2 := hg i _ (Array.getElem?_eq_getElem hi2)
      rw [List.getElem?_eq_getElem (by omega)] at hg2
      refine ⟨xs[i], ?_, by simpa using hg2⟩
      have := hQ.fld _ _ _ hu hq i fs[i] xs[i].1 (Array.getElem?_eq_getElem hi2) (by simp [List.getElem?_eq_getElem (show i < xs.length by omega)])
      simpa using this
    obtain ⟨y1, q1, h1⟩ := hall f (by simp)
    rw [ho, cellsOf_info hfa.info] at h1
    obtain ⟨x1, hx1, ht1⟩ := flat_of_trod hQ a f.type m _ _ hfa hf.1 q1 h1
    obtain ⟨x2, hx2, ht2⟩ := flat_of_fields hQ b r (0 + a.size) m cs hfr hf.2 (fun g hg => hall g (List.mem_cons_of_mem _ hg)) (by omega)
    exact ⟨(x1, x2), ⟨cs.take a.size, cs.drop a.size, (List.take_append_drop _ _).symm, by simpa using hx1, by simpa using hx2⟩, ht1, ht2⟩
  | .opq, t, fuel + 1, cs, y, _, hf, _, h => by simp [Ty.full] at hf
theorem flat_of_fields (hQ : Small H P Q K) {w : World} {spare : Nat → Bool} {held : Bool} : ∀ (τ : Ty) (fs : List Field) (off m : Nat) (cs : List Value), FieldsOk P τ fs off → τ.full = true →
    (∀ g ∈ fs, ∃ y : DataW H × List MemPlace, Q g.type y.1 ∧ DataW.trod enc P w 0 spare held m g.type ((cs.drop g.offset).take (P.cellsOf g.type)) = some y) → cs.length = off + τ.size →
    ∃ x : τ.den, FlatD (argEnv w) τ x (cs.drop off) ∧ Fit K τ x
  | .unit, fs, off, m, cs, hfo, _, _, hl => ⟨(), by
      simp only [FlatD, Ty.size] at hl ⊢
      exact List.eq_nil_of_length_eq_zero (by simp; omega), trivial⟩
  | .pair a b, fs, off, m, cs, hfo, hf, hall, hl => by
    obtain ⟨f, r, rfl, ho, hz, hn, hfa, hfr⟩ := hfo
    simp only [Ty.full, Bool.and_eq_true] at hf
    simp only [Ty.size] at hl
    obtain ⟨y1, q1, h1⟩ := hall f (by simp)
    rw [ho, cellsOf_info hfa.info] at h1
    obtain ⟨x1, hx1, ht1⟩ := flat_of_trod hQ a f.type m _ _ hfa hf.1 q1 h1
    obtain ⟨x2, hx2, ht2⟩ := flat_of_fields hQ b r (off + a.size) m cs hfr hf.2 (fun g hg => hall g (List.mem_cons_of_mem _ hg)) (by omega)
    exact ⟨(x1, x2), ⟨(cs.drop off).take a.size, (cs.drop off).drop a.size, (List.take_append_drop _ _).symm, hx1, by simpa using hx2⟩, ht1, ht2⟩
  | .int _, _, _, _, _, hf, _, _, _ => hf.elim
  | .bool, _, _, _, _, hf, _, _, _ => hf.elim
  | .str, _, _, _, _, hf, _, _, _ => hf.elim
  | .arr _ _, _, _, _, _, hf, _, _, _ => hf.elim
  | .sl _, _, _, _, _, hf, _, _, _ => hf.elim
  | .opq, _, _, _, _, hf, _, _, _ => hf.elim
end

end
end Go.Bx
