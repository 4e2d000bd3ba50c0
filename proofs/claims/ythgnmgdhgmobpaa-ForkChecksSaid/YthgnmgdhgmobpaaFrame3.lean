/- A part of a framework that reads Go code as functions of plain data. -/
import Derived.Test.YthgnmgdhgmobpaaFrame2
import Derived.ProofKit
import Derived.OpenShut
import Derived.Deep.Slices
import Derived.SizedLaws
import Derived.Carry
namespace Go.Bx
set_option linter.unusedVariables false
set_option linter.unusedSimpArgs false
open Go Go.RowKit

/-! ### the types, asked by program -/

def zeqV : Value → Value → Bool
  | .int k n, .int k' m => decide (k = k') && decide (n = m)
  | .bool a, .bool b => a == b
  | .string s, .string s' => decide (s.data = s'.data)
  | .slice none 0 0, .slice none 0 0 => true
  | _, _ => false

theorem zeqV_eq {a b : Value} (h : zeqV a b = true) : a = b := by
  unfold zeqV at h
  split at h
  · simp at h; rw [h.1, h.2]
  · simp at h; rw [h]
  · rename_i s s'
    have : s.data = s'.data := of_decide_eq_true h
    cases s; cases s'; simp at this; rw [this]
  · rfl
  · cases h

def zcB : List Value → List Value → Bool
  | [], [] => true
  | a :: l, b :: m => zeqV a b && zcB l m
  | _, _ => false

theorem zcB_eq : ∀ {l m : List Value}, zcB l m = true → l = m
  | [], [], _ => rfl
  | a :: l, b :: m, h => by
    simp only [zcB, Bool.and_eq_true] at h
    rw [zeqV_eq h.1, zcB_eq h.2]
  | [], _ :: _, h => by simp [zcB] at h
  | _ :: _, [], h => by simp [zcB] at h

def aggB : Value → Bool
  | .agg _ => true
  | _ => false

/-- one cell, neither an aggregate nor a tuple -/
def oneB : Value → Bool
  | .tuple _ => false
  | .agg _ => false
  | _ => true

theorem oneB_sound {v : Value} (h : oneB v = true) : oneCell v := by
  cases v <;> simp [oneB] at h <;> exact ⟨rfl, by simp, by simp⟩

def arrB (f : List Value → Bool) (s : Nat) : Nat → List Value → Bool
  | 0, cs => cs.isEmpty
  | n + 1, cs => f (cs.take s) && arrB f s n (cs.drop s)

/-- the cells of a zero value, asked by program -/
def zcOkB : Ty → List Value → Bool
  | .opq, cs => match cs with
    | [x] => oneB x
    | _ => false
  | .pair a b, cs => zcOkB a (cs.take a.size) && zcOkB b (cs.drop a.size)
  | .arr n t, cs => arrB (zcOkB t) t.size n cs
  | .int k, cs => zcB cs (zc (.int k))
  | .bool, cs => zcB cs (zc .bool)
  | .str, cs => zcB cs (zc .str)
  | .sl t, cs => zcB cs (zc (.sl t))
  | .unit, cs => cs.isEmpty

theorem arrB_sound {f : List Value → Bool} {s : Nat} {p : List Value → Prop} (hf : ∀ cs, f cs = true → p cs) : ∀ (n : Nat) (cs : List Value), arrB f s n cs = true → ∃ css : List (List Value), css.length = n ∧ cs = css.flatten ∧ ∀ c ∈ css, p c
  | 0, cs, h => by simp only [arrB, List.isEmpty_iff] at h; exact ⟨[], rfl, h, fun _ h => by cases h⟩
  | n + 1, cs, h => by
    simp only [arrB, Bool.and_eq_true] at h
    obtain ⟨css, h1, h2, h3⟩ := arrB_sound hf n _ h.2
    refine ⟨cs.take s :: css, by simp [h1], by rw [List.flatten_cons, ← h2, List.take_append_drop], fun c hc => ?_⟩
    rcases List.mem_cons.1 hc with rfl | hc
    · exact hf _ h.1
    · exact h3 c hc

theorem zcOkB_sound : ∀ (τ : Ty) (cs : List Value), zcOkB τ cs = true → zcOk τ cs
  | .opq, [x], h => by simp only [zcOkB] at h; exact ⟨x, rfl, oneB_sound h⟩
  | .opq, [], h => by simp [zcOkB] at h
  | .opq, _ :: _ :: _, h => by simp [zcOkB] at h
  | .pair a b, cs, h => by
    simp only [zcOkB, Bool.and_eq_true] at h
    exact ⟨_, _, (List.take_append_drop a.size cs).symm, zcOkB_sound a _ h.1, zcOkB_sound b _ h.2⟩
  | .arr n t, cs, h => by
    simp only [zcOkB] at h
    obtain ⟨css, h1, h2, h3⟩ := arrB_sound (zcOkB_sound t) n cs h
    exact ⟨css, h1, h2, h3⟩
  | .int k, cs, h => by simp only [zcOkB] at h; exact zcB_eq h
  | .bool, cs, h => by simp only [zcOkB] at h; exact zcB_eq h
  | .str, cs, h => by simp only [zcOkB] at h; exact zcB_eq h
  | .sl t, cs, h => by simp only [zcOkB] at h; exact zcB_eq h
  | .unit, cs, h => by simp only [zcOkB, List.isEmpty_iff] at h; exact h

def infoB (P : Program) (i : TypeId) (τ : Ty) : Bool :=
  match P.info? i with
  | none => false
  | some inf => decide (inf.size = τ.size) && decide (inf.bytes = τ.bytes) && match inf.zero with
    | none => false
    | some z => zcOkB τ z.cells.toList && (!τ.isAgg || aggB z) && (τ.isAgg || oneB z)

theorem infoB_sound {P : Program} {i : TypeId} {τ : Ty} (h : infoB P i τ = true) : Info P i τ := by
  unfold infoB at h
  split at h
  · cases h
  · rename_i inf hi
    simp only [Bool.and_eq_true, decide_eq_true_eq] at h
    obtain ⟨⟨h1, hb⟩, h2⟩ := h
    split at h2
    · cases h2
    · rename_i z hz
      simp only [Bool.and_eq_true] at h2
      refine ⟨inf, z, hi, h1, hz, zcOkB_sound _ _ h2.1.1, fun ha => ?_, fun ha => ?_, hb⟩
      · have := h2.1.2
        rw [ha] at this
        cases z <;> simp [aggB] at this
        exact ⟨_, rfl⟩
      · have := h2.2
        rw [ha] at this
        exact oneB_sound (by simpa using this)

mutual
def tyB (P : Program) : Ty → TypeId → Bool
  | .int k, i => (match P.underlying i with | some (.int k') => decide (k = k') | _ => false) && infoB P i (.int k)
  | .bool, i => (match P.underlying i with | some .bool => true | _ => false) && infoB P i .bool
  | .str, i => (match P.underlying i with | some .string => true | _ => false) && infoB P i .str
  | .arr n t, i => match P.underlying i with
    | some (.array n' e) => decide (n = n') && tyB P t e && infoB P i (.arr n t) && (!t.cmp || !(P.eqGuardType P.depth i))
    | _ => false
  | .sl t, i => match P.underlying i with
    | some (.slice e) => tyB P t e && infoB P i (.sl t)
    | _ => false
  | .unit, i => match P.underlying i with
    | some (.struct fs) => fs.toList.isEmpty && infoB P i .unit && !(P.stoodInHeld i)
    | _ => false
  | .pair a b, i => match P.underlying i with
    | some (.struct fs) => (match fs.toList with
      | f :: r => decide (f.offset = 0) && decide (a.size ≠ 0) && decide (f.name ≠ "_") && tyB P a f.type && fieldsB P b r (0 + a.size)
      | [] => false) && infoB P i (.pair a b) && !(P.stoodInHeld i) && (!(a.cmp && b.cmp) || !(P.eqGuardType P.depth i))
    | _ => false
  | .opq, i => (match P.underlying i with | some d => opqDesc d | none => false) && infoB P i .opq
def fieldsB (P : Program) : Ty → List Field → Nat → Bool
  | .unit, fs, _ => fs.isEmpty
  | .pair a b, fs, off => match fs with
    | f :: r => decide (f.offset = off) && decide (a.size ≠ 0) && decide (f.name ≠ "_") && tyB P a f.type && fieldsB P b r (off + a.size)
    | [] => false
  | _, _, _ => false
end

mutual
theorem tyB_sound {P : Program} : ∀ (τ : Ty) (i : TypeId), tyB P τ i = true → TyOk P τ i
  | .int k, i, h => by
    simp only [tyB, Bool.and_eq_true] at h
    refine ⟨?_, infoB_sound h.2⟩
    have := h.1
    split at this
    · rename_i k' hu; rw [hu, of_decide_eq_true this]
    · cases this
  | .bool, i, h => by
    simp only [tyB, Bool.and_eq_true] at h
    refine ⟨?_, infoB_sound h.2⟩
    have := h.1
    split at this
    · assumption
    · cases this
  | .str, i, h => by
    simp only [tyB, Bool.and_eq_true] at h
    refine ⟨?_, infoB_sound h.2⟩
    have := h.1
    split at this
    · assumption
    · cases this
  | .arr n t, i, h => by
    simp only [tyB] at h
    split at h
    · rename_i n' e hu
      simp only [Bool.and_eq_true, decide_eq_true_eq, Bool.or_eq_true, Bool.not_eq_true'] at h
      exact ⟨e, by rw [hu, h.1.1.1], tyB_sound t e h.1.1.2, infoB_sound h.1.2, fun hc => h.2.resolve_left (by rw [hc]; simp)⟩
    · cases h
  | .sl t, i, h => by
    simp only [tyB] at h
    split at h
    · rename_i e hu
      simp only [Bool.and_eq_true] at h
      exact ⟨e, hu, tyB_sound t e h.1, infoB_sound h.2⟩
    · cases h
  | .unit, i, h => by
    simp only [tyB] at h
    split at h
    · rename_i fs hu
      simp only [Bool.and_eq_true, Bool.not_eq_true', List.isEmpty_iff] at h
      refine ⟨?_, infoB_sound h.1.2, h.2⟩
      rw [hu]
      have : fs = #[] := by simpa using h.1.1
      rw [this]
    · cases h
  | .pair a b, i, h => by
    simp only [tyB] at h
    split at h
    · rename_i fs hu
      simp only [Bool.and_eq_true, Bool.or_eq_true, Bool.not_eq_true'] at h
      refine ⟨fs, hu, ?_, infoB_sound h.1.1.2, h.1.2, fun hc => h.2.resolve_left (by simp only [Bool.and_eq_true] at hc; rw [hc.1, hc.2]; simp)⟩
      have h1 := h.1.1.1
      split at h1
      · rename_i f r hf
        simp only [Bool.and_eq_true, decide_eq_true_eq] at h1
        exact ⟨f, r, hf, h1.1.1.1.1, h1.1.1.1.2, h1.1.1.2, tyB_sound a _ h1.1.2, fieldsB_sound b _ _ h1.2⟩
      · cases h1
    · cases h
  | .opq, i, h => by
    simp only [tyB, Bool.and_eq_true] at h
    have h1 := h.1
    split at h1
    · rename_i d hu; exact ⟨d, hu, h1, infoB_sound h.2⟩
    · cases h1
theorem fieldsB_sound {P : Program} : ∀ (τ : Ty) (fs : List Field) (off : Nat), fieldsB P τ fs off = true → FieldsOk P τ fs off
  | .unit, fs, off, h => by simp only [fieldsB, List.isEmpty_iff] at h; exact h
  | .pair a b, fs, off, h => by
    simp only [fieldsB] at h
    split at h
    · rename_i f r
      simp only [Bool.and_eq_true, decide_eq_true_eq] at h
      exact ⟨f, r, rfl, h.1.1.1.1, h.1.1.1.2, h.1.1.2, tyB_sound a _ h.1.2, fieldsB_sound b _ _ h.2⟩
    · cases h
  | .int _, _, _, h => by simp [fieldsB] at h
  | .bool, _, _, h => by simp [fieldsB] at h
  | .str, _, _, h => by simp [fieldsB] at h
  | .arr _ _, _, _, h => by simp [fieldsB] at h
  | .sl _, _, _, h => by simp [fieldsB] at h
  | .opq, _, _, h => by simp [fieldsB] at h
end

def tableB (P : Program) (l : List (Nat × Ty)) : Bool := l.all fun x => tyB P x.2 x.1

theorem look_mem {β : Type} : ∀ {l : List (Nat × β)} {i : Nat} {b : β}, look l i = some b → (i, b) ∈ l
  | (j, c) :: l, i, b, h => by
    simp only [look] at h
    split at h
    · rename_i he
      cases h
      rw [Nat.eq_of_beq_eq_true he]; exact List.mem_cons_self
    · exact List.mem_cons_of_mem _ (look_mem h)

theorem table_ok {P : Program} {l : List (Nat × Ty)} (h : tableB P l = true) : ∀ i τ, look l i = some τ → TyOk P τ i := fun i τ hl => by
  have := List.all_eq_true.1 h _ (look_mem hl)
  exact tyB_sound τ i this

/-! ### an argument that can be read is data -/

section
variable {H : Type} {enc : TypeId × Value → H} {P : Program}

theorem mapM_all2 {α β : Type} {f : α → Option β} : ∀ {l : List α} {m : List β}, l.mapM f = some m → All2 (fun a b => f a = some b) l m
  | [], m, h => by simp at h; subst h; trivial
  | a :: l, m, h => by
    rw [List.mapM_cons] at h
    obtain ⟨b, h1, h2⟩ := Option.bind_eq_some_iff.1 h
    obtain ⟨r, h3, h4⟩ := Option.bind_eq_some_iff.1 h2
    cases h4
    exact ⟨h1, mapM_all2 h3⟩

theorem cellsOf_info {i : TypeId} {τ : Ty} (h : Info P i τ) : P.cellsOf i = τ.size := by
  obtain ⟨inf, z, h1, h2, _⟩ := h
  simp [Program.cellsOf, h1, h2]

theorem cells_spec {w : World} {base : Nat} {a : Addr} {n : Nat} {cs : List Value} (h : w.cells? base a n = some cs) : cs.length = n ∧ ∀ j v, cs[j]? = some v → w.cell? (a.add j) = some v := by
  unfold World.cells? at h
  split at h
  · have h2 := mapM_all2 h
    have hl := h2.length
    simp at hl
    refine ⟨hl.symm, fun j v hj => ?_⟩
    have hjl : j < cs.length := by
      rcases Nat.lt_or_ge j cs.length with h | h
      · exact h
      · rw [List.getElem?_eq_none h] at hj; cases hj
    obtain ⟨hm, hr⟩ := h2.get j (by simpa [hl] using hjl)
    simp only [List.getElem_range] at hr
    rw [hr, ← hj]
    exact (List.getElem?_eq_getElem hm).symm
  · cases h

theorem all2_exists {α β : Type} {R : α → β → Prop} : ∀ {m : List β}, (∀ b ∈ m, ∃ a, R a b) → ∃ l, All2 R l m
  | [], _ => ⟨[], trivial⟩
  | b :: m, h => by
    obtain ⟨a, ha⟩ := h b (by simp)
    obtain ⟨l, hl⟩ := all2_exists (m := m) fun b hb => h b (List.mem_cons_of_mem _ hb)
    exact ⟨a :: l, ha, hl⟩

theorem plain_addr {w : World} {a : Addr} {v : Value} (h : w.cell? a = some v) : a.spot = none ∧ a.block < w.heap.size := by
  unfold World.cell? at h
  split at h
  · rename_i hb
    have hlt := (Array.getElem?_eq_some_iff.1 hb).1
    split at h
    · cases h
    · rename_i hs; exact ⟨by simpa using hs, hlt⟩
  · cases h

/-- what the cells of an argument read as -/
def argEnv (w : World) : Env := ⟨w, fun b _ => b < w.heap.size⟩

/-- a list cut into pieces of one length -/
theorem pieces_flat {n : Nat} : ∀ (k : Nat) (cs : List Value), cs.length = k * n → ((List.range k).map fun i => (cs.drop (i * n)).take n).flatten = cs
  | 0, cs, h => by simp at h; simp [h]
  | k + 1, cs, h => by
    rw [List.range_succ_eq_map]
    simp only [List.map_cons, List.map_map, List.flatten_cons, Nat.zero_mul, List.drop_zero]
    have h1 : (cs.drop n).length = k * n := by simp [h, Nat.add_mul]
    have ih := pieces_flat k (cs.drop n) h1
    have e : ((List.range k).map ((fun i => (cs.drop (i * n)).take n) ∘ Nat.succ)) = (List.range k).map fun i => ((cs.drop n).drop (i * n)).take n := by
      apply List.map_congr_left
      intro i _
      simp only [Function.comp_apply, List.drop_drop, Nat.succ_eq_add_one, Nat.add_mul, Nat.one_mul]
      rw [Nat.add_comm]
    rw [e, ih, List.take_append_drop]

/-- no slice of elements without a cell -/
def Ty.full : Ty → Bool
  | .arr _ t => t.full | .sl t => t.size != 0 && t.full | .pair a b => a.full && b.full | .opq => false | _ => true

/-- what an argument is known to be: integers of their kinds, lengths by 'K' (a text: of bytes) -/
def Fit (K : Ty → Nat → Prop) : (t : Ty) → t.den → Prop
  | .int k, n => inR k n = true
  | .bool, _ => True
  | .str, l => K (.int .u8) (l : List Int).length ∧ (l : List Int).length ≤ maxLen ∧ ∀ b ∈ (l : List Int), 0 ≤ b ∧ b < 256
  | .arr n t, l => (l : List t.den).length = n ∧ ∀ x ∈ (l : List t.den), Fit K t x
  | .sl t, l => K t (l : List t.den).length ∧ (l : List t.den).length ≤ maxLen ∧ ∀ x ∈ (l : List t.den), Fit K t x
  | .unit, _ => True
  | .pair a b, x => Fit K a x.1 ∧ Fit K b x.2
  | .opq, _ => False

/-- a measure of readings that parts inherit -/
structure Small (H : Type) (P : Program) (Q : TypeId → DataW H → Prop) (K : Ty → Nat → Prop) : Prop where
  nil : ∀ τ, K τ 0
  str : ∀ t l, Q t (.lit (.string l)) → K (.int .u8) l.length
  slc : ∀ t e el sp τ, P.underlying t = some (.slice e) → Info P e τ → Q t (.slice el sp) → K τ el.length ∧ ∀ d ∈ el, Q e d
  fld : ∀ t fs ps, P.underlying t = some (.struct fs) → Q t (.agg ps) → ∀ (i : Nat) f d, fs[i]? = some f → ps[i]? = some d → Q f.type d
  arr : ∀ t n e ps, P.underlying t = some (.array n e) → Q t (.agg ps) → ∀ d ∈ ps, Q e d

theorem all2_both {α β : Type} {R S : α → β → Prop} : ∀ {l : List α} {m : List β}, All2 R l m → All2 S l m → All2 (fun a b => R a b ∧ S a b) l m
  | [], [], _, _ => trivial
  | _ :: _, _ :: _, h, g => ⟨⟨h.1, g.1⟩, all2_both h.2 g.2⟩

theorem all2_map {α β γ : Type} {R : α → β → Prop} {f : γ → β} : ∀ {l : List α} {m : List γ}, All2 (fun a c => R a (f c)) l m → All2 R l (m.map f)
  | [], [], _ => trivial
  | _ :: _, _ :: _, h => ⟨h.1, all2_map h.2⟩

theorem all2_left {α β : Type} {R : α → β → Prop} {p : α → Prop} : ∀ {l : List α} {m : List β}, All2 R l m → (∀ a b, b ∈ m → R a b → p a) → ∀ a ∈ l, p a
  | [], [], _, _, _, h => by cases h
  | x :: l, y :: m, h, g, a, ha => by
    rcases List.mem_cons.1 ha with rfl | ha
    · exact g _ y (by simp) h.1
    · exact all2_left h.2 (fun a b hb => g a b (List.mem_cons_of_mem _ hb)) a ha

variable {Q : TypeId → DataW H → Prop} {K : Ty → Nat → Prop}

mutual
theorem flat_of_trod (hQ : Small H P Q K) {w : World} {spare : Nat → Bool} {held : Bool} : ∀ (τ : Ty) (t : TypeId) (fuel : Nat) (cs : List Value) (y : DataW H × List MemPlace), TyOk P τ t → τ.full = true → Q t y.1 →
    DataW.trod enc P w 0 spare held fuel t cs = some y → ∃ x : τ.den, FlatD (argEnv w) τ x cs ∧ Fit K τ x
  | _, _, 0, _, _, _, _, _, h => by simp [DataW.trod] at h
  | .int k, t, fuel + 1, cs, y, ht, _, _, h => by
    obtain ⟨n, rfl, _, hw⟩ := DataW.trod_int ht.1 h
    have hw2 : inR k n = true := by simpa [Lit.wf, inR] using hw
    exact ⟨n, ⟨rfl, hw2⟩, hw2⟩
  | .bool, t, fuel + 1, cs, y, ht, _, _, h => by
    obtain ⟨b, rfl, _⟩ := DataW.trod_bool ht.1 h
    exact ⟨b, rfl, trivial⟩
  | .str, t, fuel + 1, cs, y, ht, _, hq, h => by
    obtain ⟨s, rfl, rfl, hs⟩ := DataW.trod_string ht.1 h
    refine ⟨bytesOf s, ⟨s, rfl, rfl, hs⟩, ?_, ?_, ?_⟩
    · have := hQ.str _ _ hq
      simpa [bytesOf] using this
    · simpa [bytesOf] using hs
    · intro b hb
      simp only [bytesOf, List.mem_map] at hb
      obtain ⟨c, _, rfl⟩ := hb
      have := c.toNat_lt
      omega
  | .arr n τ, t, fuel + 1, cs, y, ht, hf, hq, h => by
    obtain ⟨e, hu, hτ, hi, _⟩ := ht
    obtain ⟨xs, m, hm, rfl, hl, hx, hg⟩ := DataW.trod_array hu h
    have hs : P.cellsOf e = τ.size := cellsOf_info hτ.info
    have hl2 : cs.length = n * τ.size := by rw [hl, cellsOf_info hi]; rfl
    rw [hs] at hg
    have hcs := pieces_flat n cs hl2
    obtain ⟨l, ha⟩ := all2_exists (R := fun (x : τ.den) i => FlatD (argEnv w) τ x ((cs.drop (i * τ.size)).take τ.size) ∧ Fit K τ x) (m := List.range n) (fun i hi => by
      have hin : i < n := by simpa using hi
      have := hg i hin
      rw [List.getElem?_eq_getElem (by omega)] at this
      exact flat_of_trod hQ τ e m _ _ hτ hf (hQ.arr _ _ _ _ hu hq _ (List.mem_map.2 ⟨_, List.getElem_mem (by omega), rfl⟩)) this)
    have hll := ha.length
    refine ⟨l, ⟨by simpa using hll, _, hcs.symm, all2_map (ha.mono fun a b h => h.1)⟩, by simpa using hll, all2_left ha fun a b _ h => h.2⟩
  | .sl τ, t, fuel + 1, cs, y, ht, hf, hq, h => by
    obtain ⟨e, hu, hτ, hi⟩ := ht
    simp only [Ty.full, Bool.and_eq_true, bne_iff_ne] at hf
    have hz : 0 < τ.size := Nat.pos_of_ne_zero (fun h0 => by rw [h0] at hf; simp at hf)
    have hs : P.cellsOf e = τ.size := cellsOf_info hτ.info
    rcases Go.Deep.open_slice hu h with ⟨rfl, _⟩ | ⟨a, len, cap, m, n, D, Pl, rfl, _, hlc, hcap, hm, rfl, hg⟩
    · exact ⟨[], .inl ⟨rfl, rfl⟩, hQ.nil _, by simp, by simp⟩
    · have hml : len ≤ m := by rw [hm]; split <;> omega
      rw [hs] at hg
      obtain ⟨hk, hqe⟩ := hQ.slc _ _ _ _ _ hu hτ.info hq
      have key : ∀ i, ∃ cs', i < len → w.cells? 0 (a.add (i * τ.size)) τ.size = some cs' ∧ ∃ x : τ.den, FlatD (argEnv w) τ x cs' ∧ Fit K τ x := fun i => by
        by_cases hi : i < len
        · obtain ⟨cs', h1, h2⟩ := hg i (by omega)
          exact ⟨cs', fun _ => ⟨h1, flat_of_trod hQ τ e n cs' _ hτ hf.2 (hqe _ (List.mem_map.2 ⟨i, by simpa using hi, rfl⟩)) h2⟩⟩
        · exact ⟨[], fun h => absurd h hi⟩
      obtain ⟨f, hfk⟩ := Classical.axiomOfChoice key
      obtain ⟨l, ha0⟩ := all2_exists (R := fun (x : τ.den) i => FlatD (argEnv w) τ x (f i) ∧ Fit K τ x) (m := List.range len) (fun i hi => (hfk i (by simpa using hi)).2)
      have hll2 : l.length = len := by simpa using ha0.length
      have ha : All2 (FlatD (argEnv w) τ) l ((List.range len).map f) := all2_map (ha0.mono fun a b h => h.1)
      have hcell : ∀ i, i < len → ∀ j, j < τ.size → ∃ v, (f i)[j]? = some v ∧ w.cell? ((a.add (i * τ.size)).add j) = some v := fun i hi j hj => by
        obtain ⟨h1, h2⟩ := cells_spec (hfk i hi).1
        have hx : (f i)[j]? = some (f i)[j] := List.getElem?_eq_getElem (by omega)
        exact ⟨_, hx, h2 j _ hx⟩
      have hlen : ((List.range len).map f).flatten.length = len * τ.size := by
        rw [All2.flat_length (fun a cs h => FlatD.length τ a cs h) ha, hll2]
      have hspot : a.spot = none ∨ l = [] := by
        rcases Nat.eq_zero_or_pos len with h0 | h0
        · right; exact List.eq_nil_of_length_eq_zero (by omega)
        · left
          obtain ⟨v, _, hv⟩ := hcell 0 h0 0 hz
          simpa [Addr.add] using (plain_addr hv).1
      refine ⟨l, .inr ⟨a, cap, (List.range len).map f, by rw [hll2], hspot, by omega, hcap, ha, ?_, fun j v hj => ?_⟩, by rw [hll2]; simpa using hk, by omega, all2_left ha0 fun a b _ h => h.2⟩
      · rcases Nat.eq_zero_or_pos len with h0 | h0
        · left; exact List.eq_nil_of_length_eq_zero (by rw [hlen, h0, Nat.zero_mul])
        · right
          obtain ⟨v, _, hv⟩ := hcell 0 h0 0 hz
          exact ⟨_, Nat.le_refl _, by simpa [Addr.add, argEnv] using (plain_addr hv).2⟩
      · have hjl : j < len * τ.size := by
          rw [← hlen]
          rcases Nat.lt_or_ge j ((List.range len).map f).flatten.length with h' | h'
          · exact h'
          · rw [List.getElem?_eq_none h'] at hj; cases hj
        have hid : j / τ.size < len := Nat.div_lt_of_lt_mul (by rw [Nat.mul_comm]; exact hjl)
        have hjm : j % τ.size < τ.size := Nat.mod_lt _ hz
        obtain ⟨u, hu1, hu2⟩ := hcell _ hid _ hjm
        have hidx : ((List.range len).map f)[j / τ.size]? = some (f (j / τ.size)) := by simp [hid]
        have := getElem?_flatten_of_all2 (fun a cs h => FlatD.length τ a cs h) ha _ _ hidx _ _ hu1
        rw [Nat.mul_comm, Nat.div_add_mod] at this
        rw [hj] at this
        have hsp : a.spot = none := hspot.resolve_right (fun h => by
          rw [h] at hll2; simp only [List.length_nil] at hll2
          rw [← hll2] at hid; exact absurd hid (Nat.not_lt_zero _))
        rw [add_plain a _ hsp, add_plain _ _ rfl] at hu2
        rw [Option.some.inj this, ← hu2]
        show w.cell? _ = _
        congr 2
        have := Nat.div_add_mod j τ.size
        rw [Nat.mul_comm] at this
        simp only; omega
  | .unit, t, fuel + 1, cs, y, ht, hf, _, h => by
    refine ⟨(), ?_, trivial⟩
    obtain ⟨xs, m, hm, rfl, hl, _⟩ := DataW.trod_struct ht.1 h
    rw [cellsOf_info ht.2.1] at hl
    exact List.eq_nil_of_length_eq_zero hl
  | .pair a b, t, fuel + 1, cs, y, ht, hf, hq, h => by
    obtain ⟨fs, hu, ⟨f, r, hfs, ho, hz, hn, hfa, hfr⟩, hi, _⟩ := ht
    simp only [Ty.full, Bool.and_eq_true] at hf
    obtain ⟨xs, m, hm, rfl, hl, hx, hg⟩ := DataW.trod_struct hu h
    rw [cellsOf_info hi] at hl
    simp only [Ty.size] at hl
    have hall : ∀ g ∈ f :: r, ∃ y : DataW H × List MemPlace, Q g.type y.1 ∧ DataW.trod enc P w 0 spare held m g.type ((cs.drop g.offset).take (P.cellsOf g.type)) = some y := fun g hgm => by
      rw [← hfs] at hgm
      obtain ⟨i, hi, rfl⟩ := List.getElem_of_mem hgm
      have hi2 : i < fs.size := by simpa using hi
      have hg2 := hg i _ (Array.getElem?_eq_getElem hi2)
      rw [List.getElem?_eq_getElem (by omega)] at hg2
      refine ⟨xs[i], ?_, by simpa using hg2⟩
      have := hQ.fld _ _ _ hu hq i fs[i] xs[i].1 (Array.getElem?_eq_getElem hi2) (by simp [List.getElem?_eq_getElem (show i < xs.length by omega)])
      simpa using this
    obtain ⟨y1, q1, h1⟩ := hall f (by simp)
    rw [ho, cellsOf_info hfa.info] at h1
    obtain ⟨x1, hx1, ht1⟩ := flat_of_trod hQ a f.type m _ _ hfa hf.1 q1 h1
    obtain ⟨x2, hx2, ht2⟩ := flat_of_fields hQ b r (0 + a.size) m cs hfr hf.2 (fun g hg => hall g (List.mem_cons_of_mem _ hg)) (by omega)
    exact ⟨(x1, x2), ⟨cs.take a.size, cs.drop a.size, (List.take_append_drop _ _).symm, by simpa using hx1, by simpa using hx2⟩, ht1, ht2⟩
  | .opq, t, fuel + 1, cs, y, _, hf, _, h => by simp [Ty.full] at hf
theorem flat_of_fields (hQ : Small H P Q K) {w : World} {spare : Nat → Bool} {held : Bool} : ∀ (τ : Ty) (fs : List Field) (off m : Nat) (cs : List Value), FieldsOk P τ fs off → τ.full = true →
    (∀ g ∈ fs, ∃ y : DataW H × List MemPlace, Q g.type y.1 ∧ DataW.trod enc P w 0 spare held m g.type ((cs.drop g.offset).take (P.cellsOf g.type)) = some y) → cs.length = off + τ.size →
    ∃ x : τ.den, FlatD (argEnv w) τ x (cs.drop off) ∧ Fit K τ x
  | .unit, fs, off, m, cs, hfo, _, _, hl => ⟨(), by
      simp only [FlatD, Ty.size] at hl ⊢
      exact List.eq_nil_of_length_eq_zero (by simp; omega), trivial⟩
  | .pair a b, fs, off, m, cs, hfo, hf, hall, hl => by
    obtain ⟨f, r, rfl, ho, hz, hn, hfa, hfr⟩ := hfo
    simp only [Ty.full, Bool.and_eq_true] at hf
    simp only [Ty.size] at hl
    obtain ⟨y1, q1, h1⟩ := hall f (by simp)
    rw [ho, cellsOf_info hfa.info] at h1
    obtain ⟨x1, hx1, ht1⟩ := flat_of_trod hQ a f.type m _ _ hfa hf.1 q1 h1
    obtain ⟨x2, hx2, ht2⟩ := flat_of_fields hQ b r (off + a.size) m cs hfr hf.2 (fun g hg => hall g (List.mem_cons_of_mem _ hg)) (by omega)
    exact ⟨(x1, x2), ⟨(cs.drop off).take a.size, (cs.drop off).drop a.size, (List.take_append_drop _ _).symm, hx1, by simpa using hx2⟩, ht1, ht2⟩
  | .int _, _, _, _, _, hf, _, _, _ => hf.elim
  | .bool, _, _, _, _, hf, _, _, _ => hf.elim
  | .str, _, _, _, _, hf, _, _, _ => hf.elim
  | .arr _ _, _, _, _, _, hf, _, _, _ => hf.elim
  | .sl _, _, _, _, _, hf, _, _, _ => hf.elim
  | .opq, _, _, _, _, hf, _, _, _ => hf.elim
end

end
end Go.Bx
namespace Go.Bx
set_option linter.unusedVariables false
set_option linter.unusedSimpArgs false
open Go Go.RowKit

/-- lengths of what the form's reach allows -/
def reachK (τ : Ty) (n : Nat) : Prop := n * τ.bytes ≤ reachBytes

section
variable {H : Type} {enc : TypeId × Value → H} {P : Program}

def light (H : Type) (P : Program) (t : TypeId) (d : DataW H) : Prop := ∀ n ∈ d.weights P t, n ≤ reachBytes

theorem weights_all {e : TypeId} : ∀ {l : List (DataW H)} {d : DataW H}, d ∈ l → ∀ n ∈ d.weights P e, n ∈ DataW.weightsAll P e l
  | x :: l, d, h, n, hn => by
    simp only [DataW.weightsAll, List.mem_append]
    rcases List.mem_cons.1 h with rfl | h
    · exact .inl hn
    · exact .inr (weights_all h n hn)

theorem small_reach : Small H P (light H P) reachK where
  nil := fun τ => by simp [reachK]
  str := fun t l h => by
    have := h l.length (by simp [DataW.weights])
    simpa [reachK, Ty.bytes, IntKind.bits] using this
  slc := fun t e el sp τ hu hi h => by
    obtain ⟨inf, z, h1, h2, h3, h4, h5, h6⟩ := hi
    have hb : P.bytesOf e = τ.bytes := by simp [Program.bytesOf, h1, h6]
    constructor
    · have := h _ (by simp only [DataW.weights, hu]; exact List.mem_cons_self)
      rw [hb, Nat.add_mul] at this
      unfold reachK; omega
    · intro d hd n hn
      exact h n (by simp only [DataW.weights, hu]; exact List.mem_cons_of_mem _ (List.mem_append_left _ (weights_all hd n hn)))
  fld := fun t fs ps hu h i f d hf hd n hn => h n (by
    simp only [DataW.weights, hu]
    exact DataW.weights_mem_each (j := i) (t := f.type) (by simp [hf]) hd n hn)
  arr := fun t m e ps hu h d hd n hn => h n (by simp only [DataW.weights, hu]; exact weights_all hd n hn)

/-- the arguments' types -/
def ArgTys (P : Program) : Ty → List TypeId → Prop
  | .unit, [] => True
  | .pair a b, t :: ts => TyOk P a t ∧ a.full = true ∧ ArgTys P b ts
  | _, _ => False

def argTysB (P : Program) : Ty → List TypeId → Bool
  | .unit, ts => ts.isEmpty
  | .pair a b, ts => match ts with
    | t :: ts => tyB P a t && a.full && argTysB P b ts
    | [] => false
  | _, _ => false

theorem argTysB_sound : ∀ {τ : Ty} {ts : List TypeId}, argTysB P τ ts = true → ArgTys P τ ts
  | .unit, ts, h => by
    simp only [argTysB, List.isEmpty_iff] at h
    subst h; trivial
  | .pair a b, ts, h => by
    cases ts with
    | nil => simp [argTysB] at h
    | cons t ts =>
      simp only [argTysB, Bool.and_eq_true] at h
      exact ⟨tyB_sound a t h.1.1, h.1.2, argTysB_sound h.2⟩
  | .int _, _, h => by simp [argTysB] at h
  | .bool, _, h => by simp [argTysB] at h
  | .str, _, h => by simp [argTysB] at h
  | .arr _ _, _, h => by simp [argTysB] at h
  | .sl _, _, h => by simp [argTysB] at h
  | .opq, _, h => by simp [argTysB] at h

theorem at_of_flat {E : Env} {w : World} {r : Reach} {base : Nat} {τ : Ty} {t : TypeId} {x : τ.den} {v : Value} (ht : TyOk P τ t) (ho : Value.okWide P w r base t v) (h : FlatD E τ x v.cells.toList) : AtD E τ x v := by
  unfold Value.okWide at ho
  cases τ with
  | int k =>
    rw [ht.1] at ho
    simp only [Cell.okWide, ht.1] at ho
    cases v <;> simp [Cell.ok, ht.1] at ho
    simpa [AtD, Ty.isAgg, Value.cells] using h
  | bool =>
    rw [ht.1] at ho
    simp only [Cell.okWide, ht.1] at ho
    cases v <;> simp [Cell.ok, ht.1] at ho
    simpa [AtD, Ty.isAgg, Value.cells] using h
  | str =>
    rw [ht.1] at ho
    simp only [Cell.okWide, ht.1] at ho
    cases v <;> simp [Cell.ok, ht.1] at ho
    simpa [AtD, Ty.isAgg, Value.cells] using h
  | arr n τ =>
    obtain ⟨e, hu, _⟩ := ht
    rw [hu] at ho
    obtain ⟨cs, rfl, _⟩ := ho
    exact ⟨cs, rfl, by simpa [Value.cells] using h⟩
  | sl τ =>
    obtain ⟨e, hu, _⟩ := ht
    rw [hu] at ho
    simp only [Cell.okWide, hu] at ho
    cases v <;> simp [Cell.ok, hu] at ho
    simpa [AtD, Ty.isAgg, Value.cells] using h
  | unit =>
    rw [ht.1] at ho
    obtain ⟨cs, rfl, _⟩ := ho
    exact ⟨cs, rfl, by simpa [Value.cells] using h⟩
  | pair a b =>
    obtain ⟨fs, hu, _⟩ := ht
    rw [hu] at ho
    obtain ⟨cs, rfl, _⟩ := ho
    exact ⟨cs, rfl, by simpa [Value.cells] using h⟩
  | opq => cases v <;> simp [FlatD] at h

theorem args_of_trod {Q : TypeId → DataW H → Prop} {K : Ty → Nat → Prop} (hQ : Small H P Q K) {w w2 : World} {r : Reach} {base : Nat} {spare : Nat → Bool} {held : Bool} :
    ∀ (ps : Ty) (ts : List TypeId) (vs : List Value) (ds : List (DataW H)) (p : List MemPlace), ArgTys P ps ts → DataW.TrodAll enc P w 0 spare held ts vs ds p →
    (∀ (j : Nat) t v, ts[j]? = some t → vs[j]? = some v → Value.okWide P w2 r base t v) → (∀ (j : Nat) t d, ts[j]? = some t → ds[j]? = some d → Q t d) → ∃ x : ps.den, ArgsAt (argEnv w) ps x vs ∧ Fit K ps x
  | .unit, [], [], [], _, _, _, _, _ => ⟨(), rfl, trivial⟩
  | .unit, [], _ :: _, _, _, _, h, _, _ => by simp [DataW.TrodAll] at h
  | .unit, [], [], _ :: _, _, _, h, _, _ => by simp [DataW.TrodAll] at h
  | .unit, _ :: _, _, _, _, ht, _, _, _ => ht.elim
  | .pair a b, [], _, _, _, ht, _, _, _ => ht.elim
  | .pair a b, t :: ts, [], _, _, _, h, _, _ => by simp [DataW.TrodAll] at h
  | .pair a b, t :: ts, _ :: _, [], _, _, h, _, _ => by simp [DataW.TrodAll] at h
  | .pair a b, t :: ts, v :: vs, d :: ds, _, ⟨h1, h2, h3⟩, ⟨p, q, ⟨fuel, hd⟩, hr, _⟩, ho, hq => by
    obtain ⟨x, hx, hf⟩ := flat_of_trod hQ a t fuel _ _ h1 h2 (hq 0 t d rfl rfl) hd
    obtain ⟨y, hy, hg⟩ := args_of_trod hQ b ts vs ds q h3 hr (fun j t v h1 h2 => ho (j + 1) t v (by simpa using h1) (by simpa using h2)) (fun j t d h1 h2 => hq (j + 1) t d (by simpa using h1) (by simpa using h2))
    exact ⟨(x, y), ⟨v, vs, rfl, at_of_flat h1 (ho 0 t v rfl rfl) hx, hy⟩, hf, hg⟩
  | .int _, _, _, _, _, ht, _, _, _ => by cases ‹List TypeId› <;> exact ht.elim
  | .bool, _, _, _, _, ht, _, _, _ => by cases ‹List TypeId› <;> exact ht.elim
  | .str, _, _, _, _, ht, _, _, _ => by cases ‹List TypeId› <;> exact ht.elim
  | .arr _ _, _, _, _, _, ht, _, _, _ => by cases ‹List TypeId› <;> exact ht.elim
  | .sl _, _, _, _, _, ht, _, _, _ => by cases ‹List TypeId› <;> exact ht.elim
  | .opq, _, _, _, _, ht, _, _, _ => by cases ‹List TypeId› <;> exact ht.elim

theorem trodAll_again (hl : laidOutB P = true) {W W' : World} (hb : Below W.heap.size W W') : ∀ (ts : List TypeId) (vs : List Value) (ds : List (DataW H)) (p : List MemPlace), (∀ t ∈ ts, P.readableRec t = true ∧ t < P.types.size) →
    DataW.TrodAll enc P W 0 (fun _ => true) true ts vs ds p → DataW.TrodAll enc P W' 0 (fun b => decide (b < W.heap.size)) true ts vs ds p
  | [], [], [], _, _, h => h
  | [], _ :: _, _, _, _, h => by simp [DataW.TrodAll] at h
  | [], [], _ :: _, _, _, h => by simp [DataW.TrodAll] at h
  | _ :: _, [], _, _, _, h => by simp [DataW.TrodAll] at h
  | _ :: _, _ :: _, [], _, _, h => by simp [DataW.TrodAll] at h
  | t :: ts, v :: vs, d :: ds, _, ht, h => by
    have hlt := h.lt
    obtain ⟨p, q, hd, hr, rfl⟩ := h
    exact ⟨p, q, Below.trod hl (ht t (by simp)).1 (ht t (by simp)).2 hd hb (fun x hx => hlt x (List.mem_append_left _ hx)), trodAll_again hl hb ts vs ds q (fun t h => ht t (List.mem_cons_of_mem _ h)) hr, rfl⟩

def readB (P : Program) (ts : List TypeId) : Bool := laidOutB P && ts.all fun t => P.readableRec t && decide (t < P.types.size)

/-- A LAW FROM A CONTRACT -/
theorem law_of_con {Q : TypeId → DataW H → Prop} {K : Ty → Nat → Prop} (hQ : Small H P Q K) {f : FuncId} {fn : Func} {ps : Ty} {run : ps.den → Option Bool} {s : ChangeSpec} {tb : TypeId} {n : Nat} (hcon : Con P f ⟨ps, .bool, false, run⟩)
    (hts : ArgTys P ps fn.params.toList) (hn : fn.params.toList.length = n) (hres : fn.resultTypes.toList = [tb]) (hb : P.underlying tb = some .bool) (hread : readB P fn.params.toList = true) (hvars : s.vars = [])
    (hfn : ∀ ds : List (DataW H), ds.length = n → s.fn H ds = { results := [.lit (.bool true)], args := ds }) (law : ∀ x, Fit K ps x → run x = some true)
    {W w2 : World} {r : Reach} {base : Nat} {args : Array Value} {ds gs : List (DataW H)} {before : List MemPlace}
    (hval : ∀ (j : Nat) t v, fn.params[j]? = some t → args[j]? = some v → Value.okWide P w2 r base t v)
    (hW : DataW.Whole enc P fn.params.toList s.vars false W args.toList ds gs before) (hq : ∀ (j : Nat) t d, fn.params.toList[j]? = some t → ds[j]? = some d → Q t d) :
    Calls P f args W fun e W' => ∃ v, e = .returned v ∧ s.post enc P fn false true false false W args v W' := by
  have hW0 := hW
  obtain ⟨p, q, hA, hV, hpq, _, _⟩ := hW
  rw [hvars] at hV
  have hgs : gs = [] ∧ q = [] := by
    cases gs with
    | nil => exact ⟨rfl, hV⟩
    | cons _ _ => exact absurd hV (by simp [DataW.TrodVars])
  obtain ⟨rfl, rfl⟩ := hgs
  obtain ⟨x, hx, hfit⟩ := args_of_trod hQ ps _ _ _ _ hts hA (w2 := w2) (r := r) (base := base) (fun j t v h1 h2 => hval j t v (by simpa using h1) (by simpa using h2)) hq
  simp only [readB, Bool.and_eq_true, List.all_eq_true, decide_eq_true_eq] at hread
  refine (hcon W (fun b _ => b < W.heap.size) x true args (fun b m h => h) (law x hfit) hx).mono fun e W' ⟨v, he, hbel, hv⟩ => ?_
  subst he
  have hvb : v = .bool true := by
    simp only [OutAt, AtD, Ty.isAgg, FlatD, List.cons.injEq, and_true] at hv
    exact hv
  subst hvb
  have hlen : ds.length = n := by
    rw [← hn]
    have : ∀ {ts : List TypeId} {vs : List Value} {ds : List (DataW H)} {p : List MemPlace}, DataW.TrodAll enc P W 0 (fun _ => true) true ts vs ds p → ds.length = ts.length := by
      intro ts
      induction ts with
      | nil => intro vs ds p h; cases vs <;> cases ds <;> simp_all [DataW.TrodAll]
      | cons t ts ih =>
        intro vs ds p h
        cases vs <;> cases ds <;> simp [DataW.TrodAll] at h ⊢
        obtain ⟨_, _, _, h, _⟩ := h
        exact ih h
    exact this hA
  have hres2 : fn.resultTypes.size = 1 := by rw [← Array.length_toList, hres]; rfl
  refine ⟨_, rfl, ds, [], before, [], p, [], hW0, ?_, ?_, ?_, hbel.frame _, fun h => by cases h⟩
  · rw [hres, hres2, List.append_nil, hfn ds hlen]
    exact ⟨[], [], ⟨1, by simp [DataW.trod, hb, Value.cells]⟩, rfl, rfl⟩
  · rw [List.append_nil, hfn ds hlen]
    exact trodAll_again hread.1 hbel _ _ _ _ (fun t ht => by simpa using hread.2 t ht) hA
  · rw [List.append_nil, hfn ds hlen, hvars]
    rfl

theorem light_of {ts vs : List TypeId} {ds gs : List (DataW H)} (h : (DataW.weightsEach P (ts ++ vs) (ds ++ gs)).all (· ≤ reachBytes) = true) : ∀ (j : Nat) t d, ts[j]? = some t → ds[j]? = some d → light H P t d := fun j t d h1 h2 n hn => by
  have l1 : j < ts.length := by
    rcases Nat.lt_or_ge j ts.length with h | h
    · exact h
    · rw [List.getElem?_eq_none h] at h1; cases h1
  have l2 : j < ds.length := by
    rcases Nat.lt_or_ge j ds.length with h | h
    · exact h
    · rw [List.getElem?_eq_none h] at h2; cases h2
  have := List.all_eq_true.1 h n (DataW.weights_mem_each (j := j) (t := t) (d := d) (by rw [List.getElem?_append_left l1]; exact h1) (by rw [List.getElem?_append_left l2]; exact h2) n hn)
  simpa using this

end
end Go.Bx
namespace Go.Bx
set_option linter.unusedVariables false
set_option linter.unusedSimpArgs false
open Go Go.RowKit

/-! ### functions that are handed blocks, told by the shape of what they are handed -/

def eqP : List Step → List Step → Bool
  | [], [] => true
  | .idx i :: p, .idx j :: q => decide (i = j) && eqP p q
  | .fld i :: p, .fld j :: q => Nat.beq i j && eqP p q
  | _, _ => false

theorem eqP_eq : ∀ {p q : List Step}, eqP p q = true → p = q
  | [], [], _ => rfl
  | .idx i :: p, .idx j :: q, h => by
    simp only [eqP, Bool.and_eq_true, decide_eq_true_eq] at h
    rw [h.1, eqP_eq h.2]
  | .fld i :: p, .fld j :: q, h => by
    simp only [eqP, Bool.and_eq_true] at h
    rw [Nat.eq_of_beq_eq_true h.1, eqP_eq h.2]
  | [], _ :: _, h => by simp [eqP] at h
  | .idx _ :: _, [], h => by simp [eqP] at h
  | .fld _ :: _, [], h => by simp [eqP] at h
  | .idx _ :: _, .fld _ :: _, h => by simp [eqP] at h
  | .fld _ :: _, .idx _ :: _, h => by simp [eqP] at h

def both (a b : Option (List V)) : Option (List V) := match a with
  | some l => match b with
    | some m => some (l ++ m)
    | none => none
  | none => none

theorem both_some {a b : Option (List V)} {l : List V} (h : both a b = some l) : ∃ x y, a = some x ∧ b = some y ∧ l = x ++ y := by
  unfold both at h
  split at h
  · split at h
    · cases h; exact ⟨_, _, rfl, rfl, rfl⟩
    · cases h
  · cases h

def okIf (c : Bool) (l : List V) : Option (List V) := match c with
  | true => some l
  | false => none

theorem okIf_some {c : Bool} {l m : List V} (h : okIf c l = some m) : c = true ∧ m = l := by
  cases c <;> simp [okIf] at h
  exact ⟨rfl, h.symm⟩

mutual
/-- the data in a value of a shape -/
def matV : V → V → Option (List V)
  | .any, .any => some []
  | .data t _, .data t' x => okIf (decide (t' = t)) [.data t' x]
  | .nilp, .nilp => some []
  | .snil, .snil => some []
  | .ref i u p, .ref i' u' p' => okIf (Nat.beq i i' && Nat.beq u u' && eqP p p') []
  | .iref t _, .iref t' x => okIf (decide (t' = t)) [.data t' x]
  | .tup l, .tup l' => matL l l'
  | .fn f a b, .fn f' a' b' => match Nat.beq f f' with
    | true => both (matL a a') (matL b b')
    | false => none
  | .full t _, .full t' l => okIf (decide (t' = t)) [.data (.sl t') l]
  | .app i u, .app i' u' => okIf (Nat.beq i i' && Nat.beq u u') []
  | .view i p t n _ _, .view i' p' t' n' lo hi => okIf (Nat.beq i i' && eqP p p' && decide (t' = t) && Nat.beq n n') [.data (.int .i64) lo, .data (.int .i64) hi]
  | .agg t l, .agg t' l' => match decide (t' = t) with
    | true => matL l l'
    | false => none
  | .ifc t v, .ifc t' v' => match Nat.beq t t' with
    | true => matV v v'
    | false => none
  | .map i, .map i' => okIf (Nat.beq i i') []
  | _, _ => none
def matL : List V → List V → Option (List V)
  | [], [] => some []
  | v :: l, v' :: l' => both (matV v v') (matL l l')
  | _, _ => none
end

mutual
/-- a value of a shape, with data put in -/
def filV : V → List V → Option (V × List V)
  | .data _ _, .data t x :: r => some (.data t x, r)
  | .iref _ _, .data t x :: r => some (.iref t x, r)
  | .full _ _, .data (.sl t) x :: r => some (.full t x, r)
  | .view i p t n _ _, .data (.int _) lo :: .data (.int _) hi :: r => some (.view i p t n lo hi, r)
  | .tup l, r => match filL l r with
    | some (l', r') => some (.tup l', r')
    | none => none
  | .fn f a b, r => match filL a r with
    | some (a', r') => match filL b r' with
      | some (b', r2) => some (.fn f a' b', r2)
      | none => none
    | none => none
  | .agg t l, r => match filL l r with
    | some (l', r') => some (.agg t l', r')
    | none => none
  | .ifc t v, r => match filV v r with
    | some (v', r') => some (.ifc t v', r')
    | none => none
  | .any, r => some (.any, r)
  | .nilp, r => some (.nilp, r)
  | .snil, r => some (.snil, r)
  | .ref i u p, r => some (.ref i u p, r)
  | .app i u, r => some (.app i u, r)
  | .map i, r => some (.map i, r)
  | _, _ => none
def filL : List V → List V → Option (List V × List V)
  | [], r => some ([], r)
  | v :: l, r => match filV v r with
    | some (v', r') => match filL l r' with
      | some (l', r2) => some (v' :: l', r2)
      | none => none
    | none => none
end

mutual
theorem fil_mat : ∀ (p v : V) (l r : List V), matV p v = some l → filV p (l ++ r) = some (v, r)
  | .any, v, l, r, h => by cases v <;> simp [matV] at h; subst h; rfl
  | .nilp, v, l, r, h => by cases v <;> simp [matV] at h; subst h; rfl
  | .snil, v, l, r, h => by cases v <;> simp [matV] at h; subst h; rfl
  | .data t x, v, l, r, h => by
    cases v <;> simp only [matV, reduceCtorEq] at h
    obtain ⟨h1, rfl⟩ := okIf_some h
    rfl
  | .iref t x, v, l, r, h => by
    cases v <;> simp only [matV, reduceCtorEq] at h
    obtain ⟨h1, rfl⟩ := okIf_some h
    rfl
  | .full t x, v, l, r, h => by
    cases v <;> simp only [matV, reduceCtorEq] at h
    obtain ⟨h1, rfl⟩ := okIf_some h
    rfl
  | .ref i u p, v, l, r, h => by
    cases v <;> simp only [matV, reduceCtorEq] at h
    obtain ⟨h1, rfl⟩ := okIf_some h
    simp only [Bool.and_eq_true] at h1
    rw [← Nat.eq_of_beq_eq_true h1.1.1, ← Nat.eq_of_beq_eq_true h1.1.2, ← eqP_eq h1.2]
    rfl
  | .app i u, v, l, r, h => by
    cases v <;> simp only [matV, reduceCtorEq] at h
    obtain ⟨h1, rfl⟩ := okIf_some h
    simp only [Bool.and_eq_true] at h1
    rw [← Nat.eq_of_beq_eq_true h1.1, ← Nat.eq_of_beq_eq_true h1.2]
    rfl
  | .map i, v, l, r, h => by
    cases v <;> simp only [matV, reduceCtorEq] at h
    obtain ⟨h1, rfl⟩ := okIf_some h
    rw [← Nat.eq_of_beq_eq_true h1]
    rfl
  | .view i p t n lo hi, v, l, r, h => by
    cases v <;> simp only [matV, reduceCtorEq] at h
    obtain ⟨h1, rfl⟩ := okIf_some h
    simp only [Bool.and_eq_true, decide_eq_true_eq] at h1
    rw [← Nat.eq_of_beq_eq_true h1.1.1.1, ← eqP_eq h1.1.1.2, h1.1.2, ← Nat.eq_of_beq_eq_true h1.2]
    rfl
  | .tup a, v, l, r, h => by
    cases v <;> simp only [matV, reduceCtorEq] at h
    simp only [filV]
    rw [fil_matL a _ l r h]
  | .agg t a, v, l, r, h => by
    cases v <;> simp only [matV, reduceCtorEq] at h
    split at h
    · rename_i ht
      simp only [filV]
      rw [fil_matL a _ l r h]
      have := of_decide_eq_true ht
      rw [this]
    · cases h
  | .ifc t a, v, l, r, h => by
    cases v <;> simp only [matV, reduceCtorEq] at h
    split at h
    · rename_i ht
      simp only [filV]
      rw [fil_mat a _ l r h, Nat.eq_of_beq_eq_true ht]
    · cases h
  | .fn f a b, v, l, r, h => by
    cases v <;> simp only [matV, reduceCtorEq] at h
    split at h
    · rename_i ht
      obtain ⟨x, y, h1, h2, rfl⟩ := both_some h
      simp only [filV]
      rw [List.append_assoc, fil_matL a _ x _ h1]
      simp only
      rw [fil_matL b _ y _ h2, Nat.eq_of_beq_eq_true ht]
    · cases h
  | .opt d w a, v, l, r, h => by cases v <;> simp only [matV, reduceCtorEq] at h
theorem fil_matL : ∀ (p v : List V) (l r : List V), matL p v = some l → filL p (l ++ r) = some (v, r)
  | [], [], l, r, h => by simp only [matL, Option.some.injEq] at h; subst h; rfl
  | [], _ :: _, l, r, h => by simp [matL] at h
  | _ :: _, [], l, r, h => by simp [matL] at h
  | a :: p, v :: vs, l, r, h => by
    simp only [matL] at h
    obtain ⟨x, y, h1, h2, rfl⟩ := both_some h
    simp only [filL]
    rw [List.append_assoc, fil_mat a v x _ h1]
    simp only
    rw [fil_matL p vs y _ h2]
end

def matB : Blk → Blk → Option (List V)
  | .cell t v z, .cell t' v' z' => match decide (t' = t) && (z == z') with
    | true => matV v v'
    | false => none
  | .buf t _ u z, .buf t' l u' z' => okIf (decide (t' = t) && Nat.beq u u' && (z == z')) [.data (.sl t') l]
  | .map k v _, .map k' v' l => okIf (decide (k' = k) && decide (v' = v)) [.data (.sl (.pair k' v')) l]
  | _, _ => none

def filB : Blk → List V → Option (Blk × List V)
  | .cell t v z, r => match filV v r with
    | some (v', r') => some (.cell t v' z, r')
    | none => none
  | .buf _ _ u z, .data (.sl t) l :: r => some (.buf t l u z, r)
  | .map _ _ _, .data (.sl (.pair k v)) l :: r => some (.map k v l, r)
  | _, _ => none

theorem fil_matB : ∀ (p v : Blk) (l r : List V), matB p v = some l → filB p (l ++ r) = some (v, r)
  | .cell t c z, v, l, r, h => by
    cases v <;> simp only [matB, reduceCtorEq] at h
    split at h
    · rename_i hc
      simp only [Bool.and_eq_true, decide_eq_true_eq, beq_iff_eq] at hc
      simp only [filB]
      rw [fil_mat c _ l r h, hc.1, hc.2]
    · cases h
  | .buf t c u z, v, l, r, h => by
    cases v <;> simp only [matB, reduceCtorEq] at h
    obtain ⟨h1, rfl⟩ := okIf_some h
    simp only [Bool.and_eq_true, decide_eq_true_eq, beq_iff_eq] at h1
    rw [← Nat.eq_of_beq_eq_true h1.1.2, ← h1.2]
    rfl
  | .map k c u, v, l, r, h => by
    cases v <;> simp only [matB, reduceCtorEq] at h
    obtain ⟨h1, rfl⟩ := okIf_some h
    rfl

def matH : Heap → Heap → Option (List V)
  | [], [] => some []
  | (i, b) :: r, (i', b') :: r' => match Nat.beq i i' with
    | true => both (matB b b') (matH r r')
    | false => none
  | _, _ => none

def filH : Heap → List V → Option (Heap × List V)
  | [], r => some ([], r)
  | (i, b) :: h, r => match filB b r with
    | some (b', r') => match filH h r' with
      | some (h', r2) => some ((i, b') :: h', r2)
      | none => none
    | none => none

theorem fil_matH : ∀ (p v : Heap) (l r : List V), matH p v = some l → filH p (l ++ r) = some (v, r)
  | [], [], l, r, h => by simp only [matH, Option.some.injEq] at h; subst h; rfl
  | [], _ :: _, l, r, h => by simp [matH] at h
  | _ :: _, [], l, r, h => by simp [matH] at h
  | (i, a) :: p, (j, v) :: vs, l, r, h => by
    simp only [matH] at h
    split at h
    · rename_i hi
      obtain ⟨x, y, h1, h2, rfl⟩ := both_some h
      simp only [filH]
      rw [List.append_assoc, fil_matB a v x _ h1]
      simp only
      rw [fil_matH p vs y _ h2, Nat.eq_of_beq_eq_true hi]
    · cases h

theorem spread_getArgs : ∀ (t : Ty) (l : List V) (x : t.den), getArgs t l = some x → spread t x = l
  | .unit, [], x, h => rfl
  | .unit, _ :: _, x, h => by simp [getArgs] at h
  | .pair a b, [], x, h => by simp [getArgs] at h
  | .pair a b, v :: r, x, h => by
    cases v with
    | data t y =>
      simp only [getArgs] at h
      split at h
      · cases h
      · rename_i z hz
        split at h
        · cases h
        · rename_i w hw
          cases h
          obtain ⟨rfl, rfl⟩ := castD_some hz
          simp only [spread]
          rw [spread_getArgs b r w hw]
    | _ => simp [getArgs] at h
  | .int _, l, x, h => by cases l <;> simp [getArgs] at h
  | .bool, l, x, h => by cases l <;> simp [getArgs] at h
  | .str, l, x, h => by cases l <;> simp [getArgs] at h
  | .arr _ _, l, x, h => by cases l <;> simp [getArgs] at h
  | .sl _, l, x, h => by cases l <;> simp [getArgs] at h
  | .opq, l, x, h => by cases l <;> simp [getArgs] at h

/-- places for data -/
def hD (t : Ty) : V := .data t t.zero
def hF (t : Ty) : V := .full t []
def hI (t : Ty) : V := .iref t t.zero
def hW (i : Nat) (p : List Step) (t : Ty) (n : Nat) : V := .view i p t n 0 0
def hC (t : Ty) (v : V) (z : Bool) : Blk := .cell t v z
def hB (t : Ty) (u : Nat) (z : Bool) : Blk := .buf t [] u z

/-- a function at one shape of what it is handed: the shapes, and what it comes to -/
structure Spec where
  pa : List V
  ph : Heap
  ps : Ty
  ra : V
  rh : Heap
  rs : Ty
  run : ps.den → Option rs.den

def Spec.out (q : Spec) (y : q.rs.den) : V × Heap := match filV q.ra (spread q.rs y) with
  | some (v, l) => match filH q.rh l with
    | some (h, _) => (v, h)
    | none => (.any, [])
  | none => (.any, [])

def Spec.read (q : Spec) (v : V) (hp : Heap) : Option q.rs.den := match both (matV q.ra v) (matH q.rh hp) with
  | some l => getArgs q.rs l
  | none => none

def Spec.start (q : Spec) (a : q.ps.den) (n : Nat) : St := match filL q.pa (spread q.ps a) with
  | some (args, l) => match filH q.ph l with
    | some (hp, _) => startS (args.map sane) hp n
    | none => ⟨[], []⟩
  | none => ⟨[], []⟩

def Spec.h (q : Spec) (args : List V) (hp : Heap) : Option Sh := match both (matL q.pa args) (matH q.ph hp) with
  | some l => match getArgs q.ps l with
    | some a => some ⟨q.rs.den, q.run a, q.out⟩
    | none => none
  | none => none

theorem Spec.read_out {q : Spec} {v : V} {hp : Heap} {y : q.rs.den} (h : q.read v hp = some y) : q.out y = (v, hp) := by
  unfold Spec.read at h
  split at h
  · rename_i l hl
    obtain ⟨x, m, h1, h2, rfl⟩ := both_some hl
    unfold Spec.out
    rw [spread_getArgs _ _ _ h, fil_mat _ _ _ _ h1]
    simp only
    have := fil_matH _ _ _ [] h2
    rw [List.append_nil] at this
    rw [this]
  · cases h

/-- the end of a body without a return -/
abbrev endQ {α : Type} (C : Ctx) (Q : Ex → St → Option α) : Ex → St → Option α
  | .normal, S => clean C 2 S (Q .ret)
  | .ret, S => Q .ret S
  | .exit i, S => Q (.exit i) S

def lentB (base : Nat) : Heap → Bool
  | [] => true
  | (i, b) :: r => (match b with
    | .buf _ _ u _ => Nat.beq u 0
    | _ => true) && Nat.blt i base && lentB base r

theorem lent_of {base : Nat} : ∀ {p hp : Heap} {l : List V}, matH p hp = some l → lentB base p = true → ∀ i blk, nthB hp i = some blk → Nat.blt i base = true ∧ ∀ t l v z, blk = .buf t l v z → v = 0
  | [], [], _, _, _, i, blk, h => by cases h
  | [], _ :: _, l, h, _, _, _, _ => by simp [matH] at h
  | _ :: _, [], l, h, _, _, _, _ => by simp [matH] at h
  | (j, a) :: p, (j', b) :: hp, l, h, hl, i, blk, hi => by
    simp only [matH] at h
    split at h
    · rename_i hj
      obtain ⟨x, y, h1, h2, rfl⟩ := both_some h
      simp only [lentB, Bool.and_eq_true] at hl
      simp only [nthB, look] at hi
      split at hi
      · rename_i hji
        cases hi
        have e1 := Nat.eq_of_beq_eq_true hj
        have e2 := Nat.eq_of_beq_eq_true hji
        refine ⟨by rw [← e2, ← e1]; exact hl.1.2, fun t l v z e => ?_⟩
        subst e
        cases a <;> simp only [matB, reduceCtorEq] at h1
        obtain ⟨c1, _⟩ := okIf_some h1
        simp only [Bool.and_eq_true] at c1
        rw [← Nat.eq_of_beq_eq_true c1.1.2]
        exact Nat.eq_of_beq_eq_true hl.1.1
      · exact lent_of h2 hl.2 i blk hi
    · cases h

section
variable {P : Program} {C : Ctx} {G0 : GE}

theorem AtL.length_eq {G : GE} {tm : Array Value} : ∀ {l : List V} {m : List Value}, AtL G tm l m → l.length = m.length
  | [], [], _ => rfl
  | _ :: _, _ :: _, h => by simp only [AtL] at h; simp [h.2.length_eq]
  | [], _ :: _, h => by simp [AtL] at h
  | _ :: _, [], h => by simp [AtL] at h

theorem matL_length : ∀ {p v l : List V}, matL p v = some l → p.length = v.length
  | [], [], _, _ => rfl
  | [], _ :: _, _, h => by simp [matL] at h
  | _ :: _, [], _, h => by simp [matL] at h
  | _ :: p, _ :: v, l, h => by
    simp only [matL] at h
    obtain ⟨x, y, h1, h2, _⟩ := both_some h
    simp [matL_length h2]

/-- where a call begins that is handed blocks -/
theorem startS_rel {w : World} {β : Nat → Option Nat} {σ : Nat → Value} {hp : Heap} {I0 : Nat → Nat → Prop} {args : List V} {vals : Array Value} (hR : HRel (mkG w β σ hp I0)) (ha : AtL (mkG w β σ hp I0) #[] args vals.toList) {n : Nat} :
    Behind (mkG w β σ hp I0) (startS (args.map sane) hp n) { tmps := vals ++ Array.replicate (n - vals.size) undef, defers := [] } w := by
  have hlen : args.length = vals.size := by rw [ha.length_eq, Array.length_toList]
  refine ⟨β, σ, Tr.refl _, hR, rfl, ?_, fun i v hv => ?_⟩
  · simp [startS, hlen]
  · simp only [startS] at hv ⊢
    rw [nth_append]
    split
    · rename_i hi
      have hi' : i < vals.size := by simpa [hlen] using hi
      have hv' : vals.toList[i]? = some v := by
        rw [Array.getElem?_append_left (by omega)] at hv
        simpa using hv
      rw [nth_map _ rfl]
      exact (AtL_nth ha i v hv').sane
    · rw [nth_replicate]; exact .any

/-- THE CONTRACT OF A GO FUNCTION THAT IS HANDED BLOCKS out of its abstract run -/
theorem sok_of_den (hC : CtxOk P C) (hm : P.follows .mixedOrders = true) {f : FuncId} {fn : Func} {c : Code} (hf : P.funcs[f]? = some fn) (hb : fn.body = some c) (hd : drawsOk c = true) (q : Spec) (k : Nat) (hn : Nat.ble q.pa.length fn.ntmps = true) (hl : lentB C.base q.ph = true)
    (hF : ∀ a r, q.run a = some r → den C k c (endQ C (finS C fn.results.toList q.read)) (q.start a fn.ntmps) = some r) : SOk P f q.h := by
  intro args hp sh y hsh hy w β σ I0 vals hI hR ha
  unfold Spec.h at hsh
  split at hsh
  · rename_i l hl2
    split at hsh
    · rename_i a hga
      cases hsh
      obtain ⟨x, m, h1, h2, rfl⟩ := both_some hl2
      have hst : q.start a fn.ntmps = startS (args.map sane) hp fn.ntmps := by
        unfold Spec.start
        rw [spread_getArgs _ _ _ hga, fil_matL _ _ _ _ h1]
        simp only
        have := fil_matH _ _ _ [] h2
        rw [List.append_nil] at this
        rw [this]
      have hrun := hF a y hy
      rw [hst] at hrun
      have hlen : args.length = vals.size := by rw [ha.length_eq, Array.length_toList]
      have hnv : vals.size ≤ fn.ntmps := by
        rw [← hlen, ← matL_length h1]; exact Nat.le_of_ble_eq_true hn
      refine calls_of_wp hf hb ?_
      have hB := startS_rel hR ha (n := fn.ntmps)
      have hL : Lent C (mkG w β σ hp I0) := ⟨fun i blk h => (lent_of h2 hl i blk h).1, fun i t l v z h => (lent_of h2 hl i _ h).2 t l v z rfl⟩
      have done : ∀ (e : Ex) (S : St) (a : Act) (w' : World), (e = .normal ∨ e = .ret) → finS C fn.results.toList q.read e S = some y → Behind (mkG w β σ hp I0) S a w' →
          a.defers = [] ∧ ∃ v, (results fn a.tmps).run P w' = .ok v w' ∧ ∃ v' β' σ', Ending.returned v = .returned v' ∧ Tr (mkG w β σ hp I0) ((mkG w β σ hp I0).at w' β' σ' (q.out y).2) ∧ HRel ((mkG w β σ hp I0).at w' β' σ' (q.out y).2) ∧ AtV ((mkG w β σ hp I0).at w' β' σ' (q.out y).2) #[] (q.out y).1 v' := by
        intro e S a w' he hfin hB
        obtain ⟨β', σ', hRl⟩ := hB
        refine ⟨hRl.defers, ?_⟩
        have hfin' : (match resT C S fn.results.toList with
          | some v => q.read v S.hp
          | none => none) = some y := by
          rcases he with rfl | rfl <;> exact hfin
        split at hfin'
        · rename_i v hv
          have hout := Spec.read_out hfin'
          rw [hout]
          unfold resT at hv
          split at hv
          · rename_i v0 hr
            cases hv
            obtain ⟨xs, s1, s2, s3⟩ := resL_sound hC hRl hr
            obtain ⟨u, rfl⟩ := List.length_eq_one_iff.1 (by simpa using s3)
            refine ⟨u, by rw [results_run s1]; simp, u, β', σ', rfl, hRl.tr, hRl.ok, ?_⟩
            simp only [AtL, and_true] at s2
            exact s2
          · rename_i l0 hne hr
            cases hv
            obtain ⟨xs, s1, s2, s3⟩ := resL_sound hC hRl hr
            have hne' : xs.toArray.size ≠ 1 := by
              intro e
              have : l0.length = 1 := by rw [← s3]; simpa using e
              obtain ⟨z, hz⟩ := List.length_eq_one_iff.1 this
              first | exact hne z hz | exact hne z (hr.trans (by rw [hz])) | exact hne z (by simp [hr, hz])
            refine ⟨.tuple xs.toArray, by rw [results_run s1, dif_neg hne'], .tuple xs.toArray, β', σ', rfl, hRl.tr, hRl.ok, ?_⟩
            simp only [AtV]
            exact ⟨xs.toArray, rfl, s2⟩
          · cases hv
        · cases hfin'
      refine den_sound hC hm hL k c hd _ _ _ _ w ⟨fun S a w' h hB => ?_, fun id S a w' h hB => ?_, fun S a w' h hB => ?_⟩ hrun hB
      · obtain ⟨S', h', hB'⟩ := clean_sound hL hB h
        exact done .ret _ a w' (.inr rfl) h' hB'
      · cases h
      · exact done .ret S a w' (.inr rfl) h hB
    · cases hsh
  · cases hsh

theorem sok_zero {f : FuncId} {q : Spec} (h : ∀ a, q.run a = none) : SOk P f q.h := by
  intro args hp sh y hsh hy
  unfold Spec.h at hsh
  split at hsh
  · split at hsh
    · cases hsh
      have hy' : q.run _ = some y := hy
      rw [h] at hy'; cases hy'
    · cases hsh
  · cases hsh

/-- the first shape that fits -/
def firstH : List Spec → List V → Heap → Option Sh
  | [], _, _ => none
  | q :: r, args, hp => match q.h args hp with
    | some s => some s
    | none => firstH r args hp

theorem sok_first {f : FuncId} : ∀ {l : List Spec}, (∀ q ∈ l, SOk P f q.h) → SOk P f (firstH l)
  | [], _ => fun args hp sh y h => by cases h
  | q :: r, hq => fun args hp sh y h hy => by
    simp only [firstH] at h
    split at h
    · rename_i s hs
      cases h
      exact hq q (by simp) args hp _ y hs hy
    · exact sok_first (fun q' hq' => hq q' (List.mem_cons_of_mem _ hq')) args hp sh y h hy

def shL (l : List (Nat × List Spec)) (f : Nat) : Option (List V → Heap → Option Sh) := match look l f with
  | some qs => some (firstH qs)
  | none => none

def AllSok1 (P : Program) (f : FuncId) : List Spec → Prop
  | [] => True
  | q :: r => SOk P f q.h ∧ AllSok1 P f r
def AllSok (P : Program) : List (Nat × List Spec) → Prop
  | [] => True
  | (f, l) :: r => (AllSok1 P f l ∧ Named P f) ∧ AllSok P r

theorem sh_ok {l : List (Nat × List Spec)} (h : AllSok P l) : ∀ f h', shL l f = some h' → SOk P f h' ∧ Named P f := by
  intro f h' hs
  unfold shL at hs
  split at hs
  · rename_i qs hq
    cases hs
    induction l with
    | nil => cases hq
    | cons x r ih =>
      obtain ⟨i, q⟩ := x
      simp only [look] at hq
      split at hq
      · rename_i he
        cases hq
        rw [← Nat.eq_of_beq_eq_true he]
        refine ⟨sok_first fun q hq => ?_, h.1.2⟩
        have h1 := h.1.1
        clear ih h
        induction qs with
        | nil => cases hq
        | cons a b ih =>
          rcases List.mem_cons.1 hq with rfl | hq
          · exact h1.1
          · exact ih hq h1.2
      · exact ih h.2 hq
  · cases hs

end
end Go.Bx
namespace Go.Bx
set_option linter.unusedVariables false
set_option linter.unusedSimpArgs false
open Go Go.RowKit

/-- the parts of a function's code -/
def cB (f : Func) : Code := f.body.getD .skip
def cL : Code → Code
  | .seq a _ => a | .block _ c => c | .loop c => c | .scope c => c | .cond _ x _ => x | c => c
def cR : Code → Code
  | .seq _ b => b | .cond _ _ y => y | c => c

/-- a frame, the slots that hold something named -/
def frL : Nat → Nat → List (Nat × V) → List V
  | 0, _, _ => []
  | n + 1, i, l => (match look l i with
    | some v => v
    | none => .any) :: frL n (i + 1) l
def stL (n : Nat) (f : List (Nat × V)) (h : Heap) : St := ⟨frL n 0 f, h⟩

/-- a loop's round -/
abbrev lq {α : Type} (C : Ctx) (key : Nat) (next : St → Option α) (Q : Ex → St → Option α) : Ex → St → Option α := seqQ (fun S => clean C key S next) Q
def rnd {α : Type} (C : Ctx) (k : Nat) (c : Code) (key : Nat) (Q : Ex → St → Option α) (next : St → Option α) (S : St) : Option α := den C k c (lq C key next Q) S

/-- a loop's rounds -/
def lp {α : Type} (C : Ctx) (k : Nat) (c : Code) (Q : Ex → St → Option α) (S : St) : Option α := iter (fun next => den C k c (seqQ (fun S => clean C (headK c) S next) Q)) k S

/-- what code comes to, as a function of it -/
abbrev DT (α : Type) : Type := Code → (Ex → St → Option α) → St → Option α

/-- the same as 'den', but where ways meet 'D' is asked, and at a loop 'L' -/
def denJ {α : Type} (D L : DT α) (js : List Nat) (C : Ctx) : Code → (Ex → St → Option α) → St → Option α
  | .skip, Q, S => Q .normal S
  | .label _, Q, S => Q .normal S
  | .region _ ops draw, Q, S => match draw with
    | false => runL C ops ops.toList S (Q .normal)
    | true => runD C ops (masks ops.toList []) ops.toList [] (strips S) (Q .normal)
  | .seq a b, Q, S => denJ D L js C a (seqQ (fun S => clean C (headK b) S (match mem js (joinK b) with
    | true => D b Q
    | false => denJ D L js C b Q)) Q) S
  | .cond c x y, Q, S => match ev S.fr c with
    | .data .bool t => if (t : Bool) = true then denJ D L js C x Q S else denJ D L js C y Q S
    | _ => none
  | .block id c, Q, S => denJ D L js C c (blkQ C id Q) S
  | .loop c, Q, S => clean C (headK c) S (L c Q)
  | .scope c, Q, S => denJ D L js C c Q S
  | .exit id, Q, S => clean C (3 * id + 1) S (Q (.exit id))
  | .ret, Q, S => clean C 2 S (Q .ret)
  | _, _, _ => none

/-- what comes behind the first of two pieces -/
abbrev sq {α : Type} (D L : DT α) (js : List Nat) (C : Ctx) (b : Code) (Q : Ex → St → Option α) : Ex → St → Option α := seqQ (fun S => clean C (headK b) S (match mem js (joinK b) with
  | true => D b Q
  | false => denJ D L js C b Q)) Q

theorem denJ_den {α : Type} (js : List Nat) (C : Ctx) (k : Nat) : ∀ (c : Code) (Q : Ex → St → Option α) (S : St), denJ (den C k) (lp C k) js C c Q S = den C k c Q S
  | .skip, _, _ => rfl
  | .label _, _, _ => rfl
  | .region _ _ _, _, _ => rfl
  | .exit _, _, _ => rfl
  | .ret, _, _ => rfl
  | .loop _, _, _ => rfl
  | .seq a b, Q, S => by
    simp only [denJ, den]
    rw [denJ_den js C k a]
    congr 2
    funext S
    congr 1
    cases mem js (joinK b) with
    | true => rfl
    | false => funext S; exact denJ_den js C k b Q S
  | .cond c x y, Q, S => by
    simp only [denJ, den, denJ_den js C k x, denJ_den js C k y]
    rfl
  | .block id c, Q, S => by simp only [denJ, den, denJ_den js C k c]
  | .scope c, Q, S => by simp only [denJ, den, denJ_den js C k c]
  | .rangeFunc _ _ _ _, _, _ => rfl
  | .goto _, _, _ => rfl
  | .refuse _, _, _ => rfl

/-- rounds enough for every loop -/
def fuel : Nat := 2 ^ 64

theorem iter_succ {α : Type} (F : (St → Option α) → St → Option α) (n : Nat) (S : St) : iter F (n + 1) S = F (iter F n) S := rfl

theorem named_of {P : Program} {f : FuncId} {fn : Func} (h : P.funcs[f]? = some fn) (h1 : (fn.name == "runtime.NumGoroutine") = false) (h2 : fn.body.isNone = false) : Named P f := ⟨fn, h, h1, h2⟩

/-- callees, each with its contract -/
def fnL (l : List (Nat × Fn)) (f : Nat) : Option Fn := look l f

def AllCon (P : Program) : List (Nat × Fn) → Prop
  | [] => True
  | x :: l => Callee P x.1 x.2 ∧ AllCon P l

/-- pointer types -/
def ptrB (P : Program) (l : List (Nat × Nat)) : Bool := l.all fun x => match P.underlying x.1 with
  | some (.pointer e) => Nat.beq e x.2
  | _ => false

theorem ptr_ok {P : Program} {l : List (Nat × Nat)} (h : ptrB P l = true) : ∀ i e, look l i = some e → P.underlying i = some (.pointer e) := by
  intro i e hi
  have := List.all_eq_true.1 h _ (look_mem hi)
  simp only at this
  split at this
  · rename_i e' he; rw [he, Nat.eq_of_beq_eq_true this]
  · cases this

def noSh (_ : Nat) : Option (List V → Heap → Option Sh) := none
def noInv (_ : Nat) (_ : String) : Option Nat := none

theorem ctx_ok {P : Program} {ty : List (Nat × Ty)} {ptr : List (Nat × Nat)} {fns : List (Nat × Fn)} {site : List (Nat × Nat)} {live : List (Nat × List Nat)} {norm : List (Nat × List Norm)} {frz : List Nat} {base lim : Nat}
    (h1 : tableB P ty = true) (hp : ptrB P ptr = true) (h2 : AllCon P fns) : CtxOk P ⟨ty, ptr, fnL fns, noSh, site, noInv, live, norm, frz, base, lim⟩ where
  ty := table_ok h1
  ptr := ptr_ok hp
  sh := fun _ _ h => by cases h
  inv := fun _ _ _ h => by cases h
  fn := fun f F h => by
    simp only [fnL] at h
    induction fns with
    | nil => cases h
    | cons x l ih =>
      obtain ⟨i, G⟩ := x
      simp only [look] at h
      split at h
      · rename_i he
        cases h
        rw [Nat.eq_of_beq_eq_true he] at h2
        exact h2.1
      · exact ih h2.2 h

theorem ctx_ok_sh {P : Program} {ty : List (Nat × Ty)} {ptr : List (Nat × Nat)} {fns : List (Nat × Fn)} {shs : List (Nat × List Spec)} {site : List (Nat × Nat)} {live : List (Nat × List Nat)} {norm : List (Nat × List Norm)} {frz : List Nat} {base lim : Nat}
    (h1 : tableB P ty = true) (hp : ptrB P ptr = true) (h2 : AllCon P fns) (h3 : AllSok P shs) : CtxOk P ⟨ty, ptr, fnL fns, shL shs, site, noInv, live, norm, frz, base, lim⟩ where
  ty := table_ok h1
  ptr := ptr_ok hp
  sh := sh_ok h3
  inv := fun _ _ _ h => by cases h
  fn := (ctx_ok (site := site) (live := live) (norm := norm) (frz := frz) (base := base) (lim := lim) h1 hp h2).fn

end Go.Bx
