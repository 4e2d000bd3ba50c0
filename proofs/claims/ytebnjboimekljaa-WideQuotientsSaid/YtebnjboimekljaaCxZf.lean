/- A part of a framework that reads Go code as functions of plain data; or a law about such functions. -/
import Derived.Test.YtebnjboimekljaaCxZe
import Derived.SizedLaws
import Derived.Carry
namespace Go.Bx
set_option linter.unusedVariables false
set_option linter.unusedSimpArgs false
open Go Go.RowKit

/-- lengths of what the form's reach allows -/
def reachK (τ : Ty) (n : Nat) : Prop := n * τ.bytes ≤ reachBytes

section
variable {H : Type} {enc : TypeId × Value → H} {P : Program}

def light (H : Type) (P : Program) (t : TypeId) (d : DataW H) : Prop := ∀ n ∈ d.weights P t, n ≤ reachBytes

theorem weights_all {e : TypeId} : ∀ {l : List (DataW H)} {d : DataW H}, d ∈ l → ∀ n ∈ d.weights P e, n ∈ DataW.weightsAll P e l
  | x :: l, d, h, n, hn => by
    simp only [DataW.weightsAll, List.mem_append]
    rcases List.mem_cons.1 h with rfl | h
    · exact .inl hn
    · exact .inr (weights_all h n hn)

theorem small_reach : Small H P (light H P) reachK where
  nil := fun τ => by simp [reachK]
  str := fun t l h => by
    have := h l.length (by simp [DataW.weights])
    simpa [reachK, Ty.bytes, IntKind.bits] using this
  slc := fun t e el sp τ hu hi h => by
    obtain ⟨inf, z, h1, h2, h3, h4, h5, h6⟩ := hi
    have hb : P.bytesOf e = τ.bytes := by simp [Program.bytesOf, h1, h6]
    constructor
    · have := h _ (by simp only [DataW.weights, hu]; exact List.mem_cons_self)
      rw [hb, Nat.add_mul] at this
      unfold reachK; omega
    · intro d hd n hn
      exact h n (by simp only [DataW.weights, hu]; exact List.mem_cons_of_mem _ (List.mem_append_left _ (weights_all hd n hn)))
  fld := fun t fs ps hu h i f d hf hd n hn => h n (by
    simp only [DataW.weights, hu]
    exact DataW.weights_mem_each (j := i) (t := f.type) (by simp [hf]) hd n hn)
  arr := fun t m e ps hu h d hd n hn => h n (by simp only [DataW.weights, hu]; exact weights_all hd n hn)

/-- the arguments' types -/
def ArgTys (P : Program) : Ty → List TypeId → Prop
  | .unit, [] => True
  | .pair a b, t :: ts => TyOk P a t ∧ a.full = true ∧ ArgTys P b ts
  | _, _ => False

def argTysB (P : Program) : Ty → List TypeId → Bool
  | .unit, ts => ts.isEmpty
  | .pair a b, ts => match ts with
    | t :: ts => tyB P a t && a.full && argTysB P b ts
    | [] => false
  | _, _ => false

theorem argTysB_sound : ∀ {τ : Ty} {ts : List TypeId}, argTysB P τ ts = true → ArgTys P τ ts
  | .unit, ts, h => by
    simp only [argTysB, List.isEmpty_iff] at h
    subst h; trivial
  | .pair a b, ts, h => by
    cases ts with
    | nil => simp [argTysB] at h
    | cons t ts =>
      simp only [argTysB, Bool.and_eq_true] at h
      exact ⟨tyB_sound a t h.1.1, h.1.2, argTysB_sound h.2⟩
  | .int _, _, h => by simp [argTysB] at h
  | .bool, _, h => by simp [argTysB] at h
  | .str, _, h => by simp [argTysB] at h
  | .arr _ _, _, h => by simp [argTysB] at h
  | .sl _, _, h => by simp [argTysB] at h
  | .opq, _, h => by simp [argTysB] at h

theorem at_of_flat {E : Env} {w : World} {r : Reach} {base : Nat} {τ : Ty} {t : TypeId} {x : τ.den} {v : Value} (ht : TyOk P τ t) (ho : Value.okWide P w r base t v) (h : FlatD E τ x v.cells.toList) : AtD E τ x v := by
  unfold Value.okWide at ho
  cases τ with
  | int k =>
    rw [ht.1] at ho
    simp only [Cell.okWide, ht.1] at ho
    cases v <;> simp [Cell.ok, ht.1] at ho
    simpa [AtD, Ty.isAgg, Value.cells] using h
  | bool =>
    rw [ht.1] at ho
    simp only [Cell.okWide, ht.1] at ho
    cases v <;> simp [Cell.ok, ht.1] at ho
    simpa [AtD, Ty.isAgg, Value.cells] using h
  | str =>
    rw [ht.1] at ho
    simp only [Cell.okWide, ht.1] at ho
    cases v <;> simp [Cell.ok, ht.1] at ho
    simpa [AtD, Ty.isAgg, Value.cells] using h
  | arr n τ =>
    obtain ⟨e, hu, _⟩ := ht
    rw [hu] at ho
    obtain ⟨cs, rfl, _⟩ := ho
    exact ⟨cs, rfl, by simpa [Value.cells] using h⟩
  | sl τ =>
    obtain ⟨e, hu, _⟩ := ht
    rw [hu] at ho
    simp only [Cell.okWide, hu] at ho
    cases v <;> simp [Cell.ok, hu] at ho
    simpa [AtD, Ty.isAgg, Value.cells] using h
  | unit =>
    rw [ht.1] at ho
    obtain ⟨cs, rfl, _⟩ := ho
    exact ⟨cs, rfl, by simpa [Value.cells] using h⟩
  | pair a b =>
    obtain ⟨fs, hu, _⟩ := ht
    rw [hu] at ho
    obtain ⟨cs, rfl, _⟩ := ho
    exact ⟨cs, rfl, by simpa [Value.cells] using h⟩
  | opq => cases v <;> simp [FlatD] at h

theorem args_of_trod {Q : TypeId → DataW H → Prop} {K : Ty → Nat → Prop} (hQ : Small H P Q K) {w w2 : World} {r : Reach} {base : Nat} {spare : Nat → Bool} {held : Bool} :
    ∀ (ps : Ty) (ts : List TypeId) (vs : List Value) (ds : List (DataW H)) (p : List MemPlace), ArgTys P ps ts → DataW.TrodAll enc P w 0 spare held ts vs ds p →
    (∀ (j : Nat) t v, ts[j]? = some t → vs[j]? = some v → Value.okWide P w2 r base t v) → (∀ (j : Nat) t d, ts[j]? = some t → ds[j]? = some d → Q t d) → ∃ x : ps.den, ArgsAt (argEnv w) ps x vs ∧ Fit K ps x
  | .unit, [], [], [], _, _, _, _, _ => ⟨(), rfl, trivial⟩
  | .unit, [], _ :: _, _, _, _, h, _, _ => by simp [DataW.TrodAll] at h
  | .unit, [], [], _ :: _, _, _, h, _, _ => by simp [DataW.TrodAll] at h
  | .unit, _ :: _, _, _, _, ht, _, _, _ => ht.elim
  | .pair a b, [], _, _, _, ht, _, _, _ => ht.elim
  | .pair a b, t :: ts, [], _, _, _, h, _, _ => by simp [DataW.TrodAll] at h
  | .pair a b, t :: ts, _ :: _, [], _, _, h, _, _ => by simp [DataW.TrodAll] at h
  | .pair a b, t :: ts, v :: vs, d :: ds, _, ⟨h1, h2, h3⟩, ⟨p, q, ⟨fuel, hd⟩, hr, _⟩, ho, hq => by
    obtain ⟨x, hx, hf⟩ := flat_of_trod hQ a t fuel _ _ h1 h2 (hq 0 t d rfl rfl) hd
    obtain ⟨y, hy, hg⟩ := args_of_trod hQ b ts vs ds q h3 hr (fun j t v h1 h2 => ho (j + 1) t v (by simpa using h1) (by simpa using h2)) (fun j t d h1 h2 => hq (j + 1) t d (by simpa using h1) (by simpa using h2))
    exact ⟨(x, y), ⟨v, vs, rfl, at_of_flat h1 (ho 0 t v rfl rfl) hx, hy⟩, hf, hg⟩
  | .int _, _, _, _, _, ht, _, _, _ => by cases ‹List TypeId› <;> exact ht.elim
  | .bool, _, _, _, _, ht, _, _, _ => by cases ‹List TypeId› <;> exact ht.elim
  | .str, _, _, _, _, ht, _, _, _ => by cases ‹List TypeId› <;> exact ht.elim
  | .arr _ _, _, _, _, _, ht, _, _, _ => by cases ‹List TypeId› <;> exact ht.elim
  | .sl _, _, _, _, _, ht, _, _, _ => by cases ‹List TypeId› <;> exact ht.elim
  | .opq, _, _, _, _, ht, _, _, _ => by cases ‹List TypeId› <;> exact ht.elim

theorem trodAll_again (hl : laidOutB P = true) {W W' : World} (hb : Below W.heap.size W W') : ∀ (ts : List TypeId) (vs : List Value) (ds : List (DataW H)) (p : List MemPlace), (∀ t ∈ ts, P.readableRec t = true ∧ t < P.types.size) →
    DataW.TrodAll enc P W 0 (fun _ => true) true ts vs ds p → DataW.TrodAll enc P W' 0 (fun b => decide (b < W.heap.size)) true ts vs ds p
  | [], [], [], _, _, h => h
  | [], _ :: _, _, _, _, h => by simp [DataW.TrodAll] at h
  | [], [], _ :: _, _, _, h => by simp [DataW.TrodAll] at h
  | _ :: _, [], _, _, _, h => by simp [DataW.TrodAll] at h
  | _ :: _, _ :: _, [], _, _, h => by simp [DataW.TrodAll] at h
  | t :: ts, v :: vs, d :: ds, _, ht, h => by
    have hlt := h.lt
    obtain ⟨p, q, hd, hr, rfl⟩ := h
    exact ⟨p, q, Below.trod hl (ht t (by simp)).1 (ht t (by simp)).2 hd hb (fun x hx => hlt x (List.mem_append_left _ hx)), trodAll_again hl hb ts vs ds q (fun t h => ht t (List.mem_cons_of_mem _ h)) hr, rfl⟩

def readB (P : Program) (ts : List TypeId) : Bool := laidOutB P && ts.all fun t => P.readableRec t && decide (t < P.types.size)

/-- A LAW FROM A CONTRACT -/
theorem law_of_con {Q : TypeId → DataW H → Prop} {K : Ty → Nat → Prop} (hQ : Small H P Q K) {f : FuncId} {fn : Func} {ps : Ty} {run : ps.den → Option Bool} {s : ChangeSpec} {tb : TypeId} {n : Nat} (hcon : Con P f ⟨ps, .bool, false, run⟩)
    (hts : ArgTys P ps fn.params.toList) (hn : fn.params.toList.length = n) (hres : fn.resultTypes.toList = [tb]) (hb : P.underlying tb = some .bool) (hread : readB P fn.params.toList = true) (hvars : s.vars = [])
    (hfn : ∀ ds : List (DataW H), ds.length = n → s.fn H ds = { results := [.lit (.bool true)], args := ds }) (law : ∀ x, Fit K ps x → run x = some true)
    {W w2 : World} {r : Reach} {base : Nat} {args : Array Value} {ds gs : List (DataW H)} {before : List MemPlace}
    (hval : ∀ (j : Nat) t v, fn.params[j]? = some t → args[j]? = some v → Value.okWide P w2 r base t v)
    (hW : DataW.Whole enc P fn.params.toList s.vars false W args.toList ds gs before) (hq : ∀ (j : Nat) t d, fn.params.toList[j]? = some t → ds[j]? = some d → Q t d) :
    Calls P f args W fun e W' => ∃ v, e = .returned v ∧ s.post enc P fn false true false false W args v W' := by
  have hW0 := hW
  obtain ⟨p, q, hA, hV, hpq, _, _⟩ := hW
  rw [hvars] at hV
  have hgs : gs = [] ∧ q = [] := by
    cases gs with
    | nil => exact ⟨rfl, hV⟩
    | cons _ _ => exact absurd hV (by simp [DataW.TrodVars])
  obtain ⟨rfl, rfl⟩ := hgs
  obtain ⟨x, hx, hfit⟩ := args_of_trod hQ ps _ _ _ _ hts hA (w2 := w2) (r := r) (base := base) (fun j t v h1 h2 => hval j t v (by simpa using h1) (by simpa using h2)) hq
  simp only [readB, Bool.and_eq_true, List.all_eq_true, decide_eq_true_eq] at hread
  refine (hcon W (fun b _ => b < W.heap.size) x true args (fun b m h => h) (law x hfit) hx).mono fun e W' ⟨v, he, hbel, hv⟩ => ?_
  subst he
  have hvb : v = .bool true := by
    simp only [OutAt, AtD, Ty.isAgg, FlatD, List.cons.injEq, and_true] at hv
    exact hv
  subst hvb
  have hlen : ds.length = n := by
    rw [← hn]
    have : ∀ {ts : List TypeId} {vs : List Value} {ds : List (DataW H)} {p : List MemPlace}, DataW.TrodAll enc P W 0 (fun _ => true) true ts vs ds p → ds.length = ts.length := by
      intro ts
      induction ts with
      | nil => intro vs ds p h; cases vs <;> cases ds <;> simp_all [DataW.TrodAll]
      | cons t ts ih =>
        intro vs ds p h
        cases vs <;> cases ds <;> simp [DataW.TrodAll] at h ⊢
        obtain ⟨_, _, _, h, _⟩ := h
        exact ih h
    exact this hA
  have hres2 : fn.resultTypes.size = 1 := by rw [← Array.length_toList, hres]; rfl
  refine ⟨_, rfl, ds, [], before, [], p, [], hW0, ?_, ?_, ?_, hbel.frame _, fun h => by cases h⟩
  · rw [hres, hres2, List.append_nil, hfn ds hlen]
    exact ⟨[], [], ⟨1, by simp [DataW.trod, hb, Value.cells]⟩, rfl, rfl⟩
  · rw [List.append_nil, hfn ds hlen]
    exact trodAll_again hread.1 hbel _ _ _ _ (fun t ht => by simpa using hread.2 t ht) hA
  · rw [List.append_nil, hfn ds hlen, hvars]
    rfl

theorem light_of {ts vs : List TypeId} {ds gs : List (DataW H)} (h : (DataW.weightsEach P (ts ++ vs) (ds ++ gs)).all (· ≤ reachBytes) = true) : ∀ (j : Nat) t d, ts[j]? = some t → ds[j]? = some d → light H P t d := fun j t d h1 h2 n hn => by
  have l1 : j < ts.length := by
    rcases Nat.lt_or_ge j ts.length with h | h
    · exact h
    · rw [List.getElem?_eq_none h] at h1; cases h1
  have l2 : j < ds.length := by
    rcases Nat.lt_or_ge j ds.length with h | h
    · exact h
    · rw [List.getElem?_eq_none h] at h2; cases h2
  have := List.all_eq_true.1 h n (DataW.weights_mem_each (j := j) (t := t) (d := d) (by rw [List.getElem?_append_left l1]; exact h1) (by rw [List.getElem?_append_left l2]; exact h2) n hn)
  simpa using this

end
end Go.Bx
