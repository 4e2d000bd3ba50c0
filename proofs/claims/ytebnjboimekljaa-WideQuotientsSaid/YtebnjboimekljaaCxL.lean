/- A part of a framework that reads Go code as functions of plain data; or a law about such functions. -/
import Derived.Test.YtebnjboimekljaaCxK
namespace Go.Bx
set_option linter.unusedVariables false
set_option linter.unusedSimpArgs false
open Go Go.RowKit

section
variable {P : Program} {C : Ctx} {G : GE} {fr : List V} {ρ : Operand → Value} {tm : Array Value}

/-- how operands read -/
structure Look (G : GE) (tm : Array Value) (fr : List V) (ρ : Operand → Value) : Prop where
  ev : ∀ x, AtV G tm (Bx.ev fr x) (ρ x)
  tmp : ∀ d, ρ (.tmp d) = tm.getD d undef

theorem Look.un (h : Look G tm fr ρ) {g : Option Gd} (hg : Yes g tm) (x : Operand) : AtV G tm (Bx.un g (Bx.ev fr x)) (ρ x) := un_at hg (h.ev x)
theorem Look.ud (h : Look G tm fr ρ) {g : Option Gd} (hg : Yes g tm) (x : Operand) : AtV G tm (Bx.dd (Bx.un g (Bx.ev fr x))) (ρ x) := (h.un hg x).dd

theorem okR_eq {c : Prop} {i : Decidable c} {v v' : V} (h : okR v = some (.val c i v')) : v = v' := by
  simp only [okR, Option.some.injEq, Out.val.injEq] at h; exact h.2.2
theorem ifR_eq {q : Prop} [Decidable q] {c : Prop} {i : Decidable c} {v v' : V} (h : ifR q v = some (.val c i v')) : q = c ∧ v = v' := by
  simp only [ifR, Option.some.injEq, Out.val.injEq] at h; exact ⟨h.1, h.2.2⟩

theorem Look.arm (h : Look G tm fr ρ) {d : Nat} {t : Bool} (ht : tm[d]? = some (.bool t)) (wt : Bool) (x : Operand) {y : Bool}
    (hy : (match Bx.ev fr x with
        | .opt d' w' (.data .bool y) => if Nat.beq d' d && (wt == w') then some y else none
        | .data .bool y => some y
        | _ => none) = some y) (hwt : wt = t) : ρ x = .bool y := by
  have he := h.ev x
  split at hy
  · rename_i d' w' y' heq
    split at hy
    · rename_i hd
      simp only [Bool.and_eq_true, beq_iff_eq] at hd
      have hd1 : d' = d := Nat.eq_of_beq_eq_true hd.1
      have hd2 := hd.2
      subst hd1; subst hd2; subst hwt
      rw [heq] at he
      simp only [AtV] at he
      have := he.1 ht
      have hb := AtV.bool (by simpa [AtV] using this : AtV _ tm (.data .bool y') _)
      rw [hb, Option.some.inj hy]
    · cases hy
  · rename_i y' heq
    rw [heq] at he
    rw [he.bool, Option.some.inj hy]
  · cases hy

theorem Look.bool (h : Look G tm fr ρ) {d : Nat} {t : Bool} (hb : ρ (.tmp d) = .bool t) : tm[d]? = some (.bool t) := by
  rw [h.tmp, Array.getD_eq_getD_getElem?] at hb
  cases hd : tm[d]? with
  | none => rw [hd] at hb; simp [undef] at hb
  | some v => rw [hd] at hb; simp at hb; rw [hb]

theorem nth_at {G : GE} {tm : Array Value} : ∀ {l : List V} {vs : List Value} {i : Nat}, AtL G tm l vs → i < l.length → ∃ x, vs[i]? = some x ∧ AtV G tm (nth l i) x
  | [], _, _, _, h => by simp at h
  | v :: l, [], _, h, _ => by simp [AtL] at h
  | v :: l, x :: vs, 0, h, _ => ⟨x, rfl, by simp only [AtL] at h; exact h.1⟩
  | v :: l, x :: vs, i + 1, h, hi => by
    simp only [AtL] at h
    obtain ⟨y, h1, h2⟩ := nth_at (i := i) h.2 (by simpa using hi)
    exact ⟨y, by simpa using h1, by simpa [nth] using h2⟩

theorem slice_elem {E : Env} {τ : Ty} {l : List τ.den} {v : Value} (h : FlatD E (.sl τ) l [v]) (i : Nat) (hi : i < l.length) :
    ∃ (b : Addr) (cap : Nat) (ds : List Value), v = .slice (some b) l.length cap ∧ b.spot = none ∧ FlatD E τ (l.getD i τ.zero) ds ∧ (ds = [] ∨ ∃ m, b.off + i * τ.size + ds.length ≤ m ∧ E.im b.block m) ∧
      ∀ j u, ds[j]? = some u → E.w.cell? ⟨b.block, b.off + i * τ.size + j, none⟩ = some u := by
  rcases h with ⟨rfl, _⟩ | ⟨b, cap, css, hc, hs, hl, hcap, ha, him, hcell⟩
  · simp at hi
  · simp at hc
    obtain ⟨hm, hr⟩ := ha.get i hi
    have hgd : l.getD i τ.zero = l[i] := by simp [List.getD, List.getElem?_eq_getElem hi]
    have hlen := FlatD.length _ _ _ hr
    have htot := All2.flat_length (fun a cs h => FlatD.length τ a cs h) ha
    have h2 : (i + 1) * τ.size ≤ l.length * τ.size := Nat.mul_le_mul_right _ (by omega)
    rw [Nat.add_mul] at h2
    refine ⟨b, cap, css[i], hc, hs.resolve_right (fun h => by rw [h] at hi; simp at hi), by rw [hgd]; exact hr, ?_, fun j u hj => ?_⟩
    · rcases him with him | ⟨m, hm1, hm2⟩
      · rw [him] at htot
        have hz : τ.size = 0 := by
          rcases Nat.eq_zero_or_pos τ.size with h | h
          · exact h
          · have : 0 < l.length * τ.size := Nat.mul_pos (by omega) h
            simp at htot; omega
        exact .inl (List.eq_nil_of_length_eq_zero (by rw [hlen, hz]))
      · exact .inr ⟨m, by omega, hm2⟩
    · have := getElem?_flatten_of_all2 (fun a cs h => FlatD.length τ a cs h) ha i _ (List.getElem?_eq_getElem hm) j u hj
      have := hcell _ _ this
      rw [Nat.add_assoc]; exact this

theorem sub_im {im : Nat → Nat → Prop} {b o o2 : Nat} {ds cs : List Value} (h : ds = [] ∨ ∃ m, o + ds.length ≤ m ∧ im b m) (g : ∀ j v, cs[j]? = some v → ds[o2 + j]? = some v) :
    cs = [] ∨ ∃ m, o + o2 + cs.length ≤ m ∧ im b m := by
  cases hc : cs with
  | nil => exact .inl rfl
  | cons c r =>
    right
    have hlt : cs.length - 1 < cs.length := by rw [hc]; simp
    have := g (cs.length - 1) _ (List.getElem?_eq_getElem hlt)
    have hb : o2 + (cs.length - 1) < ds.length := by
      rcases Nat.lt_or_ge (o2 + (cs.length - 1)) ds.length with h | h
      · exact h
      · rw [List.getElem?_eq_none h] at this; cases this
    rcases h with h | ⟨m, h1, h2⟩
    · rw [h] at hb; simp at hb
    · exact ⟨m, by rw [← hc]; omega, h2⟩

theorem two_args {f : Operand → V} {l : List Operand} {p q : V} (h : l.map f = [p, q]) : ∃ a1 a2, l = [a1, a2] ∧ f a1 = p ∧ f a2 = q := by
  cases l with
  | nil => simp at h
  | cons a1 l => cases l with
    | nil => simp at h
    | cons a2 l => cases l with
      | nil => simp at h; exact ⟨a1, a2, rfl, h.1, h.2⟩
      | cons _ _ => simp at h

theorem take_of_at {cs ds : List Value} {o n : Nat} (h : ∀ j v, cs[j]? = some v → ds[o + j]? = some v) (hl : cs.length = n) : (ds.drop o).take n = cs := by
  apply List.ext_getElem?
  intro j
  rw [List.getElem?_take]
  split
  · rename_i hj
    rw [List.getElem?_drop]
    have : cs[j]? = some cs[j] := List.getElem?_eq_getElem (by omega)
    rw [this]; exact h j _ this
  · rw [List.getElem?_eq_none (by omega)]

theorem foldl_push : ∀ (l : List Int) (s : ByteArray), (∀ b ∈ l, 0 ≤ b ∧ b < 256) → bytesOf (l.foldl (fun r n => r.push (UInt8.ofNat n.toNat)) s) = bytesOf s ++ l
  | [], s, _ => by simp
  | n :: l, s, h => by
    have hn := h n (by simp)
    rw [List.foldl_cons, foldl_push l _ fun b hb => h b (List.mem_cons_of_mem _ hb)]
    have : bytesOf (s.push (UInt8.ofNat n.toNat)) = bytesOf s ++ [n] := by
      simp only [bytesOf, ByteArray.push, Array.toList_push, List.map_append, List.map_cons, List.map_nil]
      congr 2
      have : (UInt8.ofNat n.toNat).toNat = n.toNat := by rw [UInt8.toNat_ofNat']; omega
      omega
    rw [this]; simp

theorem bytes_cells {E : Env} : ∀ (l : List Int) (css : List (List Value)), All2 (FlatD E (.int .u8)) l css → css.flatten = l.map (Value.int .u8) ∧ ∀ n ∈ l, 0 ≤ n ∧ n < 256
  | [], [], _ => by simp
  | [], _ :: _, h => h.elim
  | _ :: _, [], h => h.elim
  | n :: l, c :: css, ⟨⟨hc, hr⟩, h⟩ => by
    obtain ⟨i1, i2⟩ := bytes_cells l css h
    refine ⟨by simp [hc, i1], fun m hm => ?_⟩
    rcases List.mem_cons.1 hm with rfl | hm
    · rw [inR_iff] at hr
      simp only [IntKind.min, IntKind.max, IntKind.signed, IntKind.bits] at hr
      simp at hr; omega
    · exact i2 m hm

theorem run_bytes_str {src dst e : TypeId} (h1 : P.underlying src = some (.slice e)) (h2 : P.underlying e = some (.int .u8)) (h3 : P.underlying dst = some .string) {l : List Int} {v : Value} (h : SlAt G (.int .u8) l v) :
    ∃ s, (convert src dst v).run P G.w = .ok (.string s) G.w ∧ bytesOf s = l ∧ s.size ≤ maxLen := by
  obtain ⟨a, cap, css, rfl, hl, hcap, ha, hc⟩ := h
  obtain ⟨b1, b2⟩ := bytes_cells l css ha
  have hlen : ∀ s : ByteArray, bytesOf s = l → s.size ≤ maxLen := fun s hs => by
    have : (bytesOf s).length = s.size := by simp [bytesOf]
    rw [hs] at this
    have hl : List.length l ≤ cap := hl
    omega
  cases a with
  | none =>
    have hl0 : l = [] := by
      rcases hc with h | ⟨ad, h, _⟩
      · exact h
      · cases h
    subst hl0
    refine ⟨.empty, ?_, rfl, by simp [maxLen]⟩
    simp [convert, run_underlying h1, run_underlying h2, run_underlying h3, Conv.bytesToString]
  | some b =>
    have hload : (loadCells b (List.length l)).run P G.w = .ok (l.map (Value.int .u8)).toArray G.w := by
      have := run_loadCells_list (P := P) G.w b (l.map (Value.int .u8)) (fun j v hj => by
        rw [← b1] at hj
        rcases hc with rfl | ⟨ad, e1, e2, e3⟩
        · rw [b1] at hj; simp at hj
        · cases e1
          rw [add_plain _ _ e2]
          exact e3 j v hj)
      simpa using this
    refine ⟨l.foldl (fun r n => r.push (UInt8.ofNat n.toNat)) ByteArray.empty, ?_, ?_, ?_⟩
    · rw [run_convert_bytes_string G.w src dst e _ _ _ h1 h2 h3, run_bytesToString G.w _ _ _ l hload]
    · rw [foldl_push l _ b2]; rfl
    · exact hlen _ (by rw [foldl_push l _ b2]; rfl)

theorem lay_set (l : List Value) (n : Nat) (d : Value) (ds : List Value) (h : n < l.length) : lay (l.set n d) (n + 1) ds = lay l n (d :: ds) := by
  have e : l = l.take n ++ l[n] :: l.drop (n + 1) := by simp
  have hl : (l.take n).length = n := by simp; omega
  unfold lay
  have h1 : (l.set n d).take (n + 1) = l.take n ++ [d] := by
    rw [List.take_set, List.take_add_one, List.getElem?_eq_getElem h]
    simp only [Option.toList]
    rw [List.set_append_right _ _ (by omega), hl]
    simp
  have h2 : (l.set n d).drop (n + 1 + ds.length) = l.drop (n + (d :: ds).length) := by
    rw [List.drop_set_of_lt (by omega)]
    congr 1
    simp; omega
  rw [h1, h2]; simp

theorem fold_lay : ∀ (ds : List Value) (k off : Nat) (arr : Array Value), off + k + ds.length ≤ arr.size → ((ds.zipIdx k).foldl (fun (cs : Array Value) (p : Value × Nat) => cs.setIfInBounds (off + p.2) p.1) arr).toList = lay arr.toList (off + k) ds
  | [], k, off, arr, h => by simp [lay]
  | d :: ds, k, off, arr, h => by
    simp only [List.zipIdx_cons, List.foldl_cons]
    simp only [List.length_cons] at h
    rw [fold_lay ds (k + 1) off _ (by simp; omega)]
    simp only [Array.toList_setIfInBounds]
    rw [show off + (k + 1) = off + k + 1 by omega, lay_set _ _ _ _ (by simp; omega)]

theorem fields_ty {τ : Ty} {t : TypeId} (h : TyOk P τ t) {n : Nat} {σ : Ty} (hτ : τ = .arr n σ) : ∃ e, P.underlying t = some (.array n e) ∧ TyOk P σ e := by
  subst hτ; obtain ⟨e, h1, h2, _⟩ := h; exact ⟨e, h1, h2⟩

theorem sizes_run (w : World) : ∀ (τ : Ty) (fs : List Field) (off : Nat), FieldsOk P τ fs off → ∃ ps : List (Nat × Nat), (fs.mapM fun (f : Field) => (do pure (f.offset, ← sizeOf f.type) : Sem (Nat × Nat))).run P w = .ok ps w ∧
    ∀ j o u, offT τ [.fld j] = some (o, u) → ps[j]? = some (off + o, u.size)
  | .unit, fs, off, h => by
    simp only [FieldsOk] at h
    subst h
    exact ⟨[], by simp, fun j o u h => by simp [offT] at h⟩
  | .pair a b, fs, off, h => by
    obtain ⟨f, r, rfl, h1, h2, h3, h4, h5⟩ := h
    obtain ⟨ps, g1, g2⟩ := sizes_run w b r (off + a.size) h5
    refine ⟨(f.offset, a.size) :: ps, ?_, fun j o u hj => ?_⟩
    · rw [List.mapM_cons]
      simp only [Sem.run_bind, run_sizeOf w h4.info, Result.andThen_ok, Sem.run_pure] at g1 ⊢
      rw [g1]; rfl
    · cases j with
      | zero =>
        simp only [offT] at hj
        have : o = 0 ∧ u = a := by cases a <;> simp at hj <;> exact ⟨hj.1.symm, hj.2.symm⟩
        obtain ⟨rfl, rfl⟩ := this
        simp [h1]
      | succ j =>
        simp only [offT] at hj
        cases h6 : offT b [.fld j] with
        | none => simp [h6] at hj
        | some q =>
          simp [h6] at hj
          obtain ⟨rfl, rfl⟩ := hj
          have := g2 j q.1 q.2 h6
          simp [this]; omega
  | .int _, _, _, h => by simp [FieldsOk] at h
  | .bool, _, _, h => by simp [FieldsOk] at h
  | .str, _, _, h => by simp [FieldsOk] at h
  | .sl _, _, _, h => by simp [FieldsOk] at h
  | .arr _ _, _, _, h => by simp [FieldsOk] at h
  | .opq, _, _, h => by simp [FieldsOk] at h

theorem run_zeroV (w : World) {τ : Ty} {t : TypeId} (h : Info P t τ) : ∃ z : Value, (zeroValue t).run P w = .ok z w ∧ zcOk τ z.cells.toList ∧ (τ.isAgg = true → ∃ cs, z = .agg cs) ∧ (τ.isAgg = false → oneCell z) := by
  obtain ⟨inf, z, h1, h2, h3, h4, h5, h6, h7⟩ := h
  exact ⟨z, by simp [zeroValue, typeInfo, h1, h3], h4, h5, h6⟩

theorem stepOf_off {τ : Ty} {i : Nat} {u : Ty} (h : subT τ [stepOf τ i] = some u) (ho : (offT τ [stepOf τ i]).isSome = true) : ∃ o, offT τ [stepOf τ i] = some (o, u) := by
  obtain ⟨⟨o, u'⟩, h'⟩ := Option.isSome_iff_exists.1 ho
  have := offT_sub h'
  rw [h] at this; cases this
  exact ⟨o, h'⟩

theorem AtV.nilT {u : Ty} {v : V} {x : Value} (h : AtV G tm v x) : AtV G tm (Bx.nilT u v) x := by
  cases v with
  | snil =>
    simp only [Bx.nilT]
    split
    · simp only [AtV] at h ⊢
      exact ⟨.inl ⟨rfl, by rw [h]⟩, none, 0, h⟩
    · exact h
  | _ => exact h

theorem buildT_fill {e : Operand → V} {τ : Ty} {place : Nat → Option (Nat × Nat)} (hp : ∀ i o u, offT τ [stepOf τ i] = some (o, u) → place i = some (o, u.size)) :
    ∀ (parts : List (Nat × Operand)) (c c' : V) (cs : Array Value), (∀ x, AtV G tm (e x) (ρ x)) → FlatV G τ c cs.toList → buildT e τ parts c = some c' →
      ∃ cs', Instr.fill place cs (parts.map fun p => (p.1, ρ p.2)) = some cs' ∧ FlatV G τ c' cs'.toList
  | [], c, c', cs, _, hf, h => by
    simp only [buildT, Option.some.injEq] at h
    subst h
    exact ⟨cs, rfl, hf⟩
  | (i, x) :: r, c, c', cs, hx, hf, h => by
    simp only [buildT] at h
    split at h
    · rename_i u hu
      have hya : AtV G tm (nilT u (e x)) (ρ x) := (hx x).nilT
      generalize nilT u (e x) = y at h hya
      split at h
      · rename_i hfit
        simp only [Bool.and_eq_true] at hfit
        split at h
        · rename_i z hz
          obtain ⟨o, ho⟩ := stepOf_off hu hfit.2
          obtain ⟨hyf, hys⟩ := fits_flat hfit.1 hya
          obtain ⟨hle, hzf⟩ := setV_flat _ hf ho hyf hz
          have hsz : (ρ x).cells.size = u.size := hys.size
          simp only [Array.length_toList] at hle
          simp only [List.map_cons, Instr.fill, hp i o u ho]
          rw [if_neg (by simp [hsz]; omega)]
          have e1 := fold_lay (ρ x).cells.toList 0 o cs (by simpa using hle)
          have e2 : (Array.foldl (fun (cs : Array Value) (p : Value × Nat) => cs.setIfInBounds (o + p.2) p.1) cs (ρ x).cells.zipIdx) = ((ρ x).cells.toList.zipIdx 0).foldl (fun (cs : Array Value) (p : Value × Nat) => cs.setIfInBounds (o + p.2) p.1) cs := by
            rw [← Array.foldl_toList, Array.toList_zipIdx]
          obtain ⟨cs', g1, g2⟩ := buildT_fill hp r z c' (((ρ x).cells.toList.zipIdx 0).foldl (fun (cs : Array Value) (p : Value × Nat) => cs.setIfInBounds (o + p.2) p.1) cs) hx (by rw [e1]; simpa using hzf) h
          exact ⟨cs', by rw [← g1, ← e2], g2⟩
        · cases h
      · cases h
    · cases h

/-- the places of a type's parts, as the machine finds them -/
theorem places_run (w : World) {τ : Ty} {t : TypeId} (ht : TyOk P τ t) (hag : τ.isAgg = true) (z : Value) (hz1 : ∀ w, (zeroValue t).run P w = .ok z w) (parts : Array (Nat × Value)) (hnil : τ = .unit → parts = #[]) :
    ∃ place : Nat → Option (Nat × Nat), (∀ i o u, offT τ [stepOf τ i] = some (o, u) → place i = some (o, u.size)) ∧ ∀ cs', Instr.fill place z.cells parts.toList = some cs' → (Instr.build t parts).run P w = .ok (.agg cs') w := by
  cases τ with
  | arr n σ =>
    obtain ⟨el, hu, hσ, _⟩ := ht
    refine ⟨fun i => some (i * σ.size, σ.size), fun i o u ho => ?_, fun cs' h1 => ?_⟩
    · simp only [stepOf, offT] at ho
      split at ho
      · have : offT σ [] = some (0, σ) := by cases σ <;> rfl
        first | rw [this] at ho | skip
        simp at ho
        obtain ⟨rfl, rfl⟩ := ho
        simp
      · cases ho
    · simp only [Instr.build, Sem.run_bind, hz1, Result.andThen_ok, run_underlying hu, run_sizeOf w hσ.info, h1, Sem.run_pure]
  | unit =>
    refine ⟨fun _ => none, fun i o u ho => by simp [stepOf, offT] at ho, fun cs' h1 => ?_⟩
    rw [hnil rfl] at h1 ⊢
    simp only [Instr.fill, Option.some.injEq] at h1
    subst h1
    simp only [Instr.build, Sem.run_bind, hz1, Result.andThen_ok, run_underlying ht.1, Instr.fill]
    simp
  | pair a b =>
    obtain ⟨fs, hu, h2, _⟩ := ht
    have hf : FieldsOk P (.pair a b) fs.toList 0 := h2
    obtain ⟨ps, g1, g2⟩ := sizes_run w _ _ _ hf
    refine ⟨fun i => ps.toArray[i]?, fun i o u ho => by have := g2 i o u ho; simpa using this, fun cs' h1 => ?_⟩
    have e : (fs.mapM fun (f : Field) => (do pure (f.offset, ← sizeOf f.type) : Sem (Nat × Nat))) = (fs.toList.mapM (fun (f : Field) => (do pure (f.offset, ← sizeOf f.type) : Sem (Nat × Nat))) >>= fun l => pure l.toArray) := by
      rw [Array.mapM_eq_mapM_toList]; rfl
    simp only [Instr.build, Sem.run_bind, hz1, Result.andThen_ok, run_underlying hu, e, g1, Sem.run_pure, h1]
  | _ => simp [Ty.isAgg] at hag

/-- a struct or an array, built -/
theorem build_run {e : Operand → V} {τ : Ty} {t : TypeId} (ht : TyOk P τ t) (hag : τ.isAgg = true) {parts : Array (Nat × Operand)} {c' : V}
    (hx : ∀ x, AtV G tm (e x) (ρ x)) (h : buildT e τ parts.toList (zeroV τ) = some c') : ∃ v, (Instr.build t (parts.map fun p => (p.1, ρ p.2))).run P G.w = .ok v G.w ∧ AtV G tm c' v := by
  obtain ⟨z, hz1, hz2, hz3, _⟩ := run_zeroV (P := P) G.w ht.info
  have hz1' : ∀ w, (zeroValue t).run P w = .ok z w := by
    obtain ⟨inf, z', h1, h2, h3, _⟩ := ht.info
    intro w
    have e1 : (zeroValue t).run P w = .ok z' w := by simp [zeroValue, typeInfo, h1, h3]
    have e2 : (zeroValue t).run P G.w = .ok z' G.w := by simp [zeroValue, typeInfo, h1, h3]
    rw [e2] at hz1; cases hz1; exact e1
  have hzf := zeroV_flat (G := G) τ _ (ht.chained) hz2
  have hnil : τ = .unit → (parts.map fun p => (p.1, ρ p.2)) = #[] := by
    rintro rfl
    have hps : parts.toList = [] := by
      cases hq : parts.toList with
      | nil => rfl
      | cons p r => rw [hq] at h; simp [buildT, stepOf, subT] at h
    have : parts = #[] := by apply Array.ext'; simpa using hps
    rw [this]; simp
  obtain ⟨place, hp, hrun⟩ := places_run G.w ht hag z hz1' (parts.map fun p => (p.1, ρ p.2)) hnil
  obtain ⟨cs', h1, h2⟩ := buildT_fill hp parts.toList _ c' z.cells hx hzf h
  refine ⟨.agg cs', hrun cs' (by rw [Array.toList_map]; exact h1), ?_⟩
  obtain ⟨y, hy1, hy2, hy3, _⟩ := AtV.ofFlatV h2
  have := hy3 hag
  rw [this] at hy2
  have ho : sane c' = c' := by
    obtain ⟨_, _, hs, _⟩ := h2
    have := hs.tree hag
    cases c' <;> simp [V.tree] at this <;> rfl
  have h4 := hy2.sane (tm' := tm)
  rw [ho] at h4
  simpa using h4

end
end Go.Bx
