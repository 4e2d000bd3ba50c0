/- A part of a framework that reads Go code as functions of plain data; or a law about such functions. -/
import Derived.Test.YthgnmgdhgmobpaaBxH
import Derived.Laws.BytesString
import Derived.Laws.Cells
namespace Go.Bx
open Go Go.RowKit

section
variable {P : Program} {C : Ctx} {w0 : World} {I0 : Nat → Nat → Prop} {S : St} {a : Act} {w : World} {β : Nat → Option Nat}

theorem okR_eq {c : Prop} {i : Decidable c} {v v' : V} (h : okR v = some (.val c i v')) : v = v' := by
  simp only [okR, Option.some.injEq, Res.val.injEq] at h; exact h.2.2
theorem ifR_eq {q : Prop} [Decidable q] {c : Prop} {i : Decidable c} {v v' : V} (h : ifR q v = some (.val c i v')) : q = c ∧ v = v' := by
  simp only [ifR, Option.some.injEq, Res.val.injEq] at h; exact ⟨h.1, h.2.2⟩

theorem Rel.arm (h : Rel w0 I0 S a w β) {d : Nat} {t : Bool} (ht : a.tmps[d]? = some (.bool t)) (wt : Bool) (x : Operand) {y : Bool}
    (hy : (match Bx.ev S.fr x with
        | .opt d' w' (.data .bool y) => if Nat.beq d' d && (wt == w') then some y else none
        | .data .bool y => some y
        | _ => none) = some y) (hwt : wt = t) : a.eval x = .bool y := by
  have he := h.ev x
  split at hy
  · rename_i d' w' y' heq
    split at hy
    · rename_i hd
      simp only [Bool.and_eq_true, beq_iff_eq] at hd
      have hd1 : d' = d := Nat.eq_of_beq_eq_true hd.1
      have hd2 := hd.2
      subst hd1; subst hd2; subst hwt
      rw [heq] at he
      simp only [AtV] at he
      have := he.1 ht
      have hb := AtV.bool (by simpa [AtV] using this : AtV _ a.tmps (.data .bool y') _)
      rw [hb, Option.some.inj hy]
    · cases hy
  · rename_i y' heq
    rw [heq] at he
    rw [he.bool, Option.some.inj hy]
  · cases hy

theorem tmp_bool {a : Act} {d : Nat} {t : Bool} (h : a.eval (.tmp d) = .bool t) : a.tmps[d]? = some (.bool t) := by
  simp only [Act.eval, Array.getD_eq_getD_getElem?] at h
  cases hd : a.tmps[d]? with
  | none => rw [hd] at h; simp [undef] at h
  | some v => rw [hd] at h; simp at h; rw [h]

theorem nth_at {G : GE} {tm : Array Value} : ∀ {l : List V} {vs : List Value} {i : Nat}, AtL G tm l vs → i < l.length → ∃ x, vs[i]? = some x ∧ AtV G tm (nth l i) x
  | [], _, _, _, h => by simp at h
  | v :: l, [], _, h, _ => by simp [AtL] at h
  | v :: l, x :: vs, 0, h, _ => ⟨x, rfl, by simp only [AtL] at h; exact h.1⟩
  | v :: l, x :: vs, i + 1, h, hi => by
    simp only [AtL] at h
    obtain ⟨y, h1, h2⟩ := nth_at (i := i) h.2 (by simpa using hi)
    exact ⟨y, by simpa using h1, by simpa [nth] using h2⟩

theorem slice_elem {E : Env} {τ : Ty} {l : List τ.den} {v : Value} (h : FlatD E (.sl τ) l [v]) (i : Nat) (hi : i < l.length) :
    ∃ (b : Addr) (cap : Nat) (ds : List Value), v = .slice (some b) l.length cap ∧ b.spot = none ∧ FlatD E τ (l.getD i τ.zero) ds ∧ (ds = [] ∨ ∃ m, b.off + i * τ.size + ds.length ≤ m ∧ E.im b.block m) ∧
      ∀ j u, ds[j]? = some u → E.w.cell? ⟨b.block, b.off + i * τ.size + j, none⟩ = some u := by
  rcases h with ⟨rfl, _⟩ | ⟨b, cap, css, hc, hs, hl, hcap, ha, him, hcell⟩
  · simp at hi
  · simp at hc
    obtain ⟨hm, hr⟩ := ha.get i hi
    have hgd : l.getD i τ.zero = l[i] := by simp [List.getD, List.getElem?_eq_getElem hi]
    have hlen := FlatD.length _ _ _ hr
    have htot := All2.flat_length (fun a cs h => FlatD.length τ a cs h) ha
    have h2 : (i + 1) * τ.size ≤ l.length * τ.size := Nat.mul_le_mul_right _ (by omega)
    rw [Nat.add_mul] at h2
    refine ⟨b, cap, css[i], hc, hs.resolve_right (fun h => by rw [h] at hi; simp at hi), by rw [hgd]; exact hr, ?_, fun j u hj => ?_⟩
    · rcases him with him | ⟨m, hm1, hm2⟩
      · rw [him] at htot
        have hz : τ.size = 0 := by
          rcases Nat.eq_zero_or_pos τ.size with h | h
          · exact h
          · have : 0 < l.length * τ.size := Nat.mul_pos (by omega) h
            simp at htot; omega
        exact .inl (List.eq_nil_of_length_eq_zero (by rw [hlen, hz]))
      · exact .inr ⟨m, by omega, hm2⟩
    · have := getElem?_flatten_of_all2 (fun a cs h => FlatD.length τ a cs h) ha i _ (List.getElem?_eq_getElem hm) j u hj
      have := hcell _ _ this
      rw [Nat.add_assoc]; exact this

theorem sub_im {im : Nat → Nat → Prop} {b o o2 : Nat} {ds cs : List Value} (h : ds = [] ∨ ∃ m, o + ds.length ≤ m ∧ im b m) (g : ∀ j v, cs[j]? = some v → ds[o2 + j]? = some v) :
    cs = [] ∨ ∃ m, o + o2 + cs.length ≤ m ∧ im b m := by
  cases hc : cs with
  | nil => exact .inl rfl
  | cons c r =>
    right
    have hlt : cs.length - 1 < cs.length := by rw [hc]; simp
    have := g (cs.length - 1) _ (List.getElem?_eq_getElem hlt)
    have hb : o2 + (cs.length - 1) < ds.length := by
      rcases Nat.lt_or_ge (o2 + (cs.length - 1)) ds.length with h | h
      · exact h
      · rw [List.getElem?_eq_none h] at this; cases this
    rcases h with h | ⟨m, h1, h2⟩
    · rw [h] at hb; simp at hb
    · exact ⟨m, by rw [← hc]; omega, h2⟩

theorem two_args {f : Operand → V} {l : List Operand} {p q : V} (h : l.map f = [p, q]) : ∃ a1 a2, l = [a1, a2] ∧ f a1 = p ∧ f a2 = q := by
  cases l with
  | nil => simp at h
  | cons a1 l => cases l with
    | nil => simp at h
    | cons a2 l => cases l with
      | nil => simp at h; exact ⟨a1, a2, rfl, h.1, h.2⟩
      | cons _ _ => simp at h

theorem take_of_at {cs ds : List Value} {o n : Nat} (h : ∀ j v, cs[j]? = some v → ds[o + j]? = some v) (hl : cs.length = n) : (ds.drop o).take n = cs := by
  apply List.ext_getElem?
  intro j
  rw [List.getElem?_take]
  split
  · rename_i hj
    rw [List.getElem?_drop]
    have : cs[j]? = some cs[j] := List.getElem?_eq_getElem (by omega)
    rw [this]; exact h j _ this
  · rw [List.getElem?_eq_none (by omega)]

theorem foldl_push : ∀ (l : List Int) (s : ByteArray), (∀ b ∈ l, 0 ≤ b ∧ b < 256) → bytesOf (l.foldl (fun r n => r.push (UInt8.ofNat n.toNat)) s) = bytesOf s ++ l
  | [], s, _ => by simp
  | n :: l, s, h => by
    have hn := h n (by simp)
    rw [List.foldl_cons, foldl_push l _ fun b hb => h b (List.mem_cons_of_mem _ hb)]
    have : bytesOf (s.push (UInt8.ofNat n.toNat)) = bytesOf s ++ [n] := by
      simp only [bytesOf, ByteArray.push, Array.toList_push, List.map_append, List.map_cons, List.map_nil]
      congr 2
      have : (UInt8.ofNat n.toNat).toNat = n.toNat := by rw [UInt8.toNat_ofNat']; omega
      omega
    rw [this]; simp

theorem run_bytes_str {E : Env} {w : World} (hw : E.w = w) {src dst e : TypeId} (h1 : P.underlying src = some (.slice e)) (h2 : P.underlying e = some (.int .u8)) (h3 : P.underlying dst = some .string) {l : List Int} {v : Value} (h : FlatD E (.sl (.int .u8)) l [v]) :
    ∃ s, (convert src dst v).run P w = .ok (.string s) w ∧ bytesOf s = l ∧ s.size ≤ maxLen := by
  rcases h with ⟨rfl, hv⟩ | ⟨b, cap, css, hv, hs, hl, hcap, ha, him, hcell⟩
  · simp at hv
    subst hv
    refine ⟨.empty, ?_, rfl, by simp [maxLen]⟩
    simp [convert, run_underlying h1, run_underlying h2, run_underlying h3, Conv.bytesToString]
  · simp at hv
    subst hv
    have hb : ∀ (l : List Int) (css : List (List Value)), All2 (FlatD E (.int .u8)) l css → css.flatten = l.map (Value.int .u8) ∧ ∀ n ∈ l, 0 ≤ n ∧ n < 256 := by
      intro l
      induction l with
      | nil => intro css h; cases css with
        | nil => simp
        | cons _ _ => exact h.elim
      | cons n l ih => intro css h; cases css with
        | nil => exact h.elim
        | cons c css =>
          obtain ⟨⟨hc, hr⟩, h⟩ := h
          obtain ⟨i1, i2⟩ := ih css h
          refine ⟨by simp [hc, i1], fun m hm => ?_⟩
          rcases List.mem_cons.1 hm with rfl | hm
          · rw [inR_iff] at hr
            simp only [IntKind.min, IntKind.max, IntKind.signed, IntKind.bits] at hr
            simp at hr; omega
          · exact i2 m hm
    obtain ⟨b1, b2⟩ := hb l css ha
    have hload : (loadCells b (List.length l)).run P w = .ok (l.map (Value.int .u8)).toArray w := by
      have := run_loadCells_list (P := P) w b (l.map (Value.int .u8)) (fun j v hj => by
        rw [← b1] at hj
        have hne : l ≠ [] := by
          rintro rfl
          rw [b1] at hj; simp at hj
        rw [add_plain _ _ (hs.resolve_right hne), ← hw]
        exact hcell j v hj)
      simpa using this
    refine ⟨l.foldl (fun r n => r.push (UInt8.ofNat n.toNat)) ByteArray.empty, ?_, ?_, ?_⟩
    · rw [run_convert_bytes_string w src dst e _ _ _ h1 h2 h3, run_bytesToString w _ _ _ l hload]
    · rw [foldl_push l _ b2]; rfl
    · have := foldl_push l ByteArray.empty b2
      have hlen := congrArg List.length this
      simp only [bytesOf, List.length_map, Array.length_toList, List.length_append] at hlen
      have e0 : (ByteArray.empty).data.size = 0 := rfl
      rw [e0, Nat.zero_add] at hlen
      show (l.foldl (fun r n => r.push (UInt8.ofNat n.toNat)) ByteArray.empty).data.size ≤ maxLen
      rw [hlen]; omega

theorem lay_set (l : List Value) (n : Nat) (d : Value) (ds : List Value) (h : n < l.length) : lay (l.set n d) (n + 1) ds = lay l n (d :: ds) := by
  have e : l = l.take n ++ l[n] :: l.drop (n + 1) := by simp
  have hl : (l.take n).length = n := by simp; omega
  unfold lay
  have h1 : (l.set n d).take (n + 1) = l.take n ++ [d] := by
    rw [List.take_set, List.take_add_one, List.getElem?_eq_getElem h]
    simp only [Option.toList]
    rw [List.set_append_right _ _ (by omega), hl]
    simp
  have h2 : (l.set n d).drop (n + 1 + ds.length) = l.drop (n + (d :: ds).length) := by
    rw [List.drop_set_of_lt (by omega)]
    congr 1
    simp; omega
  rw [h1, h2]; simp

theorem fold_lay : ∀ (ds : List Value) (k off : Nat) (arr : Array Value), off + k + ds.length ≤ arr.size → ((ds.zipIdx k).foldl (fun (cs : Array Value) (p : Value × Nat) => cs.setIfInBounds (off + p.2) p.1) arr).toList = lay arr.toList (off + k) ds
  | [], k, off, arr, h => by simp [lay]
  | d :: ds, k, off, arr, h => by
    simp only [List.zipIdx_cons, List.foldl_cons]
    simp only [List.length_cons] at h
    rw [fold_lay ds (k + 1) off _ (by simp; omega)]
    simp only [Array.toList_setIfInBounds]
    rw [show off + (k + 1) = off + k + 1 by omega, lay_set _ _ _ _ (by simp; omega)]

theorem build_fill {E : Env} {e : Operand → V} {ρ : Operand → Value} {G : GE} {tm : Array Value} (hG : G.env = E) {τ : Ty} {place : Nat → Option (Nat × Nat)} (hp : ∀ i o u, offT τ [stepOf τ i] = some (o, u) → place i = some (o, u.size)) :
    ∀ (parts : List (Nat × Operand)) (c c' : τ.den) (cs : Array Value), (∀ x, AtV G tm (e x) (ρ x)) → FlatD E τ c cs.toList → buildV e τ parts c = some c' →
      ∃ cs', Instr.fill place cs (parts.map fun p => (p.1, ρ p.2)) = some cs' ∧ FlatD E τ c' cs'.toList
  | [], c, c', cs, _, hf, h => by
    simp only [buildV, Option.some.injEq] at h
    subst h
    exact ⟨cs, rfl, hf⟩
  | (i, x) :: r, c, c', cs, hx, hf, h => by
    have key : ∀ (o : Nat) (u σ : Ty) (y : σ.den) (z : τ.den), offT τ [stepOf τ i] = some (o, u) → AtD E σ y (ρ x) → updP τ c [stepOf τ i] σ y = some z → buildV e τ r z = some c' →
        ∃ cs', Instr.fill place cs (((i, x) :: r).map fun p => (p.1, ρ p.2)) = some cs' ∧ FlatD E τ c' cs'.toList := by
      intro o u σ y z ho hy hu hr
      have hyf := hy.cells
      obtain ⟨rfl, hle, hz⟩ := updP_flat τ c cs.toList _ o u σ y z _ hf ho hu hyf
      have hsz : (ρ x).cells.size = σ.size := by rw [← Array.length_toList]; exact FlatD.length _ _ _ hyf
      simp only [Array.length_toList] at hle
      simp only [List.map_cons, Instr.fill, hp i o σ ho]
      rw [if_neg (by simp [hsz]; omega)]
      have e1 := fold_lay (ρ x).cells.toList 0 o cs (by simpa using hle)
      have e2 : (Array.foldl (fun (cs : Array Value) (p : Value × Nat) => cs.setIfInBounds (o + p.2) p.1) cs (ρ x).cells.zipIdx) = ((ρ x).cells.toList.zipIdx 0).foldl (fun (cs : Array Value) (p : Value × Nat) => cs.setIfInBounds (o + p.2) p.1) cs := by
        rw [← Array.foldl_toList, Array.toList_zipIdx]
      obtain ⟨cs', g1, g2⟩ := build_fill hG hp r z c' (((ρ x).cells.toList.zipIdx 0).foldl (fun (cs : Array Value) (p : Value × Nat) => cs.setIfInBounds (o + p.2) p.1) cs) hx (by rw [e1]; simpa using hz) hr
      exact ⟨cs', by rw [← g1, ← e2], g2⟩
    simp only [buildV] at h
    have hv := hx x
    split at h
    · rename_i q σ y hq he
      obtain ⟨o, u⟩ := q
      rw [he] at hv
      simp only [AtV] at hv
      rw [hG] at hv
      split at h
      · rename_i z hz
        exact key o u σ y z hq hv hz h
      · cases h
    · rename_i o t hq he
      rw [he] at hv
      simp only [AtV] at hv
      split at h
      · rename_i z hz
        exact key o (.sl t) (.sl t) [] z hq (AtD.ofFlat (.inl ⟨rfl, by rw [hv]⟩) rfl) hz h
      · cases h
    · cases h

theorem fields_ty {τ : Ty} {t : TypeId} (h : TyOk P τ t) {n : Nat} {σ : Ty} (hτ : τ = .arr n σ) : ∃ e, P.underlying t = some (.array n e) ∧ TyOk P σ e := by
  subst hτ; obtain ⟨e, h1, h2, _⟩ := h; exact ⟨e, h1, h2⟩

theorem sizes_run (w : World) : ∀ (τ : Ty) (fs : List Field) (off : Nat), FieldsOk P τ fs off → ∃ ps : List (Nat × Nat), (fs.mapM fun (f : Field) => (do pure (f.offset, ← sizeOf f.type) : Sem (Nat × Nat))).run P w = .ok ps w ∧
    ∀ j o u, offT τ [.fld j] = some (o, u) → ps[j]? = some (off + o, u.size)
  | .unit, fs, off, h => by
    simp only [FieldsOk] at h
    subst h
    exact ⟨[], by simp, fun j o u h => by simp [offT] at h⟩
  | .pair a b, fs, off, h => by
    obtain ⟨f, r, rfl, h1, h2, h3, h4, h5⟩ := h
    obtain ⟨ps, g1, g2⟩ := sizes_run w b r (off + a.size) h5
    refine ⟨(f.offset, a.size) :: ps, ?_, fun j o u hj => ?_⟩
    · rw [List.mapM_cons]
      simp only [Sem.run_bind, run_sizeOf w h4.info, Result.andThen_ok, Sem.run_pure] at g1 ⊢
      rw [g1]; rfl
    · cases j with
      | zero =>
        simp only [offT] at hj
        have : o = 0 ∧ u = a := by cases a <;> simp at hj <;> exact ⟨hj.1.symm, hj.2.symm⟩
        obtain ⟨rfl, rfl⟩ := this
        simp [h1]
      | succ j =>
        simp only [offT] at hj
        cases h6 : offT b [.fld j] with
        | none => simp [h6] at hj
        | some q =>
          simp [h6] at hj
          obtain ⟨rfl, rfl⟩ := hj
          have := g2 j q.1 q.2 h6
          simp [this]; omega
  | .int _, _, _, h => by simp [FieldsOk] at h
  | .bool, _, _, h => by simp [FieldsOk] at h
  | .str, _, _, h => by simp [FieldsOk] at h
  | .sl _, _, _, h => by simp [FieldsOk] at h
  | .arr _ _, _, _, h => by simp [FieldsOk] at h
  | .opq, _, _, h => by simp [FieldsOk] at h

theorem run_zeroV (w : World) {τ : Ty} {t : TypeId} (h : Info P t τ) : ∃ z : Value, (zeroValue t).run P w = .ok z w ∧ z.cells.toList = zc τ := by
  obtain ⟨inf, z, h1, h2, h3, h4, h5⟩ := h
  exact ⟨z, by simp [zeroValue, typeInfo, h1, h3], h4⟩

/-- a struct or an array, built -/
theorem build_run (w : World) {e : Operand → V} {ρ : Operand → Value} {G : GE} {tm : Array Value} {τ : Ty} {t : TypeId} (ht : TyOk P τ t) (hag : τ.isAgg = true) (hpl : τ.plain = true) {parts : Array (Nat × Operand)} {c' : τ.den}
    (hx : ∀ x, AtV G tm (e x) (ρ x)) (h : buildV e τ parts.toList τ.zero = some c') : ∃ v, (Instr.build t (parts.map fun p => (p.1, ρ p.2))).run P w = .ok v w ∧ AtD G.env τ c' v := by
  obtain ⟨z, hz1, hz2⟩ := run_zeroV (P := P) w ht.info
  have hz : FlatD G.env τ τ.zero z.cells.toList := by rw [hz2]; exact FlatD.zero τ hpl
  cases τ with
  | arr n σ =>
    obtain ⟨el, hu, hσ, _⟩ := ht
    obtain ⟨cs', h1, h2⟩ := build_fill rfl (place := fun i => some (i * σ.size, σ.size)) (fun i o u ho => by
      simp only [stepOf, offT] at ho
      split at ho
      · have : offT σ [] = some (0, σ) := by cases σ <;> rfl
        first | rw [this] at ho | skip
        simp at ho
        obtain ⟨rfl, rfl⟩ := ho
        simp
      · cases ho) parts.toList _ c' z.cells hx hz h
    refine ⟨.agg cs', ?_, .ofAgg h2 rfl⟩
    simp only [Instr.build, Sem.run_bind, hz1, Result.andThen_ok, run_underlying hu, run_sizeOf w hσ.info, Array.toList_map, h1, Sem.run_pure]
  | unit =>
    have hps : parts.toList = [] := by
      cases hq : parts.toList with
      | nil => rfl
      | cons p r => rw [hq] at h; simp [buildV, stepOf, offT] at h
    refine ⟨.agg z.cells, ?_, .ofAgg hz rfl⟩
    simp only [Instr.build, Sem.run_bind, hz1, Result.andThen_ok, run_underlying ht.1, Array.toList_map, hps, List.map_nil, Instr.fill]
    simp
  | pair a b =>
    obtain ⟨fs, hu, h2, _⟩ := ht
    have hf : FieldsOk P (.pair a b) fs.toList 0 := h2
    obtain ⟨ps, g1, g2⟩ := sizes_run w _ _ _ hf
    obtain ⟨cs', h1, h2⟩ := build_fill rfl (place := fun i => ps.toArray[i]?) (fun i o u ho => by
      have := g2 i o u ho
      simpa using this) parts.toList _ c' z.cells hx hz h
    refine ⟨.agg cs', ?_, .ofAgg h2 rfl⟩
    have e : (fs.mapM fun (f : Field) => (do pure (f.offset, ← sizeOf f.type) : Sem (Nat × Nat))) = (fs.toList.mapM (fun (f : Field) => (do pure (f.offset, ← sizeOf f.type) : Sem (Nat × Nat))) >>= fun l => pure l.toArray) := by
      rw [Array.mapM_eq_mapM_toList]; rfl
    simp only [Instr.build, Sem.run_bind, hz1, Result.andThen_ok, run_underlying hu, e, g1, Sem.run_pure, Array.toList_map, h1]
  | _ => simp [Ty.isAgg] at hag

theorem valR_val (hC : CtxOk P C) (h : Rel w0 I0 S a w β) {g : Option Gd} (hg : Yes g a.tmps) (o : Oper) {c : Prop} {i : Decidable c} {v : V} (hv : valR C g S.fr S.hp o.op = some (.val c i v)) (hc : c) :
    ∃ x, (execOp a.eval o).run P w = .ok (.value x) w ∧ AtV ⟨w, β, S.hp, w0.heap.size, I0⟩ a.tmps v x := by
  obtain ⟨dst, op, type, pos, after, guard⟩ := o
  cases op <;> simp only [valR] at hv
  case move x =>
    obtain rfl := okR_eq hv
    exact ⟨_, by simp [execOp], h.un hg x⟩
  case assign x =>
    obtain rfl := okR_eq hv
    exact ⟨_, by simp [execOp], h.un hg x⟩
  case pick co ao bo =>
    split at hv
    · rename_i d t heq
      have hb := h.ud hg (.tmp d)
      rw [heq] at hb
      have hb := hb.bool
      have ht := tmp_bool hb
      split at hv
      · rename_i y z h1 h2
        obtain rfl := okR_eq hv
        refine ⟨.bool (cond t y z), ?_, .mkBool⟩
        cases t with
        | true =>
          have := h.arm ht true ao h1 rfl
          simp [execOp, hb, asBool, this]
        | false =>
          have := h.arm ht false bo h2 rfl
          simp [execOp, hb, asBool, this]
      · cases hv
    · cases hv
  case load t x =>
    split at hv
    · cases hv
    · rename_i τ hτ
      have htk := hC.ty _ _ hτ
      have hx := h.ud hg x
      split at hv
      · rename_i id p heq
        rw [heq] at hx
        simp only [AtV] at hx
        obtain ⟨b, τ0, c0, o, u, hb1, hb2, hb3, hb4⟩ := hx
        split at hv
        · rename_i τ1 σ y hblk
          obtain ⟨rfl, b', arr, ty, e1, e2, e3⟩ := h.blk hblk
          rw [hblk] at hb1
          simp only [Option.some.injEq, Blk.var.injEq] at hb1
          obtain ⟨rfl, rfl⟩ := hb1
          rw [e1] at hb2; cases hb2
          obtain ⟨z, cs', g1, g2, g3⟩ := getP_flat _ _ _ p o u e3 hb3
          rw [g1] at hv
          simp only at hv
          split at hv
          · rename_i hu
            subst hu
            obtain rfl := okR_eq hv
            obtain ⟨x', r1, r2⟩ := run_loadVar w htk ⟨b, o, none⟩ rfl g2 (fun j v hj => by rw [cell_arr e2]; exact g3 j v hj)
            exact ⟨x', by simp [execOp, hb4, Instr.loadAt, Instr.sureAddr, r1], by simpa [AtV] using r2⟩
          · cases hv
        · cases hv
      · rename_i σ y heq
        rw [heq] at hx
        simp only [AtV] at hx
        obtain ⟨ad, ds, e1, e2, _, e4, e5⟩ := hx
        split at hv
        · rename_i hu
          subst hu
          obtain rfl := okR_eq hv
          obtain ⟨x', r1, r2⟩ := run_loadVar w htk ad e2 e5 e4
          exact ⟨x', by simp [execOp, e1, Instr.loadAt, Instr.sureAddr, r1], by simpa [AtV] using r2⟩
        · cases hv
      · cases hv
  case indexAddr t x ix =>
    have hx := h.ud hg x
    have hi := h.ud hg ix
    split at hv
    · rename_i len τ id p k n hτ heq heq2
      have htk := hC.ty _ _ hτ
      obtain ⟨e, hu, hte, _⟩ := htk
      rw [heq] at hx; rw [heq2] at hi
      obtain ⟨hi1, _⟩ := hi.int
      split at hv
      · rename_i σ c1 hblk
        split at hv
        · rename_i hsub
          obtain ⟨rfl, rfl⟩ := ifR_eq hv
          simp only [AtV] at hx
          obtain ⟨b, τ0, c0, o, u, hb1, hb2, hb3, hb4⟩ := hx
          rw [hblk] at hb1
          simp only [Option.some.injEq, Blk.var.injEq] at hb1
          obtain ⟨rfl, rfl⟩ := hb1
          have := offT_sub hb3
          rw [hsub] at this; cases this
          refine ⟨.pointer (some ⟨b, o + n.toNat * τ.size, none⟩), ?_, ?_⟩
          · simp [execOp, hb4, hi1, Instr.indexAt, asIntOf, run_underlying hu, Instr.sureAddr, hc, run_sizeOf w hte.info, add_plain]
          · simp only [AtV]
            refine ⟨b, _, _, o + n.toNat * τ.size, τ, hblk, hb2, offT_snoc (.idx n) hb3 ?_, rfl⟩
            simp only [offT]
            rw [if_pos hc]; simp
        · cases hv
      · cases hv
    · rename_i τ τ' l k n hτ heq heq2
      have htk := hC.ty _ _ hτ
      obtain ⟨e, hu, hte, _⟩ := htk
      rw [heq] at hx; rw [heq2] at hi
      obtain ⟨hi1, _⟩ := hi.int
      split at hv
      · rename_i ht
        subst ht
        obtain ⟨rfl, rfl⟩ := ifR_eq hv
        simp only [AtV] at hx
        have hil : n.toNat < List.length l := (Int.toNat_lt hc.1).2 hc.2
        obtain ⟨b, cap, ds, e1, e2, e3, e4, e5⟩ := slice_elem (hx.one rfl) n.toNat hil
        refine ⟨.pointer (some ⟨b.block, b.off + n.toNat * τ.size, none⟩), ?_, ?_⟩
        · simp [execOp, e1, hi1, Instr.indexAt, asIntOf, run_underlying hu, hc, run_sizeOf w hte.info, add_plain, e2]
        · simp only [AtV]
          exact ⟨_, ds, rfl, rfl, e4, e5, e3⟩
      · cases hv
    · rename_i len' τ len τ' l k n hτ heq heq2
      have htk := hC.ty _ _ hτ
      obtain ⟨e, hu, hte, _⟩ := htk
      rw [heq] at hx; rw [heq2] at hi
      obtain ⟨hi1, _⟩ := hi.int
      split at hv
      · rename_i ht
        obtain ⟨ht1, ht2⟩ := ht
        subst ht1; subst ht2
        obtain ⟨rfl, rfl⟩ := ifR_eq hv
        simp only [AtV] at hx
        obtain ⟨ad, ds, e1, e2, e3, e4, e5⟩ := hx
        obtain ⟨z, cs', g1, g2, g3⟩ := getP_flat _ _ _ [.idx n] (n.toNat * τ.size) τ e5 (by simp only [offT]; rw [if_pos hc]; simp)
        simp only [getP, V.data.injEq, heq_eq_eq, true_and] at g1
        subst g1
        refine ⟨.pointer (some ⟨ad.block, ad.off + n.toNat * τ.size, none⟩), ?_, ?_⟩
        · simp [execOp, e1, hi1, Instr.indexAt, asIntOf, run_underlying hu, Instr.sureAddr, hc, run_sizeOf w hte.info, add_plain, e2]
        · simp only [AtV]
          refine ⟨_, cs', rfl, rfl, ?_, fun j u hj => by rw [Nat.add_assoc]; exact e4 _ _ (g3 j u hj), g2⟩
          exact sub_im e3 g3
      · cases hv
    · cases hv
  case fieldAddr t x j =>
    have hx := h.ud hg x
    split at hv
    · rename_i τ id p hτ heq
      have htk := hC.ty _ _ hτ
      rw [heq] at hx
      split at hv
      · rename_i σ c1 hblk
        split at hv
        · rename_i hsub
          obtain ⟨hsub, hfld⟩ := hsub
          obtain rfl := okR_eq hv
          simp only [AtV] at hx
          obtain ⟨b, τ0, c0, o, u, hb1, hb2, hb3, hb4⟩ := hx
          rw [hblk] at hb1
          simp only [Option.some.injEq, Blk.var.injEq] at hb1
          obtain ⟨rfl, rfl⟩ := hb1
          have := offT_sub hb3
          rw [hsub] at this; cases this
          obtain ⟨u, hu⟩ := Option.isSome_iff_exists.1 hfld
          obtain ⟨o2, ho2⟩ := fld_off hu
          obtain ⟨fs, f, f1, f2, f3, f4, f5⟩ := htk.fields ho2
          refine ⟨.pointer (some ⟨b, o + o2, none⟩), ?_, ?_⟩
          · simp [execOp, hb4, Instr.fieldAt, run_underlying f1, f2, Instr.sureAddr, fieldPlace, run_sizeOf w f4.info, f5, add_plain, f3]
          · simp only [AtV]
            exact ⟨b, _, _, o + o2, u, hblk, hb2, offT_snoc (.fld j) hb3 ho2, rfl⟩
        · cases hv
      · cases hv
    · rename_i τ' τ y hτ heq
      have htk := hC.ty _ _ hτ
      rw [heq] at hx
      split at hv
      · rename_i ht
        subst ht
        split at hv
        · rename_i u z hp
          obtain rfl := okR_eq hv
          simp only [AtV] at hx
          obtain ⟨ad, ds, e1, e2, e3, e4, e5⟩ := hx
          obtain ⟨o2, cs', ho2, g2, g3⟩ := proj_flat hp e5
          obtain ⟨fs, f, f1, f2, f3, f4, f5⟩ := htk.fields ho2
          refine ⟨.pointer (some ⟨ad.block, ad.off + o2, none⟩), ?_, ?_⟩
          · simp [execOp, e1, Instr.fieldAt, run_underlying f1, f2, Instr.sureAddr, fieldPlace, run_sizeOf w f4.info, f5, add_plain, f3, e2]
          · simp only [AtV]
            refine ⟨_, cs', rfl, rfl, ?_, fun j u hj => by rw [Nat.add_assoc]; exact e4 _ _ (g3 j u hj), g2⟩
            exact sub_im e3 g3
        · cases hv
      · cases hv
    · cases hv
  case binOp op xt x y yt =>
    have hx := h.ud hg x
    have hy := h.ud hg y
    obtain ⟨z, r1, r2⟩ := binV_run (P := P) hC w op xt x y hx hy hv hc
    exact ⟨z, by simp only [execOp, Sem.run_bind, r1, Result.andThen_ok, Sem.run_pure], r2⟩
  case unOp op xt x =>
    have hx := h.ud hg x
    unfold unV at hv
    split at hv
    · rename_i b heq
      rw [heq] at hx
      have hb := hx.bool
      obtain rfl := okR_eq hv
      exact ⟨.bool (!b), by simp [execOp, hb, Op.unary], .mkBool⟩
    · rename_i k n heq
      rw [heq] at hx
      obtain ⟨hx, _⟩ := hx.int
      obtain rfl := okR_eq hv
      exact ⟨_, by simp [execOp, hx, Op.unary, Op.intArith], .mkInt (inR_wrap _ _)⟩
    · rename_i k n heq
      rw [heq] at hx
      obtain ⟨hx, _⟩ := hx.int
      obtain rfl := okR_eq hv
      exact ⟨_, by simp only [execOp, hx, Op.unary, Op.intBits, Sem.run_bind, Sem.run_pure, Result.andThen_ok]; rfl, .mkInt (inR_wrap _ _)⟩
    · cases hv
  case convert s d x =>
    have hx := h.ud hg x
    split at hv
    · rename_i k1 k2 k3 n h1 h2 heq
      rw [heq] at hx
      obtain ⟨hx, _⟩ := hx.int
      obtain rfl := okR_eq hv
      have t1 := (hC.ty _ _ h1).1
      have t2 := (hC.ty _ _ h2).1
      exact ⟨_, by simp [execOp, hx, convert, run_underlying t1, run_underlying t2, Conv.intToInt], .mkInt (inR_wrap _ _)⟩
    · rename_i l h1 h2 heq
      rw [heq] at hx
      simp only [AtV] at hx
      obtain rfl := okR_eq hv
      obtain ⟨e, t1, t3, _⟩ := hC.ty _ _ h1
      have t2 := (hC.ty _ _ h2).1
      have t4 := t3.1
      obtain ⟨s, r1, r2, r3⟩ := run_bytes_str (P := P) (w := w) rfl t1 t4 t2 (hx.one rfl)
      refine ⟨.string s, by simp only [execOp, Sem.run_bind, r1, Result.andThen_ok, Sem.run_pure], ?_⟩
      simp only [AtV]
      exact AtD.ofFlat ⟨s, rfl, r2, r3⟩ rfl
    · rename_i l h1 h2 heq
      rw [heq] at hx
      obtain rfl := okR_eq hv
      have t1 := (hC.ty _ _ h1).1
      have t2 := (hC.ty _ _ h2).1
      have hx' := hx
      simp only [AtV] at hx
      obtain ⟨s, e1, _⟩ := hx.one rfl
      simp at e1
      exact ⟨a.eval x, by simp [execOp, e1, convert, run_underlying t1, run_underlying t2], hx'⟩
    · cases hv
  case index t x ix =>
    have hx := h.ud hg x
    have hi := h.ud hg ix
    split at hv
    · rename_i len τ len' τ' l k n h1 heq heq2
      rw [heq] at hx; rw [heq2] at hi
      obtain ⟨hi1, _⟩ := hi.int
      split at hv
      · rename_i hu
        obtain ⟨rfl, rfl⟩ := hu
        obtain ⟨rfl, rfl⟩ := ifR_eq hv
        have hcc := hc
        obtain ⟨e, hu, hte, _⟩ := hC.ty _ _ h1
        simp only [AtV] at hx
        obtain ⟨cs, ev, hf⟩ := hx.agg rfl
        obtain ⟨z, cs', g1, g2, g3⟩ := getP_flat (.arr len τ) l cs.toList [.idx n] (n.toNat * τ.size + 0) τ hf (by
          have : offT τ [] = some (0, τ) := by cases τ <;> rfl
          simp only [offT, this, if_pos hcc])
        have gz : z = l.getD n.toNat τ.zero := by
          have : getP (.arr len τ) l [.idx n] = .data τ (l.getD n.toNat τ.zero) := by
            cases τ <;> rfl
          rw [this] at g1
          simp only [V.data.injEq, true_and] at g1
          exact (eq_of_heq g1).symm
        subst gz
        obtain ⟨v, r1, r2⟩ := run_part (P := P) w hte cs (n.toNat * τ.size) g2 (take_of_at g3 (FlatD.length _ _ _ g2))
        refine ⟨v, ?_, by simpa only [AtV] using r2⟩
        simp only [execOp, Instr.index, ev, hi1, asIntOf, Sem.run_bind, Sem.run_pure, Result.andThen_ok, run_underlying hu, if_pos hcc, run_sizeOf w hte.info, r1]
      · cases hv
    · rename_i l k n h1 heq heq2
      rw [heq] at hx; rw [heq2] at hi
      obtain ⟨hi1, _⟩ := hi.int
      obtain ⟨rfl, rfl⟩ := ifR_eq hv
      have hcc := hc
      have hu := (hC.ty _ _ h1).1
      simp only [AtV] at hx
      obtain ⟨s, e1, e2, e3⟩ := hx.one rfl
      simp at e1
      subst e2
      have hlen : (bytesOf s).length = s.size := by simp [bytesOf]
      have hn : n.toNat < s.size := by
        have h1 := hcc.1; have h2 := hcc.2
        rw [hlen] at h2
        exact (Int.toNat_lt h1).2 h2
      refine ⟨.int .u8 ((bytesOf s).getD n.toNat 0), ?_, .mkInt ?_⟩
      · have hget : s[n.toNat]? = some s[n.toNat] := by simp [hn]
        have hgd : (bytesOf s).getD n.toNat 0 = ((s[n.toNat].toNat : Nat) : Int) := by
          simp only [bytesOf, List.getD, List.getElem?_map]
          rw [List.getElem?_eq_getElem (by simpa using hn)]
          rfl
        simp only [execOp, Instr.index, e1, hi1, asIntOf, Sem.run_bind, Sem.run_pure, Result.andThen_ok, run_underlying hu, if_pos hcc.1, hget, hgd]
      · have hgd : (bytesOf s).getD n.toNat 0 = ((s[n.toNat].toNat : Nat) : Int) := by
          simp only [bytesOf, List.getD, List.getElem?_map]
          rw [List.getElem?_eq_getElem (by simpa using hn)]
          rfl
        rw [hgd, inR_iff]
        have := (s[n.toNat]).toNat_lt
        simp only [IntKind.min, IntKind.max, IntKind.signed, IntKind.bits]
        simp; omega
    · cases hv
  case field t x j =>
    have hx := h.ud hg x
    split at hv
    · rename_i τ' τ y h1 heq
      rw [heq] at hx
      split at hv
      · rename_i hu
        subst hu
        split at hv
        · rename_i σ z hp
          obtain rfl := okR_eq hv
          simp only [AtV] at hx
          have htk := hC.ty _ _ h1
          have hag : τ.isAgg = true := by
            cases τ with
            | pair _ _ => rfl
            | _ => simp [proj] at hp
          obtain ⟨cs, ev, hf⟩ := hx.agg hag
          obtain ⟨o, ds, g1, g2, g3⟩ := proj_flat hp hf
          obtain ⟨fs, f, f1, f2, f3, f4, f5⟩ := htk.fields g1
          obtain ⟨v, r1, r2⟩ := run_part (P := P) w f4 cs o g2 (take_of_at g3 (FlatD.length _ _ _ g2))
          refine ⟨v, ?_, by simpa only [AtV] using r2⟩
          simp only [execOp, Instr.field, ev, Sem.run_bind, run_underlying f1, Result.andThen_ok, f2, asAgg, Sem.run_pure, f3, r1]
        · cases hv
      · cases hv
    · cases hv
  case build t parts =>
    split at hv
    · rename_i τ h1
      split at hv
      · rename_i hag
        simp only [Bool.and_eq_true] at hag
        split at hv
        · rename_i y hb
          obtain rfl := okR_eq hv
          obtain ⟨v, r1, r2⟩ := build_run (P := P) w (hC.ty _ _ h1) hag.1 hag.2 (fun x => h.ud hg x) hb
          exact ⟨v, by simp only [execOp, Sem.run_bind, r1, Result.andThen_ok, Sem.run_pure], by simpa only [AtV] using r2⟩
        · cases hv
      · cases hv
    · cases hv
  case extract x ix =>
    have hx := h.ud hg x
    split at hv
    · rename_i l heq
      rw [heq] at hx
      simp only [AtV] at hx
      obtain ⟨vs, e1, e2⟩ := hx
      split at hv
      · rename_i hi
        have hi' : ix < l.length := Nat.le_of_ble_eq_true hi
        obtain rfl := okR_eq hv
        obtain ⟨y, h1, h2⟩ := nth_at e2 hi'
        exact ⟨y, by simp [execOp, e1, Instr.extract, show vs[ix]? = some y by simpa using h1], h2.sane⟩
      · cases hv
    · cases hv
  case buildSlice t n parts =>
    split at hv
    · split at hv
      · split at hv <;> cases hv
      · cases hv
    · cases hv
  case call c' =>
    split at hv
    · split at hv
      · split at hv
        · split at hv <;> simp at hv
        · cases hv
      · cases hv
    · rename_i hcal
      split at hv
      · rename_i τ l t h1 h2
        split at hv
        · rename_i hl
          obtain rfl := okR_eq hv
          obtain ⟨e, hu, _⟩ := hC.ty _ _ hl
          obtain ⟨ar, hargs⟩ : ∃ x, c'.args.toList = [x] := by
            cases hq : c'.args.toList with
            | nil => rw [hq] at h1; simp at h1
            | cons x r => cases r with
              | nil => exact ⟨x, rfl⟩
              | cons _ _ => rw [hq] at h1; simp at h1
          have hx := h.ud hg ar
          rw [hargs] at h1
          simp only [List.map_cons, List.map_nil, List.cons.injEq, and_true] at h1
          rw [h1] at hx
          simp only [AtV] at hx
          have ha1 : c'.args.map a.eval = #[a.eval ar] := by
            apply Array.ext'; simp [hargs]
          have ha2 : c'.argTypes = #[t] := by apply Array.ext'; simpa using h2
          refine ⟨.int .i64 (List.length l : Int), ?_, .mkInt ?_⟩
          · rcases hx.one rfl with ⟨e1, e2⟩ | ⟨b, cap, css, e1, _⟩
            · simp at e2
              subst e1
              simp [execOp, resolve, hcal, ha1, e2, invoke, builtin, Builtin.len_, ha2, run_underlying hu, goInt]
            · simp at e1
              simp [execOp, resolve, hcal, ha1, e1, invoke, builtin, Builtin.len_, ha2, run_underlying hu, goInt]
          · rw [inR_iff]
            rcases hx.one rfl with ⟨e1, e2⟩ | ⟨b, cap, css, e1, _, e3, e4, _⟩
            · subst e1; simp; decide
            · unfold maxLen at e4; simp [IntKind.min, IntKind.max, IntKind.bits, IntKind.signed]; omega
        · cases hv
      · rename_i l t h1 h2
        split at hv
        · rename_i hl
          obtain rfl := okR_eq hv
          obtain ⟨hu, _⟩ := hC.ty _ _ hl
          obtain ⟨ar, hargs⟩ : ∃ x, c'.args.toList = [x] := by
            cases hq : c'.args.toList with
            | nil => rw [hq] at h1; simp at h1
            | cons x r => cases r with
              | nil => exact ⟨x, rfl⟩
              | cons _ _ => rw [hq] at h1; simp at h1
          have hx := h.ud hg ar
          rw [hargs] at h1
          simp only [List.map_cons, List.map_nil, List.cons.injEq, and_true] at h1
          rw [h1] at hx
          simp only [AtV] at hx
          have ha1 : c'.args.map a.eval = #[a.eval ar] := by
            apply Array.ext'; simp [hargs]
          have ha2 : c'.argTypes = #[t] := by apply Array.ext'; simpa using h2
          obtain ⟨s, e1, e2, e3⟩ := hx.one rfl
          simp at e1
          have hls : s.size = List.length l := by rw [← e2]; simp [bytesOf]
          refine ⟨.int .i64 (List.length l : Int), ?_, .mkInt ?_⟩
          · simp [execOp, resolve, hcal, ha1, e1, invoke, builtin, Builtin.len_, ha2, run_underlying hu, goInt, hls]
          · rw [inR_iff]
            unfold maxLen at e3; simp [IntKind.min, IntKind.max, IntKind.bits, IntKind.signed]; omega
        · cases hv
      · cases hv
    · rename_i hcal
      split at hv
      · rename_i k x k' y h1
        split at hv
        rotate_left
        · cases hv
        rename_i hkk
        subst hkk
        obtain rfl := okR_eq hv
        obtain ⟨a1, a2, hargs, e1, e2⟩ := two_args h1
        have hx := h.ud hg a1
        have hy := h.ud hg a2
        rw [e1] at hx; rw [e2] at hy
        obtain ⟨hx, rx⟩ := hx.int
        obtain ⟨hy, ry⟩ := hy.int
        have ha1 : c'.args.map a.eval = #[a.eval a1, a.eval a2] := by apply Array.ext'; simp [hargs]
        refine ⟨.int k (if y > x then y else x), ?_, .mkInt ?_⟩
        · simp [execOp, resolve, hcal, ha1, hx, hy, invoke, builtin, Builtin.max_, Builtin.max2]
        · split <;> assumption
      · cases hv
    · rename_i hcal
      split at hv
      · rename_i k x k' y h1
        split at hv
        rotate_left
        · cases hv
        rename_i hkk
        subst hkk
        obtain rfl := okR_eq hv
        obtain ⟨a1, a2, hargs, e1, e2⟩ := two_args h1
        have hx := h.ud hg a1
        have hy := h.ud hg a2
        rw [e1] at hx; rw [e2] at hy
        obtain ⟨hx, rx⟩ := hx.int
        obtain ⟨hy, ry⟩ := hy.int
        have ha1 : c'.args.map a.eval = #[a.eval a1, a.eval a2] := by apply Array.ext'; simp [hargs]
        refine ⟨.int k (if y < x then y else x), ?_, .mkInt ?_⟩
        · simp [execOp, resolve, hcal, ha1, hx, hy, invoke, builtin, Builtin.min_, Builtin.min2]
        · split <;> assumption
      · cases hv
    · cases hv
  all_goals (first | (cases hv; done) | (simp at hv; done))

end
end Go.Bx
