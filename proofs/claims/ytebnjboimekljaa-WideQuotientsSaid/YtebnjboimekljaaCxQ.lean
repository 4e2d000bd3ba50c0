/- A part of a framework that reads Go code as functions of plain data; or a law about such functions. -/
import Derived.Test.YtebnjboimekljaaCxP
import Derived.Laws.IdiomCopy
import Derived.Laws.IdiomStrings
namespace Go.Bx
set_option linter.unusedVariables false
set_option linter.unusedSimpArgs false
open Go Go.RowKit

section
variable {P : Program} {C : Ctx} {G : GE} {fr : List V} {ρ : Operand → Value} {tm : Array Value}

theorem range_rep (l : List Value) (s : Nat) (hs : l.length = s) : ∀ n, (List.range (n * s)).map (fun i => l[i % s]!) = (List.replicate n l).flatten
  | 0 => by simp
  | n + 1 => by
    have e : (n + 1) * s = s + n * s := by rw [Nat.add_mul]; omega
    rw [e, List.range_add, List.map_append, List.map_map, List.replicate_succ, List.flatten_cons, ← range_rep l s hs n]
    congr 1
    · apply List.ext_getElem?
      intro i
      rw [List.getElem?_map]
      by_cases hi : i < s
      · rw [List.getElem?_range hi, Option.map_some, Nat.mod_eq_of_lt hi, List.getElem!_eq_getElem?_getD, List.getElem?_eq_getElem (by omega)]; rfl
      · rw [List.getElem?_eq_none (by simp; omega), List.getElem?_eq_none (by omega)]; rfl
    · apply List.map_congr_left
      intro i _
      simp [Function.comp]

/-- data out of its parts -/
theorem buildV_fill {E : Env} {e : Operand → V} {τ : Ty} {place : Nat → Option (Nat × Nat)} (hp : ∀ i o u, offT τ [stepOf τ i] = some (o, u) → place i = some (o, u.size)) :
    ∀ (parts : List (Nat × Operand)) (c c' : τ.den) (cs : Array Value), (∀ p ∈ parts, (∀ t y, e p.2 = .data t y → AtD E t y (ρ p.2)) ∧ (e p.2 = .snil → ρ p.2 = .slice none 0 0)) → FlatD E τ c cs.toList → buildV e τ parts c = some c' →
      ∃ cs', Instr.fill place cs (parts.map fun p => (p.1, ρ p.2)) = some cs' ∧ FlatD E τ c' cs'.toList
  | [], c, c', cs, _, hf, h => by
    simp only [buildV, Option.some.injEq] at h
    subst h
    exact ⟨cs, rfl, hf⟩
  | (i, x) :: r, c, c', cs, hx, hf, h => by
    have key : ∀ (o : Nat) (u σ : Ty) (y : σ.den) (z : τ.den), offT τ [stepOf τ i] = some (o, u) → AtD E σ y (ρ x) → updP τ c [stepOf τ i] σ y = some z → buildV e τ r z = some c' →
        ∃ cs', Instr.fill place cs (((i, x) :: r).map fun p => (p.1, ρ p.2)) = some cs' ∧ FlatD E τ c' cs'.toList := by
      intro o u σ y z ho hy hu hr
      have hyf := hy.cells
      obtain ⟨rfl, hle, hz⟩ := updP_flat τ c cs.toList _ o u σ y z _ hf ho hu hyf
      have hsz : (ρ x).cells.size = σ.size := by rw [← Array.length_toList]; exact FlatD.length _ _ _ hyf
      simp only [Array.length_toList] at hle
      simp only [List.map_cons, Instr.fill, hp i o σ ho]
      rw [if_neg (by simp [hsz]; omega)]
      have e1 := fold_lay (ρ x).cells.toList 0 o cs (by simpa using hle)
      have e2 : (Array.foldl (fun (cs : Array Value) (p : Value × Nat) => cs.setIfInBounds (o + p.2) p.1) cs (ρ x).cells.zipIdx) = ((ρ x).cells.toList.zipIdx 0).foldl (fun (cs : Array Value) (p : Value × Nat) => cs.setIfInBounds (o + p.2) p.1) cs := by
        rw [← Array.foldl_toList, Array.toList_zipIdx]
      obtain ⟨cs', g1, g2⟩ := buildV_fill hp r z c' (((ρ x).cells.toList.zipIdx 0).foldl (fun (cs : Array Value) (p : Value × Nat) => cs.setIfInBounds (o + p.2) p.1) cs) (fun p hp => hx p (List.mem_cons_of_mem _ hp)) (by rw [e1]; simpa using hz) hr
      exact ⟨cs', by rw [← g1, ← e2], g2⟩
    simp only [buildV] at h
    have hv := hx (i, x) (by simp)
    split at h
    · rename_i q σ y hq he
      obtain ⟨o, u⟩ := q
      split at h
      · rename_i z hz
        exact key o u σ y z hq (hv.1 _ _ he) hz h
      · cases h
    · rename_i o t hq he
      split at h
      · rename_i z hz
        exact key o (.sl t) (.sl t) [] z hq (AtD.ofFlat (.inl ⟨rfl, by rw [hv.2 he]⟩) rfl) hz h
      · cases h
    · cases h

/-- a slice out of its parts -/
theorem run_buildSlice {τ : Ty} {t te : TypeId} {n : Nat} {parts : Array (Nat × Operand)} (hu : P.underlying t = some (.slice te)) (hte : TyOk P τ te) (hpl : τ.plain = true) (hsz : n * τ.size ≤ 16777216) {e : Operand → V} {y : List τ.den}
    (hx : ∀ p ∈ parts.toList, (∀ t y, e p.2 = .data t y → AtD G.env t y (ρ p.2)) ∧ (e p.2 = .snil → ρ p.2 = .slice none 0 0)) (hb : buildV e (.arr n τ) parts.toList (Ty.arr n τ).zero = some y) :
    ∃ cs' : Array Value, (Instr.buildSlice t n (parts.map fun p => (p.1, ρ p.2))).run P G.w = .ok (.slice (some ⟨G.w.heap.size, 0, none⟩) n n) (G.w.alloc (.cells cs' te)) ∧ FlatD G.env (.arr n τ) y cs'.toList := by
  have hsz' : ¬ n * τ.size > 2 ^ 24 := by omega
  obtain ⟨z, hz1, hz2, _⟩ := run_zeroV (P := P) G.w hte.info
  have hz2 := zcOk_plain _ _ hpl hz2
  have hzl : z.cells.size = τ.size := by rw [← Array.length_toList, hz2]; exact FlatD.length (E := ⟨G.w, fun _ _ => False⟩) _ _ _ (FlatD.zero τ hpl)
  have hcells : ∀ zero : Array Value, (n * τ.size = 0 ∨ zero = z.cells) → ((Array.range (n * τ.size)).map (zero[· % zero.size]!)).toList = (List.replicate n (zc τ)).flatten := by
    intro zero h0
    rw [Array.toList_map, Array.toList_range]
    rcases h0 with h0 | rfl
    · rw [h0]
      have hlen : ((List.replicate n (zc τ)).flatten).length = 0 := by
        have := FlatD.length (E := ⟨G.w, fun _ _ => False⟩) (.arr n τ) _ _ (FlatD.zero (.arr n τ) (by simpa [Ty.plain] using hpl))
        simpa [zc, Ty.size, h0] using this
      rw [List.eq_nil_of_length_eq_zero hlen]; rfl
    · have := range_rep (zc τ) τ.size (by rw [← hz2, Array.length_toList, hzl]) n
      rw [← this, hzl]
      apply List.map_congr_left
      intro i _
      rw [← hz2]
      simp only [getElem!_def, Array.getElem?_toList]
  obtain ⟨zero, hz4, hz5⟩ : ∃ zero : Array Value, (n * τ.size = 0 ∨ zero = z.cells) ∧ ∀ F : Array Value → Sem Value, (if n * τ.size = 0 then (do let zero ← pure #[]; F zero) else (do let l ← zeroValue te; let zero ← pure l.cells; F zero) : Sem Value).run P G.w = (F zero).run P G.w := by
    by_cases h0 : n * τ.size = 0
    · exact ⟨#[], .inl h0, fun F => by rw [if_pos h0]; simp⟩
    · exact ⟨z.cells, .inr rfl, fun F => by rw [if_neg h0]; simp only [Sem.run_bind, hz1, Result.andThen_ok, Sem.run_pure]⟩
  have hcs := hcells zero hz4
  obtain ⟨cs', f1, f2⟩ := buildV_fill (E := G.env) (ρ := ρ) (place := fun i => some (i * τ.size, τ.size)) (τ := .arr n τ) (fun i o u ho => by
    simp only [stepOf, offT] at ho
    split at ho
    · have : offT τ [] = some (0, τ) := by cases τ <;> rfl
      first | rw [this] at ho | skip
      simp at ho
      obtain ⟨rfl, rfl⟩ := ho
      simp
    · cases ho) parts.toList _ y _ hx (by rw [hcs]; exact FlatD.zero (.arr n τ) (by simpa [Ty.plain] using hpl)) hb
  refine ⟨cs', ?_, f2⟩
  simp only [Instr.buildSlice, Sem.run_bind, run_underlying hu, Result.andThen_ok, run_sizeOf G.w hte.info, if_neg hsz', Array.toList_map]
  refine (hz5 (fun zero => match Instr.fill (fun i => some (i * τ.size, τ.size)) ((Array.range (n * τ.size)).map (zero[· % zero.size]!)) (parts.toList.map fun p => (p.1, ρ p.2)) with
    | some cells => do
      let l ← (do let l ← newObj (Obj.cells cells te); pure (⟨l, 0, none⟩ : Addr))
      pure (Value.slice (some l) n n)
    | x => stuck "buildSlice: a part of the wrong size")).trans ?_
  simp only [f1, Sem.run_bind, run_newObj_alloc, Result.andThen_ok, Sem.run_pure]

/-- new cells that nothing changes -/
theorem im_new (h : HRel G) {w' : World} {b : Nat} (hb : G.w.heap.size ≤ b) (hlt : b < w'.heap.size) (m : Nat) : GE.im ⟨w', G.β, G.σ, G.hp, G.n0, G.Bo, G.I0⟩ b m :=
  ⟨.inr (.inl (Nat.le_trans h.base hb)), hlt, fun id blk hb' hβ => absurd (h.lt hb' hβ) (Nat.not_lt.2 hb)⟩

/-- a slice in new cells is data -/
theorem new_sl (h : HRel G) {τ : Ty} {n : Nat} {l : List τ.den} {arr : Array Value} {w1 : World} (hb : Below G.w.heap.size G.w w1) (hs1 : w1.heap.size = G.w.heap.size) {cap : Nat} {rest : List Value} {css : List (List Value)} (hl : List.length l = n) (ha : All2 (FlatD G.env τ) l css) (h1 : arr.toList = css.flatten ++ rest) (hn : n ≤ cap) (hc : cap ≤ maxLen) (ty : TypeId) (fz : Nat × Nat) :
    FlatD (GE.env ⟨w1.alloc (.cells arr ty fz), G.β, G.σ, G.hp, G.n0, G.Bo, G.I0⟩) (.sl τ) l [.slice (some ⟨G.w.heap.size, 0, none⟩) n cap] := by
  have hb2 : Below G.w.heap.size G.w (w1.alloc (.cells arr ty fz)) := hb.alloc (by omega) _
  obtain ⟨t1, t2⟩ := h.grow hb2
  refine .inr ⟨⟨G.w.heap.size, 0, none⟩, cap, css, by rw [hl], .inl rfl, by rw [hl]; exact hn, hc, ha.mono fun _ _ h => h.ext t1.keep.env, .inr ⟨_, Nat.le_refl _, im_new h (Nat.le_refl _) (by simp [hs1]) _⟩, fun j v hj => ?_⟩
  have hnew : (w1.alloc (.cells arr ty fz)).heap[G.w.heap.size]? = some (.cells arr ty fz) := by rw [← hs1]; exact heap_alloc_new w1 _
  show (w1.alloc (.cells arr ty fz)).cell? _ = _
  rw [cell_arr hnew, h1, Nat.zero_add]
  have : j < css.flatten.length := by
    rcases Nat.lt_or_ge j css.flatten.length with h | h
    · exact h
    · rw [List.getElem?_eq_none h] at hj; cases hj
  rw [List.getElem?_append_left this]; exact hj

theorem nilT_rd {e : V} {x : Value} (h : AtV G tm e x) (u : Ty) : AtV G tm (nilT u e) x := h.nilT

theorem looseL_mem {hp : Heap} : ∀ {l : List V} {v : V}, looseL hp l = false → v ∈ l → loose hp v = false
  | a :: l, v, h, hv => by
    simp only [looseL, Bool.or_eq_false_iff] at h
    rcases List.mem_cons.1 hv with rfl | hv
    · exact h.1
    · exact looseL_mem h.2 hv

theorem rd_snil {hp : Heap} {v : V} (h : rd hp v = .snil) : v = .snil := by
  cases v with
  | snil => rfl
  | app id ver => simp only [rd] at h; split at h <;> (try split at h) <;> cases h
  | view id p t n lo hi =>
    simp only [rd] at h
    split at h
    · split at h
      · split at h <;> cases h
      · cases h
    · cases h
  | agg t l => simp only [rd, mkAgg] at h; split at h <;> cases h
  | _ => simp [rd] at h

/-- what is in a list that is frozen is data -/
theorem rd_frzL_mem : ∀ (l : List V) (G : GE), HRel G → ∀ {tm : Array Value} {v : V} {x : Value}, v ∈ l → AtV G tm v x → ∀ {t : Ty} {y : t.den}, rd G.hp v = .data t y → AtD (G.withHp (frzL G.hp l)).env t y x
  | u :: l, G, h, tm, v, x, hv, ha, t, y, hr => by
    obtain ⟨t1, k1⟩ := frz_tr u G h
    obtain ⟨t2, k2⟩ := frzL_tr l _ k1
    simp only [frzL]
    rcases List.mem_cons.1 hv with rfl | hv
    · exact (rd_frz v G h ha hr).ext t2.keep.env
    · exact rd_frzL_mem l (G.withHp (frz G.hp u)) k1 hv (ha.ext t1.keep) (by rw [show (G.withHp (frz G.hp u)).hp = frz G.hp u from rfl, rd_like (like_frz u G.hp)]; exact hr)

theorem okR_nn {v u : V} : okR v ≠ some (.new u) := by simp [okR]
theorem ifR_nn {q : Prop} [Decidable q] {v u : V} : ifR q v ≠ some (.new u) := by simp [ifR]
theorem intBin_nn {op : BinOp} {k : IntKind} {p q : Int} {u : V} : intBin op k p q ≠ some (.new u) := by
  cases op <;> simp [intBin, okR, ifR]
theorem strBin_nn {op : BinOp} {p q : List Int} {u : V} : strBin op p q ≠ some (.new u) := by
  cases op <;> simp [strBin, okR, ifR]
theorem nilBin_nn {op : BinOp} {b : Bool} {u : V} : nilBin op b ≠ some (.new u) := by
  cases op <;> simp [nilBin, okR]
theorem sliceL_nn {e : Operand → V} {τ : Ty} {l : List τ.den} {lo hi mx : Option Operand} {u : V} : sliceL e τ l lo hi mx ≠ some (.new u) := by
  unfold sliceL
  repeat' split
  all_goals first | exact ifR_nn | (intro h; cases h; done)
theorem binV_nn {op : BinOp} {xt : Nat} {u v z : V} : binV C op xt u v ≠ some (.new z) := by
  unfold binV
  repeat' split
  all_goals first | exact okR_nn | exact ifR_nn | exact intBin_nn | exact strBin_nn | exact nilBin_nn | (intro h; cases h; done)

theorem valR_new (hC : CtxOk P C) (hR : HRel G) (hL : Look G tm fr ρ) {g : Option Gd} (hg : Yes g tm) (o : Oper) {v : V} (hv : valR C g fr G.hp o.op = some (.new v)) : Does P G tm (execOp ρ o) v G.hp := by
  obtain ⟨dst, op, type, pos, after, guard⟩ := o
  cases op <;> simp only [valR] at hv
  case buildSlice t n parts =>
    split at hv
    · rename_i τ hτ
      split at hv
      · rename_i hc
        simp only [Bool.and_eq_true] at hc
        split at hv
        · rename_i y hy
          split at hv
          · cases hv
          · rename_i hl
            cases hv
            obtain ⟨e, hu, hte, _⟩ := hC.ty _ _ hτ
            have hn := Nat.le_of_ble_eq_true hc.2
            obtain ⟨cs', r1, r2⟩ := run_buildSlice (P := P) (G := G) (ρ := ρ) hu hte hc.1.1 (Nat.le_of_ble_eq_true hc.1.2) (e := fun x => rd G.hp (dd (un g (ev fr x)))) (fun p hp => by
              have hnl : loose G.hp (dd (un g (ev fr p.2))) = false := by
                cases hq : loose G.hp (dd (un g (ev fr p.2))) with
                | false => rfl
                | true => exact absurd (List.any_eq_true.2 ⟨p, hp, hq⟩) hl
              refine ⟨fun t y he => rd_tight hR _ (hL.ud hg p.2) hnl he, fun he => ?_⟩
              have := rd_snil he
              have h2 := hL.ud hg p.2
              rw [this] at h2
              simpa only [AtV] using h2) hy
            obtain ⟨hl', css, hcs, hall⟩ := r2
            have hb : Below G.w.heap.size G.w (G.w.alloc (.cells cs' e)) := (Below.refl _ _).alloc (Nat.le_refl _) _
            obtain ⟨t1, t2⟩ := hR.grow hb
            have hsl := new_sl hR (Below.refl _ G.w) rfl (cap := n) (rest := []) hl' hall (by rw [hcs]; simp) (Nat.le_refl _) (by unfold maxLen; omega) e (0, 0)
            refine Does.mk r1 t1 t2 ?_
            simp only [AtV]
            exact ⟨hsl, _, _, rfl⟩
        · cases hv
      · cases hv
    · cases hv
  case convert s d x =>
    have hx := hL.ud hg x
    split at hv
    · simp [okR] at hv
    · simp [okR] at hv
    · rename_i l h1 h2 heq
      rw [heq] at hx
      simp only [Option.some.injEq, Out.new.injEq] at hv
      subst hv
      have t1 := (hC.ty _ _ h1).1
      obtain ⟨e, t2, t3, _⟩ := hC.ty _ _ h2
      have t4 := t3.1
      simp only [AtV] at hx
      obtain ⟨s0, e1, e2, e3⟩ := hx.one rfl
      simp at e1
      have r1 := run_bytes_of_string (P := P) G.w s d e s0 t1 t2 t4
      rw [← e1] at r1
      have hge := grownCap_ge G.w s0.size 0 e
      have hle := grownCap_le_maxLen G.w s0.size 0 e e3
      have drew : Below G.w.heap.size G.w G.w.drew := (Below.refl _ _).drew
      have hlen : (bytesOf s0).length = s0.size := by simp [bytesOf]
      have hcss : All2 (FlatD G.env (.int .u8)) (bytesOf s0) ((bytesOf s0).map fun n => [Value.int .u8 n]) := by
        have : ∀ l : List UInt8, All2 (FlatD G.env (.int .u8)) (l.map fun b => (b.toNat : Int)) ((l.map fun b => (b.toNat : Int)).map fun n => [Value.int .u8 n]) := by
          intro l
          induction l with
          | nil => trivial
          | cons b l ih =>
            refine ⟨⟨rfl, ?_⟩, ih⟩
            rw [inR_iff]
            have := b.toNat_lt
            simp only [IntKind.min, IntKind.max, IntKind.signed, IntKind.bits]
            simp; omega
        exact this _
      have hb : Below G.w.heap.size G.w _ := drew.alloc (B := G.w.heap.size) (by simp) (.cells (bytesRow s0 (grownCap G.w s0.size 0 e)) e ((bytesRow s0 (grownCap G.w s0.size 0 e)).size, (bytesRow s0 (grownCap G.w s0.size 0 e)).size + 1))
      obtain ⟨k1, k2⟩ := hR.grow hb
      have harr : (bytesRow s0 (grownCap G.w s0.size 0 e)).toList = ((bytesOf s0).map fun n => [Value.int .u8 n]).flatten ++ List.replicate (grownCap G.w s0.size 0 e - s0.size) (.int .u8 0) := by
        have : ∀ l : List UInt8, (l.map fun b => Value.int .u8 (b.toNat : Int)) = ((l.map fun b => (b.toNat : Int)).map fun n => [Value.int .u8 n]).flatten := by
          intro l; induction l with
          | nil => rfl
          | cons b l ih => simp [ih]
        simp only [bytesRow, Array.toList_append, Array.toList_map, Array.toList_replicate, bytesOf]
        rw [← this]
      have hsl := new_sl hR drew rfl (τ := .int .u8) (cap := grownCap G.w s0.size 0 e) (l := bytesOf s0) hlen hcss harr hge hle e ((bytesRow s0 (grownCap G.w s0.size 0 e)).size, (bytesRow s0 (grownCap G.w s0.size 0 e)).size + 1)
      refine Does.mk r1 k1 k2 ?_
      simp only [AtV]
      rw [← e2]
      exact AtD.ofFlat hsl rfl
    · split at hv <;> simp [okR] at hv
    · cases hv
  case binOp op xt x y yt => exact absurd hv binV_nn
  case unOp op _ _ =>
    unfold unV at hv
    split at hv <;> simp [okR] at hv
  all_goals (exfalso; revert hv)
  all_goals (repeat' split)
  all_goals first | exact okR_nn | exact ifR_nn | exact sliceL_nn | (intro h; cases h; done)

end
end Go.Bx
