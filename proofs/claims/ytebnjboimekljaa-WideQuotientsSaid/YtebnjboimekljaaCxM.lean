/- A part of a framework that reads Go code as functions of plain data; or a law about such functions. -/
import Derived.Test.YtebnjboimekljaaCxL
import Derived.Laws.Slices
namespace Go.Bx
set_option linter.unusedVariables false
set_option linter.unusedSimpArgs false
open Go Go.RowKit

section
variable {P : Program} {C : Ctx} {G : GE} {fr : List V} {ρ : Operand → Value} {tm : Array Value}

theorem run_loadV (w : World) {τ : Ty} {t : TypeId} (h : TyOk P τ t) (a : Addr) (ha : a.spot = none) {v : V} {cs : List Value} (hx : FlatV G τ v cs)
    (hc : ∀ j u, cs[j]? = some u → w.cell? ⟨a.block, a.off + j, none⟩ = some u) : ∃ x, (loadVar t a).run P w = .ok x w ∧ ∀ tm, AtV G tm (sane v) x := by
  have hl := hx.length
  obtain ⟨x, e1, e2, e3, e4⟩ := AtV.ofFlatV hx
  refine ⟨x, ?_, fun tm => e2.sane⟩
  cases hτ : τ.isAgg with
  | true =>
    have hcs := run_loadCells_list (P := P) w a cs (fun j v hj => by rw [add_plain a j ha]; exact hc j v hj)
    rw [hl] at hcs
    simp [loadVar, run_isAgg w h, hτ, run_sizeOf w h.info, hcs, e3 hτ]
  | false =>
    have e5 := e4 hτ
    have h0 := hc 0 x (by rw [e5]; simp)
    have ea : (⟨a.block, a.off + 0, none⟩ : Addr) = a := by obtain ⟨b, o, s⟩ := a; simp at ha; subst ha; rfl
    rw [ea] at h0
    simp [loadVar, run_isAgg w h, hτ, run_load, h0]

theorem RefAt.at {id ver : Nat} {p : List Step} {v : Value} (h : RefAt G id ver p v) {τ : Ty} (ht : tyAt (nthB G.hp id) ver p = some τ) : ∃ a, v = .pointer (some a) ∧ a.spot = none ∧ ∀ s o2 u2, offT τ [s] = some (o2, u2) → RefAt G id ver (p ++ [s]) (.pointer (some ⟨a.block, a.off + o2, none⟩)) := by
  unfold RefAt at h ⊢
  split at h
  · rename_i t c z hb
    obtain ⟨b, o, u, h1, h2, rfl⟩ := h
    rw [hb] at ht
    simp only [tyAt] at ht
    have := offT_sub h2
    rw [ht] at this; cases this
    refine ⟨_, rfl, rfl, fun s o2 u2 ho => ?_⟩
    exact ⟨b, o + o2, u2, h1, offT_snoc s h2 ho, rfl⟩
  · rename_i t l ver' z hb
    rw [hb] at ht
    obtain ⟨h1, ⟨a, h2⟩, h3⟩ := h
    cases p with
    | nil => simp [tyAt] at ht
    | cons s0 q0 =>
      cases s0 with
      | fld j => simp [tyAt] at ht
      | idx i0 =>
        simp only [tyAt] at ht
        split at ht
        · rename_i hv
          have hv := Nat.eq_of_beq_eq_true hv
          obtain ⟨b, i, q, o, u, e1, e2, e3, e4, e5, rfl⟩ := h3 hv
          cases e1
          have := offT_sub e5
          rw [ht] at this; cases this
          refine ⟨_, rfl, rfl, fun s o2 u2 ho => ?_⟩
          refine ⟨h1, ⟨_, rfl⟩, fun _ => ⟨b, i0, q0 ++ [s], o + o2, u2, rfl, e2, e3, e4, offT_snoc s e5 ho, ?_⟩⟩
          simp [Nat.add_assoc]
        · cases ht
  · exact h.elim

/-- what lies where a name points to -/
theorem ref_load (hR : HRel G) {id ver : Nat} {p : List Step} {v : Value} (h : RefAt G id ver p v) {τ : Ty} (ht : tyAt (nthB G.hp id) ver p = some τ) :
    ∃ a cs, v = .pointer (some a) ∧ a.spot = none ∧ FlatV G τ (valAt (nthB G.hp id) p) cs ∧ ∀ j u, cs[j]? = some u → G.w.cell? ⟨a.block, a.off + j, none⟩ = some u := by
  unfold RefAt at h
  split at h
  · rename_i t c z hb
    obtain ⟨b, o, u, h1, h2, rfl⟩ := h
    rw [hb] at ht ⊢
    simp only [tyAt] at ht
    have := offT_sub h2
    rw [ht] at this; cases this
    obtain ⟨b', arr, ty, g1, g2, g3⟩ := hR.cell hb
    rw [h1] at g1; cases g1
    obtain ⟨cs1, f1, f2, _⟩ := getV_flat p g3 h2
    exact ⟨_, cs1, rfl, rfl, by simpa only [valAt] using f1, fun j u hj => by rw [cell_arr g2]; exact f2 j u hj⟩
  · rename_i t l ver' z hb
    rw [hb] at ht ⊢
    obtain ⟨h1, _, h3⟩ := h
    cases p with
    | nil => simp [tyAt] at ht
    | cons s0 q0 =>
      cases s0 with
      | fld j => simp [tyAt] at ht
      | idx i0 =>
        simp only [tyAt] at ht
        split at ht
        · rename_i hv
          have hv := Nat.eq_of_beq_eq_true hv
          obtain ⟨b, i, q, o, u, e1, e2, e3, e4, e5, rfl⟩ := h3 hv
          cases e1
          have := offT_sub e5
          rw [ht] at this; cases this
          rcases hR.blk _ _ hb with ⟨b', arr, ty, css, cap, rest, g1, g2, g3, g4, g5, g6, g7, g8⟩ | ⟨g1, _⟩
          · rw [e2] at g1; cases g1
            obtain ⟨hm, hr⟩ := g4.get i0.toNat e4
            have hgd : (l : List t.den).getD i0.toNat t.zero = l[i0.toNat] := by simp [List.getD, List.getElem?_eq_getElem e4]
            obtain ⟨z', cs', k1, k2, k3⟩ := getP_flat t (l.getD i0.toNat t.zero) css[i0.toNat] q0 o τ (by rw [hgd]; exact hr) e5
            refine ⟨_, cs', rfl, rfl, by simp only [valAt]; rw [k1]; exact .ofFlatD k2, fun j u hj => ?_⟩
            rw [cell_arr g3, g5]
            have := getElem?_flatten_of_all2 (fun a cs h => FlatD.length t a cs h) g4 i0.toNat _ (List.getElem?_eq_getElem hm) _ _ (k3 j u hj)
            simp only
            rw [Nat.add_assoc, List.getElem?_append_left]
            · exact this
            · rcases Nat.lt_or_ge (i0.toNat * t.size + (o + j)) css.flatten.length with h | h
              · exact h
              · rw [List.getElem?_eq_none h] at this; cases this
          · rw [e2] at g1; cases g1
        · cases ht
  · exact h.elim

theorem intOf?_at {v : V} {x : Value} {n : Int} (h : AtV G tm v x) (hi : intOf? v = some n) : ∃ k, x = .int k n := by
  cases v with
  | data t y =>
    cases t with
    | int k =>
      simp only [intOf?, Option.some.injEq] at hi
      subst hi
      exact ⟨k, h.int.1⟩
    | _ => simp [intOf?] at hi
  | _ => simp [intOf?] at hi

theorem boundOf_at {e : Operand → V} (he : ∀ x, AtV G tm (e x) (ρ x)) {d : Int} {o : Option Operand} {n : Int} (h : boundOf e d o = some n) : (o = none ∧ n = d) ∨ ∃ x k, o = some x ∧ ρ x = .int k n := by
  cases o with
  | none => simp only [boundOf, Option.some.injEq] at h; exact .inl ⟨rfl, h.symm⟩
  | some x =>
    simp only [boundOf] at h
    obtain ⟨k, hk⟩ := intOf?_at (he x) h
    exact .inr ⟨x, k, rfl, hk⟩

theorem sliceBounds_run (w : World) (isSlice : Bool) (len cap : Nat) (hlc : len ≤ cap) {e : Operand → V} (he : ∀ x, AtV G tm (e x) (ρ x)) {lo hi : Option Operand} {a b : Int} (hlo : boundOf e 0 lo = some a) (hhi : boundOf e len hi = some b)
    (h0 : 0 ≤ a) (h1 : a ≤ b) (h2 : b ≤ (len : Int)) : (Instr.sliceBounds isSlice len cap (lo.map ρ) (hi.map ρ) none).run P w = .ok (a.toNat, b.toNat, cap) w := by
  have hb1 : (b.toNat : Int) = b := Int.toNat_of_nonneg (by omega)
  rcases boundOf_at he hlo with ⟨rfl, rfl⟩ | ⟨x, k, rfl, hx⟩ <;> rcases boundOf_at he hhi with ⟨rfl, rfl⟩ | ⟨y, k', rfl, hy⟩
  · simp [Instr.sliceBounds]
  · simp [Instr.sliceBounds, hy, run_sliceBound w k' b cap _ (by omega) (by omega)]
  · simp [Instr.sliceBounds, hx, run_sliceBound w k a len _ h0 (by omega)]
  · simp [Instr.sliceBounds, hx, hy, run_sliceBound w k' b cap _ (by omega) (by omega), run_sliceBound w k a b.toNat _ h0 (by omega)]

theorem sliceBounds3_run (w : World) (isSlice : Bool) (len cap : Nat) (hlc : len ≤ cap) {e : Operand → V} (he : ∀ x, AtV G tm (e x) (ρ x)) {lo : Option Operand} {hi mx : Operand} {a b : Int} (hlo : boundOf e 0 lo = some a) (hhi : intOf? (e hi) = some b) (hm : intOf? (e mx) = some b)
    (h0 : 0 ≤ a) (h1 : a ≤ b) (h2 : b ≤ (len : Int)) : (Instr.sliceBounds isSlice len cap (lo.map ρ) (some (ρ hi)) (some (ρ mx))).run P w = .ok (a.toNat, b.toNat, b.toNat) w := by
  have hb1 : (b.toNat : Int) = b := Int.toNat_of_nonneg (by omega)
  obtain ⟨k2, hm⟩ := intOf?_at (he mx) hm
  obtain ⟨k3, hh⟩ := intOf?_at (he hi) hhi
  rcases boundOf_at he hlo with ⟨rfl, rfl⟩ | ⟨x, k, rfl, hx⟩
  · simp [Instr.sliceBounds, hm, hh, run_sliceBound w k2 b cap _ (by omega) (by omega), run_sliceBound w k3 b b.toNat _ (by omega) (by omega)]
  · simp [Instr.sliceBounds, hm, hh, hx, run_sliceBound w k2 b cap _ (by omega) (by omega), run_sliceBound w k3 b b.toNat _ (by omega) (by omega), run_sliceBound w k a b.toNat _ h0 (by omega)]

/-- a part of a slice that is data -/
theorem cut_flat {E : Env} {τ : Ty} {l : List τ.den} {a : Option Addr} {cap : Nat} (h : FlatD E (.sl τ) l [.slice a l.length cap]) {lo hi : Int} (h0 : 0 ≤ lo) (h1 : lo ≤ hi) (h2 : hi ≤ (l.length : Int)) (m : Nat) (hm1 : hi.toNat ≤ m) (hm2 : m ≤ cap) :
    FlatD E (.sl τ) (cutL l lo hi) [.slice (if m = lo.toNat then a else a.map (·.add (lo.toNat * τ.size))) (hi.toNat - lo.toNat) (m - lo.toNat)] := by
  have hcl := cutL_length l (lo := lo) (hi := hi) h0 h1 h2
  rcases h with ⟨rfl, h⟩ | ⟨ad, cap', css, hc, hs, hl, hcap, ha, him, hcell⟩
  · simp at h
    obtain ⟨rfl, rfl⟩ := h
    have : lo.toNat = 0 ∧ hi.toNat = 0 := by simp at h2; omega
    left
    refine ⟨by simp [cutL], ?_⟩
    have hm0 : m = 0 := by omega
    simp [this.1, this.2, hm0]
  · simp only [List.cons.injEq, Value.slice.injEq, and_true, true_and] at hc
    obtain ⟨rfl, rfl⟩ := hc
    obtain ⟨k1, k2⟩ := flatten_cut (fun a cs h => FlatD.length τ a cs h) ha lo hi
    have hlen := All2.flat_length (fun a cs h => FlatD.length τ a cs h) k1
    have hlen0 := All2.flat_length (fun a cs h => FlatD.length τ a cs h) ha
    right
    by_cases hlo : m = lo.toNat
    · have hz : hi.toNat - lo.toNat = 0 := by omega
      have hnil : (cutL css lo hi).flatten = [] := by
        apply List.eq_nil_of_length_eq_zero
        rw [hlen, hcl, hz, Nat.zero_mul]
      refine ⟨ad, m - lo.toNat, cutL css lo hi, by rw [if_pos hlo, hcl], .inr (List.eq_nil_of_length_eq_zero (by omega)), by rw [hcl]; omega, by omega, k1, .inl hnil, fun j v hj => by rw [hnil] at hj; simp at hj⟩
    · rw [if_neg hlo]
      refine ⟨ad.add (lo.toNat * τ.size), m - lo.toNat, cutL css lo hi, by rw [hcl]; rfl, ?_, by rw [hcl]; omega, by omega, k1, ?_, fun j v hj => ?_⟩
      · rcases hs with hs | hs
        · left; rw [add_plain _ _ hs]
        · right
          have : List.length l = 0 := by rw [hs]; rfl
          exact List.eq_nil_of_length_eq_zero (by omega)
      · rcases him with him | ⟨k, hk1, hk2⟩
        · left
          rw [him] at hlen0
          apply List.eq_nil_of_length_eq_zero
          rw [hlen, hcl]
          simp at hlen0
          rcases Nat.eq_zero_or_pos τ.size with hz | hz
          · rw [hz, Nat.mul_zero]
          · rcases Nat.mul_eq_zero.1 hlen0.symm with h | h
            · have : hi.toNat - lo.toNat = 0 := by omega
              rw [this, Nat.zero_mul]
            · omega
        · right
          have hb : (ad.add (lo.toNat * τ.size)).block = ad.block := by unfold Addr.add; split <;> rfl
          have ho : (ad.add (lo.toNat * τ.size)).off = ad.off + lo.toNat * τ.size := by unfold Addr.add; split <;> simp_all
          refine ⟨k, ?_, by rw [hb]; exact hk2⟩
          rw [ho, hlen, hcl]
          have h2' : (lo.toNat + (hi.toNat - lo.toNat)) * τ.size ≤ List.length l * τ.size := Nat.mul_le_mul_right _ (by omega)
          rw [Nat.add_mul] at h2'
          omega
      · have hb : (ad.add (lo.toNat * τ.size)).block = ad.block := by unfold Addr.add; split <;> rfl
        have ho : (ad.add (lo.toNat * τ.size)).off = ad.off + lo.toNat * τ.size := by unfold Addr.add; split <;> simp_all
        rw [hb, ho, Nat.add_assoc]
        exact hcell _ _ (k2 j v hj)

theorem FlatD.slc {E : Env} {τ : Ty} {l : List τ.den} {x : Value} (h : FlatD E (.sl τ) l [x]) : ∃ a cap, x = .slice a l.length cap ∧ l.length ≤ cap := by
  rcases h with ⟨rfl, h⟩ | ⟨a, cap, css, h, _, h2, _⟩
  · simp at h; exact ⟨none, 0, h, Nat.le_refl _⟩
  · simp at h; exact ⟨some a, cap, h, h2⟩

/-- a part of a slice, as the machine finds it -/
theorem sliceL_run (w : World) {E : Env} {τ : Ty} {t e : TypeId} (hu : P.underlying t = some (.slice e)) (hte : TyOk P τ e) {f : Operand → V} (he : ∀ x, AtV G tm (f x) (ρ x)) {l : List τ.den} {x : Value} (hx : FlatD E (.sl τ) l [x]) {lo hi mx : Option Operand} {c : Prop} {i : Decidable c} {v : V}
    (h : sliceL f τ l lo hi mx = some (.val c i v)) (hc : c) :
    ∃ y, (Instr.sliceAt t x (lo.map ρ) (hi.map ρ) (mx.map ρ)).run P w = .ok y w ∧ ((∃ a b, v = .data (.sl τ) (cutL l a b) ∧ FlatD E (.sl τ) (cutL l a b) [y]) ∨ (∃ a b, v = .full τ (cutL l a b) ∧ FlatD E (.sl τ) (cutL l a b) [y] ∧ ∃ ad n, y = .slice ad n n)) := by
  obtain ⟨a, cap, rfl, hlc⟩ := hx.slc
  unfold sliceL at h
  split at h
  · rename_i p q hp hq
    split at h
    · obtain ⟨rfl, rfl⟩ := ifR_eq h
      obtain ⟨h0, h1, h2⟩ := hc
      have hr := sliceBounds_run (P := P) w true l.length cap hlc he hp hq h0 h1 h2
      refine ⟨.slice (if cap = p.toNat then a else a.map (·.add (p.toNat * τ.size))) (q.toNat - p.toNat) (cap - p.toNat), ?_, .inl ⟨p, q, rfl, cut_flat hx h0 h1 h2 cap (by omega) (Nat.le_refl _)⟩⟩
      simp only [Instr.sliceAt, Sem.run_bind, run_underlying hu, Result.andThen_ok, Instr.slice, Option.map_none, hr, run_sizeOf w hte.info, Sem.run_pure]
    · rename_i m
      split at h
      · rename_i mv y hmv
        obtain ⟨rfl, rfl⟩ := ifR_eq h
        obtain ⟨h0, h1, h2, rfl⟩ := hc
        · have hr := sliceBounds3_run (P := P) w true l.length cap hlc he (hi := y) (mx := m) hp (by simpa only [boundOf] using hq) hmv h0 h1 h2
          have hcut := cut_flat hx h0 h1 h2 mv.toNat (Nat.le_refl _) (by omega)
          refine ⟨_, ?_, .inr ⟨p, mv, rfl, hcut, _, _, rfl⟩⟩
          simp only [Instr.sliceAt, Sem.run_bind, run_underlying hu, Result.andThen_ok, Instr.slice, Option.map_some, hr, run_sizeOf w hte.info, Sem.run_pure]
      · cases h
  · cases h

end
end Go.Bx
