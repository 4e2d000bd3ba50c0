/- A part of a framework that reads Go code as functions of plain data; or a law about such functions. -/
import Derived.Test.YthgnmgdhgmobpaaBxH
namespace Go.Bx
open Go Go.RowKit

section
variable {P : Program} {C : Ctx} {w0 : World} {I0 : Nat → Nat → Prop} {S : St} {a : Act} {w : World} {β : Nat → Option Nat}

theorem okR_eq {c : Prop} {i : Decidable c} {v v' : V} (h : okR v = some (.val c i v')) : v = v' := by
  simp only [okR, Option.some.injEq, Res.val.injEq] at h; exact h.2.2
theorem ifR_eq {q : Prop} [Decidable q] {c : Prop} {i : Decidable c} {v v' : V} (h : ifR q v = some (.val c i v')) : q = c ∧ v = v' := by
  simp only [ifR, Option.some.injEq, Res.val.injEq] at h; exact ⟨h.1, h.2.2⟩

theorem Rel.arm (h : Rel w0 I0 S a w β) {d : Nat} {t : Bool} (ht : a.tmps[d]? = some (.bool t)) (wt : Bool) (x : Operand) {y : Bool}
    (hy : (match Bx.ev S.fr x with
        | .opt d' w' (.data .bool y) => if Nat.beq d' d && (wt == w') then some y else none
        | .data .bool y => some y
        | _ => none) = some y) (hwt : wt = t) : a.eval x = .bool y := by
  have he := h.ev x
  split at hy
  · rename_i d' w' y' heq
    split at hy
    · rename_i hd
      simp only [Bool.and_eq_true, beq_iff_eq] at hd
      have hd1 : d' = d := Nat.eq_of_beq_eq_true hd.1
      have hd2 := hd.2
      subst hd1; subst hd2; subst hwt
      rw [heq] at he
      simp only [AtV] at he
      have := he.1 ht
      have hb := AtV.bool (by simpa [AtV] using this : AtV _ a.tmps (.data .bool y') _)
      rw [hb, Option.some.inj hy]
    · cases hy
  · rename_i y' heq
    rw [heq] at he
    rw [he.bool, Option.some.inj hy]
  · cases hy

theorem tmp_bool {a : Act} {d : Nat} {t : Bool} (h : a.eval (.tmp d) = .bool t) : a.tmps[d]? = some (.bool t) := by
  simp only [Act.eval, Array.getD_eq_getD_getElem?] at h
  cases hd : a.tmps[d]? with
  | none => rw [hd] at h; simp [undef] at h
  | some v => rw [hd] at h; simp at h; rw [h]

theorem nth_at {G : GE} {tm : Array Value} : ∀ {l : List V} {vs : List Value} {i : Nat}, AtL G tm l vs → i < l.length → ∃ x, vs[i]? = some x ∧ AtV G tm (nth l i) x
  | [], _, _, _, h => by simp at h
  | v :: l, [], _, h, _ => by simp [AtL] at h
  | v :: l, x :: vs, 0, h, _ => ⟨x, rfl, by simp only [AtL] at h; exact h.1⟩
  | v :: l, x :: vs, i + 1, h, hi => by
    simp only [AtL] at h
    obtain ⟨y, h1, h2⟩ := nth_at (i := i) h.2 (by simpa using hi)
    exact ⟨y, by simpa using h1, by simpa [nth] using h2⟩

theorem slice_elem {E : Env} {τ : Ty} {l : List τ.den} {v : Value} (h : FlatD E (.sl τ) l [v]) (i : Nat) (hi : i < l.length) :
    ∃ (b : Addr) (cap : Nat) (ds : List Value), v = .slice (some b) l.length cap ∧ b.spot = none ∧ FlatD E τ (l.getD i τ.zero) ds ∧ (ds = [] ∨ ∃ m, b.off + i * τ.size + ds.length ≤ m ∧ E.im b.block m) ∧
      ∀ j u, ds[j]? = some u → E.w.cell? ⟨b.block, b.off + i * τ.size + j, none⟩ = some u := by
  rcases h with ⟨rfl, _⟩ | ⟨b, cap, css, hc, hs, hl, hcap, ha, him, hcell⟩
  · simp at hi
  · simp at hc
    obtain ⟨hm, hr⟩ := ha.get i hi
    have hgd : l.getD i τ.zero = l[i] := by simp [List.getD, List.getElem?_eq_getElem hi]
    have hlen := FlatD.length _ _ _ hr
    have htot := All2.flat_length (fun a cs h => FlatD.length τ a cs h) ha
    have h2 : (i + 1) * τ.size ≤ l.length * τ.size := Nat.mul_le_mul_right _ (by omega)
    rw [Nat.add_mul] at h2
    refine ⟨b, cap, css[i], hc, hs.resolve_right (fun h => by rw [h] at hi; simp at hi), by rw [hgd]; exact hr, ?_, fun j u hj => ?_⟩
    · rcases him with him | ⟨m, hm1, hm2⟩
      · rw [him] at htot
        have hz : τ.size = 0 := by
          rcases Nat.eq_zero_or_pos τ.size with h | h
          · exact h
          · have : 0 < l.length * τ.size := Nat.mul_pos (by omega) h
            simp at htot; omega
        exact .inl (List.eq_nil_of_length_eq_zero (by rw [hlen, hz]))
      · exact .inr ⟨m, by omega, hm2⟩
    · have := getElem?_flatten_of_all2 (fun a cs h => FlatD.length τ a cs h) ha i _ (List.getElem?_eq_getElem hm) j u hj
      have := hcell _ _ this
      rw [Nat.add_assoc]; exact this

theorem sub_im {im : Nat → Nat → Prop} {b o o2 : Nat} {ds cs : List Value} (h : ds = [] ∨ ∃ m, o + ds.length ≤ m ∧ im b m) (g : ∀ j v, cs[j]? = some v → ds[o2 + j]? = some v) :
    cs = [] ∨ ∃ m, o + o2 + cs.length ≤ m ∧ im b m := by
  cases hc : cs with
  | nil => exact .inl rfl
  | cons c r =>
    right
    have hlt : cs.length - 1 < cs.length := by rw [hc]; simp
    have := g (cs.length - 1) _ (List.getElem?_eq_getElem hlt)
    have hb : o2 + (cs.length - 1) < ds.length := by
      rcases Nat.lt_or_ge (o2 + (cs.length - 1)) ds.length with h | h
      · exact h
      · rw [List.getElem?_eq_none h] at this; cases this
    rcases h with h | ⟨m, h1, h2⟩
    · rw [h] at hb; simp at hb
    · exact ⟨m, by rw [← hc]; omega, h2⟩

theorem valR_val (hC : CtxOk P C) (h : Rel w0 I0 S a w β) {g : Option Gd} (hg : Yes g a.tmps) (o : Oper) {c : Prop} {i : Decidable c} {v : V} (hv : valR C g S.fr S.hp o.op = some (.val c i v)) (hc : c) :
    ∃ x, (execOp a.eval o).run P w = .ok (.value x) w ∧ AtV ⟨w, β, S.hp, w0.heap.size, I0⟩ a.tmps v x := by
  obtain ⟨dst, op, type, pos, after, guard⟩ := o
  cases op <;> simp only [valR] at hv
  case move x =>
    obtain rfl := okR_eq hv
    exact ⟨_, by simp [execOp], h.un hg x⟩
  case assign x =>
    obtain rfl := okR_eq hv
    exact ⟨_, by simp [execOp], h.un hg x⟩
  case pick co ao bo =>
    split at hv
    · rename_i d t heq
      have hb := h.un hg (.tmp d)
      rw [heq] at hb
      have hb := hb.bool
      have ht := tmp_bool hb
      split at hv
      · rename_i y z h1 h2
        obtain rfl := okR_eq hv
        refine ⟨.bool (cond t y z), ?_, .mkBool⟩
        cases t with
        | true =>
          have := h.arm ht true ao h1 rfl
          simp [execOp, hb, asBool, this]
        | false =>
          have := h.arm ht false bo h2 rfl
          simp [execOp, hb, asBool, this]
      · cases hv
    · cases hv
  case load t x =>
    split at hv
    · cases hv
    · rename_i τ hτ
      have htk := hC.ty _ _ hτ
      have hx := h.un hg x
      split at hv
      · rename_i id p heq
        rw [heq] at hx
        simp only [AtV] at hx
        obtain ⟨b, τ0, c0, o, u, hb1, hb2, hb3, hb4⟩ := hx
        split at hv
        · rename_i τ1 σ y hblk
          obtain ⟨rfl, b', arr, ty, e1, e2, e3⟩ := h.blk hblk
          rw [hblk] at hb1
          simp only [Option.some.injEq, Blk.var.injEq] at hb1
          obtain ⟨rfl, rfl⟩ := hb1
          rw [e1] at hb2; cases hb2
          obtain ⟨z, cs', g1, g2, g3⟩ := getP_flat _ _ _ p o u e3 hb3
          rw [g1] at hv
          simp only at hv
          split at hv
          · rename_i hu
            subst hu
            obtain rfl := okR_eq hv
            obtain ⟨x', r1, r2⟩ := run_loadVar w htk ⟨b, o, none⟩ rfl g2 (fun j v hj => by rw [cell_arr e2]; exact g3 j v hj)
            exact ⟨x', by simp [execOp, hb4, Instr.loadAt, Instr.sureAddr, r1], by simpa [AtV] using r2⟩
          · cases hv
        · cases hv
      · rename_i σ y heq
        rw [heq] at hx
        simp only [AtV] at hx
        obtain ⟨ad, ds, e1, e2, _, e4, e5⟩ := hx
        split at hv
        · rename_i hu
          subst hu
          obtain rfl := okR_eq hv
          obtain ⟨x', r1, r2⟩ := run_loadVar w htk ad e2 e5 e4
          exact ⟨x', by simp [execOp, e1, Instr.loadAt, Instr.sureAddr, r1], by simpa [AtV] using r2⟩
        · cases hv
      · cases hv
  case indexAddr t x ix =>
    have hx := h.un hg x
    have hi := h.un hg ix
    split at hv
    · rename_i len τ id p k n hτ heq heq2
      have htk := hC.ty _ _ hτ
      obtain ⟨e, hu, hte, _⟩ := htk
      rw [heq] at hx; rw [heq2] at hi
      obtain ⟨hi1, _⟩ := hi.int
      split at hv
      · rename_i σ c1 hblk
        split at hv
        · rename_i hsub
          obtain ⟨rfl, rfl⟩ := ifR_eq hv
          simp only [AtV] at hx
          obtain ⟨b, τ0, c0, o, u, hb1, hb2, hb3, hb4⟩ := hx
          rw [hblk] at hb1
          simp only [Option.some.injEq, Blk.var.injEq] at hb1
          obtain ⟨rfl, rfl⟩ := hb1
          have := offT_sub hb3
          rw [hsub] at this; cases this
          refine ⟨.pointer (some ⟨b, o + n.toNat * τ.size, none⟩), ?_, ?_⟩
          · simp [execOp, hb4, hi1, Instr.indexAt, asIntOf, run_underlying hu, Instr.sureAddr, hc, run_sizeOf w hte.info, add_plain]
          · simp only [AtV]
            refine ⟨b, _, _, o + n.toNat * τ.size, τ, hblk, hb2, offT_snoc (.idx n) hb3 ?_, rfl⟩
            simp only [offT]
            rw [if_pos hc]; simp
        · cases hv
      · cases hv
    · rename_i τ τ' l k n hτ heq heq2
      have htk := hC.ty _ _ hτ
      obtain ⟨e, hu, hte, _⟩ := htk
      rw [heq] at hx; rw [heq2] at hi
      obtain ⟨hi1, _⟩ := hi.int
      split at hv
      · rename_i ht
        subst ht
        obtain ⟨rfl, rfl⟩ := ifR_eq hv
        simp only [AtV] at hx
        have hil : n.toNat < List.length l := (Int.toNat_lt hc.1).2 hc.2
        obtain ⟨b, cap, ds, e1, e2, e3, e4, e5⟩ := slice_elem (hx.one rfl) n.toNat hil
        refine ⟨.pointer (some ⟨b.block, b.off + n.toNat * τ.size, none⟩), ?_, ?_⟩
        · simp [execOp, e1, hi1, Instr.indexAt, asIntOf, run_underlying hu, hc, run_sizeOf w hte.info, add_plain, e2]
        · simp only [AtV]
          exact ⟨_, ds, rfl, rfl, e4, e5, e3⟩
      · cases hv
    · rename_i len' τ len τ' l k n hτ heq heq2
      have htk := hC.ty _ _ hτ
      obtain ⟨e, hu, hte, _⟩ := htk
      rw [heq] at hx; rw [heq2] at hi
      obtain ⟨hi1, _⟩ := hi.int
      split at hv
      · rename_i ht
        obtain ⟨ht1, ht2⟩ := ht
        subst ht1; subst ht2
        obtain ⟨rfl, rfl⟩ := ifR_eq hv
        simp only [AtV] at hx
        obtain ⟨ad, ds, e1, e2, e3, e4, e5⟩ := hx
        obtain ⟨z, cs', g1, g2, g3⟩ := getP_flat _ _ _ [.idx n] (n.toNat * τ.size) τ e5 (by simp only [offT]; rw [if_pos hc]; simp)
        simp only [getP, V.data.injEq, heq_eq_eq, true_and] at g1
        subst g1
        refine ⟨.pointer (some ⟨ad.block, ad.off + n.toNat * τ.size, none⟩), ?_, ?_⟩
        · simp [execOp, e1, hi1, Instr.indexAt, asIntOf, run_underlying hu, Instr.sureAddr, hc, run_sizeOf w hte.info, add_plain, e2]
        · simp only [AtV]
          refine ⟨_, cs', rfl, rfl, ?_, fun j u hj => by rw [Nat.add_assoc]; exact e4 _ _ (g3 j u hj), g2⟩
          exact sub_im e3 g3
      · cases hv
    · cases hv
  case fieldAddr t x j =>
    have hx := h.un hg x
    split at hv
    · rename_i τ id p hτ heq
      have htk := hC.ty _ _ hτ
      rw [heq] at hx
      split at hv
      · rename_i σ c1 hblk
        split at hv
        · rename_i hsub
          obtain ⟨hsub, hfld⟩ := hsub
          obtain rfl := okR_eq hv
          simp only [AtV] at hx
          obtain ⟨b, τ0, c0, o, u, hb1, hb2, hb3, hb4⟩ := hx
          rw [hblk] at hb1
          simp only [Option.some.injEq, Blk.var.injEq] at hb1
          obtain ⟨rfl, rfl⟩ := hb1
          have := offT_sub hb3
          rw [hsub] at this; cases this
          obtain ⟨u, hu⟩ := Option.isSome_iff_exists.1 hfld
          obtain ⟨o2, ho2⟩ := fld_off hu
          obtain ⟨fs, f, f1, f2, f3, f4, f5⟩ := htk.fields ho2
          refine ⟨.pointer (some ⟨b, o + o2, none⟩), ?_, ?_⟩
          · simp [execOp, hb4, Instr.fieldAt, run_underlying f1, f2, Instr.sureAddr, fieldPlace, run_sizeOf w f4.info, f5, add_plain, f3]
          · simp only [AtV]
            exact ⟨b, _, _, o + o2, u, hblk, hb2, offT_snoc (.fld j) hb3 ho2, rfl⟩
        · cases hv
      · cases hv
    · rename_i τ' τ y hτ heq
      have htk := hC.ty _ _ hτ
      rw [heq] at hx
      split at hv
      · rename_i ht
        subst ht
        split at hv
        · rename_i u z hp
          obtain rfl := okR_eq hv
          simp only [AtV] at hx
          obtain ⟨ad, ds, e1, e2, e3, e4, e5⟩ := hx
          obtain ⟨o2, cs', ho2, g2, g3⟩ := proj_flat hp e5
          obtain ⟨fs, f, f1, f2, f3, f4, f5⟩ := htk.fields ho2
          refine ⟨.pointer (some ⟨ad.block, ad.off + o2, none⟩), ?_, ?_⟩
          · simp [execOp, e1, Instr.fieldAt, run_underlying f1, f2, Instr.sureAddr, fieldPlace, run_sizeOf w f4.info, f5, add_plain, f3, e2]
          · simp only [AtV]
            refine ⟨_, cs', rfl, rfl, ?_, fun j u hj => by rw [Nat.add_assoc]; exact e4 _ _ (g3 j u hj), g2⟩
            exact sub_im e3 g3
        · cases hv
      · cases hv
    · cases hv
  case binOp op xt x y yt =>
    have hx := h.un hg x
    have hy := h.un hg y
    obtain ⟨z, r1, r2⟩ := binV_run (P := P) hC w op xt x y hx hy hv hc
    exact ⟨z, by simp only [execOp, Sem.run_bind, r1, Result.andThen_ok, Sem.run_pure], r2⟩
  case unOp op xt x =>
    have hx := h.un hg x
    unfold unV at hv
    split at hv
    · rename_i b heq
      rw [heq] at hx
      have hb := hx.bool
      obtain rfl := okR_eq hv
      exact ⟨.bool (!b), by simp [execOp, hb, Op.unary], .mkBool⟩
    · cases hv
  case convert s d x =>
    have hx := h.un hg x
    split at hv
    · rename_i k1 k2 k3 n h1 h2 heq
      rw [heq] at hx
      obtain ⟨hx, _⟩ := hx.int
      obtain rfl := okR_eq hv
      have t1 := (hC.ty _ _ h1).1
      have t2 := (hC.ty _ _ h2).1
      exact ⟨_, by simp [execOp, hx, convert, run_underlying t1, run_underlying t2, Conv.intToInt], .mkInt (inR_wrap _ _)⟩
    · cases hv
  case extract x ix =>
    have hx := h.un hg x
    split at hv
    · rename_i l heq
      rw [heq] at hx
      simp only [AtV] at hx
      obtain ⟨vs, e1, e2⟩ := hx
      split at hv
      · rename_i hi
        have hi' : ix < l.length := Nat.le_of_ble_eq_true hi
        obtain rfl := okR_eq hv
        obtain ⟨y, h1, h2⟩ := nth_at e2 hi'
        exact ⟨y, by simp [execOp, e1, Instr.extract, show vs[ix]? = some y by simpa using h1], h2.sane⟩
      · cases hv
    · cases hv
  case call c' =>
    split at hv
    · split at hv
      · split at hv
        · split at hv <;> simp at hv
        · cases hv
      · cases hv
    · rename_i hcal
      split at hv
      · rename_i τ l t h1 h2
        split at hv
        · rename_i hl
          obtain rfl := okR_eq hv
          obtain ⟨e, hu, _⟩ := hC.ty _ _ hl
          obtain ⟨ar, hargs⟩ : ∃ x, c'.args.toList = [x] := by
            cases hq : c'.args.toList with
            | nil => rw [hq] at h1; simp at h1
            | cons x r => cases r with
              | nil => exact ⟨x, rfl⟩
              | cons _ _ => rw [hq] at h1; simp at h1
          have hx := h.un hg ar
          rw [hargs] at h1
          simp only [List.map_cons, List.map_nil, List.cons.injEq, and_true] at h1
          rw [h1] at hx
          simp only [AtV] at hx
          have ha1 : c'.args.map a.eval = #[a.eval ar] := by
            apply Array.ext'; simp [hargs]
          have ha2 : c'.argTypes = #[t] := by apply Array.ext'; simpa using h2
          refine ⟨.int .i64 (List.length l : Int), ?_, .mkInt ?_⟩
          · rcases hx.one rfl with ⟨e1, e2⟩ | ⟨b, cap, css, e1, _⟩
            · simp at e2
              subst e1
              simp [execOp, resolve, hcal, ha1, e2, invoke, builtin, Builtin.len_, ha2, run_underlying hu, goInt]
            · simp at e1
              simp [execOp, resolve, hcal, ha1, e1, invoke, builtin, Builtin.len_, ha2, run_underlying hu, goInt]
          · rw [inR_iff]
            rcases hx.one rfl with ⟨e1, e2⟩ | ⟨b, cap, css, e1, _, e3, e4, _⟩
            · subst e1; simp; decide
            · unfold maxLen at e4; simp [IntKind.min, IntKind.max, IntKind.bits, IntKind.signed]; omega
        · cases hv
      · rename_i l t h1 h2
        split at hv
        · rename_i hl
          obtain rfl := okR_eq hv
          obtain ⟨hu, _⟩ := hC.ty _ _ hl
          obtain ⟨ar, hargs⟩ : ∃ x, c'.args.toList = [x] := by
            cases hq : c'.args.toList with
            | nil => rw [hq] at h1; simp at h1
            | cons x r => cases r with
              | nil => exact ⟨x, rfl⟩
              | cons _ _ => rw [hq] at h1; simp at h1
          have hx := h.un hg ar
          rw [hargs] at h1
          simp only [List.map_cons, List.map_nil, List.cons.injEq, and_true] at h1
          rw [h1] at hx
          simp only [AtV] at hx
          have ha1 : c'.args.map a.eval = #[a.eval ar] := by
            apply Array.ext'; simp [hargs]
          have ha2 : c'.argTypes = #[t] := by apply Array.ext'; simpa using h2
          obtain ⟨s, e1, e2, e3⟩ := hx.one rfl
          simp at e1
          have hls : s.size = List.length l := by rw [← e2]; simp [bytesOf]
          refine ⟨.int .i64 (List.length l : Int), ?_, .mkInt ?_⟩
          · simp [execOp, resolve, hcal, ha1, e1, invoke, builtin, Builtin.len_, ha2, run_underlying hu, goInt, hls]
          · rw [inR_iff]
            unfold maxLen at e3; simp [IntKind.min, IntKind.max, IntKind.bits, IntKind.signed]; omega
        · cases hv
      · cases hv
    · cases hv
  all_goals (first | (cases hv; done) | (simp at hv; done))

end
end Go.Bx
