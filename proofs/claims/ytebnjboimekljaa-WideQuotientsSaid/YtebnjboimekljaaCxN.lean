/- A part of a framework that reads Go code as functions of plain data; or a law about such functions. -/
import Derived.Test.YtebnjboimekljaaCxM
import Derived.Laws.BytesString
namespace Go.Bx
set_option linter.unusedVariables false
set_option linter.unusedSimpArgs false
open Go Go.RowKit

section
variable {P : Program} {C : Ctx} {G : GE} {fr : List V} {ρ : Operand → Value} {tm : Array Value}

theorem renL_at_map {e : Operand → V} (he : ∀ x, AtV G tm (e x) (ρ x)) : ∀ l : List Operand, AtL G tm (l.map e) (l.map ρ)
  | [] => by simp [AtL]
  | x :: l => by simp only [List.map_cons, AtL]; exact ⟨he x, renL_at_map he l⟩

theorem AtV.noTag {v : V} {x : Value} (h : AtV G tm v x) (hp : plainV v = true) (tm' : Array Value) : AtV G tm' v x := by
  have : Bx.sane v = v := by cases v <;> first | rfl | (simp [plainV] at hp; done)
  have h2 := h.sane (tm' := tm')
  rwa [this] at h2

theorem AtL.noTag : ∀ {l : List V} {m : List Value}, AtL G tm l m → (l.all plainV) = true → ∀ tm', AtL G tm' l m
  | [], [], _, _, _ => by simp [AtL]
  | v :: l, x :: m, h, hp, tm' => by
    simp only [List.all_cons, Bool.and_eq_true] at hp
    simp only [AtL] at h ⊢
    exact ⟨h.1.noTag hp.1 tm', AtL.noTag h.2 hp.2 tm'⟩
  | [], _ :: _, h, _, _ => by simp [AtL] at h
  | _ :: _, [], h, _, _ => by simp [AtL] at h

theorem FlatL.nth : ∀ {τ : Ty} {l : List V} {cs : List Value} {j : Nat} {u : Ty}, FlatL G τ l cs → subT τ [.fld j] = some u → ∃ o cs1, offT τ [.fld j] = some (o, u) ∧ FlatV G u (Bx.nth l j) cs1 ∧ ∀ i x, cs1[i]? = some x → cs[o + i]? = some x := by
  intro τ l cs j u h hs
  obtain ⟨o, ho⟩ := fld_off hs
  obtain ⟨a, o1, o2, cs1, g1, rfl, g3, g4, g5, _⟩ := h.part ho
  obtain ⟨rfl, rfl⟩ := offT_nil g1
  exact ⟨o1 + 0, cs1, ho, g4, fun i x hi => by rw [Nat.add_zero]; exact g5 i x hi⟩

/-- a part of a struct's value -/
theorem run_partV (w : World) {τ : Ty} {t : TypeId} (h : TyOk P τ t) (cs : Array Value) (off : Nat) {v : V} {ds : List Value} (hx : FlatV G τ v ds)
    (hc : (cs.toList.drop off).take τ.size = ds) : ∃ x, (part t cs off).run P w = .ok x w ∧ ∀ tm, AtV G tm (sane v) x := by
  have hl := hx.length
  obtain ⟨x, e1, e2, e3, e4⟩ := AtV.ofFlatV hx
  refine ⟨x, ?_, fun tm => e2.sane⟩
  cases hτ : τ.isAgg with
  | true =>
    have : (cs.extract off (off + τ.size)).toList = ds := by rw [← hc]; simp [List.extract_eq_take_drop]
    rw [e3 hτ]
    simp only [part, Sem.run_bind, run_isAgg w h, hτ, Result.andThen_ok, if_true, run_sizeOf w h.info, Sem.run_pure]
    congr 2
    apply Array.ext'; simpa using this
  | false =>
    have e5 := e4 hτ
    have hs : τ.size = 1 := by cases τ <;> simp [Ty.isAgg] at hτ <;> rfl
    have h0 : cs[off]? = some x := by
      have := congrArg (fun l : List Value => l[0]?) hc
      rw [hs, e5] at this
      simpa using this
    simp [part, run_isAgg w h, hτ, h0]

theorem view_arith (n lo hi : Int) (N : Nat) (h : 0 ≤ n ∧ n < hi - lo) (h0 : 0 ≤ lo) (h1 : hi ≤ (N : Int)) : lo.toNat ≠ N ∧ n < ((hi.toNat - lo.toNat : Nat) : Int) ∧ (lo + n).toNat = lo.toNat + n.toNat ∧ (0 ≤ lo + n ∧ lo + n < (N : Int)) := by omega

theorem rd_str {v : V} {x : Value} (h : AtV G tm v x) {l : List Int} (hr : rd G.hp v = .data .str l) : AtD G.env .str l x := by
  cases v with
  | data t y =>
    simp only [rd, V.data.injEq] at hr
    obtain ⟨rfl, hr⟩ := hr
    have hr := eq_of_heq hr
    subst hr
    simpa only [AtV] using h
  | app id ver => simp only [rd] at hr; split at hr <;> (try split at hr) <;> cases hr
  | view id p t n lo hi =>
    simp only [rd] at hr
    split at hr
    · split at hr
      · split at hr <;> cases hr
      · cases hr
    · cases hr
  | agg t l =>
    simp only [rd] at hr
    obtain ⟨e, hg⟩ := mkAgg_data hr
    subst e
    cases hl : rdL G.hp l <;> rw [hl] at hg <;> simp [getArgs] at hg
  | _ => simp [rd] at hr

theorem valR_val (hC : CtxOk P C) (hR : HRel G) (hL : Look G tm fr ρ) {g : Option Gd} (hg : Yes g tm) (o : Oper) {c : Prop} {i : Decidable c} {v : V} (hv : valR C g fr G.hp o.op = some (.val c i v)) (hc : c) :
    ∃ x, (execOp ρ o).run P G.w = .ok (.value x) G.w ∧ AtV G tm v x := by
  obtain ⟨dst, op, type, pos, after, guard⟩ := o
  cases op <;> simp only [valR] at hv
  case move x =>
    obtain rfl := okR_eq hv
    exact ⟨_, by simp [execOp], hL.un hg x⟩
  case assign x =>
    obtain rfl := okR_eq hv
    exact ⟨_, by simp [execOp], hL.un hg x⟩
  case pick co ao bo =>
    split at hv
    · rename_i d t heq
      have hb := hL.ud hg (.tmp d)
      rw [heq] at hb
      have hb := hb.bool
      have ht := hL.bool hb
      split at hv
      · rename_i y z h1 h2
        obtain rfl := okR_eq hv
        refine ⟨.bool (cond t y z), ?_, .mkBool⟩
        cases t with
        | true =>
          have := hL.arm ht true ao h1 rfl
          simp [execOp, hb, asBool, this]
        | false =>
          have := hL.arm ht false bo h2 rfl
          simp [execOp, hb, asBool, this]
      · cases hv
    · cases hv
  case load t x =>
    split at hv
    · cases hv
    · rename_i τ hτ
      have htk := hC.ty _ _ hτ
      have hx := hL.ud hg x
      split at hv
      · rename_i id ver p heq
        rw [heq] at hx
        simp only [AtV] at hx
        split at hv
        · rename_i hty
          obtain rfl := okR_eq hv
          obtain ⟨a, cs, e1, e2, e3, e4⟩ := ref_load hR hx hty
          obtain ⟨y, r1, r2⟩ := run_loadV G.w htk a e2 e3 e4
          exact ⟨y, by simp [execOp, e1, Instr.loadAt, Instr.sureAddr, r1], r2 tm⟩
        · cases hv
      · rename_i σ y heq
        rw [heq] at hx
        simp only [AtV] at hx
        obtain ⟨ad, ds, e1, e2, _, e4, e5⟩ := hx
        split at hv
        · rename_i hu
          subst hu
          obtain rfl := okR_eq hv
          obtain ⟨x', r1, r2⟩ := run_loadVar G.w htk ad e2 e5 e4
          exact ⟨x', by simp [execOp, e1, Instr.loadAt, Instr.sureAddr, r1], by simpa [AtV] using r2⟩
        · cases hv
      · cases hv
  case nilCheck x =>
    have hx := hL.ud hg x
    split at hv
    · rename_i id ver p heq
      rw [heq] at hx
      obtain rfl := okR_eq hv
      have hx' := hx
      simp only [AtV] at hx
      obtain ⟨a, ha⟩ := hx.ptr
      exact ⟨ρ x, by simp [execOp, ha], hx'⟩
    · rename_i t y heq
      rw [heq] at hx
      obtain rfl := okR_eq hv
      have hx' := hx
      simp only [AtV] at hx
      obtain ⟨a, ds, ha, _⟩ := hx
      exact ⟨ρ x, by simp [execOp, ha], hx'⟩
    · rename_i f a b heq
      rw [heq] at hx
      obtain rfl := okR_eq hv
      have hx' := hx
      simp only [AtV] at hx
      obtain ⟨xs, ys, ha, _⟩ := hx
      exact ⟨ρ x, by simp [execOp, ha], hx'⟩
    · rename_i t u heq
      rw [heq] at hx
      obtain rfl := okR_eq hv
      have hx' := hx
      simp only [AtV] at hx
      obtain ⟨y, ha, _⟩ := hx
      exact ⟨ρ x, by simp [execOp, ha], hx'⟩
    · cases hv
  case indexAddr t x ix =>
    have hx := hL.ud hg x
    have hi := hL.ud hg ix
    split at hv
    · rename_i len τ id ver p k n hτ heq heq2
      obtain ⟨e, hu, hte, _⟩ := hC.ty _ _ hτ
      rw [heq] at hx; rw [heq2] at hi
      obtain ⟨hi1, _⟩ := hi.int
      split at hv
      · rename_i hty
        obtain ⟨rfl, rfl⟩ := ifR_eq hv
        simp only [AtV] at hx
        obtain ⟨a, e1, e2, e3⟩ := hx.at hty
        refine ⟨.pointer (some ⟨a.block, a.off + n.toNat * τ.size, none⟩), ?_, ?_⟩
        · simp [execOp, e1, hi1, Instr.indexAt, asIntOf, run_underlying hu, Instr.sureAddr, hc, run_sizeOf G.w hte.info, add_plain, e2]
        · simp only [AtV]
          have h0 : offT τ [] = some (0, τ) := by cases τ <;> rfl
          exact e3 (.idx n) (n.toNat * τ.size) τ (by simp only [offT]; rw [if_pos hc]; simp)
      · cases hv
    · rename_i τ τ' l k n hτ heq heq2
      obtain ⟨e, hu, hte, _⟩ := hC.ty _ _ hτ
      rw [heq] at hx; rw [heq2] at hi
      obtain ⟨hi1, _⟩ := hi.int
      split at hv
      · rename_i ht
        subst ht
        obtain ⟨rfl, rfl⟩ := ifR_eq hv
        simp only [AtV] at hx
        have hil : n.toNat < List.length l := (Int.toNat_lt hc.1).2 hc.2
        obtain ⟨b, cap, ds, e1, e2, e3, e4, e5⟩ := slice_elem (hx.one rfl) n.toNat hil
        refine ⟨.pointer (some ⟨b.block, b.off + n.toNat * τ.size, none⟩), ?_, ?_⟩
        · simp [execOp, e1, hi1, Instr.indexAt, asIntOf, run_underlying hu, hc, run_sizeOf G.w hte.info, add_plain, e2]
        · simp only [AtV]
          exact ⟨_, ds, rfl, rfl, e4, e5, e3⟩
      · cases hv
    · rename_i τ id ver k n hτ heq heq2
      obtain ⟨e, hu, hte, _⟩ := hC.ty _ _ hτ
      rw [heq] at hx; rw [heq2] at hi
      obtain ⟨hi1, _⟩ := hi.int
      split at hv
      · rename_i τ' l ver' z hb
        split at hv
        · rename_i ht
          obtain ⟨rfl, hver⟩ := ht
          have hver := Nat.eq_of_beq_eq_true hver
          subst hver
          obtain ⟨rfl, rfl⟩ := ifR_eq hv
          simp only [AtV] at hx
          unfold AppAt at hx
          rw [hb] at hx
          have hx := hx.2.2 rfl
          have hil : n.toNat < List.length l := (Int.toNat_lt hc.1).2 hc.2
          cases z with
          | true =>
            obtain ⟨b, cap, ds, e1, e2, e3, e4, e5⟩ := slice_elem (sl_frozen hR hb) n.toNat hil
            refine ⟨.pointer (some ⟨b.block, b.off + n.toNat * τ.size, none⟩), ?_, ?_⟩
            · simp [execOp, hx, e1, hi1, Instr.indexAt, asIntOf, run_underlying hu, hc, run_sizeOf G.w hte.info, add_plain, e2]
            · simp only [AtV]
              exact ⟨_, ds, rfl, rfl, e4, e5, e3⟩
          | false =>
            rcases hR.blk _ _ hb with ⟨b', arr, ty, css, cap, rest, g1, g2, g3, g4, g5, g6, g7, g8⟩ | ⟨_, g2, _⟩
            · refine ⟨.pointer (some ⟨b', n.toNat * τ.size, none⟩), ?_, ?_⟩
              · simp [execOp, hx, g2, hi1, Instr.indexAt, asIntOf, run_underlying hu, hc, run_sizeOf G.w hte.info, add_plain]
              · simp only [AtV]
                unfold RefAt
                rw [hb]
                have h0 : offT τ [] = some (0, τ) := by cases τ <;> rfl
                exact ⟨Nat.le_refl _, ⟨_, rfl⟩, fun _ => ⟨b', n, [], 0, τ, rfl, g1, hc.1, hil, h0, by simp⟩⟩
            · rcases g2 with g2 | g2
              · cases g2
              · subst g2; simp at hil
        · cases hv
      · cases hv
    · rename_i τ id p τ' n' lo hi' k n hτ heq heq2
      obtain ⟨e, hu, hte, _⟩ := hC.ty _ _ hτ
      rw [heq] at hx; rw [heq2] at hi
      obtain ⟨hi1, _⟩ := hi.int
      split at hv
      · rename_i ht
        subst ht
        obtain ⟨rfl, rfl⟩ := ifR_eq hv
        simp only [AtV] at hx
        unfold ViewAt at hx
        split at hx
        · rename_i cτ cv cz hb
          obtain ⟨b, o, e1, e2, e3, e4, e5, e6, e7⟩ := hx
          obtain ⟨hne, hlt, hsum, hin⟩ := view_arith n lo hi' n' hc e3 e5
          rw [if_neg hne] at e7
          have hoff : o + lo.toNat * τ.size + n.toNat * τ.size = o + (lo + n).toNat * τ.size := by
            rw [hsum, Nat.add_mul, Nat.add_assoc]
          refine ⟨.pointer (some ⟨b, o + (lo + n).toNat * τ.size, none⟩), ?_, ?_⟩
          · simp [execOp, e7, hi1, Instr.indexAt, asIntOf, run_underlying hu, hc.1, hlt, run_sizeOf G.w hte.info, add_plain, hoff]
          · simp only [AtV]
            unfold RefAt
            rw [hb]
            have h0 : offT τ [] = some (0, τ) := by cases τ <;> rfl
            refine ⟨b, o + (lo + n).toNat * τ.size, τ, e1, offT_snoc (.idx (lo + n)) e2 ?_, rfl⟩
            simp only [offT]
            rw [if_pos hin]; simp
        · exact hx.elim
      · cases hv
    · rename_i len' τ len τ' l k n hτ heq heq2
      obtain ⟨e, hu, hte, _⟩ := hC.ty _ _ hτ
      rw [heq] at hx; rw [heq2] at hi
      obtain ⟨hi1, _⟩ := hi.int
      split at hv
      · rename_i ht
        obtain ⟨ht1, ht2⟩ := ht
        subst ht1; subst ht2
        obtain ⟨rfl, rfl⟩ := ifR_eq hv
        simp only [AtV] at hx
        obtain ⟨ad, ds, e1, e2, e3, e4, e5⟩ := hx
        obtain ⟨z, cs', g1, g2, g3⟩ := getP_flat _ _ _ [.idx n] (n.toNat * τ.size) τ e5 (by simp only [offT]; rw [if_pos hc]; simp)
        simp only [getP, V.data.injEq, heq_eq_eq, true_and] at g1
        subst g1
        refine ⟨.pointer (some ⟨ad.block, ad.off + n.toNat * τ.size, none⟩), ?_, ?_⟩
        · simp [execOp, e1, hi1, Instr.indexAt, asIntOf, run_underlying hu, Instr.sureAddr, hc, run_sizeOf G.w hte.info, add_plain, e2]
        · simp only [AtV]
          refine ⟨_, cs', rfl, rfl, ?_, fun j u hj => by rw [Nat.add_assoc]; exact e4 _ _ (g3 j u hj), g2⟩
          exact sub_im e3 g3
      · cases hv
    · cases hv
  case fieldAddr t x j =>
    have hx := hL.ud hg x
    split at hv
    · rename_i τ id ver p hτ heq
      have htk := hC.ty _ _ hτ
      rw [heq] at hx
      split at hv
      · rename_i hsub
        obtain ⟨hsub, hfld⟩ := hsub
        obtain rfl := okR_eq hv
        simp only [AtV] at hx
        obtain ⟨a, e1, e2, e3⟩ := hx.at hsub
        obtain ⟨u, hu⟩ := Option.isSome_iff_exists.1 hfld
        obtain ⟨o2, ho2⟩ := fld_off hu
        obtain ⟨fs, f, f1, f2, f3, f4, f5⟩ := htk.fields ho2
        refine ⟨.pointer (some ⟨a.block, a.off + o2, none⟩), ?_, ?_⟩
        · simp [execOp, e1, Instr.fieldAt, run_underlying f1, f2, Instr.sureAddr, fieldPlace, run_sizeOf G.w f4.info, f5, add_plain, f3, e2]
        · simp only [AtV]; exact e3 _ _ _ ho2
      · cases hv
    · rename_i τ' τ y hτ heq
      have htk := hC.ty _ _ hτ
      rw [heq] at hx
      split at hv
      · rename_i ht
        subst ht
        split at hv
        · rename_i u z hp
          obtain rfl := okR_eq hv
          simp only [AtV] at hx
          obtain ⟨ad, ds, e1, e2, e3, e4, e5⟩ := hx
          obtain ⟨o2, cs', ho2, g2, g3⟩ := proj_flat hp e5
          obtain ⟨fs, f, f1, f2, f3, f4, f5⟩ := htk.fields ho2
          refine ⟨.pointer (some ⟨ad.block, ad.off + o2, none⟩), ?_, ?_⟩
          · simp [execOp, e1, Instr.fieldAt, run_underlying f1, f2, Instr.sureAddr, fieldPlace, run_sizeOf G.w f4.info, f5, add_plain, f3, e2]
          · simp only [AtV]
            refine ⟨_, cs', rfl, rfl, ?_, fun j u hj => by rw [Nat.add_assoc]; exact e4 _ _ (g3 j u hj), g2⟩
            exact sub_im e3 g3
        · cases hv
      · cases hv
    · cases hv
  case binOp op xt x y yt =>
    have hx := hL.ud hg x
    have hy := hL.ud hg y
    obtain ⟨z, r1, r2⟩ := binV_run (P := P) hC G.w op xt x y hx hy hv hc
    exact ⟨z, by simp only [execOp, Sem.run_bind, r1, Result.andThen_ok, Sem.run_pure], r2⟩
  case unOp op xt x =>
    have hx := hL.ud hg x
    unfold unV at hv
    split at hv
    · rename_i b heq
      rw [heq] at hx
      have hb := hx.bool
      obtain rfl := okR_eq hv
      exact ⟨.bool (!b), by simp [execOp, hb, Op.unary], .mkBool⟩
    · rename_i k n heq
      rw [heq] at hx
      obtain ⟨hx, _⟩ := hx.int
      obtain rfl := okR_eq hv
      exact ⟨_, by simp [execOp, hx, Op.unary, Op.intArith], .mkInt (inR_wrap _ _)⟩
    · rename_i k n heq
      rw [heq] at hx
      obtain ⟨hx, _⟩ := hx.int
      obtain rfl := okR_eq hv
      exact ⟨_, by simp only [execOp, hx, Op.unary, Op.intBits, Sem.run_bind, Sem.run_pure, Result.andThen_ok]; rfl, .mkInt (inR_wrap _ _)⟩
    · cases hv
  case convert s d x =>
    have hx := hL.ud hg x
    split at hv
    · rename_i k1 k2 k3 n h1 h2 heq
      rw [heq] at hx
      obtain ⟨hx, _⟩ := hx.int
      obtain rfl := okR_eq hv
      have t1 := (hC.ty _ _ h1).1
      have t2 := (hC.ty _ _ h2).1
      exact ⟨_, by simp [execOp, hx, convert, run_underlying t1, run_underlying t2, Conv.intToInt], .mkInt (inR_wrap _ _)⟩
    · rename_i l h1 h2 heq
      rw [heq] at hx
      obtain rfl := okR_eq hv
      have t1 := (hC.ty _ _ h1).1
      have t2 := (hC.ty _ _ h2).1
      have hx' := hx
      simp only [AtV] at hx
      obtain ⟨s, e1, _⟩ := hx.one rfl
      simp at e1
      exact ⟨ρ x, by simp [execOp, e1, convert, run_underlying t1, run_underlying t2], hx'⟩
    · simp at hv
    · rename_i h1 h2
      split at hv
      · rename_i l hrd
        obtain rfl := okR_eq hv
        obtain ⟨e, t1, t3, _⟩ := hC.ty _ _ h1
        have t2 := (hC.ty _ _ h2).1
        have t4 := t3.1
        obtain ⟨s, r1, r2, r3⟩ := run_bytes_str (P := P) t1 t4 t2 (rd_sl hR hx hrd)
        refine ⟨.string s, by simp only [execOp, Sem.run_bind, r1, Result.andThen_ok, Sem.run_pure], ?_⟩
        simp only [AtV]
        exact AtD.ofFlat ⟨s, rfl, r2, r3⟩ rfl
      · cases hv
    · cases hv
  case index t x ix =>
    have hx := hL.ud hg x
    have hi := hL.ud hg ix
    split at hv
    · rename_i len τ len' τ' l k n h1 heq heq2
      rw [heq] at hx; rw [heq2] at hi
      obtain ⟨hi1, _⟩ := hi.int
      split at hv
      · rename_i hu
        obtain ⟨rfl, rfl⟩ := hu
        obtain ⟨rfl, rfl⟩ := ifR_eq hv
        have hcc := hc
        obtain ⟨e, hu, hte, _⟩ := hC.ty _ _ h1
        simp only [AtV] at hx
        obtain ⟨cs, ev, hf⟩ := hx.agg rfl
        obtain ⟨z, cs', g1, g2, g3⟩ := getP_flat (.arr len τ) l cs.toList [.idx n] (n.toNat * τ.size + 0) τ hf (by
          have : offT τ [] = some (0, τ) := by cases τ <;> rfl
          simp only [offT, this, if_pos hcc])
        have gz : z = l.getD n.toNat τ.zero := by
          have : getP (.arr len τ) l [.idx n] = .data τ (l.getD n.toNat τ.zero) := by
            cases τ <;> rfl
          rw [this] at g1
          simp only [V.data.injEq, true_and] at g1
          exact (eq_of_heq g1).symm
        subst gz
        obtain ⟨v, r1, r2⟩ := run_part (P := P) G.w hte cs (n.toNat * τ.size) g2 (take_of_at g3 (FlatD.length _ _ _ g2))
        refine ⟨v, ?_, by simpa only [AtV] using r2⟩
        simp only [execOp, Instr.index, ev, hi1, asIntOf, Sem.run_bind, Sem.run_pure, Result.andThen_ok, run_underlying hu, if_pos hcc, run_sizeOf G.w hte.info, r1]
      · cases hv
    · rename_i l k n h1 heq heq2
      rw [heq] at hx; rw [heq2] at hi
      obtain ⟨hi1, _⟩ := hi.int
      obtain ⟨rfl, rfl⟩ := ifR_eq hv
      have hcc := hc
      have hu := (hC.ty _ _ h1).1
      simp only [AtV] at hx
      obtain ⟨s, e1, e2, e3⟩ := hx.one rfl
      simp at e1
      subst e2
      have hlen : (bytesOf s).length = s.size := by simp [bytesOf]
      have hn : n.toNat < s.size := by
        have h1 := hcc.1; have h2 := hcc.2
        rw [hlen] at h2
        exact (Int.toNat_lt h1).2 h2
      refine ⟨.int .u8 ((bytesOf s).getD n.toNat 0), ?_, .mkInt ?_⟩
      · have hget : s[n.toNat]? = some s[n.toNat] := by simp [hn]
        have hgd : (bytesOf s).getD n.toNat 0 = ((s[n.toNat].toNat : Nat) : Int) := by
          simp only [bytesOf, List.getD, List.getElem?_map]
          rw [List.getElem?_eq_getElem (by simpa using hn)]
          rfl
        simp only [execOp, Instr.index, e1, hi1, asIntOf, Sem.run_bind, Sem.run_pure, Result.andThen_ok, run_underlying hu, if_pos hcc.1, hget, hgd]
      · have hgd : (bytesOf s).getD n.toNat 0 = ((s[n.toNat].toNat : Nat) : Int) := by
          simp only [bytesOf, List.getD, List.getElem?_map]
          rw [List.getElem?_eq_getElem (by simpa using hn)]
          rfl
        rw [hgd, inR_iff]
        have := (s[n.toNat]).toNat_lt
        simp only [IntKind.min, IntKind.max, IntKind.signed, IntKind.bits]
        simp; omega
    · cases hv
  case field t x j =>
    have hx := hL.ud hg x
    split at hv
    · rename_i τ' τ y h1 heq
      rw [heq] at hx
      split at hv
      · rename_i hu
        subst hu
        split at hv
        · rename_i σ z hp
          obtain rfl := okR_eq hv
          simp only [AtV] at hx
          have htk := hC.ty _ _ h1
          have hag : τ.isAgg = true := by
            cases τ with
            | pair _ _ => rfl
            | _ => simp [proj] at hp
          obtain ⟨cs, ev, hf⟩ := hx.agg hag
          obtain ⟨o, ds, g1, g2, g3⟩ := proj_flat hp hf
          obtain ⟨fs, f, f1, f2, f3, f4, f5⟩ := htk.fields g1
          obtain ⟨v, r1, r2⟩ := run_part (P := P) G.w f4 cs o g2 (take_of_at g3 (FlatD.length _ _ _ g2))
          refine ⟨v, ?_, by simpa only [AtV] using r2⟩
          simp only [execOp, Instr.field, ev, Sem.run_bind, run_underlying f1, Result.andThen_ok, f2, asAgg, Sem.run_pure, f3, r1]
        · cases hv
      · cases hv
    · rename_i τ' τ l h1 heq
      rw [heq] at hx
      split at hv
      · rename_i hu
        obtain ⟨rfl, hsub⟩ := hu
        obtain rfl := okR_eq hv
        simp only [AtV] at hx
        obtain ⟨cs, ev, hf⟩ := hx
        have htk := hC.ty _ _ h1
        obtain ⟨u, hsub⟩ := Option.isSome_iff_exists.1 hsub
        obtain ⟨o, ds, g1, g2, g3⟩ := hf.nth hsub
        obtain ⟨fs, f, f1, f2, f3, f4, f5⟩ := htk.fields g1
        obtain ⟨v, r1, r2⟩ := run_partV (P := P) G.w f4 cs o g2 (take_of_at g3 g2.length)
        refine ⟨v, ?_, r2 tm⟩
        simp only [execOp, Instr.field, ev, Sem.run_bind, run_underlying f1, Result.andThen_ok, f2, asAgg, Sem.run_pure, f3, r1]
      · cases hv
    · cases hv
  case build t parts =>
    split at hv
    · rename_i τ h1
      split at hv
      · rename_i hag
        split at hv
        · rename_i y hb
          obtain rfl := okR_eq hv
          obtain ⟨v, r1, r2⟩ := build_run (P := P) (G := G) (hC.ty _ _ h1) hag (fun x => hL.un hg x) hb
          exact ⟨v, by simp only [execOp, Sem.run_bind, r1, Result.andThen_ok, Sem.run_pure], r2⟩
        · cases hv
      · cases hv
    · cases hv
  case makeFunc fn fst cap =>
    split at hv
    · rename_i f
      split at hv
      · rename_i hp
        obtain rfl := okR_eq hv
        simp only [Bool.and_eq_true] at hp
        refine ⟨.func (.func f) (fst.map ρ) (cap.map ρ), by simp [execOp, Instr.makeFunc], ?_⟩
        simp only [AtV]
        refine ⟨_, _, rfl, ?_, ?_⟩
        · have := AtL.noTag (renL_at_map (fun x => hL.un hg x) fst.toList) hp.1 #[]
          simpa using this
        · have := AtL.noTag (renL_at_map (fun x => hL.un hg x) cap.toList) hp.2 #[]
          simpa using this
      · cases hv
    · cases hv
  case makeInterface t x =>
    split at hv
    · rename_i τ hτ
      split at hv
      · rename_i hp
        simp only [Bool.and_eq_true] at hp
        obtain rfl := okR_eq hv
        have htk := hC.ty _ _ hτ
        refine ⟨.iface t (ρ x), ?_, ?_⟩
        · cases τ with
          | arr n σ => obtain ⟨e, hu, _⟩ := htk; simp [execOp, Instr.makeInterface, run_underlying hu]
          | unit => simp [execOp, Instr.makeInterface, run_underlying htk.1]
          | pair a b => obtain ⟨fs, hu, _⟩ := htk; simp [execOp, Instr.makeInterface, run_underlying hu]
          | _ => simp [Ty.isAgg] at hp
        · simp only [AtV]
          exact ⟨_, rfl, (hL.un hg x).noTag hp.2 #[]⟩
      · cases hv
    · cases hv
  case slice t x lo hi mx =>
    have hx := hL.ud hg x
    have he := fun x => hL.ud hg x
    split at hv
    · rename_i τ' l heq
      rw [heq] at hx
      split at hv
      · rename_i τ hτ
        split at hv
        · rename_i ht
          subst ht
          obtain ⟨e, hu, hte, _⟩ := hC.ty _ _ hτ
          simp only [AtV] at hx
          obtain ⟨y, r1, r2⟩ := sliceL_run (P := P) G.w hu hte he (hx.one rfl) hv hc
          refine ⟨y, by simp only [execOp, Sem.run_bind, r1, Result.andThen_ok, Sem.run_pure], ?_⟩
          rcases r2 with ⟨a, b, rfl, r3⟩ | ⟨a, b, rfl, r3, ad, n, r4⟩
          · simp only [AtV]; exact .ofFlat r3 rfl
          · simp only [AtV]; exact ⟨r3, ad, n, r4⟩
        · cases hv
      · cases hv
    · rename_i l heq
      rw [heq] at hx
      split at hv
      · rename_i h1
        split at hv
        · rename_i a b ha hb
          obtain ⟨rfl, rfl⟩ := ifR_eq hv
          obtain ⟨h0, h1', h2⟩ := hc
          have hu := (hC.ty _ _ h1).1
          simp only [AtV] at hx
          obtain ⟨s, e1, e2, e3⟩ := hx.one rfl
          simp at e1
          subst e2
          have hlen : (bytesOf s).length = s.size := by simp [bytesOf]
          rw [hlen] at h2 hb
          have hr := sliceBounds_run (P := P) G.w false s.size s.size (Nat.le_refl _) he ha hb h0 h1' h2
          refine ⟨.string (s.extract a.toNat b.toNat), ?_, ?_⟩
          · simp only [execOp, e1, Instr.sliceAt, Sem.run_bind, run_underlying hu, Result.andThen_ok, Instr.slice, Option.map_none, Option.isSome_none, Sem.run_pure]
            simp [hr]
          · simp only [AtV]
            refine AtD.ofFlat ⟨_, rfl, ?_, ?_⟩ rfl
            · simp only [bytesOf, cutL, ByteArray.data_extract, Array.toList_extract, List.extract_eq_take_drop, List.map_take, List.map_drop]
            · simp only [ByteArray.size_extract]; omega
        · cases hv
      · cases hv
    · rename_i id ver p heq
      rw [heq] at hx
      split at hv
      · rename_i σ cv cz n τ hb hτ
        split at hv
        · rename_i hsub
          obtain ⟨hsub, hn⟩ := hsub
          have hn := Nat.le_of_ble_eq_true hn
          split at hv
          · rename_i a b ha hb'
            obtain ⟨rfl, rfl⟩ := ifR_eq hv
            obtain ⟨h0, h1, h2⟩ := hc
            obtain ⟨e, hu, hte, _⟩ := hC.ty _ _ hτ
            simp only [AtV] at hx
            unfold RefAt at hx
            rw [hb] at hx
            obtain ⟨b', o, u, g1, g2, g3⟩ := hx
            have := offT_sub g2
            rw [hsub] at this; cases this
            have hr := sliceBounds_run (P := P) G.w false n n (Nat.le_refl _) he ha hb' h0 h1 h2
            refine ⟨.slice (some (if a.toNat = n then ⟨b', o, none⟩ else ⟨b', o + a.toNat * τ.size, none⟩)) (b.toNat - a.toNat) (n - a.toNat), ?_, ?_⟩
            · simp only [execOp, g3, Instr.sliceAt, Sem.run_bind, run_underlying hu, Result.andThen_ok, Instr.sureAddr, Option.map_none, hr, run_sizeOf G.w hte.info, Sem.run_pure]
              by_cases hq : n = a.toNat
              · rw [if_pos hq, if_pos hq.symm]
              · rw [if_neg hq, if_neg (fun e => hq e.symm), add_plain _ _ rfl]
            · simp only [AtV]
              unfold ViewAt
              rw [hb]
              exact ⟨b', o, g1, g2, h0, h1, h2, by unfold maxLen; omega, rfl⟩
          · cases hv
        · cases hv
      · cases hv
    · rename_i id ver heq
      rw [heq] at hx
      split at hv
      · rename_i τ' l ver' τ hb hτ
        split at hv
        · rename_i ht
          obtain ⟨ht, hver⟩ := ht
          have hver := Nat.eq_of_beq_eq_true hver
          subst ht
          subst hver
          obtain ⟨e, hu, hte, _⟩ := hC.ty _ _ hτ
          simp only [AtV] at hx
          unfold AppAt at hx
          rw [hb] at hx
          have hfd := sl_frozen hR hb
          rw [← hx.2.2 rfl] at hfd
          obtain ⟨y, r1, r2⟩ := sliceL_run (P := P) G.w hu hte he hfd hv hc
          refine ⟨y, by simp only [execOp, Sem.run_bind, r1, Result.andThen_ok, Sem.run_pure], ?_⟩
          rcases r2 with ⟨a, b, rfl, r3⟩ | ⟨a, b, rfl, r3, ad, n, r4⟩
          · simp only [AtV]; exact .ofFlat r3 rfl
          · simp only [AtV]; exact ⟨r3, ad, n, r4⟩
        · cases hv
      · cases hv
    · rename_i n τ l heq
      rw [heq] at hx
      split at hv
      · rename_i n' τ' hτ
        split at hv
        · rename_i hnt
          obtain ⟨rfl, rfl, hn⟩ := hnt
          have hn := Nat.le_of_ble_eq_true hn
          split at hv
          · rename_i a b ha hb'
            obtain ⟨rfl, rfl⟩ := ifR_eq hv
            obtain ⟨h0, h1, h2⟩ := hc
            obtain ⟨e, hu, hte, _⟩ := hC.ty _ _ hτ
            simp only [AtV] at hx
            obtain ⟨ad, ds, e1, e2, e3, e4, ⟨hl, css, hcs, hal⟩⟩ := hx
            have hr := sliceBounds_run (P := P) G.w false n n (Nat.le_refl _) he ha hb' h0 h1 h2
            have hl' : List.length l = n := hl
            have hbase : FlatD G.env (.sl τ) l [.slice (some ad) (List.length l) n] := by
              refine .inr ⟨ad, n, css, rfl, .inl e2, by rw [hl']; exact Nat.le_refl _, by unfold maxLen; omega, hal, ?_, fun j v hj => e4 j v (by rw [hcs]; exact hj)⟩
              rw [← hcs]; exact e3
            have hcut := cut_flat hbase h0 h1 (by rw [hl']; exact h2) n (by omega) (Nat.le_refl _)
            refine ⟨_, ?_, by simp only [AtV]; exact .ofFlat hcut rfl⟩
            simp only [execOp, e1, Instr.sliceAt, Sem.run_bind, run_underlying hu, Result.andThen_ok, Instr.sureAddr, Option.map_none, hr, run_sizeOf G.w hte.info, Sem.run_pure]
            by_cases hq : n = a.toNat
            · rw [if_pos hq, if_pos hq]
            · rw [if_neg hq, if_neg hq]; rfl
          · cases hv
        · cases hv
      · cases hv
    · cases hv
  case extract x ix =>
    have hx := hL.ud hg x
    split at hv
    · rename_i l heq
      rw [heq] at hx
      simp only [AtV] at hx
      obtain ⟨vs, e1, e2⟩ := hx
      split at hv
      · rename_i hi
        have hi' : ix < l.length := Nat.le_of_ble_eq_true hi
        obtain rfl := okR_eq hv
        obtain ⟨y, h1, h2⟩ := nth_at e2 hi'
        exact ⟨y, by simp [execOp, e1, Instr.extract, show vs[ix]? = some y by simpa using h1], h2.sane⟩
      · cases hv
    · cases hv
  case buildSlice t n parts =>
    split at hv
    · split at hv
      · split at hv
        · split at hv <;> simp at hv
        · cases hv
      · cases hv
    · cases hv
  case call c' =>
    split at hv
    · rename_i hcal
      split at hv
      · rename_i τ l t h1 h2
        split at hv
        · rename_i hl
          obtain rfl := okR_eq hv
          obtain ⟨e, hu, _⟩ := hC.ty _ _ hl
          obtain ⟨ar, hargs⟩ : ∃ x, c'.args.toList = [x] := by
            cases hq : c'.args.toList with
            | nil => rw [hq] at h1; simp at h1
            | cons x r => cases r with
              | nil => exact ⟨x, rfl⟩
              | cons _ _ => rw [hq] at h1; simp at h1
          have hx := hL.ud hg ar
          rw [hargs] at h1
          simp only [List.map_cons, List.map_nil, List.cons.injEq, and_true] at h1
          obtain ⟨ad, cap, css, e1, e2, e3, _⟩ := rd_sl hR hx h1
          have ha1 : c'.args.map ρ = #[ρ ar] := by
            apply Array.ext'; simp [hargs]
          have ha2 : c'.argTypes = #[t] := by apply Array.ext'; simpa using h2
          refine ⟨.int .i64 (List.length l : Int), ?_, .mkInt ?_⟩
          · simp [execOp, resolve, hcal, ha1, e1, invoke, builtin, Builtin.len_, ha2, run_underlying hu, goInt]
          · rw [inR_iff]
            unfold maxLen at e3; simp [IntKind.min, IntKind.max, IntKind.bits, IntKind.signed]; omega
        · cases hv
      · rename_i l t h1 h2
        split at hv
        · rename_i hl
          obtain rfl := okR_eq hv
          obtain ⟨hu, _⟩ := hC.ty _ _ hl
          obtain ⟨ar, hargs⟩ : ∃ x, c'.args.toList = [x] := by
            cases hq : c'.args.toList with
            | nil => rw [hq] at h1; simp at h1
            | cons x r => cases r with
              | nil => exact ⟨x, rfl⟩
              | cons _ _ => rw [hq] at h1; simp at h1
          have hx := hL.ud hg ar
          rw [hargs] at h1
          simp only [List.map_cons, List.map_nil, List.cons.injEq, and_true] at h1
          have hx := rd_str hx h1
          have ha1 : c'.args.map ρ = #[ρ ar] := by
            apply Array.ext'; simp [hargs]
          have ha2 : c'.argTypes = #[t] := by apply Array.ext'; simpa using h2
          obtain ⟨s, e1, e2, e3⟩ := hx.one rfl
          simp at e1
          have hls : s.size = List.length l := by rw [← e2]; simp [bytesOf]
          refine ⟨.int .i64 (List.length l : Int), ?_, .mkInt ?_⟩
          · simp [execOp, resolve, hcal, ha1, e1, invoke, builtin, Builtin.len_, ha2, run_underlying hu, goInt, hls]
          · rw [inR_iff]
            unfold maxLen at e3; simp [IntKind.min, IntKind.max, IntKind.bits, IntKind.signed]; omega
        · cases hv
      · cases hv
    · rename_i hcal
      split at hv
      · rename_i k x k' y h1
        split at hv
        rotate_left
        · cases hv
        rename_i hkk
        subst hkk
        obtain rfl := okR_eq hv
        obtain ⟨a1, a2, hargs, e1, e2⟩ := two_args h1
        have hx := hL.ud hg a1
        have hy := hL.ud hg a2
        rw [e1] at hx; rw [e2] at hy
        obtain ⟨hx, rx⟩ := hx.int
        obtain ⟨hy, ry⟩ := hy.int
        have ha1 : c'.args.map ρ = #[ρ a1, ρ a2] := by apply Array.ext'; simp [hargs]
        refine ⟨.int k (if y > x then y else x), ?_, .mkInt ?_⟩
        · simp [execOp, resolve, hcal, ha1, hx, hy, invoke, builtin, Builtin.max_, Builtin.max2]
        · split <;> assumption
      · cases hv
    · rename_i hcal
      split at hv
      · rename_i k x k' y h1
        split at hv
        rotate_left
        · cases hv
        rename_i hkk
        subst hkk
        obtain rfl := okR_eq hv
        obtain ⟨a1, a2, hargs, e1, e2⟩ := two_args h1
        have hx := hL.ud hg a1
        have hy := hL.ud hg a2
        rw [e1] at hx; rw [e2] at hy
        obtain ⟨hx, rx⟩ := hx.int
        obtain ⟨hy, ry⟩ := hy.int
        have ha1 : c'.args.map ρ = #[ρ a1, ρ a2] := by apply Array.ext'; simp [hargs]
        refine ⟨.int k (if y < x then y else x), ?_, .mkInt ?_⟩
        · simp [execOp, resolve, hcal, ha1, hx, hy, invoke, builtin, Builtin.min_, Builtin.min2]
        · split <;> assumption
      · cases hv
    · simp at hv
    · split at hv
      · split at hv
        · split at hv
          · cases hv
          · split at hv <;> simp at hv
        · cases hv
      · cases hv
  all_goals (first | (cases hv; done) | (simp at hv; done))


end
end Go.Bx
