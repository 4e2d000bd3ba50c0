/- A part of a framework that reads Go code as functions of plain data; or a law about such functions. -/
import Derived.Test.YtebnjboimekljaaCxR
namespace Go.Bx
set_option linter.unusedVariables false
set_option linter.unusedSimpArgs false
open Go Go.RowKit

section
variable {P : Program} {C : Ctx} {G : GE} {fr : List V} {ρ : Operand → Value} {tm : Array Value}

/-- what an operation comes to, calls and all -/
def DoesW (P : Program) (G : GE) (a : Act) (o : Oper) (v : V) (hp' : Heap) (Q : Exit → Act → World → Prop) : Prop :=
  o.wp P a G.w (fun a' w' => ∃ x β' σ', a' = a.put o.dst x ∧ Tr G ⟨w', β', σ', hp', G.n0, G.Bo, G.I0⟩ ∧ HRel ⟨w', β', σ', hp', G.n0, G.Bo, G.I0⟩ ∧ AtV ⟨w', β', σ', hp', G.n0, G.Bo, G.I0⟩ a.tmps v x) Q

theorem Does.toW {a : Act} {o : Oper} {v : V} {hp' : Heap} {Q : Exit → Act → World → Prop} (h : Does P G a.tmps (execOp a.eval o) v hp') : DoesW P G a o v hp' Q := by
  obtain ⟨r, x, w', β', σ', h1, h2, h3, h4, h5⟩ := h
  unfold DoesW Oper.wp
  rw [h1]
  rcases h2 with rfl | ⟨rfl, rfl⟩
  · rw [Oper.upon_value]; exact ⟨x, β', σ', rfl, h3, h4, h5⟩
  · rw [Oper.upon_skip]; exact ⟨undef, β', σ', rfl, h3, h4, h5⟩

theorem val_toW {a : Act} {o : Oper} {v : V} {Q : Exit → Act → World → Prop} (hR : HRel G) {x : Value} (h : (execOp a.eval o).run P G.w = .ok (.value x) G.w) (hv : AtV G a.tmps v x) : DoesW P G a o v G.hp Q :=
  Does.toW ⟨.value x, x, G.w, G.β, G.σ, h, .inl rfl, Tr.refl G, hR, hv⟩

theorem AtL.append : ∀ {l : List V} {m : List Value} {l' : List V} {m' : List Value}, AtL G tm l m → AtL G tm l' m' → AtL G tm (l ++ l') (m ++ m')
  | [], [], _, _, _, h => h
  | v :: l, x :: m, _, _, h, h' => by simp only [List.cons_append, AtL] at h ⊢; exact ⟨h.1, AtL.append h.2 h'⟩
  | [], _ :: _, _, _, h, _ => by simp [AtL] at h
  | _ :: _, [], _, _, h, _ => by simp [AtL] at h

theorem AtL.sane : ∀ {l : List V} {m : List Value} {tm' : Array Value}, AtL G tm' l m → AtL G tm (l.map Bx.sane) m
  | [], [], _, _ => by simp [AtL]
  | v :: l, x :: m, _, h => by simp only [List.map_cons, AtL] at h ⊢; exact ⟨h.1.sane, AtL.sane h.2⟩
  | [], _ :: _, _, h => by simp [AtL] at h
  | _ :: _, [], _, h => by simp [AtL] at h

/-- what is called, as the machine finds it -/
theorem target_run (hC : CtxOk P C) {e : Operand → V} (he : ∀ x, AtV G tm (e x) (ρ x)) {c : Call} {f : Nat} {args : List V} (h : target C e c = some (f, args)) :
    ∃ vals : Array Value, AtL G tm args vals.toList ∧ ∀ (dst : Option Tmp) (type : TypeId) (pos : String) (after : Array Edge) (guard : Option (Nat × Bool)), (execOp ρ { dst, op := .call c, type, pos, after, guard }).run P G.w = (callFunc f vals).run P G.w := by
  unfold target at h
  split at h
  · rename_i fo hcal
    split at h
    · rename_i f' fst cap heq
      cases h
      have hf := he fo
      rw [heq] at hf
      simp only [AtV] at hf
      obtain ⟨xs, ys, h1, h2, h3⟩ := hf
      refine ⟨xs ++ c.args.map ρ ++ ys, ?_, fun dst type pos after guard => by simp [execOp, resolve, hcal, h1, Deferred.ofValue, invoke]⟩
      simp only [callArgs, List.nil_append, Array.toList_append, Array.toList_map]
      exact AtL.append (AtL.append h2.sane (renL_at_map he _)) h3.sane
    · cases h
  · rename_i r m hcal
    split at h
    · rename_i t v heq
      split at h
      · rename_i f' hf
        cases h
        have hr := he r
        rw [heq] at hr
        simp only [AtV] at hr
        obtain ⟨x, h1, h2⟩ := hr
        refine ⟨#[x] ++ c.args.map ρ, ?_, fun dst type pos after guard => ?_⟩
        · simp only [callArgs, List.map_nil, List.append_nil, Array.toList_append, Array.toList_map]
          exact AtL.append (by simp only [AtL]; exact ⟨h2.sane, trivial⟩) (renL_at_map he _)
        · have := hC.inv _ _ _ hf G.w x (c.args.map ρ)
          have e0 : (#[Value.iface t x] ++ c.args.map ρ)[0]? = some (Value.iface t x) := by
            rw [Array.getElem?_append_left (by simp)]; rfl
          simp only [execOp, resolve, hcal, Sem.run_bind, Sem.run_pure, Result.andThen_ok, invoke, h1, e0]
          rw [← this]
          simp
          rw [show (c.args.map ρ).extract 0 c.args.size = c.args.map ρ by
            have : c.args.size = (c.args.map ρ).size := by simp
            rw [this]; exact Array.extract_size]
      · cases h
    · cases h
  · cases h

theorem argsL_tight (hR : HRel G) : ∀ {t : Ty} {l : List V} {x : t.den} {vs : List Value}, getArgs t (rdL G.hp l) = some x → looseL G.hp l = false → AtL G tm l vs → ArgsAt G.env t x vs
  | .unit, [], _, [], _, _, _ => rfl
  | .unit, [], _, _ :: _, _, _, h => by simp [AtL] at h
  | .unit, _ :: _, _, _, h, _, _ => by simp [rdL, getArgs] at h
  | .pair a b, [], _, _, h, _, _ => by simp [rdL, getArgs] at h
  | .pair a b, v :: l, x, [], _, _, h => by simp [AtL] at h
  | .pair a b, v :: l, x, y :: vs, h, hl, ha => by
    simp only [rdL] at h
    simp only [looseL, Bool.or_eq_false_iff] at hl
    simp only [AtL] at ha
    cases hv : rd G.hp v <;> rw [hv] at h <;> simp only [getArgs, reduceCtorEq] at h
    split at h
    · cases h
    · rename_i z hz
      split at h
      · cases h
      · rename_i r hr
        obtain ⟨rfl, rfl⟩ := castD_some hz
        cases h
        exact ⟨y, vs, rfl, rd_tight hR v ha.1 hl.1 hv, argsL_tight hR hr hl.2 ha.2⟩
  | .int _, _, _, _, h, _, _ => by simp [getArgs] at h
  | .bool, _, _, _, h, _, _ => by simp [getArgs] at h
  | .str, _, _, _, h, _, _ => by simp [getArgs] at h
  | .sl _, _, _, _, h, _, _ => by simp [getArgs] at h
  | .arr _ _, _, _, _, h, _, _ => by simp [getArgs] at h
  | .opq, _, _, _, h, _, _ => by simp [getArgs] at h

theorem argsL_frz : ∀ {t : Ty} {l : List V} {x : t.den} {vs : List Value} (G : GE), HRel G → getArgs t (rdL G.hp l) = some x → AtL G tm l vs → ArgsAt (G.withHp (frzL G.hp l)).env t x vs
  | .unit, [], _, [], _, _, _, _ => rfl
  | .unit, [], _, _ :: _, _, _, _, h => by simp [AtL] at h
  | .unit, _ :: _, _, _, _, _, h, _ => by simp [rdL, getArgs] at h
  | .pair a b, [], _, _, _, _, h, _ => by simp [rdL, getArgs] at h
  | .pair a b, v :: l, x, [], _, _, _, h => by simp [AtL] at h
  | .pair a b, v :: l, x, y :: vs, G, hR, h, ha => by
    simp only [rdL] at h
    simp only [AtL] at ha
    obtain ⟨t1, k1⟩ := frz_tr v G hR
    obtain ⟨t2, k2⟩ := frzL_tr l _ k1
    cases hv : rd G.hp v <;> rw [hv] at h <;> simp only [getArgs, reduceCtorEq] at h
    split at h
    · cases h
    · rename_i z hz
      split at h
      · cases h
      · rename_i r hr
        obtain ⟨rfl, rfl⟩ := castD_some hz
        cases h
        refine ⟨y, vs, rfl, (rd_frz v G hR ha.1 hv).ext t2.keep.env, ?_⟩
        have := argsL_frz (G.withHp (frz G.hp v)) k1 (t := b) (l := l) (x := r) (vs := vs) (by rw [show (G.withHp (frz G.hp v)).hp = frz G.hp v from rfl, rdL_like (like_frz v G.hp)]; exact hr) (ha.2.ext t1.keep)
        exact this
  | .int _, _, _, _, _, _, h, _ => by simp [getArgs] at h
  | .bool, _, _, _, _, _, h, _ => by simp [getArgs] at h
  | .str, _, _, _, _, _, h, _ => by simp [getArgs] at h
  | .sl _, _, _, _, _, _, h, _ => by simp [getArgs] at h
  | .arr _ _, _, _, _, _, _, h, _ => by simp [getArgs] at h
  | .opq, _, _, _, _, _, h, _ => by simp [getArgs] at h

theorem spread_at : ∀ {t : Ty} {x : t.den} {vs : List Value}, ArgsAt G.env t x vs → AtL G tm (spread t x) vs
  | .unit, _, _, h => by simp only [ArgsAt] at h; subst h; simp [spread, AtL]
  | .pair a b, x, _, h => by
    obtain ⟨v, r, rfl, h1, h2⟩ := h
    simp only [spread, AtL]
    exact ⟨by simpa [AtV] using h1, spread_at h2⟩
  | .int _, _, _, h => h.elim
  | .bool, _, _, h => h.elim
  | .str, _, _, h => h.elim
  | .sl _, _, _, h => h.elim
  | .arr _ _, _, _, h => h.elim
  | .opq, _, _, h => h.elim

theorem ArgsAt.ext {E E' : Env} (h : Ext E E') : ∀ {t : Ty} {x : t.den} {vs : List Value}, ArgsAt E t x vs → ArgsAt E' t x vs
  | .unit, _, _, h' => h'
  | .pair _ _, _, _, ⟨v, r, e, h1, h2⟩ => ⟨v, r, e, h1.ext h, ArgsAt.ext h h2⟩
  | .int _, _, _, h => h
  | .bool, _, _, h => h
  | .str, _, _, h => h
  | .sl _, _, _, h => h
  | .arr _ _, _, _, h => h
  | .opq, _, _, h => h

theorem out_at {E : Env} (h : Ext E G.env) {F : Fn} {r : F.rs.den} {v : Value} (hv : OutAt E F r v) : AtV G tm (F.out r) v := by
  unfold OutAt at hv
  unfold Fn.out
  cases hm : F.multi with
  | false => rw [hm] at hv; simp only at hv ⊢; simp only [AtV]; exact hv.ext h
  | true =>
    rw [hm] at hv; simp only at hv ⊢
    obtain ⟨vs, e, h2⟩ := hv
    simp only [AtV]
    exact ⟨vs, e, spread_at (h2.ext h)⟩

/-- a call of a function that changes no block -/
theorem pure_call {a : Act} (hR : HRel G) {o : Oper} {f : Nat} {F : Fn} (hF : Callee P f F) {x : F.ps.den} {r : F.rs.den} (hr : F.run x = some r) {vals : Array Value} (ha : ArgsAt G.env F.ps x vals.toList)
    (hrun : (execOp a.eval o).run P G.w = (callFunc f vals).run P G.w) {Q : Exit → Act → World → Prop} : DoesW P G a o (F.out r) G.hp Q := by
  rcases hF with ⟨hcon, fn, n1, n2, n3⟩ | hext
  · have n2' : ¬ fn.name = "runtime.NumGoroutine" := by simpa using n2
    have n3' : ¬ fn.body = none := by intro e; rw [e] at n3; simp at n3
    have hcall := hcon G.w G.im x r vals (fun b m h => h.2.1) hr ha
    have h2 : (callFunc f vals).run P G.w = .ok (.enter f vals) G.w := by simp [callFunc, n1, n2', n3']
    unfold DoesW Oper.wp
    rw [hrun, h2]
    simp only [Oper.upon_enter]
    refine hcall.mono fun e w' ⟨v, he, hb, ho⟩ => ?_
    subst he
    obtain ⟨t1, t2⟩ := hR.grow hb
    refine ⟨v, G.β, G.σ, rfl, t1, t2, out_at (E := ⟨w', fun b m => G.im b m ∨ (G.w.heap.size ≤ b ∧ b < w'.heap.size)⟩) ⟨fun b m hi => ?_, fun _ _ _ _ _ => rfl⟩ ho⟩
    rcases hi with hi | ⟨h1, h2⟩
    · exact t1.keep.env.im b m hi
    · exact im_new hR h1 h2 m
  · obtain ⟨v, e1, e2⟩ := hext G.w G.im x r vals hr ha
    exact val_toW hR (hrun.trans e1) (out_at ⟨fun _ _ h => h, fun _ _ _ _ _ => rfl⟩ e2)

theorem FlatD.scalar {E E' : Env} : ∀ (t : Ty) (x : t.den) (cs : List Value), t.scalar = true → FlatD E t x cs → FlatD E' t x cs
  | .int _, _, _, _, h => h
  | .bool, _, _, _, h => h
  | .str, _, _, _, h => h
  | .arr n t, l, cs, hs, ⟨h1, css, h2, h3⟩ => ⟨h1, css, h2, h3.mono fun a b h => FlatD.scalar t a b hs h⟩
  | .unit, _, _, _, h => h
  | .pair a b, x, cs, hs, ⟨c1, c2, h1, h2, h3⟩ => by
    simp only [Ty.scalar, Bool.and_eq_true] at hs
    exact ⟨c1, c2, h1, FlatD.scalar a _ _ hs.1 h2, FlatD.scalar b _ _ hs.2 h3⟩
  | .sl _, _, _, hs, _ => by simp [Ty.scalar] at hs
  | .opq, _, _, hs, _ => by simp [Ty.scalar] at hs

theorem AtD.scalar {E E' : Env} {t : Ty} {x : t.den} {v : Value} (hs : t.scalar = true) (h : AtD E t x v) : AtD E' t x v := by
  unfold AtD at h ⊢
  split at h
  · rename_i ht; obtain ⟨cs, h1, h2⟩ := h; exact ⟨cs, h1, FlatD.scalar t _ _ hs h2⟩
  · exact FlatD.scalar t _ _ hs h

theorem ArgsAt.scalar {E E' : Env} : ∀ {t : Ty} {x : t.den} {vs : List Value}, t.scalar = true → ArgsAt E t x vs → ArgsAt E' t x vs
  | .unit, _, _, _, h => h
  | .pair a b, x, _, hs, ⟨v, r, h1, h2, h3⟩ => by
    simp only [Ty.scalar, Bool.and_eq_true] at hs
    exact ⟨v, r, h1, h2.scalar hs.1, ArgsAt.scalar hs.2 h3⟩
  | .int _, _, _, _, h => h.elim
  | .bool, _, _, _, h => h.elim
  | .str, _, _, _, h => h.elim
  | .arr _ _, _, _, _, h => h.elim
  | .sl _, _, _, _, h => h.elim
  | .opq, _, _, _, h => h.elim

theorem OutAt.scalar {E E' : Env} {F : Fn} {r : F.rs.den} {v : Value} (hs : F.rs.scalar = true) (h : OutAt E F r v) : OutAt E' F r v := by
  unfold OutAt at h ⊢
  split at h
  · exact h.scalar hs
  · obtain ⟨vs, h1, h2⟩ := h; exact ⟨vs, h1, h2.scalar hs⟩

/-- a call whose results lead nowhere: what it is handed need stand still no longer than it runs -/
theorem pure_call2 {a : Act} (hR : HRel G) {o : Oper} {f : Nat} {F : Fn} (hF : Callee P f F) {x : F.ps.den} {r : F.rs.den} (hr : F.run x = some r) {vals : Array Value} {hp1 : Heap} (ha : ArgsAt (G.withHp hp1).env F.ps x vals.toList) (hs : F.rs.scalar = true)
    (hrun : (execOp a.eval o).run P G.w = (callFunc f vals).run P G.w) {Q : Exit → Act → World → Prop} : DoesW P G a o (F.out r) G.hp Q := by
  rcases hF with ⟨hcon, fn, n1, n2, n3⟩ | hext
  · have n2' : ¬ fn.name = "runtime.NumGoroutine" := by simpa using n2
    have n3' : ¬ fn.body = none := by intro e; rw [e] at n3; simp at n3
    have hcall := hcon G.w (G.withHp hp1).im x r vals (fun b m h => h.2.1) hr ha
    have h2 : (callFunc f vals).run P G.w = .ok (.enter f vals) G.w := by simp [callFunc, n1, n2', n3']
    unfold DoesW Oper.wp
    rw [hrun, h2]
    simp only [Oper.upon_enter]
    refine hcall.mono fun e w' ⟨v, he, hb, ho⟩ => ?_
    subst he
    obtain ⟨t1, t2⟩ := hR.grow hb
    exact ⟨v, G.β, G.σ, rfl, t1, t2, out_at (E := GE.env ⟨w', G.β, G.σ, G.hp, G.n0, G.Bo, G.I0⟩) (Ext.refl _) (ho.scalar hs)⟩
  · obtain ⟨v, e1, e2⟩ := hext G.w (G.withHp hp1).im x r vals hr ha
    exact val_toW hR (hrun.trans e1) (out_at (E := G.env) (Ext.refl _) (e2.scalar hs))

theorem okR_nc {v : V} {F : Fn} {x : F.ps.den} {hp : Heap} {wr : List Nat} : okR v ≠ some (.call F x hp wr) := by simp [okR]
theorem ifR_nc {q : Prop} [Decidable q] {v : V} {F : Fn} {x : F.ps.den} {hp : Heap} {wr : List Nat} : ifR q v ≠ some (.call F x hp wr) := by simp [ifR]
theorem ifE_nc {q : Prop} [Decidable q] {v : V} {hp2 : Heap} {wr2 : List Nat} {F : Fn} {x : F.ps.den} {hp : Heap} {wr : List Nat} : ifE q v hp2 wr2 ≠ some (.call F x hp wr) := by simp [ifE]
theorem intBin_nc {op : BinOp} {k : IntKind} {p q : Int} {F : Fn} {x : F.ps.den} {hp : Heap} {wr : List Nat} : intBin op k p q ≠ some (.call F x hp wr) := by
  cases op <;> simp [intBin, okR, ifR]
theorem strBin_nc {op : BinOp} {p q : List Int} {F : Fn} {x : F.ps.den} {hp : Heap} {wr : List Nat} : strBin op p q ≠ some (.call F x hp wr) := by
  cases op <;> simp [strBin, okR, ifR]
theorem nilBin_nc {op : BinOp} {b : Bool} {F : Fn} {x : F.ps.den} {hp : Heap} {wr : List Nat} : nilBin op b ≠ some (.call F x hp wr) := by
  cases op <;> simp [nilBin, okR]
theorem binV_nc {op : BinOp} {xt : Nat} {u v : V} {F : Fn} {x : F.ps.den} {hp : Heap} {wr : List Nat} : binV C op xt u v ≠ some (.call F x hp wr) := by
  unfold binV
  repeat' split
  all_goals first | exact okR_nc | exact ifR_nc | exact intBin_nc | exact strBin_nc | exact nilBin_nc | (intro h; cases h; done)
theorem sliceL_nc {e : Operand → V} {τ : Ty} {l : List τ.den} {lo hi mx : Option Operand} {F : Fn} {x : F.ps.den} {hp : Heap} {wr : List Nat} : sliceL e τ l lo hi mx ≠ some (.call F x hp wr) := by
  unfold sliceL
  repeat' split
  all_goals first | exact ifR_nc | (intro h; cases h; done)

theorem valR_call {a : Act} (hC : CtxOk P C) (hR : HRel G) (hL : Look G a.tmps fr a.eval) {g : Option Gd} (hg : Yes g a.tmps) (o : Oper) {F : Fn} {x : F.ps.den} {hp : Heap} {wr : List Nat} (hv : valR C g fr G.hp o.op = some (.call F x hp wr)) {r : F.rs.den} (hr : F.run x = some r) {Q : Exit → Act → World → Prop} :
    DoesW P G a o (F.out r) G.hp Q := by
  obtain ⟨dst, op, type, pos, after, guard⟩ := o
  cases op <;> simp only [valR] at hv
  case call c =>
    split at hv
    · split at hv <;> (try split at hv) <;> exact absurd hv (by first | exact okR_nc | (intro h; cases h; done))
    · split at hv <;> (try split at hv) <;> exact absurd hv (by first | exact okR_nc | (intro h; cases h; done))
    · split at hv <;> (try split at hv) <;> exact absurd hv (by first | exact okR_nc | (intro h; cases h; done))
    · cases hv
    · split at hv
      · rename_i f args htg
        split at hv
        · rename_i F' hF
          split at hv
          · cases hv
          · rename_i hl
            split at hv
            · rename_i y hy
              simp only [Option.some.injEq, Out.call.injEq] at hv
              obtain ⟨rfl, hv, rfl, rfl⟩ := hv
              have hv := eq_of_heq hv
              subst hv
              obtain ⟨vals, h1, h2⟩ := target_run hC (fun x => hL.un hg x) htg
              simp only [Bool.and_eq_true, Bool.not_eq_true', not_and, Bool.not_eq_false] at hl
              cases hlo : looseL G.hp args with
              | false => exact pure_call hR (hC.fn _ _ hF) hr (argsL_tight hR hy hlo h1) (h2 dst type pos after guard)
              | true => exact pure_call2 hR (hC.fn _ _ hF) hr (argsL_frz G hR hy h1) (hl hlo) (h2 dst type pos after guard)
            · cases hv
        · cases hv
      · cases hv
  case binOp op xt x y yt => exact absurd hv binV_nc
  case unOp op _ _ =>
    unfold unV at hv
    split at hv
    · exact absurd hv okR_nc
    · exact absurd hv okR_nc
    · exact absurd hv okR_nc
    · cases hv
  all_goals (exfalso; revert hv)
  all_goals (repeat' split)
  all_goals first | exact okR_nc | exact ifR_nc | exact sliceL_nc | (intro h; cases h; done)

theorem effR_call {a : Act} (hC : CtxOk P C) (hR : HRel G) (hL : Look G a.tmps fr a.eval) {g : Option Gd} (hg : Yes g a.tmps) (o : Oper) {F : Fn} {x : F.ps.den} {hp : Heap} {wr : List Nat} (hv : effR C g fr G.hp o.dst o.op = some (.call F x hp wr)) {r : F.rs.den} (hr : F.run x = some r) {Q : Exit → Act → World → Prop} :
    DoesW P G a o (F.out r) hp Q := by
  obtain ⟨dst, op, type, pos, after, guard⟩ := o
  cases op <;> simp only [effR, reduceCtorEq] at hv
  case call c =>
    split at hv
    · split at hv
      · split at hv
        · split at hv
          · exfalso; revert hv; unfold appendE; repeat' split
            all_goals first | exact ifE_nc | (intro h; cases h; done)
          · cases hv
        · cases hv
      · cases hv
    · split at hv
      · split at hv
        · exfalso; revert hv; unfold copyE; repeat' split
          all_goals first | exact ifE_nc | (intro h; cases h; done)
        · cases hv
      · cases hv
    · cases hv
    · split at hv
      · rename_i f args htg
        split at hv
        · rename_i F' hF
          split at hv
          · rename_i y hy
            simp only [Option.some.injEq, Out.call.injEq] at hv
            obtain ⟨rfl, hv, rfl, rfl⟩ := hv
            have hv := eq_of_heq hv
            subst hv
            obtain ⟨vals, h1, h2⟩ := target_run hC (fun x => hL.un hg x) htg
            obtain ⟨t0, k0⟩ := frzL_tr args G hR
            have := pure_call (a := a) k0 (hC.fn _ _ hF) hr (argsL_frz G hR hy h1) (h2 dst type pos after guard) (Q := Q)
            unfold DoesW at this ⊢
            refine Oper.wp_mono (fun a' w' hK => ?_) this
            obtain ⟨x, β', σ', e1, e2, e3, e4⟩ := hK
            exact ⟨x, β', σ', e1, t0.trans e2, e3, e4⟩
          · cases hv
        · split at hv
          · simp only [shCall] at hv
            split at hv <;> simp at hv
          · cases hv
      · cases hv
  all_goals (exfalso; revert hv)
  all_goals (repeat' split)
  all_goals first | exact ifE_nc | (intro h; cases h; done)

end
end Go.Bx
