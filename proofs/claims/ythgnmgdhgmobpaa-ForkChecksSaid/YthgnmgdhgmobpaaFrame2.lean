/- A part of a framework that reads Go code as functions of plain data. -/
import Derived.Test.YthgnmgdhgmobpaaFrame1
import Derived.Orders
import Derived.Scope
namespace Go.Bx
set_option linter.unusedVariables false
set_option linter.unusedSimpArgs false
open Go Go.RowKit

section
variable {P : Program} {C : Ctx} {G : GE} {fr : List V} {ρ : Operand → Value} {tm : Array Value}

/-- what an operation comes to, calls and all -/
def DoesW (P : Program) (G : GE) (a : Act) (o : Oper) (v : V) (hp' : Heap) (Q : Exit → Act → World → Prop) : Prop :=
  o.wp P a G.w (fun a' w' => ∃ x β' σ', a' = a.put o.dst x ∧ Tr G ⟨w', β', σ', hp', G.n0, G.Bo, G.I0⟩ ∧ HRel ⟨w', β', σ', hp', G.n0, G.Bo, G.I0⟩ ∧ AtV ⟨w', β', σ', hp', G.n0, G.Bo, G.I0⟩ a.tmps v x) Q

theorem Does.toW {a : Act} {o : Oper} {v : V} {hp' : Heap} {Q : Exit → Act → World → Prop} (h : Does P G a.tmps (execOp a.eval o) v hp') : DoesW P G a o v hp' Q := by
  obtain ⟨r, x, w', β', σ', h1, h2, h3, h4, h5⟩ := h
  unfold DoesW Oper.wp
  rw [h1]
  rcases h2 with rfl | ⟨rfl, rfl⟩
  · rw [Oper.upon_value]; exact ⟨x, β', σ', rfl, h3, h4, h5⟩
  · rw [Oper.upon_skip]; exact ⟨undef, β', σ', rfl, h3, h4, h5⟩

theorem val_toW {a : Act} {o : Oper} {v : V} {Q : Exit → Act → World → Prop} (hR : HRel G) {x : Value} (h : (execOp a.eval o).run P G.w = .ok (.value x) G.w) (hv : AtV G a.tmps v x) : DoesW P G a o v G.hp Q :=
  Does.toW ⟨.value x, x, G.w, G.β, G.σ, h, .inl rfl, Tr.refl G, hR, hv⟩

theorem AtL.append : ∀ {l : List V} {m : List Value} {l' : List V} {m' : List Value}, AtL G tm l m → AtL G tm l' m' → AtL G tm (l ++ l') (m ++ m')
  | [], [], _, _, _, h => h
  | v :: l, x :: m, _, _, h, h' => by simp only [List.cons_append, AtL] at h ⊢; exact ⟨h.1, AtL.append h.2 h'⟩
  | [], _ :: _, _, _, h, _ => by simp [AtL] at h
  | _ :: _, [], _, _, h, _ => by simp [AtL] at h

theorem AtL.sane : ∀ {l : List V} {m : List Value} {tm' : Array Value}, AtL G tm' l m → AtL G tm (l.map Bx.sane) m
  | [], [], _, _ => by simp [AtL]
  | v :: l, x :: m, _, h => by simp only [List.map_cons, AtL] at h ⊢; exact ⟨h.1.sane, AtL.sane h.2⟩
  | [], _ :: _, _, h => by simp [AtL] at h
  | _ :: _, [], _, h => by simp [AtL] at h

/-- what is called, as the machine finds it -/
theorem target_run (hC : CtxOk P C) {e : Operand → V} (he : ∀ x, AtV G tm (e x) (ρ x)) {c : Call} {f : Nat} {args : List V} (h : target C e c = some (f, args)) :
    ∃ vals : Array Value, AtL G tm args vals.toList ∧ ∀ (dst : Option Tmp) (type : TypeId) (pos : String) (after : Array Edge) (guard : Option (Nat × Bool)), (execOp ρ { dst, op := .call c, type, pos, after, guard }).run P G.w = (callFunc f vals).run P G.w := by
  unfold target at h
  split at h
  · rename_i fo hcal
    split at h
    · rename_i f' fst cap heq
      cases h
      have hf := he fo
      rw [heq] at hf
      simp only [AtV] at hf
      obtain ⟨xs, ys, h1, h2, h3⟩ := hf
      refine ⟨xs ++ c.args.map ρ ++ ys, ?_, fun dst type pos after guard => by simp [execOp, resolve, hcal, h1, Deferred.ofValue, invoke]⟩
      simp only [callArgs, List.nil_append, Array.toList_append, Array.toList_map]
      exact AtL.append (AtL.append h2.sane (renL_at_map he _)) h3.sane
    · cases h
  · rename_i r m hcal
    split at h
    · rename_i t v heq
      split at h
      · rename_i f' hf
        cases h
        have hr := he r
        rw [heq] at hr
        simp only [AtV] at hr
        obtain ⟨x, h1, h2⟩ := hr
        refine ⟨#[x] ++ c.args.map ρ, ?_, fun dst type pos after guard => ?_⟩
        · simp only [callArgs, List.map_nil, List.append_nil, Array.toList_append, Array.toList_map]
          exact AtL.append (by simp only [AtL]; exact ⟨h2.sane, trivial⟩) (renL_at_map he _)
        · have := hC.inv _ _ _ hf G.w x (c.args.map ρ)
          have e0 : (#[Value.iface t x] ++ c.args.map ρ)[0]? = some (Value.iface t x) := by
            rw [Array.getElem?_append_left (by simp)]; rfl
          simp only [execOp, resolve, hcal, Sem.run_bind, Sem.run_pure, Result.andThen_ok, invoke, h1, e0]
          rw [← this]
          simp
          rw [show (c.args.map ρ).extract 0 c.args.size = c.args.map ρ by
            have : c.args.size = (c.args.map ρ).size := by simp
            rw [this]; exact Array.extract_size]
      · cases h
    · cases h
  · cases h

theorem argsL_tight (hR : HRel G) : ∀ {t : Ty} {l : List V} {x : t.den} {vs : List Value}, getArgs t (rdL G.hp l) = some x → looseL G.hp l = false → AtL G tm l vs → ArgsAt G.env t x vs
  | .unit, [], _, [], _, _, _ => rfl
  | .unit, [], _, _ :: _, _, _, h => by simp [AtL] at h
  | .unit, _ :: _, _, _, h, _, _ => by simp [rdL, getArgs] at h
  | .pair a b, [], _, _, h, _, _ => by simp [rdL, getArgs] at h
  | .pair a b, v :: l, x, [], _, _, h => by simp [AtL] at h
  | .pair a b, v :: l, x, y :: vs, h, hl, ha => by
    simp only [rdL] at h
    simp only [looseL, Bool.or_eq_false_iff] at hl
    simp only [AtL] at ha
    cases hv : rd G.hp v <;> rw [hv] at h <;> simp only [getArgs, reduceCtorEq] at h
    split at h
    · cases h
    · rename_i z hz
      split at h
      · cases h
      · rename_i r hr
        obtain ⟨rfl, rfl⟩ := castD_some hz
        cases h
        exact ⟨y, vs, rfl, rd_tight hR v ha.1 hl.1 hv, argsL_tight hR hr hl.2 ha.2⟩
  | .int _, _, _, _, h, _, _ => by simp [getArgs] at h
  | .bool, _, _, _, h, _, _ => by simp [getArgs] at h
  | .str, _, _, _, h, _, _ => by simp [getArgs] at h
  | .sl _, _, _, _, h, _, _ => by simp [getArgs] at h
  | .arr _ _, _, _, _, h, _, _ => by simp [getArgs] at h
  | .opq, _, _, _, h, _, _ => by simp [getArgs] at h

theorem argsL_frz : ∀ {t : Ty} {l : List V} {x : t.den} {vs : List Value} (G : GE), HRel G → getArgs t (rdL G.hp l) = some x → AtL G tm l vs → ArgsAt (G.withHp (frzL G.hp l)).env t x vs
  | .unit, [], _, [], _, _, _, _ => rfl
  | .unit, [], _, _ :: _, _, _, _, h => by simp [AtL] at h
  | .unit, _ :: _, _, _, _, _, h, _ => by simp [rdL, getArgs] at h
  | .pair a b, [], _, _, _, _, h, _ => by simp [rdL, getArgs] at h
  | .pair a b, v :: l, x, [], _, _, _, h => by simp [AtL] at h
  | .pair a b, v :: l, x, y :: vs, G, hR, h, ha => by
    simp only [rdL] at h
    simp only [AtL] at ha
    obtain ⟨t1, k1⟩ := frz_tr v G hR
    obtain ⟨t2, k2⟩ := frzL_tr l _ k1
    cases hv : rd G.hp v <;> rw [hv] at h <;> simp only [getArgs, reduceCtorEq] at h
    split at h
    · cases h
    · rename_i z hz
      split at h
      · cases h
      · rename_i r hr
        obtain ⟨rfl, rfl⟩ := castD_some hz
        cases h
        refine ⟨y, vs, rfl, (rd_frz v G hR ha.1 hv).ext t2.keep.env, ?_⟩
        have := argsL_frz (G.withHp (frz G.hp v)) k1 (t := b) (l := l) (x := r) (vs := vs) (by rw [show (G.withHp (frz G.hp v)).hp = frz G.hp v from rfl, rdL_like (like_frz v G.hp)]; exact hr) (ha.2.ext t1.keep)
        exact this
  | .int _, _, _, _, _, _, h, _ => by simp [getArgs] at h
  | .bool, _, _, _, _, _, h, _ => by simp [getArgs] at h
  | .str, _, _, _, _, _, h, _ => by simp [getArgs] at h
  | .sl _, _, _, _, _, _, h, _ => by simp [getArgs] at h
  | .arr _ _, _, _, _, _, _, h, _ => by simp [getArgs] at h
  | .opq, _, _, _, _, _, h, _ => by simp [getArgs] at h

theorem spread_at : ∀ {t : Ty} {x : t.den} {vs : List Value}, ArgsAt G.env t x vs → AtL G tm (spread t x) vs
  | .unit, _, _, h => by simp only [ArgsAt] at h; subst h; simp [spread, AtL]
  | .pair a b, x, _, h => by
    obtain ⟨v, r, rfl, h1, h2⟩ := h
    simp only [spread, AtL]
    exact ⟨by simpa [AtV] using h1, spread_at h2⟩
  | .int _, _, _, h => h.elim
  | .bool, _, _, h => h.elim
  | .str, _, _, h => h.elim
  | .sl _, _, _, h => h.elim
  | .arr _ _, _, _, h => h.elim
  | .opq, _, _, h => h.elim

theorem ArgsAt.ext {E E' : Env} (h : Ext E E') : ∀ {t : Ty} {x : t.den} {vs : List Value}, ArgsAt E t x vs → ArgsAt E' t x vs
  | .unit, _, _, h' => h'
  | .pair _ _, _, _, ⟨v, r, e, h1, h2⟩ => ⟨v, r, e, h1.ext h, ArgsAt.ext h h2⟩
  | .int _, _, _, h => h
  | .bool, _, _, h => h
  | .str, _, _, h => h
  | .sl _, _, _, h => h
  | .arr _ _, _, _, h => h
  | .opq, _, _, h => h

theorem out_at {E : Env} (h : Ext E G.env) {F : Fn} {r : F.rs.den} {v : Value} (hv : OutAt E F r v) : AtV G tm (F.out r) v := by
  unfold OutAt at hv
  unfold Fn.out
  cases hm : F.multi with
  | false => rw [hm] at hv; simp only at hv ⊢; simp only [AtV]; exact hv.ext h
  | true =>
    rw [hm] at hv; simp only at hv ⊢
    obtain ⟨vs, e, h2⟩ := hv
    simp only [AtV]
    exact ⟨vs, e, spread_at (h2.ext h)⟩

/-- a call of a function that changes no block -/
theorem pure_call {a : Act} (hR : HRel G) {o : Oper} {f : Nat} {F : Fn} (hF : Callee P f F) {x : F.ps.den} {r : F.rs.den} (hr : F.run x = some r) {vals : Array Value} (ha : ArgsAt G.env F.ps x vals.toList)
    (hrun : (execOp a.eval o).run P G.w = (callFunc f vals).run P G.w) {Q : Exit → Act → World → Prop} : DoesW P G a o (F.out r) G.hp Q := by
  rcases hF with ⟨hcon, fn, n1, n2, n3⟩ | hext
  · have n2' : ¬ fn.name = "runtime.NumGoroutine" := by simpa using n2
    have n3' : ¬ fn.body = none := by intro e; rw [e] at n3; simp at n3
    have hcall := hcon G.w G.im x r vals (fun b m h => h.2.1) hr ha
    have h2 : (callFunc f vals).run P G.w = .ok (.enter f vals) G.w := by simp [callFunc, n1, n2', n3']
    unfold DoesW Oper.wp
    rw [hrun, h2]
    simp only [Oper.upon_enter]
    refine hcall.mono fun e w' ⟨v, he, hb, ho⟩ => ?_
    subst he
    obtain ⟨t1, t2⟩ := hR.grow hb
    refine ⟨v, G.β, G.σ, rfl, t1, t2, out_at (E := ⟨w', fun b m => G.im b m ∨ (G.w.heap.size ≤ b ∧ b < w'.heap.size)⟩) ⟨fun b m hi => ?_, fun _ _ _ _ _ => rfl⟩ ho⟩
    rcases hi with hi | ⟨h1, h2⟩
    · exact t1.keep.env.im b m hi
    · exact im_new hR h1 h2 m
  · obtain ⟨v, e1, e2⟩ := hext G.w G.im x r vals hr ha
    exact val_toW hR (hrun.trans e1) (out_at ⟨fun _ _ h => h, fun _ _ _ _ _ => rfl⟩ e2)

theorem FlatD.scalar {E E' : Env} : ∀ (t : Ty) (x : t.den) (cs : List Value), t.scalar = true → FlatD E t x cs → FlatD E' t x cs
  | .int _, _, _, _, h => h
  | .bool, _, _, _, h => h
  | .str, _, _, _, h => h
  | .arr n t, l, cs, hs, ⟨h1, css, h2, h3⟩ => ⟨h1, css, h2, h3.mono fun a b h => FlatD.scalar t a b hs h⟩
  | .unit, _, _, _, h => h
  | .pair a b, x, cs, hs, ⟨c1, c2, h1, h2, h3⟩ => by
    simp only [Ty.scalar, Bool.and_eq_true] at hs
    exact ⟨c1, c2, h1, FlatD.scalar a _ _ hs.1 h2, FlatD.scalar b _ _ hs.2 h3⟩
  | .sl _, _, _, hs, _ => by simp [Ty.scalar] at hs
  | .opq, _, _, hs, _ => by simp [Ty.scalar] at hs

theorem AtD.scalar {E E' : Env} {t : Ty} {x : t.den} {v : Value} (hs : t.scalar = true) (h : AtD E t x v) : AtD E' t x v := by
  unfold AtD at h ⊢
  split at h
  · rename_i ht; obtain ⟨cs, h1, h2⟩ := h; exact ⟨cs, h1, FlatD.scalar t _ _ hs h2⟩
  · exact FlatD.scalar t _ _ hs h

theorem ArgsAt.scalar {E E' : Env} : ∀ {t : Ty} {x : t.den} {vs : List Value}, t.scalar = true → ArgsAt E t x vs → ArgsAt E' t x vs
  | .unit, _, _, _, h => h
  | .pair a b, x, _, hs, ⟨v, r, h1, h2, h3⟩ => by
    simp only [Ty.scalar, Bool.and_eq_true] at hs
    exact ⟨v, r, h1, h2.scalar hs.1, ArgsAt.scalar hs.2 h3⟩
  | .int _, _, _, _, h => h.elim
  | .bool, _, _, _, h => h.elim
  | .str, _, _, _, h => h.elim
  | .arr _ _, _, _, _, h => h.elim
  | .sl _, _, _, _, h => h.elim
  | .opq, _, _, _, h => h.elim

theorem OutAt.scalar {E E' : Env} {F : Fn} {r : F.rs.den} {v : Value} (hs : F.rs.scalar = true) (h : OutAt E F r v) : OutAt E' F r v := by
  unfold OutAt at h ⊢
  split at h
  · exact h.scalar hs
  · obtain ⟨vs, h1, h2⟩ := h; exact ⟨vs, h1, h2.scalar hs⟩

/-- a call whose results lead nowhere: what it is handed need stand still no longer than it runs -/
theorem pure_call2 {a : Act} (hR : HRel G) {o : Oper} {f : Nat} {F : Fn} (hF : Callee P f F) {x : F.ps.den} {r : F.rs.den} (hr : F.run x = some r) {vals : Array Value} {hp1 : Heap} (ha : ArgsAt (G.withHp hp1).env F.ps x vals.toList) (hs : F.rs.scalar = true)
    (hrun : (execOp a.eval o).run P G.w = (callFunc f vals).run P G.w) {Q : Exit → Act → World → Prop} : DoesW P G a o (F.out r) G.hp Q := by
  rcases hF with ⟨hcon, fn, n1, n2, n3⟩ | hext
  · have n2' : ¬ fn.name = "runtime.NumGoroutine" := by simpa using n2
    have n3' : ¬ fn.body = none := by intro e; rw [e] at n3; simp at n3
    have hcall := hcon G.w (G.withHp hp1).im x r vals (fun b m h => h.2.1) hr ha
    have h2 : (callFunc f vals).run P G.w = .ok (.enter f vals) G.w := by simp [callFunc, n1, n2', n3']
    unfold DoesW Oper.wp
    rw [hrun, h2]
    simp only [Oper.upon_enter]
    refine hcall.mono fun e w' ⟨v, he, hb, ho⟩ => ?_
    subst he
    obtain ⟨t1, t2⟩ := hR.grow hb
    exact ⟨v, G.β, G.σ, rfl, t1, t2, out_at (E := GE.env ⟨w', G.β, G.σ, G.hp, G.n0, G.Bo, G.I0⟩) (Ext.refl _) (ho.scalar hs)⟩
  · obtain ⟨v, e1, e2⟩ := hext G.w (G.withHp hp1).im x r vals hr ha
    exact val_toW hR (hrun.trans e1) (out_at (E := G.env) (Ext.refl _) (e2.scalar hs))

theorem okR_nc {v : V} {F : Fn} {x : F.ps.den} {hp : Heap} {wr : List Nat} : okR v ≠ some (.call F x hp wr) := by simp [okR]
theorem ifR_nc {q : Prop} [Decidable q] {v : V} {F : Fn} {x : F.ps.den} {hp : Heap} {wr : List Nat} : ifR q v ≠ some (.call F x hp wr) := by simp [ifR]
theorem ifE_nc {q : Prop} [Decidable q] {v : V} {hp2 : Heap} {wr2 : List Nat} {F : Fn} {x : F.ps.den} {hp : Heap} {wr : List Nat} : ifE q v hp2 wr2 ≠ some (.call F x hp wr) := by simp [ifE]
theorem intBin_nc {op : BinOp} {k : IntKind} {p q : Int} {F : Fn} {x : F.ps.den} {hp : Heap} {wr : List Nat} : intBin op k p q ≠ some (.call F x hp wr) := by
  cases op <;> simp [intBin, okR, ifR]
theorem strBin_nc {op : BinOp} {p q : List Int} {F : Fn} {x : F.ps.den} {hp : Heap} {wr : List Nat} : strBin op p q ≠ some (.call F x hp wr) := by
  cases op <;> simp [strBin, okR, ifR]
theorem nilBin_nc {op : BinOp} {b : Bool} {F : Fn} {x : F.ps.den} {hp : Heap} {wr : List Nat} : nilBin op b ≠ some (.call F x hp wr) := by
  cases op <;> simp [nilBin, okR]
theorem binV_nc {op : BinOp} {xt : Nat} {u v : V} {F : Fn} {x : F.ps.den} {hp : Heap} {wr : List Nat} : binV C op xt u v ≠ some (.call F x hp wr) := by
  unfold binV
  repeat' split
  all_goals first | exact okR_nc | exact ifR_nc | exact intBin_nc | exact strBin_nc | exact nilBin_nc | (intro h; cases h; done)
theorem sliceL_nc {e : Operand → V} {τ : Ty} {l : List τ.den} {lo hi mx : Option Operand} {F : Fn} {x : F.ps.den} {hp : Heap} {wr : List Nat} : sliceL e τ l lo hi mx ≠ some (.call F x hp wr) := by
  unfold sliceL
  repeat' split
  all_goals first | exact ifR_nc | (intro h; cases h; done)

theorem valR_call {a : Act} (hC : CtxOk P C) (hR : HRel G) (hL : Look G a.tmps fr a.eval) {g : Option Gd} (hg : Yes g a.tmps) (o : Oper) {F : Fn} {x : F.ps.den} {hp : Heap} {wr : List Nat} (hv : valR C g fr G.hp o.op = some (.call F x hp wr)) {r : F.rs.den} (hr : F.run x = some r) {Q : Exit → Act → World → Prop} :
    DoesW P G a o (F.out r) G.hp Q := by
  obtain ⟨dst, op, type, pos, after, guard⟩ := o
  cases op <;> simp only [valR] at hv
  case call c =>
    split at hv
    · split at hv <;> (try split at hv) <;> exact absurd hv (by first | exact okR_nc | (intro h; cases h; done))
    · split at hv <;> (try split at hv) <;> exact absurd hv (by first | exact okR_nc | (intro h; cases h; done))
    · split at hv <;> (try split at hv) <;> exact absurd hv (by first | exact okR_nc | (intro h; cases h; done))
    · cases hv
    · split at hv
      · rename_i f args htg
        split at hv
        · rename_i F' hF
          split at hv
          · cases hv
          · rename_i hl
            split at hv
            · rename_i y hy
              simp only [Option.some.injEq, Out.call.injEq] at hv
              obtain ⟨rfl, hv, rfl, rfl⟩ := hv
              have hv := eq_of_heq hv
              subst hv
              obtain ⟨vals, h1, h2⟩ := target_run hC (fun x => hL.un hg x) htg
              simp only [Bool.and_eq_true, Bool.not_eq_true', not_and, Bool.not_eq_false] at hl
              cases hlo : looseL G.hp args with
              | false => exact pure_call hR (hC.fn _ _ hF) hr (argsL_tight hR hy hlo h1) (h2 dst type pos after guard)
              | true => exact pure_call2 hR (hC.fn _ _ hF) hr (argsL_frz G hR hy h1) (hl hlo) (h2 dst type pos after guard)
            · cases hv
        · cases hv
      · cases hv
  case binOp op xt x y yt => exact absurd hv binV_nc
  case unOp op _ _ =>
    unfold unV at hv
    split at hv
    · exact absurd hv okR_nc
    · exact absurd hv okR_nc
    · exact absurd hv okR_nc
    · cases hv
  all_goals (exfalso; revert hv)
  all_goals (repeat' split)
  all_goals first | exact okR_nc | exact ifR_nc | exact sliceL_nc | (intro h; cases h; done)

theorem effR_call {a : Act} (hC : CtxOk P C) (hR : HRel G) (hL : Look G a.tmps fr a.eval) {g : Option Gd} (hg : Yes g a.tmps) (o : Oper) {F : Fn} {x : F.ps.den} {hp : Heap} {wr : List Nat} (hv : effR C g fr G.hp o.dst o.op = some (.call F x hp wr)) {r : F.rs.den} (hr : F.run x = some r) {Q : Exit → Act → World → Prop} :
    DoesW P G a o (F.out r) hp Q := by
  obtain ⟨dst, op, type, pos, after, guard⟩ := o
  cases op <;> simp only [effR, reduceCtorEq] at hv
  case call c =>
    split at hv
    · split at hv
      · split at hv
        · split at hv
          · exfalso; revert hv; unfold appendE; repeat' split
            all_goals first | exact ifE_nc | (intro h; cases h; done)
          · cases hv
        · cases hv
      · cases hv
    · split at hv
      · split at hv
        · exfalso; revert hv; unfold copyE; repeat' split
          all_goals first | exact ifE_nc | (intro h; cases h; done)
        · cases hv
      · cases hv
    · cases hv
    · split at hv
      · rename_i f args htg
        split at hv
        · rename_i F' hF
          split at hv
          · rename_i y hy
            simp only [Option.some.injEq, Out.call.injEq] at hv
            obtain ⟨rfl, hv, rfl, rfl⟩ := hv
            have hv := eq_of_heq hv
            subst hv
            obtain ⟨vals, h1, h2⟩ := target_run hC (fun x => hL.un hg x) htg
            obtain ⟨t0, k0⟩ := frzL_tr args G hR
            have := pure_call (a := a) k0 (hC.fn _ _ hF) hr (argsL_frz G hR hy h1) (h2 dst type pos after guard) (Q := Q)
            unfold DoesW at this ⊢
            refine Oper.wp_mono (fun a' w' hK => ?_) this
            obtain ⟨x, β', σ', e1, e2, e3, e4⟩ := hK
            exact ⟨x, β', σ', e1, t0.trans e2, e3, e4⟩
          · cases hv
        · split at hv
          · simp only [shCall] at hv
            split at hv <;> simp at hv
          · cases hv
      · cases hv
  all_goals (exfalso; revert hv)
  all_goals (repeat' split)
  all_goals first | exact ifE_nc | (intro h; cases h; done)

end
end Go.Bx
namespace Go.Bx
set_option linter.unusedVariables false
set_option linter.unusedSimpArgs false
open Go Go.RowKit

section
variable {P : Program} {C : Ctx} {G : GE} {fr : List V} {ρ : Operand → Value} {tm : Array Value}

theorem BlkOk.keep {G G2 : GE} (hK : Keep G G2) {i : Nat} {blk : Blk} (h : BlkOk G i blk) (hβ : G2.β i = G.β i) (hσ : G2.σ i = G.σ i) (hw : ∀ b, G.β i = some b → b < G.w.heap.size → G2.w.heap[b]? = G.w.heap[b]?) : BlkOk G2 i blk := by
  cases blk with
  | cell t v z =>
    obtain ⟨b, arr, ty, g1, g2, g3⟩ := h
    exact ⟨b, arr, ty, hβ.trans g1, (hw b g1 (Array.getElem?_eq_some_iff.1 g2).1).trans g2, g3.ext hK⟩
  | buf t l ver z =>
    rcases h with ⟨b, arr, ty, css, cap, rest, g1, g2, g3, g4, g5, g6, g7, g8⟩ | ⟨g1, g2, g3, g4⟩
    · exact .inl ⟨b, arr, ty, css, cap, rest, hβ.trans g1, hσ.trans g2, (hw b g1 (Array.getElem?_eq_some_iff.1 g3).1).trans g3, g4.mono fun _ _ h => h.ext hK.env, g5, g6, g7, g8⟩
    · exact .inr ⟨hβ.trans g1, g2, by rw [hσ]; exact g3.ext hK.env, by rw [hσ]; exact g4⟩
  | map k v l =>
    obtain ⟨b, es, clock, g1, g2, g3, g4⟩ := h
    exact ⟨b, es, clock, hβ.trans g1, (hw b g1 (Array.getElem?_eq_some_iff.1 g2).1).trans g2, g3.mono fun _ _ h => ⟨h.1.ext hK.env, h.2.ext hK.env⟩, g4⟩

/-- what a callee sees of its caller's blocks: its number k is the caller's e k -/
structure Win (G G1 : GE) (e : Nat → Nat) : Prop where
  w : G1.w = G.w
  n0 : G1.n0 = G.w.heap.size
  Bo : ∀ b, G1.Bo b ↔ G1.named b
  I0 : ∀ b m, G1.I0 b m ↔ G.im b m
  ids : ∀ k blk, nthB G1.hp k = some blk → ∃ blk0, nthB G.hp (e k) = some blk0 ∧ G.β (e k) = G1.β k ∧ ∀ m, blk.im m ↔ blk0.im m

theorem Win.named {G1 : GE} {e : Nat → Nat} (h : Win G G1 e) {b : Nat} (hn : G1.named b) : ∃ k blk blk0, nthB G1.hp k = some blk ∧ G1.β k = some b ∧ nthB G.hp (e k) = some blk0 ∧ G.β (e k) = some b ∧ ∀ m, blk.im m ↔ blk0.im m := by
  obtain ⟨k, blk, h1, h2⟩ := hn
  obtain ⟨blk0, g1, g2, g3⟩ := h.ids k blk h1
  exact ⟨k, blk, blk0, h1, h2, g1, g2.trans h2, g3⟩

theorem Win.out {G1 : GE} {e : Nat → Nat} (hR : HRel G) (h : Win G G1 e) : Ext G1.env G.env := by
  refine ⟨fun b m ⟨h1, h2, h3⟩ => ?_, fun b m _ j _ => by show G.w.cell? _ = G1.w.cell? _; rw [h.w]⟩
  rcases h1 with h1 | h1 | h1
  · exact (h.I0 b m).1 h1
  · rw [h.w] at h2; rw [h.n0] at h1; omega
  · obtain ⟨k, blk, blk0, k1, k2, k3, k4, k5⟩ := h.named ((h.Bo b).1 h1)
    exact im_own hR k3 k4 (hR.lt k3 k4) ((k5 m).1 (h3 k blk k1 k2))

theorem Win.inn {G1 : GE} {e : Nat → Nat} (h : Win G G1 e) : Ext G.env G1.env := by
  refine ⟨fun b m hi => ⟨.inl ((h.I0 b m).2 hi), by rw [h.w]; exact hi.2.1, fun k blk k1 k2 => ?_⟩, fun b m _ j _ => by show G1.w.cell? _ = G.w.cell? _; rw [h.w]⟩
  obtain ⟨blk0, g1, g2, g3⟩ := h.ids k blk k1
  exact (g3 m).2 (hi.2.2 _ blk0 g1 (g2.trans k2))

/-- what a callee has done, told by the caller's names -/
structure Back (G G1 G2 G' : GE) (e : Nat → Nat) : Prop where
  w : G'.w = G2.w
  n0 : G'.n0 = G.n0
  Bo : G'.Bo = G.Bo
  I0 : G'.I0 = G.I0
  n0' : G2.n0 = G1.n0
  Bo' : G2.Bo = G1.Bo
  I0' : G2.I0 = G1.I0
  blk : ∀ i blk', nthB G'.hp i = some blk' → (∃ k blk1, e k = i ∧ nthB G2.hp k = some blk1 ∧ G'.β i = G2.β k ∧ G'.σ i = G2.σ k ∧ (∀ m, blk1.im m ↔ blk'.im m) ∧ (Ext G2.env G'.env → BlkOk G2 k blk1 → BlkOk G' i blk')) ∨
    (nthB G.hp i = some blk' ∧ G'.β i = G.β i ∧ G'.σ i = G.σ i ∧ ∀ k blk, nthB G1.hp k = some blk → e k ≠ i)
  old : ∀ i blk, nthB G.hp i = some blk → ∃ blk', nthB G'.hp i = some blk' ∧ ∀ v, SameB G G' i i v v blk blk'

theorem lift {G1 G2 G' : GE} {e : Nat → Nat} (hR : HRel G) (hW : Win G G1 e) (h1 : HRel G2) (t1 : Tr G1 G2) (hB : Back G G1 G2 G' e) : Ext G2.env G'.env ∧ Tr G G' ∧ HRel G' := by
  have hsz : G.w.heap.size ≤ G2.w.heap.size := by rw [← hW.w]; exact t1.size
  have hE2 : Ext G2.env G'.env := by
    refine ⟨fun b m ⟨k1, k2, k3⟩ => ⟨?_, by rw [hB.w]; exact k2, fun i blk' hi hβ => ?_⟩, fun b m _ j _ => by show G'.w.cell? _ = G2.w.cell? _; rw [hB.w]⟩
    · rw [hB.n0, hB.Bo, hB.I0]
      rw [hB.n0', hB.Bo', hB.I0'] at k1
      rcases k1 with k1 | k1 | k1
      · exact ((hW.I0 b m).1 k1).1
      · rw [hW.n0] at k1; exact .inr (.inl (Nat.le_trans hR.base k1))
      · obtain ⟨k, blk, blk0, _, _, q3, q4, _⟩ := hW.named ((hW.Bo b).1 k1)
        exact .inr (hR.own b ⟨_, _, q3, q4⟩)
    · rcases hB.blk i blk' hi with ⟨k, blk1, _, q2, q3, _, q5, _⟩ | ⟨q1, q2, _, q4⟩
      · exact (q5 m).1 (k3 k blk1 q2 (q3 ▸ hβ))
      · rw [q2] at hβ
        rw [hB.n0', hB.Bo', hB.I0'] at k1
        rcases k1 with k1 | k1 | k1
        · exact ((hW.I0 b m).1 k1).2.2 i blk' q1 hβ
        · rw [hW.n0] at k1; have := hR.lt q1 hβ; omega
        · obtain ⟨k, blk, blk0, p1, _, p3, p4, _⟩ := hW.named ((hW.Bo b).1 k1)
          exact absurd (hR.inj _ _ _ _ _ p3 q1 p4 hβ) (q4 k blk p1)
  have hE : Ext G.env G'.env := hW.inn.trans (t1.keep.env.trans hE2)
  have hK : Keep G G' := ⟨hE, fun i ver j u bl hρ hi => by
    simp only [stay, Option.some.injEq, Prod.mk.injEq] at hρ
    obtain ⟨rfl, rfl⟩ := hρ
    obtain ⟨blk', q1, q2⟩ := hB.old i bl hi
    exact ⟨blk', q1, q2 ver⟩⟩
  have hnm : ∀ b, G1.named b → G.named b := fun b hn => by
    obtain ⟨k, blk, blk0, _, _, q3, q4, _⟩ := hW.named hn
    exact ⟨_, _, q3, q4⟩
  have hfr : ∀ b, b < G.w.heap.size → ¬ G1.named b → G'.w.heap[b]? = G.w.heap[b]? := fun b hb hn => by
    rw [hB.w, ← hW.w]
    exact t1.frame b (by rw [hW.w]; exact hb) hn
  have hown : ∀ b, G'.named b → G.w.heap.size ≤ b ∨ G.named b := by
    rintro b ⟨i, blk', hi, hβ⟩
    rcases hB.blk i blk' hi with ⟨k, blk1, _, q2, q3, _⟩ | ⟨q1, q2, _⟩
    · rcases t1.own b ⟨k, blk1, q2, q3 ▸ hβ⟩ with q | q
      · rw [hW.w] at q; exact .inl q
      · exact .inr (hnm b q)
    · exact .inr ⟨i, blk', q1, q2 ▸ hβ⟩
  -- a block of the caller's that the callee does not see
  have hout : ∀ {i blk' b}, nthB G.hp i = some blk' → G.β i = some b → (∀ k blk, nthB G1.hp k = some blk → e k ≠ i) → ¬ G1.named b := fun {i blk' b} q1 q2 q4 hn => by
    obtain ⟨k, blk, blk0, p1, _, p3, p4, _⟩ := hW.named hn
    exact absurd (hR.inj _ _ _ _ _ p3 q1 p4 q2) (q4 k blk p1)
  refine ⟨hE2, ⟨hK, ?_, ?_, ?_, by rw [hB.w]; exact hsz, fun b hb hn => hfr b hb fun h => hn (hnm b h), hown⟩, ⟨fun i blk' hi => ?_, fun i i' blk blk' b hi hi' hβ hβ' => ?_, fun b hn => ?_, ?_⟩⟩
  · rw [hB.w, ← hW.w]; exact t1.os
  · rw [hB.w, ← hW.w]; exact t1.tape
  · rw [hB.w, ← hW.w]; exact t1.output
  · rcases hB.blk i blk' hi with ⟨k, blk1, _, q2, _, _, _, q6⟩ | ⟨q1, q2, q3, q4⟩
    · exact q6 hE2 (h1.blk k blk1 q2)
    · exact (hR.blk i blk' q1).keep hK q2 q3 fun b hb hlt => hfr b hlt (hout q1 hb q4)
  · rcases hB.blk i blk hi with ⟨k, blk1, e1, q2, q3, _⟩ | ⟨q1, q2, _, q4⟩ <;> rcases hB.blk i' blk' hi' with ⟨k', blk1', e1', q2', q3', _⟩ | ⟨q1', q2', _, q4'⟩
    · rw [q3] at hβ; rw [q3'] at hβ'
      rw [← e1, ← e1', h1.inj _ _ _ _ _ q2 q2' hβ hβ']
    · exfalso
      rw [q3] at hβ; rw [q2'] at hβ'
      rcases t1.own b ⟨k, blk1, q2, hβ⟩ with q | q
      · have := hR.lt q1' hβ'; rw [hW.w] at q; omega
      · exact hout q1' hβ' q4' q
    · exfalso
      rw [q3'] at hβ'; rw [q2] at hβ
      rcases t1.own b ⟨k', blk1', q2', hβ'⟩ with q | q
      · have := hR.lt q1 hβ; rw [hW.w] at q; omega
      · exact hout q1 hβ q4 q
    · rw [q2] at hβ; rw [q2'] at hβ'
      exact hR.inj _ _ _ _ _ q1 q1' hβ hβ'
  · rw [hB.n0, hB.Bo]
    rcases hown b hn with q | q
    · exact .inl (Nat.le_trans hR.base q)
    · exact hR.own b q
  · rw [hB.n0, hB.w]; exact Nat.le_trans hR.base hsz

end
end Go.Bx
namespace Go.Bx
set_option linter.unusedVariables false
set_option linter.unusedSimpArgs false
open Go Go.RowKit

/-! ### a call that changes blocks -/

theorem look_map_key {α : Type} (e : Nat → Nat) (g : Nat → Blk → α) : ∀ (h : Heap) (i : Nat) (b : α), look (h.map fun x => (e x.1, g x.1 x.2)) i = some b →
    ∃ k b2, look (h.map fun x => (e x.1, x.1)) i = some k ∧ e k = i ∧ nthB h k = some b2 ∧ b = g k b2
  | [], i, b, h => by cases h
  | (j, c) :: r, i, b, h => by
    simp only [List.map_cons, look, nthB] at h ⊢
    by_cases hj : Nat.beq (e j) i = true
    · rw [if_pos hj] at h
      cases h
      refine ⟨j, c, by rw [if_pos hj], Nat.eq_of_beq_eq_true hj, ?_, rfl⟩
      rw [if_pos (Nat.beq_refl j)]
    · rw [if_neg hj] at h
      obtain ⟨k, b2, h1, h2, h3, h4⟩ := look_map_key e g r i b h
      refine ⟨k, b2, by rw [if_neg hj]; exact h1, h2, ?_, h4⟩
      rw [if_neg]
      · exact h3
      · intro hk
        have := Nat.eq_of_beq_eq_true hk
        subst this
        exact hj (by rw [h2]; exact Nat.beq_refl i)

theorem look_none_mem {α : Type} : ∀ (l : List (Nat × α)) (i : Nat), look l i = none → i ∉ l.map (·.1)
  | [], _, _ => by simp
  | (j, c) :: r, i, h => by
    simp only [look] at h
    split at h
    · cases h
    · rename_i hj
      simp only [List.map_cons, List.mem_cons, not_or]
      exact ⟨fun e => hj (by rw [e]; exact Nat.beq_refl j), look_none_mem r i h⟩

theorem look_some_mem {α : Type} : ∀ (l : List (Nat × α)) (i : Nat) (b : α), look l i = some b → i ∈ l.map (·.1)
  | [], _, _, h => by cases h
  | (j, c) :: r, i, b, h => by
    simp only [look] at h
    split at h
    · rename_i hj
      rw [← Nat.eq_of_beq_eq_true hj]; simp
    · simp only [List.map_cons, List.mem_cons]; exact .inr (look_some_mem r i b h)

theorem mem_is {l : List Nat} {i : Nat} : mem l i = true ↔ i ∈ l := by
  induction l with
  | nil => simp [mem]
  | cons j r ih =>
    simp only [mem, List.any_cons, Bool.or_eq_true, List.mem_cons] at ih ⊢
    rw [ih]
    constructor
    · rintro (h | h)
      · exact .inl (Nat.eq_of_beq_eq_true h)
      · exact .inr h
    · rintro (h | h)
      · exact .inl (by rw [h]; exact Nat.beq_refl j)
      · exact .inr h

theorem once_key (e : Nat → Nat) : ∀ (h : Heap) (k : Nat) (b : Blk), once (h.map fun x => e x.1) = true → nthB h k = some b → look (h.map fun x => (e x.1, x.1)) (e k) = some k
  | [], k, b, _, h => by cases h
  | (j, c) :: r, k, b, ho, h => by
    simp only [List.map_cons, once] at ho
    split at ho
    · cases ho
    · rename_i hm
      simp only [List.map_cons, look, nthB] at h ⊢
      by_cases hj : Nat.beq j k = true
      · have := Nat.eq_of_beq_eq_true hj
        subst this
        rw [if_pos (Nat.beq_refl _)]
      · rw [if_neg hj] at h
        rw [if_neg, once_key e r k b ho h]
        intro he
        have hin : k ∈ r.map (·.1) := look_some_mem r k b h
        obtain ⟨x, hx, rfl⟩ := List.mem_map.1 hin
        have : mem (r.map fun x => e x.1) (e j) = true := mem_is.2 (by
          rw [Nat.eq_of_beq_eq_true he]
          exact List.mem_map.2 ⟨x, hx, rfl⟩)
        rw [this] at hm; cases hm

theorem setAll_look : ∀ (d hp : Heap) (i : Nat), nthB (setAll d hp) i = match look d i with
    | some b => some b
    | none => nthB hp i
  | [], _, _ => rfl
  | (j, b) :: r, hp, i => by
    simp only [setAll, look]
    rw [look_set]
    by_cases hj : Nat.beq j i = true
    · have := Nat.eq_of_beq_eq_true hj
      subst this
      rw [if_pos rfl, if_pos hj]
    · rw [if_neg hj, if_neg (fun e => hj (by rw [e]; exact Nat.beq_refl j)), setAll_look r hp i]

theorem idxOf_get : ∀ {L : List Nat} {i k : Nat}, idxOf L i = some k → k < L.length ∧ L.getD k 0 = i
  | [], _, _, h => by cases h
  | j :: r, i, k, h => by
    simp only [idxOf] at h
    split at h
    · rename_i hj; cases h; exact ⟨by simp, by rw [Nat.eq_of_beq_eq_true hj]; rfl⟩
    · split at h
      · rename_i k' hk
        cases h
        obtain ⟨h1, h2⟩ := idxOf_get hk
        exact ⟨by simp; exact h1, by simpa using h2⟩
      · cases h

theorem idxOf_some : ∀ {L : List Nat} {i : Nat}, i ∈ L → ∃ k, idxOf L i = some k
  | j :: r, i, h => by
    simp only [idxOf]
    by_cases hj : Nat.beq i j = true
    · rw [if_pos hj]; exact ⟨0, rfl⟩
    · rw [if_neg hj]
      rcases List.mem_cons.1 h with rfl | h
      · exact absurd (Nat.beq_refl i) hj
      · obtain ⟨k, hk⟩ := idxOf_some h
        rw [hk]; exact ⟨k + 1, rfl⟩

theorem addN_nodup : ∀ (r l : List Nat), l.Nodup → (addN l r).Nodup
  | [], l, h => h
  | i :: r, l, h => by
    simp only [addN]
    split
    · exact addN_nodup r l h
    · rename_i hm
      refine addN_nodup r _ (List.nodup_append.2 ⟨h, by simp, fun a ha b hb => ?_⟩)
      simp only [List.mem_cons, List.not_mem_nil, or_false] at hb
      subst hb
      rintro rfl
      rw [mem_is.2 ha] at hm; cases hm

theorem closeN_nodup {hp : Heap} : ∀ (k : Nat) (l : List Nat), l.Nodup → (closeN hp k l).Nodup
  | 0, _, h => h
  | k + 1, l, h => closeN_nodup k _ (addN_nodup _ _ h)

theorem reach_nodup (hp : Heap) (l : List V) : (reach hp l).Nodup := closeN_nodup _ _ (addN_nodup _ _ List.nodup_nil)

theorem innH_at {hp : Heap} {L : List Nat} : ∀ (R : List Nat) (k0 k : Nat), nthB (innH hp L k0 R) k = if k0 ≤ k ∧ k - k0 < R.length then (nthB hp (R.getD (k - k0) 0)).map fun b => ver0B (renB (inn hp L) b) else none
  | [], k0, k => by simp [innH, nthB, look]
  | i :: R, k0, k => by
    have ih := innH_at (hp := hp) (L := L) R (k0 + 1) k
    simp only [innH]
    by_cases hk : k = k0
    · subst hk
      rw [if_pos (by simp), Nat.sub_self]
      have ih0 : nthB (innH hp L (k + 1) R) k = none := by rw [ih, if_neg (by omega)]
      simp only [List.getD_cons_zero]
      cases hb : nthB hp i with
      | none => exact ih0
      | some b =>
        simp only [nthB, look]
        rw [if_pos (Nat.beq_refl k)]; rfl
    · have hne : ¬ (Nat.beq k0 k = true) := fun e => hk (Nat.eq_of_beq_eq_true e).symm
      have step : nthB (match nthB hp i with
          | some b => (k0, ver0B (renB (inn hp L) b)) :: innH hp L (k0 + 1) R
          | none => innH hp L (k0 + 1) R) k = nthB (innH hp L (k0 + 1) R) k := by
        cases nthB hp i with
        | none => rfl
        | some b => simp only [nthB, look]; rw [if_neg hne]
      refine step.trans (ih.trans ?_)
      by_cases h1 : k0 + 1 ≤ k ∧ k - (k0 + 1) < R.length
      · rw [if_pos h1, if_pos (by simp; omega)]
        have : k - k0 = (k - (k0 + 1)) + 1 := by omega
        rw [this, List.getD_cons_succ]
      · rw [if_neg h1, if_neg (by simp; omega)]

section
variable {P : Program} {C : Ctx} {G : GE} {fr : List V} {ρ : Operand → Value} {tm : Array Value}

theorem im_ver0 (ρ : Nat → Nat → Option (Nat × Nat)) (b : Blk) (m : Nat) : (ver0B (renB ρ b)).im m ↔ b.im m := by
  cases b <;> exact Iff.rfl

/-- what a callee sees -/
def lend (G : GE) (L : List Nat) : GE := mkG G.w (fun k => G.β (L.getD k 0)) (fun k => G.σ (L.getD k 0)) (innH G.hp L 0 L) G.im

theorem eOf_lt {L N : List Nat} {s k : Nat} (h : k < L.length) : eOf L N s k = L.getD k 0 := by
  unfold eOf
  have : Nat.blt k L.length = true := Nat.ble_eq_true_of_le h
  rw [this]

theorem lend_at {L : List Nat} {k : Nat} {b1 : Blk} (h : nthB (lend G L).hp k = some b1) : k < L.length ∧ ∃ b, nthB G.hp (L.getD k 0) = some b ∧ b1 = ver0B (renB (inn G.hp L) b) := by
  have h' : nthB (innH G.hp L 0 L) k = some b1 := h
  rw [innH_at] at h'
  split at h'
  · rename_i hk
    obtain ⟨b, e1, e2⟩ := Option.map_eq_some_iff.1 h'
    exact ⟨by simpa using hk.2, b, e1, e2.symm⟩
  · cases h'

theorem lend_of {L : List Nat} {k : Nat} {b : Blk} (hk : k < L.length) (h : nthB G.hp (L.getD k 0) = some b) : nthB (lend G L).hp k = some (ver0B (renB (inn G.hp L) b)) := by
  show nthB (innH G.hp L 0 L) k = _
  rw [innH_at, if_pos ⟨Nat.zero_le _, by simpa using hk⟩, Nat.sub_zero, h]; rfl

theorem lend_win (L N : List Nat) (s : Nat) : Win G (lend G L) (eOf L N s) := by
  refine ⟨rfl, rfl, fun _ => Iff.rfl, fun _ _ => Iff.rfl, fun k blk h => ?_⟩
  obtain ⟨hk, b, h1, rfl⟩ := lend_at h
  rw [eOf_lt hk]
  exact ⟨b, h1, rfl, fun m => im_ver0 _ _ _⟩

theorem lend_mv (L : List Nat) : Mv (inn G.hp L) G (lend G L) := by
  refine ⟨(lend_win L [] 0).inn, fun id ver j u blk hρ hb => ?_⟩
  unfold inn at hρ
  split at hρ
  · rename_i k v hk hv
    cases hρ
    obtain ⟨hlt, hget⟩ := idxOf_get hk
    have hb' : nthB G.hp (L.getD j 0) = some blk := by rw [hget]; exact hb
    refine ⟨_, lend_of hlt hb', ?_⟩
    have hβ : (lend G L).β j = G.β id := by show G.β (L.getD j 0) = _; rw [hget]
    have hσ : (lend G L).σ j = G.σ id := by show G.σ (L.getD j 0) = _; rw [hget]
    unfold ver0 at hv
    rw [hb] at hv
    cases blk with
    | cell t v z => exact ⟨rfl, hβ⟩
    | map k v l => exact ⟨rfl, rfl, hβ⟩
    | buf t l c z =>
      simp only at hv
      split at hv
      · rename_i hvc
        cases hv
        exact ⟨fun _ => Nat.le_refl _, fun _ _ => ⟨Nat.eq_of_beq_eq_true hvc, rfl, hβ, hσ, Nat.le_refl _⟩⟩
      · cases hv
  · cases hρ

theorem nodup_getD {L : List Nat} (h : L.Nodup) {k k' : Nat} (hk : k < L.length) (hk' : k' < L.length) (e : L.getD k 0 = L.getD k' 0) : k = k' := by
  rw [List.getD_eq_getElem?_getD, List.getD_eq_getElem?_getD, List.getElem?_eq_getElem hk, List.getElem?_eq_getElem hk'] at e
  exact (List.getElem_inj h).1 (by simpa using e)

theorem lend_ok (hR : HRel G) {L : List Nat} (hL : L.Nodup) : HRel (lend G L) := by
  refine ⟨fun k b1 h => ?_, fun k k' b1 b1' b h h' hβ hβ' => ?_, fun b hn => .inr hn, Nat.le_refl _⟩
  · obtain ⟨hk, b, h1, rfl⟩ := lend_at h
    have hb := hR.blk _ _ h1
    have hM := lend_mv (G := G) L
    cases b with
    | cell t v z =>
      obtain ⟨x, arr, ty, g1, g2, g3⟩ := hb
      exact ⟨x, arr, ty, g1, g2, g3.ren hM⟩
    | buf t l ver z =>
      rcases hb with ⟨x, arr, ty, css, cap, rest, g1, g2, g3, g4, g5, g6, g7, g8⟩ | ⟨g1, g2, g3, g4⟩
      · exact .inl ⟨x, arr, ty, css, cap, rest, g1, g2, g3, g4.mono fun _ _ h => h.ext hM.env, g5, g6, g7, g8⟩
      · exact .inr ⟨g1, g2, g3.ext hM.env, g4⟩
    | map k v l =>
      obtain ⟨x, es, clock, g1, g2, g3, g4⟩ := hb
      exact ⟨x, es, clock, g1, g2, g3.mono fun _ _ h => ⟨h.1.ext hM.env, h.2.ext hM.env⟩, g4⟩
  · obtain ⟨hk, c, h1, _⟩ := lend_at h
    obtain ⟨hk', c', h1', _⟩ := lend_at h'
    exact nodup_getD hL hk hk' (hR.inj _ _ _ _ _ h1 h1' hβ hβ')

theorem AtL.sane1 : ∀ {l : List V} {m : List Value}, AtL G tm l m → AtL G #[] (l.map Bx.sane) m
  | [], [], h => h
  | _ :: _, _ :: _, h => by simp only [AtL, List.map_cons] at h ⊢; exact ⟨h.1.sane, h.2.sane1⟩
  | [], _ :: _, h => by simp [AtL] at h
  | _ :: _, [], h => by simp [AtL] at h

theorem outw_eq {hp : Heap} {L N : List Nat} {s i ver j u : Nat} (h : outw hp L N s i ver = some (j, u)) : j = eOf L N s i ∧ u = (match Nat.blt i L.length with
    | true => verUp hp (L.getD i 0) ver
    | false => ver) := by
  unfold outw at h
  unfold eOf
  cases hb : Nat.blt i L.length with
  | true => rw [hb] at h; cases h; exact ⟨rfl, rfl⟩
  | false =>
    rw [hb] at h
    simp only at h ⊢
    split at h
    · rename_i k hk; cases h; exact ⟨rfl, rfl⟩
    · cases h

theorem outB_im (hp : Heap) (L N : List Nat) (s k : Nat) (b : Blk) (m : Nat) : b.im m ↔ (outB hp L N s k b).im m := by
  cases b with
  | buf t l v z => unfold outB; cases Nat.blt k L.length <;> exact Iff.rfl
  | cell _ _ _ => exact Iff.rfl
  | map _ _ _ => exact Iff.rfl

/-- the caller's names behind a call -/
def nameB {α : Type} (h : Heap) (e : Nat → Nat) (new old : Nat → α) (i : Nat) : α := match look (h.map fun x => (e x.1, x.1)) i with
  | some k => new k
  | none => old i

theorem sh_back (hR : HRel G) {L : List Nat} {s : Nat} {w' : World} {β2 : Nat → Option Nat} {σ2 : Nat → Value} {h2 : Heap} (ht : Tr (lend G L) ((lend G L).at w' β2 σ2 h2)) (hL : L.Nodup)
    (hf : freeAll G.hp (newOf L (outH G.hp L s h2)) = true) (ho : once ((outH G.hp L s h2).map (·.1)) = true) :
    (Ext ((lend G L).at w' β2 σ2 h2).env (GE.env ⟨w', nameB h2 (eOf L (madeN L h2) s) β2 G.β, nameB h2 (eOf L (madeN L h2) s) σ2 G.σ, setAll (outH G.hp L s h2) G.hp, G.n0, G.Bo, G.I0⟩) →
      Mv (outw G.hp L (madeN L h2) s) ((lend G L).at w' β2 σ2 h2) ⟨w', nameB h2 (eOf L (madeN L h2) s) β2 G.β, nameB h2 (eOf L (madeN L h2) s) σ2 G.σ, setAll (outH G.hp L s h2) G.hp, G.n0, G.Bo, G.I0⟩) ∧
    Back G (lend G L) ((lend G L).at w' β2 σ2 h2) ⟨w', nameB h2 (eOf L (madeN L h2) s) β2 G.β, nameB h2 (eOf L (madeN L h2) s) σ2 G.σ, setAll (outH G.hp L s h2) G.hp, G.n0, G.Bo, G.I0⟩ (eOf L (madeN L h2) s) := by
  unfold outH at hf ho ⊢
  generalize madeN L h2 = N at *
  have ho' : once (h2.map fun x => eOf L N s x.1) = true := by
    rw [List.map_map] at ho; exact ho
  have hat : ∀ i, nthB (setAll (h2.map fun x => (eOf L N s x.1, outB G.hp L N s x.1 x.2)) G.hp) i = match look (h2.map fun x => (eOf L N s x.1, outB G.hp L N s x.1 x.2)) i with
    | some b => some b
    | none => nthB G.hp i := setAll_look _ _
  have hkey : ∀ k b, nthB h2 k = some b → look (h2.map fun x => (eOf L N s x.1, x.1)) (eOf L N s k) = some k := fun k b h => once_key _ h2 k b ho' h
  have hd : ∀ k b, nthB h2 k = some b → look (h2.map fun x => (eOf L N s x.1, outB G.hp L N s x.1 x.2)) (eOf L N s k) = some (outB G.hp L N s k b) := fun k b h => by
    have h1 := hkey k b h
    cases hl : look (h2.map fun x => (eOf L N s x.1, outB G.hp L N s x.1 x.2)) (eOf L N s k) with
    | none =>
      exfalso
      have := look_none_mem _ _ hl
      apply this
      rw [List.map_map]
      have := look_some_mem _ _ _ h
      obtain ⟨x, hx, hxk⟩ := List.mem_map.1 this
      exact List.mem_map.2 ⟨x, hx, by simp [hxk]⟩
    | some b' =>
      obtain ⟨k', b2, q1, q2, q3, q4⟩ := look_map_key (eOf L N s) (fun k b => outB G.hp L N s k b) h2 _ _ hl
      rw [h1] at q1; cases q1
      rw [h] at q3; cases q3
      rw [q4]
  have hM : Ext ((lend G L).at w' β2 σ2 h2).env (GE.env ⟨w', nameB h2 (eOf L N s) β2 G.β, nameB h2 (eOf L N s) σ2 G.σ, setAll (h2.map fun x => (eOf L N s x.1, outB G.hp L N s x.1 x.2)) G.hp, G.n0, G.Bo, G.I0⟩) →
      Mv (outw G.hp L N s) ((lend G L).at w' β2 σ2 h2) ⟨w', nameB h2 (eOf L N s) β2 G.β, nameB h2 (eOf L N s) σ2 G.σ, setAll (h2.map fun x => (eOf L N s x.1, outB G.hp L N s x.1 x.2)) G.hp, G.n0, G.Bo, G.I0⟩ := fun hE => by
    refine ⟨hE, fun id ver j u blk hρ hb => ?_⟩
    have hb' : nthB h2 id = some blk := hb
    obtain ⟨rfl, rfl⟩ := outw_eq hρ
    refine ⟨outB G.hp L N s id blk, ?_, ?_⟩
    · show nthB (setAll _ G.hp) _ = _
      rw [hat, hd id blk hb']
    · have hβ : nameB h2 (eOf L N s) β2 G.β (eOf L N s id) = β2 id := by unfold nameB; rw [hkey id blk hb']
      have hσ : nameB h2 (eOf L N s) σ2 G.σ (eOf L N s id) = σ2 id := by unfold nameB; rw [hkey id blk hb']
      cases blk with
      | cell t v z => exact ⟨rfl, hβ⟩
      | map k v l => exact ⟨rfl, rfl, hβ⟩
      | buf t l c z =>
        unfold outB
        cases hlt : Nat.blt id L.length with
        | false => exact ⟨fun h => h, fun _ h => ⟨h, rfl, hβ, hσ, Nat.le_refl _⟩⟩
        | true =>
          simp only
          unfold verUp
          split
          · exact ⟨fun h => by omega, fun _ h => ⟨by omega, rfl, hβ, hσ, Nat.le_refl _⟩⟩
          · exact ⟨fun h => h, fun _ h => ⟨h, rfl, hβ, hσ, Nat.le_refl _⟩⟩
  refine ⟨hM, rfl, rfl, rfl, rfl, rfl, rfl, rfl, fun i blk' hi => ?_, fun i blk hi => ?_⟩
  · have hi' := hi
    rw [hat] at hi'
    cases hl : look (h2.map fun x => (eOf L N s x.1, outB G.hp L N s x.1 x.2)) i with
    | some b' =>
      rw [hl] at hi'
      simp only [Option.some.injEq] at hi'
      subst hi'
      obtain ⟨k, b2, q1, q2, q3, q4⟩ := look_map_key (eOf L N s) (fun k b => outB G.hp L N s k b) h2 _ _ hl
      left
      refine ⟨k, b2, q2, q3, ?_, ?_, fun m => by rw [q4]; exact outB_im _ _ _ _ _ _ _, fun hE hB => ?_⟩
      · show nameB h2 (eOf L N s) β2 G.β i = _; unfold nameB; rw [q1]; rfl
      · show nameB h2 (eOf L N s) σ2 G.σ i = _; unfold nameB; rw [q1]; rfl
      · have hβ : nameB h2 (eOf L N s) β2 G.β i = β2 k := by unfold nameB; rw [q1]
        have hσ : nameB h2 (eOf L N s) σ2 G.σ i = σ2 k := by unfold nameB; rw [q1]
        rw [q4]
        cases b2 with
        | cell t v z =>
          obtain ⟨x, arr, ty, g1, g2, g3⟩ := hB
          exact ⟨x, arr, ty, hβ.trans g1, g2, g3.ren (hM hE)⟩
        | map k v l =>
          obtain ⟨x, es, clock, g1, g2, g3, g4⟩ := hB
          exact ⟨x, es, clock, hβ.trans g1, g2, g3.mono fun _ _ h => ⟨h.1.ext hE, h.2.ext hE⟩, g4⟩
        | buf t l ver z =>
          have key : ∀ v', BlkOk ⟨w', nameB h2 (eOf L N s) β2 G.β, nameB h2 (eOf L N s) σ2 G.σ, setAll (h2.map fun x => (eOf L N s x.1, outB G.hp L N s x.1 x.2)) G.hp, G.n0, G.Bo, G.I0⟩ i (.buf t l v' z) := fun v' => by
            rcases hB with ⟨x, arr, ty, css, cap, rest, g1, g2, g3, g4, g5, g6, g7, g8⟩ | ⟨g1, g2, g3, g4⟩
            · exact .inl ⟨x, arr, ty, css, cap, rest, hβ.trans g1, hσ.trans g2, g3, g4.mono fun _ _ h => h.ext hE, g5, g6, g7, g8⟩
            · refine .inr ⟨hβ.trans g1, g2, ?_, ?_⟩
              · show FlatD _ _ _ [nameB h2 (eOf L N s) σ2 G.σ i]
                rw [hσ]; exact g3.ext hE
              · show ∃ a n, nameB h2 (eOf L N s) σ2 G.σ i = _
                rw [hσ]; exact g4
          unfold outB
          cases Nat.blt k L.length <;> exact key _
    | none =>
      rw [hl] at hi'
      right
      have hnk : look (h2.map fun x => (eOf L N s x.1, x.1)) i = none := by
        cases hk : look (h2.map fun x => (eOf L N s x.1, x.1)) i with
        | none => rfl
        | some k =>
          exfalso
          have := look_some_mem _ _ _ hk
          apply look_none_mem _ _ hl
          rw [List.map_map] at this ⊢
          exact this
      refine ⟨hi', ?_, ?_, fun k blk hk he => ?_⟩
      · show nameB h2 (eOf L N s) β2 G.β i = _; unfold nameB; rw [hnk]
      · show nameB h2 (eOf L N s) σ2 G.σ i = _; unfold nameB; rw [hnk]
      · obtain ⟨blk2, r1, _⟩ := ht.keep.blk k 0 k 0 blk rfl hk
        have := hkey k blk2 r1
        rw [he, hnk] at this; cases this
  · by_cases hiL : i ∈ L
    · obtain ⟨k, hk⟩ := idxOf_some hiL
      obtain ⟨hlt, hget⟩ := idxOf_get hk
      have he : eOf L N s k = i := by rw [eOf_lt hlt, hget]
      have hb1 := lend_of (G := G) hlt (by rw [hget]; exact hi)
      obtain ⟨blk2, r1, _⟩ := ht.keep.blk k 0 k 0 _ rfl hb1
      have r1' : nthB h2 k = some blk2 := r1
      have hdk := hd k blk2 r1'
      rw [he] at hdk
      refine ⟨outB G.hp L N s k blk2, by show nthB (setAll _ G.hp) i = _; rw [hat, hdk], fun v => ?_⟩
      obtain ⟨blk2', r2, r3⟩ := ht.keep.blk k v k v _ rfl hb1
      rw [r1] at r2; cases r2
      have hβ : nameB h2 (eOf L N s) β2 G.β i = β2 k := by
        have := hkey k blk2 r1'
        rw [he] at this
        unfold nameB; rw [this]
      have hβ1 : (lend G L).β k = G.β i := by show G.β (L.getD k 0) = _; rw [hget]
      cases blk with
      | cell t c z => cases blk2 with
        | cell t2 c2 z2 => exact ⟨r3.1, hβ.trans (r3.2.trans hβ1)⟩
        | buf _ _ _ _ => exact r3.elim
        | map _ _ _ => exact r3.elim
      | map a b l => cases blk2 with
        | map a2 b2 l2 => exact ⟨r3.1, r3.2.1, hβ.trans (r3.2.2.trans hβ1)⟩
        | cell _ _ _ => exact r3.elim
        | buf _ _ _ _ => exact r3.elim
      | buf t l c z => cases blk2 with
        | buf t2 l2 c2 z2 =>
          have hblt : Nat.blt k L.length = true := Nat.ble_eq_true_of_le hlt
          have hv : outB G.hp L N s k (.buf t2 l2 c2 z2) = .buf t2 l2 (c2 + c + 1) z2 := by
            unfold outB
            rw [hblt]
            simp only
            unfold verUp
            rw [hget, hi]
          rw [hv]
          exact ⟨fun h => by omega, fun h h' => by omega⟩
        | cell _ _ _ => exact r3.elim
        | map _ _ _ => exact r3.elim
    · have hnd : look (h2.map fun x => (eOf L N s x.1, outB G.hp L N s x.1 x.2)) i = none := by
        cases hl : look (h2.map fun x => (eOf L N s x.1, outB G.hp L N s x.1 x.2)) i with
        | none => rfl
        | some b' =>
          exfalso
          have hm := look_some_mem _ _ _ hl
          have hfree : ∀ (l : List Nat), freeAll G.hp l = true → ∀ j ∈ l, free G.hp j = true := by
            intro l
            induction l with
            | nil => intro _ j hj; cases hj
            | cons a r ih =>
              intro h j hj
              simp only [freeAll, Bool.and_eq_true] at h
              rcases List.mem_cons.1 hj with rfl | hj
              · exact h.1
              · exact ih h.2 j hj
          have hmem : mem L i = false := by
            cases hq : mem L i with
            | false => rfl
            | true => exact absurd (mem_is.1 hq) hiL
          have := hfree _ hf i (by
            simp only [newOf, List.mem_filter]
            exact ⟨hm, by rw [hmem]; rfl⟩)
          rw [free_none this] at hi; cases hi
      have hnk : look (h2.map fun x => (eOf L N s x.1, x.1)) i = none := by
        cases hk : look (h2.map fun x => (eOf L N s x.1, x.1)) i with
        | none => rfl
        | some k =>
          exfalso
          have := look_some_mem _ _ _ hk
          apply look_none_mem _ _ hnd
          rw [List.map_map] at this ⊢
          exact this
      refine ⟨blk, by show nthB (setAll _ G.hp) i = _; rw [hat, hnd]; exact hi, fun v => SameB.refl _ _ _ _ _ ?_ ?_⟩
      · show nameB h2 (eOf L N s) β2 G.β i = _; unfold nameB; rw [hnk]
      · show nameB h2 (eOf L N s) σ2 G.σ i = _; unfold nameB; rw [hnk]

/-- A CALL THAT CHANGES BLOCKS -/
theorem sh_call {a : Act} (hR : HRel G) {o : Oper} {f : Nat} {h : List V → Heap → Option Sh} (hS : SOk P f h ∧ Named P f) {dst : Option Nat} {args : List V} {s : Sh} {L : List Nat} (hv : shCall C G.hp dst h args = some (.sh s L)) {y : s.Y} (hy : s.o = some y)
    (hz : (freeAll G.hp (newOf L (s.f y).2) && once ((s.f y).2.map (·.1))) = true) {vals : Array Value} (ha : AtL G tm args vals.toList)
    (hrun : (execOp a.eval o).run P G.w = (callFunc f vals).run P G.w) {Q : Exit → Act → World → Prop} : DoesW P G a o (s.f y).1 (setAll (s.f y).2 G.hp) Q := by
  obtain ⟨hok, fn, n1, n2, n3⟩ := hS
  unfold shCall at hv
  simp only at hv
  split at hv
  · rename_i sh hsh
    simp only [Option.some.injEq, Out.sh.injEq] at hv
    obtain ⟨rfl, rfl⟩ := hv
    simp only at hy hz ⊢
    rw [Bool.and_eq_true] at hz
    have hL := reach_nodup G.hp args
    have n2' : ¬ fn.name = "runtime.NumGoroutine" := by simpa using n2
    have n3' : ¬ fn.body = none := by intro e; rw [e] at n3; simp at n3
    have h2 : (callFunc f vals).run P G.w = .ok (.enter f vals) G.w := by simp [callFunc, n1, n2', n3']
    have hcall := hok _ _ sh y hsh hy G.w (fun k => G.β ((reach G.hp args).getD k 0)) (fun k => G.σ ((reach G.hp args).getD k 0)) G.im vals (fun b m h => h.2.1) (lend_ok hR hL) (AtL.ren (lend_mv (reach G.hp args)) _ _ ha.sane1)
    unfold DoesW Oper.wp
    rw [hrun, h2]
    simp only [Oper.upon_enter]
    refine hcall.mono fun e w' ⟨v, β2, σ2, he, t1, t2, t3⟩ => ?_
    subst he
    obtain ⟨hM, hB⟩ := sh_back hR t1 hL hz.1 hz.2
    obtain ⟨l1, l2, l3⟩ := lift hR (lend_win _ _ _) t2 t1 hB
    exact ⟨v, _, _, rfl, l2, l3, (AtV.ren (hM l1) _ _ t3).sane⟩
  · cases hv

theorem effR_sh {a : Act} (hC : CtxOk P C) (hR : HRel G) (hL : Look G a.tmps fr a.eval) {g : Option Gd} (hg : Yes g a.tmps) (o : Oper) {s : Sh} {L : List Nat} (hv : effR C g fr G.hp o.dst o.op = some (.sh s L)) {y : s.Y} (hy : s.o = some y)
    (hz : (freeAll G.hp (newOf L (s.f y).2) && once ((s.f y).2.map (·.1))) = true) {Q : Exit → Act → World → Prop} : DoesW P G a o (s.f y).1 (setAll (s.f y).2 G.hp) Q := by
  obtain ⟨dst, op, type, pos, after, guard⟩ := o
  cases op <;> simp only [effR, reduceCtorEq] at hv
  case call c =>
    split at hv
    · exfalso
      split at hv
      · split at hv
        · split at hv
          · revert hv; unfold appendE; repeat' split
            all_goals first | (simp [ifE]; done) | (intro h; cases h; done)
          · cases hv
        · cases hv
      · cases hv
    · exfalso
      split at hv
      · split at hv
        · revert hv; unfold copyE; repeat' split
          all_goals first | (simp [ifE]; done) | (intro h; cases h; done)
        · cases hv
      · cases hv
    · cases hv
    · split at hv
      · rename_i f' args htg
        split at hv
        · split at hv <;> simp at hv
        · split at hv
          · rename_i h hsh
            obtain ⟨vals, h1, h2⟩ := target_run hC (fun x => hL.un hg x) htg
            exact sh_call hR (hC.sh _ _ hsh) hv hy hz h1 (h2 dst type pos after guard)
          · cases hv
      · cases hv
  all_goals (exfalso; revert hv)
  all_goals (repeat' split)
  all_goals first | (simp [ifE]; done) | (intro h; cases h; done)

end
end Go.Bx
namespace Go.Bx
set_option linter.unusedVariables false
set_option linter.unusedSimpArgs false
open Go Go.RowKit

section
variable {P : Program} {C : Ctx} {G0 : GE} {S : St} {a : Act} {w : World} {β : Nat → Option Nat} {σ : Nat → Value}

/-- what stands behind an operation: some state that the abstract one tells -/
def Behind (G0 : GE) (S : St) (a : Act) (w : World) : Prop := ∃ β σ, Rel G0 S a w β σ

theorem Rel.look (h : Rel G0 S a w β σ) : Look (G0.at w β σ S.hp) a.tmps S.fr a.eval := ⟨h.ev, fun d => rfl⟩

theorem nth_map (f : V → V) (hf : f .any = .any) : ∀ (l : List V) (i : Nat), nth (l.map f) i = f (nth l i)
  | [], _ => hf.symm
  | _ :: _, 0 => rfl
  | _ :: l, i + 1 => by simpa [nth] using nth_map f hf l i

theorem nth_set (v : V) : ∀ (l : List V) (d i : Nat), nth (l.set d v) i = if d = i ∧ i < l.length then v else nth l i
  | [], d, i => by simp [nth]
  | _ :: _, 0, 0 => by simp [nth]
  | _ :: _, 0, i + 1 => by simp [nth]
  | _ :: _, d + 1, 0 => by simp [nth]
  | _ :: l, d + 1, i + 1 => by
    simp only [List.set_cons_succ, nth, List.length_cons, Nat.add_right_cancel_iff, Nat.add_lt_add_iff_right]
    exact nth_set v l d i

/-- a slot that is written leaves the others as they are: what hung on it is let go -/
theorem untag_at {G : GE} {tm : Array Value} {d : Nat} {y : Value} {v : V} {x : Value} (h : AtV G tm v x) : AtV G (tm.setIfInBounds d y) (untagD d v) x := by
  cases v with
  | opt d' w u =>
    simp only [untagD]
    split
    · exact .any
    · rename_i hd
      have hne : d ≠ d' := fun e => hd (by rw [e]; exact Nat.beq_refl d')
      simp only [AtV] at h ⊢
      rw [Array.getElem?_setIfInBounds_ne hne]
      exact h
  | _ => simp only [untagD, AtV] at h ⊢ <;> exact h

theorem length_setF (fr : List V) (d : Option Nat) (v : V) : (setF fr d v).length = fr.length := by
  cases d <;> simp [setF]

/-- a value is put into a slot of a state that has gone on -/
theorem Rel.next (h : Rel G0 S a w β σ) {w' : World} {β' : Nat → Option Nat} {σ' : Nat → Value} {hp' : Heap} (t : Tr (G0.at w β σ S.hp) (G0.at w' β' σ' hp')) (hR : HRel (G0.at w' β' σ' hp')) (dst : Option Nat) (v : V) (x : Value)
    (hx : ∀ d, dst = some d → AtV (G0.at w' β' σ' hp') (a.put dst x).tmps v x) : Rel G0 ⟨setF S.fr dst v, hp'⟩ (a.put dst x) w' β' σ' := by
  refine ⟨h.tr.trans t, hR, ?_, ?_, fun i y hy => ?_⟩
  · cases dst <;> exact h.defers
  · rw [length_setF, ← h.size]; cases dst <;> simp [Act.put]
  · cases dst with
    | none => exact (h.fr i y hy).ext t.keep
    | some d =>
      simp only [setF]
      rw [nth_set, nth_map _ rfl]
      simp only [Act.put] at hy ⊢
      by_cases hdi : d = i
      · subst hdi
        have hlt : d < a.tmps.size := by
          rcases Nat.lt_or_ge d a.tmps.size with h | h
          · exact h
          · rw [Array.getElem?_eq_none (by simpa using h)] at hy; cases hy
        rw [Array.getElem?_setIfInBounds_self_of_lt hlt] at hy
        cases hy
        rw [if_pos ⟨rfl, by simpa [← h.size] using hlt⟩]
        exact hx d rfl
      · rw [if_neg (fun e => hdi e.1)]
        rw [Array.getElem?_setIfInBounds_ne hdi] at hy
        exact untag_at ((h.fr i y hy).ext t.keep)

theorem Rel.put (h : Rel G0 S a w β σ) (dst : Option Nat) (v : V) (x : Value) (hx : ∀ d, dst = some d → AtV (G0.at w β σ S.hp) (a.put dst x).tmps v x) : Rel G0 ⟨setF S.fr dst v, S.hp⟩ (a.put dst x) w β σ :=
  h.next (Tr.refl _) h.ok dst v x hx

theorem tag_at {G : GE} {tm : Array Value} {g : Option Gd} {v : V} {x : Value} (hg : ∀ gd, g = some gd → tm[gd.d]? = some (.bool gd.want)) {tm' : Array Value} (h : AtV G tm' v x) {C : Ctx} {ty : Nat} : AtV G tm (tag g (saneT C ty v)) x := by
  cases g with
  | none => exact h.saneT
  | some gd =>
    simp only [tag, AtV]
    exact ⟨fun _ => h.saneT, fun e => absurd (hg gd rfl) e⟩

theorem tag_undef {G : GE} {tm : Array Value} {gd : Gd} {v : V} (hg : tm[gd.d]? ≠ some (.bool gd.want)) : AtV G tm (tag (some gd) v) undef := by
  simp only [tag, AtV]
  exact ⟨fun e => absurd e hg, fun _ => by first | rfl | trivial⟩

theorem put_other {a : Act} {dst : Option Nat} {d : Nat} {x : Value} (h : dst ≠ some d) : (a.put dst x).tmps[d]? = a.tmps[d]? := by
  cases dst with
  | none => rfl
  | some e => simp only [Act.put]; exact Array.getElem?_setIfInBounds_ne (fun e' => h (by rw [e']))

theorem chk_some {α : Type} {g : Option Gd} {c : Prop} {i : Decidable c} {x y : α} (h : chk g c i (some x) = some y) (hb : ∀ gd, g = some gd → gd.b = true) : c ∧ x = y := by
  cases g with
  | none =>
    simp only [chk] at h
    split at h
    · rename_i hc; exact ⟨hc, Option.some.inj h⟩
    · cases h
  | some gd =>
    simp only [chk] at h
    split at h
    · rename_i hc
      simp only [hb gd rfl, Bool.not_true, Bool.or_false, decide_eq_true_eq] at hc
      exact ⟨hc, Option.some.inj h⟩
    · cases h

/-- a step's outcome -/
abbrev pr : List Nat → St → Option (List Nat × St) := fun wr S => some (wr, S)

/-- ONE OPERATION that is carried out -/
theorem T_yes (hC : CtxOk P C) (h : Rel G0 S a w β σ) {g : Option Gd} (hg : Yes g a.tmps) (hgb : ∀ gd, g = some gd → gd.b = true) (o : Oper) (hgd : ∀ gd, g = some gd → o.dst ≠ some gd.d) {wr : List Nat} {S' : St}
    (ht : T C g o S pr = some (wr, S')) {Q : Exit → Act → World → Prop} : o.wp P a w (fun a' w' => Behind G0 S' a' w') Q := by
  have hg' : ∀ x gd, g = some gd → (a.put o.dst x).tmps[gd.d]? = some (.bool gd.want) := fun x gd e => by rw [put_other (hgd gd e)]; exact hg gd e
  have fin : ∀ {v : V} {hp' : Heap}, DoesW P (G0.at w β σ S.hp) a o v hp' Q → S' = ⟨setF S.fr o.dst (tag g (saneT C o.type v)), hp'⟩ → o.wp P a w (fun a' w' => Behind G0 S' a' w') Q := by
    rintro v hp' hd rfl
    refine Oper.wp_mono (fun a' w' hK => ?_) hd
    obtain ⟨x, β', σ', rfl, t1, t2, t3⟩ := hK
    exact ⟨β', σ', h.next t1 t2 o.dst _ x fun d _ => tag_at (hg' x) t3⟩
  unfold T at ht
  cases hv : valR C g S.fr S.hp o.op with
  | none =>
    rw [hv] at ht
    simp only at ht
    have hgt : doIt g = some true ∨ doIt g = none := by cases g with
      | none => exact .inl rfl
      | some gd =>
        simp only [doIt]
        split
        · rw [hgb gd rfl]; exact .inl rfl
        · exact .inr rfl
    rcases hgt with hgt | hgt
    rotate_left
    · rw [hgt] at ht; cases ht
    rw [hgt] at ht
    simp only at ht
    cases he : effR C g S.fr S.hp o.dst o.op with
    | none => rw [he] at ht; cases ht
    | some r =>
      rw [he] at ht
      cases r with
      | val c i v => cases ht
      | new v => cases ht
      | eff c i v hp wr' =>
        simp only at ht
        obtain ⟨hc, e⟩ := chk_some ht (fun _ e => by cases e)
        cases e
        exact fin (effR_eff hC h.ok h.look hg o he hc).toW rfl
      | call F x hp wr' =>
        simp only at ht
        obtain ⟨r, h1, h2⟩ := Option.bind_eq_some_iff.1 ht
        cases h2
        exact fin (effR_call hC h.ok h.look hg o he h1) rfl
      | sh s L =>
        simp only at ht
        obtain ⟨y, h1, h2⟩ := Option.bind_eq_some_iff.1 ht
        split at h2
        · rename_i hz
          cases h2
          exact fin (effR_sh hC h.ok h.look hg o he h1 hz) rfl
        · cases h2
  | some r =>
    rw [hv] at ht
    cases r with
    | val c i v =>
      simp only at ht
      obtain ⟨hc, e⟩ := chk_some ht hgb
      cases e
      obtain ⟨x, r1, r2⟩ := valR_val hC h.ok h.look hg o hv hc
      exact fin (val_toW h.ok r1 r2) rfl
    | call F x hp wr' =>
      simp only at ht
      have hr : ∃ r, F.run x = some r ∧ S' = ⟨setF S.fr o.dst (tag g (saneT C o.type (F.out r))), S.hp⟩ := by
        cases g with
        | none =>
          simp only [runF] at ht
          obtain ⟨r, h1, h2⟩ := Option.bind_eq_some_iff.1 ht
          cases h2; exact ⟨r, h1, rfl⟩
        | some gd =>
          simp only [runF, hgb gd rfl, if_true] at ht
          obtain ⟨r, h1, h2⟩ := Option.bind_eq_some_iff.1 ht
          cases h2; exact ⟨r, h1, rfl⟩
      obtain ⟨r, hr, e⟩ := hr
      exact fin (valR_call hC h.ok h.look hg o hv hr) e
    | new v =>
      cases ht
      exact fin (valR_new hC h.ok h.look hg o hv).toW rfl
    | eff c i v hp wr' => cases ht
    | sh s L => cases ht

/-- ONE OPERATION that its guard leaves out -/
theorem T_no (h : Rel G0 S a w β σ) {gd : Gd} (hn : a.tmps[gd.d]? ≠ some (.bool gd.want)) (hs : gd.sure = true → gd.b = false) (o : Oper) (hgd : o.dst ≠ some gd.d) {wr : List Nat} {S' : St} (ht : T C (some gd) o S pr = some (wr, S')) : Behind G0 S' (a.put o.dst undef) w := by
  have hn' : (a.put o.dst undef).tmps[gd.d]? ≠ some (.bool gd.want) := by rw [put_other hgd]; exact hn
  have fin : ∀ {v : V}, S' = ⟨setF S.fr o.dst (tag (some gd) v), S.hp⟩ → Behind G0 S' (a.put o.dst undef) w := by
    rintro v rfl
    exact ⟨β, σ, h.put o.dst _ undef fun d _ => tag_undef hn'⟩
  unfold T at ht
  cases hv : valR C (some gd) S.fr S.hp o.op with
  | none =>
    rw [hv] at ht
    simp only [doIt] at ht
    cases hsu : gd.sure with
    | true =>
      rw [hsu, hs hsu] at ht
      cases ht
      exact fin rfl
    | false => rw [hsu] at ht; cases ht
  | some r =>
    rw [hv] at ht
    cases r with
    | val c i v =>
      simp only [chk] at ht
      split at ht
      · cases ht; exact fin rfl
      · cases ht
    | call F x hp wr' =>
      simp only at ht
      obtain ⟨r, _, h2⟩ := Option.bind_eq_some_iff.1 ht
      cases h2
      exact fin rfl
    | new v => cases ht; exact fin rfl
    | eff c i v hp wr' => cases ht
    | sh s L => cases ht

/-- one step of the abstract run, guard and all -/
def step1 (C : Ctx) (ops : Array Oper) (o : Oper) (S : St) : Option (List Nat × St) :=
  match guardOf ops S.fr o with
  | none => none
  | some g => T C g o S pr

theorem step1_sound (hC : CtxOk P C) (h : Behind G0 S a w) {ops : Array Oper} (o : Oper) {wr : List Nat} {S' : St} (ht : step1 C ops o S = some (wr, S')) {Q : Exit → Act → World → Prop} :
    if Region.wanted o (yielded ops a.tmps) then o.wp P a w (fun a' w' => Behind G0 S' a' w') Q else Behind G0 S' (a.put o.dst undef) w := by
  obtain ⟨β, σ, h⟩ := h
  unfold step1 at ht
  cases hgo : guardOf ops S.fr o with
  | none => rw [hgo] at ht; cases ht
  | some g =>
    rw [hgo] at ht
    simp only at ht
    unfold guardOf at hgo
    cases hgd : o.guard with
    | none =>
      rw [hgd] at hgo
      cases hgo
      rw [if_pos (by simp [Region.wanted, hgd])]
      exact T_yes hC h (fun _ e => by cases e) (fun _ e => by cases e) o (fun _ e => by cases e) ht
    | some jw =>
      obtain ⟨j, wt⟩ := jw
      rw [hgd] at hgo
      simp only at hgo
      cases hd : (ops[j]?).bind (·.dst) with
      | none => rw [hd] at hgo; cases hgo
      | some d =>
        rw [hd] at hgo
        simp only at hgo
        split at hgo
        · cases hgo
        · rename_i hne
          have key : ∀ b sure, g = some ⟨d, wt, (b == wt), sure⟩ → (a.tmps[d]? = some (.bool wt) → b = wt) → (sure = true → a.tmps[d]? ≠ some (.bool wt) → b ≠ wt) →
              if Region.wanted o (yielded ops a.tmps) then o.wp P a w (fun a' w' => Behind G0 S' a' w') Q else Behind G0 S' (a.put o.dst undef) w := by
            intro b sure hg hb hs
            subst hg
            by_cases hw : a.tmps[d]? = some (.bool wt)
            · rw [if_pos (by simp [Region.wanted, hgd, yielded, hd, hw])]
              exact T_yes hC h (fun gd e => by cases e; exact hw) (fun gd e => by cases e; simp [hb hw]) o (fun gd e => by cases e; exact hne) ht
            · rw [if_neg]
              · exact T_no h (gd := ⟨d, wt, (b == wt), sure⟩) hw (fun e => by simpa using hs e hw) o hne ht
              · simp only [Region.wanted, hgd, yielded, hd, Option.bind_some]
                cases hx : a.tmps[d]? with
                | none => simp
                | some v =>
                  cases v <;> simp
                  rename_i b'
                  intro e
                  exact hw (by rw [hx, e])
          have hlt : ∀ v, a.tmps[d]? = some v → AtV (G0.at w β σ S.hp) a.tmps (nth S.fr d) v := fun v hv => h.fr d v hv
          split at hgo
          · rename_i b heq
            refine key b true (Option.some.inj hgo).symm (fun hw => ?_) fun _ hw e => ?_
            · have := hlt _ hw
              rw [heq] at this
              have := this.bool
              simpa using this.symm
            · have hlt2 : d < a.tmps.size := by
                rcases Nat.lt_or_ge d a.tmps.size with h' | h'
                · exact h'
                · rw [nth_of_ge (by rw [← h.size]; exact h')] at heq; cases heq
              have hx := Array.getElem?_eq_getElem hlt2
              have := hlt _ hx
              rw [heq] at this
              have := this.bool
              rw [this, e] at hx
              exact hw hx
          · rename_i d' w' b heq
            refine key b false (Option.some.inj hgo).symm (fun hw => ?_) fun e => by cases e
            have := hlt _ hw
            rw [heq] at this
            simp only [AtV] at this
            by_cases hc : a.tmps[d']? = some (.bool w')
            · have := AtV.bool (G := G0.at w β σ S.hp) (tm := #[]) (by simpa only [AtV] using this.1 hc)
              simpa using this.symm
            · have := this.2 hc
              simp [undef] at this
          · cases hgo

end
end Go.Bx
namespace Go.Bx
set_option linter.unusedVariables false
set_option linter.unusedSimpArgs false
open Go Go.RowKit

def edgesLow (i : Nat) (o : Oper) : Bool := o.after.toList.all fun e => !Region.binds .any e || Nat.blt e.on i
def guardEdge (o : Oper) : Bool := match o.guard with
  | none => true
  | some (j, _) => o.after.toList.any fun e => Region.binds .any e && Nat.beq e.on j

def pairOk (ops : Array Oper) (ms : List Nat) (i : Nat) (oi : Oper) : Nat → List Oper → Bool
  | _, [] => true
  | x, ox :: r => (Nat.ble i x || (ms.getD i 0).testBit x || ox.apart ops oi) && pairOk ops ms i oi (x + 1) r

def dstNe (i : Nat) (oi : Oper) : Nat → List Oper → Bool
  | _, [] => true
  | x, ox :: r => (Nat.beq x i || oi.dst.isNone || decide (ox.dst ≠ oi.dst)) && dstNe i oi (x + 1) r

def rowOk (ops : Array Oper) (ms : List Nat) : Nat → List Oper → Bool
  | _, [] => true
  | i, o :: r => edgesLow i o && guardEdge o && pairOk ops ms i o 0 ops.toList && dstNe i o 0 ops.toList && rowOk ops ms (i + 1) r

/-- whatever order the region's edges allow, it comes to the same -/
def drawOk (ops : Array Oper) : Bool := Region.noSelect ops && rowOk ops (masks ops.toList []) 0 ops.toList

inductive Dep (ops : Array Oper) : Nat → Nat → Prop
  | edge {j : Nat} {o : Oper} {e : Edge} (ho : ops[j]? = some o) (he : e ∈ o.after) (hb : Region.binds .any e = true) : Dep ops e.on j
  | step {x j : Nat} {o : Oper} {e : Edge} (ho : ops[j]? = some o) (he : e ∈ o.after) (hb : Region.binds .any e = true) (h : Dep ops x e.on) : Dep ops x j

theorem maskOf_spec {ops : Array Oper} {acc : List Nat} {j : Nat} {o : Oper} (ho : ops[j]? = some o) (hacc : ∀ k m, acc[k]? = some m → ∀ x, m.testBit x = true → Dep ops x k) :
    ∀ (es : List Edge), (∀ e ∈ es, e ∈ o.after) → ∀ m0, (∀ x, m0.testBit x = true → Dep ops x j) → ∀ x, (es.foldl (fun m e => if Region.binds .any e then m ||| 2 ^ e.on ||| acc.getD e.on 0 else m) m0).testBit x = true → Dep ops x j
  | [], _, _, h0, x, hx => h0 x hx
  | e :: es, hes, m0, h0, x, hx => by
    simp only [List.foldl_cons] at hx
    refine maskOf_spec ho hacc es (fun e' he' => hes e' (List.mem_cons_of_mem _ he')) _ (fun y hy => ?_) x hx
    split at hy
    · rename_i hb
      simp only [Nat.testBit_or, Bool.or_eq_true] at hy
      rcases hy with (hy | hy) | hy
      · exact h0 y hy
      · have : y = e.on := by
          rw [Nat.testBit_two_pow] at hy
          simpa using (of_decide_eq_true hy).symm
        subst this
        exact .edge ho (hes e (by simp)) hb
      · cases hk : acc[e.on]? with
        | none => simp [List.getD, hk] at hy
        | some m => exact .step ho (hes e (by simp)) hb (hacc _ _ hk y (by simpa [List.getD, hk] using hy))
    · exact h0 y hy

theorem masks_spec {ops : Array Oper} : ∀ (l : List Oper) (acc : List Nat), (∀ k, l[k]? = ops[acc.length + k]?) → (∀ k m, acc[k]? = some m → ∀ x, m.testBit x = true → Dep ops x k) →
    ∀ k m, (masks l acc)[k]? = some m → ∀ x, m.testBit x = true → Dep ops x k
  | [], acc, _, hacc, k, m, hk, x, hx => hacc k m hk x hx
  | o :: r, acc, hl, hacc, k, m, hk, x, hx => by
    simp only [masks] at hk
    have h0 : ops[acc.length]? = some o := by simpa using (hl 0).symm
    refine masks_spec r _ (fun k => ?_) (fun k m hk x hx => ?_) k m hk x hx
    · have := hl (k + 1)
      simpa [Nat.add_assoc, Nat.add_comm 1 k] using this
    · rw [List.getElem?_append] at hk
      split at hk
      · exact hacc k m hk x hx
      · rename_i hge
        have hk0 : k = acc.length := by
          rcases Nat.lt_or_ge (k - acc.length) 1 with h | h
          · omega
          · rw [List.getElem?_eq_none (by simpa using h)] at hk; cases hk
        subst hk0
        simp at hk
        subst hk
        exact maskOf_spec h0 hacc _ (fun e he => by simpa using he) 0 (fun x hx => by simp at hx) x hx

theorem pairOk_spec {ops : Array Oper} {ms : List Nat} {i : Nat} {oi : Oper} : ∀ (l : List Oper) (s : Nat), pairOk ops ms i oi s l = true → ∀ k ox, l[k]? = some ox → s + k < i → (ms.getD i 0).testBit (s + k) = true ∨ ox.apart ops oi = true
  | [], _, _, k, ox, h, _ => by simp at h
  | o :: r, s, h, 0, ox, hk, hlt => by
    simp at hk; subst hk
    simp only [pairOk, Bool.and_eq_true, Bool.or_eq_true] at h
    rcases h.1 with (h1 | h1) | h1
    · have := Nat.le_of_ble_eq_true h1; omega
    · exact .inl (by simpa using h1)
    · exact .inr h1
  | o :: r, s, h, k + 1, ox, hk, hlt => by
    simp only [pairOk, Bool.and_eq_true] at h
    have := pairOk_spec r (s + 1) h.2 k ox (by simpa using hk) (by omega)
    rwa [show s + 1 + k = s + (k + 1) by omega] at this

theorem dstNe_spec {i : Nat} {oi : Oper} : ∀ (l : List Oper) (s : Nat), dstNe i oi s l = true → ∀ k ox, l[k]? = some ox → s + k ≠ i → ∀ d, oi.dst = some d → ox.dst ≠ some d
  | [], _, _, k, ox, h, _, _, _ => by simp at h
  | o :: r, s, h, 0, ox, hk, hne, d, hd => by
    simp at hk; subst hk
    simp only [dstNe, Bool.and_eq_true, Bool.or_eq_true, decide_eq_true_eq] at h
    rcases h.1 with (h1 | h1) | h1
    · exact absurd (Nat.eq_of_beq_eq_true h1) (by simpa using hne)
    · rw [hd] at h1; simp at h1
    · rw [hd] at h1; exact h1
  | o :: r, s, h, k + 1, ox, hk, hne, d, hd => by
    simp only [dstNe, Bool.and_eq_true] at h
    exact dstNe_spec r (s + 1) h.2 k ox (by simpa using hk) (by omega) d hd

theorem rowOk_spec {ops : Array Oper} {ms : List Nat} : ∀ (l : List Oper) (s : Nat), rowOk ops ms s l = true → ∀ k o, l[k]? = some o →
    edgesLow (s + k) o = true ∧ guardEdge o = true ∧ pairOk ops ms (s + k) o 0 ops.toList = true ∧ dstNe (s + k) o 0 ops.toList = true
  | [], _, _, k, o, h => by simp at h
  | o :: r, s, h, 0, o', hk => by
    simp at hk; subst hk
    simp only [rowOk, Bool.and_eq_true] at h
    exact ⟨h.1.1.1.1, h.1.1.1.2, h.1.1.2, h.1.2⟩
  | o :: r, s, h, k + 1, o', hk => by
    simp only [rowOk, Bool.and_eq_true] at h
    have := rowOk_spec r (s + 1) h.2 k o' (by simpa using hk)
    rwa [show s + 1 + k = s + (k + 1) by omega] at this

structure DrawFacts (ops : Array Oper) : Prop where
  low : ∀ (i : Nat) (o : Oper), ops[i]? = some o → ∀ e ∈ o.after, Region.binds .any e = true → e.on < i
  grd : ∀ (i : Nat) (o : Oper) (j : Nat) (w : Bool), ops[i]? = some o → o.guard = some (j, w) → ∃ e ∈ o.after, Region.binds .any e = true ∧ e.on = j
  pair : ∀ (x i : Nat) (ox oi : Oper), ops[x]? = some ox → ops[i]? = some oi → x < i → Dep ops x i ∨ ox.apart ops oi = true
  dst : ∀ (x i : Nat) (ox oi : Oper) (d : Nat), ops[x]? = some ox → ops[i]? = some oi → x ≠ i → oi.dst = some d → ox.dst ≠ some d

theorem drawOk_facts {ops : Array Oper} (h : drawOk ops = true) : DrawFacts ops := by
  simp only [drawOk, Bool.and_eq_true] at h
  have hr := rowOk_spec ops.toList 0 h.2
  have row : ∀ i o, ops[i]? = some o → edgesLow i o = true ∧ guardEdge o = true ∧ pairOk ops (masks ops.toList []) i o 0 ops.toList = true ∧ dstNe i o 0 ops.toList = true := fun i o ho => by
    have := hr i o (by simpa using ho)
    simpa using this
  refine ⟨fun i o ho e he hb => ?_, fun i o j w ho hg => ?_, fun x i ox oi hx hi hlt => ?_, fun x i ox oi d hx hi hne hd => ?_⟩
  · have := (row i o ho).1
    simp only [edgesLow, List.all_eq_true] at this
    have := this e (by simpa using he)
    simp only [hb, Bool.not_true, Bool.false_or] at this
    exact Nat.le_of_ble_eq_true this
  · have := (row i o ho).2.1
    simp only [guardEdge, hg, List.any_eq_true, Bool.and_eq_true] at this
    obtain ⟨e, he, hb, hj⟩ := this
    exact ⟨e, by simpa using he, hb, Nat.eq_of_beq_eq_true hj⟩
  · have := pairOk_spec ops.toList 0 (row i oi hi).2.2.1 x ox (by simpa using hx) (by omega)
    rw [Nat.zero_add] at this
    refine this.imp (fun hm => ?_) id
    cases hk : (masks ops.toList [])[i]? with
    | none => simp [List.getD, hk] at hm
    | some m => exact masks_spec ops.toList [] (fun k => by simp) (fun k m hk => by simp at hk) i m hk x (by simpa [List.getD, hk] using hm)
  · exact dstNe_spec ops.toList 0 (row i oi hi).2.2.2 x ox (by simpa using hx) (by omega) d hd

/-- whoever stands behind is listed where all that it waits for is -/
theorem Dep.listed {ops : Array Oper} {listed : Array Bool} (hdown : ∀ j o, ops[j]? = some o → listed.getD j false = true → ∀ e ∈ o.after, Region.binds .any e = true → listed.getD e.on false = true) {x j : Nat} (h : Dep ops x j) :
    (∀ o, ops[j]? = some o → ∀ e ∈ o.after, Region.binds .any e = true → listed.getD e.on false = true) → listed.getD x false = true := by
  induction h with
  | edge ho he hb => exact fun hp => hp _ ho _ he hb
  | step ho he hb _ ih => exact fun hp => ih fun o' ho' => hdown _ o' ho' (hp _ ho _ he hb)

end Go.Bx
namespace Go.Bx
set_option linter.unusedVariables false
set_option linter.unusedSimpArgs false
open Go Go.RowKit

/-! ### what an operation looks at, and nothing else, counts: the blocks -/

/-- the same blocks under these numbers -/
abbrev Agree (L : List Nat) (hp hp' : Heap) : Prop := ∀ i ∈ L, nthB hp' i = nthB hp i

theorem Agree.sub {L M : List Nat} {hp hp' : Heap} (h : Agree L hp hp') (hs : ∀ i ∈ M, i ∈ L) : Agree M hp hp' := fun i hi => h i (hs i hi)

mutual
theorem rd_agree {hp hp' : Heap} : ∀ v : V, Agree v.ids hp hp' → rd hp' v = rd hp v
  | .app id ver, h => by simp only [rd]; rw [h id (by simp [V.ids])]
  | .view id p t n lo hi, h => by simp only [rd]; rw [h id (by simp [V.ids])]
  | .agg t l, h => by simp only [rd]; rw [rdL_agree l (fun i hi => h i (by simpa [V.ids] using hi))]
  | .any, _ => rfl
  | .data _ _, _ => rfl
  | .nilp, _ => rfl
  | .snil, _ => rfl
  | .ref _ _ _, _ => rfl
  | .iref _ _, _ => rfl
  | .tup _, _ => rfl
  | .opt _ _ _, _ => rfl
  | .fn _ _ _, _ => rfl
  | .full _ _, _ => rfl
  | .ifc _ _, _ => rfl
  | .map _, _ => rfl
theorem rdL_agree {hp hp' : Heap} : ∀ l : List V, Agree (V.idsL l) hp hp' → rdL hp' l = rdL hp l
  | [], _ => rfl
  | v :: l, h => by simp only [rdL]; rw [rd_agree v (fun i hi => h i (by simp [V.idsL, hi])), rdL_agree l (fun i hi => h i (by simp [V.idsL, hi]))]
end

mutual
theorem loose_agree {hp hp' : Heap} : ∀ v : V, Agree v.ids hp hp' → loose hp' v = loose hp v
  | .app id ver, h => by simp only [loose]; rw [h id (by simp [V.ids])]
  | .view id p t n lo hi, h => by simp only [loose]; rw [h id (by simp [V.ids])]
  | .agg t l, h => by simp only [loose]; rw [looseL_agree l (fun i hi => h i (by simpa [V.ids] using hi))]
  | .any, _ => rfl
  | .data _ _, _ => rfl
  | .nilp, _ => rfl
  | .snil, _ => rfl
  | .ref _ _ _, _ => rfl
  | .iref _ _, _ => rfl
  | .tup _, _ => rfl
  | .opt _ _ _, _ => rfl
  | .fn _ _ _, _ => rfl
  | .full _ _, _ => rfl
  | .ifc _ _, _ => rfl
  | .map _, _ => rfl
theorem looseL_agree {hp hp' : Heap} : ∀ l : List V, Agree (V.idsL l) hp hp' → looseL hp' l = looseL hp l
  | [], _ => rfl
  | v :: l, h => by simp only [looseL]; rw [loose_agree v (fun i hi => h i (by simp [V.idsL, hi])), looseL_agree l (fun i hi => h i (by simp [V.idsL, hi]))]
end

mutual
/-- freezing turns each block for itself -/
theorem frz_at {hp hp' : Heap} {i : Nat} : ∀ v : V, nthB hp' i = nthB hp i → nthB (frz hp' v) i = nthB (frz hp v) i
  | .app id _, h => by
    simp only [frz]
    by_cases e : i = id
    · subst e; rw [h]; cases nthB hp i <;> simp [h, look_set]
    · cases nthB hp id <;> cases nthB hp' id <;> simp only [look_set, if_neg e, h]
  | .view id _ _ _ _ _, h => by
    simp only [frz]
    by_cases e : i = id
    · subst e; rw [h]; cases nthB hp i <;> simp [h, look_set]
    · cases nthB hp id <;> cases nthB hp' id <;> simp only [look_set, if_neg e, h]
  | .agg _ l, h => by simp only [frz]; exact frzL_at l h
  | .any, h => h
  | .data _ _, h => h
  | .nilp, h => h
  | .snil, h => h
  | .ref _ _ _, h => h
  | .iref _ _, h => h
  | .tup _, h => h
  | .opt _ _ _, h => h
  | .fn _ _ _, h => h
  | .full _ _, h => h
  | .ifc _ _, h => h
  | .map _, h => h
theorem frzL_at {hp hp' : Heap} {i : Nat} : ∀ l : List V, nthB hp' i = nthB hp i → nthB (frzL hp' l) i = nthB (frzL hp l) i
  | [], h => h
  | v :: l, h => by simp only [frzL]; exact frzL_at l (frz_at v h)
end

mutual
theorem frz_off {hp : Heap} {i : Nat} : ∀ v : V, i ∉ v.ids → nthB (frz hp v) i = nthB hp i
  | .app id _, h => by
    simp only [frz]
    have e : i ≠ id := fun e => h (by simp [V.ids, e])
    cases nthB hp id <;> simp only [look_set, if_neg e]
  | .view id _ _ _ _ _, h => by
    simp only [frz]
    have e : i ≠ id := fun e => h (by simp [V.ids, e])
    cases nthB hp id <;> simp only [look_set, if_neg e]
  | .agg _ l, h => by simp only [frz]; exact frzL_off l (by simpa [V.ids] using h)
  | .any, _ => rfl
  | .data _ _, _ => rfl
  | .nilp, _ => rfl
  | .snil, _ => rfl
  | .ref _ _ _, _ => rfl
  | .iref _ _, _ => rfl
  | .tup _, _ => rfl
  | .opt _ _ _, _ => rfl
  | .fn _ _ _, _ => rfl
  | .full _ _, _ => rfl
  | .ifc _ _, _ => rfl
  | .map _, _ => rfl
theorem frzL_off {hp : Heap} {i : Nat} : ∀ l : List V, i ∉ V.idsL l → nthB (frzL hp l) i = nthB hp i
  | [], _ => rfl
  | v :: l, h => by
    simp only [V.idsL, List.mem_append, not_or] at h
    simp only [frzL]; rw [frzL_off l h.2, frz_off v h.1]
end

/-- the blocks behind an operation, here and there -/
structure Loc (hp h hp' h' : Heap) (wr : List Nat) : Prop where
  on : ∀ i ∈ wr, nthB h' i = nthB h i
  off : ∀ i, i ∉ wr → nthB h i = nthB hp i
  off' : ∀ i, i ∉ wr → nthB h' i = nthB hp' i

theorem Loc.nil {hp hp' : Heap} : Loc hp hp hp' hp' [] := ⟨fun _ h => by simp at h, fun _ _ => rfl, fun _ _ => rfl⟩

theorem Loc.set {hp hp' : Heap} {d : Nat} {b : Blk} : Loc hp (setB hp d b) hp' (setB hp' d b) [d] :=
  ⟨fun i hi => by simp only [List.mem_singleton] at hi; subst hi; simp [look_set], fun i hi => by simp only [List.mem_singleton] at hi; rw [look_set, if_neg hi], fun i hi => by simp only [List.mem_singleton] at hi; rw [look_set, if_neg hi]⟩

theorem Loc.frzL {hp hp' : Heap} {l : List V} (h : Agree (V.idsL l) hp hp') : Loc hp (frzL hp l) hp' (Bx.frzL hp' l) (V.idsL l) :=
  ⟨fun i hi => frzL_at l (h i hi), fun i hi => frzL_off l hi, fun i hi => frzL_off l hi⟩

theorem Loc.frz {hp hp' : Heap} {v : V} (h : Agree v.ids hp hp') : Loc hp (frz hp v) hp' (Bx.frz hp' v) v.ids :=
  ⟨fun i hi => frz_at v (h i hi), fun i hi => frz_off v hi, fun i hi => frz_off v hi⟩

theorem Loc.set_frz {hp hp' : Heap} {v : V} {d : Nat} {b : Blk} (h : Agree v.ids hp hp') : Loc hp (setB (Bx.frz hp v) d b) hp' (setB (Bx.frz hp' v) d b) (d :: v.ids) := by
  refine ⟨fun i hi => ?_, fun i hi => ?_, fun i hi => ?_⟩
  · rw [look_set, look_set]
    split
    · rfl
    · rename_i hne
      exact frz_at v (h i ((List.mem_cons.1 hi).resolve_left hne))
  all_goals
    simp only [List.mem_cons, not_or] at hi
    rw [look_set, if_neg hi.1, frz_off v hi.2]

inductive OutLoc (hp hp' : Heap) : Out → Out → Prop
  | eff {c i v h h' wr} (l : Loc hp h hp' h' wr) : OutLoc hp hp' (.eff c i v h wr) (.eff c i v h' wr)
  | call {F a h h' wr} (l : Loc hp h hp' h' wr) : OutLoc hp hp' (.call F a h wr) (.call F a h' wr)
  | sh {s L} : OutLoc hp hp' (.sh s L) (.sh s L)
  | val {c i v} : OutLoc hp hp' (.val c i v) (.val c i v)

/-- what is written -/
def Out.wr : Out → List Nat
  | .eff _ _ _ _ w => w
  | .call _ _ _ w => w
  | _ => []

mutual
theorem ids_sane : ∀ v : V, ∀ i ∈ (sane v).ids, i ∈ v.ids
  | .opt _ _ _, i, h => by simp [sane, V.ids] at h
  | .any, _, h => h
  | .data _ _, _, h => h
  | .nilp, _, h => h
  | .snil, _, h => h
  | .ref _ _ _, _, h => h
  | .iref _ _, _, h => h
  | .tup _, _, h => h
  | .fn _ _ _, _, h => h
  | .full _ _, _, h => h
  | .app _ _, _, h => h
  | .view _ _ _ _ _ _, _, h => h
  | .agg _ _, _, h => h
  | .ifc _ _, _, h => h
  | .map _, _, h => h
end

theorem ids_un (g : Option Gd) (v : V) : ∀ i ∈ (un g v).ids, i ∈ v.ids := by
  intro i h
  cases v <;> simp only [un] at h <;> try exact h
  rename_i d w u
  cases g with
  | none => simp [V.ids] at h
  | some g =>
    simp only at h
    split at h
    · simpa [V.ids] using ids_sane u i h
    · simp [V.ids] at h

theorem ids_dd (v : V) : ∀ i ∈ (dd v).ids, i ∈ v.ids := by
  intro i h
  cases v <;> simp only [dd] at h <;> first | exact h | simp [V.ids] at h

theorem ids_nilT (u : Ty) (v : V) : ∀ i ∈ (nilT u v).ids, i ∈ v.ids := by
  intro i h
  cases v <;> simp only [nilT] at h <;> first | exact h | (cases u <;> simp [V.ids] at h)

theorem mem_idsL {l : List V} {v : V} {i : Nat} (hv : v ∈ l) (hi : i ∈ v.ids) : i ∈ V.idsL l := by
  induction l with
  | nil => cases hv
  | cons a l ih =>
    simp only [V.idsL, List.mem_append]
    rcases List.mem_cons.1 hv with e | e
    · subst e; exact .inl hi
    · exact .inr (ih e)

theorem idsL_mem {l : List V} {i : Nat} (h : i ∈ V.idsL l) : ∃ v ∈ l, i ∈ v.ids := by
  induction l with
  | nil => simp [V.idsL] at h
  | cons a l ih =>
    simp only [V.idsL, List.mem_append] at h
    rcases h with h | h
    · exact ⟨a, by simp, h⟩
    · obtain ⟨v, h1, h2⟩ := ih h; exact ⟨v, List.mem_cons_of_mem _ h1, h2⟩

theorem idsL_append (l m : List V) : V.idsL (l ++ m) = V.idsL l ++ V.idsL m := by
  induction l with
  | nil => rfl
  | cons a l ih => simp [V.idsL, ih]

/-- the numbers that an operand's value names -/
theorem ids_ev {fr : List V} {L : List Operand} {x : Operand} (hx : x ∈ L) : ∀ i ∈ (ev fr x).ids, i ∈ V.idsL (L.map (ev fr)) := fun i hi => mem_idsL (List.mem_map_of_mem hx) hi

theorem target_ids {C : Ctx} {g : Option Gd} {fr : List V} {c : Call} {f : Nat} {args : List V} (h : target C (fun x => un g (ev fr x)) c = some (f, args)) : ∀ i ∈ V.idsL args, i ∈ V.idsL (c.operands.toList.map (ev fr)) := by
  unfold target at h
  have hargs : ∀ x ∈ c.args.toList, x ∈ c.operands.toList := fun x hx => by simp [Call.operands]; right; simpa using hx
  have arg : ∀ i ∈ V.idsL (c.args.toList.map fun x => un g (ev fr x)), i ∈ V.idsL (c.operands.toList.map (ev fr)) := fun i hi => by
    obtain ⟨v, h1, h2⟩ := idsL_mem hi
    obtain ⟨x, hx, rfl⟩ := List.mem_map.1 h1
    exact ids_ev (hargs x hx) i (ids_un g _ i h2)
  have sn : ∀ (l : List V), ∀ i ∈ V.idsL (l.map sane), i ∈ V.idsL l := fun l i hi => by
    obtain ⟨v, h1, h2⟩ := idsL_mem hi
    obtain ⟨x, hx, rfl⟩ := List.mem_map.1 h1
    exact mem_idsL hx (ids_sane _ i h2)
  split at h
  · rename_i fo hc
    split at h
    · rename_i f' fst cap he
      cases h
      intro i hi
      simp only [callArgs, idsL_append, List.nil_append, List.mem_append] at hi
      have hf : ∀ i ∈ (ev fr fo).ids, i ∈ V.idsL (c.operands.toList.map (ev fr)) := ids_ev (by simp [Call.operands, hc])
      have he' : un g (ev fr fo) = .fn f fst cap := he
      have hfc : ∀ i, (i ∈ V.idsL fst ∨ i ∈ V.idsL cap) → i ∈ (ev fr fo).ids := fun i hi => ids_un g _ i (by rw [he']; simpa [V.ids] using hi)
      rcases hi with (hi | hi) | hi
      · exact hf i (hfc i (.inl (sn _ i hi)))
      · exact arg i hi
      · exact hf i (hfc i (.inr (sn _ i hi)))
    · cases h
  · rename_i r m hc
    split at h
    · rename_i t v he0
      have he : un g (ev fr r) = .ifc t v := he0
      split at h
      · cases h
        intro i hi
        simp only [callArgs, idsL_append, List.map_nil, List.append_nil, V.idsL, List.mem_append] at hi
        rcases hi with hi | hi
        · exact ids_ev (L := c.operands.toList) (x := r) (by simp [Call.operands, hc]) i (ids_un g _ i (by rw [he]; simpa [V.ids] using ids_sane _ i hi))
        · exact arg i hi
      · cases h
    · cases h
  · cases h

theorem buildV_congr {e e' : Operand → V} {τ : Ty} : ∀ (l : List (Nat × Operand)) (c : τ.den), (∀ p ∈ l, e' p.2 = e p.2) → buildV e' τ l c = buildV e τ l c
  | [], _, _ => rfl
  | (i, x) :: r, c, h => by
    have ih := fun c : τ.den => buildV_congr (τ := τ) r c fun p hp => h p (List.mem_cons_of_mem _ hp)
    have hx : e' x = e x := h (i, x) (by simp)
    simp only [buildV, hx, ih]

theorem buildT_congr {e e' : Operand → V} {τ : Ty} : ∀ (l : List (Nat × Operand)) (c : V), (∀ p ∈ l, e' p.2 = e p.2) → buildT e' τ l c = buildT e τ l c
  | [], _, _ => rfl
  | (i, x) :: r, c, h => by
    have ih := fun c => buildT_congr (τ := τ) r c fun p hp => h p (List.mem_cons_of_mem _ hp)
    have hx : e' x = e x := h (i, x) (by simp)
    simp only [buildT, hx, ih]

theorem mem_parts {parts : Array (Nat × Operand)} {p : Nat × Operand} (h : p ∈ parts.toList) : p.2 ∈ (parts.toList.map (·.2)) := List.mem_map.2 ⟨p, h, rfl⟩

theorem valR_local {C : Ctx} {g : Option Gd} {fr : List V} {hp hp' : Heap} {op : Op} (h : Agree (V.idsL (op.operands.toList.map (ev fr))) hp hp') : valR C g fr hp' op = valR C g fr hp op := by
  have E : ∀ x, x ∈ op.operands → Agree (un g (ev fr x)).ids hp hp' := fun x hx i hi => h i (ids_ev (by simpa using hx) i (ids_un g _ i hi))
  have D : ∀ x, x ∈ op.operands → Agree (dd (un g (ev fr x))).ids hp hp' := fun x hx i hi => E x hx i (ids_dd _ i hi)
  have R : ∀ x, x ∈ op.operands → rd hp' (dd (un g (ev fr x))) = rd hp (dd (un g (ev fr x))) := fun x hx => rd_agree _ (D x hx)
  have I : ∀ x id ver p, x ∈ op.operands → dd (un g (ev fr x)) = .ref id ver p → nthB hp' id = nthB hp id := fun x id ver p hx e => D x hx id (by rw [e]; simp [V.ids])
  cases op <;> simp only [valR] <;> simp only [Op.operands] at E D R I
  case load t x =>
    cases look C.ty t with
    | none => rfl
    | some τ =>
      cases he : dd (un g (ev fr x)) <;> try rfl
      simp only [I x _ _ _ (by simp) he]
  case indexAddr t x i =>
    cases look C.ty t with
    | none => rfl
    | some τ =>
      cases he : dd (un g (ev fr x)) with
      | ref id ver p =>
        have := I x _ _ _ (by simp) he
        cases τ <;> cases dd (un g (ev fr i)) <;> first | rfl | (rename_i t3 n3; cases t3 <;> first | rfl | simp only [this])
      | app id ver =>
        have : nthB hp' id = nthB hp id := D x (by simp) id (by rw [he]; simp [V.ids])
        cases τ <;> cases dd (un g (ev fr i)) <;> first | rfl | (rename_i t3 n3; cases t3 <;> first | rfl | simp only [this])
      | data t' y => cases τ <;> cases t' <;> cases dd (un g (ev fr i)) <;> first | rfl | (rename_i t3 n3; cases t3 <;> rfl)
      | iref t' y => cases τ <;> cases t' <;> cases dd (un g (ev fr i)) <;> first | rfl | (rename_i t3 n3; cases t3 <;> rfl)
      | _ => cases τ <;> cases dd (un g (ev fr i)) <;> first | rfl | (rename_i t3 n3; cases t3 <;> rfl)
  case fieldAddr t x j =>
    cases look C.ty t with
    | none => rfl
    | some τ =>
      cases he : dd (un g (ev fr x)) with
      | ref id ver p => simp only [I x _ _ _ (by simp) he]
      | _ => rfl
  case convert s d x =>
    have hr := R x (by simp)
    generalize dd (un g (ev fr x)) = v at hr
    generalize look C.ty s = a
    generalize look C.ty d = b
    split <;> first | rfl | simp only [hr] | skip
  case buildSlice t n parts =>
    have hb : ∀ (τ : Ty) (c : τ.den), buildV (fun x => rd hp' (dd (un g (ev fr x)))) τ parts.toList c = buildV (fun x => rd hp (dd (un g (ev fr x)))) τ parts.toList c := fun τ c => buildV_congr _ _ fun p hq => R p.2 (by simpa using mem_parts hq)
    have hl : parts.toList.any (fun p => loose hp' (dd (un g (ev fr p.2)))) = parts.toList.any (fun p => loose hp (dd (un g (ev fr p.2)))) := by
      rw [Bool.eq_iff_iff]
      simp only [List.any_eq_true]
      exact exists_congr fun p => and_congr_right fun hq => by rw [loose_agree _ (D p.2 (by simpa using mem_parts hq))]
    simp only [hb, hl]
  case slice t x lo hi mx =>
    cases he : dd (un g (ev fr x)) with
    | ref id ver p => have := I x _ _ _ (by simp) he; simp only [this]
    | app id ver =>
      have : nthB hp' id = nthB hp id := D x (by simp) id (by rw [he]; simp [V.ids])
      simp only [this]
    | data t' y => cases t' <;> rfl
    | iref t' y => cases t' <;> rfl
    | _ => rfl
  case call c =>
    cases hc : c.callee with
    | builtin b =>
      have hl : c.args.toList.map (fun x => rd hp' (dd (un g (ev fr x)))) = c.args.toList.map (fun x => rd hp (dd (un g (ev fr x)))) :=
        List.map_congr_left fun x hx => R x (by simp [Call.operands, hc]; simpa using hx)
      simp only [hl]; cases b <;> rfl
    | value f =>
      simp only
      cases ht : target C (fun x => un g (ev fr x)) c with
      | none => rfl
      | some fa =>
        obtain ⟨f, args⟩ := fa
        have : rdL hp' args = rdL hp args := rdL_agree args (h.sub (target_ids ht))
        have hlo : looseL hp' args = looseL hp args := looseL_agree args (h.sub (target_ids ht))
        simp only [this, hlo]
    | invoke r m =>
      simp only
      cases ht : target C (fun x => un g (ev fr x)) c with
      | none => rfl
      | some fa =>
        obtain ⟨f, args⟩ := fa
        have : rdL hp' args = rdL hp args := rdL_agree args (h.sub (target_ids ht))
        have hlo : looseL hp' args = looseL hp args := looseL_agree args (h.sub (target_ids ht))
        simp only [this, hlo]

end Go.Bx
namespace Go.Bx
set_option linter.unusedVariables false
set_option linter.unusedSimpArgs false
open Go Go.RowKit

theorem mem_iff {l : List Nat} {i : Nat} : mem l i = true ↔ i ∈ l := by
  simp only [mem, List.any_eq_true]
  constructor
  · rintro ⟨x, h1, h2⟩; rw [Nat.eq_of_beq_eq_true h2]; exact h1
  · exact fun h => ⟨i, h, Nat.beq_refl i⟩

theorem mem_addN : ∀ (r l : List Nat) (i : Nat), i ∈ addN l r ↔ i ∈ l ∨ i ∈ r
  | [], l, i => by simp [addN]
  | j :: r, l, i => by
    simp only [addN]
    split
    · rename_i h
      rw [mem_addN r l i, List.mem_cons]
      have := mem_iff.1 h
      constructor
      · rintro (h | h) <;> simp [h]
      · rintro (h | h | h)
        · exact .inl h
        · subst h; exact .inl this
        · exact .inr h
    · rw [mem_addN r (l ++ [j]) i, List.mem_append, List.mem_singleton, List.mem_cons, or_assoc]

theorem closeN_sub {hp : Heap} : ∀ (k : Nat) (l : List Nat) (i : Nat), i ∈ l → i ∈ closeN hp k l
  | 0, _, _, h => h
  | k + 1, l, i, h => by simp only [closeN]; exact closeN_sub k _ i ((mem_addN _ _ _).2 (.inl h))

theorem closeN_mono {hp : Heap} : ∀ (k : Nat) (l l' : List Nat), (∀ i ∈ l, i ∈ l') → ∀ i ∈ closeN hp k l, i ∈ closeN hp k l'
  | 0, _, _, h => h
  | k + 1, l, l', h => by
    simp only [closeN]
    refine closeN_mono k _ _ fun i hi => ?_
    rw [mem_addN] at hi ⊢
    refine hi.imp (h i) fun hi => ?_
    rw [List.mem_flatMap] at hi ⊢
    obtain ⟨j, h1, h2⟩ := hi
    exact ⟨j, h j h1, h2⟩

theorem flatMap_congr' {α β : Type} {l : List α} {f g : α → List β} (h : ∀ a ∈ l, f a = g a) : l.flatMap f = l.flatMap g := by
  induction l with
  | nil => rfl
  | cons a l ih => simp only [List.flatMap_cons, h a (by simp), ih fun a ha => h a (List.mem_cons_of_mem _ ha)]

theorem closeN_agree {hp hp' : Heap} : ∀ (k : Nat) (l : List Nat), Agree (closeN hp k l) hp hp' → closeN hp' k l = closeN hp k l
  | 0, _, _ => rfl
  | k + 1, l, h => by
    simp only [closeN] at h ⊢
    have : (l.flatMap fun i => blkIds (nthB hp' i)) = l.flatMap fun i => blkIds (nthB hp i) := flatMap_congr' fun i hi => by
      rw [h i (closeN_sub k _ i ((mem_addN _ _ _).2 (.inl hi)))]
    rw [this]
    exact closeN_agree k _ h

theorem reach_mono {hp : Heap} {a b : List V} (h : ∀ i ∈ V.idsL a, i ∈ V.idsL b) : ∀ i ∈ reach hp a, i ∈ reach hp b := by
  refine closeN_mono 6 _ _ fun i hi => ?_
  rw [mem_addN] at hi ⊢
  exact hi.imp id (h i)

theorem reach_sub {hp : Heap} {a : List V} : ∀ i ∈ V.idsL a, i ∈ reach hp a := fun i hi => closeN_sub 6 _ i ((mem_addN _ _ _).2 (.inr hi))

theorem idxOf_mem {i k : Nat} : ∀ {l : List Nat}, idxOf l i = some k → i ∈ l
  | [], h => by simp [idxOf] at h
  | j :: r, h => by
    simp only [idxOf] at h
    split at h
    · rename_i e; rw [Nat.eq_of_beq_eq_true e]; simp
    · cases hr : idxOf r i with
      | none => rw [hr] at h; cases h
      | some k => exact List.mem_cons_of_mem _ (idxOf_mem hr)

theorem inn_agree {hp hp' : Heap} {L : List Nat} (h : Agree L hp hp') : inn hp' L = inn hp L := by
  funext i ver
  simp only [inn]
  cases hk : idxOf L i with
  | none => rfl
  | some k => simp only [ver0, h i (idxOf_mem hk)]

theorem getD_mem {L : List Nat} {i : Nat} (h : Nat.blt i L.length = true) : L.getD i 0 ∈ L := by
  have h' : i < L.length := Nat.le_of_ble_eq_true h
  simp [List.getD, List.getElem?_eq_getElem h']

theorem outw_agree {hp hp' : Heap} {L N : List Nat} {s : Nat} (h : Agree L hp hp') : outw hp' L N s = outw hp L N s := by
  funext i ver
  simp only [outw]
  split
  · rename_i hi; simp only [verUp, h _ (getD_mem hi)]
  · rfl

theorem outB_agree {hp hp' : Heap} {L N : List Nat} {s k : Nat} (h : Agree L hp hp') (b : Blk) : outB hp' L N s k b = outB hp L N s k b := by
  cases b <;> simp only [outB, outw_agree h]
  split
  · rename_i hi; simp only [verUp, h _ (getD_mem hi)]
  · rfl

theorem outH_agree {hp hp' : Heap} {L : List Nat} {s : Nat} (h : Agree L hp hp') (d : Heap) : outH hp' L s d = outH hp L s d := by
  simp only [outH]
  exact List.map_congr_left fun x _ => by rw [outB_agree h]

theorem innH_agree {hp hp' : Heap} {L : List Nat} (h : Agree L hp hp') : ∀ (r : List Nat) (k : Nat), (∀ i ∈ r, i ∈ L) → innH hp' L k r = innH hp L k r
  | [], _, _ => rfl
  | i :: r, k, hr => by
    simp only [innH, h i (hr i (by simp)), inn_agree h, innH_agree h r (k + 1) fun j hj => hr j (List.mem_cons_of_mem _ hj)]

theorem shCall_agree {C : Ctx} {hp hp' : Heap} {dst : Option Nat} {f : List V → Heap → Option Sh} {args : List V} (h : Agree (reach hp args) hp hp') : shCall C hp' dst f args = shCall C hp dst f args := by
  have hr : reach hp' args = reach hp args := closeN_agree 6 _ h
  simp only [shCall, hr, inn_agree h, innH_agree h _ 0 fun _ hi => hi, outw_agree h, outH_agree h]

theorem free_agree {hp hp' : Heap} {d : Nat} (h : nthB hp' d = nthB hp d) : free hp' d = free hp d := by simp only [free, h]

theorem appendE_local {C : Ctx} {hp hp' : Heap} {dst : Option Nat} {τ : Ty} {x xs : V} {o : Out} (ho : appendE C hp dst τ x xs = some o) (h : Agree x.ids hp hp') (hw : Agree o.wr hp hp') : ∃ o', appendE C hp' dst τ x xs = some o' ∧ OutLoc hp hp' o o' := by
  unfold appendE at ho ⊢
  cases ha : addend xs τ with
  | none => rw [ha] at ho; cases ho
  | some m =>
    rw [ha] at ho
    simp only at ho ⊢
    cases x <;> simp only at ho ⊢ <;> first | (cases ho; done) | skip
    case full τ' l =>
      split at ho
      · rename_i e
        subst e
        simp only [dite_true]
        cases dst with
        | none => cases ho
        | some d =>
          simp only at ho ⊢
          split at ho
          · rename_i hf
            cases hz : C.frz.any (Nat.beq d) <;> rw [hz] at ho <;> cases ho
            all_goals
              rw [free_agree (hw _ (by simp [Out.wr])), if_pos hf]
              exact ⟨_, rfl, .eff .set⟩
          · cases ho
      · cases ho
    case app id ver =>
      have hb : nthB hp' id = nthB hp id := h id (by simp [V.ids])
      rw [hb]
      cases hn : nthB hp id with
      | none => rw [hn] at ho; cases ho
      | some b =>
        rw [hn] at ho
        cases b <;> simp only at ho ⊢ <;> first | (cases ho; done) | skip
        split at ho
        · rename_i e
          subst e
          simp only [dite_true]
          split at ho
          · rename_i hv
            cases ho
            rw [if_pos hv]
            exact ⟨_, rfl, .eff .set⟩
          · cases ho
        · cases ho
    case view id p τ' n lo hi =>
      rw [rd_agree _ h]
      cases dst with
      | none => cases ho
      | some d =>
        cases hr : rd hp (.view id p τ' n lo hi) <;> rw [hr] at ho <;> (try simp only at ho ⊢) <;> first | (cases ho; done) | skip
        rename_i t l
        cases t <;> simp only at ho ⊢ <;> first | (cases ho; done) | skip
        split at ho
        · rename_i e
          subst e
          simp only [dite_true]
          split at ho
          · rename_i hf
            cases ho
            rw [free_agree (hw _ (by simp [Out.wr])), if_pos hf]
            exact ⟨_, rfl, .eff .set⟩
          · cases ho
        · cases ho

theorem copyE_local {hp hp' : Heap} {τ : Ty} {x xs : V} {o : Out} (ho : copyE hp τ x xs = some o) (h : Agree x.ids hp hp') : ∃ o', copyE hp' τ x xs = some o' ∧ OutLoc hp hp' o o' := by
  unfold copyE at ho ⊢
  cases ha : addend xs τ with
  | none => rw [ha] at ho; cases x <;> cases ho
  | some m =>
    rw [ha] at ho
    cases x <;> simp only at ho ⊢ <;> first | (cases ho; done) | skip
    rename_i id p τ' n lo hi
    rw [h id (by simp [V.ids])]
    split at ho
    · rename_i hb
      split at ho
      · rename_i hg
        split at ho
        · rename_i e
          subst e
          simp only [dite_true]
          split at ho
          · rename_i hc
            rw [if_pos hc]
            split at ho
            · rename_i hs
              cases ho
              rw [hs]
              exact ⟨_, rfl, .eff .set⟩
            · cases ho
          · cases ho
        · cases ho
      · cases ho
    · cases ho

end Go.Bx
namespace Go.Bx
set_option linter.unusedVariables false
set_option linter.unusedSimpArgs false
open Go Go.RowKit

theorem sliceL_val {e : Operand → V} {τ : Ty} {l : List τ.den} {lo hi mx : Option Operand} {o : Out} (h : sliceL e τ l lo hi mx = some o) : ∃ c i v, o = .val c i v := by
  unfold sliceL at h
  repeat' split at h
  all_goals first | (cases h; exact ⟨_, _, _, rfl⟩) | cases h

theorem effR_local {C : Ctx} {g : Option Gd} {fr : List V} {hp hp' : Heap} {dst : Option Nat} {op : Op} {o : Out} (ho : effR C g fr hp dst op = some o) (h : Agree (V.idsL (op.operands.toList.map (ev fr))) hp hp')
    (hcall : ∀ c, op = .call c → (∀ b, c.callee ≠ .builtin b) → Agree (reach hp (op.operands.toList.map (ev fr))) hp hp') (hw : Agree o.wr hp hp') : ∃ o', effR C g fr hp' dst op = some o' ∧ OutLoc hp hp' o o' := by
  have E : ∀ x, x ∈ op.operands → Agree (un g (ev fr x)).ids hp hp' := fun x hx i hi => h i (ids_ev (by simpa using hx) i (ids_un g _ i hi))
  have D : ∀ x, x ∈ op.operands → Agree (dd (un g (ev fr x))).ids hp hp' := fun x hx i hi => E x hx i (ids_dd _ i hi)
  have R : ∀ x, x ∈ op.operands → rd hp' (dd (un g (ev fr x))) = rd hp (dd (un g (ev fr x))) := fun x hx => rd_agree _ (D x hx)
  have W : ∀ x u, x ∈ op.operands → rd hp' (nilT u (dd (un g (ev fr x)))) = rd hp (nilT u (dd (un g (ev fr x)))) := fun x u hx => rd_agree _ ((D x hx).sub (ids_nilT u _))
  cases op <;> simp only [effR] at ho ⊢ <;> simp only [Op.operands] at E D R W <;> try (cases ho; done)
  case alloc t =>
    split at ho
    · split at ho
      · rename_i hf
        cases ho
        rw [free_agree (hw _ (by simp [Out.wr])), if_pos hf]
        exact ⟨_, rfl, .eff .set⟩
      · cases ho
    · cases ho
  case box t x =>
    split at ho
    · split at ho
      · rename_i hf
        cases ho
        rw [free_agree (hw _ (by simp [Out.wr])), if_pos hf]
        exact ⟨_, rfl, .eff .set⟩
      · cases ho
    · cases ho
  case store t x y =>
    have hy : Agree (dd (un g (ev fr y))).ids hp hp' := D y (by simp)
    split at ho
    · rename_i τ id ver p hτ he
      have hx : nthB hp' id = nthB hp id := D x (by simp) id (by rw [he]; simp [V.ids])
      rw [hx]
      split at ho
      · rename_i σ v hb
        split at ho
        · rename_i hc
          rw [if_pos hc]
          split at ho
          · rename_i v' hs
            cases ho
            exact ⟨_, rfl, .eff .set⟩
          · cases ho
        · cases ho
      · rename_i hb
        rw [frz_at (dd (un g (ev fr y))) hx, R y (by simp)]
        split at ho
        · rename_i σ l ver' hb2
          split at ho
          · rename_i hv
            simp only [if_pos hv]
            split at ho
            · rename_i i q τ' z hp2 hz
              (try simp only [hz])
              split at ho
              · rename_i ht
                simp only [if_pos ht]
                split at ho
                · rename_i z' hu
                  cases ho
                  (try simp only [hu])
                  exact ⟨_, rfl, .eff (.set_frz hy)⟩
                · cases ho
              · cases ho
            · cases ho
          · cases ho
        · cases ho
      · cases ho
    · cases ho
  case buildSlice t n parts =>
    have hb : ∀ (τ : Ty) (c : τ.den), buildV (fun x => rd hp' (dd (un g (ev fr x)))) τ parts.toList c = buildV (fun x => rd hp (dd (un g (ev fr x)))) τ parts.toList c := fun τ c => buildV_congr _ _ fun p hq => R p.2 (by simpa using mem_parts hq)
    simp only [hb]
    split at ho
    · split at ho
      · rename_i hc
        rw [if_pos hc]
        split at ho
        · rename_i y hy
          cases ho
          exact ⟨_, rfl, .eff (.frzL fun i hi => hw i hi)⟩
        · cases ho
      · cases ho
    · cases ho
  case makeSlice t len cap =>
    split at ho
    · split at ho
      · rename_i hf
        cases ho
        rw [free_agree (hw _ (by simp [Out.wr])), if_pos hf]
        exact ⟨_, rfl, .eff .set⟩
      · cases ho
    · cases ho
  case slice t x lo hi mx =>
    split at ho
    · rename_i id ver τ he hτ
      have hx : nthB hp' id = nthB hp id := D x (by simp) id (by rw [he]; simp [V.ids])
      rw [hx]
      split at ho
      · rename_i τ' l ver' z hb
        split at ho
        · rename_i hc
          simp only [if_pos hc]
          split at ho
          · rename_i c i v hs
            cases ho
            have hz : Agree (V.app id ver).ids hp hp' := fun i hi => by simp only [V.ids, List.mem_singleton] at hi; subst hi; exact hx
            exact ⟨_, rfl, .eff (by simpa only [V.ids] using Loc.frz hz)⟩
          · cases ho
        · cases ho
      · cases ho
    · cases ho
  case call c =>
    cases hc : c.callee with
    | builtin b =>
      rw [hc] at ho
      cases b <;> simp only at ho ⊢ <;> try (cases ho; done)
      · split at ho
        · rename_i x xs t t' ha hty
          have m1 : x ∈ c.operands := by simp [Call.operands, hc]; rw [← Array.mem_toList_iff, ha]; simp
          have m2 : xs ∈ c.operands := by simp [Call.operands, hc]; rw [← Array.mem_toList_iff, ha]; simp
          split at ho
          · rename_i e
            simp only [if_pos e]
            split at ho
            · rename_i τ hτ
              rw [W xs _ m2]
              exact appendE_local ho ((E x m1).sub (ids_nilT _ _)) hw
            · cases ho
          · cases ho
        · cases ho
      · split at ho
        · rename_i x xs t t' ha hty
          have m1 : x ∈ c.operands := by simp [Call.operands, hc]; rw [← Array.mem_toList_iff, ha]; simp
          have m2 : xs ∈ c.operands := by simp [Call.operands, hc]; rw [← Array.mem_toList_iff, ha]; simp
          split at ho
          · rename_i τ hτ
            rw [W xs _ m2]
            exact copyE_local ho (E x m1)
          · cases ho
        · cases ho
    | value f =>
      have hr := hcall c rfl (by rw [hc]; exact fun _ => nofun)
      rw [hc] at ho
      simp only at ho ⊢
      cases ht : target C (fun x => un g (ev fr x)) c with
      | none => rw [ht] at ho; cases ho
      | some fa =>
        obtain ⟨f, args⟩ := fa
        rw [ht] at ho
        simp only at ho ⊢
        have hs := target_ids ht
        rw [rdL_agree args (h.sub hs)]
        split at ho
        · rename_i F hF
          split at ho
          · cases ho
            exact ⟨_, rfl, .call (.frzL (h.sub hs))⟩
          · cases ho
        · split at ho
          · rename_i f' hf'
            rw [shCall_agree (hr.sub (reach_mono hs))]
            refine ⟨_, ho, ?_⟩
            simp only [shCall] at ho
            split at ho
            · cases ho; exact .sh
            · cases ho
          · cases ho
    | invoke r m =>
      have hr := hcall c rfl (by rw [hc]; exact fun _ => nofun)
      rw [hc] at ho
      simp only at ho ⊢
      cases ht : target C (fun x => un g (ev fr x)) c with
      | none => rw [ht] at ho; cases ho
      | some fa =>
        obtain ⟨f, args⟩ := fa
        rw [ht] at ho
        simp only at ho ⊢
        have hs := target_ids ht
        rw [rdL_agree args (h.sub hs)]
        split at ho
        · rename_i F hF
          split at ho
          · cases ho
            exact ⟨_, rfl, .call (.frzL (h.sub hs))⟩
          · cases ho
        · split at ho
          · rename_i f' hf'
            rw [shCall_agree (hr.sub (reach_mono hs))]
            refine ⟨_, ho, ?_⟩
            simp only [shCall] at ho
            split at ho
            · cases ho; exact .sh
            · cases ho
          · cases ho

end Go.Bx
namespace Go.Bx
set_option linter.unusedVariables false
set_option linter.unusedSimpArgs false
open Go Go.RowKit

/-! ### the frame -/

theorem ev_congr {fr fr' : List V} {x : Operand} (h : ∀ t, x = .tmp t → nth fr' t = nth fr t) : ev fr' x = ev fr x := by
  cases x with
  | tmp t => exact h t rfl
  | _ => rfl

theorem mem_looks {ops : Array Oper} {o : Oper} {t : Nat} (h : Operand.tmp t ∈ o.op.operands) : t ∈ o.looksAt ops :=
  List.mem_append_left _ (List.mem_filterMap.2 ⟨.tmp t, by simpa using h, rfl⟩)

theorem boundOf_congr {e e' : Operand → V} {d : Int} {x : Option Operand} (h : ∀ y, x = some y → e' y = e y) : boundOf e' d x = boundOf e d x := by
  cases x with
  | none => rfl
  | some y => simp only [boundOf, h y rfl]

theorem sliceL_congr {e e' : Operand → V} {τ : Ty} {l : List τ.den} {lo hi mx : Option Operand} (h1 : ∀ y, lo = some y → e' y = e y) (h2 : ∀ y, hi = some y → e' y = e y) (h3 : ∀ y, mx = some y → e' y = e y) :
    sliceL e' τ l lo hi mx = sliceL e τ l lo hi mx := by
  simp only [sliceL, boundOf_congr h1, boundOf_congr h2]
  cases mx with
  | none => rfl
  | some m => simp only [h3 m rfl]

theorem target_congr {C : Ctx} {e e' : Operand → V} {c : Call} (h : ∀ x ∈ c.operands, e' x = e x) : target C e' c = target C e c := by
  have ha : c.args.toList.map e' = c.args.toList.map e := List.map_congr_left fun x hx => h x (by simp [Call.operands]; right; simpa using hx)
  unfold target
  cases hc : c.callee with
  | value f => simp only [h f (by simp [Call.operands, hc]), callArgs, ha]
  | invoke r m => simp only [h r (by simp [Call.operands, hc]), callArgs, ha]
  | builtin b => rfl

theorem valR_congr {C : Ctx} {g : Option Gd} {fr fr' : List V} {hp : Heap} {op : Op} (h : ∀ t, Operand.tmp t ∈ op.operands → nth fr' t = nth fr t) : valR C g fr' hp op = valR C g fr hp op := by
  have e : ∀ x, x ∈ op.operands → ev fr' x = ev fr x := fun x hx => ev_congr fun t ht => h t (by rw [← ht]; exact hx)
  cases op <;> simp only [valR] <;> simp only [Op.operands] at e
  case pick c a b => rw [e c (by simp), e a (by simp), e b (by simp)]
  case call c =>
    have ea : c.args.toList.map (fun x => dd (un g (ev fr' x))) = c.args.toList.map (fun x => dd (un g (ev fr x))) :=
      List.map_congr_left fun x hx => by rw [e x (by simp [Call.operands]; right; simpa using hx)]
    have er : c.args.toList.map (fun x => rd hp (dd (un g (ev fr' x)))) = c.args.toList.map (fun x => rd hp (dd (un g (ev fr x)))) :=
      List.map_congr_left fun x hx => by rw [e x (by simp [Call.operands]; right; simpa using hx)]
    have et : target C (fun x => un g (ev fr' x)) c = target C (fun x => un g (ev fr x)) c := target_congr fun x hx => by rw [e x hx]
    simp only [ea, er, et]
  case move x => rw [e x (by simp)]
  case assign x => rw [e x (by simp)]
  case load t x => rw [e x (by simp)]
  case binOp op xt x y yt => rw [e x (by simp), e y (by simp)]
  case unOp op xt x => rw [e x (by simp)]
  case convert s d x => rw [e x (by simp)]
  case fieldAddr t x j => rw [e x (by simp)]
  case indexAddr t x i => rw [e x (by simp), e i (by simp)]
  case extract x i => rw [e x (by simp)]
  case index t x i => rw [e x (by simp), e i (by simp)]
  case field t x j => rw [e x (by simp)]
  case nilCheck x => rw [e x (by simp)]
  case makeInterface t x => rw [e x (by simp)]
  case makeFunc f fst cap =>
    have e1 : fst.toList.map (fun x => un g (ev fr' x)) = fst.toList.map (fun x => un g (ev fr x)) := List.map_congr_left fun x hx => by rw [e x (by simp; left; simpa using hx)]
    have e2 : cap.toList.map (fun x => un g (ev fr' x)) = cap.toList.map (fun x => un g (ev fr x)) := List.map_congr_left fun x hx => by rw [e x (by simp; right; simpa using hx)]
    simp only [e1, e2]
  case build t parts =>
    have hb : ∀ (τ : Ty) (c : V), buildT (fun x => un g (ev fr' x)) τ parts.toList c = buildT (fun x => un g (ev fr x)) τ parts.toList c := fun τ c => buildT_congr _ _ fun p hq => by rw [e p.2 (by simpa using mem_parts hq)]
    simp only [hb]
  case buildSlice t n parts =>
    have hb : ∀ (τ : Ty) (c : τ.den), buildV (fun x => rd hp (dd (un g (ev fr' x)))) τ parts.toList c = buildV (fun x => rd hp (dd (un g (ev fr x)))) τ parts.toList c := fun τ c => buildV_congr _ _ fun p hq => by rw [e p.2 (by simpa using mem_parts hq)]
    have hl : parts.toList.any (fun p => loose hp (dd (un g (ev fr' p.2)))) = parts.toList.any (fun p => loose hp (dd (un g (ev fr p.2)))) := by
      rw [Bool.eq_iff_iff]
      simp only [List.any_eq_true]
      exact exists_congr fun p => and_congr_right fun hq => by rw [e p.2 (by simpa using mem_parts hq)]
    simp only [hb, hl]
  case slice t x lo hi mx =>
    have el : ∀ y, lo = some y → dd (un g (ev fr' y)) = dd (un g (ev fr y)) := fun y hy => by rw [e y (by simp [hy])]
    have eh : ∀ y, hi = some y → dd (un g (ev fr' y)) = dd (un g (ev fr y)) := fun y hy => by rw [e y (by simp [hy])]
    have em : ∀ y, mx = some y → dd (un g (ev fr' y)) = dd (un g (ev fr y)) := fun y hy => by rw [e y (by simp [hy])]
    have b1 : ∀ d, boundOf (fun x => dd (un g (ev fr' x))) d lo = boundOf (fun x => dd (un g (ev fr x))) d lo := fun d => boundOf_congr el
    have b2 : ∀ d, boundOf (fun x => dd (un g (ev fr' x))) d hi = boundOf (fun x => dd (un g (ev fr x))) d hi := fun d => boundOf_congr eh
    have b3 : ∀ (τ : Ty) (l : List τ.den), sliceL (fun x => dd (un g (ev fr' x))) τ l lo hi mx = sliceL (fun x => dd (un g (ev fr x))) τ l lo hi mx := fun τ l => sliceL_congr el eh em
    simp only [b1, b2, b3, e x (by simp)]

theorem effR_congr {C : Ctx} {g : Option Gd} {fr fr' : List V} {hp : Heap} {dst : Option Nat} {op : Op} (h : ∀ t, Operand.tmp t ∈ op.operands → nth fr' t = nth fr t) : effR C g fr' hp dst op = effR C g fr hp dst op := by
  have e : ∀ x, x ∈ op.operands → ev fr' x = ev fr x := fun x hx => ev_congr fun t ht => h t (by rw [← ht]; exact hx)
  cases op <;> simp only [effR] <;> simp only [Op.operands] at e
  case box t x => rw [e x (by simp)]
  case store t x y => rw [e x (by simp), e y (by simp)]
  case makeSlice t x y => rw [e x (by simp), e y (by simp)]
  case buildSlice t n parts =>
    have hb : ∀ (τ : Ty) (c : τ.den), buildV (fun x => rd hp (dd (un g (ev fr' x)))) τ parts.toList c = buildV (fun x => rd hp (dd (un g (ev fr x)))) τ parts.toList c := fun τ c => buildV_congr _ _ fun p hq => by rw [e p.2 (by simpa using mem_parts hq)]
    have hl : parts.toList.map (fun p => dd (un g (ev fr' p.2))) = parts.toList.map (fun p => dd (un g (ev fr p.2))) := List.map_congr_left fun p hq => by rw [e p.2 (by simpa using mem_parts hq)]
    simp only [hb, hl]
  case slice t x lo hi mx =>
    have el : ∀ y, lo = some y → dd (un g (ev fr' y)) = dd (un g (ev fr y)) := fun y hy => by rw [e y (by simp [hy])]
    have eh : ∀ y, hi = some y → dd (un g (ev fr' y)) = dd (un g (ev fr y)) := fun y hy => by rw [e y (by simp [hy])]
    have em : ∀ y, mx = some y → dd (un g (ev fr' y)) = dd (un g (ev fr y)) := fun y hy => by rw [e y (by simp [hy])]
    have b3 : ∀ (τ : Ty) (l : List τ.den), sliceL (fun x => dd (un g (ev fr' x))) τ l lo hi mx = sliceL (fun x => dd (un g (ev fr x))) τ l lo hi mx := fun τ l => sliceL_congr el eh em
    simp only [b3, e x (by simp)]
  case call c =>
    have et : target C (fun x => un g (ev fr' x)) c = target C (fun x => un g (ev fr x)) c := target_congr fun x hx => by rw [e x hx]
    have ea : ∀ x, x ∈ c.args.toList → ev fr' x = ev fr x := fun x hx => e x (by simp [Call.operands]; right; simpa using hx)
    simp only [et]
    cases hc : c.callee with
    | builtin b =>
      cases b <;> try rfl
      all_goals
        rcases hl : c.args.toList with _ | ⟨x, _ | ⟨y, _ | ⟨z, r⟩⟩⟩ <;> try rfl
        have hx := ea x (by rw [hl]; simp)
        have hy := ea y (by rw [hl]; simp)
        rcases c.argTypes.toList with _ | ⟨t, _ | ⟨t', _ | ⟨t'', r⟩⟩⟩ <;> first | rfl | simp only [hx, hy]
    | value f => rfl
    | invoke r m => rfl

theorem guardOf_congr {ops : Array Oper} {fr fr' : List V} {o : Oper} (h : ∀ t ∈ o.looksAt ops, nth fr' t = nth fr t) : guardOf ops fr' o = guardOf ops fr o := by
  unfold guardOf
  cases hg : o.guard with
  | none => rfl
  | some jw =>
    obtain ⟨j, w⟩ := jw
    simp only
    cases hd : (ops[j]?).bind (·.dst) with
    | none => rfl
    | some d =>
      simp only
      have : d ∈ o.looksAt ops := List.mem_append_right _ (by simp [hg, hd])
      rw [h d this]

theorem foot_ev {fr fr' : List V} {o : Oper} (h : ∀ t, Operand.tmp t ∈ o.op.operands → nth fr' t = nth fr t) : o.op.operands.toList.map (ev fr') = o.op.operands.toList.map (ev fr) :=
  List.map_congr_left fun x hx => ev_congr fun t ht => h t (by rw [← ht]; simpa using hx)

theorem foot_ids {S : St} {o : Oper} : ∀ i ∈ V.idsL (o.op.operands.toList.map (ev S.fr)), i ∈ foot S o := by
  intro i hi
  unfold foot
  split
  · split
    · exact hi
    · exact reach_sub i hi
  · exact hi

theorem foot_reach {S : St} {o : Oper} {c : Call} (hc : o.op = .call c) (hb : ∀ b, c.callee ≠ .builtin b) : foot S o = reach S.hp (o.op.operands.toList.map (ev S.fr)) := by
  unfold foot
  split
  · rename_i c' hc'
    rw [hc] at hc'
    cases hc'
    split
    · rename_i b hb'; exact absurd hb' (hb b)
    · rfl
  · rename_i hn
    exact absurd hc (hn c)

theorem foot_agree {S S' : St} {o : Oper} (hf : ∀ t, Operand.tmp t ∈ o.op.operands → nth S'.fr t = nth S.fr t) (h : Agree (foot S o) S.hp S'.hp) : foot S' o = foot S o := by
  unfold foot at h ⊢
  rw [foot_ev hf]
  revert h
  split
  · split
    · intro _; rfl
    · intro h; exact closeN_agree 6 _ h
  · intro _; rfl

/-- an operation's doing, told apart from where it is done: the slot's value, the blocks that turn, the blocks -/
def act (C : Ctx) (g : Option Gd) (o : Oper) (fr : List V) (hp : Heap) : Option (V × List Nat × Heap) :=
  match valR C g fr hp o.op with
  | some (.val c i v) => chk g c i (some (tag g (saneT C o.type v), [], hp))
  | some (.call F a _ _) => (runF g F a).bind fun r => some (tag g (saneT C o.type (F.out r)), [], hp)
  | some (.new v) => some (tag g (saneT C o.type v), [], hp)
  | some _ => none
  | none =>
    match doIt g with
    | none => none
    | some false => some (tag g .any, [], hp)
    | some true => match effR C g fr hp o.dst o.op with
      | some (.eff c i v h wr) => chk none c i (some (tag g (saneT C o.type v), wr, h))
      | some (.call F a h wr) => (F.run a).bind fun r => some (tag g (saneT C o.type (F.out r)), wr, h)
      | some (.sh s L) => s.o.bind fun y => match freeAll hp (newOf L (s.f y).2) && once ((s.f y).2.map (·.1)) with
        | true => some (tag g (saneT C o.type (s.f y).1), L ++ (s.f y).2.map (·.1), setAll (s.f y).2 hp)
        | false => none
      | _ => none

/-- a step is its doing, done -/
theorem T_act {α : Type} {C : Ctx} {g : Option Gd} {o : Oper} {S : St} {K : List Nat → St → Option α} : T C g o S K = (act C g o S.fr S.hp).bind fun r => K r.2.1 ⟨setF S.fr o.dst r.1, r.2.2⟩ := by
  unfold T act
  cases hv : valR C g S.fr S.hp o.op with
  | none =>
    simp only
    cases doIt g with
    | none => rfl
    | some b =>
      cases b with
      | false => rfl
      | true =>
        simp only
        cases he : effR C g S.fr S.hp o.dst o.op with
        | none => rfl
        | some r =>
          cases r with
          | eff c i v hp wr => simp only [chk]; split <;> rfl
          | call F a hp wr => simp only; cases F.run a <;> rfl
          | sh s L =>
            simp only
            cases s.o with
            | none => rfl
            | some y => simp only [Option.bind_some]; cases freeAll S.hp (newOf L (s.f y).2) && once ((s.f y).2.map (·.1)) <;> rfl
          | val c i v => rfl
          | new v => rfl
  | some r =>
    cases r with
    | val c i v => cases g <;> simp only [chk] <;> split <;> rfl
    | call F a hp wr => simp only; cases runF g F a <;> rfl
    | new v => rfl
    | eff c i v hp wr => rfl
    | sh s L => rfl

theorem act_congr {C : Ctx} {g : Option Gd} {o : Oper} {fr fr' : List V} {hp : Heap} (h : ∀ t, Operand.tmp t ∈ o.op.operands → nth fr' t = nth fr t) : act C g o fr' hp = act C g o fr hp := by
  unfold act
  rw [valR_congr h, effR_congr h]

theorem setAll_at {i : Nat} : ∀ (d hp hp' : Heap), nthB hp' i = nthB hp i → nthB (setAll d hp') i = nthB (setAll d hp) i
  | [], _, _, h => h
  | (j, b) :: r, hp, hp', h => by
    simp only [setAll]
    rw [look_set, look_set, setAll_at r _ _ h]
theorem setAll_off {i : Nat} : ∀ (d hp : Heap), i ∉ d.map (·.1) → nthB (setAll d hp) i = nthB hp i
  | [], _, _ => rfl
  | (j, b) :: r, hp, h => by
    simp only [List.map_cons, List.mem_cons, not_or] at h
    simp only [setAll]
    rw [look_set, if_neg h.1, setAll_off r _ h.2]

theorem freeAll_agree {hp hp' : Heap} : ∀ l : List Nat, Agree l hp hp' → freeAll hp' l = freeAll hp l
  | [], _ => rfl
  | i :: r, h => by simp only [freeAll, free_agree (h i (by simp)), freeAll_agree r fun j hj => h j (List.mem_cons_of_mem _ hj)]

/-- THE BLOCKS THAT COUNT -/
theorem act_local {C : Ctx} {g : Option Gd} {o : Oper} {S : St} {hp' : Heap} {v : V} {wr : List Nat} {h : Heap} (ha : act C g o S.fr S.hp = some (v, wr, h)) (hf : Agree (foot S o) S.hp hp') (hw : Agree wr S.hp hp') :
    ∃ h', act C g o S.fr hp' = some (v, wr, h') ∧ Loc S.hp h hp' h' wr := by
  have hv' : valR C g S.fr hp' o.op = valR C g S.fr S.hp o.op := valR_local (hf.sub foot_ids)
  unfold act at ha ⊢
  rw [hv']
  cases hv : valR C g S.fr S.hp o.op with
  | none =>
    rw [hv] at ha
    simp only at ha ⊢
    cases hd : doIt g with
    | none => rw [hd] at ha; cases ha
    | some b =>
      rw [hd] at ha
      cases b with
      | false => cases ha; exact ⟨_, rfl, .nil⟩
      | true =>
        simp only at ha ⊢
        cases he : effR C g S.fr S.hp o.dst o.op with
        | none => rw [he] at ha; cases ha
        | some r =>
          rw [he] at ha
          have loc : Agree r.wr S.hp hp' → ∃ o', effR C g S.fr hp' o.dst o.op = some o' ∧ OutLoc S.hp hp' r o' := fun hw' => effR_local he (hf.sub foot_ids) (fun c hc hb => by rw [foot_reach hc hb] at hf; exact hf) hw'
          cases r with
          | eff c i v' h2 w2 =>
            simp only at ha
            obtain ⟨hc, e⟩ := chk_some ha (fun _ e => by cases e)
            cases e
            obtain ⟨o', l1, l2⟩ := loc hw
            cases l2 with
            | eff l =>
              rw [l1]
              refine ⟨_, ?_, l⟩
              simp only [chk]
              split
              · rfl
              · rename_i hn; exact absurd hc hn
          | call F a h2 w2 =>
            simp only at ha
            obtain ⟨y, h1, h3⟩ := Option.bind_eq_some_iff.1 ha
            cases h3
            obtain ⟨o', l1, l2⟩ := loc hw
            cases l2 with
            | call l =>
              rw [l1]
              exact ⟨_, by simp only [h1, Option.bind_some], l⟩
          | sh s L =>
            simp only at ha
            obtain ⟨y, h1, h3⟩ := Option.bind_eq_some_iff.1 ha
            have hz : (freeAll S.hp (newOf L (s.f y).2) && once ((s.f y).2.map (·.1))) = true := by
              cases hz : freeAll S.hp (newOf L (s.f y).2) && once ((s.f y).2.map (·.1)) with
              | true => rfl
              | false => rw [hz] at h3; cases h3
            rw [hz] at h3
            cases h3
            obtain ⟨o', l1, l2⟩ := loc (fun i hi => by simp [Out.wr] at hi)
            cases l2 with
            | sh =>
              rw [l1]
              refine ⟨setAll (s.f y).2 hp', ?_, ?_⟩
              · simp only [h1, Option.bind_some]
                rw [freeAll_agree (hp := S.hp), hz]
                intro i hi
                refine hw i (List.mem_append_right _ ?_)
                simp only [newOf, List.mem_filter] at hi
                exact hi.1
              · refine ⟨fun i hi => setAll_at _ _ _ (hw i hi), fun i hi => setAll_off _ _ ?_, fun i hi => setAll_off _ _ ?_⟩
                all_goals exact fun h => hi (List.mem_append_right _ h)
          | val c i v => cases ha
          | new v => cases ha
  | some r =>
    rw [hv] at ha
    cases r with
    | val c i v' =>
      simp only at ha ⊢
      have : ∀ (hq : Heap), chk g c i (some (tag g (saneT C o.type v'), ([] : List Nat), hq)) = (chk g c i (some (tag g (saneT C o.type v')))).map fun u => (u, [], hq) := fun hq => by cases g <;> simp only [chk] <;> split <;> rfl
      rw [this] at ha ⊢
      obtain ⟨u, h1, h2⟩ := Option.map_eq_some_iff.1 ha
      cases h2
      exact ⟨hp', by rw [h1]; rfl, .nil⟩
    | call F a hp wr =>
      simp only at ha ⊢
      obtain ⟨y, h1, h2⟩ := Option.bind_eq_some_iff.1 ha
      cases h2
      exact ⟨hp', by rw [h1]; rfl, .nil⟩
    | new v' => cases ha; exact ⟨hp', rfl, .nil⟩
    | eff c i v hp wr => cases ha
    | sh s L => cases ha

end Go.Bx
namespace Go.Bx
set_option linter.unusedVariables false
set_option linter.unusedSimpArgs false
open Go Go.RowKit

/-- nothing in the frame hangs on slot d -/
def NoTag (d : Option Nat) (fr : List V) : Prop := ∀ d', d = some d' → ∀ t, untagD d' (nth fr t) = nth fr t

theorem nth_ext : ∀ {l m : List V}, l.length = m.length → (∀ t, nth l t = nth m t) → l = m
  | [], [], _, _ => rfl
  | a :: l, b :: m, hl, h => by
    have h0 : a = b := h 0
    have := nth_ext (l := l) (m := m) (by simpa using hl) (fun t => h (t + 1))
    rw [h0, this]
  | [], _ :: _, hl, _ => by simp at hl
  | _ :: _, [], hl, _ => by simp at hl

def putF (fr : List V) : Option Nat → V → List V
  | none, _ => fr
  | some d, v => fr.set d v

theorem setF_plain {d : Option Nat} {fr : List V} (h : NoTag d fr) (v : V) : setF fr d v = putF fr d v := by
  cases d with
  | none => rfl
  | some d =>
    simp only [setF, putF]
    congr 1
    exact nth_ext (by simp) fun t => by rw [nth_map _ rfl]; exact h d rfl t

theorem nth_setF {d : Option Nat} {fr : List V} (h : NoTag d fr) (v : V) (t : Nat) (ht : d ≠ some t) : nth (setF fr d v) t = nth fr t := by
  rw [setF_plain h]
  cases d with
  | none => rfl
  | some d => simp only [putF]; rw [nth_set, if_neg]; exact fun e => ht (by rw [e.1])

section
variable {P : Program} {C : Ctx} {G0 : GE} {S : St} {a : Act} {w : World} {ops : Array Oper}

theorem untag_tag {d : Nat} {g : Option Gd} {v : V} {C : Ctx} {ty : Nat} (h : ∀ gd, g = some gd → gd.d ≠ d) : untagD d (tag g (saneT C ty v)) = tag g (saneT C ty v) := by
  cases g with
  | none => cases v <;> simp only [saneT, tag] <;> first | rfl | (split <;> rfl)
  | some gd =>
    simp only [tag, untagD]
    rw [if_neg]
    intro e
    exact h gd rfl (Nat.eq_of_beq_eq_true e)

theorem guardOf_looks {fr : List V} {o : Oper} {gd : Gd} (h : guardOf ops fr o = some (some gd)) : gd.d ∈ o.looksAt ops ∧ ∃ j w, o.guard = some (j, w) ∧ (ops[j]?).bind (·.dst) = some gd.d := by
  unfold guardOf at h
  cases hg : o.guard with
  | none => rw [hg] at h; cases h
  | some jw =>
    obtain ⟨j, w⟩ := jw
    rw [hg] at h
    simp only at h
    cases hd : (ops[j]?).bind (·.dst) with
    | none => rw [hd] at h; cases h
    | some d =>
      rw [hd] at h
      simp only at h
      have hm : d ∈ o.looksAt ops := List.mem_append_right _ (by simp [hg, hd])
      split at h
      · cases h
      · split at h <;> first | (cases h; exact ⟨hm, j, w, rfl, hd⟩) | cases h

/-- what is laid into the slot is tagged with the guard -/
theorem act_tag {g : Option Gd} {o : Oper} {fr : List V} {hp : Heap} {r} (h : act C g o fr hp = some r) : ∃ v, r.1 = tag g (saneT C o.type v) := by
  unfold act at h
  cases hv : valR C g fr hp o.op with
  | none =>
    rw [hv] at h
    simp only at h
    cases hd : doIt g with
    | none => rw [hd] at h; cases h
    | some b =>
      rw [hd] at h
      cases b with
      | false => cases h; exact ⟨.any, rfl⟩
      | true =>
        simp only at h
        cases he : effR C g fr hp o.dst o.op with
        | none => rw [he] at h; cases h
        | some q =>
          rw [he] at h
          cases q with
          | eff c i v hp wr => obtain ⟨_, e⟩ := chk_some h (fun _ e => by cases e); subst e; exact ⟨v, rfl⟩
          | call F a hp wr => obtain ⟨y, _, e⟩ := Option.bind_eq_some_iff.1 h; cases e; exact ⟨_, rfl⟩
          | sh s L =>
            obtain ⟨y, _, e⟩ := Option.bind_eq_some_iff.1 h
            split at e
            · cases e; exact ⟨_, rfl⟩
            · cases e
          | val c i v => cases h
          | new v => cases h
  | some q =>
    rw [hv] at h
    cases q with
    | val c i v =>
      refine ⟨v, ?_⟩
      cases g <;> simp only [chk] at h <;> split at h <;> first | (cases h; rfl) | cases h
    | call F a hp wr => obtain ⟨y, _, e⟩ := Option.bind_eq_some_iff.1 h; cases e; exact ⟨_, rfl⟩
    | new v => cases h; exact ⟨v, rfl⟩
    | eff c i v hp wr => cases h
    | sh s L => cases h

theorem act_untag {g : Option Gd} {o : Oper} {fr fr' : List V} {hp : Heap} {r} (hg : guardOf ops fr' o = some g) (h : act C g o fr hp = some r) {d : Nat} (hd : ∀ j w, o.guard = some (j, w) → (ops[j]?).bind (·.dst) ≠ some d) : untagD d r.1 = r.1 := by
  obtain ⟨v, e⟩ := act_tag h
  rw [e]
  refine untag_tag fun gd he hed => ?_
  subst he
  obtain ⟨_, j, w, h1, h2⟩ := guardOf_looks hg
  exact hd j w h1 (by rw [h2, hed])

theorem act_off {g : Option Gd} {o : Oper} {v : V} {wr : List Nat} {h : Heap} (ha : act C g o S.fr S.hp = some (v, wr, h)) : ∀ i, i ∉ wr → nthB h i = nthB S.hp i := by
  obtain ⟨_, _, l⟩ := act_local ha (fun _ _ => rfl) (fun _ _ => rfl)
  exact l.off

theorem step1_act {o : Oper} {wr : List Nat} {S' : St} (h : step1 C ops o S = some (wr, S')) : ∃ g v, guardOf ops S.fr o = some g ∧ act C g o S.fr S.hp = some (v, wr, S'.hp) ∧ S'.fr = setF S.fr o.dst v := by
  unfold step1 at h
  cases hg : guardOf ops S.fr o with
  | none => rw [hg] at h; cases h
  | some g =>
    rw [hg] at h
    simp only [T_act] at h
    obtain ⟨⟨v, wr', h'⟩, h1, h2⟩ := Option.bind_eq_some_iff.1 h
    cases h2
    exact ⟨g, v, rfl, h1, rfl⟩

theorem act_step1 {o : Oper} {wr : List Nat} {g : Option Gd} {v : V} {h : Heap} (hg : guardOf ops S.fr o = some g) (ha : act C g o S.fr S.hp = some (v, wr, h)) : step1 C ops o S = some (wr, ⟨setF S.fr o.dst v, h⟩) := by
  unfold step1
  rw [hg]
  simp only [T_act, ha, Option.bind_some]

/-- the same state, as far as can be told -/
def Eqv (S S' : St) : Prop := S'.fr = S.fr ∧ ∀ i, nthB S'.hp i = nthB S.hp i

theorem Eqv.refl (S : St) : Eqv S S := ⟨rfl, fun _ => rfl⟩
theorem Eqv.trans {S1 S2 S3 : St} (h : Eqv S1 S2) (k : Eqv S2 S3) : Eqv S1 S3 := ⟨k.1.trans h.1, fun i => (k.2 i).trans (h.2 i)⟩

theorem step1_eqv {o : Oper} {wr : List Nat} {S1 S' : St} (h : step1 C ops o S = some (wr, S1)) (e : Eqv S S') : ∃ S1', step1 C ops o S' = some (wr, S1') ∧ foot S' o = foot S o ∧ Eqv S1 S1' := by
  obtain ⟨g, v, h1, h2, h3⟩ := step1_act h
  obtain ⟨h', l1, l2⟩ := act_local (hp' := S'.hp) h2 (fun i _ => e.2 i) (fun i _ => e.2 i)
  refine ⟨⟨setF S.fr o.dst v, h'⟩, ?_, foot_agree (fun t _ => by rw [e.1]) (fun i _ => e.2 i), h3.symm, fun i => ?_⟩
  · have := act_step1 (C := C) (ops := ops) (S := S') (o := o) (wr := wr) (g := g) (v := v) (h := h') (by rw [e.1]; exact h1) (by rw [e.1]; exact l1)
    rw [this, e.1]
  · by_cases hi : i ∈ wr
    · exact l2.on i hi
    · exact (l2.off' i hi).trans ((e.2 i).trans (l2.off i hi).symm)

/-- operations one after the other, with what they have touched -/
inductive Runs (C : Ctx) (ops : Array Oper) : List (Nat × Rec) → St → St → Prop
  | nil (S : St) : Runs C ops [] S S
  | cons {i : Nat} {r : Rec} {o : Oper} {m : List (Nat × Rec)} {S S1 Se : St} (ho : ops[i]? = some o) (hs : step1 C ops o S = some (r.wr, S1)) (hr : foot S o = r.rd) (h : Runs C ops m S1 Se) : Runs C ops ((i, r) :: m) S Se

theorem Runs.eqv {m : List (Nat × Rec)} {S Se : St} (h : Runs C ops m S Se) : ∀ {S' : St}, Eqv S S' → ∃ Se', Runs C ops m S' Se' ∧ Eqv Se Se' := by
  induction h with
  | nil S => exact fun e => ⟨_, .nil _, e⟩
  | cons ho hs hr _ ih =>
    intro S' e
    obtain ⟨S1', g1, g2, g3⟩ := step1_eqv hs e
    obtain ⟨Se', k1, k2⟩ := ih g3
    exact ⟨Se', .cons ho g1 (g2.trans hr) k1, k2⟩

theorem noTag_step {o : Oper} {wr : List Nat} {S' : St} (hs : step1 C ops o S = some (wr, S')) {d : Nat} (hd : ∀ j w, o.guard = some (j, w) → (ops[j]?).bind (·.dst) ≠ some d) (h : NoTag (some d) S.fr) : NoTag (some d) S'.fr := by
  obtain ⟨g, v, e0, e1, e2⟩ := step1_act hs
  intro d' hd' t
  cases hd'
  rw [e2]
  cases hdst : o.dst with
  | none => exact h d rfl t
  | some dx =>
    simp only [setF]
    rw [nth_set, nth_map _ rfl]
    split
    · exact act_untag e0 e1 hd
    · have := h d rfl t
      cases hv : nth S.fr t with
      | opt d' w' u' =>
        rw [hv] at this
        by_cases hx : Nat.beq d' dx = true
        · simp only [untagD, hx, if_true]
        · simp only [untagD, hx] at this ⊢
          exact this
      | _ => rfl

theorem apartL_spec {a b : List Nat} (h : apartL a b = true) : ∀ i ∈ b, i ∉ a := by
  intro i hb ha
  simp only [apartL, Bool.not_eq_true', List.any_eq_false] at h
  exact h i ha (mem_iff.2 hb)

/-- TWO OPERATIONS that nothing orders: the other way round they come to the same -/
theorem comm {ox oi : Oper} {rx ri : Rec} (hap : ox.apart ops oi = true) (hr : apartR rx ri = true) (hx : NoTag ox.dst S.fr) (hi : NoTag oi.dst S.fr) {S1 S2 : St} (s1 : step1 C ops ox S = some (rx.wr, S1)) (f1 : foot S ox = rx.rd)
    (s2 : step1 C ops oi S1 = some (ri.wr, S2)) (f2 : foot S1 oi = ri.rd) :
    ∃ S1' S2', step1 C ops oi S = some (ri.wr, S1') ∧ foot S oi = ri.rd ∧ step1 C ops ox S1' = some (rx.wr, S2') ∧ foot S1' ox = rx.rd ∧ Eqv S2 S2' := by
  obtain ⟨a1, a2, a3⟩ := Oper.apart_spec hap
  simp only [apartR, Bool.and_eq_true] at hr
  obtain ⟨⟨p1, p2⟩, p3⟩ := hr
  have q1 := apartL_spec p1
  have q2 := apartL_spec p2
  have q3 := apartL_spec p3
  obtain ⟨gx, vx, x1, x2, x3⟩ := step1_act s1
  obtain ⟨gi, vi, i1, i2, i3⟩ := step1_act s2
  have guardLooks : ∀ (o : Oper) j w d, o.guard = some (j, w) → (ops[j]?).bind (·.dst) = some d → d ∈ o.looksAt ops := fun o j w d hg hd => List.mem_append_right _ (by simp [hg, hd])
  have lkx : ∀ t ∈ oi.looksAt ops, nth S1.fr t = nth S.fr t := fun t ht => by rw [x3]; exact nth_setF hx vx t fun e => a1 t e ht
  have i1' : guardOf ops S.fr oi = some gi := by rw [← guardOf_congr lkx]; exact i1
  have i2' : act C gi oi S.fr S1.hp = some (vi, ri.wr, S2.hp) := by rw [← act_congr fun t ht => lkx t (mem_looks ht)]; exact i2
  have fi : foot ⟨S.fr, S1.hp⟩ oi = ri.rd := by
    rw [← f2]; exact foot_agree (S := S1) (S' := ⟨S.fr, S1.hp⟩) (fun t ht => (lkx t (mem_looks ht)).symm) (fun _ _ => rfl)
  have off1 := act_off (S := S) x2
  obtain ⟨h', l1, l2⟩ := act_local (S := ⟨S.fr, S1.hp⟩) (hp' := S.hp) i2' (fun i hi => by rw [fi] at hi; exact (off1 i (q1 i hi)).symm) (fun i hi => (off1 i (q2 i hi)).symm)
  have fi' : foot S oi = ri.rd := by
    rw [← fi]; exact foot_agree (S := ⟨S.fr, S1.hp⟩) (S' := S) (fun _ _ => rfl) (fun i hi => by rw [fi] at hi; exact (off1 i (q1 i hi)).symm)
  -- the frames
  have hix : NoTag oi.dst (setF S.fr ox.dst vx) := fun d hd t => by
    rw [setF_plain hx]
    cases hdx : ox.dst with
    | none => exact hi d hd t
    | some d' =>
      simp only [putF]
      rw [nth_set]
      split
      · exact act_untag x1 x2 fun j w hg hj => a3 d hd (guardLooks ox j w d hg hj)
      · exact hi d hd t
  have hxi : NoTag ox.dst (setF S.fr oi.dst vi) := fun d hd t => by
    rw [setF_plain hi]
    cases hdi : oi.dst with
    | none => exact hx d hd t
    | some d' =>
      simp only [putF]
      rw [nth_set]
      split
      · exact act_untag i1' i2' fun j w hg hj => a1 d hd (guardLooks oi j w d hg hj)
      · exact hx d hd t
  have frames : setF (setF S.fr oi.dst vi) ox.dst vx = setF (setF S.fr ox.dst vx) oi.dst vi := by
    rw [setF_plain hxi, setF_plain hix, setF_plain hi, setF_plain hx]
    cases hdx : ox.dst with
    | none => rfl
    | some d =>
      cases hdi : oi.dst with
      | none => rfl
      | some d' => simp only [putF]; exact List.set_comm _ _ fun e => a2 d hdx (by rw [hdi, e])
  have lki : ∀ t ∈ ox.looksAt ops, nth (setF S.fr oi.dst vi) t = nth S.fr t := fun t ht => nth_setF hi vi t fun e => a3 t e ht
  obtain ⟨h'', m1, m2⟩ := act_local (S := S) (hp' := h') x2 (fun i hi => by rw [f1] at hi; exact l2.off' i (q3 i hi)) (fun i hi => l2.off' i fun h => q2 i h hi)
  refine ⟨⟨setF S.fr oi.dst vi, h'⟩, ⟨setF (setF S.fr oi.dst vi) ox.dst vx, h''⟩, act_step1 i1' l1, fi', ?_, ?_, ?_, fun i => ?_⟩
  · exact act_step1 (S := ⟨setF S.fr oi.dst vi, h'⟩) (by rw [guardOf_congr lki]; exact x1) (by rw [act_congr fun t ht => lki t (mem_looks ht)]; exact m1)
  · rw [← f1]
    exact foot_agree (S := S) (fun t ht => lki t (mem_looks ht)) (fun i hi => by rw [f1] at hi; exact l2.off' i (q3 i hi))
  · simp only; rw [frames, i3, x3]
  · simp only
    by_cases hx' : i ∈ rx.wr
    · rw [m2.on i hx', l2.off i fun h => q2 i h hx']
    · rw [m2.off' i hx']
      by_cases hi' : i ∈ ri.wr
      · exact l2.on i hi'
      · rw [l2.off' i hi', l2.off i hi', off1 i hx']

theorem Runs.front (hD : DrawFacts ops) {i : Nat} {ri : Rec} {oi : Oper} (hoi : ops[i]? = some oi) (m2 : List (Nat × Rec)) : ∀ (m1 : List (Nat × Rec)) (S Se : St),
    ((m1 ++ (i, ri) :: m2).map (·.1)).Pairwise (· < ·) → (∀ p ∈ m1, ∀ ox, ops[p.1]? = some ox → ox.apart ops oi = true ∧ apartR p.2 ri = true) → (∀ p ∈ m1 ++ (i, ri) :: m2, ∀ o, ops[p.1]? = some o → NoTag o.dst S.fr) →
    Runs C ops (m1 ++ (i, ri) :: m2) S Se → ∃ Se', Runs C ops ((i, ri) :: (m1 ++ m2)) S Se' ∧ Eqv Se Se'
  | [], S, Se, _, _, _, h => ⟨Se, h, Eqv.refl _⟩
  | (x, rx) :: m1, S, Se, hp, hc, ht, h => by
    cases h with
    | @cons _ _ ox _ _ S1 _ hox s1 f1 h1 =>
      have hp' := List.pairwise_cons.1 hp
      have ht1 : ∀ p ∈ m1 ++ (i, ri) :: m2, ∀ o, ops[p.1]? = some o → NoTag o.dst S1.fr := fun p hj o ho => by
        cases hd : o.dst with
        | none => intro d' hd'; cases hd'
        | some d =>
          refine noTag_step s1 (fun j' w' hg hj' => ?_) (by rw [← hd]; exact ht p (List.mem_cons_of_mem _ hj) o ho)
          obtain ⟨e, he, hb, hej⟩ := hD.grd x ox j' w' hox hg
          have hlow := hD.low x ox hox e he hb
          have hxj := hp'.1 p.1 (List.mem_map_of_mem hj)
          cases hoj : ops[j']? with
          | none => rw [hoj] at hj'; cases hj'
          | some oj =>
            rw [hoj] at hj'
            exact hD.dst j' p.1 oj o d hoj ho (by simp only at hxj; omega) hd hj'
      obtain ⟨Se', h2, e2⟩ := Runs.front hD hoi m2 m1 S1 Se hp'.2 (fun y hy => hc y (List.mem_cons_of_mem _ hy)) ht1 h1
      cases h2 with
      | @cons _ _ oi' _ _ S2 _ hoi' s2 f2 h3 =>
        rw [hoi] at hoi'; cases hoi'
        obtain ⟨c1, c2⟩ := hc (x, rx) (by simp) ox hox
        obtain ⟨S1', S2', g1, g2, g3, g4, g5⟩ := comm c1 c2 (ht (x, rx) (by simp) ox hox) (ht (i, ri) (by simp) oi hoi) s1 f1 s2 f2
        obtain ⟨Se'', k1, k2⟩ := h3.eqv g5
        exact ⟨Se'', .cons hoi g1 g2 (.cons hox g3 g4 k1), e2.trans k2⟩

end
end Go.Bx
namespace Go.Bx
set_option linter.unusedVariables false
set_option linter.unusedSimpArgs false
open Go Go.RowKit

section
variable {P : Program} {C : Ctx} {G0 : GE} {S : St} {a : Act} {w : World} {β : Nat → Option Nat} {σ : Nat → Value} {ops : Array Oper}

/-- the same blocks, told in another list -/
theorem Keep.same {G : GE} {hp' : Heap} (e : ∀ i, nthB hp' i = nthB G.hp i) : Keep G (G.withHp hp') := by
  refine ⟨⟨fun b m ⟨h1, h2, h3⟩ => ⟨h1, h2, fun id blk hb hβ => h3 id blk (by rw [← e]; exact hb) hβ⟩, fun _ _ _ _ _ => rfl⟩, fun id ver j u blk hρ hb => ?_⟩
  simp only [stay, Option.some.injEq, Prod.mk.injEq] at hρ
  obtain ⟨rfl, rfl⟩ := hρ
  exact ⟨blk, (e id).trans hb, SameB.refl _ _ _ _ _ rfl rfl⟩

theorem HRel.same {G : GE} (h : HRel G) {hp' : Heap} (e : ∀ i, nthB hp' i = nthB G.hp i) : HRel (G.withHp hp') := by
  have e' : ∀ {i blk}, nthB hp' i = some blk → nthB G.hp i = some blk := fun {i blk} hb => by rw [← e]; exact hb
  refine ⟨fun id blk hb => (h.blk id blk (e' hb)).keep (Keep.same e) rfl rfl fun _ _ _ => rfl, fun id id' blk blk' b hb hb' => h.inj id id' blk blk' b (e' hb) (e' hb'), fun b ⟨id, blk, hb, hβ⟩ => h.own b ⟨id, blk, e' hb, hβ⟩, h.base⟩

theorem Tr.same {G : GE} {hp' : Heap} (e : ∀ i, nthB hp' i = nthB G.hp i) : Tr G (G.withHp hp') :=
  ⟨Keep.same e, rfl, rfl, rfl, Nat.le_refl _, fun _ _ _ => rfl, fun _ ⟨id, blk, hb, hβ⟩ => .inr ⟨id, blk, (e id).symm.trans hb, hβ⟩⟩

theorem Rel.eqv (h : Rel G0 S a w β σ) {S' : St} (e : Eqv S S') : Rel G0 S' a w β σ := by
  have t := Tr.same (G := G0.at w β σ S.hp) e.2
  refine ⟨h.tr.trans t, h.ok.same e.2, h.defers, by rw [e.1]; exact h.size, fun i v hv => ?_⟩
  rw [e.1]
  exact (h.fr i v hv).ext t.keep

theorem Behind.eqv (h : Behind G0 S a w) {S' : St} (e : Eqv S S') : Behind G0 S' a w := by
  obtain ⟨β, σ, h⟩ := h
  exact ⟨β, σ, h.eqv e⟩

theorem getD_true_false {l : Array Bool} {i : Nat} (h : l.getD i true = false) : l.getD i false = false := by
  cases hi : l[i]? with
  | none => simp [Array.getD_eq_getD_getElem?, hi] at h
  | some b => simp [Array.getD_eq_getD_getElem?, hi] at h ⊢; exact h

theorem any_order (hC : CtxOk P C) (hD : DrawFacts ops) {Q : Exit → Act → World → Prop} {Se : St} (hQ : ∀ a w, Behind G0 Se a w → Q .normal a w) : ∀ (fuel : Nat) (listed : Array Bool) (m : List (Nat × Rec)) (S Sf : St) (a : Act) (w : World),
    m.length ≤ fuel → (m.map (·.1)).Pairwise (· < ·) → m.Pairwise (fun p q => Dep ops p.1 q.1 ∨ apartR p.2 q.2 = true) → (∀ i, i ∈ m.map (·.1) ↔ i < ops.size ∧ listed.getD i true = false) → listed.size = ops.size →
    (∀ j o, ops[j]? = some o → listed.getD j false = true → ∀ e ∈ o.after, Region.binds .any e = true → listed.getD e.on false = true) →
    (∀ p ∈ m, ∀ o, ops[p.1]? = some o → NoTag o.dst S.fr) → Runs C ops m S Sf → Eqv Sf Se → Behind G0 S a w → wpAny P .any ops Q fuel listed a w := by
  intro fuel
  induction fuel with
  | zero =>
    intro listed m S Sf a w hl hp _ hm hsz hdown ht hrun hE hB
    have hm0 : m = [] := List.eq_nil_of_length_eq_zero (by omega)
    subst hm0
    cases hrun
    refine ⟨?_, hQ a w (hB.eqv hE)⟩
    rw [List.eq_nil_iff_forall_not_mem]
    intro i hi
    obtain ⟨h0, o, ho, _⟩ := mem_ready.1 hi
    have := (hm i).2 ⟨(Array.getElem?_eq_some_iff.1 ho).1, h0⟩
    cases this
  | succ fuel ih =>
    intro listed m S Sf a w hl hp hpr hm hsz hdown ht hrun hE hB
    refine ⟨fun hr => ?_, fun i hi => ?_⟩
    · cases m with
      | nil => cases hrun; exact hQ a w (hB.eqv hE)
      | cons x m =>
        exfalso
        obtain ⟨hx, hx0⟩ := (hm x.1).1 (by simp)
        have : x.1 ∈ Region.ready .any ops listed := by
          refine mem_ready.2 ⟨hx0, ops[x.1], Array.getElem?_eq_getElem hx, fun e he hb => ?_⟩
          have hlow := hD.low x.1 _ (Array.getElem?_eq_getElem hx) e he hb
          rcases Bool.eq_false_or_eq_true (listed.getD e.on false) with h | h
          · exact h
          · exfalso
            have hlt : e.on < listed.size := by omega
            have : listed.getD e.on true = false := by
              simp only [Array.getD_eq_getD_getElem?, Array.getElem?_eq_getElem hlt, Option.getD_some] at h ⊢; exact h
            have := (hm e.on).2 ⟨by omega, this⟩
            rw [List.map_cons] at this hp
            rcases List.mem_cons.1 this with h' | h'
            · omega
            · have := (List.pairwise_cons.1 hp).1 _ h'; omega
        rw [hr] at this; cases this
    · obtain ⟨h0, oi, hoi, hall⟩ := mem_ready.1 hi
      have hlt := (Array.getElem?_eq_some_iff.1 hoi).1
      have him := (hm i).2 ⟨hlt, h0⟩
      obtain ⟨⟨i', ri⟩, hmem, hie⟩ := List.mem_map.1 him
      simp only at hie
      subst hie
      obtain ⟨m1, m2, rfl⟩ := List.append_of_mem hmem
      have hp0 := hp
      rw [List.map_append, List.map_cons] at hp
      have hpw := List.pairwise_append.1 hp
      have hprw := List.pairwise_append.1 hpr
      have hcomm : ∀ p ∈ m1, ∀ ox, ops[p.1]? = some ox → ox.apart ops oi = true ∧ apartR p.2 ri = true := fun p hx ox hox => by
        have hxi : p.1 < i' := hpw.2.2 p.1 (List.mem_map_of_mem hx) i' (by simp)
        have hx0 := ((hm p.1).1 (List.mem_map_of_mem (List.mem_append_left _ hx))).2
        have nodep : ¬ Dep ops p.1 i' := fun hdep => by
          have := hdep.listed hdown fun o ho e he hb => by rw [hoi] at ho; cases ho; exact hall e he hb
          rw [getD_true_false hx0] at this; cases this
        exact ⟨(hD.pair p.1 i' ox oi hox hoi hxi).resolve_left nodep, (hprw.2.2 p hx (i', ri) (by simp)).resolve_left nodep⟩
      obtain ⟨Sf', hfr, hE2⟩ := Runs.front hD hoi m2 m1 S Sf (by rw [List.map_append, List.map_cons]; exact hp) hcomm ht hrun
      have hE' : Eqv Sf' Se := Eqv.trans ⟨hE2.1.symm, fun i => (hE2.2 i).symm⟩ hE
      cases hfr with
      | @cons _ _ oi' _ _ S1 _ hoi' s1 f1 h1 =>
      rw [hoi] at hoi'; cases hoi'
      have hsub : ∀ p, p ∈ m1 ++ m2 → p ∈ m1 ++ (i', ri) :: m2 ∧ p.1 ≠ i' := fun p hj => by
        rcases List.mem_append.1 hj with h | h
        · exact ⟨List.mem_append_left _ h, Nat.ne_of_lt (hpw.2.2 p.1 (List.mem_map_of_mem h) i' (by simp))⟩
        · exact ⟨List.mem_append_right _ (List.mem_cons_of_mem _ h), Nat.ne_of_gt ((List.pairwise_cons.1 hpw.2.1).1 p.1 (List.mem_map_of_mem h))⟩
      have hlen : (m1 ++ m2).length ≤ fuel := by simp at hl ⊢; omega
      have hsl : (m1 ++ m2).Sublist (m1 ++ (i', ri) :: m2) := by simp
      have hp2 : ((m1 ++ m2).map (·.1)).Pairwise (· < ·) := hp0.sublist (hsl.map _)
      have hpr2 := hpr.sublist hsl
      have hm2 : ∀ j, j ∈ (m1 ++ m2).map (·.1) ↔ j < ops.size ∧ (listed.setIfInBounds i' true).getD j true = false := fun j => by
        by_cases hji : j = i'
        · subst hji
          refine ⟨fun h => ?_, fun ⟨_, h⟩ => ?_⟩
          · obtain ⟨p, hp, e⟩ := List.mem_map.1 h
            exact absurd e (hsub p hp).2
          · simp [hsz, hlt] at h
        · rw [getD_set_ne true (Ne.symm hji), ← hm j]
          constructor
          · intro h
            obtain ⟨p, hp, e⟩ := List.mem_map.1 h
            exact List.mem_map.2 ⟨p, (hsub p hp).1, e⟩
          · intro h
            obtain ⟨p, hp, e⟩ := List.mem_map.1 h
            rcases List.mem_append.1 hp with h | h
            · exact List.mem_map.2 ⟨p, List.mem_append_left _ h, e⟩
            · rcases List.mem_cons.1 h with h | h
              · subst h; exact absurd e.symm hji
              · exact List.mem_map.2 ⟨p, List.mem_append_right _ h, e⟩
      have hdown2 : ∀ j o, ops[j]? = some o → (listed.setIfInBounds i' true).getD j false = true → ∀ e ∈ o.after, Region.binds .any e = true → (listed.setIfInBounds i' true).getD e.on false = true := fun j o ho hj e he hb => by
        refine getD_set_true ?_
        by_cases hji : j = i'
        · subst hji; rw [hoi] at ho; cases ho; exact hall e he hb
        · rw [getD_set_ne false (Ne.symm hji)] at hj; exact hdown j o ho hj e he hb
      have ht2 : ∀ p ∈ m1 ++ m2, ∀ o, ops[p.1]? = some o → NoTag o.dst S1.fr := fun p hj o ho => by
        cases hd : o.dst with
        | none => intro d' hd'; cases hd'
        | some d =>
          refine noTag_step s1 (fun j' w' hg hj' => ?_) (by rw [← hd]; exact ht p (hsub p hj).1 o ho)
          obtain ⟨e, he, hb, hej⟩ := hD.grd i' oi j' w' hoi hg
          have hl' := hall e he hb
          cases hoj : ops[j']? with
          | none => rw [hoj] at hj'; cases hj'
          | some oj =>
            rw [hoj] at hj'
            refine hD.dst j' p.1 oj o d hoj ho (fun e' => ?_) hd hj'
            have := ((hm p.1).1 (List.mem_map_of_mem (hsub p hj).1)).2
            rw [← e', ← hej] at this
            rw [getD_true_false this] at hl'; cases hl'
      have hst := step1_sound hC hB (ops := ops) oi s1 (Q := Q)
      unfold wpOp
      simp only [hoi]
      by_cases hw : Region.wanted oi (yielded ops a.tmps) = true
      · rw [if_pos hw] at hst
        simp only [hw, if_true]
        exact .inl (Oper.wp_mono (fun a' w' hB' => ih _ (m1 ++ m2) S1 Sf' a' w' hlen hp2 hpr2 hm2 (by simpa using hsz) hdown2 ht2 h1 hE' hB') hst)
      · rw [if_neg hw] at hst
        simp only [hw, Bool.false_eq_true, if_false]
        exact ih _ (m1 ++ m2) S1 Sf' _ _ hlen hp2 hpr2 hm2 (by simpa using hsz) hdown2 ht2 h1 hE' hst

/-- in the text's order -/
theorem in_order (hC : CtxOk P C) {Q : Exit → Act → World → Prop} {α : Type} {r : α} {K : St → Option α} (hK : ∀ S a w, K S = some r → Behind G0 S a w → Q .normal a w) : ∀ (l : List Oper) (s : Nat) (S : St) (a : Act) (w : World),
    (∀ j, l[j]? = ops[s + j]?) → runL C ops l S K = some r → Behind G0 S a w → wpOps P ops Q (List.range' s l.length) a w
  | [], s, S, a, w, _, h, hB => hK S a w h hB
  | o :: l, s, S, a, w, hl, h, hB => by
    simp only [runL] at h
    have h0 : ops[s]? = some o := by simpa using (hl 0).symm
    cases hg : guardOf ops S.fr o with
    | none => rw [hg] at h; cases h
    | some g =>
      rw [hg] at h
      simp only [T_act] at h
      obtain ⟨⟨v, wr, h'⟩, t1, h1⟩ := Option.bind_eq_some_iff.1 h
      have s1 := act_step1 (C := C) (ops := ops) hg t1
      have hst := step1_sound hC hB (ops := ops) o s1 (Q := Q)
      have hl' : ∀ j, l[j]? = ops[s + 1 + j]? := fun j => by have := hl (j + 1); simpa [Nat.add_assoc, Nat.add_comm 1 j] using this
      simp only [List.length_cons, List.range'_succ, wpOps, h0]
      by_cases hw : Region.wanted o (yielded ops a.tmps) = true
      · rw [if_pos hw] at hst
        simp only [hw, if_true]
        exact .inl (Oper.wp_mono (fun a' w' hB' => in_order hC hK l (s + 1) _ a' w' hl' h1 hB') hst)
      · rw [if_neg hw] at hst
        simp only [hw, Bool.false_eq_true, if_false]
        exact in_order hC hK l (s + 1) _ _ _ hl' h1 hst

theorem recOk_spec {m : Nat} {x : Rec} : ∀ (l : List Rec) (j : Nat), recOk m x j l = true → ∀ k y, l[k]? = some y → m.testBit (j + k) = true ∨ apartR y x = true
  | [], _, _, k, y, h => by simp at h
  | z :: r, j, h, 0, y, hk => by
    simp at hk; subst hk
    simp only [recOk, Bool.and_eq_true, Bool.or_eq_true] at h
    exact h.1
  | z :: r, j, h, k + 1, y, hk => by
    simp only [recOk, Bool.and_eq_true] at h
    have := recOk_spec r (j + 1) h.2 k y (by simpa using hk)
    rwa [show j + 1 + k = j + (k + 1) by omega] at this

theorem runD_runs {α : Type} {r : α} {K : St → Option α} {ms : List Nat} (hms : ∀ k m, ms[k]? = some m → ∀ x, m.testBit x = true → Dep ops x k) : ∀ (l : List Oper) (acc : List Rec) (S : St), (∀ j, l[j]? = ops[acc.length + j]?) → runD C ops ms l acc S K = some r →
    ∃ (m : List (Nat × Rec)) (Se : St), Runs C ops m S Se ∧ K Se = some r ∧ m.map (·.1) = List.range' acc.length l.length ∧ m.Pairwise (fun p q => Dep ops p.1 q.1 ∨ apartR p.2 q.2 = true) ∧
      ∀ p ∈ m, ∀ k y, acc[k]? = some y → Dep ops k p.1 ∨ apartR y p.2 = true
  | [], acc, S, _, h => ⟨[], S, .nil S, h, rfl, .nil, fun _ hp => by cases hp⟩
  | o :: l, acc, S, hl, h => by
    simp only [runD] at h
    have h0 : ops[acc.length]? = some o := by simpa using (hl 0).symm
    cases hg : guardOf ops S.fr o with
    | none => rw [hg] at h; cases h
    | some g =>
      rw [hg] at h
      simp only [T_act] at h
      obtain ⟨⟨v, wr, h'⟩, t1, h1⟩ := Option.bind_eq_some_iff.1 h
      have s1 := act_step1 (C := C) (ops := ops) hg t1
      simp only at h1
      split at h1
      · rename_i hrec
        have hrs := recOk_spec acc 0 hrec
        obtain ⟨m, Se, g1, g2, g3, g4, g5⟩ := runD_runs hms l (acc ++ [⟨foot S o, wr⟩]) _ (fun j => by have := hl (j + 1); simpa [Nat.add_assoc, Nat.add_comm 1 j] using this) h1
        refine ⟨(acc.length, ⟨foot S o, wr⟩) :: m, Se, .cons h0 s1 rfl g1, g2, ?_, ?_, ?_⟩
        · rw [List.map_cons, g3]
          simp [List.range'_succ]
        · refine List.pairwise_cons.2 ⟨fun p hp => ?_, g4⟩
          exact g5 p hp acc.length _ (by simp)
        · intro p hp k y hy
          rcases List.mem_cons.1 hp with rfl | hp
          · have := hrs k y hy
            rw [Nat.zero_add] at this
            refine this.imp (fun hb => ?_) id
            cases hk : ms[acc.length]? with
            | none => simp [List.getD, hk] at hb
            | some mm => exact hms _ _ hk _ (by simpa [List.getD, hk] using hb)
          · have hlt : k < acc.length := by
              rcases Nat.lt_or_ge k acc.length with h | h
              · exact h
              · rw [List.getElem?_eq_none h] at hy; cases hy
            exact g5 p hp k y (by rw [List.getElem?_append_left hlt]; exact hy)
      · cases h1

theorem Behind.strips (h : Behind G0 S a w) : Behind G0 (strips S) a w := by
  obtain ⟨β, σ, h⟩ := h
  refine ⟨β, σ, h.tr, h.ok, h.defers, by simp [Bx.strips, h.size], fun i v hv => ?_⟩
  simp only [Bx.strips]
  rw [nth_map _ rfl]
  have := h.fr i v hv
  cases hn : nth S.fr i <;> rw [hn] at this <;> first | exact this | exact .any

theorem Behind.drew (h : Behind G0 S a w) : Behind G0 S a { w with drawn := w.drawn + 1 } := by
  obtain ⟨β, σ, h⟩ := h
  have hb : Below (G0.at w β σ S.hp).w.heap.size (G0.at w β σ S.hp).w { w with drawn := w.drawn + 1 } := (Below.refl _ _).drew
  obtain ⟨t, hR⟩ := h.ok.grow hb
  exact ⟨β, σ, h.tr.trans t, hR, h.defers, h.size, fun i v hv => (h.fr i v hv).ext t.keep⟩

/-- A REGION -/
theorem region_sound (hC : CtxOk P C) (hm : P.follows .mixedOrders = true) {id : Nat} {draw : Bool} (hd : draw = true → drawOk ops = true) {Q : Exit → Act → World → Prop} {α : Type} {r : α} {K : St → Option α}
    (hK : ∀ S a w, K S = some r → Behind G0 S a w → Q .normal a w)
    (h : (match draw with | false => runL C ops ops.toList S K | true => runD C ops (masks ops.toList []) ops.toList [] (strips S) K) = some r) (hB : Behind G0 S a w) : (Code.region id ops draw).wp P Q a w := by
  cases draw with
  | false =>
    refine wp_region ?_
    rw [List.range_eq_range']
    have := in_order hC (ops := ops) hK ops.toList 0 S a w (fun j => by simp) h hB
    simpa using this
  | true =>
    have hD := drawOk_facts (hd rfl)
    obtain ⟨m, Se, g1, g2, g3, g4, _⟩ := runD_runs (masks_spec ops.toList [] (fun k => by simp) (fun k m hk => by simp at hk)) ops.toList [] (strips S) (fun j => by simp) h
    refine wp_region_any hm ?_
    refine any_order hC hD (Se := Se) (fun a w hB => hK Se a w g2 hB) ops.size (Array.replicate ops.size false) m _ Se a _ ?_ (by rw [g3]; exact List.pairwise_lt_range') g4 (fun i => ?_) (by simp) (fun j o _ hj => ?_) (fun i _ o _ => ?_) g1 (Eqv.refl _) hB.strips.drew
    · have := congrArg List.length g3
      simp at this
      omega
    · rw [g3, List.mem_range']
      constructor
      · rintro ⟨k, hk, rfl⟩
        have hk' : 0 + 1 * k < ops.size := by simpa using hk
        refine ⟨by simpa using hk', ?_⟩
        simp only [List.length_nil, Array.getD_eq_getD_getElem?, Array.getElem?_replicate, if_pos hk', Option.getD_some]
      · rintro ⟨hi, _⟩; exact ⟨i, by simpa using hi, by simp⟩
    · exfalso
      simp only [Array.getD_eq_getD_getElem?, Array.getElem?_replicate] at hj
      split at hj <;> simp at hj
    · intro d' _ t
      simp only [Bx.strips]
      rw [nth_map _ rfl]
      cases nth S.fr t <;> rfl

end
end Go.Bx
namespace Go.Bx
set_option linter.unusedVariables false
set_option linter.unusedSimpArgs false
open Go Go.RowKit

section
variable {P : Program} {C : Ctx} {G : GE} {G0 : GE} {S : St} {a : Act} {w : World} {β : Nat → Option Nat} {σ : Nat → Value}

theorem length_keepF (l : List Nat) : ∀ (s : Nat) (fr : List V), (keepF l s fr).length = fr.length
  | _, [] => rfl
  | s, _ :: r => by simp [keepF, length_keepF l (s + 1) r]

theorem nth_keepF (l : List Nat) : ∀ (s : Nat) (fr : List V) (i : Nat), nth (keepF l s fr) i = if mem l (s + i) then sane (nth fr i) else .any
  | s, [], i => by simp [keepF, nth, sane]
  | s, v :: r, 0 => by simp [keepF, nth]
  | s, v :: r, i + 1 => by
    simp only [keepF, nth]
    rw [nth_keepF l (s + 1) r i, show s + 1 + i = s + (i + 1) by omega]

theorem nth_renL (ρ : Nat → Nat → Option (Nat × Nat)) : ∀ (l : List V) (i : Nat), nth (renL ρ l) i = ren ρ (nth l i)
  | [], i => by simp [renL, nth, ren]
  | v :: l, 0 => by simp [renL, nth]
  | v :: l, i + 1 => by simp [renL, nth, nth_renL ρ l i]

theorem length_renL (ρ : Nat → Nat → Option (Nat × Nat)) : ∀ l : List V, (renL ρ l).length = l.length
  | [] => rfl
  | v :: l => by simp [renL, length_renL ρ l]

theorem nthB_filter_map (p : Nat → Bool) (f : Nat → Blk → Blk) : ∀ (hp : Heap) (i : Nat), nthB ((hp.filter fun x => p x.1).map fun x => (x.1, f x.1 x.2)) i = if p i = true then (nthB hp i).map (f i) else none
  | [], i => by simp [nthB, look]
  | (j, b) :: r, i => by
    have ih := nthB_filter_map p f r i
    simp only [nthB] at ih ⊢
    by_cases hj : p j = true
    · rw [List.filter_cons_of_pos (by simpa using hj)]
      simp only [List.map_cons, look]
      by_cases hji : Nat.beq j i = true
      · have := Nat.eq_of_beq_eq_true hji
        subst this
        rw [if_pos hji, if_pos hji, if_pos hj]; rfl
      · rw [if_neg hji, if_neg hji]; exact ih
    · rw [List.filter_cons_of_neg (by simpa using hj)]
      simp only [look]
      by_cases hji : Nat.beq j i = true
      · have := Nat.eq_of_beq_eq_true hji
        subst this
        rw [ih, if_neg hj, if_neg hj]
      · rw [if_neg hji]; exact ih

theorem im_tidy (ρ : Nat → Nat → Option (Nat × Nat)) (i : Nat) (b : Blk) (m : Nat) : (verT C i (renB ρ b)).im m ↔ b.im m := by
  cases b <;> exact Iff.rfl

theorem BlkOk.tidy {ρ : Nat → Nat → Option (Nat × Nat)} {hp2 : Heap} (hM : Mv ρ G (G.withHp hp2)) {i : Nat} {blk : Blk} (h : BlkOk G i blk) : BlkOk (G.withHp hp2) i (verT C i (renB ρ blk)) := by
  cases blk with
  | cell t v z =>
    obtain ⟨b, arr, ty, g1, g2, g3⟩ := h
    exact ⟨b, arr, ty, g1, g2, g3.ren hM⟩
  | buf t l ver z =>
    rcases h with ⟨b, arr, ty, css, cap, rest, g1, g2, g3, g4, g5, g6, g7, g8⟩ | ⟨g1, g2, g3, g4⟩
    · exact .inl ⟨b, arr, ty, css, cap, rest, g1, g2, g3, g4.mono fun _ _ h => h.ext hM.env, g5, g6, g7, g8⟩
    · exact .inr ⟨g1, g2, g3.ext hM.env, g4⟩
  | map k v l =>
    obtain ⟨b, es, clock, g1, g2, g3, g4⟩ := h
    exact ⟨b, es, clock, g1, g2, g3.mono fun _ _ h => ⟨h.1.ext hM.env, h.2.ext hM.env⟩, g4⟩

/-- what is lent stands below a function's own numbers, and counts from the start -/
structure Lent (C : Ctx) (G0 : GE) : Prop where
  low : ∀ i blk, nthB G0.hp i = some blk → Nat.blt i C.base = true
  fst : ∀ i t l v z, nthB G0.hp i = some (.buf t l v z) → v = 0

/-- what nothing names is let go; versions begin anew -/
theorem Rel.tidy (h0 : Lent C G0) (h : Rel G0 S a w β σ) (l : List Nat) : Rel G0 (tidy C l S) a w β σ := by
  have key : ∀ (R : List Nat) (hpn : Heap), (∀ i, nthB hpn i = if (Nat.blt i C.base || mem R i) = true then (nthB S.hp i).map fun b => verT C i (renB (keepN C R S.hp) b) else none) → Rel G0 ⟨renL (keepN C R S.hp) (keepF l 0 S.fr), hpn⟩ a w β σ := by
    intro R hpn hp2
    have old : ∀ {i b2}, nthB hpn i = some b2 → ∃ b, nthB S.hp i = some b ∧ b2 = verT C i (renB (keepN C R S.hp) b) := fun {i b2} hb => by
      rw [hp2] at hb
      split at hb
      · obtain ⟨b, e1, e2⟩ := Option.map_eq_some_iff.1 hb
        exact ⟨b, e1, e2.symm⟩
      · cases hb
    have hE : Ext (GE.env (G0.at w β σ S.hp)) (GE.env (G0.at w β σ hpn)) := by
      refine ⟨fun b m ⟨k1, k2, k3⟩ => ⟨k1, k2, fun id blk hb hβ => ?_⟩, fun _ _ _ _ _ => rfl⟩
      obtain ⟨b0, e1, rfl⟩ := old hb
      exact (im_tidy _ _ _ _).2 (k3 id b0 e1 hβ)
    have hM : Mv (keepN C R S.hp) (G0.at w β σ S.hp) (G0.at w β σ hpn) := by
      refine ⟨hE, fun id ver j u blk hρ hb => ?_⟩
      unfold keepN at hρ
      split at hρ
      · rename_i hk
        have hb' : nthB S.hp id = some blk := hb
        rw [hb'] at hρ
        have hn : nthB hpn id = some (verT C id (renB (keepN C R S.hp) blk)) := by rw [hp2, if_pos hk, hb']; rfl
        cases blk with
        | cell t v z => cases hρ; exact ⟨_, hn, rfl, rfl⟩
        | map k v l => cases hρ; exact ⟨_, hn, rfl, rfl, rfl⟩
        | buf t l c z =>
          simp only at hρ
          split at hρ
          · rename_i hvc
            cases hρ
            exact ⟨_, hn, fun _ => Nat.le_refl _, fun _ _ => ⟨Nat.eq_of_beq_eq_true hvc, rfl, rfl, rfl, Nat.le_refl _⟩⟩
          · cases hρ
      · cases hρ
    have hnm : ∀ b, (G0.at w β σ hpn).named b → (G0.at w β σ S.hp).named b := fun b ⟨id, blk, hb, hβ⟩ => by
      obtain ⟨b0, e1, _⟩ := old hb
      exact ⟨id, b0, e1, hβ⟩
    refine ⟨⟨⟨h.tr.keep.env.trans hE, fun id ver j u blk hρ hb => ?_⟩, h.tr.os, h.tr.tape, h.tr.output, h.tr.size, h.tr.frame, fun b hb => h.tr.own b (hnm b hb)⟩, ⟨fun id blk hb => ?_, fun id id' blk blk' b hb hb' => ?_, fun b hb => h.ok.own b (hnm b hb), h.ok.base⟩, h.defers, ?_, fun i v hv => ?_⟩
    · simp only [stay, Option.some.injEq, Prod.mk.injEq] at hρ
      obtain ⟨rfl, rfl⟩ := hρ
      have hlow := h0.low _ _ hb
      obtain ⟨blk2, q1, q2⟩ := h.tr.keep.blk id ver id ver blk rfl hb
      have q1' : nthB S.hp id = some blk2 := q1
      refine ⟨verT C id (renB (keepN C R S.hp) blk2), ?_, ?_⟩
      · show nthB hpn id = _
        rw [hp2, hlow, Bool.true_or, if_pos rfl, q1']; rfl
      · cases blk with
        | cell t v z => cases blk2 with
          | cell t2 v2 z2 => exact q2
          | buf _ _ _ _ => exact q2.elim
          | map _ _ _ => exact q2.elim
        | map k v l => cases blk2 with
          | map _ _ _ => exact q2
          | cell _ _ _ => exact q2.elim
          | buf _ _ _ _ => exact q2.elim
        | buf t l c z => cases blk2 with
          | buf t2 l2 c2 z2 =>
            have hc := h0.fst _ _ _ _ _ hb
            subst hc
            have hv : firstV C id = 1 := by unfold firstV; rw [hlow]
            refine ⟨fun hv0 => ?_, fun hv0 he => ?_⟩
            · rw [hv]; omega
            · rw [hv] at he; omega
          | cell _ _ _ => exact q2.elim
          | map _ _ _ => exact q2.elim
    · obtain ⟨b0, e1, rfl⟩ := old hb
      exact (h.ok.blk id b0 e1).tidy hM
    · obtain ⟨b0, e1, _⟩ := old hb
      obtain ⟨b0', e1', _⟩ := old hb'
      exact h.ok.inj id id' b0 b0' b e1 e1'
    · simp only [length_renL, length_keepF]; exact h.size
    · simp only [nth_renL]
      rw [nth_keepF]
      refine AtV.ren hM _ _ ?_
      split
      · exact (h.fr i v hv).sane
      · exact .any
  unfold Bx.tidy
  generalize closeN S.hp 6 _ = R
  exact key R _ (nthB_filter_map (fun i => Nat.blt i C.base || mem R i) (fun i b => verT C i (renB (keepN C R S.hp) b)) S.hp)

theorem lay_self : ∀ {cs cs1 : List Value} {o : Nat}, (∀ j x, cs1[j]? = some x → cs[o + j]? = some x) → o + cs1.length ≤ cs.length → lay cs o cs1 = cs := by
  intro cs cs1 o h hl
  unfold lay
  apply List.ext_getElem?
  intro j
  rw [List.getElem?_append, List.getElem?_append]
  simp only [List.length_append, List.length_take, List.getElem?_take, List.getElem?_drop]
  by_cases h1 : j < o
  · rw [if_pos (by omega), if_pos (by omega), if_pos h1]
  · by_cases h2 : j < o + cs1.length
    · rw [if_pos (by omega), if_neg (by omega)]
      have hj : j - min o cs.length < cs1.length := by omega
      rw [List.getElem?_eq_getElem hj]
      have := h _ _ (List.getElem?_eq_getElem hj)
      rw [show o + (j - min o cs.length) = j by omega] at this
      exact this.symm
    · rw [if_neg (by omega)]
      rw [show o + cs1.length + (j - (min o cs.length + cs1.length)) = j by omega]

/-- a part of a value told otherwise -/
theorem modV_at (f : V → V) : ∀ (p : List Nat) {v v' : V} {x : Value} {tm : Array Value}, AtV G tm v x → modV f p v = some v' →
    ∃ y tm', AtV G tm' (partV p v) y ∧ ∀ G', Keep G G' → AtV G' tm' (f (partV p v)) y → AtV G' tm v' x
  | [], v, v', x, tm, h, hm => by
    simp only [modV, Option.some.injEq] at hm
    subst hm
    exact ⟨x, tm, h, fun _ _ h => h⟩
  | j :: p, v, v', x, tm, h, hm => by
    unfold modV at hm
    split at hm
    · rename_i e; cases e
    · rename_i j' p' t l e
      cases e
      split at hm
      · rename_i hjl
        split at hm
        · rename_i z u hz hu
          split at hm
          · rename_i hf
            cases hm
            simp only [AtV] at h
            obtain ⟨cs, rfl, hfl⟩ := h
            obtain ⟨o, ho⟩ := fld_off hu
            obtain ⟨a, o1, o2, cs1, g1, g2, g3, g4, g5, g6, g7⟩ := hfl.part (p := []) ho
            obtain ⟨e1, e2⟩ := offT_nil g1
            subst e2
            obtain ⟨y, ey, hy, _⟩ := AtV.ofFlatV g4
            obtain ⟨y', tm', k1, k2⟩ := modV_at f p hy hz
            refine ⟨y', tm', by simpa only [partV] using k1, fun G' hK hfy => ?_⟩
            have hz' := k2 G' hK (by simpa only [partV] using hfy)
            obtain ⟨q1, _⟩ := fits_flat hf hz'
            rw [← ey] at q1
            have hfl' : FlatL G' t l cs.toList := by
              have := FlatL.ren (ρ := stay) hK t l cs.toList hfl
              rwa [renL_stay] at this
            obtain ⟨a', o1', o2', cs1', g1', g2', g3', g4', g5', g6', g7'⟩ := hfl'.part (p := []) ho
            obtain ⟨e1', e2'⟩ := offT_nil g1'
            subst e2'
            have ho1 : o1' = o1 := by omega
            subst ho1
            have hl1 : cs1.length = cs1'.length := by rw [g4.length, g4'.length]
            have hcs : cs1' = cs1 := by
              apply List.ext_getElem?
              intro i
              by_cases hi : i < cs1.length
              · have a1 := g5 i _ (List.getElem?_eq_getElem hi)
                have a2 := g5' i _ (List.getElem?_eq_getElem (hl1 ▸ hi))
                rw [List.getElem?_eq_getElem hi, List.getElem?_eq_getElem (hl1 ▸ hi), ← a1, ← a2]
              · rw [List.getElem?_eq_none (by omega), List.getElem?_eq_none (by omega)]
            subst hcs
            have := g7' z 0 cs1' (by rw [lay_zero _ _ rfl]; exact q1) (by omega)
            rw [Nat.add_zero, lay_self g5' g6'] at this
            exact mkAgg_at (by simp only [AtV]; exact ⟨cs, rfl, this⟩)
          · cases hm
        · cases hm
      · cases hm
    · cases hm

/-- a slot's new value -/
theorem setSlot_rel (h : Rel G0 S a w β σ) {i : Nat} {slot : Bool} {v' : V} {S' : St} (hset : setSlot C i slot S v' = some S')
    (h1 : slot = true → ∀ x, a.tmps[i]? = some x → AtV (G0.at w β σ S.hp) a.tmps v' x)
    (h2 : slot = false → ∀ b arr ty t v z, nthB S.hp (C.base + i) = some (.cell t v z) → β (C.base + i) = some b → w.heap[b]? = some (.cells arr ty (0, 0)) → fits t v' = true → FlatV (G0.at w β σ S.hp) t v' arr.toList) : Rel G0 S' a w β σ := by
  unfold setSlot at hset
  cases slot with
  | true =>
    cases hset
    refine ⟨h.tr, h.ok, h.defers, by simpa using h.size, fun j x hx => ?_⟩
    simp only
    rw [nth_set]
    split
    · rename_i he
      obtain ⟨rfl, _⟩ := he
      exact h1 rfl x hx
    · exact h.fr j x hx
  | false =>
    simp only at hset
    split at hset
    · rename_i t v z hb
      split at hset
      · rename_i hf
        cases hset
        have hb' : nthB (G0.at w β σ S.hp).hp (C.base + i) = some (.cell t v z) := hb
        obtain ⟨b, arr, ty, g1, g2, g3⟩ := h.ok.cell hb'
        have hv := h2 rfl b arr ty t v z hb g1 g2 hf
        obtain ⟨t1, k1⟩ := h.ok.turn (blk' := .cell t v' z) hb' (w' := w) rfl rfl rfl rfl (fun _ _ => rfl) (fun m hm => hm) (fun _ _ _ _ _ _ => rfl) ⟨⟨rfl, rfl⟩, fun _ => ⟨rfl, rfl⟩⟩ (fun _ hK => ⟨b, arr, ty, g1, g2, hv.ext hK⟩)
        exact ⟨h.tr.trans t1, k1, h.defers, h.size, fun j x hx => (h.fr j x hx).ext t1.keep⟩
      · cases hset
    · cases hset

theorem like_cell {hp hp' : Heap} (h : Like hp hp') {i : Nat} {t t' : Ty} {v v' : V} {z z' : Bool} (h1 : nthB hp i = some (.cell t v z)) (h2 : nthB hp' i = some (.cell t' v' z')) : t' = t ∧ v' = v := by
  rcases h i with e | ⟨b, e1, e2⟩
  · rw [e, h1] at h2; cases h2; exact ⟨rfl, rfl⟩
  · rw [h1] at e1; cases e1
    rw [e2] at h2; cases h2; exact ⟨rfl, rfl⟩

theorem partV_any {p : List Nat} {t : Ty} {l : List t.den} (h : partV p .any = .full t l) : False := by
  cases p <;> simp [partV] at h

theorem norm1_sound (h : Behind G0 S a w) {n : Norm} {S' : St} (hn : norm1 C S n = some S') : Behind G0 S' a w := by
  obtain ⟨β, σ, h⟩ := h
  have slotT : ∀ {i v}, slotOf C i true S = some v → v = sane (nth S.fr i) := fun {i v} hs => by simp only [slotOf, Option.some.injEq] at hs; exact hs.symm
  have slotF : ∀ {i v}, slotOf C i false S = some v → ∃ t z, nthB S.hp (C.base + i) = some (.cell t v z) := fun {i v} hs => by
    unfold slotOf at hs
    simp only at hs
    split at hs
    · rename_i t v' z hb; cases hs; exact ⟨t, z, hb⟩
    · cases hs
  cases n with
  | dat slot i p =>
    simp only [norm1] at hn
    split at hn
    · rename_i v hs
      split at hn
      · rename_i v' hm
        obtain ⟨t1, k1⟩ := frz_tr (partV p v) (G0.at w β σ S.hp) h.ok
        have h1 : Rel G0 ⟨S.fr, frz S.hp (partV p v)⟩ a w β σ := ⟨h.tr.trans t1, k1, h.defers, h.size, fun j x hx => (h.fr j x hx).ext t1.keep⟩
        have hrd : ∀ {tm y}, AtV (G0.at w β σ S.hp) tm (partV p v) y → AtV (G0.at w β σ (frz S.hp (partV p v))) tm (rdD S.hp (partV p v)) y := fun {tm y} hy => by
          unfold rdD
          split
          · rename_i t z hr
            have := rd_frz (partV p v) (G0.at w β σ S.hp) h.ok hy hr
            simp only [AtV]; exact this
          · exact .any
        refine ⟨β, σ, setSlot_rel h1 hn (fun e x hx => ?_) (fun e b arr ty t v0 z hb hβ hw hf => ?_)⟩
        · subst e
          have := slotT hs
          subst this
          obtain ⟨y, tm', k2, k3⟩ := modV_at _ p (AtV.sane (tm' := a.tmps) (h.fr i x hx)) hm
          exact k3 _ t1.keep (hrd k2)
        · subst e
          obtain ⟨t', z', hb'⟩ := slotF hs
          obtain ⟨rfl, rfl⟩ := like_cell (like_frz (partV p v) S.hp) hb' hb
          obtain ⟨b2, arr2, ty2, g1, g2, g3⟩ := h.ok.cell (G := G0.at w β σ S.hp) hb'
          have g1 : β (C.base + i) = some b2 := g1
          have g2 : w.heap[b2]? = some (.cells arr2 ty2 (0, 0)) := g2
          rw [g1] at hβ; cases hβ
          rw [g2] at hw; cases hw
          obtain ⟨x, ex, _, hx⟩ := g3
          obtain ⟨y, tm', k2, k3⟩ := modV_at _ p hx hm
          rw [ex]
          exact (fits_flat hf (k3 _ t1.keep (hrd k2))).1
      · cases hn
    · cases hn
  | melt slot i p id z =>
    simp only [norm1] at hn
    split at hn
    · rename_i v hs
      split at hn
      · rename_i t l hp
        split at hn
        · rename_i hc
          simp only [Bool.and_eq_true, Bool.or_eq_true, List.isEmpty_iff] at hc
          split at hn
          · rename_i v' hm
            have hfree := free_none hc.1
            have pre : ∃ x tm0, AtV (G0.at w β σ S.hp) tm0 v x ∧ (slot = true → a.tmps[i]? = some x ∧ tm0 = a.tmps) ∧ (slot = false → ∃ t0 z0 b arr ty, nthB S.hp (C.base + i) = some (.cell t0 v z0) ∧ β (C.base + i) = some b ∧ w.heap[b]? = some (.cells arr ty (0, 0)) ∧ arr.toList = x.cells.toList) := by
              cases slot with
              | true =>
                have := slotT hs
                subst this
                cases hx : a.tmps[i]? with
                | none =>
                  exfalso
                  have hge : S.fr.length ≤ i := by rw [← h.size]; exact Array.getElem?_eq_none_iff.1 hx
                  rw [nth_of_ge hge] at hp
                  exact partV_any hp
                | some x => exact ⟨x, a.tmps, AtV.sane (h.fr i x hx), fun _ => ⟨rfl, rfl⟩, fun e => by cases e⟩
              | false =>
                obtain ⟨t', z', hb'⟩ := slotF hs
                obtain ⟨b2, arr2, ty2, g1, g2, g3⟩ := h.ok.cell (G := G0.at w β σ S.hp) hb'
                obtain ⟨x, ex, _, hx⟩ := g3
                exact ⟨x, #[], hx, (fun e => by cases e), fun _ => ⟨t', z', b2, arr2, ty2, hb', g1, g2, ex⟩⟩
            obtain ⟨x, tm0, hx, pT, pF⟩ := pre
            obtain ⟨y, tm', k2, k3⟩ := modV_at _ p hx hm
            rw [hp] at k2
            simp only [AtV] at k2
            obtain ⟨t1, q1, q2⟩ := h.ok.sameBuf (id := C.base + id) (ver := 0) (fun blk hb => by
              have hb : nthB S.hp (C.base + id) = some blk := hb
              rw [hfree] at hb; cases hb) k2.1 k2.2 (z := z) hc.2
            have h1 : Rel G0 ⟨S.fr, setB S.hp (C.base + id) (.buf t l 0 z)⟩ a w (upd β (C.base + id) none) (upd σ (C.base + id) y) := ⟨h.tr.trans t1, q1, h.defers, h.size, fun j x hx => (h.fr j x hx).ext t1.keep⟩
            refine ⟨_, _, setSlot_rel h1 hn (fun e x' hx' => ?_) (fun e b arr ty t0 v0 z0 hb hβ hw hf => ?_)⟩
            · obtain ⟨e1, rfl⟩ := pT e
              rw [e1] at hx'; cases hx'
              exact k3 _ t1.keep (by simp only [AtV]; exact q2)
            · obtain ⟨t', z', b2, arr2, ty2, g1, g2, g3, g4⟩ := pF e
              have hne : C.base + i ≠ C.base + id := fun e' => by rw [e', hfree] at g1; cases g1
              rw [look_set, if_neg hne, g1] at hb
              cases hb
              rw [upd_ne _ _ hne, g2] at hβ; cases hβ
              rw [g3] at hw; cases hw
              rw [g4]
              exact (fits_flat hf (k3 _ t1.keep (by simp only [AtV]; exact q2))).1
          · cases hn
        · cases hn
      · cases hn; exact ⟨β, σ, h⟩
      · cases hn
    · cases hn

theorem norms_sound : ∀ (ns : List Norm) {S S' : St}, Behind G0 S a w → norms C ns S = some S' → Behind G0 S' a w
  | [], S, S', h, hn => by cases hn; exact h
  | n :: ns, S, S', h, hn => by
    simp only [norms] at hn
    split at hn
    · rename_i S1 h1; exact norms_sound ns (norm1_sound h h1) hn
    · cases hn

theorem clean_sound (h0 : Lent C G0) (h : Behind G0 S a w) {α : Type} {key : Nat} {K : St → Option α} {r : α} (hk : clean C key S K = some r) : ∃ S', K S' = some r ∧ Behind G0 S' a w := by
  unfold clean at hk
  split at hk
  · exact ⟨S, hk, h⟩
  · split at hk
    · obtain ⟨β, σ, h⟩ := h
      exact ⟨_, hk, β, σ, h.tidy h0 _⟩
    · split at hk
      · rename_i S1 hn
        obtain ⟨β, σ, h⟩ := norms_sound _ h hn
        exact ⟨_, hk, β, σ, h.tidy h0 _⟩
      · cases hk

end
end Go.Bx
namespace Go.Bx
set_option linter.unusedVariables false
set_option linter.unusedSimpArgs false
open Go Go.RowKit

/-- every region that draws its order comes to the same in every order -/
def drawsOk : Code → Bool
  | .region _ ops draw => !draw || drawOk ops
  | .seq a b => drawsOk a && drawsOk b
  | .cond _ a b => drawsOk a && drawsOk b
  | .block _ a => drawsOk a
  | .loop a => drawsOk a
  | .scope a => drawsOk a
  | _ => true

section
variable {P : Program} {C : Ctx} {G0 : GE}

structure QOk (G0 : GE) {α : Type} (Q : Ex → St → Option α) (r : α) (Q' : Exit → Act → World → Prop) : Prop where
  normal : ∀ S a w, Q .normal S = some r → Behind G0 S a w → Q' .normal a w
  exit : ∀ id S a w, Q (.exit id) S = some r → Behind G0 S a w → Q' (.exit id) a w
  ret : ∀ S a w, Q .ret S = some r → Behind G0 S a w → Q' .ret a w

theorem den_sound (hC : CtxOk P C) (hm : P.follows .mixedOrders = true) (h0 : Lent C G0) (k : Nat) {α : Type} {r : α} : ∀ (c : Code), drawsOk c = true → ∀ (Q : Ex → St → Option α) (Q' : Exit → Act → World → Prop) (S : St) (a : Act) (w : World), QOk G0 Q r Q' →
    den C k c Q S = some r → Behind G0 S a w → c.wp P Q' a w
  | .skip, _, Q, Q', S, a, w, hQ, h, hB => wp_skip (hQ.normal S a w h hB)
  | .label _, _, Q, Q', S, a, w, hQ, h, hB => wp_label (hQ.normal S a w h hB)
  | .exit id, _, Q, Q', S, a, w, hQ, h, hB => by
    obtain ⟨S', h', hB'⟩ := clean_sound h0 hB h
    exact wp_exit (hQ.exit id _ a w h' hB')
  | .ret, _, Q, Q', S, a, w, hQ, h, hB => by
    obtain ⟨S', h', hB'⟩ := clean_sound h0 hB h
    exact wp_ret (hQ.ret _ a w h' hB')
  | .region id ops draw, hd, Q, Q', S, a, w, hQ, h, hB => by
    refine region_sound hC hm (K := Q .normal) (r := r) (fun e => ?_) (fun S a w h hB => hQ.normal S a w h hB) ?_ hB
    · subst e; simpa [drawsOk] using hd
    · cases draw <;> exact h
  | .seq x y, hd, Q, Q', S, a, w, hQ, h, hB => by
    simp only [drawsOk, Bool.and_eq_true] at hd
    refine wp_seq (den_sound hC hm h0 k x hd.1 (seqQ (fun S => clean C (headK y) S (den C k y Q)) Q) _ S a w ⟨fun S a w h hB => ?_, fun id S a w h hB => hQ.exit id S a w h hB, fun S a w h hB => hQ.ret S a w h hB⟩ h hB)
    obtain ⟨S', h', hB'⟩ := clean_sound h0 hB h
    exact den_sound hC hm h0 k y hd.2 Q Q' _ a w hQ h' hB'
  | .cond c x y, hd, Q, Q', S, a, w, hQ, h, hB => by
    simp only [drawsOk, Bool.and_eq_true] at hd
    simp only [den] at h
    split at h
    · rename_i t heq
      obtain ⟨β, σ, hR⟩ := hB
      have he := hR.ev c
      rw [heq] at he
      have he := he.bool
      split at h
      · rename_i ht
        exact wp_cond_true (by rw [he]; rw [show t = true from ht]) (den_sound hC hm h0 k x hd.1 Q Q' S a w hQ h ⟨β, σ, hR⟩)
      · rename_i ht
        exact wp_cond_false (by rw [he]; rw [show t = false by simpa using ht]) (den_sound hC hm h0 k y hd.2 Q Q' S a w hQ h ⟨β, σ, hR⟩)
    · cases h
  | .block id c, hd, Q, Q', S, a, w, hQ, h, hB => by
    simp only [drawsOk] at hd
    refine wp_block (den_sound hC hm h0 k c hd (blkQ C id Q) _ S a w ⟨fun S a w h hB => ?_, fun i S a w h hB => ?_, fun S a w h hB => hQ.ret S a w h hB⟩ h hB)
    · obtain ⟨S', h', hB'⟩ := clean_sound h0 hB h
      exact hQ.normal _ a w h' hB'
    simp only [blkQ] at h
    show (if i = id then Q' .normal a w else Q' (.exit i) a w)
    split at h
    · rename_i hi
      rw [if_pos (Nat.eq_of_beq_eq_true hi)]
      exact hQ.normal _ a w h hB
    · rename_i hi
      rw [if_neg (fun e => hi (by rw [e]; exact Nat.beq_refl id))]
      exact hQ.exit i S a w h hB
  | .loop c, hd, Q, Q', S, a, w, hQ, h, hB => by
    simp only [drawsOk] at hd
    have key : ∀ k' S a w, iter (fun next => den C k c (seqQ (fun S => clean C (headK c) S next) Q)) k' S = some r → Behind G0 S a w → Code.rounds P c Q' k' a w := by
      intro k'
      induction k' with
      | zero => intro S a w h _; cases h
      | succ k' ih =>
        intro S a w h hB
        simp only [iter] at h
        rw [rounds_succ]
        refine den_sound hC hm h0 k c hd (seqQ (fun S => clean C (headK c) S (iter (fun next => den C k c (seqQ (fun S => clean C (headK c) S next) Q)) k')) Q) _ S a w ⟨fun S a w h hB => ?_, fun id S a w h hB => hQ.exit id S a w h hB, fun S a w h hB => hQ.ret S a w h hB⟩ h hB
        obtain ⟨S', h', hB'⟩ := clean_sound h0 hB h
        exact ih _ a w h' hB'
    obtain ⟨S', h', hB'⟩ := clean_sound h0 hB h
    exact wp_loop_rounds k (key k _ a w h' hB')
  | .scope c, hd, Q, Q', S, a, w, hQ, h, hB => by
    simp only [drawsOk] at hd
    exact wp_scope_straight (den_sound hC hm h0 k c hd Q (Exit.noGoto Q') S a w ⟨fun S a w h hB => hQ.normal S a w h hB, fun id S a w h hB => hQ.exit id S a w h hB, fun S a w h hB => hQ.ret S a w h hB⟩ h hB)
  | .rangeFunc _ _ _ _, _, _, _, _, _, _, _, h, _ => by cases h
  | .goto _, _, _, _, _, _, _, _, h, _ => by cases h
  | .refuse _, _, _, _, _, _, _, _, h, _ => by cases h

theorem spread_length {E : Env} : ∀ {t : Ty} {x : t.den} {vs : List Value}, ArgsAt E t x vs → (spread t x).length = vs.length
  | .unit, _, _, h => by simp only [ArgsAt] at h; subst h; rfl
  | .pair a b, x, _, ⟨v, r, e, _, h2⟩ => by subst e; simp [spread, spread_length h2]
  | .int _, _, _, h => h.elim
  | .bool, _, _, h => h.elim
  | .str, _, _, h => h.elim
  | .sl _, _, _, h => h.elim
  | .arr _ _, _, _, h => h.elim
  | .opq, _, _, h => h.elim

theorem AtL_nth {G : GE} {tm : Array Value} : ∀ {l : List V} {vs : List Value}, AtL G tm l vs → ∀ i x, vs[i]? = some x → AtV G tm (nth l i) x
  | [], [], _, i, x, h => by simp at h
  | v :: l, y :: vs, h, 0, x, hx => by simp only [AtL] at h; simp at hx; subst hx; exact h.1
  | v :: l, y :: vs, h, i + 1, x, hx => by simp only [AtL] at h; simpa [nth] using AtL_nth h.2 i x (by simpa using hx)
  | [], _ :: _, h, _, _, _ => by simp [AtL] at h
  | _ :: _, [], h, _, _, _ => by simp [AtL] at h

theorem nth_append : ∀ (l m : List V) (i : Nat), nth (l ++ m) i = if i < l.length then nth l i else nth m (i - l.length)
  | [], m, i => by simp
  | v :: l, m, 0 => by simp [nth]
  | v :: l, m, i + 1 => by simp only [List.cons_append, nth, nth_append l m i, List.length_cons, Nat.add_lt_add_iff_right, Nat.add_sub_add_right]

theorem nth_replicate : ∀ (n i : Nat), nth (List.replicate n .any) i = .any
  | 0, _ => rfl
  | _ + 1, 0 => rfl
  | n + 1, i + 1 => by simpa [List.replicate_succ, nth] using nth_replicate n i

theorem bare_nil {id : Nat} {blk : Blk} (h : nthB ([] : Heap) id = some blk) : False := by rw [nthB_nil] at h; cases h

/-- nothing is lent -/
abbrev bare (w : World) (I : Nat → Nat → Prop) : GE := mkG w (fun _ => none) (fun _ => .nilFunc) [] I

theorem bare_env {w : World} {I : Nat → Nat → Prop} (hI : ∀ b m, I b m → b < w.heap.size) : Ext (⟨w, I⟩ : Env) (bare w I).env :=
  ⟨fun b m h => ⟨.inl h, hI b m h, fun id blk hb => (bare_nil hb).elim⟩, fun _ _ _ _ _ => rfl⟩

theorem bare_ok (w : World) (I : Nat → Nat → Prop) : HRel (bare w I) :=
  ⟨fun id blk hb => (bare_nil hb).elim, fun id id' blk blk' b hb => (bare_nil hb).elim, fun b ⟨id, blk, hb, _⟩ => (bare_nil hb).elim, Nat.le_refl _⟩

/-- where a call begins -/
theorem start_rel {F : Fn} {x : F.ps.den} {w : World} {I : Nat → Nat → Prop} (hI : ∀ b m, I b m → b < w.heap.size) {args : Array Value} (ha : ArgsAt ⟨w, I⟩ F.ps x args.toList) {n : Nat} (_hn : args.size ≤ n) :
    Behind (bare w I) (start F n x) { tmps := args ++ Array.replicate (n - args.size) undef, defers := [] } w := by
  have hlen : (spread F.ps x).length = args.size := by rw [spread_length ha, Array.length_toList]
  refine ⟨fun _ => none, fun _ => .nilFunc, Tr.refl _, bare_ok w I, rfl, ?_, fun i v hv => ?_⟩
  · simp [start, startS, hlen]
  · simp only [start, startS] at hv ⊢
    rw [nth_append]
    split
    · rename_i hi
      have hv' : args.toList[i]? = some v := by
        rw [Array.getElem?_append_left (by omega)] at hv
        simpa using hv
      exact AtL_nth (spread_at (G := bare w I) (ha.ext (bare_env hI))) i v hv'
    · rw [nth_replicate]; exact .any

def rvS (tmps : Array Value) : ResultVar → Sem Value
  | .tmp t => pure (tmps.getD t undef)
  | .cell a t => do loadVar t (← asAddr (tmps.getD a undef))

theorem results_rv (fn : Func) (tmps : Array Value) : results fn tmps = (do let vs ← fn.results.mapM (rvS tmps); pure (if h : vs.size = 1 then vs[0] else .tuple vs)) := by
  unfold results
  congr 1

theorem results_list {tmps : Array Value} {w : World} : ∀ {l : List ResultVar} {vs : List Value}, All2 (fun r v => (rvS tmps r).run P w = .ok v w) l vs →
    (l.mapM (rvS tmps)).run P w = .ok vs w
  | [], [], _ => by simp
  | r :: l, v :: vs, ⟨h1, h2⟩ => by
    have ih := results_list h2
    rw [List.mapM_cons]
    simp only [Sem.run_bind, Sem.run_pure] at h1 ih ⊢
    rw [h1]
    simp only [Result.andThen_ok, ih]

section
variable {S : St} {a : Act} {w : World} {β : Nat → Option Nat} {σ : Nat → Value}

theorem resV_sound (hC : CtxOk P C) (h : Rel G0 S a w β σ) {r : ResultVar} {v : V} (hv : resV C S r = some v) :
    ∃ x, (rvS a.tmps r).run P w = .ok x w ∧ AtV (G0.at w β σ S.hp) #[] v x := by
  cases r with
  | tmp t =>
    simp only [resV, Option.some.injEq] at hv
    subst hv
    exact ⟨a.eval (.tmp t), by simp only [rvS, Sem.run_pure, Act.eval], (h.ev (.tmp t)).sane⟩
  | cell ad t =>
    simp only [resV] at hv
    split at hv
    · rename_i τ id ver hτ heq
      split at hv
      · rename_i σ' c z hb
        split at hv
        · rename_i he
          subst he
          cases hv
          have hx := h.ev (.tmp ad)
          simp only [Bx.ev] at hx
          rw [heq] at hx
          simp only [AtV] at hx
          obtain ⟨b, o, g1, g2, g3⟩ := tyAt_off (G := G0.at w β σ S.hp) hx hb (τ := σ') (by cases σ' <;> rfl)
          obtain ⟨rfl, _⟩ := offT_nil g2
          obtain ⟨b2, arr, ty, e1, e2, e3⟩ := h.ok.cell (G := G0.at w β σ S.hp) hb
          rw [g1] at e1; cases e1
          obtain ⟨x, r1, r2⟩ := run_loadV (G := G0.at w β σ S.hp) w (hC.ty _ _ hτ) ⟨b, 0, none⟩ rfl e3 (fun j v hj => by show w.cell? ⟨b, 0 + j, none⟩ = some v; rw [Nat.zero_add]; exact (cell_arr e2 j).trans hj)
          simp only [Act.eval] at g3
          refine ⟨x, ?_, r2 #[]⟩
          simp only [rvS, g3, asAddr, Sem.run_bind, Sem.run_pure, Result.andThen_ok, r1]
        · cases hv
      · cases hv
    · cases hv

theorem resL_sound (hC : CtxOk P C) (h : Rel G0 S a w β σ) : ∀ {l : List ResultVar} {vs : List V}, resL C S l = some vs →
    ∃ xs, All2 (fun r v => (rvS a.tmps r).run P w = .ok v w) l xs ∧ AtL (G0.at w β σ S.hp) #[] vs xs ∧ xs.length = vs.length
  | [], vs, hv => by simp only [resL, Option.some.injEq] at hv; subst hv; exact ⟨[], trivial, by simp [AtL], rfl⟩
  | r :: l, vs, hv => by
    simp only [resL] at hv
    split at hv
    · rename_i v vs' h1 h2
      cases hv
      obtain ⟨x, r1, r2⟩ := resV_sound hC h h1
      obtain ⟨xs, s1, s2, s3⟩ := resL_sound hC h h2
      exact ⟨x :: xs, ⟨r1, s1⟩, by simp only [AtL]; exact ⟨r2, s2⟩, by simp [s3]⟩
    · cases hv

end

theorem results_run {fn : Func} {tmps : Array Value} {w : World} {xs : List Value} (h : All2 (fun r v => (rvS tmps r).run P w = .ok v w) fn.results.toList xs) :
    (results fn tmps).run P w = .ok (if h : xs.toArray.size = 1 then xs.toArray[0] else .tuple xs.toArray) w := by
  have h1 := results_list (P := P) h
  have e : fn.results.mapM (rvS tmps) = (fn.results.toList.mapM (rvS tmps) >>= fun l => pure l.toArray) := by
    rw [Array.mapM_eq_mapM_toList]; rfl
  rw [results_rv, e]
  simp only [Sem.run_bind, h1, Result.andThen_ok, Sem.run_pure]

/-- THE CONTRACT OF A GO FUNCTION out of its abstract run -/
theorem con_of_den (hC : CtxOk P C) (hm : P.follows .mixedOrders = true) {f : FuncId} {fn : Func} {c : Code} (hf : P.funcs[f]? = some fn) (hb : fn.body = some c) (hd : drawsOk c = true) (F : Fn) (k : Nat) (hn : ∀ (x : F.ps.den), (spread F.ps x).length ≤ fn.ntmps)
    (hF : ∀ x r, F.run x = some r → den C k c (fin C fn.results.toList F.rs F.multi) (start F fn.ntmps x) = some r) : Con P f F := by
  intro w I x r args hI hr ha
  have hlen : (spread F.ps x).length = args.size := by rw [spread_length ha, Array.length_toList]
  refine calls_of_wp hf hb ?_
  have hB := start_rel hI ha (n := fn.ntmps) (by rw [← hlen]; exact hn x)
  have done : ∀ (e : Ex) (S : St) (a : Act) (w' : World), (e = .normal ∨ e = .ret) → fin C fn.results.toList F.rs F.multi e S = some r → Behind (bare w I) S a w' →
      a.defers = [] ∧ ∃ v, (results fn a.tmps).run P w' = .ok v w' ∧ ∃ v', Ending.returned v = .returned v' ∧ Below w.heap.size w w' ∧ OutAt ⟨w', fun b m => I b m ∨ (w.heap.size ≤ b ∧ b < w'.heap.size)⟩ F r v' := by
    intro e S a w' he hfin hB
    obtain ⟨β, σ, hR⟩ := hB
    refine ⟨hR.defers, ?_⟩
    have hfin' : (match F.multi, resL C S fn.results.toList with
        | false, some [v] => match rd S.hp v with
          | .data t' x => castD t' F.rs x
          | _ => none
        | true, some l => if Nat.beq l.length 1 = true then none else getArgs F.rs (rdL S.hp l)
        | _, _ => none) = some r := by
      rcases he with rfl | rfl <;> exact hfin
    have hbare : ∀ b, ¬ (bare w I).named b := fun b ⟨id, blk, hb, _⟩ => bare_nil hb
    have hBe : Below w.heap.size w w' := ⟨hR.tr.os, hR.tr.tape, hR.tr.output, hR.tr.size, fun b hb => hR.tr.frame b hb (hbare b)⟩
    have hE : ∀ hp2, Ext (GE.env ((bare w I).at w' β σ hp2)) ⟨w', fun b m => I b m ∨ (w.heap.size ≤ b ∧ b < w'.heap.size)⟩ := fun hp2 =>
      ⟨fun b m ⟨h1, h2, _⟩ => by
        rcases h1 with h | h | h
        · exact .inl h
        · exact .inr ⟨h, h2⟩
        · exact absurd h (hbare b), fun _ _ _ _ _ => rfl⟩
    split at hfin'
    · rename_i v' hmul hl
      split at hfin'
      · rename_i t' x' hrd
        obtain ⟨rfl, rfl⟩ := castD_some hfin'
        obtain ⟨xs, s1, s2, s3⟩ := resL_sound hC hR hl
        obtain ⟨v, rfl⟩ := List.length_eq_one_iff.1 (by simpa using s3)
        refine ⟨v, by rw [results_run s1]; simp, v, rfl, hBe, ?_⟩
        unfold OutAt; rw [hmul]
        simp only [AtL, and_true] at s2
        exact (rd_frz v' _ hR.ok s2 hrd).ext (hE _)
      · cases hfin'
    · rename_i l hmul hl
      split at hfin'
      · cases hfin'
      · rename_i hne
        obtain ⟨xs, s1, s2, s3⟩ := resL_sound hC hR hl
        have hne' : xs.toArray.size ≠ 1 := by
          intro e
          apply hne
          rw [← s3, show xs.length = 1 by simpa using e]
          rfl
        refine ⟨.tuple xs.toArray, by rw [results_run s1, dif_neg hne'], .tuple xs.toArray, rfl, hBe, ?_⟩
        unfold OutAt; rw [hmul]
        exact ⟨xs.toArray, rfl, (argsL_frz _ hR.ok hfin' s2).ext (hE _)⟩
    · cases hfin'
  refine den_sound hC hm ⟨fun i blk h => (bare_nil h).elim, fun i t l v z h => (bare_nil h).elim⟩ k c hd _ _ (start F fn.ntmps x) _ w ⟨fun S a w' h hB => ?_, fun id S a w' h hB => ?_, fun S a w' h hB => ?_⟩ (hF x r hr) hB
  · exact done .normal S a w' (.inl rfl) h hB
  · cases h
  · exact done .ret S a w' (.inr rfl) h hB

end
end Go.Bx
