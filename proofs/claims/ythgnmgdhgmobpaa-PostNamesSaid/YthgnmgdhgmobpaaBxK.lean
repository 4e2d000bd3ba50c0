/- A part of a framework that reads Go code as functions of plain data; or a law about such functions. -/
import Derived.Test.YthgnmgdhgmobpaaBxJ
namespace Go.Bx
open Go Go.RowKit

section
variable {P : Program} {C : Ctx} {w0 : World} {I0 : Nat → Nat → Prop} {S : St} {a : Act} {w : World} {β : Nat → Option Nat}

/-- what stands behind an operation: some state that the abstract one tells -/
def Behind (w0 : World) (I0 : Nat → Nat → Prop) (S : St) (a : Act) (w : World) : Prop := ∃ β, Rel w0 I0 S a w β

theorem tag_at {G : GE} {tm : Array Value} {g : Option Gd} {v : V} {x : Value} (hg : ∀ gd, g = some gd → tm[gd.d]? = some (.bool gd.want)) {tm' : Array Value} (h : AtV G tm' v x) {C : Ctx} {ty : Nat} : AtV G tm (tag g (saneT C ty v)) x := by
  cases g with
  | none => exact h.saneT
  | some gd =>
    simp only [tag, AtV]
    exact ⟨fun _ => h.saneT, fun e => absurd (hg gd rfl) e⟩

theorem tag_undef {G : GE} {tm : Array Value} {gd : Gd} {v : V} (hg : tm[gd.d]? ≠ some (.bool gd.want)) {C : Ctx} {ty : Nat} : AtV G tm (tag (some gd) (saneT C ty v)) undef := by
  simp only [tag, AtV]
  exact ⟨fun e => absurd e hg, fun _ => by first | rfl | trivial⟩

theorem put_other {a : Act} {dst : Option Nat} {d : Nat} {x : Value} (h : dst ≠ some d) : (a.put dst x).tmps[d]? = a.tmps[d]? := by
  cases dst with
  | none => rfl
  | some e => simp only [Act.put]; exact Array.getElem?_setIfInBounds_ne (fun e' => h (by rw [e']))

theorem getArgs_at {G : GE} {tm : Array Value} : ∀ {t : Ty} {l : List V} {x : t.den} {vs : List Value}, getArgs t l = some x → AtL G tm l vs → ArgsAt G.env t x vs
  | .unit, [], _, [], _, _ => rfl
  | .unit, [], _, _ :: _, _, h => by simp [AtL] at h
  | .unit, _ :: _, _, _, h, _ => by simp [getArgs] at h
  | .pair a b, [], _, _, h, _ => by simp [getArgs] at h
  | .pair a b, v :: l, x, [], _, h => by simp [AtL] at h
  | .pair a b, v :: l, x, y :: vs, h, hl => by
    cases v <;> simp only [getArgs, reduceCtorEq] at h
    rename_i t z
    split at h
    · cases h
    · rename_i z' hz
      split at h
      · cases h
      · rename_i r hr
        obtain ⟨rfl, rfl⟩ := castD_some hz
        cases h
        simp only [AtL] at hl
        exact ⟨y, vs, rfl, by simpa [AtV] using hl.1, getArgs_at hr hl.2⟩
  | .int _, _, _, _, h, _ => by simp [getArgs] at h
  | .bool, _, _, _, h, _ => by simp [getArgs] at h
  | .str, _, _, _, h, _ => by simp [getArgs] at h
  | .sl _, _, _, _, h, _ => by simp [getArgs] at h
  | .arr _ _, _, _, _, h, _ => by simp [getArgs] at h
  | .opq, _, _, _, h, _ => by simp [getArgs] at h

theorem spread_at {G : GE} {tm : Array Value} : ∀ {t : Ty} {x : t.den} {vs : List Value}, ArgsAt G.env t x vs → AtL G tm (spread t x) vs
  | .unit, _, _, h => by simp only [ArgsAt] at h; subst h; simp [spread, AtL]
  | .pair a b, x, _, h => by
    obtain ⟨v, r, rfl, h1, h2⟩ := h
    simp only [spread, AtL]
    exact ⟨by simpa [AtV] using h1, spread_at h2⟩
  | .int _, _, _, h => h.elim
  | .bool, _, _, h => h.elim
  | .str, _, _, h => h.elim
  | .sl _, _, _, h => h.elim
  | .arr _ _, _, _, h => h.elim
  | .opq, _, _, h => h.elim

theorem ArgsAt.ext {E E' : Env} (h : Ext E E') : ∀ {t : Ty} {x : t.den} {vs : List Value}, ArgsAt E t x vs → ArgsAt E' t x vs
  | .unit, _, _, h' => h'
  | .pair _ _, _, _, ⟨v, r, e, h1, h2⟩ => ⟨v, r, e, h1.ext h, ArgsAt.ext h h2⟩
  | .int _, _, _, h => h
  | .bool, _, _, h => h
  | .str, _, _, h => h
  | .sl _, _, _, h => h
  | .arr _ _, _, _, h => h
  | .opq, _, _, h => h

theorem out_at {G : GE} {tm : Array Value} {E : Env} (h : Ext E G.env) {F : Fn} {r : F.rs.den} {v : Value} (hv : OutAt E F r v) : AtV G tm (F.out r) v := by
  unfold OutAt at hv
  unfold Fn.out
  cases hm : F.multi with
  | false => rw [hm] at hv; simp only at hv ⊢; simp only [AtV]; exact hv.ext h
  | true =>
    rw [hm] at hv; simp only at hv ⊢
    obtain ⟨vs, e, h2⟩ := hv
    simp only [AtV]
    exact ⟨vs, e, spread_at (h2.ext h)⟩

theorem un_map_at (h : Rel w0 I0 S a w β) {g : Option Gd} (hg : Yes g a.tmps) : ∀ (l : List Operand), AtL ⟨w, β, S.hp, w0.heap.size, I0⟩ a.tmps (l.map fun x => un g (Bx.ev S.fr x)) (l.map a.eval)
  | [] => by simp [AtL]
  | x :: l => by simp only [List.map_cons, AtL]; exact ⟨h.un hg x, un_map_at h hg l⟩

theorem okR_ne {v : V} {F : Fn} {x : F.ps.den} : okR v ≠ some (.call F x) := by simp [okR]
theorem ifR_ne {q : Prop} [Decidable q] {v : V} {F : Fn} {x : F.ps.den} : ifR q v ≠ some (.call F x) := by simp [ifR]
theorem intBin_ne {op : BinOp} {k : IntKind} {p q : Int} {F : Fn} {x : F.ps.den} : intBin op k p q ≠ some (.call F x) := by
  cases op <;> simp [intBin, okR, ifR]
theorem strBin_ne {op : BinOp} {p q : List Int} {F : Fn} {x : F.ps.den} : strBin op p q ≠ some (.call F x) := by
  cases op <;> simp [strBin, okR, ifR]
theorem binV_ne {op : BinOp} {xt : Nat} {u v : V} {F : Fn} {x : F.ps.den} : binV C op xt u v ≠ some (.call F x) := by
  unfold binV
  repeat' split
  all_goals first | exact okR_ne | exact ifR_ne | exact intBin_ne | exact strBin_ne | (intro h; cases h; done)

/-- a call of a Go function that has a contract -/
theorem valR_call (hC : CtxOk P C) (h : Rel w0 I0 S a w β) {g : Option Gd} (hg : Yes g a.tmps) (o : Oper) {F : Fn} {x : F.ps.den} (hv : valR C g S.fr S.hp o.op = some (.call F x)) {r : F.rs.den} (hr : F.run x = some r)
    {K : Act → World → Prop} {Q : Exit → Act → World → Prop} (hK : ∀ v w', Rel w0 I0 S a w' β → AtV ⟨w', β, S.hp, w0.heap.size, I0⟩ a.tmps (F.out r) v → K (a.put o.dst v) w') : o.wp P a w K Q := by
  obtain ⟨dst, op, type, pos, after, guard⟩ := o
  cases op <;> simp only [valR] at hv
  case call c =>
    split at hv
    · rename_i f hcal
      split at hv
      · rename_i f' heq
        split at hv
        · rename_i F' hF
          split at hv
          · rename_i y hy
            simp only [Option.some.injEq, Res.call.injEq] at hv
            obtain ⟨rfl, hv⟩ := hv
            have hv := eq_of_heq hv
            subst hv
            have hf := h.un hg f
            rw [heq] at hf
            simp only [AtV] at hf
            obtain ⟨hcon, fn, n1, n2, n3⟩ := hC.fn _ _ hF
            have n2' : ¬ fn.name = "runtime.NumGoroutine" := by simpa using n2
            have n3' : ¬ fn.body = none := by intro e; rw [e] at n3; simp at n3
            have hargs := getArgs_at hy (un_map_at h hg c.args.toList)
            have hlt : ∀ b m, GE.im ⟨w, β, S.hp, w0.heap.size, I0⟩ b m → b < w.heap.size := fun b m hi => hi.2.1
            have hcall := hcon w (GE.im ⟨w, β, S.hp, w0.heap.size, I0⟩) y r (c.args.map a.eval) hlt hr (by simpa [GE.env] using hargs)
            unfold Oper.wp
            have hrun : (execOp a.eval { dst, op := .call c, type, pos, after, guard }).run P w = .ok (.enter f' (c.args.map a.eval)) w := by
              simp [execOp, resolve, hcal, hf, Deferred.ofValue, invoke, callFunc, n1, n2', n3']
            rw [hrun]
            simp only [Oper.upon_enter]
            refine hcall.mono fun e w' ⟨v, he, hb, ho⟩ => ?_
            subst he
            obtain ⟨hG, hR⟩ := h.grow hb
            refine hK v w' hR (out_at ?_ ho)
            refine ⟨fun b m hi => ?_, fun _ _ _ _ _ => rfl⟩
            rcases hi with hi | ⟨h1, h2⟩
            · exact hG.env.im b m hi
            · refine ⟨.inr (Nat.le_trans h.below.size h1), h2, fun id blk hb' hβ' => ?_⟩
              have := h.hp id blk hb'
              cases blk with
              | var t c =>
                obtain ⟨b', arr, ty, x, g1, g2, _⟩ := this
                simp only at g1 hβ'; rw [g1] at hβ'; cases hβ'
                have := (Array.getElem?_eq_some_iff.1 g2).1
                simp only at this
                omega
              | row _ _ => exact this.elim
              | tok _ _ _ => exact this.elim
          · cases hv
        · cases hv
      · cases hv
    · split at hv
      · split at hv <;> simp [okR] at hv
      · split at hv <;> simp [okR] at hv
      · cases hv
    · split at hv
      · split at hv <;> simp [okR] at hv
      · cases hv
    · split at hv
      · split at hv <;> simp [okR] at hv
      · cases hv
    · cases hv
  case binOp op xt x y yt => exact absurd hv binV_ne
  case unOp op _ _ =>
    unfold unV at hv
    split at hv
    · exact absurd hv okR_ne
    · exact absurd hv okR_ne
    · exact absurd hv okR_ne
    · cases hv
  all_goals (exfalso; revert hv)
  all_goals (repeat' split)
  all_goals first | exact okR_ne | exact ifR_ne | (intro h; cases h; done)

end
end Go.Bx
