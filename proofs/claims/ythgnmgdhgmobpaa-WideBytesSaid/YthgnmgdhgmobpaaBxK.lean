/- A part of a framework that reads Go code as functions of plain data; or a law about such functions. -/
import Derived.Test.YthgnmgdhgmobpaaBxJ
namespace Go.Bx
open Go Go.RowKit

section
variable {P : Program} {C : Ctx} {w0 : World} {I0 : Nat → Nat → Prop} {S : St} {a : Act} {w : World} {β : Nat → Option Nat}

/-- what stands behind an operation: some state that the abstract one tells -/
def Behind (w0 : World) (I0 : Nat → Nat → Prop) (S : St) (a : Act) (w : World) : Prop := ∃ β, Rel w0 I0 S a w β

theorem tag_at {G : GE} {tm : Array Value} {g : Option Gd} {v : V} {x : Value} (hg : ∀ gd, g = some gd → tm[gd.d]? = some (.bool gd.want)) {tm' : Array Value} (h : AtV G tm' v x) {C : Ctx} {ty : Nat} : AtV G tm (tag g (saneT C ty v)) x := by
  cases g with
  | none => exact h.saneT
  | some gd =>
    simp only [tag, AtV]
    exact ⟨fun _ => h.saneT, fun e => absurd (hg gd rfl) e⟩

theorem tag_undef {G : GE} {tm : Array Value} {gd : Gd} {v : V} (hg : tm[gd.d]? ≠ some (.bool gd.want)) {C : Ctx} {ty : Nat} : AtV G tm (tag (some gd) (saneT C ty v)) undef := by
  simp only [tag, AtV]
  exact ⟨fun e => absurd e hg, fun _ => by first | rfl | trivial⟩

theorem put_other {a : Act} {dst : Option Nat} {d : Nat} {x : Value} (h : dst ≠ some d) : (a.put dst x).tmps[d]? = a.tmps[d]? := by
  cases dst with
  | none => rfl
  | some e => simp only [Act.put]; exact Array.getElem?_setIfInBounds_ne (fun e' => h (by rw [e']))

theorem getArgs_at {G : GE} {tm : Array Value} : ∀ {t : Ty} {l : List V} {x : t.den} {vs : List Value}, getArgs t l = some x → AtL G tm l vs → ArgsAt G.env t x vs
  | .unit, [], _, [], _, _ => rfl
  | .unit, [], _, _ :: _, _, h => by simp [AtL] at h
  | .unit, _ :: _, _, _, h, _ => by simp [getArgs] at h
  | .pair a b, [], _, _, h, _ => by simp [getArgs] at h
  | .pair a b, v :: l, x, [], _, h => by simp [AtL] at h
  | .pair a b, v :: l, x, y :: vs, h, hl => by
    cases v <;> simp only [getArgs, reduceCtorEq] at h
    rename_i t z
    split at h
    · cases h
    · rename_i z' hz
      split at h
      · cases h
      · rename_i r hr
        obtain ⟨rfl, rfl⟩ := castD_some hz
        cases h
        simp only [AtL] at hl
        exact ⟨y, vs, rfl, by simpa [AtV] using hl.1, getArgs_at hr hl.2⟩
  | .int _, _, _, _, h, _ => by simp [getArgs] at h
  | .bool, _, _, _, h, _ => by simp [getArgs] at h
  | .str, _, _, _, h, _ => by simp [getArgs] at h
  | .sl _, _, _, _, h, _ => by simp [getArgs] at h
  | .arr _ _, _, _, _, h, _ => by simp [getArgs] at h
  | .opq, _, _, _, h, _ => by simp [getArgs] at h

theorem spread_at {G : GE} {tm : Array Value} : ∀ {t : Ty} {x : t.den} {vs : List Value}, ArgsAt G.env t x vs → AtL G tm (spread t x) vs
  | .unit, _, _, h => by simp only [ArgsAt] at h; subst h; simp [spread, AtL]
  | .pair a b, x, _, h => by
    obtain ⟨v, r, rfl, h1, h2⟩ := h
    simp only [spread, AtL]
    exact ⟨by simpa [AtV] using h1, spread_at h2⟩
  | .int _, _, _, h => h.elim
  | .bool, _, _, h => h.elim
  | .str, _, _, h => h.elim
  | .sl _, _, _, h => h.elim
  | .arr _ _, _, _, h => h.elim
  | .opq, _, _, h => h.elim

theorem ArgsAt.ext {E E' : Env} (h : Ext E E') : ∀ {t : Ty} {x : t.den} {vs : List Value}, ArgsAt E t x vs → ArgsAt E' t x vs
  | .unit, _, _, h' => h'
  | .pair _ _, _, _, ⟨v, r, e, h1, h2⟩ => ⟨v, r, e, h1.ext h, ArgsAt.ext h h2⟩
  | .int _, _, _, h => h
  | .bool, _, _, h => h
  | .str, _, _, h => h
  | .sl _, _, _, h => h
  | .arr _ _, _, _, h => h
  | .opq, _, _, h => h

theorem out_at {G : GE} {tm : Array Value} {E : Env} (h : Ext E G.env) {F : Fn} {r : F.rs.den} {v : Value} (hv : OutAt E F r v) : AtV G tm (F.out r) v := by
  unfold OutAt at hv
  unfold Fn.out
  cases hm : F.multi with
  | false => rw [hm] at hv; simp only at hv ⊢; simp only [AtV]; exact hv.ext h
  | true =>
    rw [hm] at hv; simp only at hv ⊢
    obtain ⟨vs, e, h2⟩ := hv
    simp only [AtV]
    exact ⟨vs, e, spread_at (h2.ext h)⟩

theorem un_map_at (h : Rel w0 I0 S a w β) {g : Option Gd} (hg : Yes g a.tmps) : ∀ (l : List Operand), AtL ⟨w, β, S.hp, w0.heap.size, I0⟩ a.tmps (l.map fun x => dd (un g (Bx.ev S.fr x))) (l.map a.eval)
  | [] => by simp [AtL]
  | x :: l => by simp only [List.map_cons, AtL]; exact ⟨h.ud hg x, un_map_at h hg l⟩

theorem okR_ne {v : V} {F : Fn} {x : F.ps.den} : okR v ≠ some (.call F x) := by simp [okR]
theorem ifR_ne {q : Prop} [Decidable q] {v : V} {F : Fn} {x : F.ps.den} : ifR q v ≠ some (.call F x) := by simp [ifR]
theorem intBin_ne {op : BinOp} {k : IntKind} {p q : Int} {F : Fn} {x : F.ps.den} : intBin op k p q ≠ some (.call F x) := by
  cases op <;> simp [intBin, okR, ifR]
theorem strBin_ne {op : BinOp} {p q : List Int} {F : Fn} {x : F.ps.den} : strBin op p q ≠ some (.call F x) := by
  cases op <;> simp [strBin, okR, ifR]
theorem binV_ne {op : BinOp} {xt : Nat} {u v : V} {F : Fn} {x : F.ps.den} : binV C op xt u v ≠ some (.call F x) := by
  unfold binV
  repeat' split
  all_goals first | exact okR_ne | exact ifR_ne | exact intBin_ne | exact strBin_ne | (intro h; cases h; done)

/-- a call of a Go function that has a contract -/
theorem valR_call (hC : CtxOk P C) (h : Rel w0 I0 S a w β) {g : Option Gd} (hg : Yes g a.tmps) (o : Oper) {F : Fn} {x : F.ps.den} (hv : valR C g S.fr S.hp o.op = some (.call F x)) {r : F.rs.den} (hr : F.run x = some r)
    {K : Act → World → Prop} {Q : Exit → Act → World → Prop} (hK : ∀ v w', Rel w0 I0 S a w' β → AtV ⟨w', β, S.hp, w0.heap.size, I0⟩ a.tmps (F.out r) v → K (a.put o.dst v) w') : o.wp P a w K Q := by
  obtain ⟨dst, op, type, pos, after, guard⟩ := o
  cases op <;> simp only [valR] at hv
  case call c =>
    split at hv
    · rename_i f hcal
      split at hv
      · rename_i f' heq
        split at hv
        · rename_i F' hF
          split at hv
          · rename_i y hy
            simp only [Option.some.injEq, Res.call.injEq] at hv
            obtain ⟨rfl, hv⟩ := hv
            have hv := eq_of_heq hv
            subst hv
            have hf := h.ud hg f
            rw [heq] at hf
            simp only [AtV] at hf
            obtain ⟨hcon, fn, n1, n2, n3⟩ := hC.fn _ _ hF
            have n2' : ¬ fn.name = "runtime.NumGoroutine" := by simpa using n2
            have n3' : ¬ fn.body = none := by intro e; rw [e] at n3; simp at n3
            have hargs := getArgs_at hy (un_map_at h hg c.args.toList)
            have hlt : ∀ b m, GE.im ⟨w, β, S.hp, w0.heap.size, I0⟩ b m → b < w.heap.size := fun b m hi => hi.2.1
            have hcall := hcon w (GE.im ⟨w, β, S.hp, w0.heap.size, I0⟩) y r (c.args.map a.eval) hlt hr (by simpa [GE.env] using hargs)
            unfold Oper.wp
            have hrun : (execOp a.eval { dst, op := .call c, type, pos, after, guard }).run P w = .ok (.enter f' (c.args.map a.eval)) w := by
              simp [execOp, resolve, hcal, hf, Deferred.ofValue, invoke, callFunc, n1, n2', n3']
            rw [hrun]
            simp only [Oper.upon_enter]
            refine hcall.mono fun e w' ⟨v, he, hb, ho⟩ => ?_
            subst he
            obtain ⟨hG, hR⟩ := h.grow hb
            refine hK v w' hR (out_at ?_ ho)
            refine ⟨fun b m hi => ?_, fun _ _ _ _ _ => rfl⟩
            rcases hi with hi | ⟨h1, h2⟩
            · exact hG.env.im b m hi
            · refine ⟨.inr (Nat.le_trans h.below.size h1), h2, fun id blk hb' hβ' => ?_⟩
              have := h.hp id blk hb'
              cases blk with
              | var t c =>
                obtain ⟨b', arr, ty, x, g1, g2, _⟩ := this
                simp only at g1 hβ'; rw [g1] at hβ'; cases hβ'
                have := (Array.getElem?_eq_some_iff.1 g2).1
                simp only at this
                omega
              | row _ _ => exact this.elim
              | tok _ _ _ => exact this.elim
          · cases hv
        · cases hv
      · cases hv
    · split at hv
      · split at hv <;> simp [okR] at hv
      · split at hv <;> simp [okR] at hv
      · cases hv
    · split at hv
      · split at hv <;> simp [okR] at hv
      · cases hv
    · split at hv
      · split at hv <;> simp [okR] at hv
      · cases hv
    · cases hv
  case binOp op xt x y yt => exact absurd hv binV_ne
  case unOp op _ _ =>
    unfold unV at hv
    split at hv
    · exact absurd hv okR_ne
    · exact absurd hv okR_ne
    · exact absurd hv okR_ne
    · cases hv
  all_goals (exfalso; revert hv)
  all_goals (repeat' split)
  all_goals first | exact okR_ne | exact ifR_ne | (intro h; cases h; done)

theorem range_rep (l : List Value) (s : Nat) (hs : l.length = s) : ∀ n, (List.range (n * s)).map (fun i => l[i % s]!) = (List.replicate n l).flatten
  | 0 => by simp
  | n + 1 => by
    have e : (n + 1) * s = s + n * s := by rw [Nat.add_mul]; omega
    rw [e, List.range_add, List.map_append, List.map_map, List.replicate_succ, List.flatten_cons, ← range_rep l s hs n]
    congr 1
    · apply List.ext_getElem?
      intro i
      rw [List.getElem?_map]
      by_cases hi : i < s
      · rw [List.getElem?_range hi, Option.map_some, Nat.mod_eq_of_lt hi, List.getElem!_eq_getElem?_getD, List.getElem?_eq_getElem (by omega)]; rfl
      · rw [List.getElem?_eq_none (by simp; omega), List.getElem?_eq_none (by omega)]; rfl
    · apply List.map_congr_left
      intro i _
      simp [Function.comp]

theorem okR_nn {v u : V} : okR v ≠ some (.new u) := by simp [okR]
theorem ifR_nn {q : Prop} [Decidable q] {v u : V} : ifR q v ≠ some (.new u) := by simp [ifR]
theorem intBin_nn {op : BinOp} {k : IntKind} {p q : Int} {u : V} : intBin op k p q ≠ some (.new u) := by
  cases op <;> simp [intBin, okR, ifR]
theorem strBin_nn {op : BinOp} {p q : List Int} {u : V} : strBin op p q ≠ some (.new u) := by
  cases op <;> simp [strBin, okR, ifR]
theorem binV_nn {op : BinOp} {xt : Nat} {u v z : V} : binV C op xt u v ≠ some (.new z) := by
  unfold binV
  repeat' split
  all_goals first | exact okR_nn | exact ifR_nn | exact intBin_nn | exact strBin_nn | (intro h; cases h; done)

/-- a slice out of its parts: new memory that nothing changes -/
theorem valR_new (hC : CtxOk P C) (h : Rel w0 I0 S a w β) {g : Option Gd} (hg : Yes g a.tmps) (o : Oper) {v : V} (hv : valR C g S.fr S.hp o.op = some (.new v))
    {K : Act → World → Prop} {Q : Exit → Act → World → Prop} (hK : ∀ x w', Rel w0 I0 S a w' β → AtV ⟨w', β, S.hp, w0.heap.size, I0⟩ a.tmps v x → K (a.put o.dst x) w') : o.wp P a w K Q := by
  obtain ⟨dst, op, type, pos, after, guard⟩ := o
  cases op <;> simp only [valR] at hv
  case buildSlice t n parts =>
    split at hv
    · rename_i τ hτ
      split at hv
      · rename_i hc
        simp only [Bool.and_eq_true] at hc
        split at hv
        · rename_i y hy
          cases hv
          obtain ⟨e, hu, hte, _⟩ := hC.ty _ _ hτ
          have hsz : ¬ n * τ.size > 2 ^ 24 := by have := Nat.le_of_ble_eq_true hc.1.2; omega
          obtain ⟨z, hz1, hz2⟩ := run_zeroV (P := P) w hte.info
          have hzl : z.cells.size = τ.size := by rw [← Array.length_toList, hz2]; exact FlatD.length (E := ⟨w, fun _ _ => False⟩) _ _ _ (FlatD.zero τ hc.1.1)
          have hcells : ∀ zero : Array Value, (n * τ.size = 0 ∨ zero = z.cells) → ((Array.range (n * τ.size)).map (zero[· % zero.size]!)).toList = (List.replicate n (zc τ)).flatten := by
            intro zero h0
            rw [Array.toList_map, Array.toList_range]
            rcases h0 with h0 | rfl
            · rw [h0]
              have hlen : ((List.replicate n (zc τ)).flatten).length = 0 := by
                have := FlatD.length (E := ⟨w, fun _ _ => False⟩) (.arr n τ) _ _ (FlatD.zero (.arr n τ) (by simpa [Ty.plain] using hc.1.1))
                simpa [zc, Ty.size, h0] using this
              rw [List.eq_nil_of_length_eq_zero hlen]; rfl
            · have := range_rep (zc τ) τ.size (by rw [← hz2, Array.length_toList, hzl]) n
              rw [← this, hzl]
              apply List.map_congr_left
              intro i _
              rw [← hz2]
              simp only [getElem!_def, Array.getElem?_toList]
          obtain ⟨zero, hz4, hz5⟩ : ∃ zero : Array Value, (n * τ.size = 0 ∨ zero = z.cells) ∧ ∀ F : Array Value → Sem Value, (if n * τ.size = 0 then (do let zero ← pure #[]; F zero) else (do let l ← zeroValue e; let zero ← pure l.cells; F zero) : Sem Value).run P w = (F zero).run P w := by
            by_cases h0 : n * τ.size = 0
            · exact ⟨#[], .inl h0, fun F => by rw [if_pos h0]; simp⟩
            · exact ⟨z.cells, .inr rfl, fun F => by rw [if_neg h0]; simp only [Sem.run_bind, hz1, Result.andThen_ok, Sem.run_pure]⟩
          have hcs := hcells zero hz4
          obtain ⟨cs', f1, f2⟩ := build_fill (E := GE.env ⟨w, β, S.hp, w0.heap.size, I0⟩) (e := fun x => dd (un g (Bx.ev S.fr x))) (ρ := a.eval) rfl (place := fun i => some (i * τ.size, τ.size)) (τ := .arr n τ) (fun i o u ho => by
            simp only [stepOf, offT] at ho
            split at ho
            · have : offT τ [] = some (0, τ) := by cases τ <;> rfl
              first | rw [this] at ho | skip
              simp at ho
              obtain ⟨rfl, rfl⟩ := ho
              simp
            · cases ho) parts.toList _ y _ (fun x => h.ud hg x) (by rw [hcs]; exact FlatD.zero (.arr n τ) (by simpa [Ty.plain] using hc.1.1)) hy
          have hr1 : (Instr.buildSlice t n (parts.map fun p => (p.1, a.eval p.2))).run P w = .ok (.slice (some ⟨w.heap.size, 0, none⟩) n n) (w.alloc (.cells cs' e)) := by
            simp only [Instr.buildSlice, Sem.run_bind, run_underlying hu, Result.andThen_ok, run_sizeOf w hte.info, if_neg hsz, Array.toList_map]
            refine (hz5 (fun zero => match Instr.fill (fun i => some (i * τ.size, τ.size)) ((Array.range (n * τ.size)).map (zero[· % zero.size]!)) (parts.toList.map fun p => (p.1, a.eval p.2)) with
              | some cells => do
                let l ← (do let l ← newObj (Obj.cells cells e); pure (⟨l, 0, none⟩ : Addr))
                pure (Value.slice (some l) n n)
              | x => stuck "buildSlice: a part of the wrong size")).trans ?_
            simp only [f1, Sem.run_bind, run_newObj_alloc, Result.andThen_ok, Sem.run_pure]
          have hrun : (execOp a.eval { dst, op := .buildSlice t n parts, type, pos, after, guard }).run P w = .ok (.value (.slice (some ⟨w.heap.size, 0, none⟩) n n)) (w.alloc (.cells cs' e)) := by
            simp only [execOp, Sem.run_bind, hr1, Result.andThen_ok, Sem.run_pure]
          unfold Oper.wp
          rw [hrun, Oper.upon_value]
          have hbel : Below w.heap.size w (w.alloc (.cells cs' e)) := (Below.refl _ _).alloc (Nat.le_refl _) _
          obtain ⟨hG, hR⟩ := h.grow hbel
          refine hK _ _ hR ?_
          simp only [AtV]
          have f3 := f2.ext hG.env
          obtain ⟨hl, css, hcss, hall⟩ := f3
          refine ⟨.inr ⟨⟨w.heap.size, 0, none⟩, n, css, by rw [hl], .inl rfl, by omega, ?_, hall, ?_, fun j u hj => ?_⟩, _, _, rfl⟩
          · have := Nat.le_of_ble_eq_true hc.2; unfold maxLen; omega
          · refine .inr ⟨_, Nat.le_refl _, .inr h.below.size, by show w.heap.size < (w.heap.push _).size; simp, fun id blk hb hβ => ?_⟩
            have := h.hp id blk hb
            cases blk with
            | var t c =>
              obtain ⟨b', arr, ty, x, g1, g2, _⟩ := this
              simp only at g1 hβ; rw [g1] at hβ; cases hβ
              have := (Array.getElem?_eq_some_iff.1 g2).1
              simp only at this
              omega
            | row _ _ => exact this.elim
            | tok _ _ _ => exact this.elim
          · show (w.alloc (.cells cs' e)).cell? ⟨w.heap.size, 0 + j, none⟩ = some u
            rw [cell_arr (arr := cs') (ty := e) (fr := (0, 0)) (by show (w.heap.push _)[w.heap.size]? = _; simp), hcss, Nat.zero_add]
            exact hj
        · cases hv
      · cases hv
    · cases hv
  case binOp op xt x y yt => exact absurd hv binV_nn
  case unOp op _ _ =>
    unfold unV at hv
    split at hv
    · exact absurd hv okR_nn
    · exact absurd hv okR_nn
    · exact absurd hv okR_nn
    · cases hv
  all_goals (exfalso; revert hv)
  all_goals (repeat' split)
  all_goals first | exact okR_nn | exact ifR_nn | (intro h; cases h; done)

end
end Go.Bx
