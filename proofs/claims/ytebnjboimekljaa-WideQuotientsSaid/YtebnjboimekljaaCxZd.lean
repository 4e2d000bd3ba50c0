/- A part of a framework that reads Go code as functions of plain data; or a law about such functions. -/
import Derived.Test.YtebnjboimekljaaCxZc
import Derived.Scope
namespace Go.Bx
set_option linter.unusedVariables false
set_option linter.unusedSimpArgs false
open Go Go.RowKit

/-- every region that draws its order comes to the same in every order -/
def drawsOk : Code → Bool
  | .region _ ops draw => !draw || drawOk ops
  | .seq a b => drawsOk a && drawsOk b
  | .cond _ a b => drawsOk a && drawsOk b
  | .block _ a => drawsOk a
  | .loop a => drawsOk a
  | .scope a => drawsOk a
  | _ => true

section
variable {P : Program} {C : Ctx} {G0 : GE}

structure QOk (G0 : GE) {α : Type} (Q : Ex → St → Option α) (r : α) (Q' : Exit → Act → World → Prop) : Prop where
  normal : ∀ S a w, Q .normal S = some r → Behind G0 S a w → Q' .normal a w
  exit : ∀ id S a w, Q (.exit id) S = some r → Behind G0 S a w → Q' (.exit id) a w
  ret : ∀ S a w, Q .ret S = some r → Behind G0 S a w → Q' .ret a w

theorem den_sound (hC : CtxOk P C) (hm : P.follows .mixedOrders = true) (h0 : ∀ i, nthB G0.hp i = none) (k : Nat) {α : Type} {r : α} : ∀ (c : Code), drawsOk c = true → ∀ (Q : Ex → St → Option α) (Q' : Exit → Act → World → Prop) (S : St) (a : Act) (w : World), QOk G0 Q r Q' →
    den C k c Q S = some r → Behind G0 S a w → c.wp P Q' a w
  | .skip, _, Q, Q', S, a, w, hQ, h, hB => wp_skip (hQ.normal S a w h hB)
  | .label _, _, Q, Q', S, a, w, hQ, h, hB => wp_label (hQ.normal S a w h hB)
  | .exit id, _, Q, Q', S, a, w, hQ, h, hB => by
    obtain ⟨S', h', hB'⟩ := clean_sound h0 hB h
    exact wp_exit (hQ.exit id _ a w h' hB')
  | .ret, _, Q, Q', S, a, w, hQ, h, hB => by
    obtain ⟨S', h', hB'⟩ := clean_sound h0 hB h
    exact wp_ret (hQ.ret _ a w h' hB')
  | .region id ops draw, hd, Q, Q', S, a, w, hQ, h, hB => by
    refine region_sound hC hm (K := Q .normal) (r := r) (fun e => ?_) (fun S a w h hB => hQ.normal S a w h hB) ?_ hB
    · subst e; simpa [drawsOk] using hd
    · cases draw <;> exact h
  | .seq x y, hd, Q, Q', S, a, w, hQ, h, hB => by
    simp only [drawsOk, Bool.and_eq_true] at hd
    refine wp_seq (den_sound hC hm h0 k x hd.1 (seqQ (fun S => clean C (headK y) S (den C k y Q)) Q) _ S a w ⟨fun S a w h hB => ?_, fun id S a w h hB => hQ.exit id S a w h hB, fun S a w h hB => hQ.ret S a w h hB⟩ h hB)
    obtain ⟨S', h', hB'⟩ := clean_sound h0 hB h
    exact den_sound hC hm h0 k y hd.2 Q Q' _ a w hQ h' hB'
  | .cond c x y, hd, Q, Q', S, a, w, hQ, h, hB => by
    simp only [drawsOk, Bool.and_eq_true] at hd
    simp only [den] at h
    split at h
    · rename_i t heq
      obtain ⟨β, σ, hR⟩ := hB
      have he := hR.ev c
      rw [heq] at he
      have he := he.bool
      split at h
      · rename_i ht
        exact wp_cond_true (by rw [he]; rw [show t = true from ht]) (den_sound hC hm h0 k x hd.1 Q Q' S a w hQ h ⟨β, σ, hR⟩)
      · rename_i ht
        exact wp_cond_false (by rw [he]; rw [show t = false by simpa using ht]) (den_sound hC hm h0 k y hd.2 Q Q' S a w hQ h ⟨β, σ, hR⟩)
    · cases h
  | .block id c, hd, Q, Q', S, a, w, hQ, h, hB => by
    simp only [drawsOk] at hd
    refine wp_block (den_sound hC hm h0 k c hd (blkQ C id Q) _ S a w ⟨fun S a w h hB => ?_, fun i S a w h hB => ?_, fun S a w h hB => hQ.ret S a w h hB⟩ h hB)
    · obtain ⟨S', h', hB'⟩ := clean_sound h0 hB h
      exact hQ.normal _ a w h' hB'
    simp only [blkQ] at h
    show (if i = id then Q' .normal a w else Q' (.exit i) a w)
    split at h
    · rename_i hi
      rw [if_pos (Nat.eq_of_beq_eq_true hi)]
      exact hQ.normal _ a w h hB
    · rename_i hi
      rw [if_neg (fun e => hi (by rw [e]; exact Nat.beq_refl id))]
      exact hQ.exit i S a w h hB
  | .loop c, hd, Q, Q', S, a, w, hQ, h, hB => by
    simp only [drawsOk] at hd
    have key : ∀ k' S a w, iter (fun next => den C k c (seqQ (fun S => clean C (headK c) S next) Q)) k' S = some r → Behind G0 S a w → Code.rounds P c Q' k' a w := by
      intro k'
      induction k' with
      | zero => intro S a w h _; cases h
      | succ k' ih =>
        intro S a w h hB
        simp only [iter] at h
        rw [rounds_succ]
        refine den_sound hC hm h0 k c hd (seqQ (fun S => clean C (headK c) S (iter (fun next => den C k c (seqQ (fun S => clean C (headK c) S next) Q)) k')) Q) _ S a w ⟨fun S a w h hB => ?_, fun id S a w h hB => hQ.exit id S a w h hB, fun S a w h hB => hQ.ret S a w h hB⟩ h hB
        obtain ⟨S', h', hB'⟩ := clean_sound h0 hB h
        exact ih _ a w h' hB'
    obtain ⟨S', h', hB'⟩ := clean_sound h0 hB h
    exact wp_loop_rounds k (key k _ a w h' hB')
  | .scope c, hd, Q, Q', S, a, w, hQ, h, hB => by
    simp only [drawsOk] at hd
    exact wp_scope_straight (den_sound hC hm h0 k c hd Q (Exit.noGoto Q') S a w ⟨fun S a w h hB => hQ.normal S a w h hB, fun id S a w h hB => hQ.exit id S a w h hB, fun S a w h hB => hQ.ret S a w h hB⟩ h hB)
  | .rangeFunc _ _ _ _, _, _, _, _, _, _, _, h, _ => by cases h
  | .goto _, _, _, _, _, _, _, _, h, _ => by cases h
  | .refuse _, _, _, _, _, _, _, _, h, _ => by cases h

theorem spread_length {E : Env} : ∀ {t : Ty} {x : t.den} {vs : List Value}, ArgsAt E t x vs → (spread t x).length = vs.length
  | .unit, _, _, h => by simp only [ArgsAt] at h; subst h; rfl
  | .pair a b, x, _, ⟨v, r, e, _, h2⟩ => by subst e; simp [spread, spread_length h2]
  | .int _, _, _, h => h.elim
  | .bool, _, _, h => h.elim
  | .str, _, _, h => h.elim
  | .sl _, _, _, h => h.elim
  | .arr _ _, _, _, h => h.elim
  | .opq, _, _, h => h.elim

theorem AtL_nth {G : GE} {tm : Array Value} : ∀ {l : List V} {vs : List Value}, AtL G tm l vs → ∀ i x, vs[i]? = some x → AtV G tm (nth l i) x
  | [], [], _, i, x, h => by simp at h
  | v :: l, y :: vs, h, 0, x, hx => by simp only [AtL] at h; simp at hx; subst hx; exact h.1
  | v :: l, y :: vs, h, i + 1, x, hx => by simp only [AtL] at h; simpa [nth] using AtL_nth h.2 i x (by simpa using hx)
  | [], _ :: _, h, _, _, _ => by simp [AtL] at h
  | _ :: _, [], h, _, _, _ => by simp [AtL] at h

theorem nth_append : ∀ (l m : List V) (i : Nat), nth (l ++ m) i = if i < l.length then nth l i else nth m (i - l.length)
  | [], m, i => by simp
  | v :: l, m, 0 => by simp [nth]
  | v :: l, m, i + 1 => by simp only [List.cons_append, nth, nth_append l m i, List.length_cons, Nat.add_lt_add_iff_right, Nat.add_sub_add_right]

theorem nth_replicate : ∀ (n i : Nat), nth (List.replicate n .any) i = .any
  | 0, _ => rfl
  | _ + 1, 0 => rfl
  | n + 1, i + 1 => by simpa [List.replicate_succ, nth] using nth_replicate n i

theorem bare_nil {id : Nat} {blk : Blk} (h : nthB ([] : Heap) id = some blk) : False := by rw [nthB_nil] at h; cases h

/-- nothing is lent -/
abbrev bare (w : World) (I : Nat → Nat → Prop) : GE := mkG w (fun _ => none) (fun _ => .nilFunc) [] I

theorem bare_env {w : World} {I : Nat → Nat → Prop} (hI : ∀ b m, I b m → b < w.heap.size) : Ext (⟨w, I⟩ : Env) (bare w I).env :=
  ⟨fun b m h => ⟨.inl h, hI b m h, fun id blk hb => (bare_nil hb).elim⟩, fun _ _ _ _ _ => rfl⟩

theorem bare_ok (w : World) (I : Nat → Nat → Prop) : HRel (bare w I) :=
  ⟨fun id blk hb => (bare_nil hb).elim, fun id id' blk blk' b hb => (bare_nil hb).elim, fun b ⟨id, blk, hb, _⟩ => (bare_nil hb).elim, Nat.le_refl _⟩

/-- where a call begins -/
theorem start_rel {F : Fn} {x : F.ps.den} {w : World} {I : Nat → Nat → Prop} (hI : ∀ b m, I b m → b < w.heap.size) {args : Array Value} (ha : ArgsAt ⟨w, I⟩ F.ps x args.toList) {n : Nat} (_hn : args.size ≤ n) :
    Behind (bare w I) (start F n x) { tmps := args ++ Array.replicate (n - args.size) undef, defers := [] } w := by
  have hlen : (spread F.ps x).length = args.size := by rw [spread_length ha, Array.length_toList]
  refine ⟨fun _ => none, fun _ => .nilFunc, Tr.refl _, bare_ok w I, rfl, ?_, fun i v hv => ?_⟩
  · simp [start, startS, hlen]
  · simp only [start, startS] at hv ⊢
    rw [nth_append]
    split
    · rename_i hi
      have hv' : args.toList[i]? = some v := by
        rw [Array.getElem?_append_left (by omega)] at hv
        simpa using hv
      exact AtL_nth (spread_at (G := bare w I) (ha.ext (bare_env hI))) i v hv'
    · rw [nth_replicate]; exact .any

def rvS (tmps : Array Value) : ResultVar → Sem Value
  | .tmp t => pure (tmps.getD t undef)
  | .cell a t => do loadVar t (← asAddr (tmps.getD a undef))

theorem results_rv (fn : Func) (tmps : Array Value) : results fn tmps = (do let vs ← fn.results.mapM (rvS tmps); pure (if h : vs.size = 1 then vs[0] else .tuple vs)) := by
  unfold results
  congr 1

theorem results_list {tmps : Array Value} {w : World} : ∀ {l : List ResultVar} {vs : List Value}, All2 (fun r v => (rvS tmps r).run P w = .ok v w) l vs →
    (l.mapM (rvS tmps)).run P w = .ok vs w
  | [], [], _ => by simp
  | r :: l, v :: vs, ⟨h1, h2⟩ => by
    have ih := results_list h2
    rw [List.mapM_cons]
    simp only [Sem.run_bind, Sem.run_pure] at h1 ih ⊢
    rw [h1]
    simp only [Result.andThen_ok, ih]

section
variable {S : St} {a : Act} {w : World} {β : Nat → Option Nat} {σ : Nat → Value}

theorem resV_sound (hC : CtxOk P C) (h : Rel G0 S a w β σ) {r : ResultVar} {v : V} (hv : resV C S r = some v) :
    ∃ x, (rvS a.tmps r).run P w = .ok x w ∧ AtV (G0.at w β σ S.hp) #[] v x := by
  cases r with
  | tmp t =>
    simp only [resV, Option.some.injEq] at hv
    subst hv
    exact ⟨a.eval (.tmp t), by simp only [rvS, Sem.run_pure, Act.eval], (h.ev (.tmp t)).sane⟩
  | cell ad t =>
    simp only [resV] at hv
    split at hv
    · rename_i τ id ver hτ heq
      split at hv
      · rename_i σ' c z hb
        split at hv
        · rename_i he
          subst he
          cases hv
          have hx := h.ev (.tmp ad)
          simp only [Bx.ev] at hx
          rw [heq] at hx
          simp only [AtV] at hx
          obtain ⟨b, o, g1, g2, g3⟩ := tyAt_off (G := G0.at w β σ S.hp) hx hb (τ := σ') (by cases σ' <;> rfl)
          obtain ⟨rfl, _⟩ := offT_nil g2
          obtain ⟨b2, arr, ty, e1, e2, e3⟩ := h.ok.cell (G := G0.at w β σ S.hp) hb
          rw [g1] at e1; cases e1
          obtain ⟨x, r1, r2⟩ := run_loadV (G := G0.at w β σ S.hp) w (hC.ty _ _ hτ) ⟨b, 0, none⟩ rfl e3 (fun j v hj => by show w.cell? ⟨b, 0 + j, none⟩ = some v; rw [Nat.zero_add]; exact (cell_arr e2 j).trans hj)
          simp only [Act.eval] at g3
          refine ⟨x, ?_, r2 #[]⟩
          simp only [rvS, g3, asAddr, Sem.run_bind, Sem.run_pure, Result.andThen_ok, r1]
        · cases hv
      · cases hv
    · cases hv

theorem resL_sound (hC : CtxOk P C) (h : Rel G0 S a w β σ) : ∀ {l : List ResultVar} {vs : List V}, resL C S l = some vs →
    ∃ xs, All2 (fun r v => (rvS a.tmps r).run P w = .ok v w) l xs ∧ AtL (G0.at w β σ S.hp) #[] vs xs ∧ xs.length = vs.length
  | [], vs, hv => by simp only [resL, Option.some.injEq] at hv; subst hv; exact ⟨[], trivial, by simp [AtL], rfl⟩
  | r :: l, vs, hv => by
    simp only [resL] at hv
    split at hv
    · rename_i v vs' h1 h2
      cases hv
      obtain ⟨x, r1, r2⟩ := resV_sound hC h h1
      obtain ⟨xs, s1, s2, s3⟩ := resL_sound hC h h2
      exact ⟨x :: xs, ⟨r1, s1⟩, by simp only [AtL]; exact ⟨r2, s2⟩, by simp [s3]⟩
    · cases hv

end

theorem results_run {fn : Func} {tmps : Array Value} {w : World} {xs : List Value} (h : All2 (fun r v => (rvS tmps r).run P w = .ok v w) fn.results.toList xs) :
    (results fn tmps).run P w = .ok (if h : xs.toArray.size = 1 then xs.toArray[0] else .tuple xs.toArray) w := by
  have h1 := results_list (P := P) h
  have e : fn.results.mapM (rvS tmps) = (fn.results.toList.mapM (rvS tmps) >>= fun l => pure l.toArray) := by
    rw [Array.mapM_eq_mapM_toList]; rfl
  rw [results_rv, e]
  simp only [Sem.run_bind, h1, Result.andThen_ok, Sem.run_pure]

/-- THE CONTRACT OF A GO FUNCTION out of its abstract run -/
theorem con_of_den (hC : CtxOk P C) (hm : P.follows .mixedOrders = true) {f : FuncId} {fn : Func} {c : Code} (hf : P.funcs[f]? = some fn) (hb : fn.body = some c) (hd : drawsOk c = true) (F : Fn) (k : Nat) (hn : ∀ (x : F.ps.den), (spread F.ps x).length ≤ fn.ntmps)
    (hF : ∀ x r, F.run x = some r → den C k c (fin C fn.results.toList F.rs F.multi) (start F fn.ntmps x) = some r) : Con P f F := by
  intro w I x r args hI hr ha
  have hlen : (spread F.ps x).length = args.size := by rw [spread_length ha, Array.length_toList]
  refine calls_of_wp hf hb ?_
  have hB := start_rel hI ha (n := fn.ntmps) (by rw [← hlen]; exact hn x)
  have done : ∀ (e : Ex) (S : St) (a : Act) (w' : World), (e = .normal ∨ e = .ret) → fin C fn.results.toList F.rs F.multi e S = some r → Behind (bare w I) S a w' →
      a.defers = [] ∧ ∃ v, (results fn a.tmps).run P w' = .ok v w' ∧ ∃ v', Ending.returned v = .returned v' ∧ Below w.heap.size w w' ∧ OutAt ⟨w', fun b m => I b m ∨ (w.heap.size ≤ b ∧ b < w'.heap.size)⟩ F r v' := by
    intro e S a w' he hfin hB
    obtain ⟨β, σ, hR⟩ := hB
    refine ⟨hR.defers, ?_⟩
    have hfin' : (match F.multi, resL C S fn.results.toList with
        | false, some [v] => match rd S.hp v with
          | .data t' x => castD t' F.rs x
          | _ => none
        | true, some l => if Nat.beq l.length 1 = true then none else getArgs F.rs (rdL S.hp l)
        | _, _ => none) = some r := by
      rcases he with rfl | rfl <;> exact hfin
    have hbare : ∀ b, ¬ (bare w I).named b := fun b ⟨id, blk, hb, _⟩ => bare_nil hb
    have hBe : Below w.heap.size w w' := ⟨hR.tr.os, hR.tr.tape, hR.tr.output, hR.tr.size, fun b hb => hR.tr.frame b hb (hbare b)⟩
    have hE : ∀ hp2, Ext (GE.env ((bare w I).at w' β σ hp2)) ⟨w', fun b m => I b m ∨ (w.heap.size ≤ b ∧ b < w'.heap.size)⟩ := fun hp2 =>
      ⟨fun b m ⟨h1, h2, _⟩ => by
        rcases h1 with h | h | h
        · exact .inl h
        · exact .inr ⟨h, h2⟩
        · exact absurd h (hbare b), fun _ _ _ _ _ => rfl⟩
    split at hfin'
    · rename_i v' hmul hl
      split at hfin'
      · rename_i t' x' hrd
        obtain ⟨rfl, rfl⟩ := castD_some hfin'
        obtain ⟨xs, s1, s2, s3⟩ := resL_sound hC hR hl
        obtain ⟨v, rfl⟩ := List.length_eq_one_iff.1 (by simpa using s3)
        refine ⟨v, by rw [results_run s1]; simp, v, rfl, hBe, ?_⟩
        unfold OutAt; rw [hmul]
        simp only [AtL, and_true] at s2
        exact (rd_frz v' _ hR.ok s2 hrd).ext (hE _)
      · cases hfin'
    · rename_i l hmul hl
      split at hfin'
      · cases hfin'
      · rename_i hne
        obtain ⟨xs, s1, s2, s3⟩ := resL_sound hC hR hl
        have hne' : xs.toArray.size ≠ 1 := by
          intro e
          apply hne
          rw [← s3, show xs.length = 1 by simpa using e]
          rfl
        refine ⟨.tuple xs.toArray, by rw [results_run s1, dif_neg hne'], .tuple xs.toArray, rfl, hBe, ?_⟩
        unfold OutAt; rw [hmul]
        exact ⟨xs.toArray, rfl, (argsL_frz _ hR.ok hfin' s2).ext (hE _)⟩
    · cases hfin'
  refine den_sound hC hm (fun i => nthB_nil i) k c hd _ _ (start F fn.ntmps x) _ w ⟨fun S a w' h hB => ?_, fun id S a w' h hB => ?_, fun S a w' h hB => ?_⟩ (hF x r hr) hB
  · exact done .normal S a w' (.inl rfl) h hB
  · cases h
  · exact done .ret S a w' (.inr rfl) h hB

end
end Go.Bx
