/- A part of a framework that reads Go code as functions of plain data; or a law about such functions. -/
import Derived.Test.YthgnmgdhgmobpaaBxP
namespace Go.Bx
open Go Go.RowKit

/-- every region that draws its order comes to the same in every order -/
def drawsOk : Code → Bool
  | .region _ ops draw => !draw || drawOk ops
  | .seq a b => drawsOk a && drawsOk b
  | .cond _ a b => drawsOk a && drawsOk b
  | .block _ a => drawsOk a
  | .loop a => drawsOk a
  | _ => true

section
variable {P : Program} {C : Ctx} {w0 : World} {I0 : Nat → Nat → Prop}

structure QOk (w0 : World) (I0 : Nat → Nat → Prop) {α : Type} (Q : Ex → St → Option α) (r : α) (Q' : Exit → Act → World → Prop) : Prop where
  normal : ∀ S a w, Q .normal S = some r → Behind w0 I0 S a w → Q' .normal a w
  exit : ∀ id S a w, Q (.exit id) S = some r → Behind w0 I0 S a w → Q' (.exit id) a w
  ret : ∀ S a w, Q .ret S = some r → Behind w0 I0 S a w → Q' .ret a w

theorem den_sound (hC : CtxOk P C) (hm : P.follows .mixedOrders = true) (k : Nat) {α : Type} {r : α} : ∀ (c : Code), drawsOk c = true → ∀ (Q : Ex → St → Option α) (Q' : Exit → Act → World → Prop) (S : St) (a : Act) (w : World), QOk w0 I0 Q r Q' →
    den C k c Q S = some r → Behind w0 I0 S a w → c.wp P Q' a w
  | .skip, _, Q, Q', S, a, w, hQ, h, hB => wp_skip (hQ.normal S a w h hB)
  | .label _, _, Q, Q', S, a, w, hQ, h, hB => wp_label (hQ.normal S a w h hB)
  | .exit id, _, Q, Q', S, a, w, hQ, h, hB => wp_exit (hQ.exit id _ a w h (hB.clean _))
  | .ret, _, Q, Q', S, a, w, hQ, h, hB => wp_ret (hQ.ret _ a w h (hB.clean 2))
  | .region id ops draw, hd, Q, Q', S, a, w, hQ, h, hB => by
    refine region_sound hC hm (fun e => ?_) (fun S a w h hB => hQ.normal S a w h hB) h hB
    subst e; simpa [drawsOk] using hd
  | .seq x y, hd, Q, Q', S, a, w, hQ, h, hB => by
    simp only [drawsOk, Bool.and_eq_true] at hd
    refine wp_seq (den_sound hC hm k x hd.1 (seqQ (fun S => den C k y Q (clean C (headK y) S)) Q) _ S a w ⟨fun S a w h hB => ?_, fun id S a w h hB => hQ.exit id S a w h hB, fun S a w h hB => hQ.ret S a w h hB⟩ h hB)
    exact den_sound hC hm k y hd.2 Q Q' _ a w hQ h (hB.clean _)
  | .cond c x y, hd, Q, Q', S, a, w, hQ, h, hB => by
    simp only [drawsOk, Bool.and_eq_true] at hd
    simp only [den] at h
    split at h
    · rename_i t heq
      obtain ⟨β, hR⟩ := hB
      have he := hR.ev c
      rw [heq] at he
      have he := he.bool
      split at h
      · rename_i ht
        exact wp_cond_true (by rw [he]; rw [show t = true from ht]) (den_sound hC hm k x hd.1 Q Q' S a w hQ h ⟨β, hR⟩)
      · rename_i ht
        exact wp_cond_false (by rw [he]; rw [show t = false by simpa using ht]) (den_sound hC hm k y hd.2 Q Q' S a w hQ h ⟨β, hR⟩)
    · cases h
  | .block id c, hd, Q, Q', S, a, w, hQ, h, hB => by
    simp only [drawsOk] at hd
    refine wp_block (den_sound hC hm k c hd (blkQ C id Q) _ S a w ⟨fun S a w h hB => hQ.normal _ a w h (hB.clean _), fun i S a w h hB => ?_, fun S a w h hB => hQ.ret S a w h hB⟩ h hB)
    simp only [blkQ] at h
    show (if i = id then Q' .normal a w else Q' (.exit i) a w)
    split at h
    · rename_i hi
      rw [if_pos (Nat.eq_of_beq_eq_true hi)]
      exact hQ.normal _ a w h hB
    · rename_i hi
      rw [if_neg (fun e => hi (by rw [e]; exact Nat.beq_refl id))]
      exact hQ.exit i S a w h hB
  | .loop c, hd, Q, Q', S, a, w, hQ, h, hB => by
    simp only [drawsOk] at hd
    have key : ∀ k' S a w, iter (fun next => den C k c (seqQ (fun S => next (clean C (headK c) S)) Q)) k' S = some r → Behind w0 I0 S a w → Code.rounds P c Q' k' a w := by
      intro k'
      induction k' with
      | zero => intro S a w h _; cases h
      | succ k' ih =>
        intro S a w h hB
        simp only [iter] at h
        rw [rounds_succ]
        exact den_sound hC hm k c hd (seqQ (fun S => iter (fun next => den C k c (seqQ (fun S => next (clean C (headK c) S)) Q)) k' (clean C (headK c) S)) Q) _ S a w ⟨fun S a w h hB => ih _ a w h (hB.clean _), fun id S a w h hB => hQ.exit id S a w h hB, fun S a w h hB => hQ.ret S a w h hB⟩ h hB
    exact wp_loop_rounds k (key k _ a w h (hB.clean _))
  | .rangeFunc _ _ _ _, _, _, _, _, _, _, _, h, _ => by cases h
  | .scope _, _, _, _, _, _, _, _, h, _ => by cases h
  | .goto _, _, _, _, _, _, _, _, h, _ => by cases h
  | .refuse _, _, _, _, _, _, _, _, h, _ => by cases h

theorem spread_length {E : Env} : ∀ {t : Ty} {x : t.den} {vs : List Value}, ArgsAt E t x vs → (spread t x).length = vs.length
  | .unit, _, _, h => by simp only [ArgsAt] at h; subst h; rfl
  | .pair a b, x, _, ⟨v, r, e, _, h2⟩ => by subst e; simp [spread, spread_length h2]
  | .int _, _, _, h => h.elim
  | .bool, _, _, h => h.elim
  | .str, _, _, h => h.elim
  | .sl _, _, _, h => h.elim
  | .arr _ _, _, _, h => h.elim
  | .opq, _, _, h => h.elim

theorem AtL_nth {G : GE} {tm : Array Value} : ∀ {l : List V} {vs : List Value}, AtL G tm l vs → ∀ i x, vs[i]? = some x → AtV G tm (nth l i) x
  | [], [], _, i, x, h => by simp at h
  | v :: l, y :: vs, h, 0, x, hx => by simp only [AtL] at h; simp at hx; subst hx; exact h.1
  | v :: l, y :: vs, h, i + 1, x, hx => by simp only [AtL] at h; simpa [nth] using AtL_nth h.2 i x (by simpa using hx)
  | [], _ :: _, h, _, _, _ => by simp [AtL] at h
  | _ :: _, [], h, _, _, _ => by simp [AtL] at h

theorem nth_append : ∀ (l m : List V) (i : Nat), nth (l ++ m) i = if i < l.length then nth l i else nth m (i - l.length)
  | [], m, i => by simp
  | v :: l, m, 0 => by simp [nth]
  | v :: l, m, i + 1 => by simp only [List.cons_append, nth, nth_append l m i, List.length_cons, Nat.add_lt_add_iff_right, Nat.add_sub_add_right]

theorem nth_replicate : ∀ (n i : Nat), nth (List.replicate n .any) i = .any
  | 0, _ => rfl
  | _ + 1, 0 => rfl
  | n + 1, i + 1 => by simpa [List.replicate_succ, nth] using nth_replicate n i

theorem nthB_replicate : ∀ (n i : Nat), nthB (List.replicate n none) i = none
  | 0, _ => rfl
  | _ + 1, 0 => rfl
  | n + 1, i + 1 => by simpa [List.replicate_succ, nthB] using nthB_replicate n i

/-- where a call begins -/
theorem start_rel {F : Fn} {x : F.ps.den} {w : World} {I : Nat → Nat → Prop} (hI : ∀ b m, I b m → b < w.heap.size) {args : Array Value} (ha : ArgsAt ⟨w, I⟩ F.ps x args.toList) {n : Nat} (_hn : args.size ≤ n) :
    Behind w I (start F n x) { tmps := args ++ Array.replicate (n - args.size) undef, defers := [] } w := by
  have hlen : (spread F.ps x).length = args.size := by rw [spread_length ha, Array.length_toList]
  have hE : Ext (⟨w, I⟩ : Env) (GE.env ⟨w, fun _ => none, List.replicate n none, w.heap.size, I⟩) :=
    ⟨fun b m h => ⟨.inl h, hI b m h, fun id blk hb => by rw [nthB_replicate] at hb; cases hb⟩, fun _ _ _ _ _ => rfl⟩
  refine ⟨fun _ => none, .refl _ _, rfl, ?_, fun i v hv => ?_, fun id blk hb => ?_, fun id blk b hb => ?_, fun id id' blk blk' b hb => ?_⟩
  · simp [start, hlen]
  · simp only [start] at hv ⊢
    rw [nth_append]
    split
    · rename_i hi
      have hv' : args.toList[i]? = some v := by
        rw [Array.getElem?_append_left (by omega)] at hv
        simpa using hv
      exact AtL_nth (spread_at (G := ⟨w, fun _ => none, List.replicate n none, w.heap.size, I⟩) (ha.ext hE)) i v hv'
    · rw [nth_replicate]; exact .any
  all_goals (simp only [start] at hb; rw [nthB_replicate] at hb; cases hb)

def rvS (tmps : Array Value) : ResultVar → Sem Value
  | .tmp t => pure (tmps.getD t undef)
  | .cell a t => do loadVar t (← asAddr (tmps.getD a undef))

theorem results_rv (fn : Func) (tmps : Array Value) : results fn tmps = (do let vs ← fn.results.mapM (rvS tmps); pure (if h : vs.size = 1 then vs[0] else .tuple vs)) := by
  unfold results
  congr 1

theorem results_list {tmps : Array Value} {w : World} : ∀ {l : List ResultVar} {vs : List Value}, All2 (fun r v => (rvS tmps r).run P w = .ok v w) l vs →
    (l.mapM (rvS tmps)).run P w = .ok vs w
  | [], [], _ => by simp
  | r :: l, v :: vs, ⟨h1, h2⟩ => by
    have ih := results_list h2
    rw [List.mapM_cons]
    simp only [Sem.run_bind, Sem.run_pure] at h1 ih ⊢
    rw [h1]
    simp only [Result.andThen_ok, ih]

theorem resV_sound (hC : CtxOk P C) {S : St} {a : Act} {w : World} {β : Nat → Option Nat} (h : Rel w0 I0 S a w β) {r : ResultVar} {v : V} (hv : resV C S r = some v) :
    ∃ x, (rvS a.tmps r).run P w = .ok x w ∧ AtV ⟨w, β, S.hp, w0.heap.size, I0⟩ #[] v x := by
  cases r with
  | tmp t =>
    simp only [resV, Option.some.injEq] at hv
    subst hv
    exact ⟨a.eval (.tmp t), by simp only [rvS, Sem.run_pure, Act.eval], (h.ev (.tmp t)).sane⟩
  | cell ad t =>
    simp only [resV] at hv
    split at hv
    · rename_i τ id hτ heq
      split at hv
      · rename_i σ σ' c hb
        split at hv
        · rename_i he
          subst he
          cases hv
          have hx := h.ev (.tmp ad)
          simp only [Bx.ev] at hx
          rw [heq] at hx
          simp only [AtV] at hx
          obtain ⟨b, τ0, c0, o, u, g1, g2, g3, g4⟩ := hx
          obtain ⟨rfl, b', arr, ty, e1, e2, e3⟩ := h.blk hb
          rw [hb] at g1
          simp only [Option.some.injEq, Blk.var.injEq] at g1
          obtain ⟨rfl, rfl⟩ := g1
          rw [e1] at g2; cases g2
          have : o = 0 ∧ u = σ' := by cases σ' <;> simp [offT] at g3 <;> exact ⟨g3.1.symm, g3.2.symm⟩
          obtain ⟨rfl, rfl⟩ := this
          obtain ⟨x, r1, r2⟩ := run_loadVar w (hC.ty _ _ hτ) ⟨b, 0, none⟩ rfl e3 (fun j v hj => by rw [cell_arr e2]; simpa using hj)
          simp only [Act.eval] at g4
          refine ⟨x, ?_, by simpa only [AtV] using r2⟩
          simp only [rvS, g4, asAddr, Sem.run_bind, Sem.run_pure, Result.andThen_ok, r1]
        · cases hv
      · cases hv
    · cases hv

theorem resL_sound (hC : CtxOk P C) {S : St} {a : Act} {w : World} {β : Nat → Option Nat} (h : Rel w0 I0 S a w β) : ∀ {l : List ResultVar} {vs : List V}, resL C S l = some vs →
    ∃ xs, All2 (fun r v => (rvS a.tmps r).run P w = .ok v w) l xs ∧ AtL ⟨w, β, S.hp, w0.heap.size, I0⟩ #[] vs xs ∧ xs.length = vs.length
  | [], vs, hv => by simp only [resL, Option.some.injEq] at hv; subst hv; exact ⟨[], trivial, by simp [AtL], rfl⟩
  | r :: l, vs, hv => by
    simp only [resL] at hv
    split at hv
    · rename_i v vs' h1 h2
      cases hv
      obtain ⟨x, r1, r2⟩ := resV_sound hC h h1
      obtain ⟨xs, s1, s2, s3⟩ := resL_sound hC h h2
      exact ⟨x :: xs, ⟨r1, s1⟩, by simp only [AtL]; exact ⟨r2, s2⟩, by simp [s3]⟩
    · cases hv

theorem results_run {fn : Func} {tmps : Array Value} {w : World} {xs : List Value} (h : All2 (fun r v => (rvS tmps r).run P w = .ok v w) fn.results.toList xs) :
    (results fn tmps).run P w = .ok (if h : xs.toArray.size = 1 then xs.toArray[0] else .tuple xs.toArray) w := by
  have h1 := results_list (P := P) h
  have e : fn.results.mapM (rvS tmps) = (fn.results.toList.mapM (rvS tmps) >>= fun l => pure l.toArray) := by
    rw [Array.mapM_eq_mapM_toList]; rfl
  rw [results_rv, e]
  simp only [Sem.run_bind, h1, Result.andThen_ok, Sem.run_pure]

/-- THE CONTRACT OF A GO FUNCTION out of its abstract run -/
theorem con_of_den (hC : CtxOk P C) (hm : P.follows .mixedOrders = true) {f : FuncId} {fn : Func} {c : Code} (hf : P.funcs[f]? = some fn) (hb : fn.body = some c) (hd : drawsOk c = true) (F : Fn) (k : Nat) (hn : ∀ (x : F.ps.den), (spread F.ps x).length ≤ fn.ntmps)
    (hF : ∀ x r, F.run x = some r → den C k c (fin C fn.results.toList F.rs F.multi) (start F fn.ntmps x) = some r) : Con P f F := by
  intro w I x r args hI hr ha
  have hlen : (spread F.ps x).length = args.size := by rw [spread_length ha, Array.length_toList]
  refine calls_of_wp hf hb ?_
  have hB := start_rel hI ha (n := fn.ntmps) (by rw [← hlen]; exact hn x)
  have done : ∀ (e : Ex) (S : St) (a : Act) (w' : World), (e = .normal ∨ e = .ret) → fin C fn.results.toList F.rs F.multi e S = some r → Behind w I S a w' →
      a.defers = [] ∧ ∃ v, (results fn a.tmps).run P w' = .ok v w' ∧ ∃ v', Ending.returned v = .returned v' ∧ Below w.heap.size w w' ∧ OutAt ⟨w', fun b m => I b m ∨ (w.heap.size ≤ b ∧ b < w'.heap.size)⟩ F r v' := by
    intro e S a w' he hfin hB
    obtain ⟨β, hR⟩ := hB
    refine ⟨hR.defers, ?_⟩
    have hfin' : (match F.multi, resL C S fn.results.toList with
        | false, some [.data t' x] => castD t' F.rs x
        | true, some l => if Nat.beq l.length 1 = true then none else getArgs F.rs l
        | _, _ => none) = some r := by
      rcases he with rfl | rfl <;> exact hfin
    have hE : Ext (GE.env ⟨w', β, S.hp, w.heap.size, I⟩) ⟨w', fun b m => I b m ∨ (w.heap.size ≤ b ∧ b < w'.heap.size)⟩ :=
      ⟨fun b m ⟨h1, h2, _⟩ => h1.imp id fun h => ⟨h, h2⟩, fun _ _ _ _ _ => rfl⟩
    split at hfin'
    · rename_i t' x' hmul hl
      obtain ⟨rfl, rfl⟩ := castD_some hfin'
      obtain ⟨xs, s1, s2, s3⟩ := resL_sound hC hR hl
      obtain ⟨v, rfl⟩ := List.length_eq_one_iff.1 (by simpa using s3)
      refine ⟨v, by rw [results_run s1]; simp, v, rfl, hR.below, ?_⟩
      unfold OutAt; rw [hmul]
      simp only [AtL, and_true, AtV] at s2
      exact s2.ext hE
    · rename_i l hmul hl
      split at hfin'
      · cases hfin'
      · rename_i hne
        obtain ⟨xs, s1, s2, s3⟩ := resL_sound hC hR hl
        have hne' : xs.toArray.size ≠ 1 := by
          intro e
          apply hne
          rw [← s3, show xs.length = 1 by simpa using e]
          rfl
        refine ⟨.tuple xs.toArray, by rw [results_run s1, dif_neg hne'], .tuple xs.toArray, rfl, hR.below, ?_⟩
        unfold OutAt; rw [hmul]
        exact ⟨xs.toArray, rfl, (getArgs_at hfin' s2).ext hE⟩
    · cases hfin'
  refine den_sound hC hm k c hd _ _ (start F fn.ntmps x) _ w ⟨fun S a w' h hB => ?_, fun id S a w' h hB => ?_, fun S a w' h hB => ?_⟩ (hF x r hr) hB
  · exact done .normal S a w' (.inl rfl) h hB
  · cases h
  · exact done .ret S a w' (.inr rfl) h hB

end
end Go.Bx
