/- A part of a framework that reads Go code as functions of plain data; or a law about such functions. -/
import Derived.Test.YtokjlmpahlneaaaLawPostCheck
import Derived.Test.YtokjlmpahlneaaaFnPostBegins2
import Derived.Test.YtokjlmpahlneaaaFnPostBegins1
namespace Go.Bx
open Go
set_option linter.unusedSimpArgs false
set_option linter.unusedVariables false

abbrev C3 : List (List Int) := [[0, 0, 0, 0], [0, 0, 0, 0], [0, 0, 0, 0]]
abbrev P0 : PostD := (0, 0, [], [], C3, 0, [], ())

/-! the same -/

theorem sameCoin_loop {α : Type} (Rt : Bool → Option α) (Xt : Option α) (K : Nat) (c : CoinD) (hl : c.2.1.length ≤ 4000000000000000) : ∀ (R P : List Hold) (n : Nat), R.length < n → c.2.1 = P ++ R →
    basculelaw_sameCoin.l0 K Rt Xt n (c.2.1.length : Int) (P.length : Int) c c = Xt
  | R, P, 0, h, _ => by omega
  | [], P, n + 1, h, hc => by
    simp only [basculelaw_sameCoin.l0, basculelaw_sameCoin.l0s]
    have : c.2.1.length = P.length := by rw [hc]; simp
    rw [if_neg (by rw [decide_eq_true_eq]; omega)]
  | y :: R, P, n + 1, h, hc => by
    have hlen : c.2.1.length = P.length + (R.length + 1) := by rw [hc]; simp
    simp only [basculelaw_sameCoin.l0, basculelaw_sameCoin.l0s]
    rw [if_pos (by rw [decide_eq_true_eq]; omega), if_pos (by omega), if_pos (by omega), i64_succ (by omega), beqD_refl _ _ rfl, if_neg (by simp)]
    have ih := sameCoin_loop Rt Xt K c hl R (P ++ [y]) n (by simpa using h) (by simp [hc])
    rw [List.length_append] at ih
    exact ih

theorem sameCoin_refl (c : CoinD) (hl : c.2.1.length ≤ 4000000000000000) : basculelaw_sameCoin.run c c = some true := by
  unfold basculelaw_sameCoin.run basculelaw_sameCoin.top
  rw [beqD_refl _ _ rfl, if_neg (by simp [cond_or])]
  exact sameCoin_loop (fun x4 => some x4) (basculelaw_sameCoin.j0 fun x4 => some x4) fuel c hl c.2.1 [] fuel (by rw [fuel_big]; omega) rfl

theorem samePost_loop {α : Type} (Rt : Bool → Option α) (Xt : PostD → PostD → Option α) (K : Nat) (p : PostD) (hl : p.2.2.2.1.length ≤ 4000000000000) (hc : ∀ a ∈ p.2.2.2.1, a.2.2.2.1.2.1.length ≤ 4000000000000000) : ∀ (R P : List AssetD) (n : Nat), R.length < n → p.2.2.2.1 = P ++ R →
    basculelaw_samePost.l0 K Rt Xt n (p.2.2.2.1.length : Int) (P.length : Int) p p = Xt p p
  | R, P, 0, h, _ => by omega
  | [], P, n + 1, h, hq => by
    simp only [basculelaw_samePost.l0, basculelaw_samePost.l0s]
    have : p.2.2.2.1.length = P.length := by rw [hq]; simp
    rw [if_neg (by rw [decide_eq_true_eq]; omega)]
  | y :: R, P, n + 1, h, hq => by
    have hlen : p.2.2.2.1.length = P.length + (R.length + 1) := by rw [hq]; simp
    have hg : p.2.2.2.1.getD P.length A0 = y := by rw [hq]; exact getD_at _ _ _ _
    simp only [basculelaw_samePost.l0, basculelaw_samePost.l0s]
    rw [if_pos (by rw [decide_eq_true_eq]; omega), if_pos (by omega), if_pos (by omega), i64_succ (by omega), toNat_nat, hg, beqD_refl _ _ rfl, sameCoin_refl _ (hc y (by rw [hq]; simp))]
    simp only [bne_self_eq_false, Bool.not_true, cond_or, Bool.or_self, BEq.rfl, if_true, Option.bind_some, Bool.false_eq_true, if_false]
    have ih := samePost_loop Rt Xt K p hl hc R (P ++ [y]) n (by simpa using h) (by simp [hq])
    rw [List.length_append] at ih
    exact ih

theorem sameBodies0 : basculelaw_sameBodies.run [] [] = some true := by
  unfold basculelaw_sameBodies.run basculelaw_sameBodies.top
  rw [if_neg (by simp)]
  obtain ⟨k, hk⟩ : ∃ k, fuel = k + 1 := ⟨fuel - 1, by rw [fuel_big]⟩
  rw [hk]
  rfl

theorem samePost_refl (p : PostD) (hl : p.2.2.2.1.length ≤ 4000000000000) (hc : ∀ a ∈ p.2.2.2.1, a.2.2.2.1.2.1.length ≤ 4000000000000000) (hs : p.2.2.1.length ≤ 4000000000) (hs2 : ∀ s ∈ p.2.2.1, s.2.1.length ≤ 4000000000) (hb : p.2.2.2.2.2.2.1 = []) : basculelaw_samePost.run p p = some true := by
  unfold basculelaw_samePost.run basculelaw_samePost.top
  rw [beqD_refl _ _ rfl]
  simp only [bne_self_eq_false, Bool.not_true, cond_or, Bool.or_self, Bool.false_eq_true, if_false]
  refine (samePost_loop (fun x4 => some x4) (fun c2 c3 => basculelaw_samePost.j0 (fun x4 => some x4) c2 c3) fuel p hl hc p.2.2.2.1 [] fuel (by rw [fuel_big]; omega) rfl).trans ?_
  unfold basculelaw_samePost.j0
  rw [sameSets_refl _ hs hs2, Option.bind_some, hb, sameBodies0]
  rfl

/-! a copy -/

theorem pfresh_sets {α : Type} (Xt : PostD → Int → Int → List (List Int) → Int → List SetD → Option α) (K : Nat) (c1 : PostD) (a b d : Int) (e : List (List Int)) (l : List SetD) (hl : l.length ≤ 1000) (hs : ∀ s ∈ l, s.2.1.length ≤ 1000) : ∀ (R P : List SetD) (n : Nat), R.length < n → l = P ++ R →
    post_fresh.l0 K Xt n l (l.length : Int) (P.length : Int) c1 a b e d P = Xt c1 a b e d l
  | R, P, 0, h, _ => by omega
  | [], P, n + 1, h, hc => by
    simp only [post_fresh.l0, post_fresh.l0s]
    have : l.length = P.length := by rw [hc]; simp
    rw [if_neg (by rw [decide_eq_true_eq]; omega)]
    rw [hc, List.append_nil]
  | y :: R, P, n + 1, h, hc => by
    have hlen : l.length = P.length + (R.length + 1) := by rw [hc]; simp
    have hg : l.getD P.length (0, [], 0, ()) = y := by rw [hc]; exact getD_at _ _ _ _
    have hy := hs y (by rw [hc]; simp)
    simp only [post_fresh.l0, post_fresh.l0s]
    rw [if_pos (by rw [decide_eq_true_eq]; omega), if_pos (by omega), toNat_nat, hg, if_pos (fitB_small (by omega) (by omega)), if_pos (fitB_small (by omega) (by omega)), i64_succ (by omega)]
    have ih := pfresh_sets Xt K c1 a b d e l hl hs R (P ++ [y]) n (by simpa using h) (by simp [hc])
    rw [List.length_append] at ih
    exact ih

theorem pfresh_assets {α : Type} (Xt : PostD → Int → Int → List (List Int) → Int → List SetD → List AssetD → Option α) (K : Nat) (c1 : PostD) (a b d : Int) (e : List (List Int)) (z : List SetD) (l : List AssetD) (hl : l.length * 104 ≤ 140737488351232) (hs : ∀ s ∈ l, s.2.2.2.1.2.1.length * 64 ≤ 140737488351232) : ∀ (R P : List AssetD) (n : Nat), R.length < n → l = P ++ R →
    post_fresh.l1 K Xt n l (l.length : Int) (P.length : Int) c1 a b e d z P = Xt c1 a b e d z l
  | R, P, 0, h, _ => by omega
  | [], P, n + 1, h, hc => by
    simp only [post_fresh.l1, post_fresh.l1s]
    have : l.length = P.length := by rw [hc]; simp
    rw [if_neg (by rw [decide_eq_true_eq]; omega)]
    rw [hc, List.append_nil]
  | y :: R, P, n + 1, h, hc => by
    have hlen : l.length = P.length + (R.length + 1) := by rw [hc]; simp
    have hg : l.getD P.length A0 = y := by rw [hc]; exact getD_at _ _ _ _
    have hy := hs y (by rw [hc]; simp)
    simp only [post_fresh.l1, post_fresh.l1s]
    rw [if_pos (by rw [decide_eq_true_eq]; omega), if_pos (by omega), toNat_nat, hg, if_pos (fitB_of (by omega) (by omega)), if_pos (fitB_of (by omega) (by omega)), i64_succ (by omega)]
    have ih := pfresh_assets Xt K c1 a b d e z l hl hs R (P ++ [y]) n (by simpa using h) (by simp [hc])
    rw [List.length_append] at ih
    exact ih

theorem pfresh_run (p : PostD) (hb : p.2.2.2.2.2.2.1 = []) (h1 : p.2.2.1.length ≤ 1000) (h2 : ∀ s ∈ p.2.2.1, s.2.1.length ≤ 1000) (h3 : p.2.2.2.1.length * 104 ≤ 140737488351232) (h4 : ∀ s ∈ p.2.2.2.1, s.2.2.2.1.2.1.length * 64 ≤ 140737488351232) : post_fresh.run p = some p := by
  unfold post_fresh.run post_fresh.top
  refine (pfresh_sets _ fuel p 0 0 0 C3 p.2.2.1 h1 h2 p.2.2.1 [] fuel (by rw [fuel_big]; omega) rfl).trans ?_
  unfold post_fresh.j0
  refine (pfresh_assets _ fuel p 0 0 0 C3 p.2.2.1 p.2.2.2.1 h3 h4 p.2.2.2.1 [] fuel (by rw [fuel_big]; omega) rfl).trans ?_
  unfold post_fresh.j1
  rw [hb]
  obtain ⟨k, hk⟩ : ∃ k, fuel = k + 1 := ⟨fuel - 1, by rw [fuel_big]⟩
  rw [hk]
  simp only [post_fresh.l2, post_fresh.l2s]
  rw [show (([] : List BodyD).length : Int) = 0 from rfl, show decide ((0 : Int) < 0) = false from rfl, if_neg (by decide)]
  unfold post_fresh.j2
  rw [← hb]

/-! the homes -/

theorem home_prog {α : Type} (Rt : Int → PostD → Option α) (Xt : Int → Int → List (List Int) → Int → PostD → Option α) (K : Nat) (at_ : Int) (a b d : Int) (e : List (List Int)) (c : PostD) (l : List AssetD) (hl : l.length ≤ 4000000000000) : ∀ (R P : List AssetD) (n : Nat), R.length < n → l = P ++ R →
    post_Begin.l0 K Rt Xt n at_ l (l.length : Int) (P.length : Int) a b e d c = if R.all (fun x => x.2.1 == at_) = true then Xt a b e d c else Rt 12 P0
  | R, P, 0, h, _ => by omega
  | [], P, n + 1, h, hc => by
    simp only [post_Begin.l0, post_Begin.l0s]
    have : l.length = P.length := by rw [hc]; simp
    rw [if_neg (by rw [decide_eq_true_eq]; omega)]
    rfl
  | y :: R, P, n + 1, h, hc => by
    have hlen : l.length = P.length + (R.length + 1) := by rw [hc]; simp
    have hg : l.getD P.length A0 = y := by rw [hc]; exact getD_at _ _ _ _
    simp only [post_Begin.l0, post_Begin.l0s]
    rw [if_pos (by rw [decide_eq_true_eq]; omega), if_pos (by omega), toNat_nat, hg, i64_succ (by omega), List.all_cons]
    have ih := home_prog Rt Xt K at_ a b d e c l hl R (P ++ [y]) n (by simpa using h) (by simp [hc])
    rw [List.length_append] at ih
    by_cases hh : y.2.1 = at_
    · rw [if_neg (by simpa using hh), show (y.2.1 == at_) = true by simpa using hh, Bool.true_and]
      exact ih
    · rw [if_pos (by simpa using hh), show (y.2.1 == at_) = false by simpa using hh, Bool.false_and, if_neg (by decide)]

theorem home_ref {α : Type} (Xt : Int → Int → Int → List (List Int) → Int → Int → Int → List SetD → List AssetD → List (List Int) → Int → Option α) (K : Nat) (at_ : Int) (a b d : Int) (e : List (List Int)) (q0 q1 : Int) (q2 : List SetD) (q3 : List AssetD) (q4 : List (List Int)) (q5 : Int) (l : List AssetD) (hl : l.length ≤ 4000000000000) : ∀ (R P : List AssetD) (n : Nat) (x : Int), R.length < n → l = P ++ R →
    basculeref_PostBegun.l0 K Xt n at_ x l (l.length : Int) (P.length : Int) a b e d q0 q1 q2 q3 q4 q5 = Xt (if R.all (fun x => x.2.1 == at_) = true then x else 12) a b e d q0 q1 q2 q3 q4 q5
  | R, P, 0, x, h, _ => by omega
  | [], P, n + 1, x, h, hc => by
    simp only [basculeref_PostBegun.l0, basculeref_PostBegun.l0s]
    have : l.length = P.length := by rw [hc]; simp
    rw [if_neg (by rw [decide_eq_true_eq]; omega)]
    rfl
  | y :: R, P, n + 1, x, h, hc => by
    have hlen : l.length = P.length + (R.length + 1) := by rw [hc]; simp
    have hg : l.getD P.length A0 = y := by rw [hc]; exact getD_at _ _ _ _
    simp only [basculeref_PostBegun.l0, basculeref_PostBegun.l0s]
    rw [if_pos (by rw [decide_eq_true_eq]; omega), if_pos (by omega), toNat_nat, hg, List.all_cons]
    unfold basculeref_PostBegun.j0
    rw [i64_succ (by omega)]
    have ih := fun x => home_ref Xt K at_ a b d e q0 q1 q2 q3 q4 q5 l hl R (P ++ [y]) n x (by simpa using h) (by simp [hc])
    simp only [List.length_append, List.length_singleton] at ih
    by_cases hh : y.2.1 = at_
    · rw [if_neg (by simpa using hh), show (y.2.1 == at_) = true by simpa using hh, Bool.true_and]
      exact ih x
    · rw [if_pos (by simpa using hh), show (y.2.1 == at_) = false by simpa using hh, Bool.false_and, if_neg (by decide)]
      refine (ih 12).trans ?_
      simp only [ite_self]

theorem begins_post (at_ : Int) (ks : List (List Int)) (l : List AssetD) (h3 : l.length * 104 ≤ 140737488351232) (h4 : ∀ s ∈ l, s.2.2.2.1.2.1.length * 64 ≤ 140737488351232) (hw : ∀ a ∈ l, CoinOk a.2.2.2.1) : basculelaw_PostBegins.run at_ ks l = some true := by
  have key : ∃ (p : PostD) (e : Int), post_Begin.run at_ ks l = some (p, e, ()) ∧ basculeref_PostBegun.run at_ ks l = some (p, e, ()) ∧ (p = P0 ∨ (p = (at_, 1, [(0, ks, 0, ())], l, C3, 0, [], ()) ∧ ks.length ≤ 19)) := by
    unfold post_Begin.run post_Begin.top basculeref_PostBegun.run basculeref_PostBegun.top sets_Begin.run sets_Begin.top basculeref_SetsBegun.run basculeref_SetsBegun.top
    rw [keys_run, keysF_run]
    simp only [Option.bind_some]
    by_cases hk : keysE ks = 0
    · have hl := (keysE_ok hk).2
      rw [hk, if_neg (by decide), if_neg (by decide), fresh_run _ (by simp) (fun s hs => by simp at hs; subst hs; show List.length ks ≤ 1000; omega)]
      simp only [Option.bind_some, show ((0 : Int) != 0) = false from rfl, Bool.false_eq_true, if_false]
      rw [pfresh_run (at_, 1, [(0, ks, 0, ())], l, C3, 0, [], ()) rfl (by simp) (fun s hs => by simp at hs; subst hs; show List.length ks ≤ 1000; omega) h3 h4, Option.bind_some]
      obtain ⟨e, p1, p2⟩ := post_both (at_, 1, [(0, ks, 0, ())], l, C3, 0, [], ()) (show -9223372036854775808 ≤ (1 : Int) ∧ (1 : Int) ≤ 9223372036854775807 by decide) hw
      rw [p2, Option.bind_some]
      have a1 := home_prog (fun x7 c6 => some (c6, x7, ())) (fun c6p0 c6p1 c6p4 c6p5 c10 => post_Begin.j0 (fun x7 c6 => some (c6, x7, ())) c6p0 c6p1 c6p4 c6p5 c10) fuel at_ 0 0 0 C3 (at_, 1, [(0, ks, 0, ())], l, C3, 0, [], ()) l (by omega) l [] fuel (by rw [fuel_big]; omega) rfl
      rw [show ((([] : List AssetD).length : Nat) : Int) = 0 from rfl] at a1
      rw [a1]
      have a2 := home_ref (fun x9 c6p0 c6p1 c6p4 c6p5 c10p0 c10p1 c10p2 c10p3 c10p4 c10p5 => basculeref_PostBegun.j1 (fun (x7 : Int) (c6p0 : Int) (c6p1 : Int) (c6p2 : List SetD) (c6p3 : List AssetD) (c6p4 : List (List Int)) (c6p5 : Int) => some (((c6p0, c6p1, c6p2, c6p3, c6p4, c6p5, [], ()) : PostD), x7, ())) x9 c6p0 c6p1 c6p4 c6p5 c10p0 c10p1 c10p2 c10p3 c10p4 c10p5) fuel at_ 0 0 0 C3 at_ 1 [(0, ks, 0, ())] l C3 0 l (by omega) l [] fuel e (by rw [fuel_big]; omega) rfl
      rw [show ((([] : List AssetD).length : Nat) : Int) = 0 from rfl] at a2
      rw [a2]
      unfold post_Begin.j0 basculeref_PostBegun.j1
      rw [p1, Option.bind_some]
      cases l.all (fun x => x.2.1 == at_) with
      | false => exact ⟨P0, 12, rfl, rfl, .inl rfl⟩
      | true =>
        simp only [if_true]
        by_cases he : e = 0
        · rw [if_neg (by simpa using he)]
          exact ⟨_, 0, rfl, rfl, .inr ⟨rfl, hl⟩⟩
        · rw [if_pos (by simpa using he)]
          exact ⟨P0, e, rfl, rfl, .inl rfl⟩
    · rw [if_pos (by simpa using hk), if_pos (by simpa using hk)]
      simp only [Option.bind_some]
      rw [if_pos (by simpa using hk), if_pos (by simpa using hk)]
      exact ⟨P0, keysE ks, rfl, rfl, .inl rfl⟩
  obtain ⟨p, e, k1, k2, k3⟩ := key
  unfold basculelaw_PostBegins.run basculelaw_PostBegins.top
  rw [k1, k2, Option.bind_some, Option.bind_some]
  have hs : basculelaw_samePost.run p p = some true := by
    rcases k3 with rfl | ⟨rfl, hl⟩
    · exact samePost_refl _ (by simp) (by simp) (by simp) (by simp) rfl
    · exact samePost_refl _ (by show l.length ≤ _; omega) (fun a ha => by have := h4 a ha; omega) (by simp) (fun s hs => by simp at hs; subst hs; show List.length ks ≤ 4000000000; omega) rfl
  rw [hs, Option.bind_some]
  simp only [BEq.rfl, cond_and, Bool.and_self]

theorem law_PostBegins (x : (Ty.pair (.int .i64) (.pair KeysTy (.pair (.sl AssetTy) .unit))).den) (h : Fit reachK (.pair (.int .i64) (.pair KeysTy (.pair (.sl AssetTy) .unit))) x) : basculelaw_PostBegins.run x.1 x.2.1 x.2.2.1 = some true := by
  obtain ⟨_, _, h4, _⟩ := h
  refine begins_post _ _ _ ?_ (fun a ha => ?_) (fun a ha => ?_)
  · exact h4.1
  · obtain ⟨_, _, _, ⟨_, h5, _⟩, _⟩ := h4.2.2 a ha
    exact h5.1
  · obtain ⟨_, _, _, h5, _⟩ := h4.2.2 a ha
    exact coin_of_fit h5

end Go.Bx
