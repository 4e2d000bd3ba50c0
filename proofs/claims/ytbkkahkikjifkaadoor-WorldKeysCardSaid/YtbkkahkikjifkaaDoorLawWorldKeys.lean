/- A part of a framework that reads Go code as functions of plain data; or a law about such functions. -/
import Derived.Test.YtbkkahkikjifkaaDoorLawPoint
import Derived.Test.YtbkkahkikjifkaaDoorLawKeyOf
import Derived.Test.YtbkkahkikjifkaaDoorLawCurveNum
import Derived.Test.YtbkkahkikjifkaaDoorLawAt
import Derived.Test.YtbkkahkikjifkaaDoorFnWorldKeys1
namespace Go.Bx
open Go Go.Bx.Rg
set_option linter.unusedSimpArgs false
set_option linter.unusedVariables false
theorem sameKeys_loop {α : Type} (Rt : Bool -> Option α) (Xt : Option α) (K : Nat) (l : List (List Int)) (hl : l.length <= 1000) : ∀ (R P : List (List Int)) (n : Nat), R.length < n -> l = P ++ R ->
  basculelaw_sameKeys.l0 K Rt Xt n l l (l.length : Int) (P.length : Int) = Xt
 | R, P, 0, h, _ => by omega
 | [], P, n + 1, h, hc => by
  simp only [basculelaw_sameKeys.l0, basculelaw_sameKeys.l0s]
  have : l.length = P.length := by rw [hc]; simp
  rw [if_neg (by rw [decide_eq_true_eq]; omega)]
 | k :: R, P, n + 1, h, hc => by
  have hlen : l.length = P.length + (R.length + 1) := by rw [hc]; simp
  simp only [basculelaw_sameKeys.l0, basculelaw_sameKeys.l0s]
  rw [if_pos (by rw [decide_eq_true_eq]; omega), if_pos (by omega), if_pos (by omega), i64_succ (by omega), beqD_refl (.arr 20 (.int .u8)) _ rfl, if_neg (by decide)]
  have ih := sameKeys_loop Rt Xt K l hl R (P ++ [k]) n (by simpa using h) (by simp [hc])
  rw [List.length_append] at ih
  exact ih
theorem sameKeys_run (l : List (List Int)) (hl : l.length <= 1000) : basculelaw_sameKeys.run l l = some true := by
 unfold basculelaw_sameKeys.run basculelaw_sameKeys.top
 rw [if_neg (by simp)]
 exact sameKeys_loop _ _ fuel l hl l [] fuel (by rw [fuel_big]; omega) rfl
theorem keys_loop {P A B N x y : Int} {f : Bool} (b1 : 0 <= P /\ P < M256) (b2 : 0 <= A /\ A < M256) (b3 : 0 <= B /\ B < M256) (b4 : 0 <= N /\ N < M256) (b5 : 0 <= x /\ x < M256) (b6 : 0 <= y /\ y < M256) (S : _) (hS : S.1 = (mk P, mk A, mk B, mk N, (mk x, mk y, f, ()), ())) (K : Nat)
  (l : List (List Int)) (hl : l.length <= 7) (hw : ∀ d ∈ l, W4 d) : ∀ (R Q : List (List Int)) (n : Nat) (c : List (List Int)), R.length < n -> l = Q ++ R -> c.length = Q.length ->
  ∃ r e, world_Keys.l0 K (fun x2 x3 => some (x2, x3, ())) (fun c47 => world_Keys.j0 (fun x2 x3 => some (x2, x3, ())) c47) n l (l.length : Int) (Q.length : Int) S c = some (r, e, ()) /\
   basculeref_KeysOf.l0 K (fun x2 x3 => some (x2, x3, ())) (fun c47 => basculeref_KeysOf.j0 (fun x2 x3 => some (x2, x3, ())) c47) n l (l.length : Int) (Q.length : Int) S c = some (r, e, ()) /\ r.length <= 7
 | R, Q, 0, c, h, _, _ => by omega
 | [], Q, n + 1, c, h, hc, hcl => by
  simp only [world_Keys.l0, world_Keys.l0s, basculeref_KeysOf.l0, basculeref_KeysOf.l0s]
  have : l.length = Q.length := by rw [hc]; simp
  rw [if_neg (by rw [decide_eq_true_eq]; omega), if_neg (by rw [decide_eq_true_eq]; omega)]
  exact ⟨c, 0, rfl, rfl, by omega⟩
 | d :: R, Q, n + 1, c, h, hc, hcl => by
  have hlen : l.length = Q.length + (R.length + 1) := by rw [hc]; simp
  have hd : W4 d := hw d (by rw [hc]; simp)
  have hg : l.getD Q.length [0, 0, 0, 0] = d := by rw [hc]; exact getD_at _ _ _ _
  simp only [world_Keys.l0, world_Keys.l0s, basculeref_KeysOf.l0, basculeref_KeysOf.l0s]
  obtain ⟨s, e, e1, e2, e3⟩ := point_both (f := f) (D := val B64 d) b1 b2 b3 b4 b5 b6 hd.bound
  rw [<- mk_of hd] at e1 e2
  rw [if_pos (by rw [decide_eq_true_eq]; omega), if_pos (by omega), if_pos (by rw [decide_eq_true_eq]; omega), if_pos (by omega), toNat_nat, hg, hS, e1, e2]
  simp only [Option.bind_some]
  by_cases he : e = 0
  ·subst he
   simp only [bne_self_eq_false, Bool.false_eq_true, if_false]
   obtain ⟨k1, k2⟩ := key_both s.2.2.1 e3.1.1 e3.2.1
   rw [show (s.1, s.2.1, s.2.2.1, ()) = s from rfl] at k1 k2
   rw [k1, k2]
   simp only [Option.bind_some]
   rw [if_pos (fitB_small (by omega) (by omega)), if_pos (fitB_small (by omega) (by omega)), i64_succ (by omega)]
   have ih := keys_loop b1 b2 b3 b4 b5 b6 S hS K l hl hw R (Q ++ [d]) n (c ++ [keyOf s.1 s.2.1]) (by simpa using h) (by simp [hc]) (by simp [hcl])
   rw [List.length_append] at ih
   exact ih
  ·rw [if_pos (by simpa using he), if_pos (by simpa using he)]
   exact ⟨[], e, rfl, rfl, by simp⟩
theorem law_WorldKeys (x : basculelaw_WorldKeys.F.ps.den) (h : Fit reachK basculelaw_WorldKeys.F.ps x) : basculelaw_WorldKeys.run x.1 = some true := by
 obtain ⟨S, ⟨⟩⟩ := x
 obtain ⟨⟨hc, ⟨_, _, hs⟩, _⟩, _⟩ := h
 obtain ⟨P, A, B, N, x, y, f, hcv, b1, b2, b3, b4, b5, b6⟩ := cv_num S.1 hc
 obtain ⟨e1, e2⟩ := curve_both f b1 b2 b3 b4 b5 b6
 have : ∃ r e, world_Keys.run S = some (r, e, ()) /\ basculeref_KeysOf.run S = some (r, e, ()) /\ r.length <= 7 := by
  unfold world_Keys.run world_Keys.top basculeref_KeysOf.run basculeref_KeysOf.top
  rw [hcv, e1, e2]
  simp only [Option.bind_some, cond_or]
  rcases curveE_or P A B N x y f with h0 | h0
  ·rw [h0]
   simp only [bne_self_eq_false, Bool.false_eq_true, if_false]
   by_cases hl : 1 <= S.2.1.length /\ S.2.1.length <= 7
   ·rw [if_neg (by simp only [Bool.or_eq_true, decide_eq_true_eq]; omega), if_neg (by simp only [Bool.or_eq_true, beq_iff_eq, decide_eq_true_eq]; omega)]
    exact keys_loop b1 b2 b3 b4 b5 b6 S hcv fuel S.2.1 hl.2 (fun d hd => digs_of_fit (hs d hd)) S.2.1 [] fuel [] (by rw [fuel_big]; omega) rfl rfl
   ·rw [if_pos (by simp only [Bool.or_eq_true, decide_eq_true_eq]; omega), if_pos (by simp only [Bool.or_eq_true, beq_iff_eq, decide_eq_true_eq]; omega)]
    exact ⟨[], 1, rfl, rfl, by simp⟩
  ·rw [h0]; exact ⟨[], 16, rfl, rfl, by simp⟩
 obtain ⟨r, e, m1, m2, m3⟩ := this
 show basculelaw_WorldKeys.run S = some true
 unfold basculelaw_WorldKeys.run basculelaw_WorldKeys.top
 rw [m1, m2]
 simp only [Option.bind_some]
 rw [sameKeys_run r (by omega)]
 simp
end Go.Bx
