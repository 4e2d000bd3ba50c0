/- A part of a framework that reads Go code as functions of plain data; or a law about such functions. -/
import Derived.Test.YtbkkahkikjifkaaLawGuardRec
import Derived.Test.YtbkkahkikjifkaaFnGuardWaits1
namespace Go.Bx
open Go
set_option linter.unusedSimpArgs false
set_option linter.unusedVariables false
abbrev BodyTyW : Ty := .pair (.int .i64) (.pair (.int .i64) (.pair (.int .i64) (.pair (.arr 32 (.int .u8)) (.pair (.int .i64) (.pair (.int .i64) (.pair (.sl (.int .u8)) .unit))))))
def GoodW (g r : GuardD) : Prop := (r = g) \/ (∃ (x : GateD) (l : LogD) (H D : List BodyD), r = (g.1, g.2.1, x, l, H, D, ()) /\ x.2.2.2.1.length <= 80 /\ x.2.2.2.2.1.length <= 80 /\ H.length + D.length = g.2.2.2.2.1.length + g.2.2.2.2.2.1.length)
theorem good_same {g r : GuardD} (s : SmallG g) (h : GoodW g r) : basculelaw_sameGuard.run r r = some true := by
 have a1 := s.p1
 have a2 := s.q1
 have a3 := s.p2
 have a4 := s.q2
 have a5 := s.h
 have a6 := s.d
 rcases h with rfl | ⟨x, l, H, D, rfl, x1, x2, hl⟩
 ·exact sameGuard_refl _ (by omega) (by omega) (by omega) (by omega) (by omega) (by omega)
 ·exact sameGuard_refl _ (show g.2.1.2.2.2.1.length <= 4000000000 by omega) (show g.2.1.2.2.2.2.1.length <= 4000000000 by omega) (show x.2.2.2.1.length <= 4000000000 by omega) (show x.2.2.2.2.1.length <= 4000000000 by omega) (show H.length <= 4000000000000 by omega) (show D.length <= 4000000000000 by omega)
theorem waited_both (g : GuardD) (n : Int) (s : SmallG g) : ∃ (y z : GuardD) (e : Int), guard_Hours.run g n = some (y, e, ()) /\ basculeref_Waited.run g n = some (z, e, ()) /\ GoodW g y /\ ((g.2.2.2.2.1.map idB).Nodup -> z = y) := by
 have hHD : g.2.2.2.2.1.length + g.2.2.2.2.2.1.length <= 3000000 := by have := s.h; have := s.d; omega
 obtain ⟨⟨x, ids, e, ⟨⟩⟩, t1, t2, t3, t4, t5⟩ := tick_both g.2.2.1 n
 simp only [] at t3 t4 t5
 unfold guard_Hours.run guard_Hours.top basculeref_Waited.run basculeref_Waited.top
 rw [freshS_run g s, waits_run g n hHD t2 t5]
 simp only [Option.bind_some]
 rw [passed_run g n hHD t1 t5]
 by_cases he : e = 0
 ·rw [if_pos he, if_pos he]
  simp only [Option.bind_some, BEq.rfl, if_true, bne_self_eq_false, Bool.false_eq_true, if_false]
  rw [hours_run, Option.bind_some]
  rw [show basculeref_big.run (IntKind.u64.wrap n) 2 = some (be n 2) by rw [<- be_u64]; exact big_run _ 2 (by omega), Option.bind_some, if_pos (ble_le (by simp [be_len]))]
  have hr : ([2] ++ be n 2).length <= 200 := by simp [be_len]
  have hb : ∀ b ∈ ([2] ++ be n 2), 0 <= b /\ b <= 255 := fun b hb => by
   rcases List.mem_append.1 hb with hb | hb
   ·simp only [List.mem_cons, List.not_mem_nil, or_false] at hb; subst hb; decide
   ·have := be_rng n 2 b hb; omega
  have m1 := mv_len ids g.2.2.2.2.1 g.2.2.2.2.2.1
  have hs : (g.2.2.2.2.1.map idB).Nodup -> mvR ids g.2.2.2.2.1 g.2.2.2.2.2.1 = mv ids g.2.2.2.2.1 g.2.2.2.2.2.1 := fun h => (mv_same ids _ _ h).symm
  generalize mv ids g.2.2.2.2.1 g.2.2.2.2.2.1 = M at m1 hs ⊢
  generalize mvR ids g.2.2.2.2.1 g.2.2.2.2.2.1 = M2 at hs ⊢
  have k1 : guard_kept.run (g.1, (g.2.1.1, g.2.1.2.1, g.2.1.2.2.1, g.2.1.2.2.2.1, g.2.1.2.2.2.2.1, ()), x, (g.2.2.2.1.1, g.2.2.2.1.2.1, ()), M.1, M.2, ()) ([2] ++ be n 2) = some (recG (g.1, g.2.1, x, g.2.2.2.1, M.1, M.2, ()) ([2] ++ be n 2), recE g.2.2.2.1 ([2] ++ be n 2), ()) :=
   (rec_both (g.1, g.2.1, x, g.2.2.2.1, M.1, M.2, ()) _ hr hb).1
  rw [k1, (rec_both (g.1, g.2.1, x, g.2.2.2.1, M2.1, M2.2, ()) _ hr hb).2]
  simp only [Option.bind_some]
  unfold guard_Hours.j0 recG
  simp only [cond_or]
  rcases recE_cases g.2.2.2.1 ([2] ++ be n 2) with ⟨c0, c1⟩ | ⟨c0, c1⟩ | ⟨c0, c1⟩
  ·rw [c0, if_pos (show ((12 : Int) != 0) = true from rfl), freshS_run g s, if_pos (show (decide ((g.2.2.2.1.1.length : Int) > 9000) || decide ((g.2.2.2.1.2.1.length : Int) > 9000)) = true by
    simp only [Bool.or_eq_true, decide_eq_true_eq]; omega)]
   exact ⟨g, g, 12, rfl, rfl, .inl rfl, fun _ => rfl⟩
  ·have c2 : ¬ (decide ((g.2.2.2.1.1.length : Int) > 9000) || decide ((g.2.2.2.1.2.1.length : Int) > 9000)) = true := by
    simp only [Bool.or_eq_true, decide_eq_true_eq]; omega
   rw [c0, if_neg c2, if_pos (show ((9 : Int) != 0) = true from rfl), freshS_run g s]
   exact ⟨g, g, 9, rfl, rfl, .inl rfl, fun _ => rfl⟩
  ·have c2 : ¬ (decide ((g.2.2.2.1.1.length : Int) > 9000) || decide ((g.2.2.2.1.2.1.length : Int) > 9000)) = true := by
    simp only [Bool.or_eq_true, decide_eq_true_eq]; omega
   rw [c0, if_neg c2, if_neg (show ¬ ((0 : Int) != 0) = true by decide)]
   refine ⟨_, _, 0, rfl, rfl, .inr ⟨x, recL g.2.2.2.1 ([2] ++ be n 2), M.1, M.2, rfl, t3, t4, m1⟩, fun hn => ?_⟩
   rw [hs hn]
 ·rw [if_neg he, if_neg he]
  simp only [Option.bind_some]
  rw [if_neg (show ¬ (e == 0) = true by simpa using he), if_pos (show (e != 0) = true by simpa using he)]
  unfold guard_Hours.j0
  rw [if_pos (show (e != 0) = true by simpa using he), freshS_run g s]
  exact ⟨g, g, e, rfl, rfl, .inl rfl, fun _ => rfl⟩
def dupB : List BodyD -> List BodyD -> Bool
 | _, [] => false
 | P, b :: R => (P.any fun c => idB b == idB c) || dupB (P ++ [b]) R
theorem dup_not : ∀ (R P : List BodyD), dupB P R = false -> (P.map idB).Nodup -> ((P ++ R).map idB).Nodup
 | [], P, _, h => by simpa using h
 | b :: R, P, hd, h => by
  unfold dupB at hd
  rw [Bool.or_eq_false_iff] at hd
  have hb : ∀ c ∈ P, idB c ≠ idB b := fun c hc he => by
   have := List.any_eq_false.1 hd.1 c hc
   simp [he] at this
  have h2 : ((P ++ [b]).map idB).Nodup := by
   rw [List.map_append, List.nodup_append]
   refine ⟨h, by simp, fun x hx y hy => ?_⟩
   simp only [List.map_cons, List.map_nil, List.mem_cons, List.not_mem_nil, or_false] at hy
   obtain ⟨c, hc, rfl⟩ := List.mem_map.1 hx
   rw [hy]; exact hb c hc
  have := dup_not R (P ++ [b]) hd.2 h2
  simpa using this
theorem dup_in {α : Type} (Rt : Bool -> Option α) (Xt : Int -> Int -> List BodyD -> Int -> Int -> GuardD -> GuardD -> GuardD -> Option α) (K : Nat) (x6 x8 : Int) (x26 : List BodyD) (x27 x28 : Int) (c2 c5 c7 : GuardD) (b : BodyD) (l : List BodyD) (hl : l.length <= 1048576) : ∀ (R P : List BodyD) (n : Nat), R.length < n -> l = P ++ R ->
  basculelaw_GuardWaits.l1 K Rt Xt n x6 x8 x26 x27 x28 l (l.length : Int) (P.length : Int) c2 c5 c7 b = if (R.any fun c => idB b == idB c) = true then Rt (x6 == x8) else Xt x6 x8 x26 x27 x28 c2 c5 c7
 | R, P, 0, h, _ => by omega
 | [], P, n + 1, h, hc => by
  simp only [basculelaw_GuardWaits.l1, basculelaw_GuardWaits.l1s]
  have : l.length = P.length := by rw [hc]; simp
  rw [if_neg (by rw [decide_eq_true_eq]; omega)]
  rfl
 | c :: R, P, n + 1, h, hc => by
  have hlen : l.length = P.length + (R.length + 1) := by rw [hc]; simp
  have hg : l.getD P.length (0, 0, 0, List.replicate 32 0, 0, 0, [], ()) = c := by rw [hc]; exact getD_at _ _ _ _
  simp only [basculelaw_GuardWaits.l1, basculelaw_GuardWaits.l1s]
  rw [if_pos (by rw [decide_eq_true_eq]; omega), if_pos (by omega), toNat_nat, hg, idOf_run, Option.bind_some, idOf_run, Option.bind_some, i64_succ (by omega), List.any_cons]
  have ih := dup_in Rt Xt K x6 x8 x26 x27 x28 c2 c5 c7 b l hl R (P ++ [c]) n (by simpa using h) (by simp [hc])
  rw [List.length_append] at ih
  cases hb : (idB b == idB c) with
  | true => rfl
  | false =>
   rw [Bool.false_or, if_neg (by decide)]
   exact ih
theorem dup_out {α : Type} (Rt : Bool -> Option α) (Xt : Int -> Int -> GuardD -> GuardD -> Option α) (K : Nat) (hK : 1048576 < K) (x6 x8 : Int) (g c5 c7 : GuardD) (hl : g.2.2.2.2.1.length <= 1048576) : ∀ (R P : List BodyD) (n : Nat), R.length < n -> g.2.2.2.2.1 = P ++ R ->
  basculelaw_GuardWaits.l0 K Rt Xt n x6 x8 g.2.2.2.2.1 (g.2.2.2.2.1.length : Int) (P.length : Int) g c5 c7 = if dupB P R = true then Rt (x6 == x8) else Xt x6 x8 c5 c7
 | R, P, 0, h, _ => by omega
 | [], P, n + 1, h, hc => by
  simp only [basculelaw_GuardWaits.l0, basculelaw_GuardWaits.l0s]
  have : g.2.2.2.2.1.length = P.length := by rw [hc]; simp
  rw [if_neg (by rw [decide_eq_true_eq]; omega)]
  rfl
 | b :: R, P, n + 1, h, hc => by
  have hlen : g.2.2.2.2.1.length = P.length + (R.length + 1) := by rw [hc]; simp
  have hg : g.2.2.2.2.1.getD P.length (0, 0, 0, List.replicate 32 0, 0, 0, [], ()) = b := by rw [hc]; exact getD_at _ _ _ _
  have hcut : cutL g.2.2.2.2.1 0 (P.length : Int) = P := by rw [hc]; simp [cutL]
  simp only [basculelaw_GuardWaits.l0, basculelaw_GuardWaits.l0s]
  rw [if_pos (by rw [decide_eq_true_eq]; omega), if_pos (by omega), if_pos (by omega), toNat_nat, hg, hcut]
  have hin := dup_in (fun x4 => Rt x4) (fun x6 x8 x26 x27 x28 c2 c5 c7 => basculelaw_GuardWaits.j0 (basculelaw_GuardWaits.l0 K Rt Xt n) x6 x8 x26 x27 x28 c2 c5 c7) K x6 x8 g.2.2.2.2.1 (g.2.2.2.2.1.length : Int) (P.length : Int) g c5 c7 b P (by omega) P [] K (by omega) rfl
  rw [show (([] : List BodyD).length : Int) = 0 from rfl] at hin
  refine Eq.trans hin ?_
  have ih := dup_out Rt Xt K hK x6 x8 g c5 c7 hl R (P ++ [b]) n (by simpa using h) (by simp [hc])
  rw [List.length_append] at ih
  unfold dupB basculelaw_GuardWaits.j0
  rw [i64_succ (by omega)]
  cases (P.any fun c => idB b == idB c) with
  | true => rfl
  | false =>
   rw [if_neg (by decide), Bool.false_or]
   exact ih
theorem waits_all (g : GuardD) (n : Int) (s : SmallG g) : basculelaw_GuardWaits.run g n = some true := by
 obtain ⟨y, z, e, h1, h2, h3, h4⟩ := waited_both g n s
 unfold basculelaw_GuardWaits.run basculelaw_GuardWaits.top
 rw [h1, Option.bind_some, h2, Option.bind_some]
 simp only []
 have := dup_out (fun x4 => some x4) (fun x6 x8 c5 c7 => basculelaw_GuardWaits.j1 (fun x4 => some x4) x6 x8 c5 c7) fuel (by rw [fuel_big]; omega) e e g y z s.h g.2.2.2.2.1 [] fuel (by rw [fuel_big]; have := s.h; omega) rfl
 rw [show (([] : List BodyD).length : Int) = 0 from rfl] at this
 rw [this]
 cases hd : dupB [] g.2.2.2.2.1 with
 | true => simp
 | false =>
  have hn := dup_not g.2.2.2.2.1 [] hd (by simp)
  rw [h4 (by simpa using hn)]
  unfold basculelaw_GuardWaits.j1
  rw [if_neg (by decide), good_same s h3]
  simp
theorem small_of {g : GuardD} (h : Fit uptoK (Ty.pair (.arr 4 (.int .u64)) (.pair GateTy (.pair GateTy (.pair (.pair (.sl (.int .u8)) (.pair (.sl (.int .u8)) .unit)) (.pair (.sl BodyTyW) (.pair (.sl BodyTyW) .unit)))))) g) : SmallG g := by
 obtain ⟨_, ⟨_, _, _, ⟨a1, _⟩, ⟨a2, _⟩, _⟩, ⟨_, _, _, ⟨a3, _⟩, ⟨a4, _⟩, _⟩, ⟨⟨a5, _⟩, ⟨a6, _⟩, _⟩, ⟨a7, _, b7⟩, ⟨a8, _, b8⟩, _⟩ := h
 exact ⟨a1, a2, a3, a4, a5, a6, a7, a8, fun b hb => (b7 b hb).2.2.2.2.2.2.1.1, fun b hb => (b8 b hb).2.2.2.2.2.2.1.1⟩
theorem law_GuardWaits (x : basculelaw_GuardWaits.F.ps.den) (h : Fit uptoK basculelaw_GuardWaits.F.ps x) : basculelaw_GuardWaits.run x.1 x.2.1 = some true := by
 obtain ⟨h1, _⟩ := h
 exact waits_all _ _ (small_of h1)
end Go.Bx
