/- A part of a framework that reads Go code as functions of plain data; or a law about such functions. -/
import Derived.Test.YtbkkahkikjifkaaLawGuardSame
import Derived.Test.YtbkkahkikjifkaaFnGuardSees0
namespace Go.Bx
open Go
set_option linter.unusedSimpArgs false
set_option linter.unusedVariables false
theorem bodyN_run (b : BodyD) (h : b.2.2.2.2.2.2.1.length <= 1048576) : guard_body.run b = some b := by
 unfold guard_body.run guard_body.top
 rw [if_pos (fitB_small (by omega) (by decide))]
theorem bodiesN_loop {α : Type} (Xt : List BodyD -> Option α) (K : Nat) (l : List BodyD) (hl : l.length <= 4000000) (hb : ∀ b ∈ l, b.2.2.2.2.2.2.1.length <= 1048576) : ∀ (R P : List BodyD) (n : Nat), R.length < n -> l = P ++ R ->
  guard_bodies_s0.l0 K Xt n l (l.length : Int) (P.length : Int) P = Xt l
 | R, P, 0, h, _ => by omega
 | [], P, n + 1, h, hc => by
  simp only [guard_bodies_s0.l0, guard_bodies_s0.l0s]
  have e : l = P := by rw [hc]; simp
  rw [<- e, if_neg (by rw [decide_eq_true_eq]; omega)]
 | b :: R, P, n + 1, h, hc => by
  have hlen : l.length = P.length + (R.length + 1) := by rw [hc]; simp
  have hg : l.getD P.length (0, 0, 0, List.replicate 32 0, 0, 0, [], ()) = b := by rw [hc]; exact getD_at _ _ _ _
  simp only [guard_bodies_s0.l0, guard_bodies_s0.l0s]
  rw [if_pos (by rw [decide_eq_true_eq]; omega), if_pos (by omega), toNat_nat, hg, bodyN_run b (hb b (by rw [hc]; simp)), Option.bind_some, if_pos (fitB_small (by omega) (by decide)), i64_succ (by omega)]
  have ih := bodiesN_loop Xt K l hl hb R (P ++ [b]) n (by simpa using h) (by simp [hc])
  rw [List.length_append] at ih
  exact ih
theorem bodiesN_run (l : List BodyD) (hl : l.length <= 4000000) (hb : ∀ b ∈ l, b.2.2.2.2.2.2.1.length <= 1048576) : guard_bodies_s0.run l = some (l, ()) := by
 unfold guard_bodies_s0.run guard_bodies_s0.top
 exact bodiesN_loop (fun c16 => guard_bodies_s0.j0 (fun c16 => some (c16, ())) c16) fuel l hl hb l [] fuel (by rw [fuel_big]; omega) rfl
structure SmallN (g : GuardD) : Prop where
 p1 : g.2.1.2.2.2.1.length <= 4000000
 q1 : g.2.1.2.2.2.2.1.length <= 4000000
 p2 : g.2.2.1.2.2.2.1.length <= 4000000
 q2 : g.2.2.1.2.2.2.2.1.length <= 4000000
 l1 : g.2.2.2.1.1.length <= 4000000
 l2 : g.2.2.2.1.2.1.length <= 4000000
 h : g.2.2.2.2.1.length <= 4000000
 d : g.2.2.2.2.2.1.length <= 4000000
 hb : ∀ b ∈ g.2.2.2.2.1, b.2.2.2.2.2.2.1.length <= 1048576
 db : ∀ b ∈ g.2.2.2.2.2.1, b.2.2.2.2.2.2.1.length <= 1048576
theorem freshN_run (g : GuardD) (s : SmallN g) : guard_fresh_s0.run g = some (g.1, g.2.1.1, g.2.1.2.1, g.2.1.2.2.1, g.2.2.1.1, g.2.2.1.2.1, g.2.2.1.2.2.1, g.1, g.2.1.1, g.2.1.2.1, g.2.1.2.2.1, g.2.2.1.1, g.2.2.1.2.1, g.2.2.1.2.2.1, g.2.2.2.1.1, g.2.2.2.1.2.1,
  g.2.1.2.2.2.1, g.2.1.2.2.2.2.1, g.2.2.1.2.2.2.1, g.2.2.1.2.2.2.2.1, g.2.2.2.2.1, g.2.2.2.2.2.1, ()) := by
 have hq : ∀ l : List QD, l.length <= 4000000 -> guard_fresh_1_s0.run l = some (l, ()) := fun l hl => by
  unfold guard_fresh_1_s0.run guard_fresh_1_s0.top
  rw [if_pos (fitB_small (by omega) (by decide))]
 unfold guard_fresh_s0.run guard_fresh_s0.top
 rw [hq _ s.p1, Option.bind_some, hq _ s.q1, Option.bind_some, hq _ s.p2, Option.bind_some, hq _ s.q2, Option.bind_some, if_pos (fitB_small (by have := s.l1; omega) (by decide)), if_pos (fitB_small (by have := s.l2; omega) (by decide)), bodiesN_run _ s.h s.hb, Option.bind_some, bodiesN_run _ s.d s.db, Option.bind_some]
theorem bodiesP_loop {α : Type} (Xt : List BodyD -> Option α) (K : Nat) (l : List BodyD) (hl : l.length <= 4000000) (hb : ∀ b ∈ l, b.2.2.2.2.2.2.1.length <= 1048576) : ∀ (R P : List BodyD) (n : Nat), R.length < n -> l = P ++ R ->
  guard_bodies.l0 K Xt n l (l.length : Int) (P.length : Int) P = Xt l
 | R, P, 0, h, _ => by omega
 | [], P, n + 1, h, hc => by
  simp only [guard_bodies.l0, guard_bodies.l0s]
  have e : l = P := by rw [hc]; simp
  rw [<- e, if_neg (by rw [decide_eq_true_eq]; omega)]
 | b :: R, P, n + 1, h, hc => by
  have hlen : l.length = P.length + (R.length + 1) := by rw [hc]; simp
  have hg : l.getD P.length (0, 0, 0, List.replicate 32 0, 0, 0, [], ()) = b := by rw [hc]; exact getD_at _ _ _ _
  simp only [guard_bodies.l0, guard_bodies.l0s]
  rw [if_pos (by rw [decide_eq_true_eq]; omega), if_pos (by omega), toNat_nat, hg, bodyN_run b (hb b (by rw [hc]; simp)), Option.bind_some, if_pos (fitB_small (by omega) (by decide)), i64_succ (by omega)]
  have ih := bodiesP_loop Xt K l hl hb R (P ++ [b]) n (by simpa using h) (by simp [hc])
  rw [List.length_append] at ih
  exact ih
theorem freshP_run (g : GuardD) (s : SmallN g) : guard_fresh.run g = some g := by
 have hq : ∀ l : List QD, l.length <= 4000000 -> guard_fresh_1.run l = some l := fun l hl => by
  unfold guard_fresh_1.run guard_fresh_1.top
  rw [if_pos (fitB_small (by omega) (by decide))]
 have hbp : ∀ l : List BodyD, l.length <= 4000000 -> (∀ b ∈ l, b.2.2.2.2.2.2.1.length <= 1048576) -> guard_bodies.run l = some l := fun l hl hb => by
  unfold guard_bodies.run guard_bodies.top
  exact bodiesP_loop (fun c16 => guard_bodies.j0 (fun c16 => some c16) c16) fuel l hl hb l [] fuel (by rw [fuel_big]; omega) rfl
 unfold guard_fresh.run guard_fresh.top
 rw [hq _ s.p1, Option.bind_some, hq _ s.q1, Option.bind_some, hq _ s.p2, Option.bind_some, hq _ s.q2, Option.bind_some, if_pos (fitB_small (by have := s.l1; omega) (by decide)), if_pos (fitB_small (by have := s.l2; omega) (by decide)), hbp _ s.h s.hb, Option.bind_some, hbp _ s.d s.db, Option.bind_some]
end Go.Bx
