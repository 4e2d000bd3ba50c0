/- A part of a framework that reads Go code as functions of plain data; or a law about such functions. -/
import Derived.Test.YtbkkahkikjifkaaLawSee
import Derived.Test.YtbkkahkikjifkaaFnGuardSees2
namespace Go.Bx
open Go
set_option linter.unusedSimpArgs false
set_option linter.unusedVariables false
set_option maxRecDepth 100000
def BodyFine (b : BodyD) : Prop := b.2.2.2.1.length = 32 /\ Byts b.2.2.2.1 /\ Byts b.2.2.2.2.2.2.1 /\ b.2.2.2.2.2.2.1.length <= 1048576
theorem sees_loop (K L : Nat) (q0 q10 q11 : List Int) (q12 : Int) (q20 q21 : List Int) (q22 : Int) (T : Nat) (l : List BodyD) (hl : T + l.length <= 3999999) (hb : ∀ b ∈ l, BodyFine b) : ∀ (R P : List BodyD) (n : Nat) (g : GuardD) (m : Int), R.length < n -> l = P ++ R -> Inv (T + P.length) g ->
  ∃ (r : GuardD) (k : Int), guard_See.l0 K (fun x6 c2 c4p0 c4p1p0 c4p1p1 c4p1p2 c4p2p0 c4p2p1 c4p2p2 => guard_See.j1 (fun x5 c4 => some (c4, x5, ())) x6 c2 c4p0 c4p1p0 c4p1p1 c4p1p2 c4p2p0 c4p2p1 c4p2p2) n m l (l.length : Int) (P.length : Int) g q0 q10 q11 q12 q20 q21 q22 = some (r, k, ()) /\
   basculeref_Saw.l0 L (fun x6 c2 c4p0 c4p1p0 c4p1p1 c4p1p2 c4p2p0 c4p2p1 c4p2p2 => basculeref_Saw.j2 (fun x5 c4 => some (c4, x5, ())) x6 c2 c4p0 c4p1p0 c4p1p1 c4p1p2 c4p2p0 c4p2p1 c4p2p2) n m l (l.length : Int) (P.length : Int) g q0 q10 q11 q12 q20 q21 q22 = some (r, k, ()) /\ Inv (T + l.length) r
 | R, P, 0, g, m, h, _, _ => by omega
 | [], P, n + 1, g, m, h, hc, i => by
  simp only [guard_See.l0, guard_See.l0s, basculeref_Saw.l0, basculeref_Saw.l0s]
  have : l.length = P.length := by rw [hc]; simp
  rw [if_neg (by rw [decide_eq_true_eq]; omega), if_neg (by rw [decide_eq_true_eq]; omega)]
  exact ⟨g, m, rfl, rfl, i.more (by omega)⟩
 | b :: R, P, n + 1, g, m, h, hc, i => by
  have hlen : l.length = P.length + (R.length + 1) := by rw [hc]; simp
  have hg : l.getD P.length (0, 0, 0, List.replicate 32 0, 0, 0, [], ()) = b := by rw [hc]; exact getD_at _ _ _ _
  obtain ⟨f1, f2, f3, f4⟩ := hb b (by rw [hc]; simp)
  obtain ⟨y, ok, e1, e2, e3⟩ := meet_both (T := T + P.length) (by omega) i b f1 f2 f3 f4
  have c1 : decide ((P.length : Int) < (l.length : Int)) = true := by rw [decide_eq_true_eq]; omega
  have c2 : 0 <= (P.length : Int) /\ (P.length : Int) < (l.length : Int) := by omega
  have ih := fun g m i => sees_loop K L q0 q10 q11 q12 q20 q21 q22 T l hl hb R (P ++ [b]) n g m (by simpa using h) (by simp [hc]) i
  rw [List.length_append] at ih
  simp only [guard_See.l0, guard_See.l0s, basculeref_Saw.l0, basculeref_Saw.l0s]
  rw [if_pos c1, if_pos c2, if_pos c1, if_pos c2, toNat_nat, hg, e1, Option.bind_some]
  simp only []
  unfold guard_See.j0
  rw [i64_succ (by omega)]
  rcases e3 with ⟨m1, rfl⟩ | ⟨x, z, m1, m2, m3, m4, m5⟩
  ·rw [m1, Option.bind_some]
   simp only [Bool.false_eq_true, if_false]
   unfold basculeref_Saw.j0 basculeref_Saw.j1
   simp only [Bool.false_eq_true, if_false]
   rw [i64_succ (by omega)]
   exact ih g m (i.more (by simp))
  ·rw [m1, Option.bind_some]
   simp only [if_true]
   rw [m2, Option.bind_some, if_pos (ble_le (by omega)), m4, Option.bind_some]
   simp only []
   unfold basculeref_Saw.j0 basculeref_Saw.j1
   cases ok with
   | false =>
    simp only [Bool.false_eq_true, if_false]
    rw [i64_succ (by omega)]
    exact ih g m (i.more (by simp))
   | true =>
    rw [m5 rfl]
    simp only [if_true]
    rw [i64_succ (by omega)]
    exact ih y _ ((e2 rfl).more (by simp; omega))
theorem sees_all (g : GuardD) (l : List BodyD) (i : Inv 2097152 g) (hl : l.length <= 1048576) (hb : ∀ b ∈ l, BodyFine b) : basculelaw_GuardSees.run g l = some true := by
 have : ∃ (r : GuardD) (k : Int), guard_See.run g l = some (r, k, ()) /\ basculeref_Saw.run g l = some (r, k, ()) /\ Inv (2097152 + l.length) r := by
  unfold guard_See.run guard_See.top basculeref_Saw.run basculeref_Saw.top
  rw [freshP_run g (i.small (by omega)), Option.bind_some]
  exact sees_loop fuel fuel [0, 0, 0, 0] [0, 0, 0] [0, 0, 0] 0 [0, 0, 0] [0, 0, 0] 0 2097152 l (by omega) hb l [] fuel g 0 (by rw [fuel_big]; omega) rfl (i.more (by simp))
 obtain ⟨r, k, e1, e2, i2⟩ := this
 unfold basculelaw_GuardSees.run basculelaw_GuardSees.top
 have is := i2.s
 have a1 := i2.p1
 have a2 := i2.q1
 have a3 := i2.p2
 have a4 := i2.q2
 rw [e1, Option.bind_some, e2, Option.bind_some]
 simp only []
 rw [sameGuard_refl r (by omega) (by omega) (by omega) (by omega) (by omega) (by omega)]
 simp
abbrev BodyTyS : Ty := .pair (.int .i64) (.pair (.int .i64) (.pair (.int .i64) (.pair (.arr 32 (.int .u8)) (.pair (.int .i64) (.pair (.int .i64) (.pair (.sl (.int .u8)) .unit))))))
theorem bytS {l : List Int} (h : ∀ x ∈ l, Fit uptoK (.int .u8) x) : Byts l := fun b hb => by
 have : IntKind.u8.min <= b /\ b <= IntKind.u8.max := by simpa [Fit, inR] using h b hb
 rw [show IntKind.u8.min = 0 by decide, show IntKind.u8.max = 255 by decide] at this
 omega
theorem inv_of {g : GuardD} (h : Fit uptoK (Ty.pair (.arr 4 (.int .u64)) (.pair GateTy (.pair GateTy (.pair (.pair (.sl (.int .u8)) (.pair (.sl (.int .u8)) .unit)) (.pair (.sl BodyTyS) (.pair (.sl BodyTyS) .unit)))))) g) : Inv 2097152 g := by
 obtain ⟨_, ⟨_, _, _, ⟨a1, _⟩, ⟨a2, _⟩, _⟩, ⟨_, _, _, ⟨a3, _⟩, ⟨a4, _⟩, _⟩, ⟨⟨a5, _⟩, ⟨a6, _⟩, _⟩, ⟨a7, _, b7⟩, ⟨a8, _, b8⟩, _⟩ := h
 have a7 : g.2.2.2.2.1.length <= 1048576 := a7
 have a8 : g.2.2.2.2.2.1.length <= 1048576 := a8
 exact ⟨a1, a2, a3, a4, a5, a6, by omega, fun b hb => (b7 b hb).2.2.2.2.2.2.1.1, fun b hb => (b8 b hb).2.2.2.2.2.2.1.1⟩
theorem law_GuardSees (x : basculelaw_GuardSees.F.ps.den) (h : Fit uptoK basculelaw_GuardSees.F.ps x) : basculelaw_GuardSees.run x.1 x.2.1 = some true := by
 obtain ⟨g, l, ⟨⟩⟩ := x
 obtain ⟨h1, ⟨hl, _, hb⟩, _⟩ := h
 refine sees_all g l (inv_of h1) hl fun b hm => ?_
 obtain ⟨_, _, _, ⟨w1, w2⟩, _, _, ⟨w3, _, w4⟩, _⟩ := hb b hm
 exact ⟨w1, bytS w2, bytS w4, w3⟩
end Go.Bx
