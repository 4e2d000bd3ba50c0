/- Laws about functions of plain data, in plain Lean. -/
import Derived.Test.YtbkkahkikjifkaaLawsGuardAgains2
import Derived.Test.YtbkkahkikjifkaaLawsGuardAgains0
import Derived.Test.YtbkkahkikjifkaaFnGuardAgains2
namespace Go.Bx
open Go
set_option linter.unusedSimpArgs false
set_option linter.unusedVariables false
set_option maxRecDepth 100000
theorem gate1 (r : List Int) (p : Bool) (h : p = true -> 0 < r.length) : (decide (0 <= (0 : Int) /\ (0 : Int) < (r.length : Int)) || !(p == true)) = true := by
 cases p with
 | false => simp
 | true =>
  have := h rfl
  rw [show decide (0 <= (0 : Int) /\ (0 : Int) < (r.length : Int)) = true by rw [decide_eq_true_eq]; omega]
  rfl
theorem three {r : List Int} (h : r.length = 3) : r = [r.getD 0 0, r.getD 1 0, r.getD 2 0] := by
 match r, h with
 | [a, b, c], _ => rfl
def AllSmall (r : GuardD) : Prop := r.2.1.2.2.2.1.length <= 4000000 /\ r.2.1.2.2.2.2.1.length <= 4000000 /\ r.2.2.1.2.2.2.1.length <= 4000000 /\ r.2.2.1.2.2.2.2.1.length <= 4000000 /\ r.2.2.2.2.1.length <= 4000000 /\ r.2.2.2.2.2.1.length <= 4000000
def zeroG : GuardD := ([0, 0, 0, 0], ([0, 0, 0], [0, 0, 0], 0, [], [], ()), ([0, 0, 0], [0, 0, 0], 0, [], [], ()), ([], [], ()), [], [], ())
theorem zeroG_small : AllSmall zeroG := by unfold AllSmall zeroG; simp
theorem again_loop (K L : Nat) (c : LogD) (hc1 : c.1.length <= 4000000) (hc2 : c.2.1.length <= 4000000) (q0 q10 q11 : List Int) (q12 : Int) (q20 q21 : List Int) (q22 : Int) (l : List (List Int)) (hl : l.length <= 1500000) (hr : ∀ r ∈ l, r.length <= 200 /\ Byts r) : ∀ (R P : List (List Int)) (n : Nat) (g : GuardD), R.length < n -> l = P ++ R -> InvA P.length g ->
  ∃ (r : GuardD) (e : Int), guard_Again.l0 K (fun f k => some (k, f, ())) (fun m o t u v w y z I J M N O Q S U V W X => guard_Again.j1 (fun f k => some (k, f, ())) m o t u v w y z I J M N O Q S U V W X) n l (l.length : Int) (P.length : Int) c q0 q10 q11 q12 q20 q21 q22 g.1 g.2.1.1 g.2.1.2.1 g.2.1.2.2.1 g.2.2.1 g.2.2.2.1.1 g.2.2.2.1.2.1 g.2.1.2.2.2.1 g.2.1.2.2.2.2.1 g.2.2.2.2.2.1 g.2.2.2.2.1 = some (r, e, ()) /\
   basculeref_GuardAgain.l0 L (fun f k => some (k, f, ())) (fun m o t u v w y z Y => basculeref_GuardAgain.j1 (fun f k => some (k, f, ())) m o t u v w y z Y) n l (l.length : Int) (P.length : Int) c q0 q10 q11 q12 q20 q21 q22 g = some (r, e, ()) /\ AllSmall r
 | R, P, 0, g, h, _, _ => by omega
 | [], P, n + 1, g, h, hc, i => by
  simp only [guard_Again.l0, guard_Again.l0s, basculeref_GuardAgain.l0, basculeref_GuardAgain.l0s]
  have hpl : l.length = P.length := by rw [hc]; simp
  rw [if_neg (by rw [decide_eq_true_eq]; omega), if_neg (by rw [decide_eq_true_eq]; omega)]
  simp only [guard_Again.j1, basculeref_GuardAgain.j1]
  have is := i.s
  have i1 := i.p1
  have i2 := i.q1
  have i3 := i.p2
  have i4 := i.q2
  have s : SmallN (g.1, g.2.1, g.2.2.1, c, g.2.2.2.2.1, g.2.2.2.2.2.1, ()) := ⟨Nat.le_trans i1 (by omega), Nat.le_trans i2 (by omega), Nat.le_trans i3 (by omega), Nat.le_trans i4 (by omega), hc1, hc2, Nat.le_trans (show g.2.2.2.2.1.length <= 1500000 by omega) (by omega), Nat.le_trans (show g.2.2.2.2.2.1.length <= 1500000 by omega) (by omega), i.hb, i.db⟩
  have hf := freshP_run _ s
  rw [show (g.1, (g.2.1.1, g.2.1.2.1, g.2.1.2.2.1, g.2.1.2.2.2.1, g.2.1.2.2.2.2.1, ()), g.2.2.1, c, g.2.2.2.2.1, g.2.2.2.2.2.1, ()) = (g.1, g.2.1, g.2.2.1, c, g.2.2.2.2.1, g.2.2.2.2.2.1, ()) from rfl, hf, Option.bind_some]
  exact ⟨_, 0, rfl, rfl, s.p1, s.q1, s.p2, s.q2, s.h, s.d⟩
 | r :: R, P, n + 1, g, h, hc, i => by
  have hlen : l.length = P.length + (R.length + 1) := by rw [hc]; simp
  have hg : l.getD P.length [] = r := by rw [hc]; exact getD_at _ _ _ _
  obtain ⟨r1, r2⟩ := hr r (by rw [hc]; simp)
  have B : decide ((P.length : Int) < (l.length : Int)) = true := by rw [decide_eq_true_eq]; omega
  have E : 0 <= (P.length : Int) /\ (P.length : Int) < (l.length : Int) := by omega
  have ih := fun g i => again_loop K L c hc1 hc2 q0 q10 q11 q12 q20 q21 q22 l hl hr R (P ++ [r]) n g (by simpa using h) (by simp [hc]) i
  rw [List.length_append] at ih
  have stop : ∃ (r : GuardD) (e : Int), (some (zeroG, (12 : Int), ()) : Option (GuardD × Int × Unit)) = some (r, e, ()) /\ (some (zeroG, (12 : Int), ()) : Option (GuardD × Int × Unit)) = some (r, e, ()) /\ AllSmall r := ⟨zeroG, 12, rfl, rfl, zeroG_small⟩
  simp only [guard_Again.l0, guard_Again.l0s, basculeref_GuardAgain.l0, basculeref_GuardAgain.l0s]
  rw [if_pos B, if_pos E, if_pos B, if_pos E, toNat_nat, hg]
  rw [gate1 r _ (fun hp => by simp at hp; omega), gate1 r _ (fun hp => by simp at hp; omega)]
  simp only [cond_true]
  have hi : InvA (P.length + 1) g := ⟨i.p1, i.q1, i.p2, i.q2, Nat.le_trans i.s (by omega), i.hb, i.db, i.nd⟩
  have dB : ∀ j, 0 <= r.getD j 0 /\ r.getD j 0 <= 255 := fun j => by
   by_cases hj : j < r.length
   ·have := r2 (r.getD j 0) (by rw [getD_nat hj]; exact List.getElem_mem hj)
    omega
   ·rw [List.getD_eq_getElem?_getD, List.getElem?_eq_none (by omega)]; simp
  by_cases cA : r.length = 3 /\ r.getD 0 0 = 2
  ·have ha : (cond ((r.length : Int) == 3) (r.getD 0 0 == 2) false) = true := by
    rw [cA.2, cA.1]; rfl
   have hb : ¬ (cond (decide ((r.length : Int) > 0)) (r.getD 0 0 == 1) false) = true := by
    rw [cA.2, cA.1]; decide
   have hcut : cutL r 1 (r.length : Int) = [r.getD 1 0, r.getD 2 0] := by
    rw [cA.1]
    have := three cA.1
    generalize r.getD 0 0 = a at this
    generalize r.getD 1 0 = b at this ⊢
    generalize r.getD 2 0 = d at this ⊢
    rw [this]; rfl
   rw [if_pos ha, if_neg hb, if_pos ha, if_pos (by omega), if_pos (by omega), if_pos (by omega), len2 (dB 1) (dB 2), hcut, number2 _ _ (dB 1) (dB 2), Option.bind_some]
   obtain ⟨x, H, D, e, k1, k2, k3⟩ := pass_both (T := P.length + 1) (by omega) hi (r.getD 1 0 * 256 + r.getD 2 0)
   rw [k1, Option.bind_some, k2, Option.bind_some]
   simp only [guard_Again.j0, basculeref_GuardAgain.j0]
   by_cases he : e = 0
   ·subst he
    simp only [bne_self_eq_false, BEq.rfl, Bool.not_true, Bool.false_eq_true, if_false]
    rw [i64_succ (by omega)]
    exact ih _ k3
   ·rw [if_pos (show (e != 0) = true by simpa using he), if_pos (show (!(e == 0)) = true by simpa using he)]
    exact stop
  ·have ha : ¬ (cond ((r.length : Int) == 3) (r.getD 0 0 == 2) false) = true := by
    rw [cond_and, Bool.and_eq_true, beq_iff_eq, beq_iff_eq]
    intro hh; exact cA ⟨by omega, hh.2⟩
   rw [if_neg ha]
   by_cases cB : 0 < r.length /\ r.getD 0 0 = 1
   ·have hb : (cond (decide ((r.length : Int) > 0)) (r.getD 0 0 == 1) false) = true := by
     rw [cond_and, Bool.and_eq_true, beq_iff_eq, decide_eq_true_eq]
     exact ⟨by omega, cB.2⟩
    have hcl := cutL_len r 1 (r.length : Int)
    rw [if_pos hb, if_pos hb, if_pos (by omega), if_pos (fitB_small (by omega) (by decide)), if_pos (by omega), if_pos (ble_le (by omega))]
    have hby : Byts ([1, 0, 0, 0, 0, 0] ++ cutL r 1 (r.length : Int)) := fun x hx => by
     rcases List.mem_append.1 hx with hx | hx
     ·simp only [List.mem_cons, List.not_mem_nil, or_false] at hx
      rcases hx with rfl | rfl | rfl | rfl | rfl | rfl <;> decide
     ·unfold cutL at hx
      exact r2 x (List.mem_of_mem_drop (List.mem_of_mem_take hx))
    have hpl : ([1, 0, 0, 0, 0, 0] ++ cutL r 1 (r.length : Int)).length <= 140737488351232 := by
     rw [List.length_append]; simp only [List.length_cons, List.length_nil]; omega
    have hok := decP_ok _ hby
    rw [decode_run _ hby hpl, Option.bind_some, of_run _ hby hpl, Option.bind_some]
    generalize decP ([1, 0, 0, 0, 0, 0] ++ cutL r 1 (r.length : Int)) = p at hok ⊢
    by_cases hp : p.2.1 = 0
    ·obtain ⟨ho, hbl⟩ := hok hp
     rw [if_pos (show (p.2.1 == 0) = true by simpa using hp)]
     generalize hb1 : p.1.2.2.1 = b at ho hbl ⊢
     have hm := met_both (T := P.length) (by omega) i b ho hbl
     have is := i.s
     simp only [hp, bne_self_eq_false, cond_or, Bool.false_or]
     cases A : (decide (b.2.2.1 >= 3) || decide (b.2.2.2.2.1 >= 256)) with
     | true =>
      have hmay : mayB g b = false := by
       unfold mayB
       rw [Bool.or_eq_true] at A
       rcases A with q | q <;> rw [q] <;> simp
      rw [hm.1 hmay]
      exact stop
     | false =>
      have G := Bool.or_eq_false_iff.1 A
      rw [if_pos (by decide), id_run, Option.bind_some, if_pos (by decide)]
      rw [show (g.1, (g.2.1.1, g.2.1.2.1, g.2.1.2.2.1, g.2.1.2.2.2.1, g.2.1.2.2.2.2.1, ()), g.2.2.1, (g.2.2.2.1.1, g.2.2.2.1.2.1, ()), g.2.2.2.2.1, g.2.2.2.2.2.1, ()) = g from rfl]
      rw [knows_run g _ (by omega) (by omega), Option.bind_some, Bool.false_or]
      cases hk : hasId (idB b) (g.2.2.2.2.2.1 ++ g.2.2.2.2.1) with
      | true =>
       have hmay : mayB g b = false := by unfold mayB; rw [hk]; simp
       rw [hm.1 hmay]
       exact stop
      | false =>
       have hmay : mayB g b = true := by unfold mayB; rw [hk, G.1, G.2, ho]; rfl
       obtain ⟨x, H, D, e, k1, k2⟩ := hm.2 hmay
       rw [if_neg (by decide), k1, Option.bind_some]
       simp only [guard_Again.j0]
       rcases k2 with ⟨he, k2⟩ | ⟨he, k2, k3⟩
       ·rw [if_pos (show (e != 0) = true by simpa using he), k2]
        exact stop
       ·rw [if_neg (show ¬ (e != 0) = true by simpa using he), k2, Option.bind_some]
        simp only [basculeref_GuardAgain.j0, Bool.not_true, Bool.false_eq_true, if_false]
        rw [i64_succ (by omega)]
        exact ih _ k3
    ·rw [if_neg (show ¬ (p.2.1 == 0) = true by simpa using hp)]
     have hne : (p.2.1 != 0) = true := by simpa using hp
     simp only [hne, cond_true]
     exact stop
   ·have hb : ¬ (cond (decide ((r.length : Int) > 0)) (r.getD 0 0 == 1) false) = true := by
     rw [cond_and, Bool.and_eq_true, beq_iff_eq, decide_eq_true_eq]
     intro hh; exact cB ⟨by omega, hh.2⟩
    rw [if_neg hb, if_neg hb, if_neg ha]
    exact stop
theorem begin_s0 (s : List Int) (g : GateD) : guard_Begin_s0.run s g = some (if gateE g = 0 then (s, g.1, g.2.1, g.2.2.1, g.1, g.2.1, g.2.2.1, 0, s, g.1, g.2.1, g.2.2.1, g.1, g.2.1, g.2.2.1, [], [], g.2.2.2.1, g.2.2.2.2.1, g.2.2.2.1, g.2.2.2.2.1, [], [], ())
  else ([0, 0, 0, 0], [0, 0, 0], [0, 0, 0], 0, [0, 0, 0], [0, 0, 0], 0, gateE g, [0, 0, 0, 0], [0, 0, 0], [0, 0, 0], 0, [0, 0, 0], [0, 0, 0], 0, [], [], [], [], [], [], [], [], ())) := by
 unfold guard_Begin_s0.run guard_Begin_s0.top
 rw [gate_check, Option.bind_some]
 by_cases he : gateE g = 0
 ·obtain ⟨k1, k2, _⟩ := gateE_ok he
  have hq : ∀ l : List QD, l.length <= 1000 -> guard_fresh_1_s0.run l = some (l, ()) := fun l hl => by
   unfold guard_fresh_1_s0.run guard_fresh_1_s0.top
   rw [if_pos (fitB_small (by omega) (by omega))]
  have hb : guard_bodies_s1.run [] = some ([], ()) := by
   unfold guard_bodies_s1.run guard_bodies_s1.top
   have : ∀ (k n : Nat), guard_bodies_s1.l0 (α := List BodyD × Unit) k (fun a => guard_bodies_s1.j0 (fun a => some (a, ())) a) (n + 1) [] 0 0 [] = some ([], ()) := fun k n => by
    simp only [guard_bodies_s1.l0, guard_bodies_s1.l0s]
    rfl
   exact this fuel 18446744073709551615
  rw [if_neg (show ¬ (gateE g != 0) = true by simpa using he), if_pos he]
  unfold guard_fresh_s1.run guard_fresh_s1.top
  simp only [hq g.2.2.2.1 (by omega), hq g.2.2.2.2.1 (by omega), hb, Option.bind_some, List.length_nil]
  rw [if_pos (fitB_small (by omega) (by omega)), if_pos (fitB_small (by omega) (by omega)), Option.bind_some]
 ·rw [if_pos (show (gateE g != 0) = true by simpa using he), if_neg he]
theorem again_both (s : List Int) (f : GateD) (l : LogD) (h1 : l.1.length + l.2.1.length <= 4000000) (b1 : Byts l.1) (b2 : Byts l.2.1) :
  ∃ (r : GuardD) (e : Int), guard_Again.run s f l = some (r, e, ()) /\ basculeref_GuardAgain.run s f l = some (r, e, ()) /\ AllSmall r := by
 unfold guard_Again.run guard_Again.top basculeref_GuardAgain.run basculeref_GuardAgain.top basculeref_GuardBegun.run basculeref_GuardBegun.top
 rw [begin_s0, gate_fault, Option.bind_some, Option.bind_some]
 by_cases he : gateE f = 0
 ·obtain ⟨k1, k2, _⟩ := gateE_ok he
  have a : ∀ b ∈ l.1, 0 <= b /\ b <= 255 := fun b hb => by have := b1 b hb; omega
  have c : ∀ b ∈ l.2.1, 0 <= b /\ b <= 255 := fun b hb => by have := b2 b hb; omega
  obtain ⟨m, e, m1, m2, m3, m4⟩ := mend_both l h1 a c
  simp only [he, if_true, bne_self_eq_false, Bool.false_eq_true, if_false, Option.bind_some]
  rw [m1, Option.bind_some, m2, Option.bind_some]
  by_cases he2 : e = 0
  ·subst he2
   simp only [bne_self_eq_false, Bool.false_eq_true, if_false]
   have d1 : ∀ b ∈ m, 0 <= b /\ b <= 255 := fun b hb => a b (m4 b hb)
   have d0 : ((m, [], ()) : LogD).1.length + ((m, [], ()) : LogD).2.1.length <= 4000000 := by show m.length + 0 <= 4000000; omega
   have o := open_run (m, [], ()) d0 d1 (fun b hb => absurd hb (by simp))
   rw [records_run (m, [], ()) d0 d1 (fun b hb => absurd hb (by simp)), o, Option.bind_some, Option.bind_some]
   have hle := (recs_le (m ++ []).length (m ++ [])).2
   have hlm : (m ++ ([] : List Int)).length = m.length := by simp
   have hfine := recs_fine (m ++ []).length (m ++ []) (fun x hx => d1 x (by simpa using hx))
   simp only [] at hle hfine ⊢
   generalize (recs (m ++ []).length (m ++ [])).1 = all at hle hfine ⊢
   exact again_loop fuel fuel (m, [], ()) (show m.length <= 4000000 by omega) (by simp) [0, 0, 0, 0] [0, 0, 0] [0, 0, 0] 0 [0, 0, 0] [0, 0, 0] 0 all (by omega) hfine all [] fuel (s, f, f, ([], [], ()), [], [], ()) (by rw [fuel_big]; omega) rfl
    ⟨Nat.le_trans k1 (by omega), Nat.le_trans k2 (by omega), Nat.le_trans k1 (by omega), Nat.le_trans k2 (by omega), by simp, by simp, by simp, by simp⟩
  ·rw [if_pos (show (e != 0) = true by simpa using he2), if_pos (show (e != 0) = true by simpa using he2)]
   exact ⟨zeroG, e, rfl, rfl, zeroG_small⟩
 ·simp only [if_neg he, show (gateE f != 0) = true by simpa using he, if_true, Option.bind_some]
  exact ⟨zeroG, gateE f, rfl, rfl, zeroG_small⟩
end Go.Bx
namespace Go.Bx
open Go
set_option linter.unusedSimpArgs false
set_option linter.unusedVariables false
theorem again_same {r : GuardD} (h : AllSmall r) : basculelaw_sameGuard.run r r = some true := by
 obtain ⟨h1, h2, h3, h4, h5, h6⟩ := h
 exact sameGuard_refl r (by omega) (by omega) (by omega) (by omega) (by omega) (by omega)
theorem bytA {l : List Int} (h : ∀ x ∈ l, Fit uptoK (.int .u8) x) : Byts l := fun b hb => by
 have : IntKind.u8.min <= b /\ b <= IntKind.u8.max := by simpa [Fit, inR] using h b hb
 rw [show IntKind.u8.min = 0 by decide, show IntKind.u8.max = 255 by decide] at this
 omega
theorem law_GuardAgains (x : basculelaw_GuardAgains.F.ps.den) (h : Fit uptoK basculelaw_GuardAgains.F.ps x) : basculelaw_GuardAgains.run x.1 x.2.1 x.2.2.1 = some true := by
 obtain ⟨s, f, l, ⟨⟩⟩ := x
 obtain ⟨_, _, ⟨⟨a1, _, a⟩, ⟨a2, _, b⟩, _⟩, _⟩ := h
 have a1 : l.1.length <= 1048576 := a1
 have a2 : l.2.1.length <= 1048576 := a2
 obtain ⟨r, e, h1, h2, h3⟩ := again_both s f l (by omega) (bytA a) (bytA b)
 unfold basculelaw_GuardAgains.run basculelaw_GuardAgains.top
 rw [h1, Option.bind_some, h2, Option.bind_some, again_same h3, Option.bind_some]
 simp
end Go.Bx
