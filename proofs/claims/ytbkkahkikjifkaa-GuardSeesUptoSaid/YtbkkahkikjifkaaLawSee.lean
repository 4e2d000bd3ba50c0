/- A part of a framework that reads Go code as functions of plain data; or a law about such functions. -/
import Derived.Test.YtbkkahkikjifkaaLawMeet
import Derived.Test.YtbkkahkikjifkaaFnGuardSees2
namespace Go.Bx
open Go
set_option linter.unusedSimpArgs false
set_option linter.unusedVariables false
set_option maxRecDepth 100000
theorem syncN {l : LogD} (h1 : l.1.length <= 1048576) (h2 : l.2.1.length <= 1048576) : log_Sync.run l = some (l.1 ++ l.2.1, [], ()) /\ basculeref_LogSynced.run l = some (l.1 ++ l.2.1, [], ()) := by
 constructor
 ·unfold log_Sync.run log_Sync.top
  rw [if_pos (fitB_small (by omega) (by decide)), if_pos (fitB_small (by omega) (by decide))]
 ·unfold basculeref_LogSynced.run basculeref_LogSynced.top
  rw [if_pos (ble_of (by omega))]
theorem rec_any (x : GuardD) (r : List Int) (hr : r.length <= 100000) (hb : ∀ b ∈ r, 0 <= b /\ b <= 255) :
  ∃ (y : GuardD) (e : Int), guard_kept.run x r = some (y, e, ()) /\ basculeref_logged.run x r = some (y, e == 0, ()) /\ (e = 0 -> ∃ l : LogD, y = (x.1, x.2.1, x.2.2.1, l, x.2.2.2.2) /\ l.1.length <= 1048576 /\ l.2.1.length <= 1048576) := by
 unfold guard_kept.run guard_kept.top basculeref_logged.run basculeref_logged.top
 rw [appended_run _ _ (by omega) hb, append_run _ _ (by omega)]
 by_cases c1 : x.2.2.2.1.1.length > 9000 \/ x.2.2.2.1.2.1.length > 9000
 ·simp only [if_pos c1]
  exact ⟨x, 12, rfl, rfl, fun h => absurd h (by decide)⟩
 ·rw [if_neg c1]
  by_cases c2 : r.length > 200
  ·rw [if_pos c2]
   exact ⟨x, 1, rfl, rfl, fun h => absurd h (by decide)⟩
  ·rw [if_neg c2]
   by_cases c3 : x.2.2.2.1.1.length + x.2.2.2.1.2.1.length + r.length + 3 > 9000
   ·rw [if_pos c3]
    exact ⟨x, 9, rfl, rfl, fun h => absurd h (by decide)⟩
   ·rw [if_neg c3]
    have hl := recText_len r
    obtain ⟨s1, s2⟩ := syncN (l := (x.2.2.2.1.1, x.2.2.2.1.2.1 ++ recText r, ())) (by simp only []; omega) (by simp only [List.length_append]; omega)
    simp only [Option.bind_some, bne_self_eq_false, Bool.false_eq_true, if_false]
    rw [s1, s2]
    exact ⟨_, 0, rfl, rfl, fun _ => ⟨(x.2.2.2.1.1 ++ (x.2.2.2.1.2.1 ++ recText r), [], ()), rfl, by simp only [List.length_append]; omega, by simp⟩⟩
structure Inv (T : Nat) (g : GuardD) : Prop where
 p1 : g.2.1.2.2.2.1.length <= 1048576
 q1 : g.2.1.2.2.2.2.1.length <= 1048576
 p2 : g.2.2.1.2.2.2.1.length <= 1048576
 q2 : g.2.2.1.2.2.2.2.1.length <= 1048576
 l1 : g.2.2.2.1.1.length <= 1048576
 l2 : g.2.2.2.1.2.1.length <= 1048576
 s : g.2.2.2.2.1.length + g.2.2.2.2.2.1.length <= T
 hb : ∀ b ∈ g.2.2.2.2.1, b.2.2.2.2.2.2.1.length <= 1048576
 db : ∀ b ∈ g.2.2.2.2.2.1, b.2.2.2.2.2.2.1.length <= 1048576
theorem Inv.small {T : Nat} {g : GuardD} (i : Inv T g) (hT : T <= 4000000) : SmallN g :=
 ⟨by have := i.p1; omega, by have := i.q1; omega, by have := i.p2; omega, by have := i.q2; omega, by have := i.l1; omega, by have := i.l2; omega, by have := i.s; omega, by have := i.s; omega, i.hb, i.db⟩
theorem Inv.more {T U : Nat} {g : GuardD} (i : Inv T g) (h : T <= U) : Inv U g := ⟨i.p1, i.q1, i.p2, i.q2, i.l1, i.l2, Nat.le_trans i.s h, i.hb, i.db⟩
theorem met_run (g : GuardD) (b : BodyD) {v : Int} (hw : guard_Worth.run b = some v) (hl : b.2.2.2.2.2.2.1.length <= 1048576) (hh : g.2.2.2.2.1.length <= 4000000) (hd : g.2.2.2.2.2.1.length <= 4000000) :
  ∃ (m : GuardD), guard_met_s1.run g.1 g.2.1.1 g.2.1.2.1 g.2.1.2.2.1 g.2.2.1.1 g.2.2.1.2.1 g.2.2.1.2.2.1 b g.2.1.2.2.2.1 g.2.1.2.2.2.2.1 g.2.2.1.2.2.2.1 g.2.2.1.2.2.2.2.1 g.2.2.2.1.1 g.2.2.2.1.2.1 g.2.2.2.2.1 g.2.2.2.2.2.1 =
   some (g.1, g.2.1.1, g.2.1.2.1, g.2.1.2.2.1, m.2.2.1, (offerR g.2.2.1 (idB b) v b.2.2.1).2.2.1, g.2.1.2.2.2.1, g.2.1.2.2.2.2.1, g.2.2.1.2.2.2.1, g.2.2.1.2.2.2.2.1, g.2.2.2.1.1, g.2.2.2.1.2.1, m.2.2.2.2.1, m.2.2.2.2.2.1, g.1, g.2.1.1, g.2.1.2.1, g.2.1.2.2.1, m.2.2.1, ()) /\
   ((offerR g.2.2.1 (idB b) v b.2.2.1).2.2.1 = 0 -> m = gateG g b (offerR g.2.2.1 (idB b) v b.2.2.1)) := by
 unfold guard_met_s1.run guard_met_s1.top
 rw [id_run, Option.bind_some, hw, Option.bind_some, show (g.2.2.1.1, g.2.2.1.2.1, g.2.2.1.2.2.1, g.2.2.1.2.2.2.1, g.2.2.1.2.2.2.2.1, ()) = g.2.2.1 from rfl, offer_run, Option.bind_some]
 unfold gateG
 generalize offerR g.2.2.1 (idB b) v b.2.2.1 = r
 by_cases he : r.2.2.1 = 0
 ·rw [if_neg (show ¬ (r.2.2.1 != 0) = true by simpa using he), bodyN_run b hl]
  simp only [Option.bind_some]
  unfold guard_met_s1.j0
  cases hr : r.2.1 with
  | true =>
   rw [if_pos rfl, if_pos (fitB_small (by omega) (by decide))]
   refine ⟨(g.1, g.2.1, r.1, g.2.2.2.1, g.2.2.2.2.1, g.2.2.2.2.2.1 ++ [b], ()), ?_, fun _ => rfl⟩
   rw [he]
  | false =>
   rw [if_neg (by decide), if_pos (fitB_small (by omega) (by decide))]
   refine ⟨(g.1, g.2.1, r.1, g.2.2.2.1, g.2.2.2.2.1 ++ [b], g.2.2.2.2.2.1, ()), ?_, fun _ => rfl⟩
   rw [he]
 ·rw [if_pos (show (r.2.2.1 != 0) = true by simpa using he)]
  exact ⟨g, rfl, fun h => absurd h he⟩
theorem bodyT_byt {b : BodyD} (hw : b.2.2.2.1.length = 32) (h1 : Byts b.2.2.2.1) (h2 : Byts b.2.2.2.2.2.2.1) (he : bodyE b = 0) : Byts (bodyT b) /\ (bodyT b).length <= 1000 := by
 obtain ⟨_, _, _, _, _, h6⟩ := bodyE_ok he
 refine ⟨fun c hc => ?_, ?_⟩
 ·unfold bodyT at hc
  simp only [List.mem_append] at hc
  rcases hc with hc | hc | hc | hc | hc | hc | hc
  ·exact be_rng _ _ c hc
  ·exact be_rng _ _ c hc
  ·exact be_rng _ _ c hc
  ·exact h1 c hc
  ·exact be_rng _ _ c hc
  ·exact be_rng _ _ c hc
  ·exact h2 c hc
 ·unfold bodyT; simp [be_len, hw]; omega
theorem meet_both {T : Nat} (hT : T <= 3999999) {g : GuardD} (i : Inv T g) (b : BodyD) (hw : b.2.2.2.1.length = 32) (h1 : Byts b.2.2.2.1) (h2 : Byts b.2.2.2.2.2.2.1) (hl : b.2.2.2.2.2.2.1.length <= 1048576) :
  ∃ (y : GuardD) (ok : Bool), guard_meet.run g b = some (y, ok, ()) /\ (ok = true -> Inv (T + 1) y) /\
   ((basculeref_meets.run g b = some (g, false, ()) /\ ok = false) \/ (∃ (x z : GuardD), basculeref_meets.run g b = some (x, true, ()) /\ basculeref_bodyText.run b = some (bodyT b) /\ (bodyT b).length <= 1000 /\ basculeref_logged.run x ([1] ++ bodyT b) = some (z, ok, ()) /\ (ok = true -> z = y))) := by
 have s := i.small (show T <= 4000000 by omega)
 have is := i.s
 obtain ⟨v, w1, w2⟩ := worth_both b h2 (by omega)
 have hm := meets_run g b s.h s.d (by omega) w2
 unfold guard_meet.run guard_meet.top guard_meeting_s0.run guard_meeting_s0.top
 rw [bytes_prog hw, Option.bind_some]
 by_cases he : bodyE b = 0
 ·obtain ⟨t1, t2⟩ := bodyT_byt hw h1 h2 he
  rw [if_pos he]
  simp only []
  rw [if_pos (fitB_small (by omega) (by decide)), Option.bind_some]
  simp only [bne_self_eq_false, cond_or, Bool.false_or]
  by_cases c1 : (decide (b.2.2.1 >= 3) || decide (b.2.2.2.2.1 >= 256)) = true
  ·have hmay : mayB g b = false := by
    unfold mayB
    rw [Bool.or_eq_true] at c1
    rcases c1 with c | c <;> rw [c] <;> simp
   rw [hmay] at hm
   rw [c1]
   exact ⟨g, false, rfl, fun h => absurd h (by decide), .inl ⟨by rw [hm]; simp, rfl⟩⟩
  ·have c1' : (decide (b.2.2.1 >= 3) || decide (b.2.2.2.2.1 >= 256)) = false := by simpa using c1
   rw [c1', if_pos (by decide), id_run, Option.bind_some, if_pos (by decide), knows_run g _ s.h s.d, Option.bind_some, Bool.false_or]
   have c3 := (Bool.or_eq_false_iff.1 c1')
   cases hk : hasId (idB b) (g.2.2.2.2.2.1 ++ g.2.2.2.2.1) with
   | true =>
    have hmay : mayB g b = false := by unfold mayB; rw [hk]; simp
    rw [hmay] at hm
    exact ⟨g, false, rfl, fun h => absurd h (by decide), .inl ⟨by rw [hm]; simp, rfl⟩⟩
   | false =>
    have hmay : mayB g b = true := by unfold mayB; rw [hk, c3.1, c3.2, he]; rfl
    rw [if_neg (by decide), freshN_run g s, Option.bind_some]
    obtain ⟨m, k1, k2⟩ := met_run g b w1 hl s.h s.d
    simp only []
    rw [k1, Option.bind_some]
    simp only []
    have hlen := offerR_len g.2.2.1 (idB b) v b.2.2.1
    by_cases ho : (offerR g.2.2.1 (idB b) v b.2.2.1).2.2.1 = 0
    ·have hmE := k2 ho
     rw [if_neg (show ¬ ((offerR g.2.2.1 (idB b) v b.2.2.1).2.2.1 != 0) = true by simpa using ho)]
     rw [if_pos ⟨hmay, ho⟩] at hm
     obtain ⟨y, e, r1, r2, r3⟩ := rec_any (gateG g b (offerR g.2.2.1 (idB b) v b.2.2.1)) ([1] ++ bodyT b) (by simp; omega) (fun c hc => by
      rcases List.mem_append.1 hc with hc | hc
      ·simp only [List.mem_cons, List.not_mem_nil, or_false] at hc; subst hc; decide
      ·have := t1 c hc; omega)
     have r1' : guard_kept.run (g.1, (g.2.1.1, g.2.1.2.1, g.2.1.2.2.1, g.2.1.2.2.2.1, g.2.1.2.2.2.2.1, ()), m.2.2.1, (g.2.2.2.1.1, g.2.2.2.1.2.1, ()), m.2.2.2.2.1, m.2.2.2.2.2.1, ()) ([1] ++ bodyT b) = some (y, e, ()) := by
      rw [hmE]; exact r1
     rw [r1', Option.bind_some]
     simp only []
     by_cases h0 : e = 0
     ·obtain ⟨l, rfl, l1, l2⟩ := r3 h0
      rw [if_neg (show ¬ (e != 0) = true by simpa using h0)]
      refine ⟨_, true, rfl, fun _ => ?_, .inr ⟨_, _, hm, bodyText_run b hw he, t2, by rw [r2, h0]; rfl, fun _ => rfl⟩⟩
      refine ⟨i.p1, i.q1, ?_, ?_, l1, l2, ?_, ?_, ?_⟩
      ·show (offerR g.2.2.1 (idB b) v b.2.2.1).1.2.2.2.1.length <= 1048576; omega
      ·show (offerR g.2.2.1 (idB b) v b.2.2.1).1.2.2.2.2.1.length <= 1048576; omega
      ·unfold gateG
       cases (offerR g.2.2.1 (idB b) v b.2.2.1).2.1 <;> simp <;> omega
      ·unfold gateG
       cases (offerR g.2.2.1 (idB b) v b.2.2.1).2.1 with
       | true => exact i.hb
       | false =>
        intro c hc
        rcases List.mem_append.1 hc with hc | hc
        ·exact i.hb c hc
        ·simp only [List.mem_cons, List.not_mem_nil, or_false] at hc; subst hc; exact hl
      ·unfold gateG
       cases (offerR g.2.2.1 (idB b) v b.2.2.1).2.1 with
       | true =>
        intro c hc
        rcases List.mem_append.1 hc with hc | hc
        ·exact i.db c hc
        ·simp only [List.mem_cons, List.not_mem_nil, or_false] at hc; subst hc; exact hl
       | false => exact i.db
     ·rw [if_pos (show (e != 0) = true by simpa using h0)]
      refine ⟨g, false, rfl, fun h => absurd h (by decide), .inr ⟨_, y, hm, bodyText_run b hw he, t2, ?_, fun h => absurd h (by decide)⟩⟩
      rw [r2, show (e == 0) = false by simpa using h0]
    ·rw [if_pos (show ((offerR g.2.2.1 (idB b) v b.2.2.1).2.2.1 != 0) = true by simpa using ho)]
     rw [if_neg (fun h => ho h.2)] at hm
     exact ⟨g, false, rfl, fun h => absurd h (by decide), .inl ⟨hm, rfl⟩⟩
 ·rw [if_neg he]
  simp only []
  rw [if_pos (fitB_small (by simp) (by decide)), Option.bind_some]
  have hne : (bodyE b != 0) = true := by simpa using he
  simp only [hne, cond_true]
  have hmay : mayB g b = false := by unfold mayB; rw [hne]; simp
  rw [hmay] at hm
  exact ⟨g, false, rfl, fun h => absurd h (by decide), .inl ⟨by rw [hm]; simp, rfl⟩⟩
end Go.Bx
