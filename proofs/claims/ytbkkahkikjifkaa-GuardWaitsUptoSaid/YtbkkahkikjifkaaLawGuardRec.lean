/- A part of a framework that reads Go code as functions of plain data; or a law about such functions. -/
import Derived.Test.YtbkkahkikjifkaaLawGuardMove
import Derived.Test.YtbkkahkikjifkaaLawGuardFresh
import Derived.Test.YtbkkahkikjifkaaLawTickBoth
import Derived.Test.YtbkkahkikjifkaaLawLogApp
import Derived.Test.YtbkkahkikjifkaaFnGuardWaits0
import Derived.Test.YtbkkahkikjifkaaLawByte
namespace Go.Bx
open Go
set_option linter.unusedSimpArgs false
set_option linter.unusedVariables false
theorem syncS {l : LogD} (h1 : l.1.length <= 1048576) (h2 : l.2.1.length <= 1048576) : log_Sync.run l = some (l.1 ++ l.2.1, [], ()) /\ basculeref_LogSynced.run l = some (l.1 ++ l.2.1, [], ()) := by
 constructor
 ·unfold log_Sync.run log_Sync.top
  rw [if_pos (fitB_small (by omega) (by decide)), if_pos (fitB_small (by omega) (by decide))]
 ·unfold basculeref_LogSynced.run basculeref_LogSynced.top
  rw [if_pos (ble_of (by omega))]
def recE (l : LogD) (r : List Int) : Int := if l.1.length > 9000 \/ l.2.1.length > 9000 then 12 else if l.1.length + l.2.1.length + r.length + 3 > 9000 then 9 else 0
def recL (l : LogD) (r : List Int) : LogD := (l.1 ++ (l.2.1 ++ recText r), [], ())
def recG (x : GuardD) (r : List Int) : GuardD := if recE x.2.2.2.1 r = 0 then (x.1, x.2.1, x.2.2.1, recL x.2.2.2.1 r, x.2.2.2.2) else x
theorem recE_cases (l : LogD) (r : List Int) : (recE l r = 12 /\ (l.1.length > 9000 \/ l.2.1.length > 9000)) \/ (recE l r = 9 /\ ¬ (l.1.length > 9000 \/ l.2.1.length > 9000)) \/ (recE l r = 0 /\ ¬ (l.1.length > 9000 \/ l.2.1.length > 9000)) := by
 unfold recE
 by_cases c1 : l.1.length > 9000 \/ l.2.1.length > 9000
 ·rw [if_pos c1]; exact .inl ⟨rfl, c1⟩
 ·rw [if_neg c1]
  split
  ·exact .inr (.inl ⟨rfl, c1⟩)
  ·exact .inr (.inr ⟨rfl, c1⟩)
theorem rec_both (x : GuardD) (r : List Int) (hr : r.length <= 200) (hb : ∀ b ∈ r, 0 <= b /\ b <= 255) :
  guard_kept.run x r = some (recG x r, recE x.2.2.2.1 r, ()) /\ basculeref_logged.run x r = some (recG x r, recE x.2.2.2.1 r == 0, ()) := by
 unfold guard_kept.run guard_kept.top basculeref_logged.run basculeref_logged.top recG recE
 rw [appended_run _ _ (by omega) hb, append_run _ _ (by omega)]
 by_cases c1 : x.2.2.2.1.1.length > 9000 \/ x.2.2.2.1.2.1.length > 9000
 ·simp only [if_pos c1]
  exact ⟨rfl, rfl⟩
 ·rw [if_neg c1, if_neg (show ¬ r.length > 200 by omega), if_neg c1]
  by_cases c3 : x.2.2.2.1.1.length + x.2.2.2.1.2.1.length + r.length + 3 > 9000
  ·rw [if_pos c3, if_pos c3]
   exact ⟨rfl, rfl⟩
  ·rw [if_neg c3, if_neg c3]
   have hl := recText_len r
   obtain ⟨s1, s2⟩ := syncS (l := (x.2.2.2.1.1, x.2.2.2.1.2.1 ++ recText r, ())) (by simp only []; omega) (by simp only [List.length_append]; omega)
   simp only [Option.bind_some, bne_self_eq_false, Bool.false_eq_true, if_false]
   rw [s1, s2]
   exact ⟨rfl, rfl⟩
theorem hours_run (n : Int) : guard_hours.run n = some ([2] ++ be n 2) := by
 unfold guard_hours.run guard_hours.top
 have h8 : IntKind.u8.wrap (shrI .i64 n 8) = byt n 8 := shr_byt .i64 n 8 (by simp [IntKind.bits])
 rw [h8, u8_byt]
 rfl
theorem be_u64 (n : Int) : be (IntKind.u64.wrap n) 2 = be n 2 := by
 have hw : IntKind.u64.wrap n = n % 18446744073709551616 := by simp [IntKind.wrap, IntKind.signed, IntKind.bits]
 have h0 : byt (n % 18446744073709551616) 0 = byt n 0 := by unfold byt; simp <;> omega
 have h8 : byt (n % 18446744073709551616) 8 = byt n 8 := by unfold byt; simp <;> omega
 rw [hw]
 show [byt (n % 18446744073709551616) 8, byt (n % 18446744073709551616) 0] = [byt n 8, byt n 0]
 rw [h0, h8]
theorem passed_run (g : GuardD) (n : Int) (hH : g.2.2.2.2.1.length + g.2.2.2.2.2.1.length <= 3000000) {x : GateD} {ids : List Int} {e : Int} (ht : gate_Tick.run g.2.2.1 n = some (x, ids, e, ())) (hi : ids.length <= 80) :
  guard_passed_s1.run g.1 g.2.1.1 g.2.1.2.1 g.2.1.2.2.1 g.2.2.1.1 g.2.2.1.2.1 g.2.2.1.2.2.1 n g.2.1.2.2.2.1 g.2.1.2.2.2.2.1 g.2.2.1.2.2.2.1 g.2.2.1.2.2.2.2.1 g.2.2.2.1.1 g.2.2.2.1.2.1 g.2.2.2.2.1 g.2.2.2.2.2.1 =
   if e = 0 then some (g.1, g.2.1.1, g.2.1.2.1, g.2.1.2.2.1, x, (mv ids g.2.2.2.2.1 g.2.2.2.2.2.1).1, 0, g.2.1.2.2.2.1, g.2.1.2.2.2.2.1, g.2.2.1.2.2.2.1, g.2.2.1.2.2.2.2.1, g.2.2.2.1.1, g.2.2.2.1.2.1, g.2.2.2.2.1, (mv ids g.2.2.2.2.1 g.2.2.2.2.2.1).2, g.1, g.2.1.1, g.2.1.2.1, g.2.1.2.2.1, x, (mv ids g.2.2.2.2.1 g.2.2.2.2.2.1).1, ())
   else some (g.1, g.2.1.1, g.2.1.2.1, g.2.1.2.2.1, g.2.2.1, g.2.2.2.2.1, e, g.2.1.2.2.2.1, g.2.1.2.2.2.2.1, g.2.2.1.2.2.2.1, g.2.2.1.2.2.2.2.1, g.2.2.2.1.1, g.2.2.2.1.2.1, g.2.2.2.2.1, g.2.2.2.2.2.1, g.1, g.2.1.1, g.2.1.2.1, g.2.1.2.2.1, g.2.2.1, g.2.2.2.2.1, ()) := by
 unfold guard_passed_s1.run guard_passed_s1.top
 rw [show (g.2.2.1.1, g.2.2.1.2.1, g.2.2.1.2.2.1, g.2.2.1.2.2.2.1, g.2.2.1.2.2.2.2.1, ()) = g.2.2.1 from rfl, ht, Option.bind_some]
 simp only []
 by_cases he : e = 0
 ·rw [if_neg (show ¬ (e != 0) = true by simpa using he), if_pos he]
  have := moved_out (α := List Int × List Int × List Int × Int × GateD × List BodyD × Int × List QD × List QD × List QD × List QD × List Int × List Int × List BodyD × List BodyD × List Int × List Int × List Int × Int × GateD × List BodyD × Unit) fuel ids g.2.1.2.2.2.1 g.2.1.2.2.2.2.1 g.2.2.1.2.2.2.1 g.2.2.1.2.2.2.2.1 g.2.2.2.1.1 g.2.2.2.1.2.1 g.2.2.2.2.1 g.1 g.2.1.1 g.2.1.2.1 g.2.1.2.2.1 x [0, 0, 0, 0] [0, 0, 0] [0, 0, 0] 0 [0, 0, 0] [0, 0, 0] 0
   (fun c0 c1 c2 c3 c4 c5 c6 c7 c10p0 c10p1p0 c10p1p1 c10p1p2 c10p2 c10p4 c12p0 c12p1p0 c12p1p1 c12p1p2 c12p2p0 c12p2p1 c12p2p2 => guard_passed_s1.j1 (fun x5 c0 c1 c2 c3 c4 c5 c6 c7 c12p0 c12p1p0 c12p1p1 c12p1p2 c12p2 c12p4 => some (c12p0, c12p1p0, c12p1p1, c12p1p2, c12p2, c12p4, x5, c0, c1, c2, c3, c4, c5, c6, c7, c12p0, c12p1p0, c12p1p1, c12p1p2, c12p2, c12p4, ())) c0 c1 c2 c3 c4 c5 c6 c7 c10p0 c10p1p0 c10p1p1 c10p1p2 c10p2 c10p4 c12p0 c12p1p0 c12p1p1 c12p1p2 c12p2p0 c12p2p1 c12p2p2)
   (by rw [fuel_big]; omega) (by omega) ids [] fuel g.2.2.2.2.1 g.2.2.2.2.2.1 (by rw [fuel_big]; omega) rfl hH
  exact this
 ·rw [if_pos (show (e != 0) = true by simpa using he), if_neg he]
theorem waits_run (g : GuardD) (n : Int) (hH : g.2.2.2.2.1.length + g.2.2.2.2.2.1.length <= 3000000) {x : GateD} {ids : List Int} {e : Int} (ht : basculeref_Ticked.run g.2.2.1 n = some (x, ids, e, ())) (hi : ids.length <= 80) :
  basculeref_waits.run g n = if e = 0 then some ((g.1, g.2.1, x, g.2.2.2.1, (mvR ids g.2.2.2.2.1 g.2.2.2.2.2.1).1, (mvR ids g.2.2.2.2.1 g.2.2.2.2.2.1).2, ()), 0, ()) else some (g, e, ()) := by
 unfold basculeref_waits.run basculeref_waits.top
 rw [ht, Option.bind_some]
 simp only []
 by_cases he : e = 0
 ·rw [if_neg (show ¬ (e != 0) = true by simpa using he), if_pos he, if_pos (fitB_small (by omega) (by decide))]
  have := movedR_out fuel ids [0, 0, 0, 0] [0, 0, 0] [0, 0, 0] 0 [0, 0, 0] [0, 0, 0] 0 (fun c2 c4p0 c4p1p0 c4p1p1 c4p1p2 c4p2p0 c4p2p1 c4p2p2 c32 => basculeref_waits.j3 (fun x5 c4 => some (c4, x5, ())) c2 c4p0 c4p1p0 c4p1p1 c4p1p2 c4p2p0 c4p2p1 c4p2p2 c32)
   (by rw [fuel_big]; omega) (by omega) g.1 g.2.1 x g.2.2.2.1 g.2.2.2.2.2.1 ids [] fuel g.2.2.2.2.1 g.2.2.2.2.2.1 (by rw [fuel_big]; omega) rfl hH
  exact this
 ·rw [if_pos (show (e != 0) = true by simpa using he), if_neg he]
end Go.Bx
