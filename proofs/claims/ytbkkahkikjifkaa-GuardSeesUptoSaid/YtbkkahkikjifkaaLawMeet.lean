/- A part of a framework that reads Go code as functions of plain data; or a law about such functions. -/
import Derived.Test.YtbkkahkikjifkaaLawGuardFreshN
import Derived.Test.YtbkkahkikjifkaaLawGuardMove
import Derived.Test.YtbkkahkikjifkaaLawOfferBoth
import Derived.Test.YtbkkahkikjifkaaLawWorth
import Derived.Test.YtbkkahkikjifkaaLawBodyBytes
import Derived.Test.YtbkkahkikjifkaaLawLogApp
import Derived.Test.YtbkkahkikjifkaaFnGuardSees1
namespace Go.Bx
open Go
set_option linter.unusedSimpArgs false
set_option linter.unusedVariables false
set_option maxRecDepth 100000
def hasId (id : Int) (l : List BodyD) : Bool := l.any fun c => idB c == id
theorem knows_in {α : Type} (Rt : Bool -> Option α) (Xt : Int -> List (List BodyD) -> Int -> Option α) (K : Nat) (id : Int) (x13 : List (List BodyD)) (x14 : Int) (l : List BodyD) (hl : l.length <= 4000000) : ∀ (R P : List BodyD) (n : Nat), R.length < n -> l = P ++ R ->
  guard_knows.l1 K Rt Xt n id x13 x14 l (l.length : Int) (P.length : Int) = if hasId id R = true then Rt true else Xt id x13 x14
 | R, P, 0, h, _ => by omega
 | [], P, n + 1, h, hc => by
  simp only [guard_knows.l1, guard_knows.l1s]
  have : l.length = P.length := by rw [hc]; simp
  rw [if_neg (by rw [decide_eq_true_eq]; omega)]
  rfl
 | b :: R, P, n + 1, h, hc => by
  have hlen : l.length = P.length + (R.length + 1) := by rw [hc]; simp
  have hg : l.getD P.length (0, 0, 0, List.replicate 32 0, 0, 0, [], ()) = b := by rw [hc]; exact getD_at _ _ _ _
  simp only [guard_knows.l1, guard_knows.l1s]
  rw [if_pos (by rw [decide_eq_true_eq]; omega), if_pos (by omega), toNat_nat, hg, id_run, Option.bind_some, i64_succ (by omega)]
  unfold hasId
  rw [List.any_cons]
  have ih := knows_in Rt Xt K id x13 x14 l hl R (P ++ [b]) n (by simpa using h) (by simp [hc])
  rw [List.length_append] at ih
  cases (idB b == id) with
  | true => rfl
  | false =>
   rw [if_neg (by decide), Bool.false_or]
   exact ih
theorem knows_run (g : GuardD) (id : Int) (hh : g.2.2.2.2.1.length <= 4000000) (hd : g.2.2.2.2.2.1.length <= 4000000) : guard_knows.run g id = some (hasId id (g.2.2.2.2.2.1 ++ g.2.2.2.2.1)) := by
 obtain ⟨K, hK⟩ : ∃ K, fuel = K + 3 := ⟨fuel - 3, by rw [fuel_big]⟩
 have hKb : 4000000 < K + 3 := by rw [<- hK, fuel_big]; omega
 unfold guard_knows.run guard_knows.top
 rw [hK]
 have key : ∀ (J : Nat), 4000000 < J -> guard_knows.l0 J (fun x4 => some x4) (guard_knows.j1 fun x4 => some x4) (K + 3) id [g.2.2.2.2.2.1, g.2.2.2.2.1] 0 = some (hasId id (g.2.2.2.2.2.1 ++ g.2.2.2.2.1)) := by
  intro J hJ
  have k1 := knows_in (fun x4 => some x4) (fun x1 x13 x14 => guard_knows.j0 (guard_knows.l0 J (fun x4 => some x4) (guard_knows.j1 fun x4 => some x4) (K + 2)) x1 x13 x14) J id [g.2.2.2.2.2.1, g.2.2.2.2.1] 0 g.2.2.2.2.2.1 hd g.2.2.2.2.2.1 [] J (by omega) rfl
  have k2 := knows_in (fun x4 => some x4) (fun x1 x13 x14 => guard_knows.j0 (guard_knows.l0 J (fun x4 => some x4) (guard_knows.j1 fun x4 => some x4) (K + 1)) x1 x13 x14) J id [g.2.2.2.2.2.1, g.2.2.2.2.1] 1 g.2.2.2.2.1 hh g.2.2.2.2.1 [] J (by omega) rfl
  rw [show (([] : List BodyD).length : Int) = 0 from rfl] at k1 k2
  have s0 : guard_knows.l0 J (fun x4 => some x4) (guard_knows.j1 fun x4 => some x4) (K + 3) id [g.2.2.2.2.2.1, g.2.2.2.2.1] 0 = guard_knows.l1 J (fun x4 => some x4) (fun x1 x13 x14 => guard_knows.j0 (guard_knows.l0 J (fun x4 => some x4) (guard_knows.j1 fun x4 => some x4) (K + 2)) x1 x13 x14) J id [g.2.2.2.2.2.1, g.2.2.2.2.1] 0 g.2.2.2.2.2.1 (g.2.2.2.2.2.1.length : Int) 0 := by
   simp only [guard_knows.l0, guard_knows.l0s]
   rw [if_pos (by decide), if_pos (by decide)]
   rfl
  have s1 : guard_knows.l0 J (fun x4 => some x4) (guard_knows.j1 fun x4 => some x4) (K + 2) id [g.2.2.2.2.2.1, g.2.2.2.2.1] 1 = guard_knows.l1 J (fun x4 => some x4) (fun x1 x13 x14 => guard_knows.j0 (guard_knows.l0 J (fun x4 => some x4) (guard_knows.j1 fun x4 => some x4) (K + 1)) x1 x13 x14) J id [g.2.2.2.2.2.1, g.2.2.2.2.1] 1 g.2.2.2.2.1 (g.2.2.2.2.1.length : Int) 0 := by
   simp only [guard_knows.l0, guard_knows.l0s]
   rw [if_pos (by decide), if_pos (by decide)]
   rfl
  have s2 : guard_knows.l0 J (fun x4 => some x4) (guard_knows.j1 fun x4 => some x4) (K + 1) id [g.2.2.2.2.2.1, g.2.2.2.2.1] 2 = some false := by
   simp only [guard_knows.l0, guard_knows.l0s]
   rw [if_neg (by decide)]
   rfl
  rw [s0, k1]
  unfold hasId
  rw [List.any_append]
  cases (g.2.2.2.2.2.1.any fun c => idB c == id) with
  | true => rfl
  | false =>
   rw [if_neg (by decide), Bool.false_or]
   unfold guard_knows.j0
   rw [show IntKind.i64.wrap (0 + 1) = 1 from rfl, s1, k2]
   unfold hasId
   cases (g.2.2.2.2.1.any fun c => idB c == id) with
   | true => rfl
   | false =>
    rw [if_neg (by decide)]
    unfold guard_knows.j0
    rw [show IntKind.i64.wrap (1 + 1) = 2 from rfl, s2]
 exact key (K + 3) hKb
theorem meets_in {α : Type} (Rt : Bool -> GuardD -> Option α) (Xt : GuardD -> BodyD -> List Int -> List Int -> List Int -> Int -> List Int -> List Int -> Int -> Option α) (K : Nat) (g : GuardD) (b : BodyD) (q0 q10 q11 : List Int) (q12 : Int) (q20 q21 : List Int) (q22 : Int) (l : List BodyD) (hl : l.length <= 8000000) : ∀ (R P : List BodyD) (n : Nat), R.length < n -> l = P ++ R ->
  basculeref_meets.l0 K Rt Xt n (l.length : Int) (P.length : Int) g b q0 q10 q11 q12 q20 q21 q22 l = if hasId (idB b) R = true then Rt false g else Xt g b q0 q10 q11 q12 q20 q21 q22
 | R, P, 0, h, _ => by omega
 | [], P, n + 1, h, hc => by
  simp only [basculeref_meets.l0, basculeref_meets.l0s]
  have : l.length = P.length := by rw [hc]; simp
  rw [if_neg (by rw [decide_eq_true_eq]; omega)]
  rfl
 | c :: R, P, n + 1, h, hc => by
  have hlen : l.length = P.length + (R.length + 1) := by rw [hc]; simp
  have hg : l.getD P.length (0, 0, 0, List.replicate 32 0, 0, 0, [], ()) = c := by rw [hc]; exact getD_at _ _ _ _
  simp only [basculeref_meets.l0, basculeref_meets.l0s]
  rw [if_pos (by rw [decide_eq_true_eq]; omega), if_pos (by omega), toNat_nat, hg, idOf_run, Option.bind_some, idOf_run, Option.bind_some, i64_succ (by omega)]
  unfold hasId
  rw [List.any_cons]
  have ih := meets_in Rt Xt K g b q0 q10 q11 q12 q20 q21 q22 l hl R (P ++ [c]) n (by simpa using h) (by simp [hc])
  rw [List.length_append] at ih
  cases (idB c == idB b) with
  | true => rfl
  | false =>
   rw [if_neg (by decide), Bool.false_or]
   exact ih
def mayB (g : GuardD) (b : BodyD) : Bool := !(bodyE b != 0) && !decide (b.2.2.1 >= 3) && !decide (b.2.2.2.2.1 >= 256) && !hasId (idB b) (g.2.2.2.2.2.1 ++ g.2.2.2.2.1)
def gateG (g : GuardD) (b : BodyD) (r : GateD × Bool × Int × Unit) : GuardD :=
 (g.1, g.2.1, r.1, g.2.2.2.1, (if r.2.1 = true then g.2.2.2.2.1 else g.2.2.2.2.1 ++ [b]), (if r.2.1 = true then g.2.2.2.2.2.1 ++ [b] else g.2.2.2.2.2.1), ())
theorem meets_run (g : GuardD) (b : BodyD) (hh : g.2.2.2.2.1.length <= 4000000) (hd : g.2.2.2.2.2.1.length <= 4000000) (hs : g.2.2.2.2.1.length + g.2.2.2.2.2.1.length <= 4000000) {v : Int} (hw : basculeref_WorthOf.run b = some v) :
  basculeref_meets.run g b = some (if mayB g b = true /\ (offerR g.2.2.1 (idB b) v b.2.2.1).2.2.1 = 0 then (gateG g b (offerR g.2.2.1 (idB b) v b.2.2.1), true, ()) else (g, false, ())) := by
 unfold basculeref_meets.run basculeref_meets.top mayB
 rw [body_fault, Option.bind_some, cond_or, cond_or]
 cases (bodyE b != 0) with
 | true => simp
 | false =>
  cases decide (b.2.2.1 >= 3) with
  | true => simp
  | false =>
   cases decide (b.2.2.2.2.1 >= 256) with
   | true => simp
   | false =>
    rw [if_neg (by decide), if_pos (fitB_small (by omega) (by decide)), if_pos (fitB_small (by omega) (by decide))]
    have hin := meets_in (fun x5 c4 => some (c4, x5, ())) (fun c2 c3 c4p0 c4p1p0 c4p1p1 c4p1p2 c4p2p0 c4p2p1 c4p2p2 => basculeref_meets.j0 (fun x5 c4 => some (c4, x5, ())) c2 c3 c4p0 c4p1p0 c4p1p1 c4p1p2 c4p2p0 c4p2p1 c4p2p2) fuel g b [0, 0, 0, 0] [0, 0, 0] [0, 0, 0] 0 [0, 0, 0] [0, 0, 0] 0 (g.2.2.2.2.2.1 ++ g.2.2.2.2.1) (by rw [List.length_append]; omega) (g.2.2.2.2.2.1 ++ g.2.2.2.2.1) [] fuel (by rw [fuel_big, List.length_append]; omega) rfl
    rw [show (([] : List BodyD).length : Int) = 0 from rfl] at hin
    rw [hin]
    cases hasId (idB b) (g.2.2.2.2.2.1 ++ g.2.2.2.2.1) with
    | true => rfl
    | false =>
     rw [if_neg (by decide)]
     unfold basculeref_meets.j0
     rw [idOf_run, Option.bind_some, hw, Option.bind_some, offered_run, Option.bind_some]
     simp only [Bool.not_false, Bool.and_self, true_and]
     unfold gateG
     generalize offerR g.2.2.1 (idB b) v b.2.2.1 = r
     by_cases he : r.2.2.1 = 0
     ·rw [if_neg (show ¬ (r.2.2.1 != 0) = true by simpa using he), if_pos he]
      cases r.2.1 with
      | true =>
       rw [if_pos rfl, if_pos (fitB_small (by omega) (by decide)), if_pos (fitB_small (by omega) (by decide))]
       rfl
      | false =>
       rw [if_neg (by decide), if_pos (fitB_small (by omega) (by decide)), if_pos (fitB_small (by omega) (by decide))]
       rfl
     ·rw [if_pos (show (r.2.2.1 != 0) = true by simpa using he), if_neg he]
end Go.Bx
