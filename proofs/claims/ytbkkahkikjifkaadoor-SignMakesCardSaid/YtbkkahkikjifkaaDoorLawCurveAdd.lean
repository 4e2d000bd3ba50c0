/- A part of a framework that reads Go code as functions of plain data; or a law about such functions. -/
import Derived.Test.YtbkkahkikjifkaaDoorLawCurve
import Derived.Test.YtbkkahkikjifkaaDoorLawChord
import Derived.Test.YtbkkahkikjifkaaDoorFnSignMakes0
import Derived.Test.YtbkkahkikjifkaaDoorFnSignMakes1
namespace Go.Bx.Rg
open Go Go.Bx
set_option linter.unusedSimpArgs false
set_option linter.unusedVariables false
def PtOk (P : Int) (s : PtD) : Prop := ∃ (x y : Int) (f : Bool), s = (mk x, mk y, f, ()) /\ (0 <= x /\ x < P) /\ (0 <= y /\ y < P)
abbrev zPt : PtD := ([0, 0, 0, 0], [0, 0, 0, 0], false, ())
theorem zPt_ok {P : Int} (hP : 1 < P /\ P < M256) (f : Bool) : PtOk P ([0, 0, 0, 0], [0, 0, 0, 0], f, ()) := ⟨0, 0, f, by rw [mk_zero], by omega, by omega⟩
theorem pt_on {P A B x y : Int} {f : Bool} (hP : 1 < P /\ P < M256) (h : onB P A B x y f = true) (hx : 0 <= x /\ x < M256) (hy : 0 <= y /\ y < M256) : PtOk P (mk x, mk y, f, ()) := by
 refine ⟨x, y, f, rfl, ?_⟩
 unfold onB at h
 cases f with
 | true =>
  simp only [if_true, Bool.and_eq_true, decide_eq_true_eq] at h
  omega
 | false =>
  simp only [Bool.false_eq_true, if_false, Bool.and_eq_true, decide_eq_true_eq] at h
  omega
section
variable {P A B : Int} (hP : 1 < P /\ P < M256) (hA : 0 <= A /\ A < P) (hB : 0 <= B /\ B < P) (Nw : List Int) (bs : PtD)
include hP
theorem slope_both {x1 y1 x2 y2 u d : Int} (f1 f2 : Bool) (hx1 : 0 <= x1 /\ x1 < P) (hy1 : 0 <= y1 /\ y1 < P) (hx2 : 0 <= x2 /\ x2 < P) (hy2 : 0 <= y2 /\ y2 < P) (hu : 0 <= u /\ u < P) (hd : 0 <= d /\ d < P) (Aw Bw : List Int) :
  ∃ (s : PtD) (ok : Bool), curve_add.j0 (fun x7 c6 => some (c6, x7, ())) (mk x1, mk y1, f1, ()) (mk x2, mk y2, f2, ()) zPt (mk P) (mk u) (mk d) false = some (s, ok, ()) /\
   basculeref_together.j0 (fun x7 c6 => some (c6, x7, ())) (mk P, Aw, Bw, Nw, bs, ()) (mk x1, mk y1, f1, ()) (mk x2, mk y2, f2, ()) zPt (mk u) (mk d) = some (s, ok, ()) /\ PtOk P s /\ (d = 0 -> ok = false) /\ (ok = false -> s = zPt) /\ (ok = true -> ∃ v X Y : Int, s = (mk X, mk Y, false, ()) /\ (0 <= X /\ X < P) /\ (0 <= Y /\ Y < P) /\ d * v % P = 1 % P /\ X = ((u * v % P * (u * v % P) % P - x1) % P - x2) % P /\ Y = (u * v % P * ((x1 - X) % P) % P - y1) % P) := by
 have m := modIn hP
 obtain ⟨v, ok, w, hv, e1, e2, e3, e4, e5⟩ := invN hP false hd
 unfold curve_add.j0 basculeref_together.j0
 rw [e1, e2]
 simp only [Option.bind_some]
 rw [mulN hP _ hu hv, Option.bind_some]
 simp only []
 rw [mulN hP _ (m _) (m _), Option.bind_some]
 simp only []
 rw [subN hP _ (m _) hx1, Option.bind_some]
 simp only []
 rw [subN hP _ (m _) hx2, Option.bind_some]
 simp only []
 rw [subN hP _ hx1 (m _), Option.bind_some]
 simp only []
 rw [mulN hP _ (m _) (m _), Option.bind_some]
 simp only []
 rw [subN hP _ (m _) hy1, Option.bind_some]
 simp only []
 cases ok with
 | false =>
  refine ⟨zPt, false, by rw [if_pos (by rfl)], by rw [if_pos (by rfl)], zPt_ok hP _, fun _ => rfl, fun _ => rfl, fun h => absurd h (by decide)⟩
 | true =>
  have hw := e3 rfl
  subst hw
  rw [if_neg (by decide), if_neg (by decide), productN hP hu hv, Option.bind_some, productN hP (m _) (m _), Option.bind_some, totalN hP hx1 hx2, Option.bind_some, oppositeN hP (m _), Option.bind_some, totalN hP (m _) (m _), Option.bind_some, oppositeN hP (m _), Option.bind_some,
   totalN hP hx1 (m _), Option.bind_some, productN hP (m _) (m _), Option.bind_some, oppositeN hP hy1, Option.bind_some, totalN hP (m _) (m _), Option.bind_some]
  refine ⟨_, true, rfl, ?_, ⟨_, _, _, rfl, m _, m _⟩, fun h0 => absurd (e4 h0) (by decide), fun h => absurd h (by decide), fun _ => ⟨v, _, _, rfl, m _, m _, e5 rfl, rfl, rfl⟩⟩
  have hx : (u * v % P * (u * v % P) % P + -((x1 + x2) % P) % P) % P = ((u * v % P * (u * v % P) % P - x1) % P - x2) % P := by
   simp only [mulL, mulR, addL, addR, subL, subR, negM]
   rw [show u * v * (u * v) + -(x1 + x2) = u * v * (u * v) - x1 - x2 by grind]
  rw [hx]
  generalize ((u * v % P * (u * v % P) % P - x1) % P - x2) % P = X
  have hy : (u * v % P * ((x1 + -X % P) % P) % P + -y1 % P) % P = (u * v % P * ((x1 - X) % P) % P - y1) % P := by
   simp only [mulL, mulR, addL, addR, subL, subR, negM]
   rw [show u * v * (x1 + -X) + -y1 = u * v * (x1 - X) - y1 by grind]
  rw [hy]
include hA
def OnV (P A B : Int) (s : PtD) : Prop := onB P A B (val B64 s.1) (val B64 s.2.1) s.2.2.1 = true
omit hP hA in
theorem dvd_of {a b : Int} (h : a % P = b % P) : P ∣ a - b := Int.dvd_of_emod_eq_zero (Int.emod_eq_emod_iff_emod_sub_eq_zero.1 h)
omit hP hA in
theorem cub_of {x1 y1 : Int} (h : OnV P A B ((mk x1, mk y1, false, ()) : PtD)) (hx1 : 0 <= x1 /\ x1 < P) (hy1 : 0 <= y1 /\ y1 < P) (hP : 1 < P /\ P < M256) : P ∣ Ch.cub A B x1 - y1 * y1 := by
 unfold OnV onB at h
 simp only [Bool.false_eq_true, if_false] at h
 rw [mk_val (n := x1) ⟨hx1.1, by omega⟩, mk_val (n := y1) ⟨hy1.1, by omega⟩] at h
 simp only [Bool.and_eq_true, decide_eq_true_eq] at h
 exact dvd_of h.2.symm
omit hA in
theorem on_of {x1 y1 x2 u d : Int} {s : PtD} (h1 : P ∣ Ch.cub A B x1 - y1 * y1) (hs : ∃ v X Y : Int, s = (mk X, mk Y, false, ()) /\ (0 <= X /\ X < P) /\ (0 <= Y /\ Y < P) /\ d * v % P = 1 % P /\ X = ((u * v % P * (u * v % P) % P - x1) % P - x2) % P /\ Y = (u * v % P * ((x1 - X) % P) % P - y1) % P)
  (ha : ∀ v, d * v % P = 1 % P -> P ∣ Ch.alp A x1 y1 x2 (u * v % P)) : OnV P A B s := by
 obtain ⟨v, X, Y, rfl, hX, hY, hv, eX, eY⟩ := hs
 have hX' : P ∣ X - (u * v % P * (u * v % P) - x1 - x2) := dvd_of (by rw [eX]; simp only [subL, Int.emod_emod])
 have hY' : P ∣ Y - (u * v % P * (x1 - X) - y1) := dvd_of (by rw [eY]; simp only [subL, mulR, Int.emod_emod])
 have := Ch.sum_on h1 (ha v hv) hX' hY'
 unfold OnV onB
 simp only [Bool.false_eq_true, if_false]
 rw [mk_val (n := X) ⟨hX.1, by omega⟩, mk_val (n := Y) ⟨hY.1, by omega⟩]
 simp only [Bool.and_eq_true, decide_eq_true_eq]
 exact ⟨⟨hX.2, hY.2⟩, (Int.emod_eq_emod_iff_emod_sub_eq_zero.2 (Int.emod_eq_zero_of_dvd this)).symm⟩
theorem add_both {p q : PtD} (hp : PtOk P p) (hq : PtOk P q) :
  ∃ (s : PtD) (ok : Bool), curve_add.run (mk P, mk A, mk B, Nw, bs, ()) p q = some (s, ok, ()) /\ basculeref_together.run (mk P, mk A, mk B, Nw, bs, ()) p q = some (s, ok, ()) /\ PtOk P s /\ (OnV P A B p -> OnV P A B q -> ok = true -> OnV P A B s) := by
 have m := modIn hP
 obtain ⟨x1, y1, f1, rfl, hx1, hy1⟩ := hp
 obtain ⟨x2, y2, f2, rfl, hx2, hy2⟩ := hq
 unfold curve_add.run curve_add.top basculeref_together.run basculeref_together.top
 cases f1 with
 | true => exact ⟨_, true, rfl, rfl, ⟨x2, y2, f2, rfl, hx2, hy2⟩, fun _ h _ => h⟩
 | false =>
  cases f2 with
  | true => exact ⟨_, true, rfl, rfl, ⟨x1, y1, false, rfl, hx1, hy1⟩, fun h _ _ => h⟩
  | false =>
   simp only [Bool.false_eq_true, if_false]
   unfold curve_ringOf_s0.run curve_ringOf_s0.top
   rw [Option.bind_some]
   simp only []
   rw [subN hP _ hy2 hy1, Option.bind_some]
   simp only []
   rw [subN hP _ hx2 hx1, Option.bind_some]
   simp only []
   have eq : beqD (.pair (.arr 4 (.int .u64)) (.pair (.arr 4 (.int .u64)) (.pair .bool .unit))) ((mk x1, mk y1, false, ()) : PtD) (mk x2, mk y2, false, ()) = (decide (x1 = x2) && decide (y1 = y2)) := by
    rw [Bool.eq_iff_iff, beqD_iff _ _ _ rfl, Bool.and_eq_true, decide_eq_true_eq, decide_eq_true_eq, <- mk_inj (a := x1) (b := x2) ⟨hx1.1, by omega⟩ ⟨hx2.1, by omega⟩, <- mk_inj (a := y1) (b := y2) ⟨hy1.1, by omega⟩ ⟨hy2.1, by omega⟩]
    constructor
    ·intro h; exact ⟨congrArg Prod.fst h, congrArg (fun p => p.2.1) h⟩
    ·rintro ⟨h1, h2⟩; rw [h1, h2]
   rw [eqN hP hx1 hx2, eqN hP hy1 hy2, eq]
   have eu : (y2 + -y1 % P) % P = (y2 - y1) % P := by rw [addR]; rfl
   have ed : (x2 + -x1 % P) % P = (x2 - x1) % P := by rw [addR]; rfl
   by_cases hxe : x1 = x2
   ·subst hxe
    simp only [decide_true, BEq.rfl, if_true]
    rw [addN hP _ hy1 hy2, Option.bind_some]
    simp only []
    rw [totalN hP hy1 hy2, Option.bind_some, isZeroN hP (m _), Option.bind_some, zeroN hP (m _)]
    by_cases hz : (y1 + y2) % P = 0
    ·simp only [hz, decide_true, if_true, cond_true]
     exact ⟨_, true, rfl, rfl, zPt_ok hP _, fun _ _ _ => by simp [OnV, onB, val]⟩
    ·simp only [hz, decide_false, Bool.false_eq_true, if_false, cond_true, Bool.true_and]
     rw [oppositeN hP hy1, Option.bind_some, totalN hP hy2 (m _), Option.bind_some, oppositeN hP hx1, Option.bind_some, totalN hP hx1 (m _), Option.bind_some, eu, ed]
     by_cases hye : y1 = y2
     ·subst hye
      simp only [decide_true, Bool.not_true, Bool.false_eq_true, if_false, if_true]
      rw [smallN hP _ (show (0 : Int) <= 3 /\ (3 : Int) < 18446744073709551616 by decide), Option.bind_some]
      simp only []
      rw [mulN hP _ hx1 hx1, Option.bind_some]
      simp only []
      rw [mulN hP _ (m _) (m _), Option.bind_some]
      simp only []
      rw [addN hP _ (m _) hA, Option.bind_some]
      simp only []
      rw [addN hP _ hy1 hy1, Option.bind_some]
      simp only []
      rw [byN hP (show (0 : Int) <= 3 /\ (3 : Int) < 4294967296 by decide), Option.bind_some, productN hP hx1 hx1, Option.bind_some, productN hP (m _) (m _), Option.bind_some, totalN hP (m _) hA, Option.bind_some, totalN hP hy1 hy1, Option.bind_some]
      obtain ⟨s, ok, k1, k2, k3, _, _, k6⟩ := slope_both hP Nw bs false false hx1 hy1 hx1 hy1 (m (3 % P * (x1 * x1 % P) % P + A)) (m (y1 + y1)) (mk A) (mk B)
      refine ⟨s, ok, k1, k2, k3, fun h1 _ hk => ?_⟩
      refine on_of hP (cub_of h1 hx1 hy1 hP) (k6 hk) fun v hv => ?_
      rw [mulL] at hv
      refine Ch.alp_tan (u := v) (by rw [Int.mul_comm] at hv; rw [Int.mul_comm]; exact dvd_of hv) (dvd_of ?_)
      simp only [mulL, mulR, addL, Int.emod_emod]
     ·simp only [hye, decide_false, Bool.not_false, if_true, Bool.false_eq_true, if_false]
      obtain ⟨s, ok, k1, k2, k3, k4, k5, _⟩ := slope_both hP Nw bs false false hx1 hy1 hx1 hy2 (m (y2 - y1)) (m (x1 - x1)) (mk A) (mk B)
      have h0 := k4 (by rw [Int.sub_self]; exact Int.zero_emod _)
      have hs := k5 h0
      subst h0
      subst hs
      exact ⟨zPt, false, rfl, k2, k3, fun _ _ h => absurd h (by decide)⟩
   ·simp only [hxe, decide_false, Bool.false_eq_true, if_false, cond_false, Bool.false_and, show (false == true) = false from rfl, Option.bind_some]
    rw [oppositeN hP hy1, Option.bind_some, totalN hP hy2 (m _), Option.bind_some, oppositeN hP hx1, Option.bind_some, totalN hP hx2 (m _), Option.bind_some, eu, ed]
    obtain ⟨s, ok, k1, k2, k3, _, _, k6⟩ := slope_both hP Nw bs false false hx1 hy1 hx2 hy2 (m (y2 - y1)) (m (x2 - x1)) (mk A) (mk B)
    refine ⟨s, ok, k1, k2, k3, fun h1 h2 hk => ?_⟩
    refine on_of hP (cub_of h1 hx1 hy1 hP) (k6 hk) fun v hv => ?_
    rw [mulL] at hv
    exact Ch.alp_of (y2 := y2) (u := v) (cub_of h1 hx1 hy1 hP) (cub_of h2 hx2 hy2 hP) (dvd_of hv) (dvd_of (by simp only [mulL, Int.emod_emod]))
end
end Go.Bx.Rg
