/- Laws about functions of plain data, in plain Lean. -/
import Derived.Test.YtbkkahkikjifkaaGreatDoorLawsQuorumChecks0
import Derived.Test.YtbkkahkikjifkaaGreatDoorLawsQuorumChecks1
import Derived.Test.YtbkkahkikjifkaaGreatDoorFnQuorumChecks0
import Derived.Test.YtbkkahkikjifkaaGreatDoorFnQuorumChecks1
namespace Go.Bx.Ch
set_option linter.unusedVariables false
def cub (A B x : Int) : Int := x * (x * x) + A * x + B
def alp (A x1 y1 x2 l : Int) : Int := A - 2*l*y1 + 2*l*l*x1 + x1*x1 + x1*x2 + x2*x2 - l*l*(x1+x2)
theorem alp_D (x1 y1 x2 l A B : Int) : alp A x1 y1 x2 l * (x2 - x1) = (cub A B x2 - (y1 + l*(x2-x1))*(y1 + l*(x2-x1))) - (cub A B x1 - y1*y1) := by unfold alp cub; grind
theorem third (x1 y1 x2 l A B : Int) : cub A B (l*l-x1-x2) - (l*(x1-(l*l-x1-x2)) - y1)*(l*(x1-(l*l-x1-x2)) - y1) = alp A x1 y1 x2 l * ((l*l-x1-x2) - x1) + (cub A B x1 - y1*y1) := by unfold alp cub; grind
theorem r1 (u d P x1 x2 y : Int) : (y * u + P * d) * (x2 - x1) = y * ((x2 - x1) * u) + P * (d * (x2 - x1)) := by grind
theorem r2 (y P c e : Int) : y * (1 + P * c) + P * e = y + P * (e + y * c) := by grind
theorem r3 (y1 y2 P k s t a b : Int) (hs : s = y2 * y2 + P * b) (ht : t = y1 * y1 + P * a) : (s - (y1 + (y2 - y1 + P * k)) * (y1 + (y2 - y1 + P * k))) - (t - y1 * y1) = P * (b - a - k * (2 * y2 + P * k)) := by rw [hs, ht]; grind
theorem r4 (m D u P c w : Int) (h1 : D * u = 1 + P * c) (h2 : m * D = P * w) : m = P * (w * u - m * c) := by
 have e1 : m * (D * u) = P * w * u := by rw [<- Int.mul_assoc, h2]
 rw [h1] at e1
 have e2 : m * (1 + P * c) = m + P * (m * c) := by grind
 rw [e2] at e1
 have e3 : P * (w * u - m * c) = P * w * u - P * (m * c) := by grind
 omega
theorem alp_of {P A B x1 y1 x2 y2 l u : Int} (h1 : P ∣ cub A B x1 - y1*y1) (h2 : P ∣ cub A B x2 - y2*y2) (hu : P ∣ (x2 - x1) * u - 1) (hl : P ∣ l - (y2 - y1) * u) : P ∣ alp A x1 y1 x2 l := by
 obtain ⟨a, ha⟩ := h1
 obtain ⟨b, hb⟩ := h2
 obtain ⟨c, hc⟩ := hu
 obtain ⟨d, hd⟩ := hl
 have e0 := alp_D x1 y1 x2 l A B
 have el : l = (y2 - y1) * u + P * d := by omega
 have ec : (x2 - x1) * u = 1 + P * c := by omega
 have e1 : l * (x2 - x1) = (y2 - y1) + P * (d * (x2 - x1) + (y2 - y1) * c) := by
  have := r1 u d P x1 x2 (y2 - y1)
  rw [<- el, ec, r2] at this
  exact this
 rw [e1, r3 y1 y2 P _ _ _ a b (by omega) (by omega)] at e0
 exact ⟨_, r4 _ _ _ _ _ _ ec e0⟩
theorem r5 (A x1 y1 l : Int) : alp A x1 y1 x1 l = A + 3 * (x1 * x1) - l * (y1 + y1) := by unfold alp; grind
theorem r6 (s u d P y : Int) : (s * u + P * d) * y = s * (y * u) + P * (d * y) := by grind
theorem r7 (s P e : Int) : s - (s + P * e) = P * (-e) := by grind
theorem alp_tan {P A x1 y1 l u : Int} (hu : P ∣ (y1 + y1) * u - 1) (hl : P ∣ l - (3 * (x1 * x1) + A) * u) : P ∣ alp A x1 y1 x1 l := by
 obtain ⟨c, hc⟩ := hu
 obtain ⟨d, hd⟩ := hl
 have el : l = (3 * (x1 * x1) + A) * u + P * d := by omega
 have ec : (y1 + y1) * u = 1 + P * c := by omega
 have := r6 (3 * (x1 * x1) + A) u d P (y1 + y1)
 rw [<- el, ec, r2] at this
 rw [r5, this, Int.add_comm A, r7]
 exact ⟨_, rfl⟩
theorem r8 (A B Z P c : Int) : cub A B (Z + P * c) = cub A B Z + P * (c * ((Z + P * c) * (Z + P * c) + (Z + P * c) * Z + Z * Z) + A * c) := by unfold cub; grind
theorem r9 (l x1 Z P c y1 d : Int) : l * (x1 - (Z + P * c)) - y1 + P * d = (l * (x1 - Z) - y1) + P * (d - l * c) := by grind
theorem r10 (W P e : Int) : (W + P * e) * (W + P * e) = W * W + P * (e * (W + P * e + W)) := by grind
theorem r11 (s t P e f g : Int) (h : s - t = P * g) : s + P * e - (t + P * f) = P * (g + e - f) := by
 have : P * (g + e - f) = P * g + P * e - P * f := by grind
 omega
theorem r12 (P b z a : Int) : P * b * z + P * a = P * (b * z + a) := by grind
theorem sum_on {P A B x1 y1 x2 l X Y : Int} (h1 : P ∣ cub A B x1 - y1*y1) (ha : P ∣ alp A x1 y1 x2 l) (hX : P ∣ X - (l*l-x1-x2)) (hY : P ∣ Y - (l*(x1-X) - y1)) : P ∣ cub A B X - Y*Y := by
 obtain ⟨a, ha'⟩ := h1
 obtain ⟨b, hb⟩ := ha
 obtain ⟨c, hc⟩ := hX
 obtain ⟨d, hd⟩ := hY
 have e0 := third x1 y1 x2 l A B
 rw [hb, ha', r12] at e0
 generalize l*l-x1-x2 = Z at *
 have eX : X = Z + P * c := by omega
 have eY : Y = (l * (x1 - X) - y1) + P * d := by omega
 rw [eX, r9] at eY
 rw [eX, eY, r10 (l * (x1 - Z) - y1) P (d - l * c), r8]
 exact ⟨_, r11 _ _ _ _ _ _ e0⟩
end Go.Bx.Ch
namespace Go.Bx.Rg
open Go Go.Bx
set_option linter.unusedSimpArgs false
set_option linter.unusedVariables false
def PtOk (P : Int) (s : PtD) : Prop := ∃ (x y : Int) (f : Bool), s = (mk x, mk y, f, ()) /\ (0 <= x /\ x < P) /\ (0 <= y /\ y < P)
abbrev zPt : PtD := ([0, 0, 0, 0], [0, 0, 0, 0], false, ())
theorem zPt_ok {P : Int} (hP : 1 < P /\ P < M256) (f : Bool) : PtOk P ([0, 0, 0, 0], [0, 0, 0, 0], f, ()) := ⟨0, 0, f, by rw [mk_zero], by omega, by omega⟩
theorem pt_on {P A B x y : Int} {f : Bool} (hP : 1 < P /\ P < M256) (h : onB P A B x y f = true) (hx : 0 <= x /\ x < M256) (hy : 0 <= y /\ y < M256) : PtOk P (mk x, mk y, f, ()) := by
 refine ⟨x, y, f, rfl, ?_⟩
 unfold onB at h
 cases f with
 | true =>
  simp only [if_true, Bool.and_eq_true, decide_eq_true_eq] at h
  omega
 | false =>
  simp only [Bool.false_eq_true, if_false, Bool.and_eq_true, decide_eq_true_eq] at h
  omega
section
variable {P A B : Int} (hP : 1 < P /\ P < M256) (hA : 0 <= A /\ A < P) (hB : 0 <= B /\ B < P) (Nw : List Int) (bs : PtD)
include hP
theorem slope_both {x1 y1 x2 y2 u d : Int} (f1 f2 : Bool) (hx1 : 0 <= x1 /\ x1 < P) (hy1 : 0 <= y1 /\ y1 < P) (hx2 : 0 <= x2 /\ x2 < P) (hy2 : 0 <= y2 /\ y2 < P) (hu : 0 <= u /\ u < P) (hd : 0 <= d /\ d < P) (Aw Bw : List Int) :
  ∃ (s : PtD) (ok : Bool), curve_add.j0 (fun x7 c6 => some (c6, x7, ())) (mk x1, mk y1, f1, ()) (mk x2, mk y2, f2, ()) zPt (mk P) (mk u) (mk d) false = some (s, ok, ()) /\
   basculeref_together.j0 (fun x7 c6 => some (c6, x7, ())) (mk P, Aw, Bw, Nw, bs, ()) (mk x1, mk y1, f1, ()) (mk x2, mk y2, f2, ()) zPt (mk u) (mk d) = some (s, ok, ()) /\ PtOk P s /\ (d = 0 -> ok = false) /\ (ok = false -> s = zPt) /\ (ok = true -> ∃ v X Y : Int, s = (mk X, mk Y, false, ()) /\ (0 <= X /\ X < P) /\ (0 <= Y /\ Y < P) /\ d * v % P = 1 % P /\ X = ((u * v % P * (u * v % P) % P - x1) % P - x2) % P /\ Y = (u * v % P * ((x1 - X) % P) % P - y1) % P) := by
 have m := modIn hP
 obtain ⟨v, ok, w, hv, e1, e2, e3, e4, e5⟩ := invN hP false hd
 unfold curve_add.j0 basculeref_together.j0
 rw [e1, e2]
 simp only [Option.bind_some]
 rw [mulN hP _ hu hv, Option.bind_some]
 simp only []
 rw [mulN hP _ (m _) (m _), Option.bind_some]
 simp only []
 rw [subN hP _ (m _) hx1, Option.bind_some]
 simp only []
 rw [subN hP _ (m _) hx2, Option.bind_some]
 simp only []
 rw [subN hP _ hx1 (m _), Option.bind_some]
 simp only []
 rw [mulN hP _ (m _) (m _), Option.bind_some]
 simp only []
 rw [subN hP _ (m _) hy1, Option.bind_some]
 simp only []
 cases ok with
 | false =>
  refine ⟨zPt, false, by rw [if_pos (by rfl)], by rw [if_pos (by rfl)], zPt_ok hP _, fun _ => rfl, fun _ => rfl, fun h => absurd h (by decide)⟩
 | true =>
  have hw := e3 rfl
  subst hw
  rw [if_neg (by decide), if_neg (by decide), productN hP hu hv, Option.bind_some, productN hP (m _) (m _), Option.bind_some, totalN hP hx1 hx2, Option.bind_some, oppositeN hP (m _), Option.bind_some, totalN hP (m _) (m _), Option.bind_some, oppositeN hP (m _), Option.bind_some,
   totalN hP hx1 (m _), Option.bind_some, productN hP (m _) (m _), Option.bind_some, oppositeN hP hy1, Option.bind_some, totalN hP (m _) (m _), Option.bind_some]
  refine ⟨_, true, rfl, ?_, ⟨_, _, _, rfl, m _, m _⟩, fun h0 => absurd (e4 h0) (by decide), fun h => absurd h (by decide), fun _ => ⟨v, _, _, rfl, m _, m _, e5 rfl, rfl, rfl⟩⟩
  have hx : (u * v % P * (u * v % P) % P + -((x1 + x2) % P) % P) % P = ((u * v % P * (u * v % P) % P - x1) % P - x2) % P := by
   simp only [mulL, mulR, addL, addR, subL, subR, negM]
   rw [show u * v * (u * v) + -(x1 + x2) = u * v * (u * v) - x1 - x2 by grind]
  rw [hx]
  generalize ((u * v % P * (u * v % P) % P - x1) % P - x2) % P = X
  have hy : (u * v % P * ((x1 + -X % P) % P) % P + -y1 % P) % P = (u * v % P * ((x1 - X) % P) % P - y1) % P := by
   simp only [mulL, mulR, addL, addR, subL, subR, negM]
   rw [show u * v * (x1 + -X) + -y1 = u * v * (x1 - X) - y1 by grind]
  rw [hy]
include hA
def OnV (P A B : Int) (s : PtD) : Prop := onB P A B (val B64 s.1) (val B64 s.2.1) s.2.2.1 = true
omit hP hA in
theorem dvd_of {a b : Int} (h : a % P = b % P) : P ∣ a - b := Int.dvd_of_emod_eq_zero (Int.emod_eq_emod_iff_emod_sub_eq_zero.1 h)
omit hP hA in
theorem cub_of {x1 y1 : Int} (h : OnV P A B ((mk x1, mk y1, false, ()) : PtD)) (hx1 : 0 <= x1 /\ x1 < P) (hy1 : 0 <= y1 /\ y1 < P) (hP : 1 < P /\ P < M256) : P ∣ Ch.cub A B x1 - y1 * y1 := by
 unfold OnV onB at h
 simp only [Bool.false_eq_true, if_false] at h
 rw [mk_val (n := x1) ⟨hx1.1, by omega⟩, mk_val (n := y1) ⟨hy1.1, by omega⟩] at h
 simp only [Bool.and_eq_true, decide_eq_true_eq] at h
 exact dvd_of h.2.symm
omit hA in
theorem on_of {x1 y1 x2 u d : Int} {s : PtD} (h1 : P ∣ Ch.cub A B x1 - y1 * y1) (hs : ∃ v X Y : Int, s = (mk X, mk Y, false, ()) /\ (0 <= X /\ X < P) /\ (0 <= Y /\ Y < P) /\ d * v % P = 1 % P /\ X = ((u * v % P * (u * v % P) % P - x1) % P - x2) % P /\ Y = (u * v % P * ((x1 - X) % P) % P - y1) % P)
  (ha : ∀ v, d * v % P = 1 % P -> P ∣ Ch.alp A x1 y1 x2 (u * v % P)) : OnV P A B s := by
 obtain ⟨v, X, Y, rfl, hX, hY, hv, eX, eY⟩ := hs
 have hX' : P ∣ X - (u * v % P * (u * v % P) - x1 - x2) := dvd_of (by rw [eX]; simp only [subL, Int.emod_emod])
 have hY' : P ∣ Y - (u * v % P * (x1 - X) - y1) := dvd_of (by rw [eY]; simp only [subL, mulR, Int.emod_emod])
 have := Ch.sum_on h1 (ha v hv) hX' hY'
 unfold OnV onB
 simp only [Bool.false_eq_true, if_false]
 rw [mk_val (n := X) ⟨hX.1, by omega⟩, mk_val (n := Y) ⟨hY.1, by omega⟩]
 simp only [Bool.and_eq_true, decide_eq_true_eq]
 exact ⟨⟨hX.2, hY.2⟩, (Int.emod_eq_emod_iff_emod_sub_eq_zero.2 (Int.emod_eq_zero_of_dvd this)).symm⟩
theorem add_both {p q : PtD} (hp : PtOk P p) (hq : PtOk P q) :
  ∃ (s : PtD) (ok : Bool), curve_add.run (mk P, mk A, mk B, Nw, bs, ()) p q = some (s, ok, ()) /\ basculeref_together.run (mk P, mk A, mk B, Nw, bs, ()) p q = some (s, ok, ()) /\ PtOk P s /\ (OnV P A B p -> OnV P A B q -> ok = true -> OnV P A B s) := by
 have m := modIn hP
 obtain ⟨x1, y1, f1, rfl, hx1, hy1⟩ := hp
 obtain ⟨x2, y2, f2, rfl, hx2, hy2⟩ := hq
 unfold curve_add.run curve_add.top basculeref_together.run basculeref_together.top
 cases f1 with
 | true => exact ⟨_, true, rfl, rfl, ⟨x2, y2, f2, rfl, hx2, hy2⟩, fun _ h _ => h⟩
 | false =>
  cases f2 with
  | true => exact ⟨_, true, rfl, rfl, ⟨x1, y1, false, rfl, hx1, hy1⟩, fun h _ _ => h⟩
  | false =>
   simp only [Bool.false_eq_true, if_false]
   unfold curve_ringOf_s0.run curve_ringOf_s0.top
   rw [Option.bind_some]
   simp only []
   rw [subN hP _ hy2 hy1, Option.bind_some]
   simp only []
   rw [subN hP _ hx2 hx1, Option.bind_some]
   simp only []
   have eq : beqD (.pair (.arr 4 (.int .u64)) (.pair (.arr 4 (.int .u64)) (.pair .bool .unit))) ((mk x1, mk y1, false, ()) : PtD) (mk x2, mk y2, false, ()) = (decide (x1 = x2) && decide (y1 = y2)) := by
    rw [Bool.eq_iff_iff, beqD_iff _ _ _ rfl, Bool.and_eq_true, decide_eq_true_eq, decide_eq_true_eq, <- mk_inj (a := x1) (b := x2) ⟨hx1.1, by omega⟩ ⟨hx2.1, by omega⟩, <- mk_inj (a := y1) (b := y2) ⟨hy1.1, by omega⟩ ⟨hy2.1, by omega⟩]
    constructor
    ·intro h; exact ⟨congrArg Prod.fst h, congrArg (fun p => p.2.1) h⟩
    ·rintro ⟨h1, h2⟩; rw [h1, h2]
   rw [eqN hP hx1 hx2, eqN hP hy1 hy2, eq]
   have eu : (y2 + -y1 % P) % P = (y2 - y1) % P := by rw [addR]; rfl
   have ed : (x2 + -x1 % P) % P = (x2 - x1) % P := by rw [addR]; rfl
   by_cases hxe : x1 = x2
   ·subst hxe
    simp only [decide_true, BEq.rfl, if_true]
    rw [addN hP _ hy1 hy2, Option.bind_some]
    simp only []
    rw [totalN hP hy1 hy2, Option.bind_some, isZeroN hP (m _), Option.bind_some, zeroN hP (m _)]
    by_cases hz : (y1 + y2) % P = 0
    ·simp only [hz, decide_true, if_true, cond_true]
     exact ⟨_, true, rfl, rfl, zPt_ok hP _, fun _ _ _ => by simp [OnV, onB, val]⟩
    ·simp only [hz, decide_false, Bool.false_eq_true, if_false, cond_true, Bool.true_and]
     rw [oppositeN hP hy1, Option.bind_some, totalN hP hy2 (m _), Option.bind_some, oppositeN hP hx1, Option.bind_some, totalN hP hx1 (m _), Option.bind_some, eu, ed]
     by_cases hye : y1 = y2
     ·subst hye
      simp only [decide_true, Bool.not_true, Bool.false_eq_true, if_false, if_true]
      rw [smallN hP _ (show (0 : Int) <= 3 /\ (3 : Int) < 18446744073709551616 by decide), Option.bind_some]
      simp only []
      rw [mulN hP _ hx1 hx1, Option.bind_some]
      simp only []
      rw [mulN hP _ (m _) (m _), Option.bind_some]
      simp only []
      rw [addN hP _ (m _) hA, Option.bind_some]
      simp only []
      rw [addN hP _ hy1 hy1, Option.bind_some]
      simp only []
      rw [byN hP (show (0 : Int) <= 3 /\ (3 : Int) < 4294967296 by decide), Option.bind_some, productN hP hx1 hx1, Option.bind_some, productN hP (m _) (m _), Option.bind_some, totalN hP (m _) hA, Option.bind_some, totalN hP hy1 hy1, Option.bind_some]
      obtain ⟨s, ok, k1, k2, k3, _, _, k6⟩ := slope_both hP Nw bs false false hx1 hy1 hx1 hy1 (m (3 % P * (x1 * x1 % P) % P + A)) (m (y1 + y1)) (mk A) (mk B)
      refine ⟨s, ok, k1, k2, k3, fun h1 _ hk => ?_⟩
      refine on_of hP (cub_of h1 hx1 hy1 hP) (k6 hk) fun v hv => ?_
      rw [mulL] at hv
      refine Ch.alp_tan (u := v) (by rw [Int.mul_comm] at hv; rw [Int.mul_comm]; exact dvd_of hv) (dvd_of ?_)
      simp only [mulL, mulR, addL, Int.emod_emod]
     ·simp only [hye, decide_false, Bool.not_false, if_true, Bool.false_eq_true, if_false]
      obtain ⟨s, ok, k1, k2, k3, k4, k5, _⟩ := slope_both hP Nw bs false false hx1 hy1 hx1 hy2 (m (y2 - y1)) (m (x1 - x1)) (mk A) (mk B)
      have h0 := k4 (by rw [Int.sub_self]; exact Int.zero_emod _)
      have hs := k5 h0
      subst h0
      subst hs
      exact ⟨zPt, false, rfl, k2, k3, fun _ _ h => absurd h (by decide)⟩
   ·simp only [hxe, decide_false, Bool.false_eq_true, if_false, cond_false, Bool.false_and, show (false == true) = false from rfl, Option.bind_some]
    rw [oppositeN hP hy1, Option.bind_some, totalN hP hy2 (m _), Option.bind_some, oppositeN hP hx1, Option.bind_some, totalN hP hx2 (m _), Option.bind_some, eu, ed]
    obtain ⟨s, ok, k1, k2, k3, _, _, k6⟩ := slope_both hP Nw bs false false hx1 hy1 hx2 hy2 (m (y2 - y1)) (m (x2 - x1)) (mk A) (mk B)
    refine ⟨s, ok, k1, k2, k3, fun h1 h2 hk => ?_⟩
    refine on_of hP (cub_of h1 hx1 hy1 hP) (k6 hk) fun v hv => ?_
    rw [mulL] at hv
    exact Ch.alp_of (y2 := y2) (u := v) (cub_of h1 hx1 hy1 hP) (cub_of h2 hx2 hy2 hP) (dvd_of hv) (dvd_of (by simp only [mulL, Int.emod_emod]))
end
end Go.Bx.Rg
namespace Go.Bx
open Go Go.Bx.Rg
set_option linter.unusedSimpArgs false
set_option linter.unusedVariables false
abbrev PtTy : Ty := .pair U256 (.pair U256 (.pair .bool .unit))
abbrev CvTy : Ty := .pair U256 (.pair U256 (.pair U256 (.pair U256 (.pair PtTy .unit))))
theorem pt_num (p : PtD) (h : Fit reachK PtTy p) : ∃ x y f, p = (mk x, mk y, f, ()) /\ (0 <= x /\ x < M256) /\ (0 <= y /\ y < M256) := by
 obtain ⟨a, b, f, u⟩ := p
 obtain ⟨h1, h2, _⟩ := h
 have w1 : W4 a := digs_of_fit h1
 have w2 : W4 b := digs_of_fit h2
 exact ⟨_, _, f, by rw [<- mk_of w1, <- mk_of w2], w1.bound, w2.bound⟩
theorem cv_num (c : CvD) (h : Fit reachK CvTy c) : ∃ P A B N x y f, c = (mk P, mk A, mk B, mk N, (mk x, mk y, f, ()), ()) /\ (0 <= P /\ P < M256) /\ (0 <= A /\ A < M256) /\ (0 <= B /\ B < M256) /\ (0 <= N /\ N < M256) /\ (0 <= x /\ x < M256) /\ (0 <= y /\ y < M256) := by
 obtain ⟨p, a, b, n, q, u⟩ := c
 obtain ⟨h1, h2, h3, h4, h5, _⟩ := h
 have w1 : W4 p := digs_of_fit h1
 have w2 : W4 a := digs_of_fit h2
 have w3 : W4 b := digs_of_fit h3
 have w4 : W4 n := digs_of_fit h4
 obtain ⟨x, y, f, rfl, b1, b2⟩ := pt_num q h5
 exact ⟨_, _, _, _, x, y, f, by rw [<- mk_of w1, <- mk_of w2, <- mk_of w3, <- mk_of w4], w1.bound, w2.bound, w3.bound, w4.bound, b1, b2⟩
end Go.Bx
namespace Go.Bx
open Go
set_option linter.unusedSimpArgs false
set_option linter.unusedVariables false
theorem getD_at {α : Type} (P R : List α) (a d : α) : (P ++ a :: R).getD P.length d = a := by simp [List.getD]
end Go.Bx
namespace Go.Bx
open Go Go.Bx.Rg
set_option linter.unusedSimpArgs false
set_option linter.unusedVariables false
def addR (c : CvD) (p q : PtD) : PtD × Bool := match curve_add.run c p q with
 | some (s, ok, _) => (s, ok)
 | none => (zPt, false)
def bitK (k : List Int) (i : Nat) : Bool := (k.getD (i / 64) 0).toNat.testBit (i % 64)
def stepM (c : CvD) (k : List Int) (p : PtD) (i : Nat) (o : PtD) : Option PtD :=
 if (addR c o o).2 = true then
  if bitK k i = true then (if (addR c (addR c o o).1 p).2 = true then some (addR c (addR c o o).1 p).1 else none) else some (addR c o o).1
 else none
def runM (c : CvD) (k : List Int) (p : PtD) : Nat -> Nat -> PtD -> Option PtD
 | 0, _, o => some o
 | d + 1, b, o => (stepM c k p (b + d) o).bind (runM c k p d b)
theorem runM_split (c : CvD) (k : List Int) (p : PtD) (a b : Nat) : ∀ (d : Nat) (o : PtD), runM c k p (a + d) b o = (runM c k p d (b + a) o).bind (runM c k p a b)
 | 0, o => rfl
 | d + 1, o => by
  show (stepM c k p (b + (a + d)) o).bind (runM c k p (a + d) b) = ((stepM c k p (b + a + d) o).bind (runM c k p d (b + a))).bind (runM c k p a b)
  rw [show b + (a + d) = b + a + d by omega]
  cases stepM c k p (b + a + d) o with
  | none => rfl
  | some s => exact runM_split c k p a b d s
section
variable {P A B : Int} (hP : 1 < P /\ P < M256) (hA : 0 <= A /\ A < P) (Nw : List Int) (bs : PtD)
include hP hA
theorem addR_run {p q : PtD} (hp : PtOk P p) (hq : PtOk P q) : curve_add.run (mk P, mk A, mk B, Nw, bs, ()) p q = some ((addR (mk P, mk A, mk B, Nw, bs, ()) p q).1, (addR (mk P, mk A, mk B, Nw, bs, ()) p q).2, ()) /\
  basculeref_together.run (mk P, mk A, mk B, Nw, bs, ()) p q = some ((addR (mk P, mk A, mk B, Nw, bs, ()) p q).1, (addR (mk P, mk A, mk B, Nw, bs, ()) p q).2, ()) /\ PtOk P (addR (mk P, mk A, mk B, Nw, bs, ()) p q).1 := by
 obtain ⟨s, ok, t1, t2, t3, _⟩ := add_both hP hA (B := B) Nw bs hp hq
 unfold addR
 rw [t1, t2]
 exact ⟨rfl, rfl, t3⟩
theorem step_ok {k : List Int} {p o s : PtD} (hp : PtOk P p) (ho : PtOk P o) (i : Nat) (h : stepM (mk P, mk A, mk B, Nw, bs, ()) k p i o = some s) : PtOk P s := by
 obtain ⟨_, _, t3⟩ := addR_run hP hA (B := B) Nw bs ho ho
 obtain ⟨_, _, t4⟩ := addR_run hP hA (B := B) Nw bs t3 hp
 unfold stepM at h
 split at h
 ·split at h
  ·split at h
   ·cases h; exact t4
   ·cases h
  ·cases h; exact t3
 ·cases h
theorem mult_loop {α : Type} (Xt : Bool -> PtD -> PtD -> Option α) (K : Nat) (k : List Int) (hk : W4 k) (p z : PtD) (hp : PtOk P p) : ∀ (d n : Nat) (o : PtD), d < n -> d <= 256 -> PtOk P o ->
  ∃ ok r, curve_Mult.l0 K Xt n true ((d : Int) - 1) (mk P, mk A, mk B, Nw, bs, ()) k p z o = Xt ok z r /\ (∀ s, runM (mk P, mk A, mk B, Nw, bs, ()) k p d 0 o = some s -> ok = true /\ r = s) /\ (runM (mk P, mk A, mk B, Nw, bs, ()) k p d 0 o = none -> ok = false)
 | d, 0, o, h, _, _ => by omega
 | 0, n + 1, o, h, _, ho => by
  simp only [curve_Mult.l0, curve_Mult.l0s]
  rw [show decide (((0 : Nat) : Int) - 1 >= 0) = false from rfl, cond_false, if_neg (by decide)]
  exact ⟨true, o, rfl, fun s hs => by cases hs; exact ⟨rfl, rfl⟩, fun hn => by cases hn⟩
 | d + 1, n + 1, o, h, hd, ho => by
  obtain ⟨t1, _, t3⟩ := addR_run hP hA (B := B) Nw bs ho ho
  obtain ⟨t4, _, t6⟩ := addR_run hP hA (B := B) Nw bs t3 hp
  simp only [curve_Mult.l0, curve_Mult.l0s]
  have e0 : ((d + 1 : Nat) : Int) - 1 = (d : Int) := by omega
  rw [e0, show decide ((d : Int) >= 0) = true by rw [decide_eq_true_eq]; omega, cond_true, if_pos rfl, t1, Option.bind_some]
  have e1 : IntKind.i64.wrap (Int.tdiv (d : Int) 64) = ((d / 64 : Nat) : Int) := i64_tdiv (x := d) (c := 64) (by omega)
  have e2 : Int.tmod (d : Int) 64 = ((d % 64 : Nat) : Int) := tmod_nat d 64
  have e3 : decide (0 <= ((d / 64 : Nat) : Int) /\ ((d / 64 : Nat) : Int) < 4) = true := by rw [decide_eq_true_eq]; omega
  have e4 : decide (0 <= ((d % 64 : Nat) : Int)) = true := by rw [decide_eq_true_eq]; omega
  have hw := digs_getD B64_pos hk.2 (d / 64)
  have hbit : (band .u64 (shrI .u64 (k.getD (d / 64) 0) ((d % 64 : Nat) : Int)) 1 == 1) = bitK k d := by
   unfold bitK
   obtain ⟨X, hX⟩ := Int.eq_ofNat_of_zero_le hw.1
   have hX2 : X < 18446744073709551616 := by have := hw.2; unfold B64 at this; omega
   rw [hX, shr_nat (Nat.mod_lt _ (by decide))]
   have := band_nat (X := X >>> (d % 64)) (Y := 1) (Nat.lt_of_le_of_lt (Nat.shiftRight_le _ _) hX2) (by decide)
   rw [show ((1 : Nat) : Int) = 1 from rfl] at this
   rw [this, show ((X : Nat) : Int).toNat = X from rfl, <- shr_and_one]
   rw [Bool.eq_iff_iff, beq_iff_eq, beq_iff_eq]; omega
  simp only [e1, e2, e3, e4, Bool.true_or, cond_true, toNat_nat, hbit, cond_and]
  unfold runM
  rw [Nat.zero_add]
  have ih := fun o ho => mult_loop Xt K k hk p z hp d n o (by omega) (by omega) ho
  have stop : ∀ o, ∃ r, curve_Mult.l0 K Xt n false ((d : Int) - 1) (mk P, mk A, mk B, Nw, bs, ()) k p z o = Xt false z r := fun o => by
   obtain ⟨n, rfl⟩ : ∃ m, n = m + 1 := ⟨n - 1, by omega⟩
   simp only [curve_Mult.l0, curve_Mult.l0s]
   rw [if_neg (by cases decide ((d : Int) - 1 >= 0) <;> decide)]
   exact ⟨o, rfl⟩
  unfold curve_Mult.j0
  rw [wrap_i64 (x := (d : Int) - 1) (by omega) (by omega)]
  unfold stepM
  cases hk1 : (addR (mk P, mk A, mk B, Nw, bs, ()) o o).2 with
  | false =>
   simp only [Bool.false_and, Bool.false_eq_true, if_false, Option.bind_none]
   obtain ⟨r, hr⟩ := stop (addR (mk P, mk A, mk B, Nw, bs, ()) o o).1
   refine ⟨false, r, hr, ?_, ?_⟩
   ·intro s hs; cases hs
   ·intro _; rfl
  | true =>
   simp only [Bool.true_and, if_true]
   cases hb : bitK k d with
   | false =>
    simp only [Bool.false_eq_true, if_false, Option.bind_some]
    exact ih _ t3
   | true =>
    simp only [if_true, t4, Option.bind_some]
    cases hk2 : (addR (mk P, mk A, mk B, Nw, bs, ()) (addR (mk P, mk A, mk B, Nw, bs, ()) o o).1 p).2 with
    | false =>
     simp only [Bool.false_eq_true, if_false, Option.bind_none]
     obtain ⟨r, hr⟩ := stop (addR (mk P, mk A, mk B, Nw, bs, ()) (addR (mk P, mk A, mk B, Nw, bs, ()) o o).1 p).1
     refine ⟨false, r, hr, ?_, ?_⟩
     ·intro s hs; cases hs
     ·intro _; rfl
    | true =>
     simp only [if_true, Option.bind_some]
     exact ih _ t6
theorem often_inner {α : Type} (Rt : Bool -> PtD -> Option α) (Xt : Int -> CvD -> List Int -> PtD -> PtD -> PtD -> Option α) (K : Nat) (k : List Int) (hk : W4 k) (p z : PtD) (hp : PtOk P p) (w : Nat) (hw4 : w < 4) : ∀ (d n : Nat) (o : PtD), d < n -> d <= 64 -> PtOk P o ->
  (∃ s, runM (mk P, mk A, mk B, Nw, bs, ()) k p d (64 * w) o = some s /\ PtOk P s /\ basculeref_often.l1 K Rt Xt n (w : Int) ((d : Int) - 1) (mk P, mk A, mk B, Nw, bs, ()) k p z o = Xt (w : Int) (mk P, mk A, mk B, Nw, bs, ()) k p z s) \/
  (runM (mk P, mk A, mk B, Nw, bs, ()) k p d (64 * w) o = none /\ basculeref_often.l1 K Rt Xt n (w : Int) ((d : Int) - 1) (mk P, mk A, mk B, Nw, bs, ()) k p z o = Rt false zPt)
 | d, 0, o, h, _, _ => by omega
 | 0, n + 1, o, h, _, ho => by
  simp only [basculeref_often.l1, basculeref_often.l1s]
  rw [show decide (((0 : Nat) : Int) - 1 >= 0) = false from rfl, if_neg (by decide)]
  exact .inl ⟨o, rfl, ho, rfl⟩
 | d + 1, n + 1, o, h, hd, ho => by
  obtain ⟨_, t1, t3⟩ := addR_run hP hA (B := B) Nw bs ho ho
  obtain ⟨_, t4, t6⟩ := addR_run hP hA (B := B) Nw bs t3 hp
  simp only [basculeref_often.l1, basculeref_often.l1s]
  have e0 : ((d + 1 : Nat) : Int) - 1 = (d : Int) := by omega
  rw [e0, show decide ((d : Int) >= 0) = true by rw [decide_eq_true_eq]; omega, if_pos rfl, t1, Option.bind_some]
  have e3 : decide (0 <= (w : Int) /\ (w : Int) < 4) = true := by rw [decide_eq_true_eq]; omega
  have e4 : decide (0 <= (d : Int)) = true := by rw [decide_eq_true_eq]; omega
  have hwd := digs_getD B64_pos hk.2 w
  have hbit : (band .u64 (k.getD w 0) (shlI .u64 1 (d : Int)) != 0) = bitK k (64 * w + d) := by
   unfold bitK
   rw [show (64 * w + d) / 64 = w by omega, show (64 * w + d) % 64 = d by omega]
   obtain ⟨X, hX⟩ := Int.eq_ofNat_of_zero_le hwd.1
   have hX2 : X < 18446744073709551616 := by have := hwd.2; unfold B64 at this; omega
   rw [hX, shl1_nat (by omega), band_nat hX2 (two_pow_lt (by omega)), show ((X : Nat) : Int).toNat = X from rfl, <- and_pow_ne]
   rw [Bool.eq_iff_iff, bne_iff_ne, bne_iff_ne]; omega
  simp only [e3, e4, Bool.true_or, cond_true, toNat_nat, hbit, cond_and]
  unfold runM
  have ih := fun o ho => often_inner Rt Xt K k hk p z hp w hw4 d n o (by omega) (by omega) ho
  unfold basculeref_often.j0
  rw [wrap_i64 (x := (d : Int) - 1) (by omega) (by omega)]
  unfold stepM
  cases hk1 : (addR (mk P, mk A, mk B, Nw, bs, ()) o o).2 with
  | false =>
   simp only [Bool.false_and, Bool.false_eq_true, if_false, Option.bind_none, Bool.not_false, if_true]
   exact .inr ⟨trivial, trivial⟩
  | true =>
   simp only [Bool.true_and, if_true, Bool.not_true, Bool.false_eq_true, if_false]
   cases hb : bitK k (64 * w + d) with
   | false =>
    simp only [Bool.false_eq_true, if_false, Option.bind_some]
    exact ih _ t3
   | true =>
    simp only [if_true, t4, Option.bind_some]
    cases hk2 : (addR (mk P, mk A, mk B, Nw, bs, ()) (addR (mk P, mk A, mk B, Nw, bs, ()) o o).1 p).2 with
    | false =>
     simp only [Bool.false_eq_true, if_false, Option.bind_none, Bool.not_false, if_true]
     exact .inr ⟨trivial, trivial⟩
    | true =>
     simp only [if_true, Option.bind_some, Bool.not_true, Bool.false_eq_true, if_false]
     exact ih _ t6
theorem often_outer {α : Type} (Rt : Bool -> PtD -> Option α) (Xt : PtD -> PtD -> Option α) (K : Nat) (hK : 64 < K) (k : List Int) (hk : W4 k) (p z : PtD) (hp : PtOk P p) : ∀ (w n : Nat) (o : PtD), w < n -> w <= 4 -> PtOk P o ->
  (∃ s, runM (mk P, mk A, mk B, Nw, bs, ()) k p (64 * w) 0 o = some s /\ PtOk P s /\ basculeref_often.l0 K Rt Xt n ((w : Int) - 1) (mk P, mk A, mk B, Nw, bs, ()) k p z o = Xt z s) \/
  (runM (mk P, mk A, mk B, Nw, bs, ()) k p (64 * w) 0 o = none /\ basculeref_often.l0 K Rt Xt n ((w : Int) - 1) (mk P, mk A, mk B, Nw, bs, ()) k p z o = Rt false zPt)
 | w, 0, o, h, _, _ => by omega
 | 0, n + 1, o, h, _, ho => by
  simp only [basculeref_often.l0, basculeref_often.l0s]
  rw [show decide (((0 : Nat) : Int) - 1 >= 0) = false from rfl, if_neg (by decide)]
  exact .inl ⟨o, rfl, ho, rfl⟩
 | w + 1, n + 1, o, h, hw, ho => by
  simp only [basculeref_often.l0, basculeref_often.l0s]
  have e0 : ((w + 1 : Nat) : Int) - 1 = (w : Int) := by omega
  rw [e0, show decide ((w : Int) >= 0) = true by rw [decide_eq_true_eq]; omega, if_pos rfl]
  rw [show 64 * (w + 1) = 64 * w + 64 by omega, runM_split, Nat.zero_add]
  rcases often_inner hP hA Nw bs Rt (fun x9 c3 c4 c5 c6 c8 => basculeref_often.j1 (basculeref_often.l0 K Rt Xt n) x9 c3 c4 c5 c6 c8) K k hk p z hp w (by omega) 64 K o hK (by omega) ho with ⟨s, h1, h2, h3⟩ | ⟨h1, h3⟩
  ·rw [h1, Option.bind_some]
   have h3 := h3
   rw [show ((64 : Nat) : Int) - 1 = 63 from rfl] at h3
   rw [h3]
   unfold basculeref_often.j1
   rw [wrap_i64 (x := (w : Int) - 1) (by omega) (by omega)]
   exact often_outer Rt Xt K hK k hk p z hp w n s (by omega) (by omega) h2
  ·rw [h1, Option.bind_none]
   rw [show ((64 : Nat) : Int) - 1 = 63 from rfl] at h3
   exact .inr ⟨rfl, h3⟩
theorem add_on {p q : PtD} (hp : PtOk P p) (hq : PtOk P q) (h1 : OnV P A B p) (h2 : OnV P A B q) (hk : (addR (mk P, mk A, mk B, Nw, bs, ()) p q).2 = true) : OnV P A B (addR (mk P, mk A, mk B, Nw, bs, ()) p q).1 := by
 obtain ⟨s, ok, t1, t2, t3, t4⟩ := add_both hP hA (B := B) Nw bs hp hq
 unfold addR at hk ⊢
 rw [t1] at hk ⊢
 exact t4 h1 h2 hk
theorem step_on {k : List Int} {p o s : PtD} (hp : PtOk P p) (ho : PtOk P o) (h1 : OnV P A B p) (h2 : OnV P A B o) (i : Nat) (h : stepM (mk P, mk A, mk B, Nw, bs, ()) k p i o = some s) : OnV P A B s := by
 obtain ⟨_, _, t3⟩ := addR_run hP hA (B := B) Nw bs ho ho
 unfold stepM at h
 split at h
 ·rename_i hk
  have a1 := add_on hP hA (B := B) Nw bs ho ho h2 h2 hk
  split at h
  ·split at h
   ·rename_i hk2
    cases h; exact add_on hP hA (B := B) Nw bs t3 hp a1 h1 hk2
   ·cases h
  ·cases h; exact a1
 ·cases h
theorem run_on {k : List Int} {p : PtD} (hp : PtOk P p) (h1 : OnV P A B p) : ∀ (d b : Nat) (o s : PtD), PtOk P o -> OnV P A B o -> runM (mk P, mk A, mk B, Nw, bs, ()) k p d b o = some s -> PtOk P s /\ OnV P A B s
 | 0, b, o, s, h2, h3, h => by cases h; exact ⟨h2, h3⟩
 | d + 1, b, o, s, h2, h3, h => by
  unfold runM at h
  cases hs : stepM (mk P, mk A, mk B, Nw, bs, ()) k p (b + d) o with
  | none => rw [hs] at h; cases h
  | some t =>
   rw [hs] at h
   exact run_on hp h1 d b t s (step_ok hP hA (B := B) Nw bs hp h2 _ hs) (step_on hP hA (B := B) Nw bs hp h2 h1 h3 _ hs) h
end
theorem mult_full {P A B N x y : Int} {f : Bool} {k : List Int} {px py : Int} {pf : Bool} (b1 : 0 <= P /\ P < M256) (b2 : 0 <= A /\ A < M256) (b3 : 0 <= B /\ B < M256) (b4 : 0 <= N /\ N < M256) (b5 : 0 <= x /\ x < M256) (b6 : 0 <= y /\ y < M256)
  (h0 : curveE P A B N x y f = 0) (hk : W4 k) (p1 : 0 <= px /\ px < M256) (p2 : 0 <= py /\ py < M256) (hp' : onB P A B px py pf = true) :
  ∃ (s t : PtD) (e : Int) (ok : Bool), curve_Mult.run (mk P, mk A, mk B, mk N, (mk x, mk y, f, ()), ()) k (mk px, mk py, pf, ()) = some (s, e, ()) /\ basculeref_often.run (mk P, mk A, mk B, mk N, (mk x, mk y, f, ()), ()) k (mk px, mk py, pf, ()) = some (t, ok, ()) /\
   (ok = true -> e = 0 /\ t = s /\ PtOk P s /\ OnV P A B s) /\ (ok = false -> e = 16 /\ s = zPt) := by
 obtain ⟨e1, e2⟩ := curve_both f b1 b2 b3 b4 b5 b6
 obtain ⟨g1, g2, g3, g4⟩ := curveE_ok h0
 have hM : 1 < P /\ P < M256 := ⟨by omega, b1.2⟩
 obtain ⟨o1, o2⟩ := on_both hM ⟨b2.1, g3⟩ ⟨b3.1, g4⟩ (mk N) (mk x, mk y, f, ()) pf p1 p2
 have hfl : ∀ Rt : Int -> Option Int, curve_fault.l0 fuel Rt (curve_fault.j0 Rt) fuel [(mk px, mk py, pf, ())] ((([(mk px, mk py, pf, ())] : List PtD).length : Nat) : Int) 0 (mk P, mk A, mk B, mk N, (mk x, mk y, f, ()), ()) = if onB P A B px py pf = true then Rt 0 else Rt 16 := by
  intro Rt
  obtain ⟨q, hq⟩ : ∃ q, fuel = q + 2 := ⟨fuel - 2, by rw [fuel_big]⟩
  rw [hq]
  simp only [curve_fault.l0, curve_fault.l0s, curve_fault.j0]
  have s1 : (decide ((0 : Int) < (([(mk px, mk py, pf, ())] : List PtD).length : Int))) = true := rfl
  have s2 : (decide ((1 : Int) < (([(mk px, mk py, pf, ())] : List PtD).length : Int))) = false := rfl
  have r1 : (0 : Int) <= 0 /\ (0 : Int) < (([(mk px, mk py, pf, ())] : List PtD).length : Int) := by simp
  have w1 : IntKind.i64.wrap (0 + 1) = 1 := rfl
  have d1 : ([(mk px, mk py, pf, ())] : List PtD).getD (Int.toNat 0) ([0, 0, 0, 0], [0, 0, 0, 0], false, ()) = (mk px, mk py, pf, ()) := rfl
  rw [w1, s1, s2, d1, if_pos r1, o1, if_pos rfl, Option.bind_some]
  cases onB P A B px py pf <;> rfl
 have hpo := pt_on hM hp' p1 p2
 have hpv : OnV P A B ((mk px, mk py, pf, ()) : PtD) := by
  unfold OnV
  simp only []
  rw [mk_val p1, mk_val p2]; exact hp'
 have hfar : PtOk P ([0, 0, 0, 0], [0, 0, 0, 0], true, ()) := zPt_ok hM true
 have hfv : OnV P A B ([0, 0, 0, 0], [0, 0, 0, 0], true, ()) := by simp [OnV, onB, val]
 unfold curve_Mult.run curve_Mult.top curve_fault.run curve_fault.top
 rw [e1]
 simp only [Option.bind_some]
 rw [h0, if_neg (by decide), hfl, hp']
 simp only [if_true, Option.bind_some, show ((0 : Int) != 0) = false from rfl, Bool.false_eq_true, if_false, BEq.rfl, Bool.not_true, cond_false]
 unfold basculeref_often.run basculeref_often.top
 obtain ⟨ok, r, m1, m2, m3⟩ := mult_loop hM ⟨b2.1, g3⟩ (B := B) (mk N) (mk x, mk y, f, ()) (fun x10 c6 c9 => curve_Mult.j1 (fun x7 c6 => some (c6, x7, ())) x10 c6 c9) fuel k hk (mk px, mk py, pf, ()) zPt hpo 256 fuel ([0, 0, 0, 0], [0, 0, 0, 0], true, ()) (by rw [fuel_big]; omega) (by omega) hfar
 rw [show ((256 : Nat) : Int) - 1 = 255 from rfl] at m1
 rw [m1]
 rcases often_outer hM ⟨b2.1, g3⟩ (B := B) (mk N) (mk x, mk y, f, ()) (fun x7 c6 => some (c6, x7, ())) (fun c6 c8 => basculeref_often.j2 (fun x7 c6 => some (c6, x7, ())) c6 c8) fuel (by rw [fuel_big]; omega) k hk (mk px, mk py, pf, ()) zPt hpo 4 fuel ([0, 0, 0, 0], [0, 0, 0, 0], true, ()) (by rw [fuel_big]; omega) (by omega) hfar with ⟨s, h1, h2, h3⟩ | ⟨h1, h3⟩
 ·rw [show ((4 : Nat) : Int) - 1 = 3 from rfl] at h3
  rw [h3]
  obtain ⟨rfl, rfl⟩ := m2 s h1
  exact ⟨_, _, _, _, rfl, rfl, fun _ => ⟨rfl, rfl, run_on hM ⟨b2.1, g3⟩ (B := B) (mk N) (mk x, mk y, f, ()) hpo hpv _ _ _ _ hfar hfv h1⟩, fun h => absurd h (by decide)⟩
 ·rw [show ((4 : Nat) : Int) - 1 = 3 from rfl] at h3
  rw [h3]
  have := m3 h1
  subst this
  exact ⟨_, _, _, _, rfl, rfl, fun h => absurd h (by decide), fun _ => ⟨rfl, rfl⟩⟩
theorem curveE_on {P A B N x y : Int} {f : Bool} (h : curveE P A B N x y f = 0) : onB P A B x y f = true /\ f = false /\ 1 < N := by
 unfold curveE at h
 split at h
 ·rename_i hg
  split at h
  ·exact absurd h (by decide)
  ·rename_i h2
   simp only [Bool.or_eq_true, Bool.not_eq_true', not_or, Bool.not_eq_true, Bool.not_eq_false] at h2
   unfold goodC at hg
   simp only [Bool.and_eq_true, decide_eq_true_eq] at hg
   exact ⟨h2.2, h2.1.2, hg.2⟩
 ·exact absurd h (by decide)
def PtW (s : PtD) : Prop := W4 s.1 /\ W4 s.2.1
theorem ptOk_w {P : Int} {s : PtD} (h : PtOk P s) : PtW s := by
 obtain ⟨x, y, f, rfl, _, _⟩ := h
 exact ⟨mk_w _, mk_w _⟩
theorem zPt_w : PtW zPt := ⟨W4.zero, W4.zero⟩
end Go.Bx
namespace Go.Bx
open Go Go.Bx.Rg
set_option linter.unusedSimpArgs false
set_option linter.unusedVariables false
theorem onV_num {P A B X Y : Int} {F : Bool} (hX : 0 <= X /\ X < M256) (hY : 0 <= Y /\ Y < M256) (h : OnV P A B ((mk X, mk Y, F, ()) : PtD)) : onB P A B X Y F = true := by
 unfold OnV at h
 simp only [] at h
 rw [mk_val hX, mk_val hY] at h
 exact h
section
variable {P A B N x y : Int} {f : Bool} (b1 : 0 <= P /\ P < M256) (b2 : 0 <= A /\ A < M256) (b3 : 0 <= B /\ B < M256) (b4 : 0 <= N /\ N < M256) (b5 : 0 <= x /\ x < M256) (b6 : 0 <= y /\ y < M256) (h0 : curveE P A B N x y f = 0)
include b1 b2 b3 b4 b5 b6 h0
theorem add_full {p q : PtD} (hp : PtOk P p) (hq : PtOk P q) (vp : OnV P A B p) (vq : OnV P A B q) :
  ∃ (s t : PtD) (e : Int) (ok : Bool), curve_Add.run (mk P, mk A, mk B, mk N, (mk x, mk y, f, ()), ()) p q = some (s, e, ()) /\ basculeref_together.run (mk P, mk A, mk B, mk N, (mk x, mk y, f, ()), ()) p q = some (t, ok, ()) /\
   (ok = true -> e = 0 /\ t = s /\ PtOk P s /\ OnV P A B s) /\ (ok = false -> e = 16) := by
 obtain ⟨e1, e2⟩ := curve_both f b1 b2 b3 b4 b5 b6
 obtain ⟨g1, g2, g3, g4⟩ := curveE_ok h0
 have hM : 1 < P /\ P < M256 := ⟨by omega, b1.2⟩
 obtain ⟨s, ok, t1, t2, t3, t4⟩ := add_both hM ⟨b2.1, g3⟩ (B := B) (mk N) (mk x, mk y, f, ()) hp hq
 obtain ⟨px, py, pf, rfl, p1, p2⟩ := hp
 obtain ⟨qx, qy, qf, rfl, q1, q2⟩ := hq
 have p1' : 0 <= px /\ px < M256 := ⟨p1.1, by omega⟩
 have p2' : 0 <= py /\ py < M256 := ⟨p2.1, by omega⟩
 have q1' : 0 <= qx /\ qx < M256 := ⟨q1.1, by omega⟩
 have q2' : 0 <= qy /\ qy < M256 := ⟨q2.1, by omega⟩
 obtain ⟨o1, _⟩ := on_both hM ⟨b2.1, g3⟩ ⟨b3.1, g4⟩ (mk N) (mk x, mk y, f, ()) pf p1' p2'
 obtain ⟨o3, _⟩ := on_both hM ⟨b2.1, g3⟩ ⟨b3.1, g4⟩ (mk N) (mk x, mk y, f, ()) qf q1' q2'
 unfold curve_Add.run curve_Add.top curve_fault.run curve_fault.top
 rw [e1]
 simp only [Option.bind_some]
 obtain ⟨k, hk⟩ : ∃ k, fuel = k + 3 := ⟨fuel - 3, by rw [fuel_big]⟩
 rw [h0, hk]
 simp only [curve_fault.l0, curve_fault.l0s, curve_fault.j0]
 have s1 : (decide ((0 : Int) < (([(mk px, mk py, pf, ()), (mk qx, mk qy, qf, ())] : List PtD).length : Int))) = true := rfl
 have s2 : (decide ((1 : Int) < (([(mk px, mk py, pf, ()), (mk qx, mk qy, qf, ())] : List PtD).length : Int))) = true := rfl
 have s3 : (decide ((2 : Int) < (([(mk px, mk py, pf, ()), (mk qx, mk qy, qf, ())] : List PtD).length : Int))) = false := rfl
 have r1 : (0 : Int) <= 0 /\ (0 : Int) < (([(mk px, mk py, pf, ()), (mk qx, mk qy, qf, ())] : List PtD).length : Int) := by simp
 have r2 : (0 : Int) <= 1 /\ (1 : Int) < (([(mk px, mk py, pf, ()), (mk qx, mk qy, qf, ())] : List PtD).length : Int) := by simp
 have w1 : IntKind.i64.wrap (0 + 1) = 1 := rfl
 have w2 : IntKind.i64.wrap (1 + 1) = 2 := rfl
 have d1 : ([(mk px, mk py, pf, ()), (mk qx, mk qy, qf, ())] : List PtD).getD (Int.toNat 0) ([0, 0, 0, 0], [0, 0, 0, 0], false, ()) = (mk px, mk py, pf, ()) := rfl
 have d2 : ([(mk px, mk py, pf, ()), (mk qx, mk qy, qf, ())] : List PtD).getD (Int.toNat 1) ([0, 0, 0, 0], [0, 0, 0, 0], false, ()) = (mk qx, mk qy, qf, ()) := rfl
 rw [w1, w2, s1, s2, s3, d1, d2, if_pos r1, if_pos r2, o1, o3, onV_num p1' p2' vp, onV_num q1' q2' vq]
 simp only [show ((0 : Int) != 0) = false from rfl, BEq.rfl, if_true, if_false, Bool.false_eq_true, Option.bind_some, Bool.not_true]
 rw [t1, t2]
 cases ok with
 | false => exact ⟨_, _, _, _, rfl, rfl, fun h => absurd h (by decide), fun _ => rfl⟩
 | true => exact ⟨_, _, _, _, rfl, rfl, fun _ => ⟨rfl, rfl, t3, t4 vp vq rfl⟩, fun h => absurd h (by decide)⟩
theorem sum2_full {u v : Int} {p q : PtD} (hp : PtOk P p) (hq : PtOk P q) (vp : OnV P A B p) (vq : OnV P A B q) :
  ∃ (s t : PtD) (e : Int) (ok : Bool), sign_sum2.run (mk P, mk A, mk B, mk N, (mk x, mk y, f, ()), ()) (mk u) p (mk v) q = some (s, e, ()) /\ basculeref_both.run (mk P, mk A, mk B, mk N, (mk x, mk y, f, ()), ()) (mk u) p (mk v) q = some (t, ok, ()) /\
   (ok = true -> e = 0 /\ t = s /\ PtOk P s /\ OnV P A B s) /\ (ok = false -> e = 16) := by
 have hp' := hp
 have hq' := hq
 obtain ⟨px, py, pf, rfl, p1, p2⟩ := hp'
 obtain ⟨qx, qy, qf, rfl, q1, q2⟩ := hq'
 have p1' : 0 <= px /\ px < M256 := ⟨p1.1, by omega⟩
 have p2' : 0 <= py /\ py < M256 := ⟨p2.1, by omega⟩
 have q1' : 0 <= qx /\ qx < M256 := ⟨q1.1, by omega⟩
 have q2' : 0 <= qy /\ qy < M256 := ⟨q2.1, by omega⟩
 obtain ⟨s1, t1, e1, k1, m1, m2, m3, m4⟩ := mult_full b1 b2 b3 b4 b5 b6 h0 (mk_w u) p1' p2' (onV_num p1' p2' vp)
 obtain ⟨s2, t2, e2, k2, n1, n2, n3, n4⟩ := mult_full b1 b2 b3 b4 b5 b6 h0 (mk_w v) q1' q2' (onV_num q1' q2' vq)
 unfold sign_sum2.run sign_sum2.top basculeref_both.run basculeref_both.top
 rw [m1, m2, n1, n2]
 simp only [Option.bind_some]
 cases k1 with
 | false =>
  rw [(m4 rfl).1]
  exact ⟨_, _, _, _, rfl, rfl, fun h => absurd h (by decide), fun _ => rfl⟩
 | true =>
  obtain ⟨rfl, rfl, o1, v1⟩ := m3 rfl
  cases k2 with
  | false =>
   rw [(n4 rfl).1]
   exact ⟨_, _, _, _, rfl, rfl, fun h => absurd h (by decide), fun _ => rfl⟩
  | true =>
   obtain ⟨rfl, rfl, o2, v2⟩ := n3 rfl
   obtain ⟨s, t, e, ok, a1, a2, a3, a4⟩ := add_full b1 b2 b3 b4 b5 b6 h0 o1 o2 v1 v2
   simp only [bne_self_eq_false, Bool.false_eq_true, if_false, Bool.not_true, cond_false]
   rw [a1, a2]
   exact ⟨_, _, _, _, rfl, rfl, a3, a4⟩
end
end Go.Bx
namespace Go.Bx
open Go
set_option linter.unusedSimpArgs false
set_option linter.unusedVariables false
section
variable {x m a : List Int} {F : Int -> Int}
theorem field_bits_s1_inner {α : Type} (k : Nat) (Xt : Bool -> Int -> List Int -> List Int -> List Int -> List Int -> Option α) (hx : W4 x)
  (hF : ∀ (q : Int) (b : Bool) (o : List Int), 0 <= q -> W4 o -> val B64 o = F q -> ∃ o', field_Pow_1_s0.run b o m a = some (o', m, a, ()) /\ W4 o' /\ val B64 o' = F (2 * q + if b = true then 1 else 0)) (j : Nat) (hj : j < 4) :
  ∀ (n i : Nat) (b : Bool) (o : List Int), i < n -> i <= 64 -> W4 o -> val B64 o = F (val B64 x / ((2 ^ (64 * j + i) : Nat) : Int)) -> (b = false -> val B64 x / ((2 ^ (64 * j + i) : Nat) : Int) = 0) ->
  ∃ b' o', field_bits_s1.l1 k Xt n b (j : Int) ((i : Int) - 1) o m a x = Xt b' (j : Int) o' m a x /\ W4 o' /\ val B64 o' = F (val B64 x / ((2 ^ (64 * j) : Nat) : Int)) /\ (b' = false -> val B64 x / ((2 ^ (64 * j) : Nat) : Int) = 0)
 | 0, i, b, o, h, _, _, _, _ => by omega
 | n + 1, 0, b, o, h, hi, ho, hv, hb => by
  refine ⟨b, o, ?_, ho, hv, hb⟩
  simp only [field_bits_s1.l1, field_bits_s1.l1s]
  rw [if_neg (by simp)]
 | n + 1, i + 1, b, o, h, hi, ho, hv, hb => by
  simp only [field_bits_s1.l1, field_bits_s1.l1s]
  have ei : ((i + 1 : Nat) : Int) - 1 = (i : Int) := by omega
  rw [ei, if_pos (by rw [decide_eq_true_eq]; omega), if_pos (by omega), if_pos (by omega), toNat_nat]
  obtain ⟨X, hX, hX2⟩ := nat_of_dig (digs_getD B64_pos hx.2 j)
  have hbit := bit_at hx.2 (w := j) (k := i) (by omega) hX
  have hs : X >>> i < 18446744073709551616 := Nat.lt_of_le_of_lt (Nat.shiftRight_le _ _) hX2
  have hband : band .u64 (shrI .u64 (x.getD j 0) (i : Int)) 1 = val B64 x / ((2 ^ (64 * j + i) : Nat) : Int) % 2 := by
   rw [hX, shr_nat (by omega), <- hbit]
   exact band_nat (X := X >>> i) (Y := 1) hs (by omega)
  rw [hband]
  have hq : val B64 x / ((2 ^ (64 * j + i) : Nat) : Int) = 2 * (val B64 x / ((2 ^ (64 * j + (i + 1)) : Nat) : Int)) + val B64 x / ((2 ^ (64 * j + i) : Nat) : Int) % 2 := by
   have e2 : ((2 ^ (64 * j + (i + 1)) : Nat) : Int) = ((2 ^ (64 * j + i) : Nat) : Int) * 2 := by rw [<- Nat.add_assoc, Nat.pow_succ]; simp
   rw [e2, <- Int.ediv_ediv_of_nonneg (Int.natCast_nonneg _)]
   omega
  have hq0 : 0 <= val B64 x / ((2 ^ (64 * j + (i + 1)) : Nat) : Int) := Int.ediv_nonneg hx.bound.1 (Int.natCast_nonneg _)
  generalize val B64 x / ((2 ^ (64 * j + (i + 1)) : Nat) : Int) = q at *
  generalize hQ : val B64 x / ((2 ^ (64 * j + i) : Nat) : Int) = Q at *
  unfold field_bits_s1.j1
  have ew : IntKind.i64.wrap ((i : Int) - 1) = (i : Int) - 1 := wrap_i64 (by omega) (by omega)
  rw [ew]
  by_cases hc : (cond b true (Q % 2 == 1)) = true
  ·rw [if_pos hc]
   obtain ⟨o', o1, o2, o3⟩ := hF q (Q % 2 == 1) o hq0 ho hv
   rw [o1, Option.bind_some]
   have hQ' : 2 * q + (if (Q % 2 == 1) = true then 1 else 0) = Q := by
    by_cases hb1 : Q % 2 = 1
    ·rw [if_pos (by simpa using hb1)]; omega
    ·rw [if_neg (by simpa using hb1)]; omega
   rw [hQ'] at o3
   refine field_bits_s1_inner k Xt hx hF j hj n i _ o' (by omega) (by omega) o2 (by rw [hQ]; exact o3) (fun h => ?_)
   rw [hc] at h; cases h
  ·rw [if_neg hc]
   have hb0 : b = false /\ Q % 2 ≠ 1 := by
    cases b with
    | true => exact absurd rfl hc
    | false => exact ⟨rfl, fun e => hc (by simp [e])⟩
   have hz := hb hb0.1
   have hQ0 : Q = 0 := by omega
   refine field_bits_s1_inner k Xt hx hF j hj n i _ o (by omega) (by omega) ho (by rw [hQ, hQ0, hv, hz]) (fun _ => by rw [hQ, hQ0])
theorem field_bits_s1_outer {α : Type} (k : Nat) (hk : 64 < k) (Xt : List Int -> List Int -> List Int -> Option α) (hx : W4 x)
  (hF : ∀ (q : Int) (b : Bool) (o : List Int), 0 <= q -> W4 o -> val B64 o = F q -> ∃ o', field_Pow_1_s0.run b o m a = some (o', m, a, ()) /\ W4 o' /\ val B64 o' = F (2 * q + if b = true then 1 else 0)) :
  ∀ (n j : Nat) (b : Bool) (o : List Int), j < n -> j <= 4 -> W4 o -> val B64 o = F (val B64 x / ((2 ^ (64 * j) : Nat) : Int)) -> (b = false -> val B64 x / ((2 ^ (64 * j) : Nat) : Int) = 0) ->
  ∃ o', field_bits_s1.l0 k Xt n b ((j : Int) - 1) o m a x = Xt o' m a /\ W4 o' /\ val B64 o' = F (val B64 x)
 | 0, j, b, o, h, _, _, _, _ => by omega
 | n + 1, 0, b, o, h, hi, ho, hv, hb => by
  refine ⟨o, ?_, ho, by simpa using hv⟩
  simp only [field_bits_s1.l0, field_bits_s1.l0s]
  rw [if_neg (by simp)]
 | n + 1, j + 1, b, o, h, hi, ho, hv, hb => by
  simp only [field_bits_s1.l0, field_bits_s1.l0s]
  have ei : ((j + 1 : Nat) : Int) - 1 = (j : Int) := by omega
  rw [ei, if_pos (by rw [decide_eq_true_eq]; omega), if_pos (by omega), toNat_nat]
  unfold field_bits_s1.j0
  have ew : IntKind.i64.wrap ((j : Int) - 1) = (j : Int) - 1 := wrap_i64 (by omega) (by omega)
  rw [ew]
  by_cases hc : (cond (x.getD j 0 == 0) (not b) false) = true
  ·rw [if_pos hc]
   have hz : x.getD j 0 = 0 /\ b = false := by
    revert hc
    cases hw : (x.getD j 0 == 0) with
    | true => intro h; exact ⟨by simpa using hw, by simpa using h⟩
    | false => intro h; simp at h
   have h0 := hb hz.2
   have hd := drop_div hx.2 j
   have hd1 := drop_div hx.2 (j + 1)
   have hvd := val_drop B64 x j
   have hQ0 : val B64 x / ((2 ^ (64 * j) : Nat) : Int) = 0 := by
    rw [hd, hvd, hz.1, <- hd1, h0]; rfl
   exact field_bits_s1_outer k hk Xt hx hF n j b o (by omega) (by omega) ho (by rw [hQ0, hv, h0]) (fun _ => hQ0)
  ·rw [if_neg hc]
   have e64 : (63 : Int) = ((64 : Nat) : Int) - 1 := by omega
   have hm64 : 64 * (j + 1) = 64 * j + 64 := by omega
   rw [hm64] at hv hb
   obtain ⟨b', o', e1, e2, e3, e4⟩ := field_bits_s1_inner k (fun (x4 : Bool) (x5 : Int) (c0 : List Int) (c1 : List Int) (c2 : List Int) (c5 : List Int) => field_bits_s1.l0 k Xt n x4 (IntKind.i64.wrap (x5 - 1)) c0 c1 c2 c5) hx hF j (by omega) k 64 b o hk (by omega) ho hv hb
   rw [e64, e1, ew]
   exact field_bits_s1_outer k hk Xt hx hF n j b' o' (by omega) (by omega) e2 e3 e4
theorem field_bits_s1_run {x m a o : List Int} {F : Int -> Int} (hx : W4 x) (ho : W4 o) (h0 : val B64 o = F 0)
  (hF : ∀ (q : Int) (b : Bool) (o : List Int), 0 <= q -> W4 o -> val B64 o = F q -> ∃ o', field_Pow_1_s0.run b o m a = some (o', m, a, ()) /\ W4 o' /\ val B64 o' = F (2 * q + if b = true then 1 else 0)) :
  ∃ o', field_bits_s1.run x o m a = some (o', m, a, ()) /\ W4 o' /\ val B64 o' = F (val B64 x) := by
 unfold field_bits_s1.run field_bits_s1.top
 have hz : val B64 x / ((2 ^ (64 * 4) : Nat) : Int) = 0 := by
  have hb := val_bound B64_pos hx.2
  rw [hx.1] at hb
  exact Int.ediv_eq_zero_of_lt hb.1 (by rw [<- pow64]; exact hb.2)
 have := fun N (hN : 64 < N) => field_bits_s1_outer N hN (fun (c0 : List Int) (c1 : List Int) (c2 : List Int) => some (c0, c1, c2, ())) hx hF N 4 false o (by omega) (by omega) ho (by rw [hz]; exact h0) (fun _ => hz)
 obtain ⟨o', e1, e2, e3⟩ := this fuel (by rw [fuel_big]; omega)
 exact ⟨o', e1, e2, e3⟩
end
theorem pow_split (A : Int) (q : Int) (hq : 0 <= q) (b : Bool) : A ^ (2 * q + if b = true then 1 else 0).toNat = A ^ q.toNat * A ^ q.toNat * (if b = true then A else 1) := by
 obtain ⟨n, rfl⟩ : ∃ n : Nat, q = (n : Int) := ⟨q.toNat, by omega⟩
 cases b with
 | true =>
  rw [if_pos rfl, if_pos rfl]
  have e : (2 * (n : Int) + 1).toNat = n + n + 1 := by omega
  rw [e, Int.toNat_natCast, Int.pow_succ, Int.pow_add]
 | false =>
  rw [if_neg (by simp), if_neg (by simp)]
  have e : (2 * (n : Int) + 0).toNat = n + n := by omega
  rw [e, Int.toNat_natCast, Int.pow_add, Int.mul_one]
theorem pow_bits {a x m o : List Int} (ha : W4 a) (hx : W4 x) (hm : W4 m) (h1 : val B64 a < val B64 m) (ho : W4 o) (hv : val B64 o = 1 % val B64 m) : ∃ r, field_bits_s1.run x o m a = some (r, m, a, ()) /\ W4 r /\ val B64 r = (val B64 a ^ (val B64 x).toNat) % val B64 m := by
 have ba := ha.bound
 have hpos : 0 < val B64 m := by omega
 exact field_bits_s1_run (m := m) (a := a) (F := fun q => (val B64 a ^ q.toNat) % val B64 m) hx ho (by rw [hv]; simp) (fun q b o hq ho hv => by
  have hlt := Int.emod_lt_of_pos (val B64 a ^ q.toNat) hpos
  unfold field_Pow_1_s0.run field_Pow_1_s0.top
  obtain ⟨r1, k1, k2, k3⟩ := field_mul_run ho ho hm (by rw [hv]; exact hlt)
  rw [k1, Option.bind_some]
  have key : val B64 r1 = (val B64 a ^ q.toNat * val B64 a ^ q.toNat) % val B64 m := by
   rw [k3, hv, <- Int.mul_emod]
  simp only
  rw [pow_split _ q hq b]
  cases b with
  | true =>
   rw [if_pos rfl, if_pos rfl]
   obtain ⟨r2, j1, j2, j3⟩ := field_mul_run k2 ha hm (by rw [key]; exact Int.emod_lt_of_pos _ hpos)
   rw [j1, Option.bind_some]
   refine ⟨r2, rfl, j2, ?_⟩
   rw [j3, key, Int.mul_emod, Int.emod_emod, <- Int.mul_emod]
  | false =>
   rw [if_neg (by simp), if_neg (by simp)]
   exact ⟨r1, rfl, k2, by rw [key, Int.mul_one]⟩)
end Go.Bx
namespace Go.Bx
open Go Go.Bx.Rg
set_option linter.unusedSimpArgs false
set_option linter.unusedVariables false
theorem powN {M a x : Int} (hM : 1 < M /\ M < M256) (ha : 0 <= a /\ a < M) (hx : 0 <= x /\ x < M256) : field_Pow.run (mk a) (mk x) (mk M) = some (mk (a ^ x.toNat % M), 0, ()) := by
 have hw : ∀ y ∈ [mk a], W4 y := fun y hy => by
  simp only [List.mem_cons, List.not_mem_nil, or_false] at hy
  subst hy; exact mk_w _
 have he : faultE (mk M) [mk a] = 0 := by
  rw [show [mk a] = [a].map mk from rfl, faultN hM (fun x hx => by simp only [List.mem_cons, List.not_mem_nil, or_false] at hx; subst hx; exact ha)]
 have hne : mk M ≠ [0, 0, 0, 0] := (mk_w M).ne.2 (by rw [Rg.valM hM]; omega)
 unfold field_Pow.run field_Pow.top
 rw [fault_run (mk_w M) (by simp) hw, Option.bind_some, he, if_neg (by decide)]
 obtain ⟨q, r, d1, _, _, d4, d5, _, d7⟩ := wide_divmod one4.1.1 one4.1.2 (mk_w M).1 (mk_w M).2
 rw [if_neg hne, one4.2] at d7
 obtain ⟨r1, e1, w1, v1⟩ := pow_bits (mk_w a) (mk_w x) (mk_w M) (by rw [inM hM ha, Rg.valM hM]; exact ha.2) ⟨d4, d5⟩ d7
 rw [inM hM ha, mk_val hx, Rg.valM hM] at v1
 rw [d1, Option.bind_some, e1, Option.bind_some, mk_eq w1 v1]
theorem par_prog {y : Int} (h : 0 <= y /\ y < M256) : (Int.tmod ((mk y).getD 0 0) 2 == 1) = decide (y % 2 = 1) := by
 have g0 : (mk y).getD 0 0 = y % 18446744073709551616 := rfl
 rw [g0, tmod_pos (Int.emod_nonneg _ (by decide)), Bool.eq_iff_iff, beq_iff_eq, decide_eq_true_eq]; omega
theorem band1 {n : Int} (h : 0 <= n /\ n < 18446744073709551616) : band .u64 n 1 = n % 2 := by
 obtain ⟨X, rfl⟩ := Int.eq_ofNat_of_zero_le h.1
 have hX : X < 18446744073709551616 := by omega
 have := band_nat (X := X) (Y := 1) hX (by decide)
 rw [show ((1 : Nat) : Int) = 1 from rfl] at this
 rw [this, Nat.and_one_is_mod]
 push_cast; rfl
theorem par_ref {y : Int} (h : 0 <= y /\ y < M256) : (band .u64 ((mk y).getD 0 0) 1 == 1) = decide (y % 2 = 1) := by
 have g0 : (mk y).getD 0 0 = y % 18446744073709551616 := rfl
 rw [g0, band1 ⟨Int.emod_nonneg _ (by decide), Int.emod_lt_of_pos _ (by decide)⟩, Bool.eq_iff_iff, beq_iff_eq, decide_eq_true_eq]; omega
theorem beqB (a b : Bool) : beqD .bool a b = (a == b) := by cases a <;> cases b <;> rfl
theorem half_ref {P : Int} (hM : 3 < P /\ P < M256) (h4 : P % 4 = 3) {α : Type} (K : List Int -> Option α) :
  ((basculeref_of.run (mk P)).bind fun y3 => (basculeref_plus.run y3 [1]).bind fun y4 => (basculeref_wide.run y4).bind fun y5 => (basculeref_Order.run y5.1 (mk P)).bind fun y6 => (basculeref_Quotient.run y5.1 [4, 0, 0, 0]).bind fun y7 =>
   if (decide (y6 < 0)) = true then K [0, 0, 0, 4611686018427387904] else K y7.1) = K (mk (P / 4 + 1)) := by
 have hP : 0 <= P /\ P < M256 := ⟨by omega, hM.2⟩
 obtain ⟨o, e1, e2, e3, e4⟩ := ref_of (mk_w P).1 (mk_w P).2
 rw [mk_val hP] at e4
 obtain ⟨r, p1, p2, p3, p4⟩ := ref_plus (b := [1]) e3 (digs_cons.2 ⟨by decide, digs_nil⟩) (by omega) (by simp)
 rw [e4, show val B32 [1] = 1 by simp [val]] at p4
 obtain ⟨w, f, w1, w2, w3, w4, _⟩ := ref_wide p3 (by rw [p2, e2]; simp)
 rw [p4] at w4
 have e4m : ([4, 0, 0, 0] : List Int) = mk 4 := by decide
 obtain ⟨q, r2, _, q2, q3, q4, _, _, q7, _⟩ := quotient_both w2 w3 (mk_w 4).1 (mk_w 4).2
 rw [if_neg (by decide), mk_val (by decide), w4] at q7
 rw [e1, Option.bind_some, p1, Option.bind_some, w1, Option.bind_some]
 simp only []
 rw [order_run ⟨w2, w3⟩ (mk_w P), Option.bind_some, mk_val hP, w4, e4m, q2, Option.bind_some]
 have hlim := hM.2
 unfold M256 at hlim
 by_cases hb : P + 1 = 115792089237316195423570985008687907853269984665640564039457584007913129639936
 ·rw [hb, show (115792089237316195423570985008687907853269984665640564039457584007913129639936 : Int) % 115792089237316195423570985008687907853269984665640564039457584007913129639936 = 0 from by decide]
  rw [if_pos (show (0 : Int) < P by omega), if_pos (by decide)]
  have hq : P / 4 + 1 = 28948022309329048855892746252171976963317496166410141009864396001978282409984 := by omega
  rw [hq]
  congr 1
 ·have hlt : (P + 1) % 115792089237316195423570985008687907853269984665640564039457584007913129639936 = P + 1 := Int.emod_eq_of_lt (by omega) (by omega)
  rw [hlt] at q7 ⊢
  rw [if_neg (show ¬ P + 1 < P by omega), if_pos (show P + 1 > P by omega), if_neg (by decide)]
  have : (P + 1) / 4 = P / 4 + 1 := by omega
  rw [this] at q7
  rw [mk_eq (⟨q3, q4⟩ : W4 q) q7]
theorem half_prog {P : Int} (hM : 3 < P /\ P < M256) : (∃ r e, wide_DivMod.run (mk P) [4, 0, 0, 0] = some (mk (P / 4), r, e, ())) /\ (∃ o, wide_Add.run (mk (P / 4)) [1, 0, 0, 0] = some (mk (P / 4 + 1), o, ())) := by
 have hP : 0 <= P /\ P < M256 := ⟨by omega, hM.2⟩
 have hlim := hM.2
 have hQ : 0 <= P / 4 /\ P / 4 < M256 := ⟨by omega, by unfold M256 at *; omega⟩
 have e4m : ([4, 0, 0, 0] : List Int) = mk 4 := by decide
 have e1m : ([1, 0, 0, 0] : List Int) = mk 1 := by decide
 obtain ⟨q, r, d1, d2, d3, _, _, d6, _⟩ := wide_divmod (mk_w P).1 (mk_w P).2 (mk_w 4).1 (mk_w 4).2
 rw [if_neg (by decide), mk_val hP, mk_val (show (0 : Int) <= 4 /\ 4 < M256 by decide)] at d6
 obtain ⟨s, o, a1, a2, a3, a4, _⟩ := wide_add (mk_w (P / 4)).1 (mk_w 1).1 (mk_w (P / 4)).2 (mk_w 1).2
 rw [mk_val hQ, mk_val (show (0 : Int) <= 1 /\ 1 < M256 by decide), Int.emod_eq_of_lt (by omega) (by unfold M256 at *; omega)] at a4
 refine ⟨⟨r, (if mk 4 = [0, 0, 0, 0] then 7 else 0), ?_⟩, ⟨o, ?_⟩⟩
 ·rw [e4m, d1, mk_eq (⟨d2, d3⟩ : W4 q) d6]
 ·rw [e1m, a1, mk_eq (⟨a2, a3⟩ : W4 s) a4]
section
variable {P A B : Int} (hM : 1 < P /\ P < M256) (h4 : P % 4 = 3) (hA : 0 <= A /\ A < P) (hB : 0 <= B /\ B < P) (Nw : List Int) (bs : PtD)
def negY (P y : Int) : Int := if y = 0 then 0 else P - y
theorem negY_in {P y : Int} (hP : 1 < P) (h : 0 <= y /\ y < P) : 0 <= negY P y /\ negY P y < P := by
 unfold negY; split <;> omega
theorem negY_opp {P y : Int} (hP : 1 < P) (h : 0 <= y /\ y < P) : (-y) % P = negY P y := by
 unfold negY
 by_cases h0 : y = 0
 ·rw [if_pos h0, h0]; rfl
 ·rw [if_neg h0, <- Int.add_emod_left, Int.emod_eq_of_lt (by omega) (by omega)]; omega
theorem negY_par {P y : Int} (h4 : P % 4 = 3) (h : 0 <= y /\ y < P) (h0 : y ≠ 0) : negY P y % 2 = 1 - y % 2 := by
 unfold negY; rw [if_neg h0]; omega
def liftS (P A B x y : Int) (odd : Bool) : PtD × Int × Unit :=
 let z := if decide (y % 2 = 1) = odd then y else negY P y
 if decide (z % 2 = 1) = odd /\ onB P A B x z false = true then ((mk x, mk z, false, ()), 0, ()) else (zPt0, 16, ())
where zPt0 : PtD := ([0, 0, 0, 0], [0, 0, 0, 0], false, ())
include hM h4 hA hB
theorem lift_ref {x y : Int} (odd : Bool) (hx : 0 <= x /\ x < P) (hy : 0 <= y /\ y < P) (z : PtD) (hz : z = ([0, 0, 0, 0], [0, 0, 0, 0], false, ())) : ∀ N, 3 < N -> ∀ K : Nat,
  basculeref_Lifted.l0 K (fun x7 c6 => some (c6, x7, ())) (fun c6 => basculeref_Lifted.j1 (fun x7 c6 => some (c6, x7, ())) c6) N odd 0 (mk P, mk A, mk B, Nw, bs, ()) (mk x) z (mk y) = some (liftS P A B x y odd) := by
 intro N hN K
 obtain ⟨n, rfl⟩ : ∃ n, N = n + 3 := ⟨N - 3, by omega⟩
 have hW : ∀ {a : Int}, (0 <= a /\ a < P) -> (0 <= a /\ a < M256) := fun h => ⟨h.1, by omega⟩
 have on0 := fun y (hy : 0 <= y /\ y < P) => (on_both hM hA hB Nw bs false (hW hx) (hW hy)).2
 simp only [basculeref_Lifted.l0, basculeref_Lifted.l0s]
 have w1 : IntKind.i64.wrap (0 + 1) = 1 := rfl
 have w2 : IntKind.i64.wrap (1 + 1) = 2 := rfl
 have hn := negY_in hM.1 hy
 rw [w1, w2, show decide ((0 : Int) < 2) = true from rfl, show decide ((1 : Int) < 2) = true from rfl, show decide ((2 : Int) < 2) = false from rfl, par_ref (hW hy), beqB, on0 y hy, oppositeN hM hy, negY_opp hM.1 hy]
 simp only [if_true, Bool.false_eq_true, if_false, Option.bind_some, par_ref (hW hn), beqB, on0 _ hn, oppositeN hM hn]
 unfold basculeref_Lifted.j1 liftS liftS.zPt0
 simp only []
 by_cases ho : decide (y % 2 = 1) = odd
 ·have hb : (decide (y % 2 = 1) == odd) = true := by simpa using ho
  rw [hb]
  simp only [BEq.rfl, if_true, Option.bind_some, cond_true, ho, true_and]
  cases hon : onB P A B x y false with
  | true => rfl
  | false =>
   simp only [Bool.false_eq_true, if_false]
   by_cases h0 : y = 0
   ·have hne : negY P y = y := by unfold negY; rw [if_pos h0]; exact h0.symm
    rw [hne, hb]
    simp only [BEq.rfl, if_true, Option.bind_some, cond_true, hon, Bool.false_eq_true, if_false]
    try (subst hz; rfl)
   ·have hp := negY_par h4 hy h0
    have hb2 : (decide (negY P y % 2 = 1) == odd) = false := by
     rw [<- ho, hp, beq_eq_false_iff_ne, ne_eq, decide_eq_decide]; omega
    rw [hb2]
    simp only [show (false == true) = false from rfl, Bool.false_eq_true, if_false, Option.bind_some, cond_false]
    try (subst hz; rfl)
 ·have hb : (decide (y % 2 = 1) == odd) = false := by simpa using ho
  rw [hb]
  simp only [show (false == true) = false from rfl, Bool.false_eq_true, if_false, Option.bind_some, cond_false, ho]
  by_cases hz2 : decide (negY P y % 2 = 1) = odd
  ·have hb2 : (decide (negY P y % 2 = 1) == odd) = true := by simpa using hz2
   rw [hb2]
   simp only [BEq.rfl, if_true, Option.bind_some, cond_true, hz2, true_and]
   cases onB P A B x (negY P y) false with
   | true => rfl
   | false => subst hz; rfl
  ·have hb2 : (decide (negY P y % 2 = 1) == odd) = false := by simpa using hz2
   rw [hb2]
   simp only [show (false == true) = false from rfl, Bool.false_eq_true, if_false, Option.bind_some, cond_false, hz2, false_and]
   try (subst hz; rfl)
theorem lift_prog {x y : Int} (odd : Bool) (hx : 0 <= x /\ x < P) (hy : 0 <= y /\ y < P) :
  (if (not (beqD .bool ((Int.tmod (List.getD (mk y) 0 0) 2) == 1) odd)) = true then
    if (not (beqD (.arr 4 (.int .u64)) (mk y) [0, 0, 0, 0])) = true then
     (wide_Sub.run (mk P) (mk y)).bind fun y9 =>
     curve_Lift.j0 (fun x7 c6 => some (c6, x7, ())) odd (mk P, mk A, mk B, Nw, bs, ()) (mk x) ([0, 0, 0, 0], [0, 0, 0, 0], false, ()) y9.1
    else
     curve_Lift.j0 (fun x7 c6 => some (c6, x7, ())) odd (mk P, mk A, mk B, Nw, bs, ()) (mk x) ([0, 0, 0, 0], [0, 0, 0, 0], false, ()) (mk y)
   else
    curve_Lift.j0 (fun x7 c6 => some (c6, x7, ())) odd (mk P, mk A, mk B, Nw, bs, ()) (mk x) ([0, 0, 0, 0], [0, 0, 0, 0], false, ()) (mk y)) = some (liftS P A B x y odd) := by
 have hW : ∀ {a : Int}, (0 <= a /\ a < P) -> (0 <= a /\ a < M256) := fun h => ⟨h.1, by omega⟩
 have on0 := fun y (hy : 0 <= y /\ y < P) => (on_both hM hA hB Nw bs false (hW hx) (hW hy)).1
 have hj : ∀ z, 0 <= z /\ z < P -> curve_Lift.j0 (fun x7 c6 => some (c6, x7, ())) odd (mk P, mk A, mk B, Nw, bs, ()) (mk x) ([0, 0, 0, 0], [0, 0, 0, 0], false, ()) (mk z) =
   some (if decide (z % 2 = 1) = odd /\ onB P A B x z false = true then ((mk x, mk z, false, ()), 0, ()) else (([0, 0, 0, 0], [0, 0, 0, 0], false, ()), 16, ())) := fun z hz => by
  unfold curve_Lift.j0
  rw [par_prog (hW hz), beqB, on0 z hz]
  by_cases ho : decide (z % 2 = 1) = odd
  ·have hb : (decide (z % 2 = 1) == odd) = true := by simpa using ho
   rw [hb]
   simp only [Bool.not_true, BEq.rfl, if_true, Option.bind_some, cond_false, ho, true_and]
   cases onB P A B x z false <;> rfl
  ·have hb : (decide (z % 2 = 1) == odd) = false := by simpa using ho
   rw [hb]
   simp only [Bool.not_false, show (true == false) = false from rfl, Bool.false_eq_true, if_false, Option.bind_some, cond_true, if_true, ho, false_and]
 have hn := negY_in hM.1 hy
 rw [par_prog (hW hy), beqB, zeroN hM hy, hj y hy]
 unfold liftS liftS.zPt0
 by_cases ho : decide (y % 2 = 1) = odd
 ·have hb : (decide (y % 2 = 1) == odd) = true := by simpa using ho
  rw [hb]
  simp only [Bool.not_true, Bool.false_eq_true, if_false, ho, if_true]
 ·have hb : (decide (y % 2 = 1) == odd) = false := by simpa using ho
  rw [hb]
  simp only [Bool.not_false, if_true, ho, if_false]
  by_cases h0 : y = 0
  ·have hne : negY P y = y := by unfold negY; rw [if_pos h0]; exact h0.symm
   rw [hne]
   rw [show decide (y = 0) = true from decide_eq_true h0]
   simp only [Bool.not_true, Bool.false_eq_true, if_false, ho, false_and]
  ·simp only [h0, decide_false, Bool.not_false, if_true]
   obtain ⟨r, o, s1, s2, s3, s4, _⟩ := wide_sub (mk_w P).1 (mk_w y).1 (mk_w P).2 (mk_w y).2
   rw [Rg.valM hM, inM hM hy, Int.emod_eq_of_lt (by omega) (by omega)] at s4
   rw [s1, Option.bind_some, mk_eq (⟨s2, s3⟩ : W4 r) s4]
   have : P - y = negY P y := by unfold negY; rw [if_neg h0]
   simp only [this]
   exact hj _ hn
end
theorem lift_ok {P A B X Y : Int} (hM : 1 < P /\ P < M256) (odd : Bool) (hX : 0 <= X /\ X < P) (hY : 0 <= Y /\ Y < P) (h : (liftS P A B X Y odd).2.1 = 0) : PtOk P (liftS P A B X Y odd).1 /\ OnV P A B (liftS P A B X Y odd).1 := by
 have hz : 0 <= (if decide (Y % 2 = 1) = odd then Y else negY P Y) /\ (if decide (Y % 2 = 1) = odd then Y else negY P Y) < P := by
  split
  ·exact hY
  ·exact negY_in hM.1 hY
 unfold liftS at h ⊢
 generalize (if decide (Y % 2 = 1) = odd then Y else negY P Y) = Z at *
 simp only [] at h ⊢
 by_cases hc : decide (Z % 2 = 1) = odd /\ onB P A B X Z false = true
 ·rw [if_pos hc]
  refine ⟨⟨X, Z, false, rfl, hX, hz⟩, ?_⟩
  unfold OnV
  simp only []
  rw [mk_val (n := X) ⟨hX.1, by omega⟩, mk_val (n := Z) ⟨hz.1, by omega⟩]
  exact hc.2
 ·rw [if_neg hc] at h; exact absurd h (by decide)
theorem lift_full {P A B N x y X : Int} {f : Bool} (odd : Bool) (b1 : 0 <= P /\ P < M256) (b2 : 0 <= A /\ A < M256) (b3 : 0 <= B /\ B < M256) (b4 : 0 <= N /\ N < M256) (b5 : 0 <= x /\ x < M256) (b6 : 0 <= y /\ y < M256) (h0 : curveE P A B N x y f = 0) (bX : 0 <= X /\ X < M256) :
  ∃ (s : PtD) (e : Int), curve_Lift.run (mk P, mk A, mk B, mk N, (mk x, mk y, f, ()), ()) (mk X) odd = some (s, e, ()) /\ basculeref_Lifted.run (mk P, mk A, mk B, mk N, (mk x, mk y, f, ()), ()) (mk X) odd = some (s, e, ()) /\ (e = 0 -> PtOk P s /\ OnV P A B s) := by
 obtain ⟨e1, e2⟩ := curve_both f b1 b2 b3 b4 b5 b6
 unfold curve_Lift.run curve_Lift.top basculeref_Lifted.run basculeref_Lifted.top
 rw [e1, e2]
 simp only [Option.bind_some, cmpN bX b1, orderN bX b1, ge_d]
 obtain ⟨g1, g2, g3, g4⟩ := curveE_ok h0
 have hM : 1 < P /\ P < M256 := ⟨by omega, b1.2⟩
 have m := modIn hM
 rw [h0]
 simp only [show ((0 : Int) != 0) = false from rfl, Bool.false_eq_true, if_false]
 by_cases hlt : X < P
 ·have hX : 0 <= X /\ X < P := ⟨bX.1, hlt⟩
  simp only [hlt, decide_true, Bool.not_true, Bool.false_eq_true, if_false]
  rw [half_ref ⟨g1, b1.2⟩ g2]
  unfold curve_ringOf_s0.run curve_ringOf_s0.top
  rw [Option.bind_some]
  obtain ⟨⟨hr, he, hd1⟩, ⟨ho1, hd2⟩⟩ := half_prog ⟨g1, b1.2⟩
  rw [hd1, Option.bind_some]
  simp only []
  rw [hd2, Option.bind_some]
  simp only []
  have hq : 0 <= P / 4 + 1 /\ P / 4 + 1 < M256 := ⟨by omega, by omega⟩
  have hA' : 0 <= A /\ A < P := ⟨b2.1, g3⟩
  have hB' : 0 <= B /\ B < P := ⟨b3.1, g4⟩
  rw [sideN hM hA' hB' _ _ _ hX, Option.bind_some]
  simp only []
  rw [powN hM (m _) hq, Option.bind_some]
  simp only []
  unfold curve_ring__take_s1.run curve_ring__take_s1.top curve_ring__take_s1.j0
  rw [if_neg (by decide), Option.bind_some]
  simp only []
  rw [lift_prog hM g2 hA' hB' _ _ odd hX (m _)]
  unfold basculeref_Lifted.j0
  rw [rightN hM hA' hB' _ _ hX, Option.bind_some]
  simp only []
  rw [powerN hM (m _) hq, Option.bind_some, lift_ref hM g2 hA' hB' _ _ odd hX (m _) _ rfl fuel (by rw [fuel_big]; omega) fuel]
  exact ⟨(liftS P A B X _ odd).1, (liftS P A B X _ odd).2.1, rfl, rfl, lift_ok hM odd hX (m _)⟩
 ·simp only [hlt, decide_false, Bool.not_false, if_true]
  exact ⟨_, _, rfl, rfl, fun h => absurd h (by decide)⟩
end Go.Bx
namespace Go.Bx
open Go Go.Bx.Rg
set_option linter.unusedSimpArgs false
set_option linter.unusedVariables false
def secB (D N : Int) : Bool := !decide (D = 0) && decide (D < N)
theorem secret_both {D N : Int} (P A B : List Int) (q : PtD) (hD : 0 <= D /\ D < M256) (hN : 0 <= N /\ N < M256) : sign_secret.run (P, A, B, mk N, q, ()) (mk D) = some (secB D N) /\ basculeref_mayBeSecret.run (P, A, B, mk N, q, ()) (mk D) = some (secB D N) := by
 constructor
 ·unfold sign_secret.run sign_secret.top secB
  simp only []
  rw [zeroW hD, cmpN hD hN]
  by_cases h : D = 0
  ·subst h; simp
  ·simp only [h, decide_false, Bool.not_false, BEq.rfl, if_true, Option.bind_some, lt_d, cond_true, Bool.true_and]
 ·unfold basculeref_mayBeSecret.run basculeref_mayBeSecret.top secB basculeref_isZero.run basculeref_isZero.top
  simp only []
  rw [Option.bind_some, zeroW hD, orderN hD hN]
  by_cases h : D = 0
  ·subst h; simp
  ·simp only [h, decide_false, Bool.not_false, BEq.rfl, if_true, Option.bind_some, lt_d, cond_true, Bool.true_and]
end Go.Bx
namespace Go.Bx.Rg
open Go Go.Bx
set_option linter.unusedSimpArgs false
set_option linter.unusedVariables false
set_option linter.unusedSectionVars false
section
variable {M : Int} (hM : 1 < M /\ M < M256)
include hM
theorem divN {a : Int} (ha : 0 <= a /\ a < M256) : ∃ e, wide_DivMod.run (mk a) (mk M) = some (mk (a / M), mk (a % M), e, ()) := by
 have hw := mk_w M
 obtain ⟨q, r, e1, l1, l2, l3, l4, v1, v2⟩ := wide_divmod (mk_w a).1 (mk_w a).2 hw.1 hw.2
 have hne : mk M ≠ [0, 0, 0, 0] := hw.ne.2 (by rw [valM hM]; omega)
 rw [if_neg hne, mk_val ha, valM hM] at v1 v2
 exact ⟨_, by rw [e1, mk_eq ⟨l1, l2⟩ v1, mk_eq ⟨l3, l4⟩ v2]⟩
theorem restP {a : Int} (ha : 0 <= a /\ a < M256) : sign_rest.run (mk a) (mk M) = some (mk (a % M)) := by
 obtain ⟨e, h⟩ := divN hM ha
 unfold sign_rest.run sign_rest.top
 rw [h]; rfl
theorem restR {d : List Int} (hd : digs B32 d) (hl : d.length <= 1000) : basculeref_rest.run d (mk M) = some (mk (val B32 d % M)) := by
 obtain ⟨r, e1, w, v⟩ := rest_run hd hl (mk_w M) (by rw [valM hM]; omega)
 rw [valM hM] at v
 rw [e1, mk_eq w v]
theorem ofR {a : Int} (ha : 0 <= a /\ a < M256) {α : Type} (K : List Int -> Option α) : ((basculeref_of.run (mk a)).bind fun y => (basculeref_rest.run y (mk M)).bind K) = K (mk (a % M)) := by
 obtain ⟨o, e1, l, d, v⟩ := ref_of (mk_w a).1 (mk_w a).2
 rw [e1, Option.bind_some, restR hM d (by omega), v, mk_val ha, Option.bind_some]
theorem lowP {a : Int} (ha : 0 <= a /\ a < M) (P A B : List Int) (q : PtD) : sign_low.run (P, A, B, mk M, q, ()) (mk a) = some (decide (2 * a <= M)) := by
 have hw := mk_w M
 unfold sign_low.run sign_low.top
 simp only []
 obtain ⟨q', r, e1, l1, l2, l3, l4, v1, v2⟩ := wide_divmod hw.1 hw.2 (mk_w 2).1 (mk_w 2).2
 have h2 : (mk 2 : List Int) = [2, 0, 0, 0] := by decide
 rw [h2] at e1 v1
 rw [if_neg (by decide), valM hM] at v1
 rw [show val B64 [2, 0, 0, 0] = 2 by decide] at v1
 rw [e1, Option.bind_some]
 simp only []
 rw [mk_eq ⟨l1, l2⟩ v1, cmpN ⟨ha.1, by omega⟩ ⟨by omega, by omega⟩, Option.bind_some, le_d]
 congr 1
 rw [Bool.eq_iff_iff]
 simp only [Bool.not_eq_true', decide_eq_false_iff_not, decide_eq_true_eq]
 omega
theorem invF {a : Int} (ha : 0 <= a /\ a < M) : ∃ (x e : Int) (ok : Bool) (y : List Int), field_Inv.run (mk a) (mk M) = some (mk x, e, ()) /\ basculeref_inverse.run (mk a) (mk M) = some (y, ok, ()) /\ (ok = true -> e = 0 /\ y = mk x /\ 0 <= x /\ x < M) /\ (ok = false -> e = 5) := by
 have hlt : val B64 (mk a) < val B64 (mk M) := by rw [inM hM ha, valM hM]; exact ha.2
 have he : faultE (mk M) [mk a] = 0 := by
  rw [show [mk a] = [a].map mk from rfl, faultN hM (fun x hx => by simp only [List.mem_cons, List.not_mem_nil, or_false] at hx; subst hx; exact ha)]
 obtain ⟨x, e, e1, e2, e3, e4⟩ := field_inv (mk_w a) (mk_w M) hlt he
 have := fun N (hN : 512 < N) => ref_inverse 512 N (mk a) (mk M) hN (mk_w a) (mk_w M) hlt (prod_lt (mk_w M).bound (mk_w a).bound)
 obtain ⟨y, ok, f1, f2, f3, f4⟩ := this fuel (by rw [fuel_big]; omega)
 by_cases hg : Nat.gcd (val B64 (mk a)).toNat (val B64 (mk M)).toNat = 1
 ·obtain ⟨rfl, l1, c1⟩ := e3 hg
  obtain ⟨rfl, l2, c2⟩ := f3 hg
  have hxy := inv_one ⟨e2.bound.1, l1⟩ ⟨f2.bound.1, l2⟩ c1 c2
  rw [valM hM] at l1
  exact ⟨val B64 x, 0, true, y, by rw [<- mk_of e2]; exact e1, f1, fun _ => ⟨rfl, by rw [hxy]; exact mk_of f2, e2.bound.1, l1⟩, fun h => absurd h (by decide)⟩
 ·obtain ⟨rfl, rfl⟩ := e4 hg
  have := f4 hg
  subst this
  exact ⟨0, 5, false, y, by rw [mk_zero]; exact e1, f1, fun h => absurd h (by decide), fun _ => rfl⟩
end
end Go.Bx.Rg
namespace Go.Bx
open Go Go.Bx.Rg
set_option linter.unusedSimpArgs false
set_option linter.unusedVariables false
def formB (R S N o : Int) : Bool := secB R N && secB S N && decide (2 * S <= N) && decide (0 <= o) && decide (o <= 3)
theorem formB_ok {R S N o : Int} (hR : 0 <= R) (hS : 0 <= S) (h : formB R S N o = true) : (0 < R /\ R < N) /\ (0 < S /\ S < N) /\ 0 <= o /\ o <= 3 := by
 unfold formB secB at h
 simp only [Bool.and_eq_true, Bool.not_eq_true', decide_eq_true_eq, decide_eq_false_iff_not] at h
 omega
theorem formed_both {R S N o : Int} (P A B : List Int) (q : PtD) (hN : 1 < N /\ N < M256) (hR : 0 <= R /\ R < M256) (hS : 0 <= S /\ S < M256) :
  sign_formed.run (P, A, B, mk N, q, ()) (mk R, mk S, o, ()) = some (formB R S N o) /\ basculeref_mayBeSign.run (P, A, B, mk N, q, ()) (mk R, mk S, o, ()) = some (formB R S N o) := by
 obtain ⟨r1, r2⟩ := secret_both P A B q hR (show 0 <= N /\ N < M256 by omega)
 obtain ⟨s1, s2⟩ := secret_both P A B q hS (show 0 <= N /\ N < M256 by omega)
 have hlt : (decide (o < 4)) = decide (o <= 3) := by rw [Bool.eq_iff_iff, decide_eq_true_eq, decide_eq_true_eq]; omega
 have hge : (decide (o >= 0)) = decide (0 <= o) := rfl
 unfold sign_formed.run sign_formed.top basculeref_mayBeSign.run basculeref_mayBeSign.top formB
 simp only []
 rw [r1, r2, s1, s2, hlt, hge]
 cases secB R N with
 | false => exact ⟨rfl, rfl⟩
 | true =>
  simp only [Option.bind_some, BEq.rfl, if_true, cond_true, Bool.true_and]
  cases hs : secB S N with
  | false => exact ⟨rfl, rfl⟩
  | true =>
   have hS' : 0 <= S /\ S < N /\ S ≠ 0 := by
    unfold secB at hs
    simp only [Bool.and_eq_true, Bool.not_eq_true', decide_eq_true_eq, decide_eq_false_iff_not] at hs
    omega
   simp only [BEq.rfl, if_true, cond_true, Bool.true_and]
   rw [lowP hN ⟨hS'.1, hS'.2.1⟩, oppositeN hN ⟨hS'.1, hS'.2.1⟩]
   simp only [Option.bind_some]
   have hneg : (-S) % N = N - S := by rw [emod_neg (by omega) (by omega), if_pos (by omega)]; omega
   rw [hneg, orderN hS ⟨by omega, by omega⟩, Option.bind_some, le_d]
   have : (!decide (S > N - S)) = decide (2 * S <= N) := by
    rw [Bool.eq_iff_iff]
    simp only [Bool.not_eq_true', decide_eq_true_eq, decide_eq_false_iff_not]; omega
   rw [this]
   cases decide (2 * S <= N) <;> cases decide (0 <= o) <;> cases decide (o <= 3) <;> exact ⟨rfl, rfl⟩
abbrev SgTy : Ty := .pair U256 (.pair U256 (.pair (.int .i64) .unit))
theorem sg_num (s : List Int × List Int × Int × Unit) (h : Fit reachK SgTy s) : ∃ R S o, s = (mk R, mk S, o, ()) /\ (0 <= R /\ R < M256) /\ (0 <= S /\ S < M256) := by
 obtain ⟨a, b, o, u⟩ := s
 obtain ⟨h1, h2, _⟩ := h
 have w1 : W4 a := digs_of_fit h1
 have w2 : W4 b := digs_of_fit h2
 exact ⟨_, _, o, by rw [<- mk_of w1, <- mk_of w2], w1.bound, w2.bound⟩
end Go.Bx
namespace Go.Bx
open Go
set_option linter.unusedSimpArgs false
set_option linter.unusedVariables false
set_option maxRecDepth 100000
theorem ble_le {a b : Nat} (h : a <= b) : Nat.ble a b = true := Nat.ble_eq_true_of_le h
def byt (x : Int) (n : Nat) : Int := x / 2 ^ n % 256
def be (x : Int) : Nat -> List Int
 | 0 => []
 | k + 1 => byt x (8 * k) :: be x k
theorem be_len (x : Int) : ∀ k, (be x k).length = k
 | 0 => rfl
 | k + 1 => by simp [be, be_len x k]
theorem byt_rng (x : Int) (n : Nat) : 0 <= byt x n /\ byt x n < 256 := by
 unfold byt; exact ⟨Int.emod_nonneg _ (by decide), Int.emod_lt_of_pos _ (by decide)⟩
theorem be_rng (x : Int) : ∀ k, ∀ b ∈ be x k, 0 <= b /\ b < 256
 | 0, b, h => by simp [be] at h
 | k + 1, b, h => by
  simp only [be, List.mem_cons] at h
  rcases h with rfl | h
  ·exact byt_rng _ _
  ·exact be_rng x k b h
theorem byt_down (x : Int) (n : Nat) : byt (x / 256) n = byt x (n + 8) := by
 unfold byt
 rw [show (2 : Int) ^ (n + 8) = 256 * 2 ^ n by rw [Int.pow_add, Int.mul_comm]; rfl, <- Int.ediv_ediv_of_nonneg (by decide)]
theorem be_snoc (x : Int) : ∀ k, be x (k + 1) = be (x / 256) k ++ [byt x 0]
 | 0 => rfl
 | k + 1 => by
  show byt x (8 * (k + 1)) :: be x (k + 1) = byt (x / 256) (8 * k) :: be (x / 256) k ++ [byt x 0]
  rw [be_snoc x k, byt_down]; rfl
theorem u8_byt (x : Int) : IntKind.u8.wrap x = byt x 0 := by
 rw [wrap_u8_mod]; simp [byt]
theorem shr8_div (x : Int) : shrI .u64 x 8 = x / 256 := by
 show x.fdiv (2 ^ (min (8 : Int).toNat 64)) = _
 rw [Int.fdiv_eq_ediv_of_nonneg _ (by decide)]; rfl
theorem shr_byt (k : IntKind) (x : Int) (n : Nat) (h : n <= k.bits) : IntKind.u8.wrap (shrI k x (n : Int)) = byt x n := by
 rw [wrap_u8_mod]
 unfold shrI byt
 rw [show min ((n : Nat) : Int).toNat k.bits = n by simp; omega, Int.fdiv_eq_ediv_of_nonneg _ (Int.le_of_lt (Int.pow_pos (by omega)))]
theorem big_loop {α : Type} (Xt : List Int -> Option α) (K : Nat) (N : Nat) (hN : N <= 1000) : ∀ (m i n : Nat) (x : Int) (acc : List Int), m < n -> i + m = N -> acc.length <= i ->
  basculeref_big.l0 K Xt n x acc (N : Int) (i : Int) = Xt (be x m ++ acc)
 | m, i, 0, x, acc, h, _, _ => by omega
 | 0, i, n + 1, x, acc, h, hi, ha => by
  simp only [basculeref_big.l0, basculeref_big.l0s]
  rw [if_neg (by rw [decide_eq_true_eq]; omega)]; rfl
 | m + 1, i, n + 1, x, acc, h, hi, ha => by
  simp only [basculeref_big.l0, basculeref_big.l0s]
  rw [if_pos (by rw [decide_eq_true_eq]; omega), if_pos (ble_le (by omega)), i64_succ (by omega), shr8_div, u8_byt]
  refine (big_loop Xt K N hN m (i + 1) n (x / 256) _ (by omega) (by omega) (by simp; omega)).trans ?_
  rw [be_snoc, List.append_assoc]
theorem big_run (x : Int) (N : Nat) (hN : N <= 1000) : basculeref_big.run x (N : Int) = some (be x N) := by
 unfold basculeref_big.run basculeref_big.top
 refine (big_loop (fun x5 => basculeref_big.j0 (fun x4 => some x4) x5) fuel N hN N 0 fuel x [] (by rw [fuel_big]; omega) (by omega) (by simp)).trans ?_
 unfold basculeref_big.j0
 rw [List.append_nil]
def txt (l : List Int) : List Int := be (l.getD 3 0) 8 ++ be (l.getD 2 0) 8 ++ be (l.getD 1 0) 8 ++ be (l.getD 0 0) 8
theorem txt_len (l : List Int) : (txt l).length = 32 := by simp [txt, be_len]
theorem txt_rng (l : List Int) : ∀ b ∈ txt l, 0 <= b /\ b < 256 := by
 intro b h
 simp only [txt, List.mem_append] at h
 rcases h with ((h | h) | h) | h <;> exact be_rng _ _ b h
theorem cutL_all {α : Type} (l : List α) (n : Int) (h : (l.length : Int) = n) : cutL l 0 n = l := by
 subst h; simp [cutL]
end Go.Bx
namespace Go.Bx.Frm
open Go Go.Bx
set_option linter.unusedSimpArgs false
set_option linter.unusedVariables false
set_option maxRecDepth 100000
def orW (b0 b1 b2 b3 b4 b5 b6 b7 : Int) : Int := (bor .u64 (bor .u64 (bor .u64 (bor .u64 (bor .u64 (bor .u64 (bor .u64 (bor .u64 0 (shlI .u64 (IntKind.u64.wrap b0) 56)) (shlI .u64 (IntKind.u64.wrap b1) 48)) (shlI .u64 (IntKind.u64.wrap b2) 40)) (shlI .u64 (IntKind.u64.wrap b3) 32)) (shlI .u64 (IntKind.u64.wrap b4) 24)) (shlI .u64 (IntKind.u64.wrap b5) 16)) (shlI .u64 (IntKind.u64.wrap b6) 8)) (shlI .u64 (IntKind.u64.wrap b7) 0))
def sumW (b0 b1 b2 b3 b4 b5 b6 b7 : Int) : Int := (IntKind.u64.wrap ((IntKind.u64.wrap ((IntKind.u64.wrap ((IntKind.u64.wrap ((IntKind.u64.wrap ((IntKind.u64.wrap ((IntKind.u64.wrap ((IntKind.u64.wrap ((IntKind.u64.wrap ((IntKind.u64.wrap ((IntKind.u64.wrap ((IntKind.u64.wrap ((IntKind.u64.wrap ((IntKind.u64.wrap ((IntKind.u64.wrap ((IntKind.u64.wrap (0 * 256)) + (IntKind.u64.wrap b0))) * 256)) + (IntKind.u64.wrap b1))) * 256)) + (IntKind.u64.wrap b2))) * 256)) + (IntKind.u64.wrap b3))) * 256)) + (IntKind.u64.wrap b4))) * 256)) + (IntKind.u64.wrap b5))) * 256)) + (IntKind.u64.wrap b6))) * 256)) + (IntKind.u64.wrap b7)))
theorem wb5 (a0 a1 a2 a3 a4 a5 a6 a7 a8 a9 a10 a11 a12 a13 a14 a15 a16 a17 a18 a19 a20 a21 a22 a23 a24 a25 a26 a27 a28 a29 a30 a31 : Int) : wide_From.run [a0, a1, a2, a3, a4, a5, a6, a7, a8, a9, a10, a11, a12, a13, a14, a15, a16, a17, a18, a19, a20, a21, a22, a23, a24, a25, a26, a27, a28, a29, a30, a31] = some [orW a24 a25 a26 a27 a28 a29 a30 a31, orW a16 a17 a18 a19 a20 a21 a22 a23, orW a8 a9 a10 a11 a12 a13 a14 a15, orW a0 a1 a2 a3 a4 a5 a6 a7] := by kernel_rfl
theorem wb6 (a0 a1 a2 a3 a4 a5 a6 a7 a8 a9 a10 a11 a12 a13 a14 a15 a16 a17 a18 a19 a20 a21 a22 a23 a24 a25 a26 a27 a28 a29 a30 a31 : Int) : basculeref_FromBytes.run [a0, a1, a2, a3, a4, a5, a6, a7, a8, a9, a10, a11, a12, a13, a14, a15, a16, a17, a18, a19, a20, a21, a22, a23, a24, a25, a26, a27, a28, a29, a30, a31] = some [sumW a24 a25 a26 a27 a28 a29 a30 a31, sumW a16 a17 a18 a19 a20 a21 a22 a23, sumW a8 a9 a10 a11 a12 a13 a14 a15, sumW a0 a1 a2 a3 a4 a5 a6 a7] := by kernel_rfl
theorem bor_add (i a b : Nat) (hb : b < 2 ^ i) (hx : 2 ^ i * a + b < 2 ^ 64) : bor .u64 ((2 ^ i * a : Nat) : Int) ((b : Nat) : Int) = ((2 ^ i * a + b : Nat) : Int) := by
 have h1 : 2 ^ i * a < 2 ^ 64 := by omega
 have h2 : b < 2 ^ 64 := by omega
 show IntKind.u64.wrap (((BitVec.ofInt 64 ((2 ^ i * a : Nat) : Int) ||| BitVec.ofInt 64 ((b : Nat) : Int)).toNat : Nat) : Int) = _
 rw [BitVec.toNat_or]
 have e1 : (BitVec.ofInt 64 ((2 ^ i * a : Nat) : Int)).toNat = 2 ^ i * a := by
  rw [BitVec.ofInt_natCast, BitVec.toNat_ofNat, Nat.mod_eq_of_lt h1]
 have e2 : (BitVec.ofInt 64 ((b : Nat) : Int)).toNat = b := by
  rw [BitVec.ofInt_natCast, BitVec.toNat_ofNat, Nat.mod_eq_of_lt h2]
 rw [e1, e2, <- Nat.two_pow_add_eq_or_of_lt hb]
 exact wrap_u64 (by omega) (by omega)
theorem or_step (s : Nat) (p q : Int) (hp : p = 2 ^ (s + 8)) (hq : q = 2 ^ s) (hs : s <= 56) {A b : Int} (hA : 0 <= A) (hb : 0 <= b /\ b < 256) (hlt : A * p + b * q < 18446744073709551616) :
  bor .u64 (A * p) (shlI .u64 (IntKind.u64.wrap b) s) = A * p + b * q := by
 obtain ⟨a, rfl⟩ := Int.eq_ofNat_of_zero_le hA
 obtain ⟨c, rfl⟩ := Int.eq_ofNat_of_zero_le hb.1
 have hc : c < 256 := by omega
 have hshl : shlI .u64 (IntKind.u64.wrap (c : Int)) s = ((c * 2 ^ s : Nat) : Int) := by
  unfold shlI
  rw [wrap_u64 (x := (c : Int)) (by omega) (by omega)]
  rw [show min ((s : Nat) : Int).toNat IntKind.u64.bits = s by simp [IntKind.bits]; omega]
  have h56 : (2 : Nat) ^ s <= 2 ^ 56 := Nat.pow_le_pow_right (by omega) hs
  have hm : c * 2 ^ s <= 255 * 2 ^ 56 := Nat.mul_le_mul (by omega) h56
  rw [show (c : Int) * 2 ^ s = ((c * 2 ^ s : Nat) : Int) by push_cast; rfl]
  exact wrap_u64 (by omega) (by omega)
 have e1 : (a : Int) * p = ((2 ^ (s + 8) * a : Nat) : Int) := by rw [hp]; push_cast; rw [Int.mul_comm]
 have e2 : (c : Int) * q = ((c * 2 ^ s : Nat) : Int) := by rw [hq]; push_cast; rfl
 rw [e1, e2] at hlt
 rw [hshl, e1, e2, bor_add (s + 8) a (c * 2 ^ s) (by rw [Nat.pow_add, Nat.mul_comm]; exact Nat.mul_lt_mul_of_pos_left hc (Nat.pow_pos (by omega))) (by omega)]
 push_cast; rfl
theorem or_sum {b0 b1 b2 b3 b4 b5 b6 b7 : Int} (h0 : 0 <= b0 /\ b0 < 256) (h1 : 0 <= b1 /\ b1 < 256) (h2 : 0 <= b2 /\ b2 < 256) (h3 : 0 <= b3 /\ b3 < 256) (h4 : 0 <= b4 /\ b4 < 256) (h5 : 0 <= b5 /\ b5 < 256) (h6 : 0 <= b6 /\ b6 < 256) (h7 : 0 <= b7 /\ b7 < 256) : orW b0 b1 b2 b3 b4 b5 b6 b7 = sumW b0 b1 b2 b3 b4 b5 b6 b7 := by
 unfold orW sumW
 have e0 : bor .u64 0 (shlI .u64 (IntKind.u64.wrap b0) 56) = b0 * 72057594037927936 := by
  have := or_step 56 18446744073709551616 72057594037927936 rfl rfl (by omega) (A := 0) (b := b0) (by omega) h0 (by omega)
  simp only [Int.zero_mul] at this; simpa using this
 have e1 : bor .u64 (b0 * 72057594037927936) (shlI .u64 (IntKind.u64.wrap b1) 48) = (b0 * 256 + b1) * 281474976710656 := by
  have := or_step 48 72057594037927936 281474976710656 rfl rfl (by omega) (A := b0) (b := b1) (by omega) h1 (by omega)
  refine this.trans ?_; omega
 have e2 : bor .u64 ((b0 * 256 + b1) * 281474976710656) (shlI .u64 (IntKind.u64.wrap b2) 40) = ((b0 * 256 + b1) * 256 + b2) * 1099511627776 := by
  have := or_step 40 281474976710656 1099511627776 rfl rfl (by omega) (A := (b0 * 256 + b1)) (b := b2) (by omega) h2 (by omega)
  refine this.trans ?_; omega
 have e3 : bor .u64 (((b0 * 256 + b1) * 256 + b2) * 1099511627776) (shlI .u64 (IntKind.u64.wrap b3) 32) = (((b0 * 256 + b1) * 256 + b2) * 256 + b3) * 4294967296 := by
  have := or_step 32 1099511627776 4294967296 rfl rfl (by omega) (A := ((b0 * 256 + b1) * 256 + b2)) (b := b3) (by omega) h3 (by omega)
  refine this.trans ?_; omega
 have e4 : bor .u64 ((((b0 * 256 + b1) * 256 + b2) * 256 + b3) * 4294967296) (shlI .u64 (IntKind.u64.wrap b4) 24) = ((((b0 * 256 + b1) * 256 + b2) * 256 + b3) * 256 + b4) * 16777216 := by
  have := or_step 24 4294967296 16777216 rfl rfl (by omega) (A := (((b0 * 256 + b1) * 256 + b2) * 256 + b3)) (b := b4) (by omega) h4 (by omega)
  refine this.trans ?_; omega
 have e5 : bor .u64 (((((b0 * 256 + b1) * 256 + b2) * 256 + b3) * 256 + b4) * 16777216) (shlI .u64 (IntKind.u64.wrap b5) 16) = (((((b0 * 256 + b1) * 256 + b2) * 256 + b3) * 256 + b4) * 256 + b5) * 65536 := by
  have := or_step 16 16777216 65536 rfl rfl (by omega) (A := ((((b0 * 256 + b1) * 256 + b2) * 256 + b3) * 256 + b4)) (b := b5) (by omega) h5 (by omega)
  refine this.trans ?_; omega
 have e6 : bor .u64 ((((((b0 * 256 + b1) * 256 + b2) * 256 + b3) * 256 + b4) * 256 + b5) * 65536) (shlI .u64 (IntKind.u64.wrap b6) 8) = ((((((b0 * 256 + b1) * 256 + b2) * 256 + b3) * 256 + b4) * 256 + b5) * 256 + b6) * 256 := by
  have := or_step 8 65536 256 rfl rfl (by omega) (A := (((((b0 * 256 + b1) * 256 + b2) * 256 + b3) * 256 + b4) * 256 + b5)) (b := b6) (by omega) h6 (by omega)
  refine this.trans ?_; omega
 have e7 : bor .u64 (((((((b0 * 256 + b1) * 256 + b2) * 256 + b3) * 256 + b4) * 256 + b5) * 256 + b6) * 256) (shlI .u64 (IntKind.u64.wrap b7) 0) = (((((((b0 * 256 + b1) * 256 + b2) * 256 + b3) * 256 + b4) * 256 + b5) * 256 + b6) * 256 + b7) * 1 := by
  have := or_step 0 256 1 rfl rfl (by omega) (A := ((((((b0 * 256 + b1) * 256 + b2) * 256 + b3) * 256 + b4) * 256 + b5) * 256 + b6)) (b := b7) (by omega) h7 (by omega)
  refine this.trans ?_; omega
 rw [e0, e1, e2, e3, e4, e5, e6, e7]
 have f0 : IntKind.u64.wrap ((IntKind.u64.wrap (0 * 256)) + (IntKind.u64.wrap b0)) = b0 := by
  rw [wrap_u64 (x := 0 * 256) (by omega) (by omega), wrap_u64 (x := b0) (by omega) (by omega), wrap_u64 (by omega) (by omega)]; omega
 have f1 : IntKind.u64.wrap ((IntKind.u64.wrap (b0 * 256)) + (IntKind.u64.wrap b1)) = (b0 * 256 + b1) := by
  rw [wrap_u64 (x := b0 * 256) (by omega) (by omega), wrap_u64 (x := b1) (by omega) (by omega), wrap_u64 (by omega) (by omega)]
 have f2 : IntKind.u64.wrap ((IntKind.u64.wrap ((b0 * 256 + b1) * 256)) + (IntKind.u64.wrap b2)) = ((b0 * 256 + b1) * 256 + b2) := by
  rw [wrap_u64 (x := (b0 * 256 + b1) * 256) (by omega) (by omega), wrap_u64 (x := b2) (by omega) (by omega), wrap_u64 (by omega) (by omega)]
 have f3 : IntKind.u64.wrap ((IntKind.u64.wrap (((b0 * 256 + b1) * 256 + b2) * 256)) + (IntKind.u64.wrap b3)) = (((b0 * 256 + b1) * 256 + b2) * 256 + b3) := by
  rw [wrap_u64 (x := ((b0 * 256 + b1) * 256 + b2) * 256) (by omega) (by omega), wrap_u64 (x := b3) (by omega) (by omega), wrap_u64 (by omega) (by omega)]
 have f4 : IntKind.u64.wrap ((IntKind.u64.wrap ((((b0 * 256 + b1) * 256 + b2) * 256 + b3) * 256)) + (IntKind.u64.wrap b4)) = ((((b0 * 256 + b1) * 256 + b2) * 256 + b3) * 256 + b4) := by
  rw [wrap_u64 (x := (((b0 * 256 + b1) * 256 + b2) * 256 + b3) * 256) (by omega) (by omega), wrap_u64 (x := b4) (by omega) (by omega), wrap_u64 (by omega) (by omega)]
 have f5 : IntKind.u64.wrap ((IntKind.u64.wrap (((((b0 * 256 + b1) * 256 + b2) * 256 + b3) * 256 + b4) * 256)) + (IntKind.u64.wrap b5)) = (((((b0 * 256 + b1) * 256 + b2) * 256 + b3) * 256 + b4) * 256 + b5) := by
  rw [wrap_u64 (x := ((((b0 * 256 + b1) * 256 + b2) * 256 + b3) * 256 + b4) * 256) (by omega) (by omega), wrap_u64 (x := b5) (by omega) (by omega), wrap_u64 (by omega) (by omega)]
 have f6 : IntKind.u64.wrap ((IntKind.u64.wrap ((((((b0 * 256 + b1) * 256 + b2) * 256 + b3) * 256 + b4) * 256 + b5) * 256)) + (IntKind.u64.wrap b6)) = ((((((b0 * 256 + b1) * 256 + b2) * 256 + b3) * 256 + b4) * 256 + b5) * 256 + b6) := by
  rw [wrap_u64 (x := (((((b0 * 256 + b1) * 256 + b2) * 256 + b3) * 256 + b4) * 256 + b5) * 256) (by omega) (by omega), wrap_u64 (x := b6) (by omega) (by omega), wrap_u64 (by omega) (by omega)]
 have f7 : IntKind.u64.wrap ((IntKind.u64.wrap (((((((b0 * 256 + b1) * 256 + b2) * 256 + b3) * 256 + b4) * 256 + b5) * 256 + b6) * 256)) + (IntKind.u64.wrap b7)) = (((((((b0 * 256 + b1) * 256 + b2) * 256 + b3) * 256 + b4) * 256 + b5) * 256 + b6) * 256 + b7) := by
  rw [wrap_u64 (x := ((((((b0 * 256 + b1) * 256 + b2) * 256 + b3) * 256 + b4) * 256 + b5) * 256 + b6) * 256) (by omega) (by omega), wrap_u64 (x := b7) (by omega) (by omega), wrap_u64 (by omega) (by omega)]
 rw [f0, f1, f2, f3, f4, f5, f6, f7]; omega
theorem cons_of_len {α : Type} {l : List α} {n : Nat} (h : l.length = n + 1) : ∃ a t, l = a :: t /\ t.length = n := by
 cases l with
 | nil => simp at h
 | cons a t => exact ⟨a, t, rfl, by simpa using h⟩
theorem sumW_rng (b0 b1 b2 b3 b4 b5 b6 b7 : Int) : 0 <= sumW b0 b1 b2 b3 b4 b5 b6 b7 /\ sumW b0 b1 b2 b3 b4 b5 b6 b7 < B64 := by
 unfold sumW
 rw [wrap_u64_mod]
 exact ⟨Int.emod_nonneg _ (by decide), Int.emod_lt_of_pos _ (by decide)⟩
theorem from_both (y : List Int) (hy : y.length = 32) (hb : ∀ b ∈ y, 0 <= b /\ b < 256) : ∃ r, wide_From.run y = some r /\ basculeref_FromBytes.run y = some r /\ r.length = 4 /\ digs B64 r := by
 obtain ⟨a0, y0, e_0, hy0⟩ := cons_of_len hy
 subst e_0
 obtain ⟨a1, y1, e_1, hy1⟩ := cons_of_len hy0
 subst e_1
 obtain ⟨a2, y2, e_2, hy2⟩ := cons_of_len hy1
 subst e_2
 obtain ⟨a3, y3, e_3, hy3⟩ := cons_of_len hy2
 subst e_3
 obtain ⟨a4, y4, e_4, hy4⟩ := cons_of_len hy3
 subst e_4
 obtain ⟨a5, y5, e_5, hy5⟩ := cons_of_len hy4
 subst e_5
 obtain ⟨a6, y6, e_6, hy6⟩ := cons_of_len hy5
 subst e_6
 obtain ⟨a7, y7, e_7, hy7⟩ := cons_of_len hy6
 subst e_7
 obtain ⟨a8, y8, e_8, hy8⟩ := cons_of_len hy7
 subst e_8
 obtain ⟨a9, y9, e_9, hy9⟩ := cons_of_len hy8
 subst e_9
 obtain ⟨a10, y10, e_10, hy10⟩ := cons_of_len hy9
 subst e_10
 obtain ⟨a11, y11, e_11, hy11⟩ := cons_of_len hy10
 subst e_11
 obtain ⟨a12, y12, e_12, hy12⟩ := cons_of_len hy11
 subst e_12
 obtain ⟨a13, y13, e_13, hy13⟩ := cons_of_len hy12
 subst e_13
 obtain ⟨a14, y14, e_14, hy14⟩ := cons_of_len hy13
 subst e_14
 obtain ⟨a15, y15, e_15, hy15⟩ := cons_of_len hy14
 subst e_15
 obtain ⟨a16, y16, e_16, hy16⟩ := cons_of_len hy15
 subst e_16
 obtain ⟨a17, y17, e_17, hy17⟩ := cons_of_len hy16
 subst e_17
 obtain ⟨a18, y18, e_18, hy18⟩ := cons_of_len hy17
 subst e_18
 obtain ⟨a19, y19, e_19, hy19⟩ := cons_of_len hy18
 subst e_19
 obtain ⟨a20, y20, e_20, hy20⟩ := cons_of_len hy19
 subst e_20
 obtain ⟨a21, y21, e_21, hy21⟩ := cons_of_len hy20
 subst e_21
 obtain ⟨a22, y22, e_22, hy22⟩ := cons_of_len hy21
 subst e_22
 obtain ⟨a23, y23, e_23, hy23⟩ := cons_of_len hy22
 subst e_23
 obtain ⟨a24, y24, e_24, hy24⟩ := cons_of_len hy23
 subst e_24
 obtain ⟨a25, y25, e_25, hy25⟩ := cons_of_len hy24
 subst e_25
 obtain ⟨a26, y26, e_26, hy26⟩ := cons_of_len hy25
 subst e_26
 obtain ⟨a27, y27, e_27, hy27⟩ := cons_of_len hy26
 subst e_27
 obtain ⟨a28, y28, e_28, hy28⟩ := cons_of_len hy27
 subst e_28
 obtain ⟨a29, y29, e_29, hy29⟩ := cons_of_len hy28
 subst e_29
 obtain ⟨a30, y30, e_30, hy30⟩ := cons_of_len hy29
 subst e_30
 obtain ⟨a31, y31, e_31, hy31⟩ := cons_of_len hy30
 subst e_31
 have e_y := List.eq_nil_of_length_eq_zero hy31
 subst e_y
 have ha0 := hb a0 (by simp)
 have ha1 := hb a1 (by simp)
 have ha2 := hb a2 (by simp)
 have ha3 := hb a3 (by simp)
 have ha4 := hb a4 (by simp)
 have ha5 := hb a5 (by simp)
 have ha6 := hb a6 (by simp)
 have ha7 := hb a7 (by simp)
 have ha8 := hb a8 (by simp)
 have ha9 := hb a9 (by simp)
 have ha10 := hb a10 (by simp)
 have ha11 := hb a11 (by simp)
 have ha12 := hb a12 (by simp)
 have ha13 := hb a13 (by simp)
 have ha14 := hb a14 (by simp)
 have ha15 := hb a15 (by simp)
 have ha16 := hb a16 (by simp)
 have ha17 := hb a17 (by simp)
 have ha18 := hb a18 (by simp)
 have ha19 := hb a19 (by simp)
 have ha20 := hb a20 (by simp)
 have ha21 := hb a21 (by simp)
 have ha22 := hb a22 (by simp)
 have ha23 := hb a23 (by simp)
 have ha24 := hb a24 (by simp)
 have ha25 := hb a25 (by simp)
 have ha26 := hb a26 (by simp)
 have ha27 := hb a27 (by simp)
 have ha28 := hb a28 (by simp)
 have ha29 := hb a29 (by simp)
 have ha30 := hb a30 (by simp)
 have ha31 := hb a31 (by simp)
 have s0 := or_sum ha0 ha1 ha2 ha3 ha4 ha5 ha6 ha7
 have s1 := or_sum ha8 ha9 ha10 ha11 ha12 ha13 ha14 ha15
 have s2 := or_sum ha16 ha17 ha18 ha19 ha20 ha21 ha22 ha23
 have s3 := or_sum ha24 ha25 ha26 ha27 ha28 ha29 ha30 ha31
 refine ⟨_, wb5 _ _ _ _ _ _ _ _ _ _ _ _ _ _ _ _ _ _ _ _ _ _ _ _ _ _ _ _ _ _ _ _, ?_, rfl, ?_⟩
 ·rw [wb6, s0, s1, s2, s3]
 ·rw [s0, s1, s2, s3]
  exact digs_cons.2 ⟨sumW_rng _ _ _ _ _ _ _ _, digs_cons.2 ⟨sumW_rng _ _ _ _ _ _ _ _, digs_cons.2 ⟨sumW_rng _ _ _ _ _ _ _ _, digs_cons.2 ⟨sumW_rng _ _ _ _ _ _ _ _, digs_nil⟩⟩⟩⟩
end Go.Bx.Frm
namespace Go.Bx
open Go
def wid (y : List Int) : List Int := (basculeref_FromBytes.run y).getD [0, 0, 0, 0]
theorem from_wid (y : List Int) (hy : y.length = 32) (hb : ∀ b ∈ y, 0 <= b /\ b < 256) : wide_From.run y = some (wid y) /\ basculeref_FromBytes.run y = some (wid y) := by
 obtain ⟨r, h1, h2, _, _⟩ := Frm.from_both y hy hb
 have : wid y = r := by unfold wid; rw [h2]; rfl
 rw [this]; exact ⟨h1, h2⟩
theorem wid_digs (y : List Int) (hy : y.length = 32) (hb : ∀ b ∈ y, 0 <= b /\ b < 256) : (wid y).length = 4 /\ digs B64 (wid y) := by
 obtain ⟨r, h1, h2, h3, h4⟩ := Frm.from_both y hy hb
 have : wid y = r := by unfold wid; rw [h2]; rfl
 rw [this]; exact ⟨h3, h4⟩
end Go.Bx
namespace Go.Bx
open Go
set_option linter.unusedSimpArgs false
set_option linter.unusedVariables false
theorem wid_ok {y : List Int} (hy : y.length = 32) (ho : ∀ b ∈ y, 0 <= b /\ b < 256) : wide_From.run y = some (mk (val B64 (wid y))) /\ basculeref_FromBytes.run y = some (mk (val B64 (wid y))) /\ (0 <= val B64 (wid y) /\ val B64 (wid y) < M256) := by
 obtain ⟨h1, h2⟩ := from_wid y hy ho
 have w : W4 (wid y) := wid_digs y hy ho
 rw [<- mk_of w]
 exact ⟨h1, h2, w.bound⟩
end Go.Bx
