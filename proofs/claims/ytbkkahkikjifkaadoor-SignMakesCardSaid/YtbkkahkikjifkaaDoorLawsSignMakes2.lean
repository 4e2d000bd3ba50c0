/- Laws about functions of plain data, in plain Lean. -/
import Derived.Test.YtbkkahkikjifkaaDoorLawsSignMakes1
import Derived.Test.YtbkkahkikjifkaaDoorFnSignMakes0
import Derived.Test.YtbkkahkikjifkaaDoorLawsSignMakes0
import Derived.Test.YtbkkahkikjifkaaDoorFnSignMakes1
namespace Go.Bx.Rg
open Go Go.Bx
set_option linter.unusedSimpArgs false
set_option linter.unusedVariables false
set_option linter.unusedSectionVars false
section
variable {M : Int} (hM : 1 < M /\ M < M256)
include hM
theorem divN {a : Int} (ha : 0 <= a /\ a < M256) : ∃ e, wide_DivMod.run (mk a) (mk M) = some (mk (a / M), mk (a % M), e, ()) := by
 have hw := mk_w M
 obtain ⟨q, r, e1, l1, l2, l3, l4, v1, v2⟩ := wide_divmod (mk_w a).1 (mk_w a).2 hw.1 hw.2
 have hne : mk M ≠ [0, 0, 0, 0] := hw.ne.2 (by rw [valM hM]; omega)
 rw [if_neg hne, mk_val ha, valM hM] at v1 v2
 exact ⟨_, by rw [e1, mk_eq ⟨l1, l2⟩ v1, mk_eq ⟨l3, l4⟩ v2]⟩
theorem restP {a : Int} (ha : 0 <= a /\ a < M256) : sign_rest.run (mk a) (mk M) = some (mk (a % M)) := by
 obtain ⟨e, h⟩ := divN hM ha
 unfold sign_rest.run sign_rest.top
 rw [h]; rfl
theorem restR {d : List Int} (hd : digs B32 d) (hl : d.length <= 1000) : basculeref_rest.run d (mk M) = some (mk (val B32 d % M)) := by
 obtain ⟨r, e1, w, v⟩ := rest_run hd hl (mk_w M) (by rw [valM hM]; omega)
 rw [valM hM] at v
 rw [e1, mk_eq w v]
theorem ofR {a : Int} (ha : 0 <= a /\ a < M256) {α : Type} (K : List Int -> Option α) : ((basculeref_of.run (mk a)).bind fun y => (basculeref_rest.run y (mk M)).bind K) = K (mk (a % M)) := by
 obtain ⟨o, e1, l, d, v⟩ := ref_of (mk_w a).1 (mk_w a).2
 rw [e1, Option.bind_some, restR hM d (by omega), v, mk_val ha, Option.bind_some]
theorem lowP {a : Int} (ha : 0 <= a /\ a < M) (P A B : List Int) (q : PtD) : sign_low.run (P, A, B, mk M, q, ()) (mk a) = some (decide (2 * a <= M)) := by
 have hw := mk_w M
 unfold sign_low.run sign_low.top
 simp only []
 obtain ⟨q', r, e1, l1, l2, l3, l4, v1, v2⟩ := wide_divmod hw.1 hw.2 (mk_w 2).1 (mk_w 2).2
 have h2 : (mk 2 : List Int) = [2, 0, 0, 0] := by decide
 rw [h2] at e1 v1
 rw [if_neg (by decide), valM hM] at v1
 rw [show val B64 [2, 0, 0, 0] = 2 by decide] at v1
 rw [e1, Option.bind_some]
 simp only []
 rw [mk_eq ⟨l1, l2⟩ v1, cmpN ⟨ha.1, by omega⟩ ⟨by omega, by omega⟩, Option.bind_some, le_d]
 congr 1
 rw [Bool.eq_iff_iff]
 simp only [Bool.not_eq_true', decide_eq_false_iff_not, decide_eq_true_eq]
 omega
theorem subP {a : Int} (ha : 0 <= a /\ a < M) : ∃ o, wide_Sub.run (mk M) (mk a) = some (mk (M - a), o, ()) := by
 obtain ⟨r, o, e1, l1, l2, v1, _⟩ := wide_sub (mk_w M).1 (mk_w a).1 (mk_w M).2 (mk_w a).2
 rw [valM hM, inM hM ha, Int.emod_eq_of_lt (by omega) (by omega)] at v1
 exact ⟨o, by rw [e1, mk_eq ⟨l1, l2⟩ v1]⟩
theorem invF {a : Int} (ha : 0 <= a /\ a < M) : ∃ (x e : Int) (ok : Bool) (y : List Int), field_Inv.run (mk a) (mk M) = some (mk x, e, ()) /\ basculeref_inverse.run (mk a) (mk M) = some (y, ok, ()) /\ (ok = true -> e = 0 /\ y = mk x /\ 0 <= x /\ x < M) /\ (ok = false -> e = 5) := by
 have hlt : val B64 (mk a) < val B64 (mk M) := by rw [inM hM ha, valM hM]; exact ha.2
 have he : faultE (mk M) [mk a] = 0 := by
  rw [show [mk a] = [a].map mk from rfl, faultN hM (fun x hx => by simp only [List.mem_cons, List.not_mem_nil, or_false] at hx; subst hx; exact ha)]
 obtain ⟨x, e, e1, e2, e3, e4⟩ := field_inv (mk_w a) (mk_w M) hlt he
 have := fun N (hN : 512 < N) => ref_inverse 512 N (mk a) (mk M) hN (mk_w a) (mk_w M) hlt (prod_lt (mk_w M).bound (mk_w a).bound)
 obtain ⟨y, ok, f1, f2, f3, f4⟩ := this fuel (by rw [fuel_big]; omega)
 by_cases hg : Nat.gcd (val B64 (mk a)).toNat (val B64 (mk M)).toNat = 1
 ·obtain ⟨rfl, l1, c1⟩ := e3 hg
  obtain ⟨rfl, l2, c2⟩ := f3 hg
  have hxy := inv_one ⟨e2.bound.1, l1⟩ ⟨f2.bound.1, l2⟩ c1 c2
  rw [valM hM] at l1
  exact ⟨val B64 x, 0, true, y, by rw [<- mk_of e2]; exact e1, f1, fun _ => ⟨rfl, by rw [hxy]; exact mk_of f2, e2.bound.1, l1⟩, fun h => absurd h (by decide)⟩
 ·obtain ⟨rfl, rfl⟩ := e4 hg
  have := f4 hg
  subst this
  exact ⟨0, 5, false, y, by rw [mk_zero]; exact e1, f1, fun h => absurd h (by decide), fun _ => rfl⟩
theorem isZ {a : Int} (ha : 0 <= a /\ a < M256) : basculeref_isZero.run (mk a) = some (decide (a = 0)) := by
 unfold basculeref_isZero.run basculeref_isZero.top
 rw [zeroW ha]
end
end Go.Bx.Rg
namespace Go.Bx.Ch
set_option linter.unusedVariables false
def cub (A B x : Int) : Int := x * (x * x) + A * x + B
def alp (A x1 y1 x2 l : Int) : Int := A - 2*l*y1 + 2*l*l*x1 + x1*x1 + x1*x2 + x2*x2 - l*l*(x1+x2)
theorem alp_D (x1 y1 x2 l A B : Int) : alp A x1 y1 x2 l * (x2 - x1) = (cub A B x2 - (y1 + l*(x2-x1))*(y1 + l*(x2-x1))) - (cub A B x1 - y1*y1) := by unfold alp cub; grind
theorem third (x1 y1 x2 l A B : Int) : cub A B (l*l-x1-x2) - (l*(x1-(l*l-x1-x2)) - y1)*(l*(x1-(l*l-x1-x2)) - y1) = alp A x1 y1 x2 l * ((l*l-x1-x2) - x1) + (cub A B x1 - y1*y1) := by unfold alp cub; grind
theorem r1 (u d P x1 x2 y : Int) : (y * u + P * d) * (x2 - x1) = y * ((x2 - x1) * u) + P * (d * (x2 - x1)) := by grind
theorem r2 (y P c e : Int) : y * (1 + P * c) + P * e = y + P * (e + y * c) := by grind
theorem r3 (y1 y2 P k s t a b : Int) (hs : s = y2 * y2 + P * b) (ht : t = y1 * y1 + P * a) : (s - (y1 + (y2 - y1 + P * k)) * (y1 + (y2 - y1 + P * k))) - (t - y1 * y1) = P * (b - a - k * (2 * y2 + P * k)) := by rw [hs, ht]; grind
theorem r4 (m D u P c w : Int) (h1 : D * u = 1 + P * c) (h2 : m * D = P * w) : m = P * (w * u - m * c) := by
 have e1 : m * (D * u) = P * w * u := by rw [<- Int.mul_assoc, h2]
 rw [h1] at e1
 have e2 : m * (1 + P * c) = m + P * (m * c) := by grind
 rw [e2] at e1
 have e3 : P * (w * u - m * c) = P * w * u - P * (m * c) := by grind
 omega
theorem alp_of {P A B x1 y1 x2 y2 l u : Int} (h1 : P ∣ cub A B x1 - y1*y1) (h2 : P ∣ cub A B x2 - y2*y2) (hu : P ∣ (x2 - x1) * u - 1) (hl : P ∣ l - (y2 - y1) * u) : P ∣ alp A x1 y1 x2 l := by
 obtain ⟨a, ha⟩ := h1
 obtain ⟨b, hb⟩ := h2
 obtain ⟨c, hc⟩ := hu
 obtain ⟨d, hd⟩ := hl
 have e0 := alp_D x1 y1 x2 l A B
 have el : l = (y2 - y1) * u + P * d := by omega
 have ec : (x2 - x1) * u = 1 + P * c := by omega
 have e1 : l * (x2 - x1) = (y2 - y1) + P * (d * (x2 - x1) + (y2 - y1) * c) := by
  have := r1 u d P x1 x2 (y2 - y1)
  rw [<- el, ec, r2] at this
  exact this
 rw [e1, r3 y1 y2 P _ _ _ a b (by omega) (by omega)] at e0
 exact ⟨_, r4 _ _ _ _ _ _ ec e0⟩
theorem r5 (A x1 y1 l : Int) : alp A x1 y1 x1 l = A + 3 * (x1 * x1) - l * (y1 + y1) := by unfold alp; grind
theorem r6 (s u d P y : Int) : (s * u + P * d) * y = s * (y * u) + P * (d * y) := by grind
theorem r7 (s P e : Int) : s - (s + P * e) = P * (-e) := by grind
theorem alp_tan {P A x1 y1 l u : Int} (hu : P ∣ (y1 + y1) * u - 1) (hl : P ∣ l - (3 * (x1 * x1) + A) * u) : P ∣ alp A x1 y1 x1 l := by
 obtain ⟨c, hc⟩ := hu
 obtain ⟨d, hd⟩ := hl
 have el : l = (3 * (x1 * x1) + A) * u + P * d := by omega
 have ec : (y1 + y1) * u = 1 + P * c := by omega
 have := r6 (3 * (x1 * x1) + A) u d P (y1 + y1)
 rw [<- el, ec, r2] at this
 rw [r5, this, Int.add_comm A, r7]
 exact ⟨_, rfl⟩
theorem r8 (A B Z P c : Int) : cub A B (Z + P * c) = cub A B Z + P * (c * ((Z + P * c) * (Z + P * c) + (Z + P * c) * Z + Z * Z) + A * c) := by unfold cub; grind
theorem r9 (l x1 Z P c y1 d : Int) : l * (x1 - (Z + P * c)) - y1 + P * d = (l * (x1 - Z) - y1) + P * (d - l * c) := by grind
theorem r10 (W P e : Int) : (W + P * e) * (W + P * e) = W * W + P * (e * (W + P * e + W)) := by grind
theorem r11 (s t P e f g : Int) (h : s - t = P * g) : s + P * e - (t + P * f) = P * (g + e - f) := by
 have : P * (g + e - f) = P * g + P * e - P * f := by grind
 omega
theorem r12 (P b z a : Int) : P * b * z + P * a = P * (b * z + a) := by grind
theorem sum_on {P A B x1 y1 x2 l X Y : Int} (h1 : P ∣ cub A B x1 - y1*y1) (ha : P ∣ alp A x1 y1 x2 l) (hX : P ∣ X - (l*l-x1-x2)) (hY : P ∣ Y - (l*(x1-X) - y1)) : P ∣ cub A B X - Y*Y := by
 obtain ⟨a, ha'⟩ := h1
 obtain ⟨b, hb⟩ := ha
 obtain ⟨c, hc⟩ := hX
 obtain ⟨d, hd⟩ := hY
 have e0 := third x1 y1 x2 l A B
 rw [hb, ha', r12] at e0
 generalize l*l-x1-x2 = Z at *
 have eX : X = Z + P * c := by omega
 have eY : Y = (l * (x1 - X) - y1) + P * d := by omega
 rw [eX, r9] at eY
 rw [eX, eY, r10 (l * (x1 - Z) - y1) P (d - l * c), r8]
 exact ⟨_, r11 _ _ _ _ _ _ e0⟩
end Go.Bx.Ch
namespace Go.Bx.Rg
open Go Go.Bx
set_option linter.unusedSimpArgs false
set_option linter.unusedVariables false
def PtOk (P : Int) (s : PtD) : Prop := ∃ (x y : Int) (f : Bool), s = (mk x, mk y, f, ()) /\ (0 <= x /\ x < P) /\ (0 <= y /\ y < P)
abbrev zPt : PtD := ([0, 0, 0, 0], [0, 0, 0, 0], false, ())
theorem zPt_ok {P : Int} (hP : 1 < P /\ P < M256) (f : Bool) : PtOk P ([0, 0, 0, 0], [0, 0, 0, 0], f, ()) := ⟨0, 0, f, by rw [mk_zero], by omega, by omega⟩
theorem pt_on {P A B x y : Int} {f : Bool} (hP : 1 < P /\ P < M256) (h : onB P A B x y f = true) (hx : 0 <= x /\ x < M256) (hy : 0 <= y /\ y < M256) : PtOk P (mk x, mk y, f, ()) := by
 refine ⟨x, y, f, rfl, ?_⟩
 unfold onB at h
 cases f with
 | true =>
  simp only [if_true, Bool.and_eq_true, decide_eq_true_eq] at h
  omega
 | false =>
  simp only [Bool.false_eq_true, if_false, Bool.and_eq_true, decide_eq_true_eq] at h
  omega
section
variable {P A B : Int} (hP : 1 < P /\ P < M256) (hA : 0 <= A /\ A < P) (hB : 0 <= B /\ B < P) (Nw : List Int) (bs : PtD)
include hP
theorem slope_both {x1 y1 x2 y2 u d : Int} (f1 f2 : Bool) (hx1 : 0 <= x1 /\ x1 < P) (hy1 : 0 <= y1 /\ y1 < P) (hx2 : 0 <= x2 /\ x2 < P) (hy2 : 0 <= y2 /\ y2 < P) (hu : 0 <= u /\ u < P) (hd : 0 <= d /\ d < P) (Aw Bw : List Int) :
  ∃ (s : PtD) (ok : Bool), curve_add.j0 (fun x7 c6 => some (c6, x7, ())) (mk x1, mk y1, f1, ()) (mk x2, mk y2, f2, ()) zPt (mk P) (mk u) (mk d) false = some (s, ok, ()) /\
   basculeref_together.j0 (fun x7 c6 => some (c6, x7, ())) (mk P, Aw, Bw, Nw, bs, ()) (mk x1, mk y1, f1, ()) (mk x2, mk y2, f2, ()) zPt (mk u) (mk d) = some (s, ok, ()) /\ PtOk P s /\ (d = 0 -> ok = false) /\ (ok = false -> s = zPt) /\ (ok = true -> ∃ v X Y : Int, s = (mk X, mk Y, false, ()) /\ (0 <= X /\ X < P) /\ (0 <= Y /\ Y < P) /\ d * v % P = 1 % P /\ X = ((u * v % P * (u * v % P) % P - x1) % P - x2) % P /\ Y = (u * v % P * ((x1 - X) % P) % P - y1) % P) := by
 have m := modIn hP
 obtain ⟨v, ok, w, hv, e1, e2, e3, e4, e5⟩ := invN hP false hd
 unfold curve_add.j0 basculeref_together.j0
 rw [e1, e2]
 simp only [Option.bind_some]
 rw [mulN hP _ hu hv, Option.bind_some]
 simp only []
 rw [mulN hP _ (m _) (m _), Option.bind_some]
 simp only []
 rw [subN hP _ (m _) hx1, Option.bind_some]
 simp only []
 rw [subN hP _ (m _) hx2, Option.bind_some]
 simp only []
 rw [subN hP _ hx1 (m _), Option.bind_some]
 simp only []
 rw [mulN hP _ (m _) (m _), Option.bind_some]
 simp only []
 rw [subN hP _ (m _) hy1, Option.bind_some]
 simp only []
 cases ok with
 | false =>
  refine ⟨zPt, false, by rw [if_pos (by rfl)], by rw [if_pos (by rfl)], zPt_ok hP _, fun _ => rfl, fun _ => rfl, fun h => absurd h (by decide)⟩
 | true =>
  have hw := e3 rfl
  subst hw
  rw [if_neg (by decide), if_neg (by decide), productN hP hu hv, Option.bind_some, productN hP (m _) (m _), Option.bind_some, totalN hP hx1 hx2, Option.bind_some, oppositeN hP (m _), Option.bind_some, totalN hP (m _) (m _), Option.bind_some, oppositeN hP (m _), Option.bind_some,
   totalN hP hx1 (m _), Option.bind_some, productN hP (m _) (m _), Option.bind_some, oppositeN hP hy1, Option.bind_some, totalN hP (m _) (m _), Option.bind_some]
  refine ⟨_, true, rfl, ?_, ⟨_, _, _, rfl, m _, m _⟩, fun h0 => absurd (e4 h0) (by decide), fun h => absurd h (by decide), fun _ => ⟨v, _, _, rfl, m _, m _, e5 rfl, rfl, rfl⟩⟩
  have hx : (u * v % P * (u * v % P) % P + -((x1 + x2) % P) % P) % P = ((u * v % P * (u * v % P) % P - x1) % P - x2) % P := by
   simp only [mulL, mulR, addL, addR, subL, subR, negM]
   rw [show u * v * (u * v) + -(x1 + x2) = u * v * (u * v) - x1 - x2 by grind]
  rw [hx]
  generalize ((u * v % P * (u * v % P) % P - x1) % P - x2) % P = X
  have hy : (u * v % P * ((x1 + -X % P) % P) % P + -y1 % P) % P = (u * v % P * ((x1 - X) % P) % P - y1) % P := by
   simp only [mulL, mulR, addL, addR, subL, subR, negM]
   rw [show u * v * (x1 + -X) + -y1 = u * v * (x1 - X) - y1 by grind]
  rw [hy]
include hA
def OnV (P A B : Int) (s : PtD) : Prop := onB P A B (val B64 s.1) (val B64 s.2.1) s.2.2.1 = true
omit hP hA in
theorem dvd_of {a b : Int} (h : a % P = b % P) : P ∣ a - b := Int.dvd_of_emod_eq_zero (Int.emod_eq_emod_iff_emod_sub_eq_zero.1 h)
omit hP hA in
theorem cub_of {x1 y1 : Int} (h : OnV P A B ((mk x1, mk y1, false, ()) : PtD)) (hx1 : 0 <= x1 /\ x1 < P) (hy1 : 0 <= y1 /\ y1 < P) (hP : 1 < P /\ P < M256) : P ∣ Ch.cub A B x1 - y1 * y1 := by
 unfold OnV onB at h
 simp only [Bool.false_eq_true, if_false] at h
 rw [mk_val (n := x1) ⟨hx1.1, by omega⟩, mk_val (n := y1) ⟨hy1.1, by omega⟩] at h
 simp only [Bool.and_eq_true, decide_eq_true_eq] at h
 exact dvd_of h.2.symm
omit hA in
theorem on_of {x1 y1 x2 u d : Int} {s : PtD} (h1 : P ∣ Ch.cub A B x1 - y1 * y1) (hs : ∃ v X Y : Int, s = (mk X, mk Y, false, ()) /\ (0 <= X /\ X < P) /\ (0 <= Y /\ Y < P) /\ d * v % P = 1 % P /\ X = ((u * v % P * (u * v % P) % P - x1) % P - x2) % P /\ Y = (u * v % P * ((x1 - X) % P) % P - y1) % P)
  (ha : ∀ v, d * v % P = 1 % P -> P ∣ Ch.alp A x1 y1 x2 (u * v % P)) : OnV P A B s := by
 obtain ⟨v, X, Y, rfl, hX, hY, hv, eX, eY⟩ := hs
 have hX' : P ∣ X - (u * v % P * (u * v % P) - x1 - x2) := dvd_of (by rw [eX]; simp only [subL, Int.emod_emod])
 have hY' : P ∣ Y - (u * v % P * (x1 - X) - y1) := dvd_of (by rw [eY]; simp only [subL, mulR, Int.emod_emod])
 have := Ch.sum_on h1 (ha v hv) hX' hY'
 unfold OnV onB
 simp only [Bool.false_eq_true, if_false]
 rw [mk_val (n := X) ⟨hX.1, by omega⟩, mk_val (n := Y) ⟨hY.1, by omega⟩]
 simp only [Bool.and_eq_true, decide_eq_true_eq]
 exact ⟨⟨hX.2, hY.2⟩, (Int.emod_eq_emod_iff_emod_sub_eq_zero.2 (Int.emod_eq_zero_of_dvd this)).symm⟩
theorem add_both {p q : PtD} (hp : PtOk P p) (hq : PtOk P q) :
  ∃ (s : PtD) (ok : Bool), curve_add.run (mk P, mk A, mk B, Nw, bs, ()) p q = some (s, ok, ()) /\ basculeref_together.run (mk P, mk A, mk B, Nw, bs, ()) p q = some (s, ok, ()) /\ PtOk P s /\ (OnV P A B p -> OnV P A B q -> ok = true -> OnV P A B s) := by
 have m := modIn hP
 obtain ⟨x1, y1, f1, rfl, hx1, hy1⟩ := hp
 obtain ⟨x2, y2, f2, rfl, hx2, hy2⟩ := hq
 unfold curve_add.run curve_add.top basculeref_together.run basculeref_together.top
 cases f1 with
 | true => exact ⟨_, true, rfl, rfl, ⟨x2, y2, f2, rfl, hx2, hy2⟩, fun _ h _ => h⟩
 | false =>
  cases f2 with
  | true => exact ⟨_, true, rfl, rfl, ⟨x1, y1, false, rfl, hx1, hy1⟩, fun h _ _ => h⟩
  | false =>
   simp only [Bool.false_eq_true, if_false]
   unfold curve_ringOf_s0.run curve_ringOf_s0.top
   rw [Option.bind_some]
   simp only []
   rw [subN hP _ hy2 hy1, Option.bind_some]
   simp only []
   rw [subN hP _ hx2 hx1, Option.bind_some]
   simp only []
   have eq : beqD (.pair (.arr 4 (.int .u64)) (.pair (.arr 4 (.int .u64)) (.pair .bool .unit))) ((mk x1, mk y1, false, ()) : PtD) (mk x2, mk y2, false, ()) = (decide (x1 = x2) && decide (y1 = y2)) := by
    rw [Bool.eq_iff_iff, beqD_iff _ _ _ rfl, Bool.and_eq_true, decide_eq_true_eq, decide_eq_true_eq, <- mk_inj (a := x1) (b := x2) ⟨hx1.1, by omega⟩ ⟨hx2.1, by omega⟩, <- mk_inj (a := y1) (b := y2) ⟨hy1.1, by omega⟩ ⟨hy2.1, by omega⟩]
    constructor
    ·intro h; exact ⟨congrArg Prod.fst h, congrArg (fun p => p.2.1) h⟩
    ·rintro ⟨h1, h2⟩; rw [h1, h2]
   rw [eqN hP hx1 hx2, eqN hP hy1 hy2, eq]
   have eu : (y2 + -y1 % P) % P = (y2 - y1) % P := by rw [addR]; rfl
   have ed : (x2 + -x1 % P) % P = (x2 - x1) % P := by rw [addR]; rfl
   by_cases hxe : x1 = x2
   ·subst hxe
    simp only [decide_true, BEq.rfl, if_true]
    rw [addN hP _ hy1 hy2, Option.bind_some]
    simp only []
    rw [totalN hP hy1 hy2, Option.bind_some, isZeroN hP (m _), Option.bind_some, zeroN hP (m _)]
    by_cases hz : (y1 + y2) % P = 0
    ·simp only [hz, decide_true, if_true, cond_true]
     exact ⟨_, true, rfl, rfl, zPt_ok hP _, fun _ _ _ => by simp [OnV, onB, val]⟩
    ·simp only [hz, decide_false, Bool.false_eq_true, if_false, cond_true, Bool.true_and]
     rw [oppositeN hP hy1, Option.bind_some, totalN hP hy2 (m _), Option.bind_some, oppositeN hP hx1, Option.bind_some, totalN hP hx1 (m _), Option.bind_some, eu, ed]
     by_cases hye : y1 = y2
     ·subst hye
      simp only [decide_true, Bool.not_true, Bool.false_eq_true, if_false, if_true]
      rw [smallN hP _ (show (0 : Int) <= 3 /\ (3 : Int) < 18446744073709551616 by decide), Option.bind_some]
      simp only []
      rw [mulN hP _ hx1 hx1, Option.bind_some]
      simp only []
      rw [mulN hP _ (m _) (m _), Option.bind_some]
      simp only []
      rw [addN hP _ (m _) hA, Option.bind_some]
      simp only []
      rw [addN hP _ hy1 hy1, Option.bind_some]
      simp only []
      rw [byN hP (show (0 : Int) <= 3 /\ (3 : Int) < 4294967296 by decide), Option.bind_some, productN hP hx1 hx1, Option.bind_some, productN hP (m _) (m _), Option.bind_some, totalN hP (m _) hA, Option.bind_some, totalN hP hy1 hy1, Option.bind_some]
      obtain ⟨s, ok, k1, k2, k3, _, _, k6⟩ := slope_both hP Nw bs false false hx1 hy1 hx1 hy1 (m (3 % P * (x1 * x1 % P) % P + A)) (m (y1 + y1)) (mk A) (mk B)
      refine ⟨s, ok, k1, k2, k3, fun h1 _ hk => ?_⟩
      refine on_of hP (cub_of h1 hx1 hy1 hP) (k6 hk) fun v hv => ?_
      rw [mulL] at hv
      refine Ch.alp_tan (u := v) (by rw [Int.mul_comm] at hv; rw [Int.mul_comm]; exact dvd_of hv) (dvd_of ?_)
      simp only [mulL, mulR, addL, Int.emod_emod]
     ·simp only [hye, decide_false, Bool.not_false, if_true, Bool.false_eq_true, if_false]
      obtain ⟨s, ok, k1, k2, k3, k4, k5, _⟩ := slope_both hP Nw bs false false hx1 hy1 hx1 hy2 (m (y2 - y1)) (m (x1 - x1)) (mk A) (mk B)
      have h0 := k4 (by rw [Int.sub_self]; exact Int.zero_emod _)
      have hs := k5 h0
      subst h0
      subst hs
      exact ⟨zPt, false, rfl, k2, k3, fun _ _ h => absurd h (by decide)⟩
   ·simp only [hxe, decide_false, Bool.false_eq_true, if_false, cond_false, Bool.false_and, show (false == true) = false from rfl, Option.bind_some]
    rw [oppositeN hP hy1, Option.bind_some, totalN hP hy2 (m _), Option.bind_some, oppositeN hP hx1, Option.bind_some, totalN hP hx2 (m _), Option.bind_some, eu, ed]
    obtain ⟨s, ok, k1, k2, k3, _, _, k6⟩ := slope_both hP Nw bs false false hx1 hy1 hx2 hy2 (m (y2 - y1)) (m (x2 - x1)) (mk A) (mk B)
    refine ⟨s, ok, k1, k2, k3, fun h1 h2 hk => ?_⟩
    refine on_of hP (cub_of h1 hx1 hy1 hP) (k6 hk) fun v hv => ?_
    rw [mulL] at hv
    exact Ch.alp_of (y2 := y2) (u := v) (cub_of h1 hx1 hy1 hP) (cub_of h2 hx2 hy2 hP) (dvd_of hv) (dvd_of (by simp only [mulL, Int.emod_emod]))
end
end Go.Bx.Rg
namespace Go.Bx
open Go Go.Bx.Rg
set_option linter.unusedSimpArgs false
set_option linter.unusedVariables false
abbrev PtTy : Ty := .pair U256 (.pair U256 (.pair .bool .unit))
abbrev CvTy : Ty := .pair U256 (.pair U256 (.pair U256 (.pair U256 (.pair PtTy .unit))))
theorem pt_num (p : PtD) (h : Fit reachK PtTy p) : ∃ x y f, p = (mk x, mk y, f, ()) /\ (0 <= x /\ x < M256) /\ (0 <= y /\ y < M256) := by
 obtain ⟨a, b, f, u⟩ := p
 obtain ⟨h1, h2, _⟩ := h
 have w1 : W4 a := digs_of_fit h1
 have w2 : W4 b := digs_of_fit h2
 exact ⟨_, _, f, by rw [<- mk_of w1, <- mk_of w2], w1.bound, w2.bound⟩
theorem cv_num (c : CvD) (h : Fit reachK CvTy c) : ∃ P A B N x y f, c = (mk P, mk A, mk B, mk N, (mk x, mk y, f, ()), ()) /\ (0 <= P /\ P < M256) /\ (0 <= A /\ A < M256) /\ (0 <= B /\ B < M256) /\ (0 <= N /\ N < M256) /\ (0 <= x /\ x < M256) /\ (0 <= y /\ y < M256) := by
 obtain ⟨p, a, b, n, q, u⟩ := c
 obtain ⟨h1, h2, h3, h4, h5, _⟩ := h
 have w1 : W4 p := digs_of_fit h1
 have w2 : W4 a := digs_of_fit h2
 have w3 : W4 b := digs_of_fit h3
 have w4 : W4 n := digs_of_fit h4
 obtain ⟨x, y, f, rfl, b1, b2⟩ := pt_num q h5
 exact ⟨_, _, _, _, x, y, f, by rw [<- mk_of w1, <- mk_of w2, <- mk_of w3, <- mk_of w4], w1.bound, w2.bound, w3.bound, w4.bound, b1, b2⟩
end Go.Bx
namespace Go.Bx
open Go
set_option linter.unusedSimpArgs false
set_option linter.unusedVariables false
end Go.Bx
namespace Go.Bx
open Go Go.Bx.Rg
set_option linter.unusedSimpArgs false
set_option linter.unusedVariables false
def addR (c : CvD) (p q : PtD) : PtD × Bool := match curve_add.run c p q with
 | some (s, ok, _) => (s, ok)
 | none => (zPt, false)
def bitK (k : List Int) (i : Nat) : Bool := (k.getD (i / 64) 0).toNat.testBit (i % 64)
def stepM (c : CvD) (k : List Int) (p : PtD) (i : Nat) (o : PtD) : Option PtD :=
 if (addR c o o).2 = true then
  if bitK k i = true then (if (addR c (addR c o o).1 p).2 = true then some (addR c (addR c o o).1 p).1 else none) else some (addR c o o).1
 else none
def runM (c : CvD) (k : List Int) (p : PtD) : Nat -> Nat -> PtD -> Option PtD
 | 0, _, o => some o
 | d + 1, b, o => (stepM c k p (b + d) o).bind (runM c k p d b)
theorem runM_split (c : CvD) (k : List Int) (p : PtD) (a b : Nat) : ∀ (d : Nat) (o : PtD), runM c k p (a + d) b o = (runM c k p d (b + a) o).bind (runM c k p a b)
 | 0, o => rfl
 | d + 1, o => by
  show (stepM c k p (b + (a + d)) o).bind (runM c k p (a + d) b) = ((stepM c k p (b + a + d) o).bind (runM c k p d (b + a))).bind (runM c k p a b)
  rw [show b + (a + d) = b + a + d by omega]
  cases stepM c k p (b + a + d) o with
  | none => rfl
  | some s => exact runM_split c k p a b d s
section
variable {P A B : Int} (hP : 1 < P /\ P < M256) (hA : 0 <= A /\ A < P) (Nw : List Int) (bs : PtD)
include hP hA
theorem addR_run {p q : PtD} (hp : PtOk P p) (hq : PtOk P q) : curve_add.run (mk P, mk A, mk B, Nw, bs, ()) p q = some ((addR (mk P, mk A, mk B, Nw, bs, ()) p q).1, (addR (mk P, mk A, mk B, Nw, bs, ()) p q).2, ()) /\
  basculeref_together.run (mk P, mk A, mk B, Nw, bs, ()) p q = some ((addR (mk P, mk A, mk B, Nw, bs, ()) p q).1, (addR (mk P, mk A, mk B, Nw, bs, ()) p q).2, ()) /\ PtOk P (addR (mk P, mk A, mk B, Nw, bs, ()) p q).1 := by
 obtain ⟨s, ok, t1, t2, t3, _⟩ := add_both hP hA (B := B) Nw bs hp hq
 unfold addR
 rw [t1, t2]
 exact ⟨rfl, rfl, t3⟩
theorem step_ok {k : List Int} {p o s : PtD} (hp : PtOk P p) (ho : PtOk P o) (i : Nat) (h : stepM (mk P, mk A, mk B, Nw, bs, ()) k p i o = some s) : PtOk P s := by
 obtain ⟨_, _, t3⟩ := addR_run hP hA (B := B) Nw bs ho ho
 obtain ⟨_, _, t4⟩ := addR_run hP hA (B := B) Nw bs t3 hp
 unfold stepM at h
 split at h
 ·split at h
  ·split at h
   ·cases h; exact t4
   ·cases h
  ·cases h; exact t3
 ·cases h
theorem mult_loop {α : Type} (Xt : Bool -> PtD -> PtD -> Option α) (K : Nat) (k : List Int) (hk : W4 k) (p z : PtD) (hp : PtOk P p) : ∀ (d n : Nat) (o : PtD), d < n -> d <= 256 -> PtOk P o ->
  ∃ ok r, curve_Mult.l0 K Xt n true ((d : Int) - 1) (mk P, mk A, mk B, Nw, bs, ()) k p z o = Xt ok z r /\ (∀ s, runM (mk P, mk A, mk B, Nw, bs, ()) k p d 0 o = some s -> ok = true /\ r = s) /\ (runM (mk P, mk A, mk B, Nw, bs, ()) k p d 0 o = none -> ok = false)
 | d, 0, o, h, _, _ => by omega
 | 0, n + 1, o, h, _, ho => by
  simp only [curve_Mult.l0, curve_Mult.l0s]
  rw [show decide (((0 : Nat) : Int) - 1 >= 0) = false from rfl, cond_false, if_neg (by decide)]
  exact ⟨true, o, rfl, fun s hs => by cases hs; exact ⟨rfl, rfl⟩, fun hn => by cases hn⟩
 | d + 1, n + 1, o, h, hd, ho => by
  obtain ⟨t1, _, t3⟩ := addR_run hP hA (B := B) Nw bs ho ho
  obtain ⟨t4, _, t6⟩ := addR_run hP hA (B := B) Nw bs t3 hp
  simp only [curve_Mult.l0, curve_Mult.l0s]
  have e0 : ((d + 1 : Nat) : Int) - 1 = (d : Int) := by omega
  rw [e0, show decide ((d : Int) >= 0) = true by rw [decide_eq_true_eq]; omega, cond_true, if_pos rfl, t1, Option.bind_some]
  have e1 : IntKind.i64.wrap (Int.tdiv (d : Int) 64) = ((d / 64 : Nat) : Int) := i64_tdiv (x := d) (c := 64) (by omega)
  have e2 : Int.tmod (d : Int) 64 = ((d % 64 : Nat) : Int) := tmod_nat d 64
  have e3 : decide (0 <= ((d / 64 : Nat) : Int) /\ ((d / 64 : Nat) : Int) < 4) = true := by rw [decide_eq_true_eq]; omega
  have e4 : decide (0 <= ((d % 64 : Nat) : Int)) = true := by rw [decide_eq_true_eq]; omega
  have hw := digs_getD B64_pos hk.2 (d / 64)
  have hbit : (band .u64 (shrI .u64 (k.getD (d / 64) 0) ((d % 64 : Nat) : Int)) 1 == 1) = bitK k d := by
   unfold bitK
   obtain ⟨X, hX⟩ := Int.eq_ofNat_of_zero_le hw.1
   have hX2 : X < 18446744073709551616 := by have := hw.2; unfold B64 at this; omega
   rw [hX, shr_nat (Nat.mod_lt _ (by decide))]
   have := band_nat (X := X >>> (d % 64)) (Y := 1) (Nat.lt_of_le_of_lt (Nat.shiftRight_le _ _) hX2) (by decide)
   rw [show ((1 : Nat) : Int) = 1 from rfl] at this
   rw [this, show ((X : Nat) : Int).toNat = X from rfl, <- shr_and_one]
   rw [Bool.eq_iff_iff, beq_iff_eq, beq_iff_eq]; omega
  simp only [e1, e2, e3, e4, Bool.true_or, cond_true, toNat_nat, hbit, cond_and]
  unfold runM
  rw [Nat.zero_add]
  have ih := fun o ho => mult_loop Xt K k hk p z hp d n o (by omega) (by omega) ho
  have stop : ∀ o, ∃ r, curve_Mult.l0 K Xt n false ((d : Int) - 1) (mk P, mk A, mk B, Nw, bs, ()) k p z o = Xt false z r := fun o => by
   obtain ⟨n, rfl⟩ : ∃ m, n = m + 1 := ⟨n - 1, by omega⟩
   simp only [curve_Mult.l0, curve_Mult.l0s]
   rw [if_neg (by cases decide ((d : Int) - 1 >= 0) <;> decide)]
   exact ⟨o, rfl⟩
  unfold curve_Mult.j0
  rw [wrap_i64 (x := (d : Int) - 1) (by omega) (by omega)]
  unfold stepM
  cases hk1 : (addR (mk P, mk A, mk B, Nw, bs, ()) o o).2 with
  | false =>
   simp only [Bool.false_and, Bool.false_eq_true, if_false, Option.bind_none]
   obtain ⟨r, hr⟩ := stop (addR (mk P, mk A, mk B, Nw, bs, ()) o o).1
   refine ⟨false, r, hr, ?_, ?_⟩
   ·intro s hs; cases hs
   ·intro _; rfl
  | true =>
   simp only [Bool.true_and, if_true]
   cases hb : bitK k d with
   | false =>
    simp only [Bool.false_eq_true, if_false, Option.bind_some]
    exact ih _ t3
   | true =>
    simp only [if_true, t4, Option.bind_some]
    cases hk2 : (addR (mk P, mk A, mk B, Nw, bs, ()) (addR (mk P, mk A, mk B, Nw, bs, ()) o o).1 p).2 with
    | false =>
     simp only [Bool.false_eq_true, if_false, Option.bind_none]
     obtain ⟨r, hr⟩ := stop (addR (mk P, mk A, mk B, Nw, bs, ()) (addR (mk P, mk A, mk B, Nw, bs, ()) o o).1 p).1
     refine ⟨false, r, hr, ?_, ?_⟩
     ·intro s hs; cases hs
     ·intro _; rfl
    | true =>
     simp only [if_true, Option.bind_some]
     exact ih _ t6
theorem often_inner {α : Type} (Rt : Bool -> PtD -> Option α) (Xt : Int -> CvD -> List Int -> PtD -> PtD -> PtD -> Option α) (K : Nat) (k : List Int) (hk : W4 k) (p z : PtD) (hp : PtOk P p) (w : Nat) (hw4 : w < 4) : ∀ (d n : Nat) (o : PtD), d < n -> d <= 64 -> PtOk P o ->
  (∃ s, runM (mk P, mk A, mk B, Nw, bs, ()) k p d (64 * w) o = some s /\ PtOk P s /\ basculeref_often.l1 K Rt Xt n (w : Int) ((d : Int) - 1) (mk P, mk A, mk B, Nw, bs, ()) k p z o = Xt (w : Int) (mk P, mk A, mk B, Nw, bs, ()) k p z s) \/
  (runM (mk P, mk A, mk B, Nw, bs, ()) k p d (64 * w) o = none /\ basculeref_often.l1 K Rt Xt n (w : Int) ((d : Int) - 1) (mk P, mk A, mk B, Nw, bs, ()) k p z o = Rt false zPt)
 | d, 0, o, h, _, _ => by omega
 | 0, n + 1, o, h, _, ho => by
  simp only [basculeref_often.l1, basculeref_often.l1s]
  rw [show decide (((0 : Nat) : Int) - 1 >= 0) = false from rfl, if_neg (by decide)]
  exact .inl ⟨o, rfl, ho, rfl⟩
 | d + 1, n + 1, o, h, hd, ho => by
  obtain ⟨_, t1, t3⟩ := addR_run hP hA (B := B) Nw bs ho ho
  obtain ⟨_, t4, t6⟩ := addR_run hP hA (B := B) Nw bs t3 hp
  simp only [basculeref_often.l1, basculeref_often.l1s]
  have e0 : ((d + 1 : Nat) : Int) - 1 = (d : Int) := by omega
  rw [e0, show decide ((d : Int) >= 0) = true by rw [decide_eq_true_eq]; omega, if_pos rfl, t1, Option.bind_some]
  have e3 : decide (0 <= (w : Int) /\ (w : Int) < 4) = true := by rw [decide_eq_true_eq]; omega
  have e4 : decide (0 <= (d : Int)) = true := by rw [decide_eq_true_eq]; omega
  have hwd := digs_getD B64_pos hk.2 w
  have hbit : (band .u64 (k.getD w 0) (shlI .u64 1 (d : Int)) != 0) = bitK k (64 * w + d) := by
   unfold bitK
   rw [show (64 * w + d) / 64 = w by omega, show (64 * w + d) % 64 = d by omega]
   obtain ⟨X, hX⟩ := Int.eq_ofNat_of_zero_le hwd.1
   have hX2 : X < 18446744073709551616 := by have := hwd.2; unfold B64 at this; omega
   rw [hX, shl1_nat (by omega), band_nat hX2 (two_pow_lt (by omega)), show ((X : Nat) : Int).toNat = X from rfl, <- and_pow_ne]
   rw [Bool.eq_iff_iff, bne_iff_ne, bne_iff_ne]; omega
  simp only [e3, e4, Bool.true_or, cond_true, toNat_nat, hbit, cond_and]
  unfold runM
  have ih := fun o ho => often_inner Rt Xt K k hk p z hp w hw4 d n o (by omega) (by omega) ho
  unfold basculeref_often.j0
  rw [wrap_i64 (x := (d : Int) - 1) (by omega) (by omega)]
  unfold stepM
  cases hk1 : (addR (mk P, mk A, mk B, Nw, bs, ()) o o).2 with
  | false =>
   simp only [Bool.false_and, Bool.false_eq_true, if_false, Option.bind_none, Bool.not_false, if_true]
   exact .inr ⟨trivial, trivial⟩
  | true =>
   simp only [Bool.true_and, if_true, Bool.not_true, Bool.false_eq_true, if_false]
   cases hb : bitK k (64 * w + d) with
   | false =>
    simp only [Bool.false_eq_true, if_false, Option.bind_some]
    exact ih _ t3
   | true =>
    simp only [if_true, t4, Option.bind_some]
    cases hk2 : (addR (mk P, mk A, mk B, Nw, bs, ()) (addR (mk P, mk A, mk B, Nw, bs, ()) o o).1 p).2 with
    | false =>
     simp only [Bool.false_eq_true, if_false, Option.bind_none, Bool.not_false, if_true]
     exact .inr ⟨trivial, trivial⟩
    | true =>
     simp only [if_true, Option.bind_some, Bool.not_true, Bool.false_eq_true, if_false]
     exact ih _ t6
theorem often_outer {α : Type} (Rt : Bool -> PtD -> Option α) (Xt : PtD -> PtD -> Option α) (K : Nat) (hK : 64 < K) (k : List Int) (hk : W4 k) (p z : PtD) (hp : PtOk P p) : ∀ (w n : Nat) (o : PtD), w < n -> w <= 4 -> PtOk P o ->
  (∃ s, runM (mk P, mk A, mk B, Nw, bs, ()) k p (64 * w) 0 o = some s /\ PtOk P s /\ basculeref_often.l0 K Rt Xt n ((w : Int) - 1) (mk P, mk A, mk B, Nw, bs, ()) k p z o = Xt z s) \/
  (runM (mk P, mk A, mk B, Nw, bs, ()) k p (64 * w) 0 o = none /\ basculeref_often.l0 K Rt Xt n ((w : Int) - 1) (mk P, mk A, mk B, Nw, bs, ()) k p z o = Rt false zPt)
 | w, 0, o, h, _, _ => by omega
 | 0, n + 1, o, h, _, ho => by
  simp only [basculeref_often.l0, basculeref_often.l0s]
  rw [show decide (((0 : Nat) : Int) - 1 >= 0) = false from rfl, if_neg (by decide)]
  exact .inl ⟨o, rfl, ho, rfl⟩
 | w + 1, n + 1, o, h, hw, ho => by
  simp only [basculeref_often.l0, basculeref_often.l0s]
  have e0 : ((w + 1 : Nat) : Int) - 1 = (w : Int) := by omega
  rw [e0, show decide ((w : Int) >= 0) = true by rw [decide_eq_true_eq]; omega, if_pos rfl]
  rw [show 64 * (w + 1) = 64 * w + 64 by omega, runM_split, Nat.zero_add]
  rcases often_inner hP hA Nw bs Rt (fun x9 c3 c4 c5 c6 c8 => basculeref_often.j1 (basculeref_often.l0 K Rt Xt n) x9 c3 c4 c5 c6 c8) K k hk p z hp w (by omega) 64 K o hK (by omega) ho with ⟨s, h1, h2, h3⟩ | ⟨h1, h3⟩
  ·rw [h1, Option.bind_some]
   have h3 := h3
   rw [show ((64 : Nat) : Int) - 1 = 63 from rfl] at h3
   rw [h3]
   unfold basculeref_often.j1
   rw [wrap_i64 (x := (w : Int) - 1) (by omega) (by omega)]
   exact often_outer Rt Xt K hK k hk p z hp w n s (by omega) (by omega) h2
  ·rw [h1, Option.bind_none]
   rw [show ((64 : Nat) : Int) - 1 = 63 from rfl] at h3
   exact .inr ⟨rfl, h3⟩
theorem add_on {p q : PtD} (hp : PtOk P p) (hq : PtOk P q) (h1 : OnV P A B p) (h2 : OnV P A B q) (hk : (addR (mk P, mk A, mk B, Nw, bs, ()) p q).2 = true) : OnV P A B (addR (mk P, mk A, mk B, Nw, bs, ()) p q).1 := by
 obtain ⟨s, ok, t1, t2, t3, t4⟩ := add_both hP hA (B := B) Nw bs hp hq
 unfold addR at hk ⊢
 rw [t1] at hk ⊢
 exact t4 h1 h2 hk
theorem step_on {k : List Int} {p o s : PtD} (hp : PtOk P p) (ho : PtOk P o) (h1 : OnV P A B p) (h2 : OnV P A B o) (i : Nat) (h : stepM (mk P, mk A, mk B, Nw, bs, ()) k p i o = some s) : OnV P A B s := by
 obtain ⟨_, _, t3⟩ := addR_run hP hA (B := B) Nw bs ho ho
 unfold stepM at h
 split at h
 ·rename_i hk
  have a1 := add_on hP hA (B := B) Nw bs ho ho h2 h2 hk
  split at h
  ·split at h
   ·rename_i hk2
    cases h; exact add_on hP hA (B := B) Nw bs t3 hp a1 h1 hk2
   ·cases h
  ·cases h; exact a1
 ·cases h
theorem run_on {k : List Int} {p : PtD} (hp : PtOk P p) (h1 : OnV P A B p) : ∀ (d b : Nat) (o s : PtD), PtOk P o -> OnV P A B o -> runM (mk P, mk A, mk B, Nw, bs, ()) k p d b o = some s -> PtOk P s /\ OnV P A B s
 | 0, b, o, s, h2, h3, h => by cases h; exact ⟨h2, h3⟩
 | d + 1, b, o, s, h2, h3, h => by
  unfold runM at h
  cases hs : stepM (mk P, mk A, mk B, Nw, bs, ()) k p (b + d) o with
  | none => rw [hs] at h; cases h
  | some t =>
   rw [hs] at h
   exact run_on hp h1 d b t s (step_ok hP hA (B := B) Nw bs hp h2 _ hs) (step_on hP hA (B := B) Nw bs hp h2 h1 h3 _ hs) h
end
theorem mult_full {P A B N x y : Int} {f : Bool} {k : List Int} {px py : Int} {pf : Bool} (b1 : 0 <= P /\ P < M256) (b2 : 0 <= A /\ A < M256) (b3 : 0 <= B /\ B < M256) (b4 : 0 <= N /\ N < M256) (b5 : 0 <= x /\ x < M256) (b6 : 0 <= y /\ y < M256)
  (h0 : curveE P A B N x y f = 0) (hk : W4 k) (p1 : 0 <= px /\ px < M256) (p2 : 0 <= py /\ py < M256) (hp' : onB P A B px py pf = true) :
  ∃ (s t : PtD) (e : Int) (ok : Bool), curve_Mult.run (mk P, mk A, mk B, mk N, (mk x, mk y, f, ()), ()) k (mk px, mk py, pf, ()) = some (s, e, ()) /\ basculeref_often.run (mk P, mk A, mk B, mk N, (mk x, mk y, f, ()), ()) k (mk px, mk py, pf, ()) = some (t, ok, ()) /\
   (ok = true -> e = 0 /\ t = s /\ PtOk P s /\ OnV P A B s) /\ (ok = false -> e = 16 /\ s = zPt) := by
 obtain ⟨e1, e2⟩ := curve_both f b1 b2 b3 b4 b5 b6
 obtain ⟨g1, g2, g3, g4⟩ := curveE_ok h0
 have hM : 1 < P /\ P < M256 := ⟨by omega, b1.2⟩
 obtain ⟨o1, o2⟩ := on_both hM ⟨b2.1, g3⟩ ⟨b3.1, g4⟩ (mk N) (mk x, mk y, f, ()) pf p1 p2
 have hfl : ∀ Rt : Int -> Option Int, curve_fault.l0 fuel Rt (curve_fault.j0 Rt) fuel [(mk px, mk py, pf, ())] ((([(mk px, mk py, pf, ())] : List PtD).length : Nat) : Int) 0 (mk P, mk A, mk B, mk N, (mk x, mk y, f, ()), ()) = if onB P A B px py pf = true then Rt 0 else Rt 16 := by
  intro Rt
  obtain ⟨q, hq⟩ : ∃ q, fuel = q + 2 := ⟨fuel - 2, by rw [fuel_big]⟩
  rw [hq]
  simp only [curve_fault.l0, curve_fault.l0s, curve_fault.j0]
  have s1 : (decide ((0 : Int) < (([(mk px, mk py, pf, ())] : List PtD).length : Int))) = true := rfl
  have s2 : (decide ((1 : Int) < (([(mk px, mk py, pf, ())] : List PtD).length : Int))) = false := rfl
  have r1 : (0 : Int) <= 0 /\ (0 : Int) < (([(mk px, mk py, pf, ())] : List PtD).length : Int) := by simp
  have w1 : IntKind.i64.wrap (0 + 1) = 1 := rfl
  have d1 : ([(mk px, mk py, pf, ())] : List PtD).getD (Int.toNat 0) ([0, 0, 0, 0], [0, 0, 0, 0], false, ()) = (mk px, mk py, pf, ()) := rfl
  rw [w1, s1, s2, d1, if_pos r1, o1, if_pos rfl, Option.bind_some]
  cases onB P A B px py pf <;> rfl
 have hpo := pt_on hM hp' p1 p2
 have hpv : OnV P A B ((mk px, mk py, pf, ()) : PtD) := by
  unfold OnV
  simp only []
  rw [mk_val p1, mk_val p2]; exact hp'
 have hfar : PtOk P ([0, 0, 0, 0], [0, 0, 0, 0], true, ()) := zPt_ok hM true
 have hfv : OnV P A B ([0, 0, 0, 0], [0, 0, 0, 0], true, ()) := by simp [OnV, onB, val]
 unfold curve_Mult.run curve_Mult.top curve_fault.run curve_fault.top
 rw [e1]
 simp only [Option.bind_some]
 rw [h0, if_neg (by decide), hfl, hp']
 simp only [if_true, Option.bind_some, show ((0 : Int) != 0) = false from rfl, Bool.false_eq_true, if_false, BEq.rfl, Bool.not_true, cond_false]
 unfold basculeref_often.run basculeref_often.top
 obtain ⟨ok, r, m1, m2, m3⟩ := mult_loop hM ⟨b2.1, g3⟩ (B := B) (mk N) (mk x, mk y, f, ()) (fun x10 c6 c9 => curve_Mult.j1 (fun x7 c6 => some (c6, x7, ())) x10 c6 c9) fuel k hk (mk px, mk py, pf, ()) zPt hpo 256 fuel ([0, 0, 0, 0], [0, 0, 0, 0], true, ()) (by rw [fuel_big]; omega) (by omega) hfar
 rw [show ((256 : Nat) : Int) - 1 = 255 from rfl] at m1
 rw [m1]
 rcases often_outer hM ⟨b2.1, g3⟩ (B := B) (mk N) (mk x, mk y, f, ()) (fun x7 c6 => some (c6, x7, ())) (fun c6 c8 => basculeref_often.j2 (fun x7 c6 => some (c6, x7, ())) c6 c8) fuel (by rw [fuel_big]; omega) k hk (mk px, mk py, pf, ()) zPt hpo 4 fuel ([0, 0, 0, 0], [0, 0, 0, 0], true, ()) (by rw [fuel_big]; omega) (by omega) hfar with ⟨s, h1, h2, h3⟩ | ⟨h1, h3⟩
 ·rw [show ((4 : Nat) : Int) - 1 = 3 from rfl] at h3
  rw [h3]
  obtain ⟨rfl, rfl⟩ := m2 s h1
  exact ⟨_, _, _, _, rfl, rfl, fun _ => ⟨rfl, rfl, run_on hM ⟨b2.1, g3⟩ (B := B) (mk N) (mk x, mk y, f, ()) hpo hpv _ _ _ _ hfar hfv h1⟩, fun h => absurd h (by decide)⟩
 ·rw [show ((4 : Nat) : Int) - 1 = 3 from rfl] at h3
  rw [h3]
  have := m3 h1
  subst this
  exact ⟨_, _, _, _, rfl, rfl, fun h => absurd h (by decide), fun _ => ⟨rfl, rfl⟩⟩
theorem curveE_on {P A B N x y : Int} {f : Bool} (h : curveE P A B N x y f = 0) : onB P A B x y f = true /\ f = false /\ 1 < N := by
 unfold curveE at h
 split at h
 ·rename_i hg
  split at h
  ·exact absurd h (by decide)
  ·rename_i h2
   simp only [Bool.or_eq_true, Bool.not_eq_true', not_or, Bool.not_eq_true, Bool.not_eq_false] at h2
   unfold goodC at hg
   simp only [Bool.and_eq_true, decide_eq_true_eq] at hg
   exact ⟨h2.2, h2.1.2, hg.2⟩
 ·exact absurd h (by decide)
end Go.Bx
namespace Go.Bx
open Go Go.Bx.Rg
set_option linter.unusedSimpArgs false
set_option linter.unusedVariables false
def secB (D N : Int) : Bool := !decide (D = 0) && decide (D < N)
theorem secret_both {D N : Int} (P A B : List Int) (q : PtD) (hD : 0 <= D /\ D < M256) (hN : 0 <= N /\ N < M256) : sign_secret.run (P, A, B, mk N, q, ()) (mk D) = some (secB D N) /\ basculeref_mayBeSecret.run (P, A, B, mk N, q, ()) (mk D) = some (secB D N) := by
 constructor
 ·unfold sign_secret.run sign_secret.top secB
  simp only []
  rw [zeroW hD, cmpN hD hN]
  by_cases h : D = 0
  ·subst h; simp
  ·simp only [h, decide_false, Bool.not_false, BEq.rfl, if_true, Option.bind_some, lt_d, cond_true, Bool.true_and]
 ·unfold basculeref_mayBeSecret.run basculeref_mayBeSecret.top secB basculeref_isZero.run basculeref_isZero.top
  simp only []
  rw [Option.bind_some, zeroW hD, orderN hD hN]
  by_cases h : D = 0
  ·subst h; simp
  ·simp only [h, decide_false, Bool.not_false, BEq.rfl, if_true, Option.bind_some, lt_d, cond_true, Bool.true_and]
end Go.Bx
namespace Go.Bx
open Go Go.Bx.Rg
set_option linter.unusedSimpArgs false
set_option linter.unusedVariables false
abbrev SgD : Type := List Int × List Int × Int × Unit
abbrev zSg : SgD := ([0, 0, 0, 0], [0, 0, 0, 0], 0, ())
theorem bandOne {n : Int} (h : 0 <= n /\ n < 18446744073709551616) : band .u64 n 1 = n % 2 := by
 obtain ⟨X, rfl⟩ := Int.eq_ofNat_of_zero_le h.1
 have := band_nat (X := X) (Y := 1) (by omega) (by decide)
 rw [show ((1 : Nat) : Int) = 1 from rfl] at this
 rw [this, Nat.and_one_is_mod]; omega
theorem low0 (y : Int) : (mk y).getD 0 0 = y % 18446744073709551616 := rfl
theorem odd_prog (y : Int) : IntKind.i64.wrap (Int.tmod ((mk y).getD 0 0) 2) = y % 2 := by
 rw [low0, Int.tmod_eq_emod_of_nonneg (by omega), wrap_i64 (by omega) (by omega)]; omega
theorem odd_ref (y : Int) : IntKind.i64.wrap (band .u64 ((mk y).getD 0 0) 1) = y % 2 := by
 rw [low0, bandOne (by omega), wrap_i64 (by omega) (by omega)]; omega
theorem bx1 (a : Int) (h : a = 0 \/ a = 1) : bxor .i64 a 1 = 1 - a /\ bxor .i64 (IntKind.i64.wrap (a + 2)) 1 = 1 - a + 2 := by
 rcases h with rfl | rfl <;> decide
theorem try_both {P A B N x y z κ D : Int} {f : Bool} (b1 : 0 <= P /\ P < M256) (b2 : 0 <= A /\ A < M256) (b3 : 0 <= B /\ B < M256) (b4 : 0 <= N /\ N < M256) (b5 : 0 <= x /\ x < M256) (b6 : 0 <= y /\ y < M256)
  (h0 : curveE P A B N x y f = 0) (hz : 0 <= z /\ z < N) (hk : 0 <= κ /\ κ < N) (hD : 0 <= D /\ D < N) {α : Type} (Nx : Int -> CvD -> List Int -> List Int -> SgD -> List Int -> Option α) (Rt : Int -> SgD -> Option α) (i : Int) (h : List Int) (zs : SgD) :
  (∃ s, sign_try.run (mk P, mk A, mk B, mk N, (mk x, mk y, f, ()), ()) (mk D) (mk z) (mk κ) = some (s, false, 0, ()) /\ basculeref_Signed.j0 Nx Rt i (mk P, mk A, mk B, mk N, (mk x, mk y, f, ()), ()) (mk D) h zs (mk z) (mk κ) = basculeref_Signed.j1 Nx i (mk P, mk A, mk B, mk N, (mk x, mk y, f, ()), ()) (mk D) h zs (mk z)) \/
  (∃ s b, sign_try.run (mk P, mk A, mk B, mk N, (mk x, mk y, f, ()), ()) (mk D) (mk z) (mk κ) = some (s, b, 16, ()) /\ basculeref_Signed.j0 Nx Rt i (mk P, mk A, mk B, mk N, (mk x, mk y, f, ()), ()) (mk D) h zs (mk z) (mk κ) = Rt 16 zSg) \/
  (∃ s, sign_try.run (mk P, mk A, mk B, mk N, (mk x, mk y, f, ()), ()) (mk D) (mk z) (mk κ) = some (s, true, 0, ()) /\ basculeref_Signed.j0 Nx Rt i (mk P, mk A, mk B, mk N, (mk x, mk y, f, ()), ()) (mk D) h zs (mk z) (mk κ) = Rt 0 s) := by
 obtain ⟨o1, of, oN⟩ := curveE_on h0
 have hN : 1 < N /\ N < M256 := ⟨oN, b4.2⟩
 have mN := modIn hN
 obtain ⟨s, t, e, ok, m1, m2, m3, m4⟩ := mult_full b1 b2 b3 b4 b5 b6 h0 (mk_w κ) b5 b6 o1
 unfold sign_try.run sign_try.top basculeref_Signed.j0
 rw [zeroW ⟨hk.1, by omega⟩, isZ hN ⟨hk.1, by omega⟩]
 simp only [Option.bind_some]
 by_cases hk0 : κ = 0
 ·rw [if_pos (by simpa using hk0), if_pos (by simpa using hk0)]
  exact .inl ⟨_, rfl, rfl⟩
 rw [if_neg (by simpa using hk0), if_neg (by simpa using hk0), m1, m2]
 simp only [Option.bind_some]
 cases ok with
 | false =>
  rw [(m4 rfl).1]
  exact .inr (.inl ⟨_, _, rfl, rfl⟩)
 | true =>
  obtain ⟨rfl, rfl, ⟨X, Y, F, rfl, hX, hY⟩, _⟩ := m3 rfl
  have hX' : 0 <= X /\ X < M256 := ⟨hX.1, by omega⟩
  simp only [bne_self_eq_false, Bool.false_eq_true, if_false, Bool.not_true]
  rw [restP hN hX', Option.bind_some, ofR hN hX', zeroW ⟨(mN X).1, by have := (mN X).2; omega⟩]
  rw [isZ hN ⟨(mN X).1, by have := (mN X).2; omega⟩]
  cases F with
  | true => exact .inl ⟨_, rfl, rfl⟩
  | false =>
   simp only [BEq.rfl, if_true, Option.bind_some, cond_false]
   by_cases hR : X % N = 0
   ·rw [if_pos (by simpa using hR), if_pos (by simpa using hR)]
    exact .inl ⟨_, rfl, rfl⟩
   rw [if_neg (by simpa using hR), if_neg (by simpa using hR), cmpN hX' b4, Option.bind_some, odd_prog]
   rw [ofR hN ⟨hk.1, by omega⟩, Int.emod_eq_of_lt hk.1 hk.2]
   obtain ⟨v, e, ok, w, i1, i2, i3, i4⟩ := invF hN hk
   unfold sign_try.j0
   simp only []
   rw [i1, i2]
   simp only [Option.bind_some]
   cases ok with
   | false =>
    rw [i4 rfl]
    refine .inr (.inl ?_)
    cases decide (sg X N >= 0)
    ·exact ⟨_, _, rfl, rfl⟩
    ·exact ⟨_, _, rfl, rfl⟩
   | true =>
    obtain ⟨rfl, rfl, hv⟩ := i3 rfl
    simp only [bne_self_eq_false, Bool.false_eq_true, if_false, Bool.not_true]
    rw [fmulN hN (mN X) hD, productN hN (mN X) hD]
    simp only [Option.bind_some]
    rw [faddN hN hz (mN _), totalN hN hz (mN _)]
    simp only [Option.bind_some]
    rw [fmulN hN hv (mN _), productN hN hv (mN _)]
    simp only [Option.bind_some]
    have hS := mN (v * ((z + X % N * D % N) % N))
    generalize v * ((z + X % N * D % N) % N) % N = S at hS ⊢
    have hS' : 0 <= S /\ S < M256 := ⟨hS.1, by omega⟩
    rw [zeroW hS', isZ hN hS', Option.bind_some]
    by_cases hS0 : S = 0
    ·refine .inl ?_
     rw [if_pos (show decide (S = 0) = true by simpa using hS0), if_pos (show decide (S = 0) = true by simpa using hS0), if_pos (show decide (S = 0) = true by simpa using hS0)]
     cases decide (sg X N >= 0)
     ·exact ⟨_, rfl, rfl⟩
     ·exact ⟨_, rfl, rfl⟩
    rw [if_neg (show ¬ decide (S = 0) = true by simpa using hS0), if_neg (show ¬ decide (S = 0) = true by simpa using hS0), if_neg (show ¬ decide (S = 0) = true by simpa using hS0)]
    rw [lowP hN hS, oppositeN hN hS]
    simp only [Option.bind_some]
    have hneg : (-S) % N = N - S := by rw [emod_neg (by omega) (by omega), if_pos (by omega)]; omega
    obtain ⟨ob, hsub⟩ := subP hN hS
    rw [hneg, orderN ⟨by omega, by omega⟩ hS', Option.bind_some, lt_d, hsub, odd_ref]
    simp only [Option.bind_some]
    refine .inr (.inr ?_)
    unfold sign_try.j1 basculeref_Signed.j2 basculeref_Signed.j3
    simp only []
    rw [orderN hX' b4]
    simp only [Option.bind_some]
    have hp2 : Y % 2 = 0 \/ Y % 2 = 1 := by omega
    obtain ⟨x1, x2⟩ := bx1 _ hp2
    by_cases hl : 2 * S <= N
    ·have hc : decide (N - S < S) = false := by rw [decide_eq_false_iff_not]; omega
     rw [show decide (2 * S <= N) = true by simpa using hl, hc]
     cases decide (sg X N >= 0)
     ·exact ⟨_, rfl, rfl⟩
     ·exact ⟨_, rfl, rfl⟩
    ·have hc : decide (N - S < S) = true := by rw [decide_eq_true_eq]; omega
     rw [show decide (2 * S <= N) = false by simpa using hl, hc]
     cases decide (sg X N >= 0)
     ·simp only [Bool.false_eq_true, if_false, Bool.not_false, if_true]
      rw [x1, wrap_i64 (x := 1 - Y % 2) (by omega) (by omega)]
      exact ⟨_, rfl, rfl⟩
     ·simp only [Bool.false_eq_true, if_false, Bool.not_false, if_true]
      rw [x2, wrap_i64 (x := 1 - Y % 2) (by omega) (by omega), wrap_i64 (x := 1 - Y % 2 + 2) (by omega) (by omega)]
      exact ⟨_, rfl, rfl⟩
end Go.Bx
namespace Go.Bx
open Go
set_option linter.unusedSimpArgs false
set_option linter.unusedVariables false
set_option maxRecDepth 100000
def rotL (x k : Int) : Int := bor .u64 (shlI .u64 x k) (shrI .u64 x (64 - k))
theorem kp1 {α : Type} (K n : Nat) (Xt : Int -> List Int -> Int -> List Int -> List Int -> List Int -> Option α) (rc : Int) (x16 : List Int) (x17 : Int) (c2 : List Int) (a0 a1 a2 a3 a4 a5 a6 a7 a8 a9 a10 a11 a12 a13 a14 a15 a16 a17 a18 a19 a20 a21 a22 a23 a24 : Int) :
  keccak_Turn.l1 K Xt (n + 26) rc x16 x17 [a0, a1, a2, a3, a4, a5, a6, a7, a8, a9, a10, a11, a12, a13, a14, a15, a16, a17, a18, a19, a20, a21, a22, a23, a24] 0 [a0, a1, a2, a3, a4, a5, a6, a7, a8, a9, a10, a11, a12, a13, a14, a15, a16, a17, a18, a19, a20, a21, a22, a23, a24] c2 [0, 0, 0, 0, 0] = Xt rc x16 x17 [a0, a1, a2, a3, a4, a5, a6, a7, a8, a9, a10, a11, a12, a13, a14, a15, a16, a17, a18, a19, a20, a21, a22, a23, a24] c2 [(bxor .u64 (bxor .u64 (bxor .u64 (bxor .u64 (bxor .u64 0 a0) a5) a10) a15) a20), (bxor .u64 (bxor .u64 (bxor .u64 (bxor .u64 (bxor .u64 0 a1) a6) a11) a16) a21), (bxor .u64 (bxor .u64 (bxor .u64 (bxor .u64 (bxor .u64 0 a2) a7) a12) a17) a22), (bxor .u64 (bxor .u64 (bxor .u64 (bxor .u64 (bxor .u64 0 a3) a8) a13) a18) a23), (bxor .u64 (bxor .u64 (bxor .u64 (bxor .u64 (bxor .u64 0 a4) a9) a14) a19) a24)] := by kernel_rfl
theorem kp2 {α : Type} (K n : Nat) (Xt : Int -> List Int -> Int -> List Int -> List Int -> List Int -> Option α) (rc : Int) (x16 : List Int) (x17 : Int) (c2 : List Int) (a0 a1 a2 a3 a4 a5 a6 a7 a8 a9 a10 a11 a12 a13 a14 a15 a16 a17 a18 a19 a20 a21 a22 a23 a24 z0 z1 z2 z3 z4 : Int) :
  keccak_Turn.l2 K Xt (n + 26) rc x16 x17 0 [a0, a1, a2, a3, a4, a5, a6, a7, a8, a9, a10, a11, a12, a13, a14, a15, a16, a17, a18, a19, a20, a21, a22, a23, a24] c2 [z0, z1, z2, z3, z4] (List.replicate 25 0) = Xt rc x16 x17 [a0, a1, a2, a3, a4, a5, a6, a7, a8, a9, a10, a11, a12, a13, a14, a15, a16, a17, a18, a19, a20, a21, a22, a23, a24] c2 [(rotL (bxor .u64 (bxor .u64 a0 z4) (rotL z1 1)) 0), (rotL (bxor .u64 (bxor .u64 a6 z0) (rotL z2 1)) 44), (rotL (bxor .u64 (bxor .u64 a12 z1) (rotL z3 1)) 43), (rotL (bxor .u64 (bxor .u64 a18 z2) (rotL z4 1)) 21), (rotL (bxor .u64 (bxor .u64 a24 z3) (rotL z0 1)) 14), (rotL (bxor .u64 (bxor .u64 a3 z2) (rotL z4 1)) 28), (rotL (bxor .u64 (bxor .u64 a9 z3) (rotL z0 1)) 20), (rotL (bxor .u64 (bxor .u64 a10 z4) (rotL z1 1)) 3), (rotL (bxor .u64 (bxor .u64 a16 z0) (rotL z2 1)) 45), (rotL (bxor .u64 (bxor .u64 a22 z1) (rotL z3 1)) 61), (rotL (bxor .u64 (bxor .u64 a1 z0) (rotL z2 1)) 1), (rotL (bxor .u64 (bxor .u64 a7 z1) (rotL z3 1)) 6), (rotL (bxor .u64 (bxor .u64 a13 z2) (rotL z4 1)) 25), (rotL (bxor .u64 (bxor .u64 a19 z3) (rotL z0 1)) 8), (rotL (bxor .u64 (bxor .u64 a20 z4) (rotL z1 1)) 18), (rotL (bxor .u64 (bxor .u64 a4 z3) (rotL z0 1)) 27), (rotL (bxor .u64 (bxor .u64 a5 z4) (rotL z1 1)) 36), (rotL (bxor .u64 (bxor .u64 a11 z0) (rotL z2 1)) 10), (rotL (bxor .u64 (bxor .u64 a17 z1) (rotL z3 1)) 15), (rotL (bxor .u64 (bxor .u64 a23 z2) (rotL z4 1)) 56), (rotL (bxor .u64 (bxor .u64 a2 z1) (rotL z3 1)) 62), (rotL (bxor .u64 (bxor .u64 a8 z2) (rotL z4 1)) 55), (rotL (bxor .u64 (bxor .u64 a14 z3) (rotL z0 1)) 39), (rotL (bxor .u64 (bxor .u64 a15 z4) (rotL z1 1)) 41), (rotL (bxor .u64 (bxor .u64 a21 z0) (rotL z2 1)) 2)] := by kernel_rfl
theorem kp3 {α : Type} (K n : Nat) (Xt : Int -> List Int -> Int -> List Int -> List Int -> Option α) (rc : Int) (x16 : List Int) (x17 : Int) (c2 : List Int) (a0 a1 a2 a3 a4 a5 a6 a7 a8 a9 a10 a11 a12 a13 a14 a15 a16 a17 a18 a19 a20 a21 a22 a23 a24 b0 b1 b2 b3 b4 b5 b6 b7 b8 b9 b10 b11 b12 b13 b14 b15 b16 b17 b18 b19 b20 b21 b22 b23 b24 : Int) :
  keccak_Turn.l3 K Xt (n + 26) rc x16 x17 0 [a0, a1, a2, a3, a4, a5, a6, a7, a8, a9, a10, a11, a12, a13, a14, a15, a16, a17, a18, a19, a20, a21, a22, a23, a24] c2 [b0, b1, b2, b3, b4, b5, b6, b7, b8, b9, b10, b11, b12, b13, b14, b15, b16, b17, b18, b19, b20, b21, b22, b23, b24] = Xt rc x16 x17 [(bxor .u64 b0 (band .u64 (bxor .u64 18446744073709551615 b1) b2)), (bxor .u64 b1 (band .u64 (bxor .u64 18446744073709551615 b2) b3)), (bxor .u64 b2 (band .u64 (bxor .u64 18446744073709551615 b3) b4)), (bxor .u64 b3 (band .u64 (bxor .u64 18446744073709551615 b4) b0)), (bxor .u64 b4 (band .u64 (bxor .u64 18446744073709551615 b0) b1)), (bxor .u64 b5 (band .u64 (bxor .u64 18446744073709551615 b6) b7)), (bxor .u64 b6 (band .u64 (bxor .u64 18446744073709551615 b7) b8)), (bxor .u64 b7 (band .u64 (bxor .u64 18446744073709551615 b8) b9)), (bxor .u64 b8 (band .u64 (bxor .u64 18446744073709551615 b9) b5)), (bxor .u64 b9 (band .u64 (bxor .u64 18446744073709551615 b5) b6)), (bxor .u64 b10 (band .u64 (bxor .u64 18446744073709551615 b11) b12)), (bxor .u64 b11 (band .u64 (bxor .u64 18446744073709551615 b12) b13)), (bxor .u64 b12 (band .u64 (bxor .u64 18446744073709551615 b13) b14)), (bxor .u64 b13 (band .u64 (bxor .u64 18446744073709551615 b14) b10)), (bxor .u64 b14 (band .u64 (bxor .u64 18446744073709551615 b10) b11)), (bxor .u64 b15 (band .u64 (bxor .u64 18446744073709551615 b16) b17)), (bxor .u64 b16 (band .u64 (bxor .u64 18446744073709551615 b17) b18)), (bxor .u64 b17 (band .u64 (bxor .u64 18446744073709551615 b18) b19)), (bxor .u64 b18 (band .u64 (bxor .u64 18446744073709551615 b19) b15)), (bxor .u64 b19 (band .u64 (bxor .u64 18446744073709551615 b15) b16)), (bxor .u64 b20 (band .u64 (bxor .u64 18446744073709551615 b21) b22)), (bxor .u64 b21 (band .u64 (bxor .u64 18446744073709551615 b22) b23)), (bxor .u64 b22 (band .u64 (bxor .u64 18446744073709551615 b23) b24)), (bxor .u64 b23 (band .u64 (bxor .u64 18446744073709551615 b24) b20)), (bxor .u64 b24 (band .u64 (bxor .u64 18446744073709551615 b20) b21))] c2 := by kernel_rfl
theorem kr1 {α : Type} (K n : Nat) (Xt : Int -> Int -> List Int -> List Int -> List Int -> Option α) (x3 x16 : Int) (c2 : List Int) (a0 a1 a2 a3 a4 a5 a6 a7 a8 a9 a10 a11 a12 a13 a14 a15 a16 a17 a18 a19 a20 a21 a22 a23 a24 : Int) :
  basculeref_Turned.l1 K Xt (n + 6) x3 x16 0 [a0, a1, a2, a3, a4, a5, a6, a7, a8, a9, a10, a11, a12, a13, a14, a15, a16, a17, a18, a19, a20, a21, a22, a23, a24] c2 [0, 0, 0, 0, 0] = Xt x3 x16 [a0, a1, a2, a3, a4, a5, a6, a7, a8, a9, a10, a11, a12, a13, a14, a15, a16, a17, a18, a19, a20, a21, a22, a23, a24] c2 [(bxor .u64 (bxor .u64 (bxor .u64 (bxor .u64 a0 a5) a10) a15) a20), (bxor .u64 (bxor .u64 (bxor .u64 (bxor .u64 a1 a6) a11) a16) a21), (bxor .u64 (bxor .u64 (bxor .u64 (bxor .u64 a2 a7) a12) a17) a22), (bxor .u64 (bxor .u64 (bxor .u64 (bxor .u64 a3 a8) a13) a18) a23), (bxor .u64 (bxor .u64 (bxor .u64 (bxor .u64 a4 a9) a14) a19) a24)] := by kernel_rfl
theorem kr2 {α : Type} (n : Nat) (Xt : Int -> Int -> List Int -> List Int -> Option α) (x3 x16 : Int) (c2 : List Int) (a0 a1 a2 a3 a4 a5 a6 a7 a8 a9 a10 a11 a12 a13 a14 a15 a16 a17 a18 a19 a20 a21 a22 a23 a24 z0 z1 z2 z3 z4 : Int) :
  basculeref_Turned.l2 (n + 6) Xt (n + 6) x3 x16 0 [a0, a1, a2, a3, a4, a5, a6, a7, a8, a9, a10, a11, a12, a13, a14, a15, a16, a17, a18, a19, a20, a21, a22, a23, a24] c2 [z0, z1, z2, z3, z4] = Xt x3 x16 [(bxor .u64 a0 (bxor .u64 z4 (rotL z1 1))), (bxor .u64 a1 (bxor .u64 z0 (rotL z2 1))), (bxor .u64 a2 (bxor .u64 z1 (rotL z3 1))), (bxor .u64 a3 (bxor .u64 z2 (rotL z4 1))), (bxor .u64 a4 (bxor .u64 z3 (rotL z0 1))), (bxor .u64 a5 (bxor .u64 z4 (rotL z1 1))), (bxor .u64 a6 (bxor .u64 z0 (rotL z2 1))), (bxor .u64 a7 (bxor .u64 z1 (rotL z3 1))), (bxor .u64 a8 (bxor .u64 z2 (rotL z4 1))), (bxor .u64 a9 (bxor .u64 z3 (rotL z0 1))), (bxor .u64 a10 (bxor .u64 z4 (rotL z1 1))), (bxor .u64 a11 (bxor .u64 z0 (rotL z2 1))), (bxor .u64 a12 (bxor .u64 z1 (rotL z3 1))), (bxor .u64 a13 (bxor .u64 z2 (rotL z4 1))), (bxor .u64 a14 (bxor .u64 z3 (rotL z0 1))), (bxor .u64 a15 (bxor .u64 z4 (rotL z1 1))), (bxor .u64 a16 (bxor .u64 z0 (rotL z2 1))), (bxor .u64 a17 (bxor .u64 z1 (rotL z3 1))), (bxor .u64 a18 (bxor .u64 z2 (rotL z4 1))), (bxor .u64 a19 (bxor .u64 z3 (rotL z0 1))), (bxor .u64 a20 (bxor .u64 z4 (rotL z1 1))), (bxor .u64 a21 (bxor .u64 z0 (rotL z2 1))), (bxor .u64 a22 (bxor .u64 z1 (rotL z3 1))), (bxor .u64 a23 (bxor .u64 z2 (rotL z4 1))), (bxor .u64 a24 (bxor .u64 z3 (rotL z0 1)))] c2 := by kernel_rfl
theorem kr4 {α : Type} (K n : Nat) (Xt : Int -> Int -> List Int -> List Int -> Option α) (x3 x16 : Int) (c2 : List Int) (a0 a1 a2 a3 a4 a5 a6 a7 a8 a9 a10 a11 a12 a13 a14 a15 a16 a17 a18 a19 a20 a21 a22 a23 a24 : Int) :
  basculeref_Turned.l4 K Xt (n + 25) x3 1 0 a1 x16 0 [a0, a1, a2, a3, a4, a5, a6, a7, a8, a9, a10, a11, a12, a13, a14, a15, a16, a17, a18, a19, a20, a21, a22, a23, a24] c2 = Xt x3 x16 [a0, (rotL a6 44), (rotL a12 43), (rotL a18 21), (rotL a24 14), (rotL a3 28), (rotL a9 20), (rotL a10 3), (rotL a16 45), (rotL a22 61), (rotL a1 1), (rotL a7 6), (rotL a13 25), (rotL a19 8), (rotL a20 18), (rotL a4 27), (rotL a5 36), (rotL a11 10), (rotL a17 15), (rotL a23 56), (rotL a2 62), (rotL a8 55), (rotL a14 39), (rotL a15 41), (rotL a21 2)] c2 := by kernel_rfl
theorem kr5 {α : Type} (n : Nat) (Xt : Int -> Int -> List Int -> List Int -> Option α) (x3 x16 : Int) (c2 : List Int) (b0 b1 b2 b3 b4 b5 b6 b7 b8 b9 b10 b11 b12 b13 b14 b15 b16 b17 b18 b19 b20 b21 b22 b23 b24 : Int) :
  basculeref_Turned.l5 (n + 6) Xt (n + 6) x3 0 x16 [b0, b1, b2, b3, b4, b5, b6, b7, b8, b9, b10, b11, b12, b13, b14, b15, b16, b17, b18, b19, b20, b21, b22, b23, b24] c2 = Xt x3 x16 [(bxor .u64 b0 (band .u64 (bxor .u64 18446744073709551615 b1) b2)), (bxor .u64 b1 (band .u64 (bxor .u64 18446744073709551615 b2) b3)), (bxor .u64 b2 (band .u64 (bxor .u64 18446744073709551615 b3) b4)), (bxor .u64 b3 (band .u64 (bxor .u64 18446744073709551615 b4) b0)), (bxor .u64 b4 (band .u64 (bxor .u64 18446744073709551615 b0) b1)), (bxor .u64 b5 (band .u64 (bxor .u64 18446744073709551615 b6) b7)), (bxor .u64 b6 (band .u64 (bxor .u64 18446744073709551615 b7) b8)), (bxor .u64 b7 (band .u64 (bxor .u64 18446744073709551615 b8) b9)), (bxor .u64 b8 (band .u64 (bxor .u64 18446744073709551615 b9) b5)), (bxor .u64 b9 (band .u64 (bxor .u64 18446744073709551615 b5) b6)), (bxor .u64 b10 (band .u64 (bxor .u64 18446744073709551615 b11) b12)), (bxor .u64 b11 (band .u64 (bxor .u64 18446744073709551615 b12) b13)), (bxor .u64 b12 (band .u64 (bxor .u64 18446744073709551615 b13) b14)), (bxor .u64 b13 (band .u64 (bxor .u64 18446744073709551615 b14) b10)), (bxor .u64 b14 (band .u64 (bxor .u64 18446744073709551615 b10) b11)), (bxor .u64 b15 (band .u64 (bxor .u64 18446744073709551615 b16) b17)), (bxor .u64 b16 (band .u64 (bxor .u64 18446744073709551615 b17) b18)), (bxor .u64 b17 (band .u64 (bxor .u64 18446744073709551615 b18) b19)), (bxor .u64 b18 (band .u64 (bxor .u64 18446744073709551615 b19) b15)), (bxor .u64 b19 (band .u64 (bxor .u64 18446744073709551615 b15) b16)), (bxor .u64 b20 (band .u64 (bxor .u64 18446744073709551615 b21) b22)), (bxor .u64 b21 (band .u64 (bxor .u64 18446744073709551615 b22) b23)), (bxor .u64 b22 (band .u64 (bxor .u64 18446744073709551615 b23) b24)), (bxor .u64 b23 (band .u64 (bxor .u64 18446744073709551615 b24) b20)), (bxor .u64 b24 (band .u64 (bxor .u64 18446744073709551615 b20) b21))] c2 := by kernel_rfl
theorem bxor_nat64 (x y : Int) : bxor .u64 x y = (((BitVec.ofInt 64 x ^^^ BitVec.ofInt 64 y).toNat : Nat) : Int) := by
 unfold bxor
 show IntKind.u64.wrap (((BitVec.ofInt 64 x ^^^ BitVec.ofInt 64 y).toNat : Nat) : Int) = _
 have := (BitVec.ofInt 64 x ^^^ BitVec.ofInt 64 y).isLt
 exact wrap_u64 (by omega) (by omega)
theorem ofInt_toNat (v : BitVec 64) : BitVec.ofInt 64 ((v.toNat : Nat) : Int) = v := by
 rw [BitVec.ofInt_natCast, BitVec.ofNat_toNat]
 simp
theorem bxor_assoc (x y z : Int) : bxor .u64 (bxor .u64 x y) z = bxor .u64 x (bxor .u64 y z) := by
 simp only [bxor_nat64, ofInt_toNat, BitVec.xor_assoc]
theorem bxor_z2 (x y : Int) : bxor .u64 (bxor .u64 0 x) y = bxor .u64 x y := by
 rw [bxor_assoc]
 simp only [bxor_nat64, ofInt_toNat]
 rw [show BitVec.ofInt 64 0 = 0#64 from rfl, BitVec.zero_xor]
theorem rot0 (x y : Int) : rotL (bxor .u64 x y) 0 = bxor .u64 x y := by
 rw [bxor_nat64]
 generalize BitVec.ofInt 64 x ^^^ BitVec.ofInt 64 y = v
 have hv := v.isLt
 unfold rotL
 have h1 : shlI .u64 ((v.toNat : Nat) : Int) 0 = ((v.toNat : Nat) : Int) := by
  unfold shlI
  rw [show (2 : Int) ^ (min (0 : Int).toNat IntKind.u64.bits) = 1 from rfl, Int.mul_one]
  exact wrap_u64 (by omega) (by omega)
 have h2 : shrI .u64 ((v.toNat : Nat) : Int) (64 - 0) = 0 := by
  unfold shrI
  rw [show (2 : Int) ^ (min ((64 : Int) - 0).toNat IntKind.u64.bits) = 18446744073709551616 from rfl, Int.fdiv_eq_ediv_of_nonneg _ (by decide)]
  exact Int.ediv_eq_zero_of_lt (by omega) (by omega)
 rw [h1, h2]
 have := bor_nat (X := v.toNat) (Y := 0) (by omega) (by decide)
 rw [show ((0 : Nat) : Int) = 0 from rfl, Nat.or_zero] at this
 exact this
theorem same_b (a0 a1 a2 a3 a4 a5 a6 a7 a8 a9 a10 a11 a12 a13 a14 a15 a16 a17 a18 a19 a20 a21 a22 a23 a24 z0 z1 z2 z3 z4 : Int) : [(rotL (bxor .u64 (bxor .u64 a0 z4) (rotL z1 1)) 0), (rotL (bxor .u64 (bxor .u64 a6 z0) (rotL z2 1)) 44), (rotL (bxor .u64 (bxor .u64 a12 z1) (rotL z3 1)) 43), (rotL (bxor .u64 (bxor .u64 a18 z2) (rotL z4 1)) 21), (rotL (bxor .u64 (bxor .u64 a24 z3) (rotL z0 1)) 14), (rotL (bxor .u64 (bxor .u64 a3 z2) (rotL z4 1)) 28), (rotL (bxor .u64 (bxor .u64 a9 z3) (rotL z0 1)) 20), (rotL (bxor .u64 (bxor .u64 a10 z4) (rotL z1 1)) 3), (rotL (bxor .u64 (bxor .u64 a16 z0) (rotL z2 1)) 45), (rotL (bxor .u64 (bxor .u64 a22 z1) (rotL z3 1)) 61), (rotL (bxor .u64 (bxor .u64 a1 z0) (rotL z2 1)) 1), (rotL (bxor .u64 (bxor .u64 a7 z1) (rotL z3 1)) 6), (rotL (bxor .u64 (bxor .u64 a13 z2) (rotL z4 1)) 25), (rotL (bxor .u64 (bxor .u64 a19 z3) (rotL z0 1)) 8), (rotL (bxor .u64 (bxor .u64 a20 z4) (rotL z1 1)) 18), (rotL (bxor .u64 (bxor .u64 a4 z3) (rotL z0 1)) 27), (rotL (bxor .u64 (bxor .u64 a5 z4) (rotL z1 1)) 36), (rotL (bxor .u64 (bxor .u64 a11 z0) (rotL z2 1)) 10), (rotL (bxor .u64 (bxor .u64 a17 z1) (rotL z3 1)) 15), (rotL (bxor .u64 (bxor .u64 a23 z2) (rotL z4 1)) 56), (rotL (bxor .u64 (bxor .u64 a2 z1) (rotL z3 1)) 62), (rotL (bxor .u64 (bxor .u64 a8 z2) (rotL z4 1)) 55), (rotL (bxor .u64 (bxor .u64 a14 z3) (rotL z0 1)) 39), (rotL (bxor .u64 (bxor .u64 a15 z4) (rotL z1 1)) 41), (rotL (bxor .u64 (bxor .u64 a21 z0) (rotL z2 1)) 2)] = [(bxor .u64 a0 (bxor .u64 z4 (rotL z1 1))), (rotL (bxor .u64 a6 (bxor .u64 z0 (rotL z2 1))) 44), (rotL (bxor .u64 a12 (bxor .u64 z1 (rotL z3 1))) 43), (rotL (bxor .u64 a18 (bxor .u64 z2 (rotL z4 1))) 21), (rotL (bxor .u64 a24 (bxor .u64 z3 (rotL z0 1))) 14), (rotL (bxor .u64 a3 (bxor .u64 z2 (rotL z4 1))) 28), (rotL (bxor .u64 a9 (bxor .u64 z3 (rotL z0 1))) 20), (rotL (bxor .u64 a10 (bxor .u64 z4 (rotL z1 1))) 3), (rotL (bxor .u64 a16 (bxor .u64 z0 (rotL z2 1))) 45), (rotL (bxor .u64 a22 (bxor .u64 z1 (rotL z3 1))) 61), (rotL (bxor .u64 a1 (bxor .u64 z0 (rotL z2 1))) 1), (rotL (bxor .u64 a7 (bxor .u64 z1 (rotL z3 1))) 6), (rotL (bxor .u64 a13 (bxor .u64 z2 (rotL z4 1))) 25), (rotL (bxor .u64 a19 (bxor .u64 z3 (rotL z0 1))) 8), (rotL (bxor .u64 a20 (bxor .u64 z4 (rotL z1 1))) 18), (rotL (bxor .u64 a4 (bxor .u64 z3 (rotL z0 1))) 27), (rotL (bxor .u64 a5 (bxor .u64 z4 (rotL z1 1))) 36), (rotL (bxor .u64 a11 (bxor .u64 z0 (rotL z2 1))) 10), (rotL (bxor .u64 a17 (bxor .u64 z1 (rotL z3 1))) 15), (rotL (bxor .u64 a23 (bxor .u64 z2 (rotL z4 1))) 56), (rotL (bxor .u64 a2 (bxor .u64 z1 (rotL z3 1))) 62), (rotL (bxor .u64 a8 (bxor .u64 z2 (rotL z4 1))) 55), (rotL (bxor .u64 a14 (bxor .u64 z3 (rotL z0 1))) 39), (rotL (bxor .u64 a15 (bxor .u64 z4 (rotL z1 1))) 41), (rotL (bxor .u64 a21 (bxor .u64 z0 (rotL z2 1))) 2)] := by
 simp only [bxor_assoc, rot0]
theorem ro0 : basculeref_roundOf.run 0 = some (gRounds.getD 0 0) := by kernel_rfl
theorem ro1 : basculeref_roundOf.run 1 = some (gRounds.getD 1 0) := by kernel_rfl
theorem ro2 : basculeref_roundOf.run 2 = some (gRounds.getD 2 0) := by kernel_rfl
theorem ro3 : basculeref_roundOf.run 3 = some (gRounds.getD 3 0) := by kernel_rfl
theorem ro4 : basculeref_roundOf.run 4 = some (gRounds.getD 4 0) := by kernel_rfl
theorem ro5 : basculeref_roundOf.run 5 = some (gRounds.getD 5 0) := by kernel_rfl
theorem ro6 : basculeref_roundOf.run 6 = some (gRounds.getD 6 0) := by kernel_rfl
theorem ro7 : basculeref_roundOf.run 7 = some (gRounds.getD 7 0) := by kernel_rfl
theorem ro8 : basculeref_roundOf.run 8 = some (gRounds.getD 8 0) := by kernel_rfl
theorem ro9 : basculeref_roundOf.run 9 = some (gRounds.getD 9 0) := by kernel_rfl
theorem ro10 : basculeref_roundOf.run 10 = some (gRounds.getD 10 0) := by kernel_rfl
theorem ro11 : basculeref_roundOf.run 11 = some (gRounds.getD 11 0) := by kernel_rfl
theorem ro12 : basculeref_roundOf.run 12 = some (gRounds.getD 12 0) := by kernel_rfl
theorem ro13 : basculeref_roundOf.run 13 = some (gRounds.getD 13 0) := by kernel_rfl
theorem ro14 : basculeref_roundOf.run 14 = some (gRounds.getD 14 0) := by kernel_rfl
theorem ro15 : basculeref_roundOf.run 15 = some (gRounds.getD 15 0) := by kernel_rfl
theorem ro16 : basculeref_roundOf.run 16 = some (gRounds.getD 16 0) := by kernel_rfl
theorem ro17 : basculeref_roundOf.run 17 = some (gRounds.getD 17 0) := by kernel_rfl
theorem ro18 : basculeref_roundOf.run 18 = some (gRounds.getD 18 0) := by kernel_rfl
theorem ro19 : basculeref_roundOf.run 19 = some (gRounds.getD 19 0) := by kernel_rfl
theorem ro20 : basculeref_roundOf.run 20 = some (gRounds.getD 20 0) := by kernel_rfl
theorem ro21 : basculeref_roundOf.run 21 = some (gRounds.getD 21 0) := by kernel_rfl
theorem ro22 : basculeref_roundOf.run 22 = some (gRounds.getD 22 0) := by kernel_rfl
theorem ro23 : basculeref_roundOf.run 23 = some (gRounds.getD 23 0) := by kernel_rfl
theorem round_of : ∀ k : Nat, k < 24 -> basculeref_roundOf.run (k : Int) = some (gRounds.getD k 0)
 | 0, _ => ro0
 | 1, _ => ro1
 | 2, _ => ro2
 | 3, _ => ro3
 | 4, _ => ro4
 | 5, _ => ro5
 | 6, _ => ro6
 | 7, _ => ro7
 | 8, _ => ro8
 | 9, _ => ro9
 | 10, _ => ro10
 | 11, _ => ro11
 | 12, _ => ro12
 | 13, _ => ro13
 | 14, _ => ro14
 | 15, _ => ro15
 | 16, _ => ro16
 | 17, _ => ro17
 | 18, _ => ro18
 | 19, _ => ro19
 | 20, _ => ro20
 | 21, _ => ro21
 | 22, _ => ro22
 | 23, _ => ro23
 | n + 24, h => by omega
theorem list25 {l : List Int} (h : l.length = 25) : ∃ a0 a1 a2 a3 a4 a5 a6 a7 a8 a9 a10 a11 a12 a13 a14 a15 a16 a17 a18 a19 a20 a21 a22 a23 a24, l = [a0, a1, a2, a3, a4, a5, a6, a7, a8, a9, a10, a11, a12, a13, a14, a15, a16, a17, a18, a19, a20, a21, a22, a23, a24] := by
 match l, h with
 | [a0, a1, a2, a3, a4, a5, a6, a7, a8, a9, a10, a11, a12, a13, a14, a15, a16, a17, a18, a19, a20, a21, a22, a23, a24], _ => exact ⟨a0, a1, a2, a3, a4, a5, a6, a7, a8, a9, a10, a11, a12, a13, a14, a15, a16, a17, a18, a19, a20, a21, a22, a23, a24, rfl⟩
theorem round_both {α β : Type} (Xt : List Int -> List Int -> Option α) (Yt : List Int -> List Int -> Option β) (K N n : Nat) (k : Nat) (hk : k < 24) (c2 d2 : List Int) {l : List Int} (hl : l.length = 25) :
  ∃ r : List Int, r.length = 25 /\ keccak_Turn.l0 (K + 26) Xt (n + 1) gRounds (k : Int) l c2 = keccak_Turn.l0 (K + 26) Xt n gRounds ((k + 1 : Nat) : Int) r c2 /\
   basculeref_Turned.l0 (N + 26) Yt (n + 1) (k : Int) l d2 = basculeref_Turned.l0 (N + 26) Yt n ((k + 1 : Nat) : Int) r d2 := by
 obtain ⟨a0, a1, a2, a3, a4, a5, a6, a7, a8, a9, a10, a11, a12, a13, a14, a15, a16, a17, a18, a19, a20, a21, a22, a23, a24, rfl⟩ := list25 hl
 simp only [keccak_Turn.l0, keccak_Turn.l0s, basculeref_Turned.l0, basculeref_Turned.l0s]
 rw [if_pos (show decide ((k : Int) < 24) = true by rw [decide_eq_true_eq]; omega), if_pos (show decide ((k : Int) < 24) = true by rw [decide_eq_true_eq]; omega), if_pos (show 0 <= (k : Int) /\ (k : Int) < 24 by omega), kp1]
 unfold keccak_Turn.j0
 rw [kp2, same_b]
 unfold keccak_Turn.j1
 rw [kp3]
 unfold keccak_Turn.j2 keccak_Turn.j3
 have e1 : N + 26 = (N + 20) + 6 := by omega
 rw [e1, kr1]
 unfold basculeref_Turned.j0
 rw [kr2]
 unfold basculeref_Turned.j2
 have e2 : N + 20 + 6 = (N + 1) + 25 := by omega
 simp only [List.getD_cons_succ, List.getD_cons_zero]
 rw [e2, kr4]
 unfold basculeref_Turned.j3
 have e3 : (N + 1) + 25 = (N + 20) + 6 := by omega
 rw [e3, kr5]
 unfold basculeref_Turned.j5 basculeref_Turned.j6
 rw [round_of k hk, Option.bind_some, wrap_i64 (x := (k : Int) + 1) (by omega) (by omega)]
 simp only [bxor_z2]
 exact ⟨_, rfl, rfl, rfl⟩
theorem rounds_both {α β : Type} (Xt : List Int -> List Int -> Option α) (Yt : List Int -> List Int -> Option β) (K N : Nat) (c2 d2 : List Int) : ∀ (m n k : Nat) (l : List Int), m < n -> k + m = 24 -> l.length = 25 ->
  ∃ r : List Int, r.length = 25 /\ keccak_Turn.l0 (K + 26) Xt n gRounds (k : Int) l c2 = Xt r c2 /\ basculeref_Turned.l0 (N + 26) Yt n (k : Int) l d2 = Yt r d2
 | m, 0, k, l, h, _, _ => by omega
 | 0, n + 1, k, l, h, hk, hl => by
  have : k = 24 := by omega
  subst this
  exact ⟨l, hl, rfl, rfl⟩
 | m + 1, n + 1, k, l, h, hk, hl => by
  obtain ⟨r, h1, h2, h3⟩ := round_both Xt Yt K N n k (by omega) c2 d2 hl
  rw [h2, h3]
  exact rounds_both Xt Yt K N c2 d2 m n (k + 1) r (by omega) (by omega) h1
theorem turn_both {l : List Int} (hl : l.length = 25) : ∃ r : List Int, r.length = 25 /\ keccak_Turn.run l = some r /\ basculeref_Turned.run l = some r := by
 obtain ⟨K, hK⟩ : ∃ K, fuel = K + 26 := ⟨18446744073709551590, rfl⟩
 obtain ⟨r, h1, h2, h3⟩ := rounds_both (fun c1 c2 => keccak_Turn.j4 (fun c2 => some c2) c1 c2) (fun c1 c2 => basculeref_Turned.j7 (fun c2 => some c2) c1 c2) K K (List.replicate 25 0) (List.replicate 25 0) 24 fuel 0 l (by rw [hK]; omega) (by omega) hl
 unfold keccak_Turn.run keccak_Turn.top basculeref_Turned.run basculeref_Turned.top
 rw [<- hK] at h2 h3
 exact ⟨r, h1, h2, h3⟩
end Go.Bx
namespace Go.Bx
open Go
set_option linter.unusedSimpArgs false
set_option linter.unusedVariables false
theorem xor_step {b V k : Nat} (hb : b < 256) : (2 ^ k * b) ^^^ (2 ^ (k + 8) * V) = 2 ^ k * (256 * V + b) := by
 have h8 : (256 : Nat) = 2 ^ 8 := by decide
 apply Nat.eq_of_testBit_eq
 intro j
 rw [Nat.testBit_xor, Nat.testBit_two_pow_mul, Nat.testBit_two_pow_mul, Nat.testBit_two_pow_mul, h8, Nat.testBit_two_pow_mul_add V (by rw [<- h8]; exact hb)]
 by_cases h1 : k <= j
 ·by_cases h2 : k + 8 <= j
  ·have : ¬ (j - k < 8) := by omega
   have hz : b.testBit (j - k) = false := Nat.testBit_lt_two_pow (Nat.lt_of_lt_of_le hb (by rw [h8]; exact Nat.pow_le_pow_right (by omega) (by omega)))
   simp [h1, h2, this, hz]
   congr 1
  ·have : j - k < 8 := by omega
   simp [h1, h2, this]
 ·have h2 : ¬ (k + 8 <= j) := by omega
  simp [h1, h2]
theorem shl_byte {b j : Nat} (hb : b < 256) (hj : j <= 7) : shlI .u64 (b : Int) ((8 * j : Nat) : Int) = ((2 ^ (8 * j) * b : Nat) : Int) := by
 unfold shlI
 have e : min ((8 * j : Nat) : Int).toNat IntKind.u64.bits = 8 * j := by
  rw [Int.toNat_natCast]; simp [IntKind.bits]; omega
 rw [e]
 have : 2 ^ (8 * j) * b < 18446744073709551616 := by
  have h1 : 2 ^ (8 * j) <= 2 ^ 56 := Nat.pow_le_pow_right (by omega) (by omega)
  calc 2 ^ (8 * j) * b <= 2 ^ 56 * 255 := Nat.mul_le_mul h1 (by omega)
   _ < 18446744073709551616 := by decide
 rw [show (b : Int) * 2 ^ (8 * j) = ((2 ^ (8 * j) * b : Nat) : Int) by rw [Nat.mul_comm (2 ^ (8 * j)) b]; simp, u64_wrap_nat this]
def leW : List Nat -> Nat
 | [] => 0
 | b :: l => 256 * leW l + b
theorem leW_lt : ∀ (l : List Nat), (∀ b ∈ l, b < 256) -> leW l < 256 ^ l.length
 | [], _ => by simp [leW]
 | b :: l, h => by
  have := leW_lt l fun c hc => h c (List.mem_cons_of_mem _ hc)
  have hb := h b (by simp)
  simp only [leW, List.length_cons, Nat.pow_succ]; omega
def xorI (x : Int) : List Nat -> Nat -> Int
 | [], _ => x
 | b :: l, j => xorI (bxor .u64 x (shlI .u64 (b : Int) ((8 * j : Nat) : Int))) l (j + 1)
theorem xorI_nat (assoc : ∀ x y z : Int, bxor .u64 (bxor .u64 x y) z = bxor .u64 x (bxor .u64 y z)) : ∀ (b : Nat) (l : List Nat) (j : Nat) (x : Int), (∀ c ∈ b :: l, c < 256) -> j + (b :: l).length <= 8 ->
  xorI x (b :: l) j = bxor .u64 x ((2 ^ (8 * j) * leW (b :: l) : Nat) : Int)
 | b, [], j, x, h, hl => by
  simp only [xorI, leW, List.length_cons, List.length_nil] at hl ⊢
  rw [shl_byte (h b (by simp)) (by omega)]; simp
 | b, c :: l, j, x, h, hl => by
  have ih := xorI_nat assoc c l (j + 1) (bxor .u64 x (shlI .u64 (b : Int) ((8 * j : Nat) : Int))) (fun d hd => h d (List.mem_cons_of_mem _ hd)) (by simp at hl ⊢; omega)
  rw [show xorI x (b :: c :: l) j = xorI (bxor .u64 x (shlI .u64 (b : Int) ((8 * j : Nat) : Int))) (c :: l) (j + 1) from rfl, ih, assoc]
  have hb := h b (by simp)
  have hc : ∀ d ∈ c :: l, d < 256 := fun d hd => h d (List.mem_cons_of_mem _ hd)
  simp only [List.length_cons] at hl
  have hW := leW_lt (c :: l) hc
  have p1 : 2 ^ (8 * j) * b < 18446744073709551616 := by
   have h1 : 2 ^ (8 * j) <= 2 ^ 56 := Nat.pow_le_pow_right (by omega) (by omega)
   calc 2 ^ (8 * j) * b <= 2 ^ 56 * 255 := Nat.mul_le_mul h1 (by omega)
    _ < 18446744073709551616 := by decide
  have p2 : 2 ^ (8 * (j + 1)) * leW (c :: l) < 18446744073709551616 := by
   have e : (256 : Nat) ^ (c :: l).length = 2 ^ (8 * (c :: l).length) := by rw [show (256 : Nat) = 2 ^ 8 from rfl, <- Nat.pow_mul]
   rw [e] at hW
   calc 2 ^ (8 * (j + 1)) * leW (c :: l) < 2 ^ (8 * (j + 1)) * 2 ^ (8 * (c :: l).length) := Nat.mul_lt_mul_of_pos_left hW (Nat.two_pow_pos _)
    _ = 2 ^ (8 * (j + 1) + 8 * (c :: l).length) := by rw [Nat.pow_add]
    _ <= 2 ^ 64 := Nat.pow_le_pow_right (by omega) (by simp only [List.length_cons]; omega)
    _ = 18446744073709551616 := by decide
  rw [shl_byte hb (by omega), bxor_nat p1 p2, show 8 * (j + 1) = 8 * j + 8 by omega, xor_step hb]
  rfl
end Go.Bx
namespace Go.Bx
open Go
set_option linter.unusedSimpArgs false
set_option linter.unusedVariables false
def Oct (l : List Int) : Prop := ∀ b ∈ l, 0 <= b /\ b < 256
theorem Oct.getD {l : List Int} (h : Oct l) (i : Nat) : 0 <= l.getD i 0 /\ l.getD i 0 < 256 := by
 by_cases hi : i < l.length
 ·rw [List.getD_eq_getElem?_getD, List.getElem?_eq_getElem hi]; exact h _ (List.getElem_mem hi)
 ·rw [List.getD_eq_getElem?_getD, List.getElem?_eq_none (by omega)]; simp
def oct8 (b : List Int) (k : Nat) : List Nat := ((b.drop (8 * k)).take 8).map Int.toNat
def lUp (b : List Int) (a : List Int) (k : Nat) : List Int := a.set k (bxor .u64 (a.getD k 0) ((leW (oct8 b k) : Nat) : Int))
def soakN (b : List Int) : Nat -> Nat -> List Int -> List Int
 | 0, _, a => a
 | m + 1, k, a => soakN b m (k + 1) (lUp b a k)
theorem lUp_len (b a : List Int) (k : Nat) : (lUp b a k).length = a.length := by simp [lUp]
theorem soakN_len (b : List Int) : ∀ m k a, (soakN b m k a).length = a.length
 | 0, _, a => rfl
 | m + 1, k, a => (soakN_len b m (k + 1) _).trans (lUp_len _ _ _)
theorem oct8_rng {b : List Int} (h : Oct b) (k : Nat) : ∀ c ∈ oct8 b k, c < 256 := by
 intro c hc
 simp only [oct8, List.mem_map] at hc
 obtain ⟨x, hx, rfl⟩ := hc
 have := h x (List.mem_of_mem_drop (List.mem_of_mem_take hx))
 omega
theorem oct8_len {b : List Int} (hb : b.length = 136) {k : Nat} (hk : k < 17) : (oct8 b k).length = 8 := by
 simp [oct8, hb]; omega
theorem drop_at {α : Type} {l : List α} {i : Nat} (h : i < l.length) (d : α) : l.drop i = l.getD i d :: l.drop (i + 1) := by
 rw [List.drop_eq_getElem_cons h, List.getD_eq_getElem?_getD, List.getElem?_eq_getElem h]; rfl
theorem soak_in {α : Type} (Xt : (List Int × List Int × Int × Unit) -> (List Int × List Int × Int × Unit) -> Option α) (K : Nat) (b : List Int) (hb : b.length = 136) (ho : Oct b) (r : List Int × Int × Unit) (c2 : List Int × List Int × Int × Unit) (k : Nat) (hk : k < 17) : ∀ (m j n : Nat) (a : List Int), m + j = 8 -> a.length = 25 ->
  keccak_soak.l0 K Xt (n + m) b ((8 * k + j : Nat) : Int) (a, r) c2 = keccak_soak.l0 K Xt n b ((8 * k + 8 : Nat) : Int) (a.set k (xorI (a.getD k 0) (((b.drop (8 * k + j)).take m).map Int.toNat) j), r) c2
 | 0, j, n, a, hj, ha => by
  obtain rfl : j = 8 := by omega
  simp only [List.take_zero, List.map_nil, xorI]
  have : a.set k (a.getD k 0) = a := by
   rw [List.getD_eq_getElem?_getD, List.getElem?_eq_getElem (by omega)]; simp
  rw [this]; rfl
 | m + 1, j, n, a, hj, ha => by
  have hg := ho.getD (8 * k + j)
  rw [show n + (m + 1) = (n + m) + 1 by omega]
  simp only [keccak_soak.l0, keccak_soak.l0s]
  have e1 : IntKind.i64.wrap (Int.tdiv ((8 * k + j : Nat) : Int) 8) = (k : Int) := by
   have := i64_tdiv (x := 8 * k + j) (c := 8) (by omega)
   rw [show (8 * k + j) / 8 = k by omega] at this; exact this
  have e2 : Int.tmod ((8 * k + j : Nat) : Int) 8 = (j : Int) := by
   have := tmod_nat (8 * k + j) 8
   rw [show (8 * k + j) % 8 = j by omega] at this; exact this
  have e3 : IntKind.i64.wrap (8 * (j : Int)) = ((8 * j : Nat) : Int) := by
   rw [wrap_i64 (by omega) (by omega)]; omega
  rw [if_pos (by rw [decide_eq_true_eq]; omega), if_pos (by omega), e1, e2, e3, if_pos (by omega), if_pos (by omega), if_pos (by omega), i64_succ (by omega), toNat_nat, toNat_nat]
  rw [wrap_u64 (x := b.getD (8 * k + j) 0) (by omega) (by omega)]
  refine (soak_in Xt K b hb ho r c2 k hk m (j + 1) n _ (by omega) (by simp [ha])).trans ?_
  congr 1
  rw [List.set_set, drop_at (l := b) (i := 8 * k + j) (by omega) 0, List.take_succ_cons, List.map_cons]
  have e4 : (a.set k (bxor .u64 (a.getD k 0) (shlI .u64 (b.getD (8 * k + j) 0) ((8 * j : Nat) : Int)))).getD k 0 = bxor .u64 (a.getD k 0) (shlI .u64 (b.getD (8 * k + j) 0) ((8 * j : Nat) : Int)) := by
   rw [List.getD_eq_getElem?_getD, List.getElem?_set_self (by omega)]; rfl
  rw [e4]
  have e5 : ((Int.toNat (b.getD (8 * k + j) 0) : Nat) : Int) = b.getD (8 * k + j) 0 := by omega
  simp only [xorI]
  rw [e5]
  rfl
theorem soak_loop {α : Type} (Xt : (List Int × List Int × Int × Unit) -> (List Int × List Int × Int × Unit) -> Option α) (K : Nat) (b : List Int) (hb : b.length = 136) (ho : Oct b) (r : List Int × Int × Unit) (c2 : List Int × List Int × Int × Unit) : ∀ (m k n : Nat) (a : List Int), m + k = 17 -> a.length = 25 ->
  keccak_soak.l0 K Xt (n + 1 + 8 * m) b ((8 * k : Nat) : Int) (a, r) c2 = Xt (soakN b m k a, r) c2
 | 0, k, n, a, hk, ha => by
  obtain rfl : k = 17 := by omega
  simp only [Nat.mul_zero, Nat.add_zero, keccak_soak.l0, keccak_soak.l0s]
  rw [if_neg (by decide)]; rfl
 | m + 1, k, n, a, hk, ha => by
  rw [show n + 1 + 8 * (m + 1) = (n + 1 + 8 * m) + 8 by omega]
  have h := soak_in Xt K b hb ho r c2 k (by omega) 8 0 (n + 1 + 8 * m) a rfl ha
  simp only [Nat.add_zero] at h
  rw [h]
  have h8 := oct8_len hb (k := k) (by omega)
  have hx : xorI (a.getD k 0) (((b.drop (8 * k)).take 8).map Int.toNat) 0 = bxor .u64 (a.getD k 0) ((leW (oct8 b k) : Nat) : Int) := by
   show xorI (a.getD k 0) (oct8 b k) 0 = _
   cases hc : oct8 b k with
   | nil => rw [hc] at h8; simp at h8
   | cons c l =>
    rw [xorI_nat bxor_assoc c l 0 _ (by rw [<- hc]; exact oct8_rng ho k) (by rw [<- hc]; omega)]
    simp
  rw [hx]
  exact soak_loop Xt K b hb ho r c2 m (k + 1) n (lUp b a k) (by omega) (by rw [lUp_len]; exact ha)
theorem word_in {α : Type} (Xt : List Int -> Int -> Int -> List Int -> List Int -> Option α) (K : Nat) (b : List Int) (hb : b.length = 136) (ho : Oct b) (c2 c4 : List Int) (k : Nat) (hk : k < 17) : ∀ (m n : Nat), m < n -> m <= 8 ->
  basculeref_soaked.l1 K Xt n b ((8 * k : Nat) : Int) ((leW ((oct8 b k).drop m) : Nat) : Int) ((m : Int) - 1) c2 c4 = Xt b ((8 * k : Nat) : Int) ((leW (oct8 b k) : Nat) : Int) c2 c4
 | m, 0, h, _ => by omega
 | 0, n + 1, h, hm => by
  simp only [basculeref_soaked.l1, basculeref_soaked.l1s]
  rw [if_neg (by rw [decide_eq_true_eq]; omega)]; rfl
 | m + 1, n + 1, h, hm => by
  have h8 := oct8_len hb hk
  have hg := ho.getD (8 * k + m)
  simp only [basculeref_soaked.l1, basculeref_soaked.l1s]
  have e0 : ((m + 1 : Nat) : Int) - 1 = (m : Int) := by omega
  have e1 : IntKind.i64.wrap (((8 * k : Nat) : Int) + (m : Int)) = ((8 * k + m : Nat) : Int) := by
   rw [wrap_i64 (by omega) (by omega)]; omega
  rw [e0, if_pos (by rw [decide_eq_true_eq]; omega), e1, if_pos (by omega), wrap_i64 (x := (m : Int) - 1) (by omega) (by omega), toNat_nat]
  have hl := leW_lt ((oct8 b k).drop (m + 1)) (fun c hc => oct8_rng ho k c (List.mem_of_mem_drop hc))
  rw [List.length_drop, h8] at hl
  have hp : (256 : Nat) ^ (8 - (m + 1)) <= 256 ^ 7 := Nat.pow_le_pow_right (by omega) (by omega)
  have hp7 : (256 : Nat) ^ 7 = 72057594037927936 := by decide
  generalize hW : leW ((oct8 b k).drop (m + 1)) = W at *
  rw [wrap_u64 (x := (W : Int) * 256) (by omega) (by omega), wrap_u64 (x := b.getD (8 * k + m) 0) (by omega) (by omega), wrap_u64 (by omega) (by omega)]
  have e2 : ((W : Int) * 256 + b.getD (8 * k + m) 0) = ((leW ((oct8 b k).drop m) : Nat) : Int) := by
   rw [drop_at (l := oct8 b k) (i := m) (by omega) 0]
   simp only [leW]
   rw [hW]
   have : (oct8 b k).getD m 0 = (b.getD (8 * k + m) 0).toNat := by
    unfold oct8
    rw [List.getD_eq_getElem?_getD, List.getElem?_map, List.getElem?_take_of_lt (by omega), List.getElem?_drop, List.getD_eq_getElem?_getD]
    cases b[8 * k + m]? <;> rfl
   rw [this]; omega
  rw [e2]
  exact word_in Xt K b hb ho c2 c4 k hk m n (by omega) (by omega)
theorem soaked_loop {α : Type} (Xt : List Int -> List Int -> Option α) (K : Nat) (hK : 8 < K) (b : List Int) (hb : b.length = 136) (ho : Oct b) (c4 : List Int) : ∀ (m k n : Nat) (a : List Int), m < n -> m + k = 17 -> a.length = 25 ->
  basculeref_soaked.l0 K Xt n b ((8 * k : Nat) : Int) a c4 = Xt (soakN b m k a) c4
 | m, k, 0, a, h, _, _ => by omega
 | 0, k, n + 1, a, h, hk, ha => by
  obtain rfl : k = 17 := by omega
  simp only [basculeref_soaked.l0, basculeref_soaked.l0s]
  rw [if_neg (by decide)]; rfl
 | m + 1, k, n + 1, a, h, hk, ha => by
  simp only [basculeref_soaked.l0, basculeref_soaked.l0s]
  rw [if_pos (by rw [decide_eq_true_eq]; omega)]
  have h8 := oct8_len hb (k := k) (by omega)
  have hw := word_in (fun x1 x5 x6 c2 c4 => basculeref_soaked.j0 (basculeref_soaked.l0 K Xt n) x1 x5 x6 c2 c4) K b hb ho a c4 k (by omega) 8 K hK (by omega)
  have hz : leW ((oct8 b k).drop 8) = 0 := by rw [List.drop_eq_nil_of_le (by omega)]; rfl
  rw [hz, show ((8 : Nat) : Int) - 1 = 7 from rfl, show ((0 : Nat) : Int) = 0 from rfl] at hw
  rw [hw]
  unfold basculeref_soaked.j0 basculeref_soaked.j1
  have e1 : IntKind.i64.wrap (Int.tdiv ((8 * k : Nat) : Int) 8) = (k : Int) := by
   have := i64_tdiv (x := 8 * k) (c := 8) (by omega)
   rw [show (8 * k) / 8 = k by omega] at this; exact this
  rw [e1, if_pos (by omega), if_pos (by omega), toNat_nat, wrap_i64 (x := ((8 * k : Nat) : Int) + 8) (by omega) (by omega), show ((8 * k : Nat) : Int) + 8 = ((8 * (k + 1) : Nat) : Int) by omega]
  exact soaked_loop Xt K hK b hb ho c4 m (k + 1) n (lUp b a k) (by omega) (by omega) (by rw [lUp_len]; exact ha)
theorem soak_both {a b : List Int} (ha : a.length = 25) (hb : b.length = 136) (ho : Oct b) : ∃ r : List Int, r.length = 25 /\ (∀ N : Int, keccak_soak.run (a, b, N, ()) = some (r, List.replicate 136 0, 0, ())) /\ basculeref_soaked.run a b = some r := by
 obtain ⟨r, h1, h2, h3⟩ := turn_both (l := soakN b 17 0 a) (by rw [soakN_len]; exact ha)
 refine ⟨r, h1, fun N => ?_, ?_⟩
 ·unfold keccak_soak.run keccak_soak.top
  obtain ⟨n, hn⟩ : ∃ n, fuel = n + 1 + 8 * 17 := ⟨fuel - 137, by rw [fuel_big]⟩
  rw [hn]
  have := soak_loop (fun c1 c2 => keccak_soak.j0 (fun c2 => some c2) c1 c2) (n + 1 + 8 * 17) b hb ho (b, N, ()) (List.replicate 25 0, List.replicate 136 0, 0, ()) 17 0 n a rfl ha
  refine Eq.trans this ?_
  unfold keccak_soak.j0
  simp only []
  rw [h2]; rfl
 ·unfold basculeref_soaked.run basculeref_soaked.top
  have := soaked_loop (fun c2 c4 => basculeref_soaked.j2 (fun c4 => some c4) c2 c4) fuel (by rw [fuel_big]; omega) b hb ho (List.replicate 25 0) 17 0 fuel a (by rw [fuel_big]; omega) rfl ha
  refine Eq.trans this ?_
  unfold basculeref_soaked.j2
  rw [h3]; rfl
end Go.Bx
