/- A part of a framework that reads Go code as functions of plain data; or a law about such functions. -/
import Derived.Test.YtbkkahkikjifkaaDoorLawBase
namespace Go.Bx.Ch
set_option linter.unusedVariables false
def cub (A B x : Int) : Int := x * (x * x) + A * x + B
def alp (A x1 y1 x2 l : Int) : Int := A - 2*l*y1 + 2*l*l*x1 + x1*x1 + x1*x2 + x2*x2 - l*l*(x1+x2)
theorem alp_D (x1 y1 x2 l A B : Int) : alp A x1 y1 x2 l * (x2 - x1) = (cub A B x2 - (y1 + l*(x2-x1))*(y1 + l*(x2-x1))) - (cub A B x1 - y1*y1) := by unfold alp cub; grind
theorem third (x1 y1 x2 l A B : Int) : cub A B (l*l-x1-x2) - (l*(x1-(l*l-x1-x2)) - y1)*(l*(x1-(l*l-x1-x2)) - y1) = alp A x1 y1 x2 l * ((l*l-x1-x2) - x1) + (cub A B x1 - y1*y1) := by unfold alp cub; grind
theorem r1 (u d P x1 x2 y : Int) : (y * u + P * d) * (x2 - x1) = y * ((x2 - x1) * u) + P * (d * (x2 - x1)) := by grind
theorem r2 (y P c e : Int) : y * (1 + P * c) + P * e = y + P * (e + y * c) := by grind
theorem r3 (y1 y2 P k s t a b : Int) (hs : s = y2 * y2 + P * b) (ht : t = y1 * y1 + P * a) : (s - (y1 + (y2 - y1 + P * k)) * (y1 + (y2 - y1 + P * k))) - (t - y1 * y1) = P * (b - a - k * (2 * y2 + P * k)) := by rw [hs, ht]; grind
theorem r4 (m D u P c w : Int) (h1 : D * u = 1 + P * c) (h2 : m * D = P * w) : m = P * (w * u - m * c) := by
 have e1 : m * (D * u) = P * w * u := by rw [<- Int.mul_assoc, h2]
 rw [h1] at e1
 have e2 : m * (1 + P * c) = m + P * (m * c) := by grind
 rw [e2] at e1
 have e3 : P * (w * u - m * c) = P * w * u - P * (m * c) := by grind
 omega
theorem alp_of {P A B x1 y1 x2 y2 l u : Int} (h1 : P ∣ cub A B x1 - y1*y1) (h2 : P ∣ cub A B x2 - y2*y2) (hu : P ∣ (x2 - x1) * u - 1) (hl : P ∣ l - (y2 - y1) * u) : P ∣ alp A x1 y1 x2 l := by
 obtain ⟨a, ha⟩ := h1
 obtain ⟨b, hb⟩ := h2
 obtain ⟨c, hc⟩ := hu
 obtain ⟨d, hd⟩ := hl
 have e0 := alp_D x1 y1 x2 l A B
 have el : l = (y2 - y1) * u + P * d := by omega
 have ec : (x2 - x1) * u = 1 + P * c := by omega
 have e1 : l * (x2 - x1) = (y2 - y1) + P * (d * (x2 - x1) + (y2 - y1) * c) := by
  have := r1 u d P x1 x2 (y2 - y1)
  rw [<- el, ec, r2] at this
  exact this
 rw [e1, r3 y1 y2 P _ _ _ a b (by omega) (by omega)] at e0
 exact ⟨_, r4 _ _ _ _ _ _ ec e0⟩
theorem r5 (A x1 y1 l : Int) : alp A x1 y1 x1 l = A + 3 * (x1 * x1) - l * (y1 + y1) := by unfold alp; grind
theorem r6 (s u d P y : Int) : (s * u + P * d) * y = s * (y * u) + P * (d * y) := by grind
theorem r7 (s P e : Int) : s - (s + P * e) = P * (-e) := by grind
theorem alp_tan {P A x1 y1 l u : Int} (hu : P ∣ (y1 + y1) * u - 1) (hl : P ∣ l - (3 * (x1 * x1) + A) * u) : P ∣ alp A x1 y1 x1 l := by
 obtain ⟨c, hc⟩ := hu
 obtain ⟨d, hd⟩ := hl
 have el : l = (3 * (x1 * x1) + A) * u + P * d := by omega
 have ec : (y1 + y1) * u = 1 + P * c := by omega
 have := r6 (3 * (x1 * x1) + A) u d P (y1 + y1)
 rw [<- el, ec, r2] at this
 rw [r5, this, Int.add_comm A, r7]
 exact ⟨_, rfl⟩
theorem r8 (A B Z P c : Int) : cub A B (Z + P * c) = cub A B Z + P * (c * ((Z + P * c) * (Z + P * c) + (Z + P * c) * Z + Z * Z) + A * c) := by unfold cub; grind
theorem r9 (l x1 Z P c y1 d : Int) : l * (x1 - (Z + P * c)) - y1 + P * d = (l * (x1 - Z) - y1) + P * (d - l * c) := by grind
theorem r10 (W P e : Int) : (W + P * e) * (W + P * e) = W * W + P * (e * (W + P * e + W)) := by grind
theorem r11 (s t P e f g : Int) (h : s - t = P * g) : s + P * e - (t + P * f) = P * (g + e - f) := by
 have : P * (g + e - f) = P * g + P * e - P * f := by grind
 omega
theorem r12 (P b z a : Int) : P * b * z + P * a = P * (b * z + a) := by grind
theorem sum_on {P A B x1 y1 x2 l X Y : Int} (h1 : P ∣ cub A B x1 - y1*y1) (ha : P ∣ alp A x1 y1 x2 l) (hX : P ∣ X - (l*l-x1-x2)) (hY : P ∣ Y - (l*(x1-X) - y1)) : P ∣ cub A B X - Y*Y := by
 obtain ⟨a, ha'⟩ := h1
 obtain ⟨b, hb⟩ := ha
 obtain ⟨c, hc⟩ := hX
 obtain ⟨d, hd⟩ := hY
 have e0 := third x1 y1 x2 l A B
 rw [hb, ha', r12] at e0
 generalize l*l-x1-x2 = Z at *
 have eX : X = Z + P * c := by omega
 have eY : Y = (l * (x1 - X) - y1) + P * d := by omega
 rw [eX, r9] at eY
 rw [eX, eY, r10 (l * (x1 - Z) - y1) P (d - l * c), r8]
 exact ⟨_, r11 _ _ _ _ _ _ e0⟩
end Go.Bx.Ch
