/- A part of a framework that reads Go code as functions of plain data; or a law about such functions. -/
import Derived.Test.YtpapikaeaodfgaaLawRefNum
import Derived.Test.YtpapikaeaodfgaaLawBits
import Derived.Test.YtpapikaeaodfgaaFnWideShows0
namespace Go.Bx
open Go
set_option linter.unusedSimpArgs false
set_option linter.unusedVariables false
set_option maxRecDepth 100000

/-! two words by ten to the nineteenth -/

abbrev Y19 : Int := 10000000000000000000

theorem lz_y : math_bits_LeadingZeros64.run Y19 = some 0 := by kernel_rfl

/-- the digit is right as soon as nothing is to be taken from it -/
theorem digit_up {h u q r : Int} (hq : h = q * 2328306436 + r) : (q * 2313682944 > 4294967296 * r + u) ↔ (h * 4294967296 + u < q * Y19) := by
  unfold Y19; omega

theorem dig_wrap {q r u : Int} (hq : 0 ≤ q ∧ q ≤ 4294967296) (hr : 0 ≤ r ∧ r < 4294967296) (hu : 0 ≤ u ∧ u < 4294967296) :
    IntKind.u64.wrap (q * 2313682944) = q * 2313682944 ∧ IntKind.u64.wrap (IntKind.u64.wrap (4294967296 * r) + u) = 4294967296 * r + u := by
  constructor
  · exact wrap_u64 (by omega) (by omega)
  · rw [wrap_u64 (x := 4294967296 * r) (by omega) (by omega), wrap_u64 (by omega) (by omega)]

theorem div_lt {h u q : Int} (hlt : h * 4294967296 + u < q * Y19) (hq : 0 ≤ q) : (h * 4294967296 + u) / Y19 < q := by
  unfold Y19 at *; omega
theorem div_ge {h u q : Int} (hlt : ¬ h * 4294967296 + u < q * Y19) : q ≤ (h * 4294967296 + u) / Y19 := by
  unfold Y19 at *; omega

theorem first_loop {α : Type} (Xt : Int → Int → Int → Int → Int → Int → Int → Int → Option α) (K : Nat) (h u u0 : Int) (hh : 0 ≤ h ∧ h < Y19) (hu : 0 ≤ u ∧ u < 4294967296) : ∀ (m n : Nat) (q r : Int), m < n → q = (h * 4294967296 + u) / Y19 + (m : Int) → q ≤ 4294967296 → h = q * 2328306436 + r → 0 ≤ r → r < 4294967296 →
    math_bits_Div64.l0 K Xt n Y19 0 2328306436 2313682944 h u u0 q r = Xt Y19 0 2328306436 2313682944 h u u0 ((h * 4294967296 + u) / Y19)
  | m, 0, q, r, hn, _, _, _, _, _ => by omega
  | 0, n + 1, q, r, hn, hq, hq2, hqr, hr, hr2 => by
    have hB : (h * 4294967296 + u) / Y19 < 4294967296 := by unfold Y19 at *; omega
    have h0 : 0 ≤ (h * 4294967296 + u) / Y19 := by unfold Y19 at *; omega
    have hq : q = (h * 4294967296 + u) / Y19 := by omega
    simp only [math_bits_Div64.l0, math_bits_Div64.l0s]
    obtain ⟨w1, w2⟩ := dig_wrap (q := q) (r := r) (u := u) ⟨by omega, hq2⟩ ⟨hr, hr2⟩ hu
    rw [w1, w2, show decide (q ≥ 4294967296) = false by rw [decide_eq_false_iff_not]; omega, cond_false]
    have : ¬ (h * 4294967296 + u < q * Y19) := fun hlt => by have := div_lt hlt (by omega); omega
    rw [if_neg (by rw [decide_eq_true_eq, digit_up hqr]; exact this), hq]
  | m + 1, n + 1, q, r, hn, hq, hq2, hqr, hr, hr2 => by
    have h0 : 0 ≤ (h * 4294967296 + u) / Y19 := by unfold Y19 at *; omega
    simp only [math_bits_Div64.l0, math_bits_Div64.l0s]
    obtain ⟨w1, w2⟩ := dig_wrap (q := q) (r := r) (u := u) ⟨by omega, hq2⟩ ⟨hr, hr2⟩ hu
    have hgt : h * 4294967296 + u < q * Y19 := by
      by_cases hc : h * 4294967296 + u < q * Y19
      · exact hc
      · have := div_ge hc; omega
    have hcond : cond (decide (q ≥ 4294967296)) true (decide (IntKind.u64.wrap (q * 2313682944) > IntKind.u64.wrap (IntKind.u64.wrap (4294967296 * r) + u))) = true := by
      rw [w1, w2, decide_eq_true ((digit_up hqr).2 hgt)]; cases decide (q ≥ 4294967296) <;> rfl
    rw [if_pos hcond, wrap_u64 (x := r + 2328306436) (by omega) (by omega), wrap_u64 (x := q - 1) (by omega) (by omega)]
    by_cases hb : r + 2328306436 ≥ 4294967296
    · rw [if_pos (by simpa using hb)]
      have hge : q - 1 ≤ (h * 4294967296 + u) / Y19 := div_ge (fun hlt => by
        have := (digit_up (h := h) (u := u) (q := q - 1) (r := r + 2328306436) (by omega)).2 hlt
        omega)
      have : q - 1 = (h * 4294967296 + u) / Y19 := by omega
      rw [this]
    · rw [if_neg (by simpa using hb)]
      exact first_loop Xt K h u u0 hh hu m n (q - 1) (r + 2328306436) (by omega) (by omega) (by omega) (by omega) (by omega) (by omega)

theorem second_loop {α : Type} (Xt : Int → Int → Int → Int → Int → Int → Option α) (K : Nat) (q1 h u : Int) (hh : 0 ≤ h ∧ h < Y19) (hu : 0 ≤ u ∧ u < 4294967296) : ∀ (m n : Nat) (q r : Int), m < n → q = (h * 4294967296 + u) / Y19 + (m : Int) → q ≤ 4294967296 → h = q * 2328306436 + r → 0 ≤ r → r < 4294967296 →
    math_bits_Div64.l1 K Xt n Y19 0 2328306436 2313682944 u q1 r h q = Xt Y19 0 u q1 h ((h * 4294967296 + u) / Y19)
  | m, 0, q, r, hn, _, _, _, _, _ => by omega
  | 0, n + 1, q, r, hn, hq, hq2, hqr, hr, hr2 => by
    have hB : (h * 4294967296 + u) / Y19 < 4294967296 := by unfold Y19 at *; omega
    have h0 : 0 ≤ (h * 4294967296 + u) / Y19 := by unfold Y19 at *; omega
    have hq : q = (h * 4294967296 + u) / Y19 := by omega
    simp only [math_bits_Div64.l1, math_bits_Div64.l1s]
    obtain ⟨w1, w2⟩ := dig_wrap (q := q) (r := r) (u := u) ⟨by omega, hq2⟩ ⟨hr, hr2⟩ hu
    rw [w1, w2, show decide (q ≥ 4294967296) = false by rw [decide_eq_false_iff_not]; omega, cond_false]
    have : ¬ (h * 4294967296 + u < q * Y19) := fun hlt => by have := div_lt hlt (by omega); omega
    rw [if_neg (by rw [decide_eq_true_eq, digit_up hqr]; exact this), hq]
  | m + 1, n + 1, q, r, hn, hq, hq2, hqr, hr, hr2 => by
    have h0 : 0 ≤ (h * 4294967296 + u) / Y19 := by unfold Y19 at *; omega
    simp only [math_bits_Div64.l1, math_bits_Div64.l1s]
    obtain ⟨w1, w2⟩ := dig_wrap (q := q) (r := r) (u := u) ⟨by omega, hq2⟩ ⟨hr, hr2⟩ hu
    have hgt : h * 4294967296 + u < q * Y19 := by
      by_cases hc : h * 4294967296 + u < q * Y19
      · exact hc
      · have := div_ge hc; omega
    have hcond : cond (decide (q ≥ 4294967296)) true (decide (IntKind.u64.wrap (q * 2313682944) > IntKind.u64.wrap (IntKind.u64.wrap (4294967296 * r) + u))) = true := by
      rw [w1, w2, decide_eq_true ((digit_up hqr).2 hgt)]; cases decide (q ≥ 4294967296) <;> rfl
    rw [if_pos hcond, wrap_u64 (x := r + 2328306436) (by omega) (by omega), wrap_u64 (x := q - 1) (by omega) (by omega)]
    by_cases hb : r + 2328306436 ≥ 4294967296
    · rw [if_pos (by simpa using hb)]
      have hge : q - 1 ≤ (h * 4294967296 + u) / Y19 := div_ge (fun hlt => by
        have := (digit_up (h := h) (u := u) (q := q - 1) (r := r + 2328306436) (by omega)).2 hlt
        omega)
      have : q - 1 = (h * 4294967296 + u) / Y19 := by omega
      rw [this]
    · rw [if_neg (by simpa using hb)]
      exact second_loop Xt K q1 h u hh hu m n (q - 1) (r + 2328306436) (by omega) (by omega) (by omega) (by omega) (by omega) (by omega)

/-- where the search begins -/
theorem start_dig {h u : Int} (hh : 0 ≤ h ∧ h < Y19) (hu : 0 ≤ u ∧ u < 4294967296) : ∃ m : Nat, m < 4294967297 ∧ h / 2328306436 = (h * 4294967296 + u) / Y19 + (m : Int) ∧ h / 2328306436 ≤ 4294967296 := by
  have h1 : (h * 4294967296 + u) / Y19 ≤ h / 2328306436 := by unfold Y19 at *; omega
  have h2 : 0 ≤ (h * 4294967296 + u) / Y19 := by unfold Y19 at *; omega
  have h3 : h / 2328306436 ≤ 4294967296 := by unfold Y19 at *; omega
  exact ⟨(h / 2328306436 - (h * 4294967296 + u) / Y19).toNat, by omega, by omega, h3⟩

theorem div64_ten {hi lo : Int} (hhi : 0 ≤ hi ∧ hi < Y19) (hlo : 0 ≤ lo ∧ lo < 18446744073709551616) : math_bits_Div64.run hi lo Y19 = some ((hi * 18446744073709551616 + lo) / Y19, (hi * 18446744073709551616 + lo) % Y19, ()) := by
  unfold math_bits_Div64.run math_bits_Div64.top math_bits_Div64.j0 math_bits_Div64.j1
  rw [if_neg (by decide), if_neg (by rw [decide_eq_true_eq]; exact Int.not_le.2 hhi.2)]
  by_cases h0 : hi = 0
  · rw [if_pos (by simpa using h0), if_pos (by decide), if_pos (by decide), tdiv_pos hlo.1, tmod_pos hlo.1, h0, Int.zero_mul, Int.zero_add, wrap_u64 (by unfold Y19; omega) (by unfold Y19; omega)]
  · rw [if_neg (by simpa using h0), lz_y, Option.bind_some]
    have s0 : ∀ x : Int, 0 ≤ x ∧ x < 18446744073709551616 → shlI .u64 x 0 = x := fun x hx => by
      unfold shlI
      rw [show (2 : Int) ^ (min (0 : Int).toNat IntKind.u64.bits) = 1 from rfl, Int.mul_one]
      exact wrap_u64 hx.1 (by omega)
    have e64 : IntKind.u64.wrap (64 - IntKind.u64.wrap 0) = 64 := by decide
    have sr : shrI .u64 lo 64 = 0 := by
      unfold shrI
      rw [show (2 : Int) ^ (min (64 : Int).toNat IntKind.u64.bits) = 18446744073709551616 from rfl, Int.fdiv_eq_ediv_of_nonneg _ (by decide)]
      exact Int.ediv_eq_zero_of_lt hlo.1 hlo.2
    have hb0 : bor .u64 hi 0 = hi := by
      obtain ⟨X, rfl⟩ := Int.eq_ofNat_of_zero_le hhi.1
      have := bor_nat (X := X) (Y := 0) (by unfold Y19 at hhi; omega) (by decide)
      rw [show ((0 : Nat) : Int) = 0 from rfl, Nat.or_zero] at this
      exact this
    have sh32 : ∀ x : Int, shrI .u64 x 32 = x / 4294967296 := fun x => by
      unfold shrI
      rw [show (2 : Int) ^ (min (32 : Int).toNat IntKind.u64.bits) = 4294967296 from rfl, Int.fdiv_eq_ediv_of_nonneg _ (by decide)]
    have bm : band .u64 lo 4294967295 = lo % 4294967296 := by
      obtain ⟨X, rfl⟩ := Int.eq_ofNat_of_zero_le hlo.1
      have := band_nat (X := X) (Y := 4294967295) (by omega) (by decide)
      rw [show ((4294967295 : Nat) : Int) = 4294967295 from rfl] at this
      rw [this, show (4294967295 : Nat) = 2 ^ 32 - 1 from rfl, Nat.and_two_pow_sub_one_eq_mod, show (2 : Nat) ^ 32 = 4294967296 from rfl]
      omega
    have y1 : shrI .u64 (shlI .u64 Y19 0) 32 = 2328306436 := by decide
    have y0 : band .u64 (shlI .u64 Y19 0) 4294967295 = 2313682944 := by decide
    have yy : shlI .u64 Y19 0 = Y19 := by decide
    have w0 : IntKind.u64.wrap 0 = 0 := by decide
    rw [e64, w0, y1, y0, yy, s0 hi ⟨hhi.1, by unfold Y19 at hhi; omega⟩, s0 lo hlo, sr, hb0, sh32, bm]
    rw [if_pos (by decide), if_pos (by decide), if_pos (by decide), if_pos (by decide), if_pos (by decide)]
    have hu1 : 0 ≤ lo / 4294967296 ∧ lo / 4294967296 < 4294967296 := by omega
    have hu0 : 0 ≤ lo % 4294967296 ∧ lo % 4294967296 < 4294967296 := by omega
    have q1e : IntKind.u64.wrap (Int.tdiv hi 2328306436) = hi / 2328306436 := by rw [tdiv_pos hhi.1, wrap_u64 (by omega) (by unfold Y19 at hhi; omega)]
    obtain ⟨m, m1, m2, m3⟩ := start_dig hhi hu1
    rw [q1e, wrap_u64 (x := hi / 2328306436 * 2328306436) (by omega) (by omega), wrap_u64 (x := hi - hi / 2328306436 * 2328306436) (by omega) (by omega)]
    rw [first_loop _ fuel hi (lo / 4294967296) (lo % 4294967296) hhi hu1 m fuel _ _ (by rw [fuel_big]; omega) m2 m3 (by omega) (by omega) (by omega)]
    unfold math_bits_Div64.j2
    rw [if_pos (by decide)]
    generalize hQ1 : (hi * 4294967296 + lo / 4294967296) / Y19 = Q1
    have hQb : 0 ≤ Q1 ∧ Q1 < 4294967296 := by subst hQ1; unfold Y19 at *; omega
    have hR1 : 0 ≤ hi * 4294967296 + lo / 4294967296 - Q1 * Y19 ∧ hi * 4294967296 + lo / 4294967296 - Q1 * Y19 < Y19 := by subst hQ1; unfold Y19 at *; omega
    have hun : IntKind.u64.wrap (IntKind.u64.wrap (IntKind.u64.wrap (hi * 4294967296) + lo / 4294967296) - IntKind.u64.wrap (Q1 * Y19)) = hi * 4294967296 + lo / 4294967296 - Q1 * Y19 := by
      simp only [wrap_u64_mod]; unfold Y19 at *; omega
    rw [hun]
    generalize hR : hi * 4294967296 + lo / 4294967296 - Q1 * Y19 = R at *
    have q0e : IntKind.u64.wrap (Int.tdiv R 2328306436) = R / 2328306436 := by rw [tdiv_pos hR1.1, wrap_u64 (by omega) (by unfold Y19 at hR1; omega)]
    obtain ⟨m', m1', m2', m3'⟩ := start_dig hR1 hu0
    rw [q0e, wrap_u64 (x := R / 2328306436 * 2328306436) (by omega) (by omega), wrap_u64 (x := R - R / 2328306436 * 2328306436) (by omega) (by omega)]
    rw [second_loop _ fuel Q1 R (lo % 4294967296) hR1 hu0 m' fuel _ _ (by rw [fuel_big]; omega) m2' m3' (by omega) (by omega) (by omega)]
    unfold math_bits_Div64.j3
    rw [if_pos (by decide)]
    generalize hQ0 : (R * 4294967296 + lo % 4294967296) / Y19 = Q0
    have hQ0b : 0 ≤ Q0 ∧ Q0 < 4294967296 := by subst hQ0; unfold Y19 at *; omega
    have hS : 0 ≤ R * 4294967296 + lo % 4294967296 - Q0 * Y19 ∧ R * 4294967296 + lo % 4294967296 - Q0 * Y19 < Y19 := by subst hQ0; unfold Y19 at *; omega
    have hrem : IntKind.u64.wrap (IntKind.u64.wrap (IntKind.u64.wrap (R * 4294967296) + lo % 4294967296) - IntKind.u64.wrap (Q0 * Y19)) = R * 4294967296 + lo % 4294967296 - Q0 * Y19 := by
      simp only [wrap_u64_mod]; unfold Y19 at *; omega
    have sr0 : ∀ x : Int, shrI .u64 x 0 = x := fun x => by
      unfold shrI
      rw [show (2 : Int) ^ (min (0 : Int).toNat IntKind.u64.bits) = 1 from rfl, Int.fdiv_one]
    rw [hrem, sr0, wrap_u64 (x := Q1 * 4294967296) (by omega) (by omega), wrap_u64 (by omega) (by omega)]
    have hid : hi * 18446744073709551616 + lo = (Q1 * 4294967296 + Q0) * Y19 + (R * 4294967296 + lo % 4294967296 - Q0 * Y19) := by
      unfold Y19 at *; omega
    generalize hT : R * 4294967296 + lo % 4294967296 - Q0 * Y19 = T at *
    have d1 : (hi * 18446744073709551616 + lo) / Y19 = Q1 * 4294967296 + Q0 := by rw [hid]; unfold Y19 at *; omega
    have d2 : (hi * 18446744073709551616 + lo) % Y19 = T := by rw [hid]; unfold Y19 at *; omega
    rw [d1, d2]

end Go.Bx
