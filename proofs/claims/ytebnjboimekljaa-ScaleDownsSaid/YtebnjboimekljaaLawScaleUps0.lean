/- A part of a framework that reads Go code as functions of plain data; or a law about such functions. -/
import Derived.Test.YtebnjboimekljaaLawTens
import Derived.Test.YtebnjboimekljaaLawU256
import Derived.Test.YtebnjboimekljaaFnScaleDowns0
namespace Go.Bx
open Go
set_option linter.unusedSimpArgs false
set_option linter.unusedVariables false

/-- which power of ten goes with so many decimals -/
def fewer (n : Nat) : Nat := n - 8

theorem max8 {n : Nat} (h : n ≤ 77) : (if 0 > (IntKind.i64.wrap ((n : Int) - 8)) then 0 else (IntKind.i64.wrap ((n : Int) - 8))) = ((fewer n : Nat) : Int) ∧ (if (IntKind.i64.wrap ((n : Int) - 8)) > 0 then (IntKind.i64.wrap ((n : Int) - 8)) else 0) = ((fewer n : Nat) : Int) := by
  rw [wrap_i64 (by omega) (by omega)]
  unfold fewer
  constructor <;> split <;> omega

theorem factor_run (x : Int) : ∃ w, scale_factor.run x = some (w, (if 0 ≤ x ∧ x ≤ 77 then 0 else 6), ()) ∧ w.length = 4 ∧ digs B64 w ∧ (0 ≤ x ∧ x ≤ 77 → val B64 w = pow10 (fewer x.toNat)) := by
  unfold scale_factor.run scale_factor.top
  by_cases h : 0 ≤ x ∧ x ≤ 77
  · obtain ⟨m, rfl⟩ : ∃ m : Nat, x = (m : Int) := ⟨x.toNat, by omega⟩
    have h1 : cond (decide ((m : Int) < 0)) true (decide ((m : Int) ≥ 78)) = false := by rw [cond_or]; simp; omega
    rw [h1, if_neg (by simp), if_pos h, (max8 (by omega)).1]
    obtain ⟨w, w1, w2, w3, w4⟩ := wide_ten ((fewer m : Nat) : Int)
    have hf : 0 ≤ ((fewer m : Nat) : Int) ∧ ((fewer m : Nat) : Int) ≤ 77 := by unfold fewer; omega
    rw [if_pos hf] at w1 w4
    rw [w1]
    exact ⟨w, rfl, w2, w3, fun _ => w4⟩
  · have h1 : cond (decide (x < 0)) true (decide (x ≥ 78)) = true := by rw [cond_or]; simp; omega
    rw [h1, if_pos rfl, if_neg h]
    exact ⟨_, rfl, rfl, Z4.1, fun hx => absurd hx h⟩

/-- what raising comes to -/
def upE (v : Int) (x : Int) : Int := if 0 ≤ x ∧ x ≤ 77 then (if v * pow10 (fewer x.toNat) < M256 then 0 else 13) else 6

theorem scale_up {l : List Int} (hl : l.length = 4) (dl : digs B64 l) (x : Int) : ∃ w, scale_Up.run l x = some (w, upE (val B64 l) x, ()) ∧ w.length = 4 ∧ digs B64 w ∧ val B64 w = if upE (val B64 l) x = 0 then val B64 l * pow10 (fewer x.toNat) else 0 := by
  unfold scale_Up.run scale_Up.top upE
  obtain ⟨f, f1, f2, f3, f4⟩ := factor_run x
  rw [f1]
  simp only [Option.bind_some]
  by_cases h : 0 ≤ x ∧ x ≤ 77
  · simp only [if_pos h]
    rw [if_neg (by simp)]
    obtain ⟨lo, hi, m1, m2, m3, m4, m5, m6⟩ := wide_mul hl f2 dl f3
    rw [m1]
    simp only [Option.bind_some]
    rw [f4 h] at m6
    have bl := val4_bound m2 m4
    have bh := val4_bound m3 m5
    have hz : beqD (.arr 4 (.int .u64)) hi [0, 0, 0, 0] = decide (val B64 l * pow10 (fewer x.toNat) < M256) := by
      rw [Bool.eq_iff_iff, decide_eq_true_eq]
      constructor
      · intro e
        have := beq_words m3 rfl e
        subst this
        have e0 : val B64 [0, 0, 0, 0] = 0 := rfl
        rw [e0] at m6
        omega
      · intro e
        have : val B64 hi = 0 := by simp only [M256] at *; omega
        rw [words_eq m3 rfl m5 Z4.1 (by rw [this]; rfl)]
        rfl
    rw [hz]
    by_cases hlt : val B64 l * pow10 (fewer x.toNat) < M256
    · simp only [if_pos hlt]
      rw [if_neg (by simp [hlt])]
      refine ⟨lo, rfl, m2, m4, ?_⟩
      rw [if_pos trivial]
      simp only [M256] at *
      omega
    · simp only [if_neg hlt]
      rw [if_pos (by simp [hlt])]
      exact ⟨_, rfl, rfl, Z4.1, rfl⟩
  · simp only [if_neg h]
    rw [if_pos (by rfl)]
    exact ⟨_, rfl, rfl, Z4.1, rfl⟩

theorem ref_raised {l : List Int} (hl : l.length = 4) (dl : digs B64 l) (x : Int) : ∃ w, basculeref_Raised.run l x = some (w, upE (val B64 l) x, ()) ∧ w.length = 4 ∧ digs B64 w ∧ val B64 w = if upE (val B64 l) x = 0 then val B64 l * pow10 (fewer x.toNat) else 0 := by
  unfold basculeref_Raised.run basculeref_Raised.top
  by_cases h : 0 ≤ x ∧ x ≤ 77
  · obtain ⟨m, rfl⟩ : ∃ m : Nat, x = (m : Int) := ⟨x.toNat, by omega⟩
    have h1 : cond (decide ((m : Int) < 0)) true (decide ((m : Int) > 77)) = false := by rw [cond_or]; simp; omega
    have hE : upE (val B64 l) (m : Int) = if val B64 l * pow10 (fewer m) < M256 then 0 else 13 := by unfold upE; rw [if_pos h, Int.toNat_natCast]
    rw [h1, if_neg (by simp), (max8 (by omega)).2]
    obtain ⟨f, f1, f2, f3, f4⟩ := ref_tens ((fewer m : Nat) : Int)
    have hf : 0 ≤ ((fewer m : Nat) : Int) ∧ ((fewer m : Nat) : Int) ≤ 77 := by unfold fewer; omega
    rw [if_pos hf] at f1 f4
    rw [Int.toNat_natCast] at f4
    obtain ⟨o1, e1, n1, g1, v1⟩ := ref_of hl dl
    obtain ⟨o2, e2, n2, g2, v2⟩ := ref_of f2 f3
    obtain ⟨p, e3, n3, g3, v3⟩ := ref_times g1 g2 (by omega) (by omega)
    obtain ⟨w, o, e4, n4, g4, v4, f5⟩ := ref_wide g3 (by omega)
    have hv : val B32 p = val B64 l * pow10 (fewer m) := by rw [v3, v1, v2, f4]
    rw [f1, Option.bind_some, e1, Option.bind_some, e2, Option.bind_some, e3, Option.bind_some, e4, Option.bind_some]
    have f6 : o = true ↔ M256 ≤ val B64 l * pow10 (fewer m) := hv ▸ f5
    have hn : 0 ≤ val B64 l * pow10 (fewer m) := by rw [← hv]; exact (val_bound B32_pos g3).1
    rw [hE, Int.toNat_natCast]
    by_cases hlt : val B64 l * pow10 (fewer m) < M256
    · simp only [if_pos hlt]
      rw [if_neg (fun ho => by have := f6.1 ho; omega)]
      refine ⟨w, rfl, n4, g4, ?_⟩
      rw [if_pos trivial, v4, hv]
      exact Int.emod_eq_of_lt hn hlt
    · simp only [if_neg hlt]
      rw [if_pos (f6.2 (by omega))]
      exact ⟨_, rfl, rfl, Z4.1, rfl⟩
  · have h1 : cond (decide (x < 0)) true (decide (x > 77)) = true := by rw [cond_or]; simp; omega
    have hE : upE (val B64 l) x = 6 := by unfold upE; rw [if_neg h]
    rw [h1, if_pos rfl, hE]
    exact ⟨_, rfl, rfl, Z4.1, rfl⟩

end Go.Bx
