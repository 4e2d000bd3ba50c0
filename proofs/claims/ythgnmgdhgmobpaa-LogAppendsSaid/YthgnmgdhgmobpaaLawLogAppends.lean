/- A part of a framework that reads Go code as functions of plain data; or a law about such functions. -/
import Derived.Test.YthgnmgdhgmobpaaLawLogTail
import Derived.Test.YthgnmgdhgmobpaaFnLogAppends0
namespace Go.Bx
open Go
set_option linter.unusedSimpArgs false
set_option linter.unusedVariables false

theorem big2 (x : Int) : basculeref_big.run x 2 = some [IntKind.u8.wrap (shrI .u64 x 8), IntKind.u8.wrap x] := by kernel_rfl
theorem big1 (x : Int) : basculeref_big.run x 1 = some [IntKind.u8.wrap x] := by kernel_rfl

theorem ble_of {a b : Nat} (h : a ≤ b) : Nat.ble a b = true := Nat.ble_eq_true_of_le h

theorem shr8_u64 {n : Nat} (h : n < 65536) : shrI .u64 (n : Int) 8 = ((n / 256 : Nat) : Int) := by
  have := shr_nat (X := n) (k := 8) (by decide)
  rw [show ((8 : Nat) : Int) = 8 from rfl] at this
  rw [this, Nat.shiftRight_eq_div_pow]

theorem shr8_i64 {n : Nat} (h : n < 65536) : shrI .i64 (n : Int) 8 = ((n / 256 : Nat) : Int) := by
  unfold shrI
  have h1 : min (8 : Int).toNat IntKind.i64.bits = 8 := rfl
  rw [h1, Int.fdiv_eq_ediv_of_nonneg _ (by decide)]
  norm_cast

/-- a record's text -/
def recText (l : List Int) : List Int := [IntKind.u8.wrap (shrI .i64 (l.length : Int) 8), IntKind.u8.wrap (l.length : Int)] ++ l ++ [sumI l % 256]

theorem text_run (l : List Int) (hl : l.length ≤ 60000) (hb : ∀ b ∈ l, 0 ≤ b ∧ b ≤ 255) : basculeref_logText.run l = some (recText l) := by
  unfold basculeref_logText.run basculeref_logText.top
  have hs := sumI_bound hb
  have h1 := fun {α : Type} (Xt : List Int → Int → Option α) N (hN : l.length < N) => text_loop N Xt l l (by omega) hb N 0 0 (by omega) (by omega) (by omega)
  have h2 := h1 (fun (x0 : List Int) (x3 : Int) => basculeref_logText.j0 (fun (x2 : List Int) => some x2) x0 x3) fuel (by rw [fuel_big]; omega)
  rw [List.drop_zero, Int.zero_add] at h2
  refine Eq.trans h2 ?_
  unfold basculeref_logText.j0
  rw [big2, big1]
  simp only [Option.bind_some]
  rw [if_pos (ble_of (by simp; omega)), if_pos (ble_of (by simp; omega))]
  unfold recText
  have e1 : IntKind.u64.wrap (l.length : Int) = (l.length : Int) := wrap_u64 (by omega) (by omega)
  have e2 : IntKind.u8.wrap (IntKind.u64.wrap (sumI l)) = sumI l % 256 := by
    rw [wrap_u64 (by omega) (by omega), wrap_u8_mod]
  rw [e1, e2, shr8_u64 (by omega), shr8_i64 (by omega)]

abbrev LogTy : Ty := .pair (.sl (.int .u8)) (.pair (.sl (.int .u8)) .unit)

theorem append_run (x0 : List Int × List Int × Unit) (x1 : List Int) (h1 : x1.length < 1000000000000000) : log_Append.run x0 x1 = some (
    if x0.1.length > 9000 ∨ x0.2.1.length > 9000 then (([], [], ()), 12, ())
    else if x1.length > 200 then (([], [], ()), 1, ())
    else if x0.1.length + x0.2.1.length + x1.length + 3 > 9000 then (([], [], ()), 9, ())
    else ((x0.1, x0.2.1 ++ recText x1, ()), 0, ())) := by
  unfold log_Append.run log_Append.top
  by_cases c1 : x0.1.length > 9000 ∨ x0.2.1.length > 9000
  · rw [if_pos c1, if_pos (by rw [cond_or]; simp; omega)]
  · rw [if_neg c1, if_neg (by rw [cond_or]; simp; omega)]
    by_cases c2 : x1.length > 200
    · rw [if_pos c2, if_pos (by simp; omega)]
    · rw [if_neg c2, if_neg (by simp; omega)]
      rw [wrap_i64 (x := (x0.1.length : Int) + (x0.2.1.length : Int)) (by omega) (by omega), wrap_i64 (x := (x0.1.length : Int) + (x0.2.1.length : Int) + (x1.length : Int)) (by omega) (by omega), wrap_i64 (by omega) (by omega)]
      by_cases c3 : x0.1.length + x0.2.1.length + x1.length + 3 > 9000
      · rw [if_pos c3, if_pos (by simp; omega)]
      · rw [if_neg c3, if_neg (by simp; omega)]
        rw [tail_run _ (by omega)]
        simp only [Option.bind_some]
        rw [if_pos (fitB_small (by omega) (by decide)), if_pos (fitB_small (by simp; omega) (by decide)), if_pos (fitB_small (by omega) (by decide)), if_pos (fitB_small (by omega) (by decide)), if_pos (fitB_small (by simp; omega) (by decide))]
        rfl

theorem recText_len (l : List Int) : (recText l).length = l.length + 3 := by simp [recText]

theorem appended_run (x0 : List Int × List Int × Unit) (x1 : List Int) (h1 : x1.length < 1000000000000000) (hb : ∀ b ∈ x1, 0 ≤ b ∧ b ≤ 255) : basculeref_LogAppended.run x0 x1 = log_Append.run x0 x1 := by
  rw [append_run x0 x1 h1]
  unfold basculeref_LogAppended.run basculeref_LogAppended.top
  by_cases c1 : x0.1.length > 9000 ∨ x0.2.1.length > 9000
  · rw [if_pos c1, if_pos (by rw [cond_or]; simp; omega)]
  · rw [if_neg c1, if_neg (by rw [cond_or]; simp; omega)]
    by_cases c2 : x1.length > 200
    · rw [if_pos c2, if_pos (by simp; omega)]
    · rw [if_neg c2, if_neg (by simp; omega), text_run x1 (by omega) hb]
      simp only [Option.bind_some]
      have hl := recText_len x1
      rw [if_pos (ble_of (by omega)), List.length_append, wrap_i64 (by omega) (by omega)]
      by_cases c3 : x0.1.length + x0.2.1.length + x1.length + 3 > 9000
      · rw [if_pos c3, if_pos (by simp; omega)]
      · rw [if_neg c3, if_neg (by simp; omega)]

theorem sameLog_refl (x : List Int × List Int × Unit) : basculelaw_sameLog.run x x = some true := by
  unfold basculelaw_sameLog.run basculelaw_sameLog.top basculelaw_sameBytes.run basculelaw_sameBytes.top
  simp [beqD]

theorem law_LogAppends (x : (Ty.pair LogTy (.pair (.sl (.int .u8)) .unit)).den) (h : Fit reachK (.pair LogTy (.pair (.sl (.int .u8)) .unit)) x) : basculelaw_LogAppends.run x.1 x.2.1 = some true := by
  obtain ⟨_, ⟨h1, h2, h3⟩, _⟩ := h
  have hl : List.length x.2.1 < 1000000000000000 := by
    have h1 : List.length x.2.1 * (Ty.int .u8).bytes ≤ reachBytes := h1
    have e1 : (Ty.int .u8).bytes = 1 := rfl
    have e2 : reachBytes = 140737488351232 := rfl
    rw [e1, e2] at h1
    omega
  unfold basculelaw_LogAppends.run basculelaw_LogAppends.top
  rw [appended_run x.1 x.2.1 hl (fun b hb => by have := h3 b hb; simpa [Fit, inR_u8] using this), append_run x.1 x.2.1 hl]
  simp only [Option.bind_some, sameLog_refl]
  simp

end Go.Bx
