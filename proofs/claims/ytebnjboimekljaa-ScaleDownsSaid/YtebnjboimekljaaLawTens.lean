/- A part of a framework that reads Go code as functions of plain data; or a law about such functions. -/
import Derived.Test.YtebnjboimekljaaLawParse
namespace Go.Bx
open Go
set_option linter.unusedSimpArgs false
set_option linter.unusedVariables false

/-- the powers of ten -/
def pow10 : Nat → Int
  | 0 => 1
  | n + 1 => pow10 n * 10

theorem pow10_pos : ∀ n, 0 < pow10 n
  | 0 => by decide
  | n + 1 => by have := pow10_pos n; simp only [pow10]; omega

theorem pow10_mono {m n : Nat} (h : m ≤ n) : pow10 m ≤ pow10 n := by
  induction n with
  | zero => have : m = 0 := by omega
            subst this; exact Int.le_refl _
  | succ n ih =>
    by_cases hm : m = n + 1
    · subst hm; exact Int.le_refl _
    · have := ih (by omega)
      have := pow10_pos n
      simp only [pow10]; omega

theorem pow10_lt {n : Nat} (h : n ≤ 77) : pow10 n < M256 := by
  have h1 := pow10_mono h
  have h2 : pow10 77 = 100000000000000000000000000000000000000000000000000000000000000000000000000000 := rfl
  rw [h2] at h1
  simp only [M256]
  omega

theorem ten_loop {α : Type} (k : Nat) (Xt : List Int → List Int → Option α) (m : Nat) (hm : m ≤ 77) (c2 : List Int) : ∀ (n i : Nat) (x : List Int), i ≤ m → m - i < n → x.length = 4 → digs B64 x → val B64 x = pow10 i →
    ∃ r, wide_Ten.l0 k Xt n (m : Int) (i : Int) c2 x = Xt c2 r ∧ r.length = 4 ∧ digs B64 r ∧ val B64 r = pow10 m
  | 0, i, x, _, h, _, _, _ => by omega
  | n + 1, i, x, hi, h, hx, hd, hv => by
    simp only [wide_Ten.l0, wide_Ten.l0s]
    by_cases hlt : i < m
    · have ten := small4 (d := 10) (by omega)
      obtain ⟨lo, hh, m1, m2, m3, m4, m5, m6⟩ := wide_mul hx (by rfl : [10, 0, 0, 0].length = 4) hd ten.1
      rw [if_pos (by rw [decide_eq_true_eq]; omega), m1]
      simp only [Option.bind_some]
      rw [i64_succ (by omega)]
      have bl := val4_bound m2 m4
      have bh := val4_bound m3 m5
      rw [ten.2, hv] at m6
      have hp := pow10_lt (show i + 1 ≤ 77 by omega)
      simp only [pow10] at hp
      refine ten_loop k Xt m hm c2 n (i + 1) lo (by omega) (by omega) m2 m4 ?_
      simp only [pow10, M256] at *
      omega
    · have : i = m := by omega
      subst this
      rw [if_neg (by rw [decide_eq_true_eq]; omega)]
      exact ⟨x, rfl, hx, hd, hv⟩

theorem wide_ten (x : Int) : ∃ w, wide_Ten.run x = some (w, (if 0 ≤ x ∧ x ≤ 77 then 0 else 6), ()) ∧ w.length = 4 ∧ digs B64 w ∧ val B64 w = if 0 ≤ x ∧ x ≤ 77 then pow10 x.toNat else 0 := by
  unfold wide_Ten.run wide_Ten.top
  by_cases h : 0 ≤ x ∧ x ≤ 77
  · obtain ⟨m, rfl⟩ : ∃ m : Nat, x = (m : Int) := ⟨x.toNat, by omega⟩
    have h1 : cond (decide ((m : Int) < 0)) true (decide ((m : Int) ≥ 78)) = false := by rw [cond_or]; simp; omega
    rw [h1, if_neg (by simp), if_pos h, if_pos h]
    have one := small4 (d := 1) (by omega)
    have := fun N (hN : m < N) => ten_loop N (fun (c2 : List Int) (c4 : List Int) => wide_Ten.j0 (fun (x3 : Int) (c2 : List Int) => some (c2, x3, ())) c2 c4) m (by omega) [0, 0, 0, 0] N 0 [1, 0, 0, 0] (by omega) (by omega) rfl one.1 one.2
    obtain ⟨r, r1, r2, r3, r4⟩ := this fuel (by rw [fuel_big]; omega)
    exact ⟨r, r1, r2, r3, r4⟩
  · have h1 : cond (decide (x < 0)) true (decide (x ≥ 78)) = true := by rw [cond_or]; simp; omega
    rw [h1, if_pos rfl, if_neg h, if_neg h]
    exact ⟨_, rfl, rfl, Z4.1, rfl⟩

theorem tens_loop {α : Type} (k : Nat) (Xt : List Int → List Int → Option α) (m : Nat) (hm : m ≤ 77) (c2 : List Int) : ∀ (n i : Nat), i ≤ m → m - i < n →
    basculeref_Tens.l0 k Xt n (49 :: List.replicate i 48) (m : Int) (i : Int) c2 = Xt (49 :: List.replicate m 48) c2
  | 0, i, _, h => by omega
  | n + 1, i, hi, h => by
    simp only [basculeref_Tens.l0, basculeref_Tens.l0s]
    by_cases hlt : i < m
    · have e : (49 :: List.replicate i (48 : Int)) ++ [48] = 49 :: List.replicate (i + 1) 48 := by
        rw [List.cons_append, List.replicate_succ']
      rw [if_pos (by rw [decide_eq_true_eq]; omega), if_pos (Nat.ble_eq_true_of_le (by simp; omega)), i64_succ (by omega), e]
      exact tens_loop k Xt m hm c2 n (i + 1) (by omega) (by omega)
    · have : i = m := by omega
      subst this
      rw [if_neg (by rw [decide_eq_true_eq]; omega)]

theorem dec_zeros : ∀ (n : Nat) (v : Int), dec v (List.replicate n 48) = v * pow10 n
  | 0, v => by simp [dec, pow10]
  | n + 1, v => by
    rw [List.replicate_succ]
    simp only [dec, pow10]
    rw [dec_zeros n]
    have e : v * 10 + (48 - 48) = v * 10 := by omega
    rw [e, Int.mul_assoc, Int.mul_comm 10]

theorem ref_tens (x : Int) : ∃ w, basculeref_Tens.run x = some (w, (if 0 ≤ x ∧ x ≤ 77 then 0 else 6), ()) ∧ w.length = 4 ∧ digs B64 w ∧ val B64 w = if 0 ≤ x ∧ x ≤ 77 then pow10 x.toNat else 0 := by
  unfold basculeref_Tens.run basculeref_Tens.top
  by_cases h : 0 ≤ x ∧ x ≤ 77
  · obtain ⟨m, rfl⟩ : ∃ m : Nat, x = (m : Int) := ⟨x.toNat, by omega⟩
    have h1 : cond (decide ((m : Int) < 0)) true (decide ((m : Int) > 77)) = false := by rw [cond_or]; simp; omega
    rw [h1, if_neg (by simp), if_pos h, if_pos h]
    have := fun N (hN : m < N) => tens_loop N (fun (x4 : List Int) (c2 : List Int) => basculeref_Tens.j0 (fun (x3 : Int) (c2 : List Int) => some (c2, x3, ())) x4 c2) m (by omega) [0, 0, 0, 0] N 0 (by omega) (by omega)
    have hrun := this fuel (by rw [fuel_big]; omega)
    obtain ⟨w, w1, w2, w3, w4⟩ := number_of (49 :: List.replicate m 48)
    have hE : parseE (49 :: List.replicate m 48) = 0 := by
      unfold parseE
      have hall : allDig (49 :: List.replicate m 48) = true := by
        unfold allDig
        rw [List.all_eq_true]
        intro c hc
        rcases List.mem_cons.1 hc with rfl | hc
        · rfl
        · rw [List.mem_replicate] at hc; rw [hc.2]; rfl
      have hd : dec 0 (49 :: List.replicate m 48) = pow10 m := by
        simp only [dec]
        rw [dec_zeros]
        show (0 * 10 + (49 - 48)) * pow10 m = pow10 m
        omega
      rw [if_neg (by simp; omega), if_neg (by simp [List.getD]), if_pos hall, hd, if_pos (pow10_lt (by omega))]
    have hd : dec 0 (49 :: List.replicate m 48) = pow10 m := by
      simp only [dec]
      rw [dec_zeros]
      show (0 * 10 + (49 - 48)) * pow10 m = pow10 m
      omega
    rw [hE] at w1 w4
    refine ⟨w, Eq.trans hrun ?_, w2, w3, ?_⟩
    · unfold basculeref_Tens.j0
      rw [w1]; rfl
    · rw [w4, if_pos rfl, hd]; rfl
  · have h1 : cond (decide (x < 0)) true (decide (x > 77)) = true := by rw [cond_or]; simp; omega
    rw [h1, if_pos rfl, if_neg h, if_neg h]
    exact ⟨_, rfl, rfl, Z4.1, rfl⟩

end Go.Bx
