/- A part of a framework that reads Go code as functions of plain data; or a law about such functions. -/
import Derived.Test.YtpapikaeaodfgaaLawDiv64
import Derived.Test.YtpapikaeaodfgaaLawDivided
import Derived.Test.YtpapikaeaodfgaaLawBeq
import Derived.Test.YtpapikaeaodfgaaLawAt
import Derived.Test.YtpapikaeaodfgaaLawU256
import Derived.Test.YtpapikaeaodfgaaFnWideShows0
namespace Go.Bx
open Go
set_option linter.unusedSimpArgs false
set_option linter.unusedVariables false
set_option maxRecDepth 100000

/-! numbers in decimal digits -/

/-- a number's digits, the lowest first -/
def rdg (v : Nat) : List Int := if h : v = 0 then [] else ((48 + v % 10 : Nat) : Int) :: rdg (v / 10)
termination_by v
decreasing_by omega

theorem rdg_zero : rdg 0 = [] := by rw [rdg]; simp
theorem rdg_pos {v : Nat} (h : v ≠ 0) : rdg v = ((48 + v % 10 : Nat) : Int) :: rdg (v / 10) := by rw [rdg]; simp [h]

theorem rdg_len : ∀ (n v : Nat), v < 10 ^ n → (rdg v).length ≤ n
  | 0, v, h => by
    have : v = 0 := by simpa using h
    subst this; rw [rdg_zero]; simp
  | n + 1, v, h => by
    by_cases h0 : v = 0
    · subst h0; rw [rdg_zero]; simp
    · rw [rdg_pos h0, List.length_cons]
      have := rdg_len n (v / 10) (by rw [Nat.pow_succ] at h; omega)
      omega

/-! the reference -/

theorem dec_loop10 {α : Type} (Xt : List Int → Option α) (K : Nat) : ∀ (m n v : Nat) (l acc : List Int), m < n → v < 10 ^ m → digs B32 l → l.length ≤ 1000 → val B32 l = (v : Int) → (l.length = 0 ↔ v = 0) → acc.length + m ≤ 1000 →
    basculeref_Decimal.l0 K Xt n l acc = Xt ((rdg v).reverse ++ acc)
  | m, 0, v, l, acc, h, _, _, _, _, _, _ => by omega
  | m, n + 1, v, l, acc, h, hv, hd, hl, hval, hz, ha => by
    simp only [basculeref_Decimal.l0, basculeref_Decimal.l0s]
    by_cases h0 : v = 0
    · have hl0 := hz.2 h0
      rw [if_neg (by rw [decide_eq_true_eq]; omega), h0, rdg_zero]; rfl
    · have hl0 : l.length ≠ 0 := fun e => h0 (hz.1 e)
      obtain ⟨m, rfl⟩ : ∃ k, m = k + 1 := ⟨m - 1, by
        have : m ≠ 0 := fun e => by subst e; simp at hv; exact h0 hv
        omega⟩
      have h10 : digs B32 [10] := digs_cons.2 ⟨by decide, digs_nil⟩
      have v10 : val B32 [10] = 10 := by simp [val]
      obtain ⟨q, r, d1, d2, d3, d4, d5, d6, d7⟩ := ref_divided hd h10 hl (by simp) (by rw [v10]; decide)
      rw [v10, hval] at d6 d7
      obtain ⟨y, ok, s1, s2, s3, _⟩ := ref_small (by omega) d4
      obtain ⟨r', k1, k2, k3, k4, k5⟩ := ref_shorn (by omega) d3
      have hy : y = ((v % 10 : Nat) : Int) := by
        rw [s3, d7, Int.emod_eq_of_lt (by omega) (by unfold B32; omega)]; omega
      rw [if_pos (by rw [decide_eq_true_eq]; omega), d1, Option.bind_some]
      simp only []
      rw [s1, Option.bind_some, if_pos (Nat.ble_eq_true_of_le (by omega)), k1, Option.bind_some, hy]
      have e1 : IntKind.u8.wrap (IntKind.u64.wrap (48 + ((v % 10 : Nat) : Int))) = ((48 + v % 10 : Nat) : Int) := by
        rw [wrap_u64 (by omega) (by omega), wrap_u8 (by omega) (by omega)]; omega
      rw [e1]
      have hq : val B32 r' = ((v / 10 : Nat) : Int) := by rw [k4, d6]; omega
      have hz' : r'.length = 0 ↔ v / 10 = 0 := by
        constructor
        · intro e
          have := List.eq_nil_of_length_eq_zero e
          subst this
          have h0' : val B32 [] = 0 := rfl
          rw [h0'] at hq; omega
        · intro e
          have := shorn_len k3 k5 (n := 0) (by rw [hq, e]; simp)
          omega
      refine (dec_loop10 Xt K m n (v / 10) r' _ (by omega) (by rw [Nat.pow_succ] at hv; omega) k3 (by omega) hq hz' (by simp; omega)).trans ?_
      rw [rdg_pos h0, List.reverse_cons, List.append_assoc]

/-! the program -/

theorem w4_cases {l : List Int} (h : l.length = 4) (d : digs B64 l) : ∃ a b c e, l = [a, b, c, e] ∧ (0 ≤ a ∧ a < 18446744073709551616) ∧ (0 ≤ b ∧ b < 18446744073709551616) ∧ (0 ≤ c ∧ c < 18446744073709551616) ∧ (0 ≤ e ∧ e < 18446744073709551616) := by
  obtain ⟨a, b, c, e, rfl⟩ := four_of_len h
  exact ⟨a, b, c, e, rfl, d a (by simp), d b (by simp), d c (by simp), d e (by simp)⟩

theorem quo_rng {h lo : Int} (hh : 0 ≤ h ∧ h < Y19) (hl : 0 ≤ lo ∧ lo < 18446744073709551616) : (0 ≤ (h * 18446744073709551616 + lo) / Y19 ∧ (h * 18446744073709551616 + lo) / Y19 < 18446744073709551616) ∧ (0 ≤ (h * 18446744073709551616 + lo) % Y19 ∧ (h * 18446744073709551616 + lo) % Y19 < Y19) ∧ (h * 18446744073709551616 + lo) / Y19 * Y19 + (h * 18446744073709551616 + lo) % Y19 = h * 18446744073709551616 + lo := by
  unfold Y19 at *; omega

theorem div_all {α : Type} (Xt : Int → List Int → List Int → Option α) (K N : Nat) {l : List Int} (hl : l.length = 4) (hd : digs B64 l) (c45 : List Int) : ∃ (q : List Int) (r : Int), wide_Show.l1 K Xt (N + 5) 0 3 l c45 = Xt r q c45 ∧ q.length = 4 ∧ digs B64 q ∧ val B64 q = val B64 l / Y19 ∧ r = val B64 l % Y19 := by
  obtain ⟨a, b, c, e, rfl, ha, hb, hc, he⟩ := w4_cases hl hd
  simp only [wide_Show.l1, wide_Show.l1s]
  have z : (0 : Int) ≤ 0 ∧ (0 : Int) < Y19 := by decide
  obtain ⟨q3, r3, i3⟩ := quo_rng z he
  obtain ⟨q2, r2, i2⟩ := quo_rng r3 hc
  obtain ⟨q1, r1, i1⟩ := quo_rng r2 hb
  obtain ⟨q0, r0, i0⟩ := quo_rng r1 ha
  have w3 : IntKind.i64.wrap (3 - 1) = 2 := rfl
  have w2 : IntKind.i64.wrap (2 - 1) = 1 := rfl
  have w1 : IntKind.i64.wrap (1 - 1) = 0 := rfl
  have w0 : IntKind.i64.wrap (0 - 1) = -1 := rfl
  rw [w3, w2, w1, w0]
  simp only [show decide ((3 : Int) ≥ 0) = true from rfl, show decide ((2 : Int) ≥ 0) = true from rfl, show decide ((1 : Int) ≥ 0) = true from rfl, show decide ((0 : Int) ≥ 0) = true from rfl, show decide ((-1 : Int) ≥ 0) = false from rfl, if_true, Bool.false_eq_true, if_false,
    show ((0 : Int) ≤ 3 ∧ (3 : Int) < 4) = True from by simp, show ((0 : Int) ≤ 2 ∧ (2 : Int) < 4) = True from by simp, show ((0 : Int) ≤ 1 ∧ (1 : Int) < 4) = True from by simp, show ((0 : Int) ≤ 0 ∧ (0 : Int) < 4) = True from by simp]
  have g3 : ([a, b, c, e] : List Int).getD (Int.toNat 3) 0 = e := rfl
  rw [g3, show (10000000000000000000 : Int) = Y19 from rfl, div64_ten z he, Option.bind_some]
  simp only []
  generalize hQ3 : (0 * 18446744073709551616 + e) / Y19 = Q3 at *
  generalize hR3 : (0 * 18446744073709551616 + e) % Y19 = R3 at *
  have g2 : (([a, b, c, e] : List Int).set (Int.toNat 3) Q3).getD (Int.toNat 2) 0 = c := rfl
  rw [g2, div64_ten r3 hc, Option.bind_some]
  simp only []
  generalize hQ2 : (R3 * 18446744073709551616 + c) / Y19 = Q2 at *
  generalize hR2 : (R3 * 18446744073709551616 + c) % Y19 = R2 at *
  have g1 : ((([a, b, c, e] : List Int).set (Int.toNat 3) Q3).set (Int.toNat 2) Q2).getD (Int.toNat 1) 0 = b := rfl
  rw [g1, div64_ten r2 hb, Option.bind_some]
  simp only []
  generalize hQ1 : (R2 * 18446744073709551616 + b) / Y19 = Q1 at *
  generalize hR1 : (R2 * 18446744073709551616 + b) % Y19 = R1 at *
  have g0 : (((([a, b, c, e] : List Int).set (Int.toNat 3) Q3).set (Int.toNat 2) Q2).set (Int.toNat 1) Q1).getD (Int.toNat 0) 0 = a := rfl
  rw [g0, div64_ten r1 ha, Option.bind_some]
  simp only []
  generalize hQ0 : (R1 * 18446744073709551616 + a) / Y19 = Q0 at *
  generalize hR0 : (R1 * 18446744073709551616 + a) % Y19 = R0 at *
  refine ⟨[Q0, Q1, Q2, Q3], R0, rfl, rfl, digs_cons.2 ⟨q0, digs_cons.2 ⟨q1, digs_cons.2 ⟨q2, digs_cons.2 ⟨q3, digs_nil⟩⟩⟩⟩, ?_, ?_⟩
  · simp only [val, B64]; unfold Y19 at *; omega
  · simp only [val, B64]; unfold Y19 at *; omega

theorem take_loop {α : Type} (Xt : List Int → List Int → Option α) (K : Nat) (c1 : List Int) (q : Nat) (hq : beqD (.arr 4 (.int .u64)) c1 [0, 0, 0, 0] = decide (q = 0)) : ∀ (j n w : Nat) (lf : Nat) (out : List Int), j < n → j ≤ 19 → w = q * 10 ^ j + lf → lf < 10 ^ j → out.length + j ≤ 1000 →
    ∃ t, wide_Show.l2 K Xt n (lf : Int) ((19 - j : Nat) : Int) c1 out = Xt c1 (out ++ t) ∧ rdg w = t ++ rdg q ∧ t.length ≤ j
  | j, 0, w, lf, out, h, _, _, _, _ => by omega
  | 0, n + 1, w, lf, out, h, hj, hw, hlf, ho => by
    simp only [wide_Show.l2, wide_Show.l2s]
    rw [show decide (((19 - 0 : Nat) : Int) < 19) = false from rfl, cond_false, if_neg (by decide)]
    have : lf = 0 := by simpa using hlf
    subst this
    exact ⟨[], by rw [List.append_nil], by rw [hw]; simp, by simp⟩
  | j + 1, n + 1, w, lf, out, h, hj, hw, hlf, ho => by
    simp only [wide_Show.l2, wide_Show.l2s]
    have hk : decide (((19 - (j + 1) : Nat) : Int) < 19) = true := by rw [decide_eq_true_eq]; omega
    rw [hk, cond_true, hq, cond_or]
    have hp := Nat.pow_succ (n := 10) (m := j)
    by_cases h0 : w = 0
    · have hpos : 0 < 10 ^ (j + 1) := Nat.pow_pos (by decide)
      have hlf0 : lf = 0 := by omega
      have hq0 : q = 0 := by
        have : q * 10 ^ (j + 1) = 0 := by omega
        rcases Nat.mul_eq_zero.1 this with h1 | h1
        · exact h1
        · omega
      subst hlf0; subst hq0
      rw [if_neg (by decide)]
      exact ⟨[], by rw [List.append_nil], by rw [h0]; simp, by simp⟩
    · have hc : (decide ((lf : Int) > 0) || !decide (q = 0)) = true := by
        rw [Bool.or_eq_true, decide_eq_true_eq, Bool.not_eq_true', decide_eq_false_iff_not]
        by_cases hz : lf = 0
        · right; intro e; subst e; subst hz; apply h0; rw [hw]; simp
        · left; omega
      rw [if_pos hc, if_pos (fitB_small (by omega) (by omega))]
      have e1 : IntKind.u8.wrap (IntKind.u64.wrap (48 + Int.tmod (lf : Int) 10)) = ((48 + lf % 10 : Nat) : Int) := by
        rw [tmod_pos (by omega), wrap_u64 (by omega) (by omega), wrap_u8 (by omega) (by omega)]; omega
      have hbig : lf < 10 ^ 19 := Nat.lt_of_lt_of_le hlf (Nat.pow_le_pow_right (by decide) hj)
      have e2 : IntKind.u64.wrap (Int.tdiv (lf : Int) 10) = ((lf / 10 : Nat) : Int) := by
        rw [tdiv_pos (by omega), wrap_u64 (by omega) (by omega)]; omega
      have e3 : IntKind.i64.wrap (((19 - (j + 1) : Nat) : Int) + 1) = ((19 - j : Nat) : Int) := by
        rw [wrap_i64 (by omega) (by omega)]; omega
      rw [e1, e2, e3]
      have hw10 : w / 10 = q * 10 ^ j + lf / 10 := by
        rw [hw, hp, show q * (10 ^ j * 10) + lf = lf + 10 * (q * 10 ^ j) by rw [← Nat.mul_assoc]; omega, Nat.add_mul_div_left _ _ (by decide)]; omega
      have hm10 : w % 10 = lf % 10 := by
        rw [hw, hp, show q * (10 ^ j * 10) + lf = lf + 10 * (q * 10 ^ j) by rw [← Nat.mul_assoc]; omega, Nat.add_mul_mod_self_left]
      obtain ⟨t, t1, t2, t3⟩ := take_loop Xt K c1 q hq j n (w / 10) (lf / 10) (out ++ [((48 + lf % 10 : Nat) : Int)]) (by omega) (by omega) hw10 (by omega) (by simp; omega)
      refine ⟨((48 + lf % 10 : Nat) : Int) :: t, ?_, ?_, by simp; omega⟩
      · rw [t1, List.append_assoc]; rfl
      · rw [rdg_pos h0, hm10, t2]; rfl

theorem zero_iff {l : List Int} (hl : l.length = 4) (hd : digs B64 l) {v : Nat} (hv : val B64 l = (v : Int)) : beqD (.arr 4 (.int .u64)) l [0, 0, 0, 0] = decide (v = 0) := by
  rw [Bool.eq_iff_iff, beqD_iff _ _ _ rfl, decide_eq_true_eq]
  obtain ⟨a, b, c, e, rfl, ha, hb, hc, he⟩ := w4_cases hl hd
  simp only [val, B64] at hv
  constructor
  · intro h
    cases h
    omega
  · intro h
    subst h
    have h1 : a = 0 := by omega
    have h2 : b = 0 := by omega
    have h3 : c = 0 := by omega
    have h4 : e = 0 := by omega
    rw [h1, h2, h3, h4]

theorem show_loop {α : Type} (Xt : List Int → Option α) (K : Nat) : ∀ (m n v : Nat) (l out : List Int), m < n → v < 10 ^ (19 * m) → l.length = 4 → digs B64 l → val B64 l = (v : Int) → out.length + 19 * m ≤ 900 →
    wide_Show.l0 (K + 100) Xt n l out = Xt (out ++ rdg v)
  | m, 0, v, l, out, h, _, _, _, _, _ => by omega
  | m, n + 1, v, l, out, h, hv, hl, hd, hval, ho => by
    simp only [wide_Show.l0, wide_Show.l0s]
    rw [zero_iff hl hd hval]
    by_cases h0 : v = 0
    · rw [decide_eq_true h0, if_neg (by decide), h0, rdg_zero, List.append_nil]
    · rw [decide_eq_false h0, if_pos (by decide)]
      obtain ⟨m, rfl⟩ : ∃ k, m = k + 1 := ⟨m - 1, by
        have : m ≠ 0 := fun e => by subst e; simp at hv; exact h0 hv
        omega⟩
      obtain ⟨q, r, d1, d2, d3, d4, d5⟩ := div_all (fun x4 c1 c45 => wide_Show.j0 (K + 100) (wide_Show.l0 (K + 100) Xt n) x4 c1 c45) (K + 100) (K + 95) hl hd out
      rw [show K + 95 + 5 = K + 100 by omega] at d1
      rw [d1]
      unfold wide_Show.j0
      have hY : (Y19 : Int) = ((10 ^ 19 : Nat) : Int) := rfl
      rw [hval, hY] at d4 d5
      have hq : val B64 q = ((v / 10 ^ 19 : Nat) : Int) := by rw [d4]; rfl
      have hr : r = ((v % 10 ^ 19 : Nat) : Int) := by rw [d5]; rfl
      have hvm : v / 10 ^ 19 < 10 ^ (19 * m) := by
        rw [show 19 * (m + 1) = 19 * m + 19 by omega, Nat.pow_add] at hv
        exact Nat.div_lt_of_lt_mul (by rw [Nat.mul_comm]; exact hv)
      obtain ⟨t, t1, t2, t3⟩ := take_loop (fun c1 c45 => wide_Show.l0 (K + 100) Xt n c1 c45) (K + 100) q (v / 10 ^ 19) (zero_iff d2 d3 hq) 19 (K + 100) v (v % 10 ^ 19) out (by omega) (by omega) (by have := Nat.div_add_mod v (10 ^ 19); rw [Nat.mul_comm] at this; omega) (Nat.mod_lt _ (Nat.pow_pos (by decide))) (by omega)
      rw [hr]
      rw [show ((19 - 19 : Nat) : Int) = 0 from rfl] at t1
      rw [t1]
      refine (show_loop Xt K m n (v / 10 ^ 19) q (out ++ t) (by omega) hvm d2 d3 hq (by simp; omega)).trans ?_
      rw [List.append_assoc, t2]

theorem swap_at {α : Type} (P S : List α) (x y : α) : (P ++ x :: S).set P.length y = P ++ y :: S := by simp [List.set_append]

theorem rev_loop {α : Type} (Xt : List Int → Option α) (K : Nat) : ∀ (m n : Nat) (P M S : List Int), M.length ≤ 2 * m → m < n → (P ++ M ++ S).length ≤ 1000000 →
    wide_Show.l3 K Xt n (P.length : Int) ((P.length : Int) + (M.length : Int) - 1) (P ++ M ++ S) = Xt (P ++ M.reverse ++ S)
  | m, 0, P, M, S, _, h, _ => by omega
  | m, n + 1, P, M, S, hM, h, hlen => by
    simp only [wide_Show.l3, wide_Show.l3s]
    by_cases h1 : M.length ≤ 1
    · rw [if_neg (by rw [decide_eq_true_eq]; omega)]
      match M, h1 with
      | [], _ => rfl
      | [a], _ => rfl
    · obtain ⟨x, M1, rfl⟩ : ∃ x M1, M = x :: M1 := by
        cases M with
        | nil => simp at h1
        | cons x M1 => exact ⟨x, M1, rfl⟩
      have hne : M1 ≠ [] := fun e => by subst e; simp at h1
      obtain ⟨M2, y, rfl⟩ : ∃ M2 y, M1 = M2 ++ [y] := ⟨M1.dropLast, M1.getLast hne, (List.dropLast_concat_getLast hne).symm⟩
      have hL : (P ++ (x :: (M2 ++ [y])) ++ S).length = P.length + M2.length + 2 + S.length := by simp; omega
      have hj : (P.length : Int) + ((x :: (M2 ++ [y])).length : Int) - 1 = ((P.length + M2.length + 1 : Nat) : Int) := by simp; omega
      rw [hj]
      have gx : (P ++ (x :: (M2 ++ [y])) ++ S).getD P.length 0 = x := by
        rw [List.append_assoc]; exact getD_at _ _ _ _
      have e1 : P ++ (x :: (M2 ++ [y])) ++ S = (P ++ x :: M2) ++ y :: S := by simp
      have l1 : (P ++ x :: M2).length = P.length + M2.length + 1 := by simp; omega
      have gy : (P ++ (x :: (M2 ++ [y])) ++ S).getD (P.length + M2.length + 1) 0 = y := by
        rw [e1, ← l1]; exact getD_at _ _ _ _
      rw [if_pos (by rw [decide_eq_true_eq]; omega), if_pos (by rw [hL]; omega), if_pos (by rw [hL]; omega), if_pos (by rw [hL]; omega), toNat_nat, toNat_nat, gx, gy]
      have s1 : (P ++ (x :: (M2 ++ [y])) ++ S).set P.length y = P ++ y :: (M2 ++ y :: S) := by
        rw [show P ++ (x :: (M2 ++ [y])) ++ S = P ++ x :: (M2 ++ y :: S) by simp]; exact swap_at _ _ _ _
      rw [s1]
      have l2 : (P ++ y :: M2).length = P.length + M2.length + 1 := by simp; omega
      have s2 : (P ++ y :: (M2 ++ y :: S)).set (P.length + M2.length + 1) x = (P ++ [y]) ++ M2 ++ (x :: S) := by
        rw [show P ++ y :: (M2 ++ y :: S) = (P ++ y :: M2) ++ y :: S by simp, ← l2, swap_at]; simp
      have hL2 : (P ++ y :: (M2 ++ y :: S)).length = P.length + M2.length + 2 + S.length := by simp; omega
      rw [if_pos (by rw [hL2]; omega), s2, wrap_i64 (x := (P.length : Int) + 1) (by omega) (by omega), wrap_i64 (x := ((P.length + M2.length + 1 : Nat) : Int) - 1) (by omega) (by omega)]
      have ih := rev_loop Xt K (m - 1) n (P ++ [y]) M2 (x :: S) (by simp at hM; omega) (by simp at hM; omega) (by simp; omega)
      have a1 : (((P ++ [y]).length : Nat) : Int) = (P.length : Int) + 1 := by simp
      have a2 : (P.length : Int) + 1 + (M2.length : Int) - 1 = ((P.length + M2.length + 1 : Nat) : Int) - 1 := by omega
      rw [a1, a2] at ih
      refine ih.trans ?_
      simp [List.append_assoc]

theorem shows_all {l : List Int} (hl : l.length = 4) (hd : digs B64 l) : basculelaw_WideShows.run l = some true := by
  obtain ⟨o, e1, e2, e3, e4⟩ := ref_of hl hd
  obtain ⟨s, k1, k2, k3, k4, k5⟩ := ref_shorn (l := o) (by omega) e3
  have hb := val_bound B64_pos hd
  rw [hl] at hb
  obtain ⟨v, hv⟩ := Int.eq_ofNat_of_zero_le hb.1
  have hv2 : v < 10 ^ 78 := by
    have h1 := hb.2
    rw [hv, show (B64 : Int) ^ 4 = ((2 ^ 256 : Nat) : Int) from rfl] at h1
    have h2 : (2 : Nat) ^ 256 < 10 ^ 78 := by decide
    omega
  have hz : s.length = 0 ↔ v = 0 := by
    constructor
    · intro e
      have := List.eq_nil_of_length_eq_zero e
      subst this
      have h0 : val B32 [] = 0 := rfl
      rw [h0, e4, hv] at k4; omega
    · intro e
      have := shorn_len k3 k5 (n := 0) (by rw [k4, e4, hv, e]; simp)
      omega
  have key : ∃ t, wide_Show.run l = some t ∧ basculeref_Decimal.run l = some t := by
    unfold wide_Show.run wide_Show.top basculeref_Decimal.run basculeref_Decimal.top
    rw [e1, Option.bind_some, k1, Option.bind_some]
    have hs := fun (Xt : List Int → Option (List Int)) (K N : Nat) (hN : 5 < N) => show_loop Xt K 5 N v l [] hN (Nat.lt_of_lt_of_le hv2 (Nat.pow_le_pow_right (by decide) (by decide))) hl hd hv (by simp)
    obtain ⟨K, hK⟩ : ∃ K, fuel = K + 100 := ⟨fuel - 100, by rw [fuel_big]⟩
    have h1 := hs (fun c45 => wide_Show.j1 fuel (fun x2 => some x2) c45) K fuel (by rw [fuel_big]; omega)
    rw [← hK, List.nil_append] at h1
    rw [h1]
    unfold wide_Show.j1
    by_cases h0 : v = 0
    · rw [h0, rdg_zero, if_pos (by rfl), if_pos (by simpa using hz.2 h0)]
      exact ⟨_, rfl, rfl⟩
    · have hlen := rdg_len 78 v hv2
      have hne : (rdg v).length ≠ 0 := by rw [rdg_pos h0]; simp
      have hsn : s.length ≠ 0 := fun e => h0 (hz.1 e)
      rw [if_neg (by simpa using hne), if_neg (by simpa using hsn)]
      have hr := rev_loop (fun c45 => wide_Show.j2 (fun x2 => some x2) c45) fuel 50 fuel [] (rdg v) [] (by omega) (by rw [fuel_big]; omega) (by simp; omega)
      rw [show ((([] : List Int).length : Nat) : Int) = 0 from rfl, Int.zero_add, List.nil_append, List.append_nil, List.nil_append, List.append_nil] at hr
      rw [wrap_i64 (by omega) (by omega), hr]
      have hd2 := dec_loop10 (fun x4 => basculeref_Decimal.j0 (fun x2 => some x2) x4) fuel 78 fuel v s [] (by rw [fuel_big]; omega) hv2 k3 (by omega) (by rw [k4, e4, hv]) hz (by simp)
      rw [hd2, List.append_nil]
      exact ⟨_, rfl, rfl⟩
  obtain ⟨t, t1, t2⟩ := key
  unfold basculelaw_WideShows.run basculelaw_WideShows.top
  rw [t1, t2, Option.bind_some, Option.bind_some, beqD_refl .str _ rfl]

theorem law_WideShows (x : (Ty.pair U256 .unit).den) (h : Fit reachK (.pair U256 .unit) x) : basculelaw_WideShows.run x.1 = some true := by
  obtain ⟨l, d⟩ := digs_of_fit h.1
  exact shows_all l d

end Go.Bx
