/- A part of a framework that reads Go code as functions of plain data; or a law about such functions. -/
import Derived.Test.YtpapikaeaodfgaaLawFrom
import Derived.Test.YtpapikaeaodfgaaFnLoadDecodes0
namespace Go.Bx
open Go
set_option linter.unusedSimpArgs false
set_option linter.unusedVariables false
set_option maxRecDepth 100000

/-! numbers out of bytes -/

/-- the number that bytes show -/
def numI (l : List Int) : Int := l.foldl (fun a b => a * 256 + b) 0
/-- as an int holds it -/
def numW (l : List Int) : Int := IntKind.i64.wrap (numI l)

theorem i64_wrap (x : Int) : IntKind.i64.wrap x = (x + 9223372036854775808) % 18446744073709551616 - 9223372036854775808 := by
  simp only [IntKind.wrap, IntKind.bits, IntKind.signed]
  simp
  try omega

theorem or_low (N b : Int) (hb : 0 ≤ b ∧ b < 256) : bor .i64 (shlI .i64 (IntKind.i64.wrap N) 8) b = IntKind.i64.wrap (N * 256 + b) := by
  unfold bor shlI
  have e8 : (2 : Int) ^ (min (8 : Int).toNat IntKind.i64.bits) = 256 := rfl
  rw [e8]
  obtain ⟨c, rfl⟩ := Int.eq_ofNat_of_zero_le hb.1
  have hc : c < 256 := by omega
  obtain ⟨m, hm⟩ := Int.eq_ofNat_of_zero_le (show 0 ≤ N % 72057594037927936 by omega)
  have hm2 : m < 72057594037927936 := by omega
  have h1 : (BitVec.ofInt IntKind.i64.bits (IntKind.i64.wrap (IntKind.i64.wrap N * 256))).toNat = 2 ^ 8 * m := by
    rw [BitVec.toNat_ofInt, show (2 ^ IntKind.i64.bits : Nat) = 18446744073709551616 from rfl]
    simp only [i64_wrap]
    omega
  have h2 : (BitVec.ofInt IntKind.i64.bits ((c : Nat) : Int)).toNat = c := by
    rw [BitVec.toNat_ofInt, show (2 ^ IntKind.i64.bits : Nat) = 18446744073709551616 from rfl]
    omega
  rw [BitVec.toNat_or, h1, h2, ← Nat.two_pow_add_eq_or_of_lt (by omega : c < 2 ^ 8)]
  simp only [i64_wrap]
  omega

theorem eye_loop {α : Type} (Xt : Int → (List Int × Bool × Unit) → Option α) (K : Nat) (c0 : List Int × Bool × Unit) (l : List Int) (hl : l.length ≤ 1000) (hb : ∀ b ∈ l, 0 ≤ b ∧ b < 256) : ∀ (R P : List Int) (n : Nat) (x : Int), R.length < n → l = P ++ R →
    paper_eye__number_s1.l0 K Xt n (IntKind.i64.wrap x) l (l.length : Int) (P.length : Int) c0 = Xt (IntKind.i64.wrap (R.foldl (fun a b => a * 256 + b) x)) c0
  | R, P, 0, x, h, _ => by omega
  | [], P, n + 1, x, h, hc => by
    simp only [paper_eye__number_s1.l0, paper_eye__number_s1.l0s]
    have : l.length = P.length := by rw [hc]; simp
    rw [if_neg (by rw [decide_eq_true_eq]; omega)]
    simp
  | y :: R, P, n + 1, x, h, hc => by
    have hlen : l.length = P.length + (R.length + 1) := by rw [hc]; simp
    simp only [paper_eye__number_s1.l0, paper_eye__number_s1.l0s]
    have hg : l.getD P.length 0 = y := by rw [hc]; exact getD_at _ _ _ _
    have hy := hb y (by rw [hc]; simp)
    rw [if_pos (by rw [decide_eq_true_eq]; omega), if_pos (by omega), i64_succ (by omega), toNat_nat, hg, wrap_i64 (x := y) (by omega) (by omega), or_low x y hy]
    have ih := eye_loop Xt K c0 l hl hb R (P ++ [y]) n (x * 256 + y) (by simpa using h) (by simp [hc])
    rw [List.length_append] at ih
    exact ih

abbrev EyeD : Type := List Int × Bool × Unit

/-- what is taken -/
def tak (n : Nat) (s : EyeD) : List Int × EyeD := if s.1.length < n then (List.replicate n 0, ([], false, ())) else (s.1.take n, (s.1.drop n, s.2))

theorem take_run (n : Nat) (hn : n ≤ 1000) (s : EyeD) : paper_eye__take_s1.run (n : Int) s = some ((tak n s).1, (tak n s).2, ()) := by
  unfold paper_eye__take_s1.run paper_eye__take_s1.top tak
  by_cases h : s.1.length < n
  · rw [if_pos (by rw [decide_eq_true_eq]; omega), if_pos ⟨by omega, rfl, fitB_small (by omega) (by omega)⟩, if_pos h]
    rfl
  · rw [if_neg (by rw [decide_eq_true_eq]; omega), if_pos (by omega), if_pos (by omega), if_neg h]
    simp only [cutL, show (0 : Int).toNat = 0 from rfl, toNat_nat, List.drop_zero, Nat.sub_zero]
    rw [List.take_of_length_le (l := s.1.drop n) (by simp)]

/-- bytes -/
def Byts (l : List Int) : Prop := ∀ b ∈ l, 0 ≤ b ∧ b < 256

theorem tak_len (n : Nat) (s : EyeD) : (tak n s).1.length = n := by
  unfold tak
  by_cases h : s.1.length < n
  · rw [if_pos h]; simp
  · rw [if_neg h]; simp; omega

theorem tak_byts (n : Nat) {s : EyeD} (h : Byts s.1) : Byts (tak n s).1 ∧ Byts (tak n s).2.1 := by
  unfold tak
  by_cases hn : s.1.length < n
  · rw [if_pos hn]
    refine ⟨fun b hb => ?_, fun b hb => by simp at hb⟩
    have := List.eq_of_mem_replicate hb; subst this; decide
  · rw [if_neg hn]
    exact ⟨fun b hb => h b (List.mem_of_mem_take hb), fun b hb => h b (List.mem_of_mem_drop hb)⟩

theorem number_run (n : Nat) (hn : n ≤ 1000) (s : EyeD) (h : Byts s.1) : paper_eye__number_s1.run (n : Int) s = some (numW (tak n s).1, (tak n s).2, ()) := by
  unfold paper_eye__number_s1.run paper_eye__number_s1.top
  rw [take_run n hn s, Option.bind_some]
  have := eye_loop (fun x5 c0 => paper_eye__number_s1.j0 (fun x4 c0 => some (x4, c0, ())) x5 c0) fuel (tak n s).2 (tak n s).1 (by rw [tak_len]; omega) (tak_byts n h).1 (tak n s).1 [] fuel 0 (by rw [fuel_big, tak_len]; omega) rfl
  rw [show IntKind.i64.wrap 0 = 0 from rfl] at this
  exact this

theorem eyeword_run (s : EyeD) : paper_eye__word_s0.run s = some ((tak 32 s).1, (tak 32 s).2, (tak 32 s).1, ()) := by
  unfold paper_eye__word_s0.run paper_eye__word_s0.top
  have := take_run 32 (by omega) s
  rw [show ((32 : Nat) : Int) = 32 from rfl] at this
  rw [this, Option.bind_some, cpy_pad _ (Nat.le_of_eq (tak_len _ _)), pad_full _ (tak_len _ _)]

/-! the reference's number -/

theorem num_loop {α : Type} (Xt : Int → Option α) (K : Nat) (l : List Int) (hl : l.length ≤ 1000) (hb : Byts l) : ∀ (R P : List Int) (n : Nat) (x : Int), R.length < n → l = P ++ R →
    basculeref_number.l0 K Xt n l (IntKind.u64.wrap x) (P.length : Int) = Xt (IntKind.u64.wrap (R.foldl (fun a b => a * 256 + b) x))
  | R, P, 0, x, h, _ => by omega
  | [], P, n + 1, x, h, hc => by
    simp only [basculeref_number.l0, basculeref_number.l0s]
    have : l.length = P.length := by rw [hc]; simp
    rw [if_neg (by rw [decide_eq_true_eq]; omega)]
    simp
  | y :: R, P, n + 1, x, h, hc => by
    have hlen : l.length = P.length + (R.length + 1) := by rw [hc]; simp
    simp only [basculeref_number.l0, basculeref_number.l0s]
    have hg : l.getD P.length 0 = y := by rw [hc]; exact getD_at _ _ _ _
    have hy := hb y (by rw [hc]; simp)
    rw [if_pos (by rw [decide_eq_true_eq]; omega), if_pos (by omega), i64_succ (by omega), toNat_nat, hg]
    have e : IntKind.u64.wrap ((IntKind.u64.wrap ((IntKind.u64.wrap x) * 256)) + (IntKind.u64.wrap y)) = IntKind.u64.wrap (x * 256 + y) := by
      simp only [wrap_u64_mod]; omega
    rw [e]
    have ih := num_loop Xt K l hl hb R (P ++ [y]) n (x * 256 + y) (by simpa using h) (by simp [hc])
    rw [List.length_append] at ih
    exact ih

theorem refnum_run (l : List Int) (hl : l.length ≤ 1000) (hb : Byts l) : basculeref_number.run l = some (numW l) := by
  unfold basculeref_number.run basculeref_number.top
  have := num_loop (fun x3 => basculeref_number.j0 (fun x2 => some x2) x3) fuel l hl hb l [] fuel 0 (by rw [fuel_big]; omega) rfl
  rw [show IntKind.u64.wrap 0 = 0 from rfl] at this
  refine Eq.trans this ?_
  unfold basculeref_number.j0 numW numI
  congr 1
  simp only [wrap_u64_mod, i64_wrap]; omega

end Go.Bx
