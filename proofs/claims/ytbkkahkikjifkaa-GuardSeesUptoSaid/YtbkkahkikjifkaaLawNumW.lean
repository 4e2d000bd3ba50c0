/- A part of a framework that reads Go code as functions of plain data; or a law about such functions. -/
import Derived.Test.YtbkkahkikjifkaaLawFrom
import Derived.Test.YtbkkahkikjifkaaFnGuardSees1
namespace Go.Bx
open Go
set_option linter.unusedSimpArgs false
set_option linter.unusedVariables false
set_option maxRecDepth 100000
def numI (l : List Int) : Int := l.foldl (fun a b => a * 256 + b) 0
def numW (l : List Int) : Int := IntKind.i64.wrap (numI l)
theorem i64_wrap (x : Int) : IntKind.i64.wrap x = (x + 9223372036854775808) % 18446744073709551616 - 9223372036854775808 := by
 simp only [IntKind.wrap, IntKind.bits, IntKind.signed]
 simp
 try omega
theorem or_low (N b : Int) (hb : 0 <= b /\ b < 256) : bor .i64 (shlI .i64 (IntKind.i64.wrap N) 8) b = IntKind.i64.wrap (N * 256 + b) := by
 unfold bor shlI
 have e8 : (2 : Int) ^ (min (8 : Int).toNat IntKind.i64.bits) = 256 := rfl
 rw [e8]
 obtain ⟨c, rfl⟩ := Int.eq_ofNat_of_zero_le hb.1
 have hc : c < 256 := by omega
 obtain ⟨m, hm⟩ := Int.eq_ofNat_of_zero_le (show 0 <= N % 72057594037927936 by omega)
 have hm2 : m < 72057594037927936 := by omega
 have h1 : (BitVec.ofInt IntKind.i64.bits (IntKind.i64.wrap (IntKind.i64.wrap N * 256))).toNat = 2 ^ 8 * m := by
  rw [BitVec.toNat_ofInt, show (2 ^ IntKind.i64.bits : Nat) = 18446744073709551616 from rfl]
  simp only [i64_wrap]
  omega
 have h2 : (BitVec.ofInt IntKind.i64.bits ((c : Nat) : Int)).toNat = c := by
  rw [BitVec.toNat_ofInt, show (2 ^ IntKind.i64.bits : Nat) = 18446744073709551616 from rfl]
  omega
 rw [BitVec.toNat_or, h1, h2, <- Nat.two_pow_add_eq_or_of_lt (by omega : c < 2 ^ 8)]
 simp only [i64_wrap]
 omega
def Byts (l : List Int) : Prop := ∀ b ∈ l, 0 <= b /\ b < 256
theorem num_loop {α : Type} (Xt : Int -> Option α) (K : Nat) (l : List Int) (hl : l.length <= 1000) (hb : Byts l) : ∀ (R P : List Int) (n : Nat) (x : Int), R.length < n -> l = P ++ R ->
  basculeref_number.l0 K Xt n l (IntKind.u64.wrap x) (P.length : Int) = Xt (IntKind.u64.wrap (R.foldl (fun a b => a * 256 + b) x))
 | R, P, 0, x, h, _ => by omega
 | [], P, n + 1, x, h, hc => by
  simp only [basculeref_number.l0, basculeref_number.l0s]
  have : l.length = P.length := by rw [hc]; simp
  rw [if_neg (by rw [decide_eq_true_eq]; omega)]
  simp
 | y :: R, P, n + 1, x, h, hc => by
  have hlen : l.length = P.length + (R.length + 1) := by rw [hc]; simp
  simp only [basculeref_number.l0, basculeref_number.l0s]
  have hg : l.getD P.length 0 = y := by rw [hc]; exact getD_at _ _ _ _
  have hy := hb y (by rw [hc]; simp)
  rw [if_pos (by rw [decide_eq_true_eq]; omega), if_pos (by omega), i64_succ (by omega), toNat_nat, hg]
  have e : IntKind.u64.wrap ((IntKind.u64.wrap ((IntKind.u64.wrap x) * 256)) + (IntKind.u64.wrap y)) = IntKind.u64.wrap (x * 256 + y) := by
   simp only [wrap_u64_mod]; omega
  rw [e]
  have ih := num_loop Xt K l hl hb R (P ++ [y]) n (x * 256 + y) (by simpa using h) (by simp [hc])
  rw [List.length_append] at ih
  exact ih
theorem refnum_run (l : List Int) (hl : l.length <= 1000) (hb : Byts l) : basculeref_number.run l = some (numW l) := by
 unfold basculeref_number.run basculeref_number.top
 have := num_loop (fun x3 => basculeref_number.j0 (fun x2 => some x2) x3) fuel l hl hb l [] fuel 0 (by rw [fuel_big]; omega) rfl
 rw [show IntKind.u64.wrap 0 = 0 from rfl] at this
 refine Eq.trans this ?_
 unfold basculeref_number.j0 numW numI
 congr 1
 simp only [wrap_u64_mod, i64_wrap]; omega
end Go.Bx
