/- A part of a framework that reads Go code as functions of plain data; or a law about such functions. -/
import Derived.Test.YtbkkahkikjifkaaLawAt
import Derived.Test.YtbkkahkikjifkaaLawU256
import Derived.Test.YtbkkahkikjifkaaFnGuardSees1
namespace Go.Bx
open Go
set_option linter.unusedSimpArgs false
set_option linter.unusedVariables false
set_option maxRecDepth 100000
theorem ble_le {a b : Nat} (h : a <= b) : Nat.ble a b = true := Nat.ble_eq_true_of_le h
def byt (x : Int) (n : Nat) : Int := x / 2 ^ n % 256
def be (x : Int) : Nat -> List Int
 | 0 => []
 | k + 1 => byt x (8 * k) :: be x k
theorem be_len (x : Int) : ∀ k, (be x k).length = k
 | 0 => rfl
 | k + 1 => by simp [be, be_len x k]
theorem byt_rng (x : Int) (n : Nat) : 0 <= byt x n /\ byt x n < 256 := by
 unfold byt; exact ⟨Int.emod_nonneg _ (by decide), Int.emod_lt_of_pos _ (by decide)⟩
theorem be_rng (x : Int) : ∀ k, ∀ b ∈ be x k, 0 <= b /\ b < 256
 | 0, b, h => by simp [be] at h
 | k + 1, b, h => by
  simp only [be, List.mem_cons] at h
  rcases h with rfl | h
  ·exact byt_rng _ _
  ·exact be_rng x k b h
theorem byt_down (x : Int) (n : Nat) : byt (x / 256) n = byt x (n + 8) := by
 unfold byt
 rw [show (2 : Int) ^ (n + 8) = 256 * 2 ^ n by rw [Int.pow_add, Int.mul_comm]; rfl, <- Int.ediv_ediv_of_nonneg (by decide)]
theorem be_snoc (x : Int) : ∀ k, be x (k + 1) = be (x / 256) k ++ [byt x 0]
 | 0 => rfl
 | k + 1 => by
  show byt x (8 * (k + 1)) :: be x (k + 1) = byt (x / 256) (8 * k) :: be (x / 256) k ++ [byt x 0]
  rw [be_snoc x k, byt_down]; rfl
theorem u8_byt (x : Int) : IntKind.u8.wrap x = byt x 0 := by
 rw [wrap_u8_mod]; simp [byt]
theorem shr8_div (x : Int) : shrI .u64 x 8 = x / 256 := by
 show x.fdiv (2 ^ (min (8 : Int).toNat 64)) = _
 rw [Int.fdiv_eq_ediv_of_nonneg _ (by decide)]; rfl
theorem shr_byt (k : IntKind) (x : Int) (n : Nat) (h : n <= k.bits) : IntKind.u8.wrap (shrI k x (n : Int)) = byt x n := by
 rw [wrap_u8_mod]
 unfold shrI byt
 rw [show min ((n : Nat) : Int).toNat k.bits = n by simp; omega, Int.fdiv_eq_ediv_of_nonneg _ (Int.le_of_lt (Int.pow_pos (by omega)))]
theorem big_loop {α : Type} (Xt : List Int -> Option α) (K : Nat) (N : Nat) (hN : N <= 1000) : ∀ (m i n : Nat) (x : Int) (acc : List Int), m < n -> i + m = N -> acc.length <= i ->
  basculeref_big.l0 K Xt n x acc (N : Int) (i : Int) = Xt (be x m ++ acc)
 | m, i, 0, x, acc, h, _, _ => by omega
 | 0, i, n + 1, x, acc, h, hi, ha => by
  simp only [basculeref_big.l0, basculeref_big.l0s]
  rw [if_neg (by rw [decide_eq_true_eq]; omega)]; rfl
 | m + 1, i, n + 1, x, acc, h, hi, ha => by
  simp only [basculeref_big.l0, basculeref_big.l0s]
  rw [if_pos (by rw [decide_eq_true_eq]; omega), if_pos (ble_le (by omega)), i64_succ (by omega), shr8_div, u8_byt]
  refine (big_loop Xt K N hN m (i + 1) n (x / 256) _ (by omega) (by omega) (by simp; omega)).trans ?_
  rw [be_snoc, List.append_assoc]
theorem big_run (x : Int) (N : Nat) (hN : N <= 1000) : basculeref_big.run x (N : Int) = some (be x N) := by
 unfold basculeref_big.run basculeref_big.top
 refine (big_loop (fun x5 => basculeref_big.j0 (fun x4 => some x4) x5) fuel N hN N 0 fuel x [] (by rw [fuel_big]; omega) (by omega) (by simp)).trans ?_
 unfold basculeref_big.j0
 rw [List.append_nil]
theorem wu64_id {x : Int} (h : 0 <= x) (g : x < 18446744073709551616) : IntKind.u64.wrap x = x := wrap_u64 h (by omega)
theorem cutL_all {α : Type} (l : List α) (n : Int) (h : (l.length : Int) = n) : cutL l 0 n = l := by
 subst h; simp [cutL]
def pad (l : List Int) : List Int := l ++ List.replicate (32 - l.length) 0
theorem cpy_pad (l : List Int) (h : l.length <= 32) : cpyL (List.replicate 32 0) 0 32 l = pad l := by
 unfold cpyL pad
 simp only [show (0 : Int).toNat = 0 from rfl, show (32 : Int).toNat = 32 from rfl, List.take_zero, List.nil_append, Nat.sub_zero, Nat.zero_add, List.drop_replicate]
 rw [List.take_of_length_le h, Nat.min_eq_left h]
theorem set_at {α : Type} (P R : List α) (a b : α) : (P ++ a :: R).set P.length b = P ++ b :: R := by
 simp [List.set_append]
end Go.Bx
