/- A part of a framework that reads Go code as functions of plain data; or a law about such functions. -/
import Derived.Test.YtbkkahkikjifkaaDoorLawField
import Derived.Test.YtbkkahkikjifkaaDoorFnSignMakes0
namespace Go.Bx
open Go
set_option linter.unusedSimpArgs false
set_option linter.unusedVariables false
section
variable {x m : List Int} {A M : Int}
theorem pow_low (N : Int) (e : Nat) (hN : 0 <= N) (A : Int) : A ^ (N % ((2 ^ (e + 1) : Nat) : Int)).toNat = A ^ (N % ((2 ^ e : Nat) : Int)).toNat * (if N / ((2 ^ e : Nat) : Int) % 2 = 1 then A ^ (2 ^ e) else 1) := by
 have hpos : 0 < ((2 ^ e : Nat) : Int) := by have := Nat.two_pow_pos e; omega
 have e2 : ((2 ^ (e + 1) : Nat) : Int) = ((2 ^ e : Nat) : Int) * 2 := by rw [Nat.pow_succ]; simp
 have key : N % ((2 ^ (e + 1) : Nat) : Int) = N % ((2 ^ e : Nat) : Int) + ((2 ^ e : Nat) : Int) * (N / ((2 ^ e : Nat) : Int) % 2) := by
  have h1 := Int.mul_ediv_add_emod N ((2 ^ e : Nat) : Int)
  have h2 := Int.mul_ediv_add_emod N ((2 ^ (e + 1) : Nat) : Int)
  have h3 : N / ((2 ^ (e + 1) : Nat) : Int) = N / ((2 ^ e : Nat) : Int) / 2 := by rw [e2, <- Int.ediv_ediv_of_nonneg (Int.natCast_nonneg _)]
  rw [h3, e2] at h2
  have h4 : N / ((2 ^ e : Nat) : Int) = 2 * (N / ((2 ^ e : Nat) : Int) / 2) + N / ((2 ^ e : Nat) : Int) % 2 := by omega
  rw [e2]
  generalize N / ((2 ^ e : Nat) : Int) / 2 = q at *
  generalize N / ((2 ^ e : Nat) : Int) % 2 = r at *
  rw [h4, Int.mul_add, <- Int.mul_assoc] at h1
  omega
 have hr0 := Int.emod_nonneg N (show ((2 ^ e : Nat) : Int) ≠ 0 by omega)
 rw [key]
 by_cases hb : N / ((2 ^ e : Nat) : Int) % 2 = 1
 ·rw [if_pos hb, hb, Int.mul_one]
  rw [Int.toNat_add hr0 (by omega), Int.pow_add, Int.toNat_natCast]
 ·have hb0 : N / ((2 ^ e : Nat) : Int) % 2 = 0 := by omega
  rw [if_neg hb, hb0, Int.mul_zero, Int.add_zero, Int.mul_one]
theorem power_inner {α : Type} (k : Nat) (Xt : List Int -> Int -> List Int -> List Int -> List Int -> List Int -> Option α) (hx : W4 x) (hm : W4 m) (hM : 0 < val B64 m) (z : List Int) (j : Nat) (hj : j < 4) :
  ∀ (n i : Nat) (c o : List Int), 64 - i < n -> i <= 64 -> W4 c -> W4 o -> val B64 c = A ^ (2 ^ (64 * j + i)) % val B64 m -> val B64 o = A ^ (val B64 x % ((2 ^ (64 * j + i) : Nat) : Int)).toNat % val B64 m ->
  ∃ c' o', basculeref_power.l1 k Xt n (x.getD j 0) (i : Int) x (j : Int) c m z o = Xt x (j : Int) c' m z o' /\ W4 c' /\ W4 o' /\ val B64 c' = A ^ (2 ^ (64 * j + 64)) % val B64 m /\ val B64 o' = A ^ (val B64 x % ((2 ^ (64 * j + 64) : Nat) : Int)).toNat % val B64 m
 | 0, i, c, o, h, _, _, _, _, _ => by omega
 | n + 1, i, c, o, h, hi, hc, ho, vc, vo => by
  simp only [basculeref_power.l1, basculeref_power.l1s]
  by_cases hlt : i < 64
  ·rw [if_pos (by rw [decide_eq_true_eq]; omega), if_pos (by omega)]
   obtain ⟨X, hX, hX2⟩ := nat_of_dig (digs_getD B64_pos hx.2 j)
   have hbit := bit_at hx.2 (w := j) (k := i) (by omega) hX
   have hs : X >>> i < 18446744073709551616 := Nat.lt_of_le_of_lt (Nat.shiftRight_le _ _) hX2
   have hband : band .u64 (shrI .u64 (x.getD j 0) (i : Int)) 1 = val B64 x / ((2 ^ (64 * j + i) : Nat) : Int) % 2 := by
    rw [hX, shr_nat (by omega), <- hbit]
    exact band_nat (X := X >>> i) (Y := 1) hs (by omega)
   rw [hband]
   have hcl : val B64 c < val B64 m := by rw [vc]; exact Int.emod_lt_of_pos _ hM
   have hol : val B64 o < val B64 m := by rw [vo]; exact Int.emod_lt_of_pos _ hM
   obtain ⟨c2, q1, q2, q3⟩ := product_run hc hc hm hcl hcl
   have vc2 : val B64 c2 = A ^ (2 ^ (64 * j + (i + 1))) % val B64 m := by
    rw [q3, vc, <- Int.mul_emod, <- Int.pow_add, <- Nat.add_assoc, Nat.pow_succ, Nat.mul_two]
   unfold basculeref_power.j0
   have hl := pow_low (val B64 x) (64 * j + i) hx.bound.1 A
   by_cases hb : val B64 x / ((2 ^ (64 * j + i) : Nat) : Int) % 2 = 1
   ·rw [if_pos (by simpa using hb)]
    rw [if_pos hb] at hl
    obtain ⟨o2, p1, p2, p3⟩ := product_run ho hc hm hol hcl
    rw [p1, Option.bind_some, q1, Option.bind_some, i64_succ (by omega)]
    exact power_inner k Xt hx hm hM z j hj n (i + 1) c2 o2 (by omega) (by omega) q2 p2 vc2 (by
     rw [<- Nat.add_assoc, hl, p3, vo, vc, <- Int.mul_emod])
   ·rw [if_neg (by simpa using hb)]
    rw [if_neg hb, Int.mul_one] at hl
    rw [q1, Option.bind_some, i64_succ (by omega)]
    exact power_inner k Xt hx hm hM z j hj n (i + 1) c2 o (by omega) (by omega) q2 ho vc2 (by
     rw [<- Nat.add_assoc, hl, vo])
  ·have : i = 64 := by omega
   subst this
   rw [if_neg (by simp)]
   exact ⟨c, o, rfl, hc, ho, vc, vo⟩
theorem power_outer {α : Type} (k : Nat) (hk : 64 < k) (Xt : List Int -> List Int -> Option α) (hx : W4 x) (hm : W4 m) (hM : 0 < val B64 m) (z : List Int) :
  ∀ (n j : Nat) (c o : List Int), 4 - j < n -> j <= 4 -> W4 c -> W4 o -> val B64 c = A ^ (2 ^ (64 * j)) % val B64 m -> val B64 o = A ^ (val B64 x % ((2 ^ (64 * j) : Nat) : Int)).toNat % val B64 m ->
  ∃ o', basculeref_power.l0 k Xt n x (j : Int) c m z o = Xt z o' /\ W4 o' /\ val B64 o' = A ^ (val B64 x).toNat % val B64 m
 | 0, j, c, o, h, _, _, _, _, _ => by omega
 | n + 1, j, c, o, h, hj, hc, ho, vc, vo => by
  simp only [basculeref_power.l0, basculeref_power.l0s]
  by_cases hlt : j < 4
  ·rw [if_pos (by rw [decide_eq_true_eq]; omega), if_pos (by omega), toNat_nat]
   obtain ⟨c', o', e1, e2, e3, e4, e5⟩ := power_inner (A := A) k (fun (x14 : List Int) (x15 : Int) (c3 : List Int) (c5 : List Int) (c6 : List Int) (c7 : List Int) => basculeref_power.j1 (basculeref_power.l0 k Xt n) x14 x15 c3 c5 c6 c7) hx hm hM z j hlt k 0 c o (by omega) (by omega) hc ho vc vo
   have e0 : ((0 : Nat) : Int) = 0 := rfl
   rw [e0] at e1
   rw [e1]
   unfold basculeref_power.j1
   rw [i64_succ (by omega)]
   have h64 : 64 * j + 64 = 64 * (j + 1) := by omega
   rw [h64] at e4 e5
   exact power_outer k hk Xt hx hm hM z n (j + 1) c' o' (by omega) (by omega) e2 e3 e4 e5
  ·have : j = 4 := by omega
   subst this
   rw [if_neg (by simp)]
   refine ⟨o, rfl, ho, ?_⟩
   rw [vo]
   have hb := val_bound B64_pos hx.2
   rw [hx.1, pow64] at hb
   rw [Int.emod_eq_of_lt hb.1 hb.2]
theorem power_run {a : List Int} (ha : W4 a) (hx : W4 x) (hm : W4 m) (h1 : val B64 a < val B64 m) : ∃ r, basculeref_power.run a x m = some r /\ W4 r /\ val B64 r = val B64 a ^ (val B64 x).toNat % val B64 m := by
 have ba := ha.bound
 have hM : 0 < val B64 m := by omega
 obtain ⟨o, o1, o2, o3⟩ := rest_run (d := [1]) (digs1 (by omega)) (by simp) hm hM
 have v1 : val B32 [1] = 1 := rfl
 rw [v1] at o3
 unfold basculeref_power.run basculeref_power.top
 rw [o1, Option.bind_some]
 have := fun N (hN : 64 < N) => power_outer (A := val B64 a) N hN (fun (c6 : List Int) (c7 : List Int) => basculeref_power.j2 (fun (c6 : List Int) => some c6) c6 c7) hx hm hM [0, 0, 0, 0] N 0 a o (by omega) (by omega) ha o2 (by
  rw [Nat.mul_zero, Nat.pow_zero, Int.pow_succ, Int.pow_zero, Int.one_mul, Int.emod_eq_of_lt ba.1 h1]) (by
  rw [o3, Nat.mul_zero, Nat.pow_zero]; simp)
 obtain ⟨r, r1, r2, r3⟩ := this fuel (by rw [fuel_big]; omega)
 exact ⟨r, r1, r2, r3⟩
end
end Go.Bx
