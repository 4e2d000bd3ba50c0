/- Laws about functions of plain data, in plain Lean. -/
import Derived.Test.YtbkkahkikjifkaaDoorLawsSignMakes0
import Derived.Test.YtbkkahkikjifkaaDoorFnSignMakes0
namespace Go.Bx
open Go
set_option linter.unusedSimpArgs false
set_option linter.unusedVariables false
theorem val_set (B : Int) : ∀ (l : List Int) (i : Nat) (v : Int), i < l.length -> val B (l.set i v) = val B l + B ^ i * (v - l.getD i 0)
 | [], i, v, h => by simp at h
 | d :: l, 0, v, _ => by simp [val, List.getD]; omega
 | d :: l, i + 1, v, h => by
  have ih := val_set B l i v (by simpa using h)
  simp only [List.set_cons_succ, val, ih, List.getD_cons_succ, Int.pow_succ]
  rw [Int.mul_add, Int.mul_comm (B ^ i) B, Int.mul_assoc, Int.add_assoc]
def tab8 : List Int := [0, 1, 2, 2, 3, 3, 3, 3, 4, 4, 4, 4, 4, 4, 4, 4, 5, 5, 5, 5, 5, 5, 5, 5, 5, 5, 5, 5, 5, 5, 5, 5, 6, 6, 6, 6, 6, 6, 6, 6, 6, 6, 6, 6, 6, 6, 6, 6, 6, 6, 6, 6, 6, 6, 6, 6, 6, 6, 6, 6, 6, 6, 6, 6, 7, 7, 7, 7, 7, 7, 7, 7, 7, 7, 7, 7, 7, 7, 7, 7, 7, 7, 7, 7, 7, 7, 7, 7, 7, 7, 7, 7, 7, 7, 7, 7, 7, 7, 7, 7, 7, 7, 7, 7, 7, 7, 7, 7, 7, 7, 7, 7, 7, 7, 7, 7, 7, 7, 7, 7, 7, 7, 7, 7, 7, 7, 7, 7, 8, 8, 8, 8, 8, 8, 8, 8, 8, 8, 8, 8, 8, 8, 8, 8, 8, 8, 8, 8, 8, 8, 8, 8, 8, 8, 8, 8, 8, 8, 8, 8, 8, 8, 8, 8, 8, 8, 8, 8, 8, 8, 8, 8, 8, 8, 8, 8, 8, 8, 8, 8, 8, 8, 8, 8, 8, 8, 8, 8, 8, 8, 8, 8, 8, 8, 8, 8, 8, 8, 8, 8, 8, 8, 8, 8, 8, 8, 8, 8, 8, 8, 8, 8, 8, 8, 8, 8, 8, 8, 8, 8, 8, 8, 8, 8, 8, 8, 8, 8, 8, 8, 8, 8, 8, 8, 8, 8, 8, 8, 8, 8, 8, 8, 8, 8, 8, 8, 8, 8, 8, 8, 8, 8, 8, 8, 8, 8]
def tabOk (n : Nat) : Bool := Nat.ble 1 ((2 : Nat) ^ (tab8.getD n 0).toNat - n) && decide (0 <= tab8.getD n 0) && decide (tab8.getD n 0 <= 8)
theorem tab_all : (List.range 256).all tabOk = true := by kernel_rfl
theorem tab_at {n : Nat} (h : n < 256) : ∃ t : Nat, tab8.getD n 0 = (t : Int) /\ t <= 8 /\ n < 2 ^ t := by
 have := List.all_eq_true.1 tab_all n (List.mem_range.2 h)
 unfold tabOk at this
 simp only [Bool.and_eq_true, decide_eq_true_eq, Nat.ble_eq] at this
 refine ⟨(tab8.getD n 0).toNat, by omega, by omega, by omega⟩
theorem u8_nat {X : Nat} (h : X < 256) : IntKind.u8.wrap (X : Int) = (X : Int) := wrap_u8 (by omega) (by omega)
theorem i64_add {a b : Nat} (h : a + b < 9223372036854775808) : IntKind.i64.wrap ((a : Int) + (b : Int)) = ((a + b : Nat) : Int) := by
 rw [wrap_i64 (by omega) (by omega)]; omega
theorem len_j2 {α : Type} (Rt : Int -> Option α) {X n : Nat} (hX : X < 256) (hn : n <= 56) : ∃ m : Nat, math_bits_Len64.j2 Rt (X : Int) (n : Int) = Rt (m : Int) /\ n <= m /\ m <= n + 8 /\ X < 2 ^ (m - n) := by
 obtain ⟨t, t1, t2, t3⟩ := tab_at hX
 refine ⟨n + t, ?_, by omega, by omega, by rw [Nat.add_sub_cancel_left]; exact t3⟩
 have hj : math_bits_Len64.j2 Rt (X : Int) (n : Int) = if 0 <= (IntKind.u8.wrap (X : Int)) /\ (IntKind.u8.wrap (X : Int)) < (256 : Int) then Rt (IntKind.i64.wrap ((n : Int) + (IntKind.i64.wrap (List.getD tab8 (Int.toNat (IntKind.u8.wrap (X : Int))) 0)))) else none := by kernel_rfl
 rw [hj, u8_nat hX, if_pos (by omega), toNat_nat, t1]
 have e : IntKind.i64.wrap (t : Int) = (t : Int) := wrap_i64 (by omega) (by omega)
 rw [e, i64_add (by omega)]
theorem shr_small {X k m : Nat} (h : X >>> k < 2 ^ m) : X < 2 ^ (k + m) := by
 rw [Nat.shiftRight_eq_div_pow] at h
 rw [Nat.pow_add]
 have := (Nat.div_lt_iff_lt_mul (Nat.two_pow_pos k)).1 h
 rw [Nat.mul_comm]; exact this
theorem len_j1 {α : Type} (Rt : Int -> Option α) {X n : Nat} (hX : X < 65536) (hn : n <= 48) : ∃ m : Nat, math_bits_Len64.j1 Rt (X : Int) (n : Int) = Rt (m : Int) /\ n <= m /\ m <= n + 16 /\ X < 2 ^ (m - n) := by
 unfold math_bits_Len64.j1
 by_cases h : X >= 256
 ·rw [if_pos (by rw [decide_eq_true_eq]; omega)]
  have e1 : shrI .u64 (X : Int) 8 = ((X >>> 8 : Nat) : Int) := shr_nat (X := X) (k := 8) (by omega)
  have e2 : IntKind.i64.wrap ((n : Int) + 8) = ((n + 8 : Nat) : Int) := i64_add (b := 8) (by omega)
  rw [e1, e2]
  obtain ⟨m, m1, m2, m3, m4⟩ := len_j2 Rt (X := X >>> 8) (n := n + 8) (by rw [Nat.shiftRight_eq_div_pow]; omega) (by omega)
  refine ⟨m, m1, by omega, by omega, ?_⟩
  have := shr_small m4
  rw [show 8 + (m - (n + 8)) = m - n by omega] at this
  exact this
 ·rw [if_neg (by rw [decide_eq_true_eq]; omega)]
  obtain ⟨m, m1, m2, m3, m4⟩ := len_j2 Rt (X := X) (n := n) (by omega) (by omega)
  exact ⟨m, m1, m2, by omega, m4⟩
theorem len_j0 {α : Type} (Rt : Int -> Option α) {X n : Nat} (hX : X < 4294967296) (hn : n <= 32) : ∃ m : Nat, math_bits_Len64.j0 Rt (X : Int) (n : Int) = Rt (m : Int) /\ n <= m /\ m <= n + 32 /\ X < 2 ^ (m - n) := by
 unfold math_bits_Len64.j0
 by_cases h : X >= 65536
 ·rw [if_pos (by rw [decide_eq_true_eq]; omega)]
  have e1 : shrI .u64 (X : Int) 16 = ((X >>> 16 : Nat) : Int) := shr_nat (X := X) (k := 16) (by omega)
  have e2 : IntKind.i64.wrap ((n : Int) + 16) = ((n + 16 : Nat) : Int) := i64_add (b := 16) (by omega)
  rw [e1, e2]
  obtain ⟨m, m1, m2, m3, m4⟩ := len_j1 Rt (X := X >>> 16) (n := n + 16) (by rw [Nat.shiftRight_eq_div_pow]; omega) (by omega)
  refine ⟨m, m1, by omega, by omega, ?_⟩
  have := shr_small m4
  rw [show 16 + (m - (n + 16)) = m - n by omega] at this
  exact this
 ·rw [if_neg (by rw [decide_eq_true_eq]; omega)]
  obtain ⟨m, m1, m2, m3, m4⟩ := len_j1 Rt (X := X) (n := n) (by omega) (by omega)
  exact ⟨m, m1, m2, by omega, m4⟩
theorem len64 {X : Nat} (hX : X < 18446744073709551616) : ∃ m : Nat, math_bits_Len64.run (X : Int) = some (m : Int) /\ m <= 64 /\ X < 2 ^ m := by
 unfold math_bits_Len64.run math_bits_Len64.top
 by_cases h : X >= 4294967296
 ·rw [if_pos (by rw [decide_eq_true_eq]; omega)]
  have e1 : shrI .u64 (X : Int) 32 = ((X >>> 32 : Nat) : Int) := shr_nat (X := X) (k := 32) (by omega)
  rw [e1]
  obtain ⟨m, m1, m2, m3, m4⟩ := len_j0 (fun (x2 : Int) => some x2) (X := X >>> 32) (n := 32) (by rw [Nat.shiftRight_eq_div_pow]; omega) (by omega)
  refine ⟨m, m1, by omega, ?_⟩
  have := shr_small m4
  rw [show 32 + (m - 32) = m by omega] at this
  exact this
 ·rw [if_neg (by rw [decide_eq_true_eq]; omega)]
  obtain ⟨m, m1, m2, m3, m4⟩ := len_j0 (fun (x2 : Int) => some x2) (X := X) (n := 0) (by omega) (by omega)
  exact ⟨m, m1, by omega, by simpa using m4⟩
theorem nat_of_dig {d : Int} (h : 0 <= d /\ d < B64) : ∃ X : Nat, d = (X : Int) /\ X < 18446744073709551616 :=
 ⟨d.toNat, by omega, by have : d < 18446744073709551616 := h.2; omega⟩
theorem pow64 (i : Nat) : B64 ^ i = ((2 ^ (64 * i) : Nat) : Int) := by
 rw [Nat.pow_mul]; simp
theorem length_loop {α : Type} (k : Nat) (Xt : Int -> Option α) (l : List Int) (hl : l.length = 4) (dl : digs B64 l) : ∀ (n i m : Nat), i <= 4 -> 4 - i < n -> m <= 64 * i -> val B64 (l.take i) < ((2 ^ m : Nat) : Int) ->
  ∃ m' : Nat, wide_length.l0 k Xt n (m : Int) l (i : Int) = Xt (m' : Int) /\ m' <= 256 /\ val B64 l < ((2 ^ m' : Nat) : Int)
 | 0, i, m, _, h, _, _ => by omega
 | n + 1, i, m, hi, h, hm, hv => by
  simp only [wide_length.l0, wide_length.l0s]
  by_cases hlt : i < 4
  ·rw [if_pos (by rw [decide_eq_true_eq]; omega), if_pos (by omega), toNat_nat]
   unfold wide_length.j0
   rw [i64_succ (by omega)]
   have ht := val_take B64 l i
   obtain ⟨X, hX, hX2⟩ := nat_of_dig (digs_getD B64_pos dl i)
   rw [hX] at ht ⊢
   by_cases h0 : X = 0
   ·subst h0
    rw [if_neg (by simp)]
    refine length_loop k Xt l hl dl n (i + 1) m (by omega) (by omega) (by omega) ?_
    rw [ht]; simpa using hv
   ·rw [if_pos (by simp; omega)]
    obtain ⟨t, t1, t2, t3⟩ := len64 hX2
    rw [t1, Option.bind_some]
    have e1 : IntKind.i64.wrap (64 * (i : Int)) = ((64 * i : Nat) : Int) := by rw [wrap_i64 (by omega) (by omega)]; omega
    rw [e1, i64_add (by omega)]
    refine length_loop k Xt l hl dl n (i + 1) (64 * i + t) (by omega) (by omega) (by omega) ?_
    have hb := (val_take_bound B64_pos dl i).2
    rw [ht]
    rw [pow64] at hb ⊢
    rw [Nat.pow_add]
    generalize 2 ^ (64 * i) = D at *
    have := Nat.mul_le_mul_left D t3
    generalize 2 ^ t = Y at *
    have e : ((D * Y : Nat) : Int) = (D : Int) * (Y : Int) := by simp
    have e' : ((D * (X + 1) : Nat) : Int) = (D : Int) * (X : Int) + (D : Int) := by rw [Nat.mul_add]; simp
    have : ((D * (X + 1) : Nat) : Int) <= ((D * Y : Nat) : Int) := Int.ofNat_le.2 this
    omega
  ·have : i = 4 := by omega
   subst this
   rw [if_neg (by simp)]
   refine ⟨m, rfl, by omega, ?_⟩
   rw [List.take_of_length_le (by omega)] at hv
   exact hv
theorem wide_length_run {l : List Int} (hl : l.length = 4) (dl : digs B64 l) : ∃ m : Nat, wide_length.run l = some (m : Int) /\ m <= 256 /\ val B64 l < ((2 ^ m : Nat) : Int) := by
 unfold wide_length.run wide_length.top
 have := fun N (hN : 4 < N) => length_loop N (fun (x3 : Int) => wide_length.j1 (fun (x2 : Int) => some x2) x3) l hl dl N 0 0 (by omega) (by omega) (by omega) (by simp [val])
 exact this fuel (by rw [fuel_big]; omega)
theorem drop_div {l : List Int} (dl : digs B64 l) (w : Nat) : val B64 l / ((2 ^ (64 * w) : Nat) : Int) = val B64 (l.drop w) := by
 by_cases hw : w <= l.length
 ·have h0 := val_ge B64 l w
  rw [Nat.min_eq_left hw] at h0
  obtain ⟨h1, h2⟩ := val_take_bound B64_pos dl w
  rw [pow64] at h0 h2
  generalize ((2 ^ (64 * w) : Nat) : Int) = D at *
  refine div_of (by omega) ?_ ?_
  ·rw [Int.mul_comm]; omega
  ·rw [Int.add_mul, Int.mul_comm]; omega
 ·rw [List.drop_eq_nil_of_le (by omega)]
  obtain ⟨h1, h2⟩ := val_bound B64_pos dl
  simp only [val]
  refine Int.ediv_eq_zero_of_lt h1 (Int.lt_of_lt_of_le h2 ?_)
  rw [<- pow64]
  exact pow_mono B64_pos (by omega)
theorem bit_at {l : List Int} (dl : digs B64 l) {w k : Nat} (hk : k < 64) {X : Nat} (hX : l.getD w 0 = (X : Int)) :
  ((X >>> k &&& 1 : Nat) : Int) = val B64 l / ((2 ^ (64 * w + k) : Nat) : Int) % 2 := by
 have e : ((2 ^ (64 * w + k) : Nat) : Int) = ((2 ^ (64 * w) : Nat) : Int) * ((2 ^ k : Nat) : Int) := by rw [Nat.pow_add]; simp
 rw [e, <- Int.ediv_ediv_of_nonneg (Int.natCast_nonneg _), drop_div dl w, val_drop B64 l w, hX]
 have hp : (2 : Nat) ^ 64 = 2 ^ k * (2 * 2 ^ (63 - k)) := by
  rw [<- Nat.mul_assoc, <- Nat.pow_succ, <- Nat.pow_add, show k + 1 + (63 - k) = 64 by omega]
 have hB : B64 = ((2 ^ k : Nat) : Int) * (2 * ((2 ^ (63 - k) : Nat) : Int)) := by
  have : B64 = ((2 ^ 64 : Nat) : Int) := rfl
  rw [this, hp]; simp
 have hpos : 0 < ((2 ^ k : Nat) : Int) := by have := Nat.two_pow_pos k; omega
 rw [hB, Int.mul_assoc, Int.add_mul_ediv_left _ _ (by omega), Int.mul_assoc, Int.add_mul_emod_self_left]
 rw [Nat.and_one_is_mod, Nat.shiftRight_eq_div_pow]
 omega
theorem split64 (i : Nat) : 64 * (i / 64) + i % 64 = i := by omega
theorem wide_bit_run {l : List Int} (hl : l.length = 4) (dl : digs B64 l) {i : Nat} (hi : i < 256) : wide_bit.run l (i : Int) = some (val B64 l / ((2 ^ i : Nat) : Int) % 2) := by
 unfold wide_bit.run wide_bit.top
 have e1 : IntKind.i64.wrap (Int.tdiv (i : Int) 64) = ((i / 64 : Nat) : Int) := i64_tdiv (c := 64) (by omega)
 have e2 : Int.tmod (i : Int) 64 = ((i % 64 : Nat) : Int) := tmod_nat i 64
 rw [e1, e2, if_pos (by omega), if_pos (by omega), toNat_nat]
 obtain ⟨X, hX, hX2⟩ := nat_of_dig (digs_getD B64_pos dl (i / 64))
 have hb := bit_at dl (w := i / 64) (k := i % 64) (by omega) hX
 rw [hX, shr_nat (by omega)]
 have hs : X >>> (i % 64) < 18446744073709551616 := Nat.lt_of_le_of_lt (Nat.shiftRight_le _ _) hX2
 have := band_nat (X := X >>> (i % 64)) (Y := 1) hs (by omega)
 rw [split64] at hb
 rw [<- hb]
 exact congrArg some this
theorem bor_add {X k b : Nat} (hX : X < 18446744073709551616) (hb : b < 2 ^ k) (hk : k <= 64) (h0 : X % 2 ^ k = 0) : bor .u64 (X : Int) (b : Int) = ((X + b : Nat) : Int) := by
 have hb64 : b < 18446744073709551616 := Nat.lt_of_lt_of_le hb (by have := Nat.pow_le_pow_right (n := 2) (by omega) hk; simpa using this)
 rw [bor_nat hX hb64]
 have hd := Nat.div_add_mod X (2 ^ k)
 rw [h0, Nat.add_zero] at hd
 have := Nat.two_pow_add_eq_or_of_lt hb (X / 2 ^ k)
 rw [hd] at this
 rw [<- this]
theorem set_bit {q : List Int} (hq : q.length = 4) (dq : digs B64 q) {i : Nat} (hi : i < 256) {Q : Int} (hQ : val B64 q = Q * ((2 ^ (i + 1) : Nat) : Int)) :
  ∃ v, bor .u64 (q.getD (i / 64) 0) (shlI .u64 1 ((i % 64 : Nat) : Int)) = v /\ (0 <= v /\ v < B64) /\ val B64 (q.set (i / 64) v) = (2 * Q + 1) * ((2 ^ i : Nat) : Int) := by
 obtain ⟨X, hX, hX2⟩ := nat_of_dig (digs_getD B64_pos dq (i / 64))
 have hk : i % 64 < 64 := by omega
 have hD : val B64 q = ((2 ^ (64 * (i / 64)) : Nat) : Int) * (((2 ^ (i % 64 + 1) : Nat) : Int) * Q) := by
  rw [hQ, Int.mul_comm, <- Int.mul_assoc]
  congr 1
  have : 64 * (i / 64) + (i % 64 + 1) = i + 1 := by omega
  rw [<- this, Nat.pow_add]; simp
 have hpos : 0 < ((2 ^ (64 * (i / 64)) : Nat) : Int) := by have := Nat.two_pow_pos (64 * (i / 64)); omega
 have hdr := drop_div dq (i / 64)
 rw [hD, Int.mul_ediv_cancel_left _ (by omega)] at hdr
 rw [val_drop B64 q (i / 64), hX] at hdr
 have hB : B64 = ((2 ^ (i % 64 + 1) : Nat) : Int) * ((2 ^ (63 - i % 64) : Nat) : Int) := by
  have h64 : (2 : Nat) ^ 64 = 2 ^ (i % 64 + 1) * 2 ^ (63 - i % 64) := by rw [<- Nat.pow_add, show i % 64 + 1 + (63 - i % 64) = 64 by omega]
  have : B64 = ((2 ^ 64 : Nat) : Int) := rfl
  rw [this, h64, Int.natCast_mul]
 have hmod : X % 2 ^ (i % 64 + 1) = 0 := by
  have hdr : ((2 ^ (i % 64 + 1) : Nat) : Int) * Q = (X : Int) + ((2 ^ (i % 64 + 1) : Nat) : Int) * (((2 ^ (63 - i % 64) : Nat) : Int) * val B64 (q.drop (i / 64 + 1))) := by
   rw [<- Int.mul_assoc, <- hB]; exact hdr
  have : (X : Int) = ((2 ^ (i % 64 + 1) : Nat) : Int) * (Q - ((2 ^ (63 - i % 64) : Nat) : Int) * val B64 (q.drop (i / 64 + 1))) := by
   rw [Int.mul_sub]
   omega
  have h2 : (X : Int) % ((2 ^ (i % 64 + 1) : Nat) : Int) = 0 := by rw [this]; exact Int.mul_emod_right _ _
  have h3 : ((X % 2 ^ (i % 64 + 1) : Nat) : Int) = 0 := by rw [<- h2]; rfl
  omega
 have hlt : 2 ^ (i % 64) < 2 ^ (i % 64 + 1) := by rw [Nat.pow_succ]; have := Nat.two_pow_pos (i % 64); omega
 have hv := bor_add hX2 hlt (by omega) hmod
 have hsum : X + 2 ^ (i % 64) < 18446744073709551616 := by
  have h64 : (2 : Nat) ^ 64 = 2 ^ (i % 64 + 1) * 2 ^ (63 - i % 64) := by rw [<- Nat.pow_add, show i % 64 + 1 + (63 - i % 64) = 64 by omega]
  have hd := Nat.div_add_mod X (2 ^ (i % 64 + 1))
  rw [hmod, Nat.add_zero] at hd
  have h1 : X / 2 ^ (i % 64 + 1) < 2 ^ (63 - i % 64) := by
   rw [Nat.div_lt_iff_lt_mul (Nat.two_pow_pos _), Nat.mul_comm, <- h64]; simpa using hX2
  have h2 := Nat.mul_le_mul_left (2 ^ (i % 64 + 1)) h1
  rw [<- h64, Nat.succ_eq_add_one, Nat.mul_add, hd, Nat.mul_one] at h2
  have h3 : (2 : Nat) ^ 64 = 18446744073709551616 := rfl
  omega
 refine ⟨((X + 2 ^ (i % 64) : Nat) : Int), ?_, ⟨by omega, by simp only [B64]; omega⟩, ?_⟩
 ·rw [hX, shl1_nat hk, hv]
 ·rw [val_set B64 q _ _ (by omega), hX, pow64, hQ]
  have e : ((2 ^ i : Nat) : Int) = ((2 ^ (64 * (i / 64)) : Nat) : Int) * ((2 ^ (i % 64) : Nat) : Int) := by
   rw [<- Int.natCast_mul, <- Nat.pow_add, split64]
  have e2 : ((2 ^ (i + 1) : Nat) : Int) = ((2 ^ i : Nat) : Int) * 2 := by rw [Nat.pow_succ]; simp
  rw [e2, Int.natCast_add, show (X : Int) + ((2 ^ (i % 64) : Nat) : Int) - (X : Int) = ((2 ^ (i % 64) : Nat) : Int) by omega, <- e, Int.add_mul, Int.one_mul]
  congr 1
  rw [Int.mul_comm ((2 ^ i : Nat) : Int) 2, <- Int.mul_assoc, Int.mul_comm Q 2]
theorem set_low {y : List Int} (hy : y.length = 4) (dy : digs B64 y) (he : val B64 y % 2 = 0) {b : Int} (hb : b = 0 \/ b = 1) :
  (y.set 0 (bor .u64 (y.getD 0 0) b)).length = 4 /\ digs B64 (y.set 0 (bor .u64 (y.getD 0 0) b)) /\ val B64 (y.set 0 (bor .u64 (y.getD 0 0) b)) = val B64 y + b := by
 obtain ⟨X, hX, hX2⟩ := nat_of_dig (digs_getD B64_pos dy 0)
 have h0 : X % 2 ^ 1 = 0 := by
  have := val_drop B64 y 0
  rw [List.drop_zero, hX] at this
  rw [this] at he
  have : (18446744073709551616 : Int) * val B64 (y.drop (0 + 1)) % 2 = 0 := by omega
  simp only [B64] at he
  omega
 have key : bor .u64 (X : Int) b = (X : Int) + b := by
  rcases hb with rfl | rfl
  ·have := bor_add (b := 0) hX2 (by omega) (k := 1) (by omega) h0
   simpa using this
  ·have := bor_add (b := 1) hX2 (by omega) (k := 1) (by omega) h0
   simpa using this
 rw [hX, key]
 refine ⟨by simpa using hy, digs_set 0 dy ⟨by omega, by simp only [B64]; omega⟩, ?_⟩
 rw [val_set B64 y 0 _ (by omega), hX]
 simp; omega
theorem mod_loop {α : Type} (k : Nat) (Xt : List Int -> List Int -> Option α) (a b : List Int) (ha : a.length = 4) (da : digs B64 a) (hb : b.length = 4) (db : digs B64 b) (hV : 0 < val B64 b) :
  ∀ (n i : Nat) (q r : List Int) (Q : Int), i < n -> i <= 256 -> q.length = 4 -> digs B64 q -> r.length = 4 -> digs B64 r -> val B64 q = Q * ((2 ^ i : Nat) : Int) -> val B64 a / ((2 ^ i : Nat) : Int) = val B64 b * Q + val B64 r -> val B64 r < val B64 b ->
  ∃ q' r', wide_DivMod.l0 k Xt n ((i : Int) - 1) a b q r = Xt q' r' /\ q'.length = 4 /\ digs B64 q' /\ r'.length = 4 /\ digs B64 r' /\ val B64 a = val B64 b * val B64 q' + val B64 r' /\ val B64 r' < val B64 b
 | 0, i, _, _, _, h, _, _, _, _, _, _, _, _ => by omega
 | n + 1, 0, q, r, Q, h, hi, hq, dq, hr, dr, hQ, hN, hlt => by
  refine ⟨q, r, ?_, hq, dq, hr, dr, ?_, hlt⟩
  ·simp only [wide_DivMod.l0, wide_DivMod.l0s]
   rw [if_neg (by simp)]
  ·rw [hQ]; simpa using hN
 | n + 1, i + 1, q, r, Q, h, hi, hq, dq, hr, dr, hQ, hN, hlt => by
  simp only [wide_DivMod.l0, wide_DivMod.l0s]
  have ei : ((i + 1 : Nat) : Int) - 1 = (i : Int) := by omega
  rw [ei, if_pos (by rw [decide_eq_true_eq]; omega)]
  obtain ⟨y, o, y1, y2, y3, y4, y5⟩ := wide_add hr hr dr dr
  rw [y1, Option.bind_some, wide_bit_run ha da (by omega), Option.bind_some]
  have hNi : val B64 a / ((2 ^ i : Nat) : Int) = 2 * (val B64 a / ((2 ^ (i + 1) : Nat) : Int)) + val B64 a / ((2 ^ i : Nat) : Int) % 2 := by
   have e2 : ((2 ^ (i + 1) : Nat) : Int) = ((2 ^ i : Nat) : Int) * 2 := by rw [Nat.pow_succ]; simp
   rw [e2, <- Int.ediv_ediv_of_nonneg (Int.natCast_nonneg _)]
   omega
  have hb2 : val B64 a / ((2 ^ i : Nat) : Int) % 2 = 0 \/ val B64 a / ((2 ^ i : Nat) : Int) % 2 = 1 := by omega
  rw [hN] at hNi
  generalize val B64 a / ((2 ^ i : Nat) : Int) % 2 = bt at *
  have he : val B64 y % 2 = 0 := by rw [y4]; simp only [M256]; omega
  obtain ⟨z1, z2, z3⟩ := set_low y2 y3 he hb2
  generalize hz : y.set 0 (bor .u64 (y.getD 0 0) bt) = z at *
  have hbb := val4_bound hb db
  have hrb := val4_bound hr dr
  have hzb := val4_bound z1 z2
  obtain ⟨s, o2, s1, s2, s3, s4, s5⟩ := wide_sub z1 hb z2 db
  have ew : IntKind.i64.wrap ((i : Int) - 1) = (i : Int) - 1 := wrap_i64 (by omega) (by omega)
  have e1 : IntKind.i64.wrap (Int.tdiv (i : Int) 64) = ((i / 64 : Nat) : Int) := i64_tdiv (c := 64) (by omega)
  have e2 : Int.tmod (i : Int) 64 = ((i % 64 : Nat) : Int) := tmod_nat i 64
  obtain ⟨v, v1, v2, v3⟩ := set_bit hq dq (by omega) hQ
  have hQ2 : val B64 q = (2 * Q) * ((2 ^ i : Nat) : Int) := by
   have e2 : ((2 ^ (i + 1) : Nat) : Int) = ((2 ^ i : Nat) : Int) * 2 := by rw [Nat.pow_succ]; simp
   rw [hQ, e2, Int.mul_comm ((2 ^ i : Nat) : Int) 2, <- Int.mul_assoc, Int.mul_comm Q 2]
  have cmp : (if (o == false) = true then wide_Cmp.run z b else some 0).bind (fun y4 => some (cond o true (decide (y4 >= 0)))) = some (decide (2 * val B64 r + bt >= val B64 b)) := by
   cases o with
   | true =>
    have := y5.1 rfl
    rw [if_neg (by simp), Option.bind_some]
    have : decide (2 * val B64 r + bt >= val B64 b) = true := by rw [decide_eq_true_eq]; omega
    rw [this]; rfl
   | false =>
    have hno : ¬ (M256 <= val B64 r + val B64 r) := fun h => by have := y5.2 h; simp at this
    have hy : val B64 y = val B64 r + val B64 r := by rw [y4]; exact Int.emod_eq_of_lt (by omega) (by omega)
    rw [if_pos (show (false == false) = true from rfl), wide_cmp z1 hb z2 db, Option.bind_some]
    congr 1
    simp only [cond_false]
    rw [z3, hy]
    by_cases c1 : val B64 r + val B64 r + bt < val B64 b
    ·rw [if_pos c1]
     have : decide (2 * val B64 r + bt >= val B64 b) = false := by rw [decide_eq_false_iff_not]; omega
     rw [this]; rfl
    ·rw [if_neg c1]
     have : decide (2 * val B64 r + bt >= val B64 b) = true := by rw [decide_eq_true_eq]; omega
     rw [this]
     split <;> rfl
  obtain ⟨w, w1, w2⟩ := Option.bind_eq_some_iff.1 cmp
  rw [w1, Option.bind_some]
  have w2 := Option.some.inj w2
  rw [w2]
  unfold wide_DivMod.j0
  rw [ew, e1, e2, toNat_nat]
  by_cases hc : 2 * val B64 r + bt >= val B64 b
  ·rw [if_pos (by rw [decide_eq_true_eq]; exact hc), s1, Option.bind_some, if_pos (by omega), if_pos (by omega), if_pos (by omega), v1]
   have hsv : val B64 s = 2 * val B64 r + bt - val B64 b := by
    rw [s4, z3, y4]
    simp only [M256] at *
    omega
   refine mod_loop k Xt a b ha da hb db hV n i (q.set (i / 64) v) s (2 * Q + 1) (by omega) (by omega) (by simpa using hq) (digs_set _ dq v2) s2 s3 v3 ?_ (by omega)
   rw [Int.mul_add, Int.mul_one, Int.mul_comm 2 Q, <- Int.mul_assoc]
   omega
  ·rw [if_neg (by rw [decide_eq_true_eq]; exact hc)]
   have hzv : val B64 z = 2 * val B64 r + bt := by
    rw [z3, y4]
    simp only [M256] at *
    omega
   refine mod_loop k Xt a b ha da hb db hV n i q z (2 * Q) (by omega) (by omega) hq dq z1 z2 hQ2 ?_ (by omega)
   rw [Int.mul_comm 2 Q, <- Int.mul_assoc]
   omega
theorem zero4 {l : List Int} (hl : l.length = 4) (dl : digs B64 l) (h : l ≠ [0, 0, 0, 0]) : 0 < val B64 l := by
 have := (val_bound B64_pos dl).1
 rcases Int.lt_or_eq_of_le this with h' | h'
 ·exact h'
 ·exfalso; apply h
  exact words_eq hl rfl dl (fun d hd => by
   simp only [List.mem_cons, List.not_mem_nil, or_false] at hd
   simp only [B64]; omega) (by rw [<- h']; rfl)
theorem dz4 : digs B64 [0, 0, 0, 0] := fun d hd => by
 simp only [List.mem_cons, List.not_mem_nil, or_false] at hd
 simp only [B64]; omega
theorem wide_divmod {a b : List Int} (ha : a.length = 4) (da : digs B64 a) (hb : b.length = 4) (db : digs B64 b) :
  ∃ q r, wide_DivMod.run a b = some (q, r, (if b = [0, 0, 0, 0] then 7 else 0), ()) /\ q.length = 4 /\ digs B64 q /\ r.length = 4 /\ digs B64 r /\
   val B64 q = (if b = [0, 0, 0, 0] then 0 else val B64 a / val B64 b) /\ val B64 r = (if b = [0, 0, 0, 0] then 0 else val B64 a % val B64 b) := by
 unfold wide_DivMod.run wide_DivMod.top
 rw [beqD_dec (.arr 4 (.int .u64)) b [0, 0, 0, 0] rfl]
 by_cases h0 : b = [0, 0, 0, 0]
 ·simp only [if_pos h0]
  rw [if_pos (by simpa using h0)]
  exact ⟨_, _, rfl, rfl, dz4, rfl, dz4, rfl, rfl⟩
 ·simp only [if_neg h0]
  rw [if_neg (by simpa using h0)]
  obtain ⟨m, m1, m2, m3⟩ := wide_length_run ha da
  have hV := zero4 hb db h0
  have ew : IntKind.i64.wrap ((m : Int) - 1) = (m : Int) - 1 := wrap_i64 (by omega) (by omega)
  rw [m1, Option.bind_some, ew]
  have hv0 : val B64 [0, 0, 0, 0] = 0 := rfl
  have := fun N (hN : m < N) => mod_loop N (fun (c4 : List Int) (c5 : List Int) => wide_DivMod.j1 (fun (x6 : Int) (c4 : List Int) (c5 : List Int) => some (c4, c5, x6, ())) c4 c5) a b ha da hb db hV N m [0, 0, 0, 0] [0, 0, 0, 0] 0 hN m2 rfl dz4 rfl dz4 (by rw [hv0, Int.zero_mul]) (by
   rw [hv0, Int.mul_zero]
   exact Int.ediv_eq_zero_of_lt (val_bound B64_pos da).1 m3) (by rw [hv0]; exact hV)
  obtain ⟨q, r, e1, e2, e3, e4, e5, e6, e7⟩ := this fuel (by rw [fuel_big]; omega)
  have hr0 := (val_bound B64_pos e5).1
  have hq : val B64 a / val B64 b = val B64 q := div_of hV (by rw [Int.mul_comm]; omega) (by rw [Int.add_mul, Int.mul_comm]; omega)
  refine ⟨q, r, Eq.trans e1 rfl, e2, e3, e4, e5, hq.symm, ?_⟩
  have := Int.mul_ediv_add_emod (val B64 a) (val B64 b)
  rw [hq] at this
  omega
end Go.Bx
namespace Go.Bx
open Go
set_option linter.unusedSimpArgs false
set_option linter.unusedVariables false
theorem quotient_both {a b : List Int} (ha : a.length = 4) (da : digs B64 a) (hb : b.length = 4) (db : digs B64 b) :
  ∃ q r, wide_DivMod.run a b = some (q, r, (if b = [0, 0, 0, 0] then 7 else 0), ()) /\ basculeref_Quotient.run a b = some (q, r, (if b = [0, 0, 0, 0] then 7 else 0), ()) /\ q.length = 4 /\ digs B64 q /\ r.length = 4 /\ digs B64 r /\
   val B64 q = (if b = [0, 0, 0, 0] then 0 else val B64 a / val B64 b) /\ val B64 r = (if b = [0, 0, 0, 0] then 0 else val B64 a % val B64 b) := by
 obtain ⟨q, r, e1, e2, e3, e4, e5, e6, e7⟩ := wide_divmod ha da hb db
 refine ⟨q, r, e1, ?_, e2, e3, e4, e5, e6, e7⟩
 unfold basculeref_Quotient.run basculeref_Quotient.top
 rw [beqD_dec (.arr 4 (.int .u64)) b [0, 0, 0, 0] rfl]
 by_cases h0 : b = [0, 0, 0, 0]
 ·simp only [if_pos h0] at e6 e7 ⊢
  rw [if_pos (by simpa using h0)]
  rw [words_eq e2 rfl e3 dz4 (by rw [e6]; rfl), words_eq e4 rfl e5 dz4 (by rw [e7]; rfl)]
 ·simp only [if_neg h0] at e6 e7 ⊢
  rw [if_neg (by simpa using h0)]
  obtain ⟨x, x1, x2, x3, x4⟩ := ref_of ha da
  obtain ⟨y, y1, y2, y3, y4⟩ := ref_of hb db
  have hV := zero4 hb db h0
  obtain ⟨s, t, s1, s2, s3, s4, s5, s6, s7⟩ := ref_divided x3 y3 (by omega) (by omega) (by omega)
  obtain ⟨w, f, w1, w2, w3, w4, _⟩ := ref_wide s3 (by omega)
  obtain ⟨v, g, v1, v2, v3, v4, _⟩ := ref_wide s4 (by omega)
  rw [x1, Option.bind_some, y1, Option.bind_some, s1, Option.bind_some]
  unfold basculeref_cut.run basculeref_cut.top
  rw [w1, Option.bind_some, Option.bind_some, v1, Option.bind_some, Option.bind_some]
  have hab := val4_bound ha da
  have hbb := val4_bound hb db
  rw [x4, y4] at s6 s7
  have q1 : 0 <= val B64 a / val B64 b := Int.ediv_nonneg hab.1 (by omega)
  have q2 : val B64 a / val B64 b <= val B64 a := Int.ediv_le_self _ hab.1
  have r1 := Int.emod_nonneg (val B64 a) (show val B64 b ≠ 0 by omega)
  have r2 := Int.emod_lt_of_pos (val B64 a) hV
  have hw : val B64 w = val B64 q := by
   rw [w4, s6, e6]; exact Int.emod_eq_of_lt q1 (Int.lt_of_le_of_lt q2 hab.2)
  have hv : val B64 v = val B64 r := by
   rw [v4, s7, e7]; exact Int.emod_eq_of_lt r1 (Int.lt_trans r2 hbb.2)
  rw [words_eq w2 e2 w3 e3 hw, words_eq v2 e4 v3 e5 hv]
end Go.Bx
namespace Go.Bx
open Go
set_option linter.unusedSimpArgs false
set_option linter.unusedVariables false
def W4 (l : List Int) : Prop := l.length = 4 /\ digs B64 l
theorem W4.bound {l : List Int} (h : W4 l) : 0 <= val B64 l /\ val B64 l < M256 := val4_bound h.1 h.2
theorem W4.eq {l m : List Int} (h : W4 l) (g : W4 m) (e : val B64 l = val B64 m) : l = m := words_eq h.1 g.1 h.2 g.2 e
theorem W4.zero : W4 [0, 0, 0, 0] := ⟨rfl, dz4⟩
theorem val_zero4 : val B64 [0, 0, 0, 0] = 0 := rfl
theorem W4.ne {m : List Int} (h : W4 m) : m ≠ [0, 0, 0, 0] ↔ 0 < val B64 m := by
 constructor
 ·exact zero4 h.1 h.2
 ·rintro g rfl
  rw [val_zero4] at g; omega
theorem emod_two {x m : Int} (h0 : 0 <= x) (h1 : x < 2 * m) : x % m = if x < m then x else x - m := by
 split
 ·rename_i h; exact Int.emod_eq_of_lt h0 h
 ·rename_i h
  rw [<- Int.sub_emod_right]
  exact Int.emod_eq_of_lt (by omega) (by omega)
theorem emod_neg {x m : Int} (h0 : -m < x) (h1 : x < m) : x % m = if x < 0 then x + m else x := by
 split
 ·rename_i h
  rw [<- Int.add_emod_right]
  exact Int.emod_eq_of_lt (by omega) (by omega)
 ·rename_i h; exact Int.emod_eq_of_lt (by omega) h1
theorem field_add_run {a b m : List Int} (ha : W4 a) (hb : W4 b) (hm : W4 m) (h1 : val B64 a < val B64 m) (h2 : val B64 b < val B64 m) :
  ∃ r, field_add.run a b m = some r /\ W4 r /\ val B64 r = (val B64 a + val B64 b) % val B64 m := by
 unfold field_add.run field_add.top
 obtain ⟨r, o, e1, n1, d1, v1, f1⟩ := wide_add ha.1 hb.1 ha.2 hb.2
 rw [e1, Option.bind_some]
 have ba := ha.bound
 have bb := hb.bound
 have bm := hm.bound
 have br := val4_bound n1 d1
 have cmp : (if (o == false) = true then wide_Cmp.run r m else some 0).bind (fun y => some (cond o true (decide (y >= 0)))) = some (decide (val B64 a + val B64 b >= val B64 m)) := by
  cases o with
  | true =>
   have := f1.1 rfl
   have : decide (val B64 a + val B64 b >= val B64 m) = true := by rw [decide_eq_true_eq]; omega
   rw [this]; rfl
  | false =>
   have hno : ¬ (M256 <= val B64 a + val B64 b) := fun h => by have := f1.2 h; simp at this
   have hr : val B64 r = val B64 a + val B64 b := by rw [v1]; exact Int.emod_eq_of_lt (by omega) (by omega)
   rw [if_pos (show (false == false) = true from rfl), wide_cmp n1 hm.1 d1 hm.2, Option.bind_some, hr]
   by_cases hc : val B64 a + val B64 b < val B64 m
   ·rw [if_pos hc]
    have : decide (val B64 a + val B64 b >= val B64 m) = false := by rw [decide_eq_false_iff_not]; omega
    rw [this]; rfl
   ·rw [if_neg hc]
    have : decide (val B64 a + val B64 b >= val B64 m) = true := by rw [decide_eq_true_eq]; omega
    rw [this]
    split <;> rfl
 obtain ⟨w, w1, w2⟩ := Option.bind_eq_some_iff.1 cmp
 rw [w1, Option.bind_some, Option.some.inj w2, emod_two (by omega) (by omega)]
 by_cases hc : val B64 a + val B64 b >= val B64 m
 ·rw [if_pos (by rw [decide_eq_true_eq]; exact hc), if_neg (by omega)]
  obtain ⟨s, o2, s1, s2, s3, s4, s5⟩ := wide_sub n1 hm.1 d1 hm.2
  rw [s1, Option.bind_some]
  refine ⟨s, rfl, ⟨s2, s3⟩, ?_⟩
  rw [s4, v1]
  simp only [M256] at *
  omega
 ·rw [if_neg (by rw [decide_eq_true_eq]; exact hc), if_pos (by omega)]
  refine ⟨r, rfl, ⟨n1, d1⟩, ?_⟩
  rw [v1]; exact Int.emod_eq_of_lt (by omega) (by omega)
theorem field_sub_run {a b m : List Int} (ha : W4 a) (hb : W4 b) (hm : W4 m) (h1 : val B64 a < val B64 m) (h2 : val B64 b < val B64 m) :
  ∃ r, field_sub.run a b m = some r /\ W4 r /\ val B64 r = (val B64 a - val B64 b) % val B64 m := by
 unfold field_sub.run field_sub.top
 obtain ⟨r, o, e1, n1, d1, v1, f1⟩ := wide_sub ha.1 hb.1 ha.2 hb.2
 rw [e1, Option.bind_some]
 have ba := ha.bound
 have bb := hb.bound
 have bm := hm.bound
 rw [emod_neg (by omega) (by omega)]
 by_cases ho : o = true
 ·have := f1.1 ho
  rw [if_pos ho, if_pos (by omega)]
  obtain ⟨s, o2, s1, s2, s3, s4, s5⟩ := wide_add n1 hm.1 d1 hm.2
  rw [s1, Option.bind_some]
  refine ⟨s, rfl, ⟨s2, s3⟩, ?_⟩
  rw [s4, v1]
  simp only [M256] at *
  omega
 ·have hno : ¬ val B64 a < val B64 b := fun h => ho (f1.2 h)
  rw [if_neg ho, if_neg (by omega)]
  refine ⟨r, rfl, ⟨n1, d1⟩, ?_⟩
  rw [v1]; exact Int.emod_eq_of_lt (by omega) (by omega)
theorem cut_run {l : List Int} (hd : digs B32 l) (hl : l.length <= 1000000) : ∃ w, basculeref_cut.run l = some w /\ W4 w /\ val B64 w = val B32 l % M256 := by
 obtain ⟨w, f, e1, e2, e3, e4, _⟩ := ref_wide hd hl
 unfold basculeref_cut.run basculeref_cut.top
 rw [e1, Option.bind_some]
 exact ⟨w, rfl, ⟨e2, e3⟩, e4⟩
theorem rest_run {d m : List Int} (hd : digs B32 d) (hl : d.length <= 1000) (hm : W4 m) (h0 : 0 < val B64 m) : ∃ r, basculeref_rest.run d m = some r /\ W4 r /\ val B64 r = val B32 d % val B64 m := by
 obtain ⟨y, y1, y2, y3, y4⟩ := ref_of hm.1 hm.2
 obtain ⟨q, r, e1, _, _, e4, e5, _, e7⟩ := ref_divided hd y3 hl (by omega) (by omega)
 obtain ⟨w, w1, w2, w3⟩ := cut_run e4 (by omega)
 unfold basculeref_rest.run basculeref_rest.top
 rw [y1, Option.bind_some, e1, Option.bind_some, w1, Option.bind_some]
 refine ⟨w, rfl, w2, ?_⟩
 rw [w3, e7, y4]
 have := Int.emod_nonneg (val B32 d) (show val B64 m ≠ 0 by omega)
 have := Int.emod_lt_of_pos (val B32 d) h0
 have := hm.bound
 exact Int.emod_eq_of_lt (by omega) (by omega)
theorem total_run {a b m : List Int} (ha : W4 a) (hb : W4 b) (hm : W4 m) (h0 : 0 < val B64 m) : ∃ r, basculeref_total.run a b m = some r /\ W4 r /\ val B64 r = (val B64 a + val B64 b) % val B64 m := by
 obtain ⟨x, x1, x2, x3, x4⟩ := ref_of ha.1 ha.2
 obtain ⟨y, y1, y2, y3, y4⟩ := ref_of hb.1 hb.2
 obtain ⟨p, p1, p2, p3, p4⟩ := ref_plus x3 y3 (by omega) (by omega)
 obtain ⟨r, r1, r2, r3⟩ := rest_run p3 (by omega) hm h0
 unfold basculeref_total.run basculeref_total.top
 rw [x1, Option.bind_some, y1, Option.bind_some, p1, Option.bind_some, r1, Option.bind_some]
 exact ⟨r, rfl, r2, by rw [r3, p4, x4, y4]⟩
theorem opposite_run {a m : List Int} (ha : W4 a) (hm : W4 m) (h1 : val B64 a < val B64 m) : ∃ r, basculeref_opposite.run a m = some r /\ W4 r /\ val B64 r = (- val B64 a) % val B64 m := by
 unfold basculeref_opposite.run basculeref_opposite.top
 rw [beqD_dec (.arr 4 (.int .u64)) a [0, 0, 0, 0] rfl]
 have ba := ha.bound
 by_cases hz : a = [0, 0, 0, 0]
 ·rw [if_pos (by simpa using hz)]
  refine ⟨a, rfl, ha, ?_⟩
  rw [hz, val_zero4]; simp
 ·rw [if_neg (by simpa using hz)]
  have hpos := ha.ne.1 hz
  obtain ⟨x, x1, x2, x3, x4⟩ := ref_of ha.1 ha.2
  obtain ⟨y, y1, y2, y3, y4⟩ := ref_of hm.1 hm.2
  obtain ⟨q, q1, q2, q3, q4⟩ := ref_less_any y3 x3 (by omega) (by omega)
  obtain ⟨w, w1, w2, w3⟩ := cut_run q3 (by omega)
  rw [y1, Option.bind_some, x1, Option.bind_some, q1, Option.bind_some, w1, Option.bind_some]
  refine ⟨w, rfl, w2, ?_⟩
  have bm := hm.bound
  rw [w3, q4, x4, y4, emod_neg (x := - val B64 a) (m := val B64 m) (by omega) (by omega), if_pos (by omega)]
  rw [Int.emod_eq_of_lt (by omega) (by omega)]; omega
theorem bor_zero {a b : Int} (ha : 0 <= a /\ a < B64) (hb : 0 <= b /\ b < B64) : (0 <= bor .u64 a b /\ bor .u64 a b < B64) /\ (bor .u64 a b = 0 ↔ a = 0 /\ b = 0) := by
 obtain ⟨X, rfl, hX⟩ := nat_of_dig ha
 obtain ⟨Y, rfl, hY⟩ := nat_of_dig hb
 rw [bor_nat hX hY]
 have hlt : X ||| Y < 18446744073709551616 := by
  have := Nat.or_lt_two_pow (x := X) (y := Y) (n := 64) (by simpa using hX) (by simpa using hY)
  simpa using this
 refine ⟨⟨by omega, by simp only [B64]; omega⟩, ?_⟩
 constructor
 ·intro h
  have h' : X ||| Y = 0 := by omega
  have := Nat.or_eq_zero_iff.1 h'
  omega
 ·rintro ⟨h1, h2⟩
  have h1 : X = 0 := by omega
  have h2 : Y = 0 := by omega
  subst h1 h2; rfl
theorem product_run {a b m : List Int} (ha : W4 a) (hb : W4 b) (hm : W4 m) (h1 : val B64 a < val B64 m) (h2 : val B64 b < val B64 m) : ∃ r, basculeref_product.run a b m = some r /\ W4 r /\ val B64 r = (val B64 a * val B64 b) % val B64 m := by
 unfold basculeref_product.run basculeref_product.top
 have ba := ha.bound
 have bb := hb.bound
 have hm0 := digs_getD B64_pos hm.2 0
 have hm1 := digs_getD B64_pos hm.2 1
 have hm2 := digs_getD B64_pos hm.2 2
 have hm3 := digs_getD B64_pos hm.2 3
 obtain ⟨b1, b2⟩ := bor_zero hm1 hm2
 obtain ⟨b3, b4⟩ := bor_zero b1 hm3
 by_cases hc : (cond ((bor .u64 (bor .u64 (List.getD m 1 0) (List.getD m 2 0)) (List.getD m 3 0)) == 0) (decide ((List.getD m 0 0) < 4294967296)) false) = true
 ·rw [if_pos hc]
  have hz : (bor .u64 (bor .u64 (List.getD m 1 0) (List.getD m 2 0)) (List.getD m 3 0)) = 0 /\ List.getD m 0 0 < 4294967296 := by
   revert hc
   cases hq : (bor .u64 (bor .u64 (List.getD m 1 0) (List.getD m 2 0)) (List.getD m 3 0)) == 0 with
   | true => intro h; exact ⟨by simpa using hq, by simpa using h⟩
   | false => intro h; simp at h
  obtain ⟨z1, z2⟩ := hz
  obtain ⟨z3, z4⟩ := b4.1 z1
  obtain ⟨z5, z6⟩ := b2.1 z3
  obtain ⟨m0, m1, m2, m3, rfl⟩ := four_of_len hm.1
  obtain ⟨a0, a1, a2, a3, rfl⟩ := four_of_len ha.1
  obtain ⟨c0, c1, c2, c3, rfl⟩ := four_of_len hb.1
  simp only [List.getD_cons_zero, List.getD_cons_succ] at z2 z4 z5 z6 ⊢
  subst z4 z5 z6
  have ga0 := ha.2 a0 (by simp)
  have ga1 := ha.2 a1 (by simp)
  have ga2 := ha.2 a2 (by simp)
  have ga3 := ha.2 a3 (by simp)
  have gc0 := hb.2 c0 (by simp)
  have gc1 := hb.2 c1 (by simp)
  have gc2 := hb.2 c2 (by simp)
  have gc3 := hb.2 c3 (by simp)
  simp only [val, B64] at h1 h2 ga0 ga1 ga2 ga3 gc0 gc1 gc2 gc3 ⊢
  have e1 : a1 = 0 /\ a2 = 0 /\ a3 = 0 /\ a0 < m0 := by omega
  have e2 : c1 = 0 /\ c2 = 0 /\ c3 = 0 /\ c0 < m0 := by omega
  obtain ⟨rfl, rfl, rfl, e1⟩ := e1
  obtain ⟨rfl, rfl, rfl, e2⟩ := e2
  have hp := mul_lt32 (x := a0) (y := c0) (by omega) (by omega)
  rw [if_pos (by omega), wrap_u64 hp.1 (by omega), tmod_pos hp.1]
  have r1 := Int.emod_nonneg (a0 * c0) (show m0 ≠ 0 by omega)
  have r2 := Int.emod_lt_of_pos (a0 * c0) (show 0 < m0 by omega)
  refine ⟨_, rfl, ⟨rfl, fun d hd => ?_⟩, ?_⟩
  ·simp only [List.mem_cons, List.not_mem_nil, or_false] at hd
   simp only [B64]
   omega
  ·simp [val]
 ·rw [if_neg hc]
  obtain ⟨x, x1, x2, x3, x4⟩ := ref_of ha.1 ha.2
  obtain ⟨y, y1, y2, y3, y4⟩ := ref_of hb.1 hb.2
  obtain ⟨p, p1, p2, p3, p4⟩ := ref_times x3 y3 (by omega) (by omega)
  obtain ⟨r, r1, r2, r3⟩ := rest_run p3 (by omega) hm (by omega)
  rw [x1, Option.bind_some, y1, Option.bind_some, p1, Option.bind_some, r1, Option.bind_some]
  exact ⟨r, rfl, r2, by rw [r3, p4, x4, y4]⟩
def below (m : List Int) : List (List Int) -> Int
 | [] => 0
 | a :: l => if val B64 a < val B64 m then below m l else 6
theorem order_run {a b : List Int} (ha : W4 a) (hb : W4 b) : basculeref_Order.run a b = some (if val B64 a < val B64 b then -1 else if val B64 a > val B64 b then 1 else 0) := by
 unfold basculeref_Order.run basculeref_Order.top
 obtain ⟨x, x1, x2, x3, x4⟩ := ref_of ha.1 ha.2
 obtain ⟨y, y1, y2, y3, y4⟩ := ref_of hb.1 hb.2
 rw [x1, Option.bind_some, y1, Option.bind_some, ref_compare x3 y3 (by omega) (by omega), x4, y4]
 rfl
theorem ge_dec (x y : Int) : decide ((if x < y then (-1 : Int) else if x > y then 1 else 0) >= 0) = !decide (x < y) := by
 by_cases h : x < y
 ·simp [h]
 ·rw [if_neg h]
  have : decide (x < y) = false := by simpa using h
  rw [this]
  split <;> rfl
theorem fault_loop2 {α : Type} (k : Nat) (Rt : Int -> Option α) (Xt : Option α) (hX : Xt = Rt 0) (l : List (List Int)) (m : List Int) (hm : W4 m) (hl : l.length < 1000) (hw : ∀ x ∈ l, W4 x) : ∀ (R P : List (List Int)) (n : Nat), R.length < n -> l = P ++ R ->
  field_fault.l0 k Rt Xt n l (l.length : Int) (P.length : Int) m = Rt (below m R)
 | R, P, 0, h, _ => by omega
 | [], P, n + 1, h, hc => by
  simp only [field_fault.l0, field_fault.l0s, below]
  have : l.length = P.length := by rw [hc]; simp
  rw [if_neg (by rw [decide_eq_true_eq]; omega), hX]
 | a :: R, P, n + 1, h, hc => by
  have hlen : l.length = P.length + (R.length + 1) := by rw [hc]; simp
  simp only [field_fault.l0, field_fault.l0s, below]
  have hg : l.getD P.length [0, 0, 0, 0] = a := by rw [hc]; exact getD_front _ _ _ _
  have ha : W4 a := hw a (by rw [hc]; simp)
  rw [if_pos (by rw [decide_eq_true_eq]; omega), if_pos (by omega), i64_succ (by omega), toNat_nat, hg, wide_cmp ha.1 hm.1 ha.2 hm.2, Option.bind_some, ge_dec]
  have ih := fault_loop2 k Rt Xt hX l m hm hl hw R (P ++ [a]) n (by simpa using h) (by simp [hc])
  rw [List.length_append] at ih
  by_cases hlt : val B64 a < val B64 m
  ·rw [if_neg (by simp [hlt]), if_pos hlt]; exact ih
  ·rw [if_pos (by simp [hlt]), if_neg hlt]
def faultE (m : List Int) (l : List (List Int)) : Int := if m = [0, 0, 0, 0] then 7 else below m l
theorem fault_run {m : List Int} (hm : W4 m) {l : List (List Int)} (hl : l.length < 1000) (hw : ∀ x ∈ l, W4 x) : field_fault.run m l = some (faultE m l) := by
 unfold field_fault.run field_fault.top faultE
 rw [beqD_dec (.arr 4 (.int .u64)) m [0, 0, 0, 0] rfl]
 by_cases h0 : m = [0, 0, 0, 0]
 ·rw [if_pos (by simpa using h0), if_pos h0]
 ·rw [if_neg (by simpa using h0), if_neg h0]
  have := fun N (hN : l.length < N) => fault_loop2 N (fun (x4 : Int) => some x4) (field_fault.j0 (fun (x4 : Int) => some x4)) rfl l m hm hl hw l [] N hN rfl
  exact this fuel (by rw [fuel_big]; omega)
theorem one4 : W4 [1, 0, 0, 0] /\ val B64 [1, 0, 0, 0] = 1 := by
 refine ⟨⟨rfl, fun d hd => ?_⟩, rfl⟩
 simp only [List.mem_cons, List.not_mem_nil, or_false] at hd
 simp only [B64]; omega
end Go.Bx
namespace Go.Bx
open Go
set_option linter.unusedSimpArgs false
set_option linter.unusedVariables false
section
variable {x m a : List Int} {F : Int -> Int}
theorem field_bits_s0_inner {α : Type} (k : Nat) (Xt : Bool -> Int -> List Int -> List Int -> List Int -> List Int -> Option α) (hx : W4 x)
  (hF : ∀ (q : Int) (b : Bool) (o : List Int), 0 <= q -> W4 o -> val B64 o = F q -> ∃ o', field_mul_1_s0.run b o m a = some (o', m, a, ()) /\ W4 o' /\ val B64 o' = F (2 * q + if b = true then 1 else 0)) (j : Nat) (hj : j < 4) :
  ∀ (n i : Nat) (b : Bool) (o : List Int), i < n -> i <= 64 -> W4 o -> val B64 o = F (val B64 x / ((2 ^ (64 * j + i) : Nat) : Int)) -> (b = false -> val B64 x / ((2 ^ (64 * j + i) : Nat) : Int) = 0) ->
  ∃ b' o', field_bits_s0.l1 k Xt n b (j : Int) ((i : Int) - 1) o m a x = Xt b' (j : Int) o' m a x /\ W4 o' /\ val B64 o' = F (val B64 x / ((2 ^ (64 * j) : Nat) : Int)) /\ (b' = false -> val B64 x / ((2 ^ (64 * j) : Nat) : Int) = 0)
 | 0, i, b, o, h, _, _, _, _ => by omega
 | n + 1, 0, b, o, h, hi, ho, hv, hb => by
  refine ⟨b, o, ?_, ho, hv, hb⟩
  simp only [field_bits_s0.l1, field_bits_s0.l1s]
  rw [if_neg (by simp)]
 | n + 1, i + 1, b, o, h, hi, ho, hv, hb => by
  simp only [field_bits_s0.l1, field_bits_s0.l1s]
  have ei : ((i + 1 : Nat) : Int) - 1 = (i : Int) := by omega
  rw [ei, if_pos (by rw [decide_eq_true_eq]; omega), if_pos (by omega), if_pos (by omega), toNat_nat]
  obtain ⟨X, hX, hX2⟩ := nat_of_dig (digs_getD B64_pos hx.2 j)
  have hbit := bit_at hx.2 (w := j) (k := i) (by omega) hX
  have hs : X >>> i < 18446744073709551616 := Nat.lt_of_le_of_lt (Nat.shiftRight_le _ _) hX2
  have hband : band .u64 (shrI .u64 (x.getD j 0) (i : Int)) 1 = val B64 x / ((2 ^ (64 * j + i) : Nat) : Int) % 2 := by
   rw [hX, shr_nat (by omega), <- hbit]
   exact band_nat (X := X >>> i) (Y := 1) hs (by omega)
  rw [hband]
  have hq : val B64 x / ((2 ^ (64 * j + i) : Nat) : Int) = 2 * (val B64 x / ((2 ^ (64 * j + (i + 1)) : Nat) : Int)) + val B64 x / ((2 ^ (64 * j + i) : Nat) : Int) % 2 := by
   have e2 : ((2 ^ (64 * j + (i + 1)) : Nat) : Int) = ((2 ^ (64 * j + i) : Nat) : Int) * 2 := by rw [<- Nat.add_assoc, Nat.pow_succ]; simp
   rw [e2, <- Int.ediv_ediv_of_nonneg (Int.natCast_nonneg _)]
   omega
  have hq0 : 0 <= val B64 x / ((2 ^ (64 * j + (i + 1)) : Nat) : Int) := Int.ediv_nonneg hx.bound.1 (Int.natCast_nonneg _)
  generalize val B64 x / ((2 ^ (64 * j + (i + 1)) : Nat) : Int) = q at *
  generalize hQ : val B64 x / ((2 ^ (64 * j + i) : Nat) : Int) = Q at *
  unfold field_bits_s0.j1
  have ew : IntKind.i64.wrap ((i : Int) - 1) = (i : Int) - 1 := wrap_i64 (by omega) (by omega)
  rw [ew]
  by_cases hc : (cond b true (Q % 2 == 1)) = true
  ·rw [if_pos hc]
   obtain ⟨o', o1, o2, o3⟩ := hF q (Q % 2 == 1) o hq0 ho hv
   rw [o1, Option.bind_some]
   have hQ' : 2 * q + (if (Q % 2 == 1) = true then 1 else 0) = Q := by
    by_cases hb1 : Q % 2 = 1
    ·rw [if_pos (by simpa using hb1)]; omega
    ·rw [if_neg (by simpa using hb1)]; omega
   rw [hQ'] at o3
   refine field_bits_s0_inner k Xt hx hF j hj n i _ o' (by omega) (by omega) o2 (by rw [hQ]; exact o3) (fun h => ?_)
   rw [hc] at h; cases h
  ·rw [if_neg hc]
   have hb0 : b = false /\ Q % 2 ≠ 1 := by
    cases b with
    | true => exact absurd rfl hc
    | false => exact ⟨rfl, fun e => hc (by simp [e])⟩
   have hz := hb hb0.1
   have hQ0 : Q = 0 := by omega
   refine field_bits_s0_inner k Xt hx hF j hj n i _ o (by omega) (by omega) ho (by rw [hQ, hQ0, hv, hz]) (fun _ => by rw [hQ, hQ0])
theorem field_bits_s0_outer {α : Type} (k : Nat) (hk : 64 < k) (Xt : List Int -> List Int -> List Int -> Option α) (hx : W4 x)
  (hF : ∀ (q : Int) (b : Bool) (o : List Int), 0 <= q -> W4 o -> val B64 o = F q -> ∃ o', field_mul_1_s0.run b o m a = some (o', m, a, ()) /\ W4 o' /\ val B64 o' = F (2 * q + if b = true then 1 else 0)) :
  ∀ (n j : Nat) (b : Bool) (o : List Int), j < n -> j <= 4 -> W4 o -> val B64 o = F (val B64 x / ((2 ^ (64 * j) : Nat) : Int)) -> (b = false -> val B64 x / ((2 ^ (64 * j) : Nat) : Int) = 0) ->
  ∃ o', field_bits_s0.l0 k Xt n b ((j : Int) - 1) o m a x = Xt o' m a /\ W4 o' /\ val B64 o' = F (val B64 x)
 | 0, j, b, o, h, _, _, _, _ => by omega
 | n + 1, 0, b, o, h, hi, ho, hv, hb => by
  refine ⟨o, ?_, ho, by simpa using hv⟩
  simp only [field_bits_s0.l0, field_bits_s0.l0s]
  rw [if_neg (by simp)]
 | n + 1, j + 1, b, o, h, hi, ho, hv, hb => by
  simp only [field_bits_s0.l0, field_bits_s0.l0s]
  have ei : ((j + 1 : Nat) : Int) - 1 = (j : Int) := by omega
  rw [ei, if_pos (by rw [decide_eq_true_eq]; omega), if_pos (by omega), toNat_nat]
  unfold field_bits_s0.j0
  have ew : IntKind.i64.wrap ((j : Int) - 1) = (j : Int) - 1 := wrap_i64 (by omega) (by omega)
  rw [ew]
  by_cases hc : (cond (x.getD j 0 == 0) (not b) false) = true
  ·rw [if_pos hc]
   have hz : x.getD j 0 = 0 /\ b = false := by
    revert hc
    cases hw : (x.getD j 0 == 0) with
    | true => intro h; exact ⟨by simpa using hw, by simpa using h⟩
    | false => intro h; simp at h
   have h0 := hb hz.2
   have hd := drop_div hx.2 j
   have hd1 := drop_div hx.2 (j + 1)
   have hvd := val_drop B64 x j
   have hQ0 : val B64 x / ((2 ^ (64 * j) : Nat) : Int) = 0 := by
    rw [hd, hvd, hz.1, <- hd1, h0]; rfl
   exact field_bits_s0_outer k hk Xt hx hF n j b o (by omega) (by omega) ho (by rw [hQ0, hv, h0]) (fun _ => hQ0)
  ·rw [if_neg hc]
   have e64 : (63 : Int) = ((64 : Nat) : Int) - 1 := by omega
   have hm64 : 64 * (j + 1) = 64 * j + 64 := by omega
   rw [hm64] at hv hb
   obtain ⟨b', o', e1, e2, e3, e4⟩ := field_bits_s0_inner k (fun (x4 : Bool) (x5 : Int) (c0 : List Int) (c1 : List Int) (c2 : List Int) (c5 : List Int) => field_bits_s0.l0 k Xt n x4 (IntKind.i64.wrap (x5 - 1)) c0 c1 c2 c5) hx hF j (by omega) k 64 b o hk (by omega) ho hv hb
   rw [e64, e1, ew]
   exact field_bits_s0_outer k hk Xt hx hF n j b' o' (by omega) (by omega) e2 e3 e4
theorem field_bits_s0_run {x m a o : List Int} {F : Int -> Int} (hx : W4 x) (ho : W4 o) (h0 : val B64 o = F 0)
  (hF : ∀ (q : Int) (b : Bool) (o : List Int), 0 <= q -> W4 o -> val B64 o = F q -> ∃ o', field_mul_1_s0.run b o m a = some (o', m, a, ()) /\ W4 o' /\ val B64 o' = F (2 * q + if b = true then 1 else 0)) :
  ∃ o', field_bits_s0.run x o m a = some (o', m, a, ()) /\ W4 o' /\ val B64 o' = F (val B64 x) := by
 unfold field_bits_s0.run field_bits_s0.top
 have hz : val B64 x / ((2 ^ (64 * 4) : Nat) : Int) = 0 := by
  have hb := val_bound B64_pos hx.2
  rw [hx.1] at hb
  exact Int.ediv_eq_zero_of_lt hb.1 (by rw [<- pow64]; exact hb.2)
 have := fun N (hN : 64 < N) => field_bits_s0_outer N hN (fun (c0 : List Int) (c1 : List Int) (c2 : List Int) => some (c0, c1, c2, ())) hx hF N 4 false o (by omega) (by omega) ho (by rw [hz]; exact h0) (fun _ => hz)
 obtain ⟨o', e1, e2, e3⟩ := this fuel (by rw [fuel_big]; omega)
 exact ⟨o', e1, e2, e3⟩
end
theorem field_mul_run {a b m : List Int} (ha : W4 a) (hb : W4 b) (hm : W4 m) (h1 : val B64 a < val B64 m) : ∃ r, field_mul.run a b m = some r /\ W4 r /\ val B64 r = (val B64 a * val B64 b) % val B64 m := by
 have ba := ha.bound
 have hpos : 0 < val B64 m := by omega
 obtain ⟨o, e1, e2, e3⟩ := field_bits_s0_run (m := m) (a := a) (F := fun q => (val B64 a * q) % val B64 m) hb W4.zero (by rw [val_zero4]; simp) (fun q b o hq ho hv => by
  have hlt := Int.emod_lt_of_pos (val B64 a * q) hpos
  unfold field_mul_1_s0.run field_mul_1_s0.top
  obtain ⟨r1, k1, k2, k3⟩ := field_add_run ho ho hm (by rw [hv]; exact hlt) (by rw [hv]; exact hlt)
  rw [k1, Option.bind_some]
  have key : val B64 r1 = (val B64 a * (2 * q)) % val B64 m := by
   rw [k3, hv, <- Int.add_emod]
   congr 1
   rw [<- Int.mul_add]; congr 1; omega
  cases b with
  | true =>
   rw [if_pos rfl, if_pos rfl]
   obtain ⟨r2, j1, j2, j3⟩ := field_add_run k2 ha hm (by rw [key]; exact Int.emod_lt_of_pos _ hpos) h1
   rw [j1, Option.bind_some]
   refine ⟨r2, rfl, j2, ?_⟩
   rw [j3, key, Int.emod_add_emod, Int.mul_add, Int.mul_one]
  | false =>
   rw [if_neg (by simp), if_neg (by simp)]
   exact ⟨r1, rfl, k2, by rw [key, Int.add_zero]⟩)
 unfold field_mul.run field_mul.top
 rw [e1, Option.bind_some]
 exact ⟨o, rfl, e2, e3⟩
end Go.Bx
namespace Go.Bx
open Go
set_option linter.unusedSimpArgs false
set_option linter.unusedVariables false
theorem W4.is_one {m : List Int} (h : W4 m) : m = [1, 0, 0, 0] ↔ val B64 m = 1 :=
 ⟨fun e => by rw [e]; exact one4.2, fun e => h.eq one4.1 (by rw [e, one4.2])⟩
theorem W4.is_zero {m : List Int} (h : W4 m) : m = [0, 0, 0, 0] ↔ val B64 m = 0 :=
 ⟨fun e => by rw [e]; rfl, fun e => h.eq W4.zero (by rw [e]; rfl)⟩
theorem gcd_step {r s : Int} (hr : 0 <= r) (hs : 0 <= s) : Nat.gcd s.toNat r.toNat = Nat.gcd (r % s).toNat s.toNat := by
 rw [Nat.gcd_rec, Int.toNat_emod hr hs]
theorem half {r s : Int} {n : Nat} (hs : 0 < s) (hsr : s <= r) (h : r * s < ((2 ^ (n + 1) : Nat) : Int)) : s * (r % s) < ((2 ^ n : Nat) : Int) := by
 have e := Int.mul_ediv_add_emod r s
 have hm := Int.emod_nonneg r (show s ≠ 0 by omega)
 have hl := Int.emod_lt_of_pos r hs
 have hq : 1 <= r / s := by
  have := Int.ediv_le_ediv hs hsr
  rw [Int.ediv_self (by omega)] at this; exact this
 have h1 : s * 1 <= s * (r / s) := Int.mul_le_mul_of_nonneg_left hq (by omega)
 have h2 : 2 * (r % s) <= r := by omega
 have h3 : s * (2 * (r % s)) <= s * r := Int.mul_le_mul_of_nonneg_left h2 (by omega)
 have e2 : ((2 ^ (n + 1) : Nat) : Int) = ((2 ^ n : Nat) : Int) * 2 := by rw [Nat.pow_succ]; simp
 rw [Int.mul_comm r s] at h
 rw [<- Int.mul_assoc, Int.mul_comm s 2, Int.mul_assoc] at h3
 omega
def Cg (M x y : Int) : Prop := x % M = y % M
theorem Cg.mul {M x y : Int} (h : Cg M x y) (z : Int) : Cg M (x * z) (y * z) := by
 unfold Cg at *; rw [Int.mul_emod, h, <- Int.mul_emod]
theorem Cg.mulL {M x y : Int} (h : Cg M x y) (z : Int) : Cg M (z * x) (z * y) := by
 unfold Cg at *; rw [Int.mul_emod, h, <- Int.mul_emod]
theorem Cg.sub {M x y z w : Int} (h : Cg M x y) (k : Cg M z w) : Cg M (x - z) (y - w) := by
 unfold Cg at *; rw [Int.sub_emod, h, k, <- Int.sub_emod]
theorem Cg.mod {M x : Int} : Cg M (x % M) x := Int.emod_emod _ _
theorem Cg.trans {M x y z : Int} (h : Cg M x y) (k : Cg M y z) : Cg M x z := Eq.trans h k
theorem Cg.symm {M x y : Int} (h : Cg M x y) : Cg M y x := Eq.symm h
theorem inv_one {M a x y : Int} (hx : 0 <= x /\ x < M) (hy : 0 <= y /\ y < M) (h1 : Cg M (a * x) 1) (h2 : Cg M (a * y) 1) : x = y := by
 have e1 : Cg M (x * (a * y)) x := by have := h2.mulL x; rw [Int.mul_one] at this; exact this
 have e2 : Cg M (a * x * y) y := by have := h1.mul y; rw [Int.one_mul] at this; exact this
 have e3 : a * x * y = x * (a * y) := by rw [Int.mul_comm a x, Int.mul_assoc]
 rw [e3] at e2
 have e4 : x % M = y % M := Eq.trans (Eq.symm e1) e2
 rwa [Int.emod_eq_of_lt hx.1 hx.2, Int.emod_eq_of_lt hy.1 hy.2] at e4
theorem inv_loop {α : Type} (k : Nat) (Xt : List Int -> List Int -> List Int -> Option α) (m z : List Int) (hm : W4 m) (hM : 0 < val B64 m) (A : Int) :
  ∀ (n N : Nat) (t r s u : List Int), n < N -> W4 t -> W4 r -> W4 s -> W4 u -> val B64 t < val B64 m -> val B64 u < val B64 m -> val B64 s <= val B64 r -> 0 < val B64 r -> val B64 r * val B64 s < ((2 ^ n : Nat) : Int) -> Cg (val B64 m) (val B64 r) (val B64 u * A) -> Cg (val B64 m) (val B64 s) (val B64 t * A) ->
  ∃ r' u', field_Inv.l0 k Xt N m z t r s u = Xt z r' u' /\ W4 r' /\ W4 u' /\ val B64 u' < val B64 m /\ (val B64 r').toNat = Nat.gcd (val B64 s).toNat (val B64 r).toNat /\ Cg (val B64 m) (val B64 r') (val B64 u' * A)
 | n, 0, t, r, s, u, h, _, _, _, _, _, _, _, _, _, _, _ => by omega
 | n, N + 1, t, r, s, u, h, ht, hr, hs, hu, lt, lu, hsr, hr0, hn, cr, cs => by
  have bs := hs.bound
  simp only [field_Inv.l0, field_Inv.l0s]
  rw [beqD_dec (.arr 4 (.int .u64)) s [0, 0, 0, 0] rfl]
  by_cases hz : s = [0, 0, 0, 0]
  ·rw [if_neg (by simp [hz])]
   have h0 := hs.is_zero.1 hz
   refine ⟨r, u, rfl, hr, hu, lu, ?_, cr⟩
   rw [h0]; simp
  ·rw [if_pos (by simp [hz])]
   have hs0 := hs.ne.1 hz
   obtain ⟨q, l, d1, d2, d3, d4, d5, d6, d7⟩ := wide_divmod hr.1 hr.2 hs.1 hs.2
   rw [if_neg hz] at d6 d7
   obtain ⟨q1, q2, f1, f2, f3, f4, f5, f6, f7⟩ := wide_divmod d2 d3 hm.1 hm.2
   have hm0 := hm.ne.2 hM
   rw [if_neg hm0] at f6 f7
   have lq2 : val B64 q2 < val B64 m := by rw [f7]; exact Int.emod_lt_of_pos _ hM
   obtain ⟨p, p1, p2, p3⟩ := field_mul_run ⟨f4, f5⟩ ht hm lq2
   have lp : val B64 p < val B64 m := by rw [p3]; exact Int.emod_lt_of_pos _ hM
   obtain ⟨v, v1, v2, v3⟩ := field_sub_run hu p2 hm lu lp
   have lv : val B64 v < val B64 m := by rw [v3]; exact Int.emod_lt_of_pos _ hM
   rw [d1, Option.bind_some, f1, Option.bind_some, p1, Option.bind_some, v1, Option.bind_some]
   have hl0 := (val_bound B64_pos d5).1
   have hll : val B64 l < val B64 s := by rw [d7]; exact Int.emod_lt_of_pos _ hs0
   have hpos : 0 < val B64 r * val B64 s := Int.mul_pos hr0 hs0
   obtain ⟨n', rfl⟩ : ∃ n', n = n' + 1 := by
    cases n with
    | zero => simp at hn; omega
    | succ n' => exact ⟨n', rfl⟩
   have hh := half hs0 hsr hn
   rw [<- d7] at hh
   have cl : Cg (val B64 m) (val B64 l) (val B64 v * A) := by
    have e1 : val B64 l = val B64 r - val B64 s * val B64 q := by
     have := Int.mul_ediv_add_emod (val B64 r) (val B64 s)
     rw [d7, d6]; omega
    have e2 : Cg (val B64 m) (val B64 r - val B64 s * val B64 q) (val B64 u * A - val B64 t * A * val B64 q) := cr.sub (cs.mul _)
    have e3 : val B64 u * A - val B64 t * A * val B64 q = (val B64 u - val B64 q * val B64 t) * A := by
     rw [Int.sub_mul, Int.mul_comm (val B64 q), Int.mul_assoc, Int.mul_assoc, Int.mul_comm A]
    have e4 : Cg (val B64 m) (val B64 v) (val B64 u - val B64 q * val B64 t) := by
     rw [v3]
     refine Cg.mod.trans (Cg.sub (show Cg _ _ _ from rfl) ?_)
     rw [p3]
     refine Cg.mod.trans ?_
     rw [f7]
     exact Cg.mod.mul _
    rw [e1]
    rw [e3] at e2
    exact e2.trans (e4.mul A).symm
   obtain ⟨r', u', g1, g2, g3, g4, g5, g6⟩ := inv_loop k Xt m z hm hM A n' N v s l t (by omega) v2 hs ⟨d4, d5⟩ ht lv lt (by omega) hs0 hh cs cl
   refine ⟨r', u', g1, g2, g3, g4, ?_, g6⟩
   rw [g5, gcd_step (r := val B64 r) (by omega) (by omega), d7]
theorem prod_lt {a b : Int} (ha : 0 <= a /\ a < M256) (hb : 0 <= b /\ b < M256) : a * b < ((2 ^ 512 : Nat) : Int) := by
 have h1 : a * b <= a * M256 := Int.mul_le_mul_of_nonneg_left (by omega) ha.1
 have h2 : a * M256 < M256 * M256 := Int.mul_lt_mul_of_pos_right ha.2 (by simp only [M256]; omega)
 have h3 : M256 * M256 = ((2 ^ 512 : Nat) : Int) := by decide +kernel
 omega
theorem field_inv {a m : List Int} (ha : W4 a) (hm : W4 m) (h1 : val B64 a < val B64 m) (he : faultE m [a] = 0) :
  ∃ x e, field_Inv.run a m = some (x, e, ()) /\ W4 x /\ (Nat.gcd (val B64 a).toNat (val B64 m).toNat = 1 -> e = 0 /\ val B64 x < val B64 m /\ Cg (val B64 m) (val B64 a * val B64 x) 1) /\ (Nat.gcd (val B64 a).toNat (val B64 m).toNat ≠ 1 -> e = 5 /\ x = [0, 0, 0, 0]) := by
 have ba := ha.bound
 have bm := hm.bound
 have hM : 0 < val B64 m := by omega
 have hw : ∀ y ∈ [a], W4 y := fun y hy => by
  simp only [List.mem_cons, List.not_mem_nil, or_false] at hy
  subst hy; exact ha
 unfold field_Inv.run field_Inv.top
 rw [fault_run hm (by simp) hw, Option.bind_some, he, if_neg (by decide)]
 obtain ⟨q, r, d1, _, _, d4, d5, _, d7⟩ := wide_divmod one4.1.1 one4.1.2 hm.1 hm.2
 rw [if_neg (hm.ne.2 hM), one4.2] at d7
 rw [d1, Option.bind_some]
 have := fun N (hN : 512 < N) => inv_loop N (fun (c4 : List Int) (c10 : List Int) (c12 : List Int) => field_Inv.j0 (fun (x5 : Int) (c4 : List Int) => some (c4, x5, ())) c4 c10 c12) m [0, 0, 0, 0] hm hM (val B64 a) 512 N r m a [0, 0, 0, 0] hN ⟨d4, d5⟩ hm ha W4.zero (by rw [d7]; exact Int.emod_lt_of_pos _ hM) (by rw [val_zero4]; exact hM) (by omega) hM (prod_lt bm ba) (by
   rw [val_zero4, Int.zero_mul]; unfold Cg; simp) (by
   rw [d7]
   have := (Cg.mod (M := val B64 m) (x := 1)).mul (val B64 a)
   rw [Int.one_mul] at this
   exact this.symm)
 obtain ⟨r', u', g1, g2, g3, g4, g5, g6⟩ := this fuel (by rw [fuel_big]; omega)
 rw [g1]
 unfold field_Inv.j0
 rw [beqD_dec (.arr 4 (.int .u64)) r' [1, 0, 0, 0] rfl]
 have br := g2.bound
 by_cases h1 : r' = [1, 0, 0, 0]
 ·rw [if_neg (by simp [h1])]
  have hv := g2.is_one.1 h1
  rw [hv] at g5 g6
  refine ⟨u', 0, rfl, g3, fun _ => ⟨rfl, g4, ?_⟩, fun hn => absurd g5.symm hn⟩
  rw [Int.mul_comm]; exact g6.symm
 ·rw [if_pos (by simp [h1])]
  have hv : val B64 r' ≠ 1 := fun e => h1 (g2.is_one.2 e)
  refine ⟨_, 5, rfl, W4.zero, fun hg => ?_, fun _ => ⟨rfl, rfl⟩⟩
  rw [hg] at g5
  omega
theorem ref_inverse : ∀ (n N : Nat) (a m : List Int), n < N -> W4 a -> W4 m -> val B64 a < val B64 m -> val B64 m * val B64 a < ((2 ^ n : Nat) : Int) ->
  ∃ x ok, basculeref_inverse.runN N a m = some (x, ok, ()) /\ W4 x /\ (Nat.gcd (val B64 a).toNat (val B64 m).toNat = 1 -> ok = true /\ val B64 x < val B64 m /\ Cg (val B64 m) (val B64 a * val B64 x) 1) /\ (Nat.gcd (val B64 a).toNat (val B64 m).toNat ≠ 1 -> ok = false)
 | n, 0, a, m, h, _, _, _, _ => by omega
 | n, N + 1, a, m, h, ha, hm, h1, hn => by
  have ba := ha.bound
  have bm := hm.bound
  have hM : 0 < val B64 m := by omega
  simp only [basculeref_inverse.runN, basculeref_inverse.top]
  rw [beqD_dec (.arr 4 (.int .u64)) m [1, 0, 0, 0] rfl, beqD_dec (.arr 4 (.int .u64)) a [0, 0, 0, 0] rfl, beqD_dec (.arr 4 (.int .u64)) a [1, 0, 0, 0] rfl]
  by_cases hm1 : m = [1, 0, 0, 0]
  ·rw [if_pos (by simp [hm1])]
   have hv := hm.is_one.1 hm1
   refine ⟨_, true, rfl, W4.zero, fun _ => ⟨rfl, by rw [val_zero4]; exact hM, ?_⟩, fun hg => ?_⟩
   ·unfold Cg; rw [hv]; simp
   ·exfalso; apply hg; rw [hv]; simp
  ·rw [if_neg (by simp [hm1])]
   have hv1 : val B64 m ≠ 1 := fun e => hm1 (hm.is_one.2 e)
   by_cases ha0 : a = [0, 0, 0, 0]
   ·rw [if_pos (by simp [ha0])]
    have hv := ha.is_zero.1 ha0
    refine ⟨_, false, rfl, W4.zero, fun hg => ?_, fun _ => rfl⟩
    rw [hv] at hg
    simp at hg
    omega
   ·rw [if_neg (by simp [ha0])]
    have hap := ha.ne.1 ha0
    by_cases ha1 : a = [1, 0, 0, 0]
    ·rw [if_pos (by simp [ha1])]
     have hv := ha.is_one.1 ha1
     refine ⟨a, true, rfl, ha, fun _ => ⟨rfl, h1, ?_⟩, fun hg => ?_⟩
     ·unfold Cg; rw [hv]; rfl
     ·exfalso; apply hg; rw [hv]; simp
    ·rw [if_neg (by simp [ha1])]
     have hv2 : val B64 a ≠ 1 := fun e => ha1 (ha.is_one.2 e)
     obtain ⟨q, r, _, e2, n1, d1, n2, d2, vq, vr⟩ := quotient_both hm.1 hm.2 ha.1 ha.2
     rw [if_neg ha0] at vq vr
     rw [e2, Option.bind_some]
     have hr : W4 r := ⟨n2, d2⟩
     have hq : W4 q := ⟨n1, d1⟩
     have br := hr.bound
     have hra : val B64 r < val B64 a := by rw [vr]; exact Int.emod_lt_of_pos _ hap
     have hpos : 0 < val B64 m * val B64 a := Int.mul_pos hM hap
     obtain ⟨n', rfl⟩ : ∃ n', n = n' + 1 := by
      cases n with
      | zero => simp at hn; omega
      | succ n' => exact ⟨n', rfl⟩
     have hh := half hap (by omega) hn
     rw [<- vr] at hh
     obtain ⟨s, ok, s1, s2, s3, s4⟩ := ref_inverse n' N r a (by omega) hr ha hra hh
     have hg : Nat.gcd (val B64 a).toNat (val B64 m).toNat = Nat.gcd (val B64 r).toNat (val B64 a).toNat := by
      rw [gcd_step (r := val B64 m) (by omega) (by omega), vr]
     rw [s1, Option.bind_some, hg]
     by_cases h1g : Nat.gcd (val B64 r).toNat (val B64 a).toNat = 1
     ·obtain ⟨rfl, ls, cs⟩ := s3 h1g
      simp only [Bool.not_true]
      rw [if_neg (by simp)]
      have bs := s2.bound
      obtain ⟨x, x1, x2, x3, x4⟩ := ref_of hr.1 hr.2
      obtain ⟨y, y1, y2, y3, y4⟩ := ref_of s2.1 s2.2
      obtain ⟨p, p1, p2, p3, p4⟩ := ref_times x3 y3 (by omega) (by omega)
      rw [x4, y4] at p4
      have hrs0 : 0 <= val B64 r * val B64 s := Int.mul_nonneg br.1 bs.1
      have hcs : (val B64 r * val B64 s) % val B64 a = 1 := by
       have h := cs
       unfold Cg at h
       rw [h]; exact Int.emod_eq_of_lt (by omega) (by omega)
      have hk := Int.mul_ediv_add_emod (val B64 r * val B64 s) (val B64 a)
      rw [hcs] at hk
      have hk0 : 0 <= val B64 r * val B64 s / val B64 a := Int.ediv_nonneg hrs0 (by omega)
      have hk1 : 0 <= val B64 a * (val B64 r * val B64 s / val B64 a) := Int.mul_nonneg (by omega) hk0
      have v1 : val B32 [1] = 1 := rfl
      obtain ⟨l, l1, l2, l3, l4⟩ := ref_less_any p3 (digs1 (d := 1) (by omega)) (by omega) (by rw [p4, v1]; omega)
      rw [p4, v1] at l4
      obtain ⟨z, z1, z2, z3, z4⟩ := ref_of ha.1 ha.2
      obtain ⟨kq, kr, k1, k2, k3, _, _, k6, _⟩ := ref_divided l3 z3 (by omega) (by omega) (by omega)
      have hkv : val B32 kq = val B64 r * val B64 s / val B64 a := by
       rw [k6, l4, z4]
       have : val B64 r * val B64 s - 1 = val B64 a * (val B64 r * val B64 s / val B64 a) := by omega
       rw [this]; exact Int.mul_ediv_cancel_left _ (by omega)
      obtain ⟨qq, q1, q2, q3, q4⟩ := ref_of hq.1 hq.2
      obtain ⟨w, w1, w2, w3, w4⟩ := ref_times q3 y3 (by omega) (by omega)
      obtain ⟨t, t1, t2, t3, t4⟩ := ref_plus w3 k3 (by omega) (by omega)
      obtain ⟨g, g1, g2, g3⟩ := rest_run t3 (by omega) hm hM
      obtain ⟨o, o1, o2, o3⟩ := opposite_run g2 hm (by rw [g3]; exact Int.emod_lt_of_pos _ hM)
      rw [x1, Option.bind_some, y1, Option.bind_some, p1, Option.bind_some, l1, Option.bind_some, z1, Option.bind_some, k1, Option.bind_some, q1, Option.bind_some, Option.bind_some, w1, Option.bind_some, t1, Option.bind_some, g1, Option.bind_some, o1, Option.bind_some]
      refine ⟨o, true, rfl, o2, fun _ => ⟨rfl, by rw [o3]; exact Int.emod_lt_of_pos _ hM, ?_⟩, fun hng => absurd h1g hng⟩
      have hT : val B64 a * val B32 t = val B64 m * val B64 s - 1 := by
       have hqr := Int.mul_ediv_add_emod (val B64 m) (val B64 a)
       rw [t4, w4, q4, y4, hkv, vq, Int.mul_add, <- Int.mul_assoc]
       have e1 : val B64 a * (val B64 m / val B64 a) = val B64 m - val B64 r := by rw [vr]; omega
       rw [e1, Int.sub_mul]
       omega
      have c1 : Cg (val B64 m) (val B64 o) (0 - val B32 t) := by
       rw [o3, g3]
       refine Cg.mod.trans ?_
       have : - (val B32 t % val B64 m) = 0 - val B32 t % val B64 m := by omega
       rw [this]
       exact Cg.sub rfl Cg.mod
      refine (c1.mulL (val B64 a)).trans ?_
      rw [Int.mul_sub, hT, Int.mul_zero]
      unfold Cg
      have : 0 - (val B64 m * val B64 s - 1) = 1 + val B64 m * (- val B64 s) := by rw [Int.mul_neg]; omega
      rw [this, Int.add_mul_emod_self_left]
     ·have := s4 h1g
      subst this
      simp only [Bool.not_false]
      rw [if_pos trivial]
      exact ⟨_, false, rfl, W4.zero, fun hg => absurd hg h1g, fun _ => rfl⟩
end Go.Bx
namespace Go.Bx
open Go
set_option linter.unusedSimpArgs false
set_option linter.unusedVariables false
def mk (n : Int) : List Int := [n % 18446744073709551616, n / 18446744073709551616 % 18446744073709551616, n / 18446744073709551616 / 18446744073709551616 % 18446744073709551616, n / 18446744073709551616 / 18446744073709551616 / 18446744073709551616 % 18446744073709551616]
theorem mk_w (n : Int) : W4 (mk n) := by
 refine ⟨rfl, fun d hd => ?_⟩
 simp only [mk, List.mem_cons, List.not_mem_nil, or_false] at hd
 unfold B64
 rcases hd with rfl | rfl | rfl | rfl <;> exact ⟨Int.emod_nonneg _ (by decide), Int.emod_lt_of_pos _ (by decide)⟩
theorem mk_val {n : Int} (h : 0 <= n /\ n < M256) : val B64 (mk n) = n := by
 have h2 := h.2
 unfold M256 at h2
 simp only [mk, val, B64]
 omega
theorem mk_of {l : List Int} (h : W4 l) : l = mk (val B64 l) := h.eq (mk_w _) (mk_val h.bound).symm
theorem mk_eq {l : List Int} {n : Int} (h : W4 l) (e : val B64 l = n) : l = mk n := by subst e; exact mk_of h
theorem mk_inj {a b : Int} (ha : 0 <= a /\ a < M256) (hb : 0 <= b /\ b < M256) : mk a = mk b ↔ a = b :=
 ⟨fun h => by rw [<- mk_val ha, <- mk_val hb, h], fun h => by rw [h]⟩
theorem mk_zero : mk 0 = [0, 0, 0, 0] := by decide
theorem mk_small {n : Int} (h : 0 <= n /\ n < 18446744073709551616) : [n, 0, 0, 0] = mk n := by
 unfold mk
 have e1 : n % 18446744073709551616 = n := Int.emod_eq_of_lt h.1 h.2
 have e2 : n / 18446744073709551616 = 0 := Int.ediv_eq_zero_of_lt h.1 h.2
 rw [e1, e2]; rfl
end Go.Bx
namespace Go.Bx.Rg
open Go Go.Bx
set_option linter.unusedSimpArgs false
set_option linter.unusedVariables false
section
variable {M : Int} (hM : 1 < M /\ M < M256)
include hM
theorem valM : val B64 (mk M) = M := mk_val ⟨by omega, hM.2⟩
theorem inM {a : Int} (ha : 0 <= a /\ a < M) : val B64 (mk a) = a := mk_val ⟨ha.1, by omega⟩
theorem faultN {l : List Int} (hl : ∀ a ∈ l, 0 <= a /\ a < M) : faultE (mk M) (l.map mk) = 0 := by
 have hne : mk M ≠ [0, 0, 0, 0] := (mk_w M).ne.2 (by rw [valM hM]; omega)
 unfold faultE
 rw [if_neg hne]
 induction l with
 | nil => rfl
 | cons a l ih =>
  simp only [List.map_cons, below]
  rw [valM hM, inM hM (hl a (by simp)), if_pos (hl a (by simp)).2]
  exact ih fun b hb => hl b (List.mem_cons_of_mem _ hb)
theorem modIn (a : Int) : 0 <= a % M /\ a % M < M := ⟨Int.emod_nonneg _ (by omega), Int.emod_lt_of_pos _ (by omega)⟩
theorem fault2 {a b : Int} (ha : 0 <= a /\ a < M) (hb : 0 <= b /\ b < M) : field_fault.run (mk M) [mk a, mk b] = some 0 := by
 rw [fault_run (mk_w M) (by simp) (fun x hx => by
  simp only [List.mem_cons, List.not_mem_nil, or_false] at hx
  rcases hx with rfl | rfl <;> exact mk_w _)]
 rw [show [mk a, mk b] = [a, b].map mk from rfl, faultN hM (fun x hx => by
  simp only [List.mem_cons, List.not_mem_nil, or_false] at hx
  rcases hx with rfl | rfl <;> assumption)]
theorem fmulN {a b : Int} (ha : 0 <= a /\ a < M) (hb : 0 <= b /\ b < M) : field_Mul.run (mk a) (mk b) (mk M) = some (mk (a * b % M), 0, ()) := by
 obtain ⟨r, e1, w, v⟩ := field_mul_run (mk_w a) (mk_w b) (mk_w M) (by rw [inM hM ha, valM hM]; exact ha.2)
 rw [inM hM ha, inM hM hb, valM hM] at v
 unfold field_Mul.run field_Mul.top field_by_s0.run field_by_s0.top
 rw [fault2 hM ha hb, Option.bind_some, if_neg (by decide), e1, Option.bind_some, Option.bind_some, mk_eq w v]
theorem faddN {a b : Int} (ha : 0 <= a /\ a < M) (hb : 0 <= b /\ b < M) : field_Add.run (mk a) (mk b) (mk M) = some (mk ((a + b) % M), 0, ()) := by
 obtain ⟨r, e1, w, v⟩ := field_add_run (mk_w a) (mk_w b) (mk_w M) (by rw [inM hM ha, valM hM]; exact ha.2) (by rw [inM hM hb, valM hM]; exact hb.2)
 rw [inM hM ha, inM hM hb, valM hM] at v
 unfold field_Add.run field_Add.top field_by_s1.run field_by_s1.top
 rw [fault2 hM ha hb, Option.bind_some, if_neg (by decide), e1, Option.bind_some, Option.bind_some, mk_eq w v]
theorem fsubN {a b : Int} (ha : 0 <= a /\ a < M) (hb : 0 <= b /\ b < M) : field_Sub.run (mk a) (mk b) (mk M) = some (mk ((a - b) % M), 0, ()) := by
 obtain ⟨r, e1, w, v⟩ := field_sub_run (mk_w a) (mk_w b) (mk_w M) (by rw [inM hM ha, valM hM]; exact ha.2) (by rw [inM hM hb, valM hM]; exact hb.2)
 rw [inM hM ha, inM hM hb, valM hM] at v
 unfold field_Sub.run field_Sub.top field_by_s2.run field_by_s2.top
 rw [fault2 hM ha hb, Option.bind_some, if_neg (by decide), e1, Option.bind_some, Option.bind_some, mk_eq w v]
theorem mulN {a b : Int} (f : Bool) (ha : 0 <= a /\ a < M) (hb : 0 <= b /\ b < M) : curve_ring__mul_s1.run (mk M) (mk a) (mk b) f = some (mk (a * b % M), f, mk (a * b % M), ()) := by
 unfold curve_ring__mul_s1.run curve_ring__mul_s1.top
 rw [fmulN hM ha hb]; rfl
theorem addN {a b : Int} (f : Bool) (ha : 0 <= a /\ a < M) (hb : 0 <= b /\ b < M) : curve_ring__add_s0.run (mk M) (mk a) (mk b) f = some (mk ((a + b) % M), f, mk ((a + b) % M), ()) := by
 unfold curve_ring__add_s0.run curve_ring__add_s0.top
 rw [faddN hM ha hb]; rfl
theorem subN {a b : Int} (f : Bool) (ha : 0 <= a /\ a < M) (hb : 0 <= b /\ b < M) : curve_ring__sub_s0.run (mk M) (mk a) (mk b) f = some (mk ((a - b) % M), f, mk ((a - b) % M), ()) := by
 unfold curve_ring__sub_s0.run curve_ring__sub_s0.top
 rw [fsubN hM ha hb]; rfl
theorem smallN {n : Int} (f : Bool) (hn : 0 ≤ n ∧ n < 18446744073709551616) : curve_ring__small_s0.run (mk M) n f = some (mk (n % M), f, mk (n % M), ()) := by
  unfold curve_ring__small_s0.run curve_ring__small_s0.top
  have hne : mk M ≠ [0, 0, 0, 0] := (mk_w M).ne.2 (by rw [valM hM]; omega)
  have hn2 : 0 ≤ n ∧ n < M256 := ⟨hn.1, by have : (18446744073709551616 : Int) ≤ M256 := by decide
                                           omega⟩
  obtain ⟨q, r, d1, _, _, d4, d5, _, d7⟩ := wide_divmod (mk_w n).1 (mk_w n).2 (mk_w M).1 (mk_w M).2
  rw [if_neg hne, mk_val hn2, valM hM] at d7
  rw [mk_small hn, d1, Option.bind_some, mk_eq (⟨d4, d5⟩ : W4 r) d7]
theorem invN {a : Int} (f : Bool) (ha : 0 <= a /\ a < M) : ∃ (x : Int) (ok : Bool) (y : List Int), (0 <= x /\ x < M) /\ curve_ring__inv_s0.run (mk M) (mk a) f = some (mk x, (f || !ok), mk x, ()) /\ basculeref_inverse.run (mk a) (mk M) = some (y, ok, ()) /\ (ok = true -> y = mk x) /\ (a = 0 -> ok = false) /\ (ok = true -> a * x % M = 1 % M) := by
 have hlt : val B64 (mk a) < val B64 (mk M) := by rw [inM hM ha, valM hM]; exact ha.2
 have he : faultE (mk M) [mk a] = 0 := by
  rw [show [mk a] = [a].map mk from rfl, faultN hM (fun x hx => by simp only [List.mem_cons, List.not_mem_nil, or_false] at hx; subst hx; exact ha)]
 obtain ⟨x, e, e1, e2, e3, e4⟩ := field_inv (mk_w a) (mk_w M) hlt he
 have := fun N (hN : 512 < N) => ref_inverse 512 N (mk a) (mk M) hN (mk_w a) (mk_w M) hlt (prod_lt (mk_w M).bound (mk_w a).bound)
 obtain ⟨y, ok, f1, f2, f3, f4⟩ := this fuel (by rw [fuel_big]; omega)
 unfold curve_ring__inv_s0.run curve_ring__inv_s0.top
 rw [e1, Option.bind_some]
 by_cases hg : Nat.gcd (val B64 (mk a)).toNat (val B64 (mk M)).toNat = 1
 ·obtain ⟨rfl, l1, c1⟩ := e3 hg
  obtain ⟨rfl, l2, c2⟩ := f3 hg
  have hxy := inv_one ⟨e2.bound.1, l1⟩ ⟨f2.bound.1, l2⟩ c1 c2
  rw [valM hM] at l1
  refine ⟨val B64 x, true, y, ⟨e2.bound.1, l1⟩, ?_, f1, fun _ => ?_, fun h0 => ?_, fun _ => ?_⟩
  ·rw [<- mk_of e2]; cases f <;> rfl
  ·rw [hxy]; exact mk_of f2
  ·subst h0
   rw [inM hM ha, valM hM] at hg
   simp at hg
   omega
  ·rw [inM hM ha, valM hM] at c1
   exact c1
 ·obtain ⟨rfl, rfl⟩ := e4 hg
  have := f4 hg
  subst this
  refine ⟨0, false, y, ⟨by omega, by omega⟩, ?_, f1, fun h => absurd h (by decide), fun _ => rfl, fun h => absurd h (by decide)⟩
  rw [mk_zero]; cases f <;> rfl
theorem productN {a b : Int} (ha : 0 <= a /\ a < M) (hb : 0 <= b /\ b < M) : basculeref_product.run (mk a) (mk b) (mk M) = some (mk (a * b % M)) := by
 obtain ⟨r, e1, w, v⟩ := product_run (mk_w a) (mk_w b) (mk_w M) (by rw [inM hM ha, valM hM]; exact ha.2) (by rw [inM hM hb, valM hM]; exact hb.2)
 rw [inM hM ha, inM hM hb, valM hM] at v
 rw [e1, mk_eq w v]
theorem totalN {a b : Int} (ha : 0 <= a /\ a < M) (hb : 0 <= b /\ b < M) : basculeref_total.run (mk a) (mk b) (mk M) = some (mk ((a + b) % M)) := by
 obtain ⟨r, e1, w, v⟩ := total_run (mk_w a) (mk_w b) (mk_w M) (by rw [valM hM]; omega)
 rw [inM hM ha, inM hM hb, valM hM] at v
 rw [e1, mk_eq w v]
theorem oppositeN {a : Int} (ha : 0 <= a /\ a < M) : basculeref_opposite.run (mk a) (mk M) = some (mk ((-a) % M)) := by
 obtain ⟨r, e1, w, v⟩ := opposite_run (mk_w a) (mk_w M) (by rw [inM hM ha, valM hM]; exact ha.2)
 rw [inM hM ha, valM hM] at v
 rw [e1, mk_eq w v]
theorem byN {n : Int} (hn : 0 <= n /\ n < 4294967296) : basculeref_by.run n (mk M) = some (mk (n % M)) := by
 unfold basculeref_by.run basculeref_by.top
 have e1 : Int.tmod n 4294967296 = n := by rw [tmod_pos hn.1]; exact Int.emod_eq_of_lt hn.1 hn.2
 have e2 : IntKind.u64.wrap (Int.tdiv n 4294967296) = 0 := by rw [tdiv_pos hn.1, Int.ediv_eq_zero_of_lt hn.1 hn.2]; rfl
 rw [e1, e2]
 obtain ⟨r, k1, w, v⟩ := rest_run (d := [n, 0]) (digs_cons.2 ⟨hn, digs_cons.2 ⟨by decide, digs_nil⟩⟩) (by simp) (mk_w M) (by rw [valM hM]; omega)
 rw [k1, Option.bind_some]
 rw [valM hM] at v
 have : val B32 [n, 0] = n := by simp only [val]; omega
 rw [this] at v
 rw [mk_eq w v]
theorem zeroN {a : Int} (ha : 0 <= a /\ a < M) : beqD (.arr 4 (.int .u64)) (mk a) [0, 0, 0, 0] = decide (a = 0) := by
 rw [<- mk_zero, Bool.eq_iff_iff, beqD_iff _ _ _ rfl, decide_eq_true_eq]
 exact mk_inj ⟨ha.1, by omega⟩ ⟨by decide, by decide⟩
theorem isZeroN {a : Int} (ha : 0 <= a /\ a < M) : basculeref_isZero.run (mk a) = some (decide (a = 0)) := by
 unfold basculeref_isZero.run basculeref_isZero.top
 rw [zeroN hM ha]
theorem eqN {a b : Int} (ha : 0 <= a /\ a < M) (hb : 0 <= b /\ b < M) : beqD (.arr 4 (.int .u64)) (mk a) (mk b) = decide (a = b) := by
 rw [Bool.eq_iff_iff, beqD_iff _ _ _ rfl, decide_eq_true_eq]
 exact mk_inj ⟨ha.1, by omega⟩ ⟨hb.1, by omega⟩
end
def sg (x y : Int) : Int := if x < y then -1 else if x > y then 1 else 0
theorem cmpN {a b : Int} (ha : 0 <= a /\ a < M256) (hb : 0 <= b /\ b < M256) : wide_Cmp.run (mk a) (mk b) = some (sg a b) := by
 unfold sg
 rw [wide_cmp (mk_w a).1 (mk_w b).1 (mk_w a).2 (mk_w b).2, mk_val ha, mk_val hb]
theorem orderN {a b : Int} (ha : 0 <= a /\ a < M256) (hb : 0 <= b /\ b < M256) : basculeref_Order.run (mk a) (mk b) = some (sg a b) := by
 unfold sg
 rw [order_run (mk_w a) (mk_w b), mk_val ha, mk_val hb]
end Go.Bx.Rg
namespace Go.Bx
open Go
set_option linter.unusedSimpArgs false
set_option linter.unusedVariables false
section
variable {x m : List Int} {A M : Int}
theorem pow_low (N : Int) (e : Nat) (hN : 0 <= N) (A : Int) : A ^ (N % ((2 ^ (e + 1) : Nat) : Int)).toNat = A ^ (N % ((2 ^ e : Nat) : Int)).toNat * (if N / ((2 ^ e : Nat) : Int) % 2 = 1 then A ^ (2 ^ e) else 1) := by
 have hpos : 0 < ((2 ^ e : Nat) : Int) := by have := Nat.two_pow_pos e; omega
 have e2 : ((2 ^ (e + 1) : Nat) : Int) = ((2 ^ e : Nat) : Int) * 2 := by rw [Nat.pow_succ]; simp
 have key : N % ((2 ^ (e + 1) : Nat) : Int) = N % ((2 ^ e : Nat) : Int) + ((2 ^ e : Nat) : Int) * (N / ((2 ^ e : Nat) : Int) % 2) := by
  have h1 := Int.mul_ediv_add_emod N ((2 ^ e : Nat) : Int)
  have h2 := Int.mul_ediv_add_emod N ((2 ^ (e + 1) : Nat) : Int)
  have h3 : N / ((2 ^ (e + 1) : Nat) : Int) = N / ((2 ^ e : Nat) : Int) / 2 := by rw [e2, <- Int.ediv_ediv_of_nonneg (Int.natCast_nonneg _)]
  rw [h3, e2] at h2
  have h4 : N / ((2 ^ e : Nat) : Int) = 2 * (N / ((2 ^ e : Nat) : Int) / 2) + N / ((2 ^ e : Nat) : Int) % 2 := by omega
  rw [e2]
  generalize N / ((2 ^ e : Nat) : Int) / 2 = q at *
  generalize N / ((2 ^ e : Nat) : Int) % 2 = r at *
  rw [h4, Int.mul_add, <- Int.mul_assoc] at h1
  omega
 have hr0 := Int.emod_nonneg N (show ((2 ^ e : Nat) : Int) ≠ 0 by omega)
 rw [key]
 by_cases hb : N / ((2 ^ e : Nat) : Int) % 2 = 1
 ·rw [if_pos hb, hb, Int.mul_one]
  rw [Int.toNat_add hr0 (by omega), Int.pow_add, Int.toNat_natCast]
 ·have hb0 : N / ((2 ^ e : Nat) : Int) % 2 = 0 := by omega
  rw [if_neg hb, hb0, Int.mul_zero, Int.add_zero, Int.mul_one]
theorem power_inner {α : Type} (k : Nat) (Xt : List Int -> Int -> List Int -> List Int -> List Int -> List Int -> Option α) (hx : W4 x) (hm : W4 m) (hM : 0 < val B64 m) (z : List Int) (j : Nat) (hj : j < 4) :
  ∀ (n i : Nat) (c o : List Int), 64 - i < n -> i <= 64 -> W4 c -> W4 o -> val B64 c = A ^ (2 ^ (64 * j + i)) % val B64 m -> val B64 o = A ^ (val B64 x % ((2 ^ (64 * j + i) : Nat) : Int)).toNat % val B64 m ->
  ∃ c' o', basculeref_power.l1 k Xt n (x.getD j 0) (i : Int) x (j : Int) c m z o = Xt x (j : Int) c' m z o' /\ W4 c' /\ W4 o' /\ val B64 c' = A ^ (2 ^ (64 * j + 64)) % val B64 m /\ val B64 o' = A ^ (val B64 x % ((2 ^ (64 * j + 64) : Nat) : Int)).toNat % val B64 m
 | 0, i, c, o, h, _, _, _, _, _ => by omega
 | n + 1, i, c, o, h, hi, hc, ho, vc, vo => by
  simp only [basculeref_power.l1, basculeref_power.l1s]
  by_cases hlt : i < 64
  ·rw [if_pos (by rw [decide_eq_true_eq]; omega), if_pos (by omega)]
   obtain ⟨X, hX, hX2⟩ := nat_of_dig (digs_getD B64_pos hx.2 j)
   have hbit := bit_at hx.2 (w := j) (k := i) (by omega) hX
   have hs : X >>> i < 18446744073709551616 := Nat.lt_of_le_of_lt (Nat.shiftRight_le _ _) hX2
   have hband : band .u64 (shrI .u64 (x.getD j 0) (i : Int)) 1 = val B64 x / ((2 ^ (64 * j + i) : Nat) : Int) % 2 := by
    rw [hX, shr_nat (by omega), <- hbit]
    exact band_nat (X := X >>> i) (Y := 1) hs (by omega)
   rw [hband]
   have hcl : val B64 c < val B64 m := by rw [vc]; exact Int.emod_lt_of_pos _ hM
   have hol : val B64 o < val B64 m := by rw [vo]; exact Int.emod_lt_of_pos _ hM
   obtain ⟨c2, q1, q2, q3⟩ := product_run hc hc hm hcl hcl
   have vc2 : val B64 c2 = A ^ (2 ^ (64 * j + (i + 1))) % val B64 m := by
    rw [q3, vc, <- Int.mul_emod, <- Int.pow_add, <- Nat.add_assoc, Nat.pow_succ, Nat.mul_two]
   unfold basculeref_power.j0
   have hl := pow_low (val B64 x) (64 * j + i) hx.bound.1 A
   by_cases hb : val B64 x / ((2 ^ (64 * j + i) : Nat) : Int) % 2 = 1
   ·rw [if_pos (by simpa using hb)]
    rw [if_pos hb] at hl
    obtain ⟨o2, p1, p2, p3⟩ := product_run ho hc hm hol hcl
    rw [p1, Option.bind_some, q1, Option.bind_some, i64_succ (by omega)]
    exact power_inner k Xt hx hm hM z j hj n (i + 1) c2 o2 (by omega) (by omega) q2 p2 vc2 (by
     rw [<- Nat.add_assoc, hl, p3, vo, vc, <- Int.mul_emod])
   ·rw [if_neg (by simpa using hb)]
    rw [if_neg hb, Int.mul_one] at hl
    rw [q1, Option.bind_some, i64_succ (by omega)]
    exact power_inner k Xt hx hm hM z j hj n (i + 1) c2 o (by omega) (by omega) q2 ho vc2 (by
     rw [<- Nat.add_assoc, hl, vo])
  ·have : i = 64 := by omega
   subst this
   rw [if_neg (by simp)]
   exact ⟨c, o, rfl, hc, ho, vc, vo⟩
theorem power_outer {α : Type} (k : Nat) (hk : 64 < k) (Xt : List Int -> List Int -> Option α) (hx : W4 x) (hm : W4 m) (hM : 0 < val B64 m) (z : List Int) :
  ∀ (n j : Nat) (c o : List Int), 4 - j < n -> j <= 4 -> W4 c -> W4 o -> val B64 c = A ^ (2 ^ (64 * j)) % val B64 m -> val B64 o = A ^ (val B64 x % ((2 ^ (64 * j) : Nat) : Int)).toNat % val B64 m ->
  ∃ o', basculeref_power.l0 k Xt n x (j : Int) c m z o = Xt z o' /\ W4 o' /\ val B64 o' = A ^ (val B64 x).toNat % val B64 m
 | 0, j, c, o, h, _, _, _, _, _ => by omega
 | n + 1, j, c, o, h, hj, hc, ho, vc, vo => by
  simp only [basculeref_power.l0, basculeref_power.l0s]
  by_cases hlt : j < 4
  ·rw [if_pos (by rw [decide_eq_true_eq]; omega), if_pos (by omega), toNat_nat]
   obtain ⟨c', o', e1, e2, e3, e4, e5⟩ := power_inner (A := A) k (fun (x14 : List Int) (x15 : Int) (c3 : List Int) (c5 : List Int) (c6 : List Int) (c7 : List Int) => basculeref_power.j1 (basculeref_power.l0 k Xt n) x14 x15 c3 c5 c6 c7) hx hm hM z j hlt k 0 c o (by omega) (by omega) hc ho vc vo
   have e0 : ((0 : Nat) : Int) = 0 := rfl
   rw [e0] at e1
   rw [e1]
   unfold basculeref_power.j1
   rw [i64_succ (by omega)]
   have h64 : 64 * j + 64 = 64 * (j + 1) := by omega
   rw [h64] at e4 e5
   exact power_outer k hk Xt hx hm hM z n (j + 1) c' o' (by omega) (by omega) e2 e3 e4 e5
  ·have : j = 4 := by omega
   subst this
   rw [if_neg (by simp)]
   refine ⟨o, rfl, ho, ?_⟩
   rw [vo]
   have hb := val_bound B64_pos hx.2
   rw [hx.1, pow64] at hb
   rw [Int.emod_eq_of_lt hb.1 hb.2]
theorem power_run {a : List Int} (ha : W4 a) (hx : W4 x) (hm : W4 m) (h1 : val B64 a < val B64 m) : ∃ r, basculeref_power.run a x m = some r /\ W4 r /\ val B64 r = val B64 a ^ (val B64 x).toNat % val B64 m := by
 have ba := ha.bound
 have hM : 0 < val B64 m := by omega
 obtain ⟨o, o1, o2, o3⟩ := rest_run (d := [1]) (digs1 (by omega)) (by simp) hm hM
 have v1 : val B32 [1] = 1 := rfl
 rw [v1] at o3
 unfold basculeref_power.run basculeref_power.top
 rw [o1, Option.bind_some]
 have := fun N (hN : 64 < N) => power_outer (A := val B64 a) N hN (fun (c6 : List Int) (c7 : List Int) => basculeref_power.j2 (fun (c6 : List Int) => some c6) c6 c7) hx hm hM [0, 0, 0, 0] N 0 a o (by omega) (by omega) ha o2 (by
  rw [Nat.mul_zero, Nat.pow_zero, Int.pow_succ, Int.pow_zero, Int.one_mul, Int.emod_eq_of_lt ba.1 h1]) (by
  rw [o3, Nat.mul_zero, Nat.pow_zero]; simp)
 obtain ⟨r, r1, r2, r3⟩ := this fuel (by rw [fuel_big]; omega)
 exact ⟨r, r1, r2, r3⟩
end
end Go.Bx
namespace Go.Bx.Rg
open Go Go.Bx
set_option linter.unusedSimpArgs false
set_option linter.unusedVariables false
section
variable {M : Int} (hM : 1 < M /\ M < M256)
include hM
theorem powerN {a x : Int} (ha : 0 <= a /\ a < M) (hx : 0 <= x /\ x < M256) : basculeref_power.run (mk a) (mk x) (mk M) = some (mk (a ^ x.toNat % M)) := by
 obtain ⟨r, e1, w, v⟩ := power_run (mk_w a) (mk_w x) (mk_w M) (by rw [inM hM ha, valM hM]; exact ha.2)
 rw [inM hM ha, mk_val hx, valM hM] at v
 rw [e1, mk_eq w v]
end
end Go.Bx.Rg
namespace Go.Bx.Rg
open Go Go.Bx
set_option linter.unusedSimpArgs false
set_option linter.unusedVariables false
abbrev PtD : Type := List Int × List Int × Bool × Unit
abbrev CvD : Type := List Int × List Int × List Int × List Int × PtD × Unit
theorem mulL (P a b : Int) : (a % P) * b % P = a * b % P := by rw [Int.mul_emod, Int.emod_emod, <- Int.mul_emod]
theorem mulR (P a b : Int) : a * (b % P) % P = a * b % P := by rw [Int.mul_emod, Int.emod_emod, <- Int.mul_emod]
theorem addL (P a b : Int) : (a % P + b) % P = (a + b) % P := Int.emod_add_emod _ _ _
theorem addR (P a b : Int) : (a + b % P) % P = (a + b) % P := Int.add_emod_emod _ _ _
theorem subL (P a b : Int) : (a % P - b) % P = (a - b) % P := by rw [Int.sub_emod, Int.emod_emod, <- Int.sub_emod]
theorem subR (P a b : Int) : (a - b % P) % P = (a - b) % P := by rw [Int.sub_emod, Int.emod_emod, <- Int.sub_emod]
theorem negM (P a : Int) : (-(a % P)) % P = (-a) % P := by
 have := subR P 0 a
 rwa [Int.zero_sub, Int.zero_sub] at this
theorem zeroW {a : Int} (ha : 0 <= a /\ a < M256) : beqD (.arr 4 (.int .u64)) (mk a) [0, 0, 0, 0] = decide (a = 0) := by
 rw [<- mk_zero, Bool.eq_iff_iff, beqD_iff _ _ _ rfl, decide_eq_true_eq]
 exact mk_inj ha ⟨by decide, by decide⟩
theorem lt_d (x y : Int) : decide (sg x y < 0) = decide (x < y) := by
 unfold sg
 by_cases h : x < y
 ·simp [h]
 ·rw [if_neg h]
  by_cases g : x > y
  ·rw [if_pos g]; simp [h]
  ·rw [if_neg g]; simp [h]
theorem gt_d (x y : Int) : decide (sg x y > 0) = decide (x > y) := by
 unfold sg
 by_cases h : x < y
 ·rw [if_pos h]; simp; omega
 ·rw [if_neg h]
  by_cases g : x > y
  ·rw [if_pos g]; simp [g]
  ·rw [if_neg g]; simp [g]
theorem le_d (x y : Int) : decide (sg x y <= 0) = !decide (x > y) := by
 unfold sg
 by_cases h : x < y
 ·rw [if_pos h]; simp; omega
 ·rw [if_neg h]
  by_cases g : x > y
  ·rw [if_pos g]; simp [g]
  ·rw [if_neg g]; simp [g]
theorem ge_d (x y : Int) : decide (sg x y >= 0) = !decide (x < y) := ge_dec x y
def onB (P A B x y : Int) (f : Bool) : Bool :=
 if f = true then decide (x = 0) && decide (y = 0) else decide (x < P) && decide (y < P) && decide (y * y % P = (x * (x * x) + A * x + B) % P)
section
variable {P A B : Int} (hP : 1 < P /\ P < M256) (hA : 0 <= A /\ A < P) (hB : 0 <= B /\ B < P) (Nw : List Int) (bs : PtD)
include hP hA hB
theorem sideN {x : Int} (f : Bool) (hx : 0 <= x /\ x < P) : curve_side_s0.run (mk P, mk A, mk B, Nw, bs, ()) (mk P) (mk x) f = some (mk ((x * (x * x) + A * x + B) % P), f, mk ((x * (x * x) + A * x + B) % P), ()) := by
 unfold curve_side_s0.run curve_side_s0.top
 have m := modIn hP
 rw [mulN hP f hx hx, Option.bind_some]
 simp only []
 rw [mulN hP f hx (m _), Option.bind_some]
 simp only []
 rw [mulN hP f hA hx, Option.bind_some]
 simp only []
 rw [addN hP f (m _) (m _), Option.bind_some]
 simp only []
 rw [addN hP f (m _) hB, Option.bind_some]
 simp only [mulR, addL, addR]
theorem rightN {x : Int} (hx : 0 <= x /\ x < P) : basculeref_right.run (mk P, mk A, mk B, Nw, bs, ()) (mk x) = some (mk ((x * (x * x) + A * x + B) % P)) := by
 unfold basculeref_right.run basculeref_right.top
 have m := modIn hP
 rw [productN hP hx hx, Option.bind_some]
 simp only []
 rw [totalN hP (m _) hA, Option.bind_some, productN hP hx (m _), Option.bind_some, totalN hP (m _) hB, Option.bind_some]
 simp only [mulR, addL, addR]
 rw [show x * (x * x + A) + B = x * (x * x) + A * x + B by grind]
theorem on_both {x y : Int} (f : Bool) (hx : 0 <= x /\ x < M256) (hy : 0 <= y /\ y < M256) :
  curve_on.run (mk P, mk A, mk B, Nw, bs, ()) (mk x, mk y, f, ()) = some (onB P A B x y f) /\ basculeref_isOn.run (mk P, mk A, mk B, Nw, bs, ()) (mk x, mk y, f, ()) = some (onB P A B x y f) := by
 have hPw : 0 <= P /\ P < M256 := ⟨by omega, hP.2⟩
 have m := modIn hP
 unfold curve_on.run curve_on.top basculeref_isOn.run basculeref_isOn.top onB basculeref_isZero.run basculeref_isZero.top
 cases f with
 | true =>
  simp only [if_true, zeroW hx, zeroW hy, Option.bind_some, cond_and]
  first | exact ⟨rfl, by cases decide (x = 0) <;> rfl⟩ | (cases decide (x = 0) <;> simp)
 | false =>
  simp only [Bool.false_eq_true, if_false, cmpN hx hPw, orderN hx hPw, cmpN hy hPw, orderN hy hPw, Option.bind_some, ge_d, lt_d, cond_and, cond_or]
  by_cases h1 : x < P
  ·by_cases h2 : y < P
   ·have q1 : (0 <= x /\ x < P) := ⟨hx.1, h1⟩
    have q2 : (0 <= y /\ y < P) := ⟨hy.1, h2⟩
    unfold curve_ringOf_s0.run curve_ringOf_s0.top
    simp only [h1, h2, decide_true, Bool.not_true, BEq.rfl, if_true, Option.bind_some, ge_d, lt_d, Bool.or_self, Bool.false_eq_true, if_false, mulN hP false q2 q2, sideN hP hA hB Nw bs false q1, productN hP q2 q2, rightN hP hA hB Nw bs q1, eqN hP (m _) (m _), Bool.and_self, Bool.true_and]
    exact ⟨trivial, trivial⟩
   ·simp only [h1, h2, decide_true, decide_false, Bool.not_true, Bool.not_false, Bool.and_true, Bool.true_and, Bool.and_false, Bool.false_and, Bool.or_true, Bool.true_or, Bool.or_false, Bool.false_or, BEq.rfl, if_true, if_false, Bool.false_eq_true, Option.bind_some, le_d, ge_d, lt_d, gt_d, show (true == false) = false from rfl, show (false == true) = false from rfl, and_self]
  ·simp only [h1, decide_true, decide_false, Bool.not_true, Bool.not_false, Bool.and_true, Bool.true_and, Bool.and_false, Bool.false_and, Bool.or_true, Bool.true_or, Bool.or_false, Bool.false_or, BEq.rfl, if_true, if_false, Bool.false_eq_true, Option.bind_some, le_d, ge_d, lt_d, gt_d, show (true == false) = false from rfl, show (false == true) = false from rfl, and_self]
end
theorem band3 {n : Int} (h : 0 <= n /\ n < 18446744073709551616) : band .u64 n 3 = n % 4 := by
 obtain ⟨X, rfl⟩ := Int.eq_ofNat_of_zero_le h.1
 have hX : X < 18446744073709551616 := by omega
 have := band_nat (X := X) (Y := 3) hX (by decide)
 rw [show ((3 : Nat) : Int) = 3 from rfl] at this
 rw [this, show (3 : Nat) = 2 ^ 2 - 1 from rfl, Nat.and_two_pow_sub_one_eq_mod]
 push_cast; rfl
def goodC (P A B N : Int) : Bool := decide (P > 3) && decide (P % 4 = 3) && decide (A < P) && decide (B < P) && decide (N > 1)
def discZ (P A B : Int) : Bool := decide ((4 * (A * (A * A)) + 27 * (B * B)) % P = 0)
def curveE (P A B N x y : Int) (f : Bool) : Int := if goodC P A B N = true then (if (discZ P A B || f || !onB P A B x y f) = true then 16 else 0) else 16
theorem curve_both {P A B N x y : Int} (f : Bool) (hP : 0 <= P /\ P < M256) (hA : 0 <= A /\ A < M256) (hB : 0 <= B /\ B < M256) (hN : 0 <= N /\ N < M256) (hx : 0 <= x /\ x < M256) (hy : 0 <= y /\ y < M256) :
  curve_Check.run (mk P, mk A, mk B, mk N, (mk x, mk y, f, ()), ()) = some (curveE P A B N x y f) /\ basculeref_CurveFault.run (mk P, mk A, mk B, mk N, (mk x, mk y, f, ()), ()) = some (curveE P A B N x y f) := by
 have e3 : ([3, 0, 0, 0] : List Int) = mk 3 := by decide
 have e2 : ([2, 0, 0, 0] : List Int) = mk 2 := by decide
 have e1 : ([1, 0, 0, 0] : List Int) = mk 1 := by decide
 have w3 : (0 : Int) <= 3 /\ 3 < M256 := by decide
 have w2 : (0 : Int) <= 2 /\ 2 < M256 := by decide
 have w1 : (0 : Int) <= 1 /\ 1 < M256 := by decide
 have g0 : (mk P).getD 0 0 = P % 18446744073709551616 := rfl
 have r0 : 0 <= P % 18446744073709551616 /\ P % 18446744073709551616 < 18446744073709551616 := ⟨Int.emod_nonneg _ (by decide), Int.emod_lt_of_pos _ (by decide)⟩
 have t0 : (Int.tmod ((mk P).getD 0 0) 4 != 3) = !decide (P % 4 = 3) := by
  rw [g0, tmod_pos r0.1, Bool.eq_iff_iff, bne_iff_ne, Bool.not_eq_true', decide_eq_false_iff_not]; omega
 have b0 : (band .u64 ((mk P).getD 0 0) 3 == 3) = decide (P % 4 = 3) := by
  rw [g0, band3 r0, Bool.eq_iff_iff, beq_iff_eq, decide_eq_true_eq]; omega
 unfold curve_Check.run curve_Check.top basculeref_CurveFault.run basculeref_CurveFault.top curveE goodC
 simp only [e3, e2, e1, cmpN hP w3, orderN hP w3, cmpN hA hP, orderN hA hP, cmpN hB hP, orderN hB hP, cmpN hN w1, orderN hN w1, Option.bind_some, t0, b0, cond_and, cond_or, ge_d, lt_d, gt_d, le_d]
 by_cases h1 : P > 3
 ·by_cases h2 : P % 4 = 3
  ·by_cases h3 : A < P
   ·by_cases h4 : B < P
    ·by_cases h5 : N > 1
     ·have hM : 1 < P /\ P < M256 := ⟨by omega, hP.2⟩
      have qA : 0 <= A /\ A < P := ⟨hA.1, h3⟩
      have qB : 0 <= B /\ B < P := ⟨hB.1, h4⟩
      have m := modIn hM
      obtain ⟨o1, o2⟩ := on_both hM qA qB (mk N) (mk x, mk y, f, ()) f hx hy
      have pw3 := powerN hM qA w3
      have pw2 := powerN hM qB w2
      have hd1 : (4 % P * (A * (A * A % P) % P) % P + 27 % P * (B * B % P) % P) % P = (4 * (A * (A * A)) + 27 * (B * B)) % P := by simp only [mulL, mulR, addL, addR]
      have hd2 : (4 % P * (A ^ (3 : Int).toNat % P) % P + 27 % P * (B ^ (2 : Int).toNat % P) % P) % P = (4 * (A * (A * A)) + 27 * (B * B)) % P := by
       simp only [mulL, mulR, addL, addR]
       rw [show A ^ (3 : Int).toNat = A * (A * A) by show A ^ 3 = _; grind, show B ^ (2 : Int).toNat = B * B by show B ^ 2 = _; grind]
      unfold curve_ringOf_s0.run curve_ringOf_s0.top
      simp only [h1, h2, h3, h4, h5, decide_true, Bool.not_true, Bool.or_self, BEq.rfl, if_true, Option.bind_some, ge_d, lt_d, le_d, gt_d, Bool.and_self, Bool.false_eq_true, if_false,
       smallN hM _ (show (0 : Int) <= 4 /\ (4 : Int) < 18446744073709551616 by decide), smallN hM _ (show (0 : Int) <= 27 /\ (27 : Int) < 18446744073709551616 by decide), mulN hM _ qA qA, mulN hM _ qB qB, mulN hM _ qA (m _), mulN hM _ (m _) (m _), addN hM _ (m _) (m _),
       byN hM (show (0 : Int) <= 4 /\ (4 : Int) < 4294967296 by decide), byN hM (show (0 : Int) <= 27 /\ (27 : Int) < 4294967296 by decide), pw3, pw2, productN hM (m _) (m _), totalN hM (m _) (m _), zeroN hM (m _), isZeroN hM (m _), hd1, hd2, o1, o2]
      rw [show decide ((4 * (A * (A * A)) + 27 * (B * B)) % P = 0) = discZ P A B from rfl]
      cases discZ P A B <;> cases f <;> cases onB P A B x y false <;> cases onB P A B x y true <;> exact ⟨rfl, rfl⟩
     ·simp only [h1, h2, h3, h4, h5, decide_true, decide_false, Bool.not_true, Bool.not_false, Bool.and_true, Bool.true_and, Bool.and_false, Bool.false_and, Bool.or_true, Bool.true_or, Bool.or_false, Bool.false_or, BEq.rfl, if_true, if_false, Bool.false_eq_true, Option.bind_some, le_d, ge_d, lt_d, gt_d, show (true == false) = false from rfl, show (false == true) = false from rfl, and_self]
    ·simp only [h1, h2, h3, h4, decide_true, decide_false, Bool.not_true, Bool.not_false, Bool.and_true, Bool.true_and, Bool.and_false, Bool.false_and, Bool.or_true, Bool.true_or, Bool.or_false, Bool.false_or, BEq.rfl, if_true, if_false, Bool.false_eq_true, Option.bind_some, le_d, ge_d, lt_d, gt_d, show (true == false) = false from rfl, show (false == true) = false from rfl, and_self]
   ·simp only [h1, h2, h3, decide_true, decide_false, Bool.not_true, Bool.not_false, Bool.and_true, Bool.true_and, Bool.and_false, Bool.false_and, Bool.or_true, Bool.true_or, Bool.or_false, Bool.false_or, BEq.rfl, if_true, if_false, Bool.false_eq_true, Option.bind_some, le_d, ge_d, lt_d, gt_d, show (true == false) = false from rfl, show (false == true) = false from rfl, and_self]
  ·simp only [h1, h2, decide_true, decide_false, Bool.not_true, Bool.not_false, Bool.and_true, Bool.true_and, Bool.and_false, Bool.false_and, Bool.or_true, Bool.true_or, Bool.or_false, Bool.false_or, BEq.rfl, if_true, if_false, Bool.false_eq_true, Option.bind_some, le_d, ge_d, lt_d, gt_d, show (true == false) = false from rfl, show (false == true) = false from rfl, and_self]
 ·simp only [h1, decide_true, decide_false, Bool.not_true, Bool.not_false, Bool.and_true, Bool.true_and, Bool.and_false, Bool.false_and, Bool.or_true, Bool.true_or, Bool.or_false, Bool.false_or, BEq.rfl, if_true, if_false, Bool.false_eq_true, Option.bind_some, le_d, ge_d, lt_d, gt_d, show (true == false) = false from rfl, show (false == true) = false from rfl, and_self]
theorem curveE_ok {P A B N x y : Int} {f : Bool} (h : curveE P A B N x y f = 0) : 3 < P /\ P % 4 = 3 /\ A < P /\ B < P := by
 unfold curveE at h
 by_cases g : goodC P A B N = true
 ·unfold goodC at g
  simp only [Bool.and_eq_true, decide_eq_true_eq] at g
  exact ⟨g.1.1.1.1, g.1.1.1.2, g.1.1.2, g.1.2⟩
 ·rw [if_neg g] at h; exact absurd h (by decide)
theorem curveE_or (P A B N x y : Int) (f : Bool) : curveE P A B N x y f = 0 \/ curveE P A B N x y f = 16 := by
 unfold curveE
 split
 ·split
  ·exact .inr rfl
  ·exact .inl rfl
 ·exact .inr rfl
end Go.Bx.Rg
