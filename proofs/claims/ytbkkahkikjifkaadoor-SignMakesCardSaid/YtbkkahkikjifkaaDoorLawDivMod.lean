/- A part of a framework that reads Go code as functions of plain data; or a law about such functions. -/
import Derived.Test.YtbkkahkikjifkaaDoorLawWideSums0
import Derived.Test.YtbkkahkikjifkaaDoorLawWideCmp
import Derived.Test.YtbkkahkikjifkaaDoorLawBeq
import Derived.Test.YtbkkahkikjifkaaDoorLawDivided
import Derived.Test.YtbkkahkikjifkaaDoorFnSignMakes0
namespace Go.Bx
open Go
set_option linter.unusedSimpArgs false
set_option linter.unusedVariables false
theorem val_set (B : Int) : ∀ (l : List Int) (i : Nat) (v : Int), i < l.length -> val B (l.set i v) = val B l + B ^ i * (v - l.getD i 0)
 | [], i, v, h => by simp at h
 | d :: l, 0, v, _ => by simp [val, List.getD]; omega
 | d :: l, i + 1, v, h => by
  have ih := val_set B l i v (by simpa using h)
  simp only [List.set_cons_succ, val, ih, List.getD_cons_succ, Int.pow_succ]
  rw [Int.mul_add, Int.mul_comm (B ^ i) B, Int.mul_assoc, Int.add_assoc]
def tab8 : List Int := [0, 1, 2, 2, 3, 3, 3, 3, 4, 4, 4, 4, 4, 4, 4, 4, 5, 5, 5, 5, 5, 5, 5, 5, 5, 5, 5, 5, 5, 5, 5, 5, 6, 6, 6, 6, 6, 6, 6, 6, 6, 6, 6, 6, 6, 6, 6, 6, 6, 6, 6, 6, 6, 6, 6, 6, 6, 6, 6, 6, 6, 6, 6, 6, 7, 7, 7, 7, 7, 7, 7, 7, 7, 7, 7, 7, 7, 7, 7, 7, 7, 7, 7, 7, 7, 7, 7, 7, 7, 7, 7, 7, 7, 7, 7, 7, 7, 7, 7, 7, 7, 7, 7, 7, 7, 7, 7, 7, 7, 7, 7, 7, 7, 7, 7, 7, 7, 7, 7, 7, 7, 7, 7, 7, 7, 7, 7, 7, 8, 8, 8, 8, 8, 8, 8, 8, 8, 8, 8, 8, 8, 8, 8, 8, 8, 8, 8, 8, 8, 8, 8, 8, 8, 8, 8, 8, 8, 8, 8, 8, 8, 8, 8, 8, 8, 8, 8, 8, 8, 8, 8, 8, 8, 8, 8, 8, 8, 8, 8, 8, 8, 8, 8, 8, 8, 8, 8, 8, 8, 8, 8, 8, 8, 8, 8, 8, 8, 8, 8, 8, 8, 8, 8, 8, 8, 8, 8, 8, 8, 8, 8, 8, 8, 8, 8, 8, 8, 8, 8, 8, 8, 8, 8, 8, 8, 8, 8, 8, 8, 8, 8, 8, 8, 8, 8, 8, 8, 8, 8, 8, 8, 8, 8, 8, 8, 8, 8, 8, 8, 8, 8, 8, 8, 8, 8, 8]
def tabOk (n : Nat) : Bool := Nat.ble 1 ((2 : Nat) ^ (tab8.getD n 0).toNat - n) && decide (0 <= tab8.getD n 0) && decide (tab8.getD n 0 <= 8)
theorem tab_all : (List.range 256).all tabOk = true := by kernel_rfl
theorem tab_at {n : Nat} (h : n < 256) : ∃ t : Nat, tab8.getD n 0 = (t : Int) /\ t <= 8 /\ n < 2 ^ t := by
 have := List.all_eq_true.1 tab_all n (List.mem_range.2 h)
 unfold tabOk at this
 simp only [Bool.and_eq_true, decide_eq_true_eq, Nat.ble_eq] at this
 refine ⟨(tab8.getD n 0).toNat, by omega, by omega, by omega⟩
theorem u8_nat {X : Nat} (h : X < 256) : IntKind.u8.wrap (X : Int) = (X : Int) := wrap_u8 (by omega) (by omega)
theorem i64_add {a b : Nat} (h : a + b < 9223372036854775808) : IntKind.i64.wrap ((a : Int) + (b : Int)) = ((a + b : Nat) : Int) := by
 rw [wrap_i64 (by omega) (by omega)]; omega
theorem len_j2 {α : Type} (Rt : Int -> Option α) {X n : Nat} (hX : X < 256) (hn : n <= 56) : ∃ m : Nat, math_bits_Len64.j2 Rt (X : Int) (n : Int) = Rt (m : Int) /\ n <= m /\ m <= n + 8 /\ X < 2 ^ (m - n) := by
 obtain ⟨t, t1, t2, t3⟩ := tab_at hX
 refine ⟨n + t, ?_, by omega, by omega, by rw [Nat.add_sub_cancel_left]; exact t3⟩
 have hj : math_bits_Len64.j2 Rt (X : Int) (n : Int) = if 0 <= (IntKind.u8.wrap (X : Int)) /\ (IntKind.u8.wrap (X : Int)) < (256 : Int) then Rt (IntKind.i64.wrap ((n : Int) + (IntKind.i64.wrap (List.getD tab8 (Int.toNat (IntKind.u8.wrap (X : Int))) 0)))) else none := by kernel_rfl
 rw [hj, u8_nat hX, if_pos (by omega), toNat_nat, t1]
 have e : IntKind.i64.wrap (t : Int) = (t : Int) := wrap_i64 (by omega) (by omega)
 rw [e, i64_add (by omega)]
theorem shr_small {X k m : Nat} (h : X >>> k < 2 ^ m) : X < 2 ^ (k + m) := by
 rw [Nat.shiftRight_eq_div_pow] at h
 rw [Nat.pow_add]
 have := (Nat.div_lt_iff_lt_mul (Nat.two_pow_pos k)).1 h
 rw [Nat.mul_comm]; exact this
theorem len_j1 {α : Type} (Rt : Int -> Option α) {X n : Nat} (hX : X < 65536) (hn : n <= 48) : ∃ m : Nat, math_bits_Len64.j1 Rt (X : Int) (n : Int) = Rt (m : Int) /\ n <= m /\ m <= n + 16 /\ X < 2 ^ (m - n) := by
 unfold math_bits_Len64.j1
 by_cases h : X >= 256
 ·rw [if_pos (by rw [decide_eq_true_eq]; omega)]
  have e1 : shrI .u64 (X : Int) 8 = ((X >>> 8 : Nat) : Int) := shr_nat (X := X) (k := 8) (by omega)
  have e2 : IntKind.i64.wrap ((n : Int) + 8) = ((n + 8 : Nat) : Int) := i64_add (b := 8) (by omega)
  rw [e1, e2]
  obtain ⟨m, m1, m2, m3, m4⟩ := len_j2 Rt (X := X >>> 8) (n := n + 8) (by rw [Nat.shiftRight_eq_div_pow]; omega) (by omega)
  refine ⟨m, m1, by omega, by omega, ?_⟩
  have := shr_small m4
  rw [show 8 + (m - (n + 8)) = m - n by omega] at this
  exact this
 ·rw [if_neg (by rw [decide_eq_true_eq]; omega)]
  obtain ⟨m, m1, m2, m3, m4⟩ := len_j2 Rt (X := X) (n := n) (by omega) (by omega)
  exact ⟨m, m1, m2, by omega, m4⟩
theorem len_j0 {α : Type} (Rt : Int -> Option α) {X n : Nat} (hX : X < 4294967296) (hn : n <= 32) : ∃ m : Nat, math_bits_Len64.j0 Rt (X : Int) (n : Int) = Rt (m : Int) /\ n <= m /\ m <= n + 32 /\ X < 2 ^ (m - n) := by
 unfold math_bits_Len64.j0
 by_cases h : X >= 65536
 ·rw [if_pos (by rw [decide_eq_true_eq]; omega)]
  have e1 : shrI .u64 (X : Int) 16 = ((X >>> 16 : Nat) : Int) := shr_nat (X := X) (k := 16) (by omega)
  have e2 : IntKind.i64.wrap ((n : Int) + 16) = ((n + 16 : Nat) : Int) := i64_add (b := 16) (by omega)
  rw [e1, e2]
  obtain ⟨m, m1, m2, m3, m4⟩ := len_j1 Rt (X := X >>> 16) (n := n + 16) (by rw [Nat.shiftRight_eq_div_pow]; omega) (by omega)
  refine ⟨m, m1, by omega, by omega, ?_⟩
  have := shr_small m4
  rw [show 16 + (m - (n + 16)) = m - n by omega] at this
  exact this
 ·rw [if_neg (by rw [decide_eq_true_eq]; omega)]
  obtain ⟨m, m1, m2, m3, m4⟩ := len_j1 Rt (X := X) (n := n) (by omega) (by omega)
  exact ⟨m, m1, m2, by omega, m4⟩
theorem len64 {X : Nat} (hX : X < 18446744073709551616) : ∃ m : Nat, math_bits_Len64.run (X : Int) = some (m : Int) /\ m <= 64 /\ X < 2 ^ m := by
 unfold math_bits_Len64.run math_bits_Len64.top
 by_cases h : X >= 4294967296
 ·rw [if_pos (by rw [decide_eq_true_eq]; omega)]
  have e1 : shrI .u64 (X : Int) 32 = ((X >>> 32 : Nat) : Int) := shr_nat (X := X) (k := 32) (by omega)
  rw [e1]
  obtain ⟨m, m1, m2, m3, m4⟩ := len_j0 (fun (x2 : Int) => some x2) (X := X >>> 32) (n := 32) (by rw [Nat.shiftRight_eq_div_pow]; omega) (by omega)
  refine ⟨m, m1, by omega, ?_⟩
  have := shr_small m4
  rw [show 32 + (m - 32) = m by omega] at this
  exact this
 ·rw [if_neg (by rw [decide_eq_true_eq]; omega)]
  obtain ⟨m, m1, m2, m3, m4⟩ := len_j0 (fun (x2 : Int) => some x2) (X := X) (n := 0) (by omega) (by omega)
  exact ⟨m, m1, by omega, by simpa using m4⟩
theorem nat_of_dig {d : Int} (h : 0 <= d /\ d < B64) : ∃ X : Nat, d = (X : Int) /\ X < 18446744073709551616 :=
 ⟨d.toNat, by omega, by have : d < 18446744073709551616 := h.2; omega⟩
theorem pow64 (i : Nat) : B64 ^ i = ((2 ^ (64 * i) : Nat) : Int) := by
 rw [Nat.pow_mul]; simp
theorem length_loop {α : Type} (k : Nat) (Xt : Int -> Option α) (l : List Int) (hl : l.length = 4) (dl : digs B64 l) : ∀ (n i m : Nat), i <= 4 -> 4 - i < n -> m <= 64 * i -> val B64 (l.take i) < ((2 ^ m : Nat) : Int) ->
  ∃ m' : Nat, wide_length.l0 k Xt n (m : Int) l (i : Int) = Xt (m' : Int) /\ m' <= 256 /\ val B64 l < ((2 ^ m' : Nat) : Int)
 | 0, i, m, _, h, _, _ => by omega
 | n + 1, i, m, hi, h, hm, hv => by
  simp only [wide_length.l0, wide_length.l0s]
  by_cases hlt : i < 4
  ·rw [if_pos (by rw [decide_eq_true_eq]; omega), if_pos (by omega), toNat_nat]
   unfold wide_length.j0
   rw [i64_succ (by omega)]
   have ht := val_take B64 l i
   obtain ⟨X, hX, hX2⟩ := nat_of_dig (digs_getD B64_pos dl i)
   rw [hX] at ht ⊢
   by_cases h0 : X = 0
   ·subst h0
    rw [if_neg (by simp)]
    refine length_loop k Xt l hl dl n (i + 1) m (by omega) (by omega) (by omega) ?_
    rw [ht]; simpa using hv
   ·rw [if_pos (by simp; omega)]
    obtain ⟨t, t1, t2, t3⟩ := len64 hX2
    rw [t1, Option.bind_some]
    have e1 : IntKind.i64.wrap (64 * (i : Int)) = ((64 * i : Nat) : Int) := by rw [wrap_i64 (by omega) (by omega)]; omega
    rw [e1, i64_add (by omega)]
    refine length_loop k Xt l hl dl n (i + 1) (64 * i + t) (by omega) (by omega) (by omega) ?_
    have hb := (val_take_bound B64_pos dl i).2
    rw [ht]
    rw [pow64] at hb ⊢
    rw [Nat.pow_add]
    generalize 2 ^ (64 * i) = D at *
    have := Nat.mul_le_mul_left D t3
    generalize 2 ^ t = Y at *
    have e : ((D * Y : Nat) : Int) = (D : Int) * (Y : Int) := by simp
    have e' : ((D * (X + 1) : Nat) : Int) = (D : Int) * (X : Int) + (D : Int) := by rw [Nat.mul_add]; simp
    have : ((D * (X + 1) : Nat) : Int) <= ((D * Y : Nat) : Int) := Int.ofNat_le.2 this
    omega
  ·have : i = 4 := by omega
   subst this
   rw [if_neg (by simp)]
   refine ⟨m, rfl, by omega, ?_⟩
   rw [List.take_of_length_le (by omega)] at hv
   exact hv
theorem wide_length_run {l : List Int} (hl : l.length = 4) (dl : digs B64 l) : ∃ m : Nat, wide_length.run l = some (m : Int) /\ m <= 256 /\ val B64 l < ((2 ^ m : Nat) : Int) := by
 unfold wide_length.run wide_length.top
 have := fun N (hN : 4 < N) => length_loop N (fun (x3 : Int) => wide_length.j1 (fun (x2 : Int) => some x2) x3) l hl dl N 0 0 (by omega) (by omega) (by omega) (by simp [val])
 exact this fuel (by rw [fuel_big]; omega)
theorem drop_div {l : List Int} (dl : digs B64 l) (w : Nat) : val B64 l / ((2 ^ (64 * w) : Nat) : Int) = val B64 (l.drop w) := by
 by_cases hw : w <= l.length
 ·have h0 := val_ge B64 l w
  rw [Nat.min_eq_left hw] at h0
  obtain ⟨h1, h2⟩ := val_take_bound B64_pos dl w
  rw [pow64] at h0 h2
  generalize ((2 ^ (64 * w) : Nat) : Int) = D at *
  refine div_of (by omega) ?_ ?_
  ·rw [Int.mul_comm]; omega
  ·rw [Int.add_mul, Int.mul_comm]; omega
 ·rw [List.drop_eq_nil_of_le (by omega)]
  obtain ⟨h1, h2⟩ := val_bound B64_pos dl
  simp only [val]
  refine Int.ediv_eq_zero_of_lt h1 (Int.lt_of_lt_of_le h2 ?_)
  rw [<- pow64]
  exact pow_mono B64_pos (by omega)
theorem bit_at {l : List Int} (dl : digs B64 l) {w k : Nat} (hk : k < 64) {X : Nat} (hX : l.getD w 0 = (X : Int)) :
  ((X >>> k &&& 1 : Nat) : Int) = val B64 l / ((2 ^ (64 * w + k) : Nat) : Int) % 2 := by
 have e : ((2 ^ (64 * w + k) : Nat) : Int) = ((2 ^ (64 * w) : Nat) : Int) * ((2 ^ k : Nat) : Int) := by rw [Nat.pow_add]; simp
 rw [e, <- Int.ediv_ediv_of_nonneg (Int.natCast_nonneg _), drop_div dl w, val_drop B64 l w, hX]
 have hp : (2 : Nat) ^ 64 = 2 ^ k * (2 * 2 ^ (63 - k)) := by
  rw [<- Nat.mul_assoc, <- Nat.pow_succ, <- Nat.pow_add, show k + 1 + (63 - k) = 64 by omega]
 have hB : B64 = ((2 ^ k : Nat) : Int) * (2 * ((2 ^ (63 - k) : Nat) : Int)) := by
  have : B64 = ((2 ^ 64 : Nat) : Int) := rfl
  rw [this, hp]; simp
 have hpos : 0 < ((2 ^ k : Nat) : Int) := by have := Nat.two_pow_pos k; omega
 rw [hB, Int.mul_assoc, Int.add_mul_ediv_left _ _ (by omega), Int.mul_assoc, Int.add_mul_emod_self_left]
 rw [Nat.and_one_is_mod, Nat.shiftRight_eq_div_pow]
 omega
theorem split64 (i : Nat) : 64 * (i / 64) + i % 64 = i := by omega
theorem wide_bit_run {l : List Int} (hl : l.length = 4) (dl : digs B64 l) {i : Nat} (hi : i < 256) : wide_bit.run l (i : Int) = some (val B64 l / ((2 ^ i : Nat) : Int) % 2) := by
 unfold wide_bit.run wide_bit.top
 have e1 : IntKind.i64.wrap (Int.tdiv (i : Int) 64) = ((i / 64 : Nat) : Int) := i64_tdiv (c := 64) (by omega)
 have e2 : Int.tmod (i : Int) 64 = ((i % 64 : Nat) : Int) := tmod_nat i 64
 rw [e1, e2, if_pos (by omega), if_pos (by omega), toNat_nat]
 obtain ⟨X, hX, hX2⟩ := nat_of_dig (digs_getD B64_pos dl (i / 64))
 have hb := bit_at dl (w := i / 64) (k := i % 64) (by omega) hX
 rw [hX, shr_nat (by omega)]
 have hs : X >>> (i % 64) < 18446744073709551616 := Nat.lt_of_le_of_lt (Nat.shiftRight_le _ _) hX2
 have := band_nat (X := X >>> (i % 64)) (Y := 1) hs (by omega)
 rw [split64] at hb
 rw [<- hb]
 exact congrArg some this
theorem bor_add {X k b : Nat} (hX : X < 18446744073709551616) (hb : b < 2 ^ k) (hk : k <= 64) (h0 : X % 2 ^ k = 0) : bor .u64 (X : Int) (b : Int) = ((X + b : Nat) : Int) := by
 have hb64 : b < 18446744073709551616 := Nat.lt_of_lt_of_le hb (by have := Nat.pow_le_pow_right (n := 2) (by omega) hk; simpa using this)
 rw [bor_nat hX hb64]
 have hd := Nat.div_add_mod X (2 ^ k)
 rw [h0, Nat.add_zero] at hd
 have := Nat.two_pow_add_eq_or_of_lt hb (X / 2 ^ k)
 rw [hd] at this
 rw [<- this]
theorem set_bit {q : List Int} (hq : q.length = 4) (dq : digs B64 q) {i : Nat} (hi : i < 256) {Q : Int} (hQ : val B64 q = Q * ((2 ^ (i + 1) : Nat) : Int)) :
  ∃ v, bor .u64 (q.getD (i / 64) 0) (shlI .u64 1 ((i % 64 : Nat) : Int)) = v /\ (0 <= v /\ v < B64) /\ val B64 (q.set (i / 64) v) = (2 * Q + 1) * ((2 ^ i : Nat) : Int) := by
 obtain ⟨X, hX, hX2⟩ := nat_of_dig (digs_getD B64_pos dq (i / 64))
 have hk : i % 64 < 64 := by omega
 have hD : val B64 q = ((2 ^ (64 * (i / 64)) : Nat) : Int) * (((2 ^ (i % 64 + 1) : Nat) : Int) * Q) := by
  rw [hQ, Int.mul_comm, <- Int.mul_assoc]
  congr 1
  have : 64 * (i / 64) + (i % 64 + 1) = i + 1 := by omega
  rw [<- this, Nat.pow_add]; simp
 have hpos : 0 < ((2 ^ (64 * (i / 64)) : Nat) : Int) := by have := Nat.two_pow_pos (64 * (i / 64)); omega
 have hdr := drop_div dq (i / 64)
 rw [hD, Int.mul_ediv_cancel_left _ (by omega)] at hdr
 rw [val_drop B64 q (i / 64), hX] at hdr
 have hB : B64 = ((2 ^ (i % 64 + 1) : Nat) : Int) * ((2 ^ (63 - i % 64) : Nat) : Int) := by
  have h64 : (2 : Nat) ^ 64 = 2 ^ (i % 64 + 1) * 2 ^ (63 - i % 64) := by rw [<- Nat.pow_add, show i % 64 + 1 + (63 - i % 64) = 64 by omega]
  have : B64 = ((2 ^ 64 : Nat) : Int) := rfl
  rw [this, h64, Int.natCast_mul]
 have hmod : X % 2 ^ (i % 64 + 1) = 0 := by
  have hdr : ((2 ^ (i % 64 + 1) : Nat) : Int) * Q = (X : Int) + ((2 ^ (i % 64 + 1) : Nat) : Int) * (((2 ^ (63 - i % 64) : Nat) : Int) * val B64 (q.drop (i / 64 + 1))) := by
   rw [<- Int.mul_assoc, <- hB]; exact hdr
  have : (X : Int) = ((2 ^ (i % 64 + 1) : Nat) : Int) * (Q - ((2 ^ (63 - i % 64) : Nat) : Int) * val B64 (q.drop (i / 64 + 1))) := by
   rw [Int.mul_sub]
   omega
  have h2 : (X : Int) % ((2 ^ (i % 64 + 1) : Nat) : Int) = 0 := by rw [this]; exact Int.mul_emod_right _ _
  have h3 : ((X % 2 ^ (i % 64 + 1) : Nat) : Int) = 0 := by rw [<- h2]; rfl
  omega
 have hlt : 2 ^ (i % 64) < 2 ^ (i % 64 + 1) := by rw [Nat.pow_succ]; have := Nat.two_pow_pos (i % 64); omega
 have hv := bor_add hX2 hlt (by omega) hmod
 have hsum : X + 2 ^ (i % 64) < 18446744073709551616 := by
  have h64 : (2 : Nat) ^ 64 = 2 ^ (i % 64 + 1) * 2 ^ (63 - i % 64) := by rw [<- Nat.pow_add, show i % 64 + 1 + (63 - i % 64) = 64 by omega]
  have hd := Nat.div_add_mod X (2 ^ (i % 64 + 1))
  rw [hmod, Nat.add_zero] at hd
  have h1 : X / 2 ^ (i % 64 + 1) < 2 ^ (63 - i % 64) := by
   rw [Nat.div_lt_iff_lt_mul (Nat.two_pow_pos _), Nat.mul_comm, <- h64]; simpa using hX2
  have h2 := Nat.mul_le_mul_left (2 ^ (i % 64 + 1)) h1
  rw [<- h64, Nat.succ_eq_add_one, Nat.mul_add, hd, Nat.mul_one] at h2
  have h3 : (2 : Nat) ^ 64 = 18446744073709551616 := rfl
  omega
 refine ⟨((X + 2 ^ (i % 64) : Nat) : Int), ?_, ⟨by omega, by simp only [B64]; omega⟩, ?_⟩
 ·rw [hX, shl1_nat hk, hv]
 ·rw [val_set B64 q _ _ (by omega), hX, pow64, hQ]
  have e : ((2 ^ i : Nat) : Int) = ((2 ^ (64 * (i / 64)) : Nat) : Int) * ((2 ^ (i % 64) : Nat) : Int) := by
   rw [<- Int.natCast_mul, <- Nat.pow_add, split64]
  have e2 : ((2 ^ (i + 1) : Nat) : Int) = ((2 ^ i : Nat) : Int) * 2 := by rw [Nat.pow_succ]; simp
  rw [e2, Int.natCast_add, show (X : Int) + ((2 ^ (i % 64) : Nat) : Int) - (X : Int) = ((2 ^ (i % 64) : Nat) : Int) by omega, <- e, Int.add_mul, Int.one_mul]
  congr 1
  rw [Int.mul_comm ((2 ^ i : Nat) : Int) 2, <- Int.mul_assoc, Int.mul_comm Q 2]
theorem set_low {y : List Int} (hy : y.length = 4) (dy : digs B64 y) (he : val B64 y % 2 = 0) {b : Int} (hb : b = 0 \/ b = 1) :
  (y.set 0 (bor .u64 (y.getD 0 0) b)).length = 4 /\ digs B64 (y.set 0 (bor .u64 (y.getD 0 0) b)) /\ val B64 (y.set 0 (bor .u64 (y.getD 0 0) b)) = val B64 y + b := by
 obtain ⟨X, hX, hX2⟩ := nat_of_dig (digs_getD B64_pos dy 0)
 have h0 : X % 2 ^ 1 = 0 := by
  have := val_drop B64 y 0
  rw [List.drop_zero, hX] at this
  rw [this] at he
  have : (18446744073709551616 : Int) * val B64 (y.drop (0 + 1)) % 2 = 0 := by omega
  simp only [B64] at he
  omega
 have key : bor .u64 (X : Int) b = (X : Int) + b := by
  rcases hb with rfl | rfl
  ·have := bor_add (b := 0) hX2 (by omega) (k := 1) (by omega) h0
   simpa using this
  ·have := bor_add (b := 1) hX2 (by omega) (k := 1) (by omega) h0
   simpa using this
 rw [hX, key]
 refine ⟨by simpa using hy, digs_set 0 dy ⟨by omega, by simp only [B64]; omega⟩, ?_⟩
 rw [val_set B64 y 0 _ (by omega), hX]
 simp; omega
theorem mod_loop {α : Type} (k : Nat) (Xt : List Int -> List Int -> Option α) (a b : List Int) (ha : a.length = 4) (da : digs B64 a) (hb : b.length = 4) (db : digs B64 b) (hV : 0 < val B64 b) :
  ∀ (n i : Nat) (q r : List Int) (Q : Int), i < n -> i <= 256 -> q.length = 4 -> digs B64 q -> r.length = 4 -> digs B64 r -> val B64 q = Q * ((2 ^ i : Nat) : Int) -> val B64 a / ((2 ^ i : Nat) : Int) = val B64 b * Q + val B64 r -> val B64 r < val B64 b ->
  ∃ q' r', wide_DivMod.l0 k Xt n ((i : Int) - 1) a b q r = Xt q' r' /\ q'.length = 4 /\ digs B64 q' /\ r'.length = 4 /\ digs B64 r' /\ val B64 a = val B64 b * val B64 q' + val B64 r' /\ val B64 r' < val B64 b
 | 0, i, _, _, _, h, _, _, _, _, _, _, _, _ => by omega
 | n + 1, 0, q, r, Q, h, hi, hq, dq, hr, dr, hQ, hN, hlt => by
  refine ⟨q, r, ?_, hq, dq, hr, dr, ?_, hlt⟩
  ·simp only [wide_DivMod.l0, wide_DivMod.l0s]
   rw [if_neg (by simp)]
  ·rw [hQ]; simpa using hN
 | n + 1, i + 1, q, r, Q, h, hi, hq, dq, hr, dr, hQ, hN, hlt => by
  simp only [wide_DivMod.l0, wide_DivMod.l0s]
  have ei : ((i + 1 : Nat) : Int) - 1 = (i : Int) := by omega
  rw [ei, if_pos (by rw [decide_eq_true_eq]; omega)]
  obtain ⟨y, o, y1, y2, y3, y4, y5⟩ := wide_add hr hr dr dr
  rw [y1, Option.bind_some, wide_bit_run ha da (by omega), Option.bind_some]
  have hNi : val B64 a / ((2 ^ i : Nat) : Int) = 2 * (val B64 a / ((2 ^ (i + 1) : Nat) : Int)) + val B64 a / ((2 ^ i : Nat) : Int) % 2 := by
   have e2 : ((2 ^ (i + 1) : Nat) : Int) = ((2 ^ i : Nat) : Int) * 2 := by rw [Nat.pow_succ]; simp
   rw [e2, <- Int.ediv_ediv_of_nonneg (Int.natCast_nonneg _)]
   omega
  have hb2 : val B64 a / ((2 ^ i : Nat) : Int) % 2 = 0 \/ val B64 a / ((2 ^ i : Nat) : Int) % 2 = 1 := by omega
  rw [hN] at hNi
  generalize val B64 a / ((2 ^ i : Nat) : Int) % 2 = bt at *
  have he : val B64 y % 2 = 0 := by rw [y4]; simp only [M256]; omega
  obtain ⟨z1, z2, z3⟩ := set_low y2 y3 he hb2
  generalize hz : y.set 0 (bor .u64 (y.getD 0 0) bt) = z at *
  have hbb := val4_bound hb db
  have hrb := val4_bound hr dr
  have hzb := val4_bound z1 z2
  obtain ⟨s, o2, s1, s2, s3, s4, s5⟩ := wide_sub z1 hb z2 db
  have ew : IntKind.i64.wrap ((i : Int) - 1) = (i : Int) - 1 := wrap_i64 (by omega) (by omega)
  have e1 : IntKind.i64.wrap (Int.tdiv (i : Int) 64) = ((i / 64 : Nat) : Int) := i64_tdiv (c := 64) (by omega)
  have e2 : Int.tmod (i : Int) 64 = ((i % 64 : Nat) : Int) := tmod_nat i 64
  obtain ⟨v, v1, v2, v3⟩ := set_bit hq dq (by omega) hQ
  have hQ2 : val B64 q = (2 * Q) * ((2 ^ i : Nat) : Int) := by
   have e2 : ((2 ^ (i + 1) : Nat) : Int) = ((2 ^ i : Nat) : Int) * 2 := by rw [Nat.pow_succ]; simp
   rw [hQ, e2, Int.mul_comm ((2 ^ i : Nat) : Int) 2, <- Int.mul_assoc, Int.mul_comm Q 2]
  have cmp : (if (o == false) = true then wide_Cmp.run z b else some 0).bind (fun y4 => some (cond o true (decide (y4 >= 0)))) = some (decide (2 * val B64 r + bt >= val B64 b)) := by
   cases o with
   | true =>
    have := y5.1 rfl
    rw [if_neg (by simp), Option.bind_some]
    have : decide (2 * val B64 r + bt >= val B64 b) = true := by rw [decide_eq_true_eq]; omega
    rw [this]; rfl
   | false =>
    have hno : ¬ (M256 <= val B64 r + val B64 r) := fun h => by have := y5.2 h; simp at this
    have hy : val B64 y = val B64 r + val B64 r := by rw [y4]; exact Int.emod_eq_of_lt (by omega) (by omega)
    rw [if_pos (show (false == false) = true from rfl), wide_cmp z1 hb z2 db, Option.bind_some]
    congr 1
    simp only [cond_false]
    rw [z3, hy]
    by_cases c1 : val B64 r + val B64 r + bt < val B64 b
    ·rw [if_pos c1]
     have : decide (2 * val B64 r + bt >= val B64 b) = false := by rw [decide_eq_false_iff_not]; omega
     rw [this]; rfl
    ·rw [if_neg c1]
     have : decide (2 * val B64 r + bt >= val B64 b) = true := by rw [decide_eq_true_eq]; omega
     rw [this]
     split <;> rfl
  obtain ⟨w, w1, w2⟩ := Option.bind_eq_some_iff.1 cmp
  rw [w1, Option.bind_some]
  have w2 := Option.some.inj w2
  rw [w2]
  unfold wide_DivMod.j0
  rw [ew, e1, e2, toNat_nat]
  by_cases hc : 2 * val B64 r + bt >= val B64 b
  ·rw [if_pos (by rw [decide_eq_true_eq]; exact hc), s1, Option.bind_some, if_pos (by omega), if_pos (by omega), if_pos (by omega), v1]
   have hsv : val B64 s = 2 * val B64 r + bt - val B64 b := by
    rw [s4, z3, y4]
    simp only [M256] at *
    omega
   refine mod_loop k Xt a b ha da hb db hV n i (q.set (i / 64) v) s (2 * Q + 1) (by omega) (by omega) (by simpa using hq) (digs_set _ dq v2) s2 s3 v3 ?_ (by omega)
   rw [Int.mul_add, Int.mul_one, Int.mul_comm 2 Q, <- Int.mul_assoc]
   omega
  ·rw [if_neg (by rw [decide_eq_true_eq]; exact hc)]
   have hzv : val B64 z = 2 * val B64 r + bt := by
    rw [z3, y4]
    simp only [M256] at *
    omega
   refine mod_loop k Xt a b ha da hb db hV n i q z (2 * Q) (by omega) (by omega) hq dq z1 z2 hQ2 ?_ (by omega)
   rw [Int.mul_comm 2 Q, <- Int.mul_assoc]
   omega
theorem zero4 {l : List Int} (hl : l.length = 4) (dl : digs B64 l) (h : l ≠ [0, 0, 0, 0]) : 0 < val B64 l := by
 have := (val_bound B64_pos dl).1
 rcases Int.lt_or_eq_of_le this with h' | h'
 ·exact h'
 ·exfalso; apply h
  exact words_eq hl rfl dl (fun d hd => by
   simp only [List.mem_cons, List.not_mem_nil, or_false] at hd
   simp only [B64]; omega) (by rw [<- h']; rfl)
theorem dz4 : digs B64 [0, 0, 0, 0] := fun d hd => by
 simp only [List.mem_cons, List.not_mem_nil, or_false] at hd
 simp only [B64]; omega
theorem wide_divmod {a b : List Int} (ha : a.length = 4) (da : digs B64 a) (hb : b.length = 4) (db : digs B64 b) :
  ∃ q r, wide_DivMod.run a b = some (q, r, (if b = [0, 0, 0, 0] then 7 else 0), ()) /\ q.length = 4 /\ digs B64 q /\ r.length = 4 /\ digs B64 r /\
   val B64 q = (if b = [0, 0, 0, 0] then 0 else val B64 a / val B64 b) /\ val B64 r = (if b = [0, 0, 0, 0] then 0 else val B64 a % val B64 b) := by
 unfold wide_DivMod.run wide_DivMod.top
 rw [beqD_dec (.arr 4 (.int .u64)) b [0, 0, 0, 0] rfl]
 by_cases h0 : b = [0, 0, 0, 0]
 ·simp only [if_pos h0]
  rw [if_pos (by simpa using h0)]
  exact ⟨_, _, rfl, rfl, dz4, rfl, dz4, rfl, rfl⟩
 ·simp only [if_neg h0]
  rw [if_neg (by simpa using h0)]
  obtain ⟨m, m1, m2, m3⟩ := wide_length_run ha da
  have hV := zero4 hb db h0
  have ew : IntKind.i64.wrap ((m : Int) - 1) = (m : Int) - 1 := wrap_i64 (by omega) (by omega)
  rw [m1, Option.bind_some, ew]
  have hv0 : val B64 [0, 0, 0, 0] = 0 := rfl
  have := fun N (hN : m < N) => mod_loop N (fun (c4 : List Int) (c5 : List Int) => wide_DivMod.j1 (fun (x6 : Int) (c4 : List Int) (c5 : List Int) => some (c4, c5, x6, ())) c4 c5) a b ha da hb db hV N m [0, 0, 0, 0] [0, 0, 0, 0] 0 hN m2 rfl dz4 rfl dz4 (by rw [hv0, Int.zero_mul]) (by
   rw [hv0, Int.mul_zero]
   exact Int.ediv_eq_zero_of_lt (val_bound B64_pos da).1 m3) (by rw [hv0]; exact hV)
  obtain ⟨q, r, e1, e2, e3, e4, e5, e6, e7⟩ := this fuel (by rw [fuel_big]; omega)
  have hr0 := (val_bound B64_pos e5).1
  have hq : val B64 a / val B64 b = val B64 q := div_of hV (by rw [Int.mul_comm]; omega) (by rw [Int.add_mul, Int.mul_comm]; omega)
  refine ⟨q, r, Eq.trans e1 rfl, e2, e3, e4, e5, hq.symm, ?_⟩
  have := Int.mul_ediv_add_emod (val B64 a) (val B64 b)
  rw [hq] at this
  omega
end Go.Bx
