/- A part of a framework that reads Go code as functions of plain data; or a law about such functions. -/
import Derived.Test.YtbkkahkikjifkaaDoorCxZh
namespace Go.Bx
set_option linter.unusedVariables false
set_option linter.unusedSimpArgs false
open Go
theorem ofInt_nat (n X : Nat) : BitVec.ofInt n (X : Int) = BitVec.ofNat n X:=by
 apply BitVec.eq_of_toNat_eq
 simp
theorem u64_wrap_nat {X : Nat} (h : X < 18446744073709551616) : IntKind.u64.wrap (X : Int) = (X : Int):=wrap_u64 (by omega) (by omega)
theorem band_nat {X Y : Nat} (hX : X < 18446744073709551616) (hY : Y < 18446744073709551616) : band .u64 (X : Int) (Y : Int) = ((X &&& Y : Nat) : Int):=by
 unfold band
 have e : ((BitVec.ofInt IntKind.u64.bits (X : Int) &&& BitVec.ofInt IntKind.u64.bits (Y : Int)).toNat) = X &&& Y:=by
  rw [ofInt_nat,ofInt_nat,BitVec.toNat_and,BitVec.toNat_ofNat,BitVec.toNat_ofNat]
  show (X % 2 ^ 64) &&& (Y % 2 ^ 64) = _
  rw [Nat.mod_eq_of_lt (by simpa using hX),Nat.mod_eq_of_lt (by simpa using hY)]
 rw [e]
 exact u64_wrap_nat (Nat.lt_of_le_of_lt Nat.and_le_left hX)
theorem bor_nat {X Y : Nat} (hX : X < 18446744073709551616) (hY : Y < 18446744073709551616) : bor .u64 (X : Int) (Y : Int) = ((X ||| Y : Nat) : Int):=by
 unfold bor
 have e : ((BitVec.ofInt IntKind.u64.bits (X : Int) ||| BitVec.ofInt IntKind.u64.bits (Y : Int)).toNat) = X ||| Y:=by
  rw [ofInt_nat,ofInt_nat,BitVec.toNat_or,BitVec.toNat_ofNat,BitVec.toNat_ofNat]
  show (X % 2 ^ 64) ||| (Y % 2 ^ 64) = _
  rw [Nat.mod_eq_of_lt (by simpa using hX),Nat.mod_eq_of_lt (by simpa using hY)]
 rw [e]
 exact u64_wrap_nat (by have:=Nat.or_lt_two_pow (n:=64) hX hY; simpa using this)
theorem min_bits {k : Nat} (hk : k < 64) : min (k : Int).toNat IntKind.u64.bits = k:=by
 have : IntKind.u64.bits = 64:=rfl
 rw [this]; omega
theorem two_pow_lt {k : Nat} (hk : k < 64) : 2 ^ k < 18446744073709551616:=by
 have:=Nat.pow_lt_pow_right (a:=2) (by omega) hk
 simpa using this
theorem shl1_nat {k : Nat} (hk : k < 64) : shlI .u64 1 (k : Int) = ((2 ^ k : Nat) : Int):=by
 unfold shlI
 rw [min_bits hk]
 have h2 : (1 : Int) * 2 ^ k = ((2 ^ k : Nat) : Int):=by simp
 rw [h2]
 exact u64_wrap_nat (two_pow_lt hk)
theorem and_pow_ne {X k : Nat} : ((X &&& 2 ^ k) != 0) = X.testBit k:=by
 cases h : X.testBit k with
 | true =>
  have : (X &&& 2 ^ k).testBit k = true:=by simp [Nat.testBit_and,h,Nat.testBit_two_pow_self]
  have h0 : X &&& 2 ^ k ≠ 0:=fun e=>by rw [e] at this; simp at this
  simpa using h0
 | false =>
  have : X &&& 2 ^ k = 0:=by
   apply Nat.eq_of_testBit_eq
   intro i
   rw [Nat.testBit_and,Nat.testBit_two_pow]
   by_cases hi : k = i
   ·subst hi; simp [h]
   ·simp [hi]
  simp [this]
theorem i64_tdiv {x c : Nat} (h : x < 9223372036854775808) : IntKind.i64.wrap (Int.tdiv (x : Int) (c : Int)) = ((x / c : Nat) : Int):=by
 rw [<- Int.ofNat_tdiv]
 have h2 : x / c <= x:=Nat.div_le_self x c
 generalize x / c = y at h2 ⊢
 exact wrap_i64 (by omega) (by omega)
theorem tmod_nat (x c : Nat) : Int.tmod (x : Int) (c : Int) = ((x % c : Nat) : Int):=by
 rw [<- Int.ofNat_tmod]
theorem nat_of_u64 {x : Int} (h : inR .u64 x = true) : ∃ X : Nat,x = (X : Int) /\ X < 18446744073709551616:=by
 rw [inR_u64] at h
 exact ⟨x.toNat,by omega,by omega⟩
end Go.Bx
