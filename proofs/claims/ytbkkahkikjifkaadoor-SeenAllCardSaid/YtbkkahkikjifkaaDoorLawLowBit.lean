/- A part of a framework that reads Go code as functions of plain data; or a law about such functions. -/
import Derived.Test.YtbkkahkikjifkaaDoorLawMarks
import Derived.Test.YtbkkahkikjifkaaDoorFnSeenAll0
namespace Go.Bx
open Go
set_option linter.unusedSimpArgs false
set_option linter.unusedVariables false
theorem low_parts {X j : Nat} (hb : X.testBit j = true) (hm : X % 2 ^ j = 0) : ∃ m,X = 2 ^ j * (2 * m + 1):=by
 have h1:=Nat.div_add_mod X (2 ^ j)
 have h2 : X / 2 ^ j % 2 = 1:=by
  rw [Nat.testBit_eq_decide_div_mod_eq] at hb
  simpa using hb
 refine ⟨X / 2 ^ j / 2,?_⟩
 rw [show 2 * (X / 2 ^ j / 2) + 1 = X / 2 ^ j by omega]
 omega
theorem bit_mul {j a i : Nat} : (2 ^ j * a).testBit i = (decide (j <= i) && a.testBit (i - j)):=by
 rw [Nat.testBit_two_pow_mul]
theorem odd_bit (m t : Nat) : (2 * m + 1).testBit t = if t = 0 then true else m.testBit (t - 1):=by
 cases t with
 | zero=>simp [Nat.testBit_zero]
 | succ t =>
  rw [Nat.testBit_succ,if_neg (by omega)]
  congr 1
  omega
theorem even_bit (m t : Nat) : (2 * m).testBit t = if t = 0 then false else m.testBit (t - 1):=by
 cases t with
 | zero=>simp [Nat.testBit_zero]
 | succ t =>
  rw [Nat.testBit_succ,if_neg (by omega)]
  congr 1
  omega
theorem low_clear {j m : Nat} : 2 ^ j * (2 * m + 1) &&& (2 ^ j * (2 * m + 1) - 1) = 2 ^ (j + 1) * m:=by
 have hp : 0 < 2 ^ j:=Nat.two_pow_pos j
 have e : 2 ^ j * (2 * m + 1) - 1 = 2 ^ j * (2 * m) + (2 ^ j - 1):=by
  rw [Nat.mul_add,Nat.mul_one]; omega
 apply Nat.eq_of_testBit_eq
 intro i
 rw [Nat.testBit_and,e,Nat.testBit_two_pow_mul_add _ (by omega),bit_mul,bit_mul]
 by_cases hi : i < j
 ·rw [if_pos hi,show decide (j <= i) = false by simpa using hi,show decide (j + 1 <= i) = false by simp; omega]
  simp
 ·rw [if_neg hi,show decide (j <= i) = true by simp; omega,odd_bit,even_bit]
  by_cases h0 : i - j = 0
  ·rw [if_pos h0,if_pos h0,show decide (j + 1 <= i) = false by simp; omega]
   simp
  ·rw [if_neg h0,if_neg h0,show decide (j + 1 <= i) = true by simp; omega,show i - (j + 1) = i - j - 1 by omega]
   simp
theorem low_only {j m : Nat} (hj : j < 64) (h : 2 ^ j * (2 * m + 1) < 18446744073709551616) : 2 ^ j * (2 * m + 1) &&& (18446744073709551616 - 2 ^ j * (2 * m + 1)) = 2 ^ j:=by
 have hsp : (18446744073709551616 : Nat) = 2 ^ j * (2 * 2 ^ (63 - j)):=by
  have : 2 ^ j * (2 * 2 ^ (63 - j)) = 2 ^ 64:=by
   rw [<- Nat.mul_assoc,Nat.mul_comm (2 ^ j) 2,Nat.mul_assoc,<- Nat.pow_add,<- Nat.pow_succ']
   congr 1; omega
  rw [this]
 have hm : m < 2 ^ (63 - j):=by
  rw [hsp] at h
  have:=Nat.lt_of_mul_lt_mul_left h
  omega
 have e : 18446744073709551616 - 2 ^ j * (2 * m + 1) = 2 ^ j * (2 * (2 ^ (63 - j) - (m + 1)) + 1):=by
  rw [hsp,<- Nat.mul_sub]
  congr 1; omega
 rw [e]
 apply Nat.eq_of_testBit_eq
 intro i
 rw [Nat.testBit_and,bit_mul,bit_mul,odd_bit,odd_bit,Nat.testBit_two_pow]
 by_cases hi : i < j
 ·rw [show decide (j <= i) = false by simpa using hi]
  simp; omega
 ·rw [show decide (j <= i) = true by simp; omega]
  by_cases h0 : i - j = 0
  ·rw [if_pos h0,if_pos h0]; simp; omega
  ·rw [if_neg h0,if_neg h0,Nat.testBit_two_pow_sub_succ hm]
   have : ¬ j = i:=by omega
   simp [this]
   intro h1 _
   exact h1
theorem table (j : Nat) (hj : j < 64) : gBru.getD (2 ^ j * 285870213051353865 % 18446744073709551616 / 288230376151711744) 0 = (j : Int):=by
 have : ∀ j : Fin 64,gBru.getD (2 ^ j.val * 285870213051353865 % 18446744073709551616 / 288230376151711744) 0 = (j.val : Int):=by decide +kernel
 exact this ⟨j,hj⟩
theorem wrap_neg {X : Nat} (h0 : X ≠ 0) (h : X < 18446744073709551616) : IntKind.u64.wrap (-(X : Int)) = ((18446744073709551616 - X : Nat) : Int):=by
 simp only [IntKind.wrap,IntKind.signed,IntKind.bits]
 simp
 omega
theorem tz_low {j m : Nat} (hj : j < 64) (h : 2 ^ j * (2 * m + 1) < 18446744073709551616) : seen_All.tv ((2 ^ j * (2 * m + 1) : Nat) : Int) = (j : Int):=by
 have h0 : 2 ^ j * (2 * m + 1) ≠ 0:=by
  have:=Nat.two_pow_pos j
  exact Nat.ne_of_gt (Nat.mul_pos this (by omega))
 unfold seen_All.tv seen_All.tzK
 rw [wrap_neg h0 h]
 have hb : bits .and .u64 ((2 ^ j * (2 * m + 1) : Nat) : Int) ((18446744073709551616 - 2 ^ j * (2 * m + 1) : Nat) : Int) = ((2 ^ j : Nat) : Int):=by
  have:=band_nat (X:=2 ^ j * (2 * m + 1)) (Y:=18446744073709551616 - 2 ^ j * (2 * m + 1)) h (by omega)
  rw [low_only hj h] at this
  exact this
 rw [hb]
 have hw : IntKind.u64.wrap (((2 ^ j : Nat) : Int) * 285870213051353865) = ((2 ^ j * 285870213051353865 % 18446744073709551616 : Nat) : Int):=by
  have : (((2 ^ j : Nat) : Int) * 285870213051353865) = ((2 ^ j * 285870213051353865 : Nat) : Int):=by
   rw [Int.natCast_mul]; rfl
  rw [this]
  generalize 2 ^ j * 285870213051353865 = Y
  simp only [IntKind.wrap,IntKind.signed,IntKind.bits]
  simp
 rw [hw]
 have hd : ((2 ^ j * 285870213051353865 % 18446744073709551616 : Nat) : Int) / 288230376151711744 = ((2 ^ j * 285870213051353865 % 18446744073709551616 / 288230376151711744 : Nat) : Int):=by
  generalize 2 ^ j * 285870213051353865 % 18446744073709551616 = Y
  omega
 rw [hd,Int.toNat_natCast]
 exact table j hj
theorem nxt_low {j m : Nat} (h : 2 ^ j * (2 * m + 1) < 18446744073709551616) : seen_All.nxtK ((2 ^ j * (2 * m + 1) : Nat) : Int) = ((2 ^ (j + 1) * m : Nat) : Int):=by
 have h0 : 0 < 2 ^ j * (2 * m + 1):=Nat.mul_pos (Nat.two_pow_pos j) (by omega)
 unfold seen_All.nxtK
 have e : ((2 ^ j * (2 * m + 1) : Nat) : Int) - 1 = ((2 ^ j * (2 * m + 1) - 1 : Nat) : Int):=by omega
 rw [e,u64_wrap_nat (by omega)]
 have:=band_nat (X:=2 ^ j * (2 * m + 1)) (Y:=2 ^ j * (2 * m + 1) - 1) h (by omega)
 rw [low_clear] at this
 exact this
theorem outs_bits (base : Nat) (hbase : base <= 192) : ∀ (d j X n : Nat),j + d = 64->X < 18446744073709551616->X % 2 ^ j = 0->d <= n ->
  seen_All.outsK seen_All.tv (base : Int) n (X : Int) = some (((List.range' j d).filter X.testBit).map fun k=>((base + k : Nat) : Int))
 | 0,j,X,n,hj,hX,hm,hn=>by
  have : j = 64:=by omega
  subst this
  have h0 : X = 0:=by
   have : X % 2 ^ 64 = X:=Nat.mod_eq_of_lt hX
   omega
  subst h0
  cases n <;> rfl
 | d + 1,j,X,n,hj,hX,hm,hn=>by
  rw [List.range'_succ]
  cases hb : X.testBit j with
  | false =>
   rw [List.filter_cons_of_neg (by simp [hb])]
   refine outs_bits base hbase d (j + 1) X n (by omega) hX ?_ (by omega)
   rw [Nat.testBit_eq_decide_div_mod_eq] at hb
   have h2 : X / 2 ^ j % 2 = 0:=by
    have:=of_decide_eq_false hb
    omega
   rw [Nat.mod_pow_succ,hm,h2]; simp
  | true =>
   obtain ⟨m,rfl⟩:=low_parts hb hm
   rw [List.filter_cons_of_pos hb]
   obtain ⟨n,rfl⟩ : ∃ k,n = k + 1:=⟨n - 1,by omega⟩
   have h0 : 0 < 2 ^ j * (2 * m + 1):=Nat.mul_pos (Nat.two_pow_pos j) (by omega)
   have hY : 2 ^ (j + 1) * m < 18446744073709551616:=by
    rw [Nat.pow_succ,Nat.mul_assoc]
    have : 2 ^ j * (2 * m) <= 2 ^ j * (2 * m + 1):=Nat.mul_le_mul_left _ (by omega)
    omega
   have ih:=outs_bits base hbase d (j + 1) (2 ^ (j + 1) * m) n (by omega) hY (Nat.mul_mod_right _ _) (by omega)
   unfold seen_All.outsK
   rw [if_neg (by omega),nxt_low hX,ih]
   unfold seen_All.outK
   rw [tz_low (by omega) hX]
   have hw : ∀ z : Int,0 <= z->z < 1000->RowKit.wrap64 z = z:=fun z h1 h2=>by unfold RowKit.wrap64; omega
   rw [show RowKit.wrap64 ((base : Int) + (j : Int)) = ((base + j : Nat) : Int) by rw [hw _ (by omega) (by omega)]; omega]
   have hf : (List.range' (j + 1) d).filter (2 ^ (j + 1) * m).testBit = (List.range' (j + 1) d).filter (2 ^ j * (2 * m + 1)).testBit:=by
    apply List.filter_congr
    intro i hi
    have hi:=(List.mem_range'_1.1 hi).1
    rw [bit_mul,bit_mul,show decide (j + 1 <= i) = true by simpa using hi,show decide (j <= i) = true by simp; omega,odd_bit,if_neg (by omega),show i - (j + 1) = i - j - 1 by omega]
   rw [hf]
   rfl
end Go.Bx
