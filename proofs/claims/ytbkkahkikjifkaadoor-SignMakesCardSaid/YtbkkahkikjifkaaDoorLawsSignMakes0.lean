/- Laws about functions of plain data, in plain Lean. -/
import Derived.Test.YtbkkahkikjifkaaDoorCxZh
import Derived.Test.YtbkkahkikjifkaaDoorFnSignMakes0
namespace Go.Bx
set_option linter.unusedVariables false
set_option linter.unusedSimpArgs false
open Go
theorem ofInt_nat (n X : Nat) : BitVec.ofInt n (X : Int) = BitVec.ofNat n X := by
 apply BitVec.eq_of_toNat_eq
 simp
theorem u64_wrap_nat {X : Nat} (h : X < 18446744073709551616) : IntKind.u64.wrap (X : Int) = (X : Int) := wrap_u64 (by omega) (by omega)
theorem band_nat {X Y : Nat} (hX : X < 18446744073709551616) (hY : Y < 18446744073709551616) : band .u64 (X : Int) (Y : Int) = ((X &&& Y : Nat) : Int) := by
 unfold band
 have e : ((BitVec.ofInt IntKind.u64.bits (X : Int) &&& BitVec.ofInt IntKind.u64.bits (Y : Int)).toNat) = X &&& Y := by
  rw [ofInt_nat, ofInt_nat, BitVec.toNat_and, BitVec.toNat_ofNat, BitVec.toNat_ofNat]
  show (X % 2 ^ 64) &&& (Y % 2 ^ 64) = _
  rw [Nat.mod_eq_of_lt (by simpa using hX), Nat.mod_eq_of_lt (by simpa using hY)]
 rw [e]
 exact u64_wrap_nat (Nat.lt_of_le_of_lt Nat.and_le_left hX)
theorem bor_nat {X Y : Nat} (hX : X < 18446744073709551616) (hY : Y < 18446744073709551616) : bor .u64 (X : Int) (Y : Int) = ((X ||| Y : Nat) : Int) := by
 unfold bor
 have e : ((BitVec.ofInt IntKind.u64.bits (X : Int) ||| BitVec.ofInt IntKind.u64.bits (Y : Int)).toNat) = X ||| Y := by
  rw [ofInt_nat, ofInt_nat, BitVec.toNat_or, BitVec.toNat_ofNat, BitVec.toNat_ofNat]
  show (X % 2 ^ 64) ||| (Y % 2 ^ 64) = _
  rw [Nat.mod_eq_of_lt (by simpa using hX), Nat.mod_eq_of_lt (by simpa using hY)]
 rw [e]
 exact u64_wrap_nat (by have := Nat.or_lt_two_pow (n := 64) hX hY; simpa using this)
theorem bxor_nat {X Y : Nat} (hX : X < 18446744073709551616) (hY : Y < 18446744073709551616) : bxor .u64 (X : Int) (Y : Int) = ((X ^^^ Y : Nat) : Int) := by
 unfold bxor
 have e : ((BitVec.ofInt IntKind.u64.bits (X : Int) ^^^ BitVec.ofInt IntKind.u64.bits (Y : Int)).toNat) = X ^^^ Y := by
  rw [ofInt_nat, ofInt_nat, BitVec.toNat_xor, BitVec.toNat_ofNat, BitVec.toNat_ofNat]
  show (X % 2 ^ 64) ^^^ (Y % 2 ^ 64) = _
  rw [Nat.mod_eq_of_lt (by simpa using hX), Nat.mod_eq_of_lt (by simpa using hY)]
 rw [e]
 exact u64_wrap_nat (by have := Nat.xor_lt_two_pow (n := 64) hX hY; simpa using this)
theorem min_bits {k : Nat} (hk : k < 64) : min (k : Int).toNat IntKind.u64.bits = k := by
 have : IntKind.u64.bits = 64 := rfl
 rw [this]; omega
theorem two_pow_lt {k : Nat} (hk : k < 64) : 2 ^ k < 18446744073709551616 := by
 have := Nat.pow_lt_pow_right (a := 2) (by omega) hk
 simpa using this
theorem shl1_nat {k : Nat} (hk : k < 64) : shlI .u64 1 (k : Int) = ((2 ^ k : Nat) : Int) := by
 unfold shlI
 rw [min_bits hk]
 have h2 : (1 : Int) * 2 ^ k = ((2 ^ k : Nat) : Int) := by simp
 rw [h2]
 exact u64_wrap_nat (two_pow_lt hk)
theorem shr_nat {X k : Nat} (hk : k < 64) : shrI .u64 (X : Int) (k : Int) = ((X >>> k : Nat) : Int) := by
 unfold shrI
 rw [min_bits hk, Nat.shiftRight_eq_div_pow]
 have : ((2 : Int) ^ k) = ((2 ^ k : Nat) : Int) := by simp
 rw [this, Int.fdiv_eq_ediv_of_nonneg _ (Int.natCast_nonneg _)]
 rfl
theorem and_pow_ne {X k : Nat} : ((X &&& 2 ^ k) != 0) = X.testBit k := by
 cases h : X.testBit k with
 | true =>
  have : (X &&& 2 ^ k).testBit k = true := by simp [Nat.testBit_and, h, Nat.testBit_two_pow_self]
  have h0 : X &&& 2 ^ k ≠ 0 := fun e => by rw [e] at this; simp at this
  simpa using h0
 | false =>
  have : X &&& 2 ^ k = 0 := by
   apply Nat.eq_of_testBit_eq
   intro i
   rw [Nat.testBit_and, Nat.testBit_two_pow]
   by_cases hi : k = i
   ·subst hi; simp [h]
   ·simp [hi]
  simp [this]
theorem shr_and_one {X k : Nat} : ((X >>> k &&& 1) == 1) = X.testBit k := by
 rw [Nat.testBit, Nat.and_comm 1]
 rcases Nat.mod_two_eq_zero_or_one (X >>> k) with h | h <;> simp [Nat.and_one_is_mod, h]
theorem i64_tdiv {x c : Nat} (h : x < 9223372036854775808) : IntKind.i64.wrap (Int.tdiv (x : Int) (c : Int)) = ((x / c : Nat) : Int) := by
 rw [<- Int.ofNat_tdiv]
 have h2 : x / c <= x := Nat.div_le_self x c
 generalize x / c = y at h2 ⊢
 exact wrap_i64 (by omega) (by omega)
theorem tmod_nat (x c : Nat) : Int.tmod (x : Int) (c : Int) = ((x % c : Nat) : Int) := by
 rw [<- Int.ofNat_tmod]
end Go.Bx
namespace Go.Bx
set_option linter.unusedVariables false
set_option linter.unusedSimpArgs false
open Go
theorem fitB_small {n b : Nat} (hn : n <= 4194304) (hb : b <= 33554432) : fitB n b = true := by
 unfold fitB
 rw [Bool.and_eq_true]
 constructor
 ·apply Nat.ble_eq_true_of_le
  calc n * b <= 4194304 * 33554432 := Nat.mul_le_mul hn hb
   _ <= 140737488355328 := by decide
 ·exact Nat.ble_eq_true_of_le (by omega)
theorem fuel_big : fuel = 18446744073709551616 := rfl
theorem i64_succ {i : Nat} (h : i < 9223372036854775807) : IntKind.i64.wrap ((i : Int) + 1) = ((i + 1 : Nat) : Int) := by
 rw [wrap_i64 (by omega) (by omega)]; simp
theorem toNat_nat (i : Nat) : Int.toNat (i : Int) = i := rfl
theorem beqL_refl {α : Type} {f : α -> α -> Bool} : ∀ (l : List α), (∀ a ∈ l, f a a = true) -> beqL f l l = true
 | [], _ => rfl
 | a :: l, h => by simp [beqL, h a (by simp), beqL_refl l fun b hb => h b (List.mem_cons_of_mem _ hb)]
theorem beqD_refl : ∀ (t : Ty) (x : t.den), t.cmp = true -> beqD t x x = true
 | .int _, x, _ => by simp [beqD]
 | .bool, x, _ => by simp [beqD]
 | .str, x, _ => by simp [beqD]
 | .arr n t, x, h => by simp only [beqD]; exact beqL_refl x fun a _ => beqD_refl t a (by simpa [Ty.cmp] using h)
 | .unit, _, _ => rfl
 | .pair a b, x, h => by
  simp only [Ty.cmp, Bool.and_eq_true] at h
  simp only [beqD, beqD_refl a _ h.1, beqD_refl b _ h.2]; rfl
 | .sl _, _, h => by simp [Ty.cmp] at h
 | .opq, _, h => by simp [Ty.cmp] at h
end Go.Bx
namespace Go.Bx
open Go
set_option linter.unusedSimpArgs false
set_option linter.unusedVariables false
def val (B : Int) : List Int -> Int
 | [] => 0
 | d :: l => d + B * val B l
def digs (B : Int) (l : List Int) : Prop := ∀ d ∈ l, 0 <= d /\ d < B
theorem digs_cons {B d : Int} {l : List Int} : digs B (d :: l) ↔ (0 <= d /\ d < B) /\ digs B l := by simp [digs]
theorem digs_nil {B : Int} : digs B [] := by intro d h; cases h
theorem digs_append {B : Int} {l m : List Int} (h : digs B l) (g : digs B m) : digs B (l ++ m) := by
 intro d hd
 rcases List.mem_append.1 hd with hd | hd
 ·exact h d hd
 ·exact g d hd
theorem digs_drop {B : Int} {l : List Int} (h : digs B l) (n : Nat) : digs B (l.drop n) := fun d hd => h d (List.mem_of_mem_drop hd)
theorem digs_take {B : Int} {l : List Int} (h : digs B l) (n : Nat) : digs B (l.take n) := fun d hd => h d (List.mem_of_mem_take hd)
theorem pow_pos' {B : Int} (hB : 0 < B) (n : Nat) : 0 < B ^ n := Int.pow_pos hB
theorem val_append (B : Int) : ∀ (l m : List Int), val B (l ++ m) = val B l + B ^ l.length * val B m
 | [], m => by simp [val]
 | d :: l, m => by
  simp only [List.cons_append, val, val_append B l m, List.length_cons, Int.pow_succ]
  rw [Int.mul_add, Int.mul_comm (B ^ l.length) B, Int.mul_assoc, Int.add_assoc]
theorem val_bound {B : Int} (hB : 0 < B) : ∀ {l : List Int}, digs B l -> 0 <= val B l /\ val B l < B ^ l.length
 | [], _ => by simp [val]
 | d :: l, h => by
  obtain ⟨h1, h2⟩ := digs_cons.1 h
  obtain ⟨h3, h4⟩ := val_bound hB h2
  simp only [val, List.length_cons, Int.pow_succ]
  have e1 : 0 <= B * val B l := Int.mul_nonneg (by omega) h3
  have e2 : B * (val B l + 1) <= B * B ^ l.length := Int.mul_le_mul_of_nonneg_left (by omega) (by omega)
  rw [Int.mul_add, Int.mul_one] at e2
  rw [Int.mul_comm (B ^ l.length) B]
  omega
theorem val_inj {B : Int} (hB : 0 < B) : ∀ {l m : List Int}, digs B l -> digs B m -> l.length = m.length -> val B l = val B m -> l = m
 | [], [], _, _, _, _ => rfl
 | [], _ :: _, _, _, h, _ => by simp at h
 | _ :: _, [], _, _, h, _ => by simp at h
 | a :: l, b :: m, h, g, hl, hv => by
  obtain ⟨h1, h2⟩ := digs_cons.1 h
  obtain ⟨g1, g2⟩ := digs_cons.1 g
  simp only [val] at hv
  have e1 : a = b := by
   have ha : (a + B * val B l) % B = a := by rw [Int.add_mul_emod_self_left]; exact Int.emod_eq_of_lt h1.1 h1.2
   have hb : (b + B * val B m) % B = b := by rw [Int.add_mul_emod_self_left]; exact Int.emod_eq_of_lt g1.1 g1.2
   rw [<- ha, <- hb, hv]
  subst e1
  have e2 : B * val B l = B * val B m := by omega
  have e3 := Int.eq_of_mul_eq_mul_left (by omega : B ≠ 0) e2
  rw [val_inj hB h2 g2 (by simpa using hl) e3]
theorem val_drop (B : Int) (l : List Int) (i : Nat) : val B (l.drop i) = l.getD i 0 + B * val B (l.drop (i + 1)) := by
 by_cases h : i < l.length
 ·rw [List.drop_eq_getElem_cons h, getD_eq h]; rfl
 ·rw [List.drop_eq_nil_of_le (by omega), List.drop_eq_nil_of_le (by omega)]
  simp [val, List.getD, List.getElem?_eq_none (show l.length <= i by omega)]
theorem digs_getD {B : Int} (hB : 0 < B) {l : List Int} (h : digs B l) (i : Nat) : 0 <= l.getD i 0 /\ l.getD i 0 < B := by
 by_cases hi : i < l.length
 ·rw [getD_eq hi]; exact h _ (List.getElem_mem hi)
 ·simp [List.getD, List.getElem?_eq_none (show l.length <= i by omega), hB]
theorem getD_out {l : List Int} {i : Nat} (h : ¬ i < l.length) : l.getD i 0 = 0 := by
 simp [List.getD, List.getElem?_eq_none (show l.length <= i by omega)]
theorem val_take (B : Int) (l : List Int) (j : Nat) : val B (l.take (j + 1)) = val B (l.take j) + B ^ j * l.getD j 0 := by
 by_cases h : j < l.length
 ·rw [List.take_succ_eq_append_getElem h, val_append, getD_eq h]
  simp only [val, List.length_take, Int.mul_zero, Int.add_zero]
  rw [Nat.min_eq_left (by omega)]
 ·rw [List.take_of_length_le (by omega), List.take_of_length_le (by omega), getD_out h]
  simp
theorem pow_mono {B : Int} (hB : 0 < B) {m n : Nat} (h : m <= n) : B ^ m <= B ^ n := by
 obtain ⟨k, rfl⟩ := Nat.le.dest h
 rw [Int.pow_add]
 have h1 := pow_pos' hB k
 have h2 := pow_pos' hB m
 have := Int.mul_le_mul_of_nonneg_left (show 1 <= B ^ k by omega) (show 0 <= B ^ m by omega)
 rw [Int.mul_one] at this
 exact this
theorem val_take_bound {B : Int} (hB : 0 < B) {l : List Int} (h : digs B l) (j : Nat) : 0 <= val B (l.take j) /\ val B (l.take j) < B ^ j := by
 obtain ⟨h1, h2⟩ := val_bound hB (digs_take h j)
 refine ⟨h1, Int.lt_of_lt_of_le h2 (pow_mono hB ?_)⟩
 simp; omega
theorem tdiv_pos {a b : Int} (h : 0 <= a) : Int.tdiv a b = a / b := Int.tdiv_eq_ediv_of_nonneg h
theorem tmod_pos {a b : Int} (h : 0 <= a) : Int.tmod a b = a % b := Int.tmod_eq_emod_of_nonneg h
abbrev B32 : Int := 4294967296
abbrev B64 : Int := 18446744073709551616
theorem B32_pos : (0 : Int) < B32 := by decide
theorem B64_pos : (0 : Int) < B64 := by decide
end Go.Bx
namespace Go.Bx
open Go
set_option linter.unusedSimpArgs false
set_option linter.unusedVariables false
theorem four_of_len {l : List Int} (h : l.length = 4) : ∃ a b c d, l = [a, b, c, d] := by
 match l, h with
 | [a, b, c, d], _ => exact ⟨a, b, c, d, rfl⟩
theorem of_eq (a b c d : Int) : basculeref_of.run [a, b, c, d] = some [Int.tmod a 4294967296, IntKind.u64.wrap (Int.tdiv a 4294967296), Int.tmod b 4294967296, IntKind.u64.wrap (Int.tdiv b 4294967296), Int.tmod c 4294967296, IntKind.u64.wrap (Int.tdiv c 4294967296), Int.tmod d 4294967296, IntKind.u64.wrap (Int.tdiv d 4294967296)] := by kernel_rfl
theorem ref_of {l : List Int} (hl : l.length = 4) (hd : digs B64 l) : ∃ o, basculeref_of.run l = some o /\ o.length = 8 /\ digs B32 o /\ val B32 o = val B64 l := by
 obtain ⟨a, b, c, d, rfl⟩ := four_of_len hl
 have ha := hd a (by simp)
 have hb := hd b (by simp)
 have hc := hd c (by simp)
 have hdd := hd d (by simp)
 simp only [B64] at ha hb hc hdd
 refine ⟨_, of_eq a b c d, rfl, ?_, ?_⟩
 ·rw [tdiv_pos ha.1, tdiv_pos hb.1, tdiv_pos hc.1, tdiv_pos hdd.1, tmod_pos ha.1, tmod_pos hb.1, tmod_pos hc.1, tmod_pos hdd.1,
   wrap_u64 (x := a / _) (by omega) (by omega), wrap_u64 (x := b / _) (by omega) (by omega), wrap_u64 (x := c / _) (by omega) (by omega), wrap_u64 (x := d / _) (by omega) (by omega)]
  intro x hx
  simp only [List.mem_cons, List.not_mem_nil, or_false] at hx
  simp only [B32]
  rcases hx with rfl | rfl | rfl | rfl | rfl | rfl | rfl | rfl <;> omega
 ·rw [tdiv_pos ha.1, tdiv_pos hb.1, tdiv_pos hc.1, tdiv_pos hdd.1, tmod_pos ha.1, tmod_pos hb.1, tmod_pos hc.1, tmod_pos hdd.1,
   wrap_u64 (x := a / _) (by omega) (by omega), wrap_u64 (x := b / _) (by omega) (by omega), wrap_u64 (x := c / _) (by omega) (by omega), wrap_u64 (x := d / _) (by omega) (by omega)]
  simp only [val, B32, B64]
  omega
theorem plus_loop {α : Type} (k : Nat) (Xt : Int -> List Int -> Option α) (a b : List Int) (ha : digs B32 a) (hb : digs B32 b) (M : Nat) (hM : M = max a.length b.length) (hs : M <= 1000000) : ∀ (n i : Nat) (c : Int) (acc : List Int), (0 <= c /\ c <= 1) -> i <= M -> M - i < n -> acc.length <= i ->
  ∃ r c', basculeref_plus.l0 k Xt n a b c (i : Int) acc = Xt c' (acc ++ r) /\ (0 <= c' /\ c' <= 1) /\ r.length = M - i /\ digs B32 r /\ val B32 r + B32 ^ (M - i) * c' = val B32 (a.drop i) + val B32 (b.drop i) + c
 | 0, i, c, acc, _, _, h, _ => by omega
 | n + 1, i, c, acc, hc, hi, h, hacc => by
  by_cases hlt : i < M
  ·have da := digs_getD B32_pos ha i
   have db := digs_getD B32_pos hb i
   simp only [B32] at da db
   obtain ⟨r, c', e1, e2, e3, e4, e5⟩ := plus_loop k Xt a b ha hb M hM hs n (i + 1) ((c + a.getD i 0 + b.getD i 0) / 4294967296) (acc ++ [(c + a.getD i 0 + b.getD i 0) % 4294967296]) (by omega) (by omega) (by omega) (by simp; omega)
   have hj : basculeref_plus.l0 k Xt (n + 1) a b c (i : Int) acc = basculeref_plus.j1 (basculeref_plus.l0 k Xt n) a b (i : Int) (c + a.getD i 0 + b.getD i 0) acc := by
    simp only [basculeref_plus.l0, basculeref_plus.l0s, basculeref_plus.j0]
    rw [cond_or, if_pos (by simp; omega)]
    rw [toNat_nat, wrap_u64 (x := c + a.getD i 0) (by omega) (by omega), wrap_u64 (x := c + a.getD i 0 + b.getD i 0) (by omega) (by omega), wrap_u64 (x := c + b.getD i 0) (by omega) (by omega)]
    by_cases h1 : i < a.length
    ·rw [if_pos (by simp; omega), if_pos (by omega)]
     by_cases h2 : i < b.length
     ·rw [if_pos (by simp; omega), if_pos (by omega)]
     ·rw [if_neg (by simp; omega), getD_out h2, Int.add_zero]
    ·rw [if_neg (by simp; omega), getD_out h1, Int.add_zero]
     by_cases h2 : i < b.length
     ·rw [if_pos (by simp; omega), if_pos (by omega)]
     ·omega
   refine ⟨(c + a.getD i 0 + b.getD i 0) % 4294967296 :: r, c', ?_, e2, by simp; omega, digs_cons.2 ⟨by simp only [B32]; omega, e4⟩, ?_⟩
   ·rw [hj]
    unfold basculeref_plus.j1
    rw [if_pos (fitB_small (by omega) (by decide)), tdiv_pos (by omega), tmod_pos (by omega), wrap_u64 (by omega) (by omega), i64_succ (by omega), e1]
    simp
   ·rw [show M - i = (M - (i + 1)) + 1 by omega, Int.pow_succ, Int.mul_comm (B32 ^ _) B32, Int.mul_assoc]
    simp only [val]
    rw [val_drop B32 a i, val_drop B32 b i]
    generalize B32 ^ (M - (i + 1)) * c' = P at e5 ⊢
    simp only [B32] at e5 ⊢
    omega
  ·have hiM : i = M := by omega
   refine ⟨[], c, ?_, hc, by simp; omega, digs_nil, ?_⟩
   ·simp only [basculeref_plus.l0, basculeref_plus.l0s]
    rw [cond_or, if_neg (by simp; omega)]
    simp
   ·rw [List.drop_eq_nil_of_le (by omega), List.drop_eq_nil_of_le (by omega), show M - i = 0 by omega]
    simp [val]
theorem ref_plus {a b : List Int} (ha : digs B32 a) (hb : digs B32 b) (h1 : a.length <= 1000000) (h2 : b.length <= 1000000) :
  ∃ r, basculeref_plus.run a b = some r /\ r.length = max a.length b.length + 1 /\ digs B32 r /\ val B32 r = val B32 a + val B32 b := by
 unfold basculeref_plus.run basculeref_plus.top
 have h0 := fun N (hN : max a.length b.length < N) => plus_loop N (fun (x6 : Int) (c46 : List Int) => basculeref_plus.j2 (fun (c46 : List Int) => some c46) x6 c46) a b ha hb _ rfl (by omega) N 0 0 [] (by omega) (by omega) (by omega) (by simp)
 obtain ⟨r, c', e1, e2, e3, e4, e5⟩ := h0 fuel (by rw [fuel_big]; omega)
 refine ⟨r ++ [c'], ?_, by simp; omega, digs_append e4 (digs_cons.2 ⟨by simp only [B32]; omega, digs_nil⟩), ?_⟩
 ·refine Eq.trans e1 ?_
  unfold basculeref_plus.j2
  rw [List.nil_append, if_pos (fitB_small (by omega) (by decide))]
 ·rw [val_append, e3]
  simp only [val, Int.mul_zero, Int.add_zero, List.drop_zero] at e5 ⊢
  exact e5
theorem compare_loop {α : Type} (k : Nat) (Rt : Int -> Option α) (Xt : Option α) (a b : List Int) (ha : digs B32 a) (hb : digs B32 b) (h1 : a.length <= 1000000) (h2 : b.length <= 1000000) : ∀ (n i : Nat), i < n -> i <= max a.length b.length ->
  basculeref_compare.l0 k Rt Xt n a b ((i : Int) - 1) = if val B32 (a.take i) < val B32 (b.take i) then Rt (-1) else if val B32 (a.take i) > val B32 (b.take i) then Rt 1 else Xt
 | 0, i, h, _ => by omega
 | n + 1, 0, h, _ => by
  simp only [basculeref_compare.l0, basculeref_compare.l0s]
  rw [if_neg (by simp)]
  simp [val]
 | n + 1, j + 1, h, hm => by
  have e : ((j + 1 : Nat) : Int) - 1 = (j : Int) := by omega
  rw [e]
  have da := digs_getD B32_pos ha j
  have db := digs_getD B32_pos hb j
  have hj : basculeref_compare.l0 k Rt Xt (n + 1) a b (j : Int) = basculeref_compare.j1 (basculeref_compare.l0 k Rt Xt n) Rt a b (j : Int) (a.getD j 0) (b.getD j 0) := by
   simp only [basculeref_compare.l0, basculeref_compare.l0s, basculeref_compare.j0]
   rw [if_pos (by simp)]
   by_cases h1 : j < a.length
   ·rw [if_pos (by simp; omega), if_pos (by omega), toNat_nat]
    by_cases h2 : j < b.length
    ·rw [if_pos (by simp; omega), if_pos (by omega)]
    ·rw [if_neg (by simp; omega), getD_out h2]
   ·rw [if_neg (by simp; omega), getD_out h1, toNat_nat]
    by_cases h2 : j < b.length
    ·rw [if_pos (by simp; omega), if_pos (by omega)]
    ·rw [if_neg (by simp; omega), getD_out h2]
  rw [hj]
  unfold basculeref_compare.j1
  have ta := val_take_bound B32_pos ha j
  have tb := val_take_bound B32_pos hb j
  rw [val_take B32 a j, val_take B32 b j]
  have hP := pow_pos' B32_pos j
  generalize B32 ^ j = P at ta tb hP ⊢
  generalize a.getD j 0 = x at da ⊢
  generalize b.getD j 0 = y at db ⊢
  rcases Int.lt_trichotomy x y with hxy | hxy | hxy
  ·have := Int.mul_le_mul_of_nonneg_left (show x + 1 <= y by omega) (Int.le_of_lt hP)
   rw [Int.mul_add, Int.mul_one] at this
   rw [if_pos (by simpa using hxy), if_pos (by omega)]
  ·subst hxy
   rw [if_neg (by simp), if_neg (by simp), show IntKind.i64.wrap ((j : Int) - 1) = (j : Int) - 1 from wrap_i64 (by omega) (by omega)]
   rw [compare_loop k Rt Xt a b ha hb h1 h2 n j (by omega) (by omega)]
   congr 1
   ·exact propext ⟨fun h => by omega, fun h => by omega⟩
   ·congr 1
    exact propext ⟨fun h => by omega, fun h => by omega⟩
  ·have := Int.mul_le_mul_of_nonneg_left (show y + 1 <= x by omega) (Int.le_of_lt hP)
   rw [Int.mul_add, Int.mul_one] at this
   rw [if_neg (by simp; omega), if_pos (by simpa using hxy), if_neg (by omega), if_pos (by omega)]
theorem ref_compare {a b : List Int} (ha : digs B32 a) (hb : digs B32 b) (h1 : a.length <= 1000000) (h2 : b.length <= 1000000) :
  basculeref_compare.run a b = some (if val B32 a < val B32 b then -1 else if val B32 a > val B32 b then 1 else 0) := by
 unfold basculeref_compare.run basculeref_compare.top basculeref_compare.j2
 have h0 := fun N (hN : max a.length b.length < N) => compare_loop N (fun (x4 : Int) => some x4) (some (0 : Int)) a b ha hb h1 h2 N (max a.length b.length) hN (Nat.le_refl _)
 have e := h0 fuel (by rw [fuel_big]; omega)
 rw [List.take_of_length_le (by omega), List.take_of_length_le (by omega)] at e
 have ei : IntKind.i64.wrap ((if (b.length : Int) > (a.length : Int) then (b.length : Int) else (a.length : Int)) - 1) = ((max a.length b.length : Nat) : Int) - 1 := by
  rw [wrap_i64 (by split <;> omega) (by split <;> omega)]
  split <;> omega
 rw [ei]
 refine Eq.trans e ?_
 split
 ·rfl
 ·split <;> rfl
theorem less_loop {α : Type} (k : Nat) (Xt : List Int -> Option α) (b : List Int) (hb : digs B32 b) (L : Nat) (hL : L <= 1000000) (hbl : b.length <= L) : ∀ (n i : Nat) (br : Int) (c : List Int), (0 <= br /\ br <= 1) -> c.length = L -> digs B32 c -> i <= L -> L - i < n ->
  ∃ r b', basculeref_less.l0 k Xt n b br (L : Int) (i : Int) c = Xt (c.take i ++ r) /\ (0 <= b' /\ b' <= 1) /\ r.length = L - i /\ digs B32 r /\ val B32 r = val B32 (c.drop i) - val B32 (b.drop i) - br + B32 ^ (L - i) * b'
 | 0, i, br, c, _, _, _, _, h => by omega
 | n + 1, i, br, c, hbr, hcl, hc, hi, h => by
  by_cases hlt : i < L
  ·have dc := digs_getD B32_pos hc i
   have db := digs_getD B32_pos hb i
   simp only [B32] at dc db
   have hic : i < c.length := by omega
   have hj : basculeref_less.l0 k Xt (n + 1) b br (L : Int) (i : Int) c = basculeref_less.j0 (basculeref_less.l0 k Xt n) b (i : Int) (br + b.getD i 0) (L : Int) (i : Int) c := by
    simp only [basculeref_less.l0, basculeref_less.l0s]
    rw [if_pos (by simp; omega)]
    by_cases h1 : i < b.length
    ·rw [if_pos (by simp; omega), if_pos (by omega), toNat_nat, wrap_u64 (by omega) (by omega)]
    ·rw [if_neg (by simp; omega), getD_out h1, Int.add_zero]
   have key : ∃ v br', basculeref_less.j0 (basculeref_less.l0 k Xt n) b (i : Int) (br + b.getD i 0) (L : Int) (i : Int) c = basculeref_less.l0 k Xt n b br' (L : Int) ((i + 1 : Nat) : Int) (c.set i v) /\ (0 <= br' /\ br' <= 1) /\ (0 <= v /\ v < 4294967296) /\ v = c.getD i 0 - (br + b.getD i 0) + 4294967296 * br' := by
    unfold basculeref_less.j0
    rw [if_pos (by omega), toNat_nat]
    by_cases hcx : c.getD i 0 < br + b.getD i 0
    ·rw [if_pos (by simpa using hcx), if_pos (by omega), if_pos (by omega)]
     unfold basculeref_less.j1
     have hg : (c.set i (IntKind.u64.wrap (c.getD i 0 + 4294967296))).getD (i : Int).toNat 0 = c.getD i 0 + 4294967296 := by
      rw [toNat_nat, getD_eq (by simpa using hic), List.getElem_set_self, wrap_u64 (by omega) (by omega)]
     rw [if_pos (by simp; omega), if_pos (by simp; omega), hg, i64_succ (by omega), toNat_nat, List.set_set, wrap_u64 (x := c.getD i 0 + 4294967296 - _) (by omega) (by omega)]
     exact ⟨_, 1, rfl, by omega, by omega, by omega⟩
    ·rw [if_neg (by simpa using hcx)]
     unfold basculeref_less.j1
     rw [if_pos (by omega), if_pos (by omega), i64_succ (by omega), toNat_nat, wrap_u64 (x := c.getD i 0 - _) (by omega) (by omega)]
     exact ⟨_, 0, rfl, by omega, by omega, by omega⟩
   obtain ⟨v, br', k1, k2, k3, k4⟩ := key
   have hset : digs B32 (c.set i v) := fun d hd => by
    rcases List.mem_or_eq_of_mem_set hd with hd | rfl
    ·exact hc d hd
    ·simp only [B32]; omega
   obtain ⟨r, b', e1, e2, e3, e4, e5⟩ := less_loop k Xt b hb L hL hbl n (i + 1) br' (c.set i v) k2 (by simpa using hcl) hset (by omega) (by omega)
   have ht : (c.set i v).take (i + 1) = c.take i ++ [v] := by
    rw [List.take_succ_eq_append_getElem (by simpa using hic), List.getElem_set_self, List.take_set_of_le (Nat.le_refl i)]
   have hdp : (c.set i v).drop (i + 1) = c.drop (i + 1) := List.drop_set_of_lt (by omega)
   refine ⟨v :: r, b', ?_, e2, by simp; omega, digs_cons.2 ⟨by simp only [B32]; omega, e4⟩, ?_⟩
   ·rw [hj, k1, e1, ht]; simp
   ·rw [hdp] at e5
    rw [show L - i = (L - (i + 1)) + 1 by omega, Int.pow_succ, Int.mul_comm (B32 ^ _) B32, Int.mul_assoc]
    simp only [val]
    rw [val_drop B32 c i, val_drop B32 b i]
    generalize B32 ^ (L - (i + 1)) * b' = P at e5 ⊢
    simp only [B32] at e5 ⊢
    omega
  ·refine ⟨[], br, ?_, hbr, by simp; omega, digs_nil, ?_⟩
   ·simp only [basculeref_less.l0, basculeref_less.l0s]
    rw [if_neg (by simp; omega), List.take_of_length_le (by omega)]
    simp
   ·rw [List.drop_eq_nil_of_le (by omega), List.drop_eq_nil_of_le (by omega), show L - i = 0 by omega]
    simp [val]; omega
theorem ref_less {a b : List Int} (ha : digs B32 a) (hb : digs B32 b) (h1 : a.length <= 1000000) (h2 : b.length <= a.length) (hle : val B32 b <= val B32 a) :
  ∃ r, basculeref_less.run a b = some r /\ r.length = a.length /\ digs B32 r /\ val B32 r = val B32 a - val B32 b := by
 unfold basculeref_less.run basculeref_less.top basculeref_less.j2
 rw [if_pos (by rw [fitB_small (by omega) (by decide)]; rfl)]
 have h0 := fun N (hN : a.length < N) => less_loop N (fun (c11 : List Int) => some c11) b hb a.length h1 h2 N 0 0 a (by omega) rfl ha (by omega) (by omega)
 obtain ⟨r, b', e1, e2, e3, e4, e5⟩ := h0 fuel (by rw [fuel_big]; omega)
 refine ⟨r, ?_, by omega, e4, ?_⟩
 ·refine Eq.trans e1 ?_
  simp
 ·have hbd := val_bound B32_pos e4
  rw [e3] at hbd
  rw [List.drop_zero, List.drop_zero, Int.sub_zero] at e5
  generalize B32 ^ (a.length - 0) = P at e5 hbd
  have : b' = 0 \/ b' = 1 := by omega
  rcases this with rfl | rfl
  ·rw [Int.mul_zero] at e5; omega
  ·rw [Int.mul_one] at e5; omega
end Go.Bx
namespace Go.Bx
open Go
set_option linter.unusedSimpArgs false
set_option linter.unusedVariables false
theorem shl32 {x : Int} (h : 0 <= x /\ x < 4294967296) : shlI .u64 x 32 = x * 4294967296 := by
 unfold shlI
 have h1 : min (32 : Int).toNat IntKind.u64.bits = 32 := rfl
 rw [h1]
 have h2 : (2 : Int) ^ 32 = 4294967296 := rfl
 rw [h2]
 exact wrap_u64 (by omega) (by omega)
theorem shl0 {x : Int} (h : 0 <= x /\ x < 4294967296) : shlI .u64 x 0 = x := by
 unfold shlI
 have h1 : min (0 : Int).toNat IntKind.u64.bits = 0 := rfl
 rw [h1, Int.pow_zero, Int.mul_one]
 exact wrap_u64 (by omega) (by omega)
theorem bor0 {x : Int} (h : 0 <= x /\ x < 4294967296) : bor .u64 0 x = x := by
 obtain ⟨X, rfl⟩ : ∃ X : Nat, x = (X : Int) := ⟨x.toNat, by omega⟩
 have := bor_nat (X := 0) (Y := X) (by decide) (by omega)
 simpa using this
theorem bor32 {x y : Int} (h : 0 <= x /\ x < 4294967296) (g : 0 <= y /\ y < 4294967296) : bor .u64 x (y * 4294967296) = x + y * 4294967296 := by
 obtain ⟨X, rfl⟩ : ∃ X : Nat, x = (X : Int) := ⟨x.toNat, by omega⟩
 obtain ⟨Y, rfl⟩ : ∃ Y : Nat, y = (Y : Int) := ⟨y.toNat, by omega⟩
 have e : ((Y : Int) * 4294967296) = ((Y * 4294967296 : Nat) : Int) := by simp
 rw [e, bor_nat (by omega) (by omega)]
 have h2 : X ||| Y * 4294967296 = X + Y * 4294967296 := by
  have := Nat.two_pow_add_eq_or_of_lt (i := 32) (b := X) (by omega) Y
  have e2 : (2 : Nat) ^ 32 = 4294967296 := rfl
  rw [e2, Nat.mul_comm] at this
  rw [Nat.or_comm, <- this, Nat.add_comm]
 rw [h2]; simp
def wordsUp (l : List Int) (i : Nat) : List Int :=
 let g := fun m : Nat => if m < i then l.getD m 0 else 0
 [g 0 + g 1 * 4294967296, g 2 + g 3 * 4294967296, g 4 + g 5 * 4294967296, g 6 + g 7 * 4294967296]
theorem wide_loop {α : Type} (k : Nat) (Xt : Bool -> List Int -> List Int -> Option α) (l : List Int) (hd : digs B32 l) (hl : l.length <= 1000000) (c2 : List Int) : ∀ (n i : Nat) (f : Bool), i <= l.length -> l.length - i < n ->
  ∃ f', basculeref_wide.l0 k Xt n f l (l.length : Int) (i : Int) c2 (wordsUp l i) = Xt f' c2 (wordsUp l (max i (min l.length 8))) /\ (f' = true ↔ f = true \/ val B32 (l.drop (max i 8)) ≠ 0)
 | 0, i, f, _, h => by omega
 | n + 1, i, f, hi, h => by
  by_cases hlt : i < l.length
  ·have dg := digs_getD B32_pos hd i
   simp only [B32] at dg
   by_cases h8 : 8 <= i
   ·obtain ⟨f', e1, e2⟩ := wide_loop k Xt l hd hl c2 n (i + 1) (cond f true (l.getD i 0 != 0)) (by omega) (by omega)
    have hw : wordsUp l (i + 1) = wordsUp l i := by
     unfold wordsUp
     simp only [show (0 < i + 1) from by omega, show (1 < i + 1) from by omega, show (2 < i + 1) from by omega, show (3 < i + 1) from by omega, show (4 < i + 1) from by omega, show (5 < i + 1) from by omega, show (6 < i + 1) from by omega, show (7 < i + 1) from by omega,
      show (0 < i) from by omega, show (1 < i) from by omega, show (2 < i) from by omega, show (3 < i) from by omega, show (4 < i) from by omega, show (5 < i) from by omega, show (6 < i) from by omega, show (7 < i) from by omega]
    have hw2 : wordsUp l (max (i + 1) (min l.length 8)) = wordsUp l (max i (min l.length 8)) := by
     rw [show max (i + 1) (min l.length 8) = i + 1 by omega, show max i (min l.length 8) = i by omega, hw]
    refine ⟨f', ?_, ?_⟩
    ·simp only [basculeref_wide.l0, basculeref_wide.l0s, basculeref_wide.j0]
     rw [if_pos (by simp; omega), if_pos (by omega), if_pos (by simp; omega), toNat_nat, i64_succ (by omega), <- hw, e1, hw2]
    ·rw [e2, show max (i + 1) 8 = i + 1 by omega, show max i 8 = i by omega, val_drop B32 l i]
     have hb := val_bound B32_pos (digs_drop hd (i + 1))
     simp only [B32] at hb ⊢
     cases f with
     | true => simp
     | false =>
      simp only [cond_false, bne_iff_ne, ne_eq, Bool.false_eq_true, false_or]
      constructor
      ·rintro (h | h) <;> omega
      ·intro h
       by_cases hx : l.getD i 0 = 0
       ·right; omega
       ·left; exact hx
   ·obtain ⟨f', e1, e2⟩ := wide_loop k Xt l hd hl c2 n (i + 1) f (by omega) (by omega)
    refine ⟨f', ?_, ?_⟩
    ·rw [show max i (min l.length 8) = max (i + 1) (min l.length 8) by omega, <- e1]
     simp only [basculeref_wide.l0, basculeref_wide.l0s, basculeref_wide.j0]
     have et : Int.tdiv (i : Int) 2 = ((i / 2 : Nat) : Int) := by rw [tdiv_pos (by omega)]; rfl
     have em : Int.tmod (i : Int) 2 = ((i % 2 : Nat) : Int) := tmod_nat i 2
     rw [if_pos (by simp; omega), if_pos (by omega), if_neg (by simp; omega), et, em, wrap_i64 (x := ((i / 2 : Nat) : Int)) (by omega) (by omega), wrap_i64 (x := 32 * ((i % 2 : Nat) : Int)) (by omega) (by omega), if_pos (by omega), if_pos (by omega), if_pos (by omega), toNat_nat, toNat_nat, i64_succ (by omega)]
     congr 1
     have dgp := fun m : Nat => digs_getD B32_pos hd m
     simp only [List.getD_eq_getElem?_getD, B32] at dgp
     have dg := dgp i
     rcases (show i = 0 \/ i = 1 \/ i = 2 \/ i = 3 \/ i = 4 \/ i = 5 \/ i = 6 \/ i = 7 by omega) with rfl | rfl | rfl | rfl | rfl | rfl | rfl | rfl
     all_goals simp [wordsUp]
     all_goals first
      | (rw [shl0 dg, bor0 dg])
      | (rw [shl32 dg, bor32 (dgp _) dg])
    ·rw [e2, show max (i + 1) 8 = max i 8 by omega]
  ·have hil : i = l.length := by omega
   refine ⟨f, ?_, ?_⟩
   ·simp only [basculeref_wide.l0, basculeref_wide.l0s]
    rw [if_neg (by simp; omega), show max i (min l.length 8) = i by omega]
   ·rw [List.drop_eq_nil_of_le (by omega)]; simp [val]
theorem val_ge (B : Int) : ∀ (l : List Int) (n : Nat), val B l = val B (l.take n) + B ^ (min n l.length) * val B (l.drop n) := by
 intro l n
 conv => lhs; rw [<- List.take_append_drop n l]
 rw [val_append, List.length_take]
theorem ref_wide {l : List Int} (hd : digs B32 l) (hl : l.length <= 1000000) :
  ∃ w f, basculeref_wide.run l = some (w, f, ()) /\ w.length = 4 /\ digs B64 w /\ val B64 w = val B32 l % 115792089237316195423570985008687907853269984665640564039457584007913129639936 /\ (f = true ↔ 115792089237316195423570985008687907853269984665640564039457584007913129639936 <= val B32 l) := by
 unfold basculeref_wide.run basculeref_wide.top basculeref_wide.j1
 have h0 := fun N (hN : l.length < N) => wide_loop N (fun (x5 : Bool) (c2 : List Int) (c4 : List Int) => some (c4, x5, ())) l hd hl [0, 0, 0, 0] N 0 false (by omega) (by omega)
 obtain ⟨f', e1, e2⟩ := h0 fuel (by rw [fuel_big]; omega)
 have ew : wordsUp l 0 = [0, 0, 0, 0] := rfl
 rw [ew] at e1
 have g : ∀ m : Nat, 0 <= (if m < max 0 (min l.length 8) then l.getD m 0 else 0) /\ (if m < max 0 (min l.length 8) then l.getD m 0 else 0) < 4294967296 := fun m => by
  have := digs_getD B32_pos hd m
  simp only [B32] at this
  split <;> omega
 have gv : val B32 (l.take 8) = val B64 (wordsUp l (max 0 (min l.length 8))) := by
  have t0 : ∀ m : Nat, (if m < max 0 (min l.length 8) then l.getD m 0 else 0) = if m < 8 then l.getD m 0 else 0 := fun m => by
   by_cases h : m < l.length
   ·by_cases h8 : m < 8
    ·rw [if_pos (by omega), if_pos h8]
    ·rw [if_neg (by omega), if_neg h8]
   ·rw [getD_out h]; simp
  unfold wordsUp
  simp only [t0]
  simp only [show (0 < 8) from by decide, show (1 < 8) from by decide, show (2 < 8) from by decide, show (3 < 8) from by decide, show (4 < 8) from by decide, show (5 < 8) from by decide, show (6 < 8) from by decide, show (7 < 8) from by decide, if_true]
  rw [val_take B32 l 7, val_take B32 l 6, val_take B32 l 5, val_take B32 l 4, val_take B32 l 3, val_take B32 l 2, val_take B32 l 1, val_take B32 l 0]
  simp only [val, List.take_zero, B32, B64]
  omega
 refine ⟨wordsUp l (max 0 (min l.length 8)), f', ?_, rfl, ?_, ?_, ?_⟩
 ·exact e1
 ·intro d hdm
  have g0 := g 0
  have g1 := g 1
  have g2 := g 2
  have g3 := g 3
  have g4 := g 4
  have g5 := g 5
  have g6 := g 6
  have g7 := g 7
  simp only [wordsUp, List.mem_cons, List.not_mem_nil, or_false] at hdm
  simp only [B64]
  rcases hdm with rfl | rfl | rfl | rfl <;> omega
 all_goals
  have hb := val_take_bound B32_pos hd 8
  have hb2 := val_bound B32_pos (digs_drop hd 8)
  have hs := val_ge B32 l 8
  have e8 : B32 ^ 8 = 115792089237316195423570985008687907853269984665640564039457584007913129639936 := rfl
  rw [e8] at hb
 ·rw [<- gv]
  by_cases h8 : 8 <= l.length
  ·rw [Nat.min_eq_left h8, e8] at hs
   rw [hs, Int.add_mul_emod_self_left]
   exact (Int.emod_eq_of_lt hb.1 hb.2).symm
  ·rw [List.drop_eq_nil_of_le (by omega)] at hs
   simp only [val, Int.mul_zero, Int.add_zero] at hs
   rw [hs]
   exact (Int.emod_eq_of_lt hb.1 hb.2).symm
 ·rw [e2, show max 0 8 = 8 from rfl]
  simp only [Bool.false_eq_true, false_or]
  by_cases h8 : 8 <= l.length
  ·rw [Nat.min_eq_left h8, e8] at hs
   constructor <;> intro h <;> omega
  ·rw [List.drop_eq_nil_of_le (by omega)] at hs ⊢
   simp only [val, Int.mul_zero, Int.add_zero] at hs ⊢
   constructor <;> intro h <;> omega
end Go.Bx
namespace Go.Bx
open Go
set_option linter.unusedSimpArgs false
set_option linter.unusedVariables false
theorem digs_of_fit {K : Ty -> Nat -> Prop} {n : Nat} {l : List Int} (h : Fit K (.arr n (.int .u64)) l) : l.length = n /\ digs B64 l := by
 obtain ⟨h1, h2⟩ := h
 refine ⟨h1, fun d hd => ?_⟩
 have := h2 d hd
 simp only [Fit, inR_u64] at this
 simp only [B64]
 omega
abbrev U256 : Ty := .arr 4 (.int .u64)
end Go.Bx
namespace Go.Bx
open Go
set_option linter.unusedSimpArgs false
set_option linter.unusedVariables false
abbrev M256 : Int := 115792089237316195423570985008687907853269984665640564039457584007913129639936
theorem add_eq (a b c d a' b' c' d' : Int) : wide_Add.run [a, b, c, d] [a', b', c', d'] =
  (x_add64.run a a' 0).bind fun y => (x_add64.run b b' y.2.1).bind fun z => (x_add64.run c c' z.2.1).bind fun u => (x_add64.run d d' u.2.1).bind fun v => some ([y.1, z.1, u.1, v.1], v.2.1 == 1, ()) := by kernel_rfl
theorem sub_eq (a b c d a' b' c' d' : Int) : wide_Sub.run [a, b, c, d] [a', b', c', d'] =
  (x_sub64.run a a' 0).bind fun y => (x_sub64.run b b' y.2.1).bind fun z => (x_sub64.run c c' z.2.1).bind fun u => (x_sub64.run d d' u.2.1).bind fun v => some ([y.1, z.1, u.1, v.1], v.2.1 == 1, ()) := by kernel_rfl
theorem add64_spec {x y c : Int} (hx : 0 <= x /\ x < 18446744073709551616) (hy : 0 <= y /\ y < 18446744073709551616) (hc : 0 <= c /\ c <= 1) : ∃ r o, x_add64.run x y c = some (r, o, ()) /\ (0 <= r /\ r < 18446744073709551616) /\ (0 <= o /\ o <= 1) /\ r + 18446744073709551616 * o = x + y + c := by
 refine ⟨_, _, if_pos (by omega), by omega, by omega, by omega⟩
theorem sub64_spec {x y c : Int} (hx : 0 <= x /\ x < 18446744073709551616) (hy : 0 <= y /\ y < 18446744073709551616) (hc : 0 <= c /\ c <= 1) : ∃ r o, x_sub64.run x y c = some (r, o, ()) /\ (0 <= r /\ r < 18446744073709551616) /\ (0 <= o /\ o <= 1) /\ r - 18446744073709551616 * o = x - y - c := by
 refine ⟨_, _, if_pos (by omega), by omega, by split <;> omega, by split <;> omega⟩
theorem words_eq {l m : List Int} (hl : l.length = 4) (hm : m.length = 4) (dl : digs B64 l) (dm : digs B64 m) (h : val B64 l = val B64 m) : l = m := val_inj B64_pos dl dm (by omega) h
theorem wide_add {l m : List Int} (hl : l.length = 4) (hm : m.length = 4) (dl : digs B64 l) (dm : digs B64 m) :
  ∃ r o, wide_Add.run l m = some (r, o, ()) /\ r.length = 4 /\ digs B64 r /\ val B64 r = (val B64 l + val B64 m) % M256 /\ (o = true ↔ M256 <= val B64 l + val B64 m) := by
 obtain ⟨a, b, c, d, rfl⟩ := four_of_len hl
 obtain ⟨a', b', c', d', rfl⟩ := four_of_len hm
 have h1 := dl a (by simp)
 have h2 := dl b (by simp)
 have h3 := dl c (by simp)
 have h4 := dl d (by simp)
 have g1 := dm a' (by simp)
 have g2 := dm b' (by simp)
 have g3 := dm c' (by simp)
 have g4 := dm d' (by simp)
 rw [add_eq]
 obtain ⟨r1, o1, e1, q1, p1, s1⟩ := add64_spec h1 g1 (c := 0) (by omega)
 obtain ⟨r2, o2, e2, q2, p2, s2⟩ := add64_spec h2 g2 p1
 obtain ⟨r3, o3, e3, q3, p3, s3⟩ := add64_spec h3 g3 p2
 obtain ⟨r4, o4, e4, q4, p4, s4⟩ := add64_spec h4 g4 p3
 rw [e1, Option.bind_some, e2, Option.bind_some, e3, Option.bind_some, e4, Option.bind_some]
 refine ⟨_, _, rfl, rfl, ?_, ?_, ?_⟩
 ·intro x hx
  simp only [List.mem_cons, List.not_mem_nil, or_false] at hx
  simp only [B64]
  rcases hx with rfl | rfl | rfl | rfl <;> omega
 ·simp only [val, B64, M256] at *
  omega
 ·simp only [val, B64, M256, beq_iff_eq] at *
  constructor <;> intro h <;> omega
theorem wide_sub {l m : List Int} (hl : l.length = 4) (hm : m.length = 4) (dl : digs B64 l) (dm : digs B64 m) :
  ∃ r o, wide_Sub.run l m = some (r, o, ()) /\ r.length = 4 /\ digs B64 r /\ val B64 r = (val B64 l - val B64 m) % M256 /\ (o = true ↔ val B64 l < val B64 m) := by
 obtain ⟨a, b, c, d, rfl⟩ := four_of_len hl
 obtain ⟨a', b', c', d', rfl⟩ := four_of_len hm
 have h1 := dl a (by simp)
 have h2 := dl b (by simp)
 have h3 := dl c (by simp)
 have h4 := dl d (by simp)
 have g1 := dm a' (by simp)
 have g2 := dm b' (by simp)
 have g3 := dm c' (by simp)
 have g4 := dm d' (by simp)
 rw [sub_eq]
 obtain ⟨r1, o1, e1, q1, p1, s1⟩ := sub64_spec h1 g1 (c := 0) (by omega)
 obtain ⟨r2, o2, e2, q2, p2, s2⟩ := sub64_spec h2 g2 p1
 obtain ⟨r3, o3, e3, q3, p3, s3⟩ := sub64_spec h3 g3 p2
 obtain ⟨r4, o4, e4, q4, p4, s4⟩ := sub64_spec h4 g4 p3
 rw [e1, Option.bind_some, e2, Option.bind_some, e3, Option.bind_some, e4, Option.bind_some]
 refine ⟨_, _, rfl, rfl, ?_, ?_, ?_⟩
 ·intro x hx
  simp only [List.mem_cons, List.not_mem_nil, or_false] at hx
  simp only [B64]
  rcases hx with rfl | rfl | rfl | rfl <;> omega
 ·simp only [val, B64, M256] at *
  omega
 ·simp only [val, B64, M256, beq_iff_eq] at *
  constructor <;> intro h <;> omega
theorem val4_bound {l : List Int} (hl : l.length = 4) (dl : digs B64 l) : 0 <= val B64 l /\ val B64 l < M256 := by
 have := val_bound B64_pos dl
 rw [hl] at this
 have e : B64 ^ 4 = M256 := rfl
 rw [e] at this
 exact this
end Go.Bx
namespace Go.Bx
open Go
set_option linter.unusedSimpArgs false
set_option linter.unusedVariables false
theorem cmp_eq (a b c d a' b' c' d' : Int) : wide_Cmp.run [a, b, c, d] [a', b', c', d'] =
  if decide (d < d') = true then some (-1) else if decide (d > d') = true then some 1 else
  if decide (c < c') = true then some (-1) else if decide (c > c') = true then some 1 else
  if decide (b < b') = true then some (-1) else if decide (b > b') = true then some 1 else
  if decide (a < a') = true then some (-1) else if decide (a > a') = true then some 1 else some 0 := by kernel_rfl
theorem wide_cmp {l m : List Int} (hl : l.length = 4) (hm : m.length = 4) (dl : digs B64 l) (dm : digs B64 m) :
  wide_Cmp.run l m = some (if val B64 l < val B64 m then -1 else if val B64 l > val B64 m then 1 else 0) := by
 obtain ⟨a, b, c, d, rfl⟩ := four_of_len hl
 obtain ⟨a', b', c', d', rfl⟩ := four_of_len hm
 have h1 := dl a (by simp)
 have h2 := dl b (by simp)
 have h3 := dl c (by simp)
 have h4 := dl d (by simp)
 have g1 := dm a' (by simp)
 have g2 := dm b' (by simp)
 have g3 := dm c' (by simp)
 have g4 := dm d' (by simp)
 rw [cmp_eq]
 simp only [decide_eq_true_eq]
 by_cases c1 : val B64 [a, b, c, d] < val B64 [a', b', c', d']
 ·rw [if_pos c1]
  simp only [val, B64] at c1 h1 h2 h3 h4 g1 g2 g3 g4
  repeat' split
  all_goals first | rfl | (exfalso; omega)
 ·rw [if_neg c1]
  by_cases c2 : val B64 [a, b, c, d] > val B64 [a', b', c', d']
  ·rw [if_pos c2]
   simp only [val, B64] at c1 c2 h1 h2 h3 h4 g1 g2 g3 g4
   repeat' split
   all_goals first | rfl | (exfalso; omega)
  ·rw [if_neg c2]
   simp only [val, B64] at c1 c2 h1 h2 h3 h4 g1 g2 g3 g4
   repeat' split
   all_goals first | rfl | (exfalso; omega)
end Go.Bx
namespace Go.Bx
open Go
set_option linter.unusedVariables false
theorem beqL_iff {α : Type} {f : α -> α -> Bool} : ∀ (l m : List α), (∀ a ∈ l, ∀ b, f a b = true ↔ a = b) -> (beqL f l m = true ↔ l = m)
 | [], [], _ => by simp [beqL]
 | [], _ :: _, _ => by simp [beqL]
 | _ :: _, [], _ => by simp [beqL]
 | a :: l, b :: m, h => by
  simp only [beqL, Bool.and_eq_true, List.cons.injEq]
  rw [h a (by simp) b, beqL_iff l m fun c hc => h c (List.mem_cons_of_mem _ hc)]
theorem beqD_iff : ∀ (t : Ty) (x y : t.den), t.cmp = true -> (beqD t x y = true ↔ x = y)
 | .int _, x, y, _ => by simp [beqD]
 | .bool, x, y, _ => by simp [beqD]
 | .str, x, y, _ => by simp [beqD]
 | .arr n t, x, y, h => by simp only [beqD]; exact beqL_iff x y fun a _ b => beqD_iff t a b (by simpa [Ty.cmp] using h)
 | .unit, x, y, _ => by cases x; cases y; simp [beqD]
 | .pair a b, x, y, h => by
  simp only [Ty.cmp, Bool.and_eq_true] at h
  simp only [beqD, Bool.and_eq_true]
  rw [beqD_iff a _ _ h.1, beqD_iff b _ _ h.2]
  exact ⟨fun ⟨p, q⟩ => Prod.ext p q, fun h => by rw [h]; exact ⟨rfl, rfl⟩⟩
 | .sl _, _, _, h => by simp [Ty.cmp] at h
 | .opq, _, _, h => by simp [Ty.cmp] at h
theorem beqD_dec (t : Ty) (x y : t.den) (h : t.cmp = true) [Decidable (x = y)] : beqD t x y = decide (x = y) := by
 rw [Bool.eq_iff_iff, decide_eq_true_eq]; exact beqD_iff t x y h
theorem getD_front {α : Type} (P : List α) (h : α) (R : List α) (d : α) : (P ++ h :: R).getD P.length d = h := by
 simp [List.getD]
end Go.Bx
namespace Go.Bx
open Go
set_option linter.unusedSimpArgs false
set_option linter.unusedVariables false
theorem getD_mid {A : List Int} {x : Int} {Bs : List Int} {n : Nat} (h : A.length = n) : (A ++ x :: Bs).getD n 0 = x := by
 subst h
 simp [List.getD]
theorem set_mid {A : List Int} {x v : Int} {Bs : List Int} {n : Nat} (h : A.length = n) : (A ++ x :: Bs).set n v = A ++ v :: Bs := by
 subst h
 simp
theorem mul_lt32 {x y : Int} (hx : 0 <= x /\ x < 4294967296) (hy : 0 <= y /\ y < 4294967296) : 0 <= x * y /\ x * y <= 18446744065119617025 := by
 refine ⟨Int.mul_nonneg hx.1 hy.1, ?_⟩
 have := Int.mul_le_mul (show x <= 4294967295 by omega) (show y <= 4294967295 by omega) hy.1 (by omega)
 omega
theorem times_inner {α : Type} (k : Nat) (Xt : List Int -> Int -> Int -> List Int -> Int -> Int -> List Int -> Option α) (b : List Int) (hb : digs B32 b) (hl : b.length <= 1000000) (i : Nat) (hi : i <= 1000000) (x : Int) (hx : 0 <= x /\ x < 4294967296) (x18 : List Int) (x19 x20 : Int) (z : List Int) :
  ∀ (n j : Nat) (A t : List Int) (cy : Int), A.length = i + j -> t.length = b.length - j -> j <= b.length -> b.length - j < n -> digs B32 t -> (0 <= cy /\ cy < 4294967296) ->
  ∃ r cy', basculeref_times.l1 k Xt n b (i : Int) x cy x18 x19 x20 b (b.length : Int) (j : Int) (A ++ (t ++ z)) = Xt b (i : Int) cy' x18 x19 x20 (A ++ (r ++ z)) /\ r.length = t.length /\ digs B32 r /\ (0 <= cy' /\ cy' < 4294967296) /\ val B32 r + B32 ^ t.length * cy' = val B32 t + x * val B32 (b.drop j) + cy
 | 0, j, A, t, cy, _, _, _, h, _, _ => by omega
 | n + 1, j, A, t, cy, hA, ht, hj, h, hd, hc => by
  by_cases hlt : j < b.length
  ·obtain ⟨t0, t', rfl⟩ : ∃ t0 t', t = t0 :: t' := by
    cases t with
    | nil => simp at ht; omega
    | cons a l => exact ⟨a, l, rfl⟩
   obtain ⟨d0, d1⟩ := digs_cons.1 hd
   have dy := digs_getD B32_pos hb j
   simp only [B32] at d0 dy
   have hP := mul_lt32 hx dy
   obtain ⟨r, cy', e1, e2, e3, e4, e5⟩ := times_inner k Xt b hb hl i hi x hx x18 x19 x20 z n (j + 1) (A ++ [(x * b.getD j 0 + t0 + cy) % 4294967296]) t' ((x * b.getD j 0 + t0 + cy) / 4294967296) (by simp; omega) (by simp at ht; omega) (by omega) (by omega) d1 (by omega)
   refine ⟨(x * b.getD j 0 + t0 + cy) % 4294967296 :: r, cy', ?_, by simp [e2], digs_cons.2 ⟨by simp only [B32]; omega, e3⟩, e4, ?_⟩
   ·simp only [basculeref_times.l1, basculeref_times.l1s]
    have ew : IntKind.i64.wrap ((i : Int) + (j : Int)) = ((i + j : Nat) : Int) := by
     rw [wrap_i64 (by omega) (by omega)]; simp
    have hlen : i + j < (A ++ (t0 :: t' ++ z)).length := by simp; omega
    have eg : (A ++ (t0 :: t' ++ z)).getD (i + j) 0 = t0 := getD_mid hA
    have es : ∀ v, (A ++ (t0 :: t' ++ z)).set (i + j) v = A ++ [v] ++ (t' ++ z) := fun v => by
     rw [show t0 :: t' ++ z = t0 :: (t' ++ z) from rfl, set_mid hA]; simp
    rw [if_pos (by simp; omega), if_pos (by omega), ew, if_pos (by omega), if_pos (by omega), toNat_nat, toNat_nat, eg, es, i64_succ (by omega)]
    rw [wrap_u64 (x := x * b.getD j 0) (by omega) (by omega), wrap_u64 (x := x * b.getD j 0 + t0) (by omega) (by omega), wrap_u64 (x := x * b.getD j 0 + t0 + cy) (by omega) (by omega), tdiv_pos (by omega), tmod_pos (by omega), wrap_u64 (x := (x * b.getD j 0 + t0 + cy) / 4294967296) (by omega) (by omega)]
    rw [e1]
    simp
   ·rw [val_drop B32 b j]
    simp only [val, List.length_cons, Int.pow_succ]
    rw [Int.mul_comm (B32 ^ t'.length) B32, Int.mul_assoc, Int.mul_add x, Int.mul_left_comm x B32]
    generalize B32 ^ t'.length * cy' = P at e5 ⊢
    generalize x * val B32 (b.drop (j + 1)) = Q at e5 ⊢
    generalize x * b.getD j 0 = R at hP e5 ⊢
    simp only [B32] at e5 ⊢
    omega
  ·have ht0 : t = [] := List.eq_nil_of_length_eq_zero (by omega)
   subst ht0
   refine ⟨[], cy, ?_, rfl, digs_nil, hc, ?_⟩
   ·simp only [basculeref_times.l1, basculeref_times.l1s]
    rw [if_neg (by simp; omega)]
   ·rw [List.drop_eq_nil_of_le (by omega)]
    simp [val]
theorem times_outer {α : Type} (k : Nat) (Xt : List Int -> Option α) (a b : List Int) (ha : digs B32 a) (hb : digs B32 b) (hal : a.length <= 1000000) (hl : b.length <= 1000000) (hk : b.length < k) :
  ∀ (n i : Nat) (p : List Int), p.length = i + b.length -> i <= a.length -> a.length - i < n -> digs B32 p ->
  ∃ r, basculeref_times.l0 k Xt n b a (a.length : Int) (i : Int) (p ++ List.replicate (a.length - i) 0) = Xt r /\ r.length = a.length + b.length /\ digs B32 r /\ val B32 r = val B32 p + B32 ^ i * (val B32 (a.drop i) * val B32 b)
 | 0, i, p, _, _, h, _ => by omega
 | n + 1, i, p, hp, hi, h, hd => by
  by_cases hlt : i < a.length
  ·have dx := digs_getD B32_pos ha i
   simp only [B32] at dx
   have hsplit : p = p.take i ++ p.drop i := (List.take_append_drop i p).symm
   have hz : List.replicate (a.length - i) (0 : Int) = 0 :: List.replicate (a.length - (i + 1)) 0 := by
    rw [show a.length - i = (a.length - (i + 1)) + 1 by omega, List.replicate_succ]
   obtain ⟨r, cy, e1, e2, e3, e4, e5⟩ := times_inner k (fun (x1 : List Int) (x6 : Int) (x8 : Int) (x18 : List Int) (x19 : Int) (x20 : Int) (c17 : List Int) => basculeref_times.j0 (basculeref_times.l0 k Xt n) x1 x6 x8 x18 x19 x20 c17) b hb hl i (by omega) (a.getD i 0) dx a (a.length : Int) (i : Int) (List.replicate (a.length - i) 0) k 0 (p.take i) (p.drop i) 0 (by simp; omega) (by simp; omega) (by omega) (by omega) (digs_drop hd i) (by omega)
   have hpl : (p.drop i).length = b.length := by simp; omega
   have hnew : (p.take i ++ r ++ [cy]).length = (i + 1) + b.length := by simp; omega
   have dnew : digs B32 (p.take i ++ r ++ [cy]) := digs_append (digs_append (digs_take hd i) e3) (digs_cons.2 ⟨by simp only [B32]; omega, digs_nil⟩)
   obtain ⟨r2, f1, f2, f3, f4⟩ := times_outer k Xt a b ha hb hal hl hk n (i + 1) (p.take i ++ r ++ [cy]) hnew (by omega) (by omega) dnew
   refine ⟨r2, ?_, f2, f3, ?_⟩
   ·simp only [basculeref_times.l0, basculeref_times.l0s]
    have ep : p ++ List.replicate (a.length - i) 0 = p.take i ++ (p.drop i ++ List.replicate (a.length - i) 0) := by
     conv => lhs; rw [hsplit]
     rw [List.append_assoc]
    rw [if_pos (by simp; omega), if_pos (by omega), toNat_nat, ep]
    refine Eq.trans e1 ?_
    unfold basculeref_times.j0 basculeref_times.j1
    have ew : IntKind.i64.wrap ((i : Int) + (b.length : Int)) = ((i + b.length : Nat) : Int) := by
     rw [wrap_i64 (by omega) (by omega)]; simp
    have hlen2 : (p.take i ++ r).length = i + b.length := by simp; omega
    have es : (p.take i ++ (r ++ List.replicate (a.length - i) 0)).set (i + b.length) cy = p.take i ++ r ++ [cy] ++ List.replicate (a.length - (i + 1)) 0 := by
     rw [hz, <- List.append_assoc, set_mid hlen2]; simp
    rw [ew, if_pos (by simp; omega), toNat_nat, es, i64_succ (by omega)]
    exact f1
   ·rw [f4, val_append, val_append, hlen_aux hp e2 hpl]
    rw [val_drop B32 a i]
    have hv : val B32 p = val B32 (p.take i) + B32 ^ i * val B32 (p.drop i) := by
     conv => lhs; rw [hsplit]
     rw [val_append, List.length_take, Nat.min_eq_left (by omega)]
    rw [hv]
    rw [hpl] at e5
    simp only [val, Int.mul_zero, Int.add_zero, List.drop_zero] at e5 ⊢
    rw [List.length_take, Nat.min_eq_left (by omega), Int.pow_add, Int.pow_succ]
    rw [Int.add_mul, Int.mul_add (B32 ^ i) (a.getD i 0 * val B32 b), Int.mul_assoc B32, Int.mul_assoc (B32 ^ i) B32, Int.mul_assoc (B32 ^ i) (B32 ^ b.length)]
    have e6 : B32 ^ i * (val B32 r + B32 ^ b.length * cy) = B32 ^ i * (val B32 (p.drop i) + a.getD i 0 * val B32 b) := by rw [e5]
    rw [Int.mul_add, Int.mul_add] at e6
    omega
  ·have hil : i = a.length := by omega
   refine ⟨p, ?_, by omega, hd, ?_⟩
   ·simp only [basculeref_times.l0, basculeref_times.l0s]
    rw [if_neg (by simp; omega), show a.length - i = 0 by omega]
    simp
   ·rw [List.drop_eq_nil_of_le (by omega)]
    simp [val]
where
 hlen_aux {p r : List Int} {i lb : Nat} (hp : p.length = i + lb) (e2 : r.length = (p.drop i).length) (hpl : (p.drop i).length = lb) : (p.take i ++ r).length = i + lb := by
  simp; simp at e2; omega
theorem digs_zero (n : Nat) : digs B32 (List.replicate n 0) := fun d hd => by
 rw [List.mem_replicate] at hd
 rw [hd.2]; simp [B32]
theorem val_zero (B : Int) : ∀ n, val B (List.replicate n 0) = 0
 | 0 => rfl
 | n + 1 => by rw [List.replicate_succ]; simp [val, val_zero B n]
theorem ref_times {a b : List Int} (ha : digs B32 a) (hb : digs B32 b) (hal : a.length <= 1000000) (hl : b.length <= 1000000) :
  ∃ r, basculeref_times.run a b = some r /\ r.length = a.length + b.length /\ digs B32 r /\ val B32 r = val B32 a * val B32 b := by
 unfold basculeref_times.run basculeref_times.top basculeref_times.j2
 have ew : IntKind.i64.wrap ((a.length : Int) + (b.length : Int)) = ((a.length + b.length : Nat) : Int) := by
  rw [wrap_i64 (by omega) (by omega)]; simp
 have h0 := fun N (hN : a.length < N) (hk : b.length < N) => times_outer N (fun (c17 : List Int) => some c17) a b ha hb hal hl hk N 0 (List.replicate b.length 0) (by simp) (by omega) (by omega) (digs_zero _)
 obtain ⟨r, e1, e2, e3, e4⟩ := h0 fuel (by rw [fuel_big]; omega) (by rw [fuel_big]; omega)
 refine ⟨r, ?_, e2, e3, ?_⟩
 ·rw [ew, toNat_nat, if_pos ⟨by omega, rfl, fitB_small (by omega) (by decide)⟩]
  rw [Nat.add_comm a.length, <- List.replicate_append_replicate]
  exact e1
 ·rw [e4, val_zero]
  simp
end Go.Bx
namespace Go.Bx
open Go
set_option linter.unusedSimpArgs false
set_option linter.unusedVariables false
theorem shorn_loop {α : Type} (k : Nat) (Xt : List Int -> Option α) : ∀ (n : Nat) (l : List Int), l.length < n -> l.length <= 1000000 -> digs B32 l -> ∃ r, basculeref_shorn.l0 k Xt n l = Xt r /\ r.length <= l.length /\ digs B32 r /\ val B32 r = val B32 l /\ (∀ d, r.getLast? = some d -> d ≠ 0)
 | 0, l, h, _, _ => by omega
 | n + 1, l, h, hl, hd => by
  simp only [basculeref_shorn.l0, basculeref_shorn.l0s]
  by_cases h0 : l.length = 0
  ·have : l = [] := List.eq_nil_of_length_eq_zero h0
   subst this
   exact ⟨[], rfl, by simp, digs_nil, rfl, by simp⟩
  ·have ew : IntKind.i64.wrap ((l.length : Int) - 1) = ((l.length - 1 : Nat) : Int) := by rw [wrap_i64 (by omega) (by omega)]; omega
   rw [ew]
   have hc1 : (decide (0 <= ((l.length - 1 : Nat) : Int) /\ ((l.length - 1 : Nat) : Int) < (l.length : Int)) || !((decide ((l.length : Int) > 0)) == true)) = true := by
    rw [Bool.or_eq_true]; left; rw [decide_eq_true_eq]; omega
   rw [hc1]
   simp only [cond_true]
   have hgt : decide ((l.length : Int) > 0) = true := by rw [decide_eq_true_eq]; omega
   have hlt : l.length - 1 < l.length := by omega
   simp only [hgt, cond_true, toNat_nat, getD_eq hlt]
   have hsplit : l = l.take (l.length - 1) ++ [l[l.length - 1]] := by
    conv => lhs; rw [<- List.take_append_drop (l.length - 1) l, List.drop_eq_getElem_cons hlt]
    rw [show l.length - 1 + 1 = l.length by omega, List.drop_length]
   by_cases hz : l[l.length - 1] = 0
   ·rw [if_pos (by simpa using hz), if_pos (by omega)]
    have hcut : cutL l 0 ((l.length - 1 : Nat) : Int) = l.take (l.length - 1) := by
     unfold cutL; rw [Int.toNat_natCast]; simp
    rw [hcut]
    obtain ⟨r, e1, e2, e3, e4, e5⟩ := shorn_loop k Xt n (l.take (l.length - 1)) (by simp; omega) (by simp; omega) (digs_take hd _)
    refine ⟨r, e1, by simp at e2; omega, e3, ?_, e5⟩
    rw [e4]
    conv => rhs; rw [hsplit, val_append, hz]
    simp [val]
   ·rw [if_neg (by simpa using hz)]
    refine ⟨l, rfl, Nat.le_refl _, hd, rfl, fun d hd2 => ?_⟩
    rw [hsplit] at hd2
    simp only [List.getLast?_append, List.getLast?_singleton, Option.some_or, Option.some.injEq] at hd2
    rw [<- hd2]; exact hz
theorem ref_shorn {l : List Int} (hl : l.length <= 1000000) (hd : digs B32 l) : ∃ r, basculeref_shorn.run l = some r /\ r.length <= l.length /\ digs B32 r /\ val B32 r = val B32 l /\ (∀ d, r.getLast? = some d -> d ≠ 0) := by
 unfold basculeref_shorn.run basculeref_shorn.top basculeref_shorn.j0
 have := fun N (hN : l.length < N) => shorn_loop N (fun (x2 : List Int) => some x2) N l hN hl hd
 exact this fuel (by rw [fuel_big]; omega)
end Go.Bx
namespace Go.Bx
open Go
set_option linter.unusedSimpArgs false
set_option linter.unusedVariables false
theorem less_cut {α : Type} (k : Nat) (Xt : List Int -> Option α) (b : List Int) (L : Nat) (hL : L <= 1000000) : ∀ (n i : Nat) (br : Int) (c : List Int), i <= L ->
  basculeref_less.l0 k Xt n b br (L : Int) (i : Int) c = basculeref_less.l0 k Xt n (b.take L) br (L : Int) (i : Int) c
 | 0, _, _, _, _ => rfl
 | n + 1, i, br, c, hi => by
  simp only [basculeref_less.l0, basculeref_less.l0s]
  by_cases hlt : i < L
  ·have h0 : decide ((i : Int) < (L : Int)) = true := by rw [decide_eq_true_eq]; omega
   have hj : ∀ x, basculeref_less.j0 (basculeref_less.l0 k Xt n) b (i : Int) x (L : Int) (i : Int) c = basculeref_less.j0 (basculeref_less.l0 k Xt n) (b.take L) (i : Int) x (L : Int) (i : Int) c := fun x => by
    unfold basculeref_less.j0 basculeref_less.j1
    rw [i64_succ (by omega)]
    have ih := fun br c => less_cut k Xt b L hL n (i + 1) br c (by omega)
    simp only [ih]
   rw [toNat_nat]
   by_cases h1 : i < b.length
   ·have h2 : i < (b.take L).length := by rw [List.length_take]; omega
    have hg : (b.take L).getD i 0 = b.getD i 0 := by
     rw [getD_eq h2, getD_eq h1, List.getElem_take]
    have c1 : decide ((i : Int) < (b.length : Int)) = true := by rw [decide_eq_true_eq]; omega
    have c2 : decide ((i : Int) < ((b.take L).length : Int)) = true := by rw [decide_eq_true_eq]; omega
    rw [h0, c1, c2, if_pos rfl, if_pos rfl, if_pos (by omega), if_pos rfl, if_pos rfl, if_pos (by omega), hj, hg]
   ·have h2 : ¬ i < (b.take L).length := by rw [List.length_take]; omega
    have c1 : decide ((i : Int) < (b.length : Int)) = false := by rw [decide_eq_false_iff_not]; omega
    have c2 : decide ((i : Int) < ((b.take L).length : Int)) = false := by rw [decide_eq_false_iff_not]; omega
    rw [h0, c1, c2]
    exact hj _
  ·have h0 : decide ((i : Int) < (L : Int)) = false := by rw [decide_eq_false_iff_not]; omega
   rw [h0]; rfl
theorem ref_less_any {a b : List Int} (ha : digs B32 a) (hb : digs B32 b) (h1 : a.length <= 1000000) (hle : val B32 b <= val B32 a) :
  ∃ r, basculeref_less.run a b = some r /\ r.length = a.length /\ digs B32 r /\ val B32 r = val B32 a - val B32 b := by
 have ev : val B32 (b.take a.length) = val B32 b := by
  by_cases hl : b.length <= a.length
  ·rw [List.take_of_length_le hl]
  ·have h0 := val_append B32 (b.take a.length) (b.drop a.length)
   rw [List.take_append_drop, List.length_take, Nat.min_eq_left (by omega)] at h0
   have hd := (val_bound B32_pos (digs_drop hb a.length)).1
   have ht := (val_bound B32_pos (digs_take hb a.length)).1
   have hA := (val_bound B32_pos ha).2
   by_cases hz : val B32 (b.drop a.length) = 0
   ·rw [hz, Int.mul_zero] at h0; omega
   ·have := Int.mul_le_mul_of_nonneg_left (show 1 <= val B32 (b.drop a.length) by omega) (show 0 <= B32 ^ a.length from Int.le_of_lt (pow_pos' B32_pos _))
    rw [Int.mul_one] at this
    omega
 obtain ⟨r, e1, e2, e3, e4⟩ := ref_less ha (digs_take hb a.length) h1 (by rw [List.length_take]; omega) (by omega)
 refine ⟨r, ?_, e2, e3, by omega⟩
 rw [<- e1]
 unfold basculeref_less.run basculeref_less.top
 rw [if_pos (by rw [fitB_small (by omega) (by decide)]; rfl), if_pos (by rw [fitB_small (by omega) (by decide)]; rfl)]
 have := less_cut fuel (fun (c11 : List Int) => basculeref_less.j2 (fun (c11 : List Int) => some c11) c11) b a.length h1 fuel 0 0 a (by omega)
 exact this
theorem digs1 {d : Int} (h : 0 <= d /\ d < 4294967296) : digs B32 [d] := digs_cons.2 ⟨h, digs_nil⟩
theorem div_of {W V q : Int} (hV : 0 < V) (h1 : q * V <= W) (h2 : W < (q + 1) * V) : W / V = q := by
 have hn := Int.mul_ediv_add_emod W V
 have hm := Int.emod_nonneg W (show V ≠ 0 by omega)
 have hl := Int.emod_lt_of_pos W hV
 have e1 : ¬ (W / V + 1 <= q) := fun h => by
  have := Int.mul_le_mul_of_nonneg_right h (show 0 <= V by omega)
  rw [Int.add_mul, Int.one_mul, Int.mul_comm (W / V)] at this
  omega
 have e2 : ¬ (q + 1 <= W / V) := fun h => by
  have := Int.mul_le_mul_of_nonneg_right h (show 0 <= V by omega)
  rw [Int.mul_comm (W / V)] at this
  omega
 omega
theorem search {α : Type} (k : Nat) (Xt : List Int → List Int → Int → Int → List Int → List Int → Option α) (a b R c : List Int) (x : Int) (hb : digs B32 b) (hbl : b.length ≤ 1000) (hR : digs B32 R) (hRl : R.length ≤ 10000) (hV : 0 < val B32 b) :
    ∀ (n : Nat) (lo hi : Int), 0 ≤ lo → lo < hi → hi ≤ 4294967296 → lo * val B32 b ≤ val B32 R → val B32 R < hi * val B32 b → hi - lo < (n : Int) →
    basculeref_divided.l2 k Xt n a b x lo hi c R = Xt a b x (val B32 R / val B32 b) c R
  | 0, lo, hi, _, h1, _, _, _, h => by omega
  | n + 1, lo, hi, h0, h1, h2, h3, h4, h => by
    simp only [basculeref_divided.l2, basculeref_divided.l2s]
    rw [wrap_u64 (x := hi - lo) (by omega) (by omega), wrap_u64 (x := lo + hi) (by omega) (by omega), tdiv_pos (by omega), wrap_u64 (x := (lo + hi) / 2) (by omega) (by omega)]
    by_cases hc : hi - lo > 1
    · rw [if_pos (by rw [decide_eq_true_eq]; exact hc)]
      obtain ⟨y, y1, y2, y3, y4⟩ := ref_times (a := b) (b := [(lo + hi) / 2]) hb (digs1 (by omega)) (by omega) (by simp)
      rw [y1, Option.bind_some, ref_compare y3 hR (by simp at y2; omega) (by omega), Option.bind_some, y4]
      have e1 : val B32 [(lo + hi) / 2] = (lo + hi) / 2 := by simp [val]
      rw [e1, Int.mul_comm]
      by_cases hm : (lo + hi) / 2 * val B32 b ≤ val B32 R
      · rw [if_pos]
        · exact search k Xt a b R c x hb hbl hR hRl hV n _ hi (by omega) (by omega) h2 hm h4 (by omega)
        · rw [decide_eq_true_eq]
          split
          · omega
          · split <;> omega
      · rw [if_neg]
        · exact search k Xt a b R c x hb hbl hR hRl hV n lo _ h0 (by omega) (by omega) h3 (by omega) (by omega)
        · rw [decide_eq_true_eq, if_neg (by omega), if_pos (by omega)]; omega
    · rw [if_neg (by rw [decide_eq_true_eq]; exact hc)]
      rw [div_of hV h3 (by have : lo + 1 = hi := by omega
                           rw [this]; exact h4)]
theorem set_drop (q : List Int) (i : Nat) (v : Int) (h : i < q.length) : (q.set i v).drop i = v :: q.drop (i + 1) := by
 rw [List.drop_eq_getElem_cons (by simpa using h), List.getElem_set_self, List.drop_set_of_lt (by omega)]
theorem digs_set {B : Int} {q : List Int} {v : Int} (i : Nat) (h : digs B q) (hv : 0 <= v /\ v < B) : digs B (q.set i v) := fun d hd => by
 rcases List.mem_or_eq_of_mem_set hd with hd | rfl
 ·exact h d hd
 ·exact hv
theorem long_loop {α : Type} (k : Nat) (hk : 4294967296 < k) (Xt : List Int -> List Int -> Option α) (a b : List Int) (ha : digs B32 a) (hb : digs B32 b) (hal : a.length <= 1000) (hbl : b.length <= 1000) (hV : 0 < val B32 b) :
  ∀ (n i : Nat) (r q : List Int), i < n -> i <= a.length -> digs B32 r -> r.length <= a.length - i -> q.length = a.length -> digs B32 q -> val B32 (q.drop i) * val B32 b + val B32 r = val B32 (a.drop i) -> val B32 r < val B32 b ->
  ∃ q' r', basculeref_divided.l1 k Xt n a b r ((i : Int) - 1) q = Xt r' q' /\ q'.length = a.length /\ digs B32 q' /\ digs B32 r' /\ r'.length <= a.length /\ val B32 q' * val B32 b + val B32 r' = val B32 a /\ val B32 r' < val B32 b
 | 0, i, _, _, h, _, _, _, _, _, _, _ => by omega
 | n + 1, 0, r, q, h, hi, hr, hrl, hq, hqd, hv, hlt => by
  refine ⟨q, r, ?_, hq, hqd, hr, by omega, by simpa using hv, hlt⟩
  simp only [basculeref_divided.l1, basculeref_divided.l1s]
  rw [if_neg (by simp)]
 | n + 1, i + 1, r, q, h, hi, hr, hrl, hq, hqd, hv, hlt => by
  simp only [basculeref_divided.l1, basculeref_divided.l1s]
  have ei : ((i + 1 : Nat) : Int) - 1 = (i : Int) := by omega
  rw [ei, if_pos (by rw [decide_eq_true_eq]; omega), if_pos (by omega), toNat_nat]
  obtain ⟨y, y1, y2, y3, y4, _⟩ := ref_shorn (by omega) hr
  rw [y1, Option.bind_some, if_pos (by rw [fitB_small (by omega) (by omega)])]
  have da : 0 <= a.getD i 0 /\ a.getD i 0 < 4294967296 := digs_getD B32_pos ha i
  have hRd : digs B32 ([a.getD i 0] ++ y) := digs_cons.2 ⟨da, y3⟩
  have hRv : val B32 ([a.getD i 0] ++ y) = a.getD i 0 + 4294967296 * val B32 r := by
   rw [<- y4]; rfl
  have hr0 := (val_bound B32_pos hr).1
  have hW0 := (val_bound B32_pos hRd).1
  have hW : val B32 ([a.getD i 0] ++ y) < 4294967296 * val B32 b := by
   rw [hRv]; omega
  rw [search k _ a b ([a.getD i 0] ++ y) q (i : Int) hb hbl hRd (by simp; omega) hV k 0 4294967296 (by omega) (by omega) (by omega) (by rw [Int.zero_mul]; exact hW0) hW (by omega)]
  generalize hWe : val B32 ([a.getD i 0] ++ y) = W at *
  have hlo0 : 0 <= W / val B32 b := Int.ediv_nonneg hW0 (by omega)
  have hlo1 : W / val B32 b < 4294967296 := Int.ediv_lt_of_lt_mul hV hW
  have hdm := Int.mul_ediv_add_emod W (val B32 b)
  have hm0 := Int.emod_nonneg W (show val B32 b ≠ 0 by omega)
  have hm1 := Int.emod_lt_of_pos W hV
  unfold basculeref_divided.j2 basculeref_divided.j3
  rw [if_pos (by omega), toNat_nat]
  obtain ⟨p, p1, p2, p3, p4⟩ := ref_times (a := b) (b := [W / val B32 b]) hb (digs1 (by omega)) (by omega) (by simp)
  have e1 : val B32 [W / val B32 b] = W / val B32 b := by simp [val]
  rw [e1] at p4
  obtain ⟨s, s1, s2, s3, s4⟩ := ref_less_any hRd p3 (by simp; omega) (by rw [hWe, p4]; omega)
  rw [p1, Option.bind_some, s1, Option.bind_some]
  have ew : IntKind.i64.wrap ((i : Int) - 1) = (i : Int) - 1 := wrap_i64 (by omega) (by omega)
  rw [ew]
  have hsv : val B32 s = W % val B32 b := by rw [s4, hWe, p4]; omega
  refine long_loop k hk Xt a b ha hb hal hbl hV n i s (q.set i (W / val B32 b)) (by omega) (by omega) s3 (by rw [s2]; simp; omega) (by simpa using hq) (digs_set i hqd (show _ /\ _ < (4294967296 : Int) by omega)) ?_ (by omega)
  rw [set_drop q i _ (by omega), val_drop B32 a i]
  simp only [val]
  rw [Int.add_mul, Int.mul_assoc, hsv]
  have : B32 * (val B32 (q.drop (i + 1)) * val B32 b) + 4294967296 * val B32 r = B32 * val B32 (a.drop (i + 1)) := by rw [<- hv, Int.mul_add]
  rw [Int.mul_comm (W / val B32 b)]
  omega
theorem short_loop {α : Type} (k : Nat) (Xt : Int -> List Int -> Option α) (a : List Int) (y : Int) (ha : digs B32 a) (hal : a.length <= 1000) (hV : 0 < y /\ y < 4294967296) :
  ∀ (n i : Nat) (r : Int) (q : List Int), i < n -> i <= a.length -> 0 <= r -> q.length = a.length -> digs B32 q -> val B32 (q.drop i) * y + r = val B32 (a.drop i) -> r < y ->
  ∃ q' r', basculeref_divided.l0 k Xt n a y r ((i : Int) - 1) q = Xt r' q' /\ q'.length = a.length /\ digs B32 q' /\ 0 <= r' /\ val B32 q' * y + r' = val B32 a /\ r' < y
 | 0, i, _, _, h, _, _, _, _, _, _ => by omega
 | n + 1, 0, r, q, h, hi, hr, hq, hqd, hv, hlt => by
  refine ⟨q, r, ?_, hq, hqd, hr, by simpa using hv, hlt⟩
  simp only [basculeref_divided.l0, basculeref_divided.l0s]
  rw [if_neg (by simp)]
 | n + 1, i + 1, r, q, h, hi, hr, hq, hqd, hv, hlt => by
  simp only [basculeref_divided.l0, basculeref_divided.l0s]
  have ei : ((i + 1 : Nat) : Int) - 1 = (i : Int) := by omega
  have da : 0 <= a.getD i 0 /\ a.getD i 0 < 4294967296 := digs_getD B32_pos ha i
  rw [ei, if_pos (by rw [decide_eq_true_eq]; omega), if_pos (by omega), if_pos (by omega), if_pos (by omega), if_pos (by omega), toNat_nat]
  rw [wrap_u64 (x := r * 4294967296) (by omega) (by omega), wrap_u64 (x := r * 4294967296 + a.getD i 0) (by omega) (by omega), tdiv_pos (by omega), tmod_pos (by omega)]
  have ew : IntKind.i64.wrap ((i : Int) - 1) = (i : Int) - 1 := wrap_i64 (by omega) (by omega)
  rw [ew]
  generalize hWe : r * 4294967296 + a.getD i 0 = W at *
  have hW : W < 4294967296 * y := by omega
  have hW0 : 0 <= W := by omega
  have hlo0 : 0 <= W / y := Int.ediv_nonneg hW0 (by omega)
  have hlo1 : W / y < 4294967296 := Int.ediv_lt_of_lt_mul hV.1 hW
  have hdm := Int.mul_ediv_add_emod W y
  have hm0 := Int.emod_nonneg W (show y ≠ 0 by omega)
  have hm1 := Int.emod_lt_of_pos W hV.1
  rw [wrap_u64 (x := W / y) (by omega) (by omega)]
  refine short_loop k Xt a y ha hal hV n i (W % y) (q.set i (W / y)) (by omega) (by omega) hm0 (by simpa using hq) (digs_set i hqd (show _ /\ _ < (4294967296 : Int) by omega)) ?_ hm1
  rw [set_drop q i _ (by omega), val_drop B32 a i]
  simp only [val]
  rw [Int.add_mul, Int.mul_assoc]
  have : B32 * (val B32 (q.drop (i + 1)) * y) + 4294967296 * r = B32 * val B32 (a.drop (i + 1)) := by rw [<- hv, Int.mul_add]
  rw [Int.mul_comm (W / y)]
  omega
theorem ref_small {l : List Int} (hl : l.length <= 1000000) (hd : digs B32 l) : ∃ y ok, basculeref_small.run l = some (y, ok, ()) /\ (0 <= y /\ y < B32) /\ y = val B32 l % B32 /\ (ok = true -> val B32 l = y) := by
 unfold basculeref_small.run basculeref_small.top
 obtain ⟨s, s1, s2, s3, s4, _⟩ := ref_shorn hl hd
 rw [s1, Option.bind_some]
 match s, s3, s4 with
 | [], _, s4 => exact ⟨0, true, rfl, by decide, by rw [<- s4]; rfl, fun _ => by rw [<- s4]; rfl⟩
 | d :: t, s3, s4 =>
  obtain ⟨hd1, hd2⟩ := digs_cons.1 s3
  refine ⟨d, (((d :: t).length : Int) == 1), ?_, hd1, ?_, ?_⟩
  ·rw [if_neg (by simp; omega), if_pos (by simp)]; rfl
  ·rw [<- s4]; simp only [val]
   rw [Int.add_mul_emod_self_left]
   exact (Int.emod_eq_of_lt hd1.1 hd1.2).symm
  ·intro h
   have : t = [] := by
    have : (d :: t).length = 1 := by have := eq_of_beq h; omega
    exact List.eq_nil_of_length_eq_zero (by simp only [List.length_cons] at this; omega)
   subst this
   rw [<- s4]; simp [val]
theorem ref_divided {a b : List Int} (ha : digs B32 a) (hb : digs B32 b) (hal : a.length <= 1000) (hbl : b.length <= 1000) (hV : 0 < val B32 b) :
  ∃ q r, basculeref_divided.run a b = some (q, r, ()) /\ q.length = a.length /\ digs B32 q /\ digs B32 r /\ r.length <= 1000 /\ val B32 q = val B32 a / val B32 b /\ val B32 r = val B32 a % val B32 b := by
 unfold basculeref_divided.run basculeref_divided.top
 obtain ⟨y, ok, y1, y2, y3, y4⟩ := ref_small (by omega) hb
 rw [y1, Option.bind_some]
 have ew : IntKind.i64.wrap ((a.length : Int) - 1) = (a.length : Int) - 1 := wrap_i64 (by omega) (by omega)
 have fin : ∀ (q r : List Int), val B32 q * val B32 b + val B32 r = val B32 a -> 0 <= val B32 r -> val B32 r < val B32 b -> val B32 q = val B32 a / val B32 b /\ val B32 r = val B32 a % val B32 b := fun q r h1 h2 h3 => by
  have e : val B32 a / val B32 b = val B32 q := div_of hV (by omega) (by rw [Int.add_mul]; omega)
  refine ⟨e.symm, ?_⟩
  have := Int.mul_ediv_add_emod (val B32 a) (val B32 b)
  rw [e, Int.mul_comm] at this
  omega
 have g : 0 <= (a.length : Int) /\ id (a.length : Int) = (a.length : Int) /\ fitB (a.length : Int).toNat 8 = true := ⟨by omega, rfl, fitB_small (by rw [toNat_nat]; omega) (by omega)⟩
 by_cases hok : ok = true
 ·rw [if_pos hok, if_pos g, ew, toNat_nat]
  have hy := y4 hok
  rw [hy] at hV fin
  have y2 : 0 <= y /\ y < 4294967296 := y2
  have := fun N (hN : a.length < N) => short_loop N (fun (x8 : Int) (c22 : List Int) => basculeref_divided.j0 (fun (x4 : List Int) (x5 : List Int) => some (x4, x5, ())) x8 c22) a y ha hal ⟨hV, y2.2⟩ N a.length 0 (List.replicate a.length 0) hN (by omega) (by omega) (by simp) (digs_zero _) (by rw [List.drop_of_length_le (by simp), List.drop_of_length_le (by simp)]; simp [val]) (by omega)
  obtain ⟨q, r, e1, e2, e3, e4, e5, e6⟩ := this fuel (by rw [fuel_big]; omega)
  have ev : val B32 [r] = r := by simp [val]
  obtain ⟨f1, f2⟩ := fin q [r] (by rw [ev]; exact e5) (by rw [ev]; exact e4) (by rw [ev]; exact e6)
  refine ⟨q, [r], Eq.trans e1 rfl, e2, e3, digs1 (by omega), by simp, ?_, ?_⟩
  ·rw [hy]; exact f1
  ·rw [hy]; exact f2
 ·rw [if_neg hok]
  unfold basculeref_divided.j1
  rw [if_pos g, ew, toNat_nat]
  have := fun N (hN : 4294967296 < N) => long_loop N hN (fun (x5 : List Int) (c51 : List Int) => basculeref_divided.j4 (fun (x4 : List Int) (x5 : List Int) => some (x4, x5, ())) x5 c51) a b ha hb hal hbl hV N a.length [] (List.replicate a.length 0) (by omega) (by omega) digs_nil (by simp) (by simp) (digs_zero _) (by rw [List.drop_of_length_le (by simp), List.drop_of_length_le (by simp)]; simp [val]) (by simp only [val]; exact hV)
  obtain ⟨q, r, e1, e2, e3, e4, e5, e6, e7⟩ := this fuel (by rw [fuel_big]; omega)
  obtain ⟨f1, f2⟩ := fin q r e6 (val_bound B32_pos e4).1 e7
  exact ⟨q, r, Eq.trans e1 rfl, e2, e3, e4, by omega, f1, f2⟩
end Go.Bx
