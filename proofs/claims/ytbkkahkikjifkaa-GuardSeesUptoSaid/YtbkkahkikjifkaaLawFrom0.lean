/- A part of a framework that reads Go code as functions of plain data; or a law about such functions. -/
import Derived.Test.YtbkkahkikjifkaaLawByte
import Derived.Test.YtbkkahkikjifkaaFnGuardSees1
namespace Go.Bx.Frm
open Go Go.Bx
set_option linter.unusedSimpArgs false
set_option linter.unusedVariables false
set_option maxRecDepth 100000
def orW (b0 b1 b2 b3 b4 b5 b6 b7 : Int) : Int := (bor .u64 (bor .u64 (bor .u64 (bor .u64 (bor .u64 (bor .u64 (bor .u64 (bor .u64 0 (shlI .u64 (IntKind.u64.wrap b0) 56)) (shlI .u64 (IntKind.u64.wrap b1) 48)) (shlI .u64 (IntKind.u64.wrap b2) 40)) (shlI .u64 (IntKind.u64.wrap b3) 32)) (shlI .u64 (IntKind.u64.wrap b4) 24)) (shlI .u64 (IntKind.u64.wrap b5) 16)) (shlI .u64 (IntKind.u64.wrap b6) 8)) (shlI .u64 (IntKind.u64.wrap b7) 0))
def sumW (b0 b1 b2 b3 b4 b5 b6 b7 : Int) : Int := (IntKind.u64.wrap ((IntKind.u64.wrap ((IntKind.u64.wrap ((IntKind.u64.wrap ((IntKind.u64.wrap ((IntKind.u64.wrap ((IntKind.u64.wrap ((IntKind.u64.wrap ((IntKind.u64.wrap ((IntKind.u64.wrap ((IntKind.u64.wrap ((IntKind.u64.wrap ((IntKind.u64.wrap ((IntKind.u64.wrap ((IntKind.u64.wrap ((IntKind.u64.wrap (0 * 256)) + (IntKind.u64.wrap b0))) * 256)) + (IntKind.u64.wrap b1))) * 256)) + (IntKind.u64.wrap b2))) * 256)) + (IntKind.u64.wrap b3))) * 256)) + (IntKind.u64.wrap b4))) * 256)) + (IntKind.u64.wrap b5))) * 256)) + (IntKind.u64.wrap b6))) * 256)) + (IntKind.u64.wrap b7)))
theorem wb5 (a0 a1 a2 a3 a4 a5 a6 a7 a8 a9 a10 a11 a12 a13 a14 a15 a16 a17 a18 a19 a20 a21 a22 a23 a24 a25 a26 a27 a28 a29 a30 a31 : Int) : wide_From.run [a0, a1, a2, a3, a4, a5, a6, a7, a8, a9, a10, a11, a12, a13, a14, a15, a16, a17, a18, a19, a20, a21, a22, a23, a24, a25, a26, a27, a28, a29, a30, a31] = some [orW a24 a25 a26 a27 a28 a29 a30 a31, orW a16 a17 a18 a19 a20 a21 a22 a23, orW a8 a9 a10 a11 a12 a13 a14 a15, orW a0 a1 a2 a3 a4 a5 a6 a7] := by kernel_rfl
theorem wb6 (a0 a1 a2 a3 a4 a5 a6 a7 a8 a9 a10 a11 a12 a13 a14 a15 a16 a17 a18 a19 a20 a21 a22 a23 a24 a25 a26 a27 a28 a29 a30 a31 : Int) : basculeref_FromBytes.run [a0, a1, a2, a3, a4, a5, a6, a7, a8, a9, a10, a11, a12, a13, a14, a15, a16, a17, a18, a19, a20, a21, a22, a23, a24, a25, a26, a27, a28, a29, a30, a31] = some [sumW a24 a25 a26 a27 a28 a29 a30 a31, sumW a16 a17 a18 a19 a20 a21 a22 a23, sumW a8 a9 a10 a11 a12 a13 a14 a15, sumW a0 a1 a2 a3 a4 a5 a6 a7] := by kernel_rfl
theorem bor_add (i a b : Nat) (hb : b < 2 ^ i) (hx : 2 ^ i * a + b < 2 ^ 64) : bor .u64 ((2 ^ i * a : Nat) : Int) ((b : Nat) : Int) = ((2 ^ i * a + b : Nat) : Int) := by
 have h1 : 2 ^ i * a < 2 ^ 64 := by omega
 have h2 : b < 2 ^ 64 := by omega
 show IntKind.u64.wrap (((BitVec.ofInt 64 ((2 ^ i * a : Nat) : Int) ||| BitVec.ofInt 64 ((b : Nat) : Int)).toNat : Nat) : Int) = _
 rw [BitVec.toNat_or]
 have e1 : (BitVec.ofInt 64 ((2 ^ i * a : Nat) : Int)).toNat = 2 ^ i * a := by
  rw [BitVec.ofInt_natCast, BitVec.toNat_ofNat, Nat.mod_eq_of_lt h1]
 have e2 : (BitVec.ofInt 64 ((b : Nat) : Int)).toNat = b := by
  rw [BitVec.ofInt_natCast, BitVec.toNat_ofNat, Nat.mod_eq_of_lt h2]
 rw [e1, e2, <- Nat.two_pow_add_eq_or_of_lt hb]
 exact wrap_u64 (by omega) (by omega)
theorem or_step (s : Nat) (p q : Int) (hp : p = 2 ^ (s + 8)) (hq : q = 2 ^ s) (hs : s <= 56) {A b : Int} (hA : 0 <= A) (hb : 0 <= b /\ b < 256) (hlt : A * p + b * q < 18446744073709551616) :
  bor .u64 (A * p) (shlI .u64 (IntKind.u64.wrap b) s) = A * p + b * q := by
 obtain ⟨a, rfl⟩ := Int.eq_ofNat_of_zero_le hA
 obtain ⟨c, rfl⟩ := Int.eq_ofNat_of_zero_le hb.1
 have hc : c < 256 := by omega
 have hshl : shlI .u64 (IntKind.u64.wrap (c : Int)) s = ((c * 2 ^ s : Nat) : Int) := by
  unfold shlI
  rw [wrap_u64 (x := (c : Int)) (by omega) (by omega)]
  rw [show min ((s : Nat) : Int).toNat IntKind.u64.bits = s by simp [IntKind.bits]; omega]
  have h56 : (2 : Nat) ^ s <= 2 ^ 56 := Nat.pow_le_pow_right (by omega) hs
  have hm : c * 2 ^ s <= 255 * 2 ^ 56 := Nat.mul_le_mul (by omega) h56
  rw [show (c : Int) * 2 ^ s = ((c * 2 ^ s : Nat) : Int) by push_cast; rfl]
  exact wrap_u64 (by omega) (by omega)
 have e1 : (a : Int) * p = ((2 ^ (s + 8) * a : Nat) : Int) := by rw [hp]; push_cast; rw [Int.mul_comm]
 have e2 : (c : Int) * q = ((c * 2 ^ s : Nat) : Int) := by rw [hq]; push_cast; rfl
 rw [e1, e2] at hlt
 rw [hshl, e1, e2, bor_add (s + 8) a (c * 2 ^ s) (by rw [Nat.pow_add, Nat.mul_comm]; exact Nat.mul_lt_mul_of_pos_left hc (Nat.pow_pos (by omega))) (by omega)]
 push_cast; rfl
theorem or_sum {b0 b1 b2 b3 b4 b5 b6 b7 : Int} (h0 : 0 <= b0 /\ b0 < 256) (h1 : 0 <= b1 /\ b1 < 256) (h2 : 0 <= b2 /\ b2 < 256) (h3 : 0 <= b3 /\ b3 < 256) (h4 : 0 <= b4 /\ b4 < 256) (h5 : 0 <= b5 /\ b5 < 256) (h6 : 0 <= b6 /\ b6 < 256) (h7 : 0 <= b7 /\ b7 < 256) : orW b0 b1 b2 b3 b4 b5 b6 b7 = sumW b0 b1 b2 b3 b4 b5 b6 b7 := by
 unfold orW sumW
 have e0 : bor .u64 0 (shlI .u64 (IntKind.u64.wrap b0) 56) = b0 * 72057594037927936 := by
  have := or_step 56 18446744073709551616 72057594037927936 rfl rfl (by omega) (A := 0) (b := b0) (by omega) h0 (by omega)
  simp only [Int.zero_mul] at this; simpa using this
 have e1 : bor .u64 (b0 * 72057594037927936) (shlI .u64 (IntKind.u64.wrap b1) 48) = (b0 * 256 + b1) * 281474976710656 := by
  have := or_step 48 72057594037927936 281474976710656 rfl rfl (by omega) (A := b0) (b := b1) (by omega) h1 (by omega)
  refine this.trans ?_; omega
 have e2 : bor .u64 ((b0 * 256 + b1) * 281474976710656) (shlI .u64 (IntKind.u64.wrap b2) 40) = ((b0 * 256 + b1) * 256 + b2) * 1099511627776 := by
  have := or_step 40 281474976710656 1099511627776 rfl rfl (by omega) (A := (b0 * 256 + b1)) (b := b2) (by omega) h2 (by omega)
  refine this.trans ?_; omega
 have e3 : bor .u64 (((b0 * 256 + b1) * 256 + b2) * 1099511627776) (shlI .u64 (IntKind.u64.wrap b3) 32) = (((b0 * 256 + b1) * 256 + b2) * 256 + b3) * 4294967296 := by
  have := or_step 32 1099511627776 4294967296 rfl rfl (by omega) (A := ((b0 * 256 + b1) * 256 + b2)) (b := b3) (by omega) h3 (by omega)
  refine this.trans ?_; omega
 have e4 : bor .u64 ((((b0 * 256 + b1) * 256 + b2) * 256 + b3) * 4294967296) (shlI .u64 (IntKind.u64.wrap b4) 24) = ((((b0 * 256 + b1) * 256 + b2) * 256 + b3) * 256 + b4) * 16777216 := by
  have := or_step 24 4294967296 16777216 rfl rfl (by omega) (A := (((b0 * 256 + b1) * 256 + b2) * 256 + b3)) (b := b4) (by omega) h4 (by omega)
  refine this.trans ?_; omega
 have e5 : bor .u64 (((((b0 * 256 + b1) * 256 + b2) * 256 + b3) * 256 + b4) * 16777216) (shlI .u64 (IntKind.u64.wrap b5) 16) = (((((b0 * 256 + b1) * 256 + b2) * 256 + b3) * 256 + b4) * 256 + b5) * 65536 := by
  have := or_step 16 16777216 65536 rfl rfl (by omega) (A := ((((b0 * 256 + b1) * 256 + b2) * 256 + b3) * 256 + b4)) (b := b5) (by omega) h5 (by omega)
  refine this.trans ?_; omega
 have e6 : bor .u64 ((((((b0 * 256 + b1) * 256 + b2) * 256 + b3) * 256 + b4) * 256 + b5) * 65536) (shlI .u64 (IntKind.u64.wrap b6) 8) = ((((((b0 * 256 + b1) * 256 + b2) * 256 + b3) * 256 + b4) * 256 + b5) * 256 + b6) * 256 := by
  have := or_step 8 65536 256 rfl rfl (by omega) (A := (((((b0 * 256 + b1) * 256 + b2) * 256 + b3) * 256 + b4) * 256 + b5)) (b := b6) (by omega) h6 (by omega)
  refine this.trans ?_; omega
 have e7 : bor .u64 (((((((b0 * 256 + b1) * 256 + b2) * 256 + b3) * 256 + b4) * 256 + b5) * 256 + b6) * 256) (shlI .u64 (IntKind.u64.wrap b7) 0) = (((((((b0 * 256 + b1) * 256 + b2) * 256 + b3) * 256 + b4) * 256 + b5) * 256 + b6) * 256 + b7) * 1 := by
  have := or_step 0 256 1 rfl rfl (by omega) (A := ((((((b0 * 256 + b1) * 256 + b2) * 256 + b3) * 256 + b4) * 256 + b5) * 256 + b6)) (b := b7) (by omega) h7 (by omega)
  refine this.trans ?_; omega
 rw [e0, e1, e2, e3, e4, e5, e6, e7]
 have f0 : IntKind.u64.wrap ((IntKind.u64.wrap (0 * 256)) + (IntKind.u64.wrap b0)) = b0 := by
  rw [wrap_u64 (x := 0 * 256) (by omega) (by omega), wrap_u64 (x := b0) (by omega) (by omega), wrap_u64 (by omega) (by omega)]; omega
 have f1 : IntKind.u64.wrap ((IntKind.u64.wrap (b0 * 256)) + (IntKind.u64.wrap b1)) = (b0 * 256 + b1) := by
  rw [wrap_u64 (x := b0 * 256) (by omega) (by omega), wrap_u64 (x := b1) (by omega) (by omega), wrap_u64 (by omega) (by omega)]
 have f2 : IntKind.u64.wrap ((IntKind.u64.wrap ((b0 * 256 + b1) * 256)) + (IntKind.u64.wrap b2)) = ((b0 * 256 + b1) * 256 + b2) := by
  rw [wrap_u64 (x := (b0 * 256 + b1) * 256) (by omega) (by omega), wrap_u64 (x := b2) (by omega) (by omega), wrap_u64 (by omega) (by omega)]
 have f3 : IntKind.u64.wrap ((IntKind.u64.wrap (((b0 * 256 + b1) * 256 + b2) * 256)) + (IntKind.u64.wrap b3)) = (((b0 * 256 + b1) * 256 + b2) * 256 + b3) := by
  rw [wrap_u64 (x := ((b0 * 256 + b1) * 256 + b2) * 256) (by omega) (by omega), wrap_u64 (x := b3) (by omega) (by omega), wrap_u64 (by omega) (by omega)]
 have f4 : IntKind.u64.wrap ((IntKind.u64.wrap ((((b0 * 256 + b1) * 256 + b2) * 256 + b3) * 256)) + (IntKind.u64.wrap b4)) = ((((b0 * 256 + b1) * 256 + b2) * 256 + b3) * 256 + b4) := by
  rw [wrap_u64 (x := (((b0 * 256 + b1) * 256 + b2) * 256 + b3) * 256) (by omega) (by omega), wrap_u64 (x := b4) (by omega) (by omega), wrap_u64 (by omega) (by omega)]
 have f5 : IntKind.u64.wrap ((IntKind.u64.wrap (((((b0 * 256 + b1) * 256 + b2) * 256 + b3) * 256 + b4) * 256)) + (IntKind.u64.wrap b5)) = (((((b0 * 256 + b1) * 256 + b2) * 256 + b3) * 256 + b4) * 256 + b5) := by
  rw [wrap_u64 (x := ((((b0 * 256 + b1) * 256 + b2) * 256 + b3) * 256 + b4) * 256) (by omega) (by omega), wrap_u64 (x := b5) (by omega) (by omega), wrap_u64 (by omega) (by omega)]
 have f6 : IntKind.u64.wrap ((IntKind.u64.wrap ((((((b0 * 256 + b1) * 256 + b2) * 256 + b3) * 256 + b4) * 256 + b5) * 256)) + (IntKind.u64.wrap b6)) = ((((((b0 * 256 + b1) * 256 + b2) * 256 + b3) * 256 + b4) * 256 + b5) * 256 + b6) := by
  rw [wrap_u64 (x := (((((b0 * 256 + b1) * 256 + b2) * 256 + b3) * 256 + b4) * 256 + b5) * 256) (by omega) (by omega), wrap_u64 (x := b6) (by omega) (by omega), wrap_u64 (by omega) (by omega)]
 have f7 : IntKind.u64.wrap ((IntKind.u64.wrap (((((((b0 * 256 + b1) * 256 + b2) * 256 + b3) * 256 + b4) * 256 + b5) * 256 + b6) * 256)) + (IntKind.u64.wrap b7)) = (((((((b0 * 256 + b1) * 256 + b2) * 256 + b3) * 256 + b4) * 256 + b5) * 256 + b6) * 256 + b7) := by
  rw [wrap_u64 (x := ((((((b0 * 256 + b1) * 256 + b2) * 256 + b3) * 256 + b4) * 256 + b5) * 256 + b6) * 256) (by omega) (by omega), wrap_u64 (x := b7) (by omega) (by omega), wrap_u64 (by omega) (by omega)]
 rw [f0, f1, f2, f3, f4, f5, f6, f7]; omega
theorem cons_of_len {α : Type} {l : List α} {n : Nat} (h : l.length = n + 1) : ∃ a t, l = a :: t /\ t.length = n := by
 cases l with
 | nil => simp at h
 | cons a t => exact ⟨a, t, rfl, by simpa using h⟩
theorem sumW_rng (b0 b1 b2 b3 b4 b5 b6 b7 : Int) : 0 <= sumW b0 b1 b2 b3 b4 b5 b6 b7 /\ sumW b0 b1 b2 b3 b4 b5 b6 b7 < B64 := by
 unfold sumW
 rw [wrap_u64_mod]
 exact ⟨Int.emod_nonneg _ (by decide), Int.emod_lt_of_pos _ (by decide)⟩
theorem from_both (y : List Int) (hy : y.length = 32) (hb : ∀ b ∈ y, 0 <= b /\ b < 256) : ∃ r, wide_From.run y = some r /\ basculeref_FromBytes.run y = some r /\ r.length = 4 /\ digs B64 r := by
 obtain ⟨a0, y0, e_0, hy0⟩ := cons_of_len hy
 subst e_0
 obtain ⟨a1, y1, e_1, hy1⟩ := cons_of_len hy0
 subst e_1
 obtain ⟨a2, y2, e_2, hy2⟩ := cons_of_len hy1
 subst e_2
 obtain ⟨a3, y3, e_3, hy3⟩ := cons_of_len hy2
 subst e_3
 obtain ⟨a4, y4, e_4, hy4⟩ := cons_of_len hy3
 subst e_4
 obtain ⟨a5, y5, e_5, hy5⟩ := cons_of_len hy4
 subst e_5
 obtain ⟨a6, y6, e_6, hy6⟩ := cons_of_len hy5
 subst e_6
 obtain ⟨a7, y7, e_7, hy7⟩ := cons_of_len hy6
 subst e_7
 obtain ⟨a8, y8, e_8, hy8⟩ := cons_of_len hy7
 subst e_8
 obtain ⟨a9, y9, e_9, hy9⟩ := cons_of_len hy8
 subst e_9
 obtain ⟨a10, y10, e_10, hy10⟩ := cons_of_len hy9
 subst e_10
 obtain ⟨a11, y11, e_11, hy11⟩ := cons_of_len hy10
 subst e_11
 obtain ⟨a12, y12, e_12, hy12⟩ := cons_of_len hy11
 subst e_12
 obtain ⟨a13, y13, e_13, hy13⟩ := cons_of_len hy12
 subst e_13
 obtain ⟨a14, y14, e_14, hy14⟩ := cons_of_len hy13
 subst e_14
 obtain ⟨a15, y15, e_15, hy15⟩ := cons_of_len hy14
 subst e_15
 obtain ⟨a16, y16, e_16, hy16⟩ := cons_of_len hy15
 subst e_16
 obtain ⟨a17, y17, e_17, hy17⟩ := cons_of_len hy16
 subst e_17
 obtain ⟨a18, y18, e_18, hy18⟩ := cons_of_len hy17
 subst e_18
 obtain ⟨a19, y19, e_19, hy19⟩ := cons_of_len hy18
 subst e_19
 obtain ⟨a20, y20, e_20, hy20⟩ := cons_of_len hy19
 subst e_20
 obtain ⟨a21, y21, e_21, hy21⟩ := cons_of_len hy20
 subst e_21
 obtain ⟨a22, y22, e_22, hy22⟩ := cons_of_len hy21
 subst e_22
 obtain ⟨a23, y23, e_23, hy23⟩ := cons_of_len hy22
 subst e_23
 obtain ⟨a24, y24, e_24, hy24⟩ := cons_of_len hy23
 subst e_24
 obtain ⟨a25, y25, e_25, hy25⟩ := cons_of_len hy24
 subst e_25
 obtain ⟨a26, y26, e_26, hy26⟩ := cons_of_len hy25
 subst e_26
 obtain ⟨a27, y27, e_27, hy27⟩ := cons_of_len hy26
 subst e_27
 obtain ⟨a28, y28, e_28, hy28⟩ := cons_of_len hy27
 subst e_28
 obtain ⟨a29, y29, e_29, hy29⟩ := cons_of_len hy28
 subst e_29
 obtain ⟨a30, y30, e_30, hy30⟩ := cons_of_len hy29
 subst e_30
 obtain ⟨a31, y31, e_31, hy31⟩ := cons_of_len hy30
 subst e_31
 have e_y := List.eq_nil_of_length_eq_zero hy31
 subst e_y
 have ha0 := hb a0 (by simp)
 have ha1 := hb a1 (by simp)
 have ha2 := hb a2 (by simp)
 have ha3 := hb a3 (by simp)
 have ha4 := hb a4 (by simp)
 have ha5 := hb a5 (by simp)
 have ha6 := hb a6 (by simp)
 have ha7 := hb a7 (by simp)
 have ha8 := hb a8 (by simp)
 have ha9 := hb a9 (by simp)
 have ha10 := hb a10 (by simp)
 have ha11 := hb a11 (by simp)
 have ha12 := hb a12 (by simp)
 have ha13 := hb a13 (by simp)
 have ha14 := hb a14 (by simp)
 have ha15 := hb a15 (by simp)
 have ha16 := hb a16 (by simp)
 have ha17 := hb a17 (by simp)
 have ha18 := hb a18 (by simp)
 have ha19 := hb a19 (by simp)
 have ha20 := hb a20 (by simp)
 have ha21 := hb a21 (by simp)
 have ha22 := hb a22 (by simp)
 have ha23 := hb a23 (by simp)
 have ha24 := hb a24 (by simp)
 have ha25 := hb a25 (by simp)
 have ha26 := hb a26 (by simp)
 have ha27 := hb a27 (by simp)
 have ha28 := hb a28 (by simp)
 have ha29 := hb a29 (by simp)
 have ha30 := hb a30 (by simp)
 have ha31 := hb a31 (by simp)
 have s0 := or_sum ha0 ha1 ha2 ha3 ha4 ha5 ha6 ha7
 have s1 := or_sum ha8 ha9 ha10 ha11 ha12 ha13 ha14 ha15
 have s2 := or_sum ha16 ha17 ha18 ha19 ha20 ha21 ha22 ha23
 have s3 := or_sum ha24 ha25 ha26 ha27 ha28 ha29 ha30 ha31
 refine ⟨_, wb5 _ _ _ _ _ _ _ _ _ _ _ _ _ _ _ _ _ _ _ _ _ _ _ _ _ _ _ _ _ _ _ _, ?_, rfl, ?_⟩
 ·rw [wb6, s0, s1, s2, s3]
 ·rw [s0, s1, s2, s3]
  exact digs_cons.2 ⟨sumW_rng _ _ _ _ _ _ _ _, digs_cons.2 ⟨sumW_rng _ _ _ _ _ _ _ _, digs_cons.2 ⟨sumW_rng _ _ _ _ _ _ _ _, digs_cons.2 ⟨sumW_rng _ _ _ _ _ _ _ _, digs_nil⟩⟩⟩⟩
end Go.Bx.Frm
namespace Go.Bx
open Go
def wid (y : List Int) : List Int := (basculeref_FromBytes.run y).getD [0, 0, 0, 0]
theorem from_wid (y : List Int) (hy : y.length = 32) (hb : ∀ b ∈ y, 0 <= b /\ b < 256) : wide_From.run y = some (wid y) /\ basculeref_FromBytes.run y = some (wid y) := by
 obtain ⟨r, h1, h2, _, _⟩ := Frm.from_both y hy hb
 have : wid y = r := by unfold wid; rw [h2]; rfl
 rw [this]; exact ⟨h1, h2⟩
theorem wid_digs (y : List Int) (hy : y.length = 32) (hb : ∀ b ∈ y, 0 <= b /\ b < 256) : (wid y).length = 4 /\ digs B64 (wid y) := by
 obtain ⟨r, h1, h2, h3, h4⟩ := Frm.from_both y hy hb
 have : wid y = r := by unfold wid; rw [h2]; rfl
 rw [this]; exact ⟨h3, h4⟩
end Go.Bx
