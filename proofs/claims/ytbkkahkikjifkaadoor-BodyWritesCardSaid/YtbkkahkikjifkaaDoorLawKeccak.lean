/- A part of a framework that reads Go code as functions of plain data; or a law about such functions. -/
import Derived.Test.YtbkkahkikjifkaaDoorLawBits
import Derived.Test.YtbkkahkikjifkaaDoorLawBeq
import Derived.Test.YtbkkahkikjifkaaDoorFnBodyWrites0
namespace Go.Bx
open Go
set_option linter.unusedSimpArgs false
set_option linter.unusedVariables false
set_option maxRecDepth 100000
def rotL (x k : Int) : Int := bor .u64 (shlI .u64 x k) (shrI .u64 x (64 - k))
theorem kp1 {α : Type} (K n : Nat) (Xt : Int -> List Int -> Int -> List Int -> List Int -> List Int -> Option α) (rc : Int) (x16 : List Int) (x17 : Int) (c2 : List Int) (a0 a1 a2 a3 a4 a5 a6 a7 a8 a9 a10 a11 a12 a13 a14 a15 a16 a17 a18 a19 a20 a21 a22 a23 a24 : Int) :
  keccak_Turn.l1 K Xt (n + 26) rc x16 x17 [a0, a1, a2, a3, a4, a5, a6, a7, a8, a9, a10, a11, a12, a13, a14, a15, a16, a17, a18, a19, a20, a21, a22, a23, a24] 0 [a0, a1, a2, a3, a4, a5, a6, a7, a8, a9, a10, a11, a12, a13, a14, a15, a16, a17, a18, a19, a20, a21, a22, a23, a24] c2 [0, 0, 0, 0, 0] = Xt rc x16 x17 [a0, a1, a2, a3, a4, a5, a6, a7, a8, a9, a10, a11, a12, a13, a14, a15, a16, a17, a18, a19, a20, a21, a22, a23, a24] c2 [(bxor .u64 (bxor .u64 (bxor .u64 (bxor .u64 (bxor .u64 0 a0) a5) a10) a15) a20), (bxor .u64 (bxor .u64 (bxor .u64 (bxor .u64 (bxor .u64 0 a1) a6) a11) a16) a21), (bxor .u64 (bxor .u64 (bxor .u64 (bxor .u64 (bxor .u64 0 a2) a7) a12) a17) a22), (bxor .u64 (bxor .u64 (bxor .u64 (bxor .u64 (bxor .u64 0 a3) a8) a13) a18) a23), (bxor .u64 (bxor .u64 (bxor .u64 (bxor .u64 (bxor .u64 0 a4) a9) a14) a19) a24)] := by kernel_rfl
theorem kp2 {α : Type} (K n : Nat) (Xt : Int -> List Int -> Int -> List Int -> List Int -> List Int -> Option α) (rc : Int) (x16 : List Int) (x17 : Int) (c2 : List Int) (a0 a1 a2 a3 a4 a5 a6 a7 a8 a9 a10 a11 a12 a13 a14 a15 a16 a17 a18 a19 a20 a21 a22 a23 a24 z0 z1 z2 z3 z4 : Int) :
  keccak_Turn.l2 K Xt (n + 26) rc x16 x17 0 [a0, a1, a2, a3, a4, a5, a6, a7, a8, a9, a10, a11, a12, a13, a14, a15, a16, a17, a18, a19, a20, a21, a22, a23, a24] c2 [z0, z1, z2, z3, z4] (List.replicate 25 0) = Xt rc x16 x17 [a0, a1, a2, a3, a4, a5, a6, a7, a8, a9, a10, a11, a12, a13, a14, a15, a16, a17, a18, a19, a20, a21, a22, a23, a24] c2 [(rotL (bxor .u64 (bxor .u64 a0 z4) (rotL z1 1)) 0), (rotL (bxor .u64 (bxor .u64 a6 z0) (rotL z2 1)) 44), (rotL (bxor .u64 (bxor .u64 a12 z1) (rotL z3 1)) 43), (rotL (bxor .u64 (bxor .u64 a18 z2) (rotL z4 1)) 21), (rotL (bxor .u64 (bxor .u64 a24 z3) (rotL z0 1)) 14), (rotL (bxor .u64 (bxor .u64 a3 z2) (rotL z4 1)) 28), (rotL (bxor .u64 (bxor .u64 a9 z3) (rotL z0 1)) 20), (rotL (bxor .u64 (bxor .u64 a10 z4) (rotL z1 1)) 3), (rotL (bxor .u64 (bxor .u64 a16 z0) (rotL z2 1)) 45), (rotL (bxor .u64 (bxor .u64 a22 z1) (rotL z3 1)) 61), (rotL (bxor .u64 (bxor .u64 a1 z0) (rotL z2 1)) 1), (rotL (bxor .u64 (bxor .u64 a7 z1) (rotL z3 1)) 6), (rotL (bxor .u64 (bxor .u64 a13 z2) (rotL z4 1)) 25), (rotL (bxor .u64 (bxor .u64 a19 z3) (rotL z0 1)) 8), (rotL (bxor .u64 (bxor .u64 a20 z4) (rotL z1 1)) 18), (rotL (bxor .u64 (bxor .u64 a4 z3) (rotL z0 1)) 27), (rotL (bxor .u64 (bxor .u64 a5 z4) (rotL z1 1)) 36), (rotL (bxor .u64 (bxor .u64 a11 z0) (rotL z2 1)) 10), (rotL (bxor .u64 (bxor .u64 a17 z1) (rotL z3 1)) 15), (rotL (bxor .u64 (bxor .u64 a23 z2) (rotL z4 1)) 56), (rotL (bxor .u64 (bxor .u64 a2 z1) (rotL z3 1)) 62), (rotL (bxor .u64 (bxor .u64 a8 z2) (rotL z4 1)) 55), (rotL (bxor .u64 (bxor .u64 a14 z3) (rotL z0 1)) 39), (rotL (bxor .u64 (bxor .u64 a15 z4) (rotL z1 1)) 41), (rotL (bxor .u64 (bxor .u64 a21 z0) (rotL z2 1)) 2)] := by kernel_rfl
theorem kp3 {α : Type} (K n : Nat) (Xt : Int -> List Int -> Int -> List Int -> List Int -> Option α) (rc : Int) (x16 : List Int) (x17 : Int) (c2 : List Int) (a0 a1 a2 a3 a4 a5 a6 a7 a8 a9 a10 a11 a12 a13 a14 a15 a16 a17 a18 a19 a20 a21 a22 a23 a24 b0 b1 b2 b3 b4 b5 b6 b7 b8 b9 b10 b11 b12 b13 b14 b15 b16 b17 b18 b19 b20 b21 b22 b23 b24 : Int) :
  keccak_Turn.l3 K Xt (n + 26) rc x16 x17 0 [a0, a1, a2, a3, a4, a5, a6, a7, a8, a9, a10, a11, a12, a13, a14, a15, a16, a17, a18, a19, a20, a21, a22, a23, a24] c2 [b0, b1, b2, b3, b4, b5, b6, b7, b8, b9, b10, b11, b12, b13, b14, b15, b16, b17, b18, b19, b20, b21, b22, b23, b24] = Xt rc x16 x17 [(bxor .u64 b0 (band .u64 (bxor .u64 18446744073709551615 b1) b2)), (bxor .u64 b1 (band .u64 (bxor .u64 18446744073709551615 b2) b3)), (bxor .u64 b2 (band .u64 (bxor .u64 18446744073709551615 b3) b4)), (bxor .u64 b3 (band .u64 (bxor .u64 18446744073709551615 b4) b0)), (bxor .u64 b4 (band .u64 (bxor .u64 18446744073709551615 b0) b1)), (bxor .u64 b5 (band .u64 (bxor .u64 18446744073709551615 b6) b7)), (bxor .u64 b6 (band .u64 (bxor .u64 18446744073709551615 b7) b8)), (bxor .u64 b7 (band .u64 (bxor .u64 18446744073709551615 b8) b9)), (bxor .u64 b8 (band .u64 (bxor .u64 18446744073709551615 b9) b5)), (bxor .u64 b9 (band .u64 (bxor .u64 18446744073709551615 b5) b6)), (bxor .u64 b10 (band .u64 (bxor .u64 18446744073709551615 b11) b12)), (bxor .u64 b11 (band .u64 (bxor .u64 18446744073709551615 b12) b13)), (bxor .u64 b12 (band .u64 (bxor .u64 18446744073709551615 b13) b14)), (bxor .u64 b13 (band .u64 (bxor .u64 18446744073709551615 b14) b10)), (bxor .u64 b14 (band .u64 (bxor .u64 18446744073709551615 b10) b11)), (bxor .u64 b15 (band .u64 (bxor .u64 18446744073709551615 b16) b17)), (bxor .u64 b16 (band .u64 (bxor .u64 18446744073709551615 b17) b18)), (bxor .u64 b17 (band .u64 (bxor .u64 18446744073709551615 b18) b19)), (bxor .u64 b18 (band .u64 (bxor .u64 18446744073709551615 b19) b15)), (bxor .u64 b19 (band .u64 (bxor .u64 18446744073709551615 b15) b16)), (bxor .u64 b20 (band .u64 (bxor .u64 18446744073709551615 b21) b22)), (bxor .u64 b21 (band .u64 (bxor .u64 18446744073709551615 b22) b23)), (bxor .u64 b22 (band .u64 (bxor .u64 18446744073709551615 b23) b24)), (bxor .u64 b23 (band .u64 (bxor .u64 18446744073709551615 b24) b20)), (bxor .u64 b24 (band .u64 (bxor .u64 18446744073709551615 b20) b21))] c2 := by kernel_rfl
theorem kr1 {α : Type} (K n : Nat) (Xt : Int -> Int -> List Int -> List Int -> List Int -> Option α) (x3 x16 : Int) (c2 : List Int) (a0 a1 a2 a3 a4 a5 a6 a7 a8 a9 a10 a11 a12 a13 a14 a15 a16 a17 a18 a19 a20 a21 a22 a23 a24 : Int) :
  basculeref_Turned.l1 K Xt (n + 6) x3 x16 0 [a0, a1, a2, a3, a4, a5, a6, a7, a8, a9, a10, a11, a12, a13, a14, a15, a16, a17, a18, a19, a20, a21, a22, a23, a24] c2 [0, 0, 0, 0, 0] = Xt x3 x16 [a0, a1, a2, a3, a4, a5, a6, a7, a8, a9, a10, a11, a12, a13, a14, a15, a16, a17, a18, a19, a20, a21, a22, a23, a24] c2 [(bxor .u64 (bxor .u64 (bxor .u64 (bxor .u64 a0 a5) a10) a15) a20), (bxor .u64 (bxor .u64 (bxor .u64 (bxor .u64 a1 a6) a11) a16) a21), (bxor .u64 (bxor .u64 (bxor .u64 (bxor .u64 a2 a7) a12) a17) a22), (bxor .u64 (bxor .u64 (bxor .u64 (bxor .u64 a3 a8) a13) a18) a23), (bxor .u64 (bxor .u64 (bxor .u64 (bxor .u64 a4 a9) a14) a19) a24)] := by kernel_rfl
theorem kr2 {α : Type} (n : Nat) (Xt : Int -> Int -> List Int -> List Int -> Option α) (x3 x16 : Int) (c2 : List Int) (a0 a1 a2 a3 a4 a5 a6 a7 a8 a9 a10 a11 a12 a13 a14 a15 a16 a17 a18 a19 a20 a21 a22 a23 a24 z0 z1 z2 z3 z4 : Int) :
  basculeref_Turned.l2 (n + 6) Xt (n + 6) x3 x16 0 [a0, a1, a2, a3, a4, a5, a6, a7, a8, a9, a10, a11, a12, a13, a14, a15, a16, a17, a18, a19, a20, a21, a22, a23, a24] c2 [z0, z1, z2, z3, z4] = Xt x3 x16 [(bxor .u64 a0 (bxor .u64 z4 (rotL z1 1))), (bxor .u64 a1 (bxor .u64 z0 (rotL z2 1))), (bxor .u64 a2 (bxor .u64 z1 (rotL z3 1))), (bxor .u64 a3 (bxor .u64 z2 (rotL z4 1))), (bxor .u64 a4 (bxor .u64 z3 (rotL z0 1))), (bxor .u64 a5 (bxor .u64 z4 (rotL z1 1))), (bxor .u64 a6 (bxor .u64 z0 (rotL z2 1))), (bxor .u64 a7 (bxor .u64 z1 (rotL z3 1))), (bxor .u64 a8 (bxor .u64 z2 (rotL z4 1))), (bxor .u64 a9 (bxor .u64 z3 (rotL z0 1))), (bxor .u64 a10 (bxor .u64 z4 (rotL z1 1))), (bxor .u64 a11 (bxor .u64 z0 (rotL z2 1))), (bxor .u64 a12 (bxor .u64 z1 (rotL z3 1))), (bxor .u64 a13 (bxor .u64 z2 (rotL z4 1))), (bxor .u64 a14 (bxor .u64 z3 (rotL z0 1))), (bxor .u64 a15 (bxor .u64 z4 (rotL z1 1))), (bxor .u64 a16 (bxor .u64 z0 (rotL z2 1))), (bxor .u64 a17 (bxor .u64 z1 (rotL z3 1))), (bxor .u64 a18 (bxor .u64 z2 (rotL z4 1))), (bxor .u64 a19 (bxor .u64 z3 (rotL z0 1))), (bxor .u64 a20 (bxor .u64 z4 (rotL z1 1))), (bxor .u64 a21 (bxor .u64 z0 (rotL z2 1))), (bxor .u64 a22 (bxor .u64 z1 (rotL z3 1))), (bxor .u64 a23 (bxor .u64 z2 (rotL z4 1))), (bxor .u64 a24 (bxor .u64 z3 (rotL z0 1)))] c2 := by kernel_rfl
theorem kr4 {α : Type} (K n : Nat) (Xt : Int -> Int -> List Int -> List Int -> Option α) (x3 x16 : Int) (c2 : List Int) (a0 a1 a2 a3 a4 a5 a6 a7 a8 a9 a10 a11 a12 a13 a14 a15 a16 a17 a18 a19 a20 a21 a22 a23 a24 : Int) :
  basculeref_Turned.l4 K Xt (n + 25) x3 1 0 a1 x16 0 [a0, a1, a2, a3, a4, a5, a6, a7, a8, a9, a10, a11, a12, a13, a14, a15, a16, a17, a18, a19, a20, a21, a22, a23, a24] c2 = Xt x3 x16 [a0, (rotL a6 44), (rotL a12 43), (rotL a18 21), (rotL a24 14), (rotL a3 28), (rotL a9 20), (rotL a10 3), (rotL a16 45), (rotL a22 61), (rotL a1 1), (rotL a7 6), (rotL a13 25), (rotL a19 8), (rotL a20 18), (rotL a4 27), (rotL a5 36), (rotL a11 10), (rotL a17 15), (rotL a23 56), (rotL a2 62), (rotL a8 55), (rotL a14 39), (rotL a15 41), (rotL a21 2)] c2 := by kernel_rfl
theorem kr5 {α : Type} (n : Nat) (Xt : Int -> Int -> List Int -> List Int -> Option α) (x3 x16 : Int) (c2 : List Int) (b0 b1 b2 b3 b4 b5 b6 b7 b8 b9 b10 b11 b12 b13 b14 b15 b16 b17 b18 b19 b20 b21 b22 b23 b24 : Int) :
  basculeref_Turned.l5 (n + 6) Xt (n + 6) x3 0 x16 [b0, b1, b2, b3, b4, b5, b6, b7, b8, b9, b10, b11, b12, b13, b14, b15, b16, b17, b18, b19, b20, b21, b22, b23, b24] c2 = Xt x3 x16 [(bxor .u64 b0 (band .u64 (bxor .u64 18446744073709551615 b1) b2)), (bxor .u64 b1 (band .u64 (bxor .u64 18446744073709551615 b2) b3)), (bxor .u64 b2 (band .u64 (bxor .u64 18446744073709551615 b3) b4)), (bxor .u64 b3 (band .u64 (bxor .u64 18446744073709551615 b4) b0)), (bxor .u64 b4 (band .u64 (bxor .u64 18446744073709551615 b0) b1)), (bxor .u64 b5 (band .u64 (bxor .u64 18446744073709551615 b6) b7)), (bxor .u64 b6 (band .u64 (bxor .u64 18446744073709551615 b7) b8)), (bxor .u64 b7 (band .u64 (bxor .u64 18446744073709551615 b8) b9)), (bxor .u64 b8 (band .u64 (bxor .u64 18446744073709551615 b9) b5)), (bxor .u64 b9 (band .u64 (bxor .u64 18446744073709551615 b5) b6)), (bxor .u64 b10 (band .u64 (bxor .u64 18446744073709551615 b11) b12)), (bxor .u64 b11 (band .u64 (bxor .u64 18446744073709551615 b12) b13)), (bxor .u64 b12 (band .u64 (bxor .u64 18446744073709551615 b13) b14)), (bxor .u64 b13 (band .u64 (bxor .u64 18446744073709551615 b14) b10)), (bxor .u64 b14 (band .u64 (bxor .u64 18446744073709551615 b10) b11)), (bxor .u64 b15 (band .u64 (bxor .u64 18446744073709551615 b16) b17)), (bxor .u64 b16 (band .u64 (bxor .u64 18446744073709551615 b17) b18)), (bxor .u64 b17 (band .u64 (bxor .u64 18446744073709551615 b18) b19)), (bxor .u64 b18 (band .u64 (bxor .u64 18446744073709551615 b19) b15)), (bxor .u64 b19 (band .u64 (bxor .u64 18446744073709551615 b15) b16)), (bxor .u64 b20 (band .u64 (bxor .u64 18446744073709551615 b21) b22)), (bxor .u64 b21 (band .u64 (bxor .u64 18446744073709551615 b22) b23)), (bxor .u64 b22 (band .u64 (bxor .u64 18446744073709551615 b23) b24)), (bxor .u64 b23 (band .u64 (bxor .u64 18446744073709551615 b24) b20)), (bxor .u64 b24 (band .u64 (bxor .u64 18446744073709551615 b20) b21))] c2 := by kernel_rfl
theorem bxor_nat64 (x y : Int) : bxor .u64 x y = (((BitVec.ofInt 64 x ^^^ BitVec.ofInt 64 y).toNat : Nat) : Int) := by
 unfold bxor
 show IntKind.u64.wrap (((BitVec.ofInt 64 x ^^^ BitVec.ofInt 64 y).toNat : Nat) : Int) = _
 have := (BitVec.ofInt 64 x ^^^ BitVec.ofInt 64 y).isLt
 exact wrap_u64 (by omega) (by omega)
theorem ofInt_toNat (v : BitVec 64) : BitVec.ofInt 64 ((v.toNat : Nat) : Int) = v := by
 rw [BitVec.ofInt_natCast, BitVec.ofNat_toNat]
 simp
theorem bxor_assoc (x y z : Int) : bxor .u64 (bxor .u64 x y) z = bxor .u64 x (bxor .u64 y z) := by
 simp only [bxor_nat64, ofInt_toNat, BitVec.xor_assoc]
theorem bxor_z2 (x y : Int) : bxor .u64 (bxor .u64 0 x) y = bxor .u64 x y := by
 rw [bxor_assoc]
 simp only [bxor_nat64, ofInt_toNat]
 rw [show BitVec.ofInt 64 0 = 0#64 from rfl, BitVec.zero_xor]
theorem rot0 (x y : Int) : rotL (bxor .u64 x y) 0 = bxor .u64 x y := by
 rw [bxor_nat64]
 generalize BitVec.ofInt 64 x ^^^ BitVec.ofInt 64 y = v
 have hv := v.isLt
 unfold rotL
 have h1 : shlI .u64 ((v.toNat : Nat) : Int) 0 = ((v.toNat : Nat) : Int) := by
  unfold shlI
  rw [show (2 : Int) ^ (min (0 : Int).toNat IntKind.u64.bits) = 1 from rfl, Int.mul_one]
  exact wrap_u64 (by omega) (by omega)
 have h2 : shrI .u64 ((v.toNat : Nat) : Int) (64 - 0) = 0 := by
  unfold shrI
  rw [show (2 : Int) ^ (min ((64 : Int) - 0).toNat IntKind.u64.bits) = 18446744073709551616 from rfl, Int.fdiv_eq_ediv_of_nonneg _ (by decide)]
  exact Int.ediv_eq_zero_of_lt (by omega) (by omega)
 rw [h1, h2]
 have := bor_nat (X := v.toNat) (Y := 0) (by omega) (by decide)
 rw [show ((0 : Nat) : Int) = 0 from rfl, Nat.or_zero] at this
 exact this
theorem same_b (a0 a1 a2 a3 a4 a5 a6 a7 a8 a9 a10 a11 a12 a13 a14 a15 a16 a17 a18 a19 a20 a21 a22 a23 a24 z0 z1 z2 z3 z4 : Int) : [(rotL (bxor .u64 (bxor .u64 a0 z4) (rotL z1 1)) 0), (rotL (bxor .u64 (bxor .u64 a6 z0) (rotL z2 1)) 44), (rotL (bxor .u64 (bxor .u64 a12 z1) (rotL z3 1)) 43), (rotL (bxor .u64 (bxor .u64 a18 z2) (rotL z4 1)) 21), (rotL (bxor .u64 (bxor .u64 a24 z3) (rotL z0 1)) 14), (rotL (bxor .u64 (bxor .u64 a3 z2) (rotL z4 1)) 28), (rotL (bxor .u64 (bxor .u64 a9 z3) (rotL z0 1)) 20), (rotL (bxor .u64 (bxor .u64 a10 z4) (rotL z1 1)) 3), (rotL (bxor .u64 (bxor .u64 a16 z0) (rotL z2 1)) 45), (rotL (bxor .u64 (bxor .u64 a22 z1) (rotL z3 1)) 61), (rotL (bxor .u64 (bxor .u64 a1 z0) (rotL z2 1)) 1), (rotL (bxor .u64 (bxor .u64 a7 z1) (rotL z3 1)) 6), (rotL (bxor .u64 (bxor .u64 a13 z2) (rotL z4 1)) 25), (rotL (bxor .u64 (bxor .u64 a19 z3) (rotL z0 1)) 8), (rotL (bxor .u64 (bxor .u64 a20 z4) (rotL z1 1)) 18), (rotL (bxor .u64 (bxor .u64 a4 z3) (rotL z0 1)) 27), (rotL (bxor .u64 (bxor .u64 a5 z4) (rotL z1 1)) 36), (rotL (bxor .u64 (bxor .u64 a11 z0) (rotL z2 1)) 10), (rotL (bxor .u64 (bxor .u64 a17 z1) (rotL z3 1)) 15), (rotL (bxor .u64 (bxor .u64 a23 z2) (rotL z4 1)) 56), (rotL (bxor .u64 (bxor .u64 a2 z1) (rotL z3 1)) 62), (rotL (bxor .u64 (bxor .u64 a8 z2) (rotL z4 1)) 55), (rotL (bxor .u64 (bxor .u64 a14 z3) (rotL z0 1)) 39), (rotL (bxor .u64 (bxor .u64 a15 z4) (rotL z1 1)) 41), (rotL (bxor .u64 (bxor .u64 a21 z0) (rotL z2 1)) 2)] = [(bxor .u64 a0 (bxor .u64 z4 (rotL z1 1))), (rotL (bxor .u64 a6 (bxor .u64 z0 (rotL z2 1))) 44), (rotL (bxor .u64 a12 (bxor .u64 z1 (rotL z3 1))) 43), (rotL (bxor .u64 a18 (bxor .u64 z2 (rotL z4 1))) 21), (rotL (bxor .u64 a24 (bxor .u64 z3 (rotL z0 1))) 14), (rotL (bxor .u64 a3 (bxor .u64 z2 (rotL z4 1))) 28), (rotL (bxor .u64 a9 (bxor .u64 z3 (rotL z0 1))) 20), (rotL (bxor .u64 a10 (bxor .u64 z4 (rotL z1 1))) 3), (rotL (bxor .u64 a16 (bxor .u64 z0 (rotL z2 1))) 45), (rotL (bxor .u64 a22 (bxor .u64 z1 (rotL z3 1))) 61), (rotL (bxor .u64 a1 (bxor .u64 z0 (rotL z2 1))) 1), (rotL (bxor .u64 a7 (bxor .u64 z1 (rotL z3 1))) 6), (rotL (bxor .u64 a13 (bxor .u64 z2 (rotL z4 1))) 25), (rotL (bxor .u64 a19 (bxor .u64 z3 (rotL z0 1))) 8), (rotL (bxor .u64 a20 (bxor .u64 z4 (rotL z1 1))) 18), (rotL (bxor .u64 a4 (bxor .u64 z3 (rotL z0 1))) 27), (rotL (bxor .u64 a5 (bxor .u64 z4 (rotL z1 1))) 36), (rotL (bxor .u64 a11 (bxor .u64 z0 (rotL z2 1))) 10), (rotL (bxor .u64 a17 (bxor .u64 z1 (rotL z3 1))) 15), (rotL (bxor .u64 a23 (bxor .u64 z2 (rotL z4 1))) 56), (rotL (bxor .u64 a2 (bxor .u64 z1 (rotL z3 1))) 62), (rotL (bxor .u64 a8 (bxor .u64 z2 (rotL z4 1))) 55), (rotL (bxor .u64 a14 (bxor .u64 z3 (rotL z0 1))) 39), (rotL (bxor .u64 a15 (bxor .u64 z4 (rotL z1 1))) 41), (rotL (bxor .u64 a21 (bxor .u64 z0 (rotL z2 1))) 2)] := by
 simp only [bxor_assoc, rot0]
theorem ro0 : basculeref_roundOf.run 0 = some (gRounds.getD 0 0) := by kernel_rfl
theorem ro1 : basculeref_roundOf.run 1 = some (gRounds.getD 1 0) := by kernel_rfl
theorem ro2 : basculeref_roundOf.run 2 = some (gRounds.getD 2 0) := by kernel_rfl
theorem ro3 : basculeref_roundOf.run 3 = some (gRounds.getD 3 0) := by kernel_rfl
theorem ro4 : basculeref_roundOf.run 4 = some (gRounds.getD 4 0) := by kernel_rfl
theorem ro5 : basculeref_roundOf.run 5 = some (gRounds.getD 5 0) := by kernel_rfl
theorem ro6 : basculeref_roundOf.run 6 = some (gRounds.getD 6 0) := by kernel_rfl
theorem ro7 : basculeref_roundOf.run 7 = some (gRounds.getD 7 0) := by kernel_rfl
theorem ro8 : basculeref_roundOf.run 8 = some (gRounds.getD 8 0) := by kernel_rfl
theorem ro9 : basculeref_roundOf.run 9 = some (gRounds.getD 9 0) := by kernel_rfl
theorem ro10 : basculeref_roundOf.run 10 = some (gRounds.getD 10 0) := by kernel_rfl
theorem ro11 : basculeref_roundOf.run 11 = some (gRounds.getD 11 0) := by kernel_rfl
theorem ro12 : basculeref_roundOf.run 12 = some (gRounds.getD 12 0) := by kernel_rfl
theorem ro13 : basculeref_roundOf.run 13 = some (gRounds.getD 13 0) := by kernel_rfl
theorem ro14 : basculeref_roundOf.run 14 = some (gRounds.getD 14 0) := by kernel_rfl
theorem ro15 : basculeref_roundOf.run 15 = some (gRounds.getD 15 0) := by kernel_rfl
theorem ro16 : basculeref_roundOf.run 16 = some (gRounds.getD 16 0) := by kernel_rfl
theorem ro17 : basculeref_roundOf.run 17 = some (gRounds.getD 17 0) := by kernel_rfl
theorem ro18 : basculeref_roundOf.run 18 = some (gRounds.getD 18 0) := by kernel_rfl
theorem ro19 : basculeref_roundOf.run 19 = some (gRounds.getD 19 0) := by kernel_rfl
theorem ro20 : basculeref_roundOf.run 20 = some (gRounds.getD 20 0) := by kernel_rfl
theorem ro21 : basculeref_roundOf.run 21 = some (gRounds.getD 21 0) := by kernel_rfl
theorem ro22 : basculeref_roundOf.run 22 = some (gRounds.getD 22 0) := by kernel_rfl
theorem ro23 : basculeref_roundOf.run 23 = some (gRounds.getD 23 0) := by kernel_rfl
theorem round_of : ∀ k : Nat, k < 24 -> basculeref_roundOf.run (k : Int) = some (gRounds.getD k 0)
 | 0, _ => ro0
 | 1, _ => ro1
 | 2, _ => ro2
 | 3, _ => ro3
 | 4, _ => ro4
 | 5, _ => ro5
 | 6, _ => ro6
 | 7, _ => ro7
 | 8, _ => ro8
 | 9, _ => ro9
 | 10, _ => ro10
 | 11, _ => ro11
 | 12, _ => ro12
 | 13, _ => ro13
 | 14, _ => ro14
 | 15, _ => ro15
 | 16, _ => ro16
 | 17, _ => ro17
 | 18, _ => ro18
 | 19, _ => ro19
 | 20, _ => ro20
 | 21, _ => ro21
 | 22, _ => ro22
 | 23, _ => ro23
 | n + 24, h => by omega
theorem list25 {l : List Int} (h : l.length = 25) : ∃ a0 a1 a2 a3 a4 a5 a6 a7 a8 a9 a10 a11 a12 a13 a14 a15 a16 a17 a18 a19 a20 a21 a22 a23 a24, l = [a0, a1, a2, a3, a4, a5, a6, a7, a8, a9, a10, a11, a12, a13, a14, a15, a16, a17, a18, a19, a20, a21, a22, a23, a24] := by
 match l, h with
 | [a0, a1, a2, a3, a4, a5, a6, a7, a8, a9, a10, a11, a12, a13, a14, a15, a16, a17, a18, a19, a20, a21, a22, a23, a24], _ => exact ⟨a0, a1, a2, a3, a4, a5, a6, a7, a8, a9, a10, a11, a12, a13, a14, a15, a16, a17, a18, a19, a20, a21, a22, a23, a24, rfl⟩
theorem round_both {α β : Type} (Xt : List Int -> List Int -> Option α) (Yt : List Int -> List Int -> Option β) (K N n : Nat) (k : Nat) (hk : k < 24) (c2 d2 : List Int) {l : List Int} (hl : l.length = 25) :
  ∃ r : List Int, r.length = 25 /\ keccak_Turn.l0 (K + 26) Xt (n + 1) gRounds (k : Int) l c2 = keccak_Turn.l0 (K + 26) Xt n gRounds ((k + 1 : Nat) : Int) r c2 /\
   basculeref_Turned.l0 (N + 26) Yt (n + 1) (k : Int) l d2 = basculeref_Turned.l0 (N + 26) Yt n ((k + 1 : Nat) : Int) r d2 := by
 obtain ⟨a0, a1, a2, a3, a4, a5, a6, a7, a8, a9, a10, a11, a12, a13, a14, a15, a16, a17, a18, a19, a20, a21, a22, a23, a24, rfl⟩ := list25 hl
 simp only [keccak_Turn.l0, keccak_Turn.l0s, basculeref_Turned.l0, basculeref_Turned.l0s]
 rw [if_pos (show decide ((k : Int) < 24) = true by rw [decide_eq_true_eq]; omega), if_pos (show decide ((k : Int) < 24) = true by rw [decide_eq_true_eq]; omega), if_pos (show 0 <= (k : Int) /\ (k : Int) < 24 by omega), kp1]
 unfold keccak_Turn.j0
 rw [kp2, same_b]
 unfold keccak_Turn.j1
 rw [kp3]
 unfold keccak_Turn.j2 keccak_Turn.j3
 have e1 : N + 26 = (N + 20) + 6 := by omega
 rw [e1, kr1]
 unfold basculeref_Turned.j0
 rw [kr2]
 unfold basculeref_Turned.j2
 have e2 : N + 20 + 6 = (N + 1) + 25 := by omega
 simp only [List.getD_cons_succ, List.getD_cons_zero]
 rw [e2, kr4]
 unfold basculeref_Turned.j3
 have e3 : (N + 1) + 25 = (N + 20) + 6 := by omega
 rw [e3, kr5]
 unfold basculeref_Turned.j5 basculeref_Turned.j6
 rw [round_of k hk, Option.bind_some, wrap_i64 (x := (k : Int) + 1) (by omega) (by omega)]
 simp only [bxor_z2]
 exact ⟨_, rfl, rfl, rfl⟩
theorem rounds_both {α β : Type} (Xt : List Int -> List Int -> Option α) (Yt : List Int -> List Int -> Option β) (K N : Nat) (c2 d2 : List Int) : ∀ (m n k : Nat) (l : List Int), m < n -> k + m = 24 -> l.length = 25 ->
  ∃ r : List Int, r.length = 25 /\ keccak_Turn.l0 (K + 26) Xt n gRounds (k : Int) l c2 = Xt r c2 /\ basculeref_Turned.l0 (N + 26) Yt n (k : Int) l d2 = Yt r d2
 | m, 0, k, l, h, _, _ => by omega
 | 0, n + 1, k, l, h, hk, hl => by
  have : k = 24 := by omega
  subst this
  exact ⟨l, hl, rfl, rfl⟩
 | m + 1, n + 1, k, l, h, hk, hl => by
  obtain ⟨r, h1, h2, h3⟩ := round_both Xt Yt K N n k (by omega) c2 d2 hl
  rw [h2, h3]
  exact rounds_both Xt Yt K N c2 d2 m n (k + 1) r (by omega) (by omega) h1
theorem turn_both {l : List Int} (hl : l.length = 25) : ∃ r : List Int, r.length = 25 /\ keccak_Turn.run l = some r /\ basculeref_Turned.run l = some r := by
 obtain ⟨K, hK⟩ : ∃ K, fuel = K + 26 := ⟨18446744073709551590, rfl⟩
 obtain ⟨r, h1, h2, h3⟩ := rounds_both (fun c1 c2 => keccak_Turn.j4 (fun c2 => some c2) c1 c2) (fun c1 c2 => basculeref_Turned.j7 (fun c2 => some c2) c1 c2) K K (List.replicate 25 0) (List.replicate 25 0) 24 fuel 0 l (by rw [hK]; omega) (by omega) hl
 unfold keccak_Turn.run keccak_Turn.top basculeref_Turned.run basculeref_Turned.top
 rw [<- hK] at h2 h3
 exact ⟨r, h1, h2, h3⟩
end Go.Bx
