/- Laws about functions of plain data, in plain Lean. -/
import Derived.Test.YtjhlmecfjfcohaaGreatDoorLawsPostDoes0
import Derived.Test.YtjhlmecfjfcohaaGreatDoorFnPostDoes0
import Derived.Test.YtjhlmecfjfcohaaGreatDoorFnPostDoes1
import Derived.Test.YtjhlmecfjfcohaaGreatDoorLawsPostDoes3
import Derived.Test.YtjhlmecfjfcohaaGreatDoorLawsPostDoes1
open Bool (false_eq_true or_eq_true)
open Int (tdiv tmod toNat)
open List (length_cons length_nil mem_cons_of_mem nil_append replicate replicate_succ take_of_length_le)
open Option (bind_some)
set_option maxRecDepth 100000
set_option linter.unusedVariables false
set_option linter.unusedSimpArgs false
namespace Go.Bx
open Go
def aO (x k : Int) : Int:=jq .u64 (eR .u64 x k) (fh .u64 x (64 - k))
theorem Ur {α : Type} (K n : Nat) (Xt : Int->List Int->Int->List Int->List Int->List Int->Option α) (rc : Int) (x16 : List Int) (x17 : Int) (c2 : List Int) (a0 a1 a2 a3 a4 a5 a6 a7 a8 a9 a10 a11 a12 a13 a14 a15 a16 a17 a18 a19 a20 a21 a22 a23 a24 : Int) :
  du.l1 K Xt (n + 26) rc x16 x17 [a0,a1,a2,a3,a4,a5,a6,a7,a8,a9,a10,a11,a12,a13,a14,a15,a16,a17,a18,a19,a20,a21,a22,a23,a24] 0 [a0,a1,a2,a3,a4,a5,a6,a7,a8,a9,a10,a11,a12,a13,a14,a15,a16,a17,a18,a19,a20,a21,a22,a23,a24] c2 [0,0,0,0,0] = Xt rc x16 x17 [a0,a1,a2,a3,a4,a5,a6,a7,a8,a9,a10,a11,a12,a13,a14,a15,a16,a17,a18,a19,a20,a21,a22,a23,a24] c2 [(ae .u64 (ae .u64 (ae .u64 (ae .u64 (ae .u64 0 a0) a5) a10) a15) a20),(ae .u64 (ae .u64 (ae .u64 (ae .u64 (ae .u64 0 a1) a6) a11) a16) a21),(ae .u64 (ae .u64 (ae .u64 (ae .u64 (ae .u64 0 a2) a7) a12) a17) a22),(ae .u64 (ae .u64 (ae .u64 (ae .u64 (ae .u64 0 a3) a8) a13) a18) a23),(ae .u64 (ae .u64 (ae .u64 (ae .u64 (ae .u64 0 a4) a9) a14) a19) a24)]:=by kernel_rfl
theorem Uq {α : Type} (K n : Nat) (Xt : Int->List Int->Int->List Int->List Int->List Int->Option α) (rc : Int) (x16 : List Int) (x17 : Int) (c2 : List Int) (a0 a1 a2 a3 a4 a5 a6 a7 a8 a9 a10 a11 a12 a13 a14 a15 a16 a17 a18 a19 a20 a21 a22 a23 a24 z0 z1 z2 z3 z4 : Int) :
  du.l2 K Xt (n + 26) rc x16 x17 0 [a0,a1,a2,a3,a4,a5,a6,a7,a8,a9,a10,a11,a12,a13,a14,a15,a16,a17,a18,a19,a20,a21,a22,a23,a24] c2 [z0,z1,z2,z3,z4] (replicate 25 0) = Xt rc x16 x17 [a0,a1,a2,a3,a4,a5,a6,a7,a8,a9,a10,a11,a12,a13,a14,a15,a16,a17,a18,a19,a20,a21,a22,a23,a24] c2 [(aO (ae .u64 (ae .u64 a0 z4) (aO z1 1)) 0),(aO (ae .u64 (ae .u64 a6 z0) (aO z2 1)) 44),(aO (ae .u64 (ae .u64 a12 z1) (aO z3 1)) 43),(aO (ae .u64 (ae .u64 a18 z2) (aO z4 1)) 21),(aO (ae .u64 (ae .u64 a24 z3) (aO z0 1)) 14),(aO (ae .u64 (ae .u64 a3 z2) (aO z4 1)) 28),(aO (ae .u64 (ae .u64 a9 z3) (aO z0 1)) 20),(aO (ae .u64 (ae .u64 a10 z4) (aO z1 1)) 3),(aO (ae .u64 (ae .u64 a16 z0) (aO z2 1)) 45),(aO (ae .u64 (ae .u64 a22 z1) (aO z3 1)) 61),(aO (ae .u64 (ae .u64 a1 z0) (aO z2 1)) 1),(aO (ae .u64 (ae .u64 a7 z1) (aO z3 1)) 6),(aO (ae .u64 (ae .u64 a13 z2) (aO z4 1)) 25),(aO (ae .u64 (ae .u64 a19 z3) (aO z0 1)) 8),(aO (ae .u64 (ae .u64 a20 z4) (aO z1 1)) 18),(aO (ae .u64 (ae .u64 a4 z3) (aO z0 1)) 27),(aO (ae .u64 (ae .u64 a5 z4) (aO z1 1)) 36),(aO (ae .u64 (ae .u64 a11 z0) (aO z2 1)) 10),(aO (ae .u64 (ae .u64 a17 z1) (aO z3 1)) 15),(aO (ae .u64 (ae .u64 a23 z2) (aO z4 1)) 56),(aO (ae .u64 (ae .u64 a2 z1) (aO z3 1)) 62),(aO (ae .u64 (ae .u64 a8 z2) (aO z4 1)) 55),(aO (ae .u64 (ae .u64 a14 z3) (aO z0 1)) 39),(aO (ae .u64 (ae .u64 a15 z4) (aO z1 1)) 41),(aO (ae .u64 (ae .u64 a21 z0) (aO z2 1)) 2)]:=by kernel_rfl
theorem Ux {α : Type} (K n : Nat) (Xt : Int->List Int->Int->List Int->List Int->Option α) (rc : Int) (x16 : List Int) (x17 : Int) (c2 : List Int) (a0 a1 a2 a3 a4 a5 a6 a7 a8 a9 a10 a11 a12 a13 a14 a15 a16 a17 a18 a19 a20 a21 a22 a23 a24 b0 b1 b2 b3 b4 b5 b6 b7 b8 b9 b10 b11 b12 b13 b14 b15 b16 b17 b18 b19 b20 b21 b22 b23 b24 : Int) :
  du.l3 K Xt (n + 26) rc x16 x17 0 [a0,a1,a2,a3,a4,a5,a6,a7,a8,a9,a10,a11,a12,a13,a14,a15,a16,a17,a18,a19,a20,a21,a22,a23,a24] c2 [b0,b1,b2,b3,b4,b5,b6,b7,b8,b9,b10,b11,b12,b13,b14,b15,b16,b17,b18,b19,b20,b21,b22,b23,b24] = Xt rc x16 x17 [(ae .u64 b0 (cF .u64 (ae .u64 18446744073709551615 b1) b2)),(ae .u64 b1 (cF .u64 (ae .u64 18446744073709551615 b2) b3)),(ae .u64 b2 (cF .u64 (ae .u64 18446744073709551615 b3) b4)),(ae .u64 b3 (cF .u64 (ae .u64 18446744073709551615 b4) b0)),(ae .u64 b4 (cF .u64 (ae .u64 18446744073709551615 b0) b1)),(ae .u64 b5 (cF .u64 (ae .u64 18446744073709551615 b6) b7)),(ae .u64 b6 (cF .u64 (ae .u64 18446744073709551615 b7) b8)),(ae .u64 b7 (cF .u64 (ae .u64 18446744073709551615 b8) b9)),(ae .u64 b8 (cF .u64 (ae .u64 18446744073709551615 b9) b5)),(ae .u64 b9 (cF .u64 (ae .u64 18446744073709551615 b5) b6)),(ae .u64 b10 (cF .u64 (ae .u64 18446744073709551615 b11) b12)),(ae .u64 b11 (cF .u64 (ae .u64 18446744073709551615 b12) b13)),(ae .u64 b12 (cF .u64 (ae .u64 18446744073709551615 b13) b14)),(ae .u64 b13 (cF .u64 (ae .u64 18446744073709551615 b14) b10)),(ae .u64 b14 (cF .u64 (ae .u64 18446744073709551615 b10) b11)),(ae .u64 b15 (cF .u64 (ae .u64 18446744073709551615 b16) b17)),(ae .u64 b16 (cF .u64 (ae .u64 18446744073709551615 b17) b18)),(ae .u64 b17 (cF .u64 (ae .u64 18446744073709551615 b18) b19)),(ae .u64 b18 (cF .u64 (ae .u64 18446744073709551615 b19) b15)),(ae .u64 b19 (cF .u64 (ae .u64 18446744073709551615 b15) b16)),(ae .u64 b20 (cF .u64 (ae .u64 18446744073709551615 b21) b22)),(ae .u64 b21 (cF .u64 (ae .u64 18446744073709551615 b22) b23)),(ae .u64 b22 (cF .u64 (ae .u64 18446744073709551615 b23) b24)),(ae .u64 b23 (cF .u64 (ae .u64 18446744073709551615 b24) b20)),(ae .u64 b24 (cF .u64 (ae .u64 18446744073709551615 b20) b21))] c2:=by kernel_rfl
theorem Uz {α : Type} (K n : Nat) (Xt : Int->Int->List Int->List Int->List Int->Option α) (x3 x16 : Int) (c2 : List Int) (a0 a1 a2 a3 a4 a5 a6 a7 a8 a9 a10 a11 a12 a13 a14 a15 a16 a17 a18 a19 a20 a21 a22 a23 a24 : Int) :
  bp.l1 K Xt (n + 6) x3 x16 0 [a0,a1,a2,a3,a4,a5,a6,a7,a8,a9,a10,a11,a12,a13,a14,a15,a16,a17,a18,a19,a20,a21,a22,a23,a24] c2 [0,0,0,0,0] = Xt x3 x16 [a0,a1,a2,a3,a4,a5,a6,a7,a8,a9,a10,a11,a12,a13,a14,a15,a16,a17,a18,a19,a20,a21,a22,a23,a24] c2 [(ae .u64 (ae .u64 (ae .u64 (ae .u64 a0 a5) a10) a15) a20),(ae .u64 (ae .u64 (ae .u64 (ae .u64 a1 a6) a11) a16) a21),(ae .u64 (ae .u64 (ae .u64 (ae .u64 a2 a7) a12) a17) a22),(ae .u64 (ae .u64 (ae .u64 (ae .u64 a3 a8) a13) a18) a23),(ae .u64 (ae .u64 (ae .u64 (ae .u64 a4 a9) a14) a19) a24)]:=by kernel_rfl
theorem Up {α : Type} (n : Nat) (Xt : Int->Int->List Int->List Int->Option α) (x3 x16 : Int) (c2 : List Int) (a0 a1 a2 a3 a4 a5 a6 a7 a8 a9 a10 a11 a12 a13 a14 a15 a16 a17 a18 a19 a20 a21 a22 a23 a24 z0 z1 z2 z3 z4 : Int) :
  bp.l2 (n + 6) Xt (n + 6) x3 x16 0 [a0,a1,a2,a3,a4,a5,a6,a7,a8,a9,a10,a11,a12,a13,a14,a15,a16,a17,a18,a19,a20,a21,a22,a23,a24] c2 [z0,z1,z2,z3,z4] = Xt x3 x16 [(ae .u64 a0 (ae .u64 z4 (aO z1 1))),(ae .u64 a1 (ae .u64 z0 (aO z2 1))),(ae .u64 a2 (ae .u64 z1 (aO z3 1))),(ae .u64 a3 (ae .u64 z2 (aO z4 1))),(ae .u64 a4 (ae .u64 z3 (aO z0 1))),(ae .u64 a5 (ae .u64 z4 (aO z1 1))),(ae .u64 a6 (ae .u64 z0 (aO z2 1))),(ae .u64 a7 (ae .u64 z1 (aO z3 1))),(ae .u64 a8 (ae .u64 z2 (aO z4 1))),(ae .u64 a9 (ae .u64 z3 (aO z0 1))),(ae .u64 a10 (ae .u64 z4 (aO z1 1))),(ae .u64 a11 (ae .u64 z0 (aO z2 1))),(ae .u64 a12 (ae .u64 z1 (aO z3 1))),(ae .u64 a13 (ae .u64 z2 (aO z4 1))),(ae .u64 a14 (ae .u64 z3 (aO z0 1))),(ae .u64 a15 (ae .u64 z4 (aO z1 1))),(ae .u64 a16 (ae .u64 z0 (aO z2 1))),(ae .u64 a17 (ae .u64 z1 (aO z3 1))),(ae .u64 a18 (ae .u64 z2 (aO z4 1))),(ae .u64 a19 (ae .u64 z3 (aO z0 1))),(ae .u64 a20 (ae .u64 z4 (aO z1 1))),(ae .u64 a21 (ae .u64 z0 (aO z2 1))),(ae .u64 a22 (ae .u64 z1 (aO z3 1))),(ae .u64 a23 (ae .u64 z2 (aO z4 1))),(ae .u64 a24 (ae .u64 z3 (aO z0 1)))] c2:=by kernel_rfl
theorem Ug {α : Type} (K n : Nat) (Xt : Int->Int->List Int->List Int->Option α) (x3 x16 : Int) (c2 : List Int) (a0 a1 a2 a3 a4 a5 a6 a7 a8 a9 a10 a11 a12 a13 a14 a15 a16 a17 a18 a19 a20 a21 a22 a23 a24 : Int) :
  bp.l4 K Xt (n + 25) x3 1 0 a1 x16 0 [a0,a1,a2,a3,a4,a5,a6,a7,a8,a9,a10,a11,a12,a13,a14,a15,a16,a17,a18,a19,a20,a21,a22,a23,a24] c2 = Xt x3 x16 [a0,(aO a6 44),(aO a12 43),(aO a18 21),(aO a24 14),(aO a3 28),(aO a9 20),(aO a10 3),(aO a16 45),(aO a22 61),(aO a1 1),(aO a7 6),(aO a13 25),(aO a19 8),(aO a20 18),(aO a4 27),(aO a5 36),(aO a11 10),(aO a17 15),(aO a23 56),(aO a2 62),(aO a8 55),(aO a14 39),(aO a15 41),(aO a21 2)] c2:=by kernel_rfl
theorem UE {α : Type} (n : Nat) (Xt : Int->Int->List Int->List Int->Option α) (x3 x16 : Int) (c2 : List Int) (b0 b1 b2 b3 b4 b5 b6 b7 b8 b9 b10 b11 b12 b13 b14 b15 b16 b17 b18 b19 b20 b21 b22 b23 b24 : Int) :
  bp.l5 (n + 6) Xt (n + 6) x3 0 x16 [b0,b1,b2,b3,b4,b5,b6,b7,b8,b9,b10,b11,b12,b13,b14,b15,b16,b17,b18,b19,b20,b21,b22,b23,b24] c2 = Xt x3 x16 [(ae .u64 b0 (cF .u64 (ae .u64 18446744073709551615 b1) b2)),(ae .u64 b1 (cF .u64 (ae .u64 18446744073709551615 b2) b3)),(ae .u64 b2 (cF .u64 (ae .u64 18446744073709551615 b3) b4)),(ae .u64 b3 (cF .u64 (ae .u64 18446744073709551615 b4) b0)),(ae .u64 b4 (cF .u64 (ae .u64 18446744073709551615 b0) b1)),(ae .u64 b5 (cF .u64 (ae .u64 18446744073709551615 b6) b7)),(ae .u64 b6 (cF .u64 (ae .u64 18446744073709551615 b7) b8)),(ae .u64 b7 (cF .u64 (ae .u64 18446744073709551615 b8) b9)),(ae .u64 b8 (cF .u64 (ae .u64 18446744073709551615 b9) b5)),(ae .u64 b9 (cF .u64 (ae .u64 18446744073709551615 b5) b6)),(ae .u64 b10 (cF .u64 (ae .u64 18446744073709551615 b11) b12)),(ae .u64 b11 (cF .u64 (ae .u64 18446744073709551615 b12) b13)),(ae .u64 b12 (cF .u64 (ae .u64 18446744073709551615 b13) b14)),(ae .u64 b13 (cF .u64 (ae .u64 18446744073709551615 b14) b10)),(ae .u64 b14 (cF .u64 (ae .u64 18446744073709551615 b10) b11)),(ae .u64 b15 (cF .u64 (ae .u64 18446744073709551615 b16) b17)),(ae .u64 b16 (cF .u64 (ae .u64 18446744073709551615 b17) b18)),(ae .u64 b17 (cF .u64 (ae .u64 18446744073709551615 b18) b19)),(ae .u64 b18 (cF .u64 (ae .u64 18446744073709551615 b19) b15)),(ae .u64 b19 (cF .u64 (ae .u64 18446744073709551615 b15) b16)),(ae .u64 b20 (cF .u64 (ae .u64 18446744073709551615 b21) b22)),(ae .u64 b21 (cF .u64 (ae .u64 18446744073709551615 b22) b23)),(ae .u64 b22 (cF .u64 (ae .u64 18446744073709551615 b23) b24)),(ae .u64 b23 (cF .u64 (ae .u64 18446744073709551615 b24) b20)),(ae .u64 b24 (cF .u64 (ae .u64 18446744073709551615 b20) b21))] c2:=by kernel_rfl
theorem tD (x y : Int) : ae .u64 x y = (((BitVec.ofInt 64 x ^^^ BitVec.ofInt 64 y).toNat : Nat) : Int):=by
 unfold ae
 show IntKind.u64.wrap (((BitVec.ofInt 64 x ^^^ BitVec.ofInt 64 y).toNat : Nat) : Int) = _
 have:=(BitVec.ofInt 64 x ^^^ BitVec.ofInt 64 y).isLt
 grind [aV]
theorem yi (x y z : Int) : ae .u64 (ae .u64 x y) z = ae .u64 x (ae .u64 y z):=by
 grind [tD]
theorem N0 (x y : Int) : ae .u64 (ae .u64 0 x) y = ae .u64 x y:=by
 grind [tD]
theorem SI (x y : Int) : aO (ae .u64 x y) 0 = ae .u64 x y:=by
 rw [tD]
 generalize BitVec.ofInt 64 x ^^^ BitVec.ofInt 64 y = v
 have hv:=v.isLt
 unfold aO
 have h1 : eR .u64 ((v.toNat : Nat) : Int) 0 = ((v.toNat : Nat) : Int):=by
  unfold eR
  rw [show (2 : Int) ^ (min (0 : Int).toNat IntKind.u64.bits) = 1 from rfl,Int.mul_one]
  grind [aV]
 have h2 : fh .u64 ((v.toNat : Nat) : Int) (64 - 0) = 0:=by
  unfold fh
  rw [show (2 : Int) ^ (min ((64 : Int) - 0).toNat IntKind.u64.bits) = 18446744073709551616 from rfl,Int.fdiv_eq_ediv_of_nonneg _ (by decide)]
  omega
 rw [h1,h2]
 have:=rU (X:=v.toNat) (Y:=0) (by omega) (by decide)
 grind
theorem Pm (a0 a1 a2 a3 a4 a5 a6 a7 a8 a9 a10 a11 a12 a13 a14 a15 a16 a17 a18 a19 a20 a21 a22 a23 a24 z0 z1 z2 z3 z4 : Int) : [(aO (ae .u64 (ae .u64 a0 z4) (aO z1 1)) 0),(aO (ae .u64 (ae .u64 a6 z0) (aO z2 1)) 44),(aO (ae .u64 (ae .u64 a12 z1) (aO z3 1)) 43),(aO (ae .u64 (ae .u64 a18 z2) (aO z4 1)) 21),(aO (ae .u64 (ae .u64 a24 z3) (aO z0 1)) 14),(aO (ae .u64 (ae .u64 a3 z2) (aO z4 1)) 28),(aO (ae .u64 (ae .u64 a9 z3) (aO z0 1)) 20),(aO (ae .u64 (ae .u64 a10 z4) (aO z1 1)) 3),(aO (ae .u64 (ae .u64 a16 z0) (aO z2 1)) 45),(aO (ae .u64 (ae .u64 a22 z1) (aO z3 1)) 61),(aO (ae .u64 (ae .u64 a1 z0) (aO z2 1)) 1),(aO (ae .u64 (ae .u64 a7 z1) (aO z3 1)) 6),(aO (ae .u64 (ae .u64 a13 z2) (aO z4 1)) 25),(aO (ae .u64 (ae .u64 a19 z3) (aO z0 1)) 8),(aO (ae .u64 (ae .u64 a20 z4) (aO z1 1)) 18),(aO (ae .u64 (ae .u64 a4 z3) (aO z0 1)) 27),(aO (ae .u64 (ae .u64 a5 z4) (aO z1 1)) 36),(aO (ae .u64 (ae .u64 a11 z0) (aO z2 1)) 10),(aO (ae .u64 (ae .u64 a17 z1) (aO z3 1)) 15),(aO (ae .u64 (ae .u64 a23 z2) (aO z4 1)) 56),(aO (ae .u64 (ae .u64 a2 z1) (aO z3 1)) 62),(aO (ae .u64 (ae .u64 a8 z2) (aO z4 1)) 55),(aO (ae .u64 (ae .u64 a14 z3) (aO z0 1)) 39),(aO (ae .u64 (ae .u64 a15 z4) (aO z1 1)) 41),(aO (ae .u64 (ae .u64 a21 z0) (aO z2 1)) 2)] = [(ae .u64 a0 (ae .u64 z4 (aO z1 1))),(aO (ae .u64 a6 (ae .u64 z0 (aO z2 1))) 44),(aO (ae .u64 a12 (ae .u64 z1 (aO z3 1))) 43),(aO (ae .u64 a18 (ae .u64 z2 (aO z4 1))) 21),(aO (ae .u64 a24 (ae .u64 z3 (aO z0 1))) 14),(aO (ae .u64 a3 (ae .u64 z2 (aO z4 1))) 28),(aO (ae .u64 a9 (ae .u64 z3 (aO z0 1))) 20),(aO (ae .u64 a10 (ae .u64 z4 (aO z1 1))) 3),(aO (ae .u64 a16 (ae .u64 z0 (aO z2 1))) 45),(aO (ae .u64 a22 (ae .u64 z1 (aO z3 1))) 61),(aO (ae .u64 a1 (ae .u64 z0 (aO z2 1))) 1),(aO (ae .u64 a7 (ae .u64 z1 (aO z3 1))) 6),(aO (ae .u64 a13 (ae .u64 z2 (aO z4 1))) 25),(aO (ae .u64 a19 (ae .u64 z3 (aO z0 1))) 8),(aO (ae .u64 a20 (ae .u64 z4 (aO z1 1))) 18),(aO (ae .u64 a4 (ae .u64 z3 (aO z0 1))) 27),(aO (ae .u64 a5 (ae .u64 z4 (aO z1 1))) 36),(aO (ae .u64 a11 (ae .u64 z0 (aO z2 1))) 10),(aO (ae .u64 a17 (ae .u64 z1 (aO z3 1))) 15),(aO (ae .u64 a23 (ae .u64 z2 (aO z4 1))) 56),(aO (ae .u64 a2 (ae .u64 z1 (aO z3 1))) 62),(aO (ae .u64 a8 (ae .u64 z2 (aO z4 1))) 55),(aO (ae .u64 a14 (ae .u64 z3 (aO z0 1))) 39),(aO (ae .u64 a15 (ae .u64 z4 (aO z1 1))) 41),(aO (ae .u64 a21 (ae .u64 z0 (aO z2 1))) 2)]:=by
 simp only [yi,SI]
theorem UH : aD.run 0 = some (dH.getD 0 0):=by kernel_rfl
theorem TY : aD.run 1 = some (dH.getD 1 0):=by kernel_rfl
theorem Uu : aD.run 2 = some (dH.getD 2 0):=by kernel_rfl
theorem Uk : aD.run 3 = some (dH.getD 3 0):=by kernel_rfl
theorem TX : aD.run 4 = some (dH.getD 4 0):=by kernel_rfl
theorem Uo : aD.run 5 = some (dH.getD 5 0):=by kernel_rfl
theorem Ue : aD.run 6 = some (dH.getD 6 0):=by kernel_rfl
theorem UI : aD.run 7 = some (dH.getD 7 0):=by kernel_rfl
theorem Us : aD.run 8 = some (dH.getD 8 0):=by kernel_rfl
theorem Um : aD.run 9 = some (dH.getD 9 0):=by kernel_rfl
theorem SV : aD.run 10 = some (dH.getD 10 0):=by kernel_rfl
theorem Su : aD.run 11 = some (dH.getD 11 0):=by kernel_rfl
theorem Sa : aD.run 12 = some (dH.getD 12 0):=by kernel_rfl
theorem Tp : aD.run 13 = some (dH.getD 13 0):=by kernel_rfl
theorem Te : aD.run 14 = some (dH.getD 14 0):=by kernel_rfl
theorem Ti : aD.run 15 = some (dH.getD 15 0):=by kernel_rfl
theorem SP : aD.run 16 = some (dH.getD 16 0):=by kernel_rfl
theorem Sv : aD.run 17 = some (dH.getD 17 0):=by kernel_rfl
theorem Sx : aD.run 18 = some (dH.getD 18 0):=by kernel_rfl
theorem Tn : aD.run 19 = some (dH.getD 19 0):=by kernel_rfl
theorem Sb : aD.run 20 = some (dH.getD 20 0):=by kernel_rfl
theorem Tl : aD.run 21 = some (dH.getD 21 0):=by kernel_rfl
theorem To : aD.run 22 = some (dH.getD 22 0):=by kernel_rfl
theorem SL : aD.run 23 = some (dH.getD 23 0):=by kernel_rfl
theorem KE : ∀ k : Nat,k < 24->aD.run (k : Int) = some (dH.getD k 0)
 | 0,_=>UH
 | 1,_=>TY
 | 2,_=>Uu
 | 3,_=>Uk
 | 4,_=>TX
 | 5,_=>Uo
 | 6,_=>Ue
 | 7,_=>UI
 | 8,_=>Us
 | 9,_=>Um
 | 10,_=>SV
 | 11,_=>Su
 | 12,_=>Sa
 | 13,_=>Tp
 | 14,_=>Te
 | 15,_=>Ti
 | 16,_=>SP
 | 17,_=>Sv
 | 18,_=>Sx
 | 19,_=>Tn
 | 20,_=>Sb
 | 21,_=>Tl
 | 22,_=>To
 | 23,_=>SL
 | n + 24,h=>by omega
theorem P1 {l : List Int} (h : l.length = 25) : ∃ a0 a1 a2 a3 a4 a5 a6 a7 a8 a9 a10 a11 a12 a13 a14 a15 a16 a17 a18 a19 a20 a21 a22 a23 a24,l = [a0,a1,a2,a3,a4,a5,a6,a7,a8,a9,a10,a11,a12,a13,a14,a15,a16,a17,a18,a19,a20,a21,a22,a23,a24]:=by
 match l,h with
 | [a0,a1,a2,a3,a4,a5,a6,a7,a8,a9,a10,a11,a12,a13,a14,a15,a16,a17,a18,a19,a20,a21,a22,a23,a24],_=>exact ⟨a0,a1,a2,a3,a4,a5,a6,a7,a8,a9,a10,a11,a12,a13,a14,a15,a16,a17,a18,a19,a20,a21,a22,a23,a24,rfl⟩
theorem GH {α β : Type} (Xt : List Int->List Int->Option α) (Yt : List Int->List Int->Option β) (K N n : Nat) (k : Nat) (hk : k < 24) (c2 d2 : List Int) {l : List Int} (hl : l.length = 25) :
  ∃ r : List Int,r.length = 25 /\ du.l0 (K + 26) Xt (n + 1) dH (k : Int) l c2 = du.l0 (K + 26) Xt n dH ((k + 1 : Nat) : Int) r c2 /\
   bp.l0 (N + 26) Yt (n + 1) (k : Int) l d2 = bp.l0 (N + 26) Yt n ((k + 1 : Nat) : Int) r d2:=by
 obtain ⟨a0,a1,a2,a3,a4,a5,a6,a7,a8,a9,a10,a11,a12,a13,a14,a15,a16,a17,a18,a19,a20,a21,a22,a23,a24,rfl⟩:=P1 hl
 simp only [du.l0,du.bq,bp.l0,bp.bq]
 rw [if_pos (show decide ((k : Int) < 24) = true by rw [decide_eq_true_eq]; omega),if_pos (show decide ((k : Int) < 24) = true by rw [decide_eq_true_eq]; omega),if_pos (show 0 <= (k : Int) /\ (k : Int) < 24 by omega),Ur]
 unfold du.j0
 rw [Uq,Pm]
 unfold du.j1
 rw [Ux]
 unfold du.j2 du.j3
 have e1 : N + 26 = (N + 20) + 6:=by omega
 rw [e1,Uz]
 unfold bp.j0
 rw [Up]
 unfold bp.j2
 have e2 : N + 20 + 6 = (N + 1) + 25:=by omega
 simp only [List.getD_cons_succ,List.getD_cons_zero]
 rw [e2,Ug]
 unfold bp.j3
 have e3 : (N + 1) + 25 = (N + 20) + 6:=by omega
 rw [e3,UE]
 unfold bp.j5 bp.j6
 rw [KE k hk,bind_some,wrap_i64 (x:=(k : Int) + 1) (by omega) (by omega)]
 simp only [N0]
 exact ⟨_,rfl,rfl,rfl⟩
theorem xl {α β : Type} (Xt : List Int->List Int->Option α) (Yt : List Int->List Int->Option β) (K N : Nat) (c2 d2 : List Int) : ∀ (m n k : Nat) (l : List Int),m < n->k + m = 24->l.length = 25 ->
  ∃ r : List Int,r.length = 25 /\ du.l0 (K + 26) Xt n dH (k : Int) l c2 = Xt r c2 /\ bp.l0 (N + 26) Yt n (k : Int) l d2 = Yt r d2
 | m,0,k,l,h,_,_=>by omega
 | 0,n + 1,k,l,h,hk,hl=>by
  have : k = 24:=by omega
  subst this
  exact ⟨l,hl,rfl,rfl⟩
 | m + 1,n + 1,k,l,h,hk,hl=>by
  obtain ⟨r,h1,h2,h3⟩:=GH Xt Yt K N n k (by omega) c2 d2 hl
  rw [h2,h3]
  exact xl Xt Yt K N c2 d2 m n (k + 1) r (by omega) (by omega) h1
theorem I8 {l : List Int} (hl : l.length = 25) : ∃ r : List Int,r.length = 25 /\ du.run l = some r /\ bp.run l = some r:=by
 obtain ⟨K,hK⟩ : ∃ K,fuel = K + 26:=⟨18446744073709551590,rfl⟩
 obtain ⟨r,h1,h2,h3⟩:=xl (fun c1 c2=>du.j4 (fun c2=>some c2) c1 c2) (fun c1 c2=>bp.j7 (fun c2=>some c2) c1 c2) K K (replicate 25 0) (replicate 25 0) 24 fuel 0 l (by rw [hK]; omega) (by omega) hl
 unfold du.run du.top bp.run bp.top
 rw [<- hK] at h2 h3
 exact ⟨r,h1,h2,h3⟩
theorem MI {b V k : Nat} (hb : b < 256) : (2 ^ k * b) ^^^ (2 ^ (k + 8) * V) = 2 ^ k * (256 * V + b):=by
 have h8 : (256 : Nat) = 2 ^ 8:=by decide
 apply Nat.eq_of_testBit_eq
 intro j
 rw [Nat.testBit_xor,Nat.testBit_two_pow_mul,Nat.testBit_two_pow_mul,Nat.testBit_two_pow_mul,h8,Nat.testBit_two_pow_mul_add V (by rw [<- h8]; exact hb)]
 by_cases h1 : k <= j
 ·by_cases h2 : k + 8 <= j
  ·have : ¬ (j - k < 8):=by omega
   have hz : b.testBit (j - k) = false:=Nat.testBit_lt_two_pow (Nat.lt_of_lt_of_le hb (by rw [h8]; exact Nat.pow_le_pow_right (by omega) (by omega)))
   simp [h1,h2,this,hz]
   congr 1
  ·have : j - k < 8:=by omega
   simp [h1,h2,this]
 ·have h2 : ¬ (k + 8 <= j):=by omega
  simp [h1,h2]
theorem Fk {b j : Nat} (hb : b < 256) (hj : j <= 7) : eR .u64 (b : Int) ((8 * j : Nat) : Int) = ((2 ^ (8 * j) * b : Nat) : Int):=by
 unfold eR
 have e : min ((8 * j : Nat) : Int).toNat IntKind.u64.bits = 8 * j:=by
  rw [Int.toNat_natCast]; simp [IntKind.bits]; omega
 rw [e]
 have : 2 ^ (8 * j) * b < 18446744073709551616:=by
  have h1 : 2 ^ (8 * j) <= 2 ^ 56:=Nat.pow_le_pow_right (by omega) (by omega)
  calc 2 ^ (8 * j) * b <= 2 ^ 56 * 255:=Nat.mul_le_mul h1 (by omega)
   _ < 18446744073709551616:=by decide
 rw [show (b : Int) * 2 ^ (8 * j) = ((2 ^ (8 * j) * b : Nat) : Int) by rw [Nat.mul_comm (2 ^ (8 * j)) b]; simp,ka this]
def FN : List Nat->Nat
 | []=>0
 | b :: l=>256 * FN l + b
theorem Gk : ∀ (l : List Nat),(∀ b ∈ l,b < 256)->FN l < 256 ^ l.length
 | [],_=>by simp [FN]
 | b :: l,h=>by
  have:=Gk l fun c hc=>h c (mem_cons_of_mem _ hc)
  have hb:=h b (by simp)
  simp only [FN,length_cons,Nat.pow_succ]; omega
def Av (x : Int) : List Nat->Nat->Int
 | [],_=>x
 | b :: l,j=>Av (ae .u64 x (eR .u64 (b : Int) ((8 * j : Nat) : Int))) l (j + 1)
theorem EA (assoc : ∀ x y z : Int,ae .u64 (ae .u64 x y) z = ae .u64 x (ae .u64 y z)) : ∀ (b : Nat) (l : List Nat) (j : Nat) (x : Int),(∀ c ∈ b :: l,c < 256)->j + (b :: l).length <= 8 ->
  Av x (b :: l) j = ae .u64 x ((2 ^ (8 * j) * FN (b :: l) : Nat) : Int)
 | b,[],j,x,h,hl=>by
  simp only [Av,FN,length_cons,length_nil] at hl ⊢
  rw [Fk (h b (by simp)) (by omega)]; simp
 | b,c :: l,j,x,h,hl=>by
  have ih:=EA assoc c l (j + 1) (ae .u64 x (eR .u64 (b : Int) ((8 * j : Nat) : Int))) (fun d hd=>h d (mem_cons_of_mem _ hd)) (by simp at hl ⊢; omega)
  rw [show Av x (b :: c :: l) j = Av (ae .u64 x (eR .u64 (b : Int) ((8 * j : Nat) : Int))) (c :: l) (j + 1) from rfl,ih,assoc]
  have hb:=h b (by simp)
  have hc : ∀ d ∈ c :: l,d < 256:=fun d hd=>h d (mem_cons_of_mem _ hd)
  simp only [length_cons] at hl
  have hW:=Gk (c :: l) hc
  have p1 : 2 ^ (8 * j) * b < 18446744073709551616:=by
   have h1 : 2 ^ (8 * j) <= 2 ^ 56:=Nat.pow_le_pow_right (by omega) (by omega)
   calc 2 ^ (8 * j) * b <= 2 ^ 56 * 255:=Nat.mul_le_mul h1 (by omega)
    _ < 18446744073709551616:=by decide
  have p2 : 2 ^ (8 * (j + 1)) * FN (c :: l) < 18446744073709551616:=by
   have e : (256 : Nat) ^ (c :: l).length = 2 ^ (8 * (c :: l).length):=by rw [show (256 : Nat) = 2 ^ 8 from rfl,<- Nat.pow_mul]
   rw [e] at hW
   calc 2 ^ (8 * (j + 1)) * FN (c :: l) < 2 ^ (8 * (j + 1)) * 2 ^ (8 * (c :: l).length):=Nat.mul_lt_mul_of_pos_left hW (Nat.two_pow_pos _)
    _ = 2 ^ (8 * (j + 1) + 8 * (c :: l).length):=by rw [Nat.pow_add]
    _ <= 2 ^ 64:=Nat.pow_le_pow_right (by omega) (by simp only [length_cons]; omega)
    _ = 18446744073709551616:=by decide
  rw [Fk hb (by omega),MC p1 p2,show 8 * (j + 1) = 8 * j + 8 by omega,MI hb]
  rfl
def nw (l : List Int) : Prop:=∀ b ∈ l,0 <= b /\ b < 256
theorem nw.getD {l : List Int} (h : nw l) (i : Nat) : 0 <= l.getD i 0 /\ l.getD i 0 < 256:=by
 by_cases hi : i < l.length
 ·rw [List.getD_eq_getElem?_getD,List.getElem?_eq_getElem hi]; exact h _ (List.getElem_mem hi)
 grind
def sx (b : List Int) (k : Nat) : List Nat:=((b.drop (8 * k)).take 8).map toNat
def RV (b : List Int) (a : List Int) (k : Nat) : List Int:=a.set k (ae .u64 (a.getD k 0) ((FN (sx b k) : Nat) : Int))
def Fc (b : List Int) : Nat->Nat->List Int->List Int
 | 0,_,a=>a
 | m + 1,k,a=>Fc b m (k + 1) (RV b a k)
theorem Dh (b a : List Int) (k : Nat) : (RV b a k).length = a.length:=by simp [RV]
theorem BF (b : List Int) : ∀ m k a,(Fc b m k a).length = a.length
 | 0,_,a=>rfl
 | m + 1,k,a=>(BF b m (k + 1) _).trans (Dh _ _ _)
theorem DO {b : List Int} (h : nw b) (k : Nat) : ∀ c ∈ sx b k,c < 256:=by
 intro c hc
 simp only [sx,List.mem_map] at hc
 obtain ⟨x,hx,rfl⟩:=hc
 have:=h x (List.mem_of_mem_drop (List.mem_of_mem_take hx))
 omega
theorem yp {b : List Int} (hb : b.length = 136) {k : Nat} (hk : k < 17) : (sx b k).length = 8:=by
 grind [sx]
theorem ya {α : Type} {l : List α} {i : Nat} (h : i < l.length) (d : α) : l.drop i = l.getD i d :: l.drop (i + 1):=by
 simp_all
theorem HG {α : Type} (Xt : (List Int × List Int × Int × Unit)->(List Int × List Int × Int × Unit)->Option α) (K : Nat) (b : List Int) (hb : b.length = 136) (ho : nw b) (r : List Int × Int × Unit) (c2 : List Int × List Int × Int × Unit) (k : Nat) (hk : k < 17) : ∀ (m j n : Nat) (a : List Int),m + j = 8->a.length = 25 ->
  d9.l0 K Xt (n + m) b ((8 * k + j : Nat) : Int) (a,r) c2 = d9.l0 K Xt n b ((8 * k + 8 : Nat) : Int) (a.set k (Av (a.getD k 0) (((b.drop (8 * k + j)).take m).map toNat) j),r) c2
 | 0,j,n,a,hj,ha=>by
  obtain rfl : j = 8:=by omega
  simp only [List.take_zero,List.map_nil,Av]
  have : a.set k (a.getD k 0) = a:=by
   rw [List.getD_eq_getElem?_getD,List.getElem?_eq_getElem (by omega)]; simp
  rw [this]; rfl
 | m + 1,j,n,a,hj,ha=>by
  have hg:=ho.getD (8 * k + j)
  rw [show n + (m + 1) = (n + m) + 1 by omega]
  simp only [d9.l0,d9.bq]
  have e1 : IntKind.i64.wrap (tdiv ((8 * k + j : Nat) : Int) 8) = (k : Int):=by
   have:=jW (x:=8 * k + j) (c:=8) (by omega)
   grind
  have e2 : tmod ((8 * k + j : Nat) : Int) 8 = (j : Int):=by
   grind
  have e3 : IntKind.i64.wrap (8 * (j : Int)) = ((8 * j : Nat) : Int):=by
   grind [wrap_i64]
  rw [if_pos (dT (by omega)),if_pos (by omega),e1,e2,e3,if_pos (by omega),if_pos (by omega),if_pos (by omega),aG (by omega),ag,ag]
  rw [aV (x:=b.getD (8 * k + j) 0) (by omega) (by omega)]
  refine (HG Xt K b hb ho r c2 k hk m (j + 1) n _ (by omega) (by simp [ha])).trans ?_
  grind [List.set_set,ya,Av]
theorem BK {α : Type} (Xt : (List Int × List Int × Int × Unit)->(List Int × List Int × Int × Unit)->Option α) (K : Nat) (b : List Int) (hb : b.length = 136) (ho : nw b) (r : List Int × Int × Unit) (c2 : List Int × List Int × Int × Unit) : ∀ (m k n : Nat) (a : List Int),m + k = 17->a.length = 25 ->
  d9.l0 K Xt (n + 1 + 8 * m) b ((8 * k : Nat) : Int) (a,r) c2 = Xt (Fc b m k a,r) c2
 | 0,k,n,a,hk,ha=>by
  obtain rfl : k = 17:=by omega
  rfl
 | m + 1,k,n,a,hk,ha=>by
  rw [show n + 1 + 8 * (m + 1) = (n + 1 + 8 * m) + 8 by omega]
  have h:=HG Xt K b hb ho r c2 k (by omega) 8 0 (n + 1 + 8 * m) a rfl ha
  simp only [Nat.add_zero] at h
  rw [h]
  have h8:=yp hb (k:=k) (by omega)
  have hx : Av (a.getD k 0) (((b.drop (8 * k)).take 8).map toNat) 0 = ae .u64 (a.getD k 0) ((FN (sx b k) : Nat) : Int):=by
   show Av (a.getD k 0) (sx b k) 0 = _
   cases hc : sx b k with
   | nil=>rw [hc] at h8; simp at h8
   | cons c l =>
    rw [EA yi c l 0 _ (by rw [<- hc]; exact DO ho k) (by rw [<- hc]; omega)]
    simp
  rw [hx]
  exact BK Xt K b hb ho r c2 m (k + 1) n (RV b a k) (by omega) (by rw [Dh]; exact ha)
theorem H6 {α : Type} (Xt : List Int->Int->Int->List Int->List Int->Option α) (K : Nat) (b : List Int) (hb : b.length = 136) (ho : nw b) (c2 c4 : List Int) (k : Nat) (hk : k < 17) : ∀ (m n : Nat),m < n->m <= 8 ->
  bc.l1 K Xt n b ((8 * k : Nat) : Int) ((FN ((sx b k).drop m) : Nat) : Int) ((m : Int) - 1) c2 c4 = Xt b ((8 * k : Nat) : Int) ((FN (sx b k) : Nat) : Int) c2 c4
 | m,0,h,_=>by omega
 | 0,n + 1,h,hm=>by
  rfl
 | m + 1,n + 1,h,hm=>by
  have h8:=yp hb hk
  have hg:=ho.getD (8 * k + m)
  simp only [bc.l1,bc.me]
  have e0 : ((m + 1 : Nat) : Int) - 1 = (m : Int):=by omega
  have e1 : IntKind.i64.wrap (((8 * k : Nat) : Int) + (m : Int)) = ((8 * k + m : Nat) : Int):=by
   grind [wrap_i64]
  rw [e0,if_pos (dT (by omega)),e1,if_pos (by omega),wrap_i64 (x:=(m : Int) - 1) (by omega) (by omega),ag]
  have hl:=Gk ((sx b k).drop (m + 1)) (fun c hc=>DO ho k c (List.mem_of_mem_drop hc))
  rw [List.length_drop,h8] at hl
  have hp : (256 : Nat) ^ (8 - (m + 1)) <= 256 ^ 7:=Nat.pow_le_pow_right (by omega) (by omega)
  have hp7 : (256 : Nat) ^ 7 = 72057594037927936:=by decide
  generalize hW : FN ((sx b k).drop (m + 1)) = W at *
  rw [aV (x:=(W : Int) * 256) (by omega) (by omega),aV (x:=b.getD (8 * k + m) 0) (by omega) (by omega),aV (by omega) (by omega)]
  have e2 : ((W : Int) * 256 + b.getD (8 * k + m) 0) = ((FN ((sx b k).drop m) : Nat) : Int):=by
   rw [ya (l:=sx b k) (i:=m) (by omega) 0]
   grind [FN,sx]
  rw [e2]
  exact H6 Xt K b hb ho c2 c4 k hk m n (by omega) (by omega)
theorem wx {α : Type} (Xt : List Int->List Int->Option α) (K : Nat) (hK : 8 < K) (b : List Int) (hb : b.length = 136) (ho : nw b) (c4 : List Int) : ∀ (m k n : Nat) (a : List Int),m < n->m + k = 17->a.length = 25 ->
  bc.l0 K Xt n b ((8 * k : Nat) : Int) a c4 = Xt (Fc b m k a) c4
 | m,k,0,a,h,_,_=>by omega
 | 0,k,n + 1,a,h,hk,ha=>by
  obtain rfl : k = 17:=by omega
  rfl
 | m + 1,k,n + 1,a,h,hk,ha=>by
  simp only [bc.l0,bc.bq]
  rw [if_pos (dT (by omega))]
  have h8:=yp hb (k:=k) (by omega)
  have hw:=H6 (fun x1 x5 x6 c2 c4=>bc.j0 (bc.l0 K Xt n) x1 x5 x6 c2 c4) K b hb ho a c4 k (by omega) 8 K hK (by omega)
  have hz : FN ((sx b k).drop 8) = 0:=by rw [List.drop_eq_nil_of_le (by omega)]; rfl
  rw [hz,show ((8 : Nat) : Int) - 1 = 7 from rfl,show ((0 : Nat) : Int) = 0 from rfl] at hw
  rw [hw]
  unfold bc.j0 bc.j1
  have e1 : IntKind.i64.wrap (tdiv ((8 * k : Nat) : Int) 8) = (k : Int):=by
   have:=jW (x:=8 * k) (c:=8) (by omega)
   grind
  rw [e1,if_pos (by omega),if_pos (by omega),ag,wrap_i64 (x:=((8 * k : Nat) : Int) + 8) (by omega) (by omega),show ((8 * k : Nat) : Int) + 8 = ((8 * (k + 1) : Nat) : Int) by omega]
  exact wx Xt K hK b hb ho c4 m (k + 1) n (RV b a k) (by omega) (by omega) (by rw [Dh]; exact ha)
theorem Ka {a b : List Int} (ha : a.length = 25) (hb : b.length = 136) (ho : nw b) : ∃ r : List Int,r.length = 25 /\ (∀ N : Int,d9.run (a,b,N,()) = some (r,replicate 136 0,0,())) /\ bc.run a b = some r:=by
 obtain ⟨r,h1,h2,h3⟩:=I8 (l:=Fc b 17 0 a) (by rw [BF]; exact ha)
 refine ⟨r,h1,fun N=>?_,?_⟩
 ·unfold d9.run d9.top
  obtain ⟨n,hn⟩ : ∃ n,fuel = n + 1 + 8 * 17:=⟨fuel - 137,by rw [au]⟩
  rw [hn]
  have:=BK (fun c1 c2=>d9.j0 (fun c2=>some c2) c1 c2) (n + 1 + 8 * 17) b hb ho (b,N,()) (replicate 25 0,replicate 136 0,0,()) 17 0 n a rfl ha
  refine Eq.trans this ?_
  grind [d9.j0]
 ·unfold bc.run bc.top
  have:=wx (fun c2 c4=>bc.j2 (fun c4=>some c4) c2 c4) fuel (by rw [au]; omega) b hb ho (replicate 25 0) 17 0 fuel a (by rw [au]; omega) rfl ha
  refine Eq.trans this ?_
  grind [bc.j2]
abbrev M5 : Type:=List Int × List Int × Int × Unit
def At (h : List Int) (N : Int) : Bool:=!(decide (0 <= N) && decide (N < 136) && (h.drop N.toNat).all (fun x=>x == 0))
theorem wy {α : Type} (Rt : Int->Option α) (Xt : Option α) (K : Nat) (a h : List Int) (N : Nat) (hN : N < 136) (hh : h.length = 136) (I : Int) : ∀ (m j n : Nat),m < n->m + j = 136 - N ->
  ek.l0 K Rt Xt n (N : Int) ((136 - N : Nat) : Int) (j : Int) (a,h,I,()) = if (h.drop (N + j)).all (fun x=>x == 0) = true then Xt else Rt 12
 | m,j,0,hm,_=>by omega
 | 0,j,n + 1,hm,hj=>by
  simp only [ek.l0,ek.bq]
  rw [if_neg (dF (by omega)),List.drop_eq_nil_of_le (by omega)]; rfl
 | m + 1,j,n + 1,hm,hj=>by
  simp only [ek.l0,ek.bq]
  rw [if_pos (dT (by omega)),if_pos (by omega),show ((N : Int) + (j : Int)) = ((N + j : Nat) : Int) by omega,ag,aG (by omega),ya (l:=h) (i:=N + j) (by omega) 0,List.all_cons]
  by_cases hz : h.getD (N + j) 0 = 0
  ·rw [hz]
   simp only [bne_self_eq_false,false_eq_true,if_false,BEq.rfl,Bool.true_and]
   exact wy Rt Xt K a h N hN hh I m (j + 1) n (by omega) (by omega)
  grind
theorem A5 (a h : List Int) (N : Int) (hh : h.length = 136) : ek.run (a,h,N,()) = some (if At h N = true then 12 else 0):=by
 unfold ek.run ek.top At
 simp only [cA]
 by_cases h0 : 0 <= N /\ N < 136
 ·obtain ⟨M,rfl⟩:=Int.eq_ofNat_of_zero_le h0.1
  have hM : M < 136:=by omega
  rw [if_neg (by simp only [or_eq_true,decide_eq_true_eq]; omega),if_pos (by omega)]
  have hl : ((ay h (M : Int) 136).length : Int) = ((136 - M : Nat) : Int):=by
   grind [mA]
  rw [hl]
  have:=wy (fun x2=>some x2) (ek.j0 fun x2=>some x2) fuel a h M hM hh (M : Int) (136 - M) 0 fuel (by rw [au]; omega) rfl
  rw [show ((0 : Nat) : Int) = 0 from rfl] at this
  refine Eq.trans this ?_
  rw [show decide (0 <= (M : Int)) = true by rw [decide_eq_true_eq]; omega,show decide ((M : Int) < 136) = true by rw [decide_eq_true_eq]; omega,ag,Nat.add_zero]
  cases (h.drop M).all fun x=>x == 0 <;> rfl
 grind
theorem Ff {α : Type} (Rt : Bool->Option α) (Xt : Option α) (K : Nat) (a h : List Int) (hh : h.length = 136) (I : Int) : ∀ (m j n : Nat),m < n->m + j = 136 ->
  bI.l0 K Rt Xt n (j : Int) (a,h,I,()) = if (h.drop j).all (fun x=>x == 0) = true then Xt else Rt true
 | m,j,0,hm,_=>by omega
 | 0,j,n + 1,hm,hj=>by
  simp_all [bI.l0,bI.bq,List.drop_eq_nil_of_le]
 | m + 1,j,n + 1,hm,hj=>by
  simp only [bI.l0,bI.bq]
  rw [if_pos (dT (by omega)),if_pos (by omega),ag,aG (by omega),ya (l:=h) (i:=j) (by omega) 0,List.all_cons]
  by_cases hz : h.getD j 0 = 0
  ·rw [hz]
   simp only [bne_self_eq_false,false_eq_true,if_false,BEq.rfl,Bool.true_and]
   exact Ff Rt Xt K a h hh I m (j + 1) n (by omega) (by omega)
  grind
theorem Ib (a h : List Int) (N : Int) (hh : h.length = 136) : bI.run (a,h,N,()) = some (At h N):=by
 unfold bI.run bI.top At
 simp only [cA]
 by_cases h0 : 0 <= N /\ N < 136
 ·obtain ⟨M,rfl⟩:=Int.eq_ofNat_of_zero_le h0.1
  rw [if_neg (by simp only [or_eq_true,decide_eq_true_eq]; omega)]
  have:=Ff (fun x2=>some x2) (bI.j0 fun x2=>some x2) fuel a h hh (M : Int) (136 - M) M fuel (by rw [au]; omega) (by omega)
  refine Eq.trans this ?_
  rw [show decide (0 <= (M : Int)) = true by rw [decide_eq_true_eq]; omega,show decide ((M : Int) < 136) = true by rw [decide_eq_true_eq]; omega,ag]
  cases (h.drop M).all fun x=>x == 0 <;> rfl
 grind
def xy (a b : List Int) : List Int:=match bc.run a b with
 | some r=>r
 | none=>[]
theorem u7 {a b : List Int} (ha : a.length = 25) (hb : b.length = 136) (ho : nw b) : (xy a b).length = 25 /\ (∀ N : Int,d9.run (a,b,N,()) = some (xy a b,replicate 136 0,0,())) /\ bc.run a b = some (xy a b):=by
 grind [xy,Ka]
def mM : Nat->List Int->List Int->List Int × List Int
 | 0,a,l=>(a,l)
 | n + 1,a,l=>if 136 <= l.length then mM n (xy a (l.take 136)) (l.drop 136) else (a,l)
theorem wX : ∀ (n m : Nat) (a l : List Int),l.length <= n->l.length <= m->mM n a l = mM m a l
 | 0,0,_,_,_,_=>rfl
 | 0,m + 1,a,l,h,_=>by rw [mM,mM,if_neg (by omega)]
 | n + 1,0,a,l,_,h=>by rw [mM,mM,if_neg (by omega)]
 | n + 1,m + 1,a,l,h1,h2=>by
  rw [mM,mM]
  by_cases h : 136 <= l.length
  ·rw [if_pos h,if_pos h]; exact wX n m _ _ (by simp; omega) (by simp; omega)
  grind
def ab (a l : List Int) : List Int × List Int:=mM l.length a l
theorem zt {a l : List Int} (h : l.length < 136) : ab a l = (a,l):=by
 unfold ab
 cases hl : l.length with
 | zero=>rfl
 | succ n=>rw [mM,if_neg (by omega)]
theorem Hf {a l : List Int} (h : 136 <= l.length) : ab a l = ab (xy a (l.take 136)) (l.drop 136):=by
 unfold ab
 obtain ⟨n,hn⟩ : ∃ n,l.length = n + 1:=⟨l.length - 1,by omega⟩
 rw [hn,mM,if_pos h]
 grind [wX]
theorem nw.take {l : List Int} (h : nw l) (n : Nat) : nw (l.take n):=fun b hb=>h b (List.mem_of_mem_take hb)
theorem nw.drop {l : List Int} (h : nw l) (n : Nat) : nw (l.drop n):=fun b hb=>h b (List.mem_of_mem_drop hb)
theorem nw.append {l m : List Int} (h : nw l) (g : nw m) : nw (l ++ m):=fun b hb=>(List.mem_append.1 hb).elim (h b) (g b)
theorem nw.O0 (n : Nat) : nw (replicate n 0):=fun b hb=>by rw [List.eq_of_mem_replicate hb]; decide
theorem Lf : ∀ (n : Nat) (a l : List Int),l.length <= n->a.length = 25->nw l->(ab a l).1.length = 25 /\ (ab a l).2.length < 136 /\ nw (ab a l).2
 | n,a,l,h,ha,ho=>by
  by_cases hl : 136 <= l.length
  ·rw [Hf hl]
   match n with
   | 0=>omega
   | n + 1=>exact Lf n _ _ (by simp; omega) (u7 ha (by simp; omega) (ho.take _)).1 (ho.drop _)
  grind [zt]
def sp (r : List Int × List Int) : M5:=(r.1,r.2 ++ replicate (136 - r.2.length) 0,(r.2.length : Int),())
theorem zo {α : Type} (Xt : M5->M5->Option α) (K : Nat) (l : List Int) (hl : l.length <= 4611686018427387904) (z : M5) : ∀ (R P : List Int) (n : Nat) (a p : List Int),R.length < n->l = P ++ R->nw R->a.length = 25->nw p->p.length < 136 ->
  fD.l0 K Xt n l (l.length : Int) (P.length : Int) (sp (a,p)) z = Xt (sp (ab a (p ++ R))) z
 | R,P,0,a,p,h,_,_,_,_,_=>by omega
 | [],P,n + 1,a,p,h,hc,_,ha,hp,hpl=>by
  simp_all [fD.l0,fD.bq,zt]
 | c :: R,P,n + 1,a,p,h,hc,hoR,ha,hp,hpl=>by
  have hlen : l.length = P.length + (R.length + 1):=by rw [hc]; simp
  have hcR:=hoR c (by simp)
  simp only [sp]
  simp only [fD.l0,fD.bq,fD.j0]
  have hg : l.getD P.length 0 = c:=by rw [hc]; simp [List.getD]
  have hset : (p ++ replicate (136 - p.length) 0).set p.length c = (p ++ [c]) ++ replicate (136 - (p ++ [c]).length) 0:=by
   rw [show 136 - p.length = (136 - (p ++ [c]).length) + 1 by simp; omega,replicate_succ]
   grind
  rw [if_pos (dT (by omega)),if_pos (by omega),if_pos (by omega),aG (by omega),aG (by omega),ag,ag,hg,hset]
  have hpc : nw (p ++ [c]):=hp.append fun b hb=>by simp only [List.mem_cons,List.not_mem_nil,or_false] at hb; subst hb; exact hcR
  have hlc : (p ++ [c]).length = p.length + 1:=by simp
  have hP : ((P.length + 1 : Nat) : Int) = ((P ++ [c]).length : Int):=by simp
  have happ : p ++ c :: R = (p ++ [c]) ++ R:=by simp
  by_cases hf : p.length + 1 = 136
  ·rw [if_pos (by rw [beq_iff_eq]; omega),hlc,show 136 - (p.length + 1) = 0 by omega,List.replicate_zero,List.append_nil]
   obtain ⟨b1,b2,b3⟩:=u7 ha (b:=p ++ [c]) (by omega) hpc
   rw [b2,bind_some,hP]
   have ih:=zo Xt K l hl z R (P ++ [c]) n (xy a (p ++ [c])) [] (by simp at h; omega) (by simp [hc]) (fun b hb=>hoR b (mem_cons_of_mem _ hb)) b1 (fun b hb=>by cases hb) (by simp)
   simp only [sp,nil_append,length_nil,Nat.sub_zero] at ih
   grind [Hf]
  ·rw [if_neg (by rw [beq_iff_eq]; omega),hP,show ((p.length + 1 : Nat) : Int) = ((p ++ [c]).length : Int) by rw [hlc]]
   have ih:=zo Xt K l hl z R (P ++ [c]) n a (p ++ [c]) (by simp at h; omega) (by simp [hc]) (fun b hb=>hoR b (mem_cons_of_mem _ hb)) ha hpc (by omega)
   grind [sp]
theorem Fb {α : Type} (Xt : List Int->M5->List Int->Option α) (K : Nat) (z : M5) : ∀ (n : Nat) (l a : List Int),l.length < n->l.length <= 9223372036854775807->nw l->a.length = 25 ->
  bH.l0 K Xt n l z a = Xt (ab a l).2 z (ab a l).1
 | 0,l,a,h,_,_,_=>by omega
 | n + 1,l,a,h,hb,ho,ha=>by
  simp only [bH.l0,bH.bq]
  by_cases hl : 136 <= l.length
  ·have hc1 : ay l 0 136 = l.take 136:=by simp [ay]
   have hc2 : ay l 136 (l.length : Int) = l.drop 136:=by
    grind [take_of_length_le,ay]
   obtain ⟨b1,b2,b3⟩:=u7 ha (b:=l.take 136) (by simp; omega) (ho.take _)
   rw [if_pos (dT (by omega)),if_pos (by omega),hc1,b3,bind_some,if_pos (by omega),hc2,Hf hl]
   exact Fb Xt K z n _ _ (by simp; omega) (by simp; omega) (ho.drop _) b1
  ·rw [if_neg (dF (by omega)),zt (by omega)]
theorem ER {α : Type} (Xt : M5->M5->Option α) (K : Nat) (z : M5) (a l : List Int) (hl : l.length <= 136) : ∀ (R P : List Int) (n : Nat),R.length < n->l = P ++ R ->
  bH.l1 K Xt n l (P.length : Int) z (a,P ++ replicate (136 - P.length) 0,(l.length : Int),()) = Xt z (a,l ++ replicate (136 - l.length) 0,(l.length : Int),())
 | R,P,0,h,_=>by omega
 | [],P,n + 1,h,hc=>by
  simp_all [bH.l1,bH.me]
 | c :: R,P,n + 1,h,hc=>by
  have hlen : l.length = P.length + (R.length + 1):=by rw [hc]; simp
  simp only [bH.l1,bH.me]
  have hg : l.getD P.length 0 = c:=by rw [hc]; simp [List.getD]
  have hset : (P ++ replicate (136 - P.length) 0).set P.length c = (P ++ [c]) ++ replicate (136 - (P ++ [c]).length) 0:=by
   rw [show 136 - P.length = (136 - (P ++ [c]).length) + 1 by simp; omega,replicate_succ]
   grind
  rw [if_pos (dT (by omega)),if_pos (by omega),if_pos (by omega),aG (by omega),ag,hg,hset]
  have ih:=ER Xt K z a l hl R (P ++ [c]) n (by simpa using h) (by simp [hc])
  rw [<- ih]; simp
theorem added {a h b : List Int} {N : Int} (ha : a.length = 25) (hh : h.length = 136) (hoh : nw h) (hob : nw b) (hbl : b.length <= 4611686018427387904) :
  (At h N = true->fD.run (a,h,N,()) b = some ((replicate 25 0,replicate 136 0,0,()),12,()) /\ bH.run (a,h,N,()) b = some ((replicate 25 0,replicate 136 0,0,()),12,())) /\
  (∀ p : List Int,p.length < 136->N = (p.length : Int)->h = p ++ replicate (136 - p.length) 0->At h N = false->fD.run (a,h,N,()) b = some (sp (ab a (p ++ b)),0,()) /\ bH.run (a,h,N,()) b = some (sp (ab a (p ++ b)),0,())):=by
 unfold fD.run fD.top bH.run bH.top
 rw [A5 a h N hh,Ib a h N hh]
 simp only [bind_some]
 constructor
 ·intro hb
  rw [hb]; exact ⟨rfl,rfl⟩
 ·intro p hp hN hhp hb
  rw [hb]
  simp only [false_eq_true,if_false,bne_self_eq_false]
  subst hhp
  have hop : nw p:=fun x hx=>hoh x (List.mem_append_left _ hx)
  constructor
  ·have:=zo (fun c2 c4=>fD.j1 (fun x5 c4=>some (c4,x5,())) c2 c4) fuel b hbl (replicate 25 0,replicate 136 0,0,()) b [] fuel a p (by rw [au]; omega) rfl hob ha hop hp
   simp only [sp,length_nil] at this
   rw [show ((0 : Nat) : Int) = 0 from rfl] at this
   rw [hN,this]; rfl
  ·have hc1 : ay (ay (p ++ replicate (136 - p.length) 0) 0 136) 0 (p.length : Int) = p:=by
    have : ay (p ++ replicate (136 - p.length) (0 : Int)) 0 136 = p ++ replicate (136 - p.length) 0:=by
     grind [ay]
    rw [this]; simp [ay]
   have hc2 : (ay (p ++ replicate (136 - p.length) 0) 0 136).length = 136:=by
    grind [mA]
   simp only [hN]
   rw [hc2,hc1,if_pos (by omega),if_pos (Nat.ble_eq_true_of_le (by omega))]
   have hol:=hop.append hob
   rw [Fb _ _ _ fuel (p ++ b) a (by rw [au]; simp; omega) (by simp; omega) hol ha]
   obtain ⟨k1,k2,k3⟩:=Lf _ a (p ++ b) (Nat.le_refl _) ha hol
   unfold bH.j0
   have:=ER (fun c4 c9=>bH.j1 (fun x5 c4=>some (c4,x5,())) c4 c9) fuel (replicate 25 0,replicate 136 0,0,()) (ab a (p ++ b)).1 (ab a (p ++ b)).2 (by omega) (ab a (p ++ b)).2 [] fuel (by rw [au]; omega) rfl
   simp only [nil_append,length_nil,Nat.sub_zero] at this
   rw [show ((0 : Nat) : Int) = 0 from rfl] at this
   rw [this]; rfl
def KX (a : List Int) (i : Nat) : Int:=IntKind.u8.wrap (fh .u64 (a.getD (i / 8) 0) ((8 * (i % 8) : Nat) : Int))
def t8 (a : List Int) : List Int:=(List.range 32).map (KX a)
theorem rk (a : List Int) : (t8 a).length = 32:=by simp [t8]
theorem KG (a : List Int) : nw (t8 a):=by
 intro b hb
 grind [t8,IntKind.wrap,IntKind.signed,IntKind.bits,KX]
theorem FF (a : List Int) {i m : Nat} (h : m + 1 + i = 32) : ((t8 a).take i ++ replicate (m + 1) 0).set i (KX a i) = (t8 a).take (i + 1) ++ replicate m 0:=by
 have hl : ((t8 a).take i).length = i:=by rw [List.length_take,rk]; omega
 rw [replicate_succ,List.take_add_one,List.getElem?_eq_getElem (by rw [rk]; omega)]
 rw [List.set_append_right _ _ (by omega),hl,Nat.sub_self]
 grind [t8]
theorem Em {α : Type} (Xt : List Int->List Int->Option α) (K : Nat) (s : M5) (z : List Int) : ∀ (m i n : Nat),m < n->m + i = 32 ->
  fY.l0 K Xt n (i : Int) s z ((t8 s.1).take i ++ replicate m 0) = Xt z (t8 s.1)
 | m,i,0,h,_=>by omega
 | 0,i,n + 1,h,hi=>by
  simp only [fY.l0,fY.bq]
  rw [if_neg (dF (by omega)),List.replicate_zero,List.append_nil,take_of_length_le (by rw [rk]; omega)]
 | m + 1,i,n + 1,h,hi=>by
  simp only [fY.l0,fY.bq]
  have e1 : IntKind.i64.wrap (tdiv (i : Int) 8) = ((i / 8 : Nat) : Int):=jW (x:=i) (c:=8) (by omega)
  have e2 : tmod (i : Int) 8 = ((i % 8 : Nat) : Int):=lB i 8
  have e3 : IntKind.i64.wrap (8 * ((i % 8 : Nat) : Int)) = ((8 * (i % 8) : Nat) : Int):=by rw [wrap_i64 (by omega) (by omega)]; omega
  rw [e1,e2,e3,if_pos (dT (by omega)),if_pos (by omega),if_pos (by omega),if_pos (by omega),aG (by omega),ag,ag]
  have:=FF s.1 (i:=i) (m:=m) hi
  unfold KX at this
  rw [this]
  exact Em Xt K s z m (i + 1) n (by omega) (by omega)
theorem zK {α : Type} (Xt : List Int->List Int->Option α) (K : Nat) (a z : List Int) : ∀ (m i n : Nat),m < n->m + i = 32 ->
  cV.l0 K Xt n (i : Int) z a ((t8 a).take i ++ replicate m 0) = Xt z (t8 a)
 | m,i,0,h,_=>by omega
 | 0,i,n + 1,h,hi=>by
  simp only [cV.l0,cV.bq]
  rw [if_neg (dF (by omega)),List.replicate_zero,List.append_nil,take_of_length_le (by rw [rk]; omega)]
 | m + 1,i,n + 1,h,hi=>by
  simp only [cV.l0,cV.bq]
  have e1 : IntKind.i64.wrap (tdiv (i : Int) 8) = ((i / 8 : Nat) : Int):=jW (x:=i) (c:=8) (by omega)
  have e2 : tmod (i : Int) 8 = ((i % 8 : Nat) : Int):=lB i 8
  have e3 : IntKind.i64.wrap (((i % 8 : Nat) : Int) * 8) = ((8 * (i % 8) : Nat) : Int):=by rw [wrap_i64 (by omega) (by omega)]; omega
  rw [e1,e2,e3,if_pos (dT (by omega)),if_pos (by omega),if_pos (by omega),if_pos (by omega),aG (by omega),ag,ag]
  have:=FF a (i:=i) (m:=m) hi
  unfold KX at this
  rw [this]
  exact zK Xt K a z m (i + 1) n (by omega) (by omega)
def EO (p : List Int) : List Int:=p ++ 1 :: replicate (135 - p.length) 0
def z8 (p : List Int) : List Int:=(EO p).set 135 (if p.length = 135 then 129 else 128)
theorem KM {p : List Int} (h : p.length < 136) : (EO p).length = 136:=by simp [EO]; omega
theorem Fv {p : List Int} (h : p.length < 136) : (z8 p).length = 136:=by simp [z8,KM h]
theorem Li {p : List Int} (h : nw p) : nw (z8 p):=by
 intro b hb
 rcases List.mem_or_eq_of_mem_set hb with hb | hb
 ·rcases List.mem_append.1 hb with hb | hb
  ·exact h b hb
  grind
 omega
theorem ND {p : List Int} (h : p.length < 136) : (p ++ replicate (136 - p.length) 0).set p.length 1 = EO p:=by
 rw [show 136 - p.length = (135 - p.length) + 1 by omega,replicate_succ]; simp [EO]
theorem K7 {p : List Int} (h : p.length < 136) : (EO p).getD 135 0 = if p.length = 135 then 1 else 0:=by
 unfold EO
 grind
theorem ended {a h : List Int} {N : Int} (ha : a.length = 25) (hh : h.length = 136) (hoh : nw h) :
  (At h N = true->fY.run (a,h,N,()) = some (replicate 32 0,12,()) /\ cV.run (a,h,N,()) = some (replicate 32 0,12,())) /\
  (∀ p : List Int,p.length < 136->N = (p.length : Int)->h = p ++ replicate (136 - p.length) 0->At h N = false->fY.run (a,h,N,()) = some (t8 (xy a (z8 p)),0,()) /\ cV.run (a,h,N,()) = some (t8 (xy a (z8 p)),0,())):=by
 unfold fY.run fY.top cV.run cV.top
 rw [A5 a h N hh,Ib a h N hh]
 simp only [bind_some]
 constructor
 ·intro hb
  rw [hb]; exact ⟨rfl,rfl⟩
 ·intro p hp hN hhp hb
  rw [hb]
  simp only [false_eq_true,if_false,bne_self_eq_false]
  subst hhp
  have hop : nw p:=fun x hx=>hoh x (List.mem_append_left _ hx)
  obtain ⟨b1,b2,b3⟩:=u7 ha (Fv hp) (Li hop)
  have hz : (p ++ replicate (136 - p.length) 0).getD p.length 0 = 0:=by
   grind
  simp only [hN,ag]
  rw [hz,show ae .u8 0 1 = 1 by decide,ND hp,if_pos (by omega),if_pos (by omega),if_pos (by omega),K7 hp]
  have v1 : jq .u8 (if p.length = 135 then 1 else 0) 128 = if p.length = 135 then 129 else 128:=by split <;> decide
  have v2 : ae .u8 (if p.length = 135 then 1 else 0) 128 = if p.length = 135 then 129 else 128:=by split <;> decide
  rw [v1,v2]
  have hc : ay (z8 p) 0 136 = z8 p:=by
   unfold ay
   rw [show toNat 0 = 0 from rfl,List.drop_zero,take_of_length_le (by rw [Fv hp]; decide)]
  rw [show (EO p).set 135 (if p.length = 135 then 129 else 128) = z8 p from rfl,hc,b3,b2]
  simp only [bind_some]
  have w1:=Em (fun c2 c5=>fY.j0 (fun x3 c2=>some (c2,x3,())) c2 c5) fuel (xy a (z8 p),replicate 136 0,0,()) (replicate 32 0) 32 0 fuel (by rw [au]; omega) rfl
  have w2:=zK (fun c2 c6=>cV.j0 (fun x3 c2=>some (c2,x3,())) c2 c6) fuel (xy a (z8 p)) (replicate 32 0) 32 0 fuel (by rw [au]; omega) rfl
  simp only [List.take_zero,nil_append] at w1 w2
  rw [show ((0 : Nat) : Int) = 0 from rfl] at w1 w2
  rw [w1,w2]
  exact ⟨rfl,rfl⟩
def Ot (b : List Int) : List Int:=t8 (xy (ab (replicate 25 0) b).1 (z8 (ab (replicate 25 0) b).2))
theorem xR (b : List Int) : (Ot b).length = 32:=rk _
theorem Hs (b : List Int) : nw (Ot b):=KG _
theorem Hn {r : List Int × List Int} (h : r.2.length < 136) : At (r.2 ++ replicate (136 - r.2.length) 0) (r.2.length : Int) = false:=by
 unfold At
 rw [ag,List.drop_append_of_le_length (Nat.le_refl _),List.drop_length,nil_append]
 grind
theorem z9 {b : List Int} (ho : nw b) (hb : b.length <= 4611686018427387904) : jh.run b = some (Ot b) /\ fb.run b = some (Ot b):=by
 obtain ⟨_,k2⟩:=added (a:=replicate 25 0) (h:=replicate 136 0) (N:=0) (by simp) (by simp) (nw.O0 _) ho hb
 obtain ⟨m1,m2⟩:=k2 [] (by simp) rfl rfl (Hn (r:=([],[])) (by simp))
 rw [nil_append] at m1 m2
 obtain ⟨z1,z2,z3⟩:=Lf _ (replicate 25 0) b (Nat.le_refl _) (by simp) ho
 obtain ⟨_,n2⟩:=ended (a:=(ab (replicate 25 0) b).1) (h:=(ab (replicate 25 0) b).2 ++ replicate (136 - (ab (replicate 25 0) b).2.length) 0) (N:=((ab (replicate 25 0) b).2.length : Int)) z1 (by rw [List.length_append,List.length_replicate]; omega) (z3.append (nw.O0 _))
 obtain ⟨q1,q2⟩:=n2 _ z2 rfl rfl (Hn z2)
 constructor
 ·unfold jh.run jh.top lK.run lK.top
  rw [bind_some,m1,bind_some]
  unfold sp
  simp only []
  rw [q1]; rfl
 ·unfold fb.run fb.top
  rw [m2,bind_some]
  unfold sp
  simp only []
  rw [q2]; rfl
theorem wu (l : List Int) : eJ.run l = some (As l):=by
 have h8 : ∀ x : Int,aA.run x 8 = some (be x 8):=fun x=>mZ x 8 (by omega)
 unfold eJ.run eJ.top
 simp only [h8,bind_some]
 rfl
def qG (x : Int) (n : Int) : Int:=IntKind.u8.wrap (fh .u64 x n)
def I7 (x : Int) : List Int:=[qG x 56,qG x 48,qG x 40,qG x 32,qG x 24,qG x 16,qG x 8,qG x 0]
theorem Gv (a b c d : Int) : jg.run [a,b,c,d] = some (I7 d ++ I7 c ++ I7 b ++ I7 a):=by kernel_rfl
theorem N2 (x : Int) : I7 x = be x 8:=by
 have h : ∀ n : Nat,n <= 64->qG x (n : Int) = uW x n:=fun n hn=>qb .u64 x n hn
 unfold I7
 have e0 : qG x 0 = uW x 0:=h 0 (by decide)
 have e1 : qG x 8 = uW x 8:=h 8 (by decide)
 have e2 : qG x 16 = uW x 16:=h 16 (by decide)
 have e3 : qG x 24 = uW x 24:=h 24 (by decide)
 have e4 : qG x 32 = uW x 32:=h 32 (by decide)
 have e5 : qG x 40 = uW x 40:=h 40 (by decide)
 have e6 : qG x 48 = uW x 48:=h 48 (by decide)
 have e7 : qG x 56 = uW x 56:=h 56 (by decide)
 rw [e7,e6,e5,e4,e3,e2,e1,e0]
 rfl
theorem mf (l : List Int) (h : l.length = 4) : jg.run l = some (As l):=by
 obtain ⟨a,b,c,d,rfl⟩:=eT h
 rw [Gv]
 simp only [N2]
 rfl
def keyOf (x y : List Int) : List Int:=(Ot (As x ++ As y)).drop 12
theorem HP (l : List Int) : nw (As l):=NF l
theorem Lg (h : List Int) (hh : h.length = 32) {i m : Nat} (hi : m + 1 + i = 20) : ((h.drop 12).take i ++ replicate (m + 1) 0).set i (h.getD (12 + i) 0) = (h.drop 12).take (i + 1) ++ replicate m 0:=by
 have hl : ((h.drop 12).take i).length = i:=by rw [List.length_take,List.length_drop]; omega
 have hd : (h.drop 12).length = 20:=by rw [List.length_drop]; omega
 rw [replicate_succ,List.take_add_one,List.getElem?_eq_getElem (by omega)]
 rw [List.set_append_right _ _ (by omega),hl,Nat.sub_self]
 grind
theorem yZ {α : Type} (Xt : List Int->List Int->Option α) (K : Nat) (h z : List Int) (hh : h.length = 32) : ∀ (m i n : Nat),m < n->m + i = 20 ->
  dj.l0 K Xt n (i : Int) z h ((h.drop 12).take i ++ replicate m 0) = Xt z (h.drop 12)
 | m,i,0,hm,_=>by omega
 | 0,i,n + 1,hm,hi=>by
  simp_all [dj.l0,dj.bq,take_of_length_le]
 | m + 1,i,n + 1,hm,hi=>by
  simp only [dj.l0,dj.bq]
  have e1 : IntKind.i64.wrap (12 + (i : Int)) = ((12 + i : Nat) : Int):=by rw [wrap_i64 (by omega) (by omega)]; omega
  rw [e1,if_pos (dT (by omega)),if_pos (by omega),if_pos (by omega),aG (by omega),ag,ag,Lg h hh hi]
  exact yZ Xt K h z hh m (i + 1) n (by omega) (by omega)
theorem MW {x y : List Int} (f : Bool) (hx : x.length = 4) (hy : y.length = 4) : lU.run (x,y,f,()) = some (keyOf x y) /\ dj.run (x,y,f,()) = some (keyOf x y):=by
 obtain ⟨s1,s2⟩:=z9 (b:=As x ++ As y) ((HP x).append (HP y)) (by rw [List.length_append,gU,gU]; omega)
 have hk:=xR (As x ++ As y)
 constructor
 ·unfold lU.run lU.top
  rw [mf x hx,bind_some,mf y hy,bind_some,gn (As x) 32 (by rw [gU]; rfl),gn (As y) 32 (by rw [gU]; rfl),gU,gU,if_pos ⟨rfl,by decide⟩,s1,bind_some]
  rfl
 ·unfold dj.run dj.top
  rw [wu,bind_some,wu,bind_some,gU,gU,if_pos (by decide),s2,bind_some]
  have:=yZ (fun c2 c4=>dj.j0 (fun c2=>some c2) c2 c4) fuel (Ot (As x ++ As y)) (replicate 20 0) hk 20 0 fuel (by rw [au]; omega) rfl
  simp only [List.take_zero,nil_append] at this
  rw [show ((0 : Nat) : Int) = 0 from rfl] at this
  rw [this]; rfl
theorem wW {α : Type} (Xt : Int->Option α) (K : Nat) (x : Nat) (hx : x <= 19) : ∀ (m j n : Nat),m < n->m + j = 2 * x / 3 + 1 ->
  dA.l0 K Xt n (x : Int) (j : Int) = Xt ((2 * x / 3 + 1 : Nat) : Int)
 | m,j,0,hm,_=>by omega
 | 0,j,n + 1,hm,hj=>by
  simp only [dA.l0,dA.bq]
  rw [wrap_i64 (x:=3 * (j : Int)) (by omega) (by omega),wrap_i64 (x:=2 * (x : Int)) (by omega) (by omega),if_neg (dF (by omega))]
  congr 1; omega
 | m + 1,j,n + 1,hm,hj=>by
  simp only [dA.l0,dA.bq]
  rw [wrap_i64 (x:=3 * (j : Int)) (by omega) (by omega),wrap_i64 (x:=2 * (x : Int)) (by omega) (by omega),if_pos (dT (by omega)),aG (by omega)]
  exact wW Xt K x hx m (j + 1) n (by omega) (by omega)
theorem JN {x : Nat} (hx : x <= 19) : lf.run (x : Int) = some (((2 * x / 3 + 1 : Nat) : Int),0,()) /\ dA.run (x : Int) = some (((2 * x / 3 + 1 : Nat) : Int),0,()):=by
 constructor
 ·unfold lf.run lf.top
  have e1 : IntKind.i64.wrap (2 * (x : Int)) = ((2 * x : Nat) : Int):=by rw [wrap_i64 (by omega) (by omega)]; omega
  have e2 : IntKind.i64.wrap (tdiv ((2 * x : Nat) : Int) 3) = ((2 * x / 3 : Nat) : Int):=jW (x:=2 * x) (c:=3) (by omega)
  rw [cA,if_neg (by simp only [or_eq_true,decide_eq_true_eq]; omega),e1,e2,aG (by omega)]
 ·unfold dA.run dA.top
  rw [cA,if_neg (by simp only [or_eq_true,decide_eq_true_eq]; omega)]
  exact wW _ _ x hx (2 * x / 3 + 1) 0 fuel (by rw [au]; omega) rfl
end Go.Bx
namespace Go.Bx
open Go Go.Bx.Rg
abbrev NZ : Type:=Int × (List Int × List Int × Int × Unit) × Unit
abbrev Ra : NZ:=(0,([0,0,0,0],[0,0,0,0],0,()),())
def G5 (s : List Int × List Int × Int × Unit) : Prop:=W4 s.1 /\ W4 s.2.1
theorem NW (s : List Int × List Int × Int × Unit) (h : G5 s) : ∃ R S o,s = (mk R,mk S,o,()) /\ (0 <= R /\ R < aM) /\ (0 <= S /\ S < aM):=by
 obtain ⟨a,b,o,u⟩:=s
 obtain ⟨w1,w2⟩:=h
 exact ⟨_,_,o,by rw [<- oc w1,<- oc w2],w1.bound,w2.bound⟩
theorem Jc {α : Type} (P : List α) (s d : α) (R : List α) : (P ++ [s] ++ R).getD P.length d = s:=by
 simp [List.getD]
theorem xd {P A B N x y : Int} {f : Bool} (b1 : 0 <= P /\ P < aM) (b2 : 0 <= A /\ A < aM) (b3 : 0 <= B /\ B < aM) (b4 : 0 <= N /\ N < aM) (b5 : 0 <= x /\ x < aM) (b6 : 0 <= y /\ y < aM) {h : List Int} (hh : h.length = 32) (ho : nw h) (K : Nat) (S : _)
  (l : List NZ) (hl : l.length <= 9223372036854775807) (hf : ∀ s ∈ l,G5 s.2.1) : ∀ (R Q : List NZ) (n : Nat) (last : Int),R.length < n->l = Q ++ R->(Q = []->last = -1)->(∀ Q' s,Q = Q' ++ [s]->last = s.1) ->
  ∃ e,e9.l0 K (fun x8=>some x8) (e9.j0 (fun x8=>some x8)) n (S.2.1.length : Int) last l (l.length : Int) (Q.length : Int) (mk P,mk A,mk B,mk N,(mk x,mk y,f,()),()) S h = some e /\
   bO.l0 K (fun x8=>some x8) (bO.j0 (fun x8=>some x8)) n l l (l.length : Int) (Q.length : Int) (mk P,mk A,mk B,mk N,(mk x,mk y,f,()),()) S h = some e
 | R,Q,0,last,hn,_,_,_=>by omega
 | [],Q,n + 1,last,hn,hc,_,_=>by
  simp only [e9.l0,e9.bq,bO.l0,bO.bq]
  have : l.length = Q.length:=by rw [hc]; simp
  rw [if_neg (dF (by omega)),if_neg (dF (by omega))]
  exact ⟨_,rfl,rfl⟩
 | s :: R,Q,n + 1,last,hn,hc,h1,h2=>by
  have hlen : l.length = Q.length + (R.length + 1):=by rw [hc]; simp
  have hg : l.getD Q.length Ra = s:=by rw [hc]; exact ef _ _ _ _
  simp only [e9.l0,e9.bq,bO.l0,bO.bq]
  have c1 : decide ((Q.length : Int) < (l.length : Int)) = true:=by rw [decide_eq_true_eq]; omega
  have c2 : 0 <= (Q.length : Int) /\ (Q.length : Int) < (l.length : Int):=by omega
  rw [if_pos c1,if_pos c2,if_pos c1,if_pos c2,ag,hg]
  simp only [cA]
  by_cases hw : 0 <= s.1 /\ s.1 < (S.2.1.length : Int)
  ·rw [if_neg (show ¬ (decide (s.1 < 0) || decide (s.1 >= (S.2.1.length : Int))) = true by simp only [or_eq_true,decide_eq_true_eq]; omega),if_neg (show ¬ (decide (s.1 < 0) || decide (s.1 >= (S.2.1.length : Int))) = true by simp only [or_eq_true,decide_eq_true_eq]; omega)]
   have hlast : (cond (decide ((Q.length : Int) > 0)) (decide (s.1 <= (l.getD (toNat (IntKind.i64.wrap ((Q.length : Int) - 1))) Ra).1)) false) = decide (s.1 <= last):=by
    rcases List.eq_nil_or_concat Q with rfl | ⟨Q',t,rfl⟩
    ·grind
    ·rw [List.concat_eq_append] at hc h2 hlen ⊢
     have hq : (Q' ++ [t]).length = Q'.length + 1:=by simp
     rw [h2 Q' t rfl,hq,show decide (((Q'.length + 1 : Nat) : Int) > 0) = true by rw [decide_eq_true_eq]; omega,cond_true,wrap_i64 (by omega) (by omega)]
     rw [show toNat (((Q'.length + 1 : Nat) : Int) - 1) = Q'.length by omega,hc,Jc]
   have hin : (decide (0 <= IntKind.i64.wrap ((Q.length : Int) - 1) /\ IntKind.i64.wrap ((Q.length : Int) - 1) < (l.length : Int)) || !((decide ((Q.length : Int) > 0)) == true)) = true:=by
    rw [wrap_i64 (by omega) (by omega)]
    grind
   rw [hin,hlast,cond_true]
   by_cases hle : s.1 <= last
   ·simp_all
   ·rw [if_neg (by simpa using hle),if_neg (by simpa using hle)]
    obtain ⟨Rn,Sn,o,hsg,hR,hS⟩:=NW s.2.1 (hf s (by rw [hc]; simp))
    obtain ⟨q,e,r1,r2,r3⟩:=DF (f:=f) (o:=o) b1 b2 b3 b4 b5 b6 hR hS hh ho
    rw [hsg,r1,r2]
    simp only [bind_some]
    by_cases he : e = 0
    ·subst he
     obtain ⟨k1,k2⟩:=MW q.2.2.1 r3.1.1 r3.2.1
     rw [show (q.1,q.2.1,q.2.2.1,()) = q from rfl] at k1 k2
     simp only [bne_self_eq_false,false_eq_true,if_false]
     rw [k1,k2]
     simp only [bind_some]
     rw [if_pos hw,if_pos hw]
     cases hk : (not (ax (.arr 20 (.int .u8)) (keyOf q.1 q.2.1) (List.getD S.2.1 (toNat s.1) (replicate 20 0)))) with
     | true=>exact ⟨_,rfl,rfl⟩
     | false =>
      simp only [false_eq_true,if_false]
      rw [aG (by omega)]
      have ih:=xd (f:=f) b1 b2 b3 b4 b5 b6 hh ho K S l hl hf R (Q ++ [s]) n s.1 (by simpa using hn) (by simp [hc]) (fun h=>by simp at h) (fun Q' t ht=>by
       have:=List.append_inj_right' ht rfl
       simp at this; rw [this])
      rw [List.length_append] at ih
      exact ih
    simp_all
  ·rw [if_pos (show (decide (s.1 < 0) || decide (s.1 >= (S.2.1.length : Int))) = true by simp only [or_eq_true,decide_eq_true_eq]; omega),if_pos (show (decide (s.1 < 0) || decide (s.1 >= (S.2.1.length : Int))) = true by simp only [or_eq_true,decide_eq_true_eq]; omega)]
   grind
theorem E2 {P A B N x y : Int} {f : Bool} (b1 : 0 <= P /\ P < aM) (b2 : 0 <= A /\ A < aM) (b3 : 0 <= B /\ B < aM) (b4 : 0 <= N /\ N < aM) (b5 : 0 <= x /\ x < aM) (b6 : 0 <= y /\ y < aM) {hs : List Int} (hh : hs.length = 32) (ho : nw hs) (S : _)
  (l : List NZ) (hl : l.length <= 9223372036854775807) (hf : ∀ s ∈ l,G5 s.2.1) : ∃ e,e9.run (mk P,mk A,mk B,mk N,(mk x,mk y,f,()),()) S hs l = some e /\ bO.run (mk P,mk A,mk B,mk N,(mk x,mk y,f,()),()) S hs l = some e:=by
 obtain ⟨e1,e2⟩:=nO f b1 b2 b3 b4 b5 b6
 unfold e9.run e9.top bO.run bO.top
 rw [e1,e2]
 simp only [bind_some,cA]
 rcases Ca P A B N x y f with h0 | h0
 ·rw [h0]
  simp only [bne_self_eq_false,false_eq_true,if_false]
  by_cases hk : 1 <= S.2.1.length /\ S.2.1.length <= 19
  ·obtain ⟨n1,n2⟩:=JN hk.2
   rw [if_neg (show ¬ (decide ((S.2.1.length : Int) < 1) || decide ((S.2.1.length : Int) > 19)) = true by simp only [or_eq_true,decide_eq_true_eq]; omega),if_neg (show ¬ (((S.2.1.length : Int) == 0) || decide ((S.2.1.length : Int) > 19)) = true by simp only [or_eq_true,beq_iff_eq,decide_eq_true_eq]; omega),n1,n2]
   simp only [bind_some]
   by_cases hx : (l.length : Int) < ((2 * S.2.1.length / 3 + 1 : Nat) : Int)
   ·rw [if_pos (by simpa using hx),if_pos (by simpa using hx)]
    exact ⟨_,rfl,rfl⟩
   ·rw [if_neg (by simpa using hx),if_neg (by simpa using hx)]
    exact xd b1 b2 b3 b4 b5 b6 hh ho fuel S l hl hf l [] fuel (-1) (by rw [au]; omega) rfl (fun _=>rfl) (fun Q' s h=>by simp at h)
  ·rw [if_pos (show (decide ((S.2.1.length : Int) < 1) || decide ((S.2.1.length : Int) > 19)) = true by simp only [or_eq_true,decide_eq_true_eq]; omega),if_pos (show (((S.2.1.length : Int) == 0) || decide ((S.2.1.length : Int) > 19)) = true by simp only [or_eq_true,beq_iff_eq,decide_eq_true_eq]; omega)]
   exact ⟨_,rfl,rfl⟩
 ·rw [h0]; exact ⟨_,rfl,rfl⟩
end Go.Bx
namespace Go.Bx
open Go
theorem Bf {α : Type} (Xt : List Int->Option α) (K : Nat) (x : Int) : ∀ (m n : Nat) (c : List Int),m < n->m <= 8->c.length + m <= 1000000 ->
  bf.l0 K Xt n x ((m : Int) - 1) c = Xt (c ++ be x m)
 | m,0,c,h,_,_=>by omega
 | 0,n + 1,c,h,hm,hb=>by
  simp_all [bf.l0,bf.bq,be]
 | m + 1,n + 1,c,h,hm,hb=>by
  simp only [bf.l0,bf.bq]
  have e1 : ((m + 1 : Nat) : Int) - 1 = (m : Int):=by omega
  rw [e1,if_pos (dT (by omega)),wrap_i64 (x:=8 * (m : Int)) (by omega) (by omega),if_pos (by omega),if_pos (aU (by omega) (by omega)),wrap_i64 (x:=(m : Int) - 1) (by omega) (by omega)]
  have e2 : IntKind.u8.wrap (fh .i64 x (8 * (m : Int))) = uW x (8 * m):=by
   have:=qb .i64 x (8 * m) (by simp [IntKind.bits]; omega)
   grind
  rw [e2]
  refine (Bf Xt K x m n _ (by omega) (by omega) (by simp; omega)).trans ?_
  simp [be]
theorem uR (x : Int) (m : Nat) (c : List Int) (hm : m <= 8) (hb : c.length <= 999900) : bf.run x (m : Int) c = some (c ++ be x m,()):=by
 unfold bf.run bf.top
 grind [wrap_i64,au,Bf]
theorem Bb {α : Type} (Xt : List Int->Option α) (K : Nat) (x : Int) : ∀ (m n : Nat) (c : List Int),m < n->m <= 8->c.length + m <= 1000000 ->
  ca.l0 K Xt n x ((m : Int) - 1) c = Xt (c ++ be x m)
 | m,0,c,h,_,_=>by omega
 | 0,n + 1,c,h,hm,hb=>by
  simp_all [ca.l0,ca.bq,be]
 | m + 1,n + 1,c,h,hm,hb=>by
  simp only [ca.l0,ca.bq]
  have e1 : ((m + 1 : Nat) : Int) - 1 = (m : Int):=by omega
  rw [e1,if_pos (dT (by omega)),wrap_i64 (x:=8 * (m : Int)) (by omega) (by omega),if_pos (by omega),if_pos (aU (by omega) (by omega)),wrap_i64 (x:=(m : Int) - 1) (by omega) (by omega)]
  have e2 : IntKind.u8.wrap (fh .i64 x (8 * (m : Int))) = uW x (8 * m):=by
   have:=qb .i64 x (8 * m) (by simp [IntKind.bits]; omega)
   grind
  rw [e2]
  refine (Bb Xt K x m n _ (by omega) (by omega) (by simp; omega)).trans ?_
  simp [be]
theorem KD (x : Int) (m : Nat) (c : List Int) (hm : m <= 8) (hb : c.length <= 999900) : ca.run x (m : Int) c = some (c ++ be x m,()):=by
 unfold ca.run ca.top
 grind [wrap_i64,au,Bb]
def rH (b : en) : List Int:=be b.1 8 ++ (be b.2.1 4 ++ (be b.2.2.1 2 ++ (b.2.2.2.1 ++ (be b.2.2.2.2.1 8 ++ (be b.2.2.2.2.2.1 1 ++ b.2.2.2.2.2.2.1)))))
theorem NQ (x : Int) (c : List Int) (h : c.length <= 999900) : (bf.run x 1 c = some (c ++ be x 1,()) /\ bf.run x 2 c = some (c ++ be x 2,())) /\ (bf.run x 4 c = some (c ++ be x 4,()) /\ bf.run x 8 c = some (c ++ be x 8,())) :=
 ⟨⟨uR x 1 c (by omega) h,uR x 2 c (by omega) h⟩,uR x 4 c (by omega) h,uR x 8 c (by omega) h⟩
theorem MO (b : en) (c : List Int) (hw : b.2.2.2.1.length = 32) (hl : b.2.2.2.2.2.2.1.length <= 300) (h : c.length <= 900000) : gf.run b c = some (c ++ rH b,()):=by
 unfold gf.run gf.top
 rw [show ca.run b.1 8 c = some (c ++ be b.1 8,()) from KD b.1 8 c (by omega) (by omega),bind_some]
 simp only []
 rw [(NQ b.2.1 _ (by simp [eM]; omega)).2.1,bind_some]
 simp only []
 rw [(NQ b.2.2.1 _ (by simp [eM]; omega)).1.2,bind_some]
 unfold gO.run gO.top
 simp only []
 rw [gn b.2.2.2.1 32 (by rw [hw]; rfl),if_pos (aU (by simp [eM]; omega) (by omega)),bind_some]
 simp only []
 rw [(NQ b.2.2.2.2.1 _ (by simp [eM]; omega)).2.2,bind_some]
 simp only []
 rw [(NQ b.2.2.2.2.2.1 _ (by simp [eM]; omega)).1.1,bind_some]
 unfold gQ.run gQ.top
 simp only []
 rw [if_pos (aU (by simp [eM]; omega) (by omega)),bind_some]
 grind [rH]
theorem CA (b : en) (hw : b.2.2.2.1.length = 32) (he : jX b = 0) : fG.run b = some (rH b):=by
 obtain ⟨h1,h2,h3,h4,h5,h6⟩:=oZ he
 unfold fG.run fG.top
 have hb : ∀ x : Int,(aA.run x 1 = some (be x 1) /\ aA.run x 2 = some (be x 2)) /\ (aA.run x 4 = some (be x 4) /\ aA.run x 8 = some (be x 8)):=fun x =>
  ⟨⟨mZ x 1 (by omega),mZ x 2 (by omega)⟩,mZ x 4 (by omega),mZ x 8 (by omega)⟩
 have hs : ∀ n : Nat,n <= 100000->Nat.ble n 9223372036854775807 = true:=fun n hn=>vY (by omega)
 simp only [jO (x:=b.1) (by omega) (by omega),jO (x:=b.2.1) (by omega) (by omega),jO (x:=b.2.2.1) (by omega) (by omega),jO (x:=b.2.2.2.2.1) (by omega) (by omega),jO (x:=b.2.2.2.2.2.1) (by omega) (by omega),
  (hb _).1.1,(hb _).1.2,(hb _).2.1,(hb _).2.2,bind_some,gn b.2.2.2.1 32 (by rw [hw]; rfl)]
 rw [if_pos (hs _ (by simp [eM])),if_pos (hs _ (by simp [eM])),if_pos (hs _ (by simp [eM]; omega)),if_pos (hs _ (by simp [eM]; omega)),if_pos (hs _ (by simp [eM]; omega)),if_pos (hs _ (by simp [eM]; omega))]
 grind [rH]
theorem yG (x : Int) (k : Nat) : nw (be x k):=Hd x k
theorem MK {b : en} (hw : b.2.2.2.1.length = 32) (h1 : nw b.2.2.2.1) (h2 : nw b.2.2.2.2.2.2.1) (he : jX b = 0) : nw (rH b) /\ (rH b).length <= 1000:=by
 obtain ⟨_,_,_,_,_,h6⟩:=oZ he
 unfold rH
 refine ⟨(yG _ _).append ((yG _ _).append ((yG _ _).append (h1.append ((yG _ _).append ((yG _ _).append h2))))),?_⟩
 grind [eM]
theorem GG {b : en} (hw : b.2.2.2.1.length = 32) : ld.run b = some (if jX b = 0 then (rH b,0,()) else ([],jX b,())):=by
 unfold ld.run ld.top
 rw [tS]
 simp only [bind_some]
 by_cases he : jX b = 0
 ·simp_all [MO,oZ]
 grind
def Qc (b : en) : List Int:=Ot (Ot (rH b))
theorem Jz {b : en} (hw : b.2.2.2.1.length = 32) (h1 : nw b.2.2.2.1) (h2 : nw b.2.2.2.2.2.2.1) : nB.run b = some (if jX b = 0 then (Qc b,0,()) else (replicate 32 0,jX b,())) /\ gh.run b = some (if jX b = 0 then (Qc b,0,()) else (replicate 32 0,jX b,())):=by
 unfold nB.run nB.top gh.run gh.top
 rw [GG hw,tC]
 simp only [bind_some]
 by_cases he : jX b = 0
 ·obtain ⟨_,_,_,_,_,h6⟩:=oZ he
  obtain ⟨t1,t2⟩:=MK hw h1 h2 he
  obtain ⟨s1,s2⟩:=z9 t1 (by omega)
  obtain ⟨u1,u2⟩:=z9 (Hs (rH b)) (by rw [xR]; omega)
  rw [if_pos he,if_pos he,if_neg (show ¬ (jX b != 0) = true by simpa using he),CA b hw he]
  simp only [bne_self_eq_false,false_eq_true,if_false,bind_some]
  rw [s1,s2]
  simp only [bind_some]
  rw [gn (Ot (rH b)) 32 (by rw [xR]; rfl),u1,u2]
  exact ⟨rfl,rfl⟩
 grind
abbrev eo : Type:=List Int × List Int × Unit
abbrev fB : Type:=List Int × List eo × Unit
def mT (h : eo) : Prop:=h.1.length = 32 /\ h.2.1.length = 4 /\ aN ah h.2.1 /\ ∀ b ∈ h.1,0 <= b /\ b <= 255
def ir (c : fB) : Prop:=c.1.length = 4 /\ aN ah c.1 /\ ∀ h ∈ c.2.1,mT h
theorem Ad : ∀ (x y : List Int),x.length = y.length->(decide (n7 x y >= 0) = !(mB x y))
 | [],[],_=>by simp [n7,mB]
 | [],_ :: _,h=>by simp at h
 | _ :: _,[],h=>by simp at h
 | a :: x,b :: y,h=>by
  have ih:=Ad x y (by simpa using h)
  simp only [n7,mB]
  grind
theorem Ey {l : List Int} (h : l.length = 32) : ay l 0 32 = l:=by
 grind [ay]
abbrev H0 : eo:=(replicate 32 0,[0,0,0,0],())
def pv (l : List eo) (i : Nat) : Bool:=!(ax (.arr 4 (.int .u64)) (l.getD i H0).2.1 [0,0,0,0]) && (decide (i = 0) || mB (l.getD (i - 1) H0).1 (l.getD i H0).1)
def De (l : List eo) : Nat->Nat->Bool
 | 0,_=>true
 | k + 1,i=>pv l i && De l k (i + 1)
def BG (l : List eo) : Nat->Nat->Int
 | 0,_=>0
 | k + 1,i=>val ah (l.getD i H0).2.1 + BG l k (i + 1)
theorem rS {l : List eo} (h : ∀ x ∈ l,mT x) {i : Nat} (hi : i < l.length) : mT (l.getD i H0):=by
 grind
theorem yk {l : List eo} (h : ∀ x ∈ l,mT x) : ∀ (k i : Nat),i + k <= l.length->0 <= BG l k i
 | 0,_,_=>Int.le_refl _
 | k + 1,i,hi=>by
  obtain ⟨_,h2,h3,_⟩:=rS h (i:=i) (by omega)
  have:=(dL dW h3).1
  have:=yk h k (i + 1) (by omega)
  grind [BG]
theorem Ir {l : List eo} (h : ∀ x ∈ l,mT x) {i : Nat} (hi : i < l.length) : ay (l.getD i H0).1 0 32 = (l.getD i H0).1:=Ey (rS h hi).1
theorem zX {α : Type} (k : Nat) (Rt : Int->Option α) (Xt : fB->List Int->Option α) (c : fB) (hc : ∀ x ∈ c.2.1,mT x) (hl : c.2.1.length <= 1000) : ∀ (n m i : Nat) (s : List Int),i + m = c.2.1.length->m < n->s.length = 4->aN ah s ->
  ((De c.2.1 m i = true /\ val ah s + BG c.2.1 m i < aM)->∃ r,cI.l0 k Rt Xt n c.2.1 (c.2.1.length : Int) (i : Int) c s = Xt c r /\ r.length = 4 /\ aN ah r /\ val ah r = val ah s + BG c.2.1 m i) /\
  (¬ (De c.2.1 m i = true /\ val ah s + BG c.2.1 m i < aM)->cI.l0 k Rt Xt n c.2.1 (c.2.1.length : Int) (i : Int) c s = Rt 12)
 | 0,m,i,s,_,h,_,_=>by omega
 | n + 1,0,i,s,hi,h,hs,hd=>by
  have e : cI.l0 k Rt Xt (n + 1) c.2.1 (c.2.1.length : Int) (i : Int) c s = Xt c s:=by
   simp_all [cI.l0,cI.bq]
  have hb:=eH hs hd
  grind [BG,De]
 | n + 1,m + 1,i,s,hi,h,hs,hd=>by
  have hlt : i < c.2.1.length:=by omega
  obtain ⟨w1,w2,w3,w4⟩:=rS hc hlt
  obtain ⟨r,o,e1,e2,e3,e4,e5⟩:=nF hs w2 hd w3
  have hb:=eH hs hd
  have hbw:=eH w2 w3
  have htn:=yk hc m (i + 1) (by omega)
  have step : cI.l0 k Rt Xt (n + 1) c.2.1 (c.2.1.length : Int) (i : Int) c s = if pv c.2.1 i = true then (if o = true then Rt 12 else cI.l0 k Rt Xt n c.2.1 (c.2.1.length : Int) ((i + 1 : Nat) : Int) c r) else Rt 12:=by
   simp only [cI.l0,cI.bq]
   rw [if_pos (dT (by omega)),if_pos (by omega),aG (by omega),ag]
   unfold gm.run gm.top o6.run
   by_cases h0 : i = 0
   ·subst h0
    have g1 : (decide (((0 : Nat) : Int) > 0)) = false:=rfl
    simp only [g1]
    have g2 : (decide (0 <= IntKind.i64.wrap (((0 : Nat) : Int) - 1) /\ IntKind.i64.wrap (((0 : Nat) : Int) - 1) < (c.2.1.length : Int)) || !(false == true)) = true:=by simp
    rw [g2]
    simp only [cond_true,cond_false]
    rw [if_neg (by simp),bind_some,e1]
    simp only [bind_some]
    unfold pv
    grind
   ·have ew : IntKind.i64.wrap ((i : Int) - 1) = ((i - 1 : Nat) : Int):=by rw [wrap_i64 (by omega) (by omega)]; omega
    have g1 : (decide ((i : Int) > 0)) = true:=by rw [decide_eq_true_eq]; omega
    simp only [g1,ew,ag]
    have g2 : (decide (0 <= ((i - 1 : Nat) : Int) /\ ((i - 1 : Nat) : Int) < (c.2.1.length : Int)) || !(true == true)) = true:=by
     grind
    rw [g2]
    simp only [cond_true]
    rw [if_pos (by rfl),bind_some,bind_some,e1]
    simp only [bind_some]
    have hw:=Ir hc hlt
    have hw1:=Ir hc (show i - 1 < c.2.1.length by omega)
    rw [hw,hw1,Ad _ _ (by rw [(rS hc hlt).1,(rS hc (show i - 1 < c.2.1.length by omega)).1])]
    unfold pv
    grind
  obtain ⟨ih1,ih2⟩:=zX k Rt Xt c hc hl n m (i + 1) r (by omega) (by omega) e2 e3
  rw [step]
  simp only [De,BG,Bool.and_eq_true]
  grind
theorem yj {α : Type} (k : Nat) (Xt : List Int->Bool->fB->Option α) (c : fB) (hc : ∀ x ∈ c.2.1,mT x) (hl : c.2.1.length <= 1000) : ∀ (n m i : Nat) (s : List Int) (b : Bool),i + m = c.2.1.length->m < n->s.length <= 8 + i->aN bM s ->
  ∃ r,aP.l0 k Xt n s b c.2.1 (c.2.1.length : Int) (i : Int) c = Xt r (b && De c.2.1 m i) c /\ r.length <= 8 + (i + m) /\ aN bM r /\ val bM r = val bM s + BG c.2.1 m i
 | 0,m,i,s,b,_,h,_,_=>by omega
 | n + 1,0,i,s,b,hi,h,hs,hd=>by
  refine ⟨s,?_,by omega,hd,by simp [BG]⟩
  simp_all [aP.l0,aP.bq,De]
 | n + 1,m + 1,i,s,b,hi,h,hs,hd=>by
  have hlt : i < c.2.1.length:=by omega
  obtain ⟨w1,w2,w3,w4⟩:=rS hc hlt
  obtain ⟨o1,q1,q2,q3,q4⟩:=fE w2 w3
  obtain ⟨p,p1,p2,p3,p4⟩:=mK hd q3 (by omega) (by omega)
  obtain ⟨t,t1,t2,t3,t4,t5⟩:=rY (by omega) p3
  have step : aP.l0 k Xt (n + 1) s b c.2.1 (c.2.1.length : Int) (i : Int) c = aP.l0 k Xt n t (b && pv c.2.1 i) c.2.1 (c.2.1.length : Int) ((i + 1 : Nat) : Int) c:=by
   simp only [aP.l0,aP.bq]
   rw [if_pos (dT (by omega)),if_pos (by omega),aG (by omega),ag]
   unfold aB.run aB.top ej.run ej.top
   have hz : (if (b == true) = true then some (ax (.arr 4 (.int .u64)) (c.2.1.getD i H0).2.1 [0,0,0,0]) else some false) = some (b && ax (.arr 4 (.int .u64)) (c.2.1.getD i H0).2.1 [0,0,0,0]):=by
    cases b <;> rfl
   rw [hz,bind_some]
   by_cases h0 : i = 0
   ·subst h0
    have g1 : (((0 : Nat) : Int) == 0) = true:=rfl
    simp only [g1]
    have g2 : (decide (0 <= IntKind.i64.wrap (((0 : Nat) : Int) - 1) /\ IntKind.i64.wrap (((0 : Nat) : Int) - 1) < (c.2.1.length : Int)) || !(true == false)) = true:=by simp
    rw [g2]
    simp only [cond_true]
    rw [if_neg (by simp),bind_some,q1]
    simp only [bind_some]
    rw [p1]
    simp only [bind_some]
    rw [t1]
    simp only [bind_some]
    congr 1
    unfold pv
    grind
   ·have ew : IntKind.i64.wrap ((i : Int) - 1) = ((i - 1 : Nat) : Int):=by rw [wrap_i64 (by omega) (by omega)]; omega
    have g1 : ((i : Int) == 0) = false:=by rw [beq_eq_false_iff_ne]; omega
    simp only [g1,ew,ag]
    have g2 : (decide (0 <= ((i - 1 : Nat) : Int) /\ ((i - 1 : Nat) : Int) < (c.2.1.length : Int)) || !(false == false)) = true:=by
     grind
    rw [g2]
    simp only [cond_true,cond_false]
    have hw:=Ir hc hlt
    have hw1:=Ir hc (show i - 1 < c.2.1.length by omega)
    rw [if_pos (by rfl),bind_some,q1]
    simp only [bind_some]
    rw [p1]
    simp only [bind_some]
    rw [t1]
    simp only [bind_some]
    rw [hw,hw1]
    congr 1
    unfold pv
    grind
  obtain ⟨r,r1,r2,r3,r4⟩:=yj k Xt c hc hl n m (i + 1) t (b && pv c.2.1 i) (by omega) (by omega) (by omega) t3
  grind [De,BG]
def jt (c : fB) : Bool:=De c.2.1 c.2.1.length 0 && decide (BG c.2.1 c.2.1.length 0 = val ah c.1)
theorem jo (c : fB) : jt c = true ↔ De c.2.1 c.2.1.length 0 = true /\ BG c.2.1 c.2.1.length 0 = val ah c.1:=by
 simp_all [jt]
theorem kU (c : fB) (hc : ir c) : cI.run c = some (if c.2.1.length > 40 then 1 else if jt c = true then 0 else 12):=by
 obtain ⟨c1,c2,c3⟩:=hc
 unfold cI.run cI.top
 by_cases h40 : c.2.1.length > 40
 ·grind
 ·rw [if_neg (dF (by omega)),if_neg h40]
  have hz : aN ah [0,0,0,0]:=fun d hd=>by
   grind
  have hv0 : val ah [0,0,0,0] = 0:=rfl
  have hb:=eH c1 c2
  have:=fun N (hN : c.2.1.length < N)=>zX N (fun (x2 : Int)=>some x2) (fun (c1 : fB) (c3 : List Int)=>cI.j0 (fun (x2 : Int)=>some x2) c1 c3) c c3 (by omega) N c.2.1.length 0 [0,0,0,0] (by omega) hN rfl hz
  obtain ⟨k1,k2⟩:=this fuel (by rw [au]; omega)
  rw [hv0,Int.zero_add] at k1 k2
  by_cases pv : De c.2.1 c.2.1.length 0 = true /\ BG c.2.1 c.2.1.length 0 < aM
  ·obtain ⟨r,r1,r2,r3,r4⟩:=k1 pv
   refine Eq.trans r1 ?_
   unfold cI.j0
   have e : ax (.arr 4 (.int .u64)) r c.1 = decide (BG c.2.1 c.2.1.length 0 = val ah c.1):=by
    rw [Bool.eq_iff_iff,decide_eq_true_eq]
    constructor
    ·grind [AZ]
    ·intro hh
     rw [jD r2 c1 r3 c2 (by rw [r4,hh])]
     exact cE (.arr 4 (.int .u64)) c.1 rfl
   rw [e]
   by_cases ht : BG c.2.1 c.2.1.length 0 = val ah c.1
   ·rw [if_neg (by simp [ht]),if_pos ((jo c).2 ⟨pv.1,ht⟩)]
   ·rw [if_pos (by simp [ht]),if_neg (fun h=>ht ((jo c).1 h).2)]
  ·refine Eq.trans (k2 pv) ?_
   rw [if_neg]
   grind [jo]
theorem tY (c : fB) (hc : ir c) : aP.run c = cI.run c:=by
 rw [kU c hc]
 obtain ⟨c1,c2,c3⟩:=hc
 unfold aP.run aP.top
 by_cases h40 : c.2.1.length > 40
 ·grind
 ·rw [if_neg (dF (by omega)),if_neg h40]
  have:=fun N (hN : c.2.1.length < N)=>yj N (fun (x3 : List Int) (x4 : Bool) (c1 : fB)=>aP.j0 (fun (x2 : Int)=>some x2) x3 x4 c1) c c3 (by omega) N c.2.1.length 0 [] true (by omega) hN (by simp) gP
  obtain ⟨r,r1,r2,r3,r4⟩:=this fuel (by rw [au]; omega)
  refine Eq.trans r1 ?_
  obtain ⟨o1,q1,q2,q3,q4⟩:=fE c1 c2
  unfold aP.j0
  have hg:=jo c
  have hv0 : val bM [] = 0:=rfl
  rw [hv0,Int.zero_add] at r4
  rw [Bool.true_and]
  generalize jt c = g at hg ⊢
  cases hh : De c.2.1 c.2.1.length 0 with
  | false =>
   rw [hh] at hg
   have : g = false:=by
    grind
   subst this
   rfl
  | true =>
   rw [hh] at hg
   simp only [true_and] at hg
   simp only [Bool.not_true]
   rw [if_pos (show ((false == false) = true) from rfl),q1]
   simp only [bind_some]
   rw [if_pos (show ((false == false) = true) from rfl)]
   rw [mr r3 q3 (by omega) (by omega),r4,q4]
   have no : BG c.2.1 c.2.1.length 0 ≠ val ah c.1->g = false:=fun h=>by
    grind
   rcases Int.lt_trichotomy (BG c.2.1 c.2.1.length 0) (val ah c.1) with h | h | h
   ·rw [if_pos h,no (by omega)]; rfl
   ·rw [if_neg (by omega),if_neg (by omega),hg.2 h]; rfl
   ·rw [if_neg (by omega),if_pos h,no (by omega)]; rfl
abbrev KH : Ty:=.pair AA (.pair (.sl (.pair (.arr 32 (.int .u8)) (.pair AA .unit))) .unit)
theorem DM {K : Ty->Nat->Prop} {c : fB} (h : Fit K KH c) : ir c:=by
 obtain ⟨h1,⟨_,_,h2⟩,_⟩:=h
 obtain ⟨l1,d1⟩:=gZ h1
 refine ⟨l1,d1,fun x hx=>?_⟩
 obtain ⟨⟨g1,g2⟩,g3,_⟩:=h2 x hx
 obtain ⟨l2,d2⟩:=gZ g3
 exact ⟨g1,l2,d2,fun b hb=>by have:=g2 b hb; simpa [Fit,Hc] using this⟩
end Go.Bx
