/- Laws about functions of plain data, in plain Lean. -/
import Derived.Test.YtjhlmecfjfcohaaGreatDoorLawsPostDoes0
import Derived.Test.YtjhlmecfjfcohaaGreatDoorFnPostDoes0
open Bool (false_eq_true or_eq_true)
open Int (add_zero mul_zero toNat)
open List (drop_eq_nil_of_le drop_zero mem_cons replicate)
open Nat (blt)
open Option (bind_some)
set_option maxRecDepth 100000
set_option linter.unusedVariables false
set_option linter.unusedSimpArgs false
namespace Go.Bx
open Go
theorem rJ (l : List Int) (a b : Nat) : ay l (a : Int) (b : Int) = (l.drop a).take (b - a):=by simp [ay]
theorem DS (l : List Int) (a : Nat) : ay l (a : Int) (l.length : Int) = l.drop a:=by
 rw [rJ,List.take_of_length_le (by simp)]
theorem oV {l : List Int} (h : gA l) (n : Nat) : gA (l.drop n):=fun b hb=>h b (List.mem_of_mem_drop hb)
theorem nG {l : List Int} (h : gA l) (n : Nat) : gA (l.take n):=fun b hb=>h b (List.mem_of_mem_take hb)
theorem mS {l : List Int} (h : gA l) (n : Nat) : 0 <= l.getD n 0 /\ l.getD n 0 < 256:=by
 by_cases hn : n < l.length
 ·rw [getD_eq hn]; exact h _ (List.getElem_mem _)
 grind
theorem bW {l : List Int} (h : gA l) (n : Nat) : IntKind.i64.wrap (l.getD n 0) = l.getD n 0:=by
 have:=mS h n
 grind [wrap_i64]
theorem GQ {l : List Int} {n : Nat} (h : n + 1 < l.length) (hb : gA l) : jq .i64 (eR .i64 (IntKind.i64.wrap (l.getD n 0)) 8) (IntKind.i64.wrap (l.getD (n + 1) 0)) = iU ((l.drop n).take 2):=by
 have e : (l.drop n).take 2 = [l.getD n 0,l.getD (n + 1) 0]:=by
  grind [List.drop_eq_getElem_cons]
 rw [e,bW hb (n + 1),Mj _ _ (mS hb (n + 1))]
 simp_all [iU,Je]
theorem pl (l : List Int) (h : l.length = 32) : fR.run l = some l:=by
 unfold fR.run fR.top
 grind [Dd,nW]
abbrev gF : jf:=(0,[0,0,0,0],[0,0,0,0],replicate 32 0,0,replicate 32 0,0,0,[],[],0,[],())
def C4 (kd : Int) (s : List Int) : jf:=(kd,wid (s.take 32),wid ((s.drop 100).take 32),(s.drop 32).take 32,iU ((s.drop 64).take 2),(s.drop 66).take 32,iU ((s.drop 98).take 2),0,[],s.drop 132,0,[],())
def rC (w : List Int) : Nat->Nat
 | 0=>0
 | j + 1=>if w.getD j 0 = 0 then rC w j else j + 1
theorem Fo (w : List Int) : ∀ j,rC w j <= j
 | 0=>Nat.le_refl _
 | j + 1=>by unfold rC; have:=Fo w j; split <;> omega
def Lh (kd : Int) (s : List Int) : jf:=(kd,[0,0,0,0],[0,0,0,0],s.take 32,iU ((s.drop 32).take 2),replicate 32 0,0,s.getD 34 0,(s.drop 35).take (rC (s.drop 35) 32),[],0,[],())
def oM : Nat->List Int->List (List Int)
 | 0,_=>[]
 | m + 1,l=>zp (replicate 20 0) 0 20 l :: oM m (l.drop 20)
theorem tw : ∀ (m : Nat) (l : List Int),(oM m l).length = m
 | 0,_=>rfl
 | m + 1,l=>by simp [oM,tw m]
def Nb (kd : Int) (s : List Int) : jf:=(kd,[0,0,0,0],[0,0,0,0],replicate 32 0,0,replicate 32 0,0,0,[],[],iU (s.take 4),oM (s.getD 4 0).toNat (s.drop 5),())
theorem RP (u : Bool × Unit) (s : List Int) (hb : gA s) (hl : s.length <= 140737488351232) : fS.run u s = some (if s.length < 132 then (gF,4,()) else (C4 0 s,0,())):=by
 unfold fS.run fS.top
 by_cases h : s.length < 132
 ·grind
 ·have c1 : ay s 0 32 = s.take 32:=rJ s 0 32
  have c2 : ay s 32 64 = (s.drop 32).take 32:=rJ s 32 64
  have c3 : ay s 66 98 = (s.drop 66).take 32:=rJ s 66 98
  have c4 : ay s 100 132 = (s.drop 100).take 32:=rJ s 100 132
  have c5 : ay s 132 (s.length : Int) = s.drop 132:=DS s 132
  have l1 : (s.take 32).length = 32:=by simp; omega
  have l2 : ((s.drop 32).take 32).length = 32:=by simp; omega
  have l3 : ((s.drop 66).take 32).length = 32:=by simp; omega
  have l4 : ((s.drop 100).take 32).length = 32:=by simp; omega
  have t1:=GQ (n:=64) (l:=s) (by omega) hb
  have t2:=GQ (n:=98) (l:=s) (by omega) hb
  rw [if_neg (dF (by omega)),if_neg h,if_pos (by omega),c1,pl _ l1,bind_some,(pe _ l1 (nG hb 32)).1,bind_some,if_pos (by omega),c2,pl _ l2,bind_some,
   if_pos (by omega),if_pos (by omega),if_pos (by omega),c3,pl _ l3,bind_some,if_pos (by omega),if_pos (by omega),if_pos (by omega),c4,pl _ l4,bind_some,(pe _ l4 (nG (oV hb 100) 32)).1,bind_some,
   if_pos (by omega),c5,if_pos (Hx (show (0 + (s.drop 132).length) * 1 <= _ by simp; omega) (show 0 + (s.drop 132).length <= _ by simp; omega)),t1,t2]
  simp only [C4]
theorem AR {α : Type} (Xt : List Int->Int->Int->List Int->List Int->List Int->Int->List Int->Int->Int->List Int->Int->Option α) (K : Nat) (s : List Int) (hs : s.length = 67) (hb : gA s) (a0 : Int) (a1 a2 a3 : List Int) (a4 : Int) (a5 : List Int) (a6 a7 : Int) (a8 : List Int) (a10 : Int) : ∀ (j n : Nat),j < n->j <= 32 ->
  dX.l0 K Xt n s (35 + (j : Int)) a0 a1 a2 a3 a4 a5 a6 a7 a8 a10 = Xt s (35 + (rC (s.drop 35) j : Int)) a0 a1 a2 a3 a4 a5 a6 a7 a8 a10
 | j,0,h,_=>by omega
 | 0,n + 1,h,_=>by
  simp only [dX.l0,dX.bq]
  rw [show (35 : Int) + ((0 : Nat) : Int) = 35 from rfl,show IntKind.i64.wrap (35 - 1) = 34 from rfl]
  have e1 : decide (0 <= (34 : Int) /\ (34 : Int) < (s.length : Int)) = true:=by rw [decide_eq_true_eq]; omega
  rw [e1,Bool.true_or,cond_true,show decide ((35 : Int) > 35) = false from rfl,cond_false,if_neg (by decide)]
  rfl
 | j + 1,n + 1,h,hj=>by
  simp only [dX.l0,dX.bq]
  have e0 : IntKind.i64.wrap (35 + ((j + 1 : Nat) : Int) - 1) = 35 + (j : Int):=by rw [wrap_i64 (by omega) (by omega)]; omega
  have e1 : decide (0 <= 35 + (j : Int) /\ 35 + (j : Int) < (s.length : Int)) = true:=by rw [decide_eq_true_eq]; omega
  have e2 : decide (35 + ((j + 1 : Nat) : Int) > 35) = true:=by rw [decide_eq_true_eq]; omega
  have e3 : (35 + (j : Int)).toNat = 35 + j:=by omega
  have e4 : s.getD (35 + j) 0 = (s.drop 35).getD j 0:=by simp [List.getD,List.getElem?_drop]
  rw [e0,e1,Bool.true_or,cond_true,e2,cond_true,e3,e4]
  unfold rC
  by_cases hz : (s.drop 35).getD j 0 = 0
  ·rw [if_pos (by simpa using hz),if_pos hz]
   exact AR Xt K s hs hb a0 a1 a2 a3 a4 a5 a6 a7 a8 a10 j n (by omega) (by omega)
  grind
theorem Rd (u : Unit) (s : List Int) (hb : gA s) : dX.run u s = some (if s.length < 67 then (gF,4,()) else if s.length > 67 then (gF,3,()) else (Lh 0 s,0,())):=by
 unfold dX.run dX.top
 by_cases h : s.length < 67
 ·grind
 ·rw [if_neg (dF (by omega)),if_neg h]
  by_cases h2 : s.length > 67
  ·grind
  ·have hs : s.length = 67:=by omega
   rw [if_neg (dF (by omega)),if_neg h2]
   refine (AR _ fuel s hs hb 0 [0,0,0,0] [0,0,0,0] (replicate 32 0) 0 (replicate 32 0) 0 0 [] 0 32 fuel (by rw [au]; omega) (by omega)).trans ?_
   unfold dX.j0
   have ht:=Fo (s.drop 35) 32
   have c1 : ay s 0 32 = s.take 32:=rJ s 0 32
   have c2 : ay s 35 (35 + (rC (s.drop 35) 32 : Int)) = (s.drop 35).take (rC (s.drop 35) 32):=by
    have:=rJ s 35 (35 + rC (s.drop 35) 32)
    grind
   have l1 : (s.take 32).length = 32:=by simp; omega
   have t1:=GQ (n:=32) (l:=s) (by omega) hb
   rw [if_pos (by omega),c1,pl _ l1,bind_some,if_pos (by omega),if_pos (by omega),if_pos (by omega),if_pos (by omega),c2,t1,bW hb 34]
   rfl
theorem AY {α : Type} (Xt : Int->List Int->List Int->List Int->Int->List Int->Int->Int->List Int->Int->Int->List Int->List Int->List Int->Int->List Int->Int->Int->List Int->Int->List (List Int)->Option α) (K : Nat) (s : List Int) (N : Nat) (hN : N <= 255) (hs : s.length = 5 + 20 * N)
  (a0 : Int) (a1 a2 a3 : List Int) (a4 : Int) (a5 : List Int) (a6 a7 : Int) (a8 : List Int) (a10 : Int) (b0 : Int) (b1 b2 b3 : List Int) (b4 : Int) (b5 : List Int) (b6 b7 : Int) (b8 : List Int) (b10 : Int) : ∀ (m i n : Nat) (c : List (List Int)),m < n->i + m = N->c.length = i ->
  dY.l0 K Xt n s (N : Int) (i : Int) a0 a1 a2 a3 a4 a5 a6 a7 a8 a10 b0 b1 b2 b3 b4 b5 b6 b7 b8 b10 c = Xt a0 a1 a2 a3 a4 a5 a6 a7 a8 a10 b0 b1 b2 b3 b4 b5 b6 b7 b8 b10 (c ++ oM m (s.drop (5 + 20 * i)))
 | m,i,0,c,h,_,_=>by omega
 | 0,i,n + 1,c,h,hi,hc=>by
  simp_all [dY.l0,dY.bq,oM]
 | m + 1,i,n + 1,c,h,hi,hc=>by
  simp only [dY.l0,dY.bq]
  have e1 : IntKind.i64.wrap (5 + IntKind.i64.wrap (20 * (i : Int))) = ((5 + 20 * i : Nat) : Int):=by
   grind [wrap_i64]
  rw [if_pos (dT (by omega)),e1,if_pos (by omega),if_pos (aU (by omega) (by omega)),aG (by omega),DS]
  refine (AY Xt K s N hN hs a0 a1 a2 a3 a4 a5 a6 a7 a8 a10 b0 b1 b2 b3 b4 b5 b6 b7 b8 b10 m (i + 1) n _ (by omega) (by omega) (by simp; omega)).trans ?_
  grind [oM,List.drop_drop]
theorem yF (k : Nat) {a c : Int} (ha : 0 <= a) (hc : 0 <= c /\ c < 2 ^ k) (hk : k <= 62) (h : a * 2 ^ k + c < 9223372036854775808) : jq .i64 (a * 2 ^ k) c = a * 2 ^ k + c:=by
 obtain ⟨A,rfl⟩:=Int.eq_ofNat_of_zero_le ha
 obtain ⟨X,rfl⟩:=Int.eq_ofNat_of_zero_le hc.1
 have e : (A : Int) * 2 ^ k = ((2 ^ k * A : Nat) : Int):=by push_cast; rw [Int.mul_comm]
 have hX : X < 2 ^ k:=by
  grind
 rw [e] at h ⊢
 unfold jq
 have h1 : (BitVec.ofInt IntKind.i64.bits ((2 ^ k * A : Nat) : Int)).toNat = 2 ^ k * A:=by
  rw [BitVec.toNat_ofInt,show (2 ^ IntKind.i64.bits : Nat) = 18446744073709551616 from rfl]; omega
 have h2 : (BitVec.ofInt IntKind.i64.bits ((X : Nat) : Int)).toNat = X:=by
  rw [BitVec.toNat_ofInt,show (2 ^ IntKind.i64.bits : Nat) = 18446744073709551616 from rfl]; omega
 grind [Nat.two_pow_add_eq_or_of_lt,wrap_i64]
theorem vZ (k : Nat) {b : Int} (hb : 0 <= b /\ b < 256) (hk : k <= 48) : eR .i64 b (k : Int) = b * 2 ^ k:=by
 unfold eR
 rw [show min ((k : Nat) : Int).toNat IntKind.i64.bits = k by simp [IntKind.bits]; omega]
 have h1 : (2 : Nat) ^ k <= 2 ^ 48:=Nat.pow_le_pow_right (by omega) hk
 obtain ⟨B,rfl⟩:=Int.eq_ofNat_of_zero_le hb.1
 have h2 : B * 2 ^ k <= 256 * 2 ^ 48:=Nat.mul_le_mul (by omega) h1
 grind [wrap_i64]
theorem Ng {l : List Int} (h : 4 <= l.length) (hb : gA l) : jq .i64 (jq .i64 (jq .i64 (eR .i64 (IntKind.i64.wrap (l.getD 0 0)) 24) (eR .i64 (IntKind.i64.wrap (l.getD 1 0)) 16)) (eR .i64 (IntKind.i64.wrap (l.getD 2 0)) 8)) (IntKind.i64.wrap (l.getD 3 0)) = iU (l.take 4):=by
 have e : l.take 4 = [l.getD 0 0,l.getD 1 0,l.getD 2 0,l.getD 3 0]:=by
  obtain ⟨a,t,rfl,h1⟩:=OR.bj (n:=l.length - 1) (l:=l) (by omega)
  obtain ⟨b,t2,rfl,h2⟩:=OR.bj (n:=t.length - 1) (l:=t) (by simp at h; omega)
  obtain ⟨c,t3,rfl,h3⟩:=OR.bj (n:=t2.length - 1) (l:=t2) (by simp at h; omega)
  obtain ⟨d,t4,rfl,h4⟩:=OR.bj (n:=t3.length - 1) (l:=t3) (by simp at h; omega)
  rfl
 have h0:=mS hb 0
 have h1:=mS hb 1
 have h2:=mS hb 2
 have h3:=mS hb 3
 rw [e,bW hb 0,bW hb 1,bW hb 2,bW hb 3]
 generalize l.getD 0 0 = b0 at *
 generalize l.getD 1 0 = b1 at *
 generalize l.getD 2 0 = b2 at *
 generalize l.getD 3 0 = b3 at *
 have s0:=vZ 24 h0 (by omega)
 have s1:=vZ 16 h1 (by omega)
 have s2:=vZ 8 h2 (by omega)
 rw [show ((24 : Nat) : Int) = 24 from rfl,show (2 : Int) ^ 24 = 16777216 from rfl] at s0
 rw [show ((16 : Nat) : Int) = 16 from rfl,show (2 : Int) ^ 16 = 65536 from rfl] at s1
 rw [show ((8 : Nat) : Int) = 8 from rfl,show (2 : Int) ^ 8 = 256 from rfl] at s2
 rw [s0,s1,s2]
 have o1:=yF 24 (a:=b0) (c:=b1 * 65536) (by omega) ⟨by omega,by rw [show (2 : Int) ^ 24 = 16777216 from rfl]; omega⟩ (by omega) (by rw [show (2 : Int) ^ 24 = 16777216 from rfl]; omega)
 rw [show (2 : Int) ^ 24 = 16777216 from rfl] at o1
 have o2:=yF 16 (a:=b0 * 256 + b1) (c:=b2 * 256) (by omega) ⟨by omega,by rw [show (2 : Int) ^ 16 = 65536 from rfl]; omega⟩ (by omega) (by rw [show (2 : Int) ^ 16 = 65536 from rfl]; omega)
 rw [show (2 : Int) ^ 16 = 65536 from rfl] at o2
 have o3:=yF 8 (a:=(b0 * 256 + b1) * 256 + b2) (c:=b3) (by omega) ⟨by omega,by rw [show (2 : Int) ^ 8 = 256 from rfl]; omega⟩ (by omega) (by rw [show (2 : Int) ^ 8 = 256 from rfl]; omega)
 grind [wrap_i64,iU,Je]
theorem QO (u : Unit) (s : List Int) (hb : gA s) : dY.run u s = some (if s.length < 5 \/ s.length < 5 + 20 * (s.getD 4 0).toNat then (gF,4,()) else if s.length > 5 + 20 * (s.getD 4 0).toNat then (gF,3,()) else (Nb 0 s,0,())):=by
 unfold dY.run dY.top
 have h4:=mS hb 4
 obtain ⟨N,hN⟩:=Int.eq_ofNat_of_zero_le h4.1
 have e0 : IntKind.i64.wrap (5 + IntKind.i64.wrap (20 * IntKind.i64.wrap (s.getD 4 0))) = ((5 + 20 * N : Nat) : Int):=by
  grind [wrap_i64]
 have eN : (s.getD 4 0).toNat = N:=by rw [hN]; rfl
 rw [e0,eN]
 by_cases h5 : s.length < 5
 ·grind
 ·rw [show decide ((s.length : Int) < 5) = false by rw [decide_eq_false_iff_not]; omega]
  rw [show decide (0 <= (4 : Int) /\ (4 : Int) < (s.length : Int)) = true by rw [decide_eq_true_eq]; omega]
  simp only [Bool.true_or,cond_true,cond_false]
  by_cases h6 : s.length < 5 + 20 * N
  ·grind
  ·rw [if_neg (dF (by omega)),if_neg (show ¬ (s.length < 5 \/ s.length < 5 + 20 * N) by omega),if_pos (by omega),if_pos (by omega),if_pos (by omega),if_pos (by omega),if_pos (by omega)]
   by_cases h7 : s.length > 5 + 20 * N
   ·grind
   ·rw [if_neg (dF (by omega)),if_neg h7,Ng (by omega) hb,bW hb 4,hN]
    refine (AY _ fuel s N (by omega) (by omega) _ _ _ _ _ _ _ _ _ _ _ _ _ _ _ _ _ _ _ _ N 0 fuel [] (by rw [au]; omega) (by omega) rfl).trans ?_
    grind [dY.j0,Nb]
def zw (x : jf) : Option (jf × Int × Unit):=(aj.run x).bind fun e=>some (if e = 0 then (x,0,()) else (gF,3,()))
theorem GS (a0 : Int) (a1 a2 a3 : List Int) (a4 : Int) (a5 : List Int) (a6 a7 : Int) (a8 : List Int) (a10 : Int) (b0 : Int) (b1 b2 b3 : List Int) (b4 : Int) (b5 : List Int) (b6 b7 : Int) (b8 b9 : List Int) (b10 : Int) (c : List (List Int)) :
  aS.j1 (fun x3 c2=>some (c2,x3,())) a0 a1 a2 a3 a4 a5 a6 a7 a8 a10 b0 b1 b2 b3 b4 b5 b6 b7 b8 b9 b10 c = zw (b0,b1,b2,b3,b4,b5,b6,b7,b8,b9,b10,c,()):=by
 unfold aS.j1 zw
 congr 1
 funext e
 by_cases h : e = 0
 ·rw [if_neg (by simpa using h),if_pos h]
 ·rw [if_pos (by simpa using h),if_neg h]
def O9 (kd : Int) (s : List Int) : Option (jf × Int × Unit) :=
 if kd = 1 \/ kd = 3 then (if s.length < 132 then some (gF,4,()) else zw (C4 kd s))
 else if kd = 2 then (if s.length < 67 then some (gF,4,()) else if s.length > 67 then some (gF,3,()) else zw (Lh kd s))
 else if kd = 4 then (if s.length < 5 \/ s.length < 5 + 20 * (s.getD 4 0).toNat then some (gF,4,()) else if s.length > 5 + 20 * (s.getD 4 0).toNat then some (gF,3,()) else zw (Nb kd s))
 else some (gF,2,())
theorem BX {α : Type} (Xt : List Int->List Int->Int->List Int->List Int->List Int->Int->List Int->Int->Int->List Int->Int->Int->List Int->List Int->List Int->Int->List Int->Int->Int->List Int->Int->Option α) (K : Nat) (s w : List Int) (hw : w.length <= 32) (a0 : Int) (a1 a2 a3 : List Int) (a4 : Int) (a5 : List Int) (a6 a7 : Int) (a8 : List Int) (a10 : Int) (b0 : Int) (b1 b2 b3 : List Int) (b4 : Int) (b5 : List Int) (b6 b7 : Int) (b8 : List Int) (b10 : Int) : ∀ (j n : Nat),j < n->j <= w.length ->
  aS.l0 K Xt n s (w.take j) a0 a1 a2 a3 a4 a5 a6 a7 a8 a10 b0 b1 b2 b3 b4 b5 b6 b7 b8 b10 = Xt s (w.take (rC w j)) a0 a1 a2 a3 a4 a5 a6 a7 a8 a10 b0 b1 b2 b3 b4 b5 b6 b7 b8 b10
 | j,0,h,_=>by omega
 | 0,n + 1,h,_=>by
  rfl
 | j + 1,n + 1,h,hj=>by
  simp only [aS.l0,aS.bq]
  have hlen : (w.take (j + 1)).length = j + 1:=by simp; omega
  have e0 : IntKind.i64.wrap (((w.take (j + 1)).length : Int) - 1) = (j : Int):=by rw [hlen,wrap_i64 (by omega) (by omega)]; omega
  have e1 : decide (0 <= (j : Int) /\ (j : Int) < ((w.take (j + 1)).length : Int)) = true:=by rw [decide_eq_true_eq]; omega
  have e2 : ax .str (w.take (j + 1)) [] = false:=by
   grind [xZ]
  have e4 : (w.take (j + 1)).getD j 0 = w.getD j 0:=by simp [List.getD,List.getElem?_take]
  have e5 : ay (w.take (j + 1)) 0 (j : Int) = w.take j:=by
   have:=rJ (w.take (j + 1)) 0 j
   grind
  rw [e0,e1,Bool.true_or,cond_true,e2,Bool.not_false,cond_true,ag,e4]
  unfold rC
  by_cases hz : w.getD j 0 = 0
  ·rw [if_pos (by simpa using hz),if_pos hz,if_pos (by omega),e5]
   exact BX Xt K s w hw a0 a1 a2 a3 a4 a5 a6 a7 a8 a10 b0 b1 b2 b3 b4 b5 b6 b7 b8 b10 j n (by omega) (by omega)
  grind
theorem zZ {α : Type} (Xt : Int->List Int->List Int->List Int->Int->List Int->Int->Int->List Int->Int->Int->List Int->List Int->List Int->Int->List Int->Int->Int->List Int->Int->List (List Int)->Option α) (K : Nat)
  (a0 : Int) (a1 a2 a3 : List Int) (a4 : Int) (a5 : List Int) (a6 a7 : Int) (a8 : List Int) (a10 : Int) (b0 : Int) (b1 b2 b3 : List Int) (b4 : Int) (b5 : List Int) (b6 b7 : Int) (b8 : List Int) (b10 : Int) : ∀ (m n : Nat) (l : List Int) (c : List (List Int)),m < n->l.length = 20 * m->c.length + m <= 255 ->
  aS.l1 K Xt n l a0 a1 a2 a3 a4 a5 a6 a7 a8 a10 b0 b1 b2 b3 b4 b5 b6 b7 b8 b10 c = Xt a0 a1 a2 a3 a4 a5 a6 a7 a8 a10 b0 b1 b2 b3 b4 b5 b6 b7 b8 b10 (c ++ oM m l)
 | m,0,l,c,h,_,_=>by omega
 | 0,n + 1,l,c,h,hl,hc=>by
  simp_all [aS.l1,aS.me,xZ,oM]
 | m + 1,n + 1,l,c,h,hl,hc=>by
  simp only [aS.l1,aS.me]
  rw [xZ,decide_eq_false (show ¬ l.length = 0 by omega),if_pos (by decide),if_pos (aU (by omega) (by omega)),if_pos (by omega)]
  have e5 : ay l 20 (l.length : Int) = l.drop 20:=DS l 20
  rw [e5]
  refine (zZ Xt K a0 a1 a2 a3 a4 a5 a6 a7 a8 a10 b0 b1 b2 b3 b4 b5 b6 b7 b8 b10 m n _ _ (by omega) (by simp; omega) (by simp; omega)).trans ?_
  grind [oM]
theorem OI (x : List Int) (hb : gA x) (hl : x.length <= 140737488351232) : aS.run x = if x.length = 0 then some (gF,4,()) else O9 (x.getD 0 0) (x.drop 1):=by
 unfold aS.run aS.top
 rw [xZ]
 by_cases h0 : x.length = 0
 ·grind
 ·rw [decide_eq_false h0,if_neg (by decide),if_neg h0,if_pos (by omega),if_pos (by omega)]
  have e1 : ay x 1 (x.length : Int) = x.drop 1:=DS x 1
  rw [e1,bW hb 0]
  have hk:=mS hb 0
  have hbs:=oV hb 1
  have hls : (x.drop 1).length <= 140737488351232:=by simp; omega
  generalize x.getD 0 0 = kd at *
  generalize x.drop 1 = s at *
  have hj : (if (kd == 1) = true then
    aS.j0 fuel (fun x3 c2=>some (c2,x3,())) s kd (kd == 1) 0 [0,0,0,0] [0,0,0,0] (replicate 32 0) 0 (replicate 32 0) 0 0 [] 0 kd [0,0,0,0] [0,0,0,0] (replicate 32 0) 0 (replicate 32 0) 0 0 [] 0
   else aS.j0 fuel (fun x3 c2=>some (c2,x3,())) s kd (kd == 3) 0 [0,0,0,0] [0,0,0,0] (replicate 32 0) 0 (replicate 32 0) 0 0 [] 0 kd [0,0,0,0] [0,0,0,0] (replicate 32 0) 0 (replicate 32 0) 0 0 [] 0) =
    aS.j0 fuel (fun x3 c2=>some (c2,x3,())) s kd (decide (kd = 1 \/ kd = 3)) 0 [0,0,0,0] [0,0,0,0] (replicate 32 0) 0 (replicate 32 0) 0 0 [] 0 kd [0,0,0,0] [0,0,0,0] (replicate 32 0) 0 (replicate 32 0) 0 0 [] 0:=by
   by_cases k1 : kd = 1
   ·rw [if_pos (by simpa using k1),decide_eq_true (Or.inl k1),show (kd == 1) = true by simpa using k1]
   ·rw [if_neg (by simpa using k1)]
    by_cases k3 : kd = 3
    ·rw [decide_eq_true (Or.inr k3),show (kd == 3) = true by simpa using k3]
    ·rw [decide_eq_false (show ¬ (kd = 1 \/ kd = 3) by omega),show (kd == 3) = false by simpa using k3]
  refine hj.trans ?_
  unfold aS.j0 O9
  by_cases k13 : kd = 1 \/ kd = 3
  ·rw [decide_eq_true k13,if_pos rfl,if_pos k13]
   by_cases h : s.length < 132
   ·grind
   ·have c1 : ay s 0 32 = s.take 32:=rJ s 0 32
    have c2 : ay s 32 64 = (s.drop 32).take 32:=rJ s 32 64
    have c3 : ay s 66 98 = (s.drop 66).take 32:=rJ s 66 98
    have c4 : ay s 100 132 = (s.drop 100).take 32:=rJ s 100 132
    have c5 : ay s 132 (s.length : Int) = s.drop 132:=DS s 132
    have c6 : ay s 64 66 = (s.drop 64).take 2:=rJ s 64 66
    have c7 : ay s 98 100 = (s.drop 98).take 2:=rJ s 98 100
    have l1 : (s.take 32).length = 32:=by simp; omega
    have l2 : ((s.drop 32).take 32).length = 32:=by simp; omega
    have l3 : ((s.drop 66).take 32).length = 32:=by simp; omega
    have l4 : ((s.drop 100).take 32).length = 32:=by simp; omega
    rw [if_neg (dF (by omega)),if_neg h,if_pos (by omega),c1,pI _ l1 (nG hbs 32),bind_some,if_pos (by omega),c2,pA _ (by omega),nW _ l2,bind_some,
     if_pos (by omega),c6,jm _ (by simp; omega) (nG (oV hbs 64) 2),bind_some,if_pos (by omega),c3,pA _ (by omega),nW _ l3,bind_some,
     if_pos (by omega),c7,jm _ (by simp; omega) (nG (oV hbs 98) 2),bind_some,if_pos (by omega),c4,pI _ l4 (nG (oV hbs 100) 32),bind_some,if_pos (by omega),c5,GS]
    rfl
  ·rw [decide_eq_false k13,if_neg (by decide),if_neg k13]
   by_cases k2 : kd = 2
   ·rw [if_pos (by simpa using k2),if_pos k2]
    by_cases h : s.length < 67
    ·grind
    ·rw [if_neg (dF (by omega)),if_neg h]
     by_cases h2 : s.length > 67
     ·grind
     ·have c0 : ay s 35 (s.length : Int) = s.drop 35:=DS s 35
      have hw : (s.drop 35).length = 32:=by simp; omega
      have ht : (s.drop 35).take 32 = s.drop 35:=List.take_of_length_le (by omega)
      have c1 : ay s 0 32 = s.take 32:=rJ s 0 32
      have c2 : ay s 32 34 = (s.drop 32).take 2:=rJ s 32 34
      have l1 : (s.take 32).length = 32:=by simp; omega
      rw [if_neg (dF (by omega)),if_neg h2,if_pos (by omega),c0]
      have hn:=BX (fun x4 x6 c2p0 c2p1 c2p2 c2p3 c2p4 c2p5 c2p6 c2p7 c2p8 c2p10 c5p0 c5p1 c5p2 c5p3 c5p4 c5p5 c5p6 c5p7 c5p8 c5p10=>aS.j2 (fun x3 c2=>some (c2,x3,())) x4 x6 c2p0 c2p1 c2p2 c2p3 c2p4 c2p5 c2p6 c2p7 c2p8 c2p10 c5p0 c5p1 c5p2 c5p3 c5p4 c5p5 c5p6 c5p7 c5p8 c5p10) fuel s (s.drop 35) (by omega)
       0 [0,0,0,0] [0,0,0,0] (replicate 32 0) 0 (replicate 32 0) 0 0 [] 0 kd [0,0,0,0] [0,0,0,0] (replicate 32 0) 0 (replicate 32 0) 0 0 [] 0 32 fuel (by rw [au]; omega) (by omega)
      rw [ht] at hn
      refine hn.trans ?_
      unfold aS.j2
      rw [if_pos (by omega),c1,pA _ (by omega),nW _ l1,bind_some,if_pos (by omega),c2,jm _ (by simp; omega) (nG (oV hbs 32) 2),bind_some,if_pos (by omega),GS,bW hbs 34]
      rfl
   ·rw [if_neg (by simpa using k2),if_neg k2]
    by_cases k4 : kd = 4
    ·rw [if_pos (by simpa using k4),if_pos k4]
     have h4:=mS hbs 4
     obtain ⟨N,hN⟩:=Int.eq_ofNat_of_zero_le h4.1
     have e0 : IntKind.i64.wrap (5 + IntKind.i64.wrap (20 * IntKind.i64.wrap (s.getD 4 0))) = ((5 + 20 * N : Nat) : Int):=by
      grind [wrap_i64]
     have eN : (s.getD 4 0).toNat = N:=by rw [hN]; rfl
     rw [e0,eN]
     by_cases h5 : s.length < 5
     ·grind
     ·rw [show decide ((s.length : Int) < 5) = false by rw [decide_eq_false_iff_not]; omega]
      rw [show decide (0 <= (4 : Int) /\ (4 : Int) < (s.length : Int)) = true by rw [decide_eq_true_eq]; omega]
      simp only [Bool.true_or,cond_true,cond_false]
      by_cases h6 : s.length < 5 + 20 * N
      ·grind
      ·rw [if_neg (dF (by omega)),if_neg (show ¬ (s.length < 5 \/ s.length < 5 + 20 * N) by omega),if_pos (by omega)]
       by_cases h7 : s.length > 5 + 20 * N
       ·grind
       ·have c1 : ay s 0 4 = s.take 4:=rJ s 0 4
        have c5 : ay s 5 (s.length : Int) = s.drop 5:=DS s 5
        rw [if_neg (dF (by omega)),if_neg h7,if_pos (by omega),c1,jm _ (by simp; omega) (nG hbs 4),bind_some,if_pos (by omega),c5]
        grind [au,GS,Nb,zZ]
    grind
theorem pG (x : jf) (ha : x.2.1.length = 4 /\ aN ah x.2.1) (hf : x.2.2.1.length = 4 /\ aN ah x.2.2.1) (hs : x.2.2.2.2.2.2.2.2.1.length <= 1000) (hk : x.2.2.2.2.2.2.2.2.2.2.2.1.length <= 1000) :
  ∃ c,cQ.run x = some c /\ aj.run x = some c:=by
 obtain ⟨kd,am,fe,tk,ho,to,tc,de,sy,da,ix,ks,u⟩:=x
 exact Ed kd am fe tk ho to tc de sy da ix ks ha hf (by simp only at hs; omega) (by simp only at hk; omega)
theorem wa : ([0,0,0,0] : List Int).length = 4 /\ aN ah [0,0,0,0]:=⟨rfl,cU.2 ⟨by decide,cU.2 ⟨by decide,cU.2 ⟨by decide,cU.2 ⟨by decide,gP⟩⟩⟩⟩⟩
theorem step (x : jf) (c : Int) (h : cQ.run x = some c) (g : aj.run x = some c) :
  ((cQ.run x).bind fun y=>if (y != 0) = true then some (gF,(3 : Int),()) else some (x,0,())) = zw x:=by
 unfold zw
 rw [h,g,bind_some,bind_some]
 by_cases hc : c = 0
 ·rw [if_neg (by simpa using hc),if_pos hc]
 ·rw [if_pos (by simpa using hc),if_neg hc]
theorem PT (kd : Int) (s : List Int) : (kd,(C4 0 s).2) = C4 kd s:=by simp only [C4]
theorem EP (x : List Int) (hb : gA x) (hl : x.length <= 140737488351232) : jU.run x = if x.length = 0 then some (gF,4,()) else O9 (x.getD 0 0) (x.drop 1):=by
 unfold jU.run jU.top
 by_cases h0 : x.length = 0
 ·grind
 ·rw [if_neg (show ¬ (((x.length : Int) == 0) = true) by rw [beq_iff_eq]; omega),if_neg h0,if_pos (by omega)]
  have e1 : ay x 1 (x.length : Int) = x.drop 1:=DS x 1
  rw [e1,bW hb 0]
  have hk:=mS hb 0
  have hbs:=oV hb 1
  have hls : (x.drop 1).length <= 140737488351232:=by simp; omega
  have hx1 : (0 : Int) <= 1 /\ (1 : Int) <= (x.length : Int) /\ (x.length : Int) <= (x.length : Int):=by omega
  have hx0 : (0 : Int) <= 0 /\ (0 : Int) < (x.length : Int):=by omega
  generalize x.getD 0 0 = kd at *
  generalize x.drop 1 = s at *
  unfold O9
  by_cases k13 : kd = 1 \/ kd = 3
  ·rw [oS kd k13,bind_some,Sum.elim_inl,if_neg (by simp),if_pos hx1,if_pos k13,RP _ s hbs hls,bind_some]
   by_cases h : s.length < 132
   ·grind
   ·rw [if_neg h,if_neg h]
    simp only [show ((0 : Int) != 0) = false from rfl,false_eq_true,if_false]
    rw [if_pos hx0]
    have l1 : (s.take 32).length = 32:=by simp; omega
    have l4 : ((s.drop 100).take 32).length = 32:=by simp; omega
    obtain ⟨c,g1,g2⟩:=pG (C4 kd s) (by simp only [C4]; exact lx _ l1 (nG hbs 32)) (by simp only [C4]; exact lx _ l4 (nG (oV hbs 100) 32)) (by simp [C4]) (by simp [C4])
    grind [PT,step]
  ·rw [if_neg k13]
   by_cases k2 : kd = 2
   ·subst k2
    rw [vz,bind_some,Sum.elim_inr,Sum.elim_inl,if_neg (by simp),if_pos hx1,if_pos rfl,Rd _ s hbs,bind_some]
    by_cases h : s.length < 67
    ·grind
    ·rw [if_neg h,if_neg h]
     by_cases h2 : s.length > 67
     ·grind
     ·rw [if_neg h2,if_neg h2]
      simp only [show ((0 : Int) != 0) = false from rfl,false_eq_true,if_false]
      rw [if_pos hx0]
      grind [Lh,pG,wa,step]
   ·rw [if_neg k2]
    by_cases k4 : kd = 4
    ·subst k4
     rw [vU,bind_some,Sum.elim_inr,Sum.elim_inr,Sum.elim_inl,if_neg (by simp),if_pos hx1,if_pos rfl,QO _ s hbs,bind_some]
     have h4:=mS hbs 4
     by_cases h : s.length < 5 \/ s.length < 5 + 20 * (s.getD 4 0).toNat
     ·grind
     ·rw [if_neg h,if_neg h]
      by_cases h2 : s.length > 5 + 20 * (s.getD 4 0).toNat
      ·grind
      ·rw [if_neg h2,if_neg h2]
       simp only [show ((0 : Int) != 0) = false from rfl,false_eq_true,if_false]
       rw [if_pos hx0]
       grind [Nb,tw,pG,wa,step]
    simp_all [B9]
theorem vC (x : jf) (c : Int) (g : aj.run x = some c) (h : x.2.2.2.2.2.2.2.2.2.2.2.1.length <= 1000) : ∃ r : jf × Int × Unit,zw x = some r /\ r.1.2.2.2.2.2.2.2.2.2.2.2.1.length <= 1000:=by
 unfold zw
 rw [g,bind_some]
 grind
theorem M0 (kd : Int) (s : List Int) (hbs : gA s) : ∃ r : jf × Int × Unit,O9 kd s = some r /\ r.1.2.2.2.2.2.2.2.2.2.2.2.1.length <= 1000:=by
 unfold O9
 by_cases k13 : kd = 1 \/ kd = 3
 ·rw [if_pos k13]
  by_cases h : s.length < 132
  ·simp_all
  ·rw [if_neg h]
   have l1 : (s.take 32).length = 32:=by simp; omega
   have l4 : ((s.drop 100).take 32).length = 32:=by simp; omega
   obtain ⟨c,g1,g2⟩:=pG (C4 kd s) (by simp only [C4]; exact lx _ l1 (nG hbs 32)) (by simp only [C4]; exact lx _ l4 (nG (oV hbs 100) 32)) (by simp [C4]) (by simp [C4])
   grind [C4,vC]
 ·rw [if_neg k13]
  by_cases k2 : kd = 2
  ·rw [if_pos k2]
   by_cases h : s.length < 67
   ·simp_all
   ·rw [if_neg h]
    by_cases h2 : s.length > 67
    ·simp_all
    ·rw [if_neg h2]
     obtain ⟨c,g1,g2⟩:=pG (Lh kd s) (by simp only [Lh]; exact wa) (by simp only [Lh]; exact wa) (by simp [Lh]; omega) (by simp [Lh])
     grind [Lh,vC]
  ·rw [if_neg k2]
   by_cases k4 : kd = 4
   ·rw [if_pos k4]
    have h4:=mS hbs 4
    by_cases h : s.length < 5 \/ s.length < 5 + 20 * (s.getD 4 0).toNat
    ·simp_all
    ·rw [if_neg h]
     by_cases h2 : s.length > 5 + 20 * (s.getD 4 0).toNat
     ·simp_all
     ·rw [if_neg h2]
      have hk : (Nb kd s).2.2.2.2.2.2.2.2.2.2.2.1.length <= 1000:=by simp only [Nb,tw]; omega
      grind [Nb,pG,wa,vC]
   simp_all
def KN {κ : Type} (eq : κ->κ->Bool) : Prop:=∀ a b,eq a b = true ↔ a = b
theorem o8 {n : Nat} {k : IntKind} : KN (ax (.arr n (.int k))):=fun a b=>⟨fun h=>Iu (by simpa [ax] using h),fun h=>by subst h; exact cE _ _ rfl⟩
section
variable {κ ν : Type} {eq : κ->κ->Bool}
theorem uZ (h : KN eq) (a : κ) : ∀ l : List (κ × ν),dZ eq a l < l.length ↔ a ∈ l.map (·.1)
 | []=>by simp [dZ]
 | p :: l=>by
  have ih:=uZ h a l
  cases hb : eq a p.1 with
  | true=>simp only [dZ,hb,List.length_cons,List.map_cons,mem_cons]; simp [(h a p.1).1 hb]
  | false =>
   have hne : a ≠ p.1:=fun e=>by rw [(h a p.1).2 e] at hb; cases hb
   simp only [dZ,hb,List.length_cons,List.map_cons,mem_cons]
   constructor
   ·intro hlt; exact .inr (ih.1 (by omega))
   ·rintro (e | e)
    ·exact absurd e hne
    ·have:=ih.2 e; omega
theorem CL {a b : Nat} : blt a b = true ↔ a < b:=by simp [blt,Nat.ble_eq]; omega
theorem Hz (h : KN eq) {a : κ} {z : ν} {l : List (κ × ν)} (hm : a ∈ l.map (·.1)) : oT eq a z l = l:=by
 have:=(uZ h a l).2 hm
 unfold oT
 rw [CL.2 this]
theorem Eo (h : KN eq) {a : κ} {z : ν} {l : List (κ × ν)} (hm : a ∉ l.map (·.1)) : oT eq a z l = l ++ [(a,z)]:=by
 have : ¬ dZ eq a l < l.length:=fun hlt=>hm ((uZ h a l).1 hlt)
 unfold oT
 cases hb : blt (dZ eq a l) l.length with
 | true=>exact absurd (CL.1 hb) this
 | false=>rfl
theorem JL (h : KN eq) (a : κ) (z : ν) (l : List (κ × ν)) : dZ eq a l < (oT eq a z l).length:=by
 by_cases hm : a ∈ l.map (·.1)
 ·simp_all [Hz,uZ]
 grind [Eo,ui]
theorem Cd : ∀ (l : List (κ × ν)) (i : Nat) (v : ν),(qE l i v).map (·.1) = l.map (·.1)
 | [],_,_=>rfl
 | _ :: _,0,_=>rfl
 | p :: l,i + 1,v=>by simp [qE,Cd l i v]
end
structure Seen {κ : Type} (K P : List κ) : Prop where
 nd : K.Nodup
 mem : ∀ a,a ∈ K ↔ a ∈ P
 le : K.length <= P.length
 eq : K.length = P.length ↔ P.Nodup
theorem Seen.nil {κ : Type} : Seen ([] : List κ) []:=⟨List.nodup_nil,by simp,by simp,by simp⟩
theorem Seen.FM {κ : Type} {K P : List κ} (h : Seen K P) {a : κ} (ha : a ∈ K) : Seen K (P ++ [a]):=by
 have hP:=(h.mem a).1 ha
 refine ⟨h.nd,fun b=>?_,by have:=h.le; simp; omega,?_⟩
 ·rw [h.mem,List.mem_append,List.mem_singleton]
  grind
 ·constructor
  ·intro e; have:=h.le; simp at e; omega
  grind
theorem Seen.new {κ : Type} {K P : List κ} (h : Seen K P) {a : κ} (ha : a ∉ K) : Seen (K ++ [a]) (P ++ [a]):=by
 have hP : a ∉ P:=fun hp=>ha ((h.mem a).2 hp)
 have nd : ∀ {L : List κ},a ∉ L->((L ++ [a]).Nodup ↔ L.Nodup):=fun {L} hL=>by
  grind
 refine ⟨(nd ha).2 h.nd,fun b=>by simp [h.mem b],by have:=h.le; simp; omega,?_⟩
 rw [nd hP,<- h.eq]
 simp
theorem Seen.lt {κ : Type} {K P : List κ} (h : Seen K P) : K.length < P.length ↔ ¬ P.Nodup:=by
 have:=h.le
 rw [<- h.eq]; omega
theorem keys_inner {α : Type} (Rt : Int->Option α) (Xt : List (List Int)->List (List Int)->Int->Int->Option α) (k : Nat) (x0 x15 : List (List Int)) (x16 x17 : Int) (c : List Int) (l : List (List Int)) (hl : l.length <= 1000) :
  ∀ (R P : List (List Int)) (n : Nat),R.length < n->l = P ++ R ->
  dK.l1 k Rt Xt n x0 x15 x16 x17 l (l.length : Int) (P.length : Int) c = if c ∈ R then Rt 8 else Xt x0 x15 x16 x17
 | R,P,0,h,_=>by omega
 | [],P,n + 1,h,hc=>by
  simp_all [dK.l1,dK.me]
 | a :: R,P,n + 1,h,hc=>by
  have hlen : l.length = P.length + (R.length + 1):=by rw [hc]; simp
  simp only [dK.l1,dK.me]
  have hg : l.getD P.length (replicate 20 0) = a:=by rw [hc]; exact ef _ _ _ _
  rw [if_pos (dT (by omega)),if_pos (by omega),aG (by omega),ag,hg]
  have ih:=keys_inner Rt Xt k x0 x15 x16 x17 c l hl R (P ++ [a]) n (by simpa using h) (by simp [hc])
  rw [List.length_append] at ih
  by_cases he : c = a
  ·rw [if_pos ((o8 (n:=20) (k:=.u8) c a).2 he),if_pos (by simp [he])]
  ·rw [if_neg (fun h=>he ((o8 (n:=20) (k:=.u8) c a).1 h))]
   grind
theorem zH {α : Type} (Rt : Int->Option α) (Xt : Option α) (k : Nat) (hk : 1000 < k) (l : List (List Int)) (hl : l.length <= 1000) :
  ∀ (R P : List (List Int)) (n : Nat),R.length < n->l = P ++ R->P.Nodup ->
  dK.l0 k Rt Xt n l l (l.length : Int) (P.length : Int) = if l.Nodup then Xt else Rt 8
 | R,P,0,h,_,_=>by omega
 | [],P,n + 1,h,hc,hn=>by
  simp_all [dK.l0,dK.bq]
 | a :: R,P,n + 1,h,hc,hn=>by
  have hlen : l.length = P.length + (R.length + 1):=by rw [hc]; simp
  simp only [dK.l0,dK.bq]
  have hg : l.getD P.length (replicate 20 0) = a:=by rw [hc]; exact ef _ _ _ _
  have hcut : ay l 0 (P.length : Int) = P:=by rw [hc]; exact zg _ _
  rw [if_pos (dT (by omega)),if_pos (by omega),if_pos (by omega),ag,hg,hcut]
  have hin:=keys_inner Rt (fun x0 x15 x16 x17=>dK.j0 (dK.l0 k Rt Xt n) x0 x15 x16 x17) k l l (l.length : Int) (P.length : Int) a P (by omega) P [] k (by omega) rfl
  refine Eq.trans hin ?_
  by_cases hm : a ∈ P
  ·grind
  ·rw [if_neg hm]
   unfold dK.j0
   rw [aG (by omega)]
   have ih:=zH Rt Xt k hk l hl R (P ++ [a]) n (by simpa using h) (by simp [hc]) (by
    rw [List.nodup_append]
    refine ⟨hn,by simp,fun x hx y hy e=>?_⟩
    simp at hy; subst hy; subst e; exact hm hx)
   grind
theorem w8 {α : Type} (Xt : List (List Int)->List (List Int × Int)->Option α) (k : Nat) (l : List (List Int)) (hl : l.length <= 1000) :
  ∀ (R P : List (List Int)) (n : Nat) (c : List (List Int × Int)),R.length < n->l = P ++ R->Seen (c.map (·.1)) P ->
  ∃ c',Seen (c'.map (·.1)) l /\ bE.l0 k Xt n l l (l.length : Int) (P.length : Int) c = Xt l c'
 | R,P,0,_,h,_,_=>by omega
 | [],P,n + 1,c,h,hc,hs=>by
  simp only [bE.l0,bE.bq]
  grind
 | a :: R,P,n + 1,c,h,hc,hs=>by
  have hlen : l.length = P.length + (R.length + 1):=by rw [hc]; simp
  simp only [bE.l0,bE.bq]
  have hg : l.getD P.length (replicate 20 0) = a:=by rw [hc]; exact ef _ _ _ _
  have hcl : c.length <= P.length:=by have:=hs.le; simpa using this
  rw [if_pos (dT (by omega)),if_pos (by omega),aG (by omega),ag,hg]
  have hix:=JL (o8 (n:=20) (k:=.u8)) a (0 : Int) c
  have hix' : dZ (ax (.arr 20 (.int .u8))) a c < (oT (ax (.arr 20 (.int .u8))) a (0 : Int) c).length:=hix
  rw [if_pos (CL.2 (by omega)),if_pos ⟨by omega,Int.ofNat_lt.2 hix'⟩]
  have key : Seen ((qE (oT (ax (.arr 20 (.int .u8))) a (0 : Int) c) (toNat ((dZ (ax (.arr 20 (.int .u8))) a c : Nat) : Int)) (IntKind.i64.wrap (getM (ax (.arr 20 (.int .u8))) a (0 : Int) c + 1))).map (·.1)) (P ++ [a]):=by
   rw [Cd]
   by_cases hm : a ∈ c.map (·.1)
   ·rw [Hz (o8 (n:=20) (k:=.u8)) hm]; exact hs.FM hm
   ·rw [Eo (o8 (n:=20) (k:=.u8)) hm,List.map_append]; exact hs.new hm
  have ih:=w8 Xt k l hl R (P ++ [a]) n _ (by simpa using h) (by simp [hc]) key
  grind
def wU (l : List (List Int)) : Int:=if l.length < 1 \/ 19 < l.length then 1 else if l.Nodup then 0 else 8
theorem EU (l : List (List Int)) : dK.run l = some (wU l):=by
 unfold dK.run dK.top wU
 by_cases h : l.length < 1 \/ 19 < l.length
 ·grind
 ·rw [if_neg h,if_neg]
  ·have:=zH (fun x2 : Int=>some x2) (dK.j1 fun x2 : Int=>some x2) fuel (by rw [au]; omega) l (by omega) l [] fuel (by rw [au]; omega) rfl List.nodup_nil
   refine Eq.trans this ?_
   grind [dK.j1]
  grind
theorem Bt (l : List (List Int)) : bE.run l = some (wU l):=by
 unfold bE.run bE.top wU
 by_cases h : l.length < 1 \/ 19 < l.length
 ·grind
 ·rw [if_neg h,if_neg]
  ·obtain ⟨c',h1,h2⟩:=w8 (fun x0 c14=>bE.j0 (fun x2 : Int=>some x2) x0 c14) fuel l (by omega) l [] fuel [] (by rw [au]; omega) rfl Seen.nil
   refine Eq.trans h2 ?_
   unfold bE.j0
   have hle:=h1.le
   have hlt:=h1.lt
   simp only [List.length_map] at hle hlt
   rw [if_pos (Nat.ble_eq_true_of_le (by omega))]
   grind
  grind
theorem EM {l : List (List Int)} (h : wU l = 0) : 1 <= l.length /\ l.length <= 19:=by
 grind [wU]
abbrev iX : Type:=Int × List (List Int) × Int × Unit
def z7 (n i : Nat) (z : Int) (s : iX) : Bool:=decide (s.1 ≠ (i : Int) \/ (if i + 1 = n then s.2.2.1 ≠ 0 else (s.2.2.1 < 1 \/ s.2.2.1 < z \/ 1099511627800 < s.2.2.1)))
theorem MB {p : Prop} [Decidable p] {b : Bool} (h : (b = true) ↔ p) : b = decide p:=by
 grind
theorem Cs (l : List iX) (hl : l.length <= 1000) : ∀ (R P : List iX) (n : Nat) (z : Int) (k : Nat),0 <= z->R.length < n->l = P ++ R ->
  ∃ e : Int,eS.l0 k (fun x2 : Int=>some x2) (eS.j0 fun x2 : Int=>some x2) n l z l (l.length : Int) (P.length : Int) = some e /\
   bz.l0 k (fun x2 : Int=>some x2) (bz.j0 fun x2 : Int=>some x2) n l z l (l.length : Int) (P.length : Int) = some e /\ (e = 0->∀ s ∈ R,s.2.1.length <= 19)
 | R,P,0,_,_,_,h,_=>by omega
 | [],P,n + 1,z,k,hz,h,hc=>by
  have : l.length = P.length:=by rw [hc]; simp
  refine ⟨0,?_,?_,fun _ s hs=>by cases hs⟩
  ·simp only [eS.l0,eS.bq]
   rw [if_neg (dF (by omega))]; rfl
  ·simp only [bz.l0,bz.bq]
   rw [if_neg (dF (by omega))]; rfl
 | a :: R,P,n + 1,z,k,hz,h,hc=>by
  have hlen : l.length = P.length + (R.length + 1):=by rw [hc]; simp
  have hg : l.getD P.length (0,[],0,()) = a:=by rw [hc]; exact ef _ _ _ _
  simp only [eS.l0,eS.bq,bz.l0,bz.bq]
  have d1 : decide ((P.length : Int) < (l.length : Int)) = true:=by rw [decide_eq_true_eq]; omega
  have d2 : 0 <= (P.length : Int) /\ (P.length : Int) < (l.length : Int):=by omega
  have d3 : IntKind.i64.wrap ((P.length : Int) + 1) = ((P.length + 1 : Nat) : Int):=aG (by omega)
  simp only [d1,if_true,if_pos d2,d3,ag,hg,EU,Bt,bind_some]
  by_cases hk : wU a.2.1 = 0
  ·simp only [hk,if_neg (show ¬ (((0 : Int) != 0) = true) by decide)]
   have c1 : (cond (cond (cond (a.1 != (P.length : Int)) true (not (ax .bool ((P.length : Int) == (IntKind.i64.wrap ((l.length : Int) - 1))) (a.2.2.1 == 0)))) true (cond (a.2.2.1 != 0) (decide (a.2.2.1 < z)) false)) true (decide (a.2.2.1 > 1099511627800))) = z7 l.length P.length z a:=by
    rw [wrap_i64 (by omega) (by omega)]
    unfold z7
    refine MB ?_
    simp only [cA,bS,or_eq_true,Bool.and_eq_true,bne_iff_ne,ne_eq,decide_eq_true_eq,ax,Bool.not_eq_true',beq_eq_false_iff_ne]
    grind
   have c2 : (cond (cond (a.1 != (P.length : Int)) true (cond ((((P.length + 1 : Nat) : Int)) == (l.length : Int)) (a.2.2.1 != 0) false)) true (cond (not ((((P.length + 1 : Nat) : Int)) == (l.length : Int))) (cond (cond (decide (a.2.2.1 < 1)) true (decide (a.2.2.1 < z))) true (decide (a.2.2.1 > 1099511627800))) false)) = z7 l.length P.length z a:=by
    unfold z7
    grind
   rw [c1,c2]
   by_cases hb : z7 l.length P.length z a = true
   ·simp_all
   ·rw [if_neg hb,if_neg hb]
    have hz' : 0 <= a.2.2.1:=by
     grind
    obtain ⟨e,e1,e2,e3⟩:=Cs l hl R (P ++ [a]) n a.2.2.1 k hz' (by simpa using h) (by simp [hc])
    grind [EM]
  simp_all
theorem vQ (l : List iX) : ∃ e : Int,eS.run l = some e /\ bz.run l = some e /\ (e = 0->1 <= l.length /\ l.length <= 8 /\ ∀ s ∈ l,s.2.1.length <= 19):=by
 unfold eS.run eS.top bz.run bz.top
 by_cases h : l.length < 1 \/ 8 < l.length
 ·rw [if_pos (by rw [cA,or_eq_true,decide_eq_true_eq,decide_eq_true_eq]; omega),if_pos (by rw [cA,or_eq_true,decide_eq_true_eq,beq_iff_eq]; omega)]
  grind
 ·rw [if_neg (by rw [cA,or_eq_true,decide_eq_true_eq,decide_eq_true_eq]; omega),if_neg (by rw [cA,or_eq_true,decide_eq_true_eq,beq_iff_eq]; omega)]
  obtain ⟨e,e1,e2,e3⟩:=Cs l (by omega) l [] fuel 0 fuel (Int.le_refl _) (by rw [au]; omega) rfl
  grind
theorem zF {α : Type} (Xt : List iX->Option α) (k : Nat) (l : List iX) (hl : l.length <= 1000) (hs : ∀ s ∈ l,s.2.1.length <= 1000) : ∀ (R P : List iX) (n : Nat),R.length < n->l = P ++ R ->
  gJ.l0 k Xt n l (l.length : Int) (P.length : Int) P = Xt l
 | R,P,0,h,_=>by omega
 | [],P,n + 1,h,hc=>by
  simp_all [gJ.l0,gJ.bq]
 | a :: R,P,n + 1,h,hc=>by
  have hlen : l.length = P.length + (R.length + 1):=by rw [hc]; simp
  have hg : l.getD P.length (0,[],0,()) = a:=by rw [hc]; exact ef _ _ _ _
  have ha : a.2.1.length <= 1000:=hs a (by rw [hc]; simp)
  simp only [gJ.l0,gJ.bq]
  rw [if_pos (dT (by omega)),if_pos (by omega),aG (by omega),ag,hg,if_pos (aU (by omega) (by omega)),if_pos (aU (by omega) (by omega))]
  have ih:=zF Xt k l hl hs R (P ++ [a]) n (by simpa using h) (by simp [hc])
  grind
theorem IV (l : List iX) (hl : l.length <= 1000) (hs : ∀ s ∈ l,s.2.1.length <= 1000) : gJ.run l = some l:=by
 unfold gJ.run gJ.top
 exact zF (fun c20=>gJ.j0 (fun c20=>some c20) c20) fuel l hl hs l [] fuel (by rw [au]; omega) rfl
theorem tj {α : Type} (Rt : Bool->Option α) (Xt : Option α) (k : Nat) (l : List (List Int)) (hl : l.length <= 4000000000) : ∀ (R P : List (List Int)) (n : Nat),R.length < n->l = P ++ R ->
  ct.l0 k Rt Xt n l l (l.length : Int) (P.length : Int) = Xt
 | R,P,0,h,_=>by omega
 | [],P,n + 1,h,hc=>by
  simp_all [ct.l0,ct.bq]
 | a :: R,P,n + 1,h,hc=>by
  have hlen : l.length = P.length + (R.length + 1):=by rw [hc]; simp
  simp only [ct.l0,ct.bq]
  rw [if_pos (dT (by omega)),if_pos (by omega),if_pos (by omega),aG (by omega),cE _ _ rfl,if_neg (by simp)]
  have ih:=tj Rt Xt k l hl R (P ++ [a]) n (by simpa using h) (by simp [hc])
  grind
theorem Ar (l : List (List Int)) (hl : l.length <= 4000000000) : ct.run l l = some true:=by
 unfold ct.run ct.top
 rw [if_neg (by simp)]
 exact tj (fun x4=>some x4) (ct.j0 fun x4=>some x4) fuel l hl l [] fuel (by rw [au]; omega) rfl
theorem CS (s : iX) (hs : s.2.1.length <= 4000000000) : fT.run s s = some true:=by
 simp_all [Ar,fT.run,fT.top]
theorem sY {α : Type} (Rt : Bool->Option α) (Xt : Option α) (k : Nat) (l : List iX) (hl : l.length <= 4000000000) (hs : ∀ s ∈ l,s.2.1.length <= 4000000000) : ∀ (R P : List iX) (n : Nat),R.length < n->l = P ++ R ->
  ck.l0 k Rt Xt n l l (l.length : Int) (P.length : Int) = Xt
 | R,P,0,h,_=>by omega
 | [],P,n + 1,h,hc=>by
  simp_all [ck.l0,ck.bq]
 | a :: R,P,n + 1,h,hc=>by
  have hlen : l.length = P.length + (R.length + 1):=by rw [hc]; simp
  have hg : l.getD P.length (0,[],0,()) = a:=by rw [hc]; exact ef _ _ _ _
  simp only [ck.l0,ck.bq]
  rw [if_pos (dT (by omega)),if_pos (by omega),if_pos (by omega),aG (by omega),ag,hg,CS a (hs a (by rw [hc]; simp)),bind_some,if_neg (by simp)]
  have ih:=sY Rt Xt k l hl hs R (P ++ [a]) n (by simpa using h) (by simp [hc])
  grind
theorem Ak (l : List iX) (hl : l.length <= 4000000000) (hs : ∀ s ∈ l,s.2.1.length <= 4000000000) : ck.run l l = some true:=by
 unfold ck.run ck.top
 rw [if_neg (by simp)]
 exact sY (fun x4=>some x4) (ck.j0 fun x4=>some x4) fuel l hl hs l [] fuel (by rw [au]; omega) rfl
abbrev P2 : Ty:=.sl (.arr 20 (.int .u8))
abbrev RS : Ty:=.pair (.int .i64) (.pair P2 (.pair (.int .i64) .unit))
abbrev Qm : Ty:=.sl RS
theorem xr {α : Type} (Xt : List iX->List iX->Option α) (k : Nat) (l : List iX) (hl : l.length <= 1000) (hs : ∀ s ∈ l,s.2.1.length <= 1000) : ∀ (R P : List iX) (n : Nat),R.length < n->l = P ++ R ->
  eI.l0 k Xt n (l.length : Int) (P.length : Int) l P = Xt l l
 | R,P,0,h,_=>by omega
 | [],P,n + 1,h,hc=>by
  simp_all [eI.l0,eI.bq]
 | a :: R,P,n + 1,h,hc=>by
  have hlen : l.length = P.length + (R.length + 1):=by rw [hc]; simp
  have hg : l.getD P.length (0,[],0,()) = a:=by rw [hc]; exact ef _ _ _ _
  have ha : a.2.1.length <= 1000:=hs a (by rw [hc]; simp)
  simp only [eI.l0,eI.bq]
  rw [if_pos (dT (by omega)),if_pos (by omega),aG (by omega),ag,hg,if_pos (by rw [aU (by omega) (by omega)]; rfl),if_pos (aU (by omega) (by omega))]
  have ih:=xr Xt k l hl hs R (P ++ [a]) n (by simpa using h) (by simp [hc])
  grind
theorem F5 (l : List iX) (hl : l.length <= 1000) (hs : ∀ s ∈ l,s.2.1.length <= 1000) : eI.run l = some (l,l,()):=by
 unfold eI.run eI.top
 exact xr (fun c0 c21=>eI.j0 (fun c0 c21=>some (c0,c21,())) c0 c21) fuel l hl hs l [] fuel (by rw [au]; omega) rfl
theorem J3 (l : List iX) (ix now : Int) : ∃ r : iX × Int × Unit,nc.run l ix now = some r /\ fV.run l ix now = some r /\ r.1.2.1.length <= 19:=by
 unfold nc.run nc.top fV.run fV.top
 obtain ⟨e,e1,e2,e3⟩:=vQ l
 rw [e1,e2]
 simp only [bind_some]
 by_cases he : e = 0
 ·obtain ⟨h1,h2,h3⟩:=e3 he
  simp only [he,show ((0 : Int) != 0) = false from rfl,false_eq_true,if_false]
  by_cases hi : ix < 0 \/ (List.length l : Int) <= ix
  ·simp_all
  ·have : ¬ (cond (decide (ix < 0)) true (decide (ix >= (List.length l : Int)))) = true:=by rw [cA,or_eq_true,decide_eq_true_eq,decide_eq_true_eq]; omega
   obtain ⟨i,hi'⟩ : ∃ i : Nat,ix = (i : Int):=⟨toNat ix,by omega⟩
   rw [hi'] at this hi ⊢
   have hil : i < List.length l:=by omega
   simp only [if_neg this]
   rw [aG (by omega),if_pos (by omega),if_pos (by omega)]
   have hcut : ay l (i : Int) ((i + 1 : Nat) : Int) = [l.getD i (0,[],0,())]:=by
    unfold ay
    rw [show toNat (i : Int) = i from rfl,show toNat ((i + 1 : Nat) : Int) = i + 1 from rfl,show i + 1 - i = 1 by omega,List.drop_eq_getElem_cons hil,getD_eq hil]; rfl
   have hm : l.getD i (0,[],0,()) ∈ l:=by rw [getD_eq hil]; exact List.getElem_mem hil
   have hk:=h3 _ hm
   rw [hcut,IV _ (by simp) (fun s hs=>by simp only [List.mem_singleton] at hs; subst hs; omega)]
   simp only [bind_some,ag]
   rw [if_pos (by simp)]
   have hd : (decide (0 <= (i : Int) /\ (i : Int) < (List.length l : Int)) || !(((l.getD i (0,[],0,())).2.2.1 != 0) == true)) = true:=by
    grind
   rw [hd,cond_true]
   have hz : List.getD [l.getD i (0,[],0,())] 0 (0,[],0,()) = l.getD i (0,[],0,()):=rfl
   rw [hz]
   have hge : decide (now >= (l.getD i (0,[],0,())).2.2.1) = decide ((l.getD i (0,[],0,())).2.2.1 <= now):=rfl
   rw [hge]
   by_cases hc : (cond ((l.getD i (0,[],0,())).2.2.1 != 0) (decide ((l.getD i (0,[],0,())).2.2.1 <= now)) false) = true
   ·simp_all
   simp_all [if_neg]
 simp_all
theorem AO {α : Type} (k : Nat) (Xt : Int->List Int->Option α) (a b : List Int) (ha : aN bM a) (hb : aN bM b) (M : Nat) (hM : M = max a.length b.length) (hs : M <= 1000000) : ∀ (n i : Nat) (c : Int) (acc : List Int),(0 <= c /\ c <= 1)->i <= M->M - i < n->acc.length <= i ->
  ∃ r c',aH.l0 k Xt n a b c (i : Int) acc = Xt c' (acc ++ r) /\ (0 <= c' /\ c' <= 1) /\ r.length = M - i /\ aN bM r /\ val bM r + bM ^ (M - i) * c' = val bM (a.drop i) + val bM (b.drop i) + c
 | 0,i,c,acc,_,_,h,_=>by omega
 | n + 1,i,c,acc,hc,hi,h,hacc=>by
  by_cases hlt : i < M
  ·have da:=cO eP ha i
   have db:=cO eP hb i
   simp only [bM] at da db
   obtain ⟨r,c',e1,e2,e3,e4,e5⟩:=AO k Xt a b ha hb M hM hs n (i + 1) ((c + a.getD i 0 + b.getD i 0) / 4294967296) (acc ++ [(c + a.getD i 0 + b.getD i 0) % 4294967296]) (by omega) (by omega) (by omega) (by simp; omega)
   have hj : aH.l0 k Xt (n + 1) a b c (i : Int) acc = aH.j1 (aH.l0 k Xt n) a b (i : Int) (c + a.getD i 0 + b.getD i 0) acc:=by
    simp only [aH.l0,aH.bq,aH.j0]
    rw [cA,if_pos (by simp; omega)]
    rw [ag,aV (x:=c + a.getD i 0) (by omega) (by omega),aV (x:=c + a.getD i 0 + b.getD i 0) (by omega) (by omega),aV (x:=c + b.getD i 0) (by omega) (by omega)]
    grind
   refine ⟨(c + a.getD i 0 + b.getD i 0) % 4294967296 :: r,c',?_,e2,by simp; omega,cU.2 ⟨by simp only [bM]; omega,e4⟩,?_⟩
   ·rw [hj]
    unfold aH.j1
    rw [if_pos (aU (by omega) (by decide)),iE (by omega),iY (by omega),aV (by omega) (by omega),aG (by omega),e1]
    simp
   ·rw [show M - i = (M - (i + 1)) + 1 by omega,Int.pow_succ,Int.mul_comm (bM ^ _) bM,Int.mul_assoc]
    simp only [val]
    rw [gR bM a i,gR bM b i]
    grind
  ·have hiM : i = M:=by omega
   refine ⟨[],c,?_,hc,by simp; omega,gP,?_⟩
   ·simp only [aH.l0,aH.bq]
    grind
   grind [drop_eq_nil_of_le,val]
theorem mK {a b : List Int} (ha : aN bM a) (hb : aN bM b) (h1 : a.length <= 1000000) (h2 : b.length <= 1000000) :
  ∃ r,aH.run a b = some r /\ r.length = max a.length b.length + 1 /\ aN bM r /\ val bM r = val bM a + val bM b:=by
 unfold aH.run aH.top
 have h0:=fun N (hN : max a.length b.length < N)=>AO N (fun (x6 : Int) (c46 : List Int)=>aH.j2 (fun (c46 : List Int)=>some c46) x6 c46) a b ha hb _ rfl (by omega) N 0 0 [] (by omega) (by omega) (by omega) (by simp)
 obtain ⟨r,c',e1,e2,e3,e4,e5⟩:=h0 fuel (by rw [au]; omega)
 refine ⟨r ++ [c'],?_,by simp; omega,mo e4 (cU.2 ⟨by simp only [bM]; omega,gP⟩),?_⟩
 ·refine Eq.trans e1 ?_
  unfold aH.j2
  rw [List.nil_append,if_pos (aU (by omega) (by decide))]
 ·rw [gM,e3]
  simp only [val,mul_zero,add_zero,drop_zero] at e5 ⊢
  exact e5
theorem B0 {α : Type} (k : Nat) (Xt : List Int->Option α) (b : List Int) (hb : aN bM b) (L : Nat) (hL : L <= 1000000) (hbl : b.length <= L) : ∀ (n i : Nat) (br : Int) (c : List Int),(0 <= br /\ br <= 1)->c.length = L->aN bM c->i <= L->L - i < n ->
  ∃ r b',an.l0 k Xt n b br (L : Int) (i : Int) c = Xt (c.take i ++ r) /\ (0 <= b' /\ b' <= 1) /\ r.length = L - i /\ aN bM r /\ val bM r = val bM (c.drop i) - val bM (b.drop i) - br + bM ^ (L - i) * b'
 | 0,i,br,c,_,_,_,_,h=>by omega
 | n + 1,i,br,c,hbr,hcl,hc,hi,h=>by
  by_cases hlt : i < L
  ·have dc:=cO eP hc i
   have db:=cO eP hb i
   simp only [bM] at dc db
   have hic : i < c.length:=by omega
   have hj : an.l0 k Xt (n + 1) b br (L : Int) (i : Int) c = an.j0 (an.l0 k Xt n) b (i : Int) (br + b.getD i 0) (L : Int) (i : Int) c:=by
    simp only [an.l0,an.bq]
    rw [if_pos (by simp; omega)]
    by_cases h1 : i < b.length
    ·rw [if_pos (by simp; omega),if_pos (by omega),ag,aV (by omega) (by omega)]
    grind
   have key : ∃ v br',an.j0 (an.l0 k Xt n) b (i : Int) (br + b.getD i 0) (L : Int) (i : Int) c = an.l0 k Xt n b br' (L : Int) ((i + 1 : Nat) : Int) (c.set i v) /\ (0 <= br' /\ br' <= 1) /\ (0 <= v /\ v < 4294967296) /\ v = c.getD i 0 - (br + b.getD i 0) + 4294967296 * br':=by
    unfold an.j0
    rw [if_pos (by omega),ag]
    by_cases hcx : c.getD i 0 < br + b.getD i 0
    ·rw [if_pos (by simpa using hcx),if_pos (by omega),if_pos (by omega)]
     unfold an.j1
     have hg : (c.set i (IntKind.u64.wrap (c.getD i 0 + 4294967296))).getD (i : Int).toNat 0 = c.getD i 0 + 4294967296:=by
      grind [aV]
     rw [if_pos (by simp; omega),if_pos (by simp; omega),hg,aG (by omega),ag,List.set_set,aV (x:=c.getD i 0 + 4294967296 - _) (by omega) (by omega)]
     grind
    ·rw [if_neg (by simpa using hcx)]
     unfold an.j1
     rw [if_pos (by omega),if_pos (by omega),aG (by omega),ag,aV (x:=c.getD i 0 - _) (by omega) (by omega)]
     grind
   obtain ⟨v,br',k1,k2,k3,k4⟩:=key
   have hset : aN bM (c.set i v):=fun d hd=>by
    rcases List.mem_or_eq_of_mem_set hd with hd | rfl
    ·exact hc d hd
    omega
   obtain ⟨r,b',e1,e2,e3,e4,e5⟩:=B0 k Xt b hb L hL hbl n (i + 1) br' (c.set i v) k2 (by simpa using hcl) hset (by omega) (by omega)
   have ht : (c.set i v).take (i + 1) = c.take i ++ [v]:=by
    grind [List.take_succ_eq_append_getElem,List.take_set_of_le]
   have hdp : (c.set i v).drop (i + 1) = c.drop (i + 1):=List.drop_set_of_lt (by omega)
   refine ⟨v :: r,b',?_,e2,by simp; omega,cU.2 ⟨by simp only [bM]; omega,e4⟩,?_⟩
   ·grind
   ·rw [hdp] at e5
    rw [show L - i = (L - (i + 1)) + 1 by omega,Int.pow_succ,Int.mul_comm (bM ^ _) bM,Int.mul_assoc]
    simp only [val]
    rw [gR bM c i,gR bM b i]
    grind
  ·refine ⟨[],br,?_,hbr,by simp; omega,gP,?_⟩
   ·simp_all [an.l0,an.bq,if_neg,List.take_of_length_le]
   grind [drop_eq_nil_of_le,val]
theorem zG {a b : List Int} (ha : aN bM a) (hb : aN bM b) (h1 : a.length <= 1000000) (h2 : b.length <= a.length) (hle : val bM b <= val bM a) :
  ∃ r,an.run a b = some r /\ r.length = a.length /\ aN bM r /\ val bM r = val bM a - val bM b:=by
 unfold an.run an.top an.j2
 rw [if_pos (by rw [aU (by omega) (by decide)]; rfl)]
 have h0:=fun N (hN : a.length < N)=>B0 N (fun (c11 : List Int)=>some c11) b hb a.length h1 h2 N 0 0 a (by omega) rfl ha (by omega) (by omega)
 obtain ⟨r,b',e1,e2,e3,e4,e5⟩:=h0 fuel (by rw [au]; omega)
 refine ⟨r,?_,by omega,e4,?_⟩
 ·refine Eq.trans e1 ?_
  simp
 ·have hbd:=dL eP e4
  rw [e3] at hbd
  rw [drop_zero,drop_zero,Int.sub_zero] at e5
  generalize bM ^ (a.length - 0) = P at e5 hbd
  have : b' = 0 \/ b' = 1:=by omega
  rcases this with rfl | rfl
  ·rw [mul_zero] at e5; omega
  ·rw [Int.mul_one] at e5; omega
theorem Rp {x : Int} (h : 0 <= x /\ x < 4294967296) : eR .u64 x 32 = x * 4294967296:=by
 unfold eR
 have h1 : min (32 : Int).toNat IntKind.u64.bits = 32:=rfl
 grind [aV]
theorem Tf {x : Int} (h : 0 <= x /\ x < 4294967296) : eR .u64 x 0 = x:=by
 unfold eR
 have h1 : min (0 : Int).toNat IntKind.u64.bits = 0:=rfl
 rw [h1,Int.pow_zero,Int.mul_one]
 grind [aV]
theorem SY {x : Int} (h : 0 <= x /\ x < 4294967296) : jq .u64 0 x = x:=by
 obtain ⟨X,rfl⟩ : ∃ X : Nat,x = (X : Int):=⟨x.toNat,by omega⟩
 have:=rU (X:=0) (Y:=X) (by decide) (by omega)
 simpa using this
theorem RT {x y : Int} (h : 0 <= x /\ x < 4294967296) (g : 0 <= y /\ y < 4294967296) : jq .u64 x (y * 4294967296) = x + y * 4294967296:=by
 obtain ⟨X,rfl⟩ : ∃ X : Nat,x = (X : Int):=⟨x.toNat,by omega⟩
 obtain ⟨Y,rfl⟩ : ∃ Y : Nat,y = (Y : Int):=⟨y.toNat,by omega⟩
 have e : ((Y : Int) * 4294967296) = ((Y * 4294967296 : Nat) : Int):=by simp
 rw [e,rU (by omega) (by omega)]
 have h2 : X ||| Y * 4294967296 = X + Y * 4294967296:=by
  have:=Nat.two_pow_add_eq_or_of_lt (i:=32) (b:=X) (by omega) Y
  grind
 rw [h2]; simp
def kn (l : List Int) (i : Nat) : List Int :=
 let g:=fun m : Nat=>if m < i then l.getD m 0 else 0
 [g 0 + g 1 * 4294967296,g 2 + g 3 * 4294967296,g 4 + g 5 * 4294967296,g 6 + g 7 * 4294967296]
theorem vW {α : Type} (k : Nat) (Xt : Bool->List Int->List Int->Option α) (l : List Int) (hd : aN bM l) (hl : l.length <= 1000000) (c2 : List Int) : ∀ (n i : Nat) (f : Bool),i <= l.length->l.length - i < n ->
  ∃ f',aQ.l0 k Xt n f l (l.length : Int) (i : Int) c2 (kn l i) = Xt f' c2 (kn l (max i (min l.length 8))) /\ (f' = true ↔ f = true \/ val bM (l.drop (max i 8)) ≠ 0)
 | 0,i,f,_,h=>by omega
 | n + 1,i,f,hi,h=>by
  by_cases hlt : i < l.length
  ·have dg:=cO eP hd i
   simp only [bM] at dg
   by_cases h8 : 8 <= i
   ·obtain ⟨f',e1,e2⟩:=vW k Xt l hd hl c2 n (i + 1) (cond f true (l.getD i 0 != 0)) (by omega) (by omega)
    have hw : kn l (i + 1) = kn l i:=by
     grind [kn]
    have hw2 : kn l (max (i + 1) (min l.length 8)) = kn l (max i (min l.length 8)):=by
     grind
    refine ⟨f',?_,?_⟩
    ·simp only [aQ.l0,aQ.bq,aQ.j0]
     rw [if_pos (by simp; omega),if_pos (by omega),if_pos (by simp; omega),ag,aG (by omega),<- hw,e1,hw2]
    ·rw [e2,show max (i + 1) 8 = i + 1 by omega,show max i 8 = i by omega,gR bM l i]
     grind
   ·obtain ⟨f',e1,e2⟩:=vW k Xt l hd hl c2 n (i + 1) f (by omega) (by omega)
    refine ⟨f',?_,?_⟩
    ·rw [show max i (min l.length 8) = max (i + 1) (min l.length 8) by omega,<- e1]
     simp only [aQ.l0,aQ.bq,aQ.j0]
     have et : Int.tdiv (i : Int) 2 = ((i / 2 : Nat) : Int):=by rw [iE (by omega)]; rfl
     have em : Int.tmod (i : Int) 2 = ((i % 2 : Nat) : Int):=lB i 2
     rw [if_pos (by simp; omega),if_pos (by omega),if_neg (by simp; omega),et,em,wrap_i64 (x:=((i / 2 : Nat) : Int)) (by omega) (by omega),wrap_i64 (x:=32 * ((i % 2 : Nat) : Int)) (by omega) (by omega),if_pos (by omega),if_pos (by omega),if_pos (by omega),ag,ag,aG (by omega)]
     congr 1
     have dgp:=fun m : Nat=>cO eP hd m
     simp only [List.getD_eq_getElem?_getD,bM] at dgp
     have dg:=dgp i
     rcases (show i = 0 \/ i = 1 \/ i = 2 \/ i = 3 \/ i = 4 \/ i = 5 \/ i = 6 \/ i = 7 by omega) with rfl | rfl | rfl | rfl | rfl | rfl | rfl | rfl
     all_goals simp [kn]
     all_goals first
      | (rw [Tf dg,SY dg])
      | (rw [Rp dg,RT (dgp _) dg])
    grind
  ·have hil : i = l.length:=by omega
   refine ⟨f,?_,?_⟩
   ·simp only [aQ.l0,aQ.bq]
    grind
   grind [drop_eq_nil_of_le,val]
theorem ME (B : Int) : ∀ (l : List Int) (n : Nat),val B l = val B (l.take n) + B ^ (min n l.length) * val B (l.drop n):=by
 grind [List.take_append_drop,gM]
theorem jQ {l : List Int} (hd : aN bM l) (hl : l.length <= 1000000) :
  ∃ w f,aQ.run l = some (w,f,()) /\ w.length = 4 /\ aN ah w /\ val ah w = val bM l % 115792089237316195423570985008687907853269984665640564039457584007913129639936 /\ (f = true ↔ 115792089237316195423570985008687907853269984665640564039457584007913129639936 <= val bM l):=by
 unfold aQ.run aQ.top aQ.j1
 have h0:=fun N (hN : l.length < N)=>vW N (fun (x5 : Bool) (c2 : List Int) (c4 : List Int)=>some (c4,x5,())) l hd hl [0,0,0,0] N 0 false (by omega) (by omega)
 obtain ⟨f',e1,e2⟩:=h0 fuel (by rw [au]; omega)
 have ew : kn l 0 = [0,0,0,0]:=rfl
 rw [ew] at e1
 have g : ∀ m : Nat,0 <= (if m < max 0 (min l.length 8) then l.getD m 0 else 0) /\ (if m < max 0 (min l.length 8) then l.getD m 0 else 0) < 4294967296:=fun m=>by
  have:=cO eP hd m
  grind
 have gv : val bM (l.take 8) = val ah (kn l (max 0 (min l.length 8))):=by
  have t0 : ∀ m : Nat,(if m < max 0 (min l.length 8) then l.getD m 0 else 0) = if m < 8 then l.getD m 0 else 0:=fun m=>by
   grind
  unfold kn
  simp only [t0]
  simp only [show (0 < 8) from by decide,show (1 < 8) from by decide,show (2 < 8) from by decide,show (3 < 8) from by decide,show (4 < 8) from by decide,show (5 < 8) from by decide,show (6 < 8) from by decide,show (7 < 8) from by decide,if_true]
  rw [jY bM l 7,jY bM l 6,jY bM l 5,jY bM l 4,jY bM l 3,jY bM l 2,jY bM l 1,jY bM l 0]
  simp only [val,List.take_zero,bM,ah]
  omega
 refine ⟨kn l (max 0 (min l.length 8)),f',?_,rfl,?_,?_,?_⟩
 ·exact e1
 ·intro d hdm
  have g0:=g 0
  have g1:=g 1
  have g2:=g 2
  have g3:=g 3
  have g4:=g 4
  have g5:=g 5
  have g6:=g 6
  have g7:=g 7
  simp only [kn,mem_cons,List.not_mem_nil,or_false] at hdm
  simp only [ah]
  rcases hdm with rfl | rfl | rfl | rfl <;> omega
 all_goals
  have hb:=jS eP hd 8
  have hb2:=dL eP (pg hd 8)
  have hs:=ME bM l 8
  have e8 : bM ^ 8 = 115792089237316195423570985008687907853269984665640564039457584007913129639936:=rfl
  rw [e8] at hb
 ·rw [<- gv]
  by_cases h8 : 8 <= l.length
  ·rw [Nat.min_eq_left h8,e8] at hs
   rw [hs,Int.add_mul_emod_self_left]
   exact (Int.emod_eq_of_lt hb.1 hb.2).symm
  ·rw [drop_eq_nil_of_le (by omega)] at hs
   simp only [val,mul_zero,add_zero] at hs
   rw [hs]
   exact (Int.emod_eq_of_lt hb.1 hb.2).symm
 ·rw [e2,show max 0 8 = 8 from rfl]
  simp only [false_eq_true,false_or]
  by_cases h8 : 8 <= l.length
  ·rw [Nat.min_eq_left h8,e8] at hs
   constructor <;> intro h <;> omega
  ·rw [drop_eq_nil_of_le (by omega)] at hs ⊢
   simp only [val,mul_zero,add_zero] at hs ⊢
   constructor <;> intro h <;> omega
abbrev aM : Int:=115792089237316195423570985008687907853269984665640564039457584007913129639936
theorem add_eq (a b c d a' b' c' d' : Int) : fy.run [a,b,c,d] [a',b',c',d'] =
  (lF.run a a' 0).bind fun y=>(lF.run b b' y.2.1).bind fun z=>(lF.run c c' z.2.1).bind fun u=>(lF.run d d' u.2.1).bind fun v=>some ([y.1,z.1,u.1,v.1],v.2.1 == 1,()):=by kernel_rfl
theorem sub_eq (a b c d a' b' c' d' : Int) : fO.run [a,b,c,d] [a',b',c',d'] =
  (ow.run a a' 0).bind fun y=>(ow.run b b' y.2.1).bind fun z=>(ow.run c c' z.2.1).bind fun u=>(ow.run d d' u.2.1).bind fun v=>some ([y.1,z.1,u.1,v.1],v.2.1 == 1,()):=by kernel_rfl
theorem l8 {x y c : Int} (hx : 0 <= x /\ x < 18446744073709551616) (hy : 0 <= y /\ y < 18446744073709551616) (hc : 0 <= c /\ c <= 1) : ∃ r o,lF.run x y c = some (r,o,()) /\ (0 <= r /\ r < 18446744073709551616) /\ (0 <= o /\ o <= 1) /\ r + 18446744073709551616 * o = x + y + c:=by
 refine ⟨_,_,if_pos (by omega),by omega,by omega,by omega⟩
theorem pH {x y c : Int} (hx : 0 <= x /\ x < 18446744073709551616) (hy : 0 <= y /\ y < 18446744073709551616) (hc : 0 <= c /\ c <= 1) : ∃ r o,ow.run x y c = some (r,o,()) /\ (0 <= r /\ r < 18446744073709551616) /\ (0 <= o /\ o <= 1) /\ r - 18446744073709551616 * o = x - y - c:=by
 refine ⟨_,_,if_pos (by omega),by omega,by split <;> omega,by split <;> omega⟩
theorem jD {l m : List Int} (hl : l.length = 4) (hm : m.length = 4) (dl : aN ah l) (dm : aN ah m) (h : val ah l = val ah m) : l = m:=val_inj dW dl dm (by omega) h
theorem nF {l m : List Int} (hl : l.length = 4) (hm : m.length = 4) (dl : aN ah l) (dm : aN ah m) :
  ∃ r o,fy.run l m = some (r,o,()) /\ r.length = 4 /\ aN ah r /\ val ah r = (val ah l + val ah m) % aM /\ (o = true ↔ aM <= val ah l + val ah m):=by
 obtain ⟨a,b,c,d,rfl⟩:=eT hl
 obtain ⟨a',b',c',d',rfl⟩:=eT hm
 have h1:=dl a (by simp)
 have h2:=dl b (by simp)
 have h3:=dl c (by simp)
 have h4:=dl d (by simp)
 have g1:=dm a' (by simp)
 have g2:=dm b' (by simp)
 have g3:=dm c' (by simp)
 have g4:=dm d' (by simp)
 rw [add_eq]
 obtain ⟨r1,o1,e1,q1,p1,s1⟩:=l8 h1 g1 (c:=0) (by omega)
 obtain ⟨r2,o2,e2,q2,p2,s2⟩:=l8 h2 g2 p1
 obtain ⟨r3,o3,e3,q3,p3,s3⟩:=l8 h3 g3 p2
 obtain ⟨r4,o4,e4,q4,p4,s4⟩:=l8 h4 g4 p3
 rw [e1,bind_some,e2,bind_some,e3,bind_some,e4,bind_some]
 refine ⟨_,_,rfl,rfl,?_,?_,?_⟩
 ·intro x hx
  simp only [mem_cons,List.not_mem_nil,or_false] at hx
  simp only [ah]
  rcases hx with rfl | rfl | rfl | rfl <;> omega
 ·simp only [val,ah,aM] at *
  omega
 ·simp only [val,ah,aM,beq_iff_eq] at *
  constructor <;> intro h <;> omega
theorem qY {l m : List Int} (hl : l.length = 4) (hm : m.length = 4) (dl : aN ah l) (dm : aN ah m) :
  ∃ r o,fO.run l m = some (r,o,()) /\ r.length = 4 /\ aN ah r /\ val ah r = (val ah l - val ah m) % aM /\ (o = true ↔ val ah l < val ah m):=by
 obtain ⟨a,b,c,d,rfl⟩:=eT hl
 obtain ⟨a',b',c',d',rfl⟩:=eT hm
 have h1:=dl a (by simp)
 have h2:=dl b (by simp)
 have h3:=dl c (by simp)
 have h4:=dl d (by simp)
 have g1:=dm a' (by simp)
 have g2:=dm b' (by simp)
 have g3:=dm c' (by simp)
 have g4:=dm d' (by simp)
 rw [sub_eq]
 obtain ⟨r1,o1,e1,q1,p1,s1⟩:=pH h1 g1 (c:=0) (by omega)
 obtain ⟨r2,o2,e2,q2,p2,s2⟩:=pH h2 g2 p1
 obtain ⟨r3,o3,e3,q3,p3,s3⟩:=pH h3 g3 p2
 obtain ⟨r4,o4,e4,q4,p4,s4⟩:=pH h4 g4 p3
 rw [e1,bind_some,e2,bind_some,e3,bind_some,e4,bind_some]
 refine ⟨_,_,rfl,rfl,?_,?_,?_⟩
 ·intro x hx
  simp only [mem_cons,List.not_mem_nil,or_false] at hx
  simp only [ah]
  rcases hx with rfl | rfl | rfl | rfl <;> omega
 ·simp only [val,ah,aM] at *
  omega
 ·simp only [val,ah,aM,beq_iff_eq] at *
  constructor <;> intro h <;> omega
theorem eH {l : List Int} (hl : l.length = 4) (dl : aN ah l) : 0 <= val ah l /\ val ah l < aM:=by
 have:=dL dW dl
 grind
theorem IA {a b : Bool} {p : Prop} (h : a = true ↔ p) (g : b = true ↔ p) : a = b:=by
 grind
theorem AZ {l m : List Int} (hl : l.length = 4) (hm : m.length = 4) (h : ax (.arr 4 (.int .u64)) l m = true) : l = m:=by
 obtain ⟨a,b,c,d,rfl⟩:=eT hl
 obtain ⟨a',b',c',d',rfl⟩:=eT hm
 simp_all [ax,pS]
theorem Ea {A : List Int} {x : Int} {Bs : List Int} {n : Nat} (h : A.length = n) : (A ++ x :: Bs).getD n 0 = x:=by
 grind
theorem HE {A : List Int} {x v : Int} {Bs : List Int} {n : Nat} (h : A.length = n) : (A ++ x :: Bs).set n v = A ++ v :: Bs:=by
 subst h
 simp
theorem pw {x y : Int} (hx : 0 <= x /\ x < 4294967296) (hy : 0 <= y /\ y < 4294967296) : 0 <= x * y /\ x * y <= 18446744065119617025:=by
 refine ⟨Int.mul_nonneg hx.1 hy.1,?_⟩
 have:=Int.mul_le_mul (show x <= 4294967295 by omega) (show y <= 4294967295 by omega) hy.1 (by omega)
 omega
theorem xj {α : Type} (k : Nat) (Xt : List Int->Int->Int->List Int->Int->Int->List Int->Option α) (b : List Int) (hb : aN bM b) (hl : b.length <= 1000000) (i : Nat) (hi : i <= 1000000) (x : Int) (hx : 0 <= x /\ x < 4294967296) (x18 : List Int) (x19 x20 : Int) (z : List Int) :
  ∀ (n j : Nat) (A t : List Int) (cy : Int),A.length = i + j->t.length = b.length - j->j <= b.length->b.length - j < n->aN bM t->(0 <= cy /\ cy < 4294967296) ->
  ∃ r cy',aE.l1 k Xt n b (i : Int) x cy x18 x19 x20 b (b.length : Int) (j : Int) (A ++ (t ++ z)) = Xt b (i : Int) cy' x18 x19 x20 (A ++ (r ++ z)) /\ r.length = t.length /\ aN bM r /\ (0 <= cy' /\ cy' < 4294967296) /\ val bM r + bM ^ t.length * cy' = val bM t + x * val bM (b.drop j) + cy
 | 0,j,A,t,cy,_,_,_,h,_,_=>by omega
 | n + 1,j,A,t,cy,hA,ht,hj,h,hd,hc=>by
  by_cases hlt : j < b.length
  ·obtain ⟨t0,t',rfl⟩ : ∃ t0 t',t = t0 :: t':=by
    cases t with
    | nil=>simp at ht; omega
    | cons a l=>exact ⟨a,l,rfl⟩
   obtain ⟨d0,d1⟩:=cU.1 hd
   have dy:=cO eP hb j
   simp only [bM] at d0 dy
   have hP:=pw hx dy
   obtain ⟨r,cy',e1,e2,e3,e4,e5⟩:=xj k Xt b hb hl i hi x hx x18 x19 x20 z n (j + 1) (A ++ [(x * b.getD j 0 + t0 + cy) % 4294967296]) t' ((x * b.getD j 0 + t0 + cy) / 4294967296) (by simp; omega) (by simp at ht; omega) (by omega) (by omega) d1 (by omega)
   refine ⟨(x * b.getD j 0 + t0 + cy) % 4294967296 :: r,cy',?_,by simp [e2],cU.2 ⟨by simp only [bM]; omega,e3⟩,e4,?_⟩
   ·simp only [aE.l1,aE.me]
    have ew : IntKind.i64.wrap ((i : Int) + (j : Int)) = ((i + j : Nat) : Int):=by
     grind [wrap_i64]
    have hlen : i + j < (A ++ (t0 :: t' ++ z)).length:=by simp; omega
    have eg : (A ++ (t0 :: t' ++ z)).getD (i + j) 0 = t0:=Ea hA
    have es : ∀ v,(A ++ (t0 :: t' ++ z)).set (i + j) v = A ++ [v] ++ (t' ++ z):=fun v=>by
     grind
    rw [if_pos (by simp; omega),if_pos (by omega),ew,if_pos (by omega),if_pos (by omega),ag,ag,eg,es,aG (by omega)]
    rw [aV (x:=x * b.getD j 0) (by omega) (by omega),aV (x:=x * b.getD j 0 + t0) (by omega) (by omega),aV (x:=x * b.getD j 0 + t0 + cy) (by omega) (by omega),iE (by omega),iY (by omega),aV (x:=(x * b.getD j 0 + t0 + cy) / 4294967296) (by omega) (by omega)]
    rw [e1]
    simp
   ·rw [gR bM b j]
    simp only [val,List.length_cons,Int.pow_succ]
    grind
  ·have ht0 : t = []:=List.eq_nil_of_length_eq_zero (by omega)
   subst ht0
   refine ⟨[],cy,?_,rfl,gP,hc,?_⟩
   ·simp_all [aE.l1,aE.me,if_neg]
   grind [val]
theorem xb {α : Type} (k : Nat) (Xt : List Int->Option α) (a b : List Int) (ha : aN bM a) (hb : aN bM b) (hal : a.length <= 1000000) (hl : b.length <= 1000000) (hk : b.length < k) :
  ∀ (n i : Nat) (p : List Int),p.length = i + b.length->i <= a.length->a.length - i < n->aN bM p ->
  ∃ r,aE.l0 k Xt n b a (a.length : Int) (i : Int) (p ++ replicate (a.length - i) 0) = Xt r /\ r.length = a.length + b.length /\ aN bM r /\ val bM r = val bM p + bM ^ i * (val bM (a.drop i) * val bM b)
 | 0,i,p,_,_,h,_=>by omega
 | n + 1,i,p,hp,hi,h,hd=>by
  by_cases hlt : i < a.length
  ·have dx:=cO eP ha i
   simp only [bM] at dx
   have hsplit : p = p.take i ++ p.drop i:=(List.take_append_drop i p).symm
   have hz : replicate (a.length - i) (0 : Int) = 0 :: replicate (a.length - (i + 1)) 0:=by
    rw [show a.length - i = (a.length - (i + 1)) + 1 by omega,List.replicate_succ]
   obtain ⟨r,cy,e1,e2,e3,e4,e5⟩:=xj k (fun (x1 : List Int) (x6 : Int) (x8 : Int) (x18 : List Int) (x19 : Int) (x20 : Int) (c17 : List Int)=>aE.j0 (aE.l0 k Xt n) x1 x6 x8 x18 x19 x20 c17) b hb hl i (by omega) (a.getD i 0) dx a (a.length : Int) (i : Int) (replicate (a.length - i) 0) k 0 (p.take i) (p.drop i) 0 (by simp; omega) (by simp; omega) (by omega) (by omega) (pg hd i) (by omega)
   have hpl : (p.drop i).length = b.length:=by simp; omega
   have hnew : (p.take i ++ r ++ [cy]).length = (i + 1) + b.length:=by simp; omega
   have dnew : aN bM (p.take i ++ r ++ [cy]):=mo (mo (lV hd i) e3) (cU.2 ⟨by simp only [bM]; omega,gP⟩)
   obtain ⟨r2,f1,f2,f3,f4⟩:=xb k Xt a b ha hb hal hl hk n (i + 1) (p.take i ++ r ++ [cy]) hnew (by omega) (by omega) dnew
   refine ⟨r2,?_,f2,f3,?_⟩
   ·simp only [aE.l0,aE.bq]
    have ep : p ++ replicate (a.length - i) 0 = p.take i ++ (p.drop i ++ replicate (a.length - i) 0):=by
     grind
    rw [if_pos (by simp; omega),if_pos (by omega),ag,ep]
    refine Eq.trans e1 ?_
    unfold aE.j0 aE.j1
    have ew : IntKind.i64.wrap ((i : Int) + (b.length : Int)) = ((i + b.length : Nat) : Int):=by
     grind [wrap_i64]
    have hlen2 : (p.take i ++ r).length = i + b.length:=by simp; omega
    have es : (p.take i ++ (r ++ replicate (a.length - i) 0)).set (i + b.length) cy = p.take i ++ r ++ [cy] ++ replicate (a.length - (i + 1)) 0:=by
     grind [HE]
    rw [ew,if_pos (by simp; omega),ag,es,aG (by omega)]
    exact f1
   ·rw [f4,gM,gM,hlen_aux hp e2 hpl]
    rw [gR bM a i]
    have hv : val bM p = val bM (p.take i) + bM ^ i * val bM (p.drop i):=by
     grind [gM]
    rw [hv]
    rw [hpl] at e5
    simp only [val,mul_zero,add_zero,drop_zero] at e5 ⊢
    grind
  ·have hil : i = a.length:=by omega
   refine ⟨p,?_,by omega,hd,?_⟩
   ·simp_all [aE.l0,aE.bq]
   grind [val]
where
 hlen_aux {p r : List Int} {i lb : Nat} (hp : p.length = i + lb) (e2 : r.length = (p.drop i).length) (hpl : (p.drop i).length = lb) : (p.take i ++ r).length = i + lb:=by
  grind
theorem v7 (n : Nat) : aN bM (replicate n 0):=fun d hd=>by
 grind
theorem val_zero (B : Int) : ∀ n,val B (replicate n 0) = 0
 | 0=>rfl
 | n + 1=>by rw [List.replicate_succ]; simp [val,val_zero B n]
theorem lW {a b : List Int} (ha : aN bM a) (hb : aN bM b) (hal : a.length <= 1000000) (hl : b.length <= 1000000) :
  ∃ r,aE.run a b = some r /\ r.length = a.length + b.length /\ aN bM r /\ val bM r = val bM a * val bM b:=by
 unfold aE.run aE.top aE.j2
 have ew : IntKind.i64.wrap ((a.length : Int) + (b.length : Int)) = ((a.length + b.length : Nat) : Int):=by
  grind [wrap_i64]
 have h0:=fun N (hN : a.length < N) (hk : b.length < N)=>xb N (fun (c17 : List Int)=>some c17) a b ha hb hal hl hk N 0 (replicate b.length 0) (by simp) (by omega) (by omega) (v7 _)
 obtain ⟨r,e1,e2,e3,e4⟩:=h0 fuel (by rw [au]; omega) (by rw [au]; omega)
 refine ⟨r,?_,e2,e3,?_⟩
 ·rw [ew,ag,if_pos ⟨by omega,rfl,aU (by omega) (by decide)⟩]
  rw [Nat.add_comm a.length,<- List.replicate_append_replicate]
  exact e1
 ·rw [e4,val_zero]
  simp
theorem yQ {α : Type} (k : Nat) (Xt : List Int->Option α) : ∀ (n : Nat) (l : List Int),l.length < n->l.length <= 1000000->aN bM l->∃ r,bU.l0 k Xt n l = Xt r /\ r.length <= l.length /\ aN bM r /\ val bM r = val bM l /\ (∀ d,r.getLast? = some d->d ≠ 0)
 | 0,l,h,_,_=>by omega
 | n + 1,l,h,hl,hd=>by
  simp only [bU.l0,bU.bq]
  by_cases h0 : l.length = 0
  ·grind
  ·have ew : IntKind.i64.wrap ((l.length : Int) - 1) = ((l.length - 1 : Nat) : Int):=by rw [wrap_i64 (by omega) (by omega)]; omega
   rw [ew]
   have hc1 : (decide (0 <= ((l.length - 1 : Nat) : Int) /\ ((l.length - 1 : Nat) : Int) < (l.length : Int)) || !((decide ((l.length : Int) > 0)) == true)) = true:=by
    grind
   rw [hc1]
   simp only [cond_true]
   have hgt : decide ((l.length : Int) > 0) = true:=by rw [decide_eq_true_eq]; omega
   have hlt : l.length - 1 < l.length:=by omega
   simp only [hgt,cond_true,ag,getD_eq hlt]
   have hsplit : l = l.take (l.length - 1) ++ [l[l.length - 1]]:=by
    grind [List.take_append_drop,List.drop_eq_getElem_cons]
   by_cases hz : l[l.length - 1] = 0
   ·rw [if_pos (by simpa using hz),if_pos (by omega)]
    have hcut : ay l 0 ((l.length - 1 : Nat) : Int) = l.take (l.length - 1):=by
     rfl
    rw [hcut]
    obtain ⟨r,e1,e2,e3,e4,e5⟩:=yQ k Xt n (l.take (l.length - 1)) (by simp; omega) (by simp; omega) (lV hd _)
    grind [gM,val]
   grind
theorem rY {l : List Int} (hl : l.length <= 1000000) (hd : aN bM l) : ∃ r,bU.run l = some r /\ r.length <= l.length /\ aN bM r /\ val bM r = val bM l /\ (∀ d,r.getLast? = some d->d ≠ 0):=by
 unfold bU.run bU.top bU.j0
 have:=fun N (hN : l.length < N)=>yQ N (fun (x2 : List Int)=>some x2) N l hN hl hd
 exact this fuel (by rw [au]; omega)
end Go.Bx
