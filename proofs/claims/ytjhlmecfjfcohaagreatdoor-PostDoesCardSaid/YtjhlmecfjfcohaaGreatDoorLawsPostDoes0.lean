/- Laws about functions of plain data, in plain Lean. -/
import Derived.Test.YtjhlmecfjfcohaaGreatDoorCxZh
import Derived.Test.YtjhlmecfjfcohaaGreatDoorFnPostDoes0
open Bool (and_eq_true)
open Int (tdiv tmod)
open List (length_drop replicate take_of_length_le)
open Option (bind_some)
set_option maxRecDepth 100000
set_option linter.unusedVariables false
set_option linter.unusedSimpArgs false
namespace Go.Bx
open Go
theorem ny (n X : Nat) : BitVec.ofInt n (X : Int) = BitVec.ofNat n X:=by
 rfl
theorem ka {X : Nat} (h : X < 18446744073709551616) : IntKind.u64.wrap (X : Int) = (X : Int):=aV (by omega) (by omega)
theorem jv {X Y : Nat} (hX : X < 18446744073709551616) (hY : Y < 18446744073709551616) : cF .u64 (X : Int) (Y : Int) = ((X &&& Y : Nat) : Int):=by
 unfold cF
 have e : ((BitVec.ofInt IntKind.u64.bits (X : Int) &&& BitVec.ofInt IntKind.u64.bits (Y : Int)).toNat) = X &&& Y:=by
  rw [ny,ny,BitVec.toNat_and,BitVec.toNat_ofNat,BitVec.toNat_ofNat]
  show (X % 2 ^ 64) &&& (Y % 2 ^ 64) = _
  grind
 rw [e]
 exact ka (Nat.lt_of_le_of_lt Nat.and_le_left hX)
theorem rU {X Y : Nat} (hX : X < 18446744073709551616) (hY : Y < 18446744073709551616) : jq .u64 (X : Int) (Y : Int) = ((X ||| Y : Nat) : Int):=by
 unfold jq
 have e : ((BitVec.ofInt IntKind.u64.bits (X : Int) ||| BitVec.ofInt IntKind.u64.bits (Y : Int)).toNat) = X ||| Y:=by
  rw [ny,ny,BitVec.toNat_or,BitVec.toNat_ofNat,BitVec.toNat_ofNat]
  show (X % 2 ^ 64) ||| (Y % 2 ^ 64) = _
  grind
 rw [e]
 exact ka (by have:=Nat.or_lt_two_pow (n:=64) hX hY; simpa using this)
theorem MC {X Y : Nat} (hX : X < 18446744073709551616) (hY : Y < 18446744073709551616) : ae .u64 (X : Int) (Y : Int) = ((X ^^^ Y : Nat) : Int):=by
 unfold ae
 have e : ((BitVec.ofInt IntKind.u64.bits (X : Int) ^^^ BitVec.ofInt IntKind.u64.bits (Y : Int)).toNat) = X ^^^ Y:=by
  rw [ny,ny,BitVec.toNat_xor,BitVec.toNat_ofNat,BitVec.toNat_ofNat]
  show (X % 2 ^ 64) ^^^ (Y % 2 ^ 64) = _
  grind
 rw [e]
 exact ka (by have:=Nat.xor_lt_two_pow (n:=64) hX hY; simpa using this)
theorem DP {k : Nat} (hk : k < 64) : min (k : Int).toNat IntKind.u64.bits = k:=by
 have : IntKind.u64.bits = 64:=rfl
 rw [this]; omega
theorem kQ {k : Nat} (hk : k < 64) : 2 ^ k < 18446744073709551616:=by
 have:=Nat.pow_lt_pow_right (a:=2) (by omega) hk
 simpa using this
theorem rG {k : Nat} (hk : k < 64) : eR .u64 1 (k : Int) = ((2 ^ k : Nat) : Int):=by
 unfold eR
 rw [DP hk]
 have h2 : (1 : Int) * 2 ^ k = ((2 ^ k : Nat) : Int):=by simp
 rw [h2]
 exact ka (kQ hk)
theorem na {X k : Nat} (hk : k < 64) : fh .u64 (X : Int) (k : Int) = ((X >>> k : Nat) : Int):=by
 grind [DP,Nat.shiftRight_eq_div_pow,fh]
theorem p9 {X k : Nat} : ((X &&& 2 ^ k) != 0) = X.testBit k:=by
 cases h : X.testBit k with
 | true =>
  have : (X &&& 2 ^ k).testBit k = true:=by simp [Nat.testBit_and,h,Nat.testBit_two_pow_self]
  have h0 : X &&& 2 ^ k ≠ 0:=fun e=>by rw [e] at this; simp at this
  simpa using h0
 | false =>
  have : X &&& 2 ^ k = 0:=by
   apply Nat.eq_of_testBit_eq
   grind
  simp [this]
theorem wM {X k : Nat} : ((X >>> k &&& 1) == 1) = X.testBit k:=by
 grind [Nat.testBit]
theorem jW {x c : Nat} (h : x < 9223372036854775808) : IntKind.i64.wrap (tdiv (x : Int) (c : Int)) = ((x / c : Nat) : Int):=by
 rw [<- Int.ofNat_tdiv]
 have h2 : x / c <= x:=Nat.div_le_self x c
 grind [wrap_i64]
theorem lB (x c : Nat) : tmod (x : Int) (c : Int) = ((x % c : Nat) : Int):=by
 rfl
theorem yl {x : Int} (h : oW .u64 x = true) : ∃ X : Nat,x = (X : Int) /\ X < 18446744073709551616:=by
 rw [oq] at h
 exact ⟨x.toNat,by omega,by omega⟩
theorem dT {p : Prop} [Decidable p] (h : p) : decide p = true:=decide_eq_true h
theorem dF {p : Prop} [Decidable p] (h : ¬ p) : ¬ decide p = true:=fun e=>h (of_decide_eq_true e)
theorem aU {n b : Nat} (hn : n <= 4194304) (hb : b <= 33554432) : eL n b = true:=by
 unfold eL
 rw [and_eq_true]
 constructor
 ·apply Nat.ble_eq_true_of_le
  calc n * b <= 4194304 * 33554432:=Nat.mul_le_mul hn hb
   _ <= 140737488355328:=by decide
 grind [Nat.ble_eq_true_of_le]
theorem Hx {n b : Nat} (h1 : n * b <= 140737488355328) (h2 : n <= 140737488355328) : eL n b = true:=by
 simp_all [eL]
theorem au : fuel = 18446744073709551616:=rfl
theorem aG {i : Nat} (h : i < 9223372036854775807) : IntKind.i64.wrap ((i : Int) + 1) = ((i + 1 : Nat) : Int):=by
 grind [wrap_i64]
theorem ag (i : Nat) : Int.toNat (i : Int) = i:=rfl
theorem B1 {α : Type} {f : α->α->Bool} : ∀ (l : List α),(∀ a ∈ l,f a a = true)->pS f l l = true
 | [],_=>rfl
 | a :: l,h=>by simp [pS,h a (by simp),B1 l fun b hb=>h b (List.mem_cons_of_mem _ hb)]
theorem cE : ∀ (t : Ty) (x : t.den),t.cmp = true->ax t x x = true
 | .int _,x,_=>by simp [ax]
 | .bool,x,_=>by simp [ax]
 | .str,x,_=>by simp [ax]
 | .arr n t,x,h=>by simp only [ax]; exact B1 x fun a _=>cE t a (by simpa [Ty.cmp] using h)
 | .unit,_,_=>rfl
 | .pair a b,x,h=>by
  simp only [Ty.cmp,and_eq_true] at h
  simp only [ax,cE a _ h.1,cE b _ h.2]; rfl
 | .sl _,_,h=>by simp [Ty.cmp] at h
 | .opq,_,h=>by simp [Ty.cmp] at h
theorem Ew {α : Type} {f : α->α->Bool} : ∀ (l m : List α),(∀ a ∈ l,∀ b,f a b = true ↔ a = b)->(pS f l m = true ↔ l = m)
 | [],[],_=>by simp [pS]
 | [],_ :: _,_=>by simp [pS]
 | _ :: _,[],_=>by simp [pS]
 | a :: l,b :: m,h=>by
  simp only [pS,and_eq_true,List.cons.injEq]
  rw [h a (by simp) b,Ew l m fun c hc=>h c (List.mem_cons_of_mem _ hc)]
theorem jB : ∀ (t : Ty) (x y : t.den),t.cmp = true->(ax t x y = true ↔ x = y)
 | .int _,x,y,_=>by simp [ax]
 | .bool,x,y,_=>by simp [ax]
 | .str,x,y,_=>by simp [ax]
 | .arr n t,x,y,h=>by simp only [ax]; exact Ew x y fun a _ b=>jB t a b (by simpa [Ty.cmp] using h)
 | .unit,x,y,_=>by cases x; cases y; simp [ax]
 | .pair a b,x,y,h=>by
  simp only [Ty.cmp,and_eq_true] at h
  simp only [ax,and_eq_true]
  rw [jB a _ _ h.1,jB b _ _ h.2]
  grind
 | .sl _,_,_,h=>by simp [Ty.cmp] at h
 | .opq,_,_,h=>by simp [Ty.cmp] at h
theorem iQ (t : Ty) (x y : t.den) (h : t.cmp = true) [Decidable (x = y)] : ax t x y = decide (x = y):=by
 rw [Bool.eq_iff_iff,decide_eq_true_eq]; exact jB t x y h
theorem kO {α : Type} (P : List α) (h : α) (R : List α) (d : α) : (P ++ h :: R).getD P.length d = h:=by
 simp [List.getD]
theorem rX : ∀ (x : List Int),mB x x = false
 | []=>rfl
 | a :: x=>by simp [mB,rX x]
theorem vB : ∀ (x y z : List Int),mB x y = true->mB y z = true->mB x z = true
 | _,[],_,h,_=>by cases ‹List Int› <;> simp [mB] at h
 | _,_ :: _,[],_,h=>by simp [mB] at h
 | [],_ :: _,_ :: _,_,_=>rfl
 | a :: x,b :: y,c :: z,h,g=>by
  simp only [mB,Bool.or_eq_true,and_eq_true,decide_eq_true_eq,beq_iff_eq] at h g ⊢
  rcases h with h | ⟨h,h'⟩ <;> rcases g with g | ⟨g,g'⟩
  ·left; omega
  ·left; omega
  ·left; omega
  ·right; exact ⟨by omega,vB x y z h' g'⟩
theorem F8 : ∀ (x y : List Int),x.length = y.length->mB x y = false->mB y x = false->x = y
 | [],[],_,_,_=>rfl
 | [],_ :: _,h,_,_=>by simp at h
 | _ :: _,[],h,_,_=>by simp at h
 | a :: x,b :: y,h,h1,h2=>by
  simp only [mB,Bool.or_eq_false_iff,Bool.and_eq_false_iff,decide_eq_false_iff_not,beq_eq_false_iff_ne] at h1 h2
  have e : a = b:=by omega
  subst e
  rw [F8 x y (by simpa using h) (by simpa using h1.2) (by simpa using h2.2)]
theorem ef {α : Type} (P R : List α) (a d : α) : (P ++ a :: R).getD P.length d = a:=by simp [List.getD]
theorem zg {α : Type} (P R : List α) : ay (P ++ R) 0 (P.length : Int) = P:=by simp [ay]
def val (B : Int) : List Int->Int
 | []=>0
 | d :: l=>d + B * val B l
def aN (B : Int) (l : List Int) : Prop:=∀ d ∈ l,0 <= d /\ d < B
theorem cU {B d : Int} {l : List Int} : aN B (d :: l) ↔ (0 <= d /\ d < B) /\ aN B l:=by simp [aN]
theorem gP {B : Int} : aN B []:=by intro d h; cases h
theorem mo {B : Int} {l m : List Int} (h : aN B l) (g : aN B m) : aN B (l ++ m):=by
 intro d hd
 rcases List.mem_append.1 hd with hd | hd
 ·exact h d hd
 ·exact g d hd
theorem pg {B : Int} {l : List Int} (h : aN B l) (n : Nat) : aN B (l.drop n):=fun d hd=>h d (List.mem_of_mem_drop hd)
theorem lV {B : Int} {l : List Int} (h : aN B l) (n : Nat) : aN B (l.take n):=fun d hd=>h d (List.mem_of_mem_take hd)
theorem uE {B : Int} (hB : 0 < B) (n : Nat) : 0 < B ^ n:=Int.pow_pos hB
theorem gM (B : Int) : ∀ (l m : List Int),val B (l ++ m) = val B l + B ^ l.length * val B m
 | [],m=>by simp [val]
 | d :: l,m=>by
  simp only [List.cons_append,val,gM B l m,List.length_cons,Int.pow_succ]
  grind
theorem dL {B : Int} (hB : 0 < B) : ∀ {l : List Int},aN B l->0 <= val B l /\ val B l < B ^ l.length
 | [],_=>by simp [val]
 | d :: l,h=>by
  obtain ⟨h1,h2⟩:=cU.1 h
  obtain ⟨h3,h4⟩:=dL hB h2
  simp only [val,List.length_cons,Int.pow_succ]
  have e1 : 0 <= B * val B l:=Int.mul_nonneg (by omega) h3
  have e2 : B * (val B l + 1) <= B * B ^ l.length:=Int.mul_le_mul_of_nonneg_left (by omega) (by omega)
  grind
theorem val_inj {B : Int} (hB : 0 < B) : ∀ {l m : List Int},aN B l->aN B m->l.length = m.length->val B l = val B m->l = m
 | [],[],_,_,_,_=>rfl
 | [],_ :: _,_,_,h,_=>by simp at h
 | _ :: _,[],_,_,h,_=>by simp at h
 | a :: l,b :: m,h,g,hl,hv=>by
  obtain ⟨h1,h2⟩:=cU.1 h
  obtain ⟨g1,g2⟩:=cU.1 g
  simp only [val] at hv
  have e1 : a = b:=by
   have ha : (a + B * val B l) % B = a:=by rw [Int.add_mul_emod_self_left]; exact Int.emod_eq_of_lt h1.1 h1.2
   simp_all [Int.emod_eq_of_lt]
  subst e1
  have e2 : B * val B l = B * val B m:=by omega
  have e3:=Int.eq_of_mul_eq_mul_left (by omega : B ≠ 0) e2
  rw [val_inj hB h2 g2 (by simpa using hl) e3]
theorem gR (B : Int) (l : List Int) (i : Nat) : val B (l.drop i) = l.getD i 0 + B * val B (l.drop (i + 1)):=by
 grind [List.drop_eq_getElem_cons,List.drop_eq_nil_of_le,val]
theorem cO {B : Int} (hB : 0 < B) {l : List Int} (h : aN B l) (i : Nat) : 0 <= l.getD i 0 /\ l.getD i 0 < B:=by
 by_cases hi : i < l.length
 ·rw [getD_eq hi]; exact h _ (List.getElem_mem hi)
 grind
theorem jY (B : Int) (l : List Int) (j : Nat) : val B (l.take (j + 1)) = val B (l.take j) + B ^ j * l.getD j 0:=by
 by_cases h : j < l.length
 ·rw [List.take_succ_eq_append_getElem h,gM,getD_eq h]
  simp only [val,List.length_take,Int.mul_zero,Int.add_zero]
  grind
 grind [take_of_length_le]
theorem EL {B : Int} (hB : 0 < B) {m n : Nat} (h : m <= n) : B ^ m <= B ^ n:=by
 obtain ⟨k,rfl⟩:=Nat.le.dest h
 rw [Int.pow_add]
 have h1:=uE hB k
 have h2:=uE hB m
 have:=Int.mul_le_mul_of_nonneg_left (show 1 <= B ^ k by omega) (show 0 <= B ^ m by omega)
 omega
theorem jS {B : Int} (hB : 0 < B) {l : List Int} (h : aN B l) (j : Nat) : 0 <= val B (l.take j) /\ val B (l.take j) < B ^ j:=by
 obtain ⟨h1,h2⟩:=dL hB (lV h j)
 refine ⟨h1,Int.lt_of_lt_of_le h2 (EL hB ?_)⟩
 simp; omega
theorem iE {a b : Int} (h : 0 <= a) : tdiv a b = a / b:=Int.tdiv_eq_ediv_of_nonneg h
theorem iY {a b : Int} (h : 0 <= a) : tmod a b = a % b:=Int.tmod_eq_emod_of_nonneg h
abbrev bM : Int:=4294967296
abbrev ah : Int:=18446744073709551616
theorem eP : (0 : Int) < bM:=by decide
theorem dW : (0 : Int) < ah:=by decide
theorem eT {l : List Int} (h : l.length = 4) : ∃ a b c d,l = [a,b,c,d]:=by
 match l,h with
 | [a,b,c,d],_=>exact ⟨a,b,c,d,rfl⟩
theorem of_eq (a b c d : Int) : aw.run [a,b,c,d] = some [tmod a 4294967296,IntKind.u64.wrap (tdiv a 4294967296),tmod b 4294967296,IntKind.u64.wrap (tdiv b 4294967296),tmod c 4294967296,IntKind.u64.wrap (tdiv c 4294967296),tmod d 4294967296,IntKind.u64.wrap (tdiv d 4294967296)]:=by kernel_rfl
theorem fE {l : List Int} (hl : l.length = 4) (hd : aN ah l) : ∃ o,aw.run l = some o /\ o.length = 8 /\ aN bM o /\ val bM o = val ah l:=by
 obtain ⟨a,b,c,d,rfl⟩:=eT hl
 have ha:=hd a (by simp)
 have hb:=hd b (by simp)
 have hc:=hd c (by simp)
 have hdd:=hd d (by simp)
 simp only [ah] at ha hb hc hdd
 refine ⟨_,of_eq a b c d,rfl,?_,?_⟩
 ·rw [iE ha.1,iE hb.1,iE hc.1,iE hdd.1,iY ha.1,iY hb.1,iY hc.1,iY hdd.1,
   aV (x:=a / _) (by omega) (by omega),aV (x:=b / _) (by omega) (by omega),aV (x:=c / _) (by omega) (by omega),aV (x:=d / _) (by omega) (by omega)]
  intro x hx
  simp only [List.mem_cons,List.not_mem_nil,or_false] at hx
  grind
 ·rw [iE ha.1,iE hb.1,iE hc.1,iE hdd.1,iY ha.1,iY hb.1,iY hc.1,iY hdd.1,
   aV (x:=a / _) (by omega) (by omega),aV (x:=b / _) (by omega) (by omega),aV (x:=c / _) (by omega) (by omega),aV (x:=d / _) (by omega) (by omega)]
  simp only [val,bM,ah]
  omega
theorem uN {α : Type} (k : Nat) (Rt : Int->Option α) (Xt : Option α) (a b : List Int) (ha : aN bM a) (hb : aN bM b) (h1 : a.length <= 1000000) (h2 : b.length <= 1000000) : ∀ (n i : Nat),i < n->i <= max a.length b.length ->
  aX.l0 k Rt Xt n a b ((i : Int) - 1) = if val bM (a.take i) < val bM (b.take i) then Rt (-1) else if val bM (a.take i) > val bM (b.take i) then Rt 1 else Xt
 | 0,i,h,_=>by omega
 | n + 1,0,h,_=>by
  rfl
 | n + 1,j + 1,h,hm=>by
  have e : ((j + 1 : Nat) : Int) - 1 = (j : Int):=by omega
  rw [e]
  have da:=cO eP ha j
  have db:=cO eP hb j
  have hj : aX.l0 k Rt Xt (n + 1) a b (j : Int) = aX.j1 (aX.l0 k Rt Xt n) Rt a b (j : Int) (a.getD j 0) (b.getD j 0):=by
   simp only [aX.l0,aX.bq,aX.j0]
   grind
  rw [hj]
  unfold aX.j1
  have ta:=jS eP ha j
  have tb:=jS eP hb j
  rw [jY bM a j,jY bM b j]
  have hP:=uE eP j
  generalize bM ^ j = P at ta tb hP ⊢
  generalize a.getD j 0 = x at da ⊢
  generalize b.getD j 0 = y at db ⊢
  rcases Int.lt_trichotomy x y with hxy | hxy | hxy
  ·have:=Int.mul_le_mul_of_nonneg_left (show x + 1 <= y by omega) (Int.le_of_lt hP)
   grind
  ·subst hxy
   rw [if_neg (by simp),if_neg (by simp),show IntKind.i64.wrap ((j : Int) - 1) = (j : Int) - 1 from wrap_i64 (by omega) (by omega)]
   rw [uN k Rt Xt a b ha hb h1 h2 n j (by omega) (by omega)]
   grind
  ·have:=Int.mul_le_mul_of_nonneg_left (show y + 1 <= x by omega) (Int.le_of_lt hP)
   grind
theorem mr {a b : List Int} (ha : aN bM a) (hb : aN bM b) (h1 : a.length <= 1000000) (h2 : b.length <= 1000000) :
  aX.run a b = some (if val bM a < val bM b then -1 else if val bM a > val bM b then 1 else 0):=by
 unfold aX.run aX.top aX.j2
 have h0:=fun N (hN : max a.length b.length < N)=>uN N (fun (x4 : Int)=>some x4) (some (0 : Int)) a b ha hb h1 h2 N (max a.length b.length) hN (Nat.le_refl _)
 have e:=h0 fuel (by rw [au]; omega)
 rw [take_of_length_le (by omega),take_of_length_le (by omega)] at e
 have ei : IntKind.i64.wrap ((if (b.length : Int) > (a.length : Int) then (b.length : Int) else (a.length : Int)) - 1) = ((max a.length b.length : Nat) : Int) - 1:=by
  grind [wrap_i64]
 rw [ei]
 refine Eq.trans e ?_
 split
 ·rfl
 ·split <;> rfl
theorem gZ {K : Ty->Nat->Prop} {n : Nat} {l : List Int} (h : Fit K (.arr n (.int .u64)) l) : l.length = n /\ aN ah l:=by
 obtain ⟨h1,h2⟩:=h
 refine ⟨h1,fun d hd=>?_⟩
 have:=h2 d hd
 simp only [Fit,oq] at this
 grind
abbrev AA : Ty:=.arr 4 (.int .u64)
theorem vY {a b : Nat} (h : a <= b) : Nat.ble a b = true:=Nat.ble_eq_true_of_le h
def uW (x : Int) (n : Nat) : Int:=x / 2 ^ n % 256
def be (x : Int) : Nat->List Int
 | 0=>[]
 | k + 1=>uW x (8 * k) :: be x k
theorem eM (x : Int) : ∀ k,(be x k).length = k
 | 0=>rfl
 | k + 1=>by simp [be,eM x k]
theorem Nu (x : Int) (n : Nat) : 0 <= uW x n /\ uW x n < 256:=by
 grind [uW]
theorem Hd (x : Int) : ∀ k,∀ b ∈ be x k,0 <= b /\ b < 256
 | 0,b,h=>by simp [be] at h
 | k + 1,b,h=>by
  simp only [be,List.mem_cons] at h
  rcases h with rfl | h
  ·exact Nu _ _
  ·exact Hd x k b h
theorem Kz (x : Int) (n : Nat) : uW (x / 256) n = uW x (n + 8):=by
 unfold uW
 rw [show (2 : Int) ^ (n + 8) = 256 * 2 ^ n by rw [Int.pow_add,Int.mul_comm]; rfl,<- Int.ediv_ediv_of_nonneg (by decide)]
theorem It (x : Int) : ∀ k,be x (k + 1) = be (x / 256) k ++ [uW x 0]
 | 0=>rfl
 | k + 1=>by
  show uW x (8 * (k + 1)) :: be x (k + 1) = uW (x / 256) (8 * k) :: be (x / 256) k ++ [uW x 0]
  rw [It x k,Kz]; rfl
theorem q9 (x : Int) : IntKind.u8.wrap x = uW x 0:=by
 rw [wV]; simp [uW]
theorem L4 (x : Int) : fh .u64 x 8 = x / 256:=by
 show x.fdiv (2 ^ (min (8 : Int).toNat 64)) = _
 grind
theorem qb (k : IntKind) (x : Int) (n : Nat) (h : n <= k.bits) : IntKind.u8.wrap (fh k x (n : Int)) = uW x n:=by
 grind [wV,fh,uW]
theorem FI {α : Type} (Xt : List Int->Option α) (K : Nat) (N : Nat) (hN : N <= 1000) : ∀ (m i n : Nat) (x : Int) (acc : List Int),m < n->i + m = N->acc.length <= i ->
  aA.l0 K Xt n x acc (N : Int) (i : Int) = Xt (be x m ++ acc)
 | m,i,0,x,acc,h,_,_=>by omega
 | 0,i,n + 1,x,acc,h,hi,ha=>by
  simp only [aA.l0,aA.bq]
  rw [if_neg (dF (by omega))]; rfl
 | m + 1,i,n + 1,x,acc,h,hi,ha=>by
  simp only [aA.l0,aA.bq]
  rw [if_pos (dT (by omega)),if_pos (vY (by omega)),aG (by omega),L4,q9]
  refine (FI Xt K N hN m (i + 1) n (x / 256) _ (by omega) (by omega) (by simp; omega)).trans ?_
  grind [It]
theorem mZ (x : Int) (N : Nat) (hN : N <= 1000) : aA.run x (N : Int) = some (be x N):=by
 unfold aA.run aA.top
 refine (FI (fun x5=>aA.j0 (fun x4=>some x4) x5) fuel N hN N 0 fuel x [] (by rw [au]; omega) (by omega) (by simp)).trans ?_
 grind [aA.j0]
theorem jO {x : Int} (h : 0 <= x) (g : x < 18446744073709551616) : IntKind.u64.wrap x = x:=aV h (by omega)
def As (l : List Int) : List Int:=be (l.getD 3 0) 8 ++ be (l.getD 2 0) 8 ++ be (l.getD 1 0) 8 ++ be (l.getD 0 0) 8
theorem gU (l : List Int) : (As l).length = 32:=by simp [As,eM]
theorem NF (l : List Int) : ∀ b ∈ As l,0 <= b /\ b < 256:=by
 intro b h
 simp only [As,List.mem_append] at h
 rcases h with ((h | h) | h) | h <;> exact Hd _ _ b h
theorem gn {α : Type} (l : List α) (n : Int) (h : (l.length : Int) = n) : ay l 0 n = l:=by
 subst h; simp [ay]
def pad (l : List Int) : List Int:=l ++ replicate (32 - l.length) 0
theorem uy (l : List Int) (h : l.length <= 32) : (pad l).length = 32:=by simp [pad]; omega
theorem Dd (l : List Int) (h : l.length <= 32) : zp (replicate 32 0) 0 32 l = pad l:=by
 unfold zp pad
 simp only [show (0 : Int).toNat = 0 from rfl,show (32 : Int).toNat = 32 from rfl,List.take_zero,List.nil_append,Nat.sub_zero,Nat.zero_add,List.drop_replicate]
 grind [take_of_length_le]
theorem PR {α : Type} (P R : List α) (a b : α) : (P ++ a :: R).set P.length b = P ++ b :: R:=by
 grind
theorem BZ {α : Type} (Xt : List Int->List Int->Option α) (K : Nat) (l z : List Int) (hl : l.length <= 32) : ∀ (R P : List Int) (n : Nat),R.length < n->l = P ++ R ->
  aY.l0 K Xt n l (P.length : Int) z (P ++ replicate (32 - P.length) 0) = Xt z (pad l)
 | R,P,0,h,_=>by omega
 | [],P,n + 1,h,hc=>by
  simp only [aY.l0,aY.bq]
  have : l.length = P.length:=by rw [hc]; simp
  rw [bS,if_neg (by rw [and_eq_true,decide_eq_true_eq]; omega)]
  rw [hc,List.append_nil]; rfl
 | y :: R,P,n + 1,h,hc=>by
  have hlen : l.length = P.length + (R.length + 1):=by rw [hc]; simp
  simp only [aY.l0,aY.bq]
  have hg : l.getD P.length 0 = y:=by rw [hc]; exact ef _ _ _ _
  have hz : replicate (32 - P.length) (0 : Int) = 0 :: replicate (32 - (P.length + 1)) 0:=by
   rw [<- List.replicate_succ]; congr 1; omega
  rw [bS,if_pos (by rw [and_eq_true,decide_eq_true_eq,decide_eq_true_eq]; omega),if_pos (by omega),if_pos (by omega),aG (by omega),ag,hg,hz,PR]
  have ih:=BZ Xt K l z hl R (P ++ [y]) n (by simpa using h) (by simp [hc])
  grind
theorem pA (l : List Int) (hl : l.length <= 32) : aY.run l = some (pad l):=by
 unfold aY.run aY.top
 refine (BZ (fun c2 c3=>aY.j0 (fun c2=>some c2) c2 c3) fuel l (replicate 32 0) hl l [] fuel (by rw [au]; omega) rfl).trans ?_
 rfl
abbrev en : Type:=Int × Int × Int × List Int × Int × Int × List Int × Unit
def ll (a m : Int) : Bool:=cond (decide (0 <= a)) (decide (a <= m)) false
theorem yS {a m : Int} : ll a m = true ↔ 0 <= a /\ a <= m:=by simp [ll,bS]
def yP (b : en) : Bool:=ll b.1 1099511627776 && ll b.2.1 4294967295 && ll b.2.2.1 65535 && ll b.2.2.2.2.1 1099511627776 && ll b.2.2.2.2.2.1 255
def jX (b : en) : Int:=if yP b = true then (if b.2.2.2.2.2.2.1.length > 300 then 1 else 0) else 6
theorem Ac {α : Type} (k n : Nat) (R : Int->Option α) (X : en->Option α) (a b c d e A B C D E : Int) (s : en) :
  cb.l0 k R X (n + 6) [[a,A],[b,B],[c,C],[d,D],[e,E]] 5 0 s =
   if (not (ll a A)) = true then R 6 else if (not (ll b B)) = true then R 6 else if (not (ll c C)) = true then R 6 else if (not (ll d D)) = true then R 6 else if (not (ll e E)) = true then R 6 else X s:=by
 kernel_rfl
theorem F6 {α : Type} (l : List α) (n : Nat) (m : Int) (h : m = n) : decide ((l.length : Int) > m) = decide (l.length > n):=by
 grind
theorem tS (b : en) : hO.run b = some (jX b):=by
 have hc : ∀ a m : Int,hJ.run a m = some (ll a m):=fun a m=>rfl
 unfold hO.run hO.top jX yP
 simp only [hc,bind_some,F6 _ 300 300 rfl]
 grind
theorem tC (b : en) : cb.run b = some (jX b):=by
 obtain ⟨n,hn⟩ : ∃ n,fuel = n + 6:=⟨2 ^ 64 - 6,rfl⟩
 unfold cb.run cb.top jX yP
 rw [hn,Ac]
 unfold cb.j0
 grind
theorem oZ {b : en} (h : jX b = 0) : (0 <= b.1 /\ b.1 <= 1099511627776) /\ (0 <= b.2.1 /\ b.2.1 <= 4294967295) /\ (0 <= b.2.2.1 /\ b.2.2.1 <= 65535) /\ (0 <= b.2.2.2.2.1 /\ b.2.2.2.2.1 <= 1099511627776) /\ (0 <= b.2.2.2.2.2.1 /\ b.2.2.2.2.2.1 <= 255) /\ b.2.2.2.2.2.2.1.length <= 300:=by
 unfold jX at h
 by_cases hk : yP b = true
 ·simp_all [yS,yP]
 grind
abbrev o5 : Type:=Int × (List Int × List Int × Int × Unit) × Unit
abbrev mU : Type:=Int × List o5 × en × Unit
def qd (s : o5) : Bool:=ll s.1 255 && ll s.2.1.2.2.1 255
def oC (x : mU) : Int:=if ll x.1 4294967295 = true then (if x.2.1.length > 19 then 1 else if x.2.1.all qd = true then jX x.2.2.1 else 6) else 6
theorem Nm (a b : Int) : cond (cond (cond (decide (a < 0)) true (decide (a > 255))) true (decide (b < 0))) true (decide (b > 255)) = !(ll a 255 && ll b 255):=by
 simp only [cA,ll,bS]
 grind
theorem wC {α : Type} (Rt : Int->Option α) (Xt : mU->Option α) (K : Nat) (x : mU) (l : List o5) (hl : l.length <= 1000) : ∀ (R P : List o5) (n : Nat),R.length < n->l = P ++ R ->
  fu.l0 K Rt Xt n l (l.length : Int) (P.length : Int) x = if R.all qd = true then Xt x else Rt 6
 | R,P,0,h,_=>by omega
 | [],P,n + 1,h,hc=>by
  simp_all [fu.l0,fu.bq]
 | y :: R,P,n + 1,h,hc=>by
  have hlen : l.length = P.length + (R.length + 1):=by rw [hc]; simp
  simp only [fu.l0,fu.bq]
  have hg : l.getD P.length (0,([0,0,0,0],[0,0,0,0],0,()),()) = y:=by rw [hc]; exact ef _ _ _ _
  rw [if_pos (dT (by omega)),if_pos (by omega),aG (by omega),ag,hg,Nm]
  have ih:=wC Rt Xt K x l hl R (P ++ [y]) n (by simpa using h) (by simp [hc])
  rw [List.length_append] at ih
  rw [show (ll y.1 255 && ll y.2.1.2.2.1 255) = qd y from rfl,List.all_cons]
  grind
theorem xJ (x : mU) : fu.run x = some (oC x):=by
 unfold fu.run fu.top oC
 have h1 : cond (decide (x.1 < 0)) true (decide (x.1 > 4294967295)) = !ll x.1 4294967295:=by
  simp only [cA,ll,bS]
  grind
 rw [h1,F6 _ 19 19 rfl]
 cases ll x.1 4294967295 with
 | false=>rfl
 | true =>
  rw [if_neg (by decide),if_pos rfl]
  by_cases h : x.2.1.length > 19
  ·rw [if_pos (by simpa using h),if_pos h]
  ·rw [if_neg (by simpa using h),if_neg h]
   refine (wC (fun x2=>some x2) (fun c1=>fu.j0 (fun x2=>some x2) c1) fuel x x.2.1 (by omega) x.2.1 [] fuel (by rw [au]; omega) rfl).trans ?_
   unfold fu.j0
   rw [tS]
   cases x.2.1.all qd <;> rfl
theorem uL {α : Type} (Rt : Int->Option α) (Xt : mU->Option α) (K : Nat) (x : mU) (l : List o5) (hl : l.length <= 1000) : ∀ (R P : List o5) (n : Nat),R.length < n->l = P ++ R ->
  bJ.l0 K Rt Xt n l (l.length : Int) (P.length : Int) x = if R.all qd = true then Xt x else Rt 6
 | R,P,0,h,_=>by omega
 | [],P,n + 1,h,hc=>by
  simp_all [bJ.l0,bJ.bq]
 | y :: R,P,n + 1,h,hc=>by
  have hlen : l.length = P.length + (R.length + 1):=by rw [hc]; simp
  have hc1 : ∀ a m : Int,bu.run a m = some (ll a m):=fun a m=>rfl
  simp only [bJ.l0,bJ.bq]
  have hg : l.getD P.length (0,([0,0,0,0],[0,0,0,0],0,()),()) = y:=by rw [hc]; exact ef _ _ _ _
  rw [if_pos (dT (by omega)),if_pos (by omega),aG (by omega),ag,hg]
  have ih:=uL Rt Xt K x l hl R (P ++ [y]) n (by simpa using h) (by simp [hc])
  rw [List.length_append] at ih
  rw [List.all_cons,hc1,bind_some,hc1,show qd y = (ll y.1 255 && ll y.2.1.2.2.1 255) from rfl]
  grind
theorem vJ (x : mU) : bJ.run x = some (oC x):=by
 have hc1 : ∀ a m : Int,bu.run a m = some (ll a m):=fun a m=>rfl
 unfold bJ.run bJ.top oC
 rw [hc1,bind_some,F6 _ 19 19 rfl]
 cases ll x.1 4294967295 with
 | false=>rfl
 | true =>
  rw [if_neg (by decide),if_pos rfl]
  by_cases h : x.2.1.length > 19
  ·rw [if_pos (by simpa using h),if_pos h]
  ·rw [if_neg (by simpa using h),if_neg h]
   refine (uL (fun x2=>some x2) (fun c1=>bJ.j0 (fun x2=>some x2) c1) fuel x x.2.1 (by omega) x.2.1 [] fuel (by rw [au]; omega) rfl).trans ?_
   unfold bJ.j0
   rw [tC]
   cases x.2.1.all qd <;> rfl
theorem JA {x : mU} (h : oC x = 0) : (0 <= x.1 /\ x.1 <= 4294967295) /\ x.2.1.length <= 19 /\ (∀ s ∈ x.2.1,(0 <= s.1 /\ s.1 <= 255) /\ (0 <= s.2.1.2.2.1 /\ s.2.1.2.2.1 <= 255)) /\ jX x.2.2.1 = 0:=by
 unfold oC at h
 by_cases h1 : ll x.1 4294967295 = true
 ·rw [if_pos h1] at h
  by_cases h2 : x.2.1.length > 19
  ·omega
  ·rw [if_neg h2] at h
   by_cases h3 : x.2.1.all qd = true
   ·rw [if_pos h3] at h
    refine ⟨yS.1 h1,by omega,fun s hs=>?_,h⟩
    have:=List.all_eq_true.1 h3 s hs
    simp_all [qd,yS]
   grind
 grind
end Go.Bx
namespace Go.Bx.OR
open Go Go.Bx
def QK (b0 b1 b2 b3 b4 b5 b6 b7 : Int) : Int:=(jq .u64 (jq .u64 (jq .u64 (jq .u64 (jq .u64 (jq .u64 (jq .u64 (jq .u64 0 (eR .u64 (IntKind.u64.wrap b0) 56)) (eR .u64 (IntKind.u64.wrap b1) 48)) (eR .u64 (IntKind.u64.wrap b2) 40)) (eR .u64 (IntKind.u64.wrap b3) 32)) (eR .u64 (IntKind.u64.wrap b4) 24)) (eR .u64 (IntKind.u64.wrap b5) 16)) (eR .u64 (IntKind.u64.wrap b6) 8)) (eR .u64 (IntKind.u64.wrap b7) 0))
def Dk (b0 b1 b2 b3 b4 b5 b6 b7 : Int) : Int:=(IntKind.u64.wrap ((IntKind.u64.wrap ((IntKind.u64.wrap ((IntKind.u64.wrap ((IntKind.u64.wrap ((IntKind.u64.wrap ((IntKind.u64.wrap ((IntKind.u64.wrap ((IntKind.u64.wrap ((IntKind.u64.wrap ((IntKind.u64.wrap ((IntKind.u64.wrap ((IntKind.u64.wrap ((IntKind.u64.wrap ((IntKind.u64.wrap ((IntKind.u64.wrap (0 * 256)) + (IntKind.u64.wrap b0))) * 256)) + (IntKind.u64.wrap b1))) * 256)) + (IntKind.u64.wrap b2))) * 256)) + (IntKind.u64.wrap b3))) * 256)) + (IntKind.u64.wrap b4))) * 256)) + (IntKind.u64.wrap b5))) * 256)) + (IntKind.u64.wrap b6))) * 256)) + (IntKind.u64.wrap b7)))
theorem UF (a0 a1 a2 a3 a4 a5 a6 a7 a8 a9 a10 a11 a12 a13 a14 a15 a16 a17 a18 a19 a20 a21 a22 a23 a24 a25 a26 a27 a28 a29 a30 a31 : Int) : ia.run [a0,a1,a2,a3,a4,a5,a6,a7,a8,a9,a10,a11,a12,a13,a14,a15,a16,a17,a18,a19,a20,a21,a22,a23,a24,a25,a26,a27,a28,a29,a30,a31] = some [QK a24 a25 a26 a27 a28 a29 a30 a31,QK a16 a17 a18 a19 a20 a21 a22 a23,QK a8 a9 a10 a11 a12 a13 a14 a15,QK a0 a1 a2 a3 a4 a5 a6 a7]:=by kernel_rfl
theorem Ul (a0 a1 a2 a3 a4 a5 a6 a7 a8 a9 a10 a11 a12 a13 a14 a15 a16 a17 a18 a19 a20 a21 a22 a23 a24 a25 a26 a27 a28 a29 a30 a31 : Int) : cS.run [a0,a1,a2,a3,a4,a5,a6,a7,a8,a9,a10,a11,a12,a13,a14,a15,a16,a17,a18,a19,a20,a21,a22,a23,a24,a25,a26,a27,a28,a29,a30,a31] = some [Dk a24 a25 a26 a27 a28 a29 a30 a31,Dk a16 a17 a18 a19 a20 a21 a22 a23,Dk a8 a9 a10 a11 a12 a13 a14 a15,Dk a0 a1 a2 a3 a4 a5 a6 a7]:=by kernel_rfl
theorem uK (i a b : Nat) (hb : b < 2 ^ i) (hx : 2 ^ i * a + b < 2 ^ 64) : jq .u64 ((2 ^ i * a : Nat) : Int) ((b : Nat) : Int) = ((2 ^ i * a + b : Nat) : Int):=by
 have h1 : 2 ^ i * a < 2 ^ 64:=by omega
 have h2 : b < 2 ^ 64:=by omega
 show IntKind.u64.wrap (((BitVec.ofInt 64 ((2 ^ i * a : Nat) : Int) ||| BitVec.ofInt 64 ((b : Nat) : Int)).toNat : Nat) : Int) = _
 rw [BitVec.toNat_or]
 have e1 : (BitVec.ofInt 64 ((2 ^ i * a : Nat) : Int)).toNat = 2 ^ i * a:=by
  rw [BitVec.ofInt_natCast,BitVec.toNat_ofNat,Nat.mod_eq_of_lt h1]
 grind [Nat.two_pow_add_eq_or_of_lt,aV]
theorem ot (s : Nat) (p q : Int) (hp : p = 2 ^ (s + 8)) (hq : q = 2 ^ s) (hs : s <= 56) {A b : Int} (hA : 0 <= A) (hb : 0 <= b /\ b < 256) (hlt : A * p + b * q < 18446744073709551616) :
  jq .u64 (A * p) (eR .u64 (IntKind.u64.wrap b) s) = A * p + b * q:=by
 obtain ⟨a,rfl⟩:=Int.eq_ofNat_of_zero_le hA
 obtain ⟨c,rfl⟩:=Int.eq_ofNat_of_zero_le hb.1
 have hc : c < 256:=by omega
 have hshl : eR .u64 (IntKind.u64.wrap (c : Int)) s = ((c * 2 ^ s : Nat) : Int):=by
  unfold eR
  rw [aV (x:=(c : Int)) (by omega) (by omega)]
  rw [show min ((s : Nat) : Int).toNat IntKind.u64.bits = s by simp [IntKind.bits]; omega]
  have h56 : (2 : Nat) ^ s <= 2 ^ 56:=Nat.pow_le_pow_right (by omega) hs
  have hm : c * 2 ^ s <= 255 * 2 ^ 56:=Nat.mul_le_mul (by omega) h56
  grind [aV]
 have e1 : (a : Int) * p = ((2 ^ (s + 8) * a : Nat) : Int):=by rw [hp]; push_cast; rw [Int.mul_comm]
 have e2 : (c : Int) * q = ((c * 2 ^ s : Nat) : Int):=by rw [hq]; push_cast; rfl
 rw [e1,e2] at hlt
 rw [hshl,e1,e2,uK (s + 8) a (c * 2 ^ s) (by rw [Nat.pow_add,Nat.mul_comm]; exact Nat.mul_lt_mul_of_pos_left hc (Nat.pow_pos (by omega))) (by omega)]
 push_cast; rfl
theorem Dg {b0 b1 b2 b3 b4 b5 b6 b7 : Int} (h0 : 0 <= b0 /\ b0 < 256) (h1 : 0 <= b1 /\ b1 < 256) (h2 : 0 <= b2 /\ b2 < 256) (h3 : 0 <= b3 /\ b3 < 256) (h4 : 0 <= b4 /\ b4 < 256) (h5 : 0 <= b5 /\ b5 < 256) (h6 : 0 <= b6 /\ b6 < 256) (h7 : 0 <= b7 /\ b7 < 256) : QK b0 b1 b2 b3 b4 b5 b6 b7 = Dk b0 b1 b2 b3 b4 b5 b6 b7:=by
 unfold QK Dk
 have e0 : jq .u64 0 (eR .u64 (IntKind.u64.wrap b0) 56) = b0 * 72057594037927936:=by
  have:=ot 56 18446744073709551616 72057594037927936 rfl rfl (by omega) (A:=0) (b:=b0) (by omega) h0 (by omega)
  grind
 have e1 : jq .u64 (b0 * 72057594037927936) (eR .u64 (IntKind.u64.wrap b1) 48) = (b0 * 256 + b1) * 281474976710656:=by
  have:=ot 48 72057594037927936 281474976710656 rfl rfl (by omega) (A:=b0) (b:=b1) (by omega) h1 (by omega)
  grind
 have e2 : jq .u64 ((b0 * 256 + b1) * 281474976710656) (eR .u64 (IntKind.u64.wrap b2) 40) = ((b0 * 256 + b1) * 256 + b2) * 1099511627776:=by
  have:=ot 40 281474976710656 1099511627776 rfl rfl (by omega) (A:=(b0 * 256 + b1)) (b:=b2) (by omega) h2 (by omega)
  grind
 have e3 : jq .u64 (((b0 * 256 + b1) * 256 + b2) * 1099511627776) (eR .u64 (IntKind.u64.wrap b3) 32) = (((b0 * 256 + b1) * 256 + b2) * 256 + b3) * 4294967296:=by
  have:=ot 32 1099511627776 4294967296 rfl rfl (by omega) (A:=((b0 * 256 + b1) * 256 + b2)) (b:=b3) (by omega) h3 (by omega)
  grind
 have e4 : jq .u64 ((((b0 * 256 + b1) * 256 + b2) * 256 + b3) * 4294967296) (eR .u64 (IntKind.u64.wrap b4) 24) = ((((b0 * 256 + b1) * 256 + b2) * 256 + b3) * 256 + b4) * 16777216:=by
  have:=ot 24 4294967296 16777216 rfl rfl (by omega) (A:=(((b0 * 256 + b1) * 256 + b2) * 256 + b3)) (b:=b4) (by omega) h4 (by omega)
  grind
 have e5 : jq .u64 (((((b0 * 256 + b1) * 256 + b2) * 256 + b3) * 256 + b4) * 16777216) (eR .u64 (IntKind.u64.wrap b5) 16) = (((((b0 * 256 + b1) * 256 + b2) * 256 + b3) * 256 + b4) * 256 + b5) * 65536:=by
  have:=ot 16 16777216 65536 rfl rfl (by omega) (A:=((((b0 * 256 + b1) * 256 + b2) * 256 + b3) * 256 + b4)) (b:=b5) (by omega) h5 (by omega)
  grind
 have e6 : jq .u64 ((((((b0 * 256 + b1) * 256 + b2) * 256 + b3) * 256 + b4) * 256 + b5) * 65536) (eR .u64 (IntKind.u64.wrap b6) 8) = ((((((b0 * 256 + b1) * 256 + b2) * 256 + b3) * 256 + b4) * 256 + b5) * 256 + b6) * 256:=by
  have:=ot 8 65536 256 rfl rfl (by omega) (A:=(((((b0 * 256 + b1) * 256 + b2) * 256 + b3) * 256 + b4) * 256 + b5)) (b:=b6) (by omega) h6 (by omega)
  grind
 have e7 : jq .u64 (((((((b0 * 256 + b1) * 256 + b2) * 256 + b3) * 256 + b4) * 256 + b5) * 256 + b6) * 256) (eR .u64 (IntKind.u64.wrap b7) 0) = (((((((b0 * 256 + b1) * 256 + b2) * 256 + b3) * 256 + b4) * 256 + b5) * 256 + b6) * 256 + b7) * 1:=by
  have:=ot 0 256 1 rfl rfl (by omega) (A:=((((((b0 * 256 + b1) * 256 + b2) * 256 + b3) * 256 + b4) * 256 + b5) * 256 + b6)) (b:=b7) (by omega) h7 (by omega)
  grind
 rw [e0,e1,e2,e3,e4,e5,e6,e7]
 have f0 : IntKind.u64.wrap ((IntKind.u64.wrap (0 * 256)) + (IntKind.u64.wrap b0)) = b0:=by
  grind [aV]
 have f1 : IntKind.u64.wrap ((IntKind.u64.wrap (b0 * 256)) + (IntKind.u64.wrap b1)) = (b0 * 256 + b1):=by
  grind [aV]
 have f2 : IntKind.u64.wrap ((IntKind.u64.wrap ((b0 * 256 + b1) * 256)) + (IntKind.u64.wrap b2)) = ((b0 * 256 + b1) * 256 + b2):=by
  grind [aV]
 have f3 : IntKind.u64.wrap ((IntKind.u64.wrap (((b0 * 256 + b1) * 256 + b2) * 256)) + (IntKind.u64.wrap b3)) = (((b0 * 256 + b1) * 256 + b2) * 256 + b3):=by
  grind [aV]
 have f4 : IntKind.u64.wrap ((IntKind.u64.wrap ((((b0 * 256 + b1) * 256 + b2) * 256 + b3) * 256)) + (IntKind.u64.wrap b4)) = ((((b0 * 256 + b1) * 256 + b2) * 256 + b3) * 256 + b4):=by
  grind [aV]
 have f5 : IntKind.u64.wrap ((IntKind.u64.wrap (((((b0 * 256 + b1) * 256 + b2) * 256 + b3) * 256 + b4) * 256)) + (IntKind.u64.wrap b5)) = (((((b0 * 256 + b1) * 256 + b2) * 256 + b3) * 256 + b4) * 256 + b5):=by
  grind [aV]
 have f6 : IntKind.u64.wrap ((IntKind.u64.wrap ((((((b0 * 256 + b1) * 256 + b2) * 256 + b3) * 256 + b4) * 256 + b5) * 256)) + (IntKind.u64.wrap b6)) = ((((((b0 * 256 + b1) * 256 + b2) * 256 + b3) * 256 + b4) * 256 + b5) * 256 + b6):=by
  grind [aV]
 have f7 : IntKind.u64.wrap ((IntKind.u64.wrap (((((((b0 * 256 + b1) * 256 + b2) * 256 + b3) * 256 + b4) * 256 + b5) * 256 + b6) * 256)) + (IntKind.u64.wrap b7)) = (((((((b0 * 256 + b1) * 256 + b2) * 256 + b3) * 256 + b4) * 256 + b5) * 256 + b6) * 256 + b7):=by
  grind [aV]
 simp_all
theorem bj {α : Type} {l : List α} {n : Nat} (h : l.length = n + 1) : ∃ a t,l = a :: t /\ t.length = n:=by
 cases l with
 | nil=>simp at h
 | cons a t=>exact ⟨a,t,rfl,by simpa using h⟩
theorem uQ (b0 b1 b2 b3 b4 b5 b6 b7 : Int) : 0 <= Dk b0 b1 b2 b3 b4 b5 b6 b7 /\ Dk b0 b1 b2 b3 b4 b5 b6 b7 < ah:=by
 grind [m8,Dk]
theorem Bu (y : List Int) (hy : y.length = 32) (hb : ∀ b ∈ y,0 <= b /\ b < 256) : ∃ r,ia.run y = some r /\ cS.run y = some r /\ r.length = 4 /\ aN ah r:=by
 obtain ⟨a0,y0,e_0,hy0⟩:=bj hy
 subst e_0
 obtain ⟨a1,y1,e_1,hy1⟩:=bj hy0
 subst e_1
 obtain ⟨a2,y2,e_2,hy2⟩:=bj hy1
 subst e_2
 obtain ⟨a3,y3,e_3,hy3⟩:=bj hy2
 subst e_3
 obtain ⟨a4,y4,e_4,hy4⟩:=bj hy3
 subst e_4
 obtain ⟨a5,y5,e_5,hy5⟩:=bj hy4
 subst e_5
 obtain ⟨a6,y6,e_6,hy6⟩:=bj hy5
 subst e_6
 obtain ⟨a7,y7,e_7,hy7⟩:=bj hy6
 subst e_7
 obtain ⟨a8,y8,e_8,hy8⟩:=bj hy7
 subst e_8
 obtain ⟨a9,y9,e_9,hy9⟩:=bj hy8
 subst e_9
 obtain ⟨a10,y10,e_10,hy10⟩:=bj hy9
 subst e_10
 obtain ⟨a11,y11,e_11,hy11⟩:=bj hy10
 subst e_11
 obtain ⟨a12,y12,e_12,hy12⟩:=bj hy11
 subst e_12
 obtain ⟨a13,y13,e_13,hy13⟩:=bj hy12
 subst e_13
 obtain ⟨a14,y14,e_14,hy14⟩:=bj hy13
 subst e_14
 obtain ⟨a15,y15,e_15,hy15⟩:=bj hy14
 subst e_15
 obtain ⟨a16,y16,e_16,hy16⟩:=bj hy15
 subst e_16
 obtain ⟨a17,y17,e_17,hy17⟩:=bj hy16
 subst e_17
 obtain ⟨a18,y18,e_18,hy18⟩:=bj hy17
 subst e_18
 obtain ⟨a19,y19,e_19,hy19⟩:=bj hy18
 subst e_19
 obtain ⟨a20,y20,e_20,hy20⟩:=bj hy19
 subst e_20
 obtain ⟨a21,y21,e_21,hy21⟩:=bj hy20
 subst e_21
 obtain ⟨a22,y22,e_22,hy22⟩:=bj hy21
 subst e_22
 obtain ⟨a23,y23,e_23,hy23⟩:=bj hy22
 subst e_23
 obtain ⟨a24,y24,e_24,hy24⟩:=bj hy23
 subst e_24
 obtain ⟨a25,y25,e_25,hy25⟩:=bj hy24
 subst e_25
 obtain ⟨a26,y26,e_26,hy26⟩:=bj hy25
 subst e_26
 obtain ⟨a27,y27,e_27,hy27⟩:=bj hy26
 subst e_27
 obtain ⟨a28,y28,e_28,hy28⟩:=bj hy27
 subst e_28
 obtain ⟨a29,y29,e_29,hy29⟩:=bj hy28
 subst e_29
 obtain ⟨a30,y30,e_30,hy30⟩:=bj hy29
 subst e_30
 obtain ⟨a31,y31,e_31,hy31⟩:=bj hy30
 subst e_31
 have e_y:=List.eq_nil_of_length_eq_zero hy31
 subst e_y
 have ha0:=hb a0 (by simp)
 have ha1:=hb a1 (by simp)
 have ha2:=hb a2 (by simp)
 have ha3:=hb a3 (by simp)
 have ha4:=hb a4 (by simp)
 have ha5:=hb a5 (by simp)
 have ha6:=hb a6 (by simp)
 have ha7:=hb a7 (by simp)
 have ha8:=hb a8 (by simp)
 have ha9:=hb a9 (by simp)
 have ha10:=hb a10 (by simp)
 have ha11:=hb a11 (by simp)
 have ha12:=hb a12 (by simp)
 have ha13:=hb a13 (by simp)
 have ha14:=hb a14 (by simp)
 have ha15:=hb a15 (by simp)
 have ha16:=hb a16 (by simp)
 have ha17:=hb a17 (by simp)
 have ha18:=hb a18 (by simp)
 have ha19:=hb a19 (by simp)
 have ha20:=hb a20 (by simp)
 have ha21:=hb a21 (by simp)
 have ha22:=hb a22 (by simp)
 have ha23:=hb a23 (by simp)
 have ha24:=hb a24 (by simp)
 have ha25:=hb a25 (by simp)
 have ha26:=hb a26 (by simp)
 have ha27:=hb a27 (by simp)
 have ha28:=hb a28 (by simp)
 have ha29:=hb a29 (by simp)
 have ha30:=hb a30 (by simp)
 have ha31:=hb a31 (by simp)
 have s0:=Dg ha0 ha1 ha2 ha3 ha4 ha5 ha6 ha7
 have s1:=Dg ha8 ha9 ha10 ha11 ha12 ha13 ha14 ha15
 have s2:=Dg ha16 ha17 ha18 ha19 ha20 ha21 ha22 ha23
 have s3:=Dg ha24 ha25 ha26 ha27 ha28 ha29 ha30 ha31
 refine ⟨_,UF _ _ _ _ _ _ _ _ _ _ _ _ _ _ _ _ _ _ _ _ _ _ _ _ _ _ _ _ _ _ _ _,?_,rfl,?_⟩
 ·grind [Ul]
 ·rw [s0,s1,s2,s3]
  exact cU.2 ⟨uQ _ _ _ _ _ _ _ _,cU.2 ⟨uQ _ _ _ _ _ _ _ _,cU.2 ⟨uQ _ _ _ _ _ _ _ _,cU.2 ⟨uQ _ _ _ _ _ _ _ _,gP⟩⟩⟩⟩
end Go.Bx.OR
namespace Go.Bx
open Go
def wid (y : List Int) : List Int:=(cS.run y).getD [0,0,0,0]
theorem pe (y : List Int) (hy : y.length = 32) (hb : ∀ b ∈ y,0 <= b /\ b < 256) : ia.run y = some (wid y) /\ cS.run y = some (wid y):=by
 grind [wid,OR.Bu]
theorem lx (y : List Int) (hy : y.length = 32) (hb : ∀ b ∈ y,0 <= b /\ b < 256) : (wid y).length = 4 /\ aN ah (wid y):=by
 grind [wid,OR.Bu]
theorem nW (l : List Int) (h : l.length = 32) : pad l = l:=by simp [pad,h]
theorem pI (y : List Int) (hy : y.length = 32) (hb : ∀ b ∈ y,0 <= b /\ b < 256) : dN.run y = some (wid y):=by
 unfold dN.run dN.top
 rw [pA y (by omega),nW y hy,bind_some,(pe y hy hb).2,bind_some]
def Je (l : List Int) : Int:=l.foldl (fun a b=>a * 256 + b) 0
def iU (l : List Int) : Int:=IntKind.i64.wrap (Je l)
theorem yW (x : Int) : IntKind.i64.wrap x = (x + 9223372036854775808) % 18446744073709551616 - 9223372036854775808:=by
 simp only [IntKind.wrap,IntKind.bits,IntKind.signed]
 simp
 try omega
theorem Mj (N b : Int) (hb : 0 <= b /\ b < 256) : jq .i64 (eR .i64 (IntKind.i64.wrap N) 8) b = IntKind.i64.wrap (N * 256 + b):=by
 unfold jq eR
 have e8 : (2 : Int) ^ (min (8 : Int).toNat IntKind.i64.bits) = 256:=rfl
 rw [e8]
 obtain ⟨c,rfl⟩:=Int.eq_ofNat_of_zero_le hb.1
 have hc : c < 256:=by omega
 obtain ⟨m,hm⟩:=Int.eq_ofNat_of_zero_le (show 0 <= N % 72057594037927936 by omega)
 have hm2 : m < 72057594037927936:=by omega
 have h1 : (BitVec.ofInt IntKind.i64.bits (IntKind.i64.wrap (IntKind.i64.wrap N * 256))).toNat = 2 ^ 8 * m:=by
  rw [BitVec.toNat_ofInt,show (2 ^ IntKind.i64.bits : Nat) = 18446744073709551616 from rfl]
  grind [yW]
 have h2 : (BitVec.ofInt IntKind.i64.bits ((c : Nat) : Int)).toNat = c:=by
  rw [BitVec.toNat_ofInt,show (2 ^ IntKind.i64.bits : Nat) = 18446744073709551616 from rfl]
  omega
 rw [BitVec.toNat_or,h1,h2,<- Nat.two_pow_add_eq_or_of_lt (by omega : c < 2 ^ 8)]
 grind [yW]
def gA (l : List Int) : Prop:=∀ b ∈ l,0 <= b /\ b < 256
theorem FH {α : Type} (Xt : Int->Option α) (K : Nat) (l : List Int) (hl : l.length <= 1000) (hb : gA l) : ∀ (R P : List Int) (n : Nat) (x : Int),R.length < n->l = P ++ R ->
  bd.l0 K Xt n l (IntKind.u64.wrap x) (P.length : Int) = Xt (IntKind.u64.wrap (R.foldl (fun a b=>a * 256 + b) x))
 | R,P,0,x,h,_=>by omega
 | [],P,n + 1,x,h,hc=>by
  simp_all [bd.l0,bd.bq]
 | y :: R,P,n + 1,x,h,hc=>by
  have hlen : l.length = P.length + (R.length + 1):=by rw [hc]; simp
  simp only [bd.l0,bd.bq]
  have hg : l.getD P.length 0 = y:=by rw [hc]; exact ef _ _ _ _
  have hy:=hb y (by rw [hc]; simp)
  rw [if_pos (dT (by omega)),if_pos (by omega),aG (by omega),ag,hg]
  have e : IntKind.u64.wrap ((IntKind.u64.wrap ((IntKind.u64.wrap x) * 256)) + (IntKind.u64.wrap y)) = IntKind.u64.wrap (x * 256 + y):=by
   grind [m8]
  rw [e]
  have ih:=FH Xt K l hl hb R (P ++ [y]) n (x * 256 + y) (by simpa using h) (by simp [hc])
  grind
theorem jm (l : List Int) (hl : l.length <= 1000) (hb : gA l) : bd.run l = some (iU l):=by
 unfold bd.run bd.top
 have:=FH (fun x3=>bd.j0 (fun x2=>some x2) x3) fuel l hl hb l [] fuel 0 (by rw [au]; omega) rfl
 rw [show IntKind.u64.wrap 0 = 0 from rfl] at this
 refine Eq.trans this ?_
 grind [m8,yW,bd.j0,iU,Je]
theorem Ev {α : Type} (Xt : Int->(List Int × Bool × Unit)->Option α) (K : Nat) (c0 : List Int × Bool × Unit) (l : List Int) (hl : l.length <= 1000) (hb : ∀ b ∈ l,0 <= b /\ b < 256) : ∀ (R P : List Int) (n : Nat) (x : Int),R.length < n->l = P ++ R ->
  az.l0 K Xt n (IntKind.i64.wrap x) l (l.length : Int) (P.length : Int) c0 = Xt (IntKind.i64.wrap (R.foldl (fun a b=>a * 256 + b) x)) c0
 | R,P,0,x,h,_=>by omega
 | [],P,n + 1,x,h,hc=>by
  simp_all [az.l0,az.bq]
 | y :: R,P,n + 1,x,h,hc=>by
  have hlen : l.length = P.length + (R.length + 1):=by rw [hc]; simp
  simp only [az.l0,az.bq]
  have hg : l.getD P.length 0 = y:=by rw [hc]; exact ef _ _ _ _
  have hy:=hb y (by rw [hc]; simp)
  rw [if_pos (dT (by omega)),if_pos (by omega),aG (by omega),ag,hg,wrap_i64 (x:=y) (by omega) (by omega),Mj x y hy]
  have ih:=Ev Xt K c0 l hl hb R (P ++ [y]) n (x * 256 + y) (by simpa using h) (by simp [hc])
  grind
abbrev fI : Type:=List Int × Bool × Unit
def jI (n : Nat) (s : fI) : List Int × fI:=if s.1.length < n then (replicate n 0,([],false,())) else (s.1.take n,(s.1.drop n,s.2))
theorem DQ (n : Nat) (hn : n <= 1000) (s : fI) : eB.run (n : Int) s = some ((jI n s).1,(jI n s).2,()):=by
 unfold eB.run eB.top jI
 by_cases h : s.1.length < n
 ·rw [if_pos (dT (by omega)),if_pos ⟨by omega,rfl,aU (by omega) (by omega)⟩,if_pos h]
  rfl
 simp_all [if_neg,ay,take_of_length_le]
theorem lP (n : Nat) (s : fI) : (jI n s).1.length = n:=by
 unfold jI
 grind
theorem mI (n : Nat) {s : fI} (h : gA s.1) : gA (jI n s).1 /\ gA (jI n s).2.1:=by
 unfold jI
 by_cases hn : s.1.length < n
 ·rw [if_pos hn]
  refine ⟨fun b hb=>?_,fun b hb=>by simp at hb⟩
  grind
 ·rw [if_neg hn]
  exact ⟨fun b hb=>h b (List.mem_of_mem_take hb),fun b hb=>h b (List.mem_of_mem_drop hb)⟩
theorem qg (n : Nat) (hn : n <= 1000) (s : fI) (h : gA s.1) : az.run (n : Int) s = some (iU (jI n s).1,(jI n s).2,()):=by
 unfold az.run az.top
 rw [DQ n hn s,bind_some]
 have:=Ev (fun x5 c0=>az.j0 (fun x4 c0=>some (x4,c0,())) x5 c0) fuel (jI n s).2 (jI n s).1 (by rw [lP]; omega) (mI n h).1 (jI n s).1 [] fuel 0 (by rw [au,lP]; omega) rfl
 rw [show IntKind.i64.wrap 0 = 0 from rfl] at this
 exact this
theorem rB (s : fI) : dV.run s = some ((jI 32 s).1,(jI 32 s).2,(jI 32 s).1,()):=by
 unfold dV.run dV.top
 have:=DQ 32 (by omega) s
 rw [show ((32 : Nat) : Int) = 32 from rfl] at this
 rw [this,bind_some,Dd _ (Nat.le_of_eq (lP _ _)),nW _ (lP _ _)]
def vf (N : Nat) (s t : fI) : Prop:=(s.1.length < N->t = ([],false,())) /\ (N <= s.1.length->t = (s.1.drop N,s.2))
theorem kp (n : Nat) (s : fI) : vf n s (jI n s).2:=by
 unfold jI
 constructor
 ·grind
 grind
theorem vf.trans {a b : Nat} {s t u : fI} (h : vf a s t) (g : vf b t u) : vf (a + b) s u:=by
 grind [vf,List.drop_drop]
theorem vf.o9 {n : Nat} {s t : fI} (h : vf n s t) (b : gA s.1) : gA t.1:=by
 by_cases hn : s.1.length < n
 ·rw [h.1 hn]; intro x hx; simp at hx
 ·rw [h.2 (by omega)]; exact fun x hx=>b x (List.mem_of_mem_drop hx)
theorem vf.len {n : Nat} {s t : fI} (h : vf n s t) : t.1.length <= s.1.length:=by
 by_cases hn : s.1.length < n
 ·rw [h.1 hn]; simp
 ·rw [h.2 (by omega)]; simp
def LL (s : fI) : fI:=(jI 1 s).2
def Lo (s : fI) : fI:=(jI 32 (LL s)).2
def Oe (s : fI) : fI:=(jI 32 (Lo s)).2
def NA (s : fI) : fI:=(jI 1 (Oe s)).2
theorem Dl (s : fI) : vf 1 s (LL s):=kp 1 s
theorem CF (s : fI) : vf 33 s (Lo s):=(Dl s).trans (kp 32 (LL s))
theorem HT (s : fI) : vf 65 s (Oe s):=(CF s).trans (kp 32 (Lo s))
theorem DD (s : fI) : vf 66 s (NA s):=(HT s).trans (kp 1 (Oe s))
def yI (s : fI) : o5:=(iU (jI 1 s).1,(wid (jI 32 (LL s)).1,wid (jI 32 (Lo s)).1,iU (jI 1 (Oe s)).1,()),())
def gW : Nat->fI->List o5 × fI
 | 0,s=>([],s)
 | m + 1,s=>(yI s :: (gW m (NA s)).1,(gW m (NA s)).2)
theorem ou : ∀ (m : Nat) (s : fI),vf (66 * m) s (gW m s).2
 | 0,s=>⟨fun h=>by omega,fun _=>by simp [gW]⟩
 | m + 1,s=>by
  have:=(DD s).trans (ou m (NA s))
  rw [show 66 * (m + 1) = 66 + 66 * m by omega]
  exact this
def OJ (s : fI) : fI:=(jI 8 s).2
def O2 (s : fI) : fI:=(jI 4 (OJ s)).2
def OD (s : fI) : fI:=(jI 2 (O2 s)).2
def OK (s : fI) : fI:=(jI 32 (OD s)).2
def OV (s : fI) : fI:=(jI 8 (OK s)).2
def ET (s : fI) : fI:=(jI 1 (OV s)).2
def jy (s : fI) : en:=(iU (jI 8 s).1,iU (jI 4 (OJ s)).1,iU (jI 2 (O2 s)).1,(jI 32 (OD s)).1,iU (jI 8 (OK s)).1,iU (jI 1 (OV s)).1,(ET s).1,())
theorem HQ (s : fI) : vf 8 s (OJ s):=kp 8 s
theorem HJ (s : fI) : vf 12 s (O2 s):=(HQ s).trans (kp 4 (OJ s))
theorem Hw (s : fI) : vf 14 s (OD s):=(HJ s).trans (kp 2 (O2 s))
theorem Im (s : fI) : vf 46 s (OK s):=(Hw s).trans (kp 32 (OD s))
theorem Hk (s : fI) : vf 54 s (OV s):=(Im s).trans (kp 8 (OK s))
theorem Dv (s : fI) : vf 55 s (ET s):=(Hk s).trans (kp 1 (OV s))
theorem AG (s : fI) (h : gA s.1) : (az.run 1 s = some (iU (jI 1 s).1,(jI 1 s).2,()) /\ az.run 2 s = some (iU (jI 2 s).1,(jI 2 s).2,())) /\ (az.run 4 s = some (iU (jI 4 s).1,(jI 4 s).2,()) /\ az.run 8 s = some (iU (jI 8 s).1,(jI 8 s).2,())) :=
 ⟨⟨qg 1 (by omega) s h,qg 2 (by omega) s h⟩,qg 4 (by omega) s h,qg 8 (by omega) s h⟩
theorem Ft (s : fI) (hb : gA s.1) (hl : s.1.length <= 140737488351232) : gg.run s = some ((jy s).1,(jy s).2.1,(jy s).2.2.1,(jy s).2.2.2.1,(jy s).2.2.2.2.1,(jy s).2.2.2.2.2.1,ET s,
  (jy s).1,(jy s).2.1,(jy s).2.2.1,(jy s).2.2.2.1,(jy s).2.2.2.2.1,(jy s).2.2.2.2.2.1,(ET s).1,()):=by
 have a6:=(Dv s).len
 unfold gg.run gg.top
 rw [(AG s hb).2.2,bind_some]
 simp only []
 rw [show (jI 8 s).2 = OJ s from rfl,(AG _ ((HQ s).o9 hb)).2.1,bind_some]
 simp only []
 rw [show (jI 4 (OJ s)).2 = O2 s from rfl,(AG _ ((HJ s).o9 hb)).1.2,bind_some]
 simp only []
 rw [show (jI 2 (O2 s)).2 = OD s from rfl,rB,bind_some]
 simp only []
 rw [show (jI 32 (OD s)).2 = OK s from rfl,(AG _ ((Im s).o9 hb)).2.2,bind_some]
 simp only []
 rw [show (jI 8 (OK s)).2 = OV s from rfl,(AG _ ((Hk s).o9 hb)).1.1,bind_some]
 simp only []
 rw [show (jI 1 (OV s)).2 = ET s from rfl,if_pos (Hx (show (0 + (ET s).1.length) * 1 <= 140737488355328 by omega) (show 0 + (ET s).1.length <= 140737488355328 by omega))]
 simp only [jy]
theorem Ej {α : Type} (Xt : Int->Int->Int->Int->List Int->Int->Int->Int->Int->Int->Int->List Int->Int->Int->fI->List o5->Option α) (K : Nat)
  (a1 a2 a3 a4 : Int) (a5 : List Int) (a6 a7 a8 a9 a10 a11 : Int) (a12 : List Int) (a13 a14 : Int) (N : Nat) (hN : N <= 255) : ∀ (m i n : Nat) (s : fI) (c : List o5),m < n->i + m = N->c.length = i->gA s.1 ->
  fc.l0 K Xt n (N : Int) (i : Int) a1 a2 a3 a4 a5 a6 a7 a8 a9 a10 a11 a12 a13 a14 s c = Xt a1 a2 a3 a4 a5 a6 a7 a8 a9 a10 a11 a12 a13 a14 (gW m s).2 (c ++ (gW m s).1)
 | m,i,0,s,c,h,_,_,_=>by omega
 | 0,i,n + 1,s,c,h,hi,hc,hb=>by
  simp_all [fc.l0,fc.bq,gW]
 | m + 1,i,n + 1,s,c,h,hi,hc,hb=>by
  simp only [fc.l0,fc.bq]
  have w1:=pe _ (lP 32 (LL s)) (mI 32 ((Dl s).o9 hb)).1
  have w2:=pe _ (lP 32 (Lo s)) (mI 32 ((CF s).o9 hb)).1
  rw [if_pos (dT (by omega)),(AG s hb).1.1,bind_some]
  simp only []
  rw [show (jI 1 s).2 = LL s from rfl,rB,bind_some]
  simp only []
  rw [show (jI 32 (LL s)).2 = Lo s from rfl,w1.1,bind_some,rB,bind_some]
  simp only []
  rw [show (jI 32 (Lo s)).2 = Oe s from rfl,w2.1,bind_some,(AG _ ((HT s).o9 hb)).1.1,bind_some,if_pos (aU (by omega) (by omega)),aG (by omega)]
  simp only []
  rw [show (jI 1 (Oe s)).2 = NA s from rfl,show (iU (jI 1 s).1,(wid (jI 32 (LL s)).1,wid (jI 32 (Lo s)).1,iU (jI 1 (Oe s)).1,()),()) = yI s from rfl]
  refine (Ej Xt K a1 a2 a3 a4 a5 a6 a7 a8 a9 a10 a11 a12 a13 a14 N hN m (i + 1) n (NA s) (c ++ [yI s]) (by omega) (by omega) (by simp; omega) ((DD s).o9 hb)).trans ?_
  grind [gW]
abbrev HD : mU:=(0,[],(0,0,0,replicate 32 0,0,0,[],()),())
def HY (b : List Int) : fI:=(jI 1 (b,true,())).2
def M8 (b : List Int) : fI:=(jI 4 (HY b)).2
def Gl (b : List Int) : fI:=(jI 1 (M8 b)).2
theorem xN (b : List Int) : vf 1 (b,true,()) (HY b):=kp 1 _
theorem xL (b : List Int) : vf 5 (b,true,()) (M8 b):=(xN b).trans (kp 4 (HY b))
theorem pM (b : List Int) : vf 6 (b,true,()) (Gl b):=(xL b).trans (kp 1 (M8 b))
def vV (b : List Int) : Int:=iU (jI 1 (b,true,())).1
def sV (b : List Int) : Int:=iU (jI 4 (HY b)).1
def nV (b : List Int) : Int:=iU (jI 1 (M8 b)).1
def G1 (b : List Int) : List o5:=(gW (nV b).toNat (Gl b)).1
def wJ (b : List Int) : fI:=(gW (nV b).toNat (Gl b)).2
def pV (b : List Int) : mU:=(sV b,G1 b,jy (wJ b),())
def xH (b : List Int) : mU × Int × Unit :=
 if (HY b).2.1 = true /\ vV b ≠ 1 then (HD,3,())
 else if (Gl b).2.1 = true /\ nV b > 19 then (HD,1,())
 else if (ET (wJ b)).2.1 = true then (if oC (pV b) = 0 then (pV b,0,()) else (HD,oC (pV b),()))
 else (HD,4,())
theorem OP (l : List Int) (h : l.length = 1) (hb : gA l) : 0 <= iU l /\ iU l <= 255 /\ iU l = l.getD 0 0:=by
 obtain ⟨x,t,rfl,ht⟩:=OR.bj (n:=0) h
 have:=List.eq_nil_of_length_eq_zero ht
 subst this
 have hx:=hb x (by simp)
 grind [wrap_i64,iU,Je]
theorem Gp (b : List Int) (hb : gA b) (hl : b.length <= 140737488351232) : fc.run b = some (xH b):=by
 have hb0 : gA ((b,true,()) : fI).1:=hb
 have hd1:=(xN b).o9 hb0
 have hd2:=(xL b).o9 hb0
 have hd3:=(pM b).o9 hb0
 unfold fc.run fc.top xH
 rw [(AG (b,true,()) hb0).1.1,bind_some]
 simp only [bS]
 rw [show (jI 1 (b,true,())).2 = HY b from rfl,show iU (jI 1 (b,true,())).1 = vV b from rfl]
 by_cases c1 : (HY b).2.1 = true /\ vV b ≠ 1
 ·grind
 ·rw [if_neg (fun hh=>c1 (by rw [and_eq_true] at hh; exact ⟨hh.1,by simpa using hh.2⟩)),if_neg c1]
  rw [(AG _ hd1).2.1,bind_some]
  simp only []
  rw [show (jI 4 (HY b)).2 = M8 b from rfl,show iU (jI 4 (HY b)).1 = sV b from rfl,(AG _ hd2).1.1,bind_some]
  simp only []
  obtain ⟨n1,n2,_⟩:=OP _ (lP 1 (M8 b)) (mI 1 hd2).1
  rw [show (jI 1 (M8 b)).2 = Gl b from rfl,show iU (jI 1 (M8 b)).1 = nV b from rfl] at *
  by_cases c2 : (Gl b).2.1 = true /\ nV b > 19
  ·grind
  ·rw [if_neg (fun hh=>c2 (by rw [and_eq_true] at hh; exact ⟨hh.1,by simpa using hh.2⟩)),if_neg c2]
   obtain ⟨N,hN⟩:=Int.eq_ofNat_of_zero_le n1
   have hN' : (nV b).toNat = N:=by rw [hN]; rfl
   have a4 : vf (6 + 66 * N) (b,true,()) (wJ b):=by
    have:=(pM b).trans (ou N (Gl b))
    grind [wJ]
   rw [hN]
   refine (Ej _ fuel 0 0 0 0 (replicate 32 0) 0 0 _ 0 0 0 (replicate 32 0) 0 0 N (by omega) N 0 fuel _ [] (by rw [au]; omega) (by omega) rfl hd3).trans ?_
   unfold fc.j0
   rw [show (gW N (Gl b)).2 = wJ b by unfold wJ; rw [hN'],show (gW N (Gl b)).1 = G1 b by unfold G1; rw [hN'],List.nil_append]
   rw [Ft _ (a4.o9 hb0) (Nat.le_trans a4.len hl),bind_some]
   simp only []
   by_cases c3 : (ET (wJ b)).2.1 = true
   ·rw [if_neg (by rw [c3]; decide),if_pos c3]
    rw [show (sV b,G1 b,((jy (wJ b)).1,(jy (wJ b)).2.1,(jy (wJ b)).2.2.1,(jy (wJ b)).2.2.2.1,(jy (wJ b)).2.2.2.2.1,(jy (wJ b)).2.2.2.2.2.1,(ET (wJ b)).1,()),()) = pV b by simp only [pV,jy],xJ,bind_some]
    grind
   grind
theorem eA {n : Nat} {l : List Int} {u : Bool × Unit} (h : n <= l.length) : jI n (l,u) = (l.take n,(l.drop n,u)):=by
 simp_all [if_neg,jI]
theorem jL (l : List Int) (a b : Nat) : ay l (a : Int) (b : Int) = (l.drop a).take (b - a):=by simp [ay]
theorem za {l : List Int} {n : Nat} (h : n < l.length) (hb : gA l) : iU ((l.drop n).take 1) = IntKind.i64.wrap (l.getD n 0):=by
 have e : (l.drop n).take 1 = [l.getD n 0]:=by
  grind [List.drop_eq_getElem_cons]
 simp_all [iU,Je]
theorem F0 {l : List Int} {u : Bool × Unit} (h : 66 <= l.length) (hb : gA l) : yI (l,u) = (IntKind.i64.wrap (l.getD 0 0),(wid (ay l 1 33),wid (ay l 33 65),IntKind.i64.wrap (l.getD 65 0),()),()) /\ NA (l,u) = (l.drop 66,u):=by
 have e1 : LL (l,u) = (l.drop 1,u):=by unfold LL; rw [eA (by omega)]
 have e2 : Lo (l,u) = (l.drop 33,u):=by unfold Lo; rw [e1,eA (by rw [length_drop]; omega)]; simp
 have e3 : Oe (l,u) = (l.drop 65,u):=by unfold Oe; rw [e2,eA (by rw [length_drop]; omega)]; simp
 have e4 : NA (l,u) = (l.drop 66,u):=by unfold NA; rw [e3,eA (by rw [length_drop]; omega)]; simp
 refine ⟨?_,e4⟩
 have c1 : ay l 1 33 = (l.drop 1).take 32:=jL l 1 33
 have c2 : ay l 33 65 = (l.drop 33).take 32:=jL l 33 65
 unfold yI
 rw [e1,e2,e3,eA (by omega),eA (by rw [length_drop]; omega),eA (by rw [length_drop]; omega),eA (by rw [length_drop]; omega)]
 have n0:=za (n:=0) (l:=l) (by omega) hb
 grind [za]
theorem Ha {l : List Int} {u : Bool × Unit} (h : 55 <= l.length) (hb : gA l) : jy (l,u) = (iU (ay l 0 8),iU (ay l 8 12),iU (ay l 12 14),ay l 14 46,iU (ay l 46 54),IntKind.i64.wrap (l.getD 54 0),ay l 55 (l.length : Int),()) /\ ET (l,u) = (l.drop 55,u):=by
 have e1 : OJ (l,u) = (l.drop 8,u):=by unfold OJ; rw [eA (by omega)]
 have e2 : O2 (l,u) = (l.drop 12,u):=by unfold O2; rw [e1,eA (by rw [length_drop]; omega)]; simp
 have e3 : OD (l,u) = (l.drop 14,u):=by unfold OD; rw [e2,eA (by rw [length_drop]; omega)]; simp
 have e4 : OK (l,u) = (l.drop 46,u):=by unfold OK; rw [e3,eA (by rw [length_drop]; omega)]; simp
 have e5 : OV (l,u) = (l.drop 54,u):=by unfold OV; rw [e4,eA (by rw [length_drop]; omega)]; simp
 have e6 : ET (l,u) = (l.drop 55,u):=by unfold ET; rw [e5,eA (by rw [length_drop]; omega)]; simp
 refine ⟨?_,e6⟩
 have c1 : ay l 0 8 = l.take 8:=jL l 0 8
 have c2 : ay l 8 12 = (l.drop 8).take 4:=jL l 8 12
 have c3 : ay l 12 14 = (l.drop 12).take 2:=jL l 12 14
 have c4 : ay l 14 46 = (l.drop 14).take 32:=jL l 14 46
 have c5 : ay l 46 54 = (l.drop 46).take 8:=jL l 46 54
 have c6 : ay l 55 (l.length : Int) = l.drop 55:=by
  grind [take_of_length_le,jL]
 unfold jy
 rw [e1,e2,e3,e4,e5,e6,eA (by omega),eA (by rw [length_drop]; omega),eA (by rw [length_drop]; omega),eA (by rw [length_drop]; omega),eA (by rw [length_drop]; omega),eA (by rw [length_drop]; omega)]
 grind [za]
theorem jF {l : List Int} (h : gA l) (n : Nat) : gA (l.drop n):=fun b hb=>h b (List.mem_of_mem_drop hb)
theorem ma {l : List Int} (h : gA l) (n : Nat) : gA (l.take n):=fun b hb=>h b (List.mem_of_mem_take hb)
theorem Hh {α : Type} (Xt : List Int->Int->Int->Int->Int->List Int->Int->Int->Int->Int->Int->Int->List Int->Int->Int->List o5->Option α) (K : Nat)
  (a1 a2 a3 a4 : Int) (a5 : List Int) (a6 a7 a8 a9 a10 a11 : Int) (a12 : List Int) (a13 a14 : Int) (N : Nat) (hN : N <= 255) : ∀ (m i n : Nat) (l : List Int) (c : List o5),m < n->i + m = N->c.length = i->gA l->66 * m <= l.length ->
  cJ.l0 K Xt n l (N : Int) (i : Int) a1 a2 a3 a4 a5 a6 a7 a8 a9 a10 a11 a12 a13 a14 c = Xt (l.drop (66 * m)) a1 a2 a3 a4 a5 a6 a7 a8 a9 a10 a11 a12 a13 a14 (c ++ (gW m (l,true,())).1)
 | m,i,0,l,c,h,_,_,_,_=>by omega
 | 0,i,n + 1,l,c,h,hi,hc,hb,hl=>by
  simp_all [cJ.l0,cJ.bq,gW]
 | m + 1,i,n + 1,l,c,h,hi,hc,hb,hl=>by
  simp only [cJ.l0,cJ.bq]
  obtain ⟨v1,v2⟩:=F0 (u:=(true,())) (show 66 <= l.length by omega) hb
  have c1 : ay l 1 33 = (l.drop 1).take 32:=jL l 1 33
  have c2 : ay l 33 65 = (l.drop 33).take 32:=jL l 33 65
  have c6 : ay l 66 (l.length : Int) = l.drop 66:=by
   grind [take_of_length_le,jL]
  have w1:=pI (ay l 1 33) (by rw [c1]; simp; omega) (by rw [c1]; exact ma (jF hb 1) 32)
  have w2:=pI (ay l 33 65) (by rw [c2]; simp; omega) (by rw [c2]; exact ma (jF hb 33) 32)
  rw [if_pos (dT (by omega)),if_pos (by omega),if_pos (by omega),w1,bind_some,if_pos (by omega),w2,bind_some,if_pos (by omega),if_pos (aU (by omega) (by omega)),if_pos (by omega),aG (by omega),<- v1,c6]
  refine (Hh Xt K a1 a2 a3 a4 a5 a6 a7 a8 a9 a10 a11 a12 a13 a14 N hN m (i + 1) n (l.drop 66) (c ++ [yI (l,true,())]) (by omega) (by omega) (by simp; omega) (jF hb 66) (by simp; omega)).trans ?_
  grind [gW,List.drop_drop]
theorem PW (b : List Int) (hb : gA b) (hl : b.length <= 140737488351232) : cJ.run b = some (xH b):=by
 have dead : ∀ N : Nat,b.length < N->∀ s,vf N (b,true,()) s->s = ([],false,()):=fun N h s g=>g.1 h
 have hN0 : ∃ N : Nat,nV b = N:=by
  obtain ⟨n1,n2,_⟩:=OP _ (lP 1 (M8 b)) (mI 1 ((xL b).o9 hb)).1
  exact Int.eq_ofNat_of_zero_le n1
 obtain ⟨N,hN⟩:=hN0
 have hN' : (nV b).toNat = N:=by rw [hN]; rfl
 have a4 : vf (6 + 66 * N) (b,true,()) (wJ b):=by
  have:=(pM b).trans (ou N (Gl b))
  grind [wJ]
 have a5 : vf (6 + 66 * N + 55) (b,true,()) (ET (wJ b)):=a4.trans (Dv _)
 unfold cJ.run cJ.top xH
 by_cases h0 : b.length = 0
 ·have hbe : b = []:=List.eq_nil_of_length_eq_zero h0
  rw [if_pos (by rw [hbe]; rfl)]
  have d1:=dead 1 (by omega) _ (xN b)
  have d3:=dead 6 (by omega) _ (pM b)
  grind
 ·rw [if_neg (by rw [jB .str _ _ rfl]; intro hh; exact h0 (by rw [hh]; rfl)),if_pos (by omega)]
  have hv : vV b = b.getD 0 0 /\ (HY b).2.1 = true:=by
   unfold vV HY
   rw [eA (by omega)]
   refine ⟨?_,rfl⟩
   have:=za (n:=0) (l:=b) (by omega) hb
   rw [List.drop_zero] at this
   refine this.trans ?_
   have hx:=hb (b.getD 0 0) (by rw [getD_eq (by omega)]; exact List.getElem_mem _)
   grind [wrap_i64]
  rw [hv.2,hv.1]
  by_cases h1 : b.getD 0 0 = 1
  ·rw [if_neg (by rw [h1]; decide),if_neg (show ¬(true = true /\ b.getD 0 0 ≠ 1) from fun hh=>hh.2 h1)]
   by_cases h6 : b.length < 6
   ·have d3:=dead 6 (by omega) _ (pM b)
    grind
   ·have e3 : Gl b = (b.drop 6,true,()):=(pM b).2 (by show 6 <= b.length; omega)
    have e2 : M8 b = (b.drop 5,true,()):=(xL b).2 (by show 5 <= b.length; omega)
    have e1 : HY b = (b.drop 1,true,()):=(xN b).2 (by show 1 <= b.length; omega)
    have hn : nV b = IntKind.i64.wrap (b.getD 5 0):=by
     grind [eA,nV,za]
    rw [if_neg (dF (by omega)),if_pos (by omega),<- hn,e3]
    by_cases h19 : nV b > 19
    ·grind
    ·rw [if_neg (show ¬(decide (nV b > 19) = true) by simpa using h19),if_neg (show ¬((((b.drop 6),true,()) : fI).2.1 = true /\ nV b > 19) from fun hh=>h19 hh.2),hN]
     have hN19 : N <= 19:=by omega
     rw [wrap_i64 (x:=66 * (N : Int)) (by omega) (by omega),wrap_i64 (x:=6 + 66 * (N : Int)) (by omega) (by omega),wrap_i64 (x:=6 + 66 * (N : Int) + 55) (by omega) (by omega)]
     by_cases hs : b.length < 6 + 66 * N + 55
     ·grind
     ·have e4 : wJ b = (b.drop (6 + 66 * N),true,()):=a4.2 (by show _ <= b.length; omega)
      have e6 : ET (wJ b) = (b.drop (6 + 66 * N + 55),true,()):=a5.2 (by show _ <= b.length; omega)
      have c1 : ay b 1 5 = (b.drop 1).take 4:=jL b 1 5
      have c6 : ay b 6 (b.length : Int) = b.drop 6:=by
       grind [take_of_length_le,jL]
      have hsV : iU (ay b 1 5) = sV b:=by
       grind [eA,sV]
      have hG : (gW N (b.drop 6,true,())).1 = G1 b:=by unfold G1; rw [hN',e3]
      have hlen : (b.drop (6 + 66 * N)).length = b.length - (6 + 66 * N):=length_drop
      obtain ⟨y1,_⟩:=Ha (l:=b.drop (6 + 66 * N)) (u:=(true,())) (by omega) (jF hb _)
      rw [if_neg (dF (by omega)),if_pos (by omega),jm _ (by rw [c1]; simp; omega) (by rw [c1]; exact ma (jF hb 1) 4),bind_some,if_pos (by omega),c6,hsV]
      refine (Hh _ fuel 0 0 0 0 (replicate 32 0) 0 0 _ 0 0 0 (replicate 32 0) 0 0 N (by omega) N 0 fuel (b.drop 6) [] (by rw [au]; omega) (by omega) rfl (jF hb 6) (by simp; omega)).trans ?_
      rw [List.drop_drop,List.nil_append,hG]
      unfold cJ.j0
      have hby:=jF hb (6 + 66 * N)
      generalize hq : b.drop (6 + 66 * N) = q at *
      have k1 : ay q 0 8 = q.take 8:=jL q 0 8
      have k2 : ay q 8 12 = (q.drop 8).take 4:=jL q 8 12
      have k3 : ay q 12 14 = (q.drop 12).take 2:=jL q 12 14
      have k4 : ay q 14 46 = (q.drop 14).take 32:=jL q 14 46
      have k5 : ay q 46 54 = (q.drop 46).take 8:=jL q 46 54
      have kw : (ay q 14 46).length = 32:=by rw [k4]; simp; omega
      rw [if_pos (by omega),jm _ (by rw [k1]; simp; omega) (by rw [k1]; exact ma hby 8),bind_some,
       if_pos (by omega),jm _ (by rw [k2]; simp; omega) (by rw [k2]; exact ma (jF hby 8) 4),bind_some,
       if_pos (by omega),jm _ (by rw [k3]; simp; omega) (by rw [k3]; exact ma (jF hby 12) 2),bind_some,
       if_pos (by omega),pA _ (by omega),nW _ kw,bind_some,
       if_pos (by omega),jm _ (by rw [k5]; simp; omega) (by rw [k5]; exact ma (jF hby 46) 8),bind_some,
       if_pos (by omega),if_pos (by omega),<- y1,<- e4]
      rw [show (sV b,G1 b,jy (wJ b),()) = pV b from rfl,vJ,bind_some,e6]
      grind
  grind
theorem LF (b : List Int) : (xH b).1.2.1.length <= 19:=by
 unfold xH
 by_cases c1 : (HY b).2.1 = true /\ vV b ≠ 1
 ·grind
 ·rw [if_neg c1]
  by_cases c2 : (Gl b).2.1 = true /\ nV b > 19
  ·grind
  ·rw [if_neg c2]
   by_cases c3 : (ET (wJ b)).2.1 = true
   ·rw [if_pos c3]
    by_cases c4 : oC (pV b) = 0
    ·simp_all [JA]
    grind
   grind
theorem po (n m : Int) : bu.run n m = some (decide (0 <= n) && decide (n <= m)):=by
 simp_all [bu.run,bu.top]
theorem NO (x b : Bool) : (if (x == true) = true then some b else some false) = some (x && b):=by cases x <;> rfl
theorem PO (a b c d a' b' c' d' : Int) : cD.run [a,b,c,d] [a',b',c',d'] =
  if decide (d < d') = true then some (-1) else if decide (d > d') = true then some 1 else
  if decide (c < c') = true then some (-1) else if decide (c > c') = true then some 1 else
  if decide (b < b') = true then some (-1) else if decide (b > b') = true then some 1 else
  if decide (a < a') = true then some (-1) else if decide (a > a') = true then some 1 else some 0:=by kernel_rfl
theorem nP {l m : List Int} (hl : l.length = 4) (hm : m.length = 4) (dl : aN ah l) (dm : aN ah m) :
  cD.run l m = some (if val ah l < val ah m then -1 else if val ah l > val ah m then 1 else 0):=by
 obtain ⟨a,b,c,d,rfl⟩:=eT hl
 obtain ⟨a',b',c',d',rfl⟩:=eT hm
 have h1:=dl a (by simp)
 have h2:=dl b (by simp)
 have h3:=dl c (by simp)
 have h4:=dl d (by simp)
 have g1:=dm a' (by simp)
 have g2:=dm b' (by simp)
 have g3:=dm c' (by simp)
 have g4:=dm d' (by simp)
 rw [PO]
 simp only [decide_eq_true_eq]
 by_cases c1 : val ah [a,b,c,d] < val ah [a',b',c',d']
 ·rw [if_pos c1]
  simp only [val,ah] at c1 h1 h2 h3 h4 g1 g2 g3 g4
  repeat' split
  all_goals first | rfl | (exfalso; omega)
 ·rw [if_neg c1]
  by_cases c2 : val ah [a,b,c,d] > val ah [a',b',c',d']
  ·rw [if_pos c2]
   simp only [val,ah] at c1 c2 h1 h2 h3 h4 g1 g2 g3 g4
   repeat' split
   all_goals first | rfl | (exfalso; omega)
  ·rw [if_neg c2]
   simp only [val,ah] at c1 c2 h1 h2 h3 h4 g1 g2 g3 g4
   repeat' split
   all_goals first | rfl | (exfalso; omega)
abbrev jf : Type:=Int × List Int × List Int × List Int × Int × List Int × Int × Int × List Int × List Int × Int × List (List Int) × Unit
theorem vG {l m : List Int} (hl : l.length = 4) (hm : m.length = 4) (dl : aN ah l) (dm : aN ah m) : ∃ c,cD.run l m = some c /\ aF.run l m = some c:=by
 obtain ⟨o1,e1,n1,g1,v1⟩:=fE hl dl
 obtain ⟨o2,e2,n2,g2,v2⟩:=fE hm dm
 simp_all [nP,mr,aF.run,aF.top]
theorem vu (n m : Int) : gL.run n m = some (decide (0 <= n) && decide (n <= m)):=by
 simp_all [gL.run,gL.top]
theorem Rj (b : Bool) (c d : Int) : (if (b == true) = true then some c else some d) = some (if b = true then c else d):=by cases b <;> rfl
theorem PE {α : Type} (b : Bool) (c d : α) : (if ((not b) == false) = true then some c else some d) = some (if b = true then c else d):=by cases b <;> rfl
abbrev z4 : List Int:=[0,0,0,0]
abbrev DI : List Int:=replicate 32 0
abbrev R2 (a b : List Int) : Bool:=ax (.arr 4 (.int .u64)) a b
abbrev SQ (a b : List Int) : Bool:=ax (.arr 32 (.int .u8)) a b
abbrev O7 (a b : List Int) : Bool:=ax .str a b
section
variable (kd : Int) (am fe tk : List Int) (ho : Int) (to : List Int) (tc de : Int) (sy da : List Int) (ix : Int) (ks : List (List Int))
theorem oS (h : kd = 1 \/ kd = 3) : cw.run kd = some (.inl ((kd == 3,()),true,())):=by
 grind [cw.run,cw.top,cw.j0]
theorem vz : cw.run 2 = some (.inr (.inl ((),true,()))):=rfl
theorem vU : cw.run 4 = some (.inr (.inr (.inl ((),true,())))):=rfl
theorem B9 (h1 : kd ≠ 1) (h2 : kd ≠ 2) (h3 : kd ≠ 3) (h4 : kd ≠ 4) : cw.run kd = some (.inr (.inr (.inr (.inl (false,()))))):=by
 simp_all [cw.run,cw.top,cw.j0]
def zD : Bool:=(de == 0) && O7 sy [] && (ix == 0) && decide (ks.length = 0)
def DW : Bool:=R2 am z4 && R2 fe z4 && SQ to DI && (tc == 0) && (ix == 0) && O7 da [] && decide (ks.length = 0)
def Fp : Bool:=R2 am z4 && R2 fe z4 && SQ tk DI && (ho == 0) && SQ to DI && (tc == 0) && (de == 0) && O7 sy [] && O7 da []
theorem EK {α : Type} (l : List α) : ((l.length : Int) == ((([] : List α).length : Nat) : Int)) = decide (l.length = 0):=by
 grind
theorem Pf : gG.run (kd,am,fe,tk,ho,to,tc,de,sy,da,ix,ks,()) (kd,am,fe,tk,ho,to,tc,0,[],da,0,[],()) = some (zD de sy ix ks):=by
 unfold gG.run gG.top zD
 simp only [BEq.rfl,cE (.arr 4 (.int .u64)) _ rfl,cE (.arr 32 (.int .u8)) _ rfl,cE .str _ rfl,cond_true,bS,Bool.and_true,Bool.true_and,EK]
theorem Pv : gG.run (kd,am,fe,tk,ho,to,tc,de,sy,da,ix,ks,()) (kd,z4,z4,tk,ho,DI,0,de,sy,[],0,[],()) = some (DW am fe to tc da ix ks):=by
 unfold gG.run gG.top DW
 simp only [BEq.rfl,cE (.arr 4 (.int .u64)) _ rfl,cE (.arr 32 (.int .u8)) _ rfl,cE .str _ rfl,cond_true,bS,Bool.and_true,Bool.true_and,EK]
theorem Qv : gG.run (kd,am,fe,tk,ho,to,tc,de,sy,da,ix,ks,()) (kd,z4,z4,DI,0,DI,0,0,[],[],ix,ks,()) = some (Fp am fe tk ho to tc de sy da):=by
 simp_all [gG.run,gG.top,Fp]
theorem sK {α : Type} (k n : Nat) (Rt : Bool->Option α) (Xt : jf->jf->Option α) (a b : jf) : aI.l0 k Rt Xt (n + 1) 0 0 a b = Xt a b:=by
 rfl
theorem xZ (l : List Int) : ax .str l [] = decide (l.length = 0):=by
 cases l with
 | nil=>rfl
 | cons a l=>rfl
theorem N4 : aI.run (kd,am,fe,tk,ho,to,tc,de,sy,da,ix,ks,()) (kd,am,fe,tk,ho,to,tc,0,[],da,0,[],()) = some (zD de sy ix ks):=by
 unfold aI.run aI.top zD
 simp only [cE .str _ rfl]
 by_cases hk : ks.length = 0
 ·rw [if_neg (by rw [cA]; simp [hk]),hk]
  refine (sK fuel 18446744073709551615 (fun x4=>some x4) (fun c2 c3=>aI.j0 (fun x4=>some x4) c2 c3) _ _).trans ?_
  unfold aI.j0
  simp only [BEq.rfl,cE (.arr 4 (.int .u64)) _ rfl,cE (.arr 32 (.int .u8)) _ rfl,cE .str _ rfl,cond_true,bS,Bool.and_true,Bool.true_and,decide_true]
 grind
theorem NK : aI.run (kd,am,fe,tk,ho,to,tc,de,sy,da,ix,ks,()) (kd,z4,z4,tk,ho,DI,0,de,sy,[],0,[],()) = some (DW am fe to tc da ix ks):=by
 unfold aI.run aI.top DW
 by_cases hk : ks.length = 0
 ·cases hd : ax .str da [] with
  | false =>
   rw [if_pos (by rw [cA]; simp [hd])]
   simp [O7,hd]
  | true =>
   rw [if_neg (by rw [cA]; simp [hk,hd]),hk]
   refine (sK fuel 18446744073709551615 (fun x4=>some x4) (fun c2 c3=>aI.j0 (fun x4=>some x4) c2 c3) _ _).trans ?_
   unfold aI.j0
   simp only [BEq.rfl,cE (.arr 4 (.int .u64)) _ rfl,cE (.arr 32 (.int .u8)) _ rfl,cE .str _ rfl,cond_true,bS,Bool.and_true,Bool.true_and,decide_true,O7,hd]
 grind
theorem tf {α : Type} (Rt : Bool->Option α) (Xt : jf->jf->Option α) (k : Nat) (a b : jf) (l : List (List Int)) (ha : a.2.2.2.2.2.2.2.2.2.2.2.1 = l) (hb : b.2.2.2.2.2.2.2.2.2.2.2.1 = l) (hl : l.length <= 400000000000000) : ∀ (R P : List (List Int)) (n : Nat),R.length < n->l = P ++ R ->
  aI.l0 k Rt Xt n (l.length : Int) (P.length : Int) a b = Xt a b
 | R,P,0,h,_=>by omega
 | [],P,n + 1,h,hc=>by
  simp_all [aI.l0,aI.bq]
 | y :: R,P,n + 1,h,hc=>by
  have hlen : l.length = P.length + (R.length + 1):=by rw [hc]; simp
  simp only [aI.l0,aI.bq,ha,hb]
  rw [if_pos (dT (by omega)),if_pos (by omega),if_pos (by omega),aG (by omega),cE _ _ rfl,if_neg (by simp)]
  have ih:=tf Rt Xt k a b l ha hb hl R (P ++ [y]) n (by simpa using h) (by simp [hc])
  grind
theorem OG (hl : ks.length <= 400000000000000) : aI.run (kd,am,fe,tk,ho,to,tc,de,sy,da,ix,ks,()) (kd,z4,z4,DI,0,DI,0,0,[],[],ix,ks,()) = some (Fp am fe tk ho to tc de sy da):=by
 unfold aI.run aI.top Fp
 cases hd : ax .str da [] with
 | false =>
  rw [if_pos (by rw [cA]; simp [hd])]
  simp [O7,hd]
 | true =>
  rw [if_neg (by rw [cA]; simp [hd])]
  refine (tf (fun x4=>some x4) (fun c2 c3=>aI.j0 (fun x4=>some x4) c2 c3) fuel (kd,am,fe,tk,ho,to,tc,de,sy,da,ix,ks,()) (kd,z4,z4,DI,0,DI,0,0,[],[],ix,ks,()) ks rfl rfl hl ks [] fuel (by rw [au]; omega) rfl).trans ?_
  unfold aI.j0
  simp only [BEq.rfl,cE (.arr 4 (.int .u64)) _ rfl,cE (.arr 32 (.int .u8)) _ rfl,cE .str _ rfl,cond_true,bS,Bool.and_true,Bool.true_and,decide_true,O7,hd]
def Ag (n m : Int) : Bool:=decide (0 <= n) && decide (n <= m)
def sZ (s : List Int) : Bool:=s.all fun c=>c != 0
theorem AX {α : Type} (Xt : Bool->Option α) (k : Nat) (l : List Int) (hl : l.length <= 400000000000000) : ∀ (R P : List Int) (n : Nat) (x : Bool),R.length < n->l = P ++ R ->
  dn.l0 k Xt n x l (l.length : Int) (P.length : Int) = Xt (x && sZ R)
 | R,P,0,x,h,_=>by omega
 | [],P,n + 1,x,h,hc=>by
  simp_all [dn.l0,dn.bq,sZ]
 | y :: R,P,n + 1,x,h,hc=>by
  have hlen : l.length = P.length + (R.length + 1):=by rw [hc]; simp
  simp only [dn.l0,dn.bq]
  have hg : l.getD P.length 0 = y:=by rw [hc]; exact ef _ _ _ _
  rw [if_pos (dT (by omega)),if_pos (by omega),aG (by omega),ag,hg,bS]
  have ih:=AX Xt k l hl R (P ++ [y]) n (x && y != 0) (by simpa using h) (by simp [hc])
  rw [List.length_append] at ih
  refine Eq.trans ih ?_
  grind [sZ]
theorem wQ {α : Type} (Rt : Bool->Option α) (Xt : Option α) (k : Nat) (l : List Int) (hl : l.length <= 400000000000000) : ∀ (R P : List Int) (n : Nat),R.length < n->l = P ++ R ->
  bQ.l0 k Rt Xt n l (P.length : Int) = if sZ R = true then Xt else Rt true
 | R,P,0,h,_=>by omega
 | [],P,n + 1,h,hc=>by
  simp_all [bQ.l0,bQ.bq,sZ]
 | y :: R,P,n + 1,h,hc=>by
  have hlen : l.length = P.length + (R.length + 1):=by rw [hc]; simp
  simp only [bQ.l0,bQ.bq]
  have hg : l.getD P.length 0 = y:=by rw [hc]; exact ef _ _ _ _
  rw [if_pos (dT (by omega)),if_pos (by omega),aG (by omega),ag,hg]
  have ih:=wQ Rt Xt k l hl R (P ++ [y]) n (by simpa using h) (by simp [hc])
  rw [List.length_append] at ih
  by_cases hy : y = 0
  ·rw [if_pos (by simpa using hy),if_neg (by simp [sZ,hy])]
  ·rw [if_neg (by simpa using hy)]
   refine Eq.trans ih ?_
   grind [sZ]
theorem GU (l : List Int) (hl : l.length <= 400000000000000) : bQ.run l = some (!sZ l):=by
 unfold bQ.run bQ.top
 refine (wQ (fun x2=>some x2) (bQ.j0 fun x2=>some x2) fuel l hl l [] fuel (by rw [au]; omega) rfl).trans ?_
 grind [bQ.j0]
def OT (c : Int) : Bool:=Ag ho 65535 && Ag tc 65535 && decide (c <= 0) && decide (da.length <= 100) && (decide (kd = 3) || decide (da.length = 0)) && zD de sy ix ks
def QC : Bool:=Ag ho 65535 && Ag de 77 && decide (sy.length <= 32) && sZ sy && DW am fe to tc da ix ks
def Pg : Bool:=Ag ix 4294967295 && decide (1 <= ks.length) && decide (ks.length <= 19) && Fp am fe tk ho to tc de sy da
theorem CO (h : kd = 1 \/ kd = 3) {c : Int} (hc : cD.run fe am = some c) : cQ.run (kd,am,fe,tk,ho,to,tc,de,sy,da,ix,ks,()) = some (if OT kd ho tc de sy da ix ks c = true then 0 else 3):=by
 unfold cQ.run cQ.top
 rw [oS kd h,bind_some,Sum.elim_inl]
 rw [if_neg (by simp)]
 unfold gB.run gB.top gT.run gT.top
 simp only [vu,hc,bind_some,NO,Rj,PE,bS,cA]
 have e : ∀ y : Bool,(if y = true then ((kd,am,fe,tk,ho,to,tc,0,[],da,0,[],()) : jf) else (0,z4,z4,DI,0,DI,0,0,[],[],0,[],())) = if y = true then (kd,am,fe,tk,ho,to,tc,0,[],da,0,[],()) else (0,z4,z4,DI,0,DI,0,0,[],[],0,[],()):=fun _=>rfl
 have hz : ((kd == 3 && decide ((da.length : Int) <= 100)) || (!(kd == 3) && ((da.length : Int) == 0))) = (decide (da.length <= 100) && (decide (kd = 3) || decide (da.length = 0))):=by
  grind
 have h1 : ((Ag ho 65535 && (Ag ho 65535 && Ag tc 65535)) && decide ((if (Ag ho 65535 && (Ag ho 65535 && Ag tc 65535)) = true then c else 0) <= 0)) = (Ag ho 65535 && Ag tc 65535 && decide (c <= 0)):=by
  grind
 unfold Ag at h1
 simp only [h1,hz]
 unfold OT Ag
 generalize hA : (decide (0 <= ho) && decide (ho <= 65535) && (decide (0 <= tc) && decide (tc <= 65535)) && decide (c <= 0) && (decide (da.length <= 100) && (decide (kd = 3) || decide (da.length = 0)))) = A
 have hA' : (decide (0 <= ho) && decide (ho <= 65535) && (decide (0 <= tc) && decide (tc <= 65535)) && decide (c <= 0) && decide (da.length <= 100) && (decide (kd = 3) || decide (da.length = 0))) = A:=by rw [<- hA]; simp only [Bool.and_assoc]
 rw [hA']
 cases A with
 | false=>rfl
 | true =>
  simp only [if_true,Pf,bind_some,Bool.not_true,Bool.false_or,Bool.true_and,BEq.rfl]
  cases zD de sy ix ks <;> rfl
theorem DE (h : kd = 1 \/ kd = 3) {c : Int} (hc : aF.run fe am = some c) : aj.run (kd,am,fe,tk,ho,to,tc,de,sy,da,ix,ks,()) = some (if OT kd ho tc de sy da ix ks c = true then 0 else 3):=by
 have honly : dI.run (kd,am,fe,tk,ho,to,tc,de,sy,da,ix,ks,()) = some ((kd,am,fe,tk,ho,to,tc,0,[],da,0,[],()),true,()):=by
  unfold dI.run dI.top dI.j0
  grind
 unfold aj.run aj.top
 rw [honly,bind_some,if_neg (by simp),N4,bind_some]
 have hj : ∀ b : Bool,b = true->aj.j0 (fun x2=>some x2) (zD de sy ix ks) kd b (kd,am,fe,tk,ho,to,tc,de,sy,da,ix,ks,()) = some (if OT kd ho tc de sy da ix ks c = true then 0 else 3):=fun b hb=>by
  unfold aj.j0 aj.j1
  rw [if_pos hb]
  simp only [po,hc,bind_some,NO,Rj,bS,cA]
  unfold OT Ag
  grind
 grind
theorem HX (hs : sy.length <= 400000000000000) : cQ.run (2,am,fe,tk,ho,to,tc,de,sy,da,ix,ks,()) = some (if QC am fe ho to tc de sy da ix ks = true then 0 else 3):=by
 unfold cQ.run cQ.top
 rw [vz,bind_some,Sum.elim_inr,Sum.elim_inl]
 rw [if_neg (by simp)]
 unfold dn.run dn.top jE.run jE.top
 simp only [vu,bind_some,NO,bS]
 have:=AX (fun x5=>dn.j0 (fun x4=>some x4) x5) fuel sy hs sy [] fuel ((decide (0 <= ho) && decide (ho <= 65535)) && ((decide (0 <= ho) && decide (ho <= 65535)) && (decide (0 <= de) && decide (de <= 77))) && decide ((sy.length : Int) <= 32)) (by rw [au]; omega) rfl
 rw [show ((([] : List Int).length : Nat) : Int) = 0 from rfl] at this
 rw [this]
 unfold dn.j0 QC Ag
 have hd : decide ((sy.length : Int) <= 32) = decide (sy.length <= 32):=by rw [decide_eq_decide]; omega
 rw [hd]
 generalize (decide (0 <= ho) && decide (ho <= 65535)) = H
 generalize (decide (0 <= de) && decide (de <= 77)) = T
 generalize decide (sy.length <= 32) = D
 generalize sZ sy = Z
 simp only [bind_some,PE]
 cases H <;> cases T <;> cases D <;> cases Z <;> first | rfl | skip
 simp only [Bool.and_self,Bool.true_and,if_true,Pv,bind_some,BEq.rfl,Bool.not_true,cond_false,cA,Bool.false_or]
 grind
theorem HH (hs : sy.length <= 400000000000000) : aj.run (2,am,fe,tk,ho,to,tc,de,sy,da,ix,ks,()) = some (if QC am fe ho to tc de sy da ix ks = true then 0 else 3):=by
 have honly : dI.run (2,am,fe,tk,ho,to,tc,de,sy,da,ix,ks,()) = some ((2,z4,z4,tk,ho,DI,0,de,sy,[],0,[],()),true,()):=rfl
 unfold aj.run aj.top
 rw [honly,bind_some,if_neg (by simp),NK,bind_some,if_neg (show ¬ (((2 : Int) == 1) = true) by decide)]
 unfold aj.j0 aj.j1
 rw [if_neg (show ¬ (((2 : Int) == 3) = true) by decide),if_pos (show (((2 : Int) == 2) = true) by decide)]
 simp only [po,GU _ hs,bind_some,NO,bS]
 unfold QC Ag
 grind
theorem Ij : cQ.run (4,am,fe,tk,ho,to,tc,de,sy,da,ix,ks,()) = some (if Pg am fe tk ho to tc de sy da ix ks = true then 0 else 3):=by
 unfold cQ.run cQ.top
 rw [vU,bind_some,Sum.elim_inr,Sum.elim_inr,Sum.elim_inl]
 rw [if_neg (by simp)]
 unfold iZ.run iZ.top jx.run jx.top
 simp only [vu,bind_some,NO,PE,bS]
 unfold Pg Ag
 have hd : decide ((ks.length : Int) >= 1) = decide (1 <= ks.length):=by rw [decide_eq_decide]; omega
 have hd2 : decide ((ks.length : Int) <= 19) = decide (ks.length <= 19):=by rw [decide_eq_decide]; omega
 rw [hd,hd2]
 generalize (decide (0 <= ix) && decide (ix <= 4294967295)) = H
 generalize decide (1 <= ks.length) = T
 generalize decide (ks.length <= 19) = D
 cases H <;> cases T <;> cases D <;> first | rfl | skip
 simp only [Bool.and_self,Bool.true_and,if_true,Qv,bind_some,BEq.rfl,Bool.not_true,cond_false,cA,Bool.false_or]
 grind
theorem H3 (hl : ks.length <= 400000000000000) : aj.run (4,am,fe,tk,ho,to,tc,de,sy,da,ix,ks,()) = some (if Pg am fe tk ho to tc de sy da ix ks = true then 0 else 3):=by
 have honly : dI.run (4,am,fe,tk,ho,to,tc,de,sy,da,ix,ks,()) = some ((4,z4,z4,DI,0,DI,0,0,[],[],ix,ks,()),true,()):=rfl
 unfold aj.run aj.top
 rw [honly,bind_some,if_neg (by simp),OG _ _ _ _ _ _ _ _ _ _ _ _ hl,bind_some,if_neg (show ¬ (((4 : Int) == 1) = true) by decide)]
 unfold aj.j0 aj.j1
 rw [if_neg (show ¬ (((4 : Int) == 3) = true) by decide),if_neg (show ¬ (((4 : Int) == 2) = true) by decide),if_pos (show (((4 : Int) == 4) = true) by decide)]
 simp only [po,bind_some,NO,bS]
 unfold Pg Ag
 grind
theorem Iy (h1 : kd ≠ 1) (h2 : kd ≠ 2) (h3 : kd ≠ 3) (h4 : kd ≠ 4) : cQ.run (kd,am,fe,tk,ho,to,tc,de,sy,da,ix,ks,()) = some 2 /\ aj.run (kd,am,fe,tk,ho,to,tc,de,sy,da,ix,ks,()) = some 2:=by
 simp_all [B9,cQ.run,cQ.top,dI.run,dI.top,dI.j0,aj.run,aj.top]
end
theorem Ed (kd : Int) (am fe tk : List Int) (ho : Int) (to : List Int) (tc de : Int) (sy da : List Int) (ix : Int) (ks : List (List Int)) (ha : am.length = 4 /\ aN ah am) (hf : fe.length = 4 /\ aN ah fe) (hs : sy.length <= 400000000000000) (hl : ks.length <= 400000000000000) :
  ∃ c,cQ.run (kd,am,fe,tk,ho,to,tc,de,sy,da,ix,ks,()) = some c /\ aj.run (kd,am,fe,tk,ho,to,tc,de,sy,da,ix,ks,()) = some c:=by
 obtain ⟨c,c1,c2⟩:=vG hf.1 ha.1 hf.2 ha.2
 by_cases h1 : kd = 1
 ·exact ⟨_,CO _ _ _ _ _ _ _ _ _ _ _ _ (.inl h1) c1,DE _ _ _ _ _ _ _ _ _ _ _ _ (.inl h1) c2⟩
 by_cases h3 : kd = 3
 ·exact ⟨_,CO _ _ _ _ _ _ _ _ _ _ _ _ (.inr h3) c1,DE _ _ _ _ _ _ _ _ _ _ _ _ (.inr h3) c2⟩
 by_cases h2 : kd = 2
 ·subst h2; exact ⟨_,HX _ _ _ _ _ _ _ _ _ _ _ hs,HH _ _ _ _ _ _ _ _ _ _ _ hs⟩
 by_cases h4 : kd = 4
 ·subst h4; exact ⟨_,Ij _ _ _ _ _ _ _ _ _ _ _,H3 _ _ _ _ _ _ _ _ _ _ _ hl⟩
 obtain ⟨e1,e2⟩:=Iy kd am fe tk ho to tc de sy da ix ks h1 h2 h3 h4
 exact ⟨_,e1,e2⟩
end Go.Bx
