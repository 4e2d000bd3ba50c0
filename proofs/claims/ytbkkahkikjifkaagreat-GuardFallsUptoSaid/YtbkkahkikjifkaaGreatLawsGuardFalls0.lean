/- Laws about functions of plain data, in plain Lean. -/
import Derived.Test.YtbkkahkikjifkaaGreatCxZh
import Derived.Test.YtbkkahkikjifkaaGreatFnGuardFalls0
namespace Go.Bx
set_option linter.unusedVariables false
set_option linter.unusedSimpArgs false
open Go
theorem ofInt_nat (n X : Nat) : BitVec.ofInt n (X : Int) = BitVec.ofNat n X:=by
 apply BitVec.eq_of_toNat_eq
 simp
theorem u64_wrap_nat {X : Nat} (h : X < 18446744073709551616) : IntKind.u64.wrap (X : Int) = (X : Int):=wrap_u64 (by omega) (by omega)
theorem bor_nat {X Y : Nat} (hX : X < 18446744073709551616) (hY : Y < 18446744073709551616) : bor .u64 (X : Int) (Y : Int) = ((X ||| Y : Nat) : Int):=by
 unfold bor
 have e : ((BitVec.ofInt IntKind.u64.bits (X : Int) ||| BitVec.ofInt IntKind.u64.bits (Y : Int)).toNat) = X ||| Y:=by
  rw [ofInt_nat,ofInt_nat,BitVec.toNat_or,BitVec.toNat_ofNat,BitVec.toNat_ofNat]
  show (X % 2 ^ 64) ||| (Y % 2 ^ 64) = _
  rw [Nat.mod_eq_of_lt (by simpa using hX),Nat.mod_eq_of_lt (by simpa using hY)]
 rw [e]
 exact u64_wrap_nat (by have:=Nat.or_lt_two_pow (n:=64) hX hY; simpa using this)
theorem min_bits {k : Nat} (hk : k < 64) : min (k : Int).toNat IntKind.u64.bits = k:=by
 have : IntKind.u64.bits = 64:=rfl
 rw [this]; omega
theorem shr_nat {X k : Nat} (hk : k < 64) : shrI .u64 (X : Int) (k : Int) = ((X >>> k : Nat) : Int):=by
 unfold shrI
 rw [min_bits hk,Nat.shiftRight_eq_div_pow]
 have : ((2 : Int) ^ k) = ((2 ^ k : Nat) : Int):=by simp
 rw [this,Int.fdiv_eq_ediv_of_nonneg _ (Int.natCast_nonneg _)]
 rfl
end Go.Bx
namespace Go.Bx
set_option linter.unusedVariables false
set_option linter.unusedSimpArgs false
open Go
theorem fitB_small {n b : Nat} (hn : n <= 4194304) (hb : b <= 33554432) : fitB n b = true:=by
 unfold fitB
 rw [Bool.and_eq_true]
 constructor
 ·apply Nat.ble_eq_true_of_le
  calc n * b <= 4194304 * 33554432:=Nat.mul_le_mul hn hb
   _ <= 140737488355328:=by decide
 ·exact Nat.ble_eq_true_of_le (by omega)
theorem fitB_of {n b : Nat} (h1 : n * b <= 140737488355328) (h2 : n <= 140737488355328) : fitB n b = true:=by
 unfold fitB
 rw [Bool.and_eq_true]
 exact ⟨Nat.ble_eq_true_of_le h1,Nat.ble_eq_true_of_le h2⟩
def uptoK (_ : Ty) (n : Nat) : Prop:=n <= 1048576
theorem fuel_big : fuel = 18446744073709551616:=rfl
theorem i64_succ {i : Nat} (h : i < 9223372036854775807) : IntKind.i64.wrap ((i : Int) + 1) = ((i + 1 : Nat) : Int):=by
 rw [wrap_i64 (by omega) (by omega)]; simp
theorem toNat_nat (i : Nat) : Int.toNat (i : Int) = i:=rfl
theorem beqL_refl {α : Type} {f : α->α->Bool} : ∀ (l : List α),(∀ a ∈ l,f a a = true)->beqL f l l = true
 | [],_=>rfl
 | a :: l,h=>by simp [beqL,h a (by simp),beqL_refl l fun b hb=>h b (List.mem_cons_of_mem _ hb)]
theorem beqD_refl : ∀ (t : Ty) (x : t.den),t.cmp = true->beqD t x x = true
 | .int _,x,_=>by simp [beqD]
 | .bool,x,_=>by simp [beqD]
 | .str,x,_=>by simp [beqD]
 | .arr n t,x,h=>by simp only [beqD]; exact beqL_refl x fun a _=>beqD_refl t a (by simpa [Ty.cmp] using h)
 | .unit,_,_=>rfl
 | .pair a b,x,h=>by
  simp only [Ty.cmp,Bool.and_eq_true] at h
  simp only [beqD,beqD_refl a _ h.1,beqD_refl b _ h.2]; rfl
 | .sl _,_,h=>by simp [Ty.cmp] at h
 | .opq,_,h=>by simp [Ty.cmp] at h
end Go.Bx
namespace Go.Bx
open Go
set_option linter.unusedVariables false
theorem beqL_iff {α : Type} {f : α->α->Bool} : ∀ (l m : List α),(∀ a ∈ l,∀ b,f a b = true ↔ a = b)->(beqL f l m = true ↔ l = m)
 | [],[],_=>by simp [beqL]
 | [],_ :: _,_=>by simp [beqL]
 | _ :: _,[],_=>by simp [beqL]
 | a :: l,b :: m,h=>by
  simp only [beqL,Bool.and_eq_true,List.cons.injEq]
  rw [h a (by simp) b,beqL_iff l m fun c hc=>h c (List.mem_cons_of_mem _ hc)]
theorem beqD_iff : ∀ (t : Ty) (x y : t.den),t.cmp = true->(beqD t x y = true ↔ x = y)
 | .int _,x,y,_=>by simp [beqD]
 | .bool,x,y,_=>by simp [beqD]
 | .str,x,y,_=>by simp [beqD]
 | .arr n t,x,y,h=>by simp only [beqD]; exact beqL_iff x y fun a _ b=>beqD_iff t a b (by simpa [Ty.cmp] using h)
 | .unit,x,y,_=>by cases x; cases y; simp [beqD]
 | .pair a b,x,y,h=>by
  simp only [Ty.cmp,Bool.and_eq_true] at h
  simp only [beqD,Bool.and_eq_true]
  rw [beqD_iff a _ _ h.1,beqD_iff b _ _ h.2]
  exact ⟨fun ⟨p,q⟩=>Prod.ext p q,fun h=>by rw [h]; exact ⟨rfl,rfl⟩⟩
 | .sl _,_,_,h=>by simp [Ty.cmp] at h
 | .opq,_,_,h=>by simp [Ty.cmp] at h
end Go.Bx
namespace Go.Bx
open Go
set_option linter.unusedSimpArgs false
set_option linter.unusedVariables false
theorem getD_at {α : Type} (P R : List α) (a d : α) : (P ++ a :: R).getD P.length d = a:=by simp [List.getD]
theorem cutL_front {α : Type} (P R : List α) : cutL (P ++ R) 0 (P.length : Int) = P:=by simp [cutL]
end Go.Bx
namespace Go.Bx
open Go
set_option linter.unusedSimpArgs false
set_option linter.unusedVariables false
def val (B : Int) : List Int->Int
 | []=>0
 | d :: l=>d + B * val B l
def digs (B : Int) (l : List Int) : Prop:=∀ d ∈ l,0 <= d /\ d < B
theorem digs_cons {B d : Int} {l : List Int} : digs B (d :: l) ↔ (0 <= d /\ d < B) /\ digs B l:=by simp [digs]
theorem digs_nil {B : Int} : digs B []:=by intro d h; cases h
theorem digs_take {B : Int} {l : List Int} (h : digs B l) (n : Nat) : digs B (l.take n):=fun d hd=>h d (List.mem_of_mem_take hd)
theorem pow_pos' {B : Int} (hB : 0 < B) (n : Nat) : 0 < B ^ n:=Int.pow_pos hB
theorem val_append (B : Int) : ∀ (l m : List Int),val B (l ++ m) = val B l + B ^ l.length * val B m
 | [],m=>by simp [val]
 | d :: l,m=>by
  simp only [List.cons_append,val,val_append B l m,List.length_cons,Int.pow_succ]
  rw [Int.mul_add,Int.mul_comm (B ^ l.length) B,Int.mul_assoc,Int.add_assoc]
theorem val_bound {B : Int} (hB : 0 < B) : ∀ {l : List Int},digs B l->0 <= val B l /\ val B l < B ^ l.length
 | [],_=>by simp [val]
 | d :: l,h=>by
  obtain ⟨h1,h2⟩:=digs_cons.1 h
  obtain ⟨h3,h4⟩:=val_bound hB h2
  simp only [val,List.length_cons,Int.pow_succ]
  have e1 : 0 <= B * val B l:=Int.mul_nonneg (by omega) h3
  have e2 : B * (val B l + 1) <= B * B ^ l.length:=Int.mul_le_mul_of_nonneg_left (by omega) (by omega)
  rw [Int.mul_add,Int.mul_one] at e2
  rw [Int.mul_comm (B ^ l.length) B]
  omega
theorem digs_getD {B : Int} (hB : 0 < B) {l : List Int} (h : digs B l) (i : Nat) : 0 <= l.getD i 0 /\ l.getD i 0 < B:=by
 by_cases hi : i < l.length
 ·rw [getD_eq hi]; exact h _ (List.getElem_mem hi)
 ·simp [List.getD,List.getElem?_eq_none (show l.length <= i by omega),hB]
theorem getD_out {l : List Int} {i : Nat} (h : ¬ i < l.length) : l.getD i 0 = 0:=by
 simp [List.getD,List.getElem?_eq_none (show l.length <= i by omega)]
theorem val_take (B : Int) (l : List Int) (j : Nat) : val B (l.take (j + 1)) = val B (l.take j) + B ^ j * l.getD j 0:=by
 by_cases h : j < l.length
 ·rw [List.take_succ_eq_append_getElem h,val_append,getD_eq h]
  simp only [val,List.length_take,Int.mul_zero,Int.add_zero]
  rw [Nat.min_eq_left (by omega)]
 ·rw [List.take_of_length_le (by omega),List.take_of_length_le (by omega),getD_out h]
  simp
theorem pow_mono {B : Int} (hB : 0 < B) {m n : Nat} (h : m <= n) : B ^ m <= B ^ n:=by
 obtain ⟨k,rfl⟩:=Nat.le.dest h
 rw [Int.pow_add]
 have h1:=pow_pos' hB k
 have h2:=pow_pos' hB m
 have:=Int.mul_le_mul_of_nonneg_left (show 1 <= B ^ k by omega) (show 0 <= B ^ m by omega)
 rw [Int.mul_one] at this
 exact this
theorem val_take_bound {B : Int} (hB : 0 < B) {l : List Int} (h : digs B l) (j : Nat) : 0 <= val B (l.take j) /\ val B (l.take j) < B ^ j:=by
 obtain ⟨h1,h2⟩:=val_bound hB (digs_take h j)
 refine ⟨h1,Int.lt_of_lt_of_le h2 (pow_mono hB ?_)⟩
 simp; omega
theorem tdiv_pos {a b : Int} (h : 0 <= a) : Int.tdiv a b = a / b:=Int.tdiv_eq_ediv_of_nonneg h
theorem tmod_pos {a b : Int} (h : 0 <= a) : Int.tmod a b = a % b:=Int.tmod_eq_emod_of_nonneg h
abbrev B32 : Int:=4294967296
abbrev B64 : Int:=18446744073709551616
theorem B32_pos : (0 : Int) < B32:=by decide
end Go.Bx
namespace Go.Bx
open Go
set_option linter.unusedSimpArgs false
set_option linter.unusedVariables false
theorem four_of_len {l : List Int} (h : l.length = 4) : ∃ a b c d,l = [a,b,c,d]:=by
 match l,h with
 | [a,b,c,d],_=>exact ⟨a,b,c,d,rfl⟩
theorem of_eq (a b c d : Int) : basculeref_of.run [a,b,c,d] = some [Int.tmod a 4294967296,IntKind.u64.wrap (Int.tdiv a 4294967296),Int.tmod b 4294967296,IntKind.u64.wrap (Int.tdiv b 4294967296),Int.tmod c 4294967296,IntKind.u64.wrap (Int.tdiv c 4294967296),Int.tmod d 4294967296,IntKind.u64.wrap (Int.tdiv d 4294967296)]:=by kernel_rfl
theorem ref_of {l : List Int} (hl : l.length = 4) (hd : digs B64 l) : ∃ o,basculeref_of.run l = some o /\ o.length = 8 /\ digs B32 o /\ val B32 o = val B64 l:=by
 obtain ⟨a,b,c,d,rfl⟩:=four_of_len hl
 have ha:=hd a (by simp)
 have hb:=hd b (by simp)
 have hc:=hd c (by simp)
 have hdd:=hd d (by simp)
 simp only [B64] at ha hb hc hdd
 refine ⟨_,of_eq a b c d,rfl,?_,?_⟩
 ·rw [tdiv_pos ha.1,tdiv_pos hb.1,tdiv_pos hc.1,tdiv_pos hdd.1,tmod_pos ha.1,tmod_pos hb.1,tmod_pos hc.1,tmod_pos hdd.1,
   wrap_u64 (x:=a / _) (by omega) (by omega),wrap_u64 (x:=b / _) (by omega) (by omega),wrap_u64 (x:=c / _) (by omega) (by omega),wrap_u64 (x:=d / _) (by omega) (by omega)]
  intro x hx
  simp only [List.mem_cons,List.not_mem_nil,or_false] at hx
  simp only [B32]
  rcases hx with rfl | rfl | rfl | rfl | rfl | rfl | rfl | rfl <;> omega
 ·rw [tdiv_pos ha.1,tdiv_pos hb.1,tdiv_pos hc.1,tdiv_pos hdd.1,tmod_pos ha.1,tmod_pos hb.1,tmod_pos hc.1,tmod_pos hdd.1,
   wrap_u64 (x:=a / _) (by omega) (by omega),wrap_u64 (x:=b / _) (by omega) (by omega),wrap_u64 (x:=c / _) (by omega) (by omega),wrap_u64 (x:=d / _) (by omega) (by omega)]
  simp only [val,B32,B64]
  omega
theorem compare_loop {α : Type} (k : Nat) (Rt : Int->Option α) (Xt : Option α) (a b : List Int) (ha : digs B32 a) (hb : digs B32 b) (h1 : a.length <= 1000000) (h2 : b.length <= 1000000) : ∀ (n i : Nat),i < n->i <= max a.length b.length ->
  basculeref_compare.l0 k Rt Xt n a b ((i : Int) - 1) = if val B32 (a.take i) < val B32 (b.take i) then Rt (-1) else if val B32 (a.take i) > val B32 (b.take i) then Rt 1 else Xt
 | 0,i,h,_=>by omega
 | n + 1,0,h,_=>by
  simp only [basculeref_compare.l0,basculeref_compare.l0s]
  rw [if_neg (by simp)]
  simp [val]
 | n + 1,j + 1,h,hm=>by
  have e : ((j + 1 : Nat) : Int) - 1 = (j : Int):=by omega
  rw [e]
  have da:=digs_getD B32_pos ha j
  have db:=digs_getD B32_pos hb j
  have hj : basculeref_compare.l0 k Rt Xt (n + 1) a b (j : Int) = basculeref_compare.j1 (basculeref_compare.l0 k Rt Xt n) Rt a b (j : Int) (a.getD j 0) (b.getD j 0):=by
   simp only [basculeref_compare.l0,basculeref_compare.l0s,basculeref_compare.j0]
   rw [if_pos (by simp)]
   by_cases h1 : j < a.length
   ·rw [if_pos (by simp; omega),if_pos (by omega),toNat_nat]
    by_cases h2 : j < b.length
    ·rw [if_pos (by simp; omega),if_pos (by omega)]
    ·rw [if_neg (by simp; omega),getD_out h2]
   ·rw [if_neg (by simp; omega),getD_out h1,toNat_nat]
    by_cases h2 : j < b.length
    ·rw [if_pos (by simp; omega),if_pos (by omega)]
    ·rw [if_neg (by simp; omega),getD_out h2]
  rw [hj]
  unfold basculeref_compare.j1
  have ta:=val_take_bound B32_pos ha j
  have tb:=val_take_bound B32_pos hb j
  rw [val_take B32 a j,val_take B32 b j]
  have hP:=pow_pos' B32_pos j
  generalize B32 ^ j = P at ta tb hP ⊢
  generalize a.getD j 0 = x at da ⊢
  generalize b.getD j 0 = y at db ⊢
  rcases Int.lt_trichotomy x y with hxy | hxy | hxy
  ·have:=Int.mul_le_mul_of_nonneg_left (show x + 1 <= y by omega) (Int.le_of_lt hP)
   rw [Int.mul_add,Int.mul_one] at this
   rw [if_pos (by simpa using hxy),if_pos (by omega)]
  ·subst hxy
   rw [if_neg (by simp),if_neg (by simp),show IntKind.i64.wrap ((j : Int) - 1) = (j : Int) - 1 from wrap_i64 (by omega) (by omega)]
   rw [compare_loop k Rt Xt a b ha hb h1 h2 n j (by omega) (by omega)]
   congr 1
   ·exact propext ⟨fun h=>by omega,fun h=>by omega⟩
   ·congr 1
    exact propext ⟨fun h=>by omega,fun h=>by omega⟩
  ·have:=Int.mul_le_mul_of_nonneg_left (show y + 1 <= x by omega) (Int.le_of_lt hP)
   rw [Int.mul_add,Int.mul_one] at this
   rw [if_neg (by simp; omega),if_pos (by simpa using hxy),if_neg (by omega),if_pos (by omega)]
theorem ref_compare {a b : List Int} (ha : digs B32 a) (hb : digs B32 b) (h1 : a.length <= 1000000) (h2 : b.length <= 1000000) :
  basculeref_compare.run a b = some (if val B32 a < val B32 b then -1 else if val B32 a > val B32 b then 1 else 0):=by
 unfold basculeref_compare.run basculeref_compare.top basculeref_compare.j2
 have h0:=fun N (hN : max a.length b.length < N)=>compare_loop N (fun (c : Int)=>some c) (some (0 : Int)) a b ha hb h1 h2 N (max a.length b.length) hN (Nat.le_refl _)
 have e:=h0 fuel (by rw [fuel_big]; omega)
 rw [List.take_of_length_le (by omega),List.take_of_length_le (by omega)] at e
 have ei : IntKind.i64.wrap ((if (b.length : Int) > (a.length : Int) then (b.length : Int) else (a.length : Int)) - 1) = ((max a.length b.length : Nat) : Int) - 1:=by
  rw [wrap_i64 (by split <;> omega) (by split <;> omega)]
  split <;> omega
 rw [ei]
 refine Eq.trans e ?_
 split
 ·rfl
 ·split <;> rfl
end Go.Bx
namespace Go.Bx
open Go
set_option linter.unusedSimpArgs false
set_option linter.unusedVariables false
end Go.Bx
namespace Go.Bx
open Go
set_option linter.unusedSimpArgs false
set_option linter.unusedVariables false
set_option maxRecDepth 100000
theorem ble_le {a b : Nat} (h : a <= b) : Nat.ble a b = true:=Nat.ble_eq_true_of_le h
def byt (x : Int) (n : Nat) : Int:=x / 2 ^ n % 256
def be (x : Int) : Nat->List Int
 | 0=>[]
 | k + 1=>byt x (8 * k) :: be x k
theorem be_len (x : Int) : ∀ k,(be x k).length = k
 | 0=>rfl
 | k + 1=>by simp [be,be_len x k]
theorem byt_rng (x : Int) (n : Nat) : 0 <= byt x n /\ byt x n < 256:=by
 unfold byt; exact ⟨Int.emod_nonneg _ (by decide),Int.emod_lt_of_pos _ (by decide)⟩
theorem be_rng (x : Int) : ∀ k,∀ b ∈ be x k,0 <= b /\ b < 256
 | 0,b,h=>by simp [be] at h
 | k + 1,b,h=>by
  simp only [be,List.mem_cons] at h
  rcases h with rfl | h
  ·exact byt_rng _ _
  ·exact be_rng x k b h
theorem byt_down (x : Int) (n : Nat) : byt (x / 256) n = byt x (n + 8):=by
 unfold byt
 rw [show (2 : Int) ^ (n + 8) = 256 * 2 ^ n by rw [Int.pow_add,Int.mul_comm]; rfl,<- Int.ediv_ediv_of_nonneg (by decide)]
theorem be_snoc (x : Int) : ∀ k,be x (k + 1) = be (x / 256) k ++ [byt x 0]
 | 0=>rfl
 | k + 1=>by
  show byt x (8 * (k + 1)) :: be x (k + 1) = byt (x / 256) (8 * k) :: be (x / 256) k ++ [byt x 0]
  rw [be_snoc x k,byt_down]; rfl
theorem u8_byt (x : Int) : IntKind.u8.wrap x = byt x 0:=by
 rw [wrap_u8_mod]; simp [byt]
theorem shr8_div (x : Int) : shrI .u64 x 8 = x / 256:=by
 show x.fdiv (2 ^ (min (8 : Int).toNat 64)) = _
 rw [Int.fdiv_eq_ediv_of_nonneg _ (by decide)]; rfl
theorem shr_byt (k : IntKind) (x : Int) (n : Nat) (h : n <= k.bits) : IntKind.u8.wrap (shrI k x (n : Int)) = byt x n:=by
 rw [wrap_u8_mod]
 unfold shrI byt
 rw [show min ((n : Nat) : Int).toNat k.bits = n by simp; omega,Int.fdiv_eq_ediv_of_nonneg _ (Int.le_of_lt (Int.pow_pos (by omega)))]
theorem big_loop {α : Type} (Xt : List Int->Option α) (K : Nat) (N : Nat) (hN : N <= 1000) : ∀ (m i n : Nat) (x : Int) (acc : List Int),m < n->i + m = N->acc.length <= i ->
  basculeref_big.l0 K Xt n x acc (N : Int) (i : Int) = Xt (be x m ++ acc)
 | m,i,0,x,acc,h,_,_=>by omega
 | 0,i,n + 1,x,acc,h,hi,ha=>by
  simp only [basculeref_big.l0,basculeref_big.l0s]
  rw [if_neg (by rw [decide_eq_true_eq]; omega)]; rfl
 | m + 1,i,n + 1,x,acc,h,hi,ha=>by
  simp only [basculeref_big.l0,basculeref_big.l0s]
  rw [if_pos (by rw [decide_eq_true_eq]; omega),if_pos (ble_le (by omega)),i64_succ (by omega),shr8_div,u8_byt]
  refine (big_loop Xt K N hN m (i + 1) n (x / 256) _ (by omega) (by omega) (by simp; omega)).trans ?_
  rw [be_snoc,List.append_assoc]
theorem big_run (x : Int) (N : Nat) (hN : N <= 1000) : basculeref_big.run x (N : Int) = some (be x N):=by
 unfold basculeref_big.run basculeref_big.top
 refine (big_loop (fun a=>basculeref_big.j0 (fun b=>some b) a) fuel N hN N 0 fuel x [] (by rw [fuel_big]; omega) (by omega) (by simp)).trans ?_
 unfold basculeref_big.j0
 rw [List.append_nil]
theorem wu64_id {x : Int} (h : 0 <= x) (g : x < 18446744073709551616) : IntKind.u64.wrap x = x:=wrap_u64 h (by omega)
theorem cutL_all {α : Type} (l : List α) (n : Int) (h : (l.length : Int) = n) : cutL l 0 n = l:=by
 subst h; simp [cutL]
def pad (l : List Int) : List Int:=l ++ List.replicate (32 - l.length) 0
theorem cpy_pad (l : List Int) (h : l.length <= 32) : cpyL (List.replicate 32 0) 0 32 l = pad l:=by
 unfold cpyL pad
 simp only [show (0 : Int).toNat = 0 from rfl,show (32 : Int).toNat = 32 from rfl,List.take_zero,List.nil_append,Nat.sub_zero,Nat.zero_add,List.drop_replicate]
 rw [List.take_of_length_le h,Nat.min_eq_left h]
theorem set_at {α : Type} (P R : List α) (a b : α) : (P ++ a :: R).set P.length b = P ++ b :: R:=by
 simp [List.set_append]
end Go.Bx
namespace Go.Bx
open Go
set_option linter.unusedSimpArgs false
set_option linter.unusedVariables false
set_option maxRecDepth 100000
theorem word_loop {α : Type} (Xt : List Int->List Int->Option α) (K : Nat) (l z : List Int) (hl : l.length <= 32) : ∀ (R P : List Int) (n : Nat),R.length < n->l = P ++ R ->
  basculeref_word.l0 K Xt n l (P.length : Int) z (P ++ List.replicate (32 - P.length) 0) = Xt z (pad l)
 | R,P,0,h,_=>by omega
 | [],P,n + 1,h,hc=>by
  simp only [basculeref_word.l0,basculeref_word.l0s]
  have : l.length = P.length:=by rw [hc]; simp
  rw [cond_and,if_neg (by rw [Bool.and_eq_true,decide_eq_true_eq]; omega)]
  rw [hc,List.append_nil]; rfl
 | y :: R,P,n + 1,h,hc=>by
  have hlen : l.length = P.length + (R.length + 1):=by rw [hc]; simp
  simp only [basculeref_word.l0,basculeref_word.l0s]
  have hg : l.getD P.length 0 = y:=by rw [hc]; exact getD_at _ _ _ _
  have hz : List.replicate (32 - P.length) (0 : Int) = 0 :: List.replicate (32 - (P.length + 1)) 0:=by
   rw [<- List.replicate_succ]; congr 1; omega
  rw [cond_and,if_pos (by rw [Bool.and_eq_true,decide_eq_true_eq,decide_eq_true_eq]; omega),if_pos (by omega),if_pos (by omega),i64_succ (by omega),toNat_nat,hg,hz,set_at]
  have ih:=word_loop Xt K l z hl R (P ++ [y]) n (by simpa using h) (by simp [hc])
  simp only [List.length_append,List.length_singleton,List.append_assoc,List.singleton_append] at ih
  exact ih
theorem word_run (l : List Int) (hl : l.length <= 32) : basculeref_word.run l = some (pad l):=by
 unfold basculeref_word.run basculeref_word.top
 refine (word_loop (fun a b=>basculeref_word.j0 (fun a=>some a) a b) fuel l (List.replicate 32 0) hl l [] fuel (by rw [fuel_big]; omega) rfl).trans ?_
 rfl
end Go.Bx
namespace Go.Bx
open Go
set_option linter.unusedSimpArgs false
set_option linter.unusedVariables false
set_option maxRecDepth 100000
abbrev BodyD : Type:=Int × Int × Int × List Int × Int × Int × List Int × Unit
end Go.Bx
namespace Go.Bx
open Go
set_option linter.unusedSimpArgs false
set_option linter.unusedVariables false
set_option maxRecDepth 100000
def inTo (a m : Int) : Bool:=cond (decide (0 <= a)) (decide (a <= m)) false
theorem inTo_iff {a m : Int} : inTo a m = true ↔ 0 <= a /\ a <= m:=by simp [inTo,cond_and]
def bodyOk (b : BodyD) : Bool:=inTo b.1 1099511627776 && inTo b.2.1 4294967295 && inTo b.2.2.1 65535 && inTo b.2.2.2.2.1 1099511627776 && inTo b.2.2.2.2.2.1 255
def bodyE (b : BodyD) : Int:=if bodyOk b = true then (if b.2.2.2.2.2.2.1.length > 300 then 1 else 0) else 6
theorem bodyFault_loop {α : Type} (k n : Nat) (R : Int->Option α) (X : BodyD->Option α) (a b c d e A B C D E : Int) (s : BodyD) :
  basculeref_BodyFault.l0 k R X (n + 6) [[a,A],[b,B],[c,C],[d,D],[e,E]] 5 0 s =
   if (not (inTo a A)) = true then R 6 else if (not (inTo b B)) = true then R 6 else if (not (inTo c C)) = true then R 6 else if (not (inTo d D)) = true then R 6 else if (not (inTo e E)) = true then R 6 else X s:=by
 kernel_rfl
theorem len_gt {α : Type} (l : List α) (n : Nat) (m : Int) (h : m = n) : decide ((l.length : Int) > m) = decide (l.length > n):=by
 rw [decide_eq_decide]; omega
theorem body_check (b : BodyD) : paper_Check.run b = some (bodyE b):=by
 have hc : ∀ a m : Int,paper_Check_1.run a m = some (inTo a m):=fun a m=>rfl
 unfold paper_Check.run paper_Check.top bodyE bodyOk
 simp only [hc,Option.bind_some,len_gt _ 300 300 rfl]
 generalize inTo b.1 1099511627776 = b1
 generalize inTo b.2.1 4294967295 = b2
 generalize inTo b.2.2.1 65535 = b3
 generalize inTo b.2.2.2.2.1 1099511627776 = b4
 generalize inTo b.2.2.2.2.2.1 255 = b5
 by_cases h6 : b.2.2.2.2.2.2.1.length > 300
 ·rw [decide_eq_true h6]; simp only [h6,if_true]
  cases b1 <;> cases b2 <;> cases b3 <;> cases b4 <;> cases b5 <;> rfl
 ·rw [decide_eq_false h6]; simp only [h6,if_false]
  cases b1 <;> cases b2 <;> cases b3 <;> cases b4 <;> cases b5 <;> rfl
theorem body_fault (b : BodyD) : basculeref_BodyFault.run b = some (bodyE b):=by
 obtain ⟨n,hn⟩ : ∃ n,fuel = n + 6:=⟨2 ^ 64 - 6,rfl⟩
 unfold basculeref_BodyFault.run basculeref_BodyFault.top bodyE bodyOk
 rw [hn,bodyFault_loop]
 unfold basculeref_BodyFault.j0
 simp only [len_gt _ 300 300 rfl]
 generalize inTo b.1 1099511627776 = b1
 generalize inTo b.2.1 4294967295 = b2
 generalize inTo b.2.2.1 65535 = b3
 generalize inTo b.2.2.2.2.1 1099511627776 = b4
 generalize inTo b.2.2.2.2.2.1 255 = b5
 by_cases h6 : b.2.2.2.2.2.2.1.length > 300
 ·rw [decide_eq_true h6]; simp only [h6,if_true]
  cases b1 <;> cases b2 <;> cases b3 <;> cases b4 <;> cases b5 <;> rfl
 ·rw [decide_eq_false h6]; simp only [h6,if_false]
  cases b1 <;> cases b2 <;> cases b3 <;> cases b4 <;> cases b5 <;> rfl
theorem bodyE_ok {b : BodyD} (h : bodyE b = 0) : (0 <= b.1 /\ b.1 <= 1099511627776) /\ (0 <= b.2.1 /\ b.2.1 <= 4294967295) /\ (0 <= b.2.2.1 /\ b.2.2.1 <= 65535) /\ (0 <= b.2.2.2.2.1 /\ b.2.2.2.2.1 <= 1099511627776) /\ (0 <= b.2.2.2.2.2.1 /\ b.2.2.2.2.2.1 <= 255) /\ b.2.2.2.2.2.2.1.length <= 300:=by
 unfold bodyE at h
 by_cases hk : bodyOk b = true
 ·rw [if_pos hk] at h
  unfold bodyOk at hk
  simp only [Bool.and_eq_true,inTo_iff] at hk
  refine ⟨hk.1.1.1.1,hk.1.1.1.2,hk.1.1.2,hk.1.2,hk.2,?_⟩
  by_cases h6 : b.2.2.2.2.2.2.1.length > 300
  ·rw [if_pos h6] at h; exact absurd h (by decide)
  ·omega
 ·rw [if_neg hk] at h; exact absurd h (by decide)
end Go.Bx
namespace Go.Bx
open Go
set_option linter.unusedSimpArgs false
set_option linter.unusedVariables false
set_option maxRecDepth 100000
abbrev SignD : Type:=Int × (List Int × List Int × Int × Unit) × Unit
abbrev PaperD : Type:=Int × List SignD × BodyD × Unit
def signOk (s : SignD) : Bool:=inTo s.1 255 && inTo s.2.1.2.2.1 255
def paperE (x : PaperD) : Int:=if inTo x.1 4294967295 = true then (if x.2.1.length > 19 then 1 else if x.2.1.all signOk = true then bodyE x.2.2.1 else 6) else 6
theorem signBad (a b : Int) : cond (cond (cond (decide (a < 0)) true (decide (a > 255))) true (decide (b < 0))) true (decide (b > 255)) = !(inTo a 255 && inTo b 255):=by
 simp only [cond_or,inTo,cond_and]
 rw [Bool.eq_iff_iff]
 simp only [Bool.or_eq_true,decide_eq_true_eq,Bool.not_eq_true',<- Bool.not_eq_true,Bool.and_eq_true]
 omega
theorem pfault_loop {α : Type} (Rt : Int->Option α) (Xt : PaperD->Option α) (K : Nat) (x : PaperD) (l : List SignD) (hl : l.length <= 1000) : ∀ (R P : List SignD) (n : Nat),R.length < n->l = P ++ R ->
  paper_fault.l0 K Rt Xt n l (l.length : Int) (P.length : Int) x = if R.all signOk = true then Xt x else Rt 6
 | R,P,0,h,_=>by omega
 | [],P,n + 1,h,hc=>by
  simp only [paper_fault.l0,paper_fault.l0s]
  have : l.length = P.length:=by rw [hc]; simp
  rw [if_neg (by rw [decide_eq_true_eq]; omega)]
  rfl
 | y :: R,P,n + 1,h,hc=>by
  have hlen : l.length = P.length + (R.length + 1):=by rw [hc]; simp
  simp only [paper_fault.l0,paper_fault.l0s]
  have hg : l.getD P.length (0,([0,0,0,0],[0,0,0,0],0,()),()) = y:=by rw [hc]; exact getD_at _ _ _ _
  rw [if_pos (by rw [decide_eq_true_eq]; omega),if_pos (by omega),i64_succ (by omega),toNat_nat,hg,signBad]
  have ih:=pfault_loop Rt Xt K x l hl R (P ++ [y]) n (by simpa using h) (by simp [hc])
  rw [List.length_append] at ih
  rw [show (inTo y.1 255 && inTo y.2.1.2.2.1 255) = signOk y from rfl,List.all_cons]
  cases signOk y with
  | false=>rfl
  | true =>
   rw [if_neg (by decide),Bool.true_and]
   exact ih
theorem paper_fault_run (x : PaperD) : paper_fault.run x = some (paperE x):=by
 unfold paper_fault.run paper_fault.top paperE
 have h1 : cond (decide (x.1 < 0)) true (decide (x.1 > 4294967295)) = !inTo x.1 4294967295:=by
  simp only [cond_or,inTo,cond_and]
  rw [Bool.eq_iff_iff]
  simp only [Bool.or_eq_true,decide_eq_true_eq,Bool.not_eq_true',<- Bool.not_eq_true,Bool.and_eq_true]
  omega
 rw [h1,len_gt _ 19 19 rfl]
 cases inTo x.1 4294967295 with
 | false=>rfl
 | true =>
  rw [if_neg (by decide),if_pos rfl]
  by_cases h : x.2.1.length > 19
  ·rw [if_pos (by simpa using h),if_pos h]
  ·rw [if_neg (by simpa using h),if_neg h]
   refine (pfault_loop (fun a=>some a) (fun b=>paper_fault.j0 (fun a=>some a) b) fuel x x.2.1 (by omega) x.2.1 [] fuel (by rw [fuel_big]; omega) rfl).trans ?_
   unfold paper_fault.j0
   rw [body_check]
   cases x.2.1.all signOk <;> rfl
theorem pfaultR_loop {α : Type} (Rt : Int->Option α) (Xt : PaperD->Option α) (K : Nat) (x : PaperD) (l : List SignD) (hl : l.length <= 1000) : ∀ (R P : List SignD) (n : Nat),R.length < n->l = P ++ R ->
  basculeref_PaperFault.l0 K Rt Xt n l (l.length : Int) (P.length : Int) x = if R.all signOk = true then Xt x else Rt 6
 | R,P,0,h,_=>by omega
 | [],P,n + 1,h,hc=>by
  simp only [basculeref_PaperFault.l0,basculeref_PaperFault.l0s]
  have : l.length = P.length:=by rw [hc]; simp
  rw [if_neg (by rw [decide_eq_true_eq]; omega)]
  rfl
 | y :: R,P,n + 1,h,hc=>by
  have hlen : l.length = P.length + (R.length + 1):=by rw [hc]; simp
  have hc1 : ∀ a m : Int,basculeref_upTo.run a m = some (inTo a m):=fun a m=>rfl
  simp only [basculeref_PaperFault.l0,basculeref_PaperFault.l0s]
  have hg : l.getD P.length (0,([0,0,0,0],[0,0,0,0],0,()),()) = y:=by rw [hc]; exact getD_at _ _ _ _
  rw [if_pos (by rw [decide_eq_true_eq]; omega),if_pos (by omega),i64_succ (by omega),toNat_nat,hg]
  have ih:=pfaultR_loop Rt Xt K x l hl R (P ++ [y]) n (by simpa using h) (by simp [hc])
  rw [List.length_append] at ih
  rw [List.all_cons,hc1,Option.bind_some,hc1,show signOk y = (inTo y.1 255 && inTo y.2.1.2.2.1 255) from rfl]
  cases inTo y.1 255 with
  | false=>rfl
  | true =>
   rw [if_pos (by decide),Option.bind_some,Bool.true_and]
   cases inTo y.2.1.2.2.1 255 with
   | false=>rfl
   | true =>
    rw [if_neg (by decide),Bool.true_and]
    exact ih
theorem paper_faultR_run (x : PaperD) : basculeref_PaperFault.run x = some (paperE x):=by
 have hc1 : ∀ a m : Int,basculeref_upTo.run a m = some (inTo a m):=fun a m=>rfl
 unfold basculeref_PaperFault.run basculeref_PaperFault.top paperE
 rw [hc1,Option.bind_some,len_gt _ 19 19 rfl]
 cases inTo x.1 4294967295 with
 | false=>rfl
 | true =>
  rw [if_neg (by decide),if_pos rfl]
  by_cases h : x.2.1.length > 19
  ·rw [if_pos (by simpa using h),if_pos h]
  ·rw [if_neg (by simpa using h),if_neg h]
   refine (pfaultR_loop (fun b=>some b) (fun c=>basculeref_PaperFault.j0 (fun b=>some b) c) fuel x x.2.1 (by omega) x.2.1 [] fuel (by rw [fuel_big]; omega) rfl).trans ?_
   unfold basculeref_PaperFault.j0
   rw [body_fault]
   cases x.2.1.all signOk <;> rfl
theorem paperE_ok {x : PaperD} (h : paperE x = 0) : (0 <= x.1 /\ x.1 <= 4294967295) /\ x.2.1.length <= 19 /\ (∀ s ∈ x.2.1,(0 <= s.1 /\ s.1 <= 255) /\ (0 <= s.2.1.2.2.1 /\ s.2.1.2.2.1 <= 255)) /\ bodyE x.2.2.1 = 0:=by
 unfold paperE at h
 by_cases h1 : inTo x.1 4294967295 = true
 ·rw [if_pos h1] at h
  by_cases h2 : x.2.1.length > 19
  ·rw [if_pos h2] at h; exact absurd h (by decide)
  ·rw [if_neg h2] at h
   by_cases h3 : x.2.1.all signOk = true
   ·rw [if_pos h3] at h
    refine ⟨inTo_iff.1 h1,by omega,fun s hs=>?_,h⟩
    have:=List.all_eq_true.1 h3 s hs
    simpa only [signOk,Bool.and_eq_true,inTo_iff] using this
   ·rw [if_neg h3] at h; exact absurd h (by decide)
 ·rw [if_neg h1] at h; exact absurd h (by decide)
end Go.Bx
namespace Go.Bx.Frm
open Go Go.Bx
set_option linter.unusedSimpArgs false
set_option linter.unusedVariables false
set_option maxRecDepth 100000
def orW (b0 b1 b2 b3 b4 b5 b6 b7 : Int) : Int:=(bor .u64 (bor .u64 (bor .u64 (bor .u64 (bor .u64 (bor .u64 (bor .u64 (bor .u64 0 (shlI .u64 (IntKind.u64.wrap b0) 56)) (shlI .u64 (IntKind.u64.wrap b1) 48)) (shlI .u64 (IntKind.u64.wrap b2) 40)) (shlI .u64 (IntKind.u64.wrap b3) 32)) (shlI .u64 (IntKind.u64.wrap b4) 24)) (shlI .u64 (IntKind.u64.wrap b5) 16)) (shlI .u64 (IntKind.u64.wrap b6) 8)) (shlI .u64 (IntKind.u64.wrap b7) 0))
def sumW (b0 b1 b2 b3 b4 b5 b6 b7 : Int) : Int:=(IntKind.u64.wrap ((IntKind.u64.wrap ((IntKind.u64.wrap ((IntKind.u64.wrap ((IntKind.u64.wrap ((IntKind.u64.wrap ((IntKind.u64.wrap ((IntKind.u64.wrap ((IntKind.u64.wrap ((IntKind.u64.wrap ((IntKind.u64.wrap ((IntKind.u64.wrap ((IntKind.u64.wrap ((IntKind.u64.wrap ((IntKind.u64.wrap ((IntKind.u64.wrap (0 * 256)) + (IntKind.u64.wrap b0))) * 256)) + (IntKind.u64.wrap b1))) * 256)) + (IntKind.u64.wrap b2))) * 256)) + (IntKind.u64.wrap b3))) * 256)) + (IntKind.u64.wrap b4))) * 256)) + (IntKind.u64.wrap b5))) * 256)) + (IntKind.u64.wrap b6))) * 256)) + (IntKind.u64.wrap b7)))
theorem wb5 (a0 a1 a2 a3 a4 a5 a6 a7 a8 a9 a10 a11 a12 a13 a14 a15 a16 a17 a18 a19 a20 a21 a22 a23 a24 a25 a26 a27 a28 a29 a30 a31 : Int) : wide_From.run [a0,a1,a2,a3,a4,a5,a6,a7,a8,a9,a10,a11,a12,a13,a14,a15,a16,a17,a18,a19,a20,a21,a22,a23,a24,a25,a26,a27,a28,a29,a30,a31] = some [orW a24 a25 a26 a27 a28 a29 a30 a31,orW a16 a17 a18 a19 a20 a21 a22 a23,orW a8 a9 a10 a11 a12 a13 a14 a15,orW a0 a1 a2 a3 a4 a5 a6 a7]:=by kernel_rfl
theorem wb6 (a0 a1 a2 a3 a4 a5 a6 a7 a8 a9 a10 a11 a12 a13 a14 a15 a16 a17 a18 a19 a20 a21 a22 a23 a24 a25 a26 a27 a28 a29 a30 a31 : Int) : basculeref_FromBytes.run [a0,a1,a2,a3,a4,a5,a6,a7,a8,a9,a10,a11,a12,a13,a14,a15,a16,a17,a18,a19,a20,a21,a22,a23,a24,a25,a26,a27,a28,a29,a30,a31] = some [sumW a24 a25 a26 a27 a28 a29 a30 a31,sumW a16 a17 a18 a19 a20 a21 a22 a23,sumW a8 a9 a10 a11 a12 a13 a14 a15,sumW a0 a1 a2 a3 a4 a5 a6 a7]:=by kernel_rfl
theorem bor_add (i a b : Nat) (hb : b < 2 ^ i) (hx : 2 ^ i * a + b < 2 ^ 64) : bor .u64 ((2 ^ i * a : Nat) : Int) ((b : Nat) : Int) = ((2 ^ i * a + b : Nat) : Int):=by
 have h1 : 2 ^ i * a < 2 ^ 64:=by omega
 have h2 : b < 2 ^ 64:=by omega
 show IntKind.u64.wrap (((BitVec.ofInt 64 ((2 ^ i * a : Nat) : Int) ||| BitVec.ofInt 64 ((b : Nat) : Int)).toNat : Nat) : Int) = _
 rw [BitVec.toNat_or]
 have e1 : (BitVec.ofInt 64 ((2 ^ i * a : Nat) : Int)).toNat = 2 ^ i * a:=by
  rw [BitVec.ofInt_natCast,BitVec.toNat_ofNat,Nat.mod_eq_of_lt h1]
 have e2 : (BitVec.ofInt 64 ((b : Nat) : Int)).toNat = b:=by
  rw [BitVec.ofInt_natCast,BitVec.toNat_ofNat,Nat.mod_eq_of_lt h2]
 rw [e1,e2,<- Nat.two_pow_add_eq_or_of_lt hb]
 exact wrap_u64 (by omega) (by omega)
theorem or_step (s : Nat) (p q : Int) (hp : p = 2 ^ (s + 8)) (hq : q = 2 ^ s) (hs : s <= 56) {A b : Int} (hA : 0 <= A) (hb : 0 <= b /\ b < 256) (hlt : A * p + b * q < 18446744073709551616) :
  bor .u64 (A * p) (shlI .u64 (IntKind.u64.wrap b) s) = A * p + b * q:=by
 obtain ⟨a,rfl⟩:=Int.eq_ofNat_of_zero_le hA
 obtain ⟨c,rfl⟩:=Int.eq_ofNat_of_zero_le hb.1
 have hc : c < 256:=by omega
 have hshl : shlI .u64 (IntKind.u64.wrap (c : Int)) s = ((c * 2 ^ s : Nat) : Int):=by
  unfold shlI
  rw [wrap_u64 (x:=(c : Int)) (by omega) (by omega)]
  rw [show min ((s : Nat) : Int).toNat IntKind.u64.bits = s by simp [IntKind.bits]; omega]
  have h56 : (2 : Nat) ^ s <= 2 ^ 56:=Nat.pow_le_pow_right (by omega) hs
  have hm : c * 2 ^ s <= 255 * 2 ^ 56:=Nat.mul_le_mul (by omega) h56
  rw [show (c : Int) * 2 ^ s = ((c * 2 ^ s : Nat) : Int) by push_cast; rfl]
  exact wrap_u64 (by omega) (by omega)
 have e1 : (a : Int) * p = ((2 ^ (s + 8) * a : Nat) : Int):=by rw [hp]; push_cast; rw [Int.mul_comm]
 have e2 : (c : Int) * q = ((c * 2 ^ s : Nat) : Int):=by rw [hq]; push_cast; rfl
 rw [e1,e2] at hlt
 rw [hshl,e1,e2,bor_add (s + 8) a (c * 2 ^ s) (by rw [Nat.pow_add,Nat.mul_comm]; exact Nat.mul_lt_mul_of_pos_left hc (Nat.pow_pos (by omega))) (by omega)]
 push_cast; rfl
theorem or_sum {b0 b1 b2 b3 b4 b5 b6 b7 : Int} (h0 : 0 <= b0 /\ b0 < 256) (h1 : 0 <= b1 /\ b1 < 256) (h2 : 0 <= b2 /\ b2 < 256) (h3 : 0 <= b3 /\ b3 < 256) (h4 : 0 <= b4 /\ b4 < 256) (h5 : 0 <= b5 /\ b5 < 256) (h6 : 0 <= b6 /\ b6 < 256) (h7 : 0 <= b7 /\ b7 < 256) : orW b0 b1 b2 b3 b4 b5 b6 b7 = sumW b0 b1 b2 b3 b4 b5 b6 b7:=by
 unfold orW sumW
 have e0 : bor .u64 0 (shlI .u64 (IntKind.u64.wrap b0) 56) = b0 * 72057594037927936:=by
  have:=or_step 56 18446744073709551616 72057594037927936 rfl rfl (by omega) (A:=0) (b:=b0) (by omega) h0 (by omega)
  simp only [Int.zero_mul] at this; simpa using this
 have e1 : bor .u64 (b0 * 72057594037927936) (shlI .u64 (IntKind.u64.wrap b1) 48) = (b0 * 256 + b1) * 281474976710656:=by
  have:=or_step 48 72057594037927936 281474976710656 rfl rfl (by omega) (A:=b0) (b:=b1) (by omega) h1 (by omega)
  refine this.trans ?_; omega
 have e2 : bor .u64 ((b0 * 256 + b1) * 281474976710656) (shlI .u64 (IntKind.u64.wrap b2) 40) = ((b0 * 256 + b1) * 256 + b2) * 1099511627776:=by
  have:=or_step 40 281474976710656 1099511627776 rfl rfl (by omega) (A:=(b0 * 256 + b1)) (b:=b2) (by omega) h2 (by omega)
  refine this.trans ?_; omega
 have e3 : bor .u64 (((b0 * 256 + b1) * 256 + b2) * 1099511627776) (shlI .u64 (IntKind.u64.wrap b3) 32) = (((b0 * 256 + b1) * 256 + b2) * 256 + b3) * 4294967296:=by
  have:=or_step 32 1099511627776 4294967296 rfl rfl (by omega) (A:=((b0 * 256 + b1) * 256 + b2)) (b:=b3) (by omega) h3 (by omega)
  refine this.trans ?_; omega
 have e4 : bor .u64 ((((b0 * 256 + b1) * 256 + b2) * 256 + b3) * 4294967296) (shlI .u64 (IntKind.u64.wrap b4) 24) = ((((b0 * 256 + b1) * 256 + b2) * 256 + b3) * 256 + b4) * 16777216:=by
  have:=or_step 24 4294967296 16777216 rfl rfl (by omega) (A:=(((b0 * 256 + b1) * 256 + b2) * 256 + b3)) (b:=b4) (by omega) h4 (by omega)
  refine this.trans ?_; omega
 have e5 : bor .u64 (((((b0 * 256 + b1) * 256 + b2) * 256 + b3) * 256 + b4) * 16777216) (shlI .u64 (IntKind.u64.wrap b5) 16) = (((((b0 * 256 + b1) * 256 + b2) * 256 + b3) * 256 + b4) * 256 + b5) * 65536:=by
  have:=or_step 16 16777216 65536 rfl rfl (by omega) (A:=((((b0 * 256 + b1) * 256 + b2) * 256 + b3) * 256 + b4)) (b:=b5) (by omega) h5 (by omega)
  refine this.trans ?_; omega
 have e6 : bor .u64 ((((((b0 * 256 + b1) * 256 + b2) * 256 + b3) * 256 + b4) * 256 + b5) * 65536) (shlI .u64 (IntKind.u64.wrap b6) 8) = ((((((b0 * 256 + b1) * 256 + b2) * 256 + b3) * 256 + b4) * 256 + b5) * 256 + b6) * 256:=by
  have:=or_step 8 65536 256 rfl rfl (by omega) (A:=(((((b0 * 256 + b1) * 256 + b2) * 256 + b3) * 256 + b4) * 256 + b5)) (b:=b6) (by omega) h6 (by omega)
  refine this.trans ?_; omega
 have e7 : bor .u64 (((((((b0 * 256 + b1) * 256 + b2) * 256 + b3) * 256 + b4) * 256 + b5) * 256 + b6) * 256) (shlI .u64 (IntKind.u64.wrap b7) 0) = (((((((b0 * 256 + b1) * 256 + b2) * 256 + b3) * 256 + b4) * 256 + b5) * 256 + b6) * 256 + b7) * 1:=by
  have:=or_step 0 256 1 rfl rfl (by omega) (A:=((((((b0 * 256 + b1) * 256 + b2) * 256 + b3) * 256 + b4) * 256 + b5) * 256 + b6)) (b:=b7) (by omega) h7 (by omega)
  refine this.trans ?_; omega
 rw [e0,e1,e2,e3,e4,e5,e6,e7]
 have f0 : IntKind.u64.wrap ((IntKind.u64.wrap (0 * 256)) + (IntKind.u64.wrap b0)) = b0:=by
  rw [wrap_u64 (x:=0 * 256) (by omega) (by omega),wrap_u64 (x:=b0) (by omega) (by omega),wrap_u64 (by omega) (by omega)]; omega
 have f1 : IntKind.u64.wrap ((IntKind.u64.wrap (b0 * 256)) + (IntKind.u64.wrap b1)) = (b0 * 256 + b1):=by
  rw [wrap_u64 (x:=b0 * 256) (by omega) (by omega),wrap_u64 (x:=b1) (by omega) (by omega),wrap_u64 (by omega) (by omega)]
 have f2 : IntKind.u64.wrap ((IntKind.u64.wrap ((b0 * 256 + b1) * 256)) + (IntKind.u64.wrap b2)) = ((b0 * 256 + b1) * 256 + b2):=by
  rw [wrap_u64 (x:=(b0 * 256 + b1) * 256) (by omega) (by omega),wrap_u64 (x:=b2) (by omega) (by omega),wrap_u64 (by omega) (by omega)]
 have f3 : IntKind.u64.wrap ((IntKind.u64.wrap (((b0 * 256 + b1) * 256 + b2) * 256)) + (IntKind.u64.wrap b3)) = (((b0 * 256 + b1) * 256 + b2) * 256 + b3):=by
  rw [wrap_u64 (x:=((b0 * 256 + b1) * 256 + b2) * 256) (by omega) (by omega),wrap_u64 (x:=b3) (by omega) (by omega),wrap_u64 (by omega) (by omega)]
 have f4 : IntKind.u64.wrap ((IntKind.u64.wrap ((((b0 * 256 + b1) * 256 + b2) * 256 + b3) * 256)) + (IntKind.u64.wrap b4)) = ((((b0 * 256 + b1) * 256 + b2) * 256 + b3) * 256 + b4):=by
  rw [wrap_u64 (x:=(((b0 * 256 + b1) * 256 + b2) * 256 + b3) * 256) (by omega) (by omega),wrap_u64 (x:=b4) (by omega) (by omega),wrap_u64 (by omega) (by omega)]
 have f5 : IntKind.u64.wrap ((IntKind.u64.wrap (((((b0 * 256 + b1) * 256 + b2) * 256 + b3) * 256 + b4) * 256)) + (IntKind.u64.wrap b5)) = (((((b0 * 256 + b1) * 256 + b2) * 256 + b3) * 256 + b4) * 256 + b5):=by
  rw [wrap_u64 (x:=((((b0 * 256 + b1) * 256 + b2) * 256 + b3) * 256 + b4) * 256) (by omega) (by omega),wrap_u64 (x:=b5) (by omega) (by omega),wrap_u64 (by omega) (by omega)]
 have f6 : IntKind.u64.wrap ((IntKind.u64.wrap ((((((b0 * 256 + b1) * 256 + b2) * 256 + b3) * 256 + b4) * 256 + b5) * 256)) + (IntKind.u64.wrap b6)) = ((((((b0 * 256 + b1) * 256 + b2) * 256 + b3) * 256 + b4) * 256 + b5) * 256 + b6):=by
  rw [wrap_u64 (x:=(((((b0 * 256 + b1) * 256 + b2) * 256 + b3) * 256 + b4) * 256 + b5) * 256) (by omega) (by omega),wrap_u64 (x:=b6) (by omega) (by omega),wrap_u64 (by omega) (by omega)]
 have f7 : IntKind.u64.wrap ((IntKind.u64.wrap (((((((b0 * 256 + b1) * 256 + b2) * 256 + b3) * 256 + b4) * 256 + b5) * 256 + b6) * 256)) + (IntKind.u64.wrap b7)) = (((((((b0 * 256 + b1) * 256 + b2) * 256 + b3) * 256 + b4) * 256 + b5) * 256 + b6) * 256 + b7):=by
  rw [wrap_u64 (x:=((((((b0 * 256 + b1) * 256 + b2) * 256 + b3) * 256 + b4) * 256 + b5) * 256 + b6) * 256) (by omega) (by omega),wrap_u64 (x:=b7) (by omega) (by omega),wrap_u64 (by omega) (by omega)]
 rw [f0,f1,f2,f3,f4,f5,f6,f7]; omega
theorem cons_of_len {α : Type} {l : List α} {n : Nat} (h : l.length = n + 1) : ∃ a t,l = a :: t /\ t.length = n:=by
 cases l with
 | nil=>simp at h
 | cons a t=>exact ⟨a,t,rfl,by simpa using h⟩
theorem sumW_rng (b0 b1 b2 b3 b4 b5 b6 b7 : Int) : 0 <= sumW b0 b1 b2 b3 b4 b5 b6 b7 /\ sumW b0 b1 b2 b3 b4 b5 b6 b7 < B64:=by
 unfold sumW
 rw [wrap_u64_mod]
 exact ⟨Int.emod_nonneg _ (by decide),Int.emod_lt_of_pos _ (by decide)⟩
theorem from_both (y : List Int) (hy : y.length = 32) (hb : ∀ b ∈ y,0 <= b /\ b < 256) : ∃ r,wide_From.run y = some r /\ basculeref_FromBytes.run y = some r /\ r.length = 4 /\ digs B64 r:=by
 obtain ⟨a0,a,e_0,hy0⟩:=cons_of_len hy
 subst e_0
 obtain ⟨a1,c,e_1,hy1⟩:=cons_of_len hy0
 subst e_1
 obtain ⟨a2,d,e_2,hy2⟩:=cons_of_len hy1
 subst e_2
 obtain ⟨a3,e,e_3,hy3⟩:=cons_of_len hy2
 subst e_3
 obtain ⟨a4,f,e_4,hy4⟩:=cons_of_len hy3
 subst e_4
 obtain ⟨a5,g,e_5,hy5⟩:=cons_of_len hy4
 subst e_5
 obtain ⟨a6,i,e_6,hy6⟩:=cons_of_len hy5
 subst e_6
 obtain ⟨a7,j,e_7,hy7⟩:=cons_of_len hy6
 subst e_7
 obtain ⟨a8,k,e_8,hy8⟩:=cons_of_len hy7
 subst e_8
 obtain ⟨a9,l,e_9,hy9⟩:=cons_of_len hy8
 subst e_9
 obtain ⟨a10,m,e_10,hy10⟩:=cons_of_len hy9
 subst e_10
 obtain ⟨a11,n,e_11,hy11⟩:=cons_of_len hy10
 subst e_11
 obtain ⟨a12,o,e_12,hy12⟩:=cons_of_len hy11
 subst e_12
 obtain ⟨a13,p,e_13,hy13⟩:=cons_of_len hy12
 subst e_13
 obtain ⟨a14,q,e_14,hy14⟩:=cons_of_len hy13
 subst e_14
 obtain ⟨a15,s,e_15,hy15⟩:=cons_of_len hy14
 subst e_15
 obtain ⟨a16,t,e_16,hy16⟩:=cons_of_len hy15
 subst e_16
 obtain ⟨a17,u,e_17,hy17⟩:=cons_of_len hy16
 subst e_17
 obtain ⟨a18,v,e_18,hy18⟩:=cons_of_len hy17
 subst e_18
 obtain ⟨a19,w,e_19,hy19⟩:=cons_of_len hy18
 subst e_19
 obtain ⟨a20,x,e_20,hy20⟩:=cons_of_len hy19
 subst e_20
 obtain ⟨a21,z,e_21,hy21⟩:=cons_of_len hy20
 subst e_21
 obtain ⟨a22,A,e_22,hy22⟩:=cons_of_len hy21
 subst e_22
 obtain ⟨a23,B,e_23,hy23⟩:=cons_of_len hy22
 subst e_23
 obtain ⟨a24,D,e_24,hy24⟩:=cons_of_len hy23
 subst e_24
 obtain ⟨a25,E,e_25,hy25⟩:=cons_of_len hy24
 subst e_25
 obtain ⟨a26,G,e_26,hy26⟩:=cons_of_len hy25
 subst e_26
 obtain ⟨a27,H,e_27,hy27⟩:=cons_of_len hy26
 subst e_27
 obtain ⟨a28,I,e_28,hy28⟩:=cons_of_len hy27
 subst e_28
 obtain ⟨a29,J,e_29,hy29⟩:=cons_of_len hy28
 subst e_29
 obtain ⟨a30,K,e_30,hy30⟩:=cons_of_len hy29
 subst e_30
 obtain ⟨a31,L,e_31,hy31⟩:=cons_of_len hy30
 subst e_31
 have e_y:=List.eq_nil_of_length_eq_zero hy31
 subst e_y
 have ha0:=hb a0 (by simp)
 have ha1:=hb a1 (by simp)
 have ha2:=hb a2 (by simp)
 have ha3:=hb a3 (by simp)
 have ha4:=hb a4 (by simp)
 have ha5:=hb a5 (by simp)
 have ha6:=hb a6 (by simp)
 have ha7:=hb a7 (by simp)
 have ha8:=hb a8 (by simp)
 have ha9:=hb a9 (by simp)
 have ha10:=hb a10 (by simp)
 have ha11:=hb a11 (by simp)
 have ha12:=hb a12 (by simp)
 have ha13:=hb a13 (by simp)
 have ha14:=hb a14 (by simp)
 have ha15:=hb a15 (by simp)
 have ha16:=hb a16 (by simp)
 have ha17:=hb a17 (by simp)
 have ha18:=hb a18 (by simp)
 have ha19:=hb a19 (by simp)
 have ha20:=hb a20 (by simp)
 have ha21:=hb a21 (by simp)
 have ha22:=hb a22 (by simp)
 have ha23:=hb a23 (by simp)
 have ha24:=hb a24 (by simp)
 have ha25:=hb a25 (by simp)
 have ha26:=hb a26 (by simp)
 have ha27:=hb a27 (by simp)
 have ha28:=hb a28 (by simp)
 have ha29:=hb a29 (by simp)
 have ha30:=hb a30 (by simp)
 have ha31:=hb a31 (by simp)
 have s0:=or_sum ha0 ha1 ha2 ha3 ha4 ha5 ha6 ha7
 have s1:=or_sum ha8 ha9 ha10 ha11 ha12 ha13 ha14 ha15
 have s2:=or_sum ha16 ha17 ha18 ha19 ha20 ha21 ha22 ha23
 have s3:=or_sum ha24 ha25 ha26 ha27 ha28 ha29 ha30 ha31
 refine ⟨_,wb5 _ _ _ _ _ _ _ _ _ _ _ _ _ _ _ _ _ _ _ _ _ _ _ _ _ _ _ _ _ _ _ _,?_,rfl,?_⟩
 ·rw [wb6,s0,s1,s2,s3]
 ·rw [s0,s1,s2,s3]
  exact digs_cons.2 ⟨sumW_rng _ _ _ _ _ _ _ _,digs_cons.2 ⟨sumW_rng _ _ _ _ _ _ _ _,digs_cons.2 ⟨sumW_rng _ _ _ _ _ _ _ _,digs_cons.2 ⟨sumW_rng _ _ _ _ _ _ _ _,digs_nil⟩⟩⟩⟩
end Go.Bx.Frm
namespace Go.Bx
open Go
def wid (y : List Int) : List Int:=(basculeref_FromBytes.run y).getD [0,0,0,0]
theorem from_wid (y : List Int) (hy : y.length = 32) (hb : ∀ b ∈ y,0 <= b /\ b < 256) : wide_From.run y = some (wid y) /\ basculeref_FromBytes.run y = some (wid y):=by
 obtain ⟨r,h1,h2,_,_⟩:=Frm.from_both y hy hb
 have : wid y = r:=by unfold wid; rw [h2]; rfl
 rw [this]; exact ⟨h1,h2⟩
theorem wid_digs (y : List Int) (hy : y.length = 32) (hb : ∀ b ∈ y,0 <= b /\ b < 256) : (wid y).length = 4 /\ digs B64 (wid y):=by
 obtain ⟨r,h1,h2,h3,h4⟩:=Frm.from_both y hy hb
 have : wid y = r:=by unfold wid; rw [h2]; rfl
 rw [this]; exact ⟨h3,h4⟩
end Go.Bx
namespace Go.Bx
open Go
set_option linter.unusedSimpArgs false
set_option linter.unusedVariables false
set_option maxRecDepth 100000
theorem pad_full (l : List Int) (h : l.length = 32) : pad l = l:=by simp [pad,h]
theorem wideOf_wid (y : List Int) (hy : y.length = 32) (hb : ∀ b ∈ y,0 <= b /\ b < 256) : basculeref_wideOf.run y = some (wid y):=by
 unfold basculeref_wideOf.run basculeref_wideOf.top
 rw [word_run y (by omega),pad_full y hy,Option.bind_some,(from_wid y hy hb).2,Option.bind_some]
end Go.Bx
namespace Go.Bx
open Go
set_option linter.unusedSimpArgs false
set_option linter.unusedVariables false
set_option maxRecDepth 100000
def numI (l : List Int) : Int:=l.foldl (fun a b=>a * 256 + b) 0
def numW (l : List Int) : Int:=IntKind.i64.wrap (numI l)
theorem i64_wrap (x : Int) : IntKind.i64.wrap x = (x + 9223372036854775808) % 18446744073709551616 - 9223372036854775808:=by
 simp only [IntKind.wrap,IntKind.bits,IntKind.signed]
 simp
 try omega
theorem or_low (N b : Int) (hb : 0 <= b /\ b < 256) : bor .i64 (shlI .i64 (IntKind.i64.wrap N) 8) b = IntKind.i64.wrap (N * 256 + b):=by
 unfold bor shlI
 have e8 : (2 : Int) ^ (min (8 : Int).toNat IntKind.i64.bits) = 256:=rfl
 rw [e8]
 obtain ⟨c,rfl⟩:=Int.eq_ofNat_of_zero_le hb.1
 have hc : c < 256:=by omega
 obtain ⟨m,hm⟩:=Int.eq_ofNat_of_zero_le (show 0 <= N % 72057594037927936 by omega)
 have hm2 : m < 72057594037927936:=by omega
 have h1 : (BitVec.ofInt IntKind.i64.bits (IntKind.i64.wrap (IntKind.i64.wrap N * 256))).toNat = 2 ^ 8 * m:=by
  rw [BitVec.toNat_ofInt,show (2 ^ IntKind.i64.bits : Nat) = 18446744073709551616 from rfl]
  simp only [i64_wrap]
  omega
 have h2 : (BitVec.ofInt IntKind.i64.bits ((c : Nat) : Int)).toNat = c:=by
  rw [BitVec.toNat_ofInt,show (2 ^ IntKind.i64.bits : Nat) = 18446744073709551616 from rfl]
  omega
 rw [BitVec.toNat_or,h1,h2,<- Nat.two_pow_add_eq_or_of_lt (by omega : c < 2 ^ 8)]
 simp only [i64_wrap]
 omega
def Byts (l : List Int) : Prop:=∀ b ∈ l,0 <= b /\ b < 256
theorem num_loop {α : Type} (Xt : Int->Option α) (K : Nat) (l : List Int) (hl : l.length <= 1000) (hb : Byts l) : ∀ (R P : List Int) (n : Nat) (x : Int),R.length < n->l = P ++ R ->
  basculeref_number.l0 K Xt n l (IntKind.u64.wrap x) (P.length : Int) = Xt (IntKind.u64.wrap (R.foldl (fun a b=>a * 256 + b) x))
 | R,P,0,x,h,_=>by omega
 | [],P,n + 1,x,h,hc=>by
  simp only [basculeref_number.l0,basculeref_number.l0s]
  have : l.length = P.length:=by rw [hc]; simp
  rw [if_neg (by rw [decide_eq_true_eq]; omega)]
  simp
 | y :: R,P,n + 1,x,h,hc=>by
  have hlen : l.length = P.length + (R.length + 1):=by rw [hc]; simp
  simp only [basculeref_number.l0,basculeref_number.l0s]
  have hg : l.getD P.length 0 = y:=by rw [hc]; exact getD_at _ _ _ _
  have hy:=hb y (by rw [hc]; simp)
  rw [if_pos (by rw [decide_eq_true_eq]; omega),if_pos (by omega),i64_succ (by omega),toNat_nat,hg]
  have e : IntKind.u64.wrap ((IntKind.u64.wrap ((IntKind.u64.wrap x) * 256)) + (IntKind.u64.wrap y)) = IntKind.u64.wrap (x * 256 + y):=by
   simp only [wrap_u64_mod]; omega
  rw [e]
  have ih:=num_loop Xt K l hl hb R (P ++ [y]) n (x * 256 + y) (by simpa using h) (by simp [hc])
  rw [List.length_append] at ih
  exact ih
theorem refnum_run (l : List Int) (hl : l.length <= 1000) (hb : Byts l) : basculeref_number.run l = some (numW l):=by
 unfold basculeref_number.run basculeref_number.top
 have:=num_loop (fun a=>basculeref_number.j0 (fun b=>some b) a) fuel l hl hb l [] fuel 0 (by rw [fuel_big]; omega) rfl
 rw [show IntKind.u64.wrap 0 = 0 from rfl] at this
 refine Eq.trans this ?_
 unfold basculeref_number.j0 numW numI
 congr 1
 simp only [wrap_u64_mod,i64_wrap]; omega
end Go.Bx
namespace Go.Bx
open Go
set_option linter.unusedSimpArgs false
set_option linter.unusedVariables false
set_option maxRecDepth 100000
theorem eye_loop {α : Type} (Xt : Int->(List Int × Bool × Unit)->Option α) (K : Nat) (c : List Int × Bool × Unit) (l : List Int) (hl : l.length <= 1000) (hb : ∀ b ∈ l,0 <= b /\ b < 256) : ∀ (R P : List Int) (n : Nat) (x : Int),R.length < n->l = P ++ R ->
  paper_eye__number_s1.l0 K Xt n (IntKind.i64.wrap x) l (l.length : Int) (P.length : Int) c = Xt (IntKind.i64.wrap (R.foldl (fun a b=>a * 256 + b) x)) c
 | R,P,0,x,h,_=>by omega
 | [],P,n + 1,x,h,hc=>by
  simp only [paper_eye__number_s1.l0,paper_eye__number_s1.l0s]
  have : l.length = P.length:=by rw [hc]; simp
  rw [if_neg (by rw [decide_eq_true_eq]; omega)]
  simp
 | y :: R,P,n + 1,x,h,hc=>by
  have hlen : l.length = P.length + (R.length + 1):=by rw [hc]; simp
  simp only [paper_eye__number_s1.l0,paper_eye__number_s1.l0s]
  have hg : l.getD P.length 0 = y:=by rw [hc]; exact getD_at _ _ _ _
  have hy:=hb y (by rw [hc]; simp)
  rw [if_pos (by rw [decide_eq_true_eq]; omega),if_pos (by omega),i64_succ (by omega),toNat_nat,hg,wrap_i64 (x:=y) (by omega) (by omega),or_low x y hy]
  have ih:=eye_loop Xt K c l hl hb R (P ++ [y]) n (x * 256 + y) (by simpa using h) (by simp [hc])
  rw [List.length_append] at ih
  exact ih
abbrev EyeD : Type:=List Int × Bool × Unit
def tak (n : Nat) (s : EyeD) : List Int × EyeD:=if s.1.length < n then (List.replicate n 0,([],false,())) else (s.1.take n,(s.1.drop n,s.2))
theorem take_run (n : Nat) (hn : n <= 1000) (s : EyeD) : paper_eye__take_s1.run (n : Int) s = some ((tak n s).1,(tak n s).2,()):=by
 unfold paper_eye__take_s1.run paper_eye__take_s1.top tak
 by_cases h : s.1.length < n
 ·rw [if_pos (by rw [decide_eq_true_eq]; omega),if_pos ⟨by omega,rfl,fitB_small (by omega) (by omega)⟩,if_pos h]
  rfl
 ·rw [if_neg (by rw [decide_eq_true_eq]; omega),if_pos (by omega),if_pos (by omega),if_neg h]
  simp only [cutL,show (0 : Int).toNat = 0 from rfl,toNat_nat,List.drop_zero,Nat.sub_zero]
  rw [List.take_of_length_le (l:=s.1.drop n) (by simp)]
theorem tak_len (n : Nat) (s : EyeD) : (tak n s).1.length = n:=by
 unfold tak
 by_cases h : s.1.length < n
 ·rw [if_pos h]; simp
 ·rw [if_neg h]; simp; omega
theorem tak_byts (n : Nat) {s : EyeD} (h : Byts s.1) : Byts (tak n s).1 /\ Byts (tak n s).2.1:=by
 unfold tak
 by_cases hn : s.1.length < n
 ·rw [if_pos hn]
  refine ⟨fun b hb=>?_,fun b hb=>by simp at hb⟩
  have:=List.eq_of_mem_replicate hb; subst this; decide
 ·rw [if_neg hn]
  exact ⟨fun b hb=>h b (List.mem_of_mem_take hb),fun b hb=>h b (List.mem_of_mem_drop hb)⟩
theorem number_run (n : Nat) (hn : n <= 1000) (s : EyeD) (h : Byts s.1) : paper_eye__number_s1.run (n : Int) s = some (numW (tak n s).1,(tak n s).2,()):=by
 unfold paper_eye__number_s1.run paper_eye__number_s1.top
 rw [take_run n hn s,Option.bind_some]
 have:=eye_loop (fun b a=>paper_eye__number_s1.j0 (fun c a=>some (c,a,())) b a) fuel (tak n s).2 (tak n s).1 (by rw [tak_len]; omega) (tak_byts n h).1 (tak n s).1 [] fuel 0 (by rw [fuel_big,tak_len]; omega) rfl
 rw [show IntKind.i64.wrap 0 = 0 from rfl] at this
 exact this
theorem eyeword_run (s : EyeD) : paper_eye__word_s0.run s = some ((tak 32 s).1,(tak 32 s).2,(tak 32 s).1,()):=by
 unfold paper_eye__word_s0.run paper_eye__word_s0.top
 have:=take_run 32 (by omega) s
 rw [show ((32 : Nat) : Int) = 32 from rfl] at this
 rw [this,Option.bind_some,cpy_pad _ (Nat.le_of_eq (tak_len _ _)),pad_full _ (tak_len _ _)]
end Go.Bx
namespace Go.Bx
open Go
set_option linter.unusedSimpArgs false
set_option linter.unusedVariables false
set_option maxRecDepth 100000
def Adv (N : Nat) (s t : EyeD) : Prop:=(s.1.length < N->t = ([],false,())) /\ (N <= s.1.length->t = (s.1.drop N,s.2))
theorem tak_adv (n : Nat) (s : EyeD) : Adv n s (tak n s).2:=by
 unfold tak
 constructor
 ·intro h; rw [if_pos h]
 ·intro h; rw [if_neg (by omega)]
theorem Adv.trans {a b : Nat} {s t u : EyeD} (h : Adv a s t) (g : Adv b t u) : Adv (a + b) s u:=by
 by_cases ha : s.1.length < a
 ·have e:=h.1 ha
  subst e
  have hu : u = ([],false,()):=by
   by_cases hb : 0 < b
   ·exact g.1 hb
   ·have:=g.2 (by simp; omega)
    rw [this]; simp
  exact ⟨fun _=>hu,fun hh=>by omega⟩
 ·have e:=h.2 (by omega)
  subst e
  simp only [Adv,List.length_drop] at g
  constructor
  ·intro hh; exact g.1 (by omega)
  ·intro hh
   rw [g.2 (by omega),List.drop_drop]
theorem Adv.byts {n : Nat} {s t : EyeD} (h : Adv n s t) (b : Byts s.1) : Byts t.1:=by
 by_cases hn : s.1.length < n
 ·rw [h.1 hn]; intro x hx; simp at hx
 ·rw [h.2 (by omega)]; exact fun x hx=>b x (List.mem_of_mem_drop hx)
theorem Adv.len {n : Nat} {s t : EyeD} (h : Adv n s t) : t.1.length <= s.1.length:=by
 by_cases hn : s.1.length < n
 ·rw [h.1 hn]; simp
 ·rw [h.2 (by omega)]; simp
def sg1 (s : EyeD) : EyeD:=(tak 1 s).2
def sg2 (s : EyeD) : EyeD:=(tak 32 (sg1 s)).2
def sg3 (s : EyeD) : EyeD:=(tak 32 (sg2 s)).2
def sg4 (s : EyeD) : EyeD:=(tak 1 (sg3 s)).2
theorem sg1_adv (s : EyeD) : Adv 1 s (sg1 s):=tak_adv 1 s
theorem sg2_adv (s : EyeD) : Adv 33 s (sg2 s):=(sg1_adv s).trans (tak_adv 32 (sg1 s))
theorem sg3_adv (s : EyeD) : Adv 65 s (sg3 s):=(sg2_adv s).trans (tak_adv 32 (sg2 s))
theorem sg4_adv (s : EyeD) : Adv 66 s (sg4 s):=(sg3_adv s).trans (tak_adv 1 (sg3 s))
def signV (s : EyeD) : SignD:=(numW (tak 1 s).1,(wid (tak 32 (sg1 s)).1,wid (tak 32 (sg2 s)).1,numW (tak 1 (sg3 s)).1,()),())
def signsOf : Nat->EyeD->List SignD × EyeD
 | 0,s=>([],s)
 | m + 1,s=>(signV s :: (signsOf m (sg4 s)).1,(signsOf m (sg4 s)).2)
theorem signsOf_adv : ∀ (m : Nat) (s : EyeD),Adv (66 * m) s (signsOf m s).2
 | 0,s=>⟨fun h=>by omega,fun _=>by simp [signsOf]⟩
 | m + 1,s=>by
  have:=(sg4_adv s).trans (signsOf_adv m (sg4 s))
  rw [show 66 * (m + 1) = 66 + 66 * m by omega]
  exact this
def st1 (s : EyeD) : EyeD:=(tak 8 s).2
def st2 (s : EyeD) : EyeD:=(tak 4 (st1 s)).2
def st3 (s : EyeD) : EyeD:=(tak 2 (st2 s)).2
def st4 (s : EyeD) : EyeD:=(tak 32 (st3 s)).2
def st5 (s : EyeD) : EyeD:=(tak 8 (st4 s)).2
def st6 (s : EyeD) : EyeD:=(tak 1 (st5 s)).2
def bodyV (s : EyeD) : BodyD:=(numW (tak 8 s).1,numW (tak 4 (st1 s)).1,numW (tak 2 (st2 s)).1,(tak 32 (st3 s)).1,numW (tak 8 (st4 s)).1,numW (tak 1 (st5 s)).1,(st6 s).1,())
theorem st1_adv (s : EyeD) : Adv 8 s (st1 s):=tak_adv 8 s
theorem st2_adv (s : EyeD) : Adv 12 s (st2 s):=(st1_adv s).trans (tak_adv 4 (st1 s))
theorem st3_adv (s : EyeD) : Adv 14 s (st3 s):=(st2_adv s).trans (tak_adv 2 (st2 s))
theorem st4_adv (s : EyeD) : Adv 46 s (st4 s):=(st3_adv s).trans (tak_adv 32 (st3 s))
theorem st5_adv (s : EyeD) : Adv 54 s (st5 s):=(st4_adv s).trans (tak_adv 8 (st4 s))
theorem st6_adv (s : EyeD) : Adv 55 s (st6 s):=(st5_adv s).trans (tak_adv 1 (st5 s))
theorem nums (s : EyeD) (h : Byts s.1) : (paper_eye__number_s1.run 1 s = some (numW (tak 1 s).1,(tak 1 s).2,()) /\ paper_eye__number_s1.run 2 s = some (numW (tak 2 s).1,(tak 2 s).2,())) /\ (paper_eye__number_s1.run 4 s = some (numW (tak 4 s).1,(tak 4 s).2,()) /\ paper_eye__number_s1.run 8 s = some (numW (tak 8 s).1,(tak 8 s).2,())) :=
 ⟨⟨number_run 1 (by omega) s h,number_run 2 (by omega) s h⟩,number_run 4 (by omega) s h,number_run 8 (by omega) s h⟩
theorem eyebody_run (s : EyeD) (hb : Byts s.1) (hl : s.1.length <= 140737488351232) : paper_eye__body_s0.run s = some ((bodyV s).1,(bodyV s).2.1,(bodyV s).2.2.1,(bodyV s).2.2.2.1,(bodyV s).2.2.2.2.1,(bodyV s).2.2.2.2.2.1,st6 s,
  (bodyV s).1,(bodyV s).2.1,(bodyV s).2.2.1,(bodyV s).2.2.2.1,(bodyV s).2.2.2.2.1,(bodyV s).2.2.2.2.2.1,(st6 s).1,()):=by
 have a6:=(st6_adv s).len
 unfold paper_eye__body_s0.run paper_eye__body_s0.top
 rw [(nums s hb).2.2,Option.bind_some]
 simp only []
 rw [show (tak 8 s).2 = st1 s from rfl,(nums _ ((st1_adv s).byts hb)).2.1,Option.bind_some]
 simp only []
 rw [show (tak 4 (st1 s)).2 = st2 s from rfl,(nums _ ((st2_adv s).byts hb)).1.2,Option.bind_some]
 simp only []
 rw [show (tak 2 (st2 s)).2 = st3 s from rfl,eyeword_run,Option.bind_some]
 simp only []
 rw [show (tak 32 (st3 s)).2 = st4 s from rfl,(nums _ ((st4_adv s).byts hb)).2.2,Option.bind_some]
 simp only []
 rw [show (tak 8 (st4 s)).2 = st5 s from rfl,(nums _ ((st5_adv s).byts hb)).1.1,Option.bind_some]
 simp only []
 rw [show (tak 1 (st5 s)).2 = st6 s from rfl,if_pos (fitB_of (show (0 + (st6 s).1.length) * 1 <= 140737488355328 by omega) (show 0 + (st6 s).1.length <= 140737488355328 by omega))]
 simp only [bodyV]
theorem dec_loop {α : Type} (Xt : Int->Int->Int->Int->List Int->Int->Int->Int->Int->Int->Int->List Int->Int->Int->EyeD->List SignD->Option α) (K : Nat)
  (a1 a2 a3 a4 : Int) (a5 : List Int) (a6 a7 a8 a9 a10 a11 : Int) (a12 : List Int) (a13 a14 : Int) (N : Nat) (hN : N <= 255) : ∀ (m i n : Nat) (s : EyeD) (c : List SignD),m < n->i + m = N->c.length = i->Byts s.1 ->
  paper_Decode.l0 K Xt n (N : Int) (i : Int) a1 a2 a3 a4 a5 a6 a7 a8 a9 a10 a11 a12 a13 a14 s c = Xt a1 a2 a3 a4 a5 a6 a7 a8 a9 a10 a11 a12 a13 a14 (signsOf m s).2 (c ++ (signsOf m s).1)
 | m,i,0,s,c,h,_,_,_=>by omega
 | 0,i,n + 1,s,c,h,hi,hc,hb=>by
  simp only [paper_Decode.l0,paper_Decode.l0s]
  rw [if_neg (by rw [decide_eq_true_eq]; omega)]
  simp [signsOf]
 | m + 1,i,n + 1,s,c,h,hi,hc,hb=>by
  simp only [paper_Decode.l0,paper_Decode.l0s]
  have w1:=from_wid _ (tak_len 32 (sg1 s)) (tak_byts 32 ((sg1_adv s).byts hb)).1
  have w2:=from_wid _ (tak_len 32 (sg2 s)) (tak_byts 32 ((sg2_adv s).byts hb)).1
  rw [if_pos (by rw [decide_eq_true_eq]; omega),(nums s hb).1.1,Option.bind_some]
  simp only []
  rw [show (tak 1 s).2 = sg1 s from rfl,eyeword_run,Option.bind_some]
  simp only []
  rw [show (tak 32 (sg1 s)).2 = sg2 s from rfl,w1.1,Option.bind_some,eyeword_run,Option.bind_some]
  simp only []
  rw [show (tak 32 (sg2 s)).2 = sg3 s from rfl,w2.1,Option.bind_some,(nums _ ((sg3_adv s).byts hb)).1.1,Option.bind_some,if_pos (fitB_small (by omega) (by omega)),i64_succ (by omega)]
  simp only []
  rw [show (tak 1 (sg3 s)).2 = sg4 s from rfl,show (numW (tak 1 s).1,(wid (tak 32 (sg1 s)).1,wid (tak 32 (sg2 s)).1,numW (tak 1 (sg3 s)).1,()),()) = signV s from rfl]
  refine (dec_loop Xt K a1 a2 a3 a4 a5 a6 a7 a8 a9 a10 a11 a12 a13 a14 N hN m (i + 1) n (sg4 s) (c ++ [signV s]) (by omega) (by omega) (by simp; omega) ((sg4_adv s).byts hb)).trans ?_
  simp [signsOf,List.append_assoc]
abbrev zeroP : PaperD:=(0,[],(0,0,0,List.replicate 32 0,0,0,[],()),())
def eD1 (b : List Int) : EyeD:=(tak 1 (b,true,())).2
def eD2 (b : List Int) : EyeD:=(tak 4 (eD1 b)).2
def eD3 (b : List Int) : EyeD:=(tak 1 (eD2 b)).2
theorem eD1_adv (b : List Int) : Adv 1 (b,true,()) (eD1 b):=tak_adv 1 _
theorem eD2_adv (b : List Int) : Adv 5 (b,true,()) (eD2 b):=(eD1_adv b).trans (tak_adv 4 (eD1 b))
theorem eD3_adv (b : List Int) : Adv 6 (b,true,()) (eD3 b):=(eD2_adv b).trans (tak_adv 1 (eD2 b))
def vV (b : List Int) : Int:=numW (tak 1 (b,true,())).1
def sV (b : List Int) : Int:=numW (tak 4 (eD1 b)).1
def nV (b : List Int) : Int:=numW (tak 1 (eD2 b)).1
def G1 (b : List Int) : List SignD:=(signsOf (nV b).toNat (eD3 b)).1
def eD4 (b : List Int) : EyeD:=(signsOf (nV b).toNat (eD3 b)).2
def pV (b : List Int) : PaperD:=(sV b,G1 b,bodyV (eD4 b),())
def decP (b : List Int) : PaperD × Int × Unit :=
 if (eD1 b).2.1 = true /\ vV b ≠ 1 then (zeroP,3,())
 else if (eD3 b).2.1 = true /\ nV b > 19 then (zeroP,1,())
 else if (st6 (eD4 b)).2.1 = true then (if paperE (pV b) = 0 then (pV b,0,()) else (zeroP,paperE (pV b),()))
 else (zeroP,4,())
theorem numW1 (l : List Int) (h : l.length = 1) (hb : Byts l) : 0 <= numW l /\ numW l <= 255 /\ numW l = l.getD 0 0:=by
 obtain ⟨x,t,rfl,ht⟩:=Frm.cons_of_len (n:=0) h
 have:=List.eq_nil_of_length_eq_zero ht
 subst this
 have hx:=hb x (by simp)
 have : numW [x] = x:=by unfold numW numI; simp only [List.foldl]; rw [wrap_i64 (by omega) (by omega)]; omega
 rw [this]; exact ⟨by omega,by omega,rfl⟩
theorem decode_run (b : List Int) (hb : Byts b) (hl : b.length <= 140737488351232) : paper_Decode.run b = some (decP b):=by
 have hb0 : Byts ((b,true,()) : EyeD).1:=hb
 have hd1:=(eD1_adv b).byts hb0
 have hd2:=(eD2_adv b).byts hb0
 have hd3:=(eD3_adv b).byts hb0
 unfold paper_Decode.run paper_Decode.top decP
 rw [(nums (b,true,()) hb0).1.1,Option.bind_some]
 simp only [cond_and]
 rw [show (tak 1 (b,true,())).2 = eD1 b from rfl,show numW (tak 1 (b,true,())).1 = vV b from rfl]
 by_cases a : (eD1 b).2.1 = true /\ vV b ≠ 1
 ·rw [if_pos (by rw [Bool.and_eq_true]; exact ⟨a.1,by simpa using a.2⟩),if_pos a]
 ·rw [if_neg (fun hh=>a (by rw [Bool.and_eq_true] at hh; exact ⟨hh.1,by simpa using hh.2⟩)),if_neg a]
  rw [(nums _ hd1).2.1,Option.bind_some]
  simp only []
  rw [show (tak 4 (eD1 b)).2 = eD2 b from rfl,show numW (tak 4 (eD1 b)).1 = sV b from rfl,(nums _ hd2).1.1,Option.bind_some]
  simp only []
  obtain ⟨n1,n2,_⟩:=numW1 _ (tak_len 1 (eD2 b)) (tak_byts 1 hd2).1
  rw [show (tak 1 (eD2 b)).2 = eD3 b from rfl,show numW (tak 1 (eD2 b)).1 = nV b from rfl] at *
  by_cases c : (eD3 b).2.1 = true /\ nV b > 19
  ·rw [if_pos (by rw [Bool.and_eq_true]; exact ⟨c.1,by simpa using c.2⟩),if_pos c]
  ·rw [if_neg (fun hh=>c (by rw [Bool.and_eq_true] at hh; exact ⟨hh.1,by simpa using hh.2⟩)),if_neg c]
   obtain ⟨N,hN⟩:=Int.eq_ofNat_of_zero_le n1
   have hN' : (nV b).toNat = N:=by rw [hN]; rfl
   have a4 : Adv (6 + 66 * N) (b,true,()) (eD4 b):=by
    have:=(eD3_adv b).trans (signsOf_adv N (eD3 b))
    unfold eD4; rw [hN']; exact this
   rw [hN]
   refine (dec_loop _ fuel 0 0 0 0 (List.replicate 32 0) 0 0 _ 0 0 0 (List.replicate 32 0) 0 0 N (by omega) N 0 fuel _ [] (by rw [fuel_big]; omega) (by omega) rfl hd3).trans ?_
   unfold paper_Decode.j0
   rw [show (signsOf N (eD3 b)).2 = eD4 b by unfold eD4; rw [hN'],show (signsOf N (eD3 b)).1 = G1 b by unfold G1; rw [hN'],List.nil_append]
   rw [eyebody_run _ (a4.byts hb0) (Nat.le_trans a4.len hl),Option.bind_some]
   simp only []
   by_cases d : (st6 (eD4 b)).2.1 = true
   ·rw [if_neg (by rw [d]; decide),if_pos d]
    rw [show (sV b,G1 b,((bodyV (eD4 b)).1,(bodyV (eD4 b)).2.1,(bodyV (eD4 b)).2.2.1,(bodyV (eD4 b)).2.2.2.1,(bodyV (eD4 b)).2.2.2.2.1,(bodyV (eD4 b)).2.2.2.2.2.1,(st6 (eD4 b)).1,()),()) = pV b by simp only [pV,bodyV],paper_fault_run,Option.bind_some]
    by_cases e : paperE (pV b) = 0
    ·rw [if_neg (by simpa using e),if_pos e]
    ·rw [if_pos (by simpa using e),if_neg e]
   ·rw [if_pos (by simpa using d),if_neg d]
theorem tak_long {n : Nat} {l : List Int} {u : Bool × Unit} (h : n <= l.length) : tak n (l,u) = (l.take n,(l.drop n,u)):=by
 unfold tak; rw [if_neg (by simpa using h)]
theorem cut_eq (l : List Int) (a b : Nat) : cutL l (a : Int) (b : Int) = (l.drop a).take (b - a):=by simp [cutL]
theorem one_at {l : List Int} {n : Nat} (h : n < l.length) (hb : Byts l) : numW ((l.drop n).take 1) = IntKind.i64.wrap (l.getD n 0):=by
 have e : (l.drop n).take 1 = [l.getD n 0]:=by
  rw [List.drop_eq_getElem_cons h,getD_eq h]; rfl
 rw [e]; unfold numW numI; simp only [List.foldl]; rw [Int.zero_mul,Int.zero_add]
theorem signV_long {l : List Int} {u : Bool × Unit} (h : 66 <= l.length) (hb : Byts l) : signV (l,u) = (IntKind.i64.wrap (l.getD 0 0),(wid (cutL l 1 33),wid (cutL l 33 65),IntKind.i64.wrap (l.getD 65 0),()),()) /\ sg4 (l,u) = (l.drop 66,u):=by
 have e1 : sg1 (l,u) = (l.drop 1,u):=by unfold sg1; rw [tak_long (by omega)]
 have e2 : sg2 (l,u) = (l.drop 33,u):=by unfold sg2; rw [e1,tak_long (by rw [List.length_drop]; omega)]; simp
 have e3 : sg3 (l,u) = (l.drop 65,u):=by unfold sg3; rw [e2,tak_long (by rw [List.length_drop]; omega)]; simp
 have e4 : sg4 (l,u) = (l.drop 66,u):=by unfold sg4; rw [e3,tak_long (by rw [List.length_drop]; omega)]; simp
 refine ⟨?_,e4⟩
 have a : cutL l 1 33 = (l.drop 1).take 32:=cut_eq l 1 33
 have b : cutL l 33 65 = (l.drop 33).take 32:=cut_eq l 33 65
 unfold signV
 rw [e1,e2,e3,tak_long (by omega),tak_long (by rw [List.length_drop]; omega),tak_long (by rw [List.length_drop]; omega),tak_long (by rw [List.length_drop]; omega)]
 have n0:=one_at (n:=0) (l:=l) (by omega) hb
 rw [List.drop_zero] at n0
 rw [a,b,n0,one_at (n:=65) (l:=l) (by omega) hb]
theorem bodyV_long {l : List Int} {u : Bool × Unit} (h : 55 <= l.length) (hb : Byts l) : bodyV (l,u) = (numW (cutL l 0 8),numW (cutL l 8 12),numW (cutL l 12 14),cutL l 14 46,numW (cutL l 46 54),IntKind.i64.wrap (l.getD 54 0),cutL l 55 (l.length : Int),()) /\ st6 (l,u) = (l.drop 55,u):=by
 have e1 : st1 (l,u) = (l.drop 8,u):=by unfold st1; rw [tak_long (by omega)]
 have e2 : st2 (l,u) = (l.drop 12,u):=by unfold st2; rw [e1,tak_long (by rw [List.length_drop]; omega)]; simp
 have e3 : st3 (l,u) = (l.drop 14,u):=by unfold st3; rw [e2,tak_long (by rw [List.length_drop]; omega)]; simp
 have e4 : st4 (l,u) = (l.drop 46,u):=by unfold st4; rw [e3,tak_long (by rw [List.length_drop]; omega)]; simp
 have e5 : st5 (l,u) = (l.drop 54,u):=by unfold st5; rw [e4,tak_long (by rw [List.length_drop]; omega)]; simp
 have e6 : st6 (l,u) = (l.drop 55,u):=by unfold st6; rw [e5,tak_long (by rw [List.length_drop]; omega)]; simp
 refine ⟨?_,e6⟩
 have a : cutL l 0 8 = l.take 8:=cut_eq l 0 8
 have b : cutL l 8 12 = (l.drop 8).take 4:=cut_eq l 8 12
 have c : cutL l 12 14 = (l.drop 12).take 2:=cut_eq l 12 14
 have d : cutL l 14 46 = (l.drop 14).take 32:=cut_eq l 14 46
 have e : cutL l 46 54 = (l.drop 46).take 8:=cut_eq l 46 54
 have f : cutL l 55 (l.length : Int) = l.drop 55:=by
  have:=cut_eq l 55 l.length
  rw [show ((55 : Nat) : Int) = 55 from rfl] at this
  rw [this,List.take_of_length_le (by simp)]
 unfold bodyV
 rw [e1,e2,e3,e4,e5,e6,tak_long (by omega),tak_long (by rw [List.length_drop]; omega),tak_long (by rw [List.length_drop]; omega),tak_long (by rw [List.length_drop]; omega),tak_long (by rw [List.length_drop]; omega),tak_long (by rw [List.length_drop]; omega)]
 rw [a,b,c,d,e,f,one_at (n:=54) (l:=l) (by omega) hb]
theorem drop_byts {l : List Int} (h : Byts l) (n : Nat) : Byts (l.drop n):=fun b hb=>h b (List.mem_of_mem_drop hb)
theorem take_byts {l : List Int} (h : Byts l) (n : Nat) : Byts (l.take n):=fun b hb=>h b (List.mem_of_mem_take hb)
theorem of_loop {α : Type} (Xt : List Int->Int->Int->Int->Int->List Int->Int->Int->Int->Int->Int->Int->List Int->Int->Int->List SignD->Option α) (K : Nat)
  (a1 a2 a3 a4 : Int) (a5 : List Int) (a6 a7 a8 a9 a10 a11 : Int) (a12 : List Int) (a13 a14 : Int) (N : Nat) (hN : N <= 255) : ∀ (m i n : Nat) (l : List Int) (c : List SignD),m < n->i + m = N->c.length = i->Byts l->66 * m <= l.length ->
  basculeref_PaperOf.l0 K Xt n l (N : Int) (i : Int) a1 a2 a3 a4 a5 a6 a7 a8 a9 a10 a11 a12 a13 a14 c = Xt (l.drop (66 * m)) a1 a2 a3 a4 a5 a6 a7 a8 a9 a10 a11 a12 a13 a14 (c ++ (signsOf m (l,true,())).1)
 | m,i,0,l,c,h,_,_,_,_=>by omega
 | 0,i,n + 1,l,c,h,hi,hc,hb,hl=>by
  simp only [basculeref_PaperOf.l0,basculeref_PaperOf.l0s]
  rw [if_neg (by rw [decide_eq_true_eq]; omega)]
  simp [signsOf]
 | m + 1,i,n + 1,l,c,h,hi,hc,hb,hl=>by
  simp only [basculeref_PaperOf.l0,basculeref_PaperOf.l0s]
  obtain ⟨v1,v2⟩:=signV_long (u:=(true,())) (show 66 <= l.length by omega) hb
  have a : cutL l 1 33 = (l.drop 1).take 32:=cut_eq l 1 33
  have b : cutL l 33 65 = (l.drop 33).take 32:=cut_eq l 33 65
  have d : cutL l 66 (l.length : Int) = l.drop 66:=by
   have:=cut_eq l 66 l.length
   rw [show ((66 : Nat) : Int) = 66 from rfl] at this
   rw [this,List.take_of_length_le (by simp)]
  have w1:=wideOf_wid (cutL l 1 33) (by rw [a]; simp; omega) (by rw [a]; exact take_byts (drop_byts hb 1) 32)
  have w2:=wideOf_wid (cutL l 33 65) (by rw [b]; simp; omega) (by rw [b]; exact take_byts (drop_byts hb 33) 32)
  rw [if_pos (by rw [decide_eq_true_eq]; omega),if_pos (by omega),if_pos (by omega),w1,Option.bind_some,if_pos (by omega),w2,Option.bind_some,if_pos (by omega),if_pos (fitB_small (by omega) (by omega)),if_pos (by omega),i64_succ (by omega),<- v1,d]
  refine (of_loop Xt K a1 a2 a3 a4 a5 a6 a7 a8 a9 a10 a11 a12 a13 a14 N hN m (i + 1) n (l.drop 66) (c ++ [signV (l,true,())]) (by omega) (by omega) (by simp; omega) (drop_byts hb 66) (by simp; omega)).trans ?_
  simp only [signsOf,v2,List.append_assoc,List.singleton_append,List.drop_drop]
  rw [show 66 + 66 * m = 66 * (m + 1) by omega]
theorem of_run (b : List Int) (hb : Byts b) (hl : b.length <= 140737488351232) : basculeref_PaperOf.run b = some (decP b):=by
 have dead : ∀ N : Nat,b.length < N->∀ s,Adv N (b,true,()) s->s = ([],false,()):=fun N h s g=>g.1 h
 have hN0 : ∃ N : Nat,nV b = N:=by
  obtain ⟨n1,n2,_⟩:=numW1 _ (tak_len 1 (eD2 b)) (tak_byts 1 ((eD2_adv b).byts hb)).1
  exact Int.eq_ofNat_of_zero_le n1
 obtain ⟨N,hN⟩:=hN0
 have hN' : (nV b).toNat = N:=by rw [hN]; rfl
 have a4 : Adv (6 + 66 * N) (b,true,()) (eD4 b):=by
  have:=(eD3_adv b).trans (signsOf_adv N (eD3 b))
  unfold eD4; rw [hN']; exact this
 have a5 : Adv (6 + 66 * N + 55) (b,true,()) (st6 (eD4 b)):=a4.trans (st6_adv _)
 unfold basculeref_PaperOf.run basculeref_PaperOf.top decP
 by_cases h0 : b.length = 0
 ·have hbe : b = []:=List.eq_nil_of_length_eq_zero h0
  rw [if_pos (by rw [hbe]; rfl)]
  have d1:=dead 1 (by omega) _ (eD1_adv b)
  have d3:=dead 6 (by omega) _ (eD3_adv b)
  have d6:=dead _ (by omega) _ a5
  rw [d1,d3,d6,if_neg (by simp),if_neg (by simp),if_neg (by simp)]
 ·rw [if_neg (by rw [beqD_iff .str _ _ rfl]; intro hh; exact h0 (by rw [hh]; rfl)),if_pos (by omega)]
  have hv : vV b = b.getD 0 0 /\ (eD1 b).2.1 = true:=by
   unfold vV eD1
   rw [tak_long (by omega)]
   refine ⟨?_,rfl⟩
   have:=one_at (n:=0) (l:=b) (by omega) hb
   rw [List.drop_zero] at this
   refine this.trans ?_
   have hx:=hb (b.getD 0 0) (by rw [getD_eq (by omega)]; exact List.getElem_mem _)
   exact wrap_i64 (by omega) (by omega)
  rw [hv.2,hv.1]
  by_cases h1 : b.getD 0 0 = 1
  ·rw [if_neg (by rw [h1]; decide),if_neg (show ¬(true = true /\ b.getD 0 0 ≠ 1) from fun hh=>hh.2 h1)]
   by_cases h6 : b.length < 6
   ·have d3:=dead 6 (by omega) _ (eD3_adv b)
    have d6:=dead _ (by omega) _ a5
    rw [if_pos (by rw [decide_eq_true_eq]; omega),d3,d6,if_neg (by simp),if_neg (by simp)]
   ·have e3 : eD3 b = (b.drop 6,true,()):=(eD3_adv b).2 (by show 6 <= b.length; omega)
    have e2 : eD2 b = (b.drop 5,true,()):=(eD2_adv b).2 (by show 5 <= b.length; omega)
    have e1 : eD1 b = (b.drop 1,true,()):=(eD1_adv b).2 (by show 1 <= b.length; omega)
    have hn : nV b = IntKind.i64.wrap (b.getD 5 0):=by
     unfold nV
     rw [e2,tak_long (by rw [List.length_drop]; omega)]
     exact one_at (n:=5) (l:=b) (by omega) hb
    rw [if_neg (by rw [decide_eq_true_eq]; omega),if_pos (by omega),<- hn,e3]
    by_cases h19 : nV b > 19
    ·rw [if_pos (by simpa using h19),if_pos ⟨rfl,h19⟩]
    ·rw [if_neg (show ¬(decide (nV b > 19) = true) by simpa using h19),if_neg (show ¬((((b.drop 6),true,()) : EyeD).2.1 = true /\ nV b > 19) from fun hh=>h19 hh.2),hN]
     have hN19 : N <= 19:=by omega
     rw [wrap_i64 (x:=66 * (N : Int)) (by omega) (by omega),wrap_i64 (x:=6 + 66 * (N : Int)) (by omega) (by omega),wrap_i64 (x:=6 + 66 * (N : Int) + 55) (by omega) (by omega)]
     by_cases hs : b.length < 6 + 66 * N + 55
     ·have d6:=dead _ hs _ a5
      rw [if_pos (by rw [decide_eq_true_eq]; omega),d6,if_neg (by simp)]
     ·have e4 : eD4 b = (b.drop (6 + 66 * N),true,()):=a4.2 (by show _ <= b.length; omega)
      have e6 : st6 (eD4 b) = (b.drop (6 + 66 * N + 55),true,()):=a5.2 (by show _ <= b.length; omega)
      have c : cutL b 1 5 = (b.drop 1).take 4:=cut_eq b 1 5
      have d : cutL b 6 (b.length : Int) = b.drop 6:=by
       have:=cut_eq b 6 b.length
       rw [show ((6 : Nat) : Int) = 6 from rfl] at this
       rw [this,List.take_of_length_le (by simp)]
      have hsV : numW (cutL b 1 5) = sV b:=by
       unfold sV
       rw [e1,tak_long (by rw [List.length_drop]; omega),c]
      have hG : (signsOf N (b.drop 6,true,())).1 = G1 b:=by unfold G1; rw [hN',e3]
      have hlen : (b.drop (6 + 66 * N)).length = b.length - (6 + 66 * N):=List.length_drop
      obtain ⟨e,_⟩:=bodyV_long (l:=b.drop (6 + 66 * N)) (u:=(true,())) (by omega) (drop_byts hb _)
      rw [if_neg (by rw [decide_eq_true_eq]; omega),if_pos (by omega),refnum_run _ (by rw [c]; simp; omega) (by rw [c]; exact take_byts (drop_byts hb 1) 4),Option.bind_some,if_pos (by omega),d,hsV]
      refine (of_loop _ fuel 0 0 0 0 (List.replicate 32 0) 0 0 _ 0 0 0 (List.replicate 32 0) 0 0 N (by omega) N 0 fuel (b.drop 6) [] (by rw [fuel_big]; omega) (by omega) rfl (drop_byts hb 6) (by simp; omega)).trans ?_
      rw [List.drop_drop,List.nil_append,hG]
      unfold basculeref_PaperOf.j0
      have hby:=drop_byts hb (6 + 66 * N)
      generalize hq : b.drop (6 + 66 * N) = q at *
      have k1 : cutL q 0 8 = q.take 8:=cut_eq q 0 8
      have k2 : cutL q 8 12 = (q.drop 8).take 4:=cut_eq q 8 12
      have k3 : cutL q 12 14 = (q.drop 12).take 2:=cut_eq q 12 14
      have k4 : cutL q 14 46 = (q.drop 14).take 32:=cut_eq q 14 46
      have k5 : cutL q 46 54 = (q.drop 46).take 8:=cut_eq q 46 54
      have kw : (cutL q 14 46).length = 32:=by rw [k4]; simp; omega
      rw [if_pos (by omega),refnum_run _ (by rw [k1]; simp; omega) (by rw [k1]; exact take_byts hby 8),Option.bind_some,
       if_pos (by omega),refnum_run _ (by rw [k2]; simp; omega) (by rw [k2]; exact take_byts (drop_byts hby 8) 4),Option.bind_some,
       if_pos (by omega),refnum_run _ (by rw [k3]; simp; omega) (by rw [k3]; exact take_byts (drop_byts hby 12) 2),Option.bind_some,
       if_pos (by omega),word_run _ (by omega),pad_full _ kw,Option.bind_some,
       if_pos (by omega),refnum_run _ (by rw [k5]; simp; omega) (by rw [k5]; exact take_byts (drop_byts hby 46) 8),Option.bind_some,
       if_pos (by omega),if_pos (by omega),<- e,<- e4]
      rw [show (sV b,G1 b,bodyV (eD4 b),()) = pV b from rfl,paper_faultR_run,Option.bind_some,e6]
      rw [if_pos rfl]
      by_cases a : paperE (pV b) = 0
      ·rw [if_neg (by simpa using a),if_pos a]
      ·rw [if_pos (by simpa using a),if_neg a]
  ·rw [if_pos (by simpa using h1),if_pos (show (true = true /\ b.getD 0 0 ≠ 1) from ⟨rfl,h1⟩)]
end Go.Bx
namespace Go.Bx
open Go
set_option linter.unusedSimpArgs false
set_option linter.unusedVariables false
theorem getD_nat {l : List Int} {i : Nat} (h : i < l.length) : l.getD i 0 = l[i]:=getD_eq h
def sumI : List Int->Int
 | []=>0
 | a :: l=>a + sumI l
theorem sumI_bound : ∀ {l : List Int},(∀ b ∈ l,0 <= b /\ b <= 255)->0 <= sumI l /\ sumI l <= 255 * (l.length : Int)
 | [],_=>by simp [sumI]
 | a :: l,h=>by
  have h1:=h a (by simp)
  have h2:=sumI_bound (l:=l) fun b hb=>h b (List.mem_cons_of_mem _ hb)
  simp only [sumI,List.length_cons]
  omega
theorem tail_loop {α : Type} (k : Nat) (Xt : Int->Option α) (l : List Int) (hl : l.length < 9223372036854775807) : ∀ (n i : Nat) (s : Int),i <= l.length->l.length - i < n->0 <= s /\ s <= 255 ->
  log_tail.l0 k Xt n s l (l.length : Int) (i : Int) = Xt ((s + sumI (l.drop i)) % 256)
 | 0,i,s,_,h,_=>by omega
 | n + 1,i,s,hi,h,hs=>by
  simp only [log_tail.l0,log_tail.l0s]
  by_cases hlt : i < l.length
  ·rw [if_pos (by simp; omega),if_pos (by omega),toNat_nat,i64_succ (by omega),getD_nat hlt,wrap_u8_mod]
   rw [tail_loop k Xt l hl n (i + 1) _ (by omega) (by omega) (by omega)]
   rw [List.drop_eq_getElem_cons hlt]
   simp only [sumI]
   congr 1
   omega
  ·have : i = l.length:=by omega
   subst this
   rw [if_neg (by simp)]
   simp only [List.drop_length,sumI]
   congr 1
   omega
theorem tail_run (l : List Int) (hl : l.length < 9223372036854775807) : log_tail.run l = some (sumI l % 256):=by
 unfold log_tail.run log_tail.top log_tail.j0
 have:=fun N (hN : l.length < N)=>tail_loop N (fun (a : Int)=>some a) l hl N 0 0 (by omega) (by omega) (by omega)
 have h2:=this fuel (by rw [fuel_big]; omega)
 rw [List.drop_zero,Int.zero_add] at h2
 exact h2
theorem text_loop {α : Type} (k : Nat) (Xt : List Int->Int->Option α) (a : List Int) (l : List Int) (hl : l.length < 1000000) (hb : ∀ b ∈ l,0 <= b /\ b <= 255) : ∀ (n i : Nat) (s : Int),i <= l.length->l.length - i < n->0 <= s /\ s <= 255 * (i : Int) ->
  basculeref_logText.l0 k Xt n a s l (l.length : Int) (i : Int) = Xt a (s + sumI (l.drop i))
 | 0,i,s,_,h,_=>by omega
 | n + 1,i,s,hi,h,hs=>by
  simp only [basculeref_logText.l0,basculeref_logText.l0s]
  by_cases hlt : i < l.length
  ·have h1:=hb l[i] (List.getElem_mem hlt)
   rw [if_pos (by simp; omega),if_pos (by omega),toNat_nat,i64_succ (by omega),getD_nat hlt,wrap_i64 (x:=l[i]) (by omega) (by omega),wrap_i64 (by omega) (by omega)]
   rw [text_loop k Xt a l hl hb n (i + 1) _ (by omega) (by omega) (by simp; omega)]
   rw [List.drop_eq_getElem_cons hlt]
   simp only [sumI]
   congr 1
   omega
  ·have : i = l.length:=by omega
   subst this
   rw [if_neg (by simp)]
   simp [sumI]
end Go.Bx
namespace Go.Bx
open Go
set_option linter.unusedSimpArgs false
set_option linter.unusedVariables false
theorem ble_of {a b : Nat} (h : a <= b) : Nat.ble a b = true:=Nat.ble_eq_true_of_le h
end Go.Bx
namespace Go.Bx
open Go
set_option linter.unusedSimpArgs false
set_option linter.unusedVariables false
theorem big2 (x : Int) : basculeref_big.run x 2 = some [IntKind.u8.wrap (shrI .u64 x 8),IntKind.u8.wrap x]:=by kernel_rfl
theorem big1 (x : Int) : basculeref_big.run x 1 = some [IntKind.u8.wrap x]:=by kernel_rfl
theorem shr8_u64 {n : Nat} (h : n < 65536) : shrI .u64 (n : Int) 8 = ((n / 256 : Nat) : Int):=by
 have:=shr_nat (X:=n) (k:=8) (by decide)
 rw [show ((8 : Nat) : Int) = 8 from rfl] at this
 rw [this,Nat.shiftRight_eq_div_pow]
theorem shr8_i64 {n : Nat} (h : n < 65536) : shrI .i64 (n : Int) 8 = ((n / 256 : Nat) : Int):=by
 unfold shrI
 have h1 : min (8 : Int).toNat IntKind.i64.bits = 8:=rfl
 rw [h1,Int.fdiv_eq_ediv_of_nonneg _ (by decide)]
 norm_cast
def recText (l : List Int) : List Int:=[IntKind.u8.wrap (shrI .i64 (l.length : Int) 8),IntKind.u8.wrap (l.length : Int)] ++ l ++ [sumI l % 256]
theorem text_run (l : List Int) (hl : l.length <= 60000) (hb : ∀ b ∈ l,0 <= b /\ b <= 255) : basculeref_logText.run l = some (recText l):=by
 unfold basculeref_logText.run basculeref_logText.top
 have hs:=sumI_bound hb
 have h1:=fun {α : Type} (Xt : List Int->Int->Option α) N (hN : l.length < N)=>text_loop N Xt l l (by omega) hb N 0 0 (by omega) (by omega) (by omega)
 have h2:=h1 (fun (a : List Int) (c : Int)=>basculeref_logText.j0 (fun (d : List Int)=>some d) a c) fuel (by rw [fuel_big]; omega)
 rw [List.drop_zero,Int.zero_add] at h2
 refine Eq.trans h2 ?_
 unfold basculeref_logText.j0
 rw [big2,big1]
 simp only [Option.bind_some]
 rw [if_pos (ble_of (by simp; omega)),if_pos (ble_of (by simp; omega))]
 unfold recText
 have e1 : IntKind.u64.wrap (l.length : Int) = (l.length : Int):=wrap_u64 (by omega) (by omega)
 have e2 : IntKind.u8.wrap (IntKind.u64.wrap (sumI l)) = sumI l % 256:=by
  rw [wrap_u64 (by omega) (by omega),wrap_u8_mod]
 rw [e1,e2,shr8_u64 (by omega),shr8_i64 (by omega)]
end Go.Bx
