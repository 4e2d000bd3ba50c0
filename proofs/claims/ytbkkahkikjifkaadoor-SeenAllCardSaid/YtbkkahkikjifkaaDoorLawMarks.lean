/- A part of a framework that reads Go code as functions of plain data; or a law about such functions. -/
import Derived.Test.YtbkkahkikjifkaaDoorLawBase
import Derived.Test.YtbkkahkikjifkaaDoorFnSeenAll0
namespace Go.Bx
open Go
set_option linter.unusedSimpArgs false
set_option linter.unusedVariables false
def pageBit (c : List Int) (n : Nat) : Bool:=(band .u64 (c.getD (n / 64) 0) (shlI .u64 1 ((n % 64 : Nat) : Int))) != 0
def marksL (c : List Int) (i n : Nat) : List Int:=((List.range' i n).filter (pageBit c)).map fun (j : Nat)=>(j : Int)
theorem marks_loop {α : Type} (k : Nat) (Xt : List Int->Option α) (c : List Int) : ∀ (n i : Nat) (acc : List Int),i <= 256->256 - i < n->acc.length <= i ->
  basculeref_Marks.l0 k Xt n (i : Int) c acc = Xt (acc ++ marksL c i (256 - i))
 | 0,i,acc,_,h,_=>by omega
 | n + 1,i,acc,hi,h,ha=>by
  simp only [basculeref_Marks.l0,basculeref_Marks.l0s,basculeref_Marks.j0]
  by_cases h256 : i < 256
  ·have h1 : IntKind.i64.wrap (Int.tdiv (i : Int) 64) = ((i / 64 : Nat) : Int):=i64_tdiv (c:=64) (by omega)
   have h2 : Int.tmod (i : Int) 64 = ((i % 64 : Nat) : Int):=tmod_nat i 64
   rw [if_pos (by simp; omega),h1,h2,if_pos (by omega),if_pos (by omega),toNat_nat,i64_succ (by omega)]
   have hr : List.range' i (256 - i) = i :: List.range' (i + 1) (256 - (i + 1)):=by
    rw [show 256 - i = (256 - (i + 1)) + 1 by omega,List.range'_succ]
   unfold marksL
   rw [hr]
   have hb : ((band .u64 (c.getD (i / 64) 0) (shlI .u64 1 ((i % 64 : Nat) : Int))) != 0) = pageBit c i:=rfl
   rw [hb]
   cases hp : pageBit c i with
   | true =>
    rw [if_pos rfl,if_pos (fitB_small (by omega) (by decide)),marks_loop k Xt c n (i + 1) _ (by omega) (by omega) (by simp; omega)]
    rw [List.filter_cons_of_pos hp]; simp [marksL]
   | false =>
    rw [if_neg (by simp),marks_loop k Xt c n (i + 1) _ (by omega) (by omega) (by omega)]
    rw [List.filter_cons_of_neg (by simp [hp])]; rfl
  ·have : i = 256:=by omega
   subst this
   rw [if_neg (by simp)]
   simp [marksL]
theorem marks_run (c : List Int) : basculeref_Marks.run c = some (marksL c 0 256):=by
 unfold basculeref_Marks.run basculeref_Marks.top basculeref_Marks.j1
 have:=marks_loop fuel (fun (c20 : List Int)=>some c20) c fuel 0 [] (by omega) (by rw [fuel_big]; omega) (by simp)
 rw [List.nil_append] at this
 exact this
theorem marked_loop {α : Type} (k : Nat) (Rt : Bool->Int->Option α) (Xt : Option α) (x : Int) (l : List Int) (hl : l.length < 9223372036854775807) : ∀ (n i : Nat),i <= l.length->l.length - i < n ->
  basculeref_Marked.l0 k Rt Xt n x l (l.length : Int) (i : Int) = if (l.drop i).contains x = true then Rt true 0 else Xt
 | 0,i,_,h=>by omega
 | n + 1,i,hi,h=>by
  simp only [basculeref_Marked.l0,basculeref_Marked.l0s]
  by_cases hlt : i < l.length
  ·rw [if_pos (by simp; omega),if_pos (by omega),toNat_nat,i64_succ (by omega),getD_eq hlt]
   have hd : l.drop i = l[i] :: l.drop (i + 1):=List.drop_eq_getElem_cons hlt
   rw [hd,marked_loop k Rt Xt x l hl n (i + 1) (by omega) (by omega)]
   rw [List.contains_cons]
   by_cases he : l[i] = x
   ·simp [he]
   ·have : ¬ x = l[i]:=fun e=>he e.symm
    simp [he,this]
  ·have : i = l.length:=by omega
   subst this
   rw [if_neg (by simp)]
   simp
theorem marksL_len (c : List Int) (i n : Nat) : (marksL c i n).length <= n:=by
 rw [marksL,List.length_map]
 exact Nat.le_trans (List.length_filter_le _ _) (by simp)
theorem marksL_mem (c : List Int) (n : Nat) (x : Int) (h : 0 <= x /\ x < (n : Int)) : (marksL c 0 n).contains x = pageBit c x.toNat:=by
 rw [Bool.eq_iff_iff]
 simp only [marksL,List.contains_iff_mem,List.mem_map,List.mem_filter,List.mem_range'_1]
 constructor
 ·rintro ⟨j,⟨h1,h2⟩,rfl⟩; exact h2
 ·intro hp
  exact ⟨x.toNat,⟨⟨by omega,by omega⟩,hp⟩,by omega⟩
theorem marked_find (N : Nat) (c : List Int) (x : Int) (h : 0 <= x /\ x <= 255) (hN : 300 < N) (l : List Int) (hl : l = marksL c 0 256) :
  basculeref_Marked.l0 N (fun (x4 : Bool) (x5 : Int)=>some (x4,x5,())) (some (false,(0 : Int),())) N x l (l.length : Int) 0 = some (pageBit c x.toNat,0,()):=by
 have hlen : l.length <= 256:=by rw [hl]; exact marksL_len c 0 256
 have:=marked_loop N (fun (x4 : Bool) (x5 : Int)=>some (x4,x5,())) (some (false,(0 : Int),())) x l (by omega) N 0 (by omega) (by omega)
 rw [List.drop_zero] at this
 have hc : l.contains x = pageBit c x.toNat:=by rw [hl]; exact marksL_mem c 256 x (by omega)
 rw [hc] at this
 refine Eq.trans this ?_
 cases pageBit c x.toNat <;> rfl
theorem ref_marked (c : List Int) (x : Int) : basculeref_Marked.run c x = some (if 0 <= x /\ x <= 255 then (pageBit c x.toNat,0,()) else (false,6,())):=by
 unfold basculeref_Marked.run basculeref_Marked.top basculeref_Marked.j0
 by_cases h : 0 <= x /\ x <= 255
 ·rw [if_pos h,if_neg (by simp; omega),marks_run,Option.bind_some]
  exact marked_find fuel c x h (by rw [fuel_big]; decide) _ rfl
 ·rw [if_neg h,if_pos (by simp; omega)]
theorem or_add {X k : Nat} (hX : X < 18446744073709551616) (hk : k < 64) (h : X.testBit k = false) : X ||| 2 ^ k = X + 2 ^ k:=by
 have h0 : X &&& 2 ^ k = 0:=by
  have:=and_pow_ne (X:=X) (k:=k)
  rw [h] at this
  simpa using this
 have hp:=two_pow_lt hk
 have h1 : BitVec.ofNat 65 X &&& BitVec.ofNat 65 (2 ^ k) = 0#65:=by
  apply BitVec.eq_of_toNat_eq
  rw [BitVec.toNat_and,BitVec.toNat_ofNat,BitVec.toNat_ofNat,Nat.mod_eq_of_lt (by omega),Nat.mod_eq_of_lt (by omega),h0]
  rfl
 have h2:=congrArg BitVec.toNat (BitVec.add_eq_or_of_and_eq_zero _ _ h1)
 have e1 : (BitVec.ofNat 65 X).toNat = X:=by rw [BitVec.toNat_ofNat]; exact Nat.mod_eq_of_lt (by omega)
 have e2 : (BitVec.ofNat 65 (2 ^ k)).toNat = 2 ^ k:=by rw [BitVec.toNat_ofNat]; exact Nat.mod_eq_of_lt (by omega)
 rw [BitVec.toNat_add,BitVec.toNat_or,e1,e2,Nat.mod_eq_of_lt (by omega)] at h2
 exact h2.symm
theorem or_add64 {x : Int} {k : Nat} (hx : inR .u64 x = true) (hk : k < 64) (h : (band .u64 x (shlI .u64 1 (k : Int)) != 0) = false) : IntKind.u64.wrap (x + shlI .u64 1 (k : Int)) = bor .u64 x (shlI .u64 1 (k : Int)):=by
 obtain ⟨X,rfl,hX⟩:=nat_of_u64 hx
 rw [shl1_nat hk,band_nat hX (two_pow_lt hk)] at h
 have h1 : X.testBit k = false:=by
  rw [<- and_pow_ne]
  cases hh : ((X &&& 2 ^ k) != 0) with
  | false=>rfl
  | true =>
   simp at h hh
   omega
 rw [shl1_nat hk,bor_nat hX (two_pow_lt hk),or_add hX hk h1]
 have : X + 2 ^ k < 18446744073709551616:=by
  rw [<- or_add hX hk h1]
  have:=Nat.or_lt_two_pow (n:=64) hX (two_pow_lt hk)
  simpa using this
 have e : ((X : Int) + ((2 ^ k : Nat) : Int)) = ((X + 2 ^ k : Nat) : Int):=by simp
 rw [e]
 exact u64_wrap_nat this
end Go.Bx
