/- Laws about functions of plain data, in plain Lean. -/
import Derived.Test.YtbkkahkikjifkaaGreatLawsGuardFalls0
import Derived.Test.YtbkkahkikjifkaaGreatFnGuardFalls0
import Derived.Test.YtbkkahkikjifkaaGreatFnGuardFalls1
namespace Go.Bx
open Go
set_option linter.unusedSimpArgs false
set_option linter.unusedVariables false
theorem bor_i64 {X Y : Nat} (hX : X < 4294967296) (hY : Y < 4294967296) : bor .i64 (X : Int) (Y : Int) = ((X ||| Y : Nat) : Int):=by
 unfold bor
 have e : ((BitVec.ofInt IntKind.i64.bits (X : Int) ||| BitVec.ofInt IntKind.i64.bits (Y : Int)).toNat) = X ||| Y:=by
  rw [ofInt_nat,ofInt_nat,BitVec.toNat_or,BitVec.toNat_ofNat,BitVec.toNat_ofNat]
  show (X % 2 ^ 64) ||| (Y % 2 ^ 64) = _
  rw [Nat.mod_eq_of_lt (by omega),Nat.mod_eq_of_lt (by omega)]
 rw [e]
 have:=Nat.or_lt_two_pow (n:=32) (by simpa using hX) (by simpa using hY)
 have h2 : X ||| Y < 4294967296:=by simpa using this
 exact wrap_i64 (by omega) (by omega)
theorem len2 {x y : Int} (hx : 0 <= x /\ x <= 255) (hy : 0 <= y /\ y <= 255) : bor .i64 (shlI .i64 (IntKind.i64.wrap x) 8) (IntKind.i64.wrap y) = x * 256 + y:=by
 rw [wrap_i64 (x:=x) (by omega) (by omega),wrap_i64 (x:=y) (by omega) (by omega)]
 have e1 : shlI .i64 x 8 = x * 256:=by
  unfold shlI
  have h1 : min (8 : Int).toNat IntKind.i64.bits = 8:=rfl
  rw [h1]
  exact wrap_i64 (by omega) (by omega)
 rw [e1]
 obtain ⟨X,rfl⟩ : ∃ X : Nat,x = (X : Int):=⟨x.toNat,by omega⟩
 obtain ⟨Y,rfl⟩ : ∃ Y : Nat,y = (Y : Int):=⟨y.toNat,by omega⟩
 have e2 : ((X : Int) * 256) = ((X * 256 : Nat) : Int):=by simp
 rw [e2,bor_i64 (by omega) (by omega)]
 have h3:=Nat.two_pow_add_eq_or_of_lt (i:=8) (b:=Y) (by omega) X
 rw [show (2 : Nat) ^ 8 = 256 from rfl,Nat.mul_comm] at h3
 rw [<- h3]; simp
def recN (b : List Int) : Nat:=(b.getD 0 0 * 256 + b.getD 1 0).toNat
def recOk' (b : List Int) : Prop:=3 <= b.length /\ recN b <= 200 /\ recN b + 3 <= b.length /\ sumI ((b.drop 2).take (recN b)) % 256 = b.getD (recN b + 2) 0
instance (b : List Int) : Decidable (recOk' b):=by unfold recOk'; infer_instance
def recs : Nat->List Int->List (List Int) × Nat
 | 0,_=>([],0)
 | m + 1,b=>if recOk' b then ((b.drop 2).take (recN b) :: (recs m (b.drop (recN b + 3))).1,recN b + 3 + (recs m (b.drop (recN b + 3))).2) else ([],0)
theorem recs_le : ∀ (m : Nat) (b : List Int),(recs m b).2 <= b.length /\ 3 * (recs m b).1.length <= b.length
 | 0,b=>by simp [recs]
 | m + 1,b=>by
  unfold recs
  split
  ·rename_i h
   obtain ⟨h1,h2,h3,h4⟩:=h
   have:=recs_le m (b.drop (recN b + 3))
   simp only [List.length_drop,List.length_cons] at this ⊢
   omega
  ·simp
theorem getD_drop (b : List Int) (i j : Nat) : (b.drop i).getD j 0 = b.getD (i + j) 0:=by
 simp [List.getD]
theorem cutL_nat (b : List Int) (i n : Nat) : cutL b (i : Int) ((i + n : Nat) : Int) = (b.drop i).take n:=by
 unfold cutL
 rw [Int.toNat_natCast,Int.toNat_natCast,Nat.add_sub_cancel_left]
theorem open_loop {α : Type} (k : Nat) (Xt : Int->List (List Int)->Option α) (b : List Int) (hb : ∀ x ∈ b,0 <= x /\ x <= 255) (hl : b.length <= 4000000) : ∀ (m n i : Nat) (out : List (List Int)),i <= b.length->b.length - i <= m->b.length - i < n->out.length <= i ->
  log_Open.l0 k Xt n (i : Int) b out = Xt ((i + (recs m (b.drop i)).2 : Nat) : Int) (out ++ (recs m (b.drop i)).1)
 | _,0,i,out,_,_,h,_=>by omega
 | m,n + 1,i,out,hi,hm,hn,ho=>by
  have dB : ∀ j,0 <= b.getD j 0 /\ b.getD j 0 <= 255:=fun j=>by
   by_cases h : j < b.length
   ·rw [getD_nat h]; exact hb _ (List.getElem_mem h)
   ·simp [List.getD,List.getElem?_eq_none (show b.length <= j by omega)]
  have b0:=dB i
  have b1:=dB (i + 1)
  have hN : recN (b.drop i) = (b.getD i 0 * 256 + b.getD (i + 1) 0).toNat:=by unfold recN; rw [getD_drop,getD_drop]; simp
  simp only [log_Open.l0,log_Open.l0s]
  have e1 : IntKind.i64.wrap ((b.length : Int) - (i : Int)) = (b.length : Int) - (i : Int):=wrap_i64 (by omega) (by omega)
  have e2 : IntKind.i64.wrap ((i : Int) + 1) = ((i + 1 : Nat) : Int):=i64_succ (by omega)
  have e3 : IntKind.i64.wrap ((i : Int) + 2) = ((i + 2 : Nat) : Int):=by rw [wrap_i64 (by omega) (by omega)]; simp
  rw [e1]
  by_cases h3 : 3 <= b.length - i
  ·obtain ⟨m,rfl⟩ : ∃ m',m = m' + 1:=⟨m - 1,by omega⟩
   rw [if_pos (by simp; omega),if_pos (by omega),e2,if_pos (by omega),e3]
   simp only [toNat_nat]
   simp only [len2 b0 b1]
   obtain ⟨N,hNe⟩ : ∃ N : Nat,b.getD i 0 * 256 + b.getD (i + 1) 0 = (N : Int):=⟨(b.getD i 0 * 256 + b.getD (i + 1) 0).toNat,by omega⟩
   have hN2 : recN (b.drop i) = N:=by rw [hN,hNe]; rfl
   simp only [hNe]
   have e5 : IntKind.i64.wrap (((i + 2 : Nat) : Int) + (N : Int)) = ((i + 2 + N : Nat) : Int):=by rw [wrap_i64 (by omega) (by omega)]; simp
   have e6 : IntKind.i64.wrap ((N : Int) + 3) = ((N + 3 : Nat) : Int):=by rw [wrap_i64 (by omega) (by omega)]; simp
   have e7 : IntKind.i64.wrap ((i : Int) + ((N + 3 : Nat) : Int)) = ((i + (N + 3) : Nat) : Int):=by rw [wrap_i64 (by omega) (by omega)]; simp
   simp only [e5,e6,e7,cutL_nat]
   unfold recs
   by_cases c1 : N > 200
   ·rw [if_pos (by simp; omega),if_pos (by simp; omega),if_neg (by unfold recOk'; rw [hN2]; omega)]
    simp
   ·rw [if_neg (by simp; omega)]
    by_cases c2 : b.length - i < N + 3
    ·rw [if_pos (by simp; omega),if_pos (by simp; omega),if_neg (by unfold recOk'; rw [hN2]; simp; omega)]
     simp
    ·rw [if_neg (by simp; omega),if_pos (by omega),tail_run _ (by simp; omega)]
     simp only [Option.bind_some,toNat_nat]
     rw [if_pos (by omega)]
     by_cases c3 : sumI ((b.drop (i + 2)).take N) % 256 = b.getD (i + 2 + N) 0
     ·have hok : recOk' (b.drop i):=by
       unfold recOk'
       rw [hN2,getD_drop,List.drop_drop]
       refine ⟨by simp; omega,by omega,by simp; omega,?_⟩
       rw [c3]; congr 1; omega
      rw [if_neg (by simpa using c3),if_pos (by omega),if_pos (fitB_small (by simp; omega) (by decide)),if_pos (fitB_small (by omega) (by decide)),if_pos hok]
      rw [open_loop k Xt b hb hl m n (i + (N + 3)) _ (by omega) (by omega) (by omega) (by simp; omega)]
      rw [hN2,List.drop_drop,List.drop_drop]
      simp only [List.append_assoc,List.singleton_append]
      congr 2
      omega
     ·have hnok : ¬ recOk' (b.drop i):=by
       unfold recOk'
       rw [hN2,getD_drop,List.drop_drop]
       intro h
       apply c3
       rw [h.2.2.2]; congr 1; omega
      rw [if_pos (by simpa using c3),if_neg hnok]
      simp
  ·rw [if_neg (by simp; omega)]
   have : recs m (b.drop i) = ([],0):=by
    cases m with
    | zero=>rfl
    | succ m=>unfold recs; rw [if_neg (by unfold recOk'; simp; omega)]
   rw [this]; simp
theorem number2 (x y : Int) (hx : 0 <= x /\ x <= 255) (hy : 0 <= y /\ y <= 255) : basculeref_number.run [x,y] = some (x * 256 + y):=by
 have h : basculeref_number.run [x,y] = some (IntKind.i64.wrap (IntKind.u64.wrap (IntKind.u64.wrap (IntKind.u64.wrap (IntKind.u64.wrap (0 * 256) + IntKind.u64.wrap x) * 256) + IntKind.u64.wrap y))):=by kernel_rfl
 rw [h]
 have e0 : IntKind.u64.wrap (0 * 256) = 0:=rfl
 rw [e0,wrap_u64 (x:=x) (by omega) (by omega),wrap_u64 (x:=y) (by omega) (by omega),wrap_u64 (x:=0 + x) (by omega) (by omega),wrap_u64 (x:=(0 + x) * 256) (by omega) (by omega),wrap_u64 (by omega) (by omega),wrap_i64 (by omega) (by omega)]
 congr 1
 omega
theorem records_loop {α : Type} (k : Nat) (Xt : List Int->Int->List (List Int)->Option α) (t : Int) : ∀ (m n : Nat) (b : List Int) (out : List (List Int)),(∀ x ∈ b,0 <= x /\ x <= 255)->b.length + 3 * out.length <= 4000000->b.length <= m->b.length < n ->
  basculeref_LogRecords.l0 k Xt n b t out = Xt (b.drop (recs m b).2) t (out ++ (recs m b).1)
 | _,0,b,out,_,_,_,h=>by omega
 | m,n + 1,b,out,hb,hl,hm,hn=>by
  have dB : ∀ j,0 <= b.getD j 0 /\ b.getD j 0 <= 255:=fun j=>by
   by_cases h : j < b.length
   ·rw [getD_nat h]; exact hb _ (List.getElem_mem h)
   ·simp [List.getD,List.getElem?_eq_none (show b.length <= j by omega)]
  have b0:=dB 0
  have b1:=dB 1
  simp only [basculeref_LogRecords.l0,basculeref_LogRecords.l0s]
  by_cases h3 : 3 <= b.length
  ·obtain ⟨m,rfl⟩ : ∃ m',m = m' + 1:=⟨m - 1,by omega⟩
   have hc2 : cutL b 0 2 = [b.getD 0 0,b.getD 1 0]:=by
    match b,h3 with
    | x :: y :: l,_=>rfl
   rw [if_pos (by simp; omega),if_pos (by omega),hc2,number2 _ _ b0 b1]
   simp only [Option.bind_some]
   obtain ⟨N,hNe⟩ : ∃ N : Nat,b.getD 0 0 * 256 + b.getD 1 0 = (N : Int):=⟨(b.getD 0 0 * 256 + b.getD 1 0).toNat,by omega⟩
   have hN2 : recN b = N:=by unfold recN; rw [hNe]; rfl
   rw [hNe]
   have e6 : IntKind.i64.wrap ((N : Int) + 3) = ((N + 3 : Nat) : Int):=by rw [wrap_i64 (by omega) (by omega)]; simp
   have e5 : IntKind.i64.wrap (2 + (N : Int)) = ((2 + N : Nat) : Int):=by rw [wrap_i64 (by omega) (by omega)]; simp
   rw [e6,e5]
   unfold recs
   by_cases c1 : N > 200 \/ N + 3 > b.length
   ·rw [if_pos (by rw [cond_or]; simp; omega),if_neg (by unfold recOk'; rw [hN2]; omega)]
    simp
   ·have e8 : cutL b 2 ((2 + N : Nat) : Int) = (b.drop 2).take N:=cutL_nat b 2 N
    have e9 : cutL b 0 ((N + 3 : Nat) : Int) = b.take (N + 3):=by
     unfold cutL; rw [Int.toNat_natCast]; simp
    have e10 : cutL b ((N + 3 : Nat) : Int) (b.length : Int) = b.drop (N + 3):=by
     unfold cutL; rw [Int.toNat_natCast,Int.toNat_natCast]; exact List.take_of_length_le (by simp)
    have hrl : ((b.drop 2).take N).length = N:=by simp; omega
    rw [if_neg (by rw [cond_or]; simp; omega),if_pos (by omega),e8,text_run _ (by omega) (fun x hx=>hb x (List.mem_of_mem_drop (List.mem_of_mem_take hx)))]
    simp only [Option.bind_some]
    rw [if_pos (by omega),e9]
    have key : beqD .str (recText ((b.drop 2).take N)) (b.take (N + 3)) = decide (sumI ((b.drop 2).take N) % 256 = b.getD (N + 2) 0):=by
     simp only [beqD]
     rw [Bool.eq_iff_iff]
     simp only [beq_iff_eq,decide_eq_true_eq]
     have hsplit : b.take (N + 3) = [b.getD 0 0,b.getD 1 0] ++ (b.drop 2).take N ++ [b.getD (N + 2) 0]:=by
      have h2 : N + 2 < b.length:=by omega
      rw [show N + 3 = (N + 2) + 1 by omega,List.take_succ_eq_append_getElem h2,getD_nat h2]
      congr 1
      match b,h3 with
      | x :: y :: l,_=>simp [List.getD]
     rw [hsplit]
     unfold recText
     rw [hrl]
     have w1 : IntKind.u8.wrap (shrI .i64 (N : Int) 8) = b.getD 0 0:=by
      rw [shr8_i64 (by omega),wrap_u8 (by omega) (by omega)]; omega
     have w2 : IntKind.u8.wrap (N : Int) = b.getD 1 0:=by rw [wrap_u8_mod]; omega
     rw [w1,w2]
     constructor
     ·intro h
      have:=List.append_cancel_left h
      simpa using this
     ·intro h; rw [h]
    rw [key]
    by_cases c3 : sumI ((b.drop 2).take N) % 256 = b.getD (N + 2) 0
    ·have hok : recOk' b:=by unfold recOk'; rw [hN2]; exact ⟨by omega,by omega,by omega,c3⟩
     rw [if_neg (by simpa using c3),if_pos (fitB_small (by omega) (by decide)),if_pos (by omega),if_pos hok,e10]
     rw [records_loop k Xt t m n (b.drop (N + 3)) _ (fun x hx=>hb x (List.mem_of_mem_drop hx)) (by simp; omega) (by simp; omega) (by simp; omega)]
     rw [hN2,List.drop_drop]
     simp
    ·have hnok : ¬ recOk' b:=by unfold recOk'; rw [hN2]; exact fun h=>c3 h.2.2.2
     rw [if_pos (by simpa using c3),if_neg hnok]
     simp
  ·rw [if_neg (by simp; omega)]
   have : recs m b = ([],0):=by
    cases m with
    | zero=>rfl
    | succ m=>unfold recs; rw [if_neg (by unfold recOk'; omega)]
   rw [this]; simp
theorem open_run (x : List Int × List Int × Unit) (h1 : x.1.length + x.2.1.length <= 4000000) (b1 : ∀ b ∈ x.1,0 <= b /\ b <= 255) (b2 : ∀ b ∈ x.2.1,0 <= b /\ b <= 255) :
  log_Open.run x = some ((recs (x.1 ++ x.2.1).length (x.1 ++ x.2.1)).1,((recs (x.1 ++ x.2.1).length (x.1 ++ x.2.1)).2 : Int),()):=by
 unfold log_Open.run log_Open.top log_Open.j0
 rw [if_pos (fitB_small (by omega) (by decide)),if_pos (fitB_small (by omega) (by decide))]
 have hl : (x.1 ++ x.2.1).length <= 4000000:=by simp; omega
 have hb : ∀ b ∈ x.1 ++ x.2.1,0 <= b /\ b <= 255:=fun b hb=>by
  rcases List.mem_append.1 hb with h | h
  ·exact b1 b h
  ·exact b2 b h
 have:=fun N (hN : (x.1 ++ x.2.1).length < N)=>open_loop N (fun (a : Int) (c : List (List Int))=>some (c,a,())) (x.1 ++ x.2.1) hb hl (x.1 ++ x.2.1).length N 0 [] (by omega) (by omega) (by omega) (by simp)
 have h:=this fuel (by rw [fuel_big]; omega)
 rw [List.drop_zero,List.nil_append,Nat.zero_add] at h
 exact h
theorem records_run (x : List Int × List Int × Unit) (h1 : x.1.length + x.2.1.length <= 4000000) (b1 : ∀ b ∈ x.1,0 <= b /\ b <= 255) (b2 : ∀ b ∈ x.2.1,0 <= b /\ b <= 255) :
  basculeref_LogRecords.run x = log_Open.run x:=by
 rw [open_run x h1 b1 b2]
 unfold basculeref_LogRecords.run basculeref_LogRecords.top basculeref_LogRecords.j0
 rw [if_pos (ble_of (by omega))]
 have hl : (x.1 ++ x.2.1).length <= 4000000:=by simp; omega
 have hb : ∀ b ∈ x.1 ++ x.2.1,0 <= b /\ b <= 255:=fun b hb=>by
  rcases List.mem_append.1 hb with h | h
  ·exact b1 b h
  ·exact b2 b h
 have:=fun N (hN : (x.1 ++ x.2.1).length < N)=>records_loop N (fun (a : List Int) (c : Int) (d : List (List Int))=>some (d,IntKind.i64.wrap (c - (a.length : Int)),())) ((x.1 ++ x.2.1).length : Int) (x.1 ++ x.2.1).length N (x.1 ++ x.2.1) [] hb (by simp; simp at hl; omega) (by omega) (by omega)
 have h:=this fuel (by rw [fuel_big]; omega)
 refine Eq.trans h ?_
 have hle:=(recs_le (x.1 ++ x.2.1).length (x.1 ++ x.2.1)).1
 rw [List.length_drop,wrap_i64 (by omega) (by omega),List.nil_append]
 congr 3
 omega
theorem cutL_len {α : Type} (l : List α) (a b : Int) : (cutL l a b).length <= l.length:=by
 unfold cutL
 rw [List.length_take,List.length_drop]
 omega
theorem cutL_mem {l : List Int} {a b : Int} {x : Int} (h : x ∈ cutL l a b) : x ∈ l:=by
 unfold cutL at h
 exact List.mem_of_mem_drop (List.mem_of_mem_take h)
theorem mend_both (l : List Int × List Int × Unit) (h1 : l.1.length + l.2.1.length <= 4000000) (b1 : ∀ b ∈ l.1,0 <= b /\ b <= 255) (b2 : ∀ b ∈ l.2.1,0 <= b /\ b <= 255) :
  ∃ (m : List Int) (e : Int),log_Mend.run l = some ((m,[],()),e,()) /\ basculeref_LogMended.run l = some ((m,[],()),e,()) /\ m.length <= l.1.length /\ ∀ b ∈ m,b ∈ l.1:=by
 unfold log_Mend.run log_Mend.top basculeref_LogMended.run basculeref_LogMended.top
 rw [records_run l h1 b1 b2,open_run l h1 b1 b2]
 simp only [Option.bind_some]
 by_cases c : l.2.1.length > 0
 ·rw [if_pos (by simpa using c),if_pos (by simpa using c)]
  exact ⟨[],12,rfl,rfl,Nat.zero_le _,fun b hb=>absurd hb (by simp)⟩
 ·have e0 : decide ((l.2.1.length : Int) > 0) = false:=by rw [decide_eq_false_iff_not]; omega
  have hle:=(recs_le (l.1 ++ l.2.1).length (l.1 ++ l.2.1)).1
  have hll : (l.1 ++ l.2.1).length = l.1.length + l.2.1.length:=List.length_append
  generalize (recs (l.1 ++ l.2.1).length (l.1 ++ l.2.1)).2 = q at hle ⊢
  have hb : (0 : Int) <= 0 /\ (0 : Int) <= (q : Int) /\ (q : Int) <= (l.1.length : Int):=by omega
  have hc:=cutL_len l.1 0 (q : Int)
  have hf : fitB (0 + (cutL l.1 0 (q : Int)).length) 1 = true:=fitB_small (by omega) (by decide)
  rw [e0]
  simp only [Bool.false_eq_true,if_false]
  rw [if_pos hb,if_pos hf,if_pos hb]
  exact ⟨_,0,rfl,rfl,hc,fun b hb=>cutL_mem hb⟩
end Go.Bx
namespace Go.Bx
set_option linter.unusedVariables false
set_option linter.unusedSimpArgs false
open Go
def EqOk {κ : Type} (eq : κ->κ->Bool) : Prop:=∀ a b,eq a b = true ↔ a = b
theorem eqOk_int {k : IntKind} : EqOk (beqD (.int k)):=fun a b=>by simp [beqD]
section
variable {κ ν : Type} {eq : κ->κ->Bool}
theorem idxM_mem (h : EqOk eq) (a : κ) : ∀ l : List (κ × ν),idxM eq a l < l.length ↔ a ∈ l.map (·.1)
 | []=>by simp [idxM]
 | p :: l=>by
  have ih:=idxM_mem h a l
  cases hb : eq a p.1 with
  | true=>simp only [idxM,hb,List.length_cons,List.map_cons,List.mem_cons]; simp [(h a p.1).1 hb]
  | false =>
   have hne : a ≠ p.1:=fun e=>by rw [(h a p.1).2 e] at hb; cases hb
   simp only [idxM,hb,List.length_cons,List.map_cons,List.mem_cons]
   constructor
   ·intro hlt; exact .inr (ih.1 (by omega))
   ·rintro (e | e)
    ·exact absurd e hne
    ·have:=ih.2 e; omega
theorem blt_iff {a b : Nat} : Nat.blt a b = true ↔ a < b:=by simp [Nat.blt,Nat.ble_eq]; omega
theorem putM_keys : ∀ (l : List (κ × ν)) (i : Nat) (v : ν),(putM l i v).map (·.1) = l.map (·.1)
 | [],_,_=>rfl
 | _ :: _,0,_=>rfl
 | p :: l,i + 1,v=>by simp [putM,putM_keys l i v]
theorem setM_keys [DecidableEq κ] (h : EqOk eq) (a : κ) (v : ν) (l : List (κ × ν)) : (setM eq a v l).map (·.1) = if a ∈ l.map (·.1) then l.map (·.1) else l.map (·.1) ++ [a]:=by
 by_cases hm : a ∈ l.map (·.1)
 ·have:=(idxM_mem h a l).2 hm
  rw [if_pos hm]
  unfold setM
  rw [blt_iff.2 this]
  exact putM_keys _ _ _
 ·have : ¬ idxM eq a l < l.length:=fun hlt=>hm ((idxM_mem h a l).1 hlt)
  rw [if_neg hm]
  unfold setM
  cases hb : Nat.blt (idxM eq a l) l.length with
  | true=>exact absurd (blt_iff.1 hb) this
  | false=>simp
end
structure Seen {κ : Type} (K P : List κ) : Prop where
 nd : K.Nodup
 mem : ∀ a,a ∈ K ↔ a ∈ P
 le : K.length <= P.length
 eq : K.length = P.length ↔ P.Nodup
theorem Seen.nil {κ : Type} : Seen ([] : List κ) []:=⟨List.nodup_nil,by simp,by simp,by simp⟩
theorem Seen.old {κ : Type} {K P : List κ} (h : Seen K P) {a : κ} (ha : a ∈ K) : Seen K (P ++ [a]):=by
 have hP:=(h.mem a).1 ha
 refine ⟨h.nd,fun b=>?_,by have:=h.le; simp; omega,?_⟩
 ·rw [h.mem,List.mem_append,List.mem_singleton]
  exact ⟨.inl,fun hb=>hb.elim id fun e=>e ▸ hP⟩
 ·constructor
  ·intro e; have:=h.le; simp at e; omega
  ·intro hn
   have:=(List.nodup_append.1 hn).2.2 a hP a (by simp)
   exact absurd rfl this
theorem Seen.new {κ : Type} {K P : List κ} (h : Seen K P) {a : κ} (ha : a ∉ K) : Seen (K ++ [a]) (P ++ [a]):=by
 have hP : a ∉ P:=fun hp=>ha ((h.mem a).2 hp)
 have nd : ∀ {L : List κ},a ∉ L->((L ++ [a]).Nodup ↔ L.Nodup):=fun {L} hL=>by
  rw [List.nodup_append]
  constructor
  ·exact fun h=>h.1
  ·intro h
   refine ⟨h,by simp,fun x hx y hy e=>?_⟩
   simp at hy; subst hy; subst e; exact hL hx
 refine ⟨(nd ha).2 h.nd,fun b=>by simp [h.mem b],by have:=h.le; simp; omega,?_⟩
 rw [nd hP,<- h.eq]
 simp
theorem Seen.lt {κ : Type} {K P : List κ} (h : Seen K P) : K.length < P.length ↔ ¬ P.Nodup:=by
 have:=h.le
 rw [<- h.eq]; omega
end Go.Bx
namespace Go.Bx
open Go
set_option linter.unusedSimpArgs false
set_option linter.unusedVariables false
theorem upTo_run (n m : Int) : basculeref_upTo.run n m = some (decide (0 <= n) && decide (n <= m)):=by
 unfold basculeref_upTo.run basculeref_upTo.top
 rw [cond_and]
theorem grd (x b : Bool) : (if (x == true) = true then some b else some false) = some (x && b):=by cases x <;> rfl
theorem and_self' (x b : Bool) : cond x (x && b) false = (x && b):=by cases x <;> rfl
end Go.Bx
namespace Go.Bx
open Go
set_option linter.unusedSimpArgs false
set_option linter.unusedVariables false
abbrev QD : Type:=Int × Int × Int × Int × Unit
abbrev GateD : Type:=List Int × List Int × Int × List QD × List QD × Unit
def vl (n : Int) : Bool:=decide (0 <= n) && decide (n <= 1073741824)
def qok (now : Int) (x : QD) : Bool:=vl x.2.1 && (decide (0 <= x.2.2.1) && decide (x.2.2.1 <= 2)) && (decide (0 <= x.2.2.2.1) && decide (x.2.2.2.1 <= now))
def lims (g : GateD) (i : Nat) : Bool:=vl (g.1.getD i 0) && vl (g.2.1.getD i 0)
def nowOk (g : GateD) : Bool:=decide (0 <= g.2.2.1) && decide (g.2.2.1 <= 1099511627776)
def gids (g : GateD) : List Int:=(g.2.2.2.1 ++ g.2.2.2.2.1).map (·.1)
theorem value_run (n : Int) : gate_value.run n = some (vl n):=by
 unfold gate_value.run gate_value.top vl
 rw [cond_and]
theorem lims_step {α : Type} (Xt : Bool->GateD->Option α) (k : Nat) (g : GateD) (n i : Nat) (x : Bool) (hi : i < 3) :
  gate_Check.l0 k Xt (n + 1) x (i : Int) g = gate_Check.l0 k Xt n (x && lims g i) ((i + 1 : Nat) : Int) g:=by
 simp only [gate_Check.l0,gate_Check.l0s]
 have hd : decide (0 <= (i : Int) /\ (i : Int) < 3) = true:=by rw [decide_eq_true_eq]; omega
 rw [if_pos (by rw [decide_eq_true_eq]; omega),hd,i64_succ (by omega)]
 simp only [Bool.true_or,cond_true,value_run,toNat_nat,grd,Option.bind_some,and_self']
 congr 1
 unfold lims
 cases x <;> cases vl (g.1.getD i 0) <;> rfl
theorem limsF_step {α : Type} (Xt : Bool->GateD->Option α) (k : Nat) (g : GateD) (n i : Nat) (x : Bool) (hi : i < 3) :
  basculeref_GateFault.l0 k Xt (n + 1) x (i : Int) g = basculeref_GateFault.l0 k Xt n (x && lims g i) ((i + 1 : Nat) : Int) g:=by
 simp only [basculeref_GateFault.l0,basculeref_GateFault.l0s]
 have hd : decide (0 <= (i : Int) /\ (i : Int) < 3) = true:=by rw [decide_eq_true_eq]; omega
 rw [if_pos (by rw [decide_eq_true_eq]; omega),hd,i64_succ (by omega)]
 simp only [Bool.true_or,cond_true,upTo_run,toNat_nat,grd,Option.bind_some,and_self']
 congr 1
 unfold lims vl
 cases x <;> cases (decide (0 <= g.1.getD i 0) && decide (g.1.getD i 0 <= 1073741824)) <;> rfl
def allLims (g : GateD) (x : Bool) : Bool:=x && lims g 0 && lims g 1 && lims g 2
theorem lims_all {α : Type} (Xt : Bool->GateD->Option α) (k : Nat) (g : GateD) (n : Nat) (x : Bool) : gate_Check.l0 k Xt (n + 4) x 0 g = Xt (allLims g x) g:=by
 have h0:=lims_step Xt k g (n + 3) 0 x (by omega)
 have h1:=lims_step Xt k g (n + 2) 1 (x && lims g 0) (by omega)
 have h2:=lims_step Xt k g (n + 1) 2 (x && lims g 0 && lims g 1) (by omega)
 refine h0.trans (h1.trans (h2.trans ?_))
 simp only [gate_Check.l0,gate_Check.l0s]
 rfl
theorem limsF_all {α : Type} (Xt : Bool->GateD->Option α) (k : Nat) (g : GateD) (n : Nat) (x : Bool) : basculeref_GateFault.l0 k Xt (n + 4) x 0 g = Xt (allLims g x) g:=by
 have h0:=limsF_step Xt k g (n + 3) 0 x (by omega)
 have h1:=limsF_step Xt k g (n + 2) 1 (x && lims g 0) (by omega)
 have h2:=limsF_step Xt k g (n + 1) 2 (x && lims g 0 && lims g 1) (by omega)
 refine h0.trans (h1.trans (h2.trans ?_))
 simp only [basculeref_GateFault.l0,basculeref_GateFault.l0s]
 rfl
theorem gate_inner {α : Type} (Xt : Bool->Int->Int->GateD->List QD->Option α) (k : Nat) (c d : Int) (g : GateD) (a : QD) (e l : List QD) (hl : l.length <= 1000) :
  ∀ (R P : List QD) (n : Nat) (x : Bool),R.length < n->l = P ++ R ->
  gate_Check.l2 k Xt n x c d l (l.length : Int) (P.length : Int) g a e = Xt (x && R.all fun y=>a.1 != y.1) c d g e
 | R,P,0,x,h,_=>by omega
 | [],P,n + 1,x,h,hc=>by
  simp only [gate_Check.l2,gate_Check.l2s]
  have : l.length = P.length:=by rw [hc]; simp
  rw [if_neg (by rw [decide_eq_true_eq]; omega)]
  simp
 | b :: R,P,n + 1,x,h,hc=>by
  have hlen : l.length = P.length + (R.length + 1):=by rw [hc]; simp
  simp only [gate_Check.l2,gate_Check.l2s]
  have hg : l.getD P.length (0,0,0,0,()) = b:=by rw [hc]; exact getD_at _ _ _ _
  rw [if_pos (by rw [decide_eq_true_eq]; omega),if_pos (by omega),i64_succ (by omega),toNat_nat,hg,cond_and]
  have ih:=gate_inner Xt k c d g a e l hl R (P ++ [b]) n (x && a.1 != b.1) (by simpa using h) (by simp [hc])
  rw [List.length_append] at ih
  refine Eq.trans ih ?_
  rw [List.all_cons,Bool.and_assoc]
theorem gate_outer {α : Type} (Xt : Bool->Option α) (k : Nat) (hk : 1000 < k) (g : GateD) (l : List QD) (hl : l.length <= 1000) :
  ∀ (R P : List QD) (n : Nat) (x : Bool),R.length < n->l = P ++ R->(x = true->(P.map (·.1)).Nodup) ->
  ∃ b,gate_Check.l1 k Xt n x (l.length : Int) (P.length : Int) g l = Xt b /\ (b = true ↔ x = true /\ (∀ y ∈ R,qok g.2.2.1 y = true) /\ (l.map (·.1)).Nodup)
 | R,P,0,x,h,_,_=>by omega
 | [],P,n + 1,x,h,hc,hn=>by
  simp only [gate_Check.l1,gate_Check.l1s]
  have : l.length = P.length:=by rw [hc]; simp
  rw [if_neg (by rw [decide_eq_true_eq]; omega)]
  refine ⟨x,rfl,?_⟩
  constructor
  ·intro hx
   have:=hn hx
   exact ⟨hx,(fun y hy=>by cases hy),by rw [hc]; simpa using this⟩
  ·exact fun h=>h.1
 | a :: R,P,n + 1,x,h,hc,hn=>by
  have hlen : l.length = P.length + (R.length + 1):=by rw [hc]; simp
  simp only [gate_Check.l1,gate_Check.l1s]
  have hg : l.getD P.length (0,0,0,0,()) = a:=by rw [hc]; exact getD_at _ _ _ _
  have hcut : cutL l 0 (P.length : Int) = P:=by rw [hc]; exact cutL_front _ _
  rw [if_pos (by rw [decide_eq_true_eq]; omega),if_pos (by omega),toNat_nat,hg,value_run,grd]
  simp only [Option.bind_some]
  rw [if_pos (by omega),hcut]
  have e : (cond (cond (cond (cond (cond x (x && vl a.2.1) false) (decide (a.2.2.1 >= 0)) false) (decide (a.2.2.1 < 3)) false) (decide (a.2.2.2.1 >= 0)) false) (decide (a.2.2.2.1 <= g.2.2.1)) false) = (x && qok g.2.2.1 a):=by
   rw [Bool.eq_iff_iff]
   unfold qok
   simp only [cond_and,Bool.and_eq_true,decide_eq_true_eq]
   constructor
   ·rintro ⟨⟨⟨⟨⟨h1,_,h2⟩,h3⟩,h4⟩,h5⟩,h6⟩; exact ⟨h1,⟨h2,by omega,by omega⟩,by omega,h6⟩
   ·rintro ⟨h1,⟨h2,h3,h4⟩,h5,h6⟩; exact ⟨⟨⟨⟨⟨h1,h1,h2⟩,by omega⟩,by omega⟩,by omega⟩,h6⟩
  rw [e]
  have hin:=gate_inner (fun c d f c1 i=>gate_Check.j1 (gate_Check.l1 k Xt n) c d f c1 i) k (l.length : Int) (P.length : Int) g a l P (by omega) P [] k (x && qok g.2.2.1 a) (by omega) rfl
  have hx' : (x && qok g.2.2.1 a && P.all fun y=>a.1 != y.1) = true->((P ++ [a]).map (·.1)).Nodup:=fun hx=>by
   simp only [Bool.and_eq_true,List.all_eq_true,bne_iff_ne,ne_eq] at hx
   have h0:=hn hx.1.1
   rw [List.map_append,List.nodup_append]
   refine ⟨h0,by simp,fun u hu v hv e=>?_⟩
   simp only [List.map_cons,List.map_nil,List.mem_singleton] at hv
   obtain ⟨y,hy,rfl⟩:=List.mem_map.1 hu
   exact hx.2 y hy (by rw [<- hv,e])
  obtain ⟨b,b1,b2⟩:=gate_outer Xt k hk g l hl R (P ++ [a]) n _ (by simpa using h) (by simp [hc]) hx'
  refine ⟨b,Eq.trans hin ?_,?_⟩
  ·unfold gate_Check.j1
   rw [i64_succ (by omega)]
   rw [List.length_append] at b1
   exact b1
  ·rw [b2]
   simp only [Bool.and_eq_true,List.all_eq_true,bne_iff_ne,ne_eq,List.forall_mem_cons]
   constructor
   ·rintro ⟨⟨⟨h1,h2⟩,_⟩,h3,h4⟩; exact ⟨h1,⟨h2,h3⟩,h4⟩
   ·rintro ⟨h1,⟨h2,h3⟩,h4⟩
    refine ⟨⟨⟨h1,h2⟩,fun y hy e=>?_⟩,h3,h4⟩
    rw [hc,List.map_append] at h4
    exact (List.nodup_append.1 h4).2.2 y.1 (List.mem_map_of_mem hy) a.1 (by simp) e.symm
theorem gateF_inner {α : Type} (Xt : Bool->Int->List (List QD)->Int->Int->GateD->List (Int × Int)->Option α) (k : Nat) (d : List (List QD)) (f i : Int) (g : GateD) (l : List QD) (hl : l.length <= 1000) :
  ∀ (R Q : List QD) (P : List Int) (n m : Nat) (x : Bool) (c : List (Int × Int)),R.length < n->l = Q ++ R->m + R.length <= 1000->Seen (c.map (·.1)) P ->
  ∃ b c',basculeref_GateFault.l2 k Xt n x (m : Int) d f i l (l.length : Int) (Q.length : Int) g c = Xt b ((m + R.length : Nat) : Int) d f i g c' /\ (b = true ↔ x = true /\ ∀ y ∈ R,qok g.2.2.1 y = true) /\ Seen (c'.map (·.1)) (P ++ R.map (·.1))
 | R,Q,P,0,m,x,c,h,_,_,_=>by omega
 | [],Q,P,n + 1,m,x,c,h,hc,hm,hs=>by
  simp only [basculeref_GateFault.l2,basculeref_GateFault.l2s]
  have : l.length = Q.length:=by rw [hc]; simp
  rw [if_neg (by rw [decide_eq_true_eq]; omega)]
  exact ⟨x,c,rfl,by simp,by simpa using hs⟩
 | a :: R,Q,P,n + 1,m,x,c,h,hc,hm,hs=>by
  have hlen : l.length = Q.length + (R.length + 1):=by rw [hc]; simp
  simp only [basculeref_GateFault.l2,basculeref_GateFault.l2s]
  have hg : l.getD Q.length (0,0,0,0,()) = a:=by rw [hc]; exact getD_at _ _ _ _
  simp only [List.length_cons] at hm
  rw [if_pos (by rw [decide_eq_true_eq]; omega),if_pos (by omega),i64_succ (by omega),i64_succ (by omega),toNat_nat,hg]
  simp only [upTo_run,grd,Option.bind_some,and_self']
  have e : (cond (cond (x && (decide (0 <= a.2.1) && decide (a.2.1 <= 1073741824))) (x && (decide (0 <= a.2.1) && decide (a.2.1 <= 1073741824)) && (decide (0 <= a.2.2.1) && decide (a.2.2.1 <= 2))) false) (x && (decide (0 <= a.2.1) && decide (a.2.1 <= 1073741824)) && (decide (0 <= a.2.2.1) && decide (a.2.2.1 <= 2)) && (decide (0 <= a.2.2.2.1) && decide (a.2.2.2.1 <= g.2.2.1))) false) = (x && qok g.2.2.1 a):=by
   unfold qok vl
   generalize (decide (0 <= a.2.1) && decide (a.2.1 <= 1073741824)) = b1
   generalize (decide (0 <= a.2.2.1) && decide (a.2.2.1 <= 2)) = b2
   generalize (decide (0 <= a.2.2.2.1) && decide (a.2.2.2.1 <= g.2.2.1)) = b3
   cases x <;> cases b1 <;> cases b2 <;> cases b3 <;> rfl
  have key : ∀ v : Int,Seen ((setM (beqD (.int .i64)) a.1 v c).map (·.1)) (P ++ [a.1]):=fun v=>by
   have h1:=setM_keys (eqOk_int (k:=.i64)) (a.1 : Int) v c
   by_cases hm' : a.1 ∈ c.map (·.1)
   ·rw [if_pos hm'] at h1; rw [h1]; exact hs.old hm'
   ·rw [if_neg hm'] at h1; rw [h1]; exact hs.new hm'
  obtain ⟨b,c',b1,b2,b3⟩:=gateF_inner Xt k d f i g l hl R (Q ++ [a]) (P ++ [a.1]) n (m + 1) (x && qok g.2.2.1 a) _ (by simpa using h) (by simp [hc]) (by omega) (key (IntKind.i64.wrap (getM (beqD (.int .i64)) a.1 (0 : Int) c + 1)))
  refine ⟨b,c',?_,?_,by simpa using b3⟩
  ·rw [List.length_append] at b1
   rw [List.length_cons,show m + (R.length + 1) = m + 1 + R.length by omega,<- b1]
   congr 1
   unfold qok vl
   generalize (decide (0 <= a.2.1) && decide (a.2.1 <= 1073741824)) = q1
   generalize (decide (0 <= a.2.2.1) && decide (a.2.2.1 <= 2)) = q2
   generalize (decide (0 <= a.2.2.2.1) && decide (a.2.2.2.1 <= g.2.2.1)) = q3
   cases x <;> cases q1 <;> cases q2 <;> cases q3 <;> rfl
  ·rw [b2]
   simp only [Bool.and_eq_true,List.forall_mem_cons,and_assoc]
def gateGood (g : GateD) : Prop:=allLims g (nowOk g) = true /\ (∀ y ∈ g.2.2.2.1 ++ g.2.2.2.2.1,qok g.2.2.1 y = true) /\ (gids g).Nodup
instance (g : GateD) : Decidable (gateGood g):=by unfold gateGood; infer_instance
def gateE (g : GateD) : Int:=if 40 < g.2.2.2.1.length \/ 40 < g.2.2.2.2.1.length then 1 else if gateGood g then 0 else 12
theorem gate_check (g : GateD) : gate_Check.run g = some (gateE g):=by
 unfold gate_Check.run gate_Check.top gateE
 by_cases h : 40 < g.2.2.2.1.length \/ 40 < g.2.2.2.2.1.length
 ·rw [if_pos (by rw [cond_or,Bool.or_eq_true,decide_eq_true_eq,decide_eq_true_eq]; omega),if_pos h]
 ·rw [if_neg (by rw [cond_or,Bool.or_eq_true,decide_eq_true_eq,decide_eq_true_eq]; omega),if_neg h,cond_and]
  have:=lims_all (fun a c1=>gate_Check.j0 fuel (fun c=>some c) a c1) fuel g 18446744073709551612 (nowOk g)
  refine Eq.trans this ?_
  unfold gate_Check.j0
  rw [if_pos (fitB_small (by omega) (by omega)),if_pos (fitB_small (by omega) (by omega))]
  obtain ⟨b,b1,b2⟩:=gate_outer (fun a=>gate_Check.j2 (fun c=>some c) a) fuel (by rw [fuel_big]; omega) g (g.2.2.2.1 ++ g.2.2.2.2.1) (by simp; omega) (g.2.2.2.1 ++ g.2.2.2.2.1) [] fuel (allLims g (nowOk g)) (by rw [fuel_big]; simp; omega) rfl (fun _=>by simp)
  refine Eq.trans b1 ?_
  unfold gate_Check.j2
  have b3 : b = true ↔ gateGood g:=b2
  by_cases hb : b = true
  ·rw [hb,if_neg (by decide),if_pos (b3.1 hb)]
  ·rw [if_neg (fun hq=>hb (b3.2 hq)),if_pos (by simpa using hb)]
theorem gate_fault (g : GateD) : basculeref_GateFault.run g = some (gateE g):=by
 unfold basculeref_GateFault.run basculeref_GateFault.top gateE
 by_cases h : 40 < g.2.2.2.1.length \/ 40 < g.2.2.2.2.1.length
 ·rw [if_pos (by rw [cond_or,Bool.or_eq_true,decide_eq_true_eq,decide_eq_true_eq]; omega),if_pos h]
 ·rw [if_neg (by rw [cond_or,Bool.or_eq_true,decide_eq_true_eq,decide_eq_true_eq]; omega),if_neg h,upTo_run,Option.bind_some]
  have:=limsF_all (fun a c1=>basculeref_GateFault.j0 fuel (fun i=>some i) a c1) fuel g 18446744073709551612 (nowOk g)
  refine Eq.trans this ?_
  unfold basculeref_GateFault.j0
  obtain ⟨b,c,b1,b2,b3⟩:=gateF_inner (fun a d j k l c1 f=>basculeref_GateFault.j1 (basculeref_GateFault.l1 fuel (fun a d f=>basculeref_GateFault.j2 (fun i=>some i) a d f) (18446744073709551613 + 1 + 1)) a d j k l c1 f) fuel [g.2.2.2.1,g.2.2.2.2.1] 2 0 g g.2.2.2.1 (by omega) g.2.2.2.1 [] [] fuel 0 (allLims g (nowOk g)) [] (by rw [fuel_big]; omega) rfl (by omega) Seen.nil
  obtain ⟨b',c',d1,d2,d3⟩:=gateF_inner (fun a d j k l c1 f=>basculeref_GateFault.j1 (basculeref_GateFault.l1 fuel (fun a d f=>basculeref_GateFault.j2 (fun i=>some i) a d f) (18446744073709551613 + 1)) a d j k l c1 f) fuel [g.2.2.2.1,g.2.2.2.2.1] 2 1 g g.2.2.2.2.1 (by omega) g.2.2.2.2.1 [] ([] ++ g.2.2.2.1.map (·.1)) fuel (0 + g.2.2.2.1.length) b c (by rw [fuel_big]; omega) rfl (by omega) b3
  simp only [List.nil_append] at d3
  have hgood : b' = true /\ c'.length = (0 + g.2.2.2.1.length + g.2.2.2.2.1.length) ↔ gateGood g:=by
   unfold gateGood gids
   rw [d2,b2,List.map_append]
   have:=d3.eq
   simp only [List.length_map,List.length_append] at this
   rw [Nat.zero_add,this]
   simp only [List.forall_mem_append,and_assoc]
  have hle:=d3.le
  simp only [List.length_map,List.length_append] at hle
  have step1 : basculeref_GateFault.l1 fuel (fun a d f=>basculeref_GateFault.j2 (fun i=>some i) a d f) (18446744073709551613 + 1 + 1 + 1) (allLims g (nowOk g)) 0 [g.2.2.2.1,g.2.2.2.2.1] 2 0 g [] = basculeref_GateFault.l1 fuel (fun a d f=>basculeref_GateFault.j2 (fun i=>some i) a d f) (18446744073709551613 + 1 + 1) b ((0 + g.2.2.2.1.length : Nat) : Int) [g.2.2.2.1,g.2.2.2.2.1] 2 1 g c:=by
   rw [basculeref_GateFault.l1]
   unfold basculeref_GateFault.l1s
   rw [if_pos (by decide),if_pos (by constructor <;> simp)]
   exact b1
  have step2 : basculeref_GateFault.l1 fuel (fun a d f=>basculeref_GateFault.j2 (fun i=>some i) a d f) (18446744073709551613 + 1 + 1) b ((0 + g.2.2.2.1.length : Nat) : Int) [g.2.2.2.1,g.2.2.2.2.1] 2 1 g c = basculeref_GateFault.l1 fuel (fun a d f=>basculeref_GateFault.j2 (fun i=>some i) a d f) (18446744073709551613 + 1) b' ((0 + g.2.2.2.1.length + g.2.2.2.2.1.length : Nat) : Int) [g.2.2.2.1,g.2.2.2.2.1] 2 2 g c':=by
   rw [basculeref_GateFault.l1]
   unfold basculeref_GateFault.l1s
   rw [if_pos (by decide),if_pos (by constructor <;> simp)]
   exact d1
  refine Eq.trans (show _ = _ from step1) (step2.trans ?_)
  rw [basculeref_GateFault.l1]
  unfold basculeref_GateFault.l1s basculeref_GateFault.j2
  rw [if_neg (by decide)]
  show (bif decide (Nat.ble c'.length 9223372036854775807 = true) || !((!b') == false) then _ else none) = _
  rw [decide_eq_true (Nat.ble_eq_true_of_le (by omega)),Bool.true_or,cond_true]
  by_cases hq : gateGood g
  ·obtain ⟨q1,q2⟩:=hgood.2 hq
   rw [if_pos hq,if_neg]
   rw [q1,cond_or,Bool.or_eq_true,bne_iff_ne]
   simp [q2]
  ·rw [if_neg hq,if_pos]
   rw [cond_or,Bool.or_eq_true,bne_iff_ne]
   cases hb : b' with
   | false=>exact .inl rfl
   | true =>
    refine .inr fun e=>hq (hgood.1 ⟨hb,?_⟩)
    omega
end Go.Bx
namespace Go.Bx
open Go
set_option linter.unusedSimpArgs false
set_option linter.unusedVariables false
def sumQ (now ch : Int) : List QD->Int
 | []=>0
 | y :: r=>(if y.2.2.1 = ch /\ now - y.2.2.2.1 < 24 then y.2.1 else 0) + sumQ now ch r
def Qs (now : Int) (l : List QD) : Prop:=∀ y ∈ l,0 <= y.2.1 /\ y.2.1 <= 1073741824 /\ 0 <= y.2.2.1 /\ y.2.2.1 <= 2 /\ 0 <= y.2.2.2.1 /\ y.2.2.2.1 <= now
theorem Qs.cons {now : Int} {a : QD} {l : List QD} (h : Qs now (a :: l)) : (0 <= a.2.1 /\ a.2.1 <= 1073741824 /\ 0 <= a.2.2.1 /\ a.2.2.1 <= 2 /\ 0 <= a.2.2.2.1 /\ a.2.2.2.1 <= now) /\ Qs now l :=
 ⟨h a (by simp),fun y hy=>h y (List.mem_cons_of_mem _ hy)⟩
theorem sumQ_bound {now ch : Int} : ∀ {l : List QD},Qs now l->0 <= sumQ now ch l /\ sumQ now ch l <= (l.length : Int) * 1073741824
 | [],_=>by simp [sumQ]
 | a :: l,h=>by
  obtain ⟨h1,h2⟩:=h.cons
  obtain ⟨i1,i2⟩:=sumQ_bound (ch:=ch) h2
  simp only [sumQ,List.length_cons]
  split <;> omega
theorem used_loop {α : Type} (Xt : Int->Option α) (k : Nat) (g : GateD) (ch : Int) (hN : g.2.2.1 <= 1099511628776) (l : List QD) (hl : l.length <= 1000) : ∀ (R P : List QD) (n : Nat) (s : Int),R.length < n->l = P ++ R->Qs g.2.2.1 R->0 <= s->s <= (P.length : Int) * 1073741824 ->
  gate_used.l0 k Xt n ch s l (l.length : Int) (P.length : Int) g = Xt (s + sumQ g.2.2.1 ch R):=by
 intro R
 induction R with
 | nil =>
  intro P n s h hc hq h0 h1
  obtain ⟨n,rfl⟩ : ∃ m,n = m + 1:=⟨n - 1,by have:=h; simp only [List.length_nil] at this; omega⟩
  simp only [gate_used.l0,gate_used.l0s]
  have : l.length = P.length:=by rw [hc]; simp
  rw [if_neg (by rw [decide_eq_true_eq]; omega)]
  simp [sumQ]
 | cons a R IH =>
  intro P n s h hc hq h0 h1
  obtain ⟨n,rfl⟩ : ∃ m,n = m + 1:=⟨n - 1,by have:=h; simp only [List.length_cons] at this; omega⟩
  have hlen : l.length = P.length + (R.length + 1):=by rw [hc]; simp
  obtain ⟨q1,q2⟩:=hq.cons
  simp only [gate_used.l0,gate_used.l0s]
  have hg : l.getD P.length (0,0,0,0,()) = a:=by rw [hc]; exact getD_at _ _ _ _
  rw [if_pos (by rw [decide_eq_true_eq]; omega),if_pos (by omega),toNat_nat,hg,cond_and,wrap_i64 (by omega) (by omega)]
  unfold gate_used.j0
  rw [i64_succ (by omega)]
  have ih:=fun s' h0 h1=>IH (P ++ [a]) n s' (by simpa using h) (by simp [hc]) q2 h0 h1
  simp only [List.length_append,List.length_singleton] at ih
  by_cases hm : a.2.2.1 = ch /\ g.2.2.1 - a.2.2.2.1 < 24
  ·rw [if_pos (by simp only [Bool.and_eq_true,beq_iff_eq,decide_eq_true_eq]; exact hm),wrap_i64 (by omega) (by omega)]
   refine (ih (s + a.2.1) (by omega) (by omega)).trans ?_
   simp only [sumQ]; rw [if_pos hm,Int.add_assoc]
  ·rw [if_neg (by simp only [Bool.and_eq_true,beq_iff_eq,decide_eq_true_eq]; exact hm)]
   refine (ih s h0 (by omega)).trans ?_
   simp only [sumQ]; rw [if_neg hm,Int.zero_add]
theorem used_run (g : GateD) (ch : Int) (hN : g.2.2.1 <= 1099511628776) (hl : g.2.2.2.1.length <= 1000) (hq : Qs g.2.2.1 g.2.2.2.1) : gate_used.run g ch = some (sumQ g.2.2.1 ch g.2.2.2.1):=by
 unfold gate_used.run gate_used.top
 have:=used_loop (fun a=>gate_used.j1 (fun b=>some b) a) fuel g ch hN g.2.2.2.1 hl g.2.2.2.1 [] fuel 0 (by rw [fuel_big]; omega) rfl hq (by omega) (by simp)
 refine Eq.trans this ?_
 unfold gate_used.j1
 rw [Int.zero_add]
theorem passes_loop {α : Type} (Xt : Int->GateD->QD->Option α) (k : Nat) (g : GateD) (x : QD) (hN : g.2.2.1 <= 1099511628776) (l : List QD) (hl : l.length <= 1000) : ∀ (R P : List QD) (n : Nat) (s : Int),R.length < n->l = P ++ R->Qs g.2.2.1 R->0 <= s->s <= (P.length + 1 : Int) * 1073741824 ->
  basculeref_passes.l0 k Xt n s l (l.length : Int) (P.length : Int) g x = Xt (s + sumQ g.2.2.1 x.2.2.1 R) g x:=by
 intro R
 induction R with
 | nil =>
  intro P n s h hc hq h0 h1
  obtain ⟨n,rfl⟩ : ∃ m,n = m + 1:=⟨n - 1,by have:=h; simp only [List.length_nil] at this; omega⟩
  simp only [basculeref_passes.l0,basculeref_passes.l0s]
  have : l.length = P.length:=by rw [hc]; simp
  rw [if_neg (by rw [decide_eq_true_eq]; omega)]
  simp [sumQ]
 | cons a R IH =>
  intro P n s h hc hq h0 h1
  obtain ⟨n,rfl⟩ : ∃ m,n = m + 1:=⟨n - 1,by have:=h; simp only [List.length_cons] at this; omega⟩
  have hlen : l.length = P.length + (R.length + 1):=by rw [hc]; simp
  obtain ⟨q1,q2⟩:=hq.cons
  simp only [basculeref_passes.l0,basculeref_passes.l0s]
  have hg : l.getD P.length (0,0,0,0,()) = a:=by rw [hc]; exact getD_at _ _ _ _
  rw [if_pos (by rw [decide_eq_true_eq]; omega),if_pos (by omega),toNat_nat,hg,cond_and,wrap_i64 (x:=a.2.2.2.1 + 24) (by omega) (by omega)]
  unfold basculeref_passes.j0
  rw [i64_succ (by omega)]
  have ih:=fun s' h0 h1=>IH (P ++ [a]) n s' (by simpa using h) (by simp [hc]) q2 h0 h1
  simp only [List.length_append,List.length_singleton] at ih
  by_cases hm : a.2.2.1 = x.2.2.1 /\ g.2.2.1 - a.2.2.2.1 < 24
  ·rw [if_pos (by simp only [Bool.and_eq_true,beq_iff_eq,decide_eq_true_eq]; omega),wrap_i64 (by omega) (by omega)]
   refine (ih (s + a.2.1) (by omega) (by omega)).trans ?_
   simp only [sumQ]; rw [if_pos hm,Int.add_assoc]
  ·rw [if_neg (by simp only [Bool.and_eq_true,beq_iff_eq,decide_eq_true_eq]; omega)]
   refine (ih s h0 (by omega)).trans ?_
   simp only [sumQ]; rw [if_neg hm,Int.zero_add]
def fitsB (g : GateD) (x : QD) : Bool:=decide (x.2.1 < g.2.1.getD (Int.toNat x.2.2.1) 0) && decide (sumQ g.2.2.1 x.2.2.1 g.2.2.2.1 + x.2.1 <= g.1.getD (Int.toNat x.2.2.1) 0) && decide ((g.2.2.2.1.length : Int) < 40)
theorem fits_run (g : GateD) (x : QD) (hN : g.2.2.1 <= 1099511628776) (hl : g.2.2.2.1.length <= 1000) (hq : Qs g.2.2.1 g.2.2.2.1) (hx : 0 <= x.2.2.1 /\ x.2.2.1 <= 2) (hv : 0 <= x.2.1 /\ x.2.1 <= 1073741824) : gate_fits.run g x = some (fitsB g x):=by
 unfold gate_fits.run gate_fits.top fitsB
 have hb:=sumQ_bound (ch:=x.2.2.1) hq
 rw [if_pos (by omega),used_run g _ hN hl hq]
 by_cases hc : x.2.1 < g.2.1.getD (Int.toNat x.2.2.1) 0
 ·rw [decide_eq_true hc]
  simp only [BEq.rfl,if_true,Option.bind_some,cond_true,Bool.true_and]
  rw [decide_eq_true (show 0 <= x.2.2.1 /\ x.2.2.1 < 3 by omega),Bool.true_or,cond_true,cond_and,wrap_i64 (by omega) (by omega)]
 ·rw [decide_eq_false hc]
  simp
theorem passes_run (g : GateD) (x : QD) (hN : g.2.2.1 <= 1099511628776) (hl : g.2.2.2.1.length <= 1000) (hq : Qs g.2.2.1 g.2.2.2.1) (hx : 0 <= x.2.2.1 /\ x.2.2.1 <= 2) (hv : 0 <= x.2.1 /\ x.2.1 <= 1073741824) : basculeref_passes.run g x = some (fitsB g x):=by
 unfold basculeref_passes.run basculeref_passes.top
 have:=passes_loop (fun a c2 c3=>basculeref_passes.j1 (fun b=>some b) a c2 c3) fuel g x hN g.2.2.2.1 hl g.2.2.2.1 [] fuel x.2.1 (by rw [fuel_big]; omega) rfl hq (by omega) (by simp; omega)
 refine Eq.trans this ?_
 unfold basculeref_passes.j1 fitsB
 rw [if_pos (by omega),decide_eq_true (show 0 <= x.2.2.1 /\ x.2.2.1 < 3 by omega),Bool.true_or,cond_true,cond_and,cond_and,Int.add_comm]
theorem gateGood_parts {g : GateD} (h : gateGood g) : 0 <= g.2.2.1 /\ g.2.2.1 <= 1099511627776 /\ Qs g.2.2.1 g.2.2.2.1 /\ Qs g.2.2.1 g.2.2.2.2.1:=by
 obtain ⟨h1,h2,_⟩:=h
 have hn : nowOk g = true:=by
  unfold allLims at h1
  simp only [Bool.and_eq_true] at h1
  exact h1.1.1.1
 unfold nowOk at hn
 simp only [Bool.and_eq_true,decide_eq_true_eq] at hn
 have hq : ∀ y,qok g.2.2.1 y = true->0 <= y.2.1 /\ y.2.1 <= 1073741824 /\ 0 <= y.2.2.1 /\ y.2.2.1 <= 2 /\ 0 <= y.2.2.2.1 /\ y.2.2.2.1 <= g.2.2.1:=fun y hy=>by
  unfold qok vl at hy
  simp only [Bool.and_eq_true,decide_eq_true_eq] at hy
  exact ⟨hy.1.1.1,hy.1.1.2,hy.1.2.1,hy.1.2.2,hy.2.1,hy.2.2⟩
 exact ⟨hn.1,hn.2,fun y hy=>hq y (h2 y (List.mem_append_left _ hy)),fun y hy=>hq y (h2 y (List.mem_append_right _ hy))⟩
theorem gateE_ok {g : GateD} (h : gateE g = 0) : g.2.2.2.1.length <= 40 /\ g.2.2.2.2.1.length <= 40 /\ gateGood g:=by
 unfold gateE at h
 split at h
 ·cases h
 ·split at h
  ·rename_i h1 h2; exact ⟨by omega,by omega,h2⟩
  ·cases h
theorem sameQueue_loop {α : Type} (Rt : Bool->Option α) (Xt : Option α) (k : Nat) (l : List QD) (hl : l.length <= 4000000000) : ∀ (R P : List QD) (n : Nat),R.length < n->l = P ++ R ->
  basculelaw_sameQueue.l0 k Rt Xt n l l (l.length : Int) (P.length : Int) = Xt
 | R,P,0,h,_=>by omega
 | [],P,n + 1,h,hc=>by
  simp only [basculelaw_sameQueue.l0,basculelaw_sameQueue.l0s]
  have : l.length = P.length:=by rw [hc]; simp
  rw [if_neg (by rw [decide_eq_true_eq]; omega)]
 | a :: R,P,n + 1,h,hc=>by
  have hlen : l.length = P.length + (R.length + 1):=by rw [hc]; simp
  simp only [basculelaw_sameQueue.l0,basculelaw_sameQueue.l0s]
  rw [if_pos (by rw [decide_eq_true_eq]; omega),if_pos (by omega),if_pos (by omega),i64_succ (by omega),beqD_refl _ _ rfl,if_neg (by simp)]
  have ih:=sameQueue_loop Rt Xt k l hl R (P ++ [a]) n (by simpa using h) (by simp [hc])
  rw [List.length_append] at ih
  exact ih
theorem sameQueue_refl (l : List QD) (hl : l.length <= 4000000000) : basculelaw_sameQueue.run l l = some true:=by
 unfold basculelaw_sameQueue.run basculelaw_sameQueue.top
 rw [if_neg (by simp)]
 exact sameQueue_loop (fun a=>some a) (basculelaw_sameQueue.j0 fun a=>some a) fuel l hl l [] fuel (by rw [fuel_big]; omega) rfl
theorem sameGate_refl (g : GateD) (h1 : g.2.2.2.1.length <= 4000000000) (h2 : g.2.2.2.2.1.length <= 4000000000) : basculelaw_sameGate.run g g = some true:=by
 unfold basculelaw_sameGate.run basculelaw_sameGate.top
 rw [beqD_refl _ _ rfl,beqD_refl _ _ rfl,sameQueue_refl _ h1,sameQueue_refl _ h2]
 simp
end Go.Bx
namespace Go.Bx
open Go
set_option linter.unusedSimpArgs false
set_option linter.unusedVariables false
set_option maxRecDepth 100000
theorem sameBytes_refl (l : List Int) : basculelaw_sameBytes.run l l = some true:=by
 unfold basculelaw_sameBytes.run basculelaw_sameBytes.top
 rw [beqD_refl .str _ rfl]
end Go.Bx
namespace Go.Bx
open Go
set_option linter.unusedSimpArgs false
set_option linter.unusedVariables false
theorem sameBody_refl (b : BodyD) : basculeref_SameBody.run b b = some true:=by
 unfold basculeref_SameBody.run basculeref_SameBody.top
 simp only [BEq.rfl,beqD_refl (.arr 32 (.int .u8)) _ rfl,beqD_refl .str _ rfl,cond_true]
end Go.Bx
namespace Go.Bx
open Go
set_option linter.unusedSimpArgs false
set_option linter.unusedVariables false
abbrev LogD : Type:=List Int × List Int × Unit
abbrev GuardD : Type:=List Int × GateD × GateD × LogD × List BodyD × List BodyD × Unit
theorem sameBodies_loop {α : Type} (Rt : Bool->Option α) (Xt : Option α) (k : Nat) (l : List BodyD) (hl : l.length <= 4000000000000) : ∀ (R P : List BodyD) (n : Nat),R.length < n->l = P ++ R ->
  basculelaw_sameBodies.l0 k Rt Xt n l l (l.length : Int) (P.length : Int) = Xt
 | R,P,0,h,_=>by omega
 | [],P,n + 1,h,hc=>by
  simp only [basculelaw_sameBodies.l0,basculelaw_sameBodies.l0s]
  have : l.length = P.length:=by rw [hc]; simp
  rw [if_neg (by rw [decide_eq_true_eq]; omega)]
 | a :: R,P,n + 1,h,hc=>by
  have hlen : l.length = P.length + (R.length + 1):=by rw [hc]; simp
  simp only [basculelaw_sameBodies.l0,basculelaw_sameBodies.l0s]
  rw [if_pos (by rw [decide_eq_true_eq]; omega),if_pos (by omega),if_pos (by omega),i64_succ (by omega),sameBody_refl,Option.bind_some,if_neg (by simp)]
  have ih:=sameBodies_loop Rt Xt k l hl R (P ++ [a]) n (by simpa using h) (by simp [hc])
  rw [List.length_append] at ih
  exact ih
theorem sameBodies_refl (l : List BodyD) (hl : l.length <= 4000000000000) : basculelaw_sameBodies.run l l = some true:=by
 unfold basculelaw_sameBodies.run basculelaw_sameBodies.top
 rw [if_neg (by simp)]
 exact sameBodies_loop (fun a=>some a) (basculelaw_sameBodies.j0 fun a=>some a) fuel l hl l [] fuel (by rw [fuel_big]; omega) rfl
theorem sameLog_refl (l : LogD) : basculelaw_sameLog.run l l = some true:=by
 unfold basculelaw_sameLog.run basculelaw_sameLog.top
 rw [sameBytes_refl,sameBytes_refl]; rfl
theorem sameGuard_refl (g : GuardD) (h1 : g.2.1.2.2.2.1.length <= 4000000000) (h2 : g.2.1.2.2.2.2.1.length <= 4000000000) (h3 : g.2.2.1.2.2.2.1.length <= 4000000000) (h4 : g.2.2.1.2.2.2.2.1.length <= 4000000000)
  (h5 : g.2.2.2.2.1.length <= 4000000000000) (h6 : g.2.2.2.2.2.1.length <= 4000000000000) : basculelaw_sameGuard.run g g = some true:=by
 unfold basculelaw_sameGuard.run basculelaw_sameGuard.top
 rw [beqD_refl (.arr 4 (.int .u64)) _ rfl,sameGate_refl _ h1 h2,sameGate_refl _ h3 h4,sameLog_refl,sameBodies_refl _ h5,sameBodies_refl _ h6]
 rfl
end Go.Bx
namespace Go.Bx
open Go
set_option linter.unusedSimpArgs false
set_option linter.unusedVariables false
def idB (b : BodyD) : Int:=IntKind.i64.wrap (IntKind.i64.wrap (b.2.2.1 * 256) + b.2.2.2.2.1)
theorem id_run (b : BodyD) : guard_Id.run b = some (idB b):=rfl
theorem idOf_run (b : BodyD) : basculeref_IdOf.run b = some (idB b):=by
 unfold basculeref_IdOf.run basculeref_IdOf.top idB
 rw [Int.mul_comm]
def rmv (id : Int) : List BodyD->Option (BodyD × List BodyD)
 | []=>none
 | b :: l=>if idB b = id then some (b,l) else (rmv id l).map fun p=>(p.1,b :: p.2)
def mv1 (id : Int) (H D : List BodyD) : List BodyD × List BodyD:=match rmv id H with
 | none=>(H,D)
 | some p=>(p.2,D ++ [p.1])
def mv : List Int->List BodyD->List BodyD->List BodyD × List BodyD
 | [],H,D=>(H,D)
 | id :: l,H,D=>mv l (mv1 id H D).1 (mv1 id H D).2
def mvR : List Int->List BodyD->List BodyD->List BodyD × List BodyD
 | [],H,D=>(H,D)
 | id :: l,H,D=>mvR l (H.filter fun b=>!(idB b == id)) (D ++ H.filter fun b=>idB b == id)
theorem rmv_len {id : Int} : ∀ {l : List BodyD} {p : BodyD × List BodyD},rmv id l = some p->p.2.length + 1 = l.length
 | b :: l,p,h=>by
  unfold rmv at h
  split at h
  ·cases h; rfl
  ·cases hr : rmv id l with
   | none=>rw [hr] at h; cases h
   | some q =>
    rw [hr] at h; cases h
    have:=rmv_len hr
    simp; omega
theorem mv1_len (id : Int) (H D : List BodyD) : (mv1 id H D).1.length + (mv1 id H D).2.length = H.length + D.length:=by
 unfold mv1
 cases h : rmv id H with
 | none=>rfl
 | some p=>have:=rmv_len h; simp; omega
theorem rmv_filter {id : Int} : ∀ {l : List BodyD},(l.map idB).Nodup->(rmv id l = none /\ (l.filter fun b=>idB b == id) = [] /\ (l.filter fun b=>!(idB b == id)) = l) \/ (∃ b r,rmv id l = some (b,r) /\ (l.filter fun b=>idB b == id) = [b] /\ (l.filter fun b=>!(idB b == id)) = r)
 | [],_=>.inl ⟨rfl,rfl,rfl⟩
 | b :: l,h=>by
  rw [List.map_cons,List.nodup_cons] at h
  by_cases hb : idB b = id
  ·have hno : ∀ c ∈ l,idB c ≠ id:=fun c hc he=>h.1 (List.mem_map.2 ⟨c,hc,he.trans hb.symm⟩)
   refine .inr ⟨b,l,by unfold rmv; rw [if_pos hb],?_,?_⟩
   ·rw [List.filter_cons_of_pos (by simpa using hb),List.filter_eq_nil_iff.2 (fun c hc=>by simpa using hno c hc)]
   ·rw [List.filter_cons_of_neg (by simpa using hb),List.filter_eq_self.2 (fun c hc=>by simpa using hno c hc)]
  ·have e1 : ((b :: l).filter fun b=>idB b == id) = l.filter fun b=>idB b == id:=List.filter_cons_of_neg (by simpa using hb)
   have e2 : ((b :: l).filter fun b=>!(idB b == id)) = b :: l.filter fun b=>!(idB b == id):=List.filter_cons_of_pos (by simpa using hb)
   rcases rmv_filter (id:=id) h.2 with ⟨h1,h2,h3⟩ | ⟨c,r,h1,h2,h3⟩
   ·exact .inl ⟨by unfold rmv; rw [if_neg hb,h1]; rfl,by rw [e1,h2],by rw [e2,h3]⟩
   ·exact .inr ⟨c,b :: r,by unfold rmv; rw [if_neg hb,h1]; rfl,by rw [e1,h2],by rw [e2,h3]⟩
theorem mv_same : ∀ (l : List Int) (H D : List BodyD),(H.map idB).Nodup->mv l H D = mvR l H D
 | [],_,_,_=>rfl
 | id :: l,H,D,h=>by
  have hs : ((H.filter fun b=>!(idB b == id)).map idB).Nodup:=List.Nodup.sublist (List.Sublist.map _ List.filter_sublist) h
  unfold mv mvR mv1
  rcases rmv_filter (id:=id) h with ⟨h1,h2,h3⟩ | ⟨c,r,h1,h2,h3⟩
  ·rw [h1,h2,h3,List.append_nil]
   exact mv_same l H D h
  ·rw [h1,h2]
   rw [h3] at hs ⊢
   exact mv_same l r (D ++ [c]) hs
section
variable {α : Type} (K : Nat) (ids : List Int) (hi : ids.length <= 1000) (c0 c1 c2 c3 : List QD) (c4 c5 : List Int) (c6 : List BodyD) (p0 p10 p11 : List Int) (p12 : Int) (g : GateD) (q0 q10 q11 : List Int) (q12 : Int) (q20 q21 : List Int) (q22 : Int)
theorem movedR_in (Xt : List Int->Int->Int->GuardD->List Int->List Int->List Int->Int->List Int->List Int->Int->List BodyD->List BodyD->Option α) (L J id : Int) (s : GuardD) (H : List BodyD) (hH : H.length <= 3000000) :
  ∀ (R P : List BodyD) (n : Nat) (D E : List BodyD),R.length < n->H = P ++ R->D.length + E.length + R.length <= 3000000 ->
  basculeref_waits.l1 K Xt n id ids L J H (H.length : Int) (P.length : Int) s q0 q10 q11 q12 q20 q21 q22 D E = Xt ids L J s q0 q10 q11 q12 q20 q21 q22 (D ++ R.filter fun b=>idB b == id) (E ++ R.filter fun b=>!(idB b == id))
 | R,P,0,D,E,h,_,_=>by omega
 | [],P,n + 1,D,E,h,hc,_=>by
  simp only [basculeref_waits.l1,basculeref_waits.l1s]
  have : H.length = P.length:=by rw [hc]; simp
  rw [if_neg (by rw [decide_eq_true_eq]; omega)]
  simp
 | b :: R,P,n + 1,D,E,h,hc,hB=>by
  have hlen : H.length = P.length + (R.length + 1):=by rw [hc]; simp
  have hg : H.getD P.length (0,0,0,List.replicate 32 0,0,0,[],()) = b:=by rw [hc]; exact getD_at _ _ _ _
  simp only [List.length_cons] at hB
  simp only [basculeref_waits.l1,basculeref_waits.l1s,basculeref_waits.j0]
  rw [if_pos (by rw [decide_eq_true_eq]; omega),if_pos (by omega),toNat_nat,hg,idOf_run,Option.bind_some,i64_succ (by omega)]
  have ih:=fun D E hB=>movedR_in Xt L J id s H hH R (P ++ [b]) n D E (by simpa using h) (by simp [hc]) hB
  rw [List.length_append] at ih
  by_cases hb : idB b = id
  ·rw [if_pos (show (idB b == id) = true by simpa using hb),if_pos (fitB_small (by omega) (by decide))]
   refine Eq.trans (ih (D ++ [b]) E (by simp; omega)) ?_
   rw [List.filter_cons_of_pos (by simpa using hb),List.filter_cons_of_neg (by simpa using hb)]
   simp
  ·rw [if_neg (show ¬ (idB b == id) = true by simpa using hb),if_pos (fitB_small (by omega) (by decide))]
   refine Eq.trans (ih D (E ++ [b]) (by simp; omega)) ?_
   rw [List.filter_cons_of_neg (by simpa using hb),List.filter_cons_of_pos (by simpa using hb)]
   simp
theorem filter_len (id : Int) : ∀ (H : List BodyD),(H.filter fun b=>idB b == id).length + (H.filter fun b=>!(idB b == id)).length = H.length
 | []=>rfl
 | b :: H=>by
  have:=filter_len id H
  by_cases hb : idB b = id
  ·rw [List.filter_cons_of_pos (by simpa using hb),List.filter_cons_of_neg (by simpa using hb)]; simp; omega
  ·rw [List.filter_cons_of_neg (by simpa using hb),List.filter_cons_of_pos (by simpa using hb)]; simp; omega
theorem movedR_out (Xt : GuardD->List Int->List Int->List Int->Int->List Int->List Int->Int->List BodyD->Option α) (hK : 3000000 < K) (hi : ids.length <= 1000) (s0 : List Int) (s1 s2 : GateD) (s3 : List Int × List Int × Unit) (s5 : List BodyD) :
  ∀ (R P : List Int) (n : Nat) (H D : List BodyD),R.length < n->ids = P ++ R->H.length + D.length <= 3000000 ->
  basculeref_waits.l0 K Xt n ids (ids.length : Int) (P.length : Int) (s0,s1,s2,s3,H,s5,()) q0 q10 q11 q12 q20 q21 q22 D =
   Xt (s0,s1,s2,s3,(mvR R H D).1,s5,()) q0 q10 q11 q12 q20 q21 q22 (mvR R H D).2
 | R,P,0,H,D,h,_,_=>by omega
 | [],P,n + 1,H,D,h,hc,_=>by
  simp only [basculeref_waits.l0,basculeref_waits.l0s]
  have : ids.length = P.length:=by rw [hc]; simp
  rw [if_neg (by rw [decide_eq_true_eq]; omega)]
  rfl
 | id :: R,P,n + 1,H,D,h,hc,hH=>by
  have hlen : ids.length = P.length + (R.length + 1):=by rw [hc]; simp
  have hg : ids.getD P.length 0 = id:=by rw [hc]; exact getD_at _ _ _ _
  simp only [basculeref_waits.l0,basculeref_waits.l0s]
  rw [if_pos (by rw [decide_eq_true_eq]; omega),if_pos (by omega),toNat_nat,hg]
  have hin:=movedR_in K ids q0 q10 q11 q12 q20 q21 q22 (fun a c d c2 e f i j k l m o p=>basculeref_waits.j1 (basculeref_waits.l0 K Xt n) a c d c2 e f i j k l m o p) (ids.length : Int) (P.length : Int) id (s0,s1,s2,s3,H,s5,()) H (by omega) H [] K D [] (by omega) rfl (by simp; omega)
  simp only [List.length_nil,List.nil_append] at hin
  rw [show ((0 : Nat) : Int) = 0 from rfl] at hin
  refine Eq.trans hin ?_
  have hf:=filter_len id H
  simp only [basculeref_waits.j1,basculeref_waits.j2]
  rw [i64_succ (by omega)]
  have ih:=movedR_out Xt hK hi s0 s1 s2 s3 s5 R (P ++ [id]) n (H.filter fun b=>!(idB b == id)) (D ++ H.filter fun b=>idB b == id) (by simpa using h) (by simp [hc]) (by rw [List.length_append]; omega)
  rw [List.length_append] at ih
  exact ih
end
theorem waits_run (g : GuardD) (n : Int) (hH : g.2.2.2.2.1.length + g.2.2.2.2.2.1.length <= 3000000) {x : GateD} {ids : List Int} {e : Int} (ht : basculeref_Ticked.run g.2.2.1 n = some (x,ids,e,())) (hi : ids.length <= 80) :
  basculeref_waits.run g n = if e = 0 then some ((g.1,g.2.1,x,g.2.2.2.1,(mvR ids g.2.2.2.2.1 g.2.2.2.2.2.1).1,(mvR ids g.2.2.2.2.1 g.2.2.2.2.2.1).2,()),0,()) else some (g,e,()):=by
 unfold basculeref_waits.run basculeref_waits.top
 rw [ht,Option.bind_some]
 simp only []
 by_cases he : e = 0
 ·rw [if_neg (show ¬ (e != 0) = true by simpa using he),if_pos he,if_pos (fitB_small (by omega) (by decide))]
  have:=movedR_out fuel ids [0,0,0,0] [0,0,0] [0,0,0] 0 [0,0,0] [0,0,0] 0 (fun c2 a b c d f i j k=>basculeref_waits.j3 (fun l c4=>some (c4,l,())) c2 a b c d f i j k)
   (by rw [fuel_big]; omega) (by omega) g.1 g.2.1 x g.2.2.2.1 g.2.2.2.2.2.1 ids [] fuel g.2.2.2.2.1 g.2.2.2.2.2.1 (by rw [fuel_big]; omega) rfl hH
  exact this
 ·rw [if_pos (show (e != 0) = true by simpa using he),if_neg he]
theorem mvR_len : ∀ (l : List Int) (H D : List BodyD),(mvR l H D).1.length + (mvR l H D).2.length = H.length + D.length
 | [],H,D=>rfl
 | id :: l,H,D=>by
  refine (mvR_len l _ _).trans ?_
  have:=filter_len id H
  rw [List.length_append]; omega
end Go.Bx
namespace Go.Bx
open Go
set_option linter.unusedSimpArgs false
set_option linter.unusedVariables false
section
variable {α : Type} (K : Nat) (ids : List Int) (hi : ids.length <= 1000) (c0 c1 : List QD) (c2 c3 : List Int) (c4 : List BodyD) (p0 p10 p11 : List Int) (p12 : Int) (g : GateD) (q0 q10 q11 : List Int) (q12 : Int) (q20 q21 : List Int) (q22 : Int)
theorem moved_in (Xt : List Int->Int->Int->List QD->List QD->List Int->List Int->List BodyD->List BodyD->List Int->List Int->List Int->Int->GateD->List Int->List Int->List Int->Int->List Int->List Int->Int->List BodyD->Option α) (L J id : Int) (H D : List BodyD) (hH : H.length + D.length <= 3000000) :
  ∀ (R P : List BodyD) (n : Nat),R.length < n->H = P ++ R ->
  guard_passed_s2.l1 K Xt n id ids L J (H.length : Int) (P.length : Int) c0 c1 c2 c3 c4 D p0 p10 p11 p12 g q0 q10 q11 q12 q20 q21 q22 H =
   match rmv id R with
   | none=>Xt ids L J c0 c1 c2 c3 c4 D p0 p10 p11 p12 g q0 q10 q11 q12 q20 q21 q22 H
   | some p=>Xt ids L J c0 c1 c2 c3 c4 (D ++ [p.1]) p0 p10 p11 p12 g q0 q10 q11 q12 q20 q21 q22 (P ++ p.2)
 | R,P,0,h,_=>by omega
 | [],P,n + 1,h,hc=>by
  simp only [guard_passed_s2.l1,guard_passed_s2.l1s]
  have : H.length = P.length:=by rw [hc]; simp
  rw [if_neg (by rw [decide_eq_true_eq]; omega)]
  rfl
 | b :: R,P,n + 1,h,hc=>by
  have hlen : H.length = P.length + (R.length + 1):=by rw [hc]; simp
  have hg : H.getD P.length (0,0,0,List.replicate 32 0,0,0,[],()) = b:=by rw [hc]; exact getD_at _ _ _ _
  simp only [guard_passed_s2.l1,guard_passed_s2.l1s]
  rw [if_pos (by rw [decide_eq_true_eq]; omega),if_pos (by omega),toNat_nat,hg,id_run,Option.bind_some,i64_succ (by omega)]
  unfold rmv
  by_cases hb : idB b = id
  ·have k1 : cutL H 0 (P.length : Int) = P:=by rw [hc]; simp [cutL]
   have k2 : cutL H ((P.length + 1 : Nat) : Int) (H.length : Int) = R:=by
    unfold cutL
    rw [toNat_nat,toNat_nat,List.take_of_length_le (by simp),hc]
    rw [show P.length + 1 = (P ++ [b]).length by simp,show P ++ b :: R = (P ++ [b]) ++ R by simp,List.drop_left]
   rw [if_pos (show (idB b == id) = true by simpa using hb),if_pos hb,if_pos (fitB_small (by omega) (by decide)),if_pos (by refine ⟨?_,?_,?_,?_⟩ <;> first | trivial | omega),if_pos (by omega),k1,k2,if_pos (fitB_small (by omega) (by decide))]
  ·rw [if_neg (show ¬ (idB b == id) = true by simpa using hb),if_neg hb]
   have ih:=moved_in Xt L J id H D hH R (P ++ [b]) n (by simpa using h) (by simp [hc])
   rw [List.length_append] at ih
   refine Eq.trans ih ?_
   cases rmv id R with
   | none=>rfl
   | some p=>simp
theorem moved_out (Xt : List QD->List QD->List Int->List Int->List BodyD->List BodyD->List Int->List Int->List Int->Int->GateD->List Int->List Int->List Int->Int->List Int->List Int->Int->List BodyD->Option α) (hK : 3000000 < K) (hi : ids.length <= 1000) :
  ∀ (R P : List Int) (n : Nat) (H D : List BodyD),R.length < n->ids = P ++ R->H.length + D.length <= 3000000 ->
  guard_passed_s2.l0 K Xt n ids (ids.length : Int) (P.length : Int) c0 c1 c2 c3 c4 D p0 p10 p11 p12 g q0 q10 q11 q12 q20 q21 q22 H =
   Xt c0 c1 c2 c3 c4 (mv R H D).2 p0 p10 p11 p12 g q0 q10 q11 q12 q20 q21 q22 (mv R H D).1
 | R,P,0,H,D,h,_,_=>by omega
 | [],P,n + 1,H,D,h,hc,_=>by
  simp only [guard_passed_s2.l0,guard_passed_s2.l0s]
  have : ids.length = P.length:=by rw [hc]; simp
  rw [if_neg (by rw [decide_eq_true_eq]; omega)]
  rfl
 | id :: R,P,n + 1,H,D,h,hc,hH=>by
  have hlen : ids.length = P.length + (R.length + 1):=by rw [hc]; simp
  have hg : ids.getD P.length 0 = id:=by rw [hc]; exact getD_at _ _ _ _
  simp only [guard_passed_s2.l0,guard_passed_s2.l0s]
  rw [if_pos (by rw [decide_eq_true_eq]; omega),if_pos (by omega),toNat_nat,hg]
  have hin:=moved_in K ids c0 c1 c2 c3 c4 p0 p10 p11 p12 g q0 q10 q11 q12 q20 q21 q22 (fun a b c c0 c1 c2 c3 c4 c5 d e f i j k l m o q r s t=>guard_passed_s2.j0 (guard_passed_s2.l0 K Xt n) a b c c0 c1 c2 c3 c4 c5 d e f i j k l m o q r s t) (ids.length : Int) (P.length : Int) id H D hH H [] K (by omega) rfl
  simp only [List.length_nil,List.nil_append] at hin
  rw [show ((0 : Nat) : Int) = 0 from rfl] at hin
  refine Eq.trans hin ?_
  have ih:=fun H D hH=>moved_out Xt hK hi R (P ++ [id]) n H D (by simpa using h) (by simp [hc]) hH
  rw [List.length_append] at ih
  have hm:=mv1_len id H D
  unfold mv
  unfold mv1 at hm ⊢
  cases hr : rmv id H with
  | none =>
   rw [hr] at hm
   simp only [guard_passed_s2.j0]
   rw [i64_succ (by omega)]
   exact ih H D hH
  | some p =>
   rw [hr] at hm
   simp only [guard_passed_s2.j0]
   rw [i64_succ (by omega)]
   exact ih p.2 (D ++ [p.1]) (by simp only [] at hm; omega)
end
end Go.Bx
namespace Go.Bx
open Go
set_option linter.unusedSimpArgs false
set_option linter.unusedVariables false
def young (now : Int) (l : List QD) : List QD:=l.filter fun y=>decide (now - y.2.2.2.1 < 24)
theorem young_length (now : Int) (l : List QD) : (young now l).length <= l.length:=List.length_filter_le _ _
theorem tick_past {α : Type} (Xt : List QD->List Int->List Int->Int->List Int->List Int->Int->List QD->Option α) (k : Nat) (d : List QD) (li bi a b : List Int) (now c : Int) (hN : now <= 1099511628776) (l : List QD) (hl : l.length <= 40) : ∀ (R P : List QD) (n : Nat) (acc : List QD),R.length < n->l = P ++ R->Qs now R->acc.length <= P.length ->
  gate_Tick.l0 k Xt n d l (l.length : Int) (P.length : Int) li bi now a b c acc = Xt d li bi now a b c (acc ++ young now R):=by
 intro R
 induction R with
 | nil =>
  intro P n acc h hc hq ha
  obtain ⟨n,rfl⟩ : ∃ m,n = m + 1:=⟨n - 1,by have:=h; simp only [List.length_nil] at this; omega⟩
  simp only [gate_Tick.l0,gate_Tick.l0s]
  have : l.length = P.length:=by rw [hc]; simp
  rw [if_neg (by rw [decide_eq_true_eq]; omega)]
  simp [young]
 | cons y R IH =>
  intro P n acc h hc hq ha
  obtain ⟨n,rfl⟩ : ∃ m,n = m + 1:=⟨n - 1,by have:=h; simp only [List.length_cons] at this; omega⟩
  have hlen : l.length = P.length + (R.length + 1):=by rw [hc]; simp
  obtain ⟨q1,q2⟩:=hq.cons
  simp only [gate_Tick.l0,gate_Tick.l0s]
  have hg : l.getD P.length (0,0,0,0,()) = y:=by rw [hc]; exact getD_at _ _ _ _
  rw [if_pos (by rw [decide_eq_true_eq]; omega),if_pos (by omega),toNat_nat,hg,wrap_i64 (x:=now - y.2.2.2.1) (by omega) (by omega)]
  unfold gate_Tick.j0
  rw [i64_succ (by omega)]
  by_cases hy : now - y.2.2.2.1 < 24
  ·rw [if_pos (by rw [decide_eq_true_eq]; exact hy),if_pos (fitB_small (by omega) (by omega))]
   have ih:=IH (P ++ [y]) n (acc ++ [y]) (by simpa using h) (by simp [hc]) q2 (by simp; exact ha)
   rw [List.length_append] at ih
   refine Eq.trans ih ?_
   simp [young,List.filter_cons,hy]
  ·rw [if_neg (by rw [decide_eq_true_eq]; exact hy)]
   have ih:=IH (P ++ [y]) n acc (by simpa using h) (by simp [hc]) q2 (by simp; omega)
   rw [List.length_append] at ih
   refine Eq.trans ih ?_
   simp [young,List.filter_cons,hy]
theorem tickF_past {α : Type} (Xt : GateD->List Int->List Int->Int->List Int->List Int->Int->List QD->Option α) (k : Nat) (g : GateD) (li bi a b : List Int) (now c : Int) (hN : now <= 1099511628776) (l : List QD) (hl : l.length <= 40) : ∀ (R P : List QD) (n : Nat) (acc : List QD),R.length < n->l = P ++ R->Qs now R->acc.length <= P.length ->
  basculeref_Ticked.l0 k Xt n l (l.length : Int) (P.length : Int) g a b c li bi now acc = Xt g a b c li bi now (acc ++ young now R):=by
 intro R
 induction R with
 | nil =>
  intro P n acc h hc hq ha
  obtain ⟨n,rfl⟩ : ∃ m,n = m + 1:=⟨n - 1,by have:=h; simp only [List.length_nil] at this; omega⟩
  simp only [basculeref_Ticked.l0,basculeref_Ticked.l0s]
  have : l.length = P.length:=by rw [hc]; simp
  rw [if_neg (by rw [decide_eq_true_eq]; omega)]
  simp [young]
 | cons y R IH =>
  intro P n acc h hc hq ha
  obtain ⟨n,rfl⟩ : ∃ m,n = m + 1:=⟨n - 1,by have:=h; simp only [List.length_cons] at this; omega⟩
  have hlen : l.length = P.length + (R.length + 1):=by rw [hc]; simp
  obtain ⟨q1,q2⟩:=hq.cons
  simp only [basculeref_Ticked.l0,basculeref_Ticked.l0s]
  have hg : l.getD P.length (0,0,0,0,()) = y:=by rw [hc]; exact getD_at _ _ _ _
  rw [if_pos (by rw [decide_eq_true_eq]; omega),if_pos (by omega),toNat_nat,hg,wrap_i64 (x:=y.2.2.2.1 + 24) (by omega) (by omega)]
  unfold basculeref_Ticked.j0
  rw [i64_succ (by omega)]
  by_cases hy : now - y.2.2.2.1 < 24
  ·rw [if_pos (by rw [decide_eq_true_eq]; omega),if_pos (fitB_small (by omega) (by omega))]
   have ih:=IH (P ++ [y]) n (acc ++ [y]) (by simpa using h) (by simp [hc]) q2 (by simp; exact ha)
   rw [List.length_append] at ih
   refine Eq.trans ih ?_
   simp [young,List.filter_cons,hy]
  ·rw [if_neg (by rw [decide_eq_true_eq]; omega)]
   have ih:=IH (P ++ [y]) n acc (by simpa using h) (by simp [hc]) q2 (by simp; omega)
   rw [List.length_append] at ih
   refine Eq.trans ih ?_
   simp [young,List.filter_cons,hy]
theorem tick_queue {α : Type} (Xt : List Int->List Int->Int->List Int->List Int->Int->List QD->List QD->List Int->Option α) (Xu : List Int->List Int->Int->List Int->List Int->Int->List QD->List QD->List Int->Option α) (k k' : Nat) (li bi a b : List Int) (now c : Int) (h0 : 0 <= now) (hN : now <= 1099511628776) (l : List QD) (hl : l.length <= 40) : ∀ (R P : List QD) (n n' : Nat) (past queue : List QD) (out : List Int),R.length < n->R.length < n'->l = P ++ R->Qs now R->Qs now past->past.length <= 40 + P.length->queue.length <= P.length->out.length <= P.length ->
  ∃ p q o,gate_Tick.l1 k Xt n l (l.length : Int) (P.length : Int) li bi now a b c past queue out = Xt li bi now a b c p q o /\ basculeref_Ticked.l1 k' Xu n' l (l.length : Int) (P.length : Int) a b c li bi now past queue out = Xu a b c li bi now p q o /\ p.length <= 80 /\ q.length <= 40 /\ o.length <= 40:=by
 intro R
 induction R with
 | nil =>
  intro P n n' past queue out h h' hc hq hqp hp hqu ho
  obtain ⟨n,rfl⟩ : ∃ m,n = m + 1:=⟨n - 1,by have:=h; simp only [List.length_nil] at this; omega⟩
  obtain ⟨n',rfl⟩ : ∃ m,n' = m + 1:=⟨n' - 1,by have:=h'; simp only [List.length_nil] at this; omega⟩
  have : l.length = P.length:=by rw [hc]; simp
  refine ⟨past,queue,out,?_,?_,by omega,by omega,by omega⟩
  ·simp only [gate_Tick.l1,gate_Tick.l1s]
   rw [if_neg (by rw [decide_eq_true_eq]; omega)]
  ·simp only [basculeref_Ticked.l1,basculeref_Ticked.l1s]
   rw [if_neg (by rw [decide_eq_true_eq]; omega)]
 | cons y R IH =>
  intro P n n' past queue out h h' hc hq hqp hp hqu ho
  obtain ⟨n,rfl⟩ : ∃ m,n = m + 1:=⟨n - 1,by have:=h; simp only [List.length_cons] at this; omega⟩
  obtain ⟨n',rfl⟩ : ∃ m,n' = m + 1:=⟨n' - 1,by have:=h'; simp only [List.length_cons] at this; omega⟩
  have hlen : l.length = P.length + (R.length + 1):=by rw [hc]; simp
  obtain ⟨q1,q2⟩:=hq.cons
  have hg : l.getD P.length (0,0,0,0,()) = y:=by rw [hc]; exact getD_at _ _ _ _
  have hf:=fits_run (li,bi,now,past,queue,()) y hN (by show past.length <= 1000; omega) hqp ⟨q1.2.2.1,q1.2.2.2.1⟩ ⟨q1.1,q1.2.1⟩
  have hf':=passes_run (li,bi,now,past,queue,()) y hN (by show past.length <= 1000; omega) hqp ⟨q1.2.2.1,q1.2.2.2.1⟩ ⟨q1.1,q1.2.1⟩
  have d1 : decide ((P.length : Int) < (l.length : Int)) = true:=by rw [decide_eq_true_eq]; omega
  have d2 : 0 <= (P.length : Int) /\ (P.length : Int) < (l.length : Int):=by omega
  have d3 : IntKind.i64.wrap ((P.length : Int) + 1) = ((P.length + 1 : Nat) : Int):=i64_succ (by omega)
  have d4 : IntKind.i64.wrap (now - y.2.2.2.1) = now - y.2.2.2.1:=wrap_i64 (by omega) (by omega)
  have d5 : IntKind.i64.wrap (y.2.2.2.1 + 24) = y.2.2.2.1 + 24:=wrap_i64 (by omega) (by omega)
  simp only [gate_Tick.l1,gate_Tick.l1s,basculeref_Ticked.l1,basculeref_Ticked.l1s,d1,if_true,if_pos d2,toNat_nat,hg,d4,d5,hf,hf',gate_Tick.j2,basculeref_Ticked.j2,d3,Option.bind_some]
  have hlp : (P ++ [y]).length = P.length + 1:=by simp
  by_cases hr : now - y.2.2.2.1 < 24
  ·have e1 : decide (now - y.2.2.2.1 >= 24) = false:=by rw [decide_eq_false_iff_not]; omega
   have e2 : decide (y.2.2.2.1 + 24 <= now) = false:=by rw [decide_eq_false_iff_not]; omega
   simp only [e1,e2,Bool.false_eq_true,if_false,Bool.not_false,BEq.rfl,if_true,Option.bind_some,cond_true,Bool.not_eq_true']
   cases hfb : fitsB (li,bi,now,past,queue,()) y with
   | true =>
    simp only [if_true,Bool.true_eq_false,if_false]
    rw [if_pos (fitB_small (by omega) (by omega)),if_pos (fitB_small (by omega) (by omega)),if_pos (fitB_small (by omega) (by omega))]
    try rw [if_pos (fitB_small (by omega) (by omega))]
    obtain ⟨p,q,o,r1,r2,r3⟩:=IH (P ++ [y]) n n' (past ++ [(y.1,y.2.1,y.2.2.1,now,())]) queue (out ++ [y.1]) (by simpa using h) (by simpa using h') (by simp [hc]) q2 (fun z hz=>by
     rcases List.mem_append.1 hz with hz | hz
     ·exact hqp z hz
     ·simp only [List.mem_singleton] at hz; subst hz; exact ⟨q1.1,q1.2.1,q1.2.2.1,q1.2.2.2.1,h0,Int.le_refl _⟩) (by simp; omega) (by rw [hlp]; omega) (by simp; omega)
    rw [hlp] at r1 r2
    exact ⟨p,q,o,r1,r2,r3⟩
   | false =>
    simp only [Bool.false_eq_true,if_false,if_true]
    rw [if_pos (fitB_small (by omega) (by omega))]
    try rw [if_pos (fitB_small (by omega) (by omega))]
    obtain ⟨p,q,o,r1,r2,r3⟩:=IH (P ++ [y]) n n' past (queue ++ [y]) out (by simpa using h) (by simpa using h') (by simp [hc]) q2 hqp (by rw [hlp]; omega) (by simp; omega) (by rw [hlp]; omega)
    rw [hlp] at r1 r2
    exact ⟨p,q,o,r1,r2,r3⟩
  ·have e1 : decide (now - y.2.2.2.1 >= 24) = true:=by rw [decide_eq_true_eq]; omega
   have e2 : decide (y.2.2.2.1 + 24 <= now) = true:=by rw [decide_eq_true_eq]; omega
   simp only [e1,e2,Bool.not_true,Bool.false_eq_true,if_false,if_true,Option.bind_some,cond_false,show (false == true) = false from rfl]
   rw [if_pos (fitB_small (by omega) (by omega))]
   try rw [if_pos (fitB_small (by omega) (by omega))]
   obtain ⟨p,q,o,r1,r2,r3⟩:=IH (P ++ [y]) n n' past queue (out ++ [y.1]) (by simpa using h) (by simpa using h') (by simp [hc]) q2 hqp (by rw [hlp]; omega) (by rw [hlp]; omega) (by simp; omega)
   rw [hlp] at r1 r2
   exact ⟨p,q,o,r1,r2,r3⟩
theorem young_qs {now : Int} {l : List QD} (h : Qs now l) : Qs now (young now l):=fun y hy=>h y (List.mem_filter.1 hy).1
theorem Qs.later {a b : Int} {l : List QD} (h : Qs a l) (hab : a <= b) : Qs b l:=fun y hy=>by have:=h y hy; omega
theorem tick_both (g : GateD) (t : Int) : ∃ r,gate_Tick.run g t = some r /\ basculeref_Ticked.run g t = some r /\ r.1.2.2.2.1.length <= 80 /\ r.1.2.2.2.2.1.length <= 80 /\ r.2.1.length <= 80:=by
 unfold gate_Tick.run gate_Tick.top basculeref_Ticked.run basculeref_Ticked.top
 rw [gate_check,gate_fault,Option.bind_some,Option.bind_some]
 by_cases he : gateE g = 0
 ·obtain ⟨k1,k2,k3⟩:=gateE_ok he
  obtain ⟨n0,n1,q1,q2⟩:=gateGood_parts k3
  simp only [he,show ((0 : Int) != 0) = false from rfl,Bool.false_eq_true,if_false]
  by_cases ht : 1 <= t /\ t <= 1000
  ·have c1 : (cond (cond (decide (t < 1)) true (decide (t > 1000))) true (decide ((IntKind.i64.wrap (g.2.2.1 + t)) > 1099511627776))) = decide (1099511627776 < g.2.2.1 + t):=by
    rw [wrap_i64 (by omega) (by omega),decide_eq_false (by omega),decide_eq_false (by omega)]; rfl
   have c2 : (cond (cond (decide (t < 1)) true (decide (t > 1000))) true (decide (g.2.2.1 > (IntKind.i64.wrap (1099511627776 - t))))) = decide (1099511627776 < g.2.2.1 + t):=by
    rw [wrap_i64 (by omega) (by omega),decide_eq_false (by omega : ¬ t < 1),decide_eq_false (by omega : ¬ t > 1000)]
    simp only [cond_false]
    rw [decide_eq_decide]; omega
   simp only [c1,c2]
   by_cases hb : 1099511627776 < g.2.2.1 + t
   ·simp only [hb,decide_true,if_true]
    exact ⟨_,rfl,rfl,by simp,by simp,by simp⟩
   ·simp only [hb,decide_false,Bool.false_eq_true,if_false]
    rw [wrap_i64 (x:=g.2.2.1 + t) (by omega) (by omega)]
    have hq1:=q1.later (b:=g.2.2.1 + t) (by omega)
    have hq2:=q2.later (b:=g.2.2.1 + t) (by omega)
    have p1:=tick_past (fun v i j k a c d l=>gate_Tick.j1 fuel (fun e f c4=>some (c4,e,f,())) v i j k a c d l) fuel g.2.2.2.2.1 g.1 g.2.1 [0,0,0] [0,0,0] (g.2.2.1 + t) 0 (by omega) g.2.2.2.1 k1 g.2.2.2.1 [] fuel [] (by rw [fuel_big]; omega) rfl hq1 (by simp)
    have p2:=tickF_past (fun c2 a c d m n s u=>basculeref_Ticked.j1 fuel (fun e f c4=>some (c4,e,f,())) c2 a c d m n s u) fuel g g.1 g.2.1 [0,0,0] [0,0,0] (g.2.2.1 + t) 0 (by omega) g.2.2.2.1 k1 g.2.2.2.1 [] fuel [] (by rw [fuel_big]; omega) rfl hq1 (by simp)
    have hyl:=young_length (g.2.2.1 + t) g.2.2.2.1
    obtain ⟨p,q,o,r1,r2,r3,r4,r5⟩:=tick_queue (fun i j k a c d l w y=>gate_Tick.j3 (fun e f c4=>some (c4,e,f,())) i j k a c d l w y) (fun a c d m n s u z A=>basculeref_Ticked.j3 (fun e f c4=>some (c4,e,f,())) a c d m n s u z A) fuel fuel g.1 g.2.1 [0,0,0] [0,0,0] (g.2.2.1 + t) 0 (by omega) (by omega) g.2.2.2.2.1 k2 g.2.2.2.2.1 [] fuel fuel (young (g.2.2.1 + t) g.2.2.2.1) [] [] (by rw [fuel_big]; omega) (by rw [fuel_big]; omega) rfl hq2 (young_qs hq1) (by omega) (by simp) (by simp)
    refine ⟨((g.1,g.2.1,g.2.2.1 + t,p,q,()),o,0,()),?_,?_,by simp; omega,by simp; omega,by simp; omega⟩
    ·refine Eq.trans p1 ?_
     unfold gate_Tick.j1
     refine Eq.trans r1 ?_
     rfl
    ·refine Eq.trans p2 ?_
     unfold basculeref_Ticked.j1
     refine Eq.trans r2 ?_
     rfl
  ·have c0 : (cond (decide (t < 1)) true (decide (t > 1000))) = true:=by rw [cond_or,Bool.or_eq_true,decide_eq_true_eq,decide_eq_true_eq]; omega
   simp only [c0,cond_true,if_true]
   exact ⟨_,rfl,rfl,by simp,by simp,by simp⟩
 ·have hn : (gateE g != 0) = true:=by simpa using he
  simp only [hn,if_true]
  exact ⟨_,rfl,rfl,by simp,by simp,by simp⟩
end Go.Bx
namespace Go.Bx
open Go
set_option linter.unusedSimpArgs false
set_option linter.unusedVariables false
theorem passed2_run (s : List Int) (f : GateD) (g : GateD) (n : Int) (c2 c3 : List Int) (H D : List BodyD) (hH : H.length + D.length <= 3000000) {x : GateD} {ids : List Int} {e : Int} (ht : gate_Tick.run g n = some (x,ids,e,())) (hi : ids.length <= 80) :
  guard_passed_s2.run s f.1 f.2.1 f.2.2.1 g n f.2.2.2.1 f.2.2.2.2.1 c2 c3 H D =
   if e = 0 then some (s,f.1,f.2.1,f.2.2.1,x,0,f.2.2.2.1,f.2.2.2.2.1,c2,c3,[],(mv ids H D).2,s,f.1,f.2.1,f.2.2.1,x,(mv ids H D).1,())
   else some (s,f.1,f.2.1,f.2.2.1,g,e,f.2.2.2.1,f.2.2.2.2.1,c2,c3,[],D,s,f.1,f.2.1,f.2.2.1,g,H,()):=by
 unfold guard_passed_s2.run guard_passed_s2.top
 rw [ht,Option.bind_some]
 simp only []
 by_cases he : e = 0
 ·rw [if_neg (show ¬ (e != 0) = true by simpa using he),if_pos he]
  have:=moved_out (α:=List Int × List Int × List Int × Int × GateD × Int × List QD × List QD × List Int × List Int × List BodyD × List BodyD × List Int × List Int × List Int × Int × GateD × List BodyD × Unit) fuel ids f.2.2.2.1 f.2.2.2.2.1 c2 c3 [] s f.1 f.2.1 f.2.2.1 x [0,0,0,0] [0,0,0] [0,0,0] 0 [0,0,0] [0,0,0] 0
   (fun c0 c1 c2 c3 c4 c5 j k l m o a b c d p q r t=>guard_passed_s2.j1 (fun u c0 c1 c2 c3 c4 c5 a b c d i v=>some (a,b,c,d,i,u,c0,c1,c2,c3,c4,c5,a,b,c,d,i,v,())) c0 c1 c2 c3 c4 c5 j k l m o a b c d p q r t)
   (by rw [fuel_big]; omega) (by omega) ids [] fuel H D (by rw [fuel_big]; omega) rfl hH
  exact this
 ·rw [if_pos (show (e != 0) = true by simpa using he),if_neg he]
end Go.Bx
namespace Go.Bx
open Go
set_option linter.unusedSimpArgs false
set_option linter.unusedVariables false
abbrev G0 : GateD:=([0,0,0],[0,0,0],0,[],[],())
theorem offer_inner {α : Type} (Rt : Bool->Int->GateD->Option α) (Xt : Int->Int->Int->List (List QD)->Int->GateD->List Int->List Int->Int->Option α) (k : Nat) (id v ch : Int) (d : List (List QD)) (f : Int) (g : GateD) (a b : List Int) (c : Int) (l : List QD) (hl : l.length <= 1000) :
  ∀ (R P : List QD) (n : Nat),R.length < n->l = P ++ R ->
  gate_Offer.l1 k Rt Xt n id v ch d f l (l.length : Int) (P.length : Int) g a b c = if id ∈ R.map (·.1) then Rt false 8 G0 else Xt id v ch d f g a b c
 | R,P,0,h,_=>by omega
 | [],P,n + 1,h,hc=>by
  simp only [gate_Offer.l1,gate_Offer.l1s]
  have : l.length = P.length:=by rw [hc]; simp
  rw [if_neg (by rw [decide_eq_true_eq]; omega),if_neg (by simp)]
 | y :: R,P,n + 1,h,hc=>by
  have hlen : l.length = P.length + (R.length + 1):=by rw [hc]; simp
  simp only [gate_Offer.l1,gate_Offer.l1s]
  have hg : l.getD P.length (0,0,0,0,()) = y:=by rw [hc]; exact getD_at _ _ _ _
  rw [if_pos (by rw [decide_eq_true_eq]; omega),if_pos (by omega),i64_succ (by omega),toNat_nat,hg]
  have ih:=offer_inner Rt Xt k id v ch d f g a b c l hl R (P ++ [y]) n (by simpa using h) (by simp [hc])
  rw [List.length_append] at ih
  by_cases he : y.1 = id
  ·rw [if_pos (by simpa using he),if_pos (by simp [he])]
  ·rw [if_neg (by simpa using he)]
   refine Eq.trans ih ?_
   by_cases hr : id ∈ R.map (·.1)
   ·rw [if_pos hr,if_pos (by rw [List.map_cons]; exact List.mem_cons_of_mem _ hr)]
   ·rw [if_neg hr,if_neg (by rw [List.map_cons,List.mem_cons,not_or]; exact ⟨fun e=>he e.symm,hr⟩)]
theorem offerF_inner {α : Type} (Rt : Bool->Int->GateD->Option α) (Xt : Int->Int->Int->GateD->List Int->List Int->Int->Option α) (k : Nat) (id v ch : Int) (g : GateD) (a b : List Int) (c : Int) (l : List QD) (hl : l.length <= 1000) :
  ∀ (R P : List QD) (n : Nat),R.length < n->l = P ++ R ->
  basculeref_Offered.l0 k Rt Xt n id v ch (l.length : Int) (P.length : Int) g a b c l = if id ∈ R.map (·.1) then Rt false 8 G0 else Xt id v ch g a b c
 | R,P,0,h,_=>by omega
 | [],P,n + 1,h,hc=>by
  simp only [basculeref_Offered.l0,basculeref_Offered.l0s]
  have : l.length = P.length:=by rw [hc]; simp
  rw [if_neg (by rw [decide_eq_true_eq]; omega),if_neg (by simp)]
 | y :: R,P,n + 1,h,hc=>by
  have hlen : l.length = P.length + (R.length + 1):=by rw [hc]; simp
  simp only [basculeref_Offered.l0,basculeref_Offered.l0s]
  have hg : l.getD P.length (0,0,0,0,()) = y:=by rw [hc]; exact getD_at _ _ _ _
  rw [if_pos (by rw [decide_eq_true_eq]; omega),if_pos (by omega),i64_succ (by omega),toNat_nat,hg]
  have ih:=offerF_inner Rt Xt k id v ch g a b c l hl R (P ++ [y]) n (by simpa using h) (by simp [hc])
  rw [List.length_append] at ih
  by_cases he : y.1 = id
  ·rw [if_pos (by simpa using he),if_pos (by simp [he])]
  ·rw [if_neg (by simpa using he)]
   refine Eq.trans ih ?_
   by_cases hr : id ∈ R.map (·.1)
   ·rw [if_pos hr,if_pos (by rw [List.map_cons]; exact List.mem_cons_of_mem _ hr)]
   ·rw [if_neg hr,if_neg (by rw [List.map_cons,List.mem_cons,not_or]; exact ⟨fun e=>he e.symm,hr⟩)]
theorem offer_outer {α : Type} (Rt : Bool->Int->GateD->Option α) (Xt : Int->Int->Int->GateD->List Int->List Int->Int->Option α) (k : Nat) (hk : 1000 < k) (id v ch : Int) (g : GateD) (a b : List Int) (c : Int) (h1 : g.2.2.2.1.length <= 40) (h2 : g.2.2.2.2.1.length <= 40) (n : Nat) :
  gate_Offer.l0 k Rt Xt (n + 3) id v ch [g.2.2.2.1,g.2.2.2.2.1] 0 g a b c = if id ∈ g.2.2.2.1.map (·.1) then Rt false 8 G0 else if id ∈ g.2.2.2.2.1.map (·.1) then Rt false 8 G0 else Xt id v ch g a b c:=by
 have step1 : gate_Offer.l0 k Rt Xt (n + 2 + 1) id v ch [g.2.2.2.1,g.2.2.2.2.1] 0 g a b c = if id ∈ g.2.2.2.1.map (·.1) then Rt false 8 G0 else gate_Offer.l0 k Rt Xt (n + 1 + 1) id v ch [g.2.2.2.1,g.2.2.2.2.1] 1 g a b c:=by
  rw [gate_Offer.l0]
  unfold gate_Offer.l0s
  rw [if_pos (by decide),if_pos (by decide)]
  exact offer_inner (fun d e f=>Rt d e f) (fun i j l m o c4 p q r=>gate_Offer.j0 (gate_Offer.l0 k Rt Xt (n + 2)) i j l m o c4 p q r) k id v ch [g.2.2.2.1,g.2.2.2.2.1] 0 g a b c g.2.2.2.1 (by omega) g.2.2.2.1 [] k (by omega) rfl
 have step2 : gate_Offer.l0 k Rt Xt (n + 1 + 1) id v ch [g.2.2.2.1,g.2.2.2.2.1] 1 g a b c = if id ∈ g.2.2.2.2.1.map (·.1) then Rt false 8 G0 else gate_Offer.l0 k Rt Xt (n + 1) id v ch [g.2.2.2.1,g.2.2.2.2.1] 2 g a b c:=by
  rw [gate_Offer.l0]
  unfold gate_Offer.l0s
  rw [if_pos (by decide),if_pos (by decide)]
  exact offer_inner (fun d e f=>Rt d e f) (fun i j l m o c4 p q r=>gate_Offer.j0 (gate_Offer.l0 k Rt Xt (n + 1)) i j l m o c4 p q r) k id v ch [g.2.2.2.1,g.2.2.2.2.1] 1 g a b c g.2.2.2.2.1 (by omega) g.2.2.2.2.1 [] k (by omega) rfl
 have step3 : gate_Offer.l0 k Rt Xt (n + 1) id v ch [g.2.2.2.1,g.2.2.2.2.1] 2 g a b c = Xt id v ch g a b c:=by
  rw [gate_Offer.l0]
  unfold gate_Offer.l0s
  rw [if_neg (by decide)]
 refine step1.trans ?_
 rw [step2,step3]
def offerR (g : GateD) (id v ch : Int) : GateD × Bool × Int × Unit :=
 if gateE g ≠ 0 then (G0,false,gateE g,())
 else if ¬ (0 <= v /\ v <= 1073741824 /\ 0 <= ch /\ ch <= 2) then (G0,false,6,())
 else if id ∈ gids g then (G0,false,8,())
 else if fitsB g (id,v,ch,g.2.2.1,()) = true then ((g.1,g.2.1,g.2.2.1,g.2.2.2.1 ++ [(id,v,ch,g.2.2.1,())],g.2.2.2.2.1,()),true,0,())
 else if 40 <= g.2.2.2.2.1.length then (G0,false,9,())
 else ((g.1,g.2.1,g.2.2.1,g.2.2.2.1,g.2.2.2.2.1 ++ [(id,v,ch,g.2.2.1,())],()),false,0,())
theorem offer_fresh (g : GateD) (h1 : g.2.2.2.1.length <= 1000) (h2 : g.2.2.2.2.1.length <= 1000) : gate_fresh_s0.run g = some (g.1,g.2.1,g.2.2.1,g.1,g.2.1,g.2.2.1,g.2.2.2.1,g.2.2.2.2.1,()):=by
 unfold gate_fresh_s0.run gate_fresh_s0.top
 rw [if_pos (fitB_small (by omega) (by omega)),if_pos (fitB_small (by omega) (by omega))]
theorem vl_iff {v : Int} : vl v = true ↔ 0 <= v /\ v <= 1073741824:=by simp [vl]
theorem offer_run (g : GateD) (id v ch : Int) : gate_Offer.run g id v ch = some (offerR g id v ch):=by
 unfold gate_Offer.run gate_Offer.top offerR
 rw [gate_check,Option.bind_some]
 by_cases he : gateE g = 0
 ·obtain ⟨k1,k2,k3⟩:=gateE_ok he
  obtain ⟨n0,n1,q1,q2⟩:=gateGood_parts k3
  rw [he,if_neg (by decide),if_neg (by simp),value_run,Option.bind_some]
  by_cases hb : 0 <= v /\ v <= 1073741824 /\ 0 <= ch /\ ch <= 2
  ·rw [if_neg (by rw [cond_or,cond_or,vl_iff.2 ⟨hb.1,hb.2.1⟩]; simp only [Bool.or_eq_true,decide_eq_true_eq]; simp; omega),if_neg (by simp; omega)]
   refine (offer_outer (fun a b c=>some (c,a,b,())) (fun d e f c4 i j k=>gate_Offer.j1 (fun a b c=>some (c,a,b,())) d e f c4 i j k) fuel (by rw [fuel_big]; omega) id v ch g [0,0,0] [0,0,0] 0 k1 k2 18446744073709551613).trans ?_
   have hmem : id ∈ gids g ↔ id ∈ g.2.2.2.1.map (·.1) \/ id ∈ g.2.2.2.2.1.map (·.1):=by unfold gids; rw [List.map_append,List.mem_append]
   by_cases h1 : id ∈ g.2.2.2.1.map (·.1)
   ·rw [if_pos h1,if_pos (hmem.2 (.inl h1))]
   ·rw [if_neg h1]
    by_cases h2 : id ∈ g.2.2.2.2.1.map (·.1)
    ·rw [if_pos h2,if_pos (hmem.2 (.inr h2))]
    ·rw [if_neg h2,if_neg (fun hm=>(hmem.1 hm).elim h1 h2)]
     unfold gate_Offer.j1
     rw [offer_fresh g (by omega) (by omega),Option.bind_some]
     simp only
     have hf : gate_fits.run (g.1,g.2.1,g.2.2.1,g.2.2.2.1,g.2.2.2.2.1,()) (id,v,ch,g.2.2.1,()) = some (fitsB g (id,v,ch,g.2.2.1,())):=fits_run g (id,v,ch,g.2.2.1,()) (by omega) (by omega) q1 ⟨hb.2.2.1,hb.2.2.2⟩ ⟨hb.1,hb.2.1⟩
     rw [hf,Option.bind_some]
     by_cases hfit : fitsB g (id,v,ch,g.2.2.1,()) = true
     ·rw [if_pos hfit,if_pos hfit,if_pos (fitB_small (by omega) (by omega))]
     ·rw [if_neg hfit,if_neg hfit]
      by_cases h40 : 40 <= g.2.2.2.2.1.length
      ·rw [if_pos (by rw [beq_iff_eq]; omega),if_pos h40]
      ·rw [if_neg (by rw [beq_iff_eq]; omega),if_neg h40,if_pos (fitB_small (by omega) (by omega))]
  ·rw [if_pos,if_pos hb]
   rw [cond_or,cond_or]
   simp only [Bool.or_eq_true,decide_eq_true_eq,Bool.not_eq_true']
   rw [<- Bool.not_eq_true,vl_iff]
   omega
 ·rw [if_pos (by simpa using he),if_pos he]
theorem offered_run (g : GateD) (id v ch : Int) : basculeref_Offered.run g id v ch = some (offerR g id v ch):=by
 unfold basculeref_Offered.run basculeref_Offered.top offerR
 rw [gate_fault,Option.bind_some]
 by_cases he : gateE g = 0
 ·obtain ⟨k1,k2,k3⟩:=gateE_ok he
  obtain ⟨n0,n1,q1,q2⟩:=gateGood_parts k3
  rw [he,if_neg (show ¬ (((0 : Int) != 0) = true) by decide),if_neg (show ¬ ((0 : Int) ≠ 0) by simp),upTo_run,upTo_run,Option.bind_some]
  have hg2 : (if (not (decide (0 <= v) && decide (v <= 1073741824)) == false) = true then some (decide (0 <= ch) && decide (ch <= 2)) else some false) = some ((decide (0 <= v) && decide (v <= 1073741824)) && (decide (0 <= ch) && decide (ch <= 2))):=by
   cases (decide (0 <= v) && decide (v <= 1073741824)) <;> rfl
  rw [hg2,Option.bind_some]
  by_cases hb : 0 <= v /\ v <= 1073741824 /\ 0 <= ch /\ ch <= 2
  ·rw [decide_eq_true hb.1,decide_eq_true hb.2.1,decide_eq_true hb.2.2.1,decide_eq_true hb.2.2.2,if_neg (by decide),if_neg (show ¬ ¬ (0 <= v /\ v <= 1073741824 /\ 0 <= ch /\ ch <= 2) from fun h=>h hb),if_pos (fitB_small (by omega) (by omega)),if_pos (fitB_small (by omega) (by omega))]
   have:=offerF_inner (fun a b c=>some (c,a,b,())) (fun d e f c4 i j k=>basculeref_Offered.j0 (fun a b c=>some (c,a,b,())) d e f c4 i j k) fuel id v ch g [0,0,0] [0,0,0] 0 (g.2.2.2.1 ++ g.2.2.2.2.1) (by simp; omega) (g.2.2.2.1 ++ g.2.2.2.2.1) [] fuel (by rw [fuel_big]; simp; omega) rfl
   refine Eq.trans this ?_
   rw [show (g.2.2.2.1 ++ g.2.2.2.2.1).map (·.1) = gids g from rfl]
   by_cases hm : id ∈ gids g
   ·rw [if_pos hm,if_pos hm]
   ·rw [if_neg hm,if_neg hm]
    unfold basculeref_Offered.j0
    rw [passes_run g (id,v,ch,g.2.2.1,()) (by omega) (by omega) q1 ⟨hb.2.2.1,hb.2.2.2⟩ ⟨hb.1,hb.2.1⟩,Option.bind_some]
    by_cases hfit : fitsB g (id,v,ch,g.2.2.1,()) = true
    ·rw [if_pos hfit,if_pos hfit,if_pos (fitB_small (by omega) (by omega)),if_pos (fitB_small (by omega) (by omega))]
    ·rw [if_neg hfit,if_neg hfit]
     by_cases h40 : 40 <= g.2.2.2.2.1.length
     ·rw [if_pos (by rw [decide_eq_true_eq]; omega),if_pos h40]
     ·rw [if_neg (by rw [decide_eq_true_eq]; omega),if_neg h40,if_pos (fitB_small (by omega) (by omega)),if_pos (fitB_small (by omega) (by omega))]
  ·have hcnd : (cond (not (decide (0 <= v) && decide (v <= 1073741824))) true (not ((decide (0 <= v) && decide (v <= 1073741824)) && (decide (0 <= ch) && decide (ch <= 2))))) = true:=by
    rw [cond_or]
    simp only [Bool.or_eq_true,Bool.not_eq_true',Bool.and_eq_false_iff,decide_eq_false_iff_not]
    omega
   rw [if_pos hcnd,if_pos hb]
 ·rw [if_pos (by simpa using he),if_pos he]
theorem offerR_len (g : GateD) (id v ch : Int) : (offerR g id v ch).1.2.2.2.1.length <= 80 /\ (offerR g id v ch).1.2.2.2.2.1.length <= 80:=by
 unfold offerR
 by_cases he : gateE g = 0
 ·obtain ⟨k1,k2,k3⟩:=gateE_ok he
  rw [if_neg (by simpa using he)]
  split
  ·exact ⟨by simp,by simp⟩
  ·split
   ·exact ⟨by simp,by simp⟩
   ·split
    ·exact ⟨by simp; omega,by simp; omega⟩
    ·split
     ·exact ⟨by simp,by simp⟩
     ·exact ⟨by simp; omega,by simp; omega⟩
 ·rw [if_pos he]; exact ⟨by simp,by simp⟩
end Go.Bx
namespace Go.Bx
open Go
set_option linter.unusedSimpArgs false
set_option linter.unusedVariables false
theorem cmp_eq (a b c d a' b' c' d' : Int) : wide_Cmp.run [a,b,c,d] [a',b',c',d'] =
  if decide (d < d') = true then some (-1) else if decide (d > d') = true then some 1 else
  if decide (c < c') = true then some (-1) else if decide (c > c') = true then some 1 else
  if decide (b < b') = true then some (-1) else if decide (b > b') = true then some 1 else
  if decide (a < a') = true then some (-1) else if decide (a > a') = true then some 1 else some 0:=by kernel_rfl
theorem wide_cmp {l m : List Int} (hl : l.length = 4) (hm : m.length = 4) (dl : digs B64 l) (dm : digs B64 m) :
  wide_Cmp.run l m = some (if val B64 l < val B64 m then -1 else if val B64 l > val B64 m then 1 else 0):=by
 obtain ⟨a,b,c,d,rfl⟩:=four_of_len hl
 obtain ⟨a',b',c',d',rfl⟩:=four_of_len hm
 have h1:=dl a (by simp)
 have h2:=dl b (by simp)
 have h3:=dl c (by simp)
 have h4:=dl d (by simp)
 have g1:=dm a' (by simp)
 have g2:=dm b' (by simp)
 have g3:=dm c' (by simp)
 have g4:=dm d' (by simp)
 rw [cmp_eq]
 simp only [decide_eq_true_eq]
 by_cases c1 : val B64 [a,b,c,d] < val B64 [a',b',c',d']
 ·rw [if_pos c1]
  simp only [val,B64] at c1 h1 h2 h3 h4 g1 g2 g3 g4
  repeat' split
  all_goals first | rfl | (exfalso; omega)
 ·rw [if_neg c1]
  by_cases c2 : val B64 [a,b,c,d] > val B64 [a',b',c',d']
  ·rw [if_pos c2]
   simp only [val,B64] at c1 c2 h1 h2 h3 h4 g1 g2 g3 g4
   repeat' split
   all_goals first | rfl | (exfalso; omega)
  ·rw [if_neg c2]
   simp only [val,B64] at c1 c2 h1 h2 h3 h4 g1 g2 g3 g4
   repeat' split
   all_goals first | rfl | (exfalso; omega)
end Go.Bx
