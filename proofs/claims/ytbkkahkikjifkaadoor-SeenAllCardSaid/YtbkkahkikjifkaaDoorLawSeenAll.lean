/- A part of a framework that reads Go code as functions of plain data; or a law about such functions. -/
import Derived.Test.YtbkkahkikjifkaaDoorLawLowBit
import Derived.Test.YtbkkahkikjifkaaDoorLawSameInts
import Derived.Test.YtbkkahkikjifkaaDoorLawAt
import Derived.Test.YtbkkahkikjifkaaDoorFnSeenAll0
namespace Go.Bx
open Go
set_option linter.unusedSimpArgs false
set_option linter.unusedVariables false
def pg (w : List Nat) : List Int:=w.map fun (x : Nat)=>(x : Int)
def Page (w : List Nat) : Prop:=w.length = 4 /\ ∀ i,w.getD i 0 < 18446744073709551616
theorem pg_getD (w : List Nat) (i : Nat) : (pg w).getD i 0 = ((w.getD i 0 : Nat) : Int):=by
 unfold pg
 rw [List.getD_eq_getElem?_getD,List.getD_eq_getElem?_getD,List.getElem?_map]
 cases w[i]? <;> rfl
theorem pageBit_pg {w : List Nat} (h : Page w) (n : Nat) : pageBit (pg w) n = (w.getD (n / 64) 0).testBit (n % 64):=by
 have hm : n % 64 < 64:=Nat.mod_lt _ (by decide)
 unfold pageBit
 rw [pg_getD,shl1_nat hm,band_nat (h.2 _) (two_pow_lt hm),<- and_pow_ne]
 generalize w.getD (n / 64) 0 &&& 2 ^ (n % 64) = Z
 cases hh : (Z != 0) <;> simp at hh ⊢ <;> omega
theorem marks_part {w : List Nat} (h : Page w) (i : Nat) : ((List.range' (64 * i) 64).filter (pageBit (pg w))).map (fun (j : Nat)=>(j : Int)) = (((List.range' 0 64).filter (w.getD i 0).testBit).map fun k=>((64 * i + k : Nat) : Int)):=by
 have e : List.range' (64 * i) 64 = (List.range' 0 64).map fun k=>64 * i + k:=by
  rw [List.map_add_range']; simp
 rw [e,List.filter_map,List.map_map]
 have : (List.range' 0 64).filter (pageBit (pg w) ∘ fun k=>64 * i + k) = (List.range' 0 64).filter (w.getD i 0).testBit:=by
  apply List.filter_congr
  intro k hk
  have hk:=(List.mem_range'_1.1 hk).2
  show pageBit (pg w) (64 * i + k) = _
  rw [pageBit_pg h,show (64 * i + k) / 64 = i by omega,show (64 * i + k) % 64 = k by omega]
 rw [this]
 rfl
theorem all_run {w : List Nat} (h : Page w) : seen_All.run (pg w) = some (marksL (pg w) 0 256):=by
 have o : ∀ i,i < 4->seen_All.outsK seen_All.tv ((64 * i : Nat) : Int) 64 ((pg w).getD i 0) = some (((List.range' (64 * i) 64).filter (pageBit (pg w))).map (fun (j : Nat)=>(j : Int))):=fun i hi=>by
  rw [pg_getD,marks_part h]
  exact outs_bits (64 * i) (by omega) 64 0 _ 64 (by omega) (h.2 i) (by simp [Nat.mod_one]) (by omega)
 have o0:=o 0 (by omega)
 have o1:=o 1 (by omega)
 have o2:=o 2 (by omega)
 have o3:=o 3 (by omega)
 have e : marksL (pg w) 0 256 = ((List.range' (64 * 0) 64).filter (pageBit (pg w))).map (fun (j : Nat)=>(j : Int)) ++ ((List.range' (64 * 1) 64).filter (pageBit (pg w))).map (fun (j : Nat)=>(j : Int)) ++ ((List.range' (64 * 2) 64).filter (pageBit (pg w))).map (fun (j : Nat)=>(j : Int)) ++ ((List.range' (64 * 3) 64).filter (pageBit (pg w))).map (fun (j : Nat)=>(j : Int)):=by
  unfold marksL
  have : List.range' 0 256 = List.range' (64 * 0) 64 ++ List.range' (64 * 1) 64 ++ List.range' (64 * 2) 64 ++ List.range' (64 * 3) 64:=by decide +kernel
  rw [this]
  simp only [List.filter_append,List.map_append]
 unfold seen_All.run
 rw [show (0 : Int) = ((64 * 0 : Nat) : Int) from rfl] at *
 have o0' : seen_All.outsK seen_All.tv ((64 * 0 : Nat) : Int) 64 ((pg w).getD 0 ((64 * 0 : Nat) : Int)) = _:=o0
 rw [o0',show (64 : Int) = ((64 * 1 : Nat) : Int) from rfl,show (128 : Int) = ((64 * 2 : Nat) : Int) from rfl,show (192 : Int) = ((64 * 3 : Nat) : Int) from rfl,o1,o2,o3]
 simp only []
 rw [<- e,if_pos (Nat.le_trans (marksL_len _ _ _) (by omega))]
def stp (w : List Nat) (n : Nat) : List Nat:=w.set (n / 64) (w.getD (n / 64) 0 ||| 2 ^ (n % 64))
theorem getD_set {w : List Nat} {i j v : Nat} (h : i < w.length) : (w.set i v).getD j 0 = if i = j then v else w.getD j 0:=by
 rw [List.getD_eq_getElem?_getD,List.getD_eq_getElem?_getD,List.getElem?_set]
 by_cases e : i = j
 ·rw [if_pos e,if_pos e,if_pos h]; rfl
 ·rw [if_neg e,if_neg e]
theorem stp_page {w : List Nat} (h : Page w) (n : Nat) (hn : n < 256) : Page (stp w n):=by
 obtain ⟨h1,h2⟩:=h
 refine ⟨by unfold stp; rw [List.length_set]; exact h1,fun i=>?_⟩
 unfold stp
 rw [getD_set (by omega)]
 split
 ·have:=Nat.or_lt_two_pow (n:=64) (h2 (n / 64)) (two_pow_lt (Nat.mod_lt n (show 0 < 64 by decide)))
  simpa using this
 ·exact h2 i
theorem stp_bit {w : List Nat} (h : Page w) (n i k : Nat) (hn : n < 256) (hi : i < 4) (hk : k < 64) : ((stp w n).getD i 0).testBit k = ((w.getD i 0).testBit k || decide (n = 64 * i + k)):=by
 unfold stp
 rw [getD_set (by rw [h.1]; omega)]
 by_cases e : n / 64 = i
 ·rw [if_pos e,e,Nat.testBit_or,Nat.testBit_two_pow]
  congr 1
  rw [decide_eq_decide]; omega
 ·rw [if_neg e,show decide (n = 64 * i + k) = false by rw [decide_eq_false_iff_not]; omega,Bool.or_false]
theorem fold_bit : ∀ (l : List Nat) (w : List Nat),Page w->(∀ n ∈ l,n < 256)->Page (l.foldl stp w) /\ ∀ i k,i < 4->k < 64->((l.foldl stp w).getD i 0).testBit k = ((w.getD i 0).testBit k || decide (64 * i + k ∈ l))
 | [],w,h,_=>⟨h,fun i k _ _=>by simp⟩
 | n :: l,w,h,hl=>by
  obtain ⟨h1,h2⟩:=fold_bit l (stp w n) (stp_page h n (hl n (by simp))) (fun m hm=>hl m (by simp [hm]))
  refine ⟨h1,fun i k hi hk=>?_⟩
  rw [List.foldl_cons,h2 i k hi hk,stp_bit h n i k (hl n (by simp)) hi hk,Bool.or_assoc]
  congr 1
  rw [Bool.eq_iff_iff]
  simp only [Bool.or_eq_true,decide_eq_true_eq,List.mem_cons]
  constructor
  ·rintro (h | h)
   ·exact .inl h.symm
   ·exact .inr h
  ·rintro (h | h)
   ·exact .inl h.symm
   ·exact .inr h
theorem marked_too {w : List Nat} (h : Page w) (n : Nat) (hn : n < 256) (hb : pageBit (pg w) n = false) : basculeref_MarkedToo.run (pg w) (n : Int) = some (pg (stp w n),0,()):=by
 unfold basculeref_MarkedToo.run basculeref_MarkedToo.top
 rw [ref_marked,if_pos (by omega),Option.bind_some]
 simp only []
 rw [show ((n : Int)).toNat = n from rfl,hb]
 have e1 : IntKind.i64.wrap (Int.tdiv (n : Int) 64) = ((n / 64 : Nat) : Int):=i64_tdiv (c:=64) (by omega)
 have e2 : Int.tmod (n : Int) 64 = ((n % 64 : Nat) : Int):=tmod_nat n 64
 have hm : n % 64 < 64:=Nat.mod_lt _ (by decide)
 rw [e1,e2,if_neg (by simp),if_neg (by simp),if_pos (by omega),if_pos (by omega),if_pos (by omega),toNat_nat,pg_getD]
 have hx : inR .u64 ((w.getD (n / 64) 0 : Nat) : Int) = true:=by
  rw [inR_u64]; have:=h.2 (n / 64); omega
 unfold pageBit at hb
 rw [pg_getD] at hb
 rw [or_add64 hx hm hb,shl1_nat hm,bor_nat (h.2 _) (two_pow_lt hm)]
 unfold stp pg
 rw [List.map_set]
theorem stp_same {w : List Nat} (h : Page w) (n : Nat) (hn : n < 256) (hb : pageBit (pg w) n = true) : stp w n = w:=by
 rw [pageBit_pg h] at hb
 unfold stp
 have : w.getD (n / 64) 0 ||| 2 ^ (n % 64) = w.getD (n / 64) 0:=by
  apply Nat.eq_of_testBit_eq
  intro i
  rw [Nat.testBit_or,Nat.testBit_two_pow]
  by_cases e : n % 64 = i
  ·rw [<- e,hb]; simp
  ·simp [e]
 rw [this]
 apply List.ext_getElem (by simp)
 intro i h1 h2
 rw [List.getElem_set]
 split
 ·rename_i e
  subst e
  rw [List.getD_eq_getElem?_getD,List.getElem?_eq_getElem h2]; rfl
 ·rfl
theorem union_loop {α : Type} (Xt : List Int->List Int->Option α) (K : Nat) (c4 : List Int) (ns : List Nat) (hn : ∀ n ∈ ns,n < 256) (hl : ns.length <= 256) : ∀ (R P : List Nat) (n : Nat) (w : List Nat),R.length < n->ns = P ++ R->Page w ->
  basculeref_Union.l0 K Xt n (pg ns) ((pg ns).length : Int) (P.length : Int) (pg w) c4 = Xt (pg (R.foldl stp w)) c4
 | R,P,0,w,h,_,_=>by omega
 | [],P,n + 1,w,h,hc,hw=>by
  simp only [basculeref_Union.l0,basculeref_Union.l0s]
  have : (pg ns).length = P.length:=by rw [hc]; simp [pg]
  rw [if_neg (by rw [decide_eq_true_eq]; omega)]
  rfl
 | m :: R,P,n + 1,w,h,hc,hw=>by
  have hlen : (pg ns).length = P.length + (R.length + 1):=by rw [hc]; simp [pg]
  have hlen2 : ns.length = (pg ns).length:=by simp [pg]
  have hg : (pg ns).getD P.length 0 = (m : Int):=by
   rw [pg_getD,hc,getD_at]
  have hm : m < 256:=hn m (by rw [hc]; simp)
  simp only [basculeref_Union.l0,basculeref_Union.l0s]
  rw [if_pos (by rw [decide_eq_true_eq]; omega),if_pos (by omega),toNat_nat,hg,ref_marked,if_pos (by omega),Option.bind_some]
  simp only [basculeref_Union.j0]
  rw [i64_succ (by omega),show ((m : Int)).toNat = m from rfl]
  have ih:=fun w hw=>union_loop Xt K c4 ns hn hl R (P ++ [m]) n w (by simpa using h) (by simp [hc]) hw
  rw [List.length_append] at ih
  rw [List.foldl_cons]
  cases hb : pageBit (pg w) m with
  | true =>
   rw [if_neg (by decide),stp_same hw m hm hb]
   exact ih w hw
  | false =>
   rw [if_pos (by decide),marked_too hw m hm hb,Option.bind_some]
   exact ih (stp w m) (stp_page hw m hm)
theorem both_four (a b c d a' b' c' d' : Int) : seen_Both.run [a,b,c,d] [a',b',c',d'] = some [bor .u64 a a',bor .u64 b b',bor .u64 c c',bor .u64 d d']:=by kernel_rfl
theorem page_four {w : List Nat} (h : Page w) : w = [w.getD 0 0,w.getD 1 0,w.getD 2 0,w.getD 3 0]:=by
 have h1:=h.1
 match w,h1 with
 | [a,b,c,d],_=>rfl
theorem page_of {x : List Int} (h1 : x.length = 4) (h2 : ∀ y ∈ x,inR .u64 y = true) : ∃ w,Page w /\ x = pg w:=by
 refine ⟨x.map Int.toNat,⟨by simpa using h1,fun i=>?_⟩,?_⟩
 ·rw [List.getD_eq_getElem?_getD,List.getElem?_map]
  cases hx : x[i]? with
  | none=>simp
  | some y =>
   have:=inR_u64.1 (h2 y (List.mem_of_getElem? hx))
   show y.toNat < _
   omega
 ·have : ∀ l : List Int,(∀ y ∈ l,inR .u64 y = true)->pg (l.map Int.toNat) = l:=by
   intro l
   induction l with
   | nil=>intro _; rfl
   | cons a l ih =>
    intro hl
    have ha:=inR_u64.1 (hl a (by simp))
    have e : ((a.toNat : Nat) : Int) = a:=by omega
    show ((a.toNat : Nat) : Int) :: pg (l.map Int.toNat) = a :: l
    rw [e,ih fun y hy=>hl y (by simp [hy])]
  exact (this x h2).symm
theorem seen_all {p q : List Nat} (hp : Page p) (hq : Page q) : basculelaw_SeenAll.run (pg p) (pg q) = some true:=by
 have hns : ∀ n ∈ (List.range' 0 256).filter (pageBit (pg q)),n < 256:=fun n hn=>by
  have:=(List.mem_range'_1.1 (List.mem_filter.1 hn).1).2
  omega
 have hlen : ((List.range' 0 256).filter (pageBit (pg q))).length <= 256:=Nat.le_trans (List.length_filter_le _ _) (by simp)
 obtain ⟨f1,f2⟩:=fold_bit ((List.range' 0 256).filter (pageBit (pg q))) p hp hns
 have hu : basculeref_Union.run (pg p) (pg q) = some (pg (((List.range' 0 256).filter (pageBit (pg q))).foldl stp p)):=by
  unfold basculeref_Union.run basculeref_Union.top
  rw [marks_run,Option.bind_some]
  exact union_loop (fun c2 c4=>basculeref_Union.j1 (fun c4=>some c4) c2 c4) fuel [0,0,0,0] ((List.range' 0 256).filter (pageBit (pg q))) hns hlen ((List.range' 0 256).filter (pageBit (pg q))) [] fuel p (by rw [fuel_big]; omega) rfl hp
 have hword : ∀ i,i < 4->(((List.range' 0 256).filter (pageBit (pg q))).foldl stp p).getD i 0 = p.getD i 0 ||| q.getD i 0:=fun i hi=>by
  have ho:=Nat.or_lt_two_pow (n:=64) (hp.2 i) (hq.2 i)
  apply Nat.eq_of_testBit_eq
  intro k
  by_cases hk : k < 64
  ·rw [f2 i k hi hk,Nat.testBit_or]
   congr 1
   rw [Bool.eq_iff_iff,decide_eq_true_eq,List.mem_filter,List.mem_range'_1,pageBit_pg hq,show (64 * i + k) / 64 = i by omega,show (64 * i + k) % 64 = k by omega]
   constructor
   ·exact fun h=>h.2
   ·exact fun h=>⟨by omega,h⟩
  ·have b1 : ∀ Z,Z < 18446744073709551616->Z.testBit k = false:=fun Z hZ=>Nat.testBit_lt_two_pow (Nat.lt_of_lt_of_le (show Z < 2 ^ 64 from hZ) (Nat.pow_le_pow_right (by omega) (by omega)))
   rw [b1 _ (f1.2 i),b1 _ (by simpa using ho)]
 have hb : seen_Both.run (pg p) (pg q) = some (pg (((List.range' 0 256).filter (pageBit (pg q))).foldl stp p)):=by
  rw [page_four f1,hword 0 (by omega),hword 1 (by omega),hword 2 (by omega),hword 3 (by omega)]
  have e1 : pg p = [((p.getD 0 0 : Nat) : Int),((p.getD 1 0 : Nat) : Int),((p.getD 2 0 : Nat) : Int),((p.getD 3 0 : Nat) : Int)]:=by
   conv=>lhs; rw [page_four hp]
   rfl
  have e2 : pg q = [((q.getD 0 0 : Nat) : Int),((q.getD 1 0 : Nat) : Int),((q.getD 2 0 : Nat) : Int),((q.getD 3 0 : Nat) : Int)]:=by
   conv=>lhs; rw [page_four hq]
   rfl
  rw [e1,e2,both_four,bor_nat (hp.2 0) (hq.2 0),bor_nat (hp.2 1) (hq.2 1),bor_nat (hp.2 2) (hq.2 2),bor_nat (hp.2 3) (hq.2 3)]
  rfl
 unfold basculelaw_SeenAll.run basculelaw_SeenAll.top
 rw [all_run hp,Option.bind_some,hb,Option.bind_some,marks_run,Option.bind_some,hu,Option.bind_some,sameInts_refl _ (Nat.le_trans (marksL_len _ _ _) (by omega)),Option.bind_some]
 rw [beqD_refl _ _ rfl]
 rfl
theorem law_SeenAll (x : basculelaw_SeenAll.F.ps.den) (h : Fit reachK basculelaw_SeenAll.F.ps x) : basculelaw_SeenAll.run x.1 x.2.1 = some true:=by
 obtain ⟨⟨a1,a2⟩,⟨b1,b2⟩,_⟩:=h
 obtain ⟨p,hp,e1⟩:=page_of a1 a2
 obtain ⟨q,hq,e2⟩:=page_of b1 b2
 rw [e1,e2]
 exact seen_all hp hq
end Go.Bx
