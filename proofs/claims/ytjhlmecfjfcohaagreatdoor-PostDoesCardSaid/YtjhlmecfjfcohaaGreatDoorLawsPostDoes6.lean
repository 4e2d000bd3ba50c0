/- Laws about functions of plain data, in plain Lean. -/
import Derived.Test.YtjhlmecfjfcohaaGreatDoorLawsPostDoes1
import Derived.Test.YtjhlmecfjfcohaaGreatDoorFnPostDoes1
import Derived.Test.YtjhlmecfjfcohaaGreatDoorLawsPostDoes0
import Derived.Test.YtjhlmecfjfcohaaGreatDoorLawsPostDoes2
import Derived.Test.YtjhlmecfjfcohaaGreatDoorLawsPostDoes5
import Derived.Test.YtjhlmecfjfcohaaGreatDoorFnPostDoes0
open Int (tdiv tmod toNat)
open List (drop_zero getElem_mem length_set range' replicate)
open Option (bind_some)
set_option maxRecDepth 100000
set_option linter.unusedVariables false
set_option linter.unusedSimpArgs false
namespace Go.Bx
open Go
theorem Fu {x : Int} (h : 0 <= x /\ x < 18446744073709551616) : fh .u64 x 32 = x / 4294967296:=by
 unfold fh
 have h1 : min (32 : Int).toNat IntKind.u64.bits = 32:=rfl
 grind
theorem Gu {x : Int} (h : 0 <= x /\ x < 18446744073709551616) : cF .u64 x 4294967295 = x % 4294967296:=by
 obtain ⟨X,rfl⟩ : ∃ X : Nat,x = (X : Int):=⟨x.toNat,by omega⟩
 have:=jv (X:=X) (Y:=4294967295) (by omega) (by decide)
 have e : ((4294967295 : Nat) : Int) = 4294967295:=rfl
 rw [e] at this
 rw [this]
 have h2 : X &&& 4294967295 = X % 4294967296:=Nat.and_two_pow_sub_one_eq_mod X 32
 rw [h2]; rfl
theorem JQ {x y : Int} (hx : 0 <= x /\ x < 18446744073709551616) (hy : 0 <= y /\ y < 18446744073709551616) :
  ∃ hi lo,iA.run x y = some (hi,lo,()) /\ (0 <= hi /\ hi < 18446744073709551616) /\ (0 <= lo /\ lo < 18446744073709551616) /\ hi * 18446744073709551616 + lo = x * y:=by
 have hx0 : 0 <= x % 4294967296 /\ x % 4294967296 < 4294967296:=by omega
 have hx1 : 0 <= x / 4294967296 /\ x / 4294967296 < 4294967296:=by omega
 have hy0 : 0 <= y % 4294967296 /\ y % 4294967296 < 4294967296:=by omega
 have hy1 : 0 <= y / 4294967296 /\ y / 4294967296 < 4294967296:=by omega
 have p00:=pw hx0 hy0
 have p01:=pw hx0 hy1
 have p10:=pw hx1 hy0
 have p11:=pw hx1 hy1
 have exy : x * y = (x / 4294967296) * (y / 4294967296) * 18446744073709551616 + ((x / 4294967296) * (y % 4294967296) + (x % 4294967296) * (y / 4294967296)) * 4294967296 + (x % 4294967296) * (y % 4294967296):=by
  grind
 unfold iA.run iA.top
 rw [Fu hx,Fu hy,Gu hx,Gu hy,exy]
 generalize (x / 4294967296) * (y / 4294967296) = P11 at p11 ⊢
 generalize (x / 4294967296) * (y % 4294967296) = P10 at p10 ⊢
 generalize (x % 4294967296) * (y / 4294967296) = P01 at p01 ⊢
 generalize (x % 4294967296) * (y % 4294967296) = P00 at p00 ⊢
 rw [aV (x:=P00) (by omega) (by omega),Fu (x:=P00) (by omega),aV (x:=P10) (by omega) (by omega),aV (x:=P01) (by omega) (by omega),aV (x:=P11) (by omega) (by omega),
  aV (x:=P10 + P00 / 4294967296) (by omega) (by omega),Gu (x:=P10 + P00 / 4294967296) (by omega),Fu (x:=P10 + P00 / 4294967296) (by omega),
  aV (x:=(P10 + P00 / 4294967296) % 4294967296 + P01) (by omega) (by omega),Fu (x:=(P10 + P00 / 4294967296) % 4294967296 + P01) (by omega),
  aV (x:=P11 + (P10 + P00 / 4294967296) / 4294967296) (by omega) (by omega),aV (x:=P11 + (P10 + P00 / 4294967296) / 4294967296 + ((P10 + P00 / 4294967296) % 4294967296 + P01) / 4294967296) (by omega) (by omega),m8]
 refine ⟨_,_,rfl,by omega,by omega,by omega⟩
theorem MV {x y : Int} (hx : 0 <= x /\ x < 18446744073709551616) (hy : 0 <= y /\ y < 18446744073709551616) : 0 <= x * y /\ x * y <= 340282366920938463426481119284349108225:=by
 refine ⟨Int.mul_nonneg hx.1 hy.1,?_⟩
 have:=Int.mul_le_mul (show x <= 18446744073709551615 by omega) (show y <= 18446744073709551615 by omega) hy.1 (by omega)
 omega
theorem Ce {α : Type} (k : Nat) (Xt : Int->Int->List Int->Int->List Int->List Int->List Int->List Int->Option α) (b : List Int) (hb : aN ah b) (hbl : b.length = 4) (i : Nat) (hi : i < 4) (x : Int) (hx : 0 <= x /\ x < 18446744073709551616) (x15 : List Int) (x16 : Int) (c3 c4 c5 z : List Int) :
  ∀ (n j : Nat) (A t : List Int) (cy : Int),A.length = i + j->t.length = 4 - j->j <= 4->4 - j < n->(A ++ (t ++ z)).length = 8->aN ah t->(0 <= cy /\ cy < 18446744073709551616) ->
  ∃ r cy',eC.l1 k Xt n (i : Int) x cy x15 x16 b (j : Int) c3 c4 c5 (A ++ (t ++ z)) = Xt (i : Int) cy' x15 x16 c3 c4 c5 (A ++ (r ++ z)) /\ r.length = t.length /\ aN ah r /\ (0 <= cy' /\ cy' < 18446744073709551616) /\ val ah r + ah ^ t.length * cy' = val ah t + x * val ah (b.drop j) + cy
 | 0,j,A,t,cy,_,_,_,h,_,_,_=>by omega
 | n + 1,j,A,t,cy,hA,ht,hj,h,h8,hd,hc=>by
  by_cases hlt : j < 4
  ·obtain ⟨t0,t',rfl⟩ : ∃ t0 t',t = t0 :: t':=by
    cases t with
    | nil=>simp at ht; omega
    | cons a l=>exact ⟨a,l,rfl⟩
   obtain ⟨d0,d1⟩:=cU.1 hd
   have dy:=cO dW hb j
   simp only [ah] at d0 dy
   have hP:=MV hx dy
   obtain ⟨hh,lo,m1,m2,m3,m4⟩:=JQ hx dy
   obtain ⟨l2,o2,a1,a2,a3,a4⟩:=l8 m3 d0 (c:=0) (by omega)
   obtain ⟨l3,o3,b1,b2,b3,b4⟩:=l8 a2 hc (c:=0) (by omega)
   have hcy : 0 <= hh + o2 + o3 /\ hh + o2 + o3 < 18446744073709551616:=by omega
   obtain ⟨r,cy',e1,e2,e3,e4,e5⟩:=Ce k Xt b hb hbl i hi x hx x15 x16 c3 c4 c5 z n (j + 1) (A ++ [l3]) t' (hh + o2 + o3) (by simp; omega) (by simp at ht; omega) (by omega) (by omega) (by simp at h8 ⊢; omega) d1 hcy
   refine ⟨l3 :: r,cy',?_,by simp [e2],cU.2 ⟨by simp only [ah]; omega,e3⟩,e4,?_⟩
   ·simp only [eC.l1,eC.me]
    have ew : IntKind.i64.wrap ((i : Int) + (j : Int)) = ((i + j : Nat) : Int):=by
     grind [wrap_i64]
    have eg : (A ++ (t0 :: t' ++ z)).getD (i + j) 0 = t0:=Ea hA
    have es : ∀ v,(A ++ (t0 :: t' ++ z)).set (i + j) v = A ++ [v] ++ (t' ++ z):=fun v=>by
     grind
    rw [if_pos (by simp; omega),if_pos (by omega),ew,ag,ag,m1]
    simp only [bind_some]
    rw [if_pos (by omega),eg,a1]
    simp only [bind_some]
    rw [b1]
    simp only [bind_some]
    rw [if_pos (by omega),es,aG (by omega),aV (x:=hh + o2) (by omega) (by omega),aV (x:=hh + o2 + o3) (by omega) (by omega)]
    rw [e1]
    simp
   ·rw [gR ah b j]
    simp only [val,List.length_cons,Int.pow_succ]
    grind
  ·have ht0 : t = []:=List.eq_nil_of_length_eq_zero (by omega)
   subst ht0
   refine ⟨[],cy,?_,rfl,gP,hc,?_⟩
   ·simp only [eC.l1,eC.me]
    grind
   grind [val]
theorem Bc {α : Type} (k : Nat) (Xt : List Int->List Int->List Int->Option α) (a b : List Int) (ha : aN ah a) (hb : aN ah b) (hal : a.length = 4) (hl : b.length = 4) (hk : 4 < k) (c4 c5 : List Int) :
  ∀ (n i : Nat) (p : List Int),p.length = i + 4->i <= 4->4 - i < n->aN ah p ->
  ∃ r,eC.l0 k Xt n a (i : Int) b c4 c5 (p ++ replicate (4 - i) 0) = Xt c4 c5 r /\ r.length = 8 /\ aN ah r /\ val ah r = val ah p + ah ^ i * (val ah (a.drop i) * val ah b)
 | 0,i,p,_,_,h,_=>by omega
 | n + 1,i,p,hp,hi,h,hd=>by
  by_cases hlt : i < 4
  ·have dx:=cO dW ha i
   simp only [ah] at dx
   have hsplit : p = p.take i ++ p.drop i:=(List.take_append_drop i p).symm
   have hz : replicate (4 - i) (0 : Int) = 0 :: replicate (4 - (i + 1)) 0:=by
    rw [show 4 - i = (4 - (i + 1)) + 1 by omega,List.replicate_succ]
   obtain ⟨r,cy,e1,e2,e3,e4,e5⟩:=Ce k (fun (x7 : Int) (x9 : Int) (x15 : List Int) (x16 : Int) (c3 : List Int) (c4 : List Int) (c5 : List Int) (c6 : List Int)=>eC.j0 (eC.l0 k Xt n) x7 x9 x15 x16 c3 c4 c5 c6) b hb hl i hlt (a.getD i 0) dx a (i : Int) b c4 c5 (replicate (4 - i) 0) k 0 (p.take i) (p.drop i) 0 (by simp; omega) (by simp; omega) (by omega) (by omega) (by simp; omega) (pg hd i) (by omega)
   have hpl : (p.drop i).length = 4:=by simp; omega
   have hnew : (p.take i ++ r ++ [cy]).length = (i + 1) + 4:=by simp; omega
   have dnew : aN ah (p.take i ++ r ++ [cy]):=mo (mo (lV hd i) e3) (cU.2 ⟨by simp only [ah]; omega,gP⟩)
   obtain ⟨r2,f1,f2,f3,f4⟩:=Bc k Xt a b ha hb hal hl hk c4 c5 n (i + 1) (p.take i ++ r ++ [cy]) hnew (by omega) (by omega) dnew
   refine ⟨r2,?_,f2,f3,?_⟩
   ·simp only [eC.l0,eC.bq]
    have ep : p ++ replicate (4 - i) 0 = p.take i ++ (p.drop i ++ replicate (4 - i) 0):=by
     grind
    rw [if_pos (by simp; omega),if_pos (by omega),ag,ep]
    refine Eq.trans e1 ?_
    unfold eC.j0 eC.j1
    have ew : IntKind.i64.wrap ((i : Int) + 4) = ((i + 4 : Nat) : Int):=by
     grind [wrap_i64]
    have hlen2 : (p.take i ++ r).length = i + 4:=by simp; omega
    have es : (p.take i ++ (r ++ replicate (4 - i) 0)).set (i + 4) cy = p.take i ++ r ++ [cy] ++ replicate (4 - (i + 1)) 0:=by
     grind [HE]
    rw [ew,if_pos (by omega),ag,es,aG (by omega)]
    exact f1
   ·rw [f4,gM,gM,show (p.take i ++ r).length = i + 4 by simp; omega]
    rw [gR ah a i]
    have hv : val ah p = val ah (p.take i) + ah ^ i * val ah (p.drop i):=by
     grind [gM]
    rw [hv]
    rw [hpl] at e5
    simp only [val,Int.mul_zero,Int.add_zero,drop_zero] at e5 ⊢
    grind
  ·have hil : i = 4:=by omega
   subst hil
   refine ⟨p,?_,by omega,hd,?_⟩
   ·simp_all [eC.l0,eC.bq]
   grind [val]
theorem CR {l : List Int} (h : l.length = 8) : ∃ a b c d e f g i,l = [a,b,c,d,e,f,g,i]:=by
 match l,h with
 | [a,b,c,d,e,f,g,i],_=>exact ⟨a,b,c,d,e,f,g,i,rfl⟩
theorem DL {l m : List Int} (hl : l.length = 4) (hm : m.length = 4) (dl : aN ah l) (dm : aN ah m) :
  ∃ r s,eC.run l m = some (r,s,()) /\ r.length = 4 /\ s.length = 4 /\ aN ah r /\ aN ah s /\ val ah r + aM * val ah s = val ah l * val ah m:=by
 unfold eC.run eC.top
 have hz : aN ah [0,0,0,0]:=fun d hd=>by
  grind
 have h0:=fun N (hN : 5 < N)=>Bc N (fun (c4 : List Int) (c5 : List Int) (c6 : List Int)=>eC.j2 (fun (c4 : List Int) (c5 : List Int)=>some (c4,c5,())) c4 c5 c6) l m dl dm hl hm (by omega) [0,0,0,0] [0,0,0,0] N 0 [0,0,0,0] rfl (by omega) (by omega) hz
 obtain ⟨r,e1,e2,e3,e4⟩:=h0 fuel (by rw [au]; omega)
 obtain ⟨a,b,c,d,e,f,g,i,rfl⟩:=CR e2
 refine ⟨[a,b,c,d],[e,f,g,i],e1,rfl,rfl,lV e3 4,pg e3 4,?_⟩
 simp only [drop_zero] at e4
 have ez : val ah [0,0,0,0] = 0:=rfl
 rw [ez,Int.pow_zero,Int.one_mul,Int.zero_add] at e4
 rw [<- e4]
 simp only [val,ah,aM]
 omega
def dec : Int->List Int->Int
 | v,[]=>v
 | v,c :: l=>dec (v * 10 + (c - 48)) l
def ub (c : Int) : Bool:=decide (48 <= c /\ c <= 57)
def mR (l : List Int) : Bool:=l.all ub
theorem MY (c : Int) : cond (decide (c < 48)) true (decide (c > 57)) = !(ub c):=by
 unfold ub
 grind
theorem Z4 : aN ah [0,0,0,0] /\ val ah [0,0,0,0] = 0:=⟨fun d hd=>by
  simp only [List.mem_cons,List.not_mem_nil,or_false] at hd
  simp only [ah]; omega,rfl⟩
theorem ML {d : Int} (h : 0 <= d /\ d < 18446744073709551616) : aN ah [d,0,0,0] /\ val ah [d,0,0,0] = d:=by
 constructor
 ·intro x hx
  grind
 ·simp [val]
theorem E6 {d : Int} (h : 0 <= d /\ d < 4294967296) : aN bM [d] /\ val bM [d] = d :=
 ⟨cU.2 ⟨h,gP⟩,by simp [val]⟩
theorem Jw {c : Int} (h : ub c = true) : IntKind.u64.wrap (IntKind.u8.wrap (c - 48)) = c - 48:=by
 unfold ub at h
 rw [decide_eq_true_eq] at h
 grind [wrap_u8,aV]
theorem sJ {α : Type} (k : Nat) (Rt : Int->List Int->Option α) (Xt : List Int->List Int->Option α) (s : List Int) (hs : s.length <= 78) (c2 : List Int) : ∀ (n i : Nat) (x : List Int),i <= s.length->s.length - i < n->aN bM x->x.length <= 3 * i ->
  (mR (s.drop i) = true->∃ r,bn.l0 k Rt Xt n s x (i : Int) c2 = Xt r c2 /\ aN bM r /\ r.length <= 300 /\ val bM r = dec (val bM x) (s.drop i)) /\
  (mR (s.drop i) = false->bn.l0 k Rt Xt n s x (i : Int) c2 = Rt 3 [0,0,0,0])
 | 0,i,x,_,h,_,_=>by omega
 | n + 1,i,x,hi,h,hd,hx=>by
  by_cases hlt : i < s.length
  ·have hdrop : s.drop i = s[i] :: s.drop (i + 1):=List.drop_eq_getElem_cons hlt
   have hg : s.getD i 0 = s[i]:=getD_eq hlt
   rw [hdrop]
   have hall : mR (s[i] :: s.drop (i + 1)) = (ub s[i] && mR (s.drop (i + 1))):=by unfold mR; rw [List.all_cons]
   rw [hall]
   have hc1 : (decide (0 <= (i : Int) /\ (i : Int) < (s.length : Int)) || !((decide (s[i] < 48)) == false)) = true:=by
    grind
   cases hdig : ub s[i] with
   | false =>
    refine ⟨fun h=>by simp at h,fun _=>?_⟩
    simp only [bn.l0,bn.bq]
    rw [if_pos (dT (by omega)),if_pos (by omega),ag,hg,hc1]
    simp only [cond_true]
    rw [if_pos (by rw [MY,hdig]; rfl)]
   | true =>
    have hd10:=E6 (d:=10) (by omega)
    obtain ⟨t,t1,t2,t3,t4⟩:=lW hd hd10.1 (by omega) (by simp)
    have hdv : 0 <= s[i] - 48 /\ s[i] - 48 < 4294967296:=by unfold ub at hdig; rw [decide_eq_true_eq] at hdig; omega
    have hdd:=E6 hdv
    obtain ⟨p,p1,p2,p3,p4⟩:=mK t3 hdd.1 (by simp at t2; omega) (by simp)
    obtain ⟨q,q1,q2,q3,q4,q5⟩:=rY (by simp at t2 p2; omega) p3
    have step : bn.l0 k Rt Xt (n + 1) s x (i : Int) c2 = bn.l0 k Rt Xt n s q ((i + 1 : Nat) : Int) c2:=by
     simp only [bn.l0,bn.bq]
     rw [if_pos (dT (by omega)),if_pos (by omega),ag,hg,hc1]
     simp only [cond_true]
     rw [if_neg (by rw [MY,hdig]; simp),t1]
     simp only [bind_some]
     rw [if_pos (by omega),Jw hdig,p1]
     grind [aG]
    have hv : val bM q = val bM x * 10 + (s[i] - 48):=by rw [q4,p4,t4,hd10.2,hdd.2]
    have ih:=sJ k Rt Xt s hs c2 n (i + 1) q (by omega) (by omega) q3 (by simp at t2 p2; omega)
    rw [step]
    simp only [Bool.true_and,dec]
    rw [hv] at ih
    exact ih
  ·have hil : i = s.length:=by omega
   have hdrop : s.drop i = []:=List.drop_eq_nil_of_le (by omega)
   rw [hdrop]
   refine ⟨fun _=>⟨x,?_,hd,by omega,rfl⟩,fun h=>by simp [mR] at h⟩
   simp_all [bn.l0,bn.bq]
def zV (s : List Int) : Int :=
 if s.length > 78 then 1 else if s = [] \/ (s.length > 1 /\ s.getD 0 0 = 48) then 3 else if mR s = true then (if dec 0 s < aM then 0 else 6) else 3
theorem yJ : ∀ (l : List Int) (v : Int),0 <= v->mR l = true->0 <= dec v l
 | [],v,hv,_=>hv
 | c :: l,v,hv,h=>by
  simp only [mR,List.all_cons,Bool.and_eq_true] at h
  have hc:=h.1
  unfold ub at hc
  rw [decide_eq_true_eq] at hc
  exact yJ l _ (by omega) h.2
theorem J9 (s : List Int) : ∃ w,bn.run s = some (w,zV s,()) /\ w.length = 4 /\ aN ah w /\ val ah w = if zV s = 0 then dec 0 s else 0:=by
 unfold bn.run bn.top zV
 by_cases c1 : s.length > 78
 ·rw [if_pos (dT (by omega)),if_pos c1]
  exact ⟨_,rfl,rfl,Z4.1,by simp [val]⟩
 ·rw [if_neg (dF (by omega)),if_neg c1]
  have hb : (decide (0 <= (0 : Int) /\ (0 : Int) < (s.length : Int)) || !((ax .str s []) == false)) = true:=by
   cases s with
   | nil=>rfl
   | cons a l=>rw [Bool.or_eq_true]; left; rw [decide_eq_true_eq]; simp <;> omega
  rw [hb]
  simp only [cond_true]
  have hcond : (cond (ax .str s []) true (cond ((s.getD 0 0) == 48) (not (ax .str s [48])) false)) = decide (s = [] \/ (s.length > 1 /\ s.getD 0 0 = 48)):=by
   rw [Bool.eq_iff_iff,decide_eq_true_eq]
   match s with
   | []=>simp [ax]
   | [a]=>by_cases ha : a = 48 <;> simp [ax,List.getD,ha]
   | a :: b :: l=>by_cases ha : a = 48 <;> simp [ax,List.getD,ha]
  rw [hcond]
  by_cases c2 : s = [] \/ (s.length > 1 /\ s.getD 0 0 = 48)
  ·rw [if_pos (by simpa using c2),if_pos c2]
   exact ⟨_,rfl,rfl,Z4.1,by simp [val]⟩
  ·rw [if_neg (by simpa using c2),if_neg c2]
   have:=fun N (hN : s.length < N)=>sJ N (fun (x3 : Int) (c2 : List Int)=>some (c2,x3,())) (fun (x4 : List Int) (c2 : List Int)=>bn.j0 (fun (x3 : Int) (c2 : List Int)=>some (c2,x3,())) x4 c2) s (by omega) [0,0,0,0] N 0 [] (by omega) (by omega) gP (by simp)
   obtain ⟨k1,k2⟩:=this fuel (by rw [au]; omega)
   rw [drop_zero] at k1 k2
   cases hall : mR s with
   | false =>
    refine ⟨[0,0,0,0],Eq.trans (k2 hall) ?_,rfl,Z4.1,?_⟩
    ·rw [if_neg (by simp)]
    ·rw [if_neg (by simp)]; rfl
   | true =>
    obtain ⟨r,r1,r2,r3,r4⟩:=k1 hall
    have hv0 : val bM [] = 0:=rfl
    rw [hv0] at r4
    obtain ⟨w,f,w1,w2,w3,w4,w5⟩:=jQ r2 (by omega)
    rw [r4] at w4
    have w6 : f = true ↔ aM <= dec 0 s:=by rw [<- r4]; exact w5
    have hn:=yJ s 0 (by omega) hall
    rw [if_pos rfl]
    by_cases hlt : dec 0 s < aM
    ·have hf : ¬ f = true:=fun h=>by have:=w6.1 h; omega
     simp only [if_pos hlt]
     refine ⟨w,Eq.trans r1 ?_,w2,w3,?_⟩
     ·unfold bn.j0
      rw [w1]
      simp only [bind_some]
      rw [if_neg hf]
     ·rw [if_pos trivial,w4]
      exact Int.emod_eq_of_lt hn hlt
    ·have hf : f = true:=w6.2 (by omega)
     simp only [if_neg hlt]
     refine ⟨[0,0,0,0],Eq.trans r1 ?_,rfl,Z4.1,rfl⟩
     unfold bn.j0
     rw [w1]
     simp only [bind_some]
     rw [if_pos hf]
def ik : Nat->Int
 | 0=>1
 | n + 1=>ik n * 10
theorem AP : ∀ n,0 < ik n
 | 0=>by decide
 | n + 1=>by have:=AP n; simp only [ik]; omega
theorem Gx {m n : Nat} (h : m <= n) : ik m <= ik n:=by
 induction n with
 | zero =>
  have : m = 0:=by omega
  subst this; exact Int.le_refl _
 | succ n ih =>
  by_cases hm : m = n + 1
  ·subst hm; exact Int.le_refl _
  ·have:=ih (by omega)
   have:=AP n
   simp only [ik]; omega
theorem E7 {n : Nat} (h : n <= 77) : ik n < aM:=by
 have h1:=Gx h
 have h2 : ik 77 = 100000000000000000000000000000000000000000000000000000000000000000000000000000:=rfl
 grind
theorem Fw {α : Type} (k : Nat) (Xt : List Int->List Int->Option α) (m : Nat) (hm : m <= 77) (c2 : List Int) : ∀ (n i : Nat) (x : List Int),i <= m->m - i < n->x.length = 4->aN ah x->val ah x = ik i ->
  ∃ r,kJ.l0 k Xt n (m : Int) (i : Int) c2 x = Xt c2 r /\ r.length = 4 /\ aN ah r /\ val ah r = ik m
 | 0,i,x,_,h,_,_,_=>by omega
 | n + 1,i,x,hi,h,hx,hd,hv=>by
  simp only [kJ.l0,kJ.bq]
  by_cases hlt : i < m
  ·have ten:=ML (d:=10) (by omega)
   obtain ⟨lo,hh,m1,m2,m3,m4,m5,m6⟩:=DL hx (by rfl : [10,0,0,0].length = 4) hd ten.1
   rw [if_pos (dT (by omega)),m1]
   simp only [bind_some]
   rw [aG (by omega)]
   have bl:=eH m2 m4
   have bh:=eH m3 m5
   rw [ten.2,hv] at m6
   have hp:=E7 (show i + 1 <= 77 by omega)
   simp only [ik] at hp
   refine Fw k Xt m hm c2 n (i + 1) lo (by omega) (by omega) m2 m4 ?_
   simp only [ik,aM] at *
   omega
  grind
theorem L7 (x : Int) : ∃ w,kJ.run x = some (w,(if 0 <= x /\ x <= 77 then 0 else 6),()) /\ w.length = 4 /\ aN ah w /\ val ah w = if 0 <= x /\ x <= 77 then ik x.toNat else 0:=by
 unfold kJ.run kJ.top
 by_cases h : 0 <= x /\ x <= 77
 ·obtain ⟨m,rfl⟩ : ∃ m : Nat,x = (m : Int):=⟨x.toNat,by omega⟩
  have h1 : cond (decide ((m : Int) < 0)) true (decide ((m : Int) >= 78)) = false:=by rw [cA]; simp; omega
  rw [h1,if_neg (by simp),if_pos h,if_pos h]
  have one:=ML (d:=1) (by omega)
  have:=fun N (hN : m < N)=>Fw N (fun (c2 : List Int) (c4 : List Int)=>kJ.j0 (fun (x3 : Int) (c2 : List Int)=>some (c2,x3,())) c2 c4) m (by omega) [0,0,0,0] N 0 [1,0,0,0] (by omega) (by omega) rfl one.1 one.2
  obtain ⟨r,r1,r2,r3,r4⟩:=this fuel (by rw [au]; omega)
  exact ⟨r,r1,r2,r3,r4⟩
 ·have h1 : cond (decide (x < 0)) true (decide (x >= 78)) = true:=by rw [cA]; simp; omega
  rw [h1,if_pos rfl,if_neg h,if_neg h]
  exact ⟨_,rfl,rfl,Z4.1,rfl⟩
theorem Cl {α : Type} (k : Nat) (Xt : List Int->List Int->Option α) (m : Nat) (hm : m <= 77) (c2 : List Int) : ∀ (n i : Nat),i <= m->m - i < n ->
  dk.l0 k Xt n (49 :: replicate i 48) (m : Int) (i : Int) c2 = Xt (49 :: replicate m 48) c2
 | 0,i,_,h=>by omega
 | n + 1,i,hi,h=>by
  simp only [dk.l0,dk.bq]
  by_cases hlt : i < m
  ·have e : (49 :: replicate i (48 : Int)) ++ [48] = 49 :: replicate (i + 1) 48:=by
    grind [List.replicate_succ']
   rw [if_pos (dT (by omega)),if_pos (Nat.ble_eq_true_of_le (by simp; omega)),aG (by omega),e]
   exact Cl k Xt m hm c2 n (i + 1) (by omega) (by omega)
  grind
theorem vO : ∀ (n : Nat) (v : Int),dec v (replicate n 48) = v * ik n
 | 0,v=>by simp [dec,ik]
 | n + 1,v=>by
  rw [List.replicate_succ]
  simp only [dec,ik]
  rw [vO n]
  grind
theorem E4 (x : Int) : ∃ w,dk.run x = some (w,(if 0 <= x /\ x <= 77 then 0 else 6),()) /\ w.length = 4 /\ aN ah w /\ val ah w = if 0 <= x /\ x <= 77 then ik x.toNat else 0:=by
 unfold dk.run dk.top
 by_cases h : 0 <= x /\ x <= 77
 ·obtain ⟨m,rfl⟩ : ∃ m : Nat,x = (m : Int):=⟨x.toNat,by omega⟩
  have h1 : cond (decide ((m : Int) < 0)) true (decide ((m : Int) > 77)) = false:=by rw [cA]; simp; omega
  rw [h1,if_neg (by simp),if_pos h,if_pos h]
  have:=fun N (hN : m < N)=>Cl N (fun (x4 : List Int) (c2 : List Int)=>dk.j0 (fun (x3 : Int) (c2 : List Int)=>some (c2,x3,())) x4 c2) m (by omega) [0,0,0,0] N 0 (by omega) (by omega)
  have hrun:=this fuel (by rw [au]; omega)
  obtain ⟨w,w1,w2,w3,w4⟩:=J9 (49 :: replicate m 48)
  have hE : zV (49 :: replicate m 48) = 0:=by
   unfold zV
   have hall : mR (49 :: replicate m 48) = true:=by
    unfold mR
    rw [List.all_eq_true]
    intro c hc
    rcases List.mem_cons.1 hc with rfl | hc
    ·rfl
    ·rw [List.mem_replicate] at hc; rw [hc.2]; rfl
   have hd : dec 0 (49 :: replicate m 48) = ik m:=by
    grind [dec,vO]
   rw [if_neg (by simp; omega),if_neg (by simp [List.getD]),if_pos hall,hd,if_pos (E7 (by omega))]
  have hd : dec 0 (49 :: replicate m 48) = ik m:=by
   grind [dec,vO]
  rw [hE] at w1 w4
  refine ⟨w,Eq.trans hrun ?_,w2,w3,?_⟩
  ·grind [dk.j0]
  grind
 ·have h1 : cond (decide (x < 0)) true (decide (x > 77)) = true:=by rw [cA]; simp; omega
  rw [h1,if_pos rfl,if_neg h,if_neg h]
  exact ⟨_,rfl,rfl,Z4.1,rfl⟩
def je (n : Nat) : Nat:=n - 8
theorem PB {n : Nat} (h : n <= 77) : (if 0 > (IntKind.i64.wrap ((n : Int) - 8)) then 0 else (IntKind.i64.wrap ((n : Int) - 8))) = ((je n : Nat) : Int) /\ (if (IntKind.i64.wrap ((n : Int) - 8)) > 0 then (IntKind.i64.wrap ((n : Int) - 8)) else 0) = ((je n : Nat) : Int):=by
 grind [wrap_i64,je]
theorem zi (x : Int) : ∃ w,iC.run x = some (w,(if 0 <= x /\ x <= 77 then 0 else 6),()) /\ w.length = 4 /\ aN ah w /\ (0 <= x /\ x <= 77->val ah w = ik (je x.toNat)):=by
 unfold iC.run iC.top
 by_cases h : 0 <= x /\ x <= 77
 ·obtain ⟨m,rfl⟩ : ∃ m : Nat,x = (m : Int):=⟨x.toNat,by omega⟩
  have h1 : cond (decide ((m : Int) < 0)) true (decide ((m : Int) >= 78)) = false:=by rw [cA]; simp; omega
  rw [h1,if_neg (by simp),if_pos h,(PB (by omega)).1]
  obtain ⟨w,w1,w2,w3,w4⟩:=L7 ((je m : Nat) : Int)
  have hf : 0 <= ((je m : Nat) : Int) /\ ((je m : Nat) : Int) <= 77:=by unfold je; omega
  grind
 ·have h1 : cond (decide (x < 0)) true (decide (x >= 78)) = true:=by rw [cA]; simp; omega
  rw [h1,if_pos rfl,if_neg h]
  exact ⟨_,rfl,rfl,Z4.1,fun hx=>absurd hx h⟩
def Hv (v : Int) (x : Int) : Int:=if 0 <= x /\ x <= 77 then (if v * ik (je x.toNat) < aM then 0 else 13) else 6
theorem KK {l : List Int} (hl : l.length = 4) (dl : aN ah l) (x : Int) : ∃ w,mu.run l x = some (w,Hv (val ah l) x,()) /\ w.length = 4 /\ aN ah w /\ val ah w = if Hv (val ah l) x = 0 then val ah l * ik (je x.toNat) else 0:=by
 unfold mu.run mu.top Hv
 obtain ⟨f,f1,f2,f3,f4⟩:=zi x
 rw [f1]
 simp only [bind_some]
 by_cases h : 0 <= x /\ x <= 77
 ·simp only [if_pos h]
  rw [if_neg (by simp)]
  obtain ⟨lo,hi,m1,m2,m3,m4,m5,m6⟩:=DL hl f2 dl f3
  rw [m1]
  simp only [bind_some]
  rw [f4 h] at m6
  have bl:=eH m2 m4
  have bh:=eH m3 m5
  have hz : ax (.arr 4 (.int .u64)) hi [0,0,0,0] = decide (val ah l * ik (je x.toNat) < aM):=by
   rw [Bool.eq_iff_iff,decide_eq_true_eq]
   constructor
   ·intro e
    have:=AZ m3 rfl e
    subst this
    have e0 : val ah [0,0,0,0] = 0:=rfl
    grind
   ·intro e
    have : val ah hi = 0:=by simp only [aM] at *; omega
    rw [jD m3 rfl m5 Z4.1 (by rw [this]; rfl)]
    rfl
  rw [hz]
  by_cases hlt : val ah l * ik (je x.toNat) < aM
  ·grind
  ·simp only [if_neg hlt]
   rw [if_pos (by simp [hlt])]
   exact ⟨_,rfl,rfl,Z4.1,rfl⟩
 ·simp only [if_neg h]
  rw [if_pos (by rfl)]
  exact ⟨_,rfl,rfl,Z4.1,rfl⟩
theorem GJ {l : List Int} (hl : l.length = 4) (dl : aN ah l) (x : Int) : ∃ w,eU.run l x = some (w,Hv (val ah l) x,()) /\ w.length = 4 /\ aN ah w /\ val ah w = if Hv (val ah l) x = 0 then val ah l * ik (je x.toNat) else 0:=by
 unfold eU.run eU.top
 by_cases h : 0 <= x /\ x <= 77
 ·obtain ⟨m,rfl⟩ : ∃ m : Nat,x = (m : Int):=⟨x.toNat,by omega⟩
  have h1 : cond (decide ((m : Int) < 0)) true (decide ((m : Int) > 77)) = false:=by rw [cA]; simp; omega
  have hE : Hv (val ah l) (m : Int) = if val ah l * ik (je m) < aM then 0 else 13:=by unfold Hv; rw [if_pos h,Int.toNat_natCast]
  rw [h1,if_neg (by simp),(PB (by omega)).2]
  obtain ⟨f,f1,f2,f3,f4⟩:=E4 ((je m : Nat) : Int)
  have hf : 0 <= ((je m : Nat) : Int) /\ ((je m : Nat) : Int) <= 77:=by unfold je; omega
  rw [if_pos hf] at f1 f4
  rw [Int.toNat_natCast] at f4
  obtain ⟨o1,e1,n1,g1,v1⟩:=fE hl dl
  obtain ⟨o2,e2,n2,g2,v2⟩:=fE f2 f3
  obtain ⟨p,e3,n3,g3,v3⟩:=lW g1 g2 (by omega) (by omega)
  obtain ⟨w,o,e4,n4,g4,v4,f5⟩:=jQ g3 (by omega)
  have hv : val bM p = val ah l * ik (je m):=by rw [v3,v1,v2,f4]
  rw [f1,bind_some,e1,bind_some,e2,bind_some,e3,bind_some,e4,bind_some]
  have f6 : o = true ↔ aM <= val ah l * ik (je m):=hv ▸ f5
  have hn : 0 <= val ah l * ik (je m):=by rw [<- hv]; exact (dL eP g3).1
  rw [hE,Int.toNat_natCast]
  by_cases hlt : val ah l * ik (je m) < aM
  ·grind
  ·simp only [if_neg hlt]
   rw [if_pos (f6.2 (by omega))]
   exact ⟨_,rfl,rfl,Z4.1,rfl⟩
 ·have h1 : cond (decide (x < 0)) true (decide (x > 77)) = true:=by rw [cA]; simp; omega
  have hE : Hv (val ah l) x = 6:=by unfold Hv; rw [if_neg h]
  rw [h1,if_pos rfl,hE]
  exact ⟨_,rfl,rfl,Z4.1,rfl⟩
theorem LS {n : Int} (h : 0 <= n /\ n <= 77) : cond (decide (n < 0)) true (decide (n > 77)) = false:=by rw [cA]; simp; omega
theorem Cp {l : List Int} (l1 : l.length = 4) (d1 : aN ah l) (n : Int) : ∃ r,iJ.run l n = some r /\ dG.run l n = some r /\ r.1.length = 4 /\ aN ah r.1:=by
 obtain ⟨f,f1,f2,f3,f4⟩:=zi n
 by_cases h : 0 <= n /\ n <= 77
 ·obtain ⟨m,rfl⟩ : ∃ m : Nat,n = (m : Int):=⟨n.toNat,by omega⟩
  obtain ⟨q,r,e1,e2,q1,q2,_⟩:=oK l1 d1 f2 f3
  obtain ⟨w,w1,w2,w3,w4⟩:=E4 ((je m : Nat) : Int)
  refine ⟨(q,r,(if f = [0,0,0,0] then 7 else 0),()),?_,?_,q1,q2⟩
  ·simp_all [iJ.run,iJ.top]
  ·unfold dG.run dG.top
   rw [LS h,if_neg (by simp),(PB (n:=m) (by omega)).2,w1,bind_some]
   have hfm : 0 <= ((je m : Nat) : Int) /\ ((je m : Nat) : Int) <= 77:=by unfold je; omega
   rw [if_pos hfm,Int.toNat_natCast] at w4
   grind [jD]
 ·refine ⟨([0,0,0,0],[0,0,0,0],6,()),?_,?_,rfl,Z4.1⟩
  ·simp_all [iJ.run,iJ.top]
  ·unfold dG.run dG.top
   grind
def wY : List Int:=replicate 32 255
theorem C3 : j8.run = some wY:=by kernel_rfl
theorem xX : ft.run = some wY:=by kernel_rfl
theorem uv : wY.length = 32 /\ ∀ b ∈ wY,0 <= b /\ b <= 255:=⟨rfl,fun b hb=>by
 have:=List.eq_of_mem_replicate hb; omega⟩
theorem Nn {l : List Int} (hl : l.length = 4) (dl : aN ah l) : (jq .u64 (jq .u64 (l.getD 1 0) (l.getD 2 0)) (l.getD 3 0) != 0) = (cond (cond (l.getD 1 0 != 0) true (l.getD 2 0 != 0)) true (l.getD 3 0 != 0)):=by
 obtain ⟨a,b,c,d,rfl⟩:=eT hl
 have h1:=dl b (by simp)
 have h2:=dl c (by simp)
 have h3:=dl d (by simp)
 obtain ⟨k1,k2⟩:=uU h1 h2
 obtain ⟨k3,k4⟩:=uU k1 h3
 grind
theorem DZ {l : List Int} (hl : l.length = 4) (dl : aN ah l) : iy.run l = some (jq .u64 (jq .u64 (l.getD 1 0) (l.getD 2 0)) (l.getD 3 0) != 0):=by
 rw [Nn hl dl]; rfl
theorem yM {l : List Int} (hl : l.length = 4) (dl : aN ah l) (n : Int) : ∃ r : List Int × Int × Unit,kM.run l n = some r /\ fg.run l n = some r /\ r.1.length = 4 /\ aN ah r.1:=by
 obtain ⟨r,e1,e2,n1,d1⟩:=Cp hl dl n
 unfold kM.run kM.top fg.run fg.top
 rw [e1,e2]
 simp only [bind_some]
 by_cases h0 : (r.2.2.1 != 0) = true
 ·rw [if_pos h0,if_pos h0]
  exact ⟨_,rfl,rfl,rfl,Z4.1⟩
 ·rw [if_neg h0,if_neg h0,show aB.run r.2.1 = some (ax (.arr 4 (.int .u64)) r.2.1 [0,0,0,0]) from rfl,bind_some]
  by_cases h1 : (!(ax (.arr 4 (.int .u64)) r.2.1 [0,0,0,0])) = true
  ·rw [if_pos h1,if_pos h1]
   exact ⟨_,rfl,rfl,rfl,Z4.1⟩
  ·rw [if_neg h1,if_neg h1,DZ n1 d1,bind_some]
   by_cases h2 : (jq .u64 (jq .u64 (r.1.getD 1 0) (r.1.getD 2 0)) (r.1.getD 3 0) != 0) = true
   ·rw [if_pos h2]
    exact ⟨_,rfl,rfl,rfl,Z4.1⟩
   grind
theorem nn {l : List cC} (h : ∀ a ∈ l,a.2.2.2.1.2.1.length <= 41) (i : Nat) (a : cC) (ha : a.2.2.2.1.2.1.length <= 41) : ∀ b ∈ l.set i a,b.2.2.2.1.2.1.length <= 41:=fun b hb=>by
 grind
theorem FB (p : gN) (i : Nat) (hi : i < p.2.2.2.1.length) (hl : p.2.2.2.1.length <= 4) (c : fB) : eE.run p (i : Int) c = some (p.1,p.2.1,p.2.2.1,p.2.2.2.1.set i ((p.2.2.2.1.getD i A0).1,(p.2.2.2.1.getD i A0).2.1,(p.2.2.2.1.getD i A0).2.2.1,c,(p.2.2.2.1.getD i A0).2.2.2.2),p.2.2.2.2.1,p.2.2.2.2.2.1,p.2.2.2.2.2.2.1,()):=by
 unfold eE.run eE.top
 rw [aU (by omega) (by omega),if_pos (by simp),if_pos (by omega),ag]
theorem Nt (c : fB) (hc : ir c) (hg : jt c = true) (hl : c.2.1.length <= 40) {w : List Int} (hw : w.length = 32) : rV.run c w = some (ku w c.2.1,0,()):=by
 unfold rV.run rV.top
 rw [kU _ hc,if_neg (by omega),if_pos hg,bind_some,if_neg (by decide),ov _ hc hl (n6 hg) hw]
 rfl
abbrev Td : Type:=Int × Int × Int × List (List Int) × Int × (List Int × List Int × List Int × List Int × (List Int × List Int × Bool × Unit) × Unit) × List iX × List cC × List en × Unit
def SO (ch now : Int) (sn : List (List Int)) (cv : List Int × List Int × List Int × List Int × (List Int × List Int × Bool × Unit) × Unit) (z : List iX) (A : Option Td) (B : Option (gN × Int × Unit)) : Prop :=
 ∃ (e nx' : Int) (l' : List cC) (st' : List en) (q : gN),A = some (e,ch,now,sn,nx',cv,z,l',st',()) /\ B = some (q,e,()) /\ (e = 0->q = (ch,now,z,l',sn,nx',st',())) /\ l'.length <= 4 /\ (∀ a ∈ l',a.2.2.2.1.2.1.length <= 41) /\ st'.length <= 257
theorem IZ (cv : _) (ch now nx kd hm tc hr : Int) (z : List iX) (l : List cC) (sn : List (List Int)) (st : List en) (wh tk am fe to pp : List Int) (ok : Af (ch,now,z,l,sn,nx,st,())) (hw : ∀ a ∈ l,ir a.2.2.2.1)
  (hwh : wh.length = 32 /\ ∀ b ∈ wh,0 <= b /\ b <= 255) (htk : tk.length = 32) (hto : to.length = 32) (ha : am.length = 4 /\ aN ah am) (hf : fe.length = 4 /\ aN ah fe) :
  SO ch now sn cv z (dC.run (kd,wh,tk,hm,am,fe,to,tc,hr,pp,()) ch now sn nx cv z l st) (eK.run (ch,now,z,l,sn,nx,st,()) (kd,wh,tk,hm,am,fe,to,tc,hr,pp,())):=by
 have al : l.length <= 4:=ok.al
 have sl : st.length <= 256:=ok.sl
 have hnx : nx = (st.length : Int):=ok.nx
 have aa : ∀ a ∈ l,a.2.2.2.1.2.1.length <= 41:=fun a h=>by have:=(ok.aa a h).1; omega
 unfold dC.run dC.top eK.run eK.top
 rw [xT _ _ _ _ _ _ _ _ _ _ al,uk _ _ _ al]
 simp only [bind_some]
 have out0 : ∀ (e : Int) (m : List cC),m.length <= 4->(∀ a ∈ m,a.2.2.2.1.2.1.length <= 41)->e ≠ 0->SO ch now sn cv z (some (e,ch,now,sn,nx,cv,z,m,st,())) (some ((ch,now,z,l,sn,nx,st,()),e,())) :=
  fun e m m1 m2 he=>⟨e,nx,m,st,_,rfl,rfl,fun h=>absurd h he,m1,m2,by omega⟩
 have out : ∀ e : Int,e ≠ 0->SO ch now sn cv z (some (e,ch,now,sn,nx,cv,z,l,st,())) (some ((ch,now,z,l,sn,nx,st,()),e,())):=fun e he=>out0 e l al aa he
 cases hA : fA tk hm l 0 with
 | none=>exact out 5 (by decide)
 | some i =>
  have hi:=Io hA
  rw [Nat.zero_add] at hi
  have hm' : l.getD i A0 ∈ l:=by rw [getD_eq hi.2]; exact getElem_mem hi.2
  have hc:=hw _ hm'
  have ha40 : (l.getD i A0).2.2.2.1.2.1.length <= 40:=(ok.aa _ hm').1
  simp only [Sum.elim_inl]
  rw [so,oh,if_neg (show ¬ (decide ((i : Int) < 0)) = true by rw [decide_eq_true_eq]; omega)]
  simp only [bind_some]
  by_cases h1 : (cond (!(eO tc)) true (tc == ch)) = true
  ·rw [if_pos h1,if_pos h1]; exact out 6 (by decide)
  ·rw [if_neg h1,if_neg h1,nP hf.1 ha.1 hf.2 ha.2,show aB.run am = some (ax (.arr 4 (.int .u64)) am [0,0,0,0]) from rfl]
   simp only [bind_some]
   obtain ⟨o,o1,o2⟩ : ∃ o,aF.run am fe = some o /\ decide ((if val ah fe < val ah am then (-1 : Int) else if val ah fe > val ah am then 1 else 0) > 0) = decide (o < 0):=by
    obtain ⟨c,c1,c2⟩:=vG ha.1 hf.1 ha.2 hf.2
    rw [nP ha.1 hf.1 ha.2 hf.2] at c1
    grind
   rw [o2,o1]
   generalize ax (.arr 4 (.int .u64)) am [0,0,0,0] = zb
   cases zb with
   | true =>
    have : cond (decide (o < 0)) true true = true:=by cases decide (o < 0) <;> rfl
    rw [this]
    exact out 13 (by decide)
   | false =>
    by_cases ho : o < 0
    ·rw [decide_eq_true ho]
     simp only [BEq.rfl,if_true,bind_some,cond_true]
     rw [decide_eq_true ho]
     exact out 13 (by decide)
    ·rw [decide_eq_false ho]
     simp only [BEq.rfl,if_true,bind_some,cond_true,cond_false]
     rw [decide_eq_false ho,C3,xX]
     simp only [BEq.rfl,if_true,bind_some,cond_true,cond_false]
     by_cases h2 : ax (.arr 32 (.int .u8)) wh wY = true
     ·rw [if_pos h2,if_pos h2]; exact out 13 (by decide)
     ·rw [if_neg h2,if_neg h2,if_pos (show 0 <= (i : Int) /\ (i : Int) < (l.length : Int) by omega),ag]
      obtain ⟨r1,r1p,r1r,n1,d1⟩:=yM ha.1 ha.2 (l.getD i A0).2.2.1
      obtain ⟨r2,r2p,r2r,n2,d2⟩:=yM hf.1 hf.2 (l.getD i A0).2.2.1
      rw [r1p,r1r]
      simp only [bind_some]
      by_cases h3 : (r1.2.1 != 0) = true
      ·rw [if_pos h3,if_pos h3]; exact out _ (by simpa using h3)
      ·rw [if_neg h3,if_neg h3,r2p,r2r]
       simp only [bind_some]
       by_cases h4 : (r2.2.1 != 0) = true
       ·rw [if_pos h4,if_pos h4]; exact out _ (by simpa using h4)
       ·rw [if_neg h4,if_neg h4]
        obtain ⟨b,b1,b2,bg⟩:=vN _ hc hwh ha
        rw [b2]
        simp only [bind_some]
        have fin : ∀ C : fB,C.2.1.length <= 41->SO ch now sn cv z
          (dC.j1 (fun x4 c0p0p0 c0p0p1 c0p0p4 c0p0p5 c0p1 c1 c2 c3=>some (x4,c0p0p0,c0p0p1,c0p0p4,c0p0p5,c0p1,c1,c2,c3,())) ch now sn nx cv z (l.set i ((l.getD i A0).1,(l.getD i A0).2.1,(l.getD i A0).2.2.1,C,(l.getD i A0).2.2.2.2)) st (kd,wh,tk,hm,am,fe,to,tc,hr,pp,()) r1.1 r2.1)
          (eK.j1 (fun x5 c4=>some (c4,x5,())) (i : Int) (ch,now,z,l,sn,nx,st,()) (kd,wh,tk,hm,am,fe,to,tc,hr,pp,()) 0 0 [[0,0,0,0],[0,0,0,0],[0,0,0,0]] 0 r1.1 r2.1 C):=by
         intro C hC
         unfold dC.j1 eK.j1
         rw [FB (ch,now,z,l,sn,nx,st,()) i hi.2 al C]
         obtain ⟨e,nx',st',t1,t2,t3,_⟩:=BP 1 hm tc 0 r1.1 r2.1 tk to ⟨n1,d1⟩ ⟨n2,d2⟩ htk hto ch now nx sn cv z (l.set i ((l.getD i A0).1,(l.getD i A0).2.1,(l.getD i A0).2.2.1,C,(l.getD i A0).2.2.2.2)) st sl hnx
         rw [t1,bind_some,bind_some,t2]
         exact ⟨e,nx',_,st',_,rfl,rfl,fun _=>rfl,by rw [length_set]; exact al,nn aa i _ hC,t3⟩
        have hset : ∀ C : cC,(l.set i C).getD i A0 = C:=fun C=>by
         grind [getD_eq]
        by_cases h5 : ((l.getD i A0).2.1 == ch) = true
        ·rw [if_pos h5,if_pos h5]
         obtain ⟨m,m1,m2,mg⟩:=Bk _ hc hwh uv ha
         rw [m1,m2]
         simp only [bind_some]
         unfold dC.j0 eK.j0
         by_cases h6 : (m.2.1 != 0) = true
         ·rw [if_pos h6,if_pos h6]; exact out0 _ _ (by rw [length_set]; exact al) (nn aa i _ mg.2) (by simpa using h6)
         ·obtain ⟨g1,g2⟩:=Jb _ hc hwh uv ha m1 (by simpa using h6)
          rw [if_neg h6,if_neg h6,ag,hset,if_pos h5,if_pos h5,C3,xX]
          simp only [bind_some]
          rw [Nt _ mg.1 g1 g2 uv.1,yO _ g2]
          simp only [bind_some]
          obtain ⟨k1,k2⟩:=q8 wY m.1.2.1 mg.1.2.2
          obtain ⟨r3,r3p,r3r,n3,d3⟩:=Cp k1 k2 (l.getD i A0).2.2.1
          rw [r3p,r3r]
          simp only [bind_some]
          rw [DZ n3 d3]
          simp only [bind_some]
          by_cases h7 : (jq .u64 (jq .u64 (r3.1.getD 1 0) (r3.1.getD 2 0)) (r3.1.getD 3 0) != 0) = true
          ·rw [if_pos h7,if_pos h7]; exact out0 _ _ (by rw [length_set]; exact al) (nn aa i _ mg.2) (by decide)
          ·rw [if_neg h7,if_neg h7]; exact fin _ mg.2
        ·rw [if_neg h5,if_neg h5,b1]
         simp only [bind_some]
         unfold dC.j0 eK.j0
         by_cases h6 : (b.2.1 != 0) = true
         ·rw [if_pos h6,if_pos h6]; exact out0 _ _ (by rw [length_set]; exact al) (nn aa i _ bg.2) (by simpa using h6)
         ·rw [if_neg h6,if_neg h6,ag,hset,if_neg h5,if_neg h5]
          exact fin _ bg.2
theorem Iz {l : List Int} (l1 : l.length = 4) (d1 : aN ah l) (x : Int) : ∃ w,mu.run l x = some (w,Hv (val ah l) x,()) /\ eU.run l x = some (w,Hv (val ah l) x,()) /\ w.length = 4 /\ aN ah w:=by
 obtain ⟨w1,e1,n1,d1',v1⟩:=KK l1 d1 x
 obtain ⟨w2,e2,n2,d2',v2⟩:=GJ l1 d1 x
 grind [jD]
abbrev R5 : Type:=List Int × List Int × List Int × List Int × (List Int × List Int × Bool × Unit) × Unit
def wc (a : cC) (C : fB) : cC:=(a.1,a.2.1,a.2.2.1,C,a.2.2.2.2)
theorem BT (ch now nx : Int) (sn : List (List Int)) (cv : R5) (z : List iX) (l : List cC) (st : List en) (i : Nat) {to n : List Int} (hc : ir (l.getD i A0).2.2.2.1)
  (hto : to.length = 32 /\ ∀ b ∈ to,0 <= b /\ b <= 255) (hn : n.length = 4 /\ aN ah n) :
  ∃ r : fB × Int × Unit,ue r /\ di.run to n (i : Int) l ch now sn nx cv z st = some (r.2.1,(i : Int),(if r.2.1 = 0 then l.set i (wc (l.getD i A0) r.1) else l),ch,now,sn,nx,cv,z,st,()) /\
   (if ((l.getD i A0).2.1 == ch) = true then d8.run (l.getD i A0).2.2.2.1 wY to n = some r else dO.run (l.getD i A0).2.2.2.1 to n = some r):=by
 obtain ⟨m,m1,m2,mg⟩:=vl _ hc hto hn
 unfold di.run di.top
 rw [ag,m1]
 simp only [bind_some]
 have fin : ∀ r : fB × Int × Unit,di.j0 (fun x6 c0i0 c2 c3p0p0 c3p0p1 c3p0p4 c3p0p5 c3p1 c4 c5=>some (x6,c0i0,c2,c3p0p0,c3p0p1,c3p0p4,c3p0p5,c3p1,c4,c5,())) r.2.1 (i : Int) l ch now sn nx cv z st r.1 = some (r.2.1,(i : Int),(if r.2.1 = 0 then l.set i (wc (l.getD i A0) r.1) else l),ch,now,sn,nx,cv,z,st,()):=fun r=>by
  unfold di.j0 di.j1
  rw [ag]
  by_cases h : r.2.1 = 0
  ·rw [if_pos (by simpa using h),if_pos h]; rfl
  grind
 by_cases h : ((l.getD i A0).2.1 == ch) = true
 ·obtain ⟨v,v1,v2,vg⟩:=Bk _ hc uv hto hn
  rw [if_pos h,C3]
  simp only [bind_some]
  rw [v1]
  simp only [bind_some]
  exact ⟨v,vg,fin v,by rw [if_pos h]; exact v2⟩
 ·rw [if_neg h]
  exact ⟨m,mg,fin m,by rw [if_neg h]; exact m2⟩
theorem Mb (v : Int) {x : Int} (h : 0 <= x /\ x < 78) : Hv v x = 0 \/ Hv v x = 13:=by
 unfold Hv
 omega
theorem Mi (ch now nx kd hm tc de ix : Int) (sn : List (List Int)) (cv : R5) (z : List iX) (l : List cC) (st : List en) (am fe tk to sy da wh : List Int) (ks : List (List Int)) (al : l.length <= 4) (aa : ∀ a ∈ l,a.2.2.2.1.2.1.length <= 40 /\ 0 <= a.2.2.1 /\ a.2.2.1 < 78) (hw : ∀ a ∈ l,ir a.2.2.2.1)
  (ha : am.length = 4 /\ aN ah am) (hf : fe.length = 4 /\ aN ah fe) (hto : to.length = 32 /\ ∀ b ∈ to,0 <= b /\ b <= 255) (hwh : wh.length = 32 /\ ∀ b ∈ wh,0 <= b /\ b <= 255) :
  ∃ (e : Int) (l' : List cC) (q : gN),gE.run (kd,am,fe,tk,hm,to,tc,de,sy,da,ix,ks,()) wh ch now sn nx cv z l st = some (e,ch,now,sn,nx,cv,z,l',st,()) /\
   bB.run (ch,now,z,l,sn,nx,st,()) (kd,am,fe,tk,hm,to,tc,de,sy,da,ix,ks,()) wh = some (q,e,()) /\ (e = 0->q = (ch,now,z,l',sn,nx,st,())) /\ l'.length <= 4 /\ (∀ a ∈ l',a.2.2.2.1.2.1.length <= 41):=by
 have ab : ∀ a ∈ l,a.2.2.2.1.2.1.length <= 41:=fun a h=>by have:=(aa a h).1; omega
 unfold gE.run gE.top bB.run bB.top
 rw [xT _ _ _ _ _ _ _ _ _ _ al,uk _ _ _ al]
 simp only [bind_some]
 cases hA : fA tk hm l 0 with
 | none=>exact ⟨5,l,_,rfl,rfl,(fun h=>by cases h),al,ab⟩
 | some i =>
  have hi:=Io hA
  rw [Nat.zero_add] at hi
  have hm' : l.getD i A0 ∈ l:=by rw [getD_eq hi.2]; exact getElem_mem hi.2
  have hc:=hw _ hm'
  obtain ⟨_,dd⟩:=aa _ hm'
  simp only [Sum.elim_inl]
  obtain ⟨u,u1,u2,un,ud⟩:=Iz ha.1 ha.2 (l.getD i A0).2.2.1
  obtain ⟨v,v1,v2,vn,vd⟩:=Iz hf.1 hf.2 (l.getD i A0).2.2.1
  rw [if_neg (show ¬ (decide ((i : Int) < 0)) = true by rw [decide_eq_true_eq]; omega),if_pos (show 0 <= (i : Int) /\ (i : Int) < (l.length : Int) by omega),ag,u1,u2]
  simp only [bind_some]
  rw [v2]
  simp only [bind_some]
  rcases Mb (val ah am) dd with hu | hu
  ·rw [hu,if_neg (by decide),v1]
   simp only [bind_some]
   rcases Mb (val ah fe) dd with hv | hv
   ·rw [hv,if_neg (by decide),if_neg (by decide)]
    obtain ⟨s,o,s1,s2,sn',sd,_⟩:=vF un vn ud vd
    rw [s1,s2]
    simp only [bind_some]
    obtain ⟨r,rg,rp,rr⟩:=BT ch now nx sn cv z l st i hc hto ⟨sn',sd⟩
    rw [rp]
    simp only [bind_some]
    have two : ∀ K n,bB.l0 (α:=gN × Int × Unit) K (fun x7 c6=>some (c6,x7,())) (bB.j1 fun x7 c6=>some (c6,x7,())) (n + 3) (i : Int) [to,wh] 2 0 (ch,now,z,l,sn,nx,st,()) 0 0 [[0,0,0,0],[0,0,0,0],[0,0,0,0]] 0 (l.getD i A0) v s (l.getD i A0).2.2.2.1 =
      bB.j0 (bB.l0 K (fun x7 c6=>some (c6,x7,())) (bB.j1 fun x7 c6=>some (c6,x7,())) (n + 2)) (fun x7 c6=>some (c6,x7,())) (i : Int) r.2.1 [to,wh] 2 0 (ch,now,z,l,sn,nx,st,()) 0 0 [[0,0,0,0],[0,0,0,0],[0,0,0,0]] 0 (l.getD i A0) v s r.1:=by
     intro K n
     simp only [bB.l0,bB.bq]
     rw [if_pos (by decide),if_pos ⟨by omega,by simp⟩,if_pos (by decide),xX]
     simp only [bind_some]
     by_cases h : ((l.getD i A0).2.1 == ch) = true
     ·rw [if_pos h] at rr ⊢
      rw [show [to,wh].getD (toNat 0) (replicate 32 0) = to from rfl,show [s,v].getD (toNat 0) [0,0,0,0] = s from rfl,rr]
      rfl
     ·rw [if_neg h] at rr ⊢
      rw [show [to,wh].getD (toNat 0) (replicate 32 0) = to from rfl,show [s,v].getD (toNat 0) [0,0,0,0] = s from rfl,rr]
      rfl
    obtain ⟨k,hk⟩ : ∃ k,fuel = k + 3:=⟨fuel - 3,by rw [au]⟩
    rw [hk,two,<- hk]
    unfold bB.j0
    by_cases h6 : r.2.1 = 0
    ·have h6' : ¬ ((r.2.1 != 0) = true):=by simpa using h6
     rw [if_neg h6',if_neg h6',if_pos h6]
     have hset : (l.set i (wc (l.getD i A0) r.1)).getD i A0 = wc (l.getD i A0) r.1:=by
      grind
     obtain ⟨t,tg,tp,tr⟩:=BT ch now nx sn cv z (l.set i (wc (l.getD i A0) r.1)) st i (to:=wh) (n:=v) (by rw [hset]; exact rg.1) hwh ⟨vn,vd⟩
     rw [hset] at tp tr
     rw [tp]
     simp only [bind_some]
     have one : ∀ n,bB.l0 (α:=gN × Int × Unit) fuel (fun x7 c6=>some (c6,x7,())) (bB.j1 fun x7 c6=>some (c6,x7,())) (n + 2) (i : Int) [to,wh] 2 (IntKind.i64.wrap (0 + 1)) (ch,now,z,l,sn,nx,st,()) 0 0 [[0,0,0,0],[0,0,0,0],[0,0,0,0]] 0 (l.getD i A0) v s r.1 =
       if t.2.1 = 0 then (bB.j1 fun x7 c6=>some (c6,x7,())) (i : Int) (ch,now,z,l,sn,nx,st,()) 0 0 [[0,0,0,0],[0,0,0,0],[0,0,0,0]] 0 t.1 else some ((ch,now,z,l,sn,nx,st,()),t.2.1,()):=by
      intro n
      rw [show IntKind.i64.wrap (0 + 1) = 1 from rfl]
      simp only [bB.l0,bB.bq]
      rw [if_pos (by decide),if_pos ⟨by omega,by simp⟩,if_pos (by decide),xX]
      simp only [bind_some]
      have fin : ∀ N,bB.j0 (α:=gN × Int × Unit) N (fun x7 c6=>some (c6,x7,())) (i : Int) t.2.1 [to,wh] 2 1 (ch,now,z,l,sn,nx,st,()) 0 0 [[0,0,0,0],[0,0,0,0],[0,0,0,0]] 0 (l.getD i A0) v s t.1 = if t.2.1 = 0 then N (i : Int) [to,wh] 2 2 (ch,now,z,l,sn,nx,st,()) 0 0 [[0,0,0,0],[0,0,0,0],[0,0,0,0]] 0 (l.getD i A0) v s t.1 else some ((ch,now,z,l,sn,nx,st,()),t.2.1,()):=fun N=>by
       unfold bB.j0
       by_cases h : t.2.1 = 0
       ·rw [if_neg (by simpa using h),if_pos h]; rfl
       grind
      by_cases h : ((l.getD i A0).2.1 == ch) = true
      ·rw [if_pos (show ((wc (l.getD i A0) r.1).2.1 == ch) = true from h)] at tr
       rw [if_pos h,show [to,wh].getD (toNat 1) (replicate 32 0) = wh from rfl,show [s,v].getD (toNat 1) [0,0,0,0] = v from rfl,show d8.run r.1 wY wh v = some t from tr]
       simp only [bind_some]
       rw [fin]
       rfl
      ·rw [if_neg (show ¬ ((wc (l.getD i A0) r.1).2.1 == ch) = true from h)] at tr
       rw [if_neg h,show [to,wh].getD (toNat 1) (replicate 32 0) = wh from rfl,show [s,v].getD (toNat 1) [0,0,0,0] = v from rfl,show dO.run r.1 wh v = some t from tr]
       simp only [bind_some]
       rw [fin]
       rfl
     rw [one]
     by_cases h7 : t.2.1 = 0
     ·rw [if_pos h7,if_pos h7]
      unfold bB.j1
      rw [FB (ch,now,z,l,sn,nx,st,()) i hi.2 al t.1,h7,List.set_set]
      exact ⟨0,_,_,rfl,rfl,fun _=>rfl,by rw [length_set]; exact al,nn ab i _ tg.2⟩
     ·rw [if_neg h7,if_neg h7]
      exact ⟨_,_,_,rfl,rfl,fun h=>absurd h h7,by rw [length_set]; exact al,nn ab i _ rg.2⟩
    ·have h6' : (r.2.1 != 0) = true:=by simpa using h6
     rw [if_pos h6',if_pos h6',if_neg h6]
     exact ⟨_,_,_,rfl,rfl,fun h=>absurd h h6,al,ab⟩
   ·rw [hv]
    exact ⟨13,l,_,rfl,rfl,(fun h=>by cases h),al,ab⟩
  ·rw [hu]
   exact ⟨13,l,_,rfl,rfl,(fun h=>by cases h),al,ab⟩
theorem zq (l : List iX) (kk : List (List Int)) (now : Int) : ∃ r : List iX × Int × Unit,ng.run l kk now = some r /\ eV.run l kk now = some r /\ r.1.length <= 9 /\ ∀ s ∈ r.1,s.2.1.length <= 19:=by
 unfold ng.run ng.top eV.run eV.top
 obtain ⟨e,e1,e2,e3⟩:=vQ l
 rw [e1,e2]
 simp only [bind_some]
 by_cases he : e = 0
 ·obtain ⟨h1,h2,h3⟩:=e3 he
  simp only [he,show ((0 : Int) != 0) = false from rfl,Bool.false_eq_true,if_false,EU,Bt,bind_some]
  by_cases hk : wU kk = 0
  ·have hkl:=(EM hk).2
   simp only [hk,show ((0 : Int) != 0) = false from rfl,Bool.false_eq_true,if_false]
   have hd : (decide (0 <= (IntKind.i64.wrap ((List.length l : Int) - 2)) /\ (IntKind.i64.wrap ((List.length l : Int) - 2)) < (List.length l : Int)) || !((decide ((List.length l : Int) > 1)) == true)) = true:=by
    grind [wrap_i64]
   simp only [hd,cond_true]
   have hgt : decide (((List.getD l (toNat (IntKind.i64.wrap ((List.length l : Int) - 2))) (0,[],0,())).2.2.1 : Int) > IntKind.i64.wrap (now + 24)) = decide (IntKind.i64.wrap (now + 24) < ((List.getD l (toNat (IntKind.i64.wrap ((List.length l : Int) - 2))) (0,[],0,())).2.2.1 : Int)):=rfl
   rw [hgt]
   split
   ·grind
   ·split
    ·grind
    ·have hcut : ay l 0 (List.length l : Int) = l:=by simp [ay]
     rw [if_pos (by refine ⟨?_,?_,?_,?_⟩ <;> first | trivial | omega),hcut,if_pos (aU (by omega) (by omega)),F5 _ (by simp; omega) (fun s hs=>by
      rcases List.mem_append.1 hs with hs | hs
      ·have:=h3 s hs; omega
      ·simp only [List.mem_singleton] at hs; subst hs; show List.length kk <= 1000; omega)]
     simp only [bind_some]
     obtain ⟨m,hm⟩ : ∃ m : Nat,List.length l = m + 1:=⟨List.length l - 1,by omega⟩
     have hw : IntKind.i64.wrap ((List.length l : Int) - 1) = (m : Int):=by rw [wrap_i64 (by omega) (by omega)]; omega
     rw [hw,ag]
     have hg : List.getD (l ++ [((List.length l : Int),kk,0,())]) m (0,[],0,()) = List.getD l m (0,[],0,()):=by
      grind
     have hmm : List.getD l m (0,[],0,()) ∈ l:=by rw [getD_eq (by omega)]; exact getElem_mem (by omega)
     rw [hg,if_pos (by simp; omega),if_pos (by rw [aU (by omega) (by omega)]; rfl),if_pos (by omega),if_pos (aU (by simp; omega) (by omega))]
     rw [List.set_append_left _ _ (by omega)]
     refine ⟨_,rfl,rfl,by simp; omega,fun s hs=>?_⟩
     rcases List.mem_append.1 hs with hs | hs
     ·grind
     grind
  simp_all
 simp_all
def kb (c : List Int) (n : Nat) : Bool:=(cF .u64 (c.getD (n / 64) 0) (eR .u64 1 ((n % 64 : Nat) : Int))) != 0
theorem Er {c : List Int} (h : ∀ x ∈ c,oW .u64 x = true) {n : Nat} (hn : n / 64 < c.length) : kb c n = (cF .u64 (fh .u64 (c.getD (n / 64) 0) ((n % 64 : Nat) : Int)) 1 == 1):=by
 have hm : n % 64 < 64:=Nat.mod_lt _ (by decide)
 unfold kb
 rw [getD_eq hn]
 obtain ⟨X,hX,hX2⟩:=yl (h _ (getElem_mem hn))
 rw [hX,rG hm,na hm,jv hX2 (kQ hm)]
 have h3 : X >>> (n % 64) < 18446744073709551616:=by
  rw [Nat.shiftRight_eq_div_pow]; exact Nat.lt_of_le_of_lt (Nat.div_le_self _ _) hX2
 grind [p9,wM,jv]
def oJ (c : List Int) (i n : Nat) : List Int:=((range' i n).filter (kb c)).map fun (j : Nat)=>(j : Int)
theorem tJ {α : Type} (k : Nat) (Xt : List Int->Option α) (c : List Int) : ∀ (n i : Nat) (acc : List Int),i <= 256->256 - i < n->acc.length <= i ->
  dM.l0 k Xt n (i : Int) c acc = Xt (acc ++ oJ c i (256 - i))
 | 0,i,acc,_,h,_=>by omega
 | n + 1,i,acc,hi,h,ha=>by
  simp only [dM.l0,dM.bq,dM.j0]
  by_cases h256 : i < 256
  ·have h1 : IntKind.i64.wrap (tdiv (i : Int) 64) = ((i / 64 : Nat) : Int):=jW (c:=64) (by omega)
   have h2 : tmod (i : Int) 64 = ((i % 64 : Nat) : Int):=lB i 64
   rw [if_pos (by simp; omega),h1,h2,if_pos (by omega),if_pos (by omega),ag,aG (by omega)]
   have hr : range' i (256 - i) = i :: range' (i + 1) (256 - (i + 1)):=by
    rw [show 256 - i = (256 - (i + 1)) + 1 by omega,List.range'_succ]
   unfold oJ
   rw [hr]
   have hb : ((cF .u64 (c.getD (i / 64) 0) (eR .u64 1 ((i % 64 : Nat) : Int))) != 0) = kb c i:=rfl
   rw [hb]
   cases hp : kb c i with
   | true =>
    rw [if_pos rfl,if_pos (aU (by omega) (by decide)),tJ k Xt c n (i + 1) _ (by omega) (by omega) (by simp; omega)]
    rw [List.filter_cons_of_pos hp]; simp [oJ]
   | false =>
    rw [if_neg (by simp),tJ k Xt c n (i + 1) _ (by omega) (by omega) (by omega)]
    rw [List.filter_cons_of_neg (by simp [hp])]; rfl
  ·have : i = 256:=by omega
   simp_all [oJ]
theorem I3 (c : List Int) : dM.run c = some (oJ c 0 256):=by
 unfold dM.run dM.top dM.j1
 have:=tJ fuel (fun (c20 : List Int)=>some c20) c fuel 0 [] (by omega) (by rw [au]; omega) (by simp)
 grind
theorem xa {α : Type} (k : Nat) (Rt : Bool->Int->Option α) (Xt : Option α) (x : Int) (l : List Int) (hl : l.length < 9223372036854775807) : ∀ (n i : Nat),i <= l.length->l.length - i < n ->
  dp.l0 k Rt Xt n x l (l.length : Int) (i : Int) = if (l.drop i).contains x = true then Rt true 0 else Xt
 | 0,i,_,h=>by omega
 | n + 1,i,hi,h=>by
  simp only [dp.l0,dp.bq]
  by_cases hlt : i < l.length
  ·rw [if_pos (by simp; omega),if_pos (by omega),ag,aG (by omega),getD_eq hlt]
   have hd : l.drop i = l[i] :: l.drop (i + 1):=List.drop_eq_getElem_cons hlt
   rw [hd,xa k Rt Xt x l hl n (i + 1) (by omega) (by omega)]
   grind
  grind
theorem Gz (c : List Int) (i n : Nat) : (oJ c i n).length <= n:=by
 grind [oJ]
theorem Gy (c : List Int) (n : Nat) (x : Int) (h : 0 <= x /\ x < (n : Int)) : (oJ c 0 n).contains x = kb c x.toNat:=by
 rw [Bool.eq_iff_iff]
 grind [oJ]
theorem Fq (N : Nat) (c : List Int) (x : Int) (h : 0 <= x /\ x <= 255) (hN : 300 < N) (l : List Int) (hl : l = oJ c 0 256) :
  dp.l0 N (fun (x4 : Bool) (x5 : Int)=>some (x4,x5,())) (some (false,(0 : Int),())) N x l (l.length : Int) 0 = some (kb c x.toNat,0,()):=by
 have hlen : l.length <= 256:=by rw [hl]; exact Gz c 0 256
 have:=xa N (fun (x4 : Bool) (x5 : Int)=>some (x4,x5,())) (some (false,(0 : Int),())) x l (by omega) N 0 (by omega) (by omega)
 rw [drop_zero] at this
 have hc : l.contains x = kb c x.toNat:=by rw [hl]; exact Gy c 256 x (by omega)
 rw [hc] at this
 refine Eq.trans this ?_
 cases kb c x.toNat <;> rfl
theorem GB (c : List Int) (x : Int) : dp.run c x = some (if 0 <= x /\ x <= 255 then (kb c x.toNat,0,()) else (false,6,())):=by
 unfold dp.run dp.top dp.j0
 by_cases h : 0 <= x /\ x <= 255
 ·rw [if_pos h,if_neg (by simp; omega),I3,bind_some]
  grind [au,Fq]
 grind
theorem Md {X k : Nat} (hX : X < 18446744073709551616) (hk : k < 64) (h : X.testBit k = false) : X ||| 2 ^ k = X + 2 ^ k:=by
 have h0 : X &&& 2 ^ k = 0:=by
  grind [p9]
 have hp:=kQ hk
 have h1 : BitVec.ofNat 65 X &&& BitVec.ofNat 65 (2 ^ k) = 0#65:=by
  grind [BitVec.toNat_ofNat]
 have h2:=congrArg BitVec.toNat (BitVec.add_eq_or_of_and_eq_zero _ _ h1)
 grind
theorem Lx {x : Int} {k : Nat} (hx : oW .u64 x = true) (hk : k < 64) (h : (cF .u64 x (eR .u64 1 (k : Int)) != 0) = false) : IntKind.u64.wrap (x + eR .u64 1 (k : Int)) = jq .u64 x (eR .u64 1 (k : Int)):=by
 obtain ⟨X,rfl,hX⟩:=yl hx
 rw [rG hk,jv hX (kQ hk)] at h
 have h1 : X.testBit k = false:=by
  grind [p9]
 rw [rG hk,rU hX (kQ hk),Md hX hk h1]
 have : X + 2 ^ k < 18446744073709551616:=by
  rw [<- Md hX hk h1]
  have:=Nat.or_lt_two_pow (n:=64) hX (kQ hk)
  simpa using this
 have e : ((X : Int) + ((2 ^ k : Nat) : Int)) = ((X + 2 ^ k : Nat) : Int):=by simp
 rw [e]
 exact ka this
theorem Mw (c : List Int) (hc : c.length = 4) (hr : ∀ x ∈ c,oW .u64 x = true) (x : Int) : oU.run c x = some (if 0 <= x /\ x <= 255 then (kb c x.toNat,0,()) else (false,6,())):=by
 unfold oU.run oU.top mL.run mL.top
 simp only [bind_some]
 by_cases h : 0 <= x /\ x <= 255
 ·obtain ⟨n,rfl⟩ : ∃ n : Nat,x = (n : Int):=⟨x.toNat,by omega⟩
  have h1 : IntKind.i64.wrap (tdiv (n : Int) 64) = ((n / 64 : Nat) : Int):=jW (c:=64) (by omega)
  have h2 : tmod (n : Int) 64 = ((n % 64 : Nat) : Int):=lB n 64
  rw [if_neg (by simp; omega),h1,h2,if_pos (by omega),if_pos (by omega),ag,if_pos h,Er hr (by show n / 64 < c.length; omega)]
  rfl
 grind
theorem JC (c : List Int) (n : Int) (hc : c.length = 4) (hr : ∀ y ∈ c,oW .u64 y = true) : l9.run c n = fq.run c n /\ ∃ r,l9.run c n = some r:=by
 unfold l9.run l9.top fq.run fq.top
 rw [Mw c hc hr,GB]
 simp only [bind_some]
 by_cases hn : 0 <= n /\ n <= 255
 ·rw [if_pos hn,if_neg (by simp)]
  cases hp : kb c n.toNat with
  | true=>exact ⟨rfl,_,rfl⟩
  | false =>
   obtain ⟨m,rfl⟩ : ∃ m : Nat,n = (m : Int):=⟨n.toNat,by omega⟩
   have e1 : IntKind.i64.wrap (tdiv (m : Int) 64) = ((m / 64 : Nat) : Int):=jW (c:=64) (by omega)
   have e2 : tmod (m : Int) 64 = ((m % 64 : Nat) : Int):=lB m 64
   have hlt : m / 64 < c.length:=by omega
   rw [e1,e2,if_neg (by simp),if_pos (by omega),if_pos (by omega),if_pos (by omega),ag,getD_eq hlt,if_neg (by simp)]
   rw [Lx (hr _ (getElem_mem hlt)) (Nat.mod_lt _ (by decide))]
   ·rw [if_neg (by simp),if_pos (by omega),if_pos (by omega),if_pos (by omega)]
    exact ⟨rfl,_,rfl⟩
   ·unfold kb at hp
    rw [show ((m : Int)).toNat = m from rfl,getD_eq hlt] at hp
    exact hp
 grind
end Go.Bx
namespace Go.Bx
open Go Go.Bx.Rg
def MA : List Int:=(replicate 32 0).set 0 7
theorem Ob : pZ.run = some MA:=by kernel_rfl
theorem NM : kg.run = some MA:=by kernel_rfl
abbrev TV : Type:=Int × Int × Int × List iX × List (List Int) × Int × R5 × List iX × List cC × List en × Unit
def TO (ch now nx : Int) (cv : R5) (z : List iX) (st : List en) (p : gN) (A : Option TV) (C : Option (gN × Int × Unit)) : Prop :=
 ∃ (e : Int) (z' : List iX) (sn' : List (List Int)) (l' : List cC) (q : gN),A = some (e,ch,now,z',sn',nx,cv,z,l',st,()) /\ C = some (q,e,()) /\ (e = 0->q = (ch,now,z',l',sn',nx,st,())) /\ (e ≠ 0->q = p) /\
  l'.length <= 5 /\ (∀ a ∈ l',a.2.2.2.1.2.1.length <= 41) /\ z'.length <= 9 /\ ∀ s ∈ z',s.2.1.length <= 19
section
variable {P A B N x y : Int} {f : Bool} (b1 : 0 <= P /\ P < aM) (b2 : 0 <= A /\ A < aM) (b3 : 0 <= B /\ B < aM) (b4 : 0 <= N /\ N < aM) (b5 : 0 <= x /\ x < aM) (b6 : 0 <= y /\ y < aM)
include b1 b2 b3 b4 b5 b6
theorem I1 (ch now nx kd hm tc hr : Int) (z : List iX) (l : List cC) (sn : List (List Int)) (st : List en) (wh tk am fe to pp : List Int) (ok : Af (ch,now,z,l,sn,nx,st,())) (hw : ∀ a ∈ l,ir a.2.2.2.1)
  (hsn : sn.length = 3 /\ ∀ c ∈ sn,c.length = 4 /\ ∀ y ∈ c,oW .u64 y = true) (hwh : wh.length = 32 /\ ∀ b ∈ wh,0 <= b /\ b <= 255) (hb : gA pp) (hl : pp.length <= 140737488351232) :
  TO ch now nx (mk P,mk A,mk B,mk N,(mk x,mk y,f,()),()) z st (ch,now,z,l,sn,nx,st,()) (fW.run (kd,wh,tk,hm,am,fe,to,tc,hr,pp,()) ch now sn nx (mk P,mk A,mk B,mk N,(mk x,mk y,f,()),()) z l st)
   (h9.run (mk P,mk A,mk B,mk N,(mk x,mk y,f,()),()) (ch,now,z,l,sn,nx,st,()) (kd,wh,tk,hm,am,fe,to,tc,hr,pp,())):=by
 have al : l.length <= 4:=ok.al
 have zz:=ok.sets
 have zl : z.length <= 9:=by have : z.length <= 8:=zz.2.1; omega
 have aa : ∀ a ∈ l,a.2.2.2.1.2.1.length <= 41:=fun a h=>by have:=(ok.aa a h).1; omega
 unfold fW.run fW.top h9.run h9.top
 obtain ⟨D,E,L,M,e0,e1,e2,e3⟩:=IF (f:=f) b1 b2 b3 b4 b5 b6 pp hb hl ch now nx sn z l st
 rw [e1,e2]
 generalize (mk P,mk A,mk B,mk N,(mk x,mk y,f,()),()) = cv
 simp only [bind_some]
 have out0 : ∀ (e : Int) (sn' : List (List Int)) (m : List cC),m.length <= 5->(∀ a ∈ m,a.2.2.2.1.2.1.length <= 41)->e ≠ 0->TO ch now nx cv z st (ch,now,z,l,sn,nx,st,()) (some (e,ch,now,z,sn',nx,cv,z,m,st,())) (some ((ch,now,z,l,sn,nx,st,()),e,())) :=
  fun e sn' m m1 m2 he=>⟨e,z,sn',m,_,rfl,rfl,fun h=>absurd h he,fun _=>rfl,m1,m2,zl,zz.2.2⟩
 have out : ∀ (e : Int) (sn' : List (List Int)),e ≠ 0->TO ch now nx cv z st (ch,now,z,l,sn,nx,st,()) (some (e,ch,now,z,sn',nx,cv,z,l,st,())) (some ((ch,now,z,l,sn,nx,st,()),e,())):=fun e sn' he=>out0 e sn' l (by omega) aa he
 by_cases h1 : e0 = 0
 ·obtain ⟨rfl,rfl,o1,o2,o3,o4⟩:=e3 h1
  subst h1
  rw [if_neg (show ¬ (((0 : Int) != 0) = true) by decide),if_neg (show ¬ (((0 : Int) != 0) = true) by decide)]
  by_cases h2 : (M.1 == 4) = true
  ·rw [if_pos h2,if_pos h2]
   unfold fU.run fU.top
   cases hc : (E.2.2.1 != 0) with
   | true=>exact out 5 sn (by decide)
   | false =>
    simp only [BEq.rfl,if_true,cond_false]
    rw [Ob,NM]
    simp only [bind_some]
    by_cases h3 : (!(ax (.arr 32 (.int .u8)) E.2.2.2.1 MA)) = true
    ·rw [if_pos h3,if_pos h3]; exact out 5 sn (by decide)
    ·rw [if_neg h3,if_neg h3]
     by_cases h4 : (M.2.2.2.2.2.2.2.2.2.2.1 != (z.length : Int)) = true
     ·rw [if_pos h4,if_pos h4]; exact out 6 sn (by decide)
     ·rw [if_neg h4,if_neg h4]
      obtain ⟨r,r1,r2,r3,r4⟩:=zq z M.2.2.2.2.2.2.2.2.2.2.2.1 now
      rw [r1,r2]
      simp only [bind_some]
      unfold fU.j0
      by_cases h5 : r.2.1 = 0
      ·rw [if_pos (by simpa using h5),if_neg (by simpa using h5),h5]
       exact ⟨0,r.1,sn,l,_,rfl,rfl,fun _=>rfl,fun h=>absurd rfl h,by omega,aa,r3,r4⟩
      ·rw [if_neg (by simpa using h5),if_pos (by simpa using h5)]
       exact out _ sn h5
  ·rw [if_neg h2,if_neg h2,so,oh]
   simp only [bind_some]
   cases hc : (cond (!(eO E.2.2.1)) true (E.2.2.1 == ch)) with
   | true=>exact out 5 sn (by decide)
   | false =>
    have hcb : eO E.2.2.1 = true:=by
     grind
    have hch : 0 <= E.2.2.1 /\ E.2.2.1 < 3:=by
     unfold eO at hcb
     grind
    obtain ⟨m,m1,m2⟩:=qk E.2.2.1
    simp only [BEq.rfl,if_true,cond_false]
    rw [m1,m2]
    simp only [bind_some]
    by_cases h3 : (!(ax (.arr 32 (.int .u8)) E.2.2.2.1 m)) = true
    ·rw [if_pos h3,if_pos h3]; exact out 5 sn (by decide)
    ·rw [if_neg h3,if_neg h3,if_pos hch,if_pos hch]
     have hel : sn.getD E.2.2.1.toNat [0,0,0,0] ∈ sn:=by
      grind
     obtain ⟨k1,r,k2⟩:=JC (sn.getD E.2.2.1.toNat [0,0,0,0]) E.2.2.2.2.1 (hsn.2 _ hel).1 (hsn.2 _ hel).2
     rw [<- k1,k2]
     simp only [bind_some]
     by_cases h4 : (r.2.1 != 0) = true
     ·rw [if_pos h4,if_pos h4]; exact out _ sn (by simpa using h4)
     ·rw [if_neg h4,if_neg h4,if_pos hch,if_pos hch]
      by_cases h5 : (M.1 == 2) = true
      ·rw [if_pos h5,if_pos h5]
       unfold ie.run ie.top
       by_cases h6 : (M.2.2.2.2.1 != E.2.2.1) = true
       ·rw [if_pos h6,if_pos h6]; exact out 5 _ (by decide)
       ·rw [if_neg h6,if_neg h6,xT _ _ _ _ _ _ _ _ _ _ al,uk _ _ _ al]
        simp only [bind_some]
        cases hA : fA M.2.2.2.1 M.2.2.2.2.1 l 0 with
        | some i =>
         simp only [Sum.elim_inl]
         rw [if_pos (show decide ((i : Int) >= 0) = true by rw [decide_eq_true_eq]; omega)]
         exact out 8 _ (by decide)
        | none =>
         simp only [Sum.elim_inl,Sum.elim_inr]
         rw [if_neg (show ¬ (decide ((-1 : Int) >= 0) = true) by decide)]
         by_cases h7 : l.length = 4
         ·rw [if_pos (show ((l.length : Int) == 4) = true by rw [beq_iff_eq]; omega),if_pos (show decide ((l.length : Int) >= 4) = true by rw [decide_eq_true_eq]; omega)]
          exact out 9 _ (by decide)
         ·rw [if_neg (show ¬ ((l.length : Int) == 4) = true by rw [beq_iff_eq]; omega),if_neg (show ¬ decide ((l.length : Int) >= 4) = true by rw [decide_eq_true_eq]; omega),if_pos (aU (by omega) (by omega)),if_pos (aU (by omega) (by omega)),if_pos (aU (by omega) (by omega))]
          have hm8 : (if (8 : Int) < M.2.2.2.2.2.2.2.1 then 8 else M.2.2.2.2.2.2.2.1) = (if M.2.2.2.2.2.2.2.1 < 8 then M.2.2.2.2.2.2.2.1 else 8):=by
           omega
          rw [hm8]
          exact ⟨0,z,_,_,_,rfl,rfl,fun _=>rfl,fun h=>absurd rfl h,by simp; omega,fun a ha=>by
           rcases List.mem_append.1 ha with ha | ha
           ·exact aa a ha
           ·simp only [List.mem_singleton] at ha; subst ha; simp,zl,zz.2.2⟩
      ·rw [if_neg h5,if_neg h5]
       by_cases h6 : (M.2.2.2.2.2.2.1 != ch) = true
       ·rw [if_pos h6,if_pos h6]; exact out 6 _ (by decide)
       ·rw [if_neg h6,if_neg h6]
        obtain ⟨k0,am2,fe2,tk2,hm2,to2,tc2,de2,sy2,da2,ix2,ks2,u⟩:=M
        obtain ⟨e,l',q,p1,p2,p3,p4,p5⟩:=Mi ch now nx k0 hm2 tc2 de2 ix2 (sn.set E.2.2.1.toNat r.1) cv z l st am2 fe2 tk2 to2 sy2 da2 wh ks2 al ok.aa hw o1 o2 ⟨o3,fun b hb=>by have:=o4 b hb; omega⟩ hwh
        rw [p1]
        simp only [bind_some]
        rw [p2]
        simp only [bind_some]
        by_cases h7 : e = 0
        ·rw [if_neg (by simpa using h7),h7]
         exact ⟨0,z,_,l',_,rfl,rfl,fun _=>p3 h7,fun h=>absurd rfl h,by omega,p5,zl,zz.2.2⟩
        ·rw [if_pos (by simpa using h7)]
         exact out0 _ _ l' (by omega) p5 h7
 ·rw [if_pos (by simpa using h1),if_pos (by simpa using h1)]
  exact out _ sn h1
end
end Go.Bx
namespace Go.Bx
open Go
theorem sN {α : Type} (Rt : Bool->Option α) (Xt : Option α) (K : Nat) (c : fB) (hl : c.2.1.length <= 4000000000000000) : ∀ (R P : List eo) (n : Nat),R.length < n->c.2.1 = P ++ R ->
  cp.l0 K Rt Xt n (c.2.1.length : Int) (P.length : Int) c c = Xt
 | R,P,0,h,_=>by omega
 | [],P,n + 1,h,hc=>by
  simp_all [cp.l0,cp.bq]
 | y :: R,P,n + 1,h,hc=>by
  have hlen : c.2.1.length = P.length + (R.length + 1):=by rw [hc]; simp
  simp only [cp.l0,cp.bq]
  rw [if_pos (dT (by omega)),if_pos (by omega),if_pos (by omega),aG (by omega),cE _ _ rfl,if_neg (by simp)]
  have ih:=sN Rt Xt K c hl R (P ++ [y]) n (by simpa using h) (by simp [hc])
  grind
theorem Ao (c : fB) (hl : c.2.1.length <= 4000000000000000) : cp.run c c = some true:=by
 unfold cp.run cp.top
 rw [cE _ _ rfl,if_neg (by simp [cA])]
 exact sN (fun x4=>some x4) (cp.j0 fun x4=>some x4) fuel c hl c.2.1 [] fuel (by rw [au]; omega) rfl
theorem tl {α : Type} (Rt : Bool->Option α) (Xt : gN->gN->Option α) (K : Nat) (p : gN) (hl : p.2.2.2.1.length <= 4000000000000) (hc : ∀ a ∈ p.2.2.2.1,a.2.2.2.1.2.1.length <= 4000000000000000) : ∀ (R P : List cC) (n : Nat),R.length < n->p.2.2.2.1 = P ++ R ->
  bV.l0 K Rt Xt n (p.2.2.2.1.length : Int) (P.length : Int) p p = Xt p p
 | R,P,0,h,_=>by omega
 | [],P,n + 1,h,hq=>by
  simp_all [bV.l0,bV.bq]
 | y :: R,P,n + 1,h,hq=>by
  have hlen : p.2.2.2.1.length = P.length + (R.length + 1):=by rw [hq]; simp
  have hg : p.2.2.2.1.getD P.length A0 = y:=by rw [hq]; exact ef _ _ _ _
  simp only [bV.l0,bV.bq]
  rw [if_pos (dT (by omega)),if_pos (by omega),if_pos (by omega),aG (by omega),ag,hg,cE _ _ rfl,Ao _ (hc y (by rw [hq]; simp))]
  simp only [bne_self_eq_false,Bool.not_true,cA,Bool.or_self,BEq.rfl,if_true,bind_some,Bool.false_eq_true,if_false]
  have ih:=tl Rt Xt K p hl hc R (P ++ [y]) n (by simpa using h) (by simp [hq])
  grind
theorem Az (b : en) : fF.run b b = some true:=by
 unfold fF.run fF.top
 simp only [BEq.rfl,cE (.arr 32 (.int .u8)) _ rfl,cE .str _ rfl,cond_true]
theorem qt {α : Type} (Rt : Bool->Option α) (Xt : Option α) (K : Nat) (l : List en) (hl : l.length <= 4000000000000) : ∀ (R P : List en) (n : Nat),R.length < n->l = P ++ R ->
  cc.l0 K Rt Xt n l l (l.length : Int) (P.length : Int) = Xt
 | R,P,0,h,_=>by omega
 | [],P,n + 1,h,hc=>by
  simp_all [cc.l0,cc.bq]
 | y :: R,P,n + 1,h,hc=>by
  have hlen : l.length = P.length + (R.length + 1):=by rw [hc]; simp
  simp only [cc.l0,cc.bq]
  rw [if_pos (dT (by omega)),if_pos (by omega),if_pos (by omega),Az,bind_some,aG (by omega),if_neg (by simp)]
  have ih:=qt Rt Xt K l hl R (P ++ [y]) n (by simpa using h) (by simp [hc])
  grind
theorem xK (l : List en) (hl : l.length <= 4000000000000) : cc.run l l = some true:=by
 unfold cc.run cc.top
 rw [if_neg (by simp)]
 refine (qt _ _ fuel l hl l [] fuel (by rw [au]; omega) rfl).trans ?_
 rfl
theorem An (p : gN) (hl : p.2.2.2.1.length <= 4000000000000) (hc : ∀ a ∈ p.2.2.2.1,a.2.2.2.1.2.1.length <= 4000000000000000) (hs : p.2.2.1.length <= 4000000000) (hs2 : ∀ s ∈ p.2.2.1,s.2.1.length <= 4000000000) (hb : p.2.2.2.2.2.2.1.length <= 4000000000000) : bV.run p p = some true:=by
 unfold bV.run bV.top
 rw [cE _ _ rfl]
 simp only [bne_self_eq_false,Bool.not_true,cA,Bool.or_self,Bool.false_eq_true,if_false]
 refine (tl (fun x4=>some x4) (fun c2 c3=>bV.j0 (fun x4=>some x4) c2 c3) fuel p hl hc p.2.2.2.1 [] fuel (by rw [au]; omega) rfl).trans ?_
 grind [Ak,xK,bV.j0]
end Go.Bx
namespace Go.Bx
open Go Go.Bx.Rg
structure KS (q : gN) : Prop where
 a : q.2.2.2.1.length <= 5
 c : ∀ a ∈ q.2.2.2.1,a.2.2.2.1.2.1.length <= 41
 s : q.2.2.1.length <= 9
 k : ∀ s ∈ q.2.2.1,s.2.1.length <= 19
 b : q.2.2.2.2.2.2.1.length <= 257
theorem gu {p : gN} (ok : Af p) : KS p :=
 ⟨by have:=ok.al; omega,fun a h=>by have:=(ok.aa a h).1; omega,by have:=ok.sets; omega,ok.sets.2.2,by have:=ok.sl; omega⟩
section
variable {P A B N x y : Int} {f : Bool} (b1 : 0 <= P /\ P < aM) (b2 : 0 <= A /\ A < aM) (b3 : 0 <= B /\ B < aM) (b4 : 0 <= N /\ N < aM) (b5 : 0 <= x /\ x < aM) (b6 : 0 <= y /\ y < aM)
include b1 b2 b3 b4 b5 b6
theorem Ox (ch now nx kd hm tc hr : Int) (z : List iX) (l : List cC) (sn : List (List Int)) (st : List en) (wh tk am fe to pp : List Int) (hnow : -9223372036854775808 <= now /\ now <= 9223372036854775807) (hhr : -9223372036854775808 <= hr /\ hr <= 9223372036854775807) (hw : ∀ a ∈ l,ir a.2.2.2.1)
  (hsn : sn.length = 3 /\ ∀ c ∈ sn,c.length = 4 /\ ∀ y ∈ c,oW .u64 y = true) (hwh : wh.length = 32 /\ ∀ b ∈ wh,0 <= b /\ b <= 255) (htk : tk.length = 32) (hto : to.length = 32) (ha : am.length = 4 /\ aN ah am) (hf : fe.length = 4 /\ aN ah fe) (hb : gA pp) (hl : pp.length <= 140737488351232) :
  ∃ (q : gN) (e : Int),oe.run (mk P,mk A,mk B,mk N,(mk x,mk y,f,()),()) (ch,now,z,l,sn,nx,st,()) (kd,wh,tk,hm,am,fe,to,tc,hr,pp,()) = some (q,e,()) /\
   iw.run (mk P,mk A,mk B,mk N,(mk x,mk y,f,()),()) (ch,now,z,l,sn,nx,st,()) (kd,wh,tk,hm,am,fe,to,tc,hr,pp,()) = some (q,e,()) /\ KS q:=by
 obtain ⟨e0,c1,c2,c3⟩:=JU (ch,now,z,l,sn,nx,st,()) hnow hw
 unfold oe.run oe.top iw.run iw.top
 rw [c1,c2]
 simp only [bind_some]
 by_cases h0 : e0 = 0
 ·have ok:=c3 h0
  subst h0
  rw [if_neg (show ¬ (((0 : Int) != 0) = true) by decide),if_neg (show ¬ (((0 : Int) != 0) = true) by decide),IB _ ok]
  simp only [bind_some]
  have hj : ∀ (e a1 a2 : Int) (a3 : List iX) (a4 : List (List Int)) (a5 : Int) (a6 : _) (a7 : List cC) (a8 : List en),oe.j0 (fun x7 c6=>some (c6,x7,())) e (ch,now,z,l,sn,nx,st,()) 0 0 [[0,0,0,0],[0,0,0,0],[0,0,0,0]] 0 a1 a2 a3 a4 a5 a6 a7 a8 = some ((if e = 0 then (a1,a2,a3,a7,a4,a5,a8,()) else (ch,now,z,l,sn,nx,st,()) : gN),e,()):=fun e a1 a2 a3 a4 a5 a6 a7 a8=>by
   unfold oe.j0
   by_cases h : e = 0
   ·grind
   simp_all [IB]
  by_cases k1 : (kd == 1) = true
  ·rw [if_pos k1,if_pos k1]
   obtain ⟨e,nx',l',st',q,p1,p2,p3,p4,p5,p6⟩:=IZ (mk P,mk A,mk B,mk N,(mk x,mk y,f,()),()) ch now nx kd hm tc hr z l sn st wh tk am fe to pp ok hw hwh htk hto ha hf
   rw [p1,p2]
   simp only [bind_some]
   rw [hj]
   by_cases h : e = 0
   ·rw [if_pos h,if_neg (show ¬ ((e != 0) = true) by simpa using h),p3 h,h]
    exact ⟨_,_,rfl,rfl,by show l'.length <= 5; omega,p5,(gu ok).s,(gu ok).k,p6⟩
   ·rw [if_neg h,if_pos (show (e != 0) = true by simpa using h)]
    exact ⟨_,_,rfl,rfl,gu ok⟩
  ·rw [if_neg k1,if_neg k1]
   by_cases k2 : (kd == 2) = true
   ·rw [if_pos k2,if_pos k2]
    obtain ⟨e,z',sn',l',q,p1,p2,p3,p4,p5,p6,p7,p8⟩:=I1 (f:=f) b1 b2 b3 b4 b5 b6 ch now nx kd hm tc hr z l sn st wh tk am fe to pp ok hw hsn hwh hb hl
    rw [p1,p2]
    simp only [bind_some]
    rw [hj]
    by_cases h : e = 0
    ·rw [if_pos h,p3 h]
     exact ⟨_,_,rfl,rfl,p5,p6,p7,p8,by have:=ok.sl; show st.length <= 257; have : st.length <= 256:=this; omega⟩
    ·rw [if_neg h,p4 h]
     exact ⟨_,_,rfl,rfl,gu ok⟩
   ·rw [if_neg k2,if_neg k2]
    by_cases k3 : (kd == 3) = true
    ·rw [if_pos k3,if_pos k3,xT _ _ _ _ _ _ _ _ _ _ ok.al,uk _ _ _ ok.al]
     simp only [bind_some]
     cases hA : fA tk ch l 0 with
     | none =>
      simp only [Sum.elim_inl,Sum.elim_inr]
      rw [hj,if_pos (show decide ((-1 : Int) < 0) = true by decide)]
      exact ⟨_,_,rfl,rfl,gu ok⟩
     | some i =>
      have hi:=Io hA
      rw [Nat.zero_add] at hi
      have al : l.length <= 4:=ok.al
      simp only [Sum.elim_inl]
      rw [if_neg (show ¬ (decide ((i : Int) < 0)) = true by rw [decide_eq_true_eq]; omega),if_pos (show 0 <= (i : Int) /\ (i : Int) < (l.length : Int) by omega),ag]
      obtain ⟨e,nx',st',t1,t2,t3,t4⟩:=BP 2 ch 0 (l.getD i A0).2.2.1 [0,0,0,0] [0,0,0,0] tk (replicate 32 0) wa wa htk rfl ch now nx sn (mk P,mk A,mk B,mk N,(mk x,mk y,f,()),()) z l st ok.sl ok.nx
      rw [t1,t2]
      simp only [bind_some]
      rw [hj]
      by_cases h : e = 0
      ·rw [if_pos h]
       exact ⟨_,_,rfl,rfl,(gu ok).a,(gu ok).c,(gu ok).s,(gu ok).k,t3⟩
      ·obtain ⟨rfl,rfl⟩:=t4 h
       rw [if_neg h]
       exact ⟨_,_,rfl,rfl,gu ok⟩
    ·rw [if_neg k3,if_neg k3]
     by_cases k4 : (kd == 4) = true
     ·rw [if_pos k4,if_pos k4]
      by_cases h : 1 <= hr /\ hr <= 1000 /\ now + hr <= 1099511627776
      ·have hn:=ok.now
       have hw2 : IntKind.i64.wrap (now + hr) = now + hr:=wrap_i64 (by have : 1 <= now:=hn.1; omega) (by omega)
       rw [hw2]
       rw [if_pos (by simp only [bS,Bool.and_eq_true,decide_eq_true_eq]; omega),if_neg (by simp only [cA,Bool.or_eq_true,decide_eq_true_eq]; omega),hj]
       exact ⟨_,_,rfl,rfl,(gu ok).a,(gu ok).c,(gu ok).s,(gu ok).k,(gu ok).b⟩
      ·have hn : 1 <= now /\ now <= 1099511627776:=ok.now
       have hc : ¬ (cond (cond (decide (hr >= 1)) (decide (hr <= 1000)) false) (decide (IntKind.i64.wrap (now + hr) <= 1099511627776)) false) = true:=by
        simp only [bS,Bool.and_eq_true,decide_eq_true_eq]
        grind [wrap_i64]
       have hd : (cond (cond (decide (hr < 1)) true (decide (hr > 1000))) true (decide (IntKind.i64.wrap (now + hr) > 1099511627776))) = true:=by
        grind
       rw [if_neg hc,if_pos hd,hj]
       exact ⟨_,_,rfl,rfl,gu ok⟩
     ·rw [if_neg k4,if_neg k4,hj]
      exact ⟨_,_,rfl,rfl,gu ok⟩
 ·rw [if_pos (by simpa using h0),if_pos (by simpa using h0)]
  exact ⟨_,_,rfl,rfl,by decide,by simp,by decide,by simp,by decide⟩
end
abbrev LV : Ty:=.pair (.int .i64) (.pair (.arr 32 (.int .u8)) (.pair (.arr 32 (.int .u8)) (.pair (.int .i64) (.pair AA (.pair AA (.pair (.arr 32 (.int .u8)) (.pair (.int .i64) (.pair (.int .i64) (.pair (.sl (.int .u8)) .unit)))))))))
theorem Cv (x : (Ty.pair Pu (.pair Kj (.pair LV .unit))).den) (h : Fit qU (.pair Pu (.pair Kj (.pair LV .unit))) x) : fH.run x.1 x.2.1 x.2.2.1 = some true:=by
 obtain ⟨c,p,w,⟨⟩⟩:=x
 obtain ⟨hc,hp,hx,_⟩:=h
 obtain ⟨P,A,B,N,x,y,f,rfl,b1,b2,b3,b4,b5,b6⟩:=Qj c hc
 obtain ⟨ch,now,z,l,sn,nx,st,⟨⟩⟩:=p
 obtain ⟨kd,wh,tk,hm,am,fe,to,tc,hr,pp,⟨⟩⟩:=w
 obtain ⟨_,hp2,_,hp4,hp5,_⟩:=hp
 obtain ⟨_,hx2,hx3,_,hx5,hx6,hx7,_,hx9,hx10,_⟩:=hx
 obtain ⟨q,e,r1,r2,sm⟩:=Ox (f:=f) b1 b2 b3 b4 b5 b6 ch now nx kd hm tc hr z l sn st wh tk am fe to pp (Ig.1 hp2) (Ig.1 hx9) (fun a ha=>by
  obtain ⟨_,_,_,h5,_⟩:=hp4.2.2 a ha
  exact DM h5) ⟨hp5.1,fun c hc=>⟨(hp5.2 c hc).1,(hp5.2 c hc).2⟩⟩ (G7 hx2) hx3.1 hx7.1 (gZ hx5) (gZ hx6) (fun b hb=>by have:=Hc.1 (hx10.2.2 b hb); omega) (by
   have:=hx10.1
   unfold qU at this; simp only [Ty.bytes,IntKind.bits,reachBytes] at this; omega)
 show fH.run (mk P,mk A,mk B,mk N,(mk x,mk y,f,()),()) (ch,now,z,l,sn,nx,st,()) (kd,wh,tk,hm,am,fe,to,tc,hr,pp,()) = some true
 unfold fH.run fH.top
 rw [r1,r2]
 simp only [bind_some]
 rw [An q (by have:=sm.a; omega) (fun a ha=>by have:=sm.c a ha; omega) (by have:=sm.s; omega) (fun s hs=>by have:=sm.k s hs; omega) (by have:=sm.b; omega)]
 grind
end Go.Bx
