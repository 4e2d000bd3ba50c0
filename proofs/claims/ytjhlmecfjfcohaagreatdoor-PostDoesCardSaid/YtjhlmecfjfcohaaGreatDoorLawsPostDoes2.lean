/- Laws about functions of plain data, in plain Lean. -/
import Derived.Test.YtjhlmecfjfcohaaGreatDoorLawsPostDoes1
import Derived.Test.YtjhlmecfjfcohaaGreatDoorFnPostDoes0
import Derived.Test.YtjhlmecfjfcohaaGreatDoorLawsPostDoes0
open Int (ediv_nonneg emod_eq_of_lt emod_lt_of_pos emod_nonneg mul_assoc mul_comm mul_ediv_add_emod mul_emod mul_one one_mul tdiv tmod)
open List (mem_cons not_mem_nil)
open Nat (gcd pow_add pow_succ two_pow_pos)
open Option (bind_some)
set_option maxRecDepth 100000
set_option linter.unusedVariables false
set_option linter.unusedSimpArgs false
namespace Go.Bx
open Go
theorem EE {α : Type} (k : Nat) (Xt : List Int->Option α) (b : List Int) (L : Nat) (hL : L <= 1000000) : ∀ (n i : Nat) (br : Int) (c : List Int),i <= L ->
  an.l0 k Xt n b br (L : Int) (i : Int) c = an.l0 k Xt n (b.take L) br (L : Int) (i : Int) c
 | 0,_,_,_,_=>rfl
 | n + 1,i,br,c,hi=>by
  simp only [an.l0,an.bq]
  by_cases hlt : i < L
  ·have h0 : decide ((i : Int) < (L : Int)) = true:=by rw [decide_eq_true_eq]; omega
   have hj : ∀ x,an.j0 (an.l0 k Xt n) b (i : Int) x (L : Int) (i : Int) c = an.j0 (an.l0 k Xt n) (b.take L) (i : Int) x (L : Int) (i : Int) c:=fun x=>by
    unfold an.j0 an.j1
    rw [aG (by omega)]
    have ih:=fun br c=>EE k Xt b L hL n (i + 1) br c (by omega)
    simp only [ih]
   grind
  grind
theorem p0 {a b : List Int} (ha : aN bM a) (hb : aN bM b) (h1 : a.length <= 1000000) (hle : val bM b <= val bM a) :
  ∃ r,an.run a b = some r /\ r.length = a.length /\ aN bM r /\ val bM r = val bM a - val bM b:=by
 have ev : val bM (b.take a.length) = val bM b:=by
  by_cases hl : b.length <= a.length
  ·rw [List.take_of_length_le hl]
  ·have h0:=gM bM (b.take a.length) (b.drop a.length)
   rw [List.take_append_drop,List.length_take,Nat.min_eq_left (by omega)] at h0
   have hd:=(dL eP (pg hb a.length)).1
   have ht:=(dL eP (lV hb a.length)).1
   have hA:=(dL eP ha).2
   by_cases hz : val bM (b.drop a.length) = 0
   ·grind
   ·have:=Int.mul_le_mul_of_nonneg_left (show 1 <= val bM (b.drop a.length) by omega) (show 0 <= bM ^ a.length from Int.le_of_lt (uE eP _))
    omega
 obtain ⟨r,e1,e2,e3,e4⟩:=zG ha (lV hb a.length) h1 (by rw [List.length_take]; omega) (by omega)
 refine ⟨r,?_,e2,e3,by omega⟩
 rw [<- e1]
 unfold an.run an.top
 rw [if_pos (by rw [aU (by omega) (by decide)]; rfl),if_pos (by rw [aU (by omega) (by decide)]; rfl)]
 have:=EE fuel (fun (c11 : List Int)=>an.j2 (fun (c11 : List Int)=>some c11) c11) b a.length h1 fuel 0 0 a (by omega)
 exact this
theorem E0 {d : Int} (h : 0 <= d /\ d < 4294967296) : aN bM [d]:=cU.2 ⟨h,gP⟩
theorem CT {W V q : Int} (hV : 0 < V) (h1 : q * V <= W) (h2 : W < (q + 1) * V) : W / V = q:=by
 have hn:=mul_ediv_add_emod W V
 have hm:=emod_nonneg W (show V ≠ 0 by omega)
 have hl:=emod_lt_of_pos W hV
 have e1 : ¬ (W / V + 1 <= q):=fun h=>by
  have:=Int.mul_le_mul_of_nonneg_right h (show 0 <= V by omega)
  grind
 have e2 : ¬ (q + 1 <= W / V):=fun h=>by
  have:=Int.mul_le_mul_of_nonneg_right h (show 0 <= V by omega)
  grind
 omega
theorem search {α : Type} (k : Nat) (Xt : List Int->List Int->Int->Int->List Int->List Int->Option α) (a b R c : List Int) (x : Int) (hb : aN bM b) (hbl : b.length <= 1000) (hR : aN bM R) (hRl : R.length <= 10000) (hV : 0 < val bM b) :
  ∀ (n : Nat) (lo hi : Int),0 <= lo->lo < hi->hi <= 4294967296->lo * val bM b <= val bM R->val bM R < hi * val bM b->hi - lo < (n : Int) ->
  aK.l2 k Xt n a b x lo hi c R = Xt a b x (val bM R / val bM b) c R
 | 0,lo,hi,_,h1,_,_,_,h=>by omega
 | n + 1,lo,hi,h0,h1,h2,h3,h4,h=>by
  simp only [aK.l2,aK.BR]
  rw [aV (x:=hi - lo) (by omega) (by omega),aV (x:=lo + hi) (by omega) (by omega),iE (by omega),aV (x:=(lo + hi) / 2) (by omega) (by omega)]
  by_cases hc : hi - lo > 1
  ·rw [if_pos (by rw [decide_eq_true_eq]; exact hc)]
   obtain ⟨y,y1,y2,y3,y4⟩:=lW (a:=b) (b:=[(lo + hi) / 2]) hb (E0 (by omega)) (by omega) (by simp)
   rw [y1,bind_some,mr y3 hR (by simp at y2; omega) (by omega),bind_some,y4]
   have e1 : val bM [(lo + hi) / 2] = (lo + hi) / 2:=by simp [val]
   rw [e1,mul_comm]
   by_cases hm : (lo + hi) / 2 * val bM b <= val bM R
   ·rw [if_pos]
    ·exact search k Xt a b R c x hb hbl hR hRl hV n _ hi (by omega) (by omega) h2 hm h4 (by omega)
    grind
   ·rw [if_neg]
    ·exact search k Xt a b R c x hb hbl hR hRl hV n lo _ h0 (by omega) (by omega) h3 (by omega) (by omega)
    grind
  ·rw [if_neg (by rw [decide_eq_true_eq]; exact hc)]
   grind [CT]
theorem set_drop (q : List Int) (i : Nat) (v : Int) (h : i < q.length) : (q.set i v).drop i = v :: q.drop (i + 1):=by
 grind [List.drop_eq_getElem_cons,List.drop_set_of_lt]
theorem uq {B : Int} {q : List Int} {v : Int} (i : Nat) (h : aN B q) (hv : 0 <= v /\ v < B) : aN B (q.set i v):=fun d hd=>by
 rcases List.mem_or_eq_of_mem_set hd with hd | rfl
 ·exact h d hd
 ·exact hv
theorem BS {α : Type} (k : Nat) (hk : 4294967296 < k) (Xt : List Int->List Int->Option α) (a b : List Int) (ha : aN bM a) (hb : aN bM b) (hal : a.length <= 1000) (hbl : b.length <= 1000) (hV : 0 < val bM b) :
  ∀ (n i : Nat) (r q : List Int),i < n->i <= a.length->aN bM r->r.length <= a.length - i->q.length = a.length->aN bM q->val bM (q.drop i) * val bM b + val bM r = val bM (a.drop i)->val bM r < val bM b ->
  ∃ q' r',aK.l1 k Xt n a b r ((i : Int) - 1) q = Xt r' q' /\ q'.length = a.length /\ aN bM q' /\ aN bM r' /\ r'.length <= a.length /\ val bM q' * val bM b + val bM r' = val bM a /\ val bM r' < val bM b
 | 0,i,_,_,h,_,_,_,_,_,_,_=>by omega
 | n + 1,0,r,q,h,hi,hr,hrl,hq,hqd,hv,hlt=>by
  refine ⟨q,r,?_,hq,hqd,hr,by omega,by simpa using hv,hlt⟩
  rfl
 | n + 1,i + 1,r,q,h,hi,hr,hrl,hq,hqd,hv,hlt=>by
  simp only [aK.l1,aK.me]
  have ei : ((i + 1 : Nat) : Int) - 1 = (i : Int):=by omega
  rw [ei,if_pos (dT (by omega)),if_pos (by omega),ag]
  obtain ⟨y,y1,y2,y3,y4,_⟩:=rY (by omega) hr
  rw [y1,bind_some,if_pos (by rw [aU (by omega) (by omega)])]
  have da : 0 <= a.getD i 0 /\ a.getD i 0 < 4294967296:=cO eP ha i
  have hRd : aN bM ([a.getD i 0] ++ y):=cU.2 ⟨da,y3⟩
  have hRv : val bM ([a.getD i 0] ++ y) = a.getD i 0 + 4294967296 * val bM r:=by
   rw [<- y4]; rfl
  have hr0:=(dL eP hr).1
  have hW0:=(dL eP hRd).1
  have hW : val bM ([a.getD i 0] ++ y) < 4294967296 * val bM b:=by
   rw [hRv]; omega
  rw [search k _ a b ([a.getD i 0] ++ y) q (i : Int) hb hbl hRd (by simp; omega) hV k 0 4294967296 (by omega) (by omega) (by omega) (by rw [Int.zero_mul]; exact hW0) hW (by omega)]
  generalize hWe : val bM ([a.getD i 0] ++ y) = W at *
  have hlo0 : 0 <= W / val bM b:=ediv_nonneg hW0 (by omega)
  have hlo1 : W / val bM b < 4294967296:=Int.ediv_lt_of_lt_mul hV hW
  have hdm:=mul_ediv_add_emod W (val bM b)
  have hm0:=emod_nonneg W (show val bM b ≠ 0 by omega)
  have hm1:=emod_lt_of_pos W hV
  unfold aK.j2 aK.j3
  rw [if_pos (by omega),ag]
  obtain ⟨p,p1,p2,p3,p4⟩:=lW (a:=b) (b:=[W / val bM b]) hb (E0 (by omega)) (by omega) (by simp)
  have e1 : val bM [W / val bM b] = W / val bM b:=by simp [val]
  rw [e1] at p4
  obtain ⟨s,s1,s2,s3,s4⟩:=p0 hRd p3 (by simp; omega) (by rw [hWe,p4]; omega)
  rw [p1,bind_some,s1,bind_some]
  have ew : IntKind.i64.wrap ((i : Int) - 1) = (i : Int) - 1:=wrap_i64 (by omega) (by omega)
  rw [ew]
  have hsv : val bM s = W % val bM b:=by rw [s4,hWe,p4]; omega
  refine BS k hk Xt a b ha hb hal hbl hV n i s (q.set i (W / val bM b)) (by omega) (by omega) s3 (by rw [s2]; simp; omega) (by simpa using hq) (uq i hqd (show _ /\ _ < (4294967296 : Int) by omega)) ?_ (by omega)
  grind [set_drop,gR,val]
theorem zT {α : Type} (k : Nat) (Xt : Int->List Int->Option α) (a : List Int) (y : Int) (ha : aN bM a) (hal : a.length <= 1000) (hV : 0 < y /\ y < 4294967296) :
  ∀ (n i : Nat) (r : Int) (q : List Int),i < n->i <= a.length->0 <= r->q.length = a.length->aN bM q->val bM (q.drop i) * y + r = val bM (a.drop i)->r < y ->
  ∃ q' r',aK.l0 k Xt n a y r ((i : Int) - 1) q = Xt r' q' /\ q'.length = a.length /\ aN bM q' /\ 0 <= r' /\ val bM q' * y + r' = val bM a /\ r' < y
 | 0,i,_,_,h,_,_,_,_,_,_=>by omega
 | n + 1,0,r,q,h,hi,hr,hq,hqd,hv,hlt=>by
  refine ⟨q,r,?_,hq,hqd,hr,by simpa using hv,hlt⟩
  rfl
 | n + 1,i + 1,r,q,h,hi,hr,hq,hqd,hv,hlt=>by
  simp only [aK.l0,aK.bq]
  have ei : ((i + 1 : Nat) : Int) - 1 = (i : Int):=by omega
  have da : 0 <= a.getD i 0 /\ a.getD i 0 < 4294967296:=cO eP ha i
  rw [ei,if_pos (dT (by omega)),if_pos (by omega),if_pos (by omega),if_pos (by omega),if_pos (by omega),ag]
  rw [aV (x:=r * 4294967296) (by omega) (by omega),aV (x:=r * 4294967296 + a.getD i 0) (by omega) (by omega),iE (by omega),iY (by omega)]
  have ew : IntKind.i64.wrap ((i : Int) - 1) = (i : Int) - 1:=wrap_i64 (by omega) (by omega)
  rw [ew]
  generalize hWe : r * 4294967296 + a.getD i 0 = W at *
  have hW : W < 4294967296 * y:=by omega
  have hW0 : 0 <= W:=by omega
  have hlo0 : 0 <= W / y:=ediv_nonneg hW0 (by omega)
  have hlo1 : W / y < 4294967296:=Int.ediv_lt_of_lt_mul hV.1 hW
  have hdm:=mul_ediv_add_emod W y
  have hm0:=emod_nonneg W (show y ≠ 0 by omega)
  have hm1:=emod_lt_of_pos W hV.1
  rw [aV (x:=W / y) (by omega) (by omega)]
  refine zT k Xt a y ha hal hV n i (W % y) (q.set i (W / y)) (by omega) (by omega) hm0 (by simpa using hq) (uq i hqd (show _ /\ _ < (4294967296 : Int) by omega)) ?_ hm1
  grind [set_drop,gR,val]
theorem IK {l : List Int} (hl : l.length <= 1000000) (hd : aN bM l) : ∃ y ok,ib.run l = some (y,ok,()) /\ (0 <= y /\ y < bM) /\ y = val bM l % bM /\ (ok = true->val bM l = y):=by
 unfold ib.run ib.top
 obtain ⟨s,s1,s2,s3,s4,_⟩:=rY hl hd
 rw [s1,bind_some]
 match s,s3,s4 with
 | [],_,s4=>exact ⟨0,true,rfl,by decide,by rw [<- s4]; rfl,fun _=>by rw [<- s4]; rfl⟩
 | d :: t,s3,s4 =>
  obtain ⟨hd1,hd2⟩:=cU.1 s3
  refine ⟨d,(((d :: t).length : Int) == 1),?_,hd1,?_,?_⟩
  ·rw [if_neg (by simp; omega),if_pos (by simp)]; rfl
  ·rw [<- s4]; simp only [val]
   rw [Int.add_mul_emod_self_left]
   exact (emod_eq_of_lt hd1.1 hd1.2).symm
  ·intro h
   have : t = []:=by
    grind
   subst this
   rw [<- s4]; simp [val]
theorem qK {a b : List Int} (ha : aN bM a) (hb : aN bM b) (hal : a.length <= 1000) (hbl : b.length <= 1000) (hV : 0 < val bM b) :
  ∃ q r,aK.run a b = some (q,r,()) /\ q.length = a.length /\ aN bM q /\ aN bM r /\ r.length <= 1000 /\ val bM q = val bM a / val bM b /\ val bM r = val bM a % val bM b:=by
 unfold aK.run aK.top
 obtain ⟨y,ok,y1,y2,y3,y4⟩:=IK (by omega) hb
 rw [y1,bind_some]
 have ew : IntKind.i64.wrap ((a.length : Int) - 1) = (a.length : Int) - 1:=wrap_i64 (by omega) (by omega)
 have fin : ∀ (q r : List Int),val bM q * val bM b + val bM r = val bM a->0 <= val bM r->val bM r < val bM b->val bM q = val bM a / val bM b /\ val bM r = val bM a % val bM b:=fun q r h1 h2 h3=>by
  have e : val bM a / val bM b = val bM q:=CT hV (by omega) (by rw [Int.add_mul]; omega)
  grind [mul_ediv_add_emod]
 have g : 0 <= (a.length : Int) /\ id (a.length : Int) = (a.length : Int) /\ eL (a.length : Int).toNat 8 = true:=⟨by omega,rfl,aU (by rw [ag]; omega) (by omega)⟩
 by_cases pv : ok = true
 ·rw [if_pos pv,if_pos g,ew,ag]
  have hy:=y4 pv
  rw [hy] at hV fin
  have y2 : 0 <= y /\ y < 4294967296:=y2
  have:=fun N (hN : a.length < N)=>zT N (fun (x8 : Int) (c22 : List Int)=>aK.j0 (fun (x4 : List Int) (x5 : List Int)=>some (x4,x5,())) x8 c22) a y ha hal ⟨hV,y2.2⟩ N a.length 0 (List.replicate a.length 0) hN (by omega) (by omega) (by simp) (v7 _) (by rw [List.drop_of_length_le (by simp),List.drop_of_length_le (by simp)]; simp [val]) (by omega)
  obtain ⟨q,r,e1,e2,e3,e4,e5,e6⟩:=this fuel (by rw [au]; omega)
  have ev : val bM [r] = r:=by simp [val]
  obtain ⟨f1,f2⟩:=fin q [r] (by rw [ev]; exact e5) (by rw [ev]; exact e4) (by rw [ev]; exact e6)
  refine ⟨q,[r],Eq.trans e1 rfl,e2,e3,E0 (by omega),by simp,?_,?_⟩
  ·rw [hy]; exact f1
  ·rw [hy]; exact f2
 ·rw [if_neg pv]
  unfold aK.j1
  rw [if_pos g,ew,ag]
  have:=fun N (hN : 4294967296 < N)=>BS N hN (fun (x5 : List Int) (c51 : List Int)=>aK.j4 (fun (x4 : List Int) (x5 : List Int)=>some (x4,x5,())) x5 c51) a b ha hb hal hbl hV N a.length [] (List.replicate a.length 0) (by omega) (by omega) gP (by simp) (by simp) (v7 _) (by rw [List.drop_of_length_le (by simp),List.drop_of_length_le (by simp)]; simp [val]) (by simp only [val]; exact hV)
  obtain ⟨q,r,e1,e2,e3,e4,e5,e6,e7⟩:=this fuel (by rw [au]; omega)
  obtain ⟨f1,f2⟩:=fin q r e6 (dL eP e4).1 e7
  exact ⟨q,r,Eq.trans e1 rfl,e2,e3,e4,by omega,f1,f2⟩
theorem CG (B : Int) : ∀ (l : List Int) (i : Nat) (v : Int),i < l.length->val B (l.set i v) = val B l + B ^ i * (v - l.getD i 0)
 | [],i,v,h=>by simp at h
 | d :: l,0,v,_=>by simp [val,List.getD]; omega
 | d :: l,i + 1,v,h=>by
  have ih:=CG B l i v (by simpa using h)
  grind [val]
def I5 : List Int:=[0,1,2,2,3,3,3,3,4,4,4,4,4,4,4,4,5,5,5,5,5,5,5,5,5,5,5,5,5,5,5,5,6,6,6,6,6,6,6,6,6,6,6,6,6,6,6,6,6,6,6,6,6,6,6,6,6,6,6,6,6,6,6,6,7,7,7,7,7,7,7,7,7,7,7,7,7,7,7,7,7,7,7,7,7,7,7,7,7,7,7,7,7,7,7,7,7,7,7,7,7,7,7,7,7,7,7,7,7,7,7,7,7,7,7,7,7,7,7,7,7,7,7,7,7,7,7,7,8,8,8,8,8,8,8,8,8,8,8,8,8,8,8,8,8,8,8,8,8,8,8,8,8,8,8,8,8,8,8,8,8,8,8,8,8,8,8,8,8,8,8,8,8,8,8,8,8,8,8,8,8,8,8,8,8,8,8,8,8,8,8,8,8,8,8,8,8,8,8,8,8,8,8,8,8,8,8,8,8,8,8,8,8,8,8,8,8,8,8,8,8,8,8,8,8,8,8,8,8,8,8,8,8,8,8,8,8,8,8,8,8,8,8,8,8,8,8,8,8,8,8,8,8,8,8,8]
def OU (n : Nat) : Bool:=Nat.ble 1 ((2 : Nat) ^ (I5.getD n 0).toNat - n) && decide (0 <= I5.getD n 0) && decide (I5.getD n 0 <= 8)
theorem NH : (List.range 256).all OU = true:=by kernel_rfl
theorem Qd {n : Nat} (h : n < 256) : ∃ t : Nat,I5.getD n 0 = (t : Int) /\ t <= 8 /\ n < 2 ^ t:=by
 have:=List.all_eq_true.1 NH n (List.mem_range.2 h)
 unfold OU at this
 simp only [Bool.and_eq_true,decide_eq_true_eq,Nat.ble_eq] at this
 refine ⟨(I5.getD n 0).toNat,by omega,by omega,by omega⟩
theorem PV {X : Nat} (h : X < 256) : IntKind.u8.wrap (X : Int) = (X : Int):=wrap_u8 (by omega) (by omega)
theorem C7 {a b : Nat} (h : a + b < 9223372036854775808) : IntKind.i64.wrap ((a : Int) + (b : Int)) = ((a + b : Nat) : Int):=by
 grind [wrap_i64]
theorem KP {α : Type} (Rt : Int->Option α) {X n : Nat} (hX : X < 256) (hn : n <= 56) : ∃ m : Nat,dJ.j2 Rt (X : Int) (n : Int) = Rt (m : Int) /\ n <= m /\ m <= n + 8 /\ X < 2 ^ (m - n):=by
 obtain ⟨t,t1,t2,t3⟩:=Qd hX
 refine ⟨n + t,?_,by omega,by omega,by rw [Nat.add_sub_cancel_left]; exact t3⟩
 have hj : dJ.j2 Rt (X : Int) (n : Int) = if 0 <= (IntKind.u8.wrap (X : Int)) /\ (IntKind.u8.wrap (X : Int)) < (256 : Int) then Rt (IntKind.i64.wrap ((n : Int) + (IntKind.i64.wrap (List.getD I5 (Int.toNat (IntKind.u8.wrap (X : Int))) 0)))) else none:=by kernel_rfl
 rw [hj,PV hX,if_pos (by omega),ag,t1]
 grind [wrap_i64]
theorem wk {X k m : Nat} (h : X >>> k < 2 ^ m) : X < 2 ^ (k + m):=by
 grind [Nat.shiftRight_eq_div_pow,Nat.div_lt_iff_lt_mul]
theorem MT {α : Type} (Rt : Int->Option α) {X n : Nat} (hX : X < 65536) (hn : n <= 48) : ∃ m : Nat,dJ.j1 Rt (X : Int) (n : Int) = Rt (m : Int) /\ n <= m /\ m <= n + 16 /\ X < 2 ^ (m - n):=by
 unfold dJ.j1
 by_cases h : X >= 256
 ·rw [if_pos (dT (by omega))]
  have e1 : fh .u64 (X : Int) 8 = ((X >>> 8 : Nat) : Int):=na (X:=X) (k:=8) (by omega)
  have e2 : IntKind.i64.wrap ((n : Int) + 8) = ((n + 8 : Nat) : Int):=C7 (b:=8) (by omega)
  rw [e1,e2]
  obtain ⟨m,m1,m2,m3,m4⟩:=KP Rt (X:=X >>> 8) (n:=n + 8) (by rw [Nat.shiftRight_eq_div_pow]; omega) (by omega)
  refine ⟨m,m1,by omega,by omega,?_⟩
  have:=wk m4
  grind
 ·rw [if_neg (dF (by omega))]
  obtain ⟨m,m1,m2,m3,m4⟩:=KP Rt (X:=X) (n:=n) (by omega) (by omega)
  grind
theorem LI {α : Type} (Rt : Int->Option α) {X n : Nat} (hX : X < 4294967296) (hn : n <= 32) : ∃ m : Nat,dJ.j0 Rt (X : Int) (n : Int) = Rt (m : Int) /\ n <= m /\ m <= n + 32 /\ X < 2 ^ (m - n):=by
 unfold dJ.j0
 by_cases h : X >= 65536
 ·rw [if_pos (dT (by omega))]
  have e1 : fh .u64 (X : Int) 16 = ((X >>> 16 : Nat) : Int):=na (X:=X) (k:=16) (by omega)
  have e2 : IntKind.i64.wrap ((n : Int) + 16) = ((n + 16 : Nat) : Int):=C7 (b:=16) (by omega)
  rw [e1,e2]
  obtain ⟨m,m1,m2,m3,m4⟩:=MT Rt (X:=X >>> 16) (n:=n + 16) (by rw [Nat.shiftRight_eq_div_pow]; omega) (by omega)
  refine ⟨m,m1,by omega,by omega,?_⟩
  have:=wk m4
  grind
 ·rw [if_neg (dF (by omega))]
  obtain ⟨m,m1,m2,m3,m4⟩:=MT Rt (X:=X) (n:=n) (by omega) (by omega)
  grind
theorem RY {X : Nat} (hX : X < 18446744073709551616) : ∃ m : Nat,dJ.run (X : Int) = some (m : Int) /\ m <= 64 /\ X < 2 ^ m:=by
 unfold dJ.run dJ.top
 by_cases h : X >= 4294967296
 ·rw [if_pos (dT (by omega))]
  have e1 : fh .u64 (X : Int) 32 = ((X >>> 32 : Nat) : Int):=na (X:=X) (k:=32) (by omega)
  rw [e1]
  obtain ⟨m,m1,m2,m3,m4⟩:=LI (fun (x2 : Int)=>some x2) (X:=X >>> 32) (n:=32) (by rw [Nat.shiftRight_eq_div_pow]; omega) (by omega)
  refine ⟨m,m1,by omega,?_⟩
  have:=wk m4
  grind
 ·rw [if_neg (dF (by omega))]
  obtain ⟨m,m1,m2,m3,m4⟩:=LI (fun (x2 : Int)=>some x2) (X:=X) (n:=0) (by omega) (by omega)
  grind
theorem jl {d : Int} (h : 0 <= d /\ d < ah) : ∃ X : Nat,d = (X : Int) /\ X < 18446744073709551616 :=
 ⟨d.toNat,by omega,by have : d < 18446744073709551616:=h.2; omega⟩
theorem En (i : Nat) : ah ^ i = ((2 ^ (64 * i) : Nat) : Int):=by
 rw [Nat.pow_mul]; simp
theorem rD {α : Type} (k : Nat) (Xt : Int->Option α) (l : List Int) (hl : l.length = 4) (dl : aN ah l) : ∀ (n i m : Nat),i <= 4->4 - i < n->m <= 64 * i->val ah (l.take i) < ((2 ^ m : Nat) : Int) ->
  ∃ m' : Nat,gp.l0 k Xt n (m : Int) l (i : Int) = Xt (m' : Int) /\ m' <= 256 /\ val ah l < ((2 ^ m' : Nat) : Int)
 | 0,i,m,_,h,_,_=>by omega
 | n + 1,i,m,hi,h,hm,hv=>by
  simp only [gp.l0,gp.bq]
  by_cases hlt : i < 4
  ·rw [if_pos (dT (by omega)),if_pos (by omega),ag]
   unfold gp.j0
   rw [aG (by omega)]
   have ht:=jY ah l i
   obtain ⟨X,hX,hX2⟩:=jl (cO dW dl i)
   rw [hX] at ht ⊢
   by_cases h0 : X = 0
   ·subst h0
    rw [if_neg (by simp)]
    refine rD k Xt l hl dl n (i + 1) m (by omega) (by omega) (by omega) ?_
    omega
   ·rw [if_pos (by simp; omega)]
    obtain ⟨t,t1,t2,t3⟩:=RY hX2
    rw [t1,bind_some]
    have e1 : IntKind.i64.wrap (64 * (i : Int)) = ((64 * i : Nat) : Int):=by rw [wrap_i64 (by omega) (by omega)]; omega
    rw [e1,C7 (by omega)]
    refine rD k Xt l hl dl n (i + 1) (64 * i + t) (by omega) (by omega) (by omega) ?_
    have hb:=(jS dW dl i).2
    rw [ht]
    rw [En] at hb ⊢
    rw [pow_add]
    generalize 2 ^ (64 * i) = D at *
    have:=Nat.mul_le_mul_left D t3
    grind
  grind
theorem xw {l : List Int} (hl : l.length = 4) (dl : aN ah l) : ∃ m : Nat,gp.run l = some (m : Int) /\ m <= 256 /\ val ah l < ((2 ^ m : Nat) : Int):=by
 unfold gp.run gp.top
 have:=fun N (hN : 4 < N)=>rD N (fun (x3 : Int)=>gp.j1 (fun (x2 : Int)=>some x2) x3) l hl dl N 0 0 (by omega) (by omega) (by omega) (by simp [val])
 exact this fuel (by rw [au]; omega)
theorem pn {l : List Int} (dl : aN ah l) (w : Nat) : val ah l / ((2 ^ (64 * w) : Nat) : Int) = val ah (l.drop w):=by
 by_cases hw : w <= l.length
 ·have h0:=ME ah l w
  rw [Nat.min_eq_left hw] at h0
  obtain ⟨h1,h2⟩:=jS dW dl w
  rw [En] at h0 h2
  generalize ((2 ^ (64 * w) : Nat) : Int) = D at *
  refine CT (by omega) ?_ ?_
  ·grind
  grind
 ·rw [List.drop_eq_nil_of_le (by omega)]
  obtain ⟨h1,h2⟩:=dL dW dl
  simp only [val]
  refine Int.ediv_eq_zero_of_lt h1 (Int.lt_of_lt_of_le h2 ?_)
  rw [<- En]
  exact EL dW (by omega)
theorem C6 {l : List Int} (dl : aN ah l) {w k : Nat} (hk : k < 64) {X : Nat} (hX : l.getD w 0 = (X : Int)) :
  ((X >>> k &&& 1 : Nat) : Int) = val ah l / ((2 ^ (64 * w + k) : Nat) : Int) % 2:=by
 have e : ((2 ^ (64 * w + k) : Nat) : Int) = ((2 ^ (64 * w) : Nat) : Int) * ((2 ^ k : Nat) : Int):=by rw [pow_add]; simp
 rw [e,<- Int.ediv_ediv_of_nonneg (Int.natCast_nonneg _),pn dl w,gR ah l w,hX]
 have hp : (2 : Nat) ^ 64 = 2 ^ k * (2 * 2 ^ (63 - k)):=by
  rw [<- Nat.mul_assoc,<- pow_succ,<- pow_add,show k + 1 + (63 - k) = 64 by omega]
 have hB : ah = ((2 ^ k : Nat) : Int) * (2 * ((2 ^ (63 - k) : Nat) : Int)):=by
  have : ah = ((2 ^ 64 : Nat) : Int):=rfl
  rw [this,hp]; simp
 have hpos : 0 < ((2 ^ k : Nat) : Int):=by have:=two_pow_pos k; omega
 rw [hB,mul_assoc,Int.add_mul_ediv_left _ _ (by omega),mul_assoc,Int.add_mul_emod_self_left]
 rw [Nat.and_one_is_mod,Nat.shiftRight_eq_div_pow]
 omega
theorem Ol (i : Nat) : 64 * (i / 64) + i % 64 = i:=by omega
theorem CU {l : List Int} (hl : l.length = 4) (dl : aN ah l) {i : Nat} (hi : i < 256) : pc.run l (i : Int) = some (val ah l / ((2 ^ i : Nat) : Int) % 2):=by
 unfold pc.run pc.top
 have e1 : IntKind.i64.wrap (tdiv (i : Int) 64) = ((i / 64 : Nat) : Int):=jW (c:=64) (by omega)
 have e2 : tmod (i : Int) 64 = ((i % 64 : Nat) : Int):=lB i 64
 rw [e1,e2,if_pos (by omega),if_pos (by omega),ag]
 obtain ⟨X,hX,hX2⟩:=jl (cO dW dl (i / 64))
 have hb:=C6 dl (w:=i / 64) (k:=i % 64) (by omega) hX
 rw [hX,na (by omega)]
 have hs : X >>> (i % 64) < 18446744073709551616:=Nat.lt_of_le_of_lt (Nat.shiftRight_le _ _) hX2
 have:=jv (X:=X >>> (i % 64)) (Y:=1) hs (by omega)
 grind
theorem uK {X k b : Nat} (hX : X < 18446744073709551616) (hb : b < 2 ^ k) (hk : k <= 64) (h0 : X % 2 ^ k = 0) : jq .u64 (X : Int) (b : Int) = ((X + b : Nat) : Int):=by
 have hb64 : b < 18446744073709551616:=Nat.lt_of_lt_of_le hb (by have:=Nat.pow_le_pow_right (n:=2) (by omega) hk; simpa using this)
 rw [rU hX hb64]
 have hd:=Nat.div_add_mod X (2 ^ k)
 rw [h0,Nat.add_zero] at hd
 grind [Nat.two_pow_add_eq_or_of_lt]
theorem Nr {q : List Int} (hq : q.length = 4) (dq : aN ah q) {i : Nat} (hi : i < 256) {Q : Int} (hQ : val ah q = Q * ((2 ^ (i + 1) : Nat) : Int)) :
  ∃ v,jq .u64 (q.getD (i / 64) 0) (eR .u64 1 ((i % 64 : Nat) : Int)) = v /\ (0 <= v /\ v < ah) /\ val ah (q.set (i / 64) v) = (2 * Q + 1) * ((2 ^ i : Nat) : Int):=by
 obtain ⟨X,hX,hX2⟩:=jl (cO dW dq (i / 64))
 have hk : i % 64 < 64:=by omega
 have hD : val ah q = ((2 ^ (64 * (i / 64)) : Nat) : Int) * (((2 ^ (i % 64 + 1) : Nat) : Int) * Q):=by
  rw [hQ,mul_comm,<- mul_assoc]
  congr 1
  have : 64 * (i / 64) + (i % 64 + 1) = i + 1:=by omega
  rw [<- this,pow_add]; simp
 have hpos : 0 < ((2 ^ (64 * (i / 64)) : Nat) : Int):=by have:=two_pow_pos (64 * (i / 64)); omega
 have hdr:=pn dq (i / 64)
 rw [hD,Int.mul_ediv_cancel_left _ (by omega)] at hdr
 rw [gR ah q (i / 64),hX] at hdr
 have hB : ah = ((2 ^ (i % 64 + 1) : Nat) : Int) * ((2 ^ (63 - i % 64) : Nat) : Int):=by
  have h64 : (2 : Nat) ^ 64 = 2 ^ (i % 64 + 1) * 2 ^ (63 - i % 64):=by rw [<- pow_add,show i % 64 + 1 + (63 - i % 64) = 64 by omega]
  grind
 have hmod : X % 2 ^ (i % 64 + 1) = 0:=by
  have hdr : ((2 ^ (i % 64 + 1) : Nat) : Int) * Q = (X : Int) + ((2 ^ (i % 64 + 1) : Nat) : Int) * (((2 ^ (63 - i % 64) : Nat) : Int) * val ah (q.drop (i / 64 + 1))):=by
   grind
  have : (X : Int) = ((2 ^ (i % 64 + 1) : Nat) : Int) * (Q - ((2 ^ (63 - i % 64) : Nat) : Int) * val ah (q.drop (i / 64 + 1))):=by
   grind
  grind [Int.mul_emod_right]
 have hlt : 2 ^ (i % 64) < 2 ^ (i % 64 + 1):=by rw [pow_succ]; have:=two_pow_pos (i % 64); omega
 have hv:=uK hX2 hlt (by omega) hmod
 have hsum : X + 2 ^ (i % 64) < 18446744073709551616:=by
  have h64 : (2 : Nat) ^ 64 = 2 ^ (i % 64 + 1) * 2 ^ (63 - i % 64):=by rw [<- pow_add,show i % 64 + 1 + (63 - i % 64) = 64 by omega]
  have hd:=Nat.div_add_mod X (2 ^ (i % 64 + 1))
  rw [hmod,Nat.add_zero] at hd
  have h1 : X / 2 ^ (i % 64 + 1) < 2 ^ (63 - i % 64):=by
   rw [Nat.div_lt_iff_lt_mul (two_pow_pos _),Nat.mul_comm,<- h64]; simpa using hX2
  have h2:=Nat.mul_le_mul_left (2 ^ (i % 64 + 1)) h1
  grind
 refine ⟨((X + 2 ^ (i % 64) : Nat) : Int),?_,⟨by omega,by simp only [ah]; omega⟩,?_⟩
 ·rw [hX,rG hk,hv]
 ·rw [CG ah q _ _ (by omega),hX,En,hQ]
  have e : ((2 ^ i : Nat) : Int) = ((2 ^ (64 * (i / 64)) : Nat) : Int) * ((2 ^ (i % 64) : Nat) : Int):=by
   grind [pow_add,Ol]
  have e2 : ((2 ^ (i + 1) : Nat) : Int) = ((2 ^ i : Nat) : Int) * 2:=by rw [pow_succ]; simp
  rw [e2,Int.natCast_add,show (X : Int) + ((2 ^ (i % 64) : Nat) : Int) - (X : Int) = ((2 ^ (i % 64) : Nat) : Int) by omega,<- e,Int.add_mul,one_mul]
  congr 1
  rw [mul_comm ((2 ^ i : Nat) : Int) 2,<- mul_assoc,mul_comm Q 2]
theorem Of {y : List Int} (hy : y.length = 4) (dy : aN ah y) (he : val ah y % 2 = 0) {b : Int} (hb : b = 0 \/ b = 1) :
  (y.set 0 (jq .u64 (y.getD 0 0) b)).length = 4 /\ aN ah (y.set 0 (jq .u64 (y.getD 0 0) b)) /\ val ah (y.set 0 (jq .u64 (y.getD 0 0) b)) = val ah y + b:=by
 obtain ⟨X,hX,hX2⟩:=jl (cO dW dy 0)
 have h0 : X % 2 ^ 1 = 0:=by
  have:=gR ah y 0
  grind
 have key : jq .u64 (X : Int) b = (X : Int) + b:=by
  rcases hb with rfl | rfl
  ·have:=uK (b:=0) hX2 (by omega) (k:=1) (by omega) h0
   simpa using this
  ·have:=uK (b:=1) hX2 (by omega) (k:=1) (by omega) h0
   simpa using this
 rw [hX,key]
 refine ⟨by simpa using hy,uq 0 dy ⟨by omega,by simp only [ah]; omega⟩,?_⟩
 rw [CG ah y 0 _ (by omega),hX]
 simp; omega
theorem yB {α : Type} (k : Nat) (Xt : List Int->List Int->Option α) (a b : List Int) (ha : a.length = 4) (da : aN ah a) (hb : b.length = 4) (db : aN ah b) (hV : 0 < val ah b) :
  ∀ (n i : Nat) (q r : List Int) (Q : Int),i < n->i <= 256->q.length = 4->aN ah q->r.length = 4->aN ah r->val ah q = Q * ((2 ^ i : Nat) : Int)->val ah a / ((2 ^ i : Nat) : Int) = val ah b * Q + val ah r->val ah r < val ah b ->
  ∃ q' r',bL.l0 k Xt n ((i : Int) - 1) a b q r = Xt q' r' /\ q'.length = 4 /\ aN ah q' /\ r'.length = 4 /\ aN ah r' /\ val ah a = val ah b * val ah q' + val ah r' /\ val ah r' < val ah b
 | 0,i,_,_,_,h,_,_,_,_,_,_,_,_=>by omega
 | n + 1,0,q,r,Q,h,hi,hq,dq,hr,dr,hQ,hN,hlt=>by
  refine ⟨q,r,?_,hq,dq,hr,dr,?_,hlt⟩
  ·rfl
  grind
 | n + 1,i + 1,q,r,Q,h,hi,hq,dq,hr,dr,hQ,hN,hlt=>by
  simp only [bL.l0,bL.bq]
  have ei : ((i + 1 : Nat) : Int) - 1 = (i : Int):=by omega
  rw [ei,if_pos (dT (by omega))]
  obtain ⟨y,o,y1,y2,y3,y4,y5⟩:=nF hr hr dr dr
  rw [y1,bind_some,CU ha da (by omega),bind_some]
  have hNi : val ah a / ((2 ^ i : Nat) : Int) = 2 * (val ah a / ((2 ^ (i + 1) : Nat) : Int)) + val ah a / ((2 ^ i : Nat) : Int) % 2:=by
   grind [Int.ediv_ediv_of_nonneg]
  have hb2 : val ah a / ((2 ^ i : Nat) : Int) % 2 = 0 \/ val ah a / ((2 ^ i : Nat) : Int) % 2 = 1:=by omega
  rw [hN] at hNi
  generalize val ah a / ((2 ^ i : Nat) : Int) % 2 = bt at *
  have he : val ah y % 2 = 0:=by rw [y4]; simp only [aM]; omega
  obtain ⟨z1,z2,z3⟩:=Of y2 y3 he hb2
  generalize hz : y.set 0 (jq .u64 (y.getD 0 0) bt) = z at *
  have hbb:=eH hb db
  have hrb:=eH hr dr
  have hzb:=eH z1 z2
  obtain ⟨s,o2,s1,s2,s3,s4,s5⟩:=qY z1 hb z2 db
  have ew : IntKind.i64.wrap ((i : Int) - 1) = (i : Int) - 1:=wrap_i64 (by omega) (by omega)
  have e1 : IntKind.i64.wrap (tdiv (i : Int) 64) = ((i / 64 : Nat) : Int):=jW (c:=64) (by omega)
  have e2 : tmod (i : Int) 64 = ((i % 64 : Nat) : Int):=lB i 64
  obtain ⟨v,v1,v2,v3⟩:=Nr hq dq (by omega) hQ
  have hQ2 : val ah q = (2 * Q) * ((2 ^ i : Nat) : Int):=by
   grind
  have cmp : (if (o == false) = true then cD.run z b else some 0).bind (fun y4=>some (cond o true (decide (y4 >= 0)))) = some (decide (2 * val ah r + bt >= val ah b)):=by
   cases o with
   | true =>
    have:=y5.1 rfl
    rw [if_neg (by simp),bind_some]
    have : decide (2 * val ah r + bt >= val ah b) = true:=by rw [decide_eq_true_eq]; omega
    rw [this]; rfl
   | false =>
    have hno : ¬ (aM <= val ah r + val ah r):=fun h=>by have:=y5.2 h; simp at this
    have hy : val ah y = val ah r + val ah r:=by rw [y4]; exact emod_eq_of_lt (by omega) (by omega)
    rw [if_pos (show (false == false) = true from rfl),nP z1 hb z2 db,bind_some]
    congr 1
    simp only [cond_false]
    rw [z3,hy]
    by_cases c1 : val ah r + val ah r + bt < val ah b
    ·rw [if_pos c1]
     have : decide (2 * val ah r + bt >= val ah b) = false:=by rw [decide_eq_false_iff_not]; omega
     rw [this]; rfl
    ·rw [if_neg c1]
     have : decide (2 * val ah r + bt >= val ah b) = true:=by rw [decide_eq_true_eq]; omega
     rw [this]
     split <;> rfl
  obtain ⟨w,w1,w2⟩:=Option.bind_eq_some_iff.1 cmp
  rw [w1,bind_some]
  have w2:=Option.some.inj w2
  rw [w2]
  unfold bL.j0
  rw [ew,e1,e2,ag]
  by_cases hc : 2 * val ah r + bt >= val ah b
  ·rw [if_pos (by rw [decide_eq_true_eq]; exact hc),s1,bind_some,if_pos (by omega),if_pos (by omega),if_pos (by omega),v1]
   have hsv : val ah s = 2 * val ah r + bt - val ah b:=by
    grind
   refine yB k Xt a b ha da hb db hV n i (q.set (i / 64) v) s (2 * Q + 1) (by omega) (by omega) (by simpa using hq) (uq _ dq v2) s2 s3 v3 ?_ (by omega)
   grind
  ·rw [if_neg (by rw [decide_eq_true_eq]; exact hc)]
   have hzv : val ah z = 2 * val ah r + bt:=by
    grind
   refine yB k Xt a b ha da hb db hV n i q z (2 * Q) (by omega) (by omega) hq dq z1 z2 hQ2 ?_ (by omega)
   grind
theorem LA {l : List Int} (hl : l.length = 4) (dl : aN ah l) (h : l ≠ [0,0,0,0]) : 0 < val ah l:=by
 have:=(dL dW dl).1
 rcases Int.lt_or_eq_of_le this with h' | h'
 ·exact h'
 ·exfalso; apply h
  exact jD hl rfl dl (fun d hd=>by
   simp only [mem_cons,not_mem_nil,or_false] at hd
   simp only [ah]; omega) (by rw [<- h']; rfl)
theorem PA : aN ah [0,0,0,0]:=fun d hd=>by
 grind
theorem iD {a b : List Int} (ha : a.length = 4) (da : aN ah a) (hb : b.length = 4) (db : aN ah b) :
  ∃ q r,bL.run a b = some (q,r,(if b = [0,0,0,0] then 7 else 0),()) /\ q.length = 4 /\ aN ah q /\ r.length = 4 /\ aN ah r /\
   val ah q = (if b = [0,0,0,0] then 0 else val ah a / val ah b) /\ val ah r = (if b = [0,0,0,0] then 0 else val ah a % val ah b):=by
 unfold bL.run bL.top
 rw [iQ (.arr 4 (.int .u64)) b [0,0,0,0] rfl]
 by_cases h0 : b = [0,0,0,0]
 ·simp only [if_pos h0]
  rw [if_pos (by simpa using h0)]
  exact ⟨_,_,rfl,rfl,PA,rfl,PA,rfl,rfl⟩
 ·simp only [if_neg h0]
  rw [if_neg (by simpa using h0)]
  obtain ⟨m,m1,m2,m3⟩:=xw ha da
  have hV:=LA hb db h0
  have ew : IntKind.i64.wrap ((m : Int) - 1) = (m : Int) - 1:=wrap_i64 (by omega) (by omega)
  rw [m1,bind_some,ew]
  have hv0 : val ah [0,0,0,0] = 0:=rfl
  have:=fun N (hN : m < N)=>yB N (fun (c4 : List Int) (c5 : List Int)=>bL.j1 (fun (x6 : Int) (c4 : List Int) (c5 : List Int)=>some (c4,c5,x6,())) c4 c5) a b ha da hb db hV N m [0,0,0,0] [0,0,0,0] 0 hN m2 rfl PA rfl PA (by rw [hv0,Int.zero_mul]) (by
   rw [hv0,Int.mul_zero]
   exact Int.ediv_eq_zero_of_lt (dL dW da).1 m3) (by rw [hv0]; exact hV)
  obtain ⟨q,r,e1,e2,e3,e4,e5,e6,e7⟩:=this fuel (by rw [au]; omega)
  have hr0:=(dL dW e5).1
  have hq : val ah a / val ah b = val ah q:=CT hV (by rw [mul_comm]; omega) (by rw [Int.add_mul,mul_comm]; omega)
  refine ⟨q,r,Eq.trans e1 rfl,e2,e3,e4,e5,hq.symm,?_⟩
  have:=mul_ediv_add_emod (val ah a) (val ah b)
  rw [hq] at this
  omega
theorem oK {a b : List Int} (ha : a.length = 4) (da : aN ah a) (hb : b.length = 4) (db : aN ah b) :
  ∃ q r,bL.run a b = some (q,r,(if b = [0,0,0,0] then 7 else 0),()) /\ cj.run a b = some (q,r,(if b = [0,0,0,0] then 7 else 0),()) /\ q.length = 4 /\ aN ah q /\ r.length = 4 /\ aN ah r /\
   val ah q = (if b = [0,0,0,0] then 0 else val ah a / val ah b) /\ val ah r = (if b = [0,0,0,0] then 0 else val ah a % val ah b):=by
 obtain ⟨q,r,e1,e2,e3,e4,e5,e6,e7⟩:=iD ha da hb db
 refine ⟨q,r,e1,?_,e2,e3,e4,e5,e6,e7⟩
 unfold cj.run cj.top
 rw [iQ (.arr 4 (.int .u64)) b [0,0,0,0] rfl]
 by_cases h0 : b = [0,0,0,0]
 ·simp only [if_pos h0] at e6 e7 ⊢
  rw [if_pos (by simpa using h0)]
  rw [jD e2 rfl e3 PA (by rw [e6]; rfl),jD e4 rfl e5 PA (by rw [e7]; rfl)]
 ·simp only [if_neg h0] at e6 e7 ⊢
  rw [if_neg (by simpa using h0)]
  obtain ⟨x,x1,x2,x3,x4⟩:=fE ha da
  obtain ⟨y,y1,y2,y3,y4⟩:=fE hb db
  have hV:=LA hb db h0
  obtain ⟨s,t,s1,s2,s3,s4,s5,s6,s7⟩:=qK x3 y3 (by omega) (by omega) (by omega)
  obtain ⟨w,f,w1,w2,w3,w4,_⟩:=jQ s3 (by omega)
  obtain ⟨v,g,v1,v2,v3,v4,_⟩:=jQ s4 (by omega)
  rw [x1,bind_some,y1,bind_some,s1,bind_some]
  unfold cd.run cd.top
  rw [w1,bind_some,bind_some,v1,bind_some,bind_some]
  have hab:=eH ha da
  have hbb:=eH hb db
  rw [x4,y4] at s6 s7
  have q1 : 0 <= val ah a / val ah b:=ediv_nonneg hab.1 (by omega)
  have q2 : val ah a / val ah b <= val ah a:=Int.ediv_le_self _ hab.1
  have r1:=emod_nonneg (val ah a) (show val ah b ≠ 0 by omega)
  have r2:=emod_lt_of_pos (val ah a) hV
  have hw : val ah w = val ah q:=by
   grind
  have hv : val ah v = val ah r:=by
   grind
  rw [jD w2 e2 w3 e3 hw,jD v2 e4 v3 e5 hv]
def W4 (l : List Int) : Prop:=l.length = 4 /\ aN ah l
theorem W4.bound {l : List Int} (h : W4 l) : 0 <= val ah l /\ val ah l < aM:=eH h.1 h.2
theorem W4.eq {l m : List Int} (h : W4 l) (g : W4 m) (e : val ah l = val ah m) : l = m:=jD h.1 g.1 h.2 g.2 e
theorem W4.zero : W4 [0,0,0,0]:=⟨rfl,PA⟩
theorem nh : val ah [0,0,0,0] = 0:=rfl
theorem W4.ne {m : List Int} (h : W4 m) : m ≠ [0,0,0,0] ↔ 0 < val ah m:=by
 constructor
 ·exact LA h.1 h.2
 grind [nh]
theorem Mo {x m : Int} (h0 : 0 <= x) (h1 : x < 2 * m) : x % m = if x < m then x else x - m:=by
 split
 ·grind [emod_eq_of_lt]
 ·rename_i h
  rw [<- Int.sub_emod_right]
  exact emod_eq_of_lt (by omega) (by omega)
theorem emod_neg {x m : Int} (h0 : -m < x) (h1 : x < m) : x % m = if x < 0 then x + m else x:=by
 split
 ·rename_i h
  rw [<- Int.add_emod_right]
  exact emod_eq_of_lt (by omega) (by omega)
 grind [emod_eq_of_lt]
theorem oG {a b m : List Int} (ha : W4 a) (hb : W4 b) (hm : W4 m) (h1 : val ah a < val ah m) (h2 : val ah b < val ah m) :
  ∃ r,kf.run a b m = some r /\ W4 r /\ val ah r = (val ah a + val ah b) % val ah m:=by
 unfold kf.run kf.top
 obtain ⟨r,o,e1,n1,d1,v1,f1⟩:=nF ha.1 hb.1 ha.2 hb.2
 rw [e1,bind_some]
 have ba:=ha.bound
 have bb:=hb.bound
 have bm:=hm.bound
 have br:=eH n1 d1
 have cmp : (if (o == false) = true then cD.run r m else some 0).bind (fun y=>some (cond o true (decide (y >= 0)))) = some (decide (val ah a + val ah b >= val ah m)):=by
  cases o with
  | true =>
   have:=f1.1 rfl
   have : decide (val ah a + val ah b >= val ah m) = true:=by rw [decide_eq_true_eq]; omega
   rw [this]; rfl
  | false =>
   have hno : ¬ (aM <= val ah a + val ah b):=fun h=>by have:=f1.2 h; simp at this
   have hr : val ah r = val ah a + val ah b:=by rw [v1]; exact emod_eq_of_lt (by omega) (by omega)
   rw [if_pos (show (false == false) = true from rfl),nP n1 hm.1 d1 hm.2,bind_some,hr]
   by_cases hc : val ah a + val ah b < val ah m
   ·rw [if_pos hc]
    have : decide (val ah a + val ah b >= val ah m) = false:=by rw [decide_eq_false_iff_not]; omega
    rw [this]; rfl
   ·rw [if_neg hc]
    have : decide (val ah a + val ah b >= val ah m) = true:=by rw [decide_eq_true_eq]; omega
    rw [this]
    split <;> rfl
 obtain ⟨w,w1,w2⟩:=Option.bind_eq_some_iff.1 cmp
 rw [w1,bind_some,Option.some.inj w2,Mo (by omega) (by omega)]
 by_cases hc : val ah a + val ah b >= val ah m
 ·rw [if_pos (by rw [decide_eq_true_eq]; exact hc),if_neg (by omega)]
  obtain ⟨s,o2,s1,s2,s3,s4,s5⟩:=qY n1 hm.1 d1 hm.2
  rw [s1,bind_some]
  refine ⟨s,rfl,⟨s2,s3⟩,?_⟩
  rw [s4,v1]
  simp only [aM] at *
  omega
 ·rw [if_neg (by rw [decide_eq_true_eq]; exact hc),if_pos (by omega)]
  refine ⟨r,rfl,⟨n1,d1⟩,?_⟩
  rw [v1]; exact emod_eq_of_lt (by omega) (by omega)
theorem td {a b m : List Int} (ha : W4 a) (hb : W4 b) (hm : W4 m) (h1 : val ah a < val ah m) (h2 : val ah b < val ah m) :
  ∃ r,lh.run a b m = some r /\ W4 r /\ val ah r = (val ah a - val ah b) % val ah m:=by
 unfold lh.run lh.top
 obtain ⟨r,o,e1,n1,d1,v1,f1⟩:=qY ha.1 hb.1 ha.2 hb.2
 rw [e1,bind_some]
 have ba:=ha.bound
 have bb:=hb.bound
 have bm:=hm.bound
 rw [emod_neg (by omega) (by omega)]
 by_cases ho : o = true
 ·have:=f1.1 ho
  rw [if_pos ho,if_pos (by omega)]
  obtain ⟨s,o2,s1,s2,s3,s4,s5⟩:=nF n1 hm.1 d1 hm.2
  rw [s1,bind_some]
  refine ⟨s,rfl,⟨s2,s3⟩,?_⟩
  rw [s4,v1]
  simp only [aM] at *
  omega
 ·have hno : ¬ val ah a < val ah b:=fun h=>ho (f1.2 h)
  rw [if_neg ho,if_neg (by omega)]
  refine ⟨r,rfl,⟨n1,d1⟩,?_⟩
  rw [v1]; exact emod_eq_of_lt (by omega) (by omega)
theorem Iv {l : List Int} (hd : aN bM l) (hl : l.length <= 1000000) : ∃ w,cd.run l = some w /\ W4 w /\ val ah w = val bM l % aM:=by
 obtain ⟨w,f,e1,e2,e3,e4,_⟩:=jQ hd hl
 unfold cd.run cd.top
 rw [e1,bind_some]
 exact ⟨w,rfl,⟨e2,e3⟩,e4⟩
theorem o7 {d m : List Int} (hd : aN bM d) (hl : d.length <= 1000) (hm : W4 m) (h0 : 0 < val ah m) : ∃ r,bN.run d m = some r /\ W4 r /\ val ah r = val bM d % val ah m:=by
 obtain ⟨y,y1,y2,y3,y4⟩:=fE hm.1 hm.2
 obtain ⟨q,r,e1,_,_,e4,e5,_,e7⟩:=qK hd y3 hl (by omega) (by omega)
 obtain ⟨w,w1,w2,w3⟩:=Iv e4 (by omega)
 unfold bN.run bN.top
 rw [y1,bind_some,e1,bind_some,w1,bind_some]
 refine ⟨w,rfl,w2,?_⟩
 rw [w3,e7,y4]
 have:=emod_nonneg (val bM d) (show val ah m ≠ 0 by omega)
 have:=emod_lt_of_pos (val bM d) h0
 have:=hm.bound
 grind
theorem Jy {a b m : List Int} (ha : W4 a) (hb : W4 b) (hm : W4 m) (h0 : 0 < val ah m) : ∃ r,bC.run a b m = some r /\ W4 r /\ val ah r = (val ah a + val ah b) % val ah m:=by
 obtain ⟨x,x1,x2,x3,x4⟩:=fE ha.1 ha.2
 obtain ⟨y,y1,y2,y3,y4⟩:=fE hb.1 hb.2
 obtain ⟨p,p1,p2,p3,p4⟩:=mK x3 y3 (by omega) (by omega)
 obtain ⟨r,r1,r2,r3⟩:=o7 p3 (by omega) hm h0
 simp_all [bC.run,bC.top]
theorem va {a m : List Int} (ha : W4 a) (hm : W4 m) (h1 : val ah a < val ah m) : ∃ r,aW.run a m = some r /\ W4 r /\ val ah r = (- val ah a) % val ah m:=by
 unfold aW.run aW.top
 rw [iQ (.arr 4 (.int .u64)) a [0,0,0,0] rfl]
 have ba:=ha.bound
 by_cases hz : a = [0,0,0,0]
 ·simp_all [nh]
 ·rw [if_neg (by simpa using hz)]
  have hpos:=ha.ne.1 hz
  obtain ⟨x,x1,x2,x3,x4⟩:=fE ha.1 ha.2
  obtain ⟨y,y1,y2,y3,y4⟩:=fE hm.1 hm.2
  obtain ⟨q,q1,q2,q3,q4⟩:=p0 y3 x3 (by omega) (by omega)
  obtain ⟨w,w1,w2,w3⟩:=Iv q3 (by omega)
  rw [y1,bind_some,x1,bind_some,q1,bind_some,w1,bind_some]
  refine ⟨w,rfl,w2,?_⟩
  have bm:=hm.bound
  rw [w3,q4,x4,y4,emod_neg (x:=- val ah a) (m:=val ah m) (by omega) (by omega),if_pos (by omega)]
  grind
theorem uU {a b : Int} (ha : 0 <= a /\ a < ah) (hb : 0 <= b /\ b < ah) : (0 <= jq .u64 a b /\ jq .u64 a b < ah) /\ (jq .u64 a b = 0 ↔ a = 0 /\ b = 0):=by
 obtain ⟨X,rfl,hX⟩:=jl ha
 obtain ⟨Y,rfl,hY⟩:=jl hb
 rw [rU hX hY]
 have hlt : X ||| Y < 18446744073709551616:=by
  have:=Nat.or_lt_two_pow (x:=X) (y:=Y) (n:=64) (by simpa using hX) (by simpa using hY)
  simpa using this
 refine ⟨⟨by omega,by simp only [ah]; omega⟩,?_⟩
 simp_all
theorem ru {a b m : List Int} (ha : W4 a) (hb : W4 b) (hm : W4 m) (h1 : val ah a < val ah m) (h2 : val ah b < val ah m) : ∃ r,aJ.run a b m = some r /\ W4 r /\ val ah r = (val ah a * val ah b) % val ah m:=by
 unfold aJ.run aJ.top
 have ba:=ha.bound
 have bb:=hb.bound
 have hm0:=cO dW hm.2 0
 have hm1:=cO dW hm.2 1
 have hm2:=cO dW hm.2 2
 have hm3:=cO dW hm.2 3
 obtain ⟨b1,b2⟩:=uU hm1 hm2
 obtain ⟨b3,b4⟩:=uU b1 hm3
 by_cases hc : (cond ((jq .u64 (jq .u64 (List.getD m 1 0) (List.getD m 2 0)) (List.getD m 3 0)) == 0) (decide ((List.getD m 0 0) < 4294967296)) false) = true
 ·rw [if_pos hc]
  have hz : (jq .u64 (jq .u64 (List.getD m 1 0) (List.getD m 2 0)) (List.getD m 3 0)) = 0 /\ List.getD m 0 0 < 4294967296:=by
   grind
  obtain ⟨z1,z2⟩:=hz
  obtain ⟨z3,z4⟩:=b4.1 z1
  obtain ⟨z5,z6⟩:=b2.1 z3
  obtain ⟨m0,m1,m2,m3,rfl⟩:=eT hm.1
  obtain ⟨a0,a1,a2,a3,rfl⟩:=eT ha.1
  obtain ⟨c0,c1,c2,c3,rfl⟩:=eT hb.1
  simp only [List.getD_cons_zero,List.getD_cons_succ] at z2 z4 z5 z6 ⊢
  subst z4 z5 z6
  have ga0:=ha.2 a0 (by simp)
  have ga1:=ha.2 a1 (by simp)
  have ga2:=ha.2 a2 (by simp)
  have ga3:=ha.2 a3 (by simp)
  have gc0:=hb.2 c0 (by simp)
  have gc1:=hb.2 c1 (by simp)
  have gc2:=hb.2 c2 (by simp)
  have gc3:=hb.2 c3 (by simp)
  simp only [val,ah] at h1 h2 ga0 ga1 ga2 ga3 gc0 gc1 gc2 gc3 ⊢
  have e1 : a1 = 0 /\ a2 = 0 /\ a3 = 0 /\ a0 < m0:=by omega
  have e2 : c1 = 0 /\ c2 = 0 /\ c3 = 0 /\ c0 < m0:=by omega
  obtain ⟨rfl,rfl,rfl,e1⟩:=e1
  obtain ⟨rfl,rfl,rfl,e2⟩:=e2
  have hp:=pw (x:=a0) (y:=c0) (by omega) (by omega)
  rw [if_pos (by omega),aV hp.1 (by omega),iY hp.1]
  have r1:=emod_nonneg (a0 * c0) (show m0 ≠ 0 by omega)
  have r2:=emod_lt_of_pos (a0 * c0) (show 0 < m0 by omega)
  refine ⟨_,rfl,⟨rfl,fun d hd=>?_⟩,?_⟩
  ·grind
  ·simp [val]
 ·rw [if_neg hc]
  obtain ⟨x,x1,x2,x3,x4⟩:=fE ha.1 ha.2
  obtain ⟨y,y1,y2,y3,y4⟩:=fE hb.1 hb.2
  obtain ⟨p,p1,p2,p3,p4⟩:=lW x3 y3 (by omega) (by omega)
  obtain ⟨r,r1,r2,r3⟩:=o7 p3 (by omega) hm (by omega)
  grind
def below (m : List Int) : List (List Int)->Int
 | []=>0
 | a :: l=>if val ah a < val ah m then below m l else 6
theorem Cr {a b : List Int} (ha : W4 a) (hb : W4 b) : aF.run a b = some (if val ah a < val ah b then -1 else if val ah a > val ah b then 1 else 0):=by
 unfold aF.run aF.top
 obtain ⟨x,x1,x2,x3,x4⟩:=fE ha.1 ha.2
 obtain ⟨y,y1,y2,y3,y4⟩:=fE hb.1 hb.2
 grind [mr]
theorem Kk (x y : Int) : decide ((if x < y then (-1 : Int) else if x > y then 1 else 0) >= 0) = !decide (x < y):=by
 grind
theorem wZ {α : Type} (k : Nat) (Rt : Int->Option α) (Xt : Option α) (hX : Xt = Rt 0) (l : List (List Int)) (m : List Int) (hm : W4 m) (hl : l.length < 1000) (hw : ∀ x ∈ l,W4 x) : ∀ (R P : List (List Int)) (n : Nat),R.length < n->l = P ++ R ->
  cT.l0 k Rt Xt n l (l.length : Int) (P.length : Int) m = Rt (below m R)
 | R,P,0,h,_=>by omega
 | [],P,n + 1,h,hc=>by
  simp_all [cT.l0,cT.bq,below]
 | a :: R,P,n + 1,h,hc=>by
  have hlen : l.length = P.length + (R.length + 1):=by rw [hc]; simp
  simp only [cT.l0,cT.bq,below]
  have hg : l.getD P.length [0,0,0,0] = a:=by rw [hc]; exact kO _ _ _ _
  have ha : W4 a:=hw a (by rw [hc]; simp)
  rw [if_pos (dT (by omega)),if_pos (by omega),aG (by omega),ag,hg,nP ha.1 hm.1 ha.2 hm.2,bind_some,Kk]
  have ih:=wZ k Rt Xt hX l m hm hl hw R (P ++ [a]) n (by simpa using h) (by simp [hc])
  grind
def rL (m : List Int) (l : List (List Int)) : Int:=if m = [0,0,0,0] then 7 else below m l
theorem vL {m : List Int} (hm : W4 m) {l : List (List Int)} (hl : l.length < 1000) (hw : ∀ x ∈ l,W4 x) : cT.run m l = some (rL m l):=by
 unfold cT.run cT.top rL
 rw [iQ (.arr 4 (.int .u64)) m [0,0,0,0] rfl]
 by_cases h0 : m = [0,0,0,0]
 ·grind
 ·rw [if_neg (by simpa using h0),if_neg h0]
  have:=fun N (hN : l.length < N)=>wZ N (fun (x4 : Int)=>some x4) (cT.j0 (fun (x4 : Int)=>some x4)) rfl l m hm hl hw l [] N hN rfl
  grind [au]
theorem Dp : W4 [1,0,0,0] /\ val ah [1,0,0,0] = 1:=by
 refine ⟨⟨rfl,fun d hd=>?_⟩,rfl⟩
 grind
section
variable {x m a : List Int} {F : Int->Int}
theorem kC {α : Type} (k : Nat) (Xt : Bool->Int->List Int->List Int->List Int->List Int->Option α) (hx : W4 x)
  (hF : ∀ (q : Int) (b : Bool) (o : List Int),0 <= q->W4 o->val ah o = F q->∃ o',gr.run b o m a = some (o',m,a,()) /\ W4 o' /\ val ah o' = F (2 * q + if b = true then 1 else 0)) (j : Nat) (hj : j < 4) :
  ∀ (n i : Nat) (b : Bool) (o : List Int),i < n->i <= 64->W4 o->val ah o = F (val ah x / ((2 ^ (64 * j + i) : Nat) : Int))->(b = false->val ah x / ((2 ^ (64 * j + i) : Nat) : Int) = 0) ->
  ∃ b' o',dE.l1 k Xt n b (j : Int) ((i : Int) - 1) o m a x = Xt b' (j : Int) o' m a x /\ W4 o' /\ val ah o' = F (val ah x / ((2 ^ (64 * j) : Nat) : Int)) /\ (b' = false->val ah x / ((2 ^ (64 * j) : Nat) : Int) = 0)
 | 0,i,b,o,h,_,_,_,_=>by omega
 | n + 1,0,b,o,h,hi,ho,hv,hb=>by
  refine ⟨b,o,?_,ho,hv,hb⟩
  rfl
 | n + 1,i + 1,b,o,h,hi,ho,hv,hb=>by
  simp only [dE.l1,dE.me]
  have ei : ((i + 1 : Nat) : Int) - 1 = (i : Int):=by omega
  rw [ei,if_pos (dT (by omega)),if_pos (by omega),if_pos (by omega),ag]
  obtain ⟨X,hX,hX2⟩:=jl (cO dW hx.2 j)
  have hbit:=C6 hx.2 (w:=j) (k:=i) (by omega) hX
  have hs : X >>> i < 18446744073709551616:=Nat.lt_of_le_of_lt (Nat.shiftRight_le _ _) hX2
  have hband : cF .u64 (fh .u64 (x.getD j 0) (i : Int)) 1 = val ah x / ((2 ^ (64 * j + i) : Nat) : Int) % 2:=by
   grind [na,jv]
  rw [hband]
  have hq : val ah x / ((2 ^ (64 * j + i) : Nat) : Int) = 2 * (val ah x / ((2 ^ (64 * j + (i + 1)) : Nat) : Int)) + val ah x / ((2 ^ (64 * j + i) : Nat) : Int) % 2:=by
   grind [Int.ediv_ediv_of_nonneg]
  have hq0 : 0 <= val ah x / ((2 ^ (64 * j + (i + 1)) : Nat) : Int):=ediv_nonneg hx.bound.1 (Int.natCast_nonneg _)
  generalize val ah x / ((2 ^ (64 * j + (i + 1)) : Nat) : Int) = q at *
  generalize hQ : val ah x / ((2 ^ (64 * j + i) : Nat) : Int) = Q at *
  unfold dE.j1
  have ew : IntKind.i64.wrap ((i : Int) - 1) = (i : Int) - 1:=wrap_i64 (by omega) (by omega)
  rw [ew]
  by_cases hc : (cond b true (Q % 2 == 1)) = true
  ·rw [if_pos hc]
   obtain ⟨o',o1,o2,o3⟩:=hF q (Q % 2 == 1) o hq0 ho hv
   rw [o1,bind_some]
   have hQ' : 2 * q + (if (Q % 2 == 1) = true then 1 else 0) = Q:=by
    grind
   rw [hQ'] at o3
   refine kC k Xt hx hF j hj n i _ o' (by omega) (by omega) o2 (by rw [hQ]; exact o3) (fun h=>?_)
   grind
  ·rw [if_neg hc]
   have hb0 : b = false /\ Q % 2 ≠ 1:=by
    grind
   have hz:=hb hb0.1
   have hQ0 : Q = 0:=by omega
   refine kC k Xt hx hF j hj n i _ o (by omega) (by omega) ho (by rw [hQ,hQ0,hv,hz]) (fun _=>by rw [hQ,hQ0])
theorem kA {α : Type} (k : Nat) (hk : 64 < k) (Xt : List Int->List Int->List Int->Option α) (hx : W4 x)
  (hF : ∀ (q : Int) (b : Bool) (o : List Int),0 <= q->W4 o->val ah o = F q->∃ o',gr.run b o m a = some (o',m,a,()) /\ W4 o' /\ val ah o' = F (2 * q + if b = true then 1 else 0)) :
  ∀ (n j : Nat) (b : Bool) (o : List Int),j < n->j <= 4->W4 o->val ah o = F (val ah x / ((2 ^ (64 * j) : Nat) : Int))->(b = false->val ah x / ((2 ^ (64 * j) : Nat) : Int) = 0) ->
  ∃ o',dE.l0 k Xt n b ((j : Int) - 1) o m a x = Xt o' m a /\ W4 o' /\ val ah o' = F (val ah x)
 | 0,j,b,o,h,_,_,_,_=>by omega
 | n + 1,0,b,o,h,hi,ho,hv,hb=>by
  refine ⟨o,?_,ho,by simpa using hv⟩
  rfl
 | n + 1,j + 1,b,o,h,hi,ho,hv,hb=>by
  simp only [dE.l0,dE.bq]
  have ei : ((j + 1 : Nat) : Int) - 1 = (j : Int):=by omega
  rw [ei,if_pos (dT (by omega)),if_pos (by omega),ag]
  unfold dE.j0
  have ew : IntKind.i64.wrap ((j : Int) - 1) = (j : Int) - 1:=wrap_i64 (by omega) (by omega)
  rw [ew]
  by_cases hc : (cond (x.getD j 0 == 0) (not b) false) = true
  ·rw [if_pos hc]
   have hz : x.getD j 0 = 0 /\ b = false:=by
    grind
   have h0:=hb hz.2
   have hd:=pn hx.2 j
   have hd1:=pn hx.2 (j + 1)
   have hvd:=gR ah x j
   have hQ0 : val ah x / ((2 ^ (64 * j) : Nat) : Int) = 0:=by
    grind
   exact kA k hk Xt hx hF n j b o (by omega) (by omega) ho (by rw [hQ0,hv,h0]) (fun _=>hQ0)
  ·rw [if_neg hc]
   have e64 : (63 : Int) = ((64 : Nat) : Int) - 1:=by omega
   have hm64 : 64 * (j + 1) = 64 * j + 64:=by omega
   rw [hm64] at hv hb
   obtain ⟨b',o',e1,e2,e3,e4⟩:=kC k (fun (x4 : Bool) (x5 : Int) (c0 : List Int) (c1 : List Int) (c2 : List Int) (c5 : List Int)=>dE.l0 k Xt n x4 (IntKind.i64.wrap (x5 - 1)) c0 c1 c2 c5) hx hF j (by omega) k 64 b o hk (by omega) ho hv hb
   rw [e64,e1,ew]
   exact kA k hk Xt hx hF n j b' o' (by omega) (by omega) e2 e3 e4
theorem uc {x m a o : List Int} {F : Int->Int} (hx : W4 x) (ho : W4 o) (h0 : val ah o = F 0)
  (hF : ∀ (q : Int) (b : Bool) (o : List Int),0 <= q->W4 o->val ah o = F q->∃ o',gr.run b o m a = some (o',m,a,()) /\ W4 o' /\ val ah o' = F (2 * q + if b = true then 1 else 0)) :
  ∃ o',dE.run x o m a = some (o',m,a,()) /\ W4 o' /\ val ah o' = F (val ah x):=by
 unfold dE.run dE.top
 have hz : val ah x / ((2 ^ (64 * 4) : Nat) : Int) = 0:=by
  have hb:=dL dW hx.2
  rw [hx.1] at hb
  grind
 have:=fun N (hN : 64 < N)=>kA N hN (fun (c0 : List Int) (c1 : List Int) (c2 : List Int)=>some (c0,c1,c2,())) hx hF N 4 false o (by omega) (by omega) ho (by rw [hz]; exact h0) (fun _=>hz)
 obtain ⟨o',e1,e2,e3⟩:=this fuel (by rw [au]; omega)
 exact ⟨o',e1,e2,e3⟩
end
theorem mh {a b m : List Int} (ha : W4 a) (hb : W4 b) (hm : W4 m) (h1 : val ah a < val ah m) : ∃ r,iV.run a b m = some r /\ W4 r /\ val ah r = (val ah a * val ah b) % val ah m:=by
 have ba:=ha.bound
 have hpos : 0 < val ah m:=by omega
 obtain ⟨o,e1,e2,e3⟩:=uc (m:=m) (a:=a) (F:=fun q=>(val ah a * q) % val ah m) hb W4.zero (by rw [nh]; simp) (fun q b o hq ho hv=>by
  have hlt:=emod_lt_of_pos (val ah a * q) hpos
  unfold gr.run gr.top
  obtain ⟨r1,k1,k2,k3⟩:=oG ho ho hm (by rw [hv]; exact hlt) (by rw [hv]; exact hlt)
  rw [k1,bind_some]
  have key : val ah r1 = (val ah a * (2 * q)) % val ah m:=by
   rw [k3,hv,<- Int.add_emod]
   grind
  cases b with
  | true =>
   rw [if_pos rfl,if_pos rfl]
   obtain ⟨r2,j1,j2,j3⟩:=oG k2 ha hm (by rw [key]; exact emod_lt_of_pos _ hpos) h1
   rw [j1,bind_some]
   refine ⟨r2,rfl,j2,?_⟩
   rw [j3,key,Int.emod_add_emod,Int.mul_add,mul_one]
  | false =>
   rw [if_neg (by simp),if_neg (by simp)]
   exact ⟨r1,rfl,k2,by rw [key,Int.add_zero]⟩)
 simp_all [iV.run,iV.top]
theorem W4.vv {m : List Int} (h : W4 m) : m = [1,0,0,0] ↔ val ah m = 1 :=
 ⟨fun e=>by rw [e]; exact Dp.2,fun e=>h.eq Dp.1 (by rw [e,Dp.2])⟩
theorem W4.HM {m : List Int} (h : W4 m) : m = [0,0,0,0] ↔ val ah m = 0 :=
 ⟨fun e=>by rw [e]; rfl,fun e=>h.eq W4.zero (by rw [e]; rfl)⟩
theorem E3 {r s : Int} (hr : 0 <= r) (hs : 0 <= s) : gcd s.toNat r.toNat = gcd (r % s).toNat s.toNat:=by
 rw [Nat.gcd_rec,Int.toNat_emod hr hs]
theorem half {r s : Int} {n : Nat} (hs : 0 < s) (hsr : s <= r) (h : r * s < ((2 ^ (n + 1) : Nat) : Int)) : s * (r % s) < ((2 ^ n : Nat) : Int):=by
 have e:=mul_ediv_add_emod r s
 have hm:=emod_nonneg r (show s ≠ 0 by omega)
 have hl:=emod_lt_of_pos r hs
 have hq : 1 <= r / s:=by
  have:=Int.ediv_le_ediv hs hsr
  grind [Int.ediv_self]
 have h1 : s * 1 <= s * (r / s):=Int.mul_le_mul_of_nonneg_left hq (by omega)
 have h2 : 2 * (r % s) <= r:=by omega
 have h3 : s * (2 * (r % s)) <= s * r:=Int.mul_le_mul_of_nonneg_left h2 (by omega)
 grind
def Cg (M x y : Int) : Prop:=x % M = y % M
theorem Cg.mul {M x y : Int} (h : Cg M x y) (z : Int) : Cg M (x * z) (y * z):=by
 grind [mul_emod,Cg]
theorem Cg.mulL {M x y : Int} (h : Cg M x y) (z : Int) : Cg M (z * x) (z * y):=by
 grind [mul_emod,Cg]
theorem Cg.sub {M x y z w : Int} (h : Cg M x y) (k : Cg M z w) : Cg M (x - z) (y - w):=by
 grind [Int.sub_emod,Cg]
theorem Cg.mod {M x : Int} : Cg M (x % M) x:=Int.emod_emod _ _
theorem Cg.trans {M x y z : Int} (h : Cg M x y) (k : Cg M y z) : Cg M x z:=Eq.trans h k
theorem Cg.symm {M x y : Int} (h : Cg M x y) : Cg M y x:=Eq.symm h
theorem inv_one {M a x y : Int} (hx : 0 <= x /\ x < M) (hy : 0 <= y /\ y < M) (h1 : Cg M (a * x) 1) (h2 : Cg M (a * y) 1) : x = y:=by
 have e1 : Cg M (x * (a * y)) x:=by have:=h2.mulL x; rw [mul_one] at this; exact this
 have e2 : Cg M (a * x * y) y:=by have:=h1.mul y; rw [one_mul] at this; exact this
 have e3 : a * x * y = x * (a * y):=by rw [mul_comm a x,mul_assoc]
 rw [e3] at e2
 have e4 : x % M = y % M:=Eq.trans (Eq.symm e1) e2
 simp_all [emod_eq_of_lt]
theorem FD {α : Type} (k : Nat) (Xt : List Int->List Int->List Int->Option α) (m z : List Int) (hm : W4 m) (hM : 0 < val ah m) (A : Int) :
  ∀ (n N : Nat) (t r s u : List Int),n < N->W4 t->W4 r->W4 s->W4 u->val ah t < val ah m->val ah u < val ah m->val ah s <= val ah r->0 < val ah r->val ah r * val ah s < ((2 ^ n : Nat) : Int)->Cg (val ah m) (val ah r) (val ah u * A)->Cg (val ah m) (val ah s) (val ah t * A) ->
  ∃ r' u',gH.l0 k Xt N m z t r s u = Xt z r' u' /\ W4 r' /\ W4 u' /\ val ah u' < val ah m /\ (val ah r').toNat = gcd (val ah s).toNat (val ah r).toNat /\ Cg (val ah m) (val ah r') (val ah u' * A)
 | n,0,t,r,s,u,h,_,_,_,_,_,_,_,_,_,_,_=>by omega
 | n,N + 1,t,r,s,u,h,ht,hr,hs,hu,lt,lu,hsr,hr0,hn,cr,cs=>by
  have bs:=hs.bound
  simp only [gH.l0,gH.bq]
  rw [iQ (.arr 4 (.int .u64)) s [0,0,0,0] rfl]
  by_cases hz : s = [0,0,0,0]
  ·rw [if_neg (by simp [hz])]
   have h0:=hs.HM.1 hz
   refine ⟨r,u,rfl,hr,hu,lu,?_,cr⟩
   rw [h0]; simp
  ·rw [if_pos (by simp [hz])]
   have hs0:=hs.ne.1 hz
   obtain ⟨q,l,d1,d2,d3,d4,d5,d6,d7⟩:=iD hr.1 hr.2 hs.1 hs.2
   rw [if_neg hz] at d6 d7
   obtain ⟨q1,q2,f1,f2,f3,f4,f5,f6,f7⟩:=iD d2 d3 hm.1 hm.2
   have hm0:=hm.ne.2 hM
   rw [if_neg hm0] at f6 f7
   have lq2 : val ah q2 < val ah m:=by rw [f7]; exact emod_lt_of_pos _ hM
   obtain ⟨p,p1,p2,p3⟩:=mh ⟨f4,f5⟩ ht hm lq2
   have lp : val ah p < val ah m:=by rw [p3]; exact emod_lt_of_pos _ hM
   obtain ⟨v,v1,v2,v3⟩:=td hu p2 hm lu lp
   have lv : val ah v < val ah m:=by rw [v3]; exact emod_lt_of_pos _ hM
   rw [d1,bind_some,f1,bind_some,p1,bind_some,v1,bind_some]
   have hl0:=(dL dW d5).1
   have hll : val ah l < val ah s:=by rw [d7]; exact emod_lt_of_pos _ hs0
   have hpos : 0 < val ah r * val ah s:=Int.mul_pos hr0 hs0
   obtain ⟨n',rfl⟩ : ∃ n',n = n' + 1:=by
    cases n with
    | zero=>simp at hn; omega
    | succ n'=>exact ⟨n',rfl⟩
   have hh:=half hs0 hsr hn
   rw [<- d7] at hh
   have cl : Cg (val ah m) (val ah l) (val ah v * A):=by
    have e1 : val ah l = val ah r - val ah s * val ah q:=by
     grind [mul_ediv_add_emod]
    have e2 : Cg (val ah m) (val ah r - val ah s * val ah q) (val ah u * A - val ah t * A * val ah q):=cr.sub (cs.mul _)
    have e3 : val ah u * A - val ah t * A * val ah q = (val ah u - val ah q * val ah t) * A:=by
     grind
    have e4 : Cg (val ah m) (val ah v) (val ah u - val ah q * val ah t):=by
     rw [v3]
     refine Cg.mod.trans (Cg.sub (show Cg _ _ _ from rfl) ?_)
     rw [p3]
     refine Cg.mod.trans ?_
     rw [f7]
     exact Cg.mod.mul _
    rw [e1]
    rw [e3] at e2
    exact e2.trans (e4.mul A).symm
   obtain ⟨r',u',g1,g2,g3,g4,g5,g6⟩:=FD k Xt m z hm hM A n' N v s l t (by omega) v2 hs ⟨d4,d5⟩ ht lv lt (by omega) hs0 hh cs cl
   grind [E3]
theorem CQ {a b : Int} (ha : 0 <= a /\ a < aM) (hb : 0 <= b /\ b < aM) : a * b < ((2 ^ 512 : Nat) : Int):=by
 have h1 : a * b <= a * aM:=Int.mul_le_mul_of_nonneg_left (by omega) ha.1
 grind
theorem B2 {a m : List Int} (ha : W4 a) (hm : W4 m) (h1 : val ah a < val ah m) (he : rL m [a] = 0) :
  ∃ x e,gH.run a m = some (x,e,()) /\ W4 x /\ (gcd (val ah a).toNat (val ah m).toNat = 1->e = 0 /\ val ah x < val ah m /\ Cg (val ah m) (val ah a * val ah x) 1) /\ (gcd (val ah a).toNat (val ah m).toNat ≠ 1->e = 5 /\ x = [0,0,0,0]):=by
 have ba:=ha.bound
 have bm:=hm.bound
 have hM : 0 < val ah m:=by omega
 have hw : ∀ y ∈ [a],W4 y:=fun y hy=>by
  grind
 unfold gH.run gH.top
 rw [vL hm (by simp) hw,bind_some,he,if_neg (by decide)]
 obtain ⟨q,r,d1,_,_,d4,d5,_,d7⟩:=iD Dp.1.1 Dp.1.2 hm.1 hm.2
 rw [if_neg (hm.ne.2 hM),Dp.2] at d7
 rw [d1,bind_some]
 have:=fun N (hN : 512 < N)=>FD N (fun (c4 : List Int) (c10 : List Int) (c12 : List Int)=>gH.j0 (fun (x5 : Int) (c4 : List Int)=>some (c4,x5,())) c4 c10 c12) m [0,0,0,0] hm hM (val ah a) 512 N r m a [0,0,0,0] hN ⟨d4,d5⟩ hm ha W4.zero (by rw [d7]; exact emod_lt_of_pos _ hM) (by rw [nh]; exact hM) (by omega) hM (CQ bm ba) (by
   rw [nh,Int.zero_mul]; unfold Cg; simp) (by
   rw [d7]
   have:=(Cg.mod (M:=val ah m) (x:=1)).mul (val ah a)
   rw [one_mul] at this
   exact this.symm)
 obtain ⟨r',u',g1,g2,g3,g4,g5,g6⟩:=this fuel (by rw [au]; omega)
 rw [g1]
 unfold gH.j0
 rw [iQ (.arr 4 (.int .u64)) r' [1,0,0,0] rfl]
 have br:=g2.bound
 by_cases h1 : r' = [1,0,0,0]
 ·rw [if_neg (by simp [h1])]
  have hv:=g2.vv.1 h1
  rw [hv] at g5 g6
  refine ⟨u',0,rfl,g3,fun _=>⟨rfl,g4,?_⟩,fun hn=>absurd g5.symm hn⟩
  rw [mul_comm]; exact g6.symm
 ·rw [if_pos (by simp [h1])]
  have hv : val ah r' ≠ 1:=fun e=>h1 (g2.vv.2 e)
  refine ⟨_,5,rfl,W4.zero,fun hg=>?_,fun _=>⟨rfl,rfl⟩⟩
  rw [hg] at g5
  omega
theorem qM : ∀ (n N : Nat) (a m : List Int),n < N->W4 a->W4 m->val ah a < val ah m->val ah m * val ah a < ((2 ^ n : Nat) : Int) ->
  ∃ x ok,dD.runN N a m = some (x,ok,()) /\ W4 x /\ (gcd (val ah a).toNat (val ah m).toNat = 1->ok = true /\ val ah x < val ah m /\ Cg (val ah m) (val ah a * val ah x) 1) /\ (gcd (val ah a).toNat (val ah m).toNat ≠ 1->ok = false)
 | n,0,a,m,h,_,_,_,_=>by omega
 | n,N + 1,a,m,h,ha,hm,h1,hn=>by
  have ba:=ha.bound
  have bm:=hm.bound
  have hM : 0 < val ah m:=by omega
  simp only [dD.runN,dD.top]
  rw [iQ (.arr 4 (.int .u64)) m [1,0,0,0] rfl,iQ (.arr 4 (.int .u64)) a [0,0,0,0] rfl,iQ (.arr 4 (.int .u64)) a [1,0,0,0] rfl]
  by_cases hm1 : m = [1,0,0,0]
  ·rw [if_pos (by simp [hm1])]
   have hv:=hm.vv.1 hm1
   refine ⟨_,true,rfl,W4.zero,fun _=>⟨rfl,by rw [nh]; exact hM,?_⟩,fun hg=>?_⟩
   ·grind [Cg]
   simp_all
  ·rw [if_neg (by simp [hm1])]
   have hv1 : val ah m ≠ 1:=fun e=>hm1 (hm.vv.2 e)
   by_cases ha0 : a = [0,0,0,0]
   ·rw [if_pos (by simp [ha0])]
    have hv:=ha.HM.1 ha0
    refine ⟨_,false,rfl,W4.zero,fun hg=>?_,fun _=>rfl⟩
    rw [hv] at hg
    simp at hg
    omega
   ·rw [if_neg (by simp [ha0])]
    have hap:=ha.ne.1 ha0
    by_cases ha1 : a = [1,0,0,0]
    ·rw [if_pos (by simp [ha1])]
     have hv:=ha.vv.1 ha1
     simp_all [Cg]
    ·rw [if_neg (by simp [ha1])]
     have hv2 : val ah a ≠ 1:=fun e=>ha1 (ha.vv.2 e)
     obtain ⟨q,r,_,e2,n1,d1,n2,d2,vq,vr⟩:=oK hm.1 hm.2 ha.1 ha.2
     rw [if_neg ha0] at vq vr
     rw [e2,bind_some]
     have hr : W4 r:=⟨n2,d2⟩
     have hq : W4 q:=⟨n1,d1⟩
     have br:=hr.bound
     have hra : val ah r < val ah a:=by rw [vr]; exact emod_lt_of_pos _ hap
     have hpos : 0 < val ah m * val ah a:=Int.mul_pos hM hap
     obtain ⟨n',rfl⟩ : ∃ n',n = n' + 1:=by
      cases n with
      | zero=>simp at hn; omega
      | succ n'=>exact ⟨n',rfl⟩
     have hh:=half hap (by omega) hn
     rw [<- vr] at hh
     obtain ⟨s,ok,s1,s2,s3,s4⟩:=qM n' N r a (by omega) hr ha hra hh
     have hg : gcd (val ah a).toNat (val ah m).toNat = gcd (val ah r).toNat (val ah a).toNat:=by
      grind [E3]
     rw [s1,bind_some,hg]
     by_cases h1g : gcd (val ah r).toNat (val ah a).toNat = 1
     ·obtain ⟨rfl,ls,cs⟩:=s3 h1g
      simp only [Bool.not_true]
      rw [if_neg (by simp)]
      have bs:=s2.bound
      obtain ⟨x,x1,x2,x3,x4⟩:=fE hr.1 hr.2
      obtain ⟨y,y1,y2,y3,y4⟩:=fE s2.1 s2.2
      obtain ⟨p,p1,p2,p3,p4⟩:=lW x3 y3 (by omega) (by omega)
      rw [x4,y4] at p4
      have hrs0 : 0 <= val ah r * val ah s:=Int.mul_nonneg br.1 bs.1
      have hcs : (val ah r * val ah s) % val ah a = 1:=by
       have h:=cs
       unfold Cg at h
       rw [h]; exact emod_eq_of_lt (by omega) (by omega)
      have hk:=mul_ediv_add_emod (val ah r * val ah s) (val ah a)
      rw [hcs] at hk
      have hk0 : 0 <= val ah r * val ah s / val ah a:=ediv_nonneg hrs0 (by omega)
      have hk1 : 0 <= val ah a * (val ah r * val ah s / val ah a):=Int.mul_nonneg (by omega) hk0
      have v1 : val bM [1] = 1:=rfl
      obtain ⟨l,l1,l2,l3,l4⟩:=p0 p3 (E0 (d:=1) (by omega)) (by omega) (by rw [p4,v1]; omega)
      rw [p4,v1] at l4
      obtain ⟨z,z1,z2,z3,z4⟩:=fE ha.1 ha.2
      obtain ⟨kq,kr,k1,k2,k3,_,_,k6,_⟩:=qK l3 z3 (by omega) (by omega) (by omega)
      have hkv : val bM kq = val ah r * val ah s / val ah a:=by
       grind [Int.mul_ediv_cancel_left]
      obtain ⟨qq,q1,q2,q3,q4⟩:=fE hq.1 hq.2
      obtain ⟨w,w1,w2,w3,w4⟩:=lW q3 y3 (by omega) (by omega)
      obtain ⟨t,t1,t2,t3,t4⟩:=mK w3 k3 (by omega) (by omega)
      obtain ⟨g,g1,g2,g3⟩:=o7 t3 (by omega) hm hM
      obtain ⟨o,o1,o2,o3⟩:=va g2 hm (by rw [g3]; exact emod_lt_of_pos _ hM)
      rw [x1,bind_some,y1,bind_some,p1,bind_some,l1,bind_some,z1,bind_some,k1,bind_some,q1,bind_some,bind_some,w1,bind_some,t1,bind_some,g1,bind_some,o1,bind_some]
      refine ⟨o,true,rfl,o2,fun _=>⟨rfl,by rw [o3]; exact emod_lt_of_pos _ hM,?_⟩,fun hng=>absurd h1g hng⟩
      have hT : val ah a * val bM t = val ah m * val ah s - 1:=by
       grind [mul_ediv_add_emod]
      have c1 : Cg (val ah m) (val ah o) (0 - val bM t):=by
       rw [o3,g3]
       refine Cg.mod.trans ?_
       have : - (val bM t % val ah m) = 0 - val bM t % val ah m:=by omega
       rw [this]
       exact Cg.sub rfl Cg.mod
      refine (c1.mulL (val ah a)).trans ?_
      rw [Int.mul_sub,hT,Int.mul_zero]
      unfold Cg
      have : 0 - (val ah m * val ah s - 1) = 1 + val ah m * (- val ah s):=by rw [Int.mul_neg]; omega
      simp_all
     ·have:=s4 h1g
      subst this
      simp only [Bool.not_false]
      rw [if_pos trivial]
      exact ⟨_,false,rfl,W4.zero,fun hg=>absurd hg h1g,fun _=>rfl⟩
def mk (n : Int) : List Int:=[n % 18446744073709551616,n / 18446744073709551616 % 18446744073709551616,n / 18446744073709551616 / 18446744073709551616 % 18446744073709551616,n / 18446744073709551616 / 18446744073709551616 / 18446744073709551616 % 18446744073709551616]
theorem df (n : Int) : W4 (mk n):=by
 refine ⟨rfl,fun d hd=>?_⟩
 simp only [mk,mem_cons,not_mem_nil,or_false] at hd
 grind
theorem mk_val {n : Int} (h : 0 <= n /\ n < aM) : val ah (mk n) = n:=by
 have h2:=h.2
 unfold aM at h2
 simp only [mk,val,ah]
 omega
theorem oc {l : List Int} (h : W4 l) : l = mk (val ah l):=h.eq (df _) (mk_val h.bound).symm
theorem mk_eq {l : List Int} {n : Int} (h : W4 l) (e : val ah l = n) : l = mk n:=by subst e; exact oc h
theorem mk_inj {a b : Int} (ha : 0 <= a /\ a < aM) (hb : 0 <= b /\ b < aM) : mk a = mk b ↔ a = b :=
 ⟨fun h=>by rw [<- mk_val ha,<- mk_val hb,h],fun h=>by rw [h]⟩
theorem mk_zero : mk 0 = [0,0,0,0]:=by decide
theorem M1 {n : Int} (h : 0 <= n /\ n < 18446744073709551616) : [n,0,0,0] = mk n:=by
 simp_all [mk,emod_eq_of_lt,Int.ediv_eq_zero_of_lt]
end Go.Bx
namespace Go.Bx.Rg
open Go Go.Bx
section
variable {M : Int} (hM : 1 < M /\ M < aM)
include hM
theorem iI : val ah (mk M) = M:=mk_val ⟨by omega,hM.2⟩
theorem xC {a : Int} (ha : 0 <= a /\ a < M) : val ah (mk a) = a:=mk_val ⟨ha.1,by omega⟩
theorem Dm {l : List Int} (hl : ∀ a ∈ l,0 <= a /\ a < M) : rL (mk M) (l.map mk) = 0:=by
 have hne : mk M ≠ [0,0,0,0]:=(df M).ne.2 (by rw [iI hM]; omega)
 unfold rL
 rw [if_neg hne]
 induction l with
 | nil=>rfl
 | cons a l ih =>
  simp only [List.map_cons,below]
  rw [iI hM,xC hM (hl a (by simp)),if_pos (hl a (by simp)).2]
  exact ih fun b hb=>hl b (List.mem_cons_of_mem _ hb)
theorem wO (a : Int) : 0 <= a % M /\ a % M < M:=⟨emod_nonneg _ (by omega),emod_lt_of_pos _ (by omega)⟩
theorem Gj {a b : Int} (ha : 0 <= a /\ a < M) (hb : 0 <= b /\ b < M) : cT.run (mk M) [mk a,mk b] = some 0:=by
 rw [vL (df M) (by simp) (fun x hx=>by
  simp only [mem_cons,not_mem_nil,or_false] at hx
  rcases hx with rfl | rfl <;> exact df _)]
 rw [show [mk a,mk b] = [a,b].map mk from rfl,Dm hM (fun x hx=>by
  simp only [mem_cons,not_mem_nil,or_false] at hx
  rcases hx with rfl | rfl <;> assumption)]
theorem KJ {a b : Int} (ha : 0 <= a /\ a < M) (hb : 0 <= b /\ b < M) : ke.run (mk a) (mk b) (mk M) = some (mk (a * b % M),0,()):=by
 obtain ⟨r,e1,w,v⟩:=mh (df a) (df b) (df M) (by rw [xC hM ha,iI hM]; exact ha.2)
 rw [xC hM ha,xC hM hb,iI hM] at v
 unfold ke.run ke.top mF.run mF.top
 rw [Gj hM ha hb,bind_some,if_neg (by decide),e1,bind_some,bind_some,mk_eq w v]
theorem QW {a b : Int} (ha : 0 <= a /\ a < M) (hb : 0 <= b /\ b < M) : np.run (mk a) (mk b) (mk M) = some (mk ((a + b) % M),0,()):=by
 obtain ⟨r,e1,w,v⟩:=oG (df a) (df b) (df M) (by rw [xC hM ha,iI hM]; exact ha.2) (by rw [xC hM hb,iI hM]; exact hb.2)
 rw [xC hM ha,xC hM hb,iI hM] at v
 unfold np.run np.top mH.run mH.top
 rw [Gj hM ha hb,bind_some,if_neg (by decide),e1,bind_some,bind_some,mk_eq w v]
theorem Pd {a b : Int} (ha : 0 <= a /\ a < M) (hb : 0 <= b /\ b < M) : km.run (mk a) (mk b) (mk M) = some (mk ((a - b) % M),0,()):=by
 obtain ⟨r,e1,w,v⟩:=td (df a) (df b) (df M) (by rw [xC hM ha,iI hM]; exact ha.2) (by rw [xC hM hb,iI hM]; exact hb.2)
 rw [xC hM ha,xC hM hb,iI hM] at v
 unfold km.run km.top my.run my.top
 rw [Gj hM ha hb,bind_some,if_neg (by decide),e1,bind_some,bind_some,mk_eq w v]
theorem zh {a b : Int} (f : Bool) (ha : 0 <= a /\ a < M) (hb : 0 <= b /\ b < M) : aR.run (mk M) (mk a) (mk b) f = some (mk (a * b % M),f,mk (a * b % M),()):=by
 unfold aR.run aR.top
 rw [KJ hM ha hb]; rfl
theorem sw {a b : Int} (f : Bool) (ha : 0 <= a /\ a < M) (hb : 0 <= b /\ b < M) : cg.run (mk M) (mk a) (mk b) f = some (mk ((a + b) % M),f,mk ((a + b) % M),()):=by
 unfold cg.run cg.top
 rw [QW hM ha hb]; rfl
theorem JW {a b : Int} (f : Bool) (ha : 0 <= a /\ a < M) (hb : 0 <= b /\ b < M) : cZ.run (mk M) (mk a) (mk b) f = some (mk ((a - b) % M),f,mk ((a - b) % M),()):=by
 unfold cZ.run cZ.top
 rw [Pd hM ha hb]; rfl
theorem FT {n : Int} (f : Bool) (hn : 0 <= n /\ n < 18446744073709551616) : dz.run (mk M) n f = some (mk (n % M),f,mk (n % M),()):=by
 unfold dz.run dz.top
 have hne : mk M ≠ [0,0,0,0]:=(df M).ne.2 (by rw [iI hM]; omega)
 have hn2 : 0 <= n /\ n < aM:=⟨hn.1,Int.lt_of_lt_of_le hn.2 (show (18446744073709551616 : Int) <= aM by decide)⟩
 obtain ⟨q,r,d1,_,_,d4,d5,_,d7⟩:=iD (df n).1 (df n).2 (df M).1 (df M).2
 rw [if_neg hne,mk_val hn2,iI hM] at d7
 rw [M1 hn,d1,bind_some,mk_eq (⟨d4,d5⟩ : W4 r) d7]
theorem SS {a : Int} (f : Bool) (ha : 0 <= a /\ a < M) : ∃ (x : Int) (ok : Bool) (y : List Int),(0 <= x /\ x < M) /\ fX.run (mk M) (mk a) f = some (mk x,(f || !ok),mk x,()) /\ dD.run (mk a) (mk M) = some (y,ok,()) /\ (ok = true->y = mk x) /\ (a = 0->ok = false) /\ (ok = true->a * x % M = 1 % M):=by
 have hlt : val ah (mk a) < val ah (mk M):=by rw [xC hM ha,iI hM]; exact ha.2
 have he : rL (mk M) [mk a] = 0:=by
  rw [show [mk a] = [a].map mk from rfl,Dm hM (fun x hx=>by simp only [mem_cons,not_mem_nil,or_false] at hx; subst hx; exact ha)]
 obtain ⟨x,e,e1,e2,e3,e4⟩:=B2 (df a) (df M) hlt he
 have:=fun N (hN : 512 < N)=>qM 512 N (mk a) (mk M) hN (df a) (df M) hlt (CQ (df M).bound (df a).bound)
 obtain ⟨y,ok,f1,f2,f3,f4⟩:=this fuel (by rw [au]; omega)
 unfold fX.run fX.top
 rw [e1,bind_some]
 by_cases hg : gcd (val ah (mk a)).toNat (val ah (mk M)).toNat = 1
 ·obtain ⟨rfl,l1,c1⟩:=e3 hg
  obtain ⟨rfl,l2,c2⟩:=f3 hg
  have hxy:=inv_one ⟨e2.bound.1,l1⟩ ⟨f2.bound.1,l2⟩ c1 c2
  rw [iI hM] at l1
  refine ⟨val ah x,true,y,⟨e2.bound.1,l1⟩,?_,f1,fun _=>?_,fun h0=>?_,fun _=>?_⟩
  ·rw [<- oc e2]; cases f <;> rfl
  ·grind [oc]
  ·subst h0
   rw [xC hM ha,iI hM] at hg
   simp at hg
   omega
  ·rw [xC hM ha,iI hM] at c1
   exact c1
 ·obtain ⟨rfl,rfl⟩:=e4 hg
  have:=f4 hg
  subst this
  refine ⟨0,false,y,⟨by omega,by omega⟩,?_,f1,fun h=>absurd h (by decide),fun _=>rfl,fun h=>absurd h (by decide)⟩
  rw [mk_zero]; cases f <;> rfl
theorem jZ {a b : Int} (ha : 0 <= a /\ a < M) (hb : 0 <= b /\ b < M) : aJ.run (mk a) (mk b) (mk M) = some (mk (a * b % M)):=by
 obtain ⟨r,e1,w,v⟩:=ru (df a) (df b) (df M) (by rw [xC hM ha,iI hM]; exact ha.2) (by rw [xC hM hb,iI hM]; exact hb.2)
 grind [xC,iI,mk_eq]
theorem lA {a b : Int} (ha : 0 <= a /\ a < M) (hb : 0 <= b /\ b < M) : bC.run (mk a) (mk b) (mk M) = some (mk ((a + b) % M)):=by
 obtain ⟨r,e1,w,v⟩:=Jy (df a) (df b) (df M) (by rw [iI hM]; omega)
 grind [xC,iI,mk_eq]
theorem iW {a : Int} (ha : 0 <= a /\ a < M) : aW.run (mk a) (mk M) = some (mk ((-a) % M)):=by
 obtain ⟨r,e1,w,v⟩:=va (df a) (df M) (by rw [xC hM ha,iI hM]; exact ha.2)
 grind [xC,iI,mk_eq]
theorem Sd {n : Int} (hn : 0 <= n /\ n < 4294967296) : gk.run n (mk M) = some (mk (n % M)):=by
 unfold gk.run gk.top
 have e1 : tmod n 4294967296 = n:=by rw [iY hn.1]; exact emod_eq_of_lt hn.1 hn.2
 have e2 : IntKind.u64.wrap (tdiv n 4294967296) = 0:=by rw [iE hn.1,Int.ediv_eq_zero_of_lt hn.1 hn.2]; rfl
 rw [e1,e2]
 obtain ⟨r,k1,w,v⟩:=o7 (d:=[n,0]) (cU.2 ⟨hn,cU.2 ⟨by decide,gP⟩⟩) (by simp) (df M) (by rw [iI hM]; omega)
 grind [iI,val,mk_eq]
theorem Hj {a : Int} (ha : 0 <= a /\ a < M) : ax (.arr 4 (.int .u64)) (mk a) [0,0,0,0] = decide (a = 0):=by
 rw [<- mk_zero,Bool.eq_iff_iff,jB _ _ _ rfl,decide_eq_true_eq]
 grind [mk_inj]
theorem HF {a : Int} (ha : 0 <= a /\ a < M) : aB.run (mk a) = some (decide (a = 0)):=by
 unfold aB.run aB.top
 rw [Hj hM ha]
theorem Tg {a b : Int} (ha : 0 <= a /\ a < M) (hb : 0 <= b /\ b < M) : ax (.arr 4 (.int .u64)) (mk a) (mk b) = decide (a = b):=by
 rw [Bool.eq_iff_iff,jB _ _ _ rfl,decide_eq_true_eq]
 grind [mk_inj]
end
def sg (x y : Int) : Int:=if x < y then -1 else if x > y then 1 else 0
theorem AJ {a b : Int} (ha : 0 <= a /\ a < aM) (hb : 0 <= b /\ b < aM) : cD.run (mk a) (mk b) = some (sg a b):=by
 unfold sg
 rw [nP (df a).1 (df b).1 (df a).2 (df b).2,mk_val ha,mk_val hb]
theorem oA {a b : Int} (ha : 0 <= a /\ a < aM) (hb : 0 <= b /\ b < aM) : aF.run (mk a) (mk b) = some (sg a b):=by
 unfold sg
 rw [Cr (df a) (df b),mk_val ha,mk_val hb]
end Go.Bx.Rg
namespace Go.Bx
open Go
section
variable {x m : List Int} {A M : Int}
theorem N7 (N : Int) (e : Nat) (hN : 0 <= N) (A : Int) : A ^ (N % ((2 ^ (e + 1) : Nat) : Int)).toNat = A ^ (N % ((2 ^ e : Nat) : Int)).toNat * (if N / ((2 ^ e : Nat) : Int) % 2 = 1 then A ^ (2 ^ e) else 1):=by
 have hpos : 0 < ((2 ^ e : Nat) : Int):=by have:=two_pow_pos e; omega
 have e2 : ((2 ^ (e + 1) : Nat) : Int) = ((2 ^ e : Nat) : Int) * 2:=by rw [pow_succ]; simp
 have key : N % ((2 ^ (e + 1) : Nat) : Int) = N % ((2 ^ e : Nat) : Int) + ((2 ^ e : Nat) : Int) * (N / ((2 ^ e : Nat) : Int) % 2):=by
  grind [Int.ediv_ediv_of_nonneg,mul_ediv_add_emod]
 have hr0:=emod_nonneg N (show ((2 ^ e : Nat) : Int) ≠ 0 by omega)
 rw [key]
 by_cases hb : N / ((2 ^ e : Nat) : Int) % 2 = 1
 ·rw [if_pos hb,hb,mul_one]
  grind [Int.toNat_add]
 grind
theorem qO {α : Type} (k : Nat) (Xt : List Int->Int->List Int->List Int->List Int->List Int->Option α) (hx : W4 x) (hm : W4 m) (hM : 0 < val ah m) (z : List Int) (j : Nat) (hj : j < 4) :
  ∀ (n i : Nat) (c o : List Int),64 - i < n->i <= 64->W4 c->W4 o->val ah c = A ^ (2 ^ (64 * j + i)) % val ah m->val ah o = A ^ (val ah x % ((2 ^ (64 * j + i) : Nat) : Int)).toNat % val ah m ->
  ∃ c' o',bw.l1 k Xt n (x.getD j 0) (i : Int) x (j : Int) c m z o = Xt x (j : Int) c' m z o' /\ W4 c' /\ W4 o' /\ val ah c' = A ^ (2 ^ (64 * j + 64)) % val ah m /\ val ah o' = A ^ (val ah x % ((2 ^ (64 * j + 64) : Nat) : Int)).toNat % val ah m
 | 0,i,c,o,h,_,_,_,_,_=>by omega
 | n + 1,i,c,o,h,hi,hc,ho,vc,vo=>by
  simp only [bw.l1,bw.me]
  by_cases hlt : i < 64
  ·rw [if_pos (dT (by omega)),if_pos (by omega)]
   obtain ⟨X,hX,hX2⟩:=jl (cO dW hx.2 j)
   have hbit:=C6 hx.2 (w:=j) (k:=i) (by omega) hX
   have hs : X >>> i < 18446744073709551616:=Nat.lt_of_le_of_lt (Nat.shiftRight_le _ _) hX2
   have hband : cF .u64 (fh .u64 (x.getD j 0) (i : Int)) 1 = val ah x / ((2 ^ (64 * j + i) : Nat) : Int) % 2:=by
    grind [na,jv]
   rw [hband]
   have hcl : val ah c < val ah m:=by rw [vc]; exact emod_lt_of_pos _ hM
   have hol : val ah o < val ah m:=by rw [vo]; exact emod_lt_of_pos _ hM
   obtain ⟨c2,q1,q2,q3⟩:=ru hc hc hm hcl hcl
   have vc2 : val ah c2 = A ^ (2 ^ (64 * j + (i + 1))) % val ah m:=by
    rw [q3,vc,<- mul_emod,<- Int.pow_add,<- Nat.add_assoc,pow_succ,Nat.mul_two]
   unfold bw.j0
   have hl:=N7 (val ah x) (64 * j + i) hx.bound.1 A
   by_cases hb : val ah x / ((2 ^ (64 * j + i) : Nat) : Int) % 2 = 1
   ·rw [if_pos (by simpa using hb)]
    rw [if_pos hb] at hl
    obtain ⟨o2,p1,p2,p3⟩:=ru ho hc hm hol hcl
    rw [p1,bind_some,q1,bind_some,aG (by omega)]
    exact qO k Xt hx hm hM z j hj n (i + 1) c2 o2 (by omega) (by omega) q2 p2 vc2 (by
     rw [<- Nat.add_assoc,hl,p3,vo,vc,<- mul_emod])
   ·rw [if_neg (by simpa using hb)]
    rw [if_neg hb,mul_one] at hl
    rw [q1,bind_some,aG (by omega)]
    exact qO k Xt hx hm hM z j hj n (i + 1) c2 o (by omega) (by omega) q2 ho vc2 (by
     rw [<- Nat.add_assoc,hl,vo])
  grind
theorem wB {α : Type} (k : Nat) (hk : 64 < k) (Xt : List Int->List Int->Option α) (hx : W4 x) (hm : W4 m) (hM : 0 < val ah m) (z : List Int) :
  ∀ (n j : Nat) (c o : List Int),4 - j < n->j <= 4->W4 c->W4 o->val ah c = A ^ (2 ^ (64 * j)) % val ah m->val ah o = A ^ (val ah x % ((2 ^ (64 * j) : Nat) : Int)).toNat % val ah m ->
  ∃ o',bw.l0 k Xt n x (j : Int) c m z o = Xt z o' /\ W4 o' /\ val ah o' = A ^ (val ah x).toNat % val ah m
 | 0,j,c,o,h,_,_,_,_,_=>by omega
 | n + 1,j,c,o,h,hj,hc,ho,vc,vo=>by
  simp only [bw.l0,bw.bq]
  by_cases hlt : j < 4
  ·rw [if_pos (dT (by omega)),if_pos (by omega),ag]
   obtain ⟨c',o',e1,e2,e3,e4,e5⟩:=qO (A:=A) k (fun (x14 : List Int) (x15 : Int) (c3 : List Int) (c5 : List Int) (c6 : List Int) (c7 : List Int)=>bw.j1 (bw.l0 k Xt n) x14 x15 c3 c5 c6 c7) hx hm hM z j hlt k 0 c o (by omega) (by omega) hc ho vc vo
   have e0 : ((0 : Nat) : Int) = 0:=rfl
   rw [e0] at e1
   rw [e1]
   unfold bw.j1
   rw [aG (by omega)]
   have h64 : 64 * j + 64 = 64 * (j + 1):=by omega
   rw [h64] at e4 e5
   exact wB k hk Xt hx hm hM z n (j + 1) c' o' (by omega) (by omega) e2 e3 e4 e5
  ·have : j = 4:=by omega
   subst this
   rw [if_neg (by simp)]
   refine ⟨o,rfl,ho,?_⟩
   rw [vo]
   have hb:=dL dW hx.2
   rw [hx.1,En] at hb
   grind
theorem IJ {a : List Int} (ha : W4 a) (hx : W4 x) (hm : W4 m) (h1 : val ah a < val ah m) : ∃ r,bw.run a x m = some r /\ W4 r /\ val ah r = val ah a ^ (val ah x).toNat % val ah m:=by
 have ba:=ha.bound
 have hM : 0 < val ah m:=by omega
 obtain ⟨o,o1,o2,o3⟩:=o7 (d:=[1]) (E0 (by omega)) (by simp) hm hM
 have v1 : val bM [1] = 1:=rfl
 rw [v1] at o3
 unfold bw.run bw.top
 rw [o1,bind_some]
 have:=fun N (hN : 64 < N)=>wB (A:=val ah a) N hN (fun (c6 : List Int) (c7 : List Int)=>bw.j2 (fun (c6 : List Int)=>some c6) c6 c7) hx hm hM [0,0,0,0] N 0 a o (by omega) (by omega) ha o2 (by
  rw [Nat.mul_zero,Nat.pow_zero,Int.pow_succ,Int.pow_zero,one_mul,emod_eq_of_lt ba.1 h1]) (by
  rw [o3,Nat.mul_zero,Nat.pow_zero]; simp)
 obtain ⟨r,r1,r2,r3⟩:=this fuel (by rw [au]; omega)
 exact ⟨r,r1,r2,r3⟩
end
end Go.Bx
namespace Go.Bx.Rg
open Go Go.Bx
section
variable {M : Int} (hM : 1 < M /\ M < aM)
include hM
theorem GO {a x : Int} (ha : 0 <= a /\ a < M) (hx : 0 <= x /\ x < aM) : bw.run (mk a) (mk x) (mk M) = some (mk (a ^ x.toNat % M)):=by
 obtain ⟨r,e1,w,v⟩:=IJ (df a) (df x) (df M) (by rw [xC hM ha,iI hM]; exact ha.2)
 grind [mk_val,mk_eq]
end
end Go.Bx.Rg
