/- Laws about functions of plain data, in plain Lean. -/
import Derived.Test.YtjhlmecfjfcohaaGreatDoorLawsPostDoes4
import Derived.Test.YtjhlmecfjfcohaaGreatDoorLawsPostDoes1
import Derived.Test.YtjhlmecfjfcohaaGreatDoorLawsPostDoes0
import Derived.Test.YtjhlmecfjfcohaaGreatDoorFnPostDoes1
open Bool (and_eq_true false_eq_true)
open List (append_assoc length_append length_cons length_nil mem_cons mem_cons_of_mem not_mem_nil replicate)
open Nat (ble)
open Option (bind_some)
set_option maxRecDepth 100000
set_option linter.unusedVariables false
set_option linter.unusedSimpArgs false
namespace Go.Bx
open Go
abbrev cC : Type:=List Int × Int × Int × fB × Unit
abbrev gN : Type:=Int × Int × List iX × List cC × List (List Int) × Int × List en × Unit
abbrev A0 : cC:=(replicate 32 0,0,0,([0,0,0,0],[],()),())
abbrev Sz : en:=(0,0,0,replicate 32 0,0,0,[],())
def eO (n : Int) : Bool:=decide (0 <= n) && decide (n <= 2)
theorem so (n : Int) : ic.run n = some (eO n):=by
 unfold ic.run ic.top eO
 grind
theorem oh (n : Int) : cX.run n = some (eO n):=by
 unfold cX.run cX.top
 rw [po]; rfl
theorem qk (n : Int) : ∃ e,gV.run n = some e /\ dv.run n = some e:=by
 refine ⟨_,rfl,?_⟩
 rfl
def o0 (c : fB) : Int:=if c.2.1.length > 40 then 1 else if jt c = true then 0 else 12
def AB (a b : cC) : Bool:=!(ax (.arr 32 (.int .u8)) a.1 b.1 && b.2.1 == a.2.1)
def M7 (ch : Int) (a : cC) : Bool:=eO a.2.1 && (o0 a.2.2.2.1 == 0) && (decide (a.2.2.1 >= 0) && decide (a.2.2.1 < 78)) && (a.2.1 == ch || decide (a.2.2.1 <= 8))
def sM (ch : Int) : List cC->List cC->Bool
 | [],_=>true
 | a :: R,P=>M7 ch a && P.all (AB a) && sM ch R (P ++ [a])
theorem Ok (x y : List Int) : ax (.arr 32 (.int .u8)) x y = ax (.arr 32 (.int .u8)) y x:=by
 rw [Bool.eq_iff_iff,jB _ _ _ rfl,jB _ _ _ rfl]; exact eq_comm
theorem Lk (a b : cC) : ((!ax (.arr 32 (.int .u8)) a.1 b.1) || (a.2.1 != b.2.1)) = AB a b:=by
 unfold AB
 grind
theorem Nj (a b : cC) : (!(ax (.arr 32 (.int .u8)) b.1 a.1 && (b.2.1 == a.2.1))) = AB a b:=by
 unfold AB; rw [Ok]
theorem A2 {α : Type} (Xt : Bool->List cC->Int->Int->gN->Option α) (K : Nat) (l : List cC) (hl : l.length <= 1000) (x51 : List cC) (x52 x53 : Int) (c1 : gN) (a : cC) : ∀ (R P : List cC) (n : Nat) (x : Bool),R.length < n->l = P ++ R ->
  cu.l1 K Xt n x x51 x52 x53 l (l.length : Int) (P.length : Int) c1 a = Xt (x && R.all (AB a)) x51 x52 x53 c1
 | R,P,0,x,h,_=>by omega
 | [],P,n + 1,x,h,hc=>by
  simp_all [cu.l1,cu.me]
 | y :: R,P,n + 1,x,h,hc=>by
  have hlen : l.length = P.length + (R.length + 1):=by rw [hc]; simp
  simp only [cu.l1,cu.me]
  have hg : l.getD P.length A0 = y:=by rw [hc]; exact ef _ _ _ _
  rw [if_pos (dT (by omega)),if_pos (by omega),aG (by omega),ag,hg,cA,bS,Lk]
  have ih:=A2 Xt K l hl x51 x52 x53 c1 a R (P ++ [y]) n (x && AB a y) (by simpa using h) (by simp [hc])
  rw [length_append] at ih
  refine Eq.trans ih ?_
  grind
theorem Ba {α : Type} (Xt : Bool->Int->gN->Option α) (K : Nat) (c1 : gN) (l : List cC) (hc1 : c1.2.2.2.1 = l) (hl : l.length <= 1000) (a : cC) (i : Nat) (hi : i <= l.length) : ∀ (m j n : Nat) (x : Bool),m < n->j + m = i ->
  ai.l1 K Xt n x (i : Int) (j : Int) c1 a = Xt (x && ((l.drop j).take m).all (AB a)) (i : Int) c1
 | m,j,0,x,h,_=>by omega
 | 0,j,n + 1,x,h,hj=>by
  simp_all [ai.l1,ai.me]
 | m + 1,j,n + 1,x,h,hj=>by
  simp only [ai.l1,ai.me]
  have e1 : decide (0 <= (j : Int) /\ (j : Int) < (c1.2.2.2.1.length : Int)) = true:=by rw [decide_eq_true_eq,hc1]; omega
  rw [if_pos (dT (by omega)),e1,Bool.true_or,Bool.true_or,cond_true,cond_true,aG (by omega),ag,hc1,bS,bS,Nj]
  refine (Ba Xt K c1 l hc1 hl a i hi m (j + 1) n _ (by omega) (by omega)).trans ?_
  grind [List.drop_eq_getElem_cons]
theorem BN {α : Type} (Xt : Bool->gN->Option α) (K : Nat) (hK : 1000 < K) (c1 : gN) (l : List cC) (hc1 : c1.2.2.2.1 = l) (hl : l.length <= 1000) (hw : ∀ a ∈ l,ir a.2.2.2.1) : ∀ (R P : List cC) (n : Nat) (x : Bool),R.length < n->l = P ++ R ->
  cu.l0 K Xt n x l (l.length : Int) (P.length : Int) c1 = Xt (x && sM c1.1 R P) c1
 | R,P,0,x,h,_=>by omega
 | [],P,n + 1,x,h,hc=>by
  simp_all [cu.l0,cu.bq,sM]
 | y :: R,P,n + 1,x,h,hc=>by
  have hlen : l.length = P.length + (R.length + 1):=by rw [hc]; simp
  simp only [cu.l0,cu.bq]
  have hg : l.getD P.length A0 = y:=by rw [hc]; exact ef _ _ _ _
  have hcut : ay l 0 (P.length : Int) = P:=by rw [hc]; exact zg P (y :: R)
  have hy : cI.run y.2.2.2.1 = some (o0 y.2.2.2.1):=kU _ (hw y (by rw [hc]; simp))
  rw [if_pos (dT (by omega)),if_pos (by omega),ag,hg,so,hy]
  have e1 : (if (x == true) = true then some (eO y.2.1) else some false) = some (x && eO y.2.1):=by cases x <;> rfl
  rw [e1,bind_some]
  simp only [bS,cA]
  have e2 : (if ((x && (x && eO y.2.1)) == true) = true then some (o0 y.2.2.2.1) else some 0) = some (if (x && eO y.2.1) = true then o0 y.2.2.2.1 else 0):=by cases x <;> cases eO y.2.1 <;> rfl
  rw [e2,bind_some,hc1,if_pos (by omega),hcut]
  have hb : (x && (x && eO y.2.1) && ((if (x && eO y.2.1) = true then o0 y.2.2.2.1 else 0) == 0) && decide (y.2.2.1 >= 0) && decide (y.2.2.1 < 78) && (y.2.1 == c1.1 || decide (y.2.2.1 <= 8))) = (x && M7 c1.1 y):=by
   grind [M7]
  rw [hb]
  refine (A2 _ K P (by omega) l _ _ c1 y P [] K (x && M7 c1.1 y) (by omega) rfl).trans ?_
  unfold cu.j0
  rw [aG (by omega)]
  have ih:=BN Xt K hK c1 l hc1 hl hw R (P ++ [y]) n (x && M7 c1.1 y && P.all (AB y)) (by simpa using h) (by simp [hc])
  rw [length_append] at ih
  refine Eq.trans ih ?_
  grind [sM]
theorem AN {α : Type} (Xt : Bool->gN->Option α) (K : Nat) (hK : 1000 < K) (c1 : gN) (l : List cC) (hc1 : c1.2.2.2.1 = l) (hl : l.length <= 1000) (hw : ∀ a ∈ l,ir a.2.2.2.1) : ∀ (R P : List cC) (n : Nat) (x : Bool),R.length < n->l = P ++ R ->
  ai.l0 K Xt n x (P.length : Int) c1 = Xt (x && sM c1.1 R P) c1
 | R,P,0,x,h,_=>by omega
 | [],P,n + 1,x,h,hc=>by
  simp_all [ai.l0,ai.bq,sM]
 | y :: R,P,n + 1,x,h,hc=>by
  have hlen : l.length = P.length + (R.length + 1):=by rw [hc]; simp
  simp only [ai.l0,ai.bq]
  rw [hc1,show decide ((P.length : Int) < (l.length : Int)) = true by rw [decide_eq_true_eq]; omega,bS,Bool.and_true]
  cases x with
  | false=>rw [if_neg (by decide)]; rfl
  | true =>
   have hg : l.getD P.length A0 = y:=by rw [hc]; exact ef _ _ _ _
   have hy : aP.run y.2.2.2.1 = some (o0 y.2.2.2.1):=by
    have h1:=kU _ (hw y (by rw [hc]; simp))
    rw [tY _ (hw y (by rw [hc]; simp)),h1]; rfl
   rw [if_pos rfl,if_pos (by omega),ag,hg,oh,bind_some,hy,po]
   simp only [bS,cA]
   have e1 : (if (eO y.2.1 == true) = true then some (o0 y.2.2.2.1) else some 0) = some (if eO y.2.1 = true then o0 y.2.2.2.1 else 0):=by cases eO y.2.1 <;> rfl
   rw [e1,bind_some]
   have e2 : (if ((eO y.2.1 && ((if eO y.2.1 = true then o0 y.2.2.2.1 else 0) == 0)) == true) = true then some (decide (0 <= y.2.2.1) && decide (y.2.2.1 <= 77)) else some false) = some ((eO y.2.1 && (o0 y.2.2.2.1 == 0)) && (decide (0 <= y.2.2.1) && decide (y.2.2.1 <= 77))):=by
    grind
   rw [e2,bind_some]
   have hb : ((eO y.2.1 && ((if eO y.2.1 = true then o0 y.2.2.2.1 else 0) == 0) && ((eO y.2.1 && (o0 y.2.2.2.1 == 0)) && (decide (0 <= y.2.2.1) && decide (y.2.2.1 <= 77)))) && (y.2.1 == c1.1 || decide (y.2.2.1 <= 8))) = M7 c1.1 y:=by
    unfold M7
    grind
   rw [hb]
   have hf:=Ba (fun x3 x4 c1=>ai.j0 (ai.l0 K Xt n) x3 x4 c1) K c1 l hc1 hl y P.length (by omega) P.length 0 K (M7 c1.1 y) (by omega) (by omega)
   rw [show (((0 : Nat)) : Int) = 0 from rfl,List.drop_zero,show l.take P.length = P by rw [hc]; simp] at hf
   refine hf.trans ?_
   unfold ai.j0
   rw [aG (by omega)]
   have ih:=AN Xt K hK c1 l hc1 hl hw R (P ++ [y]) n (M7 c1.1 y && P.all (AB y)) (by simpa using h) (by simp [hc])
   rw [length_append] at ih
   refine Eq.trans ih ?_
   simp only [sM,Bool.true_and]
def R3 (ch : Int) (e : List Int) (i : Int) (b : en) : Bool:=(jX b == 0) && (b.2.2.2.2.1 == i) && (b.2.2.1 == ch) && ax (.arr 32 (.int .u8)) b.2.2.2.1 e
def sX (ch : Int) (e : List Int) : List en->Nat->Bool
 | [],_=>true
 | b :: R,i=>R3 ch e (i : Int) b && sX ch e R (i + 1)
theorem EW {α : Type} (Xt : Bool->Option α) (K : Nat) (c1 : gN) (e : List Int) (he : gV.run c1.1 = some e) (l : List en) (hl : l.length <= 1000) : ∀ (R P : List en) (n : Nat) (x : Bool),R.length < n->l = P ++ R ->
  cu.l2 K Xt n x l (l.length : Int) (P.length : Int) c1 = Xt (x && sX c1.1 e R P.length)
 | R,P,0,x,h,_=>by omega
 | [],P,n + 1,x,h,hc=>by
  simp_all [cu.l2,cu.BR,sX]
 | y :: R,P,n + 1,x,h,hc=>by
  have hlen : l.length = P.length + (R.length + 1):=by rw [hc]; simp
  simp only [cu.l2,cu.BR]
  have hg : l.getD P.length Sz = y:=by rw [hc]; exact ef _ _ _ _
  rw [if_pos (dT (by omega)),if_pos (by omega),ag,hg,tS,he,aG (by omega)]
  have ih:=fun x=>EW Xt K c1 e he l hl R (P ++ [y]) n x (by simpa using h) (by simp [hc])
  simp only [length_append,List.length_singleton] at ih
  simp only [bS]
  cases x with
  | false =>
   rw [if_neg (by decide),bind_some]
   simp only [Bool.false_and,show (false == true) = false from rfl,false_eq_true,if_false,bind_some]
   refine (ih false).trans ?_
   rfl
  | true =>
   rw [if_pos (by decide),bind_some]
   simp only [Bool.true_and,sX,R3]
   cases hq : ((jX y == 0) && (y.2.2.2.2.1 == (P.length : Int)) && (y.2.2.1 == c1.1)) with
   | false =>
    simp only [show (false == true) = false from rfl,false_eq_true,if_false,bind_some,Bool.false_and]
    refine (ih false).trans ?_
    rfl
   | true =>
    simp only [BEq.rfl,if_true,bind_some,Bool.true_and]
    refine (ih _).trans ?_
    rfl
theorem Ez {α : Type} (Xt : Bool->Option α) (K : Nat) (c1 : gN) (e : List Int) (he : dv.run c1.1 = some e) (l : List en) (hc1 : c1.2.2.2.2.2.2.1 = l) (hl : l.length <= 1000) : ∀ (R P : List en) (n : Nat) (x : Bool),R.length < n->l = P ++ R ->
  ai.l2 K Xt n x (P.length : Int) c1 = Xt (x && sX c1.1 e R P.length)
 | R,P,0,x,h,_=>by omega
 | [],P,n + 1,x,h,hc=>by
  simp_all [ai.l2,ai.BR,sX]
 | y :: R,P,n + 1,x,h,hc=>by
  have hlen : l.length = P.length + (R.length + 1):=by rw [hc]; simp
  simp only [ai.l2,ai.BR]
  rw [hc1,show decide ((P.length : Int) < (l.length : Int)) = true by rw [decide_eq_true_eq]; omega,bS,Bool.and_true]
  cases x with
  | false=>rw [if_neg (by decide)]; rfl
  | true =>
   have hg : l.getD P.length Sz = y:=by rw [hc]; exact ef _ _ _ _
   rw [if_pos rfl,if_pos (by omega),ag,hg,tC,he,bind_some,aG (by omega)]
   have ih:=fun x=>Ez Xt K c1 e he l hc1 hl R (P ++ [y]) n x (by simpa using h) (by simp [hc])
   simp only [length_append,List.length_singleton] at ih
   simp only [bS,sX,R3,Bool.true_and]
   cases hq : ((jX y == 0) && (y.2.2.2.2.1 == (P.length : Int)) && (y.2.2.1 == c1.1)) with
   | false =>
    simp only [show (false == true) = false from rfl,false_eq_true,if_false,bind_some,Bool.false_and]
    refine (ih false).trans ?_
    rfl
   | true =>
    simp only [BEq.rfl,if_true,bind_some,Bool.true_and]
    refine (ih _).trans ?_
    rfl
structure Af (p : gN) : Prop where
 ch : eO p.1 = true
 now : 1 <= p.2.1 /\ p.2.1 <= 1099511627776
 sets : 1 <= p.2.2.1.length /\ p.2.2.1.length <= 8 /\ ∀ s ∈ p.2.2.1,s.2.1.length <= 19
 al : p.2.2.2.1.length <= 4
 aa : ∀ a ∈ p.2.2.2.1,a.2.2.2.1.2.1.length <= 40 /\ 0 <= a.2.2.1 /\ a.2.2.1 < 78
 nx : p.2.2.2.2.2.1 = (p.2.2.2.2.2.2.1.length : Int)
 sl : p.2.2.2.2.2.2.1.length <= 256
 sb : ∀ b ∈ p.2.2.2.2.2.2.1,b.2.2.2.2.2.2.1.length <= 300
theorem Ei {ch : Int} : ∀ {l P : List cC},sM ch l P = true->∀ a ∈ l,a.2.2.2.1.2.1.length <= 40 /\ 0 <= a.2.2.1 /\ a.2.2.1 < 78
 | [],_,_,a,ha=>by cases ha
 | b :: R,P,h,a,ha=>by
  simp only [sM,M7,and_eq_true,decide_eq_true_eq,beq_iff_eq] at h
  rcases List.mem_cons.1 ha with rfl | ha
  ·grind [o0]
  ·exact Ei h.2 a ha
theorem DX {ch : Int} {e : List Int} : ∀ {l : List en} {i : Nat},sX ch e l i = true->∀ b ∈ l,b.2.2.2.2.2.2.1.length <= 300
 | [],_,_,a,ha=>by cases ha
 | b :: R,i,h,a,ha=>by
  simp only [sX,R3,and_eq_true,beq_iff_eq] at h
  rcases List.mem_cons.1 ha with rfl | ha
  ·simp_all [oZ]
  ·exact DX h.2 a ha
theorem JU (p : gN) (hn : -9223372036854775808 <= p.2.1 /\ p.2.1 <= 9223372036854775807) (hw : ∀ a ∈ p.2.2.2.1,ir a.2.2.2.1) : ∃ e : Int,cu.run p = some e /\ ai.run p = some e /\ (e = 0->Af p):=by
 obtain ⟨e,s1,s2,s3⟩:=vQ p.2.2.1
 obtain ⟨m,m1,m2⟩:=qk p.1
 unfold cu.run cu.top ai.run ai.top
 rw [so,oh,bind_some,bind_some,s1,s2,po]
 simp only [bS]
 have hnow : (decide (0 <= IntKind.i64.wrap (p.2.1 - 1)) && decide (IntKind.i64.wrap (p.2.1 - 1) <= 1099511627775)) = (decide (p.2.1 >= 1) && decide (p.2.1 <= 1099511627776)):=by
  by_cases hmin : p.2.1 = -9223372036854775808
  ·rw [hmin]; rfl
  ·rw [wrap_i64 (by omega) (by omega),Bool.eq_iff_iff]
   grind
 rw [hnow]
 have e1 : (if (eO p.1 == true) = true then some (decide (p.2.1 >= 1) && decide (p.2.1 <= 1099511627776)) else some false) = some (eO p.1 && (decide (p.2.1 >= 1) && decide (p.2.1 <= 1099511627776))):=by cases eO p.1 <;> rfl
 rw [e1,bind_some]
 have e2 : ∀ b : Bool,(if (b == true) = true then some e else some 0) = some (if b = true then e else 0):=fun b=>by cases b <;> rfl
 rw [e2,e2,bind_some,bind_some]
 have hs : (p.2.2.2.2.2.1 == (p.2.2.2.2.2.2.1.length : Int)) = ((p.2.2.2.2.2.2.1.length : Int) == p.2.2.2.2.2.1):=by rw [Bool.eq_iff_iff,beq_iff_eq,beq_iff_eq]; exact eq_comm
 have ha : (eO p.1 && (eO p.1 && (decide (p.2.1 >= 1) && decide (p.2.1 <= 1099511627776)))) = (eO p.1 && decide (p.2.1 >= 1) && decide (p.2.1 <= 1099511627776)):=by cases eO p.1 <;> simp
 rw [ha,hs]
 generalize pv : (eO p.1 && decide (p.2.1 >= 1) && decide (p.2.1 <= 1099511627776) && ((if (eO p.1 && decide (p.2.1 >= 1) && decide (p.2.1 <= 1099511627776)) = true then e else 0) == 0) && decide ((p.2.2.2.1.length : Int) <= 4) && ((p.2.2.2.2.2.2.1.length : Int) == p.2.2.2.2.2.1) && decide (p.2.2.2.2.2.1 <= 256)) = ok
 cases ok with
 | false =>
  refine ⟨12,rfl,?_,fun h=>by cases h⟩
  obtain ⟨k,hk⟩ : ∃ k,fuel = k + 1:=⟨fuel - 1,by rw [au]⟩
  rw [hk]
  simp only [ai.l0,ai.bq,bS,Bool.false_and,false_eq_true,if_false,ai.j1,ai.l2,ai.BR,ai.j2,Bool.not_false,if_true]
 | true =>
  simp only [and_eq_true,decide_eq_true_eq,beq_iff_eq] at pv
  obtain ⟨⟨⟨⟨⟨⟨g1,g2⟩,g3⟩,g4⟩,h4⟩,h5⟩,h6⟩:=pv
  rw [g1,if_pos ⟨⟨rfl,g2⟩,g3⟩] at g4
  obtain ⟨t1,t2,t3⟩:=s3 g4
  have l1 : p.2.2.2.1.length <= 1000:=by omega
  have l2 : p.2.2.2.2.2.2.1.length <= 1000:=by omega
  rw [if_neg (by decide)]
  have c1:=BN (fun x3 c1=>cu.j1 fuel (fun x2=>some x2) x3 c1) fuel (by rw [au]; omega) p _ rfl l1 hw p.2.2.2.1 [] fuel true (by rw [au]; omega) rfl
  have c2:=AN (fun x3 c1=>ai.j1 fuel (fun x2=>some x2) x3 c1) fuel (by rw [au]; omega) p _ rfl l1 hw p.2.2.2.1 [] fuel true (by rw [au]; omega) rfl
  rw [show ((([] : List cC).length : Nat) : Int) = 0 from rfl] at c1 c2
  rw [c1,c2]
  unfold cu.j1 ai.j1
  have c3:=fun x=>EW (fun x3=>cu.j2 (fun x2=>some x2) x3) fuel p m m1 p.2.2.2.2.2.2.1 l2 p.2.2.2.2.2.2.1 [] fuel x (by rw [au]; omega) rfl
  have c4:=fun x=>Ez (fun x3=>ai.j2 (fun x2=>some x2) x3) fuel p m m2 p.2.2.2.2.2.2.1 rfl l2 p.2.2.2.2.2.2.1 [] fuel x (by rw [au]; omega) rfl
  rw [show ((([] : List en).length : Nat) : Int) = 0 from rfl] at c3 c4
  rw [c3,c4]
  unfold cu.j2 ai.j2
  generalize hb : ((true && sM p.1 p.2.2.2.1 []) && sX p.1 m p.2.2.2.2.2.2.1 ([] : List en).length) = b
  cases b with
  | false=>exact ⟨_,rfl,rfl,fun h=>by cases h⟩
  | true =>
   simp only [and_eq_true] at hb
   exact ⟨_,rfl,rfl,fun _=>⟨g1,⟨g2,g3⟩,⟨t1,t2,t3⟩,by omega,Ei hb.1.2,h5.symm,by omega,DX hb.2⟩⟩
abbrev Nk : Ty:=.pair (.arr 32 (.int .u8)) (.pair (.int .i64) (.pair (.int .i64) (.pair KH .unit)))
abbrev Ps : Ty:=.pair (.int .i64) (.pair (.int .i64) (.pair (.int .i64) (.pair (.arr 32 (.int .u8)) (.pair (.int .i64) (.pair (.int .i64) (.pair (.sl (.int .u8)) .unit))))))
abbrev Kj : Ty:=.pair (.int .i64) (.pair (.int .i64) (.pair Qm (.pair (.sl Nk) (.pair (.arr 3 (.arr 4 (.int .u64))) (.pair (.int .i64) (.pair (.sl Ps) .unit))))))
end Go.Bx
namespace Go.Bx
open Go Go.Bx.Rg
def Hp (x : jf) : Prop:=W4 x.2.1 /\ W4 x.2.2.1 /\ x.2.2.2.2.2.1.length = 32 /\ gA x.2.2.2.2.2.1
theorem qc (n : Nat) : gA (replicate n 0):=fun b hb=>by
 grind
theorem G9 : Hp gF:=⟨wa,wa,rfl,qc 32⟩
theorem CV {x : jf} {r : jf × Int × Unit} (h : zw x = some r) (hx : Hp x) : Hp r.1:=by
 unfold zw at h
 cases hc : aj.run x with
 | none=>rw [hc] at h; cases h
 | some c =>
  rw [hc,bind_some] at h
  split at h
  ·cases h; exact hx
  ·cases h; exact G9
theorem PC {kd : Int} {s : List Int} (hbs : gA s) (hl : ¬ s.length < 132) : Hp (C4 kd s):=by
 have h1:=lx (s.take 32) (by simp; omega) (nG hbs 32)
 have h2:=lx ((s.drop 100).take 32) (by simp; omega) (nG (oV hbs 100) 32)
 have h3 : ((s.drop 66).take 32).length = 32:=by simp; omega
 simp only [Hp,C4]
 exact ⟨h1,h2,h3,nG (oV hbs 66) 32⟩
theorem PL (kd : Int) (s : List Int) : Hp (Lh kd s):=by
 simp only [Hp,Lh]
 exact ⟨wa,wa,rfl,qc 32⟩
theorem PS (kd : Int) (s : List Int) : Hp (Nb kd s):=by
 simp only [Hp,Nb]
 exact ⟨wa,wa,rfl,qc 32⟩
theorem P5 {kd : Int} {s : List Int} (hbs : gA s) {r : jf × Int × Unit} (h : O9 kd s = some r) : Hp r.1:=by
 have hn : ∀ e : Int,some (gF,e,()) = some r->Hp r.1:=fun e h=>by cases h; exact G9
 unfold O9 at h
 split at h
 ·split at h
  ·exact hn _ h
  ·rename_i hl
   exact CV h (PC hbs hl)
 ·split at h
  ·split at h
   ·exact hn _ h
   ·split at h
    ·exact hn _ h
    ·exact CV h (PL _ _)
  ·split at h
   ·split at h
    ·exact hn _ h
    ·split at h
     ·exact hn _ h
     ·exact CV h (PS _ _)
   ·exact hn _ h
theorem I9 (x : List Int) (hb : gA x) (hl : x.length <= 140737488351232) : ∃ r : jf × Int × Unit,jU.run x = some r /\ aS.run x = some r /\ Hp r.1:=by
 rw [EP x hb hl,OI x hb hl]
 by_cases h : x.length = 0
 ·rw [if_pos h]; exact ⟨_,rfl,rfl,G9⟩
 ·rw [if_neg h]
  obtain ⟨r,hr,_⟩:=M0 (x.getD 0 0) (x.drop 1) (oV hb 1)
  exact ⟨r,hr,hr,P5 (oV hb 1) hr⟩
theorem zQ : ∀ (m : Nat) (s : fI),gA s.1->∀ x ∈ (gW m s).1,G5 x.2.1
 | 0,s,hb,x,hx=>by simp [gW] at hx
 | m + 1,s,hb,x,hx=>by
  simp only [gW,mem_cons] at hx
  have b1:=(Dl s).o9 hb
  have b2:=(CF s).o9 hb
  rcases hx with rfl | hx
  ·have h1:=lx (jI 32 (LL s)).1 (lP _ _) (mI 32 b1).1
   have h2:=lx (jI 32 (Lo s)).1 (lP _ _) (mI 32 b2).1
   simp only [G5,yI]
   exact ⟨h1,h2⟩
  ·exact zQ m _ ((DD s).o9 hb) x hx
theorem JY (b : List Int) (hb : gA b) : (xH b).1.2.2.1.2.2.2.1.length = 32 /\ gA (xH b).1.2.2.1.2.2.2.1 /\ gA (xH b).1.2.2.1.2.2.2.2.2.2.1 /\ (∀ s ∈ (xH b).1.2.1,G5 s.2.1):=by
 have b3:=(pM b).o9 hb
 have b4 : gA (wJ b).1:=(ou (nV b).toNat (Gl b)).o9 b3
 have z : ∀ e : Int,(fun y : mU × Int × Unit=>y.1.2.2.1.2.2.2.1.length = 32 /\ gA y.1.2.2.1.2.2.2.1 /\ gA y.1.2.2.1.2.2.2.2.2.2.1 /\ (∀ s ∈ y.1.2.1,G5 s.2.1)) ((0,[],(0,0,0,replicate 32 0,0,0,[],()),()),e,()):=fun e=>⟨rfl,qc 32,(fun b hb=>by cases hb),(fun s hs=>by cases hs)⟩
 unfold xH
 by_cases c1 : (HY b).2.1 = true /\ vV b ≠ 1
 ·simp_all
 ·rw [if_neg c1]
  by_cases c2 : (Gl b).2.1 = true /\ nV b > 19
  ·simp_all
  ·rw [if_neg c2]
   by_cases c3 : (ET (wJ b)).2.1 = true
   ·rw [if_pos c3]
    by_cases c4 : oC (pV b) = 0
    ·rw [if_pos c4]
     have h1:=lP 32 (OD (wJ b))
     have h2:=(mI 32 ((Hw (wJ b)).o9 b4)).1
     have h3:=(Dv (wJ b)).o9 b4
     have h4:=zQ (nV b).toNat (Gl b) b3
     simp only [pV,jy]
     exact ⟨h1,h2,h3,h4⟩
    simp_all
   simp_all
section
variable {P A B N x y : Int} {f : Bool} (b1 : 0 <= P /\ P < aM) (b2 : 0 <= A /\ A < aM) (b3 : 0 <= B /\ B < aM) (b4 : 0 <= N /\ N < aM) (b5 : 0 <= x /\ x < aM) (b6 : 0 <= y /\ y < aM)
include b1 b2 b3 b4 b5 b6
theorem IF (pp : List Int) (hb : gA pp) (hl : pp.length <= 140737488351232) (ch now nx : Int) (sn : List (List Int)) (z : List iX) (l : List cC) (st : List en) :
  ∃ (D E : en) (L M : jf) (e : Int),ga.run pp ch now sn nx (mk P,mk A,mk B,mk N,(mk x,mk y,f,()),()) z l st = some (D,L,e,ch,now,sn,nx,(mk P,mk A,mk B,mk N,(mk x,mk y,f,()),()),z,l,st,D,L,()) /\
   fv.run (mk P,mk A,mk B,mk N,(mk x,mk y,f,()),()) (ch,now,z,l,sn,nx,st,()) pp = some (E,M,e,()) /\ (e = 0->E = D /\ M = L /\ Hp L):=by
 obtain ⟨q1,q2,q3,q4⟩:=JY pp hb
 unfold ga.run ga.top fv.run fv.top
 rw [Gp pp hb hl,PW pp hb hl]
 have hlen:=LF pp
 generalize xH pp = p at q1 q2 q3 q4 hlen ⊢
 simp only [bind_some]
 have out : ∀ e : Int,e ≠ 0->∃ (D E : en) (L M : jf) (e' : Int),(some ((0,0,0,replicate 32 0,0,0,[],()),gF,e,ch,now,sn,nx,(mk P,mk A,mk B,mk N,(mk x,mk y,f,()),()),z,l,st,(0,0,0,replicate 32 0,0,0,[],()),gF,()) : Option _) = some (D,L,e',ch,now,sn,nx,(mk P,mk A,mk B,mk N,(mk x,mk y,f,()),()),z,l,st,D,L,()) /\
   (some ((0,0,0,replicate 32 0,0,0,[],()),gF,e,()) : Option _) = some (E,M,e',()) /\ (e' = 0->E = D /\ M = L /\ Hp L):=fun e he=>⟨_,_,_,_,_,rfl,rfl,fun h=>absurd h he⟩
 by_cases h1 : (p.2.1 != 0) = true
 ·rw [if_pos h1,if_pos h1]; exact out _ (by simpa using h1)
 ·rw [if_neg h1,if_neg h1]
  obtain ⟨s,s1,s2,s3⟩:=J3 z p.1.1 now
  rw [s1,s2]
  simp only [bind_some]
  by_cases h2 : (s.2.1 != 0) = true
  ·rw [if_pos h2,if_pos h2]; exact out _ (by simpa using h2)
  ·rw [if_neg h2,if_neg h2]
   obtain ⟨t1,t2⟩:=Jz q1 q2 q3
   rw [t1,t2]
   simp only [bind_some]
   by_cases he : jX p.1.2.2.1 = 0
   ·rw [if_pos he]
    simp only [bne_self_eq_false,false_eq_true,if_false]
    obtain ⟨v,v1,v2⟩:=E2 (f:=f) b1 b2 b3 b4 b5 b6 (hs:=Qc p.1.2.2.1) (xR _) (Hs _) s.1 p.1.2.1 (by omega) q4
    rw [v1,v2]
    simp only [bind_some]
    by_cases h3 : (v != 0) = true
    ·rw [if_pos h3,if_pos h3]; exact out _ (by simpa using h3)
    ·rw [if_neg h3,if_neg h3]
     have h6:=(oZ he).2.2.2.2.2
     obtain ⟨r,r1,r2,r3⟩:=I9 p.1.2.2.1.2.2.2.2.2.2.1 q3 (by omega)
     rw [r1,r2]
     simp only [bind_some]
     by_cases h4 : r.2.1 = 0
     ·rw [if_neg (by simpa using h4),h4]
      exact ⟨_,_,_,_,0,rfl,rfl,fun _=>⟨rfl,rfl,r3⟩⟩
     ·rw [if_pos (by simpa using h4)]
      exact ⟨_,_,_,_,_,rfl,rfl,fun h=>absurd h h4⟩
   ·rw [if_neg he]
    simp only []
    rw [if_pos (by simpa using he),if_pos (by simpa using he)]
    exact out _ he
end
end Go.Bx
namespace Go.Bx
open Go
theorem A4 {α : Type} (Xt : List Int->Option α) (K : Nat) (l : List (List Int)) (hl : l.length <= 1000) (B : Nat) (hB : B <= 4194304) : ∀ (R P : List (List Int)) (n : Nat) (c : List Int),R.length < n->l = P ++ R->(c ++ R.flatten).length <= B ->
  gD.l0 K Xt n l (l.length : Int) (P.length : Int) c = Xt (c ++ R.flatten)
 | R,P,0,c,h,_,_=>by omega
 | [],P,n + 1,c,h,hc,hb=>by
  simp_all [gD.l0,gD.bq]
 | y :: R,P,n + 1,c,h,hc,hb=>by
  have hlen : l.length = P.length + (R.length + 1):=by rw [hc]; simp
  simp only [gD.l0,gD.bq]
  have hg : l.getD P.length [] = y:=by rw [hc]; exact ef _ _ _ _
  have hb' : (c ++ y ++ R.flatten).length <= B:=by simpa [append_assoc] using hb
  rw [if_pos (dT (by omega)),if_pos (by omega),aG (by omega),ag,hg,if_pos (aU (by simp at hb; omega) (by omega))]
  have ih:=A4 Xt K l hl B hB R (P ++ [y]) n (c ++ y) (by simpa using h) (by simp [hc]) hb'
  grind
theorem FA (l : List (List Int)) (hl : l.length <= 1000) (hb : l.flatten.length <= 4194304) : gD.run l = some l.flatten:=by
 unfold gD.run gD.top
 refine (A4 (fun c14=>gD.j0 (fun c14=>some c14) c14) fuel l hl 4194304 (by omega) l [] fuel [] (by rw [au]; omega) rfl (by simpa using hb)).trans ?_
 rfl
theorem Hu (x : Int) : lH.run x = some (be x 2):=by
 unfold lH.run lH.top
 have:=qb .i64 x 8 (by decide)
 rw [show ((8 : Nat) : Int) = 8 from rfl] at this
 rw [this,q9]; rfl
section
variable (kd : Int) (am fe tk : List Int) (ho : Int) (to : List Int) (tc de : Int) (sy da : List Int) (ix : Int) (ks : List (List Int))
def Mm : List Int:=As am ++ (tk ++ (be ho 2 ++ (to ++ (be tc 2 ++ (As fe ++ da)))))
def Lp : List Int:=tk ++ (be ho 2 ++ (be de 1 ++ pad sy))
def KW : List Int:=be ix 4 ++ (be (ks.length : Int) 1 ++ ks.flatten)
theorem RR (b : Bool × Unit) (h1 : am.length = 4) (h2 : fe.length = 4) (h3 : tk.length = 32) (h4 : to.length = 32) (h5 : da.length <= 100) : fZ.run b (kd,am,fe,tk,ho,to,tc,de,sy,da,ix,ks,()) = some (Mm am fe tk ho to tc da):=by
 unfold fZ.run fZ.top
 simp only [mf _ h1,mf _ h2,Hu,bind_some,gn tk 32 (by omega),gn to 32 (by omega),gn (As am) 32 (by rw [gU]; rfl),gn (As fe) 32 (by rw [gU]; rfl)]
 rw [FA _ (by simp) (by simp [gU,eM]; omega)]
 grind [Mm]
theorem Ri (u : Unit) (h3 : tk.length = 32) (h5 : sy.length <= 32) : iP.run u (kd,am,fe,tk,ho,to,tc,de,sy,da,ix,ks,()) = some (Lp tk ho de sy):=by
 unfold iP.run iP.top fR.run fR.top
 simp only [Hu,bind_some,Dd sy h5,gn tk 32 (by omega),gn (pad sy) 32 (by rw [uy _ h5]; rfl)]
 rw [FA _ (by simp) (by simp [uy _ h5,eM]; omega)]
 grind [Lp,q9,be]
theorem AM {α : Type} (Xt : List Int->Option α) (K : Nat) (l : List (List Int)) (hl : l.length <= 1000) (hk : ∀ x ∈ l,x.length = 20) (B : Nat) (hB : B <= 4194304) : ∀ (R P : List (List Int)) (n : Nat) (c : List Int),R.length < n->l = P ++ R->(c ++ R.flatten).length <= B ->
  eF.l0 K Xt n l (l.length : Int) (P.length : Int) c = Xt (c ++ R.flatten)
 | R,P,0,c,h,_,_=>by omega
 | [],P,n + 1,c,h,hc,hb=>by
  simp_all [eF.l0,eF.bq]
 | y :: R,P,n + 1,c,h,hc,hb=>by
  have hlen : l.length = P.length + (R.length + 1):=by rw [hc]; simp
  simp only [eF.l0,eF.bq]
  have hg : l.getD P.length (replicate 20 0) = y:=by rw [hc]; exact ef _ _ _ _
  have hy : ay y 0 20 = y:=gn y 20 (by rw [hk y (by rw [hc]; simp)]; rfl)
  have hb' : (c ++ y ++ R.flatten).length <= B:=by simpa [append_assoc] using hb
  rw [if_pos (dT (by omega)),if_pos (by omega),aG (by omega),ag,hg,hy,if_pos (aU (by simp at hb; omega) (by omega))]
  have ih:=AM Xt K l hl hk B hB R (P ++ [y]) n (c ++ y) (by simpa using h) (by simp [hc]) hb'
  simp_all
theorem CN : ∀ (l : List (List Int)),(∀ x ∈ l,x.length = 20)->l.flatten.length = 20 * l.length
 | [],_=>rfl
 | a :: l,h=>by
  have:=CN l fun x hx=>h x (mem_cons_of_mem _ hx)
  grind
theorem RE (u : Unit) (hl : ks.length <= 19) (hk : ∀ x ∈ ks,x.length = 20) : eF.run u (kd,am,fe,tk,ho,to,tc,de,sy,da,ix,ks,()) = some (KW ix ks):=by
 unfold eF.run eF.top
 have h24 : IntKind.u8.wrap (fh .i64 ix 24) = uW ix 24:=qb .i64 ix 24 (by decide)
 have h16 : IntKind.u8.wrap (fh .i64 ix 16) = uW ix 16:=qb .i64 ix 16 (by decide)
 have h8 : IntKind.u8.wrap (fh .i64 ix 8) = uW ix 8:=qb .i64 ix 8 (by decide)
 rw [h24,h16,h8,q9,q9]
 refine (AM (fun c37=>some c37) fuel ks (by omega) hk 4194304 (by omega) ks [] fuel _ (by rw [au]; omega) rfl ?_).trans ?_
 ·grind [CN]
 ·simp [KW,be]
theorem zS {α : Type} (Xt : List Int->Option α) (K : Nat) (l : List (List Int)) (hl : l.length <= 1000) (hk : ∀ x ∈ l,x.length = 20) (B : Nat) (hB : B <= 4194304) : ∀ (R P : List (List Int)) (n : Nat) (c : List Int),R.length < n->l = P ++ R->(c ++ R.flatten).length <= B ->
  aC.l0 K Xt n c l (l.length : Int) (P.length : Int) = Xt (c ++ R.flatten)
 | R,P,0,c,h,_,_=>by omega
 | [],P,n + 1,c,h,hc,hb=>by
  simp_all [aC.l0,aC.bq]
 | y :: R,P,n + 1,c,h,hc,hb=>by
  have hlen : l.length = P.length + (R.length + 1):=by rw [hc]; simp
  simp only [aC.l0,aC.bq]
  have hg : l.getD P.length (replicate 20 0) = y:=by rw [hc]; exact ef _ _ _ _
  have hy : ay y 0 20 = y:=gn y 20 (by rw [hk y (by rw [hc]; simp)]; rfl)
  have hb' : (c ++ y ++ R.flatten).length <= B:=by simpa [append_assoc] using hb
  rw [if_pos (dT (by omega)),if_pos (by omega),aG (by omega),ag,hg,hy,if_pos (vY (by simp at hb ⊢; omega))]
  have ih:=zS Xt K l hl hk B hB R (P ++ [y]) n (c ++ y) (by simpa using h) (by simp [hc]) hb'
  simp_all
theorem um (x : Int) : (aA.run x 1 = some (be x 1) /\ aA.run x 2 = some (be x 2)) /\ (aA.run x 4 = some (be x 4) /\ aA.run x 8 = some (be x 8)) :=
 ⟨⟨mZ x 1 (by omega),mZ x 2 (by omega)⟩,mZ x 4 (by omega),mZ x 8 (by omega)⟩
theorem QZ (h : kd = 1 \/ kd = 3) (hf : aj.run (kd,am,fe,tk,ho,to,tc,de,sy,da,ix,ks,()) = some 0) (h3 : tk.length = 32) (h4 : to.length = 32) (h5 : da.length <= 100) (h6 : 0 <= ho /\ ho <= 65535) (h7 : 0 <= tc /\ tc <= 65535) :
  aC.run (kd,am,fe,tk,ho,to,tc,de,sy,da,ix,ks,()) = some (be kd 1 ++ Mm am fe tk ho to tc da,0,()):=by
 unfold aC.run aC.top
 rw [hf,bind_some,if_neg (by decide),jO (x:=kd) (by omega) (by omega),(um kd).1.1,bind_some]
 simp only [jO (x:=ho) (by omega) (by omega),jO (x:=tc) (by omega) (by omega),(um ho).1.2,(um tc).1.2,wu,bind_some,gn tk 32 (by omega),gn to 32 (by omega)]
 rw [if_neg (by rcases h with rfl | rfl <;> decide),if_neg (by rcases h with rfl | rfl <;> decide)]
 have hb : ∀ n : Nat,n <= 100000->ble n 9223372036854775807 = true:=fun n hn=>vY (by omega)
 rw [if_pos (hb _ (by simp [gU,eM]; omega)),if_pos (hb _ (by simp [gU,eM]; omega)),if_pos (hb _ (by simp [gU,eM]; omega)),if_pos (hb _ (by simp [gU,eM]; omega)),if_pos (hb _ (by simp [gU,eM]; omega)),if_pos (hb _ (by simp [gU,eM]; omega)),if_pos (hb _ (by simp [gU,eM]; omega))]
 unfold aC.j0 Mm
 simp only [append_assoc]
theorem Rs (hf : aj.run (2,am,fe,tk,ho,to,tc,de,sy,da,ix,ks,()) = some 0) (h3 : tk.length = 32) (h5 : sy.length <= 32) (h6 : 0 <= ho /\ ho <= 65535) (h7 : 0 <= de /\ de <= 77) :
  aC.run (2,am,fe,tk,ho,to,tc,de,sy,da,ix,ks,()) = some (be 2 1 ++ Lp tk ho de sy,0,()):=by
 unfold aC.run aC.top
 rw [hf,bind_some,if_neg (by decide),jO (x:=2) (by omega) (by omega),(um 2).1.1,bind_some]
 simp only [jO (x:=ho) (by omega) (by omega),jO (x:=de) (by omega) (by omega),(um ho).1.2,(um de).1.1,pA _ h5,bind_some,gn tk 32 (by omega),gn (pad sy) 32 (by rw [uy _ h5]; rfl)]
 rw [if_pos (by decide)]
 have hb : ∀ n : Nat,n <= 100000->ble n 9223372036854775807 = true:=fun n hn=>vY (by omega)
 have hp:=uy _ h5
 rw [if_pos (hb _ (by simp [eM,hp]; omega)),if_pos (hb _ (by simp [eM,hp]; omega)),if_pos (hb _ (by simp [eM,hp]; omega)),if_pos (hb _ (by simp [eM,hp]; omega))]
 unfold aC.j0 Lp
 simp only [append_assoc]
theorem Ru (hf : aj.run (4,am,fe,tk,ho,to,tc,de,sy,da,ix,ks,()) = some 0) (hl : ks.length <= 19) (hk : ∀ x ∈ ks,x.length = 20) (h6 : 0 <= ix /\ ix <= 4294967295) :
  aC.run (4,am,fe,tk,ho,to,tc,de,sy,da,ix,ks,()) = some (be 4 1 ++ KW ix ks,0,()):=by
 unfold aC.run aC.top
 rw [hf,bind_some,if_neg (by decide),jO (x:=4) (by omega) (by omega),(um 4).1.1,bind_some]
 simp only [jO (x:=ix) (by omega) (by omega),jO (x:=(ks.length : Int)) (by omega) (by omega),(um ix).2.1,(um (ks.length : Int)).1.1,bind_some]
 rw [if_neg (by decide),if_pos (by decide)]
 have hb : ∀ n : Nat,n <= 100000->ble n 9223372036854775807 = true:=fun n hn=>vY (by omega)
 rw [if_pos (hb _ (by simp [eM])),if_pos (hb _ (by simp [eM]))]
 refine (zS (fun x5=>aC.j0 (fun x2 x3=>some (x2,x3,())) x5) fuel ks (by omega) hk 4194304 (by omega) ks [] fuel _ (by rw [au]; omega) rfl ?_).trans ?_
 ·simp [CN ks hk,eM]; omega
 ·unfold aC.j0 KW
  simp only [append_assoc]
end
theorem Dr {n m : Int} : Ag n m = true ↔ 0 <= n /\ n <= m:=by simp [Ag]
theorem Pt {kd ho tc de : Int} {sy da : List Int} {ix : Int} {ks : List (List Int)} {c : Int} (h : OT kd ho tc de sy da ix ks c = true) : (0 <= ho /\ ho <= 65535) /\ (0 <= tc /\ tc <= 65535) /\ da.length <= 100:=by
 simp_all [Dr,OT]
theorem Qa {am fe : List Int} {ho : Int} {to : List Int} {tc de : Int} {sy da : List Int} {ix : Int} {ks : List (List Int)} (h : QC am fe ho to tc de sy da ix ks = true) : (0 <= ho /\ ho <= 65535) /\ (0 <= de /\ de <= 77) /\ sy.length <= 32:=by
 simp_all [Dr,QC]
theorem PG {am fe tk : List Int} {ho : Int} {to : List Int} {tc de : Int} {sy da : List Int} {ix : Int} {ks : List (List Int)} (h : Pg am fe tk ho to tc de sy da ix ks = true) : (0 <= ix /\ ix <= 4294967295) /\ ks.length <= 19:=by
 simp_all [Dr,Pg]
theorem zI {n : Nat} (h : n <= 1000000) : eL (1 + n) 1 = true:=aU (by omega) (by omega)
theorem CD (kd : Int) (am fe tk : List Int) (ho : Int) (to : List Int) (tc de : Int) (sy da : List Int) (ix : Int) (ks : List (List Int)) (ha : am.length = 4 /\ aN ah am) (hf : fe.length = 4 /\ aN ah fe) (htk : tk.length = 32) (hto : to.length = 32) (hs : sy.length <= 400000000000000) (hl : ks.length <= 400000000000000) (hk : ∀ x ∈ ks,x.length = 20) :
  ∃ r,fp.run (kd,am,fe,tk,ho,to,tc,de,sy,da,ix,ks,()) = some r /\ aC.run (kd,am,fe,tk,ho,to,tc,de,sy,da,ix,ks,()) = some r:=by
 obtain ⟨c,c1,c2⟩:=vG hf.1 ha.1 hf.2 ha.2
 have bad : ∀ e : Int,e ≠ 0->cQ.run (kd,am,fe,tk,ho,to,tc,de,sy,da,ix,ks,()) = some e->aj.run (kd,am,fe,tk,ho,to,tc,de,sy,da,ix,ks,()) = some e ->
   ∃ r,fp.run (kd,am,fe,tk,ho,to,tc,de,sy,da,ix,ks,()) = some r /\ aC.run (kd,am,fe,tk,ho,to,tc,de,sy,da,ix,ks,()) = some r:=fun e he h1 h2=>by
  refine ⟨([],e,()),?_,?_⟩
  ·unfold fp.run fp.top
   rw [h1,bind_some,if_pos (by simpa using he)]
  ·unfold aC.run aC.top
   rw [h2,bind_some,if_pos (by simpa using he)]
 by_cases h13 : kd = 1 \/ kd = 3
 ·have e1:=CO kd am fe tk ho to tc de sy da ix ks h13 c1
  have e2:=DE kd am fe tk ho to tc de sy da ix ks h13 c2
  cases pv : OT kd ho tc de sy da ix ks c with
  | false=>rw [pv] at e1 e2; exact bad 3 (by decide) e1 e2
  | true =>
   rw [pv,if_pos rfl] at e1 e2
   obtain ⟨b1,b2,b3⟩:=Pt pv
   refine ⟨_,?_,QZ kd am fe tk ho to tc de sy da ix ks h13 e2 htk hto b3 b1 b2⟩
   unfold fp.run fp.top
   rw [e1,bind_some,if_neg (by decide),oS kd h13,bind_some,Sum.elim_inl,RR _ _ _ _ _ _ _ _ _ _ _ _ _ ha.1 hf.1 htk hto b3,bind_some,if_pos (zI (by simp [Mm,gU,eM]; omega)),q9]
   rfl
 by_cases h2 : kd = 2
 ·subst h2
  have e1:=HX am fe tk ho to tc de sy da ix ks hs
  have e2:=HH am fe tk ho to tc de sy da ix ks hs
  cases pv : QC am fe ho to tc de sy da ix ks with
  | false=>rw [pv] at e1 e2; exact bad 3 (by decide) e1 e2
  | true =>
   rw [pv,if_pos rfl] at e1 e2
   obtain ⟨b1,b2,b3⟩:=Qa pv
   refine ⟨_,?_,Rs am fe tk ho to tc de sy da ix ks e2 htk b3 b1 b2⟩
   unfold fp.run fp.top
   rw [e1,bind_some,if_neg (by decide),vz,bind_some,Sum.elim_inr,Sum.elim_inl,Ri _ _ _ _ _ _ _ _ _ _ _ _ _ htk b3,bind_some,if_pos (zI (by simp [Lp,uy _ b3,eM]; omega)),q9]
   rfl
 by_cases h4 : kd = 4
 ·subst h4
  have e1:=Ij am fe tk ho to tc de sy da ix ks
  have e2:=H3 am fe tk ho to tc de sy da ix ks hl
  cases pv : Pg am fe tk ho to tc de sy da ix ks with
  | false=>rw [pv] at e1 e2; exact bad 3 (by decide) e1 e2
  | true =>
   rw [pv,if_pos rfl] at e1 e2
   obtain ⟨b1,b3⟩:=PG pv
   refine ⟨_,?_,Ru am fe tk ho to tc de sy da ix ks e2 b3 hk b1⟩
   unfold fp.run fp.top
   rw [e1,bind_some,if_neg (by decide),vU,bind_some,Sum.elim_inr,Sum.elim_inr,Sum.elim_inl,RE _ _ _ _ _ _ _ _ _ _ _ _ _ b3 hk,bind_some,if_pos (zI (by simp [KW,CN ks hk,eM]; omega)),q9]
   rfl
 have h1 : kd ≠ 1:=fun h=>h13 (.inl h)
 have h3 : kd ≠ 3:=fun h=>h13 (.inr h)
 obtain ⟨e1,e2⟩:=Iy kd am fe tk ho to tc de sy da ix ks h1 h2 h3 h4
 exact bad 2 (by decide) e1 e2
theorem I6 (b : en) (h : b.2.2.2.2.2.2.1.length <= 300) : mb.run b = some b:=by
 unfold mb.run mb.top
 rw [if_pos (aU (by omega) (by decide))]
section
variable {α : Type} (K : Nat) (c : gN) (a b d : Int) (e : List (List Int))
theorem HU (Xt) (l : List iX) (hl : l.length <= 8) (hs : ∀ s ∈ l,s.2.1.length <= 19) : ∀ (R P : List iX) (n : Nat),R.length < n->l = P ++ R ->
  bF.l0 (α:=α) K Xt n l (l.length : Int) (P.length : Int) c a b e d P = Xt c a b e d l
 | R,P,0,h,_=>by omega
 | [],P,n + 1,h,hc=>by
  simp_all [bF.l0,bF.bq]
 | y :: R,P,n + 1,h,hc=>by
  have hlen : l.length = P.length + (R.length + 1):=by rw [hc]; simp
  have hg : l.getD P.length (0,[],0,()) = y:=by rw [hc]; exact ef _ _ _ _
  have hy:=hs y (by rw [hc]; simp)
  simp only [bF.l0,bF.bq]
  rw [if_pos (dT (by omega)),if_pos (by omega),ag,hg,if_pos (aU (by omega) (by omega)),if_pos (aU (by omega) (by omega)),aG (by omega)]
  have ih:=HU Xt l hl hs R (P ++ [y]) n (by simpa using h) (by simp [hc])
  grind
theorem BE (Xt) (z : List iX) (l : List cC) (hl : l.length <= 4) (hs : ∀ s ∈ l,s.2.2.2.1.2.1.length <= 40) : ∀ (R P : List cC) (n : Nat),R.length < n->l = P ++ R ->
  bF.l1 (α:=α) K Xt n l (l.length : Int) (P.length : Int) c a b e d z P = Xt c a b e d z l
 | R,P,0,h,_=>by omega
 | [],P,n + 1,h,hc=>by
  simp_all [bF.l1,bF.me]
 | y :: R,P,n + 1,h,hc=>by
  have hlen : l.length = P.length + (R.length + 1):=by rw [hc]; simp
  have hg : l.getD P.length A0 = y:=by rw [hc]; exact ef _ _ _ _
  have hy:=hs y (by rw [hc]; simp)
  simp only [bF.l1,bF.me]
  rw [if_pos (dT (by omega)),if_pos (by omega),ag,hg,if_pos (aU (by omega) (by omega)),if_pos (aU (by omega) (by omega)),aG (by omega)]
  have ih:=BE Xt z l hl hs R (P ++ [y]) n (by simpa using h) (by simp [hc])
  grind
theorem Ie (Xt) (z : List iX) (w : List cC) (l : List en) (hl : l.length <= 256) (hs : ∀ s ∈ l,s.2.2.2.2.2.2.1.length <= 300) : ∀ (R P : List en) (n : Nat),R.length < n->l = P ++ R ->
  bF.l2 (α:=α) K Xt n l (l.length : Int) (P.length : Int) c a b e d z w P = Xt c a b e d z w l
 | R,P,0,h,_=>by omega
 | [],P,n + 1,h,hc=>by
  simp_all [bF.l2,bF.BR]
 | y :: R,P,n + 1,h,hc=>by
  have hlen : l.length = P.length + (R.length + 1):=by rw [hc]; simp
  have hg : l.getD P.length Sz = y:=by rw [hc]; exact ef _ _ _ _
  simp only [bF.l2,bF.BR]
  rw [if_pos (dT (by omega)),if_pos (by omega),ag,hg,I6 y (hs y (by rw [hc]; simp)),bind_some,if_pos (aU (by omega) (by omega)),aG (by omega)]
  have ih:=Ie Xt z w l hl hs R (P ++ [y]) n (by simpa using h) (by simp [hc])
  grind
end
theorem IB (p : gN) (ok : Af p) : bF.run p = some (p.1,p.2.1,p.2.2.2.2.1,p.2.2.2.2.2.1,p.1,p.2.1,p.2.2.2.2.1,p.2.2.2.2.2.1,p.2.2.1,p.2.2.2.1,p.2.2.2.2.2.2.1,()):=by
 unfold bF.run bF.top
 refine (HU fuel p 0 0 0 _ _ p.2.2.1 ok.sets.2.1 ok.sets.2.2 p.2.2.1 [] fuel (by rw [au]; have:=ok.sets; omega) rfl).trans ?_
 unfold bF.j0
 refine (BE fuel p 0 0 0 _ _ p.2.2.1 p.2.2.2.1 ok.al (fun s hs=>(ok.aa s hs).1) p.2.2.2.1 [] fuel (by rw [au]; have:=ok.al; omega) rfl).trans ?_
 unfold bF.j1
 refine (Ie fuel p 0 0 0 _ _ p.2.2.1 p.2.2.2.1 p.2.2.2.2.2.2.1 ok.sl ok.sb p.2.2.2.2.2.2.1 [] fuel (by rw [au]; have:=ok.sl; omega) rfl).trans ?_
 rfl
def fA (t : List Int) (h : Int) : List cC->Nat->Option Nat
 | [],_=>none
 | a :: R,i=>if (ax (.arr 32 (.int .u8)) a.1 t && a.2.1 == h) = true then some i else fA t h R (i + 1)
theorem Io {t : List Int} {h : Int} : ∀ {R : List cC} {i j : Nat},fA t h R i = some j->i <= j /\ j < i + R.length
 | [],i,j,e=>by simp [fA] at e
 | a :: R,i,j,e=>by
  simp only [fA] at e
  split at e
  ·cases e; simp
  ·have:=Io e; simp only [length_cons]; omega
section
variable {α : Type} (K : Nat) (ch now nx : Int) (sn : List (List Int)) (cv : _) (z : List iX) (st : List en) (t : List Int) (h : Int)
theorem Ih (Rt Xt) (l : List cC) (hl : l.length <= 4) : ∀ (R P : List cC) (n : Nat),R.length < n->l = P ++ R ->
  bx.l0 (α:=α) K Rt Xt n h (l.length : Int) (P.length : Int) ch now sn nx cv z l st t = match fA t h R P.length with
   | some i=>Rt i ch now sn nx cv z l st
   | none=>Xt ch now sn nx cv z l st
 | R,P,0,h,_=>by omega
 | [],P,n + 1,hn,hc=>by
  simp_all [bx.l0,bx.bq,fA]
 | y :: R,P,n + 1,hn,hc=>by
  have hlen : l.length = P.length + (R.length + 1):=by rw [hc]; simp
  have hg : l.getD P.length A0 = y:=by rw [hc]; exact ef _ _ _ _
  have hi : 0 <= (P.length : Int) /\ (P.length : Int) < (l.length : Int):=by omega
  simp only [bx.l0,bx.bq,fA]
  rw [if_pos (dT (by omega)),if_pos hi,ag,hg,decide_eq_true hi,Bool.true_or,cond_true,bS]
  split
  ·rfl
  ·rw [aG (by omega)]
   have ih:=Ih Rt Xt l hl R (P ++ [y]) n (by simpa using hn) (by simp [hc])
   grind
theorem HL (Rt Xt) (l : List cC) (hl : l.length <= 4) : ∀ (R P : List cC) (n : Nat),R.length < n->l = P ++ R ->
  bD.l0 (α:=α) K Rt Xt n h l (l.length : Int) (P.length : Int) t = match fA t h R P.length with
   | some i=>Rt i
   | none=>Xt
 | R,P,0,h,_=>by omega
 | [],P,n + 1,hn,hc=>by
  simp_all [bD.l0,bD.bq,fA]
 | y :: R,P,n + 1,hn,hc=>by
  have hlen : l.length = P.length + (R.length + 1):=by rw [hc]; simp
  have hg : l.getD P.length A0 = y:=by rw [hc]; exact ef _ _ _ _
  have hi : 0 <= (P.length : Int) /\ (P.length : Int) < (l.length : Int):=by omega
  simp only [bD.l0,bD.bq,fA]
  rw [if_pos (dT (by omega)),if_pos hi,ag,hg,bS]
  split
  ·rfl
  ·rw [aG (by omega)]
   have ih:=HL Rt Xt l hl R (P ++ [y]) n (by simpa using hn) (by simp [hc])
   grind
theorem xT (l : List cC) (hl : l.length <= 4) : bx.run t h ch now sn nx cv z l st = some (match fA t h l 0 with
   | some i=>.inl ((i : Int),ch,now,sn,nx,cv,z,l,st,())
   | none=>.inr (.inl (ch,now,sn,nx,cv,z,l,st,()))):=by
 unfold bx.run bx.top
 refine (Ih fuel ch now nx sn cv z st t h _ _ l hl l [] fuel (by rw [au]; omega) rfl).trans ?_
 rw [length_nil]
 cases fA t h l 0 <;> rfl
theorem uk (p : gN) (hl : p.2.2.2.1.length <= 4) : bD.run p t h = some (match fA t h p.2.2.2.1 0 with
   | some i=>(i : Int)
   | none=>-1):=by
 unfold bD.run bD.top
 refine (HL fuel t h _ _ p.2.2.2.1 hl p.2.2.2.1 [] fuel (by rw [au]; omega) rfl).trans ?_
 rw [length_nil]
 cases fA t h p.2.2.2.1 0 <;> rfl
end
theorem BP (kd ho tc de : Int) (am fe tk to : List Int) (ha : am.length = 4 /\ aN ah am) (hf : fe.length = 4 /\ aN ah fe) (htk : tk.length = 32) (hto : to.length = 32) (ch now nx : Int) (sn : List (List Int)) (cv : _) (z : List iX) (l : List cC) (st : List en) (hs : st.length <= 256) (hn : nx = (st.length : Int)) :
  ∃ e nx' st',eG.run kd am fe tk ho to tc de [] [] 0 [] ch now sn nx cv z l st = some (e,ch,now,sn,nx',cv,z,l,st',()) /\ fJ.run (ch,now,z,l,sn,nx,st,()) (kd,am,fe,tk,ho,to,tc,de,[],[],0,[],()) = some ((ch,now,z,l,sn,nx',st',()),e,()) /\ st'.length <= 257 /\ (e ≠ 0->nx' = nx /\ st' = st):=by
 obtain ⟨r,e1,e2⟩:=CD kd am fe tk ho to tc de [] [] 0 [] ha hf htk hto (by simp) (by simp) (by simp)
 obtain ⟨m,m1,m2⟩:=qk ch
 unfold eG.run eG.top fJ.run fJ.top
 rw [e1,e2]
 simp only [bind_some]
 by_cases h0 : (r.2.1 != 0) = true
 ·rw [if_pos h0,if_pos h0]
  exact ⟨_,_,_,rfl,rfl,by omega,fun _=>⟨rfl,rfl⟩⟩
 ·rw [if_neg h0,if_neg h0]
  by_cases h1 : nx = 256
  ·rw [if_pos (by simpa using h1),if_pos (dT (by omega))]
   exact ⟨_,_,_,rfl,rfl,by omega,fun _=>⟨rfl,rfl⟩⟩
  ·rw [if_neg (by simpa using h1),if_neg (dF (by omega)),if_pos (aU (by omega) (by omega)),m1,m2]
   simp only [bind_some]
   rw [if_pos (aU (by omega) (by omega)),if_pos (aU (by omega) (by omega))]
   exact ⟨_,_,_,rfl,rfl,by simp; omega,fun h=>absurd rfl h⟩
def Ju : List eo->Prop
 | []=>True
 | h :: R=>(∀ x ∈ R,mB h.1 x.1 = true) /\ Ju R
theorem zU (l : List eo) : ∀ (R P : List eo) (i : Nat),l = P ++ R->i = P.length->De l R.length i = true->Ju R
 | [],_,_,_,_,_=>trivial
 | [_],_,_,_,_,_=>⟨by simp,trivial⟩
 | h :: g :: R,P,i,hl,hi,ho=>by
  simp only [length_cons,De,and_eq_true] at ho
  have ih:=zU l (g :: R) (P ++ [h]) (i + 1) (by simp [hl]) (by simp [hi]) (by
   simp only [length_cons,De,and_eq_true]; exact ho.2)
  have hg : pv l (i + 1) = true:=ho.2.1
  unfold pv at hg
  rw [and_eq_true,Bool.or_eq_true,decide_eq_true_eq] at hg
  have h0 : mB h.1 g.1 = true:=by
   grind
  refine ⟨fun x hx=>?_,ih⟩
  rcases List.mem_cons.1 hx with rfl | hx
  ·exact h0
  ·exact vB _ _ _ h0 (ih.1 x hx)
theorem n6 {c : fB} (h : jt c = true) : Ju c.2.1 :=
 zU c.2.1 c.2.1 [] 0 rfl rfl ((jo c).1 h).1
def i5 (w : List Int) : List eo->Nat->Nat × Bool
 | [],i=>(i,false)
 | h :: R,i=>if mB h.1 w = true then i5 w R (i + 1) else (i,decide (h.1 = w))
theorem uT {w : List Int} {h : eo} {R : List eo} {i : Nat} (hb : mB h.1 w = true) : i5 w (h :: R) i = i5 w R (i + 1):=by
 simp_all [i5]
theorem uB {w : List Int} {h : eo} {R : List eo} {i : Nat} (hb : mB h.1 w = false) : i5 w (h :: R) i = (i,decide (h.1 = w)):=by
 simp_all [i5]
theorem So (x y : List Int) (h : x.length = y.length) : (n7 x y == 0) = decide (x = y):=by
 induction x generalizing y with
 | nil=>cases y with
  | nil=>rfl
  | cons=>simp at h
 | cons a x ih=>cases y with
  | nil=>simp at h
  | cons b y =>
   simp only [n7,List.cons.injEq]
   rcases Int.lt_trichotomy a b with q | q | q
   ·rw [if_pos q]
    have : ¬ (a = b /\ x = y):=by omega
    simp [this]
   ·subst q
    rw [if_neg (by omega),if_neg (by omega),ih y (by simpa using h)]
    simp
   ·rw [if_neg (by omega),if_pos q]
    have : ¬ (a = b /\ x = y):=by omega
    simp [this]
theorem Co {α : Type} (k : Nat) (Rt : Int->Bool->Option α) (Xt : fB->Option α) (c : fB) (w : List Int) (hw : w.length = 32) : ∀ (R P : List eo) (n : Nat),R.length < n->c.2.1.length < 1000->c.2.1 = P ++ R->(∀ x ∈ R,x.1.length = 32) ->
  gb.l0 k Rt Xt n c.2.1 (c.2.1.length : Int) (P.length : Int) c w = if (i5 w R P.length).1 = c.2.1.length then Xt c else Rt ((i5 w R P.length).1 : Int) (i5 w R P.length).2
 | R,P,0,h,_,_,_=>by omega
 | [],P,n + 1,h,hl,hc,_=>by
  simp_all [i5,gb.l0,gb.bq]
 | h :: R,P,n + 1,hn,hl,hc,hx=>by
  have hlen : c.2.1.length = P.length + (R.length + 1):=by rw [hc]; simp
  simp only [gb.l0,gb.bq]
  rw [if_pos (dT (by omega)),if_pos (by omega),aG (by omega),ag]
  have hg : c.2.1.getD P.length H0 = h:=by rw [hc]; exact kO _ _ _ _
  unfold gm.run gm.top o6.run
  simp only [bind_some]
  rw [hg]
  have h32:=hx h (by simp)
  rw [Ey h32,Ey hw,Ad _ _ (by omega),So _ _ (by omega)]
  have ih:=Co k Rt Xt c w hw R (P ++ [h]) n (by simpa using hn) hl (by simp [hc]) (fun x hxm=>hx x (mem_cons_of_mem _ hxm))
  rw [length_append] at ih
  cases hb : mB h.1 w with
  | true=>rw [uT hb]; simp only [Bool.not_true]; rw [if_neg (by simp)]; exact ih
  | false =>
   rw [uB hb]
   simp only [Bool.not_false]
   rw [if_pos trivial,if_neg (show ¬ (P.length = c.2.1.length) by omega)]
theorem uz (w : List Int) : ∀ (R : List eo) (i : Nat),i <= (i5 w R i).1 /\ (i5 w R i).1 <= i + R.length /\ ((i5 w R i).2 = true->(i5 w R i).1 < i + R.length) /\ ((i5 w R i).1 = i + R.length->(i5 w R i).2 = false)
 | [],i=>by simp [i5]
 | h :: R,i=>by
  have:=uz w R (i + 1)
  simp only [length_cons]
  cases hb : mB h.1 w with
  | true =>
   rw [uT hb]
   refine ⟨by omega,by omega,fun h=>by have:=this.2.2.1 h; omega,fun h=>this.2.2.2 (by omega)⟩
  | false =>
   rw [uB hb]
   refine ⟨by simp,by simp,fun h=>by simp,fun h=>by simp at h⟩
theorem s8 (c : fB) (hc : ir c) (hl : c.2.1.length <= 40) {w : List Int} (hw : w.length = 32) :
  gb.run c w = some (((i5 w c.2.1 0).1 : Int),(i5 w c.2.1 0).2,()):=by
 unfold gb.run gb.top
 have:=fun N (hN : c.2.1.length < N)=>Co N (fun (x4 : Int) (x5 : Bool)=>some (x4,x5,())) (fun (c2 : fB)=>gb.j0 (fun (x4 : Int) (x5 : Bool)=>some (x4,x5,())) c2) c w hw c.2.1 [] N hN (by omega) rfl (fun x hx=>(hc.2.2 x hx).1)
 refine Eq.trans (this fuel (by rw [au]; omega)) ?_
 unfold gb.j0
 simp only [length_nil]
 split
 ·rename_i e
  have:=(uz w c.2.1 0).2.2.2 (by omega)
  rw [this,e]
 ·rfl
def ku (w : List Int) : List eo->List Int
 | []=>[0,0,0,0]
 | h :: R=>if h.1 = w then h.2.1 else ku w R
theorem Be {α : Type} (k : Nat) (Rt : List Int->Option α) (Xt : List Int->Option α) (l : List eo) (w : List Int) : ∀ (R P : List eo) (n : Nat),R.length < n->l.length < 1000->l = P ++ R->Xt [0,0,0,0] = Rt [0,0,0,0] ->
  cq.l0 k Rt Xt n l (l.length : Int) (P.length : Int) w [0,0,0,0] = Rt (ku w R)
 | R,P,0,h,_,_,_=>by omega
 | [],P,n + 1,h,hl,hc,hX=>by
  simp_all [cq.l0,cq.bq,ku]
 | h :: R,P,n + 1,hn,hl,hc,hX=>by
  have hlen : l.length = P.length + (R.length + 1):=by rw [hc]; simp
  simp only [cq.l0,cq.bq,ku]
  rw [if_pos (dT (by omega)),if_pos (by omega),aG (by omega),ag]
  have hg : l.getD P.length H0 = h:=by rw [hc]; exact kO _ _ _ _
  rw [hg,iQ _ _ _ rfl]
  have ih:=Be k Rt Xt l w R (P ++ [h]) n (by simpa using hn) hl (by simp [hc]) hX
  grind
theorem yO (c : fB) (hl : c.2.1.length <= 40) (w : List Int) : cq.run c w = some (ku w c.2.1):=by
 unfold cq.run cq.top
 have:=fun N (hN : c.2.1.length < N)=>Be N (fun (c4 : List Int)=>some c4) (fun (c4 : List Int)=>cq.j0 (fun (c4 : List Int)=>some c4) c4) c.2.1 w c.2.1 [] N hN (by omega) rfl rfl
 grind [au]
theorem yN (w : List Int) : ∀ (R : List eo),(∀ x ∈ R,mB w x.1 = true)->ku w R = [0,0,0,0]
 | [],_=>rfl
 | h :: R,hx=>by
  have h1:=hx h (by simp)
  simp only [ku]
  rw [if_neg (fun e=>by rw [e,rX] at h1; simp at h1)]
  exact yN w R fun x hm=>hx x (mem_cons_of_mem _ hm)
theorem later (w : List Int) {h : eo} {R : List eo} (hs : Ju (h :: R)) (hb : mB h.1 w = false) (h32 : h.1.length = w.length) : ∀ x ∈ R,mB w x.1 = true:=by
 intro x hx
 have h1:=hs.1 x hx
 grind [F8,vB]
theorem A6 (l : List eo) (w : List Int) : ∀ (R P : List eo),l = P ++ R->Ju R->(∀ x ∈ R,x.1.length = w.length) ->
  (if (i5 w R P.length).2 = true then (l.getD (i5 w R P.length).1 H0).2.1 else [0,0,0,0]) = ku w R
 | [],P,_,_,_=>by simp [i5,ku]
 | h :: R,P,hl,hs,hx=>by
  simp only [ku]
  cases hb : mB h.1 w with
  | true =>
   rw [uT hb]
   have ih:=A6 l w R (P ++ [h]) (by simp [hl]) hs.2 (fun x hm=>hx x (mem_cons_of_mem _ hm))
   rw [length_append] at ih
   rw [if_neg (show ¬ (h.1 = w) from fun e=>by rw [e,rX] at hb; simp at hb)]
   exact ih
  | false =>
   rw [uB hb]
   by_cases e : h.1 = w
   ·rw [if_pos (by simpa using e),if_pos e,hl,kO]
   ·rw [if_neg (by simpa using e),if_neg e,yN w R (later w hs hb (hx h (by simp)))]
theorem ov (c : fB) (hc : ir c) (hl : c.2.1.length <= 40) (hs : Ju c.2.1) {w : List Int} (hw : w.length = 32) : mi.run c w = some (ku w c.2.1):=by
 unfold mi.run mi.top
 rw [s8 c hc hl hw]
 simp only [bind_some]
 have:=A6 c.2.1 w c.2.1 [] rfl hs (fun x hx=>by rw [(hc.2.2 x hx).1,hw])
 simp only [length_nil] at this
 rw [<- this]
 have h2:=(uz w c.2.1 0).2.2.1
 grind
theorem q8 (w : List Int) : ∀ (R : List eo),(∀ x ∈ R,mT x)->(ku w R).length = 4 /\ aN ah (ku w R)
 | [],_=>⟨rfl,fun d hd=>by
   simp only [ku,mem_cons,not_mem_nil,or_false] at hd
   simp only [ah]; omega⟩
 | h :: R,hx=>by
  simp only [ku]
  split
  ·exact ⟨(hx h (by simp)).2.1,(hx h (by simp)).2.2.1⟩
  ·exact q8 w R fun x hm=>hx x (mem_cons_of_mem _ hm)
def ins (w n : List Int) : List eo:=if n = [0,0,0,0] then [] else [(w,n,())]
def iM (w n : List Int) : List eo->List eo
 | []=>ins w n
 | h :: R=>if mB h.1 w = true then h :: iM w n R else if h.1 = w then ins w n ++ R else ins w n ++ h :: R
theorem BI (l : List eo) (w n : List Int) : ∀ (R P : List eo),l = P ++ R ->
  ay l 0 ((i5 w R P.length).1 : Int) ++ ins w n ++ ay l (((i5 w R P.length).1 + if (i5 w R P.length).2 = true then 1 else 0 : Nat) : Int) (l.length : Int) = P ++ iM w n R
 | [],P,hl=>by
  simp_all [i5,iM,ay]
 | h :: R,P,hl=>by
  simp only [iM]
  cases hb : mB h.1 w with
  | true =>
   rw [uT hb,if_pos rfl]
   have ih:=BI l w n R (P ++ [h]) (by simp [hl])
   rw [length_append] at ih
   refine Eq.trans ih ?_
   simp
  | false =>
   rw [uB hb,if_neg (show ¬ (false = true) by simp)]
   subst hl
   by_cases e : h.1 = w
   ·rw [if_pos (by simpa using e),if_pos e]
    simp [ay,List.drop_append,List.take_append]
    rw [List.drop_eq_nil_of_le (by omega),List.take_nil,List.nil_append]
    apply List.take_of_length_le; omega
   ·rw [if_neg (by simpa using e),if_neg e]
    simp [ay,List.drop_append,List.take_append]
    apply List.take_of_length_le; simp; omega
theorem oB (c : fB) (hc : ir c) (hl : c.2.1.length <= 40) {w n : List Int} (hw : w.length = 32) : iB.run c w n = some (c.1,iM w n c.2.1,()):=by
 unfold iB.run iB.top
 rw [s8 c hc hl hw]
 simp only [bind_some]
 obtain ⟨f0,f1,f2,f3⟩:=uz w c.2.1 0
 have hw:=BI c.2.1 w n c.2.1 [] rfl
 simp only [length_nil,List.nil_append] at hw
 generalize i5 w c.2.1 0 = f at *
 obtain ⟨i,b⟩:=f
 simp only at *
 have hcut : ∀ (a b : Int),(ay c.2.1 a b).length <= 40:=fun a b=>by
  grind [ay]
 have hc0:=hcut 0 (i : Int)
 have fits : ∀ m,m <= 4194304->eL m 64 = true:=fun m hm=>aU hm (by omega)
 rw [if_pos (by omega),if_pos (fits _ (by omega)),iQ (.arr 4 (.int .u64)) n [0,0,0,0] rfl]
 have j1r : ∀ (j : Nat) (q : List eo),j <= c.2.1.length->q.length <= 41->iB.j1 (fun (c6p0 : List Int) (c21 : List eo)=>some (c6p0,c21,())) (j : Int) c [0,0,0,0] q = some (c.1,q ++ ay c.2.1 (j : Int) (c.2.1.length : Int),()):=fun j q hj hq=>by
  unfold iB.j1
  grind
 have j0r : ∀ (q : List eo),q.length <= 41->iB.j0 (fun (c6p0 : List Int) (c21 : List eo)=>some (c6p0,c21,())) (i : Int) b c [0,0,0,0] q = some (c.1,q ++ ay c.2.1 ((i + if b = true then 1 else 0 : Nat) : Int) (c.2.1.length : Int),()):=fun q hq=>by
  unfold iB.j0
  cases b with
  | true =>
   have:=f2 rfl
   rw [if_pos rfl,aG (by omega),j1r _ _ (by omega) hq]
   simp
  | false =>
   rw [if_neg (by simp),j1r _ _ (by omega) hq]
   simp
 by_cases hn : n = [0,0,0,0]
 ·rw [if_neg (by simp [hn]),j0r _ (by omega),<- hw]
  simp [ins,hn]
 ·rw [if_pos (by simp [hn]),if_pos (fits _ (by omega)),j0r _ (by simp; omega),<- hw]
  simp [ins,hn]
def C8 (w n : List Int) : Bool->List eo->List eo
 | b,[]=>if b = true then [] else [(w,n,())]
 | b,h :: R=>(if (!b && !(mB h.1 w)) = true then [(w,n,())] else []) ++ (if h.1 = w then [] else [h]) ++ C8 w n (b || !(mB h.1 w)) R
theorem Fl (w n : List Int) : ∀ (R : List eo),(∀ x ∈ R,mB w x.1 = true)->C8 w n true R = R
 | [],_=>rfl
 | h :: R,hx=>by
  have h1:=hx h (by simp)
  simp only [C8]
  rw [if_neg (by simp),if_neg (fun e=>by rw [e,rX] at h1; simp at h1),Bool.true_or,Fl w n R fun x hm=>hx x (mem_cons_of_mem _ hm)]
  rfl
theorem zy (w n : List Int) : ∀ (R : List eo),Ju R->(∀ x ∈ R,x.1.length = w.length)->C8 w n (decide (n = [0,0,0,0])) R = iM w n R
 | [],_,_=>by
  simp_all [C8,iM,ins]
 | h :: R,hs,hx=>by
  simp only [C8,iM]
  have ih:=zy w n R hs.2 (fun x hm=>hx x (mem_cons_of_mem _ hm))
  cases hb : mB h.1 w with
  | true =>
   rw [if_neg (by simp),if_neg (fun e=>by rw [e,rX] at hb; simp at hb),if_pos rfl]
   simp only [Bool.not_true,Bool.or_false,ih]; rfl
  | false =>
   have hbig:=Fl w n R (later w hs hb (hx h (by simp)))
   simp only [Bool.not_false,Bool.or_true,hbig,Bool.and_true]
   rw [if_neg (show ¬ (false = true) by simp)]
   unfold ins
   by_cases hn : n = [0,0,0,0]
   ·rw [if_neg (by simp [hn]),if_pos hn]
    by_cases e : h.1 = w
    ·rw [if_pos e,if_pos e]; rfl
    ·rw [if_neg e,if_neg e]; rfl
   ·rw [if_pos (by simp [hn]),if_neg hn]
    by_cases e : h.1 = w
    ·rw [if_pos e,if_pos e]; rfl
    ·rw [if_neg e,if_neg e]; rfl
def uI (w n : List Int) : Bool->List eo->List eo × Bool
 | b,[]=>([],b)
 | b,h :: R=>((if (!b && !(mB h.1 w)) = true then [(w,n,())] else []) ++ (if h.1 = w then [] else [h]) ++ (uI w n (b || !(mB h.1 w)) R).1,(uI w n (b || !(mB h.1 w)) R).2)
theorem BL (w n : List Int) : ∀ (b : Bool) (R : List eo),(uI w n b R).1 ++ (if (uI w n b R).2 = true then [] else [(w,n,())]) = C8 w n b R
 | b,[]=>by simp only [uI,C8,List.nil_append]; rfl
 | b,h :: R=>by
  have ih:=BL w n (b || !(mB h.1 w)) R
  grind [uI,C8]
theorem EN {α : Type} (k : Nat) (Xt : Bool->fB->List Int->List Int->List Int->List eo->Option α) (c : fB) (w n z : List Int) (hw : w.length = 32) (l : List eo) (hl : l.length <= 1000) : ∀ (R P : List eo) (m : Nat) (b : Bool) (q : List eo),R.length < m->l = P ++ R->q.length <= 2 * P.length->(∀ x ∈ R,x.1.length = 32) ->
  bK.l0 k Xt m b l (l.length : Int) (P.length : Int) c w n z q = Xt (uI w n b R).2 c w n z (q ++ (uI w n b R).1)
 | R,P,0,_,_,h,_,_,_=>by omega
 | [],P,m + 1,b,q,h,hc,hq,hx=>by
  simp_all [bK.l0,bK.bq,uI]
 | h :: R,P,m + 1,b,q,hm,hc,hq,hx=>by
  have hlen : l.length = P.length + (R.length + 1):=by rw [hc]; simp
  simp only [bK.l0,bK.bq]
  rw [if_pos (dT (by omega)),if_pos (by omega),ag]
  have hg : l.getD P.length H0 = h:=by rw [hc]; exact kO _ _ _ _
  rw [hg]
  unfold ej.run ej.top
  rw [Ey (hx h (by simp)),Ey hw]
  have ih:=fun b' q' hq'=>EN k Xt c w n z hw l hl R (P ++ [h]) m b' q' (by simpa using hm) (by simp [hc]) hq' (fun x hxm=>hx x (mem_cons_of_mem _ hxm))
  simp only [length_append,length_cons,length_nil] at ih
  have fits : ∀ m,m <= 4194304->eL m 64 = true:=fun m hm=>aU hm (by omega)
  have j0r : ∀ (b' : Bool) (q' : List eo),q'.length <= 2 * P.length + 1->bK.j0 (bK.l0 k Xt m) b' l (l.length : Int) (P.length : Int) c w n z h q' = bK.l0 k Xt m b' l (l.length : Int) ((P.length + 1 : Nat) : Int) c w n z (q' ++ if h.1 = w then [] else [h]):=fun b' q' hq'=>by
   unfold bK.j0 bK.j1
   rw [iQ _ _ _ rfl,aG (by omega)]
   grind
  have hq2 : ∀ (q' : List eo),q'.length <= 2 * P.length + 1->(q' ++ if h.1 = w then ([] : List eo) else [h]).length <= 2 * (P.length + (0 + 1)):=fun q' h'=>by
   grind
  simp only [uI]
  cases b with
  | true =>
   simp only [Bool.not_true,Bool.false_and,Bool.true_or]
   rw [if_neg (by simp),bind_some]
   simp only [cond_false]
   rw [if_neg (by simp),j0r _ _ (by omega)]
   refine Eq.trans (ih _ _ (hq2 _ (by omega))) ?_
   simp
  | false =>
   simp only [Bool.not_false,Bool.true_and,Bool.false_or]
   rw [if_pos (show (true == true) = true from rfl),bind_some]
   simp only [cond_true]
   cases hbw : mB h.1 w with
   | true =>
    simp only [Bool.not_true]
    rw [if_neg (by simp),j0r _ _ (by omega)]
    refine Eq.trans (ih _ _ (hq2 _ (by omega))) ?_
    simp
   | false =>
    simp only [Bool.not_false]
    rw [if_pos trivial,if_pos (fits _ (by omega)),j0r _ _ (by simp; omega)]
    refine Eq.trans (ih _ _ (hq2 _ (by simp; omega))) ?_
    simp
theorem Hr (c : fB) (hc : ir c) (hl : c.2.1.length <= 40) (hs : Ju c.2.1) {w n : List Int} (hw : w.length = 32) : bK.run c w n = some (c.1,iM w n c.2.1,()):=by
 unfold bK.run bK.top aB.run aB.top
 simp only [bind_some]
 rw [iQ (.arr 4 (.int .u64)) n [0,0,0,0] rfl]
 have:=fun N (hN : c.2.1.length < N)=>EN N (fun (x8 : Bool) (c3 : fB) (c4 : List Int) (c5 : List Int) (c6p0 : List Int) (c34 : List eo)=>bK.j2 (fun (c6p0 : List Int) (c34 : List eo)=>some (c6p0,c34,())) x8 c3 c4 c5 c6p0 c34) c w n [0,0,0,0] hw c.2.1 (by omega) c.2.1 [] N (decide (n = [0,0,0,0])) [] hN rfl (by simp) (fun x hx=>(hc.2.2 x hx).1)
 refine Eq.trans (this fuel (by rw [au]; omega)) ?_
 rw [<- zy w n c.2.1 hs (fun x hx=>by rw [(hc.2.2 x hx).1,hw]),<- BL]
 have hlen : ∀ (R : List eo) b,(uI w n b R).1.length <= 2 * R.length:=by
  intro R
  induction R with
  | nil=>intro b; simp [uI]
  | cons h R ih =>
   intro b
   simp only [uI,length_append,length_cons]
   have:=ih (b || !(mB h.1 w))
   split <;> split <;> simp <;> omega
 have hl2:=hlen c.2.1 (decide (n = [0,0,0,0]))
 generalize uI w n (decide (n = [0,0,0,0])) c.2.1 = f at *
 obtain ⟨f1,f2⟩:=f
 simp only at *
 unfold bK.j2 bK.j3
 cases f2 with
 | true=>rw [if_neg (by simp)]; simp
 | false =>
  rw [if_pos (by rfl),if_pos (aU (by simp; omega) (by omega))]
  simp
theorem N9 {l m : List Int} (hl : l.length = 4) (hm : m.length = 4) (dl : aN ah l) (dm : aN ah m) :
  ∃ r o,gy.run l m = some (r,o,()) /\ r.length = 4 /\ aN ah r /\ val ah r = (val ah l + val ah m) % aM /\ (o = true ↔ aM <= val ah l + val ah m):=by
 unfold gy.run gy.top
 obtain ⟨o1,e1,n1,g1,v1⟩:=fE hl dl
 obtain ⟨o2,e2,n2,g2,v2⟩:=fE hm dm
 obtain ⟨p,e3,n3,g3,v3⟩:=mK g1 g2 (by omega) (by omega)
 obtain ⟨w,f,e4,n4,g4,v4,f4⟩:=jQ g3 (by omega)
 rw [e1,e2]
 simp only [bind_some]
 rw [e3]
 simp only [bind_some]
 rw [e4]
 simp only [bind_some]
 exact ⟨w,f,rfl,n4,g4,by rw [v4,v3,v1,v2],by rw [f4,v3,v1,v2]⟩
theorem nine : aN bM [0,0,0,0,0,0,0,0,1] /\ val bM [0,0,0,0,0,0,0,0,1] = aM:=by
 constructor
 ·intro d hd
  simp only [mem_cons,not_mem_nil,or_false] at hd
  grind
 rfl
theorem yr {l m : List Int} (hl : l.length = 4) (hm : m.length = 4) (dl : aN ah l) (dm : aN ah m) :
  ∃ r o,cG.run l m = some (r,o,()) /\ r.length = 4 /\ aN ah r /\ val ah r = (val ah l - val ah m) % aM /\ (o = true ↔ val ah l < val ah m):=by
 unfold cG.run cG.top cd.run cd.top
 obtain ⟨o1,e1,n1,g1,v1⟩:=fE hl dl
 obtain ⟨o2,e2,n2,g2,v2⟩:=fE hm dm
 have b1:=eH hl dl
 have b2:=eH hm dm
 rw [e1,e2]
 simp only [bind_some]
 rw [mr g1 g2 (by omega) (by omega),v1,v2]
 simp only [bind_some]
 by_cases hlt : val ah l < val ah m
 ·rw [if_pos hlt,if_neg (by simp)]
  obtain ⟨p,e3,n3,g3,v3⟩:=mK g1 nine.1 (by omega) (by simp)
  rw [nine.2] at v3
  obtain ⟨q,e4,n4,g4,v4⟩:=zG g3 g2 (by simp at n3; omega) (by simp at n3; omega) (by omega)
  obtain ⟨w,f,e5,n5,g5,v5,f5⟩:=jQ g4 (by simp at n3; omega)
  rw [e3]
  simp only [bind_some]
  rw [e4]
  simp only [bind_some]
  rw [e5]
  simp only [bind_some]
  refine ⟨w,true,rfl,n5,g5,?_,by simpa using hlt⟩
  rw [v5,v4,v3,v1,v2]
  simp only [aM]
  omega
 ·rw [if_neg hlt]
  have hge : decide ((if val ah l > val ah m then (1 : Int) else 0) >= 0) = true:=by split <;> simp
  rw [if_pos hge]
  obtain ⟨q,e4,n4,g4,v4⟩:=zG g1 g2 (by omega) (by omega) (by omega)
  obtain ⟨w,f,e5,n5,g5,v5,f5⟩:=jQ g4 (by omega)
  rw [e4]
  simp only [bind_some]
  rw [e5]
  simp only [bind_some]
  refine ⟨w,false,rfl,n5,g5,?_,by simpa using hlt⟩
  rw [v5,v4,v1,v2]
theorem sj {l m : List Int} (hl : l.length = 4) (hm : m.length = 4) (dl : aN ah l) (dm : aN ah m) :
  ∃ r o,fy.run l m = some (r,o,()) /\ gy.run l m = some (r,o,()) /\ r.length = 4 /\ aN ah r /\ val ah r = (val ah l + val ah m) % aM /\ (o = true ↔ aM <= val ah l + val ah m):=by
 obtain ⟨r1,o1,e1,n1,g1,v1,f1⟩:=nF hl hm dl dm
 obtain ⟨r3,o3,e3,n3,g3,v3,f3⟩:=N9 hl hm dl dm
 have k1 : r1 = r3:=jD n1 n3 g1 g3 (by rw [v1,v3])
 have k3 : o1 = o3:=IA f1 f3
 subst k1 k3
 exact ⟨r1,o1,e1,e3,n1,g1,v1,f1⟩
theorem vF {l m : List Int} (hl : l.length = 4) (hm : m.length = 4) (dl : aN ah l) (dm : aN ah m) :
  ∃ r o,fO.run l m = some (r,o,()) /\ cG.run l m = some (r,o,()) /\ r.length = 4 /\ aN ah r /\ val ah r = (val ah l - val ah m) % aM /\ (o = true ↔ val ah l < val ah m):=by
 obtain ⟨r1,o1,e1,n1,g1,v1,f1⟩:=qY hl hm dl dm
 obtain ⟨r3,o3,e3,n3,g3,v3,f3⟩:=yr hl hm dl dm
 have k1 : r1 = r3:=jD n1 n3 g1 g3 (by rw [v1,v3])
 have k3 : o1 = o3:=IA f1 f3
 subst k1 k3
 exact ⟨r1,o1,e1,e3,n1,g1,v1,f1⟩
abbrev Uv : Ty:=.arr 32 (.int .u8)
def ue (r : fB × Int × Unit) : Prop:=ir r.1 /\ r.1.2.1.length <= 41
theorem od {e : Int} : ue (([0,0,0,0],[],()),e,()):=by
 refine ⟨⟨rfl,fun d hd=>?_,by simp⟩,by simp⟩
 grind
theorem ym {w n : List Int} (hw : w.length = 32 /\ ∀ b ∈ w,0 <= b /\ b <= 255) (hn : n.length = 4 /\ aN ah n) : ∀ (R : List eo),(∀ x ∈ R,mT x)->(∀ x ∈ iM w n R,mT x) /\ (iM w n R).length <= R.length + 1
 | [],_=>by
  simp only [iM,ins]
  split
  ·simp
  ·refine ⟨fun x hx=>?_,by simp⟩
   simp only [mem_cons,not_mem_nil,or_false] at hx
   subst hx; exact ⟨hw.1,hn.1,hn.2,hw.2⟩
 | h :: R,hx=>by
  obtain ⟨i1,i2⟩:=ym hw hn R (fun x hm=>hx x (mem_cons_of_mem _ hm))
  have hi : ∀ x ∈ ins w n,mT x:=by
   intro x hx
   unfold ins at hx
   split at hx
   ·simp at hx
   ·simp only [mem_cons,not_mem_nil,or_false] at hx
    subst hx; exact ⟨hw.1,hn.1,hn.2,hw.2⟩
  grind [iM,ins]
theorem vl (c : fB) (hc : ir c) {w n : List Int} (hw : w.length = 32 /\ ∀ b ∈ w,0 <= b /\ b <= 255) (hn : n.length = 4 /\ aN ah n) :
  ∃ r,i9.run c w n = some r /\ dO.run c w n = some r /\ ue r:=by
 unfold i9.run i9.top dO.run dO.top
 rw [tY _ hc,kU _ hc]
 simp only [bind_some]
 by_cases h40 : c.2.1.length > 40
 ·rw [if_pos h40]; exact ⟨_,rfl,rfl,od⟩
 ·rw [if_neg h40]
  by_cases hg : jt c = true
  ·rw [if_pos hg,if_neg (show ¬ (((0 : Int) != 0) = true) by decide),if_neg (show ¬ (((0 : Int) != 0) = true) by decide)]
   obtain ⟨r1,o1,e1,e2,n1,d1,_⟩:=sj hc.1 hn.1 hc.2.1 hn.2
   rw [e1,e2]
   simp only [bind_some]
   by_cases ho : o1 = true
   ·rw [if_pos ho,if_pos ho]; exact ⟨_,rfl,rfl,od⟩
   ·rw [if_neg ho,if_neg ho,ov _ hc (by omega) (n6 hg) hw.1,yO _ (by omega)]
    simp only [bind_some]
    obtain ⟨k1,k2⟩:=q8 w c.2.1 hc.2.2
    obtain ⟨r2,o2,f1,f2,n2,d2,_⟩:=sj k1 hn.1 k2 hn.2
    rw [f1,f2]
    simp only [bind_some]
    rw [oB c hc (by omega) hw.1,Hr c hc (by omega) (n6 hg) hw.1]
    simp only [bind_some]
    obtain ⟨i1,i2⟩:=ym hw ⟨n2,d2⟩ c.2.1 hc.2.2
    unfold kP.run kP.top
    by_cases hb : (decide (((iM w r2 c.2.1).length : Int) > 40)) = true
    ·rw [if_pos hb]; exact ⟨_,rfl,rfl,od⟩
    ·rw [if_neg hb]; exact ⟨_,rfl,rfl,⟨n1,d1,i1⟩,by simp; omega⟩
  ·rw [if_neg hg]; exact ⟨_,rfl,rfl,od⟩
theorem vN (c : fB) (hc : ir c) {w n : List Int} (hw : w.length = 32 /\ ∀ b ∈ w,0 <= b /\ b <= 255) (hn : n.length = 4 /\ aN ah n) :
  ∃ r,kZ.run c w n = some r /\ fx.run c w n = some r /\ ue r:=by
 unfold kZ.run kZ.top fx.run fx.top
 rw [tY _ hc,kU _ hc]
 simp only [bind_some]
 by_cases h40 : c.2.1.length > 40
 ·rw [if_pos h40]; exact ⟨_,rfl,rfl,od⟩
 ·rw [if_neg h40]
  by_cases hg : jt c = true
  ·rw [if_pos hg,if_neg (show ¬ (((0 : Int) != 0) = true) by decide),if_neg (show ¬ (((0 : Int) != 0) = true) by decide)]
   rw [ov _ hc (by omega) (n6 hg) hw.1,yO _ (by omega)]
   simp only [bind_some]
   obtain ⟨k1,k2⟩:=q8 w c.2.1 hc.2.2
   obtain ⟨r1,o1,e1,e2,n1,d1,_⟩:=vF k1 hn.1 k2 hn.2
   rw [e1,e2]
   simp only [bind_some]
   by_cases ho : o1 = true
   ·rw [if_pos ho,if_pos ho]; exact ⟨_,rfl,rfl,od⟩
   ·rw [if_neg ho,if_neg ho,oB c hc (by omega) hw.1,Hr c hc (by omega) (n6 hg) hw.1]
    simp only [bind_some]
    obtain ⟨i1,i2⟩:=ym hw ⟨n1,d1⟩ c.2.1 hc.2.2
    obtain ⟨r2,o2,f1,f2,n2,d2,_⟩:=vF hc.1 hn.1 hc.2.1 hn.2
    rw [f1,f2]
    simp only [bind_some]
    exact ⟨_,rfl,rfl,⟨n2,d2,i1⟩,by simp; omega⟩
  ·rw [if_neg hg]; exact ⟨_,rfl,rfl,od⟩
theorem G7 {K : Ty->Nat->Prop} {w : List Int} (h : Fit K Uv w) : w.length = 32 /\ ∀ b ∈ w,0 <= b /\ b <= 255 :=
 ⟨h.1,fun b hb=>by have:=h.2 b hb; simpa [Fit,Hc] using this⟩
theorem Bk (c : fB) (hc : ir c) {v w n : List Int} (hv : v.length = 32 /\ ∀ b ∈ v,0 <= b /\ b <= 255) (hw : w.length = 32 /\ ∀ b ∈ w,0 <= b /\ b <= 255) (hn : n.length = 4 /\ aN ah n) :
  ∃ r,iR.run c v w n = some r /\ d8.run c v w n = some r /\ ue r:=by
 obtain ⟨r,e1,e2,g1,g2⟩:=vN c hc hv hn
 unfold iR.run iR.top d8.run d8.top
 rw [e1,e2]
 simp only [bind_some]
 by_cases he : (r.2.1 != 0) = true
 ·rw [if_pos he,if_pos he]
  exact ⟨_,rfl,rfl,od⟩
 ·rw [if_neg he,if_neg he]
  obtain ⟨s,f1,f2,k1,k2⟩:=vl r.1 g1 hw hn
  rw [f1,f2]
  exact ⟨_,rfl,rfl,k1,k2⟩
def sm : List eo->Int
 | []=>0
 | h :: R=>val ah h.2.1 + sm R
def Nz (l : List eo) : Prop:=∀ x ∈ l,x.2.1 ≠ [0,0,0,0]
theorem GA (l : List eo) : ∀ (R P : List eo),l = P ++ R->BG l R.length P.length = sm R
 | [],P,_=>rfl
 | h :: R,P,hl=>by
  simp only [length_cons,BG,sm]
  have ih:=GA l R (P ++ [h]) (by simp [hl])
  grind
theorem Bn (l : List eo) : ∀ (R P : List eo),l = P ++ R->De l R.length P.length = true->Nz R
 | [],_,_,_=>fun x hx=>by cases hx
 | h :: R,P,hl,ho=>by
  simp only [length_cons,De,pv,and_eq_true] at ho
  have ih:=Bn l R (P ++ [h]) (by simp [hl]) (by rw [length_append]; exact ho.2)
  intro x hx
  rcases List.mem_cons.1 hx with rfl | hx
  ·intro e
   have h1:=ho.1.1
   have hg : l.getD P.length H0 = x:=by rw [hl]; exact kO P x R H0
   rw [hg,e] at h1
   exact absurd h1 (by decide)
  ·exact ih x hx
theorem Ii {p h : eo} {R : List eo} : ∀ (Q : List eo),Ju (Q ++ p :: h :: R)->mB p.1 h.1 = true
 | [],hs=>hs.1 h (by simp)
 | _ :: Q,hs=>Ii Q hs.2
theorem KQ (l : List eo) (hn : Nz l) (hs : Ju l) : ∀ (R P : List eo),l = P ++ R->De l R.length P.length = true
 | [],_,_=>rfl
 | h :: R,P,hl=>by
  have hg : l.getD P.length H0 = h:=by rw [hl]; exact kO P h R H0
  have ih:=KQ l hn hs R (P ++ [h]) (by simp [hl])
  rw [length_append] at ih
  simp only [length_cons,De,pv,and_eq_true]
  refine ⟨⟨?_,?_⟩,ih⟩
  ·rw [hg]
   cases hb : ax (.arr 4 (.int .u64)) h.2.1 [0,0,0,0] with
   | false=>rfl
   | true=>exact absurd ((jB (.arr 4 (.int .u64)) _ _ rfl).1 hb) (hn h (by rw [hl]; simp))
  ·rcases List.eq_nil_or_concat P with rfl | ⟨Q,p,rfl⟩
   ·rfl
   ·rw [List.concat_eq_append] at hl hg ⊢
    have hl2 : l = Q ++ p :: h :: R:=by rw [hl]; simp
    have hg2 : l.getD ((Q ++ [p]).length - 1) H0 = p:=by
     grind
    rw [hg,hg2,Bool.or_eq_true]; right
    grind [Ii]
theorem vS {w n : List Int} {x : eo} : ∀ {R : List eo},x ∈ iM w n R->x ∈ R \/ (x = (w,n,()) /\ n ≠ [0,0,0,0])
 | [],h=>by
  grind [iM,ins]
 | a :: R,h=>by
  have hi : x ∈ ins w n->x = (w,n,()) /\ n ≠ [0,0,0,0]:=fun h=>by
   grind [ins]
  simp only [iM] at h
  split at h
  ·rcases List.mem_cons.1 h with rfl | h
   ·grind
   ·rcases vS h with h | h
    ·grind
    ·exact .inr h
  grind
theorem BA {w n : List Int} (hw : w.length = 32) : ∀ (R : List eo),Ju R->(∀ x ∈ R,x.1.length = 32)->Ju (iM w n R)
 | [],_,_=>by
  simp only [iM,ins]
  split
  ·trivial
  ·exact ⟨by simp,trivial⟩
 | a :: R,hs,hl=>by
  have hr:=fun x hx=>hl x (mem_cons_of_mem a hx)
  simp only [iM]
  split
  ·rename_i hb
   refine ⟨fun x hx=>?_,BA hw R hs.2 hr⟩
   rcases vS hx with h | ⟨rfl,_⟩
   ·exact hs.1 x h
   ·exact hb
  ·rename_i hb
   have hb : mB a.1 w = false:=by simpa using hb
   have hl8:=later w hs hb (by rw [hl a (by simp),hw])
   unfold ins
   split
   ·split
    ·exact hs.2
    ·exact ⟨hl8,hs.2⟩
   ·rename_i hne
    split
    ·exact hs
    ·refine ⟨fun x hx=>?_,hs⟩
     rcases List.mem_cons.1 hx with rfl | hx
     ·cases hc : mB w x.1 with
      | true=>rfl
      | false=>exact absurd (F8 _ _ (by rw [hl x (by simp),hw]) hb hc) hne
     ·exact hl8 x hx
theorem Gb (w n : List Int) (R : List eo) : sm (ins w n ++ R) = val ah n + sm R:=by
 unfold ins
 split
 ·rename_i h; rw [h,show val ah [0,0,0,0] = 0 from rfl]; simp
 ·rfl
theorem Ep {w n : List Int} (hw : w.length = 32) : ∀ (R : List eo),Ju R->(∀ x ∈ R,x.1.length = 32)->sm (iM w n R) = sm R - val ah (ku w R) + val ah n
 | [],_,_=>by
  have:=Gb w n []
  rw [List.append_nil] at this
  simp only [iM,ku,this,sm,show val ah [0,0,0,0] = 0 from rfl]; omega
 | a :: R,hs,hl=>by
  have ih:=Ep (n:=n) hw R hs.2 fun x hx=>hl x (mem_cons_of_mem a hx)
  simp only [iM,ku]
  split
  ·rename_i hb
   rw [if_neg (fun e=>by rw [e,rX] at hb; cases hb)]
   grind [sm]
  ·rename_i hb
   have hb : mB a.1 w = false:=by simpa using hb
   split
   ·grind [Gb,sm]
   ·rw [Gb,yN w R (later w hs hb (by rw [hl a (by simp),hw])),show val ah [0,0,0,0] = 0 from rfl]; omega
theorem IE {w : List Int} : ∀ (R : List eo),(∀ x ∈ R,mT x)->0 <= sm R /\ 0 <= val ah (ku w R) /\ val ah (ku w R) <= sm R
 | [],_=>⟨Int.le_refl _,Int.le_refl _,Int.le_refl _⟩
 | a :: R,h=>by
  obtain ⟨i1,i2,i3⟩:=IE (w:=w) R fun x hx=>h x (mem_cons_of_mem a hx)
  have:=(dL dW (h a (by simp)).2.2.1).1
  grind [ku,sm]
theorem JT (c : fB) (hc : ir c) {w n : List Int} (hw : w.length = 32 /\ ∀ b ∈ w,0 <= b /\ b <= 255) (hn : n.length = 4 /\ aN ah n) {r} (h : i9.run c w n = some r) (h0 : r.2.1 = 0) : jt r.1 = true /\ r.1.2.1.length <= 40:=by
 unfold i9.run i9.top at h
 rw [kU _ hc] at h
 simp only [bind_some] at h
 by_cases h40 : c.2.1.length > 40
 ·grind
 ·rw [if_neg h40] at h
  by_cases hg : jt c = true
  ·rw [if_pos hg,if_neg (by decide)] at h
   obtain ⟨r1,o1,e1,_,n1,d1,v1,f1⟩:=sj hc.1 hn.1 hc.2.1 hn.2
   rw [e1] at h
   simp only [bind_some] at h
   by_cases ho : o1 = true
   ·grind
   ·rw [if_neg ho,ov _ hc (by omega) (n6 hg) hw.1] at h
    obtain ⟨k1,k2⟩:=q8 w c.2.1 hc.2.2
    obtain ⟨r2,o2,g1,_,n2,d2,v2,_⟩:=sj k1 hn.1 k2 hn.2
    simp only [bind_some] at h
    rw [g1] at h
    simp only [bind_some] at h
    rw [oB c hc (by omega) hw.1] at h
    simp only [bind_some] at h
    unfold kP.run kP.top at h
    by_cases hb : (decide (((iM w r2 c.2.1).length : Int) > 40)) = true
    ·grind
    ·rw [if_neg hb] at h
     cases h
     have hs:=n6 hg
     have hl : ∀ x ∈ c.2.1,x.1.length = 32:=fun x hx=>(hc.2.2 x hx).1
     have hgi:=(jo c).1 hg
     have ht:=GA c.2.1 c.2.1 [] rfl
     rw [length_nil,hgi.2] at ht
     obtain ⟨q1,q2,q3⟩:=IE (w:=w) c.2.1 hc.2.2
     have hlt : val ah c.1 + val ah n < aM:=by
      grind
     have hp:=(dL dW hn.2).1
     rw [Int.emod_eq_of_lt (by omega) (by omega)] at v1 v2
     have hnz:=Bn c.2.1 c.2.1 [] rfl hgi.1
     have hnz2 : Nz (iM w r2 c.2.1):=fun x hx=>by
      rcases vS hx with h | ⟨rfl,h⟩
      ·exact hnz x h
      ·exact h
     refine ⟨(jo _).2 ⟨KQ _ hnz2 (BA hw.1 _ hs hl) _ [] rfl,?_⟩,by rw [decide_eq_true_eq] at hb; show (iM w r2 c.2.1).length <= 40; omega⟩
     have:=GA (iM w r2 c.2.1) (iM w r2 c.2.1) [] rfl
     grind [Ep]
  grind
theorem Jb (c : fB) (hc : ir c) {v w n : List Int} (hv : v.length = 32 /\ ∀ b ∈ v,0 <= b /\ b <= 255) (hw : w.length = 32 /\ ∀ b ∈ w,0 <= b /\ b <= 255) (hn : n.length = 4 /\ aN ah n) {r} (h : iR.run c v w n = some r) (h0 : r.2.1 = 0) : jt r.1 = true /\ r.1.2.1.length <= 40:=by
 obtain ⟨b,e1,_,g1,_⟩:=vN c hc hv hn
 unfold iR.run iR.top at h
 rw [e1] at h
 simp only [bind_some] at h
 by_cases he : (b.2.1 != 0) = true
 ·grind
 ·rw [if_neg he] at h
  grind [vl,JT]
end Go.Bx
