/- Go functions of this seat in their own words of Lean, each tied to its code by a contract. -/
import Derived.Test.YtbkkahkikjifkaaDoorGBase
import Derived.RangeFuncNested
import Derived.RangeFuncBox
import Derived.RangeFuncLeaves
import Derived.Shelf.Abstract
import Derived.WalkKit
import Derived.OwnWalkIn
import Derived.TacticsInMore
import Derived.LoopNIn
import Derived.LoopIn
import Derived.Maps.AppendAt
open Go Go.Proofs Go.Bx
set_option maxRecDepth 100000
set_option linter.unusedVariables false
variable {α : Type}
namespace Go.Bx.basculeref_Marks
def Js : List Nat:=[8,9]
def C : Ctx:=⟨[(22,T1),(50,T2),(51,T5)],[],[],fnL [],noSh,[],invL [],[(2,[2]),(1,[3]),(4,[1,3,5]),(9,[1,3,5]),(21,[1,3,5]),(24,[3])],[(9,[.melt true 3 [] 20 true])],[],0,0⟩
def St0 (x0 : D0) : St:=stL 23 [(0,.data T2 x0)] []
def St1 (x5 : Int) (c1 c20 : D0) : St:=stL 23 [(1,.ref 1 0 []),(3,.app 20 0),(5,.data T3 x5)] [(1,.cell T2 (.data T2 c1) false),(20,.buf T3 c20 0 true)]
noncomputable def cd0 : Code:=cL (cL (cR (cL (cR (cR (cB Tryd.f28))))))
def St2 (x5 : Int) (c1 c20 : D0) : St:=stL 23 [(1,.ref 1 0 []),(3,.app 20 0),(5,.data T3 x5)] [(1,.cell T2 (.data T2 c1) false),(20,.buf T3 c20 0 true)]
noncomputable def cd1 : Code:=cR (cR (cR (cL (cL (cR (cL (cR (cR (cB Tryd.f28)))))))))
def j0 (Nx : Int->D0->D0->Option α) (x5 : Int) (c1 c20 : D0) : Option α :=
 Nx (IntKind.i64.wrap (x5 + 1)) c1 c20
theorem j0_eq (k : Nat) (next : St->Option α) (Q : Ex->St->Option α) (x5 : Int) (c1 c20 : D0) :
  (den C k) cd1 (lq C 9 next Q) (St2 x5 c1 c20) = j0 (fun x5 c1 c20=>next (St1 x5 c1 c20)) x5 c1 c20:=plainly Js (by kernel_rfl)
def St3 (c20 : D0) : St:=stL 23 [(3,.app 20 0)] [(20,.buf T3 c20 0 true)]
def l0s (Nx : Int->D0->D0->Option α) (Xt0 : D0->Option α) (x5 : Int) (c1 c20 : D0) : Option α :=
 if (decide (x5 < 256)) = true then
  if 0 <= (IntKind.i64.wrap (Int.tdiv x5 64)) /\ (IntKind.i64.wrap (Int.tdiv x5 64)) < (4 : Int) then
   if 0 <= (Int.tmod x5 64) then
    if ((band .u64 (List.getD c1 (Int.toNat (IntKind.i64.wrap (Int.tdiv x5 64))) 0) (shlI .u64 1 (Int.tmod x5 64))) != 0) = true then
     if fitB (c20.length + 1) 8 = true then
      j0 Nx x5 c1 (c20 ++ [x5])
     else none
    else
     j0 Nx x5 c1 c20
   else none
  else none
 else
  Xt0 c20
theorem l0s_eq (k : Nat) (next : St->Option α) (Q : Ex->St->Option α) (x5 : Int) (c1 c20 : D0) :
  rnd C k cd0 9 Q next (St1 x5 c1 c20) = l0s (fun x5 c1 c20=>next (St1 x5 c1 c20)) (fun c20=>Q (.exit 0) (St3 c20)) x5 c1 c20:=by
 have h : ∀ (D L : DT α),denJ D L Js C cd0 (lq C 9 next Q) (St1 x5 c1 c20) =
    if (decide (x5 < 256)) = true then
     if 0 <= (IntKind.i64.wrap (Int.tdiv x5 64)) /\ (IntKind.i64.wrap (Int.tdiv x5 64)) < (4 : Int) then
      if 0 <= (Int.tmod x5 64) then
       if ((band .u64 (List.getD c1 (Int.toNat (IntKind.i64.wrap (Int.tdiv x5 64))) 0) (shlI .u64 1 (Int.tmod x5 64))) != 0) = true then
        if fitB (c20.length + 1) 8 = true then
         D cd1 (lq C 9 next Q) (St2 x5 c1 (c20 ++ [x5]))
        else none
       else
        D cd1 (lq C 9 next Q) (St2 x5 c1 c20)
      else none
     else none
    else
     Q (.exit 0) (St3 c20):=by
  intro D L; kernel_rfl
 have h2:=via (k:=k) h
 refine h2.trans ?_
 simp only [j0_eq]
 first | rfl | kernel_rfl
def l0 (k : Nat) (Xt0 : D0->Option α) : Nat->Int->D0->D0->Option α
 | 0,_,_,_=>none
 | n + 1,x5,c1,c20=>l0s (l0 k Xt0 n) Xt0 x5 c1 c20
theorem l0_eq (k : Nat) (Q : Ex->St->Option α) : ∀ (n : Nat) (x5 : Int) (c1 c20 : D0),iter (rnd C k cd0 9 Q) n (St1 x5 c1 c20) = l0 k (fun c20=>Q (.exit 0) (St3 c20)) n x5 c1 c20
 | 0,_,_,_=>rfl
 | n + 1,x5,c1,c20=>(iter_succ _ _ _).trans ((l0s_eq k _ Q x5 c1 c20).trans (congrArg (fun N=>l0s N (fun c20=>Q (.exit 0) (St3 c20)) x5 c1 c20) (by funext; exact l0_eq k Q n _ _ _)))
noncomputable def cd2 : Code:=cR (cR (cR (cB Tryd.f28)))
def St4 (c20 : D0) : St:=stL 23 [(3,.app 20 0)] [(20,.buf T3 c20 0 true)]
def St5 (c20 : D0) : St:=stL 23 [(2,.app 20 0)] [(20,.buf T3 c20 0 true)]
def j1 (Rt : D0->Option α) (c20 : D0) : Option α :=
 Rt c20
theorem j1_eq (k : Nat) (Q : Ex->St->Option α) (c20 : D0) :
  (den C k) cd2 Q (St4 c20) = j1 (fun c20=>Q .ret (St5 c20)) c20:=plainly Js (by kernel_rfl)
theorem a0 (k : Nat) (Q : Ex->St->Option α) (x5 : Int) (c1 c20 : D0) :
  (lp C k) cd0 (blkQ C 0 (sq (den C k) (lp C k) Js C cd2 Q)) (St1 x5 c1 c20) = l0 k (fun c20=>j1 (fun c20=>Q .ret (St5 c20)) c20) k x5 c1 c20 :=
 (lp_iter 9 (by kernel_rfl)).trans ((l0_eq k _ k x5 c1 c20).trans (congrArg (fun X=>l0 k X k x5 c1 c20) (funext fun c20=>(Eq.trans (b:=(den C k) cd2 Q (St4 c20)) (by kernel_rfl) (by simp only [j1_eq])))))
def top (k : Nat) (Rt : D0->Option α) (x0 : D0) : Option α :=
 l0 k (fun c20=>j1 Rt c20) k 0 x0 []
theorem top_eq (k : Nat) (Q : Ex->St->Option α) (x0 : D0) :
  (den C k) (cB Tryd.f28) Q (St0 x0) = top k (fun c20=>Q .ret (St5 c20)) x0:=by
 have h : ∀ (D L : DT α),denJ D L Js C (cB Tryd.f28) Q (St0 x0) =
    L cd0 (blkQ C 0 (sq D L Js C cd2 Q)) (St1 0 x0 []):=by
  intro D L; kernel_rfl
 have h2:=via (k:=k) h
 refine h2.trans ?_
 simp only [a0]
 first | rfl | kernel_rfl
def run (x0 : D0) : Option D0:=top (α:=List Int) fuel (fun c20=>some c20) x0
def F : Fn:=⟨T6,T5,false,fun x=>run x.1⟩
theorem con : Con Tryd.prog 28 F /\ Named Tryd.prog 28 :=
 con_of2 (C:=C) (ctx_ok (by kernel_rfl) (by kernel_rfl) (by kernel_rfl) (by kernel_rfl) trivial) (by kernel_rfl) Tryd.func28 (by kernel_rfl) (c:=cB Tryd.f28) (by kernel_rfl) (by kernel_rfl) F (fun x=>by simp [F,spread,Tryd.ntmps28]) (fun x=>(St0 x.1)) (fun x=>by kernel_rfl) fun x=>(top_eq fuel _ x.1).trans (by kernel_rfl)
end Go.Bx.basculeref_Marks
namespace Go.Bx.basculeref_Marked
def Js : List Nat:=[10]
def C : Ctx:=⟨[(3,T3),(4,.bool),(30,T3),(50,T2),(51,T5)],[],[],fnL [(28,basculeref_Marks.F)],noSh,[],invL [],[(2,[4,5]),(1,[]),(4,[1,15,16,17]),(12,[1,15,16,17]),(27,[])],[],[],0,0⟩
def St0 (x0 : D0) (x1 : Int) : St:=stL 25 [(0,.data T2 x0),(1,.data T3 x1)] []
def St1 (x4 : Bool) (x5 : Int) : St:=stL 25 [(4,.data .bool x4),(5,.data T3 x5)] []
def St2 (x1 : Int) (x15 : D0) (x16 x17 : Int) : St:=stL 25 [(1,.data T3 x1),(15,.data T5 x15),(16,.data T3 x16),(17,.data T3 x17)] []
noncomputable def cd0 : Code:=cL (cL (cR (cL (cR (cR (cB Tryd.f51))))))
def St3 : St:=stL 25 [] []
def l0s (Nx : Int->D0->Int->Int->Option α) (Rt : Bool->Int->Option α) (Xt0 : Option α) (x1 : Int) (x15 : D0) (x16 x17 : Int) : Option α :=
 if (decide (x17 < x16)) = true then
  if 0 <= x17 /\ x17 < (x15.length : Int) then
   if ((List.getD x15 (Int.toNat x17) 0) == x1) = true then
    Rt true 0
   else
    Nx x1 x15 x16 (IntKind.i64.wrap (x17 + 1))
  else none
 else
  Xt0
theorem l0s_eq (k : Nat) (next : St->Option α) (Q : Ex->St->Option α) (x1 : Int) (x15 : D0) (x16 x17 : Int) :
  rnd C k cd0 12 Q next (St2 x1 x15 x16 x17) = l0s (fun x1 x15 x16 x17=>next (St2 x1 x15 x16 x17)) (fun x4 x5=>Q .ret (St1 x4 x5)) (Q (.exit 0) St3) x1 x15 x16 x17:=plainly Js (by kernel_rfl)
def l0 (k : Nat) (Rt : Bool->Int->Option α) (Xt0 : Option α) : Nat->Int->D0->Int->Int->Option α
 | 0,_,_,_,_=>none
 | n + 1,x1,x15,x16,x17=>l0s (l0 k Rt Xt0 n) Rt Xt0 x1 x15 x16 x17
theorem l0_eq (k : Nat) (Q : Ex->St->Option α) : ∀ (n : Nat) (x1 : Int) (x15 : D0) (x16 x17 : Int),iter (rnd C k cd0 12 Q) n (St2 x1 x15 x16 x17) = l0 k (fun x4 x5=>Q .ret (St1 x4 x5)) (Q (.exit 0) St3) n x1 x15 x16 x17
 | 0,_,_,_,_=>rfl
 | n + 1,x1,x15,x16,x17=>(iter_succ _ _ _).trans ((l0s_eq k _ Q x1 x15 x16 x17).trans (congrArg (fun N=>l0s N (fun x4 x5=>Q .ret (St1 x4 x5)) (Q (.exit 0) St3) x1 x15 x16 x17) (by funext; exact l0_eq k Q n _ _ _ _)))
theorem l0_congr (k : Nat) (Rt : Bool->Int->Option α) (Xt0 : Option α) (Rtq : Bool->Int->Option α) (Xt0q : Option α) (hRt : ∀ (x4 : Bool) (x5 : Int),Rt x4 x5 = Rtq x4 x5) (hXt0 : Xt0 = Xt0q) (n : Nat) (x1 : Int) (x15 : D0) (x16 x17 : Int) : l0 k Rt Xt0 n x1 x15 x16 x17 = l0 k Rtq Xt0q n x1 x15 x16 x17:=by
 obtain rfl : Rt = Rtq:=by funext x4; funext x5; exact hRt x4 x5
 obtain rfl : Xt0 = Xt0q:=hXt0
 rfl
noncomputable def cd1 : Code:=cR (cR (cR (cB Tryd.f51)))
def St4 : St:=stL 25 [] []
def j0 (Rt : Bool->Int->Option α) : Option α :=
 Rt false 0
theorem j0_eq (k : Nat) (Q : Ex->St->Option α) :
  (den C k) cd1 Q St4 = j0 (fun x4 x5=>Q .ret (St1 x4 x5)):=plainly Js (by kernel_rfl)
theorem a0 (k : Nat) (Q : Ex->St->Option α) (x1 : Int) (x15 : D0) (x16 x17 : Int) :
  (lp C k) cd0 (blkQ C 0 (sq (den C k) (lp C k) Js C cd1 Q)) (St2 x1 x15 x16 x17) = l0 k (fun x4 x5=>(fun x4 x5=>Q .ret (St1 x4 x5)) x4 x5) (j0 (fun x4 x5=>Q .ret (St1 x4 x5))) k x1 x15 x16 x17 :=
 (lp_iter 12 (by kernel_rfl)).trans ((l0_eq k _ k x1 x15 x16 x17).trans (l0_congr k _ _ _ _ (fun x4 x5=>(by kernel_rfl)) (Eq.trans (b:=(den C k) cd1 Q St4) (by kernel_rfl) (by simp only [j0_eq])) k x1 x15 x16 x17))
def top (k : Nat) (Rt : Bool->Int->Option α) (x0 : D0) (x1 : Int) : Option α :=
 if (cond (decide (x1 < 0)) true (decide (x1 > 255))) = true then
  Rt false 6
 else
  (basculeref_Marks.run x0).bind fun y1 =>
  l0 k (fun x4 x5=>Rt x4 x5) (j0 Rt) k x1 y1 (y1.length : Int) 0
theorem top_eq (k : Nat) (Q : Ex->St->Option α) (x0 : D0) (x1 : Int) :
  (den C k) (cB Tryd.f51) Q (St0 x0 x1) = top k (fun x4 x5=>Q .ret (St1 x4 x5)) x0 x1:=by
 have h : ∀ (D L : DT α),denJ D L Js C (cB Tryd.f51) Q (St0 x0 x1) =
    if (cond (decide (x1 < 0)) true (decide (x1 > 255))) = true then
     Q .ret (St1 false 6)
    else
     (basculeref_Marks.run x0).bind fun y1 =>
     L cd0 (blkQ C 0 (sq D L Js C cd1 Q)) (St2 x1 y1 (y1.length : Int) 0):=by
  intro D L; kernel_rfl
 have h2:=via (k:=k) h
 refine h2.trans ?_
 simp only [a0]
 first | rfl | kernel_rfl
def run (x0 : D0) (x1 : Int) : Option D1:=top (α:=Bool × Int × Unit) fuel (fun x4 x5=>some (x4,x5,())) x0 x1
def F : Fn:=⟨T7,T8,true,fun x=>run x.1 x.2.1⟩
theorem con : Con Tryd.prog 51 F /\ Named Tryd.prog 51 :=
 con_of2 (C:=C) (ctx_ok (by kernel_rfl) (by kernel_rfl) (by kernel_rfl) (by kernel_rfl) ⟨.inl basculeref_Marks.con,trivial⟩) (by kernel_rfl) Tryd.func51 (by kernel_rfl) (c:=cB Tryd.f51) (by kernel_rfl) (by kernel_rfl) F (fun x=>by simp [F,spread,Tryd.ntmps51]) (fun x=>(St0 x.1 x.2.1)) (fun x=>by kernel_rfl) fun x=>(top_eq fuel _ x.1 x.2.1).trans (by kernel_rfl)
end Go.Bx.basculeref_Marked
namespace Go.Bx.basculeref_MarkedToo
def Js : List Nat:=[]
def C : Ctx:=⟨[(3,T3),(22,T1),(30,T3),(50,T2)],[],[],fnL [(51,basculeref_Marked.F)],noSh,[],invL [],[(2,[4,5])],[],[],0,0⟩
def St0 (x0 : D0) (x1 : Int) : St:=stL 30 [(0,.data T2 x0),(1,.data T3 x1)] []
def St1 (x5 : Int) (c4 : D0) : St:=stL 30 [(4,.ref 4 0 []),(5,.data T3 x5)] [(4,.cell T2 (.data T2 c4) false)]
def top (Rt : Int->D0->Option α) (x0 : D0) (x1 : Int) : Option α :=
 (basculeref_Marked.run x0 x1).bind fun y1 =>
 if (y1.2.1 != 0) = true then
  Rt y1.2.1 [0,0,0,0]
 else
  if y1.1 = true then
   Rt 8 [0,0,0,0]
  else
   if 0 <= (IntKind.i64.wrap (Int.tdiv x1 64)) /\ (IntKind.i64.wrap (Int.tdiv x1 64)) < (4 : Int) then
    if 0 <= (Int.tmod x1 64) then
     if 0 <= (IntKind.i64.wrap (Int.tdiv x1 64)) /\ (IntKind.i64.wrap (Int.tdiv x1 64)) < (4 : Int) then
      Rt 0 (List.set x0 (Int.toNat (IntKind.i64.wrap (Int.tdiv x1 64))) (IntKind.u64.wrap ((List.getD x0 (Int.toNat (IntKind.i64.wrap (Int.tdiv x1 64))) 0) + (shlI .u64 1 (Int.tmod x1 64)))))
     else none
    else none
   else none
theorem top_eq (k : Nat) (Q : Ex->St->Option α) (x0 : D0) (x1 : Int) :
  (den C k) (cB Tryd.f52) Q (St0 x0 x1) = top (fun x5 c4=>Q .ret (St1 x5 c4)) x0 x1:=plainly Js (by kernel_rfl)
def run (x0 : D0) (x1 : Int) : Option D2:=top (α:=List Int × Int × Unit) (fun x5 c4=>some (c4,x5,())) x0 x1
def F : Fn:=⟨T7,T7,true,fun x=>run x.1 x.2.1⟩
theorem con : Con Tryd.prog 52 F /\ Named Tryd.prog 52 :=
 con_of2 (C:=C) (ctx_ok (by kernel_rfl) (by kernel_rfl) (by kernel_rfl) (by kernel_rfl) ⟨.inl basculeref_Marked.con,trivial⟩) (by kernel_rfl) Tryd.func52 (by kernel_rfl) (c:=cB Tryd.f52) (by kernel_rfl) (by kernel_rfl) F (fun x=>by simp [F,spread,Tryd.ntmps52]) (fun x=>(St0 x.1 x.2.1)) (fun x=>by kernel_rfl) fun x=>(top_eq fuel _ x.1 x.2.1).trans (by kernel_rfl)
end Go.Bx.basculeref_MarkedToo
namespace Go.Bx.seen_All
open Go.RowKit Go.Shelf
set_option linter.unusedSimpArgs false
attribute [local go_sem] Oper.semAt_some
def tzK (x : Int) : Int:=IntKind.u64.wrap (bits .and .u64 x (IntKind.u64.wrap (-x)) * 285870213051353865) / 288230376151711744
theorem tzK_rng (x : Int) : 0 <= tzK x /\ tzK x < 64:=by
 unfold tzK
 have : ∀ y,0 <= IntKind.u64.wrap y /\ IntKind.u64.wrap y < 18446744073709551616:=fun y=>by
  simp only [IntKind.wrap,IntKind.signed,IntKind.bits]
  simp
  omega
 have:=this (bits .and .u64 x (IntKind.u64.wrap (-x)) * 285870213051353865)
 omega
set_option maxRecDepth 100000 in
set_option maxHeartbeats 2000000 in
theorem tz_in (n : Nat) (x t : Int) (hx : x ≠ 0) (W : World) (hc : W.cell? ⟨2,(tzK x).toNat,none⟩ = some (.int .u8 t)) (ht : 0 <= t /\ t <= 255) :
  CallsIn Fence.wide n Tryd.prog 81 #[.int .u64 x] W fun e W'=>e = .returned (.int .i64 t) /\ W' = W  := by
 have hk:=tzK_rng x
 unfold tzK at hc hk
 refine callsIn_of_wp Tryd.func81 rfl trivial ?_ rfl
 simp only [Tryd.ntmps81,List.size_toArray,List.length_cons,List.length_nil,Nat.reduceAdd,Nat.reduceSub,Array.replicate_succ,Array.replicate_zero,List.push_toArray,List.append_toArray,List.nil_append,List.cons_append]
 gi_wp2
 go_ret
 exact ⟨rfl,rfl⟩
def nxtK (x : Int) : Int:=bits .and .u64 x (IntKind.u64.wrap (x - 1))
def outK (tv : Int->Int) (base x : Int) : Int:=wrap64 (base + tv x)
def outsK (tv : Int->Int) (base : Int) : Nat->Int->Option (List Int)
 | 0,x=>if x = 0 then some [] else none
 | n + 1,x=>if x = 0 then some [] else (outsK tv base n (nxtK x)).map fun r=>outK tv base x :: r
theorem outsK_up (tv : Int->Int) (i : Int) : ∀ (n : Nat) (x : Int) (r : List Int),outsK tv i n x = some r->outsK tv i (n + 1) x = some r
 | 0,x,r,h=>by
  unfold outsK at h ⊢
  by_cases hx : x = 0
  ·rw [if_pos hx] at h ⊢; exact h
  ·rw [if_neg hx] at h; cases h
 | n + 1,x,r,h=>by
  unfold outsK at h ⊢
  by_cases hx : x = 0
  ·rw [if_pos hx] at h ⊢; exact h
  ·rw [if_neg hx] at h ⊢
   cases hq : outsK tv i n (nxtK x) with
   | none=>rw [hq] at h; cases h
   | some q=>rw [hq] at h; rw [outsK_up tv i n _ q hq]; exact h
theorem outsK_cons {tv : Int->Int} {i x : Int} {r : List Int} (h : outsK tv i 64 x = some r) : (x = 0 /\ r = []) \/ (x ≠ 0 /\ ∃ r',r = outK tv i x :: r' /\ outsK tv i 64 (nxtK x) = some r'):=by
 unfold outsK at h
 by_cases hx : x = 0
 ·rw [if_pos hx] at h; cases h; exact .inl ⟨hx,rfl⟩
 ·rw [if_neg hx] at h
  cases hq : outsK tv i 63 (nxtK x) with
  | none=>rw [hq] at h; cases h
  | some q=>rw [hq] at h; cases h; exact .inr ⟨hx,q,rfl,outsK_up tv i 63 _ q hq⟩
def intO : Value->Int
 | .int _ x=>x
 | _=>0
set_option maxRecDepth 100000 in
set_option maxHeartbeats 4000000 in
theorem marks1_in (n : Nat) (hn : 1 <= n) (l Bn n₀ : Nat) (tv : Int->Int) (a b c d : Int) (x0 x1 x2 x3 : List Int) (h0 : outsK tv 0 64 a = some x0) (h1 : outsK tv 64 64 b = some x1) (h2 : outsK tv 128 64 c = some x2) (h3 : outsK tv 192 64 d = some x3)
  (J Jx : List Int->World->Prop)
  (hY : ∀ pre x W,J pre W->pre.length < (x0 ++ x1 ++ x2 ++ x3).length->YieldAt Fence.wide (n - 1) Tryd.prog l #[.int .i64 x] W fun e W' =>
   (e = .returned (.bool true) /\ J (pre ++ [x]) W' /\ Below n₀ W W') \/ (e = .returned (.bool false) /\ Jx (pre ++ [x]) W'))
  (W : World) (hT : ∀ (x : Int) (W' : World),x ≠ 0->Below n₀ W W'->CallsIn Fence.wide (n - 1) Tryd.prog 81 #[.int .u64 x] W' fun e W''=>e = .returned (.int .i64 (tv x)) /\ W'' = W')
  (hBn : ∀ j v,[Value.int .u64 a,.int .u64 b,.int .u64 c,.int .u64 d][j]? = some v->W.cell? ⟨Bn,j,none⟩ = some v) (hJ0 : J [] W) :
  CallsIn Fence.wide n Tryd.prog 80 #[.func (.yield l) #[] #[],.pointer (some ⟨Bn,0,none⟩)] W fun e W'=>(∃ v,e = .returned v) /\
   ((∃ ys,ys = x0 ++ x1 ++ x2 ++ x3 /\ J ys W') \/ (∃ pre,pre <+: x0 ++ x1 ++ x2 ++ x3 /\ Jx pre W')):=by
 refine callsIn_of_wp Tryd.func80 rfl trivial ?_ rfl
 simp only [Tryd.ntmps80,List.size_toArray,List.length_cons,List.length_nil,Nat.reduceAdd,Nat.reduceSub,Array.replicate_succ,Array.replicate_zero,List.push_toArray,List.append_toArray,List.nil_append,List.cons_append]
 have g0:=hBn 0 _ rfl
 have g1:=hBn 1 _ rfl
 have g2:=hBn 2 _ rfl
 have g3:=hBn 3 _ rfl
 have i0 : ∀ w : World,(Instr.index 50 (.agg #[.int .u64 a,.int .u64 b,.int .u64 c,.int .u64 d]) (.int .i64 0)).run Tryd.prog w = .ok (.int .u64 a) w:=fun _=>by kernel_rfl
 have i1 : ∀ w : World,(Instr.index 50 (.agg #[.int .u64 a,.int .u64 b,.int .u64 c,.int .u64 d]) (.int .i64 1)).run Tryd.prog w = .ok (.int .u64 b) w:=fun _=>by kernel_rfl
 have i2 : ∀ w : World,(Instr.index 50 (.agg #[.int .u64 a,.int .u64 b,.int .u64 c,.int .u64 d]) (.int .i64 2)).run Tryd.prog w = .ok (.int .u64 c) w:=fun _=>by kernel_rfl
 have i3 : ∀ w : World,(Instr.index 50 (.agg #[.int .u64 a,.int .u64 b,.int .u64 c,.int .u64 d]) (.int .i64 3)).run Tryd.prog w = .ok (.int .u64 d) w:=fun _=>by kernel_rfl
 gi_wp2
 gi_loopw [6] (fun i wr=>∃ bef : List Int,J bef wr /\ Below n₀ W wr /\ ((i = .int .i64 0 /\ bef = []) \/ (i = .int .i64 1 /\ bef = x0) \/ (i = .int .i64 2 /\ bef = x0 ++ x1) \/ (i = .int .i64 3 /\ bef = x0 ++ x1 ++ x2) \/ (i = .int .i64 4 /\ bef = x0 ++ x1 ++ x2 ++ x3)))
  (fun i _=>4 - (intO i).toNat)
 case atStart=>exact ⟨[],hJ0,Below.refl _ _,.inl ⟨rfl,rfl⟩⟩
 case round =>
  obtain ⟨bef,hJs,hB,hcase⟩:=hrel
  rcases hcase with ⟨rfl,hbef⟩ | ⟨rfl,hbef⟩ | ⟨rfl,hbef⟩ | ⟨rfl,hbef⟩ | ⟨rfl,hbef⟩
  ·gi_wp2
   gi_loopw [4] (fun v wr=>∃ (w' : Int) (pre rest : List Int),v = .int .u64 w' /\ outsK tv 0 64 w' = some rest /\ x0 = pre ++ rest /\ J (bef ++ pre) wr /\ Below n₀ W wr)
    (fun v _=>((outsK tv 0 64 (intO v)).getD []).length)
   case atStart=>exact ⟨_,[],x0,rfl,h0,rfl,by simpa using hJs,hB⟩
   case round =>
    obtain ⟨w',pre,rest,rfl,ho',hxs,hJs',hB'⟩:=hrel
    rcases outsK_cons ho' with ⟨rfl,rfl⟩ | ⟨hw,rest',rfl,ho2⟩
    ·gi_wp2
     exact ⟨⟨bef ++ x0,by rw [hxs,List.append_nil]; exact hJs',hB',.inr (.inl ⟨rfl,by rw [hbef]; rfl⟩)⟩,by simp [intO]⟩
    ·have hw' : (w' == 0) = false:=by simpa using hw
     have hlen : (bef ++ pre).length < (x0 ++ x1 ++ x2 ++ x3).length:=by
      have:=congrArg List.length hxs
      simp [hbef] at this ⊢
      omega
     obtain ⟨fn,tmps,assign,body,hy,hR⟩:=hY (bef ++ pre) (outK tv 0 w') _ hJs' hlen
     simp only [outK,Int.zero_add] at hy
     gi_wp2_with (refine ⟨trivial,?_⟩; gi_at_call 81; refine (hT _ _ hw hB').mono ?_; rintro e W2 ⟨rfl,rfl⟩)
     refine hR.mono ?_
     rintro e W3 (⟨rfl,hJ3,hk3⟩ | ⟨rfl,hJx3⟩)
     ·gi_wp2
      go_roundw
      case rel=>exact ⟨nxtK w',pre ++ [outK tv 0 w'],rest',rfl,ho2,by rw [hxs]; simp,by rw [<- List.append_assoc]; exact hJ3,hB'.trans hk3⟩
      case measure =>
       show ((outsK tv 0 64 (nxtK w')).getD []).length < ((outsK tv 0 64 w').getD []).length
       rw [ho2,ho']
       simp
     ·gi_wp2
      refine bodyPost_ret (results_none rfl _ _ _) rfl ?_
      exact ⟨⟨_,rfl⟩,.inr ⟨bef ++ pre ++ [outK tv 0 w'],⟨rest' ++ (x1 ++ x2 ++ x3),by rw [hbef,hxs]; simp⟩,hJx3⟩⟩
  ·gi_wp2
   gi_loopw [4] (fun v wr=>∃ (w' : Int) (pre rest : List Int),v = .int .u64 w' /\ outsK tv 64 64 w' = some rest /\ x1 = pre ++ rest /\ J (bef ++ pre) wr /\ Below n₀ W wr)
    (fun v _=>((outsK tv 64 64 (intO v)).getD []).length)
   case atStart=>exact ⟨_,[],x1,rfl,h1,rfl,by simpa using hJs,hB⟩
   case round =>
    obtain ⟨w',pre,rest,rfl,ho',hxs,hJs',hB'⟩:=hrel
    rcases outsK_cons ho' with ⟨rfl,rfl⟩ | ⟨hw,rest',rfl,ho2⟩
    ·gi_wp2
     exact ⟨⟨bef ++ x1,by rw [hxs,List.append_nil]; exact hJs',hB',.inr (.inr (.inl ⟨rfl,by rw [hbef]⟩))⟩,by simp [intO]⟩
    ·have hw' : (w' == 0) = false:=by simpa using hw
     have hlen : (bef ++ pre).length < (x0 ++ x1 ++ x2 ++ x3).length:=by
      have:=congrArg List.length hxs
      simp [hbef] at this ⊢
      omega
     obtain ⟨fn,tmps,assign,body,hy,hR⟩:=hY (bef ++ pre) (outK tv 64 w') _ hJs' hlen
     simp only [outK,Int.zero_add] at hy
     gi_wp2_with (refine ⟨trivial,?_⟩; gi_at_call 81; refine (hT _ _ hw hB').mono ?_; rintro e W2 ⟨rfl,rfl⟩)
     refine hR.mono ?_
     rintro e W3 (⟨rfl,hJ3,hk3⟩ | ⟨rfl,hJx3⟩)
     ·gi_wp2
      go_roundw
      case rel=>exact ⟨nxtK w',pre ++ [outK tv 64 w'],rest',rfl,ho2,by rw [hxs]; simp,by rw [<- List.append_assoc]; exact hJ3,hB'.trans hk3⟩
      case measure =>
       show ((outsK tv 64 64 (nxtK w')).getD []).length < ((outsK tv 64 64 w').getD []).length
       rw [ho2,ho']
       simp
     ·gi_wp2
      refine bodyPost_ret (results_none rfl _ _ _) rfl ?_
      exact ⟨⟨_,rfl⟩,.inr ⟨bef ++ pre ++ [outK tv 64 w'],⟨rest' ++ (x2 ++ x3),by rw [hbef,hxs]; simp⟩,hJx3⟩⟩
  ·gi_wp2
   gi_loopw [4] (fun v wr=>∃ (w' : Int) (pre rest : List Int),v = .int .u64 w' /\ outsK tv 128 64 w' = some rest /\ x2 = pre ++ rest /\ J (bef ++ pre) wr /\ Below n₀ W wr)
    (fun v _=>((outsK tv 128 64 (intO v)).getD []).length)
   case atStart=>exact ⟨_,[],x2,rfl,h2,rfl,by simpa using hJs,hB⟩
   case round =>
    obtain ⟨w',pre,rest,rfl,ho',hxs,hJs',hB'⟩:=hrel
    rcases outsK_cons ho' with ⟨rfl,rfl⟩ | ⟨hw,rest',rfl,ho2⟩
    ·gi_wp2
     exact ⟨⟨bef ++ x2,by rw [hxs,List.append_nil]; exact hJs',hB',.inr (.inr (.inr (.inl ⟨rfl,by rw [hbef]⟩)))⟩,by simp [intO]⟩
    ·have hw' : (w' == 0) = false:=by simpa using hw
     have hlen : (bef ++ pre).length < (x0 ++ x1 ++ x2 ++ x3).length:=by
      have:=congrArg List.length hxs
      simp [hbef] at this ⊢
      omega
     obtain ⟨fn,tmps,assign,body,hy,hR⟩:=hY (bef ++ pre) (outK tv 128 w') _ hJs' hlen
     simp only [outK,Int.zero_add] at hy
     gi_wp2_with (refine ⟨trivial,?_⟩; gi_at_call 81; refine (hT _ _ hw hB').mono ?_; rintro e W2 ⟨rfl,rfl⟩)
     refine hR.mono ?_
     rintro e W3 (⟨rfl,hJ3,hk3⟩ | ⟨rfl,hJx3⟩)
     ·gi_wp2
      go_roundw
      case rel=>exact ⟨nxtK w',pre ++ [outK tv 128 w'],rest',rfl,ho2,by rw [hxs]; simp,by rw [<- List.append_assoc]; exact hJ3,hB'.trans hk3⟩
      case measure =>
       show ((outsK tv 128 64 (nxtK w')).getD []).length < ((outsK tv 128 64 w').getD []).length
       rw [ho2,ho']
       simp
     ·gi_wp2
      refine bodyPost_ret (results_none rfl _ _ _) rfl ?_
      exact ⟨⟨_,rfl⟩,.inr ⟨bef ++ pre ++ [outK tv 128 w'],⟨rest' ++ (x3),by rw [hbef,hxs]; simp⟩,hJx3⟩⟩
  ·gi_wp2
   gi_loopw [4] (fun v wr=>∃ (w' : Int) (pre rest : List Int),v = .int .u64 w' /\ outsK tv 192 64 w' = some rest /\ x3 = pre ++ rest /\ J (bef ++ pre) wr /\ Below n₀ W wr)
    (fun v _=>((outsK tv 192 64 (intO v)).getD []).length)
   case atStart=>exact ⟨_,[],x3,rfl,h3,rfl,by simpa using hJs,hB⟩
   case round =>
    obtain ⟨w',pre,rest,rfl,ho',hxs,hJs',hB'⟩:=hrel
    rcases outsK_cons ho' with ⟨rfl,rfl⟩ | ⟨hw,rest',rfl,ho2⟩
    ·gi_wp2
     exact ⟨⟨bef ++ x3,by rw [hxs,List.append_nil]; exact hJs',hB',.inr (.inr (.inr (.inr ⟨rfl,by rw [hbef]⟩)))⟩,by simp [intO]⟩
    ·have hw' : (w' == 0) = false:=by simpa using hw
     have hlen : (bef ++ pre).length < (x0 ++ x1 ++ x2 ++ x3).length:=by
      have:=congrArg List.length hxs
      simp [hbef] at this ⊢
      omega
     obtain ⟨fn,tmps,assign,body,hy,hR⟩:=hY (bef ++ pre) (outK tv 192 w') _ hJs' hlen
     simp only [outK,Int.zero_add] at hy
     gi_wp2_with (refine ⟨trivial,?_⟩; gi_at_call 81; refine (hT _ _ hw hB').mono ?_; rintro e W2 ⟨rfl,rfl⟩)
     refine hR.mono ?_
     rintro e W3 (⟨rfl,hJ3,hk3⟩ | ⟨rfl,hJx3⟩)
     ·gi_wp2
      go_roundw
      case rel=>exact ⟨nxtK w',pre ++ [outK tv 192 w'],rest',rfl,ho2,by rw [hxs]; simp,by rw [<- List.append_assoc]; exact hJ3,hB'.trans hk3⟩
      case measure =>
       show ((outsK tv 192 64 (nxtK w')).getD []).length < ((outsK tv 192 64 w').getD []).length
       rw [ho2,ho']
       simp
     ·gi_wp2
      refine bodyPost_ret (results_none rfl _ _ _) rfl ?_
      exact ⟨⟨_,rfl⟩,.inr ⟨bef ++ pre ++ [outK tv 192 w'],⟨rest' ++ ([]),by rw [hbef,hxs]; simp⟩,hJx3⟩⟩
  ·gi_wp2
   go_end0
   exact ⟨⟨_,rfl⟩,.inl ⟨_,hbef,hJs⟩⟩
set_option maxHeartbeats 1000000 in
theorem marks_in (n : Nat) (a b c d : Int) (w : World) :
  CallsIn Fence.wide n Tryd.prog 50 #[.agg #[.int .u64 a,.int .u64 b,.int .u64 c,.int .u64 d]] w fun e w'=>e = .returned (.func (.func 80) #[] #[.pointer (some ⟨w.heap.size,0,none⟩)]) /\ w' = w.alloc (.cells #[.int .u64 a,.int .u64 b,.int .u64 c,.int .u64 d] 50):=by
 refine callsIn_of_wp Tryd.func50 rfl trivial ?_ rfl
 simp only [Tryd.ntmps50,List.size_toArray,List.length_cons,List.length_nil,Nat.reduceAdd,Nat.reduceSub,Array.replicate_succ,Array.replicate_zero,List.push_toArray,List.append_toArray,List.nil_append,List.cons_append]
 gi_wp2
 go_ret
 exact ⟨rfl,rfl⟩
theorem marks_stops (n : Nat) (hn : 1 <= n) (Bn n₀ : Nat) (tv : Int->Int) (a b c d : Int) (x0 x1 x2 x3 : List Int) (h0 : outsK tv 0 64 a = some x0) (h1 : outsK tv 64 64 b = some x1) (h2 : outsK tv 128 64 c = some x2) (h3 : outsK tv 192 64 d = some x3)
  (w : World) (hBn : Bn < w.heap.size) (hn₀ : n₀ <= w.heap.size) (hT : ∀ (x : Int) (W' : World),x ≠ 0->Below n₀ w W'->CallsIn Fence.wide (n - 1) Tryd.prog 81 #[.int .u64 x] W' fun e W''=>e = .returned (.int .i64 (tv x)) /\ W'' = W')
  (hc : ∀ j v,[Value.int .u64 a,.int .u64 b,.int .u64 c,.int .u64 d][j]? = some v->w.cell? ⟨Bn,j,none⟩ = some v) :
  SeqStopsK Fence.wide n Tryd.prog 80 #[.pointer (some ⟨Bn,0,none⟩)] (fun x : Int=>#[Value.int .i64 x]) (Below n₀) (fun ys=>ys = x0 ++ x1 ++ x2 ++ x3) (fun pre=>pre <+: x0 ++ x1 ++ x2 ++ x3) (x0 ++ x1 ++ x2 ++ x3).length w:=fun l J Jx W hW _ _ hY h0' =>
 marks1_in n hn l Bn n₀ tv a b c d x0 x1 x2 x3 h0 h1 h2 h3 J Jx hY W (fun x W' hx hb=>hT x W' hx ((hW.mono hn₀).trans hb)) (fun j v hj=>(hW.cell (p:=⟨Bn,j,none⟩) hBn).trans (hc j v hj)) h0'
theorem info3E : (Tryd.prog.info? 3).map (fun i=>(i.zero,i.size,i.bytes)) = some (some (.int .i64 0),1,8):=by kernel_rfl
set_option maxRecDepth 100000 in
set_option maxHeartbeats 4000000 in
theorem All_in (n : Nat) (hn : 3 <= n) (tv : Int->Int) (a b c d : Int) (x0 x1 x2 x3 : List Int) (h0 : outsK tv 0 64 a = some x0) (h1 : outsK tv 64 64 b = some x1) (h2 : outsK tv 128 64 c = some x2) (h3 : outsK tv 192 64 d = some x3)
  (hlen : (x0 ++ x1 ++ x2 ++ x3).length <= 100000) (w : World) (hT : ∀ (m : Nat) (x : Int) (W' : World),x ≠ 0->Below w.heap.size w W'->CallsIn Fence.wide m Tryd.prog 81 #[.int .u64 x] W' fun e W''=>e = .returned (.int .i64 (tv x)) /\ W'' = W') :
  CallsIn Fence.wide n Tryd.prog 26 #[.agg #[.int .u64 a,.int .u64 b,.int .u64 c,.int .u64 d]] w fun e W'=>∃ v,e = .returned v /\ W'.ownsRow w.heap.size 3 1 v (x0 ++ x1 ++ x2 ++ x3).length ((x0 ++ x1 ++ x2 ++ x3).map (Value.int .i64)) /\ (v = .slice none 0 0 ↔ x0 ++ x1 ++ x2 ++ x3 = []) /\ Below w.heap.size w W':=by
 have h1' : 1 <= n:=by omega
 obtain ⟨i0,hi,hz0,hz1,hz2⟩:=info_parts info3E
 refine callsIn_of_wp_marks Tryd.func26 rfl trivial ?_ rfl
 simp only [Tryd.ntmps26,List.size_toArray,List.length_cons,List.length_nil,Nat.reduceAdd,Nat.reduceSub,Array.replicate_succ,Array.replicate_zero,List.push_toArray,List.append_toArray,List.nil_append,List.cons_append]
 gi_wp2_with (refine ⟨trivial,?_⟩; gi_at_call 50; refine (marks_in (n - 1) a b c d _).mono ?_; rintro e w' ⟨rfl,rfl⟩)
 have bO:=(Boxed.new (w.alloc (.cells #[.int .u64 a,.int .u64 b,.int .u64 c,.int .u64 d] 50)) 51 (.slice none 0 0)).alloc (.cells #[.int .u64 a,.int .u64 b,.int .u64 c,.int .u64 d] 50)
 rw [World.size_alloc] at bO
 have hB0 : Below w.heap.size w (((w.alloc (.cells #[.int .u64 a,.int .u64 b,.int .u64 c,.int .u64 d] 50)).alloc (.cells #[.slice none 0 0] 51)).alloc (.cells #[.int .u64 a,.int .u64 b,.int .u64 c,.int .u64 d] 50)):=(((Below.refl _ w).alloc (Nat.le_refl _) _).alloc (by simp) _).alloc (by simp; omega) _
 have hcell : ∀ j v,[Value.int .u64 a,.int .u64 b,.int .u64 c,.int .u64 d][j]? = some v->(((w.alloc (.cells #[.int .u64 a,.int .u64 b,.int .u64 c,.int .u64 d] 50)).alloc (.cells #[.slice none 0 0] 51)).alloc (.cells #[.int .u64 a,.int .u64 b,.int .u64 c,.int .u64 d] 50)).cell? ⟨w.heap.size + 1 + 1,j,none⟩ = some v:=fun j v hj=>by
  have hn:=World.alloc_heap_new ((w.alloc (.cells #[.int .u64 a,.int .u64 b,.int .u64 c,.int .u64 d] 50)).alloc (.cells #[.slice none 0 0] 51)) (.cells #[.int .u64 a,.int .u64 b,.int .u64 c,.int .u64 d] 50)
  rw [World.size_alloc,World.size_alloc] at hn
  simp only [World.cell?,hn]
  simpa using hj
 refine wpIn_rangeFunc_ownG rfl h1' (gf:=80) (lb:=#[.pointer (some ⟨w.heap.size + 1 + 1,0,none⟩)]) rfl trivial (enters_of Tryd.func80 (by kernel_rfl) rfl)
  (marks_stops (n - 1) (by omega) (w.heap.size + 1 + 1) w.heap.size tv a b c d x0 x1 x2 x3 h0 h1 h2 h3 _ (by simp) (by simp; omega) (fun x W' hx hb=>hT _ x W' hx (hB0.trans hb)) hcell) belowK_t (belowK_b (by simp; omega)) (Below.refl _ _) (fun _=>rfl)
  (fun pre W=>(∃ v,Boxed W (w.heap.size + 1) 51 v /\ W.ownsRow w.heap.size 3 1 v pre.length (pre.map (Value.int .i64)) /\ (v = .slice none 0 0 ↔ pre = [])) /\ Below w.heap.size w W)
  (fun _ _ _=>False)
  (OwnFrom.and (Own.from (holdsRow_own w.heap.size (w.heap.size + 1) 51 3 1 (fun pre=>pre.length) (fun pre=>pre.map (Value.int .i64)) (fun pre v=>v = .slice none 0 0 ↔ pre = [])) _) (ownFrom_below (Nat.le_refl _) (by simp; omega)))
  (fun _ _ _ _ _ hs _ _=>hs)
  ⟨⟨_,bO,World.ownsRow_nil _ _ _ _,by simp⟩,hB0⟩
  (fun x=>{ tmps:=#[.agg #[.int .u64 a,.int .u64 b,.int .u64 c,.int .u64 d],.pointer (some ⟨w.heap.size,0,none⟩),.slice none 0 0,.pointer (some ⟨w.heap.size + 1,0,none⟩),.int .i64 x,.agg #[.int .u64 a,.int .u64 b,.int .u64 c,.int .u64 d],.func (.func 80) #[] #[.pointer (some ⟨w.heap.size + 1 + 1,0,none⟩)],.int .i64 x,undef,undef,undef,undef,undef],defers:=[] }) ?assign ?body ?done ?stop
 case assign =>
  intro l x W K hK
  gi_wp2
  exact hK
 case body =>
  rintro l pre x W ⟨⟨v,hv,hrow,hnil⟩,hB⟩ hlt
  have hc:=hv.cell
  gi_wp2_with (gi_at_builtin; refine wpListIn_append_own _ rfl _ _ 51 rfl w.heap.size 3 i0 (.int .i64 0) 1 8 Tryd.underlying51 hi hz0 hz1 hz2 rfl (by decide) _ _ _ rfl (hrow.alloc _) ⟨W.heap.size,0,none⟩ 1 1 [.int .i64 x] rfl rfl (cell_one_new _ _ _) (by simp [Value.oneCell']) (by have : maxLen = 9223372036854775807:=rfl; omega) (by omega) (by have:=hB.size; simp; omega) ?_; intro v' w1 hown' hgrow _; obtain ⟨g',cap',rfl⟩:=ownsRow_succ hown'; obtain ⟨hv1,hv2,hr2,hk2,hb2⟩:=hv.appended (by decide) hrow hB.size (by omega) hown' hgrow; have hc1:=hv1.cell; have hf1:=hv1.frozen)
  exact ⟨hk2.from _,hb2,⟨_,hv2,by simpa using hr2,by simp⟩,hB.trans hb2⟩
 case done =>
  rintro D zs W hD hz ⟨⟨v,hv,hrow,hnil⟩,hB⟩ hK
  subst hz
  have hc:=hv.cell
  gi_wp2
  refine ⟨by simp,.inl ⟨_,_,rfl,run_takeDeferred hK,?_⟩⟩
  exact ⟨_,results_tmp rfl _ _ _,v,rfl,ownsRow_putObj hrow _ hK rfl,hnil,hB.trans (belowK_b (w:=w) (Nat.le_refl _) W D _ _ (by simp at hD; omega) hK rfl rfl)⟩
 case stop =>
  rintro D c pre W _ _ h _
  exact h.elim
def tv (x : Int) : Int:=gBru.getD (tzK x).toNat 0
def run (p : List Int) : Option (List Int) :=
 match outsK tv 0 64 (p.getD 0 0),outsK tv 64 64 (p.getD 1 0),outsK tv 128 64 (p.getD 2 0),outsK tv 192 64 (p.getD 3 0) with
 | some a,some b,some c,some d=>if (a ++ b ++ c ++ d).length <= 100000 then some (a ++ b ++ c ++ d) else none
 | _,_,_,_=>none
def F : Fn:=⟨.pair (.arr 4 (.int .u64)) .unit,.sl (.int .i64),false,fun x=>run x.1⟩
theorem arr_cells {E : Env} {k : IntKind} {n : Nat} {l : List Int} {cs : List Value} (h : FlatD E (.arr n (.int k)) l cs) : l.length = n /\ cs = l.map (Value.int k) /\ ∀ x ∈ l,inR k x = true:=by
 obtain ⟨h1,css,rfl,h2⟩:=h
 have key : ∀ (l : List Int) (css : List (List Value)),All2 (FlatD E (.int k)) l css->css.flatten = l.map (Value.int k) /\ ∀ x ∈ l,inR k x = true:=by
  intro l
  induction l with
  | nil=>intro css h; cases css with
   | nil=>exact ⟨rfl,by simp⟩
   | cons a r=>exact h.elim
  | cons a l ih=>intro css h; cases css with
   | nil=>exact h.elim
   | cons b r =>
    obtain ⟨⟨rfl,hr⟩,h2⟩:=h
    obtain ⟨e1,e2⟩:=ih r h2
    refine ⟨by simp [e1],fun x hx=>?_⟩
    rcases List.mem_cons.1 hx with rfl | hx
    ·exact hr
    ·exact e2 x hx
 exact ⟨h1,(key l css h2).1,(key l css h2).2⟩
theorem outsK_rng {v : Int->Int} {base : Int} : ∀ (n : Nat) (x : Int) (r : List Int),outsK v base n x = some r->∀ y ∈ r,inR .i64 y = true
 | 0,x,r,h,y,hy=>by
  unfold outsK at h
  by_cases hx : x = 0
  ·rw [if_pos hx] at h; cases h; cases hy
  ·rw [if_neg hx] at h; cases h
 | n + 1,x,r,h,y,hy=>by
  unfold outsK at h
  by_cases hx : x = 0
  ·rw [if_pos hx] at h; cases h; cases hy
  ·rw [if_neg hx] at h
   cases hq : outsK v base n (nxtK x) with
   | none=>rw [hq] at h; cases h
   | some q =>
    rw [hq] at h; cases h
    rcases List.mem_cons.1 hy with rfl | hy
    ·have hw : ∀ z : Int,inR .i64 (wrap64 z) = true:=fun z=>by
      rw [show wrap64 z = IntKind.i64.wrap z from by rw [IntKind.wrap_i64]; unfold wrap64; rfl]
      exact inR_wrap .i64 z
     exact hw _
    ·exact outsK_rng n _ q hq y hy
theorem con1 : Con Tryd.prog 26 F:=by
 intro w I x r args hlow hrun hargs
 obtain ⟨v,r0,ha,⟨cs,rfl,hv⟩,hr0⟩:=hargs
 have hr0 : r0 = []:=hr0
 subst hr0
 obtain ⟨v1,v2,v3⟩:=arr_cells hv
 obtain ⟨ds,d1,d2,d3⟩:=hlow.glob 2 ⟨.arr 64 (.int .u8),gBru⟩ rfl
 obtain ⟨e1,e2,e3⟩:=arr_cells d3
 have hgl : (gBru : List Int).length = 64:=rfl
 have hcell : ∀ j : Nat,j < 64->w.cell? ⟨2,j,none⟩ = some (.int .u8 (gBru.getD j 0)):=fun j hj=>by
  apply d2 j
  rw [e2,List.getElem?_map,List.getElem?_eq_getElem (by omega),List.getD_eq_getElem?_getD,List.getElem?_eq_getElem (by omega)]
  rfl
 have hrng : ∀ j : Nat,0 <= gBru.getD j 0 /\ gBru.getD j 0 <= 255:=fun j=>by
  by_cases hj : j < 64
  ·have:=e3 (gBru.getD j 0) (by rw [List.getD_eq_getElem?_getD,List.getElem?_eq_getElem (by omega)]; exact List.getElem_mem _)
   simp only [inR,IntKind.min,IntKind.max,IntKind.signed,IntKind.bits] at this
   rw [List.getD_eq_getElem?_getD] at this ⊢
   simp at this
   omega
  ·rw [List.getD_eq_getElem?_getD,List.getElem?_eq_none (by omega)]; simp
 have h2 : 2 < w.heap.size:=by
  have:=hcell 0 (by omega)
  rcases Nat.lt_or_ge 2 w.heap.size with h' | h'
  ·exact h'
  ·simp [World.cell?,Array.getElem?_eq_none h'] at this
 have hT : ∀ (m : Nat) (x : Int) (W' : World),x ≠ 0->Below w.heap.size w W'->CallsIn Fence.wide m Tryd.prog 81 #[.int .u64 x] W' fun e W''=>e = .returned (.int .i64 (tv x)) /\ W'' = W':=fun m x W' hx hb=>by
  have hk:=tzK_rng x
  exact tz_in m x _ hx W' ((hb.cell (p:=⟨2,(tzK x).toNat,none⟩) h2).trans (hcell _ (by omega))) (hrng _)
 have hrun : run x.1 = some r:=hrun
 have hx4 : ∃ a b c d : Int,x.1 = [a,b,c,d]:=by
  have : ∀ l : List Int,l.length = 4->∃ a b c d : Int,l = [a,b,c,d]:=fun l hl=>by
   match l,hl with
   | [a,b,c,d],_=>exact ⟨a,b,c,d,rfl⟩
  exact this x.1 v1
 obtain ⟨a,b,c,d,hx⟩:=hx4
 rw [hx] at hrun v2
 have hargs : args = #[.agg #[.int .u64 a,.int .u64 b,.int .u64 c,.int .u64 d]]:=by
  apply Array.toList_inj.1
  rw [ha]
  congr 2
  apply Array.toList_inj.1
  rw [v2]; rfl
 rw [hargs]
 unfold run at hrun
 simp only [List.getD_cons_zero,List.getD_cons_succ] at hrun
 cases q0 : outsK tv 0 64 a with
 | none=>rw [q0] at hrun; cases hrun
 | some x0 =>
  cases q1 : outsK tv 64 64 b with
  | none=>rw [q0,q1] at hrun; cases hrun
  | some x1 =>
   cases q2 : outsK tv 128 64 c with
   | none=>rw [q0,q1,q2] at hrun; cases hrun
   | some x2 =>
    cases q3 : outsK tv 192 64 d with
    | none=>rw [q0,q1,q2,q3] at hrun; cases hrun
    | some x3 =>
     rw [q0,q1,q2,q3] at hrun
     simp only [] at hrun
     by_cases hl : (x0 ++ x1 ++ x2 ++ x3).length <= 100000
     ·rw [if_pos hl] at hrun
      cases hrun
      refine (callsIn_wide.1 (All_in 3 (by omega) tv a b c d x0 x1 x2 x3 q0 q1 q2 q3 hl w hT)).mono ?_
      rintro e W' ⟨v,rfl,hrow,hnil,hB⟩
      have hin : ∀ y ∈ x0 ++ x1 ++ x2 ++ x3,inR .i64 y = true:=fun y hy=>by
       simp only [List.mem_append] at hy
       rcases hy with ((hy | hy) | hy) | hy
       ·exact outsK_rng _ _ _ q0 y hy
       ·exact outsK_rng _ _ _ q1 y hy
       ·exact outsK_rng _ _ _ q2 y hy
       ·exact outsK_rng _ _ _ q3 y hy
      refine ⟨v,rfl,hB,?_⟩
      have key : ∀ (zs : List Int),(∀ y ∈ zs,inR .i64 y = true)->All2 (FlatD ⟨W',fun b m=>I b m \/ (w.heap.size <= b /\ b < W'.heap.size)⟩ (.int .i64)) zs (zs.map fun x=>[Value.int .i64 x]) /\ (zs.map fun x=>[Value.int .i64 x]).flatten = zs.map (Value.int .i64):=by
       intro zs
       induction zs with
       | nil=>intro _; exact ⟨trivial,rfl⟩
       | cons a l ih=>intro hz; exact ⟨⟨⟨rfl,hz a (by simp)⟩,(ih fun y hy=>hz y (by simp [hy])).1⟩,by simp [(ih fun y hy=>hz y (by simp [hy])).2]⟩
      obtain ⟨k1,k2⟩:=key _ hin
      obtain ⟨_,⟨rfl,hn⟩ | ⟨g,cap,cur,rfl,hg,hgb,hnc,hcm,hcs,htk⟩⟩:=hrow
      ·exact .inl ⟨hnil.1 rfl,rfl⟩
      ·refine .inr ⟨⟨g,0,none⟩,cap,_,rfl,.inl rfl,hnc,hcm,k1,.inr ⟨(x0 ++ x1 ++ x2 ++ x3).length,?_,.inr ⟨hg,?_⟩⟩,fun j u hj=>?_⟩
       ·rw [k2,List.length_map]; exact Nat.le_of_eq (Nat.zero_add _)
       ·exact (Array.getElem?_eq_some_iff.1 hgb).1
       ·rw [k2,<- htk,Nat.mul_one] at hj
        simp only [World.cell?,hgb,Nat.zero_add]
        rw [List.getElem?_take] at hj
        split at hj
        ·simpa using hj
        ·cases hj
     ·rw [if_neg hl] at hrun; cases hrun
theorem con : Con Tryd.prog 26 F /\ Named Tryd.prog 26:=⟨con1,⟨Tryd.f26,Tryd.func26,by kernel_rfl,by kernel_rfl⟩⟩
end Go.Bx.seen_All
namespace Go.Bx.basculelaw_sameInts
def Js : List Nat:=[10]
def C : Ctx:=⟨[(3,T3),(4,.bool),(51,T5)],[],[],fnL [],noSh,[],invL [],[(2,[4]),(1,[]),(4,[0,1,12,13]),(12,[0,1,12,13]),(27,[])],[],[],0,0⟩
def St0 (x0 x1 : D0) : St:=stL 26 [(0,.data T5 x0),(1,.data T5 x1)] []
def St1 (x4 : Bool) : St:=stL 26 [(4,.data .bool x4)] []
def St2 (x0 x1 : D0) (x12 x13 : Int) : St:=stL 26 [(0,.data T5 x0),(1,.data T5 x1),(12,.data T3 x12),(13,.data T3 x13)] []
noncomputable def cd0 : Code:=cL (cL (cR (cL (cR (cR (cB Tryd.f30))))))
def St3 : St:=stL 26 [] []
def l0s (Nx : D0->D0->Int->Int->Option α) (Rt : Bool->Option α) (Xt0 : Option α) (x0 x1 : D0) (x12 x13 : Int) : Option α :=
 if (decide (x13 < x12)) = true then
  if 0 <= x13 /\ x13 < (x0.length : Int) then
   if 0 <= x13 /\ x13 < (x1.length : Int) then
    if ((List.getD x0 (Int.toNat x13) 0) != (List.getD x1 (Int.toNat x13) 0)) = true then
     Rt false
    else
     Nx x0 x1 x12 (IntKind.i64.wrap (x13 + 1))
   else none
  else none
 else
  Xt0
theorem l0s_eq (k : Nat) (next : St->Option α) (Q : Ex->St->Option α) (x0 x1 : D0) (x12 x13 : Int) :
  rnd C k cd0 12 Q next (St2 x0 x1 x12 x13) = l0s (fun x0 x1 x12 x13=>next (St2 x0 x1 x12 x13)) (fun x4=>Q .ret (St1 x4)) (Q (.exit 0) St3) x0 x1 x12 x13:=plainly Js (by kernel_rfl)
def l0 (k : Nat) (Rt : Bool->Option α) (Xt0 : Option α) : Nat->D0->D0->Int->Int->Option α
 | 0,_,_,_,_=>none
 | n + 1,x0,x1,x12,x13=>l0s (l0 k Rt Xt0 n) Rt Xt0 x0 x1 x12 x13
theorem l0_eq (k : Nat) (Q : Ex->St->Option α) : ∀ (n : Nat) (x0 x1 : D0) (x12 x13 : Int),iter (rnd C k cd0 12 Q) n (St2 x0 x1 x12 x13) = l0 k (fun x4=>Q .ret (St1 x4)) (Q (.exit 0) St3) n x0 x1 x12 x13
 | 0,_,_,_,_=>rfl
 | n + 1,x0,x1,x12,x13=>(iter_succ _ _ _).trans ((l0s_eq k _ Q x0 x1 x12 x13).trans (congrArg (fun N=>l0s N (fun x4=>Q .ret (St1 x4)) (Q (.exit 0) St3) x0 x1 x12 x13) (by funext; exact l0_eq k Q n _ _ _ _)))
theorem l0_congr (k : Nat) (Rt : Bool->Option α) (Xt0 : Option α) (Rtq : Bool->Option α) (Xt0q : Option α) (hRt : ∀ (x4 : Bool),Rt x4 = Rtq x4) (hXt0 : Xt0 = Xt0q) (n : Nat) (x0 x1 : D0) (x12 x13 : Int) : l0 k Rt Xt0 n x0 x1 x12 x13 = l0 k Rtq Xt0q n x0 x1 x12 x13:=by
 obtain rfl : Rt = Rtq:=by funext x4; exact hRt x4
 obtain rfl : Xt0 = Xt0q:=hXt0
 rfl
noncomputable def cd1 : Code:=cR (cR (cR (cB Tryd.f30)))
def St4 : St:=stL 26 [] []
def j0 (Rt : Bool->Option α) : Option α :=
 Rt true
theorem j0_eq (k : Nat) (Q : Ex->St->Option α) :
  (den C k) cd1 Q St4 = j0 (fun x4=>Q .ret (St1 x4)):=plainly Js (by kernel_rfl)
theorem a0 (k : Nat) (Q : Ex->St->Option α) (x0 x1 : D0) (x12 x13 : Int) :
  (lp C k) cd0 (blkQ C 0 (sq (den C k) (lp C k) Js C cd1 Q)) (St2 x0 x1 x12 x13) = l0 k (fun x4=>(fun x4=>Q .ret (St1 x4)) x4) (j0 (fun x4=>Q .ret (St1 x4))) k x0 x1 x12 x13 :=
 (lp_iter 12 (by kernel_rfl)).trans ((l0_eq k _ k x0 x1 x12 x13).trans (l0_congr k _ _ _ _ (fun x4=>(by kernel_rfl)) (Eq.trans (b:=(den C k) cd1 Q St4) (by kernel_rfl) (by simp only [j0_eq])) k x0 x1 x12 x13))
def top (k : Nat) (Rt : Bool->Option α) (x0 x1 : D0) : Option α :=
 if ((x0.length : Int) != (x1.length : Int)) = true then
  Rt false
 else
  l0 k (fun x4=>Rt x4) (j0 Rt) k x0 x1 (x0.length : Int) 0
theorem top_eq (k : Nat) (Q : Ex->St->Option α) (x0 x1 : D0) :
  (den C k) (cB Tryd.f30) Q (St0 x0 x1) = top k (fun x4=>Q .ret (St1 x4)) x0 x1:=by
 have h : ∀ (D L : DT α),denJ D L Js C (cB Tryd.f30) Q (St0 x0 x1) =
    if ((x0.length : Int) != (x1.length : Int)) = true then
     Q .ret (St1 false)
    else
     L cd0 (blkQ C 0 (sq D L Js C cd1 Q)) (St2 x0 x1 (x0.length : Int) 0):=by
  intro D L; kernel_rfl
 have h2:=via (k:=k) h
 refine h2.trans ?_
 simp only [a0]
 first | rfl | kernel_rfl
def run (x0 x1 : D0) : Option (Bool):=top (α:=Bool) fuel (fun x4=>some x4) x0 x1
def F : Fn:=⟨T9,.bool,false,fun x=>run x.1 x.2.1⟩
theorem con : Con Tryd.prog 30 F /\ Named Tryd.prog 30 :=
 con_of2 (C:=C) (ctx_ok (by kernel_rfl) (by kernel_rfl) (by kernel_rfl) (by kernel_rfl) trivial) (by kernel_rfl) Tryd.func30 (by kernel_rfl) (c:=cB Tryd.f30) (by kernel_rfl) (by kernel_rfl) F (fun x=>by simp [F,spread,Tryd.ntmps30]) (fun x=>(St0 x.1 x.2.1)) (fun x=>by kernel_rfl) fun x=>(top_eq fuel _ x.1 x.2.1).trans (by kernel_rfl)
end Go.Bx.basculelaw_sameInts
namespace Go.Bx.seen_Both
def Js : List Nat:=[7]
def C : Ctx:=⟨[(22,T1),(50,T2)],[],[],fnL [],noSh,[],invL [],[(2,[4]),(1,[2,4]),(4,[2,3,4,6]),(6,[2,3,4,6]),(18,[2,4])],[],[],0,0⟩
def St0 (x0 x1 : D0) : St:=stL 19 [(0,.data T2 x0),(1,.data T2 x1)] []
def St1 (x6 : Int) (c2 c3 c4 : D0) : St:=stL 19 [(2,.ref 2 0 []),(3,.ref 3 0 []),(4,.ref 4 0 []),(6,.data T3 x6)] [(2,.cell T2 (.data T2 c2) false),(3,.cell T2 (.data T2 c3) false),(4,.cell T2 (.data T2 c4) false)]
noncomputable def cd0 : Code:=cL (cL (cR (cL (cR (cB Tryd.f27)))))
def St2 (c2 c4 : D0) : St:=stL 19 [(2,.ref 2 0 []),(4,.ref 4 0 [])] [(2,.cell T2 (.data T2 c2) false),(4,.cell T2 (.data T2 c4) false)]
def l0s (Nx : Int->D0->D0->D0->Option α) (Xt0 : D0->D0->Option α) (x6 : Int) (c2 c3 c4 : D0) : Option α :=
 if (decide (x6 < 4)) = true then
  if 0 <= x6 /\ x6 < (4 : Int) then
   if 0 <= x6 /\ x6 < (4 : Int) then
    if 0 <= x6 /\ x6 < (4 : Int) then
     Nx (IntKind.i64.wrap (x6 + 1)) (List.set c2 (Int.toNat x6) (bor .u64 (List.getD c2 (Int.toNat x6) 0) (List.getD c3 (Int.toNat x6) 0))) c3 c4
    else none
   else none
  else none
 else
  Xt0 c2 c4
theorem l0s_eq (k : Nat) (next : St->Option α) (Q : Ex->St->Option α) (x6 : Int) (c2 c3 c4 : D0) :
  rnd C k cd0 6 Q next (St1 x6 c2 c3 c4) = l0s (fun x6 c2 c3 c4=>next (St1 x6 c2 c3 c4)) (fun c2 c4=>Q (.exit 0) (St2 c2 c4)) x6 c2 c3 c4:=plainly Js (by kernel_rfl)
def l0 (k : Nat) (Xt0 : D0->D0->Option α) : Nat->Int->D0->D0->D0->Option α
 | 0,_,_,_,_=>none
 | n + 1,x6,c2,c3,c4=>l0s (l0 k Xt0 n) Xt0 x6 c2 c3 c4
theorem l0_eq (k : Nat) (Q : Ex->St->Option α) : ∀ (n : Nat) (x6 : Int) (c2 c3 c4 : D0),iter (rnd C k cd0 6 Q) n (St1 x6 c2 c3 c4) = l0 k (fun c2 c4=>Q (.exit 0) (St2 c2 c4)) n x6 c2 c3 c4
 | 0,_,_,_,_=>rfl
 | n + 1,x6,c2,c3,c4=>(iter_succ _ _ _).trans ((l0s_eq k _ Q x6 c2 c3 c4).trans (congrArg (fun N=>l0s N (fun c2 c4=>Q (.exit 0) (St2 c2 c4)) x6 c2 c3 c4) (by funext; exact l0_eq k Q n _ _ _ _)))
noncomputable def cd1 : Code:=cR (cR (cB Tryd.f27))
def St3 (c2 c4 : D0) : St:=stL 19 [(2,.ref 2 0 []),(4,.ref 4 0 [])] [(2,.cell T2 (.data T2 c2) false),(4,.cell T2 (.data T2 c4) false)]
def St4 (c4 : D0) : St:=stL 19 [(4,.ref 4 0 [])] [(4,.cell T2 (.data T2 c4) false)]
def j0 (Rt : D0->Option α) (c2 c4 : D0) : Option α :=
 Rt c2
theorem j0_eq (k : Nat) (Q : Ex->St->Option α) (c2 c4 : D0) :
  (den C k) cd1 Q (St3 c2 c4) = j0 (fun c4=>Q .ret (St4 c4)) c2 c4:=plainly Js (by kernel_rfl)
theorem a0 (k : Nat) (Q : Ex->St->Option α) (x6 : Int) (c2 c3 c4 : D0) :
  (lp C k) cd0 (blkQ C 0 (sq (den C k) (lp C k) Js C cd1 Q)) (St1 x6 c2 c3 c4) = l0 k (fun c2 c4=>j0 (fun c4=>Q .ret (St4 c4)) c2 c4) k x6 c2 c3 c4 :=
 (lp_iter 6 (by kernel_rfl)).trans ((l0_eq k _ k x6 c2 c3 c4).trans (congrArg (fun X=>l0 k X k x6 c2 c3 c4) (funext fun c2=>funext fun c4=>(Eq.trans (b:=(den C k) cd1 Q (St3 c2 c4)) (by kernel_rfl) (by simp only [j0_eq])))))
def top (k : Nat) (Rt : D0->Option α) (x0 x1 : D0) : Option α :=
 l0 k (fun c2 c4=>j0 Rt c2 c4) k 0 x0 x1 [0,0,0,0]
theorem top_eq (k : Nat) (Q : Ex->St->Option α) (x0 x1 : D0) :
  (den C k) (cB Tryd.f27) Q (St0 x0 x1) = top k (fun c4=>Q .ret (St4 c4)) x0 x1:=by
 have h : ∀ (D L : DT α),denJ D L Js C (cB Tryd.f27) Q (St0 x0 x1) =
    L cd0 (blkQ C 0 (sq D L Js C cd1 Q)) (St1 0 x0 x1 [0,0,0,0]):=by
  intro D L; kernel_rfl
 have h2:=via (k:=k) h
 refine h2.trans ?_
 simp only [a0]
 first | rfl | kernel_rfl
def run (x0 x1 : D0) : Option D0:=top (α:=List Int) fuel (fun c4=>some c4) x0 x1
def F : Fn:=⟨T4,T2,false,fun x=>run x.1 x.2.1⟩
theorem con : Con Tryd.prog 27 F /\ Named Tryd.prog 27 :=
 con_of2 (C:=C) (ctx_ok (by kernel_rfl) (by kernel_rfl) (by kernel_rfl) (by kernel_rfl) trivial) (by kernel_rfl) Tryd.func27 (by kernel_rfl) (c:=cB Tryd.f27) (by kernel_rfl) (by kernel_rfl) F (fun x=>by simp [F,spread,Tryd.ntmps27]) (fun x=>(St0 x.1 x.2.1)) (fun x=>by kernel_rfl) fun x=>(top_eq fuel _ x.1 x.2.1).trans (by kernel_rfl)
end Go.Bx.seen_Both
namespace Go.Bx.basculeref_Union
def Js : List Nat:=[8,9]
def C : Ctx:=⟨[(3,T3),(50,T2),(51,T5)],[],[],fnL [(28,basculeref_Marks.F),(51,basculeref_Marked.F),(52,basculeref_MarkedToo.F)],noSh,[],invL [],[(2,[4]),(1,[2,4]),(4,[2,4,10,11,12]),(6,[2,4,10,11,12]),(21,[2,4,10,11,12]),(24,[2,4])],[],[],0,0⟩
def St0 (x0 x1 : D0) : St:=stL 32 [(0,.data T2 x0),(1,.data T2 x1)] []
def St1 (x10 : D0) (x11 x12 : Int) (c2 c4 : D0) : St:=stL 32 [(2,.ref 2 0 []),(4,.ref 4 0 []),(10,.data T5 x10),(11,.data T3 x11),(12,.data T3 x12)] [(2,.cell T2 (.data T2 c2) false),(4,.cell T2 (.data T2 c4) false)]
noncomputable def cd0 : Code:=cL (cL (cR (cL (cR (cB Tryd.f29)))))
def St2 (x10 : D0) (x11 x12 : Int) (c2 c4 : D0) : St:=stL 32 [(2,.ref 2 0 []),(4,.ref 4 0 []),(10,.data T5 x10),(11,.data T3 x11),(12,.data T3 x12)] [(2,.cell T2 (.data T2 c2) false),(4,.cell T2 (.data T2 c4) false)]
noncomputable def cd1 : Code:=cR (cR (cR (cL (cL (cR (cL (cR (cB Tryd.f29))))))))
def j0 (Nx : D0->Int->Int->D0->D0->Option α) (x10 : D0) (x11 x12 : Int) (c2 c4 : D0) : Option α :=
 Nx x10 x11 (IntKind.i64.wrap (x12 + 1)) c2 c4
theorem j0_eq (k : Nat) (next : St->Option α) (Q : Ex->St->Option α) (x10 : D0) (x11 x12 : Int) (c2 c4 : D0) :
  (den C k) cd1 (lq C 6 next Q) (St2 x10 x11 x12 c2 c4) = j0 (fun x10 x11 x12 c2 c4=>next (St1 x10 x11 x12 c2 c4)) x10 x11 x12 c2 c4:=plainly Js (by kernel_rfl)
def St3 (c2 c4 : D0) : St:=stL 32 [(2,.ref 2 0 []),(4,.ref 4 0 [])] [(2,.cell T2 (.data T2 c2) false),(4,.cell T2 (.data T2 c4) false)]
def l0s (Nx : D0->Int->Int->D0->D0->Option α) (Xt0 : D0->D0->Option α) (x10 : D0) (x11 x12 : Int) (c2 c4 : D0) : Option α :=
 if (decide (x12 < x11)) = true then
  if 0 <= x12 /\ x12 < (x10.length : Int) then
   (basculeref_Marked.run c2 (List.getD x10 (Int.toNat x12) 0)).bind fun y2 =>
   if (not y2.1) = true then
    (basculeref_MarkedToo.run c2 (List.getD x10 (Int.toNat x12) 0)).bind fun y3 =>
    j0 Nx x10 x11 x12 y3.1 c4
   else
    j0 Nx x10 x11 x12 c2 c4
  else none
 else
  Xt0 c2 c4
theorem l0s_eq (k : Nat) (next : St->Option α) (Q : Ex->St->Option α) (x10 : D0) (x11 x12 : Int) (c2 c4 : D0) :
  rnd C k cd0 6 Q next (St1 x10 x11 x12 c2 c4) = l0s (fun x10 x11 x12 c2 c4=>next (St1 x10 x11 x12 c2 c4)) (fun c2 c4=>Q (.exit 0) (St3 c2 c4)) x10 x11 x12 c2 c4:=by
 have h : ∀ (D L : DT α),denJ D L Js C cd0 (lq C 6 next Q) (St1 x10 x11 x12 c2 c4) =
    if (decide (x12 < x11)) = true then
     if 0 <= x12 /\ x12 < (x10.length : Int) then
      (basculeref_Marked.run c2 (List.getD x10 (Int.toNat x12) 0)).bind fun y2 =>
      if (not y2.1) = true then
       (basculeref_MarkedToo.run c2 (List.getD x10 (Int.toNat x12) 0)).bind fun y3 =>
       D cd1 (lq C 6 next Q) (St2 x10 x11 x12 y3.1 c4)
      else
       D cd1 (lq C 6 next Q) (St2 x10 x11 x12 c2 c4)
     else none
    else
     Q (.exit 0) (St3 c2 c4):=by
  intro D L; kernel_rfl
 have h2:=via (k:=k) h
 refine h2.trans ?_
 simp only [j0_eq]
 first | rfl | kernel_rfl
def l0 (k : Nat) (Xt0 : D0->D0->Option α) : Nat->D0->Int->Int->D0->D0->Option α
 | 0,_,_,_,_,_=>none
 | n + 1,x10,x11,x12,c2,c4=>l0s (l0 k Xt0 n) Xt0 x10 x11 x12 c2 c4
theorem l0_eq (k : Nat) (Q : Ex->St->Option α) : ∀ (n : Nat) (x10 : D0) (x11 x12 : Int) (c2 c4 : D0),iter (rnd C k cd0 6 Q) n (St1 x10 x11 x12 c2 c4) = l0 k (fun c2 c4=>Q (.exit 0) (St3 c2 c4)) n x10 x11 x12 c2 c4
 | 0,_,_,_,_,_=>rfl
 | n + 1,x10,x11,x12,c2,c4=>(iter_succ _ _ _).trans ((l0s_eq k _ Q x10 x11 x12 c2 c4).trans (congrArg (fun N=>l0s N (fun c2 c4=>Q (.exit 0) (St3 c2 c4)) x10 x11 x12 c2 c4) (by funext; exact l0_eq k Q n _ _ _ _ _)))
noncomputable def cd2 : Code:=cR (cR (cB Tryd.f29))
def St4 (c2 c4 : D0) : St:=stL 32 [(2,.ref 2 0 []),(4,.ref 4 0 [])] [(2,.cell T2 (.data T2 c2) false),(4,.cell T2 (.data T2 c4) false)]
def St5 (c4 : D0) : St:=stL 32 [(4,.ref 4 0 [])] [(4,.cell T2 (.data T2 c4) false)]
def j1 (Rt : D0->Option α) (c2 c4 : D0) : Option α :=
 Rt c2
theorem j1_eq (k : Nat) (Q : Ex->St->Option α) (c2 c4 : D0) :
  (den C k) cd2 Q (St4 c2 c4) = j1 (fun c4=>Q .ret (St5 c4)) c2 c4:=plainly Js (by kernel_rfl)
theorem a0 (k : Nat) (Q : Ex->St->Option α) (x10 : D0) (x11 x12 : Int) (c2 c4 : D0) :
  (lp C k) cd0 (blkQ C 0 (sq (den C k) (lp C k) Js C cd2 Q)) (St1 x10 x11 x12 c2 c4) = l0 k (fun c2 c4=>j1 (fun c4=>Q .ret (St5 c4)) c2 c4) k x10 x11 x12 c2 c4 :=
 (lp_iter 6 (by kernel_rfl)).trans ((l0_eq k _ k x10 x11 x12 c2 c4).trans (congrArg (fun X=>l0 k X k x10 x11 x12 c2 c4) (funext fun c2=>funext fun c4=>(Eq.trans (b:=(den C k) cd2 Q (St4 c2 c4)) (by kernel_rfl) (by simp only [j1_eq])))))
def top (k : Nat) (Rt : D0->Option α) (x0 x1 : D0) : Option α :=
 (basculeref_Marks.run x1).bind fun y1 =>
 l0 k (fun c2 c4=>j1 Rt c2 c4) k y1 (y1.length : Int) 0 x0 [0,0,0,0]
theorem top_eq (k : Nat) (Q : Ex->St->Option α) (x0 x1 : D0) :
  (den C k) (cB Tryd.f29) Q (St0 x0 x1) = top k (fun c4=>Q .ret (St5 c4)) x0 x1:=by
 have h : ∀ (D L : DT α),denJ D L Js C (cB Tryd.f29) Q (St0 x0 x1) =
    (basculeref_Marks.run x1).bind fun y1 =>
    L cd0 (blkQ C 0 (sq D L Js C cd2 Q)) (St1 y1 (y1.length : Int) 0 x0 [0,0,0,0]):=by
  intro D L; kernel_rfl
 have h2:=via (k:=k) h
 refine h2.trans ?_
 simp only [a0]
 first | rfl | kernel_rfl
def run (x0 x1 : D0) : Option D0:=top (α:=List Int) fuel (fun c4=>some c4) x0 x1
def F : Fn:=⟨T4,T2,false,fun x=>run x.1 x.2.1⟩
theorem con : Con Tryd.prog 29 F /\ Named Tryd.prog 29 :=
 con_of2 (C:=C) (ctx_ok (by kernel_rfl) (by kernel_rfl) (by kernel_rfl) (by kernel_rfl) ⟨.inl basculeref_Marks.con,⟨.inl basculeref_Marked.con,⟨.inl basculeref_MarkedToo.con,trivial⟩⟩⟩) (by kernel_rfl) Tryd.func29 (by kernel_rfl) (c:=cB Tryd.f29) (by kernel_rfl) (by kernel_rfl) F (fun x=>by simp [F,spread,Tryd.ntmps29]) (fun x=>(St0 x.1 x.2.1)) (fun x=>by kernel_rfl) fun x=>(top_eq fuel _ x.1 x.2.1).trans (by kernel_rfl)
end Go.Bx.basculeref_Union
namespace Go.Bx.basculelaw_SeenAll
def Js : List Nat:=[]
def C : Ctx:=⟨[(4,.bool),(50,T2)],[],[],fnL [(26,seen_All.F),(27,seen_Both.F),(28,basculeref_Marks.F),(29,basculeref_Union.F),(30,basculelaw_sameInts.F)],noSh,[],invL [],[(2,[4])],[],[],0,0⟩
def St0 (x0 x1 : D0) : St:=stL 27 [(0,.data T2 x0),(1,.data T2 x1)] []
def St1 (x4 : Bool) : St:=stL 27 [(4,.data .bool x4)] []
def top (Rt : Bool->Option α) (x0 x1 : D0) : Option α :=
 (seen_All.run x0).bind fun y1 =>
 (seen_Both.run x0 x1).bind fun y2 =>
 (basculeref_Marks.run x0).bind fun y3 =>
 (basculeref_Union.run x0 x1).bind fun y4 =>
 (basculelaw_sameInts.run y1 y3).bind fun y5 =>
 Rt (cond y5 (beqD T2 y2 y4) false)
theorem top_eq (k : Nat) (Q : Ex->St->Option α) (x0 x1 : D0) :
  (den C k) (cB Tryd.f8) Q (St0 x0 x1) = top (fun x4=>Q .ret (St1 x4)) x0 x1:=plainly Js (by kernel_rfl)
def run (x0 x1 : D0) : Option (Bool):=top (α:=Bool) (fun x4=>some x4) x0 x1
def F : Fn:=⟨T4,.bool,false,fun x=>run x.1 x.2.1⟩
theorem con : Con Tryd.prog 8 F /\ Named Tryd.prog 8 :=
 con_of2 (C:=C) (ctx_ok (by kernel_rfl) (by kernel_rfl) (by kernel_rfl) (by kernel_rfl) ⟨.inl seen_All.con,⟨.inl seen_Both.con,⟨.inl basculeref_Marks.con,⟨.inl basculeref_Union.con,⟨.inl basculelaw_sameInts.con,trivial⟩⟩⟩⟩⟩) (by kernel_rfl) Tryd.func8 (by kernel_rfl) (c:=cB Tryd.f8) (by kernel_rfl) (by kernel_rfl) F (fun x=>by simp [F,spread,Tryd.ntmps8]) (fun x=>(St0 x.1 x.2.1)) (fun x=>by kernel_rfl) fun x=>(top_eq fuel _ x.1 x.2.1).trans (by kernel_rfl)
end Go.Bx.basculelaw_SeenAll
