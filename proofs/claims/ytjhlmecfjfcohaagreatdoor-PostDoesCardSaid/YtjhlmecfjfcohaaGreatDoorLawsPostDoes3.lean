/- Laws about functions of plain data, in plain Lean. -/
import Derived.Test.YtjhlmecfjfcohaaGreatDoorLawsPostDoes2
import Derived.Test.YtjhlmecfjfcohaaGreatDoorFnPostDoes0
import Derived.Test.YtjhlmecfjfcohaaGreatDoorLawsPostDoes0
import Derived.Test.YtjhlmecfjfcohaaGreatDoorLawsPostDoes1
open Bool (false_eq_true)
open Int (emod_emod mul_emod sub_emod tmod)
open Option (bind_some)
set_option maxRecDepth 100000
set_option linter.unusedVariables false
set_option linter.unusedSimpArgs false
namespace Go.Bx.Rg
open Go Go.Bx
abbrev jA : Type:=List Int × List Int × Bool × Unit
abbrev QE : Type:=List Int × List Int × List Int × List Int × jA × Unit
theorem mulL (P a b : Int) : (a % P) * b % P = a * b % P:=by rw [mul_emod,emod_emod,<- mul_emod]
theorem mulR (P a b : Int) : a * (b % P) % P = a * b % P:=by rw [mul_emod,emod_emod,<- mul_emod]
theorem P7 (P a b : Int) : (a % P + b) % P = (a + b) % P:=Int.emod_add_emod _ _ _
theorem l7 (P a b : Int) : (a + b % P) % P = (a + b) % P:=Int.add_emod_emod _ _ _
theorem RD (P a b : Int) : (a % P - b) % P = (a - b) % P:=by rw [sub_emod,emod_emod,<- sub_emod]
theorem Qx (P a b : Int) : (a - b % P) % P = (a - b) % P:=by rw [sub_emod,emod_emod,<- sub_emod]
theorem Rb (P a : Int) : (-(a % P)) % P = (-a) % P:=by
 have:=Qx P 0 a
 grind
theorem HR {a : Int} (ha : 0 <= a /\ a < aM) : ax (.arr 4 (.int .u64)) (mk a) [0,0,0,0] = decide (a = 0):=by
 rw [<- mk_zero,Bool.eq_iff_iff,jB _ _ _ rfl,decide_eq_true_eq]
 grind [mk_inj]
theorem vE (x y : Int) : decide (sg x y < 0) = decide (x < y):=by
 unfold sg
 grind
theorem CC (x y : Int) : decide (sg x y > 0) = decide (x > y):=by
 unfold sg
 grind
theorem yL (x y : Int) : decide (sg x y <= 0) = !decide (x > y):=by
 unfold sg
 grind
theorem xx (x y : Int) : decide (sg x y >= 0) = !decide (x < y):=Kk x y
def ye (P A B x y : Int) (f : Bool) : Bool :=
 if f = true then decide (x = 0) && decide (y = 0) else decide (x < P) && decide (y < P) && decide (y * y % P = (x * (x * x) + A * x + B) % P)
section
variable {P A B : Int} (hP : 1 < P /\ P < aM) (hA : 0 <= A /\ A < P) (hB : 0 <= B /\ B < P) (Nw : List Int) (bs : jA)
include hP hA hB
theorem OW {x : Int} (f : Bool) (hx : 0 <= x /\ x < P) : hU.run (mk P,mk A,mk B,Nw,bs,()) (mk P) (mk x) f = some (mk ((x * (x * x) + A * x + B) % P),f,mk ((x * (x * x) + A * x + B) % P),()):=by
 simp_all [zh,sw,mulR,hU.run,hU.top,wO]
theorem Ml {x : Int} (hx : 0 <= x /\ x < P) : fl.run (mk P,mk A,mk B,Nw,bs,()) (mk x) = some (mk ((x * (x * x) + A * x + B) % P)):=by
 unfold fl.run fl.top
 have m:=wO hP
 rw [jZ hP hx hx,bind_some]
 simp only []
 rw [lA hP (m _) hA,bind_some,jZ hP hx (m _),bind_some,lA hP (m _) hB,bind_some]
 grind [mulR,l7]
theorem sf {x y : Int} (f : Bool) (hx : 0 <= x /\ x < aM) (hy : 0 <= y /\ y < aM) :
  kH.run (mk P,mk A,mk B,Nw,bs,()) (mk x,mk y,f,()) = some (ye P A B x y f) /\ fL.run (mk P,mk A,mk B,Nw,bs,()) (mk x,mk y,f,()) = some (ye P A B x y f):=by
 have hPw : 0 <= P /\ P < aM:=⟨by omega,hP.2⟩
 have m:=wO hP
 unfold kH.run kH.top fL.run fL.top ye aB.run aB.top
 cases f with
 | true =>
  simp only [if_true,HR hx,HR hy,bind_some,bS]
  first | exact ⟨rfl,by cases decide (x = 0) <;> rfl⟩ | (cases decide (x = 0) <;> simp)
 | false =>
  simp only [false_eq_true,if_false,AJ hx hPw,oA hx hPw,AJ hy hPw,oA hy hPw,bind_some,xx,vE,bS,cA]
  by_cases h1 : x < P
  ·by_cases h2 : y < P
   ·have q1 : (0 <= x /\ x < P):=⟨hx.1,h1⟩
    have q2 : (0 <= y /\ y < P):=⟨hy.1,h2⟩
    unfold bZ.run bZ.top
    simp only [h1,h2,decide_true,Bool.not_true,BEq.rfl,if_true,bind_some,xx,vE,Bool.or_self,false_eq_true,if_false,zh hP false q2 q2,OW hP hA hB Nw bs false q1,jZ hP q2 q2,Ml hP hA hB Nw bs q1,Tg hP (m _) (m _),Bool.and_self,Bool.true_and]
    exact ⟨trivial,trivial⟩
   ·simp only [h1,h2,decide_true,decide_false,Bool.not_true,Bool.not_false,Bool.and_true,Bool.true_and,Bool.and_false,Bool.false_and,Bool.or_true,Bool.true_or,Bool.or_false,Bool.false_or,BEq.rfl,if_true,if_false,false_eq_true,bind_some,yL,xx,vE,CC,show (true == false) = false from rfl,show (false == true) = false from rfl,and_self]
  ·simp only [h1,decide_true,decide_false,Bool.not_true,Bool.not_false,Bool.and_true,Bool.true_and,Bool.and_false,Bool.false_and,Bool.or_true,Bool.true_or,Bool.or_false,Bool.false_or,BEq.rfl,if_true,if_false,false_eq_true,bind_some,yL,xx,vE,CC,show (true == false) = false from rfl,show (false == true) = false from rfl,and_self]
end
theorem RX {n : Int} (h : 0 <= n /\ n < 18446744073709551616) : cF .u64 n 3 = n % 4:=by
 obtain ⟨X,rfl⟩:=Int.eq_ofNat_of_zero_le h.1
 have hX : X < 18446744073709551616:=by omega
 have:=jv (X:=X) (Y:=3) hX (by decide)
 rw [show ((3 : Nat) : Int) = 3 from rfl] at this
 rw [this,show (3 : Nat) = 2 ^ 2 - 1 from rfl,Nat.and_two_pow_sub_one_eq_mod]
 push_cast; rfl
def Eg (P A B N : Int) : Bool:=decide (P > 3) && decide (P % 4 = 3) && decide (A < P) && decide (B < P) && decide (N > 1)
def Ly (P A B : Int) : Bool:=decide ((4 * (A * (A * A)) + 27 * (B * B)) % P = 0)
def lN (P A B N x y : Int) (f : Bool) : Int:=if Eg P A B N = true then (if (Ly P A B || f || !ye P A B x y f) = true then 16 else 0) else 16
theorem nO {P A B N x y : Int} (f : Bool) (hP : 0 <= P /\ P < aM) (hA : 0 <= A /\ A < aM) (hB : 0 <= B /\ B < aM) (hN : 0 <= N /\ N < aM) (hx : 0 <= x /\ x < aM) (hy : 0 <= y /\ y < aM) :
  fK.run (mk P,mk A,mk B,mk N,(mk x,mk y,f,()),()) = some (lN P A B N x y f) /\ cH.run (mk P,mk A,mk B,mk N,(mk x,mk y,f,()),()) = some (lN P A B N x y f):=by
 have e3 : ([3,0,0,0] : List Int) = mk 3:=by decide
 have e2 : ([2,0,0,0] : List Int) = mk 2:=by decide
 have e1 : ([1,0,0,0] : List Int) = mk 1:=by decide
 have w3 : (0 : Int) <= 3 /\ 3 < aM:=by decide
 have w2 : (0 : Int) <= 2 /\ 2 < aM:=by decide
 have w1 : (0 : Int) <= 1 /\ 1 < aM:=by decide
 have g0 : (mk P).getD 0 0 = P % 18446744073709551616:=rfl
 have r0 : 0 <= P % 18446744073709551616 /\ P % 18446744073709551616 < 18446744073709551616:=⟨Int.emod_nonneg _ (by decide),Int.emod_lt_of_pos _ (by decide)⟩
 have t0 : (tmod ((mk P).getD 0 0) 4 != 3) = !decide (P % 4 = 3):=by
  grind
 have b0 : (cF .u64 ((mk P).getD 0 0) 3 == 3) = decide (P % 4 = 3):=by
  rw [g0,RX r0,Bool.eq_iff_iff,beq_iff_eq,decide_eq_true_eq]; omega
 unfold fK.run fK.top cH.run cH.top lN Eg
 simp only [e3,e2,e1,AJ hP w3,oA hP w3,AJ hA hP,oA hA hP,AJ hB hP,oA hB hP,AJ hN w1,oA hN w1,bind_some,t0,b0,bS,cA,xx,vE,CC,yL]
 by_cases h1 : P > 3
 ·by_cases h2 : P % 4 = 3
  ·by_cases h3 : A < P
   ·by_cases h4 : B < P
    ·by_cases h5 : N > 1
     ·have hM : 1 < P /\ P < aM:=⟨by omega,hP.2⟩
      have qA : 0 <= A /\ A < P:=⟨hA.1,h3⟩
      have qB : 0 <= B /\ B < P:=⟨hB.1,h4⟩
      have m:=wO hM
      obtain ⟨o1,o2⟩:=sf hM qA qB (mk N) (mk x,mk y,f,()) f hx hy
      have pw3:=GO hM qA w3
      have pw2:=GO hM qB w2
      have hd1 : (4 % P * (A * (A * A % P) % P) % P + 27 % P * (B * B % P) % P) % P = (4 * (A * (A * A)) + 27 * (B * B)) % P:=by simp only [mulL,mulR,P7,l7]
      have hd2 : (4 % P * (A ^ (3 : Int).toNat % P) % P + 27 % P * (B ^ (2 : Int).toNat % P) % P) % P = (4 * (A * (A * A)) + 27 * (B * B)) % P:=by
       simp only [mulL,mulR,P7,l7]
       grind
      unfold bZ.run bZ.top
      simp only [h1,h2,h3,h4,h5,decide_true,Bool.not_true,Bool.or_self,BEq.rfl,if_true,bind_some,xx,vE,yL,CC,Bool.and_self,false_eq_true,if_false,
       FT hM _ (show (0 : Int) <= 4 /\ (4 : Int) < 18446744073709551616 by decide),FT hM _ (show (0 : Int) <= 27 /\ (27 : Int) < 18446744073709551616 by decide),zh hM _ qA qA,zh hM _ qB qB,zh hM _ qA (m _),zh hM _ (m _) (m _),sw hM _ (m _) (m _),
       Sd hM (show (0 : Int) <= 4 /\ (4 : Int) < 4294967296 by decide),Sd hM (show (0 : Int) <= 27 /\ (27 : Int) < 4294967296 by decide),pw3,pw2,jZ hM (m _) (m _),lA hM (m _) (m _),Hj hM (m _),HF hM (m _),hd1,hd2,o1,o2]
      rw [show decide ((4 * (A * (A * A)) + 27 * (B * B)) % P = 0) = Ly P A B from rfl]
      cases Ly P A B <;> cases f <;> cases ye P A B x y false <;> cases ye P A B x y true <;> exact ⟨rfl,rfl⟩
     ·simp only [h1,h2,h3,h4,h5,decide_true,decide_false,Bool.not_true,Bool.not_false,Bool.and_true,Bool.true_and,Bool.and_false,Bool.false_and,Bool.or_true,Bool.true_or,Bool.or_false,Bool.false_or,BEq.rfl,if_true,if_false,false_eq_true,bind_some,yL,xx,vE,CC,show (true == false) = false from rfl,show (false == true) = false from rfl,and_self]
    ·simp only [h1,h2,h3,h4,decide_true,decide_false,Bool.not_true,Bool.not_false,Bool.and_true,Bool.true_and,Bool.and_false,Bool.false_and,Bool.or_true,Bool.true_or,Bool.or_false,Bool.false_or,BEq.rfl,if_true,if_false,false_eq_true,bind_some,yL,xx,vE,CC,show (true == false) = false from rfl,show (false == true) = false from rfl,and_self]
   ·simp only [h1,h2,h3,decide_true,decide_false,Bool.not_true,Bool.not_false,Bool.and_true,Bool.true_and,Bool.and_false,Bool.false_and,Bool.or_true,Bool.true_or,Bool.or_false,Bool.false_or,BEq.rfl,if_true,if_false,false_eq_true,bind_some,yL,xx,vE,CC,show (true == false) = false from rfl,show (false == true) = false from rfl,and_self]
  ·simp only [h1,h2,decide_true,decide_false,Bool.not_true,Bool.not_false,Bool.and_true,Bool.true_and,Bool.and_false,Bool.false_and,Bool.or_true,Bool.true_or,Bool.or_false,Bool.false_or,BEq.rfl,if_true,if_false,false_eq_true,bind_some,yL,xx,vE,CC,show (true == false) = false from rfl,show (false == true) = false from rfl,and_self]
 ·simp only [h1,decide_true,decide_false,Bool.not_true,Bool.not_false,Bool.and_true,Bool.true_and,Bool.and_false,Bool.false_and,Bool.or_true,Bool.true_or,Bool.or_false,Bool.false_or,BEq.rfl,if_true,if_false,false_eq_true,bind_some,yL,xx,vE,CC,show (true == false) = false from rfl,show (false == true) = false from rfl,and_self]
theorem rQ {P A B N x y : Int} {f : Bool} (h : lN P A B N x y f = 0) : 3 < P /\ P % 4 = 3 /\ A < P /\ B < P:=by
 unfold lN at h
 by_cases g : Eg P A B N = true
 ·simp_all [Eg]
 grind
theorem Ca (P A B N x y : Int) (f : Bool) : lN P A B N x y f = 0 \/ lN P A B N x y f = 16:=by
 grind [lN]
end Go.Bx.Rg
namespace Go.Bx.Ch
def F2 (A B x : Int) : Int:=x * (x * x) + A * x + B
def M4 (A x1 y1 x2 l : Int) : Int:=A - 2*l*y1 + 2*l*l*x1 + x1*x1 + x1*x2 + x2*x2 - l*l*(x1+x2)
theorem RJ (x1 y1 x2 l A B : Int) : M4 A x1 y1 x2 l * (x2 - x1) = (F2 A B x2 - (y1 + l*(x2-x1))*(y1 + l*(x2-x1))) - (F2 A B x1 - y1*y1):=by unfold M4 F2; grind
theorem RL (x1 y1 x2 l A B : Int) : F2 A B (l*l-x1-x2) - (l*(x1-(l*l-x1-x2)) - y1)*(l*(x1-(l*l-x1-x2)) - y1) = M4 A x1 y1 x2 l * ((l*l-x1-x2) - x1) + (F2 A B x1 - y1*y1):=by unfold M4 F2; grind
theorem r1 (u d P x1 x2 y : Int) : (y * u + P * d) * (x2 - x1) = y * ((x2 - x1) * u) + P * (d * (x2 - x1)):=by grind
theorem r2 (y P c e : Int) : y * (1 + P * c) + P * e = y + P * (e + y * c):=by grind
theorem r3 (y1 y2 P k s t a b : Int) (hs : s = y2 * y2 + P * b) (ht : t = y1 * y1 + P * a) : (s - (y1 + (y2 - y1 + P * k)) * (y1 + (y2 - y1 + P * k))) - (t - y1 * y1) = P * (b - a - k * (2 * y2 + P * k)):=by rw [hs,ht]; grind
theorem r4 (m D u P c w : Int) (h1 : D * u = 1 + P * c) (h2 : m * D = P * w) : m = P * (w * u - m * c):=by
 grind
theorem Pr {P A B x1 y1 x2 y2 l u : Int} (h1 : P ∣ F2 A B x1 - y1*y1) (h2 : P ∣ F2 A B x2 - y2*y2) (hu : P ∣ (x2 - x1) * u - 1) (hl : P ∣ l - (y2 - y1) * u) : P ∣ M4 A x1 y1 x2 l:=by
 obtain ⟨a,ha⟩:=h1
 obtain ⟨b,hb⟩:=h2
 obtain ⟨c,hc⟩:=hu
 obtain ⟨d,hd⟩:=hl
 have e0:=RJ x1 y1 x2 l A B
 have el : l = (y2 - y1) * u + P * d:=by omega
 have ec : (x2 - x1) * u = 1 + P * c:=by omega
 have e1 : l * (x2 - x1) = (y2 - y1) + P * (d * (x2 - x1) + (y2 - y1) * c):=by
  simp_all [r2,r1]
 rw [e1,r3 y1 y2 P _ _ _ a b (by omega) (by omega)] at e0
 exact ⟨_,r4 _ _ _ _ _ _ ec e0⟩
theorem r5 (A x1 y1 l : Int) : M4 A x1 y1 x1 l = A + 3 * (x1 * x1) - l * (y1 + y1):=by unfold M4; grind
theorem r6 (s u d P y : Int) : (s * u + P * d) * y = s * (y * u) + P * (d * y):=by grind
theorem r7 (s P e : Int) : s - (s + P * e) = P * (-e):=by grind
theorem NV {P A x1 y1 l u : Int} (hu : P ∣ (y1 + y1) * u - 1) (hl : P ∣ l - (3 * (x1 * x1) + A) * u) : P ∣ M4 A x1 y1 x1 l:=by
 obtain ⟨c,hc⟩:=hu
 obtain ⟨d,hd⟩:=hl
 have el : l = (3 * (x1 * x1) + A) * u + P * d:=by omega
 have ec : (y1 + y1) * u = 1 + P * c:=by omega
 have:=r6 (3 * (x1 * x1) + A) u d P (y1 + y1)
 rw [<- el,ec,r2] at this
 simp_all [r5,Int.add_comm,r7]
theorem r8 (A B Z P c : Int) : F2 A B (Z + P * c) = F2 A B Z + P * (c * ((Z + P * c) * (Z + P * c) + (Z + P * c) * Z + Z * Z) + A * c):=by unfold F2; grind
theorem r9 (l x1 Z P c y1 d : Int) : l * (x1 - (Z + P * c)) - y1 + P * d = (l * (x1 - Z) - y1) + P * (d - l * c):=by grind
theorem Un (W P e : Int) : (W + P * e) * (W + P * e) = W * W + P * (e * (W + P * e + W)):=by grind
theorem UJ (s t P e f g : Int) (h : s - t = P * g) : s + P * e - (t + P * f) = P * (g + e - f):=by
 grind
theorem UA (P b z a : Int) : P * b * z + P * a = P * (b * z + a):=by grind
theorem Pe {P A B x1 y1 x2 l X Y : Int} (h1 : P ∣ F2 A B x1 - y1*y1) (ha : P ∣ M4 A x1 y1 x2 l) (hX : P ∣ X - (l*l-x1-x2)) (hY : P ∣ Y - (l*(x1-X) - y1)) : P ∣ F2 A B X - Y*Y:=by
 obtain ⟨a,ha'⟩:=h1
 obtain ⟨b,hb⟩:=ha
 obtain ⟨c,hc⟩:=hX
 obtain ⟨d,hd⟩:=hY
 have e0:=RL x1 y1 x2 l A B
 rw [hb,ha',UA] at e0
 generalize l*l-x1-x2 = Z at *
 have eX : X = Z + P * c:=by omega
 have eY : Y = (l * (x1 - X) - y1) + P * d:=by omega
 rw [eX,r9] at eY
 rw [eX,eY,Un (l * (x1 - Z) - y1) P (d - l * c),r8]
 exact ⟨_,UJ _ _ _ _ _ _ e0⟩
end Go.Bx.Ch
namespace Go.Bx.Rg
open Go Go.Bx
def ji (P : Int) (s : jA) : Prop:=∃ (x y : Int) (f : Bool),s = (mk x,mk y,f,()) /\ (0 <= x /\ x < P) /\ (0 <= y /\ y < P)
abbrev Ht : jA:=([0,0,0,0],[0,0,0,0],false,())
theorem F3 {P : Int} (hP : 1 < P /\ P < aM) (f : Bool) : ji P ([0,0,0,0],[0,0,0,0],f,()):=⟨0,0,f,by rw [mk_zero],by omega,by omega⟩
theorem O8 {P A B x y : Int} {f : Bool} (hP : 1 < P /\ P < aM) (h : ye P A B x y f = true) (hx : 0 <= x /\ x < aM) (hy : 0 <= y /\ y < aM) : ji P (mk x,mk y,f,()):=by
 refine ⟨x,y,f,rfl,?_⟩
 unfold ye at h
 grind
section
variable {P A B : Int} (hP : 1 < P /\ P < aM) (hA : 0 <= A /\ A < P) (hB : 0 <= B /\ B < P) (Nw : List Int) (bs : jA)
include hP
theorem tV {x1 y1 x2 y2 u d : Int} (f1 f2 : Bool) (hx1 : 0 <= x1 /\ x1 < P) (hy1 : 0 <= y1 /\ y1 < P) (hx2 : 0 <= x2 /\ x2 < P) (hy2 : 0 <= y2 /\ y2 < P) (hu : 0 <= u /\ u < P) (hd : 0 <= d /\ d < P) (Aw Bw : List Int) :
  ∃ (s : jA) (ok : Bool),hZ.j0 (fun x7 c6=>some (c6,x7,())) (mk x1,mk y1,f1,()) (mk x2,mk y2,f2,()) Ht (mk P) (mk u) (mk d) false = some (s,ok,()) /\
   bT.j0 (fun x7 c6=>some (c6,x7,())) (mk P,Aw,Bw,Nw,bs,()) (mk x1,mk y1,f1,()) (mk x2,mk y2,f2,()) Ht (mk u) (mk d) = some (s,ok,()) /\ ji P s /\ (d = 0->ok = false) /\ (ok = false->s = Ht) /\ (ok = true->∃ v X Y : Int,s = (mk X,mk Y,false,()) /\ (0 <= X /\ X < P) /\ (0 <= Y /\ Y < P) /\ d * v % P = 1 % P /\ X = ((u * v % P * (u * v % P) % P - x1) % P - x2) % P /\ Y = (u * v % P * ((x1 - X) % P) % P - y1) % P):=by
 have m:=wO hP
 obtain ⟨v,ok,w,hv,e1,e2,e3,e4,e5⟩:=SS hP false hd
 unfold hZ.j0 bT.j0
 rw [e1,e2]
 simp only [bind_some]
 rw [zh hP _ hu hv,bind_some]
 simp only []
 rw [zh hP _ (m _) (m _),bind_some]
 simp only []
 rw [JW hP _ (m _) hx1,bind_some]
 simp only []
 rw [JW hP _ (m _) hx2,bind_some]
 simp only []
 rw [JW hP _ hx1 (m _),bind_some]
 simp only []
 rw [zh hP _ (m _) (m _),bind_some]
 simp only []
 rw [JW hP _ (m _) hy1,bind_some]
 simp only []
 cases ok with
 | false =>
  refine ⟨Ht,false,by rw [if_pos (by rfl)],by rw [if_pos (by rfl)],F3 hP _,fun _=>rfl,fun _=>rfl,fun h=>absurd h (by decide)⟩
 | true =>
  have hw:=e3 rfl
  subst hw
  rw [if_neg (by decide),if_neg (by decide),jZ hP hu hv,bind_some,jZ hP (m _) (m _),bind_some,lA hP hx1 hx2,bind_some,iW hP (m _),bind_some,lA hP (m _) (m _),bind_some,iW hP (m _),bind_some,
   lA hP hx1 (m _),bind_some,jZ hP (m _) (m _),bind_some,iW hP hy1,bind_some,lA hP (m _) (m _),bind_some]
  refine ⟨_,true,rfl,?_,⟨_,_,_,rfl,m _,m _⟩,fun h0=>absurd (e4 h0) (by decide),fun h=>absurd h (by decide),fun _=>⟨v,_,_,rfl,m _,m _,e5 rfl,rfl,rfl⟩⟩
  have hx : (u * v % P * (u * v % P) % P + -((x1 + x2) % P) % P) % P = ((u * v % P * (u * v % P) % P - x1) % P - x2) % P:=by
   grind [Qx,Rb]
  rw [hx]
  generalize ((u * v % P * (u * v % P) % P - x1) % P - x2) % P = X
  have hy : (u * v % P * ((x1 + -X % P) % P) % P + -y1 % P) % P = (u * v % P * ((x1 - X) % P) % P - y1) % P:=by
   grind [Qx,Rb]
  rw [hy]
include hA
def rj (P A B : Int) (s : jA) : Prop:=ye P A B (val ah s.1) (val ah s.2.1) s.2.2.1 = true
omit hP hA in
theorem tX {a b : Int} (h : a % P = b % P) : P ∣ a - b:=Int.dvd_of_emod_eq_zero (Int.emod_eq_emod_iff_emod_sub_eq_zero.1 h)
omit hP hA in
theorem C2 {x1 y1 : Int} (h : rj P A B ((mk x1,mk y1,false,()) : jA)) (hx1 : 0 <= x1 /\ x1 < P) (hy1 : 0 <= y1 /\ y1 < P) (hP : 1 < P /\ P < aM) : P ∣ Ch.F2 A B x1 - y1 * y1:=by
 unfold rj ye at h
 simp only [false_eq_true,if_false] at h
 rw [mk_val (n:=x1) ⟨hx1.1,by omega⟩,mk_val (n:=y1) ⟨hy1.1,by omega⟩] at h
 simp only [Bool.and_eq_true,decide_eq_true_eq] at h
 exact tX h.2.symm
omit hA in
theorem O5 {x1 y1 x2 u d : Int} {s : jA} (h1 : P ∣ Ch.F2 A B x1 - y1 * y1) (hs : ∃ v X Y : Int,s = (mk X,mk Y,false,()) /\ (0 <= X /\ X < P) /\ (0 <= Y /\ Y < P) /\ d * v % P = 1 % P /\ X = ((u * v % P * (u * v % P) % P - x1) % P - x2) % P /\ Y = (u * v % P * ((x1 - X) % P) % P - y1) % P)
  (ha : ∀ v,d * v % P = 1 % P->P ∣ Ch.M4 A x1 y1 x2 (u * v % P)) : rj P A B s:=by
 obtain ⟨v,X,Y,rfl,hX,hY,hv,eX,eY⟩:=hs
 have hX' : P ∣ X - (u * v % P * (u * v % P) - x1 - x2):=tX (by rw [eX]; simp only [RD,emod_emod])
 have hY' : P ∣ Y - (u * v % P * (x1 - X) - y1):=tX (by rw [eY]; simp only [RD,mulR,emod_emod])
 have:=Ch.Pe h1 (ha v hv) hX' hY'
 unfold rj ye
 simp only [false_eq_true,if_false]
 rw [mk_val (n:=X) ⟨hX.1,by omega⟩,mk_val (n:=Y) ⟨hY.1,by omega⟩]
 simp only [Bool.and_eq_true,decide_eq_true_eq]
 exact ⟨⟨hX.2,hY.2⟩,(Int.emod_eq_emod_iff_emod_sub_eq_zero.2 (Int.emod_eq_zero_of_dvd this)).symm⟩
theorem zM {p q : jA} (hp : ji P p) (hq : ji P q) :
  ∃ (s : jA) (ok : Bool),hZ.run (mk P,mk A,mk B,Nw,bs,()) p q = some (s,ok,()) /\ bT.run (mk P,mk A,mk B,Nw,bs,()) p q = some (s,ok,()) /\ ji P s /\ (rj P A B p->rj P A B q->ok = true->rj P A B s):=by
 have m:=wO hP
 obtain ⟨x1,y1,f1,rfl,hx1,hy1⟩:=hp
 obtain ⟨x2,y2,f2,rfl,hx2,hy2⟩:=hq
 unfold hZ.run hZ.top bT.run bT.top
 cases f1 with
 | true=>exact ⟨_,true,rfl,rfl,⟨x2,y2,f2,rfl,hx2,hy2⟩,fun _ h _=>h⟩
 | false =>
  cases f2 with
  | true=>exact ⟨_,true,rfl,rfl,⟨x1,y1,false,rfl,hx1,hy1⟩,fun h _ _=>h⟩
  | false =>
   simp only [false_eq_true,if_false]
   unfold bZ.run bZ.top
   rw [bind_some]
   simp only []
   rw [JW hP _ hy2 hy1,bind_some]
   simp only []
   rw [JW hP _ hx2 hx1,bind_some]
   simp only []
   have eq : ax (.pair (.arr 4 (.int .u64)) (.pair (.arr 4 (.int .u64)) (.pair .bool .unit))) ((mk x1,mk y1,false,()) : jA) (mk x2,mk y2,false,()) = (decide (x1 = x2) && decide (y1 = y2)):=by
    rw [Bool.eq_iff_iff,jB _ _ _ rfl,Bool.and_eq_true,decide_eq_true_eq,decide_eq_true_eq,<- mk_inj (a:=x1) (b:=x2) ⟨hx1.1,by omega⟩ ⟨hx2.1,by omega⟩,<- mk_inj (a:=y1) (b:=y2) ⟨hy1.1,by omega⟩ ⟨hy2.1,by omega⟩]
    grind
   rw [Tg hP hx1 hx2,Tg hP hy1 hy2,eq]
   have eu : (y2 + -y1 % P) % P = (y2 - y1) % P:=by rw [l7]; rfl
   have ed : (x2 + -x1 % P) % P = (x2 - x1) % P:=by rw [l7]; rfl
   by_cases hxe : x1 = x2
   ·subst hxe
    simp only [decide_true,BEq.rfl,if_true]
    rw [sw hP _ hy1 hy2,bind_some]
    simp only []
    rw [lA hP hy1 hy2,bind_some,HF hP (m _),bind_some,Hj hP (m _)]
    by_cases hz : (y1 + y2) % P = 0
    ·simp only [hz,decide_true,if_true,cond_true]
     exact ⟨_,true,rfl,rfl,F3 hP _,fun _ _ _=>by simp [rj,ye,val]⟩
    ·simp only [hz,decide_false,false_eq_true,if_false,cond_true,Bool.true_and]
     rw [iW hP hy1,bind_some,lA hP hy2 (m _),bind_some,iW hP hx1,bind_some,lA hP hx1 (m _),bind_some,eu,ed]
     by_cases hye : y1 = y2
     ·subst hye
      simp only [decide_true,Bool.not_true,false_eq_true,if_false,if_true]
      rw [FT hP _ (show (0 : Int) <= 3 /\ (3 : Int) < 18446744073709551616 by decide),bind_some]
      simp only []
      rw [zh hP _ hx1 hx1,bind_some]
      simp only []
      rw [zh hP _ (m _) (m _),bind_some]
      simp only []
      rw [sw hP _ (m _) hA,bind_some]
      simp only []
      rw [sw hP _ hy1 hy1,bind_some]
      simp only []
      rw [Sd hP (show (0 : Int) <= 3 /\ (3 : Int) < 4294967296 by decide),bind_some,jZ hP hx1 hx1,bind_some,jZ hP (m _) (m _),bind_some,lA hP (m _) hA,bind_some,lA hP hy1 hy1,bind_some]
      obtain ⟨s,ok,k1,k2,k3,_,_,k6⟩:=tV hP Nw bs false false hx1 hy1 hx1 hy1 (m (3 % P * (x1 * x1 % P) % P + A)) (m (y1 + y1)) (mk A) (mk B)
      refine ⟨s,ok,k1,k2,k3,fun h1 _ hk=>?_⟩
      refine O5 hP (C2 h1 hx1 hy1 hP) (k6 hk) fun v hv=>?_
      rw [mulL] at hv
      refine Ch.NV (u:=v) (by rw [Int.mul_comm] at hv; rw [Int.mul_comm]; exact tX hv) (tX ?_)
      simp only [mulL,mulR,P7,emod_emod]
     ·simp only [hye,decide_false,Bool.not_false,if_true,false_eq_true,if_false]
      obtain ⟨s,ok,k1,k2,k3,k4,k5,_⟩:=tV hP Nw bs false false hx1 hy1 hx1 hy2 (m (y2 - y1)) (m (x1 - x1)) (mk A) (mk B)
      have h0:=k4 (by rw [Int.sub_self]; exact Int.zero_emod _)
      have hs:=k5 h0
      subst h0
      subst hs
      exact ⟨Ht,false,rfl,k2,k3,fun _ _ h=>absurd h (by decide)⟩
   ·simp only [hxe,decide_false,false_eq_true,if_false,cond_false,Bool.false_and,show (false == true) = false from rfl,bind_some]
    rw [iW hP hy1,bind_some,lA hP hy2 (m _),bind_some,iW hP hx1,bind_some,lA hP hx2 (m _),bind_some,eu,ed]
    obtain ⟨s,ok,k1,k2,k3,_,_,k6⟩:=tV hP Nw bs false false hx1 hy1 hx2 hy2 (m (y2 - y1)) (m (x2 - x1)) (mk A) (mk B)
    refine ⟨s,ok,k1,k2,k3,fun h1 h2 hk=>?_⟩
    refine O5 hP (C2 h1 hx1 hy1 hP) (k6 hk) fun v hv=>?_
    rw [mulL] at hv
    exact Ch.Pr (y2:=y2) (u:=v) (C2 h1 hx1 hy1 hP) (C2 h2 hx2 hy2 hP) (tX hv) (tX (by simp only [mulL,emod_emod]))
end
end Go.Bx.Rg
namespace Go.Bx
open Go Go.Bx.Rg
abbrev Q1 : Ty:=.pair AA (.pair AA (.pair .bool .unit))
abbrev Pu : Ty:=.pair AA (.pair AA (.pair AA (.pair AA (.pair Q1 .unit))))
theorem PZ (p : jA) (h : Fit qU Q1 p) : ∃ x y f,p = (mk x,mk y,f,()) /\ (0 <= x /\ x < aM) /\ (0 <= y /\ y < aM):=by
 obtain ⟨a,b,f,u⟩:=p
 obtain ⟨h1,h2,_⟩:=h
 have w1 : W4 a:=gZ h1
 have w2 : W4 b:=gZ h2
 exact ⟨_,_,f,by rw [<- oc w1,<- oc w2],w1.bound,w2.bound⟩
theorem Qj (c : QE) (h : Fit qU Pu c) : ∃ P A B N x y f,c = (mk P,mk A,mk B,mk N,(mk x,mk y,f,()),()) /\ (0 <= P /\ P < aM) /\ (0 <= A /\ A < aM) /\ (0 <= B /\ B < aM) /\ (0 <= N /\ N < aM) /\ (0 <= x /\ x < aM) /\ (0 <= y /\ y < aM):=by
 obtain ⟨p,a,b,n,q,u⟩:=c
 obtain ⟨h1,h2,h3,h4,h5,_⟩:=h
 have w1 : W4 p:=gZ h1
 have w2 : W4 a:=gZ h2
 have w3 : W4 b:=gZ h3
 have w4 : W4 n:=gZ h4
 obtain ⟨x,y,f,rfl,b1,b2⟩:=PZ q h5
 exact ⟨_,_,_,_,x,y,f,by rw [<- oc w1,<- oc w2,<- oc w3,<- oc w4],w1.bound,w2.bound,w3.bound,w4.bound,b1,b2⟩
def l7 (c : QE) (p q : jA) : jA × Bool:=match hZ.run c p q with
 | some (s,ok,_)=>(s,ok)
 | none=>(Ht,false)
def JZ (k : List Int) (i : Nat) : Bool:=(k.getD (i / 64) 0).toNat.testBit (i % 64)
def rb (c : QE) (k : List Int) (p : jA) (i : Nat) (o : jA) : Option jA :=
 if (l7 c o o).2 = true then
  if JZ k i = true then (if (l7 c (l7 c o o).1 p).2 = true then some (l7 c (l7 c o o).1 p).1 else none) else some (l7 c o o).1
 else none
def runM (c : QE) (k : List Int) (p : jA) : Nat->Nat->jA->Option jA
 | 0,_,o=>some o
 | d + 1,b,o=>(rb c k p (b + d) o).bind (runM c k p d b)
theorem yg (c : QE) (k : List Int) (p : jA) (a b : Nat) : ∀ (d : Nat) (o : jA),runM c k p (a + d) b o = (runM c k p d (b + a) o).bind (runM c k p a b)
 | 0,o=>rfl
 | d + 1,o=>by
  show (rb c k p (b + (a + d)) o).bind (runM c k p (a + d) b) = ((rb c k p (b + a + d) o).bind (runM c k p d (b + a))).bind (runM c k p a b)
  rw [show b + (a + d) = b + a + d by omega]
  cases rb c k p (b + a + d) o with
  | none=>rfl
  | some s=>exact yg c k p a b d s
section
variable {P A B : Int} (hP : 1 < P /\ P < aM) (hA : 0 <= A /\ A < P) (Nw : List Int) (bs : jA)
include hP hA
theorem nN {p q : jA} (hp : ji P p) (hq : ji P q) : hZ.run (mk P,mk A,mk B,Nw,bs,()) p q = some ((l7 (mk P,mk A,mk B,Nw,bs,()) p q).1,(l7 (mk P,mk A,mk B,Nw,bs,()) p q).2,()) /\
  bT.run (mk P,mk A,mk B,Nw,bs,()) p q = some ((l7 (mk P,mk A,mk B,Nw,bs,()) p q).1,(l7 (mk P,mk A,mk B,Nw,bs,()) p q).2,()) /\ ji P (l7 (mk P,mk A,mk B,Nw,bs,()) p q).1:=by
 obtain ⟨s,ok,t1,t2,t3,_⟩:=zM hP hA (B:=B) Nw bs hp hq
 unfold l7
 rw [t1,t2]
 exact ⟨rfl,rfl,t3⟩
theorem Oj {k : List Int} {p o s : jA} (hp : ji P p) (ho : ji P o) (i : Nat) (h : rb (mk P,mk A,mk B,Nw,bs,()) k p i o = some s) : ji P s:=by
 obtain ⟨_,_,t3⟩:=nN hP hA (B:=B) Nw bs ho ho
 obtain ⟨_,_,t4⟩:=nN hP hA (B:=B) Nw bs t3 hp
 grind [rb]
theorem Cb {α : Type} (Xt : Bool->jA->jA->Option α) (K : Nat) (k : List Int) (hk : W4 k) (p z : jA) (hp : ji P p) : ∀ (d n : Nat) (o : jA),d < n->d <= 256->ji P o ->
  ∃ ok r,eD.l0 K Xt n true ((d : Int) - 1) (mk P,mk A,mk B,Nw,bs,()) k p z o = Xt ok z r /\ (∀ s,runM (mk P,mk A,mk B,Nw,bs,()) k p d 0 o = some s->ok = true /\ r = s) /\ (runM (mk P,mk A,mk B,Nw,bs,()) k p d 0 o = none->ok = false)
 | d,0,o,h,_,_=>by omega
 | 0,n + 1,o,h,_,ho=>by
  simp only [eD.l0,eD.bq]
  rw [show decide (((0 : Nat) : Int) - 1 >= 0) = false from rfl,cond_false,if_neg (by decide)]
  exact ⟨true,o,rfl,fun s hs=>by cases hs; exact ⟨rfl,rfl⟩,fun hn=>by cases hn⟩
 | d + 1,n + 1,o,h,hd,ho=>by
  obtain ⟨t1,_,t3⟩:=nN hP hA (B:=B) Nw bs ho ho
  obtain ⟨t4,_,t6⟩:=nN hP hA (B:=B) Nw bs t3 hp
  simp only [eD.l0,eD.bq]
  have e0 : ((d + 1 : Nat) : Int) - 1 = (d : Int):=by omega
  rw [e0,show decide ((d : Int) >= 0) = true by rw [decide_eq_true_eq]; omega,cond_true,if_pos rfl,t1,bind_some]
  have e1 : IntKind.i64.wrap (Int.tdiv (d : Int) 64) = ((d / 64 : Nat) : Int):=jW (x:=d) (c:=64) (by omega)
  have e2 : tmod (d : Int) 64 = ((d % 64 : Nat) : Int):=lB d 64
  have e3 : decide (0 <= ((d / 64 : Nat) : Int) /\ ((d / 64 : Nat) : Int) < 4) = true:=by rw [decide_eq_true_eq]; omega
  have e4 : decide (0 <= ((d % 64 : Nat) : Int)) = true:=by rw [decide_eq_true_eq]; omega
  have hw:=cO dW hk.2 (d / 64)
  have hbit : (cF .u64 (fh .u64 (k.getD (d / 64) 0) ((d % 64 : Nat) : Int)) 1 == 1) = JZ k d:=by
   unfold JZ
   obtain ⟨X,hX⟩:=Int.eq_ofNat_of_zero_le hw.1
   have hX2 : X < 18446744073709551616:=by have:=hw.2; unfold ah at this; omega
   rw [hX,na (Nat.mod_lt _ (by decide))]
   have:=jv (X:=X >>> (d % 64)) (Y:=1) (Nat.lt_of_le_of_lt (Nat.shiftRight_le _ _) hX2) (by decide)
   rw [show ((1 : Nat) : Int) = 1 from rfl] at this
   rw [this,show ((X : Nat) : Int).toNat = X from rfl,<- wM]
   grind
  simp only [e1,e2,e3,e4,Bool.true_or,cond_true,ag,hbit,bS]
  unfold runM
  rw [Nat.zero_add]
  have ih:=fun o ho=>Cb Xt K k hk p z hp d n o (by omega) (by omega) ho
  have stop : ∀ o,∃ r,eD.l0 K Xt n false ((d : Int) - 1) (mk P,mk A,mk B,Nw,bs,()) k p z o = Xt false z r:=fun o=>by
   obtain ⟨n,rfl⟩ : ∃ m,n = m + 1:=⟨n - 1,by omega⟩
   simp only [eD.l0,eD.bq]
   rw [if_neg (by cases decide ((d : Int) - 1 >= 0) <;> decide)]
   exact ⟨o,rfl⟩
  unfold eD.j0
  rw [wrap_i64 (x:=(d : Int) - 1) (by omega) (by omega)]
  unfold rb
  cases hk1 : (l7 (mk P,mk A,mk B,Nw,bs,()) o o).2 with
  | false =>
   simp only [Bool.false_and,false_eq_true,if_false,Option.bind_none]
   obtain ⟨r,hr⟩:=stop (l7 (mk P,mk A,mk B,Nw,bs,()) o o).1
   refine ⟨false,r,hr,?_,?_⟩
   ·intro s hs; cases hs
   ·intro _; rfl
  | true =>
   simp only [Bool.true_and,if_true]
   cases hb : JZ k d with
   | false =>
    simp only [false_eq_true,if_false,bind_some]
    exact ih _ t3
   | true =>
    simp only [if_true,t4,bind_some]
    cases hk2 : (l7 (mk P,mk A,mk B,Nw,bs,()) (l7 (mk P,mk A,mk B,Nw,bs,()) o o).1 p).2 with
    | false =>
     simp only [false_eq_true,if_false,Option.bind_none]
     obtain ⟨r,hr⟩:=stop (l7 (mk P,mk A,mk B,Nw,bs,()) (l7 (mk P,mk A,mk B,Nw,bs,()) o o).1 p).1
     refine ⟨false,r,hr,?_,?_⟩
     ·intro s hs; cases hs
     ·intro _; rfl
    | true =>
     simp only [if_true,bind_some]
     exact ih _ t6
theorem wE {α : Type} (Rt : Bool->jA->Option α) (Xt : Int->QE->List Int->jA->jA->jA->Option α) (K : Nat) (k : List Int) (hk : W4 k) (p z : jA) (hp : ji P p) (w : Nat) (hw4 : w < 4) : ∀ (d n : Nat) (o : jA),d < n->d <= 64->ji P o ->
  (∃ s,runM (mk P,mk A,mk B,Nw,bs,()) k p d (64 * w) o = some s /\ ji P s /\ aZ.l1 K Rt Xt n (w : Int) ((d : Int) - 1) (mk P,mk A,mk B,Nw,bs,()) k p z o = Xt (w : Int) (mk P,mk A,mk B,Nw,bs,()) k p z s) \/
  (runM (mk P,mk A,mk B,Nw,bs,()) k p d (64 * w) o = none /\ aZ.l1 K Rt Xt n (w : Int) ((d : Int) - 1) (mk P,mk A,mk B,Nw,bs,()) k p z o = Rt false Ht)
 | d,0,o,h,_,_=>by omega
 | 0,n + 1,o,h,_,ho=>by
  simp only [aZ.l1,aZ.me]
  rw [show decide (((0 : Nat) : Int) - 1 >= 0) = false from rfl,if_neg (by decide)]
  exact .inl ⟨o,rfl,ho,rfl⟩
 | d + 1,n + 1,o,h,hd,ho=>by
  obtain ⟨_,t1,t3⟩:=nN hP hA (B:=B) Nw bs ho ho
  obtain ⟨_,t4,t6⟩:=nN hP hA (B:=B) Nw bs t3 hp
  simp only [aZ.l1,aZ.me]
  have e0 : ((d + 1 : Nat) : Int) - 1 = (d : Int):=by omega
  rw [e0,show decide ((d : Int) >= 0) = true by rw [decide_eq_true_eq]; omega,if_pos rfl,t1,bind_some]
  have e3 : decide (0 <= (w : Int) /\ (w : Int) < 4) = true:=by rw [decide_eq_true_eq]; omega
  have e4 : decide (0 <= (d : Int)) = true:=by rw [decide_eq_true_eq]; omega
  have hwd:=cO dW hk.2 w
  have hbit : (cF .u64 (k.getD w 0) (eR .u64 1 (d : Int)) != 0) = JZ k (64 * w + d):=by
   unfold JZ
   rw [show (64 * w + d) / 64 = w by omega,show (64 * w + d) % 64 = d by omega]
   obtain ⟨X,hX⟩:=Int.eq_ofNat_of_zero_le hwd.1
   have hX2 : X < 18446744073709551616:=by have:=hwd.2; unfold ah at this; omega
   rw [hX,rG (by omega),jv hX2 (kQ (by omega)),show ((X : Nat) : Int).toNat = X from rfl,<- p9]
   grind
  simp only [e3,e4,Bool.true_or,cond_true,ag,hbit,bS]
  unfold runM
  have ih:=fun o ho=>wE Rt Xt K k hk p z hp w hw4 d n o (by omega) (by omega) ho
  unfold aZ.j0
  rw [wrap_i64 (x:=(d : Int) - 1) (by omega) (by omega)]
  unfold rb
  grind
theorem xm {α : Type} (Rt : Bool->jA->Option α) (Xt : jA->jA->Option α) (K : Nat) (hK : 64 < K) (k : List Int) (hk : W4 k) (p z : jA) (hp : ji P p) : ∀ (w n : Nat) (o : jA),w < n->w <= 4->ji P o ->
  (∃ s,runM (mk P,mk A,mk B,Nw,bs,()) k p (64 * w) 0 o = some s /\ ji P s /\ aZ.l0 K Rt Xt n ((w : Int) - 1) (mk P,mk A,mk B,Nw,bs,()) k p z o = Xt z s) \/
  (runM (mk P,mk A,mk B,Nw,bs,()) k p (64 * w) 0 o = none /\ aZ.l0 K Rt Xt n ((w : Int) - 1) (mk P,mk A,mk B,Nw,bs,()) k p z o = Rt false Ht)
 | w,0,o,h,_,_=>by omega
 | 0,n + 1,o,h,_,ho=>by
  simp only [aZ.l0,aZ.bq]
  rw [show decide (((0 : Nat) : Int) - 1 >= 0) = false from rfl,if_neg (by decide)]
  exact .inl ⟨o,rfl,ho,rfl⟩
 | w + 1,n + 1,o,h,hw,ho=>by
  simp only [aZ.l0,aZ.bq]
  have e0 : ((w + 1 : Nat) : Int) - 1 = (w : Int):=by omega
  rw [e0,show decide ((w : Int) >= 0) = true by rw [decide_eq_true_eq]; omega,if_pos rfl]
  rw [show 64 * (w + 1) = 64 * w + 64 by omega,yg,Nat.zero_add]
  rcases wE hP hA Nw bs Rt (fun x9 c3 c4 c5 c6 c8=>aZ.j1 (aZ.l0 K Rt Xt n) x9 c3 c4 c5 c6 c8) K k hk p z hp w (by omega) 64 K o hK (by omega) ho with ⟨s,h1,h2,h3⟩ | ⟨h1,h3⟩
  ·rw [h1,bind_some]
   have h3:=h3
   rw [show ((64 : Nat) : Int) - 1 = 63 from rfl] at h3
   rw [h3]
   unfold aZ.j1
   rw [wrap_i64 (x:=(w : Int) - 1) (by omega) (by omega)]
   exact xm Rt Xt K hK k hk p z hp w n s (by omega) (by omega) h2
  grind
theorem Qn {p q : jA} (hp : ji P p) (hq : ji P q) (h1 : rj P A B p) (h2 : rj P A B q) (hk : (l7 (mk P,mk A,mk B,Nw,bs,()) p q).2 = true) : rj P A B (l7 (mk P,mk A,mk B,Nw,bs,()) p q).1:=by
 obtain ⟨s,ok,t1,t2,t3,t4⟩:=zM hP hA (B:=B) Nw bs hp hq
 grind [l7]
theorem Oh {k : List Int} {p o s : jA} (hp : ji P p) (ho : ji P o) (h1 : rj P A B p) (h2 : rj P A B o) (i : Nat) (h : rb (mk P,mk A,mk B,Nw,bs,()) k p i o = some s) : rj P A B s:=by
 obtain ⟨_,_,t3⟩:=nN hP hA (B:=B) Nw bs ho ho
 grind [rb,Qn]
theorem MX {k : List Int} {p : jA} (hp : ji P p) (h1 : rj P A B p) : ∀ (d b : Nat) (o s : jA),ji P o->rj P A B o->runM (mk P,mk A,mk B,Nw,bs,()) k p d b o = some s->ji P s /\ rj P A B s
 | 0,b,o,s,h2,h3,h=>by cases h; exact ⟨h2,h3⟩
 | d + 1,b,o,s,h2,h3,h=>by
  unfold runM at h
  cases hs : rb (mk P,mk A,mk B,Nw,bs,()) k p (b + d) o with
  | none=>rw [hs] at h; cases h
  | some t =>
   rw [hs] at h
   exact MX hp h1 d b t s (Oj hP hA (B:=B) Nw bs hp h2 _ hs) (Oh hP hA (B:=B) Nw bs hp h2 h1 h3 _ hs) h
end
theorem Cj {P A B N x y : Int} {f : Bool} {k : List Int} {px py : Int} {pf : Bool} (b1 : 0 <= P /\ P < aM) (b2 : 0 <= A /\ A < aM) (b3 : 0 <= B /\ B < aM) (b4 : 0 <= N /\ N < aM) (b5 : 0 <= x /\ x < aM) (b6 : 0 <= y /\ y < aM)
  (h0 : lN P A B N x y f = 0) (hk : W4 k) (p1 : 0 <= px /\ px < aM) (p2 : 0 <= py /\ py < aM) (hp' : ye P A B px py pf = true) :
  ∃ (s t : jA) (e : Int) (ok : Bool),eD.run (mk P,mk A,mk B,mk N,(mk x,mk y,f,()),()) k (mk px,mk py,pf,()) = some (s,e,()) /\ aZ.run (mk P,mk A,mk B,mk N,(mk x,mk y,f,()),()) k (mk px,mk py,pf,()) = some (t,ok,()) /\
   (ok = true->e = 0 /\ t = s /\ ji P s /\ rj P A B s) /\ (ok = false->e = 16 /\ s = Ht):=by
 obtain ⟨e1,e2⟩:=nO f b1 b2 b3 b4 b5 b6
 obtain ⟨g1,g2,g3,g4⟩:=rQ h0
 have hM : 1 < P /\ P < aM:=⟨by omega,b1.2⟩
 obtain ⟨o1,o2⟩:=sf hM ⟨b2.1,g3⟩ ⟨b3.1,g4⟩ (mk N) (mk x,mk y,f,()) pf p1 p2
 have hfl : ∀ Rt : Int->Option Int,dQ.l0 fuel Rt (dQ.j0 Rt) fuel [(mk px,mk py,pf,())] ((([(mk px,mk py,pf,())] : List jA).length : Nat) : Int) 0 (mk P,mk A,mk B,mk N,(mk x,mk y,f,()),()) = if ye P A B px py pf = true then Rt 0 else Rt 16:=by
  intro Rt
  obtain ⟨q,hq⟩ : ∃ q,fuel = q + 2:=⟨fuel - 2,by rw [au]⟩
  rw [hq]
  simp only [dQ.l0,dQ.bq,dQ.j0]
  have s1 : (decide ((0 : Int) < (([(mk px,mk py,pf,())] : List jA).length : Int))) = true:=rfl
  have s2 : (decide ((1 : Int) < (([(mk px,mk py,pf,())] : List jA).length : Int))) = false:=rfl
  have r1 : (0 : Int) <= 0 /\ (0 : Int) < (([(mk px,mk py,pf,())] : List jA).length : Int):=by simp
  have w1 : IntKind.i64.wrap (0 + 1) = 1:=rfl
  grind
 have hpo:=O8 hM hp' p1 p2
 have hpv : rj P A B ((mk px,mk py,pf,()) : jA):=by
  grind [mk_val,rj]
 have hfar : ji P ([0,0,0,0],[0,0,0,0],true,()):=F3 hM true
 have hfv : rj P A B ([0,0,0,0],[0,0,0,0],true,()):=by simp [rj,ye,val]
 unfold eD.run eD.top dQ.run dQ.top
 rw [e1]
 simp only [bind_some]
 rw [h0,if_neg (by decide),hfl,hp']
 simp only [if_true,bind_some,show ((0 : Int) != 0) = false from rfl,false_eq_true,if_false,BEq.rfl,Bool.not_true,cond_false]
 unfold aZ.run aZ.top
 obtain ⟨ok,r,m1,m2,m3⟩:=Cb hM ⟨b2.1,g3⟩ (B:=B) (mk N) (mk x,mk y,f,()) (fun x10 c6 c9=>eD.j1 (fun x7 c6=>some (c6,x7,())) x10 c6 c9) fuel k hk (mk px,mk py,pf,()) Ht hpo 256 fuel ([0,0,0,0],[0,0,0,0],true,()) (by rw [au]; omega) (by omega) hfar
 rw [show ((256 : Nat) : Int) - 1 = 255 from rfl] at m1
 rw [m1]
 rcases xm hM ⟨b2.1,g3⟩ (B:=B) (mk N) (mk x,mk y,f,()) (fun x7 c6=>some (c6,x7,())) (fun c6 c8=>aZ.j2 (fun x7 c6=>some (c6,x7,())) c6 c8) fuel (by rw [au]; omega) k hk (mk px,mk py,pf,()) Ht hpo 4 fuel ([0,0,0,0],[0,0,0,0],true,()) (by rw [au]; omega) (by omega) hfar with ⟨s,h1,h2,h3⟩ | ⟨h1,h3⟩
 ·rw [show ((4 : Nat) : Int) - 1 = 3 from rfl] at h3
  rw [h3]
  obtain ⟨rfl,rfl⟩:=m2 s h1
  exact ⟨_,_,_,_,rfl,rfl,fun _=>⟨rfl,rfl,MX hM ⟨b2.1,g3⟩ (B:=B) (mk N) (mk x,mk y,f,()) hpo hpv _ _ _ _ hfar hfv h1⟩,fun h=>absurd h (by decide)⟩
 ·rw [show ((4 : Nat) : Int) - 1 = 3 from rfl] at h3
  rw [h3]
  have:=m3 h1
  subst this
  exact ⟨_,_,_,_,rfl,rfl,fun h=>absurd h (by decide),fun _=>⟨rfl,rfl⟩⟩
theorem B4 {P A B N x y : Int} {f : Bool} (h : lN P A B N x y f = 0) : ye P A B x y f = true /\ f = false /\ 1 < N:=by
 unfold lN at h
 split at h
 ·rename_i hg
  split at h
  ·omega
  ·rename_i h2
   simp only [Bool.or_eq_true,Bool.not_eq_true',not_or,Bool.not_eq_true,Bool.not_eq_false] at h2
   unfold Eg at hg
   grind
 omega
def R4 (s : jA) : Prop:=W4 s.1 /\ W4 s.2.1
theorem Pz {P : Int} {s : jA} (h : ji P s) : R4 s:=by
 obtain ⟨x,y,f,rfl,_,_⟩:=h
 exact ⟨df _,df _⟩
theorem wG : R4 Ht:=⟨W4.zero,W4.zero⟩
theorem xW {P A B X Y : Int} {F : Bool} (hX : 0 <= X /\ X < aM) (hY : 0 <= Y /\ Y < aM) (h : rj P A B ((mk X,mk Y,F,()) : jA)) : ye P A B X Y F = true:=by
 grind [mk_val,rj]
section
variable {P A B N x y : Int} {f : Bool} (b1 : 0 <= P /\ P < aM) (b2 : 0 <= A /\ A < aM) (b3 : 0 <= B /\ B < aM) (b4 : 0 <= N /\ N < aM) (b5 : 0 <= x /\ x < aM) (b6 : 0 <= y /\ y < aM) (h0 : lN P A B N x y f = 0)
include b1 b2 b3 b4 b5 b6 h0
theorem Ks {p q : jA} (hp : ji P p) (hq : ji P q) (vp : rj P A B p) (vq : rj P A B q) :
  ∃ (s t : jA) (e : Int) (ok : Bool),nr.run (mk P,mk A,mk B,mk N,(mk x,mk y,f,()),()) p q = some (s,e,()) /\ bT.run (mk P,mk A,mk B,mk N,(mk x,mk y,f,()),()) p q = some (t,ok,()) /\
   (ok = true->e = 0 /\ t = s /\ ji P s /\ rj P A B s) /\ (ok = false->e = 16):=by
 obtain ⟨e1,e2⟩:=nO f b1 b2 b3 b4 b5 b6
 obtain ⟨g1,g2,g3,g4⟩:=rQ h0
 have hM : 1 < P /\ P < aM:=⟨by omega,b1.2⟩
 obtain ⟨s,ok,t1,t2,t3,t4⟩:=zM hM ⟨b2.1,g3⟩ (B:=B) (mk N) (mk x,mk y,f,()) hp hq
 obtain ⟨px,py,pf,rfl,p1,p2⟩:=hp
 obtain ⟨qx,qy,qf,rfl,q1,q2⟩:=hq
 have p1' : 0 <= px /\ px < aM:=⟨p1.1,by omega⟩
 have p2' : 0 <= py /\ py < aM:=⟨p2.1,by omega⟩
 have q1' : 0 <= qx /\ qx < aM:=⟨q1.1,by omega⟩
 have q2' : 0 <= qy /\ qy < aM:=⟨q2.1,by omega⟩
 obtain ⟨o1,_⟩:=sf hM ⟨b2.1,g3⟩ ⟨b3.1,g4⟩ (mk N) (mk x,mk y,f,()) pf p1' p2'
 obtain ⟨o3,_⟩:=sf hM ⟨b2.1,g3⟩ ⟨b3.1,g4⟩ (mk N) (mk x,mk y,f,()) qf q1' q2'
 unfold nr.run nr.top dQ.run dQ.top
 rw [e1]
 simp only [bind_some]
 obtain ⟨k,hk⟩ : ∃ k,fuel = k + 3:=⟨fuel - 3,by rw [au]⟩
 rw [h0,hk]
 simp only [dQ.l0,dQ.bq,dQ.j0]
 have s1 : (decide ((0 : Int) < (([(mk px,mk py,pf,()),(mk qx,mk qy,qf,())] : List jA).length : Int))) = true:=rfl
 have s2 : (decide ((1 : Int) < (([(mk px,mk py,pf,()),(mk qx,mk qy,qf,())] : List jA).length : Int))) = true:=rfl
 have s3 : (decide ((2 : Int) < (([(mk px,mk py,pf,()),(mk qx,mk qy,qf,())] : List jA).length : Int))) = false:=rfl
 have r1 : (0 : Int) <= 0 /\ (0 : Int) < (([(mk px,mk py,pf,()),(mk qx,mk qy,qf,())] : List jA).length : Int):=by simp
 have r2 : (0 : Int) <= 1 /\ (1 : Int) < (([(mk px,mk py,pf,()),(mk qx,mk qy,qf,())] : List jA).length : Int):=by simp
 have w1 : IntKind.i64.wrap (0 + 1) = 1:=rfl
 have w2 : IntKind.i64.wrap (1 + 1) = 2:=rfl
 have d1 : ([(mk px,mk py,pf,()),(mk qx,mk qy,qf,())] : List jA).getD (Int.toNat 0) ([0,0,0,0],[0,0,0,0],false,()) = (mk px,mk py,pf,()):=rfl
 have d2 : ([(mk px,mk py,pf,()),(mk qx,mk qy,qf,())] : List jA).getD (Int.toNat 1) ([0,0,0,0],[0,0,0,0],false,()) = (mk qx,mk qy,qf,()):=rfl
 rw [w1,w2,s1,s2,s3,d1,d2,if_pos r1,if_pos r2,o1,o3,xW p1' p2' vp,xW q1' q2' vq]
 simp only [show ((0 : Int) != 0) = false from rfl,BEq.rfl,if_true,if_false,false_eq_true,bind_some,Bool.not_true]
 rw [t1,t2]
 cases ok with
 | false=>exact ⟨_,_,_,_,rfl,rfl,fun h=>absurd h (by decide),fun _=>rfl⟩
 | true=>exact ⟨_,_,_,_,rfl,rfl,fun _=>⟨rfl,rfl,t3,t4 vp vq rfl⟩,fun h=>absurd h (by decide)⟩
theorem JK {u v : Int} {p q : jA} (hp : ji P p) (hq : ji P q) (vp : rj P A B p) (vq : rj P A B q) :
  ∃ (s t : jA) (e : Int) (ok : Bool),ni.run (mk P,mk A,mk B,mk N,(mk x,mk y,f,()),()) (mk u) p (mk v) q = some (s,e,()) /\ iz.run (mk P,mk A,mk B,mk N,(mk x,mk y,f,()),()) (mk u) p (mk v) q = some (t,ok,()) /\
   (ok = true->e = 0 /\ t = s /\ ji P s /\ rj P A B s) /\ (ok = false->e = 16):=by
 have hp':=hp
 have hq':=hq
 obtain ⟨px,py,pf,rfl,p1,p2⟩:=hp'
 obtain ⟨qx,qy,qf,rfl,q1,q2⟩:=hq'
 have p1' : 0 <= px /\ px < aM:=⟨p1.1,by omega⟩
 have p2' : 0 <= py /\ py < aM:=⟨p2.1,by omega⟩
 have q1' : 0 <= qx /\ qx < aM:=⟨q1.1,by omega⟩
 have q2' : 0 <= qy /\ qy < aM:=⟨q2.1,by omega⟩
 obtain ⟨s1,t1,e1,k1,m1,m2,m3,m4⟩:=Cj b1 b2 b3 b4 b5 b6 h0 (df u) p1' p2' (xW p1' p2' vp)
 obtain ⟨s2,t2,e2,k2,n1,n2,n3,n4⟩:=Cj b1 b2 b3 b4 b5 b6 h0 (df v) q1' q2' (xW q1' q2' vq)
 unfold ni.run ni.top iz.run iz.top
 rw [m1,m2,n1,n2]
 simp only [bind_some]
 cases k1 with
 | false =>
  rw [(m4 rfl).1]
  exact ⟨_,_,_,_,rfl,rfl,fun h=>absurd h (by decide),fun _=>rfl⟩
 | true =>
  obtain ⟨rfl,rfl,o1,v1⟩:=m3 rfl
  cases k2 with
  | false =>
   rw [(n4 rfl).1]
   exact ⟨_,_,_,_,rfl,rfl,fun h=>absurd h (by decide),fun _=>rfl⟩
  | true =>
   obtain ⟨rfl,rfl,o2,v2⟩:=n3 rfl
   obtain ⟨s,t,e,ok,a1,a2,a3,a4⟩:=Ks b1 b2 b3 b4 b5 b6 h0 o1 o2 v1 v2
   simp only [bne_self_eq_false,false_eq_true,if_false,Bool.not_true,cond_false]
   rw [a1,a2]
   exact ⟨_,_,_,_,rfl,rfl,a3,a4⟩
end
end Go.Bx
namespace Go.Bx
open Go
section
variable {x m a : List Int} {F : Int->Int}
theorem kD {α : Type} (k : Nat) (Xt : Bool->Int->List Int->List Int->List Int->List Int->Option α) (hx : W4 x)
  (hF : ∀ (q : Int) (b : Bool) (o : List Int),0 <= q->W4 o->val ah o = F q->∃ o',gw.run b o m a = some (o',m,a,()) /\ W4 o' /\ val ah o' = F (2 * q + if b = true then 1 else 0)) (j : Nat) (hj : j < 4) :
  ∀ (n i : Nat) (b : Bool) (o : List Int),i < n->i <= 64->W4 o->val ah o = F (val ah x / ((2 ^ (64 * j + i) : Nat) : Int))->(b = false->val ah x / ((2 ^ (64 * j + i) : Nat) : Int) = 0) ->
  ∃ b' o',dh.l1 k Xt n b (j : Int) ((i : Int) - 1) o m a x = Xt b' (j : Int) o' m a x /\ W4 o' /\ val ah o' = F (val ah x / ((2 ^ (64 * j) : Nat) : Int)) /\ (b' = false->val ah x / ((2 ^ (64 * j) : Nat) : Int) = 0)
 | 0,i,b,o,h,_,_,_,_=>by omega
 | n + 1,0,b,o,h,hi,ho,hv,hb=>by
  refine ⟨b,o,?_,ho,hv,hb⟩
  rfl
 | n + 1,i + 1,b,o,h,hi,ho,hv,hb=>by
  simp only [dh.l1,dh.me]
  have ei : ((i + 1 : Nat) : Int) - 1 = (i : Int):=by omega
  rw [ei,if_pos (dT (by omega)),if_pos (by omega),if_pos (by omega),ag]
  obtain ⟨X,hX,hX2⟩:=jl (cO dW hx.2 j)
  have hbit:=C6 hx.2 (w:=j) (k:=i) (by omega) hX
  have hs : X >>> i < 18446744073709551616:=Nat.lt_of_le_of_lt (Nat.shiftRight_le _ _) hX2
  have hband : cF .u64 (fh .u64 (x.getD j 0) (i : Int)) 1 = val ah x / ((2 ^ (64 * j + i) : Nat) : Int) % 2:=by
   grind [na,jv]
  rw [hband]
  have hq : val ah x / ((2 ^ (64 * j + i) : Nat) : Int) = 2 * (val ah x / ((2 ^ (64 * j + (i + 1)) : Nat) : Int)) + val ah x / ((2 ^ (64 * j + i) : Nat) : Int) % 2:=by
   grind [Int.ediv_ediv_of_nonneg]
  have hq0 : 0 <= val ah x / ((2 ^ (64 * j + (i + 1)) : Nat) : Int):=Int.ediv_nonneg hx.bound.1 (Int.natCast_nonneg _)
  generalize val ah x / ((2 ^ (64 * j + (i + 1)) : Nat) : Int) = q at *
  generalize hQ : val ah x / ((2 ^ (64 * j + i) : Nat) : Int) = Q at *
  unfold dh.j1
  have ew : IntKind.i64.wrap ((i : Int) - 1) = (i : Int) - 1:=wrap_i64 (by omega) (by omega)
  rw [ew]
  by_cases hc : (cond b true (Q % 2 == 1)) = true
  ·rw [if_pos hc]
   obtain ⟨o',o1,o2,o3⟩:=hF q (Q % 2 == 1) o hq0 ho hv
   rw [o1,bind_some]
   have hQ' : 2 * q + (if (Q % 2 == 1) = true then 1 else 0) = Q:=by
    grind
   rw [hQ'] at o3
   refine kD k Xt hx hF j hj n i _ o' (by omega) (by omega) o2 (by rw [hQ]; exact o3) (fun h=>?_)
   grind
  ·rw [if_neg hc]
   have hb0 : b = false /\ Q % 2 ≠ 1:=by
    grind
   have hz:=hb hb0.1
   have hQ0 : Q = 0:=by omega
   refine kD k Xt hx hF j hj n i _ o (by omega) (by omega) ho (by rw [hQ,hQ0,hv,hz]) (fun _=>by rw [hQ,hQ0])
theorem kE {α : Type} (k : Nat) (hk : 64 < k) (Xt : List Int->List Int->List Int->Option α) (hx : W4 x)
  (hF : ∀ (q : Int) (b : Bool) (o : List Int),0 <= q->W4 o->val ah o = F q->∃ o',gw.run b o m a = some (o',m,a,()) /\ W4 o' /\ val ah o' = F (2 * q + if b = true then 1 else 0)) :
  ∀ (n j : Nat) (b : Bool) (o : List Int),j < n->j <= 4->W4 o->val ah o = F (val ah x / ((2 ^ (64 * j) : Nat) : Int))->(b = false->val ah x / ((2 ^ (64 * j) : Nat) : Int) = 0) ->
  ∃ o',dh.l0 k Xt n b ((j : Int) - 1) o m a x = Xt o' m a /\ W4 o' /\ val ah o' = F (val ah x)
 | 0,j,b,o,h,_,_,_,_=>by omega
 | n + 1,0,b,o,h,hi,ho,hv,hb=>by
  refine ⟨o,?_,ho,by simpa using hv⟩
  rfl
 | n + 1,j + 1,b,o,h,hi,ho,hv,hb=>by
  simp only [dh.l0,dh.bq]
  have ei : ((j + 1 : Nat) : Int) - 1 = (j : Int):=by omega
  rw [ei,if_pos (dT (by omega)),if_pos (by omega),ag]
  unfold dh.j0
  have ew : IntKind.i64.wrap ((j : Int) - 1) = (j : Int) - 1:=wrap_i64 (by omega) (by omega)
  rw [ew]
  by_cases hc : (cond (x.getD j 0 == 0) (not b) false) = true
  ·rw [if_pos hc]
   have hz : x.getD j 0 = 0 /\ b = false:=by
    grind
   have h0:=hb hz.2
   have hd:=pn hx.2 j
   have hd1:=pn hx.2 (j + 1)
   have hvd:=gR ah x j
   have hQ0 : val ah x / ((2 ^ (64 * j) : Nat) : Int) = 0:=by
    grind
   exact kE k hk Xt hx hF n j b o (by omega) (by omega) ho (by rw [hQ0,hv,h0]) (fun _=>hQ0)
  ·rw [if_neg hc]
   have e64 : (63 : Int) = ((64 : Nat) : Int) - 1:=by omega
   have hm64 : 64 * (j + 1) = 64 * j + 64:=by omega
   rw [hm64] at hv hb
   obtain ⟨b',o',e1,e2,e3,e4⟩:=kD k (fun (x4 : Bool) (x5 : Int) (c0 : List Int) (c1 : List Int) (c2 : List Int) (c5 : List Int)=>dh.l0 k Xt n x4 (IntKind.i64.wrap (x5 - 1)) c0 c1 c2 c5) hx hF j (by omega) k 64 b o hk (by omega) ho hv hb
   rw [e64,e1,ew]
   exact kE k hk Xt hx hF n j b' o' (by omega) (by omega) e2 e3 e4
theorem uA {x m a o : List Int} {F : Int->Int} (hx : W4 x) (ho : W4 o) (h0 : val ah o = F 0)
  (hF : ∀ (q : Int) (b : Bool) (o : List Int),0 <= q->W4 o->val ah o = F q->∃ o',gw.run b o m a = some (o',m,a,()) /\ W4 o' /\ val ah o' = F (2 * q + if b = true then 1 else 0)) :
  ∃ o',dh.run x o m a = some (o',m,a,()) /\ W4 o' /\ val ah o' = F (val ah x):=by
 unfold dh.run dh.top
 have hz : val ah x / ((2 ^ (64 * 4) : Nat) : Int) = 0:=by
  have hb:=dL dW hx.2
  rw [hx.1] at hb
  grind
 have:=fun N (hN : 64 < N)=>kE N hN (fun (c0 : List Int) (c1 : List Int) (c2 : List Int)=>some (c0,c1,c2,())) hx hF N 4 false o (by omega) (by omega) ho (by rw [hz]; exact h0) (fun _=>hz)
 obtain ⟨o',e1,e2,e3⟩:=this fuel (by rw [au]; omega)
 exact ⟨o',e1,e2,e3⟩
end
theorem JF (A : Int) (q : Int) (hq : 0 <= q) (b : Bool) : A ^ (2 * q + if b = true then 1 else 0).toNat = A ^ q.toNat * A ^ q.toNat * (if b = true then A else 1):=by
 obtain ⟨n,rfl⟩ : ∃ n : Nat,q = (n : Int):=⟨q.toNat,by omega⟩
 cases b with
 | true =>
  rw [if_pos rfl,if_pos rfl]
  have e : (2 * (n : Int) + 1).toNat = n + n + 1:=by omega
  rw [e,Int.toNat_natCast,Int.pow_succ,Int.pow_add]
 | false =>
  rw [if_neg (by simp),if_neg (by simp)]
  have e : (2 * (n : Int) + 0).toNat = n + n:=by omega
  rw [e,Int.toNat_natCast,Int.pow_add,Int.mul_one]
theorem MD {a x m o : List Int} (ha : W4 a) (hx : W4 x) (hm : W4 m) (h1 : val ah a < val ah m) (ho : W4 o) (hv : val ah o = 1 % val ah m) : ∃ r,dh.run x o m a = some (r,m,a,()) /\ W4 r /\ val ah r = (val ah a ^ (val ah x).toNat) % val ah m:=by
 have ba:=ha.bound
 have hpos : 0 < val ah m:=by omega
 exact uA (m:=m) (a:=a) (F:=fun q=>(val ah a ^ q.toNat) % val ah m) hx ho (by rw [hv]; simp) (fun q b o hq ho hv=>by
  have hlt:=Int.emod_lt_of_pos (val ah a ^ q.toNat) hpos
  unfold gw.run gw.top
  obtain ⟨r1,k1,k2,k3⟩:=mh ho ho hm (by rw [hv]; exact hlt)
  rw [k1,bind_some]
  have key : val ah r1 = (val ah a ^ q.toNat * val ah a ^ q.toNat) % val ah m:=by
   rw [k3,hv,<- mul_emod]
  simp only
  rw [JF _ q hq b]
  cases b with
  | true =>
   rw [if_pos rfl,if_pos rfl]
   obtain ⟨r2,j1,j2,j3⟩:=mh k2 ha hm (by rw [key]; exact Int.emod_lt_of_pos _ hpos)
   rw [j1,bind_some]
   refine ⟨r2,rfl,j2,?_⟩
   rw [j3,key,mul_emod,emod_emod,<- mul_emod]
  | false =>
   rw [if_neg (by simp),if_neg (by simp)]
   exact ⟨r1,rfl,k2,by rw [key,Int.mul_one]⟩)
end Go.Bx
namespace Go.Bx
open Go Go.Bx.Rg
theorem SH {M a x : Int} (hM : 1 < M /\ M < aM) (ha : 0 <= a /\ a < M) (hx : 0 <= x /\ x < aM) : nC.run (mk a) (mk x) (mk M) = some (mk (a ^ x.toNat % M),0,()):=by
 have hw : ∀ y ∈ [mk a],W4 y:=fun y hy=>by
  simp_all [df]
 have he : rL (mk M) [mk a] = 0:=by
  rw [show [mk a] = [a].map mk from rfl,Dm hM (fun x hx=>by simp only [List.mem_cons,List.not_mem_nil,or_false] at hx; subst hx; exact ha)]
 have hne : mk M ≠ [0,0,0,0]:=(df M).ne.2 (by rw [Rg.iI hM]; omega)
 unfold nC.run nC.top
 rw [vL (df M) (by simp) hw,bind_some,he,if_neg (by decide)]
 obtain ⟨q,r,d1,_,_,d4,d5,_,d7⟩:=iD Dp.1.1 Dp.1.2 (df M).1 (df M).2
 rw [if_neg hne,Dp.2] at d7
 obtain ⟨r1,e1,w1,v1⟩:=MD (df a) (df x) (df M) (by rw [xC hM ha,Rg.iI hM]; exact ha.2) ⟨d4,d5⟩ d7
 grind [mk_val,mk_eq]
theorem EZ {y : Int} (h : 0 <= y /\ y < aM) : (tmod ((mk y).getD 0 0) 2 == 1) = decide (y % 2 = 1):=by
 have g0 : (mk y).getD 0 0 = y % 18446744073709551616:=rfl
 grind
theorem Ry {n : Int} (h : 0 <= n /\ n < 18446744073709551616) : cF .u64 n 1 = n % 2:=by
 obtain ⟨X,rfl⟩:=Int.eq_ofNat_of_zero_le h.1
 have hX : X < 18446744073709551616:=by omega
 have:=jv (X:=X) (Y:=1) hX (by decide)
 rw [show ((1 : Nat) : Int) = 1 from rfl] at this
 rw [this,Nat.and_one_is_mod]
 push_cast; rfl
theorem HI {y : Int} (h : 0 <= y /\ y < aM) : (cF .u64 ((mk y).getD 0 0) 1 == 1) = decide (y % 2 = 1):=by
 have g0 : (mk y).getD 0 0 = y % 18446744073709551616:=rfl
 rw [g0,Ry ⟨Int.emod_nonneg _ (by decide),Int.emod_lt_of_pos _ (by decide)⟩,Bool.eq_iff_iff,beq_iff_eq,decide_eq_true_eq]; omega
theorem N1 (a b : Bool) : ax .bool a b = (a == b):=by cases a <;> cases b <;> rfl
theorem Ln {P : Int} (hM : 3 < P /\ P < aM) (h4 : P % 4 = 3) {α : Type} (K : List Int->Option α) :
  ((aw.run (mk P)).bind fun y3=>(aH.run y3 [1]).bind fun y4=>(aQ.run y4).bind fun y5=>(aF.run y5.1 (mk P)).bind fun y6=>(cj.run y5.1 [4,0,0,0]).bind fun y7 =>
   if (decide (y6 < 0)) = true then K [0,0,0,4611686018427387904] else K y7.1) = K (mk (P / 4 + 1)):=by
 have hP : 0 <= P /\ P < aM:=⟨by omega,hM.2⟩
 obtain ⟨o,e1,e2,e3,e4⟩:=fE (df P).1 (df P).2
 rw [mk_val hP] at e4
 obtain ⟨r,p1,p2,p3,p4⟩:=mK (b:=[1]) e3 (cU.2 ⟨by decide,gP⟩) (by omega) (by simp)
 rw [e4,show val bM [1] = 1 by simp [val]] at p4
 obtain ⟨w,f,w1,w2,w3,w4,_⟩:=jQ p3 (by rw [p2,e2]; simp)
 rw [p4] at w4
 have e4m : ([4,0,0,0] : List Int) = mk 4:=by decide
 obtain ⟨q,r2,_,q2,q3,q4,_,_,q7,_⟩:=oK w2 w3 (df 4).1 (df 4).2
 rw [if_neg (by decide),mk_val (by decide),w4] at q7
 rw [e1,bind_some,p1,bind_some,w1,bind_some]
 simp only []
 rw [Cr ⟨w2,w3⟩ (df P),bind_some,mk_val hP,w4,e4m,q2,bind_some]
 have hlim:=hM.2
 unfold aM at hlim
 by_cases hb : P + 1 = 115792089237316195423570985008687907853269984665640564039457584007913129639936
 ·rw [hb,show (115792089237316195423570985008687907853269984665640564039457584007913129639936 : Int) % 115792089237316195423570985008687907853269984665640564039457584007913129639936 = 0 from by decide]
  rw [if_pos (show (0 : Int) < P by omega),if_pos (by decide)]
  have hq : P / 4 + 1 = 28948022309329048855892746252171976963317496166410141009864396001978282409984:=by omega
  rw [hq]
  congr 1
 ·have hlt : (P + 1) % 115792089237316195423570985008687907853269984665640564039457584007913129639936 = P + 1:=Int.emod_eq_of_lt (by omega) (by omega)
  rw [hlt] at q7 ⊢
  rw [if_neg (show ¬ P + 1 < P by omega),if_pos (show P + 1 > P by omega),if_neg (by decide)]
  have : (P + 1) / 4 = P / 4 + 1:=by omega
  rw [this] at q7
  rw [mk_eq (⟨q3,q4⟩ : W4 q) q7]
theorem JB {P : Int} (hM : 3 < P /\ P < aM) : (∃ r e,bL.run (mk P) [4,0,0,0] = some (mk (P / 4),r,e,())) /\ (∃ o,fy.run (mk (P / 4)) [1,0,0,0] = some (mk (P / 4 + 1),o,())):=by
 have hP : 0 <= P /\ P < aM:=⟨by omega,hM.2⟩
 have hlim:=hM.2
 have hQ : 0 <= P / 4 /\ P / 4 < aM:=⟨by omega,by unfold aM at *; omega⟩
 have e4m : ([4,0,0,0] : List Int) = mk 4:=by decide
 have e1m : ([1,0,0,0] : List Int) = mk 1:=by decide
 obtain ⟨q,r,d1,d2,d3,_,_,d6,_⟩:=iD (df P).1 (df P).2 (df 4).1 (df 4).2
 rw [if_neg (by decide),mk_val hP,mk_val (show (0 : Int) <= 4 /\ 4 < aM by decide)] at d6
 obtain ⟨s,o,a1,a2,a3,a4,_⟩:=nF (df (P / 4)).1 (df 1).1 (df (P / 4)).2 (df 1).2
 rw [mk_val hQ,mk_val (show (0 : Int) <= 1 /\ 1 < aM by decide),Int.emod_eq_of_lt (by omega) (by unfold aM at *; omega)] at a4
 refine ⟨⟨r,(if mk 4 = [0,0,0,0] then 7 else 0),?_⟩,⟨o,?_⟩⟩
 ·rw [e4m,d1,mk_eq (⟨d2,d3⟩ : W4 q) d6]
 ·rw [e1m,a1,mk_eq (⟨a2,a3⟩ : W4 s) a4]
section
variable {P A B : Int} (hM : 1 < P /\ P < aM) (h4 : P % 4 = 3) (hA : 0 <= A /\ A < P) (hB : 0 <= B /\ B < P) (Nw : List Int) (bs : jA)
def n8 (P y : Int) : Int:=if y = 0 then 0 else P - y
theorem DA {P y : Int} (hP : 1 < P) (h : 0 <= y /\ y < P) : 0 <= n8 P y /\ n8 P y < P:=by
 grind [n8]
theorem L5 {P y : Int} (hP : 1 < P) (h : 0 <= y /\ y < P) : (-y) % P = n8 P y:=by
 unfold n8
 by_cases h0 : y = 0
 ·simp_all
 ·rw [if_neg h0,<- Int.add_emod_left,Int.emod_eq_of_lt (by omega) (by omega)]; omega
theorem Kl {P y : Int} (h4 : P % 4 = 3) (h : 0 <= y /\ y < P) (h0 : y ≠ 0) : n8 P y % 2 = 1 - y % 2:=by
 unfold n8; rw [if_neg h0]; omega
def qo (P A B x y : Int) (odd : Bool) : jA × Int × Unit :=
 let z:=if decide (y % 2 = 1) = odd then y else n8 P y
 if decide (z % 2 = 1) = odd /\ ye P A B x z false = true then ((mk x,mk z,false,()),0,()) else (zPt0,16,())
where zPt0 : jA:=([0,0,0,0],[0,0,0,0],false,())
include hM h4 hA hB
theorem K2 {x y : Int} (odd : Bool) (hx : 0 <= x /\ x < P) (hy : 0 <= y /\ y < P) (z : jA) (hz : z = ([0,0,0,0],[0,0,0,0],false,())) : ∀ N,3 < N->∀ K : Nat,
  cW.l0 K (fun x7 c6=>some (c6,x7,())) (fun c6=>cW.j1 (fun x7 c6=>some (c6,x7,())) c6) N odd 0 (mk P,mk A,mk B,Nw,bs,()) (mk x) z (mk y) = some (qo P A B x y odd):=by
 intro N hN K
 obtain ⟨n,rfl⟩ : ∃ n,N = n + 3:=⟨N - 3,by omega⟩
 have hW : ∀ {a : Int},(0 <= a /\ a < P)->(0 <= a /\ a < aM):=fun h=>⟨h.1,by omega⟩
 have on0:=fun y (hy : 0 <= y /\ y < P)=>(sf hM hA hB Nw bs false (hW hx) (hW hy)).2
 simp only [cW.l0,cW.bq]
 have w1 : IntKind.i64.wrap (0 + 1) = 1:=rfl
 have w2 : IntKind.i64.wrap (1 + 1) = 2:=rfl
 have hn:=DA hM.1 hy
 rw [w1,w2,show decide ((0 : Int) < 2) = true from rfl,show decide ((1 : Int) < 2) = true from rfl,show decide ((2 : Int) < 2) = false from rfl,HI (hW hy),N1,on0 y hy,iW hM hy,L5 hM.1 hy]
 simp only [if_true,false_eq_true,if_false,bind_some,HI (hW hn),N1,on0 _ hn,iW hM hn]
 unfold cW.j1 qo qo.zPt0
 simp only []
 by_cases ho : decide (y % 2 = 1) = odd
 ·have hb : (decide (y % 2 = 1) == odd) = true:=by simpa using ho
  rw [hb]
  simp only [BEq.rfl,if_true,bind_some,cond_true,ho,true_and]
  cases hon : ye P A B x y false with
  | true=>rfl
  | false =>
   simp only [false_eq_true,if_false]
   by_cases h0 : y = 0
   ·have hne : n8 P y = y:=by unfold n8; rw [if_pos h0]; exact h0.symm
    rw [hne,hb]
    simp only [BEq.rfl,if_true,bind_some,cond_true,hon,false_eq_true,if_false]
    try (subst hz; rfl)
   ·have hp:=Kl h4 hy h0
    have hb2 : (decide (n8 P y % 2 = 1) == odd) = false:=by
     rw [<- ho,hp,beq_eq_false_iff_ne,ne_eq,decide_eq_decide]; omega
    rw [hb2]
    simp only [show (false == true) = false from rfl,false_eq_true,if_false,bind_some,cond_false]
    try (subst hz; rfl)
 ·have hb : (decide (y % 2 = 1) == odd) = false:=by simpa using ho
  rw [hb]
  simp only [show (false == true) = false from rfl,false_eq_true,if_false,bind_some,cond_false,ho]
  by_cases hz2 : decide (n8 P y % 2 = 1) = odd
  ·have hb2 : (decide (n8 P y % 2 = 1) == odd) = true:=by simpa using hz2
   rw [hb2]
   simp only [BEq.rfl,if_true,bind_some,cond_true,hz2,true_and]
   cases ye P A B x (n8 P y) false with
   | true=>rfl
   | false=>subst hz; rfl
  ·have hb2 : (decide (n8 P y % 2 = 1) == odd) = false:=by simpa using hz2
   rw [hb2]
   simp only [show (false == true) = false from rfl,false_eq_true,if_false,bind_some,cond_false,hz2,false_and]
   try (subst hz; rfl)
theorem Jh {x y : Int} (odd : Bool) (hx : 0 <= x /\ x < P) (hy : 0 <= y /\ y < P) :
  (if (not (ax .bool ((tmod (List.getD (mk y) 0 0) 2) == 1) odd)) = true then
    if (not (ax (.arr 4 (.int .u64)) (mk y) [0,0,0,0])) = true then
     (fO.run (mk P) (mk y)).bind fun y9 =>
     ig.j0 (fun x7 c6=>some (c6,x7,())) odd (mk P,mk A,mk B,Nw,bs,()) (mk x) ([0,0,0,0],[0,0,0,0],false,()) y9.1
    else
     ig.j0 (fun x7 c6=>some (c6,x7,())) odd (mk P,mk A,mk B,Nw,bs,()) (mk x) ([0,0,0,0],[0,0,0,0],false,()) (mk y)
   else
    ig.j0 (fun x7 c6=>some (c6,x7,())) odd (mk P,mk A,mk B,Nw,bs,()) (mk x) ([0,0,0,0],[0,0,0,0],false,()) (mk y)) = some (qo P A B x y odd):=by
 have hW : ∀ {a : Int},(0 <= a /\ a < P)->(0 <= a /\ a < aM):=fun h=>⟨h.1,by omega⟩
 have on0:=fun y (hy : 0 <= y /\ y < P)=>(sf hM hA hB Nw bs false (hW hx) (hW hy)).1
 have hj : ∀ z,0 <= z /\ z < P->ig.j0 (fun x7 c6=>some (c6,x7,())) odd (mk P,mk A,mk B,Nw,bs,()) (mk x) ([0,0,0,0],[0,0,0,0],false,()) (mk z) =
   some (if decide (z % 2 = 1) = odd /\ ye P A B x z false = true then ((mk x,mk z,false,()),0,()) else (([0,0,0,0],[0,0,0,0],false,()),16,())):=fun z hz=>by
  unfold ig.j0
  rw [EZ (hW hz),N1,on0 z hz]
  by_cases ho : decide (z % 2 = 1) = odd
  ·have hb : (decide (z % 2 = 1) == odd) = true:=by simpa using ho
   rw [hb]
   simp only [Bool.not_true,BEq.rfl,if_true,bind_some,cond_false,ho,true_and]
   cases ye P A B x z false <;> rfl
  ·have hb : (decide (z % 2 = 1) == odd) = false:=by simpa using ho
   rw [hb]
   simp only [Bool.not_false,show (true == false) = false from rfl,false_eq_true,if_false,bind_some,cond_true,if_true,ho,false_and]
 have hn:=DA hM.1 hy
 rw [EZ (hW hy),N1,Hj hM hy,hj y hy]
 unfold qo qo.zPt0
 by_cases ho : decide (y % 2 = 1) = odd
 ·have hb : (decide (y % 2 = 1) == odd) = true:=by simpa using ho
  rw [hb]
  simp only [Bool.not_true,false_eq_true,if_false,ho,if_true]
 ·have hb : (decide (y % 2 = 1) == odd) = false:=by simpa using ho
  rw [hb]
  simp only [Bool.not_false,if_true,ho,if_false]
  by_cases h0 : y = 0
  ·have hne : n8 P y = y:=by unfold n8; rw [if_pos h0]; exact h0.symm
   rw [hne]
   rw [show decide (y = 0) = true from decide_eq_true h0]
   simp only [Bool.not_true,false_eq_true,if_false,ho,false_and]
  ·simp only [h0,decide_false,Bool.not_false,if_true]
   obtain ⟨r,o,s1,s2,s3,s4,_⟩:=qY (df P).1 (df y).1 (df P).2 (df y).2
   rw [Rg.iI hM,xC hM hy,Int.emod_eq_of_lt (by omega) (by omega)] at s4
   rw [s1,bind_some,mk_eq (⟨s2,s3⟩ : W4 r) s4]
   have : P - y = n8 P y:=by unfold n8; rw [if_neg h0]
   simp only [this]
   exact hj _ hn
end
theorem N5 {P A B X Y : Int} (hM : 1 < P /\ P < aM) (odd : Bool) (hX : 0 <= X /\ X < P) (hY : 0 <= Y /\ Y < P) (h : (qo P A B X Y odd).2.1 = 0) : ji P (qo P A B X Y odd).1 /\ rj P A B (qo P A B X Y odd).1:=by
 have hz : 0 <= (if decide (Y % 2 = 1) = odd then Y else n8 P Y) /\ (if decide (Y % 2 = 1) = odd then Y else n8 P Y) < P:=by
  split
  ·exact hY
  ·exact DA hM.1 hY
 unfold qo at h ⊢
 generalize (if decide (Y % 2 = 1) = odd then Y else n8 P Y) = Z at *
 simp only [] at h ⊢
 by_cases hc : decide (Z % 2 = 1) = odd /\ ye P A B X Z false = true
 ·rw [if_pos hc]
  refine ⟨⟨X,Z,false,rfl,hX,hz⟩,?_⟩
  grind [mk_val,rj]
 grind
theorem Jv {P A B N x y X : Int} {f : Bool} (odd : Bool) (b1 : 0 <= P /\ P < aM) (b2 : 0 <= A /\ A < aM) (b3 : 0 <= B /\ B < aM) (b4 : 0 <= N /\ N < aM) (b5 : 0 <= x /\ x < aM) (b6 : 0 <= y /\ y < aM) (h0 : lN P A B N x y f = 0) (bX : 0 <= X /\ X < aM) :
  ∃ (s : jA) (e : Int),ig.run (mk P,mk A,mk B,mk N,(mk x,mk y,f,()),()) (mk X) odd = some (s,e,()) /\ cW.run (mk P,mk A,mk B,mk N,(mk x,mk y,f,()),()) (mk X) odd = some (s,e,()) /\ (e = 0->ji P s /\ rj P A B s):=by
 obtain ⟨e1,e2⟩:=nO f b1 b2 b3 b4 b5 b6
 unfold ig.run ig.top cW.run cW.top
 rw [e1,e2]
 simp only [bind_some,AJ bX b1,oA bX b1,xx]
 obtain ⟨g1,g2,g3,g4⟩:=rQ h0
 have hM : 1 < P /\ P < aM:=⟨by omega,b1.2⟩
 have m:=wO hM
 rw [h0]
 simp only [show ((0 : Int) != 0) = false from rfl,false_eq_true,if_false]
 by_cases hlt : X < P
 ·have hX : 0 <= X /\ X < P:=⟨bX.1,hlt⟩
  simp only [hlt,decide_true,Bool.not_true,false_eq_true,if_false]
  rw [Ln ⟨g1,b1.2⟩ g2]
  unfold bZ.run bZ.top
  rw [bind_some]
  obtain ⟨⟨hr,he,hd1⟩,⟨ho1,hd2⟩⟩:=JB ⟨g1,b1.2⟩
  rw [hd1,bind_some]
  simp only []
  rw [hd2,bind_some]
  simp only []
  have hq : 0 <= P / 4 + 1 /\ P / 4 + 1 < aM:=⟨by omega,by omega⟩
  have hA' : 0 <= A /\ A < P:=⟨b2.1,g3⟩
  have hB' : 0 <= B /\ B < P:=⟨b3.1,g4⟩
  rw [OW hM hA' hB' _ _ _ hX,bind_some]
  simp only []
  rw [SH hM (m _) hq,bind_some]
  simp only []
  unfold bP.run bP.top bP.j0
  rw [if_neg (by decide),bind_some]
  simp only []
  rw [Jh hM g2 hA' hB' _ _ odd hX (m _)]
  unfold cW.j0
  rw [Ml hM hA' hB' _ _ hX,bind_some]
  simp only []
  rw [GO hM (m _) hq,bind_some,K2 hM g2 hA' hB' _ _ odd hX (m _) _ rfl fuel (by rw [au]; omega) fuel]
  exact ⟨(qo P A B X _ odd).1,(qo P A B X _ odd).2.1,rfl,rfl,N5 hM odd hX (m _)⟩
 ·simp only [hlt,decide_false,Bool.not_false,if_true]
  exact ⟨_,_,rfl,rfl,fun h=>absurd h (by decide)⟩
def AE (D N : Int) : Bool:=!decide (D = 0) && decide (D < N)
theorem xe {D N : Int} (P A B : List Int) (q : jA) (hD : 0 <= D /\ D < aM) (hN : 0 <= N /\ N < aM) : jV.run (P,A,B,mk N,q,()) (mk D) = some (AE D N) /\ dS.run (P,A,B,mk N,q,()) (mk D) = some (AE D N):=by
 constructor
 ·unfold jV.run jV.top AE
  simp only []
  rw [HR hD,AJ hD hN]
  by_cases h : D = 0
  ·subst h; simp
  simp_all [vE]
 ·unfold dS.run dS.top AE aB.run aB.top
  simp only []
  rw [bind_some,HR hD,oA hD hN]
  by_cases h : D = 0
  ·subst h; simp
  simp_all [vE]
end Go.Bx
namespace Go.Bx.Rg
open Go Go.Bx
section
variable {M : Int} (hM : 1 < M /\ M < aM)
include hM
theorem Ts {a : Int} (ha : 0 <= a /\ a < aM) : ∃ e,bL.run (mk a) (mk M) = some (mk (a / M),mk (a % M),e,()):=by
 have hw:=df M
 obtain ⟨q,r,e1,l1,l2,l3,l4,v1,v2⟩:=iD (df a).1 (df a).2 hw.1 hw.2
 have hne : mk M ≠ [0,0,0,0]:=hw.ne.2 (by rw [iI hM]; omega)
 rw [if_neg hne,mk_val ha,iI hM] at v1 v2
 exact ⟨_,by rw [e1,mk_eq ⟨l1,l2⟩ v1,mk_eq ⟨l3,l4⟩ v2]⟩
theorem RU {a : Int} (ha : 0 <= a /\ a < aM) : nk.run (mk a) (mk M) = some (mk (a % M)):=by
 obtain ⟨e,h⟩:=Ts hM ha
 unfold nk.run nk.top
 rw [h]; rfl
theorem Q7 {d : List Int} (hd : aN bM d) (hl : d.length <= 1000) : bN.run d (mk M) = some (mk (val bM d % M)):=by
 obtain ⟨r,e1,w,v⟩:=o7 hd hl (df M) (by rw [iI hM]; omega)
 grind [iI,mk_eq]
theorem Uh {a : Int} (ha : 0 <= a /\ a < aM) {α : Type} (K : List Int->Option α) : ((aw.run (mk a)).bind fun y=>(bN.run y (mk M)).bind K) = K (mk (a % M)):=by
 obtain ⟨o,e1,l,d,v⟩:=fE (df a).1 (df a).2
 grind [Q7,mk_val]
theorem Sk {a : Int} (ha : 0 <= a /\ a < M) (P A B : List Int) (q : jA) : pj.run (P,A,B,mk M,q,()) (mk a) = some (decide (2 * a <= M)):=by
 have hw:=df M
 unfold pj.run pj.top
 simp only []
 obtain ⟨q',r,e1,l1,l2,l3,l4,v1,v2⟩:=iD hw.1 hw.2 (df 2).1 (df 2).2
 have h2 : (mk 2 : List Int) = [2,0,0,0]:=by decide
 rw [h2] at e1 v1
 rw [if_neg (by decide),iI hM] at v1
 rw [show val ah [2,0,0,0] = 2 by decide] at v1
 rw [e1,bind_some]
 simp only []
 rw [mk_eq ⟨l1,l2⟩ v1,AJ ⟨ha.1,by omega⟩ ⟨by omega,by omega⟩,bind_some,yL]
 congr 1
 grind
theorem TF {a : Int} (ha : 0 <= a /\ a < M) : ∃ (x e : Int) (ok : Bool) (y : List Int),gH.run (mk a) (mk M) = some (mk x,e,()) /\ dD.run (mk a) (mk M) = some (y,ok,()) /\ (ok = true->e = 0 /\ y = mk x /\ 0 <= x /\ x < M) /\ (ok = false->e = 5):=by
 have hlt : val ah (mk a) < val ah (mk M):=by rw [xC hM ha,iI hM]; exact ha.2
 have he : rL (mk M) [mk a] = 0:=by
  rw [show [mk a] = [a].map mk from rfl,Dm hM (fun x hx=>by simp only [List.mem_cons,List.not_mem_nil,or_false] at hx; subst hx; exact ha)]
 obtain ⟨x,e,e1,e2,e3,e4⟩:=B2 (df a) (df M) hlt he
 have:=fun N (hN : 512 < N)=>qM 512 N (mk a) (mk M) hN (df a) (df M) hlt (CQ (df M).bound (df a).bound)
 obtain ⟨y,ok,f1,f2,f3,f4⟩:=this fuel (by rw [au]; omega)
 by_cases hg : Nat.gcd (val ah (mk a)).toNat (val ah (mk M)).toNat = 1
 ·obtain ⟨rfl,l1,c1⟩:=e3 hg
  obtain ⟨rfl,l2,c2⟩:=f3 hg
  have hxy:=inv_one ⟨e2.bound.1,l1⟩ ⟨f2.bound.1,l2⟩ c1 c2
  rw [iI hM] at l1
  exact ⟨val ah x,0,true,y,by rw [<- oc e2]; exact e1,f1,fun _=>⟨rfl,by rw [hxy]; exact oc f2,e2.bound.1,l1⟩,fun h=>absurd h (by decide)⟩
 ·obtain ⟨rfl,rfl⟩:=e4 hg
  have:=f4 hg
  subst this
  exact ⟨0,5,false,y,by rw [mk_zero]; exact e1,f1,fun h=>absurd h (by decide),fun _=>rfl⟩
end
end Go.Bx.Rg
namespace Go.Bx
open Go Go.Bx.Rg
def Bq (R S N o : Int) : Bool:=AE R N && AE S N && decide (2 * S <= N) && decide (0 <= o) && decide (o <= 3)
theorem MF {R S N o : Int} (hR : 0 <= R) (hS : 0 <= S) (h : Bq R S N o = true) : (0 < R /\ R < N) /\ (0 < S /\ S < N) /\ 0 <= o /\ o <= 3:=by
 unfold Bq AE at h
 grind
theorem EC {R S N o : Int} (P A B : List Int) (q : jA) (hN : 1 < N /\ N < aM) (hR : 0 <= R /\ R < aM) (hS : 0 <= S /\ S < aM) :
  kY.run (P,A,B,mk N,q,()) (mk R,mk S,o,()) = some (Bq R S N o) /\ fw.run (P,A,B,mk N,q,()) (mk R,mk S,o,()) = some (Bq R S N o):=by
 obtain ⟨r1,r2⟩:=xe P A B q hR (show 0 <= N /\ N < aM by omega)
 obtain ⟨s1,s2⟩:=xe P A B q hS (show 0 <= N /\ N < aM by omega)
 have hlt : (decide (o < 4)) = decide (o <= 3):=by rw [Bool.eq_iff_iff,decide_eq_true_eq,decide_eq_true_eq]; omega
 have hge : (decide (o >= 0)) = decide (0 <= o):=rfl
 unfold kY.run kY.top fw.run fw.top Bq
 simp only []
 rw [r1,r2,s1,s2,hlt,hge]
 cases AE R N with
 | false=>exact ⟨rfl,rfl⟩
 | true =>
  simp only [bind_some,BEq.rfl,if_true,cond_true,Bool.true_and]
  cases hs : AE S N with
  | false=>exact ⟨rfl,rfl⟩
  | true =>
   have hS' : 0 <= S /\ S < N /\ S ≠ 0:=by
    simp_all [AE]
   simp only [BEq.rfl,if_true,cond_true,Bool.true_and]
   rw [Sk hN ⟨hS'.1,hS'.2.1⟩,iW hN ⟨hS'.1,hS'.2.1⟩]
   simp only [bind_some]
   have hneg : (-S) % N = N - S:=by rw [emod_neg (by omega) (by omega),if_pos (by omega)]; omega
   rw [hneg,oA hS ⟨by omega,by omega⟩,bind_some,yL]
   have : (!decide (S > N - S)) = decide (2 * S <= N):=by
    grind
   rw [this]
   cases decide (2 * S <= N) <;> cases decide (0 <= o) <;> cases decide (o <= 3) <;> exact ⟨rfl,rfl⟩
end Go.Bx
namespace Go.Bx
open Go
theorem P9 {y : List Int} (hy : y.length = 32) (ho : ∀ b ∈ y,0 <= b /\ b < 256) : ia.run y = some (mk (val ah (wid y))) /\ cS.run y = some (mk (val ah (wid y))) /\ (0 <= val ah (wid y) /\ val ah (wid y) < aM):=by
 obtain ⟨h1,h2⟩:=pe y hy ho
 have w : W4 (wid y):=lx y hy ho
 rw [<- oc w]
 exact ⟨h1,h2,w.bound⟩
end Go.Bx
namespace Go.Bx
open Go Go.Bx.Rg
theorem BW {o : Int} (h : 0 <= o /\ o <= 3) : (tmod o 2 == 1) = ((cF .i64 o 1) == 1) /\ decide (o > 1) = decide (o >= 2):=by
 obtain rfl | rfl | rfl | rfl : o = 0 \/ o = 1 \/ o = 2 \/ o = 3:=by omega
 all_goals decide
section
variable {P A B N x y R S o : Int} {f : Bool} {h : List Int} (b1 : 0 <= P /\ P < aM) (b2 : 0 <= A /\ A < aM) (b3 : 0 <= B /\ B < aM) (b4 : 0 <= N /\ N < aM) (b5 : 0 <= x /\ x < aM) (b6 : 0 <= y /\ y < aM) (h0 : lN P A B N x y f = 0)
 (kR : 0 < R /\ R < N) (kS : 0 < S /\ S < N) (ko : 0 <= o /\ o <= 3) (hh : h.length = 32) (ho : ∀ b ∈ h,0 <= b /\ b < 256)
include b1 b2 b3 b4 b5 b6 h0 kR kS ko hh ho
theorem ua {T : Int} (hT : 0 <= T /\ T < aM) (over : Bool) {d : List Int} (hd : aQ.run d = some (mk T,over,())) :
  ∃ (s : jA) (e : Int),iG.j0 (fun x7 c6=>some (c6,x7,())) over (mk P,mk A,mk B,mk N,(mk x,mk y,f,()),()) h (mk R,mk S,o,()) Ht (mk T) = some (s,e,()) /\
   dR.j0 (fun x7 c6=>some (c6,x7,())) d (mk P,mk A,mk B,mk N,(mk x,mk y,f,()),()) h (mk R,mk S,o,()) Ht = some (s,e,()) /\ R4 s:=by
 obtain ⟨g1,g2,g3,g4⟩:=rQ h0
 obtain ⟨o1,of,oN⟩:=B4 h0
 have hM : 1 < P /\ P < aM:=⟨by omega,b1.2⟩
 have hN : 1 < N /\ N < aM:=⟨oN,b4.2⟩
 have mN:=wO hN
 have kR' : 0 <= R /\ R < N:=⟨by omega,kR.2⟩
 have kS' : 0 <= S /\ S < N:=⟨by omega,kS.2⟩
 unfold iG.j0 dR.j0
 rw [hd]
 simp only [bind_some]
 cases over with
 | true=>exact ⟨_,_,rfl,rfl,wG⟩
 | false =>
  simp only [BEq.rfl,if_true,cond_false]
  rw [AJ hT b1,oA hT b1]
  simp only [bind_some]
  cases decide (sg T P >= 0) with
  | true=>exact ⟨_,_,rfl,rfl,wG⟩
  | false =>
   simp only [false_eq_true,if_false]
   obtain ⟨p,e,l1,l2,l3⟩:=Jv ((cF .i64 o 1) == 1) b1 b2 b3 b4 b5 b6 h0 hT
   rw [(BW ko).1,l1,l2]
   simp only [bind_some]
   by_cases he : e = 0
   ·subst he
    obtain ⟨pp,vp⟩:=l3 rfl
    obtain ⟨v,e,ok,w,i1,i2,i3,i4⟩:=TF hN kR'
    simp only [bne_self_eq_false,false_eq_true,if_false]
    rw [i1,i2]
    simp only [bind_some]
    cases ok with
    | false=>rw [i4 rfl]; exact ⟨_,_,rfl,rfl,wG⟩
    | true =>
     obtain ⟨rfl,rfl,hv⟩:=i3 rfl
     simp only [bne_self_eq_false,false_eq_true,if_false,Bool.not_true]
     obtain ⟨w1,w2,wb⟩:=P9 hh ho
     rw [KJ hN kS' hv,bind_some,jZ hN kS' hv,bind_some,w1,bind_some,w2,bind_some,RU hN wb,bind_some,Uh hN wb,KJ hN (mN _) hv,bind_some,jZ hN (mN _) hv,bind_some]
     simp only []
     have hz : km.run [0,0,0,0] (mk (val ah (wid h) % N * v % N)) (mk N) = some (mk ((-(val ah (wid h) % N * v % N)) % N),0,()):=by
      grind [mk_zero,Pd]
     rw [hz,bind_some,iW hN (mN _),bind_some]
     simp only []
     have pb : ji P ((mk x,mk y,f,()) : jA):=O8 hM o1 b5 b6
     have vb : rj P A B ((mk x,mk y,f,()) : jA):=by
      grind [mk_val,rj]
     obtain ⟨s,t,e,ok,s1,s2,s3,s4⟩:=JK b1 b2 b3 b4 b5 b6 h0 (u:=S * v % N) (v:=(-(val ah (wid h) % N * v % N)) % N) pp pb vp vb
     rw [s1,s2]
     simp only [bind_some]
     cases ok with
     | false=>rw [s4 rfl]; exact ⟨_,_,rfl,rfl,wG⟩
     | true =>
      obtain ⟨rfl,rfl,hs,_⟩:=s3 rfl
      simp only [bne_self_eq_false,false_eq_true,if_false,Bool.not_true]
      cases t.2.2.1 with
      | true=>exact ⟨_,_,rfl,rfl,wG⟩
      | false=>exact ⟨_,_,rfl,rfl,Pz hs⟩
   ·rw [if_pos (by simpa using he),if_pos (by simpa using he)]
    exact ⟨_,_,rfl,rfl,wG⟩
end
theorem DF {P A B N x y R S o : Int} {f : Bool} {h : List Int} (b1 : 0 <= P /\ P < aM) (b2 : 0 <= A /\ A < aM) (b3 : 0 <= B /\ B < aM) (b4 : 0 <= N /\ N < aM) (b5 : 0 <= x /\ x < aM) (b6 : 0 <= y /\ y < aM)
  (hR : 0 <= R /\ R < aM) (hS : 0 <= S /\ S < aM) (hh : h.length = 32) (ho : ∀ b ∈ h,0 <= b /\ b < 256) :
  ∃ (s : jA) (e : Int),iG.run (mk P,mk A,mk B,mk N,(mk x,mk y,f,()),()) h (mk R,mk S,o,()) = some (s,e,()) /\ dR.run (mk P,mk A,mk B,mk N,(mk x,mk y,f,()),()) h (mk R,mk S,o,()) = some (s,e,()) /\ R4 s:=by
 obtain ⟨e1,e2⟩:=nO f b1 b2 b3 b4 b5 b6
 unfold iG.run iG.top dR.run dR.top
 rw [e1,e2]
 simp only [bind_some]
 rcases Ca P A B N x y f with h0 | h0
 ·obtain ⟨o1,of,oN⟩:=B4 h0
  have hN : 1 < N /\ N < aM:=⟨oN,b4.2⟩
  obtain ⟨m1,m2⟩:=EC (o:=o) (mk P) (mk A) (mk B) (mk x,mk y,f,()) hN hR hS
  rw [h0,m1,m2]
  simp only [bind_some,bne_self_eq_false,false_eq_true,if_false]
  cases hf : Bq R S N o with
  | false=>exact ⟨_,_,rfl,rfl,wG⟩
  | true =>
   simp only [Bool.not_true,false_eq_true,if_false]
   obtain ⟨kR,kS,ko⟩:=MF hR.1 hS.1 hf
   obtain ⟨d1,r1,r2,r3,r4⟩:=fE (df R).1 (df R).2
   obtain ⟨d2,t1,t2,t3,t4⟩:=fE (df N).1 (df N).2
   rw [mk_val hR] at r4
   rw [mk_val b4] at t4
   rw [r1,(BW ko).2]
   simp only [bind_some]
   cases decide (o >= 2) with
   | true =>
    simp only [if_true]
    rw [t1,bind_some]
    obtain ⟨d3,u1,u2,u3,u4⟩:=mK r3 t3 (by omega) (by omega)
    rw [u1,bind_some]
    obtain ⟨w,g,v1,v2,v3,v4,v5⟩:=jQ u3 (by rw [u2]; omega)
    obtain ⟨w',g',a1,a2,a3,a4,a5⟩:=nF (df R).1 (df N).1 (df R).2 (df N).2
    rw [mk_val hR,mk_val b4] at a4 a5
    rw [u4,r4,t4] at v4 v5
    have hg : g = g':=by
     grind
    have hT : 0 <= (R + N) % aM /\ (R + N) % aM < aM:=⟨Int.emod_nonneg _ (by decide),Int.emod_lt_of_pos _ (by decide)⟩
    rw [mk_eq ⟨v2,v3⟩ v4] at v1
    rw [a1,bind_some,mk_eq ⟨a2,a3⟩ a4,<- hg]
    exact ua b1 b2 b3 b4 b5 b6 h0 kR kS ko hh ho hT g v1
   | false =>
    simp only [false_eq_true,if_false]
    obtain ⟨w,g,v1,v2,v3,v4,v5⟩:=jQ r3 (by omega)
    rw [r4] at v4 v5
    have hg : g = false:=by
     grind
    have hv : val ah w = R:=by rw [v4]; exact Int.emod_eq_of_lt hR.1 hR.2
    rw [mk_eq ⟨v2,v3⟩ hv,hg] at v1
    exact ua b1 b2 b3 b4 b5 b6 h0 kR kS ko hh ho hR false v1
 ·rw [h0]; exact ⟨_,_,rfl,rfl,wG⟩
end Go.Bx
