/- A part of a framework that reads Go code as functions of plain data; or a law about such functions. -/
import Derived.Test.YtbkkahkikjifkaaDoorLawCurveAdd
import Derived.Test.YtbkkahkikjifkaaDoorLawCurveNum
import Derived.Test.YtbkkahkikjifkaaDoorLawAt
import Derived.Test.YtbkkahkikjifkaaDoorFnSignMakes1
namespace Go.Bx
open Go Go.Bx.Rg
set_option linter.unusedSimpArgs false
set_option linter.unusedVariables false
def addR (c : CvD) (p q : PtD) : PtD × Bool := match curve_add.run c p q with
 | some (s, ok, _) => (s, ok)
 | none => (zPt, false)
def bitK (k : List Int) (i : Nat) : Bool := (k.getD (i / 64) 0).toNat.testBit (i % 64)
def stepM (c : CvD) (k : List Int) (p : PtD) (i : Nat) (o : PtD) : Option PtD :=
 if (addR c o o).2 = true then
  if bitK k i = true then (if (addR c (addR c o o).1 p).2 = true then some (addR c (addR c o o).1 p).1 else none) else some (addR c o o).1
 else none
def runM (c : CvD) (k : List Int) (p : PtD) : Nat -> Nat -> PtD -> Option PtD
 | 0, _, o => some o
 | d + 1, b, o => (stepM c k p (b + d) o).bind (runM c k p d b)
theorem runM_split (c : CvD) (k : List Int) (p : PtD) (a b : Nat) : ∀ (d : Nat) (o : PtD), runM c k p (a + d) b o = (runM c k p d (b + a) o).bind (runM c k p a b)
 | 0, o => rfl
 | d + 1, o => by
  show (stepM c k p (b + (a + d)) o).bind (runM c k p (a + d) b) = ((stepM c k p (b + a + d) o).bind (runM c k p d (b + a))).bind (runM c k p a b)
  rw [show b + (a + d) = b + a + d by omega]
  cases stepM c k p (b + a + d) o with
  | none => rfl
  | some s => exact runM_split c k p a b d s
section
variable {P A B : Int} (hP : 1 < P /\ P < M256) (hA : 0 <= A /\ A < P) (Nw : List Int) (bs : PtD)
include hP hA
theorem addR_run {p q : PtD} (hp : PtOk P p) (hq : PtOk P q) : curve_add.run (mk P, mk A, mk B, Nw, bs, ()) p q = some ((addR (mk P, mk A, mk B, Nw, bs, ()) p q).1, (addR (mk P, mk A, mk B, Nw, bs, ()) p q).2, ()) /\
  basculeref_together.run (mk P, mk A, mk B, Nw, bs, ()) p q = some ((addR (mk P, mk A, mk B, Nw, bs, ()) p q).1, (addR (mk P, mk A, mk B, Nw, bs, ()) p q).2, ()) /\ PtOk P (addR (mk P, mk A, mk B, Nw, bs, ()) p q).1 := by
 obtain ⟨s, ok, t1, t2, t3, _⟩ := add_both hP hA (B := B) Nw bs hp hq
 unfold addR
 rw [t1, t2]
 exact ⟨rfl, rfl, t3⟩
theorem step_ok {k : List Int} {p o s : PtD} (hp : PtOk P p) (ho : PtOk P o) (i : Nat) (h : stepM (mk P, mk A, mk B, Nw, bs, ()) k p i o = some s) : PtOk P s := by
 obtain ⟨_, _, t3⟩ := addR_run hP hA (B := B) Nw bs ho ho
 obtain ⟨_, _, t4⟩ := addR_run hP hA (B := B) Nw bs t3 hp
 unfold stepM at h
 split at h
 ·split at h
  ·split at h
   ·cases h; exact t4
   ·cases h
  ·cases h; exact t3
 ·cases h
theorem mult_loop {α : Type} (Xt : Bool -> PtD -> PtD -> Option α) (K : Nat) (k : List Int) (hk : W4 k) (p z : PtD) (hp : PtOk P p) : ∀ (d n : Nat) (o : PtD), d < n -> d <= 256 -> PtOk P o ->
  ∃ ok r, curve_Mult.l0 K Xt n true ((d : Int) - 1) (mk P, mk A, mk B, Nw, bs, ()) k p z o = Xt ok z r /\ (∀ s, runM (mk P, mk A, mk B, Nw, bs, ()) k p d 0 o = some s -> ok = true /\ r = s) /\ (runM (mk P, mk A, mk B, Nw, bs, ()) k p d 0 o = none -> ok = false)
 | d, 0, o, h, _, _ => by omega
 | 0, n + 1, o, h, _, ho => by
  simp only [curve_Mult.l0, curve_Mult.l0s]
  rw [show decide (((0 : Nat) : Int) - 1 >= 0) = false from rfl, cond_false, if_neg (by decide)]
  exact ⟨true, o, rfl, fun s hs => by cases hs; exact ⟨rfl, rfl⟩, fun hn => by cases hn⟩
 | d + 1, n + 1, o, h, hd, ho => by
  obtain ⟨t1, _, t3⟩ := addR_run hP hA (B := B) Nw bs ho ho
  obtain ⟨t4, _, t6⟩ := addR_run hP hA (B := B) Nw bs t3 hp
  simp only [curve_Mult.l0, curve_Mult.l0s]
  have e0 : ((d + 1 : Nat) : Int) - 1 = (d : Int) := by omega
  rw [e0, show decide ((d : Int) >= 0) = true by rw [decide_eq_true_eq]; omega, cond_true, if_pos rfl, t1, Option.bind_some]
  have e1 : IntKind.i64.wrap (Int.tdiv (d : Int) 64) = ((d / 64 : Nat) : Int) := i64_tdiv (x := d) (c := 64) (by omega)
  have e2 : Int.tmod (d : Int) 64 = ((d % 64 : Nat) : Int) := tmod_nat d 64
  have e3 : decide (0 <= ((d / 64 : Nat) : Int) /\ ((d / 64 : Nat) : Int) < 4) = true := by rw [decide_eq_true_eq]; omega
  have e4 : decide (0 <= ((d % 64 : Nat) : Int)) = true := by rw [decide_eq_true_eq]; omega
  have hw := digs_getD B64_pos hk.2 (d / 64)
  have hbit : (band .u64 (shrI .u64 (k.getD (d / 64) 0) ((d % 64 : Nat) : Int)) 1 == 1) = bitK k d := by
   unfold bitK
   obtain ⟨X, hX⟩ := Int.eq_ofNat_of_zero_le hw.1
   have hX2 : X < 18446744073709551616 := by have := hw.2; unfold B64 at this; omega
   rw [hX, shr_nat (Nat.mod_lt _ (by decide))]
   have := band_nat (X := X >>> (d % 64)) (Y := 1) (Nat.lt_of_le_of_lt (Nat.shiftRight_le _ _) hX2) (by decide)
   rw [show ((1 : Nat) : Int) = 1 from rfl] at this
   rw [this, show ((X : Nat) : Int).toNat = X from rfl, <- shr_and_one]
   rw [Bool.eq_iff_iff, beq_iff_eq, beq_iff_eq]; omega
  simp only [e1, e2, e3, e4, Bool.true_or, cond_true, toNat_nat, hbit, cond_and]
  unfold runM
  rw [Nat.zero_add]
  have ih := fun o ho => mult_loop Xt K k hk p z hp d n o (by omega) (by omega) ho
  have stop : ∀ o, ∃ r, curve_Mult.l0 K Xt n false ((d : Int) - 1) (mk P, mk A, mk B, Nw, bs, ()) k p z o = Xt false z r := fun o => by
   obtain ⟨n, rfl⟩ : ∃ m, n = m + 1 := ⟨n - 1, by omega⟩
   simp only [curve_Mult.l0, curve_Mult.l0s]
   rw [if_neg (by cases decide ((d : Int) - 1 >= 0) <;> decide)]
   exact ⟨o, rfl⟩
  unfold curve_Mult.j0
  rw [wrap_i64 (x := (d : Int) - 1) (by omega) (by omega)]
  unfold stepM
  cases hk1 : (addR (mk P, mk A, mk B, Nw, bs, ()) o o).2 with
  | false =>
   simp only [Bool.false_and, Bool.false_eq_true, if_false, Option.bind_none]
   obtain ⟨r, hr⟩ := stop (addR (mk P, mk A, mk B, Nw, bs, ()) o o).1
   refine ⟨false, r, hr, ?_, ?_⟩
   ·intro s hs; cases hs
   ·intro _; rfl
  | true =>
   simp only [Bool.true_and, if_true]
   cases hb : bitK k d with
   | false =>
    simp only [Bool.false_eq_true, if_false, Option.bind_some]
    exact ih _ t3
   | true =>
    simp only [if_true, t4, Option.bind_some]
    cases hk2 : (addR (mk P, mk A, mk B, Nw, bs, ()) (addR (mk P, mk A, mk B, Nw, bs, ()) o o).1 p).2 with
    | false =>
     simp only [Bool.false_eq_true, if_false, Option.bind_none]
     obtain ⟨r, hr⟩ := stop (addR (mk P, mk A, mk B, Nw, bs, ()) (addR (mk P, mk A, mk B, Nw, bs, ()) o o).1 p).1
     refine ⟨false, r, hr, ?_, ?_⟩
     ·intro s hs; cases hs
     ·intro _; rfl
    | true =>
     simp only [if_true, Option.bind_some]
     exact ih _ t6
theorem often_inner {α : Type} (Rt : Bool -> PtD -> Option α) (Xt : Int -> CvD -> List Int -> PtD -> PtD -> PtD -> Option α) (K : Nat) (k : List Int) (hk : W4 k) (p z : PtD) (hp : PtOk P p) (w : Nat) (hw4 : w < 4) : ∀ (d n : Nat) (o : PtD), d < n -> d <= 64 -> PtOk P o ->
  (∃ s, runM (mk P, mk A, mk B, Nw, bs, ()) k p d (64 * w) o = some s /\ PtOk P s /\ basculeref_often.l1 K Rt Xt n (w : Int) ((d : Int) - 1) (mk P, mk A, mk B, Nw, bs, ()) k p z o = Xt (w : Int) (mk P, mk A, mk B, Nw, bs, ()) k p z s) \/
  (runM (mk P, mk A, mk B, Nw, bs, ()) k p d (64 * w) o = none /\ basculeref_often.l1 K Rt Xt n (w : Int) ((d : Int) - 1) (mk P, mk A, mk B, Nw, bs, ()) k p z o = Rt false zPt)
 | d, 0, o, h, _, _ => by omega
 | 0, n + 1, o, h, _, ho => by
  simp only [basculeref_often.l1, basculeref_often.l1s]
  rw [show decide (((0 : Nat) : Int) - 1 >= 0) = false from rfl, if_neg (by decide)]
  exact .inl ⟨o, rfl, ho, rfl⟩
 | d + 1, n + 1, o, h, hd, ho => by
  obtain ⟨_, t1, t3⟩ := addR_run hP hA (B := B) Nw bs ho ho
  obtain ⟨_, t4, t6⟩ := addR_run hP hA (B := B) Nw bs t3 hp
  simp only [basculeref_often.l1, basculeref_often.l1s]
  have e0 : ((d + 1 : Nat) : Int) - 1 = (d : Int) := by omega
  rw [e0, show decide ((d : Int) >= 0) = true by rw [decide_eq_true_eq]; omega, if_pos rfl, t1, Option.bind_some]
  have e3 : decide (0 <= (w : Int) /\ (w : Int) < 4) = true := by rw [decide_eq_true_eq]; omega
  have e4 : decide (0 <= (d : Int)) = true := by rw [decide_eq_true_eq]; omega
  have hwd := digs_getD B64_pos hk.2 w
  have hbit : (band .u64 (k.getD w 0) (shlI .u64 1 (d : Int)) != 0) = bitK k (64 * w + d) := by
   unfold bitK
   rw [show (64 * w + d) / 64 = w by omega, show (64 * w + d) % 64 = d by omega]
   obtain ⟨X, hX⟩ := Int.eq_ofNat_of_zero_le hwd.1
   have hX2 : X < 18446744073709551616 := by have := hwd.2; unfold B64 at this; omega
   rw [hX, shl1_nat (by omega), band_nat hX2 (two_pow_lt (by omega)), show ((X : Nat) : Int).toNat = X from rfl, <- and_pow_ne]
   rw [Bool.eq_iff_iff, bne_iff_ne, bne_iff_ne]; omega
  simp only [e3, e4, Bool.true_or, cond_true, toNat_nat, hbit, cond_and]
  unfold runM
  have ih := fun o ho => often_inner Rt Xt K k hk p z hp w hw4 d n o (by omega) (by omega) ho
  unfold basculeref_often.j0
  rw [wrap_i64 (x := (d : Int) - 1) (by omega) (by omega)]
  unfold stepM
  cases hk1 : (addR (mk P, mk A, mk B, Nw, bs, ()) o o).2 with
  | false =>
   simp only [Bool.false_and, Bool.false_eq_true, if_false, Option.bind_none, Bool.not_false, if_true]
   exact .inr ⟨trivial, trivial⟩
  | true =>
   simp only [Bool.true_and, if_true, Bool.not_true, Bool.false_eq_true, if_false]
   cases hb : bitK k (64 * w + d) with
   | false =>
    simp only [Bool.false_eq_true, if_false, Option.bind_some]
    exact ih _ t3
   | true =>
    simp only [if_true, t4, Option.bind_some]
    cases hk2 : (addR (mk P, mk A, mk B, Nw, bs, ()) (addR (mk P, mk A, mk B, Nw, bs, ()) o o).1 p).2 with
    | false =>
     simp only [Bool.false_eq_true, if_false, Option.bind_none, Bool.not_false, if_true]
     exact .inr ⟨trivial, trivial⟩
    | true =>
     simp only [if_true, Option.bind_some, Bool.not_true, Bool.false_eq_true, if_false]
     exact ih _ t6
theorem often_outer {α : Type} (Rt : Bool -> PtD -> Option α) (Xt : PtD -> PtD -> Option α) (K : Nat) (hK : 64 < K) (k : List Int) (hk : W4 k) (p z : PtD) (hp : PtOk P p) : ∀ (w n : Nat) (o : PtD), w < n -> w <= 4 -> PtOk P o ->
  (∃ s, runM (mk P, mk A, mk B, Nw, bs, ()) k p (64 * w) 0 o = some s /\ PtOk P s /\ basculeref_often.l0 K Rt Xt n ((w : Int) - 1) (mk P, mk A, mk B, Nw, bs, ()) k p z o = Xt z s) \/
  (runM (mk P, mk A, mk B, Nw, bs, ()) k p (64 * w) 0 o = none /\ basculeref_often.l0 K Rt Xt n ((w : Int) - 1) (mk P, mk A, mk B, Nw, bs, ()) k p z o = Rt false zPt)
 | w, 0, o, h, _, _ => by omega
 | 0, n + 1, o, h, _, ho => by
  simp only [basculeref_often.l0, basculeref_often.l0s]
  rw [show decide (((0 : Nat) : Int) - 1 >= 0) = false from rfl, if_neg (by decide)]
  exact .inl ⟨o, rfl, ho, rfl⟩
 | w + 1, n + 1, o, h, hw, ho => by
  simp only [basculeref_often.l0, basculeref_often.l0s]
  have e0 : ((w + 1 : Nat) : Int) - 1 = (w : Int) := by omega
  rw [e0, show decide ((w : Int) >= 0) = true by rw [decide_eq_true_eq]; omega, if_pos rfl]
  rw [show 64 * (w + 1) = 64 * w + 64 by omega, runM_split, Nat.zero_add]
  rcases often_inner hP hA Nw bs Rt (fun x9 c3 c4 c5 c6 c8 => basculeref_often.j1 (basculeref_often.l0 K Rt Xt n) x9 c3 c4 c5 c6 c8) K k hk p z hp w (by omega) 64 K o hK (by omega) ho with ⟨s, h1, h2, h3⟩ | ⟨h1, h3⟩
  ·rw [h1, Option.bind_some]
   have h3 := h3
   rw [show ((64 : Nat) : Int) - 1 = 63 from rfl] at h3
   rw [h3]
   unfold basculeref_often.j1
   rw [wrap_i64 (x := (w : Int) - 1) (by omega) (by omega)]
   exact often_outer Rt Xt K hK k hk p z hp w n s (by omega) (by omega) h2
  ·rw [h1, Option.bind_none]
   rw [show ((64 : Nat) : Int) - 1 = 63 from rfl] at h3
   exact .inr ⟨rfl, h3⟩
theorem add_on {p q : PtD} (hp : PtOk P p) (hq : PtOk P q) (h1 : OnV P A B p) (h2 : OnV P A B q) (hk : (addR (mk P, mk A, mk B, Nw, bs, ()) p q).2 = true) : OnV P A B (addR (mk P, mk A, mk B, Nw, bs, ()) p q).1 := by
 obtain ⟨s, ok, t1, t2, t3, t4⟩ := add_both hP hA (B := B) Nw bs hp hq
 unfold addR at hk ⊢
 rw [t1] at hk ⊢
 exact t4 h1 h2 hk
theorem step_on {k : List Int} {p o s : PtD} (hp : PtOk P p) (ho : PtOk P o) (h1 : OnV P A B p) (h2 : OnV P A B o) (i : Nat) (h : stepM (mk P, mk A, mk B, Nw, bs, ()) k p i o = some s) : OnV P A B s := by
 obtain ⟨_, _, t3⟩ := addR_run hP hA (B := B) Nw bs ho ho
 unfold stepM at h
 split at h
 ·rename_i hk
  have a1 := add_on hP hA (B := B) Nw bs ho ho h2 h2 hk
  split at h
  ·split at h
   ·rename_i hk2
    cases h; exact add_on hP hA (B := B) Nw bs t3 hp a1 h1 hk2
   ·cases h
  ·cases h; exact a1
 ·cases h
theorem run_on {k : List Int} {p : PtD} (hp : PtOk P p) (h1 : OnV P A B p) : ∀ (d b : Nat) (o s : PtD), PtOk P o -> OnV P A B o -> runM (mk P, mk A, mk B, Nw, bs, ()) k p d b o = some s -> PtOk P s /\ OnV P A B s
 | 0, b, o, s, h2, h3, h => by cases h; exact ⟨h2, h3⟩
 | d + 1, b, o, s, h2, h3, h => by
  unfold runM at h
  cases hs : stepM (mk P, mk A, mk B, Nw, bs, ()) k p (b + d) o with
  | none => rw [hs] at h; cases h
  | some t =>
   rw [hs] at h
   exact run_on hp h1 d b t s (step_ok hP hA (B := B) Nw bs hp h2 _ hs) (step_on hP hA (B := B) Nw bs hp h2 h1 h3 _ hs) h
end
theorem mult_full {P A B N x y : Int} {f : Bool} {k : List Int} {px py : Int} {pf : Bool} (b1 : 0 <= P /\ P < M256) (b2 : 0 <= A /\ A < M256) (b3 : 0 <= B /\ B < M256) (b4 : 0 <= N /\ N < M256) (b5 : 0 <= x /\ x < M256) (b6 : 0 <= y /\ y < M256)
  (h0 : curveE P A B N x y f = 0) (hk : W4 k) (p1 : 0 <= px /\ px < M256) (p2 : 0 <= py /\ py < M256) (hp' : onB P A B px py pf = true) :
  ∃ (s t : PtD) (e : Int) (ok : Bool), curve_Mult.run (mk P, mk A, mk B, mk N, (mk x, mk y, f, ()), ()) k (mk px, mk py, pf, ()) = some (s, e, ()) /\ basculeref_often.run (mk P, mk A, mk B, mk N, (mk x, mk y, f, ()), ()) k (mk px, mk py, pf, ()) = some (t, ok, ()) /\
   (ok = true -> e = 0 /\ t = s /\ PtOk P s /\ OnV P A B s) /\ (ok = false -> e = 16 /\ s = zPt) := by
 obtain ⟨e1, e2⟩ := curve_both f b1 b2 b3 b4 b5 b6
 obtain ⟨g1, g2, g3, g4⟩ := curveE_ok h0
 have hM : 1 < P /\ P < M256 := ⟨by omega, b1.2⟩
 obtain ⟨o1, o2⟩ := on_both hM ⟨b2.1, g3⟩ ⟨b3.1, g4⟩ (mk N) (mk x, mk y, f, ()) pf p1 p2
 have hfl : ∀ Rt : Int -> Option Int, curve_fault.l0 fuel Rt (curve_fault.j0 Rt) fuel [(mk px, mk py, pf, ())] ((([(mk px, mk py, pf, ())] : List PtD).length : Nat) : Int) 0 (mk P, mk A, mk B, mk N, (mk x, mk y, f, ()), ()) = if onB P A B px py pf = true then Rt 0 else Rt 16 := by
  intro Rt
  obtain ⟨q, hq⟩ : ∃ q, fuel = q + 2 := ⟨fuel - 2, by rw [fuel_big]⟩
  rw [hq]
  simp only [curve_fault.l0, curve_fault.l0s, curve_fault.j0]
  have s1 : (decide ((0 : Int) < (([(mk px, mk py, pf, ())] : List PtD).length : Int))) = true := rfl
  have s2 : (decide ((1 : Int) < (([(mk px, mk py, pf, ())] : List PtD).length : Int))) = false := rfl
  have r1 : (0 : Int) <= 0 /\ (0 : Int) < (([(mk px, mk py, pf, ())] : List PtD).length : Int) := by simp
  have w1 : IntKind.i64.wrap (0 + 1) = 1 := rfl
  have d1 : ([(mk px, mk py, pf, ())] : List PtD).getD (Int.toNat 0) ([0, 0, 0, 0], [0, 0, 0, 0], false, ()) = (mk px, mk py, pf, ()) := rfl
  rw [w1, s1, s2, d1, if_pos r1, o1, if_pos rfl, Option.bind_some]
  cases onB P A B px py pf <;> rfl
 have hpo := pt_on hM hp' p1 p2
 have hpv : OnV P A B ((mk px, mk py, pf, ()) : PtD) := by
  unfold OnV
  simp only []
  rw [mk_val p1, mk_val p2]; exact hp'
 have hfar : PtOk P ([0, 0, 0, 0], [0, 0, 0, 0], true, ()) := zPt_ok hM true
 have hfv : OnV P A B ([0, 0, 0, 0], [0, 0, 0, 0], true, ()) := by simp [OnV, onB, val]
 unfold curve_Mult.run curve_Mult.top curve_fault.run curve_fault.top
 rw [e1]
 simp only [Option.bind_some]
 rw [h0, if_neg (by decide), hfl, hp']
 simp only [if_true, Option.bind_some, show ((0 : Int) != 0) = false from rfl, Bool.false_eq_true, if_false, BEq.rfl, Bool.not_true, cond_false]
 unfold basculeref_often.run basculeref_often.top
 obtain ⟨ok, r, m1, m2, m3⟩ := mult_loop hM ⟨b2.1, g3⟩ (B := B) (mk N) (mk x, mk y, f, ()) (fun x10 c6 c9 => curve_Mult.j1 (fun x7 c6 => some (c6, x7, ())) x10 c6 c9) fuel k hk (mk px, mk py, pf, ()) zPt hpo 256 fuel ([0, 0, 0, 0], [0, 0, 0, 0], true, ()) (by rw [fuel_big]; omega) (by omega) hfar
 rw [show ((256 : Nat) : Int) - 1 = 255 from rfl] at m1
 rw [m1]
 rcases often_outer hM ⟨b2.1, g3⟩ (B := B) (mk N) (mk x, mk y, f, ()) (fun x7 c6 => some (c6, x7, ())) (fun c6 c8 => basculeref_often.j2 (fun x7 c6 => some (c6, x7, ())) c6 c8) fuel (by rw [fuel_big]; omega) k hk (mk px, mk py, pf, ()) zPt hpo 4 fuel ([0, 0, 0, 0], [0, 0, 0, 0], true, ()) (by rw [fuel_big]; omega) (by omega) hfar with ⟨s, h1, h2, h3⟩ | ⟨h1, h3⟩
 ·rw [show ((4 : Nat) : Int) - 1 = 3 from rfl] at h3
  rw [h3]
  obtain ⟨rfl, rfl⟩ := m2 s h1
  exact ⟨_, _, _, _, rfl, rfl, fun _ => ⟨rfl, rfl, run_on hM ⟨b2.1, g3⟩ (B := B) (mk N) (mk x, mk y, f, ()) hpo hpv _ _ _ _ hfar hfv h1⟩, fun h => absurd h (by decide)⟩
 ·rw [show ((4 : Nat) : Int) - 1 = 3 from rfl] at h3
  rw [h3]
  have := m3 h1
  subst this
  exact ⟨_, _, _, _, rfl, rfl, fun h => absurd h (by decide), fun _ => ⟨rfl, rfl⟩⟩
theorem curveE_on {P A B N x y : Int} {f : Bool} (h : curveE P A B N x y f = 0) : onB P A B x y f = true /\ f = false /\ 1 < N := by
 unfold curveE at h
 split at h
 ·rename_i hg
  split at h
  ·exact absurd h (by decide)
  ·rename_i h2
   simp only [Bool.or_eq_true, Bool.not_eq_true', not_or, Bool.not_eq_true, Bool.not_eq_false] at h2
   unfold goodC at hg
   simp only [Bool.and_eq_true, decide_eq_true_eq] at hg
   exact ⟨h2.2, h2.1.2, hg.2⟩
 ·exact absurd h (by decide)
end Go.Bx
