/- A part of a framework that reads Go code as functions of plain data; or a law about such functions. -/
import Derived.Test.YtbkkahkikjifkaaDoorLawQuotient
import Derived.Test.YtbkkahkikjifkaaDoorLawRefTimes
import Derived.Test.YtbkkahkikjifkaaDoorFnSignMakes0
namespace Go.Bx
open Go
set_option linter.unusedSimpArgs false
set_option linter.unusedVariables false
def W4 (l : List Int) : Prop := l.length = 4 /\ digs B64 l
theorem W4.bound {l : List Int} (h : W4 l) : 0 <= val B64 l /\ val B64 l < M256 := val4_bound h.1 h.2
theorem W4.eq {l m : List Int} (h : W4 l) (g : W4 m) (e : val B64 l = val B64 m) : l = m := words_eq h.1 g.1 h.2 g.2 e
theorem W4.zero : W4 [0, 0, 0, 0] := ⟨rfl, dz4⟩
theorem val_zero4 : val B64 [0, 0, 0, 0] = 0 := rfl
theorem W4.ne {m : List Int} (h : W4 m) : m ≠ [0, 0, 0, 0] ↔ 0 < val B64 m := by
 constructor
 ·exact zero4 h.1 h.2
 ·rintro g rfl
  rw [val_zero4] at g; omega
theorem emod_two {x m : Int} (h0 : 0 <= x) (h1 : x < 2 * m) : x % m = if x < m then x else x - m := by
 split
 ·rename_i h; exact Int.emod_eq_of_lt h0 h
 ·rename_i h
  rw [<- Int.sub_emod_right]
  exact Int.emod_eq_of_lt (by omega) (by omega)
theorem emod_neg {x m : Int} (h0 : -m < x) (h1 : x < m) : x % m = if x < 0 then x + m else x := by
 split
 ·rename_i h
  rw [<- Int.add_emod_right]
  exact Int.emod_eq_of_lt (by omega) (by omega)
 ·rename_i h; exact Int.emod_eq_of_lt (by omega) h1
theorem field_add_run {a b m : List Int} (ha : W4 a) (hb : W4 b) (hm : W4 m) (h1 : val B64 a < val B64 m) (h2 : val B64 b < val B64 m) :
  ∃ r, field_add.run a b m = some r /\ W4 r /\ val B64 r = (val B64 a + val B64 b) % val B64 m := by
 unfold field_add.run field_add.top
 obtain ⟨r, o, e1, n1, d1, v1, f1⟩ := wide_add ha.1 hb.1 ha.2 hb.2
 rw [e1, Option.bind_some]
 have ba := ha.bound
 have bb := hb.bound
 have bm := hm.bound
 have br := val4_bound n1 d1
 have cmp : (if (o == false) = true then wide_Cmp.run r m else some 0).bind (fun y => some (cond o true (decide (y >= 0)))) = some (decide (val B64 a + val B64 b >= val B64 m)) := by
  cases o with
  | true =>
   have := f1.1 rfl
   have : decide (val B64 a + val B64 b >= val B64 m) = true := by rw [decide_eq_true_eq]; omega
   rw [this]; rfl
  | false =>
   have hno : ¬ (M256 <= val B64 a + val B64 b) := fun h => by have := f1.2 h; simp at this
   have hr : val B64 r = val B64 a + val B64 b := by rw [v1]; exact Int.emod_eq_of_lt (by omega) (by omega)
   rw [if_pos (show (false == false) = true from rfl), wide_cmp n1 hm.1 d1 hm.2, Option.bind_some, hr]
   by_cases hc : val B64 a + val B64 b < val B64 m
   ·rw [if_pos hc]
    have : decide (val B64 a + val B64 b >= val B64 m) = false := by rw [decide_eq_false_iff_not]; omega
    rw [this]; rfl
   ·rw [if_neg hc]
    have : decide (val B64 a + val B64 b >= val B64 m) = true := by rw [decide_eq_true_eq]; omega
    rw [this]
    split <;> rfl
 obtain ⟨w, w1, w2⟩ := Option.bind_eq_some_iff.1 cmp
 rw [w1, Option.bind_some, Option.some.inj w2, emod_two (by omega) (by omega)]
 by_cases hc : val B64 a + val B64 b >= val B64 m
 ·rw [if_pos (by rw [decide_eq_true_eq]; exact hc), if_neg (by omega)]
  obtain ⟨s, o2, s1, s2, s3, s4, s5⟩ := wide_sub n1 hm.1 d1 hm.2
  rw [s1, Option.bind_some]
  refine ⟨s, rfl, ⟨s2, s3⟩, ?_⟩
  rw [s4, v1]
  simp only [M256] at *
  omega
 ·rw [if_neg (by rw [decide_eq_true_eq]; exact hc), if_pos (by omega)]
  refine ⟨r, rfl, ⟨n1, d1⟩, ?_⟩
  rw [v1]; exact Int.emod_eq_of_lt (by omega) (by omega)
theorem field_sub_run {a b m : List Int} (ha : W4 a) (hb : W4 b) (hm : W4 m) (h1 : val B64 a < val B64 m) (h2 : val B64 b < val B64 m) :
  ∃ r, field_sub.run a b m = some r /\ W4 r /\ val B64 r = (val B64 a - val B64 b) % val B64 m := by
 unfold field_sub.run field_sub.top
 obtain ⟨r, o, e1, n1, d1, v1, f1⟩ := wide_sub ha.1 hb.1 ha.2 hb.2
 rw [e1, Option.bind_some]
 have ba := ha.bound
 have bb := hb.bound
 have bm := hm.bound
 rw [emod_neg (by omega) (by omega)]
 by_cases ho : o = true
 ·have := f1.1 ho
  rw [if_pos ho, if_pos (by omega)]
  obtain ⟨s, o2, s1, s2, s3, s4, s5⟩ := wide_add n1 hm.1 d1 hm.2
  rw [s1, Option.bind_some]
  refine ⟨s, rfl, ⟨s2, s3⟩, ?_⟩
  rw [s4, v1]
  simp only [M256] at *
  omega
 ·have hno : ¬ val B64 a < val B64 b := fun h => ho (f1.2 h)
  rw [if_neg ho, if_neg (by omega)]
  refine ⟨r, rfl, ⟨n1, d1⟩, ?_⟩
  rw [v1]; exact Int.emod_eq_of_lt (by omega) (by omega)
theorem cut_run {l : List Int} (hd : digs B32 l) (hl : l.length <= 1000000) : ∃ w, basculeref_cut.run l = some w /\ W4 w /\ val B64 w = val B32 l % M256 := by
 obtain ⟨w, f, e1, e2, e3, e4, _⟩ := ref_wide hd hl
 unfold basculeref_cut.run basculeref_cut.top
 rw [e1, Option.bind_some]
 exact ⟨w, rfl, ⟨e2, e3⟩, e4⟩
theorem rest_run {d m : List Int} (hd : digs B32 d) (hl : d.length <= 1000) (hm : W4 m) (h0 : 0 < val B64 m) : ∃ r, basculeref_rest.run d m = some r /\ W4 r /\ val B64 r = val B32 d % val B64 m := by
 obtain ⟨y, y1, y2, y3, y4⟩ := ref_of hm.1 hm.2
 obtain ⟨q, r, e1, _, _, e4, e5, _, e7⟩ := ref_divided hd y3 hl (by omega) (by omega)
 obtain ⟨w, w1, w2, w3⟩ := cut_run e4 (by omega)
 unfold basculeref_rest.run basculeref_rest.top
 rw [y1, Option.bind_some, e1, Option.bind_some, w1, Option.bind_some]
 refine ⟨w, rfl, w2, ?_⟩
 rw [w3, e7, y4]
 have := Int.emod_nonneg (val B32 d) (show val B64 m ≠ 0 by omega)
 have := Int.emod_lt_of_pos (val B32 d) h0
 have := hm.bound
 exact Int.emod_eq_of_lt (by omega) (by omega)
theorem total_run {a b m : List Int} (ha : W4 a) (hb : W4 b) (hm : W4 m) (h0 : 0 < val B64 m) : ∃ r, basculeref_total.run a b m = some r /\ W4 r /\ val B64 r = (val B64 a + val B64 b) % val B64 m := by
 obtain ⟨x, x1, x2, x3, x4⟩ := ref_of ha.1 ha.2
 obtain ⟨y, y1, y2, y3, y4⟩ := ref_of hb.1 hb.2
 obtain ⟨p, p1, p2, p3, p4⟩ := ref_plus x3 y3 (by omega) (by omega)
 obtain ⟨r, r1, r2, r3⟩ := rest_run p3 (by omega) hm h0
 unfold basculeref_total.run basculeref_total.top
 rw [x1, Option.bind_some, y1, Option.bind_some, p1, Option.bind_some, r1, Option.bind_some]
 exact ⟨r, rfl, r2, by rw [r3, p4, x4, y4]⟩
theorem opposite_run {a m : List Int} (ha : W4 a) (hm : W4 m) (h1 : val B64 a < val B64 m) : ∃ r, basculeref_opposite.run a m = some r /\ W4 r /\ val B64 r = (- val B64 a) % val B64 m := by
 unfold basculeref_opposite.run basculeref_opposite.top
 rw [beqD_dec (.arr 4 (.int .u64)) a [0, 0, 0, 0] rfl]
 have ba := ha.bound
 by_cases hz : a = [0, 0, 0, 0]
 ·rw [if_pos (by simpa using hz)]
  refine ⟨a, rfl, ha, ?_⟩
  rw [hz, val_zero4]; simp
 ·rw [if_neg (by simpa using hz)]
  have hpos := ha.ne.1 hz
  obtain ⟨x, x1, x2, x3, x4⟩ := ref_of ha.1 ha.2
  obtain ⟨y, y1, y2, y3, y4⟩ := ref_of hm.1 hm.2
  obtain ⟨q, q1, q2, q3, q4⟩ := ref_less_any y3 x3 (by omega) (by omega)
  obtain ⟨w, w1, w2, w3⟩ := cut_run q3 (by omega)
  rw [y1, Option.bind_some, x1, Option.bind_some, q1, Option.bind_some, w1, Option.bind_some]
  refine ⟨w, rfl, w2, ?_⟩
  have bm := hm.bound
  rw [w3, q4, x4, y4, emod_neg (x := - val B64 a) (m := val B64 m) (by omega) (by omega), if_pos (by omega)]
  rw [Int.emod_eq_of_lt (by omega) (by omega)]; omega
theorem bor_zero {a b : Int} (ha : 0 <= a /\ a < B64) (hb : 0 <= b /\ b < B64) : (0 <= bor .u64 a b /\ bor .u64 a b < B64) /\ (bor .u64 a b = 0 ↔ a = 0 /\ b = 0) := by
 obtain ⟨X, rfl, hX⟩ := nat_of_dig ha
 obtain ⟨Y, rfl, hY⟩ := nat_of_dig hb
 rw [bor_nat hX hY]
 have hlt : X ||| Y < 18446744073709551616 := by
  have := Nat.or_lt_two_pow (x := X) (y := Y) (n := 64) (by simpa using hX) (by simpa using hY)
  simpa using this
 refine ⟨⟨by omega, by simp only [B64]; omega⟩, ?_⟩
 constructor
 ·intro h
  have h' : X ||| Y = 0 := by omega
  have := Nat.or_eq_zero_iff.1 h'
  omega
 ·rintro ⟨h1, h2⟩
  have h1 : X = 0 := by omega
  have h2 : Y = 0 := by omega
  subst h1 h2; rfl
theorem product_run {a b m : List Int} (ha : W4 a) (hb : W4 b) (hm : W4 m) (h1 : val B64 a < val B64 m) (h2 : val B64 b < val B64 m) : ∃ r, basculeref_product.run a b m = some r /\ W4 r /\ val B64 r = (val B64 a * val B64 b) % val B64 m := by
 unfold basculeref_product.run basculeref_product.top
 have ba := ha.bound
 have bb := hb.bound
 have hm0 := digs_getD B64_pos hm.2 0
 have hm1 := digs_getD B64_pos hm.2 1
 have hm2 := digs_getD B64_pos hm.2 2
 have hm3 := digs_getD B64_pos hm.2 3
 obtain ⟨b1, b2⟩ := bor_zero hm1 hm2
 obtain ⟨b3, b4⟩ := bor_zero b1 hm3
 by_cases hc : (cond ((bor .u64 (bor .u64 (List.getD m 1 0) (List.getD m 2 0)) (List.getD m 3 0)) == 0) (decide ((List.getD m 0 0) < 4294967296)) false) = true
 ·rw [if_pos hc]
  have hz : (bor .u64 (bor .u64 (List.getD m 1 0) (List.getD m 2 0)) (List.getD m 3 0)) = 0 /\ List.getD m 0 0 < 4294967296 := by
   revert hc
   cases hq : (bor .u64 (bor .u64 (List.getD m 1 0) (List.getD m 2 0)) (List.getD m 3 0)) == 0 with
   | true => intro h; exact ⟨by simpa using hq, by simpa using h⟩
   | false => intro h; simp at h
  obtain ⟨z1, z2⟩ := hz
  obtain ⟨z3, z4⟩ := b4.1 z1
  obtain ⟨z5, z6⟩ := b2.1 z3
  obtain ⟨m0, m1, m2, m3, rfl⟩ := four_of_len hm.1
  obtain ⟨a0, a1, a2, a3, rfl⟩ := four_of_len ha.1
  obtain ⟨c0, c1, c2, c3, rfl⟩ := four_of_len hb.1
  simp only [List.getD_cons_zero, List.getD_cons_succ] at z2 z4 z5 z6 ⊢
  subst z4 z5 z6
  have ga0 := ha.2 a0 (by simp)
  have ga1 := ha.2 a1 (by simp)
  have ga2 := ha.2 a2 (by simp)
  have ga3 := ha.2 a3 (by simp)
  have gc0 := hb.2 c0 (by simp)
  have gc1 := hb.2 c1 (by simp)
  have gc2 := hb.2 c2 (by simp)
  have gc3 := hb.2 c3 (by simp)
  simp only [val, B64] at h1 h2 ga0 ga1 ga2 ga3 gc0 gc1 gc2 gc3 ⊢
  have e1 : a1 = 0 /\ a2 = 0 /\ a3 = 0 /\ a0 < m0 := by omega
  have e2 : c1 = 0 /\ c2 = 0 /\ c3 = 0 /\ c0 < m0 := by omega
  obtain ⟨rfl, rfl, rfl, e1⟩ := e1
  obtain ⟨rfl, rfl, rfl, e2⟩ := e2
  have hp := mul_lt32 (x := a0) (y := c0) (by omega) (by omega)
  rw [if_pos (by omega), wrap_u64 hp.1 (by omega), tmod_pos hp.1]
  have r1 := Int.emod_nonneg (a0 * c0) (show m0 ≠ 0 by omega)
  have r2 := Int.emod_lt_of_pos (a0 * c0) (show 0 < m0 by omega)
  refine ⟨_, rfl, ⟨rfl, fun d hd => ?_⟩, ?_⟩
  ·simp only [List.mem_cons, List.not_mem_nil, or_false] at hd
   simp only [B64]
   omega
  ·simp [val]
 ·rw [if_neg hc]
  obtain ⟨x, x1, x2, x3, x4⟩ := ref_of ha.1 ha.2
  obtain ⟨y, y1, y2, y3, y4⟩ := ref_of hb.1 hb.2
  obtain ⟨p, p1, p2, p3, p4⟩ := ref_times x3 y3 (by omega) (by omega)
  obtain ⟨r, r1, r2, r3⟩ := rest_run p3 (by omega) hm (by omega)
  rw [x1, Option.bind_some, y1, Option.bind_some, p1, Option.bind_some, r1, Option.bind_some]
  exact ⟨r, rfl, r2, by rw [r3, p4, x4, y4]⟩
def below (m : List Int) : List (List Int) -> Int
 | [] => 0
 | a :: l => if val B64 a < val B64 m then below m l else 6
theorem order_run {a b : List Int} (ha : W4 a) (hb : W4 b) : basculeref_Order.run a b = some (if val B64 a < val B64 b then -1 else if val B64 a > val B64 b then 1 else 0) := by
 unfold basculeref_Order.run basculeref_Order.top
 obtain ⟨x, x1, x2, x3, x4⟩ := ref_of ha.1 ha.2
 obtain ⟨y, y1, y2, y3, y4⟩ := ref_of hb.1 hb.2
 rw [x1, Option.bind_some, y1, Option.bind_some, ref_compare x3 y3 (by omega) (by omega), x4, y4]
 rfl
theorem ge_dec (x y : Int) : decide ((if x < y then (-1 : Int) else if x > y then 1 else 0) >= 0) = !decide (x < y) := by
 by_cases h : x < y
 ·simp [h]
 ·rw [if_neg h]
  have : decide (x < y) = false := by simpa using h
  rw [this]
  split <;> rfl
theorem fault_loop2 {α : Type} (k : Nat) (Rt : Int -> Option α) (Xt : Option α) (hX : Xt = Rt 0) (l : List (List Int)) (m : List Int) (hm : W4 m) (hl : l.length < 1000) (hw : ∀ x ∈ l, W4 x) : ∀ (R P : List (List Int)) (n : Nat), R.length < n -> l = P ++ R ->
  field_fault.l0 k Rt Xt n l (l.length : Int) (P.length : Int) m = Rt (below m R)
 | R, P, 0, h, _ => by omega
 | [], P, n + 1, h, hc => by
  simp only [field_fault.l0, field_fault.l0s, below]
  have : l.length = P.length := by rw [hc]; simp
  rw [if_neg (by rw [decide_eq_true_eq]; omega), hX]
 | a :: R, P, n + 1, h, hc => by
  have hlen : l.length = P.length + (R.length + 1) := by rw [hc]; simp
  simp only [field_fault.l0, field_fault.l0s, below]
  have hg : l.getD P.length [0, 0, 0, 0] = a := by rw [hc]; exact getD_front _ _ _ _
  have ha : W4 a := hw a (by rw [hc]; simp)
  rw [if_pos (by rw [decide_eq_true_eq]; omega), if_pos (by omega), i64_succ (by omega), toNat_nat, hg, wide_cmp ha.1 hm.1 ha.2 hm.2, Option.bind_some, ge_dec]
  have ih := fault_loop2 k Rt Xt hX l m hm hl hw R (P ++ [a]) n (by simpa using h) (by simp [hc])
  rw [List.length_append] at ih
  by_cases hlt : val B64 a < val B64 m
  ·rw [if_neg (by simp [hlt]), if_pos hlt]; exact ih
  ·rw [if_pos (by simp [hlt]), if_neg hlt]
def faultE (m : List Int) (l : List (List Int)) : Int := if m = [0, 0, 0, 0] then 7 else below m l
theorem fault_run {m : List Int} (hm : W4 m) {l : List (List Int)} (hl : l.length < 1000) (hw : ∀ x ∈ l, W4 x) : field_fault.run m l = some (faultE m l) := by
 unfold field_fault.run field_fault.top faultE
 rw [beqD_dec (.arr 4 (.int .u64)) m [0, 0, 0, 0] rfl]
 by_cases h0 : m = [0, 0, 0, 0]
 ·rw [if_pos (by simpa using h0), if_pos h0]
 ·rw [if_neg (by simpa using h0), if_neg h0]
  have := fun N (hN : l.length < N) => fault_loop2 N (fun (x4 : Int) => some x4) (field_fault.j0 (fun (x4 : Int) => some x4)) rfl l m hm hl hw l [] N hN rfl
  exact this fuel (by rw [fuel_big]; omega)
theorem one4 : W4 [1, 0, 0, 0] /\ val B64 [1, 0, 0, 0] = 1 := by
 refine ⟨⟨rfl, fun d hd => ?_⟩, rfl⟩
 simp only [List.mem_cons, List.not_mem_nil, or_false] at hd
 simp only [B64]; omega
end Go.Bx
