/- A part of a framework that reads Go code as functions of plain data; or a law about such functions. -/
import Derived.Test.YtbkkahkikjifkaaDoorLawMk
import Derived.Test.YtbkkahkikjifkaaDoorFnSignMakes0
namespace Go.Bx.Rg
open Go Go.Bx
set_option linter.unusedSimpArgs false
set_option linter.unusedVariables false
section
variable {M : Int} (hM : 1 < M /\ M < M256)
include hM
theorem valM : val B64 (mk M) = M := mk_val ⟨by omega, hM.2⟩
theorem inM {a : Int} (ha : 0 <= a /\ a < M) : val B64 (mk a) = a := mk_val ⟨ha.1, by omega⟩
theorem faultN {l : List Int} (hl : ∀ a ∈ l, 0 <= a /\ a < M) : faultE (mk M) (l.map mk) = 0 := by
 have hne : mk M ≠ [0, 0, 0, 0] := (mk_w M).ne.2 (by rw [valM hM]; omega)
 unfold faultE
 rw [if_neg hne]
 induction l with
 | nil => rfl
 | cons a l ih =>
  simp only [List.map_cons, below]
  rw [valM hM, inM hM (hl a (by simp)), if_pos (hl a (by simp)).2]
  exact ih fun b hb => hl b (List.mem_cons_of_mem _ hb)
theorem modIn (a : Int) : 0 <= a % M /\ a % M < M := ⟨Int.emod_nonneg _ (by omega), Int.emod_lt_of_pos _ (by omega)⟩
theorem fault2 {a b : Int} (ha : 0 <= a /\ a < M) (hb : 0 <= b /\ b < M) : field_fault.run (mk M) [mk a, mk b] = some 0 := by
 rw [fault_run (mk_w M) (by simp) (fun x hx => by
  simp only [List.mem_cons, List.not_mem_nil, or_false] at hx
  rcases hx with rfl | rfl <;> exact mk_w _)]
 rw [show [mk a, mk b] = [a, b].map mk from rfl, faultN hM (fun x hx => by
  simp only [List.mem_cons, List.not_mem_nil, or_false] at hx
  rcases hx with rfl | rfl <;> assumption)]
theorem fmulN {a b : Int} (ha : 0 <= a /\ a < M) (hb : 0 <= b /\ b < M) : field_Mul.run (mk a) (mk b) (mk M) = some (mk (a * b % M), 0, ()) := by
 obtain ⟨r, e1, w, v⟩ := field_mul_run (mk_w a) (mk_w b) (mk_w M) (by rw [inM hM ha, valM hM]; exact ha.2)
 rw [inM hM ha, inM hM hb, valM hM] at v
 unfold field_Mul.run field_Mul.top field_by_s0.run field_by_s0.top
 rw [fault2 hM ha hb, Option.bind_some, if_neg (by decide), e1, Option.bind_some, Option.bind_some, mk_eq w v]
theorem faddN {a b : Int} (ha : 0 <= a /\ a < M) (hb : 0 <= b /\ b < M) : field_Add.run (mk a) (mk b) (mk M) = some (mk ((a + b) % M), 0, ()) := by
 obtain ⟨r, e1, w, v⟩ := field_add_run (mk_w a) (mk_w b) (mk_w M) (by rw [inM hM ha, valM hM]; exact ha.2) (by rw [inM hM hb, valM hM]; exact hb.2)
 rw [inM hM ha, inM hM hb, valM hM] at v
 unfold field_Add.run field_Add.top field_by_s1.run field_by_s1.top
 rw [fault2 hM ha hb, Option.bind_some, if_neg (by decide), e1, Option.bind_some, Option.bind_some, mk_eq w v]
theorem fsubN {a b : Int} (ha : 0 <= a /\ a < M) (hb : 0 <= b /\ b < M) : field_Sub.run (mk a) (mk b) (mk M) = some (mk ((a - b) % M), 0, ()) := by
 obtain ⟨r, e1, w, v⟩ := field_sub_run (mk_w a) (mk_w b) (mk_w M) (by rw [inM hM ha, valM hM]; exact ha.2) (by rw [inM hM hb, valM hM]; exact hb.2)
 rw [inM hM ha, inM hM hb, valM hM] at v
 unfold field_Sub.run field_Sub.top field_by_s2.run field_by_s2.top
 rw [fault2 hM ha hb, Option.bind_some, if_neg (by decide), e1, Option.bind_some, Option.bind_some, mk_eq w v]
theorem mulN {a b : Int} (f : Bool) (ha : 0 <= a /\ a < M) (hb : 0 <= b /\ b < M) : curve_ring__mul_s1.run (mk M) (mk a) (mk b) f = some (mk (a * b % M), f, mk (a * b % M), ()) := by
 unfold curve_ring__mul_s1.run curve_ring__mul_s1.top
 rw [fmulN hM ha hb]; rfl
theorem addN {a b : Int} (f : Bool) (ha : 0 <= a /\ a < M) (hb : 0 <= b /\ b < M) : curve_ring__add_s0.run (mk M) (mk a) (mk b) f = some (mk ((a + b) % M), f, mk ((a + b) % M), ()) := by
 unfold curve_ring__add_s0.run curve_ring__add_s0.top
 rw [faddN hM ha hb]; rfl
theorem subN {a b : Int} (f : Bool) (ha : 0 <= a /\ a < M) (hb : 0 <= b /\ b < M) : curve_ring__sub_s0.run (mk M) (mk a) (mk b) f = some (mk ((a - b) % M), f, mk ((a - b) % M), ()) := by
 unfold curve_ring__sub_s0.run curve_ring__sub_s0.top
 rw [fsubN hM ha hb]; rfl
theorem smallN {n : Int} (f : Bool) (hn : 0 ≤ n ∧ n < 18446744073709551616) : curve_ring__small_s0.run (mk M) n f = some (mk (n % M), f, mk (n % M), ()) := by
  unfold curve_ring__small_s0.run curve_ring__small_s0.top
  have hne : mk M ≠ [0, 0, 0, 0] := (mk_w M).ne.2 (by rw [valM hM]; omega)
  have hn2 : 0 ≤ n ∧ n < M256 := ⟨hn.1, by have : (18446744073709551616 : Int) ≤ M256 := by decide
                                           omega⟩
  obtain ⟨q, r, d1, _, _, d4, d5, _, d7⟩ := wide_divmod (mk_w n).1 (mk_w n).2 (mk_w M).1 (mk_w M).2
  rw [if_neg hne, mk_val hn2, valM hM] at d7
  rw [mk_small hn, d1, Option.bind_some, mk_eq (⟨d4, d5⟩ : W4 r) d7]
theorem invN {a : Int} (f : Bool) (ha : 0 <= a /\ a < M) : ∃ (x : Int) (ok : Bool) (y : List Int), (0 <= x /\ x < M) /\ curve_ring__inv_s0.run (mk M) (mk a) f = some (mk x, (f || !ok), mk x, ()) /\ basculeref_inverse.run (mk a) (mk M) = some (y, ok, ()) /\ (ok = true -> y = mk x) /\ (a = 0 -> ok = false) /\ (ok = true -> a * x % M = 1 % M) := by
 have hlt : val B64 (mk a) < val B64 (mk M) := by rw [inM hM ha, valM hM]; exact ha.2
 have he : faultE (mk M) [mk a] = 0 := by
  rw [show [mk a] = [a].map mk from rfl, faultN hM (fun x hx => by simp only [List.mem_cons, List.not_mem_nil, or_false] at hx; subst hx; exact ha)]
 obtain ⟨x, e, e1, e2, e3, e4⟩ := field_inv (mk_w a) (mk_w M) hlt he
 have := fun N (hN : 512 < N) => ref_inverse 512 N (mk a) (mk M) hN (mk_w a) (mk_w M) hlt (prod_lt (mk_w M).bound (mk_w a).bound)
 obtain ⟨y, ok, f1, f2, f3, f4⟩ := this fuel (by rw [fuel_big]; omega)
 unfold curve_ring__inv_s0.run curve_ring__inv_s0.top
 rw [e1, Option.bind_some]
 by_cases hg : Nat.gcd (val B64 (mk a)).toNat (val B64 (mk M)).toNat = 1
 ·obtain ⟨rfl, l1, c1⟩ := e3 hg
  obtain ⟨rfl, l2, c2⟩ := f3 hg
  have hxy := inv_one ⟨e2.bound.1, l1⟩ ⟨f2.bound.1, l2⟩ c1 c2
  rw [valM hM] at l1
  refine ⟨val B64 x, true, y, ⟨e2.bound.1, l1⟩, ?_, f1, fun _ => ?_, fun h0 => ?_, fun _ => ?_⟩
  ·rw [<- mk_of e2]; cases f <;> rfl
  ·rw [hxy]; exact mk_of f2
  ·subst h0
   rw [inM hM ha, valM hM] at hg
   simp at hg
   omega
  ·rw [inM hM ha, valM hM] at c1
   exact c1
 ·obtain ⟨rfl, rfl⟩ := e4 hg
  have := f4 hg
  subst this
  refine ⟨0, false, y, ⟨by omega, by omega⟩, ?_, f1, fun h => absurd h (by decide), fun _ => rfl, fun h => absurd h (by decide)⟩
  rw [mk_zero]; cases f <;> rfl
theorem productN {a b : Int} (ha : 0 <= a /\ a < M) (hb : 0 <= b /\ b < M) : basculeref_product.run (mk a) (mk b) (mk M) = some (mk (a * b % M)) := by
 obtain ⟨r, e1, w, v⟩ := product_run (mk_w a) (mk_w b) (mk_w M) (by rw [inM hM ha, valM hM]; exact ha.2) (by rw [inM hM hb, valM hM]; exact hb.2)
 rw [inM hM ha, inM hM hb, valM hM] at v
 rw [e1, mk_eq w v]
theorem totalN {a b : Int} (ha : 0 <= a /\ a < M) (hb : 0 <= b /\ b < M) : basculeref_total.run (mk a) (mk b) (mk M) = some (mk ((a + b) % M)) := by
 obtain ⟨r, e1, w, v⟩ := total_run (mk_w a) (mk_w b) (mk_w M) (by rw [valM hM]; omega)
 rw [inM hM ha, inM hM hb, valM hM] at v
 rw [e1, mk_eq w v]
theorem oppositeN {a : Int} (ha : 0 <= a /\ a < M) : basculeref_opposite.run (mk a) (mk M) = some (mk ((-a) % M)) := by
 obtain ⟨r, e1, w, v⟩ := opposite_run (mk_w a) (mk_w M) (by rw [inM hM ha, valM hM]; exact ha.2)
 rw [inM hM ha, valM hM] at v
 rw [e1, mk_eq w v]
theorem byN {n : Int} (hn : 0 <= n /\ n < 4294967296) : basculeref_by.run n (mk M) = some (mk (n % M)) := by
 unfold basculeref_by.run basculeref_by.top
 have e1 : Int.tmod n 4294967296 = n := by rw [tmod_pos hn.1]; exact Int.emod_eq_of_lt hn.1 hn.2
 have e2 : IntKind.u64.wrap (Int.tdiv n 4294967296) = 0 := by rw [tdiv_pos hn.1, Int.ediv_eq_zero_of_lt hn.1 hn.2]; rfl
 rw [e1, e2]
 obtain ⟨r, k1, w, v⟩ := rest_run (d := [n, 0]) (digs_cons.2 ⟨hn, digs_cons.2 ⟨by decide, digs_nil⟩⟩) (by simp) (mk_w M) (by rw [valM hM]; omega)
 rw [k1, Option.bind_some]
 rw [valM hM] at v
 have : val B32 [n, 0] = n := by simp only [val]; omega
 rw [this] at v
 rw [mk_eq w v]
theorem zeroN {a : Int} (ha : 0 <= a /\ a < M) : beqD (.arr 4 (.int .u64)) (mk a) [0, 0, 0, 0] = decide (a = 0) := by
 rw [<- mk_zero, Bool.eq_iff_iff, beqD_iff _ _ _ rfl, decide_eq_true_eq]
 exact mk_inj ⟨ha.1, by omega⟩ ⟨by decide, by decide⟩
theorem isZeroN {a : Int} (ha : 0 <= a /\ a < M) : basculeref_isZero.run (mk a) = some (decide (a = 0)) := by
 unfold basculeref_isZero.run basculeref_isZero.top
 rw [zeroN hM ha]
theorem eqN {a b : Int} (ha : 0 <= a /\ a < M) (hb : 0 <= b /\ b < M) : beqD (.arr 4 (.int .u64)) (mk a) (mk b) = decide (a = b) := by
 rw [Bool.eq_iff_iff, beqD_iff _ _ _ rfl, decide_eq_true_eq]
 exact mk_inj ⟨ha.1, by omega⟩ ⟨hb.1, by omega⟩
end
def sg (x y : Int) : Int := if x < y then -1 else if x > y then 1 else 0
theorem cmpN {a b : Int} (ha : 0 <= a /\ a < M256) (hb : 0 <= b /\ b < M256) : wide_Cmp.run (mk a) (mk b) = some (sg a b) := by
 unfold sg
 rw [wide_cmp (mk_w a).1 (mk_w b).1 (mk_w a).2 (mk_w b).2, mk_val ha, mk_val hb]
theorem orderN {a b : Int} (ha : 0 <= a /\ a < M256) (hb : 0 <= b /\ b < M256) : basculeref_Order.run (mk a) (mk b) = some (sg a b) := by
 unfold sg
 rw [order_run (mk_w a) (mk_w b), mk_val ha, mk_val hb]
end Go.Bx.Rg
