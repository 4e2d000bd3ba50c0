/- A part of a framework that reads Go code as functions of plain data; or a law about such functions. -/
import Derived.Test.YtbkkahkikjifkaaDoorLawCurve
import Derived.Test.YtbkkahkikjifkaaDoorFnSignMakes0
namespace Go.Bx.Rg
open Go Go.Bx
set_option linter.unusedSimpArgs false
set_option linter.unusedVariables false
section
variable {M : Int} (hM : 1 < M /\ M < M256)
include hM
theorem divN {a : Int} (ha : 0 <= a /\ a < M256) : ∃ e, wide_DivMod.run (mk a) (mk M) = some (mk (a / M), mk (a % M), e, ()) := by
 have hw := mk_w M
 obtain ⟨q, r, e1, l1, l2, l3, l4, v1, v2⟩ := wide_divmod (mk_w a).1 (mk_w a).2 hw.1 hw.2
 have hne : mk M ≠ [0, 0, 0, 0] := hw.ne.2 (by rw [valM hM]; omega)
 rw [if_neg hne, mk_val ha, valM hM] at v1 v2
 exact ⟨_, by rw [e1, mk_eq ⟨l1, l2⟩ v1, mk_eq ⟨l3, l4⟩ v2]⟩
theorem restP {a : Int} (ha : 0 <= a /\ a < M256) : sign_rest.run (mk a) (mk M) = some (mk (a % M)) := by
 obtain ⟨e, h⟩ := divN hM ha
 unfold sign_rest.run sign_rest.top
 rw [h]; rfl
theorem restR {d : List Int} (hd : digs B32 d) (hl : d.length <= 1000) : basculeref_rest.run d (mk M) = some (mk (val B32 d % M)) := by
 obtain ⟨r, e1, w, v⟩ := rest_run hd hl (mk_w M) (by rw [valM hM]; omega)
 rw [valM hM] at v
 rw [e1, mk_eq w v]
theorem ofR {a : Int} (ha : 0 <= a /\ a < M256) {α : Type} (K : List Int -> Option α) : ((basculeref_of.run (mk a)).bind fun y => (basculeref_rest.run y (mk M)).bind K) = K (mk (a % M)) := by
 obtain ⟨o, e1, l, d, v⟩ := ref_of (mk_w a).1 (mk_w a).2
 rw [e1, Option.bind_some, restR hM d (by omega), v, mk_val ha, Option.bind_some]
theorem lowP {a : Int} (ha : 0 <= a /\ a < M) (P A B : List Int) (q : PtD) : sign_low.run (P, A, B, mk M, q, ()) (mk a) = some (decide (2 * a <= M)) := by
 have hw := mk_w M
 unfold sign_low.run sign_low.top
 simp only []
 obtain ⟨q', r, e1, l1, l2, l3, l4, v1, v2⟩ := wide_divmod hw.1 hw.2 (mk_w 2).1 (mk_w 2).2
 have h2 : (mk 2 : List Int) = [2, 0, 0, 0] := by decide
 rw [h2] at e1 v1
 rw [if_neg (by decide), valM hM] at v1
 rw [show val B64 [2, 0, 0, 0] = 2 by decide] at v1
 rw [e1, Option.bind_some]
 simp only []
 rw [mk_eq ⟨l1, l2⟩ v1, cmpN ⟨ha.1, by omega⟩ ⟨by omega, by omega⟩, Option.bind_some, le_d]
 congr 1
 rw [Bool.eq_iff_iff]
 simp only [Bool.not_eq_true', decide_eq_false_iff_not, decide_eq_true_eq]
 omega
theorem subP {a : Int} (ha : 0 <= a /\ a < M) : ∃ o, wide_Sub.run (mk M) (mk a) = some (mk (M - a), o, ()) := by
 obtain ⟨r, o, e1, l1, l2, v1, _⟩ := wide_sub (mk_w M).1 (mk_w a).1 (mk_w M).2 (mk_w a).2
 rw [valM hM, inM hM ha, Int.emod_eq_of_lt (by omega) (by omega)] at v1
 exact ⟨o, by rw [e1, mk_eq ⟨l1, l2⟩ v1]⟩
theorem invF {a : Int} (ha : 0 <= a /\ a < M) : ∃ (x e : Int) (ok : Bool) (y : List Int), field_Inv.run (mk a) (mk M) = some (mk x, e, ()) /\ basculeref_inverse.run (mk a) (mk M) = some (y, ok, ()) /\ (ok = true -> e = 0 /\ y = mk x /\ 0 <= x /\ x < M) /\ (ok = false -> e = 5) := by
 have hlt : val B64 (mk a) < val B64 (mk M) := by rw [inM hM ha, valM hM]; exact ha.2
 have he : faultE (mk M) [mk a] = 0 := by
  rw [show [mk a] = [a].map mk from rfl, faultN hM (fun x hx => by simp only [List.mem_cons, List.not_mem_nil, or_false] at hx; subst hx; exact ha)]
 obtain ⟨x, e, e1, e2, e3, e4⟩ := field_inv (mk_w a) (mk_w M) hlt he
 have := fun N (hN : 512 < N) => ref_inverse 512 N (mk a) (mk M) hN (mk_w a) (mk_w M) hlt (prod_lt (mk_w M).bound (mk_w a).bound)
 obtain ⟨y, ok, f1, f2, f3, f4⟩ := this fuel (by rw [fuel_big]; omega)
 by_cases hg : Nat.gcd (val B64 (mk a)).toNat (val B64 (mk M)).toNat = 1
 ·obtain ⟨rfl, l1, c1⟩ := e3 hg
  obtain ⟨rfl, l2, c2⟩ := f3 hg
  have hxy := inv_one ⟨e2.bound.1, l1⟩ ⟨f2.bound.1, l2⟩ c1 c2
  rw [valM hM] at l1
  exact ⟨val B64 x, 0, true, y, by rw [<- mk_of e2]; exact e1, f1, fun _ => ⟨rfl, by rw [hxy]; exact mk_of f2, e2.bound.1, l1⟩, fun h => absurd h (by decide)⟩
 ·obtain ⟨rfl, rfl⟩ := e4 hg
  have := f4 hg
  subst this
  exact ⟨0, 5, false, y, by rw [mk_zero]; exact e1, f1, fun h => absurd h (by decide), fun _ => rfl⟩
theorem isZ {a : Int} (ha : 0 <= a /\ a < M256) : basculeref_isZero.run (mk a) = some (decide (a = 0)) := by
 unfold basculeref_isZero.run basculeref_isZero.top
 rw [zeroW ha]
end
end Go.Bx.Rg
