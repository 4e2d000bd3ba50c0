/- A part of a framework that reads Go code as functions of plain data; or a law about such functions. -/
import Derived.Test.YtbkkahkikjifkaaDoorLawFieldMul
import Derived.Test.YtbkkahkikjifkaaDoorFnSignMakes0
namespace Go.Bx
open Go
set_option linter.unusedSimpArgs false
set_option linter.unusedVariables false
theorem W4.is_one {m : List Int} (h : W4 m) : m = [1, 0, 0, 0] ↔ val B64 m = 1 :=
 ⟨fun e => by rw [e]; exact one4.2, fun e => h.eq one4.1 (by rw [e, one4.2])⟩
theorem W4.is_zero {m : List Int} (h : W4 m) : m = [0, 0, 0, 0] ↔ val B64 m = 0 :=
 ⟨fun e => by rw [e]; rfl, fun e => h.eq W4.zero (by rw [e]; rfl)⟩
theorem gcd_step {r s : Int} (hr : 0 <= r) (hs : 0 <= s) : Nat.gcd s.toNat r.toNat = Nat.gcd (r % s).toNat s.toNat := by
 rw [Nat.gcd_rec, Int.toNat_emod hr hs]
theorem half {r s : Int} {n : Nat} (hs : 0 < s) (hsr : s <= r) (h : r * s < ((2 ^ (n + 1) : Nat) : Int)) : s * (r % s) < ((2 ^ n : Nat) : Int) := by
 have e := Int.mul_ediv_add_emod r s
 have hm := Int.emod_nonneg r (show s ≠ 0 by omega)
 have hl := Int.emod_lt_of_pos r hs
 have hq : 1 <= r / s := by
  have := Int.ediv_le_ediv hs hsr
  rw [Int.ediv_self (by omega)] at this; exact this
 have h1 : s * 1 <= s * (r / s) := Int.mul_le_mul_of_nonneg_left hq (by omega)
 have h2 : 2 * (r % s) <= r := by omega
 have h3 : s * (2 * (r % s)) <= s * r := Int.mul_le_mul_of_nonneg_left h2 (by omega)
 have e2 : ((2 ^ (n + 1) : Nat) : Int) = ((2 ^ n : Nat) : Int) * 2 := by rw [Nat.pow_succ]; simp
 rw [Int.mul_comm r s] at h
 rw [<- Int.mul_assoc, Int.mul_comm s 2, Int.mul_assoc] at h3
 omega
def Cg (M x y : Int) : Prop := x % M = y % M
theorem Cg.mul {M x y : Int} (h : Cg M x y) (z : Int) : Cg M (x * z) (y * z) := by
 unfold Cg at *; rw [Int.mul_emod, h, <- Int.mul_emod]
theorem Cg.mulL {M x y : Int} (h : Cg M x y) (z : Int) : Cg M (z * x) (z * y) := by
 unfold Cg at *; rw [Int.mul_emod, h, <- Int.mul_emod]
theorem Cg.sub {M x y z w : Int} (h : Cg M x y) (k : Cg M z w) : Cg M (x - z) (y - w) := by
 unfold Cg at *; rw [Int.sub_emod, h, k, <- Int.sub_emod]
theorem Cg.mod {M x : Int} : Cg M (x % M) x := Int.emod_emod _ _
theorem Cg.trans {M x y z : Int} (h : Cg M x y) (k : Cg M y z) : Cg M x z := Eq.trans h k
theorem Cg.symm {M x y : Int} (h : Cg M x y) : Cg M y x := Eq.symm h
theorem inv_one {M a x y : Int} (hx : 0 <= x /\ x < M) (hy : 0 <= y /\ y < M) (h1 : Cg M (a * x) 1) (h2 : Cg M (a * y) 1) : x = y := by
 have e1 : Cg M (x * (a * y)) x := by have := h2.mulL x; rw [Int.mul_one] at this; exact this
 have e2 : Cg M (a * x * y) y := by have := h1.mul y; rw [Int.one_mul] at this; exact this
 have e3 : a * x * y = x * (a * y) := by rw [Int.mul_comm a x, Int.mul_assoc]
 rw [e3] at e2
 have e4 : x % M = y % M := Eq.trans (Eq.symm e1) e2
 rwa [Int.emod_eq_of_lt hx.1 hx.2, Int.emod_eq_of_lt hy.1 hy.2] at e4
theorem inv_loop {α : Type} (k : Nat) (Xt : List Int -> List Int -> List Int -> Option α) (m z : List Int) (hm : W4 m) (hM : 0 < val B64 m) (A : Int) :
  ∀ (n N : Nat) (t r s u : List Int), n < N -> W4 t -> W4 r -> W4 s -> W4 u -> val B64 t < val B64 m -> val B64 u < val B64 m -> val B64 s <= val B64 r -> 0 < val B64 r -> val B64 r * val B64 s < ((2 ^ n : Nat) : Int) -> Cg (val B64 m) (val B64 r) (val B64 u * A) -> Cg (val B64 m) (val B64 s) (val B64 t * A) ->
  ∃ r' u', field_Inv.l0 k Xt N m z t r s u = Xt z r' u' /\ W4 r' /\ W4 u' /\ val B64 u' < val B64 m /\ (val B64 r').toNat = Nat.gcd (val B64 s).toNat (val B64 r).toNat /\ Cg (val B64 m) (val B64 r') (val B64 u' * A)
 | n, 0, t, r, s, u, h, _, _, _, _, _, _, _, _, _, _, _ => by omega
 | n, N + 1, t, r, s, u, h, ht, hr, hs, hu, lt, lu, hsr, hr0, hn, cr, cs => by
  have bs := hs.bound
  simp only [field_Inv.l0, field_Inv.l0s]
  rw [beqD_dec (.arr 4 (.int .u64)) s [0, 0, 0, 0] rfl]
  by_cases hz : s = [0, 0, 0, 0]
  ·rw [if_neg (by simp [hz])]
   have h0 := hs.is_zero.1 hz
   refine ⟨r, u, rfl, hr, hu, lu, ?_, cr⟩
   rw [h0]; simp
  ·rw [if_pos (by simp [hz])]
   have hs0 := hs.ne.1 hz
   obtain ⟨q, l, d1, d2, d3, d4, d5, d6, d7⟩ := wide_divmod hr.1 hr.2 hs.1 hs.2
   rw [if_neg hz] at d6 d7
   obtain ⟨q1, q2, f1, f2, f3, f4, f5, f6, f7⟩ := wide_divmod d2 d3 hm.1 hm.2
   have hm0 := hm.ne.2 hM
   rw [if_neg hm0] at f6 f7
   have lq2 : val B64 q2 < val B64 m := by rw [f7]; exact Int.emod_lt_of_pos _ hM
   obtain ⟨p, p1, p2, p3⟩ := field_mul_run ⟨f4, f5⟩ ht hm lq2
   have lp : val B64 p < val B64 m := by rw [p3]; exact Int.emod_lt_of_pos _ hM
   obtain ⟨v, v1, v2, v3⟩ := field_sub_run hu p2 hm lu lp
   have lv : val B64 v < val B64 m := by rw [v3]; exact Int.emod_lt_of_pos _ hM
   rw [d1, Option.bind_some, f1, Option.bind_some, p1, Option.bind_some, v1, Option.bind_some]
   have hl0 := (val_bound B64_pos d5).1
   have hll : val B64 l < val B64 s := by rw [d7]; exact Int.emod_lt_of_pos _ hs0
   have hpos : 0 < val B64 r * val B64 s := Int.mul_pos hr0 hs0
   obtain ⟨n', rfl⟩ : ∃ n', n = n' + 1 := by
    cases n with
    | zero => simp at hn; omega
    | succ n' => exact ⟨n', rfl⟩
   have hh := half hs0 hsr hn
   rw [<- d7] at hh
   have cl : Cg (val B64 m) (val B64 l) (val B64 v * A) := by
    have e1 : val B64 l = val B64 r - val B64 s * val B64 q := by
     have := Int.mul_ediv_add_emod (val B64 r) (val B64 s)
     rw [d7, d6]; omega
    have e2 : Cg (val B64 m) (val B64 r - val B64 s * val B64 q) (val B64 u * A - val B64 t * A * val B64 q) := cr.sub (cs.mul _)
    have e3 : val B64 u * A - val B64 t * A * val B64 q = (val B64 u - val B64 q * val B64 t) * A := by
     rw [Int.sub_mul, Int.mul_comm (val B64 q), Int.mul_assoc, Int.mul_assoc, Int.mul_comm A]
    have e4 : Cg (val B64 m) (val B64 v) (val B64 u - val B64 q * val B64 t) := by
     rw [v3]
     refine Cg.mod.trans (Cg.sub (show Cg _ _ _ from rfl) ?_)
     rw [p3]
     refine Cg.mod.trans ?_
     rw [f7]
     exact Cg.mod.mul _
    rw [e1]
    rw [e3] at e2
    exact e2.trans (e4.mul A).symm
   obtain ⟨r', u', g1, g2, g3, g4, g5, g6⟩ := inv_loop k Xt m z hm hM A n' N v s l t (by omega) v2 hs ⟨d4, d5⟩ ht lv lt (by omega) hs0 hh cs cl
   refine ⟨r', u', g1, g2, g3, g4, ?_, g6⟩
   rw [g5, gcd_step (r := val B64 r) (by omega) (by omega), d7]
theorem prod_lt {a b : Int} (ha : 0 <= a /\ a < M256) (hb : 0 <= b /\ b < M256) : a * b < ((2 ^ 512 : Nat) : Int) := by
 have h1 : a * b <= a * M256 := Int.mul_le_mul_of_nonneg_left (by omega) ha.1
 have h2 : a * M256 < M256 * M256 := Int.mul_lt_mul_of_pos_right ha.2 (by simp only [M256]; omega)
 have h3 : M256 * M256 = ((2 ^ 512 : Nat) : Int) := by decide +kernel
 omega
theorem field_inv {a m : List Int} (ha : W4 a) (hm : W4 m) (h1 : val B64 a < val B64 m) (he : faultE m [a] = 0) :
  ∃ x e, field_Inv.run a m = some (x, e, ()) /\ W4 x /\ (Nat.gcd (val B64 a).toNat (val B64 m).toNat = 1 -> e = 0 /\ val B64 x < val B64 m /\ Cg (val B64 m) (val B64 a * val B64 x) 1) /\ (Nat.gcd (val B64 a).toNat (val B64 m).toNat ≠ 1 -> e = 5 /\ x = [0, 0, 0, 0]) := by
 have ba := ha.bound
 have bm := hm.bound
 have hM : 0 < val B64 m := by omega
 have hw : ∀ y ∈ [a], W4 y := fun y hy => by
  simp only [List.mem_cons, List.not_mem_nil, or_false] at hy
  subst hy; exact ha
 unfold field_Inv.run field_Inv.top
 rw [fault_run hm (by simp) hw, Option.bind_some, he, if_neg (by decide)]
 obtain ⟨q, r, d1, _, _, d4, d5, _, d7⟩ := wide_divmod one4.1.1 one4.1.2 hm.1 hm.2
 rw [if_neg (hm.ne.2 hM), one4.2] at d7
 rw [d1, Option.bind_some]
 have := fun N (hN : 512 < N) => inv_loop N (fun (c4 : List Int) (c10 : List Int) (c12 : List Int) => field_Inv.j0 (fun (x5 : Int) (c4 : List Int) => some (c4, x5, ())) c4 c10 c12) m [0, 0, 0, 0] hm hM (val B64 a) 512 N r m a [0, 0, 0, 0] hN ⟨d4, d5⟩ hm ha W4.zero (by rw [d7]; exact Int.emod_lt_of_pos _ hM) (by rw [val_zero4]; exact hM) (by omega) hM (prod_lt bm ba) (by
   rw [val_zero4, Int.zero_mul]; unfold Cg; simp) (by
   rw [d7]
   have := (Cg.mod (M := val B64 m) (x := 1)).mul (val B64 a)
   rw [Int.one_mul] at this
   exact this.symm)
 obtain ⟨r', u', g1, g2, g3, g4, g5, g6⟩ := this fuel (by rw [fuel_big]; omega)
 rw [g1]
 unfold field_Inv.j0
 rw [beqD_dec (.arr 4 (.int .u64)) r' [1, 0, 0, 0] rfl]
 have br := g2.bound
 by_cases h1 : r' = [1, 0, 0, 0]
 ·rw [if_neg (by simp [h1])]
  have hv := g2.is_one.1 h1
  rw [hv] at g5 g6
  refine ⟨u', 0, rfl, g3, fun _ => ⟨rfl, g4, ?_⟩, fun hn => absurd g5.symm hn⟩
  rw [Int.mul_comm]; exact g6.symm
 ·rw [if_pos (by simp [h1])]
  have hv : val B64 r' ≠ 1 := fun e => h1 (g2.is_one.2 e)
  refine ⟨_, 5, rfl, W4.zero, fun hg => ?_, fun _ => ⟨rfl, rfl⟩⟩
  rw [hg] at g5
  omega
theorem ref_inverse : ∀ (n N : Nat) (a m : List Int), n < N -> W4 a -> W4 m -> val B64 a < val B64 m -> val B64 m * val B64 a < ((2 ^ n : Nat) : Int) ->
  ∃ x ok, basculeref_inverse.runN N a m = some (x, ok, ()) /\ W4 x /\ (Nat.gcd (val B64 a).toNat (val B64 m).toNat = 1 -> ok = true /\ val B64 x < val B64 m /\ Cg (val B64 m) (val B64 a * val B64 x) 1) /\ (Nat.gcd (val B64 a).toNat (val B64 m).toNat ≠ 1 -> ok = false)
 | n, 0, a, m, h, _, _, _, _ => by omega
 | n, N + 1, a, m, h, ha, hm, h1, hn => by
  have ba := ha.bound
  have bm := hm.bound
  have hM : 0 < val B64 m := by omega
  simp only [basculeref_inverse.runN, basculeref_inverse.top]
  rw [beqD_dec (.arr 4 (.int .u64)) m [1, 0, 0, 0] rfl, beqD_dec (.arr 4 (.int .u64)) a [0, 0, 0, 0] rfl, beqD_dec (.arr 4 (.int .u64)) a [1, 0, 0, 0] rfl]
  by_cases hm1 : m = [1, 0, 0, 0]
  ·rw [if_pos (by simp [hm1])]
   have hv := hm.is_one.1 hm1
   refine ⟨_, true, rfl, W4.zero, fun _ => ⟨rfl, by rw [val_zero4]; exact hM, ?_⟩, fun hg => ?_⟩
   ·unfold Cg; rw [hv]; simp
   ·exfalso; apply hg; rw [hv]; simp
  ·rw [if_neg (by simp [hm1])]
   have hv1 : val B64 m ≠ 1 := fun e => hm1 (hm.is_one.2 e)
   by_cases ha0 : a = [0, 0, 0, 0]
   ·rw [if_pos (by simp [ha0])]
    have hv := ha.is_zero.1 ha0
    refine ⟨_, false, rfl, W4.zero, fun hg => ?_, fun _ => rfl⟩
    rw [hv] at hg
    simp at hg
    omega
   ·rw [if_neg (by simp [ha0])]
    have hap := ha.ne.1 ha0
    by_cases ha1 : a = [1, 0, 0, 0]
    ·rw [if_pos (by simp [ha1])]
     have hv := ha.is_one.1 ha1
     refine ⟨a, true, rfl, ha, fun _ => ⟨rfl, h1, ?_⟩, fun hg => ?_⟩
     ·unfold Cg; rw [hv]; rfl
     ·exfalso; apply hg; rw [hv]; simp
    ·rw [if_neg (by simp [ha1])]
     have hv2 : val B64 a ≠ 1 := fun e => ha1 (ha.is_one.2 e)
     obtain ⟨q, r, _, e2, n1, d1, n2, d2, vq, vr⟩ := quotient_both hm.1 hm.2 ha.1 ha.2
     rw [if_neg ha0] at vq vr
     rw [e2, Option.bind_some]
     have hr : W4 r := ⟨n2, d2⟩
     have hq : W4 q := ⟨n1, d1⟩
     have br := hr.bound
     have hra : val B64 r < val B64 a := by rw [vr]; exact Int.emod_lt_of_pos _ hap
     have hpos : 0 < val B64 m * val B64 a := Int.mul_pos hM hap
     obtain ⟨n', rfl⟩ : ∃ n', n = n' + 1 := by
      cases n with
      | zero => simp at hn; omega
      | succ n' => exact ⟨n', rfl⟩
     have hh := half hap (by omega) hn
     rw [<- vr] at hh
     obtain ⟨s, ok, s1, s2, s3, s4⟩ := ref_inverse n' N r a (by omega) hr ha hra hh
     have hg : Nat.gcd (val B64 a).toNat (val B64 m).toNat = Nat.gcd (val B64 r).toNat (val B64 a).toNat := by
      rw [gcd_step (r := val B64 m) (by omega) (by omega), vr]
     rw [s1, Option.bind_some, hg]
     by_cases h1g : Nat.gcd (val B64 r).toNat (val B64 a).toNat = 1
     ·obtain ⟨rfl, ls, cs⟩ := s3 h1g
      simp only [Bool.not_true]
      rw [if_neg (by simp)]
      have bs := s2.bound
      obtain ⟨x, x1, x2, x3, x4⟩ := ref_of hr.1 hr.2
      obtain ⟨y, y1, y2, y3, y4⟩ := ref_of s2.1 s2.2
      obtain ⟨p, p1, p2, p3, p4⟩ := ref_times x3 y3 (by omega) (by omega)
      rw [x4, y4] at p4
      have hrs0 : 0 <= val B64 r * val B64 s := Int.mul_nonneg br.1 bs.1
      have hcs : (val B64 r * val B64 s) % val B64 a = 1 := by
       have h := cs
       unfold Cg at h
       rw [h]; exact Int.emod_eq_of_lt (by omega) (by omega)
      have hk := Int.mul_ediv_add_emod (val B64 r * val B64 s) (val B64 a)
      rw [hcs] at hk
      have hk0 : 0 <= val B64 r * val B64 s / val B64 a := Int.ediv_nonneg hrs0 (by omega)
      have hk1 : 0 <= val B64 a * (val B64 r * val B64 s / val B64 a) := Int.mul_nonneg (by omega) hk0
      have v1 : val B32 [1] = 1 := rfl
      obtain ⟨l, l1, l2, l3, l4⟩ := ref_less_any p3 (digs1 (d := 1) (by omega)) (by omega) (by rw [p4, v1]; omega)
      rw [p4, v1] at l4
      obtain ⟨z, z1, z2, z3, z4⟩ := ref_of ha.1 ha.2
      obtain ⟨kq, kr, k1, k2, k3, _, _, k6, _⟩ := ref_divided l3 z3 (by omega) (by omega) (by omega)
      have hkv : val B32 kq = val B64 r * val B64 s / val B64 a := by
       rw [k6, l4, z4]
       have : val B64 r * val B64 s - 1 = val B64 a * (val B64 r * val B64 s / val B64 a) := by omega
       rw [this]; exact Int.mul_ediv_cancel_left _ (by omega)
      obtain ⟨qq, q1, q2, q3, q4⟩ := ref_of hq.1 hq.2
      obtain ⟨w, w1, w2, w3, w4⟩ := ref_times q3 y3 (by omega) (by omega)
      obtain ⟨t, t1, t2, t3, t4⟩ := ref_plus w3 k3 (by omega) (by omega)
      obtain ⟨g, g1, g2, g3⟩ := rest_run t3 (by omega) hm hM
      obtain ⟨o, o1, o2, o3⟩ := opposite_run g2 hm (by rw [g3]; exact Int.emod_lt_of_pos _ hM)
      rw [x1, Option.bind_some, y1, Option.bind_some, p1, Option.bind_some, l1, Option.bind_some, z1, Option.bind_some, k1, Option.bind_some, q1, Option.bind_some, Option.bind_some, w1, Option.bind_some, t1, Option.bind_some, g1, Option.bind_some, o1, Option.bind_some]
      refine ⟨o, true, rfl, o2, fun _ => ⟨rfl, by rw [o3]; exact Int.emod_lt_of_pos _ hM, ?_⟩, fun hng => absurd h1g hng⟩
      have hT : val B64 a * val B32 t = val B64 m * val B64 s - 1 := by
       have hqr := Int.mul_ediv_add_emod (val B64 m) (val B64 a)
       rw [t4, w4, q4, y4, hkv, vq, Int.mul_add, <- Int.mul_assoc]
       have e1 : val B64 a * (val B64 m / val B64 a) = val B64 m - val B64 r := by rw [vr]; omega
       rw [e1, Int.sub_mul]
       omega
      have c1 : Cg (val B64 m) (val B64 o) (0 - val B32 t) := by
       rw [o3, g3]
       refine Cg.mod.trans ?_
       have : - (val B32 t % val B64 m) = 0 - val B32 t % val B64 m := by omega
       rw [this]
       exact Cg.sub rfl Cg.mod
      refine (c1.mulL (val B64 a)).trans ?_
      rw [Int.mul_sub, hT, Int.mul_zero]
      unfold Cg
      have : 0 - (val B64 m * val B64 s - 1) = 1 + val B64 m * (- val B64 s) := by rw [Int.mul_neg]; omega
      rw [this, Int.add_mul_emod_self_left]
     ·have := s4 h1g
      subst this
      simp only [Bool.not_false]
      rw [if_pos trivial]
      exact ⟨_, false, rfl, W4.zero, fun hg => absurd hg h1g, fun _ => rfl⟩
end Go.Bx
