/- A part of a framework that reads Go code as functions of plain data; or a law about such functions. -/
import Derived.Test.YtbkkahkikjifkaaDoorLawField
import Derived.Test.YtbkkahkikjifkaaDoorFnSignMakes0
namespace Go.Bx
open Go
set_option linter.unusedSimpArgs false
set_option linter.unusedVariables false
section
variable {x m a : List Int} {F : Int -> Int}
theorem field_bits_s0_inner {α : Type} (k : Nat) (Xt : Bool -> Int -> List Int -> List Int -> List Int -> List Int -> Option α) (hx : W4 x)
  (hF : ∀ (q : Int) (b : Bool) (o : List Int), 0 <= q -> W4 o -> val B64 o = F q -> ∃ o', field_mul_1_s0.run b o m a = some (o', m, a, ()) /\ W4 o' /\ val B64 o' = F (2 * q + if b = true then 1 else 0)) (j : Nat) (hj : j < 4) :
  ∀ (n i : Nat) (b : Bool) (o : List Int), i < n -> i <= 64 -> W4 o -> val B64 o = F (val B64 x / ((2 ^ (64 * j + i) : Nat) : Int)) -> (b = false -> val B64 x / ((2 ^ (64 * j + i) : Nat) : Int) = 0) ->
  ∃ b' o', field_bits_s0.l1 k Xt n b (j : Int) ((i : Int) - 1) o m a x = Xt b' (j : Int) o' m a x /\ W4 o' /\ val B64 o' = F (val B64 x / ((2 ^ (64 * j) : Nat) : Int)) /\ (b' = false -> val B64 x / ((2 ^ (64 * j) : Nat) : Int) = 0)
 | 0, i, b, o, h, _, _, _, _ => by omega
 | n + 1, 0, b, o, h, hi, ho, hv, hb => by
  refine ⟨b, o, ?_, ho, hv, hb⟩
  simp only [field_bits_s0.l1, field_bits_s0.l1s]
  rw [if_neg (by simp)]
 | n + 1, i + 1, b, o, h, hi, ho, hv, hb => by
  simp only [field_bits_s0.l1, field_bits_s0.l1s]
  have ei : ((i + 1 : Nat) : Int) - 1 = (i : Int) := by omega
  rw [ei, if_pos (by rw [decide_eq_true_eq]; omega), if_pos (by omega), if_pos (by omega), toNat_nat]
  obtain ⟨X, hX, hX2⟩ := nat_of_dig (digs_getD B64_pos hx.2 j)
  have hbit := bit_at hx.2 (w := j) (k := i) (by omega) hX
  have hs : X >>> i < 18446744073709551616 := Nat.lt_of_le_of_lt (Nat.shiftRight_le _ _) hX2
  have hband : band .u64 (shrI .u64 (x.getD j 0) (i : Int)) 1 = val B64 x / ((2 ^ (64 * j + i) : Nat) : Int) % 2 := by
   rw [hX, shr_nat (by omega), <- hbit]
   exact band_nat (X := X >>> i) (Y := 1) hs (by omega)
  rw [hband]
  have hq : val B64 x / ((2 ^ (64 * j + i) : Nat) : Int) = 2 * (val B64 x / ((2 ^ (64 * j + (i + 1)) : Nat) : Int)) + val B64 x / ((2 ^ (64 * j + i) : Nat) : Int) % 2 := by
   have e2 : ((2 ^ (64 * j + (i + 1)) : Nat) : Int) = ((2 ^ (64 * j + i) : Nat) : Int) * 2 := by rw [<- Nat.add_assoc, Nat.pow_succ]; simp
   rw [e2, <- Int.ediv_ediv_of_nonneg (Int.natCast_nonneg _)]
   omega
  have hq0 : 0 <= val B64 x / ((2 ^ (64 * j + (i + 1)) : Nat) : Int) := Int.ediv_nonneg hx.bound.1 (Int.natCast_nonneg _)
  generalize val B64 x / ((2 ^ (64 * j + (i + 1)) : Nat) : Int) = q at *
  generalize hQ : val B64 x / ((2 ^ (64 * j + i) : Nat) : Int) = Q at *
  unfold field_bits_s0.j1
  have ew : IntKind.i64.wrap ((i : Int) - 1) = (i : Int) - 1 := wrap_i64 (by omega) (by omega)
  rw [ew]
  by_cases hc : (cond b true (Q % 2 == 1)) = true
  ·rw [if_pos hc]
   obtain ⟨o', o1, o2, o3⟩ := hF q (Q % 2 == 1) o hq0 ho hv
   rw [o1, Option.bind_some]
   have hQ' : 2 * q + (if (Q % 2 == 1) = true then 1 else 0) = Q := by
    by_cases hb1 : Q % 2 = 1
    ·rw [if_pos (by simpa using hb1)]; omega
    ·rw [if_neg (by simpa using hb1)]; omega
   rw [hQ'] at o3
   refine field_bits_s0_inner k Xt hx hF j hj n i _ o' (by omega) (by omega) o2 (by rw [hQ]; exact o3) (fun h => ?_)
   rw [hc] at h; cases h
  ·rw [if_neg hc]
   have hb0 : b = false /\ Q % 2 ≠ 1 := by
    cases b with
    | true => exact absurd rfl hc
    | false => exact ⟨rfl, fun e => hc (by simp [e])⟩
   have hz := hb hb0.1
   have hQ0 : Q = 0 := by omega
   refine field_bits_s0_inner k Xt hx hF j hj n i _ o (by omega) (by omega) ho (by rw [hQ, hQ0, hv, hz]) (fun _ => by rw [hQ, hQ0])
theorem field_bits_s0_outer {α : Type} (k : Nat) (hk : 64 < k) (Xt : List Int -> List Int -> List Int -> Option α) (hx : W4 x)
  (hF : ∀ (q : Int) (b : Bool) (o : List Int), 0 <= q -> W4 o -> val B64 o = F q -> ∃ o', field_mul_1_s0.run b o m a = some (o', m, a, ()) /\ W4 o' /\ val B64 o' = F (2 * q + if b = true then 1 else 0)) :
  ∀ (n j : Nat) (b : Bool) (o : List Int), j < n -> j <= 4 -> W4 o -> val B64 o = F (val B64 x / ((2 ^ (64 * j) : Nat) : Int)) -> (b = false -> val B64 x / ((2 ^ (64 * j) : Nat) : Int) = 0) ->
  ∃ o', field_bits_s0.l0 k Xt n b ((j : Int) - 1) o m a x = Xt o' m a /\ W4 o' /\ val B64 o' = F (val B64 x)
 | 0, j, b, o, h, _, _, _, _ => by omega
 | n + 1, 0, b, o, h, hi, ho, hv, hb => by
  refine ⟨o, ?_, ho, by simpa using hv⟩
  simp only [field_bits_s0.l0, field_bits_s0.l0s]
  rw [if_neg (by simp)]
 | n + 1, j + 1, b, o, h, hi, ho, hv, hb => by
  simp only [field_bits_s0.l0, field_bits_s0.l0s]
  have ei : ((j + 1 : Nat) : Int) - 1 = (j : Int) := by omega
  rw [ei, if_pos (by rw [decide_eq_true_eq]; omega), if_pos (by omega), toNat_nat]
  unfold field_bits_s0.j0
  have ew : IntKind.i64.wrap ((j : Int) - 1) = (j : Int) - 1 := wrap_i64 (by omega) (by omega)
  rw [ew]
  by_cases hc : (cond (x.getD j 0 == 0) (not b) false) = true
  ·rw [if_pos hc]
   have hz : x.getD j 0 = 0 /\ b = false := by
    revert hc
    cases hw : (x.getD j 0 == 0) with
    | true => intro h; exact ⟨by simpa using hw, by simpa using h⟩
    | false => intro h; simp at h
   have h0 := hb hz.2
   have hd := drop_div hx.2 j
   have hd1 := drop_div hx.2 (j + 1)
   have hvd := val_drop B64 x j
   have hQ0 : val B64 x / ((2 ^ (64 * j) : Nat) : Int) = 0 := by
    rw [hd, hvd, hz.1, <- hd1, h0]; rfl
   exact field_bits_s0_outer k hk Xt hx hF n j b o (by omega) (by omega) ho (by rw [hQ0, hv, h0]) (fun _ => hQ0)
  ·rw [if_neg hc]
   have e64 : (63 : Int) = ((64 : Nat) : Int) - 1 := by omega
   have hm64 : 64 * (j + 1) = 64 * j + 64 := by omega
   rw [hm64] at hv hb
   obtain ⟨b', o', e1, e2, e3, e4⟩ := field_bits_s0_inner k (fun (x4 : Bool) (x5 : Int) (c0 : List Int) (c1 : List Int) (c2 : List Int) (c5 : List Int) => field_bits_s0.l0 k Xt n x4 (IntKind.i64.wrap (x5 - 1)) c0 c1 c2 c5) hx hF j (by omega) k 64 b o hk (by omega) ho hv hb
   rw [e64, e1, ew]
   exact field_bits_s0_outer k hk Xt hx hF n j b' o' (by omega) (by omega) e2 e3 e4
theorem field_bits_s0_run {x m a o : List Int} {F : Int -> Int} (hx : W4 x) (ho : W4 o) (h0 : val B64 o = F 0)
  (hF : ∀ (q : Int) (b : Bool) (o : List Int), 0 <= q -> W4 o -> val B64 o = F q -> ∃ o', field_mul_1_s0.run b o m a = some (o', m, a, ()) /\ W4 o' /\ val B64 o' = F (2 * q + if b = true then 1 else 0)) :
  ∃ o', field_bits_s0.run x o m a = some (o', m, a, ()) /\ W4 o' /\ val B64 o' = F (val B64 x) := by
 unfold field_bits_s0.run field_bits_s0.top
 have hz : val B64 x / ((2 ^ (64 * 4) : Nat) : Int) = 0 := by
  have hb := val_bound B64_pos hx.2
  rw [hx.1] at hb
  exact Int.ediv_eq_zero_of_lt hb.1 (by rw [<- pow64]; exact hb.2)
 have := fun N (hN : 64 < N) => field_bits_s0_outer N hN (fun (c0 : List Int) (c1 : List Int) (c2 : List Int) => some (c0, c1, c2, ())) hx hF N 4 false o (by omega) (by omega) ho (by rw [hz]; exact h0) (fun _ => hz)
 obtain ⟨o', e1, e2, e3⟩ := this fuel (by rw [fuel_big]; omega)
 exact ⟨o', e1, e2, e3⟩
end
theorem field_mul_run {a b m : List Int} (ha : W4 a) (hb : W4 b) (hm : W4 m) (h1 : val B64 a < val B64 m) : ∃ r, field_mul.run a b m = some r /\ W4 r /\ val B64 r = (val B64 a * val B64 b) % val B64 m := by
 have ba := ha.bound
 have hpos : 0 < val B64 m := by omega
 obtain ⟨o, e1, e2, e3⟩ := field_bits_s0_run (m := m) (a := a) (F := fun q => (val B64 a * q) % val B64 m) hb W4.zero (by rw [val_zero4]; simp) (fun q b o hq ho hv => by
  have hlt := Int.emod_lt_of_pos (val B64 a * q) hpos
  unfold field_mul_1_s0.run field_mul_1_s0.top
  obtain ⟨r1, k1, k2, k3⟩ := field_add_run ho ho hm (by rw [hv]; exact hlt) (by rw [hv]; exact hlt)
  rw [k1, Option.bind_some]
  have key : val B64 r1 = (val B64 a * (2 * q)) % val B64 m := by
   rw [k3, hv, <- Int.add_emod]
   congr 1
   rw [<- Int.mul_add]; congr 1; omega
  cases b with
  | true =>
   rw [if_pos rfl, if_pos rfl]
   obtain ⟨r2, j1, j2, j3⟩ := field_add_run k2 ha hm (by rw [key]; exact Int.emod_lt_of_pos _ hpos) h1
   rw [j1, Option.bind_some]
   refine ⟨r2, rfl, j2, ?_⟩
   rw [j3, key, Int.emod_add_emod, Int.mul_add, Int.mul_one]
  | false =>
   rw [if_neg (by simp), if_neg (by simp)]
   exact ⟨r1, rfl, k2, by rw [key, Int.add_zero]⟩)
 unfold field_mul.run field_mul.top
 rw [e1, Option.bind_some]
 exact ⟨o, rfl, e2, e3⟩
end Go.Bx
