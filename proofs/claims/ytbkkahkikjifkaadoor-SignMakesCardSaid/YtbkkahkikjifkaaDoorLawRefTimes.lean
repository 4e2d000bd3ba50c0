/- A part of a framework that reads Go code as functions of plain data; or a law about such functions. -/
import Derived.Test.YtbkkahkikjifkaaDoorLawRefNum
import Derived.Test.YtbkkahkikjifkaaDoorFnSignMakes0
namespace Go.Bx
open Go
set_option linter.unusedSimpArgs false
set_option linter.unusedVariables false
theorem getD_mid {A : List Int} {x : Int} {Bs : List Int} {n : Nat} (h : A.length = n) : (A ++ x :: Bs).getD n 0 = x := by
 subst h
 simp [List.getD]
theorem set_mid {A : List Int} {x v : Int} {Bs : List Int} {n : Nat} (h : A.length = n) : (A ++ x :: Bs).set n v = A ++ v :: Bs := by
 subst h
 simp
theorem mul_lt32 {x y : Int} (hx : 0 <= x /\ x < 4294967296) (hy : 0 <= y /\ y < 4294967296) : 0 <= x * y /\ x * y <= 18446744065119617025 := by
 refine ⟨Int.mul_nonneg hx.1 hy.1, ?_⟩
 have := Int.mul_le_mul (show x <= 4294967295 by omega) (show y <= 4294967295 by omega) hy.1 (by omega)
 omega
theorem times_inner {α : Type} (k : Nat) (Xt : List Int -> Int -> Int -> List Int -> Int -> Int -> List Int -> Option α) (b : List Int) (hb : digs B32 b) (hl : b.length <= 1000000) (i : Nat) (hi : i <= 1000000) (x : Int) (hx : 0 <= x /\ x < 4294967296) (x18 : List Int) (x19 x20 : Int) (z : List Int) :
  ∀ (n j : Nat) (A t : List Int) (cy : Int), A.length = i + j -> t.length = b.length - j -> j <= b.length -> b.length - j < n -> digs B32 t -> (0 <= cy /\ cy < 4294967296) ->
  ∃ r cy', basculeref_times.l1 k Xt n b (i : Int) x cy x18 x19 x20 b (b.length : Int) (j : Int) (A ++ (t ++ z)) = Xt b (i : Int) cy' x18 x19 x20 (A ++ (r ++ z)) /\ r.length = t.length /\ digs B32 r /\ (0 <= cy' /\ cy' < 4294967296) /\ val B32 r + B32 ^ t.length * cy' = val B32 t + x * val B32 (b.drop j) + cy
 | 0, j, A, t, cy, _, _, _, h, _, _ => by omega
 | n + 1, j, A, t, cy, hA, ht, hj, h, hd, hc => by
  by_cases hlt : j < b.length
  ·obtain ⟨t0, t', rfl⟩ : ∃ t0 t', t = t0 :: t' := by
    cases t with
    | nil => simp at ht; omega
    | cons a l => exact ⟨a, l, rfl⟩
   obtain ⟨d0, d1⟩ := digs_cons.1 hd
   have dy := digs_getD B32_pos hb j
   simp only [B32] at d0 dy
   have hP := mul_lt32 hx dy
   obtain ⟨r, cy', e1, e2, e3, e4, e5⟩ := times_inner k Xt b hb hl i hi x hx x18 x19 x20 z n (j + 1) (A ++ [(x * b.getD j 0 + t0 + cy) % 4294967296]) t' ((x * b.getD j 0 + t0 + cy) / 4294967296) (by simp; omega) (by simp at ht; omega) (by omega) (by omega) d1 (by omega)
   refine ⟨(x * b.getD j 0 + t0 + cy) % 4294967296 :: r, cy', ?_, by simp [e2], digs_cons.2 ⟨by simp only [B32]; omega, e3⟩, e4, ?_⟩
   ·simp only [basculeref_times.l1, basculeref_times.l1s]
    have ew : IntKind.i64.wrap ((i : Int) + (j : Int)) = ((i + j : Nat) : Int) := by
     rw [wrap_i64 (by omega) (by omega)]; simp
    have hlen : i + j < (A ++ (t0 :: t' ++ z)).length := by simp; omega
    have eg : (A ++ (t0 :: t' ++ z)).getD (i + j) 0 = t0 := getD_mid hA
    have es : ∀ v, (A ++ (t0 :: t' ++ z)).set (i + j) v = A ++ [v] ++ (t' ++ z) := fun v => by
     rw [show t0 :: t' ++ z = t0 :: (t' ++ z) from rfl, set_mid hA]; simp
    rw [if_pos (by simp; omega), if_pos (by omega), ew, if_pos (by omega), if_pos (by omega), toNat_nat, toNat_nat, eg, es, i64_succ (by omega)]
    rw [wrap_u64 (x := x * b.getD j 0) (by omega) (by omega), wrap_u64 (x := x * b.getD j 0 + t0) (by omega) (by omega), wrap_u64 (x := x * b.getD j 0 + t0 + cy) (by omega) (by omega), tdiv_pos (by omega), tmod_pos (by omega), wrap_u64 (x := (x * b.getD j 0 + t0 + cy) / 4294967296) (by omega) (by omega)]
    rw [e1]
    simp
   ·rw [val_drop B32 b j]
    simp only [val, List.length_cons, Int.pow_succ]
    rw [Int.mul_comm (B32 ^ t'.length) B32, Int.mul_assoc, Int.mul_add x, Int.mul_left_comm x B32]
    generalize B32 ^ t'.length * cy' = P at e5 ⊢
    generalize x * val B32 (b.drop (j + 1)) = Q at e5 ⊢
    generalize x * b.getD j 0 = R at hP e5 ⊢
    simp only [B32] at e5 ⊢
    omega
  ·have ht0 : t = [] := List.eq_nil_of_length_eq_zero (by omega)
   subst ht0
   refine ⟨[], cy, ?_, rfl, digs_nil, hc, ?_⟩
   ·simp only [basculeref_times.l1, basculeref_times.l1s]
    rw [if_neg (by simp; omega)]
   ·rw [List.drop_eq_nil_of_le (by omega)]
    simp [val]
theorem times_outer {α : Type} (k : Nat) (Xt : List Int -> Option α) (a b : List Int) (ha : digs B32 a) (hb : digs B32 b) (hal : a.length <= 1000000) (hl : b.length <= 1000000) (hk : b.length < k) :
  ∀ (n i : Nat) (p : List Int), p.length = i + b.length -> i <= a.length -> a.length - i < n -> digs B32 p ->
  ∃ r, basculeref_times.l0 k Xt n b a (a.length : Int) (i : Int) (p ++ List.replicate (a.length - i) 0) = Xt r /\ r.length = a.length + b.length /\ digs B32 r /\ val B32 r = val B32 p + B32 ^ i * (val B32 (a.drop i) * val B32 b)
 | 0, i, p, _, _, h, _ => by omega
 | n + 1, i, p, hp, hi, h, hd => by
  by_cases hlt : i < a.length
  ·have dx := digs_getD B32_pos ha i
   simp only [B32] at dx
   have hsplit : p = p.take i ++ p.drop i := (List.take_append_drop i p).symm
   have hz : List.replicate (a.length - i) (0 : Int) = 0 :: List.replicate (a.length - (i + 1)) 0 := by
    rw [show a.length - i = (a.length - (i + 1)) + 1 by omega, List.replicate_succ]
   obtain ⟨r, cy, e1, e2, e3, e4, e5⟩ := times_inner k (fun (x1 : List Int) (x6 : Int) (x8 : Int) (x18 : List Int) (x19 : Int) (x20 : Int) (c17 : List Int) => basculeref_times.j0 (basculeref_times.l0 k Xt n) x1 x6 x8 x18 x19 x20 c17) b hb hl i (by omega) (a.getD i 0) dx a (a.length : Int) (i : Int) (List.replicate (a.length - i) 0) k 0 (p.take i) (p.drop i) 0 (by simp; omega) (by simp; omega) (by omega) (by omega) (digs_drop hd i) (by omega)
   have hpl : (p.drop i).length = b.length := by simp; omega
   have hnew : (p.take i ++ r ++ [cy]).length = (i + 1) + b.length := by simp; omega
   have dnew : digs B32 (p.take i ++ r ++ [cy]) := digs_append (digs_append (digs_take hd i) e3) (digs_cons.2 ⟨by simp only [B32]; omega, digs_nil⟩)
   obtain ⟨r2, f1, f2, f3, f4⟩ := times_outer k Xt a b ha hb hal hl hk n (i + 1) (p.take i ++ r ++ [cy]) hnew (by omega) (by omega) dnew
   refine ⟨r2, ?_, f2, f3, ?_⟩
   ·simp only [basculeref_times.l0, basculeref_times.l0s]
    have ep : p ++ List.replicate (a.length - i) 0 = p.take i ++ (p.drop i ++ List.replicate (a.length - i) 0) := by
     conv => lhs; rw [hsplit]
     rw [List.append_assoc]
    rw [if_pos (by simp; omega), if_pos (by omega), toNat_nat, ep]
    refine Eq.trans e1 ?_
    unfold basculeref_times.j0 basculeref_times.j1
    have ew : IntKind.i64.wrap ((i : Int) + (b.length : Int)) = ((i + b.length : Nat) : Int) := by
     rw [wrap_i64 (by omega) (by omega)]; simp
    have hlen2 : (p.take i ++ r).length = i + b.length := by simp; omega
    have es : (p.take i ++ (r ++ List.replicate (a.length - i) 0)).set (i + b.length) cy = p.take i ++ r ++ [cy] ++ List.replicate (a.length - (i + 1)) 0 := by
     rw [hz, <- List.append_assoc, set_mid hlen2]; simp
    rw [ew, if_pos (by simp; omega), toNat_nat, es, i64_succ (by omega)]
    exact f1
   ·rw [f4, val_append, val_append, hlen_aux hp e2 hpl]
    rw [val_drop B32 a i]
    have hv : val B32 p = val B32 (p.take i) + B32 ^ i * val B32 (p.drop i) := by
     conv => lhs; rw [hsplit]
     rw [val_append, List.length_take, Nat.min_eq_left (by omega)]
    rw [hv]
    rw [hpl] at e5
    simp only [val, Int.mul_zero, Int.add_zero, List.drop_zero] at e5 ⊢
    rw [List.length_take, Nat.min_eq_left (by omega), Int.pow_add, Int.pow_succ]
    rw [Int.add_mul, Int.mul_add (B32 ^ i) (a.getD i 0 * val B32 b), Int.mul_assoc B32, Int.mul_assoc (B32 ^ i) B32, Int.mul_assoc (B32 ^ i) (B32 ^ b.length)]
    have e6 : B32 ^ i * (val B32 r + B32 ^ b.length * cy) = B32 ^ i * (val B32 (p.drop i) + a.getD i 0 * val B32 b) := by rw [e5]
    rw [Int.mul_add, Int.mul_add] at e6
    omega
  ·have hil : i = a.length := by omega
   refine ⟨p, ?_, by omega, hd, ?_⟩
   ·simp only [basculeref_times.l0, basculeref_times.l0s]
    rw [if_neg (by simp; omega), show a.length - i = 0 by omega]
    simp
   ·rw [List.drop_eq_nil_of_le (by omega)]
    simp [val]
where
 hlen_aux {p r : List Int} {i lb : Nat} (hp : p.length = i + lb) (e2 : r.length = (p.drop i).length) (hpl : (p.drop i).length = lb) : (p.take i ++ r).length = i + lb := by
  simp; simp at e2; omega
theorem digs_zero (n : Nat) : digs B32 (List.replicate n 0) := fun d hd => by
 rw [List.mem_replicate] at hd
 rw [hd.2]; simp [B32]
theorem val_zero (B : Int) : ∀ n, val B (List.replicate n 0) = 0
 | 0 => rfl
 | n + 1 => by rw [List.replicate_succ]; simp [val, val_zero B n]
theorem ref_times {a b : List Int} (ha : digs B32 a) (hb : digs B32 b) (hal : a.length <= 1000000) (hl : b.length <= 1000000) :
  ∃ r, basculeref_times.run a b = some r /\ r.length = a.length + b.length /\ digs B32 r /\ val B32 r = val B32 a * val B32 b := by
 unfold basculeref_times.run basculeref_times.top basculeref_times.j2
 have ew : IntKind.i64.wrap ((a.length : Int) + (b.length : Int)) = ((a.length + b.length : Nat) : Int) := by
  rw [wrap_i64 (by omega) (by omega)]; simp
 have h0 := fun N (hN : a.length < N) (hk : b.length < N) => times_outer N (fun (c17 : List Int) => some c17) a b ha hb hal hl hk N 0 (List.replicate b.length 0) (by simp) (by omega) (by omega) (digs_zero _)
 obtain ⟨r, e1, e2, e3, e4⟩ := h0 fuel (by rw [fuel_big]; omega) (by rw [fuel_big]; omega)
 refine ⟨r, ?_, e2, e3, ?_⟩
 ·rw [ew, toNat_nat, if_pos ⟨by omega, rfl, fitB_small (by omega) (by decide)⟩]
  rw [Nat.add_comm a.length, <- List.replicate_append_replicate]
  exact e1
 ·rw [e4, val_zero]
  simp
end Go.Bx
