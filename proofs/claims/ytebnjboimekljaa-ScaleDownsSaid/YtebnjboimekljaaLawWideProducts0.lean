/- A part of a framework that reads Go code as functions of plain data; or a law about such functions. -/
import Derived.Test.YtebnjboimekljaaLawRefTimes
import Derived.Test.YtebnjboimekljaaLawWideSums0
import Derived.Test.YtebnjboimekljaaFnScaleDowns0
namespace Go.Bx
open Go
set_option linter.unusedSimpArgs false
set_option linter.unusedVariables false

theorem shr32 {x : Int} (h : 0 ≤ x ∧ x < 18446744073709551616) : shrI .u64 x 32 = x / 4294967296 := by
  unfold shrI
  have h1 : min (32 : Int).toNat IntKind.u64.bits = 32 := rfl
  rw [h1, Int.fdiv_eq_ediv_of_nonneg _ (by decide)]
  rfl
theorem band32 {x : Int} (h : 0 ≤ x ∧ x < 18446744073709551616) : band .u64 x 4294967295 = x % 4294967296 := by
  obtain ⟨X, rfl⟩ : ∃ X : Nat, x = (X : Int) := ⟨x.toNat, by omega⟩
  have := band_nat (X := X) (Y := 4294967295) (by omega) (by decide)
  have e : ((4294967295 : Nat) : Int) = 4294967295 := rfl
  rw [e] at this
  rw [this]
  have h2 : X &&& 4294967295 = X % 4294967296 := Nat.and_two_pow_sub_one_eq_mod X 32
  rw [h2]; rfl

theorem mul64_run {x y : Int} (hx : 0 ≤ x ∧ x < 18446744073709551616) (hy : 0 ≤ y ∧ y < 18446744073709551616) :
    ∃ hi lo, math_bits_Mul64.run x y = some (hi, lo, ()) ∧ (0 ≤ hi ∧ hi < 18446744073709551616) ∧ (0 ≤ lo ∧ lo < 18446744073709551616) ∧ hi * 18446744073709551616 + lo = x * y := by
  have hx0 : 0 ≤ x % 4294967296 ∧ x % 4294967296 < 4294967296 := by omega
  have hx1 : 0 ≤ x / 4294967296 ∧ x / 4294967296 < 4294967296 := by omega
  have hy0 : 0 ≤ y % 4294967296 ∧ y % 4294967296 < 4294967296 := by omega
  have hy1 : 0 ≤ y / 4294967296 ∧ y / 4294967296 < 4294967296 := by omega
  have p00 := mul_lt32 hx0 hy0
  have p01 := mul_lt32 hx0 hy1
  have p10 := mul_lt32 hx1 hy0
  have p11 := mul_lt32 hx1 hy1
  have exy : x * y = (x / 4294967296) * (y / 4294967296) * 18446744073709551616 + ((x / 4294967296) * (y % 4294967296) + (x % 4294967296) * (y / 4294967296)) * 4294967296 + (x % 4294967296) * (y % 4294967296) := by
    have e1 : x = (x / 4294967296) * 4294967296 + x % 4294967296 := by omega
    have e2 : y = (y / 4294967296) * 4294967296 + y % 4294967296 := by omega
    conv => lhs; rw [e1, e2]
    generalize x / 4294967296 = a
    generalize x % 4294967296 = b
    generalize y / 4294967296 = c
    generalize y % 4294967296 = d
    rw [Int.add_mul, Int.mul_add, Int.mul_add]
    have f1 : a * 4294967296 * (c * 4294967296) = a * c * 18446744073709551616 := by
      rw [Int.mul_assoc, Int.mul_left_comm 4294967296 c, ← Int.mul_assoc]; rfl
    have f2 : a * 4294967296 * d = a * d * 4294967296 := by rw [Int.mul_assoc, Int.mul_comm 4294967296 d, ← Int.mul_assoc]
    have f3 : b * (c * 4294967296) = b * c * 4294967296 := by rw [← Int.mul_assoc]
    rw [f1, f2, f3]
    omega
  unfold math_bits_Mul64.run math_bits_Mul64.top
  rw [shr32 hx, shr32 hy, band32 hx, band32 hy, exy]
  generalize (x / 4294967296) * (y / 4294967296) = P11 at p11 ⊢
  generalize (x / 4294967296) * (y % 4294967296) = P10 at p10 ⊢
  generalize (x % 4294967296) * (y / 4294967296) = P01 at p01 ⊢
  generalize (x % 4294967296) * (y % 4294967296) = P00 at p00 ⊢
  rw [wrap_u64 (x := P00) (by omega) (by omega), shr32 (x := P00) (by omega), wrap_u64 (x := P10) (by omega) (by omega), wrap_u64 (x := P01) (by omega) (by omega), wrap_u64 (x := P11) (by omega) (by omega),
    wrap_u64 (x := P10 + P00 / 4294967296) (by omega) (by omega), band32 (x := P10 + P00 / 4294967296) (by omega), shr32 (x := P10 + P00 / 4294967296) (by omega),
    wrap_u64 (x := (P10 + P00 / 4294967296) % 4294967296 + P01) (by omega) (by omega), shr32 (x := (P10 + P00 / 4294967296) % 4294967296 + P01) (by omega),
    wrap_u64 (x := P11 + (P10 + P00 / 4294967296) / 4294967296) (by omega) (by omega), wrap_u64 (x := P11 + (P10 + P00 / 4294967296) / 4294967296 + ((P10 + P00 / 4294967296) % 4294967296 + P01) / 4294967296) (by omega) (by omega), wrap_u64_mod]
  refine ⟨_, _, rfl, by omega, by omega, by omega⟩

theorem mul_lt64 {x y : Int} (hx : 0 ≤ x ∧ x < 18446744073709551616) (hy : 0 ≤ y ∧ y < 18446744073709551616) : 0 ≤ x * y ∧ x * y ≤ 340282366920938463426481119284349108225 := by
  refine ⟨Int.mul_nonneg hx.1 hy.1, ?_⟩
  have := Int.mul_le_mul (show x ≤ 18446744073709551615 by omega) (show y ≤ 18446744073709551615 by omega) hy.1 (by omega)
  omega

theorem mul_inner {α : Type} (k : Nat) (Xt : Int → Int → List Int → Int → List Int → List Int → List Int → List Int → Option α) (b : List Int) (hb : digs B64 b) (hbl : b.length = 4) (i : Nat) (hi : i < 4) (x : Int) (hx : 0 ≤ x ∧ x < 18446744073709551616) (x15 : List Int) (x16 : Int) (c3 c4 c5 z : List Int) :
    ∀ (n j : Nat) (A t : List Int) (cy : Int), A.length = i + j → t.length = 4 - j → j ≤ 4 → 4 - j < n → (A ++ (t ++ z)).length = 8 → digs B64 t → (0 ≤ cy ∧ cy < 18446744073709551616) →
    ∃ r cy', wide_Mul.l1 k Xt n (i : Int) x cy x15 x16 b (j : Int) c3 c4 c5 (A ++ (t ++ z)) = Xt (i : Int) cy' x15 x16 c3 c4 c5 (A ++ (r ++ z)) ∧ r.length = t.length ∧ digs B64 r ∧ (0 ≤ cy' ∧ cy' < 18446744073709551616) ∧ val B64 r + B64 ^ t.length * cy' = val B64 t + x * val B64 (b.drop j) + cy
  | 0, j, A, t, cy, _, _, _, h, _, _, _ => by omega
  | n + 1, j, A, t, cy, hA, ht, hj, h, h8, hd, hc => by
    by_cases hlt : j < 4
    · obtain ⟨t0, t', rfl⟩ : ∃ t0 t', t = t0 :: t' := by
        cases t with
        | nil => simp at ht; omega
        | cons a l => exact ⟨a, l, rfl⟩
      obtain ⟨d0, d1⟩ := digs_cons.1 hd
      have dy := digs_getD B64_pos hb j
      simp only [B64] at d0 dy
      have hP := mul_lt64 hx dy
      obtain ⟨hh, lo, m1, m2, m3, m4⟩ := mul64_run hx dy
      obtain ⟨l2, o2, a1, a2, a3, a4⟩ := add64_spec m3 d0 (c := 0) (by omega)
      obtain ⟨l3, o3, b1, b2, b3, b4⟩ := add64_spec a2 hc (c := 0) (by omega)
      have hcy : 0 ≤ hh + o2 + o3 ∧ hh + o2 + o3 < 18446744073709551616 := by omega
      obtain ⟨r, cy', e1, e2, e3, e4, e5⟩ := mul_inner k Xt b hb hbl i hi x hx x15 x16 c3 c4 c5 z n (j + 1) (A ++ [l3]) t' (hh + o2 + o3) (by simp; omega) (by simp at ht; omega) (by omega) (by omega) (by simp at h8 ⊢; omega) d1 hcy
      refine ⟨l3 :: r, cy', ?_, by simp [e2], digs_cons.2 ⟨by simp only [B64]; omega, e3⟩, e4, ?_⟩
      · simp only [wide_Mul.l1, wide_Mul.l1s]
        have ew : IntKind.i64.wrap ((i : Int) + (j : Int)) = ((i + j : Nat) : Int) := by
          rw [wrap_i64 (by omega) (by omega)]; simp
        have eg : (A ++ (t0 :: t' ++ z)).getD (i + j) 0 = t0 := getD_mid hA
        have es : ∀ v, (A ++ (t0 :: t' ++ z)).set (i + j) v = A ++ [v] ++ (t' ++ z) := fun v => by
          rw [show t0 :: t' ++ z = t0 :: (t' ++ z) from rfl, set_mid hA]; simp
        rw [if_pos (by simp; omega), if_pos (by omega), ew, toNat_nat, toNat_nat, m1]
        simp only [Option.bind_some]
        rw [if_pos (by omega), eg, a1]
        simp only [Option.bind_some]
        rw [b1]
        simp only [Option.bind_some]
        rw [if_pos (by omega), es, i64_succ (by omega), wrap_u64 (x := hh + o2) (by omega) (by omega), wrap_u64 (x := hh + o2 + o3) (by omega) (by omega)]
        rw [e1]
        simp
      · rw [val_drop B64 b j]
        simp only [val, List.length_cons, Int.pow_succ]
        rw [Int.mul_comm (B64 ^ t'.length) B64, Int.mul_assoc, Int.mul_add x, Int.mul_left_comm x B64]
        generalize B64 ^ t'.length * cy' = P at e5 ⊢
        generalize x * val B64 (b.drop (j + 1)) = Q at e5 ⊢
        generalize x * b.getD j 0 = R at hP m4 e5 ⊢
        simp only [B64] at e5 ⊢
        omega
    · have ht0 : t = [] := List.eq_nil_of_length_eq_zero (by omega)
      subst ht0
      refine ⟨[], cy, ?_, rfl, digs_nil, hc, ?_⟩
      · simp only [wide_Mul.l1, wide_Mul.l1s]
        rw [if_neg (by simp; omega)]
      · rw [List.drop_eq_nil_of_le (by omega)]
        simp [val]

theorem mul_outer {α : Type} (k : Nat) (Xt : List Int → List Int → List Int → Option α) (a b : List Int) (ha : digs B64 a) (hb : digs B64 b) (hal : a.length = 4) (hl : b.length = 4) (hk : 4 < k) (c4 c5 : List Int) :
    ∀ (n i : Nat) (p : List Int), p.length = i + 4 → i ≤ 4 → 4 - i < n → digs B64 p →
    ∃ r, wide_Mul.l0 k Xt n a (i : Int) b c4 c5 (p ++ List.replicate (4 - i) 0) = Xt c4 c5 r ∧ r.length = 8 ∧ digs B64 r ∧ val B64 r = val B64 p + B64 ^ i * (val B64 (a.drop i) * val B64 b)
  | 0, i, p, _, _, h, _ => by omega
  | n + 1, i, p, hp, hi, h, hd => by
    by_cases hlt : i < 4
    · have dx := digs_getD B64_pos ha i
      simp only [B64] at dx
      have hsplit : p = p.take i ++ p.drop i := (List.take_append_drop i p).symm
      have hz : List.replicate (4 - i) (0 : Int) = 0 :: List.replicate (4 - (i + 1)) 0 := by
        rw [show 4 - i = (4 - (i + 1)) + 1 by omega, List.replicate_succ]
      obtain ⟨r, cy, e1, e2, e3, e4, e5⟩ := mul_inner k (fun (x7 : Int) (x9 : Int) (x15 : List Int) (x16 : Int) (c3 : List Int) (c4 : List Int) (c5 : List Int) (c6 : List Int) => wide_Mul.j0 (wide_Mul.l0 k Xt n) x7 x9 x15 x16 c3 c4 c5 c6) b hb hl i hlt (a.getD i 0) dx a (i : Int) b c4 c5 (List.replicate (4 - i) 0) k 0 (p.take i) (p.drop i) 0 (by simp; omega) (by simp; omega) (by omega) (by omega) (by simp; omega) (digs_drop hd i) (by omega)
      have hpl : (p.drop i).length = 4 := by simp; omega
      have hnew : (p.take i ++ r ++ [cy]).length = (i + 1) + 4 := by simp; omega
      have dnew : digs B64 (p.take i ++ r ++ [cy]) := digs_append (digs_append (digs_take hd i) e3) (digs_cons.2 ⟨by simp only [B64]; omega, digs_nil⟩)
      obtain ⟨r2, f1, f2, f3, f4⟩ := mul_outer k Xt a b ha hb hal hl hk c4 c5 n (i + 1) (p.take i ++ r ++ [cy]) hnew (by omega) (by omega) dnew
      refine ⟨r2, ?_, f2, f3, ?_⟩
      · simp only [wide_Mul.l0, wide_Mul.l0s]
        have ep : p ++ List.replicate (4 - i) 0 = p.take i ++ (p.drop i ++ List.replicate (4 - i) 0) := by
          conv => lhs; rw [hsplit]
          rw [List.append_assoc]
        rw [if_pos (by simp; omega), if_pos (by omega), toNat_nat, ep]
        refine Eq.trans e1 ?_
        unfold wide_Mul.j0 wide_Mul.j1
        have ew : IntKind.i64.wrap ((i : Int) + 4) = ((i + 4 : Nat) : Int) := by
          rw [wrap_i64 (by omega) (by omega)]; simp
        have hlen2 : (p.take i ++ r).length = i + 4 := by simp; omega
        have es : (p.take i ++ (r ++ List.replicate (4 - i) 0)).set (i + 4) cy = p.take i ++ r ++ [cy] ++ List.replicate (4 - (i + 1)) 0 := by
          rw [hz, ← List.append_assoc, set_mid hlen2]; simp
        rw [ew, if_pos (by omega), toNat_nat, es, i64_succ (by omega)]
        exact f1
      · rw [f4, val_append, val_append, show (p.take i ++ r).length = i + 4 by simp; omega]
        rw [val_drop B64 a i]
        have hv : val B64 p = val B64 (p.take i) + B64 ^ i * val B64 (p.drop i) := by
          conv => lhs; rw [hsplit]
          rw [val_append, List.length_take, Nat.min_eq_left (by omega)]
        rw [hv]
        rw [hpl] at e5
        simp only [val, Int.mul_zero, Int.add_zero, List.drop_zero] at e5 ⊢
        rw [List.length_take, Nat.min_eq_left (by omega), show B64 ^ (i + 4) = B64 ^ i * B64 ^ 4 from Int.pow_add .., show B64 ^ (i + 1) = B64 ^ i * B64 from Int.pow_succ ..]
        rw [Int.add_mul, Int.mul_add (B64 ^ i) (a.getD i 0 * val B64 b), Int.mul_assoc B64, Int.mul_assoc (B64 ^ i) B64, Int.mul_assoc (B64 ^ i) (B64 ^ 4)]
        have e6 : B64 ^ i * (val B64 r + B64 ^ 4 * cy) = B64 ^ i * (val B64 (p.drop i) + a.getD i 0 * val B64 b) := by rw [e5]
        rw [Int.mul_add, Int.mul_add] at e6
        omega
    · have hil : i = 4 := by omega
      subst hil
      refine ⟨p, ?_, by omega, hd, ?_⟩
      · simp only [wide_Mul.l0, wide_Mul.l0s]
        rw [if_neg (by simp)]
        simp
      · rw [List.drop_eq_nil_of_le (by omega)]
        simp [val]

theorem eight_of_len {l : List Int} (h : l.length = 8) : ∃ a b c d e f g i, l = [a, b, c, d, e, f, g, i] := by
  match l, h with
  | [a, b, c, d, e, f, g, i], _ => exact ⟨a, b, c, d, e, f, g, i, rfl⟩

theorem wide_mul {l m : List Int} (hl : l.length = 4) (hm : m.length = 4) (dl : digs B64 l) (dm : digs B64 m) :
    ∃ r s, wide_Mul.run l m = some (r, s, ()) ∧ r.length = 4 ∧ s.length = 4 ∧ digs B64 r ∧ digs B64 s ∧ val B64 r + M256 * val B64 s = val B64 l * val B64 m := by
  unfold wide_Mul.run wide_Mul.top
  have hz : digs B64 [0, 0, 0, 0] := fun d hd => by
    simp only [List.mem_cons, List.not_mem_nil, or_false] at hd
    simp only [B64]; omega
  have h0 := fun N (hN : 5 < N) => mul_outer N (fun (c4 : List Int) (c5 : List Int) (c6 : List Int) => wide_Mul.j2 (fun (c4 : List Int) (c5 : List Int) => some (c4, c5, ())) c4 c5 c6) l m dl dm hl hm (by omega) [0, 0, 0, 0] [0, 0, 0, 0] N 0 [0, 0, 0, 0] rfl (by omega) (by omega) hz
  obtain ⟨r, e1, e2, e3, e4⟩ := h0 fuel (by rw [fuel_big]; omega)
  obtain ⟨a, b, c, d, e, f, g, i, rfl⟩ := eight_of_len e2
  refine ⟨[a, b, c, d], [e, f, g, i], e1, rfl, rfl, digs_take e3 4, digs_drop e3 4, ?_⟩
  simp only [List.drop_zero] at e4
  have ez : val B64 [0, 0, 0, 0] = 0 := rfl
  rw [ez, Int.pow_zero, Int.one_mul, Int.zero_add] at e4
  rw [← e4]
  simp only [val, B64, M256]
  omega

theorem two_parts {r s r' s' : List Int} (h1 : r.length = 4) (h2 : s.length = 4) (h3 : r'.length = 4) (h4 : s'.length = 4) (d1 : digs B64 r) (d2 : digs B64 s) (d3 : digs B64 r') (d4 : digs B64 s') (h : val B64 r + M256 * val B64 s = val B64 r' + M256 * val B64 s') : r = r' ∧ s = s' := by
  have b1 := val4_bound h1 d1
  have b3 := val4_bound h3 d3
  simp only [M256] at h b1 b3
  exact ⟨words_eq h1 h3 d1 d3 (by omega), words_eq h2 h4 d2 d4 (by omega)⟩

end Go.Bx
