/- A part of a framework that reads Go code as functions of plain data; or a law about such functions. -/
import Derived.Test.YtbkkahkikjifkaaDoorLawNum
import Derived.Test.YtbkkahkikjifkaaDoorFnSignMakes0
namespace Go.Bx
open Go
set_option linter.unusedSimpArgs false
set_option linter.unusedVariables false
theorem four_of_len {l : List Int} (h : l.length = 4) : ∃ a b c d, l = [a, b, c, d] := by
 match l, h with
 | [a, b, c, d], _ => exact ⟨a, b, c, d, rfl⟩
theorem of_eq (a b c d : Int) : basculeref_of.run [a, b, c, d] = some [Int.tmod a 4294967296, IntKind.u64.wrap (Int.tdiv a 4294967296), Int.tmod b 4294967296, IntKind.u64.wrap (Int.tdiv b 4294967296), Int.tmod c 4294967296, IntKind.u64.wrap (Int.tdiv c 4294967296), Int.tmod d 4294967296, IntKind.u64.wrap (Int.tdiv d 4294967296)] := by kernel_rfl
theorem ref_of {l : List Int} (hl : l.length = 4) (hd : digs B64 l) : ∃ o, basculeref_of.run l = some o /\ o.length = 8 /\ digs B32 o /\ val B32 o = val B64 l := by
 obtain ⟨a, b, c, d, rfl⟩ := four_of_len hl
 have ha := hd a (by simp)
 have hb := hd b (by simp)
 have hc := hd c (by simp)
 have hdd := hd d (by simp)
 simp only [B64] at ha hb hc hdd
 refine ⟨_, of_eq a b c d, rfl, ?_, ?_⟩
 ·rw [tdiv_pos ha.1, tdiv_pos hb.1, tdiv_pos hc.1, tdiv_pos hdd.1, tmod_pos ha.1, tmod_pos hb.1, tmod_pos hc.1, tmod_pos hdd.1,
   wrap_u64 (x := a / _) (by omega) (by omega), wrap_u64 (x := b / _) (by omega) (by omega), wrap_u64 (x := c / _) (by omega) (by omega), wrap_u64 (x := d / _) (by omega) (by omega)]
  intro x hx
  simp only [List.mem_cons, List.not_mem_nil, or_false] at hx
  simp only [B32]
  rcases hx with rfl | rfl | rfl | rfl | rfl | rfl | rfl | rfl <;> omega
 ·rw [tdiv_pos ha.1, tdiv_pos hb.1, tdiv_pos hc.1, tdiv_pos hdd.1, tmod_pos ha.1, tmod_pos hb.1, tmod_pos hc.1, tmod_pos hdd.1,
   wrap_u64 (x := a / _) (by omega) (by omega), wrap_u64 (x := b / _) (by omega) (by omega), wrap_u64 (x := c / _) (by omega) (by omega), wrap_u64 (x := d / _) (by omega) (by omega)]
  simp only [val, B32, B64]
  omega
theorem plus_loop {α : Type} (k : Nat) (Xt : Int -> List Int -> Option α) (a b : List Int) (ha : digs B32 a) (hb : digs B32 b) (M : Nat) (hM : M = max a.length b.length) (hs : M <= 1000000) : ∀ (n i : Nat) (c : Int) (acc : List Int), (0 <= c /\ c <= 1) -> i <= M -> M - i < n -> acc.length <= i ->
  ∃ r c', basculeref_plus.l0 k Xt n a b c (i : Int) acc = Xt c' (acc ++ r) /\ (0 <= c' /\ c' <= 1) /\ r.length = M - i /\ digs B32 r /\ val B32 r + B32 ^ (M - i) * c' = val B32 (a.drop i) + val B32 (b.drop i) + c
 | 0, i, c, acc, _, _, h, _ => by omega
 | n + 1, i, c, acc, hc, hi, h, hacc => by
  by_cases hlt : i < M
  ·have da := digs_getD B32_pos ha i
   have db := digs_getD B32_pos hb i
   simp only [B32] at da db
   obtain ⟨r, c', e1, e2, e3, e4, e5⟩ := plus_loop k Xt a b ha hb M hM hs n (i + 1) ((c + a.getD i 0 + b.getD i 0) / 4294967296) (acc ++ [(c + a.getD i 0 + b.getD i 0) % 4294967296]) (by omega) (by omega) (by omega) (by simp; omega)
   have hj : basculeref_plus.l0 k Xt (n + 1) a b c (i : Int) acc = basculeref_plus.j1 (basculeref_plus.l0 k Xt n) a b (i : Int) (c + a.getD i 0 + b.getD i 0) acc := by
    simp only [basculeref_plus.l0, basculeref_plus.l0s, basculeref_plus.j0]
    rw [cond_or, if_pos (by simp; omega)]
    rw [toNat_nat, wrap_u64 (x := c + a.getD i 0) (by omega) (by omega), wrap_u64 (x := c + a.getD i 0 + b.getD i 0) (by omega) (by omega), wrap_u64 (x := c + b.getD i 0) (by omega) (by omega)]
    by_cases h1 : i < a.length
    ·rw [if_pos (by simp; omega), if_pos (by omega)]
     by_cases h2 : i < b.length
     ·rw [if_pos (by simp; omega), if_pos (by omega)]
     ·rw [if_neg (by simp; omega), getD_out h2, Int.add_zero]
    ·rw [if_neg (by simp; omega), getD_out h1, Int.add_zero]
     by_cases h2 : i < b.length
     ·rw [if_pos (by simp; omega), if_pos (by omega)]
     ·omega
   refine ⟨(c + a.getD i 0 + b.getD i 0) % 4294967296 :: r, c', ?_, e2, by simp; omega, digs_cons.2 ⟨by simp only [B32]; omega, e4⟩, ?_⟩
   ·rw [hj]
    unfold basculeref_plus.j1
    rw [if_pos (fitB_small (by omega) (by decide)), tdiv_pos (by omega), tmod_pos (by omega), wrap_u64 (by omega) (by omega), i64_succ (by omega), e1]
    simp
   ·rw [show M - i = (M - (i + 1)) + 1 by omega, Int.pow_succ, Int.mul_comm (B32 ^ _) B32, Int.mul_assoc]
    simp only [val]
    rw [val_drop B32 a i, val_drop B32 b i]
    generalize B32 ^ (M - (i + 1)) * c' = P at e5 ⊢
    simp only [B32] at e5 ⊢
    omega
  ·have hiM : i = M := by omega
   refine ⟨[], c, ?_, hc, by simp; omega, digs_nil, ?_⟩
   ·simp only [basculeref_plus.l0, basculeref_plus.l0s]
    rw [cond_or, if_neg (by simp; omega)]
    simp
   ·rw [List.drop_eq_nil_of_le (by omega), List.drop_eq_nil_of_le (by omega), show M - i = 0 by omega]
    simp [val]
theorem ref_plus {a b : List Int} (ha : digs B32 a) (hb : digs B32 b) (h1 : a.length <= 1000000) (h2 : b.length <= 1000000) :
  ∃ r, basculeref_plus.run a b = some r /\ r.length = max a.length b.length + 1 /\ digs B32 r /\ val B32 r = val B32 a + val B32 b := by
 unfold basculeref_plus.run basculeref_plus.top
 have h0 := fun N (hN : max a.length b.length < N) => plus_loop N (fun (x6 : Int) (c46 : List Int) => basculeref_plus.j2 (fun (c46 : List Int) => some c46) x6 c46) a b ha hb _ rfl (by omega) N 0 0 [] (by omega) (by omega) (by omega) (by simp)
 obtain ⟨r, c', e1, e2, e3, e4, e5⟩ := h0 fuel (by rw [fuel_big]; omega)
 refine ⟨r ++ [c'], ?_, by simp; omega, digs_append e4 (digs_cons.2 ⟨by simp only [B32]; omega, digs_nil⟩), ?_⟩
 ·refine Eq.trans e1 ?_
  unfold basculeref_plus.j2
  rw [List.nil_append, if_pos (fitB_small (by omega) (by decide))]
 ·rw [val_append, e3]
  simp only [val, Int.mul_zero, Int.add_zero, List.drop_zero] at e5 ⊢
  exact e5
theorem compare_loop {α : Type} (k : Nat) (Rt : Int -> Option α) (Xt : Option α) (a b : List Int) (ha : digs B32 a) (hb : digs B32 b) (h1 : a.length <= 1000000) (h2 : b.length <= 1000000) : ∀ (n i : Nat), i < n -> i <= max a.length b.length ->
  basculeref_compare.l0 k Rt Xt n a b ((i : Int) - 1) = if val B32 (a.take i) < val B32 (b.take i) then Rt (-1) else if val B32 (a.take i) > val B32 (b.take i) then Rt 1 else Xt
 | 0, i, h, _ => by omega
 | n + 1, 0, h, _ => by
  simp only [basculeref_compare.l0, basculeref_compare.l0s]
  rw [if_neg (by simp)]
  simp [val]
 | n + 1, j + 1, h, hm => by
  have e : ((j + 1 : Nat) : Int) - 1 = (j : Int) := by omega
  rw [e]
  have da := digs_getD B32_pos ha j
  have db := digs_getD B32_pos hb j
  have hj : basculeref_compare.l0 k Rt Xt (n + 1) a b (j : Int) = basculeref_compare.j1 (basculeref_compare.l0 k Rt Xt n) Rt a b (j : Int) (a.getD j 0) (b.getD j 0) := by
   simp only [basculeref_compare.l0, basculeref_compare.l0s, basculeref_compare.j0]
   rw [if_pos (by simp)]
   by_cases h1 : j < a.length
   ·rw [if_pos (by simp; omega), if_pos (by omega), toNat_nat]
    by_cases h2 : j < b.length
    ·rw [if_pos (by simp; omega), if_pos (by omega)]
    ·rw [if_neg (by simp; omega), getD_out h2]
   ·rw [if_neg (by simp; omega), getD_out h1, toNat_nat]
    by_cases h2 : j < b.length
    ·rw [if_pos (by simp; omega), if_pos (by omega)]
    ·rw [if_neg (by simp; omega), getD_out h2]
  rw [hj]
  unfold basculeref_compare.j1
  have ta := val_take_bound B32_pos ha j
  have tb := val_take_bound B32_pos hb j
  rw [val_take B32 a j, val_take B32 b j]
  have hP := pow_pos' B32_pos j
  generalize B32 ^ j = P at ta tb hP ⊢
  generalize a.getD j 0 = x at da ⊢
  generalize b.getD j 0 = y at db ⊢
  rcases Int.lt_trichotomy x y with hxy | hxy | hxy
  ·have := Int.mul_le_mul_of_nonneg_left (show x + 1 <= y by omega) (Int.le_of_lt hP)
   rw [Int.mul_add, Int.mul_one] at this
   rw [if_pos (by simpa using hxy), if_pos (by omega)]
  ·subst hxy
   rw [if_neg (by simp), if_neg (by simp), show IntKind.i64.wrap ((j : Int) - 1) = (j : Int) - 1 from wrap_i64 (by omega) (by omega)]
   rw [compare_loop k Rt Xt a b ha hb h1 h2 n j (by omega) (by omega)]
   congr 1
   ·exact propext ⟨fun h => by omega, fun h => by omega⟩
   ·congr 1
    exact propext ⟨fun h => by omega, fun h => by omega⟩
  ·have := Int.mul_le_mul_of_nonneg_left (show y + 1 <= x by omega) (Int.le_of_lt hP)
   rw [Int.mul_add, Int.mul_one] at this
   rw [if_neg (by simp; omega), if_pos (by simpa using hxy), if_neg (by omega), if_pos (by omega)]
theorem ref_compare {a b : List Int} (ha : digs B32 a) (hb : digs B32 b) (h1 : a.length <= 1000000) (h2 : b.length <= 1000000) :
  basculeref_compare.run a b = some (if val B32 a < val B32 b then -1 else if val B32 a > val B32 b then 1 else 0) := by
 unfold basculeref_compare.run basculeref_compare.top basculeref_compare.j2
 have h0 := fun N (hN : max a.length b.length < N) => compare_loop N (fun (x4 : Int) => some x4) (some (0 : Int)) a b ha hb h1 h2 N (max a.length b.length) hN (Nat.le_refl _)
 have e := h0 fuel (by rw [fuel_big]; omega)
 rw [List.take_of_length_le (by omega), List.take_of_length_le (by omega)] at e
 have ei : IntKind.i64.wrap ((if (b.length : Int) > (a.length : Int) then (b.length : Int) else (a.length : Int)) - 1) = ((max a.length b.length : Nat) : Int) - 1 := by
  rw [wrap_i64 (by split <;> omega) (by split <;> omega)]
  split <;> omega
 rw [ei]
 refine Eq.trans e ?_
 split
 ·rfl
 ·split <;> rfl
theorem less_loop {α : Type} (k : Nat) (Xt : List Int -> Option α) (b : List Int) (hb : digs B32 b) (L : Nat) (hL : L <= 1000000) (hbl : b.length <= L) : ∀ (n i : Nat) (br : Int) (c : List Int), (0 <= br /\ br <= 1) -> c.length = L -> digs B32 c -> i <= L -> L - i < n ->
  ∃ r b', basculeref_less.l0 k Xt n b br (L : Int) (i : Int) c = Xt (c.take i ++ r) /\ (0 <= b' /\ b' <= 1) /\ r.length = L - i /\ digs B32 r /\ val B32 r = val B32 (c.drop i) - val B32 (b.drop i) - br + B32 ^ (L - i) * b'
 | 0, i, br, c, _, _, _, _, h => by omega
 | n + 1, i, br, c, hbr, hcl, hc, hi, h => by
  by_cases hlt : i < L
  ·have dc := digs_getD B32_pos hc i
   have db := digs_getD B32_pos hb i
   simp only [B32] at dc db
   have hic : i < c.length := by omega
   have hj : basculeref_less.l0 k Xt (n + 1) b br (L : Int) (i : Int) c = basculeref_less.j0 (basculeref_less.l0 k Xt n) b (i : Int) (br + b.getD i 0) (L : Int) (i : Int) c := by
    simp only [basculeref_less.l0, basculeref_less.l0s]
    rw [if_pos (by simp; omega)]
    by_cases h1 : i < b.length
    ·rw [if_pos (by simp; omega), if_pos (by omega), toNat_nat, wrap_u64 (by omega) (by omega)]
    ·rw [if_neg (by simp; omega), getD_out h1, Int.add_zero]
   have key : ∃ v br', basculeref_less.j0 (basculeref_less.l0 k Xt n) b (i : Int) (br + b.getD i 0) (L : Int) (i : Int) c = basculeref_less.l0 k Xt n b br' (L : Int) ((i + 1 : Nat) : Int) (c.set i v) /\ (0 <= br' /\ br' <= 1) /\ (0 <= v /\ v < 4294967296) /\ v = c.getD i 0 - (br + b.getD i 0) + 4294967296 * br' := by
    unfold basculeref_less.j0
    rw [if_pos (by omega), toNat_nat]
    by_cases hcx : c.getD i 0 < br + b.getD i 0
    ·rw [if_pos (by simpa using hcx), if_pos (by omega), if_pos (by omega)]
     unfold basculeref_less.j1
     have hg : (c.set i (IntKind.u64.wrap (c.getD i 0 + 4294967296))).getD (i : Int).toNat 0 = c.getD i 0 + 4294967296 := by
      rw [toNat_nat, getD_eq (by simpa using hic), List.getElem_set_self, wrap_u64 (by omega) (by omega)]
     rw [if_pos (by simp; omega), if_pos (by simp; omega), hg, i64_succ (by omega), toNat_nat, List.set_set, wrap_u64 (x := c.getD i 0 + 4294967296 - _) (by omega) (by omega)]
     exact ⟨_, 1, rfl, by omega, by omega, by omega⟩
    ·rw [if_neg (by simpa using hcx)]
     unfold basculeref_less.j1
     rw [if_pos (by omega), if_pos (by omega), i64_succ (by omega), toNat_nat, wrap_u64 (x := c.getD i 0 - _) (by omega) (by omega)]
     exact ⟨_, 0, rfl, by omega, by omega, by omega⟩
   obtain ⟨v, br', k1, k2, k3, k4⟩ := key
   have hset : digs B32 (c.set i v) := fun d hd => by
    rcases List.mem_or_eq_of_mem_set hd with hd | rfl
    ·exact hc d hd
    ·simp only [B32]; omega
   obtain ⟨r, b', e1, e2, e3, e4, e5⟩ := less_loop k Xt b hb L hL hbl n (i + 1) br' (c.set i v) k2 (by simpa using hcl) hset (by omega) (by omega)
   have ht : (c.set i v).take (i + 1) = c.take i ++ [v] := by
    rw [List.take_succ_eq_append_getElem (by simpa using hic), List.getElem_set_self, List.take_set_of_le (Nat.le_refl i)]
   have hdp : (c.set i v).drop (i + 1) = c.drop (i + 1) := List.drop_set_of_lt (by omega)
   refine ⟨v :: r, b', ?_, e2, by simp; omega, digs_cons.2 ⟨by simp only [B32]; omega, e4⟩, ?_⟩
   ·rw [hj, k1, e1, ht]; simp
   ·rw [hdp] at e5
    rw [show L - i = (L - (i + 1)) + 1 by omega, Int.pow_succ, Int.mul_comm (B32 ^ _) B32, Int.mul_assoc]
    simp only [val]
    rw [val_drop B32 c i, val_drop B32 b i]
    generalize B32 ^ (L - (i + 1)) * b' = P at e5 ⊢
    simp only [B32] at e5 ⊢
    omega
  ·refine ⟨[], br, ?_, hbr, by simp; omega, digs_nil, ?_⟩
   ·simp only [basculeref_less.l0, basculeref_less.l0s]
    rw [if_neg (by simp; omega), List.take_of_length_le (by omega)]
    simp
   ·rw [List.drop_eq_nil_of_le (by omega), List.drop_eq_nil_of_le (by omega), show L - i = 0 by omega]
    simp [val]; omega
theorem ref_less {a b : List Int} (ha : digs B32 a) (hb : digs B32 b) (h1 : a.length <= 1000000) (h2 : b.length <= a.length) (hle : val B32 b <= val B32 a) :
  ∃ r, basculeref_less.run a b = some r /\ r.length = a.length /\ digs B32 r /\ val B32 r = val B32 a - val B32 b := by
 unfold basculeref_less.run basculeref_less.top basculeref_less.j2
 rw [if_pos (by rw [fitB_small (by omega) (by decide)]; rfl)]
 have h0 := fun N (hN : a.length < N) => less_loop N (fun (c11 : List Int) => some c11) b hb a.length h1 h2 N 0 0 a (by omega) rfl ha (by omega) (by omega)
 obtain ⟨r, b', e1, e2, e3, e4, e5⟩ := h0 fuel (by rw [fuel_big]; omega)
 refine ⟨r, ?_, by omega, e4, ?_⟩
 ·refine Eq.trans e1 ?_
  simp
 ·have hbd := val_bound B32_pos e4
  rw [e3] at hbd
  rw [List.drop_zero, List.drop_zero, Int.sub_zero] at e5
  generalize B32 ^ (a.length - 0) = P at e5 hbd
  have : b' = 0 \/ b' = 1 := by omega
  rcases this with rfl | rfl
  ·rw [Int.mul_zero] at e5; omega
  ·rw [Int.mul_one] at e5; omega
end Go.Bx
