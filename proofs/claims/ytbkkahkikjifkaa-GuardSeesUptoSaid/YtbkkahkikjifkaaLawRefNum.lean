/- A part of a framework that reads Go code as functions of plain data; or a law about such functions. -/
import Derived.Test.YtbkkahkikjifkaaLawNum
import Derived.Test.YtbkkahkikjifkaaFnGuardSees0
namespace Go.Bx
open Go
set_option linter.unusedSimpArgs false
set_option linter.unusedVariables false
theorem four_of_len {l : List Int} (h : l.length = 4) : ∃ a b c d, l = [a, b, c, d] := by
 match l, h with
 | [a, b, c, d], _ => exact ⟨a, b, c, d, rfl⟩
theorem of_eq (a b c d : Int) : basculeref_of.run [a, b, c, d] = some [Int.tmod a 4294967296, IntKind.u64.wrap (Int.tdiv a 4294967296), Int.tmod b 4294967296, IntKind.u64.wrap (Int.tdiv b 4294967296), Int.tmod c 4294967296, IntKind.u64.wrap (Int.tdiv c 4294967296), Int.tmod d 4294967296, IntKind.u64.wrap (Int.tdiv d 4294967296)] := by kernel_rfl
theorem ref_of {l : List Int} (hl : l.length = 4) (hd : digs B64 l) : ∃ o, basculeref_of.run l = some o /\ o.length = 8 /\ digs B32 o /\ val B32 o = val B64 l := by
 obtain ⟨a, b, c, d, rfl⟩ := four_of_len hl
 have ha := hd a (by simp)
 have hb := hd b (by simp)
 have hc := hd c (by simp)
 have hdd := hd d (by simp)
 simp only [B64] at ha hb hc hdd
 refine ⟨_, of_eq a b c d, rfl, ?_, ?_⟩
 ·rw [tdiv_pos ha.1, tdiv_pos hb.1, tdiv_pos hc.1, tdiv_pos hdd.1, tmod_pos ha.1, tmod_pos hb.1, tmod_pos hc.1, tmod_pos hdd.1,
   wrap_u64 (x := a / _) (by omega) (by omega), wrap_u64 (x := b / _) (by omega) (by omega), wrap_u64 (x := c / _) (by omega) (by omega), wrap_u64 (x := d / _) (by omega) (by omega)]
  intro x hx
  simp only [List.mem_cons, List.not_mem_nil, or_false] at hx
  simp only [B32]
  rcases hx with rfl | rfl | rfl | rfl | rfl | rfl | rfl | rfl <;> omega
 ·rw [tdiv_pos ha.1, tdiv_pos hb.1, tdiv_pos hc.1, tdiv_pos hdd.1, tmod_pos ha.1, tmod_pos hb.1, tmod_pos hc.1, tmod_pos hdd.1,
   wrap_u64 (x := a / _) (by omega) (by omega), wrap_u64 (x := b / _) (by omega) (by omega), wrap_u64 (x := c / _) (by omega) (by omega), wrap_u64 (x := d / _) (by omega) (by omega)]
  simp only [val, B32, B64]
  omega
theorem compare_loop {α : Type} (k : Nat) (Rt : Int -> Option α) (Xt : Option α) (a b : List Int) (ha : digs B32 a) (hb : digs B32 b) (h1 : a.length <= 1000000) (h2 : b.length <= 1000000) : ∀ (n i : Nat), i < n -> i <= max a.length b.length ->
  basculeref_compare.l0 k Rt Xt n a b ((i : Int) - 1) = if val B32 (a.take i) < val B32 (b.take i) then Rt (-1) else if val B32 (a.take i) > val B32 (b.take i) then Rt 1 else Xt
 | 0, i, h, _ => by omega
 | n + 1, 0, h, _ => by
  simp only [basculeref_compare.l0, basculeref_compare.l0s]
  rw [if_neg (by simp)]
  simp [val]
 | n + 1, j + 1, h, hm => by
  have e : ((j + 1 : Nat) : Int) - 1 = (j : Int) := by omega
  rw [e]
  have da := digs_getD B32_pos ha j
  have db := digs_getD B32_pos hb j
  have hj : basculeref_compare.l0 k Rt Xt (n + 1) a b (j : Int) = basculeref_compare.j1 (basculeref_compare.l0 k Rt Xt n) Rt a b (j : Int) (a.getD j 0) (b.getD j 0) := by
   simp only [basculeref_compare.l0, basculeref_compare.l0s, basculeref_compare.j0]
   rw [if_pos (by simp)]
   by_cases h1 : j < a.length
   ·rw [if_pos (by simp; omega), if_pos (by omega), toNat_nat]
    by_cases h2 : j < b.length
    ·rw [if_pos (by simp; omega), if_pos (by omega)]
    ·rw [if_neg (by simp; omega), getD_out h2]
   ·rw [if_neg (by simp; omega), getD_out h1, toNat_nat]
    by_cases h2 : j < b.length
    ·rw [if_pos (by simp; omega), if_pos (by omega)]
    ·rw [if_neg (by simp; omega), getD_out h2]
  rw [hj]
  unfold basculeref_compare.j1
  have ta := val_take_bound B32_pos ha j
  have tb := val_take_bound B32_pos hb j
  rw [val_take B32 a j, val_take B32 b j]
  have hP := pow_pos' B32_pos j
  generalize B32 ^ j = P at ta tb hP ⊢
  generalize a.getD j 0 = x at da ⊢
  generalize b.getD j 0 = y at db ⊢
  rcases Int.lt_trichotomy x y with hxy | hxy | hxy
  ·have := Int.mul_le_mul_of_nonneg_left (show x + 1 <= y by omega) (Int.le_of_lt hP)
   rw [Int.mul_add, Int.mul_one] at this
   rw [if_pos (by simpa using hxy), if_pos (by omega)]
  ·subst hxy
   rw [if_neg (by simp), if_neg (by simp), show IntKind.i64.wrap ((j : Int) - 1) = (j : Int) - 1 from wrap_i64 (by omega) (by omega)]
   rw [compare_loop k Rt Xt a b ha hb h1 h2 n j (by omega) (by omega)]
   congr 1
   ·exact propext ⟨fun h => by omega, fun h => by omega⟩
   ·congr 1
    exact propext ⟨fun h => by omega, fun h => by omega⟩
  ·have := Int.mul_le_mul_of_nonneg_left (show y + 1 <= x by omega) (Int.le_of_lt hP)
   rw [Int.mul_add, Int.mul_one] at this
   rw [if_neg (by simp; omega), if_pos (by simpa using hxy), if_neg (by omega), if_pos (by omega)]
theorem ref_compare {a b : List Int} (ha : digs B32 a) (hb : digs B32 b) (h1 : a.length <= 1000000) (h2 : b.length <= 1000000) :
  basculeref_compare.run a b = some (if val B32 a < val B32 b then -1 else if val B32 a > val B32 b then 1 else 0) := by
 unfold basculeref_compare.run basculeref_compare.top basculeref_compare.j2
 have h0 := fun N (hN : max a.length b.length < N) => compare_loop N (fun (x4 : Int) => some x4) (some (0 : Int)) a b ha hb h1 h2 N (max a.length b.length) hN (Nat.le_refl _)
 have e := h0 fuel (by rw [fuel_big]; omega)
 rw [List.take_of_length_le (by omega), List.take_of_length_le (by omega)] at e
 have ei : IntKind.i64.wrap ((if (b.length : Int) > (a.length : Int) then (b.length : Int) else (a.length : Int)) - 1) = ((max a.length b.length : Nat) : Int) - 1 := by
  rw [wrap_i64 (by split <;> omega) (by split <;> omega)]
  split <;> omega
 rw [ei]
 refine Eq.trans e ?_
 split
 ·rfl
 ·split <;> rfl
end Go.Bx
