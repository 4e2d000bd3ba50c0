/- A part of a framework that reads Go code as functions of plain data; or a law about such functions. -/
import Derived.Test.YtbkkahkikjifkaaDoorLawRefNum
import Derived.Test.YtbkkahkikjifkaaDoorFnSignMakes0
namespace Go.Bx
open Go
set_option linter.unusedSimpArgs false
set_option linter.unusedVariables false
theorem shl32 {x : Int} (h : 0 <= x /\ x < 4294967296) : shlI .u64 x 32 = x * 4294967296 := by
 unfold shlI
 have h1 : min (32 : Int).toNat IntKind.u64.bits = 32 := rfl
 rw [h1]
 have h2 : (2 : Int) ^ 32 = 4294967296 := rfl
 rw [h2]
 exact wrap_u64 (by omega) (by omega)
theorem shl0 {x : Int} (h : 0 <= x /\ x < 4294967296) : shlI .u64 x 0 = x := by
 unfold shlI
 have h1 : min (0 : Int).toNat IntKind.u64.bits = 0 := rfl
 rw [h1, Int.pow_zero, Int.mul_one]
 exact wrap_u64 (by omega) (by omega)
theorem bor0 {x : Int} (h : 0 <= x /\ x < 4294967296) : bor .u64 0 x = x := by
 obtain ⟨X, rfl⟩ : ∃ X : Nat, x = (X : Int) := ⟨x.toNat, by omega⟩
 have := bor_nat (X := 0) (Y := X) (by decide) (by omega)
 simpa using this
theorem bor32 {x y : Int} (h : 0 <= x /\ x < 4294967296) (g : 0 <= y /\ y < 4294967296) : bor .u64 x (y * 4294967296) = x + y * 4294967296 := by
 obtain ⟨X, rfl⟩ : ∃ X : Nat, x = (X : Int) := ⟨x.toNat, by omega⟩
 obtain ⟨Y, rfl⟩ : ∃ Y : Nat, y = (Y : Int) := ⟨y.toNat, by omega⟩
 have e : ((Y : Int) * 4294967296) = ((Y * 4294967296 : Nat) : Int) := by simp
 rw [e, bor_nat (by omega) (by omega)]
 have h2 : X ||| Y * 4294967296 = X + Y * 4294967296 := by
  have := Nat.two_pow_add_eq_or_of_lt (i := 32) (b := X) (by omega) Y
  have e2 : (2 : Nat) ^ 32 = 4294967296 := rfl
  rw [e2, Nat.mul_comm] at this
  rw [Nat.or_comm, <- this, Nat.add_comm]
 rw [h2]; simp
def wordsUp (l : List Int) (i : Nat) : List Int :=
 let g := fun m : Nat => if m < i then l.getD m 0 else 0
 [g 0 + g 1 * 4294967296, g 2 + g 3 * 4294967296, g 4 + g 5 * 4294967296, g 6 + g 7 * 4294967296]
theorem wide_loop {α : Type} (k : Nat) (Xt : Bool -> List Int -> List Int -> Option α) (l : List Int) (hd : digs B32 l) (hl : l.length <= 1000000) (c2 : List Int) : ∀ (n i : Nat) (f : Bool), i <= l.length -> l.length - i < n ->
  ∃ f', basculeref_wide.l0 k Xt n f l (l.length : Int) (i : Int) c2 (wordsUp l i) = Xt f' c2 (wordsUp l (max i (min l.length 8))) /\ (f' = true ↔ f = true \/ val B32 (l.drop (max i 8)) ≠ 0)
 | 0, i, f, _, h => by omega
 | n + 1, i, f, hi, h => by
  by_cases hlt : i < l.length
  ·have dg := digs_getD B32_pos hd i
   simp only [B32] at dg
   by_cases h8 : 8 <= i
   ·obtain ⟨f', e1, e2⟩ := wide_loop k Xt l hd hl c2 n (i + 1) (cond f true (l.getD i 0 != 0)) (by omega) (by omega)
    have hw : wordsUp l (i + 1) = wordsUp l i := by
     unfold wordsUp
     simp only [show (0 < i + 1) from by omega, show (1 < i + 1) from by omega, show (2 < i + 1) from by omega, show (3 < i + 1) from by omega, show (4 < i + 1) from by omega, show (5 < i + 1) from by omega, show (6 < i + 1) from by omega, show (7 < i + 1) from by omega,
      show (0 < i) from by omega, show (1 < i) from by omega, show (2 < i) from by omega, show (3 < i) from by omega, show (4 < i) from by omega, show (5 < i) from by omega, show (6 < i) from by omega, show (7 < i) from by omega]
    have hw2 : wordsUp l (max (i + 1) (min l.length 8)) = wordsUp l (max i (min l.length 8)) := by
     rw [show max (i + 1) (min l.length 8) = i + 1 by omega, show max i (min l.length 8) = i by omega, hw]
    refine ⟨f', ?_, ?_⟩
    ·simp only [basculeref_wide.l0, basculeref_wide.l0s, basculeref_wide.j0]
     rw [if_pos (by simp; omega), if_pos (by omega), if_pos (by simp; omega), toNat_nat, i64_succ (by omega), <- hw, e1, hw2]
    ·rw [e2, show max (i + 1) 8 = i + 1 by omega, show max i 8 = i by omega, val_drop B32 l i]
     have hb := val_bound B32_pos (digs_drop hd (i + 1))
     simp only [B32] at hb ⊢
     cases f with
     | true => simp
     | false =>
      simp only [cond_false, bne_iff_ne, ne_eq, Bool.false_eq_true, false_or]
      constructor
      ·rintro (h | h) <;> omega
      ·intro h
       by_cases hx : l.getD i 0 = 0
       ·right; omega
       ·left; exact hx
   ·obtain ⟨f', e1, e2⟩ := wide_loop k Xt l hd hl c2 n (i + 1) f (by omega) (by omega)
    refine ⟨f', ?_, ?_⟩
    ·rw [show max i (min l.length 8) = max (i + 1) (min l.length 8) by omega, <- e1]
     simp only [basculeref_wide.l0, basculeref_wide.l0s, basculeref_wide.j0]
     have et : Int.tdiv (i : Int) 2 = ((i / 2 : Nat) : Int) := by rw [tdiv_pos (by omega)]; rfl
     have em : Int.tmod (i : Int) 2 = ((i % 2 : Nat) : Int) := tmod_nat i 2
     rw [if_pos (by simp; omega), if_pos (by omega), if_neg (by simp; omega), et, em, wrap_i64 (x := ((i / 2 : Nat) : Int)) (by omega) (by omega), wrap_i64 (x := 32 * ((i % 2 : Nat) : Int)) (by omega) (by omega), if_pos (by omega), if_pos (by omega), if_pos (by omega), toNat_nat, toNat_nat, i64_succ (by omega)]
     congr 1
     have dgp := fun m : Nat => digs_getD B32_pos hd m
     simp only [List.getD_eq_getElem?_getD, B32] at dgp
     have dg := dgp i
     rcases (show i = 0 \/ i = 1 \/ i = 2 \/ i = 3 \/ i = 4 \/ i = 5 \/ i = 6 \/ i = 7 by omega) with rfl | rfl | rfl | rfl | rfl | rfl | rfl | rfl
     all_goals simp [wordsUp]
     all_goals first
      | (rw [shl0 dg, bor0 dg])
      | (rw [shl32 dg, bor32 (dgp _) dg])
    ·rw [e2, show max (i + 1) 8 = max i 8 by omega]
  ·have hil : i = l.length := by omega
   refine ⟨f, ?_, ?_⟩
   ·simp only [basculeref_wide.l0, basculeref_wide.l0s]
    rw [if_neg (by simp; omega), show max i (min l.length 8) = i by omega]
   ·rw [List.drop_eq_nil_of_le (by omega)]; simp [val]
theorem val_ge (B : Int) : ∀ (l : List Int) (n : Nat), val B l = val B (l.take n) + B ^ (min n l.length) * val B (l.drop n) := by
 intro l n
 conv => lhs; rw [<- List.take_append_drop n l]
 rw [val_append, List.length_take]
theorem ref_wide {l : List Int} (hd : digs B32 l) (hl : l.length <= 1000000) :
  ∃ w f, basculeref_wide.run l = some (w, f, ()) /\ w.length = 4 /\ digs B64 w /\ val B64 w = val B32 l % 115792089237316195423570985008687907853269984665640564039457584007913129639936 /\ (f = true ↔ 115792089237316195423570985008687907853269984665640564039457584007913129639936 <= val B32 l) := by
 unfold basculeref_wide.run basculeref_wide.top basculeref_wide.j1
 have h0 := fun N (hN : l.length < N) => wide_loop N (fun (x5 : Bool) (c2 : List Int) (c4 : List Int) => some (c4, x5, ())) l hd hl [0, 0, 0, 0] N 0 false (by omega) (by omega)
 obtain ⟨f', e1, e2⟩ := h0 fuel (by rw [fuel_big]; omega)
 have ew : wordsUp l 0 = [0, 0, 0, 0] := rfl
 rw [ew] at e1
 have g : ∀ m : Nat, 0 <= (if m < max 0 (min l.length 8) then l.getD m 0 else 0) /\ (if m < max 0 (min l.length 8) then l.getD m 0 else 0) < 4294967296 := fun m => by
  have := digs_getD B32_pos hd m
  simp only [B32] at this
  split <;> omega
 have gv : val B32 (l.take 8) = val B64 (wordsUp l (max 0 (min l.length 8))) := by
  have t0 : ∀ m : Nat, (if m < max 0 (min l.length 8) then l.getD m 0 else 0) = if m < 8 then l.getD m 0 else 0 := fun m => by
   by_cases h : m < l.length
   ·by_cases h8 : m < 8
    ·rw [if_pos (by omega), if_pos h8]
    ·rw [if_neg (by omega), if_neg h8]
   ·rw [getD_out h]; simp
  unfold wordsUp
  simp only [t0]
  simp only [show (0 < 8) from by decide, show (1 < 8) from by decide, show (2 < 8) from by decide, show (3 < 8) from by decide, show (4 < 8) from by decide, show (5 < 8) from by decide, show (6 < 8) from by decide, show (7 < 8) from by decide, if_true]
  rw [val_take B32 l 7, val_take B32 l 6, val_take B32 l 5, val_take B32 l 4, val_take B32 l 3, val_take B32 l 2, val_take B32 l 1, val_take B32 l 0]
  simp only [val, List.take_zero, B32, B64]
  omega
 refine ⟨wordsUp l (max 0 (min l.length 8)), f', ?_, rfl, ?_, ?_, ?_⟩
 ·exact e1
 ·intro d hdm
  have g0 := g 0
  have g1 := g 1
  have g2 := g 2
  have g3 := g 3
  have g4 := g 4
  have g5 := g 5
  have g6 := g 6
  have g7 := g 7
  simp only [wordsUp, List.mem_cons, List.not_mem_nil, or_false] at hdm
  simp only [B64]
  rcases hdm with rfl | rfl | rfl | rfl <;> omega
 all_goals
  have hb := val_take_bound B32_pos hd 8
  have hb2 := val_bound B32_pos (digs_drop hd 8)
  have hs := val_ge B32 l 8
  have e8 : B32 ^ 8 = 115792089237316195423570985008687907853269984665640564039457584007913129639936 := rfl
  rw [e8] at hb
 ·rw [<- gv]
  by_cases h8 : 8 <= l.length
  ·rw [Nat.min_eq_left h8, e8] at hs
   rw [hs, Int.add_mul_emod_self_left]
   exact (Int.emod_eq_of_lt hb.1 hb.2).symm
  ·rw [List.drop_eq_nil_of_le (by omega)] at hs
   simp only [val, Int.mul_zero, Int.add_zero] at hs
   rw [hs]
   exact (Int.emod_eq_of_lt hb.1 hb.2).symm
 ·rw [e2, show max 0 8 = 8 from rfl]
  simp only [Bool.false_eq_true, false_or]
  by_cases h8 : 8 <= l.length
  ·rw [Nat.min_eq_left h8, e8] at hs
   constructor <;> intro h <;> omega
  ·rw [List.drop_eq_nil_of_le (by omega)] at hs ⊢
   simp only [val, Int.mul_zero, Int.add_zero] at hs ⊢
   constructor <;> intro h <;> omega
end Go.Bx
