/- A part of a framework that reads Go code as functions of plain data; or a law about such functions. -/
import Derived.Test.YtbkkahkikjifkaaLawBase
namespace Go.Bx
open Go
set_option linter.unusedSimpArgs false
set_option linter.unusedVariables false
def val (B : Int) : List Int -> Int
 | [] => 0
 | d :: l => d + B * val B l
def digs (B : Int) (l : List Int) : Prop := ∀ d ∈ l, 0 <= d /\ d < B
theorem digs_cons {B d : Int} {l : List Int} : digs B (d :: l) ↔ (0 <= d /\ d < B) /\ digs B l := by simp [digs]
theorem digs_nil {B : Int} : digs B [] := by intro d h; cases h
theorem digs_take {B : Int} {l : List Int} (h : digs B l) (n : Nat) : digs B (l.take n) := fun d hd => h d (List.mem_of_mem_take hd)
theorem pow_pos' {B : Int} (hB : 0 < B) (n : Nat) : 0 < B ^ n := Int.pow_pos hB
theorem val_append (B : Int) : ∀ (l m : List Int), val B (l ++ m) = val B l + B ^ l.length * val B m
 | [], m => by simp [val]
 | d :: l, m => by
  simp only [List.cons_append, val, val_append B l m, List.length_cons, Int.pow_succ]
  rw [Int.mul_add, Int.mul_comm (B ^ l.length) B, Int.mul_assoc, Int.add_assoc]
theorem val_bound {B : Int} (hB : 0 < B) : ∀ {l : List Int}, digs B l -> 0 <= val B l /\ val B l < B ^ l.length
 | [], _ => by simp [val]
 | d :: l, h => by
  obtain ⟨h1, h2⟩ := digs_cons.1 h
  obtain ⟨h3, h4⟩ := val_bound hB h2
  simp only [val, List.length_cons, Int.pow_succ]
  have e1 : 0 <= B * val B l := Int.mul_nonneg (by omega) h3
  have e2 : B * (val B l + 1) <= B * B ^ l.length := Int.mul_le_mul_of_nonneg_left (by omega) (by omega)
  rw [Int.mul_add, Int.mul_one] at e2
  rw [Int.mul_comm (B ^ l.length) B]
  omega
theorem digs_getD {B : Int} (hB : 0 < B) {l : List Int} (h : digs B l) (i : Nat) : 0 <= l.getD i 0 /\ l.getD i 0 < B := by
 by_cases hi : i < l.length
 ·rw [getD_eq hi]; exact h _ (List.getElem_mem hi)
 ·simp [List.getD, List.getElem?_eq_none (show l.length <= i by omega), hB]
theorem getD_out {l : List Int} {i : Nat} (h : ¬ i < l.length) : l.getD i 0 = 0 := by
 simp [List.getD, List.getElem?_eq_none (show l.length <= i by omega)]
theorem val_take (B : Int) (l : List Int) (j : Nat) : val B (l.take (j + 1)) = val B (l.take j) + B ^ j * l.getD j 0 := by
 by_cases h : j < l.length
 ·rw [List.take_succ_eq_append_getElem h, val_append, getD_eq h]
  simp only [val, List.length_take, Int.mul_zero, Int.add_zero]
  rw [Nat.min_eq_left (by omega)]
 ·rw [List.take_of_length_le (by omega), List.take_of_length_le (by omega), getD_out h]
  simp
theorem pow_mono {B : Int} (hB : 0 < B) {m n : Nat} (h : m <= n) : B ^ m <= B ^ n := by
 obtain ⟨k, rfl⟩ := Nat.le.dest h
 rw [Int.pow_add]
 have h1 := pow_pos' hB k
 have h2 := pow_pos' hB m
 have := Int.mul_le_mul_of_nonneg_left (show 1 <= B ^ k by omega) (show 0 <= B ^ m by omega)
 rw [Int.mul_one] at this
 exact this
theorem val_take_bound {B : Int} (hB : 0 < B) {l : List Int} (h : digs B l) (j : Nat) : 0 <= val B (l.take j) /\ val B (l.take j) < B ^ j := by
 obtain ⟨h1, h2⟩ := val_bound hB (digs_take h j)
 refine ⟨h1, Int.lt_of_lt_of_le h2 (pow_mono hB ?_)⟩
 simp; omega
theorem tdiv_pos {a b : Int} (h : 0 <= a) : Int.tdiv a b = a / b := Int.tdiv_eq_ediv_of_nonneg h
theorem tmod_pos {a b : Int} (h : 0 <= a) : Int.tmod a b = a % b := Int.tmod_eq_emod_of_nonneg h
abbrev B32 : Int := 4294967296
abbrev B64 : Int := 18446744073709551616
theorem B32_pos : (0 : Int) < B32 := by decide
end Go.Bx
