/- A part of a framework that reads Go code as functions of plain data; or a law about such functions. -/
import Derived.Test.YtbkkahkikjifkaaLawBase
import Derived.Test.YtbkkahkikjifkaaFnGuardSees1
namespace Go.Bx
open Go
set_option linter.unusedSimpArgs false
set_option linter.unusedVariables false
theorem getD_nat {l : List Int} {i : Nat} (h : i < l.length) : l.getD i 0 = l[i] := getD_eq h
def sumI : List Int -> Int
 | [] => 0
 | a :: l => a + sumI l
theorem sumI_bound : ∀ {l : List Int}, (∀ b ∈ l, 0 <= b /\ b <= 255) -> 0 <= sumI l /\ sumI l <= 255 * (l.length : Int)
 | [], _ => by simp [sumI]
 | a :: l, h => by
  have h1 := h a (by simp)
  have h2 := sumI_bound (l := l) fun b hb => h b (List.mem_cons_of_mem _ hb)
  simp only [sumI, List.length_cons]
  omega
theorem tail_loop {α : Type} (k : Nat) (Xt : Int -> Option α) (l : List Int) (hl : l.length < 9223372036854775807) : ∀ (n i : Nat) (s : Int), i <= l.length -> l.length - i < n -> 0 <= s /\ s <= 255 ->
  log_tail.l0 k Xt n s l (l.length : Int) (i : Int) = Xt ((s + sumI (l.drop i)) % 256)
 | 0, i, s, _, h, _ => by omega
 | n + 1, i, s, hi, h, hs => by
  simp only [log_tail.l0, log_tail.l0s]
  by_cases hlt : i < l.length
  ·rw [if_pos (by simp; omega), if_pos (by omega), toNat_nat, i64_succ (by omega), getD_nat hlt, wrap_u8_mod]
   rw [tail_loop k Xt l hl n (i + 1) _ (by omega) (by omega) (by omega)]
   rw [List.drop_eq_getElem_cons hlt]
   simp only [sumI]
   congr 1
   omega
  ·have : i = l.length := by omega
   subst this
   rw [if_neg (by simp)]
   simp only [List.drop_length, sumI]
   congr 1
   omega
theorem tail_run (l : List Int) (hl : l.length < 9223372036854775807) : log_tail.run l = some (sumI l % 256) := by
 unfold log_tail.run log_tail.top log_tail.j0
 have := fun N (hN : l.length < N) => tail_loop N (fun (x2 : Int) => some x2) l hl N 0 0 (by omega) (by omega) (by omega)
 have h2 := this fuel (by rw [fuel_big]; omega)
 rw [List.drop_zero, Int.zero_add] at h2
 exact h2
theorem text_loop {α : Type} (k : Nat) (Xt : List Int -> Int -> Option α) (x0 : List Int) (l : List Int) (hl : l.length < 1000000) (hb : ∀ b ∈ l, 0 <= b /\ b <= 255) : ∀ (n i : Nat) (s : Int), i <= l.length -> l.length - i < n -> 0 <= s /\ s <= 255 * (i : Int) ->
  basculeref_logText.l0 k Xt n x0 s l (l.length : Int) (i : Int) = Xt x0 (s + sumI (l.drop i))
 | 0, i, s, _, h, _ => by omega
 | n + 1, i, s, hi, h, hs => by
  simp only [basculeref_logText.l0, basculeref_logText.l0s]
  by_cases hlt : i < l.length
  ·have h1 := hb l[i] (List.getElem_mem hlt)
   rw [if_pos (by simp; omega), if_pos (by omega), toNat_nat, i64_succ (by omega), getD_nat hlt, wrap_i64 (x := l[i]) (by omega) (by omega), wrap_i64 (by omega) (by omega)]
   rw [text_loop k Xt x0 l hl hb n (i + 1) _ (by omega) (by omega) (by simp; omega)]
   rw [List.drop_eq_getElem_cons hlt]
   simp only [sumI]
   congr 1
   omega
  ·have : i = l.length := by omega
   subst this
   rw [if_neg (by simp)]
   simp [sumI]
end Go.Bx
