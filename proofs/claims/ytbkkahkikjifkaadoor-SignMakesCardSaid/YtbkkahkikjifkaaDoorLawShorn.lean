/- A part of a framework that reads Go code as functions of plain data; or a law about such functions. -/
import Derived.Test.YtbkkahkikjifkaaDoorLawRefNum
import Derived.Test.YtbkkahkikjifkaaDoorFnSignMakes0
namespace Go.Bx
open Go
set_option linter.unusedSimpArgs false
set_option linter.unusedVariables false
theorem shorn_loop {α : Type} (k : Nat) (Xt : List Int -> Option α) : ∀ (n : Nat) (l : List Int), l.length < n -> l.length <= 1000000 -> digs B32 l -> ∃ r, basculeref_shorn.l0 k Xt n l = Xt r /\ r.length <= l.length /\ digs B32 r /\ val B32 r = val B32 l /\ (∀ d, r.getLast? = some d -> d ≠ 0)
 | 0, l, h, _, _ => by omega
 | n + 1, l, h, hl, hd => by
  simp only [basculeref_shorn.l0, basculeref_shorn.l0s]
  by_cases h0 : l.length = 0
  ·have : l = [] := List.eq_nil_of_length_eq_zero h0
   subst this
   exact ⟨[], rfl, by simp, digs_nil, rfl, by simp⟩
  ·have ew : IntKind.i64.wrap ((l.length : Int) - 1) = ((l.length - 1 : Nat) : Int) := by rw [wrap_i64 (by omega) (by omega)]; omega
   rw [ew]
   have hc1 : (decide (0 <= ((l.length - 1 : Nat) : Int) /\ ((l.length - 1 : Nat) : Int) < (l.length : Int)) || !((decide ((l.length : Int) > 0)) == true)) = true := by
    rw [Bool.or_eq_true]; left; rw [decide_eq_true_eq]; omega
   rw [hc1]
   simp only [cond_true]
   have hgt : decide ((l.length : Int) > 0) = true := by rw [decide_eq_true_eq]; omega
   have hlt : l.length - 1 < l.length := by omega
   simp only [hgt, cond_true, toNat_nat, getD_eq hlt]
   have hsplit : l = l.take (l.length - 1) ++ [l[l.length - 1]] := by
    conv => lhs; rw [<- List.take_append_drop (l.length - 1) l, List.drop_eq_getElem_cons hlt]
    rw [show l.length - 1 + 1 = l.length by omega, List.drop_length]
   by_cases hz : l[l.length - 1] = 0
   ·rw [if_pos (by simpa using hz), if_pos (by omega)]
    have hcut : cutL l 0 ((l.length - 1 : Nat) : Int) = l.take (l.length - 1) := by
     unfold cutL; rw [Int.toNat_natCast]; simp
    rw [hcut]
    obtain ⟨r, e1, e2, e3, e4, e5⟩ := shorn_loop k Xt n (l.take (l.length - 1)) (by simp; omega) (by simp; omega) (digs_take hd _)
    refine ⟨r, e1, by simp at e2; omega, e3, ?_, e5⟩
    rw [e4]
    conv => rhs; rw [hsplit, val_append, hz]
    simp [val]
   ·rw [if_neg (by simpa using hz)]
    refine ⟨l, rfl, Nat.le_refl _, hd, rfl, fun d hd2 => ?_⟩
    rw [hsplit] at hd2
    simp only [List.getLast?_append, List.getLast?_singleton, Option.some_or, Option.some.injEq] at hd2
    rw [<- hd2]; exact hz
theorem ref_shorn {l : List Int} (hl : l.length <= 1000000) (hd : digs B32 l) : ∃ r, basculeref_shorn.run l = some r /\ r.length <= l.length /\ digs B32 r /\ val B32 r = val B32 l /\ (∀ d, r.getLast? = some d -> d ≠ 0) := by
 unfold basculeref_shorn.run basculeref_shorn.top basculeref_shorn.j0
 have := fun N (hN : l.length < N) => shorn_loop N (fun (x2 : List Int) => some x2) N l hN hl hd
 exact this fuel (by rw [fuel_big]; omega)
end Go.Bx
