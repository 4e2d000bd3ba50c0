/- A part of a framework that reads Go code as functions of plain data; or a law about such functions. -/
import Derived.Test.YtbkkahkikjifkaaDoorLawSum
import Derived.Test.YtbkkahkikjifkaaDoorLawBytes
import Derived.Test.YtbkkahkikjifkaaDoorFnWorldKeys1
namespace Go.Bx
open Go
set_option linter.unusedSimpArgs false
set_option linter.unusedVariables false
set_option maxRecDepth 100000
def keyOf (x y : List Int) : List Int := (kec (txt x ++ txt y)).drop 12
theorem txt_oct (l : List Int) : Oct (txt l) := txt_rng l
theorem key_next (h : List Int) (hh : h.length = 32) {i m : Nat} (hi : m + 1 + i = 20) : ((h.drop 12).take i ++ List.replicate (m + 1) 0).set i (h.getD (12 + i) 0) = (h.drop 12).take (i + 1) ++ List.replicate m 0 := by
 have hl : ((h.drop 12).take i).length = i := by rw [List.length_take, List.length_drop]; omega
 have hd : (h.drop 12).length = 20 := by rw [List.length_drop]; omega
 rw [List.replicate_succ, List.take_add_one, List.getElem?_eq_getElem (by omega)]
 rw [List.set_append_right _ _ (by omega), hl, Nat.sub_self]
 have : (h.drop 12)[i]'(by omega) = h.getD (12 + i) 0 := by
  rw [List.getElem_drop, List.getD_eq_getElem?_getD, List.getElem?_eq_getElem (by omega)]; rfl
 rw [this]; simp
theorem keyOf_loop {α : Type} (Xt : List Int -> List Int -> Option α) (K : Nat) (h z : List Int) (hh : h.length = 32) : ∀ (m i n : Nat), m < n -> m + i = 20 ->
  basculeref_KeyOf.l0 K Xt n (i : Int) z h ((h.drop 12).take i ++ List.replicate m 0) = Xt z (h.drop 12)
 | m, i, 0, hm, _ => by omega
 | 0, i, n + 1, hm, hi => by
  simp only [basculeref_KeyOf.l0, basculeref_KeyOf.l0s]
  rw [if_neg (by rw [decide_eq_true_eq]; omega), List.replicate_zero, List.append_nil, List.take_of_length_le (by rw [List.length_drop]; omega)]
 | m + 1, i, n + 1, hm, hi => by
  simp only [basculeref_KeyOf.l0, basculeref_KeyOf.l0s]
  have e1 : IntKind.i64.wrap (12 + (i : Int)) = ((12 + i : Nat) : Int) := by rw [wrap_i64 (by omega) (by omega)]; omega
  rw [e1, if_pos (by rw [decide_eq_true_eq]; omega), if_pos (by omega), if_pos (by omega), i64_succ (by omega), toNat_nat, toNat_nat, key_next h hh hi]
  exact keyOf_loop Xt K h z hh m (i + 1) n (by omega) (by omega)
theorem key_both {x y : List Int} (f : Bool) (hx : x.length = 4) (hy : y.length = 4) : sign_KeyOf.run (x, y, f, ()) = some (keyOf x y) /\ basculeref_KeyOf.run (x, y, f, ()) = some (keyOf x y) := by
 obtain ⟨s1, s2⟩ := sum_both (b := txt x ++ txt y) ((txt_oct x).append (txt_oct y)) (by rw [List.length_append, txt_len, txt_len]; omega)
 have hk := kec_len (txt x ++ txt y)
 constructor
 ·unfold sign_KeyOf.run sign_KeyOf.top
  rw [wideBytes_run x hx, Option.bind_some, wideBytes_run y hy, Option.bind_some, cutL_all (txt x) 32 (by rw [txt_len]; rfl), cutL_all (txt y) 32 (by rw [txt_len]; rfl), txt_len, txt_len, if_pos ⟨rfl, by decide⟩, s1, Option.bind_some]
  unfold cpyL cutL keyOf
  simp only [show (0 : Int).toNat = 0 from rfl, show (20 : Int).toNat = 20 from rfl, show (12 : Int).toNat = 12 from rfl, show (32 : Int).toNat = 32 from rfl, List.take_zero, List.nil_append, Nat.sub_zero, Nat.zero_add, List.drop_replicate]
  rw [List.take_of_length_le (l := (kec (txt x ++ txt y)).drop 12) (by rw [List.length_drop]; omega), List.take_of_length_le (l := (kec (txt x ++ txt y)).drop 12) (by rw [List.length_drop]; omega), List.length_drop, hk]
  simp
 ·unfold basculeref_KeyOf.run basculeref_KeyOf.top
  rw [text4_run, Option.bind_some, text4_run, Option.bind_some, txt_len, txt_len, if_pos (by decide), s2, Option.bind_some]
  have := keyOf_loop (fun c2 c4 => basculeref_KeyOf.j0 (fun c2 => some c2) c2 c4) fuel (kec (txt x ++ txt y)) (List.replicate 20 0) hk 20 0 fuel (by rw [fuel_big]; omega) rfl
  simp only [List.take_zero, List.nil_append] at this
  rw [show ((0 : Nat) : Int) = 0 from rfl] at this
  rw [this]; rfl
end Go.Bx
