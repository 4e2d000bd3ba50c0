/- A part of a framework that reads Go code as functions of plain data; or a law about such functions. -/
import Derived.Test.YtbkkahkikjifkaaDoorLawSponge
import Derived.Test.YtbkkahkikjifkaaDoorFnBodyWrites0
namespace Go.Bx
open Go
set_option linter.unusedSimpArgs false
set_option linter.unusedVariables false
set_option maxRecDepth 100000
def sumB (a : List Int) (i : Nat) : Int := IntKind.u8.wrap (shrI .u64 (a.getD (i / 8) 0) ((8 * (i % 8) : Nat) : Int))
def sumL (a : List Int) : List Int := (List.range 32).map (sumB a)
theorem sumL_len (a : List Int) : (sumL a).length = 32 := by simp [sumL]
theorem sumL_oct (a : List Int) : Oct (sumL a) := by
 intro b hb
 simp only [sumL, List.mem_map] at hb
 obtain ⟨i, _, rfl⟩ := hb
 unfold sumB
 generalize shrI .u64 (a.getD (i / 8) 0) ((8 * (i % 8) : Nat) : Int) = y
 have : IntKind.u8.wrap y = y % 256 := by simp [IntKind.wrap, IntKind.signed, IntKind.bits]
 rw [this]; omega
theorem sum_next (a : List Int) {i m : Nat} (h : m + 1 + i = 32) : ((sumL a).take i ++ List.replicate (m + 1) 0).set i (sumB a i) = (sumL a).take (i + 1) ++ List.replicate m 0 := by
 have hl : ((sumL a).take i).length = i := by rw [List.length_take, sumL_len]; omega
 rw [List.replicate_succ, List.take_add_one, List.getElem?_eq_getElem (by rw [sumL_len]; omega)]
 rw [List.set_append_right _ _ (by omega), hl, Nat.sub_self]
 have : (sumL a)[i]'(by rw [sumL_len]; omega) = sumB a i := by simp [sumL]
 rw [this]; simp
theorem end_loop {α : Type} (Xt : List Int -> List Int -> Option α) (K : Nat) (s : SpD) (z : List Int) : ∀ (m i n : Nat), m < n -> m + i = 32 ->
  keccak_End.l0 K Xt n (i : Int) s z ((sumL s.1).take i ++ List.replicate m 0) = Xt z (sumL s.1)
 | m, i, 0, h, _ => by omega
 | 0, i, n + 1, h, hi => by
  simp only [keccak_End.l0, keccak_End.l0s]
  rw [if_neg (by rw [decide_eq_true_eq]; omega), List.replicate_zero, List.append_nil, List.take_of_length_le (by rw [sumL_len]; omega)]
 | m + 1, i, n + 1, h, hi => by
  simp only [keccak_End.l0, keccak_End.l0s]
  have e1 : IntKind.i64.wrap (Int.tdiv (i : Int) 8) = ((i / 8 : Nat) : Int) := i64_tdiv (x := i) (c := 8) (by omega)
  have e2 : Int.tmod (i : Int) 8 = ((i % 8 : Nat) : Int) := tmod_nat i 8
  have e3 : IntKind.i64.wrap (8 * ((i % 8 : Nat) : Int)) = ((8 * (i % 8) : Nat) : Int) := by rw [wrap_i64 (by omega) (by omega)]; omega
  rw [e1, e2, e3, if_pos (by rw [decide_eq_true_eq]; omega), if_pos (by omega), if_pos (by omega), if_pos (by omega), i64_succ (by omega), toNat_nat, toNat_nat]
  have := sum_next s.1 (i := i) (m := m) hi
  unfold sumB at this
  rw [this]
  exact end_loop Xt K s z m (i + 1) n (by omega) (by omega)
theorem wrung_loop {α : Type} (Xt : List Int -> List Int -> Option α) (K : Nat) (a z : List Int) : ∀ (m i n : Nat), m < n -> m + i = 32 ->
  basculeref_Wrung.l0 K Xt n (i : Int) z a ((sumL a).take i ++ List.replicate m 0) = Xt z (sumL a)
 | m, i, 0, h, _ => by omega
 | 0, i, n + 1, h, hi => by
  simp only [basculeref_Wrung.l0, basculeref_Wrung.l0s]
  rw [if_neg (by rw [decide_eq_true_eq]; omega), List.replicate_zero, List.append_nil, List.take_of_length_le (by rw [sumL_len]; omega)]
 | m + 1, i, n + 1, h, hi => by
  simp only [basculeref_Wrung.l0, basculeref_Wrung.l0s]
  have e1 : IntKind.i64.wrap (Int.tdiv (i : Int) 8) = ((i / 8 : Nat) : Int) := i64_tdiv (x := i) (c := 8) (by omega)
  have e2 : Int.tmod (i : Int) 8 = ((i % 8 : Nat) : Int) := tmod_nat i 8
  have e3 : IntKind.i64.wrap (((i % 8 : Nat) : Int) * 8) = ((8 * (i % 8) : Nat) : Int) := by rw [wrap_i64 (by omega) (by omega)]; omega
  rw [e1, e2, e3, if_pos (by rw [decide_eq_true_eq]; omega), if_pos (by omega), if_pos (by omega), if_pos (by omega), i64_succ (by omega), toNat_nat, toNat_nat]
  have := sum_next a (i := i) (m := m) hi
  unfold sumB at this
  rw [this]
  exact wrung_loop Xt K a z m (i + 1) n (by omega) (by omega)
def padP (p : List Int) : List Int := p ++ 1 :: List.replicate (135 - p.length) 0
def padB (p : List Int) : List Int := (padP p).set 135 (if p.length = 135 then 129 else 128)
theorem padP_len {p : List Int} (h : p.length < 136) : (padP p).length = 136 := by simp [padP]; omega
theorem padB_len {p : List Int} (h : p.length < 136) : (padB p).length = 136 := by simp [padB, padP_len h]
theorem padB_oct {p : List Int} (h : Oct p) : Oct (padB p) := by
 intro b hb
 rcases List.mem_or_eq_of_mem_set hb with hb | hb
 ·rcases List.mem_append.1 hb with hb | hb
  ·exact h b hb
  ·rcases List.mem_cons.1 hb with rfl | hb
   ·decide
   ·rw [List.eq_of_mem_replicate hb]; decide
 ·subst hb; split <;> decide
theorem pad_one {p : List Int} (h : p.length < 136) : (p ++ List.replicate (136 - p.length) 0).set p.length 1 = padP p := by
 rw [show 136 - p.length = (135 - p.length) + 1 by omega, List.replicate_succ]; simp [padP]
theorem pad_last {p : List Int} (h : p.length < 136) : (padP p).getD 135 0 = if p.length = 135 then 1 else 0 := by
 unfold padP
 rw [List.getD_eq_getElem?_getD, List.getElem?_append_right (by omega)]
 by_cases e : p.length = 135
 ·rw [if_pos e, e]; rfl
 ·rw [if_neg e, show 135 - p.length = (134 - p.length) + 1 by omega, List.getElem?_cons_succ, List.getElem?_replicate, if_pos (by omega)]; rfl
theorem ended {a h : List Int} {N : Int} (ha : a.length = 25) (hh : h.length = 136) (hoh : Oct h) :
  (badS h N = true -> keccak_End.run (a, h, N, ()) = some (List.replicate 32 0, 12, ()) /\ basculeref_Wrung.run (a, h, N, ()) = some (List.replicate 32 0, 12, ())) /\
  (∀ p : List Int, p.length < 136 -> N = (p.length : Int) -> h = p ++ List.replicate (136 - p.length) 0 -> badS h N = false -> keccak_End.run (a, h, N, ()) = some (sumL (blkT a (padB p)), 0, ()) /\ basculeref_Wrung.run (a, h, N, ()) = some (sumL (blkT a (padB p)), 0, ())) := by
 unfold keccak_End.run keccak_End.top basculeref_Wrung.run basculeref_Wrung.top
 rw [check_run a h N hh, bad_run a h N hh]
 simp only [Option.bind_some]
 constructor
 ·intro hb
  rw [hb]; exact ⟨rfl, rfl⟩
 ·intro p hp hN hhp hb
  rw [hb]
  simp only [Bool.false_eq_true, if_false, bne_self_eq_false]
  subst hhp
  have hop : Oct p := fun x hx => hoh x (List.mem_append_left _ hx)
  obtain ⟨b1, b2, b3⟩ := blkT_run ha (padB_len hp) (padB_oct hop)
  have hz : (p ++ List.replicate (136 - p.length) 0).getD p.length 0 = 0 := by
   rw [show 136 - p.length = (135 - p.length) + 1 by omega, List.replicate_succ]; simp [List.getD]
  simp only [hN, toNat_nat]
  rw [hz, show bxor .u8 0 1 = 1 by decide, pad_one hp, if_pos (by omega), if_pos (by omega), if_pos (by omega), pad_last hp]
  have v1 : bor .u8 (if p.length = 135 then 1 else 0) 128 = if p.length = 135 then 129 else 128 := by split <;> decide
  have v2 : bxor .u8 (if p.length = 135 then 1 else 0) 128 = if p.length = 135 then 129 else 128 := by split <;> decide
  rw [v1, v2]
  have hc : cutL (padB p) 0 136 = padB p := by
   unfold cutL
   rw [show Int.toNat 0 = 0 from rfl, List.drop_zero, List.take_of_length_le (by rw [padB_len hp]; decide)]
  rw [show (padP p).set 135 (if p.length = 135 then 129 else 128) = padB p from rfl, hc, b3, b2]
  simp only [Option.bind_some]
  have w1 := end_loop (fun c2 c5 => keccak_End.j0 (fun x3 c2 => some (c2, x3, ())) c2 c5) fuel (blkT a (padB p), List.replicate 136 0, 0, ()) (List.replicate 32 0) 32 0 fuel (by rw [fuel_big]; omega) rfl
  have w2 := wrung_loop (fun c2 c6 => basculeref_Wrung.j0 (fun x3 c2 => some (c2, x3, ())) c2 c6) fuel (blkT a (padB p)) (List.replicate 32 0) 32 0 fuel (by rw [fuel_big]; omega) rfl
  simp only [List.take_zero, List.nil_append] at w1 w2
  rw [show ((0 : Nat) : Int) = 0 from rfl] at w1 w2
  rw [w1, w2]
  exact ⟨rfl, rfl⟩
end Go.Bx
