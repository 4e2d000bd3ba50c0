/- Laws about functions of plain data, in plain Lean. -/
import Derived.Test.YtbkkahkikjifkaaDoorLawsSignMakes2
import Derived.Test.YtbkkahkikjifkaaDoorLawsSignMakes0
import Derived.Test.YtbkkahkikjifkaaDoorFnSignMakes1
import Derived.Test.YtbkkahkikjifkaaDoorLawsSignMakes1
namespace Go.Bx
open Go
set_option linter.unusedSimpArgs false
set_option linter.unusedVariables false
set_option maxRecDepth 100000
abbrev SpD : Type := List Int × List Int × Int × Unit
def badS (h : List Int) (N : Int) : Bool := !(decide (0 <= N) && decide (N < 136) && (h.drop N.toNat).all (fun x => x == 0))
theorem check_loop {α : Type} (Rt : Int -> Option α) (Xt : Option α) (K : Nat) (a h : List Int) (N : Nat) (hN : N < 136) (hh : h.length = 136) (I : Int) : ∀ (m j n : Nat), m < n -> m + j = 136 - N ->
  keccak_check.l0 K Rt Xt n (N : Int) ((136 - N : Nat) : Int) (j : Int) (a, h, I, ()) = if (h.drop (N + j)).all (fun x => x == 0) = true then Xt else Rt 12
 | m, j, 0, hm, _ => by omega
 | 0, j, n + 1, hm, hj => by
  simp only [keccak_check.l0, keccak_check.l0s]
  rw [if_neg (by rw [decide_eq_true_eq]; omega), List.drop_eq_nil_of_le (by omega)]; rfl
 | m + 1, j, n + 1, hm, hj => by
  simp only [keccak_check.l0, keccak_check.l0s]
  rw [if_pos (by rw [decide_eq_true_eq]; omega), if_pos (by omega), show ((N : Int) + (j : Int)) = ((N + j : Nat) : Int) by omega, toNat_nat, i64_succ (by omega), drop_at (l := h) (i := N + j) (by omega) 0, List.all_cons]
  by_cases hz : h.getD (N + j) 0 = 0
  ·rw [hz]
   simp only [bne_self_eq_false, Bool.false_eq_true, if_false, BEq.rfl, Bool.true_and]
   exact check_loop Rt Xt K a h N hN hh I m (j + 1) n (by omega) (by omega)
  ·have h1 : (h.getD (N + j) 0 != 0) = true := by simpa using hz
   have h2 : (h.getD (N + j) 0 == 0) = false := by simpa using hz
   rw [h1, h2]; rfl
theorem check_run (a h : List Int) (N : Int) (hh : h.length = 136) : keccak_check.run (a, h, N, ()) = some (if badS h N = true then 12 else 0) := by
 unfold keccak_check.run keccak_check.top badS
 simp only [cond_or]
 by_cases h0 : 0 <= N /\ N < 136
 ·obtain ⟨M, rfl⟩ := Int.eq_ofNat_of_zero_le h0.1
  have hM : M < 136 := by omega
  rw [if_neg (by simp only [Bool.or_eq_true, decide_eq_true_eq]; omega), if_pos (by omega)]
  have hl : ((cutL h (M : Int) 136).length : Int) = ((136 - M : Nat) : Int) := by
   rw [cutL_length h (by omega) (by omega) (by omega)]; simp
  rw [hl]
  have := check_loop (fun x2 => some x2) (keccak_check.j0 fun x2 => some x2) fuel a h M hM hh (M : Int) (136 - M) 0 fuel (by rw [fuel_big]; omega) rfl
  rw [show ((0 : Nat) : Int) = 0 from rfl] at this
  refine Eq.trans this ?_
  rw [show decide (0 <= (M : Int)) = true by rw [decide_eq_true_eq]; omega, show decide ((M : Int) < 136) = true by rw [decide_eq_true_eq]; omega, toNat_nat, Nat.add_zero]
  cases (h.drop M).all fun x => x == 0 <;> rfl
 ·rw [if_pos (by simp only [Bool.or_eq_true, decide_eq_true_eq]; omega)]
  have : (decide (0 <= N) && decide (N < 136)) = false := by
   rw [Bool.eq_false_iff]; simp only [ne_eq, Bool.and_eq_true, decide_eq_true_eq]; exact h0
  rw [this]; rfl
theorem bad_loop {α : Type} (Rt : Bool -> Option α) (Xt : Option α) (K : Nat) (a h : List Int) (hh : h.length = 136) (I : Int) : ∀ (m j n : Nat), m < n -> m + j = 136 ->
  basculeref_badSponge.l0 K Rt Xt n (j : Int) (a, h, I, ()) = if (h.drop j).all (fun x => x == 0) = true then Xt else Rt true
 | m, j, 0, hm, _ => by omega
 | 0, j, n + 1, hm, hj => by
  simp only [basculeref_badSponge.l0, basculeref_badSponge.l0s]
  rw [if_neg (by rw [decide_eq_true_eq]; omega), List.drop_eq_nil_of_le (by omega)]; rfl
 | m + 1, j, n + 1, hm, hj => by
  simp only [basculeref_badSponge.l0, basculeref_badSponge.l0s]
  rw [if_pos (by rw [decide_eq_true_eq]; omega), if_pos (by omega), toNat_nat, i64_succ (by omega), drop_at (l := h) (i := j) (by omega) 0, List.all_cons]
  by_cases hz : h.getD j 0 = 0
  ·rw [hz]
   simp only [bne_self_eq_false, Bool.false_eq_true, if_false, BEq.rfl, Bool.true_and]
   exact bad_loop Rt Xt K a h hh I m (j + 1) n (by omega) (by omega)
  ·have h1 : (h.getD j 0 != 0) = true := by simpa using hz
   have h2 : (h.getD j 0 == 0) = false := by simpa using hz
   rw [h1, h2]; rfl
theorem bad_run (a h : List Int) (N : Int) (hh : h.length = 136) : basculeref_badSponge.run (a, h, N, ()) = some (badS h N) := by
 unfold basculeref_badSponge.run basculeref_badSponge.top badS
 simp only [cond_or]
 by_cases h0 : 0 <= N /\ N < 136
 ·obtain ⟨M, rfl⟩ := Int.eq_ofNat_of_zero_le h0.1
  rw [if_neg (by simp only [Bool.or_eq_true, decide_eq_true_eq]; omega)]
  have := bad_loop (fun x2 => some x2) (basculeref_badSponge.j0 fun x2 => some x2) fuel a h hh (M : Int) (136 - M) M fuel (by rw [fuel_big]; omega) (by omega)
  refine Eq.trans this ?_
  rw [show decide (0 <= (M : Int)) = true by rw [decide_eq_true_eq]; omega, show decide ((M : Int) < 136) = true by rw [decide_eq_true_eq]; omega, toNat_nat]
  cases (h.drop M).all fun x => x == 0 <;> rfl
 ·rw [if_pos (by simp only [Bool.or_eq_true, decide_eq_true_eq]; omega)]
  have : (decide (0 <= N) && decide (N < 136)) = false := by
   rw [Bool.eq_false_iff]; simp only [ne_eq, Bool.and_eq_true, decide_eq_true_eq]; exact h0
  rw [this]; rfl
def blkT (a b : List Int) : List Int := match basculeref_soaked.run a b with
 | some r => r
 | none => []
theorem blkT_run {a b : List Int} (ha : a.length = 25) (hb : b.length = 136) (ho : Oct b) : (blkT a b).length = 25 /\ (∀ N : Int, keccak_soak.run (a, b, N, ()) = some (blkT a b, List.replicate 136 0, 0, ())) /\ basculeref_soaked.run a b = some (blkT a b) := by
 obtain ⟨r, h1, h2, h3⟩ := soak_both ha hb ho
 unfold blkT
 rw [h3]
 exact ⟨h1, h2, rfl⟩
def absorb : Nat -> List Int -> List Int -> List Int × List Int
 | 0, a, l => (a, l)
 | n + 1, a, l => if 136 <= l.length then absorb n (blkT a (l.take 136)) (l.drop 136) else (a, l)
theorem absorb_more : ∀ (n m : Nat) (a l : List Int), l.length <= n -> l.length <= m -> absorb n a l = absorb m a l
 | 0, 0, _, _, _, _ => rfl
 | 0, m + 1, a, l, h, _ => by rw [absorb, absorb, if_neg (by omega)]
 | n + 1, 0, a, l, _, h => by rw [absorb, absorb, if_neg (by omega)]
 | n + 1, m + 1, a, l, h1, h2 => by
  rw [absorb, absorb]
  by_cases h : 136 <= l.length
  ·rw [if_pos h, if_pos h]; exact absorb_more n m _ _ (by simp; omega) (by simp; omega)
  ·rw [if_neg h, if_neg h]
def ab (a l : List Int) : List Int × List Int := absorb l.length a l
theorem ab_small {a l : List Int} (h : l.length < 136) : ab a l = (a, l) := by
 unfold ab
 cases hl : l.length with
 | zero => rfl
 | succ n => rw [absorb, if_neg (by omega)]
theorem ab_big {a l : List Int} (h : 136 <= l.length) : ab a l = ab (blkT a (l.take 136)) (l.drop 136) := by
 unfold ab
 obtain ⟨n, hn⟩ : ∃ n, l.length = n + 1 := ⟨l.length - 1, by omega⟩
 rw [hn, absorb, if_pos h]
 exact absorb_more _ _ _ _ (by simp; omega) (by simp)
theorem Oct.take {l : List Int} (h : Oct l) (n : Nat) : Oct (l.take n) := fun b hb => h b (List.mem_of_mem_take hb)
theorem Oct.drop {l : List Int} (h : Oct l) (n : Nat) : Oct (l.drop n) := fun b hb => h b (List.mem_of_mem_drop hb)
theorem Oct.append {l m : List Int} (h : Oct l) (g : Oct m) : Oct (l ++ m) := fun b hb => (List.mem_append.1 hb).elim (h b) (g b)
theorem Oct.zeros (n : Nat) : Oct (List.replicate n 0) := fun b hb => by rw [List.eq_of_mem_replicate hb]; decide
theorem ab_ok : ∀ (n : Nat) (a l : List Int), l.length <= n -> a.length = 25 -> Oct l -> (ab a l).1.length = 25 /\ (ab a l).2.length < 136 /\ Oct (ab a l).2
 | n, a, l, h, ha, ho => by
  by_cases hl : 136 <= l.length
  ·rw [ab_big hl]
   match n with
   | 0 => omega
   | n + 1 => exact ab_ok n _ _ (by simp; omega) (blkT_run ha (by simp; omega) (ho.take _)).1 (ho.drop _)
  ·rw [ab_small (by omega)]; exact ⟨ha, (show l.length < 136 by omega), ho⟩
def sp (r : List Int × List Int) : SpD := (r.1, r.2 ++ List.replicate (136 - r.2.length) 0, (r.2.length : Int), ())
theorem add_loop {α : Type} (Xt : SpD -> SpD -> Option α) (K : Nat) (l : List Int) (hl : l.length <= 4611686018427387904) (z : SpD) : ∀ (R P : List Int) (n : Nat) (a p : List Int), R.length < n -> l = P ++ R -> Oct R -> a.length = 25 -> Oct p -> p.length < 136 ->
  keccak_Add.l0 K Xt n l (l.length : Int) (P.length : Int) (sp (a, p)) z = Xt (sp (ab a (p ++ R))) z
 | R, P, 0, a, p, h, _, _, _, _, _ => by omega
 | [], P, n + 1, a, p, h, hc, _, ha, hp, hpl => by
  simp only [keccak_Add.l0, keccak_Add.l0s]
  have : l.length = P.length := by rw [hc]; simp
  rw [if_neg (by rw [decide_eq_true_eq]; omega), List.append_nil, ab_small hpl]
 | c :: R, P, n + 1, a, p, h, hc, hoR, ha, hp, hpl => by
  have hlen : l.length = P.length + (R.length + 1) := by rw [hc]; simp
  have hcR := hoR c (by simp)
  simp only [sp]
  simp only [keccak_Add.l0, keccak_Add.l0s, keccak_Add.j0]
  have hg : l.getD P.length 0 = c := by rw [hc]; simp [List.getD]
  have hset : (p ++ List.replicate (136 - p.length) 0).set p.length c = (p ++ [c]) ++ List.replicate (136 - (p ++ [c]).length) 0 := by
   rw [show 136 - p.length = (136 - (p ++ [c]).length) + 1 by simp; omega, List.replicate_succ]
   simp [List.set_append]
  rw [if_pos (by rw [decide_eq_true_eq]; omega), if_pos (by omega), if_pos (by omega), i64_succ (by omega), i64_succ (by omega), toNat_nat, toNat_nat, hg, hset]
  have hpc : Oct (p ++ [c]) := hp.append fun b hb => by simp only [List.mem_cons, List.not_mem_nil, or_false] at hb; subst hb; exact hcR
  have hlc : (p ++ [c]).length = p.length + 1 := by simp
  have hP : ((P.length + 1 : Nat) : Int) = ((P ++ [c]).length : Int) := by simp
  have happ : p ++ c :: R = (p ++ [c]) ++ R := by simp
  by_cases hf : p.length + 1 = 136
  ·rw [if_pos (by rw [beq_iff_eq]; omega), hlc, show 136 - (p.length + 1) = 0 by omega, List.replicate_zero, List.append_nil]
   obtain ⟨b1, b2, b3⟩ := blkT_run ha (b := p ++ [c]) (by omega) hpc
   rw [b2, Option.bind_some, hP]
   have ih := add_loop Xt K l hl z R (P ++ [c]) n (blkT a (p ++ [c])) [] (by simp at h; omega) (by simp [hc]) (fun b hb => hoR b (List.mem_cons_of_mem _ hb)) b1 (fun b hb => by cases hb) (by simp)
   simp only [sp, List.nil_append, List.length_nil, Nat.sub_zero] at ih
   rw [show ((0 : Nat) : Int) = 0 from rfl] at ih
   rw [ih, happ, ab_big (l := p ++ [c] ++ R) (by simp; omega), List.take_append_of_le_length (by omega), List.take_of_length_le (by omega), List.drop_append_of_le_length (by omega), List.drop_eq_nil_of_le (by omega), List.nil_append]
  ·rw [if_neg (by rw [beq_iff_eq]; omega), hP, show ((p.length + 1 : Nat) : Int) = ((p ++ [c]).length : Int) by rw [hlc]]
   have ih := add_loop Xt K l hl z R (P ++ [c]) n a (p ++ [c]) (by simp at h; omega) (by simp [hc]) (fun b hb => hoR b (List.mem_cons_of_mem _ hb)) ha hpc (by omega)
   simp only [sp] at ih
   rw [ih, happ]
theorem sko_loop {α : Type} (Xt : List Int -> SpD -> List Int -> Option α) (K : Nat) (z : SpD) : ∀ (n : Nat) (l a : List Int), l.length < n -> l.length <= 9223372036854775807 -> Oct l -> a.length = 25 ->
  basculeref_Soaked.l0 K Xt n l z a = Xt (ab a l).2 z (ab a l).1
 | 0, l, a, h, _, _, _ => by omega
 | n + 1, l, a, h, hb, ho, ha => by
  simp only [basculeref_Soaked.l0, basculeref_Soaked.l0s]
  by_cases hl : 136 <= l.length
  ·have hc1 : cutL l 0 136 = l.take 136 := by simp [cutL]
   have hc2 : cutL l 136 (l.length : Int) = l.drop 136 := by
    unfold cutL
    rw [toNat_nat, show Int.toNat 136 = 136 from rfl, List.take_of_length_le (by simp)]
   obtain ⟨b1, b2, b3⟩ := blkT_run ha (b := l.take 136) (by simp; omega) (ho.take _)
   rw [if_pos (by rw [decide_eq_true_eq]; omega), if_pos (by omega), hc1, b3, Option.bind_some, if_pos (by omega), hc2, ab_big hl]
   exact sko_loop Xt K z n _ _ (by simp; omega) (by simp; omega) (ho.drop _) b1
  ·rw [if_neg (by rw [decide_eq_true_eq]; omega), ab_small (by omega)]
theorem out_loop {α : Type} (Xt : SpD -> SpD -> Option α) (K : Nat) (z : SpD) (a l : List Int) (hl : l.length <= 136) : ∀ (R P : List Int) (n : Nat), R.length < n -> l = P ++ R ->
  basculeref_Soaked.l1 K Xt n l (P.length : Int) z (a, P ++ List.replicate (136 - P.length) 0, (l.length : Int), ()) = Xt z (a, l ++ List.replicate (136 - l.length) 0, (l.length : Int), ())
 | R, P, 0, h, _ => by omega
 | [], P, n + 1, h, hc => by
  simp only [basculeref_Soaked.l1, basculeref_Soaked.l1s]
  have : l = P := by rw [hc]; simp
  rw [this, if_neg (by rw [decide_eq_true_eq]; omega)]
 | c :: R, P, n + 1, h, hc => by
  have hlen : l.length = P.length + (R.length + 1) := by rw [hc]; simp
  simp only [basculeref_Soaked.l1, basculeref_Soaked.l1s]
  have hg : l.getD P.length 0 = c := by rw [hc]; simp [List.getD]
  have hset : (P ++ List.replicate (136 - P.length) 0).set P.length c = (P ++ [c]) ++ List.replicate (136 - (P ++ [c]).length) 0 := by
   rw [show 136 - P.length = (136 - (P ++ [c]).length) + 1 by simp; omega, List.replicate_succ]
   simp [List.set_append]
  rw [if_pos (by rw [decide_eq_true_eq]; omega), if_pos (by omega), if_pos (by omega), i64_succ (by omega), toNat_nat, hg, hset]
  have ih := out_loop Xt K z a l hl R (P ++ [c]) n (by simpa using h) (by simp [hc])
  rw [<- ih]; simp
theorem added {a h b : List Int} {N : Int} (ha : a.length = 25) (hh : h.length = 136) (hoh : Oct h) (hob : Oct b) (hbl : b.length <= 4611686018427387904) :
  (badS h N = true -> keccak_Add.run (a, h, N, ()) b = some ((List.replicate 25 0, List.replicate 136 0, 0, ()), 12, ()) /\ basculeref_Soaked.run (a, h, N, ()) b = some ((List.replicate 25 0, List.replicate 136 0, 0, ()), 12, ())) /\
  (∀ p : List Int, p.length < 136 -> N = (p.length : Int) -> h = p ++ List.replicate (136 - p.length) 0 -> badS h N = false -> keccak_Add.run (a, h, N, ()) b = some (sp (ab a (p ++ b)), 0, ()) /\ basculeref_Soaked.run (a, h, N, ()) b = some (sp (ab a (p ++ b)), 0, ())) := by
 unfold keccak_Add.run keccak_Add.top basculeref_Soaked.run basculeref_Soaked.top
 rw [check_run a h N hh, bad_run a h N hh]
 simp only [Option.bind_some]
 constructor
 ·intro hb
  rw [hb]; exact ⟨rfl, rfl⟩
 ·intro p hp hN hhp hb
  rw [hb]
  simp only [Bool.false_eq_true, if_false, bne_self_eq_false]
  subst hhp
  have hop : Oct p := fun x hx => hoh x (List.mem_append_left _ hx)
  constructor
  ·have := add_loop (fun c2 c4 => keccak_Add.j1 (fun x5 c4 => some (c4, x5, ())) c2 c4) fuel b hbl (List.replicate 25 0, List.replicate 136 0, 0, ()) b [] fuel a p (by rw [fuel_big]; omega) rfl hob ha hop hp
   simp only [sp, List.length_nil] at this
   rw [show ((0 : Nat) : Int) = 0 from rfl] at this
   rw [hN, this]; rfl
  ·have hc1 : cutL (cutL (p ++ List.replicate (136 - p.length) 0) 0 136) 0 (p.length : Int) = p := by
    have : cutL (p ++ List.replicate (136 - p.length) (0 : Int)) 0 136 = p ++ List.replicate (136 - p.length) 0 := by
     unfold cutL
     rw [show Int.toNat 0 = 0 from rfl, List.drop_zero, List.take_of_length_le (by rw [hh]; decide)]
    rw [this]; simp [cutL]
   have hc2 : (cutL (p ++ List.replicate (136 - p.length) 0) 0 136).length = 136 := by
    rw [cutL_length _ (by omega) (by omega) (by omega)]; rfl
   simp only [hN]
   rw [hc2, hc1, if_pos (by omega), if_pos (Nat.ble_eq_true_of_le (by omega))]
   have hol := hop.append hob
   rw [sko_loop _ _ _ fuel (p ++ b) a (by rw [fuel_big]; simp; omega) (by simp; omega) hol ha]
   obtain ⟨k1, k2, k3⟩ := ab_ok _ a (p ++ b) (Nat.le_refl _) ha hol
   unfold basculeref_Soaked.j0
   have := out_loop (fun c4 c9 => basculeref_Soaked.j1 (fun x5 c4 => some (c4, x5, ())) c4 c9) fuel (List.replicate 25 0, List.replicate 136 0, 0, ()) (ab a (p ++ b)).1 (ab a (p ++ b)).2 (by omega) (ab a (p ++ b)).2 [] fuel (by rw [fuel_big]; omega) rfl
   simp only [List.nil_append, List.length_nil, Nat.sub_zero] at this
   rw [show ((0 : Nat) : Int) = 0 from rfl] at this
   rw [this]; rfl
theorem oct_fit {l : List Int} (h : ∀ x ∈ l, Fit reachK (.int .u8) x) : Oct l := fun b hb => by
 have : IntKind.u8.min <= b /\ b <= IntKind.u8.max := by simpa [Fit, inR] using h b hb
 rw [show IntKind.u8.min = 0 by decide, show IntKind.u8.max = 255 by decide] at this
 omega
end Go.Bx
namespace Go.Bx
open Go
set_option linter.unusedSimpArgs false
set_option linter.unusedVariables false
set_option maxRecDepth 100000
def sumB (a : List Int) (i : Nat) : Int := IntKind.u8.wrap (shrI .u64 (a.getD (i / 8) 0) ((8 * (i % 8) : Nat) : Int))
def sumL (a : List Int) : List Int := (List.range 32).map (sumB a)
theorem sumL_len (a : List Int) : (sumL a).length = 32 := by simp [sumL]
theorem sumL_oct (a : List Int) : Oct (sumL a) := by
 intro b hb
 simp only [sumL, List.mem_map] at hb
 obtain ⟨i, _, rfl⟩ := hb
 unfold sumB
 generalize shrI .u64 (a.getD (i / 8) 0) ((8 * (i % 8) : Nat) : Int) = y
 have : IntKind.u8.wrap y = y % 256 := by simp [IntKind.wrap, IntKind.signed, IntKind.bits]
 rw [this]; omega
theorem sum_next (a : List Int) {i m : Nat} (h : m + 1 + i = 32) : ((sumL a).take i ++ List.replicate (m + 1) 0).set i (sumB a i) = (sumL a).take (i + 1) ++ List.replicate m 0 := by
 have hl : ((sumL a).take i).length = i := by rw [List.length_take, sumL_len]; omega
 rw [List.replicate_succ, List.take_add_one, List.getElem?_eq_getElem (by rw [sumL_len]; omega)]
 rw [List.set_append_right _ _ (by omega), hl, Nat.sub_self]
 have : (sumL a)[i]'(by rw [sumL_len]; omega) = sumB a i := by simp [sumL]
 rw [this]; simp
theorem end_loop {α : Type} (Xt : List Int -> List Int -> Option α) (K : Nat) (s : SpD) (z : List Int) : ∀ (m i n : Nat), m < n -> m + i = 32 ->
  keccak_End.l0 K Xt n (i : Int) s z ((sumL s.1).take i ++ List.replicate m 0) = Xt z (sumL s.1)
 | m, i, 0, h, _ => by omega
 | 0, i, n + 1, h, hi => by
  simp only [keccak_End.l0, keccak_End.l0s]
  rw [if_neg (by rw [decide_eq_true_eq]; omega), List.replicate_zero, List.append_nil, List.take_of_length_le (by rw [sumL_len]; omega)]
 | m + 1, i, n + 1, h, hi => by
  simp only [keccak_End.l0, keccak_End.l0s]
  have e1 : IntKind.i64.wrap (Int.tdiv (i : Int) 8) = ((i / 8 : Nat) : Int) := i64_tdiv (x := i) (c := 8) (by omega)
  have e2 : Int.tmod (i : Int) 8 = ((i % 8 : Nat) : Int) := tmod_nat i 8
  have e3 : IntKind.i64.wrap (8 * ((i % 8 : Nat) : Int)) = ((8 * (i % 8) : Nat) : Int) := by rw [wrap_i64 (by omega) (by omega)]; omega
  rw [e1, e2, e3, if_pos (by rw [decide_eq_true_eq]; omega), if_pos (by omega), if_pos (by omega), if_pos (by omega), i64_succ (by omega), toNat_nat, toNat_nat]
  have := sum_next s.1 (i := i) (m := m) hi
  unfold sumB at this
  rw [this]
  exact end_loop Xt K s z m (i + 1) n (by omega) (by omega)
theorem wrung_loop {α : Type} (Xt : List Int -> List Int -> Option α) (K : Nat) (a z : List Int) : ∀ (m i n : Nat), m < n -> m + i = 32 ->
  basculeref_Wrung.l0 K Xt n (i : Int) z a ((sumL a).take i ++ List.replicate m 0) = Xt z (sumL a)
 | m, i, 0, h, _ => by omega
 | 0, i, n + 1, h, hi => by
  simp only [basculeref_Wrung.l0, basculeref_Wrung.l0s]
  rw [if_neg (by rw [decide_eq_true_eq]; omega), List.replicate_zero, List.append_nil, List.take_of_length_le (by rw [sumL_len]; omega)]
 | m + 1, i, n + 1, h, hi => by
  simp only [basculeref_Wrung.l0, basculeref_Wrung.l0s]
  have e1 : IntKind.i64.wrap (Int.tdiv (i : Int) 8) = ((i / 8 : Nat) : Int) := i64_tdiv (x := i) (c := 8) (by omega)
  have e2 : Int.tmod (i : Int) 8 = ((i % 8 : Nat) : Int) := tmod_nat i 8
  have e3 : IntKind.i64.wrap (((i % 8 : Nat) : Int) * 8) = ((8 * (i % 8) : Nat) : Int) := by rw [wrap_i64 (by omega) (by omega)]; omega
  rw [e1, e2, e3, if_pos (by rw [decide_eq_true_eq]; omega), if_pos (by omega), if_pos (by omega), if_pos (by omega), i64_succ (by omega), toNat_nat, toNat_nat]
  have := sum_next a (i := i) (m := m) hi
  unfold sumB at this
  rw [this]
  exact wrung_loop Xt K a z m (i + 1) n (by omega) (by omega)
def padP (p : List Int) : List Int := p ++ 1 :: List.replicate (135 - p.length) 0
def padB (p : List Int) : List Int := (padP p).set 135 (if p.length = 135 then 129 else 128)
theorem padP_len {p : List Int} (h : p.length < 136) : (padP p).length = 136 := by simp [padP]; omega
theorem padB_len {p : List Int} (h : p.length < 136) : (padB p).length = 136 := by simp [padB, padP_len h]
theorem padB_oct {p : List Int} (h : Oct p) : Oct (padB p) := by
 intro b hb
 rcases List.mem_or_eq_of_mem_set hb with hb | hb
 ·rcases List.mem_append.1 hb with hb | hb
  ·exact h b hb
  ·rcases List.mem_cons.1 hb with rfl | hb
   ·decide
   ·rw [List.eq_of_mem_replicate hb]; decide
 ·subst hb; split <;> decide
theorem pad_one {p : List Int} (h : p.length < 136) : (p ++ List.replicate (136 - p.length) 0).set p.length 1 = padP p := by
 rw [show 136 - p.length = (135 - p.length) + 1 by omega, List.replicate_succ]; simp [padP]
theorem pad_last {p : List Int} (h : p.length < 136) : (padP p).getD 135 0 = if p.length = 135 then 1 else 0 := by
 unfold padP
 rw [List.getD_eq_getElem?_getD, List.getElem?_append_right (by omega)]
 by_cases e : p.length = 135
 ·rw [if_pos e, e]; rfl
 ·rw [if_neg e, show 135 - p.length = (134 - p.length) + 1 by omega, List.getElem?_cons_succ, List.getElem?_replicate, if_pos (by omega)]; rfl
theorem ended {a h : List Int} {N : Int} (ha : a.length = 25) (hh : h.length = 136) (hoh : Oct h) :
  (badS h N = true -> keccak_End.run (a, h, N, ()) = some (List.replicate 32 0, 12, ()) /\ basculeref_Wrung.run (a, h, N, ()) = some (List.replicate 32 0, 12, ())) /\
  (∀ p : List Int, p.length < 136 -> N = (p.length : Int) -> h = p ++ List.replicate (136 - p.length) 0 -> badS h N = false -> keccak_End.run (a, h, N, ()) = some (sumL (blkT a (padB p)), 0, ()) /\ basculeref_Wrung.run (a, h, N, ()) = some (sumL (blkT a (padB p)), 0, ())) := by
 unfold keccak_End.run keccak_End.top basculeref_Wrung.run basculeref_Wrung.top
 rw [check_run a h N hh, bad_run a h N hh]
 simp only [Option.bind_some]
 constructor
 ·intro hb
  rw [hb]; exact ⟨rfl, rfl⟩
 ·intro p hp hN hhp hb
  rw [hb]
  simp only [Bool.false_eq_true, if_false, bne_self_eq_false]
  subst hhp
  have hop : Oct p := fun x hx => hoh x (List.mem_append_left _ hx)
  obtain ⟨b1, b2, b3⟩ := blkT_run ha (padB_len hp) (padB_oct hop)
  have hz : (p ++ List.replicate (136 - p.length) 0).getD p.length 0 = 0 := by
   rw [show 136 - p.length = (135 - p.length) + 1 by omega, List.replicate_succ]; simp [List.getD]
  simp only [hN, toNat_nat]
  rw [hz, show bxor .u8 0 1 = 1 by decide, pad_one hp, if_pos (by omega), if_pos (by omega), if_pos (by omega), pad_last hp]
  have v1 : bor .u8 (if p.length = 135 then 1 else 0) 128 = if p.length = 135 then 129 else 128 := by split <;> decide
  have v2 : bxor .u8 (if p.length = 135 then 1 else 0) 128 = if p.length = 135 then 129 else 128 := by split <;> decide
  rw [v1, v2]
  have hc : cutL (padB p) 0 136 = padB p := by
   unfold cutL
   rw [show Int.toNat 0 = 0 from rfl, List.drop_zero, List.take_of_length_le (by rw [padB_len hp]; decide)]
  rw [show (padP p).set 135 (if p.length = 135 then 129 else 128) = padB p from rfl, hc, b3, b2]
  simp only [Option.bind_some]
  have w1 := end_loop (fun c2 c5 => keccak_End.j0 (fun x3 c2 => some (c2, x3, ())) c2 c5) fuel (blkT a (padB p), List.replicate 136 0, 0, ()) (List.replicate 32 0) 32 0 fuel (by rw [fuel_big]; omega) rfl
  have w2 := wrung_loop (fun c2 c6 => basculeref_Wrung.j0 (fun x3 c2 => some (c2, x3, ())) c2 c6) fuel (blkT a (padB p)) (List.replicate 32 0) 32 0 fuel (by rw [fuel_big]; omega) rfl
  simp only [List.take_zero, List.nil_append] at w1 w2
  rw [show ((0 : Nat) : Int) = 0 from rfl] at w1 w2
  rw [w1, w2]
  exact ⟨rfl, rfl⟩
end Go.Bx
namespace Go.Bx
open Go
set_option linter.unusedSimpArgs false
set_option linter.unusedVariables false
set_option maxRecDepth 100000
def kec (b : List Int) : List Int := sumL (blkT (ab (List.replicate 25 0) b).1 (padB (ab (List.replicate 25 0) b).2))
theorem kec_len (b : List Int) : (kec b).length = 32 := sumL_len _
theorem kec_oct (b : List Int) : Oct (kec b) := sumL_oct _
theorem badS_sp {r : List Int × List Int} (h : r.2.length < 136) : badS (r.2 ++ List.replicate (136 - r.2.length) 0) (r.2.length : Int) = false := by
 unfold badS
 rw [toNat_nat, List.drop_append_of_le_length (Nat.le_refl _), List.drop_length, List.nil_append]
 have : (List.replicate (136 - r.2.length) (0 : Int)).all (fun x => x == 0) = true := by
  rw [List.all_eq_true]; intro x hx; rw [List.eq_of_mem_replicate hx]; rfl
 rw [this]
 simp only [Bool.and_true, Bool.not_eq_false', Bool.and_eq_true, decide_eq_true_eq]
 omega
theorem sum_both {b : List Int} (ho : Oct b) (hb : b.length <= 4611686018427387904) : keccak_Sum.run b = some (kec b) /\ basculeref_Hash.run b = some (kec b) := by
 obtain ⟨_, k2⟩ := added (a := List.replicate 25 0) (h := List.replicate 136 0) (N := 0) (by simp) (by simp) (Oct.zeros _) ho hb
 obtain ⟨m1, m2⟩ := k2 [] (by simp) rfl rfl (badS_sp (r := ([], [])) (by simp))
 rw [List.nil_append] at m1 m2
 obtain ⟨z1, z2, z3⟩ := ab_ok _ (List.replicate 25 0) b (Nat.le_refl _) (by simp) ho
 obtain ⟨_, n2⟩ := ended (a := (ab (List.replicate 25 0) b).1) (h := (ab (List.replicate 25 0) b).2 ++ List.replicate (136 - (ab (List.replicate 25 0) b).2.length) 0) (N := ((ab (List.replicate 25 0) b).2.length : Int)) z1 (by rw [List.length_append, List.length_replicate]; omega) (z3.append (Oct.zeros _))
 obtain ⟨q1, q2⟩ := n2 _ z2 rfl rfl (badS_sp z2)
 constructor
 ·unfold keccak_Sum.run keccak_Sum.top keccak_Begin.run keccak_Begin.top
  rw [Option.bind_some, m1, Option.bind_some]
  unfold sp
  simp only []
  rw [q1]; rfl
 ·unfold basculeref_Hash.run basculeref_Hash.top
  rw [m2, Option.bind_some]
  unfold sp
  simp only []
  rw [q2]; rfl
end Go.Bx
namespace Go.Bx
open Go
set_option linter.unusedSimpArgs false
set_option linter.unusedVariables false
set_option maxRecDepth 100000
theorem ble_le {a b : Nat} (h : a <= b) : Nat.ble a b = true := Nat.ble_eq_true_of_le h
def byt (x : Int) (n : Nat) : Int := x / 2 ^ n % 256
def be (x : Int) : Nat -> List Int
 | 0 => []
 | k + 1 => byt x (8 * k) :: be x k
theorem be_len (x : Int) : ∀ k, (be x k).length = k
 | 0 => rfl
 | k + 1 => by simp [be, be_len x k]
theorem byt_rng (x : Int) (n : Nat) : 0 <= byt x n /\ byt x n < 256 := by
 unfold byt; exact ⟨Int.emod_nonneg _ (by decide), Int.emod_lt_of_pos _ (by decide)⟩
theorem be_rng (x : Int) : ∀ k, ∀ b ∈ be x k, 0 <= b /\ b < 256
 | 0, b, h => by simp [be] at h
 | k + 1, b, h => by
  simp only [be, List.mem_cons] at h
  rcases h with rfl | h
  ·exact byt_rng _ _
  ·exact be_rng x k b h
theorem byt_down (x : Int) (n : Nat) : byt (x / 256) n = byt x (n + 8) := by
 unfold byt
 rw [show (2 : Int) ^ (n + 8) = 256 * 2 ^ n by rw [Int.pow_add, Int.mul_comm]; rfl, <- Int.ediv_ediv_of_nonneg (by decide)]
theorem be_snoc (x : Int) : ∀ k, be x (k + 1) = be (x / 256) k ++ [byt x 0]
 | 0 => rfl
 | k + 1 => by
  show byt x (8 * (k + 1)) :: be x (k + 1) = byt (x / 256) (8 * k) :: be (x / 256) k ++ [byt x 0]
  rw [be_snoc x k, byt_down]; rfl
theorem u8_byt (x : Int) : IntKind.u8.wrap x = byt x 0 := by
 rw [wrap_u8_mod]; simp [byt]
theorem shr8_div (x : Int) : shrI .u64 x 8 = x / 256 := by
 show x.fdiv (2 ^ (min (8 : Int).toNat 64)) = _
 rw [Int.fdiv_eq_ediv_of_nonneg _ (by decide)]; rfl
theorem shr_byt (k : IntKind) (x : Int) (n : Nat) (h : n <= k.bits) : IntKind.u8.wrap (shrI k x (n : Int)) = byt x n := by
 rw [wrap_u8_mod]
 unfold shrI byt
 rw [show min ((n : Nat) : Int).toNat k.bits = n by simp; omega, Int.fdiv_eq_ediv_of_nonneg _ (Int.le_of_lt (Int.pow_pos (by omega)))]
theorem big_loop {α : Type} (Xt : List Int -> Option α) (K : Nat) (N : Nat) (hN : N <= 1000) : ∀ (m i n : Nat) (x : Int) (acc : List Int), m < n -> i + m = N -> acc.length <= i ->
  basculeref_big.l0 K Xt n x acc (N : Int) (i : Int) = Xt (be x m ++ acc)
 | m, i, 0, x, acc, h, _, _ => by omega
 | 0, i, n + 1, x, acc, h, hi, ha => by
  simp only [basculeref_big.l0, basculeref_big.l0s]
  rw [if_neg (by rw [decide_eq_true_eq]; omega)]; rfl
 | m + 1, i, n + 1, x, acc, h, hi, ha => by
  simp only [basculeref_big.l0, basculeref_big.l0s]
  rw [if_pos (by rw [decide_eq_true_eq]; omega), if_pos (ble_le (by omega)), i64_succ (by omega), shr8_div, u8_byt]
  refine (big_loop Xt K N hN m (i + 1) n (x / 256) _ (by omega) (by omega) (by simp; omega)).trans ?_
  rw [be_snoc, List.append_assoc]
theorem big_run (x : Int) (N : Nat) (hN : N <= 1000) : basculeref_big.run x (N : Int) = some (be x N) := by
 unfold basculeref_big.run basculeref_big.top
 refine (big_loop (fun x5 => basculeref_big.j0 (fun x4 => some x4) x5) fuel N hN N 0 fuel x [] (by rw [fuel_big]; omega) (by omega) (by simp)).trans ?_
 unfold basculeref_big.j0
 rw [List.append_nil]
def txt (l : List Int) : List Int := be (l.getD 3 0) 8 ++ be (l.getD 2 0) 8 ++ be (l.getD 1 0) 8 ++ be (l.getD 0 0) 8
theorem txt_len (l : List Int) : (txt l).length = 32 := by simp [txt, be_len]
theorem txt_rng (l : List Int) : ∀ b ∈ txt l, 0 <= b /\ b < 256 := by
 intro b h
 simp only [txt, List.mem_append] at h
 rcases h with ((h | h) | h) | h <;> exact be_rng _ _ b h
theorem cutL_all {α : Type} (l : List α) (n : Int) (h : (l.length : Int) = n) : cutL l 0 n = l := by
 subst h; simp [cutL]
end Go.Bx
namespace Go.Bx
open Go
set_option linter.unusedSimpArgs false
set_option linter.unusedVariables false
set_option maxRecDepth 100000
theorem text4_run (l : List Int) : basculeref_text.run l = some (txt l) := by
 have h8 : ∀ x : Int, basculeref_big.run x 8 = some (be x 8) := fun x => big_run x 8 (by omega)
 unfold basculeref_text.run basculeref_text.top
 simp only [h8, Option.bind_some]
 rw [if_pos (ble_le (by simp [be_len])), if_pos (ble_le (by simp [be_len])), if_pos (ble_le (by simp [be_len]))]
 rfl
def bytA (x : Int) (n : Int) : Int := IntKind.u8.wrap (shrI .u64 x n)
def be8A (x : Int) : List Int := [bytA x 56, bytA x 48, bytA x 40, bytA x 32, bytA x 24, bytA x 16, bytA x 8, bytA x 0]
theorem wideBytes4 (a b c d : Int) : wide_Bytes.run [a, b, c, d] = some (be8A d ++ be8A c ++ be8A b ++ be8A a) := by kernel_rfl
theorem be8A_eq (x : Int) : be8A x = be x 8 := by
 have h : ∀ n : Nat, n <= 64 -> bytA x (n : Int) = byt x n := fun n hn => shr_byt .u64 x n hn
 unfold be8A
 have e0 : bytA x 0 = byt x 0 := h 0 (by decide)
 have e1 : bytA x 8 = byt x 8 := h 8 (by decide)
 have e2 : bytA x 16 = byt x 16 := h 16 (by decide)
 have e3 : bytA x 24 = byt x 24 := h 24 (by decide)
 have e4 : bytA x 32 = byt x 32 := h 32 (by decide)
 have e5 : bytA x 40 = byt x 40 := h 40 (by decide)
 have e6 : bytA x 48 = byt x 48 := h 48 (by decide)
 have e7 : bytA x 56 = byt x 56 := h 56 (by decide)
 rw [e7, e6, e5, e4, e3, e2, e1, e0]
 rfl
theorem wideBytes_run (l : List Int) (h : l.length = 4) : wide_Bytes.run l = some (txt l) := by
 obtain ⟨a, b, c, d, rfl⟩ := four_of_len h
 rw [wideBytes4]
 simp only [be8A_eq]
 rfl
end Go.Bx
namespace Go.Bx.Frm
open Go Go.Bx
set_option linter.unusedSimpArgs false
set_option linter.unusedVariables false
set_option maxRecDepth 100000
def orW (b0 b1 b2 b3 b4 b5 b6 b7 : Int) : Int := (bor .u64 (bor .u64 (bor .u64 (bor .u64 (bor .u64 (bor .u64 (bor .u64 (bor .u64 0 (shlI .u64 (IntKind.u64.wrap b0) 56)) (shlI .u64 (IntKind.u64.wrap b1) 48)) (shlI .u64 (IntKind.u64.wrap b2) 40)) (shlI .u64 (IntKind.u64.wrap b3) 32)) (shlI .u64 (IntKind.u64.wrap b4) 24)) (shlI .u64 (IntKind.u64.wrap b5) 16)) (shlI .u64 (IntKind.u64.wrap b6) 8)) (shlI .u64 (IntKind.u64.wrap b7) 0))
def sumW (b0 b1 b2 b3 b4 b5 b6 b7 : Int) : Int := (IntKind.u64.wrap ((IntKind.u64.wrap ((IntKind.u64.wrap ((IntKind.u64.wrap ((IntKind.u64.wrap ((IntKind.u64.wrap ((IntKind.u64.wrap ((IntKind.u64.wrap ((IntKind.u64.wrap ((IntKind.u64.wrap ((IntKind.u64.wrap ((IntKind.u64.wrap ((IntKind.u64.wrap ((IntKind.u64.wrap ((IntKind.u64.wrap ((IntKind.u64.wrap (0 * 256)) + (IntKind.u64.wrap b0))) * 256)) + (IntKind.u64.wrap b1))) * 256)) + (IntKind.u64.wrap b2))) * 256)) + (IntKind.u64.wrap b3))) * 256)) + (IntKind.u64.wrap b4))) * 256)) + (IntKind.u64.wrap b5))) * 256)) + (IntKind.u64.wrap b6))) * 256)) + (IntKind.u64.wrap b7)))
theorem wb5 (a0 a1 a2 a3 a4 a5 a6 a7 a8 a9 a10 a11 a12 a13 a14 a15 a16 a17 a18 a19 a20 a21 a22 a23 a24 a25 a26 a27 a28 a29 a30 a31 : Int) : wide_From.run [a0, a1, a2, a3, a4, a5, a6, a7, a8, a9, a10, a11, a12, a13, a14, a15, a16, a17, a18, a19, a20, a21, a22, a23, a24, a25, a26, a27, a28, a29, a30, a31] = some [orW a24 a25 a26 a27 a28 a29 a30 a31, orW a16 a17 a18 a19 a20 a21 a22 a23, orW a8 a9 a10 a11 a12 a13 a14 a15, orW a0 a1 a2 a3 a4 a5 a6 a7] := by kernel_rfl
theorem wb6 (a0 a1 a2 a3 a4 a5 a6 a7 a8 a9 a10 a11 a12 a13 a14 a15 a16 a17 a18 a19 a20 a21 a22 a23 a24 a25 a26 a27 a28 a29 a30 a31 : Int) : basculeref_FromBytes.run [a0, a1, a2, a3, a4, a5, a6, a7, a8, a9, a10, a11, a12, a13, a14, a15, a16, a17, a18, a19, a20, a21, a22, a23, a24, a25, a26, a27, a28, a29, a30, a31] = some [sumW a24 a25 a26 a27 a28 a29 a30 a31, sumW a16 a17 a18 a19 a20 a21 a22 a23, sumW a8 a9 a10 a11 a12 a13 a14 a15, sumW a0 a1 a2 a3 a4 a5 a6 a7] := by kernel_rfl
theorem bor_add (i a b : Nat) (hb : b < 2 ^ i) (hx : 2 ^ i * a + b < 2 ^ 64) : bor .u64 ((2 ^ i * a : Nat) : Int) ((b : Nat) : Int) = ((2 ^ i * a + b : Nat) : Int) := by
 have h1 : 2 ^ i * a < 2 ^ 64 := by omega
 have h2 : b < 2 ^ 64 := by omega
 show IntKind.u64.wrap (((BitVec.ofInt 64 ((2 ^ i * a : Nat) : Int) ||| BitVec.ofInt 64 ((b : Nat) : Int)).toNat : Nat) : Int) = _
 rw [BitVec.toNat_or]
 have e1 : (BitVec.ofInt 64 ((2 ^ i * a : Nat) : Int)).toNat = 2 ^ i * a := by
  rw [BitVec.ofInt_natCast, BitVec.toNat_ofNat, Nat.mod_eq_of_lt h1]
 have e2 : (BitVec.ofInt 64 ((b : Nat) : Int)).toNat = b := by
  rw [BitVec.ofInt_natCast, BitVec.toNat_ofNat, Nat.mod_eq_of_lt h2]
 rw [e1, e2, <- Nat.two_pow_add_eq_or_of_lt hb]
 exact wrap_u64 (by omega) (by omega)
theorem or_step (s : Nat) (p q : Int) (hp : p = 2 ^ (s + 8)) (hq : q = 2 ^ s) (hs : s <= 56) {A b : Int} (hA : 0 <= A) (hb : 0 <= b /\ b < 256) (hlt : A * p + b * q < 18446744073709551616) :
  bor .u64 (A * p) (shlI .u64 (IntKind.u64.wrap b) s) = A * p + b * q := by
 obtain ⟨a, rfl⟩ := Int.eq_ofNat_of_zero_le hA
 obtain ⟨c, rfl⟩ := Int.eq_ofNat_of_zero_le hb.1
 have hc : c < 256 := by omega
 have hshl : shlI .u64 (IntKind.u64.wrap (c : Int)) s = ((c * 2 ^ s : Nat) : Int) := by
  unfold shlI
  rw [wrap_u64 (x := (c : Int)) (by omega) (by omega)]
  rw [show min ((s : Nat) : Int).toNat IntKind.u64.bits = s by simp [IntKind.bits]; omega]
  have h56 : (2 : Nat) ^ s <= 2 ^ 56 := Nat.pow_le_pow_right (by omega) hs
  have hm : c * 2 ^ s <= 255 * 2 ^ 56 := Nat.mul_le_mul (by omega) h56
  rw [show (c : Int) * 2 ^ s = ((c * 2 ^ s : Nat) : Int) by push_cast; rfl]
  exact wrap_u64 (by omega) (by omega)
 have e1 : (a : Int) * p = ((2 ^ (s + 8) * a : Nat) : Int) := by rw [hp]; push_cast; rw [Int.mul_comm]
 have e2 : (c : Int) * q = ((c * 2 ^ s : Nat) : Int) := by rw [hq]; push_cast; rfl
 rw [e1, e2] at hlt
 rw [hshl, e1, e2, bor_add (s + 8) a (c * 2 ^ s) (by rw [Nat.pow_add, Nat.mul_comm]; exact Nat.mul_lt_mul_of_pos_left hc (Nat.pow_pos (by omega))) (by omega)]
 push_cast; rfl
theorem or_sum {b0 b1 b2 b3 b4 b5 b6 b7 : Int} (h0 : 0 <= b0 /\ b0 < 256) (h1 : 0 <= b1 /\ b1 < 256) (h2 : 0 <= b2 /\ b2 < 256) (h3 : 0 <= b3 /\ b3 < 256) (h4 : 0 <= b4 /\ b4 < 256) (h5 : 0 <= b5 /\ b5 < 256) (h6 : 0 <= b6 /\ b6 < 256) (h7 : 0 <= b7 /\ b7 < 256) : orW b0 b1 b2 b3 b4 b5 b6 b7 = sumW b0 b1 b2 b3 b4 b5 b6 b7 := by
 unfold orW sumW
 have e0 : bor .u64 0 (shlI .u64 (IntKind.u64.wrap b0) 56) = b0 * 72057594037927936 := by
  have := or_step 56 18446744073709551616 72057594037927936 rfl rfl (by omega) (A := 0) (b := b0) (by omega) h0 (by omega)
  simp only [Int.zero_mul] at this; simpa using this
 have e1 : bor .u64 (b0 * 72057594037927936) (shlI .u64 (IntKind.u64.wrap b1) 48) = (b0 * 256 + b1) * 281474976710656 := by
  have := or_step 48 72057594037927936 281474976710656 rfl rfl (by omega) (A := b0) (b := b1) (by omega) h1 (by omega)
  refine this.trans ?_; omega
 have e2 : bor .u64 ((b0 * 256 + b1) * 281474976710656) (shlI .u64 (IntKind.u64.wrap b2) 40) = ((b0 * 256 + b1) * 256 + b2) * 1099511627776 := by
  have := or_step 40 281474976710656 1099511627776 rfl rfl (by omega) (A := (b0 * 256 + b1)) (b := b2) (by omega) h2 (by omega)
  refine this.trans ?_; omega
 have e3 : bor .u64 (((b0 * 256 + b1) * 256 + b2) * 1099511627776) (shlI .u64 (IntKind.u64.wrap b3) 32) = (((b0 * 256 + b1) * 256 + b2) * 256 + b3) * 4294967296 := by
  have := or_step 32 1099511627776 4294967296 rfl rfl (by omega) (A := ((b0 * 256 + b1) * 256 + b2)) (b := b3) (by omega) h3 (by omega)
  refine this.trans ?_; omega
 have e4 : bor .u64 ((((b0 * 256 + b1) * 256 + b2) * 256 + b3) * 4294967296) (shlI .u64 (IntKind.u64.wrap b4) 24) = ((((b0 * 256 + b1) * 256 + b2) * 256 + b3) * 256 + b4) * 16777216 := by
  have := or_step 24 4294967296 16777216 rfl rfl (by omega) (A := (((b0 * 256 + b1) * 256 + b2) * 256 + b3)) (b := b4) (by omega) h4 (by omega)
  refine this.trans ?_; omega
 have e5 : bor .u64 (((((b0 * 256 + b1) * 256 + b2) * 256 + b3) * 256 + b4) * 16777216) (shlI .u64 (IntKind.u64.wrap b5) 16) = (((((b0 * 256 + b1) * 256 + b2) * 256 + b3) * 256 + b4) * 256 + b5) * 65536 := by
  have := or_step 16 16777216 65536 rfl rfl (by omega) (A := ((((b0 * 256 + b1) * 256 + b2) * 256 + b3) * 256 + b4)) (b := b5) (by omega) h5 (by omega)
  refine this.trans ?_; omega
 have e6 : bor .u64 ((((((b0 * 256 + b1) * 256 + b2) * 256 + b3) * 256 + b4) * 256 + b5) * 65536) (shlI .u64 (IntKind.u64.wrap b6) 8) = ((((((b0 * 256 + b1) * 256 + b2) * 256 + b3) * 256 + b4) * 256 + b5) * 256 + b6) * 256 := by
  have := or_step 8 65536 256 rfl rfl (by omega) (A := (((((b0 * 256 + b1) * 256 + b2) * 256 + b3) * 256 + b4) * 256 + b5)) (b := b6) (by omega) h6 (by omega)
  refine this.trans ?_; omega
 have e7 : bor .u64 (((((((b0 * 256 + b1) * 256 + b2) * 256 + b3) * 256 + b4) * 256 + b5) * 256 + b6) * 256) (shlI .u64 (IntKind.u64.wrap b7) 0) = (((((((b0 * 256 + b1) * 256 + b2) * 256 + b3) * 256 + b4) * 256 + b5) * 256 + b6) * 256 + b7) * 1 := by
  have := or_step 0 256 1 rfl rfl (by omega) (A := ((((((b0 * 256 + b1) * 256 + b2) * 256 + b3) * 256 + b4) * 256 + b5) * 256 + b6)) (b := b7) (by omega) h7 (by omega)
  refine this.trans ?_; omega
 rw [e0, e1, e2, e3, e4, e5, e6, e7]
 have f0 : IntKind.u64.wrap ((IntKind.u64.wrap (0 * 256)) + (IntKind.u64.wrap b0)) = b0 := by
  rw [wrap_u64 (x := 0 * 256) (by omega) (by omega), wrap_u64 (x := b0) (by omega) (by omega), wrap_u64 (by omega) (by omega)]; omega
 have f1 : IntKind.u64.wrap ((IntKind.u64.wrap (b0 * 256)) + (IntKind.u64.wrap b1)) = (b0 * 256 + b1) := by
  rw [wrap_u64 (x := b0 * 256) (by omega) (by omega), wrap_u64 (x := b1) (by omega) (by omega), wrap_u64 (by omega) (by omega)]
 have f2 : IntKind.u64.wrap ((IntKind.u64.wrap ((b0 * 256 + b1) * 256)) + (IntKind.u64.wrap b2)) = ((b0 * 256 + b1) * 256 + b2) := by
  rw [wrap_u64 (x := (b0 * 256 + b1) * 256) (by omega) (by omega), wrap_u64 (x := b2) (by omega) (by omega), wrap_u64 (by omega) (by omega)]
 have f3 : IntKind.u64.wrap ((IntKind.u64.wrap (((b0 * 256 + b1) * 256 + b2) * 256)) + (IntKind.u64.wrap b3)) = (((b0 * 256 + b1) * 256 + b2) * 256 + b3) := by
  rw [wrap_u64 (x := ((b0 * 256 + b1) * 256 + b2) * 256) (by omega) (by omega), wrap_u64 (x := b3) (by omega) (by omega), wrap_u64 (by omega) (by omega)]
 have f4 : IntKind.u64.wrap ((IntKind.u64.wrap ((((b0 * 256 + b1) * 256 + b2) * 256 + b3) * 256)) + (IntKind.u64.wrap b4)) = ((((b0 * 256 + b1) * 256 + b2) * 256 + b3) * 256 + b4) := by
  rw [wrap_u64 (x := (((b0 * 256 + b1) * 256 + b2) * 256 + b3) * 256) (by omega) (by omega), wrap_u64 (x := b4) (by omega) (by omega), wrap_u64 (by omega) (by omega)]
 have f5 : IntKind.u64.wrap ((IntKind.u64.wrap (((((b0 * 256 + b1) * 256 + b2) * 256 + b3) * 256 + b4) * 256)) + (IntKind.u64.wrap b5)) = (((((b0 * 256 + b1) * 256 + b2) * 256 + b3) * 256 + b4) * 256 + b5) := by
  rw [wrap_u64 (x := ((((b0 * 256 + b1) * 256 + b2) * 256 + b3) * 256 + b4) * 256) (by omega) (by omega), wrap_u64 (x := b5) (by omega) (by omega), wrap_u64 (by omega) (by omega)]
 have f6 : IntKind.u64.wrap ((IntKind.u64.wrap ((((((b0 * 256 + b1) * 256 + b2) * 256 + b3) * 256 + b4) * 256 + b5) * 256)) + (IntKind.u64.wrap b6)) = ((((((b0 * 256 + b1) * 256 + b2) * 256 + b3) * 256 + b4) * 256 + b5) * 256 + b6) := by
  rw [wrap_u64 (x := (((((b0 * 256 + b1) * 256 + b2) * 256 + b3) * 256 + b4) * 256 + b5) * 256) (by omega) (by omega), wrap_u64 (x := b6) (by omega) (by omega), wrap_u64 (by omega) (by omega)]
 have f7 : IntKind.u64.wrap ((IntKind.u64.wrap (((((((b0 * 256 + b1) * 256 + b2) * 256 + b3) * 256 + b4) * 256 + b5) * 256 + b6) * 256)) + (IntKind.u64.wrap b7)) = (((((((b0 * 256 + b1) * 256 + b2) * 256 + b3) * 256 + b4) * 256 + b5) * 256 + b6) * 256 + b7) := by
  rw [wrap_u64 (x := ((((((b0 * 256 + b1) * 256 + b2) * 256 + b3) * 256 + b4) * 256 + b5) * 256 + b6) * 256) (by omega) (by omega), wrap_u64 (x := b7) (by omega) (by omega), wrap_u64 (by omega) (by omega)]
 rw [f0, f1, f2, f3, f4, f5, f6, f7]; omega
theorem cons_of_len {α : Type} {l : List α} {n : Nat} (h : l.length = n + 1) : ∃ a t, l = a :: t /\ t.length = n := by
 cases l with
 | nil => simp at h
 | cons a t => exact ⟨a, t, rfl, by simpa using h⟩
theorem sumW_rng (b0 b1 b2 b3 b4 b5 b6 b7 : Int) : 0 <= sumW b0 b1 b2 b3 b4 b5 b6 b7 /\ sumW b0 b1 b2 b3 b4 b5 b6 b7 < B64 := by
 unfold sumW
 rw [wrap_u64_mod]
 exact ⟨Int.emod_nonneg _ (by decide), Int.emod_lt_of_pos _ (by decide)⟩
theorem from_both (y : List Int) (hy : y.length = 32) (hb : ∀ b ∈ y, 0 <= b /\ b < 256) : ∃ r, wide_From.run y = some r /\ basculeref_FromBytes.run y = some r /\ r.length = 4 /\ digs B64 r := by
 obtain ⟨a0, y0, e_0, hy0⟩ := cons_of_len hy
 subst e_0
 obtain ⟨a1, y1, e_1, hy1⟩ := cons_of_len hy0
 subst e_1
 obtain ⟨a2, y2, e_2, hy2⟩ := cons_of_len hy1
 subst e_2
 obtain ⟨a3, y3, e_3, hy3⟩ := cons_of_len hy2
 subst e_3
 obtain ⟨a4, y4, e_4, hy4⟩ := cons_of_len hy3
 subst e_4
 obtain ⟨a5, y5, e_5, hy5⟩ := cons_of_len hy4
 subst e_5
 obtain ⟨a6, y6, e_6, hy6⟩ := cons_of_len hy5
 subst e_6
 obtain ⟨a7, y7, e_7, hy7⟩ := cons_of_len hy6
 subst e_7
 obtain ⟨a8, y8, e_8, hy8⟩ := cons_of_len hy7
 subst e_8
 obtain ⟨a9, y9, e_9, hy9⟩ := cons_of_len hy8
 subst e_9
 obtain ⟨a10, y10, e_10, hy10⟩ := cons_of_len hy9
 subst e_10
 obtain ⟨a11, y11, e_11, hy11⟩ := cons_of_len hy10
 subst e_11
 obtain ⟨a12, y12, e_12, hy12⟩ := cons_of_len hy11
 subst e_12
 obtain ⟨a13, y13, e_13, hy13⟩ := cons_of_len hy12
 subst e_13
 obtain ⟨a14, y14, e_14, hy14⟩ := cons_of_len hy13
 subst e_14
 obtain ⟨a15, y15, e_15, hy15⟩ := cons_of_len hy14
 subst e_15
 obtain ⟨a16, y16, e_16, hy16⟩ := cons_of_len hy15
 subst e_16
 obtain ⟨a17, y17, e_17, hy17⟩ := cons_of_len hy16
 subst e_17
 obtain ⟨a18, y18, e_18, hy18⟩ := cons_of_len hy17
 subst e_18
 obtain ⟨a19, y19, e_19, hy19⟩ := cons_of_len hy18
 subst e_19
 obtain ⟨a20, y20, e_20, hy20⟩ := cons_of_len hy19
 subst e_20
 obtain ⟨a21, y21, e_21, hy21⟩ := cons_of_len hy20
 subst e_21
 obtain ⟨a22, y22, e_22, hy22⟩ := cons_of_len hy21
 subst e_22
 obtain ⟨a23, y23, e_23, hy23⟩ := cons_of_len hy22
 subst e_23
 obtain ⟨a24, y24, e_24, hy24⟩ := cons_of_len hy23
 subst e_24
 obtain ⟨a25, y25, e_25, hy25⟩ := cons_of_len hy24
 subst e_25
 obtain ⟨a26, y26, e_26, hy26⟩ := cons_of_len hy25
 subst e_26
 obtain ⟨a27, y27, e_27, hy27⟩ := cons_of_len hy26
 subst e_27
 obtain ⟨a28, y28, e_28, hy28⟩ := cons_of_len hy27
 subst e_28
 obtain ⟨a29, y29, e_29, hy29⟩ := cons_of_len hy28
 subst e_29
 obtain ⟨a30, y30, e_30, hy30⟩ := cons_of_len hy29
 subst e_30
 obtain ⟨a31, y31, e_31, hy31⟩ := cons_of_len hy30
 subst e_31
 have e_y := List.eq_nil_of_length_eq_zero hy31
 subst e_y
 have ha0 := hb a0 (by simp)
 have ha1 := hb a1 (by simp)
 have ha2 := hb a2 (by simp)
 have ha3 := hb a3 (by simp)
 have ha4 := hb a4 (by simp)
 have ha5 := hb a5 (by simp)
 have ha6 := hb a6 (by simp)
 have ha7 := hb a7 (by simp)
 have ha8 := hb a8 (by simp)
 have ha9 := hb a9 (by simp)
 have ha10 := hb a10 (by simp)
 have ha11 := hb a11 (by simp)
 have ha12 := hb a12 (by simp)
 have ha13 := hb a13 (by simp)
 have ha14 := hb a14 (by simp)
 have ha15 := hb a15 (by simp)
 have ha16 := hb a16 (by simp)
 have ha17 := hb a17 (by simp)
 have ha18 := hb a18 (by simp)
 have ha19 := hb a19 (by simp)
 have ha20 := hb a20 (by simp)
 have ha21 := hb a21 (by simp)
 have ha22 := hb a22 (by simp)
 have ha23 := hb a23 (by simp)
 have ha24 := hb a24 (by simp)
 have ha25 := hb a25 (by simp)
 have ha26 := hb a26 (by simp)
 have ha27 := hb a27 (by simp)
 have ha28 := hb a28 (by simp)
 have ha29 := hb a29 (by simp)
 have ha30 := hb a30 (by simp)
 have ha31 := hb a31 (by simp)
 have s0 := or_sum ha0 ha1 ha2 ha3 ha4 ha5 ha6 ha7
 have s1 := or_sum ha8 ha9 ha10 ha11 ha12 ha13 ha14 ha15
 have s2 := or_sum ha16 ha17 ha18 ha19 ha20 ha21 ha22 ha23
 have s3 := or_sum ha24 ha25 ha26 ha27 ha28 ha29 ha30 ha31
 refine ⟨_, wb5 _ _ _ _ _ _ _ _ _ _ _ _ _ _ _ _ _ _ _ _ _ _ _ _ _ _ _ _ _ _ _ _, ?_, rfl, ?_⟩
 ·rw [wb6, s0, s1, s2, s3]
 ·rw [s0, s1, s2, s3]
  exact digs_cons.2 ⟨sumW_rng _ _ _ _ _ _ _ _, digs_cons.2 ⟨sumW_rng _ _ _ _ _ _ _ _, digs_cons.2 ⟨sumW_rng _ _ _ _ _ _ _ _, digs_cons.2 ⟨sumW_rng _ _ _ _ _ _ _ _, digs_nil⟩⟩⟩⟩
end Go.Bx.Frm
namespace Go.Bx
open Go
def wid (y : List Int) : List Int := (basculeref_FromBytes.run y).getD [0, 0, 0, 0]
theorem from_wid (y : List Int) (hy : y.length = 32) (hb : ∀ b ∈ y, 0 <= b /\ b < 256) : wide_From.run y = some (wid y) /\ basculeref_FromBytes.run y = some (wid y) := by
 obtain ⟨r, h1, h2, _, _⟩ := Frm.from_both y hy hb
 have : wid y = r := by unfold wid; rw [h2]; rfl
 rw [this]; exact ⟨h1, h2⟩
theorem wid_digs (y : List Int) (hy : y.length = 32) (hb : ∀ b ∈ y, 0 <= b /\ b < 256) : (wid y).length = 4 /\ digs B64 (wid y) := by
 obtain ⟨r, h1, h2, h3, h4⟩ := Frm.from_both y hy hb
 have : wid y = r := by unfold wid; rw [h2]; rfl
 rw [this]; exact ⟨h3, h4⟩
end Go.Bx
namespace Go.Bx
open Go
set_option linter.unusedSimpArgs false
set_option linter.unusedVariables false
theorem wid_ok {y : List Int} (hy : y.length = 32) (ho : ∀ b ∈ y, 0 <= b /\ b < 256) : wide_From.run y = some (mk (val B64 (wid y))) /\ basculeref_FromBytes.run y = some (mk (val B64 (wid y))) /\ (0 <= val B64 (wid y) /\ val B64 (wid y) < M256) := by
 obtain ⟨h1, h2⟩ := from_wid y hy ho
 have w : W4 (wid y) := wid_digs y hy ho
 rw [<- mk_of w]
 exact ⟨h1, h2, w.bound⟩
end Go.Bx
namespace Go.Bx
open Go Go.Bx.Rg
set_option linter.unusedSimpArgs false
set_option linter.unusedVariables false
set_option linter.unusedSectionVars false
set_option maxRecDepth 100000
def nonceT (D : Int) (h : List Int) (i : Nat) : List Int := txt (mk D) ++ h ++ [(i : Int)]
def nonceN (N D : Int) (h : List Int) (i : Nat) : Int := if i < 256 then val B64 (wid (kec (nonceT D h i))) % N else ((i : Int) - 255) % N
theorem txtO (l : List Int) : Oct (txt l) := txt_rng l
theorem nonceT_ok {D : Int} {h : List Int} (hh : h.length = 32) (ho : Oct h) {i : Nat} (hi : i < 256) : Oct (nonceT D h i) /\ (nonceT D h i).length = 65 := by
 unfold nonceT
 refine ⟨((txtO _).append ho).append fun b hb => ?_, by simp [txt_len, hh]⟩
 simp only [List.mem_cons, List.not_mem_nil, or_false] at hb
 subst hb; omega
section
variable {N D : Int} (hN : 1 < N /\ N < M256) {h : List Int} (hh : h.length = 32) (ho : Oct h) (P A B : List Int) (q : PtD)
include hN
theorem small_w {n : Int} (hn : 0 <= n /\ n < 18446744073709551616) : ([n, 0, 0, 0] : List Int) = mk n := by
 unfold mk
 rw [Int.emod_eq_of_lt hn.1 hn.2, Int.ediv_eq_zero_of_lt hn.1 hn.2]
 simp
theorem nonceN_in (i : Nat) : 0 <= nonceN N D h i /\ nonceN N D h i < N := by
 unfold nonceN
 split <;> exact modIn hN _
include hh ho
theorem nonce_prog {i : Nat} (hi : i < 272) : sign_nonce.run (P, A, B, mk N, q, ()) (mk D) h (i : Int) = some (mk (nonceN N D h i)) := by
 unfold sign_nonce.run sign_nonce.top nonceN
 simp only []
 by_cases h1 : i < 256
 ·obtain ⟨t1, t2⟩ := nonceT_ok (D := D) hh ho h1
  obtain ⟨s1, _⟩ := sum_both t1 (by omega)
  obtain ⟨f1, _, fb⟩ := wid_ok (kec_len (nonceT D h i)) (kec_oct _)
  rw [if_neg (by rw [decide_eq_true_eq]; omega), if_pos h1, wideBytes_run _ (mk_w D).1, Option.bind_some, cutL_all (txt (mk D)) 32 (by rw [txt_len]; rfl), cutL_all h 32 (by rw [hh]; rfl), txt_len, hh, if_pos ⟨trivial, by decide⟩, if_pos (fitB_small (by rw [List.length_append, txt_len, hh]; omega) (by omega)), wrap_u8 (by omega) (by omega)]
  rw [show txt (mk D) ++ h ++ [(i : Int)] = nonceT D h i from rfl, s1, Option.bind_some, f1, Option.bind_some, restP hN fb]
  rfl
 ·rw [if_pos (by rw [decide_eq_true_eq]; omega), if_neg h1]
  rw [wrap_i64 (x := (i : Int) - 256) (by omega) (by omega), wrap_i64 (by omega) (by omega), wrap_u64 (by omega) (by omega), show (i : Int) - 256 + 1 = (i : Int) - 255 by omega, small_w hN (by omega), restP hN ⟨by omega, by rw [show M256 = 115792089237316195423570985008687907853269984665640564039457584007913129639936 from rfl]; omega⟩]
  rfl
theorem nonce_ref {α : Type} (Rt : Int -> SgD -> Option α) (Xt : SgD -> Option α) (K n : Nat) (zs : SgD) (z : List Int) {i : Nat} (hi : i < 272) :
  basculeref_Signed.l0 K Rt Xt (n + 1) (i : Int) (P, A, B, mk N, q, ()) (mk D) h zs z = basculeref_Signed.j0 (basculeref_Signed.l0 K Rt Xt n) Rt (i : Int) (P, A, B, mk N, q, ()) (mk D) h zs z (mk (nonceN N D h i)) := by
 simp only [basculeref_Signed.l0, basculeref_Signed.l0s]
 unfold nonceN
 have hmx : (if (255 : Int) > (i : Int) then (255 : Int) else (i : Int)) - 255 = ((i - 255 : Nat) : Int) := by split <;> omega
 have hd : ∀ n : Nat, n < 1000 -> digs B32 [(n : Int)] := fun n hn => digs1 (by omega)
 rw [if_pos (by rw [decide_eq_true_eq]; omega), hmx, wrap_i64 (by omega) (by omega), wrap_u64 (by omega) (by omega), restR hN (hd _ (by omega)) (by simp), Option.bind_some]
 by_cases h1 : i < 256
 ·obtain ⟨t1, t2⟩ := nonceT_ok (D := D) hh ho h1
  obtain ⟨_, s1⟩ := sum_both t1 (by omega)
  obtain ⟨_, f1, fb⟩ := wid_ok (kec_len (nonceT D h i)) (kec_oct _)
  have hb : basculeref_big.run (i : Int) 1 = some [(i : Int)] := by
   have := big_run (i : Int) 1 (by omega)
   rw [show ((1 : Nat) : Int) = 1 from rfl] at this
   rw [this]
   simp only [be, byt]
   have : (i : Int) / 2 ^ (8 * 0) % 256 = (i : Int) := by simp; omega
   rw [this]
  rw [if_pos (by rw [decide_eq_true_eq]; omega), if_pos h1, text4_run, Option.bind_some, cutL_all h 32 (by rw [hh]; rfl), txt_len, hh, if_pos (by decide), wrap_u64 (x := (i : Int)) (by omega) (by omega), hb, Option.bind_some, if_pos (ble_le (by rw [List.length_append, txt_len, hh]; simp))]
  rw [show txt (mk D) ++ h ++ [(i : Int)] = nonceT D h i from rfl, s1, Option.bind_some, f1, Option.bind_some, ofR hN fb]
 ·rw [if_neg (by rw [decide_eq_true_eq]; omega), if_neg h1]
  have : val B32 [((i - 255 : Nat) : Int)] = (i : Int) - 255 := by simp [val]; omega
  rw [this]
end
end Go.Bx
namespace Go.Bx
open Go Go.Bx.Rg
set_option linter.unusedSimpArgs false
set_option linter.unusedVariables false
set_option maxRecDepth 100000
theorem make_loop {P A B N x y z D : Int} {f : Bool} (b1 : 0 <= P /\ P < M256) (b2 : 0 <= A /\ A < M256) (b3 : 0 <= B /\ B < M256) (b4 : 0 <= N /\ N < M256) (b5 : 0 <= x /\ x < M256) (b6 : 0 <= y /\ y < M256)
  (h0 : curveE P A B N x y f = 0) (hz : 0 <= z /\ z < N) (hD : 0 <= D /\ D < N) {h : List Int} (hh : h.length = 32) (ho : Oct h) (K L : Nat) : ∀ (m i n : Nat), m < n -> m + i = 272 ->
  ∃ s e, sign_Make.l0 K (fun x7 c6 => some (c6, x7, ())) (fun c6 => sign_Make.j0 (fun x7 c6 => some (c6, x7, ())) c6) n (i : Int) (mk P, mk A, mk B, mk N, (mk x, mk y, f, ()), ()) (mk D) h zSg (mk z) = some (s, e, ()) /\
   basculeref_Signed.l0 L (fun x7 c6 => some (c6, x7, ())) (fun c6 => basculeref_Signed.j4 (fun x7 c6 => some (c6, x7, ())) c6) n (i : Int) (mk P, mk A, mk B, mk N, (mk x, mk y, f, ()), ()) (mk D) h zSg (mk z) = some (s, e, ())
 | m, i, 0, hm, _ => by omega
 | 0, i, n + 1, hm, hi => by
  simp only [sign_Make.l0, sign_Make.l0s, basculeref_Signed.l0, basculeref_Signed.l0s]
  rw [if_neg (by rw [decide_eq_true_eq]; omega), if_neg (by rw [decide_eq_true_eq]; omega)]
  exact ⟨_, _, rfl, rfl⟩
 | m + 1, i, n + 1, hm, hi => by
  have hN : 1 < N /\ N < M256 := ⟨(curveE_on h0).2.2, b4.2⟩
  rw [nonce_ref hN hh ho _ _ _ _ _ _ _ _ _ _ (by omega)]
  simp only [sign_Make.l0, sign_Make.l0s]
  rw [if_pos (by rw [decide_eq_true_eq]; omega), nonce_prog hN hh ho _ _ _ _ (by omega), Option.bind_some]
  rcases try_both b1 b2 b3 b4 b5 b6 h0 hz (nonceN_in (D := D) (h := h) hN i) hD (basculeref_Signed.l0 L (fun x7 c6 => some (c6, x7, ())) (fun c6 => basculeref_Signed.j4 (fun x7 c6 => some (c6, x7, ())) c6) n) (fun x7 c6 => some (c6, x7, ())) (i : Int) h zSg with ⟨s, t1, t2⟩ | ⟨s, b, t1, t2⟩ | ⟨s, t1, t2⟩
  ·rw [t1, t2]
   unfold basculeref_Signed.j1
   simp only [Option.bind_some, bne_self_eq_false, Bool.false_eq_true, if_false]
   rw [i64_succ (by omega)]
   exact make_loop b1 b2 b3 b4 b5 b6 h0 hz hD hh ho K L m (i + 1) n (by omega) (by omega)
  ·rw [t1, t2]
   exact ⟨_, _, rfl, rfl⟩
  ·rw [t1, t2]
   exact ⟨_, _, rfl, rfl⟩
theorem make_both {P A B N x y D : Int} {f : Bool} (b1 : 0 <= P /\ P < M256) (b2 : 0 <= A /\ A < M256) (b3 : 0 <= B /\ B < M256) (b4 : 0 <= N /\ N < M256) (b5 : 0 <= x /\ x < M256) (b6 : 0 <= y /\ y < M256) (hD : 0 <= D /\ D < M256) {h : List Int} (hh : h.length = 32) (ho : Oct h) :
  ∃ s e, sign_Make.run (mk P, mk A, mk B, mk N, (mk x, mk y, f, ()), ()) (mk D) h = some (s, e, ()) /\ basculeref_Signed.run (mk P, mk A, mk B, mk N, (mk x, mk y, f, ()), ()) (mk D) h = some (s, e, ()) := by
 obtain ⟨e1, e2⟩ := curve_both f b1 b2 b3 b4 b5 b6
 obtain ⟨s1, s2⟩ := secret_both (mk P) (mk A) (mk B) (mk x, mk y, f, ()) hD b4
 unfold sign_Make.run sign_Make.top basculeref_Signed.run basculeref_Signed.top
 rw [e1, e2]
 simp only [Option.bind_some]
 rcases curveE_or P A B N x y f with h0 | h0
 ·rw [h0, s1, s2]
  simp only [Option.bind_some, bne_self_eq_false, Bool.false_eq_true, if_false]
  cases hs : secB D N with
  | false => exact ⟨_, _, rfl, rfl⟩
  | true =>
   simp only [Bool.not_true, Bool.false_eq_true, if_false]
   have hN : 1 < N /\ N < M256 := ⟨(curveE_on h0).2.2, b4.2⟩
   obtain ⟨f1, f2, fb⟩ := wid_ok hh ho
   rw [f1, f2, Option.bind_some, Option.bind_some, restP hN fb, Option.bind_some, ofR hN fb]
   have hDN : D < N := by
    unfold secB at hs
    simp only [Bool.and_eq_true, decide_eq_true_eq] at hs
    exact hs.2
   exact make_loop b1 b2 b3 b4 b5 b6 h0 (modIn hN _) ⟨hD.1, hDN⟩ hh ho fuel fuel 272 0 fuel (by rw [fuel_big]; omega) rfl
 ·rw [h0]; exact ⟨_, _, rfl, rfl⟩
end Go.Bx
namespace Go.Bx
open Go Go.Bx.Rg
set_option linter.unusedSimpArgs false
set_option linter.unusedVariables false
set_option maxRecDepth 100000
theorem signMakes_all (c : CvD) (d h : List Int) (hc : Fit reachK CvTy c) (hd : W4 d) (hh : h.length = 32) (ho : Oct h) : basculelaw_SignMakes.run c d h = some true := by
 obtain ⟨P, A, B, N, x, y, f, rfl, b1, b2, b3, b4, b5, b6⟩ := cv_num c hc
 rw [mk_of hd]
 obtain ⟨s, e, e1, e2⟩ := make_both (f := f) b1 b2 b3 b4 b5 b6 hd.bound hh ho
 unfold basculelaw_SignMakes.run basculelaw_SignMakes.top
 rw [e1, e2]
 simp only [Option.bind_some]
 rw [beqD_refl (.pair U256 (.pair U256 (.pair (.int .i64) .unit))) s rfl]
 simp
theorem law_SignMakes (x : (Ty.pair CvTy (.pair U256 (.pair (.arr 32 (.int .u8)) .unit))).den) (h : Fit reachK (.pair CvTy (.pair U256 (.pair (.arr 32 (.int .u8)) .unit))) x) : basculelaw_SignMakes.run x.1 x.2.1 x.2.2.1 = some true := by
 obtain ⟨h1, h2, ⟨h3, h4⟩, _⟩ := h
 exact signMakes_all _ _ _ h1 (digs_of_fit h2) h3 (oct_fit h4)
end Go.Bx
