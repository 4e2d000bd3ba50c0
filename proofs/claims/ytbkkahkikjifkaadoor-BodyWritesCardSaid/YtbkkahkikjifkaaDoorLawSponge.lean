/- A part of a framework that reads Go code as functions of plain data; or a law about such functions. -/
import Derived.Test.YtbkkahkikjifkaaDoorLawSoak
import Derived.Test.YtbkkahkikjifkaaDoorLawBeq
import Derived.Test.YtbkkahkikjifkaaDoorFnBodyWrites0
namespace Go.Bx
open Go
set_option linter.unusedSimpArgs false
set_option linter.unusedVariables false
set_option maxRecDepth 100000
abbrev SpD : Type := List Int × List Int × Int × Unit
def badS (h : List Int) (N : Int) : Bool := !(decide (0 <= N) && decide (N < 136) && (h.drop N.toNat).all (fun x => x == 0))
theorem check_loop {α : Type} (Rt : Int -> Option α) (Xt : Option α) (K : Nat) (a h : List Int) (N : Nat) (hN : N < 136) (hh : h.length = 136) (I : Int) : ∀ (m j n : Nat), m < n -> m + j = 136 - N ->
  keccak_check.l0 K Rt Xt n (N : Int) ((136 - N : Nat) : Int) (j : Int) (a, h, I, ()) = if (h.drop (N + j)).all (fun x => x == 0) = true then Xt else Rt 12
 | m, j, 0, hm, _ => by omega
 | 0, j, n + 1, hm, hj => by
  simp only [keccak_check.l0, keccak_check.l0s]
  rw [if_neg (by rw [decide_eq_true_eq]; omega), List.drop_eq_nil_of_le (by omega)]; rfl
 | m + 1, j, n + 1, hm, hj => by
  simp only [keccak_check.l0, keccak_check.l0s]
  rw [if_pos (by rw [decide_eq_true_eq]; omega), if_pos (by omega), show ((N : Int) + (j : Int)) = ((N + j : Nat) : Int) by omega, toNat_nat, i64_succ (by omega), drop_at (l := h) (i := N + j) (by omega) 0, List.all_cons]
  by_cases hz : h.getD (N + j) 0 = 0
  ·rw [hz]
   simp only [bne_self_eq_false, Bool.false_eq_true, if_false, BEq.rfl, Bool.true_and]
   exact check_loop Rt Xt K a h N hN hh I m (j + 1) n (by omega) (by omega)
  ·have h1 : (h.getD (N + j) 0 != 0) = true := by simpa using hz
   have h2 : (h.getD (N + j) 0 == 0) = false := by simpa using hz
   rw [h1, h2]; rfl
theorem check_run (a h : List Int) (N : Int) (hh : h.length = 136) : keccak_check.run (a, h, N, ()) = some (if badS h N = true then 12 else 0) := by
 unfold keccak_check.run keccak_check.top badS
 simp only [cond_or]
 by_cases h0 : 0 <= N /\ N < 136
 ·obtain ⟨M, rfl⟩ := Int.eq_ofNat_of_zero_le h0.1
  have hM : M < 136 := by omega
  rw [if_neg (by simp only [Bool.or_eq_true, decide_eq_true_eq]; omega), if_pos (by omega)]
  have hl : ((cutL h (M : Int) 136).length : Int) = ((136 - M : Nat) : Int) := by
   rw [cutL_length h (by omega) (by omega) (by omega)]; simp
  rw [hl]
  have := check_loop (fun x2 => some x2) (keccak_check.j0 fun x2 => some x2) fuel a h M hM hh (M : Int) (136 - M) 0 fuel (by rw [fuel_big]; omega) rfl
  rw [show ((0 : Nat) : Int) = 0 from rfl] at this
  refine Eq.trans this ?_
  rw [show decide (0 <= (M : Int)) = true by rw [decide_eq_true_eq]; omega, show decide ((M : Int) < 136) = true by rw [decide_eq_true_eq]; omega, toNat_nat, Nat.add_zero]
  cases (h.drop M).all fun x => x == 0 <;> rfl
 ·rw [if_pos (by simp only [Bool.or_eq_true, decide_eq_true_eq]; omega)]
  have : (decide (0 <= N) && decide (N < 136)) = false := by
   rw [Bool.eq_false_iff]; simp only [ne_eq, Bool.and_eq_true, decide_eq_true_eq]; exact h0
  rw [this]; rfl
theorem bad_loop {α : Type} (Rt : Bool -> Option α) (Xt : Option α) (K : Nat) (a h : List Int) (hh : h.length = 136) (I : Int) : ∀ (m j n : Nat), m < n -> m + j = 136 ->
  basculeref_badSponge.l0 K Rt Xt n (j : Int) (a, h, I, ()) = if (h.drop j).all (fun x => x == 0) = true then Xt else Rt true
 | m, j, 0, hm, _ => by omega
 | 0, j, n + 1, hm, hj => by
  simp only [basculeref_badSponge.l0, basculeref_badSponge.l0s]
  rw [if_neg (by rw [decide_eq_true_eq]; omega), List.drop_eq_nil_of_le (by omega)]; rfl
 | m + 1, j, n + 1, hm, hj => by
  simp only [basculeref_badSponge.l0, basculeref_badSponge.l0s]
  rw [if_pos (by rw [decide_eq_true_eq]; omega), if_pos (by omega), toNat_nat, i64_succ (by omega), drop_at (l := h) (i := j) (by omega) 0, List.all_cons]
  by_cases hz : h.getD j 0 = 0
  ·rw [hz]
   simp only [bne_self_eq_false, Bool.false_eq_true, if_false, BEq.rfl, Bool.true_and]
   exact bad_loop Rt Xt K a h hh I m (j + 1) n (by omega) (by omega)
  ·have h1 : (h.getD j 0 != 0) = true := by simpa using hz
   have h2 : (h.getD j 0 == 0) = false := by simpa using hz
   rw [h1, h2]; rfl
theorem bad_run (a h : List Int) (N : Int) (hh : h.length = 136) : basculeref_badSponge.run (a, h, N, ()) = some (badS h N) := by
 unfold basculeref_badSponge.run basculeref_badSponge.top badS
 simp only [cond_or]
 by_cases h0 : 0 <= N /\ N < 136
 ·obtain ⟨M, rfl⟩ := Int.eq_ofNat_of_zero_le h0.1
  rw [if_neg (by simp only [Bool.or_eq_true, decide_eq_true_eq]; omega)]
  have := bad_loop (fun x2 => some x2) (basculeref_badSponge.j0 fun x2 => some x2) fuel a h hh (M : Int) (136 - M) M fuel (by rw [fuel_big]; omega) (by omega)
  refine Eq.trans this ?_
  rw [show decide (0 <= (M : Int)) = true by rw [decide_eq_true_eq]; omega, show decide ((M : Int) < 136) = true by rw [decide_eq_true_eq]; omega, toNat_nat]
  cases (h.drop M).all fun x => x == 0 <;> rfl
 ·rw [if_pos (by simp only [Bool.or_eq_true, decide_eq_true_eq]; omega)]
  have : (decide (0 <= N) && decide (N < 136)) = false := by
   rw [Bool.eq_false_iff]; simp only [ne_eq, Bool.and_eq_true, decide_eq_true_eq]; exact h0
  rw [this]; rfl
def blkT (a b : List Int) : List Int := match basculeref_soaked.run a b with
 | some r => r
 | none => []
theorem blkT_run {a b : List Int} (ha : a.length = 25) (hb : b.length = 136) (ho : Oct b) : (blkT a b).length = 25 /\ (∀ N : Int, keccak_soak.run (a, b, N, ()) = some (blkT a b, List.replicate 136 0, 0, ())) /\ basculeref_soaked.run a b = some (blkT a b) := by
 obtain ⟨r, h1, h2, h3⟩ := soak_both ha hb ho
 unfold blkT
 rw [h3]
 exact ⟨h1, h2, rfl⟩
def absorb : Nat -> List Int -> List Int -> List Int × List Int
 | 0, a, l => (a, l)
 | n + 1, a, l => if 136 <= l.length then absorb n (blkT a (l.take 136)) (l.drop 136) else (a, l)
theorem absorb_more : ∀ (n m : Nat) (a l : List Int), l.length <= n -> l.length <= m -> absorb n a l = absorb m a l
 | 0, 0, _, _, _, _ => rfl
 | 0, m + 1, a, l, h, _ => by rw [absorb, absorb, if_neg (by omega)]
 | n + 1, 0, a, l, _, h => by rw [absorb, absorb, if_neg (by omega)]
 | n + 1, m + 1, a, l, h1, h2 => by
  rw [absorb, absorb]
  by_cases h : 136 <= l.length
  ·rw [if_pos h, if_pos h]; exact absorb_more n m _ _ (by simp; omega) (by simp; omega)
  ·rw [if_neg h, if_neg h]
def ab (a l : List Int) : List Int × List Int := absorb l.length a l
theorem ab_small {a l : List Int} (h : l.length < 136) : ab a l = (a, l) := by
 unfold ab
 cases hl : l.length with
 | zero => rfl
 | succ n => rw [absorb, if_neg (by omega)]
theorem ab_big {a l : List Int} (h : 136 <= l.length) : ab a l = ab (blkT a (l.take 136)) (l.drop 136) := by
 unfold ab
 obtain ⟨n, hn⟩ : ∃ n, l.length = n + 1 := ⟨l.length - 1, by omega⟩
 rw [hn, absorb, if_pos h]
 exact absorb_more _ _ _ _ (by simp; omega) (by simp)
theorem Oct.take {l : List Int} (h : Oct l) (n : Nat) : Oct (l.take n) := fun b hb => h b (List.mem_of_mem_take hb)
theorem Oct.drop {l : List Int} (h : Oct l) (n : Nat) : Oct (l.drop n) := fun b hb => h b (List.mem_of_mem_drop hb)
theorem Oct.append {l m : List Int} (h : Oct l) (g : Oct m) : Oct (l ++ m) := fun b hb => (List.mem_append.1 hb).elim (h b) (g b)
theorem Oct.zeros (n : Nat) : Oct (List.replicate n 0) := fun b hb => by rw [List.eq_of_mem_replicate hb]; decide
theorem ab_ok : ∀ (n : Nat) (a l : List Int), l.length <= n -> a.length = 25 -> Oct l -> (ab a l).1.length = 25 /\ (ab a l).2.length < 136 /\ Oct (ab a l).2
 | n, a, l, h, ha, ho => by
  by_cases hl : 136 <= l.length
  ·rw [ab_big hl]
   match n with
   | 0 => omega
   | n + 1 => exact ab_ok n _ _ (by simp; omega) (blkT_run ha (by simp; omega) (ho.take _)).1 (ho.drop _)
  ·rw [ab_small (by omega)]; exact ⟨ha, (show l.length < 136 by omega), ho⟩
def sp (r : List Int × List Int) : SpD := (r.1, r.2 ++ List.replicate (136 - r.2.length) 0, (r.2.length : Int), ())
theorem add_loop {α : Type} (Xt : SpD -> SpD -> Option α) (K : Nat) (l : List Int) (hl : l.length <= 4611686018427387904) (z : SpD) : ∀ (R P : List Int) (n : Nat) (a p : List Int), R.length < n -> l = P ++ R -> Oct R -> a.length = 25 -> Oct p -> p.length < 136 ->
  keccak_Add.l0 K Xt n l (l.length : Int) (P.length : Int) (sp (a, p)) z = Xt (sp (ab a (p ++ R))) z
 | R, P, 0, a, p, h, _, _, _, _, _ => by omega
 | [], P, n + 1, a, p, h, hc, _, ha, hp, hpl => by
  simp only [keccak_Add.l0, keccak_Add.l0s]
  have : l.length = P.length := by rw [hc]; simp
  rw [if_neg (by rw [decide_eq_true_eq]; omega), List.append_nil, ab_small hpl]
 | c :: R, P, n + 1, a, p, h, hc, hoR, ha, hp, hpl => by
  have hlen : l.length = P.length + (R.length + 1) := by rw [hc]; simp
  have hcR := hoR c (by simp)
  simp only [sp]
  simp only [keccak_Add.l0, keccak_Add.l0s, keccak_Add.j0]
  have hg : l.getD P.length 0 = c := by rw [hc]; simp [List.getD]
  have hset : (p ++ List.replicate (136 - p.length) 0).set p.length c = (p ++ [c]) ++ List.replicate (136 - (p ++ [c]).length) 0 := by
   rw [show 136 - p.length = (136 - (p ++ [c]).length) + 1 by simp; omega, List.replicate_succ]
   simp [List.set_append]
  rw [if_pos (by rw [decide_eq_true_eq]; omega), if_pos (by omega), if_pos (by omega), i64_succ (by omega), i64_succ (by omega), toNat_nat, toNat_nat, hg, hset]
  have hpc : Oct (p ++ [c]) := hp.append fun b hb => by simp only [List.mem_cons, List.not_mem_nil, or_false] at hb; subst hb; exact hcR
  have hlc : (p ++ [c]).length = p.length + 1 := by simp
  have hP : ((P.length + 1 : Nat) : Int) = ((P ++ [c]).length : Int) := by simp
  have happ : p ++ c :: R = (p ++ [c]) ++ R := by simp
  by_cases hf : p.length + 1 = 136
  ·rw [if_pos (by rw [beq_iff_eq]; omega), hlc, show 136 - (p.length + 1) = 0 by omega, List.replicate_zero, List.append_nil]
   obtain ⟨b1, b2, b3⟩ := blkT_run ha (b := p ++ [c]) (by omega) hpc
   rw [b2, Option.bind_some, hP]
   have ih := add_loop Xt K l hl z R (P ++ [c]) n (blkT a (p ++ [c])) [] (by simp at h; omega) (by simp [hc]) (fun b hb => hoR b (List.mem_cons_of_mem _ hb)) b1 (fun b hb => by cases hb) (by simp)
   simp only [sp, List.nil_append, List.length_nil, Nat.sub_zero] at ih
   rw [show ((0 : Nat) : Int) = 0 from rfl] at ih
   rw [ih, happ, ab_big (l := p ++ [c] ++ R) (by simp; omega), List.take_append_of_le_length (by omega), List.take_of_length_le (by omega), List.drop_append_of_le_length (by omega), List.drop_eq_nil_of_le (by omega), List.nil_append]
  ·rw [if_neg (by rw [beq_iff_eq]; omega), hP, show ((p.length + 1 : Nat) : Int) = ((p ++ [c]).length : Int) by rw [hlc]]
   have ih := add_loop Xt K l hl z R (P ++ [c]) n a (p ++ [c]) (by simp at h; omega) (by simp [hc]) (fun b hb => hoR b (List.mem_cons_of_mem _ hb)) ha hpc (by omega)
   simp only [sp] at ih
   rw [ih, happ]
theorem sko_loop {α : Type} (Xt : List Int -> SpD -> List Int -> Option α) (K : Nat) (z : SpD) : ∀ (n : Nat) (l a : List Int), l.length < n -> l.length <= 9223372036854775807 -> Oct l -> a.length = 25 ->
  basculeref_Soaked.l0 K Xt n l z a = Xt (ab a l).2 z (ab a l).1
 | 0, l, a, h, _, _, _ => by omega
 | n + 1, l, a, h, hb, ho, ha => by
  simp only [basculeref_Soaked.l0, basculeref_Soaked.l0s]
  by_cases hl : 136 <= l.length
  ·have hc1 : cutL l 0 136 = l.take 136 := by simp [cutL]
   have hc2 : cutL l 136 (l.length : Int) = l.drop 136 := by
    unfold cutL
    rw [toNat_nat, show Int.toNat 136 = 136 from rfl, List.take_of_length_le (by simp)]
   obtain ⟨b1, b2, b3⟩ := blkT_run ha (b := l.take 136) (by simp; omega) (ho.take _)
   rw [if_pos (by rw [decide_eq_true_eq]; omega), if_pos (by omega), hc1, b3, Option.bind_some, if_pos (by omega), hc2, ab_big hl]
   exact sko_loop Xt K z n _ _ (by simp; omega) (by simp; omega) (ho.drop _) b1
  ·rw [if_neg (by rw [decide_eq_true_eq]; omega), ab_small (by omega)]
theorem out_loop {α : Type} (Xt : SpD -> SpD -> Option α) (K : Nat) (z : SpD) (a l : List Int) (hl : l.length <= 136) : ∀ (R P : List Int) (n : Nat), R.length < n -> l = P ++ R ->
  basculeref_Soaked.l1 K Xt n l (P.length : Int) z (a, P ++ List.replicate (136 - P.length) 0, (l.length : Int), ()) = Xt z (a, l ++ List.replicate (136 - l.length) 0, (l.length : Int), ())
 | R, P, 0, h, _ => by omega
 | [], P, n + 1, h, hc => by
  simp only [basculeref_Soaked.l1, basculeref_Soaked.l1s]
  have : l = P := by rw [hc]; simp
  rw [this, if_neg (by rw [decide_eq_true_eq]; omega)]
 | c :: R, P, n + 1, h, hc => by
  have hlen : l.length = P.length + (R.length + 1) := by rw [hc]; simp
  simp only [basculeref_Soaked.l1, basculeref_Soaked.l1s]
  have hg : l.getD P.length 0 = c := by rw [hc]; simp [List.getD]
  have hset : (P ++ List.replicate (136 - P.length) 0).set P.length c = (P ++ [c]) ++ List.replicate (136 - (P ++ [c]).length) 0 := by
   rw [show 136 - P.length = (136 - (P ++ [c]).length) + 1 by simp; omega, List.replicate_succ]
   simp [List.set_append]
  rw [if_pos (by rw [decide_eq_true_eq]; omega), if_pos (by omega), if_pos (by omega), i64_succ (by omega), toNat_nat, hg, hset]
  have ih := out_loop Xt K z a l hl R (P ++ [c]) n (by simpa using h) (by simp [hc])
  rw [<- ih]; simp
theorem added {a h b : List Int} {N : Int} (ha : a.length = 25) (hh : h.length = 136) (hoh : Oct h) (hob : Oct b) (hbl : b.length <= 4611686018427387904) :
  (badS h N = true -> keccak_Add.run (a, h, N, ()) b = some ((List.replicate 25 0, List.replicate 136 0, 0, ()), 12, ()) /\ basculeref_Soaked.run (a, h, N, ()) b = some ((List.replicate 25 0, List.replicate 136 0, 0, ()), 12, ())) /\
  (∀ p : List Int, p.length < 136 -> N = (p.length : Int) -> h = p ++ List.replicate (136 - p.length) 0 -> badS h N = false -> keccak_Add.run (a, h, N, ()) b = some (sp (ab a (p ++ b)), 0, ()) /\ basculeref_Soaked.run (a, h, N, ()) b = some (sp (ab a (p ++ b)), 0, ())) := by
 unfold keccak_Add.run keccak_Add.top basculeref_Soaked.run basculeref_Soaked.top
 rw [check_run a h N hh, bad_run a h N hh]
 simp only [Option.bind_some]
 constructor
 ·intro hb
  rw [hb]; exact ⟨rfl, rfl⟩
 ·intro p hp hN hhp hb
  rw [hb]
  simp only [Bool.false_eq_true, if_false, bne_self_eq_false]
  subst hhp
  have hop : Oct p := fun x hx => hoh x (List.mem_append_left _ hx)
  constructor
  ·have := add_loop (fun c2 c4 => keccak_Add.j1 (fun x5 c4 => some (c4, x5, ())) c2 c4) fuel b hbl (List.replicate 25 0, List.replicate 136 0, 0, ()) b [] fuel a p (by rw [fuel_big]; omega) rfl hob ha hop hp
   simp only [sp, List.length_nil] at this
   rw [show ((0 : Nat) : Int) = 0 from rfl] at this
   rw [hN, this]; rfl
  ·have hc1 : cutL (cutL (p ++ List.replicate (136 - p.length) 0) 0 136) 0 (p.length : Int) = p := by
    have : cutL (p ++ List.replicate (136 - p.length) (0 : Int)) 0 136 = p ++ List.replicate (136 - p.length) 0 := by
     unfold cutL
     rw [show Int.toNat 0 = 0 from rfl, List.drop_zero, List.take_of_length_le (by rw [hh]; decide)]
    rw [this]; simp [cutL]
   have hc2 : (cutL (p ++ List.replicate (136 - p.length) 0) 0 136).length = 136 := by
    rw [cutL_length _ (by omega) (by omega) (by omega)]; rfl
   simp only [hN]
   rw [hc2, hc1, if_pos (by omega), if_pos (Nat.ble_eq_true_of_le (by omega))]
   have hol := hop.append hob
   rw [sko_loop _ _ _ fuel (p ++ b) a (by rw [fuel_big]; simp; omega) (by simp; omega) hol ha]
   obtain ⟨k1, k2, k3⟩ := ab_ok _ a (p ++ b) (Nat.le_refl _) ha hol
   unfold basculeref_Soaked.j0
   have := out_loop (fun c4 c9 => basculeref_Soaked.j1 (fun x5 c4 => some (c4, x5, ())) c4 c9) fuel (List.replicate 25 0, List.replicate 136 0, 0, ()) (ab a (p ++ b)).1 (ab a (p ++ b)).2 (by omega) (ab a (p ++ b)).2 [] fuel (by rw [fuel_big]; omega) rfl
   simp only [List.nil_append, List.length_nil, Nat.sub_zero] at this
   rw [show ((0 : Nat) : Int) = 0 from rfl] at this
   rw [this]; rfl
theorem oct_fit {l : List Int} (h : ∀ x ∈ l, Fit reachK (.int .u8) x) : Oct l := fun b hb => by
 have : IntKind.u8.min <= b /\ b <= IntKind.u8.max := by simpa [Fit, inR] using h b hb
 rw [show IntKind.u8.min = 0 by decide, show IntKind.u8.max = 255 by decide] at this
 omega
end Go.Bx
