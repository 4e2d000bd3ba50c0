/- A part of a framework that reads Go code as functions of plain data; or a law about such functions. -/
import Derived.Test.YthgnmgdhgmobpaaLawFork
namespace Go.Bx
open Go
set_option linter.unusedSimpArgs false
set_option linter.unusedVariables false

def ncalls (t : TreeD) (i : Nat) : Nat := (t.1.getD i Bk0).2.2.1.length

/-- is a block as it should be? -/
def okB (t : TreeD) (i : Nat) : Prop := if i = 0 then par t i = -1 ∧ hgt t i = 0 ∧ ncalls t i = 0 else (0 ≤ par t i ∧ par t i < (i : Int)) ∧ hgt t i = IntKind.i64.wrap (hgt t (par t i).toNat + 1)
instance (t : TreeD) (i : Nat) : Decidable (okB t i) := by unfold okB; exact inferInstance
def blkE (t : TreeD) (i : Nat) : Int := if ncalls t i > 6 then 1 else if okB t i then 0 else 12

theorem if_split {α : Type} {c : Prop} [Decidable c] {b : Bool} {x y : α} (h : b = true ↔ c) : (if b = true then x else y) = if c then x else y := by
  by_cases hc : c
  · rw [if_pos hc, if_pos (h.2 hc)]
  · rw [if_neg hc, if_neg (fun hb => hc (h.1 hb))]

theorem check_step {α : Type} (k : Nat) (Rt : Int → Option α) (Xt : TreeD → Option α) (t : TreeD) (hl : t.1.length ≤ 50) (n i : Nat) (hi : i < t.1.length) :
    fork_Check.l0 k Rt Xt (n + 1) t.1 (t.1.length : Int) (i : Int) t = if blkE t i = 0 then fork_Check.l0 k Rt Xt n t.1 (t.1.length : Int) ((i + 1 : Nat) : Int) t else Rt (blkE t i) := by
  simp only [fork_Check.l0, fork_Check.l0s]
  rw [if_pos (by rw [decide_eq_true_eq]; omega), if_pos (by omega), i64_succ (by omega), toNat_nat]
  have e1 : (List.getD t.1 i (0, 0, [], ())).1 = par t i := rfl
  have e2 : (List.getD t.1 i (0, 0, [], ())).2.1 = hgt t i := rfl
  have e3 : (List.getD t.1 i (0, 0, [], ())).2.2.1.length = ncalls t i := rfl
  have e4 : (List.getD t.1 (par t i).toNat (0, 0, [], ())).2.1 = hgt t (par t i).toNat := rfl
  rw [e1, e2, e3, e4]
  unfold blkE
  by_cases hA : ncalls t i > 6
  · rw [if_pos (by rw [decide_eq_true_eq]; omega), if_pos hA, if_neg (by omega)]
  · rw [if_neg (by rw [decide_eq_true_eq]; omega), if_neg hA]
    by_cases h0 : i = 0
    · subst h0
      have hok : okB t 0 ↔ par t 0 = -1 ∧ hgt t 0 = 0 ∧ ncalls t 0 = 0 := by unfold okB; rw [if_pos rfl]
      by_cases hB : par t 0 = -1 ∧ hgt t 0 = 0 ∧ ncalls t 0 = 0
      · obtain ⟨b1, b2, b3⟩ := hB
        rw [if_pos (hok.2 ⟨b1, b2, b3⟩), if_pos rfl, b1, b2, b3]
        rfl
      · rw [if_neg (fun h => hB (hok.1 h)), if_neg (show ¬ ((12 : Int) = 0) by decide)]
        have hc : cond (((0 : Nat) : Int) == 0) (cond (cond (par t 0 != -1) true (hgt t 0 != 0)) true (decide ((ncalls t 0 : Int) > 0))) false = true := by
          have g1 : (((0 : Nat) : Int) == 0) = true := rfl
          rw [g1]
          simp only [cond_true]
          cases h1 : par t 0 != -1 with
          | true => rfl
          | false =>
            cases h2 : hgt t 0 != 0 with
            | true => rfl
            | false =>
              simp only [cond_false]
              rw [decide_eq_true_eq]
              have q1 : par t 0 = -1 := by simpa using h1
              have q2 : hgt t 0 = 0 := by simpa using h2
              have : ncalls t 0 ≠ 0 := fun e => hB ⟨q1, q2, e⟩
              omega
        rw [if_pos hc]
    · have hok : okB t i ↔ (0 ≤ par t i ∧ par t i < (i : Int)) ∧ hgt t i = IntKind.i64.wrap (hgt t (par t i).toNat + 1) := by unfold okB; rw [if_neg h0]
      have g1 : ((i : Int) == 0) = false := by rw [beq_eq_false_iff_ne]; omega
      have g2 : decide ((i : Int) > 0) = true := by rw [decide_eq_true_eq]; omega
      rw [g1, g2]
      simp only [cond_false, cond_true]
      rw [if_neg (by simp)]
      by_cases hp : 0 ≤ par t i ∧ par t i < (i : Int)
      · have d1 : decide (par t i < 0) = false := by rw [decide_eq_false_iff_not]; omega
        have d2 : decide (par t i ≥ (i : Int)) = false := by rw [decide_eq_false_iff_not]; omega
        have d3 : decide (0 ≤ par t i ∧ par t i < (t.1.length : Int)) = true := by rw [decide_eq_true_eq]; omega
        rw [d1, d2, d3]
        simp only [cond_false, Bool.true_or, cond_true]
        by_cases hh : hgt t i = IntKind.i64.wrap (hgt t (par t i).toNat + 1)
        · rw [if_neg (by simpa using hh), if_pos (hok.2 ⟨hp, hh⟩), if_pos rfl]
        · rw [if_pos (by simpa using hh), if_neg (fun h => hh (hok.1 h).2), if_neg (by omega)]
      · have d1 : cond (decide (par t i < 0)) true (decide (par t i ≥ (i : Int))) = true := by
          cases hd : decide (par t i < 0) with
          | true => rfl
          | false =>
            simp only [cond_false]
            rw [decide_eq_true_eq]
            rw [decide_eq_false_iff_not] at hd
            omega
        rw [d1]
        have d2 : (decide (0 ≤ par t i ∧ par t i < (t.1.length : Int)) || !(true == false)) = true := by simp
        rw [d2]
        simp only [cond_true]
        rw [if_pos trivial, if_neg (fun h => hp (hok.1 h).1), if_neg (by omega)]

theorem fault_step {α : Type} (k : Nat) (Rt : Int → Option α) (Xt : TreeD → Option α) (t : TreeD) (hl : t.1.length ≤ 50) (n i : Nat) (hi : i < t.1.length) :
    basculeref_TreeFault.l0 k Rt Xt (n + 1) t.1 (t.1.length : Int) (i : Int) t = if blkE t i = 0 then basculeref_TreeFault.l0 k Rt Xt n t.1 (t.1.length : Int) ((i + 1 : Nat) : Int) t else Rt (blkE t i) := by
  simp only [basculeref_TreeFault.l0, basculeref_TreeFault.l0s]
  unfold basculeref_TreeFault.j0
  rw [if_pos (by rw [decide_eq_true_eq]; omega), if_pos (by omega), i64_succ (by omega), toNat_nat]
  have e1 : (List.getD t.1 i (0, 0, [], ())).1 = par t i := rfl
  have e2 : (List.getD t.1 i (0, 0, [], ())).2.1 = hgt t i := rfl
  have e3 : (List.getD t.1 i (0, 0, [], ())).2.2.1.length = ncalls t i := rfl
  have e4 : (List.getD t.1 (par t i).toNat (0, 0, [], ())).2.1 = hgt t (par t i).toNat := rfl
  rw [e1, e2, e3, e4]
  unfold blkE
  by_cases hA : ncalls t i > 6
  · rw [if_pos (by rw [decide_eq_true_eq]; omega), if_pos hA, if_neg (by omega)]
  · rw [if_neg (by rw [decide_eq_true_eq]; omega), if_neg hA]
    by_cases h0 : i = 0
    · subst h0
      have hok : okB t 0 ↔ par t 0 = -1 ∧ hgt t 0 = 0 ∧ ncalls t 0 = 0 := by unfold okB; rw [if_pos rfl]
      rw [if_neg (by simp)]
      by_cases hB : par t 0 = -1 ∧ hgt t 0 = 0 ∧ ncalls t 0 = 0
      · obtain ⟨b1, b2, b3⟩ := hB
        rw [if_pos (hok.2 ⟨b1, b2, b3⟩), if_pos rfl, b1, b2, b3]
        rfl
      · rw [if_neg (fun h => hB (hok.1 h)), if_neg (show ¬ ((12 : Int) = 0) by decide)]
        have hc : cond (cond (par t 0 == -1) (hgt t 0 == 0) false) ((ncalls t 0 : Int) == 0) false = false := by
          cases h1 : par t 0 == -1 with
          | false => rfl
          | true =>
            cases h2 : hgt t 0 == 0 with
            | false => rfl
            | true =>
              simp only [cond_true]
              rw [beq_eq_false_iff_ne]
              have q1 : par t 0 = -1 := by simpa using h1
              have q2 : hgt t 0 = 0 := by simpa using h2
              have : ncalls t 0 ≠ 0 := fun e => hB ⟨q1, q2, e⟩
              omega
        rw [hc]; rfl
    · have hok : okB t i ↔ (0 ≤ par t i ∧ par t i < (i : Int)) ∧ hgt t i = IntKind.i64.wrap (hgt t (par t i).toNat + 1) := by unfold okB; rw [if_neg h0]
      rw [if_pos (by rw [decide_eq_true_eq]; omega)]
      by_cases hp : 0 ≤ par t i ∧ par t i < (i : Int)
      · have d1 : decide (par t i ≥ 0) = true := by rw [decide_eq_true_eq]; omega
        have d2 : decide (par t i < (i : Int)) = true := by rw [decide_eq_true_eq]; omega
        have d3 : decide (0 ≤ par t i ∧ par t i < (t.1.length : Int)) = true := by rw [decide_eq_true_eq]; omega
        rw [d1, d2, d3]
        simp only [Bool.true_or, cond_true]
        by_cases hh : hgt t i = IntKind.i64.wrap (hgt t (par t i).toNat + 1)
        · rw [if_neg (by simpa using hh), if_pos (hok.2 ⟨hp, hh⟩), if_pos rfl]
        · rw [if_pos (by simpa using hh), if_neg (fun h => hh (hok.1 h).2), if_neg (by omega)]
      · have d1 : cond (decide (par t i ≥ 0)) (decide (par t i < (i : Int))) false = false := by
          cases hd : decide (par t i ≥ 0) with
          | false => rfl
          | true =>
            simp only [cond_true]
            rw [decide_eq_false_iff_not]
            rw [decide_eq_true_eq] at hd
            omega
        rw [d1]
        have d2 : (decide (0 ≤ par t i ∧ par t i < (t.1.length : Int)) || !(false == true)) = true := by simp
        rw [d2]
        simp only [cond_true, cond_false]
        rw [if_pos (by rfl), if_neg (fun h => hp (hok.1 h).1), if_neg (by omega)]

/-- the first block that is not as it should be -/
def allE (t : TreeD) : Nat → Nat → Int
  | 0, _ => 0
  | m + 1, i => if blkE t i = 0 then allE t m (i + 1) else blkE t i

theorem check_loop2 {α : Type} (k : Nat) (Rt : Int → Option α) (Xt : TreeD → Option α) (t : TreeD) (hl : t.1.length ≤ 50) : ∀ (m n i : Nat), i + m = t.1.length → m < n →
    fork_Check.l0 k Rt Xt n t.1 (t.1.length : Int) (i : Int) t = if allE t m i = 0 then Xt t else Rt (allE t m i)
  | m, 0, i, _, h => by omega
  | 0, n + 1, i, hi, h => by
    simp only [fork_Check.l0, fork_Check.l0s, allE]
    rw [if_neg (by rw [decide_eq_true_eq]; omega), if_pos trivial]
  | m + 1, n + 1, i, hi, h => by
    rw [check_step k Rt Xt t hl n i (by omega)]
    simp only [allE]
    by_cases hb : blkE t i = 0
    · simp only [if_pos hb]
      exact check_loop2 k Rt Xt t hl m n (i + 1) (by omega) (by omega)
    · simp only [if_neg hb]

theorem fault_loop3 {α : Type} (k : Nat) (Rt : Int → Option α) (Xt : TreeD → Option α) (t : TreeD) (hl : t.1.length ≤ 50) : ∀ (m n i : Nat), i + m = t.1.length → m < n →
    basculeref_TreeFault.l0 k Rt Xt n t.1 (t.1.length : Int) (i : Int) t = if allE t m i = 0 then Xt t else Rt (allE t m i)
  | m, 0, i, _, h => by omega
  | 0, n + 1, i, hi, h => by
    simp only [basculeref_TreeFault.l0, basculeref_TreeFault.l0s, allE]
    rw [if_neg (by rw [decide_eq_true_eq]; omega), if_pos trivial]
  | m + 1, n + 1, i, hi, h => by
    rw [fault_step k Rt Xt t hl n i (by omega)]
    simp only [allE]
    by_cases hb : blkE t i = 0
    · simp only [if_pos hb]
      exact fault_loop3 k Rt Xt t hl m n (i + 1) (by omega) (by omega)
    · simp only [if_neg hb]

theorem allE_zero {t : TreeD} : ∀ (m i : Nat), allE t m i = 0 → ∀ j, i ≤ j → j < i + m → blkE t j = 0
  | 0, i, _, j, h1, h2 => by omega
  | m + 1, i, h, j, h1, h2 => by
    simp only [allE] at h
    by_cases hb : blkE t i = 0
    · rw [if_pos hb] at h
      by_cases hj : j = i
      · rw [hj]; exact hb
      · exact allE_zero m (i + 1) h j (by omega) (by omega)
    · rw [if_neg hb] at h
      exact absurd h hb

theorem vt_of {t : TreeD} (h : allE t t.1.length 0 = 0) : Vt t ∧ ∀ i, i < t.1.length → ncalls t i ≤ 6 := by
  have key : ∀ i, i < t.1.length → ncalls t i ≤ 6 ∧ okB t i := fun i hi => by
    have := allE_zero _ _ h i (by omega) (by omega)
    unfold blkE at this
    by_cases hA : ncalls t i > 6
    · rw [if_pos hA] at this; omega
    · rw [if_neg hA] at this
      by_cases hk : okB t i
      · exact ⟨by omega, hk⟩
      · rw [if_neg hk] at this; omega
  refine ⟨fun i hi => ?_, fun i hi => (key i hi).1⟩
  have hk := (key i hi).2
  unfold okB at hk
  by_cases h0 : i = 0
  · rw [if_pos h0] at hk; exact ⟨fun _ => hk.1, fun h => by omega⟩
  · rw [if_neg h0] at hk; exact ⟨fun h => absurd h h0, fun _ => hk.1⟩

/-- what is known of a tree that passes -/
structure GoodT (t : TreeD) : Prop where
  one : 1 ≤ t.1.length
  len : t.1.length ≤ 40
  vt : Vt t
  calls : ∀ i, i < t.1.length → ncalls t i ≤ 6
  fin : 0 ≤ t.2.2.1 ∧ t.2.2.1 < (t.1.length : Int)
  best : 0 ≤ t.2.1 ∧ t.2.1 < (t.1.length : Int)

theorem tree_both (t : TreeD) : ∃ e, fork_Check.run t = some e ∧ basculeref_TreeFault.run t = some e ∧ (e = 0 → GoodT t) := by
  unfold fork_Check.run fork_Check.top basculeref_TreeFault.run basculeref_TreeFault.top
  by_cases hs : t.1.length < 1 ∨ t.1.length > 40
  · have c1 : cond (decide ((t.1.length : Int) < 1)) true (decide ((t.1.length : Int) > 40)) = true := by rw [cond_or, Bool.or_eq_true, decide_eq_true_eq, decide_eq_true_eq]; omega
    have c2 : cond ((t.1.length : Int) == 0) true (decide ((t.1.length : Int) > 40)) = true := by rw [cond_or, Bool.or_eq_true, beq_iff_eq, decide_eq_true_eq]; omega
    rw [c1, c2]
    exact ⟨1, rfl, rfl, fun h => by omega⟩
  · have c1 : cond (decide ((t.1.length : Int) < 1)) true (decide ((t.1.length : Int) > 40)) = false := by rw [cond_or, Bool.or_eq_false_iff, decide_eq_false_iff_not, decide_eq_false_iff_not]; omega
    have c2 : cond ((t.1.length : Int) == 0) true (decide ((t.1.length : Int) > 40)) = false := by rw [cond_or, Bool.or_eq_false_iff, beq_eq_false_iff_ne, decide_eq_false_iff_not]; omega
    rw [c1, c2, if_neg (by simp), if_neg (by simp)]
    have a := fun N (hN : t.1.length < N) => check_loop2 N (fun (x2 : Int) => some x2) (fun (c1 : TreeD) => fork_Check.j0 (fun (x2 : Int) => some x2) c1) t (by omega) t.1.length N 0 (by omega) hN
    have b := fun N (hN : t.1.length < N) => fault_loop3 N (fun (x2 : Int) => some x2) (fun (c1 : TreeD) => basculeref_TreeFault.j1 (fun (x2 : Int) => some x2) c1) t (by omega) t.1.length N 0 (by omega) hN
    have a := a fuel (by rw [fuel_big]; omega)
    have b := b fuel (by rw [fuel_big]; omega)
    by_cases hE : allE t t.1.length 0 = 0
    · rw [if_pos hE] at a b
      obtain ⟨hV, hcl⟩ := vt_of hE
      unfold fork_Check.j0 at a
      unfold basculeref_TreeFault.j1 at b
      by_cases hf : 0 ≤ t.2.2.1 ∧ t.2.2.1 < (t.1.length : Int)
      · obtain ⟨q, q1, q2, q3⟩ := best_both hV (by omega) hf.1 hf.2
        have d : cond (decide (t.2.2.1 < 0)) true (decide (t.2.2.1 ≥ (t.1.length : Int))) = false := by rw [cond_or, Bool.or_eq_false_iff, decide_eq_false_iff_not, decide_eq_false_iff_not]; omega
        rw [d, if_pos (show (false == false) = true from rfl), q1, Option.bind_some] at a
        rw [d, if_pos (show (false == false) = true from rfl), q2, Option.bind_some] at b
        simp only [cond_false] at a b
        by_cases hb : t.2.1 = (q : Int)
        · rw [if_neg (by simpa using hb)] at a b
          exact ⟨0, a, b, fun _ => ⟨by omega, by omega, hV, hcl, hf, by omega⟩⟩
        · rw [if_pos (by simpa using hb)] at a b
          exact ⟨12, a, b, fun h => by omega⟩
      · have d : cond (decide (t.2.2.1 < 0)) true (decide (t.2.2.1 ≥ (t.1.length : Int))) = true := by rw [cond_or, Bool.or_eq_true, decide_eq_true_eq, decide_eq_true_eq]; omega
        rw [d] at a b
        exact ⟨12, a, b, fun h => by omega⟩
    · rw [if_neg hE] at a b
      exact ⟨_, a, b, fun h => absurd h hE⟩

end Go.Bx
