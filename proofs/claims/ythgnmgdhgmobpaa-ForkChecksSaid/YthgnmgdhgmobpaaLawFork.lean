/- A part of a framework that reads Go code as functions of plain data; or a law about such functions. -/
import Derived.Test.YthgnmgdhgmobpaaLawBeq
import Derived.Test.YthgnmgdhgmobpaaFnForkChecks0
namespace Go.Bx
open Go
set_option linter.unusedSimpArgs false
set_option linter.unusedVariables false

/-! trees of blocks -/

abbrev CallD : Type := Int × List Int × List Int × Int × List Int × List Int × List Int × Int × Int × List Int × Unit
abbrev BlkD : Type := Int × Int × List CallD × Unit
abbrev TreeD : Type := List BlkD × Int × Int × Unit
abbrev Bk0 : BlkD := (0, 0, [], ())

def par (t : TreeD) (i : Nat) : Int := (t.1.getD i Bk0).1
def hgt (t : TreeD) (i : Nat) : Int := (t.1.getD i Bk0).2.1

/-- each block stands on an earlier one -/
def Vt (t : TreeD) : Prop := ∀ i, i < t.1.length → (i = 0 → par t i = -1) ∧ (0 < i → 0 ≤ par t i ∧ par t i < (i : Int))

theorem Vt.low {t : TreeD} (h : Vt t) {i : Nat} (hi : i < t.1.length) : -1 ≤ par t i ∧ par t i < (i : Int) := by
  by_cases h0 : i = 0
  · have := (h i hi).1 h0; omega
  · have := (h i hi).2 (by omega); omega

/-- a line down from a block -/
theorem chain {t : TreeD} (hV : Vt t) (hl : t.1.length ≤ 50) : ∀ (n : Nat) (b : Int), n ≤ 100 → b < (n : Int) → b < (t.1.length : Int) → -1 ≤ b →
    ∃ l : List Int, l.length ≤ n ∧ (∀ x ∈ l, 0 ≤ x ∧ x ≤ b) ∧ (∀ N, n < N → basculeref_lineTo_s0.runN N t b = some (l, ())) ∧
      (∀ (α : Type) (k : Nat) (Xt : List Int → Option α) (N : Nat) (acc : List Int), n < N → acc.length + n ≤ 200 → fork_line.l0 k Xt N acc b t = Xt (l ++ acc)) ∧
      (∀ (α : Type) (k : Nat) (Xt : Int → Int → Option α) (N : Nat) (root : Int), n < N → 0 ≤ root → ∃ c, fork_above.l0 k Xt N b root t = Xt c root ∧ (c = root ↔ root ∈ l))
  | n, b => by
    intro h100 hn hb h0
    by_cases hneg : b < 0
    · refine ⟨[], by simp, by simp, fun N hN => ?_, fun α k Xt N acc hN ha => ?_, fun α k Xt N root hN hr => ⟨b, ?_, ?_⟩⟩
      · obtain ⟨N, rfl⟩ : ∃ M, N = M + 1 := ⟨N - 1, by omega⟩
        simp only [basculeref_lineTo_s0.runN, basculeref_lineTo_s0.top]
        rw [if_pos (by rw [decide_eq_true_eq]; exact hneg)]
      · obtain ⟨N, rfl⟩ : ∃ M, N = M + 1 := ⟨N - 1, by omega⟩
        simp only [fork_line.l0, fork_line.l0s]
        rw [if_neg (by rw [decide_eq_true_eq]; omega)]
        simp
      · obtain ⟨N, rfl⟩ : ∃ M, N = M + 1 := ⟨N - 1, by omega⟩
        simp only [fork_above.l0, fork_above.l0s]
        rw [if_neg (by rw [decide_eq_true_eq]; omega)]
      · simp; omega
    · obtain ⟨i, rfl⟩ : ∃ i : Nat, b = (i : Int) := ⟨b.toNat, by omega⟩
      have hi : i < t.1.length := by omega
      obtain ⟨p1, p2⟩ := hV.low hi
      have hpar : (List.getD t.1 i (0, 0, [], ())).1 = par t i := rfl
      cases n with
      | zero => omega
      | succ n =>
        obtain ⟨l, q1, q2, q3, q4, q5⟩ := chain hV hl n (par t i) (by omega) (by omega) (by omega) p1
        refine ⟨l ++ [(i : Int)], by simp; omega, fun x hx => ?_, fun N hN => ?_, fun α k Xt N acc hN ha => ?_, fun α k Xt N root hN hr => ?_⟩
        · rcases List.mem_append.1 hx with hx | hx
          · have := q2 x hx; omega
          · simp at hx; omega
        · obtain ⟨N, rfl⟩ : ∃ M, N = M + 1 := ⟨N - 1, by omega⟩
          simp only [basculeref_lineTo_s0.runN, basculeref_lineTo_s0.top]
          rw [if_neg (by rw [decide_eq_true_eq]; omega), if_pos (by omega), toNat_nat, hpar, q3 N (by omega), Option.bind_some, if_pos (fitB_small (by show l.length + 1 ≤ _; omega) (by omega))]
        · obtain ⟨N, rfl⟩ : ∃ M, N = M + 1 := ⟨N - 1, by omega⟩
          simp only [fork_line.l0, fork_line.l0s]
          rw [if_pos (by rw [decide_eq_true_eq]; omega), if_pos (fitB_small (by omega) (by omega)), if_pos (by omega), toNat_nat, hpar, q4 α k Xt N ([(i : Int)] ++ acc) (by omega) (by simp; omega)]
          simp
        · obtain ⟨N, rfl⟩ : ∃ M, N = M + 1 := ⟨N - 1, by omega⟩
          simp only [fork_above.l0, fork_above.l0s]
          by_cases hc : (i : Int) > root
          · rw [if_pos (by rw [decide_eq_true_eq]; exact hc), if_pos (by omega), toNat_nat, hpar]
            obtain ⟨c, c1, c2⟩ := q5 α k Xt N root (by omega) hr
            refine ⟨c, c1, ?_⟩
            rw [c2, List.mem_append]
            constructor
            · exact .inl
            · rintro (h | h)
              · exact h
              · simp at h; omega
          · rw [if_neg (by rw [decide_eq_true_eq]; exact hc)]
            refine ⟨i, rfl, ?_⟩
            rw [List.mem_append]
            constructor
            · rintro rfl; exact .inr (by simp)
            · rintro (h | h)
              · have := q2 root h; omega
              · simp at h; omega

/-- does a list hold it? -/
theorem has_loop {α : Type} (k : Nat) (Rt : Bool → Option α) (Xt : Option α) (root : Int) (l : List Int) (hl : l.length ≤ 1000) : ∀ (R P : List Int) (n : Nat), R.length < n → l = P ++ R →
    basculeref_standsOn.l0 k Rt Xt n root l (l.length : Int) (P.length : Int) = if root ∈ R then Rt true else Xt
  | R, P, 0, h, _ => by omega
  | [], P, n + 1, h, hc => by
    simp only [basculeref_standsOn.l0, basculeref_standsOn.l0s]
    have : l.length = P.length := by rw [hc]; simp
    rw [if_neg (by rw [decide_eq_true_eq]; omega), if_neg (by simp)]
  | a :: R, P, n + 1, h, hc => by
    have hlen : l.length = P.length + (R.length + 1) := by rw [hc]; simp
    simp only [basculeref_standsOn.l0, basculeref_standsOn.l0s]
    have hg : l.getD P.length 0 = a := by rw [hc]; exact getD_front _ _ _ _
    rw [if_pos (by rw [decide_eq_true_eq]; omega), if_pos (by omega), i64_succ (by omega), toNat_nat, hg]
    have ih := has_loop k Rt Xt root l hl R (P ++ [a]) n (by simpa using h) (by simp [hc])
    rw [List.length_append] at ih
    by_cases he : a = root
    · rw [if_pos (by simp [he]), if_pos (by simp [he])]
    · rw [if_neg (by simpa using he)]
      refine Eq.trans ih ?_
      by_cases hr : root ∈ R
      · rw [if_pos hr, if_pos (List.mem_cons_of_mem _ hr)]
      · rw [if_neg hr, if_neg (by simp only [List.mem_cons, not_or]; exact ⟨fun e => he e.symm, hr⟩)]

/-- the line to a block -/
theorem line_both {t : TreeD} (hV : Vt t) (hl : t.1.length ≤ 50) {b : Int} (hb : b < (t.1.length : Int)) (h0 : -1 ≤ b) :
    ∃ l : List Int, l.length ≤ 51 ∧ fork_line.run t b = some l ∧ basculeref_lineTo.run t b = some l ∧ (∀ root, 0 ≤ root → fork_above.run t b root = some (decide (root ∈ l)) ∧ basculeref_standsOn.run t b root = some (decide (root ∈ l))) ∧ (∀ x ∈ l, 0 ≤ x ∧ x ≤ b) ∧ (0 ≤ b → b ∈ l) := by
  obtain ⟨l, q1, q2, q3, q4, q5⟩ := chain hV hl 51 b (by omega) (by omega) hb h0
  have hline : ∀ (N : Nat), 51 < N → fork_line.l0 N (fun (x5 : List Int) => fork_line.j0 (fun (x4 : List Int) => some x4) x5) N [] b t = some l := fun N hN => by
    rw [q4 (List Int) N _ N [] hN (by simp)]
    unfold fork_line.j0; simp
  have hto : basculeref_lineTo.run t b = some l := by
    unfold basculeref_lineTo.run basculeref_lineTo.top basculeref_lineTo_s0.run
    have := fun N (hN : 51 < N) => q3 (N + 1) (by omega)
    have h1 := this fuel (by rw [fuel_big]; omega)
    simp only [basculeref_lineTo_s0.runN, basculeref_lineTo_s0.top] at h1
    by_cases hneg : b < 0
    · rw [if_pos (by rw [decide_eq_true_eq]; exact hneg)] at h1 ⊢
      simp only [Option.some.injEq, Prod.mk.injEq, and_true] at h1
      rw [h1]
    · rw [if_neg (by rw [decide_eq_true_eq]; exact hneg), if_pos (by omega)] at h1 ⊢
      obtain ⟨y, y1, y2⟩ := Option.bind_eq_some_iff.1 h1
      rw [y1, Option.bind_some]
      split at y2
      · rename_i hf
        rw [if_pos hf]
        simp only [Option.some.injEq, Prod.mk.injEq, and_true] at y2
        rw [y2]
      · cases y2
  refine ⟨l, q1, hline fuel (by rw [fuel_big]; omega), hto, fun root hr => ⟨?_, ?_⟩, q2, fun h0b => ?_⟩
  · unfold fork_above.run fork_above.top
    have := fun N (hN : 51 < N) => q5 Bool N (fun (x1 : Int) (x2 : Int) => fork_above.j0 (fun (x6 : Bool) => some x6) x1 x2) N root hN hr
    obtain ⟨c, c1, c2⟩ := this fuel (by rw [fuel_big]; omega)
    refine Eq.trans c1 ?_
    unfold fork_above.j0
    congr 1
    rw [Bool.eq_iff_iff, beq_iff_eq, decide_eq_true_eq]; exact c2
  · unfold basculeref_standsOn.run basculeref_standsOn.top
    rw [hto, Option.bind_some]
    have := fun N (hN : l.length < N) => has_loop N (fun (x6 : Bool) => some x6) (basculeref_standsOn.j0 fun (x6 : Bool) => some x6) root l (by omega) l [] N hN rfl
    refine Eq.trans (this fuel (by rw [fuel_big]; omega)) ?_
    unfold basculeref_standsOn.j0
    by_cases hr : root ∈ l
    · rw [if_pos hr, decide_eq_true hr]
    · rw [if_neg hr, decide_eq_false hr]
  · -- the block itself stands in its line
    have h1 := q3 52 (by omega)
    simp only [basculeref_lineTo_s0.runN, basculeref_lineTo_s0.top] at h1
    rw [if_neg (by rw [decide_eq_true_eq]; omega), if_pos (by omega)] at h1
    obtain ⟨y, y1, y2⟩ := Option.bind_eq_some_iff.1 h1
    split at y2
    · simp only [Option.some.injEq, Prod.mk.injEq, and_true] at y2
      rw [← y2]; simp
    · cases y2

/-- does a block stand on another? -/
def onB (t : TreeD) (root : Int) (i : Nat) : Bool := (fork_above.run t (i : Int) root).getD false

theorem on_both {t : TreeD} (hV : Vt t) (hl : t.1.length ≤ 50) {root : Int} (hr : 0 ≤ root) {i : Nat} (hi : i < t.1.length) :
    fork_above.run t (i : Int) root = some (onB t root i) ∧ basculeref_standsOn.run t (i : Int) root = some (onB t root i) ∧ ((i : Int) < root → onB t root i = false) ∧ ((i : Int) = root → onB t root i = true) := by
  obtain ⟨l, _, _, _, l4, l5, l6⟩ := line_both hV hl (b := (i : Int)) (by omega) (by omega)
  obtain ⟨a1, a2⟩ := l4 root hr
  have e : onB t root i = decide (root ∈ l) := by unfold onB; rw [a1]; rfl
  rw [e]
  refine ⟨a1, a2, fun h => ?_, fun h => ?_⟩
  · rw [decide_eq_false_iff_not]
    intro hm
    have := l5 root hm; omega
  · rw [decide_eq_true_eq, ← h]; exact l6 (by omega)

/-- the first one of the highest -/
structure Best (t : TreeD) (S : Nat → Bool) (n p : Nat) : Prop where
  lt : p < n
  on : S p = true
  all : ∀ i, i < n → S i = true → hgt t i ≤ hgt t p
  first : ∀ i, i < p → S i = true → hgt t i < hgt t p

theorem Best.one {t : TreeD} {S : Nat → Bool} {n p q : Nat} (h : Best t S n p) (g : Best t S n q) : p = q := by
  rcases Nat.lt_trichotomy p q with c | c | c
  · have h1 := g.first p c h.on
    have h2 := h.all q g.lt g.on
    omega
  · exact c
  · have h1 := h.first q c g.on
    have h2 := g.all p h.lt h.on
    omega

theorem best_loop {α : Type} (k : Nat) (Xt : Int → Option α) {t : TreeD} (hV : Vt t) (hl : t.1.length ≤ 50) {F : Nat} (hF : t.2.2.1 = (F : Int)) (hFl : F < t.1.length) :
    ∀ (n m i p : Nat), i + m = t.1.length → m < n → p < t.1.length → onB t (F : Int) p = true → (∀ j, j < i → onB t (F : Int) j = true → hgt t j ≤ hgt t p) → (∀ j, j < p → onB t (F : Int) j = true → hgt t j < hgt t p) →
    ∃ q : Nat, fork_best.l0 k Xt n (p : Int) t.1 (t.1.length : Int) (i : Int) t = Xt (q : Int) ∧ Best t (onB t (F : Int)) t.1.length q
  | 0, m, i, p, _, h, _, _, _, _ => by omega
  | n + 1, 0, i, p, hi, h, hp, hon, ha, hf => by
    refine ⟨p, ?_, hp, hon, fun j hj => ha j (by omega), hf⟩
    simp only [fork_best.l0, fork_best.l0s]
    rw [if_neg (by rw [decide_eq_true_eq]; omega)]
  | n + 1, m + 1, i, p, hi, h, hp, hon, ha, hf => by
    have hil : i < t.1.length := by omega
    simp only [fork_best.l0, fork_best.l0s]
    rw [if_pos (by rw [decide_eq_true_eq]; omega), if_pos (by omega), hF, (on_both hV hl (root := (F : Int)) (by omega) hil).1, Option.bind_some, toNat_nat, toNat_nat]
    have g1 : (decide (0 ≤ (p : Int) ∧ (p : Int) < (t.1.length : Int)) || !(onB t (F : Int) i == true)) = true := by
      rw [Bool.or_eq_true]; left; rw [decide_eq_true_eq]; omega
    rw [g1]
    simp only [cond_true]
    unfold fork_best.j0
    rw [i64_succ (by omega)]
    have hi' : (List.getD t.1 i (0, 0, [], ())).2.1 = hgt t i := rfl
    have hp' : (List.getD t.1 p (0, 0, [], ())).2.1 = hgt t p := rfl
    rw [hi', hp']
    by_cases hc : onB t (F : Int) i = true ∧ hgt t i > hgt t p
    · rw [if_pos (by rw [hc.1]; simpa using hc.2)]
      refine best_loop k Xt hV hl hF hFl n m (i + 1) i (by omega) (by omega) hil hc.1 (fun j hj hs => ?_) (fun j hj hs => ?_)
      · rcases Nat.lt_or_ge j i with hji | hji
        · have := ha j hji hs; omega
        · have : j = i := by omega
          subst this; omega
      · have := ha j hj hs; omega
    · rw [if_neg (by
        intro hh
        cases ho : onB t (F : Int) i with
        | false => rw [ho] at hh; simp at hh
        | true => rw [ho] at hh; exact hc ⟨ho, by simpa using hh⟩)]
      refine best_loop k Xt hV hl hF hFl n m (i + 1) p (by omega) (by omega) hp hon (fun j hj hs => ?_) hf
      rcases Nat.lt_or_ge j i with hji | hji
      · exact ha j hji hs
      · have : j = i := by omega
        subst this
        have : ¬ (hgt t j > hgt t p) := fun h => hc ⟨hs, h⟩
        omega

theorem bestOf_loop {α : Type} (k : Nat) (Xt : Int → Option α) {t : TreeD} (hV : Vt t) (hl : t.1.length ≤ 50) {F : Nat} (hF : t.2.2.1 = (F : Int)) (hFl : F < t.1.length) :
    ∀ (n i : Nat) (x : Int), i < n → i ≤ t.1.length → ((x = -1 ∧ ∀ j, i ≤ j → j < t.1.length → onB t (F : Int) j = false) ∨ ∃ p : Nat, x = (p : Int) ∧ i ≤ p ∧ p < t.1.length ∧ onB t (F : Int) p = true ∧ (∀ j, i ≤ j → j < t.1.length → onB t (F : Int) j = true → hgt t j ≤ hgt t p) ∧ (∀ j, i ≤ j → j < p → onB t (F : Int) j = true → hgt t j < hgt t p)) →
    ∃ q : Nat, basculeref_bestOf.l0 k Xt n x ((i : Int) - 1) t = Xt (q : Int) ∧ Best t (onB t (F : Int)) t.1.length q
  | 0, i, x, h, _, _ => by omega
  | n + 1, 0, x, h, hi, hx => by
    simp only [basculeref_bestOf.l0, basculeref_bestOf.l0s]
    rw [if_neg (by simp)]
    rcases hx with ⟨_, hno⟩ | ⟨p, rfl, _, h2, h3, h4, h5⟩
    · have := hno F (by omega) hFl
      rw [(on_both hV hl (root := (F : Int)) (by omega) hFl).2.2.2 rfl] at this
      cases this
    · exact ⟨p, rfl, h2, h3, fun j hj => h4 j (by omega) hj, fun j hj => h5 j (by omega) hj⟩
  | n + 1, i + 1, x, h, hi, hx => by
    have hil : i < t.1.length := by omega
    simp only [basculeref_bestOf.l0, basculeref_bestOf.l0s]
    have ei : ((i + 1 : Nat) : Int) - 1 = (i : Int) := by omega
    rw [ei, if_pos (by rw [decide_eq_true_eq]; omega), hF, (on_both hV hl (root := (F : Int)) (by omega) hil).2.1, Option.bind_some, toNat_nat]
    have ew : IntKind.i64.wrap ((i : Int) - 1) = (i : Int) - 1 := wrap_i64 (by omega) (by omega)
    have hi' : (List.getD t.1 i (0, 0, [], ())).2.1 = hgt t i := rfl
    have g1 : (decide (0 ≤ (i : Int) ∧ (i : Int) < (t.1.length : Int)) || !(decide (x < 0) == false)) = true := by
      rw [Bool.or_eq_true]; left; rw [decide_eq_true_eq]; omega
    have g2 : (decide (0 ≤ x ∧ x < (t.1.length : Int)) || !(decide (x < 0) == false)) = true := by
      rcases hx with ⟨rfl, _⟩ | ⟨p, rfl, _, h2, _⟩
      · rfl
      · rw [Bool.or_eq_true]; left; rw [decide_eq_true_eq]; omega
    rw [g1, g2]
    simp only [cond_true]
    unfold basculeref_bestOf.j0
    rw [ew, hi']
    rcases hx with ⟨rfl, hno⟩ | ⟨p, rfl, h1, h2, h3, h4, h5⟩
    · have d1 : decide ((-1 : Int) < 0) = true := rfl
      rw [d1]
      simp only [cond_true]
      cases ho : onB t (F : Int) i with
      | true =>
        rw [if_pos (by rfl)]
        refine bestOf_loop k Xt hV hl hF hFl n i (i : Int) (by omega) (by omega) (.inr ⟨i, rfl, by omega, hil, ho, fun j hj hjl hs => ?_, fun j hj hji => by omega⟩)
        rcases Nat.lt_or_ge i j with hji | hji
        · rw [hno j (by omega) hjl] at hs; cases hs
        · have : j = i := by omega
          subst this; exact Int.le_refl _
      | false =>
        rw [if_neg (by simp)]
        refine bestOf_loop k Xt hV hl hF hFl n i (-1) (by omega) (by omega) (.inl ⟨rfl, fun j hj hjl => ?_⟩)
        rcases Nat.lt_or_ge i j with hji | hji
        · exact hno j (by omega) hjl
        · have : j = i := by omega
          subst this; exact ho
    · have d1 : decide ((p : Int) < 0) = false := by rw [decide_eq_false_iff_not]; omega
      have hp' : (List.getD t.1 p (0, 0, [], ())).2.1 = hgt t p := rfl
      rw [d1, toNat_nat, hp']
      simp only [cond_false]
      by_cases hc : onB t (F : Int) i = true ∧ hgt t i ≥ hgt t p
      · rw [if_pos (by rw [hc.1]; simpa using hc.2)]
        refine bestOf_loop k Xt hV hl hF hFl n i (i : Int) (by omega) (by omega) (.inr ⟨i, rfl, by omega, hil, hc.1, fun j hj hjl hs => ?_, fun j hj hji => by omega⟩)
        rcases Nat.lt_or_ge i j with hji | hji
        · have := h4 j (by omega) hjl hs; omega
        · have : j = i := by omega
          subst this; exact Int.le_refl _
      · rw [if_neg (by
          intro hh
          cases ho : onB t (F : Int) i with
          | false => rw [ho] at hh; simp at hh
          | true => rw [ho] at hh; exact hc ⟨ho, by simpa using hh⟩)]
        refine bestOf_loop k Xt hV hl hF hFl n i (p : Int) (by omega) (by omega) (.inr ⟨p, rfl, by omega, h2, h3, fun j hj hjl hs => ?_, fun j hj hjp hs => ?_⟩)
        · rcases Nat.lt_or_ge i j with hji | hji
          · exact h4 j (by omega) hjl hs
          · have : j = i := by omega
            subst this
            have : ¬ (hgt t j ≥ hgt t p) := fun h => hc ⟨hs, h⟩
            omega
        · rcases Nat.lt_or_ge i j with hji | hji
          · exact h5 j (by omega) hjp hs
          · have : j = i := by omega
            subst this
            have : ¬ (hgt t j ≥ hgt t p) := fun h => hc ⟨hs, h⟩
            omega

theorem best_both {t : TreeD} (hV : Vt t) (hl : t.1.length ≤ 50) (h0 : 0 ≤ t.2.2.1) (h1 : t.2.2.1 < (t.1.length : Int)) : ∃ q : Nat, fork_best.run t = some (q : Int) ∧ basculeref_bestOf.run t = some (q : Int) ∧ q < t.1.length := by
  obtain ⟨F, hF⟩ : ∃ F : Nat, t.2.2.1 = (F : Int) := ⟨t.2.2.1.toNat, by omega⟩
  have hFl : F < t.1.length := by omega
  have hon : ∀ j, j < t.1.length → j < F → onB t (F : Int) j = false := fun j hj hjF => (on_both hV hl (root := (F : Int)) (by omega) hj).2.2.1 (by omega)
  have a := fun N (hN : t.1.length < N) => best_loop N (fun (x3 : Int) => fork_best.j1 (fun (x2 : Int) => some x2) x3) hV hl hF hFl N t.1.length 0 F (by omega) hN hFl ((on_both hV hl (root := (F : Int)) (by omega) hFl).2.2.2 rfl) (fun j hj => by omega) (fun j hj hs => by rw [hon j (by omega) hj] at hs; cases hs)
  have b := fun N (hN : t.1.length < N) => bestOf_loop N (fun (x3 : Int) => basculeref_bestOf.j1 (fun (x2 : Int) => some x2) x3) hV hl hF hFl N t.1.length (-1) hN (Nat.le_refl _) (.inl ⟨rfl, fun j hj hjl => by omega⟩)
  obtain ⟨q, q1, q2⟩ := a fuel (by rw [fuel_big]; omega)
  obtain ⟨p, p1, p2⟩ := b fuel (by rw [fuel_big]; omega)
  have e := q2.one p2
  subst e
  refine ⟨q, ?_, ?_, q2.lt⟩
  · unfold fork_best.run fork_best.top
    rw [hF]; exact q1
  · unfold basculeref_bestOf.run basculeref_bestOf.top
    have ew : IntKind.i64.wrap ((t.1.length : Int) - 1) = (t.1.length : Int) - 1 := wrap_i64 (by omega) (by omega)
    rw [ew]; exact p1

end Go.Bx
