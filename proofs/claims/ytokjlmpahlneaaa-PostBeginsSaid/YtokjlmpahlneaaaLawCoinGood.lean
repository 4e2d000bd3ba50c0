/- A part of a framework that reads Go code as functions of plain data; or a law about such functions. -/
import Derived.Test.YtokjlmpahlneaaaLawCoinCheck
import Derived.Test.YtokjlmpahlneaaaLawU256
namespace Go.Bx
open Go
set_option linter.unusedSimpArgs false
set_option linter.unusedVariables false

abbrev H0 : Hold := (List.replicate 32 0, [0, 0, 0, 0], ())

/-- is a holding as it should be? -/
def hok (l : List Hold) (i : Nat) : Bool := !(beqD (.arr 4 (.int .u64)) (l.getD i H0).2.1 [0, 0, 0, 0]) && (decide (i = 0) || ltB (l.getD (i - 1) H0).1 (l.getD i H0).1)
def oks (l : List Hold) : Nat → Nat → Bool
  | 0, _ => true
  | k + 1, i => hok l i && oks l k (i + 1)
def tot (l : List Hold) : Nat → Nat → Int
  | 0, _ => 0
  | k + 1, i => val B64 (l.getD i H0).2.1 + tot l k (i + 1)

theorem hold_at {l : List Hold} (h : ∀ x ∈ l, HoldOk x) {i : Nat} (hi : i < l.length) : HoldOk (l.getD i H0) := by
  have : l.getD i H0 = l[i] := by simp [List.getD, List.getElem?_eq_getElem hi]
  rw [this]; exact h _ (List.getElem_mem hi)

theorem tot_nonneg {l : List Hold} (h : ∀ x ∈ l, HoldOk x) : ∀ (k i : Nat), i + k ≤ l.length → 0 ≤ tot l k i
  | 0, _, _ => Int.le_refl _
  | k + 1, i, hi => by
    obtain ⟨_, h2, h3, _⟩ := hold_at h (i := i) (by omega)
    have := (val_bound B64_pos h3).1
    have := tot_nonneg h k (i + 1) (by omega)
    simp only [tot]; omega

theorem who32 {l : List Hold} (h : ∀ x ∈ l, HoldOk x) {i : Nat} (hi : i < l.length) : cutL (l.getD i H0).1 0 32 = (l.getD i H0).1 := cut32 (hold_at h hi).1

theorem check_loop {α : Type} (k : Nat) (Rt : Int → Option α) (Xt : CoinD → List Int → Option α) (c : CoinD) (hc : ∀ x ∈ c.2.1, HoldOk x) (hl : c.2.1.length ≤ 1000) : ∀ (n m i : Nat) (s : List Int), i + m = c.2.1.length → m < n → s.length = 4 → digs B64 s →
    ((oks c.2.1 m i = true ∧ val B64 s + tot c.2.1 m i < M256) → ∃ r, coin_Check.l0 k Rt Xt n c.2.1 (c.2.1.length : Int) (i : Int) c s = Xt c r ∧ r.length = 4 ∧ digs B64 r ∧ val B64 r = val B64 s + tot c.2.1 m i) ∧
    (¬ (oks c.2.1 m i = true ∧ val B64 s + tot c.2.1 m i < M256) → coin_Check.l0 k Rt Xt n c.2.1 (c.2.1.length : Int) (i : Int) c s = Rt 12)
  | 0, m, i, s, _, h, _, _ => by omega
  | n + 1, 0, i, s, hi, h, hs, hd => by
    have e : coin_Check.l0 k Rt Xt (n + 1) c.2.1 (c.2.1.length : Int) (i : Int) c s = Xt c s := by
      simp only [coin_Check.l0, coin_Check.l0s]
      rw [if_neg (by rw [decide_eq_true_eq]; omega)]
    have hb := val4_bound hs hd
    refine ⟨fun _ => ⟨s, e, hs, hd, by simp [tot]⟩, fun hn => ?_⟩
    exfalso; apply hn
    simp only [oks, tot]
    exact ⟨trivial, by omega⟩
  | n + 1, m + 1, i, s, hi, h, hs, hd => by
    have hlt : i < c.2.1.length := by omega
    obtain ⟨w1, w2, w3, w4⟩ := hold_at hc hlt
    obtain ⟨r, o, e1, e2, e3, e4, e5⟩ := wide_add hs w2 hd w3
    have hb := val4_bound hs hd
    have hbw := val4_bound w2 w3
    have htn := tot_nonneg hc m (i + 1) (by omega)
    have step : coin_Check.l0 k Rt Xt (n + 1) c.2.1 (c.2.1.length : Int) (i : Int) c s = if hok c.2.1 i = true then (if o = true then Rt 12 else coin_Check.l0 k Rt Xt n c.2.1 (c.2.1.length : Int) ((i + 1 : Nat) : Int) c r) else Rt 12 := by
      simp only [coin_Check.l0, coin_Check.l0s]
      rw [if_pos (by rw [decide_eq_true_eq]; omega), if_pos (by omega), i64_succ (by omega), toNat_nat]
      unfold bytes_Compare.run bytes_Compare.top x_compare.run
      by_cases h0 : i = 0
      · subst h0
        have g1 : (decide (((0 : Nat) : Int) > 0)) = false := rfl
        simp only [g1]
        have g2 : (decide (0 ≤ IntKind.i64.wrap (((0 : Nat) : Int) - 1) ∧ IntKind.i64.wrap (((0 : Nat) : Int) - 1) < (c.2.1.length : Int)) || !(false == true)) = true := by simp
        rw [g2]
        simp only [cond_true, cond_false]
        rw [if_neg (by simp), Option.bind_some, e1]
        simp only [Option.bind_some]
        unfold hok
        simp only [decide_true, Bool.true_or, Bool.and_true]
        cases beqD (.arr 4 (.int .u64)) (c.2.1.getD 0 H0).2.1 [0, 0, 0, 0] <;> rfl
      · have ew : IntKind.i64.wrap ((i : Int) - 1) = ((i - 1 : Nat) : Int) := by rw [wrap_i64 (by omega) (by omega)]; omega
        have g1 : (decide ((i : Int) > 0)) = true := by rw [decide_eq_true_eq]; omega
        simp only [g1, ew, toNat_nat]
        have g2 : (decide (0 ≤ ((i - 1 : Nat) : Int) ∧ ((i - 1 : Nat) : Int) < (c.2.1.length : Int)) || !(true == true)) = true := by
          rw [Bool.or_eq_true]; left; rw [decide_eq_true_eq]; omega
        rw [g2]
        simp only [cond_true]
        rw [if_pos (by rfl), Option.bind_some, Option.bind_some, e1]
        simp only [Option.bind_some]
        have hw := who32 hc hlt
        have hw1 := who32 hc (show i - 1 < c.2.1.length by omega)
        rw [hw, hw1, cmpL_ltB _ _ (by rw [(hold_at hc hlt).1, (hold_at hc (show i - 1 < c.2.1.length by omega)).1])]
        unfold hok
        have h0' : decide (i = 0) = false := by rw [decide_eq_false_iff_not]; exact h0
        rw [h0']
        simp only [Bool.false_or]
        cases beqD (.arr 4 (.int .u64)) (c.2.1.getD i H0).2.1 [0, 0, 0, 0] <;> cases ltB (c.2.1.getD (i - 1) H0).1 (c.2.1.getD i H0).1 <;> rfl
    obtain ⟨ih1, ih2⟩ := check_loop k Rt Xt c hc hl n m (i + 1) r (by omega) (by omega) e2 e3
    rw [step]
    simp only [oks, tot, Bool.and_eq_true]
    cases hh : hok c.2.1 i with
    | false => exact ⟨fun h => (by simp at h), fun _ => by simp⟩
    | true =>
      simp only [true_and, if_true]
      by_cases ho : o = true
      · have := e5.1 ho
        rw [if_pos ho]
        exact ⟨fun h => by omega, fun _ => rfl⟩
      · have hno : ¬ (M256 ≤ val B64 s + val B64 (c.2.1.getD i H0).2.1) := fun h => ho (e5.2 h)
        have ev : val B64 r = val B64 s + val B64 (c.2.1.getD i H0).2.1 := by
          rw [e4]; exact Int.emod_eq_of_lt (by omega) (by omega)
        rw [if_neg ho]
        rw [ev, Int.add_assoc] at ih1 ih2
        exact ⟨ih1, ih2⟩

theorem fault_loop {α : Type} (k : Nat) (Xt : List Int → Bool → CoinD → Option α) (c : CoinD) (hc : ∀ x ∈ c.2.1, HoldOk x) (hl : c.2.1.length ≤ 1000) : ∀ (n m i : Nat) (s : List Int) (b : Bool), i + m = c.2.1.length → m < n → s.length ≤ 8 + i → digs B32 s →
    ∃ r, basculeref_CoinFault.l0 k Xt n s b c.2.1 (c.2.1.length : Int) (i : Int) c = Xt r (b && oks c.2.1 m i) c ∧ r.length ≤ 8 + (i + m) ∧ digs B32 r ∧ val B32 r = val B32 s + tot c.2.1 m i
  | 0, m, i, s, b, _, h, _, _ => by omega
  | n + 1, 0, i, s, b, hi, h, hs, hd => by
    refine ⟨s, ?_, by omega, hd, by simp [tot]⟩
    simp only [basculeref_CoinFault.l0, basculeref_CoinFault.l0s]
    rw [if_neg (by rw [decide_eq_true_eq]; omega)]
    simp [oks]
  | n + 1, m + 1, i, s, b, hi, h, hs, hd => by
    have hlt : i < c.2.1.length := by omega
    obtain ⟨w1, w2, w3, w4⟩ := hold_at hc hlt
    obtain ⟨o1, q1, q2, q3, q4⟩ := ref_of w2 w3
    obtain ⟨p, p1, p2, p3, p4⟩ := ref_plus hd q3 (by omega) (by omega)
    obtain ⟨t, t1, t2, t3, t4, t5⟩ := ref_shorn (by omega) p3
    have step : basculeref_CoinFault.l0 k Xt (n + 1) s b c.2.1 (c.2.1.length : Int) (i : Int) c = basculeref_CoinFault.l0 k Xt n t (b && hok c.2.1 i) c.2.1 (c.2.1.length : Int) ((i + 1 : Nat) : Int) c := by
      simp only [basculeref_CoinFault.l0, basculeref_CoinFault.l0s]
      rw [if_pos (by rw [decide_eq_true_eq]; omega), if_pos (by omega), i64_succ (by omega), toNat_nat]
      unfold basculeref_isZero.run basculeref_isZero.top basculeref_before.run basculeref_before.top
      have hz : (if (b == true) = true then some (beqD (.arr 4 (.int .u64)) (c.2.1.getD i H0).2.1 [0, 0, 0, 0]) else some false) = some (b && beqD (.arr 4 (.int .u64)) (c.2.1.getD i H0).2.1 [0, 0, 0, 0]) := by
        cases b <;> rfl
      rw [hz, Option.bind_some]
      by_cases h0 : i = 0
      · subst h0
        have g1 : (((0 : Nat) : Int) == 0) = true := rfl
        simp only [g1]
        have g2 : (decide (0 ≤ IntKind.i64.wrap (((0 : Nat) : Int) - 1) ∧ IntKind.i64.wrap (((0 : Nat) : Int) - 1) < (c.2.1.length : Int)) || !(true == false)) = true := by simp
        rw [g2]
        simp only [cond_true]
        rw [if_neg (by simp), Option.bind_some, q1]
        simp only [Option.bind_some]
        rw [p1]
        simp only [Option.bind_some]
        rw [t1]
        simp only [Option.bind_some]
        congr 1
        unfold hok
        simp only [decide_true, Bool.true_or, Bool.and_true]
        cases b <;> cases beqD (.arr 4 (.int .u64)) (c.2.1.getD 0 H0).2.1 [0, 0, 0, 0] <;> rfl
      · have ew : IntKind.i64.wrap ((i : Int) - 1) = ((i - 1 : Nat) : Int) := by rw [wrap_i64 (by omega) (by omega)]; omega
        have g1 : ((i : Int) == 0) = false := by rw [beq_eq_false_iff_ne]; omega
        simp only [g1, ew, toNat_nat]
        have g2 : (decide (0 ≤ ((i - 1 : Nat) : Int) ∧ ((i - 1 : Nat) : Int) < (c.2.1.length : Int)) || !(false == false)) = true := by
          rw [Bool.or_eq_true]; left; rw [decide_eq_true_eq]; omega
        rw [g2]
        simp only [cond_true, cond_false]
        have hw := who32 hc hlt
        have hw1 := who32 hc (show i - 1 < c.2.1.length by omega)
        rw [if_pos (by rfl), Option.bind_some, q1]
        simp only [Option.bind_some]
        rw [p1]
        simp only [Option.bind_some]
        rw [t1]
        simp only [Option.bind_some]
        rw [hw, hw1]
        congr 1
        unfold hok
        have h0' : decide (i = 0) = false := by rw [decide_eq_false_iff_not]; exact h0
        rw [h0']
        simp only [Bool.false_or]
        cases b <;> cases beqD (.arr 4 (.int .u64)) (c.2.1.getD i H0).2.1 [0, 0, 0, 0] <;> cases ltB (c.2.1.getD (i - 1) H0).1 (c.2.1.getD i H0).1 <;> rfl
    obtain ⟨r, r1, r2, r3, r4⟩ := fault_loop k Xt c hc hl n m (i + 1) t (b && hok c.2.1 i) (by omega) (by omega) (by omega) t3
    refine ⟨r, ?_, by omega, r3, ?_⟩
    · rw [step, r1]
      simp only [oks, Bool.and_assoc]
    · rw [r4, t4, p4, q4]
      simp only [tot]
      omega

/-- what a check of a coin comes to -/
def coinGood (c : CoinD) : Bool := oks c.2.1 c.2.1.length 0 && decide (tot c.2.1 c.2.1.length 0 = val B64 c.1)

theorem coinGood_iff (c : CoinD) : coinGood c = true ↔ oks c.2.1 c.2.1.length 0 = true ∧ tot c.2.1 c.2.1.length 0 = val B64 c.1 := by
  unfold coinGood; rw [Bool.and_eq_true, decide_eq_true_eq]

theorem coin_check (c : CoinD) (hc : CoinOk c) : coin_Check.run c = some (if c.2.1.length > 40 then 1 else if coinGood c = true then 0 else 12) := by
  obtain ⟨c1, c2, c3⟩ := hc
  unfold coin_Check.run coin_Check.top
  by_cases h40 : c.2.1.length > 40
  · rw [if_pos (by rw [decide_eq_true_eq]; omega), if_pos h40]
  · rw [if_neg (by rw [decide_eq_true_eq]; omega), if_neg h40]
    have hz : digs B64 [0, 0, 0, 0] := fun d hd => by
      simp only [List.mem_cons, List.not_mem_nil, or_false] at hd
      simp only [B64]; omega
    have hv0 : val B64 [0, 0, 0, 0] = 0 := rfl
    have hb := val4_bound c1 c2
    have := fun N (hN : c.2.1.length < N) => check_loop N (fun (x2 : Int) => some x2) (fun (c1 : CoinD) (c3 : List Int) => coin_Check.j0 (fun (x2 : Int) => some x2) c1 c3) c c3 (by omega) N c.2.1.length 0 [0, 0, 0, 0] (by omega) hN rfl hz
    obtain ⟨k1, k2⟩ := this fuel (by rw [fuel_big]; omega)
    rw [hv0, Int.zero_add] at k1 k2
    by_cases hok : oks c.2.1 c.2.1.length 0 = true ∧ tot c.2.1 c.2.1.length 0 < M256
    · obtain ⟨r, r1, r2, r3, r4⟩ := k1 hok
      refine Eq.trans r1 ?_
      unfold coin_Check.j0
      have e : beqD (.arr 4 (.int .u64)) r c.1 = decide (tot c.2.1 c.2.1.length 0 = val B64 c.1) := by
        rw [Bool.eq_iff_iff, decide_eq_true_eq]
        constructor
        · intro hh
          rw [← r4, beq_words r2 c1 hh]
        · intro hh
          rw [words_eq r2 c1 r3 c2 (by rw [r4, hh])]
          exact beqD_refl (.arr 4 (.int .u64)) c.1 rfl
      rw [e]
      by_cases ht : tot c.2.1 c.2.1.length 0 = val B64 c.1
      · rw [if_neg (by simp [ht]), if_pos ((coinGood_iff c).2 ⟨hok.1, ht⟩)]
      · rw [if_pos (by simp [ht]), if_neg (fun h => ht ((coinGood_iff c).1 h).2)]
    · refine Eq.trans (k2 hok) ?_
      rw [if_neg]
      intro h
      obtain ⟨a, b⟩ := (coinGood_iff c).1 h
      exact hok ⟨a, by omega⟩

theorem coin_fault (c : CoinD) (hc : CoinOk c) : basculeref_CoinFault.run c = coin_Check.run c := by
  rw [coin_check c hc]
  obtain ⟨c1, c2, c3⟩ := hc
  unfold basculeref_CoinFault.run basculeref_CoinFault.top
  by_cases h40 : c.2.1.length > 40
  · rw [if_pos (by rw [decide_eq_true_eq]; omega), if_pos h40]
  · rw [if_neg (by rw [decide_eq_true_eq]; omega), if_neg h40]
    have := fun N (hN : c.2.1.length < N) => fault_loop N (fun (x3 : List Int) (x4 : Bool) (c1 : CoinD) => basculeref_CoinFault.j0 (fun (x2 : Int) => some x2) x3 x4 c1) c c3 (by omega) N c.2.1.length 0 [] true (by omega) hN (by simp) digs_nil
    obtain ⟨r, r1, r2, r3, r4⟩ := this fuel (by rw [fuel_big]; omega)
    refine Eq.trans r1 ?_
    obtain ⟨o1, q1, q2, q3, q4⟩ := ref_of c1 c2
    unfold basculeref_CoinFault.j0
    have hg := coinGood_iff c
    have hv0 : val B32 [] = 0 := rfl
    rw [hv0, Int.zero_add] at r4
    rw [Bool.true_and]
    generalize coinGood c = g at hg ⊢
    cases hh : oks c.2.1 c.2.1.length 0 with
    | false =>
      rw [hh] at hg
      have : g = false := by
        cases g
        · rfl
        · have := hg.1 rfl; simp at this
      subst this
      rfl
    | true =>
      rw [hh] at hg
      simp only [true_and] at hg
      simp only [Bool.not_true]
      rw [if_pos (show ((false == false) = true) from rfl), q1]
      simp only [Option.bind_some]
      rw [if_pos (show ((false == false) = true) from rfl)]
      rw [ref_compare r3 q3 (by omega) (by omega), r4, q4]
      have no : tot c.2.1 c.2.1.length 0 ≠ val B64 c.1 → g = false := fun h => by
        cases g
        · rfl
        · exact absurd (hg.1 rfl) h
      rcases Int.lt_trichotomy (tot c.2.1 c.2.1.length 0) (val B64 c.1) with h | h | h
      · rw [if_pos h, no (by omega)]; rfl
      · rw [if_neg (by omega), if_neg (by omega), hg.2 h]; rfl
      · rw [if_neg (by omega), if_pos h, no (by omega)]; rfl

abbrev CoinTy : Ty := .pair U256 (.pair (.sl (.pair (.arr 32 (.int .u8)) (.pair U256 .unit))) .unit)

theorem coin_of_fit {K : Ty → Nat → Prop} {c : CoinD} (h : Fit K CoinTy c) : CoinOk c := by
  obtain ⟨h1, ⟨_, _, h2⟩, _⟩ := h
  obtain ⟨l1, d1⟩ := digs_of_fit h1
  refine ⟨l1, d1, fun x hx => ?_⟩
  obtain ⟨⟨g1, g2⟩, g3, _⟩ := h2 x hx
  obtain ⟨l2, d2⟩ := digs_of_fit g3
  exact ⟨g1, l2, d2, fun b hb => by have := g2 b hb; simpa [Fit, inR_u8] using this⟩

end Go.Bx
