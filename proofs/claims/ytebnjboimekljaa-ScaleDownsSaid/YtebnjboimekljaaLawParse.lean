/- A part of a framework that reads Go code as functions of plain data; or a law about such functions. -/
import Derived.Test.YtebnjboimekljaaLawWideProducts0
import Derived.Test.YtebnjboimekljaaLawShorn
import Derived.Test.YtebnjboimekljaaFnScaleDowns0
namespace Go.Bx
open Go
set_option linter.unusedSimpArgs false
set_option linter.unusedVariables false

/-- the number that decimal digits tell -/
def dec : Int → List Int → Int
  | v, [] => v
  | v, c :: l => dec (v * 10 + (c - 48)) l

def isDig (c : Int) : Bool := decide (48 ≤ c ∧ c ≤ 57)
def allDig (l : List Int) : Bool := l.all isDig

theorem notDig (c : Int) : cond (decide (c < 48)) true (decide (c > 57)) = !(isDig c) := by
  unfold isDig
  rw [cond_or, Bool.eq_iff_iff]
  simp <;> omega

theorem Z4 : digs B64 [0, 0, 0, 0] ∧ val B64 [0, 0, 0, 0] = 0 := ⟨fun d hd => by
    simp only [List.mem_cons, List.not_mem_nil, or_false] at hd
    simp only [B64]; omega, rfl⟩

theorem small4 {d : Int} (h : 0 ≤ d ∧ d < 18446744073709551616) : digs B64 [d, 0, 0, 0] ∧ val B64 [d, 0, 0, 0] = d := by
  constructor
  · intro x hx
    simp only [List.mem_cons, List.not_mem_nil, or_false] at hx
    simp only [B64]
    rcases hx with rfl | rfl | rfl | rfl <;> omega
  · simp [val]

theorem digs_one {d : Int} (h : 0 ≤ d ∧ d < 4294967296) : digs B32 [d] ∧ val B32 [d] = d :=
  ⟨digs_cons.2 ⟨h, digs_nil⟩, by simp [val]⟩

theorem digit_val {c : Int} (h : isDig c = true) : IntKind.u64.wrap (IntKind.u8.wrap (c - 48)) = c - 48 := by
  unfold isDig at h
  rw [decide_eq_true_eq] at h
  rw [wrap_u8 (by omega) (by omega), wrap_u64 (by omega) (by omega)]

theorem numberOf_loop {α : Type} (k : Nat) (Rt : Int → List Int → Option α) (Xt : List Int → List Int → Option α) (s : List Int) (hs : s.length ≤ 78) (c2 : List Int) : ∀ (n i : Nat) (x : List Int), i ≤ s.length → s.length - i < n → digs B32 x → x.length ≤ 3 * i →
    (allDig (s.drop i) = true → ∃ r, basculeref_NumberOf.l0 k Rt Xt n s x (i : Int) c2 = Xt r c2 ∧ digs B32 r ∧ r.length ≤ 300 ∧ val B32 r = dec (val B32 x) (s.drop i)) ∧
    (allDig (s.drop i) = false → basculeref_NumberOf.l0 k Rt Xt n s x (i : Int) c2 = Rt 3 [0, 0, 0, 0])
  | 0, i, x, _, h, _, _ => by omega
  | n + 1, i, x, hi, h, hd, hx => by
    by_cases hlt : i < s.length
    · have hdrop : s.drop i = s[i] :: s.drop (i + 1) := List.drop_eq_getElem_cons hlt
      have hg : s.getD i 0 = s[i] := getD_eq hlt
      rw [hdrop]
      have hall : allDig (s[i] :: s.drop (i + 1)) = (isDig s[i] && allDig (s.drop (i + 1))) := by unfold allDig; rw [List.all_cons]
      rw [hall]
      have hc1 : (decide (0 ≤ (i : Int) ∧ (i : Int) < (s.length : Int)) || !((decide (s[i] < 48)) == false)) = true := by
        rw [Bool.or_eq_true]; left; rw [decide_eq_true_eq]; omega
      cases hdig : isDig s[i] with
      | false =>
        refine ⟨fun h => by simp at h, fun _ => ?_⟩
        simp only [basculeref_NumberOf.l0, basculeref_NumberOf.l0s]
        rw [if_pos (by rw [decide_eq_true_eq]; omega), if_pos (by omega), toNat_nat, hg, hc1]
        simp only [cond_true]
        rw [if_pos (by rw [notDig, hdig]; rfl)]
      | true =>
        have hd10 := digs_one (d := 10) (by omega)
        obtain ⟨t, t1, t2, t3, t4⟩ := ref_times hd hd10.1 (by omega) (by simp)
        have hdv : 0 ≤ s[i] - 48 ∧ s[i] - 48 < 4294967296 := by unfold isDig at hdig; rw [decide_eq_true_eq] at hdig; omega
        have hdd := digs_one hdv
        obtain ⟨p, p1, p2, p3, p4⟩ := ref_plus t3 hdd.1 (by simp at t2; omega) (by simp)
        obtain ⟨q, q1, q2, q3, q4, q5⟩ := ref_shorn (by simp at t2 p2; omega) p3
        have step : basculeref_NumberOf.l0 k Rt Xt (n + 1) s x (i : Int) c2 = basculeref_NumberOf.l0 k Rt Xt n s q ((i + 1 : Nat) : Int) c2 := by
          simp only [basculeref_NumberOf.l0, basculeref_NumberOf.l0s]
          rw [if_pos (by rw [decide_eq_true_eq]; omega), if_pos (by omega), toNat_nat, hg, hc1]
          simp only [cond_true]
          rw [if_neg (by rw [notDig, hdig]; simp), t1]
          simp only [Option.bind_some]
          rw [if_pos (by omega), digit_val hdig, p1]
          simp only [Option.bind_some]
          rw [q1]
          simp only [Option.bind_some]
          rw [i64_succ (by omega)]
        have hv : val B32 q = val B32 x * 10 + (s[i] - 48) := by rw [q4, p4, t4, hd10.2, hdd.2]
        have ih := numberOf_loop k Rt Xt s hs c2 n (i + 1) q (by omega) (by omega) q3 (by simp at t2 p2; omega)
        rw [step]
        simp only [Bool.true_and, dec]
        rw [hv] at ih
        exact ih
    · have hil : i = s.length := by omega
      have hdrop : s.drop i = [] := List.drop_eq_nil_of_le (by omega)
      rw [hdrop]
      refine ⟨fun _ => ⟨x, ?_, hd, by omega, rfl⟩, fun h => by simp [allDig] at h⟩
      simp only [basculeref_NumberOf.l0, basculeref_NumberOf.l0s]
      rw [if_neg (by rw [decide_eq_true_eq]; omega)]

/-- what a text of digits comes to -/
def parseE (s : List Int) : Int :=
  if s.length > 78 then 1 else if s = [] ∨ (s.length > 1 ∧ s.getD 0 0 = 48) then 3 else if allDig s = true then (if dec 0 s < M256 then 0 else 6) else 3

theorem dec_nonneg : ∀ (l : List Int) (v : Int), 0 ≤ v → allDig l = true → 0 ≤ dec v l
  | [], v, hv, _ => hv
  | c :: l, v, hv, h => by
    simp only [allDig, List.all_cons, Bool.and_eq_true] at h
    have hc := h.1
    unfold isDig at hc
    rw [decide_eq_true_eq] at hc
    exact dec_nonneg l _ (by omega) h.2

theorem number_of (s : List Int) : ∃ w, basculeref_NumberOf.run s = some (w, parseE s, ()) ∧ w.length = 4 ∧ digs B64 w ∧ val B64 w = if parseE s = 0 then dec 0 s else 0 := by
  unfold basculeref_NumberOf.run basculeref_NumberOf.top parseE
  by_cases c1 : s.length > 78
  · rw [if_pos (by rw [decide_eq_true_eq]; omega), if_pos c1]
    exact ⟨_, rfl, rfl, Z4.1, by simp [val]⟩
  · rw [if_neg (by rw [decide_eq_true_eq]; omega), if_neg c1]
    have hb : (decide (0 ≤ (0 : Int) ∧ (0 : Int) < (s.length : Int)) || !((beqD .str s []) == false)) = true := by
      cases s with
      | nil => rfl
      | cons a l => rw [Bool.or_eq_true]; left; rw [decide_eq_true_eq]; simp <;> omega
    rw [hb]
    simp only [cond_true]
    have hcond : (cond (beqD .str s []) true (cond ((s.getD 0 0) == 48) (not (beqD .str s [48])) false)) = decide (s = [] ∨ (s.length > 1 ∧ s.getD 0 0 = 48)) := by
      rw [Bool.eq_iff_iff, decide_eq_true_eq]
      match s with
      | [] => simp [beqD]
      | [a] => by_cases ha : a = 48 <;> simp [beqD, List.getD, ha]
      | a :: b :: l => by_cases ha : a = 48 <;> simp [beqD, List.getD, ha]
    rw [hcond]
    by_cases c2 : s = [] ∨ (s.length > 1 ∧ s.getD 0 0 = 48)
    · rw [if_pos (by simpa using c2), if_pos c2]
      exact ⟨_, rfl, rfl, Z4.1, by simp [val]⟩
    · rw [if_neg (by simpa using c2), if_neg c2]
      have := fun N (hN : s.length < N) => numberOf_loop N (fun (x3 : Int) (c2 : List Int) => some (c2, x3, ())) (fun (x4 : List Int) (c2 : List Int) => basculeref_NumberOf.j0 (fun (x3 : Int) (c2 : List Int) => some (c2, x3, ())) x4 c2) s (by omega) [0, 0, 0, 0] N 0 [] (by omega) (by omega) digs_nil (by simp)
      obtain ⟨k1, k2⟩ := this fuel (by rw [fuel_big]; omega)
      rw [List.drop_zero] at k1 k2
      cases hall : allDig s with
      | false =>
        refine ⟨[0, 0, 0, 0], Eq.trans (k2 hall) ?_, rfl, Z4.1, ?_⟩
        · rw [if_neg (by simp)]
        · rw [if_neg (by simp)]; rfl
      | true =>
        obtain ⟨r, r1, r2, r3, r4⟩ := k1 hall
        have hv0 : val B32 [] = 0 := rfl
        rw [hv0] at r4
        obtain ⟨w, f, w1, w2, w3, w4, w5⟩ := ref_wide r2 (by omega)
        rw [r4] at w4
        have w6 : f = true ↔ M256 ≤ dec 0 s := by rw [← r4]; exact w5
        have hn := dec_nonneg s 0 (by omega) hall
        rw [if_pos rfl]
        by_cases hlt : dec 0 s < M256
        · have hf : ¬ f = true := fun h => by have := w6.1 h; omega
          simp only [if_pos hlt]
          refine ⟨w, Eq.trans r1 ?_, w2, w3, ?_⟩
          · unfold basculeref_NumberOf.j0
            rw [w1]
            simp only [Option.bind_some]
            rw [if_neg hf]
          · rw [if_pos trivial, w4]
            exact Int.emod_eq_of_lt hn hlt
        · have hf : f = true := w6.2 (by omega)
          simp only [if_neg hlt]
          refine ⟨[0, 0, 0, 0], Eq.trans r1 ?_, rfl, Z4.1, rfl⟩
          unfold basculeref_NumberOf.j0
          rw [w1]
          simp only [Option.bind_some]
          rw [if_pos hf]

theorem parse_loop {α : Type} (k : Nat) (Rt : Int → List Int → Option α) (Xt : Bool → List Int → List Int → Option α) (s : List Int) (hs : s.length ≤ 78) (c2 : List Int) : ∀ (n i : Nat) (f : Bool) (x : List Int) (v : Int), i ≤ s.length → s.length - i < n → x.length = 4 → digs B64 x → 0 ≤ v → (f = true ↔ M256 ≤ v) → (v < M256 → val B64 x = v) →
    (allDig (s.drop i) = true → ∃ f' r, wide_Parse.l0 k Rt Xt n f s (s.length : Int) (i : Int) c2 x = Xt f' c2 r ∧ r.length = 4 ∧ digs B64 r ∧ (f' = true ↔ M256 ≤ dec v (s.drop i)) ∧ (dec v (s.drop i) < M256 → val B64 r = dec v (s.drop i))) ∧
    (allDig (s.drop i) = false → wide_Parse.l0 k Rt Xt n f s (s.length : Int) (i : Int) c2 x = Rt 3 [0, 0, 0, 0])
  | 0, i, f, x, v, _, h, _, _, _, _, _ => by omega
  | n + 1, i, f, x, v, hi, h, hx, hd, hv, hf, hxv => by
    by_cases hlt : i < s.length
    · have hdrop : s.drop i = s[i] :: s.drop (i + 1) := List.drop_eq_getElem_cons hlt
      have hg : s.getD i 0 = s[i] := getD_eq hlt
      rw [hdrop]
      have hall : allDig (s[i] :: s.drop (i + 1)) = (isDig s[i] && allDig (s.drop (i + 1))) := by unfold allDig; rw [List.all_cons]
      rw [hall]
      cases hdig : isDig s[i] with
      | false =>
        refine ⟨fun h => by simp at h, fun _ => ?_⟩
        simp only [wide_Parse.l0, wide_Parse.l0s]
        rw [if_pos (by rw [decide_eq_true_eq]; omega), if_pos (by omega), toNat_nat, hg, if_pos (by rw [notDig, hdig]; rfl)]
      | true =>
        have hdv : 0 ≤ s[i] - 48 ∧ s[i] - 48 ≤ 9 := by unfold isDig at hdig; rw [decide_eq_true_eq] at hdig; omega
        have ten := small4 (d := 10) (by omega)
        have dd := small4 (d := s[i] - 48) (by omega)
        obtain ⟨lo, hh, m1, m2, m3, m4, m5, m6⟩ := wide_mul hx (by rfl : [10, 0, 0, 0].length = 4) hd ten.1
        obtain ⟨r, o, a1, a2, a3, a4, a5⟩ := wide_add m2 (by rfl : [s[i] - 48, 0, 0, 0].length = 4) m4 dd.1
        have hz : beqD (.arr 4 (.int .u64)) hh [0, 0, 0, 0] = decide (val B64 hh = 0) := by
          rw [Bool.eq_iff_iff, decide_eq_true_eq]
          constructor
          · intro e
            rw [beq_words m3 rfl e]; rfl
          · intro e
            rw [words_eq m3 rfl m5 Z4.1 (by rw [e]; rfl)]
            rfl
        have step : wide_Parse.l0 k Rt Xt (n + 1) f s (s.length : Int) (i : Int) c2 x = wide_Parse.l0 k Rt Xt n ((f || o) || !(decide (val B64 hh = 0))) s (s.length : Int) ((i + 1 : Nat) : Int) c2 r := by
          simp only [wide_Parse.l0, wide_Parse.l0s]
          rw [if_pos (by rw [decide_eq_true_eq]; omega), if_pos (by omega), toNat_nat, hg, if_neg (by rw [notDig, hdig]; simp), m1]
          simp only [Option.bind_some]
          rw [digit_val hdig, a1]
          simp only [Option.bind_some]
          rw [i64_succ (by omega), hz, cond_or, cond_or]
        have bh := val4_bound m3 m5
        have bl := val4_bound m2 m4
        have br := val4_bound a2 a3
        have bx := val4_bound hx hd
        rw [ten.2] at m6
        rw [dd.2] at a4 a5
        have ih := parse_loop k Rt Xt s hs c2 n (i + 1) ((f || o) || !(decide (val B64 hh = 0))) r (v * 10 + (s[i] - 48)) (by omega) (by omega) a2 a3 (by omega) (by
          simp only [Bool.or_eq_true, Bool.not_eq_true', decide_eq_false_iff_not]
          simp only [M256] at *
          constructor
          · rintro ((h | h) | h)
            · have := hf.1 h; omega
            · by_cases hvM : v < 115792089237316195423570985008687907853269984665640564039457584007913129639936
              · have := hxv hvM; have := a5.1 h; omega
              · omega
            · by_cases hvM : v < 115792089237316195423570985008687907853269984665640564039457584007913129639936
              · have := hxv hvM; omega
              · omega
          · intro h
            by_cases hvM : v < 115792089237316195423570985008687907853269984665640564039457584007913129639936
            · have e := hxv hvM
              by_cases hh0 : val B64 hh = 0
              · left; right
                apply a5.2
                omega
              · right; exact hh0
            · left; left; exact hf.2 (by omega)) (by
          intro h
          simp only [M256] at *
          have e := hxv (by omega)
          have hh0 : val B64 hh = 0 := by omega
          rw [a4]
          rw [Int.emod_eq_of_lt (by omega) (by omega)]
          omega)
        rw [step]
        simp only [Bool.true_and, dec]
        exact ih
    · have hdrop : s.drop i = [] := List.drop_eq_nil_of_le (by omega)
      rw [hdrop]
      refine ⟨fun _ => ⟨f, x, ?_, hx, hd, hf, hxv⟩, fun h => by simp [allDig] at h⟩
      simp only [wide_Parse.l0, wide_Parse.l0s]
      rw [if_neg (by rw [decide_eq_true_eq]; omega)]

theorem wide_parse (s : List Int) : ∃ w, wide_Parse.run s = some (w, parseE s, ()) ∧ w.length = 4 ∧ digs B64 w ∧ val B64 w = if parseE s = 0 then dec 0 s else 0 := by
  unfold wide_Parse.run wide_Parse.top parseE
  by_cases c1 : s.length > 78
  · rw [if_pos (by rw [decide_eq_true_eq]; omega), if_pos c1]
    exact ⟨_, rfl, rfl, Z4.1, by simp [val]⟩
  · rw [if_neg (by rw [decide_eq_true_eq]; omega), if_neg c1]
    have hb : (decide (0 ≤ (0 : Int) ∧ (0 : Int) < (s.length : Int)) || !((decide ((s.length : Int) > 1)) == true)) = true := by
      cases s with
      | nil => rfl
      | cons a l => rw [Bool.or_eq_true]; left; rw [decide_eq_true_eq]; simp <;> omega
    rw [hb]
    simp only [cond_true]
    have hcond : (cond (beqD .str s []) true (cond (decide ((s.length : Int) > 1)) ((s.getD 0 0) == 48) false)) = decide (s = [] ∨ (s.length > 1 ∧ s.getD 0 0 = 48)) := by
      rw [Bool.eq_iff_iff, decide_eq_true_eq]
      match s with
      | [] => simp [beqD]
      | [a] => simp [beqD]
      | a :: b :: l =>
        have : decide (((a :: b :: l).length : Int) > 1) = true := by rw [decide_eq_true_eq]; simp; omega
        rw [this]
        simp [beqD, List.getD]
    rw [hcond]
    by_cases c2 : s = [] ∨ (s.length > 1 ∧ s.getD 0 0 = 48)
    · rw [if_pos (by simpa using c2), if_pos c2]
      exact ⟨_, rfl, rfl, Z4.1, by simp [val]⟩
    · rw [if_neg (by simpa using c2), if_neg c2]
      have := fun N (hN : s.length < N) => parse_loop N (fun (x3 : Int) (c2 : List Int) => some (c2, x3, ())) (fun (x5 : Bool) (c2 : List Int) (c4 : List Int) => wide_Parse.j0 (fun (x3 : Int) (c2 : List Int) => some (c2, x3, ())) x5 c2 c4) s (by omega) [0, 0, 0, 0] N 0 false [0, 0, 0, 0] 0 (by omega) (by omega) rfl Z4.1 (by omega) (by simp [M256]) (fun _ => rfl)
      obtain ⟨k1, k2⟩ := this fuel (by rw [fuel_big]; omega)
      rw [List.drop_zero] at k1 k2
      cases hall : allDig s with
      | false =>
        refine ⟨[0, 0, 0, 0], Eq.trans (k2 hall) ?_, rfl, Z4.1, ?_⟩
        · rw [if_neg (by simp)]
        · rw [if_neg (by simp)]; rfl
      | true =>
        obtain ⟨f, r, r1, r2, r3, r4, r5⟩ := k1 hall
        rw [if_pos rfl]
        by_cases hlt : dec 0 s < M256
        · have hf : ¬ f = true := fun h => by have := r4.1 h; omega
          simp only [if_pos hlt]
          refine ⟨r, Eq.trans r1 ?_, r2, r3, ?_⟩
          · unfold wide_Parse.j0
            rw [if_neg hf]
          · rw [if_pos trivial]; exact r5 hlt
        · have hf : f = true := r4.2 (by omega)
          simp only [if_neg hlt]
          refine ⟨[0, 0, 0, 0], Eq.trans r1 ?_, rfl, Z4.1, rfl⟩
          unfold wide_Parse.j0
          rw [if_pos hf]

end Go.Bx
