/- A part of a framework that reads Go code as functions of plain data; or a law about such functions. -/
import Derived.Test.YtpapikaeaodfgaaLawBytes
import Derived.Test.YtpapikaeaodfgaaLawGuardSame
import Derived.Test.YtpapikaeaodfgaaFnPaperDecodes1
namespace Go.Bx
open Go
set_option linter.unusedSimpArgs false
set_option linter.unusedVariables false
set_option maxRecDepth 100000

/-! papers: faults, pens -/

abbrev SignD : Type := Int × (List Int × List Int × Int × Unit) × Unit
abbrev PaperD : Type := Int × List SignD × BodyD × Unit

def inTo (a m : Int) : Bool := cond (decide (0 ≤ a)) (decide (a ≤ m)) false
theorem inTo_iff {a m : Int} : inTo a m = true ↔ 0 ≤ a ∧ a ≤ m := by simp [inTo, cond_and]

def bodyOk (b : BodyD) : Bool := inTo b.1 1099511627776 && inTo b.2.1 4294967295 && inTo b.2.2.1 65535 && inTo b.2.2.2.2.1 1099511627776 && inTo b.2.2.2.2.2.1 255
def bodyE (b : BodyD) : Int := if bodyOk b = true then (if b.2.2.2.2.2.2.1.length > 300 then 1 else 0) else 6

theorem bodyFault_loop {α : Type} (k n : Nat) (R : Int → Option α) (X : BodyD → Option α) (a b c d e A B C D E : Int) (s : BodyD) :
    basculeref_BodyFault.l0 k R X (n + 6) [[a, A], [b, B], [c, C], [d, D], [e, E]] 5 0 s =
      if (not (inTo a A)) = true then R 6 else if (not (inTo b B)) = true then R 6 else if (not (inTo c C)) = true then R 6 else if (not (inTo d D)) = true then R 6 else if (not (inTo e E)) = true then R 6 else X s := by
  kernel_rfl

theorem len_gt {α : Type} (l : List α) (n : Nat) (m : Int) (h : m = n) : decide ((l.length : Int) > m) = decide (l.length > n) := by
  rw [decide_eq_decide]; omega

theorem body_check (b : BodyD) : paper_Check.run b = some (bodyE b) := by
  have hc : ∀ a m : Int, paper_Check_1.run a m = some (inTo a m) := fun a m => rfl
  unfold paper_Check.run paper_Check.top bodyE bodyOk
  simp only [hc, Option.bind_some, len_gt _ 300 300 rfl]
  generalize inTo b.1 1099511627776 = b1
  generalize inTo b.2.1 4294967295 = b2
  generalize inTo b.2.2.1 65535 = b3
  generalize inTo b.2.2.2.2.1 1099511627776 = b4
  generalize inTo b.2.2.2.2.2.1 255 = b5
  by_cases h6 : b.2.2.2.2.2.2.1.length > 300
  · rw [decide_eq_true h6]; simp only [h6, if_true]
    cases b1 <;> cases b2 <;> cases b3 <;> cases b4 <;> cases b5 <;> rfl
  · rw [decide_eq_false h6]; simp only [h6, if_false]
    cases b1 <;> cases b2 <;> cases b3 <;> cases b4 <;> cases b5 <;> rfl

theorem body_fault (b : BodyD) : basculeref_BodyFault.run b = some (bodyE b) := by
  obtain ⟨n, hn⟩ : ∃ n, fuel = n + 6 := ⟨2 ^ 64 - 6, rfl⟩
  unfold basculeref_BodyFault.run basculeref_BodyFault.top bodyE bodyOk
  rw [hn, bodyFault_loop]
  unfold basculeref_BodyFault.j0
  simp only [len_gt _ 300 300 rfl]
  generalize inTo b.1 1099511627776 = b1
  generalize inTo b.2.1 4294967295 = b2
  generalize inTo b.2.2.1 65535 = b3
  generalize inTo b.2.2.2.2.1 1099511627776 = b4
  generalize inTo b.2.2.2.2.2.1 255 = b5
  by_cases h6 : b.2.2.2.2.2.2.1.length > 300
  · rw [decide_eq_true h6]; simp only [h6, if_true]
    cases b1 <;> cases b2 <;> cases b3 <;> cases b4 <;> cases b5 <;> rfl
  · rw [decide_eq_false h6]; simp only [h6, if_false]
    cases b1 <;> cases b2 <;> cases b3 <;> cases b4 <;> cases b5 <;> rfl

theorem bodyE_ok {b : BodyD} (h : bodyE b = 0) : (0 ≤ b.1 ∧ b.1 ≤ 1099511627776) ∧ (0 ≤ b.2.1 ∧ b.2.1 ≤ 4294967295) ∧ (0 ≤ b.2.2.1 ∧ b.2.2.1 ≤ 65535) ∧ (0 ≤ b.2.2.2.2.1 ∧ b.2.2.2.2.1 ≤ 1099511627776) ∧ (0 ≤ b.2.2.2.2.2.1 ∧ b.2.2.2.2.2.1 ≤ 255) ∧ b.2.2.2.2.2.2.1.length ≤ 300 := by
  unfold bodyE at h
  by_cases hk : bodyOk b = true
  · rw [if_pos hk] at h
    unfold bodyOk at hk
    simp only [Bool.and_eq_true, inTo_iff] at hk
    refine ⟨hk.1.1.1.1, hk.1.1.1.2, hk.1.1.2, hk.1.2, hk.2, ?_⟩
    by_cases h6 : b.2.2.2.2.2.2.1.length > 300
    · rw [if_pos h6] at h; exact absurd h (by decide)
    · omega
  · rw [if_neg hk] at h; exact absurd h (by decide)

def signOk (s : SignD) : Bool := inTo s.1 255 && inTo s.2.1.2.2.1 255
def paperE (x : PaperD) : Int := if inTo x.1 4294967295 = true then (if x.2.1.length > 19 then 1 else if x.2.1.all signOk = true then bodyE x.2.2.1 else 6) else 6

theorem signBad (a b : Int) : cond (cond (cond (decide (a < 0)) true (decide (a > 255))) true (decide (b < 0))) true (decide (b > 255)) = !(inTo a 255 && inTo b 255) := by
  simp only [cond_or, inTo, cond_and]
  rw [Bool.eq_iff_iff]
  simp only [Bool.or_eq_true, decide_eq_true_eq, Bool.not_eq_true', ← Bool.not_eq_true, Bool.and_eq_true]
  omega

theorem pfault_loop {α : Type} (Rt : Int → Option α) (Xt : PaperD → Option α) (K : Nat) (x : PaperD) (l : List SignD) (hl : l.length ≤ 1000) : ∀ (R P : List SignD) (n : Nat), R.length < n → l = P ++ R →
    paper_fault.l0 K Rt Xt n l (l.length : Int) (P.length : Int) x = if R.all signOk = true then Xt x else Rt 6
  | R, P, 0, h, _ => by omega
  | [], P, n + 1, h, hc => by
    simp only [paper_fault.l0, paper_fault.l0s]
    have : l.length = P.length := by rw [hc]; simp
    rw [if_neg (by rw [decide_eq_true_eq]; omega)]
    rfl
  | y :: R, P, n + 1, h, hc => by
    have hlen : l.length = P.length + (R.length + 1) := by rw [hc]; simp
    simp only [paper_fault.l0, paper_fault.l0s]
    have hg : l.getD P.length (0, ([0, 0, 0, 0], [0, 0, 0, 0], 0, ()), ()) = y := by rw [hc]; exact getD_at _ _ _ _
    rw [if_pos (by rw [decide_eq_true_eq]; omega), if_pos (by omega), i64_succ (by omega), toNat_nat, hg, signBad]
    have ih := pfault_loop Rt Xt K x l hl R (P ++ [y]) n (by simpa using h) (by simp [hc])
    rw [List.length_append] at ih
    rw [show (inTo y.1 255 && inTo y.2.1.2.2.1 255) = signOk y from rfl, List.all_cons]
    cases signOk y with
    | false => rfl
    | true =>
      rw [if_neg (by decide), Bool.true_and]
      exact ih

theorem paper_fault_run (x : PaperD) : paper_fault.run x = some (paperE x) := by
  unfold paper_fault.run paper_fault.top paperE
  have h1 : cond (decide (x.1 < 0)) true (decide (x.1 > 4294967295)) = !inTo x.1 4294967295 := by
    simp only [cond_or, inTo, cond_and]
    rw [Bool.eq_iff_iff]
    simp only [Bool.or_eq_true, decide_eq_true_eq, Bool.not_eq_true', ← Bool.not_eq_true, Bool.and_eq_true]
    omega
  rw [h1, len_gt _ 19 19 rfl]
  cases inTo x.1 4294967295 with
  | false => rfl
  | true =>
    rw [if_neg (by decide), if_pos rfl]
    by_cases h : x.2.1.length > 19
    · rw [if_pos (by simpa using h), if_pos h]
    · rw [if_neg (by simpa using h), if_neg h]
      refine (pfault_loop (fun x2 => some x2) (fun c1 => paper_fault.j0 (fun x2 => some x2) c1) fuel x x.2.1 (by omega) x.2.1 [] fuel (by rw [fuel_big]; omega) rfl).trans ?_
      unfold paper_fault.j0
      rw [body_check]
      cases x.2.1.all signOk <;> rfl

theorem pfaultR_loop {α : Type} (Rt : Int → Option α) (Xt : PaperD → Option α) (K : Nat) (x : PaperD) (l : List SignD) (hl : l.length ≤ 1000) : ∀ (R P : List SignD) (n : Nat), R.length < n → l = P ++ R →
    basculeref_PaperFault.l0 K Rt Xt n l (l.length : Int) (P.length : Int) x = if R.all signOk = true then Xt x else Rt 6
  | R, P, 0, h, _ => by omega
  | [], P, n + 1, h, hc => by
    simp only [basculeref_PaperFault.l0, basculeref_PaperFault.l0s]
    have : l.length = P.length := by rw [hc]; simp
    rw [if_neg (by rw [decide_eq_true_eq]; omega)]
    rfl
  | y :: R, P, n + 1, h, hc => by
    have hlen : l.length = P.length + (R.length + 1) := by rw [hc]; simp
    have hc1 : ∀ a m : Int, basculeref_upTo.run a m = some (inTo a m) := fun a m => rfl
    simp only [basculeref_PaperFault.l0, basculeref_PaperFault.l0s]
    have hg : l.getD P.length (0, ([0, 0, 0, 0], [0, 0, 0, 0], 0, ()), ()) = y := by rw [hc]; exact getD_at _ _ _ _
    rw [if_pos (by rw [decide_eq_true_eq]; omega), if_pos (by omega), i64_succ (by omega), toNat_nat, hg]
    have ih := pfaultR_loop Rt Xt K x l hl R (P ++ [y]) n (by simpa using h) (by simp [hc])
    rw [List.length_append] at ih
    rw [List.all_cons, hc1, Option.bind_some, hc1, show signOk y = (inTo y.1 255 && inTo y.2.1.2.2.1 255) from rfl]
    cases inTo y.1 255 with
    | false => rfl
    | true =>
      rw [if_pos (by decide), Option.bind_some, Bool.true_and]
      cases inTo y.2.1.2.2.1 255 with
      | false => rfl
      | true =>
        rw [if_neg (by decide), Bool.true_and]
        exact ih

theorem paper_faultR_run (x : PaperD) : basculeref_PaperFault.run x = some (paperE x) := by
  have hc1 : ∀ a m : Int, basculeref_upTo.run a m = some (inTo a m) := fun a m => rfl
  unfold basculeref_PaperFault.run basculeref_PaperFault.top paperE
  rw [hc1, Option.bind_some, len_gt _ 19 19 rfl]
  cases inTo x.1 4294967295 with
  | false => rfl
  | true =>
    rw [if_neg (by decide), if_pos rfl]
    by_cases h : x.2.1.length > 19
    · rw [if_pos (by simpa using h), if_pos h]
    · rw [if_neg (by simpa using h), if_neg h]
      refine (pfaultR_loop (fun x2 => some x2) (fun c1 => basculeref_PaperFault.j0 (fun x2 => some x2) c1) fuel x x.2.1 (by omega) x.2.1 [] fuel (by rw [fuel_big]; omega) rfl).trans ?_
      unfold basculeref_PaperFault.j0
      rw [body_fault]
      cases x.2.1.all signOk <;> rfl

theorem paperE_ok {x : PaperD} (h : paperE x = 0) : (0 ≤ x.1 ∧ x.1 ≤ 4294967295) ∧ x.2.1.length ≤ 19 ∧ (∀ s ∈ x.2.1, (0 ≤ s.1 ∧ s.1 ≤ 255) ∧ (0 ≤ s.2.1.2.2.1 ∧ s.2.1.2.2.1 ≤ 255)) ∧ bodyE x.2.2.1 = 0 := by
  unfold paperE at h
  by_cases h1 : inTo x.1 4294967295 = true
  · rw [if_pos h1] at h
    by_cases h2 : x.2.1.length > 19
    · rw [if_pos h2] at h; exact absurd h (by decide)
    · rw [if_neg h2] at h
      by_cases h3 : x.2.1.all signOk = true
      · rw [if_pos h3] at h
        refine ⟨inTo_iff.1 h1, by omega, fun s hs => ?_, h⟩
        have := List.all_eq_true.1 h3 s hs
        simpa only [signOk, Bool.and_eq_true, inTo_iff] using this
      · rw [if_neg h3] at h; exact absurd h (by decide)
  · rw [if_neg h1] at h; exact absurd h (by decide)

/-! the pen -/

theorem pen2_loop {α : Type} (Xt : List Int → Option α) (K : Nat) (x : Int) : ∀ (m n : Nat) (c : List Int), m < n → m ≤ 8 → c.length + m ≤ 1000000 →
    paper_pen__number_s2.l0 K Xt n x ((m : Int) - 1) c = Xt (c ++ be x m)
  | m, 0, c, h, _, _ => by omega
  | 0, n + 1, c, h, hm, hb => by
    simp only [paper_pen__number_s2.l0, paper_pen__number_s2.l0s]
    rw [if_neg (by rw [decide_eq_true_eq]; omega)]
    simp [be]
  | m + 1, n + 1, c, h, hm, hb => by
    simp only [paper_pen__number_s2.l0, paper_pen__number_s2.l0s]
    have e1 : ((m + 1 : Nat) : Int) - 1 = (m : Int) := by omega
    rw [e1, if_pos (by rw [decide_eq_true_eq]; omega), wrap_i64 (x := 8 * (m : Int)) (by omega) (by omega), if_pos (by omega), if_pos (fitB_small (by omega) (by omega)), wrap_i64 (x := (m : Int) - 1) (by omega) (by omega)]
    have e2 : IntKind.u8.wrap (shrI .i64 x (8 * (m : Int))) = byt x (8 * m) := by
      have := shr_byt .i64 x (8 * m) (by simp [IntKind.bits]; omega)
      rw [← this]; congr 2
    rw [e2]
    refine (pen2_loop Xt K x m n _ (by omega) (by omega) (by simp; omega)).trans ?_
    simp [be]

theorem pen2_run (x : Int) (m : Nat) (c : List Int) (hm : m ≤ 8) (hb : c.length ≤ 999900) : paper_pen__number_s2.run x (m : Int) c = some (c ++ be x m, ()) := by
  unfold paper_pen__number_s2.run paper_pen__number_s2.top
  rw [wrap_i64 (by omega) (by omega)]
  exact pen2_loop (fun c25 => some (c25, ())) fuel x m fuel c (by rw [fuel_big]; omega) hm (by omega)

theorem pen1_loop {α : Type} (Xt : List Int → Option α) (K : Nat) (x : Int) : ∀ (m n : Nat) (c : List Int), m < n → m ≤ 8 → c.length + m ≤ 1000000 →
    paper_pen__number_s1.l0 K Xt n x ((m : Int) - 1) c = Xt (c ++ be x m)
  | m, 0, c, h, _, _ => by omega
  | 0, n + 1, c, h, hm, hb => by
    simp only [paper_pen__number_s1.l0, paper_pen__number_s1.l0s]
    rw [if_neg (by rw [decide_eq_true_eq]; omega)]
    simp [be]
  | m + 1, n + 1, c, h, hm, hb => by
    simp only [paper_pen__number_s1.l0, paper_pen__number_s1.l0s]
    have e1 : ((m + 1 : Nat) : Int) - 1 = (m : Int) := by omega
    rw [e1, if_pos (by rw [decide_eq_true_eq]; omega), wrap_i64 (x := 8 * (m : Int)) (by omega) (by omega), if_pos (by omega), if_pos (fitB_small (by omega) (by omega)), wrap_i64 (x := (m : Int) - 1) (by omega) (by omega)]
    have e2 : IntKind.u8.wrap (shrI .i64 x (8 * (m : Int))) = byt x (8 * m) := by
      have := shr_byt .i64 x (8 * m) (by simp [IntKind.bits]; omega)
      rw [← this]; congr 2
    rw [e2]
    refine (pen1_loop Xt K x m n _ (by omega) (by omega) (by simp; omega)).trans ?_
    simp [be]

theorem pen1_run (x : Int) (m : Nat) (c : List Int) (hm : m ≤ 8) (hb : c.length ≤ 999900) : paper_pen__number_s1.run x (m : Int) c = some (c ++ be x m, ()) := by
  unfold paper_pen__number_s1.run paper_pen__number_s1.top
  rw [wrap_i64 (by omega) (by omega)]
  exact pen1_loop (fun c25 => some (c25, ())) fuel x m fuel c (by rw [fuel_big]; omega) hm (by omega)

/-- a message as bytes -/
def bodyT (b : BodyD) : List Int := be b.1 8 ++ (be b.2.1 4 ++ (be b.2.2.1 2 ++ (b.2.2.2.1 ++ (be b.2.2.2.2.1 8 ++ (be b.2.2.2.2.2.1 1 ++ b.2.2.2.2.2.2.1)))))

theorem pens (x : Int) (c : List Int) (h : c.length ≤ 999900) : (paper_pen__number_s2.run x 1 c = some (c ++ be x 1, ()) ∧ paper_pen__number_s2.run x 2 c = some (c ++ be x 2, ())) ∧ (paper_pen__number_s2.run x 4 c = some (c ++ be x 4, ()) ∧ paper_pen__number_s2.run x 8 c = some (c ++ be x 8, ())) :=
  ⟨⟨pen2_run x 1 c (by omega) h, pen2_run x 2 c (by omega) h⟩, pen2_run x 4 c (by omega) h, pen2_run x 8 c (by omega) h⟩

theorem pen_bytes0 (w c : List Int) (hw : w.length = 32) (h : c.length ≤ 999900) : paper_pen__bytes_s0.run 0 32 w c = some (w, c ++ w, ()) := by
  unfold paper_pen__bytes_s0.run paper_pen__bytes_s0.top
  rw [cutL_all w 32 (by rw [hw]; rfl), if_pos (fitB_small (by omega) (by omega))]

theorem pen_body (b : BodyD) (c : List Int) (hw : b.2.2.2.1.length = 32) (hl : b.2.2.2.2.2.2.1.length ≤ 300) (h : c.length ≤ 900000) : paper_pen__body_s0.run b c = some (c ++ bodyT b, ()) := by
  unfold paper_pen__body_s0.run paper_pen__body_s0.top
  rw [(pens b.1 c (by omega)).2.2, Option.bind_some]
  simp only []
  rw [(pens b.2.1 _ (by simp [be_len]; omega)).2.1, Option.bind_some]
  simp only []
  rw [(pens b.2.2.1 _ (by simp [be_len]; omega)).1.2, Option.bind_some]
  unfold paper_pen__bytes_s1.run paper_pen__bytes_s1.top
  simp only []
  rw [cutL_all b.2.2.2.1 32 (by rw [hw]; rfl), if_pos (fitB_small (by simp [be_len]; omega) (by omega)), Option.bind_some]
  simp only []
  rw [(pens b.2.2.2.2.1 _ (by simp [be_len]; omega)).2.2, Option.bind_some]
  simp only []
  rw [(pens b.2.2.2.2.2.1 _ (by simp [be_len]; omega)).1.1, Option.bind_some]
  unfold paper_pen__bytes_s2.run paper_pen__bytes_s2.top
  simp only []
  rw [if_pos (fitB_small (by simp [be_len]; omega) (by omega)), Option.bind_some]
  simp only [bodyT, List.append_assoc]

theorem bodyText_run (b : BodyD) (hw : b.2.2.2.1.length = 32) (he : bodyE b = 0) : basculeref_bodyText.run b = some (bodyT b) := by
  obtain ⟨h1, h2, h3, h4, h5, h6⟩ := bodyE_ok he
  unfold basculeref_bodyText.run basculeref_bodyText.top
  have hb : ∀ x : Int, (basculeref_big.run x 1 = some (be x 1) ∧ basculeref_big.run x 2 = some (be x 2)) ∧ (basculeref_big.run x 4 = some (be x 4) ∧ basculeref_big.run x 8 = some (be x 8)) := fun x =>
    ⟨⟨big_run x 1 (by omega), big_run x 2 (by omega)⟩, big_run x 4 (by omega), big_run x 8 (by omega)⟩
  have hs : ∀ n : Nat, n ≤ 100000 → Nat.ble n 9223372036854775807 = true := fun n hn => ble_le (by omega)
  simp only [wu64_id (x := b.1) (by omega) (by omega), wu64_id (x := b.2.1) (by omega) (by omega), wu64_id (x := b.2.2.1) (by omega) (by omega), wu64_id (x := b.2.2.2.2.1) (by omega) (by omega), wu64_id (x := b.2.2.2.2.2.1) (by omega) (by omega),
    (hb _).1.1, (hb _).1.2, (hb _).2.1, (hb _).2.2, Option.bind_some, cutL_all b.2.2.2.1 32 (by rw [hw]; rfl)]
  rw [if_pos (hs _ (by simp [be_len])), if_pos (hs _ (by simp [be_len])), if_pos (hs _ (by simp [be_len]; omega)), if_pos (hs _ (by simp [be_len]; omega)), if_pos (hs _ (by simp [be_len]; omega)), if_pos (hs _ (by simp [be_len]; omega))]
  simp only [bodyT, List.append_assoc]

end Go.Bx
