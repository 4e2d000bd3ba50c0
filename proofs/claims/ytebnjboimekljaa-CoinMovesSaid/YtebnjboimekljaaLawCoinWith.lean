/- A part of a framework that reads Go code as functions of plain data; or a law about such functions. -/
import Derived.Test.YtebnjboimekljaaLawCoinGood
import Derived.Test.YtebnjboimekljaaLawBeq
import Derived.Test.YtebnjboimekljaaFnCoinMoves0
namespace Go.Bx
open Go
set_option linter.unusedSimpArgs false
set_option linter.unusedVariables false

/-- holdings in their order -/
def Srt : List Hold → Prop
  | [] => True
  | h :: R => (∀ x ∈ R, ltB h.1 x.1 = true) ∧ Srt R

theorem srt_of_oks (l : List Hold) : ∀ (R P : List Hold) (i : Nat), l = P ++ R → i = P.length → oks l R.length i = true → Srt R
  | [], _, _, _, _, _ => trivial
  | [_], _, _, _, _, _ => ⟨by simp, trivial⟩
  | h :: g :: R, P, i, hl, hi, ho => by
    simp only [List.length_cons, oks, Bool.and_eq_true] at ho
    have ih := srt_of_oks l (g :: R) (P ++ [h]) (i + 1) (by simp [hl]) (by simp [hi]) (by
      simp only [List.length_cons, oks, Bool.and_eq_true]; exact ho.2)
    have hg : hok l (i + 1) = true := ho.2.1
    unfold hok at hg
    rw [Bool.and_eq_true, Bool.or_eq_true, decide_eq_true_eq] at hg
    have h0 : ltB h.1 g.1 = true := by
      rcases hg.2 with h0 | h0
      · omega
      · have e1 : l.getD (i + 1 - 1) H0 = h := by
          rw [hl, hi, Nat.add_sub_cancel]; exact getD_front P h (g :: R) H0
        have e2 : l.getD (i + 1) H0 = g := by
          have : l = (P ++ [h]) ++ g :: R := by simp [hl]
          rw [this, hi, show P.length + 1 = (P ++ [h]).length by simp]
          exact getD_front _ _ _ _
        rw [e1, e2] at h0; exact h0
    refine ⟨fun x hx => ?_, ih⟩
    rcases List.mem_cons.1 hx with rfl | hx
    · exact h0
    · exact ltB_trans _ _ _ h0 (ih.1 x hx)

theorem srt_good {c : CoinD} (h : coinGood c = true) : Srt c.2.1 :=
  srt_of_oks c.2.1 c.2.1 [] 0 rfl rfl ((coinGood_iff c).1 h).1

/-- where somebody stands, or would -/
def findR (w : List Int) : List Hold → Nat → Nat × Bool
  | [], i => (i, false)
  | h :: R, i => if ltB h.1 w = true then findR w R (i + 1) else (i, decide (h.1 = w))

theorem findR_lt {w : List Int} {h : Hold} {R : List Hold} {i : Nat} (hb : ltB h.1 w = true) : findR w (h :: R) i = findR w R (i + 1) := by
  simp only [findR]; rw [if_pos hb]
theorem findR_ge {w : List Int} {h : Hold} {R : List Hold} {i : Nat} (hb : ltB h.1 w = false) : findR w (h :: R) i = (i, decide (h.1 = w)) := by
  simp only [findR]; rw [if_neg (by rw [hb]; simp)]

theorem cmp0 (x y : List Int) (h : x.length = y.length) : (cmpL x y == 0) = decide (x = y) := by
  induction x generalizing y with
  | nil => cases y with
    | nil => rfl
    | cons => simp at h
  | cons a x ih => cases y with
    | nil => simp at h
    | cons b y =>
      simp only [cmpL, List.cons.injEq]
      rcases Int.lt_trichotomy a b with q | q | q
      · rw [if_pos q]
        have : ¬ (a = b ∧ x = y) := by omega
        simp [this]
      · subst q
        rw [if_neg (by omega), if_neg (by omega), ih y (by simpa using h)]
        simp
      · rw [if_neg (by omega), if_pos q]
        have : ¬ (a = b ∧ x = y) := by omega
        simp [this]

theorem find_loop {α : Type} (k : Nat) (Rt : Int → Bool → Option α) (Xt : CoinD → Option α) (c : CoinD) (w : List Int) (hw : w.length = 32) : ∀ (R P : List Hold) (n : Nat), R.length < n → c.2.1.length < 1000 → c.2.1 = P ++ R → (∀ x ∈ R, x.1.length = 32) →
    coin_find.l0 k Rt Xt n c.2.1 (c.2.1.length : Int) (P.length : Int) c w = if (findR w R P.length).1 = c.2.1.length then Xt c else Rt ((findR w R P.length).1 : Int) (findR w R P.length).2
  | R, P, 0, h, _, _, _ => by omega
  | [], P, n + 1, h, hl, hc, _ => by
    have : c.2.1.length = P.length := by rw [hc]; simp
    have e : (findR w [] P.length).1 = c.2.1.length := by simp only [findR]; omega
    rw [if_pos e]
    simp only [coin_find.l0, coin_find.l0s]
    rw [if_neg (by rw [decide_eq_true_eq]; omega)]
  | h :: R, P, n + 1, hn, hl, hc, hx => by
    have hlen : c.2.1.length = P.length + (R.length + 1) := by rw [hc]; simp
    simp only [coin_find.l0, coin_find.l0s]
    rw [if_pos (by rw [decide_eq_true_eq]; omega), if_pos (by omega), i64_succ (by omega), toNat_nat]
    have hg : c.2.1.getD P.length H0 = h := by rw [hc]; exact getD_front _ _ _ _
    unfold bytes_Compare.run bytes_Compare.top x_compare.run
    simp only [Option.bind_some]
    rw [hg]
    have h32 := hx h (by simp)
    rw [cut32 h32, cut32 hw, cmpL_ltB _ _ (by omega), cmp0 _ _ (by omega)]
    have ih := find_loop k Rt Xt c w hw R (P ++ [h]) n (by simpa using hn) hl (by simp [hc]) (fun x hxm => hx x (List.mem_cons_of_mem _ hxm))
    rw [List.length_append] at ih
    cases hb : ltB h.1 w with
    | true => rw [findR_lt hb]; simp only [Bool.not_true]; rw [if_neg (by simp)]; exact ih
    | false =>
      rw [findR_ge hb]
      simp only [Bool.not_false]
      rw [if_pos trivial, if_neg (show ¬ (P.length = c.2.1.length) by omega)]

theorem findR_le (w : List Int) : ∀ (R : List Hold) (i : Nat), i ≤ (findR w R i).1 ∧ (findR w R i).1 ≤ i + R.length ∧ ((findR w R i).2 = true → (findR w R i).1 < i + R.length) ∧ ((findR w R i).1 = i + R.length → (findR w R i).2 = false)
  | [], i => by simp [findR]
  | h :: R, i => by
    have := findR_le w R (i + 1)
    simp only [List.length_cons]
    cases hb : ltB h.1 w with
    | true =>
      rw [findR_lt hb]
      refine ⟨by omega, by omega, fun h => by have := this.2.2.1 h; omega, fun h => this.2.2.2 (by omega)⟩
    | false =>
      rw [findR_ge hb]
      refine ⟨by simp, by simp, fun h => by simp, fun h => by simp at h⟩

theorem coin_find_run (c : CoinD) (hc : CoinOk c) (hl : c.2.1.length ≤ 40) {w : List Int} (hw : w.length = 32) :
    coin_find.run c w = some (((findR w c.2.1 0).1 : Int), (findR w c.2.1 0).2, ()) := by
  unfold coin_find.run coin_find.top
  have := fun N (hN : c.2.1.length < N) => find_loop N (fun (x4 : Int) (x5 : Bool) => some (x4, x5, ())) (fun (c2 : CoinD) => coin_find.j0 (fun (x4 : Int) (x5 : Bool) => some (x4, x5, ())) c2) c w hw c.2.1 [] N hN (by omega) rfl (fun x hx => (hc.2.2 x hx).1)
  refine Eq.trans (this fuel (by rw [fuel_big]; omega)) ?_
  unfold coin_find.j0
  simp only [List.length_nil]
  split
  · rename_i e
    have := (findR_le w c.2.1 0).2.2.2 (by omega)
    rw [this, e]
  · rfl

/-- what somebody holds -/
def heldR (w : List Int) : List Hold → List Int
  | [] => [0, 0, 0, 0]
  | h :: R => if h.1 = w then h.2.1 else heldR w R

theorem held_loop {α : Type} (k : Nat) (Rt : List Int → Option α) (Xt : List Int → Option α) (l : List Hold) (w : List Int) : ∀ (R P : List Hold) (n : Nat), R.length < n → l.length < 1000 → l = P ++ R → Xt [0, 0, 0, 0] = Rt [0, 0, 0, 0] →
    basculeref_held.l0 k Rt Xt n l (l.length : Int) (P.length : Int) w [0, 0, 0, 0] = Rt (heldR w R)
  | R, P, 0, h, _, _, _ => by omega
  | [], P, n + 1, h, hl, hc, hX => by
    simp only [basculeref_held.l0, basculeref_held.l0s, heldR]
    have : l.length = P.length := by rw [hc]; simp
    rw [if_neg (by rw [decide_eq_true_eq]; omega), hX]
  | h :: R, P, n + 1, hn, hl, hc, hX => by
    have hlen : l.length = P.length + (R.length + 1) := by rw [hc]; simp
    simp only [basculeref_held.l0, basculeref_held.l0s, heldR]
    rw [if_pos (by rw [decide_eq_true_eq]; omega), if_pos (by omega), i64_succ (by omega), toNat_nat]
    have hg : l.getD P.length H0 = h := by rw [hc]; exact getD_front _ _ _ _
    rw [hg, beqD_dec _ _ _ rfl]
    have ih := held_loop k Rt Xt l w R (P ++ [h]) n (by simpa using hn) hl (by simp [hc]) hX
    rw [List.length_append] at ih
    by_cases e : h.1 = w
    · rw [if_pos (by simpa using e), if_pos e]
    · rw [if_neg (by simpa using e), if_neg e]; exact ih

theorem held_run (c : CoinD) (hl : c.2.1.length ≤ 40) (w : List Int) : basculeref_held.run c w = some (heldR w c.2.1) := by
  unfold basculeref_held.run basculeref_held.top
  have := fun N (hN : c.2.1.length < N) => held_loop N (fun (c4 : List Int) => some c4) (fun (c4 : List Int) => basculeref_held.j0 (fun (c4 : List Int) => some c4) c4) c.2.1 w c.2.1 [] N hN (by omega) rfl rfl
  exact this fuel (by rw [fuel_big]; omega)

/-- of two ways to say what somebody holds -/
theorem held_big (w : List Int) : ∀ (R : List Hold), (∀ x ∈ R, ltB w x.1 = true) → heldR w R = [0, 0, 0, 0]
  | [], _ => rfl
  | h :: R, hx => by
    have h1 := hx h (by simp)
    simp only [heldR]
    rw [if_neg (fun e => by rw [e, ltB_irr] at h1; simp at h1)]
    exact held_big w R fun x hm => hx x (List.mem_cons_of_mem _ hm)

theorem later (w : List Int) {h : Hold} {R : List Hold} (hs : Srt (h :: R)) (hb : ltB h.1 w = false) (h32 : h.1.length = w.length) : ∀ x ∈ R, ltB w x.1 = true := by
  intro x hx
  have h1 := hs.1 x hx
  cases hw : ltB w h.1 with
  | true => exact ltB_trans _ _ _ hw h1
  | false => rw [← ltB_or _ _ h32 hb hw]; exact h1

theorem find_held (l : List Hold) (w : List Int) : ∀ (R P : List Hold), l = P ++ R → Srt R → (∀ x ∈ R, x.1.length = w.length) →
    (if (findR w R P.length).2 = true then (l.getD (findR w R P.length).1 H0).2.1 else [0, 0, 0, 0]) = heldR w R
  | [], P, _, _, _ => by simp [findR, heldR]
  | h :: R, P, hl, hs, hx => by
    simp only [heldR]
    cases hb : ltB h.1 w with
    | true =>
      rw [findR_lt hb]
      have ih := find_held l w R (P ++ [h]) (by simp [hl]) hs.2 (fun x hm => hx x (List.mem_cons_of_mem _ hm))
      rw [List.length_append] at ih
      rw [if_neg (show ¬ (h.1 = w) from fun e => by rw [e, ltB_irr] at hb; simp at hb)]
      exact ih
    | false =>
      rw [findR_ge hb]
      by_cases e : h.1 = w
      · rw [if_pos (by simpa using e), if_pos e, hl, getD_front]
      · rw [if_neg (by simpa using e), if_neg e, held_big w R (later w hs hb (hx h (by simp)))]

theorem coin_of_run (c : CoinD) (hc : CoinOk c) (hl : c.2.1.length ≤ 40) (hs : Srt c.2.1) {w : List Int} (hw : w.length = 32) : coin_of.run c w = some (heldR w c.2.1) := by
  unfold coin_of.run coin_of.top
  rw [coin_find_run c hc hl hw]
  simp only [Option.bind_some]
  have := find_held c.2.1 w c.2.1 [] rfl hs (fun x hx => by rw [(hc.2.2 x hx).1, hw])
  simp only [List.length_nil] at this
  rw [← this]
  have h2 := (findR_le w c.2.1 0).2.2.1
  split
  · rename_i e
    have := h2 e
    rw [if_pos (by omega), toNat_nat]
  · rfl

theorem heldR_ok (w : List Int) : ∀ (R : List Hold), (∀ x ∈ R, HoldOk x) → (heldR w R).length = 4 ∧ digs B64 (heldR w R)
  | [], _ => ⟨rfl, fun d hd => by
      simp only [heldR, List.mem_cons, List.not_mem_nil, or_false] at hd
      simp only [B64]; omega⟩
  | h :: R, hx => by
    simp only [heldR]
    split
    · exact ⟨(hx h (by simp)).2.1, (hx h (by simp)).2.2.1⟩
    · exact heldR_ok w R fun x hm => hx x (List.mem_cons_of_mem _ hm)

/-! setting what somebody holds -/

def ins (w n : List Int) : List Hold := if n = [0, 0, 0, 0] then [] else [(w, n, ())]

/-- in order, with another amount -/
def withR (w n : List Int) : List Hold → List Hold
  | [] => ins w n
  | h :: R => if ltB h.1 w = true then h :: withR w n R else if h.1 = w then ins w n ++ R else ins w n ++ h :: R

theorem with_find (l : List Hold) (w n : List Int) : ∀ (R P : List Hold), l = P ++ R →
    cutL l 0 ((findR w R P.length).1 : Int) ++ ins w n ++ cutL l (((findR w R P.length).1 + if (findR w R P.length).2 = true then 1 else 0 : Nat) : Int) (l.length : Int) = P ++ withR w n R
  | [], P, hl => by
    have : l = P := by simpa using hl
    subst this
    simp [findR, withR, cutL]
  | h :: R, P, hl => by
    simp only [withR]
    cases hb : ltB h.1 w with
    | true =>
      rw [findR_lt hb, if_pos rfl]
      have ih := with_find l w n R (P ++ [h]) (by simp [hl])
      rw [List.length_append] at ih
      refine Eq.trans ih ?_
      simp
    | false =>
      rw [findR_ge hb, if_neg (show ¬ (false = true) by simp)]
      subst hl
      by_cases e : h.1 = w
      · rw [if_pos (by simpa using e), if_pos e]
        simp [cutL, List.drop_append, List.take_append]
        rw [List.drop_eq_nil_of_le (by omega), List.take_nil, List.nil_append]
        apply List.take_of_length_le; omega
      · rw [if_neg (by simpa using e), if_neg e]
        simp [cutL, List.drop_append, List.take_append]
        apply List.take_of_length_le; simp; omega

theorem coin_with_run (c : CoinD) (hc : CoinOk c) (hl : c.2.1.length ≤ 40) {w n : List Int} (hw : w.length = 32) : coin_with.run c w n = some (c.1, withR w n c.2.1, ()) := by
  unfold coin_with.run coin_with.top
  rw [coin_find_run c hc hl hw]
  simp only [Option.bind_some]
  obtain ⟨f0, f1, f2, f3⟩ := findR_le w c.2.1 0
  have hw := with_find c.2.1 w n c.2.1 [] rfl
  simp only [List.length_nil, List.nil_append] at hw
  generalize findR w c.2.1 0 = f at *
  obtain ⟨i, b⟩ := f
  simp only at *
  have hcut : ∀ (a b : Int), (cutL c.2.1 a b).length ≤ 40 := fun a b => by
    unfold cutL
    rw [List.length_take, List.length_drop]; omega
  have hc0 := hcut 0 (i : Int)
  have fits : ∀ m, m ≤ 4194304 → fitB m 64 = true := fun m hm => fitB_small hm (by omega)
  rw [if_pos (by omega), if_pos (fits _ (by omega)), beqD_dec (.arr 4 (.int .u64)) n [0, 0, 0, 0] rfl]
  have j1r : ∀ (j : Nat) (q : List Hold), j ≤ c.2.1.length → q.length ≤ 41 → coin_with.j1 (fun (c6p0 : List Int) (c21 : List Hold) => some (c6p0, c21, ())) (j : Int) c [0, 0, 0, 0] q = some (c.1, q ++ cutL c.2.1 (j : Int) (c.2.1.length : Int), ()) := fun j q hj hq => by
    unfold coin_with.j1
    have := hcut (j : Int) (c.2.1.length : Int)
    rw [if_pos (by omega), if_pos (fits _ (by omega))]
  have j0r : ∀ (q : List Hold), q.length ≤ 41 → coin_with.j0 (fun (c6p0 : List Int) (c21 : List Hold) => some (c6p0, c21, ())) (i : Int) b c [0, 0, 0, 0] q = some (c.1, q ++ cutL c.2.1 ((i + if b = true then 1 else 0 : Nat) : Int) (c.2.1.length : Int), ()) := fun q hq => by
    unfold coin_with.j0
    cases b with
    | true =>
      have := f2 rfl
      rw [if_pos rfl, i64_succ (by omega), j1r _ _ (by omega) hq]
      simp
    | false =>
      rw [if_neg (by simp), j1r _ _ (by omega) hq]
      simp
  by_cases hn : n = [0, 0, 0, 0]
  · rw [if_neg (by simp [hn]), j0r _ (by omega), ← hw]
    simp [ins, hn]
  · rw [if_pos (by simp [hn]), if_pos (fits _ (by omega)), j0r _ (by simp; omega), ← hw]
    simp [ins, hn]

/-- the document's way -/
def setR (w n : List Int) : Bool → List Hold → List Hold
  | b, [] => if b = true then [] else [(w, n, ())]
  | b, h :: R => (if (!b && !(ltB h.1 w)) = true then [(w, n, ())] else []) ++ (if h.1 = w then [] else [h]) ++ setR w n (b || !(ltB h.1 w)) R

theorem setR_big (w n : List Int) : ∀ (R : List Hold), (∀ x ∈ R, ltB w x.1 = true) → setR w n true R = R
  | [], _ => rfl
  | h :: R, hx => by
    have h1 := hx h (by simp)
    simp only [setR]
    rw [if_neg (by simp), if_neg (fun e => by rw [e, ltB_irr] at h1; simp at h1), Bool.true_or, setR_big w n R fun x hm => hx x (List.mem_cons_of_mem _ hm)]
    rfl

theorem setR_withR (w n : List Int) : ∀ (R : List Hold), Srt R → (∀ x ∈ R, x.1.length = w.length) → setR w n (decide (n = [0, 0, 0, 0])) R = withR w n R
  | [], _, _ => by
    simp only [setR, withR, ins, decide_eq_true_eq]
  | h :: R, hs, hx => by
    simp only [setR, withR]
    have ih := setR_withR w n R hs.2 (fun x hm => hx x (List.mem_cons_of_mem _ hm))
    cases hb : ltB h.1 w with
    | true =>
      rw [if_neg (by simp), if_neg (fun e => by rw [e, ltB_irr] at hb; simp at hb), if_pos rfl]
      simp only [Bool.not_true, Bool.or_false, ih]; rfl
    | false =>
      have hbig := setR_big w n R (later w hs hb (hx h (by simp)))
      simp only [Bool.not_false, Bool.or_true, hbig, Bool.and_true]
      rw [if_neg (show ¬ (false = true) by simp)]
      unfold ins
      by_cases hn : n = [0, 0, 0, 0]
      · rw [if_neg (by simp [hn]), if_pos hn]
        by_cases e : h.1 = w
        · rw [if_pos e, if_pos e]; rfl
        · rw [if_neg e, if_neg e]; rfl
      · rw [if_pos (by simp [hn]), if_neg hn]
        by_cases e : h.1 = w
        · rw [if_pos e, if_pos e]; rfl
        · rw [if_neg e, if_neg e]; rfl

/-- the document's loop -/
def setL (w n : List Int) : Bool → List Hold → List Hold × Bool
  | b, [] => ([], b)
  | b, h :: R => ((if (!b && !(ltB h.1 w)) = true then [(w, n, ())] else []) ++ (if h.1 = w then [] else [h]) ++ (setL w n (b || !(ltB h.1 w)) R).1, (setL w n (b || !(ltB h.1 w)) R).2)

theorem setL_setR (w n : List Int) : ∀ (b : Bool) (R : List Hold), (setL w n b R).1 ++ (if (setL w n b R).2 = true then [] else [(w, n, ())]) = setR w n b R
  | b, [] => by simp only [setL, setR, List.nil_append]; rfl
  | b, h :: R => by
    have ih := setL_setR w n (b || !(ltB h.1 w)) R
    simp only [setL, setR]
    rw [← ih]
    simp only [List.append_assoc]
    rfl

theorem set_loop {α : Type} (k : Nat) (Xt : Bool → CoinD → List Int → List Int → List Int → List Hold → Option α) (c : CoinD) (w n z : List Int) (hw : w.length = 32) (l : List Hold) (hl : l.length ≤ 1000) : ∀ (R P : List Hold) (m : Nat) (b : Bool) (q : List Hold), R.length < m → l = P ++ R → q.length ≤ 2 * P.length → (∀ x ∈ R, x.1.length = 32) →
    basculeref_set.l0 k Xt m b l (l.length : Int) (P.length : Int) c w n z q = Xt (setL w n b R).2 c w n z (q ++ (setL w n b R).1)
  | R, P, 0, _, _, h, _, _, _ => by omega
  | [], P, m + 1, b, q, h, hc, hq, hx => by
    simp only [basculeref_set.l0, basculeref_set.l0s, setL]
    have : l.length = P.length := by rw [hc]; simp
    rw [if_neg (by rw [decide_eq_true_eq]; omega)]
    simp
  | h :: R, P, m + 1, b, q, hm, hc, hq, hx => by
    have hlen : l.length = P.length + (R.length + 1) := by rw [hc]; simp
    simp only [basculeref_set.l0, basculeref_set.l0s]
    rw [if_pos (by rw [decide_eq_true_eq]; omega), if_pos (by omega), toNat_nat]
    have hg : l.getD P.length H0 = h := by rw [hc]; exact getD_front _ _ _ _
    rw [hg]
    unfold basculeref_before.run basculeref_before.top
    rw [cut32 (hx h (by simp)), cut32 hw]
    have ih := fun b' q' hq' => set_loop k Xt c w n z hw l hl R (P ++ [h]) m b' q' (by simpa using hm) (by simp [hc]) hq' (fun x hxm => hx x (List.mem_cons_of_mem _ hxm))
    simp only [List.length_append, List.length_cons, List.length_nil] at ih
    have fits : ∀ m, m ≤ 4194304 → fitB m 64 = true := fun m hm => fitB_small hm (by omega)
    have j0r : ∀ (b' : Bool) (q' : List Hold), q'.length ≤ 2 * P.length + 1 → basculeref_set.j0 (basculeref_set.l0 k Xt m) b' l (l.length : Int) (P.length : Int) c w n z h q' = basculeref_set.l0 k Xt m b' l (l.length : Int) ((P.length + 1 : Nat) : Int) c w n z (q' ++ if h.1 = w then [] else [h]) := fun b' q' hq' => by
      unfold basculeref_set.j0 basculeref_set.j1
      rw [beqD_dec _ _ _ rfl, i64_succ (by omega)]
      by_cases e : h.1 = w
      · rw [if_neg (by simp [e]), if_pos e]; simp
      · rw [if_pos (by simp [e]), if_neg e, if_pos (fits _ (by omega))]
    have hq2 : ∀ (q' : List Hold), q'.length ≤ 2 * P.length + 1 → (q' ++ if h.1 = w then ([] : List Hold) else [h]).length ≤ 2 * (P.length + (0 + 1)) := fun q' h' => by
      rw [List.length_append]; split <;> simp <;> omega
    simp only [setL]
    cases b with
    | true =>
      simp only [Bool.not_true, Bool.false_and, Bool.true_or]
      rw [if_neg (by simp), Option.bind_some]
      simp only [cond_false]
      rw [if_neg (by simp), j0r _ _ (by omega)]
      refine Eq.trans (ih _ _ (hq2 _ (by omega))) ?_
      simp
    | false =>
      simp only [Bool.not_false, Bool.true_and, Bool.false_or]
      rw [if_pos (show (true == true) = true from rfl), Option.bind_some]
      simp only [cond_true]
      cases hbw : ltB h.1 w with
      | true =>
        simp only [Bool.not_true]
        rw [if_neg (by simp), j0r _ _ (by omega)]
        refine Eq.trans (ih _ _ (hq2 _ (by omega))) ?_
        simp
      | false =>
        simp only [Bool.not_false]
        rw [if_pos trivial, if_pos (fits _ (by omega)), j0r _ _ (by simp; omega)]
        refine Eq.trans (ih _ _ (hq2 _ (by simp; omega))) ?_
        simp

theorem set_run (c : CoinD) (hc : CoinOk c) (hl : c.2.1.length ≤ 40) (hs : Srt c.2.1) {w n : List Int} (hw : w.length = 32) : basculeref_set.run c w n = some (c.1, withR w n c.2.1, ()) := by
  unfold basculeref_set.run basculeref_set.top basculeref_isZero.run basculeref_isZero.top
  simp only [Option.bind_some]
  rw [beqD_dec (.arr 4 (.int .u64)) n [0, 0, 0, 0] rfl]
  have := fun N (hN : c.2.1.length < N) => set_loop N (fun (x8 : Bool) (c3 : CoinD) (c4 : List Int) (c5 : List Int) (c6p0 : List Int) (c34 : List Hold) => basculeref_set.j2 (fun (c6p0 : List Int) (c34 : List Hold) => some (c6p0, c34, ())) x8 c3 c4 c5 c6p0 c34) c w n [0, 0, 0, 0] hw c.2.1 (by omega) c.2.1 [] N (decide (n = [0, 0, 0, 0])) [] hN rfl (by simp) (fun x hx => (hc.2.2 x hx).1)
  refine Eq.trans (this fuel (by rw [fuel_big]; omega)) ?_
  rw [← setR_withR w n c.2.1 hs (fun x hx => by rw [(hc.2.2 x hx).1, hw]), ← setL_setR]
  have hlen : ∀ (R : List Hold) b, (setL w n b R).1.length ≤ 2 * R.length := by
    intro R
    induction R with
    | nil => intro b; simp [setL]
    | cons h R ih =>
      intro b
      simp only [setL, List.length_append, List.length_cons]
      have := ih (b || !(ltB h.1 w))
      split <;> split <;> simp <;> omega
  have hl2 := hlen c.2.1 (decide (n = [0, 0, 0, 0]))
  generalize setL w n (decide (n = [0, 0, 0, 0])) c.2.1 = f at *
  obtain ⟨f1, f2⟩ := f
  simp only at *
  unfold basculeref_set.j2 basculeref_set.j3
  cases f2 with
  | true => rw [if_neg (by simp)]; simp
  | false => 
    rw [if_pos (by rfl), if_pos (fitB_small (by simp; omega) (by omega))]
    simp

end Go.Bx
