/- A part of a framework that reads Go code as functions of plain data; or a law about such functions. -/
import Derived.Test.YtebnjboimekljaaLawCoinWith
import Derived.Test.YtebnjboimekljaaLawSum
import Derived.Test.YtebnjboimekljaaFnCoinMoves0
namespace Go.Bx
open Go
set_option linter.unusedSimpArgs false
set_option linter.unusedVariables false

abbrev Who : Ty := .arr 32 (.int .u8)

theorem same_loop {α : Type} (k : Nat) (Rt : Bool → Option α) (Xt : Option α) (c : CoinD) (hl : c.2.1.length < 4611686018427387904) : ∀ (m i n : Nat), i + m = c.2.1.length → m < n →
    basculelaw_sameCoin.l0 k Rt Xt n (c.2.1.length : Int) (i : Int) c c = Xt
  | m, i, 0, _, h => by omega
  | 0, i, n + 1, hi, h => by
    simp only [basculelaw_sameCoin.l0, basculelaw_sameCoin.l0s]
    rw [if_neg (by rw [decide_eq_true_eq]; omega)]
  | m + 1, i, n + 1, hi, h => by
    simp only [basculelaw_sameCoin.l0, basculelaw_sameCoin.l0s]
    rw [if_pos (by rw [decide_eq_true_eq]; omega), if_pos (by omega), if_pos (by omega), i64_succ (by omega), toNat_nat]
    rw [beqD_refl (.pair (.arr 32 (.int .u8)) (.pair (.arr 4 (.int .u64)) .unit)) _ rfl, if_neg (by simp)]
    exact same_loop k Rt Xt c hl m (i + 1) n (by omega) (by omega)

theorem same_coin (c : CoinD) (hl : c.2.1.length < 4611686018427387904) : basculelaw_sameCoin.run c c = some true := by
  unfold basculelaw_sameCoin.run basculelaw_sameCoin.top
  rw [beqD_refl (.arr 4 (.int .u64)) _ rfl]
  rw [if_neg (by simp)]
  have := fun N (hN : c.2.1.length < N) => same_loop N (fun (x4 : Bool) => some x4) (basculelaw_sameCoin.j0 fun (x4 : Bool) => some x4) c hl c.2.1.length 0 N (by omega) hN
  exact Eq.trans (this fuel (by rw [fuel_big]; omega)) rfl

/-- what minting and burning come to -/
def GoodOut (r : CoinD × Int × Unit) : Prop := CoinOk r.1 ∧ r.1.2.1.length ≤ 41

theorem none_ok {e : Int} : GoodOut (([0, 0, 0, 0], [], ()), e, ()) := by
  refine ⟨⟨rfl, fun d hd => ?_, by simp⟩, by simp⟩
  simp only [List.mem_cons, List.not_mem_nil, or_false] at hd
  simp only [B64]; omega

theorem withR_ok {w n : List Int} (hw : w.length = 32 ∧ ∀ b ∈ w, 0 ≤ b ∧ b ≤ 255) (hn : n.length = 4 ∧ digs B64 n) : ∀ (R : List Hold), (∀ x ∈ R, HoldOk x) → (∀ x ∈ withR w n R, HoldOk x) ∧ (withR w n R).length ≤ R.length + 1
  | [], _ => by
    simp only [withR, ins]
    split
    · simp
    · refine ⟨fun x hx => ?_, by simp⟩
      simp only [List.mem_cons, List.not_mem_nil, or_false] at hx
      subst hx; exact ⟨hw.1, hn.1, hn.2, hw.2⟩
  | h :: R, hx => by
    obtain ⟨i1, i2⟩ := withR_ok hw hn R (fun x hm => hx x (List.mem_cons_of_mem _ hm))
    have hi : ∀ x ∈ ins w n, HoldOk x := by
      intro x hx
      unfold ins at hx
      split at hx
      · simp at hx
      · simp only [List.mem_cons, List.not_mem_nil, or_false] at hx
        subst hx; exact ⟨hw.1, hn.1, hn.2, hw.2⟩
    have hi2 : (ins w n).length ≤ 1 := by unfold ins; split <;> simp
    simp only [withR]
    split
    · refine ⟨fun x hm => ?_, by simp; omega⟩
      rcases List.mem_cons.1 hm with rfl | hm
      · exact hx _ (by simp)
      · exact i1 x hm
    · split
      · refine ⟨fun x hm => ?_, by simp; omega⟩
        rcases List.mem_append.1 hm with hm | hm
        · exact hi x hm
        · exact hx x (List.mem_cons_of_mem _ hm)
      · refine ⟨fun x hm => ?_, by simp; omega⟩
        rcases List.mem_append.1 hm with hm | hm
        · exact hi x hm
        · exact hx x hm

theorem mint_both (c : CoinD) (hc : CoinOk c) {w n : List Int} (hw : w.length = 32 ∧ ∀ b ∈ w, 0 ≤ b ∧ b ≤ 255) (hn : n.length = 4 ∧ digs B64 n) :
    ∃ r, coin_Mint.run c w n = some r ∧ basculeref_Minted.run c w n = some r ∧ GoodOut r := by
  unfold coin_Mint.run coin_Mint.top basculeref_Minted.run basculeref_Minted.top
  rw [coin_fault _ hc, coin_check _ hc]
  simp only [Option.bind_some]
  by_cases h40 : c.2.1.length > 40
  · rw [if_pos h40]; exact ⟨_, rfl, rfl, none_ok⟩
  · rw [if_neg h40]
    by_cases hg : coinGood c = true
    · rw [if_pos hg, if_neg (show ¬ (((0 : Int) != 0) = true) by decide), if_neg (show ¬ (((0 : Int) != 0) = true) by decide)]
      obtain ⟨r1, o1, e1, e2, n1, d1, _⟩ := sum_both hc.1 hn.1 hc.2.1 hn.2
      rw [e1, e2]
      simp only [Option.bind_some]
      by_cases ho : o1 = true
      · rw [if_pos ho, if_pos ho]; exact ⟨_, rfl, rfl, none_ok⟩
      · rw [if_neg ho, if_neg ho, coin_of_run _ hc (by omega) (srt_good hg) hw.1, held_run _ (by omega)]
        simp only [Option.bind_some]
        obtain ⟨k1, k2⟩ := heldR_ok w c.2.1 hc.2.2
        obtain ⟨r2, o2, f1, f2, n2, d2, _⟩ := sum_both k1 hn.1 k2 hn.2
        rw [f1, f2]
        simp only [Option.bind_some]
        rw [coin_with_run c hc (by omega) hw.1, set_run c hc (by omega) (srt_good hg) hw.1]
        simp only [Option.bind_some]
        obtain ⟨i1, i2⟩ := withR_ok hw ⟨n2, d2⟩ c.2.1 hc.2.2
        unfold coin_ended.run coin_ended.top
        by_cases hb : (decide (((withR w r2 c.2.1).length : Int) > 40)) = true
        · rw [if_pos hb]; exact ⟨_, rfl, rfl, none_ok⟩
        · rw [if_neg hb]; exact ⟨_, rfl, rfl, ⟨n1, d1, i1⟩, by simp; omega⟩
    · rw [if_neg hg]; exact ⟨_, rfl, rfl, none_ok⟩

theorem burn_both (c : CoinD) (hc : CoinOk c) {w n : List Int} (hw : w.length = 32 ∧ ∀ b ∈ w, 0 ≤ b ∧ b ≤ 255) (hn : n.length = 4 ∧ digs B64 n) :
    ∃ r, coin_Burn.run c w n = some r ∧ basculeref_Burnt.run c w n = some r ∧ GoodOut r := by
  unfold coin_Burn.run coin_Burn.top basculeref_Burnt.run basculeref_Burnt.top
  rw [coin_fault _ hc, coin_check _ hc]
  simp only [Option.bind_some]
  by_cases h40 : c.2.1.length > 40
  · rw [if_pos h40]; exact ⟨_, rfl, rfl, none_ok⟩
  · rw [if_neg h40]
    by_cases hg : coinGood c = true
    · rw [if_pos hg, if_neg (show ¬ (((0 : Int) != 0) = true) by decide), if_neg (show ¬ (((0 : Int) != 0) = true) by decide)]
      rw [coin_of_run _ hc (by omega) (srt_good hg) hw.1, held_run _ (by omega)]
      simp only [Option.bind_some]
      obtain ⟨k1, k2⟩ := heldR_ok w c.2.1 hc.2.2
      obtain ⟨r1, o1, e1, e2, n1, d1, _⟩ := diff_both k1 hn.1 k2 hn.2
      rw [e1, e2]
      simp only [Option.bind_some]
      by_cases ho : o1 = true
      · rw [if_pos ho, if_pos ho]; exact ⟨_, rfl, rfl, none_ok⟩
      · rw [if_neg ho, if_neg ho, coin_with_run c hc (by omega) hw.1, set_run c hc (by omega) (srt_good hg) hw.1]
        simp only [Option.bind_some]
        obtain ⟨i1, i2⟩ := withR_ok hw ⟨n1, d1⟩ c.2.1 hc.2.2
        obtain ⟨r2, o2, f1, f2, n2, d2, _⟩ := diff_both hc.1 hn.1 hc.2.1 hn.2
        rw [f1, f2]
        simp only [Option.bind_some]
        exact ⟨_, rfl, rfl, ⟨n2, d2, i1⟩, by simp; omega⟩
    · rw [if_neg hg]; exact ⟨_, rfl, rfl, none_ok⟩

theorem who_of_fit {K : Ty → Nat → Prop} {w : List Int} (h : Fit K Who w) : w.length = 32 ∧ ∀ b ∈ w, 0 ≤ b ∧ b ≤ 255 :=
  ⟨h.1, fun b hb => by have := h.2 b hb; simpa [Fit, inR_u8] using this⟩

end Go.Bx
