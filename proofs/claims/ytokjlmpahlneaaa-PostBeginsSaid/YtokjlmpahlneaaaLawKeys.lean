/- A part of a framework that reads Go code as functions of plain data; or a law about such functions. -/
import Derived.Test.YtokjlmpahlneaaaLawMaps
import Derived.Test.YtokjlmpahlneaaaLawAt
import Derived.Test.YtokjlmpahlneaaaFnPostBegins0
namespace Go.Bx
open Go
set_option linter.unusedSimpArgs false
set_option linter.unusedVariables false

/-! sets of keys -/

theorem keys_inner {α : Type} (Rt : Int → Option α) (Xt : List (List Int) → List (List Int) → Int → Int → Option α) (k : Nat) (x0 x15 : List (List Int)) (x16 x17 : Int) (c : List Int) (l : List (List Int)) (hl : l.length ≤ 1000) :
    ∀ (R P : List (List Int)) (n : Nat), R.length < n → l = P ++ R →
    sets_keys.l1 k Rt Xt n x0 x15 x16 x17 l (l.length : Int) (P.length : Int) c = if c ∈ R then Rt 8 else Xt x0 x15 x16 x17
  | R, P, 0, h, _ => by omega
  | [], P, n + 1, h, hc => by
    simp only [sets_keys.l1, sets_keys.l1s]
    have : l.length = P.length := by rw [hc]; simp
    rw [if_neg (by rw [decide_eq_true_eq]; omega), if_neg (by simp)]
  | a :: R, P, n + 1, h, hc => by
    have hlen : l.length = P.length + (R.length + 1) := by rw [hc]; simp
    simp only [sets_keys.l1, sets_keys.l1s]
    have hg : l.getD P.length (List.replicate 20 0) = a := by rw [hc]; exact getD_at _ _ _ _
    rw [if_pos (by rw [decide_eq_true_eq]; omega), if_pos (by omega), i64_succ (by omega), toNat_nat, hg]
    have ih := keys_inner Rt Xt k x0 x15 x16 x17 c l hl R (P ++ [a]) n (by simpa using h) (by simp [hc])
    rw [List.length_append] at ih
    by_cases he : c = a
    · rw [if_pos ((eqOk_ints (n := 20) (k := .u8) c a).2 he), if_pos (by simp [he])]
    · rw [if_neg (fun h => he ((eqOk_ints (n := 20) (k := .u8) c a).1 h))]
      refine Eq.trans ih ?_
      by_cases hr : c ∈ R
      · rw [if_pos hr, if_pos (List.mem_cons_of_mem _ hr)]
      · rw [if_neg hr, if_neg (by simp only [List.mem_cons, not_or]; exact ⟨he, hr⟩)]

theorem keys_outer {α : Type} (Rt : Int → Option α) (Xt : Option α) (k : Nat) (hk : 1000 < k) (l : List (List Int)) (hl : l.length ≤ 1000) :
    ∀ (R P : List (List Int)) (n : Nat), R.length < n → l = P ++ R → P.Nodup →
    sets_keys.l0 k Rt Xt n l l (l.length : Int) (P.length : Int) = if l.Nodup then Xt else Rt 8
  | R, P, 0, h, _, _ => by omega
  | [], P, n + 1, h, hc, hn => by
    simp only [sets_keys.l0, sets_keys.l0s]
    have : l.length = P.length := by rw [hc]; simp
    rw [if_neg (by rw [decide_eq_true_eq]; omega), if_pos (by rw [hc]; simpa using hn)]
  | a :: R, P, n + 1, h, hc, hn => by
    have hlen : l.length = P.length + (R.length + 1) := by rw [hc]; simp
    simp only [sets_keys.l0, sets_keys.l0s]
    have hg : l.getD P.length (List.replicate 20 0) = a := by rw [hc]; exact getD_at _ _ _ _
    have hcut : cutL l 0 (P.length : Int) = P := by rw [hc]; exact cutL_front _ _
    rw [if_pos (by rw [decide_eq_true_eq]; omega), if_pos (by omega), if_pos (by omega), toNat_nat, hg, hcut]
    have hin := keys_inner Rt (fun x0 x15 x16 x17 => sets_keys.j0 (sets_keys.l0 k Rt Xt n) x0 x15 x16 x17) k l l (l.length : Int) (P.length : Int) a P (by omega) P [] k (by omega) rfl
    refine Eq.trans hin ?_
    by_cases hm : a ∈ P
    · rw [if_pos hm, if_neg]
      intro hd
      rw [hc] at hd
      exact (List.nodup_append.1 hd).2.2 a hm a (by simp) rfl
    · rw [if_neg hm]
      unfold sets_keys.j0
      rw [i64_succ (by omega)]
      have ih := keys_outer Rt Xt k hk l hl R (P ++ [a]) n (by simpa using h) (by simp [hc]) (by
        rw [List.nodup_append]
        refine ⟨hn, by simp, fun x hx y hy e => ?_⟩
        simp at hy; subst hy; subst e; exact hm hx)
      rw [List.length_append] at ih
      exact ih

theorem keysF_outer {α : Type} (Xt : List (List Int) → List (List Int × Int) → Option α) (k : Nat) (l : List (List Int)) (hl : l.length ≤ 1000) :
    ∀ (R P : List (List Int)) (n : Nat) (c : List (List Int × Int)), R.length < n → l = P ++ R → Seen (c.map (·.1)) P →
    ∃ c', Seen (c'.map (·.1)) l ∧ basculeref_keysFault.l0 k Xt n l l (l.length : Int) (P.length : Int) c = Xt l c'
  | R, P, 0, _, h, _, _ => by omega
  | [], P, n + 1, c, h, hc, hs => by
    simp only [basculeref_keysFault.l0, basculeref_keysFault.l0s]
    have : l.length = P.length := by rw [hc]; simp
    rw [if_neg (by rw [decide_eq_true_eq]; omega)]
    exact ⟨c, by rw [hc]; simpa using hs, rfl⟩
  | a :: R, P, n + 1, c, h, hc, hs => by
    have hlen : l.length = P.length + (R.length + 1) := by rw [hc]; simp
    simp only [basculeref_keysFault.l0, basculeref_keysFault.l0s]
    have hg : l.getD P.length (List.replicate 20 0) = a := by rw [hc]; exact getD_at _ _ _ _
    have hcl : c.length ≤ P.length := by have := hs.le; simpa using this
    rw [if_pos (by rw [decide_eq_true_eq]; omega), if_pos (by omega), i64_succ (by omega), toNat_nat, hg]
    have hix := idxM_entM (eqOk_ints (n := 20) (k := .u8)) a (0 : Int) c
    have hix' : idxM (beqD (.arr 20 (.int .u8))) a c < (entM (beqD (.arr 20 (.int .u8))) a (0 : Int) c).length := hix
    rw [if_pos (blt_iff.2 (by omega)), if_pos ⟨by omega, by omega⟩]
    have key : Seen ((putM (entM (beqD (.arr 20 (.int .u8))) a (0 : Int) c) (Int.toNat ((idxM (beqD (.arr 20 (.int .u8))) a c : Nat) : Int)) (IntKind.i64.wrap (getM (beqD (.arr 20 (.int .u8))) a (0 : Int) c + 1))).map (·.1)) (P ++ [a]) := by
      rw [putM_keys]
      by_cases hm : a ∈ c.map (·.1)
      · rw [entM_in (eqOk_ints (n := 20) (k := .u8)) hm]; exact hs.old hm
      · rw [entM_out (eqOk_ints (n := 20) (k := .u8)) hm, List.map_append]; exact hs.new hm
    have ih := keysF_outer Xt k l hl R (P ++ [a]) n _ (by simpa using h) (by simp [hc]) key
    rw [List.length_append] at ih
    exact ih

def keysE (l : List (List Int)) : Int := if l.length < 1 ∨ 19 < l.length then 1 else if l.Nodup then 0 else 8

theorem keys_run (l : List (List Int)) : sets_keys.run l = some (keysE l) := by
  unfold sets_keys.run sets_keys.top keysE
  by_cases h : l.length < 1 ∨ 19 < l.length
  · rw [if_pos h, if_pos]
    rw [cond_or, Bool.or_eq_true, decide_eq_true_eq, decide_eq_true_eq]; omega
  · rw [if_neg h, if_neg]
    · have := keys_outer (fun x2 : Int => some x2) (sets_keys.j1 fun x2 : Int => some x2) fuel (by rw [fuel_big]; omega) l (by omega) l [] fuel (by rw [fuel_big]; omega) rfl List.nodup_nil
      refine Eq.trans this ?_
      unfold sets_keys.j1
      split <;> rfl
    · rw [cond_or, Bool.or_eq_true, decide_eq_true_eq, decide_eq_true_eq]; omega

theorem keysF_run (l : List (List Int)) : basculeref_keysFault.run l = some (keysE l) := by
  unfold basculeref_keysFault.run basculeref_keysFault.top keysE
  by_cases h : l.length < 1 ∨ 19 < l.length
  · rw [if_pos h, if_pos]
    rw [cond_or, Bool.or_eq_true, decide_eq_true_eq, beq_iff_eq]; omega
  · rw [if_neg h, if_neg]
    · obtain ⟨c', h1, h2⟩ := keysF_outer (fun x0 c14 => basculeref_keysFault.j0 (fun x2 : Int => some x2) x0 c14) fuel l (by omega) l [] fuel [] (by rw [fuel_big]; omega) rfl Seen.nil
      refine Eq.trans h2 ?_
      unfold basculeref_keysFault.j0
      have hle := h1.le
      have hlt := h1.lt
      simp only [List.length_map] at hle hlt
      rw [if_pos (Nat.ble_eq_true_of_le (by omega))]
      by_cases hn : l.Nodup
      · rw [if_neg (by rw [decide_eq_true_eq]; have := mt hlt.1 (by simpa using hn); omega), if_pos hn]
      · rw [if_pos (by rw [decide_eq_true_eq]; have := hlt.2 hn; omega), if_neg hn]
    · rw [cond_or, Bool.or_eq_true, decide_eq_true_eq, beq_iff_eq]; omega

theorem keysE_ok {l : List (List Int)} (h : keysE l = 0) : 1 ≤ l.length ∧ l.length ≤ 19 := by
  unfold keysE at h
  split at h
  · omega
  · omega

end Go.Bx
