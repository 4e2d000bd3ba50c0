/- A part of a framework that reads Go code as functions of plain data; or a law about such functions. -/
import Derived.Test.YtebnjboimekljaaLawForkCheck
import Derived.Test.YtebnjboimekljaaFnForkGrows0
import Derived.Test.YtebnjboimekljaaFnForkGrows1
import Derived.Test.YtebnjboimekljaaFrame3
namespace Go.Bx
open Go
set_option linter.unusedSimpArgs false
set_option linter.unusedVariables false

/-! a tree copied, and compared with itself -/

def CallOk (c : CallD) : Prop := c.2.2.2.2.2.2.2.2.2.1.length ≤ 140737488355328
def TreeOk (t : TreeD) : Prop := ∀ b ∈ t.1, ∀ c ∈ b.2.2.1, CallOk c
abbrev Cl0 : CallD := (0, (List.replicate 32 0), (List.replicate 32 0), 0, [0, 0, 0, 0], [0, 0, 0, 0], (List.replicate 32 0), 0, 0, [], ())

theorem call_run {c : CallD} (h : CallOk c) : fork_call.run c = some c := by
  unfold fork_call.run fork_call.top
  rw [if_pos]
  unfold CallOk at h
  exact fitB_of (by omega) (by omega)

theorem fresh_inner {α : Type} (k : Nat) (Xt : List BlkD → Int → Int → TreeD → Int → Int → BlkD → List CallD → List BlkD → Option α) (x10 : List BlkD) (x11 x12 : Int) (c1 : TreeD) (p1 p2 : Int) (c5 : BlkD) (z : List BlkD) (l : List CallD) (hl : l.length ≤ 1000) (hok : ∀ c ∈ l, CallOk c) :
    ∀ (R P : List CallD) (n : Nat), R.length < n → l = P ++ R →
    fork_fresh.l1 k Xt n x10 x11 x12 l (l.length : Int) (P.length : Int) c1 p1 p2 c5 P z = Xt x10 x11 x12 c1 p1 p2 c5 l z
  | R, P, 0, h, _ => by omega
  | [], P, n + 1, h, hc => by
    simp only [fork_fresh.l1, fork_fresh.l1s]
    have : l.length = P.length := by rw [hc]; simp
    rw [if_neg (by rw [decide_eq_true_eq]; omega)]
    have : P = l := by rw [hc]; simp
    rw [this]
  | a :: R, P, n + 1, h, hc => by
    have hlen : l.length = P.length + (R.length + 1) := by rw [hc]; simp
    simp only [fork_fresh.l1, fork_fresh.l1s]
    have hg : l.getD P.length Cl0 = a := by rw [hc]; exact getD_front _ _ _ _
    rw [if_pos (by rw [decide_eq_true_eq]; omega), if_pos (by omega), i64_succ (by omega), toNat_nat, hg, call_run (hok a (by rw [hc]; simp)), Option.bind_some, if_pos (fitB_small (by omega) (by omega))]
    have ih := fresh_inner k Xt x10 x11 x12 c1 p1 p2 c5 z l hl hok R (P ++ [a]) n (by simpa using h) (by simp [hc])
    rw [List.length_append] at ih
    exact ih

theorem fresh_outer {α : Type} (k : Nat) (hk : 1000 < k) (Xt : TreeD → Int → Int → List BlkD → Option α) (c1 : TreeD) (p1 p2 : Int) (l : List BlkD) (hl : l.length ≤ 1000) (hok : ∀ b ∈ l, b.2.2.1.length ≤ 1000 ∧ ∀ c ∈ b.2.2.1, CallOk c) :
    ∀ (R P : List BlkD) (n : Nat), R.length < n → l = P ++ R →
    fork_fresh.l0 k Xt n l (l.length : Int) (P.length : Int) c1 p1 p2 P = Xt c1 p1 p2 l
  | R, P, 0, h, _ => by omega
  | [], P, n + 1, h, hc => by
    simp only [fork_fresh.l0, fork_fresh.l0s]
    have : l.length = P.length := by rw [hc]; simp
    rw [if_neg (by rw [decide_eq_true_eq]; omega)]
    have : P = l := by rw [hc]; simp
    rw [this]
  | a :: R, P, n + 1, h, hc => by
    have hlen : l.length = P.length + (R.length + 1) := by rw [hc]; simp
    simp only [fork_fresh.l0, fork_fresh.l0s]
    have hg : l.getD P.length Bk0 = a := by rw [hc]; exact getD_front _ _ _ _
    obtain ⟨o1, o2⟩ := hok a (by rw [hc]; simp)
    rw [if_pos (by rw [decide_eq_true_eq]; omega), if_pos (by omega), toNat_nat, hg]
    have e0 : ((0 : Nat) : Int) = 0 := rfl
    have hi := fresh_inner k (fun (x10 : List BlkD) (x11 : Int) (x12 : Int) (c1 : TreeD) (c2p1 : Int) (c2p2 : Int) (c5 : BlkD) (c27 : List CallD) (c34 : List BlkD) => fork_fresh.j0 (fork_fresh.l0 k Xt n) x10 x11 x12 c1 c2p1 c2p2 c5 c27 c34) l (l.length : Int) (P.length : Int) c1 p1 p2 a P a.2.2.1 o1 o2 a.2.2.1 [] k (by omega) rfl
    rw [List.length_nil, e0] at hi
    rw [hi]
    unfold fork_fresh.j0 fork_fresh.j1
    rw [if_pos (fitB_small (by omega) (by omega)), i64_succ (by omega)]
    have ih := fresh_outer k hk Xt c1 p1 p2 l hl hok R (P ++ [a]) n (by simpa using h) (by simp [hc])
    rw [List.length_append] at ih
    exact ih

theorem fresh_run {t : TreeD} (hl : t.1.length ≤ 1000) (hc : ∀ b ∈ t.1, b.2.2.1.length ≤ 1000) (hok : TreeOk t) : fork_fresh.run t = some t := by
  unfold fork_fresh.run fork_fresh.top
  have := fun N (hN : 1000 < N) => fresh_outer N hN (fun (c1 : TreeD) (c2p1 : Int) (c2p2 : Int) (c34 : List BlkD) => fork_fresh.j2 (fun (c2p1 : Int) (c2p2 : Int) (c34 : List BlkD) => some (c34, c2p1, c2p2, ())) c1 c2p1 c2p2 c34) t 0 0 t.1 hl (fun b hb => ⟨hc b hb, hok b hb⟩) t.1 [] N (by omega) rfl
  refine Eq.trans (this fuel (by rw [fuel_big]; omega)) ?_
  unfold fork_fresh.j2
  rfl

/-! the same -/

theorem sameInts_refl (l : List Int) (hl : l.length < 4611686018427387904) : basculelaw_sameInts.run l l = some true := by
  unfold basculelaw_sameInts.run basculelaw_sameInts.top
  rw [if_neg (by simp)]
  have key : ∀ (Rt : Bool → Option Bool) (Xt : Option Bool) (k m i n : Nat), i + m = l.length → m < n → basculelaw_sameInts.l0 k Rt Xt n l l (l.length : Int) (i : Int) = Xt := by
    intro Rt Xt k m
    induction m with
    | zero =>
      intro i n hi h
      obtain ⟨n, rfl⟩ : ∃ M, n = M + 1 := ⟨n - 1, by omega⟩
      simp only [basculelaw_sameInts.l0, basculelaw_sameInts.l0s]
      rw [if_neg (by rw [decide_eq_true_eq]; omega)]
    | succ m ih =>
      intro i n hi h
      obtain ⟨n, rfl⟩ : ∃ M, n = M + 1 := ⟨n - 1, by omega⟩
      simp only [basculelaw_sameInts.l0, basculelaw_sameInts.l0s]
      rw [if_pos (by rw [decide_eq_true_eq]; omega), if_pos (by omega), if_pos (by omega), i64_succ (by omega), if_neg (by simp)]
      exact ih (i + 1) n (by omega) (by omega)
  have := fun N (hN : l.length < N) => key (fun (x4 : Bool) => some x4) (basculelaw_sameInts.j0 fun (x4 : Bool) => some x4) N l.length 0 N (by omega) hN
  exact Eq.trans (this fuel (by rw [fuel_big]; omega)) rfl

theorem sameCall_refl (c : CallD) : basculelaw_sameCall.run c c = some true := by
  unfold basculelaw_sameCall.run basculelaw_sameCall.top basculelaw_sameBytes.run basculelaw_sameBytes.top
  rw [beqD_refl (.arr 32 (.int .u8)) c.2.1 rfl, beqD_refl (.arr 32 (.int .u8)) c.2.2.1 rfl, beqD_refl (.arr 4 (.int .u64)) c.2.2.2.2.1 rfl, beqD_refl (.arr 4 (.int .u64)) c.2.2.2.2.2.1 rfl, beqD_refl (.arr 32 (.int .u8)) c.2.2.2.2.2.2.1 rfl, beqD_refl .str c.2.2.2.2.2.2.2.2.2.1 rfl]
  simp

theorem sameTree_inner {α : Type} (k : Nat) (Rt : Bool → Option α) (Xt : Int → Int → TreeD → TreeD → Option α) (x32 x33 : Int) (c2 : TreeD) (b : BlkD) (hl : b.2.2.1.length < 4611686018427387904) : ∀ (m i n : Nat), i + m = b.2.2.1.length → m < n →
    basculelaw_sameTree.l1 k Rt Xt n x32 x33 (b.2.2.1.length : Int) (i : Int) c2 c2 b b = Xt x32 x33 c2 c2
  | m, i, 0, _, h => by omega
  | 0, i, n + 1, hi, h => by
    simp only [basculelaw_sameTree.l1, basculelaw_sameTree.l1s]
    rw [if_neg (by rw [decide_eq_true_eq]; omega)]
  | m + 1, i, n + 1, hi, h => by
    simp only [basculelaw_sameTree.l1, basculelaw_sameTree.l1s]
    rw [if_pos (by rw [decide_eq_true_eq]; omega), if_pos (by omega), if_pos (by omega), sameCall_refl, Option.bind_some, if_neg (by simp), i64_succ (by omega)]
    exact sameTree_inner k Rt Xt x32 x33 c2 b hl m (i + 1) n (by omega) (by omega)

theorem sameTree_refl (t : TreeD) (hl : t.1.length < 1000) (hc : ∀ b ∈ t.1, b.2.2.1.length < 1000) : basculelaw_sameTree.run t t = some true := by
  unfold basculelaw_sameTree.run basculelaw_sameTree.top
  rw [if_neg (by simp)]
  have key : ∀ (Rt : Bool → Option Bool) (Xt : Option Bool) (k : Nat) (hk : 1000 < k) (m i n : Nat), i + m = t.1.length → m < n → basculelaw_sameTree.l0 k Rt Xt n (t.1.length : Int) (i : Int) t t = Xt := by
    intro Rt Xt k hk m
    induction m with
    | zero =>
      intro i n hi h
      obtain ⟨n, rfl⟩ : ∃ M, n = M + 1 := ⟨n - 1, by omega⟩
      simp only [basculelaw_sameTree.l0, basculelaw_sameTree.l0s]
      rw [if_neg (by rw [decide_eq_true_eq]; omega)]
    | succ m ih =>
      intro i n hi h
      obtain ⟨n, rfl⟩ : ∃ M, n = M + 1 := ⟨n - 1, by omega⟩
      simp only [basculelaw_sameTree.l0, basculelaw_sameTree.l0s]
      have hb : (t.1.getD i Bk0) ∈ t.1 := by
        have hil : i < t.1.length := by omega
        have : t.1.getD i Bk0 = t.1[i] := by simp [List.getD, List.getElem?_eq_getElem hil]
        rw [this]; exact List.getElem_mem hil
      have hbl := hc _ hb
      rw [if_pos (by rw [decide_eq_true_eq]; omega), if_pos (by omega), if_pos (by omega), toNat_nat, if_neg (by simp)]
      have e0 : ((0 : Nat) : Int) = 0 := rfl
      have := sameTree_inner k (fun (x4 : Bool) => Rt x4) (fun (x32 : Int) (x33 : Int) (c2 : TreeD) (c3 : TreeD) => basculelaw_sameTree.j0 (basculelaw_sameTree.l0 k Rt Xt n) x32 x33 c2 c3) (t.1.length : Int) (i : Int) t (t.1.getD i Bk0) (by omega) (t.1.getD i Bk0).2.2.1.length 0 k (by omega) (by omega)
      rw [e0] at this
      rw [this]
      unfold basculelaw_sameTree.j0
      rw [i64_succ (by omega)]
      exact ih (i + 1) n (by omega) (by omega)
  have := fun N (hN : 1000 < N) => key (fun (x4 : Bool) => some x4) (basculelaw_sameTree.j1 fun (x4 : Bool) => some x4) N hN t.1.length 0 N (by omega) (by omega)
  exact Eq.trans (this fuel (by rw [fuel_big]; omega)) rfl

theorem calls_mem {t : TreeD} {n : Nat} (h : ∀ i, i < t.1.length → ncalls t i ≤ n) : ∀ b ∈ t.1, b.2.2.1.length ≤ n := by
  intro b hb
  obtain ⟨i, hi, rfl⟩ := List.getElem_of_mem hb
  have := h i hi
  unfold ncalls at this
  have e : t.1.getD i Bk0 = t.1[i] := by simp [List.getD, List.getElem?_eq_getElem hi]
  rw [e] at this; exact this

abbrev CallTy : Ty := .pair (.int .i64) (.pair (.arr 32 (.int .u8)) (.pair (.arr 32 (.int .u8)) (.pair (.int .i64) (.pair (.arr 4 (.int .u64)) (.pair (.arr 4 (.int .u64)) (.pair (.arr 32 (.int .u8)) (.pair (.int .i64) (.pair (.int .i64) (.pair (.sl (.int .u8)) .unit)))))))))
abbrev TreeTy : Ty := .pair (.sl (.pair (.int .i64) (.pair (.int .i64) (.pair (.sl CallTy) .unit)))) (.pair (.int .i64) (.pair (.int .i64) .unit))

theorem callOk_of_fit {c : CallD} (h : Fit reachK CallTy c) : CallOk c := by
  obtain ⟨_, _, _, _, _, _, _, _, _, h1, _⟩ := h
  have h2 := h1.1
  unfold reachK at h2
  unfold CallOk
  have e : (Ty.int .u8).bytes = 1 := rfl
  rw [e, Nat.mul_one] at h2
  exact Nat.le_trans h2 (by decide)

theorem treeOk_of_fit {t : TreeD} (h : Fit reachK TreeTy t) : TreeOk t := by
  obtain ⟨⟨_, _, h1⟩, _⟩ := h
  intro b hb c hc
  obtain ⟨_, _, ⟨_, _, h2⟩, _⟩ := h1 b hb
  exact callOk_of_fit (h2 c hc)

end Go.Bx
