/- A part of a framework that reads Go code as functions of plain data; or a law about such functions. -/
import Derived.Test.YtokjlmpahlneaaaLawCoinGood
import Derived.Test.YtokjlmpahlneaaaLawSets0
import Derived.Test.YtokjlmpahlneaaaLawUpTo
import Derived.Test.YtokjlmpahlneaaaLawBody
import Derived.Test.YtokjlmpahlneaaaFnPostBegins1
namespace Go.Bx
open Go
set_option linter.unusedSimpArgs false
set_option linter.unusedVariables false

/-! posts -/

abbrev AssetD : Type := List Int × Int × Int × CoinD × Unit
abbrev PostD : Type := Int × Int × List SetD × List AssetD × List (List Int) × Int × List BodyD × Unit

abbrev A0 : AssetD := (List.replicate 32 0, 0, 0, ([0, 0, 0, 0], [], ()), ())
abbrev Bd0 : BodyD := (0, 0, 0, List.replicate 32 0, 0, 0, [], ())

def chainB (n : Int) : Bool := decide (0 ≤ n) && decide (n ≤ 2)

theorem chain_run (n : Int) : post_chain.run n = some (chainB n) := by
  unfold post_chain.run post_chain.top chainB
  rw [cond_and]
  congr 1
  rw [Bool.eq_iff_iff]; simp; omega

theorem isChain_run (n : Int) : basculeref_isChain.run n = some (chainB n) := by
  unfold basculeref_isChain.run basculeref_isChain.top
  rw [upTo_run]; rfl

theorem emitter_both (n : Int) : ∃ e, post_Emitter.run n = some e ∧ basculeref_EmitterOf.run n = some e := by
  refine ⟨_, rfl, ?_⟩
  have hw : basculeref_word.run [176] = some ((List.replicate 32 0).set 0 176) := by kernel_rfl
  unfold basculeref_EmitterOf.run basculeref_EmitterOf.top
  rw [hw]; rfl

def coinE (c : CoinD) : Int := if c.2.1.length > 40 then 1 else if coinGood c = true then 0 else 12

def difB (a b : AssetD) : Bool := !(beqD (.arr 32 (.int .u8)) a.1 b.1 && b.2.1 == a.2.1)

def asB (ch : Int) (a : AssetD) : Bool := chainB a.2.1 && (coinE a.2.2.2.1 == 0) && (decide (a.2.2.1 ≥ 0) && decide (a.2.2.1 < 78)) && (a.2.1 == ch || decide (a.2.2.1 ≤ 8))

def asAll (ch : Int) : List AssetD → List AssetD → Bool
  | [], _ => true
  | a :: R, P => asB ch a && P.all (difB a) && asAll ch R (P ++ [a])

theorem beq_sym (x y : List Int) : beqD (.arr 32 (.int .u8)) x y = beqD (.arr 32 (.int .u8)) y x := by
  rw [Bool.eq_iff_iff, beqD_iff _ _ _ rfl, beqD_iff _ _ _ rfl]; exact eq_comm

theorem dif_prog (a b : AssetD) : ((!beqD (.arr 32 (.int .u8)) a.1 b.1) || (a.2.1 != b.2.1)) = difB a b := by
  unfold difB
  rw [Bool.not_and, Bool.eq_iff_iff]
  simp only [Bool.or_eq_true, Bool.not_eq_true', bne_iff_ne, beq_eq_false_iff_ne]
  rw [ne_comm (a := a.2.1)]

theorem dif_ref (a b : AssetD) : (!(beqD (.arr 32 (.int .u8)) b.1 a.1 && (b.2.1 == a.2.1))) = difB a b := by
  unfold difB; rw [beq_sym]

theorem chk_inner {α : Type} (Xt : Bool → List AssetD → Int → Int → PostD → Option α) (K : Nat) (l : List AssetD) (hl : l.length ≤ 1000) (x51 : List AssetD) (x52 x53 : Int) (c1 : PostD) (a : AssetD) : ∀ (R P : List AssetD) (n : Nat) (x : Bool), R.length < n → l = P ++ R →
    post_Check.l1 K Xt n x x51 x52 x53 l (l.length : Int) (P.length : Int) c1 a = Xt (x && R.all (difB a)) x51 x52 x53 c1
  | R, P, 0, x, h, _ => by omega
  | [], P, n + 1, x, h, hc => by
    simp only [post_Check.l1, post_Check.l1s]
    have : l.length = P.length := by rw [hc]; simp
    rw [if_neg (by rw [decide_eq_true_eq]; omega)]
    simp
  | y :: R, P, n + 1, x, h, hc => by
    have hlen : l.length = P.length + (R.length + 1) := by rw [hc]; simp
    simp only [post_Check.l1, post_Check.l1s]
    have hg : l.getD P.length A0 = y := by rw [hc]; exact getD_at _ _ _ _
    rw [if_pos (by rw [decide_eq_true_eq]; omega), if_pos (by omega), i64_succ (by omega), toNat_nat, hg, cond_or, cond_and, dif_prog]
    have ih := chk_inner Xt K l hl x51 x52 x53 c1 a R (P ++ [y]) n (x && difB a y) (by simpa using h) (by simp [hc])
    rw [List.length_append] at ih
    refine Eq.trans ih ?_
    rw [List.all_cons, Bool.and_assoc]

theorem flt_inner {α : Type} (Xt : Bool → Int → PostD → Option α) (K : Nat) (c1 : PostD) (l : List AssetD) (hc1 : c1.2.2.2.1 = l) (hl : l.length ≤ 1000) (a : AssetD) (i : Nat) (hi : i ≤ l.length) : ∀ (m j n : Nat) (x : Bool), m < n → j + m = i →
    basculeref_PostFault.l1 K Xt n x (i : Int) (j : Int) c1 a = Xt (x && ((l.drop j).take m).all (difB a)) (i : Int) c1
  | m, j, 0, x, h, _ => by omega
  | 0, j, n + 1, x, h, hj => by
    simp only [basculeref_PostFault.l1, basculeref_PostFault.l1s]
    rw [if_neg (by rw [decide_eq_true_eq]; omega)]
    simp
  | m + 1, j, n + 1, x, h, hj => by
    simp only [basculeref_PostFault.l1, basculeref_PostFault.l1s]
    have e1 : decide (0 ≤ (j : Int) ∧ (j : Int) < (c1.2.2.2.1.length : Int)) = true := by rw [decide_eq_true_eq, hc1]; omega
    rw [if_pos (by rw [decide_eq_true_eq]; omega), e1, Bool.true_or, Bool.true_or, cond_true, cond_true, i64_succ (by omega), toNat_nat, hc1, cond_and, cond_and, dif_ref]
    refine (flt_inner Xt K c1 l hc1 hl a i hi m (j + 1) n _ (by omega) (by omega)).trans ?_
    rw [List.drop_eq_getElem_cons (show j < l.length by omega), List.take_succ_cons, List.all_cons, getD_eq (show j < l.length by omega), Bool.and_assoc]

theorem chk_outer {α : Type} (Xt : Bool → PostD → Option α) (K : Nat) (hK : 1000 < K) (c1 : PostD) (l : List AssetD) (hc1 : c1.2.2.2.1 = l) (hl : l.length ≤ 1000) (hw : ∀ a ∈ l, CoinOk a.2.2.2.1) : ∀ (R P : List AssetD) (n : Nat) (x : Bool), R.length < n → l = P ++ R →
    post_Check.l0 K Xt n x l (l.length : Int) (P.length : Int) c1 = Xt (x && asAll c1.1 R P) c1
  | R, P, 0, x, h, _ => by omega
  | [], P, n + 1, x, h, hc => by
    simp only [post_Check.l0, post_Check.l0s]
    have : l.length = P.length := by rw [hc]; simp
    rw [if_neg (by rw [decide_eq_true_eq]; omega)]
    simp [asAll]
  | y :: R, P, n + 1, x, h, hc => by
    have hlen : l.length = P.length + (R.length + 1) := by rw [hc]; simp
    simp only [post_Check.l0, post_Check.l0s]
    have hg : l.getD P.length A0 = y := by rw [hc]; exact getD_at _ _ _ _
    have hcut : cutL l 0 (P.length : Int) = P := by rw [hc]; exact cutL_front P (y :: R)
    have hy : coin_Check.run y.2.2.2.1 = some (coinE y.2.2.2.1) := coin_check _ (hw y (by rw [hc]; simp))
    rw [if_pos (by rw [decide_eq_true_eq]; omega), if_pos (by omega), toNat_nat, hg, chain_run, hy]
    have e1 : (if (x == true) = true then some (chainB y.2.1) else some false) = some (x && chainB y.2.1) := by cases x <;> rfl
    rw [e1, Option.bind_some]
    simp only [cond_and, cond_or]
    have e2 : (if ((x && (x && chainB y.2.1)) == true) = true then some (coinE y.2.2.2.1) else some 0) = some (if (x && chainB y.2.1) = true then coinE y.2.2.2.1 else 0) := by cases x <;> cases chainB y.2.1 <;> rfl
    rw [e2, Option.bind_some, hc1, if_pos (by omega), hcut]
    have hb : (x && (x && chainB y.2.1) && ((if (x && chainB y.2.1) = true then coinE y.2.2.2.1 else 0) == 0) && decide (y.2.2.1 ≥ 0) && decide (y.2.2.1 < 78) && (y.2.1 == c1.1 || decide (y.2.2.1 ≤ 8))) = (x && asB c1.1 y) := by
      unfold asB
      cases x <;> cases chainB y.2.1 <;> simp [Bool.and_assoc]
    rw [hb]
    refine (chk_inner _ K P (by omega) l _ _ c1 y P [] K (x && asB c1.1 y) (by omega) rfl).trans ?_
    unfold post_Check.j0
    rw [i64_succ (by omega)]
    have ih := chk_outer Xt K hK c1 l hc1 hl hw R (P ++ [y]) n (x && asB c1.1 y && P.all (difB y)) (by simpa using h) (by simp [hc])
    rw [List.length_append] at ih
    refine Eq.trans ih ?_
    simp only [asAll, Bool.and_assoc]

theorem flt_outer {α : Type} (Xt : Bool → PostD → Option α) (K : Nat) (hK : 1000 < K) (c1 : PostD) (l : List AssetD) (hc1 : c1.2.2.2.1 = l) (hl : l.length ≤ 1000) (hw : ∀ a ∈ l, CoinOk a.2.2.2.1) : ∀ (R P : List AssetD) (n : Nat) (x : Bool), R.length < n → l = P ++ R →
    basculeref_PostFault.l0 K Xt n x (P.length : Int) c1 = Xt (x && asAll c1.1 R P) c1
  | R, P, 0, x, h, _ => by omega
  | [], P, n + 1, x, h, hc => by
    simp only [basculeref_PostFault.l0, basculeref_PostFault.l0s]
    have : l.length = P.length := by rw [hc]; simp
    rw [hc1, show decide ((P.length : Int) < (l.length : Int)) = false by rw [decide_eq_false_iff_not]; omega, cond_and, Bool.and_false, if_neg (by decide)]
    simp [asAll]
  | y :: R, P, n + 1, x, h, hc => by
    have hlen : l.length = P.length + (R.length + 1) := by rw [hc]; simp
    simp only [basculeref_PostFault.l0, basculeref_PostFault.l0s]
    rw [hc1, show decide ((P.length : Int) < (l.length : Int)) = true by rw [decide_eq_true_eq]; omega, cond_and, Bool.and_true]
    cases x with
    | false => rw [if_neg (by decide)]; rfl
    | true =>
      have hg : l.getD P.length A0 = y := by rw [hc]; exact getD_at _ _ _ _
      have hy : basculeref_CoinFault.run y.2.2.2.1 = some (coinE y.2.2.2.1) := by
        have h1 := coin_check _ (hw y (by rw [hc]; simp))
        rw [coin_fault _ (hw y (by rw [hc]; simp)), h1]; rfl
      rw [if_pos rfl, if_pos (by omega), toNat_nat, hg, isChain_run, Option.bind_some, hy, upTo_run]
      simp only [cond_and, cond_or]
      have e1 : (if (chainB y.2.1 == true) = true then some (coinE y.2.2.2.1) else some 0) = some (if chainB y.2.1 = true then coinE y.2.2.2.1 else 0) := by cases chainB y.2.1 <;> rfl
      rw [e1, Option.bind_some]
      have e2 : (if ((chainB y.2.1 && ((if chainB y.2.1 = true then coinE y.2.2.2.1 else 0) == 0)) == true) = true then some (decide (0 ≤ y.2.2.1) && decide (y.2.2.1 ≤ 77)) else some false) = some ((chainB y.2.1 && (coinE y.2.2.2.1 == 0)) && (decide (0 ≤ y.2.2.1) && decide (y.2.2.1 ≤ 77))) := by
        cases chainB y.2.1 with
        | false => rfl
        | true => simp only [if_true, Bool.true_and]; cases (coinE y.2.2.2.1 == 0) <;> rfl
      rw [e2, Option.bind_some]
      have hb : ((chainB y.2.1 && ((if chainB y.2.1 = true then coinE y.2.2.2.1 else 0) == 0) && ((chainB y.2.1 && (coinE y.2.2.2.1 == 0)) && (decide (0 ≤ y.2.2.1) && decide (y.2.2.1 ≤ 77)))) && (y.2.1 == c1.1 || decide (y.2.2.1 ≤ 8))) = asB c1.1 y := by
        unfold asB
        have hd : (decide (y.2.2.1 ≥ 0) && decide (y.2.2.1 < 78)) = (decide (0 ≤ y.2.2.1) && decide (y.2.2.1 ≤ 77)) := by rw [Bool.eq_iff_iff]; simp only [Bool.and_eq_true, decide_eq_true_eq]; omega
        rw [hd]
        cases chainB y.2.1 with
        | false => rfl
        | true => simp only [if_true, Bool.true_and]; cases (coinE y.2.2.2.1 == 0) <;> simp
      rw [hb]
      have hf := flt_inner (fun x3 x4 c1 => basculeref_PostFault.j0 (basculeref_PostFault.l0 K Xt n) x3 x4 c1) K c1 l hc1 hl y P.length (by omega) P.length 0 K (asB c1.1 y) (by omega) (by omega)
      rw [show (((0 : Nat)) : Int) = 0 from rfl, List.drop_zero, show l.take P.length = P by rw [hc]; simp] at hf
      refine hf.trans ?_
      unfold basculeref_PostFault.j0
      rw [i64_succ (by omega)]
      have ih := flt_outer Xt K hK c1 l hc1 hl hw R (P ++ [y]) n (asB c1.1 y && P.all (difB y)) (by simpa using h) (by simp [hc])
      rw [List.length_append] at ih
      refine Eq.trans ih ?_
      simp only [asAll, Bool.true_and]

/-! what was sent -/

def snB (ch : Int) (e : List Int) (i : Int) (b : BodyD) : Bool := (bodyE b == 0) && (b.2.2.2.2.1 == i) && (b.2.2.1 == ch) && beqD (.arr 32 (.int .u8)) b.2.2.2.1 e

def snAll (ch : Int) (e : List Int) : List BodyD → Nat → Bool
  | [], _ => true
  | b :: R, i => snB ch e (i : Int) b && snAll ch e R (i + 1)

theorem chk_sent {α : Type} (Xt : Bool → Option α) (K : Nat) (c1 : PostD) (e : List Int) (he : post_Emitter.run c1.1 = some e) (l : List BodyD) (hl : l.length ≤ 1000) : ∀ (R P : List BodyD) (n : Nat) (x : Bool), R.length < n → l = P ++ R →
    post_Check.l2 K Xt n x l (l.length : Int) (P.length : Int) c1 = Xt (x && snAll c1.1 e R P.length)
  | R, P, 0, x, h, _ => by omega
  | [], P, n + 1, x, h, hc => by
    simp only [post_Check.l2, post_Check.l2s]
    have : l.length = P.length := by rw [hc]; simp
    rw [if_neg (by rw [decide_eq_true_eq]; omega)]
    simp [snAll]
  | y :: R, P, n + 1, x, h, hc => by
    have hlen : l.length = P.length + (R.length + 1) := by rw [hc]; simp
    simp only [post_Check.l2, post_Check.l2s]
    have hg : l.getD P.length Bd0 = y := by rw [hc]; exact getD_at _ _ _ _
    rw [if_pos (by rw [decide_eq_true_eq]; omega), if_pos (by omega), toNat_nat, hg, body_check, he, i64_succ (by omega)]
    have ih := fun x => chk_sent Xt K c1 e he l hl R (P ++ [y]) n x (by simpa using h) (by simp [hc])
    simp only [List.length_append, List.length_singleton] at ih
    simp only [cond_and]
    cases x with
    | false =>
      rw [if_neg (by decide), Option.bind_some]
      simp only [Bool.false_and, show (false == true) = false from rfl, Bool.false_eq_true, if_false, Option.bind_some]
      refine (ih false).trans ?_
      rfl
    | true =>
      rw [if_pos (by decide), Option.bind_some]
      simp only [Bool.true_and, snAll, snB]
      cases hq : ((bodyE y == 0) && (y.2.2.2.2.1 == (P.length : Int)) && (y.2.2.1 == c1.1)) with
      | false =>
        simp only [show (false == true) = false from rfl, Bool.false_eq_true, if_false, Option.bind_some, Bool.false_and]
        refine (ih false).trans ?_
        rfl
      | true =>
        simp only [BEq.rfl, if_true, Option.bind_some, Bool.true_and]
        refine (ih _).trans ?_
        rfl

theorem flt_sent {α : Type} (Xt : Bool → Option α) (K : Nat) (c1 : PostD) (e : List Int) (he : basculeref_EmitterOf.run c1.1 = some e) (l : List BodyD) (hc1 : c1.2.2.2.2.2.2.1 = l) (hl : l.length ≤ 1000) : ∀ (R P : List BodyD) (n : Nat) (x : Bool), R.length < n → l = P ++ R →
    basculeref_PostFault.l2 K Xt n x (P.length : Int) c1 = Xt (x && snAll c1.1 e R P.length)
  | R, P, 0, x, h, _ => by omega
  | [], P, n + 1, x, h, hc => by
    simp only [basculeref_PostFault.l2, basculeref_PostFault.l2s]
    have : l.length = P.length := by rw [hc]; simp
    rw [hc1, show decide ((P.length : Int) < (l.length : Int)) = false by rw [decide_eq_false_iff_not]; omega, cond_and, Bool.and_false, if_neg (by decide)]
    simp [snAll]
  | y :: R, P, n + 1, x, h, hc => by
    have hlen : l.length = P.length + (R.length + 1) := by rw [hc]; simp
    simp only [basculeref_PostFault.l2, basculeref_PostFault.l2s]
    rw [hc1, show decide ((P.length : Int) < (l.length : Int)) = true by rw [decide_eq_true_eq]; omega, cond_and, Bool.and_true]
    cases x with
    | false => rw [if_neg (by decide)]; rfl
    | true =>
      have hg : l.getD P.length Bd0 = y := by rw [hc]; exact getD_at _ _ _ _
      rw [if_pos rfl, if_pos (by omega), toNat_nat, hg, body_fault, he, Option.bind_some, i64_succ (by omega)]
      have ih := fun x => flt_sent Xt K c1 e he l hc1 hl R (P ++ [y]) n x (by simpa using h) (by simp [hc])
      simp only [List.length_append, List.length_singleton] at ih
      simp only [cond_and, snAll, snB, Bool.true_and]
      cases hq : ((bodyE y == 0) && (y.2.2.2.2.1 == (P.length : Int)) && (y.2.2.1 == c1.1)) with
      | false =>
        simp only [show (false == true) = false from rfl, Bool.false_eq_true, if_false, Option.bind_some, Bool.false_and]
        refine (ih false).trans ?_
        rfl
      | true =>
        simp only [BEq.rfl, if_true, Option.bind_some, Bool.true_and]
        refine (ih _).trans ?_
        rfl

theorem post_both (p : PostD) (hn : -9223372036854775808 ≤ p.2.1 ∧ p.2.1 ≤ 9223372036854775807) (hw : ∀ a ∈ p.2.2.2.1, CoinOk a.2.2.2.1) : ∃ e : Int, post_Check.run p = some e ∧ basculeref_PostFault.run p = some e := by
  obtain ⟨e, s1, s2, _⟩ := sets_both p.2.2.1
  obtain ⟨m, m1, m2⟩ := emitter_both p.1
  unfold post_Check.run post_Check.top basculeref_PostFault.run basculeref_PostFault.top
  rw [chain_run, isChain_run, Option.bind_some, Option.bind_some, s1, s2, upTo_run]
  simp only [cond_and]
  have hnow : (decide (0 ≤ IntKind.i64.wrap (p.2.1 - 1)) && decide (IntKind.i64.wrap (p.2.1 - 1) ≤ 1099511627775)) = (decide (p.2.1 ≥ 1) && decide (p.2.1 ≤ 1099511627776)) := by
    by_cases hmin : p.2.1 = -9223372036854775808
    · rw [hmin]; rfl
    · rw [wrap_i64 (by omega) (by omega), Bool.eq_iff_iff]
      simp only [Bool.and_eq_true, decide_eq_true_eq]; omega
  rw [hnow]
  have e1 : (if (chainB p.1 == true) = true then some (decide (p.2.1 ≥ 1) && decide (p.2.1 ≤ 1099511627776)) else some false) = some (chainB p.1 && (decide (p.2.1 ≥ 1) && decide (p.2.1 ≤ 1099511627776))) := by cases chainB p.1 <;> rfl
  rw [e1, Option.bind_some]
  have e2 : ∀ b : Bool, (if (b == true) = true then some e else some 0) = some (if b = true then e else 0) := fun b => by cases b <;> rfl
  rw [e2, e2, Option.bind_some, Option.bind_some]
  have hs : (p.2.2.2.2.2.1 == (p.2.2.2.2.2.2.1.length : Int)) = ((p.2.2.2.2.2.2.1.length : Int) == p.2.2.2.2.2.1) := by rw [Bool.eq_iff_iff, beq_iff_eq, beq_iff_eq]; exact eq_comm
  have ha : (chainB p.1 && (chainB p.1 && (decide (p.2.1 ≥ 1) && decide (p.2.1 ≤ 1099511627776)))) = (chainB p.1 && decide (p.2.1 ≥ 1) && decide (p.2.1 ≤ 1099511627776)) := by cases chainB p.1 <;> simp
  rw [ha, hs]
  generalize hok : (chainB p.1 && decide (p.2.1 ≥ 1) && decide (p.2.1 ≤ 1099511627776) && ((if (chainB p.1 && decide (p.2.1 ≥ 1) && decide (p.2.1 ≤ 1099511627776)) = true then e else 0) == 0) && decide ((p.2.2.2.1.length : Int) ≤ 4) && ((p.2.2.2.2.2.2.1.length : Int) == p.2.2.2.2.2.1) && decide (p.2.2.2.2.2.1 ≤ 256)) = ok
  cases ok with
  | false =>
    refine ⟨12, rfl, ?_⟩
    obtain ⟨k, hk⟩ : ∃ k, fuel = k + 1 := ⟨fuel - 1, by rw [fuel_big]⟩
    rw [hk]
    simp only [basculeref_PostFault.l0, basculeref_PostFault.l0s, cond_and, Bool.false_and, Bool.false_eq_true, if_false, basculeref_PostFault.j1, basculeref_PostFault.l2, basculeref_PostFault.l2s, basculeref_PostFault.j2, Bool.not_false, if_true]
  | true =>
    simp only [Bool.and_eq_true, decide_eq_true_eq, beq_iff_eq] at hok
    obtain ⟨⟨⟨_, h4⟩, h5⟩, h6⟩ := hok
    have l1 : p.2.2.2.1.length ≤ 1000 := by omega
    have l2 : p.2.2.2.2.2.2.1.length ≤ 1000 := by omega
    rw [if_neg (by decide)]
    have c1 := chk_outer (fun x3 c1 => post_Check.j1 fuel (fun x2 => some x2) x3 c1) fuel (by rw [fuel_big]; omega) p _ rfl l1 hw p.2.2.2.1 [] fuel true (by rw [fuel_big]; omega) rfl
    have c2 := flt_outer (fun x3 c1 => basculeref_PostFault.j1 fuel (fun x2 => some x2) x3 c1) fuel (by rw [fuel_big]; omega) p _ rfl l1 hw p.2.2.2.1 [] fuel true (by rw [fuel_big]; omega) rfl
    rw [show ((([] : List AssetD).length : Nat) : Int) = 0 from rfl] at c1 c2
    rw [c1, c2]
    unfold post_Check.j1 basculeref_PostFault.j1
    have c3 := fun x => chk_sent (fun x3 => post_Check.j2 (fun x2 => some x2) x3) fuel p m m1 p.2.2.2.2.2.2.1 l2 p.2.2.2.2.2.2.1 [] fuel x (by rw [fuel_big]; omega) rfl
    have c4 := fun x => flt_sent (fun x3 => basculeref_PostFault.j2 (fun x2 => some x2) x3) fuel p m m2 p.2.2.2.2.2.2.1 rfl l2 p.2.2.2.2.2.2.1 [] fuel x (by rw [fuel_big]; omega) rfl
    rw [show ((([] : List BodyD).length : Nat) : Int) = 0 from rfl] at c3 c4
    rw [c3, c4]
    unfold post_Check.j2 basculeref_PostFault.j2
    generalize ((true && asAll p.1 p.2.2.2.1 []) && snAll p.1 m p.2.2.2.2.2.2.1 ([] : List BodyD).length) = b
    cases b <;> exact ⟨_, rfl, rfl⟩

abbrev AssetTy : Ty := .pair (.arr 32 (.int .u8)) (.pair (.int .i64) (.pair (.int .i64) (.pair CoinTy .unit)))
abbrev BodyTy : Ty := .pair (.int .i64) (.pair (.int .i64) (.pair (.int .i64) (.pair (.arr 32 (.int .u8)) (.pair (.int .i64) (.pair (.int .i64) (.pair (.sl (.int .u8)) .unit))))))
abbrev PostTy : Ty := .pair (.int .i64) (.pair (.int .i64) (.pair SetsTy (.pair (.sl AssetTy) (.pair (.arr 3 (.arr 4 (.int .u64))) (.pair (.int .i64) (.pair (.sl BodyTy) .unit))))))

end Go.Bx
