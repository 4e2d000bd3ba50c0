/- A part of a framework that reads Go code as functions of plain data; or a law about such functions. -/
import Derived.Test.YtbkkahkikjifkaaLawGuardSame
import Derived.Test.YtbkkahkikjifkaaFnGuardWaits0
namespace Go.Bx
open Go
set_option linter.unusedSimpArgs false
set_option linter.unusedVariables false
def idB (b : BodyD) : Int := IntKind.i64.wrap (IntKind.i64.wrap (b.2.2.1 * 256) + b.2.2.2.2.1)
theorem id_run (b : BodyD) : guard_Id.run b = some (idB b) := rfl
theorem idOf_run (b : BodyD) : basculeref_IdOf.run b = some (idB b) := by
 unfold basculeref_IdOf.run basculeref_IdOf.top idB
 rw [Int.mul_comm]
def rmv (id : Int) : List BodyD -> Option (BodyD × List BodyD)
 | [] => none
 | b :: l => if idB b = id then some (b, l) else (rmv id l).map fun p => (p.1, b :: p.2)
def mv1 (id : Int) (H D : List BodyD) : List BodyD × List BodyD := match rmv id H with
 | none => (H, D)
 | some p => (p.2, D ++ [p.1])
def mv : List Int -> List BodyD -> List BodyD -> List BodyD × List BodyD
 | [], H, D => (H, D)
 | id :: l, H, D => mv l (mv1 id H D).1 (mv1 id H D).2
def mvR : List Int -> List BodyD -> List BodyD -> List BodyD × List BodyD
 | [], H, D => (H, D)
 | id :: l, H, D => mvR l (H.filter fun b => !(idB b == id)) (D ++ H.filter fun b => idB b == id)
theorem rmv_len {id : Int} : ∀ {l : List BodyD} {p : BodyD × List BodyD}, rmv id l = some p -> p.2.length + 1 = l.length
 | b :: l, p, h => by
  unfold rmv at h
  split at h
  ·cases h; rfl
  ·cases hr : rmv id l with
   | none => rw [hr] at h; cases h
   | some q =>
    rw [hr] at h; cases h
    have := rmv_len hr
    simp; omega
theorem mv1_len (id : Int) (H D : List BodyD) : (mv1 id H D).1.length + (mv1 id H D).2.length = H.length + D.length := by
 unfold mv1
 cases h : rmv id H with
 | none => rfl
 | some p => have := rmv_len h; simp; omega
theorem mv_len : ∀ (l : List Int) (H D : List BodyD), (mv l H D).1.length + (mv l H D).2.length = H.length + D.length
 | [], H, D => rfl
 | id :: l, H, D => (mv_len l _ _).trans (mv1_len id H D)
theorem rmv_filter {id : Int} : ∀ {l : List BodyD}, (l.map idB).Nodup -> (rmv id l = none /\ (l.filter fun b => idB b == id) = [] /\ (l.filter fun b => !(idB b == id)) = l) \/ (∃ b r, rmv id l = some (b, r) /\ (l.filter fun b => idB b == id) = [b] /\ (l.filter fun b => !(idB b == id)) = r)
 | [], _ => .inl ⟨rfl, rfl, rfl⟩
 | b :: l, h => by
  rw [List.map_cons, List.nodup_cons] at h
  by_cases hb : idB b = id
  ·have hno : ∀ c ∈ l, idB c ≠ id := fun c hc he => h.1 (List.mem_map.2 ⟨c, hc, he.trans hb.symm⟩)
   refine .inr ⟨b, l, by unfold rmv; rw [if_pos hb], ?_, ?_⟩
   ·rw [List.filter_cons_of_pos (by simpa using hb), List.filter_eq_nil_iff.2 (fun c hc => by simpa using hno c hc)]
   ·rw [List.filter_cons_of_neg (by simpa using hb), List.filter_eq_self.2 (fun c hc => by simpa using hno c hc)]
  ·have e1 : ((b :: l).filter fun b => idB b == id) = l.filter fun b => idB b == id := List.filter_cons_of_neg (by simpa using hb)
   have e2 : ((b :: l).filter fun b => !(idB b == id)) = b :: l.filter fun b => !(idB b == id) := List.filter_cons_of_pos (by simpa using hb)
   rcases rmv_filter (id := id) h.2 with ⟨h1, h2, h3⟩ | ⟨c, r, h1, h2, h3⟩
   ·exact .inl ⟨by unfold rmv; rw [if_neg hb, h1]; rfl, by rw [e1, h2], by rw [e2, h3]⟩
   ·exact .inr ⟨c, b :: r, by unfold rmv; rw [if_neg hb, h1]; rfl, by rw [e1, h2], by rw [e2, h3]⟩
theorem mv_same : ∀ (l : List Int) (H D : List BodyD), (H.map idB).Nodup -> mv l H D = mvR l H D
 | [], _, _, _ => rfl
 | id :: l, H, D, h => by
  have hs : ((H.filter fun b => !(idB b == id)).map idB).Nodup := List.Nodup.sublist (List.Sublist.map _ List.filter_sublist) h
  unfold mv mvR mv1
  rcases rmv_filter (id := id) h with ⟨h1, h2, h3⟩ | ⟨c, r, h1, h2, h3⟩
  ·rw [h1, h2, h3, List.append_nil]
   exact mv_same l H D h
  ·rw [h1, h2]
   rw [h3] at hs ⊢
   exact mv_same l r (D ++ [c]) hs
section
variable {α : Type} (K : Nat) (ids : List Int) (hi : ids.length <= 1000) (c0 c1 c2 c3 : List QD) (c4 c5 : List Int) (c6 : List BodyD) (p0 p10 p11 : List Int) (p12 : Int) (g : GateD) (q0 q10 q11 : List Int) (q12 : Int) (q20 q21 : List Int) (q22 : Int)
theorem moved_in (Xt : List Int -> Int -> Int -> List QD -> List QD -> List QD -> List QD -> List Int -> List Int -> List BodyD -> List BodyD -> List Int -> List Int -> List Int -> Int -> GateD -> List BodyD -> List Int -> List Int -> List Int -> Int -> List Int -> List Int -> Int -> Option α) (L J id : Int) (H D : List BodyD) (hH : H.length + D.length <= 3000000) :
  ∀ (R P : List BodyD) (n : Nat), R.length < n -> H = P ++ R ->
  guard_passed_s1.l1 K Xt n id ids L J H (H.length : Int) (P.length : Int) c0 c1 c2 c3 c4 c5 c6 D p0 p10 p11 p12 g H q0 q10 q11 q12 q20 q21 q22 =
   match rmv id R with
   | none => Xt ids L J c0 c1 c2 c3 c4 c5 c6 D p0 p10 p11 p12 g H q0 q10 q11 q12 q20 q21 q22
   | some p => Xt ids L J c0 c1 c2 c3 c4 c5 c6 (D ++ [p.1]) p0 p10 p11 p12 g (P ++ p.2) q0 q10 q11 q12 q20 q21 q22
 | R, P, 0, h, _ => by omega
 | [], P, n + 1, h, hc => by
  simp only [guard_passed_s1.l1, guard_passed_s1.l1s]
  have : H.length = P.length := by rw [hc]; simp
  rw [if_neg (by rw [decide_eq_true_eq]; omega)]
  rfl
 | b :: R, P, n + 1, h, hc => by
  have hlen : H.length = P.length + (R.length + 1) := by rw [hc]; simp
  have hg : H.getD P.length (0, 0, 0, List.replicate 32 0, 0, 0, [], ()) = b := by rw [hc]; exact getD_at _ _ _ _
  simp only [guard_passed_s1.l1, guard_passed_s1.l1s]
  rw [if_pos (by rw [decide_eq_true_eq]; omega), if_pos (by omega), toNat_nat, hg, id_run, Option.bind_some, i64_succ (by omega)]
  unfold rmv
  by_cases hb : idB b = id
  ·have k1 : cutL H 0 (P.length : Int) = P := by rw [hc]; simp [cutL]
   have k2 : cutL H ((P.length + 1 : Nat) : Int) (H.length : Int) = R := by
    unfold cutL
    rw [toNat_nat, toNat_nat, List.take_of_length_le (by simp), hc]
    rw [show P.length + 1 = (P ++ [b]).length by simp, show P ++ b :: R = (P ++ [b]) ++ R by simp, List.drop_left]
   rw [if_pos (show (idB b == id) = true by simpa using hb), if_pos hb, if_pos (fitB_small (by omega) (by decide)), if_pos (by refine ⟨?_, ?_, ?_, ?_⟩ <;> first | trivial | omega), if_pos (by omega), k1, k2, if_pos (fitB_small (by omega) (by decide))]
  ·rw [if_neg (show ¬ (idB b == id) = true by simpa using hb), if_neg hb]
   have ih := moved_in Xt L J id H D hH R (P ++ [b]) n (by simpa using h) (by simp [hc])
   rw [List.length_append] at ih
   refine Eq.trans ih ?_
   cases rmv id R with
   | none => rfl
   | some p => simp
theorem moved_out (Xt : List QD -> List QD -> List QD -> List QD -> List Int -> List Int -> List BodyD -> List BodyD -> List Int -> List Int -> List Int -> Int -> GateD -> List BodyD -> List Int -> List Int -> List Int -> Int -> List Int -> List Int -> Int -> Option α) (hK : 3000000 < K) (hi : ids.length <= 1000) :
  ∀ (R P : List Int) (n : Nat) (H D : List BodyD), R.length < n -> ids = P ++ R -> H.length + D.length <= 3000000 ->
  guard_passed_s1.l0 K Xt n ids (ids.length : Int) (P.length : Int) c0 c1 c2 c3 c4 c5 c6 D p0 p10 p11 p12 g H q0 q10 q11 q12 q20 q21 q22 =
   Xt c0 c1 c2 c3 c4 c5 c6 (mv R H D).2 p0 p10 p11 p12 g (mv R H D).1 q0 q10 q11 q12 q20 q21 q22
 | R, P, 0, H, D, h, _, _ => by omega
 | [], P, n + 1, H, D, h, hc, _ => by
  simp only [guard_passed_s1.l0, guard_passed_s1.l0s]
  have : ids.length = P.length := by rw [hc]; simp
  rw [if_neg (by rw [decide_eq_true_eq]; omega)]
  rfl
 | id :: R, P, n + 1, H, D, h, hc, hH => by
  have hlen : ids.length = P.length + (R.length + 1) := by rw [hc]; simp
  have hg : ids.getD P.length 0 = id := by rw [hc]; exact getD_at _ _ _ _
  simp only [guard_passed_s1.l0, guard_passed_s1.l0s]
  rw [if_pos (by rw [decide_eq_true_eq]; omega), if_pos (by omega), toNat_nat, hg]
  have hin := moved_in K ids c0 c1 c2 c3 c4 c5 c6 p0 p10 p11 p12 g q0 q10 q11 q12 q20 q21 q22 (fun x27 x28 x29 c0 c1 c2 c3 c4 c5 c6 c7 c10p0 c10p1p0 c10p1p1 c10p1p2 c10p2 c10p4 c12p0 c12p1p0 c12p1p1 c12p1p2 c12p2p0 c12p2p1 c12p2p2 => guard_passed_s1.j0 (guard_passed_s1.l0 K Xt n) x27 x28 x29 c0 c1 c2 c3 c4 c5 c6 c7 c10p0 c10p1p0 c10p1p1 c10p1p2 c10p2 c10p4 c12p0 c12p1p0 c12p1p1 c12p1p2 c12p2p0 c12p2p1 c12p2p2) (ids.length : Int) (P.length : Int) id H D hH H [] K (by omega) rfl
  simp only [List.length_nil, List.nil_append] at hin
  rw [show ((0 : Nat) : Int) = 0 from rfl] at hin
  refine Eq.trans hin ?_
  have ih := fun H D hH => moved_out Xt hK hi R (P ++ [id]) n H D (by simpa using h) (by simp [hc]) hH
  rw [List.length_append] at ih
  have hm := mv1_len id H D
  unfold mv
  unfold mv1 at hm ⊢
  cases hr : rmv id H with
  | none =>
   rw [hr] at hm
   simp only [guard_passed_s1.j0]
   rw [i64_succ (by omega)]
   exact ih H D hH
  | some p =>
   rw [hr] at hm
   simp only [guard_passed_s1.j0]
   rw [i64_succ (by omega)]
   exact ih p.2 (D ++ [p.1]) (by simp only [] at hm; omega)
theorem movedR_in (Xt : List Int -> Int -> Int -> GuardD -> List Int -> List Int -> List Int -> Int -> List Int -> List Int -> Int -> List BodyD -> List BodyD -> Option α) (L J id : Int) (s : GuardD) (H : List BodyD) (hH : H.length <= 3000000) :
  ∀ (R P : List BodyD) (n : Nat) (D E : List BodyD), R.length < n -> H = P ++ R -> D.length + E.length + R.length <= 3000000 ->
  basculeref_waits.l1 K Xt n id ids L J H (H.length : Int) (P.length : Int) s q0 q10 q11 q12 q20 q21 q22 D E = Xt ids L J s q0 q10 q11 q12 q20 q21 q22 (D ++ R.filter fun b => idB b == id) (E ++ R.filter fun b => !(idB b == id))
 | R, P, 0, D, E, h, _, _ => by omega
 | [], P, n + 1, D, E, h, hc, _ => by
  simp only [basculeref_waits.l1, basculeref_waits.l1s]
  have : H.length = P.length := by rw [hc]; simp
  rw [if_neg (by rw [decide_eq_true_eq]; omega)]
  simp
 | b :: R, P, n + 1, D, E, h, hc, hB => by
  have hlen : H.length = P.length + (R.length + 1) := by rw [hc]; simp
  have hg : H.getD P.length (0, 0, 0, List.replicate 32 0, 0, 0, [], ()) = b := by rw [hc]; exact getD_at _ _ _ _
  simp only [List.length_cons] at hB
  simp only [basculeref_waits.l1, basculeref_waits.l1s, basculeref_waits.j0]
  rw [if_pos (by rw [decide_eq_true_eq]; omega), if_pos (by omega), toNat_nat, hg, idOf_run, Option.bind_some, i64_succ (by omega)]
  have ih := fun D E hB => movedR_in Xt L J id s H hH R (P ++ [b]) n D E (by simpa using h) (by simp [hc]) hB
  rw [List.length_append] at ih
  by_cases hb : idB b = id
  ·rw [if_pos (show (idB b == id) = true by simpa using hb), if_pos (fitB_small (by omega) (by decide))]
   refine Eq.trans (ih (D ++ [b]) E (by simp; omega)) ?_
   rw [List.filter_cons_of_pos (by simpa using hb), List.filter_cons_of_neg (by simpa using hb)]
   simp
  ·rw [if_neg (show ¬ (idB b == id) = true by simpa using hb), if_pos (fitB_small (by omega) (by decide))]
   refine Eq.trans (ih D (E ++ [b]) (by simp; omega)) ?_
   rw [List.filter_cons_of_neg (by simpa using hb), List.filter_cons_of_pos (by simpa using hb)]
   simp
theorem filter_len (id : Int) : ∀ (H : List BodyD), (H.filter fun b => idB b == id).length + (H.filter fun b => !(idB b == id)).length = H.length
 | [] => rfl
 | b :: H => by
  have := filter_len id H
  by_cases hb : idB b = id
  ·rw [List.filter_cons_of_pos (by simpa using hb), List.filter_cons_of_neg (by simpa using hb)]; simp; omega
  ·rw [List.filter_cons_of_neg (by simpa using hb), List.filter_cons_of_pos (by simpa using hb)]; simp; omega
theorem movedR_out (Xt : GuardD -> List Int -> List Int -> List Int -> Int -> List Int -> List Int -> Int -> List BodyD -> Option α) (hK : 3000000 < K) (hi : ids.length <= 1000) (s0 : List Int) (s1 s2 : GateD) (s3 : List Int × List Int × Unit) (s5 : List BodyD) :
  ∀ (R P : List Int) (n : Nat) (H D : List BodyD), R.length < n -> ids = P ++ R -> H.length + D.length <= 3000000 ->
  basculeref_waits.l0 K Xt n ids (ids.length : Int) (P.length : Int) (s0, s1, s2, s3, H, s5, ()) q0 q10 q11 q12 q20 q21 q22 D =
   Xt (s0, s1, s2, s3, (mvR R H D).1, s5, ()) q0 q10 q11 q12 q20 q21 q22 (mvR R H D).2
 | R, P, 0, H, D, h, _, _ => by omega
 | [], P, n + 1, H, D, h, hc, _ => by
  simp only [basculeref_waits.l0, basculeref_waits.l0s]
  have : ids.length = P.length := by rw [hc]; simp
  rw [if_neg (by rw [decide_eq_true_eq]; omega)]
  rfl
 | id :: R, P, n + 1, H, D, h, hc, hH => by
  have hlen : ids.length = P.length + (R.length + 1) := by rw [hc]; simp
  have hg : ids.getD P.length 0 = id := by rw [hc]; exact getD_at _ _ _ _
  simp only [basculeref_waits.l0, basculeref_waits.l0s]
  rw [if_pos (by rw [decide_eq_true_eq]; omega), if_pos (by omega), toNat_nat, hg]
  have hin := movedR_in K ids q0 q10 q11 q12 q20 q21 q22 (fun x33 x34 x35 c2 c4p0 c4p1p0 c4p1p1 c4p1p2 c4p2p0 c4p2p1 c4p2p2 c32 c57 => basculeref_waits.j1 (basculeref_waits.l0 K Xt n) x33 x34 x35 c2 c4p0 c4p1p0 c4p1p1 c4p1p2 c4p2p0 c4p2p1 c4p2p2 c32 c57) (ids.length : Int) (P.length : Int) id (s0, s1, s2, s3, H, s5, ()) H (by omega) H [] K D [] (by omega) rfl (by simp; omega)
  simp only [List.length_nil, List.nil_append] at hin
  rw [show ((0 : Nat) : Int) = 0 from rfl] at hin
  refine Eq.trans hin ?_
  have hf := filter_len id H
  simp only [basculeref_waits.j1, basculeref_waits.j2]
  rw [i64_succ (by omega)]
  have ih := movedR_out Xt hK hi s0 s1 s2 s3 s5 R (P ++ [id]) n (H.filter fun b => !(idB b == id)) (D ++ H.filter fun b => idB b == id) (by simpa using h) (by simp [hc]) (by rw [List.length_append]; omega)
  rw [List.length_append] at ih
  exact ih
end
end Go.Bx
