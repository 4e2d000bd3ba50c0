/- A part of a framework that reads Go code as functions of plain data; or a law about such functions. -/
import Derived.Test.YtbkkahkikjifkaaLawBeq
namespace Go.Bx
set_option linter.unusedVariables false
set_option linter.unusedSimpArgs false
open Go
def EqOk {κ : Type} (eq : κ -> κ -> Bool) : Prop := ∀ a b, eq a b = true ↔ a = b
theorem eqOk_int {k : IntKind} : EqOk (beqD (.int k)) := fun a b => by simp [beqD]
section
variable {κ ν : Type} {eq : κ -> κ -> Bool}
theorem idxM_mem (h : EqOk eq) (a : κ) : ∀ l : List (κ × ν), idxM eq a l < l.length ↔ a ∈ l.map (·.1)
 | [] => by simp [idxM]
 | p :: l => by
  have ih := idxM_mem h a l
  cases hb : eq a p.1 with
  | true => simp only [idxM, hb, List.length_cons, List.map_cons, List.mem_cons]; simp [(h a p.1).1 hb]
  | false =>
   have hne : a ≠ p.1 := fun e => by rw [(h a p.1).2 e] at hb; cases hb
   simp only [idxM, hb, List.length_cons, List.map_cons, List.mem_cons]
   constructor
   ·intro hlt; exact .inr (ih.1 (by omega))
   ·rintro (e | e)
    ·exact absurd e hne
    ·have := ih.2 e; omega
theorem blt_iff {a b : Nat} : Nat.blt a b = true ↔ a < b := by simp [Nat.blt, Nat.ble_eq]; omega
theorem putM_keys : ∀ (l : List (κ × ν)) (i : Nat) (v : ν), (putM l i v).map (·.1) = l.map (·.1)
 | [], _, _ => rfl
 | _ :: _, 0, _ => rfl
 | p :: l, i + 1, v => by simp [putM, putM_keys l i v]
theorem setM_keys [DecidableEq κ] (h : EqOk eq) (a : κ) (v : ν) (l : List (κ × ν)) : (setM eq a v l).map (·.1) = if a ∈ l.map (·.1) then l.map (·.1) else l.map (·.1) ++ [a] := by
 by_cases hm : a ∈ l.map (·.1)
 ·have := (idxM_mem h a l).2 hm
  rw [if_pos hm]
  unfold setM
  rw [blt_iff.2 this]
  exact putM_keys _ _ _
 ·have : ¬ idxM eq a l < l.length := fun hlt => hm ((idxM_mem h a l).1 hlt)
  rw [if_neg hm]
  unfold setM
  cases hb : Nat.blt (idxM eq a l) l.length with
  | true => exact absurd (blt_iff.1 hb) this
  | false => simp
end
structure Seen {κ : Type} (K P : List κ) : Prop where
 nd : K.Nodup
 mem : ∀ a, a ∈ K ↔ a ∈ P
 le : K.length <= P.length
 eq : K.length = P.length ↔ P.Nodup
theorem Seen.nil {κ : Type} : Seen ([] : List κ) [] := ⟨List.nodup_nil, by simp, by simp, by simp⟩
theorem Seen.old {κ : Type} {K P : List κ} (h : Seen K P) {a : κ} (ha : a ∈ K) : Seen K (P ++ [a]) := by
 have hP := (h.mem a).1 ha
 refine ⟨h.nd, fun b => ?_, by have := h.le; simp; omega, ?_⟩
 ·rw [h.mem, List.mem_append, List.mem_singleton]
  exact ⟨.inl, fun hb => hb.elim id fun e => e ▸ hP⟩
 ·constructor
  ·intro e; have := h.le; simp at e; omega
  ·intro hn
   have := (List.nodup_append.1 hn).2.2 a hP a (by simp)
   exact absurd rfl this
theorem Seen.new {κ : Type} {K P : List κ} (h : Seen K P) {a : κ} (ha : a ∉ K) : Seen (K ++ [a]) (P ++ [a]) := by
 have hP : a ∉ P := fun hp => ha ((h.mem a).2 hp)
 have nd : ∀ {L : List κ}, a ∉ L -> ((L ++ [a]).Nodup ↔ L.Nodup) := fun {L} hL => by
  rw [List.nodup_append]
  constructor
  ·exact fun h => h.1
  ·intro h
   refine ⟨h, by simp, fun x hx y hy e => ?_⟩
   simp at hy; subst hy; subst e; exact hL hx
 refine ⟨(nd ha).2 h.nd, fun b => by simp [h.mem b], by have := h.le; simp; omega, ?_⟩
 rw [nd hP, <- h.eq]
 simp
theorem Seen.lt {κ : Type} {K P : List κ} (h : Seen K P) : K.length < P.length ↔ ¬ P.Nodup := by
 have := h.le
 rw [<- h.eq]; omega
end Go.Bx
