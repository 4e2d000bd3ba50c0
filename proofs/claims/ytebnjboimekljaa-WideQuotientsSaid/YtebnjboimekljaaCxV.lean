/- A part of a framework that reads Go code as functions of plain data; or a law about such functions. -/
import Derived.Test.YtebnjboimekljaaCxU
namespace Go.Bx
set_option linter.unusedVariables false
set_option linter.unusedSimpArgs false
open Go Go.RowKit

def edgesLow (i : Nat) (o : Oper) : Bool := o.after.toList.all fun e => !Region.binds .any e || Nat.blt e.on i
def guardEdge (o : Oper) : Bool := match o.guard with
  | none => true
  | some (j, _) => o.after.toList.any fun e => Region.binds .any e && Nat.beq e.on j

def pairOk (ops : Array Oper) (ms : List Nat) (i : Nat) (oi : Oper) : Nat → List Oper → Bool
  | _, [] => true
  | x, ox :: r => (Nat.ble i x || (ms.getD i 0).testBit x || ox.apart ops oi) && pairOk ops ms i oi (x + 1) r

def dstNe (i : Nat) (oi : Oper) : Nat → List Oper → Bool
  | _, [] => true
  | x, ox :: r => (Nat.beq x i || oi.dst.isNone || decide (ox.dst ≠ oi.dst)) && dstNe i oi (x + 1) r

def rowOk (ops : Array Oper) (ms : List Nat) : Nat → List Oper → Bool
  | _, [] => true
  | i, o :: r => edgesLow i o && guardEdge o && pairOk ops ms i o 0 ops.toList && dstNe i o 0 ops.toList && rowOk ops ms (i + 1) r

/-- whatever order the region's edges allow, it comes to the same -/
def drawOk (ops : Array Oper) : Bool := Region.noSelect ops && rowOk ops (masks ops.toList []) 0 ops.toList

inductive Dep (ops : Array Oper) : Nat → Nat → Prop
  | edge {j : Nat} {o : Oper} {e : Edge} (ho : ops[j]? = some o) (he : e ∈ o.after) (hb : Region.binds .any e = true) : Dep ops e.on j
  | step {x j : Nat} {o : Oper} {e : Edge} (ho : ops[j]? = some o) (he : e ∈ o.after) (hb : Region.binds .any e = true) (h : Dep ops x e.on) : Dep ops x j

theorem maskOf_spec {ops : Array Oper} {acc : List Nat} {j : Nat} {o : Oper} (ho : ops[j]? = some o) (hacc : ∀ k m, acc[k]? = some m → ∀ x, m.testBit x = true → Dep ops x k) :
    ∀ (es : List Edge), (∀ e ∈ es, e ∈ o.after) → ∀ m0, (∀ x, m0.testBit x = true → Dep ops x j) → ∀ x, (es.foldl (fun m e => if Region.binds .any e then m ||| 2 ^ e.on ||| acc.getD e.on 0 else m) m0).testBit x = true → Dep ops x j
  | [], _, _, h0, x, hx => h0 x hx
  | e :: es, hes, m0, h0, x, hx => by
    simp only [List.foldl_cons] at hx
    refine maskOf_spec ho hacc es (fun e' he' => hes e' (List.mem_cons_of_mem _ he')) _ (fun y hy => ?_) x hx
    split at hy
    · rename_i hb
      simp only [Nat.testBit_or, Bool.or_eq_true] at hy
      rcases hy with (hy | hy) | hy
      · exact h0 y hy
      · have : y = e.on := by
          rw [Nat.testBit_two_pow] at hy
          simpa using (of_decide_eq_true hy).symm
        subst this
        exact .edge ho (hes e (by simp)) hb
      · cases hk : acc[e.on]? with
        | none => simp [List.getD, hk] at hy
        | some m => exact .step ho (hes e (by simp)) hb (hacc _ _ hk y (by simpa [List.getD, hk] using hy))
    · exact h0 y hy

theorem masks_spec {ops : Array Oper} : ∀ (l : List Oper) (acc : List Nat), (∀ k, l[k]? = ops[acc.length + k]?) → (∀ k m, acc[k]? = some m → ∀ x, m.testBit x = true → Dep ops x k) →
    ∀ k m, (masks l acc)[k]? = some m → ∀ x, m.testBit x = true → Dep ops x k
  | [], acc, _, hacc, k, m, hk, x, hx => hacc k m hk x hx
  | o :: r, acc, hl, hacc, k, m, hk, x, hx => by
    simp only [masks] at hk
    have h0 : ops[acc.length]? = some o := by simpa using (hl 0).symm
    refine masks_spec r _ (fun k => ?_) (fun k m hk x hx => ?_) k m hk x hx
    · have := hl (k + 1)
      simpa [Nat.add_assoc, Nat.add_comm 1 k] using this
    · rw [List.getElem?_append] at hk
      split at hk
      · exact hacc k m hk x hx
      · rename_i hge
        have hk0 : k = acc.length := by
          rcases Nat.lt_or_ge (k - acc.length) 1 with h | h
          · omega
          · rw [List.getElem?_eq_none (by simpa using h)] at hk; cases hk
        subst hk0
        simp at hk
        subst hk
        exact maskOf_spec h0 hacc _ (fun e he => by simpa using he) 0 (fun x hx => by simp at hx) x hx

theorem pairOk_spec {ops : Array Oper} {ms : List Nat} {i : Nat} {oi : Oper} : ∀ (l : List Oper) (s : Nat), pairOk ops ms i oi s l = true → ∀ k ox, l[k]? = some ox → s + k < i → (ms.getD i 0).testBit (s + k) = true ∨ ox.apart ops oi = true
  | [], _, _, k, ox, h, _ => by simp at h
  | o :: r, s, h, 0, ox, hk, hlt => by
    simp at hk; subst hk
    simp only [pairOk, Bool.and_eq_true, Bool.or_eq_true] at h
    rcases h.1 with (h1 | h1) | h1
    · have := Nat.le_of_ble_eq_true h1; omega
    · exact .inl (by simpa using h1)
    · exact .inr h1
  | o :: r, s, h, k + 1, ox, hk, hlt => by
    simp only [pairOk, Bool.and_eq_true] at h
    have := pairOk_spec r (s + 1) h.2 k ox (by simpa using hk) (by omega)
    rwa [show s + 1 + k = s + (k + 1) by omega] at this

theorem dstNe_spec {i : Nat} {oi : Oper} : ∀ (l : List Oper) (s : Nat), dstNe i oi s l = true → ∀ k ox, l[k]? = some ox → s + k ≠ i → ∀ d, oi.dst = some d → ox.dst ≠ some d
  | [], _, _, k, ox, h, _, _, _ => by simp at h
  | o :: r, s, h, 0, ox, hk, hne, d, hd => by
    simp at hk; subst hk
    simp only [dstNe, Bool.and_eq_true, Bool.or_eq_true, decide_eq_true_eq] at h
    rcases h.1 with (h1 | h1) | h1
    · exact absurd (Nat.eq_of_beq_eq_true h1) (by simpa using hne)
    · rw [hd] at h1; simp at h1
    · rw [hd] at h1; exact h1
  | o :: r, s, h, k + 1, ox, hk, hne, d, hd => by
    simp only [dstNe, Bool.and_eq_true] at h
    exact dstNe_spec r (s + 1) h.2 k ox (by simpa using hk) (by omega) d hd

theorem rowOk_spec {ops : Array Oper} {ms : List Nat} : ∀ (l : List Oper) (s : Nat), rowOk ops ms s l = true → ∀ k o, l[k]? = some o →
    edgesLow (s + k) o = true ∧ guardEdge o = true ∧ pairOk ops ms (s + k) o 0 ops.toList = true ∧ dstNe (s + k) o 0 ops.toList = true
  | [], _, _, k, o, h => by simp at h
  | o :: r, s, h, 0, o', hk => by
    simp at hk; subst hk
    simp only [rowOk, Bool.and_eq_true] at h
    exact ⟨h.1.1.1.1, h.1.1.1.2, h.1.1.2, h.1.2⟩
  | o :: r, s, h, k + 1, o', hk => by
    simp only [rowOk, Bool.and_eq_true] at h
    have := rowOk_spec r (s + 1) h.2 k o' (by simpa using hk)
    rwa [show s + 1 + k = s + (k + 1) by omega] at this

structure DrawFacts (ops : Array Oper) : Prop where
  low : ∀ (i : Nat) (o : Oper), ops[i]? = some o → ∀ e ∈ o.after, Region.binds .any e = true → e.on < i
  grd : ∀ (i : Nat) (o : Oper) (j : Nat) (w : Bool), ops[i]? = some o → o.guard = some (j, w) → ∃ e ∈ o.after, Region.binds .any e = true ∧ e.on = j
  pair : ∀ (x i : Nat) (ox oi : Oper), ops[x]? = some ox → ops[i]? = some oi → x < i → Dep ops x i ∨ ox.apart ops oi = true
  dst : ∀ (x i : Nat) (ox oi : Oper) (d : Nat), ops[x]? = some ox → ops[i]? = some oi → x ≠ i → oi.dst = some d → ox.dst ≠ some d

theorem drawOk_facts {ops : Array Oper} (h : drawOk ops = true) : DrawFacts ops := by
  simp only [drawOk, Bool.and_eq_true] at h
  have hr := rowOk_spec ops.toList 0 h.2
  have row : ∀ i o, ops[i]? = some o → edgesLow i o = true ∧ guardEdge o = true ∧ pairOk ops (masks ops.toList []) i o 0 ops.toList = true ∧ dstNe i o 0 ops.toList = true := fun i o ho => by
    have := hr i o (by simpa using ho)
    simpa using this
  refine ⟨fun i o ho e he hb => ?_, fun i o j w ho hg => ?_, fun x i ox oi hx hi hlt => ?_, fun x i ox oi d hx hi hne hd => ?_⟩
  · have := (row i o ho).1
    simp only [edgesLow, List.all_eq_true] at this
    have := this e (by simpa using he)
    simp only [hb, Bool.not_true, Bool.false_or] at this
    exact Nat.le_of_ble_eq_true this
  · have := (row i o ho).2.1
    simp only [guardEdge, hg, List.any_eq_true, Bool.and_eq_true] at this
    obtain ⟨e, he, hb, hj⟩ := this
    exact ⟨e, by simpa using he, hb, Nat.eq_of_beq_eq_true hj⟩
  · have := pairOk_spec ops.toList 0 (row i oi hi).2.2.1 x ox (by simpa using hx) (by omega)
    rw [Nat.zero_add] at this
    refine this.imp (fun hm => ?_) id
    cases hk : (masks ops.toList [])[i]? with
    | none => simp [List.getD, hk] at hm
    | some m => exact masks_spec ops.toList [] (fun k => by simp) (fun k m hk => by simp at hk) i m hk x (by simpa [List.getD, hk] using hm)
  · exact dstNe_spec ops.toList 0 (row i oi hi).2.2.2 x ox (by simpa using hx) (by omega) d hd

/-- whoever stands behind is listed where all that it waits for is -/
theorem Dep.listed {ops : Array Oper} {listed : Array Bool} (hdown : ∀ j o, ops[j]? = some o → listed.getD j false = true → ∀ e ∈ o.after, Region.binds .any e = true → listed.getD e.on false = true) {x j : Nat} (h : Dep ops x j) :
    (∀ o, ops[j]? = some o → ∀ e ∈ o.after, Region.binds .any e = true → listed.getD e.on false = true) → listed.getD x false = true := by
  induction h with
  | edge ho he hb => exact fun hp => hp _ ho _ he hb
  | step ho he hb _ ih => exact fun hp => ih fun o' ho' => hdown _ o' ho' (hp _ ho _ he hb)

end Go.Bx
