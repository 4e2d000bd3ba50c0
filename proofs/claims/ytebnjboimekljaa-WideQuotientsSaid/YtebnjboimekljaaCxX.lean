/- A part of a framework that reads Go code as functions of plain data; or a law about such functions. -/
import Derived.Test.YtebnjboimekljaaCxW
namespace Go.Bx
set_option linter.unusedVariables false
set_option linter.unusedSimpArgs false
open Go Go.RowKit

theorem mem_iff {l : List Nat} {i : Nat} : mem l i = true ↔ i ∈ l := by
  simp only [mem, List.any_eq_true]
  constructor
  · rintro ⟨x, h1, h2⟩; rw [Nat.eq_of_beq_eq_true h2]; exact h1
  · exact fun h => ⟨i, h, Nat.beq_refl i⟩

theorem mem_addN : ∀ (r l : List Nat) (i : Nat), i ∈ addN l r ↔ i ∈ l ∨ i ∈ r
  | [], l, i => by simp [addN]
  | j :: r, l, i => by
    simp only [addN]
    split
    · rename_i h
      rw [mem_addN r l i, List.mem_cons]
      have := mem_iff.1 h
      constructor
      · rintro (h | h) <;> simp [h]
      · rintro (h | h | h)
        · exact .inl h
        · subst h; exact .inl this
        · exact .inr h
    · rw [mem_addN r (l ++ [j]) i, List.mem_append, List.mem_singleton, List.mem_cons, or_assoc]

theorem closeN_sub {hp : Heap} : ∀ (k : Nat) (l : List Nat) (i : Nat), i ∈ l → i ∈ closeN hp k l
  | 0, _, _, h => h
  | k + 1, l, i, h => by simp only [closeN]; exact closeN_sub k _ i ((mem_addN _ _ _).2 (.inl h))

theorem closeN_mono {hp : Heap} : ∀ (k : Nat) (l l' : List Nat), (∀ i ∈ l, i ∈ l') → ∀ i ∈ closeN hp k l, i ∈ closeN hp k l'
  | 0, _, _, h => h
  | k + 1, l, l', h => by
    simp only [closeN]
    refine closeN_mono k _ _ fun i hi => ?_
    rw [mem_addN] at hi ⊢
    refine hi.imp (h i) fun hi => ?_
    rw [List.mem_flatMap] at hi ⊢
    obtain ⟨j, h1, h2⟩ := hi
    exact ⟨j, h j h1, h2⟩

theorem flatMap_congr' {α β : Type} {l : List α} {f g : α → List β} (h : ∀ a ∈ l, f a = g a) : l.flatMap f = l.flatMap g := by
  induction l with
  | nil => rfl
  | cons a l ih => simp only [List.flatMap_cons, h a (by simp), ih fun a ha => h a (List.mem_cons_of_mem _ ha)]

theorem closeN_agree {hp hp' : Heap} : ∀ (k : Nat) (l : List Nat), Agree (closeN hp k l) hp hp' → closeN hp' k l = closeN hp k l
  | 0, _, _ => rfl
  | k + 1, l, h => by
    simp only [closeN] at h ⊢
    have : (l.flatMap fun i => blkIds (nthB hp' i)) = l.flatMap fun i => blkIds (nthB hp i) := flatMap_congr' fun i hi => by
      rw [h i (closeN_sub k _ i ((mem_addN _ _ _).2 (.inl hi)))]
    rw [this]
    exact closeN_agree k _ h

theorem reach_mono {hp : Heap} {a b : List V} (h : ∀ i ∈ V.idsL a, i ∈ V.idsL b) : ∀ i ∈ reach hp a, i ∈ reach hp b := by
  refine closeN_mono 6 _ _ fun i hi => ?_
  rw [mem_addN] at hi ⊢
  exact hi.imp id (h i)

theorem reach_sub {hp : Heap} {a : List V} : ∀ i ∈ V.idsL a, i ∈ reach hp a := fun i hi => closeN_sub 6 _ i ((mem_addN _ _ _).2 (.inr hi))

theorem idxOf_mem {i k : Nat} : ∀ {l : List Nat}, idxOf l i = some k → i ∈ l
  | [], h => by simp [idxOf] at h
  | j :: r, h => by
    simp only [idxOf] at h
    split at h
    · rename_i e; rw [Nat.eq_of_beq_eq_true e]; simp
    · cases hr : idxOf r i with
      | none => rw [hr] at h; cases h
      | some k => exact List.mem_cons_of_mem _ (idxOf_mem hr)

theorem inn_agree {hp hp' : Heap} {L : List Nat} (h : Agree L hp hp') : inn hp' L = inn hp L := by
  funext i ver
  simp only [inn]
  cases hk : idxOf L i with
  | none => rfl
  | some k => simp only [ver0, h i (idxOf_mem hk)]

theorem getD_mem {L : List Nat} {i : Nat} (h : Nat.blt i L.length = true) : L.getD i 0 ∈ L := by
  have h' : i < L.length := Nat.le_of_ble_eq_true h
  simp [List.getD, List.getElem?_eq_getElem h']

theorem outw_agree {hp hp' : Heap} {L : List Nat} {s : Nat} (h : Agree L hp hp') : outw hp' L s = outw hp L s := by
  funext i ver
  simp only [outw]
  split
  · rename_i hi; simp only [verUp, h _ (getD_mem hi)]
  · rfl

theorem outB_agree {hp hp' : Heap} {L : List Nat} {s k : Nat} (h : Agree L hp hp') (b : Blk) : outB hp' L s k b = outB hp L s k b := by
  cases b <;> simp only [outB, outw_agree h]
  split
  · rename_i hi; simp only [verUp, h _ (getD_mem hi)]
  · rfl

theorem outH_agree {hp hp' : Heap} {L : List Nat} {s : Nat} (h : Agree L hp hp') (d : Heap) : outH hp' L s d = outH hp L s d := by
  simp only [outH]
  exact List.map_congr_left fun x _ => by rw [outw_agree h, outB_agree h]

theorem innH_agree {hp hp' : Heap} {L : List Nat} (h : Agree L hp hp') : ∀ (r : List Nat) (k : Nat), (∀ i ∈ r, i ∈ L) → innH hp' L k r = innH hp L k r
  | [], _, _ => rfl
  | i :: r, k, hr => by
    simp only [innH, h i (hr i (by simp)), inn_agree h, innH_agree h r (k + 1) fun j hj => hr j (List.mem_cons_of_mem _ hj)]

theorem shCall_agree {C : Ctx} {hp hp' : Heap} {dst : Option Nat} {f : List V → Heap → Option Sh} {args : List V} (h : Agree (reach hp args) hp hp') : shCall C hp' dst f args = shCall C hp dst f args := by
  have hr : reach hp' args = reach hp args := closeN_agree 6 _ h
  simp only [shCall, hr, inn_agree h, innH_agree h _ 0 fun _ hi => hi, outw_agree h, outH_agree h]

theorem free_agree {hp hp' : Heap} {d : Nat} (h : nthB hp' d = nthB hp d) : free hp' d = free hp d := by simp only [free, h]

theorem appendE_local {C : Ctx} {hp hp' : Heap} {dst : Option Nat} {τ : Ty} {x xs : V} {o : Out} (ho : appendE C hp dst τ x xs = some o) (h : Agree x.ids hp hp') (hw : Agree o.wr hp hp') : ∃ o', appendE C hp' dst τ x xs = some o' ∧ OutLoc hp hp' o o' := by
  unfold appendE at ho ⊢
  cases ha : addend xs τ with
  | none => rw [ha] at ho; cases ho
  | some m =>
    rw [ha] at ho
    simp only at ho ⊢
    cases x <;> simp only at ho ⊢ <;> first | (cases ho; done) | skip
    case full τ' l =>
      split at ho
      · rename_i e
        subst e
        simp only [dite_true]
        cases dst with
        | none => cases ho
        | some d =>
          simp only at ho ⊢
          split at ho
          · rename_i hf
            cases hz : C.frz.any (Nat.beq d) <;> rw [hz] at ho <;> cases ho
            all_goals
              rw [free_agree (hw _ (by simp [Out.wr])), if_pos hf]
              exact ⟨_, rfl, .eff .set⟩
          · cases ho
      · cases ho
    case app id ver =>
      have hb : nthB hp' id = nthB hp id := h id (by simp [V.ids])
      rw [hb]
      cases hn : nthB hp id with
      | none => rw [hn] at ho; cases ho
      | some b =>
        rw [hn] at ho
        cases b <;> simp only at ho ⊢ <;> first | (cases ho; done) | skip
        split at ho
        · rename_i e
          subst e
          simp only [dite_true]
          split at ho
          · rename_i hv
            cases ho
            rw [if_pos hv]
            exact ⟨_, rfl, .eff .set⟩
          · cases ho
        · cases ho
    case view id p τ' n lo hi =>
      rw [rd_agree _ h]
      cases dst with
      | none => cases ho
      | some d =>
        cases hr : rd hp (.view id p τ' n lo hi) <;> rw [hr] at ho <;> (try simp only at ho ⊢) <;> first | (cases ho; done) | skip
        rename_i t l
        cases t <;> simp only at ho ⊢ <;> first | (cases ho; done) | skip
        split at ho
        · rename_i e
          subst e
          simp only [dite_true]
          split at ho
          · rename_i hf
            cases ho
            rw [free_agree (hw _ (by simp [Out.wr])), if_pos hf]
            exact ⟨_, rfl, .eff .set⟩
          · cases ho
        · cases ho

theorem copyE_local {hp hp' : Heap} {τ : Ty} {x xs : V} {o : Out} (ho : copyE hp τ x xs = some o) (h : Agree x.ids hp hp') : ∃ o', copyE hp' τ x xs = some o' ∧ OutLoc hp hp' o o' := by
  unfold copyE at ho ⊢
  cases ha : addend xs τ with
  | none => rw [ha] at ho; cases x <;> cases ho
  | some m =>
    rw [ha] at ho
    cases x <;> simp only at ho ⊢ <;> first | (cases ho; done) | skip
    rename_i id p τ' n lo hi
    rw [h id (by simp [V.ids])]
    split at ho
    · rename_i hb
      split at ho
      · rename_i hg
        split at ho
        · rename_i e
          subst e
          simp only [dite_true]
          split at ho
          · rename_i hc
            rw [if_pos hc]
            split at ho
            · rename_i hs
              cases ho
              rw [hs]
              exact ⟨_, rfl, .eff .set⟩
            · cases ho
          · cases ho
        · cases ho
      · cases ho
    · cases ho

end Go.Bx
