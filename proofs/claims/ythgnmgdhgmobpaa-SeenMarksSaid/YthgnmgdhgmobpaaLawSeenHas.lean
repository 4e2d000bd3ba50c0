/- A part of a framework that reads Go code as functions of plain data; or a law about such functions. -/
import Derived.Test.YthgnmgdhgmobpaaLawBase
import Derived.Test.YthgnmgdhgmobpaaFnSeenMarks0
namespace Go.Bx
open Go
set_option linter.unusedSimpArgs false
set_option linter.unusedVariables false

/-- is a number marked on a page? -/
def pageBit (c : List Int) (n : Nat) : Bool := (band .u64 (c.getD (n / 64) 0) (shlI .u64 1 ((n % 64 : Nat) : Int))) != 0

theorem pageBit_iff {c : List Int} (h : ∀ x ∈ c, inR .u64 x = true) {n : Nat} (hn : n / 64 < c.length) : pageBit c n = (band .u64 (shrI .u64 (c.getD (n / 64) 0) ((n % 64 : Nat) : Int)) 1 == 1) := by
  have hm : n % 64 < 64 := Nat.mod_lt _ (by decide)
  unfold pageBit
  rw [getD_eq hn]
  obtain ⟨X, hX, hX2⟩ := nat_of_u64 (h _ (List.getElem_mem hn))
  rw [hX, shl1_nat hm, shr_nat hm, band_nat hX2 (two_pow_lt hm)]
  have h3 : X >>> (n % 64) < 18446744073709551616 := by
    rw [Nat.shiftRight_eq_div_pow]; exact Nat.lt_of_le_of_lt (Nat.div_le_self _ _) hX2
  have h4 : band .u64 ((X >>> (n % 64) : Nat) : Int) 1 = ((X >>> (n % 64) &&& 1 : Nat) : Int) := band_nat (Y := 1) h3 (by decide)
  rw [h4]
  have e1 : ∀ Z : Nat, ((Z : Int) != 0) = (Z != 0) := fun Z => by
    cases hh : (Z != 0) <;> simp at hh ⊢ <;> omega
  have e2 : ∀ Z : Nat, ((Z : Int) == 1) = (Z == 1) := fun Z => by
    cases hh : (Z == 1) <;> simp at hh ⊢ <;> omega
  rw [e1, e2, and_pow_ne, shr_and_one]

/-- the marked numbers -/
def marksL (c : List Int) (i n : Nat) : List Int := ((List.range' i n).filter (pageBit c)).map fun (j : Nat) => (j : Int)

theorem marks_loop {α : Type} (k : Nat) (Xt : List Int → Option α) (c : List Int) : ∀ (n i : Nat) (acc : List Int), i ≤ 256 → 256 - i < n → acc.length ≤ i →
    basculeref_Marks.l0 k Xt n (i : Int) c acc = Xt (acc ++ marksL c i (256 - i))
  | 0, i, acc, _, h, _ => by omega
  | n + 1, i, acc, hi, h, ha => by
    simp only [basculeref_Marks.l0, basculeref_Marks.l0s, basculeref_Marks.j0]
    by_cases h256 : i < 256
    · have h1 : IntKind.i64.wrap (Int.tdiv (i : Int) 64) = ((i / 64 : Nat) : Int) := i64_tdiv (c := 64) (by omega)
      have h2 : Int.tmod (i : Int) 64 = ((i % 64 : Nat) : Int) := tmod_nat i 64
      rw [if_pos (by simp; omega), h1, h2, if_pos (by omega), if_pos (by omega), toNat_nat, i64_succ (by omega)]
      have hr : List.range' i (256 - i) = i :: List.range' (i + 1) (256 - (i + 1)) := by
        rw [show 256 - i = (256 - (i + 1)) + 1 by omega, List.range'_succ]
      unfold marksL
      rw [hr]
      have hb : ((band .u64 (c.getD (i / 64) 0) (shlI .u64 1 ((i % 64 : Nat) : Int))) != 0) = pageBit c i := rfl
      rw [hb]
      cases hp : pageBit c i with
      | true =>
        rw [if_pos rfl, if_pos (fitB_small (by omega) (by decide)), marks_loop k Xt c n (i + 1) _ (by omega) (by omega) (by simp; omega)]
        rw [List.filter_cons_of_pos hp]; simp [marksL]
      | false =>
        rw [if_neg (by simp), marks_loop k Xt c n (i + 1) _ (by omega) (by omega) (by omega)]
        rw [List.filter_cons_of_neg (by simp [hp])]; rfl
    · have : i = 256 := by omega
      subst this
      rw [if_neg (by simp)]
      simp [marksL]

theorem marks_run (c : List Int) : basculeref_Marks.run c = some (marksL c 0 256) := by
  unfold basculeref_Marks.run basculeref_Marks.top basculeref_Marks.j1
  have := marks_loop fuel (fun (c20 : List Int) => some c20) c fuel 0 [] (by omega) (by rw [fuel_big]; omega) (by simp)
  rw [List.nil_append] at this
  exact this

theorem marked_loop {α : Type} (k : Nat) (Rt : Bool → Int → Option α) (Xt : Option α) (x : Int) (l : List Int) (hl : l.length < 9223372036854775807) : ∀ (n i : Nat), i ≤ l.length → l.length - i < n →
    basculeref_Marked.l0 k Rt Xt n x l (l.length : Int) (i : Int) = if (l.drop i).contains x = true then Rt true 0 else Xt
  | 0, i, _, h => by omega
  | n + 1, i, hi, h => by
    simp only [basculeref_Marked.l0, basculeref_Marked.l0s]
    by_cases hlt : i < l.length
    · rw [if_pos (by simp; omega), if_pos (by omega), toNat_nat, i64_succ (by omega), getD_eq hlt]
      have hd : l.drop i = l[i] :: l.drop (i + 1) := List.drop_eq_getElem_cons hlt
      rw [hd, marked_loop k Rt Xt x l hl n (i + 1) (by omega) (by omega)]
      rw [List.contains_cons]
      by_cases he : l[i] = x
      · simp [he]
      · have : ¬ x = l[i] := fun e => he e.symm
        simp [he, this]
    · have : i = l.length := by omega
      subst this
      rw [if_neg (by simp)]
      simp

theorem marksL_len (c : List Int) (i n : Nat) : (marksL c i n).length ≤ n := by
  rw [marksL, List.length_map]
  exact Nat.le_trans (List.length_filter_le _ _) (by simp)

theorem marksL_mem (c : List Int) (n : Nat) (x : Int) (h : 0 ≤ x ∧ x < (n : Int)) : (marksL c 0 n).contains x = pageBit c x.toNat := by
  rw [Bool.eq_iff_iff]
  simp only [marksL, List.contains_iff_mem, List.mem_map, List.mem_filter, List.mem_range'_1]
  constructor
  · rintro ⟨j, ⟨h1, h2⟩, rfl⟩; exact h2
  · intro hp
    exact ⟨x.toNat, ⟨⟨by omega, by omega⟩, hp⟩, by omega⟩

theorem marked_find (N : Nat) (c : List Int) (x : Int) (h : 0 ≤ x ∧ x ≤ 255) (hN : 300 < N) (l : List Int) (hl : l = marksL c 0 256) :
    basculeref_Marked.l0 N (fun (x4 : Bool) (x5 : Int) => some (x4, x5, ())) (some (false, (0 : Int), ())) N x l (l.length : Int) 0 = some (pageBit c x.toNat, 0, ()) := by
  have hlen : l.length ≤ 256 := by rw [hl]; exact marksL_len c 0 256
  have := marked_loop N (fun (x4 : Bool) (x5 : Int) => some (x4, x5, ())) (some (false, (0 : Int), ())) x l (by omega) N 0 (by omega) (by omega)
  rw [List.drop_zero] at this
  have hc : l.contains x = pageBit c x.toNat := by rw [hl]; exact marksL_mem c 256 x (by omega)
  rw [hc] at this
  refine Eq.trans this ?_
  cases pageBit c x.toNat <;> rfl

theorem ref_marked (c : List Int) (x : Int) : basculeref_Marked.run c x = some (if 0 ≤ x ∧ x ≤ 255 then (pageBit c x.toNat, 0, ()) else (false, 6, ())) := by
  unfold basculeref_Marked.run basculeref_Marked.top basculeref_Marked.j0
  by_cases h : 0 ≤ x ∧ x ≤ 255
  · rw [if_pos h, if_neg (by simp; omega), marks_run, Option.bind_some]
    exact marked_find fuel c x h (by rw [fuel_big]; decide) _ rfl
  · rw [if_neg h, if_pos (by simp; omega)]

theorem seen_has (c : List Int) (hc : c.length = 4) (hr : ∀ x ∈ c, inR .u64 x = true) (x : Int) : seen_Has.run c x = some (if 0 ≤ x ∧ x ≤ 255 then (pageBit c x.toNat, 0, ()) else (false, 6, ())) := by
  unfold seen_Has.run seen_Has.top seen_inside.run seen_inside.top
  simp only [Option.bind_some]
  by_cases h : 0 ≤ x ∧ x ≤ 255
  · obtain ⟨n, rfl⟩ : ∃ n : Nat, x = (n : Int) := ⟨x.toNat, by omega⟩
    have h1 : IntKind.i64.wrap (Int.tdiv (n : Int) 64) = ((n / 64 : Nat) : Int) := i64_tdiv (c := 64) (by omega)
    have h2 : Int.tmod (n : Int) 64 = ((n % 64 : Nat) : Int) := tmod_nat n 64
    rw [if_neg (by simp; omega), h1, h2, if_pos (by omega), if_pos (by omega), toNat_nat, if_pos h, pageBit_iff hr (by show n / 64 < c.length; omega)]
    rfl
  · rw [if_neg h, if_pos (by simp; omega)]

theorem law_SeenHas (x : (Ty.pair (.arr 4 (.int .u64)) (.pair (.int .i64) .unit)).den) (h : Fit reachK (.pair (.arr 4 (.int .u64)) (.pair (.int .i64) .unit)) x) : basculelaw_SeenHas.run x.1 x.2.1 = some true := by
  obtain ⟨⟨h1, h2⟩, _⟩ := h
  unfold basculelaw_SeenHas.run basculelaw_SeenHas.top
  rw [seen_has x.1 h1 h2, ref_marked]
  simp only [Option.bind_some]
  split <;> simp [beqD]

end Go.Bx
