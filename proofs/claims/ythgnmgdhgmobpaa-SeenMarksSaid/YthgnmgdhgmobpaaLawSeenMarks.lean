/- A part of a framework that reads Go code as functions of plain data; or a law about such functions. -/
import Derived.Test.YthgnmgdhgmobpaaLawSeenHas
namespace Go.Bx
open Go
set_option linter.unusedSimpArgs false
set_option linter.unusedVariables false

/-- a bit that is not there: to set it is to add it -/
theorem or_add {X k : Nat} (hX : X < 18446744073709551616) (hk : k < 64) (h : X.testBit k = false) : X ||| 2 ^ k = X + 2 ^ k := by
  have h0 : X &&& 2 ^ k = 0 := by
    have := and_pow_ne (X := X) (k := k)
    rw [h] at this
    simpa using this
  have hp := two_pow_lt hk
  have h1 : BitVec.ofNat 65 X &&& BitVec.ofNat 65 (2 ^ k) = 0#65 := by
    apply BitVec.eq_of_toNat_eq
    rw [BitVec.toNat_and, BitVec.toNat_ofNat, BitVec.toNat_ofNat, Nat.mod_eq_of_lt (by omega), Nat.mod_eq_of_lt (by omega), h0]
    rfl
  have h2 := congrArg BitVec.toNat (BitVec.add_eq_or_of_and_eq_zero _ _ h1)
  have e1 : (BitVec.ofNat 65 X).toNat = X := by rw [BitVec.toNat_ofNat]; exact Nat.mod_eq_of_lt (by omega)
  have e2 : (BitVec.ofNat 65 (2 ^ k)).toNat = 2 ^ k := by rw [BitVec.toNat_ofNat]; exact Nat.mod_eq_of_lt (by omega)
  rw [BitVec.toNat_add, BitVec.toNat_or, e1, e2, Nat.mod_eq_of_lt (by omega)] at h2
  exact h2.symm

theorem or_add64 {x : Int} {k : Nat} (hx : inR .u64 x = true) (hk : k < 64) (h : (band .u64 x (shlI .u64 1 (k : Int)) != 0) = false) : IntKind.u64.wrap (x + shlI .u64 1 (k : Int)) = bor .u64 x (shlI .u64 1 (k : Int)) := by
  obtain ⟨X, rfl, hX⟩ := nat_of_u64 hx
  rw [shl1_nat hk, band_nat hX (two_pow_lt hk)] at h
  have h1 : X.testBit k = false := by
    rw [← and_pow_ne]
    cases hh : ((X &&& 2 ^ k) != 0) with
    | false => rfl
    | true =>
      simp at h hh
      omega
  rw [shl1_nat hk, bor_nat hX (two_pow_lt hk), or_add hX hk h1]
  have : X + 2 ^ k < 18446744073709551616 := by
    rw [← or_add hX hk h1]
    have := Nat.or_lt_two_pow (n := 64) hX (two_pow_lt hk)
    simpa using this
  have e : ((X : Int) + ((2 ^ k : Nat) : Int)) = ((X + 2 ^ k : Nat) : Int) := by simp
  rw [e]
  exact u64_wrap_nat this

theorem law_SeenMarks (x : (Ty.pair (.arr 4 (.int .u64)) (.pair (.int .i64) .unit)).den) (h : Fit reachK (.pair (.arr 4 (.int .u64)) (.pair (.int .i64) .unit)) x) : basculelaw_SeenMarks.run x.1 x.2.1 = some true := by
  obtain ⟨⟨h1, h2⟩, _⟩ := h
  have key : ∀ (c : List Int) (n : Int), c.length = 4 → (∀ y ∈ c, inR .u64 y = true) → seen_Mark.run c n = basculeref_MarkedToo.run c n ∧ ∃ r, seen_Mark.run c n = some r := by
    intro c n hc hr
    unfold seen_Mark.run seen_Mark.top basculeref_MarkedToo.run basculeref_MarkedToo.top
    rw [seen_has c hc hr, ref_marked]
    simp only [Option.bind_some]
    by_cases hn : 0 ≤ n ∧ n ≤ 255
    · rw [if_pos hn, if_neg (by simp)]
      cases hp : pageBit c n.toNat with
      | true => exact ⟨rfl, _, rfl⟩
      | false =>
        obtain ⟨m, rfl⟩ : ∃ m : Nat, n = (m : Int) := ⟨n.toNat, by omega⟩
        have e1 : IntKind.i64.wrap (Int.tdiv (m : Int) 64) = ((m / 64 : Nat) : Int) := i64_tdiv (c := 64) (by omega)
        have e2 : Int.tmod (m : Int) 64 = ((m % 64 : Nat) : Int) := tmod_nat m 64
        have hlt : m / 64 < c.length := by omega
        rw [e1, e2, if_neg (by simp), if_pos (by omega), if_pos (by omega), if_pos (by omega), toNat_nat, getD_eq hlt, if_neg (by simp)]
        rw [or_add64 (hr _ (List.getElem_mem hlt)) (Nat.mod_lt _ (by decide))]
        · rw [if_neg (by simp), if_pos (by omega), if_pos (by omega), if_pos (by omega)]
          exact ⟨rfl, _, rfl⟩
        · unfold pageBit at hp
          rw [show ((m : Int)).toNat = m from rfl, getD_eq hlt] at hp
          exact hp
    · rw [if_neg hn]
      exact ⟨rfl, _, rfl⟩
  obtain ⟨k1, r, k2⟩ := key x.1 x.2.1 h1 h2
  unfold basculelaw_SeenMarks.run basculelaw_SeenMarks.top
  rw [← k1, k2]
  simp only [Option.bind_some, Option.some.injEq]
  rw [beqD_refl (.arr 4 (.int .u64)) r.1 rfl]
  simp

end Go.Bx
