/- A part of a framework that reads Go code as functions of plain data; or a law about such functions. -/
import Derived.Test.YtbkkahkikjifkaaLawLoadRead
import Derived.Test.YtbkkahkikjifkaaLawSameBody
import Derived.Test.YtbkkahkikjifkaaFnGuardSees1
namespace Go.Bx
open Go
set_option linter.unusedSimpArgs false
set_option linter.unusedVariables false
set_option maxRecDepth 100000
def Well (r : LoadD × Int × Unit) : Prop := r.2.1 = 0 -> (r.1.1 = 1 \/ r.1.1 = 2 \/ r.1.1 = 3 \/ r.1.1 = 4) /\ r.1.2.1.length = 4 /\ digs B64 r.1.2.1
theorem finL_well (x : LoadD) (c : Int) (g : basculeref_LoadFault.run x = some c) (h : (x.1 = 1 \/ x.1 = 2 \/ x.1 = 3 \/ x.1 = 4) /\ x.2.1.length = 4 /\ digs B64 x.2.1) : ∃ r, finL x = some r /\ Well r := by
 unfold finL
 rw [g, Option.bind_some]
 by_cases hc : c = 0
 ·rw [if_pos hc]; exact ⟨_, rfl, fun _ => h⟩
 ·rw [if_neg hc]; exact ⟨_, rfl, fun e => absurd e (by decide)⟩
theorem nil_well (e : Int) (he : e ≠ 0) : ∃ r, some (nilLoad, e, ()) = some r /\ Well r := ⟨_, rfl, fun h => absurd h he⟩
theorem rd1_well (kd : Int) (s : List Int) (hbs : Byts s) : ∃ r, rd1 kd s = some r /\ Well r := by
 unfold rd1
 by_cases k13 : kd = 1 \/ kd = 3
 ·rw [if_pos k13]
  by_cases h : s.length < 132
  ·rw [if_pos h]; exact nil_well 4 (by decide)
  ·rw [if_neg h]
   have l1 : (s.take 32).length = 32 := by simp; omega
   have l4 : ((s.drop 100).take 32).length = 32 := by simp; omega
   have w1 := wid_digs _ l1 (takeB hbs 32)
   obtain ⟨c, g1, g2⟩ := fin_same (rdT kd s) (by simp only [rdT]; exact w1) (by simp only [rdT]; exact wid_digs _ l4 (takeB (dropB hbs 100) 32)) (by simp [rdT]) (by simp [rdT])
   exact finL_well _ c g2 (by simp only [rdT]; exact ⟨by omega, w1⟩)
 ·rw [if_neg k13]
  by_cases k2 : kd = 2
  ·rw [if_pos k2]
   by_cases h : s.length < 67
   ·rw [if_pos h]; exact nil_well 4 (by decide)
   ·rw [if_neg h]
    by_cases h2 : s.length > 67
    ·rw [if_pos h2]; exact nil_well 3 (by decide)
    ·rw [if_neg h2]
     obtain ⟨c, g1, g2⟩ := fin_same (rdM kd s) (by simp only [rdM]; exact dz4') (by simp only [rdM]; exact dz4') (by simp [rdM]; omega) (by simp [rdM])
     exact finL_well _ c g2 (by simp only [rdM]; exact ⟨by omega, dz4'⟩)
  ·rw [if_neg k2]
   by_cases k4 : kd = 4
   ·rw [if_pos k4]
    have h4 := byteAt hbs 4
    by_cases h : s.length < 5 \/ s.length < 5 + 20 * (s.getD 4 0).toNat
    ·rw [if_pos h]; exact nil_well 4 (by decide)
    ·rw [if_neg h]
     by_cases h2 : s.length > 5 + 20 * (s.getD 4 0).toNat
     ·rw [if_pos h2]; exact nil_well 3 (by decide)
     ·rw [if_neg h2]
      have hk : (rdK kd s).2.2.2.2.2.2.2.2.2.2.2.1.length <= 1000 := by simp only [rdK, keysOf_len]; omega
      obtain ⟨c, g1, g2⟩ := fin_same (rdK kd s) (by simp only [rdK]; exact dz4') (by simp only [rdK]; exact dz4') (by simp [rdK]) hk
      exact finL_well _ c g2 (by simp only [rdK]; exact ⟨by omega, dz4'⟩)
   ·rw [if_neg k4]; exact nil_well 2 (by decide)
theorem read_both (x : List Int) (hb : Byts x) (hl : x.length <= 140737488351232) : ∃ r, load_Decode.run x = some r /\ basculeref_LoadOf.run x = some r /\ Well r := by
 rw [decode_read x hb hl, of_read x hb hl]
 by_cases h0 : x.length = 0
 ·rw [if_pos h0]; exact ⟨_, rfl, rfl, fun h => absurd h (by decide)⟩
 ·rw [if_neg h0]
  obtain ⟨r, h1, h2⟩ := rd1_well (x.getD 0 0) (x.drop 1) (dropB hb 1)
  exact ⟨r, h1, h1, h2⟩
theorem bor3_ne {a b c : Int} (ha : 0 <= a /\ a < B64) (hb : 0 <= b /\ b < B64) (hc : 0 <= c /\ c < B64) : ((bor .u64 (bor .u64 a b) c) != 0) = true ↔ ¬ (a = 0 /\ b = 0 /\ c = 0) := by
 obtain ⟨A, rfl⟩ := Int.eq_ofNat_of_zero_le ha.1
 obtain ⟨B, rfl⟩ := Int.eq_ofNat_of_zero_le hb.1
 obtain ⟨D, rfl⟩ := Int.eq_ofNat_of_zero_le hc.1
 have hA : A < 18446744073709551616 := by have := ha.2; unfold B64 at this; omega
 have hB : B < 18446744073709551616 := by have := hb.2; unfold B64 at this; omega
 have hD : D < 18446744073709551616 := by have := hc.2; unfold B64 at this; omega
 rw [bor_nat hA hB, bor_nat (Nat.or_lt_two_pow (n := 64) hA hB) hD]
 rw [bne_iff_ne]
 simp only [ne_eq, Int.natCast_eq_zero, Nat.or_eq_zero_iff, and_assoc]
theorem worth_both (b : BodyD) (hb : Byts b.2.2.2.2.2.2.1) (hl : b.2.2.2.2.2.2.1.length <= 140737488351232) : ∃ v, guard_Worth.run b = some v /\ basculeref_WorthOf.run b = some v := by
 obtain ⟨r, h1, h2, hw⟩ := read_both _ hb hl
 unfold guard_Worth.run guard_Worth.top basculeref_WorthOf.run basculeref_WorthOf.top
 rw [h1, h2, Option.bind_some, Option.bind_some]
 obtain ⟨l, e, u⟩ := r
 obtain ⟨kd, am, rest⟩ := l
 simp only [cond_or, cond_and]
 by_cases he : e = 0
 ·subst he
  obtain ⟨k, a1, a2⟩ := hw rfl
  simp only at k a1 a2
  by_cases k13 : kd = 1 \/ kd = 3
  ·have p1 : ((0 : Int) != 0 || (kd != 1 && kd != 3)) = false := by rcases k13 with rfl | rfl <;> decide
   have p2 : ((0 : Int) != 0 || kd == 2 || kd == 4) = false := by rcases k13 with rfl | rfl <;> decide
   simp only [p1, p2, Bool.false_eq_true, if_false]
   have hm : digs B64 [1073741824, 0, 0, 0] := digs_cons.2 ⟨by decide, digs_cons.2 ⟨by decide, digs_cons.2 ⟨by decide, digs_cons.2 ⟨by decide, digs_nil⟩⟩⟩⟩
   obtain ⟨c, c1, c2⟩ := cmp_order a1 (m := [1073741824, 0, 0, 0]) rfl a2 hm
   rw [wide_cmp a1 rfl a2 hm] at c1
   rw [c2, Option.bind_some]
   obtain ⟨x0, x1, x2, x3, rfl⟩ := four_of_len a1
   obtain ⟨d0, a2⟩ := digs_cons.1 a2
   obtain ⟨d1, a2⟩ := digs_cons.1 a2
   obtain ⟨d2, a2⟩ := digs_cons.1 a2
   obtain ⟨d3, a2⟩ := digs_cons.1 a2
   simp only [List.getD_cons_zero, List.getD_cons_succ]
   have hv : decide (c > 0) = ((bor .u64 (bor .u64 x1 x2) x3) != 0 || decide (x0 > 1073741824)) := by
    cases c1
    rw [Bool.eq_iff_iff, Bool.or_eq_true, bor3_ne d1 d2 d3, decide_eq_true_eq, decide_eq_true_eq]
    simp only [val, Int.mul_zero, Int.add_zero]
    unfold B64 at *
    split
    ·constructor
     ·intro h; exact absurd h (by decide)
     ·intro h; exfalso; omega
    ·split
     ·constructor
      ·intro _; omega
      ·intro _; decide
     ·constructor
      ·intro h; exact absurd h (by decide)
      ·intro h; exfalso; omega
   rw [hv]
   generalize ((bor .u64 (bor .u64 x1 x2) x3) != 0 || decide (x0 > 1073741824)) = q
   cases q
   ·exact ⟨_, rfl, rfl⟩
   ·exact ⟨_, rfl, rfl⟩
  ·have p1 : ((0 : Int) != 0 || (kd != 1 && kd != 3)) = true := by rcases k with rfl | rfl | rfl | rfl <;> first | decide | (exfalso; omega)
   have p2 : ((0 : Int) != 0 || kd == 2 || kd == 4) = true := by rcases k with rfl | rfl | rfl | rfl <;> first | decide | (exfalso; omega)
   simp only [p1, p2, if_true]
   exact ⟨_, rfl, rfl⟩
 ·have hq : (e != 0) = true := by simpa using he
  rw [hq, if_pos (by simp), if_pos (by simp)]
  exact ⟨_, rfl, rfl⟩
end Go.Bx
