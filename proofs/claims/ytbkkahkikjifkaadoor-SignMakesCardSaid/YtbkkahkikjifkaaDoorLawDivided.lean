/- A part of a framework that reads Go code as functions of plain data; or a law about such functions. -/
import Derived.Test.YtbkkahkikjifkaaDoorLawRefTimes
import Derived.Test.YtbkkahkikjifkaaDoorLawRefNum
import Derived.Test.YtbkkahkikjifkaaDoorLawShorn
import Derived.Test.YtbkkahkikjifkaaDoorFnSignMakes0
namespace Go.Bx
open Go
set_option linter.unusedSimpArgs false
set_option linter.unusedVariables false
theorem less_cut {α : Type} (k : Nat) (Xt : List Int -> Option α) (b : List Int) (L : Nat) (hL : L <= 1000000) : ∀ (n i : Nat) (br : Int) (c : List Int), i <= L ->
  basculeref_less.l0 k Xt n b br (L : Int) (i : Int) c = basculeref_less.l0 k Xt n (b.take L) br (L : Int) (i : Int) c
 | 0, _, _, _, _ => rfl
 | n + 1, i, br, c, hi => by
  simp only [basculeref_less.l0, basculeref_less.l0s]
  by_cases hlt : i < L
  ·have h0 : decide ((i : Int) < (L : Int)) = true := by rw [decide_eq_true_eq]; omega
   have hj : ∀ x, basculeref_less.j0 (basculeref_less.l0 k Xt n) b (i : Int) x (L : Int) (i : Int) c = basculeref_less.j0 (basculeref_less.l0 k Xt n) (b.take L) (i : Int) x (L : Int) (i : Int) c := fun x => by
    unfold basculeref_less.j0 basculeref_less.j1
    rw [i64_succ (by omega)]
    have ih := fun br c => less_cut k Xt b L hL n (i + 1) br c (by omega)
    simp only [ih]
   rw [toNat_nat]
   by_cases h1 : i < b.length
   ·have h2 : i < (b.take L).length := by rw [List.length_take]; omega
    have hg : (b.take L).getD i 0 = b.getD i 0 := by
     rw [getD_eq h2, getD_eq h1, List.getElem_take]
    have c1 : decide ((i : Int) < (b.length : Int)) = true := by rw [decide_eq_true_eq]; omega
    have c2 : decide ((i : Int) < ((b.take L).length : Int)) = true := by rw [decide_eq_true_eq]; omega
    rw [h0, c1, c2, if_pos rfl, if_pos rfl, if_pos (by omega), if_pos rfl, if_pos rfl, if_pos (by omega), hj, hg]
   ·have h2 : ¬ i < (b.take L).length := by rw [List.length_take]; omega
    have c1 : decide ((i : Int) < (b.length : Int)) = false := by rw [decide_eq_false_iff_not]; omega
    have c2 : decide ((i : Int) < ((b.take L).length : Int)) = false := by rw [decide_eq_false_iff_not]; omega
    rw [h0, c1, c2]
    exact hj _
  ·have h0 : decide ((i : Int) < (L : Int)) = false := by rw [decide_eq_false_iff_not]; omega
   rw [h0]; rfl
theorem ref_less_any {a b : List Int} (ha : digs B32 a) (hb : digs B32 b) (h1 : a.length <= 1000000) (hle : val B32 b <= val B32 a) :
  ∃ r, basculeref_less.run a b = some r /\ r.length = a.length /\ digs B32 r /\ val B32 r = val B32 a - val B32 b := by
 have ev : val B32 (b.take a.length) = val B32 b := by
  by_cases hl : b.length <= a.length
  ·rw [List.take_of_length_le hl]
  ·have h0 := val_append B32 (b.take a.length) (b.drop a.length)
   rw [List.take_append_drop, List.length_take, Nat.min_eq_left (by omega)] at h0
   have hd := (val_bound B32_pos (digs_drop hb a.length)).1
   have ht := (val_bound B32_pos (digs_take hb a.length)).1
   have hA := (val_bound B32_pos ha).2
   by_cases hz : val B32 (b.drop a.length) = 0
   ·rw [hz, Int.mul_zero] at h0; omega
   ·have := Int.mul_le_mul_of_nonneg_left (show 1 <= val B32 (b.drop a.length) by omega) (show 0 <= B32 ^ a.length from Int.le_of_lt (pow_pos' B32_pos _))
    rw [Int.mul_one] at this
    omega
 obtain ⟨r, e1, e2, e3, e4⟩ := ref_less ha (digs_take hb a.length) h1 (by rw [List.length_take]; omega) (by omega)
 refine ⟨r, ?_, e2, e3, by omega⟩
 rw [<- e1]
 unfold basculeref_less.run basculeref_less.top
 rw [if_pos (by rw [fitB_small (by omega) (by decide)]; rfl), if_pos (by rw [fitB_small (by omega) (by decide)]; rfl)]
 have := less_cut fuel (fun (c11 : List Int) => basculeref_less.j2 (fun (c11 : List Int) => some c11) c11) b a.length h1 fuel 0 0 a (by omega)
 exact this
theorem digs1 {d : Int} (h : 0 <= d /\ d < 4294967296) : digs B32 [d] := digs_cons.2 ⟨h, digs_nil⟩
theorem div_of {W V q : Int} (hV : 0 < V) (h1 : q * V <= W) (h2 : W < (q + 1) * V) : W / V = q := by
 have hn := Int.mul_ediv_add_emod W V
 have hm := Int.emod_nonneg W (show V ≠ 0 by omega)
 have hl := Int.emod_lt_of_pos W hV
 have e1 : ¬ (W / V + 1 <= q) := fun h => by
  have := Int.mul_le_mul_of_nonneg_right h (show 0 <= V by omega)
  rw [Int.add_mul, Int.one_mul, Int.mul_comm (W / V)] at this
  omega
 have e2 : ¬ (q + 1 <= W / V) := fun h => by
  have := Int.mul_le_mul_of_nonneg_right h (show 0 <= V by omega)
  rw [Int.mul_comm (W / V)] at this
  omega
 omega
theorem search {α : Type} (k : Nat) (Xt : List Int → List Int → Int → Int → List Int → List Int → Option α) (a b R c : List Int) (x : Int) (hb : digs B32 b) (hbl : b.length ≤ 1000) (hR : digs B32 R) (hRl : R.length ≤ 10000) (hV : 0 < val B32 b) :
    ∀ (n : Nat) (lo hi : Int), 0 ≤ lo → lo < hi → hi ≤ 4294967296 → lo * val B32 b ≤ val B32 R → val B32 R < hi * val B32 b → hi - lo < (n : Int) →
    basculeref_divided.l2 k Xt n a b x lo hi c R = Xt a b x (val B32 R / val B32 b) c R
  | 0, lo, hi, _, h1, _, _, _, h => by omega
  | n + 1, lo, hi, h0, h1, h2, h3, h4, h => by
    simp only [basculeref_divided.l2, basculeref_divided.l2s]
    rw [wrap_u64 (x := hi - lo) (by omega) (by omega), wrap_u64 (x := lo + hi) (by omega) (by omega), tdiv_pos (by omega), wrap_u64 (x := (lo + hi) / 2) (by omega) (by omega)]
    by_cases hc : hi - lo > 1
    · rw [if_pos (by rw [decide_eq_true_eq]; exact hc)]
      obtain ⟨y, y1, y2, y3, y4⟩ := ref_times (a := b) (b := [(lo + hi) / 2]) hb (digs1 (by omega)) (by omega) (by simp)
      rw [y1, Option.bind_some, ref_compare y3 hR (by simp at y2; omega) (by omega), Option.bind_some, y4]
      have e1 : val B32 [(lo + hi) / 2] = (lo + hi) / 2 := by simp [val]
      rw [e1, Int.mul_comm]
      by_cases hm : (lo + hi) / 2 * val B32 b ≤ val B32 R
      · rw [if_pos]
        · exact search k Xt a b R c x hb hbl hR hRl hV n _ hi (by omega) (by omega) h2 hm h4 (by omega)
        · rw [decide_eq_true_eq]
          split
          · omega
          · split <;> omega
      · rw [if_neg]
        · exact search k Xt a b R c x hb hbl hR hRl hV n lo _ h0 (by omega) (by omega) h3 (by omega) (by omega)
        · rw [decide_eq_true_eq, if_neg (by omega), if_pos (by omega)]; omega
    · rw [if_neg (by rw [decide_eq_true_eq]; exact hc)]
      rw [div_of hV h3 (by have : lo + 1 = hi := by omega
                           rw [this]; exact h4)]
theorem set_drop (q : List Int) (i : Nat) (v : Int) (h : i < q.length) : (q.set i v).drop i = v :: q.drop (i + 1) := by
 rw [List.drop_eq_getElem_cons (by simpa using h), List.getElem_set_self, List.drop_set_of_lt (by omega)]
theorem digs_set {B : Int} {q : List Int} {v : Int} (i : Nat) (h : digs B q) (hv : 0 <= v /\ v < B) : digs B (q.set i v) := fun d hd => by
 rcases List.mem_or_eq_of_mem_set hd with hd | rfl
 ·exact h d hd
 ·exact hv
theorem long_loop {α : Type} (k : Nat) (hk : 4294967296 < k) (Xt : List Int -> List Int -> Option α) (a b : List Int) (ha : digs B32 a) (hb : digs B32 b) (hal : a.length <= 1000) (hbl : b.length <= 1000) (hV : 0 < val B32 b) :
  ∀ (n i : Nat) (r q : List Int), i < n -> i <= a.length -> digs B32 r -> r.length <= a.length - i -> q.length = a.length -> digs B32 q -> val B32 (q.drop i) * val B32 b + val B32 r = val B32 (a.drop i) -> val B32 r < val B32 b ->
  ∃ q' r', basculeref_divided.l1 k Xt n a b r ((i : Int) - 1) q = Xt r' q' /\ q'.length = a.length /\ digs B32 q' /\ digs B32 r' /\ r'.length <= a.length /\ val B32 q' * val B32 b + val B32 r' = val B32 a /\ val B32 r' < val B32 b
 | 0, i, _, _, h, _, _, _, _, _, _, _ => by omega
 | n + 1, 0, r, q, h, hi, hr, hrl, hq, hqd, hv, hlt => by
  refine ⟨q, r, ?_, hq, hqd, hr, by omega, by simpa using hv, hlt⟩
  simp only [basculeref_divided.l1, basculeref_divided.l1s]
  rw [if_neg (by simp)]
 | n + 1, i + 1, r, q, h, hi, hr, hrl, hq, hqd, hv, hlt => by
  simp only [basculeref_divided.l1, basculeref_divided.l1s]
  have ei : ((i + 1 : Nat) : Int) - 1 = (i : Int) := by omega
  rw [ei, if_pos (by rw [decide_eq_true_eq]; omega), if_pos (by omega), toNat_nat]
  obtain ⟨y, y1, y2, y3, y4, _⟩ := ref_shorn (by omega) hr
  rw [y1, Option.bind_some, if_pos (by rw [fitB_small (by omega) (by omega)])]
  have da : 0 <= a.getD i 0 /\ a.getD i 0 < 4294967296 := digs_getD B32_pos ha i
  have hRd : digs B32 ([a.getD i 0] ++ y) := digs_cons.2 ⟨da, y3⟩
  have hRv : val B32 ([a.getD i 0] ++ y) = a.getD i 0 + 4294967296 * val B32 r := by
   rw [<- y4]; rfl
  have hr0 := (val_bound B32_pos hr).1
  have hW0 := (val_bound B32_pos hRd).1
  have hW : val B32 ([a.getD i 0] ++ y) < 4294967296 * val B32 b := by
   rw [hRv]; omega
  rw [search k _ a b ([a.getD i 0] ++ y) q (i : Int) hb hbl hRd (by simp; omega) hV k 0 4294967296 (by omega) (by omega) (by omega) (by rw [Int.zero_mul]; exact hW0) hW (by omega)]
  generalize hWe : val B32 ([a.getD i 0] ++ y) = W at *
  have hlo0 : 0 <= W / val B32 b := Int.ediv_nonneg hW0 (by omega)
  have hlo1 : W / val B32 b < 4294967296 := Int.ediv_lt_of_lt_mul hV hW
  have hdm := Int.mul_ediv_add_emod W (val B32 b)
  have hm0 := Int.emod_nonneg W (show val B32 b ≠ 0 by omega)
  have hm1 := Int.emod_lt_of_pos W hV
  unfold basculeref_divided.j2 basculeref_divided.j3
  rw [if_pos (by omega), toNat_nat]
  obtain ⟨p, p1, p2, p3, p4⟩ := ref_times (a := b) (b := [W / val B32 b]) hb (digs1 (by omega)) (by omega) (by simp)
  have e1 : val B32 [W / val B32 b] = W / val B32 b := by simp [val]
  rw [e1] at p4
  obtain ⟨s, s1, s2, s3, s4⟩ := ref_less_any hRd p3 (by simp; omega) (by rw [hWe, p4]; omega)
  rw [p1, Option.bind_some, s1, Option.bind_some]
  have ew : IntKind.i64.wrap ((i : Int) - 1) = (i : Int) - 1 := wrap_i64 (by omega) (by omega)
  rw [ew]
  have hsv : val B32 s = W % val B32 b := by rw [s4, hWe, p4]; omega
  refine long_loop k hk Xt a b ha hb hal hbl hV n i s (q.set i (W / val B32 b)) (by omega) (by omega) s3 (by rw [s2]; simp; omega) (by simpa using hq) (digs_set i hqd (show _ /\ _ < (4294967296 : Int) by omega)) ?_ (by omega)
  rw [set_drop q i _ (by omega), val_drop B32 a i]
  simp only [val]
  rw [Int.add_mul, Int.mul_assoc, hsv]
  have : B32 * (val B32 (q.drop (i + 1)) * val B32 b) + 4294967296 * val B32 r = B32 * val B32 (a.drop (i + 1)) := by rw [<- hv, Int.mul_add]
  rw [Int.mul_comm (W / val B32 b)]
  omega
theorem short_loop {α : Type} (k : Nat) (Xt : Int -> List Int -> Option α) (a : List Int) (y : Int) (ha : digs B32 a) (hal : a.length <= 1000) (hV : 0 < y /\ y < 4294967296) :
  ∀ (n i : Nat) (r : Int) (q : List Int), i < n -> i <= a.length -> 0 <= r -> q.length = a.length -> digs B32 q -> val B32 (q.drop i) * y + r = val B32 (a.drop i) -> r < y ->
  ∃ q' r', basculeref_divided.l0 k Xt n a y r ((i : Int) - 1) q = Xt r' q' /\ q'.length = a.length /\ digs B32 q' /\ 0 <= r' /\ val B32 q' * y + r' = val B32 a /\ r' < y
 | 0, i, _, _, h, _, _, _, _, _, _ => by omega
 | n + 1, 0, r, q, h, hi, hr, hq, hqd, hv, hlt => by
  refine ⟨q, r, ?_, hq, hqd, hr, by simpa using hv, hlt⟩
  simp only [basculeref_divided.l0, basculeref_divided.l0s]
  rw [if_neg (by simp)]
 | n + 1, i + 1, r, q, h, hi, hr, hq, hqd, hv, hlt => by
  simp only [basculeref_divided.l0, basculeref_divided.l0s]
  have ei : ((i + 1 : Nat) : Int) - 1 = (i : Int) := by omega
  have da : 0 <= a.getD i 0 /\ a.getD i 0 < 4294967296 := digs_getD B32_pos ha i
  rw [ei, if_pos (by rw [decide_eq_true_eq]; omega), if_pos (by omega), if_pos (by omega), if_pos (by omega), if_pos (by omega), toNat_nat]
  rw [wrap_u64 (x := r * 4294967296) (by omega) (by omega), wrap_u64 (x := r * 4294967296 + a.getD i 0) (by omega) (by omega), tdiv_pos (by omega), tmod_pos (by omega)]
  have ew : IntKind.i64.wrap ((i : Int) - 1) = (i : Int) - 1 := wrap_i64 (by omega) (by omega)
  rw [ew]
  generalize hWe : r * 4294967296 + a.getD i 0 = W at *
  have hW : W < 4294967296 * y := by omega
  have hW0 : 0 <= W := by omega
  have hlo0 : 0 <= W / y := Int.ediv_nonneg hW0 (by omega)
  have hlo1 : W / y < 4294967296 := Int.ediv_lt_of_lt_mul hV.1 hW
  have hdm := Int.mul_ediv_add_emod W y
  have hm0 := Int.emod_nonneg W (show y ≠ 0 by omega)
  have hm1 := Int.emod_lt_of_pos W hV.1
  rw [wrap_u64 (x := W / y) (by omega) (by omega)]
  refine short_loop k Xt a y ha hal hV n i (W % y) (q.set i (W / y)) (by omega) (by omega) hm0 (by simpa using hq) (digs_set i hqd (show _ /\ _ < (4294967296 : Int) by omega)) ?_ hm1
  rw [set_drop q i _ (by omega), val_drop B32 a i]
  simp only [val]
  rw [Int.add_mul, Int.mul_assoc]
  have : B32 * (val B32 (q.drop (i + 1)) * y) + 4294967296 * r = B32 * val B32 (a.drop (i + 1)) := by rw [<- hv, Int.mul_add]
  rw [Int.mul_comm (W / y)]
  omega
theorem ref_small {l : List Int} (hl : l.length <= 1000000) (hd : digs B32 l) : ∃ y ok, basculeref_small.run l = some (y, ok, ()) /\ (0 <= y /\ y < B32) /\ y = val B32 l % B32 /\ (ok = true -> val B32 l = y) := by
 unfold basculeref_small.run basculeref_small.top
 obtain ⟨s, s1, s2, s3, s4, _⟩ := ref_shorn hl hd
 rw [s1, Option.bind_some]
 match s, s3, s4 with
 | [], _, s4 => exact ⟨0, true, rfl, by decide, by rw [<- s4]; rfl, fun _ => by rw [<- s4]; rfl⟩
 | d :: t, s3, s4 =>
  obtain ⟨hd1, hd2⟩ := digs_cons.1 s3
  refine ⟨d, (((d :: t).length : Int) == 1), ?_, hd1, ?_, ?_⟩
  ·rw [if_neg (by simp; omega), if_pos (by simp)]; rfl
  ·rw [<- s4]; simp only [val]
   rw [Int.add_mul_emod_self_left]
   exact (Int.emod_eq_of_lt hd1.1 hd1.2).symm
  ·intro h
   have : t = [] := by
    have : (d :: t).length = 1 := by have := eq_of_beq h; omega
    exact List.eq_nil_of_length_eq_zero (by simp only [List.length_cons] at this; omega)
   subst this
   rw [<- s4]; simp [val]
theorem ref_divided {a b : List Int} (ha : digs B32 a) (hb : digs B32 b) (hal : a.length <= 1000) (hbl : b.length <= 1000) (hV : 0 < val B32 b) :
  ∃ q r, basculeref_divided.run a b = some (q, r, ()) /\ q.length = a.length /\ digs B32 q /\ digs B32 r /\ r.length <= 1000 /\ val B32 q = val B32 a / val B32 b /\ val B32 r = val B32 a % val B32 b := by
 unfold basculeref_divided.run basculeref_divided.top
 obtain ⟨y, ok, y1, y2, y3, y4⟩ := ref_small (by omega) hb
 rw [y1, Option.bind_some]
 have ew : IntKind.i64.wrap ((a.length : Int) - 1) = (a.length : Int) - 1 := wrap_i64 (by omega) (by omega)
 have fin : ∀ (q r : List Int), val B32 q * val B32 b + val B32 r = val B32 a -> 0 <= val B32 r -> val B32 r < val B32 b -> val B32 q = val B32 a / val B32 b /\ val B32 r = val B32 a % val B32 b := fun q r h1 h2 h3 => by
  have e : val B32 a / val B32 b = val B32 q := div_of hV (by omega) (by rw [Int.add_mul]; omega)
  refine ⟨e.symm, ?_⟩
  have := Int.mul_ediv_add_emod (val B32 a) (val B32 b)
  rw [e, Int.mul_comm] at this
  omega
 have g : 0 <= (a.length : Int) /\ id (a.length : Int) = (a.length : Int) /\ fitB (a.length : Int).toNat 8 = true := ⟨by omega, rfl, fitB_small (by rw [toNat_nat]; omega) (by omega)⟩
 by_cases hok : ok = true
 ·rw [if_pos hok, if_pos g, ew, toNat_nat]
  have hy := y4 hok
  rw [hy] at hV fin
  have y2 : 0 <= y /\ y < 4294967296 := y2
  have := fun N (hN : a.length < N) => short_loop N (fun (x8 : Int) (c22 : List Int) => basculeref_divided.j0 (fun (x4 : List Int) (x5 : List Int) => some (x4, x5, ())) x8 c22) a y ha hal ⟨hV, y2.2⟩ N a.length 0 (List.replicate a.length 0) hN (by omega) (by omega) (by simp) (digs_zero _) (by rw [List.drop_of_length_le (by simp), List.drop_of_length_le (by simp)]; simp [val]) (by omega)
  obtain ⟨q, r, e1, e2, e3, e4, e5, e6⟩ := this fuel (by rw [fuel_big]; omega)
  have ev : val B32 [r] = r := by simp [val]
  obtain ⟨f1, f2⟩ := fin q [r] (by rw [ev]; exact e5) (by rw [ev]; exact e4) (by rw [ev]; exact e6)
  refine ⟨q, [r], Eq.trans e1 rfl, e2, e3, digs1 (by omega), by simp, ?_, ?_⟩
  ·rw [hy]; exact f1
  ·rw [hy]; exact f2
 ·rw [if_neg hok]
  unfold basculeref_divided.j1
  rw [if_pos g, ew, toNat_nat]
  have := fun N (hN : 4294967296 < N) => long_loop N hN (fun (x5 : List Int) (c51 : List Int) => basculeref_divided.j4 (fun (x4 : List Int) (x5 : List Int) => some (x4, x5, ())) x5 c51) a b ha hb hal hbl hV N a.length [] (List.replicate a.length 0) (by omega) (by omega) digs_nil (by simp) (by simp) (digs_zero _) (by rw [List.drop_of_length_le (by simp), List.drop_of_length_le (by simp)]; simp [val]) (by simp only [val]; exact hV)
  obtain ⟨q, r, e1, e2, e3, e4, e5, e6, e7⟩ := this fuel (by rw [fuel_big]; omega)
  obtain ⟨f1, f2⟩ := fin q r e6 (val_bound B32_pos e4).1 e7
  exact ⟨q, r, Eq.trans e1 rfl, e2, e3, e4, by omega, f1, f2⟩
end Go.Bx
