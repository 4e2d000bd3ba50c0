/- A part of a framework that reads Go code as functions of plain data; or a law about such functions. -/
import Derived.Test.YtbkkahkikjifkaaLawWord
import Derived.Test.YtbkkahkikjifkaaLawNumW
import Derived.Test.YtbkkahkikjifkaaLawLoadBoth
import Derived.Test.YtbkkahkikjifkaaFnGuardSees1
namespace Go.Bx
open Go
set_option linter.unusedSimpArgs false
set_option linter.unusedVariables false
set_option maxRecDepth 100000
theorem cutN (l : List Int) (a b : Nat) : cutL l (a : Int) (b : Int) = (l.drop a).take (b - a) := by simp [cutL]
theorem cutE (l : List Int) (a : Nat) : cutL l (a : Int) (l.length : Int) = l.drop a := by
 rw [cutN, List.take_of_length_le (by simp)]
theorem dropB {l : List Int} (h : Byts l) (n : Nat) : Byts (l.drop n) := fun b hb => h b (List.mem_of_mem_drop hb)
theorem takeB {l : List Int} (h : Byts l) (n : Nat) : Byts (l.take n) := fun b hb => h b (List.mem_of_mem_take hb)
theorem byteAt {l : List Int} (h : Byts l) (n : Nat) : 0 <= l.getD n 0 /\ l.getD n 0 < 256 := by
 by_cases hn : n < l.length
 ·rw [getD_eq hn]; exact h _ (List.getElem_mem _)
 ·have : l.getD n 0 = 0 := by simp [List.getD, List.getElem?_eq_none (show l.length <= n by omega)]
  rw [this]; decide
theorem bW {l : List Int} (h : Byts l) (n : Nat) : IntKind.i64.wrap (l.getD n 0) = l.getD n 0 := by
 have := byteAt h n
 exact wrap_i64 (by omega) (by omega)
theorem two_at {l : List Int} {n : Nat} (h : n + 1 < l.length) (hb : Byts l) : bor .i64 (shlI .i64 (IntKind.i64.wrap (l.getD n 0)) 8) (IntKind.i64.wrap (l.getD (n + 1) 0)) = numW ((l.drop n).take 2) := by
 have e : (l.drop n).take 2 = [l.getD n 0, l.getD (n + 1) 0] := by
  rw [List.drop_eq_getElem_cons (show n < l.length by omega), List.drop_eq_getElem_cons h, getD_eq h, getD_eq (show n < l.length by omega)]; rfl
 rw [e, bW hb (n + 1), or_low _ _ (byteAt hb (n + 1))]
 unfold numW numI
 simp only [List.foldl]
 rw [Int.zero_mul, Int.zero_add]
theorem word_run' (l : List Int) (h : l.length = 32) : load_word.run l = some l := by
 unfold load_word.run load_word.top
 rw [cpy_pad _ (by omega), pad_full _ h]
abbrev nilLoad : LoadD := (0, [0, 0, 0, 0], [0, 0, 0, 0], List.replicate 32 0, 0, List.replicate 32 0, 0, 0, [], [], 0, [], ())
def rdT (kd : Int) (s : List Int) : LoadD := (kd, wid (s.take 32), wid ((s.drop 100).take 32), (s.drop 32).take 32, numW ((s.drop 64).take 2), (s.drop 66).take 32, numW ((s.drop 98).take 2), 0, [], s.drop 132, 0, [], ())
def trimN (w : List Int) : Nat -> Nat
 | 0 => 0
 | j + 1 => if w.getD j 0 = 0 then trimN w j else j + 1
theorem trimN_le (w : List Int) : ∀ j, trimN w j <= j
 | 0 => Nat.le_refl _
 | j + 1 => by unfold trimN; have := trimN_le w j; split <;> omega
def rdM (kd : Int) (s : List Int) : LoadD := (kd, [0, 0, 0, 0], [0, 0, 0, 0], s.take 32, numW ((s.drop 32).take 2), List.replicate 32 0, 0, s.getD 34 0, (s.drop 35).take (trimN (s.drop 35) 32), [], 0, [], ())
def keysOf : Nat -> List Int -> List (List Int)
 | 0, _ => []
 | m + 1, l => cpyL (List.replicate 20 0) 0 20 l :: keysOf m (l.drop 20)
theorem keysOf_len : ∀ (m : Nat) (l : List Int), (keysOf m l).length = m
 | 0, _ => rfl
 | m + 1, l => by simp [keysOf, keysOf_len m]
def rdK (kd : Int) (s : List Int) : LoadD := (kd, [0, 0, 0, 0], [0, 0, 0, 0], List.replicate 32 0, 0, List.replicate 32 0, 0, 0, [], [], numW (s.take 4), keysOf (s.getD 4 0).toNat (s.drop 5), ())
theorem get_T (u : Bool × Unit) (s : List Int) (hb : Byts s) (hl : s.length <= 140737488351232) : load_transfer__get.run u s = some (if s.length < 132 then (nilLoad, 4, ()) else (rdT 0 s, 0, ())) := by
 unfold load_transfer__get.run load_transfer__get.top
 by_cases h : s.length < 132
 ·rw [if_pos (by rw [decide_eq_true_eq]; omega), if_pos h]
 ·have c1 : cutL s 0 32 = s.take 32 := cutN s 0 32
  have c2 : cutL s 32 64 = (s.drop 32).take 32 := cutN s 32 64
  have c3 : cutL s 66 98 = (s.drop 66).take 32 := cutN s 66 98
  have c4 : cutL s 100 132 = (s.drop 100).take 32 := cutN s 100 132
  have c5 : cutL s 132 (s.length : Int) = s.drop 132 := cutE s 132
  have l1 : (s.take 32).length = 32 := by simp; omega
  have l2 : ((s.drop 32).take 32).length = 32 := by simp; omega
  have l3 : ((s.drop 66).take 32).length = 32 := by simp; omega
  have l4 : ((s.drop 100).take 32).length = 32 := by simp; omega
  have t1 := two_at (n := 64) (l := s) (by omega) hb
  have t2 := two_at (n := 98) (l := s) (by omega) hb
  rw [if_neg (by rw [decide_eq_true_eq]; omega), if_neg h, if_pos (by omega), c1, word_run' _ l1, Option.bind_some, (from_wid _ l1 (takeB hb 32)).1, Option.bind_some, if_pos (by omega), c2, word_run' _ l2, Option.bind_some,
   if_pos (by omega), if_pos (by omega), if_pos (by omega), c3, word_run' _ l3, Option.bind_some, if_pos (by omega), if_pos (by omega), if_pos (by omega), c4, word_run' _ l4, Option.bind_some, (from_wid _ l4 (takeB (dropB hb 100) 32)).1, Option.bind_some,
   if_pos (by omega), c5, if_pos (fitB_of (show (0 + (s.drop 132).length) * 1 <= _ by simp; omega) (show 0 + (s.drop 132).length <= _ by simp; omega)), t1, t2]
  simp only [rdT]
theorem trim_loop {α : Type} (Xt : List Int -> Int -> Int -> List Int -> List Int -> List Int -> Int -> List Int -> Int -> Int -> List Int -> Int -> Option α) (K : Nat) (s : List Int) (hs : s.length = 67) (hb : Byts s) (a0 : Int) (a1 a2 a3 : List Int) (a4 : Int) (a5 : List Int) (a6 a7 : Int) (a8 : List Int) (a10 : Int) : ∀ (j n : Nat), j < n -> j <= 32 ->
  load_meta__get.l0 K Xt n s (35 + (j : Int)) a0 a1 a2 a3 a4 a5 a6 a7 a8 a10 = Xt s (35 + (trimN (s.drop 35) j : Int)) a0 a1 a2 a3 a4 a5 a6 a7 a8 a10
 | j, 0, h, _ => by omega
 | 0, n + 1, h, _ => by
  simp only [load_meta__get.l0, load_meta__get.l0s]
  rw [show (35 : Int) + ((0 : Nat) : Int) = 35 from rfl, show IntKind.i64.wrap (35 - 1) = 34 from rfl]
  have e1 : decide (0 <= (34 : Int) /\ (34 : Int) < (s.length : Int)) = true := by rw [decide_eq_true_eq]; omega
  rw [e1, Bool.true_or, cond_true, show decide ((35 : Int) > 35) = false from rfl, cond_false, if_neg (by decide)]
  rfl
 | j + 1, n + 1, h, hj => by
  simp only [load_meta__get.l0, load_meta__get.l0s]
  have e0 : IntKind.i64.wrap (35 + ((j + 1 : Nat) : Int) - 1) = 35 + (j : Int) := by rw [wrap_i64 (by omega) (by omega)]; omega
  have e1 : decide (0 <= 35 + (j : Int) /\ 35 + (j : Int) < (s.length : Int)) = true := by rw [decide_eq_true_eq]; omega
  have e2 : decide (35 + ((j + 1 : Nat) : Int) > 35) = true := by rw [decide_eq_true_eq]; omega
  have e3 : (35 + (j : Int)).toNat = 35 + j := by omega
  have e4 : s.getD (35 + j) 0 = (s.drop 35).getD j 0 := by simp [List.getD, List.getElem?_drop]
  rw [e0, e1, Bool.true_or, cond_true, e2, cond_true, e3, e4]
  unfold trimN
  by_cases hz : (s.drop 35).getD j 0 = 0
  ·rw [if_pos (by simpa using hz), if_pos hz]
   exact trim_loop Xt K s hs hb a0 a1 a2 a3 a4 a5 a6 a7 a8 a10 j n (by omega) (by omega)
  ·rw [if_neg (by simpa using hz), if_neg hz]
theorem get_M (u : Unit) (s : List Int) (hb : Byts s) : load_meta__get.run u s = some (if s.length < 67 then (nilLoad, 4, ()) else if s.length > 67 then (nilLoad, 3, ()) else (rdM 0 s, 0, ())) := by
 unfold load_meta__get.run load_meta__get.top
 by_cases h : s.length < 67
 ·rw [if_pos (by rw [decide_eq_true_eq]; omega), if_pos h]
 ·rw [if_neg (by rw [decide_eq_true_eq]; omega), if_neg h]
  by_cases h2 : s.length > 67
  ·rw [if_pos (by rw [decide_eq_true_eq]; omega), if_pos h2]
  ·have hs : s.length = 67 := by omega
   rw [if_neg (by rw [decide_eq_true_eq]; omega), if_neg h2]
   refine (trim_loop _ fuel s hs hb 0 [0, 0, 0, 0] [0, 0, 0, 0] (List.replicate 32 0) 0 (List.replicate 32 0) 0 0 [] 0 32 fuel (by rw [fuel_big]; omega) (by omega)).trans ?_
   unfold load_meta__get.j0
   have ht := trimN_le (s.drop 35) 32
   have c1 : cutL s 0 32 = s.take 32 := cutN s 0 32
   have c2 : cutL s 35 (35 + (trimN (s.drop 35) 32 : Int)) = (s.drop 35).take (trimN (s.drop 35) 32) := by
    have := cutN s 35 (35 + trimN (s.drop 35) 32)
    rw [Nat.add_sub_cancel_left] at this
    exact this
   have l1 : (s.take 32).length = 32 := by simp; omega
   have t1 := two_at (n := 32) (l := s) (by omega) hb
   rw [if_pos (by omega), c1, word_run' _ l1, Option.bind_some, if_pos (by omega), if_pos (by omega), if_pos (by omega), if_pos (by omega), c2, t1, bW hb 34]
   rfl
theorem keys_loop {α : Type} (Xt : Int -> List Int -> List Int -> List Int -> Int -> List Int -> Int -> Int -> List Int -> Int -> Int -> List Int -> List Int -> List Int -> Int -> List Int -> Int -> Int -> List Int -> Int -> List (List Int) -> Option α) (K : Nat) (s : List Int) (N : Nat) (hN : N <= 255) (hs : s.length = 5 + 20 * N)
  (a0 : Int) (a1 a2 a3 : List Int) (a4 : Int) (a5 : List Int) (a6 a7 : Int) (a8 : List Int) (a10 : Int) (b0 : Int) (b1 b2 b3 : List Int) (b4 : Int) (b5 : List Int) (b6 b7 : Int) (b8 : List Int) (b10 : Int) : ∀ (m i n : Nat) (c : List (List Int)), m < n -> i + m = N -> c.length = i ->
  load_turn__get.l0 K Xt n s (N : Int) (i : Int) a0 a1 a2 a3 a4 a5 a6 a7 a8 a10 b0 b1 b2 b3 b4 b5 b6 b7 b8 b10 c = Xt a0 a1 a2 a3 a4 a5 a6 a7 a8 a10 b0 b1 b2 b3 b4 b5 b6 b7 b8 b10 (c ++ keysOf m (s.drop (5 + 20 * i)))
 | m, i, 0, c, h, _, _ => by omega
 | 0, i, n + 1, c, h, hi, hc => by
  simp only [load_turn__get.l0, load_turn__get.l0s]
  rw [if_neg (by rw [decide_eq_true_eq]; omega)]
  simp [keysOf]
 | m + 1, i, n + 1, c, h, hi, hc => by
  simp only [load_turn__get.l0, load_turn__get.l0s]
  have e1 : IntKind.i64.wrap (5 + IntKind.i64.wrap (20 * (i : Int))) = ((5 + 20 * i : Nat) : Int) := by
   rw [wrap_i64 (x := 20 * (i : Int)) (by omega) (by omega), wrap_i64 (by omega) (by omega)]; omega
  rw [if_pos (by rw [decide_eq_true_eq]; omega), e1, if_pos (by omega), if_pos (fitB_small (by omega) (by omega)), i64_succ (by omega), cutE]
  refine (keys_loop Xt K s N hN hs a0 a1 a2 a3 a4 a5 a6 a7 a8 a10 b0 b1 b2 b3 b4 b5 b6 b7 b8 b10 m (i + 1) n _ (by omega) (by omega) (by simp; omega)).trans ?_
  rw [List.append_assoc]
  simp only [keysOf, List.singleton_append, List.drop_drop]
  rw [show 5 + 20 * i + 20 = 5 + 20 * (i + 1) by omega]
theorem or_small (k : Nat) {a c : Int} (ha : 0 <= a) (hc : 0 <= c /\ c < 2 ^ k) (hk : k <= 62) (h : a * 2 ^ k + c < 9223372036854775808) : bor .i64 (a * 2 ^ k) c = a * 2 ^ k + c := by
 obtain ⟨A, rfl⟩ := Int.eq_ofNat_of_zero_le ha
 obtain ⟨X, rfl⟩ := Int.eq_ofNat_of_zero_le hc.1
 have e : (A : Int) * 2 ^ k = ((2 ^ k * A : Nat) : Int) := by push_cast; rw [Int.mul_comm]
 have hX : X < 2 ^ k := by
  have := hc.2
  rw [show ((2 : Int) ^ k) = ((2 ^ k : Nat) : Int) by push_cast; rfl] at this
  omega
 rw [e] at h ⊢
 unfold bor
 have h1 : (BitVec.ofInt IntKind.i64.bits ((2 ^ k * A : Nat) : Int)).toNat = 2 ^ k * A := by
  rw [BitVec.toNat_ofInt, show (2 ^ IntKind.i64.bits : Nat) = 18446744073709551616 from rfl]; omega
 have h2 : (BitVec.ofInt IntKind.i64.bits ((X : Nat) : Int)).toNat = X := by
  rw [BitVec.toNat_ofInt, show (2 ^ IntKind.i64.bits : Nat) = 18446744073709551616 from rfl]; omega
 rw [BitVec.toNat_or, h1, h2, <- Nat.two_pow_add_eq_or_of_lt hX]
 rw [wrap_i64 (by omega) (by omega)]
 push_cast; rfl
theorem shl_small (k : Nat) {b : Int} (hb : 0 <= b /\ b < 256) (hk : k <= 48) : shlI .i64 b (k : Int) = b * 2 ^ k := by
 unfold shlI
 rw [show min ((k : Nat) : Int).toNat IntKind.i64.bits = k by simp [IntKind.bits]; omega]
 have h1 : (2 : Nat) ^ k <= 2 ^ 48 := Nat.pow_le_pow_right (by omega) hk
 obtain ⟨B, rfl⟩ := Int.eq_ofNat_of_zero_le hb.1
 have h2 : B * 2 ^ k <= 256 * 2 ^ 48 := Nat.mul_le_mul (by omega) h1
 rw [show (B : Int) * 2 ^ k = ((B * 2 ^ k : Nat) : Int) by push_cast; rfl]
 exact wrap_i64 (by omega) (by omega)
theorem four_at {l : List Int} (h : 4 <= l.length) (hb : Byts l) : bor .i64 (bor .i64 (bor .i64 (shlI .i64 (IntKind.i64.wrap (l.getD 0 0)) 24) (shlI .i64 (IntKind.i64.wrap (l.getD 1 0)) 16)) (shlI .i64 (IntKind.i64.wrap (l.getD 2 0)) 8)) (IntKind.i64.wrap (l.getD 3 0)) = numW (l.take 4) := by
 have e : l.take 4 = [l.getD 0 0, l.getD 1 0, l.getD 2 0, l.getD 3 0] := by
  obtain ⟨a, t, rfl, h1⟩ := Frm.cons_of_len (n := l.length - 1) (l := l) (by omega)
  obtain ⟨b, t2, rfl, h2⟩ := Frm.cons_of_len (n := t.length - 1) (l := t) (by simp at h; omega)
  obtain ⟨c, t3, rfl, h3⟩ := Frm.cons_of_len (n := t2.length - 1) (l := t2) (by simp at h; omega)
  obtain ⟨d, t4, rfl, h4⟩ := Frm.cons_of_len (n := t3.length - 1) (l := t3) (by simp at h; omega)
  rfl
 have h0 := byteAt hb 0
 have h1 := byteAt hb 1
 have h2 := byteAt hb 2
 have h3 := byteAt hb 3
 rw [e, bW hb 0, bW hb 1, bW hb 2, bW hb 3]
 generalize l.getD 0 0 = b0 at *
 generalize l.getD 1 0 = b1 at *
 generalize l.getD 2 0 = b2 at *
 generalize l.getD 3 0 = b3 at *
 have s0 := shl_small 24 h0 (by omega)
 have s1 := shl_small 16 h1 (by omega)
 have s2 := shl_small 8 h2 (by omega)
 rw [show ((24 : Nat) : Int) = 24 from rfl, show (2 : Int) ^ 24 = 16777216 from rfl] at s0
 rw [show ((16 : Nat) : Int) = 16 from rfl, show (2 : Int) ^ 16 = 65536 from rfl] at s1
 rw [show ((8 : Nat) : Int) = 8 from rfl, show (2 : Int) ^ 8 = 256 from rfl] at s2
 rw [s0, s1, s2]
 have o1 := or_small 24 (a := b0) (c := b1 * 65536) (by omega) ⟨by omega, by rw [show (2 : Int) ^ 24 = 16777216 from rfl]; omega⟩ (by omega) (by rw [show (2 : Int) ^ 24 = 16777216 from rfl]; omega)
 rw [show (2 : Int) ^ 24 = 16777216 from rfl] at o1
 have o2 := or_small 16 (a := b0 * 256 + b1) (c := b2 * 256) (by omega) ⟨by omega, by rw [show (2 : Int) ^ 16 = 65536 from rfl]; omega⟩ (by omega) (by rw [show (2 : Int) ^ 16 = 65536 from rfl]; omega)
 rw [show (2 : Int) ^ 16 = 65536 from rfl] at o2
 have o3 := or_small 8 (a := (b0 * 256 + b1) * 256 + b2) (c := b3) (by omega) ⟨by omega, by rw [show (2 : Int) ^ 8 = 256 from rfl]; omega⟩ (by omega) (by rw [show (2 : Int) ^ 8 = 256 from rfl]; omega)
 rw [show (2 : Int) ^ 8 = 256 from rfl] at o3
 rw [o1, show b0 * 16777216 + b1 * 65536 = (b0 * 256 + b1) * 65536 by omega, o2, show (b0 * 256 + b1) * 65536 + b2 * 256 = ((b0 * 256 + b1) * 256 + b2) * 256 by omega, o3]
 unfold numW numI
 simp only [List.foldl]
 rw [wrap_i64 (by omega) (by omega)]
 omega
theorem get_K (u : Unit) (s : List Int) (hb : Byts s) : load_turn__get.run u s = some (if s.length < 5 \/ s.length < 5 + 20 * (s.getD 4 0).toNat then (nilLoad, 4, ()) else if s.length > 5 + 20 * (s.getD 4 0).toNat then (nilLoad, 3, ()) else (rdK 0 s, 0, ())) := by
 unfold load_turn__get.run load_turn__get.top
 have h4 := byteAt hb 4
 obtain ⟨N, hN⟩ := Int.eq_ofNat_of_zero_le h4.1
 have e0 : IntKind.i64.wrap (5 + IntKind.i64.wrap (20 * IntKind.i64.wrap (s.getD 4 0))) = ((5 + 20 * N : Nat) : Int) := by
  rw [bW hb 4, hN, wrap_i64 (x := 20 * (N : Int)) (by omega) (by omega), wrap_i64 (by omega) (by omega)]; omega
 have eN : (s.getD 4 0).toNat = N := by rw [hN]; rfl
 rw [e0, eN]
 by_cases h5 : s.length < 5
 ·rw [show decide ((s.length : Int) < 5) = true by rw [decide_eq_true_eq]; omega]
  rw [show decide (0 <= (4 : Int) /\ (4 : Int) < (s.length : Int)) = false by rw [decide_eq_false_iff_not]; omega]
  rw [if_pos (show s.length < 5 \/ s.length < 5 + 20 * N from .inl h5)]
  rfl
 ·rw [show decide ((s.length : Int) < 5) = false by rw [decide_eq_false_iff_not]; omega]
  rw [show decide (0 <= (4 : Int) /\ (4 : Int) < (s.length : Int)) = true by rw [decide_eq_true_eq]; omega]
  simp only [Bool.true_or, cond_true, cond_false]
  by_cases h6 : s.length < 5 + 20 * N
  ·rw [if_pos (by rw [decide_eq_true_eq]; omega), if_pos (show s.length < 5 \/ s.length < 5 + 20 * N from .inr h6)]
  ·rw [if_neg (by rw [decide_eq_true_eq]; omega), if_neg (show ¬ (s.length < 5 \/ s.length < 5 + 20 * N) by omega), if_pos (by omega), if_pos (by omega), if_pos (by omega), if_pos (by omega), if_pos (by omega)]
   by_cases h7 : s.length > 5 + 20 * N
   ·rw [if_pos (by rw [decide_eq_true_eq]; omega), if_pos h7]
   ·rw [if_neg (by rw [decide_eq_true_eq]; omega), if_neg h7, four_at (by omega) hb, bW hb 4, hN]
    refine (keys_loop _ fuel s N (by omega) (by omega) _ _ _ _ _ _ _ _ _ _ _ _ _ _ _ _ _ _ _ _ N 0 fuel [] (by rw [fuel_big]; omega) (by omega) rfl).trans ?_
    unfold load_turn__get.j0 rdK
    rw [eN, List.nil_append]
end Go.Bx
