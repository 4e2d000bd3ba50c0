/- A part of a framework that reads Go code as functions of plain data; or a law about such functions. -/
import Derived.Test.YtbkkahkikjifkaaLawWord
import Derived.Test.YtbkkahkikjifkaaLawLoadGet
import Derived.Test.YtbkkahkikjifkaaFnGuardSees1
namespace Go.Bx
open Go
set_option linter.unusedSimpArgs false
set_option linter.unusedVariables false
set_option maxRecDepth 100000
def finL (x : LoadD) : Option (LoadD × Int × Unit) := (basculeref_LoadFault.run x).bind fun e => some (if e = 0 then (x, 0, ()) else (nilLoad, 3, ()))
theorem j1_fin (a0 : Int) (a1 a2 a3 : List Int) (a4 : Int) (a5 : List Int) (a6 a7 : Int) (a8 : List Int) (a10 : Int) (b0 : Int) (b1 b2 b3 : List Int) (b4 : Int) (b5 : List Int) (b6 b7 : Int) (b8 b9 : List Int) (b10 : Int) (c : List (List Int)) :
  basculeref_LoadOf.j1 (fun x3 c2 => some (c2, x3, ())) a0 a1 a2 a3 a4 a5 a6 a7 a8 a10 b0 b1 b2 b3 b4 b5 b6 b7 b8 b9 b10 c = finL (b0, b1, b2, b3, b4, b5, b6, b7, b8, b9, b10, c, ()) := by
 unfold basculeref_LoadOf.j1 finL
 congr 1
 funext e
 by_cases h : e = 0
 ·rw [if_neg (by simpa using h), if_pos h]
 ·rw [if_pos (by simpa using h), if_neg h]
def rd1 (kd : Int) (s : List Int) : Option (LoadD × Int × Unit) :=
 if kd = 1 \/ kd = 3 then (if s.length < 132 then some (nilLoad, 4, ()) else finL (rdT kd s))
 else if kd = 2 then (if s.length < 67 then some (nilLoad, 4, ()) else if s.length > 67 then some (nilLoad, 3, ()) else finL (rdM kd s))
 else if kd = 4 then (if s.length < 5 \/ s.length < 5 + 20 * (s.getD 4 0).toNat then some (nilLoad, 4, ()) else if s.length > 5 + 20 * (s.getD 4 0).toNat then some (nilLoad, 3, ()) else finL (rdK kd s))
 else some (nilLoad, 2, ())
theorem name_loop {α : Type} (Xt : List Int -> List Int -> Int -> List Int -> List Int -> List Int -> Int -> List Int -> Int -> Int -> List Int -> Int -> Int -> List Int -> List Int -> List Int -> Int -> List Int -> Int -> Int -> List Int -> Int -> Option α) (K : Nat) (s w : List Int) (hw : w.length <= 32) (a0 : Int) (a1 a2 a3 : List Int) (a4 : Int) (a5 : List Int) (a6 a7 : Int) (a8 : List Int) (a10 : Int) (b0 : Int) (b1 b2 b3 : List Int) (b4 : Int) (b5 : List Int) (b6 b7 : Int) (b8 : List Int) (b10 : Int) : ∀ (j n : Nat), j < n -> j <= w.length ->
  basculeref_LoadOf.l0 K Xt n s (w.take j) a0 a1 a2 a3 a4 a5 a6 a7 a8 a10 b0 b1 b2 b3 b4 b5 b6 b7 b8 b10 = Xt s (w.take (trimN w j)) a0 a1 a2 a3 a4 a5 a6 a7 a8 a10 b0 b1 b2 b3 b4 b5 b6 b7 b8 b10
 | j, 0, h, _ => by omega
 | 0, n + 1, h, _ => by
  simp only [basculeref_LoadOf.l0, basculeref_LoadOf.l0s, List.take_zero]
  rfl
 | j + 1, n + 1, h, hj => by
  simp only [basculeref_LoadOf.l0, basculeref_LoadOf.l0s]
  have hlen : (w.take (j + 1)).length = j + 1 := by simp; omega
  have e0 : IntKind.i64.wrap (((w.take (j + 1)).length : Int) - 1) = (j : Int) := by rw [hlen, wrap_i64 (by omega) (by omega)]; omega
  have e1 : decide (0 <= (j : Int) /\ (j : Int) < ((w.take (j + 1)).length : Int)) = true := by rw [decide_eq_true_eq]; omega
  have e2 : beqD .str (w.take (j + 1)) [] = false := by
   rw [str_nil, decide_eq_false_iff_not]; omega
  have e4 : (w.take (j + 1)).getD j 0 = w.getD j 0 := by simp [List.getD, List.getElem?_take]
  have e5 : cutL (w.take (j + 1)) 0 (j : Int) = w.take j := by
   have := cutN (w.take (j + 1)) 0 j
   rw [show ((0 : Nat) : Int) = 0 from rfl] at this
   rw [this, List.drop_zero, Nat.sub_zero, List.take_take, Nat.min_eq_left (by omega)]
  rw [e0, e1, Bool.true_or, cond_true, e2, Bool.not_false, cond_true, toNat_nat, e4]
  unfold trimN
  by_cases hz : w.getD j 0 = 0
  ·rw [if_pos (by simpa using hz), if_pos hz, if_pos (by omega), e5]
   exact name_loop Xt K s w hw a0 a1 a2 a3 a4 a5 a6 a7 a8 a10 b0 b1 b2 b3 b4 b5 b6 b7 b8 b10 j n (by omega) (by omega)
  ·rw [if_neg (by simpa using hz), if_neg hz]
theorem keysR_loop {α : Type} (Xt : Int -> List Int -> List Int -> List Int -> Int -> List Int -> Int -> Int -> List Int -> Int -> Int -> List Int -> List Int -> List Int -> Int -> List Int -> Int -> Int -> List Int -> Int -> List (List Int) -> Option α) (K : Nat)
  (a0 : Int) (a1 a2 a3 : List Int) (a4 : Int) (a5 : List Int) (a6 a7 : Int) (a8 : List Int) (a10 : Int) (b0 : Int) (b1 b2 b3 : List Int) (b4 : Int) (b5 : List Int) (b6 b7 : Int) (b8 : List Int) (b10 : Int) : ∀ (m n : Nat) (l : List Int) (c : List (List Int)), m < n -> l.length = 20 * m -> c.length + m <= 255 ->
  basculeref_LoadOf.l1 K Xt n l a0 a1 a2 a3 a4 a5 a6 a7 a8 a10 b0 b1 b2 b3 b4 b5 b6 b7 b8 b10 c = Xt a0 a1 a2 a3 a4 a5 a6 a7 a8 a10 b0 b1 b2 b3 b4 b5 b6 b7 b8 b10 (c ++ keysOf m l)
 | m, 0, l, c, h, _, _ => by omega
 | 0, n + 1, l, c, h, hl, hc => by
  simp only [basculeref_LoadOf.l1, basculeref_LoadOf.l1s]
  rw [str_nil, decide_eq_true (show l.length = 0 by omega), if_neg (by decide)]
  simp [keysOf]
 | m + 1, n + 1, l, c, h, hl, hc => by
  simp only [basculeref_LoadOf.l1, basculeref_LoadOf.l1s]
  rw [str_nil, decide_eq_false (show ¬ l.length = 0 by omega), if_pos (by decide), if_pos (fitB_small (by omega) (by omega)), if_pos (by omega)]
  have e5 : cutL l 20 (l.length : Int) = l.drop 20 := cutE l 20
  rw [e5]
  refine (keysR_loop Xt K a0 a1 a2 a3 a4 a5 a6 a7 a8 a10 b0 b1 b2 b3 b4 b5 b6 b7 b8 b10 m n _ _ (by omega) (by simp; omega) (by simp; omega)).trans ?_
  rw [List.append_assoc]
  simp only [keysOf, List.singleton_append]
theorem of_read (x : List Int) (hb : Byts x) (hl : x.length <= 140737488351232) : basculeref_LoadOf.run x = if x.length = 0 then some (nilLoad, 4, ()) else rd1 (x.getD 0 0) (x.drop 1) := by
 unfold basculeref_LoadOf.run basculeref_LoadOf.top
 rw [str_nil]
 by_cases h0 : x.length = 0
 ·rw [decide_eq_true h0, if_pos rfl, if_pos h0]
 ·rw [decide_eq_false h0, if_neg (by decide), if_neg h0, if_pos (by omega), if_pos (by omega)]
  have e1 : cutL x 1 (x.length : Int) = x.drop 1 := cutE x 1
  rw [e1, bW hb 0]
  have hk := byteAt hb 0
  have hbs := dropB hb 1
  have hls : (x.drop 1).length <= 140737488351232 := by simp; omega
  generalize x.getD 0 0 = kd at *
  generalize x.drop 1 = s at *
  have hj : (if (kd == 1) = true then
    basculeref_LoadOf.j0 fuel (fun x3 c2 => some (c2, x3, ())) s kd (kd == 1) 0 [0, 0, 0, 0] [0, 0, 0, 0] (List.replicate 32 0) 0 (List.replicate 32 0) 0 0 [] 0 kd [0, 0, 0, 0] [0, 0, 0, 0] (List.replicate 32 0) 0 (List.replicate 32 0) 0 0 [] 0
   else basculeref_LoadOf.j0 fuel (fun x3 c2 => some (c2, x3, ())) s kd (kd == 3) 0 [0, 0, 0, 0] [0, 0, 0, 0] (List.replicate 32 0) 0 (List.replicate 32 0) 0 0 [] 0 kd [0, 0, 0, 0] [0, 0, 0, 0] (List.replicate 32 0) 0 (List.replicate 32 0) 0 0 [] 0) =
    basculeref_LoadOf.j0 fuel (fun x3 c2 => some (c2, x3, ())) s kd (decide (kd = 1 \/ kd = 3)) 0 [0, 0, 0, 0] [0, 0, 0, 0] (List.replicate 32 0) 0 (List.replicate 32 0) 0 0 [] 0 kd [0, 0, 0, 0] [0, 0, 0, 0] (List.replicate 32 0) 0 (List.replicate 32 0) 0 0 [] 0 := by
   by_cases k1 : kd = 1
   ·rw [if_pos (by simpa using k1), decide_eq_true (Or.inl k1), show (kd == 1) = true by simpa using k1]
   ·rw [if_neg (by simpa using k1)]
    by_cases k3 : kd = 3
    ·rw [decide_eq_true (Or.inr k3), show (kd == 3) = true by simpa using k3]
    ·rw [decide_eq_false (show ¬ (kd = 1 \/ kd = 3) by omega), show (kd == 3) = false by simpa using k3]
  refine hj.trans ?_
  unfold basculeref_LoadOf.j0 rd1
  by_cases k13 : kd = 1 \/ kd = 3
  ·rw [decide_eq_true k13, if_pos rfl, if_pos k13]
   by_cases h : s.length < 132
   ·rw [if_pos (by rw [decide_eq_true_eq]; omega), if_pos h]
   ·have c1 : cutL s 0 32 = s.take 32 := cutN s 0 32
    have c2 : cutL s 32 64 = (s.drop 32).take 32 := cutN s 32 64
    have c3 : cutL s 66 98 = (s.drop 66).take 32 := cutN s 66 98
    have c4 : cutL s 100 132 = (s.drop 100).take 32 := cutN s 100 132
    have c5 : cutL s 132 (s.length : Int) = s.drop 132 := cutE s 132
    have c6 : cutL s 64 66 = (s.drop 64).take 2 := cutN s 64 66
    have c7 : cutL s 98 100 = (s.drop 98).take 2 := cutN s 98 100
    have l1 : (s.take 32).length = 32 := by simp; omega
    have l2 : ((s.drop 32).take 32).length = 32 := by simp; omega
    have l3 : ((s.drop 66).take 32).length = 32 := by simp; omega
    have l4 : ((s.drop 100).take 32).length = 32 := by simp; omega
    rw [if_neg (by rw [decide_eq_true_eq]; omega), if_neg h, if_pos (by omega), c1, wideOf_wid _ l1 (takeB hbs 32), Option.bind_some, if_pos (by omega), c2, word_run _ (by omega), pad_full _ l2, Option.bind_some,
     if_pos (by omega), c6, refnum_run _ (by simp; omega) (takeB (dropB hbs 64) 2), Option.bind_some, if_pos (by omega), c3, word_run _ (by omega), pad_full _ l3, Option.bind_some,
     if_pos (by omega), c7, refnum_run _ (by simp; omega) (takeB (dropB hbs 98) 2), Option.bind_some, if_pos (by omega), c4, wideOf_wid _ l4 (takeB (dropB hbs 100) 32), Option.bind_some, if_pos (by omega), c5, j1_fin]
    rfl
  ·rw [decide_eq_false k13, if_neg (by decide), if_neg k13]
   by_cases k2 : kd = 2
   ·rw [if_pos (by simpa using k2), if_pos k2]
    by_cases h : s.length < 67
    ·rw [if_pos (by rw [decide_eq_true_eq]; omega), if_pos h]
    ·rw [if_neg (by rw [decide_eq_true_eq]; omega), if_neg h]
     by_cases h2 : s.length > 67
     ·rw [if_pos (by rw [decide_eq_true_eq]; omega), if_pos h2]
     ·have c0 : cutL s 35 (s.length : Int) = s.drop 35 := cutE s 35
      have hw : (s.drop 35).length = 32 := by simp; omega
      have ht : (s.drop 35).take 32 = s.drop 35 := List.take_of_length_le (by omega)
      have c1 : cutL s 0 32 = s.take 32 := cutN s 0 32
      have c2 : cutL s 32 34 = (s.drop 32).take 2 := cutN s 32 34
      have l1 : (s.take 32).length = 32 := by simp; omega
      rw [if_neg (by rw [decide_eq_true_eq]; omega), if_neg h2, if_pos (by omega), c0]
      have hn := name_loop (fun x4 x6 c2p0 c2p1 c2p2 c2p3 c2p4 c2p5 c2p6 c2p7 c2p8 c2p10 c5p0 c5p1 c5p2 c5p3 c5p4 c5p5 c5p6 c5p7 c5p8 c5p10 => basculeref_LoadOf.j2 (fun x3 c2 => some (c2, x3, ())) x4 x6 c2p0 c2p1 c2p2 c2p3 c2p4 c2p5 c2p6 c2p7 c2p8 c2p10 c5p0 c5p1 c5p2 c5p3 c5p4 c5p5 c5p6 c5p7 c5p8 c5p10) fuel s (s.drop 35) (by omega)
       0 [0, 0, 0, 0] [0, 0, 0, 0] (List.replicate 32 0) 0 (List.replicate 32 0) 0 0 [] 0 kd [0, 0, 0, 0] [0, 0, 0, 0] (List.replicate 32 0) 0 (List.replicate 32 0) 0 0 [] 0 32 fuel (by rw [fuel_big]; omega) (by omega)
      rw [ht] at hn
      refine hn.trans ?_
      unfold basculeref_LoadOf.j2
      rw [if_pos (by omega), c1, word_run _ (by omega), pad_full _ l1, Option.bind_some, if_pos (by omega), c2, refnum_run _ (by simp; omega) (takeB (dropB hbs 32) 2), Option.bind_some, if_pos (by omega), j1_fin, bW hbs 34]
      rfl
   ·rw [if_neg (by simpa using k2), if_neg k2]
    by_cases k4 : kd = 4
    ·rw [if_pos (by simpa using k4), if_pos k4]
     have h4 := byteAt hbs 4
     obtain ⟨N, hN⟩ := Int.eq_ofNat_of_zero_le h4.1
     have e0 : IntKind.i64.wrap (5 + IntKind.i64.wrap (20 * IntKind.i64.wrap (s.getD 4 0))) = ((5 + 20 * N : Nat) : Int) := by
      rw [bW hbs 4, hN, wrap_i64 (x := 20 * (N : Int)) (by omega) (by omega), wrap_i64 (by omega) (by omega)]; omega
     have eN : (s.getD 4 0).toNat = N := by rw [hN]; rfl
     rw [e0, eN]
     by_cases h5 : s.length < 5
     ·rw [show decide ((s.length : Int) < 5) = true by rw [decide_eq_true_eq]; omega]
      rw [show decide (0 <= (4 : Int) /\ (4 : Int) < (s.length : Int)) = false by rw [decide_eq_false_iff_not]; omega]
      rw [if_pos (show s.length < 5 \/ s.length < 5 + 20 * N from .inl h5)]
      rfl
     ·rw [show decide ((s.length : Int) < 5) = false by rw [decide_eq_false_iff_not]; omega]
      rw [show decide (0 <= (4 : Int) /\ (4 : Int) < (s.length : Int)) = true by rw [decide_eq_true_eq]; omega]
      simp only [Bool.true_or, cond_true, cond_false]
      by_cases h6 : s.length < 5 + 20 * N
      ·rw [if_pos (by rw [decide_eq_true_eq]; omega), if_pos (show s.length < 5 \/ s.length < 5 + 20 * N from .inr h6)]
      ·rw [if_neg (by rw [decide_eq_true_eq]; omega), if_neg (show ¬ (s.length < 5 \/ s.length < 5 + 20 * N) by omega), if_pos (by omega)]
       by_cases h7 : s.length > 5 + 20 * N
       ·rw [if_pos (by rw [decide_eq_true_eq]; omega), if_pos h7]
       ·have c1 : cutL s 0 4 = s.take 4 := cutN s 0 4
        have c5 : cutL s 5 (s.length : Int) = s.drop 5 := cutE s 5
        rw [if_neg (by rw [decide_eq_true_eq]; omega), if_neg h7, if_pos (by omega), c1, refnum_run _ (by simp; omega) (takeB hbs 4), Option.bind_some, if_pos (by omega), c5]
        refine (keysR_loop _ fuel _ _ _ _ _ _ _ _ _ _ _ _ _ _ _ _ _ _ _ _ N fuel (s.drop 5) [] (by rw [fuel_big]; omega) (by simp; omega) (by simp; omega)).trans ?_
        rw [j1_fin, List.nil_append]
        unfold rdK
        rw [eN]
    ·rw [if_neg (by simpa using k4), if_neg k4]
theorem fin_same (x : LoadD) (ha : x.2.1.length = 4 /\ digs B64 x.2.1) (hf : x.2.2.1.length = 4 /\ digs B64 x.2.2.1) (hs : x.2.2.2.2.2.2.2.2.1.length <= 1000) (hk : x.2.2.2.2.2.2.2.2.2.2.2.1.length <= 1000) :
  ∃ c, load_Check.run x = some c /\ basculeref_LoadFault.run x = some c := by
 obtain ⟨kd, am, fe, tk, ho, to, tc, de, sy, da, ix, ks, u⟩ := x
 exact checks_load kd am fe tk ho to tc de sy da ix ks ha hf (by simp only at hs; omega) (by simp only at hk; omega)
theorem dz4' : ([0, 0, 0, 0] : List Int).length = 4 /\ digs B64 [0, 0, 0, 0] := ⟨rfl, digs_cons.2 ⟨by decide, digs_cons.2 ⟨by decide, digs_cons.2 ⟨by decide, digs_cons.2 ⟨by decide, digs_nil⟩⟩⟩⟩⟩
theorem step (x : LoadD) (c : Int) (h : load_Check.run x = some c) (g : basculeref_LoadFault.run x = some c) :
  ((load_Check.run x).bind fun y => if (y != 0) = true then some (nilLoad, (3 : Int), ()) else some (x, 0, ())) = finL x := by
 unfold finL
 rw [h, g, Option.bind_some, Option.bind_some]
 by_cases hc : c = 0
 ·rw [if_neg (by simpa using hc), if_pos hc]
 ·rw [if_pos (by simpa using hc), if_neg hc]
theorem rdT_kd (kd : Int) (s : List Int) : (kd, (rdT 0 s).2) = rdT kd s := by simp only [rdT]
theorem rdM_kd (kd : Int) (s : List Int) : (kd, (rdM 0 s).2) = rdM kd s := by simp only [rdM]
theorem rdK_kd (kd : Int) (s : List Int) : (kd, (rdK 0 s).2) = rdK kd s := by simp only [rdK]
theorem decode_read (x : List Int) (hb : Byts x) (hl : x.length <= 140737488351232) : load_Decode.run x = if x.length = 0 then some (nilLoad, 4, ()) else rd1 (x.getD 0 0) (x.drop 1) := by
 unfold load_Decode.run load_Decode.top
 by_cases h0 : x.length = 0
 ·rw [if_pos (by simp [h0]), if_pos h0]
 ·rw [if_neg (show ¬ (((x.length : Int) == 0) = true) by rw [beq_iff_eq]; omega), if_neg h0, if_pos (by omega)]
  have e1 : cutL x 1 (x.length : Int) = x.drop 1 := cutE x 1
  rw [e1, bW hb 0]
  have hk := byteAt hb 0
  have hbs := dropB hb 1
  have hls : (x.drop 1).length <= 140737488351232 := by simp; omega
  have hx1 : (0 : Int) <= 1 /\ (1 : Int) <= (x.length : Int) /\ (x.length : Int) <= (x.length : Int) := by omega
  have hx0 : (0 : Int) <= 0 /\ (0 : Int) < (x.length : Int) := by omega
  generalize x.getD 0 0 = kd at *
  generalize x.drop 1 = s at *
  unfold rd1
  by_cases k13 : kd = 1 \/ kd = 3
  ·rw [kind_transfer kd k13, Option.bind_some, Sum.elim_inl, if_neg (by simp), if_pos hx1, if_pos k13, get_T _ s hbs hls, Option.bind_some]
   by_cases h : s.length < 132
   ·rw [if_pos h, if_pos h]; rfl
   ·rw [if_neg h, if_neg h]
    simp only [show ((0 : Int) != 0) = false from rfl, Bool.false_eq_true, if_false]
    rw [if_pos hx0]
    have l1 : (s.take 32).length = 32 := by simp; omega
    have l4 : ((s.drop 100).take 32).length = 32 := by simp; omega
    obtain ⟨c, g1, g2⟩ := fin_same (rdT kd s) (by simp only [rdT]; exact wid_digs _ l1 (takeB hbs 32)) (by simp only [rdT]; exact wid_digs _ l4 (takeB (dropB hbs 100) 32)) (by simp [rdT]) (by simp [rdT])
    show ((load_Check.run (kd, (rdT 0 s).2)).bind fun y => if (y != 0) = true then some (nilLoad, (3 : Int), ()) else some ((kd, (rdT 0 s).2), 0, ())) = finL (rdT kd s)
    rw [rdT_kd]
    exact step (rdT kd s) c g1 g2
  ·rw [if_neg k13]
   by_cases k2 : kd = 2
   ·subst k2
    rw [kind_meta, Option.bind_some, Sum.elim_inr, Sum.elim_inl, if_neg (by simp), if_pos hx1, if_pos rfl, get_M _ s hbs, Option.bind_some]
    by_cases h : s.length < 67
    ·rw [if_pos h, if_pos h]; rfl
    ·rw [if_neg h, if_neg h]
     by_cases h2 : s.length > 67
     ·rw [if_pos h2, if_pos h2]; rfl
     ·rw [if_neg h2, if_neg h2]
      simp only [show ((0 : Int) != 0) = false from rfl, Bool.false_eq_true, if_false]
      rw [if_pos hx0]
      obtain ⟨c, g1, g2⟩ := fin_same (rdM 2 s) (by simp only [rdM]; exact dz4') (by simp only [rdM]; exact dz4') (by simp [rdM]; omega) (by simp [rdM])
      show ((load_Check.run (2, (rdM 0 s).2)).bind fun y => if (y != 0) = true then some (nilLoad, (3 : Int), ()) else some ((2, (rdM 0 s).2), 0, ())) = finL (rdM 2 s)
      rw [rdM_kd]
      exact step (rdM 2 s) c g1 g2
   ·rw [if_neg k2]
    by_cases k4 : kd = 4
    ·subst k4
     rw [kind_turn, Option.bind_some, Sum.elim_inr, Sum.elim_inr, Sum.elim_inl, if_neg (by simp), if_pos hx1, if_pos rfl, get_K _ s hbs, Option.bind_some]
     have h4 := byteAt hbs 4
     by_cases h : s.length < 5 \/ s.length < 5 + 20 * (s.getD 4 0).toNat
     ·rw [if_pos h, if_pos h]; rfl
     ·rw [if_neg h, if_neg h]
      by_cases h2 : s.length > 5 + 20 * (s.getD 4 0).toNat
      ·rw [if_pos h2, if_pos h2]; rfl
      ·rw [if_neg h2, if_neg h2]
       simp only [show ((0 : Int) != 0) = false from rfl, Bool.false_eq_true, if_false]
       rw [if_pos hx0]
       obtain ⟨c, g1, g2⟩ := fin_same (rdK 4 s) (by simp only [rdK]; exact dz4') (by simp only [rdK]; exact dz4') (by simp [rdK]) (by simp only [rdK, keysOf_len]; omega)
       show ((load_Check.run (4, (rdK 0 s).2)).bind fun y => if (y != 0) = true then some (nilLoad, (3 : Int), ()) else some ((4, (rdK 0 s).2), 0, ())) = finL (rdK 4 s)
       rw [rdK_kd]
       exact step (rdK 4 s) c g1 g2
    ·rw [if_neg k4, kind_none kd (by omega) k2 (by omega) k4, Option.bind_some, Sum.elim_inr, Sum.elim_inr, Sum.elim_inr, Sum.elim_inl]
     rfl
end Go.Bx
