/- A part of a framework that reads Go code as functions of plain data; or a law about such functions. -/
import Derived.Test.YthgnmgdhgmobpaaLawLogTail
import Derived.Test.YthgnmgdhgmobpaaLawLogSame
import Derived.Test.YthgnmgdhgmobpaaLawLogText
import Derived.Test.YthgnmgdhgmobpaaFnLogMends0
namespace Go.Bx
open Go
set_option linter.unusedSimpArgs false
set_option linter.unusedVariables false

theorem bor_i64 {X Y : Nat} (hX : X < 4294967296) (hY : Y < 4294967296) : bor .i64 (X : Int) (Y : Int) = ((X ||| Y : Nat) : Int) := by
  unfold bor
  have e : ((BitVec.ofInt IntKind.i64.bits (X : Int) ||| BitVec.ofInt IntKind.i64.bits (Y : Int)).toNat) = X ||| Y := by
    rw [ofInt_nat, ofInt_nat, BitVec.toNat_or, BitVec.toNat_ofNat, BitVec.toNat_ofNat]
    show (X % 2 ^ 64) ||| (Y % 2 ^ 64) = _
    rw [Nat.mod_eq_of_lt (by omega), Nat.mod_eq_of_lt (by omega)]
  rw [e]
  have := Nat.or_lt_two_pow (n := 32) (by simpa using hX) (by simpa using hY)
  have h2 : X ||| Y < 4294967296 := by simpa using this
  exact wrap_i64 (by omega) (by omega)

theorem len2 {x y : Int} (hx : 0 ≤ x ∧ x ≤ 255) (hy : 0 ≤ y ∧ y ≤ 255) : bor .i64 (shlI .i64 (IntKind.i64.wrap x) 8) (IntKind.i64.wrap y) = x * 256 + y := by
  rw [wrap_i64 (x := x) (by omega) (by omega), wrap_i64 (x := y) (by omega) (by omega)]
  have e1 : shlI .i64 x 8 = x * 256 := by
    unfold shlI
    have h1 : min (8 : Int).toNat IntKind.i64.bits = 8 := rfl
    rw [h1]
    exact wrap_i64 (by omega) (by omega)
  rw [e1]
  obtain ⟨X, rfl⟩ : ∃ X : Nat, x = (X : Int) := ⟨x.toNat, by omega⟩
  obtain ⟨Y, rfl⟩ : ∃ Y : Nat, y = (Y : Int) := ⟨y.toNat, by omega⟩
  have e2 : ((X : Int) * 256) = ((X * 256 : Nat) : Int) := by simp
  rw [e2, bor_i64 (by omega) (by omega)]
  have h3 := Nat.two_pow_add_eq_or_of_lt (i := 8) (b := Y) (by omega) X
  rw [show (2 : Nat) ^ 8 = 256 from rfl, Nat.mul_comm] at h3
  rw [← h3]; simp

/-- how long the first record says it is -/
def recN (b : List Int) : Nat := (b.getD 0 0 * 256 + b.getD 1 0).toNat

/-- is there a whole record ahead? -/
def recOk' (b : List Int) : Prop := 3 ≤ b.length ∧ recN b ≤ 200 ∧ recN b + 3 ≤ b.length ∧ sumI ((b.drop 2).take (recN b)) % 256 = b.getD (recN b + 2) 0

instance (b : List Int) : Decidable (recOk' b) := by unfold recOk'; infer_instance

/-- the whole records ahead, and how many bytes they have -/
def recs : Nat → List Int → List (List Int) × Nat
  | 0, _ => ([], 0)
  | m + 1, b => if recOk' b then ((b.drop 2).take (recN b) :: (recs m (b.drop (recN b + 3))).1, recN b + 3 + (recs m (b.drop (recN b + 3))).2) else ([], 0)

theorem recs_le : ∀ (m : Nat) (b : List Int), (recs m b).2 ≤ b.length ∧ 3 * (recs m b).1.length ≤ b.length
  | 0, b => by simp [recs]
  | m + 1, b => by
    unfold recs
    split
    · rename_i h
      obtain ⟨h1, h2, h3, h4⟩ := h
      have := recs_le m (b.drop (recN b + 3))
      simp only [List.length_drop, List.length_cons] at this ⊢
      omega
    · simp

theorem getD_drop (b : List Int) (i j : Nat) : (b.drop i).getD j 0 = b.getD (i + j) 0 := by
  simp [List.getD]

theorem cutL_nat (b : List Int) (i n : Nat) : cutL b (i : Int) ((i + n : Nat) : Int) = (b.drop i).take n := by
  unfold cutL
  rw [Int.toNat_natCast, Int.toNat_natCast, Nat.add_sub_cancel_left]

theorem open_loop {α : Type} (k : Nat) (Xt : Int → List (List Int) → Option α) (b : List Int) (hb : ∀ x ∈ b, 0 ≤ x ∧ x ≤ 255) (hl : b.length ≤ 4000000) : ∀ (m n i : Nat) (out : List (List Int)), i ≤ b.length → b.length - i ≤ m → b.length - i < n → out.length ≤ i →
    log_Open.l0 k Xt n (i : Int) b out = Xt ((i + (recs m (b.drop i)).2 : Nat) : Int) (out ++ (recs m (b.drop i)).1)
  | _, 0, i, out, _, _, h, _ => by omega
  | m, n + 1, i, out, hi, hm, hn, ho => by
    have dB : ∀ j, 0 ≤ b.getD j 0 ∧ b.getD j 0 ≤ 255 := fun j => by
      by_cases h : j < b.length
      · rw [getD_nat h]; exact hb _ (List.getElem_mem h)
      · simp [List.getD, List.getElem?_eq_none (show b.length ≤ j by omega)]
    have b0 := dB i
    have b1 := dB (i + 1)
    have hN : recN (b.drop i) = (b.getD i 0 * 256 + b.getD (i + 1) 0).toNat := by unfold recN; rw [getD_drop, getD_drop]; simp
    simp only [log_Open.l0, log_Open.l0s]
    have e1 : IntKind.i64.wrap ((b.length : Int) - (i : Int)) = (b.length : Int) - (i : Int) := wrap_i64 (by omega) (by omega)
    have e2 : IntKind.i64.wrap ((i : Int) + 1) = ((i + 1 : Nat) : Int) := i64_succ (by omega)
    have e3 : IntKind.i64.wrap ((i : Int) + 2) = ((i + 2 : Nat) : Int) := by rw [wrap_i64 (by omega) (by omega)]; simp
    rw [e1]
    by_cases h3 : 3 ≤ b.length - i
    · obtain ⟨m, rfl⟩ : ∃ m', m = m' + 1 := ⟨m - 1, by omega⟩
      rw [if_pos (by simp; omega), if_pos (by omega), e2, if_pos (by omega), e3]
      simp only [toNat_nat]
      simp only [len2 b0 b1]
      obtain ⟨N, hNe⟩ : ∃ N : Nat, b.getD i 0 * 256 + b.getD (i + 1) 0 = (N : Int) := ⟨(b.getD i 0 * 256 + b.getD (i + 1) 0).toNat, by omega⟩
      have hN2 : recN (b.drop i) = N := by rw [hN, hNe]; rfl
      simp only [hNe]
      have e5 : IntKind.i64.wrap (((i + 2 : Nat) : Int) + (N : Int)) = ((i + 2 + N : Nat) : Int) := by rw [wrap_i64 (by omega) (by omega)]; simp
      have e6 : IntKind.i64.wrap ((N : Int) + 3) = ((N + 3 : Nat) : Int) := by rw [wrap_i64 (by omega) (by omega)]; simp
      have e7 : IntKind.i64.wrap ((i : Int) + ((N + 3 : Nat) : Int)) = ((i + (N + 3) : Nat) : Int) := by rw [wrap_i64 (by omega) (by omega)]; simp
      simp only [e5, e6, e7, cutL_nat]
      unfold recs
      by_cases c1 : N > 200
      · rw [if_pos (by simp; omega), if_pos (by simp; omega), if_neg (by unfold recOk'; rw [hN2]; omega)]
        simp
      · rw [if_neg (by simp; omega)]
        by_cases c2 : b.length - i < N + 3
        · rw [if_pos (by simp; omega), if_pos (by simp; omega), if_neg (by unfold recOk'; rw [hN2]; simp; omega)]
          simp
        · rw [if_neg (by simp; omega), if_pos (by omega), tail_run _ (by simp; omega)]
          simp only [Option.bind_some, toNat_nat]
          rw [if_pos (by omega)]
          by_cases c3 : sumI ((b.drop (i + 2)).take N) % 256 = b.getD (i + 2 + N) 0
          · have hok : recOk' (b.drop i) := by
              unfold recOk'
              rw [hN2, getD_drop, List.drop_drop]
              refine ⟨by simp; omega, by omega, by simp; omega, ?_⟩
              rw [c3]; congr 1; omega
            rw [if_neg (by simpa using c3), if_pos (by omega), if_pos (fitB_small (by simp; omega) (by decide)), if_pos (fitB_small (by omega) (by decide)), if_pos hok]
            rw [open_loop k Xt b hb hl m n (i + (N + 3)) _ (by omega) (by omega) (by omega) (by simp; omega)]
            rw [hN2, List.drop_drop, List.drop_drop]
            simp only [List.append_assoc, List.singleton_append]
            congr 2
            omega
          · have hnok : ¬ recOk' (b.drop i) := by
              unfold recOk'
              rw [hN2, getD_drop, List.drop_drop]
              intro h
              apply c3
              rw [h.2.2.2]; congr 1; omega
            rw [if_pos (by simpa using c3), if_neg hnok]
            simp
    · rw [if_neg (by simp; omega)]
      have : recs m (b.drop i) = ([], 0) := by
        cases m with
        | zero => rfl
        | succ m => unfold recs; rw [if_neg (by unfold recOk'; simp; omega)]
      rw [this]; simp

theorem number2 (x y : Int) (hx : 0 ≤ x ∧ x ≤ 255) (hy : 0 ≤ y ∧ y ≤ 255) : basculeref_number.run [x, y] = some (x * 256 + y) := by
  have h : basculeref_number.run [x, y] = some (IntKind.i64.wrap (IntKind.u64.wrap (IntKind.u64.wrap (IntKind.u64.wrap (IntKind.u64.wrap (0 * 256) + IntKind.u64.wrap x) * 256) + IntKind.u64.wrap y))) := by kernel_rfl
  rw [h]
  have e0 : IntKind.u64.wrap (0 * 256) = 0 := rfl
  rw [e0, wrap_u64 (x := x) (by omega) (by omega), wrap_u64 (x := y) (by omega) (by omega), wrap_u64 (x := 0 + x) (by omega) (by omega), wrap_u64 (x := (0 + x) * 256) (by omega) (by omega), wrap_u64 (by omega) (by omega), wrap_i64 (by omega) (by omega)]
  congr 1
  omega

theorem records_loop {α : Type} (k : Nat) (Xt : List Int → Int → List (List Int) → Option α) (t : Int) : ∀ (m n : Nat) (b : List Int) (out : List (List Int)), (∀ x ∈ b, 0 ≤ x ∧ x ≤ 255) → b.length + 3 * out.length ≤ 4000000 → b.length ≤ m → b.length < n →
    basculeref_LogRecords.l0 k Xt n b t out = Xt (b.drop (recs m b).2) t (out ++ (recs m b).1)
  | _, 0, b, out, _, _, _, h => by omega
  | m, n + 1, b, out, hb, hl, hm, hn => by
    have dB : ∀ j, 0 ≤ b.getD j 0 ∧ b.getD j 0 ≤ 255 := fun j => by
      by_cases h : j < b.length
      · rw [getD_nat h]; exact hb _ (List.getElem_mem h)
      · simp [List.getD, List.getElem?_eq_none (show b.length ≤ j by omega)]
    have b0 := dB 0
    have b1 := dB 1
    simp only [basculeref_LogRecords.l0, basculeref_LogRecords.l0s]
    by_cases h3 : 3 ≤ b.length
    · obtain ⟨m, rfl⟩ : ∃ m', m = m' + 1 := ⟨m - 1, by omega⟩
      have hc2 : cutL b 0 2 = [b.getD 0 0, b.getD 1 0] := by
        match b, h3 with
        | x :: y :: l, _ => rfl
      rw [if_pos (by simp; omega), if_pos (by omega), hc2, number2 _ _ b0 b1]
      simp only [Option.bind_some]
      obtain ⟨N, hNe⟩ : ∃ N : Nat, b.getD 0 0 * 256 + b.getD 1 0 = (N : Int) := ⟨(b.getD 0 0 * 256 + b.getD 1 0).toNat, by omega⟩
      have hN2 : recN b = N := by unfold recN; rw [hNe]; rfl
      rw [hNe]
      have e6 : IntKind.i64.wrap ((N : Int) + 3) = ((N + 3 : Nat) : Int) := by rw [wrap_i64 (by omega) (by omega)]; simp
      have e5 : IntKind.i64.wrap (2 + (N : Int)) = ((2 + N : Nat) : Int) := by rw [wrap_i64 (by omega) (by omega)]; simp
      rw [e6, e5]
      unfold recs
      by_cases c1 : N > 200 ∨ N + 3 > b.length
      · rw [if_pos (by rw [cond_or]; simp; omega), if_neg (by unfold recOk'; rw [hN2]; omega)]
        simp
      · have e8 : cutL b 2 ((2 + N : Nat) : Int) = (b.drop 2).take N := cutL_nat b 2 N
        have e9 : cutL b 0 ((N + 3 : Nat) : Int) = b.take (N + 3) := by
          unfold cutL; rw [Int.toNat_natCast]; simp
        have e10 : cutL b ((N + 3 : Nat) : Int) (b.length : Int) = b.drop (N + 3) := by
          unfold cutL; rw [Int.toNat_natCast, Int.toNat_natCast]; exact List.take_of_length_le (by simp)
        have hrl : ((b.drop 2).take N).length = N := by simp; omega
        rw [if_neg (by rw [cond_or]; simp; omega), if_pos (by omega), e8, text_run _ (by omega) (fun x hx => hb x (List.mem_of_mem_drop (List.mem_of_mem_take hx)))]
        simp only [Option.bind_some]
        rw [if_pos (by omega), e9]
        have key : beqD .str (recText ((b.drop 2).take N)) (b.take (N + 3)) = decide (sumI ((b.drop 2).take N) % 256 = b.getD (N + 2) 0) := by
          simp only [beqD]
          rw [Bool.eq_iff_iff]
          simp only [beq_iff_eq, decide_eq_true_eq]
          have hsplit : b.take (N + 3) = [b.getD 0 0, b.getD 1 0] ++ (b.drop 2).take N ++ [b.getD (N + 2) 0] := by
            have h2 : N + 2 < b.length := by omega
            rw [show N + 3 = (N + 2) + 1 by omega, List.take_succ_eq_append_getElem h2, getD_nat h2]
            congr 1
            match b, h3 with
            | x :: y :: l, _ => simp [List.getD]
          rw [hsplit]
          unfold recText
          rw [hrl]
          have w1 : IntKind.u8.wrap (shrI .i64 (N : Int) 8) = b.getD 0 0 := by
            rw [shr8_i64 (by omega), wrap_u8 (by omega) (by omega)]; omega
          have w2 : IntKind.u8.wrap (N : Int) = b.getD 1 0 := by rw [wrap_u8_mod]; omega
          rw [w1, w2]
          constructor
          · intro h
            have := List.append_cancel_left h
            simpa using this
          · intro h; rw [h]
        rw [key]
        by_cases c3 : sumI ((b.drop 2).take N) % 256 = b.getD (N + 2) 0
        · have hok : recOk' b := by unfold recOk'; rw [hN2]; exact ⟨by omega, by omega, by omega, c3⟩
          rw [if_neg (by simpa using c3), if_pos (fitB_small (by omega) (by decide)), if_pos (by omega), if_pos hok, e10]
          rw [records_loop k Xt t m n (b.drop (N + 3)) _ (fun x hx => hb x (List.mem_of_mem_drop hx)) (by simp; omega) (by simp; omega) (by simp; omega)]
          rw [hN2, List.drop_drop]
          simp
        · have hnok : ¬ recOk' b := by unfold recOk'; rw [hN2]; exact fun h => c3 h.2.2.2
          rw [if_pos (by simpa using c3), if_neg hnok]
          simp
    · rw [if_neg (by simp; omega)]
      have : recs m b = ([], 0) := by
        cases m with
        | zero => rfl
        | succ m => unfold recs; rw [if_neg (by unfold recOk'; omega)]
      rw [this]; simp

theorem lists_loop {α : Type} (k : Nat) (Rt : Bool → Option α) (Xt : Option α) (l : List (List Int)) (hl : l.length < 4000000) : ∀ (n i : Nat), i ≤ l.length → l.length - i < n → basculelaw_sameLists.l0 k Rt Xt n l l (l.length : Int) (i : Int) = Xt
  | 0, i, _, h => by omega
  | n + 1, i, hi, h => by
    simp only [basculelaw_sameLists.l0, basculelaw_sameLists.l0s]
    by_cases hlt : i < l.length
    · rw [if_pos (by simp; omega), if_pos (by omega), if_pos (by omega), beqD_refl .str _ rfl, if_neg (by simp), i64_succ (by omega)]
      exact lists_loop k Rt Xt l hl n (i + 1) (by omega) (by omega)
    · rw [if_neg (by simp; omega)]

theorem sameLists_refl (l : List (List Int)) (hl : l.length < 4000000) : basculelaw_sameLists.run l l = some true := by
  unfold basculelaw_sameLists.run basculelaw_sameLists.top basculelaw_sameLists.j0
  rw [if_neg (by simp)]
  have := fun N (hN : l.length < N) => lists_loop N (fun (x4 : Bool) => some x4) (some true) l hl N 0 (by omega) (by omega)
  exact this fuel (by rw [fuel_big]; omega)

theorem open_run (x : List Int × List Int × Unit) (h1 : x.1.length ≤ 1048576) (h2 : x.2.1.length ≤ 1048576) (b1 : ∀ b ∈ x.1, 0 ≤ b ∧ b ≤ 255) (b2 : ∀ b ∈ x.2.1, 0 ≤ b ∧ b ≤ 255) :
    log_Open.run x = some ((recs (x.1 ++ x.2.1).length (x.1 ++ x.2.1)).1, ((recs (x.1 ++ x.2.1).length (x.1 ++ x.2.1)).2 : Int), ()) := by
  unfold log_Open.run log_Open.top log_Open.j0
  rw [if_pos (fitB_small (by omega) (by decide)), if_pos (fitB_small (by omega) (by decide))]
  have hl : (x.1 ++ x.2.1).length ≤ 4000000 := by simp; omega
  have hb : ∀ b ∈ x.1 ++ x.2.1, 0 ≤ b ∧ b ≤ 255 := fun b hb => by
    rcases List.mem_append.1 hb with h | h
    · exact b1 b h
    · exact b2 b h
  have := fun N (hN : (x.1 ++ x.2.1).length < N) => open_loop N (fun (x5 : Int) (c72 : List (List Int)) => some (c72, x5, ())) (x.1 ++ x.2.1) hb hl (x.1 ++ x.2.1).length N 0 [] (by omega) (by omega) (by omega) (by simp)
  have h := this fuel (by rw [fuel_big]; omega)
  rw [List.drop_zero, List.nil_append, Nat.zero_add] at h
  exact h

theorem records_run (x : List Int × List Int × Unit) (h1 : x.1.length ≤ 1048576) (h2 : x.2.1.length ≤ 1048576) (b1 : ∀ b ∈ x.1, 0 ≤ b ∧ b ≤ 255) (b2 : ∀ b ∈ x.2.1, 0 ≤ b ∧ b ≤ 255) :
    basculeref_LogRecords.run x = log_Open.run x := by
  rw [open_run x h1 h2 b1 b2]
  unfold basculeref_LogRecords.run basculeref_LogRecords.top basculeref_LogRecords.j0
  rw [if_pos (ble_of (by omega))]
  have hl : (x.1 ++ x.2.1).length ≤ 4000000 := by simp; omega
  have hb : ∀ b ∈ x.1 ++ x.2.1, 0 ≤ b ∧ b ≤ 255 := fun b hb => by
    rcases List.mem_append.1 hb with h | h
    · exact b1 b h
    · exact b2 b h
  have := fun N (hN : (x.1 ++ x.2.1).length < N) => records_loop N (fun (x4 : List Int) (x5 : Int) (c48 : List (List Int)) => some (c48, IntKind.i64.wrap (x5 - (x4.length : Int)), ())) ((x.1 ++ x.2.1).length : Int) (x.1 ++ x.2.1).length N (x.1 ++ x.2.1) [] hb (by simp; simp at hl; omega) (by omega) (by omega)
  have h := this fuel (by rw [fuel_big]; omega)
  refine Eq.trans h ?_
  have hle := (recs_le (x.1 ++ x.2.1).length (x.1 ++ x.2.1)).1
  rw [List.length_drop, wrap_i64 (by omega) (by omega), List.nil_append]
  congr 3
  omega

theorem bytes_of_fit {K : Ty → Nat → Prop} {l : List Int} (h : Fit K (.sl (.int .u8)) l) : ∀ b ∈ l, 0 ≤ b ∧ b ≤ 255 := fun b hb => by
  have := h.2.2 b hb
  simpa [Fit, inR_u8] using this

theorem law_LogOpens (x : (Ty.pair LogTy .unit).den) (h : Fit uptoK (.pair LogTy .unit) x) : basculelaw_LogOpens.run x.1 = some true := by
  obtain ⟨⟨f1, f2, _⟩, _⟩ := h
  have h1 : List.length x.1.1 ≤ 1048576 := f1.1
  have h2 : List.length x.1.2.1 ≤ 1048576 := f2.1
  have b1 := bytes_of_fit f1
  have b2 := bytes_of_fit f2
  unfold basculelaw_LogOpens.run basculelaw_LogOpens.top
  rw [records_run x.1 h1 h2 b1 b2, open_run x.1 h1 h2 b1 b2]
  simp only [Option.bind_some]
  have hle := recs_le (x.1.1 ++ x.1.2.1).length (x.1.1 ++ x.1.2.1)
  have hll : (x.1.1 ++ x.1.2.1).length = List.length x.1.1 + List.length x.1.2.1 := List.length_append
  rw [sameLists_refl _ (by omega)]
  simp

end Go.Bx
