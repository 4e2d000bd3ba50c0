/- A part of a framework that reads Go code as functions of plain data; or a law about such functions. -/
import Derived.Test.YtbkkahkikjifkaaLawByte
import Derived.Test.YtbkkahkikjifkaaLawBody
import Derived.Test.YtbkkahkikjifkaaFnGuardSees1
namespace Go.Bx
open Go
set_option linter.unusedSimpArgs false
set_option linter.unusedVariables false
set_option maxRecDepth 100000
theorem pen2_loop {α : Type} (Xt : List Int -> Option α) (K : Nat) (x : Int) : ∀ (m n : Nat) (c : List Int), m < n -> m <= 8 -> c.length + m <= 1000000 ->
  paper_pen__number_s2.l0 K Xt n x ((m : Int) - 1) c = Xt (c ++ be x m)
 | m, 0, c, h, _, _ => by omega
 | 0, n + 1, c, h, hm, hb => by
  simp only [paper_pen__number_s2.l0, paper_pen__number_s2.l0s]
  rw [if_neg (by rw [decide_eq_true_eq]; omega)]
  simp [be]
 | m + 1, n + 1, c, h, hm, hb => by
  simp only [paper_pen__number_s2.l0, paper_pen__number_s2.l0s]
  have e1 : ((m + 1 : Nat) : Int) - 1 = (m : Int) := by omega
  rw [e1, if_pos (by rw [decide_eq_true_eq]; omega), wrap_i64 (x := 8 * (m : Int)) (by omega) (by omega), if_pos (by omega), if_pos (fitB_small (by omega) (by omega)), wrap_i64 (x := (m : Int) - 1) (by omega) (by omega)]
  have e2 : IntKind.u8.wrap (shrI .i64 x (8 * (m : Int))) = byt x (8 * m) := by
   have := shr_byt .i64 x (8 * m) (by simp [IntKind.bits]; omega)
   rw [<- this]; congr 2
  rw [e2]
  refine (pen2_loop Xt K x m n _ (by omega) (by omega) (by simp; omega)).trans ?_
  simp [be]
theorem pen2_run (x : Int) (m : Nat) (c : List Int) (hm : m <= 8) (hb : c.length <= 999900) : paper_pen__number_s2.run x (m : Int) c = some (c ++ be x m, ()) := by
 unfold paper_pen__number_s2.run paper_pen__number_s2.top
 rw [wrap_i64 (by omega) (by omega)]
 exact pen2_loop (fun c25 => some (c25, ())) fuel x m fuel c (by rw [fuel_big]; omega) hm (by omega)
theorem pen1_loop {α : Type} (Xt : List Int -> Option α) (K : Nat) (x : Int) : ∀ (m n : Nat) (c : List Int), m < n -> m <= 8 -> c.length + m <= 1000000 ->
  paper_pen__number_s1.l0 K Xt n x ((m : Int) - 1) c = Xt (c ++ be x m)
 | m, 0, c, h, _, _ => by omega
 | 0, n + 1, c, h, hm, hb => by
  simp only [paper_pen__number_s1.l0, paper_pen__number_s1.l0s]
  rw [if_neg (by rw [decide_eq_true_eq]; omega)]
  simp [be]
 | m + 1, n + 1, c, h, hm, hb => by
  simp only [paper_pen__number_s1.l0, paper_pen__number_s1.l0s]
  have e1 : ((m + 1 : Nat) : Int) - 1 = (m : Int) := by omega
  rw [e1, if_pos (by rw [decide_eq_true_eq]; omega), wrap_i64 (x := 8 * (m : Int)) (by omega) (by omega), if_pos (by omega), if_pos (fitB_small (by omega) (by omega)), wrap_i64 (x := (m : Int) - 1) (by omega) (by omega)]
  have e2 : IntKind.u8.wrap (shrI .i64 x (8 * (m : Int))) = byt x (8 * m) := by
   have := shr_byt .i64 x (8 * m) (by simp [IntKind.bits]; omega)
   rw [<- this]; congr 2
  rw [e2]
  refine (pen1_loop Xt K x m n _ (by omega) (by omega) (by simp; omega)).trans ?_
  simp [be]
theorem pen1_run (x : Int) (m : Nat) (c : List Int) (hm : m <= 8) (hb : c.length <= 999900) : paper_pen__number_s1.run x (m : Int) c = some (c ++ be x m, ()) := by
 unfold paper_pen__number_s1.run paper_pen__number_s1.top
 rw [wrap_i64 (by omega) (by omega)]
 exact pen1_loop (fun c25 => some (c25, ())) fuel x m fuel c (by rw [fuel_big]; omega) hm (by omega)
def bodyT (b : BodyD) : List Int := be b.1 8 ++ (be b.2.1 4 ++ (be b.2.2.1 2 ++ (b.2.2.2.1 ++ (be b.2.2.2.2.1 8 ++ (be b.2.2.2.2.2.1 1 ++ b.2.2.2.2.2.2.1)))))
theorem pens (x : Int) (c : List Int) (h : c.length <= 999900) : (paper_pen__number_s2.run x 1 c = some (c ++ be x 1, ()) /\ paper_pen__number_s2.run x 2 c = some (c ++ be x 2, ())) /\ (paper_pen__number_s2.run x 4 c = some (c ++ be x 4, ()) /\ paper_pen__number_s2.run x 8 c = some (c ++ be x 8, ())) :=
 ⟨⟨pen2_run x 1 c (by omega) h, pen2_run x 2 c (by omega) h⟩, pen2_run x 4 c (by omega) h, pen2_run x 8 c (by omega) h⟩
theorem pen_body (b : BodyD) (c : List Int) (hw : b.2.2.2.1.length = 32) (hl : b.2.2.2.2.2.2.1.length <= 300) (h : c.length <= 900000) : paper_pen__body_s0.run b c = some (c ++ bodyT b, ()) := by
 unfold paper_pen__body_s0.run paper_pen__body_s0.top
 rw [show paper_pen__number_s1.run b.1 8 c = some (c ++ be b.1 8, ()) from pen1_run b.1 8 c (by omega) (by omega), Option.bind_some]
 simp only []
 rw [(pens b.2.1 _ (by simp [be_len]; omega)).2.1, Option.bind_some]
 simp only []
 rw [(pens b.2.2.1 _ (by simp [be_len]; omega)).1.2, Option.bind_some]
 unfold paper_pen__bytes_s0.run paper_pen__bytes_s0.top
 simp only []
 rw [cutL_all b.2.2.2.1 32 (by rw [hw]; rfl), if_pos (fitB_small (by simp [be_len]; omega) (by omega)), Option.bind_some]
 simp only []
 rw [(pens b.2.2.2.2.1 _ (by simp [be_len]; omega)).2.2, Option.bind_some]
 simp only []
 rw [(pens b.2.2.2.2.2.1 _ (by simp [be_len]; omega)).1.1, Option.bind_some]
 unfold paper_pen__bytes_s1.run paper_pen__bytes_s1.top
 simp only []
 rw [if_pos (fitB_small (by simp [be_len]; omega) (by omega)), Option.bind_some]
 simp only [bodyT, List.append_assoc]
theorem bodyText_run (b : BodyD) (hw : b.2.2.2.1.length = 32) (he : bodyE b = 0) : basculeref_bodyText.run b = some (bodyT b) := by
 obtain ⟨h1, h2, h3, h4, h5, h6⟩ := bodyE_ok he
 unfold basculeref_bodyText.run basculeref_bodyText.top
 have hb : ∀ x : Int, (basculeref_big.run x 1 = some (be x 1) /\ basculeref_big.run x 2 = some (be x 2)) /\ (basculeref_big.run x 4 = some (be x 4) /\ basculeref_big.run x 8 = some (be x 8)) := fun x =>
  ⟨⟨big_run x 1 (by omega), big_run x 2 (by omega)⟩, big_run x 4 (by omega), big_run x 8 (by omega)⟩
 have hs : ∀ n : Nat, n <= 100000 -> Nat.ble n 9223372036854775807 = true := fun n hn => ble_le (by omega)
 simp only [wu64_id (x := b.1) (by omega) (by omega), wu64_id (x := b.2.1) (by omega) (by omega), wu64_id (x := b.2.2.1) (by omega) (by omega), wu64_id (x := b.2.2.2.2.1) (by omega) (by omega), wu64_id (x := b.2.2.2.2.2.1) (by omega) (by omega),
  (hb _).1.1, (hb _).1.2, (hb _).2.1, (hb _).2.2, Option.bind_some, cutL_all b.2.2.2.1 32 (by rw [hw]; rfl)]
 rw [if_pos (hs _ (by simp [be_len])), if_pos (hs _ (by simp [be_len])), if_pos (hs _ (by simp [be_len]; omega)), if_pos (hs _ (by simp [be_len]; omega)), if_pos (hs _ (by simp [be_len]; omega)), if_pos (hs _ (by simp [be_len]; omega))]
 simp only [bodyT, List.append_assoc]
end Go.Bx
