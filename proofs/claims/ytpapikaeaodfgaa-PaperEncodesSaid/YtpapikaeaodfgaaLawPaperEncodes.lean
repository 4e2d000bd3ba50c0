/- A part of a framework that reads Go code as functions of plain data; or a law about such functions. -/
import Derived.Test.YtpapikaeaodfgaaLawPaper
import Derived.Test.YtpapikaeaodfgaaFnPaperEncodes1
namespace Go.Bx
open Go
set_option linter.unusedSimpArgs false
set_option linter.unusedVariables false
set_option maxRecDepth 100000

/-- a signature as bytes -/
def signT (s : SignD) : List Int := be s.1 1 ++ (txt s.2.1.1 ++ (txt s.2.1.2.1 ++ be s.2.1.2.2.1 1))

theorem signT_len (s : SignD) : (signT s).length = 66 := by simp [signT, txt_len, be_len]

def SignW (s : SignD) : Prop := s.2.1.1.length = 4 ∧ s.2.1.2.1.length = 4

theorem enc_loop {α : Type} (Xt : PaperD → List Int → Option α) (K : Nat) (x : PaperD) (l : List SignD) (hl : l.length ≤ 19) (hw : ∀ s ∈ l, SignW s) : ∀ (R P : List SignD) (n : Nat) (c : List Int), R.length < n → l = P ++ R → c.length ≤ 6 + 66 * P.length →
    paper_Encode.l0 K Xt n l (l.length : Int) (P.length : Int) x c = Xt x (c ++ (R.map signT).flatten)
  | R, P, 0, c, h, _, _ => by omega
  | [], P, n + 1, c, h, hc, hb => by
    simp only [paper_Encode.l0, paper_Encode.l0s]
    have : l.length = P.length := by rw [hc]; simp
    rw [if_neg (by rw [decide_eq_true_eq]; omega)]
    simp
  | y :: R, P, n + 1, c, h, hc, hb => by
    have hlen : l.length = P.length + (R.length + 1) := by rw [hc]; simp
    simp only [paper_Encode.l0, paper_Encode.l0s]
    have hg : l.getD P.length (0, ([0, 0, 0, 0], [0, 0, 0, 0], 0, ()), ()) = y := by rw [hc]; exact getD_at _ _ _ _
    obtain ⟨w1, w2⟩ := hw y (by rw [hc]; simp)
    rw [if_pos (by rw [decide_eq_true_eq]; omega), if_pos (by omega), i64_succ (by omega), toNat_nat, hg, wideBytes_run _ w1, wideBytes_run _ w2, Option.bind_some, Option.bind_some, (pens y.1 c (by omega)).1.1, Option.bind_some]
    simp only []
    rw [pen_bytes0 _ _ (txt_len _) (by simp [be_len]; omega), Option.bind_some]
    simp only []
    rw [pen_bytes0 _ _ (txt_len _) (by simp [be_len, txt_len]; omega), Option.bind_some]
    simp only []
    rw [(pens y.2.1.2.2.1 _ (by simp [be_len, txt_len]; omega)).1.1, Option.bind_some]
    have e : c ++ be y.1 1 ++ txt y.2.1.1 ++ txt y.2.1.2.1 ++ be y.2.1.2.2.1 1 = c ++ signT y := by simp [signT]
    simp only [e]
    have ih := enc_loop Xt K x l hl hw R (P ++ [y]) n (c ++ signT y) (by simpa using h) (by simp [hc]) (by simp [signT_len]; omega)
    rw [List.length_append] at ih
    refine Eq.trans ih ?_
    simp [List.append_assoc]

theorem bytes_loop {α : Type} (Xt : List Int → PaperD → Option α) (K : Nat) (x : PaperD) (l : List SignD) (hl : l.length ≤ 19) (hw : ∀ s ∈ l, (0 ≤ s.1 ∧ s.1 ≤ 255) ∧ (0 ≤ s.2.1.2.2.1 ∧ s.2.1.2.2.1 ≤ 255)) : ∀ (R P : List SignD) (n : Nat) (c : List Int), R.length < n → l = P ++ R → c.length ≤ 6 + 66 * P.length →
    basculeref_PaperBytes.l0 K Xt n c l (l.length : Int) (P.length : Int) x = Xt (c ++ (R.map signT).flatten) x
  | R, P, 0, c, h, _, _ => by omega
  | [], P, n + 1, c, h, hc, hb => by
    simp only [basculeref_PaperBytes.l0, basculeref_PaperBytes.l0s]
    have : l.length = P.length := by rw [hc]; simp
    rw [if_neg (by rw [decide_eq_true_eq]; omega)]
    simp
  | y :: R, P, n + 1, c, h, hc, hb => by
    have hlen : l.length = P.length + (R.length + 1) := by rw [hc]; simp
    simp only [basculeref_PaperBytes.l0, basculeref_PaperBytes.l0s]
    have hg : l.getD P.length (0, ([0, 0, 0, 0], [0, 0, 0, 0], 0, ()), ()) = y := by rw [hc]; exact getD_at _ _ _ _
    obtain ⟨w1, w2⟩ := hw y (by rw [hc]; simp)
    have hb1 : ∀ x : Int, basculeref_big.run x 1 = some (be x 1) := fun x => big_run x 1 (by omega)
    rw [if_pos (by rw [decide_eq_true_eq]; omega), if_pos (by omega), i64_succ (by omega), toNat_nat, hg, wu64_id (x := y.1) (by omega) (by omega), hb1, Option.bind_some, text4_run, Option.bind_some, if_pos (ble_le (by simp [be_len, txt_len])), text4_run, Option.bind_some,
      if_pos (ble_le (by simp [be_len, txt_len])), wu64_id (x := y.2.1.2.2.1) (by omega) (by omega), hb1, Option.bind_some, if_pos (ble_le (by simp [be_len, txt_len])), if_pos (ble_le (by simp [be_len, txt_len]; omega))]
    have e : c ++ (be y.1 1 ++ txt y.2.1.1 ++ txt y.2.1.2.1 ++ be y.2.1.2.2.1 1) = c ++ signT y := by simp [signT]
    simp only [e]
    have ih := bytes_loop Xt K x l hl hw R (P ++ [y]) n (c ++ signT y) (by simpa using h) (by simp [hc]) (by simp [signT_len]; omega)
    rw [List.length_append] at ih
    refine Eq.trans ih ?_
    simp [List.append_assoc]

def paperT (x : PaperD) : List Int := [1] ++ be x.1 4 ++ be (x.2.1.length : Int) 1 ++ (x.2.1.map signT).flatten ++ bodyT x.2.2.1

theorem flat66 : ∀ (l : List SignD), (l.map signT).flatten.length = 66 * l.length
  | [] => rfl
  | a :: l => by
    have := flat66 l
    simp only [List.map_cons, List.flatten_cons, List.length_append, List.length_cons, signT_len]; omega

theorem paper_enc (x : PaperD) (hw : ∀ s ∈ x.2.1, SignW s) (hb : x.2.2.1.2.2.2.1.length = 32) :
    paper_Encode.run x = some (if paperE x = 0 then (paperT x, 0, ()) else ([], paperE x, ())) ∧ basculeref_PaperBytes.run x = some (if paperE x = 0 then (paperT x, 0, ()) else ([], paperE x, ())) := by
  constructor
  · unfold paper_Encode.run paper_Encode.top
    rw [paper_fault_run, Option.bind_some]
    by_cases he : paperE x = 0
    · obtain ⟨h1, h2, h3, h4⟩ := paperE_ok he
      obtain ⟨_, _, _, _, _, h6⟩ := bodyE_ok h4
      have p1 := pen1_run 1 1 [] (by omega) (by simp)
      rw [show ((1 : Nat) : Int) = 1 from rfl] at p1
      rw [if_neg (by simpa using he), if_pos he, p1, Option.bind_some]
      simp only []
      rw [(pens x.1 _ (by simp [be_len])).2.1, Option.bind_some]
      simp only []
      rw [(pens (x.2.1.length : Int) _ (by simp [be_len])).1.1, Option.bind_some]
      refine (enc_loop (fun c1 c68 => paper_Encode.j0 (fun x2 x3 => some (x2, x3, ())) c1 c68) fuel x x.2.1 h2 hw x.2.1 [] fuel _ (by rw [fuel_big]; omega) rfl (by simp [be_len])).trans ?_
      unfold paper_Encode.j0
      rw [pen_body _ _ hb h6 (by have := flat66 x.2.1; simp only [List.length_append, be_len, List.length_nil, this]; omega), Option.bind_some]
      rfl
    · rw [if_pos (by simpa using he), if_neg he]
  · unfold basculeref_PaperBytes.run basculeref_PaperBytes.top
    rw [paper_faultR_run, Option.bind_some]
    by_cases he : paperE x = 0
    · obtain ⟨h1, h2, h3, h4⟩ := paperE_ok he
      obtain ⟨_, _, _, _, _, h6⟩ := bodyE_ok h4
      have b1 : ∀ x : Int, basculeref_big.run x 1 = some (be x 1) := fun x => big_run x 1 (by omega)
      have b4 : ∀ x : Int, basculeref_big.run x 4 = some (be x 4) := fun x => big_run x 4 (by omega)
      rw [if_neg (by simpa using he), if_pos he, wu64_id (x := x.1) (by omega) (by omega), wu64_id (x := (x.2.1.length : Int)) (by omega) (by omega), b4, Option.bind_some, if_pos (ble_le (by simp [be_len])), b1, Option.bind_some, if_pos (ble_le (by simp [be_len]))]
      refine (bytes_loop (fun x5 c1 => basculeref_PaperBytes.j0 (fun x2 x3 => some (x2, x3, ())) x5 c1) fuel x x.2.1 h2 h3 x.2.1 [] fuel _ (by rw [fuel_big]; omega) rfl (by simp [be_len])).trans ?_
      unfold basculeref_PaperBytes.j0
      rw [bodyText_run _ hb h4, Option.bind_some, if_pos (ble_le (by have := flat66 x.2.1; simp only [List.length_append, be_len, List.length_cons, List.length_nil, this, bodyT, hb]; omega))]
      rfl
    · rw [if_pos (by simpa using he), if_neg he]

abbrev SignTy : Ty := .pair (.int .i64) (.pair (.pair (.arr 4 (.int .u64)) (.pair (.arr 4 (.int .u64)) (.pair (.int .i64) .unit))) .unit)
abbrev BodyTy : Ty := .pair (.int .i64) (.pair (.int .i64) (.pair (.int .i64) (.pair (.arr 32 (.int .u8)) (.pair (.int .i64) (.pair (.int .i64) (.pair (.sl (.int .u8)) .unit))))))
abbrev PaperTy : Ty := .pair (.int .i64) (.pair (.sl SignTy) (.pair BodyTy .unit))

theorem encodes_paper (x : PaperD) (hw : ∀ s ∈ x.2.1, SignW s) (hb : x.2.2.1.2.2.2.1.length = 32) : basculelaw_PaperEncodes.run x = some true := by
  obtain ⟨e1, e2⟩ := paper_enc x hw hb
  unfold basculelaw_PaperEncodes.run basculelaw_PaperEncodes.top
  rw [e1, e2]
  simp only [Option.bind_some, sameBytes_refl, BEq.rfl, cond_and, Bool.and_self]

theorem law_PaperEncodes (x : (Ty.pair PaperTy .unit).den) (h : Fit reachK (.pair PaperTy .unit) x) : basculelaw_PaperEncodes.run x.1 = some true := by
  obtain ⟨⟨_, h2, h3, _⟩, _⟩ := h
  exact encodes_paper _ (fun s hs => by
    obtain ⟨_, ⟨a, b, _⟩, _⟩ := h2.2.2 s hs
    exact ⟨a.1, b.1⟩) h3.2.2.2.1.1

end Go.Bx
