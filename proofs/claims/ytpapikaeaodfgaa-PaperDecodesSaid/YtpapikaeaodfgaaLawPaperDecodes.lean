/- A part of a framework that reads Go code as functions of plain data; or a law about such functions. -/
import Derived.Test.YtpapikaeaodfgaaLawPaper
import Derived.Test.YtpapikaeaodfgaaLawEye
import Derived.Test.YtpapikaeaodfgaaFnPaperDecodes1
namespace Go.Bx
open Go
set_option linter.unusedSimpArgs false
set_option linter.unusedVariables false
set_option maxRecDepth 100000

/-! papers out of bytes -/

/-- how far one has read -/
def Adv (N : Nat) (s t : EyeD) : Prop := (s.1.length < N → t = ([], false, ())) ∧ (N ≤ s.1.length → t = (s.1.drop N, s.2))

theorem tak_adv (n : Nat) (s : EyeD) : Adv n s (tak n s).2 := by
  unfold tak
  constructor
  · intro h; rw [if_pos h]
  · intro h; rw [if_neg (by omega)]

theorem Adv.trans {a b : Nat} {s t u : EyeD} (h : Adv a s t) (g : Adv b t u) : Adv (a + b) s u := by
  by_cases ha : s.1.length < a
  · have e := h.1 ha
    subst e
    have hu : u = ([], false, ()) := by
      by_cases hb : 0 < b
      · exact g.1 hb
      · have := g.2 (by simp; omega)
        rw [this]; simp
    exact ⟨fun _ => hu, fun hh => by omega⟩
  · have e := h.2 (by omega)
    subst e
    simp only [Adv, List.length_drop] at g
    constructor
    · intro hh; exact g.1 (by omega)
    · intro hh
      rw [g.2 (by omega), List.drop_drop]

theorem Adv.byts {n : Nat} {s t : EyeD} (h : Adv n s t) (b : Byts s.1) : Byts t.1 := by
  by_cases hn : s.1.length < n
  · rw [h.1 hn]; intro x hx; simp at hx
  · rw [h.2 (by omega)]; exact fun x hx => b x (List.mem_of_mem_drop hx)

theorem Adv.len {n : Nat} {s t : EyeD} (h : Adv n s t) : t.1.length ≤ s.1.length := by
  by_cases hn : s.1.length < n
  · rw [h.1 hn]; simp
  · rw [h.2 (by omega)]; simp

def sg1 (s : EyeD) : EyeD := (tak 1 s).2
def sg2 (s : EyeD) : EyeD := (tak 32 (sg1 s)).2
def sg3 (s : EyeD) : EyeD := (tak 32 (sg2 s)).2
def sg4 (s : EyeD) : EyeD := (tak 1 (sg3 s)).2
theorem sg1_adv (s : EyeD) : Adv 1 s (sg1 s) := tak_adv 1 s
theorem sg2_adv (s : EyeD) : Adv 33 s (sg2 s) := (sg1_adv s).trans (tak_adv 32 (sg1 s))
theorem sg3_adv (s : EyeD) : Adv 65 s (sg3 s) := (sg2_adv s).trans (tak_adv 32 (sg2 s))
theorem sg4_adv (s : EyeD) : Adv 66 s (sg4 s) := (sg3_adv s).trans (tak_adv 1 (sg3 s))

def signV (s : EyeD) : SignD := (numW (tak 1 s).1, (wid (tak 32 (sg1 s)).1, wid (tak 32 (sg2 s)).1, numW (tak 1 (sg3 s)).1, ()), ())

def signsOf : Nat → EyeD → List SignD × EyeD
  | 0, s => ([], s)
  | m + 1, s => (signV s :: (signsOf m (sg4 s)).1, (signsOf m (sg4 s)).2)

theorem signsOf_adv : ∀ (m : Nat) (s : EyeD), Adv (66 * m) s (signsOf m s).2
  | 0, s => ⟨fun h => by omega, fun _ => by simp [signsOf]⟩
  | m + 1, s => by
    have := (sg4_adv s).trans (signsOf_adv m (sg4 s))
    rw [show 66 * (m + 1) = 66 + 66 * m by omega]
    exact this

theorem signsOf_len : ∀ (m : Nat) (s : EyeD), (signsOf m s).1.length = m
  | 0, _ => rfl
  | m + 1, s => by simp [signsOf, signsOf_len m]

def st1 (s : EyeD) : EyeD := (tak 8 s).2
def st2 (s : EyeD) : EyeD := (tak 4 (st1 s)).2
def st3 (s : EyeD) : EyeD := (tak 2 (st2 s)).2
def st4 (s : EyeD) : EyeD := (tak 32 (st3 s)).2
def st5 (s : EyeD) : EyeD := (tak 8 (st4 s)).2
def st6 (s : EyeD) : EyeD := (tak 1 (st5 s)).2

def bodyV (s : EyeD) : BodyD := (numW (tak 8 s).1, numW (tak 4 (st1 s)).1, numW (tak 2 (st2 s)).1, (tak 32 (st3 s)).1, numW (tak 8 (st4 s)).1, numW (tak 1 (st5 s)).1, (st6 s).1, ())

theorem st1_adv (s : EyeD) : Adv 8 s (st1 s) := tak_adv 8 s
theorem st2_adv (s : EyeD) : Adv 12 s (st2 s) := (st1_adv s).trans (tak_adv 4 (st1 s))
theorem st3_adv (s : EyeD) : Adv 14 s (st3 s) := (st2_adv s).trans (tak_adv 2 (st2 s))
theorem st4_adv (s : EyeD) : Adv 46 s (st4 s) := (st3_adv s).trans (tak_adv 32 (st3 s))
theorem st5_adv (s : EyeD) : Adv 54 s (st5 s) := (st4_adv s).trans (tak_adv 8 (st4 s))
theorem st6_adv (s : EyeD) : Adv 55 s (st6 s) := (st5_adv s).trans (tak_adv 1 (st5 s))

theorem nums (s : EyeD) (h : Byts s.1) : (paper_eye__number_s1.run 1 s = some (numW (tak 1 s).1, (tak 1 s).2, ()) ∧ paper_eye__number_s1.run 2 s = some (numW (tak 2 s).1, (tak 2 s).2, ())) ∧ (paper_eye__number_s1.run 4 s = some (numW (tak 4 s).1, (tak 4 s).2, ()) ∧ paper_eye__number_s1.run 8 s = some (numW (tak 8 s).1, (tak 8 s).2, ())) :=
  ⟨⟨number_run 1 (by omega) s h, number_run 2 (by omega) s h⟩, number_run 4 (by omega) s h, number_run 8 (by omega) s h⟩

theorem eyebody_run (s : EyeD) (hb : Byts s.1) (hl : s.1.length ≤ 140737488351232) : paper_eye__body_s0.run s = some ((bodyV s).1, (bodyV s).2.1, (bodyV s).2.2.1, (bodyV s).2.2.2.1, (bodyV s).2.2.2.2.1, (bodyV s).2.2.2.2.2.1, st6 s,
    (bodyV s).1, (bodyV s).2.1, (bodyV s).2.2.1, (bodyV s).2.2.2.1, (bodyV s).2.2.2.2.1, (bodyV s).2.2.2.2.2.1, (st6 s).1, ()) := by
  have a6 := (st6_adv s).len
  unfold paper_eye__body_s0.run paper_eye__body_s0.top
  rw [(nums s hb).2.2, Option.bind_some]
  simp only []
  rw [show (tak 8 s).2 = st1 s from rfl, (nums _ ((st1_adv s).byts hb)).2.1, Option.bind_some]
  simp only []
  rw [show (tak 4 (st1 s)).2 = st2 s from rfl, (nums _ ((st2_adv s).byts hb)).1.2, Option.bind_some]
  simp only []
  rw [show (tak 2 (st2 s)).2 = st3 s from rfl, eyeword_run, Option.bind_some]
  simp only []
  rw [show (tak 32 (st3 s)).2 = st4 s from rfl, (nums _ ((st4_adv s).byts hb)).2.2, Option.bind_some]
  simp only []
  rw [show (tak 8 (st4 s)).2 = st5 s from rfl, (nums _ ((st5_adv s).byts hb)).1.1, Option.bind_some]
  simp only []
  rw [show (tak 1 (st5 s)).2 = st6 s from rfl, if_pos (fitB_of (show (0 + (st6 s).1.length) * 1 ≤ 140737488355328 by omega) (show 0 + (st6 s).1.length ≤ 140737488355328 by omega))]
  simp only [bodyV]

theorem dec_loop {α : Type} (Xt : Int → Int → Int → Int → List Int → Int → Int → Int → Int → Int → Int → List Int → Int → Int → EyeD → List SignD → Option α) (K : Nat)
    (a1 a2 a3 a4 : Int) (a5 : List Int) (a6 a7 a8 a9 a10 a11 : Int) (a12 : List Int) (a13 a14 : Int) (N : Nat) (hN : N ≤ 255) : ∀ (m i n : Nat) (s : EyeD) (c : List SignD), m < n → i + m = N → c.length = i → Byts s.1 →
    paper_Decode.l0 K Xt n (N : Int) (i : Int) a1 a2 a3 a4 a5 a6 a7 a8 a9 a10 a11 a12 a13 a14 s c = Xt a1 a2 a3 a4 a5 a6 a7 a8 a9 a10 a11 a12 a13 a14 (signsOf m s).2 (c ++ (signsOf m s).1)
  | m, i, 0, s, c, h, _, _, _ => by omega
  | 0, i, n + 1, s, c, h, hi, hc, hb => by
    simp only [paper_Decode.l0, paper_Decode.l0s]
    rw [if_neg (by rw [decide_eq_true_eq]; omega)]
    simp [signsOf]
  | m + 1, i, n + 1, s, c, h, hi, hc, hb => by
    simp only [paper_Decode.l0, paper_Decode.l0s]
    have w1 := from_wid _ (tak_len 32 (sg1 s)) (tak_byts 32 ((sg1_adv s).byts hb)).1
    have w2 := from_wid _ (tak_len 32 (sg2 s)) (tak_byts 32 ((sg2_adv s).byts hb)).1
    rw [if_pos (by rw [decide_eq_true_eq]; omega), (nums s hb).1.1, Option.bind_some]
    simp only []
    rw [show (tak 1 s).2 = sg1 s from rfl, eyeword_run, Option.bind_some]
    simp only []
    rw [show (tak 32 (sg1 s)).2 = sg2 s from rfl, w1.1, Option.bind_some, eyeword_run, Option.bind_some]
    simp only []
    rw [show (tak 32 (sg2 s)).2 = sg3 s from rfl, w2.1, Option.bind_some, (nums _ ((sg3_adv s).byts hb)).1.1, Option.bind_some, if_pos (fitB_small (by omega) (by omega)), i64_succ (by omega)]
    simp only []
    rw [show (tak 1 (sg3 s)).2 = sg4 s from rfl, show (numW (tak 1 s).1, (wid (tak 32 (sg1 s)).1, wid (tak 32 (sg2 s)).1, numW (tak 1 (sg3 s)).1, ()), ()) = signV s from rfl]
    refine (dec_loop Xt K a1 a2 a3 a4 a5 a6 a7 a8 a9 a10 a11 a12 a13 a14 N hN m (i + 1) n (sg4 s) (c ++ [signV s]) (by omega) (by omega) (by simp; omega) ((sg4_adv s).byts hb)).trans ?_
    simp [signsOf, List.append_assoc]

abbrev zeroP : PaperD := (0, [], (0, 0, 0, List.replicate 32 0, 0, 0, [], ()), ())

def D1 (b : List Int) : EyeD := (tak 1 (b, true, ())).2
def D2 (b : List Int) : EyeD := (tak 4 (D1 b)).2
def D3 (b : List Int) : EyeD := (tak 1 (D2 b)).2
theorem D1_adv (b : List Int) : Adv 1 (b, true, ()) (D1 b) := tak_adv 1 _
theorem D2_adv (b : List Int) : Adv 5 (b, true, ()) (D2 b) := (D1_adv b).trans (tak_adv 4 (D1 b))
theorem D3_adv (b : List Int) : Adv 6 (b, true, ()) (D3 b) := (D2_adv b).trans (tak_adv 1 (D2 b))
def vV (b : List Int) : Int := numW (tak 1 (b, true, ())).1
def sV (b : List Int) : Int := numW (tak 4 (D1 b)).1
def nV (b : List Int) : Int := numW (tak 1 (D2 b)).1
def G1 (b : List Int) : List SignD := (signsOf (nV b).toNat (D3 b)).1
def D4 (b : List Int) : EyeD := (signsOf (nV b).toNat (D3 b)).2
def pV (b : List Int) : PaperD := (sV b, G1 b, bodyV (D4 b), ())

def decP (b : List Int) : PaperD × Int × Unit :=
  if (D1 b).2.1 = true ∧ vV b ≠ 1 then (zeroP, 3, ())
  else if (D3 b).2.1 = true ∧ nV b > 19 then (zeroP, 1, ())
  else if (st6 (D4 b)).2.1 = true then (if paperE (pV b) = 0 then (pV b, 0, ()) else (zeroP, paperE (pV b), ()))
  else (zeroP, 4, ())

theorem numW1 (l : List Int) (h : l.length = 1) (hb : Byts l) : 0 ≤ numW l ∧ numW l ≤ 255 ∧ numW l = l.getD 0 0 := by
  obtain ⟨x, t, rfl, ht⟩ := Frm.cons_of_len (n := 0) h
  have := List.eq_nil_of_length_eq_zero ht
  subst this
  have hx := hb x (by simp)
  have : numW [x] = x := by unfold numW numI; simp only [List.foldl]; rw [wrap_i64 (by omega) (by omega)]; omega
  rw [this]; exact ⟨by omega, by omega, rfl⟩

theorem decode_run (b : List Int) (hb : Byts b) (hl : b.length ≤ 140737488351232) : paper_Decode.run b = some (decP b) := by
  have hb0 : Byts ((b, true, ()) : EyeD).1 := hb
  have hd1 := (D1_adv b).byts hb0
  have hd2 := (D2_adv b).byts hb0
  have hd3 := (D3_adv b).byts hb0
  unfold paper_Decode.run paper_Decode.top decP
  rw [(nums (b, true, ()) hb0).1.1, Option.bind_some]
  simp only [cond_and]
  rw [show (tak 1 (b, true, ())).2 = D1 b from rfl, show numW (tak 1 (b, true, ())).1 = vV b from rfl]
  by_cases c1 : (D1 b).2.1 = true ∧ vV b ≠ 1
  · rw [if_pos (by rw [Bool.and_eq_true]; exact ⟨c1.1, by simpa using c1.2⟩), if_pos c1]
  · rw [if_neg (fun hh => c1 (by rw [Bool.and_eq_true] at hh; exact ⟨hh.1, by simpa using hh.2⟩)), if_neg c1]
    rw [(nums _ hd1).2.1, Option.bind_some]
    simp only []
    rw [show (tak 4 (D1 b)).2 = D2 b from rfl, show numW (tak 4 (D1 b)).1 = sV b from rfl, (nums _ hd2).1.1, Option.bind_some]
    simp only []
    obtain ⟨n1, n2, _⟩ := numW1 _ (tak_len 1 (D2 b)) (tak_byts 1 hd2).1
    rw [show (tak 1 (D2 b)).2 = D3 b from rfl, show numW (tak 1 (D2 b)).1 = nV b from rfl] at *
    by_cases c2 : (D3 b).2.1 = true ∧ nV b > 19
    · rw [if_pos (by rw [Bool.and_eq_true]; exact ⟨c2.1, by simpa using c2.2⟩), if_pos c2]
    · rw [if_neg (fun hh => c2 (by rw [Bool.and_eq_true] at hh; exact ⟨hh.1, by simpa using hh.2⟩)), if_neg c2]
      obtain ⟨N, hN⟩ := Int.eq_ofNat_of_zero_le n1
      have hN' : (nV b).toNat = N := by rw [hN]; rfl
      have a4 : Adv (6 + 66 * N) (b, true, ()) (D4 b) := by
        have := (D3_adv b).trans (signsOf_adv N (D3 b))
        unfold D4; rw [hN']; exact this
      rw [hN]
      refine (dec_loop _ fuel 0 0 0 0 (List.replicate 32 0) 0 0 _ 0 0 0 (List.replicate 32 0) 0 0 N (by omega) N 0 fuel _ [] (by rw [fuel_big]; omega) (by omega) rfl hd3).trans ?_
      unfold paper_Decode.j0
      rw [show (signsOf N (D3 b)).2 = D4 b by unfold D4; rw [hN'], show (signsOf N (D3 b)).1 = G1 b by unfold G1; rw [hN'], List.nil_append]
      rw [eyebody_run _ (a4.byts hb0) (Nat.le_trans a4.len hl), Option.bind_some]
      simp only []
      by_cases c3 : (st6 (D4 b)).2.1 = true
      · rw [if_neg (by rw [c3]; decide), if_pos c3]
        rw [show (sV b, G1 b, ((bodyV (D4 b)).1, (bodyV (D4 b)).2.1, (bodyV (D4 b)).2.2.1, (bodyV (D4 b)).2.2.2.1, (bodyV (D4 b)).2.2.2.2.1, (bodyV (D4 b)).2.2.2.2.2.1, (st6 (D4 b)).1, ()), ()) = pV b by simp only [pV, bodyV], paper_fault_run, Option.bind_some]
        by_cases c4 : paperE (pV b) = 0
        · rw [if_neg (by simpa using c4), if_pos c4]
        · rw [if_pos (by simpa using c4), if_neg c4]
      · rw [if_pos (by simpa using c3), if_neg c3]

/-! the reference -/

theorem tak_long {n : Nat} {l : List Int} {u : Bool × Unit} (h : n ≤ l.length) : tak n (l, u) = (l.take n, (l.drop n, u)) := by
  unfold tak; rw [if_neg (by simpa using h)]

theorem cut_eq (l : List Int) (a b : Nat) : cutL l (a : Int) (b : Int) = (l.drop a).take (b - a) := by simp [cutL]

theorem one_at {l : List Int} {n : Nat} (h : n < l.length) (hb : Byts l) : numW ((l.drop n).take 1) = IntKind.i64.wrap (l.getD n 0) := by
  have e : (l.drop n).take 1 = [l.getD n 0] := by
    rw [List.drop_eq_getElem_cons h, getD_eq h]; rfl
  rw [e]; unfold numW numI; simp only [List.foldl]; rw [Int.zero_mul, Int.zero_add]

theorem signV_long {l : List Int} {u : Bool × Unit} (h : 66 ≤ l.length) (hb : Byts l) : signV (l, u) = (IntKind.i64.wrap (l.getD 0 0), (wid (cutL l 1 33), wid (cutL l 33 65), IntKind.i64.wrap (l.getD 65 0), ()), ()) ∧ sg4 (l, u) = (l.drop 66, u) := by
  have e1 : sg1 (l, u) = (l.drop 1, u) := by unfold sg1; rw [tak_long (by omega)]
  have e2 : sg2 (l, u) = (l.drop 33, u) := by unfold sg2; rw [e1, tak_long (by rw [List.length_drop]; omega)]; simp
  have e3 : sg3 (l, u) = (l.drop 65, u) := by unfold sg3; rw [e2, tak_long (by rw [List.length_drop]; omega)]; simp
  have e4 : sg4 (l, u) = (l.drop 66, u) := by unfold sg4; rw [e3, tak_long (by rw [List.length_drop]; omega)]; simp
  refine ⟨?_, e4⟩
  have c1 : cutL l 1 33 = (l.drop 1).take 32 := cut_eq l 1 33
  have c2 : cutL l 33 65 = (l.drop 33).take 32 := cut_eq l 33 65
  unfold signV
  rw [e1, e2, e3, tak_long (by omega), tak_long (by rw [List.length_drop]; omega), tak_long (by rw [List.length_drop]; omega), tak_long (by rw [List.length_drop]; omega)]
  have n0 := one_at (n := 0) (l := l) (by omega) hb
  rw [List.drop_zero] at n0
  rw [c1, c2, n0, one_at (n := 65) (l := l) (by omega) hb]

theorem bodyV_long {l : List Int} {u : Bool × Unit} (h : 55 ≤ l.length) (hb : Byts l) : bodyV (l, u) = (numW (cutL l 0 8), numW (cutL l 8 12), numW (cutL l 12 14), cutL l 14 46, numW (cutL l 46 54), IntKind.i64.wrap (l.getD 54 0), cutL l 55 (l.length : Int), ()) ∧ st6 (l, u) = (l.drop 55, u) := by
  have e1 : st1 (l, u) = (l.drop 8, u) := by unfold st1; rw [tak_long (by omega)]
  have e2 : st2 (l, u) = (l.drop 12, u) := by unfold st2; rw [e1, tak_long (by rw [List.length_drop]; omega)]; simp
  have e3 : st3 (l, u) = (l.drop 14, u) := by unfold st3; rw [e2, tak_long (by rw [List.length_drop]; omega)]; simp
  have e4 : st4 (l, u) = (l.drop 46, u) := by unfold st4; rw [e3, tak_long (by rw [List.length_drop]; omega)]; simp
  have e5 : st5 (l, u) = (l.drop 54, u) := by unfold st5; rw [e4, tak_long (by rw [List.length_drop]; omega)]; simp
  have e6 : st6 (l, u) = (l.drop 55, u) := by unfold st6; rw [e5, tak_long (by rw [List.length_drop]; omega)]; simp
  refine ⟨?_, e6⟩
  have c1 : cutL l 0 8 = l.take 8 := cut_eq l 0 8
  have c2 : cutL l 8 12 = (l.drop 8).take 4 := cut_eq l 8 12
  have c3 : cutL l 12 14 = (l.drop 12).take 2 := cut_eq l 12 14
  have c4 : cutL l 14 46 = (l.drop 14).take 32 := cut_eq l 14 46
  have c5 : cutL l 46 54 = (l.drop 46).take 8 := cut_eq l 46 54
  have c6 : cutL l 55 (l.length : Int) = l.drop 55 := by
    have := cut_eq l 55 l.length
    rw [show ((55 : Nat) : Int) = 55 from rfl] at this
    rw [this, List.take_of_length_le (by simp)]
  unfold bodyV
  rw [e1, e2, e3, e4, e5, e6, tak_long (by omega), tak_long (by rw [List.length_drop]; omega), tak_long (by rw [List.length_drop]; omega), tak_long (by rw [List.length_drop]; omega), tak_long (by rw [List.length_drop]; omega), tak_long (by rw [List.length_drop]; omega)]
  rw [c1, c2, c3, c4, c5, c6, one_at (n := 54) (l := l) (by omega) hb]

theorem drop_byts {l : List Int} (h : Byts l) (n : Nat) : Byts (l.drop n) := fun b hb => h b (List.mem_of_mem_drop hb)
theorem take_byts {l : List Int} (h : Byts l) (n : Nat) : Byts (l.take n) := fun b hb => h b (List.mem_of_mem_take hb)

theorem of_loop {α : Type} (Xt : List Int → Int → Int → Int → Int → List Int → Int → Int → Int → Int → Int → Int → List Int → Int → Int → List SignD → Option α) (K : Nat)
    (a1 a2 a3 a4 : Int) (a5 : List Int) (a6 a7 a8 a9 a10 a11 : Int) (a12 : List Int) (a13 a14 : Int) (N : Nat) (hN : N ≤ 255) : ∀ (m i n : Nat) (l : List Int) (c : List SignD), m < n → i + m = N → c.length = i → Byts l → 66 * m ≤ l.length →
    basculeref_PaperOf.l0 K Xt n l (N : Int) (i : Int) a1 a2 a3 a4 a5 a6 a7 a8 a9 a10 a11 a12 a13 a14 c = Xt (l.drop (66 * m)) a1 a2 a3 a4 a5 a6 a7 a8 a9 a10 a11 a12 a13 a14 (c ++ (signsOf m (l, true, ())).1)
  | m, i, 0, l, c, h, _, _, _, _ => by omega
  | 0, i, n + 1, l, c, h, hi, hc, hb, hl => by
    simp only [basculeref_PaperOf.l0, basculeref_PaperOf.l0s]
    rw [if_neg (by rw [decide_eq_true_eq]; omega)]
    simp [signsOf]
  | m + 1, i, n + 1, l, c, h, hi, hc, hb, hl => by
    simp only [basculeref_PaperOf.l0, basculeref_PaperOf.l0s]
    obtain ⟨v1, v2⟩ := signV_long (u := (true, ())) (show 66 ≤ l.length by omega) hb
    have c1 : cutL l 1 33 = (l.drop 1).take 32 := cut_eq l 1 33
    have c2 : cutL l 33 65 = (l.drop 33).take 32 := cut_eq l 33 65
    have c6 : cutL l 66 (l.length : Int) = l.drop 66 := by
      have := cut_eq l 66 l.length
      rw [show ((66 : Nat) : Int) = 66 from rfl] at this
      rw [this, List.take_of_length_le (by simp)]
    have w1 := wideOf_wid (cutL l 1 33) (by rw [c1]; simp; omega) (by rw [c1]; exact take_byts (drop_byts hb 1) 32)
    have w2 := wideOf_wid (cutL l 33 65) (by rw [c2]; simp; omega) (by rw [c2]; exact take_byts (drop_byts hb 33) 32)
    rw [if_pos (by rw [decide_eq_true_eq]; omega), if_pos (by omega), if_pos (by omega), w1, Option.bind_some, if_pos (by omega), w2, Option.bind_some, if_pos (by omega), if_pos (fitB_small (by omega) (by omega)), if_pos (by omega), i64_succ (by omega), ← v1, c6]
    refine (of_loop Xt K a1 a2 a3 a4 a5 a6 a7 a8 a9 a10 a11 a12 a13 a14 N hN m (i + 1) n (l.drop 66) (c ++ [signV (l, true, ())]) (by omega) (by omega) (by simp; omega) (drop_byts hb 66) (by simp; omega)).trans ?_
    simp only [signsOf, v2, List.append_assoc, List.singleton_append, List.drop_drop]
    rw [show 66 + 66 * m = 66 * (m + 1) by omega]

theorem of_run (b : List Int) (hb : Byts b) (hl : b.length ≤ 140737488351232) : basculeref_PaperOf.run b = some (decP b) := by
  have dead : ∀ N : Nat, b.length < N → ∀ s, Adv N (b, true, ()) s → s = ([], false, ()) := fun N h s g => g.1 h
  have hN0 : ∃ N : Nat, nV b = N := by
    obtain ⟨n1, n2, _⟩ := numW1 _ (tak_len 1 (D2 b)) (tak_byts 1 ((D2_adv b).byts hb)).1
    exact Int.eq_ofNat_of_zero_le n1
  obtain ⟨N, hN⟩ := hN0
  have hN' : (nV b).toNat = N := by rw [hN]; rfl
  have a4 : Adv (6 + 66 * N) (b, true, ()) (D4 b) := by
    have := (D3_adv b).trans (signsOf_adv N (D3 b))
    unfold D4; rw [hN']; exact this
  have a5 : Adv (6 + 66 * N + 55) (b, true, ()) (st6 (D4 b)) := a4.trans (st6_adv _)
  unfold basculeref_PaperOf.run basculeref_PaperOf.top decP
  by_cases h0 : b.length = 0
  · have hbe : b = [] := List.eq_nil_of_length_eq_zero h0
    rw [if_pos (by rw [hbe]; rfl)]
    have d1 := dead 1 (by omega) _ (D1_adv b)
    have d3 := dead 6 (by omega) _ (D3_adv b)
    have d6 := dead _ (by omega) _ a5
    rw [d1, d3, d6, if_neg (by simp), if_neg (by simp), if_neg (by simp)]
  · rw [if_neg (by rw [beqD_iff .str _ _ rfl]; intro hh; exact h0 (by rw [hh]; rfl)), if_pos (by omega)]
    have hv : vV b = b.getD 0 0 ∧ (D1 b).2.1 = true := by
      unfold vV D1
      rw [tak_long (by omega)]
      refine ⟨?_, rfl⟩
      have := one_at (n := 0) (l := b) (by omega) hb
      rw [List.drop_zero] at this
      refine this.trans ?_
      have hx := hb (b.getD 0 0) (by rw [getD_eq (by omega)]; exact List.getElem_mem _)
      exact wrap_i64 (by omega) (by omega)
    rw [hv.2, hv.1]
    by_cases h1 : b.getD 0 0 = 1
    · rw [if_neg (by rw [h1]; decide), if_neg (show ¬(true = true ∧ b.getD 0 0 ≠ 1) from fun hh => hh.2 h1)]
      by_cases h6 : b.length < 6
      · have d3 := dead 6 (by omega) _ (D3_adv b)
        have d6 := dead _ (by omega) _ a5
        rw [if_pos (by rw [decide_eq_true_eq]; omega), d3, d6, if_neg (by simp), if_neg (by simp)]
      · have e3 : D3 b = (b.drop 6, true, ()) := (D3_adv b).2 (by show 6 ≤ b.length; omega)
        have e2 : D2 b = (b.drop 5, true, ()) := (D2_adv b).2 (by show 5 ≤ b.length; omega)
        have e1 : D1 b = (b.drop 1, true, ()) := (D1_adv b).2 (by show 1 ≤ b.length; omega)
        have hn : nV b = IntKind.i64.wrap (b.getD 5 0) := by
          unfold nV
          rw [e2, tak_long (by rw [List.length_drop]; omega)]
          exact one_at (n := 5) (l := b) (by omega) hb
        rw [if_neg (by rw [decide_eq_true_eq]; omega), if_pos (by omega), ← hn, e3]
        by_cases h19 : nV b > 19
        · rw [if_pos (by simpa using h19), if_pos ⟨rfl, h19⟩]
        · rw [if_neg (show ¬(decide (nV b > 19) = true) by simpa using h19), if_neg (show ¬((((b.drop 6), true, ()) : EyeD).2.1 = true ∧ nV b > 19) from fun hh => h19 hh.2), hN]
          have hN19 : N ≤ 19 := by omega
          rw [wrap_i64 (x := 66 * (N : Int)) (by omega) (by omega), wrap_i64 (x := 6 + 66 * (N : Int)) (by omega) (by omega), wrap_i64 (x := 6 + 66 * (N : Int) + 55) (by omega) (by omega)]
          by_cases hs : b.length < 6 + 66 * N + 55
          · have d6 := dead _ hs _ a5
            rw [if_pos (by rw [decide_eq_true_eq]; omega), d6, if_neg (by simp)]
          · have e4 : D4 b = (b.drop (6 + 66 * N), true, ()) := a4.2 (by show _ ≤ b.length; omega)
            have e6 : st6 (D4 b) = (b.drop (6 + 66 * N + 55), true, ()) := a5.2 (by show _ ≤ b.length; omega)
            have c1 : cutL b 1 5 = (b.drop 1).take 4 := cut_eq b 1 5
            have c6 : cutL b 6 (b.length : Int) = b.drop 6 := by
              have := cut_eq b 6 b.length
              rw [show ((6 : Nat) : Int) = 6 from rfl] at this
              rw [this, List.take_of_length_le (by simp)]
            have hsV : numW (cutL b 1 5) = sV b := by
              unfold sV
              rw [e1, tak_long (by rw [List.length_drop]; omega), c1]
            have hG : (signsOf N (b.drop 6, true, ())).1 = G1 b := by unfold G1; rw [hN', e3]
            have hlen : (b.drop (6 + 66 * N)).length = b.length - (6 + 66 * N) := List.length_drop
            obtain ⟨y1, _⟩ := bodyV_long (l := b.drop (6 + 66 * N)) (u := (true, ())) (by omega) (drop_byts hb _)
            rw [if_neg (by rw [decide_eq_true_eq]; omega), if_pos (by omega), refnum_run _ (by rw [c1]; simp; omega) (by rw [c1]; exact take_byts (drop_byts hb 1) 4), Option.bind_some, if_pos (by omega), c6, hsV]
            refine (of_loop _ fuel 0 0 0 0 (List.replicate 32 0) 0 0 _ 0 0 0 (List.replicate 32 0) 0 0 N (by omega) N 0 fuel (b.drop 6) [] (by rw [fuel_big]; omega) (by omega) rfl (drop_byts hb 6) (by simp; omega)).trans ?_
            rw [List.drop_drop, List.nil_append, hG]
            unfold basculeref_PaperOf.j0
            have hby := drop_byts hb (6 + 66 * N)
            generalize hq : b.drop (6 + 66 * N) = q at *
            have k1 : cutL q 0 8 = q.take 8 := cut_eq q 0 8
            have k2 : cutL q 8 12 = (q.drop 8).take 4 := cut_eq q 8 12
            have k3 : cutL q 12 14 = (q.drop 12).take 2 := cut_eq q 12 14
            have k4 : cutL q 14 46 = (q.drop 14).take 32 := cut_eq q 14 46
            have k5 : cutL q 46 54 = (q.drop 46).take 8 := cut_eq q 46 54
            have kw : (cutL q 14 46).length = 32 := by rw [k4]; simp; omega
            rw [if_pos (by omega), refnum_run _ (by rw [k1]; simp; omega) (by rw [k1]; exact take_byts hby 8), Option.bind_some,
              if_pos (by omega), refnum_run _ (by rw [k2]; simp; omega) (by rw [k2]; exact take_byts (drop_byts hby 8) 4), Option.bind_some,
              if_pos (by omega), refnum_run _ (by rw [k3]; simp; omega) (by rw [k3]; exact take_byts (drop_byts hby 12) 2), Option.bind_some,
              if_pos (by omega), word_run _ (by omega), pad_full _ kw, Option.bind_some,
              if_pos (by omega), refnum_run _ (by rw [k5]; simp; omega) (by rw [k5]; exact take_byts (drop_byts hby 46) 8), Option.bind_some,
              if_pos (by omega), if_pos (by omega), ← y1, ← e4]
            rw [show (sV b, G1 b, bodyV (D4 b), ()) = pV b from rfl, paper_faultR_run, Option.bind_some, e6]
            rw [if_pos rfl]
            by_cases c4 : paperE (pV b) = 0
            · rw [if_neg (by simpa using c4), if_pos c4]
            · rw [if_pos (by simpa using c4), if_neg c4]
    · rw [if_pos (by simpa using h1), if_pos (show (true = true ∧ b.getD 0 0 ≠ 1) from ⟨rfl, h1⟩)]

/-! the same -/

theorem samePaper_loop {α : Type} (Rt : Bool → Option α) (Xt : Option α) (K : Nat) (x : PaperD) (hl : x.2.1.length ≤ 4000000000000) : ∀ (R P : List SignD) (n : Nat), R.length < n → x.2.1 = P ++ R →
    basculelaw_samePaper.l0 K Rt Xt n (x.2.1.length : Int) (P.length : Int) x x = Xt
  | R, P, 0, h, _ => by omega
  | [], P, n + 1, h, hc => by
    simp only [basculelaw_samePaper.l0, basculelaw_samePaper.l0s]
    have : x.2.1.length = P.length := by rw [hc]; simp
    rw [if_neg (by rw [decide_eq_true_eq]; omega)]
  | y :: R, P, n + 1, h, hc => by
    have hlen : x.2.1.length = P.length + (R.length + 1) := by rw [hc]; simp
    simp only [basculelaw_samePaper.l0, basculelaw_samePaper.l0s]
    rw [if_pos (by rw [decide_eq_true_eq]; omega), if_pos (by omega), if_pos (by omega), i64_succ (by omega), beqD_refl _ _ rfl, if_neg (by simp)]
    have ih := samePaper_loop Rt Xt K x hl R (P ++ [y]) n (by simpa using h) (by simp [hc])
    rw [List.length_append] at ih
    exact ih

theorem samePaper_refl (x : PaperD) (hl : x.2.1.length ≤ 4000000000000) : basculelaw_samePaper.run x x = some true := by
  unfold basculelaw_samePaper.run basculelaw_samePaper.top
  rw [sameBody_refl]
  simp only [bne_self_eq_false, cond_or, Bool.or_self, BEq.rfl, if_true, Option.bind_some, Bool.not_true, Bool.false_eq_true, if_false]
  exact samePaper_loop (fun x4 => some x4) (basculelaw_samePaper.j0 fun x4 => some x4) fuel x hl x.2.1 [] fuel (by rw [fuel_big]; omega) rfl

theorem decP_len (b : List Int) : (decP b).1.2.1.length ≤ 19 := by
  unfold decP
  by_cases c1 : (D1 b).2.1 = true ∧ vV b ≠ 1
  · rw [if_pos c1]; simp
  · rw [if_neg c1]
    by_cases c2 : (D3 b).2.1 = true ∧ nV b > 19
    · rw [if_pos c2]; simp
    · rw [if_neg c2]
      by_cases c3 : (st6 (D4 b)).2.1 = true
      · rw [if_pos c3]
        by_cases c4 : paperE (pV b) = 0
        · rw [if_pos c4]; exact (paperE_ok c4).2.1
        · rw [if_neg c4]; simp
      · rw [if_neg c3]; simp

theorem decodes_paper (b : List Int) (hb : Byts b) (hl : b.length ≤ 140737488351232) : basculelaw_PaperDecodes.run b = some true := by
  unfold basculelaw_PaperDecodes.run basculelaw_PaperDecodes.top
  rw [decode_run b hb hl, of_run b hb hl, Option.bind_some, Option.bind_some, samePaper_refl _ (Nat.le_trans (decP_len b) (by omega))]
  simp only [Option.bind_some, BEq.rfl, cond_and, Bool.and_self]

theorem law_PaperDecodes (x : (Ty.pair (.sl (.int .u8)) .unit).den) (h : Fit reachK (.pair (.sl (.int .u8)) .unit) x) : basculelaw_PaperDecodes.run x.1 = some true := by
  obtain ⟨⟨h1, h2, h3⟩, _⟩ := h
  refine decodes_paper _ (fun b hb => ?_) ?_
  · have := inR_u8.1 (h3 b hb); omega
  · unfold reachK at h1; simp only [Ty.bytes, IntKind.bits, reachBytes] at h1; omega

end Go.Bx
