/- A part of a framework that reads Go code as functions of plain data; or a law about such functions. -/
import Derived.Test.YtpapikaeaodfgaaLawLoad
import Derived.Test.YtpapikaeaodfgaaLawBytes
import Derived.Test.YtpapikaeaodfgaaFnLoadEncodes1
namespace Go.Bx
open Go
set_option linter.unusedSimpArgs false
set_option linter.unusedVariables false
set_option maxRecDepth 100000

/-! loads as bytes -/

theorem join_loop {α : Type} (Xt : List Int → Option α) (K : Nat) (l : List (List Int)) (hl : l.length ≤ 1000) (B : Nat) (hB : B ≤ 4194304) : ∀ (R P : List (List Int)) (n : Nat) (c : List Int), R.length < n → l = P ++ R → (c ++ R.flatten).length ≤ B →
    load_join.l0 K Xt n l (l.length : Int) (P.length : Int) c = Xt (c ++ R.flatten)
  | R, P, 0, c, h, _, _ => by omega
  | [], P, n + 1, c, h, hc, hb => by
    simp only [load_join.l0, load_join.l0s]
    have : l.length = P.length := by rw [hc]; simp
    rw [if_neg (by rw [decide_eq_true_eq]; omega)]
    simp
  | y :: R, P, n + 1, c, h, hc, hb => by
    have hlen : l.length = P.length + (R.length + 1) := by rw [hc]; simp
    simp only [load_join.l0, load_join.l0s]
    have hg : l.getD P.length [] = y := by rw [hc]; exact getD_at _ _ _ _
    have hb' : (c ++ y ++ R.flatten).length ≤ B := by simpa [List.append_assoc] using hb
    rw [if_pos (by rw [decide_eq_true_eq]; omega), if_pos (by omega), i64_succ (by omega), toNat_nat, hg, if_pos (fitB_small (by simp at hb; omega) (by omega))]
    have ih := join_loop Xt K l hl B hB R (P ++ [y]) n (c ++ y) (by simpa using h) (by simp [hc]) hb'
    rw [List.length_append] at ih
    refine Eq.trans ih ?_
    simp [List.append_assoc]

theorem join_run (l : List (List Int)) (hl : l.length ≤ 1000) (hb : l.flatten.length ≤ 4194304) : load_join.run l = some l.flatten := by
  unfold load_join.run load_join.top
  refine (join_loop (fun c14 => load_join.j0 (fun c14 => some c14) c14) fuel l hl 4194304 (by omega) l [] fuel [] (by rw [fuel_big]; omega) rfl (by simpa using hb)).trans ?_
  rfl

theorem two_run (x : Int) : load_two.run x = some (be x 2) := by
  unfold load_two.run load_two.top
  have := shr_byt .i64 x 8 (by decide)
  rw [show ((8 : Nat) : Int) = 8 from rfl] at this
  rw [this, u8_byt]; rfl

section
variable (kd : Int) (am fe tk : List Int) (ho : Int) (to : List Int) (tc de : Int) (sy da : List Int) (ix : Int) (ks : List (List Int))

/-- what is written of each kind -/
def bytT : List Int := txt am ++ (tk ++ (be ho 2 ++ (to ++ (be tc 2 ++ (txt fe ++ da)))))
def bytM : List Int := tk ++ (be ho 2 ++ (be de 1 ++ pad sy))
def bytK : List Int := be ix 4 ++ (be (ks.length : Int) 1 ++ ks.flatten)

theorem put_T (b : Bool × Unit) (h1 : am.length = 4) (h2 : fe.length = 4) (h3 : tk.length = 32) (h4 : to.length = 32) (h5 : da.length ≤ 100) : load_transfer__put.run b (kd, am, fe, tk, ho, to, tc, de, sy, da, ix, ks, ()) = some (bytT am fe tk ho to tc da) := by
  unfold load_transfer__put.run load_transfer__put.top
  simp only [wideBytes_run _ h1, wideBytes_run _ h2, two_run, Option.bind_some, cutL_all tk 32 (by omega), cutL_all to 32 (by omega), cutL_all (txt am) 32 (by rw [txt_len]; rfl), cutL_all (txt fe) 32 (by rw [txt_len]; rfl)]
  rw [join_run _ (by simp) (by simp [txt_len, be_len]; omega)]
  simp [bytT, Option.bind_some]

theorem put_M (u : Unit) (h3 : tk.length = 32) (h5 : sy.length ≤ 32) : load_meta__put.run u (kd, am, fe, tk, ho, to, tc, de, sy, da, ix, ks, ()) = some (bytM tk ho de sy) := by
  unfold load_meta__put.run load_meta__put.top load_word.run load_word.top
  simp only [two_run, Option.bind_some, cpy_pad sy h5, cutL_all tk 32 (by omega), cutL_all (pad sy) 32 (by rw [pad_len _ h5]; rfl)]
  rw [join_run _ (by simp) (by simp [pad_len _ h5, be_len]; omega)]
  simp [bytM, Option.bind_some, u8_byt, be]

theorem turn_loop {α : Type} (Xt : List Int → Option α) (K : Nat) (l : List (List Int)) (hl : l.length ≤ 1000) (hk : ∀ x ∈ l, x.length = 20) (B : Nat) (hB : B ≤ 4194304) : ∀ (R P : List (List Int)) (n : Nat) (c : List Int), R.length < n → l = P ++ R → (c ++ R.flatten).length ≤ B →
    load_turn__put.l0 K Xt n l (l.length : Int) (P.length : Int) c = Xt (c ++ R.flatten)
  | R, P, 0, c, h, _, _ => by omega
  | [], P, n + 1, c, h, hc, hb => by
    simp only [load_turn__put.l0, load_turn__put.l0s]
    have : l.length = P.length := by rw [hc]; simp
    rw [if_neg (by rw [decide_eq_true_eq]; omega)]
    simp
  | y :: R, P, n + 1, c, h, hc, hb => by
    have hlen : l.length = P.length + (R.length + 1) := by rw [hc]; simp
    simp only [load_turn__put.l0, load_turn__put.l0s]
    have hg : l.getD P.length (List.replicate 20 0) = y := by rw [hc]; exact getD_at _ _ _ _
    have hy : cutL y 0 20 = y := cutL_all y 20 (by rw [hk y (by rw [hc]; simp)]; rfl)
    have hb' : (c ++ y ++ R.flatten).length ≤ B := by simpa [List.append_assoc] using hb
    rw [if_pos (by rw [decide_eq_true_eq]; omega), if_pos (by omega), i64_succ (by omega), toNat_nat, hg, hy, if_pos (fitB_small (by simp at hb; omega) (by omega))]
    have ih := turn_loop Xt K l hl hk B hB R (P ++ [y]) n (c ++ y) (by simpa using h) (by simp [hc]) hb'
    rw [List.length_append] at ih
    refine Eq.trans ih ?_
    simp [List.append_assoc]

theorem flat20 : ∀ (l : List (List Int)), (∀ x ∈ l, x.length = 20) → l.flatten.length = 20 * l.length
  | [], _ => rfl
  | a :: l, h => by
    have := flat20 l fun x hx => h x (List.mem_cons_of_mem _ hx)
    simp only [List.flatten_cons, List.length_append, List.length_cons, h a (by simp)]; omega

theorem put_K (u : Unit) (hl : ks.length ≤ 19) (hk : ∀ x ∈ ks, x.length = 20) : load_turn__put.run u (kd, am, fe, tk, ho, to, tc, de, sy, da, ix, ks, ()) = some (bytK ix ks) := by
  unfold load_turn__put.run load_turn__put.top
  have h24 : IntKind.u8.wrap (shrI .i64 ix 24) = byt ix 24 := shr_byt .i64 ix 24 (by decide)
  have h16 : IntKind.u8.wrap (shrI .i64 ix 16) = byt ix 16 := shr_byt .i64 ix 16 (by decide)
  have h8 : IntKind.u8.wrap (shrI .i64 ix 8) = byt ix 8 := shr_byt .i64 ix 8 (by decide)
  rw [h24, h16, h8, u8_byt, u8_byt]
  refine (turn_loop (fun c37 => some c37) fuel ks (by omega) hk 4194304 (by omega) ks [] fuel _ (by rw [fuel_big]; omega) rfl ?_).trans ?_
  · simp [flat20 ks hk]; omega
  · simp [bytK, be]

theorem keysB_loop {α : Type} (Xt : List Int → Option α) (K : Nat) (l : List (List Int)) (hl : l.length ≤ 1000) (hk : ∀ x ∈ l, x.length = 20) (B : Nat) (hB : B ≤ 4194304) : ∀ (R P : List (List Int)) (n : Nat) (c : List Int), R.length < n → l = P ++ R → (c ++ R.flatten).length ≤ B →
    basculeref_LoadBytes.l0 K Xt n c l (l.length : Int) (P.length : Int) = Xt (c ++ R.flatten)
  | R, P, 0, c, h, _, _ => by omega
  | [], P, n + 1, c, h, hc, hb => by
    simp only [basculeref_LoadBytes.l0, basculeref_LoadBytes.l0s]
    have : l.length = P.length := by rw [hc]; simp
    rw [if_neg (by rw [decide_eq_true_eq]; omega)]
    simp
  | y :: R, P, n + 1, c, h, hc, hb => by
    have hlen : l.length = P.length + (R.length + 1) := by rw [hc]; simp
    simp only [basculeref_LoadBytes.l0, basculeref_LoadBytes.l0s]
    have hg : l.getD P.length (List.replicate 20 0) = y := by rw [hc]; exact getD_at _ _ _ _
    have hy : cutL y 0 20 = y := cutL_all y 20 (by rw [hk y (by rw [hc]; simp)]; rfl)
    have hb' : (c ++ y ++ R.flatten).length ≤ B := by simpa [List.append_assoc] using hb
    rw [if_pos (by rw [decide_eq_true_eq]; omega), if_pos (by omega), i64_succ (by omega), toNat_nat, hg, hy, if_pos (ble_le (by simp at hb ⊢; omega))]
    have ih := keysB_loop Xt K l hl hk B hB R (P ++ [y]) n (c ++ y) (by simpa using h) (by simp [hc]) hb'
    rw [List.length_append] at ih
    refine Eq.trans ih ?_
    simp [List.append_assoc]

theorem big_n (x : Int) : (basculeref_big.run x 1 = some (be x 1) ∧ basculeref_big.run x 2 = some (be x 2)) ∧ (basculeref_big.run x 4 = some (be x 4) ∧ basculeref_big.run x 8 = some (be x 8)) :=
  ⟨⟨big_run x 1 (by omega), big_run x 2 (by omega)⟩, big_run x 4 (by omega), big_run x 8 (by omega)⟩

theorem ref_T (h : kd = 1 ∨ kd = 3) (hf : basculeref_LoadFault.run (kd, am, fe, tk, ho, to, tc, de, sy, da, ix, ks, ()) = some 0) (h3 : tk.length = 32) (h4 : to.length = 32) (h5 : da.length ≤ 100) (h6 : 0 ≤ ho ∧ ho ≤ 65535) (h7 : 0 ≤ tc ∧ tc ≤ 65535) :
    basculeref_LoadBytes.run (kd, am, fe, tk, ho, to, tc, de, sy, da, ix, ks, ()) = some (be kd 1 ++ bytT am fe tk ho to tc da, 0, ()) := by
  unfold basculeref_LoadBytes.run basculeref_LoadBytes.top
  rw [hf, Option.bind_some, if_neg (by decide), wu64_id (x := kd) (by omega) (by omega), (big_n kd).1.1, Option.bind_some]
  simp only [wu64_id (x := ho) (by omega) (by omega), wu64_id (x := tc) (by omega) (by omega), (big_n ho).1.2, (big_n tc).1.2, text4_run, Option.bind_some, cutL_all tk 32 (by omega), cutL_all to 32 (by omega)]
  rw [if_neg (by rcases h with rfl | rfl <;> decide), if_neg (by rcases h with rfl | rfl <;> decide)]
  have hb : ∀ n : Nat, n ≤ 100000 → Nat.ble n 9223372036854775807 = true := fun n hn => ble_le (by omega)
  rw [if_pos (hb _ (by simp [txt_len, be_len]; omega)), if_pos (hb _ (by simp [txt_len, be_len]; omega)), if_pos (hb _ (by simp [txt_len, be_len]; omega)), if_pos (hb _ (by simp [txt_len, be_len]; omega)), if_pos (hb _ (by simp [txt_len, be_len]; omega)), if_pos (hb _ (by simp [txt_len, be_len]; omega)), if_pos (hb _ (by simp [txt_len, be_len]; omega))]
  unfold basculeref_LoadBytes.j0 bytT
  simp only [List.append_assoc]

theorem ref_M (hf : basculeref_LoadFault.run (2, am, fe, tk, ho, to, tc, de, sy, da, ix, ks, ()) = some 0) (h3 : tk.length = 32) (h5 : sy.length ≤ 32) (h6 : 0 ≤ ho ∧ ho ≤ 65535) (h7 : 0 ≤ de ∧ de ≤ 77) :
    basculeref_LoadBytes.run (2, am, fe, tk, ho, to, tc, de, sy, da, ix, ks, ()) = some (be 2 1 ++ bytM tk ho de sy, 0, ()) := by
  unfold basculeref_LoadBytes.run basculeref_LoadBytes.top
  rw [hf, Option.bind_some, if_neg (by decide), wu64_id (x := 2) (by omega) (by omega), (big_n 2).1.1, Option.bind_some]
  simp only [wu64_id (x := ho) (by omega) (by omega), wu64_id (x := de) (by omega) (by omega), (big_n ho).1.2, (big_n de).1.1, word_run _ h5, Option.bind_some, cutL_all tk 32 (by omega), cutL_all (pad sy) 32 (by rw [pad_len _ h5]; rfl)]
  rw [if_pos (by decide)]
  have hb : ∀ n : Nat, n ≤ 100000 → Nat.ble n 9223372036854775807 = true := fun n hn => ble_le (by omega)
  have hp := pad_len _ h5
  rw [if_pos (hb _ (by simp [be_len, hp]; omega)), if_pos (hb _ (by simp [be_len, hp]; omega)), if_pos (hb _ (by simp [be_len, hp]; omega)), if_pos (hb _ (by simp [be_len, hp]; omega))]
  unfold basculeref_LoadBytes.j0 bytM
  simp only [List.append_assoc]

theorem ref_K (hf : basculeref_LoadFault.run (4, am, fe, tk, ho, to, tc, de, sy, da, ix, ks, ()) = some 0) (hl : ks.length ≤ 19) (hk : ∀ x ∈ ks, x.length = 20) (h6 : 0 ≤ ix ∧ ix ≤ 4294967295) :
    basculeref_LoadBytes.run (4, am, fe, tk, ho, to, tc, de, sy, da, ix, ks, ()) = some (be 4 1 ++ bytK ix ks, 0, ()) := by
  unfold basculeref_LoadBytes.run basculeref_LoadBytes.top
  rw [hf, Option.bind_some, if_neg (by decide), wu64_id (x := 4) (by omega) (by omega), (big_n 4).1.1, Option.bind_some]
  simp only [wu64_id (x := ix) (by omega) (by omega), wu64_id (x := (ks.length : Int)) (by omega) (by omega), (big_n ix).2.1, (big_n (ks.length : Int)).1.1, Option.bind_some]
  rw [if_neg (by decide), if_pos (by decide)]
  have hb : ∀ n : Nat, n ≤ 100000 → Nat.ble n 9223372036854775807 = true := fun n hn => ble_le (by omega)
  rw [if_pos (hb _ (by simp [be_len])), if_pos (hb _ (by simp [be_len]))]
  refine (keysB_loop (fun x5 => basculeref_LoadBytes.j0 (fun x2 x3 => some (x2, x3, ())) x5) fuel ks (by omega) hk 4194304 (by omega) ks [] fuel _ (by rw [fuel_big]; omega) rfl ?_).trans ?_
  · simp [flat20 ks hk, be_len]; omega
  · unfold basculeref_LoadBytes.j0 bytK
    simp only [List.append_assoc]

end
end Go.Bx
