/- A part of a framework that reads Go code as functions of plain data; or a law about such functions. -/
import Derived.Test.YtpapikaeaodfgaaLawLoadPut
import Derived.Test.YtpapikaeaodfgaaLawLoadChecks
import Derived.Test.YtpapikaeaodfgaaFnLoadEncodes1
import Derived.Test.YtpapikaeaodfgaaLawGuardSame
namespace Go.Bx
open Go
set_option linter.unusedSimpArgs false
set_option linter.unusedVariables false
set_option maxRecDepth 100000

theorem rng_iff {n m : Int} : rng n m = true ↔ 0 ≤ n ∧ n ≤ m := by simp [rng]

theorem okT_ok {kd ho tc de : Int} {sy da : List Int} {ix : Int} {ks : List (List Int)} {c : Int} (h : okT kd ho tc de sy da ix ks c = true) : (0 ≤ ho ∧ ho ≤ 65535) ∧ (0 ≤ tc ∧ tc ≤ 65535) ∧ da.length ≤ 100 := by
  unfold okT at h
  simp only [Bool.and_eq_true, rng_iff, decide_eq_true_eq] at h
  exact ⟨h.1.1.1.1.1, h.1.1.1.1.2, h.1.1.2⟩

theorem okM_ok {am fe : List Int} {ho : Int} {to : List Int} {tc de : Int} {sy da : List Int} {ix : Int} {ks : List (List Int)} (h : okM am fe ho to tc de sy da ix ks = true) : (0 ≤ ho ∧ ho ≤ 65535) ∧ (0 ≤ de ∧ de ≤ 77) ∧ sy.length ≤ 32 := by
  unfold okM at h
  simp only [Bool.and_eq_true, rng_iff, decide_eq_true_eq] at h
  exact ⟨h.1.1.1.1, h.1.1.1.2, h.1.1.2⟩

theorem okK_ok {am fe tk : List Int} {ho : Int} {to : List Int} {tc de : Int} {sy da : List Int} {ix : Int} {ks : List (List Int)} (h : okK am fe tk ho to tc de sy da ix ks = true) : (0 ≤ ix ∧ ix ≤ 4294967295) ∧ ks.length ≤ 19 := by
  unfold okK at h
  simp only [Bool.and_eq_true, rng_iff, decide_eq_true_eq] at h
  exact ⟨h.1.1.1, h.1.2⟩

theorem cons_fit {n : Nat} (h : n ≤ 1000000) : fitB (1 + n) 1 = true := fitB_small (by omega) (by omega)

theorem encodes_load (kd : Int) (am fe tk : List Int) (ho : Int) (to : List Int) (tc de : Int) (sy da : List Int) (ix : Int) (ks : List (List Int)) (ha : am.length = 4 ∧ digs B64 am) (hf : fe.length = 4 ∧ digs B64 fe) (htk : tk.length = 32) (hto : to.length = 32) (hs : sy.length ≤ 400000000000000) (hl : ks.length ≤ 400000000000000) (hk : ∀ x ∈ ks, x.length = 20) :
    ∃ r, load_Encode.run (kd, am, fe, tk, ho, to, tc, de, sy, da, ix, ks, ()) = some r ∧ basculeref_LoadBytes.run (kd, am, fe, tk, ho, to, tc, de, sy, da, ix, ks, ()) = some r := by
  obtain ⟨c, c1, c2⟩ := cmp_order hf.1 ha.1 hf.2 ha.2
  have bad : ∀ e : Int, e ≠ 0 → load_Check.run (kd, am, fe, tk, ho, to, tc, de, sy, da, ix, ks, ()) = some e → basculeref_LoadFault.run (kd, am, fe, tk, ho, to, tc, de, sy, da, ix, ks, ()) = some e →
      ∃ r, load_Encode.run (kd, am, fe, tk, ho, to, tc, de, sy, da, ix, ks, ()) = some r ∧ basculeref_LoadBytes.run (kd, am, fe, tk, ho, to, tc, de, sy, da, ix, ks, ()) = some r := fun e he h1 h2 => by
    refine ⟨([], e, ()), ?_, ?_⟩
    · unfold load_Encode.run load_Encode.top
      rw [h1, Option.bind_some, if_pos (by simpa using he)]
    · unfold basculeref_LoadBytes.run basculeref_LoadBytes.top
      rw [h2, Option.bind_some, if_pos (by simpa using he)]
  by_cases h13 : kd = 1 ∨ kd = 3
  · have e1 := check_T kd am fe tk ho to tc de sy da ix ks h13 c1
    have e2 := fault_T kd am fe tk ho to tc de sy da ix ks h13 c2
    cases hok : okT kd ho tc de sy da ix ks c with
    | false => rw [hok] at e1 e2; exact bad 3 (by decide) e1 e2
    | true =>
      rw [hok, if_pos rfl] at e1 e2
      obtain ⟨b1, b2, b3⟩ := okT_ok hok
      refine ⟨_, ?_, ref_T kd am fe tk ho to tc de sy da ix ks h13 e2 htk hto b3 b1 b2⟩
      unfold load_Encode.run load_Encode.top
      rw [e1, Option.bind_some, if_neg (by decide), kind_transfer kd h13, Option.bind_some, Sum.elim_inl, put_T _ _ _ _ _ _ _ _ _ _ _ _ _ ha.1 hf.1 htk hto b3, Option.bind_some, if_pos (cons_fit (by simp [bytT, txt_len, be_len]; omega)), u8_byt]
      rfl
  by_cases h2 : kd = 2
  · subst h2
    have e1 := check_M am fe tk ho to tc de sy da ix ks hs
    have e2 := fault_M am fe tk ho to tc de sy da ix ks hs
    cases hok : okM am fe ho to tc de sy da ix ks with
    | false => rw [hok] at e1 e2; exact bad 3 (by decide) e1 e2
    | true =>
      rw [hok, if_pos rfl] at e1 e2
      obtain ⟨b1, b2, b3⟩ := okM_ok hok
      refine ⟨_, ?_, ref_M am fe tk ho to tc de sy da ix ks e2 htk b3 b1 b2⟩
      unfold load_Encode.run load_Encode.top
      rw [e1, Option.bind_some, if_neg (by decide), kind_meta, Option.bind_some, Sum.elim_inr, Sum.elim_inl, put_M _ _ _ _ _ _ _ _ _ _ _ _ _ htk b3, Option.bind_some, if_pos (cons_fit (by simp [bytM, pad_len _ b3, be_len]; omega)), u8_byt]
      rfl
  by_cases h4 : kd = 4
  · subst h4
    have e1 := check_K am fe tk ho to tc de sy da ix ks
    have e2 := fault_K am fe tk ho to tc de sy da ix ks hl
    cases hok : okK am fe tk ho to tc de sy da ix ks with
    | false => rw [hok] at e1 e2; exact bad 3 (by decide) e1 e2
    | true =>
      rw [hok, if_pos rfl] at e1 e2
      obtain ⟨b1, b3⟩ := okK_ok hok
      refine ⟨_, ?_, ref_K am fe tk ho to tc de sy da ix ks e2 b3 hk b1⟩
      unfold load_Encode.run load_Encode.top
      rw [e1, Option.bind_some, if_neg (by decide), kind_turn, Option.bind_some, Sum.elim_inr, Sum.elim_inr, Sum.elim_inl, put_K _ _ _ _ _ _ _ _ _ _ _ _ _ b3 hk, Option.bind_some, if_pos (cons_fit (by simp [bytK, flat20 ks hk, be_len]; omega)), u8_byt]
      rfl
  have h1 : kd ≠ 1 := fun h => h13 (.inl h)
  have h3 : kd ≠ 3 := fun h => h13 (.inr h)
  obtain ⟨e1, e2⟩ := check_N kd am fe tk ho to tc de sy da ix ks h1 h2 h3 h4
  exact bad 2 (by decide) e1 e2

theorem words_of_fit (x : LoadD) (h : Fit reachK LoadTy x) : x.2.2.2.1.length = 32 ∧ x.2.2.2.2.2.1.length = 32 ∧ (∀ k ∈ x.2.2.2.2.2.2.2.2.2.2.2.1, k.length = 20) := by
  obtain ⟨_, h2, h3, h4, _, h6, _, _, h9, h10, _, h12, _⟩ := h
  exact ⟨h4.1, h6.1, fun k hk => (h12.2.2 k hk).1⟩

theorem law_LoadEncodes (x : (Ty.pair LoadTy .unit).den) (h : Fit reachK (.pair LoadTy .unit) x) : basculelaw_LoadEncodes.run x.1 = some true := by
  obtain ⟨⟨kd, am, fe, tk, ho, to, tc, de, sy, da, ix, ks, u⟩, v⟩ := x
  obtain ⟨a1, a2, a3, _, a4⟩ := load_of_fit _ h.1
  obtain ⟨w1, w2, w3⟩ := words_of_fit _ h.1
  obtain ⟨c, e1, e2⟩ := encodes_load kd am fe tk ho to tc de sy da ix ks a1 a2 w1 w2 a3 a4 w3
  show basculelaw_LoadEncodes.run (kd, am, fe, tk, ho, to, tc, de, sy, da, ix, ks, ()) = some true
  unfold basculelaw_LoadEncodes.run basculelaw_LoadEncodes.top
  rw [e1, e2]
  simp only [Option.bind_some, sameBytes_refl, BEq.rfl, cond_and, Bool.and_self]

end Go.Bx
