/- A part of a framework that reads Go code as functions of plain data; or a law about such functions. -/
import Derived.Test.YtbkkahkikjifkaaLawLoad
namespace Go.Bx
open Go
set_option linter.unusedSimpArgs false
set_option linter.unusedVariables false
theorem checks_load (kd : Int) (am fe tk : List Int) (ho : Int) (to : List Int) (tc de : Int) (sy da : List Int) (ix : Int) (ks : List (List Int)) (ha : am.length = 4 /\ digs B64 am) (hf : fe.length = 4 /\ digs B64 fe) (hs : sy.length <= 400000000000000) (hl : ks.length <= 400000000000000) :
  ∃ c, load_Check.run (kd, am, fe, tk, ho, to, tc, de, sy, da, ix, ks, ()) = some c /\ basculeref_LoadFault.run (kd, am, fe, tk, ho, to, tc, de, sy, da, ix, ks, ()) = some c := by
 obtain ⟨c, c1, c2⟩ := cmp_order hf.1 ha.1 hf.2 ha.2
 by_cases h1 : kd = 1
 ·exact ⟨_, check_T _ _ _ _ _ _ _ _ _ _ _ _ (.inl h1) c1, fault_T _ _ _ _ _ _ _ _ _ _ _ _ (.inl h1) c2⟩
 by_cases h3 : kd = 3
 ·exact ⟨_, check_T _ _ _ _ _ _ _ _ _ _ _ _ (.inr h3) c1, fault_T _ _ _ _ _ _ _ _ _ _ _ _ (.inr h3) c2⟩
 by_cases h2 : kd = 2
 ·subst h2; exact ⟨_, check_M _ _ _ _ _ _ _ _ _ _ _ hs, fault_M _ _ _ _ _ _ _ _ _ _ _ hs⟩
 by_cases h4 : kd = 4
 ·subst h4; exact ⟨_, check_K _ _ _ _ _ _ _ _ _ _ _, fault_K _ _ _ _ _ _ _ _ _ _ _ hl⟩
 obtain ⟨e1, e2⟩ := check_N kd am fe tk ho to tc de sy da ix ks h1 h2 h3 h4
 exact ⟨_, e1, e2⟩
end Go.Bx
