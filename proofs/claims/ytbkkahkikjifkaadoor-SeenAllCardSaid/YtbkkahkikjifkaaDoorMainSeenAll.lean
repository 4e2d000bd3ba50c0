/- The card of basculelaw.SeenAll: whatever the arguments, the call returns true, and each argument reads as it did; the variables that it names stand as the program lays them. -/
import Derived.Test.YtbkkahkikjifkaaDoorLawSeenAll
import Derived.Test.YtbkkahkikjifkaaDoorFrame3
import Derived.Test.YtbkkahkikjifkaaDoorRows
import Derived.Test.YtbkkahkikjifkaaDoorCards
import Derived.Test.YtbkkahkikjifkaaDoorTie
import Derived.WalkKit
import Derived.ProofKit
import Derived.LaidMore
import Derived.OpenShut
import Derived.Stop.Joined
import Derived.SevenTiedAt
namespace Go.Proofs.YtbkkahkikjifkaaDoor.seenAll
open Go Go.ChangeShapes Go.WideShapes Go.ChangeAt Go.RowKit
set_option linter.unusedVariables false

theorem own : ownKnob Tryd.prog.godebug = none := by kernel_rfl
theorem g0 : Tryd.prog.globalNamed "math/bits.deBruijn64tab" = some 2 := by kernel_rfl
theorem t0 : (Tryd.prog.globals[2]?).map (·.type) = some 157 := by kernel_rfl

/-- a world whose variables stand as the program's text lays them -/
theorem door_met (os : Os) (args : Array Value) : laidMetH Tryd.prog [("math/bits.deBruijn64tab", Rows.laid_math_bits_deBruijn64tab)] ((World.doorLaid Tryd.prog 4000 os).forCall (fun _ _ => 0) ⟨#[], args, []⟩).memory := by
  rw [MakeChecks.laidMetH_plain _ _ _ (by kernel_rfl)]
  exact laidMet_of_run' 8 (by kernel_rfl) (by kernel_rfl)

/-- what the condition gives: the variables' cells -/
theorem of_laid {W : World} (h : laidMetH Tryd.prog [("math/bits.deBruijn64tab", Rows.laid_math_bits_deBruijn64tab)] W) : Go.Bx.GlobOk (Go.Bx.argEnv W) := by
  have h' := h
  rw [MakeChecks.laidMetH_plain _ _ _ (by kernel_rfl)] at h'
  obtain ⟨ps, ⟨gg0, tt0, cs0, ff0, pp0, qq0, hg0, ht0, hv0, hd0, _, _⟩, _, _⟩ := h'
  obtain rfl := Option.some.inj (g0.symm.trans hg0)
  obtain rfl := Option.some.inj (t0.symm.trans ht0)
  intro g v hv
  by_cases e0 : g = 2
  · subst e0
    obtain rfl : v = ⟨.arr 64 (.int .u8), Go.Bx.gBru⟩ := (Option.some.inj hv).symm
    obtain ⟨x, y⟩ := Go.Bx.ints_of_trod (l := Go.Bx.gBru) (k := .u8) Tryd.underlying157 Tryd.underlying5 (by kernel_rfl) (by kernel_rfl) (show _ = some ((DataW.agg (Go.Bx.gBru.map fun x => DataW.lit (.int .u8 x)) : DataW Unit), pp0) from hd0)
    exact Go.Bx.glob_one g0 hv0 x y (by decide)
  exfalso
  have : Go.Bx.look Go.Bx.globs g = none := by
    simp only [Go.Bx.globs, Go.Bx.look]
    rw [if_neg (fun h => e0 (Nat.eq_of_beq_eq_true h).symm)]
  rw [this] at hv
  cases hv

set_option maxRecDepth 100000 in
theorem lifted (os : Os) (started : os.Started) (H : Type) (enc : TypeId × Value → H) :
    ReturnsInHanded {} Tryd.checked os 8 .any (fun w args => (Rows.seenAllSpec.pre enc Tryd.prog Tryd.f8 [] false w args ∧ laidMetH Tryd.prog [("math/bits.deBruijn64tab", Rows.laid_math_bits_deBruijn64tab)] w) ∧ sizedMet enc Tryd.prog Tryd.f8 (OpenSpec.ofChange Rows.seenAllSpec) false w args)
      (Rows.seenAllSpec.post enc Tryd.prog Tryd.f8 false true false false) := by
  refine returnsInHanded_of_change_and (C := Tryd.checked) (X := fun w _ => laidMetH Tryd.prog [("math/bits.deBruijn64tab", Rows.laid_math_bits_deBruijn64tab)] w) (fun _ _ _ hh h => h.of_heap hh) own started (by kernel_rfl) Tryd.func8
    (ChangeSpec.witness_shaped (enc := enc) (C := Tryd.checked) (os := os) (X := fun w _ => laidMetH Tryd.prog [("math/bits.deBruijn64tab", Rows.laid_math_bits_deBruijn64tab)] w) false (World.doorLaid Tryd.prog 4000 os) #[.agg #[.int .u64 0, .int .u64 0, .int .u64 0, .int .u64 0], .agg #[.int .u64 0, .int .u64 0, .int .u64 0, .int .u64 0]] 16 rfl (World.shaped_of_RefB (by kernel_rfl) (by kernel_rfl)) (by kernel_rfl) (by kernel_rfl) (by kernel_rfl) (door_met os _)) ?_
  intro W base args ds gs before hval hW _ hsz hL _
  exact Go.Bx.law_of_con (n := 2) (tb := 4) Go.Bx.small_reach Go.Bx.basculelaw_SeenAll.con.1 (Go.Bx.argTysB_sound (by kernel_rfl)) (by kernel_rfl) (by kernel_rfl) Tryd.underlying4 (by kernel_rfl) rfl
    (fun ds h => by
      match ds, h with
      | [_, _], _ => rfl) Go.Bx.law_SeenAll (of_laid hL) hval hW (Go.Bx.light_of hsz)

theorem over : Rows.seenAllRow.holds Tryd.pinned (OpenSpec.ofChange Rows.seenAllSpec) :=
  OpenClaim.holds_of_wide 8 Tryd.f8 rfl rfl rfl rfl rfl rfl rfl ⟨rfl, rfl, rfl, rfl, rfl⟩ rfl rfl rfl rfl rfl (by kernel_rfl) Tryd.func8 (by kernel_rfl)
    (of_decide_eq_true (by kernel_rfl)) (by unfold Func.isWrapper; first | (rw [if_pos (by decide +kernel)]; kernel_rfl) | (rw [if_neg (by decide +kernel)]; exact ⟨rfl, rfl⟩))
    (fun os started H enc _ => lifted os started H enc)
end Go.Proofs.YtbkkahkikjifkaaDoor.seenAll

namespace Go.Proofs.YtbkkahkikjifkaaDoor
open Go
theorem seenAll_holds : Rows.SeenAllSaid := seenAll.over
/-- The statement: the tied card. -/
theorem seenAllCard_holds : Rows.SeenAllCardSaid :=
  Claim7.holds_tied_plain_at .later [] [.data] true (true, "7952c7d6ee2ba3e7270f96bb7482e8e0e89cdab6837682717d045ca861c34a65") false
    seenAll_holds (fun _ h => by cases h) (by kernel_rfl) (fun _ h => by cases h) seenAll_row_tie rfl ⟨rfl, rfl⟩ (by kernel_rfl) rfl
    (fun f fn hf hfn => by
      obtain rfl : f = 8 := Option.some.inj ((show Tryd.prog.funcNamed "bascule/basculelaw.SeenAll" = some 8 by kernel_rfl).symm.trans hf) |>.symm
      obtain rfl : fn = Tryd.f8 := (Option.some.inj (Tryd.func8.symm.trans hfn)).symm
      exact ⟨by kernel_rfl, fun j t ht => by
        rw [Tryd.params8] at ht
        have hm : t ∈ [50, 50] := by simpa using Array.mem_of_getElem? ht
        have hall : ([50, 50].all fun u => !Tryd.prog.wantsStandIn u) = true := by kernel_rfl
        exact (show Tryd.prog.wantsStandIn t = false by simpa using List.all_eq_true.1 hall t hm)⟩)
    (by kernel_rfl)
#print axioms seenAllCard_holds
end Go.Proofs.YtbkkahkikjifkaaDoor
