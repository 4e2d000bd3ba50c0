/- The card of basculelaw.SignMakes: whatever the arguments, the call returns true, and each argument reads as it did; the variables that it names stand as the program lays them. -/
import Derived.Test.YtbkkahkikjifkaaDoorLawsSignMakes3
import Derived.Test.YtbkkahkikjifkaaDoorFrame3
import Derived.Test.YtbkkahkikjifkaaDoorRows
import Derived.Test.YtbkkahkikjifkaaDoorCards
import Derived.Test.YtbkkahkikjifkaaDoorTie
import Derived.WalkKit
import Derived.ProofKit
import Derived.LaidMore
import Derived.OpenShut
import Derived.Stop.Joined
import Derived.SevenTiedAt
namespace Go.Proofs.YtbkkahkikjifkaaDoor.signMakes
open Go Go.ChangeShapes Go.WideShapes Go.ChangeAt Go.RowKit
set_option linter.unusedVariables false

theorem own : ownKnob Tryd.prog.godebug = none := by kernel_rfl
theorem g0 : Tryd.prog.globalNamed "bascule/keccak.rounds" = some 0 := by kernel_rfl
theorem t0 : (Tryd.prog.globals[0]?).map (·.type) = some 86 := by kernel_rfl
theorem g1 : Tryd.prog.globalNamed "bascule/keccak.turns" = some 1 := by kernel_rfl
theorem t1 : (Tryd.prog.globals[1]?).map (·.type) = some 89 := by kernel_rfl

/-- a world whose variables stand as the program's text lays them -/
theorem door_met (os : Os) (args : Array Value) : laidMetH Tryd.prog [("bascule/keccak.rounds", Rows.laid_bascule_keccak_rounds), ("bascule/keccak.turns", Rows.laid_bascule_keccak_turns)] ((World.doorLaid Tryd.prog 4000 os).forCall (fun _ _ => 0) ⟨#[], args, []⟩).memory := by
  rw [MakeChecks.laidMetH_plain _ _ _ (by kernel_rfl)]
  exact laidMet_of_run' 8 (by kernel_rfl) (by kernel_rfl)

/-- what the condition gives: the variables' cells -/
theorem of_laid {W : World} (h : laidMetH Tryd.prog [("bascule/keccak.rounds", Rows.laid_bascule_keccak_rounds), ("bascule/keccak.turns", Rows.laid_bascule_keccak_turns)] W) : Go.Bx.GlobOk (Go.Bx.argEnv W) := by
  have h' := h
  rw [MakeChecks.laidMetH_plain _ _ _ (by kernel_rfl)] at h'
  obtain ⟨ps, ⟨gg0, tt0, cs0, ff0, pp0, qq0, hg0, ht0, hv0, hd0, ⟨gg1, tt1, cs1, ff1, pp1, qq1, hg1, ht1, hv1, hd1, _, _⟩, _⟩, _, _⟩ := h'
  obtain rfl := Option.some.inj (g0.symm.trans hg0)
  obtain rfl := Option.some.inj (t0.symm.trans ht0)
  obtain rfl := Option.some.inj (g1.symm.trans hg1)
  obtain rfl := Option.some.inj (t1.symm.trans ht1)
  intro g v hv
  by_cases e0 : g = 0
  · subst e0
    obtain rfl : v = ⟨.arr 24 (.int .u64), Go.Bx.gRounds⟩ := (Option.some.inj hv).symm
    obtain ⟨x, y⟩ := Go.Bx.ints_of_trod (l := Go.Bx.gRounds) (k := .u64) Tryd.underlying86 Tryd.underlying22 (by kernel_rfl) (by kernel_rfl) (show _ = some ((DataW.agg (Go.Bx.gRounds.map fun x => DataW.lit (.int .u64 x)) : DataW Unit), pp0) from hd0)
    exact Go.Bx.glob_one g0 hv0 x y (by decide)
  by_cases e1 : g = 1
  · subst e1
    obtain rfl : v = ⟨.arr 25 (.int .i64), Go.Bx.gTurns⟩ := (Option.some.inj hv).symm
    obtain ⟨x, y⟩ := Go.Bx.ints_of_trod (l := Go.Bx.gTurns) (k := .i64) Tryd.underlying89 Tryd.underlying3 (by kernel_rfl) (by kernel_rfl) (show _ = some ((DataW.agg (Go.Bx.gTurns.map fun x => DataW.lit (.int .i64 x)) : DataW Unit), pp1) from hd1)
    exact Go.Bx.glob_one g1 hv1 x y (by decide)
  exfalso
  have : Go.Bx.look Go.Bx.globs g = none := by
    simp only [Go.Bx.globs, Go.Bx.look]
    rw [if_neg (fun h => e0 (Nat.eq_of_beq_eq_true h).symm)]
    rw [if_neg (fun h => e1 (Nat.eq_of_beq_eq_true h).symm)]
  rw [this] at hv
  cases hv

set_option maxRecDepth 100000 in
theorem lifted (os : Os) (started : os.Started) (H : Type) (enc : TypeId × Value → H) :
    ReturnsInHanded {} Tryd.checked os 10 .any (fun w args => (Rows.signMakesSpec.pre enc Tryd.prog Tryd.f10 [] false w args ∧ laidMetH Tryd.prog [("bascule/keccak.rounds", Rows.laid_bascule_keccak_rounds), ("bascule/keccak.turns", Rows.laid_bascule_keccak_turns)] w) ∧ sizedMet enc Tryd.prog Tryd.f10 (OpenSpec.ofChange Rows.signMakesSpec) false w args)
      (Rows.signMakesSpec.post enc Tryd.prog Tryd.f10 false true false false) := by
  refine returnsInHanded_of_change_and (C := Tryd.checked) (X := fun w _ => laidMetH Tryd.prog [("bascule/keccak.rounds", Rows.laid_bascule_keccak_rounds), ("bascule/keccak.turns", Rows.laid_bascule_keccak_turns)] w) (fun _ _ _ hh h => h.of_heap hh) own started (by kernel_rfl) Tryd.func10
    (ChangeSpec.witness_shaped (enc := enc) (C := Tryd.checked) (os := os) (X := fun w _ => laidMetH Tryd.prog [("bascule/keccak.rounds", Rows.laid_bascule_keccak_rounds), ("bascule/keccak.turns", Rows.laid_bascule_keccak_turns)] w) false (World.doorLaid Tryd.prog 4000 os) #[.agg #[.int .u64 0, .int .u64 0, .int .u64 0, .int .u64 0, .int .u64 0, .int .u64 0, .int .u64 0, .int .u64 0, .int .u64 0, .int .u64 0, .int .u64 0, .int .u64 0, .int .u64 0, .int .u64 0, .int .u64 0, .int .u64 0, .int .u64 0, .int .u64 0, .int .u64 0, .int .u64 0, .int .u64 0, .int .u64 0, .int .u64 0, .int .u64 0, .bool false], .agg #[.int .u64 0, .int .u64 0, .int .u64 0, .int .u64 0], .agg #[.int .u8 0, .int .u8 0, .int .u8 0, .int .u8 0, .int .u8 0, .int .u8 0, .int .u8 0, .int .u8 0, .int .u8 0, .int .u8 0, .int .u8 0, .int .u8 0, .int .u8 0, .int .u8 0, .int .u8 0, .int .u8 0, .int .u8 0, .int .u8 0, .int .u8 0, .int .u8 0, .int .u8 0, .int .u8 0, .int .u8 0, .int .u8 0, .int .u8 0, .int .u8 0, .int .u8 0, .int .u8 0, .int .u8 0, .int .u8 0, .int .u8 0, .int .u8 0]] 16 rfl (World.shaped_of_RefB (by kernel_rfl) (by kernel_rfl)) (by kernel_rfl) (by kernel_rfl) (by kernel_rfl) (door_met os _)) ?_
  intro W base args ds gs before hval hW _ hsz hL _
  exact Go.Bx.law_of_con (n := 3) (tb := 4) Go.Bx.small_reach Go.Bx.basculelaw_SignMakes.con (Go.Bx.argTysB_sound (by kernel_rfl)) (by kernel_rfl) (by kernel_rfl) Tryd.underlying4 (by kernel_rfl) rfl
    (fun ds h => by
      match ds, h with
      | [_, _, _], _ => rfl) Go.Bx.law_SignMakes (of_laid hL) hval hW (Go.Bx.light_of hsz)

theorem over : Rows.signMakesRow.holds Tryd.pinned (OpenSpec.ofChange Rows.signMakesSpec) :=
  OpenClaim.holds_of_wide 10 Tryd.f10 rfl rfl rfl rfl rfl rfl rfl ⟨rfl, rfl, rfl, rfl, rfl⟩ rfl rfl rfl rfl rfl (by kernel_rfl) Tryd.func10 (by kernel_rfl)
    (of_decide_eq_true (by kernel_rfl)) (by unfold Func.isWrapper; first | (rw [if_pos (by decide +kernel)]; kernel_rfl) | (rw [if_neg (by decide +kernel)]; exact ⟨rfl, rfl⟩))
    (fun os started H enc _ => lifted os started H enc)
end Go.Proofs.YtbkkahkikjifkaaDoor.signMakes

namespace Go.Proofs.YtbkkahkikjifkaaDoor
open Go
theorem signMakes_holds : Rows.SignMakesSaid := signMakes.over
/-- The statement: the tied card. -/
theorem signMakesCard_holds : Rows.SignMakesCardSaid :=
  Claim7.holds_tied_plain_at .later [] [.data, .data] true (true, "7952c7d6ee2ba3e7270f96bb7482e8e0e89cdab6837682717d045ca861c34a65") false
    signMakes_holds (fun _ h => by cases h) (by kernel_rfl) (fun _ h => by cases h) signMakes_row_tie rfl ⟨rfl, rfl⟩ (by kernel_rfl) rfl
    (fun f fn hf hfn => by
      obtain rfl : f = 10 := Option.some.inj ((show Tryd.prog.funcNamed "bascule/basculelaw.SignMakes" = some 10 by kernel_rfl).symm.trans hf) |>.symm
      obtain rfl : fn = Tryd.f10 := (Option.some.inj (Tryd.func10.symm.trans hfn)).symm
      exact ⟨by kernel_rfl, fun j t ht => by
        rw [Tryd.params10] at ht
        have hm : t ∈ [60, 56, 35] := by simpa using Array.mem_of_getElem? ht
        have hall : ([60, 56, 35].all fun u => !Tryd.prog.wantsStandIn u) = true := by kernel_rfl
        exact (show Tryd.prog.wantsStandIn t = false by simpa using List.all_eq_true.1 hall t hm)⟩)
    (by kernel_rfl)
#print axioms signMakesCard_holds
end Go.Proofs.YtbkkahkikjifkaaDoor
