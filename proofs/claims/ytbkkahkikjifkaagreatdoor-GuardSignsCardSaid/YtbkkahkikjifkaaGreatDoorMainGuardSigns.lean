/- The card of basculelaw.GuardSigns: whatever the arguments, the call returns true, and each argument reads as it did; the variables that it names stand as the program lays them. -/
import Derived.Test.YtbkkahkikjifkaaGreatDoorLawsGuardSigns3
import Derived.Test.YtbkkahkikjifkaaGreatDoorFrame3
import Derived.Test.YtbkkahkikjifkaaGreatDoorRows
import Derived.Test.YtbkkahkikjifkaaGreatDoorCards
import Derived.Test.YtbkkahkikjifkaaGreatDoorTie
import Derived.WalkKit
import Derived.ProofKit
import Derived.LaidMore
import Derived.OpenShut
import Derived.Stop.Joined
import Derived.SevenTiedAt
namespace Go.Proofs.YtbkkahkikjifkaaGreatDoor.guardSigns
open Go Go.ChangeShapes Go.WideShapes Go.ChangeAt Go.RowKit
set_option linter.unusedVariables false

theorem own : ownKnob Tryz.prog.godebug = none := by kernel_rfl
theorem g0 : Tryz.prog.globalNamed "bascule/keccak.rounds" = some 0 := by kernel_rfl
theorem t0 : (Tryz.prog.globals[0]?).map (·.type) = some 161 := by kernel_rfl
theorem g1 : Tryz.prog.globalNamed "bascule/keccak.turns" = some 1 := by kernel_rfl
theorem t1 : (Tryz.prog.globals[1]?).map (·.type) = some 164 := by kernel_rfl

/-- a world whose variables stand as the program's text lays them -/
theorem door_met (os : Os) (args : Array Value) : laidMetH Tryz.prog [("bascule/keccak.rounds", Rows.laid_bascule_keccak_rounds), ("bascule/keccak.turns", Rows.laid_bascule_keccak_turns)] ((World.doorLaid Tryz.prog 4000 os).forCall (fun _ _ => 0) ⟨#[], args, []⟩).memory := by
  rw [MakeChecks.laidMetH_plain _ _ _ (by kernel_rfl)]
  exact laidMet_of_run' 8 (by kernel_rfl) (by kernel_rfl)

/-- what the condition gives: the variables' cells -/
theorem of_laid {W : World} (h : laidMetH Tryz.prog [("bascule/keccak.rounds", Rows.laid_bascule_keccak_rounds), ("bascule/keccak.turns", Rows.laid_bascule_keccak_turns)] W) : Go.Bx.GlobOk (Go.Bx.argEnv W) := by
  have h' := h
  rw [MakeChecks.laidMetH_plain _ _ _ (by kernel_rfl)] at h'
  obtain ⟨ps, ⟨gg0, tt0, cs0, ff0, pp0, qq0, hg0, ht0, hv0, hd0, ⟨gg1, tt1, cs1, ff1, pp1, qq1, hg1, ht1, hv1, hd1, _, _⟩, _⟩, _, _⟩ := h'
  obtain rfl := Option.some.inj (g0.symm.trans hg0)
  obtain rfl := Option.some.inj (t0.symm.trans ht0)
  obtain rfl := Option.some.inj (g1.symm.trans hg1)
  obtain rfl := Option.some.inj (t1.symm.trans ht1)
  intro g v hv
  by_cases e0 : g = 0
  · subst e0
    obtain rfl : v = ⟨.arr 24 (.int .u64), Go.Bx.gRounds⟩ := (Option.some.inj hv).symm
    obtain ⟨x, y⟩ := Go.Bx.ints_of_trod (l := Go.Bx.gRounds) (k := .u64) Tryz.underlying161 Tryz.underlying22 (by kernel_rfl) (by kernel_rfl) (show _ = some ((DataW.agg (Go.Bx.gRounds.map fun x => DataW.lit (.int .u64 x)) : DataW Unit), pp0) from hd0)
    exact Go.Bx.glob_one g0 hv0 x y (by decide)
  by_cases e1 : g = 1
  · subst e1
    obtain rfl : v = ⟨.arr 25 (.int .i64), Go.Bx.gTurns⟩ := (Option.some.inj hv).symm
    obtain ⟨x, y⟩ := Go.Bx.ints_of_trod (l := Go.Bx.gTurns) (k := .i64) Tryz.underlying164 Tryz.underlying3 (by kernel_rfl) (by kernel_rfl) (show _ = some ((DataW.agg (Go.Bx.gTurns.map fun x => DataW.lit (.int .i64 x)) : DataW Unit), pp1) from hd1)
    exact Go.Bx.glob_one g1 hv1 x y (by decide)
  exfalso
  have : Go.Bx.look Go.Bx.globs g = none := by
    simp only [Go.Bx.globs, Go.Bx.look]
    rw [if_neg (fun h => e0 (Nat.eq_of_beq_eq_true h).symm)]
    rw [if_neg (fun h => e1 (Nat.eq_of_beq_eq_true h).symm)]
  rw [this] at hv
  cases hv

set_option maxRecDepth 100000 in
theorem lifted (os : Os) (started : os.Started) (H : Type) (enc : TypeId × Value → H) :
    ReturnsInHanded {} Tryz.checked os 3 .any (fun w args => (Rows.guardSignsSpec.pre enc Tryz.prog Tryz.f3 [] false w args ∧ laidMetH Tryz.prog [("bascule/keccak.rounds", Rows.laid_bascule_keccak_rounds), ("bascule/keccak.turns", Rows.laid_bascule_keccak_turns)] w) ∧ sizedMet enc Tryz.prog Tryz.f3 (OpenSpec.ofChange Rows.guardSignsSpec) false w args)
      (Rows.guardSignsSpec.post enc Tryz.prog Tryz.f3 false true false false) := by
  refine returnsInHanded_of_change_and (C := Tryz.checked) (X := fun w _ => laidMetH Tryz.prog [("bascule/keccak.rounds", Rows.laid_bascule_keccak_rounds), ("bascule/keccak.turns", Rows.laid_bascule_keccak_turns)] w) (fun _ _ _ hh h => h.of_heap hh) own started (by kernel_rfl) Tryz.func3
    (ChangeSpec.witness_shaped (enc := enc) (C := Tryz.checked) (os := os) (X := fun w _ => laidMetH Tryz.prog [("bascule/keccak.rounds", Rows.laid_bascule_keccak_rounds), ("bascule/keccak.turns", Rows.laid_bascule_keccak_turns)] w) false (World.doorLaid Tryz.prog 4000 os) #[.agg #[.int .u64 0, .int .u64 0, .int .u64 0, .int .u64 0, .int .u64 0, .int .u64 0, .int .u64 0, .int .u64 0, .int .u64 0, .int .u64 0, .int .u64 0, .int .u64 0, .int .u64 0, .int .u64 0, .int .u64 0, .int .u64 0, .int .u64 0, .int .u64 0, .int .u64 0, .int .u64 0, .int .u64 0, .int .u64 0, .int .u64 0, .int .u64 0, .bool false], .agg #[.int .u64 0, .int .u64 0, .int .u64 0, .int .u64 0, .int .i64 0, .int .i64 0, .int .i64 0, .int .i64 0, .int .i64 0, .int .i64 0, .int .i64 0, .slice none 0 0, .slice none 0 0, .int .i64 0, .int .i64 0, .int .i64 0, .int .i64 0, .int .i64 0, .int .i64 0, .int .i64 0, .slice none 0 0, .slice none 0 0, .slice none 0 0, .slice none 0 0, .slice none 0 0, .slice none 0 0], .agg #[.int .i64 0, .int .i64 0, .int .i64 0, .int .u8 0, .int .u8 0, .int .u8 0, .int .u8 0, .int .u8 0, .int .u8 0, .int .u8 0, .int .u8 0, .int .u8 0, .int .u8 0, .int .u8 0, .int .u8 0, .int .u8 0, .int .u8 0, .int .u8 0, .int .u8 0, .int .u8 0, .int .u8 0, .int .u8 0, .int .u8 0, .int .u8 0, .int .u8 0, .int .u8 0, .int .u8 0, .int .u8 0, .int .u8 0, .int .u8 0, .int .u8 0, .int .u8 0, .int .u8 0, .int .u8 0, .int .u8 0, .int .i64 0, .int .i64 0, .slice none 0 0]] 16 rfl (World.shaped_of_RefB (by kernel_rfl) (by kernel_rfl)) (by kernel_rfl) (by kernel_rfl) (by kernel_rfl) (door_met os _)) ?_
  intro W base args ds gs before hval hW _ hsz hL _
  exact Go.Bx.law_of_con (n := 3) (tb := 4) Go.Bx.small_reach Go.Bx.basculelaw_GuardSigns.con.1 (Go.Bx.argTysB_sound (by kernel_rfl)) (by kernel_rfl) (by kernel_rfl) Tryz.underlying4 (by kernel_rfl) rfl
    (fun ds h => by
      match ds, h with
      | [_, _, _], _ => rfl) Go.Bx.law_GuardSigns (of_laid hL) hval hW (Go.Bx.light_of hsz)

theorem over : Rows.guardSignsRow.holds Tryz.pinned (OpenSpec.ofChange Rows.guardSignsSpec) :=
  OpenClaim.holds_of_wide 3 Tryz.f3 rfl rfl rfl rfl rfl rfl rfl ⟨rfl, rfl, rfl, rfl, rfl⟩ rfl rfl rfl rfl rfl (by kernel_rfl) Tryz.func3 (by kernel_rfl)
    (of_decide_eq_true (by kernel_rfl)) (by unfold Func.isWrapper; first | (rw [if_pos (by decide +kernel)]; kernel_rfl) | (rw [if_neg (by decide +kernel)]; exact ⟨rfl, rfl⟩))
    (fun os started H enc _ => lifted os started H enc)
end Go.Proofs.YtbkkahkikjifkaaGreatDoor.guardSigns

namespace Go.Proofs.YtbkkahkikjifkaaGreatDoor
open Go
theorem guardSigns_holds : Rows.GuardSignsSaid := guardSigns.over
/-- The statement: the tied card. -/
theorem guardSignsCard_holds : Rows.GuardSignsCardSaid :=
  Claim7.holds_tied_plain_at .later [] [.data, .data] true (true, "7f6e19b9a9be0fb5506decc20a29cf1d2e13ff4b971e7a7267079a6fc2ef8fa1") false
    guardSigns_holds (fun _ h => by cases h) (by kernel_rfl) (fun _ h => by cases h) guardSigns_row_tie rfl ⟨rfl, rfl⟩ (by kernel_rfl) rfl
    (fun f fn hf hfn => by
      obtain rfl : f = 3 := Option.some.inj ((show Tryz.prog.funcNamed "bascule/basculelaw.GuardSigns" = some 3 by kernel_rfl).symm.trans hf) |>.symm
      obtain rfl : fn = Tryz.f3 := (Option.some.inj (Tryz.func3.symm.trans hfn)).symm
      exact ⟨by kernel_rfl, fun j t ht => by
        rw [Tryz.params3] at ht
        have hm : t ∈ [28, 38, 41] := by simpa using Array.mem_of_getElem? ht
        have hall : ([28, 38, 41].all fun u => !Tryz.prog.wantsStandIn u) = true := by kernel_rfl
        exact (show Tryz.prog.wantsStandIn t = false by simpa using List.all_eq_true.1 hall t hm)⟩)
    (by kernel_rfl)
#print axioms guardSignsCard_holds
end Go.Proofs.YtbkkahkikjifkaaGreatDoor
