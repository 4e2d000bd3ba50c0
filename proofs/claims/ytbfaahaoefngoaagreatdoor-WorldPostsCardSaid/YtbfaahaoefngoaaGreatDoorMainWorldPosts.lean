/- The card of basculelaw.WorldPosts: whatever the arguments, the call returns true, and each argument reads as it did; the variables that it names stand as the program lays them. -/
import Derived.Test.YtbfaahaoefngoaaGreatDoorFactsWorldPosts
import Derived.Test.YtbfaahaoefngoaaGreatDoorLawsWorldPosts7
import Derived.Test.YtbfaahaoefngoaaGreatDoorFrame3
import Derived.Test.YtbfaahaoefngoaaGreatDoorRows
import Derived.Test.YtbfaahaoefngoaaGreatDoorCards
import Derived.Test.YtbfaahaoefngoaaGreatDoorTie
import Derived.WalkKit
import Derived.ProofKit
import Derived.LaidMore
import Derived.OpenShut
import Derived.Stop.Joined
import Derived.SevenTiedAt
namespace Go.Proofs.YtbfaahaoefngoaaGreatDoor.worldPosts
open Go Go.ChangeShapes Go.WideShapes Go.ChangeAt Go.RowKit
set_option linter.unusedVariables false

theorem own : ownKnob Tryz.prog.godebug = none := by kernel_rfl
theorem g0 : Tryz.prog.globalNamed "bascule/keccak.rounds" = some 1 := by kernel_rfl
theorem t0 : (Tryz.prog.globals[1]?).map (·.type) = some 300 := by kernel_rfl
theorem g1 : Tryz.prog.globalNamed "bascule/keccak.turns" = some 2 := by kernel_rfl
theorem t1 : (Tryz.prog.globals[2]?).map (·.type) = some 303 := by kernel_rfl

/-- a world whose variables stand as the program's text lays them -/
theorem M9 (os : Os) (args : Array Value) : laidMetH Tryz.prog [("bascule/keccak.rounds", Rows.laid_bascule_keccak_rounds), ("bascule/keccak.turns", Rows.laid_bascule_keccak_turns)] ((World.doorLaid Tryz.prog 4000 os).forCall (fun _ _ => 0) ⟨#[], args, []⟩).memory := by
  rw [MakeChecks.laidMetH_plain _ _ _ (by kernel_rfl)]
  exact laidMet_of_run' 8 (by kernel_rfl) (by kernel_rfl)

/-- what the condition gives: the variables' cells -/
theorem QD {W : World} (h : laidMetH Tryz.prog [("bascule/keccak.rounds", Rows.laid_bascule_keccak_rounds), ("bascule/keccak.turns", Rows.laid_bascule_keccak_turns)] W) : Go.Bx.sf (Go.Bx.mj W) := by
  have h' := h
  rw [MakeChecks.laidMetH_plain _ _ _ (by kernel_rfl)] at h'
  obtain ⟨ps, ⟨gg0, tt0, cs0, ff0, pp0, qq0, hg0, ht0, hv0, hd0, ⟨gg1, tt1, cs1, ff1, pp1, qq1, hg1, ht1, hv1, hd1, _, _⟩, _⟩, _, _⟩ := h'
  obtain rfl := Option.some.inj (g0.symm.trans hg0)
  obtain rfl := Option.some.inj (t0.symm.trans ht0)
  obtain rfl := Option.some.inj (g1.symm.trans hg1)
  obtain rfl := Option.some.inj (t1.symm.trans ht1)
  intro g v hv
  by_cases e0 : g = 1
  · subst e0
    obtain rfl : v = ⟨.arr 24 (.int .u64), Go.Bx.ek⟩ := (Option.some.inj hv).symm
    obtain ⟨x, y⟩ := Go.Bx.wD (l := Go.Bx.ek) (k := .u64) Tryz.underlying300 Tryz.underlying22 (by kernel_rfl) (by kernel_rfl) (show _ = some ((DataW.agg (Go.Bx.ek.map fun x => DataW.lit (.int .u64 x)) : DataW Unit), pp0) from hd0)
    exact Go.Bx.Gm g0 hv0 x y (by decide)
  by_cases e1 : g = 2
  · subst e1
    obtain rfl : v = ⟨.arr 25 (.int .i64), Go.Bx.AR⟩ := (Option.some.inj hv).symm
    obtain ⟨x, y⟩ := Go.Bx.wD (l := Go.Bx.AR) (k := .i64) Tryz.underlying303 Tryz.underlying3 (by kernel_rfl) (by kernel_rfl) (show _ = some ((DataW.agg (Go.Bx.AR.map fun x => DataW.lit (.int .i64 x)) : DataW Unit), pp1) from hd1)
    exact Go.Bx.Gm g1 hv1 x y (by decide)
  exfalso
  have : Go.Bx.look Go.Bx.Gn g = none := by
    simp only [Go.Bx.Gn, Go.Bx.look]
    rw [if_neg (fun h => e0 (Nat.eq_of_beq_eq_true h).symm)]
    rw [if_neg (fun h => e1 (Nat.eq_of_beq_eq_true h).symm)]
  rw [this] at hv
  cases hv

set_option maxRecDepth 100000 in
theorem SS (os : Os) (started : os.Started) (H : Type) (enc : TypeId × Value → H) :
    ReturnsInHanded {} Tryz.checked os 3 .any (fun w args => (Rows.worldPostsSpec.pre enc Tryz.prog Tryz.f3 [] false w args ∧ laidMetH Tryz.prog [("bascule/keccak.rounds", Rows.laid_bascule_keccak_rounds), ("bascule/keccak.turns", Rows.laid_bascule_keccak_turns)] w) ∧ sizedMet enc Tryz.prog Tryz.f3 (OpenSpec.ofChange Rows.worldPostsSpec) false w args)
      (Rows.worldPostsSpec.post enc Tryz.prog Tryz.f3 false true false false) := by
  refine returnsInHanded_of_change_and (C := Tryz.checked) (X := fun w _ => laidMetH Tryz.prog [("bascule/keccak.rounds", Rows.laid_bascule_keccak_rounds), ("bascule/keccak.turns", Rows.laid_bascule_keccak_turns)] w) (fun _ _ _ hh h => h.of_heap hh) own started (by kernel_rfl) Tryz.func3
    (ChangeSpec.witness_shaped (enc := enc) (C := Tryz.checked) (os := os) (X := fun w _ => laidMetH Tryz.prog [("bascule/keccak.rounds", Rows.laid_bascule_keccak_rounds), ("bascule/keccak.turns", Rows.laid_bascule_keccak_turns)] w) false (World.doorLaid Tryz.prog 4000 os) #[.agg #[.int .u64 0, .int .u64 0, .int .u64 0, .int .u64 0, .int .u64 0, .int .u64 0, .int .u64 0, .int .u64 0, .int .u64 0, .int .u64 0, .int .u64 0, .int .u64 0, .int .u64 0, .int .u64 0, .int .u64 0, .int .u64 0, .int .u64 0, .int .u64 0, .int .u64 0, .int .u64 0, .int .u64 0, .int .u64 0, .int .u64 0, .int .u64 0, .bool false, .slice none 0 0, .int .i64 0, .int .i64 0, .int .i64 0, .int .i64 0, .int .i64 0, .int .i64 0, .int .i64 0, .int .i64 0, .slice none 0 0, .slice none 0 0, .slice none 0 0, .slice none 0 0, .slice none 0 0], .agg #[.slice none 0 0, .int .i64 0, .int .i64 0, .slice none 0 0, .int .i64 0, .int .i64 0, .slice none 0 0, .int .i64 0, .int .i64 0, .slice none 0 0, .slice none 0 0], .bool false] 16 rfl (World.shaped_of_RefB (by kernel_rfl) (by kernel_rfl)) (by kernel_rfl) (by kernel_rfl) (by kernel_rfl) (M9 os _)) ?_
  intro W base args ds gs before hval hW _ hsz hL _
  exact Go.Bx.II (n := 3) (tb := 4) Go.Bx.HC (Go.Bx.ej.c.mine rfl).1 (Go.Bx.uu (by kernel_rfl)) (by kernel_rfl) (by kernel_rfl) Tryz.underlying4 (by kernel_rfl) rfl
    (fun ds h => by
      match ds, h with
      | [_, _, _], _ => rfl) Go.Bx.Bc (QD hL) hval hW (Go.Bx.OB hsz)

theorem over : Rows.worldPostsRow.holds Tryz.pinned (OpenSpec.ofChange Rows.worldPostsSpec) :=
  OpenClaim.holds_of_wide 3 Tryz.f3 rfl rfl rfl rfl rfl rfl rfl ⟨rfl, rfl, rfl, rfl, rfl⟩ rfl rfl rfl rfl rfl (by kernel_rfl) Tryz.func3 XI
    (of_decide_eq_true (by kernel_rfl)) (by unfold Func.isWrapper; first | (rw [if_pos (by decide +kernel)]; kernel_rfl) | (rw [if_neg (by decide +kernel)]; exact ⟨rfl, rfl⟩))
    (fun os started H enc _ => SS os started H enc)
end Go.Proofs.YtbfaahaoefngoaaGreatDoor.worldPosts

namespace Go.Proofs.YtbfaahaoefngoaaGreatDoor
open Go
theorem worldPosts_holds : Rows.WorldPostsSaid := worldPosts.over
/-- The statement: the tied card. -/
theorem worldPostsCard_holds : Rows.WorldPostsCardSaid :=
  Claim7.holds_tied_plain_at .later [] [.data, .data] true (true, "ef34150d35542617b1df0621e55891e39e51946a8b7298caa6f9ab9ca25f5eb4") false
    worldPosts_holds (fun _ h => by cases h) (by kernel_rfl) (fun _ h => by cases h) worldPosts_row_tie rfl ⟨rfl, rfl⟩ (by kernel_rfl) rfl
    (fun f fn hf hfn => by
      obtain rfl : f = 3 := Option.some.inj ((show Tryz.prog.funcNamed "bascule/basculelaw.WorldPosts" = some 3 by kernel_rfl).symm.trans hf) |>.symm
      obtain rfl : fn = Tryz.f3 := (Option.some.inj (Tryz.func3.symm.trans hfn)).symm
      exact ⟨by kernel_rfl, fun j t ht => by
        rw [Tryz.params3] at ht
        have hm : t ∈ [37, 45, 4] := by simpa using Array.mem_of_getElem? ht
        have hall : ([37, 45, 4].all fun u => !Tryz.prog.wantsStandIn u) = true := by kernel_rfl
        exact (show Tryz.prog.wantsStandIn t = false by simpa using List.all_eq_true.1 hall t hm)⟩)
    (by kernel_rfl)
#print axioms worldPostsCard_holds
end Go.Proofs.YtbfaahaoefngoaaGreatDoor
