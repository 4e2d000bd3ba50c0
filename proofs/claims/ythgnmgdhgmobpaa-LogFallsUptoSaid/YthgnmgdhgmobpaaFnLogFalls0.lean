/- Go functions of this seat in their own words of Lean, each tied to its code by a contract. -/
import Derived.Test.YthgnmgdhgmobpaaGBase
namespace Go.Bx.basculelaw_sameBytes
open Go Go.Proofs Go.Bx
set_option maxRecDepth 100000
set_option linter.unusedVariables false
def Js : List Nat := []
def C : Ctx := ⟨[(4, .bool), (9, .str), (33, (.sl (.int .u8)))], [], fnL [], noSh, [], noInv, [(2, [4])], [], [], 0, 0⟩
def St0 (x0 : List Int) (x1 : List Int) : St := stL 10 [(0, .data (.sl (.int .u8)) x0), (1, .data (.sl (.int .u8)) x1)] []
def St1 (x4 : Bool) : St := stL 10 [(4, .data .bool x4)] []
def top {α : Type} (Rt : Bool → Option α) (x0 : List Int) (x1 : List Int) : Option α :=
  Rt (beqD .str x0 x1)
theorem top_eq {α : Type} (k : Nat) (Q : Ex → St → Option α) (x0 : List Int) (x1 : List Int) :
    (den C k) (cB Try.f73) Q (St0 x0 x1) = top (fun (x4 : Bool) => Q .ret (St1 x4)) x0 x1 := by
  have h : ∀ (D L : DT α), denJ D L Js C (cB Try.f73) Q (St0 x0 x1) =
        Q .ret (St1 (beqD .str x0 x1)) := by
    intro D L; kernel_rfl
  refine (show (den C k) (cB Try.f73) Q (St0 x0 x1) = denJ (den C k) (lp C k) Js C (cB Try.f73) Q (St0 x0 x1) from (denJ_den _ _ _ _ _ _).symm).trans ((h (den C k) (lp C k)).trans ?_)
  first | rfl | kernel_rfl
def run (x0 : List Int) (x1 : List Int) : Option (Bool) := top (α := Bool) (fun (x4 : Bool) => some x4) x0 x1
def F : Fn := ⟨(.pair (.sl (.int .u8)) (.pair (.sl (.int .u8)) .unit)), .bool, false, fun x => run x.1 x.2.1⟩
set_option maxRecDepth 100000 in
theorem con : Con Try.prog 73 F := by
  refine con_of_den (C := C) (ctx_ok (by kernel_rfl) (by kernel_rfl) trivial) (by kernel_rfl) Try.func73 (c := cB Try.f73) (by kernel_rfl) (by kernel_rfl) F fuel (fun x => by simp [F, spread, Try.ntmps73]) ?_
  intro x r h
  rw [← h]
  have h1 : start F Try.f73.ntmps x = (St0 x.1 x.2.1) := by kernel_rfl
  rw [h1]
  refine (top_eq fuel (fin C Try.f73.results.toList F.rs F.multi) x.1 x.2.1).trans ?_
  kernel_rfl
theorem named : Named Try.prog 73 := named_of Try.func73 (by kernel_rfl) (by kernel_rfl)
end Go.Bx.basculelaw_sameBytes
namespace Go.Bx.basculelaw_sameLog
open Go Go.Proofs Go.Bx
set_option maxRecDepth 100000
set_option linter.unusedVariables false
def Js : List Nat := []
def C : Ctx := ⟨[(4, .bool), (33, (.sl (.int .u8))), (35, (.pair (.sl (.int .u8)) (.pair (.sl (.int .u8)) .unit)))], [], fnL [(73, Go.Bx.basculelaw_sameBytes.F)], noSh, [], noInv, [(2, [4])], [], [], 0, 0⟩
def St0 (x0 : List Int × List Int × Unit) (x1 : List Int × List Int × Unit) : St := stL 17 [(0, .data (.pair (.sl (.int .u8)) (.pair (.sl (.int .u8)) .unit)) x0), (1, .data (.pair (.sl (.int .u8)) (.pair (.sl (.int .u8)) .unit)) x1)] []
def St1 (x4 : Bool) : St := stL 17 [(4, .data .bool x4)] []
def top {α : Type} (Rt : Bool → Option α) (x0 : List Int × List Int × Unit) (x1 : List Int × List Int × Unit) : Option α :=
  (Go.Bx.basculelaw_sameBytes.run x0.1 x1.1).bind fun y1 =>
  (if (y1 == true) = true then Go.Bx.basculelaw_sameBytes.run x0.2.1 x1.2.1 else some false).bind fun y2 =>
  Rt (cond y1 y2 false)
theorem top_eq {α : Type} (k : Nat) (Q : Ex → St → Option α) (x0 : List Int × List Int × Unit) (x1 : List Int × List Int × Unit) :
    (den C k) (cB Try.f30) Q (St0 x0 x1) = top (fun (x4 : Bool) => Q .ret (St1 x4)) x0 x1 := by
  have h : ∀ (D L : DT α), denJ D L Js C (cB Try.f30) Q (St0 x0 x1) =
        (Go.Bx.basculelaw_sameBytes.run x0.1 x1.1).bind fun y1 =>
        (if (y1 == true) = true then Go.Bx.basculelaw_sameBytes.run x0.2.1 x1.2.1 else some false).bind fun y2 =>
        Q .ret (St1 (cond y1 y2 false)) := by
    intro D L; kernel_rfl
  refine (show (den C k) (cB Try.f30) Q (St0 x0 x1) = denJ (den C k) (lp C k) Js C (cB Try.f30) Q (St0 x0 x1) from (denJ_den _ _ _ _ _ _).symm).trans ((h (den C k) (lp C k)).trans ?_)
  first | rfl | kernel_rfl
def run (x0 : List Int × List Int × Unit) (x1 : List Int × List Int × Unit) : Option (Bool) := top (α := Bool) (fun (x4 : Bool) => some x4) x0 x1
def F : Fn := ⟨(.pair (.pair (.sl (.int .u8)) (.pair (.sl (.int .u8)) .unit)) (.pair (.pair (.sl (.int .u8)) (.pair (.sl (.int .u8)) .unit)) .unit)), .bool, false, fun x => run x.1 x.2.1⟩
set_option maxRecDepth 100000 in
theorem con : Con Try.prog 30 F := by
  refine con_of_den (C := C) (ctx_ok (by kernel_rfl) (by kernel_rfl) ⟨.inl ⟨Go.Bx.basculelaw_sameBytes.con, Go.Bx.basculelaw_sameBytes.named⟩, trivial⟩) (by kernel_rfl) Try.func30 (c := cB Try.f30) (by kernel_rfl) (by kernel_rfl) F fuel (fun x => by simp [F, spread, Try.ntmps30]) ?_
  intro x r h
  rw [← h]
  have h1 : start F Try.f30.ntmps x = (St0 x.1 x.2.1) := by kernel_rfl
  rw [h1]
  refine (top_eq fuel (fin C Try.f30.results.toList F.rs F.multi) x.1 x.2.1).trans ?_
  kernel_rfl
theorem named : Named Try.prog 30 := named_of Try.func30 (by kernel_rfl) (by kernel_rfl)
end Go.Bx.basculelaw_sameLog
namespace Go.Bx.log_Crash
open Go Go.Proofs Go.Bx
set_option maxRecDepth 100000
set_option linter.unusedVariables false
def Js : List Nat := []
def C : Ctx := ⟨[(3, (.int .i64)), (23, (.int .i64)), (33, (.sl (.int .u8))), (35, (.pair (.sl (.int .u8)) (.pair (.sl (.int .u8)) .unit)))], [], fnL [], noSh, [], noInv, [(2, [4, 5])], [(2, [.dat false 4 [0]])], [19], 0, 0⟩
def St0 (x0 : List Int × List Int × Unit) (x1 : Int) : St := stL 26 [(0, .data (.pair (.sl (.int .u8)) (.pair (.sl (.int .u8)) .unit)) x0), (1, .data (.int .i64) x1)] []
def St1 (x5 : Int) (c4p0 : List Int) : St := stL 26 [(4, .ref 4 0 []), (5, .data (.int .i64) x5)] [(4, .cell (.pair (.sl (.int .u8)) (.pair (.sl (.int .u8)) .unit)) (.agg (.pair (.sl (.int .u8)) (.pair (.sl (.int .u8)) .unit)) [.data (.sl (.int .u8)) c4p0, .full (.int .u8) []]) false)]
def top {α : Type} (Rt : Int → (List Int) → Option α) (x0 : List Int × List Int × Unit) (x1 : Int) : Option α :=
  if (cond (decide (x1 < 0)) true (decide (x1 > (x0.2.1.length : Int)))) = true then
    Rt 6 []
  else
    if fitB (0 + x0.1.length) 1 = true then
      if 0 ≤ (0 : Int) ∧ (0 : Int) ≤ x1 ∧ x1 ≤ (x0.2.1.length : Int) then
        if fitB (x0.1.length + (cutL x0.2.1 0 x1).length) 1 = true then
          Rt 0 (x0.1 ++ (cutL x0.2.1 0 x1))
        else none
      else none
    else none
theorem top_eq {α : Type} (k : Nat) (Q : Ex → St → Option α) (x0 : List Int × List Int × Unit) (x1 : Int) :
    (den C k) (cB Try.f26) Q (St0 x0 x1) = top (fun (x5 : Int) (c4p0 : List Int) => Q .ret (St1 x5 c4p0)) x0 x1 := by
  have h : ∀ (D L : DT α), denJ D L Js C (cB Try.f26) Q (St0 x0 x1) =
        if (cond (decide (x1 < 0)) true (decide (x1 > (x0.2.1.length : Int)))) = true then
          Q .ret (St1 6 [])
        else
          if fitB (0 + x0.1.length) 1 = true then
            if 0 ≤ (0 : Int) ∧ (0 : Int) ≤ x1 ∧ x1 ≤ (x0.2.1.length : Int) then
              if fitB (x0.1.length + (cutL x0.2.1 0 x1).length) 1 = true then
                Q .ret (St1 0 (x0.1 ++ (cutL x0.2.1 0 x1)))
              else none
            else none
          else none := by
    intro D L; kernel_rfl
  refine (show (den C k) (cB Try.f26) Q (St0 x0 x1) = denJ (den C k) (lp C k) Js C (cB Try.f26) Q (St0 x0 x1) from (denJ_den _ _ _ _ _ _).symm).trans ((h (den C k) (lp C k)).trans ?_)
  first | rfl | kernel_rfl
def run (x0 : List Int × List Int × Unit) (x1 : Int) : Option ((List Int × List Int × Unit) × Int × Unit) := top (α := (List Int × List Int × Unit) × Int × Unit) (fun (x5 : Int) (c4p0 : List Int) => some ((c4p0, [], ()), x5, ())) x0 x1
def F : Fn := ⟨(.pair (.pair (.sl (.int .u8)) (.pair (.sl (.int .u8)) .unit)) (.pair (.int .i64) .unit)), (.pair (.pair (.sl (.int .u8)) (.pair (.sl (.int .u8)) .unit)) (.pair (.int .i64) .unit)), true, fun x => run x.1 x.2.1⟩
set_option maxRecDepth 100000 in
theorem con : Con Try.prog 26 F := by
  refine con_of_den (C := C) (ctx_ok (by kernel_rfl) (by kernel_rfl) trivial) (by kernel_rfl) Try.func26 (c := cB Try.f26) (by kernel_rfl) (by kernel_rfl) F fuel (fun x => by simp [F, spread, Try.ntmps26]) ?_
  intro x r h
  rw [← h]
  have h1 : start F Try.f26.ntmps x = (St0 x.1 x.2.1) := by kernel_rfl
  rw [h1]
  refine (top_eq fuel (fin C Try.f26.results.toList F.rs F.multi) x.1 x.2.1).trans ?_
  kernel_rfl
theorem named : Named Try.prog 26 := named_of Try.func26 (by kernel_rfl) (by kernel_rfl)
end Go.Bx.log_Crash
namespace Go.Bx.log_Sync
open Go Go.Proofs Go.Bx
set_option maxRecDepth 100000
set_option linter.unusedVariables false
def Js : List Nat := []
def C : Ctx := ⟨[(33, (.sl (.int .u8))), (35, (.pair (.sl (.int .u8)) (.pair (.sl (.int .u8)) .unit)))], [], fnL [], noSh, [], noInv, [(2, [2])], [], [6], 0, 0⟩
def St0 (x0 : List Int × List Int × Unit) : St := stL 11 [(0, .data (.pair (.sl (.int .u8)) (.pair (.sl (.int .u8)) .unit)) x0)] []
def St1 (c6 : List Int) : St := stL 11 [(2, .ref 2 0 [])] [(2, .cell (.pair (.sl (.int .u8)) (.pair (.sl (.int .u8)) .unit)) (.agg (.pair (.sl (.int .u8)) (.pair (.sl (.int .u8)) .unit)) [.app 6 0, .full (.int .u8) []]) false), (6, .buf (.int .u8) c6 0 true)]
def top {α : Type} (Rt : (List Int) → Option α) (x0 : List Int × List Int × Unit) : Option α :=
  if fitB (0 + x0.1.length) 1 = true then
    if fitB (x0.1.length + x0.2.1.length) 1 = true then
      Rt (x0.1 ++ x0.2.1)
    else none
  else none
theorem top_eq {α : Type} (k : Nat) (Q : Ex → St → Option α) (x0 : List Int × List Int × Unit) :
    (den C k) (cB Try.f27) Q (St0 x0) = top (fun (c6 : List Int) => Q .ret (St1 c6)) x0 := by
  have h : ∀ (D L : DT α), denJ D L Js C (cB Try.f27) Q (St0 x0) =
        if fitB (0 + x0.1.length) 1 = true then
          if fitB (x0.1.length + x0.2.1.length) 1 = true then
            Q .ret (St1 (x0.1 ++ x0.2.1))
          else none
        else none := by
    intro D L; kernel_rfl
  refine (show (den C k) (cB Try.f27) Q (St0 x0) = denJ (den C k) (lp C k) Js C (cB Try.f27) Q (St0 x0) from (denJ_den _ _ _ _ _ _).symm).trans ((h (den C k) (lp C k)).trans ?_)
  first | rfl | kernel_rfl
def run (x0 : List Int × List Int × Unit) : Option (List Int × List Int × Unit) := top (α := List Int × List Int × Unit) (fun (c6 : List Int) => some (c6, [], ())) x0
def F : Fn := ⟨(.pair (.pair (.sl (.int .u8)) (.pair (.sl (.int .u8)) .unit)) .unit), (.pair (.sl (.int .u8)) (.pair (.sl (.int .u8)) .unit)), false, fun x => run x.1⟩
set_option maxRecDepth 100000 in
theorem con : Con Try.prog 27 F := by
  refine con_of_den (C := C) (ctx_ok (by kernel_rfl) (by kernel_rfl) trivial) (by kernel_rfl) Try.func27 (c := cB Try.f27) (by kernel_rfl) (by kernel_rfl) F fuel (fun x => by simp [F, spread, Try.ntmps27]) ?_
  intro x r h
  rw [← h]
  have h1 : start F Try.f27.ntmps x = (St0 x.1) := by kernel_rfl
  rw [h1]
  refine (top_eq fuel (fin C Try.f27.results.toList F.rs F.multi) x.1).trans ?_
  kernel_rfl
theorem named : Named Try.prog 27 := named_of Try.func27 (by kernel_rfl) (by kernel_rfl)
end Go.Bx.log_Sync
namespace Go.Bx.basculeref_LogFallen
open Go Go.Proofs Go.Bx
set_option maxRecDepth 100000
set_option linter.unusedVariables false
def Js : List Nat := []
def C : Ctx := ⟨[(3, (.int .i64)), (9, .str), (23, (.int .i64)), (33, (.sl (.int .u8))), (35, (.pair (.sl (.int .u8)) (.pair (.sl (.int .u8)) .unit)))], [], fnL [], noSh, [], noInv, [(2, [4, 5])], [(2, [.dat false 4 [0]])], [], 0, 0⟩
def St0 (x0 : List Int × List Int × Unit) (x1 : Int) : St := stL 27 [(0, .data (.pair (.sl (.int .u8)) (.pair (.sl (.int .u8)) .unit)) x0), (1, .data (.int .i64) x1)] []
def St1 (x5 : Int) (c4p0 : List Int) : St := stL 27 [(4, .ref 4 0 []), (5, .data (.int .i64) x5)] [(4, .cell (.pair (.sl (.int .u8)) (.pair (.sl (.int .u8)) .unit)) (.agg (.pair (.sl (.int .u8)) (.pair (.sl (.int .u8)) .unit)) [.data (.sl (.int .u8)) c4p0, .full (.int .u8) []]) false)]
def top {α : Type} (Rt : Int → (List Int) → Option α) (x0 : List Int × List Int × Unit) (x1 : Int) : Option α :=
  if (cond (decide (x1 < 0)) true (decide (x1 > (x0.2.1.length : Int)))) = true then
    Rt 6 []
  else
    if 0 ≤ (0 : Int) ∧ (0 : Int) ≤ x1 ∧ x1 ≤ (x0.2.1.length : Int) then
      if Nat.ble (x0.1.length + (cutL x0.2.1 0 x1).length) 9223372036854775807 = true then
        Rt 0 (x0.1 ++ (cutL x0.2.1 0 x1))
      else none
    else none
theorem top_eq {α : Type} (k : Nat) (Q : Ex → St → Option α) (x0 : List Int × List Int × Unit) (x1 : Int) :
    (den C k) (cB Try.f28) Q (St0 x0 x1) = top (fun (x5 : Int) (c4p0 : List Int) => Q .ret (St1 x5 c4p0)) x0 x1 := by
  have h : ∀ (D L : DT α), denJ D L Js C (cB Try.f28) Q (St0 x0 x1) =
        if (cond (decide (x1 < 0)) true (decide (x1 > (x0.2.1.length : Int)))) = true then
          Q .ret (St1 6 [])
        else
          if 0 ≤ (0 : Int) ∧ (0 : Int) ≤ x1 ∧ x1 ≤ (x0.2.1.length : Int) then
            if Nat.ble (x0.1.length + (cutL x0.2.1 0 x1).length) 9223372036854775807 = true then
              Q .ret (St1 0 (x0.1 ++ (cutL x0.2.1 0 x1)))
            else none
          else none := by
    intro D L; kernel_rfl
  refine (show (den C k) (cB Try.f28) Q (St0 x0 x1) = denJ (den C k) (lp C k) Js C (cB Try.f28) Q (St0 x0 x1) from (denJ_den _ _ _ _ _ _).symm).trans ((h (den C k) (lp C k)).trans ?_)
  first | rfl | kernel_rfl
def run (x0 : List Int × List Int × Unit) (x1 : Int) : Option ((List Int × List Int × Unit) × Int × Unit) := top (α := (List Int × List Int × Unit) × Int × Unit) (fun (x5 : Int) (c4p0 : List Int) => some ((c4p0, [], ()), x5, ())) x0 x1
def F : Fn := ⟨(.pair (.pair (.sl (.int .u8)) (.pair (.sl (.int .u8)) .unit)) (.pair (.int .i64) .unit)), (.pair (.pair (.sl (.int .u8)) (.pair (.sl (.int .u8)) .unit)) (.pair (.int .i64) .unit)), true, fun x => run x.1 x.2.1⟩
set_option maxRecDepth 100000 in
theorem con : Con Try.prog 28 F := by
  refine con_of_den (C := C) (ctx_ok (by kernel_rfl) (by kernel_rfl) trivial) (by kernel_rfl) Try.func28 (c := cB Try.f28) (by kernel_rfl) (by kernel_rfl) F fuel (fun x => by simp [F, spread, Try.ntmps28]) ?_
  intro x r h
  rw [← h]
  have h1 : start F Try.f28.ntmps x = (St0 x.1 x.2.1) := by kernel_rfl
  rw [h1]
  refine (top_eq fuel (fin C Try.f28.results.toList F.rs F.multi) x.1 x.2.1).trans ?_
  kernel_rfl
theorem named : Named Try.prog 28 := named_of Try.func28 (by kernel_rfl) (by kernel_rfl)
end Go.Bx.basculeref_LogFallen
namespace Go.Bx.basculeref_LogSynced
open Go Go.Proofs Go.Bx
set_option maxRecDepth 100000
set_option linter.unusedVariables false
def Js : List Nat := []
def C : Ctx := ⟨[(9, .str), (33, (.sl (.int .u8))), (35, (.pair (.sl (.int .u8)) (.pair (.sl (.int .u8)) .unit)))], [], fnL [], noSh, [], noInv, [(2, [2])], [], [], 0, 0⟩
def St0 (x0 : List Int × List Int × Unit) : St := stL 12 [(0, .data (.pair (.sl (.int .u8)) (.pair (.sl (.int .u8)) .unit)) x0)] []
def St1 (c2p0 : List Int) : St := stL 12 [(2, .ref 2 0 [])] [(2, .cell (.pair (.sl (.int .u8)) (.pair (.sl (.int .u8)) .unit)) (.agg (.pair (.sl (.int .u8)) (.pair (.sl (.int .u8)) .unit)) [.data (.sl (.int .u8)) c2p0, .full (.int .u8) []]) false)]
def top {α : Type} (Rt : (List Int) → Option α) (x0 : List Int × List Int × Unit) : Option α :=
  if Nat.ble (x0.1.length + x0.2.1.length) 9223372036854775807 = true then
    Rt (x0.1 ++ x0.2.1)
  else none
theorem top_eq {α : Type} (k : Nat) (Q : Ex → St → Option α) (x0 : List Int × List Int × Unit) :
    (den C k) (cB Try.f29) Q (St0 x0) = top (fun (c2p0 : List Int) => Q .ret (St1 c2p0)) x0 := by
  have h : ∀ (D L : DT α), denJ D L Js C (cB Try.f29) Q (St0 x0) =
        if Nat.ble (x0.1.length + x0.2.1.length) 9223372036854775807 = true then
          Q .ret (St1 (x0.1 ++ x0.2.1))
        else none := by
    intro D L; kernel_rfl
  refine (show (den C k) (cB Try.f29) Q (St0 x0) = denJ (den C k) (lp C k) Js C (cB Try.f29) Q (St0 x0) from (denJ_den _ _ _ _ _ _).symm).trans ((h (den C k) (lp C k)).trans ?_)
  first | rfl | kernel_rfl
def run (x0 : List Int × List Int × Unit) : Option (List Int × List Int × Unit) := top (α := List Int × List Int × Unit) (fun (c2p0 : List Int) => some (c2p0, [], ())) x0
def F : Fn := ⟨(.pair (.pair (.sl (.int .u8)) (.pair (.sl (.int .u8)) .unit)) .unit), (.pair (.sl (.int .u8)) (.pair (.sl (.int .u8)) .unit)), false, fun x => run x.1⟩
set_option maxRecDepth 100000 in
theorem con : Con Try.prog 29 F := by
  refine con_of_den (C := C) (ctx_ok (by kernel_rfl) (by kernel_rfl) trivial) (by kernel_rfl) Try.func29 (c := cB Try.f29) (by kernel_rfl) (by kernel_rfl) F fuel (fun x => by simp [F, spread, Try.ntmps29]) ?_
  intro x r h
  rw [← h]
  have h1 : start F Try.f29.ntmps x = (St0 x.1) := by kernel_rfl
  rw [h1]
  refine (top_eq fuel (fin C Try.f29.results.toList F.rs F.multi) x.1).trans ?_
  kernel_rfl
theorem named : Named Try.prog 29 := named_of Try.func29 (by kernel_rfl) (by kernel_rfl)
end Go.Bx.basculeref_LogSynced
namespace Go.Bx.basculelaw_LogFalls
open Go Go.Proofs Go.Bx
set_option maxRecDepth 100000
set_option linter.unusedVariables false
def Js : List Nat := []
def C : Ctx := ⟨[(3, (.int .i64)), (4, .bool), (35, (.pair (.sl (.int .u8)) (.pair (.sl (.int .u8)) .unit)))], [], fnL [(26, Go.Bx.log_Crash.F), (27, Go.Bx.log_Sync.F), (28, Go.Bx.basculeref_LogFallen.F), (29, Go.Bx.basculeref_LogSynced.F), (30, Go.Bx.basculelaw_sameLog.F)], noSh, [], noInv, [(2, [4])], [], [], 0, 0⟩
def St0 (x0 : List Int × List Int × Unit) (x1 : Int) : St := stL 40 [(0, .data (.pair (.sl (.int .u8)) (.pair (.sl (.int .u8)) .unit)) x0), (1, .data (.int .i64) x1)] []
def St1 (x4 : Bool) : St := stL 40 [(4, .data .bool x4)] []
def top {α : Type} (Rt : Bool → Option α) (x0 : List Int × List Int × Unit) (x1 : Int) : Option α :=
  (Go.Bx.log_Crash.run x0 x1).bind fun y1 =>
  (Go.Bx.log_Sync.run x0).bind fun y2 =>
  (Go.Bx.basculeref_LogFallen.run x0 x1).bind fun y3 =>
  (Go.Bx.basculeref_LogSynced.run x0).bind fun y4 =>
  (Go.Bx.basculelaw_sameLog.run y1.1 y3.1).bind fun y5 =>
  (if ((cond y5 (y1.2.1 == y3.2.1) false) == true) = true then Go.Bx.basculelaw_sameLog.run y2 y4 else some false).bind fun y6 =>
  Rt (cond (cond y5 (y1.2.1 == y3.2.1) false) y6 false)
theorem top_eq {α : Type} (k : Nat) (Q : Ex → St → Option α) (x0 : List Int × List Int × Unit) (x1 : Int) :
    (den C k) (cB Try.f6) Q (St0 x0 x1) = top (fun (x4 : Bool) => Q .ret (St1 x4)) x0 x1 := by
  have h : ∀ (D L : DT α), denJ D L Js C (cB Try.f6) Q (St0 x0 x1) =
        (Go.Bx.log_Crash.run x0 x1).bind fun y1 =>
        (Go.Bx.log_Sync.run x0).bind fun y2 =>
        (Go.Bx.basculeref_LogFallen.run x0 x1).bind fun y3 =>
        (Go.Bx.basculeref_LogSynced.run x0).bind fun y4 =>
        (Go.Bx.basculelaw_sameLog.run y1.1 y3.1).bind fun y5 =>
        (if ((cond y5 (y1.2.1 == y3.2.1) false) == true) = true then Go.Bx.basculelaw_sameLog.run y2 y4 else some false).bind fun y6 =>
        Q .ret (St1 (cond (cond y5 (y1.2.1 == y3.2.1) false) y6 false)) := by
    intro D L; kernel_rfl
  refine (show (den C k) (cB Try.f6) Q (St0 x0 x1) = denJ (den C k) (lp C k) Js C (cB Try.f6) Q (St0 x0 x1) from (denJ_den _ _ _ _ _ _).symm).trans ((h (den C k) (lp C k)).trans ?_)
  first | rfl | kernel_rfl
def run (x0 : List Int × List Int × Unit) (x1 : Int) : Option (Bool) := top (α := Bool) (fun (x4 : Bool) => some x4) x0 x1
def F : Fn := ⟨(.pair (.pair (.sl (.int .u8)) (.pair (.sl (.int .u8)) .unit)) (.pair (.int .i64) .unit)), .bool, false, fun x => run x.1 x.2.1⟩
set_option maxRecDepth 100000 in
theorem con : Con Try.prog 6 F := by
  refine con_of_den (C := C) (ctx_ok (by kernel_rfl) (by kernel_rfl) ⟨.inl ⟨Go.Bx.log_Crash.con, Go.Bx.log_Crash.named⟩, ⟨.inl ⟨Go.Bx.log_Sync.con, Go.Bx.log_Sync.named⟩, ⟨.inl ⟨Go.Bx.basculeref_LogFallen.con, Go.Bx.basculeref_LogFallen.named⟩, ⟨.inl ⟨Go.Bx.basculeref_LogSynced.con, Go.Bx.basculeref_LogSynced.named⟩, ⟨.inl ⟨Go.Bx.basculelaw_sameLog.con, Go.Bx.basculelaw_sameLog.named⟩, trivial⟩⟩⟩⟩⟩) (by kernel_rfl) Try.func6 (c := cB Try.f6) (by kernel_rfl) (by kernel_rfl) F fuel (fun x => by simp [F, spread, Try.ntmps6]) ?_
  intro x r h
  rw [← h]
  have h1 : start F Try.f6.ntmps x = (St0 x.1 x.2.1) := by kernel_rfl
  rw [h1]
  refine (top_eq fuel (fin C Try.f6.results.toList F.rs F.multi) x.1 x.2.1).trans ?_
  kernel_rfl
theorem named : Named Try.prog 6 := named_of Try.func6 (by kernel_rfl) (by kernel_rfl)
end Go.Bx.basculelaw_LogFalls
