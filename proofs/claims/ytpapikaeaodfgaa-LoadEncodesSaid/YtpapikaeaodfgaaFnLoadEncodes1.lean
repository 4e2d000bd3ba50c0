/- Go functions of this seat in their own words of Lean, each tied to its code by a contract. -/
import Derived.Test.YtpapikaeaodfgaaGBase
import Derived.Test.YtpapikaeaodfgaaFnLoadEncodes0
namespace Go.Bx.load_turn__bare
open Go Go.Proofs Go.Bx
set_option maxRecDepth 100000
set_option linter.unusedVariables false
def Js : List Nat := []
def C : Ctx := ⟨[(3, (.int .i64)), (26, (.sl (.arr 20 (.int .u8)))), (71, (.pair (.int .i64) (.pair (.arr 4 (.int .u64)) (.pair (.arr 4 (.int .u64)) (.pair (.arr 32 (.int .u8)) (.pair (.int .i64) (.pair (.arr 32 (.int .u8)) (.pair (.int .i64) (.pair (.int .i64) (.pair .str (.pair (.sl (.int .u8)) (.pair (.int .i64) (.pair (.sl (.arr 20 (.int .u8))) .unit))))))))))))), (183, .unit)], [], [], fnL [], noSh, [], invL [], [(2, [4])], [], [], 0, 0⟩
def St0 (x0 : Unit) (x1 : Int × List Int × List Int × List Int × Int × List Int × Int × Int × List Int × List Int × Int × List (List Int) × Unit) : St := stL 12 [(0, .data .unit x0), (1, .data (.pair (.int .i64) (.pair (.arr 4 (.int .u64)) (.pair (.arr 4 (.int .u64)) (.pair (.arr 32 (.int .u8)) (.pair (.int .i64) (.pair (.arr 32 (.int .u8)) (.pair (.int .i64) (.pair (.int .i64) (.pair .str (.pair (.sl (.int .u8)) (.pair (.int .i64) (.pair (.sl (.arr 20 (.int .u8))) .unit)))))))))))) x1)] []
def St1 (c4p0 : Int) (c4p1 : List Int) (c4p2 : List Int) (c4p3 : List Int) (c4p4 : Int) (c4p5 : List Int) (c4p6 : Int) (c4p7 : Int) (c4p8 : List Int) (c4p10 : Int) (c4p11 : List (List Int)) : St := stL 12 [(4, .ref 4 0 [])] [(4, .cell (.pair (.int .i64) (.pair (.arr 4 (.int .u64)) (.pair (.arr 4 (.int .u64)) (.pair (.arr 32 (.int .u8)) (.pair (.int .i64) (.pair (.arr 32 (.int .u8)) (.pair (.int .i64) (.pair (.int .i64) (.pair .str (.pair (.sl (.int .u8)) (.pair (.int .i64) (.pair (.sl (.arr 20 (.int .u8))) .unit)))))))))))) (.agg (.pair (.int .i64) (.pair (.arr 4 (.int .u64)) (.pair (.arr 4 (.int .u64)) (.pair (.arr 32 (.int .u8)) (.pair (.int .i64) (.pair (.arr 32 (.int .u8)) (.pair (.int .i64) (.pair (.int .i64) (.pair .str (.pair (.sl (.int .u8)) (.pair (.int .i64) (.pair (.sl (.arr 20 (.int .u8))) .unit)))))))))))) [.data (.int .i64) c4p0, .data (.arr 4 (.int .u64)) c4p1, .data (.arr 4 (.int .u64)) c4p2, .data (.arr 32 (.int .u8)) c4p3, .data (.int .i64) c4p4, .data (.arr 32 (.int .u8)) c4p5, .data (.int .i64) c4p6, .data (.int .i64) c4p7, .data .str c4p8, .full (.int .u8) [], .data (.int .i64) c4p10, .data (.sl (.arr 20 (.int .u8))) c4p11]) false)]
def top {α : Type} (Rt : Int → (List Int) → (List Int) → (List Int) → Int → (List Int) → Int → Int → (List Int) → Int → (List (List Int)) → Option α) (x0 : Unit) (x1 : Int × List Int × List Int × List Int × Int × List Int × Int × Int × List Int × List Int × Int × List (List Int) × Unit) : Option α :=
  Rt x1.1 [0, 0, 0, 0] [0, 0, 0, 0] (List.replicate 32 0) 0 (List.replicate 32 0) 0 0 [] x1.2.2.2.2.2.2.2.2.2.2.1 x1.2.2.2.2.2.2.2.2.2.2.2.1
theorem top_eq {α : Type} (k : Nat) (Q : Ex → St → Option α) (x0 : Unit) (x1 : Int × List Int × List Int × List Int × Int × List Int × Int × Int × List Int × List Int × Int × List (List Int) × Unit) :
    (den C k) (cB Try.f152) Q (St0 x0 x1) = top (fun (c4p0 : Int) (c4p1 : List Int) (c4p2 : List Int) (c4p3 : List Int) (c4p4 : Int) (c4p5 : List Int) (c4p6 : Int) (c4p7 : Int) (c4p8 : List Int) (c4p10 : Int) (c4p11 : List (List Int)) => Q .ret (St1 c4p0 c4p1 c4p2 c4p3 c4p4 c4p5 c4p6 c4p7 c4p8 c4p10 c4p11)) x0 x1 := by
  have h : ∀ (D L : DT α), denJ D L Js C (cB Try.f152) Q (St0 x0 x1) =
        Q .ret (St1 x1.1 [0, 0, 0, 0] [0, 0, 0, 0] (List.replicate 32 0) 0 (List.replicate 32 0) 0 0 [] x1.2.2.2.2.2.2.2.2.2.2.1 x1.2.2.2.2.2.2.2.2.2.2.2.1) := by
    intro D L; kernel_rfl
  refine (show (den C k) (cB Try.f152) Q (St0 x0 x1) = denJ (den C k) (lp C k) Js C (cB Try.f152) Q (St0 x0 x1) from (denJ_den _ _ _ _ _ _).symm).trans ((h (den C k) (lp C k)).trans ?_)
  first | rfl | kernel_rfl
def run (x0 : Unit) (x1 : Int × List Int × List Int × List Int × Int × List Int × Int × Int × List Int × List Int × Int × List (List Int) × Unit) : Option (Int × List Int × List Int × List Int × Int × List Int × Int × Int × List Int × List Int × Int × List (List Int) × Unit) := top (α := Int × List Int × List Int × List Int × Int × List Int × Int × Int × List Int × List Int × Int × List (List Int) × Unit) (fun (c4p0 : Int) (c4p1 : List Int) (c4p2 : List Int) (c4p3 : List Int) (c4p4 : Int) (c4p5 : List Int) (c4p6 : Int) (c4p7 : Int) (c4p8 : List Int) (c4p10 : Int) (c4p11 : List (List Int)) => some (c4p0, c4p1, c4p2, c4p3, c4p4, c4p5, c4p6, c4p7, c4p8, [], c4p10, c4p11, ())) x0 x1
def F : Fn := ⟨(.pair .unit (.pair (.pair (.int .i64) (.pair (.arr 4 (.int .u64)) (.pair (.arr 4 (.int .u64)) (.pair (.arr 32 (.int .u8)) (.pair (.int .i64) (.pair (.arr 32 (.int .u8)) (.pair (.int .i64) (.pair (.int .i64) (.pair .str (.pair (.sl (.int .u8)) (.pair (.int .i64) (.pair (.sl (.arr 20 (.int .u8))) .unit)))))))))))) .unit)), (.pair (.int .i64) (.pair (.arr 4 (.int .u64)) (.pair (.arr 4 (.int .u64)) (.pair (.arr 32 (.int .u8)) (.pair (.int .i64) (.pair (.arr 32 (.int .u8)) (.pair (.int .i64) (.pair (.int .i64) (.pair .str (.pair (.sl (.int .u8)) (.pair (.int .i64) (.pair (.sl (.arr 20 (.int .u8))) .unit)))))))))))), false, fun x => run x.1 x.2.1⟩
set_option maxRecDepth 100000 in
theorem con : Con Try.prog 152 F := by
  refine con_of_den (C := C) (ctx_ok (by kernel_rfl) (by kernel_rfl) (by kernel_rfl) (by kernel_rfl) trivial) (by kernel_rfl) Try.func152 (c := cB Try.f152) (by kernel_rfl) (by kernel_rfl) F fuel (fun x => by simp [F, spread, Try.ntmps152]) ?_
  intro x r h
  rw [← h]
  have h1 : start F Try.f152.ntmps x = (St0 x.1 x.2.1) := by kernel_rfl
  rw [h1]
  refine (top_eq fuel (fin C Try.f152.results.toList F.rs F.multi) x.1 x.2.1).trans ?_
  kernel_rfl
theorem named : Named Try.prog 152 := named_of Try.func152 (by kernel_rfl) (by kernel_rfl)
end Go.Bx.load_turn__bare
namespace Go.Bx.load_turn__check
open Go Go.Proofs Go.Bx
set_option maxRecDepth 100000
set_option linter.unusedVariables false
def Js : List Nat := []
def C : Ctx := ⟨[(3, (.int .i64)), (4, .bool), (26, (.sl (.arr 20 (.int .u8)))), (71, (.pair (.int .i64) (.pair (.arr 4 (.int .u64)) (.pair (.arr 4 (.int .u64)) (.pair (.arr 32 (.int .u8)) (.pair (.int .i64) (.pair (.arr 32 (.int .u8)) (.pair (.int .i64) (.pair (.int .i64) (.pair .str (.pair (.sl (.int .u8)) (.pair (.int .i64) (.pair (.sl (.arr 20 (.int .u8))) .unit))))))))))))), (183, .unit)], [], [], fnL [(143, Go.Bx.load_small.F)], noSh, [], invL [], [(2, [4])], [], [], 0, 0⟩
def St0 (x0 : Unit) (x1 : Int × List Int × List Int × List Int × Int × List Int × Int × Int × List Int × List Int × Int × List (List Int) × Unit) : St := stL 20 [(0, .data .unit x0), (1, .data (.pair (.int .i64) (.pair (.arr 4 (.int .u64)) (.pair (.arr 4 (.int .u64)) (.pair (.arr 32 (.int .u8)) (.pair (.int .i64) (.pair (.arr 32 (.int .u8)) (.pair (.int .i64) (.pair (.int .i64) (.pair .str (.pair (.sl (.int .u8)) (.pair (.int .i64) (.pair (.sl (.arr 20 (.int .u8))) .unit)))))))))))) x1)] []
def St1 (x4 : Bool) : St := stL 20 [(4, .data .bool x4)] []
def top {α : Type} (Rt : Bool → Option α) (x0 : Unit) (x1 : Int × List Int × List Int × List Int × Int × List Int × Int × Int × List Int × List Int × Int × List (List Int) × Unit) : Option α :=
  (Go.Bx.load_small.run x1.2.2.2.2.2.2.2.2.2.2.1 4294967295).bind fun y1 =>
  Rt (cond (cond y1 (decide ((x1.2.2.2.2.2.2.2.2.2.2.2.1.length : Int) ≥ 1)) false) (decide ((x1.2.2.2.2.2.2.2.2.2.2.2.1.length : Int) ≤ 19)) false)
theorem top_eq {α : Type} (k : Nat) (Q : Ex → St → Option α) (x0 : Unit) (x1 : Int × List Int × List Int × List Int × Int × List Int × Int × Int × List Int × List Int × Int × List (List Int) × Unit) :
    (den C k) (cB Try.f153) Q (St0 x0 x1) = top (fun (x4 : Bool) => Q .ret (St1 x4)) x0 x1 := by
  have h : ∀ (D L : DT α), denJ D L Js C (cB Try.f153) Q (St0 x0 x1) =
        (Go.Bx.load_small.run x1.2.2.2.2.2.2.2.2.2.2.1 4294967295).bind fun y1 =>
        Q .ret (St1 (cond (cond y1 (decide ((x1.2.2.2.2.2.2.2.2.2.2.2.1.length : Int) ≥ 1)) false) (decide ((x1.2.2.2.2.2.2.2.2.2.2.2.1.length : Int) ≤ 19)) false)) := by
    intro D L; kernel_rfl
  refine (show (den C k) (cB Try.f153) Q (St0 x0 x1) = denJ (den C k) (lp C k) Js C (cB Try.f153) Q (St0 x0 x1) from (denJ_den _ _ _ _ _ _).symm).trans ((h (den C k) (lp C k)).trans ?_)
  first | rfl | kernel_rfl
def run (x0 : Unit) (x1 : Int × List Int × List Int × List Int × Int × List Int × Int × Int × List Int × List Int × Int × List (List Int) × Unit) : Option (Bool) := top (α := Bool) (fun (x4 : Bool) => some x4) x0 x1
def F : Fn := ⟨(.pair .unit (.pair (.pair (.int .i64) (.pair (.arr 4 (.int .u64)) (.pair (.arr 4 (.int .u64)) (.pair (.arr 32 (.int .u8)) (.pair (.int .i64) (.pair (.arr 32 (.int .u8)) (.pair (.int .i64) (.pair (.int .i64) (.pair .str (.pair (.sl (.int .u8)) (.pair (.int .i64) (.pair (.sl (.arr 20 (.int .u8))) .unit)))))))))))) .unit)), .bool, false, fun x => run x.1 x.2.1⟩
set_option maxRecDepth 100000 in
theorem con : Con Try.prog 153 F := by
  refine con_of_den (C := C) (ctx_ok (by kernel_rfl) (by kernel_rfl) (by kernel_rfl) (by kernel_rfl) ⟨.inl ⟨Go.Bx.load_small.con, Go.Bx.load_small.named⟩, trivial⟩) (by kernel_rfl) Try.func153 (c := cB Try.f153) (by kernel_rfl) (by kernel_rfl) F fuel (fun x => by simp [F, spread, Try.ntmps153]) ?_
  intro x r h
  rw [← h]
  have h1 : start F Try.f153.ntmps x = (St0 x.1 x.2.1) := by kernel_rfl
  rw [h1]
  refine (top_eq fuel (fin C Try.f153.results.toList F.rs F.multi) x.1 x.2.1).trans ?_
  kernel_rfl
theorem named : Named Try.prog 153 := named_of Try.func153 (by kernel_rfl) (by kernel_rfl)
end Go.Bx.load_turn__check
namespace Go.Bx.load_kindOf_s0
open Go Go.Proofs Go.Bx
set_option maxRecDepth 100000
set_option linter.unusedVariables false
def Js : List Nat := [5]
def C : Ctx := ⟨[(180, (.pair .bool .unit)), (182, .unit), (183, .unit)], [], [], fnL [], noSh, [], invL [], [(2, [2, 3]), (1, []), (20, [0, 4, 5])], [], [], 0, 0⟩
def St0 (x0 : Int) : St := stL 20 [(0, .data (.int .i64) x0)] []
def St1 (x0 : Int) (x4 : Int) (x5 : Bool) : St := stL 20 [(0, .data (.int .i64) x0), (4, .data (.int .i64) x4), (5, .data .bool x5)] []
noncomputable def cd0 : Code := cR (cR (cB Try.f74))
noncomputable def cd1 : Code := cR (cL (cR (cL (cR (cB Try.f74)))))
def St2 (x2y : Bool × Unit) (x3 : Bool) : St := stL 20 [(2, .ifc 180 (.data (.pair .bool .unit) x2y)), (3, .data .bool x3)] []
def St3 (x2y : Unit) (x3 : Bool) : St := stL 20 [(2, .ifc 182 (.data .unit x2y)), (3, .data .bool x3)] []
def St4 (x2y : Unit) (x3 : Bool) : St := stL 20 [(2, .ifc 183 (.data .unit x2y)), (3, .data .bool x3)] []
def St5 (x3 : Bool) : St := stL 20 [(3, .data .bool x3)] []
def j0 {α : Type} (Rt0 : (Bool × Unit) → Bool → Option α) (Rt1 : Unit → Bool → Option α) (Rt2 : Unit → Bool → Option α) (Rt3 : Bool → Option α) (x0 : Int) (x4 : Int) (x5 : Bool) : Option α :=
  if x5 = true then
    Rt0 ((x0 == 3), ()) true
  else
    if (x4 == 2) = true then
      Rt1 () true
    else
      if (x4 == 4) = true then
        Rt2 () true
      else
        Rt3 false
theorem j0_eq {α : Type} (k : Nat) (Q : Ex → St → Option α) (x0 : Int) (x4 : Int) (x5 : Bool) :
    (den C k) cd1 (blkQ C 0 (sq (den C k) (lp C k) Js C cd0 (endQ C Q))) (St1 x0 x4 x5) = j0 (fun (x2y : Bool × Unit) (x3 : Bool) => Q .ret (St2 x2y x3)) (fun (x2y : Unit) (x3 : Bool) => Q .ret (St3 x2y x3)) (fun (x2y : Unit) (x3 : Bool) => Q .ret (St4 x2y x3)) (fun (x3 : Bool) => Q .ret (St5 x3)) x0 x4 x5 := by
  have h : ∀ (D L : DT α), denJ D L Js C cd1 (blkQ C 0 (sq D L Js C cd0 (endQ C Q))) (St1 x0 x4 x5) =
        if x5 = true then
          Q .ret (St2 ((x0 == 3), ()) true)
        else
          if (x4 == 2) = true then
            Q .ret (St3 () true)
          else
            if (x4 == 4) = true then
              Q .ret (St4 () true)
            else
              Q .ret (St5 false) := by
    intro D L; kernel_rfl
  refine (show (den C k) cd1 (blkQ C 0 (sq (den C k) (lp C k) Js C cd0 (endQ C Q))) (St1 x0 x4 x5) = denJ (den C k) (lp C k) Js C cd1 (blkQ C 0 (sq (den C k) (lp C k) Js C cd0 (endQ C Q))) (St1 x0 x4 x5) from (denJ_den _ _ _ _ _ _).symm).trans ((h (den C k) (lp C k)).trans ?_)
  first | rfl | kernel_rfl
def top {α : Type} (Rt0 : (Bool × Unit) → Bool → Option α) (Rt1 : Unit → Bool → Option α) (Rt2 : Unit → Bool → Option α) (Rt3 : Bool → Option α) (x0 : Int) : Option α :=
  if (x0 == 1) = true then
    j0 Rt0 Rt1 Rt2 Rt3 x0 x0 (x0 == 1)
  else
    j0 Rt0 Rt1 Rt2 Rt3 x0 x0 (x0 == 3)
theorem top_eq {α : Type} (k : Nat) (Q : Ex → St → Option α) (x0 : Int) :
    (den C k) (cB Try.f74) (endQ C Q) (St0 x0) = top (fun (x2y : Bool × Unit) (x3 : Bool) => Q .ret (St2 x2y x3)) (fun (x2y : Unit) (x3 : Bool) => Q .ret (St3 x2y x3)) (fun (x2y : Unit) (x3 : Bool) => Q .ret (St4 x2y x3)) (fun (x3 : Bool) => Q .ret (St5 x3)) x0 := by
  have h : ∀ (D L : DT α), denJ D L Js C (cB Try.f74) (endQ C Q) (St0 x0) =
        if (x0 == 1) = true then
          D cd1 (blkQ C 0 (sq D L Js C cd0 (endQ C Q))) (St1 x0 x0 (x0 == 1))
        else
          D cd1 (blkQ C 0 (sq D L Js C cd0 (endQ C Q))) (St1 x0 x0 (x0 == 3)) := by
    intro D L; kernel_rfl
  refine (show (den C k) (cB Try.f74) (endQ C Q) (St0 x0) = denJ (den C k) (lp C k) Js C (cB Try.f74) (endQ C Q) (St0 x0) from (denJ_den _ _ _ _ _ _).symm).trans ((h (den C k) (lp C k)).trans ?_)
  simp only [j0_eq]
  first | rfl | kernel_rfl
def run (x0 : Int) : Option (((Bool × Unit) × Bool × Unit) ⊕ ((Unit × Bool × Unit) ⊕ ((Unit × Bool × Unit) ⊕ ((Bool × Unit) ⊕ (Empty))))) := top (α := ((Bool × Unit) × Bool × Unit) ⊕ ((Unit × Bool × Unit) ⊕ ((Unit × Bool × Unit) ⊕ ((Bool × Unit) ⊕ (Empty))))) (fun (x2y : Bool × Unit) (x3 : Bool) => some (.inl (x2y, x3, ()))) (fun (x2y : Unit) (x3 : Bool) => some (.inr (.inl (x2y, x3, ())))) (fun (x2y : Unit) (x3 : Bool) => some (.inr (.inr (.inl (x2y, x3, ()))))) (fun (x3 : Bool) => some (.inr (.inr (.inr (.inl (x3, ())))))) x0
def Sp : SpecA := ⟨[hD (.int .i64)], [], (.pair (.int .i64) .unit), [⟨.tup [.ifc 180 (hD (.pair .bool .unit)), hD .bool], [], (.pair (.pair .bool .unit) (.pair .bool .unit))⟩, ⟨.tup [.ifc 182 (hD .unit), hD .bool], [], (.pair .unit (.pair .bool .unit))⟩, ⟨.tup [.ifc 183 (hD .unit), hD .bool], [], (.pair .unit (.pair .bool .unit))⟩, ⟨.tup [.any, hD .bool], [], (.pair .bool .unit)⟩], fun x => run x.1⟩
set_option maxRecDepth 100000 in
theorem sok : SOk Try.prog 74 Sp.h := by
  refine sok_of_denA (C := C) (ctx_ok (by kernel_rfl) (by kernel_rfl) (by kernel_rfl) (by kernel_rfl) trivial) (by kernel_rfl) Try.func74 (c := cB Try.f74) (by kernel_rfl) (by kernel_rfl) Sp fuel (by kernel_rfl) (by kernel_rfl) ?_
  intro x r h
  rw [← h]
  have h1 : Sp.start x Try.f74.ntmps = (St0 x.1) := by kernel_rfl
  rw [h1]
  refine (top_eq fuel (finS C Try.f74.results.toList Sp.read) x.1).trans ?_
  kernel_rfl
theorem named : Named Try.prog 74 := named_of Try.func74 (by kernel_rfl) (by kernel_rfl)
end Go.Bx.load_kindOf_s0
namespace Go.Bx.load_Check
open Go Go.Proofs Go.Bx
set_option maxRecDepth 100000
set_option linter.unusedVariables false
def Js : List Nat := []
def C : Ctx := ⟨[(3, (.int .i64)), (23, (.int .i64)), (71, (.pair (.int .i64) (.pair (.arr 4 (.int .u64)) (.pair (.arr 4 (.int .u64)) (.pair (.arr 32 (.int .u8)) (.pair (.int .i64) (.pair (.arr 32 (.int .u8)) (.pair (.int .i64) (.pair (.int .i64) (.pair .str (.pair (.sl (.int .u8)) (.pair (.int .i64) (.pair (.sl (.arr 20 (.int .u8))) .unit)))))))))))))], [], [], fnL [(75, Go.Bx.load_same.F), (139, Go.Bx.load_transfer__bare.F), (140, Go.Bx.load_transfer__check.F), (148, Go.Bx.load_meta__bare.F), (149, Go.Bx.load_meta__check.F), (152, Go.Bx.load_turn__bare.F), (153, Go.Bx.load_turn__check.F)], shL [(74, [.alt Go.Bx.load_kindOf_s0.Sp])], [(8, 26)], invL [(180, [("bascule/load.bare", 139), ("bascule/load.check", 140)]), (182, [("bascule/load.bare", 148), ("bascule/load.check", 149)]), (183, [("bascule/load.bare", 152), ("bascule/load.check", 153)])], [(2, [2])], [], [], 0, 0⟩
def St0 (x0 : Int × List Int × List Int × List Int × Int × List Int × Int × Int × List Int × List Int × Int × List (List Int) × Unit) : St := stL 25 [(0, .data (.pair (.int .i64) (.pair (.arr 4 (.int .u64)) (.pair (.arr 4 (.int .u64)) (.pair (.arr 32 (.int .u8)) (.pair (.int .i64) (.pair (.arr 32 (.int .u8)) (.pair (.int .i64) (.pair (.int .i64) (.pair .str (.pair (.sl (.int .u8)) (.pair (.int .i64) (.pair (.sl (.arr 20 (.int .u8))) .unit)))))))))))) x0)] []
def St1 (x2 : Int) : St := stL 25 [(2, .data (.int .i64) x2)] []
def top {α : Type} (Rt : Int → Option α) (x0 : Int × List Int × List Int × List Int × Int × List Int × Int × Int × List Int × List Int × Int × List (List Int) × Unit) : Option α :=
  (Go.Bx.load_kindOf_s0.run x0.1).bind fun y1 => (Sum.elim (fun y2 =>
    if (not y2.2.1) = true then
      Rt 2
    else
      (Go.Bx.load_transfer__check.run y2.1 x0).bind fun y6 =>
      (if ((not y6) == false) = true then Go.Bx.load_transfer__bare.run y2.1 x0 else some (0, [0, 0, 0, 0], [0, 0, 0, 0], (List.replicate 32 0), 0, (List.replicate 32 0), 0, 0, [], [], 0, [], ())).bind fun y7 =>
      (if ((not y6) == false) = true then Go.Bx.load_same.run x0 y7 else some false).bind fun y8 =>
      if (cond (not y6) true (not y8)) = true then
        Rt 3
      else
        Rt 0) (Sum.elim (fun y3 =>
    if (not y3.2.1) = true then
      Rt 2
    else
      (Go.Bx.load_meta__check.run y3.1 x0).bind fun y9 =>
      (if ((not y9) == false) = true then Go.Bx.load_meta__bare.run y3.1 x0 else some (0, [0, 0, 0, 0], [0, 0, 0, 0], (List.replicate 32 0), 0, (List.replicate 32 0), 0, 0, [], [], 0, [], ())).bind fun y10 =>
      (if ((not y9) == false) = true then Go.Bx.load_same.run x0 y10 else some false).bind fun y11 =>
      if (cond (not y9) true (not y11)) = true then
        Rt 3
      else
        Rt 0) (Sum.elim (fun y4 =>
    if (not y4.2.1) = true then
      Rt 2
    else
      (Go.Bx.load_turn__check.run y4.1 x0).bind fun y12 =>
      (if ((not y12) == false) = true then Go.Bx.load_turn__bare.run y4.1 x0 else some (0, [0, 0, 0, 0], [0, 0, 0, 0], (List.replicate 32 0), 0, (List.replicate 32 0), 0, 0, [], [], 0, [], ())).bind fun y13 =>
      (if ((not y12) == false) = true then Go.Bx.load_same.run x0 y13 else some false).bind fun y14 =>
      if (cond (not y12) true (not y14)) = true then
        Rt 3
      else
        Rt 0) (Sum.elim (fun y5 =>
    if (not y5.1) = true then
      Rt 2
    else
      none) (fun (e : Empty) => e.elim))))) y1
theorem top_eq {α : Type} (k : Nat) (Q : Ex → St → Option α) (x0 : Int × List Int × List Int × List Int × Int × List Int × Int × Int × List Int × List Int × Int × List (List Int) × Unit) :
    (den C k) (cB Try.f41) Q (St0 x0) = top (fun (x2 : Int) => Q .ret (St1 x2)) x0 := by
  have h : ∀ (D L : DT α), denJ D L Js C (cB Try.f41) Q (St0 x0) =
        (Go.Bx.load_kindOf_s0.run x0.1).bind fun y1 => (Sum.elim (fun y2 =>
          if (not y2.2.1) = true then
            Q .ret (St1 2)
          else
            (Go.Bx.load_transfer__check.run y2.1 x0).bind fun y6 =>
            (if ((not y6) == false) = true then Go.Bx.load_transfer__bare.run y2.1 x0 else some (0, [0, 0, 0, 0], [0, 0, 0, 0], (List.replicate 32 0), 0, (List.replicate 32 0), 0, 0, [], [], 0, [], ())).bind fun y7 =>
            (if ((not y6) == false) = true then Go.Bx.load_same.run x0 y7 else some false).bind fun y8 =>
            if (cond (not y6) true (not y8)) = true then
              Q .ret (St1 3)
            else
              Q .ret (St1 0)) (Sum.elim (fun y3 =>
          if (not y3.2.1) = true then
            Q .ret (St1 2)
          else
            (Go.Bx.load_meta__check.run y3.1 x0).bind fun y9 =>
            (if ((not y9) == false) = true then Go.Bx.load_meta__bare.run y3.1 x0 else some (0, [0, 0, 0, 0], [0, 0, 0, 0], (List.replicate 32 0), 0, (List.replicate 32 0), 0, 0, [], [], 0, [], ())).bind fun y10 =>
            (if ((not y9) == false) = true then Go.Bx.load_same.run x0 y10 else some false).bind fun y11 =>
            if (cond (not y9) true (not y11)) = true then
              Q .ret (St1 3)
            else
              Q .ret (St1 0)) (Sum.elim (fun y4 =>
          if (not y4.2.1) = true then
            Q .ret (St1 2)
          else
            (Go.Bx.load_turn__check.run y4.1 x0).bind fun y12 =>
            (if ((not y12) == false) = true then Go.Bx.load_turn__bare.run y4.1 x0 else some (0, [0, 0, 0, 0], [0, 0, 0, 0], (List.replicate 32 0), 0, (List.replicate 32 0), 0, 0, [], [], 0, [], ())).bind fun y13 =>
            (if ((not y12) == false) = true then Go.Bx.load_same.run x0 y13 else some false).bind fun y14 =>
            if (cond (not y12) true (not y14)) = true then
              Q .ret (St1 3)
            else
              Q .ret (St1 0)) (Sum.elim (fun y5 =>
          if (not y5.1) = true then
            Q .ret (St1 2)
          else
            none) (fun (e : Empty) => e.elim))))) y1 := by
    intro D L; kernel_rfl
  refine (show (den C k) (cB Try.f41) Q (St0 x0) = denJ (den C k) (lp C k) Js C (cB Try.f41) Q (St0 x0) from (denJ_den _ _ _ _ _ _).symm).trans ((h (den C k) (lp C k)).trans ?_)
  first | rfl | kernel_rfl
def run (x0 : Int × List Int × List Int × List Int × Int × List Int × Int × Int × List Int × List Int × Int × List (List Int) × Unit) : Option (Int) := top (α := Int) (fun (x2 : Int) => some x2) x0
def F : Fn := ⟨(.pair (.pair (.int .i64) (.pair (.arr 4 (.int .u64)) (.pair (.arr 4 (.int .u64)) (.pair (.arr 32 (.int .u8)) (.pair (.int .i64) (.pair (.arr 32 (.int .u8)) (.pair (.int .i64) (.pair (.int .i64) (.pair .str (.pair (.sl (.int .u8)) (.pair (.int .i64) (.pair (.sl (.arr 20 (.int .u8))) .unit)))))))))))) .unit), (.int .i64), false, fun x => run x.1⟩
set_option maxRecDepth 100000 in
theorem con : Con Try.prog 41 F := by
  refine con_of_den (C := C) (ctx_ok_sh (by kernel_rfl) (by kernel_rfl) (by kernel_rfl) (by kernel_rfl) ⟨.inl ⟨Go.Bx.load_same.con, Go.Bx.load_same.named⟩, ⟨.inl ⟨Go.Bx.load_transfer__bare.con, Go.Bx.load_transfer__bare.named⟩, ⟨.inl ⟨Go.Bx.load_transfer__check.con, Go.Bx.load_transfer__check.named⟩, ⟨.inl ⟨Go.Bx.load_meta__bare.con, Go.Bx.load_meta__bare.named⟩, ⟨.inl ⟨Go.Bx.load_meta__check.con, Go.Bx.load_meta__check.named⟩, ⟨.inl ⟨Go.Bx.load_turn__bare.con, Go.Bx.load_turn__bare.named⟩, ⟨.inl ⟨Go.Bx.load_turn__check.con, Go.Bx.load_turn__check.named⟩, trivial⟩⟩⟩⟩⟩⟩⟩ ⟨⟨⟨Go.Bx.load_kindOf_s0.sok, trivial⟩, Go.Bx.load_kindOf_s0.named⟩, trivial⟩) (by kernel_rfl) Try.func41 (c := cB Try.f41) (by kernel_rfl) (by kernel_rfl) F fuel (fun x => by simp [F, spread, Try.ntmps41]) ?_
  intro x r h
  rw [← h]
  have h1 : start F Try.f41.ntmps x = (St0 x.1) := by kernel_rfl
  rw [h1]
  refine (top_eq fuel (fin C Try.f41.results.toList F.rs F.multi) x.1).trans ?_
  kernel_rfl
theorem named : Named Try.prog 41 := named_of Try.func41 (by kernel_rfl) (by kernel_rfl)
end Go.Bx.load_Check
namespace Go.Bx.basculeref_SameLoad
open Go Go.Proofs Go.Bx
set_option maxRecDepth 100000
set_option linter.unusedVariables false
def Js : List Nat := [10]
def C : Ctx := ⟨[(3, (.int .i64)), (4, .bool), (9, .str), (26, (.sl (.arr 20 (.int .u8)))), (56, (.arr 4 (.int .u64))), (59, (.sl (.int .u8))), (69, (.arr 32 (.int .u8))), (71, (.pair (.int .i64) (.pair (.arr 4 (.int .u64)) (.pair (.arr 4 (.int .u64)) (.pair (.arr 32 (.int .u8)) (.pair (.int .i64) (.pair (.arr 32 (.int .u8)) (.pair (.int .i64) (.pair (.int .i64) (.pair .str (.pair (.sl (.int .u8)) (.pair (.int .i64) (.pair (.sl (.arr 20 (.int .u8))) .unit))))))))))))), (168, (.arr 20 (.int .u8)))], [], [], fnL [], noSh, [], invL [], [(2, [4]), (1, [2, 3]), (4, [2, 3, 24, 25]), (12, [2, 3, 24, 25]), (27, [2, 3])], [], [], 0, 0⟩
def St0 (x0 : Int × List Int × List Int × List Int × Int × List Int × Int × Int × List Int × List Int × Int × List (List Int) × Unit) (x1 : Int × List Int × List Int × List Int × Int × List Int × Int × Int × List Int × List Int × Int × List (List Int) × Unit) : St := stL 108 [(0, .data (.pair (.int .i64) (.pair (.arr 4 (.int .u64)) (.pair (.arr 4 (.int .u64)) (.pair (.arr 32 (.int .u8)) (.pair (.int .i64) (.pair (.arr 32 (.int .u8)) (.pair (.int .i64) (.pair (.int .i64) (.pair .str (.pair (.sl (.int .u8)) (.pair (.int .i64) (.pair (.sl (.arr 20 (.int .u8))) .unit)))))))))))) x0), (1, .data (.pair (.int .i64) (.pair (.arr 4 (.int .u64)) (.pair (.arr 4 (.int .u64)) (.pair (.arr 32 (.int .u8)) (.pair (.int .i64) (.pair (.arr 32 (.int .u8)) (.pair (.int .i64) (.pair (.int .i64) (.pair .str (.pair (.sl (.int .u8)) (.pair (.int .i64) (.pair (.sl (.arr 20 (.int .u8))) .unit)))))))))))) x1)] []
def St1 (x4 : Bool) : St := stL 108 [(4, .data .bool x4)] []
def St2 (x24 : Int) (x25 : Int) (c2 : Int × List Int × List Int × List Int × Int × List Int × Int × Int × List Int × List Int × Int × List (List Int) × Unit) (c3 : Int × List Int × List Int × List Int × Int × List Int × Int × Int × List Int × List Int × Int × List (List Int) × Unit) : St := stL 108 [(2, .ref 2 0 []), (3, .ref 3 0 []), (24, .data (.int .i64) x24), (25, .data (.int .i64) x25)] [(2, .cell (.pair (.int .i64) (.pair (.arr 4 (.int .u64)) (.pair (.arr 4 (.int .u64)) (.pair (.arr 32 (.int .u8)) (.pair (.int .i64) (.pair (.arr 32 (.int .u8)) (.pair (.int .i64) (.pair (.int .i64) (.pair .str (.pair (.sl (.int .u8)) (.pair (.int .i64) (.pair (.sl (.arr 20 (.int .u8))) .unit)))))))))))) (.data (.pair (.int .i64) (.pair (.arr 4 (.int .u64)) (.pair (.arr 4 (.int .u64)) (.pair (.arr 32 (.int .u8)) (.pair (.int .i64) (.pair (.arr 32 (.int .u8)) (.pair (.int .i64) (.pair (.int .i64) (.pair .str (.pair (.sl (.int .u8)) (.pair (.int .i64) (.pair (.sl (.arr 20 (.int .u8))) .unit)))))))))))) c2) false), (3, .cell (.pair (.int .i64) (.pair (.arr 4 (.int .u64)) (.pair (.arr 4 (.int .u64)) (.pair (.arr 32 (.int .u8)) (.pair (.int .i64) (.pair (.arr 32 (.int .u8)) (.pair (.int .i64) (.pair (.int .i64) (.pair .str (.pair (.sl (.int .u8)) (.pair (.int .i64) (.pair (.sl (.arr 20 (.int .u8))) .unit)))))))))))) (.data (.pair (.int .i64) (.pair (.arr 4 (.int .u64)) (.pair (.arr 4 (.int .u64)) (.pair (.arr 32 (.int .u8)) (.pair (.int .i64) (.pair (.arr 32 (.int .u8)) (.pair (.int .i64) (.pair (.int .i64) (.pair .str (.pair (.sl (.int .u8)) (.pair (.int .i64) (.pair (.sl (.arr 20 (.int .u8))) .unit)))))))))))) c3) false)]
noncomputable def cd0 : Code := cL (cL (cR (cL (cR (cR (cB Try.f55))))))
def St3 (c2 : Int × List Int × List Int × List Int × Int × List Int × Int × Int × List Int × List Int × Int × List (List Int) × Unit) (c3 : Int × List Int × List Int × List Int × Int × List Int × Int × Int × List Int × List Int × Int × List (List Int) × Unit) : St := stL 108 [(2, .ref 2 0 []), (3, .ref 3 0 [])] [(2, .cell (.pair (.int .i64) (.pair (.arr 4 (.int .u64)) (.pair (.arr 4 (.int .u64)) (.pair (.arr 32 (.int .u8)) (.pair (.int .i64) (.pair (.arr 32 (.int .u8)) (.pair (.int .i64) (.pair (.int .i64) (.pair .str (.pair (.sl (.int .u8)) (.pair (.int .i64) (.pair (.sl (.arr 20 (.int .u8))) .unit)))))))))))) (.data (.pair (.int .i64) (.pair (.arr 4 (.int .u64)) (.pair (.arr 4 (.int .u64)) (.pair (.arr 32 (.int .u8)) (.pair (.int .i64) (.pair (.arr 32 (.int .u8)) (.pair (.int .i64) (.pair (.int .i64) (.pair .str (.pair (.sl (.int .u8)) (.pair (.int .i64) (.pair (.sl (.arr 20 (.int .u8))) .unit)))))))))))) c2) false), (3, .cell (.pair (.int .i64) (.pair (.arr 4 (.int .u64)) (.pair (.arr 4 (.int .u64)) (.pair (.arr 32 (.int .u8)) (.pair (.int .i64) (.pair (.arr 32 (.int .u8)) (.pair (.int .i64) (.pair (.int .i64) (.pair .str (.pair (.sl (.int .u8)) (.pair (.int .i64) (.pair (.sl (.arr 20 (.int .u8))) .unit)))))))))))) (.data (.pair (.int .i64) (.pair (.arr 4 (.int .u64)) (.pair (.arr 4 (.int .u64)) (.pair (.arr 32 (.int .u8)) (.pair (.int .i64) (.pair (.arr 32 (.int .u8)) (.pair (.int .i64) (.pair (.int .i64) (.pair .str (.pair (.sl (.int .u8)) (.pair (.int .i64) (.pair (.sl (.arr 20 (.int .u8))) .unit)))))))))))) c3) false)]
def l0s {α : Type} (Nx : Int → Int → (Int × List Int × List Int × List Int × Int × List Int × Int × Int × List Int × List Int × Int × List (List Int) × Unit) → (Int × List Int × List Int × List Int × Int × List Int × Int × Int × List Int × List Int × Int × List (List Int) × Unit) → Option α) (Rt : Bool → Option α) (Xt0 : (Int × List Int × List Int × List Int × Int × List Int × Int × Int × List Int × List Int × Int × List (List Int) × Unit) → (Int × List Int × List Int × List Int × Int × List Int × Int × Int × List Int × List Int × Int × List (List Int) × Unit) → Option α) (x24 : Int) (x25 : Int) (c2 : Int × List Int × List Int × List Int × Int × List Int × Int × Int × List Int × List Int × Int × List (List Int) × Unit) (c3 : Int × List Int × List Int × List Int × Int × List Int × Int × Int × List Int × List Int × Int × List (List Int) × Unit) : Option α :=
  if (decide (x25 < x24)) = true then
    if 0 ≤ x25 ∧ x25 < (c2.2.2.2.2.2.2.2.2.2.2.2.1.length : Int) then
      if 0 ≤ x25 ∧ x25 < (c3.2.2.2.2.2.2.2.2.2.2.2.1.length : Int) then
        if (not (beqD (.arr 20 (.int .u8)) (List.getD c2.2.2.2.2.2.2.2.2.2.2.2.1 (Int.toNat x25) (List.replicate 20 0)) (List.getD c3.2.2.2.2.2.2.2.2.2.2.2.1 (Int.toNat x25) (List.replicate 20 0)))) = true then
          Rt false
        else
          Nx x24 (IntKind.i64.wrap (x25 + 1)) c2 c3
      else none
    else none
  else
    Xt0 c2 c3
theorem l0s_eq {α : Type} (k : Nat) (next : St → Option α) (Q : Ex → St → Option α) (x24 : Int) (x25 : Int) (c2 : Int × List Int × List Int × List Int × Int × List Int × Int × Int × List Int × List Int × Int × List (List Int) × Unit) (c3 : Int × List Int × List Int × List Int × Int × List Int × Int × Int × List Int × List Int × Int × List (List Int) × Unit) :
    rnd C k cd0 12 Q next (St2 x24 x25 c2 c3) = l0s (fun (x24 : Int) (x25 : Int) (c2 : Int × List Int × List Int × List Int × Int × List Int × Int × Int × List Int × List Int × Int × List (List Int) × Unit) (c3 : Int × List Int × List Int × List Int × Int × List Int × Int × Int × List Int × List Int × Int × List (List Int) × Unit) => next (St2 x24 x25 c2 c3)) (fun (x4 : Bool) => Q .ret (St1 x4)) (fun (c2 : Int × List Int × List Int × List Int × Int × List Int × Int × Int × List Int × List Int × Int × List (List Int) × Unit) (c3 : Int × List Int × List Int × List Int × Int × List Int × Int × Int × List Int × List Int × Int × List (List Int) × Unit) => Q (.exit 0) (St3 c2 c3)) x24 x25 c2 c3 := by
  have h : ∀ (D L : DT α), denJ D L Js C cd0 (lq C 12 next Q) (St2 x24 x25 c2 c3) =
        if (decide (x25 < x24)) = true then
          if 0 ≤ x25 ∧ x25 < (c2.2.2.2.2.2.2.2.2.2.2.2.1.length : Int) then
            if 0 ≤ x25 ∧ x25 < (c3.2.2.2.2.2.2.2.2.2.2.2.1.length : Int) then
              if (not (beqD (.arr 20 (.int .u8)) (List.getD c2.2.2.2.2.2.2.2.2.2.2.2.1 (Int.toNat x25) (List.replicate 20 0)) (List.getD c3.2.2.2.2.2.2.2.2.2.2.2.1 (Int.toNat x25) (List.replicate 20 0)))) = true then
                Q .ret (St1 false)
              else
                next (St2 x24 (IntKind.i64.wrap (x25 + 1)) c2 c3)
            else none
          else none
        else
          Q (.exit 0) (St3 c2 c3) := by
    intro D L; kernel_rfl
  refine (show rnd C k cd0 12 Q next (St2 x24 x25 c2 c3) = denJ (den C k) (lp C k) Js C cd0 (lq C 12 next Q) (St2 x24 x25 c2 c3) from (denJ_den _ _ _ _ _ _).symm).trans ((h (den C k) (lp C k)).trans ?_)
  first | rfl | kernel_rfl
def l0 {α : Type} (k : Nat) (Rt : Bool → Option α) (Xt0 : (Int × List Int × List Int × List Int × Int × List Int × Int × Int × List Int × List Int × Int × List (List Int) × Unit) → (Int × List Int × List Int × List Int × Int × List Int × Int × Int × List Int × List Int × Int × List (List Int) × Unit) → Option α) : Nat → Int → Int → (Int × List Int × List Int × List Int × Int × List Int × Int × Int × List Int × List Int × Int × List (List Int) × Unit) → (Int × List Int × List Int × List Int × Int × List Int × Int × Int × List Int × List Int × Int × List (List Int) × Unit) → Option α
  | 0, _, _, _, _ => none
  | n + 1, x24, x25, c2, c3 => l0s (l0 k Rt Xt0 n) Rt Xt0 x24 x25 c2 c3
theorem l0_eq {α : Type} (k : Nat) (Q : Ex → St → Option α) : ∀ (n : Nat) (x24 : Int) (x25 : Int) (c2 : Int × List Int × List Int × List Int × Int × List Int × Int × Int × List Int × List Int × Int × List (List Int) × Unit) (c3 : Int × List Int × List Int × List Int × Int × List Int × Int × Int × List Int × List Int × Int × List (List Int) × Unit), iter (rnd C k cd0 12 Q) n (St2 x24 x25 c2 c3) = l0 k (fun (x4 : Bool) => Q .ret (St1 x4)) (fun (c2 : Int × List Int × List Int × List Int × Int × List Int × Int × Int × List Int × List Int × Int × List (List Int) × Unit) (c3 : Int × List Int × List Int × List Int × Int × List Int × Int × Int × List Int × List Int × Int × List (List Int) × Unit) => Q (.exit 0) (St3 c2 c3)) n x24 x25 c2 c3
  | 0, _, _, _, _ => rfl
  | n + 1, x24, x25, c2, c3 => (iter_succ _ _ _).trans ((l0s_eq k (iter (rnd C k cd0 12 Q) n) Q x24 x25 c2 c3).trans (congrArg (fun N => l0s N (fun (x4 : Bool) => Q .ret (St1 x4)) (fun (c2 : Int × List Int × List Int × List Int × Int × List Int × Int × Int × List Int × List Int × Int × List (List Int) × Unit) (c3 : Int × List Int × List Int × List Int × Int × List Int × Int × Int × List Int × List Int × Int × List (List Int) × Unit) => Q (.exit 0) (St3 c2 c3)) x24 x25 c2 c3) (funext fun x24 => funext fun x25 => funext fun c2 => funext fun c3 => l0_eq k Q n x24 x25 c2 c3)))
theorem l0_congr {α : Type} (k : Nat) (Rt : Bool → Option α) (Xt0 : (Int × List Int × List Int × List Int × Int × List Int × Int × Int × List Int × List Int × Int × List (List Int) × Unit) → (Int × List Int × List Int × List Int × Int × List Int × Int × Int × List Int × List Int × Int × List (List Int) × Unit) → Option α) (Rtq : Bool → Option α) (Xt0q : (Int × List Int × List Int × List Int × Int × List Int × Int × Int × List Int × List Int × Int × List (List Int) × Unit) → (Int × List Int × List Int × List Int × Int × List Int × Int × Int × List Int × List Int × Int × List (List Int) × Unit) → Option α) (hRt : ∀ (x4 : Bool), Rt x4 = Rtq x4) (hXt0 : ∀ (c2 : Int × List Int × List Int × List Int × Int × List Int × Int × Int × List Int × List Int × Int × List (List Int) × Unit) (c3 : Int × List Int × List Int × List Int × Int × List Int × Int × Int × List Int × List Int × Int × List (List Int) × Unit), Xt0 c2 c3 = Xt0q c2 c3) (n : Nat) (x24 : Int) (x25 : Int) (c2 : Int × List Int × List Int × List Int × Int × List Int × Int × Int × List Int × List Int × Int × List (List Int) × Unit) (c3 : Int × List Int × List Int × List Int × Int × List Int × Int × Int × List Int × List Int × Int × List (List Int) × Unit) : l0 k Rt Xt0 n x24 x25 c2 c3 = l0 k Rtq Xt0q n x24 x25 c2 c3 := by
  obtain rfl : Rt = Rtq := by funext x4; exact hRt x4
  obtain rfl : Xt0 = Xt0q := by funext c2; funext c3; exact hXt0 c2 c3
  rfl
noncomputable def cd1 : Code := cR (cR (cR (cB Try.f55)))
def St4 (c2 : Int × List Int × List Int × List Int × Int × List Int × Int × Int × List Int × List Int × Int × List (List Int) × Unit) (c3 : Int × List Int × List Int × List Int × Int × List Int × Int × Int × List Int × List Int × Int × List (List Int) × Unit) : St := stL 108 [(2, .ref 2 0 []), (3, .ref 3 0 [])] [(2, .cell (.pair (.int .i64) (.pair (.arr 4 (.int .u64)) (.pair (.arr 4 (.int .u64)) (.pair (.arr 32 (.int .u8)) (.pair (.int .i64) (.pair (.arr 32 (.int .u8)) (.pair (.int .i64) (.pair (.int .i64) (.pair .str (.pair (.sl (.int .u8)) (.pair (.int .i64) (.pair (.sl (.arr 20 (.int .u8))) .unit)))))))))))) (.data (.pair (.int .i64) (.pair (.arr 4 (.int .u64)) (.pair (.arr 4 (.int .u64)) (.pair (.arr 32 (.int .u8)) (.pair (.int .i64) (.pair (.arr 32 (.int .u8)) (.pair (.int .i64) (.pair (.int .i64) (.pair .str (.pair (.sl (.int .u8)) (.pair (.int .i64) (.pair (.sl (.arr 20 (.int .u8))) .unit)))))))))))) c2) false), (3, .cell (.pair (.int .i64) (.pair (.arr 4 (.int .u64)) (.pair (.arr 4 (.int .u64)) (.pair (.arr 32 (.int .u8)) (.pair (.int .i64) (.pair (.arr 32 (.int .u8)) (.pair (.int .i64) (.pair (.int .i64) (.pair .str (.pair (.sl (.int .u8)) (.pair (.int .i64) (.pair (.sl (.arr 20 (.int .u8))) .unit)))))))))))) (.data (.pair (.int .i64) (.pair (.arr 4 (.int .u64)) (.pair (.arr 4 (.int .u64)) (.pair (.arr 32 (.int .u8)) (.pair (.int .i64) (.pair (.arr 32 (.int .u8)) (.pair (.int .i64) (.pair (.int .i64) (.pair .str (.pair (.sl (.int .u8)) (.pair (.int .i64) (.pair (.sl (.arr 20 (.int .u8))) .unit)))))))))))) c3) false)]
def j0 {α : Type} (Rt : Bool → Option α) (c2 : Int × List Int × List Int × List Int × Int × List Int × Int × Int × List Int × List Int × Int × List (List Int) × Unit) (c3 : Int × List Int × List Int × List Int × Int × List Int × Int × Int × List Int × List Int × Int × List (List Int) × Unit) : Option α :=
  Rt (cond (cond (cond (cond (cond (cond (cond (cond (cond (c2.1 == c3.1) (beqD (.arr 4 (.int .u64)) c2.2.1 c3.2.1) false) (beqD (.arr 4 (.int .u64)) c2.2.2.1 c3.2.2.1) false) (beqD (.arr 32 (.int .u8)) c2.2.2.2.1 c3.2.2.2.1) false) (c2.2.2.2.2.1 == c3.2.2.2.2.1) false) (beqD (.arr 32 (.int .u8)) c2.2.2.2.2.2.1 c3.2.2.2.2.2.1) false) (c2.2.2.2.2.2.2.1 == c3.2.2.2.2.2.2.1) false) (c2.2.2.2.2.2.2.2.1 == c3.2.2.2.2.2.2.2.1) false) (beqD .str c2.2.2.2.2.2.2.2.2.1 c3.2.2.2.2.2.2.2.2.1) false) (c2.2.2.2.2.2.2.2.2.2.2.1 == c3.2.2.2.2.2.2.2.2.2.2.1) false)
theorem j0_eq {α : Type} (k : Nat) (Q : Ex → St → Option α) (c2 : Int × List Int × List Int × List Int × Int × List Int × Int × Int × List Int × List Int × Int × List (List Int) × Unit) (c3 : Int × List Int × List Int × List Int × Int × List Int × Int × Int × List Int × List Int × Int × List (List Int) × Unit) :
    (den C k) cd1 Q (St4 c2 c3) = j0 (fun (x4 : Bool) => Q .ret (St1 x4)) c2 c3 := by
  have h : ∀ (D L : DT α), denJ D L Js C cd1 Q (St4 c2 c3) =
        Q .ret (St1 (cond (cond (cond (cond (cond (cond (cond (cond (cond (c2.1 == c3.1) (beqD (.arr 4 (.int .u64)) c2.2.1 c3.2.1) false) (beqD (.arr 4 (.int .u64)) c2.2.2.1 c3.2.2.1) false) (beqD (.arr 32 (.int .u8)) c2.2.2.2.1 c3.2.2.2.1) false) (c2.2.2.2.2.1 == c3.2.2.2.2.1) false) (beqD (.arr 32 (.int .u8)) c2.2.2.2.2.2.1 c3.2.2.2.2.2.1) false) (c2.2.2.2.2.2.2.1 == c3.2.2.2.2.2.2.1) false) (c2.2.2.2.2.2.2.2.1 == c3.2.2.2.2.2.2.2.1) false) (beqD .str c2.2.2.2.2.2.2.2.2.1 c3.2.2.2.2.2.2.2.2.1) false) (c2.2.2.2.2.2.2.2.2.2.2.1 == c3.2.2.2.2.2.2.2.2.2.2.1) false)) := by
    intro D L; kernel_rfl
  refine (show (den C k) cd1 Q (St4 c2 c3) = denJ (den C k) (lp C k) Js C cd1 Q (St4 c2 c3) from (denJ_den _ _ _ _ _ _).symm).trans ((h (den C k) (lp C k)).trans ?_)
  first | rfl | kernel_rfl
theorem a0 {α : Type} (k : Nat) (Q : Ex → St → Option α) (x24 : Int) (x25 : Int) (c2 : Int × List Int × List Int × List Int × Int × List Int × Int × Int × List Int × List Int × Int × List (List Int) × Unit) (c3 : Int × List Int × List Int × List Int × Int × List Int × Int × Int × List Int × List Int × Int × List (List Int) × Unit) :
    (lp C k) cd0 (blkQ C 0 (sq (den C k) (lp C k) Js C cd1 Q)) (St2 x24 x25 c2 c3) = l0 k (fun (x4 : Bool) => (fun (x4 : Bool) => Q .ret (St1 x4)) x4) (fun (c2 : Int × List Int × List Int × List Int × Int × List Int × Int × Int × List Int × List Int × Int × List (List Int) × Unit) (c3 : Int × List Int × List Int × List Int × Int × List Int × Int × Int × List Int × List Int × Int × List (List Int) × Unit) => j0 (fun (x4 : Bool) => Q .ret (St1 x4)) c2 c3) k x24 x25 c2 c3 :=
  (show (lp C k) cd0 (blkQ C 0 (sq (den C k) (lp C k) Js C cd1 Q)) (St2 x24 x25 c2 c3) = iter (rnd C k cd0 12 (blkQ C 0 (sq (den C k) (lp C k) Js C cd1 Q))) k (St2 x24 x25 c2 c3) by kernel_rfl).trans ((l0_eq k (blkQ C 0 (sq (den C k) (lp C k) Js C cd1 Q)) k x24 x25 c2 c3).trans (l0_congr k _ _ _ _ (fun x4 => (show (blkQ C 0 (sq (den C k) (lp C k) Js C cd1 Q)) .ret (St1 x4) = Q .ret (St1 x4) by kernel_rfl)) (fun c2 c3 => ((show (blkQ C 0 (sq (den C k) (lp C k) Js C cd1 Q)) (.exit 0) (St3 c2 c3) = (den C k) cd1 Q (St4 c2 c3) by kernel_rfl).trans (by simp only [j0_eq]))) k x24 x25 c2 c3))
def top {α : Type} (k : Nat) (Rt : Bool → Option α) (x0 : Int × List Int × List Int × List Int × Int × List Int × Int × Int × List Int × List Int × Int × List (List Int) × Unit) (x1 : Int × List Int × List Int × List Int × Int × List Int × Int × Int × List Int × List Int × Int × List (List Int) × Unit) : Option α :=
  if (cond ((x0.2.2.2.2.2.2.2.2.2.2.2.1.length : Int) != (x1.2.2.2.2.2.2.2.2.2.2.2.1.length : Int)) true (not (beqD .str x0.2.2.2.2.2.2.2.2.2.1 x1.2.2.2.2.2.2.2.2.2.1))) = true then
    Rt false
  else
    l0 k (fun (x4 : Bool) => Rt x4) (fun (c2 : Int × List Int × List Int × List Int × Int × List Int × Int × Int × List Int × List Int × Int × List (List Int) × Unit) (c3 : Int × List Int × List Int × List Int × Int × List Int × Int × Int × List Int × List Int × Int × List (List Int) × Unit) => j0 Rt c2 c3) k (x0.2.2.2.2.2.2.2.2.2.2.2.1.length : Int) 0 x0 x1
theorem top_eq {α : Type} (k : Nat) (Q : Ex → St → Option α) (x0 : Int × List Int × List Int × List Int × Int × List Int × Int × Int × List Int × List Int × Int × List (List Int) × Unit) (x1 : Int × List Int × List Int × List Int × Int × List Int × Int × Int × List Int × List Int × Int × List (List Int) × Unit) :
    (den C k) (cB Try.f55) Q (St0 x0 x1) = top k (fun (x4 : Bool) => Q .ret (St1 x4)) x0 x1 := by
  have h : ∀ (D L : DT α), denJ D L Js C (cB Try.f55) Q (St0 x0 x1) =
        if (cond ((x0.2.2.2.2.2.2.2.2.2.2.2.1.length : Int) != (x1.2.2.2.2.2.2.2.2.2.2.2.1.length : Int)) true (not (beqD .str x0.2.2.2.2.2.2.2.2.2.1 x1.2.2.2.2.2.2.2.2.2.1))) = true then
          Q .ret (St1 false)
        else
          L cd0 (blkQ C 0 (sq D L Js C cd1 Q)) (St2 (x0.2.2.2.2.2.2.2.2.2.2.2.1.length : Int) 0 x0 x1) := by
    intro D L; kernel_rfl
  refine (show (den C k) (cB Try.f55) Q (St0 x0 x1) = denJ (den C k) (lp C k) Js C (cB Try.f55) Q (St0 x0 x1) from (denJ_den _ _ _ _ _ _).symm).trans ((h (den C k) (lp C k)).trans ?_)
  simp only [a0]
  first | rfl | kernel_rfl
def run (x0 : Int × List Int × List Int × List Int × Int × List Int × Int × Int × List Int × List Int × Int × List (List Int) × Unit) (x1 : Int × List Int × List Int × List Int × Int × List Int × Int × Int × List Int × List Int × Int × List (List Int) × Unit) : Option (Bool) := top (α := Bool) fuel (fun (x4 : Bool) => some x4) x0 x1
def F : Fn := ⟨(.pair (.pair (.int .i64) (.pair (.arr 4 (.int .u64)) (.pair (.arr 4 (.int .u64)) (.pair (.arr 32 (.int .u8)) (.pair (.int .i64) (.pair (.arr 32 (.int .u8)) (.pair (.int .i64) (.pair (.int .i64) (.pair .str (.pair (.sl (.int .u8)) (.pair (.int .i64) (.pair (.sl (.arr 20 (.int .u8))) .unit)))))))))))) (.pair (.pair (.int .i64) (.pair (.arr 4 (.int .u64)) (.pair (.arr 4 (.int .u64)) (.pair (.arr 32 (.int .u8)) (.pair (.int .i64) (.pair (.arr 32 (.int .u8)) (.pair (.int .i64) (.pair (.int .i64) (.pair .str (.pair (.sl (.int .u8)) (.pair (.int .i64) (.pair (.sl (.arr 20 (.int .u8))) .unit)))))))))))) .unit)), .bool, false, fun x => run x.1 x.2.1⟩
set_option maxRecDepth 100000 in
theorem con : Con Try.prog 55 F := by
  refine con_of_den (C := C) (ctx_ok (by kernel_rfl) (by kernel_rfl) (by kernel_rfl) (by kernel_rfl) trivial) (by kernel_rfl) Try.func55 (c := cB Try.f55) (by kernel_rfl) (by kernel_rfl) F fuel (fun x => by simp [F, spread, Try.ntmps55]) ?_
  intro x r h
  rw [← h]
  have h1 : start F Try.f55.ntmps x = (St0 x.1 x.2.1) := by kernel_rfl
  rw [h1]
  refine (top_eq fuel (fin C Try.f55.results.toList F.rs F.multi) x.1 x.2.1).trans ?_
  kernel_rfl
theorem named : Named Try.prog 55 := named_of Try.func55 (by kernel_rfl) (by kernel_rfl)
end Go.Bx.basculeref_SameLoad
namespace Go.Bx.basculeref_only
open Go Go.Proofs Go.Bx
set_option maxRecDepth 100000
set_option linter.unusedVariables false
def Js : List Nat := [5]
def C : Ctx := ⟨[(3, (.int .i64)), (4, .bool), (9, .str), (26, (.sl (.arr 20 (.int .u8)))), (56, (.arr 4 (.int .u64))), (59, (.sl (.int .u8))), (69, (.arr 32 (.int .u8))), (71, (.pair (.int .i64) (.pair (.arr 4 (.int .u64)) (.pair (.arr 4 (.int .u64)) (.pair (.arr 32 (.int .u8)) (.pair (.int .i64) (.pair (.arr 32 (.int .u8)) (.pair (.int .i64) (.pair (.int .i64) (.pair .str (.pair (.sl (.int .u8)) (.pair (.int .i64) (.pair (.sl (.arr 20 (.int .u8))) .unit)))))))))))))], [], [], fnL [], noSh, [], invL [], [(2, [2, 3]), (1, [2]), (20, [1, 2, 5, 6])], [(2, [.dat false 2 [9], .dat false 2 []])], [], 0, 0⟩
def St0 (x0 : Int × List Int × List Int × List Int × Int × List Int × Int × Int × List Int × List Int × Int × List (List Int) × Unit) : St := stL 49 [(0, .data (.pair (.int .i64) (.pair (.arr 4 (.int .u64)) (.pair (.arr 4 (.int .u64)) (.pair (.arr 32 (.int .u8)) (.pair (.int .i64) (.pair (.arr 32 (.int .u8)) (.pair (.int .i64) (.pair (.int .i64) (.pair .str (.pair (.sl (.int .u8)) (.pair (.int .i64) (.pair (.sl (.arr 20 (.int .u8))) .unit)))))))))))) x0)] []
def St1 (x5 : Int) (x6 : Bool) (c1 : Int × List Int × List Int × List Int × Int × List Int × Int × Int × List Int × List Int × Int × List (List Int) × Unit) (c2p0 : Int) (c2p1 : List Int) (c2p2 : List Int) (c2p3 : List Int) (c2p4 : Int) (c2p5 : List Int) (c2p6 : Int) (c2p7 : Int) (c2p8 : List Int) (c2p10 : Int) : St := stL 49 [(1, .ref 1 0 []), (2, .ref 2 0 []), (5, .data (.int .i64) x5), (6, .data .bool x6)] [(1, .cell (.pair (.int .i64) (.pair (.arr 4 (.int .u64)) (.pair (.arr 4 (.int .u64)) (.pair (.arr 32 (.int .u8)) (.pair (.int .i64) (.pair (.arr 32 (.int .u8)) (.pair (.int .i64) (.pair (.int .i64) (.pair .str (.pair (.sl (.int .u8)) (.pair (.int .i64) (.pair (.sl (.arr 20 (.int .u8))) .unit)))))))))))) (.data (.pair (.int .i64) (.pair (.arr 4 (.int .u64)) (.pair (.arr 4 (.int .u64)) (.pair (.arr 32 (.int .u8)) (.pair (.int .i64) (.pair (.arr 32 (.int .u8)) (.pair (.int .i64) (.pair (.int .i64) (.pair .str (.pair (.sl (.int .u8)) (.pair (.int .i64) (.pair (.sl (.arr 20 (.int .u8))) .unit)))))))))))) c1) false), (2, .cell (.pair (.int .i64) (.pair (.arr 4 (.int .u64)) (.pair (.arr 4 (.int .u64)) (.pair (.arr 32 (.int .u8)) (.pair (.int .i64) (.pair (.arr 32 (.int .u8)) (.pair (.int .i64) (.pair (.int .i64) (.pair .str (.pair (.sl (.int .u8)) (.pair (.int .i64) (.pair (.sl (.arr 20 (.int .u8))) .unit)))))))))))) (.agg (.pair (.int .i64) (.pair (.arr 4 (.int .u64)) (.pair (.arr 4 (.int .u64)) (.pair (.arr 32 (.int .u8)) (.pair (.int .i64) (.pair (.arr 32 (.int .u8)) (.pair (.int .i64) (.pair (.int .i64) (.pair .str (.pair (.sl (.int .u8)) (.pair (.int .i64) (.pair (.sl (.arr 20 (.int .u8))) .unit)))))))))))) [.data (.int .i64) c2p0, .data (.arr 4 (.int .u64)) c2p1, .data (.arr 4 (.int .u64)) c2p2, .data (.arr 32 (.int .u8)) c2p3, .data (.int .i64) c2p4, .data (.arr 32 (.int .u8)) c2p5, .data (.int .i64) c2p6, .data (.int .i64) c2p7, .data .str c2p8, .full (.int .u8) [], .data (.int .i64) c2p10, .full (.arr 20 (.int .u8)) []]) false)]
noncomputable def cd0 : Code := cR (cR (cB Try.f76))
noncomputable def cd1 : Code := cR (cL (cR (cL (cR (cB Try.f76)))))
def St2 (x3 : Bool) (c2 : Int × List Int × List Int × List Int × Int × List Int × Int × Int × List Int × List Int × Int × List (List Int) × Unit) : St := stL 49 [(2, .ref 2 0 []), (3, .data .bool x3)] [(2, .cell (.pair (.int .i64) (.pair (.arr 4 (.int .u64)) (.pair (.arr 4 (.int .u64)) (.pair (.arr 32 (.int .u8)) (.pair (.int .i64) (.pair (.arr 32 (.int .u8)) (.pair (.int .i64) (.pair (.int .i64) (.pair .str (.pair (.sl (.int .u8)) (.pair (.int .i64) (.pair (.sl (.arr 20 (.int .u8))) .unit)))))))))))) (.data (.pair (.int .i64) (.pair (.arr 4 (.int .u64)) (.pair (.arr 4 (.int .u64)) (.pair (.arr 32 (.int .u8)) (.pair (.int .i64) (.pair (.arr 32 (.int .u8)) (.pair (.int .i64) (.pair (.int .i64) (.pair .str (.pair (.sl (.int .u8)) (.pair (.int .i64) (.pair (.sl (.arr 20 (.int .u8))) .unit)))))))))))) c2) false)]
def j0 {α : Type} (Rt : Bool → (Int × List Int × List Int × List Int × Int × List Int × Int × Int × List Int × List Int × Int × List (List Int) × Unit) → Option α) (x5 : Int) (x6 : Bool) (c1 : Int × List Int × List Int × List Int × Int × List Int × Int × Int × List Int × List Int × Int × List (List Int) × Unit) (c2p0 : Int) (c2p1 : List Int) (c2p2 : List Int) (c2p3 : List Int) (c2p4 : Int) (c2p5 : List Int) (c2p6 : Int) (c2p7 : Int) (c2p8 : List Int) (c2p10 : Int) : Option α :=
  if x6 = true then
    Rt true (c1.1, c1.2.1, c1.2.2.1, c1.2.2.2.1, c1.2.2.2.2.1, c1.2.2.2.2.2.1, c1.2.2.2.2.2.2.1, 0, [], c1.2.2.2.2.2.2.2.2.2.1, 0, [], ())
  else
    if (x5 == 2) = true then
      Rt true (c1.1, [0, 0, 0, 0], [0, 0, 0, 0], c1.2.2.2.1, c1.2.2.2.2.1, (List.replicate 32 0), 0, c1.2.2.2.2.2.2.2.1, c1.2.2.2.2.2.2.2.2.1, [], 0, [], ())
    else
      if (x5 == 4) = true then
        Rt true (c1.1, [0, 0, 0, 0], [0, 0, 0, 0], (List.replicate 32 0), 0, (List.replicate 32 0), 0, 0, [], [], c1.2.2.2.2.2.2.2.2.2.2.1, c1.2.2.2.2.2.2.2.2.2.2.2.1, ())
      else
        Rt false (0, [0, 0, 0, 0], [0, 0, 0, 0], (List.replicate 32 0), 0, (List.replicate 32 0), 0, 0, [], [], 0, [], ())
theorem j0_eq {α : Type} (k : Nat) (Q : Ex → St → Option α) (x5 : Int) (x6 : Bool) (c1 : Int × List Int × List Int × List Int × Int × List Int × Int × Int × List Int × List Int × Int × List (List Int) × Unit) (c2p0 : Int) (c2p1 : List Int) (c2p2 : List Int) (c2p3 : List Int) (c2p4 : Int) (c2p5 : List Int) (c2p6 : Int) (c2p7 : Int) (c2p8 : List Int) (c2p10 : Int) :
    (den C k) cd1 (blkQ C 0 (sq (den C k) (lp C k) Js C cd0 Q)) (St1 x5 x6 c1 c2p0 c2p1 c2p2 c2p3 c2p4 c2p5 c2p6 c2p7 c2p8 c2p10) = j0 (fun (x3 : Bool) (c2 : Int × List Int × List Int × List Int × Int × List Int × Int × Int × List Int × List Int × Int × List (List Int) × Unit) => Q .ret (St2 x3 c2)) x5 x6 c1 c2p0 c2p1 c2p2 c2p3 c2p4 c2p5 c2p6 c2p7 c2p8 c2p10 := by
  have h : ∀ (D L : DT α), denJ D L Js C cd1 (blkQ C 0 (sq D L Js C cd0 Q)) (St1 x5 x6 c1 c2p0 c2p1 c2p2 c2p3 c2p4 c2p5 c2p6 c2p7 c2p8 c2p10) =
        if x6 = true then
          Q .ret (St2 true (c1.1, c1.2.1, c1.2.2.1, c1.2.2.2.1, c1.2.2.2.2.1, c1.2.2.2.2.2.1, c1.2.2.2.2.2.2.1, 0, [], c1.2.2.2.2.2.2.2.2.2.1, 0, [], ()))
        else
          if (x5 == 2) = true then
            Q .ret (St2 true (c1.1, [0, 0, 0, 0], [0, 0, 0, 0], c1.2.2.2.1, c1.2.2.2.2.1, (List.replicate 32 0), 0, c1.2.2.2.2.2.2.2.1, c1.2.2.2.2.2.2.2.2.1, [], 0, [], ()))
          else
            if (x5 == 4) = true then
              Q .ret (St2 true (c1.1, [0, 0, 0, 0], [0, 0, 0, 0], (List.replicate 32 0), 0, (List.replicate 32 0), 0, 0, [], [], c1.2.2.2.2.2.2.2.2.2.2.1, c1.2.2.2.2.2.2.2.2.2.2.2.1, ()))
            else
              Q .ret (St2 false (0, [0, 0, 0, 0], [0, 0, 0, 0], (List.replicate 32 0), 0, (List.replicate 32 0), 0, 0, [], [], 0, [], ())) := by
    intro D L; kernel_rfl
  refine (show (den C k) cd1 (blkQ C 0 (sq (den C k) (lp C k) Js C cd0 Q)) (St1 x5 x6 c1 c2p0 c2p1 c2p2 c2p3 c2p4 c2p5 c2p6 c2p7 c2p8 c2p10) = denJ (den C k) (lp C k) Js C cd1 (blkQ C 0 (sq (den C k) (lp C k) Js C cd0 Q)) (St1 x5 x6 c1 c2p0 c2p1 c2p2 c2p3 c2p4 c2p5 c2p6 c2p7 c2p8 c2p10) from (denJ_den _ _ _ _ _ _).symm).trans ((h (den C k) (lp C k)).trans ?_)
  first | rfl | kernel_rfl
def top {α : Type} (Rt : Bool → (Int × List Int × List Int × List Int × Int × List Int × Int × Int × List Int × List Int × Int × List (List Int) × Unit) → Option α) (x0 : Int × List Int × List Int × List Int × Int × List Int × Int × Int × List Int × List Int × Int × List (List Int) × Unit) : Option α :=
  if (x0.1 == 1) = true then
    j0 Rt x0.1 (x0.1 == 1) x0 0 [0, 0, 0, 0] [0, 0, 0, 0] (List.replicate 32 0) 0 (List.replicate 32 0) 0 0 [] 0
  else
    j0 Rt x0.1 (x0.1 == 3) x0 0 [0, 0, 0, 0] [0, 0, 0, 0] (List.replicate 32 0) 0 (List.replicate 32 0) 0 0 [] 0
theorem top_eq {α : Type} (k : Nat) (Q : Ex → St → Option α) (x0 : Int × List Int × List Int × List Int × Int × List Int × Int × Int × List Int × List Int × Int × List (List Int) × Unit) :
    (den C k) (cB Try.f76) Q (St0 x0) = top (fun (x3 : Bool) (c2 : Int × List Int × List Int × List Int × Int × List Int × Int × Int × List Int × List Int × Int × List (List Int) × Unit) => Q .ret (St2 x3 c2)) x0 := by
  have h : ∀ (D L : DT α), denJ D L Js C (cB Try.f76) Q (St0 x0) =
        if (x0.1 == 1) = true then
          D cd1 (blkQ C 0 (sq D L Js C cd0 Q)) (St1 x0.1 (x0.1 == 1) x0 0 [0, 0, 0, 0] [0, 0, 0, 0] (List.replicate 32 0) 0 (List.replicate 32 0) 0 0 [] 0)
        else
          D cd1 (blkQ C 0 (sq D L Js C cd0 Q)) (St1 x0.1 (x0.1 == 3) x0 0 [0, 0, 0, 0] [0, 0, 0, 0] (List.replicate 32 0) 0 (List.replicate 32 0) 0 0 [] 0) := by
    intro D L; kernel_rfl
  refine (show (den C k) (cB Try.f76) Q (St0 x0) = denJ (den C k) (lp C k) Js C (cB Try.f76) Q (St0 x0) from (denJ_den _ _ _ _ _ _).symm).trans ((h (den C k) (lp C k)).trans ?_)
  simp only [j0_eq]
  first | rfl | kernel_rfl
def run (x0 : Int × List Int × List Int × List Int × Int × List Int × Int × Int × List Int × List Int × Int × List (List Int) × Unit) : Option ((Int × List Int × List Int × List Int × Int × List Int × Int × Int × List Int × List Int × Int × List (List Int) × Unit) × Bool × Unit) := top (α := (Int × List Int × List Int × List Int × Int × List Int × Int × Int × List Int × List Int × Int × List (List Int) × Unit) × Bool × Unit) (fun (x3 : Bool) (c2 : Int × List Int × List Int × List Int × Int × List Int × Int × Int × List Int × List Int × Int × List (List Int) × Unit) => some (c2, x3, ())) x0
def F : Fn := ⟨(.pair (.pair (.int .i64) (.pair (.arr 4 (.int .u64)) (.pair (.arr 4 (.int .u64)) (.pair (.arr 32 (.int .u8)) (.pair (.int .i64) (.pair (.arr 32 (.int .u8)) (.pair (.int .i64) (.pair (.int .i64) (.pair .str (.pair (.sl (.int .u8)) (.pair (.int .i64) (.pair (.sl (.arr 20 (.int .u8))) .unit)))))))))))) .unit), (.pair (.pair (.int .i64) (.pair (.arr 4 (.int .u64)) (.pair (.arr 4 (.int .u64)) (.pair (.arr 32 (.int .u8)) (.pair (.int .i64) (.pair (.arr 32 (.int .u8)) (.pair (.int .i64) (.pair (.int .i64) (.pair .str (.pair (.sl (.int .u8)) (.pair (.int .i64) (.pair (.sl (.arr 20 (.int .u8))) .unit)))))))))))) (.pair .bool .unit)), true, fun x => run x.1⟩
set_option maxRecDepth 100000 in
theorem con : Con Try.prog 76 F := by
  refine con_of_den (C := C) (ctx_ok (by kernel_rfl) (by kernel_rfl) (by kernel_rfl) (by kernel_rfl) trivial) (by kernel_rfl) Try.func76 (c := cB Try.f76) (by kernel_rfl) (by kernel_rfl) F fuel (fun x => by simp [F, spread, Try.ntmps76]) ?_
  intro x r h
  rw [← h]
  have h1 : start F Try.f76.ntmps x = (St0 x.1) := by kernel_rfl
  rw [h1]
  refine (top_eq fuel (fin C Try.f76.results.toList F.rs F.multi) x.1).trans ?_
  kernel_rfl
theorem named : Named Try.prog 76 := named_of Try.func76 (by kernel_rfl) (by kernel_rfl)
end Go.Bx.basculeref_only
namespace Go.Bx.basculeref_Order
open Go Go.Proofs Go.Bx
set_option maxRecDepth 100000
set_option linter.unusedVariables false
def Js : List Nat := []
def C : Ctx := ⟨[(3, (.int .i64)), (56, (.arr 4 (.int .u64)))], [], [], fnL [(68, Go.Bx.basculeref_of.F), (106, Go.Bx.basculeref_compare.F)], noSh, [], invL [], [(2, [4])], [], [], 0, 0⟩
def St0 (x0 : List Int) (x1 : List Int) : St := stL 10 [(0, .data (.arr 4 (.int .u64)) x0), (1, .data (.arr 4 (.int .u64)) x1)] []
def St1 (x4 : Int) : St := stL 10 [(4, .data (.int .i64) x4)] []
def top {α : Type} (Rt : Int → Option α) (x0 : List Int) (x1 : List Int) : Option α :=
  (Go.Bx.basculeref_of.run x0).bind fun y1 =>
  (Go.Bx.basculeref_of.run x1).bind fun y2 =>
  (Go.Bx.basculeref_compare.run y1 y2).bind fun y3 =>
  Rt y3
theorem top_eq {α : Type} (k : Nat) (Q : Ex → St → Option α) (x0 : List Int) (x1 : List Int) :
    (den C k) (cB Try.f77) Q (St0 x0 x1) = top (fun (x4 : Int) => Q .ret (St1 x4)) x0 x1 := by
  have h : ∀ (D L : DT α), denJ D L Js C (cB Try.f77) Q (St0 x0 x1) =
        (Go.Bx.basculeref_of.run x0).bind fun y1 =>
        (Go.Bx.basculeref_of.run x1).bind fun y2 =>
        (Go.Bx.basculeref_compare.run y1 y2).bind fun y3 =>
        Q .ret (St1 y3) := by
    intro D L; kernel_rfl
  refine (show (den C k) (cB Try.f77) Q (St0 x0 x1) = denJ (den C k) (lp C k) Js C (cB Try.f77) Q (St0 x0 x1) from (denJ_den _ _ _ _ _ _).symm).trans ((h (den C k) (lp C k)).trans ?_)
  first | rfl | kernel_rfl
def run (x0 : List Int) (x1 : List Int) : Option (Int) := top (α := Int) (fun (x4 : Int) => some x4) x0 x1
def F : Fn := ⟨(.pair (.arr 4 (.int .u64)) (.pair (.arr 4 (.int .u64)) .unit)), (.int .i64), false, fun x => run x.1 x.2.1⟩
set_option maxRecDepth 100000 in
theorem con : Con Try.prog 77 F := by
  refine con_of_den (C := C) (ctx_ok (by kernel_rfl) (by kernel_rfl) (by kernel_rfl) (by kernel_rfl) ⟨.inl ⟨Go.Bx.basculeref_of.con, Go.Bx.basculeref_of.named⟩, ⟨.inl ⟨Go.Bx.basculeref_compare.con, Go.Bx.basculeref_compare.named⟩, trivial⟩⟩) (by kernel_rfl) Try.func77 (c := cB Try.f77) (by kernel_rfl) (by kernel_rfl) F fuel (fun x => by simp [F, spread, Try.ntmps77]) ?_
  intro x r h
  rw [← h]
  have h1 : start F Try.f77.ntmps x = (St0 x.1 x.2.1) := by kernel_rfl
  rw [h1]
  refine (top_eq fuel (fin C Try.f77.results.toList F.rs F.multi) x.1 x.2.1).trans ?_
  kernel_rfl
theorem named : Named Try.prog 77 := named_of Try.func77 (by kernel_rfl) (by kernel_rfl)
end Go.Bx.basculeref_Order
namespace Go.Bx.basculeref_hasNought
open Go Go.Proofs Go.Bx
set_option maxRecDepth 100000
set_option linter.unusedVariables false
def Js : List Nat := [7]
def C : Ctx := ⟨[(4, .bool), (9, .str)], [], [], fnL [], noSh, [], invL [], [(2, [2]), (1, []), (4, [0, 3]), (6, [0, 3]), (18, [])], [], [], 0, 0⟩
def St0 (x0 : List Int) : St := stL 14 [(0, .data .str x0)] []
def St1 (x0 : List Int) (x3 : Int) : St := stL 14 [(0, .data .str x0), (3, .data (.int .i64) x3)] []
noncomputable def cd0 : Code := cL (cL (cR (cL (cR (cB Try.f78)))))
def St2 (x2 : Bool) : St := stL 14 [(2, .data .bool x2)] []
def St3 : St := stL 14 [] []
def l0s {α : Type} (Nx : (List Int) → Int → Option α) (Rt : Bool → Option α) (Xt0 : Option α) (x0 : List Int) (x3 : Int) : Option α :=
  if (decide (x3 < (x0.length : Int))) = true then
    if 0 ≤ x3 ∧ x3 < (x0.length : Int) then
      if ((List.getD x0 (Int.toNat x3) 0) == 0) = true then
        Rt true
      else
        Nx x0 (IntKind.i64.wrap (x3 + 1))
    else none
  else
    Xt0
theorem l0s_eq {α : Type} (k : Nat) (next : St → Option α) (Q : Ex → St → Option α) (x0 : List Int) (x3 : Int) :
    rnd C k cd0 6 Q next (St1 x0 x3) = l0s (fun (x0 : List Int) (x3 : Int) => next (St1 x0 x3)) (fun (x2 : Bool) => Q .ret (St2 x2)) (Q (.exit 0) St3) x0 x3 := by
  have h : ∀ (D L : DT α), denJ D L Js C cd0 (lq C 6 next Q) (St1 x0 x3) =
        if (decide (x3 < (x0.length : Int))) = true then
          if 0 ≤ x3 ∧ x3 < (x0.length : Int) then
            if ((List.getD x0 (Int.toNat x3) 0) == 0) = true then
              Q .ret (St2 true)
            else
              next (St1 x0 (IntKind.i64.wrap (x3 + 1)))
          else none
        else
          Q (.exit 0) St3 := by
    intro D L; kernel_rfl
  refine (show rnd C k cd0 6 Q next (St1 x0 x3) = denJ (den C k) (lp C k) Js C cd0 (lq C 6 next Q) (St1 x0 x3) from (denJ_den _ _ _ _ _ _).symm).trans ((h (den C k) (lp C k)).trans ?_)
  first | rfl | kernel_rfl
def l0 {α : Type} (k : Nat) (Rt : Bool → Option α) (Xt0 : Option α) : Nat → (List Int) → Int → Option α
  | 0, _, _ => none
  | n + 1, x0, x3 => l0s (l0 k Rt Xt0 n) Rt Xt0 x0 x3
theorem l0_eq {α : Type} (k : Nat) (Q : Ex → St → Option α) : ∀ (n : Nat) (x0 : List Int) (x3 : Int), iter (rnd C k cd0 6 Q) n (St1 x0 x3) = l0 k (fun (x2 : Bool) => Q .ret (St2 x2)) (Q (.exit 0) St3) n x0 x3
  | 0, _, _ => rfl
  | n + 1, x0, x3 => (iter_succ _ _ _).trans ((l0s_eq k (iter (rnd C k cd0 6 Q) n) Q x0 x3).trans (congrArg (fun N => l0s N (fun (x2 : Bool) => Q .ret (St2 x2)) (Q (.exit 0) St3) x0 x3) (funext fun x0 => funext fun x3 => l0_eq k Q n x0 x3)))
theorem l0_congr {α : Type} (k : Nat) (Rt : Bool → Option α) (Xt0 : Option α) (Rtq : Bool → Option α) (Xt0q : Option α) (hRt : ∀ (x2 : Bool), Rt x2 = Rtq x2) (hXt0 : Xt0 = Xt0q) (n : Nat) (x0 : List Int) (x3 : Int) : l0 k Rt Xt0 n x0 x3 = l0 k Rtq Xt0q n x0 x3 := by
  obtain rfl : Rt = Rtq := by funext x2; exact hRt x2
  obtain rfl : Xt0 = Xt0q := hXt0
  rfl
noncomputable def cd1 : Code := cR (cR (cB Try.f78))
def St4 : St := stL 14 [] []
def j0 {α : Type} (Rt : Bool → Option α) : Option α :=
  Rt false
theorem j0_eq {α : Type} (k : Nat) (Q : Ex → St → Option α) :
    (den C k) cd1 Q St4 = j0 (fun (x2 : Bool) => Q .ret (St2 x2)) := by
  have h : ∀ (D L : DT α), denJ D L Js C cd1 Q St4 =
        Q .ret (St2 false) := by
    intro D L; kernel_rfl
  refine (show (den C k) cd1 Q St4 = denJ (den C k) (lp C k) Js C cd1 Q St4 from (denJ_den _ _ _ _ _ _).symm).trans ((h (den C k) (lp C k)).trans ?_)
  first | rfl | kernel_rfl
theorem a0 {α : Type} (k : Nat) (Q : Ex → St → Option α) (x0 : List Int) (x3 : Int) :
    (lp C k) cd0 (blkQ C 0 (sq (den C k) (lp C k) Js C cd1 Q)) (St1 x0 x3) = l0 k (fun (x2 : Bool) => (fun (x2 : Bool) => Q .ret (St2 x2)) x2) (j0 (fun (x2 : Bool) => Q .ret (St2 x2))) k x0 x3 :=
  (show (lp C k) cd0 (blkQ C 0 (sq (den C k) (lp C k) Js C cd1 Q)) (St1 x0 x3) = iter (rnd C k cd0 6 (blkQ C 0 (sq (den C k) (lp C k) Js C cd1 Q))) k (St1 x0 x3) by kernel_rfl).trans ((l0_eq k (blkQ C 0 (sq (den C k) (lp C k) Js C cd1 Q)) k x0 x3).trans (l0_congr k _ _ _ _ (fun x2 => (show (blkQ C 0 (sq (den C k) (lp C k) Js C cd1 Q)) .ret (St2 x2) = Q .ret (St2 x2) by kernel_rfl)) ((show (blkQ C 0 (sq (den C k) (lp C k) Js C cd1 Q)) (.exit 0) St3 = (den C k) cd1 Q St4 by kernel_rfl).trans (by simp only [j0_eq])) k x0 x3))
def top {α : Type} (k : Nat) (Rt : Bool → Option α) (x0 : List Int) : Option α :=
  l0 k (fun (x2 : Bool) => Rt x2) (j0 Rt) k x0 0
theorem top_eq {α : Type} (k : Nat) (Q : Ex → St → Option α) (x0 : List Int) :
    (den C k) (cB Try.f78) Q (St0 x0) = top k (fun (x2 : Bool) => Q .ret (St2 x2)) x0 := by
  have h : ∀ (D L : DT α), denJ D L Js C (cB Try.f78) Q (St0 x0) =
        L cd0 (blkQ C 0 (sq D L Js C cd1 Q)) (St1 x0 0) := by
    intro D L; kernel_rfl
  refine (show (den C k) (cB Try.f78) Q (St0 x0) = denJ (den C k) (lp C k) Js C (cB Try.f78) Q (St0 x0) from (denJ_den _ _ _ _ _ _).symm).trans ((h (den C k) (lp C k)).trans ?_)
  simp only [a0]
  first | rfl | kernel_rfl
def run (x0 : List Int) : Option (Bool) := top (α := Bool) fuel (fun (x2 : Bool) => some x2) x0
def F : Fn := ⟨(.pair .str .unit), .bool, false, fun x => run x.1⟩
set_option maxRecDepth 100000 in
theorem con : Con Try.prog 78 F := by
  refine con_of_den (C := C) (ctx_ok (by kernel_rfl) (by kernel_rfl) (by kernel_rfl) (by kernel_rfl) trivial) (by kernel_rfl) Try.func78 (c := cB Try.f78) (by kernel_rfl) (by kernel_rfl) F fuel (fun x => by simp [F, spread, Try.ntmps78]) ?_
  intro x r h
  rw [← h]
  have h1 : start F Try.f78.ntmps x = (St0 x.1) := by kernel_rfl
  rw [h1]
  refine (top_eq fuel (fin C Try.f78.results.toList F.rs F.multi) x.1).trans ?_
  kernel_rfl
theorem named : Named Try.prog 78 := named_of Try.func78 (by kernel_rfl) (by kernel_rfl)
end Go.Bx.basculeref_hasNought
namespace Go.Bx.basculeref_LoadFault
open Go Go.Proofs Go.Bx
set_option maxRecDepth 100000
set_option linter.unusedVariables false
def Js : List Nat := [9, 14]
def C : Ctx := ⟨[(3, (.int .i64)), (9, .str), (23, (.int .i64)), (26, (.sl (.arr 20 (.int .u8)))), (56, (.arr 4 (.int .u64))), (59, (.sl (.int .u8))), (71, (.pair (.int .i64) (.pair (.arr 4 (.int .u64)) (.pair (.arr 4 (.int .u64)) (.pair (.arr 32 (.int .u8)) (.pair (.int .i64) (.pair (.arr 32 (.int .u8)) (.pair (.int .i64) (.pair (.int .i64) (.pair .str (.pair (.sl (.int .u8)) (.pair (.int .i64) (.pair (.sl (.arr 20 (.int .u8))) .unit)))))))))))))], [], [], fnL [(55, Go.Bx.basculeref_SameLoad.F), (61, Go.Bx.basculeref_upTo.F), (76, Go.Bx.basculeref_only.F), (77, Go.Bx.basculeref_Order.F), (78, Go.Bx.basculeref_hasNought.F)], noSh, [], invL [], [(2, [2]), (1, [4]), (32, [1, 4, 16, 17]), (39, [4])], [], [], 0, 0⟩
def St0 (x0 : Int × List Int × List Int × List Int × Int × List Int × Int × Int × List Int × List Int × Int × List (List Int) × Unit) : St := stL 103 [(0, .data (.pair (.int .i64) (.pair (.arr 4 (.int .u64)) (.pair (.arr 4 (.int .u64)) (.pair (.arr 32 (.int .u8)) (.pair (.int .i64) (.pair (.arr 32 (.int .u8)) (.pair (.int .i64) (.pair (.int .i64) (.pair .str (.pair (.sl (.int .u8)) (.pair (.int .i64) (.pair (.sl (.arr 20 (.int .u8))) .unit)))))))))))) x0)] []
def St1 (x2 : Int) : St := stL 103 [(2, .data (.int .i64) x2)] []
def St2 (x4 : Bool) (x16 : Int) (x17 : Bool) (c1 : Int × List Int × List Int × List Int × Int × List Int × Int × Int × List Int × List Int × Int × List (List Int) × Unit) : St := stL 103 [(1, .ref 1 0 []), (4, .data .bool x4), (16, .data (.int .i64) x16), (17, .data .bool x17)] [(1, .cell (.pair (.int .i64) (.pair (.arr 4 (.int .u64)) (.pair (.arr 4 (.int .u64)) (.pair (.arr 32 (.int .u8)) (.pair (.int .i64) (.pair (.arr 32 (.int .u8)) (.pair (.int .i64) (.pair (.int .i64) (.pair .str (.pair (.sl (.int .u8)) (.pair (.int .i64) (.pair (.sl (.arr 20 (.int .u8))) .unit)))))))))))) (.data (.pair (.int .i64) (.pair (.arr 4 (.int .u64)) (.pair (.arr 4 (.int .u64)) (.pair (.arr 32 (.int .u8)) (.pair (.int .i64) (.pair (.arr 32 (.int .u8)) (.pair (.int .i64) (.pair (.int .i64) (.pair .str (.pair (.sl (.int .u8)) (.pair (.int .i64) (.pair (.sl (.arr 20 (.int .u8))) .unit)))))))))))) c1) false)]
noncomputable def cd0 : Code := cR (cR (cR (cR (cR (cB Try.f42)))))
noncomputable def cd1 : Code := cR (cL (cR (cL (cR (cR (cR (cR (cB Try.f42))))))))
def St3 (x4 : Bool) : St := stL 103 [(4, .data .bool x4)] []
def j1 {α : Type} (Rt : Int → Option α) (x4 : Bool) : Option α :=
  if (not x4) = true then
    Rt 3
  else
    Rt 0
theorem j1_eq {α : Type} (k : Nat) (Q : Ex → St → Option α) (x4 : Bool) :
    (den C k) cd0 Q (St3 x4) = j1 (fun (x2 : Int) => Q .ret (St1 x2)) x4 := by
  have h : ∀ (D L : DT α), denJ D L Js C cd0 Q (St3 x4) =
        if (not x4) = true then
          Q .ret (St1 3)
        else
          Q .ret (St1 0) := by
    intro D L; kernel_rfl
  refine (show (den C k) cd0 Q (St3 x4) = denJ (den C k) (lp C k) Js C cd0 Q (St3 x4) from (denJ_den _ _ _ _ _ _).symm).trans ((h (den C k) (lp C k)).trans ?_)
  first | rfl | kernel_rfl
def j0 {α : Type} (Rt : Int → Option α) (x4 : Bool) (x16 : Int) (x17 : Bool) (c1 : Int × List Int × List Int × List Int × Int × List Int × Int × Int × List Int × List Int × Int × List (List Int) × Unit) : Option α :=
  if x17 = true then
    (if (x4 == true) = true then Go.Bx.basculeref_upTo.run c1.2.2.2.2.1 65535 else some false).bind fun y3 =>
    (if ((cond x4 y3 false) == true) = true then Go.Bx.basculeref_upTo.run c1.2.2.2.2.2.2.1 65535 else some false).bind fun y4 =>
    (if ((cond (cond x4 y3 false) y4 false) == true) = true then Go.Bx.basculeref_Order.run c1.2.2.1 c1.2.1 else some 0).bind fun y5 =>
    j1 Rt (cond (cond (cond (cond (cond x4 y3 false) y4 false) (decide (y5 ≤ 0)) false) (decide ((c1.2.2.2.2.2.2.2.2.2.1.length : Int) ≤ 100)) false) (cond (c1.1 == 3) true ((c1.2.2.2.2.2.2.2.2.2.1.length : Int) == 0)) false)
  else
    if (x16 == 2) = true then
      (if (x4 == true) = true then Go.Bx.basculeref_upTo.run c1.2.2.2.2.1 65535 else some false).bind fun y6 =>
      (if ((cond x4 y6 false) == true) = true then Go.Bx.basculeref_upTo.run c1.2.2.2.2.2.2.2.1 77 else some false).bind fun y7 =>
      (if ((cond (cond (cond x4 y6 false) y7 false) (decide ((c1.2.2.2.2.2.2.2.2.1.length : Int) ≤ 32)) false) == true) = true then Go.Bx.basculeref_hasNought.run c1.2.2.2.2.2.2.2.2.1 else some false).bind fun y8 =>
      j1 Rt (cond (cond (cond (cond x4 y6 false) y7 false) (decide ((c1.2.2.2.2.2.2.2.2.1.length : Int) ≤ 32)) false) (not y8) false)
    else
      if (x16 == 4) = true then
        (if (x4 == true) = true then Go.Bx.basculeref_upTo.run c1.2.2.2.2.2.2.2.2.2.2.1 4294967295 else some false).bind fun y9 =>
        j1 Rt (cond (cond (cond x4 y9 false) (decide ((c1.2.2.2.2.2.2.2.2.2.2.2.1.length : Int) > 0)) false) (decide ((c1.2.2.2.2.2.2.2.2.2.2.2.1.length : Int) ≤ 19)) false)
      else
        j1 Rt x4
theorem j0_eq {α : Type} (k : Nat) (Q : Ex → St → Option α) (x4 : Bool) (x16 : Int) (x17 : Bool) (c1 : Int × List Int × List Int × List Int × Int × List Int × Int × Int × List Int × List Int × Int × List (List Int) × Unit) :
    (den C k) cd1 (blkQ C 0 (sq (den C k) (lp C k) Js C cd0 Q)) (St2 x4 x16 x17 c1) = j0 (fun (x2 : Int) => Q .ret (St1 x2)) x4 x16 x17 c1 := by
  have h : ∀ (D L : DT α), denJ D L Js C cd1 (blkQ C 0 (sq D L Js C cd0 Q)) (St2 x4 x16 x17 c1) =
        if x17 = true then
          (if (x4 == true) = true then Go.Bx.basculeref_upTo.run c1.2.2.2.2.1 65535 else some false).bind fun y3 =>
          (if ((cond x4 y3 false) == true) = true then Go.Bx.basculeref_upTo.run c1.2.2.2.2.2.2.1 65535 else some false).bind fun y4 =>
          (if ((cond (cond x4 y3 false) y4 false) == true) = true then Go.Bx.basculeref_Order.run c1.2.2.1 c1.2.1 else some 0).bind fun y5 =>
          D cd0 Q (St3 (cond (cond (cond (cond (cond x4 y3 false) y4 false) (decide (y5 ≤ 0)) false) (decide ((c1.2.2.2.2.2.2.2.2.2.1.length : Int) ≤ 100)) false) (cond (c1.1 == 3) true ((c1.2.2.2.2.2.2.2.2.2.1.length : Int) == 0)) false))
        else
          if (x16 == 2) = true then
            (if (x4 == true) = true then Go.Bx.basculeref_upTo.run c1.2.2.2.2.1 65535 else some false).bind fun y6 =>
            (if ((cond x4 y6 false) == true) = true then Go.Bx.basculeref_upTo.run c1.2.2.2.2.2.2.2.1 77 else some false).bind fun y7 =>
            (if ((cond (cond (cond x4 y6 false) y7 false) (decide ((c1.2.2.2.2.2.2.2.2.1.length : Int) ≤ 32)) false) == true) = true then Go.Bx.basculeref_hasNought.run c1.2.2.2.2.2.2.2.2.1 else some false).bind fun y8 =>
            D cd0 Q (St3 (cond (cond (cond (cond x4 y6 false) y7 false) (decide ((c1.2.2.2.2.2.2.2.2.1.length : Int) ≤ 32)) false) (not y8) false))
          else
            if (x16 == 4) = true then
              (if (x4 == true) = true then Go.Bx.basculeref_upTo.run c1.2.2.2.2.2.2.2.2.2.2.1 4294967295 else some false).bind fun y9 =>
              D cd0 Q (St3 (cond (cond (cond x4 y9 false) (decide ((c1.2.2.2.2.2.2.2.2.2.2.2.1.length : Int) > 0)) false) (decide ((c1.2.2.2.2.2.2.2.2.2.2.2.1.length : Int) ≤ 19)) false))
            else
              D cd0 Q (St3 x4) := by
    intro D L; kernel_rfl
  refine (show (den C k) cd1 (blkQ C 0 (sq (den C k) (lp C k) Js C cd0 Q)) (St2 x4 x16 x17 c1) = denJ (den C k) (lp C k) Js C cd1 (blkQ C 0 (sq (den C k) (lp C k) Js C cd0 Q)) (St2 x4 x16 x17 c1) from (denJ_den _ _ _ _ _ _).symm).trans ((h (den C k) (lp C k)).trans ?_)
  simp only [j1_eq]
  first | rfl | kernel_rfl
def top {α : Type} (Rt : Int → Option α) (x0 : Int × List Int × List Int × List Int × Int × List Int × Int × Int × List Int × List Int × Int × List (List Int) × Unit) : Option α :=
  (Go.Bx.basculeref_only.run x0).bind fun y1 =>
  if (not y1.2.1) = true then
    Rt 2
  else
    (Go.Bx.basculeref_SameLoad.run x0 y1.1).bind fun y2 =>
    if (x0.1 == 1) = true then
      j0 Rt y2 x0.1 (x0.1 == 1) x0
    else
      j0 Rt y2 x0.1 (x0.1 == 3) x0
theorem top_eq {α : Type} (k : Nat) (Q : Ex → St → Option α) (x0 : Int × List Int × List Int × List Int × Int × List Int × Int × Int × List Int × List Int × Int × List (List Int) × Unit) :
    (den C k) (cB Try.f42) Q (St0 x0) = top (fun (x2 : Int) => Q .ret (St1 x2)) x0 := by
  have h : ∀ (D L : DT α), denJ D L Js C (cB Try.f42) Q (St0 x0) =
        (Go.Bx.basculeref_only.run x0).bind fun y1 =>
        if (not y1.2.1) = true then
          Q .ret (St1 2)
        else
          (Go.Bx.basculeref_SameLoad.run x0 y1.1).bind fun y2 =>
          if (x0.1 == 1) = true then
            D cd1 (blkQ C 0 (sq D L Js C cd0 Q)) (St2 y2 x0.1 (x0.1 == 1) x0)
          else
            D cd1 (blkQ C 0 (sq D L Js C cd0 Q)) (St2 y2 x0.1 (x0.1 == 3) x0) := by
    intro D L; kernel_rfl
  refine (show (den C k) (cB Try.f42) Q (St0 x0) = denJ (den C k) (lp C k) Js C (cB Try.f42) Q (St0 x0) from (denJ_den _ _ _ _ _ _).symm).trans ((h (den C k) (lp C k)).trans ?_)
  simp only [j0_eq]
  first | rfl | kernel_rfl
def run (x0 : Int × List Int × List Int × List Int × Int × List Int × Int × Int × List Int × List Int × Int × List (List Int) × Unit) : Option (Int) := top (α := Int) (fun (x2 : Int) => some x2) x0
def F : Fn := ⟨(.pair (.pair (.int .i64) (.pair (.arr 4 (.int .u64)) (.pair (.arr 4 (.int .u64)) (.pair (.arr 32 (.int .u8)) (.pair (.int .i64) (.pair (.arr 32 (.int .u8)) (.pair (.int .i64) (.pair (.int .i64) (.pair .str (.pair (.sl (.int .u8)) (.pair (.int .i64) (.pair (.sl (.arr 20 (.int .u8))) .unit)))))))))))) .unit), (.int .i64), false, fun x => run x.1⟩
set_option maxRecDepth 100000 in
theorem con : Con Try.prog 42 F := by
  refine con_of_den (C := C) (ctx_ok (by kernel_rfl) (by kernel_rfl) (by kernel_rfl) (by kernel_rfl) ⟨.inl ⟨Go.Bx.basculeref_SameLoad.con, Go.Bx.basculeref_SameLoad.named⟩, ⟨.inl ⟨Go.Bx.basculeref_upTo.con, Go.Bx.basculeref_upTo.named⟩, ⟨.inl ⟨Go.Bx.basculeref_only.con, Go.Bx.basculeref_only.named⟩, ⟨.inl ⟨Go.Bx.basculeref_Order.con, Go.Bx.basculeref_Order.named⟩, ⟨.inl ⟨Go.Bx.basculeref_hasNought.con, Go.Bx.basculeref_hasNought.named⟩, trivial⟩⟩⟩⟩⟩) (by kernel_rfl) Try.func42 (c := cB Try.f42) (by kernel_rfl) (by kernel_rfl) F fuel (fun x => by simp [F, spread, Try.ntmps42]) ?_
  intro x r h
  rw [← h]
  have h1 : start F Try.f42.ntmps x = (St0 x.1) := by kernel_rfl
  rw [h1]
  refine (top_eq fuel (fin C Try.f42.results.toList F.rs F.multi) x.1).trans ?_
  kernel_rfl
theorem named : Named Try.prog 42 := named_of Try.func42 (by kernel_rfl) (by kernel_rfl)
end Go.Bx.basculeref_LoadFault
namespace Go.Bx.wide_Bytes
open Go Go.Proofs Go.Bx
set_option maxRecDepth 100000
set_option linter.unusedVariables false
def Js : List Nat := [8]
def C : Ctx := ⟨[(5, (.int .u8)), (54, (.int .u64)), (56, (.arr 4 (.int .u64))), (69, (.arr 32 (.int .u8)))], [], [], fnL [], noSh, [], invL [], [(2, [2]), (1, [2, 3]), (4, [1, 2, 3, 5]), (9, [1, 2, 3, 5]), (21, [2, 3])], [], [], 0, 0⟩
def St0 (x0 : List Int) : St := stL 22 [(0, .data (.arr 4 (.int .u64)) x0)] []
def St1 (x5 : Int) (c1 : List Int) (c2 : List Int) (c3 : List Int) : St := stL 22 [(1, .ref 1 0 []), (2, .ref 2 0 []), (3, .ref 3 0 []), (5, .data (.int .i64) x5)] [(1, .cell (.arr 4 (.int .u64)) (.data (.arr 4 (.int .u64)) c1) false), (2, .cell (.arr 32 (.int .u8)) (.data (.arr 32 (.int .u8)) c2) false), (3, .cell (.arr 32 (.int .u8)) (.data (.arr 32 (.int .u8)) c3) false)]
noncomputable def cd0 : Code := cL (cL (cR (cL (cR (cR (cB Try.f81))))))
def St2 (c2 : List Int) (c3 : List Int) : St := stL 22 [(2, .ref 2 0 []), (3, .ref 3 0 [])] [(2, .cell (.arr 32 (.int .u8)) (.data (.arr 32 (.int .u8)) c2) false), (3, .cell (.arr 32 (.int .u8)) (.data (.arr 32 (.int .u8)) c3) false)]
def l0s {α : Type} (Nx : Int → (List Int) → (List Int) → (List Int) → Option α) (Xt0 : (List Int) → (List Int) → Option α) (x5 : Int) (c1 : List Int) (c2 : List Int) (c3 : List Int) : Option α :=
  if (decide (x5 < 32)) = true then
    if 0 ≤ (IntKind.i64.wrap (Int.tdiv x5 8)) ∧ (IntKind.i64.wrap (Int.tdiv x5 8)) < (4 : Int) then
      if 0 ≤ (IntKind.i64.wrap (8 * (Int.tmod x5 8))) then
        if 0 ≤ (IntKind.i64.wrap (31 - x5)) ∧ (IntKind.i64.wrap (31 - x5)) < (32 : Int) then
          Nx (IntKind.i64.wrap (x5 + 1)) c1 c2 (List.set c3 (Int.toNat (IntKind.i64.wrap (31 - x5))) (IntKind.u8.wrap (shrI .u64 (List.getD c1 (Int.toNat (IntKind.i64.wrap (Int.tdiv x5 8))) 0) (IntKind.i64.wrap (8 * (Int.tmod x5 8))))))
        else none
      else none
    else none
  else
    Xt0 c2 c3
theorem l0s_eq {α : Type} (k : Nat) (next : St → Option α) (Q : Ex → St → Option α) (x5 : Int) (c1 : List Int) (c2 : List Int) (c3 : List Int) :
    rnd C k cd0 9 Q next (St1 x5 c1 c2 c3) = l0s (fun (x5 : Int) (c1 : List Int) (c2 : List Int) (c3 : List Int) => next (St1 x5 c1 c2 c3)) (fun (c2 : List Int) (c3 : List Int) => Q (.exit 0) (St2 c2 c3)) x5 c1 c2 c3 := by
  have h : ∀ (D L : DT α), denJ D L Js C cd0 (lq C 9 next Q) (St1 x5 c1 c2 c3) =
        if (decide (x5 < 32)) = true then
          if 0 ≤ (IntKind.i64.wrap (Int.tdiv x5 8)) ∧ (IntKind.i64.wrap (Int.tdiv x5 8)) < (4 : Int) then
            if 0 ≤ (IntKind.i64.wrap (8 * (Int.tmod x5 8))) then
              if 0 ≤ (IntKind.i64.wrap (31 - x5)) ∧ (IntKind.i64.wrap (31 - x5)) < (32 : Int) then
                next (St1 (IntKind.i64.wrap (x5 + 1)) c1 c2 (List.set c3 (Int.toNat (IntKind.i64.wrap (31 - x5))) (IntKind.u8.wrap (shrI .u64 (List.getD c1 (Int.toNat (IntKind.i64.wrap (Int.tdiv x5 8))) 0) (IntKind.i64.wrap (8 * (Int.tmod x5 8)))))))
              else none
            else none
          else none
        else
          Q (.exit 0) (St2 c2 c3) := by
    intro D L; kernel_rfl
  refine (show rnd C k cd0 9 Q next (St1 x5 c1 c2 c3) = denJ (den C k) (lp C k) Js C cd0 (lq C 9 next Q) (St1 x5 c1 c2 c3) from (denJ_den _ _ _ _ _ _).symm).trans ((h (den C k) (lp C k)).trans ?_)
  first | rfl | kernel_rfl
def l0 {α : Type} (k : Nat) (Xt0 : (List Int) → (List Int) → Option α) : Nat → Int → (List Int) → (List Int) → (List Int) → Option α
  | 0, _, _, _, _ => none
  | n + 1, x5, c1, c2, c3 => l0s (l0 k Xt0 n) Xt0 x5 c1 c2 c3
theorem l0_eq {α : Type} (k : Nat) (Q : Ex → St → Option α) : ∀ (n : Nat) (x5 : Int) (c1 : List Int) (c2 : List Int) (c3 : List Int), iter (rnd C k cd0 9 Q) n (St1 x5 c1 c2 c3) = l0 k (fun (c2 : List Int) (c3 : List Int) => Q (.exit 0) (St2 c2 c3)) n x5 c1 c2 c3
  | 0, _, _, _, _ => rfl
  | n + 1, x5, c1, c2, c3 => (iter_succ _ _ _).trans ((l0s_eq k (iter (rnd C k cd0 9 Q) n) Q x5 c1 c2 c3).trans (congrArg (fun N => l0s N (fun (c2 : List Int) (c3 : List Int) => Q (.exit 0) (St2 c2 c3)) x5 c1 c2 c3) (funext fun x5 => funext fun c1 => funext fun c2 => funext fun c3 => l0_eq k Q n x5 c1 c2 c3)))
theorem l0_congr {α : Type} (k : Nat) (Xt0 : (List Int) → (List Int) → Option α) (Xt0q : (List Int) → (List Int) → Option α) (hXt0 : ∀ (c2 : List Int) (c3 : List Int), Xt0 c2 c3 = Xt0q c2 c3) (n : Nat) (x5 : Int) (c1 : List Int) (c2 : List Int) (c3 : List Int) : l0 k Xt0 n x5 c1 c2 c3 = l0 k Xt0q n x5 c1 c2 c3 := by
  obtain rfl : Xt0 = Xt0q := by funext c2; funext c3; exact hXt0 c2 c3
  rfl
noncomputable def cd1 : Code := cR (cR (cR (cB Try.f81)))
def St3 (c2 : List Int) (c3 : List Int) : St := stL 22 [(2, .ref 2 0 []), (3, .ref 3 0 [])] [(2, .cell (.arr 32 (.int .u8)) (.data (.arr 32 (.int .u8)) c2) false), (3, .cell (.arr 32 (.int .u8)) (.data (.arr 32 (.int .u8)) c3) false)]
def St4 (c2 : List Int) : St := stL 22 [(2, .ref 2 0 [])] [(2, .cell (.arr 32 (.int .u8)) (.data (.arr 32 (.int .u8)) c2) false)]
def j0 {α : Type} (Rt : (List Int) → Option α) (c2 : List Int) (c3 : List Int) : Option α :=
  Rt c3
theorem j0_eq {α : Type} (k : Nat) (Q : Ex → St → Option α) (c2 : List Int) (c3 : List Int) :
    (den C k) cd1 Q (St3 c2 c3) = j0 (fun (c2 : List Int) => Q .ret (St4 c2)) c2 c3 := by
  have h : ∀ (D L : DT α), denJ D L Js C cd1 Q (St3 c2 c3) =
        Q .ret (St4 c3) := by
    intro D L; kernel_rfl
  refine (show (den C k) cd1 Q (St3 c2 c3) = denJ (den C k) (lp C k) Js C cd1 Q (St3 c2 c3) from (denJ_den _ _ _ _ _ _).symm).trans ((h (den C k) (lp C k)).trans ?_)
  first | rfl | kernel_rfl
theorem a0 {α : Type} (k : Nat) (Q : Ex → St → Option α) (x5 : Int) (c1 : List Int) (c2 : List Int) (c3 : List Int) :
    (lp C k) cd0 (blkQ C 0 (sq (den C k) (lp C k) Js C cd1 Q)) (St1 x5 c1 c2 c3) = l0 k (fun (c2 : List Int) (c3 : List Int) => j0 (fun (c2 : List Int) => Q .ret (St4 c2)) c2 c3) k x5 c1 c2 c3 :=
  (show (lp C k) cd0 (blkQ C 0 (sq (den C k) (lp C k) Js C cd1 Q)) (St1 x5 c1 c2 c3) = iter (rnd C k cd0 9 (blkQ C 0 (sq (den C k) (lp C k) Js C cd1 Q))) k (St1 x5 c1 c2 c3) by kernel_rfl).trans ((l0_eq k (blkQ C 0 (sq (den C k) (lp C k) Js C cd1 Q)) k x5 c1 c2 c3).trans (l0_congr k _ _ (fun c2 c3 => ((show (blkQ C 0 (sq (den C k) (lp C k) Js C cd1 Q)) (.exit 0) (St2 c2 c3) = (den C k) cd1 Q (St3 c2 c3) by kernel_rfl).trans (by simp only [j0_eq]))) k x5 c1 c2 c3))
def top {α : Type} (k : Nat) (Rt : (List Int) → Option α) (x0 : List Int) : Option α :=
  l0 k (fun (c2 : List Int) (c3 : List Int) => j0 Rt c2 c3) k 0 x0 (List.replicate 32 0) (List.replicate 32 0)
theorem top_eq {α : Type} (k : Nat) (Q : Ex → St → Option α) (x0 : List Int) :
    (den C k) (cB Try.f81) Q (St0 x0) = top k (fun (c2 : List Int) => Q .ret (St4 c2)) x0 := by
  have h : ∀ (D L : DT α), denJ D L Js C (cB Try.f81) Q (St0 x0) =
        L cd0 (blkQ C 0 (sq D L Js C cd1 Q)) (St1 0 x0 (List.replicate 32 0) (List.replicate 32 0)) := by
    intro D L; kernel_rfl
  refine (show (den C k) (cB Try.f81) Q (St0 x0) = denJ (den C k) (lp C k) Js C (cB Try.f81) Q (St0 x0) from (denJ_den _ _ _ _ _ _).symm).trans ((h (den C k) (lp C k)).trans ?_)
  simp only [a0]
  first | rfl | kernel_rfl
def run (x0 : List Int) : Option (List Int) := top (α := List Int) fuel (fun (c2 : List Int) => some c2) x0
def F : Fn := ⟨(.pair (.arr 4 (.int .u64)) .unit), (.arr 32 (.int .u8)), false, fun x => run x.1⟩
set_option maxRecDepth 100000 in
theorem con : Con Try.prog 81 F := by
  refine con_of_den (C := C) (ctx_ok (by kernel_rfl) (by kernel_rfl) (by kernel_rfl) (by kernel_rfl) trivial) (by kernel_rfl) Try.func81 (c := cB Try.f81) (by kernel_rfl) (by kernel_rfl) F fuel (fun x => by simp [F, spread, Try.ntmps81]) ?_
  intro x r h
  rw [← h]
  have h1 : start F Try.f81.ntmps x = (St0 x.1) := by kernel_rfl
  rw [h1]
  refine (top_eq fuel (fin C Try.f81.results.toList F.rs F.multi) x.1).trans ?_
  kernel_rfl
theorem named : Named Try.prog 81 := named_of Try.func81 (by kernel_rfl) (by kernel_rfl)
end Go.Bx.wide_Bytes
namespace Go.Bx.basculeref_big
open Go Go.Proofs Go.Bx
set_option maxRecDepth 100000
set_option linter.unusedVariables false
def Js : List Nat := [8]
def C : Ctx := ⟨[(3, (.int .i64)), (5, (.int .u8)), (9, .str), (54, (.int .u64)), (59, (.sl (.int .u8)))], [], [], fnL [], noSh, [], invL [], [(2, [4]), (1, [5]), (4, [0, 5, 6, 7]), (9, [0, 5, 6, 7]), (21, [5])], [], [], 0, 0⟩
def St0 (x0 : Int) (x1 : Int) : St := stL 19 [(0, .data (.int .u64) x0), (1, .data (.int .i64) x1)] []
def St1 (x0 : Int) (x5 : List Int) (x6 : Int) (x7 : Int) : St := stL 19 [(0, .data (.int .u64) x0), (5, .data .str x5), (6, .data (.int .i64) x6), (7, .data (.int .i64) x7)] []
noncomputable def cd0 : Code := cL (cL (cR (cL (cR (cR (cB Try.f85))))))
def St2 (x5 : List Int) : St := stL 19 [(5, .data .str x5)] []
def l0s {α : Type} (Nx : Int → (List Int) → Int → Int → Option α) (Xt0 : (List Int) → Option α) (x0 : Int) (x5 : List Int) (x6 : Int) (x7 : Int) : Option α :=
  if (decide (x7 < x6)) = true then
    if Nat.ble (1 + x5.length) 9223372036854775807 = true then
      Nx (shrI .u64 x0 8) ([(IntKind.u8.wrap x0)] ++ x5) x6 (IntKind.i64.wrap (x7 + 1))
    else none
  else
    Xt0 x5
theorem l0s_eq {α : Type} (k : Nat) (next : St → Option α) (Q : Ex → St → Option α) (x0 : Int) (x5 : List Int) (x6 : Int) (x7 : Int) :
    rnd C k cd0 9 Q next (St1 x0 x5 x6 x7) = l0s (fun (x0 : Int) (x5 : List Int) (x6 : Int) (x7 : Int) => next (St1 x0 x5 x6 x7)) (fun (x5 : List Int) => Q (.exit 0) (St2 x5)) x0 x5 x6 x7 := by
  have h : ∀ (D L : DT α), denJ D L Js C cd0 (lq C 9 next Q) (St1 x0 x5 x6 x7) =
        if (decide (x7 < x6)) = true then
          if Nat.ble (1 + x5.length) 9223372036854775807 = true then
            next (St1 (shrI .u64 x0 8) ([(IntKind.u8.wrap x0)] ++ x5) x6 (IntKind.i64.wrap (x7 + 1)))
          else none
        else
          Q (.exit 0) (St2 x5) := by
    intro D L; kernel_rfl
  refine (show rnd C k cd0 9 Q next (St1 x0 x5 x6 x7) = denJ (den C k) (lp C k) Js C cd0 (lq C 9 next Q) (St1 x0 x5 x6 x7) from (denJ_den _ _ _ _ _ _).symm).trans ((h (den C k) (lp C k)).trans ?_)
  first | rfl | kernel_rfl
def l0 {α : Type} (k : Nat) (Xt0 : (List Int) → Option α) : Nat → Int → (List Int) → Int → Int → Option α
  | 0, _, _, _, _ => none
  | n + 1, x0, x5, x6, x7 => l0s (l0 k Xt0 n) Xt0 x0 x5 x6 x7
theorem l0_eq {α : Type} (k : Nat) (Q : Ex → St → Option α) : ∀ (n : Nat) (x0 : Int) (x5 : List Int) (x6 : Int) (x7 : Int), iter (rnd C k cd0 9 Q) n (St1 x0 x5 x6 x7) = l0 k (fun (x5 : List Int) => Q (.exit 0) (St2 x5)) n x0 x5 x6 x7
  | 0, _, _, _, _ => rfl
  | n + 1, x0, x5, x6, x7 => (iter_succ _ _ _).trans ((l0s_eq k (iter (rnd C k cd0 9 Q) n) Q x0 x5 x6 x7).trans (congrArg (fun N => l0s N (fun (x5 : List Int) => Q (.exit 0) (St2 x5)) x0 x5 x6 x7) (funext fun x0 => funext fun x5 => funext fun x6 => funext fun x7 => l0_eq k Q n x0 x5 x6 x7)))
theorem l0_congr {α : Type} (k : Nat) (Xt0 : (List Int) → Option α) (Xt0q : (List Int) → Option α) (hXt0 : ∀ (x5 : List Int), Xt0 x5 = Xt0q x5) (n : Nat) (x0 : Int) (x5 : List Int) (x6 : Int) (x7 : Int) : l0 k Xt0 n x0 x5 x6 x7 = l0 k Xt0q n x0 x5 x6 x7 := by
  obtain rfl : Xt0 = Xt0q := by funext x5; exact hXt0 x5
  rfl
noncomputable def cd1 : Code := cR (cR (cR (cB Try.f85)))
def St3 (x5 : List Int) : St := stL 19 [(5, .data .str x5)] []
def St4 (x4 : List Int) : St := stL 19 [(4, .data .str x4)] []
def j0 {α : Type} (Rt : (List Int) → Option α) (x5 : List Int) : Option α :=
  Rt x5
theorem j0_eq {α : Type} (k : Nat) (Q : Ex → St → Option α) (x5 : List Int) :
    (den C k) cd1 Q (St3 x5) = j0 (fun (x4 : List Int) => Q .ret (St4 x4)) x5 := by
  have h : ∀ (D L : DT α), denJ D L Js C cd1 Q (St3 x5) =
        Q .ret (St4 x5) := by
    intro D L; kernel_rfl
  refine (show (den C k) cd1 Q (St3 x5) = denJ (den C k) (lp C k) Js C cd1 Q (St3 x5) from (denJ_den _ _ _ _ _ _).symm).trans ((h (den C k) (lp C k)).trans ?_)
  first | rfl | kernel_rfl
theorem a0 {α : Type} (k : Nat) (Q : Ex → St → Option α) (x0 : Int) (x5 : List Int) (x6 : Int) (x7 : Int) :
    (lp C k) cd0 (blkQ C 0 (sq (den C k) (lp C k) Js C cd1 Q)) (St1 x0 x5 x6 x7) = l0 k (fun (x5 : List Int) => j0 (fun (x4 : List Int) => Q .ret (St4 x4)) x5) k x0 x5 x6 x7 :=
  (show (lp C k) cd0 (blkQ C 0 (sq (den C k) (lp C k) Js C cd1 Q)) (St1 x0 x5 x6 x7) = iter (rnd C k cd0 9 (blkQ C 0 (sq (den C k) (lp C k) Js C cd1 Q))) k (St1 x0 x5 x6 x7) by kernel_rfl).trans ((l0_eq k (blkQ C 0 (sq (den C k) (lp C k) Js C cd1 Q)) k x0 x5 x6 x7).trans (l0_congr k _ _ (fun x5 => ((show (blkQ C 0 (sq (den C k) (lp C k) Js C cd1 Q)) (.exit 0) (St2 x5) = (den C k) cd1 Q (St3 x5) by kernel_rfl).trans (by simp only [j0_eq]))) k x0 x5 x6 x7))
def top {α : Type} (k : Nat) (Rt : (List Int) → Option α) (x0 : Int) (x1 : Int) : Option α :=
  l0 k (fun (x5 : List Int) => j0 Rt x5) k x0 [] x1 0
theorem top_eq {α : Type} (k : Nat) (Q : Ex → St → Option α) (x0 : Int) (x1 : Int) :
    (den C k) (cB Try.f85) Q (St0 x0 x1) = top k (fun (x4 : List Int) => Q .ret (St4 x4)) x0 x1 := by
  have h : ∀ (D L : DT α), denJ D L Js C (cB Try.f85) Q (St0 x0 x1) =
        L cd0 (blkQ C 0 (sq D L Js C cd1 Q)) (St1 x0 [] x1 0) := by
    intro D L; kernel_rfl
  refine (show (den C k) (cB Try.f85) Q (St0 x0 x1) = denJ (den C k) (lp C k) Js C (cB Try.f85) Q (St0 x0 x1) from (denJ_den _ _ _ _ _ _).symm).trans ((h (den C k) (lp C k)).trans ?_)
  simp only [a0]
  first | rfl | kernel_rfl
def run (x0 : Int) (x1 : Int) : Option (List Int) := top (α := List Int) fuel (fun (x4 : List Int) => some x4) x0 x1
def F : Fn := ⟨(.pair (.int .u64) (.pair (.int .i64) .unit)), .str, false, fun x => run x.1 x.2.1⟩
set_option maxRecDepth 100000 in
theorem con : Con Try.prog 85 F := by
  refine con_of_den (C := C) (ctx_ok (by kernel_rfl) (by kernel_rfl) (by kernel_rfl) (by kernel_rfl) trivial) (by kernel_rfl) Try.func85 (c := cB Try.f85) (by kernel_rfl) (by kernel_rfl) F fuel (fun x => by simp [F, spread, Try.ntmps85]) ?_
  intro x r h
  rw [← h]
  have h1 : start F Try.f85.ntmps x = (St0 x.1 x.2.1) := by kernel_rfl
  rw [h1]
  refine (top_eq fuel (fin C Try.f85.results.toList F.rs F.multi) x.1 x.2.1).trans ?_
  kernel_rfl
theorem named : Named Try.prog 85 := named_of Try.func85 (by kernel_rfl) (by kernel_rfl)
end Go.Bx.basculeref_big
namespace Go.Bx.basculeref_text
open Go Go.Proofs Go.Bx
set_option maxRecDepth 100000
set_option linter.unusedVariables false
def Js : List Nat := []
def C : Ctx := ⟨[(9, .str), (54, (.int .u64)), (56, (.arr 4 (.int .u64)))], [], [], fnL [(85, Go.Bx.basculeref_big.F)], noSh, [], invL [], [(2, [2])], [], [], 0, 0⟩
def St0 (x0 : List Int) : St := stL 18 [(0, .data (.arr 4 (.int .u64)) x0)] []
def St1 (x2 : List Int) : St := stL 18 [(2, .data .str x2)] []
def top {α : Type} (Rt : (List Int) → Option α) (x0 : List Int) : Option α :=
  (Go.Bx.basculeref_big.run (List.getD x0 3 0) 8).bind fun y1 =>
  (Go.Bx.basculeref_big.run (List.getD x0 2 0) 8).bind fun y2 =>
  if Nat.ble (y1.length + y2.length) 9223372036854775807 = true then
    (Go.Bx.basculeref_big.run (List.getD x0 1 0) 8).bind fun y3 =>
    if Nat.ble ((y1 ++ y2).length + y3.length) 9223372036854775807 = true then
      (Go.Bx.basculeref_big.run (List.getD x0 0 0) 8).bind fun y4 =>
      if Nat.ble (((y1 ++ y2) ++ y3).length + y4.length) 9223372036854775807 = true then
        Rt (((y1 ++ y2) ++ y3) ++ y4)
      else none
    else none
  else none
theorem top_eq {α : Type} (k : Nat) (Q : Ex → St → Option α) (x0 : List Int) :
    (den C k) (cB Try.f86) Q (St0 x0) = top (fun (x2 : List Int) => Q .ret (St1 x2)) x0 := by
  have h : ∀ (D L : DT α), denJ D L Js C (cB Try.f86) Q (St0 x0) =
        (Go.Bx.basculeref_big.run (List.getD x0 3 0) 8).bind fun y1 =>
        (Go.Bx.basculeref_big.run (List.getD x0 2 0) 8).bind fun y2 =>
        if Nat.ble (y1.length + y2.length) 9223372036854775807 = true then
          (Go.Bx.basculeref_big.run (List.getD x0 1 0) 8).bind fun y3 =>
          if Nat.ble ((y1 ++ y2).length + y3.length) 9223372036854775807 = true then
            (Go.Bx.basculeref_big.run (List.getD x0 0 0) 8).bind fun y4 =>
            if Nat.ble (((y1 ++ y2) ++ y3).length + y4.length) 9223372036854775807 = true then
              Q .ret (St1 (((y1 ++ y2) ++ y3) ++ y4))
            else none
          else none
        else none := by
    intro D L; kernel_rfl
  refine (show (den C k) (cB Try.f86) Q (St0 x0) = denJ (den C k) (lp C k) Js C (cB Try.f86) Q (St0 x0) from (denJ_den _ _ _ _ _ _).symm).trans ((h (den C k) (lp C k)).trans ?_)
  first | rfl | kernel_rfl
def run (x0 : List Int) : Option (List Int) := top (α := List Int) (fun (x2 : List Int) => some x2) x0
def F : Fn := ⟨(.pair (.arr 4 (.int .u64)) .unit), .str, false, fun x => run x.1⟩
set_option maxRecDepth 100000 in
theorem con : Con Try.prog 86 F := by
  refine con_of_den (C := C) (ctx_ok (by kernel_rfl) (by kernel_rfl) (by kernel_rfl) (by kernel_rfl) ⟨.inl ⟨Go.Bx.basculeref_big.con, Go.Bx.basculeref_big.named⟩, trivial⟩) (by kernel_rfl) Try.func86 (c := cB Try.f86) (by kernel_rfl) (by kernel_rfl) F fuel (fun x => by simp [F, spread, Try.ntmps86]) ?_
  intro x r h
  rw [← h]
  have h1 : start F Try.f86.ntmps x = (St0 x.1) := by kernel_rfl
  rw [h1]
  refine (top_eq fuel (fin C Try.f86.results.toList F.rs F.multi) x.1).trans ?_
  kernel_rfl
theorem named : Named Try.prog 86 := named_of Try.func86 (by kernel_rfl) (by kernel_rfl)
end Go.Bx.basculeref_text
namespace Go.Bx.basculeref_word
open Go Go.Proofs Go.Bx
set_option maxRecDepth 100000
set_option linter.unusedVariables false
def Js : List Nat := [7]
def C : Ctx := ⟨[(5, (.int .u8)), (9, .str), (69, (.arr 32 (.int .u8)))], [], [], fnL [], noSh, [], invL [], [(2, [2]), (1, [2, 3]), (4, [0, 2, 3, 4]), (9, [0, 2, 3, 4]), (18, [2, 3])], [], [], 0, 0⟩
def St0 (x0 : List Int) : St := stL 21 [(0, .data .str x0)] []
def St1 (x0 : List Int) (x4 : Int) (c2 : List Int) (c3 : List Int) : St := stL 21 [(0, .data .str x0), (2, .ref 2 0 []), (3, .ref 3 0 []), (4, .data (.int .i64) x4)] [(2, .cell (.arr 32 (.int .u8)) (.data (.arr 32 (.int .u8)) c2) false), (3, .cell (.arr 32 (.int .u8)) (.data (.arr 32 (.int .u8)) c3) false)]
noncomputable def cd0 : Code := cL (cL (cR (cL (cR (cR (cB Try.f94))))))
def St2 (c2 : List Int) (c3 : List Int) : St := stL 21 [(2, .ref 2 0 []), (3, .ref 3 0 [])] [(2, .cell (.arr 32 (.int .u8)) (.data (.arr 32 (.int .u8)) c2) false), (3, .cell (.arr 32 (.int .u8)) (.data (.arr 32 (.int .u8)) c3) false)]
def l0s {α : Type} (Nx : (List Int) → Int → (List Int) → (List Int) → Option α) (Xt0 : (List Int) → (List Int) → Option α) (x0 : List Int) (x4 : Int) (c2 : List Int) (c3 : List Int) : Option α :=
  if (cond (decide (x4 < (x0.length : Int))) (decide (x4 < 32)) false) = true then
    if 0 ≤ x4 ∧ x4 < (x0.length : Int) then
      if 0 ≤ x4 ∧ x4 < (32 : Int) then
        Nx x0 (IntKind.i64.wrap (x4 + 1)) c2 (List.set c3 (Int.toNat x4) (List.getD x0 (Int.toNat x4) 0))
      else none
    else none
  else
    Xt0 c2 c3
theorem l0s_eq {α : Type} (k : Nat) (next : St → Option α) (Q : Ex → St → Option α) (x0 : List Int) (x4 : Int) (c2 : List Int) (c3 : List Int) :
    rnd C k cd0 9 Q next (St1 x0 x4 c2 c3) = l0s (fun (x0 : List Int) (x4 : Int) (c2 : List Int) (c3 : List Int) => next (St1 x0 x4 c2 c3)) (fun (c2 : List Int) (c3 : List Int) => Q (.exit 0) (St2 c2 c3)) x0 x4 c2 c3 := by
  have h : ∀ (D L : DT α), denJ D L Js C cd0 (lq C 9 next Q) (St1 x0 x4 c2 c3) =
        if (cond (decide (x4 < (x0.length : Int))) (decide (x4 < 32)) false) = true then
          if 0 ≤ x4 ∧ x4 < (x0.length : Int) then
            if 0 ≤ x4 ∧ x4 < (32 : Int) then
              next (St1 x0 (IntKind.i64.wrap (x4 + 1)) c2 (List.set c3 (Int.toNat x4) (List.getD x0 (Int.toNat x4) 0)))
            else none
          else none
        else
          Q (.exit 0) (St2 c2 c3) := by
    intro D L; kernel_rfl
  refine (show rnd C k cd0 9 Q next (St1 x0 x4 c2 c3) = denJ (den C k) (lp C k) Js C cd0 (lq C 9 next Q) (St1 x0 x4 c2 c3) from (denJ_den _ _ _ _ _ _).symm).trans ((h (den C k) (lp C k)).trans ?_)
  first | rfl | kernel_rfl
def l0 {α : Type} (k : Nat) (Xt0 : (List Int) → (List Int) → Option α) : Nat → (List Int) → Int → (List Int) → (List Int) → Option α
  | 0, _, _, _, _ => none
  | n + 1, x0, x4, c2, c3 => l0s (l0 k Xt0 n) Xt0 x0 x4 c2 c3
theorem l0_eq {α : Type} (k : Nat) (Q : Ex → St → Option α) : ∀ (n : Nat) (x0 : List Int) (x4 : Int) (c2 : List Int) (c3 : List Int), iter (rnd C k cd0 9 Q) n (St1 x0 x4 c2 c3) = l0 k (fun (c2 : List Int) (c3 : List Int) => Q (.exit 0) (St2 c2 c3)) n x0 x4 c2 c3
  | 0, _, _, _, _ => rfl
  | n + 1, x0, x4, c2, c3 => (iter_succ _ _ _).trans ((l0s_eq k (iter (rnd C k cd0 9 Q) n) Q x0 x4 c2 c3).trans (congrArg (fun N => l0s N (fun (c2 : List Int) (c3 : List Int) => Q (.exit 0) (St2 c2 c3)) x0 x4 c2 c3) (funext fun x0 => funext fun x4 => funext fun c2 => funext fun c3 => l0_eq k Q n x0 x4 c2 c3)))
theorem l0_congr {α : Type} (k : Nat) (Xt0 : (List Int) → (List Int) → Option α) (Xt0q : (List Int) → (List Int) → Option α) (hXt0 : ∀ (c2 : List Int) (c3 : List Int), Xt0 c2 c3 = Xt0q c2 c3) (n : Nat) (x0 : List Int) (x4 : Int) (c2 : List Int) (c3 : List Int) : l0 k Xt0 n x0 x4 c2 c3 = l0 k Xt0q n x0 x4 c2 c3 := by
  obtain rfl : Xt0 = Xt0q := by funext c2; funext c3; exact hXt0 c2 c3
  rfl
noncomputable def cd1 : Code := cR (cR (cR (cB Try.f94)))
def St3 (c2 : List Int) (c3 : List Int) : St := stL 21 [(2, .ref 2 0 []), (3, .ref 3 0 [])] [(2, .cell (.arr 32 (.int .u8)) (.data (.arr 32 (.int .u8)) c2) false), (3, .cell (.arr 32 (.int .u8)) (.data (.arr 32 (.int .u8)) c3) false)]
def St4 (c2 : List Int) : St := stL 21 [(2, .ref 2 0 [])] [(2, .cell (.arr 32 (.int .u8)) (.data (.arr 32 (.int .u8)) c2) false)]
def j0 {α : Type} (Rt : (List Int) → Option α) (c2 : List Int) (c3 : List Int) : Option α :=
  Rt c3
theorem j0_eq {α : Type} (k : Nat) (Q : Ex → St → Option α) (c2 : List Int) (c3 : List Int) :
    (den C k) cd1 Q (St3 c2 c3) = j0 (fun (c2 : List Int) => Q .ret (St4 c2)) c2 c3 := by
  have h : ∀ (D L : DT α), denJ D L Js C cd1 Q (St3 c2 c3) =
        Q .ret (St4 c3) := by
    intro D L; kernel_rfl
  refine (show (den C k) cd1 Q (St3 c2 c3) = denJ (den C k) (lp C k) Js C cd1 Q (St3 c2 c3) from (denJ_den _ _ _ _ _ _).symm).trans ((h (den C k) (lp C k)).trans ?_)
  first | rfl | kernel_rfl
theorem a0 {α : Type} (k : Nat) (Q : Ex → St → Option α) (x0 : List Int) (x4 : Int) (c2 : List Int) (c3 : List Int) :
    (lp C k) cd0 (blkQ C 0 (sq (den C k) (lp C k) Js C cd1 Q)) (St1 x0 x4 c2 c3) = l0 k (fun (c2 : List Int) (c3 : List Int) => j0 (fun (c2 : List Int) => Q .ret (St4 c2)) c2 c3) k x0 x4 c2 c3 :=
  (show (lp C k) cd0 (blkQ C 0 (sq (den C k) (lp C k) Js C cd1 Q)) (St1 x0 x4 c2 c3) = iter (rnd C k cd0 9 (blkQ C 0 (sq (den C k) (lp C k) Js C cd1 Q))) k (St1 x0 x4 c2 c3) by kernel_rfl).trans ((l0_eq k (blkQ C 0 (sq (den C k) (lp C k) Js C cd1 Q)) k x0 x4 c2 c3).trans (l0_congr k _ _ (fun c2 c3 => ((show (blkQ C 0 (sq (den C k) (lp C k) Js C cd1 Q)) (.exit 0) (St2 c2 c3) = (den C k) cd1 Q (St3 c2 c3) by kernel_rfl).trans (by simp only [j0_eq]))) k x0 x4 c2 c3))
def top {α : Type} (k : Nat) (Rt : (List Int) → Option α) (x0 : List Int) : Option α :=
  l0 k (fun (c2 : List Int) (c3 : List Int) => j0 Rt c2 c3) k x0 0 (List.replicate 32 0) (List.replicate 32 0)
theorem top_eq {α : Type} (k : Nat) (Q : Ex → St → Option α) (x0 : List Int) :
    (den C k) (cB Try.f94) Q (St0 x0) = top k (fun (c2 : List Int) => Q .ret (St4 c2)) x0 := by
  have h : ∀ (D L : DT α), denJ D L Js C (cB Try.f94) Q (St0 x0) =
        L cd0 (blkQ C 0 (sq D L Js C cd1 Q)) (St1 x0 0 (List.replicate 32 0) (List.replicate 32 0)) := by
    intro D L; kernel_rfl
  refine (show (den C k) (cB Try.f94) Q (St0 x0) = denJ (den C k) (lp C k) Js C (cB Try.f94) Q (St0 x0) from (denJ_den _ _ _ _ _ _).symm).trans ((h (den C k) (lp C k)).trans ?_)
  simp only [a0]
  first | rfl | kernel_rfl
def run (x0 : List Int) : Option (List Int) := top (α := List Int) fuel (fun (c2 : List Int) => some c2) x0
def F : Fn := ⟨(.pair .str .unit), (.arr 32 (.int .u8)), false, fun x => run x.1⟩
set_option maxRecDepth 100000 in
theorem con : Con Try.prog 94 F := by
  refine con_of_den (C := C) (ctx_ok (by kernel_rfl) (by kernel_rfl) (by kernel_rfl) (by kernel_rfl) trivial) (by kernel_rfl) Try.func94 (c := cB Try.f94) (by kernel_rfl) (by kernel_rfl) F fuel (fun x => by simp [F, spread, Try.ntmps94]) ?_
  intro x r h
  rw [← h]
  have h1 : start F Try.f94.ntmps x = (St0 x.1) := by kernel_rfl
  rw [h1]
  refine (top_eq fuel (fin C Try.f94.results.toList F.rs F.multi) x.1).trans ?_
  kernel_rfl
theorem named : Named Try.prog 94 := named_of Try.func94 (by kernel_rfl) (by kernel_rfl)
end Go.Bx.basculeref_word
namespace Go.Bx.basculeref_number
open Go Go.Proofs Go.Bx
set_option maxRecDepth 100000
set_option linter.unusedVariables false
def Js : List Nat := [7]
def C : Ctx := ⟨[(3, (.int .i64)), (5, (.int .u8)), (9, .str), (54, (.int .u64))], [], [], fnL [], noSh, [], invL [], [(2, [2]), (1, [3]), (4, [0, 3, 4]), (9, [0, 3, 4]), (18, [3])], [], [], 0, 0⟩
def St0 (x0 : List Int) : St := stL 20 [(0, .data .str x0)] []
def St1 (x0 : List Int) (x3 : Int) (x4 : Int) : St := stL 20 [(0, .data .str x0), (3, .data (.int .u64) x3), (4, .data (.int .i64) x4)] []
noncomputable def cd0 : Code := cL (cL (cR (cL (cR (cR (cB Try.f92))))))
def St2 (x3 : Int) : St := stL 20 [(3, .data (.int .u64) x3)] []
def l0s {α : Type} (Nx : (List Int) → Int → Int → Option α) (Xt0 : Int → Option α) (x0 : List Int) (x3 : Int) (x4 : Int) : Option α :=
  if (decide (x4 < (x0.length : Int))) = true then
    if 0 ≤ x4 ∧ x4 < (x0.length : Int) then
      Nx x0 (IntKind.u64.wrap ((IntKind.u64.wrap (x3 * 256)) + (IntKind.u64.wrap (List.getD x0 (Int.toNat x4) 0)))) (IntKind.i64.wrap (x4 + 1))
    else none
  else
    Xt0 x3
theorem l0s_eq {α : Type} (k : Nat) (next : St → Option α) (Q : Ex → St → Option α) (x0 : List Int) (x3 : Int) (x4 : Int) :
    rnd C k cd0 9 Q next (St1 x0 x3 x4) = l0s (fun (x0 : List Int) (x3 : Int) (x4 : Int) => next (St1 x0 x3 x4)) (fun (x3 : Int) => Q (.exit 0) (St2 x3)) x0 x3 x4 := by
  have h : ∀ (D L : DT α), denJ D L Js C cd0 (lq C 9 next Q) (St1 x0 x3 x4) =
        if (decide (x4 < (x0.length : Int))) = true then
          if 0 ≤ x4 ∧ x4 < (x0.length : Int) then
            next (St1 x0 (IntKind.u64.wrap ((IntKind.u64.wrap (x3 * 256)) + (IntKind.u64.wrap (List.getD x0 (Int.toNat x4) 0)))) (IntKind.i64.wrap (x4 + 1)))
          else none
        else
          Q (.exit 0) (St2 x3) := by
    intro D L; kernel_rfl
  refine (show rnd C k cd0 9 Q next (St1 x0 x3 x4) = denJ (den C k) (lp C k) Js C cd0 (lq C 9 next Q) (St1 x0 x3 x4) from (denJ_den _ _ _ _ _ _).symm).trans ((h (den C k) (lp C k)).trans ?_)
  first | rfl | kernel_rfl
def l0 {α : Type} (k : Nat) (Xt0 : Int → Option α) : Nat → (List Int) → Int → Int → Option α
  | 0, _, _, _ => none
  | n + 1, x0, x3, x4 => l0s (l0 k Xt0 n) Xt0 x0 x3 x4
theorem l0_eq {α : Type} (k : Nat) (Q : Ex → St → Option α) : ∀ (n : Nat) (x0 : List Int) (x3 : Int) (x4 : Int), iter (rnd C k cd0 9 Q) n (St1 x0 x3 x4) = l0 k (fun (x3 : Int) => Q (.exit 0) (St2 x3)) n x0 x3 x4
  | 0, _, _, _ => rfl
  | n + 1, x0, x3, x4 => (iter_succ _ _ _).trans ((l0s_eq k (iter (rnd C k cd0 9 Q) n) Q x0 x3 x4).trans (congrArg (fun N => l0s N (fun (x3 : Int) => Q (.exit 0) (St2 x3)) x0 x3 x4) (funext fun x0 => funext fun x3 => funext fun x4 => l0_eq k Q n x0 x3 x4)))
theorem l0_congr {α : Type} (k : Nat) (Xt0 : Int → Option α) (Xt0q : Int → Option α) (hXt0 : ∀ (x3 : Int), Xt0 x3 = Xt0q x3) (n : Nat) (x0 : List Int) (x3 : Int) (x4 : Int) : l0 k Xt0 n x0 x3 x4 = l0 k Xt0q n x0 x3 x4 := by
  obtain rfl : Xt0 = Xt0q := by funext x3; exact hXt0 x3
  rfl
noncomputable def cd1 : Code := cR (cR (cR (cB Try.f92)))
def St3 (x3 : Int) : St := stL 20 [(3, .data (.int .u64) x3)] []
def St4 (x2 : Int) : St := stL 20 [(2, .data (.int .i64) x2)] []
def j0 {α : Type} (Rt : Int → Option α) (x3 : Int) : Option α :=
  Rt (IntKind.i64.wrap x3)
theorem j0_eq {α : Type} (k : Nat) (Q : Ex → St → Option α) (x3 : Int) :
    (den C k) cd1 Q (St3 x3) = j0 (fun (x2 : Int) => Q .ret (St4 x2)) x3 := by
  have h : ∀ (D L : DT α), denJ D L Js C cd1 Q (St3 x3) =
        Q .ret (St4 (IntKind.i64.wrap x3)) := by
    intro D L; kernel_rfl
  refine (show (den C k) cd1 Q (St3 x3) = denJ (den C k) (lp C k) Js C cd1 Q (St3 x3) from (denJ_den _ _ _ _ _ _).symm).trans ((h (den C k) (lp C k)).trans ?_)
  first | rfl | kernel_rfl
theorem a0 {α : Type} (k : Nat) (Q : Ex → St → Option α) (x0 : List Int) (x3 : Int) (x4 : Int) :
    (lp C k) cd0 (blkQ C 0 (sq (den C k) (lp C k) Js C cd1 Q)) (St1 x0 x3 x4) = l0 k (fun (x3 : Int) => j0 (fun (x2 : Int) => Q .ret (St4 x2)) x3) k x0 x3 x4 :=
  (show (lp C k) cd0 (blkQ C 0 (sq (den C k) (lp C k) Js C cd1 Q)) (St1 x0 x3 x4) = iter (rnd C k cd0 9 (blkQ C 0 (sq (den C k) (lp C k) Js C cd1 Q))) k (St1 x0 x3 x4) by kernel_rfl).trans ((l0_eq k (blkQ C 0 (sq (den C k) (lp C k) Js C cd1 Q)) k x0 x3 x4).trans (l0_congr k _ _ (fun x3 => ((show (blkQ C 0 (sq (den C k) (lp C k) Js C cd1 Q)) (.exit 0) (St2 x3) = (den C k) cd1 Q (St3 x3) by kernel_rfl).trans (by simp only [j0_eq]))) k x0 x3 x4))
def top {α : Type} (k : Nat) (Rt : Int → Option α) (x0 : List Int) : Option α :=
  l0 k (fun (x3 : Int) => j0 Rt x3) k x0 0 0
theorem top_eq {α : Type} (k : Nat) (Q : Ex → St → Option α) (x0 : List Int) :
    (den C k) (cB Try.f92) Q (St0 x0) = top k (fun (x2 : Int) => Q .ret (St4 x2)) x0 := by
  have h : ∀ (D L : DT α), denJ D L Js C (cB Try.f92) Q (St0 x0) =
        L cd0 (blkQ C 0 (sq D L Js C cd1 Q)) (St1 x0 0 0) := by
    intro D L; kernel_rfl
  refine (show (den C k) (cB Try.f92) Q (St0 x0) = denJ (den C k) (lp C k) Js C (cB Try.f92) Q (St0 x0) from (denJ_den _ _ _ _ _ _).symm).trans ((h (den C k) (lp C k)).trans ?_)
  simp only [a0]
  first | rfl | kernel_rfl
def run (x0 : List Int) : Option (Int) := top (α := Int) fuel (fun (x2 : Int) => some x2) x0
def F : Fn := ⟨(.pair .str .unit), (.int .i64), false, fun x => run x.1⟩
set_option maxRecDepth 100000 in
theorem con : Con Try.prog 92 F := by
  refine con_of_den (C := C) (ctx_ok (by kernel_rfl) (by kernel_rfl) (by kernel_rfl) (by kernel_rfl) trivial) (by kernel_rfl) Try.func92 (c := cB Try.f92) (by kernel_rfl) (by kernel_rfl) F fuel (fun x => by simp [F, spread, Try.ntmps92]) ?_
  intro x r h
  rw [← h]
  have h1 : start F Try.f92.ntmps x = (St0 x.1) := by kernel_rfl
  rw [h1]
  refine (top_eq fuel (fin C Try.f92.results.toList F.rs F.multi) x.1).trans ?_
  kernel_rfl
theorem named : Named Try.prog 92 := named_of Try.func92 (by kernel_rfl) (by kernel_rfl)
end Go.Bx.basculeref_number
namespace Go.Bx.load_join
open Go Go.Proofs Go.Bx
set_option maxRecDepth 100000
set_option linter.unusedVariables false
def Js : List Nat := [8]
def C : Ctx := ⟨[(59, (.sl (.int .u8))), (213, (.sl (.sl (.int .u8))))], [], [], fnL [], noSh, [], invL [], [(2, [2]), (1, [3]), (4, [3, 6, 7, 8]), (9, [3, 6, 7, 8]), (21, [3])], [(9, [.melt true 3 [] 14 true])], [], 0, 0⟩
def St0 (x0 : List (List Int)) : St := stL 17 [(0, .data (.sl (.sl (.int .u8))) x0)] []
def St1 (x6 : List (List Int)) (x7 : Int) (x8 : Int) (c14 : List Int) : St := stL 17 [(3, .app 14 0), (6, .data (.sl (.sl (.int .u8))) x6), (7, .data (.int .i64) x7), (8, .data (.int .i64) x8)] [(14, .buf (.int .u8) c14 0 true)]
noncomputable def cd0 : Code := cL (cL (cR (cL (cR (cR (cB Try.f146))))))
def St2 (c14 : List Int) : St := stL 17 [(3, .app 14 0)] [(14, .buf (.int .u8) c14 0 true)]
def l0s {α : Type} (Nx : (List (List Int)) → Int → Int → (List Int) → Option α) (Xt0 : (List Int) → Option α) (x6 : List (List Int)) (x7 : Int) (x8 : Int) (c14 : List Int) : Option α :=
  if (decide (x8 < x7)) = true then
    if 0 ≤ x8 ∧ x8 < (x6.length : Int) then
      if fitB (c14.length + (List.getD x6 (Int.toNat x8) []).length) 1 = true then
        Nx x6 x7 (IntKind.i64.wrap (x8 + 1)) (c14 ++ (List.getD x6 (Int.toNat x8) []))
      else none
    else none
  else
    Xt0 c14
theorem l0s_eq {α : Type} (k : Nat) (next : St → Option α) (Q : Ex → St → Option α) (x6 : List (List Int)) (x7 : Int) (x8 : Int) (c14 : List Int) :
    rnd C k cd0 9 Q next (St1 x6 x7 x8 c14) = l0s (fun (x6 : List (List Int)) (x7 : Int) (x8 : Int) (c14 : List Int) => next (St1 x6 x7 x8 c14)) (fun (c14 : List Int) => Q (.exit 0) (St2 c14)) x6 x7 x8 c14 := by
  have h : ∀ (D L : DT α), denJ D L Js C cd0 (lq C 9 next Q) (St1 x6 x7 x8 c14) =
        if (decide (x8 < x7)) = true then
          if 0 ≤ x8 ∧ x8 < (x6.length : Int) then
            if fitB (c14.length + (List.getD x6 (Int.toNat x8) []).length) 1 = true then
              next (St1 x6 x7 (IntKind.i64.wrap (x8 + 1)) (c14 ++ (List.getD x6 (Int.toNat x8) [])))
            else none
          else none
        else
          Q (.exit 0) (St2 c14) := by
    intro D L; kernel_rfl
  refine (show rnd C k cd0 9 Q next (St1 x6 x7 x8 c14) = denJ (den C k) (lp C k) Js C cd0 (lq C 9 next Q) (St1 x6 x7 x8 c14) from (denJ_den _ _ _ _ _ _).symm).trans ((h (den C k) (lp C k)).trans ?_)
  first | rfl | kernel_rfl
def l0 {α : Type} (k : Nat) (Xt0 : (List Int) → Option α) : Nat → (List (List Int)) → Int → Int → (List Int) → Option α
  | 0, _, _, _, _ => none
  | n + 1, x6, x7, x8, c14 => l0s (l0 k Xt0 n) Xt0 x6 x7 x8 c14
theorem l0_eq {α : Type} (k : Nat) (Q : Ex → St → Option α) : ∀ (n : Nat) (x6 : List (List Int)) (x7 : Int) (x8 : Int) (c14 : List Int), iter (rnd C k cd0 9 Q) n (St1 x6 x7 x8 c14) = l0 k (fun (c14 : List Int) => Q (.exit 0) (St2 c14)) n x6 x7 x8 c14
  | 0, _, _, _, _ => rfl
  | n + 1, x6, x7, x8, c14 => (iter_succ _ _ _).trans ((l0s_eq k (iter (rnd C k cd0 9 Q) n) Q x6 x7 x8 c14).trans (congrArg (fun N => l0s N (fun (c14 : List Int) => Q (.exit 0) (St2 c14)) x6 x7 x8 c14) (funext fun x6 => funext fun x7 => funext fun x8 => funext fun c14 => l0_eq k Q n x6 x7 x8 c14)))
theorem l0_congr {α : Type} (k : Nat) (Xt0 : (List Int) → Option α) (Xt0q : (List Int) → Option α) (hXt0 : ∀ (c14 : List Int), Xt0 c14 = Xt0q c14) (n : Nat) (x6 : List (List Int)) (x7 : Int) (x8 : Int) (c14 : List Int) : l0 k Xt0 n x6 x7 x8 c14 = l0 k Xt0q n x6 x7 x8 c14 := by
  obtain rfl : Xt0 = Xt0q := by funext c14; exact hXt0 c14
  rfl
noncomputable def cd1 : Code := cR (cR (cR (cB Try.f146)))
def St3 (c14 : List Int) : St := stL 17 [(3, .app 14 0)] [(14, .buf (.int .u8) c14 0 true)]
def St4 (c14 : List Int) : St := stL 17 [(2, .app 14 0)] [(14, .buf (.int .u8) c14 0 true)]
def j0 {α : Type} (Rt : (List Int) → Option α) (c14 : List Int) : Option α :=
  Rt c14
theorem j0_eq {α : Type} (k : Nat) (Q : Ex → St → Option α) (c14 : List Int) :
    (den C k) cd1 Q (St3 c14) = j0 (fun (c14 : List Int) => Q .ret (St4 c14)) c14 := by
  have h : ∀ (D L : DT α), denJ D L Js C cd1 Q (St3 c14) =
        Q .ret (St4 c14) := by
    intro D L; kernel_rfl
  refine (show (den C k) cd1 Q (St3 c14) = denJ (den C k) (lp C k) Js C cd1 Q (St3 c14) from (denJ_den _ _ _ _ _ _).symm).trans ((h (den C k) (lp C k)).trans ?_)
  first | rfl | kernel_rfl
theorem a0 {α : Type} (k : Nat) (Q : Ex → St → Option α) (x6 : List (List Int)) (x7 : Int) (x8 : Int) (c14 : List Int) :
    (lp C k) cd0 (blkQ C 0 (sq (den C k) (lp C k) Js C cd1 Q)) (St1 x6 x7 x8 c14) = l0 k (fun (c14 : List Int) => j0 (fun (c14 : List Int) => Q .ret (St4 c14)) c14) k x6 x7 x8 c14 :=
  (show (lp C k) cd0 (blkQ C 0 (sq (den C k) (lp C k) Js C cd1 Q)) (St1 x6 x7 x8 c14) = iter (rnd C k cd0 9 (blkQ C 0 (sq (den C k) (lp C k) Js C cd1 Q))) k (St1 x6 x7 x8 c14) by kernel_rfl).trans ((l0_eq k (blkQ C 0 (sq (den C k) (lp C k) Js C cd1 Q)) k x6 x7 x8 c14).trans (l0_congr k _ _ (fun c14 => ((show (blkQ C 0 (sq (den C k) (lp C k) Js C cd1 Q)) (.exit 0) (St2 c14) = (den C k) cd1 Q (St3 c14) by kernel_rfl).trans (by simp only [j0_eq]))) k x6 x7 x8 c14))
def top {α : Type} (k : Nat) (Rt : (List Int) → Option α) (x0 : List (List Int)) : Option α :=
  l0 k (fun (c14 : List Int) => j0 Rt c14) k x0 (x0.length : Int) 0 []
theorem top_eq {α : Type} (k : Nat) (Q : Ex → St → Option α) (x0 : List (List Int)) :
    (den C k) (cB Try.f146) Q (St0 x0) = top k (fun (c14 : List Int) => Q .ret (St4 c14)) x0 := by
  have h : ∀ (D L : DT α), denJ D L Js C (cB Try.f146) Q (St0 x0) =
        L cd0 (blkQ C 0 (sq D L Js C cd1 Q)) (St1 x0 (x0.length : Int) 0 []) := by
    intro D L; kernel_rfl
  refine (show (den C k) (cB Try.f146) Q (St0 x0) = denJ (den C k) (lp C k) Js C (cB Try.f146) Q (St0 x0) from (denJ_den _ _ _ _ _ _).symm).trans ((h (den C k) (lp C k)).trans ?_)
  simp only [a0]
  first | rfl | kernel_rfl
def run (x0 : List (List Int)) : Option (List Int) := top (α := List Int) fuel (fun (c14 : List Int) => some c14) x0
def F : Fn := ⟨(.pair (.sl (.sl (.int .u8))) .unit), (.sl (.int .u8)), false, fun x => run x.1⟩
set_option maxRecDepth 100000 in
theorem con : Con Try.prog 146 F := by
  refine con_of_den (C := C) (ctx_ok (by kernel_rfl) (by kernel_rfl) (by kernel_rfl) (by kernel_rfl) trivial) (by kernel_rfl) Try.func146 (c := cB Try.f146) (by kernel_rfl) (by kernel_rfl) F fuel (fun x => by simp [F, spread, Try.ntmps146]) ?_
  intro x r h
  rw [← h]
  have h1 : start F Try.f146.ntmps x = (St0 x.1) := by kernel_rfl
  rw [h1]
  refine (top_eq fuel (fin C Try.f146.results.toList F.rs F.multi) x.1).trans ?_
  kernel_rfl
theorem named : Named Try.prog 146 := named_of Try.func146 (by kernel_rfl) (by kernel_rfl)
end Go.Bx.load_join
namespace Go.Bx.load_two
open Go Go.Proofs Go.Bx
set_option maxRecDepth 100000
set_option linter.unusedVariables false
def Js : List Nat := []
def C : Ctx := ⟨[(3, (.int .i64)), (5, (.int .u8)), (59, (.sl (.int .u8)))], [], [], fnL [], noSh, [], invL [], [(2, [2])], [], [], 0, 0⟩
def St0 (x0 : Int) : St := stL 9 [(0, .data (.int .i64) x0)] []
def St1 (x2 : List Int) : St := stL 9 [(2, .full (.int .u8) x2)] []
def top {α : Type} (Rt : (List Int) → Option α) (x0 : Int) : Option α :=
  Rt [(IntKind.u8.wrap (shrI .i64 x0 8)), (IntKind.u8.wrap x0)]
theorem top_eq {α : Type} (k : Nat) (Q : Ex → St → Option α) (x0 : Int) :
    (den C k) (cB Try.f147) Q (St0 x0) = top (fun (x2 : List Int) => Q .ret (St1 x2)) x0 := by
  have h : ∀ (D L : DT α), denJ D L Js C (cB Try.f147) Q (St0 x0) =
        Q .ret (St1 [(IntKind.u8.wrap (shrI .i64 x0 8)), (IntKind.u8.wrap x0)]) := by
    intro D L; kernel_rfl
  refine (show (den C k) (cB Try.f147) Q (St0 x0) = denJ (den C k) (lp C k) Js C (cB Try.f147) Q (St0 x0) from (denJ_den _ _ _ _ _ _).symm).trans ((h (den C k) (lp C k)).trans ?_)
  first | rfl | kernel_rfl
def run (x0 : Int) : Option (List Int) := top (α := List Int) (fun (x2 : List Int) => some x2) x0
def F : Fn := ⟨(.pair (.int .i64) .unit), (.sl (.int .u8)), false, fun x => run x.1⟩
set_option maxRecDepth 100000 in
theorem con : Con Try.prog 147 F := by
  refine con_of_den (C := C) (ctx_ok (by kernel_rfl) (by kernel_rfl) (by kernel_rfl) (by kernel_rfl) trivial) (by kernel_rfl) Try.func147 (c := cB Try.f147) (by kernel_rfl) (by kernel_rfl) F fuel (fun x => by simp [F, spread, Try.ntmps147]) ?_
  intro x r h
  rw [← h]
  have h1 : start F Try.f147.ntmps x = (St0 x.1) := by kernel_rfl
  rw [h1]
  refine (top_eq fuel (fin C Try.f147.results.toList F.rs F.multi) x.1).trans ?_
  kernel_rfl
theorem named : Named Try.prog 147 := named_of Try.func147 (by kernel_rfl) (by kernel_rfl)
end Go.Bx.load_two
namespace Go.Bx.load_transfer__put
open Go Go.Proofs Go.Bx
set_option maxRecDepth 100000
set_option linter.unusedVariables false
def Js : List Nat := []
def C : Ctx := ⟨[(3, (.int .i64)), (56, (.arr 4 (.int .u64))), (59, (.sl (.int .u8))), (69, (.arr 32 (.int .u8))), (71, (.pair (.int .i64) (.pair (.arr 4 (.int .u64)) (.pair (.arr 4 (.int .u64)) (.pair (.arr 32 (.int .u8)) (.pair (.int .i64) (.pair (.arr 32 (.int .u8)) (.pair (.int .i64) (.pair (.int .i64) (.pair .str (.pair (.sl (.int .u8)) (.pair (.int .i64) (.pair (.sl (.arr 20 (.int .u8))) .unit))))))))))))), (180, (.pair .bool .unit)), (213, (.sl (.sl (.int .u8))))], [], [], fnL [(81, Go.Bx.wide_Bytes.F), (146, Go.Bx.load_join.F), (147, Go.Bx.load_two.F)], noSh, [], invL [], [(2, [4])], [], [], 0, 0⟩
def St0 (x0 : Bool × Unit) (x1 : Int × List Int × List Int × List Int × Int × List Int × Int × Int × List Int × List Int × Int × List (List Int) × Unit) : St := stL 29 [(0, .data (.pair .bool .unit) x0), (1, .data (.pair (.int .i64) (.pair (.arr 4 (.int .u64)) (.pair (.arr 4 (.int .u64)) (.pair (.arr 32 (.int .u8)) (.pair (.int .i64) (.pair (.arr 32 (.int .u8)) (.pair (.int .i64) (.pair (.int .i64) (.pair .str (.pair (.sl (.int .u8)) (.pair (.int .i64) (.pair (.sl (.arr 20 (.int .u8))) .unit)))))))))))) x1)] []
def St1 (x4 : List Int) : St := stL 29 [(4, .data (.sl (.int .u8)) x4)] []
def top {α : Type} (Rt : (List Int) → Option α) (x0 : Bool × Unit) (x1 : Int × List Int × List Int × List Int × Int × List Int × Int × Int × List Int × List Int × Int × List (List Int) × Unit) : Option α :=
  (Go.Bx.wide_Bytes.run x1.2.1).bind fun y1 =>
  (Go.Bx.wide_Bytes.run x1.2.2.1).bind fun y2 =>
  (Go.Bx.load_two.run x1.2.2.2.2.1).bind fun y3 =>
  (Go.Bx.load_two.run x1.2.2.2.2.2.2.1).bind fun y4 =>
  (Go.Bx.load_join.run [(cutL y1 0 32), (cutL x1.2.2.2.1 0 32), y3, (cutL x1.2.2.2.2.2.1 0 32), y4, (cutL y2 0 32), x1.2.2.2.2.2.2.2.2.2.1]).bind fun y5 =>
  Rt y5
theorem top_eq {α : Type} (k : Nat) (Q : Ex → St → Option α) (x0 : Bool × Unit) (x1 : Int × List Int × List Int × List Int × Int × List Int × Int × Int × List Int × List Int × Int × List (List Int) × Unit) :
    (den C k) (cB Try.f142) Q (St0 x0 x1) = top (fun (x4 : List Int) => Q .ret (St1 x4)) x0 x1 := by
  have h : ∀ (D L : DT α), denJ D L Js C (cB Try.f142) Q (St0 x0 x1) =
        (Go.Bx.wide_Bytes.run x1.2.1).bind fun y1 =>
        (Go.Bx.wide_Bytes.run x1.2.2.1).bind fun y2 =>
        (Go.Bx.load_two.run x1.2.2.2.2.1).bind fun y3 =>
        (Go.Bx.load_two.run x1.2.2.2.2.2.2.1).bind fun y4 =>
        (Go.Bx.load_join.run [(cutL y1 0 32), (cutL x1.2.2.2.1 0 32), y3, (cutL x1.2.2.2.2.2.1 0 32), y4, (cutL y2 0 32), x1.2.2.2.2.2.2.2.2.2.1]).bind fun y5 =>
        Q .ret (St1 y5) := by
    intro D L; kernel_rfl
  refine (show (den C k) (cB Try.f142) Q (St0 x0 x1) = denJ (den C k) (lp C k) Js C (cB Try.f142) Q (St0 x0 x1) from (denJ_den _ _ _ _ _ _).symm).trans ((h (den C k) (lp C k)).trans ?_)
  first | rfl | kernel_rfl
def run (x0 : Bool × Unit) (x1 : Int × List Int × List Int × List Int × Int × List Int × Int × Int × List Int × List Int × Int × List (List Int) × Unit) : Option (List Int) := top (α := List Int) (fun (x4 : List Int) => some x4) x0 x1
def F : Fn := ⟨(.pair (.pair .bool .unit) (.pair (.pair (.int .i64) (.pair (.arr 4 (.int .u64)) (.pair (.arr 4 (.int .u64)) (.pair (.arr 32 (.int .u8)) (.pair (.int .i64) (.pair (.arr 32 (.int .u8)) (.pair (.int .i64) (.pair (.int .i64) (.pair .str (.pair (.sl (.int .u8)) (.pair (.int .i64) (.pair (.sl (.arr 20 (.int .u8))) .unit)))))))))))) .unit)), (.sl (.int .u8)), false, fun x => run x.1 x.2.1⟩
set_option maxRecDepth 100000 in
theorem con : Con Try.prog 142 F := by
  refine con_of_den (C := C) (ctx_ok (by kernel_rfl) (by kernel_rfl) (by kernel_rfl) (by kernel_rfl) ⟨.inl ⟨Go.Bx.wide_Bytes.con, Go.Bx.wide_Bytes.named⟩, ⟨.inl ⟨Go.Bx.load_join.con, Go.Bx.load_join.named⟩, ⟨.inl ⟨Go.Bx.load_two.con, Go.Bx.load_two.named⟩, trivial⟩⟩⟩) (by kernel_rfl) Try.func142 (c := cB Try.f142) (by kernel_rfl) (by kernel_rfl) F fuel (fun x => by simp [F, spread, Try.ntmps142]) ?_
  intro x r h
  rw [← h]
  have h1 : start F Try.f142.ntmps x = (St0 x.1 x.2.1) := by kernel_rfl
  rw [h1]
  refine (top_eq fuel (fin C Try.f142.results.toList F.rs F.multi) x.1 x.2.1).trans ?_
  kernel_rfl
theorem named : Named Try.prog 142 := named_of Try.func142 (by kernel_rfl) (by kernel_rfl)
end Go.Bx.load_transfer__put
namespace Go.Bx.load_word
open Go Go.Proofs Go.Bx
set_option maxRecDepth 100000
set_option linter.unusedVariables false
def Js : List Nat := []
def C : Ctx := ⟨[(59, (.sl (.int .u8))), (69, (.arr 32 (.int .u8)))], [], [], fnL [], noSh, [], invL [], [(2, [2])], [], [], 0, 0⟩
def St0 (x0 : List Int) : St := stL 8 [(0, .data (.sl (.int .u8)) x0)] []
def St1 (c2 : List Int) : St := stL 8 [(2, .ref 2 0 [])] [(2, .cell (.arr 32 (.int .u8)) (.data (.arr 32 (.int .u8)) c2) false)]
def top {α : Type} (Rt : (List Int) → Option α) (x0 : List Int) : Option α :=
  Rt (cpyL (List.replicate 32 0) 0 32 x0)
theorem top_eq {α : Type} (k : Nat) (Q : Ex → St → Option α) (x0 : List Int) :
    (den C k) (cB Try.f145) Q (St0 x0) = top (fun (c2 : List Int) => Q .ret (St1 c2)) x0 := by
  have h : ∀ (D L : DT α), denJ D L Js C (cB Try.f145) Q (St0 x0) =
        Q .ret (St1 (cpyL (List.replicate 32 0) 0 32 x0)) := by
    intro D L; kernel_rfl
  refine (show (den C k) (cB Try.f145) Q (St0 x0) = denJ (den C k) (lp C k) Js C (cB Try.f145) Q (St0 x0) from (denJ_den _ _ _ _ _ _).symm).trans ((h (den C k) (lp C k)).trans ?_)
  first | rfl | kernel_rfl
def run (x0 : List Int) : Option (List Int) := top (α := List Int) (fun (c2 : List Int) => some c2) x0
def F : Fn := ⟨(.pair (.sl (.int .u8)) .unit), (.arr 32 (.int .u8)), false, fun x => run x.1⟩
set_option maxRecDepth 100000 in
theorem con : Con Try.prog 145 F := by
  refine con_of_den (C := C) (ctx_ok (by kernel_rfl) (by kernel_rfl) (by kernel_rfl) (by kernel_rfl) trivial) (by kernel_rfl) Try.func145 (c := cB Try.f145) (by kernel_rfl) (by kernel_rfl) F fuel (fun x => by simp [F, spread, Try.ntmps145]) ?_
  intro x r h
  rw [← h]
  have h1 : start F Try.f145.ntmps x = (St0 x.1) := by kernel_rfl
  rw [h1]
  refine (top_eq fuel (fin C Try.f145.results.toList F.rs F.multi) x.1).trans ?_
  kernel_rfl
theorem named : Named Try.prog 145 := named_of Try.func145 (by kernel_rfl) (by kernel_rfl)
end Go.Bx.load_word
namespace Go.Bx.load_meta__put
open Go Go.Proofs Go.Bx
set_option maxRecDepth 100000
set_option linter.unusedVariables false
def Js : List Nat := []
def C : Ctx := ⟨[(3, (.int .i64)), (5, (.int .u8)), (9, .str), (59, (.sl (.int .u8))), (69, (.arr 32 (.int .u8))), (71, (.pair (.int .i64) (.pair (.arr 4 (.int .u64)) (.pair (.arr 4 (.int .u64)) (.pair (.arr 32 (.int .u8)) (.pair (.int .i64) (.pair (.arr 32 (.int .u8)) (.pair (.int .i64) (.pair (.int .i64) (.pair .str (.pair (.sl (.int .u8)) (.pair (.int .i64) (.pair (.sl (.arr 20 (.int .u8))) .unit))))))))))))), (182, .unit), (213, (.sl (.sl (.int .u8))))], [], [], fnL [(145, Go.Bx.load_word.F), (146, Go.Bx.load_join.F), (147, Go.Bx.load_two.F)], noSh, [], invL [], [(2, [4])], [], [], 0, 0⟩
def St0 (x0 : Unit) (x1 : Int × List Int × List Int × List Int × Int × List Int × Int × Int × List Int × List Int × Int × List (List Int) × Unit) : St := stL 22 [(0, .data .unit x0), (1, .data (.pair (.int .i64) (.pair (.arr 4 (.int .u64)) (.pair (.arr 4 (.int .u64)) (.pair (.arr 32 (.int .u8)) (.pair (.int .i64) (.pair (.arr 32 (.int .u8)) (.pair (.int .i64) (.pair (.int .i64) (.pair .str (.pair (.sl (.int .u8)) (.pair (.int .i64) (.pair (.sl (.arr 20 (.int .u8))) .unit)))))))))))) x1)] []
def St1 (x4 : List Int) : St := stL 22 [(4, .data (.sl (.int .u8)) x4)] []
def top {α : Type} (Rt : (List Int) → Option α) (x0 : Unit) (x1 : Int × List Int × List Int × List Int × Int × List Int × Int × Int × List Int × List Int × Int × List (List Int) × Unit) : Option α :=
  (Go.Bx.load_word.run x1.2.2.2.2.2.2.2.2.1).bind fun y1 =>
  (Go.Bx.load_two.run x1.2.2.2.2.1).bind fun y2 =>
  (Go.Bx.load_join.run [(cutL x1.2.2.2.1 0 32), y2, [(IntKind.u8.wrap x1.2.2.2.2.2.2.2.1)], (cutL y1 0 32)]).bind fun y3 =>
  Rt y3
theorem top_eq {α : Type} (k : Nat) (Q : Ex → St → Option α) (x0 : Unit) (x1 : Int × List Int × List Int × List Int × Int × List Int × Int × Int × List Int × List Int × Int × List (List Int) × Unit) :
    (den C k) (cB Try.f151) Q (St0 x0 x1) = top (fun (x4 : List Int) => Q .ret (St1 x4)) x0 x1 := by
  have h : ∀ (D L : DT α), denJ D L Js C (cB Try.f151) Q (St0 x0 x1) =
        (Go.Bx.load_word.run x1.2.2.2.2.2.2.2.2.1).bind fun y1 =>
        (Go.Bx.load_two.run x1.2.2.2.2.1).bind fun y2 =>
        (Go.Bx.load_join.run [(cutL x1.2.2.2.1 0 32), y2, [(IntKind.u8.wrap x1.2.2.2.2.2.2.2.1)], (cutL y1 0 32)]).bind fun y3 =>
        Q .ret (St1 y3) := by
    intro D L; kernel_rfl
  refine (show (den C k) (cB Try.f151) Q (St0 x0 x1) = denJ (den C k) (lp C k) Js C (cB Try.f151) Q (St0 x0 x1) from (denJ_den _ _ _ _ _ _).symm).trans ((h (den C k) (lp C k)).trans ?_)
  first | rfl | kernel_rfl
def run (x0 : Unit) (x1 : Int × List Int × List Int × List Int × Int × List Int × Int × Int × List Int × List Int × Int × List (List Int) × Unit) : Option (List Int) := top (α := List Int) (fun (x4 : List Int) => some x4) x0 x1
def F : Fn := ⟨(.pair .unit (.pair (.pair (.int .i64) (.pair (.arr 4 (.int .u64)) (.pair (.arr 4 (.int .u64)) (.pair (.arr 32 (.int .u8)) (.pair (.int .i64) (.pair (.arr 32 (.int .u8)) (.pair (.int .i64) (.pair (.int .i64) (.pair .str (.pair (.sl (.int .u8)) (.pair (.int .i64) (.pair (.sl (.arr 20 (.int .u8))) .unit)))))))))))) .unit)), (.sl (.int .u8)), false, fun x => run x.1 x.2.1⟩
set_option maxRecDepth 100000 in
theorem con : Con Try.prog 151 F := by
  refine con_of_den (C := C) (ctx_ok (by kernel_rfl) (by kernel_rfl) (by kernel_rfl) (by kernel_rfl) ⟨.inl ⟨Go.Bx.load_word.con, Go.Bx.load_word.named⟩, ⟨.inl ⟨Go.Bx.load_join.con, Go.Bx.load_join.named⟩, ⟨.inl ⟨Go.Bx.load_two.con, Go.Bx.load_two.named⟩, trivial⟩⟩⟩) (by kernel_rfl) Try.func151 (c := cB Try.f151) (by kernel_rfl) (by kernel_rfl) F fuel (fun x => by simp [F, spread, Try.ntmps151]) ?_
  intro x r h
  rw [← h]
  have h1 : start F Try.f151.ntmps x = (St0 x.1 x.2.1) := by kernel_rfl
  rw [h1]
  refine (top_eq fuel (fin C Try.f151.results.toList F.rs F.multi) x.1 x.2.1).trans ?_
  kernel_rfl
theorem named : Named Try.prog 151 := named_of Try.func151 (by kernel_rfl) (by kernel_rfl)
end Go.Bx.load_meta__put
namespace Go.Bx.load_turn__put
open Go Go.Proofs Go.Bx
set_option maxRecDepth 100000
set_option linter.unusedVariables false
def Js : List Nat := [8]
def C : Ctx := ⟨[(3, (.int .i64)), (5, (.int .u8)), (26, (.sl (.arr 20 (.int .u8)))), (59, (.sl (.int .u8))), (71, (.pair (.int .i64) (.pair (.arr 4 (.int .u64)) (.pair (.arr 4 (.int .u64)) (.pair (.arr 32 (.int .u8)) (.pair (.int .i64) (.pair (.arr 32 (.int .u8)) (.pair (.int .i64) (.pair (.int .i64) (.pair .str (.pair (.sl (.int .u8)) (.pair (.int .i64) (.pair (.sl (.arr 20 (.int .u8))) .unit))))))))))))), (168, (.arr 20 (.int .u8))), (183, .unit)], [], [], fnL [], noSh, [], invL [], [(2, [4]), (1, [5]), (4, [5, 29, 30, 31]), (9, [5, 29, 30, 31]), (21, [5])], [(9, [.melt true 5 [] 37 true])], [], 0, 0⟩
def St0 (x0 : Unit) (x1 : Int × List Int × List Int × List Int × Int × List Int × Int × Int × List Int × List Int × Int × List (List Int) × Unit) : St := stL 40 [(0, .data .unit x0), (1, .data (.pair (.int .i64) (.pair (.arr 4 (.int .u64)) (.pair (.arr 4 (.int .u64)) (.pair (.arr 32 (.int .u8)) (.pair (.int .i64) (.pair (.arr 32 (.int .u8)) (.pair (.int .i64) (.pair (.int .i64) (.pair .str (.pair (.sl (.int .u8)) (.pair (.int .i64) (.pair (.sl (.arr 20 (.int .u8))) .unit)))))))))))) x1)] []
def St1 (x29 : List (List Int)) (x30 : Int) (x31 : Int) (c37 : List Int) : St := stL 40 [(5, .app 37 0), (29, .data (.sl (.arr 20 (.int .u8))) x29), (30, .data (.int .i64) x30), (31, .data (.int .i64) x31)] [(37, .buf (.int .u8) c37 0 true)]
noncomputable def cd0 : Code := cL (cL (cR (cL (cR (cR (cB Try.f155))))))
def St2 (c37 : List Int) : St := stL 40 [(5, .app 37 0)] [(37, .buf (.int .u8) c37 0 true)]
def l0s {α : Type} (Nx : (List (List Int)) → Int → Int → (List Int) → Option α) (Xt0 : (List Int) → Option α) (x29 : List (List Int)) (x30 : Int) (x31 : Int) (c37 : List Int) : Option α :=
  if (decide (x31 < x30)) = true then
    if 0 ≤ x31 ∧ x31 < (x29.length : Int) then
      if fitB (c37.length + (cutL (List.getD x29 (Int.toNat x31) (List.replicate 20 0)) 0 20).length) 1 = true then
        Nx x29 x30 (IntKind.i64.wrap (x31 + 1)) (c37 ++ (cutL (List.getD x29 (Int.toNat x31) (List.replicate 20 0)) 0 20))
      else none
    else none
  else
    Xt0 c37
theorem l0s_eq {α : Type} (k : Nat) (next : St → Option α) (Q : Ex → St → Option α) (x29 : List (List Int)) (x30 : Int) (x31 : Int) (c37 : List Int) :
    rnd C k cd0 9 Q next (St1 x29 x30 x31 c37) = l0s (fun (x29 : List (List Int)) (x30 : Int) (x31 : Int) (c37 : List Int) => next (St1 x29 x30 x31 c37)) (fun (c37 : List Int) => Q (.exit 0) (St2 c37)) x29 x30 x31 c37 := by
  have h : ∀ (D L : DT α), denJ D L Js C cd0 (lq C 9 next Q) (St1 x29 x30 x31 c37) =
        if (decide (x31 < x30)) = true then
          if 0 ≤ x31 ∧ x31 < (x29.length : Int) then
            if fitB (c37.length + (cutL (List.getD x29 (Int.toNat x31) (List.replicate 20 0)) 0 20).length) 1 = true then
              next (St1 x29 x30 (IntKind.i64.wrap (x31 + 1)) (c37 ++ (cutL (List.getD x29 (Int.toNat x31) (List.replicate 20 0)) 0 20)))
            else none
          else none
        else
          Q (.exit 0) (St2 c37) := by
    intro D L; kernel_rfl
  refine (show rnd C k cd0 9 Q next (St1 x29 x30 x31 c37) = denJ (den C k) (lp C k) Js C cd0 (lq C 9 next Q) (St1 x29 x30 x31 c37) from (denJ_den _ _ _ _ _ _).symm).trans ((h (den C k) (lp C k)).trans ?_)
  first | rfl | kernel_rfl
def l0 {α : Type} (k : Nat) (Xt0 : (List Int) → Option α) : Nat → (List (List Int)) → Int → Int → (List Int) → Option α
  | 0, _, _, _, _ => none
  | n + 1, x29, x30, x31, c37 => l0s (l0 k Xt0 n) Xt0 x29 x30 x31 c37
theorem l0_eq {α : Type} (k : Nat) (Q : Ex → St → Option α) : ∀ (n : Nat) (x29 : List (List Int)) (x30 : Int) (x31 : Int) (c37 : List Int), iter (rnd C k cd0 9 Q) n (St1 x29 x30 x31 c37) = l0 k (fun (c37 : List Int) => Q (.exit 0) (St2 c37)) n x29 x30 x31 c37
  | 0, _, _, _, _ => rfl
  | n + 1, x29, x30, x31, c37 => (iter_succ _ _ _).trans ((l0s_eq k (iter (rnd C k cd0 9 Q) n) Q x29 x30 x31 c37).trans (congrArg (fun N => l0s N (fun (c37 : List Int) => Q (.exit 0) (St2 c37)) x29 x30 x31 c37) (funext fun x29 => funext fun x30 => funext fun x31 => funext fun c37 => l0_eq k Q n x29 x30 x31 c37)))
theorem l0_congr {α : Type} (k : Nat) (Xt0 : (List Int) → Option α) (Xt0q : (List Int) → Option α) (hXt0 : ∀ (c37 : List Int), Xt0 c37 = Xt0q c37) (n : Nat) (x29 : List (List Int)) (x30 : Int) (x31 : Int) (c37 : List Int) : l0 k Xt0 n x29 x30 x31 c37 = l0 k Xt0q n x29 x30 x31 c37 := by
  obtain rfl : Xt0 = Xt0q := by funext c37; exact hXt0 c37
  rfl
noncomputable def cd1 : Code := cR (cR (cR (cB Try.f155)))
def St3 (c37 : List Int) : St := stL 40 [(5, .app 37 0)] [(37, .buf (.int .u8) c37 0 true)]
def St4 (c37 : List Int) : St := stL 40 [(4, .app 37 0)] [(37, .buf (.int .u8) c37 0 true)]
def j0 {α : Type} (Rt : (List Int) → Option α) (c37 : List Int) : Option α :=
  Rt c37
theorem j0_eq {α : Type} (k : Nat) (Q : Ex → St → Option α) (c37 : List Int) :
    (den C k) cd1 Q (St3 c37) = j0 (fun (c37 : List Int) => Q .ret (St4 c37)) c37 := by
  have h : ∀ (D L : DT α), denJ D L Js C cd1 Q (St3 c37) =
        Q .ret (St4 c37) := by
    intro D L; kernel_rfl
  refine (show (den C k) cd1 Q (St3 c37) = denJ (den C k) (lp C k) Js C cd1 Q (St3 c37) from (denJ_den _ _ _ _ _ _).symm).trans ((h (den C k) (lp C k)).trans ?_)
  first | rfl | kernel_rfl
theorem a0 {α : Type} (k : Nat) (Q : Ex → St → Option α) (x29 : List (List Int)) (x30 : Int) (x31 : Int) (c37 : List Int) :
    (lp C k) cd0 (blkQ C 0 (sq (den C k) (lp C k) Js C cd1 Q)) (St1 x29 x30 x31 c37) = l0 k (fun (c37 : List Int) => j0 (fun (c37 : List Int) => Q .ret (St4 c37)) c37) k x29 x30 x31 c37 :=
  (show (lp C k) cd0 (blkQ C 0 (sq (den C k) (lp C k) Js C cd1 Q)) (St1 x29 x30 x31 c37) = iter (rnd C k cd0 9 (blkQ C 0 (sq (den C k) (lp C k) Js C cd1 Q))) k (St1 x29 x30 x31 c37) by kernel_rfl).trans ((l0_eq k (blkQ C 0 (sq (den C k) (lp C k) Js C cd1 Q)) k x29 x30 x31 c37).trans (l0_congr k _ _ (fun c37 => ((show (blkQ C 0 (sq (den C k) (lp C k) Js C cd1 Q)) (.exit 0) (St2 c37) = (den C k) cd1 Q (St3 c37) by kernel_rfl).trans (by simp only [j0_eq]))) k x29 x30 x31 c37))
def top {α : Type} (k : Nat) (Rt : (List Int) → Option α) (x0 : Unit) (x1 : Int × List Int × List Int × List Int × Int × List Int × Int × Int × List Int × List Int × Int × List (List Int) × Unit) : Option α :=
  l0 k (fun (c37 : List Int) => j0 Rt c37) k x1.2.2.2.2.2.2.2.2.2.2.2.1 (x1.2.2.2.2.2.2.2.2.2.2.2.1.length : Int) 0 [(IntKind.u8.wrap (shrI .i64 x1.2.2.2.2.2.2.2.2.2.2.1 24)), (IntKind.u8.wrap (shrI .i64 x1.2.2.2.2.2.2.2.2.2.2.1 16)), (IntKind.u8.wrap (shrI .i64 x1.2.2.2.2.2.2.2.2.2.2.1 8)), (IntKind.u8.wrap x1.2.2.2.2.2.2.2.2.2.2.1), (IntKind.u8.wrap (x1.2.2.2.2.2.2.2.2.2.2.2.1.length : Int))]
theorem top_eq {α : Type} (k : Nat) (Q : Ex → St → Option α) (x0 : Unit) (x1 : Int × List Int × List Int × List Int × Int × List Int × Int × Int × List Int × List Int × Int × List (List Int) × Unit) :
    (den C k) (cB Try.f155) Q (St0 x0 x1) = top k (fun (c37 : List Int) => Q .ret (St4 c37)) x0 x1 := by
  have h : ∀ (D L : DT α), denJ D L Js C (cB Try.f155) Q (St0 x0 x1) =
        L cd0 (blkQ C 0 (sq D L Js C cd1 Q)) (St1 x1.2.2.2.2.2.2.2.2.2.2.2.1 (x1.2.2.2.2.2.2.2.2.2.2.2.1.length : Int) 0 [(IntKind.u8.wrap (shrI .i64 x1.2.2.2.2.2.2.2.2.2.2.1 24)), (IntKind.u8.wrap (shrI .i64 x1.2.2.2.2.2.2.2.2.2.2.1 16)), (IntKind.u8.wrap (shrI .i64 x1.2.2.2.2.2.2.2.2.2.2.1 8)), (IntKind.u8.wrap x1.2.2.2.2.2.2.2.2.2.2.1), (IntKind.u8.wrap (x1.2.2.2.2.2.2.2.2.2.2.2.1.length : Int))]) := by
    intro D L; kernel_rfl
  refine (show (den C k) (cB Try.f155) Q (St0 x0 x1) = denJ (den C k) (lp C k) Js C (cB Try.f155) Q (St0 x0 x1) from (denJ_den _ _ _ _ _ _).symm).trans ((h (den C k) (lp C k)).trans ?_)
  simp only [a0]
  first | rfl | kernel_rfl
def run (x0 : Unit) (x1 : Int × List Int × List Int × List Int × Int × List Int × Int × Int × List Int × List Int × Int × List (List Int) × Unit) : Option (List Int) := top (α := List Int) fuel (fun (c37 : List Int) => some c37) x0 x1
def F : Fn := ⟨(.pair .unit (.pair (.pair (.int .i64) (.pair (.arr 4 (.int .u64)) (.pair (.arr 4 (.int .u64)) (.pair (.arr 32 (.int .u8)) (.pair (.int .i64) (.pair (.arr 32 (.int .u8)) (.pair (.int .i64) (.pair (.int .i64) (.pair .str (.pair (.sl (.int .u8)) (.pair (.int .i64) (.pair (.sl (.arr 20 (.int .u8))) .unit)))))))))))) .unit)), (.sl (.int .u8)), false, fun x => run x.1 x.2.1⟩
set_option maxRecDepth 100000 in
theorem con : Con Try.prog 155 F := by
  refine con_of_den (C := C) (ctx_ok (by kernel_rfl) (by kernel_rfl) (by kernel_rfl) (by kernel_rfl) trivial) (by kernel_rfl) Try.func155 (c := cB Try.f155) (by kernel_rfl) (by kernel_rfl) F fuel (fun x => by simp [F, spread, Try.ntmps155]) ?_
  intro x r h
  rw [← h]
  have h1 : start F Try.f155.ntmps x = (St0 x.1 x.2.1) := by kernel_rfl
  rw [h1]
  refine (top_eq fuel (fin C Try.f155.results.toList F.rs F.multi) x.1 x.2.1).trans ?_
  kernel_rfl
theorem named : Named Try.prog 155 := named_of Try.func155 (by kernel_rfl) (by kernel_rfl)
end Go.Bx.load_turn__put
namespace Go.Bx.load_Encode
open Go Go.Proofs Go.Bx
set_option maxRecDepth 100000
set_option linter.unusedVariables false
def Js : List Nat := []
def C : Ctx := ⟨[(3, (.int .i64)), (5, (.int .u8)), (23, (.int .i64)), (59, (.sl (.int .u8))), (71, (.pair (.int .i64) (.pair (.arr 4 (.int .u64)) (.pair (.arr 4 (.int .u64)) (.pair (.arr 32 (.int .u8)) (.pair (.int .i64) (.pair (.arr 32 (.int .u8)) (.pair (.int .i64) (.pair (.int .i64) (.pair .str (.pair (.sl (.int .u8)) (.pair (.int .i64) (.pair (.sl (.arr 20 (.int .u8))) .unit)))))))))))))], [], [], fnL [(41, Go.Bx.load_Check.F), (142, Go.Bx.load_transfer__put.F), (151, Go.Bx.load_meta__put.F), (155, Go.Bx.load_turn__put.F)], shL [(74, [.alt Go.Bx.load_kindOf_s0.Sp])], [(15, 27)], invL [(180, [("bascule/load.put", 142)]), (182, [("bascule/load.put", 151)]), (183, [("bascule/load.put", 155)])], [(2, [2, 3])], [(2, [.dat true 2 []])], [25], 0, 0⟩
def St0 (x0 : Int × List Int × List Int × List Int × Int × List Int × Int × Int × List Int × List Int × Int × List (List Int) × Unit) : St := stL 26 [(0, .data (.pair (.int .i64) (.pair (.arr 4 (.int .u64)) (.pair (.arr 4 (.int .u64)) (.pair (.arr 32 (.int .u8)) (.pair (.int .i64) (.pair (.arr 32 (.int .u8)) (.pair (.int .i64) (.pair (.int .i64) (.pair .str (.pair (.sl (.int .u8)) (.pair (.int .i64) (.pair (.sl (.arr 20 (.int .u8))) .unit)))))))))))) x0)] []
def St1 (x2 : List Int) (x3 : Int) : St := stL 26 [(2, .data (.sl (.int .u8)) x2), (3, .data (.int .i64) x3)] []
def top {α : Type} (Rt : (List Int) → Int → Option α) (x0 : Int × List Int × List Int × List Int × Int × List Int × Int × Int × List Int × List Int × Int × List (List Int) × Unit) : Option α :=
  (Go.Bx.load_Check.run x0).bind fun y1 =>
  if (y1 != 0) = true then
    Rt [] y1
  else
    (Go.Bx.load_kindOf_s0.run x0.1).bind fun y2 => (Sum.elim (fun y3 =>
      (Go.Bx.load_transfer__put.run y3.1 x0).bind fun y7 =>
      if fitB (1 + y7.length) 1 = true then
        Rt ([(IntKind.u8.wrap x0.1)] ++ y7) 0
      else none) (Sum.elim (fun y4 =>
      (Go.Bx.load_meta__put.run y4.1 x0).bind fun y8 =>
      if fitB (1 + y8.length) 1 = true then
        Rt ([(IntKind.u8.wrap x0.1)] ++ y8) 0
      else none) (Sum.elim (fun y5 =>
      (Go.Bx.load_turn__put.run y5.1 x0).bind fun y9 =>
      if fitB (1 + y9.length) 1 = true then
        Rt ([(IntKind.u8.wrap x0.1)] ++ y9) 0
      else none) (Sum.elim (fun y6 =>
      none) (fun (e : Empty) => e.elim))))) y2
theorem top_eq {α : Type} (k : Nat) (Q : Ex → St → Option α) (x0 : Int × List Int × List Int × List Int × Int × List Int × Int × Int × List Int × List Int × Int × List (List Int) × Unit) :
    (den C k) (cB Try.f51) Q (St0 x0) = top (fun (x2 : List Int) (x3 : Int) => Q .ret (St1 x2 x3)) x0 := by
  have h : ∀ (D L : DT α), denJ D L Js C (cB Try.f51) Q (St0 x0) =
        (Go.Bx.load_Check.run x0).bind fun y1 =>
        if (y1 != 0) = true then
          Q .ret (St1 [] y1)
        else
          (Go.Bx.load_kindOf_s0.run x0.1).bind fun y2 => (Sum.elim (fun y3 =>
            (Go.Bx.load_transfer__put.run y3.1 x0).bind fun y7 =>
            if fitB (1 + y7.length) 1 = true then
              Q .ret (St1 ([(IntKind.u8.wrap x0.1)] ++ y7) 0)
            else none) (Sum.elim (fun y4 =>
            (Go.Bx.load_meta__put.run y4.1 x0).bind fun y8 =>
            if fitB (1 + y8.length) 1 = true then
              Q .ret (St1 ([(IntKind.u8.wrap x0.1)] ++ y8) 0)
            else none) (Sum.elim (fun y5 =>
            (Go.Bx.load_turn__put.run y5.1 x0).bind fun y9 =>
            if fitB (1 + y9.length) 1 = true then
              Q .ret (St1 ([(IntKind.u8.wrap x0.1)] ++ y9) 0)
            else none) (Sum.elim (fun y6 =>
            none) (fun (e : Empty) => e.elim))))) y2 := by
    intro D L; kernel_rfl
  refine (show (den C k) (cB Try.f51) Q (St0 x0) = denJ (den C k) (lp C k) Js C (cB Try.f51) Q (St0 x0) from (denJ_den _ _ _ _ _ _).symm).trans ((h (den C k) (lp C k)).trans ?_)
  first | rfl | kernel_rfl
def run (x0 : Int × List Int × List Int × List Int × Int × List Int × Int × Int × List Int × List Int × Int × List (List Int) × Unit) : Option (List Int × Int × Unit) := top (α := List Int × Int × Unit) (fun (x2 : List Int) (x3 : Int) => some (x2, x3, ())) x0
def F : Fn := ⟨(.pair (.pair (.int .i64) (.pair (.arr 4 (.int .u64)) (.pair (.arr 4 (.int .u64)) (.pair (.arr 32 (.int .u8)) (.pair (.int .i64) (.pair (.arr 32 (.int .u8)) (.pair (.int .i64) (.pair (.int .i64) (.pair .str (.pair (.sl (.int .u8)) (.pair (.int .i64) (.pair (.sl (.arr 20 (.int .u8))) .unit)))))))))))) .unit), (.pair (.sl (.int .u8)) (.pair (.int .i64) .unit)), true, fun x => run x.1⟩
set_option maxRecDepth 100000 in
theorem con : Con Try.prog 51 F := by
  refine con_of_den (C := C) (ctx_ok_sh (by kernel_rfl) (by kernel_rfl) (by kernel_rfl) (by kernel_rfl) ⟨.inl ⟨Go.Bx.load_Check.con, Go.Bx.load_Check.named⟩, ⟨.inl ⟨Go.Bx.load_transfer__put.con, Go.Bx.load_transfer__put.named⟩, ⟨.inl ⟨Go.Bx.load_meta__put.con, Go.Bx.load_meta__put.named⟩, ⟨.inl ⟨Go.Bx.load_turn__put.con, Go.Bx.load_turn__put.named⟩, trivial⟩⟩⟩⟩ ⟨⟨⟨Go.Bx.load_kindOf_s0.sok, trivial⟩, Go.Bx.load_kindOf_s0.named⟩, trivial⟩) (by kernel_rfl) Try.func51 (c := cB Try.f51) (by kernel_rfl) (by kernel_rfl) F fuel (fun x => by simp [F, spread, Try.ntmps51]) ?_
  intro x r h
  rw [← h]
  have h1 : start F Try.f51.ntmps x = (St0 x.1) := by kernel_rfl
  rw [h1]
  refine (top_eq fuel (fin C Try.f51.results.toList F.rs F.multi) x.1).trans ?_
  kernel_rfl
theorem named : Named Try.prog 51 := named_of Try.func51 (by kernel_rfl) (by kernel_rfl)
end Go.Bx.load_Encode
namespace Go.Bx.basculeref_LoadBytes
open Go Go.Proofs Go.Bx
set_option maxRecDepth 100000
set_option linter.unusedVariables false
def Js : List Nat := [18]
def C : Ctx := ⟨[(3, (.int .i64)), (9, .str), (23, (.int .i64)), (26, (.sl (.arr 20 (.int .u8)))), (54, (.int .u64)), (56, (.arr 4 (.int .u64))), (59, (.sl (.int .u8))), (69, (.arr 32 (.int .u8))), (71, (.pair (.int .i64) (.pair (.arr 4 (.int .u64)) (.pair (.arr 4 (.int .u64)) (.pair (.arr 32 (.int .u8)) (.pair (.int .i64) (.pair (.arr 32 (.int .u8)) (.pair (.int .i64) (.pair (.int .i64) (.pair .str (.pair (.sl (.int .u8)) (.pair (.int .i64) (.pair (.sl (.arr 20 (.int .u8))) .unit))))))))))))), (168, (.arr 20 (.int .u8)))], [], [], fnL [(42, Go.Bx.basculeref_LoadFault.F), (85, Go.Bx.basculeref_big.F), (86, Go.Bx.basculeref_text.F), (94, Go.Bx.basculeref_word.F)], noSh, [], invL [], [(2, [2, 3]), (1, [5]), (4, [5]), (7, [5, 89, 90, 91]), (39, [5, 89, 90, 91]), (51, [5])], [(2, [.dat true 2 []])], [], 0, 0⟩
def St0 (x0 : Int × List Int × List Int × List Int × Int × List Int × Int × Int × List Int × List Int × Int × List (List Int) × Unit) : St := stL 102 [(0, .data (.pair (.int .i64) (.pair (.arr 4 (.int .u64)) (.pair (.arr 4 (.int .u64)) (.pair (.arr 32 (.int .u8)) (.pair (.int .i64) (.pair (.arr 32 (.int .u8)) (.pair (.int .i64) (.pair (.int .i64) (.pair .str (.pair (.sl (.int .u8)) (.pair (.int .i64) (.pair (.sl (.arr 20 (.int .u8))) .unit)))))))))))) x0)] []
def St1 (x2 : List Int) (x3 : Int) : St := stL 102 [(2, .data (.sl (.int .u8)) x2), (3, .data (.int .i64) x3)] []
def St2 (x5 : List Int) : St := stL 102 [(5, .data .str x5)] []
noncomputable def cd0 : Code := cR (cR (cR (cR (cB Try.f52))))
def j0 {α : Type} (Rt : (List Int) → Int → Option α) (x5 : List Int) : Option α :=
  Rt x5 0
theorem j0_eq {α : Type} (k : Nat) (Q : Ex → St → Option α) (x5 : List Int) :
    (den C k) cd0 Q (St2 x5) = j0 (fun (x2 : List Int) (x3 : Int) => Q .ret (St1 x2 x3)) x5 := by
  have h : ∀ (D L : DT α), denJ D L Js C cd0 Q (St2 x5) =
        Q .ret (St1 x5 0) := by
    intro D L; kernel_rfl
  refine (show (den C k) cd0 Q (St2 x5) = denJ (den C k) (lp C k) Js C cd0 Q (St2 x5) from (denJ_den _ _ _ _ _ _).symm).trans ((h (den C k) (lp C k)).trans ?_)
  first | rfl | kernel_rfl
def St3 (x5 : List Int) (x89 : List (List Int)) (x90 : Int) (x91 : Int) : St := stL 102 [(5, .data .str x5), (89, .data (.sl (.arr 20 (.int .u8))) x89), (90, .data (.int .i64) x90), (91, .data (.int .i64) x91)] []
noncomputable def cd1 : Code := cL (cL (cR (cR (cL (cR (cR (cR (cL (cR (cL (cR (cR (cR (cB Try.f52))))))))))))))
def St4 (x5 : List Int) : St := stL 102 [(5, .data .str x5)] []
def l0s {α : Type} (Nx : (List Int) → (List (List Int)) → Int → Int → Option α) (Xt1 : (List Int) → Option α) (x5 : List Int) (x89 : List (List Int)) (x90 : Int) (x91 : Int) : Option α :=
  if (decide (x91 < x90)) = true then
    if 0 ≤ x91 ∧ x91 < (x89.length : Int) then
      if Nat.ble (x5.length + (cutL (List.getD x89 (Int.toNat x91) (List.replicate 20 0)) 0 20).length) 9223372036854775807 = true then
        Nx (x5 ++ (cutL (List.getD x89 (Int.toNat x91) (List.replicate 20 0)) 0 20)) x89 x90 (IntKind.i64.wrap (x91 + 1))
      else none
    else none
  else
    Xt1 x5
theorem l0s_eq {α : Type} (k : Nat) (next : St → Option α) (Q : Ex → St → Option α) (x5 : List Int) (x89 : List (List Int)) (x90 : Int) (x91 : Int) :
    rnd C k cd1 39 Q next (St3 x5 x89 x90 x91) = l0s (fun (x5 : List Int) (x89 : List (List Int)) (x90 : Int) (x91 : Int) => next (St3 x5 x89 x90 x91)) (fun (x5 : List Int) => Q (.exit 1) (St4 x5)) x5 x89 x90 x91 := by
  have h : ∀ (D L : DT α), denJ D L Js C cd1 (lq C 39 next Q) (St3 x5 x89 x90 x91) =
        if (decide (x91 < x90)) = true then
          if 0 ≤ x91 ∧ x91 < (x89.length : Int) then
            if Nat.ble (x5.length + (cutL (List.getD x89 (Int.toNat x91) (List.replicate 20 0)) 0 20).length) 9223372036854775807 = true then
              next (St3 (x5 ++ (cutL (List.getD x89 (Int.toNat x91) (List.replicate 20 0)) 0 20)) x89 x90 (IntKind.i64.wrap (x91 + 1)))
            else none
          else none
        else
          Q (.exit 1) (St4 x5) := by
    intro D L; kernel_rfl
  refine (show rnd C k cd1 39 Q next (St3 x5 x89 x90 x91) = denJ (den C k) (lp C k) Js C cd1 (lq C 39 next Q) (St3 x5 x89 x90 x91) from (denJ_den _ _ _ _ _ _).symm).trans ((h (den C k) (lp C k)).trans ?_)
  first | rfl | kernel_rfl
def l0 {α : Type} (k : Nat) (Xt1 : (List Int) → Option α) : Nat → (List Int) → (List (List Int)) → Int → Int → Option α
  | 0, _, _, _, _ => none
  | n + 1, x5, x89, x90, x91 => l0s (l0 k Xt1 n) Xt1 x5 x89 x90 x91
theorem l0_eq {α : Type} (k : Nat) (Q : Ex → St → Option α) : ∀ (n : Nat) (x5 : List Int) (x89 : List (List Int)) (x90 : Int) (x91 : Int), iter (rnd C k cd1 39 Q) n (St3 x5 x89 x90 x91) = l0 k (fun (x5 : List Int) => Q (.exit 1) (St4 x5)) n x5 x89 x90 x91
  | 0, _, _, _, _ => rfl
  | n + 1, x5, x89, x90, x91 => (iter_succ _ _ _).trans ((l0s_eq k (iter (rnd C k cd1 39 Q) n) Q x5 x89 x90 x91).trans (congrArg (fun N => l0s N (fun (x5 : List Int) => Q (.exit 1) (St4 x5)) x5 x89 x90 x91) (funext fun x5 => funext fun x89 => funext fun x90 => funext fun x91 => l0_eq k Q n x5 x89 x90 x91)))
theorem l0_congr {α : Type} (k : Nat) (Xt1 : (List Int) → Option α) (Xt1q : (List Int) → Option α) (hXt1 : ∀ (x5 : List Int), Xt1 x5 = Xt1q x5) (n : Nat) (x5 : List Int) (x89 : List (List Int)) (x90 : Int) (x91 : Int) : l0 k Xt1 n x5 x89 x90 x91 = l0 k Xt1q n x5 x89 x90 x91 := by
  obtain rfl : Xt1 = Xt1q := by funext x5; exact hXt1 x5
  rfl
theorem a0 {α : Type} (k : Nat) (Q : Ex → St → Option α) (x5 : List Int) (x89 : List (List Int)) (x90 : Int) (x91 : Int) :
    (lp C k) cd1 (blkQ C 1 (blkQ C 0 (sq (den C k) (lp C k) Js C cd0 Q))) (St3 x5 x89 x90 x91) = l0 k (fun (x5 : List Int) => j0 (fun (x2 : List Int) (x3 : Int) => Q .ret (St1 x2 x3)) x5) k x5 x89 x90 x91 :=
  (show (lp C k) cd1 (blkQ C 1 (blkQ C 0 (sq (den C k) (lp C k) Js C cd0 Q))) (St3 x5 x89 x90 x91) = iter (rnd C k cd1 39 (blkQ C 1 (blkQ C 0 (sq (den C k) (lp C k) Js C cd0 Q)))) k (St3 x5 x89 x90 x91) by kernel_rfl).trans ((l0_eq k (blkQ C 1 (blkQ C 0 (sq (den C k) (lp C k) Js C cd0 Q))) k x5 x89 x90 x91).trans (l0_congr k _ _ (fun x5 => ((show (blkQ C 1 (blkQ C 0 (sq (den C k) (lp C k) Js C cd0 Q))) (.exit 1) (St4 x5) = (den C k) cd0 Q (St2 x5) by kernel_rfl).trans (by simp only [j0_eq]))) k x5 x89 x90 x91))
def top {α : Type} (k : Nat) (Rt : (List Int) → Int → Option α) (x0 : Int × List Int × List Int × List Int × Int × List Int × Int × Int × List Int × List Int × Int × List (List Int) × Unit) : Option α :=
  (Go.Bx.basculeref_LoadFault.run x0).bind fun y1 =>
  if (y1 != 0) = true then
    Rt [] y1
  else
    (Go.Bx.basculeref_big.run (IntKind.u64.wrap x0.1) 1).bind fun y2 =>
    if (x0.1 == 2) = true then
      (Go.Bx.basculeref_word.run x0.2.2.2.2.2.2.2.2.1).bind fun y3 =>
      (Go.Bx.basculeref_big.run (IntKind.u64.wrap x0.2.2.2.2.1) 2).bind fun y4 =>
      if Nat.ble ((cutL x0.2.2.2.1 0 32).length + y4.length) 9223372036854775807 = true then
        (Go.Bx.basculeref_big.run (IntKind.u64.wrap x0.2.2.2.2.2.2.2.1) 1).bind fun y5 =>
        if Nat.ble (((cutL x0.2.2.2.1 0 32) ++ y4).length + y5.length) 9223372036854775807 = true then
          if Nat.ble ((((cutL x0.2.2.2.1 0 32) ++ y4) ++ y5).length + (cutL y3 0 32).length) 9223372036854775807 = true then
            if Nat.ble (y2.length + ((((cutL x0.2.2.2.1 0 32) ++ y4) ++ y5) ++ (cutL y3 0 32)).length) 9223372036854775807 = true then
              j0 Rt (y2 ++ ((((cutL x0.2.2.2.1 0 32) ++ y4) ++ y5) ++ (cutL y3 0 32)))
            else none
          else none
        else none
      else none
    else
      if (x0.1 == 4) = true then
        (Go.Bx.basculeref_big.run (IntKind.u64.wrap x0.2.2.2.2.2.2.2.2.2.2.1) 4).bind fun y6 =>
        (Go.Bx.basculeref_big.run (IntKind.u64.wrap (x0.2.2.2.2.2.2.2.2.2.2.2.1.length : Int)) 1).bind fun y7 =>
        if Nat.ble (y6.length + y7.length) 9223372036854775807 = true then
          if Nat.ble (y2.length + (y6 ++ y7).length) 9223372036854775807 = true then
            l0 k (fun (x5 : List Int) => j0 Rt x5) k (y2 ++ (y6 ++ y7)) x0.2.2.2.2.2.2.2.2.2.2.2.1 (x0.2.2.2.2.2.2.2.2.2.2.2.1.length : Int) 0
          else none
        else none
      else
        (Go.Bx.basculeref_text.run x0.2.1).bind fun y8 =>
        if Nat.ble (y8.length + (cutL x0.2.2.2.1 0 32).length) 9223372036854775807 = true then
          (Go.Bx.basculeref_big.run (IntKind.u64.wrap x0.2.2.2.2.1) 2).bind fun y9 =>
          if Nat.ble ((y8 ++ (cutL x0.2.2.2.1 0 32)).length + y9.length) 9223372036854775807 = true then
            if Nat.ble (((y8 ++ (cutL x0.2.2.2.1 0 32)) ++ y9).length + (cutL x0.2.2.2.2.2.1 0 32).length) 9223372036854775807 = true then
              (Go.Bx.basculeref_big.run (IntKind.u64.wrap x0.2.2.2.2.2.2.1) 2).bind fun y10 =>
              if Nat.ble ((((y8 ++ (cutL x0.2.2.2.1 0 32)) ++ y9) ++ (cutL x0.2.2.2.2.2.1 0 32)).length + y10.length) 9223372036854775807 = true then
                (Go.Bx.basculeref_text.run x0.2.2.1).bind fun y11 =>
                if Nat.ble (((((y8 ++ (cutL x0.2.2.2.1 0 32)) ++ y9) ++ (cutL x0.2.2.2.2.2.1 0 32)) ++ y10).length + y11.length) 9223372036854775807 = true then
                  if Nat.ble ((((((y8 ++ (cutL x0.2.2.2.1 0 32)) ++ y9) ++ (cutL x0.2.2.2.2.2.1 0 32)) ++ y10) ++ y11).length + x0.2.2.2.2.2.2.2.2.2.1.length) 9223372036854775807 = true then
                    if Nat.ble (y2.length + ((((((y8 ++ (cutL x0.2.2.2.1 0 32)) ++ y9) ++ (cutL x0.2.2.2.2.2.1 0 32)) ++ y10) ++ y11) ++ x0.2.2.2.2.2.2.2.2.2.1).length) 9223372036854775807 = true then
                      j0 Rt (y2 ++ ((((((y8 ++ (cutL x0.2.2.2.1 0 32)) ++ y9) ++ (cutL x0.2.2.2.2.2.1 0 32)) ++ y10) ++ y11) ++ x0.2.2.2.2.2.2.2.2.2.1))
                    else none
                  else none
                else none
              else none
            else none
          else none
        else none
theorem top_eq {α : Type} (k : Nat) (Q : Ex → St → Option α) (x0 : Int × List Int × List Int × List Int × Int × List Int × Int × Int × List Int × List Int × Int × List (List Int) × Unit) :
    (den C k) (cB Try.f52) Q (St0 x0) = top k (fun (x2 : List Int) (x3 : Int) => Q .ret (St1 x2 x3)) x0 := by
  have h : ∀ (D L : DT α), denJ D L Js C (cB Try.f52) Q (St0 x0) =
        (Go.Bx.basculeref_LoadFault.run x0).bind fun y1 =>
        if (y1 != 0) = true then
          Q .ret (St1 [] y1)
        else
          (Go.Bx.basculeref_big.run (IntKind.u64.wrap x0.1) 1).bind fun y2 =>
          if (x0.1 == 2) = true then
            (Go.Bx.basculeref_word.run x0.2.2.2.2.2.2.2.2.1).bind fun y3 =>
            (Go.Bx.basculeref_big.run (IntKind.u64.wrap x0.2.2.2.2.1) 2).bind fun y4 =>
            if Nat.ble ((cutL x0.2.2.2.1 0 32).length + y4.length) 9223372036854775807 = true then
              (Go.Bx.basculeref_big.run (IntKind.u64.wrap x0.2.2.2.2.2.2.2.1) 1).bind fun y5 =>
              if Nat.ble (((cutL x0.2.2.2.1 0 32) ++ y4).length + y5.length) 9223372036854775807 = true then
                if Nat.ble ((((cutL x0.2.2.2.1 0 32) ++ y4) ++ y5).length + (cutL y3 0 32).length) 9223372036854775807 = true then
                  if Nat.ble (y2.length + ((((cutL x0.2.2.2.1 0 32) ++ y4) ++ y5) ++ (cutL y3 0 32)).length) 9223372036854775807 = true then
                    D cd0 Q (St2 (y2 ++ ((((cutL x0.2.2.2.1 0 32) ++ y4) ++ y5) ++ (cutL y3 0 32))))
                  else none
                else none
              else none
            else none
          else
            if (x0.1 == 4) = true then
              (Go.Bx.basculeref_big.run (IntKind.u64.wrap x0.2.2.2.2.2.2.2.2.2.2.1) 4).bind fun y6 =>
              (Go.Bx.basculeref_big.run (IntKind.u64.wrap (x0.2.2.2.2.2.2.2.2.2.2.2.1.length : Int)) 1).bind fun y7 =>
              if Nat.ble (y6.length + y7.length) 9223372036854775807 = true then
                if Nat.ble (y2.length + (y6 ++ y7).length) 9223372036854775807 = true then
                  L cd1 (blkQ C 1 (blkQ C 0 (sq D L Js C cd0 Q))) (St3 (y2 ++ (y6 ++ y7)) x0.2.2.2.2.2.2.2.2.2.2.2.1 (x0.2.2.2.2.2.2.2.2.2.2.2.1.length : Int) 0)
                else none
              else none
            else
              (Go.Bx.basculeref_text.run x0.2.1).bind fun y8 =>
              if Nat.ble (y8.length + (cutL x0.2.2.2.1 0 32).length) 9223372036854775807 = true then
                (Go.Bx.basculeref_big.run (IntKind.u64.wrap x0.2.2.2.2.1) 2).bind fun y9 =>
                if Nat.ble ((y8 ++ (cutL x0.2.2.2.1 0 32)).length + y9.length) 9223372036854775807 = true then
                  if Nat.ble (((y8 ++ (cutL x0.2.2.2.1 0 32)) ++ y9).length + (cutL x0.2.2.2.2.2.1 0 32).length) 9223372036854775807 = true then
                    (Go.Bx.basculeref_big.run (IntKind.u64.wrap x0.2.2.2.2.2.2.1) 2).bind fun y10 =>
                    if Nat.ble ((((y8 ++ (cutL x0.2.2.2.1 0 32)) ++ y9) ++ (cutL x0.2.2.2.2.2.1 0 32)).length + y10.length) 9223372036854775807 = true then
                      (Go.Bx.basculeref_text.run x0.2.2.1).bind fun y11 =>
                      if Nat.ble (((((y8 ++ (cutL x0.2.2.2.1 0 32)) ++ y9) ++ (cutL x0.2.2.2.2.2.1 0 32)) ++ y10).length + y11.length) 9223372036854775807 = true then
                        if Nat.ble ((((((y8 ++ (cutL x0.2.2.2.1 0 32)) ++ y9) ++ (cutL x0.2.2.2.2.2.1 0 32)) ++ y10) ++ y11).length + x0.2.2.2.2.2.2.2.2.2.1.length) 9223372036854775807 = true then
                          if Nat.ble (y2.length + ((((((y8 ++ (cutL x0.2.2.2.1 0 32)) ++ y9) ++ (cutL x0.2.2.2.2.2.1 0 32)) ++ y10) ++ y11) ++ x0.2.2.2.2.2.2.2.2.2.1).length) 9223372036854775807 = true then
                            D cd0 Q (St2 (y2 ++ ((((((y8 ++ (cutL x0.2.2.2.1 0 32)) ++ y9) ++ (cutL x0.2.2.2.2.2.1 0 32)) ++ y10) ++ y11) ++ x0.2.2.2.2.2.2.2.2.2.1)))
                          else none
                        else none
                      else none
                    else none
                  else none
                else none
              else none := by
    intro D L; kernel_rfl
  refine (show (den C k) (cB Try.f52) Q (St0 x0) = denJ (den C k) (lp C k) Js C (cB Try.f52) Q (St0 x0) from (denJ_den _ _ _ _ _ _).symm).trans ((h (den C k) (lp C k)).trans ?_)
  simp only [j0_eq, a0]
  first | rfl | kernel_rfl
def run (x0 : Int × List Int × List Int × List Int × Int × List Int × Int × Int × List Int × List Int × Int × List (List Int) × Unit) : Option (List Int × Int × Unit) := top (α := List Int × Int × Unit) fuel (fun (x2 : List Int) (x3 : Int) => some (x2, x3, ())) x0
def F : Fn := ⟨(.pair (.pair (.int .i64) (.pair (.arr 4 (.int .u64)) (.pair (.arr 4 (.int .u64)) (.pair (.arr 32 (.int .u8)) (.pair (.int .i64) (.pair (.arr 32 (.int .u8)) (.pair (.int .i64) (.pair (.int .i64) (.pair .str (.pair (.sl (.int .u8)) (.pair (.int .i64) (.pair (.sl (.arr 20 (.int .u8))) .unit)))))))))))) .unit), (.pair (.sl (.int .u8)) (.pair (.int .i64) .unit)), true, fun x => run x.1⟩
set_option maxRecDepth 100000 in
theorem con : Con Try.prog 52 F := by
  refine con_of_den (C := C) (ctx_ok (by kernel_rfl) (by kernel_rfl) (by kernel_rfl) (by kernel_rfl) ⟨.inl ⟨Go.Bx.basculeref_LoadFault.con, Go.Bx.basculeref_LoadFault.named⟩, ⟨.inl ⟨Go.Bx.basculeref_big.con, Go.Bx.basculeref_big.named⟩, ⟨.inl ⟨Go.Bx.basculeref_text.con, Go.Bx.basculeref_text.named⟩, ⟨.inl ⟨Go.Bx.basculeref_word.con, Go.Bx.basculeref_word.named⟩, trivial⟩⟩⟩⟩) (by kernel_rfl) Try.func52 (c := cB Try.f52) (by kernel_rfl) (by kernel_rfl) F fuel (fun x => by simp [F, spread, Try.ntmps52]) ?_
  intro x r h
  rw [← h]
  have h1 : start F Try.f52.ntmps x = (St0 x.1) := by kernel_rfl
  rw [h1]
  refine (top_eq fuel (fin C Try.f52.results.toList F.rs F.multi) x.1).trans ?_
  kernel_rfl
theorem named : Named Try.prog 52 := named_of Try.func52 (by kernel_rfl) (by kernel_rfl)
end Go.Bx.basculeref_LoadBytes
namespace Go.Bx.basculelaw_LoadChecks
open Go Go.Proofs Go.Bx
set_option maxRecDepth 100000
set_option linter.unusedVariables false
def Js : List Nat := []
def C : Ctx := ⟨[(4, .bool), (71, (.pair (.int .i64) (.pair (.arr 4 (.int .u64)) (.pair (.arr 4 (.int .u64)) (.pair (.arr 32 (.int .u8)) (.pair (.int .i64) (.pair (.arr 32 (.int .u8)) (.pair (.int .i64) (.pair (.int .i64) (.pair .str (.pair (.sl (.int .u8)) (.pair (.int .i64) (.pair (.sl (.arr 20 (.int .u8))) .unit)))))))))))))], [], [], fnL [(41, Go.Bx.load_Check.F), (42, Go.Bx.basculeref_LoadFault.F)], noSh, [], invL [], [(2, [2])], [], [], 0, 0⟩
def St0 (x0 : Int × List Int × List Int × List Int × Int × List Int × Int × Int × List Int × List Int × Int × List (List Int) × Unit) : St := stL 12 [(0, .data (.pair (.int .i64) (.pair (.arr 4 (.int .u64)) (.pair (.arr 4 (.int .u64)) (.pair (.arr 32 (.int .u8)) (.pair (.int .i64) (.pair (.arr 32 (.int .u8)) (.pair (.int .i64) (.pair (.int .i64) (.pair .str (.pair (.sl (.int .u8)) (.pair (.int .i64) (.pair (.sl (.arr 20 (.int .u8))) .unit)))))))))))) x0)] []
def St1 (x2 : Bool) : St := stL 12 [(2, .data .bool x2)] []
def top {α : Type} (Rt : Bool → Option α) (x0 : Int × List Int × List Int × List Int × Int × List Int × Int × Int × List Int × List Int × Int × List (List Int) × Unit) : Option α :=
  (Go.Bx.load_Check.run x0).bind fun y1 =>
  (Go.Bx.basculeref_LoadFault.run x0).bind fun y2 =>
  Rt (y1 == y2)
theorem top_eq {α : Type} (k : Nat) (Q : Ex → St → Option α) (x0 : Int × List Int × List Int × List Int × Int × List Int × Int × Int × List Int × List Int × Int × List (List Int) × Unit) :
    (den C k) (cB Try.f12) Q (St0 x0) = top (fun (x2 : Bool) => Q .ret (St1 x2)) x0 := by
  have h : ∀ (D L : DT α), denJ D L Js C (cB Try.f12) Q (St0 x0) =
        (Go.Bx.load_Check.run x0).bind fun y1 =>
        (Go.Bx.basculeref_LoadFault.run x0).bind fun y2 =>
        Q .ret (St1 (y1 == y2)) := by
    intro D L; kernel_rfl
  refine (show (den C k) (cB Try.f12) Q (St0 x0) = denJ (den C k) (lp C k) Js C (cB Try.f12) Q (St0 x0) from (denJ_den _ _ _ _ _ _).symm).trans ((h (den C k) (lp C k)).trans ?_)
  first | rfl | kernel_rfl
def run (x0 : Int × List Int × List Int × List Int × Int × List Int × Int × Int × List Int × List Int × Int × List (List Int) × Unit) : Option (Bool) := top (α := Bool) (fun (x2 : Bool) => some x2) x0
def F : Fn := ⟨(.pair (.pair (.int .i64) (.pair (.arr 4 (.int .u64)) (.pair (.arr 4 (.int .u64)) (.pair (.arr 32 (.int .u8)) (.pair (.int .i64) (.pair (.arr 32 (.int .u8)) (.pair (.int .i64) (.pair (.int .i64) (.pair .str (.pair (.sl (.int .u8)) (.pair (.int .i64) (.pair (.sl (.arr 20 (.int .u8))) .unit)))))))))))) .unit), .bool, false, fun x => run x.1⟩
set_option maxRecDepth 100000 in
theorem con : Con Try.prog 12 F := by
  refine con_of_den (C := C) (ctx_ok (by kernel_rfl) (by kernel_rfl) (by kernel_rfl) (by kernel_rfl) ⟨.inl ⟨Go.Bx.load_Check.con, Go.Bx.load_Check.named⟩, ⟨.inl ⟨Go.Bx.basculeref_LoadFault.con, Go.Bx.basculeref_LoadFault.named⟩, trivial⟩⟩) (by kernel_rfl) Try.func12 (c := cB Try.f12) (by kernel_rfl) (by kernel_rfl) F fuel (fun x => by simp [F, spread, Try.ntmps12]) ?_
  intro x r h
  rw [← h]
  have h1 : start F Try.f12.ntmps x = (St0 x.1) := by kernel_rfl
  rw [h1]
  refine (top_eq fuel (fin C Try.f12.results.toList F.rs F.multi) x.1).trans ?_
  kernel_rfl
theorem named : Named Try.prog 12 := named_of Try.func12 (by kernel_rfl) (by kernel_rfl)
end Go.Bx.basculelaw_LoadChecks
namespace Go.Bx.basculelaw_sameBytes
open Go Go.Proofs Go.Bx
set_option maxRecDepth 100000
set_option linter.unusedVariables false
def Js : List Nat := []
def C : Ctx := ⟨[(4, .bool), (9, .str), (59, (.sl (.int .u8)))], [], [], fnL [], noSh, [], invL [], [(2, [4])], [], [], 0, 0⟩
def St0 (x0 : List Int) (x1 : List Int) : St := stL 10 [(0, .data (.sl (.int .u8)) x0), (1, .data (.sl (.int .u8)) x1)] []
def St1 (x4 : Bool) : St := stL 10 [(4, .data .bool x4)] []
def top {α : Type} (Rt : Bool → Option α) (x0 : List Int) (x1 : List Int) : Option α :=
  Rt (beqD .str x0 x1)
theorem top_eq {α : Type} (k : Nat) (Q : Ex → St → Option α) (x0 : List Int) (x1 : List Int) :
    (den C k) (cB Try.f45) Q (St0 x0 x1) = top (fun (x4 : Bool) => Q .ret (St1 x4)) x0 x1 := by
  have h : ∀ (D L : DT α), denJ D L Js C (cB Try.f45) Q (St0 x0 x1) =
        Q .ret (St1 (beqD .str x0 x1)) := by
    intro D L; kernel_rfl
  refine (show (den C k) (cB Try.f45) Q (St0 x0 x1) = denJ (den C k) (lp C k) Js C (cB Try.f45) Q (St0 x0 x1) from (denJ_den _ _ _ _ _ _).symm).trans ((h (den C k) (lp C k)).trans ?_)
  first | rfl | kernel_rfl
def run (x0 : List Int) (x1 : List Int) : Option (Bool) := top (α := Bool) (fun (x4 : Bool) => some x4) x0 x1
def F : Fn := ⟨(.pair (.sl (.int .u8)) (.pair (.sl (.int .u8)) .unit)), .bool, false, fun x => run x.1 x.2.1⟩
set_option maxRecDepth 100000 in
theorem con : Con Try.prog 45 F := by
  refine con_of_den (C := C) (ctx_ok (by kernel_rfl) (by kernel_rfl) (by kernel_rfl) (by kernel_rfl) trivial) (by kernel_rfl) Try.func45 (c := cB Try.f45) (by kernel_rfl) (by kernel_rfl) F fuel (fun x => by simp [F, spread, Try.ntmps45]) ?_
  intro x r h
  rw [← h]
  have h1 : start F Try.f45.ntmps x = (St0 x.1 x.2.1) := by kernel_rfl
  rw [h1]
  refine (top_eq fuel (fin C Try.f45.results.toList F.rs F.multi) x.1 x.2.1).trans ?_
  kernel_rfl
theorem named : Named Try.prog 45 := named_of Try.func45 (by kernel_rfl) (by kernel_rfl)
end Go.Bx.basculelaw_sameBytes
namespace Go.Bx.basculelaw_LoadEncodes
open Go Go.Proofs Go.Bx
set_option maxRecDepth 100000
set_option linter.unusedVariables false
def Js : List Nat := []
def C : Ctx := ⟨[(4, .bool), (71, (.pair (.int .i64) (.pair (.arr 4 (.int .u64)) (.pair (.arr 4 (.int .u64)) (.pair (.arr 32 (.int .u8)) (.pair (.int .i64) (.pair (.arr 32 (.int .u8)) (.pair (.int .i64) (.pair (.int .i64) (.pair .str (.pair (.sl (.int .u8)) (.pair (.int .i64) (.pair (.sl (.arr 20 (.int .u8))) .unit)))))))))))))], [], [], fnL [(45, Go.Bx.basculelaw_sameBytes.F), (51, Go.Bx.load_Encode.F), (52, Go.Bx.basculeref_LoadBytes.F)], noSh, [], invL [], [(2, [2])], [], [], 0, 0⟩
def St0 (x0 : Int × List Int × List Int × List Int × Int × List Int × Int × Int × List Int × List Int × Int × List (List Int) × Unit) : St := stL 25 [(0, .data (.pair (.int .i64) (.pair (.arr 4 (.int .u64)) (.pair (.arr 4 (.int .u64)) (.pair (.arr 32 (.int .u8)) (.pair (.int .i64) (.pair (.arr 32 (.int .u8)) (.pair (.int .i64) (.pair (.int .i64) (.pair .str (.pair (.sl (.int .u8)) (.pair (.int .i64) (.pair (.sl (.arr 20 (.int .u8))) .unit)))))))))))) x0)] []
def St1 (x2 : Bool) : St := stL 25 [(2, .data .bool x2)] []
def top {α : Type} (Rt : Bool → Option α) (x0 : Int × List Int × List Int × List Int × Int × List Int × Int × Int × List Int × List Int × Int × List (List Int) × Unit) : Option α :=
  (Go.Bx.load_Encode.run x0).bind fun y1 =>
  (Go.Bx.basculeref_LoadBytes.run x0).bind fun y2 =>
  (Go.Bx.basculelaw_sameBytes.run y1.1 y2.1).bind fun y3 =>
  Rt (cond y3 (y1.2.1 == y2.2.1) false)
theorem top_eq {α : Type} (k : Nat) (Q : Ex → St → Option α) (x0 : Int × List Int × List Int × List Int × Int × List Int × Int × Int × List Int × List Int × Int × List (List Int) × Unit) :
    (den C k) (cB Try.f16) Q (St0 x0) = top (fun (x2 : Bool) => Q .ret (St1 x2)) x0 := by
  have h : ∀ (D L : DT α), denJ D L Js C (cB Try.f16) Q (St0 x0) =
        (Go.Bx.load_Encode.run x0).bind fun y1 =>
        (Go.Bx.basculeref_LoadBytes.run x0).bind fun y2 =>
        (Go.Bx.basculelaw_sameBytes.run y1.1 y2.1).bind fun y3 =>
        Q .ret (St1 (cond y3 (y1.2.1 == y2.2.1) false)) := by
    intro D L; kernel_rfl
  refine (show (den C k) (cB Try.f16) Q (St0 x0) = denJ (den C k) (lp C k) Js C (cB Try.f16) Q (St0 x0) from (denJ_den _ _ _ _ _ _).symm).trans ((h (den C k) (lp C k)).trans ?_)
  first | rfl | kernel_rfl
def run (x0 : Int × List Int × List Int × List Int × Int × List Int × Int × Int × List Int × List Int × Int × List (List Int) × Unit) : Option (Bool) := top (α := Bool) (fun (x2 : Bool) => some x2) x0
def F : Fn := ⟨(.pair (.pair (.int .i64) (.pair (.arr 4 (.int .u64)) (.pair (.arr 4 (.int .u64)) (.pair (.arr 32 (.int .u8)) (.pair (.int .i64) (.pair (.arr 32 (.int .u8)) (.pair (.int .i64) (.pair (.int .i64) (.pair .str (.pair (.sl (.int .u8)) (.pair (.int .i64) (.pair (.sl (.arr 20 (.int .u8))) .unit)))))))))))) .unit), .bool, false, fun x => run x.1⟩
set_option maxRecDepth 100000 in
theorem con : Con Try.prog 16 F := by
  refine con_of_den (C := C) (ctx_ok (by kernel_rfl) (by kernel_rfl) (by kernel_rfl) (by kernel_rfl) ⟨.inl ⟨Go.Bx.basculelaw_sameBytes.con, Go.Bx.basculelaw_sameBytes.named⟩, ⟨.inl ⟨Go.Bx.load_Encode.con, Go.Bx.load_Encode.named⟩, ⟨.inl ⟨Go.Bx.basculeref_LoadBytes.con, Go.Bx.basculeref_LoadBytes.named⟩, trivial⟩⟩⟩) (by kernel_rfl) Try.func16 (c := cB Try.f16) (by kernel_rfl) (by kernel_rfl) F fuel (fun x => by simp [F, spread, Try.ntmps16]) ?_
  intro x r h
  rw [← h]
  have h1 : start F Try.f16.ntmps x = (St0 x.1) := by kernel_rfl
  rw [h1]
  refine (top_eq fuel (fin C Try.f16.results.toList F.rs F.multi) x.1).trans ?_
  kernel_rfl
theorem named : Named Try.prog 16 := named_of Try.func16 (by kernel_rfl) (by kernel_rfl)
end Go.Bx.basculelaw_LoadEncodes
namespace Go.Bx.basculelaw_sameLog
open Go Go.Proofs Go.Bx
set_option maxRecDepth 100000
set_option linter.unusedVariables false
def Js : List Nat := []
def C : Ctx := ⟨[(4, .bool), (59, (.sl (.int .u8))), (61, (.pair (.sl (.int .u8)) (.pair (.sl (.int .u8)) .unit)))], [], [], fnL [(45, Go.Bx.basculelaw_sameBytes.F)], noSh, [], invL [], [(2, [4])], [], [], 0, 0⟩
def St0 (x0 : List Int × List Int × Unit) (x1 : List Int × List Int × Unit) : St := stL 17 [(0, .data (.pair (.sl (.int .u8)) (.pair (.sl (.int .u8)) .unit)) x0), (1, .data (.pair (.sl (.int .u8)) (.pair (.sl (.int .u8)) .unit)) x1)] []
def St1 (x4 : Bool) : St := stL 17 [(4, .data .bool x4)] []
def top {α : Type} (Rt : Bool → Option α) (x0 : List Int × List Int × Unit) (x1 : List Int × List Int × Unit) : Option α :=
  (Go.Bx.basculelaw_sameBytes.run x0.1 x1.1).bind fun y1 =>
  (if (y1 == true) = true then Go.Bx.basculelaw_sameBytes.run x0.2.1 x1.2.1 else some false).bind fun y2 =>
  Rt (cond y1 y2 false)
theorem top_eq {α : Type} (k : Nat) (Q : Ex → St → Option α) (x0 : List Int × List Int × Unit) (x1 : List Int × List Int × Unit) :
    (den C k) (cB Try.f72) Q (St0 x0 x1) = top (fun (x4 : Bool) => Q .ret (St1 x4)) x0 x1 := by
  have h : ∀ (D L : DT α), denJ D L Js C (cB Try.f72) Q (St0 x0 x1) =
        (Go.Bx.basculelaw_sameBytes.run x0.1 x1.1).bind fun y1 =>
        (if (y1 == true) = true then Go.Bx.basculelaw_sameBytes.run x0.2.1 x1.2.1 else some false).bind fun y2 =>
        Q .ret (St1 (cond y1 y2 false)) := by
    intro D L; kernel_rfl
  refine (show (den C k) (cB Try.f72) Q (St0 x0 x1) = denJ (den C k) (lp C k) Js C (cB Try.f72) Q (St0 x0 x1) from (denJ_den _ _ _ _ _ _).symm).trans ((h (den C k) (lp C k)).trans ?_)
  first | rfl | kernel_rfl
def run (x0 : List Int × List Int × Unit) (x1 : List Int × List Int × Unit) : Option (Bool) := top (α := Bool) (fun (x4 : Bool) => some x4) x0 x1
def F : Fn := ⟨(.pair (.pair (.sl (.int .u8)) (.pair (.sl (.int .u8)) .unit)) (.pair (.pair (.sl (.int .u8)) (.pair (.sl (.int .u8)) .unit)) .unit)), .bool, false, fun x => run x.1 x.2.1⟩
set_option maxRecDepth 100000 in
theorem con : Con Try.prog 72 F := by
  refine con_of_den (C := C) (ctx_ok (by kernel_rfl) (by kernel_rfl) (by kernel_rfl) (by kernel_rfl) ⟨.inl ⟨Go.Bx.basculelaw_sameBytes.con, Go.Bx.basculelaw_sameBytes.named⟩, trivial⟩) (by kernel_rfl) Try.func72 (c := cB Try.f72) (by kernel_rfl) (by kernel_rfl) F fuel (fun x => by simp [F, spread, Try.ntmps72]) ?_
  intro x r h
  rw [← h]
  have h1 : start F Try.f72.ntmps x = (St0 x.1 x.2.1) := by kernel_rfl
  rw [h1]
  refine (top_eq fuel (fin C Try.f72.results.toList F.rs F.multi) x.1 x.2.1).trans ?_
  kernel_rfl
theorem named : Named Try.prog 72 := named_of Try.func72 (by kernel_rfl) (by kernel_rfl)
end Go.Bx.basculelaw_sameLog
namespace Go.Bx.basculeref_SameBody
open Go Go.Proofs Go.Bx
set_option maxRecDepth 100000
set_option linter.unusedVariables false
def Js : List Nat := []
def C : Ctx := ⟨[(3, (.int .i64)), (4, .bool), (9, .str), (59, (.sl (.int .u8))), (69, (.arr 32 (.int .u8))), (76, (.pair (.int .i64) (.pair (.int .i64) (.pair (.int .i64) (.pair (.arr 32 (.int .u8)) (.pair (.int .i64) (.pair (.int .i64) (.pair (.sl (.int .u8)) .unit))))))))], [], [], fnL [], noSh, [], invL [], [(2, [4])], [], [], 0, 0⟩
def St0 (x0 : Int × Int × Int × List Int × Int × Int × List Int × Unit) (x1 : Int × Int × Int × List Int × Int × Int × List Int × Unit) : St := stL 54 [(0, .data (.pair (.int .i64) (.pair (.int .i64) (.pair (.int .i64) (.pair (.arr 32 (.int .u8)) (.pair (.int .i64) (.pair (.int .i64) (.pair (.sl (.int .u8)) .unit))))))) x0), (1, .data (.pair (.int .i64) (.pair (.int .i64) (.pair (.int .i64) (.pair (.arr 32 (.int .u8)) (.pair (.int .i64) (.pair (.int .i64) (.pair (.sl (.int .u8)) .unit))))))) x1)] []
def St1 (x4 : Bool) : St := stL 54 [(4, .data .bool x4)] []
def top {α : Type} (Rt : Bool → Option α) (x0 : Int × Int × Int × List Int × Int × Int × List Int × Unit) (x1 : Int × Int × Int × List Int × Int × Int × List Int × Unit) : Option α :=
  Rt (cond (cond (cond (cond (cond (cond (x0.1 == x1.1) (x0.2.1 == x1.2.1) false) (x0.2.2.1 == x1.2.2.1) false) (beqD (.arr 32 (.int .u8)) x0.2.2.2.1 x1.2.2.2.1) false) (x0.2.2.2.2.1 == x1.2.2.2.2.1) false) (x0.2.2.2.2.2.1 == x1.2.2.2.2.2.1) false) (beqD .str x0.2.2.2.2.2.2.1 x1.2.2.2.2.2.2.1) false)
theorem top_eq {α : Type} (k : Nat) (Q : Ex → St → Option α) (x0 : Int × Int × Int × List Int × Int × Int × List Int × Unit) (x1 : Int × Int × Int × List Int × Int × Int × List Int × Unit) :
    (den C k) (cB Try.f95) Q (St0 x0 x1) = top (fun (x4 : Bool) => Q .ret (St1 x4)) x0 x1 := by
  have h : ∀ (D L : DT α), denJ D L Js C (cB Try.f95) Q (St0 x0 x1) =
        Q .ret (St1 (cond (cond (cond (cond (cond (cond (x0.1 == x1.1) (x0.2.1 == x1.2.1) false) (x0.2.2.1 == x1.2.2.1) false) (beqD (.arr 32 (.int .u8)) x0.2.2.2.1 x1.2.2.2.1) false) (x0.2.2.2.2.1 == x1.2.2.2.2.1) false) (x0.2.2.2.2.2.1 == x1.2.2.2.2.2.1) false) (beqD .str x0.2.2.2.2.2.2.1 x1.2.2.2.2.2.2.1) false)) := by
    intro D L; kernel_rfl
  refine (show (den C k) (cB Try.f95) Q (St0 x0 x1) = denJ (den C k) (lp C k) Js C (cB Try.f95) Q (St0 x0 x1) from (denJ_den _ _ _ _ _ _).symm).trans ((h (den C k) (lp C k)).trans ?_)
  first | rfl | kernel_rfl
def run (x0 : Int × Int × Int × List Int × Int × Int × List Int × Unit) (x1 : Int × Int × Int × List Int × Int × Int × List Int × Unit) : Option (Bool) := top (α := Bool) (fun (x4 : Bool) => some x4) x0 x1
def F : Fn := ⟨(.pair (.pair (.int .i64) (.pair (.int .i64) (.pair (.int .i64) (.pair (.arr 32 (.int .u8)) (.pair (.int .i64) (.pair (.int .i64) (.pair (.sl (.int .u8)) .unit))))))) (.pair (.pair (.int .i64) (.pair (.int .i64) (.pair (.int .i64) (.pair (.arr 32 (.int .u8)) (.pair (.int .i64) (.pair (.int .i64) (.pair (.sl (.int .u8)) .unit))))))) .unit)), .bool, false, fun x => run x.1 x.2.1⟩
set_option maxRecDepth 100000 in
theorem con : Con Try.prog 95 F := by
  refine con_of_den (C := C) (ctx_ok (by kernel_rfl) (by kernel_rfl) (by kernel_rfl) (by kernel_rfl) trivial) (by kernel_rfl) Try.func95 (c := cB Try.f95) (by kernel_rfl) (by kernel_rfl) F fuel (fun x => by simp [F, spread, Try.ntmps95]) ?_
  intro x r h
  rw [← h]
  have h1 : start F Try.f95.ntmps x = (St0 x.1 x.2.1) := by kernel_rfl
  rw [h1]
  refine (top_eq fuel (fin C Try.f95.results.toList F.rs F.multi) x.1 x.2.1).trans ?_
  kernel_rfl
theorem named : Named Try.prog 95 := named_of Try.func95 (by kernel_rfl) (by kernel_rfl)
end Go.Bx.basculeref_SameBody
namespace Go.Bx.basculelaw_sameBodies
open Go Go.Proofs Go.Bx
set_option maxRecDepth 100000
set_option linter.unusedVariables false
def Js : List Nat := [10]
def C : Ctx := ⟨[(4, .bool), (62, (.sl (.pair (.int .i64) (.pair (.int .i64) (.pair (.int .i64) (.pair (.arr 32 (.int .u8)) (.pair (.int .i64) (.pair (.int .i64) (.pair (.sl (.int .u8)) .unit))))))))), (76, (.pair (.int .i64) (.pair (.int .i64) (.pair (.int .i64) (.pair (.arr 32 (.int .u8)) (.pair (.int .i64) (.pair (.int .i64) (.pair (.sl (.int .u8)) .unit))))))))], [], [], fnL [(95, Go.Bx.basculeref_SameBody.F)], noSh, [], invL [], [(2, [4]), (1, []), (4, [0, 1, 12, 13]), (12, [0, 1, 12, 13]), (27, [])], [], [], 0, 0⟩
def St0 (x0 : List (Int × Int × Int × List Int × Int × Int × List Int × Unit)) (x1 : List (Int × Int × Int × List Int × Int × Int × List Int × Unit)) : St := stL 27 [(0, .data (.sl (.pair (.int .i64) (.pair (.int .i64) (.pair (.int .i64) (.pair (.arr 32 (.int .u8)) (.pair (.int .i64) (.pair (.int .i64) (.pair (.sl (.int .u8)) .unit)))))))) x0), (1, .data (.sl (.pair (.int .i64) (.pair (.int .i64) (.pair (.int .i64) (.pair (.arr 32 (.int .u8)) (.pair (.int .i64) (.pair (.int .i64) (.pair (.sl (.int .u8)) .unit)))))))) x1)] []
def St1 (x4 : Bool) : St := stL 27 [(4, .data .bool x4)] []
def St2 (x0 : List (Int × Int × Int × List Int × Int × Int × List Int × Unit)) (x1 : List (Int × Int × Int × List Int × Int × Int × List Int × Unit)) (x12 : Int) (x13 : Int) : St := stL 27 [(0, .data (.sl (.pair (.int .i64) (.pair (.int .i64) (.pair (.int .i64) (.pair (.arr 32 (.int .u8)) (.pair (.int .i64) (.pair (.int .i64) (.pair (.sl (.int .u8)) .unit)))))))) x0), (1, .data (.sl (.pair (.int .i64) (.pair (.int .i64) (.pair (.int .i64) (.pair (.arr 32 (.int .u8)) (.pair (.int .i64) (.pair (.int .i64) (.pair (.sl (.int .u8)) .unit)))))))) x1), (12, .data (.int .i64) x12), (13, .data (.int .i64) x13)] []
noncomputable def cd0 : Code := cL (cL (cR (cL (cR (cR (cB Try.f73))))))
def St3 : St := stL 27 [] []
def l0s {α : Type} (Nx : (List (Int × Int × Int × List Int × Int × Int × List Int × Unit)) → (List (Int × Int × Int × List Int × Int × Int × List Int × Unit)) → Int → Int → Option α) (Rt : Bool → Option α) (Xt0 : Option α) (x0 : List (Int × Int × Int × List Int × Int × Int × List Int × Unit)) (x1 : List (Int × Int × Int × List Int × Int × Int × List Int × Unit)) (x12 : Int) (x13 : Int) : Option α :=
  if (decide (x13 < x12)) = true then
    if 0 ≤ x13 ∧ x13 < (x0.length : Int) then
      if 0 ≤ x13 ∧ x13 < (x1.length : Int) then
        (Go.Bx.basculeref_SameBody.run (List.getD x0 (Int.toNat x13) (0, 0, 0, (List.replicate 32 0), 0, 0, [], ())) (List.getD x1 (Int.toNat x13) (0, 0, 0, (List.replicate 32 0), 0, 0, [], ()))).bind fun y1 =>
        if (not y1) = true then
          Rt false
        else
          Nx x0 x1 x12 (IntKind.i64.wrap (x13 + 1))
      else none
    else none
  else
    Xt0
theorem l0s_eq {α : Type} (k : Nat) (next : St → Option α) (Q : Ex → St → Option α) (x0 : List (Int × Int × Int × List Int × Int × Int × List Int × Unit)) (x1 : List (Int × Int × Int × List Int × Int × Int × List Int × Unit)) (x12 : Int) (x13 : Int) :
    rnd C k cd0 12 Q next (St2 x0 x1 x12 x13) = l0s (fun (x0 : List (Int × Int × Int × List Int × Int × Int × List Int × Unit)) (x1 : List (Int × Int × Int × List Int × Int × Int × List Int × Unit)) (x12 : Int) (x13 : Int) => next (St2 x0 x1 x12 x13)) (fun (x4 : Bool) => Q .ret (St1 x4)) (Q (.exit 0) St3) x0 x1 x12 x13 := by
  have h : ∀ (D L : DT α), denJ D L Js C cd0 (lq C 12 next Q) (St2 x0 x1 x12 x13) =
        if (decide (x13 < x12)) = true then
          if 0 ≤ x13 ∧ x13 < (x0.length : Int) then
            if 0 ≤ x13 ∧ x13 < (x1.length : Int) then
              (Go.Bx.basculeref_SameBody.run (List.getD x0 (Int.toNat x13) (0, 0, 0, (List.replicate 32 0), 0, 0, [], ())) (List.getD x1 (Int.toNat x13) (0, 0, 0, (List.replicate 32 0), 0, 0, [], ()))).bind fun y1 =>
              if (not y1) = true then
                Q .ret (St1 false)
              else
                next (St2 x0 x1 x12 (IntKind.i64.wrap (x13 + 1)))
            else none
          else none
        else
          Q (.exit 0) St3 := by
    intro D L; kernel_rfl
  refine (show rnd C k cd0 12 Q next (St2 x0 x1 x12 x13) = denJ (den C k) (lp C k) Js C cd0 (lq C 12 next Q) (St2 x0 x1 x12 x13) from (denJ_den _ _ _ _ _ _).symm).trans ((h (den C k) (lp C k)).trans ?_)
  first | rfl | kernel_rfl
def l0 {α : Type} (k : Nat) (Rt : Bool → Option α) (Xt0 : Option α) : Nat → (List (Int × Int × Int × List Int × Int × Int × List Int × Unit)) → (List (Int × Int × Int × List Int × Int × Int × List Int × Unit)) → Int → Int → Option α
  | 0, _, _, _, _ => none
  | n + 1, x0, x1, x12, x13 => l0s (l0 k Rt Xt0 n) Rt Xt0 x0 x1 x12 x13
theorem l0_eq {α : Type} (k : Nat) (Q : Ex → St → Option α) : ∀ (n : Nat) (x0 : List (Int × Int × Int × List Int × Int × Int × List Int × Unit)) (x1 : List (Int × Int × Int × List Int × Int × Int × List Int × Unit)) (x12 : Int) (x13 : Int), iter (rnd C k cd0 12 Q) n (St2 x0 x1 x12 x13) = l0 k (fun (x4 : Bool) => Q .ret (St1 x4)) (Q (.exit 0) St3) n x0 x1 x12 x13
  | 0, _, _, _, _ => rfl
  | n + 1, x0, x1, x12, x13 => (iter_succ _ _ _).trans ((l0s_eq k (iter (rnd C k cd0 12 Q) n) Q x0 x1 x12 x13).trans (congrArg (fun N => l0s N (fun (x4 : Bool) => Q .ret (St1 x4)) (Q (.exit 0) St3) x0 x1 x12 x13) (funext fun x0 => funext fun x1 => funext fun x12 => funext fun x13 => l0_eq k Q n x0 x1 x12 x13)))
theorem l0_congr {α : Type} (k : Nat) (Rt : Bool → Option α) (Xt0 : Option α) (Rtq : Bool → Option α) (Xt0q : Option α) (hRt : ∀ (x4 : Bool), Rt x4 = Rtq x4) (hXt0 : Xt0 = Xt0q) (n : Nat) (x0 : List (Int × Int × Int × List Int × Int × Int × List Int × Unit)) (x1 : List (Int × Int × Int × List Int × Int × Int × List Int × Unit)) (x12 : Int) (x13 : Int) : l0 k Rt Xt0 n x0 x1 x12 x13 = l0 k Rtq Xt0q n x0 x1 x12 x13 := by
  obtain rfl : Rt = Rtq := by funext x4; exact hRt x4
  obtain rfl : Xt0 = Xt0q := hXt0
  rfl
noncomputable def cd1 : Code := cR (cR (cR (cB Try.f73)))
def St4 : St := stL 27 [] []
def j0 {α : Type} (Rt : Bool → Option α) : Option α :=
  Rt true
theorem j0_eq {α : Type} (k : Nat) (Q : Ex → St → Option α) :
    (den C k) cd1 Q St4 = j0 (fun (x4 : Bool) => Q .ret (St1 x4)) := by
  have h : ∀ (D L : DT α), denJ D L Js C cd1 Q St4 =
        Q .ret (St1 true) := by
    intro D L; kernel_rfl
  refine (show (den C k) cd1 Q St4 = denJ (den C k) (lp C k) Js C cd1 Q St4 from (denJ_den _ _ _ _ _ _).symm).trans ((h (den C k) (lp C k)).trans ?_)
  first | rfl | kernel_rfl
theorem a0 {α : Type} (k : Nat) (Q : Ex → St → Option α) (x0 : List (Int × Int × Int × List Int × Int × Int × List Int × Unit)) (x1 : List (Int × Int × Int × List Int × Int × Int × List Int × Unit)) (x12 : Int) (x13 : Int) :
    (lp C k) cd0 (blkQ C 0 (sq (den C k) (lp C k) Js C cd1 Q)) (St2 x0 x1 x12 x13) = l0 k (fun (x4 : Bool) => (fun (x4 : Bool) => Q .ret (St1 x4)) x4) (j0 (fun (x4 : Bool) => Q .ret (St1 x4))) k x0 x1 x12 x13 :=
  (show (lp C k) cd0 (blkQ C 0 (sq (den C k) (lp C k) Js C cd1 Q)) (St2 x0 x1 x12 x13) = iter (rnd C k cd0 12 (blkQ C 0 (sq (den C k) (lp C k) Js C cd1 Q))) k (St2 x0 x1 x12 x13) by kernel_rfl).trans ((l0_eq k (blkQ C 0 (sq (den C k) (lp C k) Js C cd1 Q)) k x0 x1 x12 x13).trans (l0_congr k _ _ _ _ (fun x4 => (show (blkQ C 0 (sq (den C k) (lp C k) Js C cd1 Q)) .ret (St1 x4) = Q .ret (St1 x4) by kernel_rfl)) ((show (blkQ C 0 (sq (den C k) (lp C k) Js C cd1 Q)) (.exit 0) St3 = (den C k) cd1 Q St4 by kernel_rfl).trans (by simp only [j0_eq])) k x0 x1 x12 x13))
def top {α : Type} (k : Nat) (Rt : Bool → Option α) (x0 : List (Int × Int × Int × List Int × Int × Int × List Int × Unit)) (x1 : List (Int × Int × Int × List Int × Int × Int × List Int × Unit)) : Option α :=
  if ((x0.length : Int) != (x1.length : Int)) = true then
    Rt false
  else
    l0 k (fun (x4 : Bool) => Rt x4) (j0 Rt) k x0 x1 (x0.length : Int) 0
theorem top_eq {α : Type} (k : Nat) (Q : Ex → St → Option α) (x0 : List (Int × Int × Int × List Int × Int × Int × List Int × Unit)) (x1 : List (Int × Int × Int × List Int × Int × Int × List Int × Unit)) :
    (den C k) (cB Try.f73) Q (St0 x0 x1) = top k (fun (x4 : Bool) => Q .ret (St1 x4)) x0 x1 := by
  have h : ∀ (D L : DT α), denJ D L Js C (cB Try.f73) Q (St0 x0 x1) =
        if ((x0.length : Int) != (x1.length : Int)) = true then
          Q .ret (St1 false)
        else
          L cd0 (blkQ C 0 (sq D L Js C cd1 Q)) (St2 x0 x1 (x0.length : Int) 0) := by
    intro D L; kernel_rfl
  refine (show (den C k) (cB Try.f73) Q (St0 x0 x1) = denJ (den C k) (lp C k) Js C (cB Try.f73) Q (St0 x0 x1) from (denJ_den _ _ _ _ _ _).symm).trans ((h (den C k) (lp C k)).trans ?_)
  simp only [a0]
  first | rfl | kernel_rfl
def run (x0 : List (Int × Int × Int × List Int × Int × Int × List Int × Unit)) (x1 : List (Int × Int × Int × List Int × Int × Int × List Int × Unit)) : Option (Bool) := top (α := Bool) fuel (fun (x4 : Bool) => some x4) x0 x1
def F : Fn := ⟨(.pair (.sl (.pair (.int .i64) (.pair (.int .i64) (.pair (.int .i64) (.pair (.arr 32 (.int .u8)) (.pair (.int .i64) (.pair (.int .i64) (.pair (.sl (.int .u8)) .unit)))))))) (.pair (.sl (.pair (.int .i64) (.pair (.int .i64) (.pair (.int .i64) (.pair (.arr 32 (.int .u8)) (.pair (.int .i64) (.pair (.int .i64) (.pair (.sl (.int .u8)) .unit)))))))) .unit)), .bool, false, fun x => run x.1 x.2.1⟩
set_option maxRecDepth 100000 in
theorem con : Con Try.prog 73 F := by
  refine con_of_den (C := C) (ctx_ok (by kernel_rfl) (by kernel_rfl) (by kernel_rfl) (by kernel_rfl) ⟨.inl ⟨Go.Bx.basculeref_SameBody.con, Go.Bx.basculeref_SameBody.named⟩, trivial⟩) (by kernel_rfl) Try.func73 (c := cB Try.f73) (by kernel_rfl) (by kernel_rfl) F fuel (fun x => by simp [F, spread, Try.ntmps73]) ?_
  intro x r h
  rw [← h]
  have h1 : start F Try.f73.ntmps x = (St0 x.1 x.2.1) := by kernel_rfl
  rw [h1]
  refine (top_eq fuel (fin C Try.f73.results.toList F.rs F.multi) x.1 x.2.1).trans ?_
  kernel_rfl
theorem named : Named Try.prog 73 := named_of Try.func73 (by kernel_rfl) (by kernel_rfl)
end Go.Bx.basculelaw_sameBodies
namespace Go.Bx.basculelaw_sameGuard
open Go Go.Proofs Go.Bx
set_option maxRecDepth 100000
set_option linter.unusedVariables false
def Js : List Nat := []
def C : Ctx := ⟨[(4, .bool), (42, (.pair (.arr 3 (.int .i64)) (.pair (.arr 3 (.int .i64)) (.pair (.int .i64) (.pair (.sl (.pair (.int .i64) (.pair (.int .i64) (.pair (.int .i64) (.pair (.int .i64) .unit))))) (.pair (.sl (.pair (.int .i64) (.pair (.int .i64) (.pair (.int .i64) (.pair (.int .i64) .unit))))) .unit)))))), (56, (.arr 4 (.int .u64))), (61, (.pair (.sl (.int .u8)) (.pair (.sl (.int .u8)) .unit))), (62, (.sl (.pair (.int .i64) (.pair (.int .i64) (.pair (.int .i64) (.pair (.arr 32 (.int .u8)) (.pair (.int .i64) (.pair (.int .i64) (.pair (.sl (.int .u8)) .unit))))))))), (64, (.pair (.arr 4 (.int .u64)) (.pair (.pair (.arr 3 (.int .i64)) (.pair (.arr 3 (.int .i64)) (.pair (.int .i64) (.pair (.sl (.pair (.int .i64) (.pair (.int .i64) (.pair (.int .i64) (.pair (.int .i64) .unit))))) (.pair (.sl (.pair (.int .i64) (.pair (.int .i64) (.pair (.int .i64) (.pair (.int .i64) .unit))))) .unit))))) (.pair (.pair (.arr 3 (.int .i64)) (.pair (.arr 3 (.int .i64)) (.pair (.int .i64) (.pair (.sl (.pair (.int .i64) (.pair (.int .i64) (.pair (.int .i64) (.pair (.int .i64) .unit))))) (.pair (.sl (.pair (.int .i64) (.pair (.int .i64) (.pair (.int .i64) (.pair (.int .i64) .unit))))) .unit))))) (.pair (.pair (.sl (.int .u8)) (.pair (.sl (.int .u8)) .unit)) (.pair (.sl (.pair (.int .i64) (.pair (.int .i64) (.pair (.int .i64) (.pair (.arr 32 (.int .u8)) (.pair (.int .i64) (.pair (.int .i64) (.pair (.sl (.int .u8)) .unit)))))))) (.pair (.sl (.pair (.int .i64) (.pair (.int .i64) (.pair (.int .i64) (.pair (.arr 32 (.int .u8)) (.pair (.int .i64) (.pair (.int .i64) (.pair (.sl (.int .u8)) .unit)))))))) .unit)))))))], [], [], fnL [(32, Go.Bx.basculelaw_sameGate.F), (72, Go.Bx.basculelaw_sameLog.F), (73, Go.Bx.basculelaw_sameBodies.F)], noSh, [], invL [], [(2, [4])], [], [], 0, 0⟩
def St0 (x0 : List Int × (List Int × List Int × Int × List (Int × Int × Int × Int × Unit) × List (Int × Int × Int × Int × Unit) × Unit) × (List Int × List Int × Int × List (Int × Int × Int × Int × Unit) × List (Int × Int × Int × Int × Unit) × Unit) × (List Int × List Int × Unit) × List (Int × Int × Int × List Int × Int × Int × List Int × Unit) × List (Int × Int × Int × List Int × Int × Int × List Int × Unit) × Unit) (x1 : List Int × (List Int × List Int × Int × List (Int × Int × Int × Int × Unit) × List (Int × Int × Int × Int × Unit) × Unit) × (List Int × List Int × Int × List (Int × Int × Int × Int × Unit) × List (Int × Int × Int × Int × Unit) × Unit) × (List Int × List Int × Unit) × List (Int × Int × Int × List Int × Int × Int × List Int × Unit) × List (Int × Int × Int × List Int × Int × Int × List Int × Unit) × Unit) : St := stL 45 [(0, .data (.pair (.arr 4 (.int .u64)) (.pair (.pair (.arr 3 (.int .i64)) (.pair (.arr 3 (.int .i64)) (.pair (.int .i64) (.pair (.sl (.pair (.int .i64) (.pair (.int .i64) (.pair (.int .i64) (.pair (.int .i64) .unit))))) (.pair (.sl (.pair (.int .i64) (.pair (.int .i64) (.pair (.int .i64) (.pair (.int .i64) .unit))))) .unit))))) (.pair (.pair (.arr 3 (.int .i64)) (.pair (.arr 3 (.int .i64)) (.pair (.int .i64) (.pair (.sl (.pair (.int .i64) (.pair (.int .i64) (.pair (.int .i64) (.pair (.int .i64) .unit))))) (.pair (.sl (.pair (.int .i64) (.pair (.int .i64) (.pair (.int .i64) (.pair (.int .i64) .unit))))) .unit))))) (.pair (.pair (.sl (.int .u8)) (.pair (.sl (.int .u8)) .unit)) (.pair (.sl (.pair (.int .i64) (.pair (.int .i64) (.pair (.int .i64) (.pair (.arr 32 (.int .u8)) (.pair (.int .i64) (.pair (.int .i64) (.pair (.sl (.int .u8)) .unit)))))))) (.pair (.sl (.pair (.int .i64) (.pair (.int .i64) (.pair (.int .i64) (.pair (.arr 32 (.int .u8)) (.pair (.int .i64) (.pair (.int .i64) (.pair (.sl (.int .u8)) .unit)))))))) .unit)))))) x0), (1, .data (.pair (.arr 4 (.int .u64)) (.pair (.pair (.arr 3 (.int .i64)) (.pair (.arr 3 (.int .i64)) (.pair (.int .i64) (.pair (.sl (.pair (.int .i64) (.pair (.int .i64) (.pair (.int .i64) (.pair (.int .i64) .unit))))) (.pair (.sl (.pair (.int .i64) (.pair (.int .i64) (.pair (.int .i64) (.pair (.int .i64) .unit))))) .unit))))) (.pair (.pair (.arr 3 (.int .i64)) (.pair (.arr 3 (.int .i64)) (.pair (.int .i64) (.pair (.sl (.pair (.int .i64) (.pair (.int .i64) (.pair (.int .i64) (.pair (.int .i64) .unit))))) (.pair (.sl (.pair (.int .i64) (.pair (.int .i64) (.pair (.int .i64) (.pair (.int .i64) .unit))))) .unit))))) (.pair (.pair (.sl (.int .u8)) (.pair (.sl (.int .u8)) .unit)) (.pair (.sl (.pair (.int .i64) (.pair (.int .i64) (.pair (.int .i64) (.pair (.arr 32 (.int .u8)) (.pair (.int .i64) (.pair (.int .i64) (.pair (.sl (.int .u8)) .unit)))))))) (.pair (.sl (.pair (.int .i64) (.pair (.int .i64) (.pair (.int .i64) (.pair (.arr 32 (.int .u8)) (.pair (.int .i64) (.pair (.int .i64) (.pair (.sl (.int .u8)) .unit)))))))) .unit)))))) x1)] []
def St1 (x4 : Bool) : St := stL 45 [(4, .data .bool x4)] []
def top {α : Type} (Rt : Bool → Option α) (x0 : List Int × (List Int × List Int × Int × List (Int × Int × Int × Int × Unit) × List (Int × Int × Int × Int × Unit) × Unit) × (List Int × List Int × Int × List (Int × Int × Int × Int × Unit) × List (Int × Int × Int × Int × Unit) × Unit) × (List Int × List Int × Unit) × List (Int × Int × Int × List Int × Int × Int × List Int × Unit) × List (Int × Int × Int × List Int × Int × Int × List Int × Unit) × Unit) (x1 : List Int × (List Int × List Int × Int × List (Int × Int × Int × Int × Unit) × List (Int × Int × Int × Int × Unit) × Unit) × (List Int × List Int × Int × List (Int × Int × Int × Int × Unit) × List (Int × Int × Int × Int × Unit) × Unit) × (List Int × List Int × Unit) × List (Int × Int × Int × List Int × Int × Int × List Int × Unit) × List (Int × Int × Int × List Int × Int × Int × List Int × Unit) × Unit) : Option α :=
  (if ((beqD (.arr 4 (.int .u64)) x0.1 x1.1) == true) = true then Go.Bx.basculelaw_sameGate.run x0.2.1 x1.2.1 else some false).bind fun y1 =>
  (if ((cond (beqD (.arr 4 (.int .u64)) x0.1 x1.1) y1 false) == true) = true then Go.Bx.basculelaw_sameGate.run x0.2.2.1 x1.2.2.1 else some false).bind fun y2 =>
  (if ((cond (cond (beqD (.arr 4 (.int .u64)) x0.1 x1.1) y1 false) y2 false) == true) = true then Go.Bx.basculelaw_sameLog.run x0.2.2.2.1 x1.2.2.2.1 else some false).bind fun y3 =>
  (if ((cond (cond (cond (beqD (.arr 4 (.int .u64)) x0.1 x1.1) y1 false) y2 false) y3 false) == true) = true then Go.Bx.basculelaw_sameBodies.run x0.2.2.2.2.1 x1.2.2.2.2.1 else some false).bind fun y4 =>
  (if ((cond (cond (cond (cond (beqD (.arr 4 (.int .u64)) x0.1 x1.1) y1 false) y2 false) y3 false) y4 false) == true) = true then Go.Bx.basculelaw_sameBodies.run x0.2.2.2.2.2.1 x1.2.2.2.2.2.1 else some false).bind fun y5 =>
  Rt (cond (cond (cond (cond (cond (beqD (.arr 4 (.int .u64)) x0.1 x1.1) y1 false) y2 false) y3 false) y4 false) y5 false)
theorem top_eq {α : Type} (k : Nat) (Q : Ex → St → Option α) (x0 : List Int × (List Int × List Int × Int × List (Int × Int × Int × Int × Unit) × List (Int × Int × Int × Int × Unit) × Unit) × (List Int × List Int × Int × List (Int × Int × Int × Int × Unit) × List (Int × Int × Int × Int × Unit) × Unit) × (List Int × List Int × Unit) × List (Int × Int × Int × List Int × Int × Int × List Int × Unit) × List (Int × Int × Int × List Int × Int × Int × List Int × Unit) × Unit) (x1 : List Int × (List Int × List Int × Int × List (Int × Int × Int × Int × Unit) × List (Int × Int × Int × Int × Unit) × Unit) × (List Int × List Int × Int × List (Int × Int × Int × Int × Unit) × List (Int × Int × Int × Int × Unit) × Unit) × (List Int × List Int × Unit) × List (Int × Int × Int × List Int × Int × Int × List Int × Unit) × List (Int × Int × Int × List Int × Int × Int × List Int × Unit) × Unit) :
    (den C k) (cB Try.f40) Q (St0 x0 x1) = top (fun (x4 : Bool) => Q .ret (St1 x4)) x0 x1 := by
  have h : ∀ (D L : DT α), denJ D L Js C (cB Try.f40) Q (St0 x0 x1) =
        (if ((beqD (.arr 4 (.int .u64)) x0.1 x1.1) == true) = true then Go.Bx.basculelaw_sameGate.run x0.2.1 x1.2.1 else some false).bind fun y1 =>
        (if ((cond (beqD (.arr 4 (.int .u64)) x0.1 x1.1) y1 false) == true) = true then Go.Bx.basculelaw_sameGate.run x0.2.2.1 x1.2.2.1 else some false).bind fun y2 =>
        (if ((cond (cond (beqD (.arr 4 (.int .u64)) x0.1 x1.1) y1 false) y2 false) == true) = true then Go.Bx.basculelaw_sameLog.run x0.2.2.2.1 x1.2.2.2.1 else some false).bind fun y3 =>
        (if ((cond (cond (cond (beqD (.arr 4 (.int .u64)) x0.1 x1.1) y1 false) y2 false) y3 false) == true) = true then Go.Bx.basculelaw_sameBodies.run x0.2.2.2.2.1 x1.2.2.2.2.1 else some false).bind fun y4 =>
        (if ((cond (cond (cond (cond (beqD (.arr 4 (.int .u64)) x0.1 x1.1) y1 false) y2 false) y3 false) y4 false) == true) = true then Go.Bx.basculelaw_sameBodies.run x0.2.2.2.2.2.1 x1.2.2.2.2.2.1 else some false).bind fun y5 =>
        Q .ret (St1 (cond (cond (cond (cond (cond (beqD (.arr 4 (.int .u64)) x0.1 x1.1) y1 false) y2 false) y3 false) y4 false) y5 false)) := by
    intro D L; kernel_rfl
  refine (show (den C k) (cB Try.f40) Q (St0 x0 x1) = denJ (den C k) (lp C k) Js C (cB Try.f40) Q (St0 x0 x1) from (denJ_den _ _ _ _ _ _).symm).trans ((h (den C k) (lp C k)).trans ?_)
  first | rfl | kernel_rfl
def run (x0 : List Int × (List Int × List Int × Int × List (Int × Int × Int × Int × Unit) × List (Int × Int × Int × Int × Unit) × Unit) × (List Int × List Int × Int × List (Int × Int × Int × Int × Unit) × List (Int × Int × Int × Int × Unit) × Unit) × (List Int × List Int × Unit) × List (Int × Int × Int × List Int × Int × Int × List Int × Unit) × List (Int × Int × Int × List Int × Int × Int × List Int × Unit) × Unit) (x1 : List Int × (List Int × List Int × Int × List (Int × Int × Int × Int × Unit) × List (Int × Int × Int × Int × Unit) × Unit) × (List Int × List Int × Int × List (Int × Int × Int × Int × Unit) × List (Int × Int × Int × Int × Unit) × Unit) × (List Int × List Int × Unit) × List (Int × Int × Int × List Int × Int × Int × List Int × Unit) × List (Int × Int × Int × List Int × Int × Int × List Int × Unit) × Unit) : Option (Bool) := top (α := Bool) (fun (x4 : Bool) => some x4) x0 x1
def F : Fn := ⟨(.pair (.pair (.arr 4 (.int .u64)) (.pair (.pair (.arr 3 (.int .i64)) (.pair (.arr 3 (.int .i64)) (.pair (.int .i64) (.pair (.sl (.pair (.int .i64) (.pair (.int .i64) (.pair (.int .i64) (.pair (.int .i64) .unit))))) (.pair (.sl (.pair (.int .i64) (.pair (.int .i64) (.pair (.int .i64) (.pair (.int .i64) .unit))))) .unit))))) (.pair (.pair (.arr 3 (.int .i64)) (.pair (.arr 3 (.int .i64)) (.pair (.int .i64) (.pair (.sl (.pair (.int .i64) (.pair (.int .i64) (.pair (.int .i64) (.pair (.int .i64) .unit))))) (.pair (.sl (.pair (.int .i64) (.pair (.int .i64) (.pair (.int .i64) (.pair (.int .i64) .unit))))) .unit))))) (.pair (.pair (.sl (.int .u8)) (.pair (.sl (.int .u8)) .unit)) (.pair (.sl (.pair (.int .i64) (.pair (.int .i64) (.pair (.int .i64) (.pair (.arr 32 (.int .u8)) (.pair (.int .i64) (.pair (.int .i64) (.pair (.sl (.int .u8)) .unit)))))))) (.pair (.sl (.pair (.int .i64) (.pair (.int .i64) (.pair (.int .i64) (.pair (.arr 32 (.int .u8)) (.pair (.int .i64) (.pair (.int .i64) (.pair (.sl (.int .u8)) .unit)))))))) .unit)))))) (.pair (.pair (.arr 4 (.int .u64)) (.pair (.pair (.arr 3 (.int .i64)) (.pair (.arr 3 (.int .i64)) (.pair (.int .i64) (.pair (.sl (.pair (.int .i64) (.pair (.int .i64) (.pair (.int .i64) (.pair (.int .i64) .unit))))) (.pair (.sl (.pair (.int .i64) (.pair (.int .i64) (.pair (.int .i64) (.pair (.int .i64) .unit))))) .unit))))) (.pair (.pair (.arr 3 (.int .i64)) (.pair (.arr 3 (.int .i64)) (.pair (.int .i64) (.pair (.sl (.pair (.int .i64) (.pair (.int .i64) (.pair (.int .i64) (.pair (.int .i64) .unit))))) (.pair (.sl (.pair (.int .i64) (.pair (.int .i64) (.pair (.int .i64) (.pair (.int .i64) .unit))))) .unit))))) (.pair (.pair (.sl (.int .u8)) (.pair (.sl (.int .u8)) .unit)) (.pair (.sl (.pair (.int .i64) (.pair (.int .i64) (.pair (.int .i64) (.pair (.arr 32 (.int .u8)) (.pair (.int .i64) (.pair (.int .i64) (.pair (.sl (.int .u8)) .unit)))))))) (.pair (.sl (.pair (.int .i64) (.pair (.int .i64) (.pair (.int .i64) (.pair (.arr 32 (.int .u8)) (.pair (.int .i64) (.pair (.int .i64) (.pair (.sl (.int .u8)) .unit)))))))) .unit)))))) .unit)), .bool, false, fun x => run x.1 x.2.1⟩
set_option maxRecDepth 100000 in
theorem con : Con Try.prog 40 F := by
  refine con_of_den (C := C) (ctx_ok (by kernel_rfl) (by kernel_rfl) (by kernel_rfl) (by kernel_rfl) ⟨.inl ⟨Go.Bx.basculelaw_sameGate.con, Go.Bx.basculelaw_sameGate.named⟩, ⟨.inl ⟨Go.Bx.basculelaw_sameLog.con, Go.Bx.basculelaw_sameLog.named⟩, ⟨.inl ⟨Go.Bx.basculelaw_sameBodies.con, Go.Bx.basculelaw_sameBodies.named⟩, trivial⟩⟩⟩) (by kernel_rfl) Try.func40 (c := cB Try.f40) (by kernel_rfl) (by kernel_rfl) F fuel (fun x => by simp [F, spread, Try.ntmps40]) ?_
  intro x r h
  rw [← h]
  have h1 : start F Try.f40.ntmps x = (St0 x.1 x.2.1) := by kernel_rfl
  rw [h1]
  refine (top_eq fuel (fin C Try.f40.results.toList F.rs F.multi) x.1 x.2.1).trans ?_
  kernel_rfl
theorem named : Named Try.prog 40 := named_of Try.func40 (by kernel_rfl) (by kernel_rfl)
end Go.Bx.basculelaw_sameGuard
