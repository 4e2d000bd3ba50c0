/- A part of a framework that reads Go code as functions of plain data; or a law about such functions. -/
import Derived.Test.YthgnmgdhgmobpaaBxS
namespace Go.Bx
open Go Go.RowKit

/-- the parts of a function's code -/
def cB (f : Func) : Code := f.body.getD .skip
def cL : Code → Code
  | .seq a _ => a | .block _ c => c | .loop c => c | .cond _ x _ => x | c => c
def cR : Code → Code
  | .seq _ b => b | .cond _ _ y => y | c => c

/-- a frame, the slots that hold something named -/
def frL : Nat → Nat → List (Nat × V) → List V
  | 0, _, _ => []
  | n + 1, i, l => (match look l i with
    | some v => v
    | none => .any) :: frL n (i + 1) l
def hpL : Nat → Nat → List (Nat × Blk) → List (Option Blk)
  | 0, _, _ => []
  | n + 1, i, l => look l i :: hpL n (i + 1) l
def stL (n : Nat) (f : List (Nat × V)) (h : List (Nat × Blk)) : St := ⟨frL n 0 f, hpL n 0 h⟩

/-- what comes behind the first of two pieces; behind a loop's round -/
def sq {α : Type} (C : Ctx) (k : Nat) (b : Code) (Q : Ex → St → Option α) : Ex → St → Option α := seqQ (fun S => den C k b Q (clean C (headK b) S)) Q
def lq {α : Type} (C : Ctx) (key : Nat) (next : St → Option α) (Q : Ex → St → Option α) : Ex → St → Option α := seqQ (fun S => next (clean C key S)) Q

/-- a loop's round -/
def rnd {α : Type} (C : Ctx) (k : Nat) (c : Code) (key : Nat) (Q : Ex → St → Option α) (next : St → Option α) (S : St) : Option α := den C k c (lq C key next Q) S

/-- rounds enough for every loop -/
def fuel : Nat := 2 ^ 64

theorem iter_succ {α : Type} (F : (St → Option α) → St → Option α) (n : Nat) (S : St) : iter F (n + 1) S = F (iter F n) S := rfl

theorem named_of {P : Program} {f : FuncId} {fn : Func} (h : P.funcs[f]? = some fn) (h1 : (fn.name == "runtime.NumGoroutine") = false) (h2 : fn.body.isNone = false) : Named P f := ⟨fn, h, h1, h2⟩

/-- callees, each with its contract -/
def fnL (l : List (Nat × Fn)) (f : Nat) : Option Fn := look l f

def AllCon (P : Program) : List (Nat × Fn) → Prop
  | [] => True
  | x :: l => (Con P x.1 x.2 ∧ Named P x.1) ∧ AllCon P l

theorem ctx_ok {P : Program} {ty : List (Nat × Ty)} {fns : List (Nat × Fn)} {live : List (Nat × List Nat)} (h1 : tableB P ty = true) (h2 : AllCon P fns) : CtxOk P ⟨ty, fnL fns, live⟩ where
  ty := table_ok h1
  fn := fun f F h => by
    simp only [fnL] at h
    induction fns with
    | nil => cases h
    | cons x l ih =>
      obtain ⟨i, G⟩ := x
      simp only [look] at h
      split at h
      · rename_i he
        cases h
        rw [Nat.eq_of_beq_eq_true he] at h2
        exact h2.1
      · exact ih h2.2 h

end Go.Bx
