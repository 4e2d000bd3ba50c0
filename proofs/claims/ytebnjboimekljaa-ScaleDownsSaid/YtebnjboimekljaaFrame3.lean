/- A part of a framework that reads Go code as functions of plain data. -/
import Derived.Test.YtebnjboimekljaaFrame2
namespace Go.Bx
set_option linter.unusedVariables false
set_option linter.unusedSimpArgs false
open Go Go.RowKit

/-- the parts of a function's code -/
def cB (f : Func) : Code := f.body.getD .skip
def cL : Code → Code
  | .seq a _ => a | .block _ c => c | .loop c => c | .scope c => c | .cond _ x _ => x | c => c
def cR : Code → Code
  | .seq _ b => b | .cond _ _ y => y | c => c

/-- a frame, the slots that hold something named -/
def frL : Nat → Nat → List (Nat × V) → List V
  | 0, _, _ => []
  | n + 1, i, l => (match look l i with
    | some v => v
    | none => .any) :: frL n (i + 1) l
def stL (n : Nat) (f : List (Nat × V)) (h : Heap) : St := ⟨frL n 0 f, h⟩

/-- a loop's round -/
abbrev lq {α : Type} (C : Ctx) (key : Nat) (next : St → Option α) (Q : Ex → St → Option α) : Ex → St → Option α := seqQ (fun S => clean C key S next) Q
def rnd {α : Type} (C : Ctx) (k : Nat) (c : Code) (key : Nat) (Q : Ex → St → Option α) (next : St → Option α) (S : St) : Option α := den C k c (lq C key next Q) S

/-- a loop's rounds -/
def lp {α : Type} (C : Ctx) (k : Nat) (c : Code) (Q : Ex → St → Option α) (S : St) : Option α := iter (fun next => den C k c (seqQ (fun S => clean C (headK c) S next) Q)) k S

/-- what code comes to, as a function of it -/
abbrev DT (α : Type) : Type := Code → (Ex → St → Option α) → St → Option α

/-- the same as 'den', but where ways meet 'D' is asked, and at a loop 'L' -/
def denJ {α : Type} (D L : DT α) (js : List Nat) (C : Ctx) : Code → (Ex → St → Option α) → St → Option α
  | .skip, Q, S => Q .normal S
  | .label _, Q, S => Q .normal S
  | .region _ ops draw, Q, S => match draw with
    | false => runL C ops ops.toList S (Q .normal)
    | true => runD C ops (masks ops.toList []) ops.toList [] (strips S) (Q .normal)
  | .seq a b, Q, S => denJ D L js C a (seqQ (fun S => clean C (headK b) S (match mem js (joinK b) with
    | true => D b Q
    | false => denJ D L js C b Q)) Q) S
  | .cond c x y, Q, S => match ev S.fr c with
    | .data .bool t => if (t : Bool) = true then denJ D L js C x Q S else denJ D L js C y Q S
    | _ => none
  | .block id c, Q, S => denJ D L js C c (blkQ C id Q) S
  | .loop c, Q, S => clean C (headK c) S (L c Q)
  | .scope c, Q, S => denJ D L js C c Q S
  | .exit id, Q, S => clean C (3 * id + 1) S (Q (.exit id))
  | .ret, Q, S => clean C 2 S (Q .ret)
  | _, _, _ => none

/-- what comes behind the first of two pieces -/
abbrev sq {α : Type} (D L : DT α) (js : List Nat) (C : Ctx) (b : Code) (Q : Ex → St → Option α) : Ex → St → Option α := seqQ (fun S => clean C (headK b) S (match mem js (joinK b) with
  | true => D b Q
  | false => denJ D L js C b Q)) Q

theorem denJ_den {α : Type} (js : List Nat) (C : Ctx) (k : Nat) : ∀ (c : Code) (Q : Ex → St → Option α) (S : St), denJ (den C k) (lp C k) js C c Q S = den C k c Q S
  | .skip, _, _ => rfl
  | .label _, _, _ => rfl
  | .region _ _ _, _, _ => rfl
  | .exit _, _, _ => rfl
  | .ret, _, _ => rfl
  | .loop _, _, _ => rfl
  | .seq a b, Q, S => by
    simp only [denJ, den]
    rw [denJ_den js C k a]
    congr 2
    funext S
    congr 1
    cases mem js (joinK b) with
    | true => rfl
    | false => funext S; exact denJ_den js C k b Q S
  | .cond c x y, Q, S => by
    simp only [denJ, den, denJ_den js C k x, denJ_den js C k y]
    rfl
  | .block id c, Q, S => by simp only [denJ, den, denJ_den js C k c]
  | .scope c, Q, S => by simp only [denJ, den, denJ_den js C k c]
  | .rangeFunc _ _ _ _, _, _ => rfl
  | .goto _, _, _ => rfl
  | .refuse _, _, _ => rfl

/-- rounds enough for every loop -/
def fuel : Nat := 2 ^ 64

theorem iter_succ {α : Type} (F : (St → Option α) → St → Option α) (n : Nat) (S : St) : iter F (n + 1) S = F (iter F n) S := rfl

theorem named_of {P : Program} {f : FuncId} {fn : Func} (h : P.funcs[f]? = some fn) (h1 : (fn.name == "runtime.NumGoroutine") = false) (h2 : fn.body.isNone = false) : Named P f := ⟨fn, h, h1, h2⟩

/-- callees, each with its contract -/
def fnL (l : List (Nat × Fn)) (f : Nat) : Option Fn := look l f

def AllCon (P : Program) : List (Nat × Fn) → Prop
  | [] => True
  | x :: l => Callee P x.1 x.2 ∧ AllCon P l

/-- pointer types -/
def ptrB (P : Program) (l : List (Nat × Nat)) : Bool := l.all fun x => match P.underlying x.1 with
  | some (.pointer e) => Nat.beq e x.2
  | _ => false

theorem ptr_ok {P : Program} {l : List (Nat × Nat)} (h : ptrB P l = true) : ∀ i e, look l i = some e → P.underlying i = some (.pointer e) := by
  intro i e hi
  have := List.all_eq_true.1 h _ (look_mem hi)
  simp only at this
  split at this
  · rename_i e' he; rw [he, Nat.eq_of_beq_eq_true this]
  · cases this

def noSh (_ : Nat) : Option (List V → Heap → Option Sh) := none
def noInv (_ : Nat) (_ : String) : Option Nat := none

theorem ctx_ok {P : Program} {ty : List (Nat × Ty)} {ptr : List (Nat × Nat)} {fns : List (Nat × Fn)} {site : List (Nat × Nat)} {live : List (Nat × List Nat)} {norm : List (Nat × List Norm)} {frz : List Nat} {base lim : Nat}
    (h1 : tableB P ty = true) (hp : ptrB P ptr = true) (h2 : AllCon P fns) : CtxOk P ⟨ty, ptr, fnL fns, noSh, site, noInv, live, norm, frz, base, lim⟩ where
  ty := table_ok h1
  ptr := ptr_ok hp
  sh := fun _ => rfl
  inv := fun _ _ _ h => by cases h
  fn := fun f F h => by
    simp only [fnL] at h
    induction fns with
    | nil => cases h
    | cons x l ih =>
      obtain ⟨i, G⟩ := x
      simp only [look] at h
      split at h
      · rename_i he
        cases h
        rw [Nat.eq_of_beq_eq_true he] at h2
        exact h2.1
      · exact ih h2.2 h

end Go.Bx
