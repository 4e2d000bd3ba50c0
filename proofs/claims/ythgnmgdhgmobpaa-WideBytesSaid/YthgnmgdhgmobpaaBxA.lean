/- A part of a framework that reads Go code as functions of plain data; or a law about such functions. -/
import Derived.Calls
import Derived.LoopN
import Derived.KernelRfl
import Derived.Orders
import Derived.Below
namespace Go.Bx
open Go

/-- Types of plain data; 'opq': one cell of another make (a pointer, a function, ..). -/
inductive Ty where
  | int (k : IntKind) | bool | str | arr (n : Nat) (t : Ty) | sl (t : Ty) | unit | pair (a b : Ty) | opq
  deriving DecidableEq

@[reducible] def Ty.den : Ty → Type
  | .int _ => Int | .bool => Bool | .str => List Int | .arr _ t => List t.den | .sl t => List t.den | .unit => Unit | .pair a b => a.den × b.den | .opq => Unit

def Ty.zero : (t : Ty) → t.den
  | .int _ => (0 : Int) | .bool => false | .str => ([] : List Int) | .arr n t => List.replicate n t.zero | .sl t => ([] : List t.den) | .unit => () | .pair a b => (a.zero, b.zero) | .opq => ()

def Ty.size : Ty → Nat
  | .arr n t => n * t.size | .unit => 0 | .pair a b => a.size + b.size | _ => 1

def Ty.isAgg : Ty → Bool
  | .arr _ _ => true | .unit => true | .pair _ _ => true | _ => false

/-- how many bytes Go takes for it -/
def Ty.align : Ty → Nat
  | .int k => k.bits / 8 | .bool => 1 | .arr _ t => t.align | .unit => 1 | .pair a b => max a.align b.align | _ => 8
def upTo (n a : Nat) : Nat := (n + a - 1) / a * a
mutual
def Ty.bytes : Ty → Nat
  | .int k => k.bits / 8 | .bool => 1 | .str => 16 | .sl _ => 24 | .arr n t => n * t.bytes | .unit => 0 | .pair a b => upTo (b.ends a.bytes) (max a.align b.align) | .opq => 8
def Ty.ends : Ty → Nat → Nat
  | .pair a b, off => b.ends (upTo off a.align + a.bytes) | _, off => off
end

/-- no cell of another make within -/
def Ty.plain : Ty → Bool
  | .arr _ t => t.plain | .sl t => t.plain | .pair a b => a.plain && b.plain | .opq => false | _ => true

/-- can be compared; how deep it is -/
def Ty.cmp : Ty → Bool
  | .arr _ t => t.cmp | .pair a b => a.cmp && b.cmp | .sl _ => false | .opq => false | _ => true
def Ty.dep : Ty → Nat
  | .arr _ t => t.dep + 1 | .pair a b => max (a.dep + 1) b.dep | _ => 1

def castD (a b : Ty) (x : a.den) : Option b.den := if h : a = b then some (h ▸ x) else none

inductive Step where
  | idx (i : Int) | fld (j : Nat)

inductive V where
  | any
  | data (t : Ty) (x : t.den)
  | nilp
  | snil
  | ref (id : Nat) (p : List Step)
  | iref (t : Ty) (x : t.den)
  | tup (l : List V)
  | opt (d : Nat) (want : Bool) (v : V)
  | fn (f : Nat) (cap : List V)
  | full (t : Ty) (l : List t.den)

inductive Blk where
  | var (t : Ty) (c : V)
  | row (t : Ty) (l : List t.den)
  | tok (t : Ty) (n : Nat) (shared : Bool)

structure St where
  fr : List V
  hp : List (Option Blk)

structure Fn where
  ps : Ty
  rs : Ty
  multi : Bool
  run : ps.den → Option rs.den

structure Ctx where
  ty : List (Nat × Ty)
  fn : Nat → Option Fn
  live : List (Nat × List Nat)

def look {β : Type} (l : List (Nat × β)) (i : Nat) : Option β :=
  match l with
  | [] => none
  | (j, b) :: r => if Nat.beq j i = true then some b else look r i

def inR (k : IntKind) (n : Int) : Bool := decide (k.min ≤ n) && decide (n ≤ k.max)

def bytesOf (s : ByteArray) : List Int := s.data.toList.map fun b => (b.toNat : Int)

def ofConst : Value → V
  | .int k n => if inR k n = true then .data (.int k) n else .any
  | .bool b => .data .bool b
  | .pointer none => .nilp
  | .slice none 0 0 => .snil
  | .string s => if Nat.ble s.size maxLen = true then .data .str (bytesOf s) else .any
  | _ => .any

def nth : List V → Nat → V
  | [], _ => .any
  | v :: _, 0 => v
  | _ :: r, n + 1 => nth r n

def nthB : List (Option Blk) → Nat → Option Blk
  | [], _ => none
  | v :: _, 0 => v
  | _ :: r, n + 1 => nthB r n

def ev (fr : List V) : Operand → V
  | .tmp t => nth fr t
  | .const v => ofConst v
  | .func f => .fn f []
  | .global _ => .any

def getP : (t : Ty) → t.den → List Step → V
  | t, x, [] => .data t x
  | .arr _ t, l, .idx i :: p => getP t (l.getD i.toNat t.zero) p
  | .pair a _, x, .fld 0 :: p => getP a x.1 p
  | .pair _ b, x, .fld (j + 1) :: p => getP b x.2 (.fld j :: p)
  | _, _, _ :: _ => .any

def updP : (t : Ty) → t.den → List Step → (t' : Ty) → t'.den → Option t.den
  | t, _, [], t', y => castD t' t y
  | .arr _ t, l, .idx i :: p, t', y => (updP t (l.getD i.toNat t.zero) p t' y).map (l.set i.toNat)
  | .pair a _, x, .fld 0 :: p, t', y => (updP a x.1 p t' y).map fun z => (z, x.2)
  | .pair _ b, x, .fld (j + 1) :: p, t', y => (updP b x.2 (.fld j :: p) t' y).map fun z => (x.1, z)
  | _, _, _ :: _, _, _ => none

def offT : (t : Ty) → List Step → Option (Nat × Ty)
  | t, [] => some (0, t)
  | .arr n t, .idx i :: p => if 0 ≤ i ∧ i < (n : Int) then match offT t p with
    | some (o, u) => some (i.toNat * t.size + o, u)
    | none => none
    else none
  | .pair a _, .fld 0 :: p => offT a p
  | .pair a b, .fld (j + 1) :: p => match offT b (.fld j :: p) with
    | some (o, u) => some (a.size + o, u)
    | none => none
  | _, _ :: _ => none

def proj : (t : Ty) → t.den → Nat → V
  | .pair a _, x, 0 => .data a x.1
  | .pair _ b, x, j + 1 => proj b x.2 j
  | _, _, _ => .any

def subT : Ty → List Step → Option Ty
  | t, [] => some t
  | .arr _ t, .idx _ :: p => subT t p
  | .pair a _, .fld 0 :: p => subT a p
  | .pair _ b, .fld (j + 1) :: p => subT b (.fld j :: p)
  | _, _ :: _ => none

structure Gd where
  d : Nat
  want : Bool
  b : Bool

def sane : V → V
  | .opt _ _ _ => .any
  | v => v

/-- a nil that is to be a slice -/
def saneT (C : Ctx) (ty : Nat) : V → V
  | .snil => match look C.ty ty with
    | some (.sl t) => .full t []
    | _ => .snil
  | v => sane v

/-- as data: a slice without room is a slice -/
def dd : V → V
  | .full t l => .data (.sl t) l
  | v => v

def un (g : Option Gd) : V → V
  | .opt d w v => match g with
    | some g => if Nat.beq g.d d && (g.want == w) then sane v else .any
    | none => .any
  | v => v

def chk {α : Type} (g : Option Gd) (c : Prop) (i : Decidable c) (K : Option α) : Option α :=
  match g with
  | none => match i with
    | .isTrue _ => K
    | .isFalse _ => none
  | some g => match decide c || !g.b with
    | true => K
    | false => none

def tag (g : Option Gd) (v : V) : V := match g with
  | none => v
  | some g => .opt g.d g.want v

def band (k : IntKind) (x y : Int) : Int := k.wrap (((BitVec.ofInt k.bits x &&& BitVec.ofInt k.bits y).toNat : Nat) : Int)
def bor (k : IntKind) (x y : Int) : Int := k.wrap (((BitVec.ofInt k.bits x ||| BitVec.ofInt k.bits y).toNat : Nat) : Int)
def bxor (k : IntKind) (x y : Int) : Int := k.wrap (((BitVec.ofInt k.bits x ^^^ BitVec.ofInt k.bits y).toNat : Nat) : Int)
def bandNot (k : IntKind) (x y : Int) : Int := k.wrap (((BitVec.ofInt k.bits x &&& ~~~ BitVec.ofInt k.bits y).toNat : Nat) : Int)
def shlI (k : IntKind) (x y : Int) : Int := k.wrap (x * 2 ^ (min y.toNat k.bits))
def shrI (k : IntKind) (x y : Int) : Int := x.fdiv (2 ^ (min y.toNat k.bits))

def beqL {α : Type} (f : α → α → Bool) : List α → List α → Bool
  | [], [] => true
  | a :: r, b :: s => f a b && beqL f r s
  | _, _ => false

def beqD : (t : Ty) → t.den → t.den → Bool
  | .int _, x, y => (x : Int) == (y : Int)
  | .bool, x, y => (x : Bool) == (y : Bool)
  | .str, x, y => (x : List Int) == (y : List Int)
  | .arr _ t, x, y => beqL (beqD t) x y
  | .unit, _, _ => true
  | .pair a b, x, y => beqD a x.1 y.1 && beqD b x.2 y.2
  | _, _, _ => false

/-- what an operation that leaves memory alone comes to -/
inductive Res where
  | val (c : Prop) (i : Decidable c) (v : V)
  | call (F : Fn) (a : F.ps.den)
  | new (v : V)

def okR (v : V) : Option Res := some (.val True instDecidableTrue v)
def ifR (c : Prop) [i : Decidable c] (v : V) : Option Res := some (.val c i v)

/-- byte strings in their order -/
def ltB : List Int → List Int → Bool
  | _, [] => false
  | [], _ :: _ => true
  | a :: x, b :: y => decide (a < b) || (a == b && ltB x y)

def strBin (op : BinOp) (x y : List Int) : Option Res :=
  match op with
  | .add => ifR (Nat.ble (x.length + y.length) 9223372036854775807 = true) (.data .str (x ++ y))
  | .eql => okR (.data .bool (beqD .str x y))
  | .neq => okR (.data .bool (!beqD .str x y))
  | .lss => okR (.data .bool (ltB x y))
  | .leq => okR (.data .bool (ltB x y || beqD .str x y))
  | .gtr => okR (.data .bool (!(ltB x y || beqD .str x y)))
  | .geq => okR (.data .bool (!ltB x y))
  | _ => none

def intBin (op : BinOp) (k : IntKind) (x y : Int) : Option Res :=
  match op with
  | .add => okR (.data (.int k) (k.wrap (x + y)))
  | .sub => okR (.data (.int k) (k.wrap (x - y)))
  | .mul => okR (.data (.int k) (k.wrap (x * y)))
  | .quo => ifR (y ≠ 0) (.data (.int k) (k.wrap (x.tdiv y)))
  | .rem => ifR (y ≠ 0) (.data (.int k) (x.tmod y))
  | .and => okR (.data (.int k) (band k x y))
  | .or => okR (.data (.int k) (bor k x y))
  | .xor => okR (.data (.int k) (bxor k x y))
  | .andNot => okR (.data (.int k) (bandNot k x y))
  | .eql => okR (.data .bool (x == y))
  | .neq => okR (.data .bool (x != y))
  | .lss => okR (.data .bool (decide (x < y)))
  | .leq => okR (.data .bool (decide (x ≤ y)))
  | .gtr => okR (.data .bool (decide (x > y)))
  | .geq => okR (.data .bool (decide (x ≥ y)))
  | _ => none

def binV (C : Ctx) (op : BinOp) (xt : Nat) (x y : V) : Option Res :=
  match x, y with
  | .data (.int k) a, .data (.int k') b =>
    match op with
    | .shl => ifR (0 ≤ (b : Int)) (.data (.int k) (shlI k a b))
    | .shr => ifR (0 ≤ (b : Int)) (.data (.int k) (shrI k a b))
    | op => if k = k' then intBin op k a b else none
  | .data .str a, .data .str b => strBin op a b
  | .data t a, .data t' b =>
    match castD t' t b with
    | none => none
    | some b => if look C.ty xt = some t ∧ t.cmp = true ∧ Nat.ble t.dep 10000 = true then match op with
      | .eql => okR (.data .bool (beqD t a b))
      | .neq => okR (.data .bool (!beqD t a b))
      | _ => none
      else none
  | _, _ => none

def getArgs : (t : Ty) → List V → Option t.den
  | .unit, [] => some ()
  | .pair a b, .data t x :: r => match castD t a x with
    | none => none
    | some x => match getArgs b r with
      | none => none
      | some y => some (x, y)
  | _, _ => none

def spread : (t : Ty) → t.den → List V
  | .pair a b, x => .data a x.1 :: spread b x.2
  | _, _ => []

def Fn.out (F : Fn) (r : F.rs.den) : V := match F.multi with
  | false => .data F.rs r
  | true => .tup (spread F.rs r)

def unV (op : UnOp) (x : V) : Option Res :=
  match op, x with
  | .not, .data .bool b => okR (.data .bool (!b))
  | .neg, .data (.int k) n => okR (.data (.int k) (k.wrap (0 - (n : Int))))
  | .xor, .data (.int k) n => okR (.data (.int k) (bxor k (if k.signed then -1 else k.max) n))
  | _, _ => none

def stepOf : Ty → Nat → Step
  | .arr _ _, i => .idx i
  | _, i => .fld i

/-- a struct or an array out of its parts -/
def buildV (e : Operand → V) (τ : Ty) : List (Nat × Operand) → τ.den → Option τ.den
  | [], c => some c
  | (i, x) :: r, c => match offT τ [stepOf τ i], e x with
    | some _, .data σ y => match updP τ c [stepOf τ i] σ y with
      | some c' => buildV e τ r c'
      | none => none
    | some (_, .sl t), .snil => match updP τ c [stepOf τ i] (.sl t) ([] : List t.den) with
      | some c' => buildV e τ r c'
      | none => none
    | _, _ => none

/-- the operations that change no block -/
def valR (C : Ctx) (g : Option Gd) (fr : List V) (hp : List (Option Blk)) (op : Op) : Option Res :=
  let e := fun x => dd (un g (ev fr x))
  match op with
  | .move x | .assign x => okR (un g (ev fr x))
  | .pick c a b =>
    match c, e c with
    | .tmp d, .data .bool t =>
      let arm := fun (w : Bool) (x : Operand) => match ev fr x with
        | .opt d' w' (.data .bool y) => if Nat.beq d' d && (w == w') then some y else none
        | .data .bool y => some y
        | _ => none
      match arm true a, arm false b with
      | some y, some z => okR (.data .bool (cond t y z))
      | _, _ => none
    | _, _ => none
  | .load t x =>
    match look C.ty t with
    | none => none
    | some τ => match e x with
      | .ref id p => match nthB hp id with
        | some (.var _ (.data σ y)) => match getP σ y p with
          | .data σ' z => if σ' = τ then okR (.data σ' z) else none
          | _ => none
        | _ => none
      | .iref σ y => if σ = τ then okR (.data σ y) else none
      | _ => none
  | .indexAddr t x i =>
    match look C.ty t, e x, e i with
    | some (.arr len τ), .ref id p, .data (.int _) n => match nthB hp id with
      | some (.var σ _) => if subT σ p = some (.arr len τ) then ifR (0 ≤ (n : Int) ∧ (n : Int) < (len : Int)) (.ref id (p ++ [.idx n])) else none
      | _ => none
    | some (.sl τ), .data (.sl τ') l, .data (.int _) n => if τ = τ' then ifR (0 ≤ (n : Int) ∧ (n : Int) < (l.length : Int)) (.iref τ' (l.getD (n : Int).toNat τ'.zero)) else none
    | some (.arr len' τ), .iref (.arr len τ') l, .data (.int _) n => if τ = τ' ∧ len = len' then ifR (0 ≤ (n : Int) ∧ (n : Int) < (len : Int)) (.iref τ' (l.getD (n : Int).toNat τ'.zero)) else none
    | _, _, _ => none
  | .fieldAddr t x j =>
    match look C.ty t, e x with
    | some τ, .ref id p => match nthB hp id with
      | some (.var σ _) => if subT σ p = some τ ∧ (subT τ [.fld j]).isSome = true then okR (.ref id (p ++ [.fld j])) else none
      | _ => none
    | some τ', .iref τ y => if τ = τ' then match proj τ y j with
      | .data τ' z => okR (.iref τ' z)
      | _ => none
      else none
    | _, _ => none
  | .binOp op xt x y _ => binV C op xt (e x) (e y)
  | .unOp op _ x => unV op (e x)
  | .convert s d x => match look C.ty s, look C.ty d, e x with
    | some (.int _), some (.int k), .data (.int _) n => okR (.data (.int k) (k.wrap n))
    | some (.sl (.int .u8)), some .str, .data (.sl (.int .u8)) l => okR (.data .str l)
    | some .str, some .str, .data .str l => okR (.data .str l)
    | _, _, _ => none
  | .index t x i => match look C.ty t, e x, e i with
    | some (.arr len τ), .data (.arr len' τ') l, .data (.int _) n => if τ = τ' ∧ len = len' then ifR (0 ≤ (n : Int) ∧ (n : Int) < (len : Int)) (.data τ' (l.getD (n : Int).toNat τ'.zero)) else none
    | some .str, .data .str l, .data (.int _) n => ifR (0 ≤ (n : Int) ∧ (n : Int) < ((l : List Int).length : Int)) (.data (.int .u8) ((l : List Int).getD (n : Int).toNat 0))
    | _, _, _ => none
  | .field t x j => match look C.ty t, e x with
    | some τ', .data τ y => if τ = τ' then match proj τ y j with
      | .data σ z => okR (.data σ z)
      | _ => none
      else none
    | _, _ => none
  | .build t parts => match look C.ty t with
    | some τ => if τ.isAgg && τ.plain then match buildV e τ parts.toList τ.zero with
      | some y => okR (.data τ y)
      | none => none
      else none
    | none => none
  | .buildSlice t n parts => match look C.ty t with
    | some (.sl τ) => if τ.plain && Nat.ble (n * τ.size) 16777216 && Nat.ble n 16777216 then match buildV e (.arr n τ) parts.toList (Ty.arr n τ).zero with
      | some y => some (.new (.full τ y))
      | none => none
      else none
    | _ => none
  | .extract x i => match e x with
    | .tup l => if Nat.blt i l.length = true then okR (sane (nth l i)) else none
    | _ => none
  | .call c => match c.callee with
    | .value f => match e f with
      | .fn f [] => match C.fn f with
        | some F => match getArgs F.ps (c.args.toList.map e) with
          | some a => some (.call F a)
          | none => none
        | none => none
      | _ => none
    | .builtin .len => match c.args.toList.map e, c.argTypes.toList with
      | [.data (.sl τ) l], [t] => if look C.ty t = some (.sl τ) then okR (.data (.int .i64) (l.length : Int)) else none
      | [.data .str l], [t] => if look C.ty t = some .str then okR (.data (.int .i64) ((l : List Int).length : Int)) else none
      | _, _ => none
    | .builtin .max => match c.args.toList.map e with
      | [.data (.int k) x, .data (.int k') y] => if k = k' then okR (.data (.int k) (if (y : Int) > (x : Int) then (y : Int) else (x : Int))) else none
      | _ => none
    | .builtin .min => match c.args.toList.map e with
      | [.data (.int k) x, .data (.int k') y] => if k = k' then okR (.data (.int k) (if (y : Int) < (x : Int) then (y : Int) else (x : Int))) else none
      | _ => none
    | _ => none
  | _ => none

def untagD (d : Nat) : V → V
  | .opt d' w v => if Nat.beq d' d then .any else .opt d' w v
  | v => v

def setF (fr : List V) (d : Option Nat) (v : V) : List V := match d with
  | none => fr
  | some d => (fr.map (untagD d)).set d v

def setB (hp : List (Option Blk)) (d : Nat) (c : Blk) : List (Option Blk) := hp.set d (some c)

/-- block id is not in use -/
def free (hp : List (Option Blk)) (id : Nat) : Bool :=
  match nthB hp id with
  | some _ => false
  | none => decide (id < hp.length)

/-- the operations that make or change a block: the slot's value, the block, what lies in it then -/
def effA (C : Ctx) (fr : List V) (hp : List (Option Blk)) (dst : Option Nat) (op : Op) : Option (V × Nat × Blk) :=
  let e := fun x => dd (un none (ev fr x))
  match op with
  | .alloc t =>
    match look C.ty t, dst with
    | some τ, some d => if free hp d && τ.plain then some (.ref d [], d, .var τ (.data τ τ.zero)) else none
    | _, _ => none
  | .box t x =>
    match look C.ty t, dst, e x with
    | some τ, some d, .data τ' y => if free hp d && decide (τ' = τ) then some (.ref d [], d, .var τ' (.data τ' y)) else none
    | _, _, _ => none
  | .store t x y =>
    match e x, e y with
    | .ref id p, .data τ z => match nthB hp id with
      | some (.var σ' (.data σ c)) => match updP σ c p τ z with
        | some c' => if look C.ty t = some τ then some (.any, id, .var σ' (.data σ c')) else none
        | none => none
      | _ => none
    | _, _ => none
  | _ => none

def effR (C : Ctx) (S : St) (dst : Option Nat) (op : Op) : Option St :=
  match effA C S.fr S.hp dst op with
  | some (v, id, b) => some ⟨setF S.fr dst v, setB S.hp id b⟩
  | none => none

def runF (g : Option Gd) (F : Fn) (a : F.ps.den) : Option F.rs.den := match g with
  | none => F.run a
  | some g => if g.b then F.run a else some F.rs.zero

def T {α : Type} (C : Ctx) (g : Option Gd) (o : Oper) (S : St) (K : St → Option α) : Option α :=
  match valR C g S.fr S.hp o.op with
  | some (.val c i v) => chk g c i (K ⟨setF S.fr o.dst (tag g (saneT C o.type v)), S.hp⟩)
  | some (.call F a) => (runF g F a).bind fun r => K ⟨setF S.fr o.dst (tag g (F.out r)), S.hp⟩
  | some (.new v) => K ⟨setF S.fr o.dst (tag g (saneT C o.type v)), S.hp⟩
  | none => match g with
    | some _ => none
    | none => match effR C S o.dst o.op with
      | some S' => K S'
      | none => none

def guardOf (ops : Array Oper) (fr : List V) (o : Oper) : Option (Option Gd) :=
  match o.guard with
  | none => some none
  | some (j, w) => match (ops[j]?).bind (·.dst) with
    | none => none
    | some d => if o.dst = some d then none else match nth fr d with
      | .data .bool b => some (some ⟨d, w, (b == w)⟩)
      | .opt _ _ (.data .bool b) => some (some ⟨d, w, (b == w)⟩)
      | _ => none

def runL {α : Type} (C : Ctx) (ops : Array Oper) : List Oper → St → (St → Option α) → Option α
  | [], S, K => K S
  | o :: r, S, K =>
    match guardOf ops S.fr o with
    | none => none
    | some g => T C g o S (fun S' => runL C ops r S' K)

inductive Ex where
  | normal | exit (id : Nat) | ret

def keepF (l : List Nat) : Nat → List V → List V
  | _, [] => []
  | i, v :: r => (if l.any (Nat.beq i) then dd v else .any) :: keepF l (i + 1) r

mutual
/-- a block is named within -/
def V.has (id : Nat) : V → Bool
  | .ref i _ => Nat.beq id i
  | .opt _ _ v => v.has id
  | .tup l => V.hasL id l
  | .fn _ l => V.hasL id l
  | _ => false
def V.hasL (id : Nat) : List V → Bool
  | [] => false
  | v :: l => v.has id || V.hasL id l
end

/-- blocks that nothing names are let go -/
def dropB (fr : List V) : Nat → List (Option Blk) → List (Option Blk)
  | _, [] => []
  | i, b :: r => (match b with
    | none => none
    | some c => if V.hasL i fr then some c else none) :: dropB fr (i + 1) r

/-- what is dead at a place is let go; 'live': by 3 * region, 3 * block + 1, 2 where the function returns -/
def clean (C : Ctx) (key : Nat) (S : St) : St := match look C.live key with
  | none => S
  | some l => ⟨keepF l 0 S.fr, dropB (keepF l 0 S.fr) 0 S.hp⟩

/-- the key of the first region -/
def headK : Code → Nat
  | .region id _ _ => 3 * id
  | .seq a _ => headK a
  | .block _ c => headK c
  | .loop c => headK c
  | _ => 5

def iter {α : Type} (F : (St → Option α) → St → Option α) : Nat → St → Option α
  | 0, _ => none
  | k + 1, S => F (iter F k) S

def seqQ {α : Type} (n : St → Option α) (Q : Ex → St → Option α) : Ex → St → Option α
  | .normal, S => n S
  | e, S => Q e S
def blkQ {α : Type} (C : Ctx) (id : Nat) (Q : Ex → St → Option α) : Ex → St → Option α
  | .exit i, S => if Nat.beq i id = true then Q .normal S else Q (.exit i) S
  | .normal, S => Q .normal (clean C (3 * id + 1) S)
  | e, S => Q e S

def strip : V → V
  | .opt _ _ _ => .any
  | v => v

/-- where the order is open, nothing hangs on what stood ahead -/
def strips (draw : Bool) (S : St) : St := match draw with
  | true => ⟨S.fr.map strip, S.hp⟩
  | false => S

def den {α : Type} (C : Ctx) (k : Nat) : Code → (Ex → St → Option α) → St → Option α
  | .skip, Q, S => Q .normal S
  | .label _, Q, S => Q .normal S
  | .region _ ops draw, Q, S => runL C ops ops.toList (strips draw S) (Q .normal)
  | .seq a b, Q, S => den C k a (seqQ (fun S => den C k b Q (clean C (headK b) S)) Q) S
  | .cond c x y, Q, S => match ev S.fr c with
    | .data .bool t => if (t : Bool) = true then den C k x Q S else den C k y Q S
    | _ => none
  | .block id c, Q, S => den C k c (blkQ C id Q) S
  | .loop c, Q, S => iter (fun next => den C k c (seqQ (fun S => next (clean C (headK c) S)) Q)) k (clean C (headK c) S)
  | .exit id, Q, S => Q (.exit id) (clean C (3 * id + 1) S)
  | .ret, Q, S => Q .ret (clean C 2 S)
  | _, _, _ => none

/-- what a function hands back -/
def resV (C : Ctx) (S : St) : ResultVar → Option V
  | .tmp t => some (sane (nth S.fr t))
  | .cell a t => match look C.ty t, nth S.fr a with
    | some τ, .ref id [] => match nthB S.hp id with
      | some (.var σ (.data σ' c)) => if σ = τ then some (.data σ' c) else none
      | _ => none
    | _, _ => none

def resL (C : Ctx) (S : St) : List ResultVar → Option (List V)
  | [] => some []
  | r :: l => match resV C S r, resL C S l with
    | some v, some vs => some (v :: vs)
    | _, _ => none

/-- the end of a function: its results as data -/
def fin (C : Ctx) (rv : List ResultVar) (t : Ty) (multi : Bool) : Ex → St → Option t.den
  | .exit _, _ => none
  | _, S => match multi, resL C S rv with
    | false, some [.data t' x] => castD t' t x
    | true, some l => if Nat.beq l.length 1 = true then none else getArgs t l
    | _, _ => none

/-- a function's first state -/
def start (F : Fn) (n : Nat) (x : F.ps.den) : St :=
  ⟨spread F.ps x ++ List.replicate (n - (spread F.ps x).length) .any, List.replicate n none⟩

end Go.Bx
