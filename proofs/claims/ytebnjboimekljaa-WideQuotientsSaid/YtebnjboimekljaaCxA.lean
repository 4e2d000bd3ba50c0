/- A part of a framework that reads Go code as functions of plain data; or a law about such functions. -/
import Derived.Calls
import Derived.LoopN
import Derived.KernelRfl
import Derived.Orders
import Derived.Below
namespace Go.Bx
set_option linter.unusedVariables false
set_option linter.unusedSimpArgs false
open Go

/-- Types of plain data; 'opq': one cell of another make (a pointer, a function, ..). -/
inductive Ty where
  | int (k : IntKind) | bool | str | arr (n : Nat) (t : Ty) | sl (t : Ty) | unit | pair (a b : Ty) | opq
  deriving DecidableEq

@[reducible] def Ty.den : Ty → Type
  | .int _ => Int | .bool => Bool | .str => List Int | .arr _ t => List t.den | .sl t => List t.den | .unit => Unit | .pair a b => a.den × b.den | .opq => Unit

def Ty.zero : (t : Ty) → t.den
  | .int _ => (0 : Int) | .bool => false | .str => ([] : List Int) | .arr n t => List.replicate n t.zero | .sl t => ([] : List t.den) | .unit => () | .pair a b => (a.zero, b.zero) | .opq => ()

def Ty.size : Ty → Nat
  | .arr n t => n * t.size | .unit => 0 | .pair a b => a.size + b.size | _ => 1

def Ty.isAgg : Ty → Bool
  | .arr _ _ => true | .unit => true | .pair _ _ => true | _ => false

/-- how many bytes Go takes for it -/
def Ty.align : Ty → Nat
  | .int k => k.bits / 8 | .bool => 1 | .arr _ t => t.align | .unit => 1 | .pair a b => max a.align b.align | _ => 8
def upTo (n a : Nat) : Nat := (n + a - 1) / a * a
mutual
def Ty.bytes : Ty → Nat
  | .int k => k.bits / 8 | .bool => 1 | .str => 16 | .sl _ => 24 | .arr n t => n * t.bytes | .unit => 0 | .pair a b => upTo (b.ends a.bytes) (max a.align b.align) | .opq => 8
def Ty.ends : Ty → Nat → Nat
  | .pair a b, off => b.ends (upTo off a.align + a.bytes) | _, off => off
end

/-- no cell of another make within -/
def Ty.plain : Ty → Bool
  | .arr _ t => t.plain | .sl t => t.plain | .pair a b => a.plain && b.plain | .opq => false | _ => true

/-- no cell that leads elsewhere -/
def Ty.scalar : Ty → Bool
  | .arr _ t => t.scalar | .pair a b => a.scalar && b.scalar | .sl _ => false | .opq => false | _ => true

/-- can be compared; how deep it is -/
def Ty.cmp : Ty → Bool
  | .arr _ t => t.cmp | .pair a b => a.cmp && b.cmp | .sl _ => false | .opq => false | _ => true
def Ty.dep : Ty → Nat
  | .arr _ t => t.dep + 1 | .pair a b => max (a.dep + 1) b.dep | _ => 1

def castD (a b : Ty) (x : a.den) : Option b.den := if h : a = b then some (h ▸ x) else none

inductive Step where
  | idx (i : Int) | fld (j : Nat)

inductive V where
  | any
  | data (t : Ty) (x : t.den)
  | nilp
  | snil
  | ref (id ver : Nat) (p : List Step)
  | iref (t : Ty) (x : t.den)
  | tup (l : List V)
  | opt (d : Nat) (want : Bool) (v : V)
  | fn (f : Nat) (fst cap : List V)
  | full (t : Ty) (l : List t.den)
  | app (id ver : Nat)
  | view (id : Nat) (p : List Step) (t : Ty) (n : Nat) (lo hi : Int)
  | agg (t : Ty) (l : List V)
  | ifc (ty : Nat) (v : V)
  | map (id : Nat)

inductive Blk where
  | cell (t : Ty) (v : V) (frz : Bool)
  | buf (t : Ty) (l : List t.den) (ver : Nat) (frz : Bool)
  | map (k v : Ty) (l : List (k.den × v.den))

abbrev Heap := List (Nat × Blk)

structure St where
  fr : List V
  hp : Heap

structure Fn where
  ps : Ty
  rs : Ty
  multi : Bool
  run : ps.den → Option rs.den

/-- what a callee comes to that changes blocks: if 'o' answers y, the value and the blocks are 'f y' -/
structure Sh where
  Y : Type
  o : Option Y
  f : Y → V × Heap

/-- how a place is put right where ways meet: a slice without room or a growing one becomes data; a slice without room becomes a growing one -/
inductive Norm where
  | dat (slot : Bool) (at_ : Nat) (p : List Nat)
  | melt (slot : Bool) (at_ : Nat) (p : List Nat) (id : Nat) (z : Bool)

structure Ctx where
  ty : List (Nat × Ty)
  ptr : List (Nat × Nat)
  fn : Nat → Option Fn
  sh : Nat → Option (List V → Heap → Option Sh)
  site : List (Nat × Nat)
  inv : Nat → String → Option Nat
  live : List (Nat × List Nat)
  norm : List (Nat × List Norm)
  frz : List Nat
  base : Nat
  lim : Nat

def look {β : Type} (l : List (Nat × β)) (i : Nat) : Option β :=
  match l with
  | [] => none
  | (j, b) :: r => if Nat.beq j i = true then some b else look r i

def inR (k : IntKind) (n : Int) : Bool := decide (k.min ≤ n) && decide (n ≤ k.max)

def bytesOf (s : ByteArray) : List Int := s.data.toList.map fun b => (b.toNat : Int)

def ofConst : Value → V
  | .int k n => if inR k n = true then .data (.int k) n else .any
  | .bool b => .data .bool b
  | .pointer none => .nilp
  | .slice none 0 0 => .snil
  | .string s => if Nat.ble s.size maxLen = true then .data .str (bytesOf s) else .any
  | _ => .any

def nth : List V → Nat → V
  | [], _ => .any
  | v :: _, 0 => v
  | _ :: r, n + 1 => nth r n

def nthB (hp : Heap) (i : Nat) : Option Blk := look hp i

def ev (fr : List V) : Operand → V
  | .tmp t => nth fr t
  | .const v => ofConst v
  | .func f => .fn f [] []
  | .global _ => .any

def getP : (t : Ty) → t.den → List Step → V
  | t, x, [] => .data t x
  | .arr _ t, l, .idx i :: p => getP t (l.getD i.toNat t.zero) p
  | .pair a _, x, .fld 0 :: p => getP a x.1 p
  | .pair _ b, x, .fld (j + 1) :: p => getP b x.2 (.fld j :: p)
  | _, _, _ :: _ => .any

def updP : (t : Ty) → t.den → List Step → (t' : Ty) → t'.den → Option t.den
  | t, _, [], t', y => castD t' t y
  | .arr _ t, l, .idx i :: p, t', y => (updP t (l.getD i.toNat t.zero) p t' y).map (l.set i.toNat)
  | .pair a _, x, .fld 0 :: p, t', y => (updP a x.1 p t' y).map fun z => (z, x.2)
  | .pair _ b, x, .fld (j + 1) :: p, t', y => (updP b x.2 (.fld j :: p) t' y).map fun z => (x.1, z)
  | _, _, _ :: _, _, _ => none

def offT : (t : Ty) → List Step → Option (Nat × Ty)
  | t, [] => some (0, t)
  | .arr n t, .idx i :: p => if 0 ≤ i ∧ i < (n : Int) then match offT t p with
    | some (o, u) => some (i.toNat * t.size + o, u)
    | none => none
    else none
  | .pair a _, .fld 0 :: p => offT a p
  | .pair a b, .fld (j + 1) :: p => match offT b (.fld j :: p) with
    | some (o, u) => some (a.size + o, u)
    | none => none
  | _, _ :: _ => none

def proj : (t : Ty) → t.den → Nat → V
  | .pair a _, x, 0 => .data a x.1
  | .pair _ b, x, j + 1 => proj b x.2 j
  | _, _, _ => .any

def subT : Ty → List Step → Option Ty
  | t, [] => some t
  | .arr _ t, .idx _ :: p => subT t p
  | .pair a _, .fld 0 :: p => subT a p
  | .pair _ b, .fld (j + 1) :: p => subT b (.fld j :: p)
  | _, _ :: _ => none

/-- the first part of a type, and the rest -/
def uncons : Ty → Option (Ty × Ty)
  | .pair a b => some (a, b)
  | .arr (n + 1) t => some (t, .arr n t)
  | _ => none

def spread : (t : Ty) → t.den → List V
  | .pair a b, x => .data a x.1 :: spread b x.2
  | _, _ => []

def getArgs : (t : Ty) → List V → Option t.den
  | .unit, [] => some ()
  | .pair a b, .data t x :: r => match castD t a x with
    | none => none
    | some x => match getArgs b r with
      | none => none
      | some y => some (x, y)
  | _, _ => none

/-- a struct of parts: data where all parts are data -/
def mkAgg (t : Ty) (l : List V) : V := match getArgs t l with
  | some x => .data t x
  | none => .agg t l

/-- a struct to its end -/
def Ty.chain : Ty → Bool
  | .unit => true
  | .pair _ b => b.chain
  | _ => false

/-- all structs within to their end -/
def Ty.chained : Ty → Bool
  | .pair a b => a.chained && b.chained && b.chain
  | .arr _ t => t.chained
  | _ => true

/-- a part of a value -/
def getV : V → List Step → V
  | v, [] => v
  | .data t x, s :: p => getP t x (s :: p)
  | .agg _ l, .fld j :: p => getV (nth l j) p
  | .agg _ l, .idx i :: p => getV (nth l i.toNat) p
  | _, _ :: _ => .any

def V.isData : V → Bool
  | .data _ _ => true
  | _ => false

/-- a value with another part -/
def setV : V → List Step → V → Option V
  | _, [], y => some y
  | .agg t l, .fld j :: p, y => if Nat.blt j l.length = true then match setV (nth l j) p y with
    | some z => some (mkAgg t (l.set j z))
    | none => none
    else none
  | .agg t l, .idx i :: p, y => if Nat.blt i.toNat l.length = true then match setV (nth l i.toNat) p y with
    | some z => some (.agg t (l.set i.toNat z))
    | none => none
    else none
  | .data t x, s :: p, .data t' y => match updP t x (s :: p) t' y with
    | some z => some (.data t z)
    | none => none
  | .data t x, .fld j :: p, y => if (t.chain && Nat.blt j (spread t x).length) = true then match setD (nth (spread t x) j) p y with
    | some z => some (mkAgg t ((spread t x).set j z))
    | none => none
    else none
  | _, _ :: _, _ => none
where
  /-- within data, for what is none -/
  setD : V → List Step → V → Option V
    | _, [], y => some y
    | .data t x, .fld j :: p, y => if (t.chain && Nat.blt j (spread t x).length) = true then match setD (nth (spread t x) j) p y with
      | some z => some (mkAgg t ((spread t x).set j z))
      | none => none
      else none
    | _, _ :: _, _ => none

structure Gd where
  d : Nat
  want : Bool
  b : Bool
  sure : Bool

def sane : V → V
  | .opt _ _ _ => .any
  | v => v

/-- a nil that is to be a slice -/
def saneT (C : Ctx) (ty : Nat) : V → V
  | .snil => match look C.ty ty with
    | some (.sl t) => .full t []
    | _ => .snil
  | v => sane v

def un (g : Option Gd) : V → V
  | .opt d w v => match g with
    | some g => if Nat.beq g.d d && (g.want == w) then sane v else .any
    | none => .any
  | v => v

def chk {α : Type} (g : Option Gd) (c : Prop) (i : Decidable c) (K : Option α) : Option α :=
  match g with
  | none => match i with
    | .isTrue _ => K
    | .isFalse _ => none
  | some g => match decide c || !g.b with
    | true => K
    | false => none

def tag (g : Option Gd) (v : V) : V := match g with
  | none => v
  | some g => .opt g.d g.want v

def cutL {α : Type} (l : List α) (lo hi : Int) : List α := (l.drop lo.toNat).take (hi.toNat - lo.toNat)

mutual
/-- what reads as data now -/
def rd (hp : Heap) : V → V
  | .full t l => .data (.sl t) l
  | .app id ver => match nthB hp id with
    | some (.buf t l ver' _) => if Nat.beq ver ver' = true then .data (.sl t) l else .any
    | _ => .any
  | .view id p t n lo hi => match nthB hp id with
    | some (.cell _ c _) => match getV c p with
      | .data (.arr n' t') l => if n' = n ∧ t' = t then .data (.sl t') (cutL l lo hi) else .any
      | _ => .any
    | _ => .any
  | .agg t l => mkAgg t (rdL hp l)
  | v => v
def rdL (hp : Heap) : List V → List V
  | [] => []
  | v :: l => rd hp v :: rdL hp l
end

mutual
/-- names of blocks changed; what has none is let go -/
def ren (ρ : Nat → Nat → Option (Nat × Nat)) : V → V
  | .app id ver => match ρ id ver with
    | some (j, u) => .app j u
    | none => .any
  | .ref id ver p => match ρ id ver with
    | some (j, u) => .ref j u p
    | none => .any
  | .view id p t n lo hi => match ρ id 0 with
    | some (j, _) => .view j p t n lo hi
    | none => .any
  | .map id => match ρ id 0 with
    | some (j, _) => .map j
    | none => .any
  | .tup l => .tup (renL ρ l)
  | .opt d w v => .opt d w (ren ρ v)
  | .fn f a b => .fn f (renL ρ a) (renL ρ b)
  | .agg t l => .agg t (renL ρ l)
  | .ifc t v => .ifc t (ren ρ v)
  | v => v
def renL (ρ : Nat → Nat → Option (Nat × Nat)) : List V → List V
  | [] => []
  | v :: l => ren ρ v :: renL ρ l
end

def renB (ρ : Nat → Nat → Option (Nat × Nat)) : Blk → Blk
  | .cell t v z => .cell t (ren ρ v) z
  | b => b

def setB : Heap → Nat → Blk → Heap
  | [], d, c => [(d, c)]
  | (i, b) :: r, d, c => if Nat.beq d i = true then (d, c) :: r else if Nat.blt d i = true then (d, c) :: (i, b) :: r else (i, b) :: setB r d c

def delB : Heap → Nat → Heap
  | [], _ => []
  | (i, b) :: r, d => if Nat.beq d i = true then delB r d else (i, b) :: delB r d

def mem (l : List Nat) (i : Nat) : Bool := l.any (Nat.beq i)

def renH (ρ : Nat → Nat → Option (Nat × Nat)) (hp : Heap) : Heap := hp.map fun x => (x.1, renB ρ x.2)

def frzB : Blk → Blk
  | .cell t v _ => .cell t v true
  | .buf t l ver _ => .buf t l ver true
  | b => b

mutual
/-- what is read here stays as it is from now on -/
def frz (hp : Heap) : V → Heap
  | .app id _ => match nthB hp id with
    | some b => setB hp id (frzB b)
    | none => hp
  | .view id _ _ _ _ _ => match nthB hp id with
    | some b => setB hp id (frzB b)
    | none => hp
  | .agg _ l => frzL hp l
  | _ => hp
def frzL (hp : Heap) : List V → Heap
  | [] => hp
  | v :: l => frzL (frz hp v) l
end

mutual
/-- it holds what is to be kept from turning, and is not yet -/
def loose (hp : Heap) : V → Bool
  | .app id _ => match nthB hp id with
    | some (.buf _ _ _ true) => false
    | _ => true
  | .view id _ _ _ _ _ => match nthB hp id with
    | some (.cell _ _ true) => false
    | _ => true
  | .agg _ l => looseL hp l
  | _ => false
def looseL (hp : Heap) : List V → Bool
  | [] => false
  | v :: l => loose hp v || looseL hp l
end

def band (k : IntKind) (x y : Int) : Int := k.wrap (((BitVec.ofInt k.bits x &&& BitVec.ofInt k.bits y).toNat : Nat) : Int)
def bor (k : IntKind) (x y : Int) : Int := k.wrap (((BitVec.ofInt k.bits x ||| BitVec.ofInt k.bits y).toNat : Nat) : Int)
def bxor (k : IntKind) (x y : Int) : Int := k.wrap (((BitVec.ofInt k.bits x ^^^ BitVec.ofInt k.bits y).toNat : Nat) : Int)
def bandNot (k : IntKind) (x y : Int) : Int := k.wrap (((BitVec.ofInt k.bits x &&& ~~~ BitVec.ofInt k.bits y).toNat : Nat) : Int)
def shlI (k : IntKind) (x y : Int) : Int := k.wrap (x * 2 ^ (min y.toNat k.bits))
def shrI (k : IntKind) (x y : Int) : Int := x.fdiv (2 ^ (min y.toNat k.bits))

def beqL {α : Type} (f : α → α → Bool) : List α → List α → Bool
  | [], [] => true
  | a :: r, b :: s => f a b && beqL f r s
  | _, _ => false

def beqD : (t : Ty) → t.den → t.den → Bool
  | .int _, x, y => (x : Int) == (y : Int)
  | .bool, x, y => (x : Bool) == (y : Bool)
  | .str, x, y => (x : List Int) == (y : List Int)
  | .arr _ t, x, y => beqL (beqD t) x y
  | .unit, _, _ => true
  | .pair a b, x, y => beqD a x.1 y.1 && beqD b x.2 y.2
  | _, _, _ => false

/-- what an operation comes to -/
inductive Out where
  | val (c : Prop) (i : Decidable c) (v : V)
  | new (v : V)
  | eff (c : Prop) (i : Decidable c) (v : V) (hp : Heap) (wr : List Nat)
  | call (F : Fn) (a : F.ps.den) (hp : Heap) (wr : List Nat)
  | sh (s : Sh) (L : List Nat)

def okR (v : V) : Option Out := some (.val True instDecidableTrue v)
def ifR (c : Prop) [i : Decidable c] (v : V) : Option Out := some (.val c i v)
def ifE (c : Prop) [i : Decidable c] (v : V) (hp : Heap) (wr : List Nat) : Option Out := some (.eff c i v hp wr)

/-- byte strings in their order -/
def ltB : List Int → List Int → Bool
  | _, [] => false
  | [], _ :: _ => true
  | a :: x, b :: y => decide (a < b) || (a == b && ltB x y)

def strBin (op : BinOp) (x y : List Int) : Option Out :=
  match op with
  | .add => ifR (Nat.ble (x.length + y.length) 9223372036854775807 = true) (.data .str (x ++ y))
  | .eql => okR (.data .bool (beqD .str x y))
  | .neq => okR (.data .bool (!beqD .str x y))
  | .lss => okR (.data .bool (ltB x y))
  | .leq => okR (.data .bool (ltB x y || beqD .str x y))
  | .gtr => okR (.data .bool (!(ltB x y || beqD .str x y)))
  | .geq => okR (.data .bool (!ltB x y))
  | _ => none

def intBin (op : BinOp) (k : IntKind) (x y : Int) : Option Out :=
  match op with
  | .add => okR (.data (.int k) (k.wrap (x + y)))
  | .sub => okR (.data (.int k) (k.wrap (x - y)))
  | .mul => okR (.data (.int k) (k.wrap (x * y)))
  | .quo => ifR (y ≠ 0) (.data (.int k) (k.wrap (x.tdiv y)))
  | .rem => ifR (y ≠ 0) (.data (.int k) (x.tmod y))
  | .and => okR (.data (.int k) (band k x y))
  | .or => okR (.data (.int k) (bor k x y))
  | .xor => okR (.data (.int k) (bxor k x y))
  | .andNot => okR (.data (.int k) (bandNot k x y))
  | .eql => okR (.data .bool (x == y))
  | .neq => okR (.data .bool (x != y))
  | .lss => okR (.data .bool (decide (x < y)))
  | .leq => okR (.data .bool (decide (x ≤ y)))
  | .gtr => okR (.data .bool (decide (x > y)))
  | .geq => okR (.data .bool (decide (x ≥ y)))
  | _ => none

/-- '==' of a pointer and nil -/
def nilBin (op : BinOp) (b : Bool) : Option Out :=
  match op with
  | .eql => okR (.data .bool b)
  | .neq => okR (.data .bool (!b))
  | _ => none

def binV (C : Ctx) (op : BinOp) (xt : Nat) (x y : V) : Option Out :=
  match x, y with
  | .data (.int k) a, .data (.int k') b =>
    match op with
    | .shl => ifR (0 ≤ (b : Int)) (.data (.int k) (shlI k a b))
    | .shr => ifR (0 ≤ (b : Int)) (.data (.int k) (shrI k a b))
    | op => if k = k' then intBin op k a b else none
  | .data .str a, .data .str b => strBin op a b
  | .data t a, .data t' b =>
    match castD t' t b with
    | none => none
    | some b => if look C.ty xt = some t ∧ t.cmp = true ∧ Nat.ble t.dep 10000 = true then match op with
      | .eql => okR (.data .bool (beqD t a b))
      | .neq => okR (.data .bool (!beqD t a b))
      | _ => none
      else none
  | .nilp, .nilp => if (look C.ptr xt).isSome = true then nilBin op true else none
  | .ref _ _ _, .nilp => if (look C.ptr xt).isSome = true then nilBin op false else none
  | .nilp, .ref _ _ _ => if (look C.ptr xt).isSome = true then nilBin op false else none
  | _, _ => none

def Fn.out (F : Fn) (r : F.rs.den) : V := match F.multi with
  | false => .data F.rs r
  | true => .tup (spread F.rs r)

def unV (op : UnOp) (x : V) : Option Out :=
  match op, x with
  | .not, .data .bool b => okR (.data .bool (!b))
  | .neg, .data (.int k) n => okR (.data (.int k) (k.wrap (0 - (n : Int))))
  | .xor, .data (.int k) n => okR (.data (.int k) (bxor k (if k.signed then -1 else k.max) n))
  | _, _ => none

def stepOf : Ty → Nat → Step
  | .arr _ _, i => .idx i
  | _, i => .fld i

/-- can it stand where a value of the type stands? -/
def fits (τ : Ty) : V → Bool
  | .data t _ => decide (t = τ)
  | .agg t _ => decide (t = τ)
  | .nilp => !τ.isAgg
  | .snil => !τ.isAgg
  | .ref _ _ _ => !τ.isAgg
  | .iref _ _ => !τ.isAgg
  | .fn _ _ _ => !τ.isAgg
  | .full _ _ => !τ.isAgg
  | .app _ _ => !τ.isAgg
  | .view _ _ _ _ _ _ => !τ.isAgg
  | .ifc _ _ => !τ.isAgg
  | .map _ => !τ.isAgg
  | _ => false

/-- as data: a slice without room is a slice -/
def dd : V → V
  | .full t l => .data (.sl t) l
  | v => v

/-- a nil where a slice is to be -/
def nilT (u : Ty) : V → V
  | .snil => match u with
    | .sl t => .full t []
    | _ => .snil
  | v => v

/-- a struct or an array out of its parts -/
def buildT (e : Operand → V) (τ : Ty) : List (Nat × Operand) → V → Option V
  | [], c => some c
  | (i, x) :: r, c => match subT τ [stepOf τ i] with
    | some u => if (fits u (nilT u (e x)) && (offT τ [stepOf τ i]).isSome) = true then match setV c [stepOf τ i] (nilT u (e x)) with
        | some c' => buildT e τ r c'
        | none => none
        else none
    | none => none

mutual
/-- the zero value: slices without room -/
def zeroV : Ty → V
  | .sl t => .full t []
  | .opq => .any
  | .pair a b => mkAgg (.pair a b) (zeroV a :: zeroL b)
  | .arr n t => if t.plain then .data (.arr n t) (List.replicate n t.zero) else .agg (.arr n t) (List.replicate n (zeroV t))
  | .unit => .data .unit ()
  | .int k => .data (.int k) (0 : Int)
  | .bool => .data .bool false
  | .str => .data .str ([] : List Int)
def zeroL : Ty → List V
  | .pair a b => zeroV a :: zeroL b
  | _ => []
end

/-- data out of its parts -/
def buildV (e : Operand → V) (τ : Ty) : List (Nat × Operand) → τ.den → Option τ.den
  | [], c => some c
  | (i, x) :: r, c => match offT τ [stepOf τ i], e x with
    | some _, .data σ y => match updP τ c [stepOf τ i] σ y with
      | some c' => buildV e τ r c'
      | none => none
    | some (_, .sl t), .snil => match updP τ c [stepOf τ i] (.sl t) ([] : List t.den) with
      | some c' => buildV e τ r c'
      | none => none
    | _, _ => none

/-- the type at a place of a block -/
def tyAt (b : Option Blk) (ver : Nat) (p : List Step) : Option Ty := match b, p with
  | some (.cell σ _ _), p => subT σ p
  | some (.buf σ _ ver' _), .idx _ :: q => if Nat.beq ver ver' = true then subT σ q else none
  | _, _ => none

/-- what lies at a place of a block -/
def valAt (b : Option Blk) (p : List Step) : V := match b, p with
  | some (.cell _ v _), p => getV v p
  | some (.buf σ l _ _), .idx i :: q => getP σ (l.getD i.toNat σ.zero) q
  | _, _ => .any

def intOf? : V → Option Int
  | .data (.int _) n => some n
  | _ => none

def boundOf (e : Operand → V) (d : Int) : Option Operand → Option Int
  | none => some d
  | some x => intOf? (e x)

/-- a part of a slice: data, or (of three bounds) a slice without room -/
def sliceL (e : Operand → V) (τ : Ty) (l : List τ.den) (lo hi mx : Option Operand) : Option Out :=
  match boundOf e 0 lo, boundOf e l.length hi with
  | some a, some b => match mx with
    | none => ifR (0 ≤ a ∧ a ≤ b ∧ b ≤ (l.length : Int)) (.data (.sl τ) (cutL l a b))
    | some m => match intOf? (e m), hi with
      | some m, some _ => ifR (0 ≤ a ∧ a ≤ b ∧ b ≤ (l.length : Int) ∧ m = b) (.full τ (cutL l a b))
      | _, _ => none
  | _, _ => none

/-- values that hang on no slot -/
def plainV : V → Bool
  | .opt _ _ _ => false
  | _ => true

def callArgs (e : Operand → V) (c : Call) (recv : Option V) (fst cap : List V) : List V :=
  (match recv with | some v => [sane v] | none => []) ++ fst.map sane ++ c.args.toList.map e ++ cap.map sane

/-- what is called, and the arguments -/
def target (C : Ctx) (e : Operand → V) (c : Call) : Option (Nat × List V) :=
  match c.callee with
  | .value f => match e f with
    | .fn f fst cap => some (f, callArgs e c none fst cap)
    | _ => none
  | .invoke r m => match e r with
    | .ifc t v => match C.inv t m with
      | some f => some (f, callArgs e c (some v) [] [])
      | none => none
    | _ => none
  | .builtin _ => none

/-- the operations that change no block -/
def valR (C : Ctx) (g : Option Gd) (fr : List V) (hp : Heap) (op : Op) : Option Out :=
  let r := fun x => un g (ev fr x)
  let e := fun x => dd (un g (ev fr x))
  match op with
  | .move x | .assign x => okR (r x)
  | .pick c a b =>
    match c, e c with
    | .tmp d, .data .bool t =>
      let arm := fun (w : Bool) (x : Operand) => match ev fr x with
        | .opt d' w' (.data .bool y) => if Nat.beq d' d && (w == w') then some y else none
        | .data .bool y => some y
        | _ => none
      match arm true a, arm false b with
      | some y, some z => okR (.data .bool (cond t y z))
      | _, _ => none
    | _, _ => none
  | .load t x =>
    match look C.ty t with
    | none => none
    | some τ => match e x with
      | .ref id ver p => if tyAt (nthB hp id) ver p = some τ then okR (sane (valAt (nthB hp id) p)) else none
      | .iref σ y => if σ = τ then okR (.data σ y) else none
      | _ => none
  | .indexAddr t x i =>
    match look C.ty t, e x, e i with
    | some (.arr len τ), .ref id ver p, .data (.int _) n => if tyAt (nthB hp id) ver p = some (.arr len τ) then ifR (0 ≤ (n : Int) ∧ (n : Int) < (len : Int)) (.ref id ver (p ++ [.idx n])) else none
    | some (.sl τ), .data (.sl τ') l, .data (.int _) n => if τ = τ' then ifR (0 ≤ (n : Int) ∧ (n : Int) < (l.length : Int)) (.iref τ' (l.getD (n : Int).toNat τ'.zero)) else none
    | some (.sl τ), .app id ver, .data (.int _) n => match nthB hp id with
      | some (.buf τ' l ver' z) => if τ = τ' ∧ Nat.beq ver ver' = true then ifR (0 ≤ (n : Int) ∧ (n : Int) < (l.length : Int)) (match z with | true => .iref τ' (l.getD (n : Int).toNat τ'.zero) | false => .ref id ver [.idx n]) else none
      | _ => none
    | some (.sl τ), .view id p τ' _ lo hi, .data (.int _) n => if τ = τ' then ifR (0 ≤ (n : Int) ∧ (n : Int) < hi - lo) (.ref id 0 (p ++ [.idx (lo + n)])) else none
    | some (.arr len' τ), .iref (.arr len τ') l, .data (.int _) n => if τ = τ' ∧ len = len' then ifR (0 ≤ (n : Int) ∧ (n : Int) < (len : Int)) (.iref τ' (l.getD (n : Int).toNat τ'.zero)) else none
    | _, _, _ => none
  | .fieldAddr t x j =>
    match look C.ty t, e x with
    | some τ, .ref id ver p => if tyAt (nthB hp id) ver p = some τ ∧ (subT τ [.fld j]).isSome = true then okR (.ref id ver (p ++ [.fld j])) else none
    | some τ', .iref τ y => if τ = τ' then match proj τ y j with
      | .data τ' z => okR (.iref τ' z)
      | _ => none
      else none
    | _, _ => none
  | .binOp op xt x y _ => binV C op xt (e x) (e y)
  | .unOp op _ x => unV op (e x)
  | .convert s d x => match look C.ty s, look C.ty d, e x with
    | some (.int _), some (.int k), .data (.int _) n => okR (.data (.int k) (k.wrap n))
    | some .str, some .str, .data .str l => okR (.data .str l)
    | some .str, some (.sl (.int .u8)), .data .str l => some (.new (.data (.sl (.int .u8)) l))
    | some (.sl (.int .u8)), some .str, v => match rd hp v with
      | .data (.sl (.int .u8)) l => okR (.data .str l)
      | _ => none
    | _, _, _ => none
  | .index t x i => match look C.ty t, e x, e i with
    | some (.arr len τ), .data (.arr len' τ') l, .data (.int _) n => if τ = τ' ∧ len = len' then ifR (0 ≤ (n : Int) ∧ (n : Int) < (len : Int)) (.data τ' (l.getD (n : Int).toNat τ'.zero)) else none
    | some .str, .data .str l, .data (.int _) n => ifR (0 ≤ (n : Int) ∧ (n : Int) < ((l : List Int).length : Int)) (.data (.int .u8) ((l : List Int).getD (n : Int).toNat 0))
    | _, _, _ => none
  | .field t x j => match look C.ty t, e x with
    | some τ', .data τ y => if τ = τ' then match proj τ y j with
      | .data σ z => okR (.data σ z)
      | _ => none
      else none
    | some τ', .agg τ l => if τ = τ' ∧ (subT τ [.fld j]).isSome = true then okR (sane (nth l j)) else none
    | _, _ => none
  | .build t parts => match look C.ty t with
    | some τ => if τ.isAgg then match buildT r τ parts.toList (zeroV τ) with
      | some y => okR y
      | none => none
      else none
    | none => none
  | .buildSlice t n parts => match look C.ty t with
    | some (.sl τ) => if τ.plain && Nat.ble (n * τ.size) 16777216 && Nat.ble n 16777216 then match buildV (fun x => rd hp (e x)) (.arr n τ) parts.toList (Ty.arr n τ).zero with
      | some y => if parts.toList.any (fun p => loose hp (e p.2)) then none else some (.new (.full τ y))
      | none => none
      else none
    | _ => none
  | .makeFunc fn fst cap => match fn with
    | .func f => if ((fst.toList.map r).all plainV && (cap.toList.map r).all plainV) = true then okR (.fn f (fst.toList.map r) (cap.toList.map r)) else none
    | _ => none
  | .makeInterface t x => match look C.ty t with
    | some τ => if (τ.isAgg && plainV (r x)) = true then okR (.ifc t (r x)) else none
    | none => none
  | .nilCheck x => match e x with
    | .ref id ver p => okR (.ref id ver p)
    | .iref t y => okR (.iref t y)
    | .fn f a b => okR (.fn f a b)
    | .ifc t v => okR (.ifc t v)
    | _ => none
  | .slice t x lo hi mx => match e x with
    | .data (.sl τ') l => match look C.ty t with
      | some (.sl τ) => if τ = τ' then sliceL e τ' l lo hi mx else none
      | _ => none
    | .data .str l => match look C.ty t, mx with
      | some .str, none => match boundOf e 0 lo, boundOf e (l : List Int).length hi with
        | some a, some b => ifR (0 ≤ a ∧ a ≤ b ∧ b ≤ ((l : List Int).length : Int)) (.data .str (cutL (l : List Int) a b))
        | _, _ => none
      | _, _ => none
    | .ref id _ p => match nthB hp id, look C.ty t, mx with
      | some (.cell σ _ _), some (.arr n τ), none => if subT σ p = some (.arr n τ) ∧ Nat.ble n 16777216 = true then match boundOf e 0 lo, boundOf e n hi with
        | some a, some b => ifR (0 ≤ a ∧ a ≤ b ∧ b ≤ (n : Int)) (.view id p τ n a b)
        | _, _ => none
        else none
      | _, _, _ => none
    | .app id ver => match nthB hp id, look C.ty t with
      | some (.buf τ' l ver' true), some (.sl τ) => if τ = τ' ∧ Nat.beq ver ver' = true then sliceL e τ' l lo hi mx else none
      | _, _ => none
    | .iref (.arr n τ) l => match look C.ty t, mx with
      | some (.arr n' τ'), none => if n = n' ∧ τ = τ' ∧ Nat.ble n 16777216 = true then match boundOf e 0 lo, boundOf e n hi with
        | some a, some b => ifR (0 ≤ a ∧ a ≤ b ∧ b ≤ (n : Int)) (.data (.sl τ) (cutL l a b))
        | _, _ => none
        else none
      | _, _ => none
    | _ => none
  | .extract x i => match e x with
    | .tup l => if Nat.blt i l.length = true then okR (sane (nth l i)) else none
    | _ => none
  | .call c => match c.callee with
    | .builtin .len => match c.args.toList.map (fun x => rd hp (e x)), c.argTypes.toList with
      | [.data (.sl τ) l], [t] => if look C.ty t = some (.sl τ) then okR (.data (.int .i64) (l.length : Int)) else none
      | [.data .str l], [t] => if look C.ty t = some .str then okR (.data (.int .i64) ((l : List Int).length : Int)) else none
      | _, _ => none
    | .builtin .max => match c.args.toList.map e with
      | [.data (.int k) x, .data (.int k') y] => if k = k' then okR (.data (.int k) (if (y : Int) > (x : Int) then (y : Int) else (x : Int))) else none
      | _ => none
    | .builtin .min => match c.args.toList.map e with
      | [.data (.int k) x, .data (.int k') y] => if k = k' then okR (.data (.int k) (if (y : Int) < (x : Int) then (y : Int) else (x : Int))) else none
      | _ => none
    | .builtin _ => none
    | _ => match target C r c with
      | some (f, args) => match C.fn f with
        | some F => if (looseL hp args && !F.rs.scalar) = true then none else match getArgs F.ps (rdL hp args) with
          | some a => some (.call F a [] [])
          | none => none
        | none => none
      | none => none
  | _ => none

def untagD (d : Nat) : V → V
  | .opt d' w v => if Nat.beq d' d then .any else .opt d' w v
  | v => v

def setF (fr : List V) (d : Option Nat) (v : V) : List V := match d with
  | none => fr
  | some d => (fr.map (untagD d)).set d v

/-- block id is not in use -/
def free (hp : Heap) (id : Nat) : Bool :=
  match nthB hp id with
  | some _ => false
  | none => true

/-- what is to be added -/
def addend : V → (t : Ty) → Option (List t.den)
  | .data (.sl t') m, t => castD (.sl t') (.sl t) m
  | _, _ => none

/-- so many parts of so many bytes find room -/
def fitB (n b : Nat) : Bool := Nat.ble (n * b) 140737488355328 && Nat.ble n 35184372088832

/-- 'append': what must hold, the slice, the blocks -/
def appendE (C : Ctx) (hp : Heap) (dst : Option Nat) (τ : Ty) (x xs : V) : Option Out :=
  match addend xs τ with
  | none => none
  | some m => match x with
    | .full τ' l => if h : τ' = τ then match dst with
        | some d => if free hp (C.base + d) = true then match C.frz.any (Nat.beq d) with
            | true => ifE (fitB (l.length + m.length) τ.bytes = true) (.app (C.base + d) 0) (setB hp (C.base + d) (.buf τ ((h ▸ l) ++ m) 0 true)) [C.base + d]
            | false => ifE ((fitB (l.length + m.length) τ.bytes && (Nat.beq l.length 0 || Nat.blt 0 m.length)) = true) (.app (C.base + d) 0) (setB hp (C.base + d) (.buf τ ((h ▸ l) ++ m) 0 false)) [C.base + d]
          else none
        | none => none
      else none
    | .app id ver => match nthB hp id with
      | some (.buf τ' l ver' z) => if h : τ' = τ then if Nat.beq ver ver' = true then ifE (fitB (l.length + m.length) τ.bytes = true) (.app id (ver + 1)) (setB hp id (.buf τ ((h ▸ l) ++ m) (ver + 1) z)) [id] else none else none
      | _ => none
    | .view id p τ' n lo hi => match dst, rd hp (.view id p τ' n lo hi) with
      | some d, .data (.sl τ') l => if h : τ' = τ then if free hp (C.base + d) = true then ifE (hi = (n : Int) ∧ (fitB (l.length + m.length) τ.bytes && Nat.blt 0 m.length) = true) (.app (C.base + d) 0) (setB hp (C.base + d) (.buf τ ((h ▸ l) ++ m) 0 false)) [C.base + d] else none else none
      | _, _ => none
    | _ => none

/-- cells copied over others -/
def cpyL {α : Type} (l : List α) (lo hi : Int) (m : List α) : List α :=
  l.take lo.toNat ++ m.take (hi.toNat - lo.toNat) ++ l.drop (lo.toNat + min m.length (hi.toNat - lo.toNat))

def copyE (hp : Heap) (τ : Ty) (x xs : V) : Option Out :=
  match x, addend xs τ with
  | .view id p τ' n lo hi, some m => match nthB hp id with
    | some (.cell σ v false) => match getV v p with
      | .data (.arr n' τ') l => if h : τ' = τ then if n' = n ∧ τ.size = 1 then match setV v p (.data (.arr n' τ') (cpyL l lo hi (h ▸ m))) with
          | some v' => ifE True (.data (.int .i64) (min m.length (hi.toNat - lo.toNat) : Nat)) (setB hp id (.cell σ v' false)) [id]
          | none => none
        else none else none
      | _ => none
    | _ => none
  | _, _ => none

/-- the place of a key, and what is there -/
def findM {κ ν : Type} (eq : κ → κ → Bool) (k : κ) : List (κ × ν) → Option ν
  | [] => none
  | (a, b) :: r => if eq k a = true then some b else findM eq k r

def putM {κ ν : Type} (eq : κ → κ → Bool) (k : κ) (v : ν) : List (κ × ν) → List (κ × ν)
  | [] => [(k, v)]
  | (a, b) :: r => if eq k a = true then (k, v) :: r else (a, b) :: putM eq k v r

mutual
/-- the blocks that a value names -/
def V.ids : V → List Nat
  | .ref i _ _ => [i]
  | .app i _ => [i]
  | .view i _ _ _ _ _ => [i]
  | .map i => [i]
  | .tup l => V.idsL l
  | .opt _ _ v => V.ids v
  | .fn _ a b => V.idsL a ++ V.idsL b
  | .agg _ l => V.idsL l
  | .ifc _ v => V.ids v
  | _ => []
def V.idsL : List V → List Nat
  | [] => []
  | v :: l => V.ids v ++ V.idsL l
end

def blkIds : Option Blk → List Nat
  | some (.cell _ v _) => V.ids v
  | _ => []

def addN (l : List Nat) : List Nat → List Nat
  | [] => l
  | i :: r => match mem l i with
    | true => addN l r
    | false => addN (l ++ [i]) r

/-- all that is reached from there -/
def closeN (hp : Heap) : Nat → List Nat → List Nat
  | 0, l => l
  | k + 1, l => closeN hp k (addN l (l.flatMap fun i => blkIds (nthB hp i)))

def reach (hp : Heap) (l : List V) : List Nat := closeN hp 6 (addN [] (V.idsL l))

/-- the place of a number in a list -/
def idxOf (l : List Nat) (i : Nat) : Option Nat :=
  match l with
  | [] => none
  | j :: r => if Nat.beq i j = true then some 0 else match idxOf r i with
    | some k => some (k + 1)
    | none => none

/-- the version that counts is number 0 from now on -/
def ver0 (hp : Heap) (i ver : Nat) : Option Nat := match nthB hp i with
  | some (.buf _ _ cur _) => if Nat.beq ver cur = true then some 0 else none
  | some _ => some ver
  | none => none

/-- into a callee's own numbers, and back -/
def inn (hp : Heap) (L : List Nat) (i ver : Nat) : Option (Nat × Nat) := match idxOf L i, ver0 hp i ver with
  | some k, some u => some (k, u)
  | _, _ => none
/-- the version under which a block goes on behind a call -/
def verUp (hp : Heap) (i ver : Nat) : Nat := match nthB hp i with
  | some (.buf _ _ cur _) => ver + cur + 1
  | _ => ver
def outw (hp : Heap) (L : List Nat) (s : Nat) (i ver : Nat) : Option (Nat × Nat) :=
  match Nat.blt i L.length with
  | true => some (L.getD i 0, verUp hp (L.getD i 0) ver)
  | false => some (s + (i - L.length), ver)
def outB (hp : Heap) (L : List Nat) (s k : Nat) : Blk → Blk
  | .buf t l ver z => match Nat.blt k L.length with
    | true => .buf t l (verUp hp (L.getD k 0) ver) z
    | false => .buf t l ver z
  | b => renB (outw hp L s) b

def ver0B : Blk → Blk
  | .buf t l _ z => .buf t l 0 z
  | b => b

/-- a callee's blocks -/
def innH (hp : Heap) (L : List Nat) : Nat → List Nat → Heap
  | _, [] => []
  | k, i :: r => match nthB hp i with
    | some b => (k, ver0B (renB (inn hp L) b)) :: innH hp L (k + 1) r
    | none => innH hp L (k + 1) r

def freeAll (hp : Heap) : List Nat → Bool
  | [] => true
  | i :: r => free hp i && freeAll hp r

/-- the blocks behind a call: what the callee was handed, and what it has made -/
def outH (hp : Heap) (L : List Nat) (s : Nat) (h : Heap) : Heap := h.map fun x => ((match outw hp L s x.1 0 with | some (i, _) => i | none => 0), outB hp L s x.1 x.2)

def setAll : Heap → Heap → Heap
  | [], hp => hp
  | (i, b) :: r, hp => setAll r (setB hp i b)

/-- a call that changes blocks -/
def shCall (C : Ctx) (hp : Heap) (dst : Option Nat) (h : List V → Heap → Option Sh) (args : List V) : Option Out :=
  let L := reach hp args
  let s := C.base + (match dst with | some d => (match look C.site d with | some s => s | none => 0) | none => 0)
  match h (renL (inn hp L) args) (innH hp L 0 L) with
  | some sh => some (.sh ⟨sh.Y, sh.o, fun y => (ren (outw hp L s) (sh.f y).1, outH hp L s (sh.f y).2)⟩ L)
  | none => none

/-- the operations that make or change blocks -/
def effR (C : Ctx) (g : Option Gd) (fr : List V) (hp : Heap) (dst : Option Nat) (op : Op) : Option Out :=
  let r := fun x => un g (ev fr x)
  let e := fun x => dd (un g (ev fr x))
  match op with
  | .alloc t =>
    match look C.ty t, dst with
    | some τ, some d => if free hp (C.base + d) = true then ifE True (.ref (C.base + d) 0 []) (setB hp (C.base + d) (.cell τ (zeroV τ) false)) [C.base + d] else none
    | _, _ => none
  | .box t x =>
    match look C.ty t, dst with
    | some τ, some d => if free hp (C.base + d) && fits τ (r x) then ifE True (.ref (C.base + d) 0 []) (setB hp (C.base + d) (.cell τ (r x) false)) [C.base + d] else none
    | _, _ => none
  | .store t x y =>
    match look C.ty t, e x with
    | some τ, .ref id ver p => match nthB hp id with
      | some (.cell σ v false) =>
        if (fits τ (nilT τ (r y)) && decide (subT σ p = some τ)) = true then match setV v p (nilT τ (r y)) with
          | some v' => ifE True .any (setB hp id (.cell σ v' false)) [id]
          | none => none
        else none
      | some (.buf _ _ _ _) => match nthB (frz hp (e y)) id with
        | some (.buf σ l ver' false) => if Nat.beq ver ver' = true then match p, rd hp (e y) with
          | .idx i :: q, .data τ' z => if τ' = τ then match updP σ (l.getD i.toNat σ.zero) q τ' z with
            | some z' => ifE True .any (setB (frz hp (e y)) id (.buf σ (l.set i.toNat z') ver' false)) (id :: V.ids (e y))
            | none => none
            else none
          | _, _ => none
          else none
        | _ => none
      | _ => none
    | _, _ => none
  | .buildSlice t n parts => match look C.ty t with
    | some (.sl τ) => if τ.plain && Nat.ble (n * τ.size) 16777216 && Nat.ble n 16777216 then match buildV (fun x => rd hp (e x)) (.arr n τ) parts.toList (Ty.arr n τ).zero with
      | some y => ifE True (.full τ y) (frzL hp (parts.toList.map fun p => e p.2)) (V.idsL (parts.toList.map fun p => e p.2))
      | none => none
      else none
    | _ => none
  | .makeSlice t len cap => match look C.ty t, dst, e len, e cap with
    | some (.sl τ), some d, .data (.int k) n, .data (.int k') m => if free hp (C.base + d) && τ.plain && decide (k = .i64) && decide (k' = .i64) then
        ifE (0 ≤ (n : Int) ∧ (m : Int) = (n : Int) ∧ fitB (n : Int).toNat τ.bytes = true) (.app (C.base + d) 0) (setB hp (C.base + d) (.buf τ (List.replicate (n : Int).toNat τ.zero) 0 false)) [C.base + d]
      else none
    | _, _, _, _ => none
  | .slice t x lo hi mx => match e x, look C.ty t with
    | .app id ver, some (.sl τ) => match nthB hp id with
      | some (.buf τ' l ver' _) => if τ = τ' ∧ Nat.beq ver ver' = true then match sliceL e τ' l lo hi mx with
        | some (.val c i v) => some (.eff c i v (frz hp (.app id ver)) [id])
        | _ => none
        else none
      | _ => none
    | _, _ => none
  | .call c => match c.callee with
    | .builtin .append => match c.args.toList, c.argTypes.toList with
      | [x, xs], [t, t'] => if t = t' then match look C.ty t with
        | some (.sl τ) => appendE C hp dst τ (nilT (.sl τ) (r x)) (rd hp (nilT (.sl τ) (e xs)))
        | _ => none
        else none
      | _, _ => none
    | .builtin .copy => match c.args.toList, c.argTypes.toList with
      | [x, xs], [t, _] => match look C.ty t with
        | some (.sl τ) => copyE hp τ (r x) (rd hp (nilT (.sl τ) (e xs)))
        | _ => none
      | _, _ => none
    | .builtin _ => none
    | _ => match target C r c with
      | some (f, args) => match C.fn f with
        | some F => match getArgs F.ps (rdL hp args) with
          | some a => some (.call F a (frzL hp args) (V.idsL args))
          | none => none
        | none => match C.sh f with
          | some h => shCall C hp dst h args
          | none => none
      | none => none
  | _ => none

def runF (g : Option Gd) (F : Fn) (a : F.ps.den) : Option F.rs.den := match g with
  | none => F.run a
  | some g => if g.b then F.run a else some F.rs.zero

/-- the blocks that an operation looks at -/
def foot (S : St) (o : Oper) : List Nat :=
  let vs := o.op.operands.toList.map (ev S.fr)
  match o.op with
  | .call c => match c.callee with
    | .builtin _ => V.idsL vs
    | _ => reach S.hp vs
  | _ => V.idsL vs

/-- the blocks of a list that are not among others -/
def newOf (L : List Nat) (d : Heap) : List Nat := (d.map (·.1)).filter fun i => !mem L i

/-- is it carried out? -/
def doIt : Option Gd → Option Bool
  | none => some true
  | some g => match g.sure with
    | true => some g.b
    | false => none

/-- one operation: what stands behind it gets the numbers of the blocks that have turned, and the state -/
def T {α : Type} (C : Ctx) (g : Option Gd) (o : Oper) (S : St) (K : List Nat → St → Option α) : Option α :=
  match valR C g S.fr S.hp o.op with
  | some (.val c i v) => chk g c i (K [] ⟨setF S.fr o.dst (tag g (saneT C o.type v)), S.hp⟩)
  | some (.call F a _ _) => (runF g F a).bind fun r => K [] ⟨setF S.fr o.dst (tag g (saneT C o.type (F.out r))), S.hp⟩
  | some (.new v) => K [] ⟨setF S.fr o.dst (tag g (saneT C o.type v)), S.hp⟩
  | some _ => none
  | none =>
    match doIt g with
    | none => none
    | some false => K [] ⟨setF S.fr o.dst (tag g .any), S.hp⟩
    | some true => match effR C g S.fr S.hp o.dst o.op with
      | some (.eff c i v hp wr) => chk none c i (K wr ⟨setF S.fr o.dst (tag g (saneT C o.type v)), hp⟩)
      | some (.call F a hp wr) => (F.run a).bind fun r => K wr ⟨setF S.fr o.dst (tag g (saneT C o.type (F.out r))), hp⟩
      | some (.sh s L) => s.o.bind fun y => match freeAll S.hp (newOf L (s.f y).2) with
        | true => K (L ++ (s.f y).2.map (·.1)) ⟨setF S.fr o.dst (tag g (saneT C o.type (s.f y).1)), setAll (s.f y).2 S.hp⟩
        | false => none
      | _ => none

def guardOf (ops : Array Oper) (fr : List V) (o : Oper) : Option (Option Gd) :=
  match o.guard with
  | none => some none
  | some (j, w) => match (ops[j]?).bind (·.dst) with
    | none => none
    | some d => if o.dst = some d then none else match nth fr d with
      | .data .bool b => some (some ⟨d, w, (b == w), true⟩)
      | .opt _ _ (.data .bool b) => some (some ⟨d, w, (b == w), false⟩)
      | _ => none

def runL {α : Type} (C : Ctx) (ops : Array Oper) : List Oper → St → (St → Option α) → Option α
  | [], S, K => K S
  | o :: r, S, K =>
    match guardOf ops S.fr o with
    | none => none
    | some g => T C g o S (fun _ S' => runL C ops r S' K)

/-- what an operation has looked at, and what it has turned -/
structure Rec where
  rd : List Nat
  wr : List Nat

def apartL (a b : List Nat) : Bool := !(a.any (mem b))
def apartR (x y : Rec) : Bool := apartL x.wr y.rd && apartL x.wr y.wr && apartL y.wr x.rd

/-- the operations that an operation waits for, bit by bit -/
def maskOf (acc : List Nat) (es : List Edge) : Nat :=
  es.foldl (fun m e => if Region.binds .any e then m ||| 2 ^ e.on ||| acc.getD e.on 0 else m) 0
def masks : List Oper → List Nat → List Nat
  | [], acc => acc
  | o :: r, acc => masks r (acc ++ [maskOf acc o.after.toList])

/-- operation i and those ahead of it -/
def recOk (m : Nat) (x : Rec) : Nat → List Rec → Bool
  | _, [] => true
  | j, y :: r => (m.testBit j || apartR y x) && recOk m x (j + 1) r

/-- where the order is open: any two in no order must not touch the same -/
def runD {α : Type} (C : Ctx) (ops : Array Oper) (ms : List Nat) : List Oper → List Rec → St → (St → Option α) → Option α
  | [], _, S, K => K S
  | o :: r, acc, S, K =>
    match guardOf ops S.fr o with
    | none => none
    | some g => T C g o S (fun wr S' => match recOk (ms.getD acc.length 0) ⟨foot S o, wr⟩ 0 acc with
      | true => runD C ops ms r (acc ++ [⟨foot S o, wr⟩]) S' K
      | false => none)

inductive Ex where
  | normal | exit (id : Nat) | ret

def keepF (l : List Nat) : Nat → List V → List V
  | _, [] => []
  | i, v :: r => (if mem l i then sane v else .any) :: keepF l (i + 1) r

/-- a part of a value is put right -/
def modV (f : V → V) : List Nat → V → Option V
  | [], v => some (f v)
  | j :: p, .agg t l => if Nat.blt j l.length = true then match modV f p (nth l j), subT t [.fld j] with
    | some z, some u => if fits u z = true then some (mkAgg t (l.set j z)) else none
    | _, _ => none
    else none
  | _ :: _, _ => none

def partV : List Nat → V → V
  | [], v => v
  | j :: p, .agg _ l => partV p (nth l j)
  | _ :: _, _ => .any

/-- what reads as data, as data -/
def rdD (hp : Heap) (v : V) : V := match rd hp v with
  | .data t x => .data t x
  | _ => .any

def slotOf (C : Ctx) (i : Nat) (slot : Bool) (S : St) : Option V := match slot with
  | true => some (sane (nth S.fr i))
  | false => match nthB S.hp (C.base + i) with
    | some (.cell _ v _) => some v
    | _ => none

def setSlot (C : Ctx) (i : Nat) (slot : Bool) (S : St) (v : V) : Option St := match slot with
  | true => some ⟨S.fr.set i v, S.hp⟩
  | false => match nthB S.hp (C.base + i) with
    | some (.cell t _ z) => if fits t v = true then some ⟨S.fr, setB S.hp (C.base + i) (.cell t v z)⟩ else none
    | _ => none

def norm1 (C : Ctx) (S : St) : Norm → Option St
  | .dat slot i p => match slotOf C i slot S with
    | some v => match modV (rdD S.hp) p v with
      | some v' => setSlot C i slot ⟨S.fr, frz S.hp (partV p v)⟩ v'
      | none => none
    | none => none
  | .melt slot i p id z => match slotOf C i slot S with
    | some v => match partV p v with
      | .full t l => if (free S.hp (C.base + id) && (z || l.isEmpty)) = true then match modV (fun _ => .app (C.base + id) 0) p v with
        | some v' => setSlot C i slot ⟨S.fr, setB S.hp (C.base + id) (.buf t l 0 z)⟩ v'
        | none => none
        else none
      | .app _ _ => some S
      | _ => none
    | none => none

def norms (C : Ctx) : List Norm → St → Option St
  | [], S => some S
  | n :: l, S => match norm1 C S n with
    | some S' => norms C l S'
    | none => none

/-- what is kept under which name: blocks of one's own that nothing names are let go; versions begin anew -/
def keepN (C : Ctx) (R : List Nat) (hp : Heap) (i ver : Nat) : Option (Nat × Nat) :=
  match Nat.blt i C.base || mem R i with
  | true => match ver0 hp i ver with
    | some u => some (i, u)
    | none => none
  | false => none

/-- the frame and the blocks, of the blocks those of a list -/
def tidyR (C : Ctx) (fr : List V) (hp : Heap) (R : List Nat) : St :=
  ⟨renL (keepN C R hp) fr, (hp.filter fun x => Nat.blt x.1 C.base || mem R x.1).map fun x => (x.1, ver0B (renB (keepN C R hp) x.2))⟩

/-- what is dead at a place is let go; 'live': by 3 * region, 3 * block + 1, 2 where the function returns -/
def tidy (C : Ctx) (l : List Nat) (S : St) : St :=
  tidyR C (keepF l 0 S.fr) S.hp (closeN S.hp 6 (addN [] (V.idsL (keepF l 0 S.fr) ++ (S.hp.flatMap fun x => match Nat.blt x.1 C.base with | true => blkIds (some x.2) | false => []))))

abbrev clean {α : Type} (C : Ctx) (key : Nat) (S : St) (K : St → Option α) : Option α := match look C.live key with
  | none => K S
  | some l => match look C.norm key with
    | none => K (tidy C l S)
    | some ns => match norms C ns S with
      | some S' => K (tidy C l S')
      | none => none

/-- the first region's number and one -/
def joinK : Code → Nat
  | .region id _ _ => id + 1
  | .seq a b => match joinK a with
    | 0 => joinK b
    | n + 1 => n + 1
  | .cond _ a b => match joinK a with
    | 0 => joinK b
    | n + 1 => n + 1
  | .block _ c => joinK c
  | .loop c => joinK c
  | .scope c => joinK c
  | _ => 0

/-- the key of the first region; of a question; 5: none -/
def headK : Code → Nat
  | .region id _ _ => 3 * id
  | .seq a b => match a with
    | .label _ => headK b
    | .skip => headK b
    | _ => headK a
  | .block _ c => headK c
  | .loop c => headK c
  | .scope c => headK c
  | .cond c x y => 3 * joinK (.cond c x y) + 5
  | _ => 5

def iter {α : Type} (F : (St → Option α) → St → Option α) : Nat → St → Option α
  | 0, _ => none
  | k + 1, S => F (iter F k) S

abbrev seqQ {α : Type} (n : St → Option α) (Q : Ex → St → Option α) : Ex → St → Option α
  | .normal, S => n S
  | e, S => Q e S
abbrev blkQ {α : Type} (C : Ctx) (id : Nat) (Q : Ex → St → Option α) : Ex → St → Option α
  | .exit i, S => if Nat.beq i id = true then Q .normal S else Q (.exit i) S
  | .normal, S => clean C (3 * id + 1) S (Q .normal)
  | e, S => Q e S

def strip : V → V
  | .opt _ _ _ => .any
  | v => v

/-- where the order is open, nothing hangs on what stood ahead -/
def strips (S : St) : St := ⟨S.fr.map strip, S.hp⟩

def den {α : Type} (C : Ctx) (k : Nat) : Code → (Ex → St → Option α) → St → Option α
  | .skip, Q, S => Q .normal S
  | .label _, Q, S => Q .normal S
  | .region _ ops draw, Q, S => match draw with
    | false => runL C ops ops.toList S (Q .normal)
    | true => runD C ops (masks ops.toList []) ops.toList [] (strips S) (Q .normal)
  | .seq a b, Q, S => den C k a (seqQ (fun S => clean C (headK b) S (den C k b Q)) Q) S
  | .cond c x y, Q, S => match ev S.fr c with
    | .data .bool t => if (t : Bool) = true then den C k x Q S else den C k y Q S
    | _ => none
  | .block id c, Q, S => den C k c (blkQ C id Q) S
  | .loop c, Q, S => clean C (headK c) S (iter (fun next => den C k c (seqQ (fun S => clean C (headK c) S next) Q)) k)
  | .scope c, Q, S => den C k c Q S
  | .exit id, Q, S => clean C (3 * id + 1) S (Q (.exit id))
  | .ret, Q, S => clean C 2 S (Q .ret)
  | _, _, _ => none

/-- what a function hands back -/
def resV (C : Ctx) (S : St) : ResultVar → Option V
  | .tmp t => some (sane (nth S.fr t))
  | .cell a t => match look C.ty t, nth S.fr a with
    | some τ, .ref id _ [] => match nthB S.hp id with
      | some (.cell σ c _) => if σ = τ then some (sane c) else none
      | _ => none
    | _, _ => none

def resL (C : Ctx) (S : St) : List ResultVar → Option (List V)
  | [] => some []
  | r :: l => match resV C S r, resL C S l with
    | some v, some vs => some (v :: vs)
    | _, _ => none

/-- the value of a call -/
def resT (C : Ctx) (S : St) (rv : List ResultVar) : Option V := match resL C S rv with
  | some [v] => some v
  | some l => some (.tup l)
  | none => none

/-- the end of a function: its results as data -/
def fin (C : Ctx) (rv : List ResultVar) (t : Ty) (multi : Bool) : Ex → St → Option t.den
  | .exit _, _ => none
  | _, S => match multi, resL C S rv with
    | false, some [v] => match rd S.hp v with
      | .data t' x => castD t' t x
      | _ => none
    | true, some l => if Nat.beq l.length 1 = true then none else getArgs t (rdL S.hp l)
    | _, _ => none

/-- the end of a function that changes blocks: its results and the blocks, told by what 'X' reads off them -/
def finS {Y : Type} (C : Ctx) (rv : List ResultVar) (X : V → Heap → Option Y) : Ex → St → Option Y
  | .exit _, _ => none
  | _, S => match resT C S rv with
    | some v => X v S.hp
    | none => none

/-- a function's first state -/
def startS (args : List V) (hp : Heap) (n : Nat) : St := ⟨args ++ List.replicate (n - args.length) .any, hp⟩
def start (F : Fn) (n : Nat) (x : F.ps.den) : St := startS (spread F.ps x) [] n

end Go.Bx
